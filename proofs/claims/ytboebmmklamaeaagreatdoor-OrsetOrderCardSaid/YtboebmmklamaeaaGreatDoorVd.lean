/-
  The canonical machine, part N: a region that draws its order.
-/
import Derived.Test.YtboebmmklamaeaaGreatDoorVc
import Derived.ProofKit
set_option linter.unusedVariables false
set_option linter.unusedSimpArgs false
set_option linter.unnecessarySimpa false
namespace Go.cn
open Go
section
variable {P:Program} {G:Nat->ae}
theorem wB {ops:Array Oper} {t i:Nat} (h:i1 ops t=some i) :∃ o,ops[i]? = some o/\o.dst=some t:=by
 unfold i1 at h;have:=List.find?_some h;cases ay:ops[i]? with
 | none=>simp[ay] at this
 | some o=>exact⟨o,rfl,by simpa [ay] using this⟩
def rp (ops:Array Oper) (val ah:Nat->ae) (c9:Array Bool) :Nat->ae:=fun t=>
 match i1 ops t with
 | some i=>if c9.getD i false then val i else ah t
 | none=>ah t
theorem agi {ops:Array Oper} {pre:Nat->Nat->Bool} (gS:rA ops pre) {c9:Array Bool}
  (down:∀ (i:Nat) (o:Oper) (e:Edge),ops[i]? = some o->c9.getD i false=true->e∈o.after->Region.binds .any e=true->c9.getD e.on false=true)
  (eA:∀ i,c9.getD i false=true->∃ o,ops[i]? = some o) :∀ (i:Nat),c9.getD i false=true->∀ j,pre i j=true->c9.getD j false=true:=by
 intro i
 induction i using Nat.strongRecOn with
 | _ i aL=>
  intro aA j am;obtain⟨o,ay⟩:=eA i aA;obtain⟨e,aw,ai,l0⟩:=gS.chain i o j ay am;have du:=down i o e ay aA aw ai;rcases l0 with rfl | l0
  ·exact du
  ·exact aL e.on (gS.zD i o e ay aw ai) du j l0
theorem vj (c9:Array Bool) (i j:Nat) (aA:i<c9.size) :(c9.setIfInBounds i true).getD j false=if j=i then true else c9.getD j false:=by
 rw[Array.getD_eq_getD_getElem?,Array.getElem?_setIfInBounds];by_cases h:i=j
 ·subst h; simp[aA]
 ·rw[if_neg h,if_neg (Ne.symm h),Array.getD_eq_getD_getElem?]
theorem EA {ops:Array Oper} {pre:Nat->Nat->Bool} (gS:rA ops pre) {val ah:Nat->ae} {c9:Array Bool} {i:Nat} {o:Oper} (ay:ops[i]? = some o) (aA:i<c9.size) :
  rp ops val ah (c9.setIfInBounds i true)=gR (rp ops val ah c9) o.dst (val i) :=by
 funext t;unfold rp gR;cases bN:o.dst with
 | none=>
  simp only;cases bB:i1 ops t with
  | none=>rfl
  | some j=>
   have bY:j≠i:=fun aN=>by
    obtain⟨c0,dX,ow⟩:=wB bB;rw[aN,ay] at dX; cases dX;rw[bN] at ow; cases ow
   simp only[vj _ _ _ aA,if_neg bY]
 | some d=>
  simp only;by_cases aU:t=d
  ·subst aU;rw[gS.one i o t ay bN];simp[vj _ _ _ aA]
  ·rw[cg _ _ _ _ aU];cases bB:i1 ops t with
   | none=>rfl
   | some j=>
    have bY:j≠i:=fun aN=>by
     obtain⟨c0,dX,ow⟩:=wB bB;rw[aN,ay] at dX; cases dX;rw[bN] at ow; cases ow;exact aU rfl
    simp only[vj _ _ _ aA,if_neg bY]
structure Inv (P:Program) (ops:Array Oper) (val ah:Nat->ae) (W:Nat->Bool) (cls:Nat->BI) (m:Nat) (ar:Nat->Nat) (fp:Nat->aQ) (gb:Nat->Nat) (N:Nat)
  (R:Nat->Prop) (B:Nat) (mU:World) (h:aQ) (p8:cJ) (c9:Array Bool) (k:Nat) (a:Act) (w:World) (μ:cJ) :Prop where
 size:c9.size=ops.size
 down:∀ (i:Nat) (o:Oper) (e:Edge),ops[i]? = some o->c9.getD i false=true->e∈o.after->Region.binds .any e=true->c9.getD e.on false=true
 AR:k<=m
 done:∀ q,q<m->(c9.getD (ar q) false=true<->q<k)
 ext:Ext0 mU h p8 w (fp k) μ
 o2:∀ b,b<h.n->p8 b=none->μ b=none
 rel:cc R B w (fp k) μ
 uJ:lM N w R (fp k) μ (rp ops val ah c9) a
 A7:∀ (i:Nat) (o:Oper),ops[i]? = some o->W i=true->cls i=.new->c9.getD i false=false->μ (gb i)=none
theorem alO {ops:Array Oper} {c9:Array Bool} (g4:c9.size=ops.size) (i:Nat) (aA:c9.getD i false=true) :∃ o,ops[i]? = some o:=by
 have:i<ops.size:=by
  rcases Nat.lt_or_ge i c9.size with h1 | h1
  ·omega
  ·simp[Array.getD_eq_getD_getElem?,Array.getElem?_eq_none h1] at aA
 exact⟨ops[i],by simp[this]⟩
theorem aei {ops:Array Oper} {pre:Nat->Nat->Bool} (gS:rA ops pre) {c9:Array Bool} (g4:c9.size=ops.size) (aC:Region.ready .any ops c9=[]) :∀ i,i<ops.size->c9.getD i false=true:=by
 intro i
 induction i using Nat.strongRecOn with
 | _ i aL=>
  intro aA;cases au:c9.getD i false with
  | true=>rfl
  | false=>
   exfalso;have jZ:i∈Region.ready .any ops c9:=by
    refine mem_ready.2 ⟨?_,ops[i],by simp[aA],fun e aw ai=>aL e.on (gS.zD i ops[i] e (by simp[aA]) aw ai) (by
     have:=gS.zD i ops[i] e (by simp[aA]) aw ai;omega)⟩
    have aP:i<c9.size:=by omega
    simpa [Array.getD_eq_getD_getElem?,aP] using au
   rw[aC] at jZ;cases jZ
theorem agl (kX:P.follows .mixedOrders=true) (jS:∀ g,(G g).closed=true) :Ph P G:=by
 intro id ops N ah h b7 h' pre val W cls m ar fp qd gb cells gS ox aT hm DE vC Aa kn eV ua Dx Dp l5 CW CX oy ln;refine⟨0,fun R B mU p8 a0 Q sV cC s0 lA=>wp_region_any kX ?_⟩;obtain⟨hc,oU⟩:=Bm sV ⟨(RowKit.Below.refl mU.heap.size mU).drew,Nat.le_succ _⟩;obtain⟨aZ,rm⟩:=aT.rel oU;have Tn:=hc.trans aZ
 -- the end
 have fin:∀ (c9:Array Bool) (k:Nat) (a:Act) (w:World) (μ:cJ),Inv P ops val ah W cls m ar fp gb N R B mU h p8 c9 k a w μ->(∀ i,i<ops.size->c9.getD i false=true)->Q .normal a w:=by
  intro c9 k a w μ inv eG;have hk:k=m:=by
   rcases Nat.lt_or_ge k m with aP | xA
   ·obtain⟨o,ay,_⟩:=Aa k aP;have au:=eG (ar k) ((Array.getElem?_eq_some_iff.1 ay).1);have:=(inv.done k aP).1 au;omega
   ·have:=inv.AR; omega
  subst hk;have aj4:rp ops val ah c9=b7:=by
   rw[DE];funext t;unfold rp;cases bB:i1 ops t with
   | none=>rfl
   | some i=>
    obtain⟨o,ay,_⟩:=wB bB;simp only[eG i ((Array.getElem?_eq_some_iff.1 ay).1),if_true]
  subst hm;have eT:=inv.uJ;rw[aj4] at eT;exact lA a w μ ⟨inv.ext,inv.o2⟩ inv.rel eT
 have key:∀ (fuel:Nat) (c9:Array Bool) (k:Nat) (a:Act) (w:World) (μ:cJ),Inv P ops val ah W cls m ar fp gb N R B mU h p8 c9 k a w μ->c9.toList.count false=fuel->wpAny P .any ops Q fuel c9 a w:=by
  intro fuel
  induction fuel with
  | zero=>
   intro c9 k a w μ inv US;have eG:∀ i,i<ops.size->c9.getD i false=true:=by
    intro i aA;have aP:i<c9.size:=by rw[inv.size]; exact aA
    cases au:c9[i] with
    | true=>simp[Array.getD_eq_getD_getElem?,aP,au]
    | false=>
     exfalso;have jZ:false∈c9.toList:=by rw[<-au]; simp
     have:=List.count_pos_iff.2 jZ;omega
   refine⟨?_,fin c9 k a w μ inv eG⟩;cases aC:Region.ready .any ops c9 with
   | nil=>rfl
   | cons i l=>
    exfalso;have jZ:i∈Region.ready .any ops c9:=by rw[aC]; simp
    obtain⟨h1,o,ay,_⟩:=mem_ready.1 jZ;have aA:=(Array.getElem?_eq_some_iff.1 ay).1;have ag:=eG i aA;have aP:i<c9.size:=by rw[inv.size]; exact aA
    simp[Array.getD_eq_getD_getElem?,aP] at h1 ag;rw[h1] at ag; cases ag
  | succ fuel aL=>
   intro c9 k a w μ inv US;refine⟨fun aC=>fin c9 k a w μ inv (aei gS inv.size aC),fun i aA=>?_⟩;obtain⟨h1,o,ay,UY⟩:=mem_ready.1 aA;have aP:i<c9.size:=by rw[inv.size]; exact (Array.getElem?_eq_some_iff.1 ay).1
   have l6:c9.getD i false=false:=by simpa [Array.getD_eq_getD_getElem?,aP] using h1
   have r4:=agi gS inv.down (alO inv.size)
   -- what comes before i is done
   have JZ:∀ j,pre i j=true->c9.getD j false=true:=by
    intro j am;obtain⟨e,aw,ai,l0⟩:=gS.chain i o j ay am;have du:=UY e aw ai;rcases l0 with rfl | l0
    ·exact du
    ·exact r4 e.on du j l0
   have VO:∀ j,c9.getD j false=true->pre j i=true->False:=fun j am aE=>by
    have:=r4 j am i aE;rw[l6] at this; cases this
   have U1:w5 pre m ar i k:=⟨inv.AR,fun q bp aE=>(inv.done q bp).1 (JZ _ aE),fun q bp aE=>by
    rcases Nat.lt_or_ge q k with h7 | xA
    ·exact (VO _ ((inv.done q bp).2 h7) aE).elim
    ·exact xA⟩
   -- what i sees
   have U0:∀ t,aR w R (fp k) μ (lT ops pre val ah i o t) (a.tmps.getD t undef) :=by
    intro t;unfold lT;split
    ·rename_i aU;have DA:t∈o.looksAt ops:=by simpa using aU
     have ax:=inv.uJ.val t;unfold rp at ax;cases bB:i1 ops t with
     | none=>rw[bB] at ax; exact ax
     | some j=>
      rw[bB] at ax;simp only at ax ⊢;by_cases aE:pre i j=true
      ·rw[if_pos aE];rw[if_pos (JZ j aE)] at ax;exact ax
      ·rw[if_neg aE];have ajt:c9.getD j false=false:=by
        rcases gS.acc i o t j ay DA bB with aN | aN | rfl
        ·exact absurd aN aE
        ·cases tU:c9.getD j false with
         | false=>rfl
         | true=>exact (VO j tU aN).elim
        ·exact l6
       rw[ajt] at ax;exact ax
    ·exact .bad _
   have U5:rC G w R (fp k) μ:=fun g=>⟨jS g,(cC g).2.lU inv.ext⟩
   have c4:∀ x,aR w R (fp k) μ (cY G (lT ops pre val ah i o) x) (a.eval x) :=by
    intro x;cases x with
    | tmp t=>exact U0 t
    | const v=>exact aR.ut v
    | global g=>exact (U5 g).2
    | func f=>exact .fn f [] [] #[] #[] rfl rfl (fun _ _ _ aN=>by simp at aN) (fun _ _ _ aN=>by simp at aN)
   have V8:=O7 (w:=w) (R:=R) (h:=fp k) (μ:=μ) (tmps:=a.tmps) (ua i o ay) (fun d _=>U0 d);have C1:(c9.setIfInBounds i true).toList.count false=fuel:=by
    have ai:c9.toList[i]'(by simpa using aP)=false:=by
     have:c9[i]=false:=by simpa [Array.getD_eq_getD_getElem?,aP] using h1
     simpa using this
    rw[Array.toList_setIfInBounds,List.count_set (by simpa using aP)];simp[ai,US]
   have Dw:(c9.setIfInBounds i true).size=ops.size:=by simp[inv.size]
   have C4:∀ (j:Nat) (c0:Oper) (e:Edge),ops[j]? = some c0->(c9.setIfInBounds i true).getD j false=true->e∈c0.after->Region.binds .any e=true->(c9.setIfInBounds i true).getD e.on false=true:=by
    intro j c0 e dX am aw ai;rw[vj _ _ _ aP] at am ⊢;by_cases mF:j=i
    ·subst mF;rw[ay] at dX; cases dX;rw[UY e aw ai]; split<;>rfl
    ·rw[if_neg mF] at am;rw[inv.down j c0 e dX am aw ai]; split<;>rfl
   -- the next state,when no block of others' is turned
   have nw:(W i=true->cls i≠.fS)->∀ q,q<m->((c9.setIfInBounds i true).getD (ar q) false=true<->q<k) :=by
    intro bY q bp;obtain⟨c0,dX,fa,al⟩:=Aa q bp;have:ar q≠i:=fun aN=>by
     rw[aN] at fa al;exact bY fa al
    rw[vj _ _ _ aP,if_neg this];exact inv.done q bp
   have Dn:∀ (j:Nat),(c9.setIfInBounds i true).getD j false=false->j≠i/\c9.getD j false=false:=by
    intro j am;rw[vj _ _ _ aP] at am;by_cases mF:j=i
    ·rw[if_pos mF] at am; cases am
    ·rw[if_neg mF] at am; exact⟨mF,am⟩
   unfold wpOp;simp only[ay];cases fa:W i with
   | false=>
    rw[V8,fa];simp only[Bool.false_eq_true,if_false];refine aL _ k _ w μ ⟨Dw,C4,inv.AR,nw (fun aN=>by rw[fa] at aN; cases aN),inv.ext,inv.o2,inv.rel,?_,fun j c0 dX qB pn am=>inv.A7 j c0 dX qB pn (Dn j am).2⟩ C1;rw[EA gS ay aP];exact inv.uJ.put (ox i o ay) (by rw[Dx i o ay fa]; exact OZ)
   | true=>
    rw[V8,fa];simp only[if_true];left;cases al:cls i with
    | pure=>
     have cK:=Dp i o ay fa al k U1;obtain⟨v,w',μ',aC,e,r,ax⟩:=OG (P:=P) inv.rel c4 o cK;have VB:wpAny P .any ops Q fuel (c9.setIfInBounds i true) (a.put o.dst v) w':=by
      refine aL _ k _ w' μ' ⟨Dw,C4,inv.AR,nw (fun _ aN=>by rw[al] at aN; cases aN),inv.ext.trans e.toExt0,fun b ai iT=>e.o2 b (Nat.lt_of_lt_of_le ai inv.ext.n) (inv.o2 b ai iT),r,?_,fun j c0 dX qB pn am=>?_⟩ C1
      ·rw[EA gS ay aP];exact (inv.uJ.ext e).put (ox i o ay) ax
      ·have aH:=inv.A7 j c0 dX qB pn (Dn j am).2;rcases Nat.lt_or_ge (gb j) (fp k).n with ai | ai
       ·exact e.o2 _ ai aH
       ·exact r.j6 _ ai
     unfold Oper.wp;rcases aC with aC | ⟨aC,rfl⟩
     ·rw[aC]; exact VB
     ·rw[aC]; exact VB
    | new=>
     obtain⟨mk,aH,xW,nh,hblk⟩:=l5 i o ay fa al;obtain⟨v,arr,t,aC,cF,xF⟩:=Ld (P:=P) c4 o aH;have en:=hblk k U1;have aia:=inv.A7 i o ay fa al l6;have ato:gb i<(fp k).n:=by
      rcases Nat.lt_or_ge (gb i) (fp k).n with ai | ai
      ·exact ai
      ·rw[inv.rel.fresh _ ai] at en; cases en
     have oF:∀ b cj,μ b=some cj->b≠gb i:=fun b cj ai aN=>by rw[aN,aia] at ai; cases ai
     have e:Ext0 w (fp k) μ (w.alloc (.cells arr t)) (fp k) (b5 μ (gb i) (some ⟨w.heap.size,0,arr.size⟩)) :=by
      refine⟨rfl,rfl,rfl,by simp,fun x aj _=>?_,?_,fun b sz cs cj ai hm=>.inl ⟨cs,ai,by rw[cg _ _ _ _ (oF b cj hm)]; exact hm⟩,fun _ _ az=>az,fun b k cj ai hm=>⟨ai,by rw[cg _ _ _ _ (oF b cj hm)]; exact hm⟩,Nat.le_refl _,Nat.le_refl _⟩
      ·exact RowKit.Below.heap_alloc w _ x aj
      ·rintro x ⟨b,cj,au,hm,rfl⟩;by_cases ai:b=gb i
       ·subst ai; simp at hm; subst hm; exact .inr (Nat.le_refl _)
       ·rw[cg _ _ _ _ ai] at hm;exact .inl ⟨b,cj,au,hm,rfl⟩
     have r:cc R B (w.alloc (.cells arr t)) (fp k) (b5 μ (gb i) (some ⟨w.heap.size,0,arr.size⟩)) :=by
      refine inv.rel.s4 e (gb i) (fun b ai au=>⟨rfl,cg _ _ _ _ ai,fun cj hm=>RowKit.Below.heap_alloc w _ _ (inv.rel.lt au hm)⟩) (fun cj hm=>?_) (fun b cj awk ai au _ hm b8=>?_) (fun cj _ hm=>?_) inv.rel.fresh (fun b ai=>?_)
      ·simp at hm; subst hm;rw[en];refine⟨rfl,by simp[cF.1],arr,t,(0,0),heap_alloc_new w _,rfl,.inl rfl,fun j c am=>?_⟩;obtain⟨u,bj,bz,a3⟩:=cF.2 j c am;exact⟨u,by simpa using bj,bz,a3.lU e⟩
      ·simp at b8; subst b8;have:=inv.rel.lt au hm;simp only[ne_eq]; omega
      ·simp at hm; subst hm;exact inv.rel.size
      ·rw[cg _ _ _ _ (by omega)];exact inv.rel.j6 b ai
     have ax:aR (w.alloc (.cells arr t)) R (fp k) (b5 μ (gb i) (some ⟨w.heap.size,0,arr.size⟩)) (val i) v:=by
      rw[xW];exact xF _ _ _ _ _ en (by simp)
     unfold Oper.wp;rw[aC];refine aL _ k _ _ _ ⟨Dw,C4,inv.AR,nw (fun _ aN=>by rw[al] at aN; cases aN),inv.ext.trans e,fun b ai iT=>by rw[cg _ _ _ _ (by omega)]; exact inv.o2 b ai iT,r,?_,fun j c0 dX qB pn am=>?_⟩ C1
     ·rw[EA gS ay aP];have J9:lM N (w.alloc (.cells arr t)) R (fp k) (b5 μ (gb i) (some ⟨w.heap.size,0,arr.size⟩)) (rp ops val ah c9) a:=⟨inv.uJ.size,inv.uJ.defers,fun fJ=>(inv.uJ.val fJ).lU e⟩
      exact J9.put (ox i o ay) ax
     ·obtain⟨mF,tU⟩:=Dn j am;rw[cg _ _ _ _ (fun aN=>mF (CW j i c0 o dX ay qB fa pn al aN))];exact inv.A7 j c0 dX qB pn tU
    | fS=>
     obtain⟨q,bp,rfl⟩:=vC i o ay fa al;have vV:q=k:=by
      have ag:¬ q<k:=fun aN=>by
       have:=(inv.done q bp).2 aN;rw[l6] at this; cases this
      rcases Nat.lt_or_ge k q with h7 | xA
      ·have l3:k<m:=by omega
       have:=JZ (ar k) (kn k q l3 bp h7);have:=(inv.done k l3).1 this;omega
      ·omega
     subst vV;refine ln q o bp ay R B w μ a o _ Q rfl inv.rel U5 c4 fun v w' μ' e r ax=>?_
     obtain⟨b4,fw⟩:=(oy q bp).rel r;have dC:=e.trans b4;refine aL _ (q+1) _ w' μ' ⟨Dw,C4,by omega,fun fe nv=>?_,inv.ext.trans dC.toExt0,fun b ai iT=>dC.o2 b (Nat.lt_of_lt_of_le ai inv.ext.n) (inv.o2 b ai iT),fw,?_,fun j c0 dX qB pn am=>?_⟩ C1
     ·rw[vj _ _ _ aP];by_cases Dq:fe=q
      ·subst Dq; simp
      ·rw[if_neg (fun aN=>Dq (eV fe q nv bp aN)),inv.done fe nv];omega
     ·rw[EA gS ay aP];exact (inv.uJ.ext dC).put (ox _ o ay) (ax.ext b4)
     ·have aH:=inv.A7 j c0 dX qB pn (Dn j am).2;rcases CX j c0 q dX qB pn bp with ai | ai
      ·exact e.o2 _ ai aH
      ·exact r.j6 _ ai
 have aiZ:Inv P ops val ah W cls m ar fp gb N R B mU h p8 (Array.replicate ops.size false) 0 a0 mU.drew p8:=by
  have aI:∀ i,(Array.replicate ops.size false).getD i false=false:=by
   intro i;rw[Array.getD_eq_getD_getElem?,Array.getElem?_replicate];split<;>rfl
  refine⟨by simp,(fun i o e _ aA _ _=>by rw[aI] at aA; cases aA),Nat.zero_le _,(fun q bp=>by rw[aI]; simp),Tn.toExt0,fun b ai iT=>iT,rm,?_,fun i o ay fa al _=>?_⟩
  ·have eT:rp ops val ah (Array.replicate ops.size false)=ah:=by
    funext t;unfold rp;cases bB:i1 ops t with
    | none=>rfl
    | some i=>simp only[aI]; simp
   rw[eT];exact s0.ext Tn
  ·obtain⟨mk,aH,xW,nh,hblk⟩:=l5 i o ay fa al;exact sV.j6 _ nh
 exact key _ _ 0 a0 mU.drew p8 aiZ (by simp)
theorem apb (kX:P.follows .mixedOrders=true) (jS:∀ g,(G g).closed=true) {j:J} (am:dj P G j) :u1 P G j:=apc (agl kX jS) am
end
section
variable {P:Program} {G:Nat->ae}
theorem Lt {aD dL:Operand->ae} (cH:Array (Nat × Operand)) (h:∀ x∈(cH.toList.map (·.2)),aD x=dL x) :(cH.toList.map fun p=>(p.1,aD p.2))=(cH.toList.map fun p=>(p.1,dL p.2)) :=
 List.map_congr_left fun p aE=>by rw[h p.2 (List.mem_map.2 ⟨p,aE,rfl⟩)]
theorem K5 {aD dL:Operand->ae} (xs:Array Operand) (h:∀ x∈xs,aD x=dL x) :xs.toList.map aD=xs.toList.map dL:=
 List.map_congr_left fun x aj=>h x (by simpa using aj)
theorem Lj {aD dL:Operand->ae} (o:Option Operand) (h:∀ x∈o.toArray,aD x=dL x) :o.map aD=o.map dL:=by
 cases o with
 | none=>rfl
 | some x=>simp[h x (by simp)]
theorem OE {aD dL:Operand->ae} (h:aQ) (op:Op) (aj:∀ x∈op.operands,aD x=dL x) :c1 P h aD op=c1 P h dL op:=by
 cases op<;>simp only[Op.operands] at aj<;>try rfl
 case build t cH=>simp only[c1]; rw[Lt cH (fun x hm=>aj x (by simpa using hm))]
 case buildSlice t n cH=>simp only[c1]; rw[Lt cH (fun x hm=>aj x (by simpa using hm))]
 case makeFunc fn first ft=>
  cases fn<;>simp only[c1];rw[K5 first (fun x hm=>aj x (by simp[hm])),K5 ft (fun x hm=>aj x (by simp[hm]))]
 case slice t x cW aA cI=>
  simp only[c1];rw[aj x (by simp),Lj cW (fun y hm=>aj y (by simp at hm ⊢; simp[hm])),Lj aA (fun y hm=>aj y (by simp at hm ⊢; simp[hm])),Lj cI (fun y hm=>aj y (by simp at hm ⊢; simp[hm]))]
 case call c=>
  have aG:c.args.toList.map aD=c.args.toList.map dL:=K5 c.args (fun x hm=>aj x (by simp[Call.operands,hm]));simp only[c1,ti,aG];cases al:c.callee with
  | value f=>dsimp only; rw[aj f (by simp[Call.operands,al])]
  | invoke x name=>dsimp only; rw[aj x (by simp[Call.operands,al])]
  | _=>rfl
 case makeMap t r=>
  cases r with
  | none=>rfl
  | some x=>simp only[c1]; rw[aj x (by simp)]
 case next it b=>
  cases b with
  | false=>rfl
  | true=>simp only[c1]; rw[aj it (by simp)]
 all_goals (simp only[c1]; simp_all)
theorem al8 {aD dL:Operand->ae} (op:Op) (aj:∀ x∈op.operands,aD x=dL x) :mf P aD op=mf P dL op:=by
 cases op<;>simp only[Op.operands] at aj<;>try rfl
 case box t x=>simp only[mf]; rw[aj x (by simp)]
 case buildSlice t n cH=>simp only[mf]; rw[Lt cH (fun x hm=>aj x (by simpa using hm))]
 case makeSlice t l c=>simp only[mf]; rw[aj l (by simp),aj c (by simp)]
theorem agI {ah b7:Nat->ae} {h h' : aQ} {v:ae} {op:Op} (aj:∀ x∈op.operands,cY G ah x=cY G b7 x) (aw:dj P G (.op op ah h v h')) :dj P G (.op op b7 h v h') :=by
 generalize am:J.op op ah h v h'=j at aw
 induction aw generalizing v h'<;>cases am
 case D8 ar=>exact .D8 (by rw[<-OE h op aj]; exact ar)
 case yl=>exact .yl (by rw[<-OE h op aj]; assumption) (by assumption)
 case ET=>exact .ET (by first | (rename_i aL; exact aL rfl) | (rename_i aL _; exact aL rfl) | (rename_i aL _ _; exact aL rfl)) (by assumption) (by assumption)
inductive bT where
 | skip (i:Nat)
 | pure (i:Nat) (v:ae)
 | new (i:Nat) (v:ae) (cs:List ae)
 | fS (i:Nat) (v:ae) (h1:aQ)
def bT.idx:bT->Nat
 | .skip i | .pure i _ | .new i _ _ | .fS i _ _=>i
def bT.val:bT->ae
 | .skip _=>gT
 | .pure _ v | .new _ v _ | .fS _ v _=>v
def bT.iA:bT->Bool
 | .fS ..=>true
 | _=>false
def bT.sD:bT->Bool
 | .skip _=>true
 | _=>false
def bT.cls:bT->BI
 | .skip _ | .pure ..=>.pure
 | .new ..=>.new
 | .fS ..=>.fS
def bT.cs:bT->List ae
 | .new _ _ cs=>cs
 | _=>[]
structure i3 where
 ah:Nat->ae
 h:aQ
def vf (ops:Array Oper) (i:Nat) :Option Tmp:=(ops[i]?).bind (·.dst)
def oQ (h:aQ) :bT->aQ
 | .skip _ | .pure ..=>h
 | .new _ _ cs=>h.push (.cells cs.length cs)
 | .fS _ _ h1=>h1
def k2 (ops:Array Oper) (s:i3) (t:bT) :i3:=⟨gR s.ah (vf ops t.idx) t.val,oQ s.h t⟩
def go (ops:Array Oper) (s0:i3) (tr:List bT) (p:Nat) :i3:=(tr.take p).foldl (k2 ops) s0
theorem yC {ops:Array Oper} {s0:i3} {tr:List bT} {p:Nat} {t:bT} (h:tr[p]? = some t) :go ops s0 tr (p+1)=k2 ops (go ops s0 tr p) t:=by
 unfold go;have aP:p<tr.length:=(List.getElem?_eq_some_iff.1 h).1;rw[List.take_succ_eq_append_getElem aP,List.foldl_append];have:tr[p]=t:=(List.getElem?_eq_some_iff.1 h).2;simp[this]
def u2 (P:Program) (G:Nat->ae) (ops:Array Oper) (s:i3) :bT->Prop
 | .skip i=>∃ o,ops[i]? = some o/\jH ops s.ah o=some false
 | .pure i v=>∃ o,ops[i]? = some o/\jH ops s.ah o=some true
 | .new i v cs=>∃ o mk,ops[i]? = some o/\jH ops s.ah o=some true/\mf P (cY G s.ah) o.op=some (cs,mk)/\v=mk s.h.n
 | .fS i v h1=>∃ o,ops[i]? = some o/\jH ops s.ah o=some true/\dj P G (.op o.op s.ah s.h v h1)/\s.h.n<=h1.n
def E8 (P:Program) (G:Nat->ae) (ops:Array Oper) (s:i3) (h:aQ) :bT->Prop
 | .pure i v=>∀ o,ops[i]? = some o->c1 P h (cY G s.ah) o.op=some (.val v h)
 | .new _ _ cs=>h.f s.h.n=.cells cs.length cs
 | _=>True
structure wI (ops:Array Oper) (pre:Nat->Nat->Bool) (tr:List bT) :Prop where
 gS:rA ops pre
 all:∀ i,i<ops.size->∃ (p:Nat) (t:bT),tr[p]? = some t/\t.idx=i
 inj:∀ (p bZ:Nat) (t fJ:bT),tr[p]? = some t->tr[bZ]? = some fJ->t.idx=fJ.idx->p=bZ
 Ev:∀ (p:Nat) (t:bT),tr[p]? = some t->t.idx<ops.size
 acY:∀ (p bZ:Nat) (t fJ:bT),tr[p]? = some t->tr[bZ]? = some fJ->p<bZ->pre t.idx fJ.idx=false
 eager:∀ (p bZ:Nat) (t fJ:bT),tr[p]? = some t->tr[bZ]? = some fJ->p<bZ->t.iA=true->pre fJ.idx t.idx=true
structure E9 (P:Program) (G:Nat->ae) (ops:Array Oper) (pre:Nat->Nat->Bool) (s0:i3) (tr:List bT) :Prop where
 step:∀ (p:Nat) (t:bT),tr[p]? = some t->u2 P G ops (go ops s0 tr p) t
 still:∀ (q:Nat),(q=tr.length\/∃ t:bT,tr[q]? = some t/\t.iA=true)->∀ (p:Nat) (t:bT),p<q->tr[p]? = some t->
  (∀ (bZ:Nat) (fJ:bT),bZ<q->tr[bZ]? = some fJ->fJ.iA=true->pre fJ.idx t.idx=false)->E8 P G ops (go ops s0 tr p) (go ops s0 tr q).h t
def dQ (tr:List bT) (i:Nat) :Nat:=tr.findIdx fun t=>t.idx == i
theorem wj {ops:Array Oper} {pre:Nat->Nat->Bool} {tr:List bT} (fI:wI ops pre tr) {i:Nat} (aA:i<ops.size) :∃ t,tr[dQ tr i]? = some t/\t.idx=i:=by
 obtain⟨p,t,aE,aU⟩:=fI.all i aA;have aP:p<tr.length:=(List.getElem?_eq_some_iff.1 aE).1;have jZ:∃ x∈tr,(x.idx == i)=true:=⟨t,List.mem_of_getElem? aE,by simpa using aU⟩
 have xx:dQ tr i<tr.length:=List.findIdx_lt_length_of_exists jZ;have:=List.findIdx_getElem (w:=xx);exact⟨tr[dQ tr i],by simp[xx],by unfold dQ; simpa using this⟩
theorem Ec {ops:Array Oper} {pre:Nat->Nat->Bool} {tr:List bT} (fI:wI ops pre tr) {p:Nat} {t:bT} (aE:tr[p]? = some t) :dQ tr t.idx=p:=by
 obtain⟨fJ,h1,ag⟩:=wj fI (fI.Ev p t aE);exact fI.inj _ _ _ _ h1 aE ag
theorem acv {ops:Array Oper} {pre:Nat->Nat->Bool} {tr:List bT} (fI:wI ops pre tr) (s0:i3) :∀ p,p<=tr.length->∀ t,
  (go ops s0 tr p).ah t=match i1 ops t with | some j=>(if dQ tr j<p then ((tr[dQ tr j]?).map bT.val).getD .bad else s0.ah t) | none=>s0.ah t:=by
 intro p
 induction p with
 | zero=>
  intro _ t;simp only[go,List.take_zero,List.foldl_nil];cases i1 ops t<;>simp
 | succ p aL=>
  intro aE t;have aP:p<tr.length:=by omega
  have eQ:tr[p]? = some tr[p] :=List.getElem?_eq_getElem aP;rw[yC eQ];simp only[k2];have Ao:=aL (by omega) t;have j0:=Ec fI eQ;have ajX:=fI.Ev p _ eQ;have fO:ops[tr[p].idx]? = some ops[tr[p].idx] :=by simp[ajX]
  cases bN:vf ops tr[p].idx with
  | none=>
   simp only[gR,Ao];cases bB:i1 ops t with
   | none=>rfl
   | some j=>
    simp only;obtain⟨o,ay,JS⟩:=wB bB;have bY:dQ tr j≠p:=by
     intro aN;obtain⟨OQ,h1,ag⟩:=wj fI ((Array.getElem?_eq_some_iff.1 ay).1);rw[aN,eQ] at h1;cases h1;rw[<-ag] at ay;simp only[vf,ay,Option.bind_some] at bN;rw[JS] at bN; cases bN
    by_cases h7:dQ tr j<p
    ·rw[if_pos h7,if_pos (by omega)]
    ·rw[if_neg h7,if_neg (by omega)]
  | some d=>
   simp only[gR];by_cases aU:t=d
   ·subst aU;have ox:ops[tr[p].idx].dst=some t:=by simpa [vf,fO] using bN
    rw[i7,fI.gS.one _ _ t fO ox];simp[j0,eQ]
   ·rw[cg _ _ _ _ aU,Ao];cases bB:i1 ops t with
    | none=>rfl
    | some j=>
     simp only;obtain⟨o,ay,JS⟩:=wB bB;have bY:dQ tr j≠p:=by
      intro aN;obtain⟨OQ,h1,ag⟩:=wj fI ((Array.getElem?_eq_some_iff.1 ay).1);rw[aN,eQ] at h1;cases h1;rw[<-ag] at ay;simp only[vf,ay,Option.bind_some] at bN;rw[JS] at bN; cases bN;exact aU rfl
     by_cases h7:dQ tr j<p
     ·rw[if_pos h7,if_pos (by omega)]
     ·rw[if_neg h7,if_neg (by omega)]
theorem amX {ops:Array Oper} {pre:Nat->Nat->Bool} (gS:rA ops pre) (eA:∀ (i:Nat) (o:Oper) (e:Edge),ops[i]? = some o->e∈o.after->Region.binds .any e=true->∃ c0,ops[e.on]? = some c0) :∀ (i:Nat) (o:Oper),ops[i]? = some o->∀ j,pre i j=true->j<i:=by
 intro i
 induction i using Nat.strongRecOn with
 | _ i aL=>
  intro o ay j am;obtain⟨e,aw,ai,l0⟩:=gS.chain i o j ay am;have aP:=gS.zD i o e ay aw ai;rcases l0 with rfl | l0
  ·exact aP
  ·obtain⟨c0,dX⟩:=eA i o e ay aw ai;have:=aL e.on aP c0 dX j l0;omega
theorem ami {ops:Array Oper} {pre:Nat->Nat->Bool} (gS:rA ops pre) (i:Nat) (o:Oper) (ay:ops[i]? = some o) (aE:pre i i=true) :False:=by
 have:=amX gS (fun i o e ay aw ai=>by
  have h1:=gS.zD i o e ay aw ai;have ag:=(Array.getElem?_eq_some_iff.1 ay).1;exact⟨ops[e.on]'(by omega),by simp⟩) i o ay i aE
 omega
theorem Ts {ops:Array Oper} {pre:Nat->Nat->Bool} {tr:List bT} (fI:wI ops pre tr) (s0:i3) {i:Nat} {o:Oper} (ay:ops[i]? = some o) {t:Nat} (aU:t∈o.looksAt ops) :
  lT ops pre (fun j=>((tr[dQ tr j]?).map bT.val).getD .bad) s0.ah i o t=(go ops s0 tr (dQ tr i)).ah t:=by
 have aA:i<ops.size:=(Array.getElem?_eq_some_iff.1 ay).1;obtain⟨db,h1,ag⟩:=wj fI aA;have du:dQ tr i<=tr.length:=Nat.le_of_lt (List.getElem?_eq_some_iff.1 h1).1;rw[acv fI s0 _ du];unfold lT;rw[if_pos (by simpa using aU)];cases bB:i1 ops t with
 | none=>rfl
 | some j=>
  simp only;obtain⟨Yq,ajD,_⟩:=wB bB;obtain⟨OQ,ap,aJ⟩:=wj fI ((Array.getElem?_eq_some_iff.1 ajD).1);have key:pre i j=true<->dQ tr j<dQ tr i:=by
   constructor
   ·intro aE;rcases Nat.lt_trichotomy (dQ tr j) (dQ tr i) with h | h | h
    ·exact h
    ·exfalso;rw[h,h1] at ap;cases ap;have iy:i=j:=by rw[<-ag,<-aJ]
     subst iy;exact ami fI.gS i o ay aE
    ·have:=fI.acY _ _ _ _ h1 ap h;rw[ag,aJ] at this;rw[this] at aE; cases aE
   ·intro aP;rcases fI.gS.acc i o t j ay aU bB with aN | aN | rfl
    ·exact aN
    ·have:=fI.acY _ _ _ _ ap h1 aP;rw[ag,aJ] at this;rw[this] at aN; cases aN
    ·omega
  by_cases aE:pre i j=true
  ·rw[if_pos aE,if_pos (key.1 aE)]
  ·rw[if_neg aE,if_neg (fun aN=>aE (key.2 aN))]
def eM (tr:List bT) :List Nat:=(List.range tr.length).filter fun p=>((tr[p]?).map bT.iA).getD false
theorem DX {tr:List bT} {p:Nat}:p∈eM tr<->∃ t,tr[p]? = some t/\t.iA=true:=by
 unfold eM;rw[List.mem_filter,List.mem_range];constructor
 ·rintro⟨h1,ag⟩;refine⟨tr[p],by simp[h1],?_⟩;simpa [h1] using ag
 ·rintro⟨t,h1,ag⟩;exact⟨(List.getElem?_eq_some_iff.1 h1).1,by simp[h1,ag]⟩
theorem tA {tr:List bT} {q fe:Nat} (bp:q<fe) (nv:fe<(eM tr).length) :(eM tr).getD q 0<(eM tr).getD fe 0:=by
 have aE:(eM tr).Pairwise (· < ·) :=List.Pairwise.filter _ List.pairwise_lt_range;have:=List.pairwise_iff_getElem.1 aE q fe (by omega) nv bp;simpa [List.getD,nv,show q<(eM tr).length by omega] using this
theorem Tp {tr:List bT} {q:Nat} (bp:q<(eM tr).length) :∃ t,tr[(eM tr).getD q 0]? = some t/\t.iA=true:=by
 apply DX.1;simp[List.getD,bp]
theorem Ck {tr:List bT} {p:Nat} (aE:p∈eM tr) :∃ q,q<(eM tr).length/\(eM tr).getD q 0=p:=by
 obtain⟨q,bp,rfl⟩:=List.getElem_of_mem aE;exact⟨q,bp,by simp[List.getD,bp]⟩
theorem AY {ops:Array Oper} {pre:Nat->Nat->Bool} {s0:i3} {tr:List bT} (oY:E9 P G ops pre s0 tr) :∀ (k p:Nat),p+k<=tr.length->(go ops s0 tr p).h.n<=(go ops s0 tr (p+k)).h.n
 | 0,p,_=>Nat.le_refl _
 | k+1,p,aE=>by
  have aL:=AY oY k p (by omega);have aP:p+k<tr.length:=by omega
  have eQ:tr[p+k]? = some tr[p+k] :=List.getElem?_eq_getElem aP;have ar:=oY.step _ _ eQ;rw[show p+(k+1)=(p+k)+1 from rfl,yC eQ];refine Nat.le_trans aL ?_;cases aU:tr[p+k] with
  | skip i=>simp[k2,oQ]
  | pure i v=>simp[k2,oQ]
  | new i v cs=>simp[k2,oQ,e3]
  | fS i v h1=>
   rw[aU] at ar;obtain⟨o,_,_,_,aH⟩:=ar;simpa [k2,oQ] using aH
theorem IG {ops:Array Oper} {s0:i3} {tr:List bT}:∀ (k p:Nat),p+k<=tr.length->(∀ r,p<=r->r<p+k->r∉eM tr)->mZ (go ops s0 tr p).h (go ops s0 tr (p+k)).h
 | 0,p,_,_=>⟨[],rfl⟩
 | k+1,p,aE,eS=>by
  obtain⟨l,au⟩:=IG (ops:=ops) (s0:=s0) (tr:=tr) k p (by omega) (fun r h1 ag=>eS r h1 (by omega));have aP:p+k<tr.length:=by omega
  have eQ:tr[p+k]? = some tr[p+k] :=List.getElem?_eq_getElem aP;have bY:tr[p+k].iA≠true:=fun aN=>eS (p+k) (by omega) (by omega) (DX.2 ⟨_,eQ,aN⟩)
  rw[show p+(k+1)=(p+k)+1 from rfl,yC eQ];cases aU:tr[p+k] with
  | skip i=>exact⟨l,by simp[k2,oQ,au]⟩
  | pure i v=>exact⟨l,by simp[k2,oQ,au]⟩
  | new i v cs=>exact⟨l++[cs],by simp[k2,oQ,au,uw]⟩
  | fS i v h1=>rw[aU] at bY; exact absurd rfl bY
theorem dj.agj {id:Nat} {ops:Array Oper} {pre:Nat->Nat->Bool} {N:Nat} {s0:i3} {tr:List bT} (fI:wI ops pre tr) (bN:∀ (i:Nat) (o:Oper),ops[i]? = some o->ol N o.dst=true) (oY:E9 P G ops pre s0 tr) :
  dj P G (.code (.region id ops true) N s0.ah s0.h .normal (go ops s0 tr tr.length).ah (go ops s0 tr tr.length).h) :=by
 -- the step that carries out operation i
 have hj:∀ (i:Nat) (o:Oper),ops[i]? = some o->∃ t,tr[dQ tr i]? = some t/\t.idx=i/\u2 P G ops (go ops s0 tr (dQ tr i)) t:=fun i o ay=>by
  obtain⟨t,h1,ag⟩:=wj fI ((Array.getElem?_eq_some_iff.1 ay).1);exact⟨t,h1,ag,oY.step _ _ h1⟩
 have aqE:∀ (i:Nat) (o:Oper),ops[i]? = some o->jH ops (lT ops pre (fun j=>((tr[dQ tr j]?).map bT.val).getD .bad) s0.ah i o) o=jH ops (go ops s0 tr (dQ tr i)).ah o:=fun i o ay=>by
  unfold jH;cases az:o.guard with
  | none=>rfl
  | some nD=>
   obtain⟨j,yN⟩:=nD;simp only;cases ait:(ops[j]?).bind (·.dst) with
   | none=>rfl
   | some d=>
    simp only;rw[Ts fI s0 ay (t:=d) (by simp[Oper.looksAt,az,ait])]
 have Lg:∀ (i:Nat) (o:Oper),ops[i]? = some o->∀ x∈o.op.operands,cY G (go ops s0 tr (dQ tr i)).ah x=cY G (lT ops pre (fun j=>((tr[dQ tr j]?).map bT.val).getD .bad) s0.ah i o) x:=fun i o ay x aj=>by
  cases x with
  | tmp t=>
   refine (Ts fI s0 ay (t:=t) ?_).symm;simp only[Oper.looksAt,List.mem_append,List.mem_filterMap];exact .inl ⟨.tmp t,by simpa using aj,rfl⟩
  | _=>rfl
 -- the moment ahead of effect k,or the end
 have OT:∀ k,k<=(eM tr).length->∃ T,T<=tr.length/\(T=tr.length\/∃ t,tr[T]? = some t/\t.iA=true)/\(T=if k<(eM tr).length then (eM tr).getD k 0 else tr.length) :=fun k hk=>by
  by_cases aP:k<(eM tr).length
  ·obtain⟨t,h1,ag⟩:=Tp aP;exact⟨_,Nat.le_of_lt (List.getElem?_eq_some_iff.1 h1).1,.inr ⟨t,h1,ag⟩,by rw[if_pos aP]⟩
  ·exact⟨_,Nat.le_refl _,.inl rfl,by rw[if_neg aP]⟩
 have gq:∀ q,q<(eM tr).length->∃ t,tr[(eM tr).getD q 0]? = some t/\t.iA=true/\((tr[(eM tr).getD q 0]?).map bT.idx).getD 0=t.idx:=fun q bp=>by
  obtain⟨t,h1,ag⟩:=Tp bp;exact⟨t,h1,ag,by rw[h1]; rfl⟩
 have acC:∀ (i:Nat) (o:Oper) (t:bT),ops[i]? = some o->tr[dQ tr i]? = some t->t.idx=i->t.iA=false->∀ k,w5 pre (eM tr).length (fun q=>((tr[(eM tr).getD q 0]?).map bT.idx).getD 0) i k->
   E8 P G ops (go ops s0 tr (dQ tr i)) (go ops s0 tr (if k<(eM tr).length then (eM tr).getD k 0 else tr.length)).h t:=by
  intro i o t ay aU Ki bY k aI;obtain⟨l3,aiD,aiE⟩:=aI;obtain⟨T,Ux,I0,nf⟩:=OT k l3;rw[<-nf];have atX:dQ tr i<tr.length:=(List.getElem?_eq_some_iff.1 aU).1;have ajI:dQ tr i<T:=by
   by_cases aP:k<(eM tr).length
   ·rw[if_pos aP] at nf;obtain⟨apI,h1,ag,ap⟩:=gq k aP;rw[<-nf] at h1;rcases Nat.lt_trichotomy (dQ tr i) T with h | h | h
    ·exact h
    ·rw[h,h1] at aU;cases aU;rw[bY] at ag; cases ag
    ·have aw:=fI.eager T (dQ tr i) apI t h1 aU h ag;have:=aiD k aP (by (try simp only); rw[ap,<-Ki]; exact aw);omega
   ·rw[if_neg aP] at nf;omega
  refine oY.still T I0 _ t ajI aU (fun bZ fJ fF DA fW=>?_);obtain⟨q,bp,oH⟩:=Ck (DX.2 ⟨fJ,DA,fW⟩);obtain⟨axc,h1,ag,ap⟩:=gq q bp;rw[oH,DA] at h1;cases h1;have vV:q<k:=by
   by_cases aP:k<(eM tr).length
   ·rw[if_pos aP] at nf;rcases Nat.lt_or_ge q k with h | h
    ·exact h
    ·rcases Nat.eq_or_lt_of_le h with h | h
     ·subst h; omega
     ·have:=tA (tr:=tr) h bp;omega
   ·omega
  cases aE:pre fJ.idx t.idx with
  | false=>rfl
  | true=>
   have:=aiE q bp (by (try simp only); rw[ap,<-Ki]; exact aE);omega
 refine dj.draw pre (fun j=>((tr[dQ tr j]?).map bT.val).getD .bad) (fun j=>((tr[dQ tr j]?).map fun t=>!t.sD).getD false) (fun j=>((tr[dQ tr j]?).map bT.cls).getD .pure) (eM tr).length
  (fun q=>((tr[(eM tr).getD q 0]?).map bT.idx).getD 0) (fun k=>(go ops s0 tr (if k<(eM tr).length then (eM tr).getD k 0 else tr.length)).h) (fun q=>(go ops s0 tr ((eM tr).getD q 0+1)).h)
  (fun j=>(go ops s0 tr (dQ tr j)).h.n) (fun j=>((tr[dQ tr j]?).map bT.cs).getD []) fI.gS bN ?_ ?_ ?_ ?_ ?_ ?_ ?_ ?_ ?_ ?_ ?_ ?_ ?_ ?_ ?_
 ·-- h0
  obtain⟨T,Ux,I0,nf⟩:=OT 0 (Nat.zero_le _)
  try simp only
  rw[<-nf];have:=IG (ops:=ops) (s0:=s0) (tr:=tr) T 0 (by omega) (fun r _ aC jZ=>by
   obtain⟨q,bp,oH⟩:=Ck jZ;rw[if_pos (by omega)] at nf;rcases Nat.eq_or_lt_of_le (Nat.zero_le q) with h | h
   ·subst h; omega
   ·have:=tA (tr:=tr) h bp;omega)
  simpa [go] using this
 ·simp
 ·-- hσ
  funext t;rw[acv fI s0 _ (Nat.le_refl _)];cases bB:i1 ops t with
  | none=>rfl
  | some j=>
   obtain⟨o,ay,_⟩:=wB bB;obtain⟨OQ,h1,_⟩:=wj fI ((Array.getElem?_eq_some_iff.1 ay).1);simp only;rw[if_pos ((List.getElem?_eq_some_iff.1 h1).1)]
 ·-- heff
  intro i o ay fa al;obtain⟨t,h1,ag,_⟩:=hj i o ay;simp only[h1,Option.map_some,Option.getD_some] at al;have aw:t.iA=true:=by cases t<;>simp_all [bT.cls,bT.iA]
  obtain⟨q,bp,oH⟩:=Ck (DX.2 ⟨t,h1,aw⟩);exact⟨q,bp,by rw[oH,h1]; exact ag⟩
 ·-- heff'
  intro q bp;obtain⟨t,h1,ag,ap⟩:=gq q bp;refine⟨ops[t.idx]'(fI.Ev _ _ h1),by rw[ap]; simp[fI.Ev _ _ h1],?_,?_⟩
  ·simp only[ap,Ec fI h1,h1,Option.map_some,Option.getD_some];cases t<;>simp_all [bT.sD,bT.iA]
  ·simp only[ap,Ec fI h1,h1,Option.map_some,Option.getD_some];cases t<;>simp_all [bT.cls,bT.iA]
 ·-- hord
  intro q fe bp nv aP;obtain⟨t,h1,ag,ap⟩:=gq q bp;obtain⟨fJ,dH,fT,tE⟩:=gq fe nv;simp only[ap,tE];exact fI.eager _ _ t fJ h1 dH (tA aP nv) ag
 ·-- hinj
  intro q fe bp nv aw;obtain⟨t,h1,ag,ap⟩:=gq q bp;obtain⟨fJ,dH,fT,tE⟩:=gq fe nv;simp only[ap,tE] at aw;have:=fI.inj _ _ t fJ h1 dH aw;rcases Nat.lt_trichotomy q fe with h | h | h
  ·have:=tA (tr:=tr) h nv; omega
  ·exact h
  ·have:=tA (tr:=tr) h bp; omega
 ·-- hwant
  intro i o ay;rw[aqE i o ay];obtain⟨t,h1,ag,ap⟩:=hj i o ay;simp only[h1,Option.map_some,Option.getD_some];cases t with
  | skip j=>obtain⟨c0,dX,bB⟩:=ap; simp only[bT.idx] at ag; subst ag; rw[ay] at dX; cases dX; exact bB
  | pure j v=>obtain⟨c0,dX,bB⟩:=ap; simp only[bT.idx] at ag; subst ag; rw[ay] at dX; cases dX; exact bB
  | new j v cs=>obtain⟨c0,mk,dX,bB,_⟩:=ap; simp only[bT.idx] at ag; subst ag; rw[ay] at dX; cases dX; exact bB
  | fS j v dH=>obtain⟨c0,dX,bB,_⟩:=ap; simp only[bT.idx] at ag; subst ag; rw[ay] at dX; cases dX; exact bB
 ·-- hskip
  intro i o ay fa;obtain⟨t,h1,ag,ap⟩:=hj i o ay;simp only[h1,Option.map_some,Option.getD_some] at fa ⊢;cases t<;>simp_all [bT.sD,bT.val]
 ·-- hpure
  intro i o ay fa al k aI;obtain⟨t,h1,ag,ap⟩:=hj i o ay;simp only[h1,Option.map_some,Option.getD_some] at fa al;have cK:=acC i o t ay h1 ag (by cases t<;>simp_all [bT.cls,bT.iA]) k aI;cases t with
  | pure j v=>
   simp only[bT.idx] at ag;subst ag;have:=cK o ay;rw[OE _ _ (Lg j o ay)] at this;simpa [h1,bT.val] using this
  | skip j=>simp[bT.sD] at fa
  | new j v cs=>simp[bT.cls] at al
  | fS j v dH=>simp[bT.cls] at al
 ·-- hnew
  intro i o ay fa al;obtain⟨t,h1,ag,ap⟩:=hj i o ay;simp only[h1,Option.map_some,Option.getD_some] at fa al;cases t with
  | new j v cs=>
   obtain⟨c0,mk,dX,_,aH,ax⟩:=ap;simp only[bT.idx] at ag;subst ag;rw[ay] at dX; cases dX;rw[al8 _ (Lg j o ay)] at aH;refine⟨mk,by simpa [h1,bT.cs] using aH,by simpa [h1,bT.val] using ax,?_,fun k aI=>?_⟩
   ·have du:dQ tr j<=tr.length:=Nat.le_of_lt (List.getElem?_eq_some_iff.1 h1).1;have:=AY oY (dQ tr j) 0 (by omega);simpa [go] using this
   ·have cK:=acC j o _ ay h1 rfl rfl k aI;simpa [E8,h1,bT.cs] using cK
  | skip j=>simp[bT.sD] at fa
  | pure j v=>simp[bT.cls] at al
  | fS j v dH=>simp[bT.cls] at al
 ·-- hbid
  intro i j o c0 ay dX tK qB fc pn ai;have Uf:∀ (i:Nat) (o:Oper),ops[i]? = some o->((tr[dQ tr i]?).map bT.cls).getD .pure=.new->∀ p,dQ tr i<p->p<=tr.length->(go ops s0 tr (dQ tr i)).h.n<(go ops s0 tr p).h.n:=by
   intro i o ay al p aE g3;obtain⟨t,h1,ag,_⟩:=hj i o ay;simp only[h1,Option.map_some,Option.getD_some] at al;have aJ:=AY oY (p - (dQ tr i+1)) (dQ tr i+1) (by omega);rw[show dQ tr i+1+(p - (dQ tr i+1))=p by omega,yC h1] at aJ;cases t with
   | new j v cs=>simp only[k2,oQ,e3] at aJ; omega
   | skip j=>simp[bT.cls] at al
   | pure j v=>simp[bT.cls] at al
   | fS j v dH=>simp[bT.cls] at al
  obtain⟨t,h1,ag,_⟩:=hj i o ay;obtain⟨fJ,dH,fT,_⟩:=hj j c0 dX;have au:=(List.getElem?_eq_some_iff.1 h1).1;have c6:=(List.getElem?_eq_some_iff.1 dH).1;rcases Nat.lt_trichotomy (dQ tr i) (dQ tr j) with h | h | h
  ·have:=Uf i o ay fc _ h (Nat.le_of_lt c6); (try simp only at ai); omega
  ·rw[h,dH] at h1; cases h1; rw[<-ag,<-fT]
  ·have:=Uf j c0 dX pn _ h (Nat.le_of_lt au); (try simp only at ai); omega
 ·-- hbid'
  intro i o q ay fa al bp;obtain⟨t,h1,ag,_⟩:=hj i o ay;obtain⟨OO,aY,a2,bh⟩:=gq q bp;simp only[h1,Option.map_some,Option.getD_some] at al;have au:=(List.getElem?_eq_some_iff.1 h1).1;have c6:=(List.getElem?_eq_some_iff.1 aY).1;simp only[if_pos bp];rcases Nat.lt_trichotomy (dQ tr i) ((eM tr).getD q 0) with h | h | h
  ·left;have aJ:=AY oY ((eM tr).getD q 0 - (dQ tr i+1)) (dQ tr i+1) (by omega);rw[show dQ tr i+1+((eM tr).getD q 0 - (dQ tr i+1))=(eM tr).getD q 0 by omega,yC h1] at aJ;cases t with
   | new j v cs=>simp only[k2,oQ,e3] at aJ; omega
   | skip j=>simp[bT.cls] at al
   | pure j v=>simp[bT.cls] at al
   | fS j v dH=>simp[bT.cls] at al
  ·rw[h,aY] at h1; cases h1;cases t<;>simp_all [bT.cls,bT.iA]
  ·right;have aJ:=AY oY (dQ tr i - ((eM tr).getD q 0+1)) ((eM tr).getD q 0+1) (by omega)
   rwa [show (eM tr).getD q 0+1+(dQ tr i - ((eM tr).getD q 0+1))=dQ tr i by omega] at aJ
 ·-- hgrow
  intro q bp;obtain⟨OO,aY,a2,bh⟩:=gq q bp;have c6:=(List.getElem?_eq_some_iff.1 aY).1;obtain⟨T,Ux,I0,nf⟩:=OT (q+1) (by omega)
  try simp only
  rw[<-nf];have aP:(eM tr).getD q 0<T:=by
   by_cases h:q+1<(eM tr).length
   ·rw[if_pos h] at nf;have:=tA (tr:=tr) (show q<q+1 by omega) h;omega
   ·rw[if_neg h] at nf; omega
  have:=IG (ops:=ops) (s0:=s0) (tr:=tr) (T - ((eM tr).getD q 0+1)) ((eM tr).getD q 0+1) (by omega) (fun r j1 kr jZ=>by
   obtain⟨fe,nv,oH⟩:=Ck jZ;have Dq:q<fe:=by
    rcases Nat.lt_trichotomy q fe with h | h | h
    ·exact h
    ·subst h; omega
    ·have:=tA (tr:=tr) h bp; omega
   by_cases h:q+1<(eM tr).length
   ·rw[if_pos h] at nf;rcases Nat.eq_or_lt_of_le (show q+1<=fe from Dq) with h' | h'
    ·subst h'; omega
    ·have:=tA (tr:=tr) h' nv; omega
   ·omega)
  rwa [show (eM tr).getD q 0+1+(T - ((eM tr).getD q 0+1))=T by omega] at this
 ·-- hcall
  intro q o bp ay;obtain⟨OO,aY,a2,bh⟩:=gq q bp;have j0:=Ec fI aY;simp only[bh] at ay ⊢;have ar:=oY.step _ _ aY;cases OO with
  | fS j v h1=>
   obtain⟨c0,dX,_,aw,_⟩:=ar;simp only[bT.idx] at ay j0 ⊢;rw[ay] at dX; cases dX;have ni:=Lg j o ay;rw[j0] at ni;have:=agI ni aw;simp only[j0,aY,if_pos bp,Option.map_some,Option.getD_some,bT.val];rw[yC aY];exact this
  | skip j=>simp[bT.iA] at a2
  | pure j v=>simp[bT.iA] at a2
  | new j v cs=>simp[bT.iA] at a2
end
abbrev gw:=cD ae
def look (s:gw) (t:Nat) :ae:=match s.get t with | some v=>v | none=>gT
theorem X1 (s:gw) (t:Nat) (v:ae) :look (s.set t v)=b5 (look s) t v:=by
 funext u;simp only[look,cD.Cx,b5];by_cases h:u=t
 ·simp[h]
 ·simp[h]
def Bd (s:gw) (dst:Option Tmp) (v:ae) :gw:=match dst with | some d=>s.set d v | none=>s
theorem DQ (s:gw) (dst:Option Tmp) (v:ae) :look (Bd s dst v)=gR (look s) dst v:=by
 cases dst with
 | none=>rfl
 | some d=>exact X1 s d v
def yi:Nat->gw->List ae->gw
 | _,s,[]=>s
 | k,s,v::vs=>yi (k+1) (s.set k v) vs
theorem X0:∀ (vs:List ae) (k:Nat) (s:gw),look (yi k s vs)=fun t=>if k<=t/\t<k+vs.length then vs.getD (t - k) gT else look s t
 | [],k,s=>by funext t; simp only[yi,List.length_nil]; rw[if_neg (by omega)]
 | v::vs,k,s=>by
  funext t;rw[yi,X0 vs (k+1),X1];simp only[List.length_cons,b5];by_cases h1:k+1<=t/\t<k+1+vs.length
  ·rw[if_pos h1,if_pos (by omega),show t - k=(t - (k+1))+1 by omega];simp
  ·rw[if_neg h1];by_cases ag:t=k
   ·subst ag; rw[if_pos rfl,if_pos (by omega)]; simp
   ·rw[if_neg ag,if_neg (by omega)]
def yH (m i:Nat) :Bool:=Nat.testBit m i
def tz (ms:List Nat) :List Edge->Nat
 | []=>0
 | e::es=>match Region.binds .any e with
  | true=>Nat.lor (Nat.lor (2 ^ e.on) (ms.getD e.on 0)) (tz ms es)
  | false=>tz ms es
def Ya (ms:List Nat) :List Oper->List Nat
 | []=>ms
 | o::os=>Ya (ms++[tz ms o.after.toList]) os
def hX (ops:Array Oper) :List Nat:=Ya [] ops.toList
def nL (ms:List Nat) (i j:Nat) :Bool:=yH (ms.getD i 0) j
def jw:Op->Bool
 | .move _ | .assign _ | .pick .. | .alloc _ | .box .. | .build .. | .buildSlice .. | .load .. | .nilCheck _ | .binOp .. | .unOp .. | .convert .. | .makeInterface .. | .makeFunc .. | .makeSlice .. | .slice .. | .fieldAddr .. | .field .. | .indexAddr .. | .index .. | .extract ..=>false
 | .call c=>match c.callee with
  | .builtin .len | .builtin .cap | .builtin .min | .builtin .max=>false
  | _=>true
 | _=>true
def akW:Op->Bool
 | .move _ | .assign _ | .pick .. | .build .. | .load .. | .nilCheck _ | .binOp .. | .unOp .. | .convert .. | .makeInterface .. | .makeFunc .. | .slice .. | .fieldAddr .. | .field .. | .indexAddr .. | .index .. | .extract ..=>true
 | .call c=>match c.callee with
  | .builtin .len | .builtin .cap | .builtin .min | .builtin .max=>true
  | _=>false
 | _=>false
def Lw (done:Nat) (fS:Bool) :Nat->List Nat->List Oper->Option Nat
 | i,m::ms,o::os=>match !yH done i&&Nat.beq (Nat.land m done) m&&(jw o.op == fS) with
  | true=>some i
  | false=>Lw done fS (i+1) ms os
 | _,_,_=>none
def Ox (ms:List Nat) (os:List Oper) :Nat->Nat->List Nat
 | 0,_=>[]
 | k+1,done=>match Lw done false 0 ms os with
  | some i=>i::Ox ms os k (Nat.lor done (2 ^ i))
  | none=>match Lw done true 0 ms os with
   | some i=>i::Ox ms os k (Nat.lor done (2 ^ i))
   | none=>[]
def ff (ms:List Nat) (ops:Array Oper) :List Nat:=Ox ms ops.toList ops.size 0
def BO (p:Nat->Oper->Bool) :Nat->List Oper->Bool
 | _,[]=>true
 | i,o::os=>p i o&&BO p (i+1) os
theorem Px {p:Nat->Oper->Bool}:∀ (l:List Oper) (i:Nat),BO p i l=true->∀ (j:Nat) (o:Oper),l[j]? = some o->p (i+j) o=true
 | [],i,_,j,o,h=>by simp at h
 | x::l,i,h,j,o,am=>by
  simp only[BO,Bool.and_eq_true] at h;cases j with
  | zero=>simp only[List.getElem?_cons_zero,Option.some.injEq] at am; subst am; exact h.1
  | succ j=>
   simp only[List.getElem?_cons_succ] at am;have:=Px l (i+1) h.2 j o am
   rwa [show i+1+j=i+(j+1) by omega] at this
def Ig (t:Nat) (o:Oper) :Bool:=match o.dst with | some d=>Nat.beq d t | none=>false
def wA (t:Nat) :Nat->List Oper->Option Nat
 | _,[]=>none
 | i,o::os=>match Ig t o with
  | true=>some i
  | false=>wA t (i+1) os
def Ic (ms:List Nat) (ops:Array Oper) :Bool:=
 BO (fun i o=>
  Nat.beq (ms.getD i 0) (tz ms o.after.toList) &&
  (o.after.toList.all fun e=>!Region.binds .any e||Nat.blt e.on i) &&
  (match o.dst with | some d=>(match wA d 0 ops.toList with | some j=>Nat.beq j i | none=>false) | none=>true) &&
  ((o.looksAt ops).all fun t=>match wA t 0 ops.toList with | some j=>nL ms i j||nL ms j i||Nat.beq j i | none=>true)) 0 ops.toList &&
 Region.noSelect ops
def D9 (ms:List Nat) :List Nat->Bool
 | []=>true
 | i::r=>(r.all fun j=>!Nat.beq i j&&!nL ms i j)&&D9 ms r
def Ln (ms:List Nat) (ops:Array Oper) (jd:List Nat) :Bool:=
 Ic ms ops&&D9 ms jd&&Nat.beq jd.length ops.size&&(jd.all fun i=>Nat.blt i ops.size)&&(List.range ops.size).all fun i=>jd.contains i
structure adN where
 t:bT
 s:gw
 h:aQ
section
variable (P:Program) (G:Nat->ae)
end
theorem Il (ms:List Nat) (j:Nat) :∀ (es:List Edge),yH (tz ms es) j=true->∃ e∈es,Region.binds .any e=true/\(e.on=j\/nL ms e.on j=true)
 | [],h=>by simp[tz,yH] at h
 | e::es,h=>by
  unfold tz at h;cases ai:Region.binds .any e with
  | false=>
   rw[ai] at h;obtain⟨e0,h1,ag⟩:=Il ms j es h;exact⟨e0,List.mem_cons_of_mem _ h1,ag⟩
  | true=>
   rw[ai] at h;simp only[yH] at h;have h' : Nat.testBit ((2 ^ e.on ||| ms.getD e.on 0) ||| tz ms es) j=true:=h;rw[Nat.testBit_or,Nat.testBit_or,Bool.or_eq_true,Bool.or_eq_true,Nat.testBit_two_pow] at h';rcases h' with (h' | h') | h'
   ·exact⟨e,List.mem_cons_self,ai,.inl (by simpa using h')⟩
   ·exact⟨e,List.mem_cons_self,ai,.inr h'⟩
   ·obtain⟨e0,h1,ag⟩:=Il ms j es h';exact⟨e0,List.mem_cons_of_mem _ h1,ag⟩
theorem adu (t:Nat) :∀ (l:List Oper) (i:Nat),wA t i l=((List.range l.length).find? fun j=>match l[j]? with | some o=>o.dst == some t | none=>false).map (·+i)
 | [],i=>by simp[wA]
 | o::l,i=>by
  unfold wA;have ais:Ig t o=(o.dst == some t) :=by
   unfold Ig;cases o.dst with
   | none=>rfl
   | some d=>
    by_cases h:d=t
    ·subst h; simp
    ·have:Nat.beq d t=false:=iY h;simp[this,h]
  rw[ais,List.length_cons,List.range_succ_eq_map,List.find?_cons];simp only[List.getElem?_cons_zero];cases ai:(o.dst == some t) with
  | true=>simp
  | false=>
   simp only[List.find?_map];rw[adu t l (i+1)];have:((fun j=>match (o::l)[j]? with | some o=>o.dst == some t | none=>false) ∘ Nat.succ)=fun j=>match l[j]? with | some o=>o.dst == some t | none=>false:=by
    funext j; simp
   rw[this];cases (List.range l.length).find? (fun j=>match l[j]? with | some o=>o.dst == some t | none=>false) with
   | none=>rfl
   | some j=>simp; omega
theorem adt (ops:Array Oper) (t:Nat) :wA t 0 ops.toList=i1 ops t:=by
 rw[adu];unfold i1;simp only[Array.getElem?_toList,Array.length_toList,Nat.add_zero,Option.map_id_fun',id_eq];congr 1
theorem agk {ms:List Nat} {ops:Array Oper} (h:Ic ms ops=true) :rA ops (nL ms) :=by
 unfold Ic at h;rw[Bool.and_eq_true] at h;obtain⟨h,ar⟩:=h;have key:∀ (i:Nat) (o:Oper),ops[i]? = some o->_:=fun i o ay=>Px _ 0 h i o (by simpa using ay)
 simp only[Nat.zero_add,Bool.and_eq_true] at key;refine⟨fun i o e ay aw ai=>?_,fun i o j ay aE=>?_,fun i o t ay bN=>?_,fun i o t j ay aU bB=>?_,ar⟩
 ·have:=(key i o ay).1.1.2;rw[List.all_eq_true] at this;have:=this e (by simpa using aw);rw[ai] at this;simp only[Bool.not_true,Bool.false_or] at this;simpa [Nat.blt_eq] using this
 ·have:=jB (key i o ay).1.1.1;have fF:yH (ms.getD i 0) j=true:=aE;rw[this] at fF;obtain⟨e,h1,ag⟩:=Il ms j _ fF;exact⟨e,by simpa using h1,ag⟩
 ·have:=(key i o ay).1.2;rw[bN] at this;simp only at this;rw[adt] at this;cases bB:i1 ops t with
  | none=>rw[bB] at this; cases this
  | some j=>rw[bB] at this; simp only at this; rw[jB this]
 ·have:=(key i o ay).2;rw[List.all_eq_true] at this;have:=this t aU;rw[adt,bB] at this;simp only[Bool.or_eq_true] at this;rcases this with (h1 | h1) | h1
  ·exact .inl h1
  ·exact .inr (.inl h1)
  ·exact .inr (.inr (jB h1))
theorem Ea {ms:List Nat}:∀ {l:List Nat},D9 ms l=true->∀ (p bZ:Nat) (i j:Nat),l[p]? = some i->l[bZ]? = some j->p<bZ->i≠j/\nL ms i j=false
 | [],_,p,bZ,i,j,aA,_,_=>by simp at aA
 | x::l,h,p,bZ,i,j,aA,am,aP=>by
  simp only[D9,Bool.and_eq_true,List.all_eq_true] at h;cases bZ with
  | zero=>omega
  | succ bZ=>
   simp only[List.getElem?_cons_succ] at am;cases p with
   | zero=>
    simp only[List.getElem?_cons_zero,Option.some.injEq] at aA;subst aA;have:=h.1 j (List.mem_of_getElem? am);simp only[Bool.not_eq_true'] at this;refine⟨fun aw=>?_,this.2⟩;subst aw;rw[q7 rfl] at this;cases this.1
   | succ p=>
    simp only[List.getElem?_cons_succ] at aA;exact Ea h.2 p bZ i j aA am (by omega)
section
variable {P:Program} {G:Nat->ae}
structure arb (P:Program) (G:Nat->ae) (ops:Array Oper) (e:adN) :Prop where
 step:u2 P G ops ⟨look e.s,e.h⟩ e.t
 pure:∀ i v,e.t=.pure i v->∃ o,ops[i]? = some o/\akW o.op=true/\c1 P e.h (cY G (look e.s)) o.op=some (.val v e.h)
theorem EC {ops:Array Oper} {s0:i3} {t:bT} {tr:List bT} (p:Nat) :go ops s0 (t::tr) (p+1)=go ops (k2 ops s0 t) tr p:=by
 simp[go]
end
section
variable {P:Program} {G:Nat->ae}
theorem aok (w:World) (R:Nat->Prop) (ki:∀ k,w.heap.size<=k->R k) :cc R w.heap.size w aQ.empty (fun _=>none) where
 blk:=fun b m hm=>by cases hm
 inj:=fun b bx m cu au=>by rw[Cm] at au; cases au
 base:=fun b m au=>by rw[Cm] at au; cases au
 fresh:=fun b _=>Cm b
 up:=ki
 size:=Nat.le_refl _
 j6:=fun b _=>rfl
theorem Ym (μ:cJ) (k:Nat) :¬ kG aQ.empty μ k:=by
 rintro⟨b,m,au,_⟩;rw[Cm] at au; cases au
theorem OU (kX:P.follows .mixedOrders=true) (jS:∀ g,(G g).closed=true) {f:FuncId} {args:List ae} {r:ae} {h' : aQ} (aw:dj P G (.call f args aQ.empty r h'))
  {w:World} {A:Nat->Prop} {vs:Array Value} (az:∀ g,e7 w A (G g) (.pointer (some ⟨g,0,none⟩))) (au:vs.size=args.length)
  (ax:∀ (j:Nat) (c:ae) (v:Value),args[j]? = some c->vs[j]? = some v->e7 w A c v) :
  Calls P f vs w fun e w'=>∃ v μ',e=.returned v/\wE w w'/\cc (fun k=>A k\/w.heap.size<=k) w.heap.size w' h' μ'/\aR w' (fun k=>A k\/w.heap.size<=k) h' μ' r v:=by
 have up:∀ {c:ae} {v:Value},e7 w A c v->aR w (fun k=>A k\/w.heap.size<=k) aQ.empty (fun _=>none) c v:=fun al=>al.up (fun k _ hk=>⟨.inl hk,Ym _ k⟩)
 refine (apb kX jS aw (fun k=>A k\/w.heap.size<=k) w.heap.size w (fun _=>none) vs (aok w _ fun k hk=>.inr hk) (fun g=>⟨jS g,up (az g)⟩) au (fun j c v am e2=>up (ax j c v am e2))).mono ?_;rintro e w' ⟨v,μ',rfl,ex,rel,aC⟩;exact⟨v,μ',rfl,⟨⟨ex.os,ex.tape,ex.output,ex.size,fun k hk=>ex.cM k hk (Ym _ k)⟩,ex.drawn⟩,rel,aC⟩
theorem apL (kX:P.follows .mixedOrders=true) (jS:∀ g,(G g).closed=true) {f:FuncId} {args:List ae} {h' : aQ} (aw:dj P G (.call f args aQ.empty (.bool true) h'))
  {w:World} {A:Nat->Prop} {vs:Array Value} (az:∀ g,e7 w A (G g) (.pointer (some ⟨g,0,none⟩))) (au:vs.size=args.length)
  (ax:∀ (j:Nat) (c:ae) (v:Value),args[j]? = some c->vs[j]? = some v->e7 w A c v) :
  Calls P f vs w fun e w'=>e=.returned (.bool true)/\RowKit.Below w.heap.size w w':=by
 refine (OU kX jS aw az au ax).mono ?_;rintro e w' ⟨v,μ',rfl,ai,_,aC⟩;cases aC;exact⟨rfl,ai.toBelow⟩
end
section
variable {α:Type}
theorem uI:∀ (k k' : Nat) (t:cD α) (n:Nat) (x:α),n<k->n<k'->t.jE k n x=t.jE k' n x
 | 0,_,_,_,_,h,_=>by omega
 | _+1,0,_,_,_,_,h=>by omega
 | k+1,k'+1,t,n,x,h,h'=>by
  by_cases aT:n=0
  ·subst aT;cases t<;>rfl
  ·have ai:Nat.beq n 0=false:=iY aT;cases t with
   | nil=>
    unfold cD.jE;simp only[ai];rw[uI k k' .nil (n / 2) x (by omega) (by omega),uI k k' .nil (n / 2 - 1) x (by omega) (by omega)]
   | node l v r=>
    unfold cD.jE;simp only[ai];rw[uI k k' l (n / 2) x (by omega) (by omega),uI k k' r (n / 2 - 1) x (by omega) (by omega)]
def cD.lt:cD α->cD α | .nil=>.nil | .node l _ _=>l
def cD.rt:cD α->cD α | .nil=>.nil | .node _ _ r=>r
def cD.mid:cD α->Option α | .nil=>none | .node _ v _=>v
theorem pZ (t:cD α) (x:α) :t.set 0 x=.node t.lt (some x) t.rt:=by cases t<;>rfl
theorem mm (t:cD α) (m:Nat) (x:α) :t.set (2*m+1) x=.node (t.lt.set m x) t.mid t.rt:=by
 have h1:Nat.beq (2*m+1) 0=false:=iY (by omega);have ag:Nat.beq ((2*m+1) % 2) 1=true:=q7 (by omega);have ap:(2*m+1) / 2=m:=by omega
 cases t with
 | nil=>show cD.jE (2*m+1+1) .nil (2*m+1) x=_; unfold cD.jE; simp only[h1,ag,ap]; rw[uI _ (m+1) _ _ _ (by omega) (by omega)]; rfl
 | node l v r=>show cD.jE (2*m+1+1) (.node l v r) (2*m+1) x=_; unfold cD.jE; simp only[h1,ag,ap]; rw[uI _ (m+1) _ _ _ (by omega) (by omega)]; rfl
theorem ml (t:cD α) (m:Nat) (x:α) :t.set (2*m+2) x=.node t.lt t.mid (t.rt.set m x) :=by
 have h1:Nat.beq (2*m+2) 0=false:=iY (by omega);have ag:Nat.beq ((2*m+2) % 2) 1=false:=iY (by omega);have ap:(2*m+2) / 2 - 1=m:=by omega
 cases t with
 | nil=>show cD.jE (2*m+2+1) .nil (2*m+2) x=_; unfold cD.jE; simp only[h1,ag,ap]; rw[uI _ (m+1) _ _ _ (by omega) (by omega)]; rfl
 | node l v r=>show cD.jE (2*m+2+1) (.node l v r) (2*m+2) x=_; unfold cD.jE; simp only[h1,ag,ap]; rw[uI _ (m+1) _ _ _ (by omega) (by omega)]; rfl
theorem Lc (n:Nat) :n=0\/(∃ m,m<n/\n=2*m+1)\/∃ m,m<n/\n=2*m+2:=by
 rcases Nat.eq_zero_or_pos n with h | h
 ·exact .inl h
 ·rcases Nat.mod_two_eq_zero_or_one n with ag | ag
  ·exact .inr (.inr ⟨n / 2 - 1,by omega,by omega⟩)
  ·exact .inr (.inl ⟨n / 2,by omega,by omega⟩)
theorem aoP (n:Nat) :∀ (t:cD α) (x y:α),(t.set n x).set n y=t.set n y:=by
 induction n using Nat.strongRecOn with
 | _ n aL=>
  intro t x y;rcases Lc n with rfl | ⟨m,hm,rfl⟩ | ⟨m,hm,rfl⟩
  ·rw[pZ t x,pZ t y,pZ]; rfl
  ·rw[mm t,mm t,mm]; simp only[cD.lt,cD.mid,cD.rt,aL m hm]
  ·rw[ml t,ml t,ml]; simp only[cD.lt,cD.mid,cD.rt,aL m hm]
theorem set_comm (n:Nat) :∀ (t:cD α) (k:Nat) (x y:α),n≠k->(t.set n x).set k y=(t.set k y).set n x:=by
 induction n using Nat.strongRecOn with
 | _ n aL=>
  intro t k x y bY;rcases Lc n with rfl | ⟨m,hm,rfl⟩ | ⟨m,hm,rfl⟩<;>rcases Lc k with rfl | ⟨j,am,rfl⟩ | ⟨j,am,rfl⟩
  ·exact absurd rfl bY
  ·rw[pZ t,mm,mm t,pZ]; rfl
  ·rw[pZ t,ml,ml t,pZ]; rfl
  ·rw[mm t,pZ,pZ t,mm]; rfl
  ·rw[mm t,mm,mm t,mm]; simp only[cD.lt,cD.mid,cD.rt]; rw[aL m hm _ j _ _ (by omega)]
  ·rw[mm t,ml,ml t,mm]; rfl
  ·rw[ml t,pZ,pZ t,ml]; rfl
  ·rw[ml t,mm,mm t,ml]; rfl
  ·rw[ml t,ml,ml t,ml]; simp only[cD.lt,cD.mid,cD.rt]; rw[aL m hm _ j _ _ (by omega)]
end
abbrev av:=List bt
def l4:Nat->cD bt->av->cD bt
 | _,t,[]=>t
 | i,t,c::cs=>l4 (i+1) (t.set i c) cs
def b3 (l:av) :aQ:=⟨l.length,l4 0 .nil l⟩
@[simp] theorem wF (l:av) :(b3 l).n=l.length:=rfl
theorem Vo:∀ (l:av) (i:Nat) (t:cD bt) (c:bt),l4 i t (l++[c])=(l4 i t l).set (i+l.length) c
 | [],i,t,c=>rfl
 | x::l,i,t,c=>by
  simp only[List.cons_append,l4,List.length_cons];rw[Vo l,show i+1+l.length=i+(l.length+1) by omega]
theorem lb (l:av) (c:bt) :(b3 l).push c=b3 (l++[c]) :=by
 unfold b3 aQ.push;rw[Vo];simp
theorem Vr:∀ (l:av) (i j:Nat) (t:cD bt) (c:bt),i<j->(l4 j t l).set i c=l4 j (t.set i c) l
 | [],_,_,_,_,_=>rfl
 | x::l,i,j,t,c,h=>by
  simp only[l4];rw[Vr l i (j+1) _ c (by omega),set_comm j t i x c (by omega)]
theorem Vq:∀ (l:av) (i b:Nat) (t:cD bt) (c:bt),b<l.length->(l4 i t l).set (i+b) c=l4 i t (l.set b c)
 | [],_,_,_,_,h=>by simp at h
 | x::l,i,0,t,c,_=>by
  simp only[l4,List.set_cons_zero,Nat.add_zero];rw[Vr l i (i+1) _ c (by omega),aoP]
 | x::l,i,b+1,t,c,h=>by
  simp only[l4,List.set_cons_succ];rw[<-Vq l (i+1) b _ c (by simpa using h),show i+(b+1)=i+1+b by omega]
theorem m0 {l:av} {b:Nat} (c:bt) (h:b<l.length) :(b3 l).set b c=b3 (l.set b c) :=by
 unfold b3 aQ.set;have:=Vq l 0 b .nil c h;rw[Nat.zero_add] at this;simp only[this,List.length_set]
theorem Vp:∀ (l:av) (i:Nat) (t:cD bt) (b:Nat),(l4 i t l).get b=if i<=b/\b<i+l.length then l[b - i]? else t.get b
 | [],i,t,b=>by simp only[l4,List.length_nil]; rw[if_neg (by omega)]
 | x::l,i,t,b=>by
  simp only[l4,List.length_cons];rw[Vp l,cD.Cx];by_cases h1:i+1<=b/\b<i+1+l.length
  ·rw[if_pos h1,if_pos (by omega),show b - i=(b - (i+1))+1 by omega,List.getElem?_cons_succ]
  ·rw[if_neg h1];by_cases ag:b=i
   ·subst ag; rw[if_pos rfl,if_pos (by omega)]; simp
   ·rw[if_neg ag,if_neg (by omega)]
theorem n1 (l:av) (b:Nat) :(b3 l).f b=match l[b]? with | some c=>c | none=>.none:=by
 unfold b3 aQ.f;simp only[Vp,Nat.zero_le,true_and,Nat.zero_add,Nat.sub_zero];by_cases h:b<l.length
 ·rw[if_pos h]; cases l[b]?<;>rfl
 ·rw[if_neg h,List.getElem?_eq_none (by omega)]; rfl
theorem mv {l:av} {b n:Nat} {cs:List ae}:(b3 l).f b=.cells n cs<->l[b]? = some (.cells n cs) :=by
 rw[n1];cases h:l[b]? with
 | none=>simp
 | some c=>simp
theorem e9 {l:av} {b:Nat} {c:bt} (h:l[b]? = some c) :b<l.length:=(List.getElem?_eq_some_iff.1 h).1
def eC (l:av) :ae->Option (List ae × Nat)
 | .ptr b off sz=>match l[b]? with
  | some (.cells n cs)=>if n=sz then some (cs,off) else none
  | _=>none
 | .cq cs off=>some (cs,off)
 | _=>none
def rg (n:Nat) (cs:List ae) (off:Nat) :Option ae:=if off+n<=cs.length then some (.aV ((cs.drop off).take n)) else none
def jF (n:Nat) (l:av) (p v:ae) :Option av:=
 match p,v.cells with
 | .ptr b off sz,some vs=>match l[b]? with
  | some (.cells m cs)=>if m=sz/\vs.length=n/\off+n<=m then some (l.set b (.cells m (bS cs off vs))) else none
  | _=>none
 | _,_=>none
def dv (l:av) (z:Nat) :ae->Option (List ae × Nat)
 | .aX=>some ([],0)
 | .b0 di es=>if z=di then some (es.flatten,es.length) else none
 | .ao di b off len _ sz=>match l[b]? with
  | some (.cells n cs)=>if n=sz/\z=di then some ((cs.drop off).take (len*z),len) else none
  | _=>none
 | .str s=>if z=1 then some (s.map iq,s.length) else none
 | _=>none
def h0 (l:av) (z by_:Nat) (s:ae) (xs:List ae) (n:Nat) :Option (ae × av) :=
 if n=0 then (match s with | .aX | .b0 .. | .ao ..=>some (s,l) | _=>none)
 else if z=0\/by_=0 then none else match s with
  | .aX=>if n*by_<=cT then some (.ao z l.length 0 n n (n*z),l++[.cells (n*z) xs]) else none
  | .ao di b off len cap sz=>match l[b]? with
   | some (.cells m cs)=>
    if m=sz/\z=di/\(len+n)*by_<=cT then
     if len+n<=cap then some (.ao z b off (len+n) cap sz,l.set b (.cells m (bS cs (off+len*z) xs)))
     else if off+cap*z<sz then some (.ao z l.length 0 (len+n) (len+n) ((len+n)*z),l++[.cells ((len+n)*z) ((cs.drop off).take (len*z)++xs)])
     else if off=0 then some (.ao z b 0 (len+n) (len+n) ((len+n)*z),l.set b (.cells ((len+n)*z) (cs.take (len*z)++xs)))
     else some (.ao z l.length 0 (len+n) (len+n) ((len+n)*z),l.set b .dead++[.cells ((len+n)*z) ((cs.drop off).take (len*z)++xs)])
    else none
   | _=>none
  | _=>none
def wX (z:Nat) (l:av) (d x:ae) :Option (ae × av) :=
 match dv l z x with
 | none=>none
 | some (xs,n)=>match d with
  | .aX=>some (.int .i64 0,l)
  | .ao di b off len _ sz=>match l[b]? with
   | some (.cells m cs)=>if m=sz/\z=di then some (.int .i64 ((min n len:Nat) :Int),l.set b (.cells m (bS cs off (xs.take (min n len*z))))) else none
   | _=>none
  | _=>none
def q2 (l:av) :ae->Option (List (ae × ae × Nat))
 | .g6=>some []
 | .mp b=>match l[b]? with | some (.map es _)=>some es | _=>none
 | _=>none
def m7 (l:av) (x:ae) :Option (List UInt8) :=match x with
 | .str s=>some s
 | x=>match dv l 1 x with
  | some (cs,_)=>lO cs
  | none=>none
def cmpL (l:av) (x y:ae) :Option ae:=match m7 l x,m7 l y with
 | some a,some b=>some (.int .i64 (mA a b))
 | _,_=>none
def sM (l:av) (x:ae) :Option (ae × av) :=match x with
 | .it b=>match l[b]? with
  | some (.iter s pos)=>match Nat.blt pos s.length with
   | true=>some (.bU [.bool true,.int .i64 pos,.int .i32 (Utf8.decode ⟨s.toArray⟩ pos).1],l.set b (.iter s (pos+(Utf8.decode ⟨s.toArray⟩ pos).2)))
   | false=>some (.bU [.bool false],l)
  | _=>none
 | _=>none
def yv (l:av) (x:ae) :Option (ae × av) :=match x with
 | .str s=>some (.it l.length,l++[.iter s 0])
 | _=>none
def AV (l:av) (x:ae) :Option ae:=match x with
 | .g6=>some (.int .i64 0)
 | .mp b=>match l[b]? with | some (.map es _)=>some (.int .i64 es.length) | _=>none
 | _=>none
def qm (zero:List ae) (l:av) :ae->Option av
 | .aX=>some l
 | .b0 _ []=>some l
 | .ao z b off len _ sz=>if len=0 then some l else match l[b]? with
  | some (.cells m cs)=>if m=sz/\zero.length=z then some (l.set b (.cells m (bS cs off (dm zero len)))) else none
  | _=>none
 | _=>none
theorem N6 (l:av) (p:ae) :reach (b3 l) p=eC l p:=by
 cases p<;>try rfl
 rename_i b off sz;simp only[reach,eC,n1];cases l[b]? with
 | none=>rfl
 | some c=>cases c<;>rfl
theorem zt (l:av) (z:Nat) (x:ae) :contents (b3 l) z x=dv l z x:=by
 cases x<;>try rfl
 rename_i di b off len cap sz;simp only[contents,dv,n1];cases l[b]? with
 | none=>rfl
 | some c=>cases c<;>rfl
section
variable (P:Program)
inductive i4 where
 | arr (n z:Nat)
 | ao (z:Nat)
 | str
 deriving DecidableEq
def nS (t:TypeId) :Option i4:=match P.underlying t with
 | some (.array n e)=>(cz P e).map fun z=>.arr n z
 | some (.slice e)=>(cz P e).map fun z=>.ao z
 | some .string=>some .str
 | _=>none
inductive a6 where
 | aq (x:Operand)
 | pick (c a b:Operand)
 | alloc (zero:List ae)
 | box (x:Operand)
 | eh (zero:List ae) (cH:List (Nat × Nat × Operand))
 | cQ (z:Nat) (zero:List ae) (len:Nat) (cH:List (Nat × Operand))
 | ld1 (a:Operand)
 | aW (n:Nat) (a:Operand)
 | st (n:Nat) (a x:Operand)
 | mg (x:Operand)
 | bin (o:BinOp) (t:TypeId) (x y:Operand)
 | un (o:UnOp) (x:Operand)
 | cB (k:IntKind) (x:Operand)
 | wY (x:Operand)
 | rR (x:Operand)
 | qp (x:Operand)
 | sK (t:TypeId) (x:Operand)
 | yF (t:TypeId) (z:ae) (ok:Bool) (x:Operand)
 | pM (f:FuncId) (first ft:List Operand)
 | lB (z by_:Nat) (zero:List ae) (l c:Operand)
 | slice (db:i4) (x:Operand) (cW aA cI:Option Operand)
 | aO (off:Nat) (x:Operand)
 | w8 (off:Nat) (x:Operand)
 | w9 (n off:Nat) (x:Operand)
 | bm (db:i4) (x i:Operand)
 | v1 (n z:Nat) (x i:Operand)
 | AL (n z:Nat) (x i:Operand)
 | pC (x i:Operand)
 | ext (x:Operand) (i:Nat)
 | len (db:i4) (x:Operand)
 | cap (db:i4) (x:Operand)
 | app (z by_:Nat) (s x:Operand)
 | qg (z by_:Nat) (zero:List ae) (s x:Operand)
 | tw (z:Nat) (d x:Operand)
 | qn (zero:List ae) (x:Operand)
 | min (x y:Operand)
 | max (x y:Operand)
 | pN (x:Option Operand)
 | sH (cP:TypeId) (zero:ae) (ok:Bool) (m k:Operand)
 | q4 (cP:TypeId) (m k x:Operand)
 | ul (x:Operand)
 | sW (x:Operand)
 | sN (x:Operand)
 | cN (f:FuncId) (qt x y:Operand)
 | stop
def um (l:av) (cP:TypeId) (zero:ae) (ok:Bool) (m k:ae) :Option ae:=
 match q2 l m with
 | some es=>match j5 P cP k with
  | false=>none
  | true=>match iQ P cP k es 0 with
   | some (some (_,v))=>some (if ok then .bU [v,.bool true] else v)
   | some none=>some (if ok then .bU [zero,.bool false] else zero)
   | none=>none
 | none=>none
def q3 (l:av) (cP:TypeId) (m k v:ae) :Option av:=
 match m with
 | .mp b=>match l[b]? with
  | some (.map es ei)=>match j5 P cP k with
   | false=>none
   | true=>match iQ P cP k es 0 with
    | some (some (i,_))=>some (l.set b (.map (es.modify i fun e=>(k,v,e.2.2)) ei))
    | some none=>some (l.set b (.map (es++[(k,v,ei)]) (ei+1)))
    | none=>none
  | _=>none
 | _=>none
def AJ (f:FuncId) :ae->Bool | .fn g [] []=>Nat.beq g f | _=>false
def A9 (c a b:ae) :Option ae:=match c with | .bool t=>some (if t then a else b) | _=>none
def wg (x:ae) :Option ae:=match x with | .ptr b o s=>some (.ptr b o s) | .cq c o=>some (.cq c o) | .fn f a b=>some (.fn f a b) | _=>none
def od (zero:List ae) :List (Nat × Nat × ae)->Option (List ae)
 | []=>some zero
 | (off,size,v) ::r=>match v.cells with
  | some vs=>if vs.length=size/\off+size<=zero.length then od (bS zero off vs) r else none
  | none=>none
def zl (k:IntKind) :ae->Option ae | .int _ n=>some (.int k (k.wrap n)) | _=>none
def Cg:ae->Option ae | .str s=>some (.str s) | _=>none
def tm (l:av) (x:ae) :Option ae:=match x with
 | .aX=>some (.str [])
 | .str _=>none
 | x=>match dv l 1 x with | some (cs,_)=>(lO cs).map .str | none=>none
def tx:ae->Option ae | .str s=>some (.b0 1 (s.map fun b=>[iq b])) | _=>none
def pO (z by_:Nat) (zero:List ae) (au:av) (l c:ae) :Option (ae × av) :=match l,c with
 | .int _ l,.int _ c=>if 0<=l/\l<=c/\c<9223372036854775808/\by_*c<=cT then
   some (.ao z au.length 0 l.toNat c.toNat (c.toNat*z),au++[.cells (c.toNat*z) (dm zero c.toNat)]) else none
 | _,_=>none
def fQ (db:i4) (x:ae) (cW aA cI:Option ae) :Option ae:=
 match db with
 | .arr n z=>match gd n n cW aA cI with
  | some (l,aN,m)=>match x with
   | .ptr b off sz=>if off+m*z<=sz then (if m=l then some (.b0 z []) else some (.ao z b (off+l*z) (aN - l) (m - l) sz)) else none
   | .cq cs off=>if off+n*z<=cs.length then some (.b0 z (kJ z (aN - l) (cs.drop (off+l*z)))) else none
   | _=>none
  | none=>none
 | .ao z=>match x with
  | .ao di b off len cap sz=>if z=di then (gd len cap cW aA cI).map fun (l,aN,m)=>if m=l then .ao z b (off+l*z) 0 0 sz else .ao z b (off+l*z) (aN - l) (m - l) sz else none
  | .b0 di es=>if z=di then (gd es.length es.length cW aA cI).map fun (l,aN,_)=>.b0 z ((es.drop l).take (aN - l)) else none
  | .aX=>(gd 0 0 cW aA cI).map fun _=>.aX
  | _=>none
 | .str=>match x,cI with
  | .str s,none=>(gd s.length s.length cW aA none).map fun (l,aN,_)=>.str ((s.drop l).take (aN - l))
  | _,_=>none
def zJ (off:Nat) :ae->Option ae | .aV cs=>cs[off]? | _=>none
def xa (n off:Nat) :ae->Option ae | .aV cs=>rg n cs off | _=>none
def cS (db:i4) (x hF:ae) :Option ae:=
 match hF with
 | .int _ i=>match db with
  | .arr n z=>if 0<=i/\i<n then my x (i.toNat*z) else none
  | .ao z=>match x with
   | .ao di b off len _ sz=>if z=di/\0<=i/\i<len then some (.ptr b (off+i.toNat*z) sz) else none
   | .b0 di es=>if z=di/\0<=i then (es[i.toNat]?).map fun cs=>.cq cs 0 else none
   | _=>none
  | .str=>none
 | _=>none
def AM (n z:Nat) (x hF:ae) :Option ae:=match x,hF with
 | .aV cs,.int _ i=>if 0<=i/\i<n then cs[i.toNat*z]? else none
 | _,_=>none
def AN (n z:Nat) (x hF:ae) :Option ae:=match x,hF with
 | .aV cs,.int _ i=>if 0<=i/\i<n then rg z cs (i.toNat*z) else none
 | _,_=>none
def v2 (x hF:ae) :Option ae:=match x,hF with
 | .str s,.int _ i=>if 0<=i then (s[i.toNat]?).map iq else none
 | _,_=>none
def zH (x:ae) (i:Nat) :Option ae:=match x with | .bU vs=>vs[i]? | _=>none
def c8 (db:i4) (x:ae) :Option ae:=match db with
 | .arr n _=>some (.int .i64 n)
 | .ao _=>match x with
  | .aX=>some (.int .i64 0)
  | .ao _ _ _ len _ _=>some (.int .i64 len)
  | .b0 _ es=>some (.int .i64 es.length)
  | _=>none
 | .str=>match x with | .str s=>some (.int .i64 s.length) | _=>none
def rQ (db:i4) (x:ae) :Option ae:=match db with
 | .arr n _=>some (.int .i64 n)
 | .ao _=>match x with | .aX=>some (.int .i64 0) | _=>none
 | .str=>none
def iL (l:av) (z by_:Nat) (s x:ae) :Option (ae × av) :=match dv l z x with
 | none=>none
 | some (xs,n)=>h0 l z by_ s xs n
def pe (l:av) (z by_:Nat) (zero:List ae) (s x:ae) :Option (ae × av) :=match x with
 | .int _ n=>if 0<=n/\n<9223372036854775808/\n.toNat*by_<=cT then h0 l z by_ s (dm zero n.toNat) n.toNat else none
 | _=>none
def dq (l:av) (x:Option ae) :Option (ae × av) :=x.map fun v=>(v,l)
def bW (aD:Operand->ae) (l:av) :a6->Option (ae × av)
 | .aq x=>some (aD x,l)
 | .pick c a b=>dq l (A9 (aD c) (aD a) (aD b))
 | .alloc zero=>some (.ptr l.length 0 zero.length,l++[.cells zero.length zero])
 | .box x=>(aD x).cells.map fun cs=>(.ptr l.length 0 cs.length,l++[.cells cs.length cs])
 | .eh zero cH=>dq l ((od zero (cH.map fun p=>(p.1,p.2.1,aD p.2.2))).map .aV)
 | .cQ z zero len cH=>(gZ (fun i=>some (i*z,z)) (dm zero len) (cH.map fun p=>(p.1,aD p.2))).map fun cs=>(.ao z l.length 0 len len (len*z),l++[.cells (len*z) cs])
 | .ld1 a=>dq l ((eC l (aD a)).bind fun x=>x.1[x.2]?)
 | .aW n a=>dq l ((eC l (aD a)).bind fun x=>rg n x.1 x.2)
 | .st n a x=>(jF n l (aD a) (aD x)).map fun l'=>(gT,l')
 | .mg x=>dq l (wg (aD x))
 | .bin o t x y=>dq l (gc P o t (aD x) (aD y))
 | .un o x=>dq l (o1 o (aD x))
 | .cB k x=>dq l (zl k (aD x))
 | .wY x=>dq l (Cg (aD x))
 | .rR x=>dq l (tm l (aD x))
 | .qp x=>dq l (tx (aD x))
 | .sK t x=>some (.gg t (aD x),l)
 | .yF t z ok x=>dq l (yG t z ok (aD x))
 | .pM f a b=>some (.fn f (a.map aD) (b.map aD),l)
 | .lB z by_ zero a c=>pO z by_ zero l (aD a) (aD c)
 | .slice db x cW aA cI=>dq l (fQ db (aD x) (cW.map aD) (aA.map aD) (cI.map aD))
 | .aO off x=>dq l (my (aD x) off)
 | .w8 off x=>dq l (zJ off (aD x))
 | .w9 n off x=>dq l (xa n off (aD x))
 | .bm db x i=>dq l (cS db (aD x) (aD i))
 | .v1 n z x i=>dq l (AM n z (aD x) (aD i))
 | .AL n z x i=>dq l (AN n z (aD x) (aD i))
 | .pC x i=>dq l (v2 (aD x) (aD i))
 | .ext x i=>dq l (zH (aD x) i)
 | .len db x=>dq l (c8 db (aD x))
 | .cap db x=>dq l (rQ db (aD x))
 | .app z by_ s x=>iL l z by_ (aD s) (aD x)
 | .qg z by_ zero s x=>pe l z by_ zero (aD s) (aD x)
 | .tw z d x=>wX z l (aD d) (aD x)
 | .qn zero x=>(qm zero l (aD x)).map fun l'=>(.bU [],l')
 | .min x y=>dq l (yb (aD x) (aD y))
 | .max x y=>dq l (sJ (aD x) (aD y))
 | .pN x=>match x with
  | none=>some (.mp l.length,l++[.map [] 0])
  | some o=>match asInt (aD o) with | some _=>some (.mp l.length,l++[.map [] 0]) | none=>none
 | .sH cP zero ok m k=>dq l (um P l cP zero ok (aD m) (aD k))
 | .q4 cP m k x=>(q3 P l cP (aD m) (aD k) (aD x)).map fun l'=>(gT,l')
 | .ul x=>dq l (AV l (aD x))
 | .sW x=>yv l (aD x)
 | .sN x=>sM l (aD x)
 | .cN f qt x y=>match AJ f (aD qt) with | true=>dq l (cmpL l (aD x) (aD y)) | false=>none
 | .stop=>none
def Fy (t:TypeId) (cH:List (Nat × Operand)) :Option (List (Nat × Nat × Operand)) :=
 match P.underlying t with
 | some (.struct fs)=>if fs.toList.all fun f=>(cz P f.type).isSome then cH.mapM fun p=>(Ba P fs p.1).map fun q=>(q.1,q.2,p.2) else none
 | some (.array _ e)=>(cz P e).map fun n=>cH.map fun p=>(p.1*n,n,p.2)
 | _=>none
def tt (b:Builtin) (ts:List TypeId) (args:List Operand) :Option a6:=
 match b,ts,args with
 | .len,[t],[x]=>match P.underlying t with
  | some (.map _ _)=>some (.ul x)
  | _=>(nS P t).map fun db=>.len db x
 | .cap,[t],[x]=>(nS P t).map fun db=>.cap db x
 | .append,[t,u],[s,x]=>match P.underlying u with
  | some (.int _)=>(hQ P t).bind fun e=>(cz P e).bind fun z=>(iO P e).bind fun by_=>(g9 P e).bind fun zero=>
    if zero.length=z/\ry P e=some z then some (.qg z by_ zero s x) else none
  | none=>none
  | _=>(hQ P t).bind fun e=>(cz P e).bind fun z=>(iO P e).bind fun by_=>if ry P e=some z then some (.app z by_ s x) else none
 | .copy,[t,_],[d,x]=>(hQ P t).bind fun e=>(cz P e).map fun z=>.tw z d x
 | .clear,[t],[x]=>match P.underlying t with
  | some (.slice e)=>(g9 P e).map fun zero=>.qn zero x
  | _=>none
 | .min,_,[x,y]=>some (.min x y)
 | .max,_,[x,y]=>some (.max x y)
 | _,_,_=>none
def mB:Op->Option a6
 | .move x | .assign x=>some (.aq x)
 | .pick c a b=>some (.pick c a b)
 | .alloc t=>(g9 P t).map .alloc
 | .box _ x=>some (.box x)
 | .build t cH=>(g9 P t).bind fun zero=>(Fy P t cH.toList).map fun q=>.eh zero q
 | .buildSlice t len cH=>(hQ P t).bind fun e=>(cz P e).bind fun z=>(g9 P e).bind fun zero=>
   if zero.length=z/\len*z<=16777216 then some (.cQ z zero len cH.toList) else none
 | .load t a=>match dM P t,cz P t with
  | some true,some n=>some (.aW n a)
  | some false,_=>some (.ld1 a)
  | _,_=>none
 | .store t a x=>(cz P t).map fun n=>.st n a x
 | .nilCheck x=>some (.mg x)
 | .binOp o t x y _=>some (.bin o t x y)
 | .unOp o _ x=>some (.un o x)
 | .convert s d x=>match P.underlying s,P.underlying d with
  | some _,some (.int k)=>some (.cB k x)
  | some (.slice e),some .string=>match P.underlying e with
   | some (.int .u8)=>some (.rR x)
   | _=>none
  | some .string,some .string=>some (.wY x)
  | some .string,some (.slice e)=>match P.underlying e with
   | some (.int .u8)=>some (.qp x)
   | _=>none
  | _,_=>none
 | .makeInterface t x=>match P.underlying t with
  | some (.interface _) | none=>none
  | _=>some (.sK t x)
 | .makeFunc (.func f) a b=>some (.pM f a.toList b.toList)
 | .makeSlice t l c=>(hQ P t).bind fun e=>(cz P e).bind fun z=>(iO P e).bind fun by_=>(g9 P e).bind fun zero=>
   if zero.length=z then some (.lB z by_ zero l c) else none
 | .slice t x cW aA cI=>(nS P t).map fun db=>.slice db x cW aA cI
 | .fieldAddr s x f=>(vi P s f).bind fun fd=>match cz P fd.type with
  | some (_+1)=>some (.aO fd.offset x)
  | _=>none
 | .field t x f=>(vi P t f).bind fun fd=>match dM P fd.type,cz P fd.type with
  | some true,some n=>some (.w9 n fd.offset x)
  | some false,_=>some (.w8 fd.offset x)
  | _,_=>none
 | .indexAddr t x i=>match nS P t with
  | some (.arr n z)=>some (.bm (.arr n z) x i)
  | some (.ao z)=>some (.bm (.ao z) x i)
  | _=>none
 | .index t x i=>match P.underlying t with
  | some (.array n e)=>match cz P e,dM P e with
   | some z,some true=>some (.AL n z x i)
   | some z,some false=>some (.v1 n z x i)
   | _,_=>none
  | some .string=>some (.pC x i)
  | _=>none
 | .extract x i=>some (.ext x i)
 | .call c=>match c.callee with
  | .builtin b=>tt P b c.argTypes.toList c.args.toList
  | .value (.func f)=>match P.funcs[f]?,c.args.toList with
   | some fn,[x,y]=>if AI fn then some (.cN f (.func f) x y) else none
   | _,_=>none
  | _=>none
 | .makeMap t r=>match P.underlying t with | some (.map _ _)=>some (.pN r) | _=>none
 | .lookup t m k ok=>match P.underlying t with | some (.map cP lj)=>(wC P lj).map fun z=>.sH cP z ok m k | _=>none
 | .mapUpdate t m k x | .insert t m k x=>match P.underlying t with | some (.map cP _)=>some (.q4 cP m k x) | _=>none
 | .range t x=>match P.underlying t with | some .string=>some (.sW x) | _=>none
 | .next it true=>some (.sN it)
 | .panic _=>some .stop
 | .typeAssert x _ t ok=>(EJ P t).map fun z=>.yF t z ok x
 | _=>none
end
section
variable {P:Program}
theorem bind_some {α i2:Type} {x:Option α} {f:α->Option i2} {y:i2}:x.bind f=some y<->∃ a,x=some a/\f a=some y:=by cases x<;>simp
theorem map_some {α i2:Type} {x:Option α} {f:α->i2} {y:i2}:x.map f=some y<->∃ a,x=some a/\f a=y:=by cases x<;>simp
theorem fP {l l' : av} {x:Option ae} {v:ae}:dq l x=some (v,l')<->x=some v/\l'=l:=by cases x<;>simp[dq,eq_comm]
theorem hE {α:Type} {p:Prop} [Decidable p] {x y:α}:(if p then some x else none)=some y<->p/\x=y:=by by_cases p<;>simp_all
theorem PJ {l l' : av} {e z by_ n:Nat} {s v:ae} {xs:List ae} (aB:ry P e=some z) (h:h0 l z by_ s xs n=some (v,l')) :te P (b3 l) e z by_ s xs n=some (v,b3 l') :=by
 unfold h0 at h;unfold te;by_cases aH:n=0
 ·rw[if_pos aH] at h ⊢;cases s<;>simp at h ⊢<;>simp[h]
 ·rw[if_neg aH] at h ⊢;by_cases aT:z=0\/by_=0
  ·rw[if_pos aT] at h; cases h
  ·rw[if_neg aT] at h;rw[if_neg (by simp only[aB]; simpa using aT)];cases s<;>simp only at h ⊢<;>try (cases h; done)
   case aX=>
    by_cases aC:n*by_<=cT
    ·rw[if_pos aC] at h ⊢; cases h; rw[lb]; rfl
    ·rw[if_neg aC] at h; cases h
   case ao di b off len cap sz=>
    cases ai:l[b]? with
    | none=>rw[ai] at h; cases h
    | some c=>
     cases c<;>rw[ai] at h<;>(try simp only at h)<;>try (cases h; done)
     rename_i m cs;rw[mv.2 ai];simp only;by_cases h1:m=sz/\z=di/\(len+n)*by_<=cT
     ·rw[if_pos h1] at h ⊢;by_cases ag:len+n<=cap
      ·rw[if_pos ag] at h ⊢; cases h; rw[m0 _ (e9 ai)]
      ·rw[if_neg ag] at h ⊢;by_cases ap:off+cap*z<sz
       ·rw[if_pos ap] at h ⊢; cases h; rw[lb]; rfl
       ·rw[if_neg ap] at h ⊢;by_cases aJ:off=0
        ·rw[if_pos aJ] at h ⊢; cases h; rw[m0 _ (e9 ai)]
        ·rw[if_neg aJ] at h ⊢; cases h;rw[m0 _ (e9 ai),lb]; rfl
     ·rw[if_neg h1] at h; cases h
theorem aeJ {t:TypeId} {cH:List (Nat × Operand)} {q:List (Nat × Nat × Operand)} (bp:Fy P t cH=some q) (aD:Operand->ae) (zero:List ae) (aB:g9 P t=some zero) {cs:List ae}
  (ai:od zero (q.map fun p=>(p.1,p.2.1,aD p.2.2))=some cs) :ze P t (cH.map fun p=>(p.1,aD p.2))=some (.aV cs) :=by
 have fill:∀ (j8:Nat->Option (Nat × Nat)) (cH:List (Nat × Operand)) (q:List (Nat × Nat × Operand)) (zero:List ae),
   (cH.mapM fun p=>(j8 p.1).map fun q=>(q.1,q.2,p.2))=some q->od zero (q.map fun p=>(p.1,p.2.1,aD p.2.2))=some cs->gZ j8 zero (cH.map fun p=>(p.1,aD p.2))=some cs:=by
  intro j8 cH
  induction cH with
  | nil=>intro q zero h1 ag; simp at h1; subst h1; simpa [od,gZ] using ag
  | cons p cH aL=>
   intro q zero h1 ag;rw[List.mapM_cons] at h1;simp only[Option.bind_eq_bind,bind_some,map_some,Option.pure_def,Option.some.injEq] at h1;obtain⟨a,⟨eL,ap,rfl⟩,fe,aJ,rfl⟩:=h1;simp only[List.map_cons,od,gZ,ap] at ag ⊢;split at ag
   ·rename_i vs ax;simp only[ax];split at ag
    ·rename_i bd;rw[if_pos bd];exact aL _ _ aJ ag
    ·cases ag
   ·cases ag
 unfold Fy at bp;unfold ze;split at bp
 ·rename_i fs aM;rw[aB,aM];simp only;split at bp
  ·rename_i eG;rw[if_neg (by simp[eG])];rw[fill _ _ _ _ bp ai]; rfl
  ·cases bp
 ·rename_i n e aM;rw[map_some] at bp;obtain⟨gB,h1,rfl⟩:=bp;rw[aB,aM];simp only[h1];rw[fill (fun i=>some (i*gB,gB)) cH _ zero ?_ ai]; rfl;clear ai
  induction cH with
  | nil=>rfl
  | cons p cH aL=>rw[List.mapM_cons,aL]; rfl
 ·cases bp
theorem aoW {t:TypeId} {db:i4} (aU:nS P t=some db) (x:ae) (cW aA cI:Option ae) :fQ db x cW aA cI=Bu P t x cW aA cI:=by
 unfold nS at aU;unfold Bu;split at aU
 ·rename_i n e aM;rw[map_some] at aU;obtain⟨z,h1,rfl⟩:=aU;rw[aM]; simp only[h1,fQ];cases gd n n cW aA cI<;>rfl
 ·rename_i e aM;rw[map_some] at aU;obtain⟨z,h1,rfl⟩:=aU;rw[aM]; simp only[h1,fQ];cases x<;>rfl
 ·rename_i aM;cases aU;rw[aM]; simp only[fQ];cases x<;>cases cI<;>rfl
 ·cases aU
theorem alK {t:TypeId} {db:i4} (aU:nS P t=some db) {x v:ae} (h:c8 db x=some v) :v8 P t x=some v:=by
 unfold nS at aU;unfold v8;split at aU
 ·rename_i n e aM;rw[map_some] at aU;obtain⟨z,h1,rfl⟩:=aU;rw[aM]; simpa [c8] using h
 ·rename_i e aM;rw[map_some] at aU;obtain⟨z,h1,rfl⟩:=aU;rw[aM]; unfold c8 at h; cases x<;>simp_all
 ·rename_i aM;cases aU;rw[aM]; unfold c8 at h; cases x<;>simp_all
 ·cases aU
theorem afA {t:TypeId} {db:i4} (aU:nS P t=some db) {x v:ae} (h:rQ db x=some v) :wR P t x=some v:=by
 unfold nS at aU;unfold wR;split at aU
 ·rename_i n e aM;rw[map_some] at aU;obtain⟨z,h1,rfl⟩:=aU;rw[aM]; simpa [rQ] using h
 ·rename_i e aM;rw[map_some] at aU;obtain⟨z,h1,rfl⟩:=aU;rw[aM]; unfold rQ at h; cases x<;>simp_all
 ·rename_i aM;cases aU;rw[aM]; unfold rQ at h; cases x<;>simp_all
 ·cases aU
theorem Wj {t:TypeId} {db:i4} (aU:nS P t=some db) {x i v:ae} (h:cS db x i=some v) :AG P t x i=some v:=by
 unfold nS at aU;unfold AG;unfold cS at h;cases i<;>(try simp only at h)<;>try (cases h; done)
 rename_i k i;split at aU
 ·rename_i n e aM;rw[map_some] at aU;obtain⟨z,h1,rfl⟩:=aU;rw[aM]; simpa [asInt,h1] using h
 ·rename_i e aM;rw[map_some] at aU;obtain⟨z,h1,rfl⟩:=aU;rw[aM]; simp only[asInt,h1]; simp only at h;cases x<;>simp only at h ⊢<;>first | exact h | cases h
 ·rename_i aM;cases aU;simp only at h;cases h
 ·cases aU
theorem aps {t:TypeId} {n:Nat} (ar:cz P t=some n) {l l' : av} {p v:ae} (h:jF n l p v=some l') :yD P (b3 l) t p v=some (b3 l') :=by
 unfold jF at h;unfold yD;cases p<;>(try simp only at h)<;>try (cases h; done)
 rename_i b off sz;cases ax:v.cells with
 | none=>rw[ax] at h; cases h
 | some vs=>
  rw[ax] at h;simp only[ar] at h ⊢;cases ai:l[b]? with
  | none=>rw[ai] at h; cases h
  | some c=>
   cases c<;>rw[ai] at h<;>(try simp only at h)<;>try (cases h; done)
   rename_i m cs;rw[mv.2 ai];simp only;rw[hE] at h;obtain⟨h1,rfl⟩:=h;rw[if_pos h1,m0 _ (e9 ai)]
theorem af4 {t e:TypeId} {z:Nat} (aw:hQ P t=some e) (ar:cz P e=some z) {l l' : av} {d x v:ae} (h:wX z l d x=some (v,l')) :wW P (b3 l) t d x=some (v,b3 l') :=by
 unfold wX at h;unfold wW;rw[aw]; simp only[ar,zt];cases al:dv l z x with
 | none=>rw[al] at h; cases h
 | some p=>
  obtain⟨xs,n⟩:=p;rw[al] at h;simp only at h ⊢;cases d<;>simp only at h ⊢<;>try (cases h; done)
  case aX=>cases h; rfl
  case ao di b off len cap sz=>
   cases ai:l[b]? with
   | none=>rw[ai] at h; cases h
   | some c=>
    cases c<;>rw[ai] at h<;>(try simp only at h)<;>try (cases h; done)
    rename_i m cs;rw[mv.2 ai];simp only;rw[hE] at h;obtain⟨h1,ag⟩:=h;cases ag;rw[if_pos h1,m0 _ (e9 ai)]
theorem afL {t e:TypeId} {zero:List ae} (aM:P.underlying t=some (.slice e)) (aB:g9 P e=some zero) {l l' : av} {x:ae} (h:qm zero l x=some l') :wT P (b3 l) t x=some (b3 l') :=by
 unfold qm at h;unfold wT;rw[aM];cases x<;>(try simp only at h)<;>try (cases h; done)
 case aX=>cases h; rfl
 case b0 z es=>cases es<;>simp only at h<;>cases h; rfl
 case ao z b off len cap sz=>
  simp only;by_cases aT:len=0
  ·rw[if_pos aT] at h ⊢; cases h; rfl
  ·rw[if_neg aT] at h ⊢;rw[aB];cases ai:l[b]? with
   | none=>rw[ai] at h; cases h
   | some c=>
    cases c<;>rw[ai] at h<;>(try simp only at h)<;>try (cases h; done)
    rename_i m cs;rw[mv.2 ai];simp only;rw[hE] at h;obtain⟨h1,rfl⟩:=h;rw[if_pos h1,m0 _ (e9 ai)]
theorem X7 {t cP lj:TypeId} (aM:P.underlying t=some (.map cP lj)) {l l' : av} {m k x:ae} (h:q3 P l cP m k x=some l') :wd P (b3 l) t m k x=some (b3 l') :=by
 unfold q3 at h;unfold wd;rw[aM];cases m<;>(try simp only at h)<;>try (cases h; done)
 rename_i b;simp only[n1];cases ai:l[b]? with
 | none=>rw[ai] at h; cases h
 | some c=>
  cases c<;>rw[ai] at h<;>simp only at h<;>try (cases h; done)
  rename_i es ei;simp only;cases hk:j5 P cP k with
  | false=>rw[hk] at h; cases h
  | true=>
   rw[hk] at h;simp only at h ⊢;cases aI:iQ P cP k es 0 with
   | none=>rw[aI] at h; cases h
   | some r=>
    rw[aI] at h;cases r with
    | none=>cases h; simp only[m0 _ (e9 ai)]
    | some ui=>cases h; simp only[m0 _ (e9 ai)]
theorem alP {t:TypeId} (h1:dM P t=some false) (h:aQ) (p:ae) :q0 P h t p=(reach h p).bind fun x=>x.1[x.2]?:=by
 unfold q0 hh; rw[h1]; cases reach h p<;>rfl
theorem alQ {t:TypeId} {n:Nat} (h1:dM P t=some true) (ag:cz P t=some n) (h:aQ) (p:ae) :q0 P h t p=(reach h p).bind fun x=>rg n x.1 x.2:=by
 unfold q0 hh; rw[h1,ag]; cases reach h p<;>rfl
theorem aeY {b:Builtin} {ts:List TypeId} {args:List Operand} {m:a6} (hm:tt P b ts args=some m) {aD:Operand->ae} {l l' : av} {v:ae} (h:bW P aD l m=some (v,l')) :
  oe P (b3 l) b ts (args.map aD)=some (.val v (b3 l')) :=by
 unfold tt at hm;split at hm
 ·rename_i yP;split at hm
  ·rename_i k e aM;cases hm;simp only[bW,fP] at h;obtain⟨ag,rfl⟩:=h;unfold AV at ag;simp only[List.map_cons,List.map_nil,oe];cases aj:aD yP<;>rw[aj] at ag<;>(try simp only at ag)<;>try (cases ag; done)
   ·cases ag; simp[v8,wa,aM]
   ·rename_i b;cases ai:l'[b]? with
    | none=>rw[ai] at ag; cases ag
    | some c=>
     cases c<;>rw[ai] at ag<;>simp only at ag<;>try (cases ag; done)
     cases ag;simp[wa,aM,n1,ai]
  ·rw[map_some] at hm;obtain⟨db,h1,rfl⟩:=hm;simp only[bW,fP] at h;obtain⟨ag,rfl⟩:=h;have ap:=alK h1 ag;have aJ:∀ x,wa P (b3 l') _ x=none:=fun x=>by
    unfold nS at h1;unfold wa;split at h1<;>first | (rename_i aM; rw[aM]; done) | (cases h1; done) | skip
    all_goals (rename_i aM; simp only[aM])
   simp only[List.map_cons,List.map_nil,oe,aJ];simp[ap]
 ·rw[map_some] at hm;obtain⟨db,h1,rfl⟩:=hm;simp only[bW,fP] at h;obtain⟨ag,rfl⟩:=h;simp[oe,afA h1 ag]
 ·rename_i t u s x;simp only[List.map_cons,List.map_nil,oe];split at hm
  ·rename_i aM;simp only[bind_some] at hm;obtain⟨e,h1,z,ag,by_,ap,zero,aJ,hm⟩:=hm;rw[hE] at hm;obtain⟨⟨bd,bL⟩,rfl⟩:=hm;simp only[bW] at h;unfold pe at h;cases aj:aD x<;>rw[aj] at h<;>(try simp only at h)<;>try (cases h; done)
   rename_i k n;by_cases eN:0<=n/\n<9223372036854775808/\n.toNat*by_<=cT
   ·rw[if_pos eN] at h;rw[aM];simp only[y9,h1,asInt,ag,ap,aJ];rw[if_pos ⟨bd,eN⟩,PJ bL h]; rfl
   ·rw[if_neg eN] at h; cases h
  ·cases hm
  ·rename_i aH aM;simp only[bind_some] at hm;obtain⟨e,h1,z,ag,by_,ap,hm⟩:=hm;rw[hE] at hm;obtain⟨bL,rfl⟩:=hm;simp only[bW] at h;unfold iL at h;cases al:dv l z (aD x) with
   | none=>rw[al] at h; cases h
   | some p=>
    obtain⟨xs,n⟩:=p;rw[al] at h;simp only at h;have:qh P (b3 l) t (aD s) (aD x)=some (v,b3 l') :=by
     simp only[qh,h1,ag,ap,zt,al];exact PJ bL h
    rw[this];cases bN:P.underlying u with
    | none=>exact absurd bN aM
    | some d=>
     cases d<;>first | rfl | (rename_i k; exact absurd bN (aH k))
 ·simp only[bind_some,map_some] at hm;obtain⟨e,h1,z,ag,rfl⟩:=hm;simp only[bW] at h;simp[oe,af4 h1 ag h]
 ·split at hm
  ·rename_i e aM;rw[map_some] at hm;obtain⟨zero,h1,rfl⟩:=hm;simp only[bW,map_some,Prod.mk.injEq] at h;obtain⟨ce,ag,rfl,rfl⟩:=h;simp[oe,afL aM h1 ag]
  ·cases hm
 ·cases hm;simp only[bW,fP] at h;obtain⟨ag,rfl⟩:=h;simp[oe,ag]
 ·cases hm;simp only[bW,fP] at h;obtain⟨ag,rfl⟩:=h;simp[oe,ag]
 ·cases hm
theorem Ls {t:TypeId} (h1:dM P t=some false) (cs:List ae) (off:Nat) :hh P t cs off=cs[off]?:=by unfold hh; rw[h1]
theorem YF {t:TypeId} {n:Nat} (h1:dM P t=some true) (ag:cz P t=some n) (cs:List ae) (off:Nat) :hh P t cs off=rg n cs off:=by unfold hh; rw[h1,ag]; rfl
theorem FE {s d:TypeId} {x:ae} (h:∀ e,P.underlying d=some (.slice e)->False) :wP P s d x=none:=by
 unfold wP;split
 ·rename_i e ar bN aj;exact (h e aj).elim
 ·rfl
theorem DZ {op:Op} {m:a6} (hm:mB P op=some m) {aD:Operand->ae} {l l' : av} {v:ae} (h:bW P aD l m=some (v,l')) :c1 P (b3 l) aD op=some (.val v (b3 l')) :=by
 cases op<;>simp only[mB] at hm<;>try (cases hm; done)
 case move x=>cases hm; simp only[bW,Option.some.injEq,Prod.mk.injEq] at h; obtain⟨rfl,rfl⟩:=h; rfl
 case assign x=>cases hm; simp only[bW,Option.some.injEq,Prod.mk.injEq] at h; obtain⟨rfl,rfl⟩:=h; rfl
 case pick c a b=>
  cases hm; simp only[bW,fP] at h;obtain⟨ag,rfl⟩:=h;simp only[c1];unfold A9 at ag;cases al:aD c<;>rw[al] at ag<;>(try simp only at ag)<;>try (cases ag; done)
  cases ag; rfl
 case alloc t=>
  rw[map_some] at hm;obtain⟨zero,h1,rfl⟩:=hm;simp only[bW,Option.some.injEq,Prod.mk.injEq] at h;obtain⟨rfl,rfl⟩:=h;simp only[c1,h1,lb]; rfl
 case box t x=>
  cases hm;simp only[bW,map_some,Prod.mk.injEq] at h;obtain⟨cs,h1,rfl,rfl⟩:=h;simp only[c1,h1,lb]; rfl
 case build t cH=>
  simp only[bind_some,map_some] at hm;obtain⟨zero,h1,q,ag,rfl⟩:=hm;simp only[bW,fP,map_some] at h;obtain⟨⟨cs,ap,rfl⟩,rfl⟩:=h;simp only[c1,aeJ ag aD zero h1 ap]; rfl
 case buildSlice t n cH=>
  simp only[bind_some] at hm;obtain⟨e,h1,z,ag,zero,ap,hm⟩:=hm;rw[hE] at hm;obtain⟨aJ,rfl⟩:=hm;simp only[bW,map_some,Prod.mk.injEq] at h;obtain⟨cs,bd,rfl,rfl⟩:=h;simp only[c1,BZ,h1,ag,ap,if_pos aJ,bd,lb]; rfl
 case load t a=>
  split at hm
  ·rename_i n h1 ag;cases hm;simp only[bW,fP] at h;obtain⟨ap,rfl⟩:=h;simp only[c1,alQ h1 ag,N6,ap]; rfl
  ·rename_i h1;cases hm;simp only[bW,fP] at h;obtain⟨ap,rfl⟩:=h;simp only[c1,alP h1,N6,ap]; rfl
  ·cases hm
 case store t a x=>
  rw[map_some] at hm;obtain⟨n,h1,rfl⟩:=hm;simp only[bW,map_some,Prod.mk.injEq] at h;obtain⟨ce,ag,rfl,rfl⟩:=h;simp only[c1,aps h1 ag]; rfl
 case nilCheck x=>
  cases hm;simp only[bW,fP] at h;obtain⟨ag,rfl⟩:=h;simp only[c1];unfold wg at ag;cases al:aD x<;>rw[al] at ag<;>simp only at ag<;>first | (cases ag; done) | (cases ag; rfl)
 case binOp o t x y u=>
  cases hm;simp only[bW,fP] at h;obtain⟨ag,rfl⟩:=h;simp only[c1,ag]; rfl
 case unOp o t x=>
  cases hm;simp only[bW,fP] at h;obtain⟨ag,rfl⟩:=h;simp only[c1,ag]; rfl
 case convert s d x=>
  simp only[c1];split at hm
  ·rename_i hq k ar bN;cases hm;simp only[bW,fP] at h;obtain⟨ag,rfl⟩:=h;rw[FE (fun e aw=>by rw[bN] at aw; cases aw)];unfold zl at ag;cases aj:aD x<;>rw[aj] at ag<;>(try simp only at ag)<;>try (cases ag; done)
   cases ag;simp only[vd,ar,bN]; rfl
  ·rename_i e ar bN;split at hm
   ·rename_i aw;cases hm;simp only[bW,fP] at h;obtain⟨ag,rfl⟩:=h;rw[FE (fun e aw=>by rw[bN] at aw; cases aw)];have:vd P (b3 l') s d (aD x)=some v:=by
     rw[<-ag];unfold vd tm;rw[ar,bN];cases aj:aD x<;>(simp only[aw,zt])<;>(try rfl)<;>(rw[aj] at ag; unfold tm at ag; simp only at ag)
     ·cases ag
     all_goals (cases al:dv l' 1 _<;>rfl)
    rw[this]; rfl
   ·cases hm
  ·rename_i ar bN;cases hm;simp only[bW,fP] at h;obtain⟨ag,rfl⟩:=h;rw[FE (fun e aw=>by rw[bN] at aw; cases aw)];unfold Cg at ag;cases aj:aD x<;>rw[aj] at ag<;>(try simp only at ag)<;>try (cases ag; done)
   cases ag;simp only[vd,ar,bN]; rfl
  ·rename_i e ar bN;split at hm
   ·rename_i aw;cases hm;simp only[bW,fP] at h;obtain⟨ag,rfl⟩:=h;unfold tx at ag;cases aj:aD x<;>rw[aj] at ag<;>(try simp only at ag)<;>try (cases ag; done)
    cases ag;simp only[wP,ar,bN,aw]
   ·cases hm
  ·cases hm
 case makeInterface t x=>
  split at hm
  ·cases hm
  ·cases hm
  ·rename_i h1 ag;cases hm;simp only[bW,Option.some.injEq,Prod.mk.injEq] at h;obtain⟨rfl,rfl⟩:=h;simp only[c1]
 case typeAssert x Pd t ok=>
  rw[map_some] at hm;obtain⟨z,aB,rfl⟩:=hm;simp only[bW,fP] at h;obtain⟨ag,rfl⟩:=h;simp only[c1,aB,ag,Option.map_some]
 case makeFunc f a b=>
  cases f<;>simp only at hm<;>try (cases hm; done)
  cases hm;simp only[bW,Option.some.injEq,Prod.mk.injEq] at h;obtain⟨rfl,rfl⟩:=h;rfl
 case makeSlice t a c=>
  simp only[bind_some] at hm;obtain⟨e,h1,z,ag,by_,ap,zero,aJ,hm⟩:=hm;rw[hE] at hm;obtain⟨bd,rfl⟩:=hm;simp only[bW] at h;unfold pO at h;cases aG:aD a<;>rw[aG] at h<;>(try simp only at h)<;>try (cases h; done)
  cases al:aD c<;>rw[al] at h<;>(try simp only at h)<;>try (cases h; done)
  rw[hE] at h;obtain⟨bL,eN⟩:=h;cases eN;simp only[c1,aG,al,DU,h1,asInt,ag,ap,aJ,if_pos (And.intro bd bL),lb]; rfl
 case slice t x cW aA cI=>
  rw[map_some] at hm;obtain⟨db,h1,rfl⟩:=hm;simp only[bW,fP] at h;obtain⟨ag,rfl⟩:=h;rw[aoW h1] at ag;simp only[c1,ag]; rfl
 case fieldAddr s x f=>
  rw[bind_some] at hm;obtain⟨fd,h1,hm⟩:=hm;split at hm
  ·rename_i n ag;cases hm;simp only[bW,fP] at h;obtain⟨ap,rfl⟩:=h;simp only[c1,Cs,h1,ag,ap]; rfl
  ·cases hm
 case field t x f=>
  rw[bind_some] at hm;obtain⟨fd,h1,hm⟩:=hm;split at hm
  ·rename_i n ag ap;cases hm;simp only[bW,fP] at h;obtain⟨aJ,rfl⟩:=h;unfold xa at aJ;cases aj:aD x<;>rw[aj] at aJ<;>(try simp only at aJ)<;>try (cases aJ; done)
   simp only[c1,aj,h1,YF ag ap,aJ]; rfl
  ·rename_i ag;cases hm;simp only[bW,fP] at h;obtain⟨aJ,rfl⟩:=h;unfold zJ at aJ;cases aj:aD x<;>rw[aj] at aJ<;>(try simp only at aJ)<;>try (cases aJ; done)
   simp only[c1,aj,h1,Ls ag,aJ]; rfl
  ·cases hm
 case indexAddr t x i=>
  split at hm
  ·rename_i n z h1;cases hm;simp only[bW,fP] at h;obtain⟨ag,rfl⟩:=h;simp only[c1,Wj h1 ag]; rfl
  ·rename_i z h1;cases hm;simp only[bW,fP] at h;obtain⟨ag,rfl⟩:=h;simp only[c1,Wj h1 ag]; rfl
  ·cases hm
 case index t x i=>
  split at hm
  ·rename_i n e aM;split at hm
   ·rename_i z h1 ag;cases hm;simp only[bW,fP] at h;obtain⟨ap,rfl⟩:=h;unfold AN at ap;cases aj:aD x<;>rw[aj] at ap<;>(try simp only at ap)<;>try (cases ap; done)
    cases aA:aD i<;>rw[aA] at ap<;>(try simp only at ap)<;>try (cases ap; done)
    simp only[c1,x6,aj,aA,aM,asInt,h1,YF ag h1,ap]; rfl
   ·rename_i z h1 ag;cases hm;simp only[bW,fP] at h;obtain⟨ap,rfl⟩:=h;unfold AM at ap;cases aj:aD x<;>rw[aj] at ap<;>(try simp only at ap)<;>try (cases ap; done)
    cases aA:aD i<;>rw[aA] at ap<;>(try simp only at ap)<;>try (cases ap; done)
    simp only[c1,x6,aj,aA,aM,asInt,h1,Ls ag,ap]; rfl
   ·cases hm
  ·rename_i aM;cases hm;simp only[bW,fP] at h;obtain⟨ap,rfl⟩:=h;unfold v2 at ap;cases aj:aD x<;>rw[aj] at ap<;>(try simp only at ap)<;>try (cases ap; done)
   cases aA:aD i<;>rw[aA] at ap<;>(try simp only at ap)<;>try (cases ap; done)
   simp only[c1,x6,aj,aA,aM,asInt,ap]; rfl
  ·cases hm
 case extract x i=>
  cases hm;simp only[bW,fP] at h;obtain⟨ag,rfl⟩:=h;unfold zH at ag;cases aj:aD x<;>rw[aj] at ag<;>(try simp only at ag)<;>try (cases ag; done)
  simp only[c1,aj,ag]; rfl
 case call c=>
  split at hm
  ·rename_i b ai;simp only[c1,ti,ai];exact aeY hm h
  ·rename_i f aI;split at hm
   ·rename_i fn x y jo CR;rw[hE] at hm;obtain⟨aA,rfl⟩:=hm;simp only[bW] at h;split at h
    case h_2=>cases h
    rename_i C8;rw[fP] at h;obtain⟨ag,rfl⟩:=h;unfold cmpL at ag;have fh:∀ x,qk (b3 l') x=m7 l' x:=fun x=>by
     cases x<;>simp only[qk,m7,zt]<;>rfl
    have qL:¬(fn.body.isSome=true/\fn.name≠ "runtime.NumGoroutine") :=by
     rintro⟨a,_⟩;unfold AI at aA;simp only[Bool.and_eq_true] at aA;rw[Option.isNone_iff_eq_none.1 aA.1.1] at a; cases a
    have Ab:aD (.func f)=.fn f [] [] :=by
     unfold AJ at C8;split at C8
     ·rename_i g az; rw[az,Nat.eq_of_beq_eq_true C8]
     ·cases C8
    simp only[c1,ti,aI,Ab,jo,if_neg qL,if_pos aA,CR,List.map_cons,List.map_nil,List.nil_append,List.append_nil,zs,fh];cases aG:m7 l' (aD x) with
    | none=>rw[aG] at ag; cases ag
    | some a=>
     cases ai:m7 l' (aD y) with
     | none=>rw[aG,ai] at ag; cases ag
     | some b=>rw[aG,ai] at ag; cases ag; rfl
   ·cases hm
  ·cases hm
 case panic x=>cases hm; cases h
 case makeMap t r=>
  split at hm
  ·rename_i k e aM;cases hm;simp only[bW] at h;cases r with
   | none=>cases h; simp[c1,aM,lb]
   | some x=>
    simp only at h;cases aj:asInt (aD x) with
    | none=>rw[aj] at h; cases h
    | some n=>rw[aj] at h; cases h; simp[c1,aM,aj,lb]
  ·cases hm
 case lookup t m k ok=>
  split at hm
  ·rename_i cP lj aM;rw[map_some] at hm;obtain⟨z,aB,rfl⟩:=hm;simp only[bW,fP] at h;obtain⟨ag,rfl⟩:=h;have tV:∀ x,mapOf (b3 l') x=q2 l' x:=fun x=>by
    cases x<;>try rfl
    rename_i b;simp only[mapOf,q2,n1];cases l'[b]? with
    | none=>rfl
    | some c=>cases c<;>rfl
   unfold um at ag;simp only[c1,DR,aM,tV];cases iS:q2 l' (aD m) with
   | none=>rw[iS] at ag; cases ag
   | some es=>
    rw[iS] at ag;simp only at ag ⊢;cases hk:j5 P cP (aD k) with
    | false=>rw[hk] at ag; cases ag
    | true=>
     rw[hk] at ag;simp only at ag ⊢;cases aI:iQ P cP (aD k) es 0 with
     | none=>rw[aI] at ag; cases ag
     | some r=>
      rw[aI] at ag;cases r with
      | none=>cases ag; simp[aB]
      | some ui=>cases ag; rfl
  ·cases hm
 case mapUpdate t m k x=>
  split at hm
  ·rename_i cP lj aM;cases hm;simp only[bW,map_some] at h;obtain⟨ce,ag,ap⟩:=h;cases ap;simp only[c1,X7 aM ag]; rfl
  ·cases hm
 case insert t m k x=>
  split at hm
  ·rename_i cP lj aM;cases hm;simp only[bW,map_some] at h;obtain⟨ce,ag,ap⟩:=h;cases ap;simp only[c1,X7 aM ag]; rfl
  ·cases hm
 case range t x=>
  split at hm
  ·rename_i aM;cases hm;simp only[bW] at h;unfold yv at h;cases aj:aD x<;>rw[aj] at h<;>(try simp only at h)<;>try (cases h; done)
   cases h;simp[c1,Em,aM,aj,lb]
  ·cases hm
 case next it b=>
  cases b with
  | false=>cases hm
  | true=>
   cases hm;simp only[bW] at h;unfold sM at h;simp only[c1,yd];cases aj:aD it<;>rw[aj] at h<;>(try simp only at h)<;>try (cases h; done)
   rename_i b;simp only[n1];cases ai:l[b]? with
   | none=>rw[ai] at h; cases h
   | some c=>
    cases c<;>rw[ai] at h<;>simp only at h<;>try (cases h; done)
    simp only;split at h
    ·rename_i aP; cases h; rw[aP]; simp only[Option.map_some,m0 _ (e9 ai)]
    ·rename_i aP; cases h; rw[aP]; rfl
end
abbrev bi:=Nat->ae
abbrev gF:=qa->bi->av->Prop
class Pk (α:Type) where
 k:α->Prop
class yX where
 p:Prop
 q:Prop
class uZ where
 k:ae->av->Prop
class E1 where
 k:gF
def W {α:Type} (o:Option α) [c:Pk α] :Prop:=match o with | some v=>c.k v | none=>False
def pG (b:Bool) [c:yX] :Prop:=match b with | true=>c.p | false=>c.q
def v7 (x:ae) [c:yX] :Prop:=match x with | .bool b=>pG b (c:=c) | _=>False
def pF (x:ae) (w:Bool) [c:yX] :Prop:=match x with | .bool b=>pG (b == w) (c:=c) | .bad=>False | _=>c.q
inductive o6 where
 | cG (m:a6)
 | cR (f:FuncId) (args:List Operand)
 | gW (x:Operand) (args:List Operand)
 | m8 (x:Operand) (name:String) (args:List Operand)
structure dT where
 i:Nat
 dst:Option Tmp
 g:Option (Option Tmp × Bool)
 b:o6
 h2:List Nat
 cM:Bool
inductive aS where
 | skip
 | ret
 | exit (id:Nat)
 | ak (s:List dT)
 | gJ (s:List dT)
 | seq (a b:aS)
 | cond (c:Operand) (x y:aS)
 | block (id:Nat) (c:aS)
 | loop (c:aS)
section
variable (P:Program) (G:Nat->ae)
def h5 (f:FuncId) :Bool:=match P.funcs[f]? with | some fn=>fn.body.isSome&&fn.name != "runtime.NumGoroutine" | none=>false
def dh (f:FuncId) (args:List ae) (l:av) [c:uZ] :Prop:=∃ r l',dj P G (.call f args (b3 l) r (b3 l'))/\l.length<=l'.length/\c.k r l'
def tk (x:ae) (args:List ae) (l:av) [c:uZ] :Prop:=match x with
 | .fn g first ft=>h5 P g=true/\dh P G g (first++args++ft) l (c:=c)
 | _=>False
def tj (name:String) (x:ae) (args:List ae) (l:av) [c:uZ] :Prop:=match x with
 | .gg t v=>match we P t name with
  | some g=>h5 P g=true/\dh P G g (v::args) l (c:=c)
  | none=>False
 | _=>False
def dK (v:ae) (l:av) [c:uZ] :Prop:=c.k v l\/∃ ef ce,pb (b3 l) (b3 ce)/\pa (b3 l) (b3 ce) v ef/\c.k ef ce
def ec (m:a6) (v:ae) (l:av) (K:ae->av->Prop) :Prop:=match m with
 | .app ..=>dK v l (c:=⟨K⟩)
 | _=>K v l
def hj (b:o6) (ah:bi) (l:av) (K:ae->av->Prop) :Prop:=match b with
 | .cG m=>W (bW P (cY G ah) l m) (c:=⟨fun x=>ec m x.1 x.2 K⟩)
 | .cR f args=>dh P G f (args.map (cY G ah)) l (c:=⟨K⟩)
 | .gW x args=>tk P G (cY G ah x) (args.map (cY G ah)) l (c:=⟨K⟩)
 | .m8 x name args=>tj P G name (cY G ah x) (args.map (cY G ah)) l (c:=⟨K⟩)
def oN (ah:bi) (g:Option (Option Tmp × Bool)) (p q:Prop) :Prop:=match g with
 | none=>p
 | some (some d,w)=>pF (ah d) w (c:=⟨p,q⟩)
 | some (none,_)=>q
def iG:List dT->bi->av->(bi->av->Prop)->Prop
 | [],ah,l,K=>K ah l
 | s::r,ah,l,K=>oN ah s.g (hj P G s.b ah l fun v l'=>iG r (gR ah s.dst v) l' K) (iG r (gR ah s.dst gT) l K)
abbrev hM:=List (Nat × (av->Prop))
def og (ids:List Nat) :hM->av->Prop
 | [],_=>True
 | e::r,l=>(ids.contains e.1=true->e.2 l)/\og ids r l
def a6.ic:a6->Bool
 | .alloc _ | .box _ | .cQ .. | .lB ..=>true
 | _=>false
def kB (b:o6) (ah:bi) (v:ae) (l l' l1:av) :Prop:=match b with
 | .cG m=>match m.ic with
  | true=>l1[l.length]? = l'[l.length]?
  | false=>bW P (cY G ah) l1 m=some (v,l1)
 | _=>True
def pY (cM:Bool) (i:Nat) (p:av->Prop) (s:hM) :hM:=match cM with | true=>(i,p) ::s | false=>s
def i0:List dT->bi->av->hM->(bi->av->Prop)->Prop
 | [],ah,l,_,K=>K ah l
 | s::r,ah,l,seen,K=>oN ah s.g (hj P G s.b ah l fun v l'=>og s.h2 seen l'/\i0 r (gR ah s.dst v) l' (pY s.cM s.i (kB P G s.b ah v l l') seen) K) (i0 r (gR ah s.dst gT) l seen K)
def mN (k:bi->av->Prop) (K:gF) :gF:=fun e ah l=>match e with
 | .normal=>k ah l
 | .exit id=>K (.exit id) ah l
 | .ret=>K .ret ah l
def pE (id:Nat) (K:gF) :gF:=fun e ah l=>match e with
 | .normal=>K .normal ah l
 | .exit qV=>match Nat.beq qV id with | true=>K .normal ah l | false=>K (.exit qV) ah l
 | .ret=>K .ret ah l
def x9 (r:bi->av->gF->Prop) :Nat->bi->av->gF->Prop
 | 0=>fun _ _ _=>False
 | n+1=>fun ah l K=>r ah l (mN (fun ah l=>x9 r n ah l K) K)
def BK (r:bi->av->gF->Prop) (ah:bi) (l:av) [c:E1] :Prop:=∃ n,x9 r n ah l c.k
def run:aS->bi->av->gF->Prop
 | .skip,ah,l,K=>K .normal ah l
 | .ret,ah,l,K=>K .ret ah l
 | .exit id,ah,l,K=>K (.exit id) ah l
 | .ak s,ah,l,K=>iG P G s ah l (K .normal)
 | .gJ s,ah,l,K=>i0 P G s ah l [] (K .normal)
 | .seq a b,ah,l,K=>run a ah l (mN (fun ah l=>run b ah l K) K)
 | .cond c x y,ah,l,K=>v7 (cY G ah c) (c:=⟨run x ah l K,run y ah l K⟩)
 | .block id c,ah,l,K=>run c ah l (pE id K)
 | .loop c,ah,l,K=>BK (run c) ah l (c:=⟨K⟩)
def Bv (ops:Array Oper) (i:Nat) (h2:List Nat) (cM:Bool) :Option dT:=(ops[i]?).bind fun o=>
 let g:=o.guard.map fun nD=>((ops[nD.1]?).bind (·.dst),nD.2)
 match mB P o.op with
 | some m=>some ⟨i,o.dst,g,.cG m,h2,cM⟩
 | none=>match o.op with
  | .call c=>match c.callee with
   | .value (.func f)=>match h5 P f with
    | true=>some ⟨i,o.dst,g,.cR f c.args.toList,h2,cM⟩
    | false=>none
   | .value x=>some ⟨i,o.dst,g,.gW x c.args.toList,h2,cM⟩
   | .invoke x name=>some ⟨i,o.dst,g,.m8 x name c.args.toList,h2,cM⟩
   | _=>none
  | _=>none
def rr:Op->Bool
 | .load .. | .convert .. | .alloc _ | .box .. | .buildSlice .. | .makeSlice ..=>true
 | .call c=>match c.callee,c.argTypes.toList with
  | .builtin .len,[t]=>match P.underlying t with | some (.map _ _)=>true | _=>false
  | _,_=>false
 | _=>false
def afH (ms:List Nat) (ops:Array Oper) (done jP:List Nat) :List Nat:=
 done.filter fun j=>(match ops[j]? with | some o=>rr P o.op | none=>false)&&jP.all fun e=>!nL ms e j
def mP (ms:List Nat) (ops:Array Oper) :List Nat->List Nat->List Nat->List (Nat × List Nat)
 | [],_,_=>[]
 | i::r,done,jP=>match ops[i]? with
  | none=>[]
  | some o=>match jw o.op with
   | true=>(i,afH P ms ops done (i::jP)) ::mP ms ops r (i::done) (match o.guard with | none=>i::jP | some _=>jP)
   | false=>(i,[]) ::mP ms ops r (i::done) jP
def zC (ms:List Nat) (ops:Array Oper) :List Nat->Bool
 | []=>true
 | i::r=>(match ops[i]? with | some o=>!jw o.op||r.all fun j=>nL ms j i | none=>false)&&zC ms ops r
def Ib (N:Nat) (ops:Array Oper) (draw:Bool) :Option aS:=
 match ops.toList.all fun o=>ol N o.dst with
 | false=>none
 | true=>match draw with
  | false=>((List.range ops.size).mapM fun i=>Bv P ops i [] false).map .ak
  | true=>
   let ms:=hX ops
   let jd:=ff ms ops
   match Ln ms ops jd&&zC ms ops jd with
   | false=>none
   | true=>
    let YL:=mP P ms ops jd [] []
    let ask:=YL.flatMap (·.2)
    match YL.mapM fun p=>Bv P ops p.1 p.2 (ask.contains p.1) with
    | none=>none
    | some s=>match ask with
     | []=>some (.ak s)
     | _=>some (.gJ s)
def comp (N:Nat) :Code->Option aS
 | .skip=>some .skip
 | .label _=>some .skip
 | .ret=>some .ret
 | .exit id=>some (.exit id)
 | .region _ ops draw=>Ib P N ops draw
 | .seq a b=>match comp N a,comp N b with
  | some .skip,some b=>some b
  | some a,some .skip=>some a
  | some a,some b=>some (.seq a b)
  | _,_=>none
 | .cond c x y=>match comp N x,comp N y with
  | some x,some y=>some (.cond c x y)
  | _,_=>none
 | .block id c=>(comp N c).map (.block id)
 | .loop c=>(comp N c).map .loop
 | .scope c=>comp N c
 | _=>none
def bq (f:FuncId) :Option aS:=match P.funcs[f]? with
 | some fn=>match fn.body with
  | some c=>comp P fn.ntmps c
  | none=>none
 | none=>none
end
section
variable {P:Program} {G:Nat->ae}
theorem PI {l l' : av} {z by_ n:Nat} {s v:ae} {xs:List ae} (h:h0 l z by_ s xs n=some (v,l')) :l.length<=l'.length:=by
 unfold h0 at h
 repeat' split at h
 all_goals first | (cases h; done) | (cases h; simp)
theorem Yg {aD:Operand->ae} {l l' : av} {m:a6} {v:ae} (h:bW P aD l m=some (v,l')) :l.length<=l'.length:=by
 cases m<;>simp only[bW,fP,map_some,Option.some.injEq,Prod.mk.injEq] at h
 case aq=>obtain⟨_,rfl⟩:=h; exact Nat.le_refl _
 case alloc=>obtain⟨_,rfl⟩:=h; simp
 case box=>obtain⟨_,_,_,rfl⟩:=h; simp
 case cQ=>obtain⟨_,_,_,rfl⟩:=h; simp
 case st n a x=>
  obtain⟨_,h,_,rfl⟩:=h;unfold jF at h
  repeat' split at h
  all_goals first | (cases h; done) | (cases h; simp)
 case sK=>obtain⟨_,rfl⟩:=h; exact Nat.le_refl _
 case pM=>obtain⟨_,rfl⟩:=h; exact Nat.le_refl _
 case lB=>
  unfold pO at h
  repeat' split at h
  all_goals first | (cases h; done) | (cases h; simp)
 case app=>
  unfold iL at h;split at h
  ·cases h
  ·exact PI h
 case qg=>
  unfold pe at h
  repeat' split at h
  all_goals first | (cases h; done) | exact PI h
 case tw=>
  unfold wX at h
  repeat' split at h
  all_goals first | (cases h; done) | (cases h; simp)
 case qn=>
  obtain⟨_,h,_,rfl⟩:=h;unfold qm at h
  repeat' split at h
  all_goals first | (cases h; done) | (cases h; simp)
 case stop=>cases h
 case pN x=>
  cases x with
  | none=>cases h; simp
  | some o=>
   simp only at h;split at h
   ·cases h; simp
   ·cases h
 case q4=>
  obtain⟨_,h,_,rfl⟩:=h;unfold q3 at h
  repeat' split at h
  all_goals first | (cases h; done) | (cases h; simp)
 case sW=>
  unfold yv at h
  repeat' split at h
  all_goals first | (cases h; done) | (cases h; simp)
 case sN=>
  unfold sM at h
  repeat' split at h
  all_goals first | (cases h; done) | (cases h; simp)
 case cN=>
  split at h
  ·rw[fP] at h; obtain⟨_,rfl⟩:=h; exact Nat.le_refl _
  ·cases h
 all_goals (obtain⟨_,rfl⟩:=h; exact Nat.le_refl _)
theorem wK {α:Type} {o:Option α} {c:Pk α}:W o (c:=c)<->∃ v,o=some v/\c.k v:=by
 unfold W; cases o<;>simp
theorem AP {b:Bool} {c:yX}:pG b (c:=c)<->(b=true/\c.p)\/(b=false/\c.q) :=by cases b<;>simp[pG]
structure n4 (P:Program) (ops:Array Oper) (s:dT) (o:Oper) :Prop where
 here:ops[s.i]? = some o
 dst:s.dst=o.dst
 g:s.g=o.guard.map fun nD=>((ops[nD.1]?).bind (·.dst),nD.2)
 cG:∀ m,s.b=.cG m->mB P o.op=some m
 cR:∀ f args,s.b=.cR f args->∃ c:Call,o.op=.call c/\c.callee=.value (.func f)/\c.args.toList=args/\h5 P f=true
 gW:∀ x args,s.b=.gW x args->∃ c:Call,o.op=.call c/\c.callee=.value x/\c.args.toList=args
 m8:∀ x name args,s.b=.m8 x name args->∃ c:Call,o.op=.call c/\c.callee=.invoke x name/\c.args.toList=args
theorem EE {ops:Array Oper} {i:Nat} {h2:List Nat} {cM:Bool} {s:dT} (h:Bv P ops i h2 cM=some s) :∃ o,n4 P ops s o/\s.i=i/\s.h2=h2/\s.cM=cM:=by
 unfold Bv at h;rw[bind_some] at h;obtain⟨o,ay,h⟩:=h;refine⟨o,?_⟩;simp only at h;split at h
 ·rename_i m hm;cases h;exact⟨⟨ay,rfl,rfl,fun cu h=>(by cases h; exact hm),fun f a h=>(by cases h),fun x a h=>(by cases h),fun x n a h=>(by cases h)⟩,rfl,rfl,rfl⟩
 ·split at h
  ·rename_i c fO;split at h
   ·rename_i f al;split at h
    ·rename_i aI;cases h;exact⟨⟨ay,rfl,rfl,fun cu h=>(by cases h),fun f a h=>(by cases h; exact⟨c,fO,al,rfl,aI⟩),fun x a h=>(by cases h),fun x n a h=>(by cases h)⟩,rfl,rfl,rfl⟩
    ·cases h
   ·rename_i x aj al;cases h;exact⟨⟨ay,rfl,rfl,fun cu h=>(by cases h),fun f a h=>(by cases h),fun x a h=>(by cases h; exact⟨c,fO,al,rfl⟩),fun x n a h=>(by cases h)⟩,rfl,rfl,rfl⟩
   ·rename_i x name al;cases h;exact⟨⟨ay,rfl,rfl,fun cu h=>(by cases h),fun f a h=>(by cases h),fun x a h=>(by cases h),fun x n a h=>by cases h; exact⟨c,fO,al,rfl⟩⟩,rfl,rfl,rfl⟩
   ·cases h
  ·cases h
theorem TX {g:FuncId} (aI:h5 P g=true) {h:aQ} {aD:Operand->ae} {c:Call} {x:Operand} {first ft:List ae} (al:c.callee=.value x) (aj:aD x=.fn g first ft) :
  c1 P h aD (.call c)=some (.call g (first++c.args.toList.map aD++ft) h) :=by
 unfold h5 at aI;simp only[c1,ti,al,aj];cases jo:P.funcs[g]? with
 | none=>rw[jo] at aI; cases aI
 | some fn=>
  rw[jo] at aI;simp only[Bool.and_eq_true,bne_iff_ne] at aI;simp only;rw[if_pos aI]
theorem ag6 {g:FuncId} (aI:h5 P g=true) {h:aQ} {aD:Operand->ae} {c:Call} {x:Operand} {name:String} {t:TypeId} {v:ae} (al:c.callee=.invoke x name) (aj:aD x=.gg t v) (hm:we P t name=some g) :
  c1 P h aD (.call c)=some (.call g (v::c.args.toList.map aD) h) :=by
 unfold h5 at aI;simp only[c1,ti,al,aj,hm];cases jo:P.funcs[g]? with
 | none=>rw[jo] at aI; cases aI
 | some fn=>
  rw[jo] at aI;simp only[Bool.and_eq_true,bne_iff_ne] at aI;simp only;rw[if_pos aI]
def a6.looks:a6->Bool
 | .alloc _ | .box _ | .cQ .. | .lB .. | .st .. | .app .. | .qg .. | .tw .. | .qn .. | .pN _ | .sH .. | .q4 .. | .sW _ | .sN _ | .cN .. | .yF .. | .stop=>false
 | _=>true
theorem ala {m:a6} {v:ae} {l:av} {K:ae->av->Prop} (h:ec m v l K) :K v l\/(m.looks=false/\m.ic=false/\∃ ef ce,pb (b3 l) (b3 ce)/\pa (b3 l) (b3 ce) v ef/\K ef ce) :=by
 cases m<;>first | exact .inl h | skip
 rcases h with h | h
 ·exact .inl h
 ·exact .inr ⟨rfl,rfl,h⟩
theorem WG {m:a6} {v:ae} {l:av} {K ga:ae->av->Prop} (a8:∀ v l,K v l->ga v l) (h:ec m v l K) :ec m v l ga:=by
 cases m<;>first | exact a8 _ _ h | skip
 rcases h with h | ⟨ef,ce,h1,ag,ap⟩
 ·exact .inl (a8 _ _ h)
 ·exact .inr ⟨ef,ce,h1,ag,a8 _ _ ap⟩
theorem acG {ops:Array Oper} {s:dT} {o:Oper} (ok:n4 P ops s o) {ah:bi} {l:av} {K:ae->av->Prop} (h:hj P G s.b ah l K) :
  ∃ v l',dj P G (.op o.op ah (b3 l) v (b3 l'))/\l.length<=l'.length/\K v l'/\∀ m,s.b=.cG m->(m.looks=true\/m.ic=true)->bW P (cY G ah) l m=some (v,l') :=by
 cases ai:s.b with
 | cG m=>
  rw[ai] at h;simp only[hj,wK] at h;obtain⟨⟨v,l'⟩,h1,ag⟩:=h;have aw:=dj.D8 (G:=G) (DZ (ok.cG m ai) h1);rcases ala ag with ag | ⟨me,q5,ef,ce,ci,b6,df⟩
  ·exact⟨v,l',aw,Yg h1,ag,fun cu hm _=>by cases hm; exact h1⟩
  ·refine⟨ef,ce,.ET aw ci b6,Nat.le_trans (Yg h1) (Nat.le_of_eq ci.n.symm),df,fun cu hm au=>?_⟩;cases hm;rw[me,q5] at au;rcases au with h | h<;>cases h
 | cR f args=>
  rw[ai] at h;obtain⟨r,l',h1,ag,ap⟩:=h;obtain⟨c,fO,al,aG,aI⟩:=ok.cR f args ai;refine⟨r,l',?_,ag,ap,fun cu hm _=>by cases hm⟩;rw[fO];refine .yl (TX aI al rfl) ?_;simpa [aG] using h1
 | gW x args=>
  rw[ai] at h;simp only[hj] at h;obtain⟨c,fO,al,aG⟩:=ok.gW x args ai;unfold tk at h;split at h
  ·rename_i g first ft aj
   obtain⟨aI,r,l',h1,ag,ap⟩:=h;refine⟨r,l',?_,ag,ap,fun cu hm _=>by cases hm⟩;rw[fO];refine .yl (TX aI al aj) ?_;rw[aG]; exact h1
  ·cases h
 | m8 x name args=>
  rw[ai] at h;simp only[hj] at h;obtain⟨c,fO,al,aG⟩:=ok.m8 x name args ai;unfold tj at h;split at h
  ·rename_i t v aj;split at h
   ·rename_i g hm;obtain⟨aI,r,l',h1,ag,ap⟩:=h;refine⟨r,l',?_,ag,ap,fun cu hm _=>by cases hm⟩;rw[fO];refine .yl (ag6 aI al aj hm) ?_;rw[aG]; exact h1
   ·cases h
  ·cases h
theorem Wt {ops:Array Oper} {s:dT} {o:Oper} (ok:n4 P ops s o) {ah:bi} {p q:Prop} (h:oN ah s.g p q) :(jH ops ah o=some true/\p)\/(jH ops ah o=some false/\q) :=by
 rw[ok.g] at h;unfold jH;cases az:o.guard with
 | none=>rw[az] at h; exact .inl ⟨rfl,h⟩
 | some nD=>
  obtain⟨j,w⟩:=nD;rw[az] at h;simp only[Option.map_some] at h ⊢;cases bN:(ops[j]?).bind (·.dst) with
  | none=>rw[bN] at h; exact .inr ⟨rfl,h⟩
  | some d=>
   rw[bN] at h;simp only[oN,pF] at h ⊢;cases ar:ah d<;>rw[ar] at h<;>simp only at h ⊢<;>first | exact .inr ⟨trivial,h⟩ | (cases h; done) | skip
   rw[AP] at h;rcases h with ⟨h1,ag⟩ | ⟨h1,ag⟩
   ·exact .inl ⟨by rw[h1],ag⟩
   ·exact .inr ⟨by rw[h1],ag⟩
inductive wD (P:Program) (ops:Array Oper) :List dT->List Oper->Prop
 | nil:wD P ops [] []
 | cons {s o acB os}:n4 P ops s o->wD P ops acB os->wD P ops (s::acB) (o::os)
theorem Ol {ops:Array Oper} {N:Nat} (fu:∀ (i:Nat) (o:Oper),ops[i]? = some o->ol N o.dst=true) {K:bi->av->Prop}:∀ {s:List dT} {os:List Oper} {ah:bi} {l:av},
  wD P ops s os->iG P G s ah l K->∃ b7 l',dj P G (.ops ops os N ah (b3 l) b7 (b3 l'))/\l.length<=l'.length/\K b7 l'
 | [],_,ah,l,aI,h=>by cases aI; exact⟨ah,l,.Yu,Nat.le_refl _,h⟩
 | s::r,_,ah,l,aI,h=>by
  cases aI with
  | cons ok aI=>
   rename_i o os;rcases Wt ok h with ⟨bB,h⟩ | ⟨bB,h⟩
   ·obtain⟨v,l1,h1,ag,ap,_⟩:=acG ok h;obtain⟨b7,l',aJ,bd,bL⟩:=Ol fu aI ap;exact⟨b7,l',.Yv bB (fu _ _ ok.here) h1 (by rw[<-ok.dst]; exact aJ),Nat.le_trans ag bd,bL⟩
   ·obtain⟨b7,l',aJ,bd,bL⟩:=Ol fu aI h;exact⟨b7,l',.Yw bB (fu _ _ ok.here) (by rw[<-ok.dst]; exact aJ),bd,bL⟩
theorem abX {l x:av} {p:ae} {y:List ae × Nat} (h:eC l p=some y) :eC (l++x) p=some y:=by
 cases p<;>first | exact h | skip
 rename_i b off sz;simp only[eC] at h ⊢;cases ai:l[b]? with
 | none=>rw[ai] at h; cases h
 | some c=>rw[ai] at h; rw[List.getElem?_append_left (e9 ai),ai]; exact h
theorem af2 {l x:av} {z:Nat} {p:ae} {y:List ae × Nat} (h:dv l z p=some y) :dv (l++x) z p=some y:=by
 cases p<;>first | exact h | skip
 rename_i di b off len cap sz;simp only[dv] at h ⊢;cases ai:l[b]? with
 | none=>rw[ai] at h; cases h
 | some c=>rw[ai] at h; rw[List.getElem?_append_left (e9 ai),ai]; exact h
theorem afE {l x:av} {p v:ae} (h:tm l p=some v) :tm (l++x) p=some v:=by
 unfold tm at h ⊢;cases p<;>simp only at h ⊢<;>first | exact h | skip
 all_goals
  split at h
  ·rename_i cs n al;rw[af2 al]; exact h
  ·cases h
def a6.reads:a6->Bool
 | .ld1 _ | .aW .. | .rR _ | .ul _=>true
 | _=>false
theorem X2 {aD:Operand->ae} {l l' : av} {m:a6} {v:ae} (hm:m.looks=true) (h:bW P aD l m=some (v,l')) :l'=l:=by
 cases m<;>simp only[a6.looks,Bool.true_eq,Bool.false_eq_true,reduceCtorEq] at hm<;>simp only[bW,fP,Option.some.injEq,Prod.mk.injEq] at h<;>first | exact h.2 | exact h.2.symm
theorem alT {aD:Operand->ae} {l x:av} {m:a6} {v:ae} (hm:m.looks=true) (h:bW P aD l m=some (v,l)) :bW P aD (l++x) m=some (v,l++x) :=by
 cases m<;>simp only[a6.looks,Bool.true_eq,Bool.false_eq_true,reduceCtorEq] at hm<;>simp only[bW,fP,Option.some.injEq,Prod.mk.injEq,and_true] at h ⊢<;>try exact h
 case ld1 a=>
  rw[bind_some] at h ⊢;obtain⟨y,h1,ag⟩:=h;exact⟨y,abX h1,ag⟩
 case aW n a=>
  rw[bind_some] at h ⊢;obtain⟨y,h1,ag⟩:=h;exact⟨y,abX h1,ag⟩
 case rR x=>exact afE h
 case ul y=>
  unfold AV at h ⊢;cases aj:aD y<;>rw[aj] at h<;>(try simp only at h)<;>try (cases h; done)
  ·exact h
  ·rename_i b;cases ai:l[b]? with
   | none=>rw[ai] at h; cases h
   | some c=>simp only[List.getElem?_append_left (e9 ai)]; exact h
theorem alU {aD:Operand->ae} {l ce:av} {m:a6} {v:ae} (hm:m.looks=true) (aC:m.reads=false) (h:bW P aD l m=some (v,l)) :bW P aD ce m=some (v,ce) :=by
 cases m<;>simp only[a6.looks,Bool.true_eq,Bool.false_eq_true,reduceCtorEq] at hm<;>simp only[a6.reads,reduceCtorEq] at aC<;>simp only[bW,fP,Option.some.injEq,Prod.mk.injEq,and_true] at h ⊢<;>exact h
theorem Ob (zero:List ae) :∀ n,(dm zero n).length=n*zero.length
 | 0=>by simp[dm]
 | n+1=>by rw[dm,List.length_append,Ob zero n,Nat.succ_mul,Nat.add_comm]
theorem apf {cs vs:List ae} {off:Nat} (h:off+vs.length<=cs.length) :(bS cs off vs).length=cs.length:=by
 simp only[bS,List.length_append,List.length_take,List.length_drop]; omega
theorem TD {j8:Nat->Option (Nat × Nat)}:∀ {cH:List (Nat × ae)} {zero cs:List ae},gZ j8 zero cH=some cs->cs.length=zero.length
 | [],zero,cs,h=>by simp only[gZ,Option.some.injEq] at h; rw[<-h]
 | (i,v) ::r,zero,cs,h=>by
  unfold gZ at h;split at h
  ·rename_i off size vs _ _;split at h
   ·rename_i h1;rw[TD h,apf (by omega)]
   ·cases h
  ·cases h
theorem al9 {op:Op} {m:a6} (hm:mB P op=some m) (aH:m.ic=true) {aD:Operand->ae} {l l' : av} {v:ae} (h:bW P aD l m=some (v,l')) :
  ∃ cs mk,mf P aD op=some (cs,mk)/\v=mk l.length/\l'=l++[.cells cs.length cs] :=by
 cases op<;>simp only[mB] at hm<;>try (cases hm; done)
 case alloc t=>
  rw[map_some] at hm;obtain⟨zero,h1,rfl⟩:=hm;simp only[bW,Option.some.injEq,Prod.mk.injEq] at h;obtain⟨rfl,rfl⟩:=h;exact⟨zero,_,by simp only[mf,h1]; rfl,rfl,rfl⟩
 case box t x=>
  cases hm;simp only[bW,map_some,Prod.mk.injEq] at h;obtain⟨cs,h1,rfl,rfl⟩:=h;exact⟨cs,_,by simp only[mf,h1]; rfl,rfl,rfl⟩
 case buildSlice t n cH=>
  simp only[bind_some] at hm;obtain⟨e,h1,z,ag,zero,ap,hm⟩:=hm;rw[hE] at hm;obtain⟨aJ,rfl⟩:=hm;simp only[bW,map_some,Prod.mk.injEq] at h;obtain⟨cs,bd,rfl,rfl⟩:=h;have bA:cs.length=n*z:=by rw[TD bd,Ob,aJ.1]
  exact⟨cs,_,by simp only[mf,h1,ag,ap,if_pos aJ,bd]; rfl,rfl,by rw[bA]⟩
 case makeSlice t a c=>
  simp only[bind_some] at hm;obtain⟨e,h1,z,ag,by_,ap,zero,aJ,hm⟩:=hm;rw[hE] at hm;obtain⟨bd,rfl⟩:=hm;simp only[bW] at h;unfold pO at h;cases aG:aD a<;>rw[aG] at h<;>(try simp only at h)<;>try (cases h; done)
  cases al:aD c<;>rw[al] at h<;>(try simp only at h)<;>try (cases h; done)
  rw[hE] at h;obtain⟨bL,eN⟩:=h;cases eN;rename_i kc nc;have bA:(dm zero nc.toNat).length=nc.toNat*z:=by rw[Ob,bd]
  exact⟨dm zero nc.toNat,_,by simp only[mf,aG,al,h1,asInt,ag,ap,aJ]; rw[if_pos ⟨bd,bL⟩],rfl,by rw[bA]⟩
 case pick=>cases hm; cases aH
 case move=>cases hm; cases aH
 case assign=>cases hm; cases aH
 case nilCheck=>cases hm; cases aH
 case binOp=>cases hm; cases aH
 case unOp=>cases hm; cases aH
 case call c=>
  exfalso;split at hm
  ·unfold tt at hm
   repeat' split at hm
   all_goals first
    | (cases hm; done)
    | (cases hm; cases aH; done)
    | (simp only[bind_some,map_some] at hm; obtain⟨_,_,rfl⟩:=hm; cases aH; done)
    | (simp only[bind_some,map_some] at hm; obtain⟨_,_,_,_,rfl⟩:=hm; cases aH; done)
    | (simp only[bind_some,hE] at hm; obtain⟨_,_,_,_,_,_,_,rfl⟩:=hm; cases aH; done)
    | (simp only[bind_some,hE] at hm; obtain⟨_,_,_,_,_,_,_,_,_,rfl⟩:=hm; cases aH; done)
  ·split at hm
   ·rw[hE] at hm; obtain⟨_,rfl⟩:=hm; cases aH
   ·cases hm
  ·cases hm
 case next it b=>exfalso; cases b<;>simp only[reduceCtorEq] at hm<;>cases hm<;>cases aH
 case panic=>cases hm; cases aH
 case lookup=>exfalso; split at hm<;>(try cases hm; done); rw[map_some] at hm; obtain⟨_,_,rfl⟩:=hm; cases aH
 case build=>exfalso; simp only[bind_some,map_some] at hm; obtain⟨_,_,_,_,rfl⟩:=hm; cases aH
 case typeAssert=>exfalso; rw[map_some] at hm; obtain⟨_,_,rfl⟩:=hm; cases aH
 case store=>exfalso; rw[map_some] at hm; obtain⟨_,_,rfl⟩:=hm; cases aH
 case slice=>exfalso; rw[map_some] at hm; obtain⟨_,_,rfl⟩:=hm; cases aH
 case fieldAddr=>exfalso; rw[bind_some] at hm; obtain⟨_,_,hm⟩:=hm; split at hm<;>cases hm; cases aH
 case field=>exfalso; rw[bind_some] at hm; obtain⟨_,_,hm⟩:=hm; split at hm<;>cases hm<;>cases aH
 case extract=>cases hm; cases aH
 case makeFunc f a b=>exfalso; cases f<;>simp only at hm<;>cases hm; cases aH
 all_goals
  exfalso
  repeat' split at hm
  all_goals first | (cases hm; done) | (cases hm; cases aH; done)
end
end Go.cn

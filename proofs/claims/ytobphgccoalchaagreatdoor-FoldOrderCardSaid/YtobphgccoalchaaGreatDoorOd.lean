/-
  The canonical machine, part N: a region that draws its order.
-/
import Derived.Test.YtobphgccoalchaaGreatDoorOc
import Derived.ProofKit
set_option linter.unusedVariables false
set_option linter.unusedSimpArgs false
set_option linter.unnecessarySimpa false
namespace Go.cb
open Go
section
variable {P:Program} {G:Nat->U}
theorem zm {ops:Array Oper} {t i:Nat} (h:jW ops t=some i) :∃ o,ops[i]? = some o/\o.dst=some t:=by
 unfold jW at h;have:=List.find?_some h;cases ap:ops[i]? with
 | none=>simp[ap] at this
 | some o=>exact⟨o,rfl,by simpa [ap] using this⟩
def tz (ops:Array Oper) (val ae:Nat->U) (dj:Array Bool) :Nat->U:=fun t=>
 match jW ops t with
 | some i=>if dj.getD i false then val i else ae t
 | none=>ae t
theorem abS {ops:Array Oper} {pre:Nat->Nat->Bool} (hu:tE ops pre) {dj:Array Bool}
  (down:∀ (i:Nat) (o:Oper) (e:Edge),ops[i]? = some o->dj.getD i false=true->e∈o.after->Region.binds .any e=true->dj.getD e.on false=true)
  (dQ:∀ i,dj.getD i false=true->∃ o,ops[i]? = some o) :∀ (i:Nat),dj.getD i false=true->∀ j,pre i j=true->dj.getD j false=true:=by
 intro i
 induction i using Nat.strongRecOn with
 | _ i aI=>
  intro av j ai;obtain⟨o,ap⟩:=dQ i av;obtain⟨e,am,ag,nC⟩:=hu.chain i o j ap ai;have dR:=down i o e ap av am ag;rcases nC with rfl | nC
  ·exact dR
  ·exact aI e.on (hu.Cn i o e ap am ag) dR j nC
theorem xU (dj:Array Bool) (i j:Nat) (av:i<dj.size) :(dj.setIfInBounds i true).getD j false=if j=i then true else dj.getD j false:=by
 rw[auR,ave];by_cases h:i=j
 ·subst h; simp[av]
 ·rw[if_neg h,if_neg (Ne.symm h),auR]
theorem H6 {ops:Array Oper} {pre:Nat->Nat->Bool} (hu:tE ops pre) {val ae:Nat->U} {dj:Array Bool} {i:Nat} {o:Oper} (ap:ops[i]? = some o) (av:i<dj.size) :
  tz ops val ae (dj.setIfInBounds i true)=ht (tz ops val ae dj) o.dst (val i) :=by
 funext t;unfold tz ht;cases bH:o.dst with
 | none=>
  simp only;cases hw:jW ops t with
  | none=>rfl
  | some j=>
   have bz:j≠i:=fun aG=>by
    obtain⟨cR,eD,qd⟩:=zm hw;rw[aG,ap] at eD; cases eD;rw[bH] at qd; cases qd
   simp only[xU _ _ _ av,if_neg bz]
 | some d=>
  simp only;by_cases aH:t=d
  ·subst aH;rw[hu.one i o t ap bH];simp[xU _ _ _ av]
  ·rw[cf _ _ _ _ aH];cases hw:jW ops t with
   | none=>rfl
   | some j=>
    have bz:j≠i:=fun aG=>by
     obtain⟨cR,eD,qd⟩:=zm hw;rw[aG,ap] at eD; cases eD;rw[bH] at qd; cases qd;exact aH rfl
    simp only[xU _ _ _ av,if_neg bz]
structure Inv (P:Program) (ops:Array Oper) (val ae:Nat->U) (W:Nat->Bool) (cls:Nat->EL) (m:Nat) (ak:Nat->Nat) (fP:Nat->aO) (gJ:Nat->Nat) (N:Nat)
  (R:Nat->Prop) (B:Nat) (ll:World) (h:aO) (r9:cP) (dj:Array Bool) (k:Nat) (a:Act) (w:World) (μ:cP) :Prop where
 size:dj.size=ops.size
 down:∀ (i:Nat) (o:Oper) (e:Edge),ops[i]? = some o->dj.getD i false=true->e∈o.after->Region.binds .any e=true->dj.getD e.on false=true
 DI:k<=m
 done:∀ q,q<m->(dj.getD (ak q) false=true<->q<k)
 ext:Ext0 ll h r9 w (fP k) μ
 qP:∀ b,b<h.n->r9 b=none->μ b=none
 rel:b9 R B w (fP k) μ
 xf:ni N w R (fP k) μ (tz ops val ae dj) a
 D2:∀ (i:Nat) (o:Oper),ops[i]? = some o->W i=true->cls i=.new->dj.getD i false=false->μ (gJ i)=none
theorem ah8 {ops:Array Oper} {dj:Array Bool} (g5:dj.size=ops.size) (i:Nat) (av:dj.getD i false=true) :∃ o,ops[i]? = some o:=by
 have:i<ops.size:=by
  rcases au9 i dj.size with h1 | h1
  ·omega
  ·simp[auR,avv h1] at av
 exact⟨ops[i],by simp[this]⟩
theorem aad {ops:Array Oper} {pre:Nat->Nat->Bool} (hu:tE ops pre) {dj:Array Bool} (g5:dj.size=ops.size) (az:Region.ready .any ops dj=[]) :∀ i,i<ops.size->dj.getD i false=true:=by
 intro i
 induction i using Nat.strongRecOn with
 | _ i aI=>
  intro av;cases al:dj.getD i false with
  | true=>rfl
  | false=>
   exfalso;have k3:i∈Region.ready .any ops dj:=by
    refine mem_ready.2 ⟨?_,ops[i],by simp[av],fun e am ag=>aI e.on (hu.Cn i ops[i] e (by simp[av]) am ag) (by
     have:=hu.Cn i ops[i] e (by simp[av]) am ag;omega)⟩
    have aN:i<dj.size:=by omega
    simpa [auR,aN] using al
   rw[az] at k3;cases k3
theorem abV (mj:P.follows .mixedOrders=true) (kw:∀ g,(G g).closed=true) :OH P G:=by
 intro id ops N ae h b4 h' pre val W cls m ak fP sg gJ cells hu qe aE hm G2 yf CW nI et wy GN GF lD F6 F7 qi jL;refine⟨0,fun R B ll r9 a0 Q u4 ca s0 mX=>wp_region_any mj ?_⟩;obtain⟨hM,qH⟩:=Ef u4 ⟨(RowKit.Below.refl ll.heap.size ll).drew,Nat.le_succ _⟩;obtain⟨aQ,tu⟩:=aE.rel qH;have R8:=hM.trans aQ
 -- the end
 have fin:∀ (dj:Array Bool) (k:Nat) (a:Act) (w:World) (μ:cP),Inv P ops val ae W cls m ak fP gJ N R B ll h r9 dj k a w μ->(∀ i,i<ops.size->dj.getD i false=true)->Q .normal a w:=by
  intro dj k a w μ inv eH;have hk:k=m:=by
   rcases au9 k m with aN | qh
   ·obtain⟨o,ap,_⟩:=CW k aN;have al:=eH (ak k) ((auv.1 ap).1);have:=(inv.done k aN).1 al;omega
   ·have:=inv.DI; omega
  subst hk;have agu:tz ops val ae dj=b4:=by
   rw[G2];funext t;unfold tz;cases hw:jW ops t with
   | none=>rfl
   | some i=>
    obtain⟨o,ap,_⟩:=zm hw;simp only[eH i ((auv.1 ap).1),if_true]
  subst hm;have ec:=inv.xf;rw[agu] at ec;exact mX a w μ ⟨inv.ext,inv.qP⟩ inv.rel ec
 have key:∀ (fuel:Nat) (dj:Array Bool) (k:Nat) (a:Act) (w:World) (μ:cP),Inv P ops val ae W cls m ak fP gJ N R B ll h r9 dj k a w μ->dj.toList.count false=fuel->wpAny P .any ops Q fuel dj a w:=by
  intro fuel
  induction fuel with
  | zero=>
   intro dj k a w μ inv TV;have eH:∀ i,i<ops.size->dj.getD i false=true:=by
    intro i av;have aN:i<dj.size:=by rw[inv.size]; exact av
    cases al:dj[i] with
    | true=>simp[auR,aN,al]
    | false=>
     exfalso;have k3:false∈dj.toList:=by rw[<-al]; simp
     have:=awG.2 k3;omega
   refine⟨?_,fin dj k a w μ inv eH⟩;cases az:Region.ready .any ops dj with
   | nil=>rfl
   | cons i l=>
    exfalso;have k3:i∈Region.ready .any ops dj:=by rw[az]; simp
    obtain⟨h1,o,ap,_⟩:=mem_ready.1 k3;have av:=(auv.1 ap).1;have ad:=eH i av;have aN:i<dj.size:=by rw[inv.size]; exact av
    simp[auR,aN] at h1 ad;rw[h1] at ad; cases ad
  | succ fuel aI=>
   intro dj k a w μ inv TV;refine⟨fun az=>fin dj k a w μ inv (aad hu inv.size az),fun i av=>?_⟩;obtain⟨h1,o,ap,TZ⟩:=mem_ready.1 av;have aN:i<dj.size:=by rw[inv.size]; exact (auv.1 ap).1
   have nH:dj.getD i false=false:=by simpa [auR,aN] using h1
   have jk:=abS hu inv.down (ah8 inv.size)
   -- what comes before i is done
   have Ls:∀ j,pre i j=true->dj.getD j false=true:=by
    intro j ai;obtain⟨e,am,ag,nC⟩:=hu.chain i o j ap ai;have dR:=TZ e am ag;rcases nC with rfl | nC
    ·exact dR
    ·exact jk e.on dR j nC
   have UT:∀ j,dj.getD j false=true->pre j i=true->False:=fun j ai ay=>by
    have:=jk j ai i ay;rw[nH] at this; cases this
   have T2:zW pre m ak i k:=⟨inv.DI,fun q aZ ay=>(inv.done q aZ).1 (Ls _ ay),fun q aZ ay=>by
    rcases au9 q k with iX | qh
    ·exact (UT _ ((inv.done q aZ).2 iX) ay).elim
    ·exact qh⟩
   -- what i sees
   have T1:∀ t,aP w R (fP k) μ (nu ops pre val ae i o t) (a.tmps.getD t undef) :=by
    intro t;unfold nu;split
    ·rename_i aH;have GR:t∈o.looksAt ops:=by simpa using aH
     have aq:=inv.xf.val t;unfold tz at aq;cases hw:jW ops t with
     | none=>rw[hw] at aq; exact aq
     | some j=>
      rw[hw] at aq;simp only at aq ⊢;by_cases ay:pre i j=true
      ·rw[if_pos ay];rw[if_pos (Ls j ay)] at aq;exact aq
      ·rw[if_neg ay];have afN:dj.getD j false=false:=by
        rcases hu.acc i o t j ap GR hw with aG | aG | rfl
        ·exact absurd aG ay
        ·cases wr:dj.getD j false with
         | false=>rfl
         | true=>exact (UT j wr aG).elim
        ·exact nH
       rw[afN] at aq;exact aq
    ·exact .bad _
   have T7:tG G w R (fP k) μ:=fun g=>⟨kw g,(ca g).2.nv inv.ext⟩
   have c9:∀ x,aP w R (fP k) μ (c2 G (nu ops pre val ae i o) x) (a.eval x) :=by
    intro x;cases x with
    | tmp t=>exact T1 t
    | const v=>exact aP.wU v
    | global g=>exact (T7 g).2
    | func f=>exact .fn f [] [] #[] #[] rfl rfl (fun _ _ _ aG=>by simp at aG) (fun _ _ _ aG=>by simp at aG)
   have Ve:=Ow (w:=w) (R:=R) (h:=fP k) (μ:=μ) (tmps:=a.tmps) (wy i o ap) (fun d _=>T1 d);have Gc:(dj.setIfInBounds i true).toList.count false=fuel:=by
    have ag:dj.toList[i]'(by simpa using aN)=false:=by
     have:dj[i]=false:=by simpa [auR,aN] using h1
     simpa using this
    rw[Array.toList_setIfInBounds,List.count_set (by simpa using aN)];simp[ag,TV]
   have GM:(dj.setIfInBounds i true).size=ops.size:=by simp[inv.size]
   have Gf:∀ (j:Nat) (cR:Oper) (e:Edge),ops[j]? = some cR->(dj.setIfInBounds i true).getD j false=true->e∈cR.after->Region.binds .any e=true->(dj.setIfInBounds i true).getD e.on false=true:=by
    intro j cR e eD ai am ag;rw[xU _ _ _ aN] at ai ⊢;by_cases oi:j=i
    ·subst oi;rw[ap] at eD; cases eD;rw[TZ e am ag]; split<;>rfl
    ·rw[if_neg oi] at ai;rw[inv.down j cR e eD ai am ag]; split<;>rfl
   -- the next state,when no block of others' is turned
   have pj:(W i=true->cls i≠.gC)->∀ q,q<m->((dj.setIfInBounds i true).getD (ak q) false=true<->q<k) :=by
    intro bz q aZ;obtain⟨cR,eD,dG,ah⟩:=CW q aZ;have:ak q≠i:=fun aG=>by
     rw[aG] at dG ah;exact bz dG ah
    rw[xU _ _ _ aN,if_neg this];exact inv.done q aZ
   have GC:∀ (j:Nat),(dj.setIfInBounds i true).getD j false=false->j≠i/\dj.getD j false=false:=by
    intro j ai;rw[xU _ _ _ aN] at ai;by_cases oi:j=i
    ·rw[if_pos oi] at ai; cases ai
    ·rw[if_neg oi] at ai; exact⟨oi,ai⟩
   unfold wpOp;simp only[ap];cases dG:W i with
   | false=>
    rw[Ve,dG];simp only[avg,if_false];refine aI _ k _ w μ ⟨GM,Gf,inv.DI,pj (fun aG=>by rw[dG] at aG; cases aG),inv.ext,inv.qP,inv.rel,?_,fun j cR eD sH rm ai=>inv.D2 j cR eD sH rm (GC j ai).2⟩ Gc;rw[H6 hu ap aN];exact inv.xf.put (qe i o ap) (by rw[GN i o ap dG]; exact Ol)
   | true=>
    rw[Ve,dG];simp only[if_true];left;cases ah:cls i with
    | pure=>
     have ch:=GF i o ap dG ah k T2;obtain⟨v,w',μ',az,e,r,aq⟩:=NY (P:=P) inv.rel c9 o ch;have UG:wpAny P .any ops Q fuel (dj.setIfInBounds i true) (a.put o.dst v) w':=by
      refine aI _ k _ w' μ' ⟨GM,Gf,inv.DI,pj (fun _ aG=>by rw[ah] at aG; cases aG),inv.ext.trans e.toExt0,fun b ag jO=>e.qP b (awf ag inv.ext.n) (inv.qP b ag jO),r,?_,fun j cR eD sH rm ai=>?_⟩ Gc
      ·rw[H6 hu ap aN];exact (inv.xf.ext e).put (qe i o ap) aq
      ·have aC:=inv.D2 j cR eD sH rm (GC j ai).2;rcases au9 (gJ j) (fP k).n with ag | ag
       ·exact e.qP _ ag aC
       ·exact r.la _ ag
     unfold Oper.wp;rcases az with az | ⟨az,rfl⟩
     ·rw[az]; exact UG
     ·rw[az]; exact UG
    | new=>
     obtain⟨mk,aC,AF,o4,hblk⟩:=lD i o ap dG ah;obtain⟨v,arr,t,az,cE,ws⟩:=aiw (P:=P) c9 o aC;have eR:=hblk k T2;have aen:=inv.D2 i o ap dG ah nH;have apO:gJ i<(fP k).n:=by
      rcases au9 (gJ i) (fP k).n with ag | ag
      ·exact ag
      ·rw[inv.rel.fresh _ ag] at eR; cases eR
     have qq:∀ b cj,μ b=some cj->b≠gJ i:=fun b cj ag aG=>by rw[aG,aen] at ag; cases ag
     have e:Ext0 w (fP k) μ (w.alloc (.cells arr t)) (fP k) (bO μ (gJ i) (some ⟨w.heap.size,0,arr.size⟩)) :=by
      refine⟨rfl,rfl,rfl,by simp,fun x af _=>?_,?_,fun b sz cs cj ag hm=>.inl ⟨cs,ag,by rw[cf _ _ _ _ (qq b cj hm)]; exact hm⟩,fun _ _ ar=>ar,fun b k cj ag hm=>⟨ag,by rw[cf _ _ _ _ (qq b cj hm)]; exact hm⟩,atW _,atW _⟩
      ·exact RowKit.Below.heap_alloc w _ x af
      ·rintro x ⟨b,cj,al,hm,rfl⟩;by_cases ag:b=gJ i
       ·subst ag; simp at hm; subst hm; exact .inr (atW _)
       ·rw[cf _ _ _ _ ag] at hm;exact .inl ⟨b,cj,al,hm,rfl⟩
     have r:b9 R B (w.alloc (.cells arr t)) (fP k) (bO μ (gJ i) (some ⟨w.heap.size,0,arr.size⟩)) :=by
      refine inv.rel.vf e (gJ i) (fun b ag al=>⟨rfl,cf _ _ _ _ ag,fun cj hm=>RowKit.Below.heap_alloc w _ _ (inv.rel.lt al hm)⟩) (fun cj hm=>?_) (fun b cj asJ ag al _ hm b5=>?_) (fun cj _ hm=>?_) inv.rel.fresh (fun b ag=>?_)
      ·simp at hm; subst hm;rw[eR];refine⟨rfl,by simp[cE.1],arr,t,(0,0),heap_alloc_new w _,rfl,.inl rfl,fun j c ai=>?_⟩;obtain⟨u,aX,a6,a3⟩:=cE.2 j c ai;exact⟨u,by simpa using aX,a6,a3.nv e⟩
      ·simp at b5; subst b5;have:=inv.rel.lt al hm;simp only[ne_eq]; omega
      ·simp at hm; subst hm;exact inv.rel.size
      ·rw[cf _ _ _ _ (by omega)];exact inv.rel.la b ag
     have aq:aP (w.alloc (.cells arr t)) R (fP k) (bO μ (gJ i) (some ⟨w.heap.size,0,arr.size⟩)) (val i) v:=by
      rw[AF];exact ws _ _ _ _ _ eR (by simp)
     unfold Oper.wp;rw[az];refine aI _ k _ _ _ ⟨GM,Gf,inv.DI,pj (fun _ aG=>by rw[ah] at aG; cases aG),inv.ext.trans e,fun b ag jO=>by rw[cf _ _ _ _ (by omega)]; exact inv.qP b ag jO,r,?_,fun j cR eD sH rm ai=>?_⟩ Gc
     ·rw[H6 hu ap aN];have Dj:ni N (w.alloc (.cells arr t)) R (fP k) (bO μ (gJ i) (some ⟨w.heap.size,0,arr.size⟩)) (tz ops val ae dj) a:=⟨inv.xf.size,inv.xf.defers,fun gu=>(inv.xf.val gu).nv e⟩
      exact Dj.put (qe i o ap) aq
     ·obtain⟨oi,wr⟩:=GC j ai;rw[cf _ _ _ _ (fun aG=>oi (F6 j i cR o eD ap sH dG rm ah aG))];exact inv.D2 j cR eD sH rm wr
    | gC=>
     obtain⟨q,aZ,rfl⟩:=yf i o ap dG ah;have uA:q=k:=by
      have ad:¬ q<k:=fun aG=>by
       have:=(inv.done q aZ).2 aG;rw[nH] at this; cases this
      rcases au9 k q with iX | qh
      ·have nE:k<m:=by omega
       have:=Ls (ak k) (nI k q nE aZ iX);have:=(inv.done k nE).1 this;omega
      ·omega
     subst uA;refine jL q o aZ ap R B w μ a o _ Q rfl inv.rel T7 c9 fun v w' μ' e r aq=>?_
     obtain⟨bF,fg⟩:=(qi q aZ).rel r;have dn:=e.trans bF;refine aI _ (q+1) _ w' μ' ⟨GM,Gf,by omega,fun fF ph=>?_,inv.ext.trans dn.toExt0,fun b ag jO=>dn.qP b (awf ag inv.ext.n) (inv.qP b ag jO),fg,?_,fun j cR eD sH rm ai=>?_⟩ Gc
     ·rw[xU _ _ _ aN];by_cases GG:fF=q
      ·subst GG; simp
      ·rw[if_neg (fun aG=>GG (et fF q ph aZ aG)),inv.done fF ph];omega
     ·rw[H6 hu ap aN];exact (inv.xf.ext dn).put (qe _ o ap) (aq.ext bF)
     ·have aC:=inv.D2 j cR eD sH rm (GC j ai).2;rcases F7 j cR q eD sH rm aZ with ag | ag
      ·exact e.qP _ ag aC
      ·exact r.la _ ag
 have afe:Inv P ops val ae W cls m ak fP gJ N R B ll h r9 (Array.replicate ops.size false) 0 a0 ll.drew r9:=by
  have aD:∀ i,(Array.replicate ops.size false).getD i false=false:=by
   intro i;rw[auR,Array.getElem?_replicate];split<;>rfl
  refine⟨by simp,(fun i o e _ av _ _=>by rw[aD] at av; cases av),au7 _,(fun q aZ=>by rw[aD]; simp),R8.toExt0,fun b ag jO=>jO,tu,?_,fun i o ap dG ah _=>?_⟩
  ·have ec:tz ops val ae (Array.replicate ops.size false)=ae:=by
    funext t;unfold tz;cases hw:jW ops t with
    | none=>rfl
    | some i=>simp only[aD]; simp
   rw[ec];exact s0.ext R8
  ·obtain⟨mk,aC,AF,o4,hblk⟩:=lD i o ap dG ah;exact u4.la _ o4
 exact key _ _ 0 a0 ll.drew r9 afe (by simp)
theorem ali (mj:P.follows .mixedOrders=true) (kw:∀ g,(G g).closed=true) {j:J} (ai:dA P G j) :xx P G j:=alj (abV mj kw) ai
end

section
variable {P:Program} {G:Nat->U}
theorem MV {aB ek:Operand->U} (cJ:Array (Nat × Operand)) (h:∀ x∈(cJ.toList.map (·.2)),aB x=ek x) :(cJ.toList.map fun p=>(p.1,aB p.2))=(cJ.toList.map fun p=>(p.1,ek p.2)) :=
 avs fun p ay=>by rw[h p.2 (auo.2 ⟨p,ay,rfl⟩)]
theorem My {aB ek:Operand->U} (xs:Array Operand) (h:∀ x∈xs,aB x=ek x) :xs.toList.map aB=xs.toList.map ek:=
 avs fun x af=>h x (by simpa using af)
theorem ML {aB ek:Operand->U} (o:Option Operand) (h:∀ x∈o.toArray,aB x=ek x) :o.map aB=o.map ek:=by
 cases o with
 | none=>rfl
 | some x=>simp[h x (by simp)]
theorem NW {aB ek:Operand->U} (h:aO) (op:Op) (af:∀ x∈op.operands,aB x=ek x) :c5 P h aB op=c5 P h ek op:=by
 cases op<;>simp only[Op.operands] at af<;>try rfl
 case build t cJ=>simp only[c5]; rw[MV cJ (fun x hm=>af x (by simpa using hm))]
 case buildSlice t n cJ=>simp only[c5]; rw[MV cJ (fun x hm=>af x (by simpa using hm))]
 case makeFunc fn first fY=>
  cases fn<;>simp only[c5];rw[My first (fun x hm=>af x (by simp[hm])),My fY (fun x hm=>af x (by simp[hm]))]
 case slice t x cV av cO=>
  simp only[c5];rw[af x (by simp),ML cV (fun y hm=>af y (by simp at hm ⊢; simp[hm])),ML av (fun y hm=>af y (by simp at hm ⊢; simp[hm])),ML cO (fun y hm=>af y (by simp at hm ⊢; simp[hm]))]
 case call c=>
  have ax:c.args.toList.map aB=c.args.toList.map ek:=My c.args (fun x hm=>af x (by simp[Call.operands,hm]));simp only[c5,vC,ax];cases ah:c.callee with
  | value f=>dsimp only; rw[af f (by simp[Call.operands,ah])]
  | invoke x name=>dsimp only; rw[af x (by simp[Call.operands,ah])]
  | _=>rfl
 case makeMap t r=>
  cases r with
  | none=>rfl
  | some x=>simp only[c5]; rw[af x (by simp)]
 case next it b=>
  cases b with
  | false=>rfl
  | true=>simp only[c5]; rw[af it (by simp)]
 all_goals (simp only[c5]; simp_all)
theorem aiv {aB ek:Operand->U} (op:Op) (af:∀ x∈op.operands,aB x=ek x) :nO P aB op=nO P ek op:=by
 cases op<;>simp only[Op.operands] at af<;>try rfl
 case box t x=>simp only[nO]; rw[af x (by simp)]
 case buildSlice t n cJ=>simp only[nO]; rw[MV cJ (fun x hm=>af x (by simpa using hm))]
 case makeSlice t l c=>simp only[nO]; rw[af l (by simp),af c (by simp)]
theorem aco {ae b4:Nat->U} {h h' : aO} {v:U} {op:Op} (af:∀ x∈op.operands,c2 G ae x=c2 G b4 x) (am:dA P G (.op op ae h v h')) :dA P G (.op op b4 h v h') :=by
 generalize ai:J.op op ae h v h'=j at am
 induction am generalizing v h'<;>cases ai
 case HB ak=>exact .HB (by rw[<-NW h op af]; exact ak)
 case A3=>exact .A3 (by rw[<-NW h op af]; assumption) (by assumption)
 case Iq=>exact .Iq (by first | (rename_i aI; exact aI rfl) | (rename_i aI _; exact aI rfl) | (rename_i aI _ _; exact aI rfl)) (by assumption) (by assumption)
inductive bN where
 | skip (i:Nat)
 | pure (i:Nat) (v:U)
 | new (i:Nat) (v:U) (cs:List U)
 | gC (i:Nat) (v:U) (h1:aO)
def bN.idx:bN->Nat
 | .skip i | .pure i _ | .new i _ _ | .gC i _ _=>i
def bN.val:bN->U
 | .skip _=>hv
 | .pure _ v | .new _ v _ | .gC _ v _=>v
def bN.jA:bN->Bool
 | .gC ..=>true
 | _=>false
def bN.uM:bN->Bool
 | .skip _=>true
 | _=>false
def bN.cls:bN->EL
 | .skip _ | .pure ..=>.pure
 | .new ..=>.new
 | .gC ..=>.gC
def bN.cs:bN->List U
 | .new _ _ cs=>cs
 | _=>[]
structure jZ where
 ae:Nat->U
 h:aO
def xM (ops:Array Oper) (i:Nat) :Option Tmp:=(ops[i]?).bind (·.dst)
def qC (h:aO) :bN->aO
 | .skip _ | .pure ..=>h
 | .new _ _ cs=>h.push (.cells cs.length cs)
 | .gC _ _ h1=>h1
def mw (ops:Array Oper) (s:jZ) (t:bN) :jZ:=⟨ht s.ae (xM ops t.idx) t.val,qC s.h t⟩
def gY (ops:Array Oper) (s0:jZ) (tr:List bN) (p:Nat) :jZ:=(tr.take p).foldl (mw ops) s0
theorem Bi {ops:Array Oper} {s0:jZ} {tr:List bN} {p:Nat} {t:bN} (h:tr[p]? = some t) :gY ops s0 tr (p+1)=mw ops (gY ops s0 tr p) t:=by
 unfold gY;have aN:p<tr.length:=(atU.1 h).1;rw[List.take_succ_eq_append_getElem aN,awj];have:tr[p]=t:=(atU.1 h).2;simp[this]
def xy (P:Program) (G:Nat->U) (ops:Array Oper) (s:jZ) :bN->Prop
 | .skip i=>∃ o,ops[i]? = some o/\kS ops s.ae o=some false
 | .pure i v=>∃ o,ops[i]? = some o/\kS ops s.ae o=some true
 | .new i v cs=>∃ o mk,ops[i]? = some o/\kS ops s.ae o=some true/\nO P (c2 G s.ae) o.op=some (cs,mk)/\v=mk s.h.n
 | .gC i v h1=>∃ o,ops[i]? = some o/\kS ops s.ae o=some true/\dA P G (.op o.op s.ae s.h v h1)/\s.h.n<=h1.n
def IG (P:Program) (G:Nat->U) (ops:Array Oper) (s:jZ) (h:aO) :bN->Prop
 | .pure i v=>∀ o,ops[i]? = some o->c5 P h (c2 G s.ae) o.op=some (.val v h)
 | .new _ _ cs=>h.f s.h.n=.cells cs.length cs
 | _=>True
structure zu (ops:Array Oper) (pre:Nat->Nat->Bool) (tr:List bN) :Prop where
 hu:tE ops pre
 all:∀ i,i<ops.size->∃ (p:Nat) (t:bN),tr[p]? = some t/\t.idx=i
 inj:∀ (p bS:Nat) (t gu:bN),tr[p]? = some t->tr[bS]? = some gu->t.idx=gu.idx->p=bS
 H1:∀ (p:Nat) (t:bN),tr[p]? = some t->t.idx<ops.size
 YM:∀ (p bS:Nat) (t gu:bN),tr[p]? = some t->tr[bS]? = some gu->p<bS->pre t.idx gu.idx=false
 eager:∀ (p bS:Nat) (t gu:bN),tr[p]? = some t->tr[bS]? = some gu->p<bS->t.jA=true->pre gu.idx t.idx=true
structure IH (P:Program) (G:Nat->U) (ops:Array Oper) (pre:Nat->Nat->Bool) (s0:jZ) (tr:List bN) :Prop where
 step:∀ (p:Nat) (t:bN),tr[p]? = some t->xy P G ops (gY ops s0 tr p) t
 still:∀ (q:Nat),(q=tr.length\/∃ t:bN,tr[q]? = some t/\t.jA=true)->∀ (p:Nat) (t:bN),p<q->tr[p]? = some t->
  (∀ (bS:Nat) (gu:bN),bS<q->tr[bS]? = some gu->gu.jA=true->pre gu.idx t.idx=false)->IG P G ops (gY ops s0 tr p) (gY ops s0 tr q).h t
def eu (tr:List bN) (i:Nat) :Nat:=tr.findIdx fun t=>t.idx == i
theorem y2 {ops:Array Oper} {pre:Nat->Nat->Bool} {tr:List bN} (go:zu ops pre tr) {i:Nat} (av:i<ops.size) :∃ t,tr[eu tr i]? = some t/\t.idx=i:=by
 obtain⟨p,t,ay,aH⟩:=go.all i av;have aN:p<tr.length:=(atU.1 ay).1;have k3:∃ x∈tr,(x.idx == i)=true:=⟨t,at3 ay,by simpa using aH⟩
 have uv:eu tr i<tr.length:=List.findIdx_lt_length_of_exists k3;have:=List.findIdx_getElem (w:=uv);exact⟨tr[eu tr i],by simp[uv],by unfold eu; simpa using this⟩
theorem HJ {ops:Array Oper} {pre:Nat->Nat->Bool} {tr:List bN} (go:zu ops pre tr) {p:Nat} {t:bN} (ay:tr[p]? = some t) :eu tr t.idx=p:=by
 obtain⟨gu,h1,ad⟩:=y2 go (go.H1 p t ay);exact go.inj _ _ _ _ h1 ay ad
theorem Ye {ops:Array Oper} {pre:Nat->Nat->Bool} {tr:List bN} (go:zu ops pre tr) (s0:jZ) :∀ p,p<=tr.length->∀ t,
  (gY ops s0 tr p).ae t=match jW ops t with | some j=>(if eu tr j<p then ((tr[eu tr j]?).map bN.val).getD .bad else s0.ae t) | none=>s0.ae t:=by
 intro p
 induction p with
 | zero=>
  intro _ t;simp only[gY,avd,List.foldl_nil];cases jW ops t<;>simp
 | succ p aI=>
  intro ay t;have aN:p<tr.length:=by omega
  have dU:tr[p]? = some tr[p] :=atX aN;rw[Bi dU];simp only[mw];have C9:=aI (by omega) t;have jr:=HJ go dU;have agn:=go.H1 p _ dU;have gO:ops[tr[p].idx]? = some ops[tr[p].idx] :=by simp[agn]
  cases bH:xM ops tr[p].idx with
  | none=>
   simp only[ht,C9];cases hw:jW ops t with
   | none=>rfl
   | some j=>
    simp only;obtain⟨o,ap,Lm⟩:=zm hw;have bz:eu tr j≠p:=by
     intro aG;obtain⟨Ob,h1,ad⟩:=y2 go ((auv.1 ap).1);rw[aG,dU] at h1;cases h1;rw[<-ad] at ap;simp only[xM,ap,avy] at bH;rw[Lm] at bH; cases bH
    by_cases iX:eu tr j<p
    ·rw[if_pos iX,if_pos (by omega)]
    ·rw[if_neg iX,if_neg (by omega)]
  | some d=>
   simp only[ht];by_cases aH:t=d
   ·subst aH;have qe:ops[tr[p].idx].dst=some t:=by simpa [xM,gO] using bH
    rw[j7,go.hu.one _ _ t gO qe];simp[jr,dU]
   ·rw[cf _ _ _ _ aH,C9];cases hw:jW ops t with
    | none=>rfl
    | some j=>
     simp only;obtain⟨o,ap,Lm⟩:=zm hw;have bz:eu tr j≠p:=by
      intro aG;obtain⟨Ob,h1,ad⟩:=y2 go ((auv.1 ap).1);rw[aG,dU] at h1;cases h1;rw[<-ad] at ap;simp only[xM,ap,avy] at bH;rw[Lm] at bH; cases bH;exact aH rfl
     by_cases iX:eu tr j<p
     ·rw[if_pos iX,if_pos (by omega)]
     ·rw[if_neg iX,if_neg (by omega)]
theorem ajj {ops:Array Oper} {pre:Nat->Nat->Bool} (hu:tE ops pre) (dQ:∀ (i:Nat) (o:Oper) (e:Edge),ops[i]? = some o->e∈o.after->Region.binds .any e=true->∃ cR,ops[e.on]? = some cR) :∀ (i:Nat) (o:Oper),ops[i]? = some o->∀ j,pre i j=true->j<i:=by
 intro i
 induction i using Nat.strongRecOn with
 | _ i aI=>
  intro o ap j ai;obtain⟨e,am,ag,nC⟩:=hu.chain i o j ap ai;have aN:=hu.Cn i o e ap am ag;rcases nC with rfl | nC
  ·exact aN
  ·obtain⟨cR,eD⟩:=dQ i o e ap am ag;have:=aI e.on aN cR eD j nC;omega
theorem aiF {ops:Array Oper} {pre:Nat->Nat->Bool} (hu:tE ops pre) (i:Nat) (o:Oper) (ap:ops[i]? = some o) (ay:pre i i=true) :False:=by
 have:=ajj hu (fun i o e ap am ag=>by
  have h1:=hu.Cn i o e ap am ag;have ad:=(auv.1 ap).1;exact⟨ops[e.on]'(by omega),by simp⟩) i o ap i ay
 omega
theorem Sf {ops:Array Oper} {pre:Nat->Nat->Bool} {tr:List bN} (go:zu ops pre tr) (s0:jZ) {i:Nat} {o:Oper} (ap:ops[i]? = some o) {t:Nat} (aH:t∈o.looksAt ops) :
  nu ops pre (fun j=>((tr[eu tr j]?).map bN.val).getD .bad) s0.ae i o t=(gY ops s0 tr (eu tr i)).ae t:=by
 have av:i<ops.size:=(auv.1 ap).1;obtain⟨dm,h1,ad⟩:=y2 go av;have dR:eu tr i<=tr.length:=av0 (atU.1 h1).1;rw[Ye go s0 _ dR];unfold nu;rw[if_pos (by simpa using aH)];cases hw:jW ops t with
 | none=>rfl
 | some j=>
  simp only;obtain⟨Ww,yv,_⟩:=zm hw;obtain⟨Ob,aj,aF⟩:=y2 go ((auv.1 yv).1);have key:pre i j=true<->eu tr j<eu tr i:=by
   constructor
   ·intro ay;rcases au8 (eu tr j) (eu tr i) with h | h | h
    ·exact h
    ·exfalso;rw[h,h1] at aj;cases aj;have hi:i=j:=by rw[<-ad,<-aF]
     subst hi;exact aiF go.hu i o ap ay
    ·have:=go.YM _ _ _ _ h1 aj h;rw[ad,aF] at this;rw[this] at ay; cases ay
   ·intro aN;rcases go.hu.acc i o t j ap aH hw with aG | aG | rfl
    ·exact aG
    ·have:=go.YM _ _ _ _ aj h1 aN;rw[ad,aF] at this;rw[this] at aG; cases aG
    ·omega
  by_cases ay:pre i j=true
  ·rw[if_pos ay,if_pos (key.1 ay)]
  ·rw[if_neg ay,if_neg (fun aG=>ay (key.2 aG))]
def fa (tr:List bN) :List Nat:=(List.range tr.length).filter fun p=>((tr[p]?).map bN.jA).getD false
theorem Hp {tr:List bN} {p:Nat}:p∈fa tr<->∃ t,tr[p]? = some t/\t.jA=true:=by
 unfold fa;rw[auS,aux];constructor
 ·rintro⟨h1,ad⟩;refine⟨tr[p],by simp[h1],?_⟩;simpa [h1] using ad
 ·rintro⟨t,h1,ad⟩;exact⟨(atU.1 h1).1,by simp[h1,ad]⟩
theorem vW {tr:List bN} {q fF:Nat} (aZ:q<fF) (ph:fF<(fa tr).length) :(fa tr).getD q 0<(fa tr).getD fF 0:=by
 have ay:(fa tr).Pairwise (· < ·) :=List.Pairwise.filter _ List.pairwise_lt_range;have:=auO.1 ay q fF (by omega) ph aZ;simpa [List.getD,ph,show q<(fa tr).length by omega] using this
theorem Sb {tr:List bN} {q:Nat} (aZ:q<(fa tr).length) :∃ t,tr[(fa tr).getD q 0]? = some t/\t.jA=true:=by
 apply Hp.1;simp[List.getD,aZ]
theorem Fs {tr:List bN} {p:Nat} (ay:p∈fa tr) :∃ q,q<(fa tr).length/\(fa tr).getD q 0=p:=by
 obtain⟨q,aZ,rfl⟩:=List.getElem_of_mem ay;exact⟨q,aZ,by simp[List.getD,aZ]⟩
theorem DP {ops:Array Oper} {pre:Nat->Nat->Bool} {s0:jZ} {tr:List bN} (qL:IH P G ops pre s0 tr) :∀ (k p:Nat),p+k<=tr.length->(gY ops s0 tr p).h.n<=(gY ops s0 tr (p+k)).h.n
 | 0,p,_=>atW _
 | k+1,p,ay=>by
  have aI:=DP qL k p (by omega);have aN:p+k<tr.length:=by omega
  have dU:tr[p+k]? = some tr[p+k] :=atX aN;have ak:=qL.step _ _ dU;rw[show p+(k+1)=(p+k)+1 from rfl,Bi dU];refine avn aI ?_;cases aH:tr[p+k] with
  | skip i=>simp[mw,qC]
  | pure i v=>simp[mw,qC]
  | new i v cs=>simp[mw,qC,fB]
  | gC i v h1=>
   rw[aH] at ak;obtain⟨o,_,_,_,aC⟩:=ak;simpa [mw,qC] using aC
theorem J8 {ops:Array Oper} {s0:jZ} {tr:List bN}:∀ (k p:Nat),p+k<=tr.length->(∀ r,p<=r->r<p+k->r∉fa tr)->oM (gY ops s0 tr p).h (gY ops s0 tr (p+k)).h
 | 0,p,_,_=>⟨[],rfl⟩
 | k+1,p,ay,dH=>by
  obtain⟨l,al⟩:=J8 (ops:=ops) (s0:=s0) (tr:=tr) k p (by omega) (fun r h1 ad=>dH r h1 (by omega));have aN:p+k<tr.length:=by omega
  have dU:tr[p+k]? = some tr[p+k] :=atX aN;have bz:tr[p+k].jA≠true:=fun aG=>dH (p+k) (by omega) (by omega) (Hp.2 ⟨_,dU,aG⟩)
  rw[show p+(k+1)=(p+k)+1 from rfl,Bi dU];cases aH:tr[p+k] with
  | skip i=>exact⟨l,by simp[mw,qC,al]⟩
  | pure i v=>exact⟨l,by simp[mw,qC,al]⟩
  | new i v cs=>exact⟨l++[cs],by simp[mw,qC,al,wZ]⟩
  | gC i v h1=>rw[aH] at bz; exact absurd rfl bz
theorem dA.abT {id:Nat} {ops:Array Oper} {pre:Nat->Nat->Bool} {N:Nat} {s0:jZ} {tr:List bN} (go:zu ops pre tr) (bH:∀ (i:Nat) (o:Oper),ops[i]? = some o->p0 N o.dst=true) (qL:IH P G ops pre s0 tr) :
  dA P G (.code (.region id ops true) N s0.ae s0.h .normal (gY ops s0 tr tr.length).ae (gY ops s0 tr tr.length).h) :=by
 -- the step that carries out operation i
 have hW:∀ (i:Nat) (o:Oper),ops[i]? = some o->∃ t,tr[eu tr i]? = some t/\t.idx=i/\xy P G ops (gY ops s0 tr (eu tr i)) t:=fun i o ap=>by
  obtain⟨t,h1,ad⟩:=y2 go ((auv.1 ap).1);exact⟨t,h1,ad,qL.step _ _ h1⟩
 have am1:∀ (i:Nat) (o:Oper),ops[i]? = some o->kS ops (nu ops pre (fun j=>((tr[eu tr j]?).map bN.val).getD .bad) s0.ae i o) o=kS ops (gY ops s0 tr (eu tr i)).ae o:=fun i o ap=>by
  unfold kS;cases ar:o.guard with
  | none=>rfl
  | some kI=>
   obtain⟨j,Bu⟩:=kI;simp only;cases aeJ:(ops[j]?).bind (·.dst) with
   | none=>rfl
   | some d=>
    simp only;rw[Sf go s0 ap (t:=d) (by simp[Oper.looksAt,ar,aeJ])]
 have MK:∀ (i:Nat) (o:Oper),ops[i]? = some o->∀ x∈o.op.operands,c2 G (gY ops s0 tr (eu tr i)).ae x=c2 G (nu ops pre (fun j=>((tr[eu tr j]?).map bN.val).getD .bad) s0.ae i o) x:=fun i o ap x af=>by
  cases x with
  | tmp t=>
   refine (Sf go s0 ap (t:=t) ?_).symm;simp only[Oper.looksAt,aup,List.mem_filterMap];exact .inl ⟨.tmp t,by simpa using af,rfl⟩
  | _=>rfl
 -- the moment ahead of effect k,or the end
 have Od:∀ k,k<=(fa tr).length->∃ T,T<=tr.length/\(T=tr.length\/∃ t,tr[T]? = some t/\t.jA=true)/\(T=if k<(fa tr).length then (fa tr).getD k 0 else tr.length) :=fun k hk=>by
  by_cases aN:k<(fa tr).length
  ·obtain⟨t,h1,ad⟩:=Sb aN;exact⟨_,av0 (atU.1 h1).1,.inr ⟨t,h1,ad⟩,by rw[if_pos aN]⟩
  ·exact⟨_,atW _,.inl rfl,by rw[if_neg aN]⟩
 have g1:∀ q,q<(fa tr).length->∃ t,tr[(fa tr).getD q 0]? = some t/\t.jA=true/\((tr[(fa tr).getD q 0]?).map bN.idx).getD 0=t.idx:=fun q aZ=>by
  obtain⟨t,h1,ad⟩:=Sb aZ;exact⟨t,h1,ad,by rw[h1]; rfl⟩
 have Ym:∀ (i:Nat) (o:Oper) (t:bN),ops[i]? = some o->tr[eu tr i]? = some t->t.idx=i->t.jA=false->∀ k,zW pre (fa tr).length (fun q=>((tr[(fa tr).getD q 0]?).map bN.idx).getD 0) i k->
   IG P G ops (gY ops s0 tr (eu tr i)) (gY ops s0 tr (if k<(fa tr).length then (fa tr).getD k 0 else tr.length)).h t:=by
  intro i o t ap aH GV bz k aD;obtain⟨nE,yg,Am⟩:=aD;obtain⟨T,Tx,wd,o1⟩:=Od k nE;rw[<-o1];have aqk:eu tr i<tr.length:=(atU.1 aH).1;have af5:eu tr i<T:=by
   by_cases aN:k<(fa tr).length
   ·rw[if_pos aN] at o1;obtain⟨alY,h1,ad,aj⟩:=g1 k aN;rw[<-o1] at h1;rcases au8 (eu tr i) T with h | h | h
    ·exact h
    ·rw[h,h1] at aH;cases aH;rw[bz] at ad; cases ad
    ·have am:=go.eager T (eu tr i) alY t h1 aH h ad;have:=yg k aN (by (try simp only); rw[aj,<-GV]; exact am);omega
   ·rw[if_neg aN] at o1;omega
  refine qL.still T wd _ t af5 aH (fun bS gu gc GR ga=>?_);obtain⟨q,aZ,qt⟩:=Fs (Hp.2 ⟨gu,GR,ga⟩);obtain⟨atw,h1,ad,aj⟩:=g1 q aZ;rw[qt,GR] at h1;cases h1;have uA:q<k:=by
   by_cases aN:k<(fa tr).length
   ·rw[if_pos aN] at o1;rcases au9 q k with h | h
    ·exact h
    ·rcases awH h with h | h
     ·subst h; omega
     ·have:=vW (tr:=tr) h aZ;omega
   ·omega
  cases ay:pre gu.idx t.idx with
  | false=>rfl
  | true=>
   have:=Am q aZ (by (try simp only); rw[aj,<-GV]; exact ay);omega
 refine dA.draw pre (fun j=>((tr[eu tr j]?).map bN.val).getD .bad) (fun j=>((tr[eu tr j]?).map fun t=>!t.uM).getD false) (fun j=>((tr[eu tr j]?).map bN.cls).getD .pure) (fa tr).length
  (fun q=>((tr[(fa tr).getD q 0]?).map bN.idx).getD 0) (fun k=>(gY ops s0 tr (if k<(fa tr).length then (fa tr).getD k 0 else tr.length)).h) (fun q=>(gY ops s0 tr ((fa tr).getD q 0+1)).h)
  (fun j=>(gY ops s0 tr (eu tr j)).h.n) (fun j=>((tr[eu tr j]?).map bN.cs).getD []) go.hu bH ?_ ?_ ?_ ?_ ?_ ?_ ?_ ?_ ?_ ?_ ?_ ?_ ?_ ?_ ?_
 ·-- h0
  obtain⟨T,Tx,wd,o1⟩:=Od 0 (au7 _)
  try simp only
  rw[<-o1];have:=J8 (ops:=ops) (s0:=s0) (tr:=tr) T 0 (by omega) (fun r _ az k3=>by
   obtain⟨q,aZ,qt⟩:=Fs k3;rw[if_pos (by omega)] at o1;rcases awH (au7 q) with h | h
   ·subst h; omega
   ·have:=vW (tr:=tr) h aZ;omega)
  simpa [gY] using this
 ·simp
 ·-- hσ
  funext t;rw[Ye go s0 _ (atW _)];cases hw:jW ops t with
  | none=>rfl
  | some j=>
   obtain⟨o,ap,_⟩:=zm hw;obtain⟨Ob,h1,_⟩:=y2 go ((auv.1 ap).1);simp only;rw[if_pos ((atU.1 h1).1)]
 ·-- heff
  intro i o ap dG ah;obtain⟨t,h1,ad,_⟩:=hW i o ap;simp only[h1,at1,auJ] at ah;have am:t.jA=true:=by cases t<;>simp_all [bN.cls,bN.jA]
  obtain⟨q,aZ,qt⟩:=Fs (Hp.2 ⟨t,h1,am⟩);exact⟨q,aZ,by rw[qt,h1]; exact ad⟩
 ·-- heff'
  intro q aZ;obtain⟨t,h1,ad,aj⟩:=g1 q aZ;refine⟨ops[t.idx]'(go.H1 _ _ h1),by rw[aj]; simp[go.H1 _ _ h1],?_,?_⟩
  ·simp only[aj,HJ go h1,h1,at1,auJ];cases t<;>simp_all [bN.uM,bN.jA]
  ·simp only[aj,HJ go h1,h1,at1,auJ];cases t<;>simp_all [bN.cls,bN.jA]
 ·-- hord
  intro q fF aZ ph aN;obtain⟨t,h1,ad,aj⟩:=g1 q aZ;obtain⟨gu,cN,gE,v7⟩:=g1 fF ph;simp only[aj,v7];exact go.eager _ _ t gu h1 cN (vW aN ph) ad
 ·-- hinj
  intro q fF aZ ph am;obtain⟨t,h1,ad,aj⟩:=g1 q aZ;obtain⟨gu,cN,gE,v7⟩:=g1 fF ph;simp only[aj,v7] at am;have:=go.inj _ _ t gu h1 cN am;rcases au8 q fF with h | h | h
  ·have:=vW (tr:=tr) h ph; omega
  ·exact h
  ·have:=vW (tr:=tr) h aZ; omega
 ·-- hwant
  intro i o ap;rw[am1 i o ap];obtain⟨t,h1,ad,aj⟩:=hW i o ap;simp only[h1,at1,auJ];cases t with
  | skip j=>obtain⟨cR,eD,hw⟩:=aj; simp only[bN.idx] at ad; subst ad; rw[ap] at eD; cases eD; exact hw
  | pure j v=>obtain⟨cR,eD,hw⟩:=aj; simp only[bN.idx] at ad; subst ad; rw[ap] at eD; cases eD; exact hw
  | new j v cs=>obtain⟨cR,mk,eD,hw,_⟩:=aj; simp only[bN.idx] at ad; subst ad; rw[ap] at eD; cases eD; exact hw
  | gC j v cN=>obtain⟨cR,eD,hw,_⟩:=aj; simp only[bN.idx] at ad; subst ad; rw[ap] at eD; cases eD; exact hw
 ·-- hskip
  intro i o ap dG;obtain⟨t,h1,ad,aj⟩:=hW i o ap;simp only[h1,at1,auJ] at dG ⊢;cases t<;>simp_all [bN.uM,bN.val]
 ·-- hpure
  intro i o ap dG ah k aD;obtain⟨t,h1,ad,aj⟩:=hW i o ap;simp only[h1,at1,auJ] at dG ah;have ch:=Ym i o t ap h1 ad (by cases t<;>simp_all [bN.cls,bN.jA]) k aD;cases t with
  | pure j v=>
   simp only[bN.idx] at ad;subst ad;have:=ch o ap;rw[NW _ _ (MK j o ap)] at this;simpa [h1,bN.val] using this
  | skip j=>simp[bN.uM] at dG
  | new j v cs=>simp[bN.cls] at ah
  | gC j v cN=>simp[bN.cls] at ah
 ·-- hnew
  intro i o ap dG ah;obtain⟨t,h1,ad,aj⟩:=hW i o ap;simp only[h1,at1,auJ] at dG ah;cases t with
  | new j v cs=>
   obtain⟨cR,mk,eD,_,aC,aq⟩:=aj;simp only[bN.idx] at ad;subst ad;rw[ap] at eD; cases eD;rw[aiv _ (MK j o ap)] at aC;refine⟨mk,by simpa [h1,bN.cs] using aC,by simpa [h1,bN.val] using aq,?_,fun k aD=>?_⟩
   ·have dR:eu tr j<=tr.length:=av0 (atU.1 h1).1;have:=DP qL (eu tr j) 0 (by omega);simpa [gY] using this
   ·have ch:=Ym j o _ ap h1 rfl rfl k aD;simpa [IG,h1,bN.cs] using ch
  | skip j=>simp[bN.uM] at dG
  | pure j v=>simp[bN.cls] at ah
  | gC j v cN=>simp[bN.cls] at ah
 ·-- hbid
  intro i j o cR ap eD wg sH dx rm ag;have Tb:∀ (i:Nat) (o:Oper),ops[i]? = some o->((tr[eu tr i]?).map bN.cls).getD .pure=.new->∀ p,eu tr i<p->p<=tr.length->(gY ops s0 tr (eu tr i)).h.n<(gY ops s0 tr p).h.n:=by
   intro i o ap ah p ay gy;obtain⟨t,h1,ad,_⟩:=hW i o ap;simp only[h1,at1,auJ] at ah;have aF:=DP qL (p - (eu tr i+1)) (eu tr i+1) (by omega);rw[show eu tr i+1+(p - (eu tr i+1))=p by omega,Bi h1] at aF;cases t with
   | new j v cs=>simp only[mw,qC,fB] at aF; omega
   | skip j=>simp[bN.cls] at ah
   | pure j v=>simp[bN.cls] at ah
   | gC j v cN=>simp[bN.cls] at ah
  obtain⟨t,h1,ad,_⟩:=hW i o ap;obtain⟨gu,cN,gE,_⟩:=hW j cR eD;have al:=(atU.1 h1).1;have db:=(atU.1 cN).1;rcases au8 (eu tr i) (eu tr j) with h | h | h
  ·have:=Tb i o ap dx _ h (av0 db); (try simp only at ag); omega
  ·rw[h,cN] at h1; cases h1; rw[<-ad,<-gE]
  ·have:=Tb j cR eD rm _ h (av0 al); (try simp only at ag); omega
 ·-- hbid'
  intro i o q ap dG ah aZ;obtain⟨t,h1,ad,_⟩:=hW i o ap;obtain⟨N9,aM,aT,a7⟩:=g1 q aZ;simp only[h1,at1,auJ] at ah;have al:=(atU.1 h1).1;have db:=(atU.1 aM).1;simp only[if_pos aZ];rcases au8 (eu tr i) ((fa tr).getD q 0) with h | h | h
  ·left;have aF:=DP qL ((fa tr).getD q 0 - (eu tr i+1)) (eu tr i+1) (by omega);rw[show eu tr i+1+((fa tr).getD q 0 - (eu tr i+1))=(fa tr).getD q 0 by omega,Bi h1] at aF;cases t with
   | new j v cs=>simp only[mw,qC,fB] at aF; omega
   | skip j=>simp[bN.cls] at ah
   | pure j v=>simp[bN.cls] at ah
   | gC j v cN=>simp[bN.cls] at ah
  ·rw[h,aM] at h1; cases h1;cases t<;>simp_all [bN.cls,bN.jA]
  ·right;have aF:=DP qL (eu tr i - ((fa tr).getD q 0+1)) ((fa tr).getD q 0+1) (by omega)
   rwa [show (fa tr).getD q 0+1+(eu tr i - ((fa tr).getD q 0+1))=eu tr i by omega] at aF
 ·-- hgrow
  intro q aZ;obtain⟨N9,aM,aT,a7⟩:=g1 q aZ;have db:=(atU.1 aM).1;obtain⟨T,Tx,wd,o1⟩:=Od (q+1) (by omega)
  try simp only
  rw[<-o1];have aN:(fa tr).getD q 0<T:=by
   by_cases h:q+1<(fa tr).length
   ·rw[if_pos h] at o1;have:=vW (tr:=tr) (show q<q+1 by omega) h;omega
   ·rw[if_neg h] at o1; omega
  have:=J8 (ops:=ops) (s0:=s0) (tr:=tr) (T - ((fa tr).getD q 0+1)) ((fa tr).getD q 0+1) (by omega) (fun r k5 lI k3=>by
   obtain⟨fF,ph,qt⟩:=Fs k3;have GG:q<fF:=by
    rcases au8 q fF with h | h | h
    ·exact h
    ·subst h; omega
    ·have:=vW (tr:=tr) h aZ; omega
   by_cases h:q+1<(fa tr).length
   ·rw[if_pos h] at o1;rcases awH (show q+1<=fF from GG) with h' | h'
    ·subst h'; omega
    ·have:=vW (tr:=tr) h' ph; omega
   ·omega)
  rwa [show (fa tr).getD q 0+1+(T - ((fa tr).getD q 0+1))=T by omega] at this
 ·-- hcall
  intro q o aZ ap;obtain⟨N9,aM,aT,a7⟩:=g1 q aZ;have jr:=HJ go aM;simp only[a7] at ap ⊢;have ak:=qL.step _ _ aM;cases N9 with
  | gC j v h1=>
   obtain⟨cR,eD,_,am,_⟩:=ak;simp only[bN.idx] at ap jr ⊢;rw[ap] at eD; cases eD;have o5:=MK j o ap;rw[jr] at o5;have:=aco o5 am;simp only[jr,aM,if_pos aZ,at1,auJ,bN.val];rw[Bi aM];exact this
  | skip j=>simp[bN.jA] at aT
  | pure j v=>simp[bN.jA] at aT
  | new j v cs=>simp[bN.jA] at aT
end
abbrev g4:=cG U
def look (s:g4) (t:Nat) :U:=match s.get t with | some v=>v | none=>hv
theorem V3 (s:g4) (t:Nat) (v:U) :look (s.set t v)=bO (look s) t v:=by
 funext u;simp only[look,cG.FG,bO];by_cases h:u=t
 ·simp[h]
 ·simp[h]
def D7 (s:g4) (dst:Option Tmp) (v:U) :g4:=match dst with | some d=>s.set d v | none=>s
theorem Hf (s:g4) (dst:Option Tmp) (v:U) :look (D7 s dst v)=ht (look s) dst v:=by
 cases dst with
 | none=>rfl
 | some d=>exact V3 s d v
def A2:Nat->g4->List U->g4
 | _,s,[]=>s
 | k,s,v::vs=>A2 (k+1) (s.set k v) vs
theorem V2:∀ (vs:List U) (k:Nat) (s:g4),look (A2 k s vs)=fun t=>if k<=t/\t<k+vs.length then vs.getD (t - k) hv else look s t
 | [],k,s=>by funext t; simp only[A2,auy]; rw[if_neg (by omega)]
 | v::vs,k,s=>by
  funext t;rw[A2,V2 vs (k+1),V3];simp only[auf,bO];by_cases h1:k+1<=t/\t<k+1+vs.length
  ·rw[if_pos h1,if_pos (by omega),show t - k=(t - (k+1))+1 by omega];simp
  ·rw[if_neg h1];by_cases ad:t=k
   ·subst ad; rw[if_pos rfl,if_pos (by omega)]; simp
   ·rw[if_neg ad,if_neg (by omega)]
def Bn (m i:Nat) :Bool:=Nat.testBit m i
def vV (ms:List Nat) :List Edge->Nat
 | []=>0
 | e::es=>match Region.binds .any e with
  | true=>Nat.lor (Nat.lor (2 ^ e.on) (ms.getD e.on 0)) (vV ms es)
  | false=>vV ms es
def Wf (ms:List Nat) :List Oper->List Nat
 | []=>ms
 | o::os=>Wf (ms++[vV ms o.after.toList]) os
def iI (ops:Array Oper) :List Nat:=Wf [] ops.toList
def pu (ms:List Nat) (i j:Nat) :Bool:=Bn (ms.getD i 0) j
def kG:Op->Bool
 | .move _ | .assign _ | .pick .. | .alloc _ | .box .. | .build .. | .buildSlice .. | .load .. | .nilCheck _ | .binOp .. | .unOp .. | .convert .. | .makeInterface .. | .makeFunc .. | .makeSlice .. | .slice .. | .fieldAddr .. | .field .. | .indexAddr .. | .index .. | .extract ..=>false
 | .call c=>match c.callee with
  | .builtin .len | .builtin .cap | .builtin .min | .builtin .max=>false
  | _=>true
 | _=>true
def ahs:Op->Bool
 | .move _ | .assign _ | .pick .. | .build .. | .load .. | .nilCheck _ | .binOp .. | .unOp .. | .convert .. | .makeInterface .. | .makeFunc .. | .slice .. | .fieldAddr .. | .field .. | .indexAddr .. | .index .. | .extract ..=>true
 | .call c=>match c.callee with
  | .builtin .len | .builtin .cap | .builtin .min | .builtin .max=>true
  | _=>false
 | _=>false
def MX (done:Nat) (gC:Bool) :Nat->List Nat->List Oper->Option Nat
 | i,m::ms,o::os=>match !Bn done i&&Nat.beq (Nat.land m done) m&&(kG o.op == gC) with
  | true=>some i
  | false=>MX done gC (i+1) ms os
 | _,_,_=>none
def NK (ms:List Nat) (os:List Oper) :Nat->Nat->List Nat
 | 0,_=>[]
 | k+1,done=>match MX done false 0 ms os with
  | some i=>i::NK ms os k (Nat.lor done (2 ^ i))
  | none=>match MX done true 0 ms os with
   | some i=>i::NK ms os k (Nat.lor done (2 ^ i))
   | none=>[]
def fH (ms:List Nat) (ops:Array Oper) :List Nat:=NK ms ops.toList ops.size 0
def ET (p:Nat->Oper->Bool) :Nat->List Oper->Bool
 | _,[]=>true
 | i,o::os=>p i o&&ET p (i+1) os
theorem OW {p:Nat->Oper->Bool}:∀ (l:List Oper) (i:Nat),ET p i l=true->∀ (j:Nat) (o:Oper),l[j]? = some o->p (i+j) o=true
 | [],i,_,j,o,h=>by simp at h
 | x::l,i,h,j,o,ai=>by
  simp only[ET,atY] at h;cases j with
  | zero=>simp only[aul,Option.some.injEq] at ai; subst ai; exact h.1
  | succ j=>
   simp only[auF] at ai;have:=OW l (i+1) h.2 j o ai
   rwa [show i+1+j=i+(j+1) by omega] at this
def Jx (t:Nat) (o:Oper) :Bool:=match o.dst with | some d=>Nat.beq d t | none=>false
def zl (t:Nat) :Nat->List Oper->Option Nat
 | _,[]=>none
 | i,o::os=>match Jx t o with
  | true=>some i
  | false=>zl t (i+1) os
def Jv (ms:List Nat) (ops:Array Oper) :Bool:=
 ET (fun i o=>
  Nat.beq (ms.getD i 0) (vV ms o.after.toList) &&
  (o.after.toList.all fun e=>!Region.binds .any e||Nat.blt e.on i) &&
  (match o.dst with | some d=>(match zl d 0 ops.toList with | some j=>Nat.beq j i | none=>false) | none=>true) &&
  ((o.looksAt ops).all fun t=>match zl t 0 ops.toList with | some j=>pu ms i j||pu ms j i||Nat.beq j i | none=>true)) 0 ops.toList &&
 Region.noSelect ops
def HD (ms:List Nat) :List Nat->Bool
 | []=>true
 | i::r=>(r.all fun j=>!Nat.beq i j&&!pu ms i j)&&HD ms r
def MP (ms:List Nat) (ops:Array Oper) (kj:List Nat) :Bool:=
 Jv ms ops&&HD ms kj&&Nat.beq kj.length ops.size&&(kj.all fun i=>Nat.blt i ops.size)&&(List.range ops.size).all fun i=>kj.contains i
structure ZA where
 t:bN
 s:g4
 h:aO
section
variable (P:Program) (G:Nat->U)
end
theorem JB (ms:List Nat) (j:Nat) :∀ (es:List Edge),Bn (vV ms es) j=true->∃ e∈es,Region.binds .any e=true/\(e.on=j\/pu ms e.on j=true)
 | [],h=>by simp[vV,Bn] at h
 | e::es,h=>by
  unfold vV at h;cases ag:Region.binds .any e with
  | false=>
   rw[ag] at h;obtain⟨fw,h1,ad⟩:=JB ms j es h;exact⟨fw,awv _ h1,ad⟩
  | true=>
   rw[ag] at h;simp only[Bn] at h;have h' : Nat.testBit ((2 ^ e.on ||| ms.getD e.on 0) ||| vV ms es) j=true:=h;rw[Nat.testBit_or,Nat.testBit_or,avT,avT,Nat.testBit_two_pow] at h';rcases h' with (h' | h') | h'
   ·exact⟨e,awI,ag,.inl (by simpa using h')⟩
   ·exact⟨e,awI,ag,.inr h'⟩
   ·obtain⟨fw,h1,ad⟩:=JB ms j es h';exact⟨fw,awv _ h1,ad⟩
theorem Zh (t:Nat) :∀ (l:List Oper) (i:Nat),zl t i l=((List.range l.length).find? fun j=>match l[j]? with | some o=>o.dst == some t | none=>false).map (·+i)
 | [],i=>by simp[zl]
 | o::l,i=>by
  unfold zl;have aeI:Jx t o=(o.dst == some t) :=by
   unfold Jx;cases o.dst with
   | none=>rfl
   | some d=>
    by_cases h:d=t
    ·subst h; simp
    ·have:Nat.beq d t=false:=jU h;simp[this,h]
  rw[aeI,auf,List.range_succ_eq_map,awu];simp only[aul];cases ag:(o.dst == some t) with
  | true=>simp
  | false=>
   simp only[List.find?_map];rw[Zh t l (i+1)];have:((fun j=>match (o::l)[j]? with | some o=>o.dst == some t | none=>false) ∘ Nat.succ)=fun j=>match l[j]? with | some o=>o.dst == some t | none=>false:=by
    funext j; simp
   rw[this];cases (List.range l.length).find? (fun j=>match l[j]? with | some o=>o.dst == some t | none=>false) with
   | none=>rfl
   | some j=>simp; omega
theorem Zg (ops:Array Oper) (t:Nat) :zl t 0 ops.toList=jW ops t:=by
 rw[Zh];unfold jW;simp only[avH,avO,awt,Option.map_id_fun',id_eq];congr 1
theorem abU {ms:List Nat} {ops:Array Oper} (h:Jv ms ops=true) :tE ops (pu ms) :=by
 unfold Jv at h;rw[atY] at h;obtain⟨h,ak⟩:=h;have key:∀ (i:Nat) (o:Oper),ops[i]? = some o->_:=fun i o ap=>OW _ 0 h i o (by simpa using ap)
 simp only[avi,atY] at key;refine⟨fun i o e ap am ag=>?_,fun i o j ap ay=>?_,fun i o t ap bH=>?_,fun i o t j ap aH hw=>?_,ak⟩
 ·have:=(key i o ap).1.1.2;rw[auK] at this;have:=this e (by simpa using am);rw[ag] at this;simp only[Bool.not_true,av7] at this;simpa [axb] using this
 ·have:=kM (key i o ap).1.1.1;have gc:Bn (ms.getD i 0) j=true:=ay;rw[this] at gc;obtain⟨e,h1,ad⟩:=JB ms j _ gc;exact⟨e,by simpa using h1,ad⟩
 ·have:=(key i o ap).1.2;rw[bH] at this;simp only at this;rw[Zg] at this;cases hw:jW ops t with
  | none=>rw[hw] at this; cases this
  | some j=>rw[hw] at this; simp only at this; rw[kM this]
 ·have:=(key i o ap).2;rw[auK] at this;have:=this t aH;rw[Zg,hw] at this;simp only[avT] at this;rcases this with (h1 | h1) | h1
  ·exact .inl h1
  ·exact .inr (.inl h1)
  ·exact .inr (.inr (kM h1))
theorem HE {ms:List Nat}:∀ {l:List Nat},HD ms l=true->∀ (p bS:Nat) (i j:Nat),l[p]? = some i->l[bS]? = some j->p<bS->i≠j/\pu ms i j=false
 | [],_,p,bS,i,j,av,_,_=>by simp at av
 | x::l,h,p,bS,i,j,av,ai,aN=>by
  simp only[HD,atY,auK] at h;cases bS with
  | zero=>omega
  | succ bS=>
   simp only[auF] at ai;cases p with
   | zero=>
    simp only[aul,Option.some.injEq] at av;subst av;have:=h.1 j (at3 ai);simp only[avb] at this;refine⟨fun am=>?_,this.2⟩;subst am;rw[tb rfl] at this;cases this.1
   | succ p=>
    simp only[auF] at av;exact HE h.2 p bS i j av ai (by omega)
section
variable {P:Program} {G:Nat->U}
structure anI (P:Program) (G:Nat->U) (ops:Array Oper) (e:ZA) :Prop where
 step:xy P G ops ⟨look e.s,e.h⟩ e.t
 pure:∀ i v,e.t=.pure i v->∃ o,ops[i]? = some o/\ahs o.op=true/\c5 P e.h (c2 G (look e.s)) o.op=some (.val v e.h)
theorem H8 {ops:Array Oper} {s0:jZ} {t:bN} {tr:List bN} (p:Nat) :gY ops s0 (t::tr) (p+1)=gY ops (mw ops s0 t) tr p:=by
 simp[gY]
end

section
variable {P:Program} {G:Nat->U}
theorem akh (w:World) (R:Nat->Prop) (gF:∀ k,w.heap.size<=k->R k) :b9 R w.heap.size w aO.empty (fun _=>none) where
 blk:=fun b m hm=>by cases hm
 inj:=fun b br m cv al=>by rw[Fu] at al; cases al
 base:=fun b m al=>by rw[Fu] at al; cases al
 fresh:=fun b _=>Fu b
 up:=gF
 size:=atW _
 la:=fun b _=>rfl
theorem Ws (μ:cP) (k:Nat) :¬ l0 aO.empty μ k:=by
 rintro⟨b,m,al,_⟩;rw[Fu] at al; cases al
theorem Og (mj:P.follows .mixedOrders=true) (kw:∀ g,(G g).closed=true) {f:FuncId} {args:List U} {r:U} {h' : aO} (am:dA P G (.call f args aO.empty r h'))
  {w:World} {A:Nat->Prop} {vs:Array Value} (ar:∀ g,fD w A (G g) (.pointer (some ⟨g,0,none⟩))) (al:vs.size=args.length)
  (aq:∀ (j:Nat) (c:U) (v:Value),args[j]? = some c->vs[j]? = some v->fD w A c v) :
  Calls P f vs w fun e w'=>∃ v μ',e=.returned v/\zq w w'/\b9 (fun k=>A k\/w.heap.size<=k) w.heap.size w' h' μ'/\aP w' (fun k=>A k\/w.heap.size<=k) h' μ' r v:=by
 have up:∀ {c:U} {v:Value},fD w A c v->aP w (fun k=>A k\/w.heap.size<=k) aO.empty (fun _=>none) c v:=fun ah=>ah.up (fun k _ hk=>⟨.inl hk,Ws _ k⟩)
 refine (ali mj kw am (fun k=>A k\/w.heap.size<=k) w.heap.size w (fun _=>none) vs (akh w _ fun k hk=>.inr hk) (fun g=>⟨kw g,up (ar g)⟩) al (fun j c v ai fy=>up (aq j c v ai fy))).mono ?_;rintro e w' ⟨v,μ',rfl,ex,rel,az⟩;exact⟨v,μ',rfl,⟨⟨ex.os,ex.tape,ex.output,ex.size,fun k hk=>ex.cy k hk (Ws _ k)⟩,ex.drawn⟩,rel,az⟩
theorem al1 (mj:P.follows .mixedOrders=true) (kw:∀ g,(G g).closed=true) {f:FuncId} {args:List U} {h' : aO} (am:dA P G (.call f args aO.empty (.bool true) h'))
  {w:World} {A:Nat->Prop} {vs:Array Value} (ar:∀ g,fD w A (G g) (.pointer (some ⟨g,0,none⟩))) (al:vs.size=args.length)
  (aq:∀ (j:Nat) (c:U) (v:Value),args[j]? = some c->vs[j]? = some v->fD w A c v) :
  Calls P f vs w fun e w'=>e=.returned (.bool true)/\RowKit.Below w.heap.size w w':=by
 refine (Og mj kw am ar al aq).mono ?_;rintro e w' ⟨v,μ',rfl,ag,_,az⟩;cases az;exact⟨rfl,ag.toBelow⟩
end

section
variable {α:Type}
theorem xd:∀ (k k' : Nat) (t:cG α) (n:Nat) (x:α),n<k->n<k'->t.kP k n x=t.kP k' n x
 | 0,_,_,_,_,h,_=>by omega
 | _+1,0,_,_,_,_,h=>by omega
 | k+1,k'+1,t,n,x,h,h'=>by
  by_cases aE:n=0
  ·subst aE;cases t<;>rfl
  ·have ag:Nat.beq n 0=false:=jU aE;cases t with
   | nil=>
    unfold cG.kP;simp only[ag];rw[xd k k' .nil (n / 2) x (by omega) (by omega),xd k k' .nil (n / 2 - 1) x (by omega) (by omega)]
   | node l v r=>
    unfold cG.kP;simp only[ag];rw[xd k k' l (n / 2) x (by omega) (by omega),xd k k' r (n / 2 - 1) x (by omega) (by omega)]
def cG.lt:cG α->cG α | .nil=>.nil | .node l _ _=>l
def cG.rt:cG α->cG α | .nil=>.nil | .node _ _ r=>r
def cG.mid:cG α->Option α | .nil=>none | .node _ v _=>v
theorem r1 (t:cG α) (x:α) :t.set 0 x=.node t.lt (some x) t.rt:=by cases t<;>rfl
theorem nV (t:cG α) (m:Nat) (x:α) :t.set (2*m+1) x=.node (t.lt.set m x) t.mid t.rt:=by
 have h1:Nat.beq (2*m+1) 0=false:=jU (by omega);have ad:Nat.beq ((2*m+1) % 2) 1=true:=tb (by omega);have aj:(2*m+1) / 2=m:=by omega
 cases t with
 | nil=>show cG.kP (2*m+1+1) .nil (2*m+1) x=_; unfold cG.kP; simp only[h1,ad,aj]; rw[xd _ (m+1) _ _ _ (by omega) (by omega)]; rfl
 | node l v r=>show cG.kP (2*m+1+1) (.node l v r) (2*m+1) x=_; unfold cG.kP; simp only[h1,ad,aj]; rw[xd _ (m+1) _ _ _ (by omega) (by omega)]; rfl
theorem nU (t:cG α) (m:Nat) (x:α) :t.set (2*m+2) x=.node t.lt t.mid (t.rt.set m x) :=by
 have h1:Nat.beq (2*m+2) 0=false:=jU (by omega);have ad:Nat.beq ((2*m+2) % 2) 1=false:=jU (by omega);have aj:(2*m+2) / 2 - 1=m:=by omega
 cases t with
 | nil=>show cG.kP (2*m+2+1) .nil (2*m+2) x=_; unfold cG.kP; simp only[h1,ad,aj]; rw[xd _ (m+1) _ _ _ (by omega) (by omega)]; rfl
 | node l v r=>show cG.kP (2*m+2+1) (.node l v r) (2*m+2) x=_; unfold cG.kP; simp only[h1,ad,aj]; rw[xd _ (m+1) _ _ _ (by omega) (by omega)]; rfl
theorem ME (n:Nat) :n=0\/(∃ m,m<n/\n=2*m+1)\/∃ m,m<n/\n=2*m+2:=by
 rcases Nat.eq_zero_or_pos n with h | h
 ·exact .inl h
 ·rcases Nat.mod_two_eq_zero_or_one n with ad | ad
  ·exact .inr (.inr ⟨n / 2 - 1,by omega,by omega⟩)
  ·exact .inr (.inl ⟨n / 2,by omega,by omega⟩)
theorem akT (n:Nat) :∀ (t:cG α) (x y:α),(t.set n x).set n y=t.set n y:=by
 induction n using Nat.strongRecOn with
 | _ n aI=>
  intro t x y;rcases ME n with rfl | ⟨m,hm,rfl⟩ | ⟨m,hm,rfl⟩
  ·rw[r1 t x,r1 t y,r1]; rfl
  ·rw[nV t,nV t,nV]; simp only[cG.lt,cG.mid,cG.rt,aI m hm]
  ·rw[nU t,nU t,nU]; simp only[cG.lt,cG.mid,cG.rt,aI m hm]
theorem set_comm (n:Nat) :∀ (t:cG α) (k:Nat) (x y:α),n≠k->(t.set n x).set k y=(t.set k y).set n x:=by
 induction n using Nat.strongRecOn with
 | _ n aI=>
  intro t k x y bz;rcases ME n with rfl | ⟨m,hm,rfl⟩ | ⟨m,hm,rfl⟩<;>rcases ME k with rfl | ⟨j,ai,rfl⟩ | ⟨j,ai,rfl⟩
  ·exact absurd rfl bz
  ·rw[r1 t,nV,nV t,r1]; rfl
  ·rw[r1 t,nU,nU t,r1]; rfl
  ·rw[nV t,r1,r1 t,nV]; rfl
  ·rw[nV t,nV,nV t,nV]; simp only[cG.lt,cG.mid,cG.rt]; rw[aI m hm _ j _ _ (by omega)]
  ·rw[nV t,nU,nU t,nV]; rfl
  ·rw[nU t,r1,r1 t,nU]; rfl
  ·rw[nU t,nV,nV t,nU]; rfl
  ·rw[nU t,nU,nU t,nU]; simp only[cG.lt,cG.mid,cG.rt]; rw[aI m hm _ j _ _ (by omega)]
end
abbrev ao:=List a2
def nF:Nat->cG a2->ao->cG a2
 | _,t,[]=>t
 | i,t,c::cs=>nF (i+1) (t.set i c) cs
def bU (l:ao) :aO:=⟨l.length,nF 0 .nil l⟩
@[simp] theorem vk (l:ao) :(bU l).n=l.length:=rfl
theorem Ut:∀ (l:ao) (i:Nat) (t:cG a2) (c:a2),nF i t (l++[c])=(nF i t l).set (i+l.length) c
 | [],i,t,c=>rfl
 | x::l,i,t,c=>by
  simp only[au5,nF,auf];rw[Ut l,show i+1+l.length=i+(l.length+1) by omega]
theorem lo (l:ao) (c:a2) :(bU l).push c=bU (l++[c]) :=by
 unfold bU aO.push;rw[Ut];simp
theorem Uw:∀ (l:ao) (i j:Nat) (t:cG a2) (c:a2),i<j->(nF j t l).set i c=nF j (t.set i c) l
 | [],_,_,_,_,_=>rfl
 | x::l,i,j,t,c,h=>by
  simp only[nF];rw[Uw l i (j+1) _ c (by omega),set_comm j t i x c (by omega)]
theorem Uv:∀ (l:ao) (i b:Nat) (t:cG a2) (c:a2),b<l.length->(nF i t l).set (i+b) c=nF i t (l.set b c)
 | [],_,_,_,_,h=>by simp at h
 | x::l,i,0,t,c,_=>by
  simp only[nF,avU,awt];rw[Uw l i (i+1) _ c (by omega),akT]
 | x::l,i,b+1,t,c,h=>by
  simp only[nF,awJ];rw[<-Uv l (i+1) b _ c (by simpa using h),show i+(b+1)=i+1+b by omega]
theorem n2 {l:ao} {b:Nat} (c:a2) (h:b<l.length) :(bU l).set b c=bU (l.set b c) :=by
 unfold bU aO.set;have:=Uv l 0 b .nil c h;rw[avi] at this;simp only[this,awa]
theorem Uu:∀ (l:ao) (i:Nat) (t:cG a2) (b:Nat),(nF i t l).get b=if i<=b/\b<i+l.length then l[b - i]? else t.get b
 | [],i,t,b=>by simp only[nF,auy]; rw[if_neg (by omega)]
 | x::l,i,t,b=>by
  simp only[nF,auf];rw[Uu l,cG.FG];by_cases h1:i+1<=b/\b<i+1+l.length
  ·rw[if_pos h1,if_pos (by omega),show b - i=(b - (i+1))+1 by omega,auF]
  ·rw[if_neg h1];by_cases ad:b=i
   ·subst ad; rw[if_pos rfl,if_pos (by omega)]; simp
   ·rw[if_neg ad,if_neg (by omega)]
theorem pM (l:ao) (b:Nat) :(bU l).f b=match l[b]? with | some c=>c | none=>.none:=by
 unfold bU aO.f;simp only[Uu,au7,true_and,avi,aww];by_cases h:b<l.length
 ·rw[if_pos h]; cases l[b]?<;>rfl
 ·rw[if_neg h,at6 (by omega)]; rfl
theorem lY {l:ao} {b n:Nat} {cs:List U}:(bU l).f b=.cells n cs<->l[b]? = some (.cells n cs) :=by
 rw[pM];cases h:l[b]? with
 | none=>simp
 | some c=>simp
theorem e1 {l:ao} {b:Nat} {c:a2} (h:l[b]? = some c) :b<l.length:=(atU.1 h).1
def eM (l:ao) :U->Option (List U × Nat)
 | .ptr b off sz=>match l[b]? with
  | some (.cells n cs)=>if n=sz then some (cs,off) else none
  | _=>none
 | .b3 cs off=>some (cs,off)
 | _=>none
def tk (n:Nat) (cs:List U) (off:Nat) :Option U:=if off+n<=cs.length then some (.aJ ((cs.drop off).take n)) else none
def km (n:Nat) (l:ao) (p v:U) :Option ao:=
 match p,v.cells with
 | .ptr b off sz,some vs=>match l[b]? with
  | some (.cells m cs)=>if m=sz/\vs.length=n/\off+n<=m then some (l.set b (.cells m (bu cs off vs))) else none
  | _=>none
 | _,_=>none
def dM (l:ao) (z:Nat) :U->Option (List U × Nat)
 | .aW=>some ([],0)
 | .bR dz es=>if z=dz then some (es.flatten,es.length) else none
 | .au dz b off len _ sz=>match l[b]? with
  | some (.cells n cs)=>if n=sz/\z=dz then some ((cs.drop off).take (len*z),len) else none
  | _=>none
 | .str s=>if z=1 then some (s.map jf,s.length) else none
 | _=>none
def iB (l:ao) (z by_:Nat) (s:U) (xs:List U) (n:Nat) :Option (U × ao) :=
 if n=0 then (match s with | .aW | .bR .. | .au ..=>some (s,l) | _=>none)
 else if z=0\/by_=0 then none else match s with
  | .aW=>if n*by_<=cK then some (.au z l.length 0 n n (n*z),l++[.cells (n*z) xs]) else none
  | .au dz b off len cap sz=>match l[b]? with
   | some (.cells m cs)=>
    if m=sz/\z=dz/\(len+n)*by_<=cK then
     if len+n<=cap then some (.au z b off (len+n) cap sz,l.set b (.cells m (bu cs (off+len*z) xs)))
     else if off+cap*z<sz then some (.au z l.length 0 (len+n) (len+n) ((len+n)*z),l++[.cells ((len+n)*z) ((cs.drop off).take (len*z)++xs)])
     else if off=0 then some (.au z b 0 (len+n) (len+n) ((len+n)*z),l.set b (.cells ((len+n)*z) (cs.take (len*z)++xs)))
     else some (.au z l.length 0 (len+n) (len+n) ((len+n)*z),l.set b .dead++[.cells ((len+n)*z) ((cs.drop off).take (len*z)++xs)])
    else none
   | _=>none
  | _=>none
def zO (z:Nat) (l:ao) (d x:U) :Option (U × ao) :=
 match dM l z x with
 | none=>none
 | some (xs,n)=>match d with
  | .aW=>some (.int .i64 0,l)
  | .au dz b off len _ sz=>match l[b]? with
   | some (.cells m cs)=>if m=sz/\z=dz then some (.int .i64 ((min n len:Nat) :Int),l.set b (.cells m (bu cs off (xs.take (min n len*z))))) else none
   | _=>none
  | _=>none
def s8 (l:ao) :U->Option (List (U × U × Nat))
 | .hS=>some []
 | .mp b=>match l[b]? with | some (.map es _)=>some es | _=>none
 | _=>none
def oS (l:ao) (x:U) :Option (List UInt8) :=match x with
 | .str s=>some s
 | x=>match dM l 1 x with
  | some (cs,_)=>nl cs
  | none=>none
def cmpL (l:ao) (x y:U) :Option U:=match oS l x,oS l y with
 | some a,some b=>some (.int .i64 (n5 a b))
 | _,_=>none
def uX (l:ao) (x:U) :Option (U × ao) :=match x with
 | .it b=>match l[b]? with
  | some (.iter s pos)=>match Nat.blt pos s.length with
   | true=>some (.bE [.bool true,.int .i64 pos,.int .i32 (Utf8.decode ⟨s.toArray⟩ pos).1],l.set b (.iter s (pos+(Utf8.decode ⟨s.toArray⟩ pos).2)))
   | false=>some (.bE [.bool false],l)
  | _=>none
 | _=>none
def Bb (l:ao) (x:U) :Option (U × ao) :=match x with
 | .str s=>some (.it l.length,l++[.iter s 0])
 | _=>none
def DJ (l:ao) (x:U) :Option U:=match x with
 | .hS=>some (.int .i64 0)
 | .mp b=>match l[b]? with | some (.map es _)=>some (.int .i64 es.length) | _=>none
 | _=>none
def sr (zero:List U) (l:ao) :U->Option ao
 | .aW=>some l
 | .bR _ []=>some l
 | .au z b off len _ sz=>if len=0 then some l else match l[b]? with
  | some (.cells m cs)=>if m=sz/\zero.length=z then some (l.set b (.cells m (bu cs off (dy zero len)))) else none
  | _=>none
 | _=>none
theorem Nf (l:ao) (p:U) :reach (bU l) p=eM l p:=by
 cases p<;>try rfl
 rename_i b off sz;simp only[reach,eM,pM];cases l[b]? with
 | none=>rfl
 | some c=>cases c<;>rfl
theorem Ce (l:ao) (z:Nat) (x:U) :contents (bU l) z x=dM l z x:=by
 cases x<;>try rfl
 rename_i dz b off len cap sz;simp only[contents,dM,pM];cases l[b]? with
 | none=>rfl
 | some c=>cases c<;>rfl
section
variable (P:Program)
inductive j0 where
 | arr (n z:Nat)
 | au (z:Nat)
 | str
 deriving DecidableEq
def pC (t:TypeId) :Option j0:=match P.underlying t with
 | some (.array n e)=>(cB P e).map fun z=>.arr n z
 | some (.slice e)=>(cB P e).map fun z=>.au z
 | some .string=>some .str
 | _=>none
inductive dk where
 | gd (x:Operand)
 | pick (c a b:Operand)
 | alloc (zero:List U)
 | box (x:Operand)
 | BV (zero:List U) (cJ:List (Nat × Nat × Operand))
 | q4 (z:Nat) (zero:List U) (len:Nat) (cJ:List (Nat × Operand))
 | ld1 (a:Operand)
 | uP (n:Nat) (a:Operand)
 | st (n:Nat) (a x:Operand)
 | DR (x:Operand)
 | bin (o:BinOp) (t:TypeId) (x y:Operand)
 | un (o:UnOp) (x:Operand)
 | zJ (k:IntKind) (x:Operand)
 | zQ (x:Operand)
 | tX (x:Operand)
 | zP (x:Operand)
 | yX (t:TypeId) (x:Operand)
 | Bl (t:TypeId) (z:U) (ok:Bool) (x:Operand)
 | yW (f:FuncId) (first fY:List Operand)
 | rQ (z by_:Nat) (zero:List U) (l c:Operand)
 | slice (dm:j0) (x:Operand) (cV av cO:Option Operand)
 | Cs (off:Nat) (x:Operand)
 | Cv (off:Nat) (x:Operand)
 | Cw (n off:Nat) (x:Operand)
 | AL (dm:j0) (x i:Operand)
 | Dz (n z:Nat) (x i:Operand)
 | DA (n z:Nat) (x i:Operand)
 | DD (x i:Operand)
 | ext (x:Operand) (i:Nat)
 | len (dm:j0) (x:Operand)
 | cap (dm:j0) (x:Operand)
 | app (z by_:Nat) (s x:Operand)
 | vx (z by_:Nat) (zero:List U) (s x:Operand)
 | vT (z:Nat) (d x:Operand)
 | vL (zero:List U) (x:Operand)
 | min (x y:Operand)
 | max (x y:Operand)
 | uV (x:Option Operand)
 | yR (cU:TypeId) (zero:U) (ok:Bool) (m k:Operand)
 | wR (cU:TypeId) (m k x:Operand)
 | wK (x:Operand)
 | w8 (x:Operand)
 | wT (x:Operand)
 | cq (f:FuncId) (sx x y:Operand)
 | stop
def wN (l:ao) (cU:TypeId) (zero:U) (ok:Bool) (m k:U) :Option U:=
 match s8 l m with
 | some es=>match k8 P cU k with
  | false=>none
  | true=>match jK P cU k es 0 with
   | some (some (_,v))=>some (if ok then .bE [v,.bool true] else v)
   | some none=>some (if ok then .bE [zero,.bool false] else zero)
   | none=>none
 | none=>none
def s9 (l:ao) (cU:TypeId) (m k v:U) :Option ao:=
 match m with
 | .mp b=>match l[b]? with
  | some (.map es eN)=>match k8 P cU k with
   | false=>none
   | true=>match jK P cU k es 0 with
    | some (some (i,_))=>some (l.set b (.map (es.modify i fun e=>(k,v,e.2.2)) eN))
    | some none=>some (l.set b (.map (es++[(k,v,eN)]) (eN+1)))
    | none=>none
  | _=>none
 | _=>none
def Dx (f:FuncId) :U->Bool | .fn g [] []=>Nat.beq g f | _=>false
def D3 (c a b:U) :Option U:=match c with | .bool t=>some (if t then a else b) | _=>none
def yY (x:U) :Option U:=match x with | .ptr b o s=>some (.ptr b o s) | .b3 c o=>some (.b3 c o) | .fn f a b=>some (.fn f a b) | _=>none
def pT (zero:List U) :List (Nat × Nat × U)->Option (List U)
 | []=>some zero
 | (off,size,v) ::r=>match v.cells with
  | some vs=>if vs.length=size/\off+size<=zero.length then pT (bu zero off vs) r else none
  | none=>none
def B6 (k:IntKind) :U->Option U | .int _ n=>some (.int k (k.wrap n)) | _=>none
def Fo:U->Option U | .str s=>some (.str s) | _=>none
def vG (l:ao) (x:U) :Option U:=match x with
 | .aW=>some (.str [])
 | .str _=>none
 | x=>match dM l 1 x with | some (cs,_)=>(nl cs).map .str | none=>none
def vU:U->Option U | .str s=>some (.bR 1 (s.map fun b=>[jf b])) | _=>none
def rR (z by_:Nat) (zero:List U) (al:ao) (l c:U) :Option (U × ao) :=match l,c with
 | .int _ l,.int _ c=>if 0<=l/\l<=c/\c<9223372036854775808/\by_*c<=cK then
   some (.au z al.length 0 l.toNat c.toNat (c.toNat*z),al++[.cells (c.toNat*z) (dy zero c.toNat)]) else none
 | _,_=>none
def gq (dm:j0) (x:U) (cV av cO:Option U) :Option U:=
 match dm with
 | .arr n z=>match gK n n cV av cO with
  | some (l,aG,m)=>match x with
   | .ptr b off sz=>if off+m*z<=sz then (if m=l then some (.bR z []) else some (.au z b (off+l*z) (aG - l) (m - l) sz)) else none
   | .b3 cs off=>if off+n*z<=cs.length then some (.bR z (l5 z (aG - l) (cs.drop (off+l*z)))) else none
   | _=>none
  | none=>none
 | .au z=>match x with
  | .au dz b off len cap sz=>if z=dz then (gK len cap cV av cO).map fun (l,aG,m)=>if m=l then .au z b (off+l*z) 0 0 sz else .au z b (off+l*z) (aG - l) (m - l) sz else none
  | .bR dz es=>if z=dz then (gK es.length es.length cV av cO).map fun (l,aG,_)=>.bR z ((es.drop l).take (aG - l)) else none
  | .aW=>(gK 0 0 cV av cO).map fun _=>.aW
  | _=>none
 | .str=>match x,cO with
  | .str s,none=>(gK s.length s.length cV av none).map fun (l,aG,_)=>.str ((s.drop l).take (aG - l))
  | _,_=>none
def Cx (off:Nat) :U->Option U | .aJ cs=>cs[off]? | _=>none
def zZ (n off:Nat) :U->Option U | .aJ cs=>tk n cs off | _=>none
def cg (dm:j0) (x io:U) :Option U:=
 match io with
 | .int _ i=>match dm with
  | .arr n z=>if 0<=i/\i<n then nq x (i.toNat*z) else none
  | .au z=>match x with
   | .au dz b off len _ sz=>if z=dz/\0<=i/\i<len then some (.ptr b (off+i.toNat*z) sz) else none
   | .bR dz es=>if z=dz/\0<=i then (es[i.toNat]?).map fun cs=>.b3 cs 0 else none
   | _=>none
  | .str=>none
 | _=>none
def DB (n z:Nat) (x io:U) :Option U:=match x,io with
 | .aJ cs,.int _ i=>if 0<=i/\i<n then cs[i.toNat*z]? else none
 | _,_=>none
def DC (n z:Nat) (x io:U) :Option U:=match x,io with
 | .aJ cs,.int _ i=>if 0<=i/\i<n then tk z cs (i.toNat*z) else none
 | _,_=>none
def yI (x io:U) :Option U:=match x,io with
 | .str s,.int _ i=>if 0<=i then (s[i.toNat]?).map jf else none
 | _,_=>none
def Cr (x:U) (i:Nat) :Option U:=match x with | .bE vs=>vs[i]? | _=>none
def cz (dm:j0) (x:U) :Option U:=match dm with
 | .arr n _=>some (.int .i64 n)
 | .au _=>match x with
  | .aW=>some (.int .i64 0)
  | .au _ _ _ len _ _=>some (.int .i64 len)
  | .bR _ es=>some (.int .i64 es.length)
  | _=>none
 | .str=>match x with | .str s=>some (.int .i64 s.length) | _=>none
def tW (dm:j0) (x:U) :Option U:=match dm with
 | .arr n _=>some (.int .i64 n)
 | .au _=>match x with | .aW=>some (.int .i64 0) | _=>none
 | .str=>none
def iP (l:ao) (z by_:Nat) (s x:U) :Option (U × ao) :=match dM l z x with
 | none=>none
 | some (xs,n)=>iB l z by_ s xs n
def q3 (l:ao) (z by_:Nat) (zero:List U) (s x:U) :Option (U × ao) :=match x with
 | .int _ n=>if 0<=n/\n<9223372036854775808/\n.toNat*by_<=cK then iB l z by_ s (dy zero n.toNat) n.toNat else none
 | _=>none
def dI (l:ao) (x:Option U) :Option (U × ao) :=x.map fun v=>(v,l)
def bQ (aB:Operand->U) (l:ao) :dk->Option (U × ao)
 | .gd x=>some (aB x,l)
 | .pick c a b=>dI l (D3 (aB c) (aB a) (aB b))
 | .alloc zero=>some (.ptr l.length 0 zero.length,l++[.cells zero.length zero])
 | .box x=>(aB x).cells.map fun cs=>(.ptr l.length 0 cs.length,l++[.cells cs.length cs])
 | .BV zero cJ=>dI l ((pT zero (cJ.map fun p=>(p.1,p.2.1,aB p.2.2))).map .aJ)
 | .q4 z zero len cJ=>(hD (fun i=>some (i*z,z)) (dy zero len) (cJ.map fun p=>(p.1,aB p.2))).map fun cs=>(.au z l.length 0 len len (len*z),l++[.cells (len*z) cs])
 | .ld1 a=>dI l ((eM l (aB a)).bind fun x=>x.1[x.2]?)
 | .uP n a=>dI l ((eM l (aB a)).bind fun x=>tk n x.1 x.2)
 | .st n a x=>(km n l (aB a) (aB x)).map fun l'=>(hv,l')
 | .DR x=>dI l (yY (aB x))
 | .bin o t x y=>dI l (gv P o t (aB x) (aB y))
 | .un o x=>dI l (qO o (aB x))
 | .zJ k x=>dI l (B6 k (aB x))
 | .zQ x=>dI l (Fo (aB x))
 | .tX x=>dI l (vG l (aB x))
 | .zP x=>dI l (vU (aB x))
 | .yX t x=>some (.gQ t (aB x),l)
 | .Bl t z ok x=>dI l (Bm t z ok (aB x))
 | .yW f a b=>some (.fn f (a.map aB) (b.map aB),l)
 | .rQ z by_ zero a c=>rR z by_ zero l (aB a) (aB c)
 | .slice dm x cV av cO=>dI l (gq dm (aB x) (cV.map aB) (av.map aB) (cO.map aB))
 | .Cs off x=>dI l (nq (aB x) off)
 | .Cv off x=>dI l (Cx off (aB x))
 | .Cw n off x=>dI l (zZ n off (aB x))
 | .AL dm x i=>dI l (cg dm (aB x) (aB i))
 | .Dz n z x i=>dI l (DB n z (aB x) (aB i))
 | .DA n z x i=>dI l (DC n z (aB x) (aB i))
 | .DD x i=>dI l (yI (aB x) (aB i))
 | .ext x i=>dI l (Cr (aB x) i)
 | .len dm x=>dI l (cz dm (aB x))
 | .cap dm x=>dI l (tW dm (aB x))
 | .app z by_ s x=>iP l z by_ (aB s) (aB x)
 | .vx z by_ zero s x=>q3 l z by_ zero (aB s) (aB x)
 | .vT z d x=>zO z l (aB d) (aB x)
 | .vL zero x=>(sr zero l (aB x)).map fun l'=>(.bE [],l')
 | .min x y=>dI l (AW (aB x) (aB y))
 | .max x y=>dI l (uU (aB x) (aB y))
 | .uV x=>match x with
  | none=>some (.mp l.length,l++[.map [] 0])
  | some o=>match asInt (aB o) with | some _=>some (.mp l.length,l++[.map [] 0]) | none=>none
 | .yR cU zero ok m k=>dI l (wN P l cU zero ok (aB m) (aB k))
 | .wR cU m k x=>(s9 P l cU (aB m) (aB k) (aB x)).map fun l'=>(hv,l')
 | .wK x=>dI l (DJ l (aB x))
 | .w8 x=>Bb l (aB x)
 | .wT x=>uX l (aB x)
 | .cq f sx x y=>match Dx f (aB sx) with | true=>dI l (cmpL l (aB x) (aB y)) | false=>none
 | .stop=>none
def I8 (t:TypeId) (cJ:List (Nat × Operand)) :Option (List (Nat × Nat × Operand)) :=
 match P.underlying t with
 | some (.struct fs)=>if fs.toList.all fun f=>(cB P f.type).isSome then cJ.mapM fun p=>(D4 P fs p.1).map fun q=>(q.1,q.2,p.2) else none
 | some (.array _ e)=>(cB P e).map fun n=>cJ.map fun p=>(p.1*n,n,p.2)
 | _=>none
def vO (b:Builtin) (ts:List TypeId) (args:List Operand) :Option dk:=
 match b,ts,args with
 | .len,[t],[x]=>match P.underlying t with
  | some (.map _ _)=>some (.wK x)
  | _=>(pC P t).map fun dm=>.len dm x
 | .cap,[t],[x]=>(pC P t).map fun dm=>.cap dm x
 | .append,[t,u],[s,x]=>match P.underlying u with
  | some (.int _)=>(iD P t).bind fun e=>(cB P e).bind fun z=>(iQ P e).bind fun by_=>(hJ P e).bind fun zero=>
    if zero.length=z/\tD P e=some z then some (.vx z by_ zero s x) else none
  | none=>none
  | _=>(iD P t).bind fun e=>(cB P e).bind fun z=>(iQ P e).bind fun by_=>if tD P e=some z then some (.app z by_ s x) else none
 | .copy,[t,_],[d,x]=>(iD P t).bind fun e=>(cB P e).map fun z=>.vT z d x
 | .clear,[t],[x]=>match P.underlying t with
  | some (.slice e)=>(hJ P e).map fun zero=>.vL zero x
  | _=>none
 | .min,_,[x,y]=>some (.min x y)
 | .max,_,[x,y]=>some (.max x y)
 | _,_,_=>none
def nr:Op->Option dk
 | .move x | .assign x=>some (.gd x)
 | .pick c a b=>some (.pick c a b)
 | .alloc t=>(hJ P t).map .alloc
 | .box _ x=>some (.box x)
 | .build t cJ=>(hJ P t).bind fun zero=>(I8 P t cJ.toList).map fun q=>.BV zero q
 | .buildSlice t len cJ=>(iD P t).bind fun e=>(cB P e).bind fun z=>(hJ P e).bind fun zero=>
   if zero.length=z/\len*z<=16777216 then some (.q4 z zero len cJ.toList) else none
 | .load t a=>match eo P t,cB P t with
  | some true,some n=>some (.uP n a)
  | some false,_=>some (.ld1 a)
  | _,_=>none
 | .store t a x=>(cB P t).map fun n=>.st n a x
 | .nilCheck x=>some (.DR x)
 | .binOp o t x y _=>some (.bin o t x y)
 | .unOp o _ x=>some (.un o x)
 | .convert s d x=>match P.underlying s,P.underlying d with
  | some _,some (.int k)=>some (.zJ k x)
  | some (.slice e),some .string=>match P.underlying e with
   | some (.int .u8)=>some (.tX x)
   | _=>none
  | some .string,some .string=>some (.zQ x)
  | some .string,some (.slice e)=>match P.underlying e with
   | some (.int .u8)=>some (.zP x)
   | _=>none
  | _,_=>none
 | .makeInterface t x=>match P.underlying t with
  | some (.interface _) | none=>none
  | _=>some (.yX t x)
 | .makeFunc (.func f) a b=>some (.yW f a.toList b.toList)
 | .makeSlice t l c=>(iD P t).bind fun e=>(cB P e).bind fun z=>(iQ P e).bind fun by_=>(hJ P e).bind fun zero=>
   if zero.length=z then some (.rQ z by_ zero l c) else none
 | .slice t x cV av cO=>(pC P t).map fun dm=>.slice dm x cV av cO
 | .fieldAddr s x f=>(xS P s f).bind fun fd=>match cB P fd.type with
  | some (_+1)=>some (.Cs fd.offset x)
  | _=>none
 | .field t x f=>(xS P t f).bind fun fd=>match eo P fd.type,cB P fd.type with
  | some true,some n=>some (.Cw n fd.offset x)
  | some false,_=>some (.Cv fd.offset x)
  | _,_=>none
 | .indexAddr t x i=>match pC P t with
  | some (.arr n z)=>some (.AL (.arr n z) x i)
  | some (.au z)=>some (.AL (.au z) x i)
  | _=>none
 | .index t x i=>match P.underlying t with
  | some (.array n e)=>match cB P e,eo P e with
   | some z,some true=>some (.DA n z x i)
   | some z,some false=>some (.Dz n z x i)
   | _,_=>none
  | some .string=>some (.DD x i)
  | _=>none
 | .extract x i=>some (.ext x i)
 | .call c=>match c.callee with
  | .builtin b=>vO P b c.argTypes.toList c.args.toList
  | .value (.func f)=>match P.funcs[f]?,c.args.toList with
   | some fn,[x,y]=>if Dw fn then some (.cq f (.func f) x y) else none
   | _,_=>none
  | _=>none
 | .makeMap t r=>match P.underlying t with | some (.map _ _)=>some (.uV r) | _=>none
 | .lookup t m k ok=>match P.underlying t with | some (.map cU mI)=>(zo P mI).map fun z=>.yR cU z ok m k | _=>none
 | .mapUpdate t m k x | .insert t m k x=>match P.underlying t with | some (.map cU _)=>some (.wR cU m k x) | _=>none
 | .range t x=>match P.underlying t with | some .string=>some (.w8 x) | _=>none
 | .next it true=>some (.wT it)
 | .panic _=>some .stop
 | .typeAssert x _ t ok=>(Ie P t).map fun z=>.Bl t z ok x
 | _=>none
end

section
variable {P:Program}
theorem bind_some {α jY:Type} {x:Option α} {f:α->Option jY} {y:jY}:x.bind f=some y<->∃ a,x=some a/\f a=some y:=by cases x<;>simp
theorem map_some {α jY:Type} {x:Option α} {f:α->jY} {y:jY}:x.map f=some y<->∃ a,x=some a/\f a=y:=by cases x<;>simp
theorem gB {l l' : ao} {x:Option U} {v:U}:dI l x=some (v,l')<->x=some v/\l'=l:=by cases x<;>simp[dI,eq_comm]
theorem im {α:Type} {p:Prop} [Decidable p] {x y:α}:(if p then some x else none)=some y<->p/\x=y:=by by_cases p<;>simp_all
theorem O9 {l l' : ao} {e z by_ n:Nat} {s v:U} {xs:List U} (aw:tD P e=some z) (h:iB l z by_ s xs n=some (v,l')) :vy P (bU l) e z by_ s xs n=some (v,bU l') :=by
 unfold iB at h;unfold vy;by_cases aC:n=0
 ·rw[if_pos aC] at h ⊢;cases s<;>simp at h ⊢<;>simp[h]
 ·rw[if_neg aC] at h ⊢;by_cases aE:z=0\/by_=0
  ·rw[if_pos aE] at h; cases h
  ·rw[if_neg aE] at h;rw[if_neg (by simp only[aw]; simpa using aE)];cases s<;>simp only at h ⊢<;>try (cases h; done)
   case aW=>
    by_cases az:n*by_<=cK
    ·rw[if_pos az] at h ⊢; cases h; rw[lo]; rfl
    ·rw[if_neg az] at h; cases h
   case au dz b off len cap sz=>
    cases ag:l[b]? with
    | none=>rw[ag] at h; cases h
    | some c=>
     cases c<;>rw[ag] at h<;>(try simp only at h)<;>try (cases h; done)
     rename_i m cs;rw[lY.2 ag];simp only;by_cases h1:m=sz/\z=dz/\(len+n)*by_<=cK
     ·rw[if_pos h1] at h ⊢;by_cases ad:len+n<=cap
      ·rw[if_pos ad] at h ⊢; cases h; rw[n2 _ (e1 ag)]
      ·rw[if_neg ad] at h ⊢;by_cases aj:off+cap*z<sz
       ·rw[if_pos aj] at h ⊢; cases h; rw[lo]; rfl
       ·rw[if_neg aj] at h ⊢;by_cases aF:off=0
        ·rw[if_pos aF] at h ⊢; cases h; rw[n2 _ (e1 ag)]
        ·rw[if_neg aF] at h ⊢; cases h;rw[n2 _ (e1 ag),lo]; rfl
     ·rw[if_neg h1] at h; cases h
theorem aaI {t:TypeId} {cJ:List (Nat × Operand)} {q:List (Nat × Nat × Operand)} (aZ:I8 P t cJ=some q) (aB:Operand->U) (zero:List U) (aw:hJ P t=some zero) {cs:List U}
  (ag:pT zero (q.map fun p=>(p.1,p.2.1,aB p.2.2))=some cs) :BZ P t (cJ.map fun p=>(p.1,aB p.2))=some (.aJ cs) :=by
 have fill:∀ (lc:Nat->Option (Nat × Nat)) (cJ:List (Nat × Operand)) (q:List (Nat × Nat × Operand)) (zero:List U),
   (cJ.mapM fun p=>(lc p.1).map fun q=>(q.1,q.2,p.2))=some q->pT zero (q.map fun p=>(p.1,p.2.1,aB p.2.2))=some cs->hD lc zero (cJ.map fun p=>(p.1,aB p.2))=some cs:=by
  intro lc cJ
  induction cJ with
  | nil=>intro q zero h1 ad; simp at h1; subst h1; simpa [pT,hD] using ad
  | cons p cJ aI=>
   intro q zero h1 ad;rw[avA] at h1;simp only[Option.bind_eq_bind,bind_some,map_some,avI,Option.some.injEq] at h1;obtain⟨a,⟨e9,aj,rfl⟩,fF,aF,rfl⟩:=h1;simp only[aus,pT,hD,aj] at ad ⊢;split at ad
   ·rename_i vs aq;simp only[aq];split at ad
    ·rename_i aU;rw[if_pos aU];exact aI _ _ aF ad
    ·cases ad
   ·cases ad
 unfold I8 at aZ;unfold BZ;split at aZ
 ·rename_i fs aL;rw[aw,aL];simp only;split at aZ
  ·rename_i eH;rw[if_neg (by simp[eH])];rw[fill _ _ _ _ aZ ag]; rfl
  ·cases aZ
 ·rename_i n e aL;rw[map_some] at aZ;obtain⟨g6,h1,rfl⟩:=aZ;rw[aw,aL];simp only[h1];rw[fill (fun i=>some (i*g6,g6)) cJ _ zero ?_ ag]; rfl;clear ag
  induction cJ with
  | nil=>rfl
  | cons p cJ aI=>rw[avA,aI]; rfl
 ·cases aZ
theorem akZ {t:TypeId} {dm:j0} (aH:pC P t=some dm) (x:U) (cV av cO:Option U) :gq dm x cV av cO=En P t x cV av cO:=by
 unfold pC at aH;unfold En;split at aH
 ·rename_i n e aL;rw[map_some] at aH;obtain⟨z,h1,rfl⟩:=aH;rw[aL]; simp only[h1,gq];cases gK n n cV av cO<;>rfl
 ·rename_i e aL;rw[map_some] at aH;obtain⟨z,h1,rfl⟩:=aH;rw[aL]; simp only[h1,gq];cases x<;>rfl
 ·rename_i aL;cases aH;rw[aL]; simp only[gq];cases x<;>cases cO<;>rfl
 ·cases aH
theorem ah4 {t:TypeId} {dm:j0} (aH:pC P t=some dm) {x v:U} (h:cz dm x=some v) :yP P t x=some v:=by
 unfold pC at aH;unfold yP;split at aH
 ·rename_i n e aL;rw[map_some] at aH;obtain⟨z,h1,rfl⟩:=aH;rw[aL]; simpa [cz] using h
 ·rename_i e aL;rw[map_some] at aH;obtain⟨z,h1,rfl⟩:=aH;rw[aL]; unfold cz at h; cases x<;>simp_all
 ·rename_i aL;cases aH;rw[aL]; unfold cz at h; cases x<;>simp_all
 ·cases aH
theorem aa7 {t:TypeId} {dm:j0} (aH:pC P t=some dm) {x v:U} (h:tW dm x=some v) :zH P t x=some v:=by
 unfold pC at aH;unfold zH;split at aH
 ·rename_i n e aL;rw[map_some] at aH;obtain⟨z,h1,rfl⟩:=aH;rw[aL]; simpa [tW] using h
 ·rename_i e aL;rw[map_some] at aH;obtain⟨z,h1,rfl⟩:=aH;rw[aL]; unfold tW at h; cases x<;>simp_all
 ·rename_i aL;cases aH;rw[aL]; unfold tW at h; cases x<;>simp_all
 ·cases aH
theorem Vp {t:TypeId} {dm:j0} (aH:pC P t=some dm) {x i v:U} (h:cg dm x i=some v) :Du P t x i=some v:=by
 unfold pC at aH;unfold Du;unfold cg at h;cases i<;>(try simp only at h)<;>try (cases h; done)
 rename_i k i;split at aH
 ·rename_i n e aL;rw[map_some] at aH;obtain⟨z,h1,rfl⟩:=aH;rw[aL]; simpa [asInt,h1] using h
 ·rename_i e aL;rw[map_some] at aH;obtain⟨z,h1,rfl⟩:=aH;rw[aL]; simp only[asInt,h1]; simp only at h;cases x<;>simp only at h ⊢<;>first | exact h | cases h
 ·rename_i aL;cases aH;simp only at h;cases h
 ·cases aH
theorem alF {t:TypeId} {n:Nat} (ak:cB P t=some n) {l l' : ao} {p v:U} (h:km n l p v=some l') :Bk P (bU l) t p v=some (bU l') :=by
 unfold km at h;unfold Bk;cases p<;>(try simp only at h)<;>try (cases h; done)
 rename_i b off sz;cases aq:v.cells with
 | none=>rw[aq] at h; cases h
 | some vs=>
  rw[aq] at h;simp only[ak] at h ⊢;cases ag:l[b]? with
  | none=>rw[ag] at h; cases h
  | some c=>
   cases c<;>rw[ag] at h<;>(try simp only at h)<;>try (cases h; done)
   rename_i m cs;rw[lY.2 ag];simp only;rw[im] at h;obtain⟨h1,rfl⟩:=h;rw[if_pos h1,n2 _ (e1 ag)]
theorem abF {t e:TypeId} {z:Nat} (am:iD P t=some e) (ak:cB P e=some z) {l l' : ao} {d x v:U} (h:zO z l d x=some (v,l')) :zN P (bU l) t d x=some (v,bU l') :=by
 unfold zO at h;unfold zN;rw[am]; simp only[ak,Ce];cases ah:dM l z x with
 | none=>rw[ah] at h; cases h
 | some p=>
  obtain⟨xs,n⟩:=p;rw[ah] at h;simp only at h ⊢;cases d<;>simp only at h ⊢<;>try (cases h; done)
  case aW=>cases h; rfl
  case au dz b off len cap sz=>
   cases ag:l[b]? with
   | none=>rw[ag] at h; cases h
   | some c=>
    cases c<;>rw[ag] at h<;>(try simp only at h)<;>try (cases h; done)
    rename_i m cs;rw[lY.2 ag];simp only;rw[im] at h;obtain⟨h1,ad⟩:=h;cases ad;rw[if_pos h1,n2 _ (e1 ag)]
theorem abl {t e:TypeId} {zero:List U} (aL:P.underlying t=some (.slice e)) (aw:hJ P e=some zero) {l l' : ao} {x:U} (h:sr zero l x=some l') :zK P (bU l) t x=some (bU l') :=by
 unfold sr at h;unfold zK;rw[aL];cases x<;>(try simp only at h)<;>try (cases h; done)
 case aW=>cases h; rfl
 case bR z es=>cases es<;>simp only at h<;>cases h; rfl
 case au z b off len cap sz=>
  simp only;by_cases aE:len=0
  ·rw[if_pos aE] at h ⊢; cases h; rfl
  ·rw[if_neg aE] at h ⊢;rw[aw];cases ag:l[b]? with
   | none=>rw[ag] at h; cases h
   | some c=>
    cases c<;>rw[ag] at h<;>(try simp only at h)<;>try (cases h; done)
    rename_i m cs;rw[lY.2 ag];simp only;rw[im] at h;obtain⟨h1,rfl⟩:=h;rw[if_pos h1,n2 _ (e1 ag)]
theorem Wc {t cU mI:TypeId} (aL:P.underlying t=some (.map cU mI)) {l l' : ao} {m k x:U} (h:s9 P l cU m k x=some l') :yU P (bU l) t m k x=some (bU l') :=by
 unfold s9 at h;unfold yU;rw[aL];cases m<;>(try simp only at h)<;>try (cases h; done)
 rename_i b;simp only[pM];cases ag:l[b]? with
 | none=>rw[ag] at h; cases h
 | some c=>
  cases c<;>rw[ag] at h<;>simp only at h<;>try (cases h; done)
  rename_i es eN;simp only;cases hk:k8 P cU k with
  | false=>rw[hk] at h; cases h
  | true=>
   rw[hk] at h;simp only at h ⊢;cases aD:jK P cU k es 0 with
   | none=>rw[aD] at h; cases h
   | some r=>
    rw[aD] at h;cases r with
    | none=>cases h; simp only[n2 _ (e1 ag)]
    | some wI=>cases h; simp only[n2 _ (e1 ag)]
theorem ah9 {t:TypeId} (h1:eo P t=some false) (h:aO) (p:U) :s7 P h t p=(reach h p).bind fun x=>x.1[x.2]?:=by
 unfold s7 hU; rw[h1]; cases reach h p<;>rfl
theorem aia {t:TypeId} {n:Nat} (h1:eo P t=some true) (ad:cB P t=some n) (h:aO) (p:U) :s7 P h t p=(reach h p).bind fun x=>tk n x.1 x.2:=by
 unfold s7 hU; rw[h1,ad]; cases reach h p<;>rfl
theorem aaX {b:Builtin} {ts:List TypeId} {args:List Operand} {m:dk} (hm:vO P b ts args=some m) {aB:Operand->U} {l l' : ao} {v:U} (h:bQ P aB l m=some (v,l')) :
  pU P (bU l) b ts (args.map aB)=some (.val v (bU l')) :=by
 unfold vO at hm;split at hm
 ·rename_i Bw;split at hm
  ·rename_i k e aL;cases hm;simp only[bQ,gB] at h;obtain⟨ad,rfl⟩:=h;unfold DJ at ad;simp only[aus,awg,pU];cases af:aB Bw<;>rw[af] at ad<;>(try simp only at ad)<;>try (cases ad; done)
   ·cases ad; simp[yP,yQ,aL]
   ·rename_i b;cases ag:l'[b]? with
    | none=>rw[ag] at ad; cases ad
    | some c=>
     cases c<;>rw[ag] at ad<;>simp only at ad<;>try (cases ad; done)
     cases ad;simp[yQ,aL,pM,ag]
  ·rw[map_some] at hm;obtain⟨dm,h1,rfl⟩:=hm;simp only[bQ,gB] at h;obtain⟨ad,rfl⟩:=h;have aj:=ah4 h1 ad;have aF:∀ x,yQ P (bU l') _ x=none:=fun x=>by
    unfold pC at h1;unfold yQ;split at h1<;>first | (rename_i aL; rw[aL]; done) | (cases h1; done) | skip
    all_goals (rename_i aL; simp only[aL])
   simp only[aus,awg,pU,aF];simp[aj]
 ·rw[map_some] at hm;obtain⟨dm,h1,rfl⟩:=hm;simp only[bQ,gB] at h;obtain⟨ad,rfl⟩:=h;simp[pU,aa7 h1 ad]
 ·rename_i t u s x;simp only[aus,awg,pU];split at hm
  ·rename_i aL;simp only[bind_some] at hm;obtain⟨e,h1,z,ad,by_,aj,zero,aF,hm⟩:=hm;rw[im] at hm;obtain⟨⟨aU,bt⟩,rfl⟩:=hm;simp only[bQ] at h;unfold q3 at h;cases af:aB x<;>rw[af] at h<;>(try simp only at h)<;>try (cases h; done)
   rename_i k n;by_cases c8:0<=n/\n<9223372036854775808/\n.toNat*by_<=cK
   ·rw[if_pos c8] at h;rw[aL];simp only[BR,h1,asInt,ad,aj,aF];rw[if_pos ⟨aU,c8⟩,O9 bt h]; rfl
   ·rw[if_neg c8] at h; cases h
  ·cases hm
  ·rename_i aC aL;simp only[bind_some] at hm;obtain⟨e,h1,z,ad,by_,aj,hm⟩:=hm;rw[im] at hm;obtain⟨bt,rfl⟩:=hm;simp only[bQ] at h;unfold iP at h;cases ah:dM l z (aB x) with
   | none=>rw[ah] at h; cases h
   | some p=>
    obtain⟨xs,n⟩:=p;rw[ah] at h;simp only at h;have:sm P (bU l) t (aB s) (aB x)=some (v,bU l') :=by
     simp only[sm,h1,ad,aj,Ce,ah];exact O9 bt h
    rw[this];cases bH:P.underlying u with
    | none=>exact absurd bH aL
    | some d=>
     cases d<;>first | rfl | (rename_i k; exact absurd bH (aC k))
 ·simp only[bind_some,map_some] at hm;obtain⟨e,h1,z,ad,rfl⟩:=hm;simp only[bQ] at h;simp[pU,abF h1 ad h]
 ·split at hm
  ·rename_i e aL;rw[map_some] at hm;obtain⟨zero,h1,rfl⟩:=hm;simp only[bQ,map_some,Prod.mk.injEq] at h;obtain⟨bX,ad,rfl,rfl⟩:=h;simp[pU,abl aL h1 ad]
  ·cases hm
 ·cases hm;simp only[bQ,gB] at h;obtain⟨ad,rfl⟩:=h;simp[pU,ad]
 ·cases hm;simp only[bQ,gB] at h;obtain⟨ad,rfl⟩:=h;simp[pU,ad]
 ·cases hm
theorem MU {t:TypeId} (h1:eo P t=some false) (cs:List U) (off:Nat) :hU P t cs off=cs[off]?:=by unfold hU; rw[h1]
theorem WP {t:TypeId} {n:Nat} (h1:eo P t=some true) (ad:cB P t=some n) (cs:List U) (off:Nat) :hU P t cs off=tk n cs off:=by unfold hU; rw[h1,ad]; rfl
theorem Je {s d:TypeId} {x:U} (h:∀ e,P.underlying d=some (.slice e)->False) :zF P s d x=none:=by
 unfold zF;split
 ·rename_i e ak bH af;exact (h e af).elim
 ·rfl
theorem Ht {op:Op} {m:dk} (hm:nr P op=some m) {aB:Operand->U} {l l' : ao} {v:U} (h:bQ P aB l m=some (v,l')) :c5 P (bU l) aB op=some (.val v (bU l')) :=by
 cases op<;>simp only[nr] at hm<;>try (cases hm; done)
 case move x=>cases hm; simp only[bQ,Option.some.injEq,Prod.mk.injEq] at h; obtain⟨rfl,rfl⟩:=h; rfl
 case assign x=>cases hm; simp only[bQ,Option.some.injEq,Prod.mk.injEq] at h; obtain⟨rfl,rfl⟩:=h; rfl
 case pick c a b=>
  cases hm; simp only[bQ,gB] at h;obtain⟨ad,rfl⟩:=h;simp only[c5];unfold D3 at ad;cases ah:aB c<;>rw[ah] at ad<;>(try simp only at ad)<;>try (cases ad; done)
  cases ad; rfl
 case alloc t=>
  rw[map_some] at hm;obtain⟨zero,h1,rfl⟩:=hm;simp only[bQ,Option.some.injEq,Prod.mk.injEq] at h;obtain⟨rfl,rfl⟩:=h;simp only[c5,h1,lo]; rfl
 case box t x=>
  cases hm;simp only[bQ,map_some,Prod.mk.injEq] at h;obtain⟨cs,h1,rfl,rfl⟩:=h;simp only[c5,h1,lo]; rfl
 case build t cJ=>
  simp only[bind_some,map_some] at hm;obtain⟨zero,h1,q,ad,rfl⟩:=hm;simp only[bQ,gB,map_some] at h;obtain⟨⟨cs,aj,rfl⟩,rfl⟩:=h;simp only[c5,aaI ad aB zero h1 aj]; rfl
 case buildSlice t n cJ=>
  simp only[bind_some] at hm;obtain⟨e,h1,z,ad,zero,aj,hm⟩:=hm;rw[im] at hm;obtain⟨aF,rfl⟩:=hm;simp only[bQ,map_some,Prod.mk.injEq] at h;obtain⟨cs,aU,rfl,rfl⟩:=h;simp only[c5,E7,h1,ad,aj,if_pos aF,aU,lo]; rfl
 case load t a=>
  split at hm
  ·rename_i n h1 ad;cases hm;simp only[bQ,gB] at h;obtain⟨aj,rfl⟩:=h;simp only[c5,aia h1 ad,Nf,aj]; rfl
  ·rename_i h1;cases hm;simp only[bQ,gB] at h;obtain⟨aj,rfl⟩:=h;simp only[c5,ah9 h1,Nf,aj]; rfl
  ·cases hm
 case store t a x=>
  rw[map_some] at hm;obtain⟨n,h1,rfl⟩:=hm;simp only[bQ,map_some,Prod.mk.injEq] at h;obtain⟨bX,ad,rfl,rfl⟩:=h;simp only[c5,alF h1 ad]; rfl
 case nilCheck x=>
  cases hm;simp only[bQ,gB] at h;obtain⟨ad,rfl⟩:=h;simp only[c5];unfold yY at ad;cases ah:aB x<;>rw[ah] at ad<;>simp only at ad<;>first | (cases ad; done) | (cases ad; rfl)
 case binOp o t x y u=>
  cases hm;simp only[bQ,gB] at h;obtain⟨ad,rfl⟩:=h;simp only[c5,ad]; rfl
 case unOp o t x=>
  cases hm;simp only[bQ,gB] at h;obtain⟨ad,rfl⟩:=h;simp only[c5,ad]; rfl
 case convert s d x=>
  simp only[c5];split at hm
  ·rename_i h0 k ak bH;cases hm;simp only[bQ,gB] at h;obtain⟨ad,rfl⟩:=h;rw[Je (fun e am=>by rw[bH] at am; cases am)];unfold B6 at ad;cases af:aB x<;>rw[af] at ad<;>(try simp only at ad)<;>try (cases ad; done)
   cases ad;simp only[xJ,ak,bH]; rfl
  ·rename_i e ak bH;split at hm
   ·rename_i am;cases hm;simp only[bQ,gB] at h;obtain⟨ad,rfl⟩:=h;rw[Je (fun e am=>by rw[bH] at am; cases am)];have:xJ P (bU l') s d (aB x)=some v:=by
     rw[<-ad];unfold xJ vG;rw[ak,bH];cases af:aB x<;>(simp only[am,Ce])<;>(try rfl)<;>(rw[af] at ad; unfold vG at ad; simp only at ad)
     ·cases ad
     all_goals (cases ah:dM l' 1 _<;>rfl)
    rw[this]; rfl
   ·cases hm
  ·rename_i ak bH;cases hm;simp only[bQ,gB] at h;obtain⟨ad,rfl⟩:=h;rw[Je (fun e am=>by rw[bH] at am; cases am)];unfold Fo at ad;cases af:aB x<;>rw[af] at ad<;>(try simp only at ad)<;>try (cases ad; done)
   cases ad;simp only[xJ,ak,bH]; rfl
  ·rename_i e ak bH;split at hm
   ·rename_i am;cases hm;simp only[bQ,gB] at h;obtain⟨ad,rfl⟩:=h;unfold vU at ad;cases af:aB x<;>rw[af] at ad<;>(try simp only at ad)<;>try (cases ad; done)
    cases ad;simp only[zF,ak,bH,am]
   ·cases hm
  ·cases hm
 case makeInterface t x=>
  split at hm
  ·cases hm
  ·cases hm
  ·rename_i h1 ad;cases hm;simp only[bQ,Option.some.injEq,Prod.mk.injEq] at h;obtain⟨rfl,rfl⟩:=h;simp only[c5]
 case typeAssert x OC t ok=>
  rw[map_some] at hm;obtain⟨z,aw,rfl⟩:=hm;simp only[bQ,gB] at h;obtain⟨ad,rfl⟩:=h;simp only[c5,aw,ad,at1]
 case makeFunc f a b=>
  cases f<;>simp only at hm<;>try (cases hm; done)
  cases hm;simp only[bQ,Option.some.injEq,Prod.mk.injEq] at h;obtain⟨rfl,rfl⟩:=h;rfl
 case makeSlice t a c=>
  simp only[bind_some] at hm;obtain⟨e,h1,z,ad,by_,aj,zero,aF,hm⟩:=hm;rw[im] at hm;obtain⟨aU,rfl⟩:=hm;simp only[bQ] at h;unfold rR at h;cases ax:aB a<;>rw[ax] at h<;>(try simp only at h)<;>try (cases h; done)
  cases ah:aB c<;>rw[ah] at h<;>(try simp only at h)<;>try (cases h; done)
  rw[im] at h;obtain⟨bt,c8⟩:=h;cases c8;simp only[c5,ax,ah,Hm,h1,asInt,ad,aj,aF,if_pos (And.intro aU bt),lo]; rfl
 case slice t x cV av cO=>
  rw[map_some] at hm;obtain⟨dm,h1,rfl⟩:=hm;simp only[bQ,gB] at h;obtain⟨ad,rfl⟩:=h;rw[akZ h1] at ad;simp only[c5,ad]; rfl
 case fieldAddr s x f=>
  rw[bind_some] at hm;obtain⟨fd,h1,hm⟩:=hm;split at hm
  ·rename_i n ad;cases hm;simp only[bQ,gB] at h;obtain⟨aj,rfl⟩:=h;simp only[c5,FA,h1,ad,aj]; rfl
  ·cases hm
 case field t x f=>
  rw[bind_some] at hm;obtain⟨fd,h1,hm⟩:=hm;split at hm
  ·rename_i n ad aj;cases hm;simp only[bQ,gB] at h;obtain⟨aF,rfl⟩:=h;unfold zZ at aF;cases af:aB x<;>rw[af] at aF<;>(try simp only at aF)<;>try (cases aF; done)
   simp only[c5,af,h1,WP ad aj,aF]; rfl
  ·rename_i ad;cases hm;simp only[bQ,gB] at h;obtain⟨aF,rfl⟩:=h;unfold Cx at aF;cases af:aB x<;>rw[af] at aF<;>(try simp only at aF)<;>try (cases aF; done)
   simp only[c5,af,h1,MU ad,aF]; rfl
  ·cases hm
 case indexAddr t x i=>
  split at hm
  ·rename_i n z h1;cases hm;simp only[bQ,gB] at h;obtain⟨ad,rfl⟩:=h;simp only[c5,Vp h1 ad]; rfl
  ·rename_i z h1;cases hm;simp only[bQ,gB] at h;obtain⟨ad,rfl⟩:=h;simp only[c5,Vp h1 ad]; rfl
  ·cases hm
 case index t x i=>
  split at hm
  ·rename_i n e aL;split at hm
   ·rename_i z h1 ad;cases hm;simp only[bQ,gB] at h;obtain⟨aj,rfl⟩:=h;unfold DC at aj;cases af:aB x<;>rw[af] at aj<;>(try simp only at aj)<;>try (cases aj; done)
    cases av:aB i<;>rw[av] at aj<;>(try simp only at aj)<;>try (cases aj; done)
    simp only[c5,AN,af,av,aL,asInt,h1,WP ad h1,aj]; rfl
   ·rename_i z h1 ad;cases hm;simp only[bQ,gB] at h;obtain⟨aj,rfl⟩:=h;unfold DB at aj;cases af:aB x<;>rw[af] at aj<;>(try simp only at aj)<;>try (cases aj; done)
    cases av:aB i<;>rw[av] at aj<;>(try simp only at aj)<;>try (cases aj; done)
    simp only[c5,AN,af,av,aL,asInt,h1,MU ad,aj]; rfl
   ·cases hm
  ·rename_i aL;cases hm;simp only[bQ,gB] at h;obtain⟨aj,rfl⟩:=h;unfold yI at aj;cases af:aB x<;>rw[af] at aj<;>(try simp only at aj)<;>try (cases aj; done)
   cases av:aB i<;>rw[av] at aj<;>(try simp only at aj)<;>try (cases aj; done)
   simp only[c5,AN,af,av,aL,asInt,aj]; rfl
  ·cases hm
 case extract x i=>
  cases hm;simp only[bQ,gB] at h;obtain⟨ad,rfl⟩:=h;unfold Cr at ad;cases af:aB x<;>rw[af] at ad<;>(try simp only at ad)<;>try (cases ad; done)
  simp only[c5,af,ad]; rfl
 case call c=>
  split at hm
  ·rename_i b ag;simp only[c5,vC,ag];exact aaX hm h
  ·rename_i f aD;split at hm
   ·rename_i fn x y ky F1;rw[im] at hm;obtain⟨av,rfl⟩:=hm;simp only[bQ] at h;split at h
    case h_2=>cases h
    rename_i Gj;rw[gB] at h;obtain⟨ad,rfl⟩:=h;unfold cmpL at ad;have fb:∀ x,sp (bU l') x=oS l' x:=fun x=>by
     cases x<;>simp only[sp,oS,Ce]<;>rfl
    have sR:¬(fn.body.isSome=true/\fn.name≠ "runtime.NumGoroutine") :=by
     rintro⟨a,_⟩;unfold Dw at av;simp only[atY] at av;rw[awP.1 av.1.1] at a; cases a
    have yh:aB (.func f)=.fn f [] [] :=by
     unfold Dx at Gj;split at Gj
     ·rename_i g ar; rw[ar,auP Gj]
     ·cases Gj
    simp only[c5,vC,aD,yh,ky,if_neg sR,if_pos av,F1,aus,awg,auT,auu,Cc,fb];cases ax:oS l' (aB x) with
    | none=>rw[ax] at ad; cases ad
    | some a=>
     cases ag:oS l' (aB y) with
     | none=>rw[ax,ag] at ad; cases ad
     | some b=>rw[ax,ag] at ad; cases ad; rfl
   ·cases hm
  ·cases hm
 case panic x=>cases hm; cases h
 case makeMap t r=>
  split at hm
  ·rename_i k e aL;cases hm;simp only[bQ] at h;cases r with
   | none=>cases h; simp[c5,aL,lo]
   | some x=>
    simp only at h;cases af:asInt (aB x) with
    | none=>rw[af] at h; cases h
    | some n=>rw[af] at h; cases h; simp[c5,aL,af,lo]
  ·cases hm
 case lookup t m k ok=>
  split at hm
  ·rename_i cU mI aL;rw[map_some] at hm;obtain⟨z,aw,rfl⟩:=hm;simp only[bQ,gB] at h;obtain⟨ad,rfl⟩:=h;have sP:∀ x,mapOf (bU l') x=s8 l' x:=fun x=>by
    cases x<;>try rfl
    rename_i b;simp only[mapOf,s8,pM];cases l'[b]? with
    | none=>rfl
    | some c=>cases c<;>rfl
   unfold wN at ad;simp only[c5,Hg,aL,sP];cases jn:s8 l' (aB m) with
   | none=>rw[jn] at ad; cases ad
   | some es=>
    rw[jn] at ad;simp only at ad ⊢;cases hk:k8 P cU (aB k) with
    | false=>rw[hk] at ad; cases ad
    | true=>
     rw[hk] at ad;simp only at ad ⊢;cases aD:jK P cU (aB k) es 0 with
     | none=>rw[aD] at ad; cases ad
     | some r=>
      rw[aD] at ad;cases r with
      | none=>cases ad; simp[aw]
      | some wI=>cases ad; rfl
  ·cases hm
 case mapUpdate t m k x=>
  split at hm
  ·rename_i cU mI aL;cases hm;simp only[bQ,map_some] at h;obtain⟨bX,ad,aj⟩:=h;cases aj;simp only[c5,Wc aL ad]; rfl
  ·cases hm
 case insert t m k x=>
  split at hm
  ·rename_i cU mI aL;cases hm;simp only[bQ,map_some] at h;obtain⟨bX,ad,aj⟩:=h;cases aj;simp only[c5,Wc aL ad]; rfl
  ·cases hm
 case range t x=>
  split at hm
  ·rename_i aL;cases hm;simp only[bQ] at h;unfold Bb at h;cases af:aB x<;>rw[af] at h<;>(try simp only at h)<;>try (cases h; done)
   cases h;simp[c5,HR,aL,af,lo]
  ·cases hm
 case next it b=>
  cases b with
  | false=>cases hm
  | true=>
   cases hm;simp only[bQ] at h;unfold uX at h;simp only[c5,AY];cases af:aB it<;>rw[af] at h<;>(try simp only at h)<;>try (cases h; done)
   rename_i b;simp only[pM];cases ag:l[b]? with
   | none=>rw[ag] at h; cases h
   | some c=>
    cases c<;>rw[ag] at h<;>simp only at h<;>try (cases h; done)
    simp only;split at h
    ·rename_i aN; cases h; rw[aN]; simp only[at1,n2 _ (e1 ag)]
    ·rename_i aN; cases h; rw[aN]; rfl
end
abbrev a8:=Nat->U
abbrev hd:=sb->a8->ao->Prop
class OJ (α:Type) where
 k:α->Prop
class BK where
 p:Prop
 q:Prop
class tH where
 k:U->ao->Prop
class IA where
 k:hd
def W {α:Type} (o:Option α) [c:OJ α] :Prop:=match o with | some v=>c.k v | none=>False
def rJ (b:Bool) [c:BK] :Prop:=match b with | true=>c.p | false=>c.q
def yL (x:U) [c:BK] :Prop:=match x with | .bool b=>rJ b (c:=c) | _=>False
def rI (x:U) (w:Bool) [c:BK] :Prop:=match x with | .bool b=>rJ (b == w) (c:=c) | .bad=>False | _=>c.q
inductive qU where
 | gV (m:dk)
 | mG (f:FuncId) (args:List Operand)
 | nm (x:Operand) (args:List Operand)
 | n4 (x:Operand) (name:String) (args:List Operand)
structure eA where
 i:Nat
 dst:Option Tmp
 g:Option (Option Tmp × Bool)
 b:qU
 hz:List Nat
 cy:Bool
inductive fW where
 | skip
 | ret
 | exit (id:Nat)
 | w5 (s:List eA)
 | xL (s:List eA)
 | seq (a b:fW)
 | cond (c:Operand) (x y:fW)
 | block (id:Nat) (c:fW)
 | loop (c:fW)
section
variable (P:Program) (G:Nat->U)
def hE (f:FuncId) :Bool:=match P.funcs[f]? with | some fn=>fn.body.isSome&&fn.name != "runtime.NumGoroutine" | none=>false
def cY (f:FuncId) (args:List U) (l:ao) [c:tH] :Prop:=∃ r l',dA P G (.call f args (bU l) r (bU l'))/\l.length<=l'.length/\c.k r l'
def vE (x:U) (args:List U) (l:ao) [c:tH] :Prop:=match x with
 | .fn g first fY=>hE P g=true/\cY P G g (first++args++fY) l (c:=c)
 | _=>False
def vD (name:String) (x:U) (args:List U) (l:ao) [c:tH] :Prop:=match x with
 | .gQ t v=>match yV P t name with
  | some g=>hE P g=true/\cY P G g (v::args) l (c:=c)
  | none=>False
 | _=>False
def dT (v:U) (l:ao) [c:tH] :Prop:=c.k v l\/∃ dF bX,q0 (bU l) (bU bX)/\qZ (bU l) (bU bX) v dF/\c.k dF bX
def eI (m:dk) (v:U) (l:ao) (K:U->ao->Prop) :Prop:=match m with
 | .app ..=>dT v l (c:=⟨K⟩)
 | _=>K v l
def hW (b:qU) (ae:a8) (l:ao) (K:U->ao->Prop) :Prop:=match b with
 | .gV m=>W (bQ P (c2 G ae) l m) (c:=⟨fun x=>eI m x.1 x.2 K⟩)
 | .mG f args=>cY P G f (args.map (c2 G ae)) l (c:=⟨K⟩)
 | .nm x args=>vE P G (c2 G ae x) (args.map (c2 G ae)) l (c:=⟨K⟩)
 | .n4 x name args=>vD P G name (c2 G ae x) (args.map (c2 G ae)) l (c:=⟨K⟩)
def qA (ae:a8) (g:Option (Option Tmp × Bool)) (p q:Prop) :Prop:=match g with
 | none=>p
 | some (some d,w)=>rI (ae d) w (c:=⟨p,q⟩)
 | some (none,_)=>q
def jF:List eA->a8->ao->(a8->ao->Prop)->Prop
 | [],ae,l,K=>K ae l
 | s::r,ae,l,K=>qA ae s.g (hW P G s.b ae l fun v l'=>jF r (ht ae s.dst v) l' K) (jF r (ht ae s.dst hv) l K)
abbrev iy:=List (Nat × (ao->Prop))
def pW (ids:List Nat) :iy->ao->Prop
 | [],_=>True
 | e::r,l=>(ids.contains e.1=true->e.2 l)/\pW ids r l
def dk.i1:dk->Bool
 | .alloc _ | .box _ | .q4 .. | .rQ ..=>true
 | _=>false
def lW (b:qU) (ae:a8) (v:U) (l l' l1:ao) :Prop:=match b with
 | .gV m=>match m.i1 with
  | true=>l1[l.length]? = l'[l.length]?
  | false=>bQ P (c2 G ae) l1 m=some (v,l1)
 | _=>True
def r0 (cy:Bool) (i:Nat) (p:ao->Prop) (s:iy) :iy:=match cy with | true=>(i,p) ::s | false=>s
def jV:List eA->a8->ao->iy->(a8->ao->Prop)->Prop
 | [],ae,l,_,K=>K ae l
 | s::r,ae,l,seen,K=>qA ae s.g (hW P G s.b ae l fun v l'=>pW s.hz seen l'/\jV r (ht ae s.dst v) l' (r0 s.cy s.i (lW P G s.b ae v l l') seen) K) (jV r (ht ae s.dst hv) l seen K)
def ot (k:a8->ao->Prop) (K:hd) :hd:=fun e ae l=>match e with
 | .normal=>k ae l
 | .exit id=>K (.exit id) ae l
 | .ret=>K .ret ae l
def rH (id:Nat) (K:hd) :hd:=fun e ae l=>match e with
 | .normal=>K .normal ae l
 | .exit s2=>match Nat.beq s2 id with | true=>K .normal ae l | false=>K (.exit s2) ae l
 | .ret=>K .ret ae l
def AR (r:a8->ao->hd->Prop) :Nat->a8->ao->hd->Prop
 | 0=>fun _ _ _=>False
 | n+1=>fun ae l K=>r ae l (ot (fun ae l=>AR r n ae l K) K)
def EM (r:a8->ao->hd->Prop) (ae:a8) (l:ao) [c:IA] :Prop:=∃ n,AR r n ae l c.k
def run:fW->a8->ao->hd->Prop
 | .skip,ae,l,K=>K .normal ae l
 | .ret,ae,l,K=>K .ret ae l
 | .exit id,ae,l,K=>K (.exit id) ae l
 | .w5 s,ae,l,K=>jF P G s ae l (K .normal)
 | .xL s,ae,l,K=>jV P G s ae l [] (K .normal)
 | .seq a b,ae,l,K=>run a ae l (ot (fun ae l=>run b ae l K) K)
 | .cond c x y,ae,l,K=>yL (c2 G ae c) (c:=⟨run x ae l K,run y ae l K⟩)
 | .block id c,ae,l,K=>run c ae l (rH id K)
 | .loop c,ae,l,K=>EM (run c) ae l (c:=⟨K⟩)
def Es (ops:Array Oper) (i:Nat) (hz:List Nat) (cy:Bool) :Option eA:=(ops[i]?).bind fun o=>
 let g:=o.guard.map fun kI=>((ops[kI.1]?).bind (·.dst),kI.2)
 match nr P o.op with
 | some m=>some ⟨i,o.dst,g,.gV m,hz,cy⟩
 | none=>match o.op with
  | .call c=>match c.callee with
   | .value (.func f)=>match hE P f with
    | true=>some ⟨i,o.dst,g,.mG f c.args.toList,hz,cy⟩
    | false=>none
   | .value x=>some ⟨i,o.dst,g,.nm x c.args.toList,hz,cy⟩
   | .invoke x name=>some ⟨i,o.dst,g,.n4 x name c.args.toList,hz,cy⟩
   | _=>none
  | _=>none
def tB:Op->Bool
 | .load .. | .convert .. | .alloc _ | .box .. | .buildSlice .. | .makeSlice ..=>true
 | .call c=>match c.callee,c.argTypes.toList with
  | .builtin .len,[t]=>match P.underlying t with | some (.map _ _)=>true | _=>false
  | _,_=>false
 | _=>false
def abh (ms:List Nat) (ops:Array Oper) (done kY:List Nat) :List Nat:=
 done.filter fun j=>(match ops[j]? with | some o=>tB P o.op | none=>false)&&kY.all fun e=>!pu ms e j
def oz (ms:List Nat) (ops:Array Oper) :List Nat->List Nat->List Nat->List (Nat × List Nat)
 | [],_,_=>[]
 | i::r,done,kY=>match ops[i]? with
  | none=>[]
  | some o=>match kG o.op with
   | true=>(i,abh P ms ops done (i::kY)) ::oz ms ops r (i::done) (match o.guard with | none=>i::kY | some _=>kY)
   | false=>(i,[]) ::oz ms ops r (i::done) kY
def Cm (ms:List Nat) (ops:Array Oper) :List Nat->Bool
 | []=>true
 | i::r=>(match ops[i]? with | some o=>!kG o.op||r.all fun j=>pu ms j i | none=>false)&&Cm ms ops r
def Ju (N:Nat) (ops:Array Oper) (draw:Bool) :Option fW:=
 match ops.toList.all fun o=>p0 N o.dst with
 | false=>none
 | true=>match draw with
  | false=>((List.range ops.size).mapM fun i=>Es P ops i [] false).map .w5
  | true=>
   let ms:=iI ops
   let kj:=fH ms ops
   match MP ms ops kj&&Cm ms ops kj with
   | false=>none
   | true=>
    let WW:=oz P ms ops kj [] []
    let ask:=WW.flatMap (·.2)
    match WW.mapM fun p=>Es P ops p.1 p.2 (ask.contains p.1) with
    | none=>none
    | some s=>match ask with
     | []=>some (.w5 s)
     | _=>some (.xL s)
def comp (N:Nat) :Code->Option fW
 | .skip=>some .skip
 | .label _=>some .skip
 | .ret=>some .ret
 | .exit id=>some (.exit id)
 | .region _ ops draw=>Ju P N ops draw
 | .seq a b=>match comp N a,comp N b with
  | some .skip,some b=>some b
  | some a,some .skip=>some a
  | some a,some b=>some (.seq a b)
  | _,_=>none
 | .cond c x y=>match comp N x,comp N y with
  | some x,some y=>some (.cond c x y)
  | _,_=>none
 | .block id c=>(comp N c).map (.block id)
 | .loop c=>(comp N c).map .loop
 | .scope c=>comp N c
 | _=>none
def vP (f:FuncId) :Option fW:=match P.funcs[f]? with
 | some fn=>match fn.body with
  | some c=>comp P fn.ntmps c
  | none=>none
 | none=>none
end

section
variable {P:Program} {G:Nat->U}
theorem O8 {l l' : ao} {z by_ n:Nat} {s v:U} {xs:List U} (h:iB l z by_ s xs n=some (v,l')) :l.length<=l'.length:=by
 unfold iB at h
 repeat' split at h
 all_goals first | (cases h; done) | (cases h; simp)
theorem Wl {aB:Operand->U} {l l' : ao} {m:dk} {v:U} (h:bQ P aB l m=some (v,l')) :l.length<=l'.length:=by
 cases m<;>simp only[bQ,gB,map_some,Option.some.injEq,Prod.mk.injEq] at h
 case gd=>obtain⟨_,rfl⟩:=h; exact atW _
 case alloc=>obtain⟨_,rfl⟩:=h; simp
 case box=>obtain⟨_,_,_,rfl⟩:=h; simp
 case q4=>obtain⟨_,_,_,rfl⟩:=h; simp
 case st n a x=>
  obtain⟨_,h,_,rfl⟩:=h;unfold km at h
  repeat' split at h
  all_goals first | (cases h; done) | (cases h; simp)
 case yX=>obtain⟨_,rfl⟩:=h; exact atW _
 case yW=>obtain⟨_,rfl⟩:=h; exact atW _
 case rQ=>
  unfold rR at h
  repeat' split at h
  all_goals first | (cases h; done) | (cases h; simp)
 case app=>
  unfold iP at h;split at h
  ·cases h
  ·exact O8 h
 case vx=>
  unfold q3 at h
  repeat' split at h
  all_goals first | (cases h; done) | exact O8 h
 case vT=>
  unfold zO at h
  repeat' split at h
  all_goals first | (cases h; done) | (cases h; simp)
 case vL=>
  obtain⟨_,h,_,rfl⟩:=h;unfold sr at h
  repeat' split at h
  all_goals first | (cases h; done) | (cases h; simp)
 case stop=>cases h
 case uV x=>
  cases x with
  | none=>cases h; simp
  | some o=>
   simp only at h;split at h
   ·cases h; simp
   ·cases h
 case wR=>
  obtain⟨_,h,_,rfl⟩:=h;unfold s9 at h
  repeat' split at h
  all_goals first | (cases h; done) | (cases h; simp)
 case w8=>
  unfold Bb at h
  repeat' split at h
  all_goals first | (cases h; done) | (cases h; simp)
 case wT=>
  unfold uX at h
  repeat' split at h
  all_goals first | (cases h; done) | (cases h; simp)
 case cq=>
  split at h
  ·rw[gB] at h; obtain⟨_,rfl⟩:=h; exact atW _
  ·cases h
 all_goals (obtain⟨_,rfl⟩:=h; exact atW _)
theorem zx {α:Type} {o:Option α} {c:OJ α}:W o (c:=c)<->∃ v,o=some v/\c.k v:=by
 unfold W; cases o<;>simp
theorem DG {b:Bool} {c:BK}:rJ b (c:=c)<->(b=true/\c.p)\/(b=false/\c.q) :=by cases b<;>simp[rJ]
structure pQ (P:Program) (ops:Array Oper) (s:eA) (o:Oper) :Prop where
 here:ops[s.i]? = some o
 dst:s.dst=o.dst
 g:s.g=o.guard.map fun kI=>((ops[kI.1]?).bind (·.dst),kI.2)
 gV:∀ m,s.b=.gV m->nr P o.op=some m
 mG:∀ f args,s.b=.mG f args->∃ c:Call,o.op=.call c/\c.callee=.value (.func f)/\c.args.toList=args/\hE P f=true
 nm:∀ x args,s.b=.nm x args->∃ c:Call,o.op=.call c/\c.callee=.value x/\c.args.toList=args
 n4:∀ x name args,s.b=.n4 x name args->∃ c:Call,o.op=.call c/\c.callee=.invoke x name/\c.args.toList=args
theorem Ia {ops:Array Oper} {i:Nat} {hz:List Nat} {cy:Bool} {s:eA} (h:Es P ops i hz cy=some s) :∃ o,pQ P ops s o/\s.i=i/\s.hz=hz/\s.cy=cy:=by
 unfold Es at h;rw[bind_some] at h;obtain⟨o,ap,h⟩:=h;refine⟨o,?_⟩;simp only at h;split at h
 ·rename_i m hm;cases h;exact⟨⟨ap,rfl,rfl,fun cv h=>(by cases h; exact hm),fun f a h=>(by cases h),fun x a h=>(by cases h),fun x n a h=>(by cases h)⟩,rfl,rfl,rfl⟩
 ·split at h
  ·rename_i c gO;split at h
   ·rename_i f ah;split at h
    ·rename_i aD;cases h;exact⟨⟨ap,rfl,rfl,fun cv h=>(by cases h),fun f a h=>(by cases h; exact⟨c,gO,ah,rfl,aD⟩),fun x a h=>(by cases h),fun x n a h=>(by cases h)⟩,rfl,rfl,rfl⟩
    ·cases h
   ·rename_i x af ah;cases h;exact⟨⟨ap,rfl,rfl,fun cv h=>(by cases h),fun f a h=>(by cases h),fun x a h=>(by cases h; exact⟨c,gO,ah,rfl⟩),fun x n a h=>(by cases h)⟩,rfl,rfl,rfl⟩
   ·rename_i x name ah;cases h;exact⟨⟨ap,rfl,rfl,fun cv h=>(by cases h),fun f a h=>(by cases h),fun x a h=>(by cases h),fun x n a h=>by cases h; exact⟨c,gO,ah,rfl⟩⟩,rfl,rfl,rfl⟩
   ·cases h
  ·cases h
theorem SO {g:FuncId} (aD:hE P g=true) {h:aO} {aB:Operand->U} {c:Call} {x:Operand} {first fY:List U} (ah:c.callee=.value x) (af:aB x=.fn g first fY) :
  c5 P h aB (.call c)=some (.call g (first++c.args.toList.map aB++fY) h) :=by
 unfold hE at aD;simp only[c5,vC,ah,af];cases ky:P.funcs[g]? with
 | none=>rw[ky] at aD; cases aD
 | some fn=>
  rw[ky] at aD;simp only[atY,bne_iff_ne] at aD;simp only;rw[if_pos aD]
theorem ac8 {g:FuncId} (aD:hE P g=true) {h:aO} {aB:Operand->U} {c:Call} {x:Operand} {name:String} {t:TypeId} {v:U} (ah:c.callee=.invoke x name) (af:aB x=.gQ t v) (hm:yV P t name=some g) :
  c5 P h aB (.call c)=some (.call g (v::c.args.toList.map aB) h) :=by
 unfold hE at aD;simp only[c5,vC,ah,af,hm];cases ky:P.funcs[g]? with
 | none=>rw[ky] at aD; cases aD
 | some fn=>
  rw[ky] at aD;simp only[atY,bne_iff_ne] at aD;simp only;rw[if_pos aD]
def dk.looks:dk->Bool
 | .alloc _ | .box _ | .q4 .. | .rQ .. | .st .. | .app .. | .vx .. | .vT .. | .vL .. | .uV _ | .yR .. | .wR .. | .w8 _ | .wT _ | .cq .. | .Bl .. | .stop=>false
 | _=>true
theorem ahI {m:dk} {v:U} {l:ao} {K:U->ao->Prop} (h:eI m v l K) :K v l\/(m.looks=false/\m.i1=false/\∃ dF bX,q0 (bU l) (bU bX)/\qZ (bU l) (bU bX) v dF/\K dF bX) :=by
 cases m<;>first | exact .inl h | skip
 rcases h with h | h
 ·exact .inl h
 ·exact .inr ⟨rfl,rfl,h⟩
theorem VS {m:dk} {v:U} {l:ao} {K gI:U->ao->Prop} (aV:∀ v l,K v l->gI v l) (h:eI m v l K) :eI m v l gI:=by
 cases m<;>first | exact aV _ _ h | skip
 rcases h with h | ⟨dF,bX,h1,ad,aj⟩
 ·exact .inl (aV _ _ h)
 ·exact .inr ⟨dF,bX,h1,ad,aV _ _ aj⟩
theorem Yr {ops:Array Oper} {s:eA} {o:Oper} (ok:pQ P ops s o) {ae:a8} {l:ao} {K:U->ao->Prop} (h:hW P G s.b ae l K) :
  ∃ v l',dA P G (.op o.op ae (bU l) v (bU l'))/\l.length<=l'.length/\K v l'/\∀ m,s.b=.gV m->(m.looks=true\/m.i1=true)->bQ P (c2 G ae) l m=some (v,l') :=by
 cases ag:s.b with
 | gV m=>
  rw[ag] at h;simp only[hW,zx] at h;obtain⟨⟨v,l'⟩,h1,ad⟩:=h;have am:=dA.HB (G:=G) (Ht (ok.gV m ag) h1);rcases ahI ad with ad | ⟨lR,ow,dF,bX,b6,bJ,c0⟩
  ·exact⟨v,l',am,Wl h1,ad,fun cv hm _=>by cases hm; exact h1⟩
  ·refine⟨dF,bX,.Iq am b6 bJ,avn (Wl h1) (Nat.le_of_eq b6.n.symm),c0,fun cv hm al=>?_⟩;cases hm;rw[lR,ow] at al;rcases al with h | h<;>cases h
 | mG f args=>
  rw[ag] at h;obtain⟨r,l',h1,ad,aj⟩:=h;obtain⟨c,gO,ah,ax,aD⟩:=ok.mG f args ag;refine⟨r,l',?_,ad,aj,fun cv hm _=>by cases hm⟩;rw[gO];refine .A3 (SO aD ah rfl) ?_;simpa [ax] using h1
 | nm x args=>
  rw[ag] at h;simp only[hW] at h;obtain⟨c,gO,ah,ax⟩:=ok.nm x args ag;unfold vE at h;split at h
  ·rename_i g first fY af
   obtain⟨aD,r,l',h1,ad,aj⟩:=h;refine⟨r,l',?_,ad,aj,fun cv hm _=>by cases hm⟩;rw[gO];refine .A3 (SO aD ah af) ?_;rw[ax]; exact h1
  ·cases h
 | n4 x name args=>
  rw[ag] at h;simp only[hW] at h;obtain⟨c,gO,ah,ax⟩:=ok.n4 x name args ag;unfold vD at h;split at h
  ·rename_i t v af;split at h
   ·rename_i g hm;obtain⟨aD,r,l',h1,ad,aj⟩:=h;refine⟨r,l',?_,ad,aj,fun cv hm _=>by cases hm⟩;rw[gO];refine .A3 (ac8 aD ah af hm) ?_;rw[ax]; exact h1
   ·cases h
  ·cases h
theorem VD {ops:Array Oper} {s:eA} {o:Oper} (ok:pQ P ops s o) {ae:a8} {p q:Prop} (h:qA ae s.g p q) :(kS ops ae o=some true/\p)\/(kS ops ae o=some false/\q) :=by
 rw[ok.g] at h;unfold kS;cases ar:o.guard with
 | none=>rw[ar] at h; exact .inl ⟨rfl,h⟩
 | some kI=>
  obtain⟨j,w⟩:=kI;rw[ar] at h;simp only[at1] at h ⊢;cases bH:(ops[j]?).bind (·.dst) with
  | none=>rw[bH] at h; exact .inr ⟨rfl,h⟩
  | some d=>
   rw[bH] at h;simp only[qA,rI] at h ⊢;cases ak:ae d<;>rw[ak] at h<;>simp only at h ⊢<;>first | exact .inr ⟨trivial,h⟩ | (cases h; done) | skip
   rw[DG] at h;rcases h with ⟨h1,ad⟩ | ⟨h1,ad⟩
   ·exact .inl ⟨by rw[h1],ad⟩
   ·exact .inr ⟨by rw[h1],ad⟩
inductive zp (P:Program) (ops:Array Oper) :List eA->List Oper->Prop
 | nil:zp P ops [] []
 | cons {s o Yl os}:pQ P ops s o->zp P ops Yl os->zp P ops (s::Yl) (o::os)
theorem Nz {ops:Array Oper} {N:Nat} (fv:∀ (i:Nat) (o:Oper),ops[i]? = some o->p0 N o.dst=true) {K:a8->ao->Prop}:∀ {s:List eA} {os:List Oper} {ae:a8} {l:ao},
  zp P ops s os->jF P G s ae l K->∃ b4 l',dA P G (.ops ops os N ae (bU l) b4 (bU l'))/\l.length<=l'.length/\K b4 l'
 | [],_,ae,l,aD,h=>by cases aD; exact⟨ae,l,.WC,atW _,h⟩
 | s::r,_,ae,l,aD,h=>by
  cases aD with
  | cons ok aD=>
   rename_i o os;rcases VD ok h with ⟨hw,h⟩ | ⟨hw,h⟩
   ·obtain⟨v,l1,h1,ad,aj,_⟩:=Yr ok h;obtain⟨b4,l',aF,aU,bt⟩:=Nz fv aD aj;exact⟨b4,l',.WD hw (fv _ _ ok.here) h1 (by rw[<-ok.dst]; exact aF),avn ad aU,bt⟩
   ·obtain⟨b4,l',aF,aU,bt⟩:=Nz fv aD h;exact⟨b4,l',.WE hw (fv _ _ ok.here) (by rw[<-ok.dst]; exact aF),aU,bt⟩
theorem XB {l x:ao} {p:U} {y:List U × Nat} (h:eM l p=some y) :eM (l++x) p=some y:=by
 cases p<;>first | exact h | skip
 rename_i b off sz;simp only[eM] at h ⊢;cases ag:l[b]? with
 | none=>rw[ag] at h; cases h
 | some c=>rw[ag] at h; rw[atV (e1 ag),ag]; exact h
theorem abD {l x:ao} {z:Nat} {p:U} {y:List U × Nat} (h:dM l z p=some y) :dM (l++x) z p=some y:=by
 cases p<;>first | exact h | skip
 rename_i dz b off len cap sz;simp only[dM] at h ⊢;cases ag:l[b]? with
 | none=>rw[ag] at h; cases h
 | some c=>rw[ag] at h; rw[atV (e1 ag),ag]; exact h
theorem abd {l x:ao} {p v:U} (h:vG l p=some v) :vG (l++x) p=some v:=by
 unfold vG at h ⊢;cases p<;>simp only at h ⊢<;>first | exact h | skip
 all_goals
  split at h
  ·rename_i cs n ah;rw[abD ah]; exact h
  ·cases h
def dk.reads:dk->Bool
 | .ld1 _ | .uP .. | .tX _ | .wK _=>true
 | _=>false
theorem V4 {aB:Operand->U} {l l' : ao} {m:dk} {v:U} (hm:m.looks=true) (h:bQ P aB l m=some (v,l')) :l'=l:=by
 cases m<;>simp only[dk.looks,Bool.true_eq,avg,reduceCtorEq] at hm<;>simp only[bQ,gB,Option.some.injEq,Prod.mk.injEq] at h<;>first | exact h.2 | exact h.2.symm
theorem aid {aB:Operand->U} {l x:ao} {m:dk} {v:U} (hm:m.looks=true) (h:bQ P aB l m=some (v,l)) :bQ P aB (l++x) m=some (v,l++x) :=by
 cases m<;>simp only[dk.looks,Bool.true_eq,avg,reduceCtorEq] at hm<;>simp only[bQ,gB,Option.some.injEq,Prod.mk.injEq,and_true] at h ⊢<;>try exact h
 case ld1 a=>
  rw[bind_some] at h ⊢;obtain⟨y,h1,ad⟩:=h;exact⟨y,XB h1,ad⟩
 case uP n a=>
  rw[bind_some] at h ⊢;obtain⟨y,h1,ad⟩:=h;exact⟨y,XB h1,ad⟩
 case tX x=>exact abd h
 case wK y=>
  unfold DJ at h ⊢;cases af:aB y<;>rw[af] at h<;>(try simp only at h)<;>try (cases h; done)
  ·exact h
  ·rename_i b;cases ag:l[b]? with
   | none=>rw[ag] at h; cases h
   | some c=>simp only[atV (e1 ag)]; exact h
theorem aie {aB:Operand->U} {l bX:ao} {m:dk} {v:U} (hm:m.looks=true) (az:m.reads=false) (h:bQ P aB l m=some (v,l)) :bQ P aB bX m=some (v,bX) :=by
 cases m<;>simp only[dk.looks,Bool.true_eq,avg,reduceCtorEq] at hm<;>simp only[dk.reads,reduceCtorEq] at az<;>simp only[bQ,gB,Option.some.injEq,Prod.mk.injEq,and_true] at h ⊢<;>exact h
theorem Nl (zero:List U) :∀ n,(dy zero n).length=n*zero.length
 | 0=>by simp[dy]
 | n+1=>by rw[dy,at4,Nl zero n,auI,Nat.add_comm]
theorem aln {cs vs:List U} {off:Nat} (h:off+vs.length<=cs.length) :(bu cs off vs).length=cs.length:=by
 simp only[bu,at4,aue,au4]; omega
theorem Sr {lc:Nat->Option (Nat × Nat)}:∀ {cJ:List (Nat × U)} {zero cs:List U},hD lc zero cJ=some cs->cs.length=zero.length
 | [],zero,cs,h=>by simp only[hD,Option.some.injEq] at h; rw[<-h]
 | (i,v) ::r,zero,cs,h=>by
  unfold hD at h;split at h
  ·rename_i off size vs _ _;split at h
   ·rename_i h1;rw[Sr h,aln (by omega)]
   ·cases h
  ·cases h
theorem aix {op:Op} {m:dk} (hm:nr P op=some m) (aC:m.i1=true) {aB:Operand->U} {l l' : ao} {v:U} (h:bQ P aB l m=some (v,l')) :
  ∃ cs mk,nO P aB op=some (cs,mk)/\v=mk l.length/\l'=l++[.cells cs.length cs] :=by
 cases op<;>simp only[nr] at hm<;>try (cases hm; done)
 case alloc t=>
  rw[map_some] at hm;obtain⟨zero,h1,rfl⟩:=hm;simp only[bQ,Option.some.injEq,Prod.mk.injEq] at h;obtain⟨rfl,rfl⟩:=h;exact⟨zero,_,by simp only[nO,h1]; rfl,rfl,rfl⟩
 case box t x=>
  cases hm;simp only[bQ,map_some,Prod.mk.injEq] at h;obtain⟨cs,h1,rfl,rfl⟩:=h;exact⟨cs,_,by simp only[nO,h1]; rfl,rfl,rfl⟩
 case buildSlice t n cJ=>
  simp only[bind_some] at hm;obtain⟨e,h1,z,ad,zero,aj,hm⟩:=hm;rw[im] at hm;obtain⟨aF,rfl⟩:=hm;simp only[bQ,map_some,Prod.mk.injEq] at h;obtain⟨cs,aU,rfl,rfl⟩:=h;have bl:cs.length=n*z:=by rw[Sr aU,Nl,aF.1]
  exact⟨cs,_,by simp only[nO,h1,ad,aj,if_pos aF,aU]; rfl,rfl,by rw[bl]⟩
 case makeSlice t a c=>
  simp only[bind_some] at hm;obtain⟨e,h1,z,ad,by_,aj,zero,aF,hm⟩:=hm;rw[im] at hm;obtain⟨aU,rfl⟩:=hm;simp only[bQ] at h;unfold rR at h;cases ax:aB a<;>rw[ax] at h<;>(try simp only at h)<;>try (cases h; done)
  cases ah:aB c<;>rw[ah] at h<;>(try simp only at h)<;>try (cases h; done)
  rw[im] at h;obtain⟨bt,c8⟩:=h;cases c8;rename_i kc nc;have bl:(dy zero nc.toNat).length=nc.toNat*z:=by rw[Nl,aU]
  exact⟨dy zero nc.toNat,_,by simp only[nO,ax,ah,h1,asInt,ad,aj,aF]; rw[if_pos ⟨aU,bt⟩],rfl,by rw[bl]⟩
 case pick=>cases hm; cases aC
 case move=>cases hm; cases aC
 case assign=>cases hm; cases aC
 case nilCheck=>cases hm; cases aC
 case binOp=>cases hm; cases aC
 case unOp=>cases hm; cases aC
 case call c=>
  exfalso;split at hm
  ·unfold vO at hm
   repeat' split at hm
   all_goals first
    | (cases hm; done)
    | (cases hm; cases aC; done)
    | (simp only[bind_some,map_some] at hm; obtain⟨_,_,rfl⟩:=hm; cases aC; done)
    | (simp only[bind_some,map_some] at hm; obtain⟨_,_,_,_,rfl⟩:=hm; cases aC; done)
    | (simp only[bind_some,im] at hm; obtain⟨_,_,_,_,_,_,_,rfl⟩:=hm; cases aC; done)
    | (simp only[bind_some,im] at hm; obtain⟨_,_,_,_,_,_,_,_,_,rfl⟩:=hm; cases aC; done)
  ·split at hm
   ·rw[im] at hm; obtain⟨_,rfl⟩:=hm; cases aC
   ·cases hm
  ·cases hm
 case next it b=>exfalso; cases b<;>simp only[reduceCtorEq] at hm<;>cases hm<;>cases aC
 case panic=>cases hm; cases aC
 case lookup=>exfalso; split at hm<;>(try cases hm; done); rw[map_some] at hm; obtain⟨_,_,rfl⟩:=hm; cases aC
 case build=>exfalso; simp only[bind_some,map_some] at hm; obtain⟨_,_,_,_,rfl⟩:=hm; cases aC
 case typeAssert=>exfalso; rw[map_some] at hm; obtain⟨_,_,rfl⟩:=hm; cases aC
 case store=>exfalso; rw[map_some] at hm; obtain⟨_,_,rfl⟩:=hm; cases aC
 case slice=>exfalso; rw[map_some] at hm; obtain⟨_,_,rfl⟩:=hm; cases aC
 case fieldAddr=>exfalso; rw[bind_some] at hm; obtain⟨_,_,hm⟩:=hm; split at hm<;>cases hm; cases aC
 case field=>exfalso; rw[bind_some] at hm; obtain⟨_,_,hm⟩:=hm; split at hm<;>cases hm<;>cases aC
 case extract=>cases hm; cases aC
 case makeFunc f a b=>exfalso; cases f<;>simp only at hm<;>cases hm; cases aC
 all_goals
  exfalso
  repeat' split at hm
  all_goals first | (cases hm; done) | (cases hm; cases aC; done)
end

end Go.cb

/-
  The canonical machine: appending to a slice of one's own, with a frame for nil; a set's frames.
-/
import Derived.Test.YtobphgccoalchaaGreatDoorUf
import Derived.Lib.AppendZerosOnto
import Derived.ProofKit
import Derived.Test.YtobphgccoalchaaGreatDoorRows
set_option linter.unusedVariables false
set_option linter.unusedSimpArgs false
set_option linter.unnecessarySimpa false
namespace Go.cb
open Go
section
variable {P:Program} {l:am} {aB:Operand->U}
@[simp ↓] theorem aut:bU P aB l (.vv none)=some (.mp l.length,l++[.map [] 0]) :=id rfl
@[simp ↓] theorem auo (c2:TypeId) (zero:U) (ok:Bool) (m k:Operand) :bU P aB l (.zm c2 zero ok m k)=dU l (xm P l c2 zero ok (aB m) (aB k)) :=id rfl
@[simp ↓] theorem auv (c2:TypeId) (m k x:Operand) :bU P aB l (.xq c2 m k x)=(tD P l c2 (aB m) (aB k) (aB x)).map fun l'=>(hF,l') :=id rfl
@[simp ↓] theorem aun (x:Operand) :bU P aB l (.xj x)=dU l (Ev l (aB x)) :=id rfl
@[simp ↓] theorem auA (x:Operand) :bU P aB l (.xI x)=BO l (aB x) :=id rfl
@[simp ↓] theorem auy (x:Operand) :bU P aB l (.xt x)=vx l (aB x) :=id rfl
@[simp ↓] theorem atC (x:Option Operand) (v:U) (K:U->am->Prop) :eR (.vv x) v l K=K v l:=id rfl
@[simp ↓] theorem atx (c2:TypeId) (zero:U) (ok:Bool) (m k:Operand) (v:U) (K:U->am->Prop) :eR (.zm c2 zero ok m k) v l K=K v l:=id rfl
@[simp ↓] theorem atE (c2:TypeId) (m k x:Operand) (v:U) (K:U->am->Prop) :eR (.xq c2 m k x) v l K=K v l:=id rfl
@[simp ↓] theorem atw (x:Operand) (v:U) (K:U->am->Prop) :eR (.xj x) v l K=K v l:=id rfl
@[simp ↓] theorem atJ (x:Operand) (v:U) (K:U->am->Prop) :eR (.xI x) v l K=K v l:=id rfl
@[simp ↓] theorem atH (x:Operand) (v:U) (K:U->am->Prop) :eR (.xt x) v l K=K v l:=id rfl
end

section
variable {z:Nat} {l l' : am} {v:U} {j:Nat} {es:List (List U)}
theorem Qd (h:bH z l v j es) {by_:Nat} {x:U} {xs:List (List U)} (af:dE l z x=some (xs.flatten,xs.length)) (mg:∀ e∈xs,e.length=z) (aD:z≠0) (ea:by_≠0) (dA:(es.length+xs.length)*by_<=cy) :
  ∃ aZ bl l',gx l z by_ v x=some (aZ,l')/\bH z l' aZ bl (es++xs)/\l.length<=l'.length/\(∀ b,b<l.length->v=.aT\/b≠j->l'[b]? = l[b]?)/\(l.length<=bl\/(v≠.aT/\bl=j)\/aZ=.aT)/\cw aZ=(cw v&&xs.isEmpty) :=by
 by_cases au:v=.aT
 ·subst au;have ao:es=[] :=h.q.tG;subst ao;obtain⟨aZ,bl,l1,h1,ad,aj,aE,aX,bw⟩:=pl (.nil (z:=z) (l:=l) (l.length+1)) af mg aD ea dA;refine⟨aZ,bl,l1,h1,ad,aj,fun b ag _=>aE b ag (by omega),?_,vk bw⟩;rcases aX with aX | aX
  ·exact .inl (by omega)
  ·exact .inl aX
 ·obtain⟨aZ,bl,l1,h1,ad,aj,aE,aX,bw⟩:=pl h af mg aD ea dA;refine⟨aZ,bl,l1,h1,ad,aj,fun b ag aC=>aE b ag (aC.resolve_left au),?_,vk bw⟩;rcases aX with aX | aX
  ·exact .inr (.inl ⟨au,aX⟩)
  ·exact .inl aX
theorem bH.cx (h:bH z l v j es) (aF:∀ b,b<l.length->b=j->l'[b]? = l[b]?) :bH z l' v j es:=h.frame fun ai=>aF j ai rfl
theorem dp.Db {K:U->am->Prop} (h:bH z l v j es) (au:cw v=false) (aY:K (.bQ z es) (l.set j .dead)) :dp v l (c:=⟨K⟩) :=by
 cases h with
 | nil j=>cases au
 | ar j n cap sz cs es ag al aC aw ah db cd=>
 have aM:=eu ag;have bC:(bW (l.set j .dead)).f j=.dead:=by rw[nI,axi,if_pos rfl,if_pos aM]
 have dw:n*z<=cap*z:=avX _ ah;refine .inr ⟨_,_,⟨by simp,fun bu=>?_⟩,.ar z j 0 n cap sz cs es (ln.2 ag) bC aC aw (by omega) (fun i k e c c' ao hk px=>?_),aY⟩
 ·by_cases b9:bu=j
  ·subst b9; exact .inr ⟨sz,cs,ln.2 ag,.inl bC⟩
  ·left;rw[nI,nI,axi,if_neg (by omega)]
 ·have DL:k<z:=by rw[<-aw e (avY ao)]; exact (avP.1 hk).1
  have av:=(avP.1 ao).1;have hm:i*z+z<=n*z:=by rw[<-awD]; exact avX _ (by omega)
  have h1:=Gr aw ao DL;rw[<-cd,awb (by omega),hk] at h1;rw[axa,h1] at px;cases px;exact .same _
end
inductive mx where
 | b
 | i (k:IntKind)
 | s
def Fl:mx->U->Bool
 | .b,.bool _=>true
 | .i k,.int k' _=>decide (k=k')
 | .s,.str _=>true
 | _,_=>false
def ib:List mx->List U->Bool
 | [],[]=>true
 | k::bT,c::cs=>Fl k c&&ib bT cs
 | _,_=>false
theorem EG:∀ {bT:List mx} {cs:List U},ib bT cs=true->cs.length=bT.length
 | [],[],_=>rfl
 | [],_::_,h=>by cases h
 | _::_,[],h=>by cases h
 | k::bT,c::cs,h=>by simp only[ib,avU] at h; simp[EG h.2]
theorem EH:∀ {l r:List mx} {m:List U},ib (l++r) m=true->∃ kE kf,m=kE++kf/\ib l kE=true/\ib r kf=true
 | [],r,m,h=>⟨[],m,rfl,rfl,h⟩
 | k::l,r,[],h=>by cases h
 | k::l,r,c::m,h=>by
  simp only[awN,ib,avU] at h;obtain⟨kE,kf,rfl,h1,ad⟩:=EH h.2;exact⟨c::kE,kf,rfl,by simp[ib,h.1,h1],ad⟩
theorem XT {k:IntKind} {xs:List U} (h:ib [.i k] xs=true) :∃ p,xs=[.int k p] :=by
 cases xs with
 | nil=>cases h
 | cons c r=>
  simp only[ib,avU] at h;cases r with
  | cons _ _=>cases h.2
  | nil=>
   cases c<;>simp only[Fl] at h<;>try (cases h.1; done)
   rename_i k' p;have hk:k=k':=by simpa using h.1
   subst hk;exact⟨p,rfl⟩
theorem J0:∀ {jY i1 lN kK:List U},jY.length=i1.length->fD (jY++lN) (i1++kK)=(fD jY i1&&fD lN kK)
 | [],[],_,_,_=>by simp[fD]
 | [],_::_,_,_,h=>by simp at h
 | _::_,[],_,_,h=>by simp at h
 | a::jY,b::i1,lN,kK,h=>by
  simp only[awa,Nat.add_right_cancel_iff] at h;simp only[awN,fD,J0 h,Bool.and_assoc]
section
variable (P:Program)
def H2 (f:TypeId->Option (List mx)) :List Field->Nat->Option (List mx)
 | [],_=>some []
 | fd::fs,o=>match f fd.type,cM P fd.type with
  | some l,some z=>match fd.name != "_"&&Nat.beq fd.offset o&&Nat.beq l.length z with
   | true=>match H2 f fs (o+z) with
    | some r=>some (l++r)
    | none=>none
   | false=>none
  | _,_=>none
def r7:Nat->TypeId->Option (List mx)
 | 0,_=>none
 | d+1,t=>match P.underlying t with
  | some .bool=>some [.b]
  | some (.int k)=>some [.i k]
  | some .string=>some [.s]
  | some (.array n e)=>match r7 d e,cM P e with
   | some l,some z=>match Nat.beq l.length z with
    | true=>some (List.replicate n l).flatten
    | false=>none
   | _,_=>none
  | some (.struct fs)=>match P.stoodInHeld t with
   | false=>H2 P (r7 d) fs.toList 0
   | true=>none
  | _=>none
def lo (t:TypeId) (l:List U) :Option U:=match eB P t with
 | some true=>some (.aH l)
 | some false=>l[0]?
 | none=>none
end
variable {P:Program}
theorem IA {t:TypeId} {z:Nat} (aw:cM P t=some z) {pre mid post:List U} (hm:mid.length=z) (aq:eB P t=some false->mid.length=1) :ic P t (pre++(mid++post)) pre.length=lo P t mid:=by
 unfold ic lo;rw[aw];cases aA:eB P t with
 | none=>rfl
 | some g=>
  cases g with
  | true=>
   simp only;rw[if_pos (by simp; omega),List.drop_left,awg (by omega),avO (by omega)]
  | false=>
   have:=aq aA;simp only;rw[av2 (by omega),axX,avQ (by omega)]
def EqAt (P:Program) (f:TypeId->Option (List mx)) (eq:TypeId->U->U->Option Bool) :Prop:=
 ∀ t bT,f t=some bT->(eB P t=some false->bT.length=1)/\∀ xs bh,ib bT xs=true->ib bT bh=true->∃ a b,lo P t xs=some a/\lo P t bh=some b/\eq t a b=some (fD xs bh)
theorem Tu {f:TypeId->Option (List mx)} {eq:TypeId->U->U->Option Bool} (ao:EqAt P f eq) :∀ (fs:List Field) (o:Nat) (bT:List mx),H2 P f fs o=some bT->∀ (pT pU cW pL:List U),pT.length=o->pU.length=o->ib bT cW=true->ib bT pL=true->
  eZ.eqFields P eq (pT++cW) (pU++pL) fs=some (fD cW pL)
 | [],o,bT,h,pT,pU,cW,pL,af,ax,r8,vm=>by
  cases h;cases cW with
  | nil=>cases pL with | nil=>rfl | cons _ _=>cases vm
  | cons _ _=>cases r8
 | fd::fs,o,bT,h,pT,pU,cW,pL,af,ax,r8,vm=>by
  unfold H2 at h;split at h
  ·rename_i l z al aw;split at h
   ·rename_i ah;simp only[avU,bne_iff_ne,ne_eq] at ah;split at h
    ·rename_i r az;cases h;obtain⟨jY,lN,rfl,aV,a1⟩:=EH r8;obtain⟨i1,kK,rfl,de,df⟩:=EH vm;have ap:fd.offset=o:=awK ah.1.2;have Hw:l.length=z:=awK ah.2;obtain⟨aP,aU⟩:=ao _ _ al;obtain⟨a,b,qn,oQ,uI⟩:=aU jY i1 aV de;have Nz:=EG aV;have NA:=EG de;unfold eZ.eqFields;rw[if_neg ah.1.1,ap];rw[show ic P fd.type (pT++(jY++lN)) o=some a by rw[<-af,IA aw (by omega) (fun h=>by rw[Nz]; exact aP h)]; exact qn];rw[show ic P fd.type (pU++(i1++kK)) o=some b by rw[<-ax,IA aw (by omega) (fun h=>by rw[NA]; exact aP h)]; exact oQ];simp only[uI];rw[J0 (by omega)];have aJ:=Tu ao fs (o+z) r az (pT++jY) (pU++i1) lN kK (by simp; omega) (by simp; omega) a1 df;rw[awo,awo] at aJ;cases fD jY i1 with
     | true=>simpa using aJ
     | false=>simp
    ·cases h
   ·cases h
  ·cases h
theorem Tt {eq:TypeId->U->U->Option Bool} {e:TypeId} {l:List mx} {z:Nat} (aw:cM P e=some z) (Hw:l.length=z) (aq:eB P e=some false->l.length=1)
  (ao:∀ xs bh,ib l xs=true->ib l bh=true->∃ a b,lo P e xs=some a/\lo P e bh=some b/\eq e a b=some (fD xs bh)) :∀ (n i:Nat) (pT pU cW pL:List U),pT.length=i*z->pU.length=i*z->ib (List.replicate n l).flatten cW=true->ib (List.replicate n l).flatten pL=true->
  eZ.s1 P eq e z (pT++cW) (pU++pL) n i=some (fD cW pL)
 | 0,i,pT,pU,cW,pL,af,ax,r8,vm=>by
  simp only[List.replicate_zero,List.flatten_nil] at r8 vm;cases cW with
  | nil=>cases pL with | nil=>rfl | cons _ _=>cases vm
  | cons _ _=>cases r8
 | n+1,i,pT,pU,cW,pL,af,ax,r8,vm=>by
  rw[awV,awT] at r8 vm;obtain⟨jY,lN,rfl,aV,a1⟩:=EH r8;obtain⟨i1,kK,rfl,de,df⟩:=EH vm;obtain⟨a,b,qn,oQ,uI⟩:=ao jY i1 aV de;have Nz:=EG aV;have NA:=EG de;unfold eZ.s1;rw[show ic P e (pT++(jY++lN)) (i*z)=some a by rw[<-af,IA aw (by omega) (fun h=>by rw[Nz]; exact aq h)]; exact qn];rw[show ic P e (pU++(i1++kK)) (i*z)=some b by rw[<-ax,IA aw (by omega) (fun h=>by rw[NA]; exact aq h)]; exact oQ];simp only[uI];rw[J0 (by omega)];have aJ:=Tt aw Hw aq ao n (i+1) (pT++jY) (pU++i1) lN kK (by simp[awD]; omega) (by simp[awD]; omega) a1 df;rw[awo,awo] at aJ;cases fD jY i1 with
  | true=>simpa using aJ
  | false=>simp
theorem Gj:∀ (d D:Nat),d<=D->EqAt P (r7 P d) (eZ P D)
 | 0,D,_,t,bT,h=>by cases h
 | d+1,0,bC,t,bT,h=>by omega
 | d+1,D+1,bC,t,bT,h=>by
  have aJ:=Gj d D (by omega);unfold r7 at h;split at h
  ·rename_i aN;have aA:eB P t=some false:=by unfold eB; rw[aN]; rfl
   cases h;refine⟨fun _=>rfl,fun xs bh af ax=>?_⟩
   match xs,bh,af,ax with
   | [.bool p],[.bool q],_,_=>
    refine⟨.bool p,.bool q,by simp[lo,aA],by simp[lo,aA],?_⟩;unfold eZ; rw[aN];cases p<;>cases q<;>rfl
  ·rename_i k aN;have aA:eB P t=some false:=by unfold eB; rw[aN]; rfl
   cases h;refine⟨fun _=>rfl,fun xs bh af ax=>?_⟩;obtain⟨p,rfl⟩:=XT af;obtain⟨q,rfl⟩:=XT ax
   ·refine⟨.int k p,.int k q,by simp[lo,aA],by simp[lo,aA],?_⟩;unfold eZ; rw[aN];by_cases h:p=q<;>simp[fD,U.beq,h]
  ·rename_i aN;have aA:eB P t=some false:=by unfold eB; rw[aN]; rfl
   cases h;refine⟨fun _=>rfl,fun xs bh af ax=>?_⟩
   match xs,bh,af,ax with
   | [.str p],[.str q],_,_=>
    refine⟨.str p,.str q,by simp[lo,aA],by simp[lo,aA],?_⟩;unfold eZ; rw[aN];by_cases h:p=q<;>simp[fD,U.beq,h]
  ·rename_i n e aN;have aA:eB P t=some true:=by unfold eB; rw[aN]; rfl
   split at h
   ·rename_i l z al aw;split at h
    ·rename_i Hw;cases h;obtain⟨aP,aU⟩:=aJ _ _ al;refine⟨fun h=>(by rw[aA] at h; cases h),fun xs bh af ax=>⟨.aH xs,.aH bh,by simp[lo,aA],by simp[lo,aA],?_⟩⟩;unfold eZ; rw[aN];simp only[aw];exact Tt aw (awK Hw) aP aU n 0 [] [] xs bh (by simp) (by simp) af ax
    ·cases h
   ·cases h
  ·rename_i fs aN;have aA:eB P t=some true:=by unfold eB; rw[aN]; rfl
   split at h
   ·rename_i ak;refine⟨fun h=>(by rw[aA] at h; cases h),fun xs bh af ax=>⟨.aH xs,.aH bh,by simp[lo,aA],by simp[lo,aA],?_⟩⟩;unfold eZ; rw[aN];simp only[ak,axf,if_false];exact Tu aJ fs.toList 0 bT h [] [] xs bh rfl rfl af ax
   ·cases h
  ·cases h
theorem J2 {t:TypeId} {bT:List mx} (hk:r7 P 20 t=some bT) (aA:eB P t=some true) (aq:P.eqGuardType P.depth t=false) {xs bh:List U} (af:ib bT xs=true) (ax:ib bT bh=true) :gH P .eql t (.aH xs) (.aH bh)=some (.bool (fD xs bh)) :=by
 obtain⟨a,b,qn,oQ,uI⟩:=(Gj (P:=P) 20 10000 (by omega) t bT hk).2 xs bh af ax;simp only[lo,aA,Option.some.injEq] at qn oQ;subst qn; subst oQ;exact aca aq uI
theorem FT {t:TypeId} {bT:List mx} (hk:r7 P 20 t=some bT) (aA:eB P t=some true) (aq:P.eqGuardType P.depth t=false) {xs bh:List U} (af:ib bT xs=true) (ax:ib bT bh=true) :gH P .neq t (.aH xs) (.aH bh)=some (.bool (!fD xs bh)) :=by
 obtain⟨a,b,qn,oQ,uI⟩:=(Gj (P:=P) 20 10000 (by omega) t bT hk).2 xs bh af ax;simp only[lo,aA,Option.some.injEq] at qn oQ;subst qn; subst oQ;exact acb aq uI
end Go.cb

namespace Go.cb
open Go Go.Proofs Go.Shelf
structure Ci (P:Program) (f:FuncId) (T I e z:Nat) :Prop where
 zR:P.underlying T=some (.slice e)
 aol:P.underlying I=some (.int .i64)
 fin:∀ (base:Option Addr) (n c eO fz g9:Nat) (r:Value) (w w' : World),n<=c->n<=4611686018427387904->(base=none->n=0/\c=0)->
  (Builtin.append_ #[T,T] T #[.slice base n c,.slice (some ⟨fz,g9,none⟩) 1 eO]).run P w=.ok r w'->
  Calls P f #[.slice base n c,.int .i64 n,.slice (some ⟨fz,g9,none⟩) 1 eO] w fun x w2=>x=.returned r/\w2=w'
 shift:∀ (b off n c i fz g9 eO:Nat) (ce bP:Value) (w jw hI:World) (zM fC:TypeId) (qY tA:Nat),i<n->n+1<=c->n<=4611686018427387904->fz≠b->
  w.shape? fz=some (zM,qY)->w.shape? b=some (fC,tA)->tA≠0->w.frozen? ⟨fz,g9,none⟩=false->w.frozen? ⟨fz,qY,none⟩=false->
  (Builtin.copy_ #[T,T] I #[.slice (some ⟨b,off+(i+1)*z,none⟩) (n - i) (c - (i+1)),.slice (some ⟨b,off+i*z,none⟩) (n+1 - i) (c - i)]).run P w.drew=.ok ce jw->
  (Builtin.copy_ #[T,T] I #[.slice (some ⟨b,off+i*z,none⟩) (n+1 - i) (c - i),.slice (some ⟨fz,g9,none⟩) 1 eO]).run P jw=.ok bP hI->
  Calls P f #[.slice (some ⟨b,off,none⟩) n c,.int .i64 i,.slice (some ⟨fz,g9,none⟩) 1 eO] w fun x w2=>x=.returned (.slice (some ⟨b,off,none⟩) (n+1) c)/\w2=hI
 grow:∀ (b off n c i fz g9 eO N G:Nat) (ce bP:Value) (w v2 jw hI:World),i<n->n<=c->c<n+1->n+1<=G->n<=4611686018427387904->
  (Builtin.append_ #[T,I] T #[.slice (some ⟨b,off,none⟩) i c,.int .i64 ((n:Int)+1 - (i:Int))]).run P w=.ok (.slice (some ⟨N,0,none⟩) (n+1) G) v2->
  (Builtin.copy_ #[T,T] I #[.slice (some ⟨N,i*z,none⟩) (n+1 - i) (G - i),.slice (some ⟨fz,g9,none⟩) 1 eO]).run P v2=.ok ce jw->
  (Builtin.copy_ #[T,T] I #[.slice (some ⟨N,(i+1)*z,none⟩) (n - i) (G - (i+1)),.slice (some ⟨b,off+i*z,none⟩) (n - i) (c - i)]).run P jw.drew=.ok bP hI->
  Calls P f #[.slice (some ⟨b,off,none⟩) n c,.int .i64 i,.slice (some ⟨fz,g9,none⟩) 1 eO] w fun x w2=>x=.returned (.slice (some ⟨N,0,none⟩) (n+1) G)/\w2=hI
section
variable {P:Program} {G:Nat->U} {R:Nat->Prop} {B:Nat} {w:World} {h:aQ} {μ:cX}
theorem H5 (rel:cc R B w h μ) {b sz o n:Nat} {cs:List U} {m:M} (ag:h.f b=.cells sz cs) (hm:μ b=some m) (ec:o+n<=sz) :
  ∃ vs:List Value,us w R h μ ((cs.drop o).take n) vs/\(loadCells ⟨m.r,m.s+o,none⟩ n).run P w=.ok vs.toArray w:=by
 have e0:=rel.blk b m hm;rw[ag] at e0;obtain⟨ej,eE,arr,e,gy,az,bM,mM,jE⟩:=e0;have bn:((cs.drop o).take n).length=n:=by rw[av1,awW]; omega
 obtain⟨vs,cJ,al⟩:=OL (P:=P) (w:=w) (R:=R) (h:=h) (μ:=μ) (w2:=w) (xs:=(cs.drop o).take n) (blk:=m.r) (o:=m.s+o) (fun _=>rfl) (fun j c ai=>by
  have aM:j<n:=by have:=(avP.1 ai).1; omega
  rw[awb aM,awv] at ai;obtain⟨v,h1,ad,aj⟩:=jE (o+j) c ai;refine⟨v,?_,ad,aj⟩;simp only[World.cell?,az,axR];rw[axu];exact h1)
 refine⟨vs,cJ,?_⟩;have:=al n (by omega) w (fun _=>rfl)
 rwa [avO (by rw[cJ.1,bn]; exact avR _)] at this
theorem F9 (rel:cc R B w h μ) {t u ty e z:Nat} (k1:P.underlying t=some (.slice e)) (aw:cM P e=some z) {b sz k:Nat} {cs:List U} {m:M} (ag:h.f b=.cells sz cs) (hm:μ b=some m) (hk:k<=sz)
  {dLen dc sLen sc cnt:Nat} {a:Addr} {xs:List U} {vs:List Value} (AR:Nat.min sLen dLen=cnt) (bf:xs.length=cnt*z) (ahc:(loadCells a (cnt*z)).run P w=.ok vs.toArray w)
  (cJ:us w R h μ xs vs) (eE:m.s+max sz (k+cnt*z)<=m.T) :
  ∃ w',(Builtin.copy_ #[t,u] ty #[.slice (some ⟨m.r,m.s+k,none⟩) dLen dc,.slice (some a) sLen sc]).run P w=.ok (goInt cnt) w' ∧
   dY w h μ w' (h.set b (.cells (max sz (k+cnt*z)) (bt cs k xs))) μ/\cc R B w' (h.set b (.cells (max sz (k+cnt*z)) (bt cs k xs))) μ:=by
 obtain⟨w',h1,ad,aj⟩:=zV (P:=P) rel (cvs:=xs) (vs:=vs) (k:=k) ag hm hk cJ.1 (by rw[bf]; exact eE) cJ.2;rw[bf] at ad aj;refine⟨w',?_,ad,aj⟩;simp[Builtin.copy_,cL k1,Builtin.lenOf,Builtin.firstCells,fS aw,AR,ahc,h1]
theorem Y7 {b2:World} {h1:aQ} {hp:cX} (q7:cc R B b2 h1 hp) (ex:dY w h μ b2 h1 hp) {b z n nc ns:Nat} {row:List U} {v:Value} (aF:h1.f=bS h.f b (.cells ns row)) (aC:h1.n=h.n) (tl:ns=nc*z) (aD:0<n) (pw:b<h.n)
  (au:aS b2 R h1 hp (.ar z b 0 n nc ns) v) :
  ∃ μ',dY w h μ b2 ((h.set b .dead).push (.cells ns row)) μ'/\cc R B b2 ((h.set b .dead).push (.cells ns row)) μ'/\aS b2 R ((h.set b .dead).push (.cells ns row)) μ' (.ar z h.n 0 n nc ns) v:=by
 have gY:h1.f b=.cells ns row:=by rw[aF,kw]
 cases au with
 | gR _ _ _ _ _ _ _ _ _ _ aq=>
  exfalso;rcases aq with aq | ⟨hi,cs',aq,aM⟩
  ·rw[gY] at aq; cases aq
  ·rw[gY] at aq; cases aq; omega
 | ig=>omega
 | ar _ _ _ _ _ _ cap' oO m j5 hm al ap dC=>
  have qQ:=q7.Y6 (b:=b) (off:=0) (m:=m) (h':=(h.set b .dead).push (.cells ns row)) gY hm (aw4 _) (by
   rw[eG,eg,ff,aF,aC];funext x;simp only[bS,ayt,aw2];by_cases ad:x=h.n
   ·rw[if_pos ad,if_pos ad]
   ·rw[if_neg ad,if_neg ad];split<;>rfl) (by rw[fN,ff,aC])
  refine⟨_,ex.trans qQ.1,qQ.2,?_⟩;rw[aC];exact .ar z h.n 0 n nc ns cap' row ⟨m.r,m.s+0,m.T⟩ (by rw[eG,ff,kw]) (by simp) al ap (by
   rcases dC with dC | ⟨px,ky,AQ⟩
   ·omega
   ·exact .inr ⟨px,ky,by simpa using AQ⟩)
theorem Qv (w:World) :RowKit.Below w.heap.size w w.drew:=⟨rfl,rfl,rfl,avR _,fun _ _=>rfl⟩
theorem ai2 {z i len:Nat} {cs vs:List U} (jh:vs.length=z) (av:i<len) (al:len*z<=cs.length) :
  bt (bt cs ((i+1)*z) ((cs.drop (i*z)).take ((len - i)*z))) (i*z) vs=mh z cs vs i len:=by
 have h1:(i+1)*z=i*z+z:=by rw[awD]
 have ad:(i+1)*z<=len*z:=avX _ av;have aj:i*z+(len - i)*z=len*z:=by rw[<-awJ]; congr 1; omega
 have aE:(len+1)*z=len*z+z:=by rw[awD]
 have jD:((cs.drop (i*z)).take ((len - i)*z)).length=(len - i)*z:=by rw[av1,awW]; omega
 have cN:(cs.take ((i+1)*z)).length=i*z+z:=by rw[av1]; omega
 unfold mh bt;rw[jD,jh];have aR:(i+1)*z+(len - i)*z=(len+1)*z:=by omega
 rw[aR,awo (cs.take ((i+1)*z)),awg (by rw[cN]; omega),axd,show min (i*z) ((i+1)*z)=i*z by omega];rw[show i*z+z=(cs.take ((i+1)*z)).length by rw[cN],List.drop_left];simp only[awo]
theorem aiZ {z i len:Nat} {cs vs:List U} (jh:vs.length=z) (av:i<len) (al:len*z=cs.length) :
  bt (bt (cs.take (i*z)) (i*z) vs) ((i+1)*z) ((cs.drop (i*z)).take ((len - i)*z))=mh z cs vs i len:=by
 have h1:(i+1)*z=i*z+z:=by rw[awD]
 have ad:(i+1)*z<=len*z:=avX _ av;have aj:i*z+(len - i)*z=len*z:=by rw[<-awJ]; congr 1; omega
 have aE:(len+1)*z=len*z+z:=by rw[awD]
 have cN:(cs.take (i*z)).length=i*z:=by rw[av1]; omega
 have h2:bt (cs.take (i*z)) (i*z) vs=cs.take (i*z)++vs:=by
  unfold bt;rw[awB (by rw[cN]; omega),awp,avO (by rw[cN]; exact avR _)]
 rw[h2];unfold mh bt;have aR:(cs.take (i*z)++vs).take ((i+1)*z)=cs.take (i*z)++vs:=avO (by rw[avW,cN,jh]; omega);have bJ:∀ k,(cs.take (i*z)++vs).drop ((i+1)*z+k)=[] :=fun k=>awB (by rw[avW,cN,jh]; omega)
 have dF:cs.drop ((len+1)*z)=[] :=awB (by omega);rw[aR,bJ,dF]
theorem aj9 (a b z:Nat) :max a b*z=max (a*z) (b*z) :=by
 rcases Nat.le_total a b with h | h
 ·rw[ax3 h,ax3 (avX _ h)]
 ·rw[ay2 h,ay2 (avX _ h)]
theorem aiU {T e z by_:Nat} (bM:iR P T=some e) (aw:cM P e=some z) (ea:i5 P e=some by_) (qK:0<z) (yF:0<by_) (h6:ug P e=some z)
  {b bv len cap:Nat} {cs vs:List U} (ag:h.f b=.cells (cap*z) cs) (ej:cs.length=cap*z) (iq:h.f bv=.cells z vs) (jh:vs.length=z) (mP:len<=cap) (dA:(len+1)*by_<=cy) :
  sP P h T (.ar z b 0 len cap (cap*z)) (.ar z bv 0 1 1 z)=some (.ar z b 0 (len+1) (max cap (len+1)) (max cap (len+1)*z),h.set b (.cells (max cap (len+1)*z) (mh z cs vs len len))) :=by
 have aE:(len+1)*z=len*z+z:=by rw[awD]
 have dw:len*z<=cap*z:=avX _ mP;have cJ:mh z cs vs len len=cs.take (len*z)++vs++cs.drop ((len+1)*z) :=by simp[mh]
 have mU:(vs.drop 0).take (1*z)=vs:=by rw[aw2,ayk,avO (by omega)]
 unfold sP;rw[bM];simp only[aw,ea,contents,iq,and_self,if_true,mU];unfold wc;rw[if_neg (by omega),if_neg (by rw[h6]; simp; omega)];simp only[ag,true_and,dA,if_true];by_cases aF:len+1<=cap
 ·have Hs:(len+1)*z<=cap*z:=avX _ aF;rw[if_pos aF,ay2 aF,cJ];simp only[bt,axa,jh,<-aE]
 ·obtain rfl:len=cap:=by omega
  rw[if_neg aF,if_neg (by omega),ax3 (by omega),cJ,awB (by omega),awp]
theorem Nc {f T I e z by_:Nat} (L:Ci P f T I e z) (bM:iR P T=some e) (aw:cM P e=some z) (ea:i5 P e=some by_) (qK:0<z) (yF:0<by_) (h6:ug P e=some z)
  {b bv len cap i:Nat} {cs vs:List U} (ag:h.f b=.cells (cap*z) cs) (iq:h.f bv=.cells z vs) (bI:bv≠b) (av:i<=len) (mP:len<=cap) (dA:(len+1)*by_<=cy) :
  sG P G f [.ar z b 0 len cap (cap*z),.int .i64 i,.ar z bv 0 1 1 z] h (.ar z h.n 0 (len+1) (max cap (len+1)) (max cap (len+1)*z)) ((h.set b .dead).push (.cells (max cap (len+1)*z) (mh z cs vs i len))) :=by
 intro R B w μ eI rel Gw al au;obtain⟨pc⟩:=eI
 match pc,al with
 | [v0,fk,dS],_=>
 have iU:=au 0 _ v0 rfl rfl;have mU:=au 1 _ fk rfl rfl;have qU:=au 2 _ dS rfl rfl;have MN:=qU;cases mU;have pt:len<=4611686018427387904:=by
  have:=Nat.le_mul_of_pos_right (len+1) yF;unfold cy at dA;omega
 have Mi:BB P T:=⟨_,L.zR,fun k hk=>by cases hk⟩
 have je:=aj9 cap (len+1) z;have aE:(len+1)*z=len*z+z:=by rw[awD]
 have dw:len*z<=cap*z:=avX _ mP;cases qU with
 | gR _ _ _ _ _ _ _ _ _ _ aq=>
  exfalso;rcases aq with aq | ⟨hi,cs',aq,aM⟩
  ·rw[iq] at aq; cases aq
  ·rw[iq] at aq; cases aq; omega
 | ar _ _ _ _ _ _ eO aox gu af6 yV l2 DU jc=>
 have Dz:=rel.blk bv gu yV;rw[iq] at Dz;obtain⟨jh,arU,Qo,da,arq,MG,arF,Vl,arP⟩:=Dz;by_cases c3:i=len
 ·subst c3;have ahj:∃ a cap',v0=.slice (some a) i cap'/\i<=cap'/\cs.length=cap*z/\b<h.n:=by
   cases iU with
   | gR _ _ _ _ _ _ _ _ _ _ aq=>
    exfalso;rcases aq with aq | ⟨hi,cs',aq,aM⟩
    ·rw[ag] at aq; cases aq
    ·rw[ag] at aq; cases aq; omega
   | ig _ _ _ _ a oO m j5 hm=>
    have e0:=rel.blk b m hm;rw[ag] at e0;exact⟨a,0,rfl,avR _,e0.1,rel.sS hm⟩
   | ar _ _ _ _ _ _ cap' oO m j5 hm al ap dC=>
    have e0:=rel.blk b m hm;rw[ag] at e0;exact⟨_,cap',rfl,by omega,e0.1,rel.sS hm⟩
  obtain⟨a,cap',rfl,Ht,ej,pw⟩:=ahj;obtain⟨v,b2,hp,hv,qC,ME,vg⟩:=JU (P:=P) (ty:=T) (u:=T) rel Mi (aiU (P:=P) bM aw ea qK yF h6 ag ej iq jh mP dA) iU MN;refine (L.fin (some a) i cap' eO gu.r (gu.s+0) v w b2 Ht pt (fun h=>by cases h) hv).mono ?_;rintro x w2 ⟨rfl,rfl⟩;obtain⟨μ',h1,ad,aj⟩:=Y7 (h:=h) ME qC (b:=b) (row:=mh z cs vs i i) (ns:=max cap (i+1)*z) (eg _ _ _) rfl rfl (by omega) pw vg;exact⟨v,μ',rfl,h1,ad,aj⟩
 have DI:i<len:=by omega
 have aru:(i+1)*z=i*z+z:=by rw[awD]
 have arw:(i+1)*z<=len*z:=avX _ DI;have arx:i*z+(len - i)*z=len*z:=by rw[<-awJ]; congr 1; omega
 cases iU with
 | gR _ _ _ _ _ _ _ _ _ _ aq=>
  exfalso;rcases aq with aq | ⟨hi,cs',aq,aM⟩
  ·rw[ag] at aq; cases aq
  ·rw[ag] at aq; cases aq; omega
 | ig=>omega
 | ar _ _ _ _ _ _ cap' oO m j5 hm ar4 ap dC=>
 rw[ag] at j5; cases j5;have e0:=rel.blk b m hm;rw[ag] at e0;obtain⟨ej,arT,arr,oQ,gy,az,arE,mM,jE⟩:=e0;obtain⟨ky,AQ⟩:cap<=cap'/\m.s+cap'*z<=m.T:=by
  rcases dC with dC | ⟨px,ky,AQ⟩
  ·omega
  ·exact⟨ky,by simpa using AQ⟩
 have pw:=rel.sS hm;have Mf:gu.r≠m.r:=fun ao=>bI (rel.inj bv b gu m (by rw[iq]; rfl) (by rw[ag]; rfl) yV hm ao)
 have mU:(vs.drop 0).take z=vs:=by rw[aw2,avO (by omega)]
 have kS:((cs.drop (i*z)).take ((len - i)*z)).length=(len - i)*z:=by rw[av1,awW]; omega
 by_cases eE:len+1<=cap'
 ·have Hs:(len+1)*z<=cap'*z:=avX _ eE;obtain⟨Gk,vF⟩:=Ot rel (w':=w.drew) (Qv w);obtain⟨ls,HH,Mb⟩:=H5 (P:=P) vF (o:=i*z) (n:=(len - i)*z) ag hm (by omega);obtain⟨jw,qy,C2,q7⟩:=F9 (P:=P) (t:=T) (u:=T) (ty:=I) vF L.zR aw (k:=(i+1)*z) ag hm (by omega) (dLen:=len - i) (dc:=cap' - (i+1)) (sLen:=len+1 - i) (sc:=cap' - i) (cnt:=len - i)
   (by simp only[ay3]; split<;>omega) kS Mb HH (by omega)
  have oj:max (cap*z) ((i+1)*z+(len - i)*z)=max cap (len+1)*z:=by omega
  rw[oj] at C2 q7;have gY:(h.set b (.cells (max cap (len+1)*z) (bt cs ((i+1)*z) ((cs.drop (i*z)).take ((len - i)*z))))).f b=.cells (max cap (len+1)*z) (bt cs ((i+1)*z) ((cs.drop (i*z)).take ((len - i)*z))) :=by rw[eg,kw]
  have af7:(h.set b (.cells (max cap (len+1)*z) (bt cs ((i+1)*z) ((cs.drop (i*z)).take ((len - i)*z))))).f bv=.cells z vs:=by rw[eg,cm _ _ _ _ bI]; exact iq
  obtain⟨Ie,HI,Mc⟩:=H5 (P:=P) q7 (o:=0) (n:=z) af7 yV (by omega);rw[mU] at HI;obtain⟨hI,qz,wH,tV⟩:=F9 (P:=P) (t:=T) (u:=T) (ty:=I) q7 L.zR aw (k:=i*z) gY hm (by omega) (dLen:=len+1 - i) (dc:=cap' - i) (sLen:=1) (sc:=eO) (cnt:=1)
   (by simp only[ay3]; split<;>omega) (by omega) (by rw[ayk]; exact Mc) HI (by omega)
  have ol:max (max cap (len+1)*z) (i*z+1*z)=max cap (len+1)*z:=by omega
  rw[ol,ai2 jh DI (by omega)] at wH tV;have kz:w.frozen? ⟨gu.r,gu.s+0,none⟩=false:=by
   simp only[World.frozen?,MG];rcases Vl with aD | aD
   ·subst aD; simp
   ·simp; intro aj; omega
  have yN:w.frozen? ⟨gu.r,Qo.size,none⟩=false:=by
   simp only[World.frozen?,MG];rcases Vl with aD | aD
   ·subst aD; simp
   ·simp; intro aj; omega
  refine (L.shift m.r m.s len cap' i gu.r (gu.s+0) eO _ _ w jw hI da oQ Qo.size arr.size DI eE pt Mf (by simp[World.shape?,MG]) (by simp[World.shape?,az]) (by omega) kz yN qy qz).mono ?_;rintro x w2 ⟨rfl,rfl⟩;obtain⟨μ',h1,ad,aj⟩:=Y7 (h:=h) tV ((Gk.trans C2).trans wH) (b:=b) (row:=mh z cs vs i len) (ns:=max cap (len+1)*z) (n:=len+1) (nc:=max cap (len+1)) (z:=z) (v:=.slice (some ⟨m.r,m.s+0,none⟩) (len+1) cap') (by
   rw[eg,eg];funext y;simp only[bS];split<;>rfl) rfl rfl (by omega) pw (.ar z b 0 (len+1) (max cap (len+1)) (max cap (len+1)*z) cap' _ m (by rw[eg,kw]) hm (by omega) (by omega) (.inr ⟨by omega,by omega,by simpa using AQ⟩))
  exact⟨_,μ',rfl,h1,ad,aj⟩
 ·obtain rfl:cap=len:=by omega
  obtain rfl:cap'=cap:=by omega
  obtain⟨xa,zv,LX,mf,ka⟩:=aaK h6;have qR:xa.size=z:=by simp[cM,LX] at aw; exact aw
  have mL:xa.bytes=by_:=by simp[i5,LX] at ea; exact ea
  have cz:contents h z (.ar z b 0 i cap' (cap'*z))=some ((cs.drop 0).take (i*z),i) :=by simp[contents,ag]
  obtain⟨bY,_,fW,iw,yZ⟩:=wB (P:=P) rel cz (aS.ar z b 0 i cap' (cap'*z) cap' cs m ag hm (by omega) (by omega) (.inr ⟨by omega,avR _,by simpa using AQ⟩));have DS:=yZ i (avR _) w.drew (fun _=>rfl);rw[avO (by rw[iw.1,bY]; exact avR _)] at DS;rw[aw2] at iw bY;have Wj:(cap'+1)*xa.bytes<=cy:=by rw[mL]; exact dA
  have mN:i+(cap'+1 - i)=cap'+1:=by omega
  have arK:(cap'+1 - i)*xa.bytes<=(cap'+1)*xa.bytes:=avX _ (by omega);have j4:=Lib.run_append_grow_zeros w T I T e xa zv .i64 .i64 L.zR L.aol LX mf (some ⟨m.r,m.s+0,none⟩) i cap' fW (by rw[qR]; exact DS) (cap'+1 - i) (by omega) (by omega) (by omega) (by omega) (by unfold cy at Wj; omega)
   (by rw[mN]; have:=growslice_fits (old:=cap') (need:=cap'+1) (by omega) Wj; omega)
  rw[mN] at j4;obtain⟨sI,UA⟩:∃ sI,sI=grownCap w (cap'+1) cap' e:=⟨_,rfl⟩
  have UB:cap'+1<=sI:=by rw[UA]; exact grownCap_ge w _ _ _
  rw[<-UA] at j4;obtain⟨ROW,GR⟩:∃ ROW:Array Value,ROW=fW.toArray++Builtin.zeroCells zv.cells (cap'+1 - i)++Builtin.zeroCells zv.cells (sI - (cap'+1)) :=⟨_,rfl⟩
  rw[<-GR] at j4;have arD:(cap'+1)*z<=ROW.size:=by
   have aR:i*z+(cap'+1 - i)*z=(cap'+1)*z:=by rw[<-awJ]; congr 1
   rw[GR];simp only[ayI,ayJ,Builtin.zeroCells];simp[ka,iw.1];omega
  have cN:(cs.take (i*z)).length=i*z:=by rw[av1]; omega
  obtain⟨Gk,vF⟩:=rel.push (w':=w.drew.alloc (.cells ROW e)) (cs.take (i*z)) ROW e rfl rfl rfl rfl (by omega) (fun j c ai=>by
   obtain⟨v,aP,aU,a8⟩:=iw.2 j c ai;refine⟨v,?_,aU,a8⟩;have aM:j<fW.length:=(avP.1 aP).1;rw[GR,ayc,awX (by simpa using aM)];simpa using aP)
  rw[cN] at Gk vF;have G9:b≠h.n:=by omega
  have arN:=rel.sS yV;have U2:bv≠h.n:=by omega
  have pF:(bS μ h.n (some ⟨w.heap.size,0,ROW.size⟩)) h.n=some ⟨w.heap.size,0,ROW.size⟩:=kw _ _ _;have ahp:(bS μ h.n (some ⟨w.heap.size,0,ROW.size⟩)) bv=some gu:=by rw[cm _ _ _ _ U2]; exact yV
  have ahk:(bS μ h.n (some ⟨w.heap.size,0,ROW.size⟩)) b=some m:=by rw[cm _ _ _ _ G9]; exact hm
  have afX:(h.push (.cells (i*z) (cs.take (i*z)))).f h.n=.cells (i*z) (cs.take (i*z)) :=by rw[eG,kw]
  have afZ:(h.push (.cells (i*z) (cs.take (i*z)))).f bv=.cells z vs:=by rw[eG,cm _ _ _ _ U2]; exact iq
  obtain⟨Ie,HH,Mb⟩:=H5 (P:=P) vF (o:=0) (n:=z) afZ ahp (by omega);rw[mU] at HH;obtain⟨jw,qy,C2,q7⟩:=F9 (P:=P) (t:=T) (u:=T) (ty:=I) vF L.zR aw (k:=i*z) afX pF (avR _) (dLen:=cap'+1 - i) (dc:=sI - i) (sLen:=1) (sc:=eO) (cnt:=1)
   (by simp only[ay3]; split<;>omega) (by omega) (by rw[ayk]; exact Mb) HH (by simp only; omega)
  have oj:max (i*z) (i*z+1*z)=(i+1)*z:=by omega
  rw[oj] at C2 q7;obtain⟨adT,Y1⟩:=Ot q7 (w':=jw.drew) (Qv jw);have afY:((h.push (.cells (i*z) (cs.take (i*z)))).set h.n (.cells ((i+1)*z) (bt (cs.take (i*z)) (i*z) vs))).f h.n=.cells ((i+1)*z) (bt (cs.take (i*z)) (i*z) vs) :=by rw[eg,kw]
  have UY:((h.push (.cells (i*z) (cs.take (i*z)))).set h.n (.cells ((i+1)*z) (bt (cs.take (i*z)) (i*z) vs))).f b=.cells (cap'*z) cs:=by rw[eg,cm _ _ _ _ G9,eG,cm _ _ _ _ G9]; exact ag
  obtain⟨ls,HI,Mc⟩:=H5 (P:=P) Y1 (o:=i*z) (n:=(cap' - i)*z) UY ahk (by omega);obtain⟨hI,qz,wH,tV⟩:=F9 (P:=P) (t:=T) (u:=T) (ty:=I) Y1 L.zR aw (k:=(i+1)*z) afY pF (avR _) (dLen:=cap' - i) (dc:=sI - (i+1)) (sLen:=cap' - i) (sc:=cap' - i) (cnt:=cap' - i)
   (by simp only[ay3]; split<;>omega) kS Mc HI (by simp only; omega)
  have ol:max ((i+1)*z) ((i+1)*z+(cap' - i)*z)=(cap'+1)*z:=by omega
  rw[ol,aiZ jh DI (by omega)] at wH tV;simp only[axa] at qy qz;have ahv:max cap' (cap'+1)=cap'+1:=by omega
  rw[ahv];refine (L.grow m.r (m.s+0) cap' cap' i gu.r (gu.s+0) eO w.heap.size sI _ _ w _ jw hI DI (avR _) (by omega) UB pt ?_ qy qz).mono ?_
  ·have:(cap' : Int)+1 - (i:Int)=((cap'+1 - i:Nat) :Int) :=by omega
   rw[this];exact j4
  rintro x w2 ⟨rfl,rfl⟩;have hk:=tV.kill (b:=b) (sz:=cap'*z) (cs:=cs) (h':=(h.set b .dead).push (.cells ((cap'+1)*z) (mh z cs vs i cap'))) (by rw[eg,cm _ _ _ _ G9]; exact UY) (by rw[ff,ff,fN]; omega) (by
   rw[eG,eg,ff,eg,eg,eG];funext y;simp only[bS];by_cases h1:y=h.n
   ·rw[if_pos h1,if_neg (by omega),if_pos h1]
   ·rw[if_neg h1];split
    ·rfl
    ·simp[h1]) (by rw[fN,ff,ff,ff,fN])
  refine⟨_,_,rfl,(((Gk.trans C2).trans adT).trans wH).trans hk.1,hk.2,?_⟩;have:=aS.ar (w:=w2) (R:=R) (h:=(h.set b .dead).push (.cells ((cap'+1)*z) (mh z cs vs i cap'))) (μ:=bS μ h.n (some ⟨w.heap.size,0,ROW.size⟩)) z h.n 0 (cap'+1) (cap'+1) ((cap'+1)*z) sI (mh z cs vs i cap') ⟨w.heap.size,0,ROW.size⟩ (by rw[eG,ff,kw]) (by simp) (avR _) (by omega) (.inr ⟨by omega,UB,by
   simp only;have aR:i*z+(cap'+1 - i)*z=(cap'+1)*z:=by rw[<-awJ]; congr 1
   have bJ:(cap'+1)*z+(sI - (cap'+1))*z=sI*z:=by rw[<-awJ]; congr 1; omega
   rw[GR];simp only[ayI,ayJ,Builtin.zeroCells];simp[ka,iw.1];omega⟩)
  simpa using this
theorem Nb {f T I e z by_:Nat} (L:Ci P f T I e z) (bM:iR P T=some e) (aw:cM P e=some z) (ea:i5 P e=some by_) (qK:0<z) (yF:0<by_) (h6:ug P e=some z)
  {bv:Nat} {vs:List U} (iq:h.f bv=.cells z vs) (dA:by_<=cy) :
  sG P G f [.aT,.int .i64 0,.ar z bv 0 1 1 z] h (.ar z h.n 0 1 1 z) (h.push (.cells z vs)) :=by
 intro R B w μ eI rel Gw al au;obtain⟨pc⟩:=eI
 match pc,al with
 | [v0,fk,dS],_=>
 have iU:=au 0 _ v0 rfl rfl;have mU:=au 1 _ fk rfl rfl;have qU:=au 2 _ dS rfl rfl;have MN:=qU;cases mU;have aim:=iU;cases iU;have Mi:BB P T:=⟨_,L.zR,fun k hk=>by cases hk⟩
 cases qU with
 | gR _ _ _ _ _ _ _ _ _ _ aq=>
  exfalso;rcases aq with aq | ⟨hi,cs',aq,aM⟩
  ·rw[iq] at aq; cases aq
  ·rw[iq] at aq; cases aq; omega
 | ar _ _ _ _ _ _ eO aox gu af6 yV l2 DU jc=>
 have Dz:=rel.blk bv gu yV;rw[iq] at Dz;obtain⟨jh,_⟩:=Dz;have aA:sP P h T .aT (.ar z bv 0 1 1 z)=some (.ar z h.n 0 1 1 z,h.push (.cells z vs)) :=by
  have mU:(vs.drop 0).take (1*z)=vs:=by rw[aw2,ayk,avO (by omega)]
  unfold sP;rw[bM];simp only[aw,ea,contents,iq,and_self,if_true,mU];unfold wc;rw[if_neg (by omega),if_neg (by rw[h6]; simp; omega)];simp only[ayk,dA,if_true]
 obtain⟨v,b2,hp,hv,qC,ME,vg⟩:=JU (P:=P) (ty:=T) (u:=T) rel Mi aA aim MN;refine (L.fin none 0 0 eO gu.r (gu.s+0) v w b2 (avR _) (by omega) (fun _=>⟨rfl,rfl⟩) hv).mono ?_;rintro x w2 ⟨rfl,rfl⟩;exact⟨v,hp,rfl,qC,ME,vg⟩
theorem WQ {f T I e z by_:Nat} (L:Ci P f T I e z) (bM:iR P T=some e) (aw:cM P e=some z) (ea:i5 P e=some by_) (qK:0<z) (yF:0<by_) (h6:ug P e=some z)
  (args:List U) (h:aQ) (r:U) (h' : aQ) (af:tx z by_ args h=some (r,h')) :sG P G f args h r h':=by
 unfold tx at af;split at af
 ·rename_i s x y;split at af
  ·rename_i i iM bv pM b1 dJ hl nq;have aiw:x=.int .i64 i:=by
    unfold Qp at nq;split at nq
    ·split at nq
     ·cases nq; rfl
     ·cases nq
    ·cases nq
   subst aiw;split at af
   ·rename_i kf vs iq;split at af
    ·rename_i ah;obtain⟨rfl,rfl,rfl,rfl,rfl,rfl,aD⟩:=ah;obtain⟨k,rfl⟩:=axg aD;rw[awZ] at af;unfold Eg at af;cases s<;>simp only at af<;>try (cases af; done)
     case aT=>
      split at af
      ·rename_i ah;obtain⟨rfl,az⟩:=ah;cases af;exact Nb L bM aw ea qK yF h6 iq az
      ·cases af
     case ar nF b off len cap sz=>
      cases ag:h.f b<;>rw[ag] at af<;>(try simp only at af)<;>try (cases af; done)
      split at af
      ·rename_i ah;obtain⟨rfl,rfl,rfl,rfl,bI,av,mP,az⟩:=ah;cases af;exact Nc L bM aw ea qK yF h6 ag iq bI av mP az
      ·cases af
    ·cases af
   ·cases af
  ·cases af
 ·cases af
end

end Go.cb

namespace Go.cb
open Go
section
variable (P:Program)
abbrev p9:=List (List Nat)
def ZK (ops:Array Oper) (o:Oper) (i:Nat) (hL:List Nat) (cx:Bool) :eJ:=
 let g:=match o.guard with | none=>none | some k8=>some (match ops[k8.1]? with | some cO=>cO.dst | none=>none,k8.2)
 match nV P o.op with
 | some m=>⟨i,o.dst,g,.g5 m,hL,cx⟩
 | none=>match o.op with
  | .call c=>match c.callee with
   | .value (.func f)=>⟨i,o.dst,g,.m8 f c.args.toList,hL,cx⟩
   | .value x=>⟨i,o.dst,g,.nR x c.args.toList,hL,cx⟩
   | .invoke x name=>⟨i,o.dst,g,.oM x name c.args.toList,hL,cx⟩
   | _=>⟨i,none,none,.g5 .stop,[],false⟩
  | _=>⟨i,none,none,.g5 .stop,[],false⟩
def ZN (ops:Array Oper) :List Oper->Nat->List eJ
 | [],_=>[]
 | o::r,i=>ZK P ops o i [] false::ZN ops r (i+1)
def WL (i:Nat) :List Nat->Bool
 | []=>false
 | x::r=>match Nat.beq i x with | true=>true | false=>WL i r
def Xa (i:Nat) :p9->Bool
 | []=>false
 | p::r=>match WL i p.tail with | true=>true | false=>Xa i r
def P9:p9->Bool
 | []=>false
 | p::r=>match p.tail with | []=>P9 r | _=>true
def O7 (ops:Array Oper) (q:p9) (n:Nat) :p9->List eJ
 | []=>ZN P ops (ops.toList.drop n) n
 | p::r=>(match p with
  | []=>⟨0,none,none,.g5 .stop,[],false⟩
  | i::c=>match ops[i]? with | some o=>ZK P ops o i c (Xa i q) | none=>⟨0,none,none,.g5 .stop,[],false⟩) ::O7 ops q n r
def Oq (ops:Array Oper) (p:p9) :gg:=match P9 p with
 | true=>.yi (O7 P ops p p.length p)
 | false=>.xE (O7 P ops p p.length p)
def ani (a b:gg) :gg:=match a with
 | .skip=>b
 | a=>match b with
  | .skip=>a
  | b=>.seq a b
def xk:Code->List p9->gg × List p9
 | .skip,p=>(.skip,p)
 | .label _,p=>(.skip,p)
 | .ret,p=>(.ret,p)
 | .exit id,p=>(.exit id,p)
 | .region _ ops true,p=>match p with
  | []=>(Oq P ops [],[])
  | x::p=>(Oq P ops x,p)
 | .region _ ops false,p=>(Oq P ops [],p)
 | .seq a b,p=>match xk a p with | (a,p)=>match xk b p with | (b,p)=>(ani a b,p)
 | .cond c a b,p=>match xk a p with | (a,p)=>match xk b p with | (b,p)=>(.cond c a b,p)
 | .block id c,p=>match xk c p with | (c,p)=>(.block id c,p)
 | .loop c,p=>match xk c p with | (c,p)=>(.loop c,p)
 | .scope c,p=>xk c p
 | _,p=>(.skip,p)
def xl (fn:Func) (p:List p9) :gg:=match fn.body with
 | some c=>(xk P c p).1
 | none=>.skip
def vq:List ResultVar->List dy
 | []=>[]
 | x::r=>(match Kr P x with | some m=>m | none=>.stop) ::vq r
end
theorem IV (x:U) (t:List U) :x::x::x::x::x::x::x::x::x::x::x::x::x::x::x::x::x::x::x::x::x::x::x::x::x::x::x::x::x::x::x::x::t=rep 32 x++t:=rfl
theorem IW (x:U) (t:List U) :rep 32 x++(rep 32 x++t)=rep 64 x++t:=rfl
theorem aeG {P:Program} {f:FuncId} {fn:Func} (aF:P.funcs[f]? = some fn) (p:List p9) {c:gg} {ms:List dy}
  (ah:xl P fn p=c:=by conv=>lhs; (cbv; try simp only[IV,IW,awp]))
  (az:vq P fn.results.toList=ms:=by conv=>lhs; cbv)
  (hk:(wy P f,wz P f)=(some (xl P fn p),some (vq P fn.results.toList)) :=by kernel_rfl)
  {G:Nat->U} {args:List U} {l:am} {K:uk} (h:run P G c (Af args) l (Er P G ms K.k)) :c7 P G f args l (c:=K) :=by
 rw[ah,az] at hk;exact F0 (Prod.mk.inj hk).1 (Prod.mk.inj hk).2 h
theorem bp {P:Program} {f:FuncId} {fn:Func} (aF:P.funcs[f]? = some fn) (p:List p9) {T:Tables} {F:Array Func} {c:gg} {ms:List dy} (bM:P=⟨T,F⟩:=by rfl)
  (ah:xl ⟨T,#[]⟩ fn p=c:=by conv=>lhs; (cbv; try simp only[IV,IW,awp]))
  (az:vq ⟨T,#[]⟩ fn.results.toList=ms:=by conv=>lhs; cbv)
  (hk:(wy P f,wz P f)=(some (xl ⟨T,#[]⟩ fn p),some (vq ⟨T,#[]⟩ fn.results.toList)) :=by kernel_rfl)
  {G:Nat->U} {args:List U} {l:am} {K:uk} (h:run P G c (Af args) l (Er P G ms K.k)) :c7 P G f args l (c:=K) :=by
 rw[ah,az] at hk;exact F0 (Prod.mk.inj hk).1 (Prod.mk.inj hk).2 h
def aeF {P:Program} {f:FuncId} {fn:Func} (aF:P.funcs[f]? = some fn) (p:List p9) {c:gg} {ms:List dy}
  (ah:xl P fn p=c:=by conv=>lhs; (cbv; try simp only[IV,IW,awp]))
  (az:vq P fn.results.toList=ms:=by conv=>lhs; cbv)
  (hk:(wy P f,wz P f)=(some (xl P fn p),some (vq P fn.results.toList)) :=by kernel_rfl) :{x:gg × List dy // FF P f x}:=
 ⟨(c,ms),by rw[ah,az] at hk; exact⟨(Prod.mk.inj hk).1,(Prod.mk.inj hk).2⟩⟩
def bZ {P:Program} {f:FuncId} {fn:Func} (aF:P.funcs[f]? = some fn) (p:List p9) {T:Tables} {F:Array Func} {c:gg} {ms:List dy} (bM:P=⟨T,F⟩:=by rfl)
  (ah:xl ⟨T,#[]⟩ fn p=c:=by conv=>lhs; (cbv; try simp only[IV,IW,awp]))
  (az:vq ⟨T,#[]⟩ fn.results.toList=ms:=by conv=>lhs; cbv)
  (hk:(wy P f,wz P f)=(some (xl ⟨T,#[]⟩ fn p),some (vq ⟨T,#[]⟩ fn.results.toList)) :=by kernel_rfl) :{x:gg × List dy // FF P f x}:=
 ⟨(c,ms),by rw[ah,az] at hk; exact⟨(Prod.mk.inj hk).1,(Prod.mk.inj hk).2⟩⟩
end Go.cb

namespace Go.cb
open Go Go.Proofs
set_option maxRecDepth 100000
set_option maxHeartbeats 8000000
noncomputable def FZ:=bZ Tryz.func9 [[[0],[1],[2],[3],[4],[5],[6],[7],[8],[9],[10],[11],[12],[13],[14],[15],[16],[17],[18],[19],[20],[21],[22],[23],[24],[25],[26],[27],[28],[29],[30],[31],[32],[33],[34],[35],[36],[37],[38,37],[39],[40],[41],[42],[43],[44],[45],[46],[47],[48],[49],[50],[51],[52,48],[53],[54],[55],[56],[57],[58],[59],[60],[61],[62,61]]]
noncomputable def QV:=bZ Tryz.func12 []
noncomputable def Q2:=bZ Tryz.func13 []
noncomputable def RD:=bZ Tryz.func19 [[[0],[1],[2],[3],[4],[5],[6],[7,1]]]
noncomputable def R2:=bZ Tryz.func25 []
noncomputable def R5:=bZ Tryz.func31 [[[0],[2],[6],[12],[1,12,2],[3,12],[4],[5,12],[7],[8,12],[9],[10],[11]]]
noncomputable def R6:=bZ Tryz.func32 []
noncomputable def R7:=bZ Tryz.func33 []
noncomputable def R8:=bZ Tryz.func36 []
noncomputable def R9:=bZ Tryz.func37 []
noncomputable def Sa:=bZ Tryz.func39 []
noncomputable def Sb:=bZ Tryz.func40 [[],[[0],[3],[4],[5],[1,4],[2]]]
noncomputable def Sc:=bZ Tryz.func41 []
noncomputable def Sd:=bZ Tryz.func42 []
noncomputable def Se:=bZ Tryz.func43 []
noncomputable def Sf:=bZ Tryz.func44 []
noncomputable def Sg:=bZ Tryz.func45 []
noncomputable def Si:=bZ Tryz.func51 []
noncomputable def Sj:=bZ Tryz.func52 []
noncomputable def Sk:=bZ Tryz.func58 []
noncomputable def Sl:=bZ Tryz.func59 []
noncomputable def Sm:=bZ Tryz.func60 []
noncomputable def Sn:=bZ Tryz.func61 []
noncomputable def Sp:=bZ Tryz.func71 []
noncomputable def Sq:=bZ Tryz.func73 []
noncomputable def Sr:=bZ Tryz.func74 []
noncomputable def Ss:=bZ Tryz.func75 []
noncomputable def St:=bZ Tryz.func76 [[],[[0],[1],[2],[3],[4],[6],[7],[9],[10],[11],[12],[5,10,7,6],[8,10]],[[0],[1],[2],[3],[4],[6],[7],[9],[10],[11],[12],[5,10,7,6],[8,10]]]
noncomputable def Su:=bZ Tryz.func78 [[[0],[2],[3],[4],[5],[8],[9],[10],[11],[1,11,10,5,4],[6,11,10],[7,11,10]]]
noncomputable def Sv:=bZ Tryz.func80 []
noncomputable def Sw:=bZ Tryz.func81 []
noncomputable def Sx:=bZ Tryz.func82 [[[0],[1],[2],[4],[5],[3,5,1]]]
noncomputable def Sy:=bZ Tryz.func83 [[[0],[1],[2],[3],[4],[6],[7],[8],[9],[10],[11],[12],[5,12,11,8]]]
noncomputable def Sz:=bZ Tryz.func84 [[[0],[1],[2],[3],[4],[5],[6],[7],[8,0]]]
noncomputable def SA:=bZ Tryz.func85 []
noncomputable def SB:=bZ Tryz.func87 []
noncomputable def SC:=bZ Tryz.func88 []
noncomputable def SD:=bZ Tryz.func89 []
noncomputable def SE:=bZ Tryz.func90 []
noncomputable def SF:=bZ Tryz.func91 []
noncomputable def SG:=bZ Tryz.func92 []
noncomputable def SH:=bZ Tryz.func93 []
noncomputable def SI:=bZ Tryz.func94 []
noncomputable def SJ:=bZ Tryz.func95 []
noncomputable def SK:=bZ Tryz.func96 []
noncomputable def QL:=bZ Tryz.func104 []
noncomputable def QM:=bZ Tryz.func105 []
noncomputable def QN:=aeF Tryz.func106 []
noncomputable def QO:=bZ Tryz.func107 []
noncomputable def QP:=bZ Tryz.func108 []
noncomputable def QQ:=bZ Tryz.func110 [[[0],[1],[2],[3],[4],[5],[6],[7],[8],[9],[10],[12],[13],[11,13]]]
noncomputable def QR:=bZ Tryz.func114 []
noncomputable def QS:=bZ Tryz.func117 []
noncomputable def QT:=bZ Tryz.func118 []
noncomputable def QU:=bZ Tryz.func119 []
noncomputable def QW:=bZ Tryz.func120 []
noncomputable def QX:=bZ Tryz.func121 []
noncomputable def QY:=bZ Tryz.func122 [[[0],[1],[2],[5],[6],[3,6],[4,6]]]
noncomputable def QZ:=bZ Tryz.func127 []
noncomputable def Q0:=bZ Tryz.func128 []
noncomputable def Q1:=bZ Tryz.func129 []
noncomputable def Q3:=bZ Tryz.func130 []
noncomputable def Q4:=bZ Tryz.func131 [[[0],[1],[3],[5],[6],[8],[9],[2,9],[4,9],[7,9]]]
noncomputable def Q5:=bZ Tryz.func132 []
noncomputable def Q6:=bZ Tryz.func133 []
noncomputable def Q7:=bZ Tryz.func134 []
noncomputable def Q8:=bZ Tryz.func135 []
noncomputable def Q9:=bZ Tryz.func137 []
noncomputable def Ra:=bZ Tryz.func140 []
noncomputable def Rb:=bZ Tryz.func141 []
noncomputable def Rc:=bZ Tryz.func142 []
noncomputable def Re:=bZ Tryz.func143 []
noncomputable def Rf:=bZ Tryz.func144 [[[0],[1],[2],[3],[4],[6],[7],[8],[9],[5,9,8]]]
noncomputable def Rg:=bZ Tryz.func146 [[[0],[1],[2],[3],[4],[5],[6],[10],[11],[12],[7,11],[8,11],[9]]]
noncomputable def Rh:=bZ Tryz.func147 [[[0],[1],[2],[3],[5],[6],[7],[9],[10],[11],[12],[4,12,11,7,0],[8,12,11,0]]]
noncomputable def Ri:=bZ Tryz.func148 []
noncomputable def Rj:=bZ Tryz.func149 []
noncomputable def Rk:=bZ Tryz.func157 []
noncomputable def Rl:=bZ Tryz.func158 []
noncomputable def Rm:=bZ Tryz.func164 []
noncomputable def Rn:=bZ Tryz.func165 []
noncomputable def Ro:=bZ Tryz.func166 []
noncomputable def Rp:=bZ Tryz.func167 []
noncomputable def Rq:=bZ Tryz.func168 []
noncomputable def Rr:=bZ Tryz.func169 []
noncomputable def Rs:=bZ Tryz.func170 []
noncomputable def Rt:=bZ Tryz.func171 []
noncomputable def Ru:=bZ Tryz.func172 []
noncomputable def Rv:=bZ Tryz.func173 []
noncomputable def Rw:=bZ Tryz.func175 []
noncomputable def Rx:=bZ Tryz.func176 []
noncomputable def Ry:=bZ Tryz.func177 []
noncomputable def Rz:=bZ Tryz.func178 []
noncomputable def RA:=bZ Tryz.func179 []
noncomputable def RB:=bZ Tryz.func180 []
noncomputable def RC:=bZ Tryz.func189 []
noncomputable def RE:=bZ Tryz.func190 []
noncomputable def RF:=bZ Tryz.func194 []
noncomputable def RG:=bZ Tryz.func195 []
noncomputable def RH:=bZ Tryz.func197 []
noncomputable def RI:=bZ Tryz.func198 []
noncomputable def RJ:=bZ Tryz.func199 []
noncomputable def RK:=bZ Tryz.func200 []
noncomputable def RL:=bZ Tryz.func201 []
noncomputable def RM:=bZ Tryz.func202 []
noncomputable def RN:=bZ Tryz.func203 []
noncomputable def RO:=bZ Tryz.func204 []
noncomputable def RP:=bZ Tryz.func205 []
noncomputable def RQ:=bZ Tryz.func206 []
noncomputable def RR:=bZ Tryz.func218 []
noncomputable def RS:=bZ Tryz.func219 []
noncomputable def RT:=bZ Tryz.func223 []
noncomputable def RU:=bZ Tryz.func224 []
noncomputable def RV:=bZ Tryz.func225 []
noncomputable def RW:=bZ Tryz.func235 []
noncomputable def RX:=bZ Tryz.func242 []
noncomputable def RY:=bZ Tryz.func243 []
noncomputable def RZ:=bZ Tryz.func244 []
noncomputable def R0:=bZ Tryz.func245 []
noncomputable def R1:=bZ Tryz.func246 []
noncomputable def R3:=bZ Tryz.func251 []
noncomputable def R4:=bZ Tryz.func261 []
noncomputable def Z3:cR (gg × List dy) :=(.node (.node (.node (.node (.node (.node (.node (.node .nil (some QZ.1) .nil) none .nil) (some R5.1) (.node .nil (some SJ.1) (.node .nil (some RT.1) .nil))) none (.node (.node (.node .nil (some Re.1) .nil) none .nil) none (.node (.node .nil (some Rw.1) .nil) none .nil))) none (.node (.node (.node (.node .nil (some Q8.1) .nil) (some Sp.1) (.node .nil (some RJ.1) .nil)) (some Sa.1) (.node (.node .nil (some Rp.1) .nil) none .nil)) none (.node (.node .nil (some SB.1) .nil) none (.node .nil (some QU.1) .nil)))) none (.node (.node (.node (.node (.node .nil (some Q4.1) .nil) none (.node .nil (some RG.1) .nil)) none .nil) (some RD.1) (.node (.node (.node .nil (some Rh.1) .nil) (some Sy.1) .nil) (some Si.1) (.node (.node .nil (some RA.1) .nil) none (.node .nil (some RY.1) .nil)))) none (.node (.node (.node .nil (some Ss.1) (.node .nil (some RN.1) .nil)) (some Se.1) (.node (.node .nil (some Rt.1) .nil) (some QO.1) (.node .nil (some RW.1) .nil))) none (.node (.node .nil (some SF.1) (.node .nil (some RS.1) .nil)) (some Sl.1) (.node .nil none (.node .nil (some R3.1) .nil)))))) none (.node (.node (.node (.node (.node (.node .nil (some Q1.1) .nil) none .nil) (some R7.1) (.node .nil none (.node .nil (some RV.1) .nil))) none (.node (.node .nil (some Sw.1) .nil) none (.node (.node .nil (some Ry.1) .nil) none .nil))) (some FZ.1) (.node (.node (.node (.node .nil (some Q9.1) .nil) (some Sq.1) (.node .nil (some RL.1) .nil)) (some Sc.1) (.node (.node .nil (some Rr.1) .nil) (some QM.1) .nil)) (some R2.1) (.node (.node .nil (some SD.1) .nil) none (.node .nil (some QX.1) .nil)))) none (.node (.node (.node (.node (.node (.node .nil (some R4.1) .nil) (some Q6.1) .nil) none (.node .nil (some RH.1) .nil)) (some R9.1) (.node (.node .nil (some Rn.1) .nil) none .nil)) none (.node (.node (.node .nil (some Rj.1) .nil) (some SA.1) .nil) none (.node .nil (some QS.1) (.node .nil (some R0.1) .nil)))) (some Q2.1) (.node (.node (.node (.node .nil (some Rb.1) .nil) none (.node .nil (some RP.1) .nil)) (some Sg.1) (.node (.node .nil (some Rv.1) .nil) none .nil)) none (.node (.node (.node .nil (some Rk.1) .nil) (some SH.1) .nil) (some Sn.1) (.node (.node .nil (some RC.1) .nil) none .nil)))))) none (.node (.node (.node (.node (.node (.node (.node .nil (some Q0.1) .nil) none .nil) (some R6.1) (.node .nil (some SK.1) (.node .nil (some RU.1) .nil))) none (.node (.node (.node .nil (some Rf.1) .nil) (some Sv.1) .nil) none (.node (.node .nil (some Rx.1) .nil) none .nil))) none (.node (.node (.node .nil none (.node .nil (some RK.1) .nil)) (some Sb.1) (.node (.node .nil (some Rq.1) .nil) (some QL.1) .nil)) none (.node (.node .nil (some SC.1) .nil) none (.node .nil (some QW.1) .nil)))) none (.node (.node (.node (.node (.node .nil (some Q5.1) .nil) none .nil) (some R8.1) (.node (.node .nil (some Rm.1) .nil) none .nil)) none (.node (.node (.node .nil (some Ri.1) .nil) (some Sz.1) .nil) (some Sj.1) (.node (.node .nil (some RB.1) .nil) none (.node .nil (some RZ.1) .nil)))) (some QV.1) (.node (.node (.node (.node .nil (some Ra.1) .nil) (some St.1) (.node .nil (some RO.1) .nil)) (some Sf.1) (.node (.node .nil (some Ru.1) .nil) (some QP.1) .nil)) none (.node (.node .nil (some SG.1) .nil) (some Sm.1) .nil)))) none (.node (.node (.node (.node (.node (.node .nil (some Q3.1) .nil) none (.node .nil (some RF.1) .nil)) none .nil) none (.node (.node (.node .nil (some Rg.1) .nil) (some Sx.1) .nil) none (.node (.node .nil (some Rz.1) .nil) (some QR.1) (.node .nil (some RX.1) .nil)))) none (.node (.node (.node .nil (some Sr.1) (.node .nil (some RM.1) .nil)) (some Sd.1) (.node (.node .nil (some Rs.1) .nil) (some QN.1) .nil)) none (.node (.node .nil (some SE.1) (.node .nil (some RR.1) .nil)) (some Sk.1) (.node .nil (some QY.1) .nil)))) none (.node (.node (.node (.node (.node .nil (some Q7.1) .nil) none (.node .nil (some RI.1) .nil)) none (.node (.node .nil (some Ro.1) .nil) none .nil)) none (.node .nil none (.node .nil (some QT.1) (.node .nil (some R1.1) .nil)))) none (.node (.node (.node (.node .nil (some Rc.1) .nil) (some Su.1) (.node .nil (some RQ.1) .nil)) none (.node .nil (some QQ.1) .nil)) none (.node (.node (.node .nil (some Rl.1) .nil) (some SI.1) .nil) none (.node (.node .nil (some RE.1) .nil) none .nil)))))))
theorem anP:p7 (FF Tryz.prog) Z3:=(dI (dI (dI (dI (dI (bX R5.2 (dI (bX QZ.2 bj bj) bj) (bX SJ.2 bj (bX RT.2 bj bj))) (dI (dI (bX Re.2 bj bj) bj) (dI (bX Rw.2 bj bj) bj))) (dI (bX Sa.2 (bX Sp.2 (bX Q8.2 bj bj) (bX RJ.2 bj bj)) (dI (bX Rp.2 bj bj) bj)) (dI (bX SB.2 bj bj) (bX QU.2 bj bj)))) (dI (bX RD.2 (dI (dI (bX Q4.2 bj bj) (bX RG.2 bj bj)) bj) (bX Si.2 (bX Sy.2 (bX Rh.2 bj bj) bj) (dI (bX RA.2 bj bj) (bX RY.2 bj bj)))) (dI (bX Se.2 (bX Ss.2 bj (bX RN.2 bj bj)) (bX QO.2 (bX Rt.2 bj bj) (bX RW.2 bj bj))) (bX Sl.2 (bX SF.2 bj (bX RS.2 bj bj)) (dI bj (bX R3.2 bj bj)))))) (dI (bX FZ.2 (dI (bX R7.2 (dI (bX Q1.2 bj bj) bj) (dI bj (bX RV.2 bj bj))) (dI (bX Sw.2 bj bj) (dI (bX Ry.2 bj bj) bj))) (bX R2.2 (bX Sc.2 (bX Sq.2 (bX Q9.2 bj bj) (bX RL.2 bj bj)) (bX QM.2 (bX Rr.2 bj bj) bj)) (dI (bX SD.2 bj bj) (bX QX.2 bj bj)))) (bX Q2.2 (dI (bX R9.2 (dI (bX Q6.2 (bX R4.2 bj bj) bj) (bX RH.2 bj bj)) (dI (bX Rn.2 bj bj) bj)) (dI (bX SA.2 (bX Rj.2 bj bj) bj) (bX QS.2 bj (bX R0.2 bj bj)))) (dI (bX Sg.2 (dI (bX Rb.2 bj bj) (bX RP.2 bj bj)) (dI (bX Rv.2 bj bj) bj)) (bX Sn.2 (bX SH.2 (bX Rk.2 bj bj) bj) (dI (bX RC.2 bj bj) bj)))))) (dI (dI (dI (dI (bX R6.2 (dI (bX Q0.2 bj bj) bj) (bX SK.2 bj (bX RU.2 bj bj))) (dI (bX Sv.2 (bX Rf.2 bj bj) bj) (dI (bX Rx.2 bj bj) bj))) (dI (bX Sb.2 (dI bj (bX RK.2 bj bj)) (bX QL.2 (bX Rq.2 bj bj) bj)) (dI (bX SC.2 bj bj) (bX QW.2 bj bj)))) (bX QV.2 (dI (bX R8.2 (dI (bX Q5.2 bj bj) bj) (dI (bX Rm.2 bj bj) bj)) (bX Sj.2 (bX Sz.2 (bX Ri.2 bj bj) bj) (dI (bX RB.2 bj bj) (bX RZ.2 bj bj)))) (dI (bX Sf.2 (bX St.2 (bX Ra.2 bj bj) (bX RO.2 bj bj)) (bX QP.2 (bX Ru.2 bj bj) bj)) (bX Sm.2 (bX SG.2 bj bj) bj)))) (dI (dI (dI (dI (dI (bX Q3.2 bj bj) (bX RF.2 bj bj)) bj) (dI (bX Sx.2 (bX Rg.2 bj bj) bj) (bX QR.2 (bX Rz.2 bj bj) (bX RX.2 bj bj)))) (dI (bX Sd.2 (bX Sr.2 bj (bX RM.2 bj bj)) (bX QN.2 (bX Rs.2 bj bj) bj)) (bX Sk.2 (bX SE.2 bj (bX RR.2 bj bj)) (bX QY.2 bj bj)))) (dI (dI (dI (dI (bX Q7.2 bj bj) (bX RI.2 bj bj)) (dI (bX Ro.2 bj bj) bj)) (dI bj (bX QT.2 bj (bX R1.2 bj bj)))) (dI (dI (bX Su.2 (bX Rc.2 bj bj) (bX RQ.2 bj bj)) (bX QQ.2 bj bj)) (dI (bX SI.2 (bX Rl.2 bj bj) bj) (dI (bX RE.2 bj bj) bj)))))))
theorem zN:Cp Tryz.prog (fun f=>Z3.get f) :=anO anP
end Go.cb

namespace Go.cb
open Go
namespace gT
abbrev W:=BitVec 32
abbrev B:=BitVec 8
def oy (x:W) (n:Nat) :W:=(x >>> n) ||| (x <<< (32 - n))
def p4 (l:List B) :W:=l.foldl (fun a x=>(a <<< 8) ||| x.setWidth 32) 0#32
def part (b:List B) (k t:Nat) :W:=p4 (((b.take k).drop (4*t)).take 4)
def fO (b:List B) :List W:=(List.range 16).map fun t=>p4 ((b.drop (4*t)).take 4)
def ext (w:List W) :W:=
 let t:=w.length
 let x:=w.getD (t - 15) 0#32
 let y:=w.getD (t - 2) 0#32
 w.getD (t - 16) 0#32+w.getD (t - 7) 0#32+(oy x 7 ^^^ oy x 18 ^^^ (x >>> 3))+(oy y 17 ^^^ oy y 19 ^^^ (y >>> 10))
def iS:Nat->List W->List W
 | 0,w=>w
 | n+1,w=>iS n (w++[ext w])
def fT (b:List B) :List W:=iS 48 (fO b)
def NF (x:W) (i j k:Nat) :W:=oy x i ^^^ oy x j ^^^ oy x k
structure cp where
 (a b c d e f g h:W)
def round (s:cp) (k w:W) :cp:=
 let p:=s.h+NF s.e 6 11 25+((s.e &&& s.f) ^^^ (~~~s.e &&& s.g))+k+w
 let q:=NF s.a 2 13 22+((s.a &&& s.b) ^^^ (s.a &&& s.c) ^^^ (s.b &&& s.c))
 ⟨p+q,s.a,s.b,s.c,s.d+p,s.e,s.f,s.g⟩
def rounds:cp->List W->List W->cp
 | s,k::bT,w::hn=>rounds (round s k w) bT hn
 | s,_,_=>s
def table:List Nat:=[0x428a2f98,0x71374491,0xb5c0fbcf,0xe9b5dba5,0x3956c25b,0x59f111f1,0x923f82a4,0xab1c5ed5,0xd807aa98,0x12835b01,0x243185be,0x550c7dc3,0x72be5d74,0x80deb1fe,0x9bdc06a7,0xc19bf174,0xe49b69c1,0xefbe4786,0x0fc19dc6,0x240ca1cc,0x2de92c6f,0x4a7484aa,0x5cb0a9dc,0x76f988da,0x983e5152,0xa831c66d,0xb00327c8,0xbf597fc7,0xc6e00bf3,0xd5a79147,0x06ca6351,0x14292967,0x27b70a85,0x2e1b2138,0x4d2c6dfc,0x53380d13,0x650a7354,0x766a0abb,0x81c2c92e,0x92722c85,0xa2bfe8a1,0xa81a664b,0xc24b8b70,0xc76c51a3,0xd192e819,0xd6990624,0xf40e3585,0x106aa070,0x19a4c116,0x1e376c08,0x2748774c,0x34b0bcb5,0x391c0cb3,0x4ed8aa4a,0x5b9cca4f,0x682e6ff3,0x748f82ee,0x78a5636f,0x84c87814,0x8cc70208,0x90befffa,0xa4506ceb,0xbef9a3f7,0xc67178f2]
def bT:List W:=table.map (BitVec.ofNat 32)
def grind (h:cp) (b:List B) :cp:=
 let v:=rounds h bT (fT b)
 ⟨h.a+v.a,h.b+v.b,h.c+v.c,h.d+v.d,h.e+v.e,h.f+v.f,h.g+v.g,h.h+v.h⟩
def J5:Nat->cp->List B->cp × List B
 | 0,h,b=>(h,b)
 | n+1,h,b=>if 64<=b.length then J5 n (grind h (b.take 64)) (b.drop 64) else (h,b)
def hK (h:cp) (b:List B) :cp × List B:=J5 (b.length / 64) h b
def first:cp:=⟨0x6a09e667#32,0xbb67ae85#32,0x3c6ef372#32,0xa54ff53a#32,0x510e527f#32,0x9b05688c#32,0x1f83d9ab#32,0x5be0cd19#32⟩
def CD (n:BitVec 64) :List B:=[(n >>> 56).setWidth 8,(n >>> 48).setWidth 8,(n >>> 40).setWidth 8,(n >>> 32).setWidth 8,(n >>> 24).setWidth 8,(n >>> 16).setWidth 8,(n >>> 8).setWidth 8,(n >>> 0).setWidth 8]
def tail (n:Nat) :List B:=128#8::List.replicate ((119 - n % 64) % 64) 0#8++CD (BitVec.ofNat 64 n*8#64)
def vQ (w:W) :List B:=[(w >>> 24).setWidth 8,(w >>> 16).setWidth 8,(w >>> 8).setWidth 8,w.setWidth 8]
def cp.l (s:cp) :List W:=[s.a,s.b,s.c,s.d,s.e,s.f,s.g,s.h]
def written (s:cp) :List B:=(s.l.map vQ).flatten
def ie (b:List B) :List B:=written (hK first (b++tail b.length)).1
theorem aoZ (l:List B) (x:B) :p4 (l++[x])=(p4 l <<< 8) ||| x.setWidth 32:=by simp[p4,ayi]
theorem yn:∀ (n:Nat) (w:List W),(iS n w).length=w.length+n
 | 0,w=>rfl
 | n+1,w=>by rw[iS,yn n]; simp; omega
theorem Fa (b:List B) :(fT b).length=64:=by rw[fT,yn]; simp[fO]
theorem Js (s:cp) :(written s).length=32:=rfl
theorem vJ (b:List B) :(ie b).length=32:=rfl
theorem KG:∀ (n:Nat) (w:List W),iS (n+1) w=iS n w++[ext (iS n w)]
 | 0,w=>rfl
 | n+1,w=>by rw[iS,KG n (w++[ext w])]; rfl
theorem I5 (a:W) (x:B) :(a <<< 8) ||| x.setWidth 32=a*256#32+x.setWidth 32:=by
 apply av6;have af:x.toNat<256:=x.isLt;have aA:=a.isLt;rw[BitVec.toNat_or,axV,ayQ,axM,av9];have h1:x.toNat % 2 ^ 32=x.toNat:=av4 (by omega);have ad:a.toNat <<< 8 % 2 ^ 32=(a.toNat % 2 ^ 24) <<< 8:=by rw[axw,axw]; omega
 have aj:=ayx (b:=x.toNat) (i:=8) (by omega) (a.toNat % 2 ^ 24);rw[h1,ad,<-aj,axw];have aE:(256#32).toNat=256:=rfl;rw[aE];omega
theorem Cz (h:cp) (b:List B) (ag:64<=b.length) :hK h b=hK (grind h (b.take 64)) (b.drop 64) :=by
 have:b.length / 64=(b.drop 64).length / 64+1:=by simp; omega
 rw[hK,this,J5,if_pos ag];rfl
theorem FV (h:cp) (b:List B) (ag:b.length<64) :hK h b=(h,b) :=by
 rw[hK,ayR ag]; rfl
theorem acg (h:cp) (b:List B) :(hK h b).2.length=b.length % 64:=by
 generalize aC:b.length=n
 induction n using Nat.strongRecOn generalizing h b with
 | _ n aJ=>
  rcases aw6 b.length 64 with h1 | h1
  ·rw[FV h b h1,av4 (by omega)]; exact aC
  ·rw[Cz h b h1,aJ (b.length - 64) (by omega) _ (b.drop 64) (by simp)];omega
theorem QB (h:cp) (a b:List B) :hK h (a++b)=hK (hK h a).1 ((hK h a).2++b) :=by
 generalize aC:a.length=n
 induction n using Nat.strongRecOn generalizing h a with
 | _ n aJ=>
  rcases aw6 a.length 64 with h1 | h1
  ·rw[FV h a h1]
  ·rw[Cz h a h1,Cz h (a++b) (by simp; omega),awg h1,awE h1];exact aJ (a.length - 64) (by omega) _ (a.drop 64) (by simp)
end gT

end Go.cb

namespace Go.cb
open Go Go.Proofs
def B4:List U:=gT.bT.map bD
def GS:Nat->U:=fun g=>match Nat.beq g 1 with | true=>.b3 B4 0 | false=>.bad
theorem bE:∀ g,(GS g).closed=true:=by
 intro g;unfold GS;split
 ·exact lS bD (fun _=>rfl) _
 ·rfl
@[simp]
theorem apu:GS 1=.b3 B4 0:=id rfl
theorem anM (i:Nat) (h:i<64) :B4[i]? = some (bD (gT.bT.getD i 0#32)) :=by
 have al:gT.bT.length=64:=rfl;unfold B4;rw[avV,awe,avS (by omega)];rfl
end Go.cb

namespace Go.cb
open Go Go.Proofs
set_option maxRecDepth 100000
namespace gT
def Oz (x:W) (k:Int) :W:=(x <<< (BitVec.ofInt 64 k &&& 31#64).toNat) ||| (x >>> (32#64 - (BitVec.ofInt 64 k &&& 31#64)).toNat)
theorem zI (x:W) (n:Nat) (aD:0<n) (h:n<32) :Oz x (-(n:Int))=oy x n:=by
 have h1:∀ n:Fin 32,0<n.val->(BitVec.ofInt 64 (-(n.val:Int)) &&& 31#64)=BitVec.ofNat 64 (32 - n.val) :=by decide
 have ad:=h1 ⟨n,h⟩ aD;simp only at ad;unfold Oz oy;rw[ad,BitVec.or_comm];congr 2
 ·have:∀ n:Fin 32,0<n.val->(32#64 - BitVec.ofNat 64 (32 - n.val)).toNat=n.val:=by decide
  exact this ⟨n,h⟩ aD
 ·have:∀ n:Fin 32,0<n.val->(BitVec.ofNat 64 (32 - n.val)).toNat=32 - n.val:=by decide
  exact this ⟨n,h⟩ aD
theorem zH (x:W) (k:Int) :bz Tryz.prog GS 267 [bD x,.int .i64 k] (bD (Oz x k)) :=by
 refine bL Tryz.checked.mixed bE ?_;apply bp Tryz.func267 [];simp;exact aL rfl rfl
theorem Xz (x:W) (i j k:Nat) (av:0<i/\i<32) (ai:0<j/\j<32) (hk:0<k/\k<32) :bz Tryz.prog GS 266 [bD x,.int .i64 i,.int .i64 j,.int .i64 k] (bD (NF x i j k)) :=by
 refine bL Tryz.checked.mixed bE ?_;apply bp Tryz.func266 [];have aC:∀ n:Nat,n<32->IntKind.i64.wrap (-(n:Int))=-(n:Int) :=fun n aC=>wrap_i64 (by omega) (by omega)
 simp[aC i av.2];refine a6 (zH x _) rfl ?_;simp[aC j ai.2];refine a6 (zH x _) rfl ?_;simp[aC k hk.2];refine a6 (zH x _) rfl ?_;simp[zI x _ av.1 av.2,zI x _ ai.1 ai.2,zI x _ hk.1 hk.2];exact aL rfl rfl
def ch (x:B) :List U:=[bF x]
abbrev fa:=cQ B
abbrev cS (s:fa) :U:=cB 1 ch s
theorem m9 (s:fa) :(cS s).closed=true:=ws (fun _=>rfl) s
def p5 (b:List B) (k:Nat) :List W:=((List.range 16).map fun t=>p4 (((b.take k).drop (4*t)).take 4))++List.replicate 48 0#32
theorem aaF (b:List B) (k:Nat) :(p5 b k).length=64:=by simp[p5]
theorem apc (b:List B) :p5 b 0=List.replicate 64 0#32:=by simp[p5,p4]; rfl
theorem PF (b:List B) (k t:Nat) (aI:t<16) :(p5 b k)[t]? = some (p4 (((b.take k).drop (4*t)).take 4)) :=by
 unfold p5;rw[avQ (by simpa using aI),avV,awr aI];rfl
theorem apb (b:List B) (k:Nat) (hk:k<64) (ag:k<b.length) (x:B) (af:b[k]? = some x) :
  (p5 b k).set (k / 4) ((p4 (((b.take k).drop (4*(k / 4))).take 4) <<< 8) ||| x.setWidth 32)=p5 b (k+1) :=by
 apply awM;intro t;rw[axi,aaF];have Wy:b.take (k+1)=b.take k++[x] :=by rw[av7,af]; rfl
 have bn:(b.take k).length=k:=by simp; omega
 by_cases aI:t<16
 ·rw[PF b _ t aI,PF b _ t aI];by_cases h:k / 4=t
  ·rw[if_pos h,if_pos (by omega),<-aoZ,Wy,h];congr 2;rw[awE (by omega)];obtain⟨A,cN⟩:∃ A,A=List.drop (4*t) (List.take k b) :=⟨_,rfl⟩
   have j3:A.length<4:=by rw[cN]; simp; omega
   rw[<-cN,avO (by omega),avO (by simp; omega)]
  ·rw[if_neg h,Wy];congr 2;rcases aw6 k (4*t) with h1 | h1
   ·rw[awB (by omega),awB (by simp; omega)]
   ·rw[awE (by omega),awg (by simp; omega)]
 ·rw[if_neg (by omega)];unfold p5;rw[av2 (by simp; omega),av2 (by simp; omega)];simp
theorem apa (b:List B) (ag:64<=b.length) :p5 b 64=fO b++List.replicate 48 0#32:=by
 unfold p5 fO;congr 1;apply axr;intro t aI;have:=aws.1 aI;congr 1;rw[ayh,axd,awQ (by omega)]
def q9 (b:List B) (k:Nat) :List W:=iS k (fO b)++List.replicate (48 - k) 0#32
theorem amE (b:List B) (k:Nat) (hk:k<=48) :(q9 b k).length=64:=by simp[q9,yn,fO]; omega
theorem I4 (b:List B) (k i:Nat) (av:i<16+k) :(q9 b k)[i]? = some ((iS k (fO b)).getD i 0#32) :=by
 unfold q9;have al:(iS k (fO b)).length=16+k:=by simp[yn,fO]
 rw[avQ (by omega),awe,avS (by omega)];rfl
theorem amF (b:List B) (k:Nat) (hk:k<48) :(q9 b k).set (16+k) (ext (iS k (fO b)))=q9 b (k+1) :=by
 have al:(iS k (fO b)).length=16+k:=by simp[yn,fO]
 unfold q9;rw[awz _ _ (by omega),al,axX,show 48 - k=(48 - (k+1))+1 by omega,awV,axy,KG];simp
set_option maxHeartbeats 4000000 in
theorem amH (b:List B) (ag:64<=b.length) :bz Tryz.prog GS 265 [cS (some b)] (.aH ((fT b).map bD)) :=by
 refine bL Tryz.checked.mixed bE ?_;apply bp Tryz.func265 [];have ef:fG (.ar 1) (cS (some b)) none (some (.int .i64 64)) none=some (cS (some (b.take 64))) :=by
  unfold cS; rw[OX (by omega) (by omega)]; rfl
 have pE:min 64 b.length=64:=by omega
 simp[ef,pE];refine cI 64 (fun k ae l=>ae 2=.ptr 0 0 64/\ae 11=cS (some (b.take 64))/\ae 12=.int .i64 64/\ae 13=.int .i64 k/\l=[.cells 64 ((p5 b k).map bD)]) ?_ ?_
 ·rintro k ae l hk ⟨aU,ip,gX,kx,rfl⟩;obtain⟨ae,rfl⟩:=i0 aU ip gX kx;clear aU ip gX kx;simp;by_cases h:(k:Int)<64
  ·obtain⟨x,af⟩:∃ x,b[k]? = some x:=⟨_,avS (by omega)⟩
   have D9:(b.take 64)[k]? = some x:=by rw[awb (by omega)]; exact af
   have bN:ck (.ar 1) (cS (some (b.take 64))) (.int .i64 k)=some (.b3 (ch x) 0) :=by simp[cS,r1,D9]
   obtain⟨q,Bc⟩:∃ q,q=k / 4:=⟨_,rfl⟩
   have aW:cD .quo .i64 (k:Int) .i64 4=some (.int .i64 (q:Int)) :=by rw[Bc]; exact J7 k 4 (by omega) (by omega)
   have fB:IntKind.i64.wrap ((k:Int)+1)=k+1:=wrap_i64 (by omega) (by omega);have aM:(q:Int)<64:=by omega
   have aq:=PF b k q (by omega);have ak:=pa bD (p5 b k) q (((p4 (((b.take k).drop (4*q)).take 4) <<< 8) ||| x.setWidth 32)) (by rw[aaF]; omega);rw[Bc,apb b k (by omega) (by omega) x af,<-Bc] at ak;have dw:q+1<=64:=by omega
   simp[h,bN,ch,aW,aM,aq,dw,fB,ak];omega
  ·have yQ:k=64:=by omega
   subst yQ;simp;refine cI 48 (fun j ae l=>ae 2=.ptr 0 0 64/\ae 5=.int .i64 (16+j:Nat)/\l=[.cells 64 ((q9 b j).map bD)]) ?_ ?_
   ·rintro j ae l ai ⟨aU,bi,rfl⟩;obtain⟨ae,rfl⟩:=p2 aU bi;clear aU bi;obtain⟨t,aI⟩:∃ t,t=16+j:=⟨_,rfl⟩
    rw[<-aI];simp;by_cases h:(t:Int)<64
    ·have j9:IntKind.i64.wrap ((t:Int)+1)=(t+1:Nat) :=wrap_i64 (by omega) (by omega);have Jm:IntKind.i64.wrap ((t:Int) - 15)=(t - 15:Nat) :=by rw[wrap_i64 (by omega) (by omega)]; omega
     have w2:IntKind.i64.wrap ((t:Int) - 2)=(t - 2:Nat) :=by rw[wrap_i64 (by omega) (by omega)]; omega
     have Jn:IntKind.i64.wrap ((t:Int) - 16)=(t - 16:Nat) :=by rw[wrap_i64 (by omega) (by omega)]; omega
     have Fv:IntKind.i64.wrap ((t:Int) - 7)=(t - 7:Nat) :=by rw[wrap_i64 (by omega) (by omega)]; omega
     have al:(iS j (fO b)).length=t:=by simp[yn,fO]; omega
     have s5:=I4 b j (t - 15) (by omega);have aU:=I4 b j (t - 2) (by omega);have qp:=I4 b j (t - 16) (by omega);have dk:=I4 b j (t - 7) (by omega);have ak:=pa bD (q9 b j) t (ext (iS j (fO b))) (by rw[amE b j (by omega)]; omega);rw[aI,amF b j (by omega),<-aI] at ak;unfold ext at ak;rw[al] at ak
     dsimp only at ak
     obtain⟨xb,Kx⟩:∃ i,i=t - 15:=⟨_,rfl⟩
     obtain⟨e9,bJ⟩:∃ i,i=t - 2:=⟨_,rfl⟩
     obtain⟨xc,Gc⟩:∃ i,i=t - 16:=⟨_,rfl⟩
     obtain⟨jO,Ky⟩:∃ i,i=t - 7:=⟨_,rfl⟩
     rw[<-Kx] at Jm s5 ak;rw[<-bJ] at w2 aU ak;rw[<-Gc] at Jn qp ak;rw[<-Ky] at Fv dk ak;have JY:(xb:Int)<64:=by omega
     have df:(e9:Int)<64:=by omega
     have JZ:(xc:Int)<64:=by omega
     have uy:(jO:Int)<64:=by omega
     have dw:t+1<=64:=by omega
     generalize (iS j (fO b)).getD xb 0#32=x at s5 ak;generalize (iS j (fO b)).getD e9 0#32=y at aU ak;generalize (iS j (fO b)).getD xc 0#32=PG at qp ak;generalize (iS j (fO b)).getD jO 0#32=PH at dk ak;have xB:=zI x 7 (by omega) (by omega);have YD:=zI x 18 (by omega) (by omega);have YC:=zI y 17 (by omega) (by omega);have YE:=zI y 19 (by omega) (by omega);simp at xB YD YC YE;simp[h,Jm,w2,s5,aU,JY,df];refine a6 (zH _ _) rfl ?_;simp;refine a6 (zH _ _) rfl ?_;simp;refine a6 (zH _ _) rfl ?_;simp;refine a6 (zH _ _) rfl ?_;simp[xB,YD,YC,YE,Jn,Fv,qp,dk,JZ,uy,h,ak,j9,dw];omega
    ·have agW:j=48:=by omega
     have ah3:q9 b 48=fT b:=by simp[q9,fT]
     subst agW;have DM:=Fa b;rw[ah3];simp[h,DM,oD,avO];exact aL rfl (SY bD (fun _=>rfl) _)
   ·simp[q9,iS,apa b ag]
 ·simp[apc,Y4 _ 32]
theorem ao8 (b:List B) (n:Nat) (aC:64<=n) :fO (b.take n)=fO b:=by
 unfold fO;apply axr;intro t aI;have:=aws.1 aI;congr 1;rw[ayh,axd,awQ (by omega)]
theorem amG (b:List B) (n:Nat) (aC:64<=n) :fT (b.take n)=fT b:=by unfold fT; rw[ao8 b n aC]
theorem rounds_succ:∀ (k:Nat) (s:cp) (a b:List W) (x y:W),a[k]? = some x->b[k]? = some y->rounds s (a.take (k+1)) (b.take (k+1))=round (rounds s (a.take k) (b.take k)) x y
 | 0,s,a,b,x,y,aA,ag=>by
  cases a with
  | nil=>simp at aA
  | cons a P4=>
   cases b with
   | nil=>simp at ag
   | cons b bs=>simp at aA ag; subst aA ag; simp[rounds]
 | k+1,s,a,b,x,y,aA,ag=>by
  cases a with
  | nil=>simp at aA
  | cons a P4=>
   cases b with
   | nil=>simp at ag
   | cons b bs=>
    simp only[List.take_succ_cons,rounds];exact rounds_succ k _ P4 bs x y (by simpa using aA) (by simpa using ag)
def ny (h:cp) (b:List B) (k:Nat) :cp:=rounds h (bT.take k) ((fT b).take k)
theorem YH (h:cp) (b:List B) :ny h b 0=h:=rfl
theorem YG (h:cp) (b:List B) (k:Nat) (hk:k<64) :ny h b (k+1)=round (ny h b k) (bT.getD k 0#32) ((fT b).getD k 0#32) :=by
 have h1:bT.length=64:=rfl;have ad:=Fa b;refine rounds_succ k h bT (fT b) _ _ ?_ ?_
 ·rw[awe,avS (by omega)]; rfl
 ·rw[awe,avS (by omega)]; rfl
theorem YF (h:cp) (b:List B) :ny h b 64=rounds h bT (fT b) :=by
 have h1:bT.length=64:=rfl;have ad:=Fa b;unfold ny;rw[avO (by omega),avO (by omega)]
def i3 (a b:List W) (k:Nat) :List W:=(List.zipWith (·+·) a b).take k++a.drop k
theorem PY (a b:List W) :i3 a b 0=a:=rfl
theorem JM {a b:List W} (h:a.length=b.length) (k:Nat) :(i3 a b k).length=a.length:=by simp[i3]; omega
theorem PW {a b:List W} (h:a.length=b.length) {k:Nat} (hk:k<a.length) :(i3 a b k)[k]? = a[k]?:=by
 unfold i3;rw[av2 (by simp; omega)];have:(List.take k (List.zipWith (·+·) a b)).length=k:=by simp; omega
 rw[this,awv]; simp
theorem PX {a b:List W} (h:a.length=b.length) {k:Nat} {x y:W} (af:a[k]? = some x) (ax:b[k]? = some y) :(i3 a b k).set k (x+y)=i3 a b (k+1) :=by
 have hk:=(avP.1 af).1;unfold i3;have al:(List.take k (List.zipWith (·+·) a b)).length=k:=by simp; omega
 have aw:(List.zipWith (·+·) a b)[k]? = some (x+y) :=by rw[List.getElem?_zipWith,af,ax]
 rw[awz _ _ (by omega),al,axX,awS hk,axy,av7,aw];simp
set_option maxHeartbeats 8000000 in
theorem aeO {h:cp} {b:List B} (ag:64<=b.length) {l:am} {bk sz:Nat} {rest:List U} {x:U} {K:U->am->Prop} (al:l[bk]? = some (.cells sz (h.l.map bD++rest))) (hh:8<=sz) (af:gh (bW l) x (cS (some b)))
  (aY:∀ junk,K (.bG []) (l.set bk (.cells sz ((grind h b).l.map bD++rest))++junk)) :c7 Tryz.prog GS 258 [.ptr bk 0 sz,x] l (c:=⟨K⟩) :=by
 apply bp Tryz.func258 [[],[[0],[1],[4],[5],[6],[7],[8],[9],[10],[11],[13],[14],[15],[17],[18],[19],[2,19,15],[3],[12],[16]]];simp;refine iB (amH b ag) (.cons af .nil) (TP bD (fun _=>rfl) _) ?_;have aC:=eu al;have ef:=Fa b;have hR:(l++[a7.cells 64 ((fT b).map bD)])[bk]? = some (.cells sz (h.l.map bD++rest)) :=by rw[avQ aC]; exact al
 have aq:∀ i (y:W),i<8->h.l[i]? = some y->(h.l.map bD++rest)[i]? = some (bD y) :=fun i y av ax=>by
  rw[avQ (by simpa [cp.l] using av),avV,ax]; rfl
 have dV:=aq 0 h.a (by omega) rfl;have q1:=aq 1 h.b (by omega) rfl;have ft:=aq 2 h.c (by omega) rfl;have iY:=aq 3 h.d (by omega) rfl;have Yz:=aq 4 h.e (by omega) rfl;have EW:=aq 5 h.f (by omega) rfl;have BN:=aq 6 h.g (by omega) rfl;have YA:=aq 7 h.h (by omega) rfl;simp[oD,ef,hR,dV,q1,ft,iY,Yz,EW,BN,YA];refine cI 64 (fun k ae l'=>ae 0=.ptr bk 0 sz/\ae 4=.ptr l.length 0 64/\ae 5=bD (ny h b k).a/\ae 6=bD (ny h b k).b/\ae 7=bD (ny h b k).c/\ae 8=bD (ny h b k).d/\ae 9=bD (ny h b k).e/\ae 10=bD (ny h b k).f/\ae 11=bD (ny h b k).g/\ae 12=bD (ny h b k).h/\ae 52=.int .i64 k ∧
  l'=l++[.cells 64 ((fT b).map bD)]) ?_ ?_
 ·rintro k ae l' hk ⟨cf,bA,bi,b8,dk,dj,gJ,fI,ip,gX,Uf,rfl⟩;obtain⟨ae,rfl⟩:=aam cf bA bi b8 dk dj gJ fI ip gX Uf;clear cf bA bi b8 dk dj gJ fI ip gX Uf;simp;by_cases fe:(k:Int)<64
  ·have fB:IntKind.i64.wrap ((k:Int)+1)=k+1:=wrap_i64 (by omega) (by omega);have gj:k<64:=by omega
   have aI:=anM k gj;have ha:(fT b)[k]? = some ((fT b).getD k 0#32) :=by rw[awe,avS (by omega)]; rfl
   rw[YG h b k gj];generalize (fT b).getD k 0#32=lm at *
   generalize bT.getD k 0#32=nt at *
   generalize ny h b k=s at *
   have kE:=Xz s.e 6 11 25 (by omega) (by omega) (by omega);have kf:=Xz s.a 2 13 22 (by omega) (by omega) (by omega);simp at kE kf;simp[fe,aI,ha];refine a6 kE rfl ?_;simp[aI,ha];refine a6 kf rfl ?_;simp[gj,fB];simp[round]
  ·have yQ:k=64:=by omega
   subst yQ;rw[YF];obtain⟨v,au⟩:∃ v,rounds h bT (fT b)=v:=⟨_,rfl⟩
   rw[au];have yO:grind h b=⟨h.a+v.a,h.b+v.b,h.c+v.c,h.d+v.d,h.e+v.e,h.f+v.f,h.g+v.g,h.h+v.h⟩:=by unfold grind; rw[au]
   simp;have l2:h.l.length=v.l.length:=rfl;have oV:h.l.length=8:=rfl;have LU:(grind h b).l=i3 h.l v.l 8:=by rw[yO]; rfl
   rw[LU] at aY;refine cI 8 (fun k ae l'=>ae 0=.ptr bk 0 sz/\ae 111=.aH (v.l.map bD)/\ae 112=.int .i64 k/\l'=l.set bk (.cells sz ((i3 h.l v.l k).map bD++rest))++[.cells 64 ((fT b).map bD)]) ?_ ?_
   ·rintro k ae l' hk ⟨cf,T9,Ua,rfl⟩;obtain⟨ae,rfl⟩:=kj cf T9 Ua;clear cf T9 Ua;simp;by_cases fe:(k:Int)<8
    ·have fB:IntKind.i64.wrap ((k:Int)+1)=k+1:=wrap_i64 (by omega) (by omega);have iu:k<8:=by omega
     obtain⟨y,ax⟩:∃ y,v.l[k]? = some y:=⟨_,avS (show k<v.l.length from iu)⟩
     obtain⟨z,aw⟩:∃ z,h.l[k]? = some z:=⟨_,avS (show k<h.l.length from iu)⟩
     have aA:=PW l2 (k:=k) (by rw[oV]; exact iu);rw[aw] at aA;have gB:=JM l2 k;have ak:=pa bD (i3 h.l v.l k) k (z+y) (by rw[gB,oV]; exact iu);rw[PX l2 aw ax] at ak;have mO:((i3 h.l v.l k).map bD).length=8:=by rw[av8,gB,oV]
     have jg:bt ((i3 h.l v.l k).map bD++rest) k [bD (z+y)]=(i3 h.l v.l (k+1)).map bD++rest:=by
      rw[<-ak];unfold bt;rw[awg (by omega),awE (by simp; omega)];simp
     have l0:((i3 h.l v.l k).map bD++rest)[k]? = some (bD z) :=by rw[avQ (by omega),avV,aA]; rfl
     have pD:(l.set bk (.cells sz ((i3 h.l v.l k).map bD++rest))++[a7.cells 64 ((fT b).map bD)])[bk]? = some (.cells sz ((i3 h.l v.l k).map bD++rest)) :=by
      rw[avQ (by simpa using aC),axi]; simp[aC]
     have th:k+1<=sz:=by omega
     simp[fe,ax,l0,pD,fB,jg,iu,th,aC,List.set_append]
    ·have iu:k=8:=by omega
     subst iu;simp;exact aY _
   ·have mS:l.set bk (.cells sz ((i3 h.l v.l 0).map bD++rest))=l:=by
     rw[PY]; exact amM al
    rw[mS];simp[cp.l]
 ·simp[YH]
abbrev nW (ls:cQ fa) :U:=cB 1 (fun s=>[cS s]) ls
theorem SX (ls:cQ fa) :(nW ls).closed=true:=ws (fun s=>by simp only[bd,m9,axP]) ls
def bytesOf (ls:List fa) :List B:=(ls.map cQ.l).flatten
theorem bytesOf_take (ls:List fa) (k:Nat) (s:fa) (h:ls[k]? = some s) :bytesOf (ls.take (k+1))=bytesOf (ls.take k)++s.l:=by
 unfold bytesOf;rw[av7,h]; simp
theorem QK (ls:List fa) (k:Nat) :(bytesOf (ls.take k)).length<=(bytesOf ls).length:=by
 conv=>rhs; rw[<-awy k ls]
 unfold bytesOf;rw[awm,awC,avW];omega
theorem aeS {n:Nat} (aC:n<=1000000000) {l:am} {K:U->am->Prop} (aY:∀ v j l',bH 1 l' v j []->l.length<=l'.length->(∀ b,b<l.length->l'[b]? = l[b]?)->(cw v=decide (n=0))->K v l') :c7 Tryz.prog GS 235 [.aT,.int .i64 n] l (c:=⟨K⟩) :=by
 apply bp Tryz.func235 [];have h1:¬((n:Int)<0) :=by omega
 have hw:IntKind.i64.wrap (n:Int)=n:=wrap_i64 (by omega) (by omega);have MS:IntKind.i64.wrap (0:Int)=0:=rfl;by_cases aD:n=0
 ·subst aD;simp;exact aY _ 0 _ (.nil 0) (avR _) (fun _ _=>rfl) rfl
 have ad:(0:Int)<n:=by omega
 have aw:rx l 1 1 [.int .u8 0] .aT (.int .i64 n)=some (.ar 1 l.length 0 n n (n*1),l++[.cells (n*1) (dN [.int .u8 0] n)]) :=by
  unfold rx hJ;simp only[awZ];have az:cy=140737488355328:=rfl;rw[if_pos ⟨by omega,by omega,by rw[az]; omega⟩,if_neg aD,if_neg (by omega),if_pos (by rw[az]; omega)]
 have ak:fG (.ar 1) (.ar 1 l.length 0 n n (n*1)) none (some (.int .i64 0)) none=some (.ar 1 l.length 0 0 n (n*1)) :=by
  rw[zJ,J6,if_pos ⟨by omega,by omega⟩];simp[aD]
 rw[axn] at aw ak;have aj:0<n:=by omega
 simp[h1,ad,aj,hw,aw,MS,ak];refine aY _ l.length (l++[.cells n (dN [.int .u8 0] n)]) (.ar _ 0 n n (dN [.int .u8 0] n) [] (by simp) (by rw[BS]; simp) rfl (by simp) (by omega) (by omega) rfl) (by simp) (fun b ag=>avQ ag) ?_;simp[cw,aD]
def Am (ls:List fa) :fa:=if bytesOf ls=[] then none else some (bytesOf ls)
theorem acG (ls:List fa) :(Am ls).l=bytesOf ls:=by unfold Am; split<;>simp_all
set_option maxHeartbeats 4000000 in
theorem ac5 (ls:List fa) (al:(bytesOf ls).length<=1000000000) (DO:ls.length<=1000000000) :jZ Tryz.prog GS 194 [nW (some ls)] (cS (Am ls)) :=by
 refine BL Tryz.checked.mixed bE ?_;apply bp Tryz.func194 [];simp;have bN:∀ (k:Nat) (s:fa),ls[k]? = some s->ck (.ar 1) (nW (some ls)) (.int .i64 k)=some (.b3 [cS s] 0) :=fun k s ak=>by simp[nW,r1,ak]
 refine cI ls.length (fun k ae l=>ae 0=nW (some ls)/\ae 9=nW (some ls)/\ae 10=.int .i64 ls.length/\ae 11=.int .i64 k/\ae 3=.int .i64 (bytesOf (ls.take k)).length/\l=[]) ?_ ?_
 ·rintro k ae l hk ⟨cf,gJ,fI,ip,a8,rfl⟩;obtain⟨ae,rfl⟩:=lj cf a8 gJ fI ip;clear cf a8 gJ fI ip;simp;by_cases h:k<ls.length
  ·obtain⟨s,ak,_⟩:=bx h;have ag:=bytesOf_take ls k s ak;have dw:=QK ls (k+1);rw[ag,avW] at dw;have hw:IntKind.i64.wrap (((bytesOf (ls.take k)).length:Int)+s.l.length)=((bytesOf (ls.take k)).length:Int)+s.l.length:=wrap_i64 (by omega) (by omega);have fB:IntKind.i64.wrap ((k:Int)+1)=k+1:=wrap_i64 (by omega) (by omega);have oh:¬(((bytesOf (ls.take k)).length:Int)+s.l.length<0) :=by omega
   simp[h,bN k s ak,hw,oh,fB,ag]
  ·have cq:k=ls.length:=by omega
   subst cq;simp;refine aeS al ?_;intro v j l ap bn _ gQ;simp;refine cI ls.length (fun k ae l=>ae 25=nW (some ls)/\ae 26=.int .i64 ls.length/\ae 27=.int .i64 k/\∃ v j,ae 6=v/\bH 1 l v j ((bytesOf (ls.take k)).map ch)/\cw v=decide (bytesOf ls=[])) ?_ ?_
   ·rintro k ae l hk ⟨kR,mE,s8,v,j,b8,ap,gQ⟩;obtain⟨ae,rfl⟩:=i0 b8 kR mE s8;clear b8 kR mE s8;simp;by_cases h:k<ls.length
    ·obtain⟨s,ak,_⟩:=bx h;have ag:=bytesOf_take ls k s ak;have dw:=QK ls (k+1);rw[ag,avW] at dw;have fB:IntKind.i64.wrap ((k:Int)+1)=k+1:=wrap_i64 (by omega) (by omega);have az:cy=140737488355328:=rfl;obtain⟨aZ,bl,l',h1,ad,aj,aE,aX,bw⟩:=pl (by_:=1) ap (x:=cS s) (xs:=s.l.map ch) (by simp[cS]) (fun e ao=>by obtain⟨x,_,rfl⟩:=awf.1 ao; rfl) (by omega) (by omega) (by simp; omega);simp[h,bN k s ak,h1];refine dp.cx ?_;simp[h,fB];refine⟨⟨bl,by rw[ag,awm]; exact ad⟩,?_⟩;rw[vk bw,gQ];by_cases ao:bytesOf ls=[]
     ·have aD:(bytesOf ls).length=0:=by rw[ao]; rfl
      have:s.l=[] :=awt.1 (by omega);simp[ao,this]
     ·simp[ao]
    ·have cq:k=ls.length:=by omega
     subst cq;simp;rw[awi] at ap;refine ap.E1 (fun _=>rfl) _ ?_ (acG ls);rw[gQ];unfold Am;split<;>simp_all
   ·simp;refine⟨⟨j,by simpa [bytesOf] using ap⟩,?_⟩;rw[gQ];simp[awt]
 ·simp[bytesOf]
theorem acS (s:cQ B) :gH Tryz.prog .eql 136 (cB 1 ch s) .aT=some (.bool s.isNone) :=FS (e:=5) (by kernel_rfl) 1 ch s
theorem acT {s:cQ B} (ak:s.l.length<=1000000000) {l:am} {K:U->am->Prop} (aY:∀ v j l',bH 1 l' v j (s.l.map ch)->l.length<=l'.length->(∀ b,b<l.length->l'[b]? = l[b]?)->(v=.aT\/l.length<=j)->cw v=s.isNone->K v l') :c7 Tryz.prog GS 259 [cB 1 ch s] l (c:=⟨K⟩) :=by
 apply bp Tryz.func259 [];simp[acS];cases s with
 | none=>
  simp;exact aY _ 0 _ (.nil 0) (avR _) (fun _ _=>rfl) (.inl rfl) rfl
 | some b=>
  simp;have az:cy=140737488355328:=rfl;have tn:b.length<=1000000000:=ak;have ap:bH 1 (l++[a7.cells 0 []]) (.ar 1 l.length 0 0 0 0) l.length [] :=.ar l.length 0 0 0 [] [] (by simp) rfl rfl (by simp) (avR _) (by omega) rfl;obtain⟨aZ,bl,l',h1,ad,aj,aE,aX,bw⟩:=pl (by_:=1) ap (x:=cB 1 ch (some b)) (xs:=b.map ch) (by simp) (fun e ao=>by obtain⟨x,_,rfl⟩:=awf.1 ao; rfl) (by omega) (by omega) (by simp; omega);simp[h1];refine dp.cx ?_;simp;have wN:l.length+1<=l'.length:=by simpa using aj
  refine aY _ bl _ ad (by omega) (fun b ag=>?_) (.inr (by rcases aX with h | h<;>(try simp only[avW,awa,awu] at h)<;>omega)) ?_
  ·rw[aE b (by simp; omega) (by omega),avQ ag]
  ·rw[vk bw]; rfl
structure ul where
 st:cp
 rest:fa
 n:Int
def g4 (s:cp) (r:U) (n:Int) :List U:=s.l.map bD++[r,.int .i64 n]
def rD (m:ul) :U:=.aH (g4 m.st (cS m.rest) m.n)
def uJ (m:ul) (b:fa) :ul:=
 let all:=m.rest.l++b.l
 ⟨(hK m.st all).1,if all=[] then none else some (hK m.st all).2,m.n+b.l.length⟩
theorem acH (a b:fa) :Am [a,b]=if a.l++b.l=[] then none else some (a.l++b.l) :=by
 have:bytesOf [a,b]=a.l++b.l:=by simp[bytesOf]
 unfold Am;rw[this]
theorem aeP (h:cp) (b:List B) :grind h (b.take 64)=grind h b:=by unfold grind; rw[amG b 64 (by omega)]
theorem xp (s:cp) (r:U) (n:Int) :(g4 s r n).length=10:=rfl
set_option maxHeartbeats 8000000 in
theorem TC (m:ul) (b:fa) (al:m.rest.l.length+b.l.length<=1000000000) (aC:0<=m.n) (oX:m.n<=1000000000) :jZ Tryz.prog GS 239 [rD m,cS b] (rD (uJ m b)) :=by
 refine BL Tryz.checked.mixed bE ?_;apply bp Tryz.func239 [[[0],[1],[2],[3],[4],[5],[6,1]]];have ah:(U.aH (g4 m.st (cS m.rest) m.n)).cells=some (g4 m.st (cS m.rest) m.n) :=rfl;have dZ:(g4 m.st (cS m.rest) m.n)[8]? = some (cS m.rest) :=rfl;have U5:=ac5 [m.rest,b] (by simp[bytesOf]; exact al) (by simp);rw[acH] at U5;simp[rD,xp,dZ];refine Yq U5 (.cons ?_ .nil) ?_
 ·exact EZ (es:=[[cS m.rest],[cS b]]) (rest:=[]) rfl rfl (by simp) (by simp[bd,m9])
 obtain⟨all,eQ⟩:∃ all,all=m.rest.l++b.l:=⟨_,rfl⟩
 have gB:all.length<=1000000000:=by rw[eQ]; simpa using al
 rw[<-eQ];simp;refine cI (all.length / 64) (fun k ae l=>ae 1=cS b/\ae 2=.ptr 0 0 10/\ae 4=.ptr 1 0 10/\∃ h s ho junk,ae 5=cS s/\l=.cells 10 (g4 h (cS m.rest) m.n) ::.cells 10 ho::junk/\hK m.st all=hK h s.l/\s.l.length=all.length - 64*k/\ho.length=10/\s.isNone=decide (all=[])) ?_ ?_
 ·rintro k ae l hk ⟨aP,aU,bA,h,s,ho,junk,bi,rfl,eU,ej,qW,V1⟩;obtain⟨ae,rfl⟩:=i0 aP aU bA bi;clear aP aU bA bi;have bn:cK (.ar 1) (cS s)=some (.int .i64 s.l.length) :=q0 _;simp[bn];by_cases K7:(64:Int)<=s.l.length
  ·cases s with
   | none=>simp at K7
   | some im=>
   have aeV:(64:Int)<=im.length:=K7;have Uw:64<=im.length:=by omega
   simp[aeV];refine aeO (h:=h) (b:=im) Uw (l:=.cells 10 (g4 h (cS m.rest) m.n) ::.cells 10 ho::junk) (bk:=0) (sz:=10) (rest:=[cS m.rest,.int .i64 m.n]) rfl (by omega) (YR (m9 _)) (fun asK=>?_);have ef:fG (.ar 1) (cS (some im)) (some (.int .i64 64)) none none=some (cS (some (im.drop 64))) :=by
    unfold cS; rw[Zx (by omega) (by omega)]; rfl
   simp[ef];have arR:im.length=all.length - 64*k:=ej;refine⟨by omega,grind h im,some (im.drop 64),rfl,ho,⟨rfl,rfl⟩,?_,?_,qW,?_⟩
   ·rw[eU];show hK h im=_;rw[Cz h im Uw,aeP]; rfl
   ·simp; omega
   ·exact V1
  ·have aM:s.l.length<64:=by omega
   have hw:IntKind.i64.wrap (m.n+(b.l.length:Int))=m.n+b.l.length:=wrap_i64 (by omega) (by omega);have eP:(g4 h (cS m.rest) m.n)[9]? = some (.int .i64 m.n) :=rfl;have oW:cK (.ar 1) (cS b)=some (.int .i64 b.l.length) :=q0 _;simp[K7,eP,oW,hw];refine acT (by omega) ?_;intro v j l ap gC hR ai gQ;obtain⟨l',rfl⟩:∃ l',l=.cells 10 (g4 h (cS m.rest) m.n) ::.cells 10 ho::l':=by
    have h2:=hR 0 (by simp);have aR:=hR 1 (by simp);cases l with
    | nil=>simp at h2
    | cons a l=>cases l with
     | nil=>simp at aR
     | cons c l=>simp at h2 aR; subst h2 aR; exact⟨l,rfl⟩
   have aic:∀ r n hi,bt (g4 h r n) 9 [.int .i64 hi]=g4 h r hi:=fun _ _ _=>rfl
   have aib:∀ r n ct,bt (g4 h r n) 8 [ct]=g4 h ct n:=fun _ _ _=>rfl
   have au:=ap.cells;simp[eP,aic,aib,au,xp,qW,oD];have hb:∀ r n,List.take 10 (g4 h r n)=g4 h r n:=fun _ _=>rfl
   rw[hb,hb];have Vi:uJ m b=⟨h,if all=[] then none else some s.l,m.n+b.l.length⟩:=by
    unfold uJ;rw[<-eQ]
    dsimp only
    rw[eU,FV h s.l aM]
   rw[Vi];have kD:=(ap.nZ (l':=.cells 10 (g4 h v (m.n+(b.l.length:Int))) ::.cells 10 (g4 h v (m.n+(b.l.length:Int))) ::l') (by
    rcases ai with ai | ai
    ·exact .inl ai
    ·obtain⟨q,rfl⟩:∃ q,j=q+2:=⟨j - 2,by simp at ai; omega⟩
     exact .inr rfl)).E1 (fun _=>rfl) (if all=[] then none else some s.l) (by
     rw[gQ,V1]; split<;>simp_all) (by
     split
     ·rename_i ao; rw[ao] at ej; simp at ej; rw[ej]; rfl
     ·rfl)
   refine .aH _ _ rfl fun i c c' px ky=>?_
   rcases i with _ | _ | _ | _ | _ | _ | _ | _ | _ | _ | i<;>simp[g4,cp.l] at px ky
   all_goals subst px ky
   all_goals first | exact kD | exact .flat _ rfl
 ·simp;exact⟨m.st,(if all=[] then none else some all),rfl,⟨[.int .u32 0,.int .u32 0,.int .u32 0,.int .u32 0,.int .u32 0,.int .u32 0,.int .u32 0,.int .u32 0,.aT,.int .i64 0],⟨rfl,rfl⟩,by split<;>simp_all,by split<;>simp_all,rfl,by split<;>simp_all⟩⟩
def fF (b:List B) :U:=.aH (b.map bF)
def oE (n k:Nat) :List B:=128#8::List.replicate ((119 - n % 64) % 64) 0#8++(CD (BitVec.ofNat 64 n*8#64)).take k
theorem Pg (n:Nat) :oE n 8=tail n:=rfl
theorem Z0 (n k:Nat) (x:B) (af:(CD (BitVec.ofNat 64 n*8#64))[k]? = some x) :oE n (k+1)=oE n k++[x] :=by
 unfold oE;rw[av7,af]; simp
theorem Jc (n k:Nat) :(oE n k).length<=80:=by
 unfold oE;have:(CD (BitVec.ofNat 64 n*8#64)).length=8:=rfl;simp; omega
theorem QG (q:BitVec 64) (k:Nat) (hk:k<8) :(CD q)[k]? = some ((q >>> (56 - 8*k)).setWidth 8) :=by
 match k,hk with
 | 0,_=>rfl
 | 1,_=>rfl
 | 2,_=>rfl
 | 3,_=>rfl
 | 4,_=>rfl
 | 5,_=>rfl
 | 6,_=>rfl
 | 7,_=>rfl
def q5 (s:List W) (k:Nat) :List B:=((s.take k).map vQ).flatten++List.replicate (32 - 4*k) 0#8
theorem aaD (s:List W) :(s.map vQ).flatten.length=4*s.length:=by
 induction s with
 | nil=>rfl
 | cons w s aJ=>simp[aJ,vQ]; omega
theorem akM (s:List W) (k:Nat) (hk:k<=s.length) (ak:s.length=8) :(q5 s k).length=32:=by
 unfold q5;rw[avW,aaD];simp; omega
theorem akN (s:List W) (k:Nat) (w:W) (hk:s[k]? = some w) (ak:s.length=8) :
  ((((q5 s k).set (4*k) ((w >>> 24).setWidth 8)).set (4*k+1) ((w >>> 16).setWidth 8)).set (4*k+2) ((w >>> 8).setWidth 8)).set (4*k+3) (w.setWidth 8)=q5 s (k+1) :=by
 have iu:=(avP.1 hk).1;unfold q5;rw[av7,hk];have cN:((s.take k).map vQ).flatten.length=4*k:=by rw[aaD]; simp; omega
 obtain⟨A,AK⟩:∃ A,A=((s.take k).map vQ).flatten:=⟨_,rfl⟩
 rw[<-AK] at cN ⊢;have az:32 - 4*k=(32 - 4*(k+1))+1+1+1+1:=by omega
 rw[az,awV,awV,awV,awV];rw[awz _ _ (by omega),awz _ _ (by omega),awz _ _ (by omega),awz _ _ (by omega)];simp only[cN,axX,Nat.add_sub_cancel_left,axy,axU,awm,awC,<-AK];simp[vQ]
def Gi (s:cp) (r:fa) (n:Nat) :List B:=written (hK s (r.l++tail n)).1
set_option maxHeartbeats 8000000 in
theorem adD (s:cp) (r:fa) (n:Nat) (az:r.l.length<=100000000) (aC:n<=100000000) :bz Tryz.prog GS 240 [rD ⟨s,r,n⟩] (fF (Gi s r n)) :=by
 refine bL Tryz.checked.mixed bE ?_;apply bp Tryz.func240 [];have eP:(g4 s (cS r) n)[9]? = some (.int .i64 n) :=rfl;have ah:(U.aH (g4 s (cS r) n)).cells=some (g4 s (cS r) n) :=rfl;have k0:=CA n 64 (by omega);obtain⟨q,aW⟩:∃ q,q=n % 64:=⟨_,rfl⟩
 rw[show ((64:Int).toNat)=64 from rfl,<-aW] at k0;have aso:q<64:=by rw[aW]; exact axK _ (by omega)
 have j9:IntKind.i64.wrap (119 - (q:Int))=(119 - q:Nat) :=by rw[wrap_i64 (by omega) (by omega)]; omega
 have HF:=CA (119 - q) 64 (by omega);rw[show ((64:Int).toNat)=64 from rfl] at HF;obtain⟨m,hm⟩:∃ m,m=(119 - q) % 64:=⟨_,rfl⟩
 rw[<-hm] at HF;have asa:m<64:=by rw[hm]; exact axK _ (by omega)
 obtain⟨t,aI⟩:∃ t,t=119 - q:=⟨_,rfl⟩
 rw[<-aI] at j9 HF;have l9:cy=140737488355328:=rfl;obtain⟨L,eT⟩:∃ L:am,L=[a7.cells 10 (g4 s (cS r) n),a7.cells 32 (rep 32 (U.int IntKind.u8 0)),a7.cells 1 [U.int IntKind.u8 128]] :=⟨_,rfl⟩
 have aft:L[0]? = some (a7.cells 10 (g4 s (cS r) n)) :=by rw[eT]; rfl
 have afu:L[1]? = some (a7.cells 32 (rep 32 (U.int IntKind.u8 0))) :=by rw[eT]; rfl
 have ng:L.length=3:=by rw[eT]; rfl
 have ahw:bH 1 L (.ar 1 2 0 1 1 1) 2 [[U.int IntKind.u8 128]] :=by
  rw[eT];exact .ar 2 1 1 1 [.int .u8 128] _ rfl rfl rfl (by simp) (avR _) (avR _) rfl
 have ahh:m<9223372036854775808:=by omega
 have dA:(List.length [[U.int IntKind.u8 128]]+m)*1<=cy:=by rw[l9]; simp; omega
 have ag8:=abQ (n:=m) (k:=.i64) (by_:=1) (zero:=[.int .u8 0]) ahw rfl (by omega) (by omega) ahh dA;obtain⟨v,j,l,h1,ap,aj,aE,aX,bw⟩:=ag8;have au:cw v=false:=by
  rw[Bool.eq_false_iff]; intro aG;rw[jm,bw] at aG;cases aG.1
 have aN:u 128#8=128:=by decide
 have ao:([[U.int IntKind.u8 128]]++List.replicate m [U.int IntKind.u8 0] :List (List U))=(oE n 0).map ch:=by
  have:m=(119 - n % 64) % 64:=by rw[hm,aW]
  unfold oE;rw[<-this];simp[ch,aN]
 rw[ao] at ap;have h2:=(aE 0 (by omega) (by omega)).trans aft;have aR:=(aE 1 (by omega) (by omega)).trans afu;have jJ:2<=j:=by rcases aX with h | h<;>omega
 simp[rD,xp,eP,k0,j9,HF];rw[<-eT];simp[h1];refine cI 8 (fun k ae l=>ae 1=.ptr 0 0 10/\ae 2=.ptr 1 0 32/\ae 3=dq (BitVec.ofNat 64 n*8#64)/\ae 5=.int .i64 (56 - 8*(k:Int))/\∃ v j,ae 4=v/\2<=j/\cw v=false/\bH 1 l v j ((oE n k).map ch)/\l[0]? = some (a7.cells 10 (g4 s (cS r) n))/\l[1]? = some (a7.cells 32 (rep 32 (U.int IntKind.u8 0)))) ?_ ?_
 ·rintro k ae l hk ⟨aP,aU,a8,bi,v,j,bA,ai,au,ap,h2,aR⟩;obtain⟨ae,rfl⟩:=lj aP aU a8 bA bi;clear aP aU a8 bA bi;obtain⟨c,ah⟩:∃ c:Int,c=56 - 8*(k:Int) :=⟨_,rfl⟩
  rw[<-ah];simp;by_cases iu:0<=c
  ·have A4:k<8:=by omega
   have af:=QG (BitVec.ofNat 64 n*8#64) k A4;have qx:c.toNat=56 - 8*k:=by omega
   have Bm:IntKind.i64.wrap (c - 8)=56 - 8*((k:Int)+1) :=by rw[wrap_i64 (by omega) (by omega)]; omega
   have md:=Jc n k;have l6:bH 1 (l++[a7.cells 1 [bF (((BitVec.ofNat 64 n*8#64) >>> (56 - 8*k)).setWidth 8)]]) v j ((oE n k).map ch) :=ap.more _;obtain⟨aZ,bl,l',h1,ad,aj,aE,aX,bw⟩:=pl (by_:=1) l6 (x:=.ar 1 l.length 0 1 1 1) (xs:=[[bF (((BitVec.ofNat 64 n*8#64) >>> (56 - 8*k)).setWidth 8)]]) (by simp[dE]) (by simp) (by omega) (by omega) (by simp; omega);have e7:j<l.length:=by
    rcases ap.lt with h | h
    ·subst h; simp[cw] at au
    ·exact h
   have adw:l'[0]? = some (a7.cells 10 (g4 s (cS r) n)) :=by rw[aE 0 (by simp) (by omega),avQ (eu h2)]; exact h2
   have adx:l'[1]? = some (a7.cells 32 (rep 32 (U.int IntKind.u8 0))) :=by
    have:=eu aR;rw[aE 1 (by simp; omega) (by omega),avQ (eu aR)]; exact aR
   have fi:cw aZ=false:=by rw[vk bw,au]; rfl
   have dv:2<=bl:=by
    rcases aX with h | h
    ·omega
    ·have h:=axc (show l.length<=(l++[a7.cells 1 [bF (((BitVec.ofNat 64 n*8#64) >>> (56 - 8*k)).setWidth 8)]]).length by simp) h;omega
   simp[iu,qx,h1];refine dp.cx ?_;simp[iu,Bm];exact⟨by omega,bl,dv,fi,by rw[Z0 n k _ af,awm]; exact ad,adw,adx⟩
  ·have u7:k=8:=by omega
   subst u7;rw[Pg] at ap;have A1:=TC ⟨s,r,n⟩ (some (tail n)) (by have:=Jc n 8; rw[Pg] at this; simp; omega) (by simp) (by simp; omega);have af:=ap.nA (fun _=>rfl) (some (tail n)) (by rw[au]; rfl) rfl;have Vk:(uJ ⟨s,r,n⟩ (some (tail n))).st=(hK s (r.l++tail n)).1:=rfl;obtain⟨F,h3⟩:∃ F,F=uJ ⟨s,r,n⟩ (some (tail n)) :=⟨_,rfl⟩
   rw[<-h3] at A1 Vk;have A6:bd [rD ⟨s,r,n⟩]=true:=by simp[bd,rD,U.closed,g4,cp.l,m9]
   have agw:AE 8 0 (rD F)=some (.aH (F.st.l.map bD)) :=rfl;have oV:F.st.l.length=8:=rfl;simp[iu,h2,xp];refine Yq A1 (.cons (YR ?_) (.cons af .nil)) ?_
   ·show (U.aH (g4 s (cS r) n)).closed=true;simp[U.closed,bd,g4,cp.l,m9]
   simp[agw];refine cI 8 (fun k ae l=>ae 2=.ptr 1 0 32/\ae 33=.aH (F.st.l.map bD)/\ae 34=.int .i64 k/\l[1]? = some (a7.cells 32 ((q5 F.st.l k).map bF))) ?_ ?_
   ·rintro k ae l hk ⟨aU,wI,wJ,aR⟩;obtain⟨ae,rfl⟩:=kj aU wI wJ;clear aU wI wJ;obtain⟨B9,b1,rfl⟩:=an6 aR;clear aR;simp;by_cases iu:(k:Int)<8
    ·have fe:k<8:=by omega
     obtain⟨w,hw⟩:∃ w,F.st.l[k]? = some w:=⟨_,avS (show k<F.st.l.length from fe)⟩
     have bY:=akM F.st.l k (by omega) oV;have qL:=akN F.st.l k w hw oV;have kk:IntKind.i64.wrap (4*(k:Int))=(4*k:Nat) :=by rw[wrap_i64 (by omega) (by omega)]; omega
     have b2:IntKind.i64.wrap (((4*k:Nat) :Int)+1)=(4*k+1:Nat) :=by rw[wrap_i64 (by omega) (by omega)]; omega
     have w2:IntKind.i64.wrap (((4*k:Nat) :Int)+2)=(4*k+2:Nat) :=by rw[wrap_i64 (by omega) (by omega)]; omega
     have eh:IntKind.i64.wrap (((4*k:Nat) :Int)+3)=(4*k+3:Nat) :=by rw[wrap_i64 (by omega) (by omega)]; omega
     have lm:IntKind.i64.wrap ((k:Int)+1)=k+1:=wrap_i64 (by omega) (by omega);obtain⟨a,aA⟩:∃ a,a=4*k:=⟨_,rfl⟩
     rw[<-aA] at kk b2 w2 eh qL;have s0:=pa bF (q5 F.st.l k) a ((w >>> 24).setWidth 8) (by omega);have dR:=pa bF ((q5 F.st.l k).set a ((w >>> 24).setWidth 8)) (a+1) ((w >>> 16).setWidth 8) (by simp; omega);have hl:=pa bF (((q5 F.st.l k).set a ((w >>> 24).setWidth 8)).set (a+1) ((w >>> 16).setWidth 8)) (a+2) ((w >>> 8).setWidth 8) (by simp; omega);have o9:=pa bF ((((q5 F.st.l k).set a ((w >>> 24).setWidth 8)).set (a+1) ((w >>> 16).setWidth 8)).set (a+2) ((w >>> 8).setWidth 8)) (a+3) (w.setWidth 8) (by simp; omega);rw[qL] at o9;have hr:(a:Int)<32:=by omega
     have de:((a+1:Nat) :Int)<32:=by omega
     have df:((a+2:Nat) :Int)<32:=by omega
     have fw:((a+3:Nat) :Int)<32:=by omega
     have yd:a+1<=32:=by omega
     have cZ:a+1+1<=32:=by omega
     have dJ:a+2+1<=32:=by omega
     have iQ:a+3+1<=32:=by omega
     have d1:(a:Int)+1<32:=by omega
     have d2:(a:Int)+2<32:=by omega
     have d3:(a:Int)+3<32:=by omega
     have f1:((a:Int)+1).toNat=a+1:=by omega
     have f2:((a:Int)+2).toNat=a+2:=by omega
     have f3:((a:Int)+3).toNat=a+3:=by omega
     have BC:(0:Int)<=(a:Int)+1:=by omega
     have pM:(0:Int)<=(a:Int)+2:=by omega
     have sj:(0:Int)<=(a:Int)+3:=by omega
     simp[iu,fe,hw,kk,b2,w2,eh,lm,hr,s0,dR,hl,o9,yd,cZ,dJ,iQ,d1,d2,d3,f1,f2,f3,BC,pM,sj,-List.map_set]
    ·have u7:k=8:=by omega
     subst u7;have ahz:q5 F.st.l 8=written F.st:=by simp[q5,written,cp.l]
     rw[ahz];have w7:(written F.st).length=32:=rfl;simp[w7,oD,avO];exact aL (by unfold fF Gi; rw[Vk]) (SY bF (fun _=>rfl) _)
   ·simp[aR];rw[Y4 .u8 8]; rfl
 ·simp;exact⟨j,jJ,au,ap,h2,aR⟩
structure z2 (m:ul) (b:List B) :Prop where
 J3:hK first b=(m.st,m.rest.l)
 n:m.n=b.length
theorem ai4 {m:ul} {b:List B} (h:z2 m b) (s:fa) :z2 (uJ m s) (b++s.l) :=by
 have h1:hK first (b++s.l)=hK m.st (m.rest.l++s.l) :=by rw[QB,h.J3]
 refine⟨?_,?_⟩
 ·rw[h1];unfold uJ
  dsimp only
  split
  ·rename_i ao;rw[ao]; rfl
  ·rfl
 ·unfold uJ
  dsimp only
  rw[h.n]; simp
theorem ai5 {m:ul} {b:List B} (h:z2 m b) :m.rest.l.length<64:=by
 have:=acg first b
 rw[h.J3] at this;simp only at this;rw[this]; exact axK _ (by omega)
theorem ai3 {m:ul} {b:List B} (h:z2 m b) :Gi m.st m.rest b.length=ie b:=by
 unfold Gi ie;rw[QB first b,h.J3]
def start:ul:=⟨first,none,0⟩
theorem ai6:z2 start [] :=⟨rfl,rfl⟩
theorem ant:jZ Tryz.prog GS 238 [] (rD start) :=by
 refine BL Tryz.checked.mixed bE ?_;apply bp Tryz.func238 [];simp;exact .flat _ rfl
def tz (s:fa) :Bool:=decide ((10000:Int)<s.l.length)
theorem ajT (s:fa) :bz Tryz.prog GS 237 [cS s] (.bool (tz s)) :=by
 refine bL Tryz.checked.mixed bE ?_;apply bp Tryz.func237 [];simp[cS];exact aL rfl rfl
theorem aei:hQ Tryz.prog 237=true:=by kernel_rfl
def idx (l:List fa) :Int:=match l.findIdx? tz with | some i=>(i:Int) | none=>-1
theorem aiC {l:List fa} {k:Nat} {s:fa} (ak:l[k]? = some s) (al:tz s=true) (dM:∀ j s,j<k->l[j]? = some s->tz s=false) :idx l=k:=by
 have:l.findIdx? tz=some k:=by
  rw[List.findIdx?_eq_some_iff_getElem];obtain⟨h1,rfl⟩:=avP.1 ak;refine⟨h1,al,fun j ai=>?_⟩;rw[dM j l[j] ai (avS (by omega))]; simp
 unfold idx; rw[this]
theorem WJ {l:List fa} (dM:∀ j s,j<l.length->l[j]? = some s->tz s=false) :idx l=-1:=by
 have:l.findIdx? tz=none:=by
  rw[List.findIdx?_eq_none_iff];intro x af;obtain⟨j,ai⟩:=avT.1 af;exact dM j x (avP.1 ai).1 ai
 unfold idx; rw[this]
theorem M5 (ls:cQ fa) (al:ls.l.length<=1000000000) :bz Tryz.prog GS 257 [nW ls,.fn 237 [] []] (.int .i64 (idx ls.l)) :=by
 refine bL Tryz.checked.mixed bE ?_;apply bp Tryz.func257 [];have bn:cK (.ar 1) (nW ls)=some (.int .i64 ls.l.length) :=q0 _;simp[bn];refine cI ls.l.length (fun k ae l=>ae 0=nW ls/\ae 1=.fn 237 [] []/\ae 7=.int .i64 ls.l.length/\ae 8=.int .i64 k/\∀ j s,j<k->ls.l[j]? = some s->tz s=false) ?_ (by simp);rintro k ae l hk ⟨cf,aP,dk,dj,dM⟩;obtain⟨ae,rfl⟩:=i0 cf aP dk dj;clear cf aP dk dj;simp;by_cases h:k<ls.l.length
 ·obtain⟨s,ak,_⟩:=bx h;have bN:ck (.ar 1) (nW ls) (.int .i64 k)=some (.b3 [cS s] 0) :=by
   rw[r1]; simp[ak]
  have fB:IntKind.i64.wrap ((k:Int)+1)=k+1:=wrap_i64 (by omega) (by omega);simp[h,bN];refine⟨aei,a6 (ajT s) (by simp[bd,m9]) ?_⟩;cases jK:tz s with
  | true=>
   simp;rw[aiC ak jK dM];exact aL rfl rfl
  | false=>
   simp[h,fB];intro j eH ai tn;rcases aw6 j k with h1 | h1
   ·exact dM j eH h1 tn
   ·have:j=k:=by omega
    subst this;rw[ak] at tn; cases tn; exact jK
 ·simp[h];rw[WJ (fun j s ai ak=>dM j s (by omega) ak)];exact aL rfl rfl
theorem ac8 (ls:cQ fa) (al:ls.l.length<=1000000000) :bz Tryz.prog GS 236 [nW ls,.fn 237 [] []] (.bool (decide (0<=idx ls.l))) :=by
 refine bL Tryz.checked.mixed bE ?_;apply bp Tryz.func236 [];simp;refine a6 (M5 ls al) (by simp[bd,U.closed,SX]) ?_;simp;exact aL rfl rfl
set_option maxHeartbeats 4000000 in
theorem N4 (ls:List fa) (arv:ls.length<=20) (dM:∀ s∈ls,s.l.length<=10000) :bz Tryz.prog GS 196 [nW (some ls)] (.bG [fF (ie (bytesOf ls)),.int .i64 0]) :=by
 have wW:idx ls=-1:=WJ fun j s ai ak=>by
  have:=dM s (avY ak);unfold tz; simp; omega
 have bn:∀ k,(bytesOf (ls.take k)).length<=200000:=fun k=>by
  have:∀ l:List fa,(∀ s∈l,s.l.length<=10000)->(bytesOf l).length<=10000*l.length:=by
   intro l
   induction l with
   | nil=>intro _; simp[bytesOf]
   | cons s l aJ=>
    intro h;have h1:=aJ fun x af=>h x (by simp[af])
    have ad:=h s (by simp);unfold bytesOf at h1 ⊢;rw[awn,awT,avW,awa];omega
  have h1:=this (ls.take k) fun s ak=>dM s (awh ak)
  have ad:(ls.take k).length<=20:=by simp; omega
  omega
 refine bL Tryz.checked.mixed bE ?_;apply bp Tryz.func196 [];have aeT:¬(20:Int)<ls.length:=by omega
 have U8:=ac8 (some ls) (by simp; omega);rw[cQ.zi,wW] at U8;simp[aeT];refine a6 U8 (by simp[bd,U.closed,SX]) ?_;simp;refine a6 ant.Fm rfl ?_;simp[rD,xp,oD];refine cI ls.length (fun k ae l=>ae 2=.ptr 0 0 32/\ae 4=.ptr 1 0 10/\ae 16=nW (some ls)/\ae 17=.int .i64 ls.length/\ae 18=.int .i64 k/\∃ m,z2 m (bytesOf (ls.take k))/\l=[.cells 32 (rep 32 (.int .u8 0)),.cells 10 (g4 m.st (cS m.rest) m.n)]) ?_ ?_
 ·rintro k ae l hk ⟨aU,bA,qp,lU,s6,m,hm,rfl⟩;obtain⟨ae,rfl⟩:=lj aU bA qp lU s6;clear aU bA qp lU s6;simp;have fp:(U.aH (g4 m.st (cS m.rest) m.n)).closed=true:=by simp[U.closed,bd,g4,cp.l,m9]
  have hb:List.take 10 (g4 m.st (cS m.rest) m.n)=g4 m.st (cS m.rest) m.n:=rfl;have mb:=ai5 hm;have pF:=hm.n;have hS:=bn k;by_cases h:k<ls.length
  ·obtain⟨s,ak,gl⟩:=bx h;have bN:ck (.ar 1) (nW (some ls)) (.int .i64 k)=some (.b3 [cS s] 0) :=by
    rw[r1]; simp[ak]
   have fB:IntKind.i64.wrap ((k:Int)+1)=k+1:=wrap_i64 (by omega) (by omega);have h1:=dM s gl;have aF:=TC m s (by omega) (by omega) (by omega);have kB:=ai4 hm s;rw[<-bytesOf_take ls k s ak] at kB;obtain⟨F,h3⟩:∃ F,F=uJ m s:=⟨_,rfl⟩
   rw[<-h3] at aF kB;simp[h,bN,xp,hb];refine a6 aF.Fm ?_ ?_
   ·simp only[bd,fp,m9,axP]
   simp[rD,xp,oD,h,fB];exact⟨F,kB,rfl⟩
  ·have cq:k=ls.length:=by omega
   subst cq;rw[awi] at hm pF hS;have ao:=adD m.st m.rest (bytesOf ls).length (by omega) (by omega);rw[ai3 hm] at ao;have iT:m=⟨m.st,m.rest,((bytesOf ls).length:Int)⟩:=by rw[<-pF]
   rw[<-iT] at ao;have ef:=vJ (bytesOf ls);simp[h,xp,hb];refine a6 ao ?_ ?_
   ·simp only[bd,fp,axP]
   have c3:((ie (bytesOf ls)).map bF).length=32:=by rw[av8,ef]
   simp[fF,ef,oD,avO];exact aL rfl (by simp[U.closed,bd,lS bF (fun _=>rfl)])
 ·simp[bytesOf];exact⟨start,ai6,rfl⟩
theorem ZU (s:fa) (h:s.l.length<=10000) :bz Tryz.prog GS 145 [cS s] (.bG [fF (ie s.l),.int .i64 0]) :=by
 have ag:bytesOf [s]=s.l:=by simp[bytesOf]
 have ay:=N4 [s] (by simp) (by simpa using h);rw[ag] at ay;refine bL Tryz.checked.mixed bE ?_;apply bp Tryz.func145 [];have ef:=vJ s.l;simp;refine iB ay (.cons ?_ .nil) (by simp[U.flat,mB,fF,AC bF (fun _=>rfl)]) ?_
 ·exact EZ (es:=[[cS s]]) (rest:=[]) rfl rfl (by simp) (by simp[bd,m9])
 simp[fF,ef,oD,avO];exact aL rfl (by simp[U.closed,bd,lS bF (fun _=>rfl)])
theorem uf (x:W) (n:Nat) (aD:0<n) (h:n<32) :bz Tryz.prog GS 226 [bD x,.int .i64 n] (bD (oy x n)) :=by
 refine bL Tryz.checked.mixed bE ?_;apply bp Tryz.func226 [];have hw:IntKind.i64.wrap (32 - (n:Int))=(32 - n:Nat) :=by rw[wrap_i64 (by omega) (by omega)]; omega
 obtain⟨m,hm⟩:∃ m,m=32 - n:=⟨_,rfl⟩
 rw[<-hm] at hw;simp[hw];exact aL (by unfold oy; rw[hm]) rfl
def e5 (x:W) :List U:=[bD x]
set_option maxHeartbeats 4000000 in
theorem ac6:jZ Tryz.prog GS 227 [] (cB 1 e5 (some bT)) :=by
 refine BL Tryz.checked.mixed bE ?_;apply bp Tryz.func227 [];simp;exact YU (z:=1) (es:=bT.map e5) (rest:=[]) (by kernel_rfl) (by kernel_rfl) (fun e ao=>by obtain⟨y,_,rfl⟩:=awf.1 ao; rfl) (fun e ao=>by obtain⟨y,_,rfl⟩:=awf.1 ao; rfl)
theorem aed:bz Tryz.prog GS 125 [] (.aH (first.l.map bD)) :=by
 refine bL Tryz.checked.mixed bE ?_;apply bp Tryz.func125 [];simp;exact aL rfl rfl
theorem ao6 (b:List B) (t:Nat) (hr de df fw:B) (aD:b[4*t]? = some hr) (h1:b[4*t+1]? = some de) (ad:b[4*t+2]? = some df) (aj:b[4*t+3]? = some fw) :
  p4 ((b.drop (4*t)).take 4)=((hr.setWidth 32*256#32+de.setWidth 32)*256#32+df.setWidth 32)*256#32+fw.setWidth 32:=by
 have h:(b.drop (4*t)).take 4=[hr,de,df,fw] :=by
  have al:=(avP.1 aj).1;apply awM;intro i
  match i with
  | 0=>simp[aD]
  | 1=>simp[h1]
  | 2=>simp[ad]
  | 3=>simp[aj]
  | i+4=>rw[av5 (by simp; omega),av5 (by simp)]
 rw[h];show ((((0#32 <<< 8 ||| hr.setWidth 32) <<< 8 ||| de.setWidth 32) <<< 8 ||| df.setWidth 32) <<< 8 ||| fw.setWidth 32)=_;rw[I5,I5,I5,I5];simp
end gT

end Go.cb

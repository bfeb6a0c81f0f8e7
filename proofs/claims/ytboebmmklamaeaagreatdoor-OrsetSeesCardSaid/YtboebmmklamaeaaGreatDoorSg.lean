/-
  The canonical machine: appending to a slice of one's own, with a frame for nil; a set's frames.
-/
import Derived.Test.YtboebmmklamaeaaGreatDoorSf
import Derived.Lib.AppendZerosOnto
set_option linter.unusedVariables false
set_option linter.unusedSimpArgs false
set_option linter.unnecessarySimpa false
namespace Go.cl
open Go
section
variable {P:Program} {l:au} {aD:Operand->ae}
@[simp ↓] theorem asW:bR P aD l (.o9 none)=some (.mp l.length,l++[.map [] 0]) :=id rfl
@[simp ↓] theorem asR (cN:TypeId) (zero:ae) (ok:Bool) (m k:Operand) :bR P aD l (.rQ cN zero ok m k)=di l (tp P l cN zero ok (aD m) (aD k)) :=id rfl
@[simp ↓] theorem asY (cN:TypeId) (m k x:Operand) :bR P aD l (.qk cN m k x)=(qi P l cN (aD m) (aD k) (aD x)).map fun l'=>(gv,l') :=id rfl
@[simp ↓] theorem asQ (x:Operand) :bR P aD l (.tn x)=di l (zC l (aD x)) :=id rfl
@[simp ↓] theorem as3 (x:Operand) :bR P aD l (.r5 x)=xC l (aD x) :=id rfl
@[simp ↓] theorem as1 (x:Operand) :bR P aD l (.rW x)=rV l (aD x) :=id rfl
@[simp ↓] theorem ar4 (x:Option Operand) (v:ae) (K:ae->au->Prop) :dS (.o9 x) v l K=K v l:=id rfl
@[simp ↓] theorem arZ (cN:TypeId) (zero:ae) (ok:Bool) (m k:Operand) (v:ae) (K:ae->au->Prop) :dS (.rQ cN zero ok m k) v l K=K v l:=id rfl
@[simp ↓] theorem ar6 (cN:TypeId) (m k x:Operand) (v:ae) (K:ae->au->Prop) :dS (.qk cN m k x) v l K=K v l:=id rfl
@[simp ↓] theorem arY (x:Operand) (v:ae) (K:ae->au->Prop) :dS (.tn x) v l K=K v l:=id rfl
@[simp ↓] theorem asb (x:Operand) (v:ae) (K:ae->au->Prop) :dS (.r5 x) v l K=K v l:=id rfl
@[simp ↓] theorem ar9 (x:Operand) (v:ae) (K:ae->au->Prop) :dS (.rW x) v l K=K v l:=id rfl
end
section
variable {z:Nat} {l l' : au} {v:ae} {j:Nat} {es:List (List ae)}
theorem Ek (h:bX z l v j es) {by_:Nat} {x:ae} {xs:List (List ae)} (aj:df l z x=some (xs.flatten,xs.length)) (k0:∀ e∈xs,e.length=z) (aQ:z≠0) (dE:by_≠0) (ds:(es.length+xs.length)*by_<=cJ) :
  ∃ bf cD l',ie l z by_ v x=some (bf,l')/\bX z l' bf cD (es++xs)/\l.length<=l'.length/\(∀ b,b<l.length->v=.a6\/b≠j->l'[b]? = l[b]?)/\(l.length<=cD\/(v≠.a6/\cD=j)\/bf=.a6)/\cT bf=(cT v&&xs.isEmpty) :=by
 by_cases ax:v=.a6
 ·subst ax;have aw:es=[] :=h.q.xp;subst aw;obtain⟨bf,cD,l1,h1,af,ap,aH,bc,bM⟩:=mF (.nil (z:=z) (l:=l) (l.length+1)) aj k0 aQ dE ds;refine⟨bf,cD,l1,h1,af,ap,fun b ai _=>aH b ai (by omega),?_,rJ bM⟩;rcases bc with bc | bc
  ·exact .inl (by omega)
  ·exact .inl bc
 ·obtain⟨bf,cD,l1,h1,af,ap,aH,bc,bM⟩:=mF h aj k0 aQ dE ds;refine⟨bf,cD,l1,h1,af,ap,fun b ai aI=>aH b ai (aI.resolve_left ax),?_,rJ bM⟩;rcases bc with bc | bc
  ·exact .inr (.inl ⟨ax,bc⟩)
  ·exact .inl bc
theorem bX.cM (h:bX z l v j es) (aJ:∀ b,b<l.length->b=j->l'[b]? = l[b]?) :bX z l' v j es:=h.frame fun am=>aJ j am rfl
theorem du.R5 {K:ae->au->Prop} (h:bX z l v j es) (ax:cT v=false) (a7:K (.b6 z es) (l.set j .dead)) :du v l (c:=⟨K⟩) :=by
 cases h with
 | nil j=>cases ax
 | ao j n cap sz cs es ai aq aI aB ak cY cL=>
 have aN:=fg ai;have bJ:(bW (l.set j .dead)).f j=.dead:=by rw[la,List.getElem?_set,if_pos rfl,if_pos aN]
 have dv:n*z<=cap*z:=Nat.mul_le_mul_right _ ak;refine .inr ⟨_,_,⟨by simp,fun bo=>?_⟩,.ao z j 0 n cap sz cs es (mC.2 ai) bJ aI aB (by omega) (fun i k e c c' aw aE jr=>?_),a7⟩
 ·by_cases b1:bo=j
  ·subst b1; exact .inr ⟨sz,cs,mC.2 ai,.inl bJ⟩
  ·left;rw[la,la,List.getElem?_set,if_neg (by omega)]
 ·have yY:k<z:=by rw[<-aB e (List.mem_of_getElem? aw)]; exact (List.getElem?_eq_some_iff.1 aE).1
  have aA:=(List.getElem?_eq_some_iff.1 aw).1;have hm:i*z+z<=n*z:=by rw[<-Nat.succ_mul]; exact Nat.mul_le_mul_right _ (by omega)
  have h1:=Br aB aw yY;rw[<-cL,List.getElem?_take_of_lt (by omega),aE] at h1;rw[Nat.zero_add,h1] at jr;cases jr;exact .same _
end
inductive kE where
 | b
 | i (k:IntKind)
 | s
def DM:kE->ae->Bool
 | .b,.bool _=>true
 | .i k,.int k' _=>decide (k=k')
 | .s,.str _=>true
 | _,_=>false
def hg:List kE->List ae->Bool
 | [],[]=>true
 | k::bQ,c::cs=>DM k c&&hg bQ cs
 | _,_=>false
theorem zG:∀ {bQ:List kE} {cs:List ae},hg bQ cs=true->cs.length=bQ.length
 | [],[],_=>rfl
 | [],_::_,h=>by cases h
 | _::_,[],h=>by cases h
 | k::bQ,c::cs,h=>by simp only[hg,Bool.and_eq_true] at h; simp[zG h.2]
theorem zH:∀ {l r:List kE} {m:List ae},hg (l++r) m=true->∃ fK iG,m=fK++iG/\hg l fK=true/\hg r iG=true
 | [],r,m,h=>⟨[],m,rfl,rfl,h⟩
 | k::l,r,[],h=>by cases h
 | k::l,r,c::m,h=>by
  simp only[List.cons_append,hg,Bool.and_eq_true] at h;obtain⟨fK,iG,rfl,h1,af⟩:=zH h.2;exact⟨c::fK,iG,rfl,by simp[hg,h.1,h1],af⟩
theorem WB {k:IntKind} {xs:List ae} (h:hg [.i k] xs=true) :∃ p,xs=[.int k p] :=by
 cases xs with
 | nil=>cases h
 | cons c r=>
  simp only[hg,Bool.and_eq_true] at h;cases r with
  | cons _ _=>cases h.2
  | nil=>
   cases c<;>simp only[DM] at h<;>try (cases h.1; done)
   rename_i k' p;have aE:k=k':=by simpa using h.1
   subst aE;exact⟨p,rfl⟩
theorem Et:∀ {hB iM j3 lR:List ae},hB.length=iM.length->eD (hB++j3) (iM++lR)=(eD hB iM&&eD j3 lR)
 | [],[],_,_,_=>by simp[eD]
 | [],_::_,_,_,h=>by simp at h
 | _::_,[],_,_,h=>by simp at h
 | a::hB,b::iM,j3,lR,h=>by
  simp only[List.length_cons,Nat.add_right_cancel_iff] at h;simp only[List.cons_append,eD,Et h,Bool.and_assoc]
section
variable (P:Program)
def CP (f:TypeId->Option (List kE)) :List Field->Nat->Option (List kE)
 | [],_=>some []
 | fd::fs,o=>match f fd.type,cv P fd.type with
  | some l,some z=>match fd.name != "_"&&Nat.beq fd.offset o&&Nat.beq l.length z with
   | true=>match CP f fs (o+z) with
    | some r=>some (l++r)
    | none=>none
   | false=>none
  | _,_=>none
def o4:Nat->TypeId->Option (List kE)
 | 0,_=>none
 | d+1,t=>match P.underlying t with
  | some .bool=>some [.b]
  | some (.int k)=>some [.i k]
  | some .string=>some [.s]
  | some (.array n e)=>match o4 d e,cv P e with
   | some l,some z=>match Nat.beq l.length z with
    | true=>some (List.replicate n l).flatten
    | false=>none
   | _,_=>none
  | some (.struct fs)=>match P.stoodInHeld t with
   | false=>CP P (o4 d) fs.toList 0
   | true=>none
  | _=>none
def jh (t:TypeId) (l:List ae) :Option ae:=match dM P t with
 | some true=>some (.aS l)
 | some false=>l[0]?
 | none=>none
end
variable {P:Program}
theorem Dg {t:TypeId} {z:Nat} (aB:cv P t=some z) {pre mid post:List ae} (hm:mid.length=z) (az:dM P t=some false->mid.length=1) :gR P t (pre++(mid++post)) pre.length=jh P t mid:=by
 unfold gR jh;rw[aB];cases aG:dM P t with
 | none=>rfl
 | some g=>
  cases g with
  | true=>
   simp only;rw[if_pos (by simp; omega),List.drop_left,List.take_append_of_le_length (by omega),List.take_of_length_le (by omega)]
  | false=>
   have:=az aG;simp only;rw[List.getElem?_append_right (by omega),Nat.sub_self,List.getElem?_append_left (by omega)]
def EqAt (P:Program) (f:TypeId->Option (List kE)) (eq:TypeId->ae->ae->Option Bool) :Prop:=
 ∀ t bQ,f t=some bQ->(dM P t=some false->bQ.length=1)/\∀ xs bm,hg bQ xs=true->hg bQ bm=true->∃ a b,jh P t xs=some a/\jh P t bm=some b/\eq t a b=some (eD xs bm)
theorem RI {f:TypeId->Option (List kE)} {eq:TypeId->ae->ae->Option Bool} (aw:EqAt P f eq) :∀ (fs:List Field) (o:Nat) (bQ:List kE),CP P f fs o=some bQ->∀ (nb nd cF m3:List ae),nb.length=o->nd.length=o->hg bQ cF=true->hg bQ m3=true->
  dX.eqFields P eq (nb++cF) (nd++m3) fs=some (eD cF m3)
 | [],o,bQ,h,nb,nd,cF,m3,aj,aO,o5,rN=>by
  cases h;cases cF with
  | nil=>cases m3 with | nil=>rfl | cons _ _=>cases rN
  | cons _ _=>cases o5
 | fd::fs,o,bQ,h,nb,nd,cF,m3,aj,aO,o5,rN=>by
  unfold CP at h;split at h
  ·rename_i l z aq aB;split at h
   ·rename_i ak;simp only[Bool.and_eq_true,bne_iff_ne,ne_eq] at ak;split at h
    ·rename_i r aC;cases h;obtain⟨hB,j3,rfl,bn,bA⟩:=zH o5;obtain⟨iM,lR,rfl,ei,dN⟩:=zH rN;have ay:fd.offset=o:=Nat.eq_of_beq_eq_true ak.1.2;have Cn:l.length=z:=Nat.eq_of_beq_eq_true ak.2;obtain⟨aV,aY⟩:=aw _ _ aq;obtain⟨a,b,nF,l2,q3⟩:=aY hB iM bn ei;have JI:=zG bn;have JJ:=zG ei;unfold dX.eqFields;rw[if_neg ak.1.1,ay];rw[show gR P fd.type (nb++(hB++j3)) o=some a by rw[<-aj,Dg aB (by omega) (fun h=>by rw[JI]; exact aV h)]; exact nF];rw[show gR P fd.type (nd++(iM++lR)) o=some b by rw[<-aO,Dg aB (by omega) (fun h=>by rw[JJ]; exact aV h)]; exact l2];simp only[q3];rw[Et (by omega)];have aK:=RI aw fs (o+z) r aC (nb++hB) (nd++iM) j3 lR (by simp; omega) (by simp; omega) bA dN;rw[List.append_assoc,List.append_assoc] at aK;cases eD hB iM with
     | true=>simpa using aK
     | false=>simp
    ·cases h
   ·cases h
  ·cases h
theorem RH {eq:TypeId->ae->ae->Option Bool} {e:TypeId} {l:List kE} {z:Nat} (aB:cv P e=some z) (Cn:l.length=z) (az:dM P e=some false->l.length=1)
  (aw:∀ xs bm,hg l xs=true->hg l bm=true->∃ a b,jh P e xs=some a/\jh P e bm=some b/\eq e a b=some (eD xs bm)) :∀ (n i:Nat) (nb nd cF m3:List ae),nb.length=i*z->nd.length=i*z->hg (List.replicate n l).flatten cF=true->hg (List.replicate n l).flatten m3=true->
  dX.pK P eq e z (nb++cF) (nd++m3) n i=some (eD cF m3)
 | 0,i,nb,nd,cF,m3,aj,aO,o5,rN=>by
  simp only[List.replicate_zero,List.flatten_nil] at o5 rN;cases cF with
  | nil=>cases m3 with | nil=>rfl | cons _ _=>cases rN
  | cons _ _=>cases o5
 | n+1,i,nb,nd,cF,m3,aj,aO,o5,rN=>by
  rw[List.replicate_succ,List.flatten_cons] at o5 rN;obtain⟨hB,j3,rfl,bn,bA⟩:=zH o5;obtain⟨iM,lR,rfl,ei,dN⟩:=zH rN;obtain⟨a,b,nF,l2,q3⟩:=aw hB iM bn ei;have JI:=zG bn;have JJ:=zG ei;unfold dX.pK;rw[show gR P e (nb++(hB++j3)) (i*z)=some a by rw[<-aj,Dg aB (by omega) (fun h=>by rw[JI]; exact az h)]; exact nF];rw[show gR P e (nd++(iM++lR)) (i*z)=some b by rw[<-aO,Dg aB (by omega) (fun h=>by rw[JJ]; exact az h)]; exact l2];simp only[q3];rw[Et (by omega)];have aK:=RH aB Cn az aw n (i+1) (nb++hB) (nd++iM) j3 lR (by simp[Nat.succ_mul]; omega) (by simp[Nat.succ_mul]; omega) bA dN;rw[List.append_assoc,List.append_assoc] at aK;cases eD hB iM with
  | true=>simpa using aK
  | false=>simp
theorem Bk:∀ (d D:Nat),d<=D->EqAt P (o4 P d) (dX P D)
 | 0,D,_,t,bQ,h=>by cases h
 | d+1,0,bJ,t,bQ,h=>by omega
 | d+1,D+1,bJ,t,bQ,h=>by
  have aK:=Bk d D (by omega);unfold o4 at h;split at h
  ·rename_i aL;have aG:dM P t=some false:=by unfold dM; rw[aL]; rfl
   cases h;refine⟨fun _=>rfl,fun xs bm aj aO=>?_⟩
   match xs,bm,aj,aO with
   | [.bool p],[.bool q],_,_=>
    refine⟨.bool p,.bool q,by simp[jh,aG],by simp[jh,aG],?_⟩;unfold dX; rw[aL];cases p<;>cases q<;>rfl
  ·rename_i k aL;have aG:dM P t=some false:=by unfold dM; rw[aL]; rfl
   cases h;refine⟨fun _=>rfl,fun xs bm aj aO=>?_⟩;obtain⟨p,rfl⟩:=WB aj;obtain⟨q,rfl⟩:=WB aO
   ·refine⟨.int k p,.int k q,by simp[jh,aG],by simp[jh,aG],?_⟩;unfold dX; rw[aL];by_cases h:p=q<;>simp[eD,ae.beq,h]
  ·rename_i aL;have aG:dM P t=some false:=by unfold dM; rw[aL]; rfl
   cases h;refine⟨fun _=>rfl,fun xs bm aj aO=>?_⟩
   match xs,bm,aj,aO with
   | [.str p],[.str q],_,_=>
    refine⟨.str p,.str q,by simp[jh,aG],by simp[jh,aG],?_⟩;unfold dX; rw[aL];by_cases h:p=q<;>simp[eD,ae.beq,h]
  ·rename_i n e aL;have aG:dM P t=some true:=by unfold dM; rw[aL]; rfl
   split at h
   ·rename_i l z aq aB;split at h
    ·rename_i Cn;cases h;obtain⟨aV,aY⟩:=aK _ _ aq;refine⟨fun h=>(by rw[aG] at h; cases h),fun xs bm aj aO=>⟨.aS xs,.aS bm,by simp[jh,aG],by simp[jh,aG],?_⟩⟩;unfold dX; rw[aL];simp only[aB];exact RH aB (Nat.eq_of_beq_eq_true Cn) aV aY n 0 [] [] xs bm (by simp) (by simp) aj aO
    ·cases h
   ·cases h
  ·rename_i fs aL;have aG:dM P t=some true:=by unfold dM; rw[aL]; rfl
   split at h
   ·rename_i ar;refine⟨fun h=>(by rw[aG] at h; cases h),fun xs bm aj aO=>⟨.aS xs,.aS bm,by simp[jh,aG],by simp[jh,aG],?_⟩⟩;unfold dX; rw[aL];simp only[ar,Bool.false_eq_true,if_false];exact RI aK fs.toList 0 bQ h [] [] xs bm rfl rfl aj aO
   ·cases h
  ·cases h
theorem AQ {t:TypeId} {bQ:List kE} (aE:o4 P 20 t=some bQ) (aG:dM P t=some true) (az:P.eqGuardType P.depth t=false) {xs bm:List ae} (aj:hg bQ xs=true) (aO:hg bQ bm=true) :fD P .eql t (.aS xs) (.aS bm)=some (.bool (eD xs bm)) :=by
 obtain⟨a,b,nF,l2,q3⟩:=(Bk (P:=P) 20 10000 (by omega) t bQ aE).2 xs bm aj aO;simp only[jh,aG,Option.some.injEq] at nF l2;subst nF; subst l2;exact acn az q3
theorem Ev {t:TypeId} {bQ:List kE} (aE:o4 P 20 t=some bQ) (aG:dM P t=some true) (az:P.eqGuardType P.depth t=false) {xs bm:List ae} (aj:hg bQ xs=true) (aO:hg bQ bm=true) :fD P .neq t (.aS xs) (.aS bm)=some (.bool (!eD xs bm)) :=by
 obtain⟨a,b,nF,l2,q3⟩:=(Bk (P:=P) 20 10000 (by omega) t bQ aE).2 xs bm aj aO;simp only[jh,aG,Option.some.injEq] at nF l2;subst nF; subst l2;exact aco az q3
end Go.cl

namespace Go.cl
open Go Go.Proofs Go.Shelf
structure AA (P:Program) (f:FuncId) (T I e z:Nat) :Prop where
 vJ:P.underlying T=some (.slice e)
 amT:P.underlying I=some (.int .i64)
 fin:∀ (base:Option Addr) (n c eL gw iL:Nat) (r:Value) (w w' : World),n<=c->n<=4611686018427387904->(base=none->n=0/\c=0)->
  (Builtin.append_ #[T,T] T #[.slice base n c,.slice (some ⟨gw,iL,none⟩) 1 eL]).run P w=.ok r w'->
  Calls P f #[.slice base n c,.int .i64 n,.slice (some ⟨gw,iL,none⟩) 1 eL] w fun x w2=>x=.returned r/\w2=w'
 shift:∀ (b off n c i gw iL eL:Nat) (cd ce:Value) (w j8 hX:World) (DI eW:TypeId) (tl xk:Nat),i<n->n+1<=c->n<=4611686018427387904->gw≠b->
  w.shape? gw=some (DI,tl)->w.shape? b=some (eW,xk)->xk≠0->w.frozen? ⟨gw,iL,none⟩=false->w.frozen? ⟨gw,tl,none⟩=false->
  (Builtin.copy_ #[T,T] I #[.slice (some ⟨b,off+(i+1)*z,none⟩) (n - i) (c - (i+1)),.slice (some ⟨b,off+i*z,none⟩) (n+1 - i) (c - i)]).run P w.drew=.ok cd j8->
  (Builtin.copy_ #[T,T] I #[.slice (some ⟨b,off+i*z,none⟩) (n+1 - i) (c - i),.slice (some ⟨gw,iL,none⟩) 1 eL]).run P j8=.ok ce hX->
  Calls P f #[.slice (some ⟨b,off,none⟩) n c,.int .i64 i,.slice (some ⟨gw,iL,none⟩) 1 eL] w fun x w2=>x=.returned (.slice (some ⟨b,off,none⟩) (n+1) c)/\w2=hX
 grow:∀ (b off n c i gw iL eL N G:Nat) (cd ce:Value) (w xZ j8 hX:World),i<n->n<=c->c<n+1->n+1<=G->n<=4611686018427387904->
  (Builtin.append_ #[T,I] T #[.slice (some ⟨b,off,none⟩) i c,.int .i64 ((n:Int)+1 - (i:Int))]).run P w=.ok (.slice (some ⟨N,0,none⟩) (n+1) G) xZ->
  (Builtin.copy_ #[T,T] I #[.slice (some ⟨N,i*z,none⟩) (n+1 - i) (G - i),.slice (some ⟨gw,iL,none⟩) 1 eL]).run P xZ=.ok cd j8->
  (Builtin.copy_ #[T,T] I #[.slice (some ⟨N,(i+1)*z,none⟩) (n - i) (G - (i+1)),.slice (some ⟨b,off+i*z,none⟩) (n - i) (c - i)]).run P j8.drew=.ok ce hX->
  Calls P f #[.slice (some ⟨b,off,none⟩) n c,.int .i64 i,.slice (some ⟨gw,iL,none⟩) 1 eL] w fun x w2=>x=.returned (.slice (some ⟨N,0,none⟩) (n+1) G)/\w2=hX
section
variable {P:Program} {G:Nat->ae} {R:Nat->Prop} {B:Nat} {w:World} {h:aM} {μ:cG}
theorem CR (rel:b5 R B w h μ) {b sz o n:Nat} {cs:List ae} {m:M} (ai:h.f b=.cells sz cs) (hm:μ b=some m) (d2:o+n<=sz) :
  ∃ vs:List Value,qS w R h μ ((cs.drop o).take n) vs/\(loadCells ⟨m.r,m.s+o,none⟩ n).run P w=.ok vs.toArray w:=by
 have dZ:=rel.blk b m hm;rw[ai] at dZ;obtain⟨er,dF,arr,e,fe,aC,d9,kn,h4⟩:=dZ;have bz:((cs.drop o).take n).length=n:=by rw[List.length_take,List.length_drop]; omega
 obtain⟨vs,cB,aq⟩:=MS (P:=P) (w:=w) (R:=R) (h:=h) (μ:=μ) (w2:=w) (xs:=(cs.drop o).take n) (blk:=m.r) (o:=m.s+o) (fun _=>rfl) (fun j c am=>by
  have aN:j<n:=by have:=(List.getElem?_eq_some_iff.1 am).1; omega
  rw[List.getElem?_take_of_lt aN,List.getElem?_drop] at am;obtain⟨v,h1,af,ap⟩:=h4 (o+j) c am;refine⟨v,?_,af,ap⟩;simp only[World.cell?,aC,Option.isSome_none];rw[Nat.add_assoc];exact h1)
 refine⟨vs,cB,?_⟩;have:=aq n (by omega) w (fun _=>rfl)
 rwa [List.take_of_length_le (by rw[cB.1,bz]; exact Nat.le_refl _)] at this
theorem Bc (rel:b5 R B w h μ) {t u ty e z:Nat} (iY:P.underlying t=some (.slice e)) (aB:cv P e=some z) {b sz k:Nat} {cs:List ae} {m:M} (ai:h.f b=.cells sz cs) (hm:μ b=some m) (aE:k<=sz)
  {dLen dc sLen sc cnt:Nat} {a:Addr} {xs:List ae} {vs:List Value} (B1:Nat.min sLen dLen=cnt) (bE:xs.length=cnt*z) (agu:(loadCells a (cnt*z)).run P w=.ok vs.toArray w)
  (cB:qS w R h μ xs vs) (dF:m.s+max sz (k+cnt*z)<=m.T) :
  ∃ w',(Builtin.copy_ #[t,u] ty #[.slice (some ⟨m.r,m.s+k,none⟩) dLen dc,.slice (some a) sLen sc]).run P w=.ok (goInt cnt) w' ∧
   dk w h μ w' (h.set b (.cells (max sz (k+cnt*z)) (bS cs k xs))) μ/\b5 R B w' (h.set b (.cells (max sz (k+cnt*z)) (bS cs k xs))) μ:=by
 obtain⟨w',h1,af,ap⟩:=vM (P:=P) rel (cvs:=xs) (vs:=vs) (k:=k) ai hm aE cB.1 (by rw[bE]; exact dF) cB.2;rw[bE] at af ap;refine⟨w',?_,af,ap⟩;simp[Builtin.copy_,cu iY,Builtin.lenOf,Builtin.firstCells,e4 aB,B1,agu,h1]
theorem ZR {b4:World} {h1:aM} {gf:cG} (ob:b5 R B b4 h1 gf) (ex:dk w h μ b4 h1 gf) {b z n nc ns:Nat} {row:List ae} {v:Value} (aJ:h1.f=bO h.f b (.cells ns row)) (aI:h1.n=h.n) (p2:ns=nc*z) (aQ:0<n) (mO:b<h.n)
  (ax:aP b4 R h1 gf (.ao z b 0 n nc ns) v) :
  ∃ μ',dk w h μ b4 ((h.set b .dead).push (.cells ns row)) μ'/\b5 R B b4 ((h.set b .dead).push (.cells ns row)) μ'/\aP b4 R ((h.set b .dead).push (.cells ns row)) μ' (.ao z h.n 0 n nc ns) v:=by
 have gG:h1.f b=.cells ns row:=by rw[aJ,iA]
 cases ax with
 | fA _ _ _ _ _ _ _ _ _ _ az=>
  exfalso;rcases az with az | ⟨ga,cs',az,aN⟩
  ·rw[gG] at az; cases az
  ·rw[gG] at az; cases az; omega
 | gS=>omega
 | ao _ _ _ _ _ _ cap' lZ m jp hm aq ay c4=>
  have nZ:=ob.ZQ (b:=b) (off:=0) (m:=m) (h':=(h.set b .dead).push (.cells ns row)) gG hm (Nat.zero_le _) (by
   rw[dJ,dt,ed,aJ,aI];funext x;simp only[bO,Nat.sub_zero,List.drop_zero];by_cases af:x=h.n
   ·rw[if_pos af,if_pos af]
   ·rw[if_neg af,if_neg af];split<;>rfl) (by rw[eK,ed,aI])
  refine⟨_,ex.trans nZ.1,nZ.2,?_⟩;rw[aI];exact .ao z h.n 0 n nc ns cap' row ⟨m.r,m.s+0,m.T⟩ (by rw[dJ,ed,iA]) (by simp) aq ay (by
   rcases c4 with c4 | ⟨jr,js,wI⟩
   ·omega
   ·exact .inr ⟨jr,js,by simpa using wI⟩)
theorem Ol (w:World) :RowKit.Below w.heap.size w w.drew:=⟨rfl,rfl,rfl,Nat.le_refl _,fun _ _=>rfl⟩
theorem ah8 {z i len:Nat} {cs vs:List ae} (jz:vs.length=z) (aA:i<len) (aq:len*z<=cs.length) :
  bS (bS cs ((i+1)*z) ((cs.drop (i*z)).take ((len - i)*z))) (i*z) vs=mg z cs vs i len:=by
 have h1:(i+1)*z=i*z+z:=by rw[Nat.succ_mul]
 have af:(i+1)*z<=len*z:=Nat.mul_le_mul_right _ aA;have ap:i*z+(len - i)*z=len*z:=by rw[<-Nat.add_mul]; congr 1; omega
 have aH:(len+1)*z=len*z+z:=by rw[Nat.succ_mul]
 have BF:((cs.drop (i*z)).take ((len - i)*z)).length=(len - i)*z:=by rw[List.length_take,List.length_drop]; omega
 have cA:(cs.take ((i+1)*z)).length=i*z+z:=by rw[List.length_take]; omega
 unfold mg bS;rw[BF,jz];have a1:(i+1)*z+(len - i)*z=(len+1)*z:=by omega
 rw[a1,List.append_assoc (cs.take ((i+1)*z)),List.take_append_of_le_length (by rw[cA]; omega),List.take_take,show min (i*z) ((i+1)*z)=i*z by omega];rw[show i*z+z=(cs.take ((i+1)*z)).length by rw[cA],List.drop_left];simp only[List.append_assoc]
theorem ah6 {z i len:Nat} {cs vs:List ae} (jz:vs.length=z) (aA:i<len) (aq:len*z=cs.length) :
  bS (bS (cs.take (i*z)) (i*z) vs) ((i+1)*z) ((cs.drop (i*z)).take ((len - i)*z))=mg z cs vs i len:=by
 have h1:(i+1)*z=i*z+z:=by rw[Nat.succ_mul]
 have af:(i+1)*z<=len*z:=Nat.mul_le_mul_right _ aA;have ap:i*z+(len - i)*z=len*z:=by rw[<-Nat.add_mul]; congr 1; omega
 have aH:(len+1)*z=len*z+z:=by rw[Nat.succ_mul]
 have cA:(cs.take (i*z)).length=i*z:=by rw[List.length_take]; omega
 have gM:bS (cs.take (i*z)) (i*z) vs=cs.take (i*z)++vs:=by
  unfold bS;rw[List.drop_eq_nil_of_le (by rw[cA]; omega),List.append_nil,List.take_of_length_le (by rw[cA]; exact Nat.le_refl _)]
 rw[gM];unfold mg bS;have a1:(cs.take (i*z)++vs).take ((i+1)*z)=cs.take (i*z)++vs:=List.take_of_length_le (by rw[List.length_append,cA,jz]; omega);have b7:∀ k,(cs.take (i*z)++vs).drop ((i+1)*z+k)=[] :=fun k=>List.drop_eq_nil_of_le (by rw[List.length_append,cA,jz]; omega)
 have dO:cs.drop ((len+1)*z)=[] :=List.drop_eq_nil_of_le (by omega);rw[a1,b7,dO]
theorem ai6 (a b z:Nat) :max a b*z=max (a*z) (b*z) :=by
 rcases Nat.le_total a b with h | h
 ·rw[Nat.max_eq_right h,Nat.max_eq_right (Nat.mul_le_mul_right _ h)]
 ·rw[Nat.max_eq_left h,Nat.max_eq_left (Nat.mul_le_mul_right _ h)]
theorem ah1 {T e z by_:Nat} (d9:hp P T=some e) (aB:cv P e=some z) (dE:iR P e=some by_) (nU:0<z) (uK:0<by_) (gO:qI P e=some z)
  {b gL len cap:Nat} {cs vs:List ae} (ai:h.f b=.cells (cap*z) cs) (er:cs.length=cap*z) (jq:h.f gL=.cells z vs) (jz:vs.length=z) (mV:len<=cap) (ds:(len+1)*by_<=cJ) :
  pB P h T (.ao z b 0 len cap (cap*z)) (.ao z gL 0 1 1 z)=some (.ao z b 0 (len+1) (max cap (len+1)) (max cap (len+1)*z),h.set b (.cells (max cap (len+1)*z) (mg z cs vs len len))) :=by
 have aH:(len+1)*z=len*z+z:=by rw[Nat.succ_mul]
 have dv:len*z<=cap*z:=Nat.mul_le_mul_right _ mV;have cB:mg z cs vs len len=cs.take (len*z)++vs++cs.drop ((len+1)*z) :=by simp[mg]
 have kY:(vs.drop 0).take (1*z)=vs:=by rw[List.drop_zero,Nat.one_mul,List.take_of_length_le (by omega)]
 unfold pB;rw[d9];simp only[aB,dE,contents,jq,and_self,if_true,kY];unfold so;rw[if_neg (by omega),if_neg (by rw[gO]; simp; omega)];simp only[ai,true_and,ds,if_true];by_cases aJ:len+1<=cap
 ·have TJ:(len+1)*z<=cap*z:=Nat.mul_le_mul_right _ aJ;rw[if_pos aJ,Nat.max_eq_left aJ,cB];simp only[bS,Nat.zero_add,jz,<-aH]
 ·obtain rfl:len=cap:=by omega
  rw[if_neg aJ,if_neg (by omega),Nat.max_eq_right (by omega),cB,List.drop_eq_nil_of_le (by omega),List.append_nil]
theorem ah3 {f T I e z by_:Nat} (L:AA P f T I e z) (d9:hp P T=some e) (aB:cv P e=some z) (dE:iR P e=some by_) (nU:0<z) (uK:0<by_) (gO:qI P e=some z)
  {b gL len cap i:Nat} {cs vs:List ae} (ai:h.f b=.cells (cap*z) cs) (jq:h.f gL=.cells z vs) (b0:gL≠b) (aA:i<=len) (mV:len<=cap) (ds:(len+1)*by_<=cJ) :
  qJ P G f [.ao z b 0 len cap (cap*z),.int .i64 i,.ao z gL 0 1 1 z] h (.ao z h.n 0 (len+1) (max cap (len+1)) (max cap (len+1)*z)) ((h.set b .dead).push (.cells (max cap (len+1)*z) (mg z cs vs i len))) :=by
 intro R B w μ dK rel Bx aq ax;obtain⟨mw⟩:=dK
 match mw,aq with
 | [v0,e0,dx],_=>
 have hN:=ax 0 _ v0 rfl rfl;have kY:=ax 1 _ e0 rfl rfl;have vb:=ax 2 _ dx rfl rfl;have I2:=vb;cases kY;have pP:len<=4611686018427387904:=by
  have:=Nat.le_mul_of_pos_right (len+1) uK;unfold cJ at ds;omega
 have Iu:xq P T:=⟨_,L.vJ,fun k aE=>by cases aE⟩
 have ik:=ai6 cap (len+1) z;have aH:(len+1)*z=len*z+z:=by rw[Nat.succ_mul]
 have dv:len*z<=cap*z:=Nat.mul_le_mul_right _ mV;cases vb with
 | fA _ _ _ _ _ _ _ _ _ _ az=>
  exfalso;rcases az with az | ⟨ga,cs',az,aN⟩
  ·rw[jq] at az; cases az
  ·rw[jq] at az; cases az; omega
 | ao _ _ _ _ _ _ eL am5 av aft uW nR Ix iV=>
 have yK:=rel.blk gL av uW;rw[jq] at yK;obtain⟨jz,aqi,Oa,cU,apI,IP,apZ,Tg,aqc⟩:=yK;by_cases d1:i=len
 ·subst d1;have agz:∃ a cap',v0=.slice (some a) i cap'/\i<=cap'/\cs.length=cap*z/\b<h.n:=by
   cases hN with
   | fA _ _ _ _ _ _ _ _ _ _ az=>
    exfalso;rcases az with az | ⟨ga,cs',az,aN⟩
    ·rw[ai] at az; cases az
    ·rw[ai] at az; cases az; omega
   | gS _ _ _ _ a lZ m jp hm=>
    have dZ:=rel.blk b m hm;rw[ai] at dZ;exact⟨a,0,rfl,Nat.le_refl _,dZ.1,rel.pD hm⟩
   | ao _ _ _ _ _ _ cap' lZ m jp hm aq ay c4=>
    have dZ:=rel.blk b m hm;rw[ai] at dZ;exact⟨_,cap',rfl,by omega,dZ.1,rel.pD hm⟩
  obtain⟨a,cap',rfl,Ck,er,mO⟩:=agz;obtain⟨v,b4,gf,g8,wM,IL,rD⟩:=El (P:=P) (ty:=T) (u:=T) rel Iu (ah1 (P:=P) d9 aB dE nU uK gO ai er jq jz mV ds) hN I2;refine (L.fin (some a) i cap' eL av.r (av.s+0) v w b4 Ck pP (fun h=>by cases h) g8).mono ?_;rintro x w2 ⟨rfl,rfl⟩;obtain⟨μ',h1,af,ap⟩:=ZR (h:=h) IL wM (b:=b) (row:=mg z cs vs i i) (ns:=max cap (i+1)*z) (dt _ _ _) rfl rfl (by omega) mO rD;exact⟨v,μ',rfl,h1,af,ap⟩
 have yV:i<len:=by omega
 have apM:(i+1)*z=i*z+z:=by rw[Nat.succ_mul]
 have apO:(i+1)*z<=len*z:=Nat.mul_le_mul_right _ yV;have apP:i*z+(len - i)*z=len*z:=by rw[<-Nat.add_mul]; congr 1; omega
 cases hN with
 | fA _ _ _ _ _ _ _ _ _ _ az=>
  exfalso;rcases az with az | ⟨ga,cs',az,aN⟩
  ·rw[ai] at az; cases az
  ·rw[ai] at az; cases az; omega
 | gS=>omega
 | ao _ _ _ _ _ _ cap' lZ m jp hm aqt ay c4=>
 rw[ai] at jp; cases jp;have dZ:=rel.blk b m hm;rw[ai] at dZ;obtain⟨er,aqh,arr,l2,fe,aC,apY,kn,h4⟩:=dZ;obtain⟨js,wI⟩:cap<=cap'/\m.s+cap'*z<=m.T:=by
  rcases c4 with c4 | ⟨jr,js,wI⟩
  ·omega
  ·exact⟨js,by simpa using wI⟩
 have mO:=rel.pD hm;have Iq:av.r≠m.r:=fun aw=>b0 (rel.inj gL b av m (by rw[jq]; rfl) (by rw[ai]; rfl) uW hm aw)
 have kY:(vs.drop 0).take z=vs:=by rw[List.drop_zero,List.take_of_length_le (by omega)]
 have SA:((cs.drop (i*z)).take ((len - i)*z)).length=(len - i)*z:=by rw[List.length_take,List.length_drop]; omega
 by_cases dF:len+1<=cap'
 ·have TJ:(len+1)*z<=cap'*z:=Nat.mul_le_mul_right _ dF;obtain⟨Bl,r4⟩:=MD rel (w':=w.drew) (Ol w);obtain⟨co,Cx,Io⟩:=CR (P:=P) r4 (o:=i*z) (n:=(len - i)*z) ai hm (by omega);obtain⟨j8,sY,ys,ob⟩:=Bc (P:=P) (t:=T) (u:=T) (ty:=I) r4 L.vJ aB (k:=(i+1)*z) ai hm (by omega) (dLen:=len - i) (dc:=cap' - (i+1)) (sLen:=len+1 - i) (sc:=cap' - i) (cnt:=len - i)
   (by simp only[Nat.min_def]; split<;>omega) SA Io Cx (by omega)
  have w3:max (cap*z) ((i+1)*z+(len - i)*z)=max cap (len+1)*z:=by omega
  rw[w3] at ys ob;have gG:(h.set b (.cells (max cap (len+1)*z) (bS cs ((i+1)*z) ((cs.drop (i*z)).take ((len - i)*z))))).f b=.cells (max cap (len+1)*z) (bS cs ((i+1)*z) ((cs.drop (i*z)).take ((len - i)*z))) :=by rw[dt,iA]
  have afu:(h.set b (.cells (max cap (len+1)*z) (bS cs ((i+1)*z) ((cs.drop (i*z)).take ((len - i)*z))))).f gL=.cells z vs:=by rw[dt,cb _ _ _ _ b0]; exact jq
  obtain⟨CW,Cy,Ip⟩:=CR (P:=P) ob (o:=0) (n:=z) afu uW (by omega);rw[kY] at Cy;obtain⟨hX,sZ,sM,qy⟩:=Bc (P:=P) (t:=T) (u:=T) (ty:=I) ob L.vJ aB (k:=i*z) gG hm (by omega) (dLen:=len+1 - i) (dc:=cap' - i) (sLen:=1) (sc:=eL) (cnt:=1)
   (by simp only[Nat.min_def]; split<;>omega) (by omega) (by rw[Nat.one_mul]; exact Ip) Cy (by omega)
  have w4:max (max cap (len+1)*z) (i*z+1*z)=max cap (len+1)*z:=by omega
  rw[w4,ah8 jz yV (by omega)] at sM qy;have H4:w.frozen? ⟨av.r,av.s+0,none⟩=false:=by
   simp only[World.frozen?,IP];rcases Tg with aQ | aQ
   ·subst aQ; simp
   ·simp; intro ap; omega
  have yQ:w.frozen? ⟨av.r,Oa.size,none⟩=false:=by
   simp only[World.frozen?,IP];rcases Tg with aQ | aQ
   ·subst aQ; simp
   ·simp; intro ap; omega
  refine (L.shift m.r m.s len cap' i av.r (av.s+0) eL _ _ w j8 hX cU l2 Oa.size arr.size yV dF pP Iq (by simp[World.shape?,IP]) (by simp[World.shape?,aC]) (by omega) H4 yQ sY sZ).mono ?_;rintro x w2 ⟨rfl,rfl⟩;obtain⟨μ',h1,af,ap⟩:=ZR (h:=h) qy ((Bl.trans ys).trans sM) (b:=b) (row:=mg z cs vs i len) (ns:=max cap (len+1)*z) (n:=len+1) (nc:=max cap (len+1)) (z:=z) (v:=.slice (some ⟨m.r,m.s+0,none⟩) (len+1) cap') (by
   rw[dt,dt];funext y;simp only[bO];split<;>rfl) rfl rfl (by omega) mO (.ao z b 0 (len+1) (max cap (len+1)) (max cap (len+1)*z) cap' _ m (by rw[dt,iA]) hm (by omega) (by omega) (.inr ⟨by omega,by omega,by simpa using wI⟩))
  exact⟨_,μ',rfl,h1,af,ap⟩
 ·obtain rfl:cap=len:=by omega
  obtain rfl:cap'=cap:=by omega
  obtain⟨td,zv,H9,jU,il⟩:=abk gO;have n0:td.size=z:=by simp[cv,H9] at aB; exact aB
  have km:td.bytes=by_:=by simp[iR,H9] at dE; exact dE
  have da:contents h z (.ao z b 0 i cap' (cap'*z))=some ((cs.drop 0).take (i*z),i) :=by simp[contents,ai]
  obtain⟨dh,_,eX,g7,u0⟩:=sH (P:=P) rel da (aP.ao z b 0 i cap' (cap'*z) cap' cs m ai hm (by omega) (by omega) (.inr ⟨by omega,Nat.le_refl _,by simpa using wI⟩));have y8:=u0 i (Nat.le_refl _) w.drew (fun _=>rfl);rw[List.take_of_length_le (by rw[g7.1,dh]; exact Nat.le_refl _)] at y8;rw[List.drop_zero] at g7 dh;have Uh:(cap'+1)*td.bytes<=cJ:=by rw[km]; exact ds
  have rp:i+(cap'+1 - i)=cap'+1:=by omega
  have ap4:(cap'+1 - i)*td.bytes<=(cap'+1)*td.bytes:=Nat.mul_le_mul_right _ (by omega);have kN:=Lib.run_append_grow_zeros w T I T e td zv .i64 .i64 L.vJ L.amT H9 jU (some ⟨m.r,m.s+0,none⟩) i cap' eX (by rw[n0]; exact y8) (cap'+1 - i) (by omega) (by omega) (by omega) (by omega) (by unfold cJ at Uh; omega)
   (by rw[rp]; have:=growslice_fits (old:=cap') (need:=cap'+1) (by omega) Uh; omega)
  rw[rp] at kN;obtain⟨pw,SB⟩:∃ pw,pw=grownCap w (cap'+1) cap' e:=⟨_,rfl⟩
  have SC:cap'+1<=pw:=by rw[SB]; exact grownCap_ge w _ _ _
  rw[<-SB] at kN;obtain⟨ROW,BL⟩:∃ ROW:Array Value,ROW=eX.toArray++Builtin.zeroCells zv.cells (cap'+1 - i)++Builtin.zeroCells zv.cells (pw - (cap'+1)) :=⟨_,rfl⟩
  rw[<-BL] at kN;have apX:(cap'+1)*z<=ROW.size:=by
   have a1:i*z+(cap'+1 - i)*z=(cap'+1)*z:=by rw[<-Nat.add_mul]; congr 1
   rw[BL];simp only[Array.size_append,List.size_toArray,Builtin.zeroCells];simp[il,g7.1];omega
  have cA:(cs.take (i*z)).length=i*z:=by rw[List.length_take]; omega
  obtain⟨Bl,r4⟩:=rel.push (w':=w.drew.alloc (.cells ROW e)) (cs.take (i*z)) ROW e rfl rfl rfl rfl (by omega) (fun j c am=>by
   obtain⟨v,aV,aY,bd⟩:=g7.2 j c am;refine⟨v,?_,aY,bd⟩;have aN:j<eX.length:=(List.getElem?_eq_some_iff.1 aV).1;rw[BL,Array.append_assoc,Array.getElem?_append_left (by simpa using aN)];simpa using aV)
  rw[cA] at Bl r4;have BW:b≠h.n:=by omega
  have aqa:=rel.pD uW;have SV:gL≠h.n:=by omega
  have mX:(bO μ h.n (some ⟨w.heap.size,0,ROW.size⟩)) h.n=some ⟨w.heap.size,0,ROW.size⟩:=iA _ _ _;have agF:(bO μ h.n (some ⟨w.heap.size,0,ROW.size⟩)) gL=some av:=by rw[cb _ _ _ _ SV]; exact uW
  have agA:(bO μ h.n (some ⟨w.heap.size,0,ROW.size⟩)) b=some m:=by rw[cb _ _ _ _ BW]; exact hm
  have afl:(h.push (.cells (i*z) (cs.take (i*z)))).f h.n=.cells (i*z) (cs.take (i*z)) :=by rw[dJ,iA]
  have afn:(h.push (.cells (i*z) (cs.take (i*z)))).f gL=.cells z vs:=by rw[dJ,cb _ _ _ _ SV]; exact jq
  obtain⟨CW,Cx,Io⟩:=CR (P:=P) r4 (o:=0) (n:=z) afn agF (by omega);rw[kY] at Cx;obtain⟨j8,sY,ys,ob⟩:=Bc (P:=P) (t:=T) (u:=T) (ty:=I) r4 L.vJ aB (k:=i*z) afl mX (Nat.le_refl _) (dLen:=cap'+1 - i) (dc:=pw - i) (sLen:=1) (sc:=eL) (cnt:=1)
   (by simp only[Nat.min_def]; split<;>omega) (by omega) (by rw[Nat.one_mul]; exact Io) Cx (by simp only; omega)
  have w3:max (i*z) (i*z+1*z)=(i+1)*z:=by omega
  rw[w3] at ys ob;obtain⟨ad5,ZL⟩:=MD ob (w':=j8.drew) (Ol j8);have afm:((h.push (.cells (i*z) (cs.take (i*z)))).set h.n (.cells ((i+1)*z) (bS (cs.take (i*z)) (i*z) vs))).f h.n=.cells ((i+1)*z) (bS (cs.take (i*z)) (i*z) vs) :=by rw[dt,iA]
  have SR:((h.push (.cells (i*z) (cs.take (i*z)))).set h.n (.cells ((i+1)*z) (bS (cs.take (i*z)) (i*z) vs))).f b=.cells (cap'*z) cs:=by rw[dt,cb _ _ _ _ BW,dJ,cb _ _ _ _ BW]; exact ai
  obtain⟨co,Cy,Ip⟩:=CR (P:=P) ZL (o:=i*z) (n:=(cap' - i)*z) SR agA (by omega);obtain⟨hX,sZ,sM,qy⟩:=Bc (P:=P) (t:=T) (u:=T) (ty:=I) ZL L.vJ aB (k:=(i+1)*z) afm mX (Nat.le_refl _) (dLen:=cap' - i) (dc:=pw - (i+1)) (sLen:=cap' - i) (sc:=cap' - i) (cnt:=cap' - i)
   (by simp only[Nat.min_def]; split<;>omega) SA Ip Cy (by simp only; omega)
  have w4:max ((i+1)*z) ((i+1)*z+(cap' - i)*z)=(cap'+1)*z:=by omega
  rw[w4,ah6 jz yV (by omega)] at sM qy;simp only[Nat.zero_add] at sY sZ;have agL:max cap' (cap'+1)=cap'+1:=by omega
  rw[agL];refine (L.grow m.r (m.s+0) cap' cap' i av.r (av.s+0) eL w.heap.size pw _ _ w _ j8 hX yV (Nat.le_refl _) (by omega) SC pP ?_ sY sZ).mono ?_
  ·have:(cap' : Int)+1 - (i:Int)=((cap'+1 - i:Nat) :Int) :=by omega
   rw[this];exact kN
  rintro x w2 ⟨rfl,rfl⟩;have aE:=qy.kill (b:=b) (sz:=cap'*z) (cs:=cs) (h':=(h.set b .dead).push (.cells ((cap'+1)*z) (mg z cs vs i cap'))) (by rw[dt,cb _ _ _ _ BW]; exact SR) (by rw[ed,ed,eK]; omega) (by
   rw[dJ,dt,ed,dt,dt,dJ];funext y;simp only[bO];by_cases h1:y=h.n
   ·rw[if_pos h1,if_neg (by omega),if_pos h1]
   ·rw[if_neg h1];split
    ·rfl
    ·simp[h1]) (by rw[eK,ed,ed,ed,eK])
  refine⟨_,_,rfl,(((Bl.trans ys).trans ad5).trans sM).trans aE.1,aE.2,?_⟩;have:=aP.ao (w:=w2) (R:=R) (h:=(h.set b .dead).push (.cells ((cap'+1)*z) (mg z cs vs i cap'))) (μ:=bO μ h.n (some ⟨w.heap.size,0,ROW.size⟩)) z h.n 0 (cap'+1) (cap'+1) ((cap'+1)*z) pw (mg z cs vs i cap') ⟨w.heap.size,0,ROW.size⟩ (by rw[dJ,ed,iA]) (by simp) (Nat.le_refl _) (by omega) (.inr ⟨by omega,SC,by
   simp only;have a1:i*z+(cap'+1 - i)*z=(cap'+1)*z:=by rw[<-Nat.add_mul]; congr 1
   have b7:(cap'+1)*z+(pw - (cap'+1))*z=pw*z:=by rw[<-Nat.add_mul]; congr 1; omega
   rw[BL];simp only[Array.size_append,List.size_toArray,Builtin.zeroCells];simp[il,g7.1];omega⟩)
  simpa using this
theorem ah2 {f T I e z by_:Nat} (L:AA P f T I e z) (d9:hp P T=some e) (aB:cv P e=some z) (dE:iR P e=some by_) (nU:0<z) (uK:0<by_) (gO:qI P e=some z)
  {gL:Nat} {vs:List ae} (jq:h.f gL=.cells z vs) (ds:by_<=cJ) :
  qJ P G f [.a6,.int .i64 0,.ao z gL 0 1 1 z] h (.ao z h.n 0 1 1 z) (h.push (.cells z vs)) :=by
 intro R B w μ dK rel Bx aq ax;obtain⟨mw⟩:=dK
 match mw,aq with
 | [v0,e0,dx],_=>
 have hN:=ax 0 _ v0 rfl rfl;have kY:=ax 1 _ e0 rfl rfl;have vb:=ax 2 _ dx rfl rfl;have I2:=vb;cases kY;have ahw:=hN;cases hN;have Iu:xq P T:=⟨_,L.vJ,fun k aE=>by cases aE⟩
 cases vb with
 | fA _ _ _ _ _ _ _ _ _ _ az=>
  exfalso;rcases az with az | ⟨ga,cs',az,aN⟩
  ·rw[jq] at az; cases az
  ·rw[jq] at az; cases az; omega
 | ao _ _ _ _ _ _ eL am5 av aft uW nR Ix iV=>
 have yK:=rel.blk gL av uW;rw[jq] at yK;obtain⟨jz,_⟩:=yK;have aG:pB P h T .a6 (.ao z gL 0 1 1 z)=some (.ao z h.n 0 1 1 z,h.push (.cells z vs)) :=by
  have kY:(vs.drop 0).take (1*z)=vs:=by rw[List.drop_zero,Nat.one_mul,List.take_of_length_le (by omega)]
  unfold pB;rw[d9];simp only[aB,dE,contents,jq,and_self,if_true,kY];unfold so;rw[if_neg (by omega),if_neg (by rw[gO]; simp; omega)];simp only[Nat.one_mul,ds,if_true]
 obtain⟨v,b4,gf,g8,wM,IL,rD⟩:=El (P:=P) (ty:=T) (u:=T) rel Iu aG ahw I2;refine (L.fin none 0 0 eL av.r (av.s+0) v w b4 (Nat.le_refl _) (by omega) (fun _=>⟨rfl,rfl⟩) g8).mono ?_;rintro x w2 ⟨rfl,rfl⟩;exact⟨v,gf,rfl,wM,IL,rD⟩
theorem ahX {f T I e z by_:Nat} (L:AA P f T I e z) (d9:hp P T=some e) (aB:cv P e=some z) (dE:iR P e=some by_) (nU:0<z) (uK:0<by_) (gO:qI P e=some z)
  (args:List ae) (h:aM) (r:ae) (h' : aM) (aj:rI z by_ args h=some (r,h')) :qJ P G f args h r h':=by
 unfold rI at aj;split at aj
 ·rename_i s x y;split at aj
  ·rename_i i jH gL mn cg de mq oX;have ahE:x=.int .i64 i:=by
    unfold Ob at oX;split at oX
    ·split at oX
     ·cases oX; rfl
     ·cases oX
    ·cases oX
   subst ahE;split at aj
   ·rename_i iG vs jq;split at aj
    ·rename_i ak;obtain⟨rfl,rfl,rfl,rfl,rfl,rfl,aQ⟩:=ak;obtain⟨k,rfl⟩:=Int.eq_ofNat_of_zero_le aQ;rw[Int.toNat_natCast] at aj;unfold zq at aj;cases s<;>simp only at aj<;>try (cases aj; done)
     case a6=>
      split at aj
      ·rename_i ak;obtain⟨rfl,aC⟩:=ak;cases aj;exact ah2 L d9 aB dE nU uK gO jq aC
      ·cases aj
     case ao om b off len cap sz=>
      cases ai:h.f b<;>rw[ai] at aj<;>(try simp only at aj)<;>try (cases aj; done)
      split at aj
      ·rename_i ak;obtain⟨rfl,rfl,rfl,rfl,b0,aA,mV,aC⟩:=ak;cases aj;exact ah3 L d9 aB dE nU uK gO ai jq b0 aA mV aC
      ·cases aj
    ·cases aj
   ·cases aj
  ·cases aj
 ·cases aj
end
end Go.cl

/-
  The canonical machine: appending to a slice of one's own, with a frame for nil; a set's frames.
-/
import Derived.Test.YtboebmmklamaeaaGreatDoorWf
import Derived.Lib.AppendZerosOnto
set_option linter.unusedVariables false
set_option linter.unusedSimpArgs false
set_option linter.unnecessarySimpa false
namespace Go.cj
open Go
section
variable {P:Program} {l:av} {aB:Operand->ae}
@[simp ↓] theorem avw:bR P aB l (.pn none)=some (.mp l.length,l++[.map [] 0]) :=id rfl
@[simp ↓] theorem avr (cK:TypeId) (zero:ae) (ok:Bool) (m k:Operand) :bR P aB l (.sa cK zero ok m k)=dg l (tO P l cK zero ok (aB m) (aB k)) :=id rfl
@[simp ↓] theorem avy (cK:TypeId) (m k x:Operand) :bR P aB l (.qG cK m k x)=(qF P l cK (aB m) (aB k) (aB x)).map fun l'=>(gp,l') :=id rfl
@[simp ↓] theorem avq (x:Operand) :bR P aB l (.tN x)=dg l (zY l (aB x)) :=id rfl
@[simp ↓] theorem avD (x:Operand) :bR P aB l (.sr x)=xN l (aB x) :=id rfl
@[simp ↓] theorem avB (x:Operand) :bR P aB l (.sh x)=sg l (aB x) :=id rfl
@[simp ↓] theorem auF (x:Option Operand) (v:ae) (K:ae->av->Prop) :dR (.pn x) v l K=K v l:=id rfl
@[simp ↓] theorem auA (cK:TypeId) (zero:ae) (ok:Bool) (m k:Operand) (v:ae) (K:ae->av->Prop) :dR (.sa cK zero ok m k) v l K=K v l:=id rfl
@[simp ↓] theorem auH (cK:TypeId) (m k x:Operand) (v:ae) (K:ae->av->Prop) :dR (.qG cK m k x) v l K=K v l:=id rfl
@[simp ↓] theorem auz (x:Operand) (v:ae) (K:ae->av->Prop) :dR (.tN x) v l K=K v l:=id rfl
@[simp ↓] theorem auM (x:Operand) (v:ae) (K:ae->av->Prop) :dR (.sr x) v l K=K v l:=id rfl
@[simp ↓] theorem auK (x:Operand) (v:ae) (K:ae->av->Prop) :dR (.sh x) v l K=K v l:=id rfl
end
section
variable {z:Nat} {l l' : av} {v:ae} {j:Nat} {es:List (List ae)}
theorem Ot (h:b0 z l v j es) {by_:Nat} {x:ae} {xs:List (List ae)} (ak:dj l z x=some (xs.flatten,xs.length)) (kY:∀ e∈xs,e.length=z) (aO:z≠0) (dE:by_≠0) (dk:(es.length+xs.length)*by_<=cQ) :
  ∃ bc cJ l',iR l z by_ v x=some (bc,l')/\b0 z l' bc cJ (es++xs)/\l.length<=l'.length/\(∀ b,b<l.length->v=.aZ\/b≠j->l'[b]? = l[b]?)/\(l.length<=cJ\/(v≠.aZ/\cJ=j)\/bc=.aZ)/\cS bc=(cS v&&xs.isEmpty) :=by
 by_cases ax:v=.aZ
 ·subst ax;have aw:es=[] :=h.q.xA;subst aw;obtain⟨bc,cJ,l1,h1,ag,aq,aK,bg,bL⟩:=mu (.nil (z:=z) (l:=l) (l.length+1)) ak kY aO dE dk;refine⟨bc,cJ,l1,h1,ag,aq,fun b aj _=>aK b aj (by omega),?_,r4 bL⟩;rcases bg with bg | bg
  ·exact .inl (by omega)
  ·exact .inl bg
 ·obtain⟨bc,cJ,l1,h1,ag,aq,aK,bg,bL⟩:=mu h ak kY aO dE dk;refine⟨bc,cJ,l1,h1,ag,aq,fun b aj aH=>aK b aj (aH.resolve_left ax),?_,r4 bL⟩;rcases bg with bg | bg
  ·exact .inr (.inl ⟨ax,bg⟩)
  ·exact .inl bg
theorem b0.cM (h:b0 z l v j es) (aJ:∀ b,b<l.length->b=j->l'[b]? = l[b]?) :b0 z l' v j es:=h.frame fun am=>aJ j am rfl
end
inductive kE where
 | b
 | i (k:IntKind)
 | s
def D1:kE->ae->Bool
 | .b,.bool _=>true
 | .i k,.int k' _=>decide (k=k')
 | .s,.str _=>true
 | _,_=>false
def hf:List kE->List ae->Bool
 | [],[]=>true
 | k::bQ,c::cs=>D1 k c&&hf bQ cs
 | _,_=>false
theorem z6:∀ {bQ:List kE} {cs:List ae},hf bQ cs=true->cs.length=bQ.length
 | [],[],_=>rfl
 | [],_::_,h=>by cases h
 | _::_,[],h=>by cases h
 | k::bQ,c::cs,h=>by simp only[hf,Bool.and_eq_true] at h; simp[z6 h.2]
theorem z7:∀ {l r:List kE} {m:List ae},hf (l++r) m=true->∃ i8 iF,m=i8++iF/\hf l i8=true/\hf r iF=true
 | [],r,m,h=>⟨[],m,rfl,rfl,h⟩
 | k::l,r,[],h=>by cases h
 | k::l,r,c::m,h=>by
  simp only[List.cons_append,hf,Bool.and_eq_true] at h;obtain⟨i8,iF,rfl,h1,ag⟩:=z7 h.2;exact⟨c::i8,iF,rfl,by simp[hf,h.1,h1],ag⟩
theorem Xz {k:IntKind} {xs:List ae} (h:hf [.i k] xs=true) :∃ p,xs=[.int k p] :=by
 cases xs with
 | nil=>cases h
 | cons c r=>
  simp only[hf,Bool.and_eq_true] at h;cases r with
  | cons _ _=>cases h.2
  | nil=>
   cases c<;>simp only[D1] at h<;>try (cases h.1; done)
   rename_i k' p;have aF:k=k':=by simpa using h.1
   subst aF;exact⟨p,rfl⟩
theorem EG:∀ {h4 jj j8 lP:List ae},h4.length=jj.length->eO (h4++j8) (jj++lP)=(eO h4 jj&&eO j8 lP)
 | [],[],_,_,_=>by simp[eO]
 | [],_::_,_,_,h=>by simp at h
 | _::_,[],_,_,h=>by simp at h
 | a::h4,b::jj,j8,lP,h=>by
  simp only[List.length_cons,Nat.add_right_cancel_iff] at h;simp only[List.cons_append,eO,EG h,Bool.and_assoc]
section
variable (P:Program)
def C4 (f:TypeId->Option (List kE)) :List Field->Nat->Option (List kE)
 | [],_=>some []
 | fd::fs,o=>match f fd.type,cr P fd.type with
  | some l,some z=>match fd.name != "_"&&Nat.beq fd.offset o&&Nat.beq l.length z with
   | true=>match C4 f fs (o+z) with
    | some r=>some (l++r)
    | none=>none
   | false=>none
  | _,_=>none
def qC:Nat->TypeId->Option (List kE)
 | 0,_=>none
 | d+1,t=>match P.underlying t with
  | some .bool=>some [.b]
  | some (.int k)=>some [.i k]
  | some .string=>some [.s]
  | some (.array n e)=>match qC d e,cr P e with
   | some l,some z=>match Nat.beq l.length z with
    | true=>some (List.replicate n l).flatten
    | false=>none
   | _,_=>none
  | some (.struct fs)=>match P.stoodInHeld t with
   | false=>C4 P (qC d) fs.toList 0
   | true=>none
  | _=>none
def jk (t:TypeId) (l:List ae) :Option ae:=match dC P t with
 | some true=>some (.aV l)
 | some false=>l[0]?
 | none=>none
end
variable {P:Program}
theorem Du {t:TypeId} {z:Nat} (aC:cr P t=some z) {pre mid post:List ae} (hm:mid.length=z) (ay:dC P t=some false->mid.length=1) :gQ P t (pre++(mid++post)) pre.length=jk P t mid:=by
 unfold gQ jk;rw[aC];cases aI:dC P t with
 | none=>rfl
 | some g=>
  cases g with
  | true=>
   simp only;rw[if_pos (by simp; omega),List.drop_left,List.take_append_of_le_length (by omega),List.take_of_length_le (by omega)]
  | false=>
   have:=ay aI;simp only;rw[List.getElem?_append_right (by omega),Nat.sub_self,List.getElem?_append_left (by omega)]
def EqAt (P:Program) (f:TypeId->Option (List kE)) (eq:TypeId->ae->ae->Option Bool) :Prop:=
 ∀ t bQ,f t=some bQ->(dC P t=some false->bQ.length=1)/\∀ xs bd,hf bQ xs=true->hf bQ bd=true->∃ a b,jk P t xs=some a/\jk P t bd=some b/\eq t a b=some (eO xs bd)
theorem Su {f:TypeId->Option (List kE)} {eq:TypeId->ae->ae->Option Bool} (aw:EqAt P f eq) :∀ (fs:List Field) (o:Nat) (bQ:List kE),C4 P f fs o=some bQ->∀ (m9 na cB m3:List ae),m9.length=o->na.length=o->hf bQ cB=true->hf bQ m3=true->
  dT.eqFields P eq (m9++cB) (na++m3) fs=some (eO cB m3)
 | [],o,bQ,h,m9,na,cB,m3,ak,aP,ph,r7=>by
  cases h;cases cB with
  | nil=>cases m3 with | nil=>rfl | cons _ _=>cases r7
  | cons _ _=>cases ph
 | fd::fs,o,bQ,h,m9,na,cB,m3,ak,aP,ph,r7=>by
  unfold C4 at h;split at h
  ·rename_i l z ar aC;split at h
   ·rename_i al;simp only[Bool.and_eq_true,bne_iff_ne,ne_eq] at al;split at h
    ·rename_i r aD;cases h;obtain⟨h4,j8,rfl,bt,bE⟩:=z7 ph;obtain⟨jj,lP,rfl,dV,dK⟩:=z7 r7;have az:fd.offset=o:=Nat.eq_of_beq_eq_true al.1.2;have CC:l.length=z:=Nat.eq_of_beq_eq_true al.2;obtain⟨aY,a6⟩:=aw _ _ ar;obtain⟨a,b,nJ,lX,ru⟩:=a6 h4 jj bt dV;have JY:=z6 bt;have JZ:=z6 dV;unfold dT.eqFields;rw[if_neg al.1.1,az];rw[show gQ P fd.type (m9++(h4++j8)) o=some a by rw[<-ak,Du aC (by omega) (fun h=>by rw[JY]; exact aY h)]; exact nJ];rw[show gQ P fd.type (na++(jj++lP)) o=some b by rw[<-aP,Du aC (by omega) (fun h=>by rw[JZ]; exact aY h)]; exact lX];simp only[ru];rw[EG (by omega)];have aM:=Su aw fs (o+z) r aD (m9++h4) (na++jj) j8 lP (by simp; omega) (by simp; omega) bE dK;rw[List.append_assoc,List.append_assoc] at aM;cases eO h4 jj with
     | true=>simpa using aM
     | false=>simp
    ·cases h
   ·cases h
  ·cases h
theorem St {eq:TypeId->ae->ae->Option Bool} {e:TypeId} {l:List kE} {z:Nat} (aC:cr P e=some z) (CC:l.length=z) (ay:dC P e=some false->l.length=1)
  (aw:∀ xs bd,hf l xs=true->hf l bd=true->∃ a b,jk P e xs=some a/\jk P e bd=some b/\eq e a b=some (eO xs bd)) :∀ (n i:Nat) (m9 na cB m3:List ae),m9.length=i*z->na.length=i*z->hf (List.replicate n l).flatten cB=true->hf (List.replicate n l).flatten m3=true->
  dT.p1 P eq e z (m9++cB) (na++m3) n i=some (eO cB m3)
 | 0,i,m9,na,cB,m3,ak,aP,ph,r7=>by
  simp only[List.replicate_zero,List.flatten_nil] at ph r7;cases cB with
  | nil=>cases m3 with | nil=>rfl | cons _ _=>cases r7
  | cons _ _=>cases ph
 | n+1,i,m9,na,cB,m3,ak,aP,ph,r7=>by
  rw[List.replicate_succ,List.flatten_cons] at ph r7;obtain⟨h4,j8,rfl,bt,bE⟩:=z7 ph;obtain⟨jj,lP,rfl,dV,dK⟩:=z7 r7;obtain⟨a,b,nJ,lX,ru⟩:=aw h4 jj bt dV;have JY:=z6 bt;have JZ:=z6 dV;unfold dT.p1;rw[show gQ P e (m9++(h4++j8)) (i*z)=some a by rw[<-ak,Du aC (by omega) (fun h=>by rw[JY]; exact ay h)]; exact nJ];rw[show gQ P e (na++(jj++lP)) (i*z)=some b by rw[<-aP,Du aC (by omega) (fun h=>by rw[JZ]; exact ay h)]; exact lX];simp only[ru];rw[EG (by omega)];have aM:=St aC CC ay aw n (i+1) (m9++h4) (na++jj) j8 lP (by simp[Nat.succ_mul]; omega) (by simp[Nat.succ_mul]; omega) bE dK;rw[List.append_assoc,List.append_assoc] at aM;cases eO h4 jj with
  | true=>simpa using aM
  | false=>simp
theorem BA:∀ (d D:Nat),d<=D->EqAt P (qC P d) (dT P D)
 | 0,D,_,t,bQ,h=>by cases h
 | d+1,0,bD,t,bQ,h=>by omega
 | d+1,D+1,bD,t,bQ,h=>by
  have aM:=BA d D (by omega);unfold qC at h;split at h
  ·rename_i aL;have aI:dC P t=some false:=by unfold dC; rw[aL]; rfl
   cases h;refine⟨fun _=>rfl,fun xs bd ak aP=>?_⟩
   match xs,bd,ak,aP with
   | [.bool p],[.bool q],_,_=>
    refine⟨.bool p,.bool q,by simp[jk,aI],by simp[jk,aI],?_⟩;unfold dT; rw[aL];cases p<;>cases q<;>rfl
  ·rename_i k aL;have aI:dC P t=some false:=by unfold dC; rw[aL]; rfl
   cases h;refine⟨fun _=>rfl,fun xs bd ak aP=>?_⟩;obtain⟨p,rfl⟩:=Xz ak;obtain⟨q,rfl⟩:=Xz aP
   ·refine⟨.int k p,.int k q,by simp[jk,aI],by simp[jk,aI],?_⟩;unfold dT; rw[aL];by_cases h:p=q<;>simp[eO,ae.beq,h]
  ·rename_i aL;have aI:dC P t=some false:=by unfold dC; rw[aL]; rfl
   cases h;refine⟨fun _=>rfl,fun xs bd ak aP=>?_⟩
   match xs,bd,ak,aP with
   | [.str p],[.str q],_,_=>
    refine⟨.str p,.str q,by simp[jk,aI],by simp[jk,aI],?_⟩;unfold dT; rw[aL];by_cases h:p=q<;>simp[eO,ae.beq,h]
  ·rename_i n e aL;have aI:dC P t=some true:=by unfold dC; rw[aL]; rfl
   split at h
   ·rename_i l z ar aC;split at h
    ·rename_i CC;cases h;obtain⟨aY,a6⟩:=aM _ _ ar;refine⟨fun h=>(by rw[aI] at h; cases h),fun xs bd ak aP=>⟨.aV xs,.aV bd,by simp[jk,aI],by simp[jk,aI],?_⟩⟩;unfold dT; rw[aL];simp only[aC];exact St aC (Nat.eq_of_beq_eq_true CC) aY a6 n 0 [] [] xs bd (by simp) (by simp) ak aP
    ·cases h
   ·cases h
  ·rename_i fs aL;have aI:dC P t=some true:=by unfold dC; rw[aL]; rfl
   split at h
   ·rename_i au;refine⟨fun h=>(by rw[aI] at h; cases h),fun xs bd ak aP=>⟨.aV xs,.aV bd,by simp[jk,aI],by simp[jk,aI],?_⟩⟩;unfold dT; rw[aL];simp only[au,Bool.false_eq_true,if_false];exact Su aM fs.toList 0 bQ h [] [] xs bd rfl rfl ak aP
   ·cases h
  ·cases h
theorem EI {t:TypeId} {bQ:List kE} (aF:qC P 20 t=some bQ) (aI:dC P t=some true) (ay:P.eqGuardType P.depth t=false) {xs bd:List ae} (ak:hf bQ xs=true) (aP:hf bQ bd=true) :fw P .eql t (.aV xs) (.aV bd)=some (.bool (eO xs bd)) :=by
 obtain⟨a,b,nJ,lX,ru⟩:=(BA (P:=P) 20 10000 (by omega) t bQ aF).2 xs bd ak aP;simp only[jk,aI,Option.some.injEq] at nJ lX;subst nJ; subst lX;exact adV ay ru
theorem OQ {t:TypeId} {bQ:List kE} (aF:qC P 20 t=some bQ) (aI:dC P t=some true) (ay:P.eqGuardType P.depth t=false) {xs bd:List ae} (ak:hf bQ xs=true) (aP:hf bQ bd=true) :fw P .neq t (.aV xs) (.aV bd)=some (.bool (!eO xs bd)) :=by
 obtain⟨a,b,nJ,lX,ru⟩:=(BA (P:=P) 20 10000 (by omega) t bQ aF).2 xs bd ak aP;simp only[jk,aI,Option.some.injEq] at nJ lX;subst nJ; subst lX;exact adW ay ru
end Go.cj

namespace Go.cj
open Go Go.Proofs Go.Shelf
structure AW (P:Program) (f:FuncId) (T I e z:Nat) :Prop where
 vT:P.underlying T=some (.slice e)
 apu:P.underlying I=some (.int .i64)
 fin:∀ (base:Option Addr) (n c eL gq iK:Nat) (r:Value) (w w' : World),n<=c->n<=4611686018427387904->(base=none->n=0/\c=0)->
  (Builtin.append_ #[T,T] T #[.slice base n c,.slice (some ⟨gq,iK,none⟩) 1 eL]).run P w=.ok r w'->
  Calls P f #[.slice base n c,.int .i64 n,.slice (some ⟨gq,iK,none⟩) 1 eL] w fun x w2=>x=.returned r/\w2=w'
 shift:∀ (b off n c i gq iK eL:Nat) (cc ch:Value) (w kb hJ:World) (DX eX:TypeId) (tL xr:Nat),i<n->n+1<=c->n<=4611686018427387904->gq≠b->
  w.shape? gq=some (DX,tL)->w.shape? b=some (eX,xr)->xr≠0->w.frozen? ⟨gq,iK,none⟩=false->w.frozen? ⟨gq,tL,none⟩=false->
  (Builtin.copy_ #[T,T] I #[.slice (some ⟨b,off+(i+1)*z,none⟩) (n - i) (c - (i+1)),.slice (some ⟨b,off+i*z,none⟩) (n+1 - i) (c - i)]).run P w.drew=.ok cc kb->
  (Builtin.copy_ #[T,T] I #[.slice (some ⟨b,off+i*z,none⟩) (n+1 - i) (c - i),.slice (some ⟨gq,iK,none⟩) 1 eL]).run P kb=.ok ch hJ->
  Calls P f #[.slice (some ⟨b,off,none⟩) n c,.int .i64 i,.slice (some ⟨gq,iK,none⟩) 1 eL] w fun x w2=>x=.returned (.slice (some ⟨b,off,none⟩) (n+1) c)/\w2=hJ
 grow:∀ (b off n c i gq iK eL N G:Nat) (cc ch:Value) (w yf kb hJ:World),i<n->n<=c->c<n+1->n+1<=G->n<=4611686018427387904->
  (Builtin.append_ #[T,I] T #[.slice (some ⟨b,off,none⟩) i c,.int .i64 ((n:Int)+1 - (i:Int))]).run P w=.ok (.slice (some ⟨N,0,none⟩) (n+1) G) yf->
  (Builtin.copy_ #[T,T] I #[.slice (some ⟨N,i*z,none⟩) (n+1 - i) (G - i),.slice (some ⟨gq,iK,none⟩) 1 eL]).run P yf=.ok cc kb->
  (Builtin.copy_ #[T,T] I #[.slice (some ⟨N,(i+1)*z,none⟩) (n - i) (G - (i+1)),.slice (some ⟨b,off+i*z,none⟩) (n - i) (c - i)]).run P kb.drew=.ok ch hJ->
  Calls P f #[.slice (some ⟨b,off,none⟩) n c,.int .i64 i,.slice (some ⟨gq,iK,none⟩) 1 eL] w fun x w2=>x=.returned (.slice (some ⟨N,0,none⟩) (n+1) G)/\w2=hJ
section
variable {P:Program} {G:Nat->ae} {R:Nat->Prop} {B:Nat} {w:World} {h:aR} {μ:cD}
theorem C7 (rel:b6 R B w h μ) {b sz o n:Nat} {cs:List ae} {m:M} (aj:h.f b=.cells sz cs) (hm:μ b=some m) (ec:o+n<=sz) :
  ∃ vs:List Value,rg w R h μ ((cs.drop o).take n) vs/\(loadCells ⟨m.r,m.s+o,none⟩ n).run P w=.ok vs.toArray w:=by
 have dY:=rel.blk b m hm;rw[aj] at dY;obtain⟨dZ,dF,arr,e,fh,aD,eu,ko,hR⟩:=dY;have bw:((cs.drop o).take n).length=n:=by rw[List.length_take,List.length_drop]; omega
 obtain⟨vs,cA,ar⟩:=Nb (P:=P) (w:=w) (R:=R) (h:=h) (μ:=μ) (w2:=w) (xs:=(cs.drop o).take n) (blk:=m.r) (o:=m.s+o) (fun _=>rfl) (fun j c am=>by
  have aS:j<n:=by have:=(List.getElem?_eq_some_iff.1 am).1; omega
  rw[List.getElem?_take_of_lt aS,List.getElem?_drop] at am;obtain⟨v,h1,ag,aq⟩:=hR (o+j) c am;refine⟨v,?_,ag,aq⟩;simp only[World.cell?,aD,Option.isSome_none];rw[Nat.add_assoc];exact h1)
 refine⟨vs,cA,?_⟩;have:=ar n (by omega) w (fun _=>rfl)
 rwa [List.take_of_length_le (by rw[cA.1,bw]; exact Nat.le_refl _)] at this
theorem Br (rel:b6 R B w h μ) {t u ty e z:Nat} (i0:P.underlying t=some (.slice e)) (aC:cr P e=some z) {b sz k:Nat} {cs:List ae} {m:M} (aj:h.f b=.cells sz cs) (hm:μ b=some m) (aF:k<=sz)
  {dLen dc sLen sc cnt:Nat} {a:Addr} {xs:List ae} {vs:List Value} (Ce:Nat.min sLen dLen=cnt) (bJ:xs.length=cnt*z) (aiw:(loadCells a (cnt*z)).run P w=.ok vs.toArray w)
  (cA:rg w R h μ xs vs) (dF:m.s+max sz (k+cnt*z)<=m.T) :
  ∃ w',(Builtin.copy_ #[t,u] ty #[.slice (some ⟨m.r,m.s+k,none⟩) dLen dc,.slice (some a) sLen sc]).run P w=.ok (goInt cnt) w' ∧
   di w h μ w' (h.set b (.cells (max sz (k+cnt*z)) (bU cs k xs))) μ/\b6 R B w' (h.set b (.cells (max sz (k+cnt*z)) (bU cs k xs))) μ:=by
 obtain⟨w',h1,ag,aq⟩:=vW (P:=P) rel (cvs:=xs) (vs:=vs) (k:=k) aj hm aF cA.1 (by rw[bJ]; exact dF) cA.2;rw[bJ] at ag aq;refine⟨w',?_,ag,aq⟩;simp[Builtin.copy_,cq i0,Builtin.lenOf,Builtin.firstCells,e5 aC,Ce,aiw,h1]
theorem abg {b5:World} {h1:aR} {f8:cD} (oh:b6 R B b5 h1 f8) (ex:di w h μ b5 h1 f8) {b z n nc ns:Nat} {row:List ae} {v:Value} (aJ:h1.f=bM h.f b (.cells ns row)) (aH:h1.n=h.n) (ql:ns=nc*z) (aO:0<n) (mI:b<h.n)
  (ax:aU b5 R h1 f8 (.ao z b 0 n nc ns) v) :
  ∃ μ',di w h μ b5 ((h.set b .dead).push (.cells ns row)) μ'/\b6 R B b5 ((h.set b .dead).push (.cells ns row)) μ'/\aU b5 R ((h.set b .dead).push (.cells ns row)) μ' (.ao z h.n 0 n nc ns) v:=by
 have fZ:h1.f b=.cells ns row:=by rw[aJ,iy]
 cases ax with
 | fE _ _ _ _ _ _ _ _ _ _ ay=>
  exfalso;rcases ay with ay | ⟨f3,cs',ay,aS⟩
  ·rw[fZ] at ay; cases ay
  ·rw[fZ] at ay; cases ay; omega
 | gR=>omega
 | ao _ _ _ _ _ _ cap' lV m jv hm ar az c7=>
  have n2:=oh.abf (b:=b) (off:=0) (m:=m) (h':=(h.set b .dead).push (.cells ns row)) fZ hm (Nat.zero_le _) (by
   rw[dH,dn,ef,aJ,aH];funext x;simp only[bM,Nat.sub_zero,List.drop_zero];by_cases ag:x=h.n
   ·rw[if_pos ag,if_pos ag]
   ·rw[if_neg ag,if_neg ag];split<;>rfl) (by rw[eK,ef,aH])
  refine⟨_,ex.trans n2.1,n2.2,?_⟩;rw[aH];exact .ao z h.n 0 n nc ns cap' row ⟨m.r,m.s+0,m.T⟩ (by rw[dH,ef,iy]) (by simp) ar az (by
   rcases c7 with c7 | ⟨qc,jy,wR⟩
   ·omega
   ·exact .inr ⟨qc,jy,by simpa using wR⟩)
theorem OL (w:World) :RowKit.Below w.heap.size w w.drew:=⟨rfl,rfl,rfl,Nat.le_refl _,fun _ _=>rfl⟩
theorem aj4 {z i len:Nat} {cs vs:List ae} (jG:vs.length=z) (aA:i<len) (ar:len*z<=cs.length) :
  bU (bU cs ((i+1)*z) ((cs.drop (i*z)).take ((len - i)*z))) (i*z) vs=l7 z cs vs i len:=by
 have h1:(i+1)*z=i*z+z:=by rw[Nat.succ_mul]
 have ag:(i+1)*z<=len*z:=Nat.mul_le_mul_right _ aA;have aq:i*z+(len - i)*z=len*z:=by rw[<-Nat.add_mul]; congr 1; omega
 have aK:(len+1)*z=len*z+z:=by rw[Nat.succ_mul]
 have BS:((cs.drop (i*z)).take ((len - i)*z)).length=(len - i)*z:=by rw[List.length_take,List.length_drop]; omega
 have cR:(cs.take ((i+1)*z)).length=i*z+z:=by rw[List.length_take]; omega
 unfold l7 bU;rw[BS,jG];have a1:(i+1)*z+(len - i)*z=(len+1)*z:=by omega
 rw[a1,List.append_assoc (cs.take ((i+1)*z)),List.take_append_of_le_length (by rw[cR]; omega),List.take_take,show min (i*z) ((i+1)*z)=i*z by omega];rw[show i*z+z=(cs.take ((i+1)*z)).length by rw[cR],List.drop_left];simp only[List.append_assoc]
theorem aj2 {z i len:Nat} {cs vs:List ae} (jG:vs.length=z) (aA:i<len) (ar:len*z=cs.length) :
  bU (bU (cs.take (i*z)) (i*z) vs) ((i+1)*z) ((cs.drop (i*z)).take ((len - i)*z))=l7 z cs vs i len:=by
 have h1:(i+1)*z=i*z+z:=by rw[Nat.succ_mul]
 have ag:(i+1)*z<=len*z:=Nat.mul_le_mul_right _ aA;have aq:i*z+(len - i)*z=len*z:=by rw[<-Nat.add_mul]; congr 1; omega
 have aK:(len+1)*z=len*z+z:=by rw[Nat.succ_mul]
 have cR:(cs.take (i*z)).length=i*z:=by rw[List.length_take]; omega
 have gL:bU (cs.take (i*z)) (i*z) vs=cs.take (i*z)++vs:=by
  unfold bU;rw[List.drop_eq_nil_of_le (by rw[cR]; omega),List.append_nil,List.take_of_length_le (by rw[cR]; exact Nat.le_refl _)]
 rw[gL];unfold l7 bU;have a1:(cs.take (i*z)++vs).take ((i+1)*z)=cs.take (i*z)++vs:=List.take_of_length_le (by rw[List.length_append,cR,jG]; omega);have b3:∀ k,(cs.take (i*z)++vs).drop ((i+1)*z+k)=[] :=fun k=>List.drop_eq_nil_of_le (by rw[List.length_append,cR,jG]; omega)
 have dD:cs.drop ((len+1)*z)=[] :=List.drop_eq_nil_of_le (by omega);rw[a1,b3,dD]
theorem als (a b z:Nat) :max a b*z=max (a*z) (b*z) :=by
 rcases Nat.le_total a b with h | h
 ·rw[Nat.max_eq_right h,Nat.max_eq_right (Nat.mul_le_mul_right _ h)]
 ·rw[Nat.max_eq_left h,Nat.max_eq_left (Nat.mul_le_mul_right _ h)]
theorem ajX {T e z by_:Nat} (eu:hl P T=some e) (aC:cr P e=some z) (dE:iT P e=some by_) (nX:0<z) (u3:0<by_) (gN:q6 P e=some z)
  {b gJ len cap:Nat} {cs vs:List ae} (aj:h.f b=.cells (cap*z) cs) (dZ:cs.length=cap*z) (jx:h.f gJ=.cells z vs) (jG:vs.length=z) (mP:len<=cap) (dk:(len+1)*by_<=cQ) :
  pR P h T (.ao z b 0 len cap (cap*z)) (.ao z gJ 0 1 1 z)=some (.ao z b 0 (len+1) (max cap (len+1)) (max cap (len+1)*z),h.set b (.cells (max cap (len+1)*z) (l7 z cs vs len len))) :=by
 have aK:(len+1)*z=len*z+z:=by rw[Nat.succ_mul]
 have dO:len*z<=cap*z:=Nat.mul_le_mul_right _ mP;have cA:l7 z cs vs len len=cs.take (len*z)++vs++cs.drop ((len+1)*z) :=by simp[l7]
 have kW:(vs.drop 0).take (1*z)=vs:=by rw[List.drop_zero,Nat.one_mul,List.take_of_length_le (by omega)]
 unfold pR;rw[eu];simp only[aC,dE,contents,jx,and_self,if_true,kW];unfold sL;rw[if_neg (by omega),if_neg (by rw[gN]; simp; omega)];simp only[aj,true_and,dk,if_true];by_cases aJ:len+1<=cap
 ·have Uv:(len+1)*z<=cap*z:=Nat.mul_le_mul_right _ aJ;rw[if_pos aJ,Nat.max_eq_left aJ,cA];simp only[bU,Nat.zero_add,jG,<-aK]
 ·obtain rfl:len=cap:=by omega
  rw[if_neg aJ,if_neg (by omega),Nat.max_eq_right (by omega),cA,List.drop_eq_nil_of_le (by omega),List.append_nil]
theorem ajZ {f T I e z by_:Nat} (L:AW P f T I e z) (eu:hl P T=some e) (aC:cr P e=some z) (dE:iT P e=some by_) (nX:0<z) (u3:0<by_) (gN:q6 P e=some z)
  {b gJ len cap i:Nat} {cs vs:List ae} (aj:h.f b=.cells (cap*z) cs) (jx:h.f gJ=.cells z vs) (b7:gJ≠b) (aA:i<=len) (mP:len<=cap) (dk:(len+1)*by_<=cQ) :
  q7 P G f [.ao z b 0 len cap (cap*z),.int .i64 i,.ao z gJ 0 1 1 z] h (.ao z h.n 0 (len+1) (max cap (len+1)) (max cap (len+1)*z)) ((h.set b .dead).push (.cells (max cap (len+1)*z) (l7 z cs vs i len))) :=by
 intro R B w μ dI rel BL ar ax;obtain⟨mg⟩:=dI
 match mg,ar with
 | [v0,fa,dt],_=>
 have hz:=ax 0 _ v0 rfl rfl;have kW:=ax 1 _ fa rfl rfl;have vr:=ax 2 _ dt rfl rfl;have Je:=vr;cases kW;have p4:len<=4611686018427387904:=by
  have:=Nat.le_mul_of_pos_right (len+1) u3;unfold cQ at dk;omega
 have IG:xB P T:=⟨_,L.vT,fun k aF=>by cases aF⟩
 have ig:=als cap (len+1) z;have aK:(len+1)*z=len*z+z:=by rw[Nat.succ_mul]
 have dO:len*z<=cap*z:=Nat.mul_le_mul_right _ mP;cases vr with
 | fE _ _ _ _ _ _ _ _ _ _ ay=>
  exfalso;rcases ay with ay | ⟨f3,cs',ay,aS⟩
  ·rw[jx] at ay; cases ay
  ·rw[jx] at ay; cases ay; omega
 | ao _ _ _ _ _ _ eL apH ap ahx vg nU IJ iW=>
 have y8:=rel.blk gJ ap vg;rw[jx] at y8;obtain⟨jG,asZ,OB,cT,asr,I3,asH,T2,asT⟩:=y8;by_cases d5:i=len
 ·subst d5;have aiC:∃ a cap',v0=.slice (some a) i cap'/\i<=cap'/\cs.length=cap*z/\b<h.n:=by
   cases hz with
   | fE _ _ _ _ _ _ _ _ _ _ ay=>
    exfalso;rcases ay with ay | ⟨f3,cs',ay,aS⟩
    ·rw[aj] at ay; cases ay
    ·rw[aj] at ay; cases ay; omega
   | gR _ _ _ _ a lV m jv hm=>
    have dY:=rel.blk b m hm;rw[aj] at dY;exact⟨a,0,rfl,Nat.le_refl _,dY.1,rel.pT hm⟩
   | ao _ _ _ _ _ _ cap' lV m jv hm ar az c7=>
    have dY:=rel.blk b m hm;rw[aj] at dY;exact⟨_,cap',rfl,by omega,dY.1,rel.pT hm⟩
  obtain⟨a,cap',rfl,CA,dZ,mI⟩:=aiC;obtain⟨v,b5,f8,g3,wT,I1,rY⟩:=EA (P:=P) (ty:=T) (u:=T) rel IG (ajX (P:=P) eu aC dE nX u3 gN aj dZ jx jG mP dk) hz Je;refine (L.fin (some a) i cap' eL ap.r (ap.s+0) v w b5 CA p4 (fun h=>by cases h) g3).mono ?_;rintro x w2 ⟨rfl,rfl⟩;obtain⟨μ',h1,ag,aq⟩:=abg (h:=h) I1 wT (b:=b) (row:=l7 z cs vs i i) (ns:=max cap (i+1)*z) (dn _ _ _) rfl rfl (by omega) mI rY;exact⟨v,μ',rfl,h1,ag,aq⟩
 have zk:i<len:=by omega
 have asv:(i+1)*z=i*z+z:=by rw[Nat.succ_mul]
 have asx:(i+1)*z<=len*z:=Nat.mul_le_mul_right _ zk;have asy:i*z+(len - i)*z=len*z:=by rw[<-Nat.add_mul]; congr 1; omega
 cases hz with
 | fE _ _ _ _ _ _ _ _ _ _ ay=>
  exfalso;rcases ay with ay | ⟨f3,cs',ay,aS⟩
  ·rw[aj] at ay; cases ay
  ·rw[aj] at ay; cases ay; omega
 | gR=>omega
 | ao _ _ _ _ _ _ cap' lV m jv hm as9 az c7=>
 rw[aj] at jv; cases jv;have dY:=rel.blk b m hm;rw[aj] at dY;obtain⟨dZ,asY,arr,lX,fh,aD,asG,ko,hR⟩:=dY;obtain⟨jy,wR⟩:cap<=cap'/\m.s+cap'*z<=m.T:=by
  rcases c7 with c7 | ⟨qc,jy,wR⟩
  ·omega
  ·exact⟨jy,by simpa using wR⟩
 have mI:=rel.pT hm;have IC:ap.r≠m.r:=fun aw=>b7 (rel.inj gJ b ap m (by rw[jx]; rfl) (by rw[aj]; rfl) vg hm aw)
 have kW:(vs.drop 0).take z=vs:=by rw[List.drop_zero,List.take_of_length_le (by omega)]
 have Tn:((cs.drop (i*z)).take ((len - i)*z)).length=(len - i)*z:=by rw[List.length_take,List.length_drop]; omega
 by_cases dF:len+1<=cap'
 ·have Uv:(len+1)*z<=cap'*z:=Nat.mul_le_mul_right _ dF;obtain⟨BB,sq⟩:=MW rel (w':=w.drew) (OL w);obtain⟨ci,CL,IA⟩:=C7 (P:=P) sq (o:=i*z) (n:=(len - i)*z) aj hm (by omega);obtain⟨kb,ti,yR,oh⟩:=Br (P:=P) (t:=T) (u:=T) (ty:=I) sq L.vT aC (k:=(i+1)*z) aj hm (by omega) (dLen:=len - i) (dc:=cap' - (i+1)) (sLen:=len+1 - i) (sc:=cap' - i) (cnt:=len - i)
   (by simp only[Nat.min_def]; split<;>omega) Tn IA CL (by omega)
  have rU:max (cap*z) ((i+1)*z+(len - i)*z)=max cap (len+1)*z:=by omega
  rw[rU] at yR oh;have fZ:(h.set b (.cells (max cap (len+1)*z) (bU cs ((i+1)*z) ((cs.drop (i*z)).take ((len - i)*z))))).f b=.cells (max cap (len+1)*z) (bU cs ((i+1)*z) ((cs.drop (i*z)).take ((len - i)*z))) :=by rw[dn,iy]
  have ahy:(h.set b (.cells (max cap (len+1)*z) (bU cs ((i+1)*z) ((cs.drop (i*z)).take ((len - i)*z))))).f gJ=.cells z vs:=by rw[dn,ca _ _ _ _ b7]; exact jx
  obtain⟨Dd,CM,IB⟩:=C7 (P:=P) oh (o:=0) (n:=z) ahy vg (by omega);rw[kW] at CM;obtain⟨hJ,tj,s7,qW⟩:=Br (P:=P) (t:=T) (u:=T) (ty:=I) oh L.vT aC (k:=i*z) fZ hm (by omega) (dLen:=len+1 - i) (dc:=cap' - i) (sLen:=1) (sc:=eL) (cnt:=1)
   (by simp only[Nat.min_def]; split<;>omega) (by omega) (by rw[Nat.one_mul]; exact IB) CM (by omega)
  have rV:max (max cap (len+1)*z) (i*z+1*z)=max cap (len+1)*z:=by omega
  rw[rV,aj4 jG zk (by omega)] at s7 qW;have Ij:w.frozen? ⟨ap.r,ap.s+0,none⟩=false:=by
   simp only[World.frozen?,I3];rcases T2 with aO | aO
   ·subst aO; simp
   ·simp; intro aq; omega
  have zf:w.frozen? ⟨ap.r,OB.size,none⟩=false:=by
   simp only[World.frozen?,I3];rcases T2 with aO | aO
   ·subst aO; simp
   ·simp; intro aq; omega
  refine (L.shift m.r m.s len cap' i ap.r (ap.s+0) eL _ _ w kb hJ cT lX OB.size arr.size zk dF p4 IC (by simp[World.shape?,I3]) (by simp[World.shape?,aD]) (by omega) Ij zf ti tj).mono ?_;rintro x w2 ⟨rfl,rfl⟩;obtain⟨μ',h1,ag,aq⟩:=abg (h:=h) qW ((BB.trans yR).trans s7) (b:=b) (row:=l7 z cs vs i len) (ns:=max cap (len+1)*z) (n:=len+1) (nc:=max cap (len+1)) (z:=z) (v:=.slice (some ⟨m.r,m.s+0,none⟩) (len+1) cap') (by
   rw[dn,dn];funext y;simp only[bM];split<;>rfl) rfl rfl (by omega) mI (.ao z b 0 (len+1) (max cap (len+1)) (max cap (len+1)*z) cap' _ m (by rw[dn,iy]) hm (by omega) (by omega) (.inr ⟨by omega,by omega,by simpa using wR⟩))
  exact⟨_,μ',rfl,h1,ag,aq⟩
 ·obtain rfl:cap=len:=by omega
  obtain rfl:cap'=cap:=by omega
  obtain⟨tB,zv,Io,j0,ih⟩:=acK gN;have n3:tB.size=z:=by simp[cr,Io] at aC; exact aC
  have kn:tB.bytes=by_:=by simp[iT,Io] at dE; exact dE
  have ds:contents h z (.ao z b 0 i cap' (cap'*z))=some ((cs.drop 0).take (i*z),i) :=by simp[contents,aj]
  obtain⟨dQ,_,eZ,g2,vj⟩:=s1 (P:=P) rel ds (aU.ao z b 0 i cap' (cap'*z) cap' cs m aj hm (by omega) (by omega) (.inr ⟨by omega,Nat.le_refl _,by simpa using wR⟩));have zw:=vj i (Nat.le_refl _) w.drew (fun _=>rfl);rw[List.take_of_length_le (by rw[g2.1,dQ]; exact Nat.le_refl _)] at zw;rw[List.drop_zero] at g2 dQ;have U2:(cap'+1)*tB.bytes<=cQ:=by rw[kn]; exact dk
  have oX:i+(cap'+1 - i)=cap'+1:=by omega
  have asM:(cap'+1 - i)*tB.bytes<=(cap'+1)*tB.bytes:=Nat.mul_le_mul_right _ (by omega);have qa:=Lib.run_append_grow_zeros w T I T e tB zv .i64 .i64 L.vT L.apu Io j0 (some ⟨m.r,m.s+0,none⟩) i cap' eZ (by rw[n3]; exact zw) (cap'+1 - i) (by omega) (by omega) (by omega) (by omega) (by unfold cQ at U2; omega)
   (by rw[oX]; have:=growslice_fits (old:=cap') (need:=cap'+1) (by omega) U2; omega)
  rw[oX] at qa;obtain⟨pM,To⟩:∃ pM,pM=grownCap w (cap'+1) cap' e:=⟨_,rfl⟩
  have Tp:cap'+1<=pM:=by rw[To]; exact grownCap_ge w _ _ _
  rw[<-To] at qa;obtain⟨ROW,B0⟩:∃ ROW:Array Value,ROW=eZ.toArray++Builtin.zeroCells zv.cells (cap'+1 - i)++Builtin.zeroCells zv.cells (pM - (cap'+1)) :=⟨_,rfl⟩
  rw[<-B0] at qa;have asF:(cap'+1)*z<=ROW.size:=by
   have a1:i*z+(cap'+1 - i)*z=(cap'+1)*z:=by rw[<-Nat.add_mul]; congr 1
   rw[B0];simp only[Array.size_append,List.size_toArray,Builtin.zeroCells];simp[ih,g2.1];omega
  have cR:(cs.take (i*z)).length=i*z:=by rw[List.length_take]; omega
  obtain⟨BB,sq⟩:=rel.push (w':=w.drew.alloc (.cells ROW e)) (cs.take (i*z)) ROW e rfl rfl rfl rfl (by omega) (fun j c am=>by
   obtain⟨v,aY,a6,bi⟩:=g2.2 j c am;refine⟨v,?_,a6,bi⟩;have aS:j<eZ.length:=(List.getElem?_eq_some_iff.1 aY).1;rw[B0,Array.append_assoc,Array.getElem?_append_left (by simpa using aS)];simpa using aY)
  rw[cR] at BB sq;have Cb:b≠h.n:=by omega
  have asR:=rel.pT vg;have TI:gJ≠h.n:=by omega
  have mT:(bM μ h.n (some ⟨w.heap.size,0,ROW.size⟩)) h.n=some ⟨w.heap.size,0,ROW.size⟩:=iy _ _ _;have aiI:(bM μ h.n (some ⟨w.heap.size,0,ROW.size⟩)) gJ=some ap:=by rw[ca _ _ _ _ TI]; exact vg
  have aiD:(bM μ h.n (some ⟨w.heap.size,0,ROW.size⟩)) b=some m:=by rw[ca _ _ _ _ Cb]; exact hm
  have ahn:(h.push (.cells (i*z) (cs.take (i*z)))).f h.n=.cells (i*z) (cs.take (i*z)) :=by rw[dH,iy]
  have ahp:(h.push (.cells (i*z) (cs.take (i*z)))).f gJ=.cells z vs:=by rw[dH,ca _ _ _ _ TI]; exact jx
  obtain⟨Dd,CL,IA⟩:=C7 (P:=P) sq (o:=0) (n:=z) ahp aiI (by omega);rw[kW] at CL;obtain⟨kb,ti,yR,oh⟩:=Br (P:=P) (t:=T) (u:=T) (ty:=I) sq L.vT aC (k:=i*z) ahn mT (Nat.le_refl _) (dLen:=cap'+1 - i) (dc:=pM - i) (sLen:=1) (sc:=eL) (cnt:=1)
   (by simp only[Nat.min_def]; split<;>omega) (by omega) (by rw[Nat.one_mul]; exact IA) CL (by simp only; omega)
  have rU:max (i*z) (i*z+1*z)=(i+1)*z:=by omega
  rw[rU] at yR oh;obtain⟨af4,aa8⟩:=MW oh (w':=kb.drew) (OL kb);have aho:((h.push (.cells (i*z) (cs.take (i*z)))).set h.n (.cells ((i+1)*z) (bU (cs.take (i*z)) (i*z) vs))).f h.n=.cells ((i+1)*z) (bU (cs.take (i*z)) (i*z) vs) :=by rw[dn,iy]
  have TF:((h.push (.cells (i*z) (cs.take (i*z)))).set h.n (.cells ((i+1)*z) (bU (cs.take (i*z)) (i*z) vs))).f b=.cells (cap'*z) cs:=by rw[dn,ca _ _ _ _ Cb,dH,ca _ _ _ _ Cb]; exact aj
  obtain⟨ci,CM,IB⟩:=C7 (P:=P) aa8 (o:=i*z) (n:=(cap' - i)*z) TF aiD (by omega);obtain⟨hJ,tj,s7,qW⟩:=Br (P:=P) (t:=T) (u:=T) (ty:=I) aa8 L.vT aC (k:=(i+1)*z) aho mT (Nat.le_refl _) (dLen:=cap' - i) (dc:=pM - (i+1)) (sLen:=cap' - i) (sc:=cap' - i) (cnt:=cap' - i)
   (by simp only[Nat.min_def]; split<;>omega) Tn IB CM (by simp only; omega)
  have rV:max ((i+1)*z) ((i+1)*z+(cap' - i)*z)=(cap'+1)*z:=by omega
  rw[rV,aj2 jG zk (by omega)] at s7 qW;simp only[Nat.zero_add] at ti tj;have aiO:max cap' (cap'+1)=cap'+1:=by omega
  rw[aiO];refine (L.grow m.r (m.s+0) cap' cap' i ap.r (ap.s+0) eL w.heap.size pM _ _ w _ kb hJ zk (Nat.le_refl _) (by omega) Tp p4 ?_ ti tj).mono ?_
  ·have:(cap' : Int)+1 - (i:Int)=((cap'+1 - i:Nat) :Int) :=by omega
   rw[this];exact qa
  rintro x w2 ⟨rfl,rfl⟩;have aF:=qW.kill (b:=b) (sz:=cap'*z) (cs:=cs) (h':=(h.set b .dead).push (.cells ((cap'+1)*z) (l7 z cs vs i cap'))) (by rw[dn,ca _ _ _ _ Cb]; exact TF) (by rw[ef,ef,eK]; omega) (by
   rw[dH,dn,ef,dn,dn,dH];funext y;simp only[bM];by_cases h1:y=h.n
   ·rw[if_pos h1,if_neg (by omega),if_pos h1]
   ·rw[if_neg h1];split
    ·rfl
    ·simp[h1]) (by rw[eK,ef,ef,ef,eK])
  refine⟨_,_,rfl,(((BB.trans yR).trans af4).trans s7).trans aF.1,aF.2,?_⟩;have:=aU.ao (w:=w2) (R:=R) (h:=(h.set b .dead).push (.cells ((cap'+1)*z) (l7 z cs vs i cap'))) (μ:=bM μ h.n (some ⟨w.heap.size,0,ROW.size⟩)) z h.n 0 (cap'+1) (cap'+1) ((cap'+1)*z) pM (l7 z cs vs i cap') ⟨w.heap.size,0,ROW.size⟩ (by rw[dH,ef,iy]) (by simp) (Nat.le_refl _) (by omega) (.inr ⟨by omega,Tp,by
   simp only;have a1:i*z+(cap'+1 - i)*z=(cap'+1)*z:=by rw[<-Nat.add_mul]; congr 1
   have b3:(cap'+1)*z+(pM - (cap'+1))*z=pM*z:=by rw[<-Nat.add_mul]; congr 1; omega
   rw[B0];simp only[Array.size_append,List.size_toArray,Builtin.zeroCells];simp[ih,g2.1];omega⟩)
  simpa using this
theorem ajY {f T I e z by_:Nat} (L:AW P f T I e z) (eu:hl P T=some e) (aC:cr P e=some z) (dE:iT P e=some by_) (nX:0<z) (u3:0<by_) (gN:q6 P e=some z)
  {gJ:Nat} {vs:List ae} (jx:h.f gJ=.cells z vs) (dk:by_<=cQ) :
  q7 P G f [.aZ,.int .i64 0,.ao z gJ 0 1 1 z] h (.ao z h.n 0 1 1 z) (h.push (.cells z vs)) :=by
 intro R B w μ dI rel BL ar ax;obtain⟨mg⟩:=dI
 match mg,ar with
 | [v0,fa,dt],_=>
 have hz:=ax 0 _ v0 rfl rfl;have kW:=ax 1 _ fa rfl rfl;have vr:=ax 2 _ dt rfl rfl;have Je:=vr;cases kW;have ajv:=hz;cases hz;have IG:xB P T:=⟨_,L.vT,fun k aF=>by cases aF⟩
 cases vr with
 | fE _ _ _ _ _ _ _ _ _ _ ay=>
  exfalso;rcases ay with ay | ⟨f3,cs',ay,aS⟩
  ·rw[jx] at ay; cases ay
  ·rw[jx] at ay; cases ay; omega
 | ao _ _ _ _ _ _ eL apH ap ahx vg nU IJ iW=>
 have y8:=rel.blk gJ ap vg;rw[jx] at y8;obtain⟨jG,_⟩:=y8;have aI:pR P h T .aZ (.ao z gJ 0 1 1 z)=some (.ao z h.n 0 1 1 z,h.push (.cells z vs)) :=by
  have kW:(vs.drop 0).take (1*z)=vs:=by rw[List.drop_zero,Nat.one_mul,List.take_of_length_le (by omega)]
  unfold pR;rw[eu];simp only[aC,dE,contents,jx,and_self,if_true,kW];unfold sL;rw[if_neg (by omega),if_neg (by rw[gN]; simp; omega)];simp only[Nat.one_mul,dk,if_true]
 obtain⟨v,b5,f8,g3,wT,I1,rY⟩:=EA (P:=P) (ty:=T) (u:=T) rel IG aI ajv Je;refine (L.fin none 0 0 eL ap.r (ap.s+0) v w b5 (Nat.le_refl _) (by omega) (fun _=>⟨rfl,rfl⟩) g3).mono ?_;rintro x w2 ⟨rfl,rfl⟩;exact⟨v,f8,rfl,wT,I1,rY⟩
theorem ajT {f T I e z by_:Nat} (L:AW P f T I e z) (eu:hl P T=some e) (aC:cr P e=some z) (dE:iT P e=some by_) (nX:0<z) (u3:0<by_) (gN:q6 P e=some z)
  (args:List ae) (h:aR) (r:ae) (h' : aR) (ak:r3 z by_ args h=some (r,h')) :q7 P G f args h r h':=by
 unfold r3 at ak;split at ak
 ·rename_i s x y;split at ak
  ·rename_i i h5 gJ mb ce dm lK r0;have ajD:x=.int .i64 i:=by
    unfold OC at r0;split at r0
    ·split at r0
     ·cases r0; rfl
     ·cases r0
    ·cases r0
   subst ajD;split at ak
   ·rename_i iF vs jx;split at ak
    ·rename_i al;obtain⟨rfl,rfl,rfl,rfl,rfl,rfl,aO⟩:=al;obtain⟨k,rfl⟩:=Int.eq_ofNat_of_zero_le aO;rw[Int.toNat_natCast] at ak;unfold zN at ak;cases s<;>simp only at ak<;>try (cases ak; done)
     case aZ=>
      split at ak
      ·rename_i al;obtain⟨rfl,aD⟩:=al;cases ak;exact ajY L eu aC dE nX u3 gN jx aD
      ·cases ak
     case ao k7 b off len cap sz=>
      cases aj:h.f b<;>rw[aj] at ak<;>(try simp only at ak)<;>try (cases ak; done)
      split at ak
      ·rename_i al;obtain⟨rfl,rfl,rfl,rfl,b7,aA,mP,aD⟩:=al;cases ak;exact ajZ L eu aC dE nX u3 gN aj jx b7 aA mP aD
      ·cases ak
    ·cases ak
   ·cases ak
  ·cases ak
 ·cases ak
end
end Go.cj

/-
  The canonical machine: appending to a slice of one's own, with a frame for nil; a set's frames.
-/
import Derived.Test.YtboebmmklamaeaaGreatDoorVf
import Derived.Lib.AppendZerosOnto
set_option linter.unusedVariables false
set_option linter.unusedSimpArgs false
set_option linter.unnecessarySimpa false
namespace Go.cn
open Go
section
variable {P:Program} {l:av} {aD:Operand->ae}
@[simp ↓] theorem av8:bW P aD l (.pN none)=some (.mp l.length,l++[.map [] 0]) :=id rfl
@[simp ↓] theorem av3 (cP:TypeId) (zero:ae) (ok:Bool) (m k:Operand) :bW P aD l (.sH cP zero ok m k)=dq l (um P l cP zero ok (aD m) (aD k)) :=id rfl
@[simp ↓] theorem awa (cP:TypeId) (m k x:Operand) :bW P aD l (.q4 cP m k x)=(q3 P l cP (aD m) (aD k) (aD x)).map fun l'=>(gT,l') :=id rfl
@[simp ↓] theorem av2 (x:Operand) :bW P aD l (.ul x)=dq l (AV l (aD x)) :=id rfl
@[simp ↓] theorem awf (x:Operand) :bW P aD l (.sW x)=yv l (aD x) :=id rfl
@[simp ↓] theorem awd (x:Operand) :bW P aD l (.sN x)=sM l (aD x) :=id rfl
@[simp ↓] theorem avh (x:Option Operand) (v:ae) (K:ae->av->Prop) :ec (.pN x) v l K=K v l:=id rfl
@[simp ↓] theorem avc (cP:TypeId) (zero:ae) (ok:Bool) (m k:Operand) (v:ae) (K:ae->av->Prop) :ec (.sH cP zero ok m k) v l K=K v l:=id rfl
@[simp ↓] theorem avj (cP:TypeId) (m k x:Operand) (v:ae) (K:ae->av->Prop) :ec (.q4 cP m k x) v l K=K v l:=id rfl
@[simp ↓] theorem avb (x:Operand) (v:ae) (K:ae->av->Prop) :ec (.ul x) v l K=K v l:=id rfl
@[simp ↓] theorem avo (x:Operand) (v:ae) (K:ae->av->Prop) :ec (.sW x) v l K=K v l:=id rfl
@[simp ↓] theorem avm (x:Operand) (v:ae) (K:ae->av->Prop) :ec (.sN x) v l K=K v l:=id rfl
end
section
variable {z:Nat} {l l' : av} {v:ae} {j:Nat} {es:List (List ae)}
theorem PF (h:bX z l v j es) {by_:Nat} {x:ae} {xs:List (List ae)} (aj:dv l z x=some (xs.flatten,xs.length)) (ly:∀ e∈xs,e.length=z) (aT:z≠0) (dO:by_≠0) (dy:(es.length+xs.length)*by_<=cT) :
  ∃ bf ct l',iL l z by_ v x=some (bf,l')/\bX z l' bf ct (es++xs)/\l.length<=l'.length/\(∀ b,b<l.length->v=.aX\/b≠j->l'[b]? = l[b]?)/\(l.length<=ct\/(v≠.aX/\ct=j)\/bf=.aX)/\cU bf=(cU v&&xs.isEmpty) :=by
 by_cases ax:v=.aX
 ·subst ax;have aw:es=[] :=h.q.ye;subst aw;obtain⟨bf,ct,l1,h1,ag,ap,aJ,bd,bL⟩:=m5 (.nil (z:=z) (l:=l) (l.length+1)) aj ly aT dO dy;refine⟨bf,ct,l1,h1,ag,ap,fun b ai _=>aJ b ai (by omega),?_,sC bL⟩;rcases bd with bd | bd
  ·exact .inl (by omega)
  ·exact .inl bd
 ·obtain⟨bf,ct,l1,h1,ag,ap,aJ,bd,bL⟩:=m5 h aj ly aT dO dy;refine⟨bf,ct,l1,h1,ag,ap,fun b ai aH=>aJ b ai (aH.resolve_left ax),?_,sC bL⟩;rcases bd with bd | bd
  ·exact .inr (.inl ⟨ax,bd⟩)
  ·exact .inl bd
theorem bX.cM (h:bX z l v j es) (aI:∀ b,b<l.length->b=j->l'[b]? = l[b]?) :bX z l' v j es:=h.frame fun am=>aI j am rfl
end
inductive lc where
 | b
 | i (k:IntKind)
 | s
def EK:lc->ae->Bool
 | .b,.bool _=>true
 | .i k,.int k' _=>decide (k=k')
 | .s,.str _=>true
 | _,_=>false
def hG:List lc->List ae->Bool
 | [],[]=>true
 | k::bV,c::cs=>EK k c&&hG bV cs
 | _,_=>false
theorem AZ:∀ {bV:List lc} {cs:List ae},hG bV cs=true->cs.length=bV.length
 | [],[],_=>rfl
 | [],_::_,h=>by cases h
 | _::_,[],h=>by cases h
 | k::bV,c::cs,h=>by simp only[hG,Bool.and_eq_true] at h; simp[AZ h.2]
theorem A0:∀ {l r:List lc} {m:List ae},hG (l++r) m=true->∃ jA jc,m=jA++jc/\hG l jA=true/\hG r jc=true
 | [],r,m,h=>⟨[],m,rfl,rfl,h⟩
 | k::l,r,[],h=>by cases h
 | k::l,r,c::m,h=>by
  simp only[List.cons_append,hG,Bool.and_eq_true] at h;obtain⟨jA,jc,rfl,h1,ag⟩:=A0 h.2;exact⟨c::jA,jc,rfl,by simp[hG,h.1,h1],ag⟩
theorem Yr {k:IntKind} {xs:List ae} (h:hG [.i k] xs=true) :∃ p,xs=[.int k p] :=by
 cases xs with
 | nil=>cases h
 | cons c r=>
  simp only[hG,Bool.and_eq_true] at h;cases r with
  | cons _ _=>cases h.2
  | nil=>
   cases c<;>simp only[EK] at h<;>try (cases h.1; done)
   rename_i k' p;have hk:k=k':=by simpa using h.1
   subst hk;exact⟨p,rfl⟩
theorem Fs:∀ {jJ k9 mu o5:List ae},jJ.length=k9.length->e8 (jJ++mu) (k9++o5)=(e8 jJ k9&&e8 mu o5)
 | [],[],_,_,_=>by simp[e8]
 | [],_::_,_,_,h=>by simp at h
 | _::_,[],_,_,h=>by simp at h
 | a::jJ,b::k9,mu,o5,h=>by
  simp only[List.length_cons,Nat.add_right_cancel_iff] at h;simp only[List.cons_append,e8,Fs h,Bool.and_assoc]
section
variable (P:Program)
def DL (f:TypeId->Option (List lc)) :List Field->Nat->Option (List lc)
 | [],_=>some []
 | fd::fs,o=>match f fd.type,cz P fd.type with
  | some l,some z=>match fd.name != "_"&&Nat.beq fd.offset o&&Nat.beq l.length z with
   | true=>match DL f fs (o+z) with
    | some r=>some (l++r)
    | none=>none
   | false=>none
  | _,_=>none
def qZ:Nat->TypeId->Option (List lc)
 | 0,_=>none
 | d+1,t=>match P.underlying t with
  | some .bool=>some [.b]
  | some (.int k)=>some [.i k]
  | some .string=>some [.s]
  | some (.array n e)=>match qZ d e,cz P e with
   | some l,some z=>match Nat.beq l.length z with
    | true=>some (List.replicate n l).flatten
    | false=>none
   | _,_=>none
  | some (.struct fs)=>match P.stoodInHeld t with
   | false=>DL P (qZ d) fs.toList 0
   | true=>none
  | _=>none
def jL (t:TypeId) (l:List ae) :Option ae:=match dM P t with
 | some true=>some (.aV l)
 | some false=>l[0]?
 | none=>none
end
variable {P:Program}
theorem Eb {t:TypeId} {z:Nat} (aB:cz P t=some z) {pre mid post:List ae} (hm:mid.length=z) (az:dM P t=some false->mid.length=1) :hh P t (pre++(mid++post)) pre.length=jL P t mid:=by
 unfold hh jL;rw[aB];cases aG:dM P t with
 | none=>rfl
 | some g=>
  cases g with
  | true=>
   simp only;rw[if_pos (by simp; omega),List.drop_left,List.take_append_of_le_length (by omega),List.take_of_length_le (by omega)]
  | false=>
   have:=az aG;simp only;rw[List.getElem?_append_right (by omega),Nat.sub_self,List.getElem?_append_left (by omega)]
def EqAt (P:Program) (f:TypeId->Option (List lc)) (eq:TypeId->ae->ae->Option Bool) :Prop:=
 ∀ t bV,f t=some bV->(dM P t=some false->bV.length=1)/\∀ xs bl,hG bV xs=true->hG bV bl=true->∃ a b,jL P t xs=some a/\jL P t bl=some b/\eq t a b=some (e8 xs bl)
theorem Tv {f:TypeId->Option (List lc)} {eq:TypeId->ae->ae->Option Bool} (aw:EqAt P f eq) :∀ (fs:List Field) (o:Nat) (bV:List lc),DL P f fs o=some bV->∀ (nM nN cI nF:List ae),nM.length=o->nN.length=o->hG bV cI=true->hG bV nF=true->
  ej.eqFields P eq (nM++cI) (nN++nF) fs=some (e8 cI nF)
 | [],o,bV,h,nM,nN,cI,nF,aj,aK,pI,sE=>by
  cases h;cases cI with
  | nil=>cases nF with | nil=>rfl | cons _ _=>cases sE
  | cons _ _=>cases pI
 | fd::fs,o,bV,h,nM,nN,cI,nF,aj,aK,pI,sE=>by
  unfold DL at h;split at h
  ·rename_i l z au aB;split at h
   ·rename_i al;simp only[Bool.and_eq_true,bne_iff_ne,ne_eq] at al;split at h
    ·rename_i r aC;cases h;obtain⟨jJ,mu,rfl,bj,bz⟩:=A0 pI;obtain⟨k9,o5,rfl,ev,dU⟩:=A0 sE;have ay:fd.offset=o:=Nat.eq_of_beq_eq_true al.1.2;have Dj:l.length=z:=Nat.eq_of_beq_eq_true al.2;obtain⟨aY,a2⟩:=aw _ _ au;obtain⟨a,b,om,mE,rT⟩:=a2 jJ k9 bj ev;have K1:=AZ bj;have K2:=AZ ev;unfold ej.eqFields;rw[if_neg al.1.1,ay];rw[show hh P fd.type (nM++(jJ++mu)) o=some a by rw[<-aj,Eb aB (by omega) (fun h=>by rw[K1]; exact aY h)]; exact om];rw[show hh P fd.type (nN++(k9++o5)) o=some b by rw[<-aK,Eb aB (by omega) (fun h=>by rw[K2]; exact aY h)]; exact mE];simp only[rT];rw[Fs (by omega)];have aL:=Tv aw fs (o+z) r aC (nM++jJ) (nN++k9) mu o5 (by simp; omega) (by simp; omega) bz dU;rw[List.append_assoc,List.append_assoc] at aL;cases e8 jJ k9 with
     | true=>simpa using aL
     | false=>simp
    ·cases h
   ·cases h
  ·cases h
theorem Tu {eq:TypeId->ae->ae->Option Bool} {e:TypeId} {l:List lc} {z:Nat} (aB:cz P e=some z) (Dj:l.length=z) (az:dM P e=some false->l.length=1)
  (aw:∀ xs bl,hG l xs=true->hG l bl=true->∃ a b,jL P e xs=some a/\jL P e bl=some b/\eq e a b=some (e8 xs bl)) :∀ (n i:Nat) (nM nN cI nF:List ae),nM.length=i*z->nN.length=i*z->hG (List.replicate n l).flatten cI=true->hG (List.replicate n l).flatten nF=true->
  ej.qs P eq e z (nM++cI) (nN++nF) n i=some (e8 cI nF)
 | 0,i,nM,nN,cI,nF,aj,aK,pI,sE=>by
  simp only[List.replicate_zero,List.flatten_nil] at pI sE;cases cI with
  | nil=>cases nF with | nil=>rfl | cons _ _=>cases sE
  | cons _ _=>cases pI
 | n+1,i,nM,nN,cI,nF,aj,aK,pI,sE=>by
  rw[List.replicate_succ,List.flatten_cons] at pI sE;obtain⟨jJ,mu,rfl,bj,bz⟩:=A0 pI;obtain⟨k9,o5,rfl,ev,dU⟩:=A0 sE;obtain⟨a,b,om,mE,rT⟩:=aw jJ k9 bj ev;have K1:=AZ bj;have K2:=AZ ev;unfold ej.qs;rw[show hh P e (nM++(jJ++mu)) (i*z)=some a by rw[<-aj,Eb aB (by omega) (fun h=>by rw[K1]; exact az h)]; exact om];rw[show hh P e (nN++(k9++o5)) (i*z)=some b by rw[<-aK,Eb aB (by omega) (fun h=>by rw[K2]; exact az h)]; exact mE];simp only[rT];rw[Fs (by omega)];have aL:=Tu aB Dj az aw n (i+1) (nM++jJ) (nN++k9) mu o5 (by simp[Nat.succ_mul]; omega) (by simp[Nat.succ_mul]; omega) bz dU;rw[List.append_assoc,List.append_assoc] at aL;cases e8 jJ k9 with
  | true=>simpa using aL
  | false=>simp
theorem Cp:∀ (d D:Nat),d<=D->EqAt P (qZ P d) (ej P D)
 | 0,D,_,t,bV,h=>by cases h
 | d+1,0,bN,t,bV,h=>by omega
 | d+1,D+1,bN,t,bV,h=>by
  have aL:=Cp d D (by omega);unfold qZ at h;split at h
  ·rename_i aM;have aG:dM P t=some false:=by unfold dM; rw[aM]; rfl
   cases h;refine⟨fun _=>rfl,fun xs bl aj aK=>?_⟩
   match xs,bl,aj,aK with
   | [.bool p],[.bool q],_,_=>
    refine⟨.bool p,.bool q,by simp[jL,aG],by simp[jL,aG],?_⟩;unfold ej; rw[aM];cases p<;>cases q<;>rfl
  ·rename_i k aM;have aG:dM P t=some false:=by unfold dM; rw[aM]; rfl
   cases h;refine⟨fun _=>rfl,fun xs bl aj aK=>?_⟩;obtain⟨p,rfl⟩:=Yr aj;obtain⟨q,rfl⟩:=Yr aK
   ·refine⟨.int k p,.int k q,by simp[jL,aG],by simp[jL,aG],?_⟩;unfold ej; rw[aM];by_cases h:p=q<;>simp[e8,ae.beq,h]
  ·rename_i aM;have aG:dM P t=some false:=by unfold dM; rw[aM]; rfl
   cases h;refine⟨fun _=>rfl,fun xs bl aj aK=>?_⟩
   match xs,bl,aj,aK with
   | [.str p],[.str q],_,_=>
    refine⟨.str p,.str q,by simp[jL,aG],by simp[jL,aG],?_⟩;unfold ej; rw[aM];by_cases h:p=q<;>simp[e8,ae.beq,h]
  ·rename_i n e aM;have aG:dM P t=some true:=by unfold dM; rw[aM]; rfl
   split at h
   ·rename_i l z au aB;split at h
    ·rename_i Dj;cases h;obtain⟨aY,a2⟩:=aL _ _ au;refine⟨fun h=>(by rw[aG] at h; cases h),fun xs bl aj aK=>⟨.aV xs,.aV bl,by simp[jL,aG],by simp[jL,aG],?_⟩⟩;unfold ej; rw[aM];simp only[aB];exact Tu aB (Nat.eq_of_beq_eq_true Dj) aY a2 n 0 [] [] xs bl (by simp) (by simp) aj aK
    ·cases h
   ·cases h
  ·rename_i fs aM;have aG:dM P t=some true:=by unfold dM; rw[aM]; rfl
   split at h
   ·rename_i ar;refine⟨fun h=>(by rw[aG] at h; cases h),fun xs bl aj aK=>⟨.aV xs,.aV bl,by simp[jL,aG],by simp[jL,aG],?_⟩⟩;unfold ej; rw[aM];simp only[ar,Bool.false_eq_true,if_false];exact Tv aL fs.toList 0 bV h [] [] xs bl rfl rfl aj aK
   ·cases h
  ·cases h
theorem Fv {t:TypeId} {bV:List lc} (hk:qZ P 20 t=some bV) (aG:dM P t=some true) (az:P.eqGuardType P.depth t=false) {xs bl:List ae} (aj:hG bV xs=true) (aK:hG bV bl=true) :gc P .eql t (.aV xs) (.aV bl)=some (.bool (e8 xs bl)) :=by
 obtain⟨a,b,om,mE,rT⟩:=(Cp (P:=P) 20 10000 (by omega) t bV hk).2 xs bl aj aK;simp only[jL,aG,Option.some.injEq] at om mE;subst om; subst mE;exact aeG az rT
theorem Fw {t:TypeId} {bV:List lc} (hk:qZ P 20 t=some bV) (aG:dM P t=some true) (az:P.eqGuardType P.depth t=false) {xs bl:List ae} (aj:hG bV xs=true) (aK:hG bV bl=true) :gc P .neq t (.aV xs) (.aV bl)=some (.bool (!e8 xs bl)) :=by
 obtain⟨a,b,om,mE,rT⟩:=(Cp (P:=P) 20 10000 (by omega) t bV hk).2 xs bl aj aK;simp only[jL,aG,Option.some.injEq] at om mE;subst om; subst mE;exact aeH az rT
end Go.cn

namespace Go.cn
open Go Go.Proofs Go.Shelf
structure BJ (P:Program) (f:FuncId) (T I e z:Nat) :Prop where
 wx:P.underlying T=some (.slice e)
 ap8:P.underlying I=some (.int .i64)
 fin:∀ (base:Option Addr) (n c e5 gU jh:Nat) (r:Value) (w w' : World),n<=c->n<=4611686018427387904->(base=none->n=0/\c=0)->
  (Builtin.append_ #[T,T] T #[.slice base n c,.slice (some ⟨gU,jh,none⟩) 1 e5]).run P w=.ok r w'->
  Calls P f #[.slice base n c,.int .i64 n,.slice (some ⟨gU,jh,none⟩) 1 e5] w fun x w2=>x=.returned r/\w2=w'
 shift:∀ (b off n c i gU jh e5:Nat) (ci b6:Value) (w kH ip:World) (EG fg:TypeId) (uj x8:Nat),i<n->n+1<=c->n<=4611686018427387904->gU≠b->
  w.shape? gU=some (EG,uj)->w.shape? b=some (fg,x8)->x8≠0->w.frozen? ⟨gU,jh,none⟩=false->w.frozen? ⟨gU,uj,none⟩=false->
  (Builtin.copy_ #[T,T] I #[.slice (some ⟨b,off+(i+1)*z,none⟩) (n - i) (c - (i+1)),.slice (some ⟨b,off+i*z,none⟩) (n+1 - i) (c - i)]).run P w.drew=.ok ci kH->
  (Builtin.copy_ #[T,T] I #[.slice (some ⟨b,off+i*z,none⟩) (n+1 - i) (c - i),.slice (some ⟨gU,jh,none⟩) 1 e5]).run P kH=.ok b6 ip->
  Calls P f #[.slice (some ⟨b,off,none⟩) n c,.int .i64 i,.slice (some ⟨gU,jh,none⟩) 1 e5] w fun x w2=>x=.returned (.slice (some ⟨b,off,none⟩) (n+1) c)/\w2=ip
 grow:∀ (b off n c i gU jh e5 N G:Nat) (ci b6:Value) (w y1 kH ip:World),i<n->n<=c->c<n+1->n+1<=G->n<=4611686018427387904->
  (Builtin.append_ #[T,I] T #[.slice (some ⟨b,off,none⟩) i c,.int .i64 ((n:Int)+1 - (i:Int))]).run P w=.ok (.slice (some ⟨N,0,none⟩) (n+1) G) y1->
  (Builtin.copy_ #[T,T] I #[.slice (some ⟨N,i*z,none⟩) (n+1 - i) (G - i),.slice (some ⟨gU,jh,none⟩) 1 e5]).run P y1=.ok ci kH->
  (Builtin.copy_ #[T,T] I #[.slice (some ⟨N,(i+1)*z,none⟩) (n - i) (G - (i+1)),.slice (some ⟨b,off+i*z,none⟩) (n - i) (c - i)]).run P kH.drew=.ok b6 ip->
  Calls P f #[.slice (some ⟨b,off,none⟩) n c,.int .i64 i,.slice (some ⟨gU,jh,none⟩) 1 e5] w fun x w2=>x=.returned (.slice (some ⟨N,0,none⟩) (n+1) G)/\w2=ip
section
variable {P:Program} {G:Nat->ae} {R:Nat->Prop} {B:Nat} {w:World} {h:aQ} {μ:cJ}
theorem DN (rel:cc R B w h μ) {b sz o n:Nat} {cs:List ae} {m:M} (ai:h.f b=.cells sz cs) (hm:μ b=some m) (eA:o+n<=sz) :
  ∃ vs:List Value,rH w R h μ ((cs.drop o).take n) vs/\(loadCells ⟨m.r,m.s+o,none⟩ n).run P w=.ok vs.toArray w:=by
 have en:=rel.blk b m hm;rw[ai] at en;obtain⟨ez,dP,arr,e,fA,aC,dt,kU,ix⟩:=en;have bA:((cs.drop o).take n).length=n:=by rw[List.length_take,List.length_drop]; omega
 obtain⟨vs,cF,au⟩:=Oq (P:=P) (w:=w) (R:=R) (h:=h) (μ:=μ) (w2:=w) (xs:=(cs.drop o).take n) (blk:=m.r) (o:=m.s+o) (fun _=>rfl) (fun j c am=>by
  have aP:j<n:=by have:=(List.getElem?_eq_some_iff.1 am).1; omega
  rw[List.getElem?_take_of_lt aP,List.getElem?_drop] at am;obtain⟨v,h1,ag,ap⟩:=ix (o+j) c am;refine⟨v,?_,ag,ap⟩;simp only[World.cell?,aC,Option.isSome_none];rw[Nat.add_assoc];exact h1)
 refine⟨vs,cF,?_⟩;have:=au n (by omega) w (fun _=>rfl)
 rwa [List.take_of_length_le (by rw[cF.1,bA]; exact Nat.le_refl _)] at this
theorem Cf (rel:cc R B w h μ) {t u ty e z:Nat} (jr:P.underlying t=some (.slice e)) (aB:cz P e=some z) {b sz k:Nat} {cs:List ae} {m:M} (ai:h.f b=.cells sz cs) (hm:μ b=some m) (hk:k<=sz)
  {dLen dc sLen sc cnt:Nat} {a:Addr} {xs:List ae} {vs:List Value} (xo:Nat.min sLen dLen=cnt) (bF:xs.length=cnt*z) (aje:(loadCells a (cnt*z)).run P w=.ok vs.toArray w)
  (cF:rH w R h μ xs vs) (dP:m.s+max sz (k+cnt*z)<=m.T) :
  ∃ w',(Builtin.copy_ #[t,u] ty #[.slice (some ⟨m.r,m.s+k,none⟩) dLen dc,.slice (some a) sLen sc]).run P w=.ok (goInt cnt) w' ∧
   dr w h μ w' (h.set b (.cells (max sz (k+cnt*z)) (bS cs k xs))) μ/\cc R B w' (h.set b (.cells (max sz (k+cnt*z)) (bS cs k xs))) μ:=by
 obtain⟨w',h1,ag,ap⟩:=wz (P:=P) rel (cvs:=xs) (vs:=vs) (k:=k) ai hm hk cF.1 (by rw[bF]; exact dP) cF.2;rw[bF] at ag ap;refine⟨w',?_,ag,ap⟩;simp[Builtin.copy_,cy jr,Builtin.lenOf,Builtin.firstCells,fr aB,xo,aje,h1]
theorem ab7 {cb:World} {h1:aQ} {gE:cJ} (oU:cc R B cb h1 gE) (ex:dr w h μ cb h1 gE) {b z n nc ns:Nat} {row:List ae} {v:Value} (aI:h1.f=b5 h.f b (.cells ns row)) (aH:h1.n=h.n) (qL:ns=nc*z) (aT:0<n) (nh:b<h.n)
  (ax:aR cb R h1 gE (.ao z b 0 n nc ns) v) :
  ∃ μ',dr w h μ cb ((h.set b .dead).push (.cells ns row)) μ'/\cc R B cb ((h.set b .dead).push (.cells ns row)) μ'/\aR cb R ((h.set b .dead).push (.cells ns row)) μ' (.ao z h.n 0 n nc ns) v:=by
 have gA:h1.f b=.cells ns row:=by rw[aI,i7]
 cases ax with
 | fZ _ _ _ _ _ _ _ _ _ _ az=>
  exfalso;rcases az with az | ⟨gB,cs',az,aP⟩
  ·rw[gA] at az; cases az
  ·rw[gA] at az; cases az; omega
 | hi=>omega
 | ao _ _ _ _ _ _ cap' mC m jU hm au ay de=>
  have oJ:=oU.ab6 (b:=b) (off:=0) (m:=m) (h':=(h.set b .dead).push (.cells ns row)) gA hm (Nat.zero_le _) (by
   rw[dR,dz,eI,aI,aH];funext x;simp only[b5,Nat.sub_zero,List.drop_zero];by_cases ag:x=h.n
   ·rw[if_pos ag,if_pos ag]
   ·rw[if_neg ag,if_neg ag];split<;>rfl) (by rw[e3,eI,aH])
  refine⟨_,ex.trans oJ.1,oJ.2,?_⟩;rw[aH];exact .ao z h.n 0 n nc ns cap' row ⟨m.r,m.s+0,m.T⟩ (by rw[dR,eI,i7]) (by simp) au ay (by
   rcases de with de | ⟨qF,jV,xn⟩
   ·omega
   ·exact .inr ⟨qF,jV,by simpa using xn⟩)
theorem PV (w:World) :RowKit.Below w.heap.size w w.drew:=⟨rfl,rfl,rfl,Nat.le_refl _,fun _ _=>rfl⟩
theorem akO {z i len:Nat} {cs vs:List ae} (ja:vs.length=z) (aA:i<len) (au:len*z<=cs.length) :
  bS (bS cs ((i+1)*z) ((cs.drop (i*z)).take ((len - i)*z))) (i*z) vs=lz z cs vs i len:=by
 have h1:(i+1)*z=i*z+z:=by rw[Nat.succ_mul]
 have ag:(i+1)*z<=len*z:=Nat.mul_le_mul_right _ aA;have ap:i*z+(len - i)*z=len*z:=by rw[<-Nat.add_mul]; congr 1; omega
 have aJ:(len+1)*z=len*z+z:=by rw[Nat.succ_mul]
 have r4:((cs.drop (i*z)).take ((len - i)*z)).length=(len - i)*z:=by rw[List.length_take,List.length_drop]; omega
 have c2:(cs.take ((i+1)*z)).length=i*z+z:=by rw[List.length_take]; omega
 unfold lz bS;rw[r4,ja];have aZ:(i+1)*z+(len - i)*z=(len+1)*z:=by omega
 rw[aZ,List.append_assoc (cs.take ((i+1)*z)),List.take_append_of_le_length (by rw[c2]; omega),List.take_take,show min (i*z) ((i+1)*z)=i*z by omega];rw[show i*z+z=(cs.take ((i+1)*z)).length by rw[c2],List.drop_left];simp only[List.append_assoc]
theorem akM {z i len:Nat} {cs vs:List ae} (ja:vs.length=z) (aA:i<len) (au:len*z=cs.length) :
  bS (bS (cs.take (i*z)) (i*z) vs) ((i+1)*z) ((cs.drop (i*z)).take ((len - i)*z))=lz z cs vs i len:=by
 have h1:(i+1)*z=i*z+z:=by rw[Nat.succ_mul]
 have ag:(i+1)*z<=len*z:=Nat.mul_le_mul_right _ aA;have ap:i*z+(len - i)*z=len*z:=by rw[<-Nat.add_mul]; congr 1; omega
 have aJ:(len+1)*z=len*z+z:=by rw[Nat.succ_mul]
 have c2:(cs.take (i*z)).length=i*z:=by rw[List.length_take]; omega
 have hc:bS (cs.take (i*z)) (i*z) vs=cs.take (i*z)++vs:=by
  unfold bS;rw[List.drop_eq_nil_of_le (by rw[c2]; omega),List.append_nil,List.take_of_length_le (by rw[c2]; exact Nat.le_refl _)]
 rw[hc];unfold lz bS;have aZ:(cs.take (i*z)++vs).take ((i+1)*z)=cs.take (i*z)++vs:=List.take_of_length_le (by rw[List.length_append,c2,ja]; omega);have b4:∀ k,(cs.take (i*z)++vs).drop ((i+1)*z+k)=[] :=fun k=>List.drop_eq_nil_of_le (by rw[List.length_append,c2,ja]; omega)
 have dC:cs.drop ((len+1)*z)=[] :=List.drop_eq_nil_of_le (by omega);rw[aZ,b4,dC]
theorem al4 (a b z:Nat) :max a b*z=max (a*z) (b*z) :=by
 rcases Nat.le_total a b with h | h
 ·rw[Nat.max_eq_right h,Nat.max_eq_right (Nat.mul_le_mul_right _ h)]
 ·rw[Nat.max_eq_left h,Nat.max_eq_left (Nat.mul_le_mul_right _ h)]
theorem akJ {T e z by_:Nat} (dt:hQ P T=some e) (aB:cz P e=some z) (dO:iO P e=some by_) (oD:0<z) (vy:0<by_) (hf:ry P e=some z)
  {b bv len cap:Nat} {cs vs:List ae} (ai:h.f b=.cells (cap*z) cs) (ez:cs.length=cap*z) (iw:h.f bv=.cells z vs) (ja:vs.length=z) (kV:len<=cap) (dy:(len+1)*by_<=cT) :
  qh P h T (.ao z b 0 len cap (cap*z)) (.ao z bv 0 1 1 z)=some (.ao z b 0 (len+1) (max cap (len+1)) (max cap (len+1)*z),h.set b (.cells (max cap (len+1)*z) (lz z cs vs len len))) :=by
 have aJ:(len+1)*z=len*z+z:=by rw[Nat.succ_mul]
 have du:len*z<=cap*z:=Nat.mul_le_mul_right _ kV;have cF:lz z cs vs len len=cs.take (len*z)++vs++cs.drop ((len+1)*z) :=by simp[lz]
 have lw:(vs.drop 0).take (1*z)=vs:=by rw[List.drop_zero,Nat.one_mul,List.take_of_length_le (by omega)]
 unfold qh;rw[dt];simp only[aB,dO,contents,iw,and_self,if_true,lw];unfold te;rw[if_neg (by omega),if_neg (by rw[hf]; simp; omega)];simp only[ai,true_and,dy,if_true];by_cases aI:len+1<=cap
 ·have Vs:(len+1)*z<=cap*z:=Nat.mul_le_mul_right _ aI;rw[if_pos aI,Nat.max_eq_left aI,cF];simp only[bS,Nat.zero_add,ja,<-aJ]
 ·obtain rfl:len=cap:=by omega
  rw[if_neg aI,if_neg (by omega),Nat.max_eq_right (by omega),cF,List.drop_eq_nil_of_le (by omega),List.append_nil]
theorem Wo {f T I e z by_:Nat} (L:BJ P f T I e z) (dt:hQ P T=some e) (aB:cz P e=some z) (dO:iO P e=some by_) (oD:0<z) (vy:0<by_) (hf:ry P e=some z)
  {b bv len cap i:Nat} {cs vs:List ae} (ai:h.f b=.cells (cap*z) cs) (iw:h.f bv=.cells z vs) (bY:bv≠b) (aA:i<=len) (kV:len<=cap) (dy:(len+1)*by_<=cT) :
  rz P G f [.ao z b 0 len cap (cap*z),.int .i64 i,.ao z bv 0 1 1 z] h (.ao z h.n 0 (len+1) (max cap (len+1)) (max cap (len+1)*z)) ((h.set b .dead).push (.cells (max cap (len+1)*z) (lz z cs vs i len))) :=by
 intro R B w μ dS rel CA au ax;obtain⟨mT⟩:=dS
 match mT,au with
 | [v0,fR,ef],_=>
 have h9:=ax 0 _ v0 rfl rfl;have lw:=ax 1 _ fR rfl rfl;have vX:=ax 2 _ ef rfl rfl;have Kk:=vX;cases lw;have qy:len<=4611686018427387904:=by
  have:=Nat.le_mul_of_pos_right (len+1) vy;unfold cT at dy;omega
 have JM:yf P T:=⟨_,L.wx,fun k hk=>by cases hk⟩
 have iT:=al4 cap (len+1) z;have aJ:(len+1)*z=len*z+z:=by rw[Nat.succ_mul]
 have du:len*z<=cap*z:=Nat.mul_le_mul_right _ kV;cases vX with
 | fZ _ _ _ _ _ _ _ _ _ _ az=>
  exfalso;rcases az with az | ⟨gB,cs',az,aP⟩
  ·rw[iw] at az; cases az
  ·rw[iw] at az; cases az; omega
 | ao _ _ _ _ _ _ e5 aqj aq aie vL km JT kj=>
 have z1:=rel.blk bv aq vL;rw[iw] at z1;obtain⟨ja,atz,PN,cY,as3,J8,atg,U4,ats⟩:=z1;by_cases dI:i=len
 ·subst dI;have ajk:∃ a cap',v0=.slice (some a) i cap'/\i<=cap'/\cs.length=cap*z/\b<h.n:=by
   cases h9 with
   | fZ _ _ _ _ _ _ _ _ _ _ az=>
    exfalso;rcases az with az | ⟨gB,cs',az,aP⟩
    ·rw[ai] at az; cases az
    ·rw[ai] at az; cases az; omega
   | hi _ _ _ _ a mC m jU hm=>
    have en:=rel.blk b m hm;rw[ai] at en;exact⟨a,0,rfl,Nat.le_refl _,en.1,rel.qj hm⟩
   | ao _ _ _ _ _ _ cap' mC m jU hm au ay de=>
    have en:=rel.blk b m hm;rw[ai] at en;exact⟨_,cap',rfl,by omega,en.1,rel.qj hm⟩
  obtain⟨a,cap',rfl,Dg,ez,nh⟩:=ajk;obtain⟨v,cb,gE,hv,xv,J6,sv⟩:=Fl (P:=P) (ty:=T) (u:=T) rel JM (akJ (P:=P) dt aB dO oD vy hf ai ez iw ja kV dy) h9 Kk;refine (L.fin (some a) i cap' e5 aq.r (aq.s+0) v w cb Dg qy (fun h=>by cases h) hv).mono ?_;rintro x w2 ⟨rfl,rfl⟩;obtain⟨μ',h1,ag,ap⟩:=ab7 (h:=h) J6 xv (b:=b) (row:=lz z cs vs i i) (ns:=max cap (i+1)*z) (dz _ _ _) rfl rfl (by omega) nh sv;exact⟨v,μ',rfl,h1,ag,ap⟩
 have Af:i<len:=by omega
 have as6:(i+1)*z=i*z+z:=by rw[Nat.succ_mul]
 have as8:(i+1)*z<=len*z:=Nat.mul_le_mul_right _ Af;have as9:i*z+(len - i)*z=len*z:=by rw[<-Nat.add_mul]; congr 1; omega
 cases h9 with
 | fZ _ _ _ _ _ _ _ _ _ _ az=>
  exfalso;rcases az with az | ⟨gB,cs',az,aP⟩
  ·rw[ai] at az; cases az
  ·rw[ai] at az; cases az; omega
 | hi=>omega
 | ao _ _ _ _ _ _ cap' mC m jU hm atL ay de=>
 rw[ai] at jU; cases jU;have en:=rel.blk b m hm;rw[ai] at en;obtain⟨ez,aty,arr,mE,fA,aC,atf,kU,ix⟩:=en;obtain⟨jV,xn⟩:cap<=cap'/\m.s+cap'*z<=m.T:=by
  rcases de with de | ⟨qF,jV,xn⟩
  ·omega
  ·exact⟨jV,by simpa using xn⟩
 have nh:=rel.qj hm;have JI:aq.r≠m.r:=fun aw=>bY (rel.inj bv b aq m (by rw[iw]; rfl) (by rw[ai]; rfl) vL hm aw)
 have lw:(vs.drop 0).take z=vs:=by rw[List.drop_zero,List.take_of_length_le (by omega)]
 have r5:((cs.drop (i*z)).take ((len - i)*z)).length=(len - i)*z:=by rw[List.length_take,List.length_drop]; omega
 by_cases dP:len+1<=cap'
 ·have Vs:(len+1)*z<=cap'*z:=Nat.mul_le_mul_right _ dP;obtain⟨Cq,sV⟩:=N9 rel (w':=w.drew) (PV w);obtain⟨cm,Du,JE⟩:=DN (P:=P) sV (o:=i*z) (n:=(len - i)*z) ai hm (by omega);obtain⟨kH,tM,zG,oU⟩:=Cf (P:=P) (t:=T) (u:=T) (ty:=I) sV L.wx aB (k:=(i+1)*z) ai hm (by omega) (dLen:=len - i) (dc:=cap' - (i+1)) (sLen:=len+1 - i) (sc:=cap' - i) (cnt:=len - i)
   (by simp only[Nat.min_def]; split<;>omega) r5 JE Du (by omega)
  have xN:max (cap*z) ((i+1)*z+(len - i)*z)=max cap (len+1)*z:=by omega
  rw[xN] at zG oU;have gA:(h.set b (.cells (max cap (len+1)*z) (bS cs ((i+1)*z) ((cs.drop (i*z)).take ((len - i)*z))))).f b=.cells (max cap (len+1)*z) (bS cs ((i+1)*z) ((cs.drop (i*z)).take ((len - i)*z))) :=by rw[dz,i7]
  have aif:(h.set b (.cells (max cap (len+1)*z) (bS cs ((i+1)*z) ((cs.drop (i*z)).take ((len - i)*z))))).f bv=.cells z vs:=by rw[dz,cg _ _ _ _ bY]; exact iw
  obtain⟨DT,Dv,JF⟩:=DN (P:=P) oU (o:=0) (n:=z) aif vL (by omega);rw[lw] at Dv;obtain⟨ip,tN,tB,rm⟩:=Cf (P:=P) (t:=T) (u:=T) (ty:=I) oU L.wx aB (k:=i*z) gA hm (by omega) (dLen:=len+1 - i) (dc:=cap' - i) (sLen:=1) (sc:=e5) (cnt:=1)
   (by simp only[Nat.min_def]; split<;>omega) (by omega) (by rw[Nat.one_mul]; exact JF) Dv (by omega)
  have xO:max (max cap (len+1)*z) (i*z+1*z)=max cap (len+1)*z:=by omega
  rw[xO,akO ja Af (by omega)] at tB rm;have Ji:w.frozen? ⟨aq.r,aq.s+0,none⟩=false:=by
   simp only[World.frozen?,J8];rcases U4 with aT | aT
   ·subst aT; simp
   ·simp; intro ap; omega
  have Ab:w.frozen? ⟨aq.r,PN.size,none⟩=false:=by
   simp only[World.frozen?,J8];rcases U4 with aT | aT
   ·subst aT; simp
   ·simp; intro ap; omega
  refine (L.shift m.r m.s len cap' i aq.r (aq.s+0) e5 _ _ w kH ip cY mE PN.size arr.size Af dP qy JI (by simp[World.shape?,J8]) (by simp[World.shape?,aC]) (by omega) Ji Ab tM tN).mono ?_;rintro x w2 ⟨rfl,rfl⟩;obtain⟨μ',h1,ag,ap⟩:=ab7 (h:=h) rm ((Cq.trans zG).trans tB) (b:=b) (row:=lz z cs vs i len) (ns:=max cap (len+1)*z) (n:=len+1) (nc:=max cap (len+1)) (z:=z) (v:=.slice (some ⟨m.r,m.s+0,none⟩) (len+1) cap') (by
   rw[dz,dz];funext y;simp only[b5];split<;>rfl) rfl rfl (by omega) nh (.ao z b 0 (len+1) (max cap (len+1)) (max cap (len+1)*z) cap' _ m (by rw[dz,i7]) hm (by omega) (by omega) (.inr ⟨by omega,by omega,by simpa using xn⟩))
  exact⟨_,μ',rfl,h1,ag,ap⟩
 ·obtain rfl:cap=len:=by omega
  obtain rfl:cap'=cap:=by omega
  obtain⟨ub,zv,Jq,kw,iU⟩:=ady hf;have oK:ub.size=z:=by simp[cz,Jq] at aB; exact aB
  have kS:ub.bytes=by_:=by simp[iO,Jq] at dO; exact dO
  have dp:contents h z (.ao z b 0 i cap' (cap'*z))=some ((cs.drop 0).take (i*z),i) :=by simp[contents,ai]
  obtain⟨dJ,_,fl,hu,vQ⟩:=tv (P:=P) rel dp (aR.ao z b 0 i cap' (cap'*z) cap' cs m ai hm (by omega) (by omega) (.inr ⟨by omega,Nat.le_refl _,by simpa using xn⟩));have Ao:=vQ i (Nat.le_refl _) w.drew (fun _=>rfl);rw[List.take_of_length_le (by rw[hu.1,dJ]; exact Nat.le_refl _)] at Ao;rw[List.drop_zero] at hu dJ;have VW:(cap'+1)*ub.bytes<=cT:=by rw[kS]; exact dy
  have pq:i+(cap'+1 - i)=cap'+1:=by omega
  have atl:(cap'+1 - i)*ub.bytes<=(cap'+1)*ub.bytes:=Nat.mul_le_mul_right _ (by omega);have ou:=Lib.run_append_grow_zeros w T I T e ub zv .i64 .i64 L.wx L.ap8 Jq kw (some ⟨m.r,m.s+0,none⟩) i cap' fl (by rw[oK]; exact Ao) (cap'+1 - i) (by omega) (by omega) (by omega) (by omega) (by unfold cT at VW; omega)
   (by rw[pq]; have:=growslice_fits (old:=cap') (need:=cap'+1) (by omega) VW; omega)
  rw[pq] at ou;obtain⟨qc,Up⟩:∃ qc,qc=grownCap w (cap'+1) cap' e:=⟨_,rfl⟩
  have Uq:cap'+1<=qc:=by rw[Up]; exact grownCap_ge w _ _ _
  rw[<-Up] at ou;obtain⟨ROW,CM⟩:∃ ROW:Array Value,ROW=fl.toArray++Builtin.zeroCells zv.cells (cap'+1 - i)++Builtin.zeroCells zv.cells (qc - (cap'+1)) :=⟨_,rfl⟩
  rw[<-CM] at ou;have ate:(cap'+1)*z<=ROW.size:=by
   have aZ:i*z+(cap'+1 - i)*z=(cap'+1)*z:=by rw[<-Nat.add_mul]; congr 1
   rw[CM];simp only[Array.size_append,List.size_toArray,Builtin.zeroCells];simp[iU,hu.1];omega
  have c2:(cs.take (i*z)).length=i*z:=by rw[List.length_take]; omega
  obtain⟨Cq,sV⟩:=rel.push (w':=w.drew.alloc (.cells ROW e)) (cs.take (i*z)) ROW e rfl rfl rfl rfl (by omega) (fun j c am=>by
   obtain⟨v,aY,a2,bh⟩:=hu.2 j c am;refine⟨v,?_,a2,bh⟩;have aP:j<fl.length:=(List.getElem?_eq_some_iff.1 aY).1;rw[CM,Array.append_assoc,Array.getElem?_append_left (by simpa using aP)];simpa using aY)
  rw[c2] at Cq sV;have CZ:b≠h.n:=by omega
  have atq:=rel.qj vL;have UJ:bv≠h.n:=by omega
  have nq:(b5 μ h.n (some ⟨w.heap.size,0,ROW.size⟩)) h.n=some ⟨w.heap.size,0,ROW.size⟩:=i7 _ _ _;have ajq:(b5 μ h.n (some ⟨w.heap.size,0,ROW.size⟩)) bv=some aq:=by rw[cg _ _ _ _ UJ]; exact vL
  have ajl:(b5 μ h.n (some ⟨w.heap.size,0,ROW.size⟩)) b=some m:=by rw[cg _ _ _ _ CZ]; exact hm
  have ah5:(h.push (.cells (i*z) (cs.take (i*z)))).f h.n=.cells (i*z) (cs.take (i*z)) :=by rw[dR,i7]
  have ah7:(h.push (.cells (i*z) (cs.take (i*z)))).f bv=.cells z vs:=by rw[dR,cg _ _ _ _ UJ]; exact iw
  obtain⟨DT,Du,JE⟩:=DN (P:=P) sV (o:=0) (n:=z) ah7 ajq (by omega);rw[lw] at Du;obtain⟨kH,tM,zG,oU⟩:=Cf (P:=P) (t:=T) (u:=T) (ty:=I) sV L.wx aB (k:=i*z) ah5 nq (Nat.le_refl _) (dLen:=cap'+1 - i) (dc:=qc - i) (sLen:=1) (sc:=e5) (cnt:=1)
   (by simp only[Nat.min_def]; split<;>omega) (by omega) (by rw[Nat.one_mul]; exact JE) Du (by simp only; omega)
  have xN:max (i*z) (i*z+1*z)=(i+1)*z:=by omega
  rw[xN] at zG oU;obtain⟨agJ,ab1⟩:=N9 oU (w':=kH.drew) (PV kH);have ah6:((h.push (.cells (i*z) (cs.take (i*z)))).set h.n (.cells ((i+1)*z) (bS (cs.take (i*z)) (i*z) vs))).f h.n=.cells ((i+1)*z) (bS (cs.take (i*z)) (i*z) vs) :=by rw[dz,i7]
  have UF:((h.push (.cells (i*z) (cs.take (i*z)))).set h.n (.cells ((i+1)*z) (bS (cs.take (i*z)) (i*z) vs))).f b=.cells (cap'*z) cs:=by rw[dz,cg _ _ _ _ CZ,dR,cg _ _ _ _ CZ]; exact ai
  obtain⟨cm,Dv,JF⟩:=DN (P:=P) ab1 (o:=i*z) (n:=(cap' - i)*z) UF ajl (by omega);obtain⟨ip,tN,tB,rm⟩:=Cf (P:=P) (t:=T) (u:=T) (ty:=I) ab1 L.wx aB (k:=(i+1)*z) ah6 nq (Nat.le_refl _) (dLen:=cap' - i) (dc:=qc - (i+1)) (sLen:=cap' - i) (sc:=cap' - i) (cnt:=cap' - i)
   (by simp only[Nat.min_def]; split<;>omega) r5 JF Dv (by simp only; omega)
  have xO:max ((i+1)*z) ((i+1)*z+(cap' - i)*z)=(cap'+1)*z:=by omega
  rw[xO,akM ja Af (by omega)] at tB rm;simp only[Nat.zero_add] at tM tN;have ajw:max cap' (cap'+1)=cap'+1:=by omega
  rw[ajw];refine (L.grow m.r (m.s+0) cap' cap' i aq.r (aq.s+0) e5 w.heap.size qc _ _ w _ kH ip Af (Nat.le_refl _) (by omega) Uq qy ?_ tM tN).mono ?_
  ·have:(cap' : Int)+1 - (i:Int)=((cap'+1 - i:Nat) :Int) :=by omega
   rw[this];exact ou
  rintro x w2 ⟨rfl,rfl⟩;have hk:=rm.kill (b:=b) (sz:=cap'*z) (cs:=cs) (h':=(h.set b .dead).push (.cells ((cap'+1)*z) (lz z cs vs i cap'))) (by rw[dz,cg _ _ _ _ CZ]; exact UF) (by rw[eI,eI,e3]; omega) (by
   rw[dR,dz,eI,dz,dz,dR];funext y;simp only[b5];by_cases h1:y=h.n
   ·rw[if_pos h1,if_neg (by omega),if_pos h1]
   ·rw[if_neg h1];split
    ·rfl
    ·simp[h1]) (by rw[e3,eI,eI,eI,e3])
  refine⟨_,_,rfl,(((Cq.trans zG).trans agJ).trans tB).trans hk.1,hk.2,?_⟩;have:=aR.ao (w:=w2) (R:=R) (h:=(h.set b .dead).push (.cells ((cap'+1)*z) (lz z cs vs i cap'))) (μ:=b5 μ h.n (some ⟨w.heap.size,0,ROW.size⟩)) z h.n 0 (cap'+1) (cap'+1) ((cap'+1)*z) qc (lz z cs vs i cap') ⟨w.heap.size,0,ROW.size⟩ (by rw[dR,eI,i7]) (by simp) (Nat.le_refl _) (by omega) (.inr ⟨by omega,Uq,by
   simp only;have aZ:i*z+(cap'+1 - i)*z=(cap'+1)*z:=by rw[<-Nat.add_mul]; congr 1
   have b4:(cap'+1)*z+(qc - (cap'+1))*z=qc*z:=by rw[<-Nat.add_mul]; congr 1; omega
   rw[CM];simp only[Array.size_append,List.size_toArray,Builtin.zeroCells];simp[iU,hu.1];omega⟩)
  simpa using this
theorem Wn {f T I e z by_:Nat} (L:BJ P f T I e z) (dt:hQ P T=some e) (aB:cz P e=some z) (dO:iO P e=some by_) (oD:0<z) (vy:0<by_) (hf:ry P e=some z)
  {bv:Nat} {vs:List ae} (iw:h.f bv=.cells z vs) (dy:by_<=cT) :
  rz P G f [.aX,.int .i64 0,.ao z bv 0 1 1 z] h (.ao z h.n 0 1 1 z) (h.push (.cells z vs)) :=by
 intro R B w μ dS rel CA au ax;obtain⟨mT⟩:=dS
 match mT,au with
 | [v0,fR,ef],_=>
 have h9:=ax 0 _ v0 rfl rfl;have lw:=ax 1 _ fR rfl rfl;have vX:=ax 2 _ ef rfl rfl;have Kk:=vX;cases lw;have akd:=h9;cases h9;have JM:yf P T:=⟨_,L.wx,fun k hk=>by cases hk⟩
 cases vX with
 | fZ _ _ _ _ _ _ _ _ _ _ az=>
  exfalso;rcases az with az | ⟨gB,cs',az,aP⟩
  ·rw[iw] at az; cases az
  ·rw[iw] at az; cases az; omega
 | ao _ _ _ _ _ _ e5 aqj aq aie vL km JT kj=>
 have z1:=rel.blk bv aq vL;rw[iw] at z1;obtain⟨ja,_⟩:=z1;have aG:qh P h T .aX (.ao z bv 0 1 1 z)=some (.ao z h.n 0 1 1 z,h.push (.cells z vs)) :=by
  have lw:(vs.drop 0).take (1*z)=vs:=by rw[List.drop_zero,Nat.one_mul,List.take_of_length_le (by omega)]
  unfold qh;rw[dt];simp only[aB,dO,contents,iw,and_self,if_true,lw];unfold te;rw[if_neg (by omega),if_neg (by rw[hf]; simp; omega)];simp only[Nat.one_mul,dy,if_true]
 obtain⟨v,cb,gE,hv,xv,J6,sv⟩:=Fl (P:=P) (ty:=T) (u:=T) rel JM aG akd Kk;refine (L.fin none 0 0 e5 aq.r (aq.s+0) v w cb (Nat.le_refl _) (by omega) (fun _=>⟨rfl,rfl⟩) hv).mono ?_;rintro x w2 ⟨rfl,rfl⟩;exact⟨v,gE,rfl,xv,J6,sv⟩
theorem akE {f T I e z by_:Nat} (L:BJ P f T I e z) (dt:hQ P T=some e) (aB:cz P e=some z) (dO:iO P e=some by_) (oD:0<z) (vy:0<by_) (hf:ry P e=some z)
  (args:List ae) (h:aQ) (r:ae) (h' : aQ) (aj:sB z by_ args h=some (r,h')) :rz P G f args h r h':=by
 unfold sB at aj;split at aj
 ·rename_i s x y;split at aj
  ·rename_i i iH bv nG ce dB mQ j3;have akl:x=.int .i64 i:=by
    unfold PO at j3;split at j3
    ·split at j3
     ·cases j3; rfl
     ·cases j3
    ·cases j3
   subst akl;split at aj
   ·rename_i jc vs iw;split at aj
    ·rename_i al;obtain⟨rfl,rfl,rfl,rfl,rfl,rfl,aT⟩:=al;obtain⟨k,rfl⟩:=Int.eq_ofNat_of_zero_le aT;rw[Int.toNat_natCast] at aj;unfold AH at aj;cases s<;>simp only at aj<;>try (cases aj; done)
     case aX=>
      split at aj
      ·rename_i al;obtain⟨rfl,aC⟩:=al;cases aj;exact Wn L dt aB dO oD vy hf iw aC
      ·cases aj
     case ao lH b off len cap sz=>
      cases ai:h.f b<;>rw[ai] at aj<;>(try simp only at aj)<;>try (cases aj; done)
      split at aj
      ·rename_i al;obtain⟨rfl,rfl,rfl,rfl,bY,aA,kV,aC⟩:=al;cases aj;exact Wo L dt aB dO oD vy hf ai iw bY aA kV aC
      ·cases aj
    ·cases aj
   ·cases aj
  ·cases aj
 ·cases aj
end
end Go.cn

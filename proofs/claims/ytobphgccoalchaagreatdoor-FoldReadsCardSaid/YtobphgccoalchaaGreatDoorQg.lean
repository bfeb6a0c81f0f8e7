/-
  The canonical machine: appending to a slice of one's own, with a frame for nil; a set's frames.
-/
import Derived.Test.YtobphgccoalchaaGreatDoorQf
import Derived.Lib.AppendZerosOnto
import Derived.ProofKit
import Derived.Test.YtobphgccoalchaaGreatDoorRows
set_option linter.unusedVariables false
set_option linter.unusedSimpArgs false
set_option linter.unnecessarySimpa false
namespace Go.b2
open Go
section
variable {P:Program} {l:am} {aA:Operand->U}
@[simp ↓] theorem ar2:bO P aA l (.uA none)=some (.mp l.length,l++[.map [] 0]) :=id rfl
@[simp ↓] theorem arX (cM:TypeId) (zero:U) (ok:Bool) (m k:Operand) :bO P aA l (.ym cM zero ok m k)=dv l (wi P l cM zero ok (aA m) (aA k)) :=id rfl
@[simp ↓] theorem ar4 (cM:TypeId) (m k x:Operand) :bO P aA l (.wn cM m k x)=(sM P l cM (aA m) (aA k) (aA x)).map fun l'=>(he,l') :=id rfl
@[simp ↓] theorem arW (x:Operand) :bO P aA l (.we x)=dv l (Dh l (aA x)) :=id rfl
@[simp ↓] theorem ar9 (x:Operand) :bO P aA l (.wD x)=AJ l (aA x) :=id rfl
@[simp ↓] theorem ar7 (x:Operand) :bO P aA l (.wq x)=uC l (aA x) :=id rfl
@[simp ↓] theorem aq8 (x:Option Operand) (v:U) (K:U->am->Prop) :er (.uA x) v l K=K v l:=id rfl
@[simp ↓] theorem aq3 (cM:TypeId) (zero:U) (ok:Bool) (m k:Operand) (v:U) (K:U->am->Prop) :er (.ym cM zero ok m k) v l K=K v l:=id rfl
@[simp ↓] theorem ara (cM:TypeId) (m k x:Operand) (v:U) (K:U->am->Prop) :er (.wn cM m k x) v l K=K v l:=id rfl
@[simp ↓] theorem aq2 (x:Operand) (v:U) (K:U->am->Prop) :er (.we x) v l K=K v l:=id rfl
@[simp ↓] theorem arh (x:Operand) (v:U) (K:U->am->Prop) :er (.wD x) v l K=K v l:=id rfl
@[simp ↓] theorem ard (x:Operand) (v:U) (K:U->am->Prop) :er (.wq x) v l K=K v l:=id rfl
end

section
variable {z:Nat} {l l' : am} {v:U} {j:Nat} {es:List (List U)}
theorem Ot (h:bJ z l v j es) {by_:Nat} {x:U} {xs:List (List U)} (af:dp l z x=some (xs.flatten,xs.length)) (lf:∀ e∈xs,e.length=z) (aE:z≠0) (dD:by_≠0) (df:(es.length+xs.length)*by_<=ct) :
  ∃ aY bX l',fz l z by_ v x=some (aY,l')/\bJ z l' aY bX (es++xs)/\l.length<=l'.length/\(∀ b,b<l.length->v=.a1\/b≠j->l'[b]? = l[b]?)/\(l.length<=bX\/(v≠.a1/\bX=j)\/aY=.a1)/\cD aY=(cD v&&xs.isEmpty) :=by
 by_cases aq:v=.a1
 ·subst aq;have ao:es=[] :=h.q.uD;subst ao;obtain⟨aY,bX,l1,h1,ad,aj,aF,aW,bt⟩:=ou (.nil (z:=z) (l:=l) (l.length+1)) af lf aE dD df;refine⟨aY,bX,l1,h1,ad,aj,fun b ag _=>aF b ag (by omega),?_,uq bt⟩;rcases aW with aW | aW
  ·exact .inl (by omega)
  ·exact .inl aW
 ·obtain⟨aY,bX,l1,h1,ad,aj,aF,aW,bt⟩:=ou h af lf aE dD df;refine⟨aY,bX,l1,h1,ad,aj,fun b ag aC=>aF b ag (aC.resolve_left aq),?_,uq bt⟩;rcases aW with aW | aW
  ·exact .inr (.inl ⟨aq,aW⟩)
  ·exact .inl aW
theorem bJ.cq (h:bJ z l v j es) (aD:∀ b,b<l.length->b=j->l'[b]? = l[b]?) :bJ z l' v j es:=h.frame fun ai=>aD j ai rfl
theorem c0.r8 {K:U->am->Prop} (h:bJ z l v j es) (aq:cD v=false) (aV:K (.bD z es) (l.set j .dead)) :c0 v l (c:=⟨K⟩) :=by
 cases h with
 | nil j=>cases aq
 | au j n cap sz cs es ag ak aC aw ah cS ce=>
 have aK:=fc ag;have bq:(bU (l.set j .dead)).f j=.dead:=by rw[mI,auQ,if_pos rfl,if_pos aK]
 have dO:n*z<=cap*z:=aty _ ah;refine .inr ⟨_,_,⟨by simp,fun bi=>?_⟩,.au z j 0 n cap sz cs es (lX.2 ag) bq aC aw (by omega) (fun i k e c c' ao hk oE=>?_),aV⟩
 ·by_cases b1:bi=j
  ·subst b1; exact .inr ⟨sz,cs,lX.2 ag,.inl bq⟩
  ·left;rw[mI,mI,auQ,if_neg (by omega)]
 ·have CC:k<z:=by rw[<-aw e (atz ao)]; exact (atq.1 hk).1
  have av:=(atq.1 ao).1;have hm:i*z+z<=n*z:=by rw[<-aua]; exact aty _ (by omega)
  have h1:=EZ aw ao CC;rw[<-ce,atP (by omega),hk] at h1;rw[auF,h1] at oE;cases oE;exact .same _
end
inductive lv where
 | b
 | i (k:IntKind)
 | s
def DZ:lv->U->Bool
 | .b,.bool _=>true
 | .i k,.int k' _=>decide (k=k')
 | .s,.str _=>true
 | _,_=>false
def hB:List lv->List U->Bool
 | [],[]=>true
 | k::bN,c::cs=>DZ k c&&hB bN cs
 | _,_=>false
theorem Dq:∀ {bN:List lv} {cs:List U},hB bN cs=true->cs.length=bN.length
 | [],[],_=>rfl
 | [],_::_,h=>by cases h
 | _::_,[],h=>by cases h
 | k::bN,c::cs,h=>by simp only[hB,atv] at h; simp[Dq h.2]
theorem Dr:∀ {l r:List lv} {m:List U},hB (l++r) m=true->∃ gm hr,m=gm++hr/\hB l gm=true/\hB r hr=true
 | [],r,m,h=>⟨[],m,rfl,rfl,h⟩
 | k::l,r,[],h=>by cases h
 | k::l,r,c::m,h=>by
  simp only[auM,hB,atv] at h;obtain⟨gm,hr,rfl,h1,ad⟩:=Dr h.2;exact⟨c::gm,hr,rfl,by simp[hB,h.1,h1],ad⟩
theorem V1 {k:IntKind} {xs:List U} (h:hB [.i k] xs=true) :∃ p,xs=[.int k p] :=by
 cases xs with
 | nil=>cases h
 | cons c r=>
  simp only[hB,atv] at h;cases r with
  | cons _ _=>cases h.2
  | nil=>
   cases c<;>simp only[DZ] at h<;>try (cases h.1; done)
   rename_i k' p;have hk:k=k':=by simpa using h.1
   subst hk;exact⟨p,rfl⟩
theorem Is:∀ {ii ku jA nB:List U},ii.length=ku.length->eU (ii++jA) (ku++nB)=(eU ii ku&&eU jA nB)
 | [],[],_,_,_=>by simp[eU]
 | [],_::_,_,_,h=>by simp at h
 | _::_,[],_,_,h=>by simp at h
 | a::ii,b::ku,jA,nB,h=>by
  simp only[atL,Nat.add_right_cancel_iff] at h;simp only[auM,eU,Is h,Bool.and_assoc]
section
variable (P:Program)
def Gx (f:TypeId->Option (List lv)) :List Field->Nat->Option (List lv)
 | [],_=>some []
 | fd::fs,o=>match f fd.type,cv P fd.type with
  | some l,some z=>match fd.name != "_"&&Nat.beq fd.offset o&&Nat.beq l.length z with
   | true=>match Gx f fs (o+z) with
    | some r=>some (l++r)
    | none=>none
   | false=>none
  | _,_=>none
def rg:Nat->TypeId->Option (List lv)
 | 0,_=>none
 | d+1,t=>match P.underlying t with
  | some .bool=>some [.b]
  | some (.int k)=>some [.i k]
  | some .string=>some [.s]
  | some (.array n e)=>match rg d e,cv P e with
   | some l,some z=>match Nat.beq l.length z with
    | true=>some (List.replicate n l).flatten
    | false=>none
   | _,_=>none
  | some (.struct fs)=>match P.stoodInHeld t with
   | false=>Gx P (rg d) fs.toList 0
   | true=>none
  | _=>none
def kw (t:TypeId) (l:List U) :Option U:=match dW P t with
 | some true=>some (.aM l)
 | some false=>l[0]?
 | none=>none
end
variable {P:Program}
theorem Ha {t:TypeId} {z:Nat} (aw:cv P t=some z) {pre mid post:List U} (hm:mid.length=z) (ar:dW P t=some false->mid.length=1) :hC P t (pre++(mid++post)) pre.length=kw P t mid:=by
 unfold hC kw;rw[aw];cases aB:dW P t with
 | none=>rfl
 | some g=>
  cases g with
  | true=>
   simp only;rw[if_pos (by simp; omega),List.drop_left,atS (by omega),atr (by omega)]
  | false=>
   have:=ar aB;simp only;rw[atC (by omega),avt,ats (by omega)]
def EqAt (P:Program) (f:TypeId->Option (List lv)) (eq:TypeId->U->U->Option Bool) :Prop:=
 ∀ t bN,f t=some bN->(dW P t=some false->bN.length=1)/\∀ xs a6,hB bN xs=true->hB bN a6=true->∃ a b,kw P t xs=some a/\kw P t a6=some b/\eq t a b=some (eU xs a6)
theorem RG {f:TypeId->Option (List lv)} {eq:TypeId->U->U->Option Bool} (ao:EqAt P f eq) :∀ (fs:List Field) (o:Nat) (bN:List lv),Gx P f fs o=some bN->∀ (o8 o9 cG o1:List U),o8.length=o->o9.length=o->hB bN cG=true->hB bN o1=true->
  ez.eqFields P eq (o8++cG) (o9++o1) fs=some (eU cG o1)
 | [],o,bN,h,o8,o9,cG,o1,af,az,rh,ut=>by
  cases h;cases cG with
  | nil=>cases o1 with | nil=>rfl | cons _ _=>cases ut
  | cons _ _=>cases rh
 | fd::fs,o,bN,h,o8,o9,cG,o1,af,az,rh,ut=>by
  unfold Gx at h;split at h
  ·rename_i l z ak aw;split at h
   ·rename_i ah;simp only[atv,bne_iff_ne,ne_eq] at ah;split at h
    ·rename_i r ax;cases h;obtain⟨ii,jA,rfl,aS,aX⟩:=Dr rh;obtain⟨ku,nB,rfl,dM,dy⟩:=Dr ut;have ap:fd.offset=o:=auj ah.1.2;have FZ:l.length=z:=auj ah.2;obtain⟨aL,aT⟩:=ao _ _ ak;obtain⟨a,b,pG,nM,tI⟩:=aT ii ku aS dM;have LP:=Dq aS;have LQ:=Dq dM;unfold ez.eqFields;rw[if_neg ah.1.1,ap];rw[show hC P fd.type (o8++(ii++jA)) o=some a by rw[<-af,Ha aw (by omega) (fun h=>by rw[LP]; exact aL h)]; exact pG];rw[show hC P fd.type (o9++(ku++nB)) o=some b by rw[<-az,Ha aw (by omega) (fun h=>by rw[LQ]; exact aL h)]; exact nM];simp only[tI];rw[Is (by omega)];have aH:=RG ao fs (o+z) r ax (o8++ii) (o9++ku) jA nB (by simp; omega) (by simp; omega) aX dy;rw[at1,at1] at aH;cases eU ii ku with
     | true=>simpa using aH
     | false=>simp
    ·cases h
   ·cases h
  ·cases h
theorem RF {eq:TypeId->U->U->Option Bool} {e:TypeId} {l:List lv} {z:Nat} (aw:cv P e=some z) (FZ:l.length=z) (ar:dW P e=some false->l.length=1)
  (ao:∀ xs a6,hB l xs=true->hB l a6=true->∃ a b,kw P e xs=some a/\kw P e a6=some b/\eq e a b=some (eU xs a6)) :∀ (n i:Nat) (o8 o9 cG o1:List U),o8.length=i*z->o9.length=i*z->hB (List.replicate n l).flatten cG=true->hB (List.replicate n l).flatten o1=true->
  ez.r6 P eq e z (o8++cG) (o9++o1) n i=some (eU cG o1)
 | 0,i,o8,o9,cG,o1,af,az,rh,ut=>by
  simp only[List.replicate_zero,List.flatten_nil] at rh ut;cases cG with
  | nil=>cases o1 with | nil=>rfl | cons _ _=>cases ut
  | cons _ _=>cases rh
 | n+1,i,o8,o9,cG,o1,af,az,rh,ut=>by
  rw[aus,aup] at rh ut;obtain⟨ii,jA,rfl,aS,aX⟩:=Dr rh;obtain⟨ku,nB,rfl,dM,dy⟩:=Dr ut;obtain⟨a,b,pG,nM,tI⟩:=ao ii ku aS dM;have LP:=Dq aS;have LQ:=Dq dM;unfold ez.r6;rw[show hC P e (o8++(ii++jA)) (i*z)=some a by rw[<-af,Ha aw (by omega) (fun h=>by rw[LP]; exact ar h)]; exact pG];rw[show hC P e (o9++(ku++nB)) (i*z)=some b by rw[<-az,Ha aw (by omega) (fun h=>by rw[LQ]; exact ar h)]; exact nM];simp only[tI];rw[Is (by omega)];have aH:=RF aw FZ ar ao n (i+1) (o8++ii) (o9++ku) jA nB (by simp[aua]; omega) (by simp[aua]; omega) aX dy;rw[at1,at1] at aH;cases eU ii ku with
  | true=>simpa using aH
  | false=>simp
theorem EQ:∀ (d D:Nat),d<=D->EqAt P (rg P d) (ez P D)
 | 0,D,_,t,bN,h=>by cases h
 | d+1,0,bq,t,bN,h=>by omega
 | d+1,D+1,bq,t,bN,h=>by
  have aH:=EQ d D (by omega);unfold rg at h;split at h
  ·rename_i aJ;have aB:dW P t=some false:=by unfold dW; rw[aJ]; rfl
   cases h;refine⟨fun _=>rfl,fun xs a6 af az=>?_⟩
   match xs,a6,af,az with
   | [.bool p],[.bool q],_,_=>
    refine⟨.bool p,.bool q,by simp[kw,aB],by simp[kw,aB],?_⟩;unfold ez; rw[aJ];cases p<;>cases q<;>rfl
  ·rename_i k aJ;have aB:dW P t=some false:=by unfold dW; rw[aJ]; rfl
   cases h;refine⟨fun _=>rfl,fun xs a6 af az=>?_⟩;obtain⟨p,rfl⟩:=V1 af;obtain⟨q,rfl⟩:=V1 az
   ·refine⟨.int k p,.int k q,by simp[kw,aB],by simp[kw,aB],?_⟩;unfold ez; rw[aJ];by_cases h:p=q<;>simp[eU,U.beq,h]
  ·rename_i aJ;have aB:dW P t=some false:=by unfold dW; rw[aJ]; rfl
   cases h;refine⟨fun _=>rfl,fun xs a6 af az=>?_⟩
   match xs,a6,af,az with
   | [.str p],[.str q],_,_=>
    refine⟨.str p,.str q,by simp[kw,aB],by simp[kw,aB],?_⟩;unfold ez; rw[aJ];by_cases h:p=q<;>simp[eU,U.beq,h]
  ·rename_i n e aJ;have aB:dW P t=some true:=by unfold dW; rw[aJ]; rfl
   split at h
   ·rename_i l z ak aw;split at h
    ·rename_i FZ;cases h;obtain⟨aL,aT⟩:=aH _ _ ak;refine⟨fun h=>(by rw[aB] at h; cases h),fun xs a6 af az=>⟨.aM xs,.aM a6,by simp[kw,aB],by simp[kw,aB],?_⟩⟩;unfold ez; rw[aJ];simp only[aw];exact RF aw (auj FZ) aL aT n 0 [] [] xs a6 (by simp) (by simp) af az
    ·cases h
   ·cases h
  ·rename_i fs aJ;have aB:dW P t=some true:=by unfold dW; rw[aJ]; rfl
   split at h
   ·rename_i al;refine⟨fun h=>(by rw[aB] at h; cases h),fun xs a6 af az=>⟨.aM xs,.aM a6,by simp[kw,aB],by simp[kw,aB],?_⟩⟩;unfold ez; rw[aJ];simp only[al,auL,if_false];exact RG aH fs.toList 0 bN h [] [] xs a6 rfl rfl af az
   ·cases h
  ·cases h
theorem Iu {t:TypeId} {bN:List lv} (hk:rg P 20 t=some bN) (aB:dW P t=some true) (ar:P.eqGuardType P.depth t=false) {xs a6:List U} (af:hB bN xs=true) (az:hB bN a6=true) :gi P .eql t (.aM xs) (.aM a6)=some (.bool (eU xs a6)) :=by
 obtain⟨a,b,pG,nM,tI⟩:=(EQ (P:=P) 20 10000 (by omega) t bN hk).2 xs a6 af az;simp only[kw,aB,Option.some.injEq] at pG nM;subst pG; subst nM;exact ZU ar tI
theorem Er {t:TypeId} {bN:List lv} (hk:rg P 20 t=some bN) (aB:dW P t=some true) (ar:P.eqGuardType P.depth t=false) {xs a6:List U} (af:hB bN xs=true) (az:hB bN a6=true) :gi P .neq t (.aM xs) (.aM a6)=some (.bool (!eU xs a6)) :=by
 obtain⟨a,b,pG,nM,tI⟩:=(EQ (P:=P) 20 10000 (by omega) t bN hk).2 xs a6 af az;simp only[kw,aB,Option.some.injEq] at pG nM;subst pG; subst nM;exact ZV ar tI
end Go.b2

namespace Go.b2
open Go Go.Proofs Go.Shelf
structure Bd (P:Program) (f:FuncId) (T I e z:Nat) :Prop where
 yR:P.underlying T=some (.slice e)
 alK:P.underlying I=some (.int .i64)
 fin:∀ (base:Option Addr) (n c ep e0 gJ:Nat) (r:Value) (w w' : World),n<=c->n<=4611686018427387904->(base=none->n=0/\c=0)->
  (Builtin.append_ #[T,T] T #[.slice base n c,.slice (some ⟨e0,gJ,none⟩) 1 ep]).run P w=.ok r w'->
  Calls P f #[.slice base n c,.int .i64 n,.slice (some ⟨e0,gJ,none⟩) 1 ep] w fun x w2=>x=.returned r/\w2=w'
 shift:∀ (b off n c i e0 gJ ep:Nat) (b9 b0:Value) (w iN hf:World) (yN e8:TypeId) (p9 sJ:Nat),i<n->n+1<=c->n<=4611686018427387904->e0≠b->
  w.shape? e0=some (yN,p9)->w.shape? b=some (e8,sJ)->sJ≠0->w.frozen? ⟨e0,gJ,none⟩=false->w.frozen? ⟨e0,p9,none⟩=false->
  (Builtin.copy_ #[T,T] I #[.slice (some ⟨b,off+(i+1)*z,none⟩) (n - i) (c - (i+1)),.slice (some ⟨b,off+i*z,none⟩) (n+1 - i) (c - i)]).run P w.drew=.ok b9 iN->
  (Builtin.copy_ #[T,T] I #[.slice (some ⟨b,off+i*z,none⟩) (n+1 - i) (c - i),.slice (some ⟨e0,gJ,none⟩) 1 ep]).run P iN=.ok b0 hf->
  Calls P f #[.slice (some ⟨b,off,none⟩) n c,.int .i64 i,.slice (some ⟨e0,gJ,none⟩) 1 ep] w fun x w2=>x=.returned (.slice (some ⟨b,off,none⟩) (n+1) c)/\w2=hf
 grow:∀ (b off n c i e0 gJ ep N G:Nat) (b9 b0:Value) (w u2 iN hf:World),i<n->n<=c->c<n+1->n+1<=G->n<=4611686018427387904->
  (Builtin.append_ #[T,I] T #[.slice (some ⟨b,off,none⟩) i c,.int .i64 ((n:Int)+1 - (i:Int))]).run P w=.ok (.slice (some ⟨N,0,none⟩) (n+1) G) u2->
  (Builtin.copy_ #[T,T] I #[.slice (some ⟨N,i*z,none⟩) (n+1 - i) (G - i),.slice (some ⟨e0,gJ,none⟩) 1 ep]).run P u2=.ok b9 iN->
  (Builtin.copy_ #[T,T] I #[.slice (some ⟨N,(i+1)*z,none⟩) (n - i) (G - (i+1)),.slice (some ⟨b,off+i*z,none⟩) (n - i) (c - i)]).run P iN.drew=.ok b0 hf->
  Calls P f #[.slice (some ⟨b,off,none⟩) n c,.int .i64 i,.slice (some ⟨e0,gJ,none⟩) 1 ep] w fun x w2=>x=.returned (.slice (some ⟨N,0,none⟩) (n+1) G)/\w2=hf
section
variable {P:Program} {G:Nat->U} {R:Nat->Prop} {B:Nat} {w:World} {h:aN} {μ:cH}
theorem GC (rel:b3 R B w h μ) {b sz o n:Nat} {cs:List U} {m:M} (ag:h.f b=.cells sz cs) (hm:μ b=some m) (eG:o+n<=sz) :
  ∃ vs:List Value,tp w R h μ ((cs.drop o).take n) vs/\(loadCells ⟨m.r,m.s+o,none⟩ n).run P w=.ok vs.toArray w:=by
 have eD:=rel.blk b m hm;rw[ag] at eD;obtain⟨dE,dX,arr,e,fV,ax,ci,lG,iV⟩:=eD;have bh:((cs.drop o).take n).length=n:=by rw[atN,auw]; omega
 obtain⟨vs,cC,ak⟩:=MZ (P:=P) (w:=w) (R:=R) (h:=h) (μ:=μ) (w2:=w) (xs:=(cs.drop o).take n) (blk:=m.r) (o:=m.s+o) (fun _=>rfl) (fun j c ai=>by
  have aK:j<n:=by have:=(atq.1 ai).1; omega
  rw[atP aK,at6] at ai;obtain⟨v,h1,ad,aj⟩:=iV (o+j) c ai;refine⟨v,?_,ad,aj⟩;simp only[World.cell?,ax,avk];rw[au4];exact h1)
 refine⟨vs,cC,?_⟩;have:=ak n (by omega) w (fun _=>rfl)
 rwa [atr (by rw[cC.1,bh]; exact att _)] at this
theorem EG (rel:b3 R B w h μ) {t u ty e z:Nat} (j9:P.underlying t=some (.slice e)) (aw:cv P e=some z) {b sz k:Nat} {cs:List U} {m:M} (ag:h.f b=.cells sz cs) (hm:μ b=some m) (hk:k<=sz)
  {dLen dc sLen sc cnt:Nat} {a:Addr} {xs:List U} {vs:List Value} (FG:Nat.min sLen dLen=cnt) (bn:xs.length=cnt*z) (aeK:(loadCells a (cnt*z)).run P w=.ok vs.toArray w)
  (cC:tp w R h μ xs vs) (dX:m.s+max sz (k+cnt*z)<=m.T) :
  ∃ w',(Builtin.copy_ #[t,u] ty #[.slice (some ⟨m.r,m.s+k,none⟩) dLen dc,.slice (some a) sLen sc]).run P w=.ok (goInt cnt) w' ∧
   dx w h μ w' (h.set b (.cells (max sz (k+cnt*z)) (bz cs k xs))) μ/\b3 R B w' (h.set b (.cells (max sz (k+cnt*z)) (bz cs k xs))) μ:=by
 obtain⟨w',h1,ad,aj⟩:=yT (P:=P) rel (cvs:=xs) (vs:=vs) (k:=k) ag hm hk cC.1 (by rw[bn]; exact dX) cC.2;rw[bn] at ad aj;refine⟨w',?_,ad,aj⟩;simp[Builtin.copy_,cu j9,Builtin.lenOf,Builtin.firstCells,fm aw,FG,aeK,h1]
theorem W8 {bW:World} {h1:aN} {g2:cH} (qj:b3 R B bW h1 g2) (ex:dx w h μ bW h1 g2) {b z n nc ns:Nat} {row:List U} {v:Value} (aD:h1.f=bL h.f b (.cells ns row)) (aC:h1.n=h.n) (sr:ns=nc*z) (aE:0<n) (m5:b<h.n)
  (aq:aO bW R h1 g2 (.au z b 0 n nc ns) v) :
  ∃ μ',dx w h μ bW ((h.set b .dead).push (.cells ns row)) μ'/\b3 R B bW ((h.set b .dead).push (.cells ns row)) μ'/\aO bW R ((h.set b .dead).push (.cells ns row)) μ' (.au z h.n 0 n nc ns) v:=by
 have fk:h1.f b=.cells ns row:=by rw[aD,jK]
 cases aq with
 | go _ _ _ _ _ _ _ _ _ _ ar=>
  exfalso;rcases ar with ar | ⟨gY,cs',ar,aK⟩
  ·rw[fk] at ar; cases ar
  ·rw[fk] at ar; cases ar; omega
 | hF=>omega
 | au _ _ _ _ _ _ cap' nK m jg hm ak ap de=>
  have p3:=qj.W7 (b:=b) (off:=0) (m:=m) (h':=(h.set b .dead).push (.cells ns row)) fk hm (auy _) (by
   rw[eb,dI,eL,aD,aC];funext x;simp only[bL,av1,auv];by_cases ad:x=h.n
   ·rw[if_pos ad,if_pos ad]
   ·rw[if_neg ad,if_neg ad];split<;>rfl) (by rw[ff,eL,aC])
  refine⟨_,ex.trans p3.1,p3.2,?_⟩;rw[aC];exact .au z h.n 0 n nc ns cap' row ⟨m.r,m.s+0,m.T⟩ (by rw[eb,eL,jK]) (by simp) ak ap (by
   rcases de with de | ⟨oE,kD,zM⟩
   ·omega
   ·exact .inr ⟨oE,kD,by simpa using zM⟩)
theorem OJ (w:World) :RowKit.Below w.heap.size w w.drew:=⟨rfl,rfl,rfl,att _,fun _ _=>rfl⟩
theorem agu {z i len:Nat} {cs vs:List U} (jn:vs.length=z) (av:i<len) (ak:len*z<=cs.length) :
  bz (bz cs ((i+1)*z) ((cs.drop (i*z)).take ((len - i)*z))) (i*z) vs=mo z cs vs i len:=by
 have h1:(i+1)*z=i*z+z:=by rw[aua]
 have ad:(i+1)*z<=len*z:=aty _ av;have aj:i*z+(len - i)*z=len*z:=by rw[<-auh]; congr 1; omega
 have aF:(len+1)*z=len*z+z:=by rw[aua]
 have zF:((cs.drop (i*z)).take ((len - i)*z)).length=(len - i)*z:=by rw[atN,auw]; omega
 have cz:(cs.take ((i+1)*z)).length=i*z+z:=by rw[atN]; omega
 unfold mo bz;rw[zF,jn];have aQ:(i+1)*z+(len - i)*z=(len+1)*z:=by omega
 rw[aQ,at1 (cs.take ((i+1)*z)),atS (by rw[cz]; omega),auO,show min (i*z) ((i+1)*z)=i*z by omega];rw[show i*z+z=(cs.take ((i+1)*z)).length by rw[cz],List.drop_left];simp only[at1]
theorem agr {z i len:Nat} {cs vs:List U} (jn:vs.length=z) (av:i<len) (ak:len*z=cs.length) :
  bz (bz (cs.take (i*z)) (i*z) vs) ((i+1)*z) ((cs.drop (i*z)).take ((len - i)*z))=mo z cs vs i len:=by
 have h1:(i+1)*z=i*z+z:=by rw[aua]
 have ad:(i+1)*z<=len*z:=aty _ av;have aj:i*z+(len - i)*z=len*z:=by rw[<-auh]; congr 1; omega
 have aF:(len+1)*z=len*z+z:=by rw[aua]
 have cz:(cs.take (i*z)).length=i*z:=by rw[atN]; omega
 have gw:bz (cs.take (i*z)) (i*z) vs=cs.take (i*z)++vs:=by
  unfold bz;rw[at9 (by rw[cz]; omega),atZ,atr (by rw[cz]; exact att _)]
 rw[gw];unfold mo bz;have aQ:(cs.take (i*z)++vs).take ((i+1)*z)=cs.take (i*z)++vs:=atr (by rw[atB,cz,jn]; omega);have bF:∀ k,(cs.take (i*z)++vs).drop ((i+1)*z+k)=[] :=fun k=>at9 (by rw[atB,cz,jn]; omega)
 have dz:cs.drop ((len+1)*z)=[] :=at9 (by omega);rw[aQ,bF,dz]
theorem ahF (a b z:Nat) :max a b*z=max (a*z) (b*z) :=by
 rcases Nat.le_total a b with h | h
 ·rw[avS h,avS (aty _ h)]
 ·rw[awz h,awz (aty _ h)]
theorem agm {T e z by_:Nat} (ci:io P T=some e) (aw:cv P e=some z) (dD:jc P e=some by_) (pX:0<z) (xE:0<by_) (hv:tf P e=some z)
  {b bv len cap:Nat} {cs vs:List U} (ag:h.f b=.cells (cap*z) cs) (dE:cs.length=cap*z) (iU:h.f bv=.cells z vs) (jn:vs.length=z) (lI:len<=cap) (df:(len+1)*by_<=ct) :
  rY P h T (.au z b 0 len cap (cap*z)) (.au z bv 0 1 1 z)=some (.au z b 0 (len+1) (max cap (len+1)) (max cap (len+1)*z),h.set b (.cells (max cap (len+1)*z) (mo z cs vs len len))) :=by
 have aF:(len+1)*z=len*z+z:=by rw[aua]
 have dO:len*z<=cap*z:=aty _ lI;have cC:mo z cs vs len len=cs.take (len*z)++vs++cs.drop ((len+1)*z) :=by simp[mo]
 have mm:(vs.drop 0).take (1*z)=vs:=by rw[auv,avQ,atr (by omega)]
 unfold rY;rw[ci];simp only[aw,dD,contents,iU,and_self,if_true,mm];unfold u9;rw[if_neg (by omega),if_neg (by rw[hv]; simp; omega)];simp only[ag,true_and,df,if_true];by_cases aD:len+1<=cap
 ·have T1:(len+1)*z<=cap*z:=aty _ aD;rw[if_pos aD,awz aD,cC];simp only[bz,auF,jn,<-aF]
 ·obtain rfl:len=cap:=by omega
  rw[if_neg aD,if_neg (by omega),avS (by omega),cC,at9 (by omega),atZ]
theorem UT {f T I e z by_:Nat} (L:Bd P f T I e z) (ci:io P T=some e) (aw:cv P e=some z) (dD:jc P e=some by_) (pX:0<z) (xE:0<by_) (hv:tf P e=some z)
  {b bv len cap i:Nat} {cs vs:List U} (ag:h.f b=.cells (cap*z) cs) (iU:h.f bv=.cells z vs) (bx:bv≠b) (av:i<=len) (lI:len<=cap) (df:(len+1)*by_<=ct) :
  rP P G f [.au z b 0 len cap (cap*z),.int .i64 i,.au z bv 0 1 1 z] h (.au z h.n 0 (len+1) (max cap (len+1)) (max cap (len+1)*z)) ((h.set b .dead).push (.cells (max cap (len+1)*z) (mo z cs vs i len))) :=by
 intro R B w μ ed rel E9 ak aq;obtain⟨og⟩:=ed
 match og,ak with
 | [v0,fx,dJ],_=>
 have iC:=aq 0 _ v0 rfl rfl;have mm:=aq 1 _ fx rfl rfl;have p7:=aq 2 _ dJ rfl rfl;have K6:=p7;cases mm;have oA:len<=4611686018427387904:=by
  have:=Nat.le_mul_of_pos_right (len+1) xE;unfold ct at df;omega
 have KA:Av P T:=⟨_,L.yR,fun k hk=>by cases hk⟩
 have jk:=ahF cap (len+1) z;have aF:(len+1)*z=len*z+z:=by rw[aua]
 have dO:len*z<=cap*z:=aty _ lI;cases p7 with
 | go _ _ _ _ _ _ _ _ _ _ ar=>
  exfalso;rcases ar with ar | ⟨gY,cs',ar,aK⟩
  ·rw[iU] at ar; cases ar
  ·rw[iU] at ar; cases ar; omega
 | au _ _ _ _ _ _ ep alW fS adL xX k3 CJ jM=>
 have Cm:=rel.blk bv fS xX;rw[iU] at Cm;obtain⟨jn,apr,OB,cR,aoU,CP,JR,Tx,apl⟩:=Cm;by_cases du:i=len
 ·subst du;have aeQ:∃ a cap',v0=.slice (some a) i cap'/\i<=cap'/\cs.length=cap*z/\b<h.n:=by
   cases iC with
   | go _ _ _ _ _ _ _ _ _ _ ar=>
    exfalso;rcases ar with ar | ⟨gY,cs',ar,aK⟩
    ·rw[ag] at ar; cases ar
    ·rw[ag] at ar; cases ar; omega
   | hF _ _ _ _ a nK m jg hm=>
    have eD:=rel.blk b m hm;rw[ag] at eD;exact⟨a,0,rfl,att _,eD.1,rel.r0 hm⟩
   | au _ _ _ _ _ _ cap' nK m jg hm ak ap de=>
    have eD:=rel.blk b m hm;rw[ag] at eD;exact⟨_,cap',rfl,by omega,eD.1,rel.r0 hm⟩
  obtain⟨a,cap',rfl,FX,dE,m5⟩:=aeQ;obtain⟨v,bW,g2,g7,pR,KU,uj⟩:=Im (P:=P) (ty:=T) (u:=T) rel KA (agm (P:=P) ci aw dD pX xE hv ag dE iU jn lI df) iC K6;refine (L.fin (some a) i cap' ep fS.r (fS.s+0) v w bW FX oA (fun h=>by cases h) g7).mono ?_;rintro x w2 ⟨rfl,rfl⟩;obtain⟨μ',h1,ad,aj⟩:=W8 (h:=h) KU pR (b:=b) (row:=mo z cs vs i i) (ns:=max cap (i+1)*z) (dI _ _ _) rfl rfl (by omega) m5 uj;exact⟨v,μ',rfl,h1,ad,aj⟩
 have Cy:i<len:=by omega
 have ao2:(i+1)*z=i*z+z:=by rw[aua]
 have ao4:(i+1)*z<=len*z:=aty _ Cy;have ao5:i*z+(len - i)*z=len*z:=by rw[<-auh]; congr 1; omega
 cases iC with
 | go _ _ _ _ _ _ _ _ _ _ ar=>
  exfalso;rcases ar with ar | ⟨gY,cs',ar,aK⟩
  ·rw[ag] at ar; cases ar
  ·rw[ag] at ar; cases ar; omega
 | hF=>omega
 | au _ _ _ _ _ _ cap' nK m jg hm apB ap de=>
 rw[ag] at jg; cases jg;have eD:=rel.blk b m hm;rw[ag] at eD;obtain⟨dE,apq,arr,nM,fV,ax,apb,lG,iV⟩:=eD;obtain⟨kD,zM⟩:cap<=cap'/\m.s+cap'*z<=m.T:=by
  rcases de with de | ⟨oE,kD,zM⟩
  ·omega
  ·exact⟨kD,by simpa using zM⟩
 have m5:=rel.r0 hm;have Kx:fS.r≠m.r:=fun ao=>bx (rel.inj bv b fS m (by rw[iU]; rfl) (by rw[ag]; rfl) xX hm ao)
 have mm:(vs.drop 0).take z=vs:=by rw[auv,atr (by omega)]
 have SH:((cs.drop (i*z)).take ((len - i)*z)).length=(len - i)*z:=by rw[atN,auw]; omega
 by_cases dX:len+1<=cap'
 ·have T1:(len+1)*z<=cap'*z:=aty _ dX;obtain⟨ER,uL⟩:=MG rel (w':=w.drew) (OJ w);obtain⟨ls,Gb,Ku⟩:=GC (P:=P) uL (o:=i*z) (n:=(len - i)*z) ag hm (by omega);obtain⟨iN,pN,BW,qj⟩:=EG (P:=P) (t:=T) (u:=T) (ty:=I) uL L.yR aw (k:=(i+1)*z) ag hm (by omega) (dLen:=len - i) (dc:=cap' - (i+1)) (sLen:=len+1 - i) (sc:=cap' - i) (cnt:=len - i)
   (by simp only[awA]; split<;>omega) SH Ku Gb (by omega)
  have q4:max (cap*z) ((i+1)*z+(len - i)*z)=max cap (len+1)*z:=by omega
  rw[q4] at BW qj;have fk:(h.set b (.cells (max cap (len+1)*z) (bz cs ((i+1)*z) ((cs.drop (i*z)).take ((len - i)*z))))).f b=.cells (max cap (len+1)*z) (bz cs ((i+1)*z) ((cs.drop (i*z)).take ((len - i)*z))) :=by rw[dI,jK]
  have adM:(h.set b (.cells (max cap (len+1)*z) (bz cs ((i+1)*z) ((cs.drop (i*z)).take ((len - i)*z))))).f bv=.cells z vs:=by rw[dI,cb _ _ _ _ bx]; exact iU
  obtain⟨GM,Gc,Kv⟩:=GC (P:=P) qj (o:=0) (n:=z) adM xX (by omega);rw[mm] at Gc;obtain⟨hf,pO,vw,s4⟩:=EG (P:=P) (t:=T) (u:=T) (ty:=I) qj L.yR aw (k:=i*z) fk hm (by omega) (dLen:=len+1 - i) (dc:=cap' - i) (sLen:=1) (sc:=ep) (cnt:=1)
   (by simp only[awA]; split<;>omega) (by omega) (by rw[avQ]; exact Kv) Gc (by omega)
  have ug:max (max cap (len+1)*z) (i*z+1*z)=max cap (len+1)*z:=by omega
  rw[ug,agu jn Cy (by omega)] at vw s4;have tW:w.frozen? ⟨fS.r,fS.s+0,none⟩=false:=by
   simp only[World.frozen?,CP];rcases Tx with aE | aE
   ·subst aE; simp
   ·simp; intro aj; omega
  have xN:w.frozen? ⟨fS.r,OB.size,none⟩=false:=by
   simp only[World.frozen?,CP];rcases Tx with aE | aE
   ·subst aE; simp
   ·simp; intro aj; omega
  refine (L.shift m.r m.s len cap' i fS.r (fS.s+0) ep _ _ w iN hf cR nM OB.size arr.size Cy dX oA Kx (by simp[World.shape?,CP]) (by simp[World.shape?,ax]) (by omega) tW xN pN pO).mono ?_;rintro x w2 ⟨rfl,rfl⟩;obtain⟨μ',h1,ad,aj⟩:=W8 (h:=h) s4 ((ER.trans BW).trans vw) (b:=b) (row:=mo z cs vs i len) (ns:=max cap (len+1)*z) (n:=len+1) (nc:=max cap (len+1)) (z:=z) (v:=.slice (some ⟨m.r,m.s+0,none⟩) (len+1) cap') (by
   rw[dI,dI];funext y;simp only[bL];split<;>rfl) rfl rfl (by omega) m5 (.au z b 0 (len+1) (max cap (len+1)) (max cap (len+1)*z) cap' _ m (by rw[dI,jK]) hm (by omega) (by omega) (.inr ⟨by omega,by omega,by simpa using zM⟩))
  exact⟨_,μ',rfl,h1,ad,aj⟩
 ·obtain rfl:cap=len:=by omega
  obtain rfl:cap'=cap:=by omega
  obtain⟨v1,zv,Ki,lc,jp⟩:=YE hv;have p4:v1.size=z:=by simp[cv,Ki] at aw; exact aw
  have lF:v1.bytes=by_:=by simp[jc,Ki] at dD; exact dD
  have dj:contents h z (.au z b 0 i cap' (cap'*z))=some ((cs.drop 0).take (i*z),i) :=by simp[contents,ag]
  obtain⟨di,_,fu,hV,x0⟩:=vq (P:=P) rel dj (aO.au z b 0 i cap' (cap'*z) cap' cs m ag hm (by omega) (by omega) (.inr ⟨by omega,att _,by simpa using zM⟩));have CI:=x0 i (att _) w.drew (fun _=>rfl);rw[atr (by rw[hV.1,di]; exact att _)] at CI;rw[auv] at hV di;have Ux:(cap'+1)*v1.bytes<=ct:=by rw[lF]; exact df
  have kE:i+(cap'+1 - i)=cap'+1:=by omega
  have apg:(cap'+1 - i)*v1.bytes<=(cap'+1)*v1.bytes:=aty _ (by omega);have pK:=Lib.run_append_grow_zeros w T I T e v1 zv .i64 .i64 L.yR L.alK Ki lc (some ⟨m.r,m.s+0,none⟩) i cap' fu (by rw[p4]; exact CI) (cap'+1 - i) (by omega) (by omega) (by omega) (by omega) (by unfold ct at Ux; omega)
   (by rw[kE]; have:=growslice_fits (old:=cap') (need:=cap'+1) (by omega) Ux; omega)
  rw[kE] at pK;obtain⟨rR,SI⟩:∃ rR,rR=grownCap w (cap'+1) cap' e:=⟨_,rfl⟩
  have SJ:cap'+1<=rR:=by rw[SI]; exact grownCap_ge w _ _ _
  rw[<-SI] at pK;obtain⟨ROW,Fp⟩:∃ ROW:Array Value,ROW=fu.toArray++Builtin.zeroCells zv.cells (cap'+1 - i)++Builtin.zeroCells zv.cells (rR - (cap'+1)) :=⟨_,rfl⟩
  rw[<-Fp] at pK;have ao9:(cap'+1)*z<=ROW.size:=by
   have aQ:i*z+(cap'+1 - i)*z=(cap'+1)*z:=by rw[<-auh]; congr 1
   rw[Fp];simp only[awf,awg,Builtin.zeroCells];simp[jp,hV.1];omega
  have cz:(cs.take (i*z)).length=i*z:=by rw[atN]; omega
  obtain⟨ER,uL⟩:=rel.push (w':=w.drew.alloc (.cells ROW e)) (cs.take (i*z)) ROW e rfl rfl rfl rfl (by omega) (fun j c ai=>by
   obtain⟨v,aL,aT,a8⟩:=hV.2 j c ai;refine⟨v,?_,aT,a8⟩;have aK:j<fu.length:=(atq.1 aL).1;rw[Fp,avH,aut (by simpa using aK)];simpa using aL)
  rw[cz] at ER uL;have FE:b≠h.n:=by omega
  have apj:=rel.r0 xX;have Te:bv≠h.n:=by omega
  have oQ:(bL μ h.n (some ⟨w.heap.size,0,ROW.size⟩)) h.n=some ⟨w.heap.size,0,ROW.size⟩:=jK _ _ _;have aeW:(bL μ h.n (some ⟨w.heap.size,0,ROW.size⟩)) bv=some fS:=by rw[cb _ _ _ _ Te]; exact xX
  have aeR:(bL μ h.n (some ⟨w.heap.size,0,ROW.size⟩)) b=some m:=by rw[cb _ _ _ _ FE]; exact hm
  have adz:(h.push (.cells (i*z) (cs.take (i*z)))).f h.n=.cells (i*z) (cs.take (i*z)) :=by rw[eb,jK]
  have adB:(h.push (.cells (i*z) (cs.take (i*z)))).f bv=.cells z vs:=by rw[eb,cb _ _ _ _ Te]; exact iU
  obtain⟨GM,Gb,Ku⟩:=GC (P:=P) uL (o:=0) (n:=z) adB aeW (by omega);rw[mm] at Gb;obtain⟨iN,pN,BW,qj⟩:=EG (P:=P) (t:=T) (u:=T) (ty:=I) uL L.yR aw (k:=i*z) adz oQ (att _) (dLen:=cap'+1 - i) (dc:=rR - i) (sLen:=1) (sc:=ep) (cnt:=1)
   (by simp only[awA]; split<;>omega) (by omega) (by rw[avQ]; exact Ku) Gb (by simp only; omega)
  have q4:max (i*z) (i*z+1*z)=(i+1)*z:=by omega
  rw[q4] at BW qj;obtain⟨abF,W2⟩:=MG qj (w':=iN.drew) (OJ iN);have adA:((h.push (.cells (i*z) (cs.take (i*z)))).set h.n (.cells ((i+1)*z) (bz (cs.take (i*z)) (i*z) vs))).f h.n=.cells ((i+1)*z) (bz (cs.take (i*z)) (i*z) vs) :=by rw[dI,jK]
  have Tb:((h.push (.cells (i*z) (cs.take (i*z)))).set h.n (.cells ((i+1)*z) (bz (cs.take (i*z)) (i*z) vs))).f b=.cells (cap'*z) cs:=by rw[dI,cb _ _ _ _ FE,eb,cb _ _ _ _ FE]; exact ag
  obtain⟨ls,Gc,Kv⟩:=GC (P:=P) W2 (o:=i*z) (n:=(cap' - i)*z) Tb aeR (by omega);obtain⟨hf,pO,vw,s4⟩:=EG (P:=P) (t:=T) (u:=T) (ty:=I) W2 L.yR aw (k:=(i+1)*z) adA oQ (att _) (dLen:=cap' - i) (dc:=rR - (i+1)) (sLen:=cap' - i) (sc:=cap' - i) (cnt:=cap' - i)
   (by simp only[awA]; split<;>omega) SH Kv Gc (by simp only; omega)
  have ug:max ((i+1)*z) ((i+1)*z+(cap' - i)*z)=(cap'+1)*z:=by omega
  rw[ug,agr jn Cy (by omega)] at vw s4;simp only[auF] at pN pO;have ae2:max cap' (cap'+1)=cap'+1:=by omega
  rw[ae2];refine (L.grow m.r (m.s+0) cap' cap' i fS.r (fS.s+0) ep w.heap.size rR _ _ w _ iN hf Cy (att _) (by omega) SJ oA ?_ pN pO).mono ?_
  ·have:(cap' : Int)+1 - (i:Int)=((cap'+1 - i:Nat) :Int) :=by omega
   rw[this];exact pK
  rintro x w2 ⟨rfl,rfl⟩;have hk:=s4.kill (b:=b) (sz:=cap'*z) (cs:=cs) (h':=(h.set b .dead).push (.cells ((cap'+1)*z) (mo z cs vs i cap'))) (by rw[dI,cb _ _ _ _ FE]; exact Tb) (by rw[eL,eL,ff]; omega) (by
   rw[eb,dI,eL,dI,dI,eb];funext y;simp only[bL];by_cases h1:y=h.n
   ·rw[if_pos h1,if_neg (by omega),if_pos h1]
   ·rw[if_neg h1];split
    ·rfl
    ·simp[h1]) (by rw[ff,eL,eL,eL,ff])
  refine⟨_,_,rfl,(((ER.trans BW).trans abF).trans vw).trans hk.1,hk.2,?_⟩;have:=aO.au (w:=w2) (R:=R) (h:=(h.set b .dead).push (.cells ((cap'+1)*z) (mo z cs vs i cap'))) (μ:=bL μ h.n (some ⟨w.heap.size,0,ROW.size⟩)) z h.n 0 (cap'+1) (cap'+1) ((cap'+1)*z) rR (mo z cs vs i cap') ⟨w.heap.size,0,ROW.size⟩ (by rw[eb,eL,jK]) (by simp) (att _) (by omega) (.inr ⟨by omega,SJ,by
   simp only;have aQ:i*z+(cap'+1 - i)*z=(cap'+1)*z:=by rw[<-auh]; congr 1
   have bF:(cap'+1)*z+(rR - (cap'+1))*z=rR*z:=by rw[<-auh]; congr 1; omega
   rw[Fp];simp only[awf,awg,Builtin.zeroCells];simp[jp,hV.1];omega⟩)
  simpa using this
theorem US {f T I e z by_:Nat} (L:Bd P f T I e z) (ci:io P T=some e) (aw:cv P e=some z) (dD:jc P e=some by_) (pX:0<z) (xE:0<by_) (hv:tf P e=some z)
  {bv:Nat} {vs:List U} (iU:h.f bv=.cells z vs) (df:by_<=ct) :
  rP P G f [.a1,.int .i64 0,.au z bv 0 1 1 z] h (.au z h.n 0 1 1 z) (h.push (.cells z vs)) :=by
 intro R B w μ ed rel E9 ak aq;obtain⟨og⟩:=ed
 match og,ak with
 | [v0,fx,dJ],_=>
 have iC:=aq 0 _ v0 rfl rfl;have mm:=aq 1 _ fx rfl rfl;have p7:=aq 2 _ dJ rfl rfl;have K6:=p7;cases mm;have afO:=iC;cases iC;have KA:Av P T:=⟨_,L.yR,fun k hk=>by cases hk⟩
 cases p7 with
 | go _ _ _ _ _ _ _ _ _ _ ar=>
  exfalso;rcases ar with ar | ⟨gY,cs',ar,aK⟩
  ·rw[iU] at ar; cases ar
  ·rw[iU] at ar; cases ar; omega
 | au _ _ _ _ _ _ ep alW fS adL xX k3 CJ jM=>
 have Cm:=rel.blk bv fS xX;rw[iU] at Cm;obtain⟨jn,_⟩:=Cm;have aB:rY P h T .a1 (.au z bv 0 1 1 z)=some (.au z h.n 0 1 1 z,h.push (.cells z vs)) :=by
  have mm:(vs.drop 0).take (1*z)=vs:=by rw[auv,avQ,atr (by omega)]
  unfold rY;rw[ci];simp only[aw,dD,contents,iU,and_self,if_true,mm];unfold u9;rw[if_neg (by omega),if_neg (by rw[hv]; simp; omega)];simp only[avQ,df,if_true]
 obtain⟨v,bW,g2,g7,pR,KU,uj⟩:=Im (P:=P) (ty:=T) (u:=T) rel KA aB afO K6;refine (L.fin none 0 0 ep fS.r (fS.s+0) v w bW (att _) (by omega) (fun _=>⟨rfl,rfl⟩) g7).mono ?_;rintro x w2 ⟨rfl,rfl⟩;exact⟨v,g2,rfl,pR,KU,uj⟩
theorem UR {f T I e z by_:Nat} (L:Bd P f T I e z) (ci:io P T=some e) (aw:cv P e=some z) (dD:jc P e=some by_) (pX:0<z) (xE:0<by_) (hv:tf P e=some z)
  (args:List U) (h:aN) (r:U) (h' : aN) (af:sG z by_ args h=some (r,h')) :rP P G f args h r h':=by
 unfold sG at af;split at af
 ·rename_i s x y;split at af
  ·rename_i i fO bv n3 b5 cy hE uk;have afW:x=.int .i64 i:=by
    unfold OC at uk;split at uk
    ·split at uk
     ·cases uk; rfl
     ·cases uk
    ·cases uk
   subst afW;split at af
   ·rename_i hr vs iU;split at af
    ·rename_i ah;obtain⟨rfl,rfl,rfl,rfl,rfl,rfl,aE⟩:=ah;obtain⟨k,rfl⟩:=auY aE;rw[auq] at af;unfold C3 at af;cases s<;>simp only at af<;>try (cases af; done)
     case a1=>
      split at af
      ·rename_i ah;obtain⟨rfl,ax⟩:=ah;cases af;exact US L ci aw dD pX xE hv iU ax
      ·cases af
     case au hI b off len cap sz=>
      cases ag:h.f b<;>rw[ag] at af<;>(try simp only at af)<;>try (cases af; done)
      split at af
      ·rename_i ah;obtain⟨rfl,rfl,rfl,rfl,bx,av,lI,ax⟩:=ah;cases af;exact UT L ci aw dD pX xE hv ag iU bx av lI ax
      ·cases af
    ·cases af
   ·cases af
  ·cases af
 ·cases af
end

end Go.b2

namespace Go.b2
open Go
section
variable (P:Program)
abbrev po:=List (List Nat)
def XG (ops:Array Oper) (o:Oper) (i:Nat) (hh:List Nat) (cq:Bool) :eg:=
 let g:=match o.guard with | none=>none | some kj=>some (match ops[kj.1]? with | some cJ=>cJ.dst | none=>none,kj.2)
 match mV P o.op with
 | some m=>⟨i,o.dst,g,.gE m,hh,cq⟩
 | none=>match o.op with
  | .call c=>match c.callee with
   | .value (.func f)=>⟨i,o.dst,g,.l5 f c.args.toList,hh,cq⟩
   | .value x=>⟨i,o.dst,g,.mQ x c.args.toList,hh,cq⟩
   | .invoke x name=>⟨i,o.dst,g,.nH x name c.args.toList,hh,cq⟩
   | _=>⟨i,none,none,.gE .stop,[],false⟩
  | _=>⟨i,none,none,.gE .stop,[],false⟩
def XJ (ops:Array Oper) :List Oper->Nat->List eg
 | [],_=>[]
 | o::r,i=>XG P ops o i [] false::XJ ops r (i+1)
def UP (i:Nat) :List Nat->Bool
 | []=>false
 | x::r=>match Nat.beq i x with | true=>true | false=>UP i r
def Vh (i:Nat) :po->Bool
 | []=>false
 | p::r=>match UP i p.tail with | true=>true | false=>Vh i r
def Om:po->Bool
 | []=>false
 | p::r=>match p.tail with | []=>Om r | _=>true
def Nh (ops:Array Oper) (q:po) (n:Nat) :po->List eg
 | []=>XJ P ops (ops.toList.drop n) n
 | p::r=>(match p with
  | []=>⟨0,none,none,.gE .stop,[],false⟩
  | i::c=>match ops[i]? with | some o=>XG P ops o i c (Vh i q) | none=>⟨0,none,none,.gE .stop,[],false⟩) ::Nh ops q n r
def MF (ops:Array Oper) (p:po) :fF:=match Om p with
 | true=>.xg (Nh P ops p p.length p)
 | false=>.wA (Nh P ops p p.length p)
def akI (a b:fF) :fF:=match a with
 | .skip=>b
 | a=>match b with
  | .skip=>a
  | b=>.seq a b
def wg:Code->List po->fF × List po
 | .skip,p=>(.skip,p)
 | .label _,p=>(.skip,p)
 | .ret,p=>(.ret,p)
 | .exit id,p=>(.exit id,p)
 | .region _ ops true,p=>match p with
  | []=>(MF P ops [],[])
  | x::p=>(MF P ops x,p)
 | .region _ ops false,p=>(MF P ops [],p)
 | .seq a b,p=>match wg a p with | (a,p)=>match wg b p with | (b,p)=>(akI a b,p)
 | .cond c a b,p=>match wg a p with | (a,p)=>match wg b p with | (b,p)=>(.cond c a b,p)
 | .block id c,p=>match wg c p with | (c,p)=>(.block id c,p)
 | .loop c,p=>match wg c p with | (c,p)=>(.loop c,p)
 | .scope c,p=>wg c p
 | _,p=>(.skip,p)
def wh (fn:Func) (p:List po) :fF:=match fn.body with
 | some c=>(wg P c p).1
 | none=>.skip
def ux:List ResultVar->List da
 | []=>[]
 | x::r=>(match IW P x with | some m=>m | none=>.stop) ::ux r
end
theorem Hp (x:U) (t:List U) :x::x::x::x::x::x::x::x::x::x::x::x::x::x::x::x::x::x::x::x::x::x::x::x::x::x::x::x::x::x::x::x::t=rep 32 x++t:=rfl
theorem Hq (x:U) (t:List U) :rep 32 x++(rep 32 x++t)=rep 64 x++t:=rfl
theorem acp {P:Program} {f:FuncId} {fn:Func} (aD:P.funcs[f]? = some fn) (p:List po) {c:fF} {ms:List da}
  (ah:wh P fn p=c:=by conv=>lhs; (cbv; try simp only[Hp,Hq,atZ]))
  (ax:ux P fn.results.toList=ms:=by conv=>lhs; cbv)
  (hk:(vn P f,vo P f)=(some (wh P fn p),some (ux P fn.results.toList)) :=by kernel_rfl)
  {G:Nat->U} {args:List U} {l:am} {K:tj} (h:run P G c (y8 args) l (Dd P G ms K.k)) :c7 P G f args l (c:=K) :=by
 rw[ah,ax] at hk;exact Ey (Prod.mk.inj hk).1 (Prod.mk.inj hk).2 h
theorem bj {P:Program} {f:FuncId} {fn:Func} (aD:P.funcs[f]? = some fn) (p:List po) {T:Tables} {F:Array Func} {c:fF} {ms:List da} (ci:P=⟨T,F⟩:=by rfl)
  (ah:wh ⟨T,#[]⟩ fn p=c:=by conv=>lhs; (cbv; try simp only[Hp,Hq,atZ]))
  (ax:ux ⟨T,#[]⟩ fn.results.toList=ms:=by conv=>lhs; cbv)
  (hk:(vn P f,vo P f)=(some (wh ⟨T,#[]⟩ fn p),some (ux ⟨T,#[]⟩ fn.results.toList)) :=by kernel_rfl)
  {G:Nat->U} {args:List U} {l:am} {K:tj} (h:run P G c (y8 args) l (Dd P G ms K.k)) :c7 P G f args l (c:=K) :=by
 rw[ah,ax] at hk;exact Ey (Prod.mk.inj hk).1 (Prod.mk.inj hk).2 h
def aco {P:Program} {f:FuncId} {fn:Func} (aD:P.funcs[f]? = some fn) (p:List po) {c:fF} {ms:List da}
  (ah:wh P fn p=c:=by conv=>lhs; (cbv; try simp only[Hp,Hq,atZ]))
  (ax:ux P fn.results.toList=ms:=by conv=>lhs; cbv)
  (hk:(vn P f,vo P f)=(some (wh P fn p),some (ux P fn.results.toList)) :=by kernel_rfl) :{x:fF × List da // Ef P f x}:=
 ⟨(c,ms),by rw[ah,ax] at hk; exact⟨(Prod.mk.inj hk).1,(Prod.mk.inj hk).2⟩⟩
def bT {P:Program} {f:FuncId} {fn:Func} (aD:P.funcs[f]? = some fn) (p:List po) {T:Tables} {F:Array Func} {c:fF} {ms:List da} (ci:P=⟨T,F⟩:=by rfl)
  (ah:wh ⟨T,#[]⟩ fn p=c:=by conv=>lhs; (cbv; try simp only[Hp,Hq,atZ]))
  (ax:ux ⟨T,#[]⟩ fn.results.toList=ms:=by conv=>lhs; cbv)
  (hk:(vn P f,vo P f)=(some (wh ⟨T,#[]⟩ fn p),some (ux ⟨T,#[]⟩ fn.results.toList)) :=by kernel_rfl) :{x:fF × List da // Ef P f x}:=
 ⟨(c,ms),by rw[ah,ax] at hk; exact⟨(Prod.mk.inj hk).1,(Prod.mk.inj hk).2⟩⟩
end Go.b2

namespace Go.b2
open Go Go.Proofs
set_option maxRecDepth 100000
set_option maxHeartbeats 8000000
noncomputable def Ex:=bT Tryz.func9 [[[0],[1],[2],[3],[4],[5],[6],[7],[8],[9],[10],[11],[12],[13],[14],[15],[16],[17],[18],[19],[20],[21],[22],[23],[24],[25],[26],[27],[28],[29],[30],[31],[32],[33],[34],[35],[36],[37],[38,37],[39],[40],[41],[42],[43],[44],[45],[46],[47],[48],[49],[50],[51],[52,48],[53],[54],[55],[56],[57],[58],[59],[60],[61],[62,61]]]
noncomputable def Pc:=bT Tryz.func12 []
noncomputable def Pk:=bT Tryz.func13 []
noncomputable def PU:=bT Tryz.func19 [[[0],[1],[2],[3],[4],[5],[6],[7,1]]]
noncomputable def Qj:=bT Tryz.func25 []
noncomputable def Qm:=bT Tryz.func31 [[[0],[2],[6],[12],[1,12,2],[3,12],[4],[5,12],[7],[8,12],[9],[10],[11]]]
noncomputable def Qn:=bT Tryz.func32 []
noncomputable def Qo:=bT Tryz.func33 []
noncomputable def Qp:=bT Tryz.func36 []
noncomputable def Qq:=bT Tryz.func37 []
noncomputable def Qr:=bT Tryz.func39 []
noncomputable def Qs:=bT Tryz.func40 [[],[[0],[3],[4],[5],[1,4],[2]]]
noncomputable def Qt:=bT Tryz.func41 []
noncomputable def Qu:=bT Tryz.func42 []
noncomputable def Qv:=bT Tryz.func43 []
noncomputable def Qw:=bT Tryz.func44 []
noncomputable def Qx:=bT Tryz.func45 []
noncomputable def Qy:=bT Tryz.func51 []
noncomputable def Qz:=bT Tryz.func52 []
noncomputable def QA:=bT Tryz.func58 []
noncomputable def QB:=bT Tryz.func59 []
noncomputable def QC:=bT Tryz.func60 []
noncomputable def QD:=bT Tryz.func61 []
noncomputable def QE:=bT Tryz.func71 []
noncomputable def QF:=bT Tryz.func73 []
noncomputable def QG:=bT Tryz.func74 []
noncomputable def QH:=bT Tryz.func75 []
noncomputable def QI:=bT Tryz.func76 [[],[[0],[1],[2],[3],[4],[6],[7],[9],[10],[11],[12],[5,10,7,6],[8,10]],[[0],[1],[2],[3],[4],[6],[7],[9],[10],[11],[12],[5,10,7,6],[8,10]]]
noncomputable def QJ:=bT Tryz.func78 [[[0],[2],[3],[4],[5],[8],[9],[10],[11],[1,11,10,5,4],[6,11,10],[7,11,10]]]
noncomputable def QK:=bT Tryz.func80 []
noncomputable def QL:=bT Tryz.func81 []
noncomputable def QM:=bT Tryz.func82 [[[0],[1],[2],[4],[5],[3,5,1]]]
noncomputable def QN:=bT Tryz.func83 [[[0],[1],[2],[3],[4],[6],[7],[8],[9],[10],[11],[12],[5,12,11,8]]]
noncomputable def QO:=bT Tryz.func84 [[[0],[1],[2],[3],[4],[5],[6],[7],[8,0]]]
noncomputable def QP:=bT Tryz.func85 []
noncomputable def QQ:=bT Tryz.func87 []
noncomputable def QR:=bT Tryz.func88 []
noncomputable def QS:=bT Tryz.func89 []
noncomputable def QT:=bT Tryz.func90 []
noncomputable def QU:=bT Tryz.func91 []
noncomputable def QV:=bT Tryz.func92 []
noncomputable def QW:=bT Tryz.func93 []
noncomputable def QX:=bT Tryz.func94 []
noncomputable def QY:=bT Tryz.func95 []
noncomputable def QZ:=bT Tryz.func96 []
noncomputable def O1:=bT Tryz.func104 []
noncomputable def O2:=bT Tryz.func105 []
noncomputable def O3:=aco Tryz.func106 []
noncomputable def O4:=bT Tryz.func107 []
noncomputable def O5:=bT Tryz.func108 []
noncomputable def O6:=bT Tryz.func110 [[[0],[1],[2],[3],[4],[5],[6],[7],[8],[9],[10],[12],[13],[11,13]]]
noncomputable def O7:=bT Tryz.func114 []
noncomputable def O8:=bT Tryz.func117 []
noncomputable def O9:=bT Tryz.func118 []
noncomputable def Pb:=bT Tryz.func119 []
noncomputable def Pd:=bT Tryz.func120 []
noncomputable def Pe:=bT Tryz.func121 []
noncomputable def Pf:=bT Tryz.func122 [[[0],[1],[2],[5],[6],[3,6],[4,6]]]
noncomputable def Pg:=bT Tryz.func127 []
noncomputable def Ph:=bT Tryz.func128 []
noncomputable def Pj:=bT Tryz.func129 []
noncomputable def Pl:=bT Tryz.func130 []
noncomputable def Pm:=bT Tryz.func131 [[[0],[1],[3],[5],[6],[8],[9],[2,9],[4,9],[7,9]]]
noncomputable def Pn:=bT Tryz.func132 []
noncomputable def Po:=bT Tryz.func133 []
noncomputable def Pp:=bT Tryz.func134 []
noncomputable def Pq:=bT Tryz.func135 []
noncomputable def Pr:=bT Tryz.func137 []
noncomputable def Ps:=bT Tryz.func140 []
noncomputable def Pt:=bT Tryz.func141 []
noncomputable def Pu:=bT Tryz.func142 []
noncomputable def Pv:=bT Tryz.func143 []
noncomputable def Pw:=bT Tryz.func144 [[[0],[1],[2],[3],[4],[6],[7],[8],[9],[5,9,8]]]
noncomputable def Px:=bT Tryz.func146 [[[0],[1],[2],[3],[4],[5],[6],[10],[11],[12],[7,11],[8,11],[9]]]
noncomputable def Py:=bT Tryz.func147 [[[0],[1],[2],[3],[5],[6],[7],[9],[10],[11],[12],[4,12,11,7,0],[8,12,11,0]]]
noncomputable def Pz:=bT Tryz.func148 []
noncomputable def PA:=bT Tryz.func149 []
noncomputable def PB:=bT Tryz.func157 []
noncomputable def PC:=bT Tryz.func158 []
noncomputable def PD:=bT Tryz.func164 []
noncomputable def PE:=bT Tryz.func165 []
noncomputable def PF:=bT Tryz.func166 []
noncomputable def PG:=bT Tryz.func167 []
noncomputable def PH:=bT Tryz.func168 []
noncomputable def PI:=bT Tryz.func169 []
noncomputable def PJ:=bT Tryz.func170 []
noncomputable def PK:=bT Tryz.func171 []
noncomputable def PL:=bT Tryz.func172 []
noncomputable def PM:=bT Tryz.func173 []
noncomputable def PN:=bT Tryz.func175 []
noncomputable def PO:=bT Tryz.func176 []
noncomputable def PP:=bT Tryz.func177 []
noncomputable def PQ:=bT Tryz.func178 []
noncomputable def PR:=bT Tryz.func179 []
noncomputable def PS:=bT Tryz.func180 []
noncomputable def PT:=bT Tryz.func189 []
noncomputable def PV:=bT Tryz.func190 []
noncomputable def PW:=bT Tryz.func194 []
noncomputable def PX:=bT Tryz.func195 []
noncomputable def PY:=bT Tryz.func197 []
noncomputable def PZ:=bT Tryz.func198 []
noncomputable def P0:=bT Tryz.func199 []
noncomputable def P1:=bT Tryz.func200 []
noncomputable def P2:=bT Tryz.func201 []
noncomputable def P3:=bT Tryz.func202 []
noncomputable def P4:=bT Tryz.func203 []
noncomputable def P5:=bT Tryz.func204 []
noncomputable def P6:=bT Tryz.func205 []
noncomputable def P7:=bT Tryz.func206 []
noncomputable def P8:=bT Tryz.func218 []
noncomputable def P9:=bT Tryz.func219 []
noncomputable def Qa:=bT Tryz.func223 []
noncomputable def Qb:=bT Tryz.func224 []
noncomputable def Qc:=bT Tryz.func225 []
noncomputable def Qd:=bT Tryz.func235 []
noncomputable def Qe:=bT Tryz.func242 []
noncomputable def Qf:=bT Tryz.func243 []
noncomputable def Qg:=bT Tryz.func244 []
noncomputable def Qh:=bT Tryz.func245 []
noncomputable def Qi:=bT Tryz.func246 []
noncomputable def Qk:=bT Tryz.func251 []
noncomputable def Ql:=bT Tryz.func261 []
noncomputable def XW:cA (fF × List da) :=(.node (.node (.node (.node (.node (.node (.node (.node .nil (some Pg.1) .nil) none .nil) (some Qm.1) (.node .nil (some QY.1) (.node .nil (some Qa.1) .nil))) none (.node (.node (.node .nil (some Pv.1) .nil) none .nil) none (.node (.node .nil (some PN.1) .nil) none .nil))) none (.node (.node (.node (.node .nil (some Pq.1) .nil) (some QE.1) (.node .nil (some P0.1) .nil)) (some Qr.1) (.node (.node .nil (some PG.1) .nil) none .nil)) none (.node (.node .nil (some QQ.1) .nil) none (.node .nil (some Pb.1) .nil)))) none (.node (.node (.node (.node (.node .nil (some Pm.1) .nil) none (.node .nil (some PX.1) .nil)) none .nil) (some PU.1) (.node (.node (.node .nil (some Py.1) .nil) (some QN.1) .nil) (some Qy.1) (.node (.node .nil (some PR.1) .nil) none (.node .nil (some Qf.1) .nil)))) none (.node (.node (.node .nil (some QH.1) (.node .nil (some P4.1) .nil)) (some Qv.1) (.node (.node .nil (some PK.1) .nil) (some O4.1) (.node .nil (some Qd.1) .nil))) none (.node (.node .nil (some QU.1) (.node .nil (some P9.1) .nil)) (some QB.1) (.node .nil none (.node .nil (some Qk.1) .nil)))))) none (.node (.node (.node (.node (.node (.node .nil (some Pj.1) .nil) none .nil) (some Qo.1) (.node .nil none (.node .nil (some Qc.1) .nil))) none (.node (.node .nil (some QL.1) .nil) none (.node (.node .nil (some PP.1) .nil) none .nil))) (some Ex.1) (.node (.node (.node (.node .nil (some Pr.1) .nil) (some QF.1) (.node .nil (some P2.1) .nil)) (some Qt.1) (.node (.node .nil (some PI.1) .nil) (some O2.1) .nil)) (some Qj.1) (.node (.node .nil (some QS.1) .nil) none (.node .nil (some Pe.1) .nil)))) none (.node (.node (.node (.node (.node (.node .nil (some Ql.1) .nil) (some Po.1) .nil) none (.node .nil (some PY.1) .nil)) (some Qq.1) (.node (.node .nil (some PE.1) .nil) none .nil)) none (.node (.node (.node .nil (some PA.1) .nil) (some QP.1) .nil) none (.node .nil (some O8.1) (.node .nil (some Qh.1) .nil)))) (some Pk.1) (.node (.node (.node (.node .nil (some Pt.1) .nil) none (.node .nil (some P6.1) .nil)) (some Qx.1) (.node (.node .nil (some PM.1) .nil) none .nil)) none (.node (.node (.node .nil (some PB.1) .nil) (some QW.1) .nil) (some QD.1) (.node (.node .nil (some PT.1) .nil) none .nil)))))) none (.node (.node (.node (.node (.node (.node (.node .nil (some Ph.1) .nil) none .nil) (some Qn.1) (.node .nil (some QZ.1) (.node .nil (some Qb.1) .nil))) none (.node (.node (.node .nil (some Pw.1) .nil) (some QK.1) .nil) none (.node (.node .nil (some PO.1) .nil) none .nil))) none (.node (.node (.node .nil none (.node .nil (some P1.1) .nil)) (some Qs.1) (.node (.node .nil (some PH.1) .nil) (some O1.1) .nil)) none (.node (.node .nil (some QR.1) .nil) none (.node .nil (some Pd.1) .nil)))) none (.node (.node (.node (.node (.node .nil (some Pn.1) .nil) none .nil) (some Qp.1) (.node (.node .nil (some PD.1) .nil) none .nil)) none (.node (.node (.node .nil (some Pz.1) .nil) (some QO.1) .nil) (some Qz.1) (.node (.node .nil (some PS.1) .nil) none (.node .nil (some Qg.1) .nil)))) (some Pc.1) (.node (.node (.node (.node .nil (some Ps.1) .nil) (some QI.1) (.node .nil (some P5.1) .nil)) (some Qw.1) (.node (.node .nil (some PL.1) .nil) (some O5.1) .nil)) none (.node (.node .nil (some QV.1) .nil) (some QC.1) .nil)))) none (.node (.node (.node (.node (.node (.node .nil (some Pl.1) .nil) none (.node .nil (some PW.1) .nil)) none .nil) none (.node (.node (.node .nil (some Px.1) .nil) (some QM.1) .nil) none (.node (.node .nil (some PQ.1) .nil) (some O7.1) (.node .nil (some Qe.1) .nil)))) none (.node (.node (.node .nil (some QG.1) (.node .nil (some P3.1) .nil)) (some Qu.1) (.node (.node .nil (some PJ.1) .nil) (some O3.1) .nil)) none (.node (.node .nil (some QT.1) (.node .nil (some P8.1) .nil)) (some QA.1) (.node .nil (some Pf.1) .nil)))) none (.node (.node (.node (.node (.node .nil (some Pp.1) .nil) none (.node .nil (some PZ.1) .nil)) none (.node (.node .nil (some PF.1) .nil) none .nil)) none (.node .nil none (.node .nil (some O9.1) (.node .nil (some Qi.1) .nil)))) none (.node (.node (.node (.node .nil (some Pu.1) .nil) (some QJ.1) (.node .nil (some P7.1) .nil)) none (.node .nil (some O6.1) .nil)) none (.node (.node (.node .nil (some PC.1) .nil) (some QX.1) .nil) none (.node (.node .nil (some PV.1) .nil) none .nil)))))))
theorem ak9:pl (Ef Tryz.prog) XW:=(dh (dh (dh (dh (dh (bS Qm.2 (dh (bS Pg.2 bb bb) bb) (bS QY.2 bb (bS Qa.2 bb bb))) (dh (dh (bS Pv.2 bb bb) bb) (dh (bS PN.2 bb bb) bb))) (dh (bS Qr.2 (bS QE.2 (bS Pq.2 bb bb) (bS P0.2 bb bb)) (dh (bS PG.2 bb bb) bb)) (dh (bS QQ.2 bb bb) (bS Pb.2 bb bb)))) (dh (bS PU.2 (dh (dh (bS Pm.2 bb bb) (bS PX.2 bb bb)) bb) (bS Qy.2 (bS QN.2 (bS Py.2 bb bb) bb) (dh (bS PR.2 bb bb) (bS Qf.2 bb bb)))) (dh (bS Qv.2 (bS QH.2 bb (bS P4.2 bb bb)) (bS O4.2 (bS PK.2 bb bb) (bS Qd.2 bb bb))) (bS QB.2 (bS QU.2 bb (bS P9.2 bb bb)) (dh bb (bS Qk.2 bb bb)))))) (dh (bS Ex.2 (dh (bS Qo.2 (dh (bS Pj.2 bb bb) bb) (dh bb (bS Qc.2 bb bb))) (dh (bS QL.2 bb bb) (dh (bS PP.2 bb bb) bb))) (bS Qj.2 (bS Qt.2 (bS QF.2 (bS Pr.2 bb bb) (bS P2.2 bb bb)) (bS O2.2 (bS PI.2 bb bb) bb)) (dh (bS QS.2 bb bb) (bS Pe.2 bb bb)))) (bS Pk.2 (dh (bS Qq.2 (dh (bS Po.2 (bS Ql.2 bb bb) bb) (bS PY.2 bb bb)) (dh (bS PE.2 bb bb) bb)) (dh (bS QP.2 (bS PA.2 bb bb) bb) (bS O8.2 bb (bS Qh.2 bb bb)))) (dh (bS Qx.2 (dh (bS Pt.2 bb bb) (bS P6.2 bb bb)) (dh (bS PM.2 bb bb) bb)) (bS QD.2 (bS QW.2 (bS PB.2 bb bb) bb) (dh (bS PT.2 bb bb) bb)))))) (dh (dh (dh (dh (bS Qn.2 (dh (bS Ph.2 bb bb) bb) (bS QZ.2 bb (bS Qb.2 bb bb))) (dh (bS QK.2 (bS Pw.2 bb bb) bb) (dh (bS PO.2 bb bb) bb))) (dh (bS Qs.2 (dh bb (bS P1.2 bb bb)) (bS O1.2 (bS PH.2 bb bb) bb)) (dh (bS QR.2 bb bb) (bS Pd.2 bb bb)))) (bS Pc.2 (dh (bS Qp.2 (dh (bS Pn.2 bb bb) bb) (dh (bS PD.2 bb bb) bb)) (bS Qz.2 (bS QO.2 (bS Pz.2 bb bb) bb) (dh (bS PS.2 bb bb) (bS Qg.2 bb bb)))) (dh (bS Qw.2 (bS QI.2 (bS Ps.2 bb bb) (bS P5.2 bb bb)) (bS O5.2 (bS PL.2 bb bb) bb)) (bS QC.2 (bS QV.2 bb bb) bb)))) (dh (dh (dh (dh (dh (bS Pl.2 bb bb) (bS PW.2 bb bb)) bb) (dh (bS QM.2 (bS Px.2 bb bb) bb) (bS O7.2 (bS PQ.2 bb bb) (bS Qe.2 bb bb)))) (dh (bS Qu.2 (bS QG.2 bb (bS P3.2 bb bb)) (bS O3.2 (bS PJ.2 bb bb) bb)) (bS QA.2 (bS QT.2 bb (bS P8.2 bb bb)) (bS Pf.2 bb bb)))) (dh (dh (dh (dh (bS Pp.2 bb bb) (bS PZ.2 bb bb)) (dh (bS PF.2 bb bb) bb)) (dh bb (bS O9.2 bb (bS Qi.2 bb bb)))) (dh (dh (bS QJ.2 (bS Pu.2 bb bb) (bS P7.2 bb bb)) (bS O6.2 bb bb)) (dh (bS QX.2 (bS PC.2 bb bb) bb) (dh (bS PV.2 bb bb) bb)))))))
theorem yO:Bi Tryz.prog (fun f=>XW.get f) :=ak8 ak9
end Go.b2

namespace Go.b2
open Go
namespace gh
abbrev W:=BitVec 32
abbrev B:=BitVec 8
def nv (x:W) (n:Nat) :W:=(x >>> n) ||| (x <<< (32 - n))
def pi (l:List B) :W:=l.foldl (fun a x=>(a <<< 8) ||| x.setWidth 32) 0#32
def part (b:List B) (k t:Nat) :W:=pi (((b.take k).drop (4*t)).take 4)
def fh (b:List B) :List W:=(List.range 16).map fun t=>pi ((b.drop (4*t)).take 4)
def ext (w:List W) :W:=
 let t:=w.length
 let x:=w.getD (t - 15) 0#32
 let y:=w.getD (t - 2) 0#32
 w.getD (t - 16) 0#32+w.getD (t - 7) 0#32+(nv x 7 ^^^ nv x 18 ^^^ (x >>> 3))+(nv y 17 ^^^ nv y 19 ^^^ (y >>> 10))
def ip:Nat->List W->List W
 | 0,w=>w
 | n+1,w=>ip n (w++[ext w])
def fo (b:List B) :List W:=ip 48 (fh b)
def LZ (x:W) (i j k:Nat) :W:=nv x i ^^^ nv x j ^^^ nv x k
structure ck where
 (a b c d e f g h:W)
def round (s:ck) (k w:W) :ck:=
 let p:=s.h+LZ s.e 6 11 25+((s.e &&& s.f) ^^^ (~~~s.e &&& s.g))+k+w
 let q:=LZ s.a 2 13 22+((s.a &&& s.b) ^^^ (s.a &&& s.c) ^^^ (s.b &&& s.c))
 ⟨p+q,s.a,s.b,s.c,s.d+p,s.e,s.f,s.g⟩
def rounds:ck->List W->List W->ck
 | s,k::bN,w::g0=>rounds (round s k w) bN g0
 | s,_,_=>s
def table:List Nat:=[0x428a2f98,0x71374491,0xb5c0fbcf,0xe9b5dba5,0x3956c25b,0x59f111f1,0x923f82a4,0xab1c5ed5,0xd807aa98,0x12835b01,0x243185be,0x550c7dc3,0x72be5d74,0x80deb1fe,0x9bdc06a7,0xc19bf174,0xe49b69c1,0xefbe4786,0x0fc19dc6,0x240ca1cc,0x2de92c6f,0x4a7484aa,0x5cb0a9dc,0x76f988da,0x983e5152,0xa831c66d,0xb00327c8,0xbf597fc7,0xc6e00bf3,0xd5a79147,0x06ca6351,0x14292967,0x27b70a85,0x2e1b2138,0x4d2c6dfc,0x53380d13,0x650a7354,0x766a0abb,0x81c2c92e,0x92722c85,0xa2bfe8a1,0xa81a664b,0xc24b8b70,0xc76c51a3,0xd192e819,0xd6990624,0xf40e3585,0x106aa070,0x19a4c116,0x1e376c08,0x2748774c,0x34b0bcb5,0x391c0cb3,0x4ed8aa4a,0x5b9cca4f,0x682e6ff3,0x748f82ee,0x78a5636f,0x84c87814,0x8cc70208,0x90befffa,0xa4506ceb,0xbef9a3f7,0xc67178f2]
def bN:List W:=table.map (BitVec.ofNat 32)
def grind (h:ck) (b:List B) :ck:=
 let v:=rounds h bN (fo b)
 ⟨h.a+v.a,h.b+v.b,h.c+v.c,h.d+v.d,h.e+v.e,h.f+v.f,h.g+v.g,h.h+v.h⟩
def Ix:Nat->ck->List B->ck × List B
 | 0,h,b=>(h,b)
 | n+1,h,b=>if 64<=b.length then Ix n (grind h (b.take 64)) (b.drop 64) else (h,b)
def hg (h:ck) (b:List B) :ck × List B:=Ix (b.length / 64) h b
def first:ck:=⟨0x6a09e667#32,0xbb67ae85#32,0x3c6ef372#32,0xa54ff53a#32,0x510e527f#32,0x9b05688c#32,0x1f83d9ab#32,0x5be0cd19#32⟩
def By (n:BitVec 64) :List B:=[(n >>> 56).setWidth 8,(n >>> 48).setWidth 8,(n >>> 40).setWidth 8,(n >>> 32).setWidth 8,(n >>> 24).setWidth 8,(n >>> 16).setWidth 8,(n >>> 8).setWidth 8,(n >>> 0).setWidth 8]
def tail (n:Nat) :List B:=128#8::List.replicate ((119 - n % 64) % 64) 0#8++By (BitVec.ofNat 64 n*8#64)
def uU (w:W) :List B:=[(w >>> 24).setWidth 8,(w >>> 16).setWidth 8,(w >>> 8).setWidth 8,w.setWidth 8]
def ck.l (s:ck) :List W:=[s.a,s.b,s.c,s.d,s.e,s.f,s.g,s.h]
def written (s:ck) :List B:=(s.l.map uU).flatten
def h2 (b:List B) :List B:=written (hg first (b++tail b.length)).1
theorem amr (l:List B) (x:B) :pi (l++[x])=(pi l <<< 8) ||| x.setWidth 32:=by simp[pi,avN]
theorem xl:∀ (n:Nat) (w:List W),(ip n w).length=w.length+n
 | 0,w=>rfl
 | n+1,w=>by rw[ip,xl n]; simp; omega
theorem DR (b:List B) :(fo b).length=64:=by rw[fo,xl]; simp[fh]
theorem HS (s:ck) :(written s).length=32:=rfl
theorem wL (b:List B) :(h2 b).length=32:=rfl
theorem Jb:∀ (n:Nat) (w:List W),ip (n+1) w=ip n w++[ext (ip n w)]
 | 0,w=>rfl
 | n+1,w=>by rw[ip,Jb n (w++[ext w])]; rfl
theorem Hz (a:W) (x:B) :(a <<< 8) ||| x.setWidth 32=a*256#32+x.setWidth 32:=by
 apply atH;have af:x.toNat<256:=x.isLt;have aB:=a.isLt;rw[BitVec.toNat_or,avr,awo,avf,atI];have h1:x.toNat % 2 ^ 32=x.toNat:=atD (by omega);have ad:a.toNat <<< 8 % 2 ^ 32=(a.toNat % 2 ^ 24) <<< 8:=by rw[au6,au6]; omega
 have aj:=av3 (b:=x.toNat) (i:=8) (by omega) (a.toNat % 2 ^ 24);rw[h1,ad,<-aj,au6];have aF:(256#32).toNat=256:=rfl;rw[aF];omega
theorem Bu (h:ck) (b:List B) (ag:64<=b.length) :hg h b=hg (grind h (b.take 64)) (b.drop 64) :=by
 have:b.length / 64=(b.drop 64).length / 64+1:=by simp; omega
 rw[hg,this,Ix,if_pos ag];rfl
theorem Et (h:ck) (b:List B) (ag:b.length<64) :hg h b=(h,b) :=by
 rw[hg,awp ag]; rfl
theorem ZZ (h:ck) (b:List B) :(hg h b).2.length=b.length % 64:=by
 generalize aC:b.length=n
 induction n using Nat.strongRecOn generalizing h b with
 | _ n aH=>
  rcases auA b.length 64 with h1 | h1
  ·rw[Et h b h1,atD (by omega)]; exact aC
  ·rw[Bu h b h1,aH (b.length - 64) (by omega) _ (b.drop 64) (by simp)];omega
theorem OQ (h:ck) (a b:List B) :hg h (a++b)=hg (hg h a).1 ((hg h a).2++b) :=by
 generalize aC:a.length=n
 induction n using Nat.strongRecOn generalizing h a with
 | _ n aH=>
  rcases auA a.length 64 with h1 | h1
  ·rw[Et h a h1]
  ·rw[Bu h a h1,Bu h (a++b) (by simp; omega),atS h1,aum h1];exact aH (a.length - 64) (by omega) _ (a.drop 64) (by simp)
end gh

end Go.b2

namespace Go.b2
open Go Go.Proofs
def AW:List U:=gh.bN.map br
def GS:Nat->U:=fun g=>match Nat.beq g 1 with | true=>.b6 AW 0 | false=>.bad
theorem bC:∀ g,(GS g).closed=true:=by
 intro g;unfold GS;split
 ·exact l6 br (fun _=>rfl) _
 ·rfl
@[simp]
theorem amT:GS 1=.b6 AW 0:=id rfl
theorem ak6 (i:Nat) (h:i<64) :AW[i]? = some (br (gh.bN.getD i 0#32)) :=by
 have ak:gh.bN.length=64:=rfl;unfold AW;rw[atw,atE,atu (by omega)];rfl
end Go.b2

namespace Go.b2
open Go Go.Proofs
set_option maxRecDepth 100000
namespace gh
def MO (x:W) (k:Int) :W:=(x <<< (BitVec.ofInt 64 k &&& 31#64).toNat) ||| (x >>> (32#64 - (BitVec.ofInt 64 k &&& 31#64)).toNat)
theorem yH (x:W) (n:Nat) (aE:0<n) (h:n<32) :MO x (-(n:Int))=nv x n:=by
 have h1:∀ n:Fin 32,0<n.val->(BitVec.ofInt 64 (-(n.val:Int)) &&& 31#64)=BitVec.ofNat 64 (32 - n.val) :=by decide
 have ad:=h1 ⟨n,h⟩ aE;simp only at ad;unfold MO nv;rw[ad,BitVec.or_comm];congr 2
 ·have:∀ n:Fin 32,0<n.val->(32#64 - BitVec.ofNat 64 (32 - n.val)).toNat=n.val:=by decide
  exact this ⟨n,h⟩ aE
 ·have:∀ n:Fin 32,0<n.val->(BitVec.ofNat 64 (32 - n.val)).toNat=32 - n.val:=by decide
  exact this ⟨n,h⟩ aE
theorem yG (x:W) (k:Int) :bw Tryz.prog GS 267 [br x,.int .i64 k] (br (MO x k)) :=by
 refine bP Tryz.checked.mixed bC ?_;apply bj Tryz.func267 [];simp;exact aP rfl rfl
theorem VM (x:W) (i j k:Nat) (av:0<i/\i<32) (ai:0<j/\j<32) (hk:0<k/\k<32) :bw Tryz.prog GS 266 [br x,.int .i64 i,.int .i64 j,.int .i64 k] (br (LZ x i j k)) :=by
 refine bP Tryz.checked.mixed bC ?_;apply bj Tryz.func266 [];have aC:∀ n:Nat,n<32->IntKind.i64.wrap (-(n:Int))=-(n:Int) :=fun n aC=>wrap_i64 (by omega) (by omega)
 simp[aC i av.2];refine bf (yG x _) rfl ?_;simp[aC j ai.2];refine bf (yG x _) rfl ?_;simp[aC k hk.2];refine bf (yG x _) rfl ?_;simp[yH x _ av.1 av.2,yH x _ ai.1 ai.2,yH x _ hk.1 hk.2];exact aP rfl rfl
def b7 (x:B) :List U:=[bB x]
abbrev eI:=dR B
abbrev cB (s:eI) :U:=cK 1 b7 s
theorem l7 (s:eI) :(cB s).closed=true:=vj (fun _=>rfl) s
def pj (b:List B) (k:Nat) :List W:=((List.range 16).map fun t=>pi (((b.take k).drop (4*t)).take 4))++List.replicate 48 0#32
theorem Yy (b:List B) (k:Nat) :(pj b k).length=64:=by simp[pj]
theorem amD (b:List B) :pj b 0=List.replicate 64 0#32:=by simp[pj,pi]; rfl
theorem NQ (b:List B) (k t:Nat) (aI:t<16) :(pj b k)[t]? = some (pi (((b.take k).drop (4*t)).take 4)) :=by
 unfold pj;rw[ats (by simpa using aI),atw,at3 aI];rfl
theorem amC (b:List B) (k:Nat) (hk:k<64) (ag:k<b.length) (x:B) (af:b[k]? = some x) :
  (pj b k).set (k / 4) ((pi (((b.take k).drop (4*(k / 4))).take 4) <<< 8) ||| x.setWidth 32)=pj b (k+1) :=by
 apply auk;intro t;rw[auQ,Yy];have Ai:b.take (k+1)=b.take k++[x] :=by rw[atJ,af]; rfl
 have bh:(b.take k).length=k:=by simp; omega
 by_cases aI:t<16
 ·rw[NQ b _ t aI,NQ b _ t aI];by_cases h:k / 4=t
  ·rw[if_pos h,if_pos (by omega),<-amr,Ai,h];congr 2;rw[aum (by omega)];obtain⟨A,cz⟩:∃ A,A=List.drop (4*t) (List.take k b) :=⟨_,rfl⟩
   have kB:A.length<4:=by rw[cz]; simp; omega
   rw[<-cz,atr (by omega),atr (by simp; omega)]
  ·rw[if_neg h,Ai];congr 2;rcases auA k (4*t) with h1 | h1
   ·rw[at9 (by omega),at9 (by simp; omega)]
   ·rw[aum (by omega),atS (by simp; omega)]
 ·rw[if_neg (by omega)];unfold pj;rw[atC (by simp; omega),atC (by simp; omega)];simp
theorem amB (b:List B) (ag:64<=b.length) :pj b 64=fh b++List.replicate 48 0#32:=by
 unfold pj fh;congr 1;apply au0;intro t aI;have:=at4.1 aI;congr 1;rw[avM,auO,auJ (by omega)]
def qm (b:List B) (k:Nat) :List W:=ip k (fh b)++List.replicate (48 - k) 0#32
theorem aj5 (b:List B) (k:Nat) (hk:k<=48) :(qm b k).length=64:=by simp[qm,xl,fh]; omega
theorem Hy (b:List B) (k i:Nat) (av:i<16+k) :(qm b k)[i]? = some ((ip k (fh b)).getD i 0#32) :=by
 unfold qm;have ak:(ip k (fh b)).length=16+k:=by simp[xl,fh]
 rw[ats (by omega),atE,atu (by omega)];rfl
theorem aj6 (b:List B) (k:Nat) (hk:k<48) :(qm b k).set (16+k) (ext (ip k (fh b)))=qm b (k+1) :=by
 have ak:(ip k (fh b)).length=16+k:=by simp[xl,fh]
 unfold qm;rw[at8 _ _ (by omega),ak,avt,show 48 - k=(48 - (k+1))+1 by omega,aus,avn,Jb];simp
set_option maxHeartbeats 4000000 in
theorem aj8 (b:List B) (ag:64<=b.length) :bw Tryz.prog GS 265 [cB (some b)] (.aM ((fo b).map br)) :=by
 refine bP Tryz.checked.mixed bC ?_;apply bj Tryz.func265 [];have e4:gg (.au 1) (cB (some b)) none (some (.int .i64 64)) none=some (cB (some (b.take 64))) :=by
  unfold cB; rw[akq (by omega) (by omega)]; rfl
 have oO:min 64 b.length=64:=by omega
 simp[e4,oO];refine cF 64 (fun k ae l=>ae 2=.ptr 0 0 64/\ae 11=cB (some (b.take 64))/\ae 12=.int .i64 64/\ae 13=.int .i64 k/\l=[.cells 64 ((pj b k).map br)]) ?_ ?_
 ·rintro k ae l hk ⟨aT,hQ,fA,h8,rfl⟩;obtain⟨ae,rfl⟩:=iv aT hQ fA h8;clear aT hQ fA h8;simp;by_cases h:(k:Int)<64
  ·obtain⟨x,af⟩:∃ x,b[k]? = some x:=⟨_,atu (by omega)⟩
   have CV:(b.take 64)[k]? = some x:=by rw[atP (by omega)]; exact af
   have cc:cj (.au 1) (cB (some (b.take 64))) (.int .i64 k)=some (.b6 (b7 x) 0) :=by simp[cB,ra,CV]
   obtain⟨q,KO⟩:∃ q,q=k / 4:=⟨_,rfl⟩
   have aZ:cm .quo .i64 (k:Int) .i64 4=some (.int .i64 (q:Int)) :=by rw[KO]; exact Iz k 4 (by omega) (by omega)
   have e5:IntKind.i64.wrap ((k:Int)+1)=k+1:=wrap_i64 (by omega) (by omega);have aK:(q:Int)<64:=by omega
   have ar:=NQ b k q (by omega);have al:=oa br (pj b k) q (((pi (((b.take k).drop (4*q)).take 4) <<< 8) ||| x.setWidth 32)) (by rw[Yy]; omega);rw[KO,amC b k (by omega) (by omega) x af,<-KO] at al;have dO:q+1<=64:=by omega
   simp[h,cc,b7,aZ,aK,ar,dO,e5,al];omega
  ·have xQ:k=64:=by omega
   subst xQ;simp;refine cF 48 (fun j ae l=>ae 2=.ptr 0 0 64/\ae 5=.int .i64 (16+j:Nat)/\l=[.cells 64 ((qm b j).map br)]) ?_ ?_
   ·rintro j ae l ai ⟨aT,bc,rfl⟩;obtain⟨ae,rfl⟩:=qu aT bc;clear aT bc;obtain⟨t,aI⟩:∃ t,t=16+j:=⟨_,rfl⟩
    rw[<-aI];simp;by_cases h:(t:Int)<64
    ·have jo:IntKind.i64.wrap ((t:Int)+1)=(t+1:Nat) :=wrap_i64 (by omega) (by omega);have HM:IntKind.i64.wrap ((t:Int) - 15)=(t - 15:Nat) :=by rw[wrap_i64 (by omega) (by omega)]; omega
     have w2:IntKind.i64.wrap ((t:Int) - 2)=(t - 2:Nat) :=by rw[wrap_i64 (by omega) (by omega)]; omega
     have HN:IntKind.i64.wrap ((t:Int) - 16)=(t - 16:Nat) :=by rw[wrap_i64 (by omega) (by omega)]; omega
     have D8:IntKind.i64.wrap ((t:Int) - 7)=(t - 7:Nat) :=by rw[wrap_i64 (by omega) (by omega)]; omega
     have ak:(ip j (fh b)).length=t:=by simp[xl,fh]; omega
     have ox:=Hy b j (t - 15) (by omega);have aT:=Hy b j (t - 2) (by omega);have mZ:=Hy b j (t - 16) (by omega);have ei:=Hy b j (t - 7) (by omega);have al:=oa br (qm b j) t (ext (ip j (fh b))) (by rw[aj5 b j (by omega)]; omega);rw[aI,aj6 b j (by omega),<-aI] at al;unfold ext at al;rw[ak] at al
     dsimp only at al
     obtain⟨v2,I2⟩:∃ i,i=t - 15:=⟨_,rfl⟩
     obtain⟨eH,bF⟩:∃ i,i=t - 2:=⟨_,rfl⟩
     obtain⟨v6,EK⟩:∃ i,i=t - 16:=⟨_,rfl⟩
     obtain⟨i1,I3⟩:∃ i,i=t - 7:=⟨_,rfl⟩
     rw[<-I2] at HM ox al;rw[<-bF] at w2 aT al;rw[<-EK] at HN mZ al;rw[<-I3] at D8 ei al;have Iq:(v2:Int)<64:=by omega
     have dy:(eH:Int)<64:=by omega
     have Ir:(v6:Int)<64:=by omega
     have tw:(i1:Int)<64:=by omega
     have dO:t+1<=64:=by omega
     generalize (ip j (fh b)).getD v2 0#32=x at ox al;generalize (ip j (fh b)).getD eH 0#32=y at aT al;generalize (ip j (fh b)).getD v6 0#32=NR at mZ al;generalize (ip j (fh b)).getD i1 0#32=NS at ei al;have wy:=yH x 7 (by omega) (by omega);have WG:=yH x 18 (by omega) (by omega);have WF:=yH y 17 (by omega) (by omega);have WH:=yH y 19 (by omega) (by omega);simp at wy WG WF WH;simp[h,HM,w2,ox,aT,Iq,dy];refine bf (yG _ _) rfl ?_;simp;refine bf (yG _ _) rfl ?_;simp;refine bf (yG _ _) rfl ?_;simp;refine bf (yG _ _) rfl ?_;simp[wy,WG,WF,WH,HN,D8,mZ,ei,Ir,tw,h,al,jo,dO];omega
    ·have aew:j=48:=by omega
     have afz:qm b 48=fo b:=by simp[qm,fo]
     subst aew;have CD:=DR b;rw[afz];simp[h,CD,nz,atr];exact aP rfl (Rb br (fun _=>rfl) _)
   ·simp[qm,ip,amB b ag]
 ·simp[amD,W5 _ 32]
theorem amz (b:List B) (n:Nat) (aC:64<=n) :fh (b.take n)=fh b:=by
 unfold fh;apply au0;intro t aI;have:=at4.1 aI;congr 1;rw[avM,auO,auJ (by omega)]
theorem aj7 (b:List B) (n:Nat) (aC:64<=n) :fo (b.take n)=fo b:=by unfold fo; rw[amz b n aC]
theorem rounds_succ:∀ (k:Nat) (s:ck) (a b:List W) (x y:W),a[k]? = some x->b[k]? = some y->rounds s (a.take (k+1)) (b.take (k+1))=round (rounds s (a.take k) (b.take k)) x y
 | 0,s,a,b,x,y,aB,ag=>by
  cases a with
  | nil=>simp at aB
  | cons a Of=>
   cases b with
   | nil=>simp at ag
   | cons b bs=>simp at aB ag; subst aB ag; simp[rounds]
 | k+1,s,a,b,x,y,aB,ag=>by
  cases a with
  | nil=>simp at aB
  | cons a Of=>
   cases b with
   | nil=>simp at ag
   | cons b bs=>
    simp only[List.take_succ_cons,rounds];exact rounds_succ k _ Of bs x y (by simpa using aB) (by simpa using ag)
def mA (h:ck) (b:List B) (k:Nat) :ck:=rounds h (bN.take k) ((fo b).take k)
theorem WL (h:ck) (b:List B) :mA h b 0=h:=rfl
theorem WK (h:ck) (b:List B) (k:Nat) (hk:k<64) :mA h b (k+1)=round (mA h b k) (bN.getD k 0#32) ((fo b).getD k 0#32) :=by
 have h1:bN.length=64:=rfl;have ad:=DR b;refine rounds_succ k h bN (fo b) _ _ ?_ ?_
 ·rw[atE,atu (by omega)]; rfl
 ·rw[atE,atu (by omega)]; rfl
theorem WI (h:ck) (b:List B) :mA h b 64=rounds h bN (fo b) :=by
 have h1:bN.length=64:=rfl;have ad:=DR b;unfold mA;rw[atr (by omega),atr (by omega)]
def ix (a b:List W) (k:Nat) :List W:=(List.zipWith (·+·) a b).take k++a.drop k
theorem N8 (a b:List W) :ix a b 0=a:=rfl
theorem Ic {a b:List W} (h:a.length=b.length) (k:Nat) :(ix a b k).length=a.length:=by simp[ix]; omega
theorem N6 {a b:List W} (h:a.length=b.length) {k:Nat} (hk:k<a.length) :(ix a b k)[k]? = a[k]?:=by
 unfold ix;rw[atC (by simp; omega)];have:(List.take k (List.zipWith (·+·) a b)).length=k:=by simp; omega
 rw[this,at6]; simp
theorem N7 {a b:List W} (h:a.length=b.length) {k:Nat} {x y:W} (af:a[k]? = some x) (az:b[k]? = some y) :(ix a b k).set k (x+y)=ix a b (k+1) :=by
 have hk:=(atq.1 af).1;unfold ix;have ak:(List.take k (List.zipWith (·+·) a b)).length=k:=by simp; omega
 have aw:(List.zipWith (·+·) a b)[k]? = some (x+y) :=by rw[List.getElem?_zipWith,af,az]
 rw[at8 _ _ (by omega),ak,avt,auo hk,avn,atJ,aw];simp
set_option maxHeartbeats 8000000 in
theorem acA {h:ck} {b:List B} (ag:64<=b.length) {l:am} {bk sz:Nat} {rest:List U} {x:U} {K:U->am->Prop} (ak:l[bk]? = some (.cells sz (h.l.map br++rest))) (hq:8<=sz) (af:fH (bU l) x (cB (some b)))
  (aV:∀ junk,K (.bG []) (l.set bk (.cells sz ((grind h b).l.map br++rest))++junk)) :c7 Tryz.prog GS 258 [.ptr bk 0 sz,x] l (c:=⟨K⟩) :=by
 apply bj Tryz.func258 [[],[[0],[1],[4],[5],[6],[7],[8],[9],[10],[11],[13],[14],[15],[17],[18],[19],[2,19,15],[3],[12],[16]]];simp;refine ie (aj8 b ag) (.cons af .nil) (RY br (fun _=>rfl) _) ?_;have aC:=fc ak;have e4:=DR b;have gX:(l++[a2.cells 64 ((fo b).map br)])[bk]? = some (.cells sz (h.l.map br++rest)) :=by rw[ats aC]; exact ak
 have ar:∀ i (y:W),i<8->h.l[i]? = some y->(h.l.map br++rest)[i]? = some (br y) :=fun i y av az=>by
  rw[ats (by simpa [ck.l] using av),atw,az]; rfl
 have dH:=ar 0 h.a (by omega) rfl;have q1:=ar 1 h.b (by omega) rfl;have gn:=ar 2 h.c (by omega) rfl;have kP:=ar 3 h.d (by omega) rfl;have wx:=ar 4 h.e (by omega) rfl;have yA:=ar 5 h.f (by omega) rfl;have uI:=ar 6 h.g (by omega) rfl;have aiU:=ar 7 h.h (by omega) rfl;simp[nz,e4,gX,dH,q1,gn,kP,wx,yA,uI,aiU];refine cF 64 (fun k ae l'=>ae 0=.ptr bk 0 sz/\ae 4=.ptr l.length 0 64/\ae 5=br (mA h b k).a/\ae 6=br (mA h b k).b/\ae 7=br (mA h b k).c/\ae 8=br (mA h b k).d/\ae 9=br (mA h b k).e/\ae 10=br (mA h b k).f/\ae 11=br (mA h b k).g/\ae 12=br (mA h b k).h/\ae 52=.int .i64 k ∧
  l'=l++[.cells 64 ((fo b).map br)]) ?_ ?_
 ·rintro k ae l' hk ⟨b8,bu,bc,ch,ei,eu,hn,gc,hQ,fA,Sj,rfl⟩;obtain⟨ae,rfl⟩:=Yf b8 bu bc ch ei eu hn gc hQ fA Sj;clear b8 bu bc ch ei eu hn gc hQ fA Sj;simp;by_cases eK:(k:Int)<64
  ·have e5:IntKind.i64.wrap ((k:Int)+1)=k+1:=wrap_i64 (by omega) (by omega);have gW:k<64:=by omega
   have aI:=ak6 k gW;have gO:(fo b)[k]? = some ((fo b).getD k 0#32) :=by rw[atE,atu (by omega)]; rfl
   rw[WK h b k gW];generalize (fo b).getD k 0#32=kt at *
   generalize bN.getD k 0#32=mr at *
   generalize mA h b k=s at *
   have gm:=VM s.e 6 11 25 (by omega) (by omega) (by omega);have hr:=VM s.a 2 13 22 (by omega) (by omega) (by omega);simp at gm hr;simp[eK,aI,gO];refine bf gm rfl ?_;simp[aI,gO];refine bf hr rfl ?_;simp[gW,e5];simp[round]
  ·have xQ:k=64:=by omega
   subst xQ;rw[WI];obtain⟨v,aq⟩:∃ v,rounds h bN (fo b)=v:=⟨_,rfl⟩
   rw[aq];have xO:grind h b=⟨h.a+v.a,h.b+v.b,h.c+v.c,h.d+v.d,h.e+v.e,h.f+v.f,h.g+v.g,h.h+v.h⟩:=by unfold grind; rw[aq]
   simp;have k3:h.l.length=v.l.length:=rfl;have nT:h.l.length=8:=rfl;have Kg:(grind h b).l=ix h.l v.l 8:=by rw[xO]; rfl
   rw[Kg] at aV;refine cF 8 (fun k ae l'=>ae 0=.ptr bk 0 sz/\ae 111=.aM (v.l.map br)/\ae 112=.int .i64 k/\l'=l.set bk (.cells sz ((ix h.l v.l k).map br++rest))++[.cells 64 ((fo b).map br)]) ?_ ?_
   ·rintro k ae l' hk ⟨b8,Sd,Se,rfl⟩;obtain⟨ae,rfl⟩:=kq b8 Sd Se;clear b8 Sd Se;simp;by_cases eK:(k:Int)<8
    ·have e5:IntKind.i64.wrap ((k:Int)+1)=k+1:=wrap_i64 (by omega) (by omega);have hT:k<8:=by omega
     obtain⟨y,az⟩:∃ y,v.l[k]? = some y:=⟨_,atu (show k<v.l.length from hT)⟩
     obtain⟨z,aw⟩:∃ z,h.l[k]? = some z:=⟨_,atu (show k<h.l.length from hT)⟩
     have aB:=N6 k3 (k:=k) (by rw[nT]; exact hT);rw[aw] at aB;have gU:=Ic k3 k;have al:=oa br (ix h.l v.l k) k (z+y) (by rw[gU,nT]; exact hT);rw[N7 k3 aw az] at al;have nU:((ix h.l v.l k).map br).length=8:=by rw[atU,gU,nT]
     have k8:bz ((ix h.l v.l k).map br++rest) k [br (z+y)]=(ix h.l v.l (k+1)).map br++rest:=by
      rw[<-al];unfold bz;rw[atS (by omega),aum (by simp; omega)];simp
     have pT:((ix h.l v.l k).map br++rest)[k]? = some (br z) :=by rw[ats (by omega),atw,aB]; rfl
     have oN:(l.set bk (.cells sz ((ix h.l v.l k).map br++rest))++[a2.cells 64 ((fo b).map br)])[bk]? = some (.cells sz ((ix h.l v.l k).map br++rest)) :=by
      rw[ats (by simpa using aC),auQ]; simp[aC]
     have vN:k+1<=sz:=by omega
     simp[eK,az,pT,oN,e5,k8,hT,vN,aC,List.set_append]
    ·have hT:k=8:=by omega
     subst hT;simp;exact aV _
   ·have lN:l.set bk (.cells sz ((ix h.l v.l 0).map br++rest))=l:=by
     rw[N8]; exact akd ak
    rw[lN];simp[ck.l]
 ·simp[WL]
abbrev mW (ls:dR eI) :U:=cK 1 (fun s=>[cB s]) ls
theorem Ra (ls:dR eI) :(mW ls).closed=true:=vj (fun s=>by simp only[bm,l7,avi]) ls
def bytesOf (ls:List eI) :List B:=(ls.map dR.l).flatten
theorem bytesOf_take (ls:List eI) (k:Nat) (s:eI) (h:ls[k]? = some s) :bytesOf (ls.take (k+1))=bytesOf (ls.take k)++s.l:=by
 unfold bytesOf;rw[atJ,h]; simp
theorem O0 (ls:List eI) (k:Nat) :(bytesOf (ls.take k)).length<=(bytesOf ls).length:=by
 conv=>rhs; rw[<-auc k ls]
 unfold bytesOf;rw[atX,aul,atB];omega
theorem acE {n:Nat} (aC:n<=1000000000) {l:am} {K:U->am->Prop} (aV:∀ v j l',bJ 1 l' v j []->l.length<=l'.length->(∀ b,b<l.length->l'[b]? = l[b]?)->(cD v=decide (n=0))->K v l') :c7 Tryz.prog GS 235 [.a1,.int .i64 n] l (c:=⟨K⟩) :=by
 apply bj Tryz.func235 [];have h1:¬((n:Int)<0) :=by omega
 have hw:IntKind.i64.wrap (n:Int)=n:=wrap_i64 (by omega) (by omega);have Lc:IntKind.i64.wrap (0:Int)=0:=rfl;by_cases aE:n=0
 ·subst aE;simp;exact aV _ 0 _ (.nil 0) (att _) (fun _ _=>rfl) rfl
 have ad:(0:Int)<n:=by omega
 have aw:qE l 1 1 [.int .u8 0] .a1 (.int .i64 n)=some (.au 1 l.length 0 n n (n*1),l++[.cells (n*1) (dk [.int .u8 0] n)]) :=by
  unfold qE h4;simp only[auq];have ax:ct=140737488355328:=rfl;rw[if_pos ⟨by omega,by omega,by rw[ax]; omega⟩,if_neg aE,if_neg (by omega),if_pos (by rw[ax]; omega)]
 have al:gg (.au 1) (.au 1 l.length 0 n n (n*1)) none (some (.int .i64 0)) none=some (.au 1 l.length 0 0 n (n*1)) :=by
  rw[yK,Iy,if_pos ⟨by omega,by omega⟩];simp[aE]
 rw[auW] at aw al;have aj:0<n:=by omega
 simp[h1,ad,aj,hw,aw,Lc,al];refine aV _ l.length (l++[.cells n (dk [.int .u8 0] n)]) (.au _ 0 n n (dk [.int .u8 0] n) [] (by simp) (by rw[AN]; simp) rfl (by simp) (by omega) (by omega) rfl) (by simp) (fun b ag=>ats ag) ?_;simp[cD,aE]
def zf (ls:List eI) :eI:=if bytesOf ls=[] then none else some (bytesOf ls)
theorem aap (ls:List eI) :(zf ls).l=bytesOf ls:=by unfold zf; split<;>simp_all
set_option maxHeartbeats 4000000 in
theorem aaM (ls:List eI) (ak:(bytesOf ls).length<=1000000000) (xV:ls.length<=1000000000) :ja Tryz.prog GS 194 [mW (some ls)] (cB (zf ls)) :=by
 refine AG Tryz.checked.mixed bC ?_;apply bj Tryz.func194 [];simp;have cc:∀ (k:Nat) (s:eI),ls[k]? = some s->cj (.au 1) (mW (some ls)) (.int .i64 k)=some (.b6 [cB s] 0) :=fun k s al=>by simp[mW,ra,al]
 refine cF ls.length (fun k ae l=>ae 0=mW (some ls)/\ae 9=mW (some ls)/\ae 10=.int .i64 ls.length/\ae 11=.int .i64 k/\ae 3=.int .i64 (bytesOf (ls.take k)).length/\l=[]) ?_ ?_
 ·rintro k ae l hk ⟨b8,hn,gc,hQ,a8,rfl⟩;obtain⟨ae,rfl⟩:=kU b8 a8 hn gc hQ;clear b8 a8 hn gc hQ;simp;by_cases h:k<ls.length
  ·obtain⟨s,al,_⟩:=bA h;have ag:=bytesOf_take ls k s al;have dO:=O0 ls (k+1);rw[ag,atB] at dO;have hw:IntKind.i64.wrap (((bytesOf (ls.take k)).length:Int)+s.l.length)=((bytesOf (ls.take k)).length:Int)+s.l.length:=wrap_i64 (by omega) (by omega);have e5:IntKind.i64.wrap ((k:Int)+1)=k+1:=wrap_i64 (by omega) (by omega);have pW:¬(((bytesOf (ls.take k)).length:Int)+s.l.length<0) :=by omega
   simp[h,cc k s al,hw,pW,e5,ag]
  ·have cI:k=ls.length:=by omega
   subst cI;simp;refine acE ak ?_;intro v j l ap bh _ hU;simp;refine cF ls.length (fun k ae l=>ae 25=mW (some ls)/\ae 26=.int .i64 ls.length/\ae 27=.int .i64 k/\∃ v j,ae 6=v/\bJ 1 l v j ((bytesOf (ls.take k)).map b7)/\cD v=decide (bytesOf ls=[])) ?_ ?_
   ·rintro k ae l hk ⟨j2,lB,xo,v,j,ch,ap,hU⟩;obtain⟨ae,rfl⟩:=iv ch j2 lB xo;clear ch j2 lB xo;simp;by_cases h:k<ls.length
    ·obtain⟨s,al,_⟩:=bA h;have ag:=bytesOf_take ls k s al;have dO:=O0 ls (k+1);rw[ag,atB] at dO;have e5:IntKind.i64.wrap ((k:Int)+1)=k+1:=wrap_i64 (by omega) (by omega);have ax:ct=140737488355328:=rfl;obtain⟨aY,bX,l',h1,ad,aj,aF,aW,bt⟩:=ou (by_:=1) ap (x:=cB s) (xs:=s.l.map b7) (by simp[cB]) (fun e ao=>by obtain⟨x,_,rfl⟩:=atV.1 ao; rfl) (by omega) (by omega) (by simp; omega);simp[h,cc k s al,h1];refine c0.cq ?_;simp[h,e5];refine⟨⟨bX,by rw[ag,atX]; exact ad⟩,?_⟩;rw[uq bt,hU];by_cases ao:bytesOf ls=[]
     ·have aE:(bytesOf ls).length=0:=by rw[ao]; rfl
      have:s.l=[] :=aug.1 (by omega);simp[ao,this]
     ·simp[ao]
    ·have cI:k=ls.length:=by omega
     subst cI;simp;rw[atW] at ap;refine ap.DJ (fun _=>rfl) _ ?_ (aap ls);rw[hU];unfold zf;split<;>simp_all
   ·simp;refine⟨⟨j,by simpa [bytesOf] using ap⟩,?_⟩;rw[hU];simp[aug]
 ·simp[bytesOf]
theorem aaB (s:dR B) :gi Tryz.prog .eql 136 (cK 1 b7 s) .a1=some (.bool s.isNone) :=OO (e:=5) (by kernel_rfl) 1 b7 s
theorem aaC {s:dR B} (al:s.l.length<=1000000000) {l:am} {K:U->am->Prop} (aV:∀ v j l',bJ 1 l' v j (s.l.map b7)->l.length<=l'.length->(∀ b,b<l.length->l'[b]? = l[b]?)->(v=.a1\/l.length<=j)->cD v=s.isNone->K v l') :c7 Tryz.prog GS 259 [cK 1 b7 s] l (c:=⟨K⟩) :=by
 apply bj Tryz.func259 [];simp[aaB];cases s with
 | none=>
  simp;exact aV _ 0 _ (.nil 0) (att _) (fun _ _=>rfl) (.inl rfl) rfl
 | some b=>
  simp;have ax:ct=140737488355328:=rfl;have su:b.length<=1000000000:=al;have ap:bJ 1 (l++[a2.cells 0 []]) (.au 1 l.length 0 0 0 0) l.length [] :=.au l.length 0 0 0 [] [] (by simp) rfl rfl (by simp) (att _) (by omega) rfl;obtain⟨aY,bX,l',h1,ad,aj,aF,aW,bt⟩:=ou (by_:=1) ap (x:=cK 1 b7 (some b)) (xs:=b.map b7) (by simp) (fun e ao=>by obtain⟨x,_,rfl⟩:=atV.1 ao; rfl) (by omega) (by omega) (by simp; omega);simp[h1];refine c0.cq ?_;simp;have vC:l.length+1<=l'.length:=by simpa using aj
  refine aV _ bX _ ad (by omega) (fun b ag=>?_) (.inr (by rcases aW with h | h<;>(try simp only[atB,atL,at7] at h)<;>omega)) ?_
  ·rw[aF b (by simp; omega) (by omega),ats ag]
  ·rw[uq bt]; rfl
structure tk where
 st:ck
 rest:eI
 n:Int
def gD (s:ck) (r:U) (n:Int) :List U:=s.l.map br++[r,.int .i64 n]
def qL (m:tk) :U:=.aM (gD m.st (cB m.rest) m.n)
def tJ (m:tk) (b:eI) :tk:=
 let all:=m.rest.l++b.l
 ⟨(hg m.st all).1,if all=[] then none else some (hg m.st all).2,m.n+b.l.length⟩
theorem aaq (a b:eI) :zf [a,b]=if a.l++b.l=[] then none else some (a.l++b.l) :=by
 have:bytesOf [a,b]=a.l++b.l:=by simp[bytesOf]
 unfold zf;rw[this]
theorem acB (h:ck) (b:List B) :grind h (b.take 64)=grind h b:=by unfold grind; rw[aj7 b 64 (by omega)]
theorem wm (s:ck) (r:U) (n:Int) :(gD s r n).length=10:=rfl
set_option maxHeartbeats 8000000 in
theorem RN (m:tk) (b:eI) (ak:m.rest.l.length+b.l.length<=1000000000) (aC:0<=m.n) (nV:m.n<=1000000000) :ja Tryz.prog GS 239 [qL m,cB b] (qL (tJ m b)) :=by
 refine AG Tryz.checked.mixed bC ?_;apply bj Tryz.func239 [[[0],[1],[2],[3],[4],[5],[6,1]]];have ah:(U.aM (gD m.st (cB m.rest) m.n)).cells=some (gD m.st (cB m.rest) m.n) :=rfl;have eA:(gD m.st (cB m.rest) m.n)[8]? = some (cB m.rest) :=rfl;have Ti:=aaM [m.rest,b] (by simp[bytesOf]; exact ak) (by simp);rw[aaq] at Ti;simp[qL,wm,eA];refine Wx Ti (.cons ?_ .nil) ?_
 ·exact DH (es:=[[cB m.rest],[cB b]]) (rest:=[]) rfl rfl (by simp) (by simp[bm,l7])
 obtain⟨all,eC⟩:∃ all,all=m.rest.l++b.l:=⟨_,rfl⟩
 have gU:all.length<=1000000000:=by rw[eC]; simpa using ak
 rw[<-eC];simp;refine cF (all.length / 64) (fun k ae l=>ae 1=cB b/\ae 2=.ptr 0 0 10/\ae 4=.ptr 1 0 10/\∃ h s g1 junk,ae 5=cB s/\l=.cells 10 (gD h (cB m.rest) m.n) ::.cells 10 g1::junk/\hg m.st all=hg h s.l/\s.l.length=all.length - 64*k/\g1.length=10/\s.isNone=decide (all=[])) ?_ ?_
 ·rintro k ae l hk ⟨aL,aT,bu,h,s,g1,junk,bc,rfl,fB,dE,q8,Uf⟩;obtain⟨ae,rfl⟩:=iv aL aT bu bc;clear aL aT bu bc;have bh:cP (.au 1) (cB s)=some (.int .i64 s.l.length) :=qc _;simp[bh];by_cases Jv:(64:Int)<=s.l.length
  ·cases s with
   | none=>simp at Jv
   | some hM=>
   have acH:(64:Int)<=hM.length:=Jv;have SD:64<=hM.length:=by omega
   simp[acH];refine acA (h:=h) (b:=hM) SD (l:=.cells 10 (gD h (cB m.rest) m.n) ::.cells 10 g1::junk) (bk:=0) (sz:=10) (rest:=[cB m.rest,.int .i64 m.n]) rfl (by omega) (WS (l7 _)) (fun aqg=>?_);have e4:gg (.au 1) (cB (some hM)) (some (.int .i64 64)) none none=some (cB (some (hM.drop 64))) :=by
    unfold cB; rw[akm (by omega) (by omega)]; rfl
   simp[e4];have apn:hM.length=all.length - 64*k:=dE;refine⟨by omega,grind h hM,some (hM.drop 64),rfl,g1,⟨rfl,rfl⟩,?_,?_,q8,?_⟩
   ·rw[fB];show hg h hM=_;rw[Bu h hM SD,acB]; rfl
   ·simp; omega
   ·exact Uf
  ·have aK:s.l.length<64:=by omega
   have hw:IntKind.i64.wrap (m.n+(b.l.length:Int))=m.n+b.l.length:=wrap_i64 (by omega) (by omega);have eX:(gD h (cB m.rest) m.n)[9]? = some (.int .i64 m.n) :=rfl;have lH:cP (.au 1) (cB b)=some (.int .i64 b.l.length) :=qc _;simp[Jv,eX,lH,hw];refine aaC (by omega) ?_;intro v j l ap fW gX ai hU;obtain⟨l',rfl⟩:∃ l',l=.cells 10 (gD h (cB m.rest) m.n) ::.cells 10 g1::l':=by
    have gw:=gX 0 (by simp);have aQ:=gX 1 (by simp);cases l with
    | nil=>simp at gw
    | cons a l=>cases l with
     | nil=>simp at aQ
     | cons c l=>simp at gw aQ; subst gw aQ; exact⟨l,rfl⟩
   have afE:∀ r n gY,bz (gD h r n) 9 [.int .i64 gY]=gD h r gY:=fun _ _ _=>rfl
   have afD:∀ r n cr,bz (gD h r n) 8 [cr]=gD h cr n:=fun _ _ _=>rfl
   have aq:=ap.cells;simp[eX,afE,afD,aq,wm,q8,nz];have ir:∀ r n,List.take 10 (gD h r n)=gD h r n:=fun _ _=>rfl
   rw[ir,ir];have aea:tJ m b=⟨h,if all=[] then none else some s.l,m.n+b.l.length⟩:=by
    unfold tJ;rw[<-eC]
    dsimp only
    rw[fB,Et h s.l aK]
   rw[aea];have kJ:=(ap.vx (l':=.cells 10 (gD h v (m.n+(b.l.length:Int))) ::.cells 10 (gD h v (m.n+(b.l.length:Int))) ::l') (by
    rcases ai with ai | ai
    ·exact .inl ai
    ·obtain⟨q,rfl⟩:∃ q,j=q+2:=⟨j - 2,by simp at ai; omega⟩
     exact .inr rfl)).DJ (fun _=>rfl) (if all=[] then none else some s.l) (by
     rw[hU,Uf]; split<;>simp_all) (by
     split
     ·rename_i ao; rw[ao] at dE; simp at dE; rw[dE]; rfl
     ·rfl)
   refine .aM _ _ rfl fun i c c' oE kD=>?_
   rcases i with _ | _ | _ | _ | _ | _ | _ | _ | _ | _ | i<;>simp[gD,ck.l] at oE kD
   all_goals subst oE kD
   all_goals first | exact kJ | exact .flat _ rfl
 ·simp;exact⟨m.st,(if all=[] then none else some all),rfl,⟨[.int .u32 0,.int .u32 0,.int .u32 0,.int .u32 0,.int .u32 0,.int .u32 0,.int .u32 0,.int .u32 0,.a1,.int .i64 0],⟨rfl,rfl⟩,by split<;>simp_all,by split<;>simp_all,rfl,by split<;>simp_all⟩⟩
def fM (b:List B) :U:=.aM (b.map bB)
def nA (n k:Nat) :List B:=128#8::List.replicate ((119 - n % 64) % 64) 0#8++(By (BitVec.ofNat 64 n*8#64)).take k
theorem No (n:Nat) :nA n 8=tail n:=rfl
theorem XT (n k:Nat) (x:B) (af:(By (BitVec.ofNat 64 n*8#64))[k]? = some x) :nA n (k+1)=nA n k++[x] :=by
 unfold nA;rw[atJ,af]; simp
theorem HH (n k:Nat) :(nA n k).length<=80:=by
 unfold nA;have:(By (BitVec.ofNat 64 n*8#64)).length=8:=rfl;simp; omega
theorem OW (q:BitVec 64) (k:Nat) (hk:k<8) :(By q)[k]? = some ((q >>> (56 - 8*k)).setWidth 8) :=by
 match k,hk with
 | 0,_=>rfl
 | 1,_=>rfl
 | 2,_=>rfl
 | 3,_=>rfl
 | 4,_=>rfl
 | 5,_=>rfl
 | 6,_=>rfl
 | 7,_=>rfl
def qi (s:List W) (k:Nat) :List B:=((s.take k).map uU).flatten++List.replicate (32 - 4*k) 0#8
theorem Yw (s:List W) :(s.map uU).flatten.length=4*s.length:=by
 induction s with
 | nil=>rfl
 | cons w s aH=>simp[aH,uU]; omega
theorem aig (s:List W) (k:Nat) (hk:k<=s.length) (al:s.length=8) :(qi s k).length=32:=by
 unfold qi;rw[atB,Yw];simp; omega
theorem aih (s:List W) (k:Nat) (w:W) (hk:s[k]? = some w) (al:s.length=8) :
  ((((qi s k).set (4*k) ((w >>> 24).setWidth 8)).set (4*k+1) ((w >>> 16).setWidth 8)).set (4*k+2) ((w >>> 8).setWidth 8)).set (4*k+3) (w.setWidth 8)=qi s (k+1) :=by
 have hT:=(atq.1 hk).1;unfold qi;rw[atJ,hk];have cz:((s.take k).map uU).flatten.length=4*k:=by rw[Yw]; simp; omega
 obtain⟨A,SE⟩:∃ A,A=((s.take k).map uU).flatten:=⟨_,rfl⟩
 rw[<-SE] at cz ⊢;have ax:32 - 4*k=(32 - 4*(k+1))+1+1+1+1:=by omega
 rw[ax,aus,aus,aus,aus];rw[at8 _ _ (by omega),at8 _ _ (by omega),at8 _ _ (by omega),at8 _ _ (by omega)];simp only[cz,avt,Nat.add_sub_cancel_left,avn,avo,atX,aul,<-SE];simp[uU]
def EP (s:ck) (r:eI) (n:Nat) :List B:=written (hg s (r.l++tail n)).1
set_option maxHeartbeats 8000000 in
theorem abn (s:ck) (r:eI) (n:Nat) (ax:r.l.length<=100000000) (aC:n<=100000000) :bw Tryz.prog GS 240 [qL ⟨s,r,n⟩] (fM (EP s r n)) :=by
 refine bP Tryz.checked.mixed bC ?_;apply bj Tryz.func240 [];have eX:(gD s (cB r) n)[9]? = some (.int .i64 n) :=rfl;have ah:(U.aM (gD s (cB r) n)).cells=some (gD s (cB r) n) :=rfl;have k7:=Bv n 64 (by omega);obtain⟨q,aZ⟩:∃ q,q=n % 64:=⟨_,rfl⟩
 rw[show ((64:Int).toNat)=64 from rfl,<-aZ] at k7;have apS:q<64:=by rw[aZ]; exact ave _ (by omega)
 have jo:IntKind.i64.wrap (119 - (q:Int))=(119 - q:Nat) :=by rw[wrap_i64 (by omega) (by omega)]; omega
 have F8:=Bv (119 - q) 64 (by omega);rw[show ((64:Int).toNat)=64 from rfl] at F8;obtain⟨m,hm⟩:∃ m,m=(119 - q) % 64:=⟨_,rfl⟩
 rw[<-hm] at F8;have apH:m<64:=by rw[hm]; exact ave _ (by omega)
 obtain⟨t,aI⟩:∃ t,t=119 - q:=⟨_,rfl⟩
 rw[<-aI] at jo F8;have k6:ct=140737488355328:=rfl;obtain⟨L,fJ⟩:∃ L:am,L=[a2.cells 10 (gD s (cB r) n),a2.cells 32 (rep 32 (U.int IntKind.u8 0)),a2.cells 1 [U.int IntKind.u8 128]] :=⟨_,rfl⟩
 have ac6:L[0]? = some (a2.cells 10 (gD s (cB r) n)) :=by rw[fJ]; rfl
 have ac7:L[1]? = some (a2.cells 32 (rep 32 (U.int IntKind.u8 0))) :=by rw[fJ]; rfl
 have m0:L.length=3:=by rw[fJ]; rfl
 have ae3:bJ 1 L (.au 1 2 0 1 1 1) 2 [[U.int IntKind.u8 128]] :=by
  rw[fJ];exact .au 2 1 1 1 [.int .u8 128] _ rfl rfl rfl (by simp) (att _) (att _) rfl
 have aeO:m<9223372036854775808:=by omega
 have df:(List.length [[U.int IntKind.u8 128]]+m)*1<=ct:=by rw[k6]; simp; omega
 have aeI:=ZA (n:=m) (k:=.i64) (by_:=1) (zero:=[.int .u8 0]) ae3 rfl (by omega) (by omega) aeO df;obtain⟨v,j,l,h1,ap,aj,aF,aW,bt⟩:=aeI;have aq:cD v=false:=by
  rw[avb]; intro aG;rw[i3,bt] at aG;cases aG.1
 have aJ:u 128#8=128:=by decide
 have ao:([[U.int IntKind.u8 128]]++List.replicate m [U.int IntKind.u8 0] :List (List U))=(nA n 0).map b7:=by
  have:m=(119 - n % 64) % 64:=by rw[hm,aZ]
  unfold nA;rw[<-this];simp[b7,aJ]
 rw[ao] at ap;have gw:=(aF 0 (by omega) (by omega)).trans ac6;have aQ:=(aF 1 (by omega) (by omega)).trans ac7;have jO:2<=j:=by rcases aW with h | h<;>omega
 simp[qL,wm,eX,k7,jo,F8];rw[<-fJ];simp[h1];refine cF 8 (fun k ae l=>ae 1=.ptr 0 0 10/\ae 2=.ptr 1 0 32/\ae 3=c4 (BitVec.ofNat 64 n*8#64)/\ae 5=.int .i64 (56 - 8*(k:Int))/\∃ v j,ae 4=v/\2<=j/\cD v=false/\bJ 1 l v j ((nA n k).map b7)/\l[0]? = some (a2.cells 10 (gD s (cB r) n))/\l[1]? = some (a2.cells 32 (rep 32 (U.int IntKind.u8 0)))) ?_ ?_
 ·rintro k ae l hk ⟨aL,aT,a8,bc,v,j,bu,ai,aq,ap,gw,aQ⟩;obtain⟨ae,rfl⟩:=kU aL aT a8 bu bc;clear aL aT a8 bu bc;obtain⟨c,ah⟩:∃ c:Int,c=56 - 8*(k:Int) :=⟨_,rfl⟩
  rw[<-ah];simp;by_cases hT:0<=c
  ·have zU:k<8:=by omega
   have af:=OW (BitVec.ofNat 64 n*8#64) k zU;have xF:c.toNat=56 - 8*k:=by omega
   have Af:IntKind.i64.wrap (c - 8)=56 - 8*((k:Int)+1) :=by rw[wrap_i64 (by omega) (by omega)]; omega
   have la:=HH n k;have mi:bJ 1 (l++[a2.cells 1 [bB (((BitVec.ofNat 64 n*8#64) >>> (56 - 8*k)).setWidth 8)]]) v j ((nA n k).map b7) :=ap.more _;obtain⟨aY,bX,l',h1,ad,aj,aF,aW,bt⟩:=ou (by_:=1) mi (x:=.au 1 l.length 0 1 1 1) (xs:=[[bB (((BitVec.ofNat 64 n*8#64) >>> (56 - 8*k)).setWidth 8)]]) (by simp[dp]) (by simp) (by omega) (by omega) (by simp; omega);have eO:j<l.length:=by
    rcases ap.lt with h | h
    ·subst h; simp[cD] at aq
    ·exact h
   have abd:l'[0]? = some (a2.cells 10 (gD s (cB r) n)) :=by rw[aF 0 (by simp) (by omega),ats (fc gw)]; exact gw
   have abe:l'[1]? = some (a2.cells 32 (rep 32 (U.int IntKind.u8 0))) :=by
    have:=fc aQ;rw[aF 1 (by simp; omega) (by omega),ats (fc aQ)]; exact aQ
   have hu:cD aY=false:=by rw[uq bt,aq]; rfl
   have ej:2<=bX:=by
    rcases aW with h | h
    ·omega
    ·have h:=auV (show l.length<=(l++[a2.cells 1 [bB (((BitVec.ofNat 64 n*8#64) >>> (56 - 8*k)).setWidth 8)]]).length by simp) h;omega
   simp[hT,xF,h1];refine c0.cq ?_;simp[hT,Af];exact⟨by omega,bX,ej,hu,by rw[XT n k _ af,atX]; exact ad,abd,abe⟩
  ·have tX:k=8:=by omega
   subst tX;rw[No] at ap;have zR:=RN ⟨s,r,n⟩ (some (tail n)) (by have:=HH n 8; rw[No] at this; simp; omega) (by simp) (by simp; omega);have af:=ap.nr (fun _=>rfl) (some (tail n)) (by rw[aq]; rfl) rfl;have Tw:(tJ ⟨s,r,n⟩ (some (tail n))).st=(hg s (r.l++tail n)).1:=rfl;obtain⟨F,xx⟩:∃ F,F=tJ ⟨s,r,n⟩ (some (tail n)) :=⟨_,rfl⟩
   rw[<-xx] at zR Tw;have zX:bm [qL ⟨s,r,n⟩]=true:=by simp[bm,qL,U.closed,gD,ck.l,l7]
   have ad8:zz 8 0 (qL F)=some (.aM (F.st.l.map br)) :=rfl;have nT:F.st.l.length=8:=rfl;simp[hT,gw,wm];refine Wx zR (.cons (WS ?_) (.cons af .nil)) ?_
   ·show (U.aM (gD s (cB r) n)).closed=true;simp[U.closed,bm,gD,ck.l,l7]
   simp[ad8];refine cF 8 (fun k ae l=>ae 2=.ptr 1 0 32/\ae 33=.aM (F.st.l.map br)/\ae 34=.int .i64 k/\l[1]? = some (a2.cells 32 ((qi F.st.l k).map bB))) ?_ ?_
   ·rintro k ae l hk ⟨aT,vy,vz,aQ⟩;obtain⟨ae,rfl⟩:=kq aT vy vz;clear aT vy vz;obtain⟨A4,b5,rfl⟩:=alu aQ;clear aQ;simp;by_cases hT:(k:Int)<8
    ·have eK:k<8:=by omega
     obtain⟨w,hw⟩:∃ w,F.st.l[k]? = some w:=⟨_,atu (show k<F.st.l.length from eK)⟩
     have di:=aig F.st.l k (by omega) nT;have pY:=aih F.st.l k w hw nT;have mE:IntKind.i64.wrap (4*(k:Int))=(4*k:Nat) :=by rw[wrap_i64 (by omega) (by omega)]; omega
     have bW:IntKind.i64.wrap (((4*k:Nat) :Int)+1)=(4*k+1:Nat) :=by rw[wrap_i64 (by omega) (by omega)]; omega
     have w2:IntKind.i64.wrap (((4*k:Nat) :Int)+2)=(4*k+2:Nat) :=by rw[wrap_i64 (by omega) (by omega)]; omega
     have ef:IntKind.i64.wrap (((4*k:Nat) :Int)+3)=(4*k+3:Nat) :=by rw[wrap_i64 (by omega) (by omega)]; omega
     have kt:IntKind.i64.wrap ((k:Int)+1)=k+1:=wrap_i64 (by omega) (by omega);obtain⟨a,aB⟩:∃ a,a=4*k:=⟨_,rfl⟩
     rw[<-aB] at mE bW w2 ef pY;have s0:=oa bB (qi F.st.l k) a ((w >>> 24).setWidth 8) (by omega);have c9:=oa bB ((qi F.st.l k).set a ((w >>> 24).setWidth 8)) (a+1) ((w >>> 16).setWidth 8) (by simp; omega);have hE:=oa bB (((qi F.st.l k).set a ((w >>> 24).setWidth 8)).set (a+1) ((w >>> 16).setWidth 8)) (a+2) ((w >>> 8).setWidth 8) (by simp; omega);have qk:=oa bB ((((qi F.st.l k).set a ((w >>> 24).setWidth 8)).set (a+1) ((w >>> 16).setWidth 8)).set (a+2) ((w >>> 8).setWidth 8)) (a+3) (w.setWidth 8) (by simp; omega);rw[pY] at qk;have g4:(a:Int)<32:=by omega
     have dM:((a+1:Nat) :Int)<32:=by omega
     have dy:((a+2:Nat) :Int)<32:=by omega
     have gL:((a+3:Nat) :Int)<32:=by omega
     have h5:a+1<=32:=by omega
     have ca:a+1+1<=32:=by omega
     have cy:a+2+1<=32:=by omega
     have eV:a+3+1<=32:=by omega
     have d1:(a:Int)+1<32:=by omega
     have d2:(a:Int)+2<32:=by omega
     have d3:(a:Int)+3<32:=by omega
     have f1:((a:Int)+1).toNat=a+1:=by omega
     have f2:((a:Int)+2).toNat=a+2:=by omega
     have f3:((a:Int)+3).toNat=a+3:=by omega
     have yu:(0:Int)<=(a:Int)+1:=by omega
     have n3:(0:Int)<=(a:Int)+2:=by omega
     have qe:(0:Int)<=(a:Int)+3:=by omega
     simp[hT,eK,hw,mE,bW,w2,ef,kt,g4,s0,c9,hE,qk,h5,ca,cy,eV,d1,d2,d3,f1,f2,f3,yu,n3,qe,-List.map_set]
    ·have tX:k=8:=by omega
     subst tX;have ae6:qi F.st.l 8=written F.st:=by simp[qi,written,ck.l]
     rw[ae6];have vY:(written F.st).length=32:=rfl;simp[vY,nz,atr];exact aP (by unfold fM EP; rw[Tw]) (Rb bB (fun _=>rfl) _)
   ·simp[aQ];rw[W5 .u8 8]; rfl
 ·simp;exact⟨j,jO,aq,ap,gw,aQ⟩
structure y2 (m:tk) (b:List B) :Prop where
 Iv:hg first b=(m.st,m.rest.l)
 n:m.n=b.length
theorem agw {m:tk} {b:List B} (h:y2 m b) (s:eI) :y2 (tJ m s) (b++s.l) :=by
 have h1:hg first (b++s.l)=hg m.st (m.rest.l++s.l) :=by rw[OQ,h.Iv]
 refine⟨?_,?_⟩
 ·rw[h1];unfold tJ
  dsimp only
  split
  ·rename_i ao;rw[ao]; rfl
  ·rfl
 ·unfold tJ
  dsimp only
  rw[h.n]; simp
theorem agx {m:tk} {b:List B} (h:y2 m b) :m.rest.l.length<64:=by
 have:=ZZ first b
 rw[h.Iv] at this;simp only at this;rw[this]; exact ave _ (by omega)
theorem agv {m:tk} {b:List B} (h:y2 m b) :EP m.st m.rest b.length=h2 b:=by
 unfold EP h2;rw[OQ first b,h.Iv]
def start:tk:=⟨first,none,0⟩
theorem agy:y2 start [] :=⟨rfl,rfl⟩
theorem akR:ja Tryz.prog GS 238 [] (qL start) :=by
 refine AG Tryz.checked.mixed bC ?_;apply bj Tryz.func238 [];simp;exact .flat _ rfl
def sH (s:eI) :Bool:=decide ((10000:Int)<s.l.length)
theorem ahp (s:eI) :bw Tryz.prog GS 237 [cB s] (.bool (sH s)) :=by
 refine bP Tryz.checked.mixed bC ?_;apply bj Tryz.func237 [];simp[cB];exact aP rfl rfl
theorem abY:je Tryz.prog 237=true:=by kernel_rfl
def idx (l:List eI) :Int:=match l.findIdx? sH with | some i=>(i:Int) | none=>-1
theorem af4 {l:List eI} {k:Nat} {s:eI} (al:l[k]? = some s) (ak:sH s=true) (dF:∀ j s,j<k->l[j]? = some s->sH s=false) :idx l=k:=by
 have:l.findIdx? sH=some k:=by
  rw[List.findIdx?_eq_some_iff_getElem];obtain⟨h1,rfl⟩:=atq.1 al;refine⟨h1,ak,fun j ai=>?_⟩;rw[dF j l[j] ai (atu (by omega))]; simp
 unfold idx; rw[this]
theorem UO {l:List eI} (dF:∀ j s,j<l.length->l[j]? = some s->sH s=false) :idx l=-1:=by
 have:l.findIdx? sH=none:=by
  rw[List.findIdx?_eq_none_iff];intro x af;obtain⟨j,ai⟩:=atx.1 af;exact dF j x (atq.1 ai).1 ai
 unfold idx; rw[this]
theorem Lq (ls:dR eI) (ak:ls.l.length<=1000000000) :bw Tryz.prog GS 257 [mW ls,.fn 237 [] []] (.int .i64 (idx ls.l)) :=by
 refine bP Tryz.checked.mixed bC ?_;apply bj Tryz.func257 [];have bh:cP (.au 1) (mW ls)=some (.int .i64 ls.l.length) :=qc _;simp[bh];refine cF ls.l.length (fun k ae l=>ae 0=mW ls/\ae 1=.fn 237 [] []/\ae 7=.int .i64 ls.l.length/\ae 8=.int .i64 k/\∀ j s,j<k->ls.l[j]? = some s->sH s=false) ?_ (by simp);rintro k ae l hk ⟨b8,aL,ei,eu,dF⟩;obtain⟨ae,rfl⟩:=iv b8 aL ei eu;clear b8 aL ei eu;simp;by_cases h:k<ls.l.length
 ·obtain⟨s,al,_⟩:=bA h;have cc:cj (.au 1) (mW ls) (.int .i64 k)=some (.b6 [cB s] 0) :=by
   rw[ra]; simp[al]
  have e5:IntKind.i64.wrap ((k:Int)+1)=k+1:=wrap_i64 (by omega) (by omega);simp[h,cc];refine⟨abY,bf (ahp s) (by simp[bm,l7]) ?_⟩;cases lJ:sH s with
  | true=>
   simp;rw[af4 al lJ dF];exact aP rfl rfl
  | false=>
   simp[h,e5];intro j e6 ai su;rcases auA j k with h1 | h1
   ·exact dF j e6 h1 su
   ·have:j=k:=by omega
    subst this;rw[al] at su; cases su; exact lJ
 ·simp[h];rw[UO (fun j s ai al=>dF j s (by omega) al)];exact aP rfl rfl
theorem aaP (ls:dR eI) (ak:ls.l.length<=1000000000) :bw Tryz.prog GS 236 [mW ls,.fn 237 [] []] (.bool (decide (0<=idx ls.l))) :=by
 refine bP Tryz.checked.mixed bC ?_;apply bj Tryz.func236 [];simp;refine bf (Lq ls ak) (by simp[bm,U.closed,Ra]) ?_;simp;exact aP rfl rfl
set_option maxHeartbeats 4000000 in
theorem Mn (ls:List eI) (ao3:ls.length<=20) (dF:∀ s∈ls,s.l.length<=10000) :bw Tryz.prog GS 196 [mW (some ls)] (.bG [fM (h2 (bytesOf ls)),.int .i64 0]) :=by
 have vK:idx ls=-1:=UO fun j s ai al=>by
  have:=dF s (atz al);unfold sH; simp; omega
 have bh:∀ k,(bytesOf (ls.take k)).length<=200000:=fun k=>by
  have:∀ l:List eI,(∀ s∈l,s.l.length<=10000)->(bytesOf l).length<=10000*l.length:=by
   intro l
   induction l with
   | nil=>intro _; simp[bytesOf]
   | cons s l aH=>
    intro h;have h1:=aH fun x af=>h x (by simp[af])
    have ad:=h s (by simp);unfold bytesOf at h1 ⊢;rw[atY,aup,atB,atL];omega
  have h1:=this (ls.take k) fun s al=>dF s (at0 al)
  have ad:(ls.take k).length<=20:=by simp; omega
  omega
 refine bP Tryz.checked.mixed bC ?_;apply bj Tryz.func196 [];have acF:¬(20:Int)<ls.length:=by omega
 have Tl:=aaP (some ls) (by simp; omega);rw[dR.Gy,vK] at Tl;simp[acF];refine bf Tl (by simp[bm,U.closed,Ra]) ?_;simp;refine bf akR.D0 rfl ?_;simp[qL,wm,nz];refine cF ls.length (fun k ae l=>ae 2=.ptr 0 0 32/\ae 4=.ptr 1 0 10/\ae 16=mW (some ls)/\ae 17=.int .i64 ls.length/\ae 18=.int .i64 k/\∃ m,y2 m (bytesOf (ls.take k))/\l=[.cells 32 (rep 32 (.int .u8 0)),.cells 10 (gD m.st (cB m.rest) m.n)]) ?_ ?_
 ·rintro k ae l hk ⟨aT,bu,mZ,nO,r9,m,hm,rfl⟩;obtain⟨ae,rfl⟩:=kU aT bu mZ nO r9;clear aT bu mZ nO r9;simp;have hR:(U.aM (gD m.st (cB m.rest) m.n)).closed=true:=by simp[U.closed,bm,gD,ck.l,l7]
  have ir:List.take 10 (gD m.st (cB m.rest) m.n)=gD m.st (cB m.rest) m.n:=rfl;have nW:=agx hm;have oQ:=hm.n;have h9:=bh k;by_cases h:k<ls.length
  ·obtain⟨s,al,jm⟩:=bA h;have cc:cj (.au 1) (mW (some ls)) (.int .i64 k)=some (.b6 [cB s] 0) :=by
    rw[ra]; simp[al]
   have e5:IntKind.i64.wrap ((k:Int)+1)=k+1:=wrap_i64 (by omega) (by omega);have h1:=dF s jm;have aD:=RN m s (by omega) (by omega) (by omega);have iY:=agw hm s;rw[<-bytesOf_take ls k s al] at iY;obtain⟨F,xx⟩:∃ F,F=tJ m s:=⟨_,rfl⟩
   rw[<-xx] at aD iY;simp[h,cc,wm,ir];refine bf aD.D0 ?_ ?_
   ·simp only[bm,hR,l7,avi]
   simp[qL,wm,nz,h,e5];exact⟨F,iY,rfl⟩
  ·have cI:k=ls.length:=by omega
   subst cI;rw[atW] at hm oQ h9;have ao:=abn m.st m.rest (bytesOf ls).length (by omega) (by omega);rw[agv hm] at ao;have iq:m=⟨m.st,m.rest,((bytesOf ls).length:Int)⟩:=by rw[<-oQ]
   rw[<-iq] at ao;have e4:=wL (bytesOf ls);simp[h,wm,ir];refine bf ao ?_ ?_
   ·simp only[bm,hR,avi]
   have du:((h2 (bytesOf ls)).map bB).length=32:=by rw[atU,e4]
   simp[fM,e4,nz,atr];exact aP rfl (by simp[U.closed,bm,l6 bB (fun _=>rfl)])
 ·simp[bytesOf];exact⟨start,agy,rfl⟩
theorem XP (s:eI) (h:s.l.length<=10000) :bw Tryz.prog GS 145 [cB s] (.bG [fM (h2 s.l),.int .i64 0]) :=by
 have ag:bytesOf [s]=s.l:=by simp[bytesOf]
 have ay:=Mn [s] (by simp) (by simpa using h);rw[ag] at ay;refine bP Tryz.checked.mixed bC ?_;apply bj Tryz.func145 [];have e4:=wL s.l;simp;refine ie ay (.cons ?_ .nil) (by simp[U.flat,lz,fM,zx bB (fun _=>rfl)]) ?_
 ·exact DH (es:=[[cB s]]) (rest:=[]) rfl rfl (by simp) (by simp[bm,l7])
 simp[fM,e4,nz,atr];exact aP rfl (by simp[U.closed,bm,l6 bB (fun _=>rfl)])
theorem tc (x:W) (n:Nat) (aE:0<n) (h:n<32) :bw Tryz.prog GS 226 [br x,.int .i64 n] (br (nv x n)) :=by
 refine bP Tryz.checked.mixed bC ?_;apply bj Tryz.func226 [];have hw:IntKind.i64.wrap (32 - (n:Int))=(32 - n:Nat) :=by rw[wrap_i64 (by omega) (by omega)]; omega
 obtain⟨m,hm⟩:∃ m,m=32 - n:=⟨_,rfl⟩
 rw[<-hm] at hw;simp[hw];exact aP (by unfold nv; rw[hm]) rfl
def eF (x:W) :List U:=[br x]
set_option maxHeartbeats 4000000 in
theorem aaO:ja Tryz.prog GS 227 [] (cK 1 eF (some bN)) :=by
 refine AG Tryz.checked.mixed bC ?_;apply bj Tryz.func227 [];simp;exact WV (z:=1) (es:=bN.map eF) (rest:=[]) (by kernel_rfl) (by kernel_rfl) (fun e ao=>by obtain⟨y,_,rfl⟩:=atV.1 ao; rfl) (fun e ao=>by obtain⟨y,_,rfl⟩:=atV.1 ao; rfl)
theorem abU:bw Tryz.prog GS 125 [] (.aM (first.l.map br)) :=by
 refine bP Tryz.checked.mixed bC ?_;apply bj Tryz.func125 [];simp;exact aP rfl rfl
theorem amx (b:List B) (t:Nat) (g4 dM dy gL:B) (aE:b[4*t]? = some g4) (h1:b[4*t+1]? = some dM) (ad:b[4*t+2]? = some dy) (aj:b[4*t+3]? = some gL) :
  pi ((b.drop (4*t)).take 4)=((g4.setWidth 32*256#32+dM.setWidth 32)*256#32+dy.setWidth 32)*256#32+gL.setWidth 32:=by
 have h:(b.drop (4*t)).take 4=[g4,dM,dy,gL] :=by
  have ak:=(atq.1 aj).1;apply auk;intro i
  match i with
  | 0=>simp[aE]
  | 1=>simp[h1]
  | 2=>simp[ad]
  | 3=>simp[aj]
  | i+4=>rw[atG (by simp; omega),atG (by simp)]
 rw[h];show ((((0#32 <<< 8 ||| g4.setWidth 32) <<< 8 ||| dM.setWidth 32) <<< 8 ||| dy.setWidth 32) <<< 8 ||| gL.setWidth 32)=_;rw[Hz,Hz,Hz,Hz];simp
end gh

end Go.b2

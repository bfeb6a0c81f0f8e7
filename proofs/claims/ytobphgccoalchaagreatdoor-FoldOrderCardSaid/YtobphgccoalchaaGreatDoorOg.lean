/-
  The canonical machine: appending to a slice of one's own, with a frame for nil; a set's frames.
-/
import Derived.Test.YtobphgccoalchaaGreatDoorOf
import Derived.Lib.AppendZerosOnto
import Derived.ProofKit
import Derived.Test.YtobphgccoalchaaGreatDoorRows
set_option linter.unusedVariables false
set_option linter.unusedSimpArgs false
set_option linter.unnecessarySimpa false
namespace Go.cb
open Go
section
variable {P:Program} {l:ao} {aB:Operand->U}
@[simp ↓] theorem asx:bQ P aB l (.uV none)=some (.mp l.length,l++[.map [] 0]) :=id rfl
@[simp ↓] theorem ass (cU:TypeId) (zero:U) (ok:Bool) (m k:Operand) :bQ P aB l (.yR cU zero ok m k)=dI l (wN P l cU zero ok (aB m) (aB k)) :=id rfl
@[simp ↓] theorem asz (cU:TypeId) (m k x:Operand) :bQ P aB l (.wR cU m k x)=(s9 P l cU (aB m) (aB k) (aB x)).map fun l'=>(hv,l') :=id rfl
@[simp ↓] theorem asr (x:Operand) :bQ P aB l (.wK x)=dI l (DJ l (aB x)) :=id rfl
@[simp ↓] theorem asE (x:Operand) :bQ P aB l (.w8 x)=Bb l (aB x) :=id rfl
@[simp ↓] theorem asC (x:Operand) :bQ P aB l (.wT x)=uX l (aB x) :=id rfl
@[simp ↓] theorem arF (x:Option Operand) (v:U) (K:U->ao->Prop) :eI (.uV x) v l K=K v l:=id rfl
@[simp ↓] theorem arA (cU:TypeId) (zero:U) (ok:Bool) (m k:Operand) (v:U) (K:U->ao->Prop) :eI (.yR cU zero ok m k) v l K=K v l:=id rfl
@[simp ↓] theorem arH (cU:TypeId) (m k x:Operand) (v:U) (K:U->ao->Prop) :eI (.wR cU m k x) v l K=K v l:=id rfl
@[simp ↓] theorem arz (x:Operand) (v:U) (K:U->ao->Prop) :eI (.wK x) v l K=K v l:=id rfl
@[simp ↓] theorem arM (x:Operand) (v:U) (K:U->ao->Prop) :eI (.w8 x) v l K=K v l:=id rfl
@[simp ↓] theorem arK (x:Operand) (v:U) (K:U->ao->Prop) :eI (.wT x) v l K=K v l:=id rfl
end

section
variable {z:Nat} {l l' : ao} {v:U} {j:Nat} {es:List (List U)}
theorem O4 (h:bG z l v j es) {by_:Nat} {x:U} {xs:List (List U)} (af:dM l z x=some (xs.flatten,xs.length)) (lO:∀ e∈xs,e.length=z) (aE:z≠0) (ep:by_≠0) (dN:(es.length+xs.length)*by_<=cK) :
  ∃ aY bM l',iP l z by_ v x=some (aY,l')/\bG z l' aY bM (es++xs)/\l.length<=l'.length/\(∀ b,b<l.length->v=.aW\/b≠j->l'[b]? = l[b]?)/\(l.length<=bM\/(v≠.aW/\bM=j)\/aY=.aW)/\cx aY=(cx v&&xs.isEmpty) :=by
 by_cases aq:v=.aW
 ·subst aq;have am:es=[] :=h.q.tc;subst am;obtain⟨aY,bM,l1,h1,ad,aj,aF,aU,bt⟩:=oP (.nil (z:=z) (l:=l) (l.length+1)) af lO aE ep dN;refine⟨aY,bM,l1,h1,ad,aj,fun b ag _=>aF b ag (by omega),?_,uL bt⟩;rcases aU with aU | aU
  ·exact .inl (by omega)
  ·exact .inl aU
 ·obtain⟨aY,bM,l1,h1,ad,aj,aF,aU,bt⟩:=oP h af lO aE ep dN;refine⟨aY,bM,l1,h1,ad,aj,fun b ag aC=>aF b ag (aC.resolve_left aq),?_,uL bt⟩;rcases aU with aU | aU
  ·exact .inr (.inl ⟨aq,aU⟩)
  ·exact .inl aU
theorem bG.cy (h:bG z l v j es) (aD:∀ b,b<l.length->b=j->l'[b]? = l[b]?) :bG z l' v j es:=h.frame fun ai=>aD j ai rfl
end
inductive l2 where
 | b
 | i (k:IntKind)
 | s
def Ew:l2->U->Bool
 | .b,.bool _=>true
 | .i k,.int k' _=>decide (k=k')
 | .s,.str _=>true
 | _,_=>false
def hT:List l2->List U->Bool
 | [],[]=>true
 | k::bP,c::cs=>Ew k c&&hT bP cs
 | _,_=>false
theorem DT:∀ {bP:List l2} {cs:List U},hT bP cs=true->cs.length=bP.length
 | [],[],_=>rfl
 | [],_::_,h=>by cases h
 | _::_,[],h=>by cases h
 | k::bP,c::cs,h=>by simp only[hT,atY] at h; simp[DT h.2]
theorem DU:∀ {l r:List l2} {m:List U},hT (l++r) m=true->∃ kL ki,m=kL++ki/\hT l kL=true/\hT r ki=true
 | [],r,m,h=>⟨[],m,rfl,rfl,h⟩
 | k::l,r,[],h=>by cases h
 | k::l,r,c::m,h=>by
  simp only[au5,hT,atY] at h;obtain⟨kL,ki,rfl,h1,ad⟩:=DU h.2;exact⟨c::kL,ki,rfl,by simp[hT,h.1,h1],ad⟩
theorem Wz {k:IntKind} {xs:List U} (h:hT [.i k] xs=true) :∃ p,xs=[.int k p] :=by
 cases xs with
 | nil=>cases h
 | cons c r=>
  simp only[hT,atY] at h;cases r with
  | cons _ _=>cases h.2
  | nil=>
   cases c<;>simp only[Ew] at h<;>try (cases h.1; done)
   rename_i k' p;have hk:k=k':=by simpa using h.1
   subst hk;exact⟨p,rfl⟩
theorem I4:∀ {jH ln lm m9:List U},jH.length=ln.length->fu (jH++lm) (ln++m9)=(fu jH ln&&fu lm m9)
 | [],[],_,_,_=>by simp[fu]
 | [],_::_,_,_,h=>by simp at h
 | _::_,[],_,_,h=>by simp at h
 | a::jH,b::ln,lm,m9,h=>by
  simp only[auf,Nat.add_right_cancel_iff] at h;simp only[au5,fu,I4 h,Bool.and_assoc]
section
variable (P:Program)
def Ha (f:TypeId->Option (List l2)) :List Field->Nat->Option (List l2)
 | [],_=>some []
 | fd::fs,o=>match f fd.type,cB P fd.type with
  | some l,some z=>match fd.name != "_"&&Nat.beq fd.offset o&&Nat.beq l.length z with
   | true=>match Ha f fs (o+z) with
    | some r=>some (l++r)
    | none=>none
   | false=>none
  | _,_=>none
def rL:Nat->TypeId->Option (List l2)
 | 0,_=>none
 | d+1,t=>match P.underlying t with
  | some .bool=>some [.b]
  | some (.int k)=>some [.i k]
  | some .string=>some [.s]
  | some (.array n e)=>match rL d e,cB P e with
   | some l,some z=>match Nat.beq l.length z with
    | true=>some (List.replicate n l).flatten
    | false=>none
   | _,_=>none
  | some (.struct fs)=>match P.stoodInHeld t with
   | false=>Ha P (rL d) fs.toList 0
   | true=>none
  | _=>none
def kV (t:TypeId) (l:List U) :Option U:=match eo P t with
 | some true=>some (.aJ l)
 | some false=>l[0]?
 | none=>none
end
variable {P:Program}
theorem HG {t:TypeId} {z:Nat} (aw:cB P t=some z) {pre mid post:List U} (hm:mid.length=z) (ar:eo P t=some false->mid.length=1) :hU P t (pre++(mid++post)) pre.length=kV P t mid:=by
 unfold hU kV;rw[aw];cases ax:eo P t with
 | none=>rfl
 | some g=>
  cases g with
  | true=>
   simp only;rw[if_pos (by simp; omega),List.drop_left,auj (by omega),atT (by omega)]
  | false=>
   have:=ar ax;simp only;rw[at8 (by omega),avY,atV (by omega)]
def EqAt (P:Program) (f:TypeId->Option (List l2)) (eq:TypeId->U->U->Option Bool) :Prop:=
 ∀ t bP,f t=some bP->(eo P t=some false->bP.length=1)/\∀ xs bc,hT bP xs=true->hT bP bc=true->∃ a b,kV P t xs=some a/\kV P t bc=some b/\eq t a b=some (fu xs bc)
theorem Si {f:TypeId->Option (List l2)} {eq:TypeId->U->U->Option Bool} (am:EqAt P f eq) :∀ (fs:List Field) (o:Nat) (bP:List l2),Ha P f fs o=some bP->∀ (pv pw cO pn:List U),pv.length=o->pw.length=o->hT bP cO=true->hT bP pn=true->
  eP.eqFields P eq (pv++cO) (pw++pn) fs=some (fu cO pn)
 | [],o,bP,h,pv,pw,cO,pn,af,aA,rM,uN=>by
  cases h;cases cO with
  | nil=>cases pn with | nil=>rfl | cons _ _=>cases uN
  | cons _ _=>cases rM
 | fd::fs,o,bP,h,pv,pw,cO,pn,af,aA,rM,uN=>by
  unfold Ha at h;split at h
  ·rename_i l z al aw;split at h
   ·rename_i ah;simp only[atY,bne_iff_ne,ne_eq] at ah;split at h
    ·rename_i r az;cases h;obtain⟨jH,lm,rfl,aX,a6⟩:=DU rM;obtain⟨ln,m9,rfl,dW,dB⟩:=DU uN;have ap:fd.offset=o:=auP ah.1.2;have Gw:l.length=z:=auP ah.2;obtain⟨aM,aT⟩:=am _ _ al;obtain⟨a,b,p1,ob,uc⟩:=aT jH ln aX dW;have Mu:=DT aX;have Mv:=DT dW;unfold eP.eqFields;rw[if_neg ah.1.1,ap];rw[show hU P fd.type (pv++(jH++lm)) o=some a by rw[<-af,HG aw (by omega) (fun h=>by rw[Mu]; exact aM h)]; exact p1];rw[show hU P fd.type (pw++(ln++m9)) o=some b by rw[<-aA,HG aw (by omega) (fun h=>by rw[Mv]; exact aM h)]; exact ob];simp only[uc];rw[I4 (by omega)];have aI:=Si am fs (o+z) r az (pv++jH) (pw++ln) lm m9 (by simp; omega) (by simp; omega) a6 dB;rw[aut,aut] at aI;cases fu jH ln with
     | true=>simpa using aI
     | false=>simp
    ·cases h
   ·cases h
  ·cases h
theorem Sh {eq:TypeId->U->U->Option Bool} {e:TypeId} {l:List l2} {z:Nat} (aw:cB P e=some z) (Gw:l.length=z) (ar:eo P e=some false->l.length=1)
  (am:∀ xs bc,hT l xs=true->hT l bc=true->∃ a b,kV P e xs=some a/\kV P e bc=some b/\eq e a b=some (fu xs bc)) :∀ (n i:Nat) (pv pw cO pn:List U),pv.length=i*z->pw.length=i*z->hT (List.replicate n l).flatten cO=true->hT (List.replicate n l).flatten pn=true->
  eP.sw P eq e z (pv++cO) (pw++pn) n i=some (fu cO pn)
 | 0,i,pv,pw,cO,pn,af,aA,rM,uN=>by
  simp only[List.replicate_zero,List.flatten_nil] at rM uN;cases cO with
  | nil=>cases pn with | nil=>rfl | cons _ _=>cases uN
  | cons _ _=>cases rM
 | n+1,i,pv,pw,cO,pn,af,aA,rM,uN=>by
  rw[auY,auW] at rM uN;obtain⟨jH,lm,rfl,aX,a6⟩:=DU rM;obtain⟨ln,m9,rfl,dW,dB⟩:=DU uN;obtain⟨a,b,p1,ob,uc⟩:=am jH ln aX dW;have Mu:=DT aX;have Mv:=DT dW;unfold eP.sw;rw[show hU P e (pv++(jH++lm)) (i*z)=some a by rw[<-af,HG aw (by omega) (fun h=>by rw[Mu]; exact ar h)]; exact p1];rw[show hU P e (pw++(ln++m9)) (i*z)=some b by rw[<-aA,HG aw (by omega) (fun h=>by rw[Mv]; exact ar h)]; exact ob];simp only[uc];rw[I4 (by omega)];have aI:=Sh aw Gw ar am n (i+1) (pv++jH) (pw++ln) lm m9 (by simp[auI]; omega) (by simp[auI]; omega) a6 dB;rw[aut,aut] at aI;cases fu jH ln with
  | true=>simpa using aI
  | false=>simp
theorem Fx:∀ (d D:Nat),d<=D->EqAt P (rL P d) (eP P D)
 | 0,D,_,t,bP,h=>by cases h
 | d+1,0,bH,t,bP,h=>by omega
 | d+1,D+1,bH,t,bP,h=>by
  have aI:=Fx d D (by omega);unfold rL at h;split at h
  ·rename_i aL;have ax:eo P t=some false:=by unfold eo; rw[aL]; rfl
   cases h;refine⟨fun _=>rfl,fun xs bc af aA=>?_⟩
   match xs,bc,af,aA with
   | [.bool p],[.bool q],_,_=>
    refine⟨.bool p,.bool q,by simp[kV,ax],by simp[kV,ax],?_⟩;unfold eP; rw[aL];cases p<;>cases q<;>rfl
  ·rename_i k aL;have ax:eo P t=some false:=by unfold eo; rw[aL]; rfl
   cases h;refine⟨fun _=>rfl,fun xs bc af aA=>?_⟩;obtain⟨p,rfl⟩:=Wz af;obtain⟨q,rfl⟩:=Wz aA
   ·refine⟨.int k p,.int k q,by simp[kV,ax],by simp[kV,ax],?_⟩;unfold eP; rw[aL];by_cases h:p=q<;>simp[fu,U.beq,h]
  ·rename_i aL;have ax:eo P t=some false:=by unfold eo; rw[aL]; rfl
   cases h;refine⟨fun _=>rfl,fun xs bc af aA=>?_⟩
   match xs,bc,af,aA with
   | [.str p],[.str q],_,_=>
    refine⟨.str p,.str q,by simp[kV,ax],by simp[kV,ax],?_⟩;unfold eP; rw[aL];by_cases h:p=q<;>simp[fu,U.beq,h]
  ·rename_i n e aL;have ax:eo P t=some true:=by unfold eo; rw[aL]; rfl
   split at h
   ·rename_i l z al aw;split at h
    ·rename_i Gw;cases h;obtain⟨aM,aT⟩:=aI _ _ al;refine⟨fun h=>(by rw[ax] at h; cases h),fun xs bc af aA=>⟨.aJ xs,.aJ bc,by simp[kV,ax],by simp[kV,ax],?_⟩⟩;unfold eP; rw[aL];simp only[aw];exact Sh aw (auP Gw) aM aT n 0 [] [] xs bc (by simp) (by simp) af aA
    ·cases h
   ·cases h
  ·rename_i fs aL;have ax:eo P t=some true:=by unfold eo; rw[aL]; rfl
   split at h
   ·rename_i ak;refine⟨fun h=>(by rw[ax] at h; cases h),fun xs bc af aA=>⟨.aJ xs,.aJ bc,by simp[kV,ax],by simp[kV,ax],?_⟩⟩;unfold eP; rw[aL];simp only[ak,avg,if_false];exact Si aI fs.toList 0 bP h [] [] xs bc rfl rfl af aA
   ·cases h
  ·cases h
theorem I6 {t:TypeId} {bP:List l2} (hk:rL P 20 t=some bP) (ax:eo P t=some true) (ar:P.eqGuardType P.depth t=false) {xs bc:List U} (af:hT bP xs=true) (aA:hT bP bc=true) :gv P .eql t (.aJ xs) (.aJ bc)=some (.bool (fu xs bc)) :=by
 obtain⟨a,b,p1,ob,uc⟩:=(Fx (P:=P) 20 10000 (by omega) t bP hk).2 xs bc af aA;simp only[kV,ax,Option.some.injEq] at p1 ob;subst p1; subst ob;exact aaF ar uc
theorem E4 {t:TypeId} {bP:List l2} (hk:rL P 20 t=some bP) (ax:eo P t=some true) (ar:P.eqGuardType P.depth t=false) {xs bc:List U} (af:hT bP xs=true) (aA:hT bP bc=true) :gv P .neq t (.aJ xs) (.aJ bc)=some (.bool (!fu xs bc)) :=by
 obtain⟨a,b,p1,ob,uc⟩:=(Fx (P:=P) 20 10000 (by omega) t bP hk).2 xs bc af aA;simp only[kV,ax,Option.some.injEq] at p1 ob;subst p1; subst ob;exact aaG ar uc
end Go.cb

namespace Go.cb
open Go Go.Proofs Go.Shelf
structure BF (P:Program) (f:FuncId) (T I e z:Nat) :Prop where
 zh:P.underlying T=some (.slice e)
 amo:P.underlying I=some (.int .i64)
 fin:∀ (base:Option Addr) (n c eF fl gZ:Nat) (r:Value) (w w' : World),n<=c->n<=4611686018427387904->(base=none->n=0/\c=0)->
  (Builtin.append_ #[T,T] T #[.slice base n c,.slice (some ⟨fl,gZ,none⟩) 1 eF]).run P w=.ok r w'->
  Calls P f #[.slice base n c,.int .i64 n,.slice (some ⟨fl,gZ,none⟩) 1 eF] w fun x w2=>x=.returned r/\w2=w'
 shift:∀ (b off n c i fl gZ eF:Nat) (b6 bJ:Value) (w je hx:World) (zd fr:TypeId) (qz s6:Nat),i<n->n+1<=c->n<=4611686018427387904->fl≠b->
  w.shape? fl=some (zd,qz)->w.shape? b=some (fr,s6)->s6≠0->w.frozen? ⟨fl,gZ,none⟩=false->w.frozen? ⟨fl,qz,none⟩=false->
  (Builtin.copy_ #[T,T] I #[.slice (some ⟨b,off+(i+1)*z,none⟩) (n - i) (c - (i+1)),.slice (some ⟨b,off+i*z,none⟩) (n+1 - i) (c - i)]).run P w.drew=.ok b6 je->
  (Builtin.copy_ #[T,T] I #[.slice (some ⟨b,off+i*z,none⟩) (n+1 - i) (c - i),.slice (some ⟨fl,gZ,none⟩) 1 eF]).run P je=.ok bJ hx->
  Calls P f #[.slice (some ⟨b,off,none⟩) n c,.int .i64 i,.slice (some ⟨fl,gZ,none⟩) 1 eF] w fun x w2=>x=.returned (.slice (some ⟨b,off,none⟩) (n+1) c)/\w2=hx
 grow:∀ (b off n c i fl gZ eF N G:Nat) (b6 bJ:Value) (w vt je hx:World),i<n->n<=c->c<n+1->n+1<=G->n<=4611686018427387904->
  (Builtin.append_ #[T,I] T #[.slice (some ⟨b,off,none⟩) i c,.int .i64 ((n:Int)+1 - (i:Int))]).run P w=.ok (.slice (some ⟨N,0,none⟩) (n+1) G) vt->
  (Builtin.copy_ #[T,T] I #[.slice (some ⟨N,i*z,none⟩) (n+1 - i) (G - i),.slice (some ⟨fl,gZ,none⟩) 1 eF]).run P vt=.ok b6 je->
  (Builtin.copy_ #[T,T] I #[.slice (some ⟨N,(i+1)*z,none⟩) (n - i) (G - (i+1)),.slice (some ⟨b,off+i*z,none⟩) (n - i) (c - i)]).run P je.drew=.ok bJ hx->
  Calls P f #[.slice (some ⟨b,off,none⟩) n c,.int .i64 i,.slice (some ⟨fl,gZ,none⟩) 1 eF] w fun x w2=>x=.returned (.slice (some ⟨N,0,none⟩) (n+1) G)/\w2=hx
section
variable {P:Program} {G:Nat->U} {R:Nat->Prop} {B:Nat} {w:World} {h:aO} {μ:cP}
theorem Hc (rel:b9 R B w h μ) {b sz o n:Nat} {cs:List U} {m:M} (ag:h.f b=.cells sz cs) (hm:μ b=some m) (dQ:o+n<=sz) :
  ∃ vs:List Value,tN w R h μ ((cs.drop o).take n) vs/\(loadCells ⟨m.r,m.s+o,none⟩ n).run P w=.ok vs.toArray w:=by
 have eR:=rel.blk b m hm;rw[ag] at eR;obtain⟨eb,er,arr,e,gh,az,ce,mg,jl⟩:=eR;have bl:((cs.drop o).take n).length=n:=by rw[aue,au4]; omega
 obtain⟨vs,cE,al⟩:=NE (P:=P) (w:=w) (R:=R) (h:=h) (μ:=μ) (w2:=w) (xs:=(cs.drop o).take n) (blk:=m.r) (o:=m.s+o) (fun _=>rfl) (fun j c ai=>by
  have aN:j<n:=by have:=(atU.1 ai).1; omega
  rw[aum aN,auC] at ai;obtain⟨v,h1,ad,aj⟩:=jl (o+j) c ai;refine⟨v,?_,ad,aj⟩;simp only[World.cell?,az,avR];rw[avx];exact h1)
 refine⟨vs,cE,?_⟩;have:=al n (by omega) w (fun _=>rfl)
 rwa [atT (by rw[cE.1,bl]; exact atW _)] at this
theorem Fm (rel:b9 R B w h μ) {t u ty e z:Nat} (kC:P.underlying t=some (.slice e)) (aw:cB P e=some z) {b sz k:Nat} {cs:List U} {m:M} (ag:h.f b=.cells sz cs) (hm:μ b=some m) (hk:k<=sz)
  {dLen dc sLen sc cnt:Nat} {a:Addr} {xs:List U} {vs:List Value} (Af:Nat.min sLen dLen=cnt) (bf:xs.length=cnt*z) (afx:(loadCells a (cnt*z)).run P w=.ok vs.toArray w)
  (cE:tN w R h μ xs vs) (er:m.s+max sz (k+cnt*z)<=m.T) :
  ∃ w',(Builtin.copy_ #[t,u] ty #[.slice (some ⟨m.r,m.s+k,none⟩) dLen dc,.slice (some a) sLen sc]).run P w=.ok (goInt cnt) w' ∧
   dL w h μ w' (h.set b (.cells (max sz (k+cnt*z)) (bu cs k xs))) μ/\b9 R B w' (h.set b (.cells (max sz (k+cnt*z)) (bu cs k xs))) μ:=by
 obtain⟨w',h1,ad,aj⟩:=zk (P:=P) rel (cvs:=xs) (vs:=vs) (k:=k) ag hm hk cE.1 (by rw[bf]; exact er) cE.2;rw[bf] at ad aj;refine⟨w',?_,ad,aj⟩;simp[Builtin.copy_,cA kC,Builtin.lenOf,Builtin.firstCells,fG aw,Af,afx,h1]
theorem XN {b1:World} {h1:aO} {hc:cP} (qH:b9 R B b1 h1 hc) (ex:dL w h μ b1 h1 hc) {b z n nc ns:Nat} {row:List U} {v:Value} (aD:h1.f=bO h.f b (.cells ns row)) (aC:h1.n=h.n) (sR:ns=nc*z) (aE:0<n) (o4:b<h.n)
  (aq:aP b1 R h1 hc (.au z b 0 n nc ns) v) :
  ∃ μ',dL w h μ b1 ((h.set b .dead).push (.cells ns row)) μ'/\b9 R B b1 ((h.set b .dead).push (.cells ns row)) μ'/\aP b1 R ((h.set b .dead).push (.cells ns row)) μ' (.au z h.n 0 n nc ns) v:=by
 have gM:h1.f b=.cells ns row:=by rw[aD,j7]
 cases aq with
 | gH _ _ _ _ _ _ _ _ _ _ ar=>
  exfalso;rcases ar with ar | ⟨g6,cs',ar,aN⟩
  ·rw[gM] at ar; cases ar
  ·rw[gM] at ar; cases ar; omega
 | hV=>omega
 | au _ _ _ _ _ _ cap' n9 m k1 hm al ap dp=>
  have qu:=qH.XM (b:=b) (off:=0) (m:=m) (h':=(h.set b .dead).push (.cells ns row)) gM hm (au7 _) (by
   rw[ev,dV,e3,aD,aC];funext x;simp only[bO,aww,au3];by_cases ad:x=h.n
   ·rw[if_pos ad,if_pos ad]
   ·rw[if_neg ad,if_neg ad];split<;>rfl) (by rw[fB,e3,aC])
  refine⟨_,ex.trans qu.1,qu.2,?_⟩;rw[aC];exact .au z h.n 0 n nc ns cap' row ⟨m.r,m.s+0,m.T⟩ (by rw[ev,e3,j7]) (by simp) al ap (by
   rcases dp with dp | ⟨sL,ka,Ae⟩
   ·omega
   ·exact .inr ⟨sL,ka,by simpa using Ae⟩)
theorem Pm (w:World) :RowKit.Below w.heap.size w w.drew:=⟨rfl,rfl,rfl,atW _,fun _ _=>rfl⟩
theorem ahk {z i len:Nat} {cs vs:List U} (ju:vs.length=z) (av:i<len) (al:len*z<=cs.length) :
  bu (bu cs ((i+1)*z) ((cs.drop (i*z)).take ((len - i)*z))) (i*z) vs=lP z cs vs i len:=by
 have h1:(i+1)*z=i*z+z:=by rw[auI]
 have ad:(i+1)*z<=len*z:=at2 _ av;have aj:i*z+(len - i)*z=len*z:=by rw[<-auN]; congr 1; omega
 have aF:(len+1)*z=len*z+z:=by rw[auI]
 have jk:((cs.drop (i*z)).take ((len - i)*z)).length=(len - i)*z:=by rw[aue,au4]; omega
 have cL:(cs.take ((i+1)*z)).length=i*z+z:=by rw[aue]; omega
 unfold lP bu;rw[jk,ju];have aQ:(i+1)*z+(len - i)*z=(len+1)*z:=by omega
 rw[aQ,aut (cs.take ((i+1)*z)),auj (by rw[cL]; omega),avj,show min (i*z) ((i+1)*z)=i*z by omega];rw[show i*z+z=(cs.take ((i+1)*z)).length by rw[cL],List.drop_left];simp only[aut]
theorem ahh {z i len:Nat} {cs vs:List U} (ju:vs.length=z) (av:i<len) (al:len*z=cs.length) :
  bu (bu (cs.take (i*z)) (i*z) vs) ((i+1)*z) ((cs.drop (i*z)).take ((len - i)*z))=lP z cs vs i len:=by
 have h1:(i+1)*z=i*z+z:=by rw[auI]
 have ad:(i+1)*z<=len*z:=at2 _ av;have aj:i*z+(len - i)*z=len*z:=by rw[<-auN]; congr 1; omega
 have aF:(len+1)*z=len*z+z:=by rw[auI]
 have cL:(cs.take (i*z)).length=i*z:=by rw[aue]; omega
 have hM:bu (cs.take (i*z)) (i*z) vs=cs.take (i*z)++vs:=by
  unfold bu;rw[auB (by rw[cL]; omega),auu,atT (by rw[cL]; exact atW _)]
 rw[hM];unfold lP bu;have aQ:(cs.take (i*z)++vs).take ((i+1)*z)=cs.take (i*z)++vs:=atT (by rw[at4,cL,ju]; omega);have bF:∀ k,(cs.take (i*z)++vs).drop ((i+1)*z+k)=[] :=fun k=>auB (by rw[at4,cL,ju]; omega)
 have dn:cs.drop ((len+1)*z)=[] :=auB (by omega);rw[aQ,bF,dn]
theorem air (a b z:Nat) :max a b*z=max (a*z) (b*z) :=by
 rcases Nat.le_total a b with h | h
 ·rw[av3 h,av3 (at2 _ h)]
 ·rw[aw6 h,aw6 (at2 _ h)]
theorem ahc {T e z by_:Nat} (ce:iD P T=some e) (aw:cB P e=some z) (ep:iQ P e=some by_) (qo:0<z) (x8:0<by_) (hO:tD P e=some z)
  {b bv len cap:Nat} {cs vs:List U} (ag:h.f b=.cells (cap*z) cs) (eb:cs.length=cap*z) (h3:h.f bv=.cells z vs) (ju:vs.length=z) (mi:len<=cap) (dN:(len+1)*by_<=cK) :
  sm P h T (.au z b 0 len cap (cap*z)) (.au z bv 0 1 1 z)=some (.au z b 0 (len+1) (max cap (len+1)) (max cap (len+1)*z),h.set b (.cells (max cap (len+1)*z) (lP z cs vs len len))) :=by
 have aF:(len+1)*z=len*z+z:=by rw[auI]
 have dR:len*z<=cap*z:=at2 _ mi;have cE:lP z cs vs len len=cs.take (len*z)++vs++cs.drop ((len+1)*z) :=by simp[lP]
 have mo:(vs.drop 0).take (1*z)=vs:=by rw[au3,awm,atT (by omega)]
 unfold sm;rw[ce];simp only[aw,ep,contents,h3,and_self,if_true,mo];unfold vy;rw[if_neg (by omega),if_neg (by rw[hO]; simp; omega)];simp only[ag,true_and,dN,if_true];by_cases aD:len+1<=cap
 ·have Ux:(len+1)*z<=cap*z:=at2 _ aD;rw[if_pos aD,aw6 aD,cE];simp only[bu,avi,ju,<-aF]
 ·obtain rfl:len=cap:=by omega
  rw[if_neg aD,if_neg (by omega),av3 (by omega),cE,auB (by omega),auu]
theorem Mb {f T I e z by_:Nat} (L:BF P f T I e z) (ce:iD P T=some e) (aw:cB P e=some z) (ep:iQ P e=some by_) (qo:0<z) (x8:0<by_) (hO:tD P e=some z)
  {b bv len cap i:Nat} {cs vs:List U} (ag:h.f b=.cells (cap*z) cs) (h3:h.f bv=.cells z vs) (bz:bv≠b) (av:i<=len) (mi:len<=cap) (dN:(len+1)*by_<=cK) :
  sd P G f [.au z b 0 len cap (cap*z),.int .i64 i,.au z bv 0 1 1 z] h (.au z h.n 0 (len+1) (max cap (len+1)) (max cap (len+1)*z)) ((h.set b .dead).push (.cells (max cap (len+1)*z) (lP z cs vs i len))) :=by
 intro R B w μ ey rel FI al aq;obtain⟨oG⟩:=ey
 match oG,al with
 | [v0,e8,dF],_=>
 have iH:=aq 0 _ v0 rfl rfl;have mo:=aq 1 _ e8 rfl rfl;have qy:=aq 2 _ dF rfl rfl;have LL:=qy;cases mo;have oY:len<=4611686018427387904:=by
  have:=Nat.le_mul_of_pos_right (len+1) x8;unfold cK at dN;omega
 have Lg:AZ P T:=⟨_,L.zh,fun k hk=>by cases hk⟩
 have jO:=air cap (len+1) z;have aF:(len+1)*z=len*z+z:=by rw[auI]
 have dR:len*z<=cap*z:=at2 _ mi;cases qy with
 | gH _ _ _ _ _ _ _ _ _ _ ar=>
  exfalso;rcases ar with ar | ⟨g6,cs',ar,aN⟩
  ·rw[h3] at ar; cases ar
  ·rw[h3] at ar; cases ar; omega
 | au _ _ _ _ _ _ eF amA gd aer yp lC Da iW=>
 have CS:=rel.blk bv gd yp;rw[h3] at CS;obtain⟨ju,apW,Pe,c2,apv,LD,apI,T6,apR⟩:=CS;by_cases c7:i=len
 ·subst c7;have afE:∃ a cap',v0=.slice (some a) i cap'/\i<=cap'/\cs.length=cap*z/\b<h.n:=by
   cases iH with
   | gH _ _ _ _ _ _ _ _ _ _ ar=>
    exfalso;rcases ar with ar | ⟨g6,cs',ar,aN⟩
    ·rw[ag] at ar; cases ar
    ·rw[ag] at ar; cases ar; omega
   | hV _ _ _ _ a n9 m k1 hm=>
    have eR:=rel.blk b m hm;rw[ag] at eR;exact⟨a,0,rfl,atW _,eR.1,rel.so hm⟩
   | au _ _ _ _ _ _ cap' n9 m k1 hm al ap dp=>
    have eR:=rel.blk b m hm;rw[ag] at eR;exact⟨_,cap',rfl,by omega,eR.1,rel.so hm⟩
  obtain⟨a,cap',rfl,Gt,eb,o4⟩:=afE;obtain⟨v,b1,hc,ho,qf,LB,uG⟩:=IY (P:=P) (ty:=T) (u:=T) rel Lg (ahc (P:=P) ce aw ep qo x8 hO ag eb h3 ju mi dN) iH LL;refine (L.fin (some a) i cap' eF gd.r (gd.s+0) v w b1 Gt oY (fun h=>by cases h) ho).mono ?_;rintro x w2 ⟨rfl,rfl⟩;obtain⟨μ',h1,ad,aj⟩:=XN (h:=h) LB qf (b:=b) (row:=lP z cs vs i i) (ns:=max cap (i+1)*z) (dV _ _ _) rfl rfl (by omega) o4 uG;exact⟨v,μ',rfl,h1,ad,aj⟩
 have C0:i<len:=by omega
 have apy:(i+1)*z=i*z+z:=by rw[auI]
 have apA:(i+1)*z<=len*z:=at2 _ C0;have apB:i*z+(len - i)*z=len*z:=by rw[<-auN]; congr 1; omega
 cases iH with
 | gH _ _ _ _ _ _ _ _ _ _ ar=>
  exfalso;rcases ar with ar | ⟨g6,cs',ar,aN⟩
  ·rw[ag] at ar; cases ar
  ·rw[ag] at ar; cases ar; omega
 | hV=>omega
 | au _ _ _ _ _ _ cap' n9 m k1 hm ap7 ap dp=>
 rw[ag] at k1; cases k1;have eR:=rel.blk b m hm;rw[ag] at eR;obtain⟨eb,apV,arr,ob,gh,az,apH,mg,jl⟩:=eR;obtain⟨ka,Ae⟩:cap<=cap'/\m.s+cap'*z<=m.T:=by
  rcases dp with dp | ⟨sL,ka,Ae⟩
  ·omega
  ·exact⟨ka,by simpa using Ae⟩
 have o4:=rel.so hm;have Ld:gd.r≠m.r:=fun am=>bz (rel.inj bv b gd m (by rw[h3]; rfl) (by rw[ag]; rfl) yp hm am)
 have mo:(vs.drop 0).take z=vs:=by rw[au3,atT (by omega)]
 have lz:((cs.drop (i*z)).take ((len - i)*z)).length=(len - i)*z:=by rw[aue,au4]; omega
 by_cases er:len+1<=cap'
 ·have Ux:(len+1)*z<=cap'*z:=at2 _ er;obtain⟨Fy,u4⟩:=Nj rel (w':=w.drew) (Pm w);obtain⟨ls,GK,K9⟩:=Hc (P:=P) u4 (o:=i*z) (n:=(len - i)*z) ag hm (by omega);obtain⟨je,qb,Cq,qH⟩:=Fm (P:=P) (t:=T) (u:=T) (ty:=I) u4 L.zh aw (k:=(i+1)*z) ag hm (by omega) (dLen:=len - i) (dc:=cap' - (i+1)) (sLen:=len+1 - i) (sc:=cap' - i) (cnt:=len - i)
   (by simp only[aw7]; split<;>omega) lz K9 GK (by omega)
  have pi:max (cap*z) ((i+1)*z+(len - i)*z)=max cap (len+1)*z:=by omega
  rw[pi] at Cq qH;have gM:(h.set b (.cells (max cap (len+1)*z) (bu cs ((i+1)*z) ((cs.drop (i*z)).take ((len - i)*z))))).f b=.cells (max cap (len+1)*z) (bu cs ((i+1)*z) ((cs.drop (i*z)).take ((len - i)*z))) :=by rw[dV,j7]
  have aes:(h.set b (.cells (max cap (len+1)*z) (bu cs ((i+1)*z) ((cs.drop (i*z)).take ((len - i)*z))))).f bv=.cells z vs:=by rw[dV,cf _ _ _ _ bz]; exact h3
  obtain⟨Hl,GL,La⟩:=Hc (P:=P) qH (o:=0) (n:=z) aes yp (by omega);rw[mo] at GL;obtain⟨hx,qc,vX,tu⟩:=Fm (P:=P) (t:=T) (u:=T) (ty:=I) qH L.zh aw (k:=i*z) gM hm (by omega) (dLen:=len+1 - i) (dc:=cap' - i) (sLen:=1) (sc:=eF) (cnt:=1)
   (by simp only[aw7]; split<;>omega) (by omega) (by rw[awm]; exact La) GL (by omega)
  have uC:max (max cap (len+1)*z) (i*z+1*z)=max cap (len+1)*z:=by omega
  rw[uC,ahk ju C0 (by omega)] at vX tu;have o7:w.frozen? ⟨gd.r,gd.s+0,none⟩=false:=by
   simp only[World.frozen?,LD];rcases T6 with aE | aE
   ·subst aE; simp
   ·simp; intro aj; omega
  have yh:w.frozen? ⟨gd.r,Pe.size,none⟩=false:=by
   simp only[World.frozen?,LD];rcases T6 with aE | aE
   ·subst aE; simp
   ·simp; intro aj; omega
  refine (L.shift m.r m.s len cap' i gd.r (gd.s+0) eF _ _ w je hx c2 ob Pe.size arr.size C0 er oY Ld (by simp[World.shape?,LD]) (by simp[World.shape?,az]) (by omega) o7 yh qb qc).mono ?_;rintro x w2 ⟨rfl,rfl⟩;obtain⟨μ',h1,ad,aj⟩:=XN (h:=h) tu ((Fy.trans Cq).trans vX) (b:=b) (row:=lP z cs vs i len) (ns:=max cap (len+1)*z) (n:=len+1) (nc:=max cap (len+1)) (z:=z) (v:=.slice (some ⟨m.r,m.s+0,none⟩) (len+1) cap') (by
   rw[dV,dV];funext y;simp only[bO];split<;>rfl) rfl rfl (by omega) o4 (.au z b 0 (len+1) (max cap (len+1)) (max cap (len+1)*z) cap' _ m (by rw[dV,j7]) hm (by omega) (by omega) (.inr ⟨by omega,by omega,by simpa using Ae⟩))
  exact⟨_,μ',rfl,h1,ad,aj⟩
 ·obtain rfl:cap=len:=by omega
  obtain rfl:cap'=cap:=by omega
  obtain⟨wC,zv,KV,lN,jQ⟩:=Zk hO;have qv:wC.size=z:=by simp[cB,KV] at aw; exact aw
  have mf:wC.bytes=by_:=by simp[iQ,KV] at ep; exact ep
  have cD:contents h z (.au z b 0 i cap' (cap'*z))=some ((cs.drop 0).take (i*z),i) :=by simp[contents,ag]
  obtain⟨cl,_,fM,h7,yu⟩:=vS (P:=P) rel cD (aP.au z b 0 i cap' (cap'*z) cap' cs m ag hm (by omega) (by omega) (.inr ⟨by omega,atW _,by simpa using Ae⟩));have C9:=yu i (atW _) w.drew (fun _=>rfl);rw[atT (by rw[h7.1,cl]; exact atW _)] at C9;rw[au3] at h7 cl;have U2:(cap'+1)*wC.bytes<=cK:=by rw[mf]; exact dN
  have mh:i+(cap'+1 - i)=cap'+1:=by omega
  have apN:(cap'+1 - i)*wC.bytes<=(cap'+1)*wC.bytes:=at2 _ (by omega);have mL:=Lib.run_append_grow_zeros w T I T e wC zv .i64 .i64 L.zh L.amo KV lN (some ⟨m.r,m.s+0,none⟩) i cap' fM (by rw[qv]; exact C9) (cap'+1 - i) (by omega) (by omega) (by omega) (by omega) (by unfold cK at U2; omega)
   (by rw[mh]; have:=growslice_fits (old:=cap') (need:=cap'+1) (by omega) U2; omega)
  rw[mh] at mL;obtain⟨sf,Tl⟩:∃ sf,sf=grownCap w (cap'+1) cap' e:=⟨_,rfl⟩
  have Tm:cap'+1<=sf:=by rw[Tl]; exact grownCap_ge w _ _ _
  rw[<-Tl] at mL;obtain⟨ROW,FW⟩:∃ ROW:Array Value,ROW=fM.toArray++Builtin.zeroCells zv.cells (cap'+1 - i)++Builtin.zeroCells zv.cells (sf - (cap'+1)) :=⟨_,rfl⟩
  rw[<-FW] at mL;have apG:(cap'+1)*z<=ROW.size:=by
   have aQ:i*z+(cap'+1 - i)*z=(cap'+1)*z:=by rw[<-auN]; congr 1
   rw[FW];simp only[awM,awN,Builtin.zeroCells];simp[jQ,h7.1];omega
  have cL:(cs.take (i*z)).length=i*z:=by rw[aue]; omega
  obtain⟨Fy,u4⟩:=rel.push (w':=w.drew.alloc (.cells ROW e)) (cs.take (i*z)) ROW e rfl rfl rfl rfl (by omega) (fun j c ai=>by
   obtain⟨v,aM,aT,a7⟩:=h7.2 j c ai;refine⟨v,?_,aT,a7⟩;have aN:j<fM.length:=(atU.1 aM).1;rw[FW,awd,auZ (by simpa using aN)];simpa using aM)
  rw[cL] at Fy u4;have F9:b≠h.n:=by omega
  have apQ:=rel.so yp;have TM:bv≠h.n:=by omega
  have pe:(bO μ h.n (some ⟨w.heap.size,0,ROW.size⟩)) h.n=some ⟨w.heap.size,0,ROW.size⟩:=j7 _ _ _;have afK:(bO μ h.n (some ⟨w.heap.size,0,ROW.size⟩)) bv=some gd:=by rw[cf _ _ _ _ TM]; exact yp
  have afF:(bO μ h.n (some ⟨w.heap.size,0,ROW.size⟩)) b=some m:=by rw[cf _ _ _ _ F9]; exact hm
  have aei:(h.push (.cells (i*z) (cs.take (i*z)))).f h.n=.cells (i*z) (cs.take (i*z)) :=by rw[ev,j7]
  have aek:(h.push (.cells (i*z) (cs.take (i*z)))).f bv=.cells z vs:=by rw[ev,cf _ _ _ _ TM]; exact h3
  obtain⟨Hl,GK,K9⟩:=Hc (P:=P) u4 (o:=0) (n:=z) aek afK (by omega);rw[mo] at GK;obtain⟨je,qb,Cq,qH⟩:=Fm (P:=P) (t:=T) (u:=T) (ty:=I) u4 L.zh aw (k:=i*z) aei pe (atW _) (dLen:=cap'+1 - i) (dc:=sf - i) (sLen:=1) (sc:=eF) (cnt:=1)
   (by simp only[aw7]; split<;>omega) (by omega) (by rw[awm]; exact K9) GK (by simp only; omega)
  have pi:max (i*z) (i*z+1*z)=(i+1)*z:=by omega
  rw[pi] at Cq qH;obtain⟨acp,XH⟩:=Nj qH (w':=je.drew) (Pm je);have aej:((h.push (.cells (i*z) (cs.take (i*z)))).set h.n (.cells ((i+1)*z) (bu (cs.take (i*z)) (i*z) vs))).f h.n=.cells ((i+1)*z) (bu (cs.take (i*z)) (i*z) vs) :=by rw[dV,j7]
  have TI:((h.push (.cells (i*z) (cs.take (i*z)))).set h.n (.cells ((i+1)*z) (bu (cs.take (i*z)) (i*z) vs))).f b=.cells (cap'*z) cs:=by rw[dV,cf _ _ _ _ F9,ev,cf _ _ _ _ F9]; exact ag
  obtain⟨ls,GL,La⟩:=Hc (P:=P) XH (o:=i*z) (n:=(cap' - i)*z) TI afF (by omega);obtain⟨hx,qc,vX,tu⟩:=Fm (P:=P) (t:=T) (u:=T) (ty:=I) XH L.zh aw (k:=(i+1)*z) aej pe (atW _) (dLen:=cap' - i) (dc:=sf - (i+1)) (sLen:=cap' - i) (sc:=cap' - i) (cnt:=cap' - i)
   (by simp only[aw7]; split<;>omega) lz La GL (by simp only; omega)
  have uC:max ((i+1)*z) ((i+1)*z+(cap' - i)*z)=(cap'+1)*z:=by omega
  rw[uC,ahh ju C0 (by omega)] at vX tu;simp only[avi] at qb qc;have afQ:max cap' (cap'+1)=cap'+1:=by omega
  rw[afQ];refine (L.grow m.r (m.s+0) cap' cap' i gd.r (gd.s+0) eF w.heap.size sf _ _ w _ je hx C0 (atW _) (by omega) Tm oY ?_ qb qc).mono ?_
  ·have:(cap' : Int)+1 - (i:Int)=((cap'+1 - i:Nat) :Int) :=by omega
   rw[this];exact mL
  rintro x w2 ⟨rfl,rfl⟩;have hk:=tu.kill (b:=b) (sz:=cap'*z) (cs:=cs) (h':=(h.set b .dead).push (.cells ((cap'+1)*z) (lP z cs vs i cap'))) (by rw[dV,cf _ _ _ _ F9]; exact TI) (by rw[e3,e3,fB]; omega) (by
   rw[ev,dV,e3,dV,dV,ev];funext y;simp only[bO];by_cases h1:y=h.n
   ·rw[if_pos h1,if_neg (by omega),if_pos h1]
   ·rw[if_neg h1];split
    ·rfl
    ·simp[h1]) (by rw[fB,e3,e3,e3,fB])
  refine⟨_,_,rfl,(((Fy.trans Cq).trans acp).trans vX).trans hk.1,hk.2,?_⟩;have:=aP.au (w:=w2) (R:=R) (h:=(h.set b .dead).push (.cells ((cap'+1)*z) (lP z cs vs i cap'))) (μ:=bO μ h.n (some ⟨w.heap.size,0,ROW.size⟩)) z h.n 0 (cap'+1) (cap'+1) ((cap'+1)*z) sf (lP z cs vs i cap') ⟨w.heap.size,0,ROW.size⟩ (by rw[ev,e3,j7]) (by simp) (atW _) (by omega) (.inr ⟨by omega,Tm,by
   simp only;have aQ:i*z+(cap'+1 - i)*z=(cap'+1)*z:=by rw[<-auN]; congr 1
   have bF:(cap'+1)*z+(sf - (cap'+1))*z=sf*z:=by rw[<-auN]; congr 1; omega
   rw[FW];simp only[awM,awN,Builtin.zeroCells];simp[jQ,h7.1];omega⟩)
  simpa using this
theorem Ma {f T I e z by_:Nat} (L:BF P f T I e z) (ce:iD P T=some e) (aw:cB P e=some z) (ep:iQ P e=some by_) (qo:0<z) (x8:0<by_) (hO:tD P e=some z)
  {bv:Nat} {vs:List U} (h3:h.f bv=.cells z vs) (dN:by_<=cK) :
  sd P G f [.aW,.int .i64 0,.au z bv 0 1 1 z] h (.au z h.n 0 1 1 z) (h.push (.cells z vs)) :=by
 intro R B w μ ey rel FI al aq;obtain⟨oG⟩:=ey
 match oG,al with
 | [v0,e8,dF],_=>
 have iH:=aq 0 _ v0 rfl rfl;have mo:=aq 1 _ e8 rfl rfl;have qy:=aq 2 _ dF rfl rfl;have LL:=qy;cases mo;have agF:=iH;cases iH;have Lg:AZ P T:=⟨_,L.zh,fun k hk=>by cases hk⟩
 cases qy with
 | gH _ _ _ _ _ _ _ _ _ _ ar=>
  exfalso;rcases ar with ar | ⟨g6,cs',ar,aN⟩
  ·rw[h3] at ar; cases ar
  ·rw[h3] at ar; cases ar; omega
 | au _ _ _ _ _ _ eF amA gd aer yp lC Da iW=>
 have CS:=rel.blk bv gd yp;rw[h3] at CS;obtain⟨ju,_⟩:=CS;have ax:sm P h T .aW (.au z bv 0 1 1 z)=some (.au z h.n 0 1 1 z,h.push (.cells z vs)) :=by
  have mo:(vs.drop 0).take (1*z)=vs:=by rw[au3,awm,atT (by omega)]
  unfold sm;rw[ce];simp only[aw,ep,contents,h3,and_self,if_true,mo];unfold vy;rw[if_neg (by omega),if_neg (by rw[hO]; simp; omega)];simp only[awm,dN,if_true]
 obtain⟨v,b1,hc,ho,qf,LB,uG⟩:=IY (P:=P) (ty:=T) (u:=T) rel Lg ax agF LL;refine (L.fin none 0 0 eF gd.r (gd.s+0) v w b1 (atW _) (by omega) (fun _=>⟨rfl,rfl⟩) ho).mono ?_;rintro x w2 ⟨rfl,rfl⟩;exact⟨v,hc,rfl,qf,LB,uG⟩
theorem Vw {f T I e z by_:Nat} (L:BF P f T I e z) (ce:iD P T=some e) (aw:cB P e=some z) (ep:iQ P e=some by_) (qo:0<z) (x8:0<by_) (hO:tD P e=some z)
  (args:List U) (h:aO) (r:U) (h' : aO) (af:s3 z by_ args h=some (r,h')) :sd P G f args h r h':=by
 unfold s3 at af;split at af
 ·rename_i s x y;split at af
  ·rename_i i ix bv po bX dv g9 mU;have agO:x=.int .i64 i:=by
    unfold Pf at mU;split at mU
    ·split at mU
     ·cases mU; rfl
     ·cases mU
    ·cases mU
   subst agO;split at af
   ·rename_i ki vs h3;split at af
    ·rename_i ah;obtain⟨rfl,rfl,rfl,rfl,rfl,rfl,aE⟩:=ah;obtain⟨k,rfl⟩:=avp aE;rw[au0] at af;unfold Dv at af;cases s<;>simp only at af<;>try (cases af; done)
     case aW=>
      split at af
      ·rename_i ah;obtain⟨rfl,az⟩:=ah;cases af;exact Ma L ce aw ep qo x8 hO h3 az
      ·cases af
     case au na b off len cap sz=>
      cases ag:h.f b<;>rw[ag] at af<;>(try simp only at af)<;>try (cases af; done)
      split at af
      ·rename_i ah;obtain⟨rfl,rfl,rfl,rfl,bz,av,mi,az⟩:=ah;cases af;exact Mb L ce aw ep qo x8 hO ag h3 bz av mi az
      ·cases af
    ·cases af
   ·cases af
  ·cases af
 ·cases af
end

end Go.cb

namespace Go.cb
open Go
section
variable (P:Program)
abbrev pN:=List (List Nat)
def Yp (ops:Array Oper) (o:Oper) (i:Nat) (hz:List Nat) (cy:Bool) :eA:=
 let g:=match o.guard with | none=>none | some kI=>some (match ops[kI.1]? with | some cR=>cR.dst | none=>none,kI.2)
 match nr P o.op with
 | some m=>⟨i,o.dst,g,.gV m,hz,cy⟩
 | none=>match o.op with
  | .call c=>match c.callee with
   | .value (.func f)=>⟨i,o.dst,g,.mG f c.args.toList,hz,cy⟩
   | .value x=>⟨i,o.dst,g,.nm x c.args.toList,hz,cy⟩
   | .invoke x name=>⟨i,o.dst,g,.n4 x name c.args.toList,hz,cy⟩
   | _=>⟨i,none,none,.gV .stop,[],false⟩
  | _=>⟨i,none,none,.gV .stop,[],false⟩
def Ys (ops:Array Oper) :List Oper->Nat->List eA
 | [],_=>[]
 | o::r,i=>Yp P ops o i [] false::Ys ops r (i+1)
def Vu (i:Nat) :List Nat->Bool
 | []=>false
 | x::r=>match Nat.beq i x with | true=>true | false=>Vu i r
def VR (i:Nat) :pN->Bool
 | []=>false
 | p::r=>match Vu i p.tail with | true=>true | false=>VR i r
def O0:pN->Bool
 | []=>false
 | p::r=>match p.tail with | []=>O0 r | _=>true
def N0 (ops:Array Oper) (q:pN) (n:Nat) :pN->List eA
 | []=>Ys P ops (ops.toList.drop n) n
 | p::r=>(match p with
  | []=>⟨0,none,none,.gV .stop,[],false⟩
  | i::c=>match ops[i]? with | some o=>Yp P ops o i c (VR i q) | none=>⟨0,none,none,.gV .stop,[],false⟩) ::N0 ops q n r
def Ni (ops:Array Oper) (p:pN) :fW:=match O0 p with
 | true=>.xL (N0 P ops p p.length p)
 | false=>.w5 (N0 P ops p p.length p)
def alq (a b:fW) :fW:=match a with
 | .skip=>b
 | a=>match b with
  | .skip=>a
  | b=>.seq a b
def wL:Code->List pN->fW × List pN
 | .skip,p=>(.skip,p)
 | .label _,p=>(.skip,p)
 | .ret,p=>(.ret,p)
 | .exit id,p=>(.exit id,p)
 | .region _ ops true,p=>match p with
  | []=>(Ni P ops [],[])
  | x::p=>(Ni P ops x,p)
 | .region _ ops false,p=>(Ni P ops [],p)
 | .seq a b,p=>match wL a p with | (a,p)=>match wL b p with | (b,p)=>(alq a b,p)
 | .cond c a b,p=>match wL a p with | (a,p)=>match wL b p with | (b,p)=>(.cond c a b,p)
 | .block id c,p=>match wL c p with | (c,p)=>(.block id c,p)
 | .loop c,p=>match wL c p with | (c,p)=>(.loop c,p)
 | .scope c,p=>wL c p
 | _,p=>(.skip,p)
def wM (fn:Func) (p:List pN) :fW:=match fn.body with
 | some c=>(wL P c p).1
 | none=>.skip
def uR:List ResultVar->List dk
 | []=>[]
 | x::r=>(match Jt P x with | some m=>m | none=>.stop) ::uR r
end
theorem HW (x:U) (t:List U) :x::x::x::x::x::x::x::x::x::x::x::x::x::x::x::x::x::x::x::x::x::x::x::x::x::x::x::x::x::x::x::x::t=rep 32 x++t:=rfl
theorem HX (x:U) (t:List U) :rep 32 x++(rep 32 x++t)=rep 64 x++t:=rfl
theorem adi {P:Program} {f:FuncId} {fn:Func} (aD:P.funcs[f]? = some fn) (p:List pN) {c:fW} {ms:List dk}
  (ah:wM P fn p=c:=by conv=>lhs; (cbv; try simp only[HW,HX,auu]))
  (az:uR P fn.results.toList=ms:=by conv=>lhs; cbv)
  (hk:(vP P f,vQ P f)=(some (wM P fn p),some (uR P fn.results.toList)) :=by kernel_rfl)
  {G:Nat->U} {args:List U} {l:ao} {K:tH} (h:run P G c (zB args) l (DF P G ms K.k)) :cY P G f args l (c:=K) :=by
 rw[ah,az] at hk;exact Fc (Prod.mk.inj hk).1 (Prod.mk.inj hk).2 h
theorem bm {P:Program} {f:FuncId} {fn:Func} (aD:P.funcs[f]? = some fn) (p:List pN) {T:Tables} {F:Array Func} {c:fW} {ms:List dk} (ce:P=⟨T,F⟩:=by rfl)
  (ah:wM ⟨T,#[]⟩ fn p=c:=by conv=>lhs; (cbv; try simp only[HW,HX,auu]))
  (az:uR ⟨T,#[]⟩ fn.results.toList=ms:=by conv=>lhs; cbv)
  (hk:(vP P f,vQ P f)=(some (wM ⟨T,#[]⟩ fn p),some (uR ⟨T,#[]⟩ fn.results.toList)) :=by kernel_rfl)
  {G:Nat->U} {args:List U} {l:ao} {K:tH} (h:run P G c (zB args) l (DF P G ms K.k)) :cY P G f args l (c:=K) :=by
 rw[ah,az] at hk;exact Fc (Prod.mk.inj hk).1 (Prod.mk.inj hk).2 h
def adh {P:Program} {f:FuncId} {fn:Func} (aD:P.funcs[f]? = some fn) (p:List pN) {c:fW} {ms:List dk}
  (ah:wM P fn p=c:=by conv=>lhs; (cbv; try simp only[HW,HX,auu]))
  (az:uR P fn.results.toList=ms:=by conv=>lhs; cbv)
  (hk:(vP P f,vQ P f)=(some (wM P fn p),some (uR P fn.results.toList)) :=by kernel_rfl) :{x:fW × List dk // EP P f x}:=
 ⟨(c,ms),by rw[ah,az] at hk; exact⟨(Prod.mk.inj hk).1,(Prod.mk.inj hk).2⟩⟩
def bV {P:Program} {f:FuncId} {fn:Func} (aD:P.funcs[f]? = some fn) (p:List pN) {T:Tables} {F:Array Func} {c:fW} {ms:List dk} (ce:P=⟨T,F⟩:=by rfl)
  (ah:wM ⟨T,#[]⟩ fn p=c:=by conv=>lhs; (cbv; try simp only[HW,HX,auu]))
  (az:uR ⟨T,#[]⟩ fn.results.toList=ms:=by conv=>lhs; cbv)
  (hk:(vP P f,vQ P f)=(some (wM ⟨T,#[]⟩ fn p),some (uR ⟨T,#[]⟩ fn.results.toList)) :=by kernel_rfl) :{x:fW × List dk // EP P f x}:=
 ⟨(c,ms),by rw[ah,az] at hk; exact⟨(Prod.mk.inj hk).1,(Prod.mk.inj hk).2⟩⟩
end Go.cb

namespace Go.cb
open Go Go.Proofs
set_option maxRecDepth 100000
set_option maxHeartbeats 8000000
noncomputable def Fb:=bV Tryz.func9 [[[0],[1],[2],[3],[4],[5],[6],[7],[8],[9],[10],[11],[12],[13],[14],[15],[16],[17],[18],[19],[20],[21],[22],[23],[24],[25],[26],[27],[28],[29],[30],[31],[32],[33],[34],[35],[36],[37],[38,37],[39],[40],[41],[42],[43],[44],[45],[46],[47],[48],[49],[50],[51],[52,48],[53],[54],[55],[56],[57],[58],[59],[60],[61],[62,61]]]
noncomputable def PM:=bV Tryz.func12 []
noncomputable def PT:=bV Tryz.func13 []
noncomputable def Qt:=bV Tryz.func19 [[[0],[1],[2],[3],[4],[5],[6],[7,1]]]
noncomputable def QS:=bV Tryz.func25 []
noncomputable def QV:=bV Tryz.func31 [[[0],[2],[6],[12],[1,12,2],[3,12],[4],[5,12],[7],[8,12],[9],[10],[11]]]
noncomputable def QW:=bV Tryz.func32 []
noncomputable def QX:=bV Tryz.func33 []
noncomputable def QY:=bV Tryz.func36 []
noncomputable def QZ:=bV Tryz.func37 []
noncomputable def Q0:=bV Tryz.func39 []
noncomputable def Q1:=bV Tryz.func40 [[],[[0],[3],[4],[5],[1,4],[2]]]
noncomputable def Q2:=bV Tryz.func41 []
noncomputable def Q3:=bV Tryz.func42 []
noncomputable def Q4:=bV Tryz.func43 []
noncomputable def Q5:=bV Tryz.func44 []
noncomputable def Q6:=bV Tryz.func45 []
noncomputable def Q7:=bV Tryz.func51 []
noncomputable def Q8:=bV Tryz.func52 []
noncomputable def Q9:=bV Tryz.func58 []
noncomputable def Ra:=bV Tryz.func59 []
noncomputable def Rb:=bV Tryz.func60 []
noncomputable def Rc:=bV Tryz.func61 []
noncomputable def Re:=bV Tryz.func71 []
noncomputable def Rf:=bV Tryz.func73 []
noncomputable def Rg:=bV Tryz.func74 []
noncomputable def Rh:=bV Tryz.func75 []
noncomputable def Ri:=bV Tryz.func76 [[],[[0],[1],[2],[3],[4],[6],[7],[9],[10],[11],[12],[5,10,7,6],[8,10]],[[0],[1],[2],[3],[4],[6],[7],[9],[10],[11],[12],[5,10,7,6],[8,10]]]
noncomputable def Rj:=bV Tryz.func78 [[[0],[2],[3],[4],[5],[8],[9],[10],[11],[1,11,10,5,4],[6,11,10],[7,11,10]]]
noncomputable def Rk:=bV Tryz.func80 []
noncomputable def Rl:=bV Tryz.func81 []
noncomputable def Rm:=bV Tryz.func82 [[[0],[1],[2],[4],[5],[3,5,1]]]
noncomputable def Rn:=bV Tryz.func83 [[[0],[1],[2],[3],[4],[6],[7],[8],[9],[10],[11],[12],[5,12,11,8]]]
noncomputable def Ro:=bV Tryz.func84 [[[0],[1],[2],[3],[4],[5],[6],[7],[8,0]]]
noncomputable def Rp:=bV Tryz.func85 []
noncomputable def Rq:=bV Tryz.func87 []
noncomputable def Rr:=bV Tryz.func88 []
noncomputable def Rs:=bV Tryz.func89 []
noncomputable def Rt:=bV Tryz.func90 []
noncomputable def Ru:=bV Tryz.func91 []
noncomputable def Rv:=bV Tryz.func92 []
noncomputable def Rw:=bV Tryz.func93 []
noncomputable def Rx:=bV Tryz.func94 []
noncomputable def Ry:=bV Tryz.func95 []
noncomputable def Rz:=bV Tryz.func96 []
noncomputable def PC:=bV Tryz.func104 []
noncomputable def PD:=bV Tryz.func105 []
noncomputable def PE:=adh Tryz.func106 []
noncomputable def PF:=bV Tryz.func107 []
noncomputable def PG:=bV Tryz.func108 []
noncomputable def PH:=bV Tryz.func110 [[[0],[1],[2],[3],[4],[5],[6],[7],[8],[9],[10],[12],[13],[11,13]]]
noncomputable def PI:=bV Tryz.func114 []
noncomputable def PJ:=bV Tryz.func117 []
noncomputable def PK:=bV Tryz.func118 []
noncomputable def PL:=bV Tryz.func119 []
noncomputable def PN:=bV Tryz.func120 []
noncomputable def PO:=bV Tryz.func121 []
noncomputable def PP:=bV Tryz.func122 [[[0],[1],[2],[5],[6],[3,6],[4,6]]]
noncomputable def PQ:=bV Tryz.func127 []
noncomputable def PR:=bV Tryz.func128 []
noncomputable def PS:=bV Tryz.func129 []
noncomputable def PU:=bV Tryz.func130 []
noncomputable def PV:=bV Tryz.func131 [[[0],[1],[3],[5],[6],[8],[9],[2,9],[4,9],[7,9]]]
noncomputable def PW:=bV Tryz.func132 []
noncomputable def PX:=bV Tryz.func133 []
noncomputable def PY:=bV Tryz.func134 []
noncomputable def PZ:=bV Tryz.func135 []
noncomputable def P0:=bV Tryz.func137 []
noncomputable def P1:=bV Tryz.func140 []
noncomputable def P2:=bV Tryz.func141 []
noncomputable def P3:=bV Tryz.func142 []
noncomputable def P4:=bV Tryz.func143 []
noncomputable def P5:=bV Tryz.func144 [[[0],[1],[2],[3],[4],[6],[7],[8],[9],[5,9,8]]]
noncomputable def P6:=bV Tryz.func146 [[[0],[1],[2],[3],[4],[5],[6],[10],[11],[12],[7,11],[8,11],[9]]]
noncomputable def P7:=bV Tryz.func147 [[[0],[1],[2],[3],[5],[6],[7],[9],[10],[11],[12],[4,12,11,7,0],[8,12,11,0]]]
noncomputable def P8:=bV Tryz.func148 []
noncomputable def P9:=bV Tryz.func149 []
noncomputable def Qa:=bV Tryz.func157 []
noncomputable def Qb:=bV Tryz.func158 []
noncomputable def Qc:=bV Tryz.func164 []
noncomputable def Qd:=bV Tryz.func165 []
noncomputable def Qe:=bV Tryz.func166 []
noncomputable def Qf:=bV Tryz.func167 []
noncomputable def Qg:=bV Tryz.func168 []
noncomputable def Qh:=bV Tryz.func169 []
noncomputable def Qi:=bV Tryz.func170 []
noncomputable def Qj:=bV Tryz.func171 []
noncomputable def Qk:=bV Tryz.func172 []
noncomputable def Ql:=bV Tryz.func173 []
noncomputable def Qm:=bV Tryz.func175 []
noncomputable def Qn:=bV Tryz.func176 []
noncomputable def Qo:=bV Tryz.func177 []
noncomputable def Qp:=bV Tryz.func178 []
noncomputable def Qq:=bV Tryz.func179 []
noncomputable def Qr:=bV Tryz.func180 []
noncomputable def Qs:=bV Tryz.func189 []
noncomputable def Qu:=bV Tryz.func190 []
noncomputable def Qv:=bV Tryz.func194 []
noncomputable def Qw:=bV Tryz.func195 []
noncomputable def Qx:=bV Tryz.func197 []
noncomputable def Qy:=bV Tryz.func198 []
noncomputable def Qz:=bV Tryz.func199 []
noncomputable def QA:=bV Tryz.func200 []
noncomputable def QB:=bV Tryz.func201 []
noncomputable def QC:=bV Tryz.func202 []
noncomputable def QD:=bV Tryz.func203 []
noncomputable def QE:=bV Tryz.func204 []
noncomputable def QF:=bV Tryz.func205 []
noncomputable def QG:=bV Tryz.func206 []
noncomputable def QH:=bV Tryz.func218 []
noncomputable def QI:=bV Tryz.func219 []
noncomputable def QJ:=bV Tryz.func223 []
noncomputable def QK:=bV Tryz.func224 []
noncomputable def QL:=bV Tryz.func225 []
noncomputable def QM:=bV Tryz.func235 []
noncomputable def QN:=bV Tryz.func242 []
noncomputable def QO:=bV Tryz.func243 []
noncomputable def QP:=bV Tryz.func244 []
noncomputable def QQ:=bV Tryz.func245 []
noncomputable def QR:=bV Tryz.func246 []
noncomputable def QT:=bV Tryz.func251 []
noncomputable def QU:=bV Tryz.func261 []
noncomputable def YG:cG (fW × List dk) :=(.node (.node (.node (.node (.node (.node (.node (.node .nil (some PQ.1) .nil) none .nil) (some QV.1) (.node .nil (some Ry.1) (.node .nil (some QJ.1) .nil))) none (.node (.node (.node .nil (some P4.1) .nil) none .nil) none (.node (.node .nil (some Qm.1) .nil) none .nil))) none (.node (.node (.node (.node .nil (some PZ.1) .nil) (some Re.1) (.node .nil (some Qz.1) .nil)) (some Q0.1) (.node (.node .nil (some Qf.1) .nil) none .nil)) none (.node (.node .nil (some Rq.1) .nil) none (.node .nil (some PL.1) .nil)))) none (.node (.node (.node (.node (.node .nil (some PV.1) .nil) none (.node .nil (some Qw.1) .nil)) none .nil) (some Qt.1) (.node (.node (.node .nil (some P7.1) .nil) (some Rn.1) .nil) (some Q7.1) (.node (.node .nil (some Qq.1) .nil) none (.node .nil (some QO.1) .nil)))) none (.node (.node (.node .nil (some Rh.1) (.node .nil (some QD.1) .nil)) (some Q4.1) (.node (.node .nil (some Qj.1) .nil) (some PF.1) (.node .nil (some QM.1) .nil))) none (.node (.node .nil (some Ru.1) (.node .nil (some QI.1) .nil)) (some Ra.1) (.node .nil none (.node .nil (some QT.1) .nil)))))) none (.node (.node (.node (.node (.node (.node .nil (some PS.1) .nil) none .nil) (some QX.1) (.node .nil none (.node .nil (some QL.1) .nil))) none (.node (.node .nil (some Rl.1) .nil) none (.node (.node .nil (some Qo.1) .nil) none .nil))) (some Fb.1) (.node (.node (.node (.node .nil (some P0.1) .nil) (some Rf.1) (.node .nil (some QB.1) .nil)) (some Q2.1) (.node (.node .nil (some Qh.1) .nil) (some PD.1) .nil)) (some QS.1) (.node (.node .nil (some Rs.1) .nil) none (.node .nil (some PO.1) .nil)))) none (.node (.node (.node (.node (.node (.node .nil (some QU.1) .nil) (some PX.1) .nil) none (.node .nil (some Qx.1) .nil)) (some QZ.1) (.node (.node .nil (some Qd.1) .nil) none .nil)) none (.node (.node (.node .nil (some P9.1) .nil) (some Rp.1) .nil) none (.node .nil (some PJ.1) (.node .nil (some QQ.1) .nil)))) (some PT.1) (.node (.node (.node (.node .nil (some P2.1) .nil) none (.node .nil (some QF.1) .nil)) (some Q6.1) (.node (.node .nil (some Ql.1) .nil) none .nil)) none (.node (.node (.node .nil (some Qa.1) .nil) (some Rw.1) .nil) (some Rc.1) (.node (.node .nil (some Qs.1) .nil) none .nil)))))) none (.node (.node (.node (.node (.node (.node (.node .nil (some PR.1) .nil) none .nil) (some QW.1) (.node .nil (some Rz.1) (.node .nil (some QK.1) .nil))) none (.node (.node (.node .nil (some P5.1) .nil) (some Rk.1) .nil) none (.node (.node .nil (some Qn.1) .nil) none .nil))) none (.node (.node (.node .nil none (.node .nil (some QA.1) .nil)) (some Q1.1) (.node (.node .nil (some Qg.1) .nil) (some PC.1) .nil)) none (.node (.node .nil (some Rr.1) .nil) none (.node .nil (some PN.1) .nil)))) none (.node (.node (.node (.node (.node .nil (some PW.1) .nil) none .nil) (some QY.1) (.node (.node .nil (some Qc.1) .nil) none .nil)) none (.node (.node (.node .nil (some P8.1) .nil) (some Ro.1) .nil) (some Q8.1) (.node (.node .nil (some Qr.1) .nil) none (.node .nil (some QP.1) .nil)))) (some PM.1) (.node (.node (.node (.node .nil (some P1.1) .nil) (some Ri.1) (.node .nil (some QE.1) .nil)) (some Q5.1) (.node (.node .nil (some Qk.1) .nil) (some PG.1) .nil)) none (.node (.node .nil (some Rv.1) .nil) (some Rb.1) .nil)))) none (.node (.node (.node (.node (.node (.node .nil (some PU.1) .nil) none (.node .nil (some Qv.1) .nil)) none .nil) none (.node (.node (.node .nil (some P6.1) .nil) (some Rm.1) .nil) none (.node (.node .nil (some Qp.1) .nil) (some PI.1) (.node .nil (some QN.1) .nil)))) none (.node (.node (.node .nil (some Rg.1) (.node .nil (some QC.1) .nil)) (some Q3.1) (.node (.node .nil (some Qi.1) .nil) (some PE.1) .nil)) none (.node (.node .nil (some Rt.1) (.node .nil (some QH.1) .nil)) (some Q9.1) (.node .nil (some PP.1) .nil)))) none (.node (.node (.node (.node (.node .nil (some PY.1) .nil) none (.node .nil (some Qy.1) .nil)) none (.node (.node .nil (some Qe.1) .nil) none .nil)) none (.node .nil none (.node .nil (some PK.1) (.node .nil (some QR.1) .nil)))) none (.node (.node (.node (.node .nil (some P3.1) .nil) (some Rj.1) (.node .nil (some QG.1) .nil)) none (.node .nil (some PH.1) .nil)) none (.node (.node (.node .nil (some Qb.1) .nil) (some Rx.1) .nil) none (.node (.node .nil (some Qu.1) .nil) none .nil)))))))
theorem alU:pJ (EP Tryz.prog) YG:=(dr (dr (dr (dr (dr (bT QV.2 (dr (bT PQ.2 bj bj) bj) (bT Ry.2 bj (bT QJ.2 bj bj))) (dr (dr (bT P4.2 bj bj) bj) (dr (bT Qm.2 bj bj) bj))) (dr (bT Q0.2 (bT Re.2 (bT PZ.2 bj bj) (bT Qz.2 bj bj)) (dr (bT Qf.2 bj bj) bj)) (dr (bT Rq.2 bj bj) (bT PL.2 bj bj)))) (dr (bT Qt.2 (dr (dr (bT PV.2 bj bj) (bT Qw.2 bj bj)) bj) (bT Q7.2 (bT Rn.2 (bT P7.2 bj bj) bj) (dr (bT Qq.2 bj bj) (bT QO.2 bj bj)))) (dr (bT Q4.2 (bT Rh.2 bj (bT QD.2 bj bj)) (bT PF.2 (bT Qj.2 bj bj) (bT QM.2 bj bj))) (bT Ra.2 (bT Ru.2 bj (bT QI.2 bj bj)) (dr bj (bT QT.2 bj bj)))))) (dr (bT Fb.2 (dr (bT QX.2 (dr (bT PS.2 bj bj) bj) (dr bj (bT QL.2 bj bj))) (dr (bT Rl.2 bj bj) (dr (bT Qo.2 bj bj) bj))) (bT QS.2 (bT Q2.2 (bT Rf.2 (bT P0.2 bj bj) (bT QB.2 bj bj)) (bT PD.2 (bT Qh.2 bj bj) bj)) (dr (bT Rs.2 bj bj) (bT PO.2 bj bj)))) (bT PT.2 (dr (bT QZ.2 (dr (bT PX.2 (bT QU.2 bj bj) bj) (bT Qx.2 bj bj)) (dr (bT Qd.2 bj bj) bj)) (dr (bT Rp.2 (bT P9.2 bj bj) bj) (bT PJ.2 bj (bT QQ.2 bj bj)))) (dr (bT Q6.2 (dr (bT P2.2 bj bj) (bT QF.2 bj bj)) (dr (bT Ql.2 bj bj) bj)) (bT Rc.2 (bT Rw.2 (bT Qa.2 bj bj) bj) (dr (bT Qs.2 bj bj) bj)))))) (dr (dr (dr (dr (bT QW.2 (dr (bT PR.2 bj bj) bj) (bT Rz.2 bj (bT QK.2 bj bj))) (dr (bT Rk.2 (bT P5.2 bj bj) bj) (dr (bT Qn.2 bj bj) bj))) (dr (bT Q1.2 (dr bj (bT QA.2 bj bj)) (bT PC.2 (bT Qg.2 bj bj) bj)) (dr (bT Rr.2 bj bj) (bT PN.2 bj bj)))) (bT PM.2 (dr (bT QY.2 (dr (bT PW.2 bj bj) bj) (dr (bT Qc.2 bj bj) bj)) (bT Q8.2 (bT Ro.2 (bT P8.2 bj bj) bj) (dr (bT Qr.2 bj bj) (bT QP.2 bj bj)))) (dr (bT Q5.2 (bT Ri.2 (bT P1.2 bj bj) (bT QE.2 bj bj)) (bT PG.2 (bT Qk.2 bj bj) bj)) (bT Rb.2 (bT Rv.2 bj bj) bj)))) (dr (dr (dr (dr (dr (bT PU.2 bj bj) (bT Qv.2 bj bj)) bj) (dr (bT Rm.2 (bT P6.2 bj bj) bj) (bT PI.2 (bT Qp.2 bj bj) (bT QN.2 bj bj)))) (dr (bT Q3.2 (bT Rg.2 bj (bT QC.2 bj bj)) (bT PE.2 (bT Qi.2 bj bj) bj)) (bT Q9.2 (bT Rt.2 bj (bT QH.2 bj bj)) (bT PP.2 bj bj)))) (dr (dr (dr (dr (bT PY.2 bj bj) (bT Qy.2 bj bj)) (dr (bT Qe.2 bj bj) bj)) (dr bj (bT PK.2 bj (bT QR.2 bj bj)))) (dr (dr (bT Rj.2 (bT P3.2 bj bj) (bT QG.2 bj bj)) (bT PH.2 bj bj)) (dr (bT Rx.2 (bT Qb.2 bj bj) bj) (dr (bT Qu.2 bj bj) bj)))))))
theorem ze:BM Tryz.prog (fun f=>YG.get f) :=alT alU
end Go.cb

namespace Go.cb
open Go
namespace g3
abbrev W:=BitVec 32
abbrev B:=BitVec 8
def nS (x:W) (n:Nat) :W:=(x >>> n) ||| (x <<< (32 - n))
def pG (l:List B) :W:=l.foldl (fun a x=>(a <<< 8) ||| x.setWidth 32) 0#32
def part (b:List B) (k t:Nat) :W:=pG (((b.take k).drop (4*t)).take 4)
def fC (b:List B) :List W:=(List.range 16).map fun t=>pG ((b.drop (4*t)).take 4)
def ext (w:List W) :W:=
 let t:=w.length
 let x:=w.getD (t - 15) 0#32
 let y:=w.getD (t - 2) 0#32
 w.getD (t - 16) 0#32+w.getD (t - 7) 0#32+(nS x 7 ^^^ nS x 18 ^^^ (x >>> 3))+(nS y 17 ^^^ nS y 19 ^^^ (y >>> 10))
def iE:Nat->List W->List W
 | 0,w=>w
 | n+1,w=>iE n (w++[ext w])
def fH (b:List B) :List W:=iE 48 (fC b)
def MA (x:W) (i j k:Nat) :W:=nS x i ^^^ nS x j ^^^ nS x k
structure cp where
 (a b c d e f g h:W)
def round (s:cp) (k w:W) :cp:=
 let p:=s.h+MA s.e 6 11 25+((s.e &&& s.f) ^^^ (~~~s.e &&& s.g))+k+w
 let q:=MA s.a 2 13 22+((s.a &&& s.b) ^^^ (s.a &&& s.c) ^^^ (s.b &&& s.c))
 ⟨p+q,s.a,s.b,s.c,s.d+p,s.e,s.f,s.g⟩
def rounds:cp->List W->List W->cp
 | s,k::bP,w::ha=>rounds (round s k w) bP ha
 | s,_,_=>s
def table:List Nat:=[0x428a2f98,0x71374491,0xb5c0fbcf,0xe9b5dba5,0x3956c25b,0x59f111f1,0x923f82a4,0xab1c5ed5,0xd807aa98,0x12835b01,0x243185be,0x550c7dc3,0x72be5d74,0x80deb1fe,0x9bdc06a7,0xc19bf174,0xe49b69c1,0xefbe4786,0x0fc19dc6,0x240ca1cc,0x2de92c6f,0x4a7484aa,0x5cb0a9dc,0x76f988da,0x983e5152,0xa831c66d,0xb00327c8,0xbf597fc7,0xc6e00bf3,0xd5a79147,0x06ca6351,0x14292967,0x27b70a85,0x2e1b2138,0x4d2c6dfc,0x53380d13,0x650a7354,0x766a0abb,0x81c2c92e,0x92722c85,0xa2bfe8a1,0xa81a664b,0xc24b8b70,0xc76c51a3,0xd192e819,0xd6990624,0xf40e3585,0x106aa070,0x19a4c116,0x1e376c08,0x2748774c,0x34b0bcb5,0x391c0cb3,0x4ed8aa4a,0x5b9cca4f,0x682e6ff3,0x748f82ee,0x78a5636f,0x84c87814,0x8cc70208,0x90befffa,0xa4506ceb,0xbef9a3f7,0xc67178f2]
def bP:List W:=table.map (BitVec.ofNat 32)
def grind (h:cp) (b:List B) :cp:=
 let v:=rounds h bP (fH b)
 ⟨h.a+v.a,h.b+v.b,h.c+v.c,h.d+v.d,h.e+v.e,h.f+v.f,h.g+v.g,h.h+v.h⟩
def I9:Nat->cp->List B->cp × List B
 | 0,h,b=>(h,b)
 | n+1,h,b=>if 64<=b.length then I9 n (grind h (b.take 64)) (b.drop 64) else (h,b)
def hy (h:cp) (b:List B) :cp × List B:=I9 (b.length / 64) h b
def first:cp:=⟨0x6a09e667#32,0xbb67ae85#32,0x3c6ef372#32,0xa54ff53a#32,0x510e527f#32,0x9b05688c#32,0x1f83d9ab#32,0x5be0cd19#32⟩
def B1 (n:BitVec 64) :List B:=[(n >>> 56).setWidth 8,(n >>> 48).setWidth 8,(n >>> 40).setWidth 8,(n >>> 32).setWidth 8,(n >>> 24).setWidth 8,(n >>> 16).setWidth 8,(n >>> 8).setWidth 8,(n >>> 0).setWidth 8]
def tail (n:Nat) :List B:=128#8::List.replicate ((119 - n % 64) % 64) 0#8++B1 (BitVec.ofNat 64 n*8#64)
def vg (w:W) :List B:=[(w >>> 24).setWidth 8,(w >>> 16).setWidth 8,(w >>> 8).setWidth 8,w.setWidth 8]
def cp.l (s:cp) :List W:=[s.a,s.b,s.c,s.d,s.e,s.f,s.g,s.h]
def written (s:cp) :List B:=(s.l.map vg).flatten
def ic (b:List B) :List B:=written (hy first (b++tail b.length)).1
theorem am3 (l:List B) (x:B) :pG (l++[x])=(pG l <<< 8) ||| x.setWidth 32:=by simp[pG,awj]
theorem xQ:∀ (n:Nat) (w:List W),(iE n w).length=w.length+n
 | 0,w=>rfl
 | n+1,w=>by rw[iE,xQ n]; simp; omega
theorem El (b:List B) :(fH b).length=64:=by rw[fH,xQ]; simp[fC]
theorem Ir (s:cp) :(written s).length=32:=rfl
theorem va (b:List B) :(ic b).length=32:=rfl
theorem JI:∀ (n:Nat) (w:List W),iE (n+1) w=iE n w++[ext (iE n w)]
 | 0,w=>rfl
 | n+1,w=>by rw[iE,JI n (w++[ext w])]; rfl
theorem H5 (a:W) (x:B) :(a <<< 8) ||| x.setWidth 32=a*256#32+x.setWidth 32:=by
 apply aua;have af:x.toNat<256:=x.isLt;have ax:=a.isLt;rw[BitVec.toNat_or,avW,awU,avM,aub];have h1:x.toNat % 2 ^ 32=x.toNat:=at7 (by omega);have ad:a.toNat <<< 8 % 2 ^ 32=(a.toNat % 2 ^ 24) <<< 8:=by rw[avz,avz]; omega
 have aj:=awA (b:=x.toNat) (i:=8) (by omega) (a.toNat % 2 ^ 24);rw[h1,ad,<-aj,avz];have aF:(256#32).toNat=256:=rfl;rw[aF];omega
theorem BW (h:cp) (b:List B) (ag:64<=b.length) :hy h b=hy (grind h (b.take 64)) (b.drop 64) :=by
 have:b.length / 64=(b.drop 64).length / 64+1:=by simp; omega
 rw[hy,this,I9,if_pos ag];rfl
theorem E6 (h:cp) (b:List B) (ag:b.length<64) :hy h b=(h,b) :=by
 rw[hy,awV ag]; rfl
theorem aaK (h:cp) (b:List B) :(hy h b).2.length=b.length % 64:=by
 generalize aC:b.length=n
 induction n using Nat.strongRecOn generalizing h b with
 | _ n aI=>
  rcases au9 b.length 64 with h1 | h1
  ·rw[E6 h b h1,at7 (by omega)]; exact aC
  ·rw[BW h b h1,aI (b.length - 64) (by omega) _ (b.drop 64) (by simp)];omega
theorem Ps (h:cp) (a b:List B) :hy h (a++b)=hy (hy h a).1 ((hy h a).2++b) :=by
 generalize aC:a.length=n
 induction n using Nat.strongRecOn generalizing h a with
 | _ n aI=>
  rcases au9 a.length 64 with h1 | h1
  ·rw[E6 h a h1]
  ·rw[BW h a h1,BW h (a++b) (by simp; omega),auj h1,auH h1];exact aI (a.length - 64) (by omega) _ (a.drop 64) (by simp)
end g3

end Go.cb

namespace Go.cb
open Go Go.Proofs
def Bo:List U:=g3.bP.map bA
def GS:Nat->U:=fun g=>match Nat.beq g 1 with | true=>.b3 Bo 0 | false=>.bad
theorem bB:∀ g,(GS g).closed=true:=by
 intro g;unfold GS;split
 ·exact lr bA (fun _=>rfl) _
 ·rfl
@[simp]
theorem anz:GS 1=.b3 Bo 0:=id rfl
theorem alR (i:Nat) (h:i<64) :Bo[i]? = some (bA (g3.bP.getD i 0#32)) :=by
 have al:g3.bP.length=64:=rfl;unfold Bo;rw[at0,aug,atX (by omega)];rfl
end Go.cb

namespace Go.cb
open Go Go.Proofs
set_option maxRecDepth 100000
namespace g3
def Ns (x:W) (k:Int) :W:=(x <<< (BitVec.ofInt 64 k &&& 31#64).toNat) ||| (x >>> (32#64 - (BitVec.ofInt 64 k &&& 31#64)).toNat)
theorem y9 (x:W) (n:Nat) (aE:0<n) (h:n<32) :Ns x (-(n:Int))=nS x n:=by
 have h1:∀ n:Fin 32,0<n.val->(BitVec.ofInt 64 (-(n.val:Int)) &&& 31#64)=BitVec.ofNat 64 (32 - n.val) :=by decide
 have ad:=h1 ⟨n,h⟩ aE;simp only at ad;unfold Ns nS;rw[ad,BitVec.or_comm];congr 2
 ·have:∀ n:Fin 32,0<n.val->(32#64 - BitVec.ofNat 64 (32 - n.val)).toNat=n.val:=by decide
  exact this ⟨n,h⟩ aE
 ·have:∀ n:Fin 32,0<n.val->(BitVec.ofNat 64 (32 - n.val)).toNat=32 - n.val:=by decide
  exact this ⟨n,h⟩ aE
theorem y8 (x:W) (k:Int) :bw Tryz.prog GS 267 [bA x,.int .i64 k] (bA (Ns x k)) :=by
 refine bK Tryz.checked.mixed bB ?_;apply bm Tryz.func267 [];simp;exact aK rfl rfl
theorem Wg (x:W) (i j k:Nat) (av:0<i/\i<32) (ai:0<j/\j<32) (hk:0<k/\k<32) :bw Tryz.prog GS 266 [bA x,.int .i64 i,.int .i64 j,.int .i64 k] (bA (MA x i j k)) :=by
 refine bK Tryz.checked.mixed bB ?_;apply bm Tryz.func266 [];have aC:∀ n:Nat,n<32->IntKind.i64.wrap (-(n:Int))=-(n:Int) :=fun n aC=>wrap_i64 (by omega) (by omega)
 simp[aC i av.2];refine a1 (y8 x _) rfl ?_;simp[aC j ai.2];refine a1 (y8 x _) rfl ?_;simp[aC k hk.2];refine a1 (y8 x _) rfl ?_;simp[y9 x _ av.1 av.2,y9 x _ ai.1 ai.2,y9 x _ hk.1 hk.2];exact aK rfl rfl
def cc (x:B) :List U:=[bC x]
abbrev e0:=c6 B
abbrev cH (s:e0) :U:=cI 1 cc s
theorem mH (s:e0) :(cH s).closed=true:=vK (fun _=>rfl) s
def pH (b:List B) (k:Nat) :List W:=((List.range 16).map fun t=>pG (((b.take k).drop (4*t)).take 4))++List.replicate 48 0#32
theorem Zf (b:List B) (k:Nat) :(pH b k).length=64:=by simp[pH]
theorem anh (b:List B) :pH b 0=List.replicate 64 0#32:=by simp[pH,pG]; rfl
theorem Oy (b:List B) (k t:Nat) (aH:t<16) :(pH b k)[t]? = some (pG (((b.take k).drop (4*t)).take 4)) :=by
 unfold pH;rw[atV (by simpa using aH),at0,auw aH];rfl
theorem ang (b:List B) (k:Nat) (hk:k<64) (ag:k<b.length) (x:B) (af:b[k]? = some x) :
  (pH b k).set (k / 4) ((pG (((b.take k).drop (4*(k / 4))).take 4) <<< 8) ||| x.setWidth 32)=pH b (k+1) :=by
 apply auD;intro t;rw[avJ,Zf];have Vi:b.take (k+1)=b.take k++[x] :=by rw[aud,af]; rfl
 have bl:(b.take k).length=k:=by simp; omega
 by_cases aH:t<16
 ·rw[Oy b _ t aH,Oy b _ t aH];by_cases h:k / 4=t
  ·rw[if_pos h,if_pos (by omega),<-am3,Vi,h];congr 2;rw[auH (by omega)];obtain⟨A,cL⟩:∃ A,A=List.drop (4*t) (List.take k b) :=⟨_,rfl⟩
   have iV:A.length<4:=by rw[cL]; simp; omega
   rw[<-cL,atT (by omega),atT (by simp; omega)]
  ·rw[if_neg h,Vi];congr 2;rcases au9 k (4*t) with h1 | h1
   ·rw[auB (by omega),auB (by simp; omega)]
   ·rw[auH (by omega),auj (by simp; omega)]
 ·rw[if_neg (by omega)];unfold pH;rw[at8 (by simp; omega),at8 (by simp; omega)];simp
theorem anf (b:List B) (ag:64<=b.length) :pH b 64=fC b++List.replicate 48 0#32:=by
 unfold pH fC;congr 1;apply avs;intro t aH;have:=aux.1 aH;congr 1;rw[awi,avj,ava (by omega)]
def qI (b:List B) (k:Nat) :List W:=iE k (fC b)++List.replicate (48 - k) 0#32
theorem akM (b:List B) (k:Nat) (hk:k<=48) :(qI b k).length=64:=by simp[qI,xQ,fC]; omega
theorem H4 (b:List B) (k i:Nat) (av:i<16+k) :(qI b k)[i]? = some ((iE k (fC b)).getD i 0#32) :=by
 unfold qI;have al:(iE k (fC b)).length=16+k:=by simp[xQ,fC]
 rw[atV (by omega),aug,atX (by omega)];rfl
theorem akN (b:List B) (k:Nat) (hk:k<48) :(qI b k).set (16+k) (ext (iE k (fC b)))=qI b (k+1) :=by
 have al:(iE k (fC b)).length=16+k:=by simp[xQ,fC]
 unfold qI;rw[auA _ _ (by omega),al,avY,show 48 - k=(48 - (k+1))+1 by omega,auY,avU,JI];simp
set_option maxHeartbeats 4000000 in
theorem akP (b:List B) (ag:64<=b.length) :bw Tryz.prog GS 265 [cH (some b)] (.aJ ((fH b).map bA)) :=by
 refine bK Tryz.checked.mixed bB ?_;apply bm Tryz.func265 [];have ec:gq (.au 1) (cH (some b)) none (some (.int .i64 64)) none=some (cH (some (b.take 64))) :=by
  unfold cH; rw[Yd (by omega) (by omega)]; rfl
 have pd:min 64 b.length=64:=by omega
 simp[ec,pd];refine cF 64 (fun k ae l=>ae 2=.ptr 0 0 64/\ae 11=cH (some (b.take 64))/\ae 12=.int .i64 64/\ae 13=.int .i64 k/\l=[.cells 64 ((pH b k).map bA)]) ?_ ?_
 ·rintro k ae l hk ⟨aT,h2,fx,ih,rfl⟩;obtain⟨ae,rfl⟩:=iw aT h2 fx ih;clear aT h2 fx ih;simp;by_cases h:(k:Int)<64
  ·obtain⟨x,af⟩:∃ x,b[k]? = some x:=⟨_,atX (by omega)⟩
   have Do:(b.take 64)[k]? = some x:=by rw[aum (by omega)]; exact af
   have bW:cg (.au 1) (cH (some (b.take 64))) (.int .i64 k)=some (.b3 (cc x) 0) :=by simp[cH,rF,Do]
   obtain⟨q,Ay⟩:∃ q,q=k / 4:=⟨_,rfl⟩
   have aZ:cu .quo .i64 (k:Int) .i64 4=some (.int .i64 (q:Int)) :=by rw[Ay]; exact Jb k 4 (by omega) (by omega)
   have fo:IntKind.i64.wrap ((k:Int)+1)=k+1:=wrap_i64 (by omega) (by omega);have aN:(q:Int)<64:=by omega
   have ar:=Oy b k q (by omega);have ak:=oE bA (pH b k) q (((pG (((b.take k).drop (4*q)).take 4) <<< 8) ||| x.setWidth 32)) (by rw[Zf]; omega);rw[Ay,ang b k (by omega) (by omega) x af,<-Ay] at ak;have dR:q+1<=64:=by omega
   simp[h,bW,cc,aZ,aN,ar,dR,fo,ak];omega
  ·have yk:k=64:=by omega
   subst yk;simp;refine cF 48 (fun j ae l=>ae 2=.ptr 0 0 64/\ae 5=.int .i64 (16+j:Nat)/\l=[.cells 64 ((qI b j).map bA)]) ?_ ?_
   ·rintro j ae l ai ⟨aT,bh,rfl⟩;obtain⟨ae,rfl⟩:=pE aT bh;clear aT bh;obtain⟨t,aH⟩:∃ t,t=16+j:=⟨_,rfl⟩
    rw[<-aH];simp;by_cases h:(t:Int)<64
    ·have jP:IntKind.i64.wrap ((t:Int)+1)=(t+1:Nat) :=wrap_i64 (by omega) (by omega);have Im:IntKind.i64.wrap ((t:Int) - 15)=(t - 15:Nat) :=by rw[wrap_i64 (by omega) (by omega)]; omega
     have w2:IntKind.i64.wrap ((t:Int) - 2)=(t - 2:Nat) :=by rw[wrap_i64 (by omega) (by omega)]; omega
     have In:IntKind.i64.wrap ((t:Int) - 16)=(t - 16:Nat) :=by rw[wrap_i64 (by omega) (by omega)]; omega
     have EF:IntKind.i64.wrap ((t:Int) - 7)=(t - 7:Nat) :=by rw[wrap_i64 (by omega) (by omega)]; omega
     have al:(iE j (fC b)).length=t:=by simp[xQ,fC]; omega
     have sA:=H4 b j (t - 15) (by omega);have aT:=H4 b j (t - 2) (by omega);have p3:=H4 b j (t - 16) (by omega);have dC:=H4 b j (t - 7) (by omega);have ak:=oE bA (qI b j) t (ext (iE j (fC b))) (by rw[akM b j (by omega)]; omega);rw[aH,akN b j (by omega),<-aH] at ak;unfold ext at ak;rw[al] at ak
     dsimp only at ak
     obtain⟨wD,Jz⟩:∃ i,i=t - 15:=⟨_,rfl⟩
     obtain⟨eZ,bF⟩:∃ i,i=t - 2:=⟨_,rfl⟩
     obtain⟨wE,Fq⟩:∃ i,i=t - 16:=⟨_,rfl⟩
     obtain⟨jz,JA⟩:∃ i,i=t - 7:=⟨_,rfl⟩
     rw[<-Jz] at Im sA ak;rw[<-bF] at w2 aT ak;rw[<-Fq] at In p3 ak;rw[<-JA] at EF dC ak;have I2:(wD:Int)<64:=by omega
     have dB:(eZ:Int)<64:=by omega
     have I3:(wE:Int)<64:=by omega
     have tS:(jz:Int)<64:=by omega
     have dR:t+1<=64:=by omega
     generalize (iE j (fC b)).getD wD 0#32=x at sA ak;generalize (iE j (fC b)).getD eZ 0#32=y at aT ak;generalize (iE j (fC b)).getD wE 0#32=Oz at p3 ak;generalize (iE j (fC b)).getD jz 0#32=OA at dC ak;have w1:=y9 x 7 (by omega) (by omega);have Xk:=y9 x 18 (by omega) (by omega);have Xj:=y9 y 17 (by omega) (by omega);have Xl:=y9 y 19 (by omega) (by omega);simp at w1 Xk Xj Xl;simp[h,Im,w2,sA,aT,I2,dB];refine a1 (y8 _ _) rfl ?_;simp;refine a1 (y8 _ _) rfl ?_;simp;refine a1 (y8 _ _) rfl ?_;simp;refine a1 (y8 _ _) rfl ?_;simp[w1,Xk,Xj,Xl,In,EF,p3,dC,I3,tS,h,ak,jP,dR];omega
    ·have afh:j=48:=by omega
     have agp:qI b 48=fH b:=by simp[qI,fH]
     subst afh;have C3:=El b;rw[agp];simp[h,C3,nX,atT];exact aK rfl (RM bA (fun _=>rfl) _)
   ·simp[qI,iE,anf b ag]
 ·simp[anh,XK _ 32]
theorem anc (b:List B) (n:Nat) (aC:64<=n) :fC (b.take n)=fC b:=by
 unfold fC;apply avs;intro t aH;have:=aux.1 aH;congr 1;rw[awi,avj,ava (by omega)]
theorem akO (b:List B) (n:Nat) (aC:64<=n) :fH (b.take n)=fH b:=by unfold fH; rw[anc b n aC]
theorem rounds_succ:∀ (k:Nat) (s:cp) (a b:List W) (x y:W),a[k]? = some x->b[k]? = some y->rounds s (a.take (k+1)) (b.take (k+1))=round (rounds s (a.take k) (b.take k)) x y
 | 0,s,a,b,x,y,ax,ag=>by
  cases a with
  | nil=>simp at ax
  | cons a OV=>
   cases b with
   | nil=>simp at ag
   | cons b bs=>simp at ax ag; subst ax ag; simp[rounds]
 | k+1,s,a,b,x,y,ax,ag=>by
  cases a with
  | nil=>simp at ax
  | cons a OV=>
   cases b with
   | nil=>simp at ag
   | cons b bs=>
    simp only[List.take_succ_cons,rounds];exact rounds_succ k _ OV bs x y (by simpa using ax) (by simpa using ag)
def m4 (h:cp) (b:List B) (k:Nat) :cp:=rounds h (bP.take k) ((fH b).take k)
theorem Xp (h:cp) (b:List B) :m4 h b 0=h:=rfl
theorem Xo (h:cp) (b:List B) (k:Nat) (hk:k<64) :m4 h b (k+1)=round (m4 h b k) (bP.getD k 0#32) ((fH b).getD k 0#32) :=by
 have h1:bP.length=64:=rfl;have ad:=El b;refine rounds_succ k h bP (fH b) _ _ ?_ ?_
 ·rw[aug,atX (by omega)]; rfl
 ·rw[aug,atX (by omega)]; rfl
theorem Xm (h:cp) (b:List B) :m4 h b 64=rounds h bP (fH b) :=by
 have h1:bP.length=64:=rfl;have ad:=El b;unfold m4;rw[atT (by omega),atT (by omega)]
def iN (a b:List W) (k:Nat) :List W:=(List.zipWith (·+·) a b).take k++a.drop k
theorem OO (a b:List W) :iN a b 0=a:=rfl
theorem IM {a b:List W} (h:a.length=b.length) (k:Nat) :(iN a b k).length=a.length:=by simp[iN]; omega
theorem OM {a b:List W} (h:a.length=b.length) {k:Nat} (hk:k<a.length) :(iN a b k)[k]? = a[k]?:=by
 unfold iN;rw[at8 (by simp; omega)];have:(List.take k (List.zipWith (·+·) a b)).length=k:=by simp; omega
 rw[this,auC]; simp
theorem ON {a b:List W} (h:a.length=b.length) {k:Nat} {x y:W} (af:a[k]? = some x) (aA:b[k]? = some y) :(iN a b k).set k (x+y)=iN a b (k+1) :=by
 have hk:=(atU.1 af).1;unfold iN;have al:(List.take k (List.zipWith (·+·) a b)).length=k:=by simp; omega
 have aw:(List.zipWith (·+·) a b)[k]? = some (x+y) :=by rw[List.getElem?_zipWith,af,aA]
 rw[auA _ _ (by omega),al,avY,auU hk,avU,aud,aw];simp
set_option maxHeartbeats 8000000 in
theorem adq {h:cp} {b:List B} (ag:64<=b.length) {l:ao} {bk sz:Nat} {rest:List U} {x:U} {K:U->ao->Prop} (al:l[bk]? = some (.cells sz (h.l.map bA++rest))) (g5:8<=sz) (af:fX (bU l) x (cH (some b)))
  (aV:∀ junk,K (.bE []) (l.set bk (.cells sz ((grind h b).l.map bA++rest))++junk)) :cY Tryz.prog GS 258 [.ptr bk 0 sz,x] l (c:=⟨K⟩) :=by
 apply bm Tryz.func258 [[],[[0],[1],[4],[5],[6],[7],[8],[9],[10],[11],[13],[14],[15],[17],[18],[19],[2,19,15],[3],[12],[16]]];simp;refine ia (akP b ag) (.cons af .nil) (SB bA (fun _=>rfl) _) ?_;have aC:=e1 al;have ec:=El b;have g0:(l++[a2.cells 64 ((fH b).map bA)])[bk]? = some (.cells sz (h.l.map bA++rest)) :=by rw[atV aC]; exact al
 have ar:∀ i (y:W),i<8->h.l[i]? = some y->(h.l.map bA++rest)[i]? = some (bA y) :=fun i y av aA=>by
  rw[atV (by simpa [cp.l] using av),at0,aA]; rfl
 have eh:=ar 0 h.a (by omega) rfl;have q1:=ar 1 h.b (by omega) rfl;have ff:=ar 2 h.c (by omega) rfl;have iJ:=ar 3 h.d (by omega) rfl;have Xg:=ar 4 h.e (by omega) rfl;have D8:=ar 5 h.f (by omega) rfl;have Ba:=ar 6 h.g (by omega) rfl;have Xh:=ar 7 h.h (by omega) rfl;simp[nX,ec,g0,eh,q1,ff,iJ,Xg,D8,Ba,Xh];refine cF 64 (fun k ae l'=>ae 0=.ptr bk 0 sz/\ae 4=.ptr l.length 0 64/\ae 5=bA (m4 h b k).a/\ae 6=bA (m4 h b k).b/\ae 7=bA (m4 h b k).c/\ae 8=bA (m4 h b k).d/\ae 9=bA (m4 h b k).e/\ae 10=bA (m4 h b k).f/\ae 11=bA (m4 h b k).g/\ae 12=bA (m4 h b k).h/\ae 52=.int .i64 k ∧
  l'=l++[.cells 64 ((fH b).map bA)]) ?_ ?_
 ·rintro k ae l' hk ⟨ca,bD,bh,cd,dC,dw,gL,fS,h2,fx,S0,rfl⟩;obtain⟨ae,rfl⟩:=YY ca bD bh cd dC dw gL fS h2 fx S0;clear ca bD bh cd dC dw gL fS h2 fx S0;simp;by_cases e2:(k:Int)<64
  ·have fo:IntKind.i64.wrap ((k:Int)+1)=k+1:=wrap_i64 (by omega) (by omega);have hl:k<64:=by omega
   have aH:=alR k hl;have g1:(fH b)[k]? = some ((fH b).getD k 0#32) :=by rw[aug,atX (by omega)]; rfl
   rw[Xo h b k hl];generalize (fH b).getD k 0#32=kT at *
   generalize bP.getD k 0#32=mX at *
   generalize m4 h b k=s at *
   have kL:=Wg s.e 6 11 25 (by omega) (by omega) (by omega);have ki:=Wg s.a 2 13 22 (by omega) (by omega) (by omega);simp at kL ki;simp[e2,aH,g1];refine a1 kL rfl ?_;simp[aH,g1];refine a1 ki rfl ?_;simp[hl,fo];simp[round]
  ·have yk:k=64:=by omega
   subst yk;rw[Xm];obtain⟨v,aq⟩:∃ v,rounds h bP (fH b)=v:=⟨_,rfl⟩
   rw[aq];have yi:grind h b=⟨h.a+v.a,h.b+v.b,h.c+v.c,h.d+v.d,h.e+v.e,h.f+v.f,h.g+v.g,h.h+v.h⟩:=by unfold grind; rw[aq]
   simp;have lC:h.l.length=v.l.length:=rfl;have oj:h.l.length=8:=rfl;have KS:(grind h b).l=iN h.l v.l 8:=by rw[yi]; rfl
   rw[KS] at aV;refine cF 8 (fun k ae l'=>ae 0=.ptr bk 0 sz/\ae 111=.aJ (v.l.map bA)/\ae 112=.int .i64 k/\l'=l.set bk (.cells sz ((iN h.l v.l k).map bA++rest))++[.cells 64 ((fH b).map bA)]) ?_ ?_
   ·rintro k ae l' hk ⟨ca,SS,SU,rfl⟩;obtain⟨ae,rfl⟩:=kQ ca SS SU;clear ca SS SU;simp;by_cases e2:(k:Int)<8
    ·have fo:IntKind.i64.wrap ((k:Int)+1)=k+1:=wrap_i64 (by omega) (by omega);have h5:k<8:=by omega
     obtain⟨y,aA⟩:∃ y,v.l[k]? = some y:=⟨_,atX (show k<v.l.length from h5)⟩
     obtain⟨z,aw⟩:∃ z,h.l[k]? = some z:=⟨_,atX (show k<h.l.length from h5)⟩
     have ax:=OM lC (k:=k) (by rw[oj]; exact h5);rw[aw] at ax;have gG:=IM lC k;have ak:=oE bA (iN h.l v.l k) k (z+y) (by rw[gG,oj]; exact h5);rw[ON lC aw aA] at ak;have ij:((iN h.l v.l k).map bA).length=8:=by rw[auh,gG,oj]
     have js:bu ((iN h.l v.l k).map bA++rest) k [bA (z+y)]=(iN h.l v.l (k+1)).map bA++rest:=by
      rw[<-ak];unfold bu;rw[auj (by omega),auH (by simp; omega)];simp
     have nD:((iN h.l v.l k).map bA++rest)[k]? = some (bA z) :=by rw[atV (by omega),at0,ax]; rfl
     have pc:(l.set bk (.cells sz ((iN h.l v.l k).map bA++rest))++[a2.cells 64 ((fH b).map bA)])[bk]? = some (.cells sz ((iN h.l v.l k).map bA++rest)) :=by
      rw[atV (by simpa using aC),avJ]; simp[aC]
     have sN:k+1<=sz:=by omega
     simp[e2,aA,nD,pc,fo,js,h5,sN,aC,List.set_append]
    ·have h5:k=8:=by omega
     subst h5;simp;exact aV _
   ·have mn:l.set bk (.cells sz ((iN h.l v.l 0).map bA++rest))=l:=by
     rw[OO]; exact akU al
    rw[mn];simp[cp.l]
 ·simp[Xp]
abbrev nt (ls:c6 e0) :U:=cI 1 (fun s=>[cH s]) ls
theorem RL (ls:c6 e0) :(nt ls).closed=true:=vK (fun s=>by simp only[bg,mH,avP]) ls
def bytesOf (ls:List e0) :List B:=(ls.map c6.l).flatten
theorem bytesOf_take (ls:List e0) (k:Nat) (s:e0) (h:ls[k]? = some s) :bytesOf (ls.take (k+1))=bytesOf (ls.take k)++s.l:=by
 unfold bytesOf;rw[aud,h]; simp
theorem PB (ls:List e0) (k:Nat) :(bytesOf (ls.take k)).length<=(bytesOf ls).length:=by
 conv=>rhs; rw[<-auz k ls]
 unfold bytesOf;rw[auq,auM,at4];omega
theorem adu {n:Nat} (aC:n<=1000000000) {l:ao} {K:U->ao->Prop} (aV:∀ v j l',bG 1 l' v j []->l.length<=l'.length->(∀ b,b<l.length->l'[b]? = l[b]?)->(cx v=decide (n=0))->K v l') :cY Tryz.prog GS 235 [.aW,.int .i64 n] l (c:=⟨K⟩) :=by
 apply bm Tryz.func235 [];have h1:¬((n:Int)<0) :=by omega
 have hw:IntKind.i64.wrap (n:Int)=n:=wrap_i64 (by omega) (by omega);have LQ:IntKind.i64.wrap (0:Int)=0:=rfl;by_cases aE:n=0
 ·subst aE;simp;exact aV _ 0 _ (.nil 0) (atW _) (fun _ _=>rfl) rfl
 have ad:(0:Int)<n:=by omega
 have aw:q3 l 1 1 [.int .u8 0] .aW (.int .i64 n)=some (.au 1 l.length 0 n n (n*1),l++[.cells (n*1) (dy [.int .u8 0] n)]) :=by
  unfold q3 iB;simp only[au0];have az:cK=140737488355328:=rfl;rw[if_pos ⟨by omega,by omega,by rw[az]; omega⟩,if_neg aE,if_neg (by omega),if_pos (by rw[az]; omega)]
 have ak:gq (.au 1) (.au 1 l.length 0 n n (n*1)) none (some (.int .i64 0)) none=some (.au 1 l.length 0 0 n (n*1)) :=by
  rw[za,Ja,if_pos ⟨by omega,by omega⟩];simp[aE]
 rw[avo] at aw ak;have aj:0<n:=by omega
 simp[h1,ad,aj,hw,aw,LQ,ak];refine aV _ l.length (l++[.cells n (dy [.int .u8 0] n)]) (.au _ 0 n n (dy [.int .u8 0] n) [] (by simp) (by rw[Bf]; simp) rfl (by simp) (by omega) (by omega) rfl) (by simp) (fun b ag=>atV ag) ?_;simp[cx,aE]
def zI (ls:List e0) :e0:=if bytesOf ls=[] then none else some (bytesOf ls)
theorem aa9 (ls:List e0) :(zI ls).l=bytesOf ls:=by unfold zI; split<;>simp_all
set_option maxHeartbeats 4000000 in
theorem abz (ls:List e0) (al:(bytesOf ls).length<=1000000000) (C5:ls.length<=1000000000) :jI Tryz.prog GS 194 [nt (some ls)] (cH (zI ls)) :=by
 refine A8 Tryz.checked.mixed bB ?_;apply bm Tryz.func194 [];simp;have bW:∀ (k:Nat) (s:e0),ls[k]? = some s->cg (.au 1) (nt (some ls)) (.int .i64 k)=some (.b3 [cH s] 0) :=fun k s ak=>by simp[nt,rF,ak]
 refine cF ls.length (fun k ae l=>ae 0=nt (some ls)/\ae 9=nt (some ls)/\ae 10=.int .i64 ls.length/\ae 11=.int .i64 k/\ae 3=.int .i64 (bytesOf (ls.take k)).length/\l=[]) ?_ ?_
 ·rintro k ae l hk ⟨ca,gL,fS,h2,a7,rfl⟩;obtain⟨ae,rfl⟩:=lk ca a7 gL fS h2;clear ca a7 gL fS h2;simp;by_cases h:k<ls.length
  ·obtain⟨s,ak,_⟩:=bx h;have ag:=bytesOf_take ls k s ak;have dR:=PB ls (k+1);rw[ag,at4] at dR;have hw:IntKind.i64.wrap (((bytesOf (ls.take k)).length:Int)+s.l.length)=((bytesOf (ls.take k)).length:Int)+s.l.length:=wrap_i64 (by omega) (by omega);have fo:IntKind.i64.wrap ((k:Int)+1)=k+1:=wrap_i64 (by omega) (by omega);have qn:¬(((bytesOf (ls.take k)).length:Int)+s.l.length<0) :=by omega
   simp[h,bW k s ak,hw,qn,fo,ag]
  ·have cZ:k=ls.length:=by omega
   subst cZ;simp;refine adu al ?_;intro v j l ap bl _ hn;simp;refine cF ls.length (fun k ae l=>ae 25=nt (some ls)/\ae 26=.int .i64 ls.length/\ae 27=.int .i64 k/\∃ v j,ae 6=v/\bG 1 l v j ((bytesOf (ls.take k)).map cc)/\cx v=decide (bytesOf ls=[])) ?_ ?_
   ·rintro k ae l hk ⟨ku,ma,sD,v,j,cd,ap,hn⟩;obtain⟨ae,rfl⟩:=iw cd ku ma sD;clear cd ku ma sD;simp;by_cases h:k<ls.length
    ·obtain⟨s,ak,_⟩:=bx h;have ag:=bytesOf_take ls k s ak;have dR:=PB ls (k+1);rw[ag,at4] at dR;have fo:IntKind.i64.wrap ((k:Int)+1)=k+1:=wrap_i64 (by omega) (by omega);have az:cK=140737488355328:=rfl;obtain⟨aY,bM,l',h1,ad,aj,aF,aU,bt⟩:=oP (by_:=1) ap (x:=cH s) (xs:=s.l.map cc) (by simp[cH]) (fun e am=>by obtain⟨x,_,rfl⟩:=auo.1 am; rfl) (by omega) (by omega) (by simp; omega);simp[h,bW k s ak,h1];refine dT.cy ?_;simp[h,fo];refine⟨⟨bM,by rw[ag,auq]; exact ad⟩,?_⟩;rw[uL bt,hn];by_cases am:bytesOf ls=[]
     ·have aE:(bytesOf ls).length=0:=by rw[am]; rfl
      have:s.l=[] :=auE.1 (by omega);simp[am,this]
     ·simp[am]
    ·have cZ:k=ls.length:=by omega
     subst cZ;simp;rw[aun] at ap;refine ap.Ed (fun _=>rfl) _ ?_ (aa9 ls);rw[hn];unfold zI;split<;>simp_all
   ·simp;refine⟨⟨j,by simpa [bytesOf] using ap⟩,?_⟩;rw[hn];simp[auE]
 ·simp[bytesOf]
theorem abn (s:c6 B) :gv Tryz.prog .eql 136 (cI 1 cc s) .aW=some (.bool s.isNone) :=E3 (e:=5) (by kernel_rfl) 1 cc s
theorem abo {s:c6 B} (ak:s.l.length<=1000000000) {l:ao} {K:U->ao->Prop} (aV:∀ v j l',bG 1 l' v j (s.l.map cc)->l.length<=l'.length->(∀ b,b<l.length->l'[b]? = l[b]?)->(v=.aW\/l.length<=j)->cx v=s.isNone->K v l') :cY Tryz.prog GS 259 [cI 1 cc s] l (c:=⟨K⟩) :=by
 apply bm Tryz.func259 [];simp[abn];cases s with
 | none=>
  simp;exact aV _ 0 _ (.nil 0) (atW _) (fun _ _=>rfl) (.inl rfl) rfl
 | some b=>
  simp;have az:cK=140737488355328:=rfl;have sT:b.length<=1000000000:=ak;have ap:bG 1 (l++[a2.cells 0 []]) (.au 1 l.length 0 0 0 0) l.length [] :=.au l.length 0 0 0 [] [] (by simp) rfl rfl (by simp) (atW _) (by omega) rfl;obtain⟨aY,bM,l',h1,ad,aj,aF,aU,bt⟩:=oP (by_:=1) ap (x:=cI 1 cc (some b)) (xs:=b.map cc) (by simp) (fun e am=>by obtain⟨x,_,rfl⟩:=auo.1 am; rfl) (by omega) (by omega) (by simp; omega);simp[h1];refine dT.cy ?_;simp;have v7:l.length+1<=l'.length:=by simpa using aj
  refine aV _ bM _ ad (by omega) (fun b ag=>?_) (.inr (by rcases aU with h | h<;>(try simp only[at4,auf,auy] at h)<;>omega)) ?_
  ·rw[aF b (by simp; omega) (by omega),atV ag]
  ·rw[uL bt]; rfl
structure tI where
 st:cp
 rest:e0
 n:Int
def gU (s:cp) (r:U) (n:Int) :List U:=s.l.map bA++[r,.int .i64 n]
def ra (m:tI) :U:=.aJ (gU m.st (cH m.rest) m.n)
def ud (m:tI) (b:e0) :tI:=
 let all:=m.rest.l++b.l
 ⟨(hy m.st all).1,if all=[] then none else some (hy m.st all).2,m.n+b.l.length⟩
theorem abb (a b:e0) :zI [a,b]=if a.l++b.l=[] then none else some (a.l++b.l) :=by
 have:bytesOf [a,b]=a.l++b.l:=by simp[bytesOf]
 unfold zI;rw[this]
theorem adr (h:cp) (b:List B) :grind h (b.take 64)=grind h b:=by unfold grind; rw[akO b 64 (by omega)]
theorem wQ (s:cp) (r:U) (n:Int) :(gU s r n).length=10:=rfl
set_option maxHeartbeats 8000000 in
theorem Sp (m:tI) (b:e0) (al:m.rest.l.length+b.l.length<=1000000000) (aC:0<=m.n) (ol:m.n<=1000000000) :jI Tryz.prog GS 239 [ra m,cH b] (ra (ud m b)) :=by
 refine A8 Tryz.checked.mixed bB ?_;apply bm Tryz.func239 [[[0],[1],[2],[3],[4],[5],[6,1]]];have ah:(U.aJ (gU m.st (cH m.rest) m.n)).cells=some (gU m.st (cH m.rest) m.n) :=rfl;have ed:(gU m.st (cH m.rest) m.n)[8]? = some (cH m.rest) :=rfl;have TR:=abz [m.rest,b] (by simp[bytesOf]; exact al) (by simp);rw[abb] at TR;simp[ra,wQ,ed];refine W8 TR (.cons ?_ .nil) ?_
 ·exact Eb (es:=[[cH m.rest],[cH b]]) (rest:=[]) rfl rfl (by simp) (by simp[bg,mH])
 obtain⟨all,eH⟩:∃ all,all=m.rest.l++b.l:=⟨_,rfl⟩
 have gG:all.length<=1000000000:=by rw[eH]; simpa using al
 rw[<-eH];simp;refine cF (all.length / 64) (fun k ae l=>ae 1=cH b/\ae 2=.ptr 0 0 10/\ae 4=.ptr 1 0 10/\∃ h s hb junk,ae 5=cH s/\l=.cells 10 (gU h (cH m.rest) m.n) ::.cells 10 hb::junk/\hy m.st all=hy h s.l/\s.l.length=all.length - 64*k/\hb.length=10/\s.isNone=decide (all=[])) ?_ ?_
 ·rintro k ae l hk ⟨aM,aT,bD,h,s,hb,junk,bh,rfl,fb,eb,uJ,UK⟩;obtain⟨ae,rfl⟩:=iw aM aT bD bh;clear aM aT bD bh;have bl:cz (.au 1) (cH s)=some (.int .i64 s.l.length) :=qB _;simp[bl];by_cases Kb:(64:Int)<=s.l.length
  ·cases s with
   | none=>simp at Kb
   | some hZ=>
   have adx:(64:Int)<=hZ.length:=Kb;have Ti:64<=hZ.length:=by omega
   simp[adx];refine adq (h:=h) (b:=hZ) Ti (l:=.cells 10 (gU h (cH m.rest) m.n) ::.cells 10 hb::junk) (bk:=0) (sz:=10) (rest:=[cH m.rest,.int .i64 m.n]) rfl (by omega) (Xw (mH _)) (fun aqK=>?_);have ec:gq (.au 1) (cH (some hZ)) (some (.int .i64 64)) none none=some (cH (some (hZ.drop 64))) :=by
    unfold cH; rw[ak1 (by omega) (by omega)]; rfl
   simp[ec];have apT:hZ.length=all.length - 64*k:=eb;refine⟨by omega,grind h hZ,some (hZ.drop 64),rfl,hb,⟨rfl,rfl⟩,?_,?_,uJ,?_⟩
   ·rw[fb];show hy h hZ=_;rw[BW h hZ Ti,adr]; rfl
   ·simp; omega
   ·exact UK
  ·have aN:s.l.length<64:=by omega
   have hw:IntKind.i64.wrap (m.n+(b.l.length:Int))=m.n+b.l.length:=wrap_i64 (by omega) (by omega);have eG:(gU h (cH m.rest) m.n)[9]? = some (.int .i64 m.n) :=rfl;have jp:cz (.au 1) (cH b)=some (.int .i64 b.l.length) :=qB _;simp[Kb,eG,jp,hw];refine abo (by omega) ?_;intro v j l ap gk g0 ai hn;obtain⟨l',rfl⟩:∃ l',l=.cells 10 (gU h (cH m.rest) m.n) ::.cells 10 hb::l':=by
    have hM:=g0 0 (by simp);have aQ:=g0 1 (by simp);cases l with
    | nil=>simp at hM
    | cons a l=>cases l with
     | nil=>simp at aQ
     | cons c l=>simp at hM aQ; subst hM aQ; exact⟨l,rfl⟩
   have agw:∀ r n g6,bu (gU h r n) 9 [.int .i64 g6]=gU h r g6:=fun _ _ _=>rfl
   have agv:∀ r n ct,bu (gU h r n) 8 [ct]=gU h ct n:=fun _ _ _=>rfl
   have aq:=ap.cells;simp[eG,agw,agv,aq,wQ,uJ,nX];have iG:∀ r n,List.take 10 (gU h r n)=gU h r n:=fun _ _=>rfl
   rw[iG,iG];have T3:ud m b=⟨h,if all=[] then none else some s.l,m.n+b.l.length⟩:=by
    unfold ud;rw[<-eH]
    dsimp only
    rw[fb,E6 h s.l aN]
   rw[T3];have k6:=(ap.oV (l':=.cells 10 (gU h v (m.n+(b.l.length:Int))) ::.cells 10 (gU h v (m.n+(b.l.length:Int))) ::l') (by
    rcases ai with ai | ai
    ·exact .inl ai
    ·obtain⟨q,rfl⟩:∃ q,j=q+2:=⟨j - 2,by simp at ai; omega⟩
     exact .inr rfl)).Ed (fun _=>rfl) (if all=[] then none else some s.l) (by
     rw[hn,UK]; split<;>simp_all) (by
     split
     ·rename_i am; rw[am] at eb; simp at eb; rw[eb]; rfl
     ·rfl)
   refine .aJ _ _ rfl fun i c c' sL ka=>?_
   rcases i with _ | _ | _ | _ | _ | _ | _ | _ | _ | _ | i<;>simp[gU,cp.l] at sL ka
   all_goals subst sL ka
   all_goals first | exact k6 | exact .flat _ rfl
 ·simp;exact⟨m.st,(if all=[] then none else some all),rfl,⟨[.int .u32 0,.int .u32 0,.int .u32 0,.int .u32 0,.int .u32 0,.int .u32 0,.int .u32 0,.int .u32 0,.aW,.int .i64 0],⟨rfl,rfl⟩,by split<;>simp_all,by split<;>simp_all,rfl,by split<;>simp_all⟩⟩
def fz (b:List B) :U:=.aJ (b.map bC)
def nY (n k:Nat) :List B:=128#8::List.replicate ((119 - n % 64) % 64) 0#8++(B1 (BitVec.ofNat 64 n*8#64)).take k
theorem N7 (n:Nat) :nY n 8=tail n:=rfl
theorem YD (n k:Nat) (x:B) (af:(B1 (BitVec.ofNat 64 n*8#64))[k]? = some x) :nY n (k+1)=nY n k++[x] :=by
 unfold nY;rw[aud,af]; simp
theorem Ic (n k:Nat) :(nY n k).length<=80:=by
 unfold nY;have:(B1 (BitVec.ofNat 64 n*8#64)).length=8:=rfl;simp; omega
theorem Px (q:BitVec 64) (k:Nat) (hk:k<8) :(B1 q)[k]? = some ((q >>> (56 - 8*k)).setWidth 8) :=by
 match k,hk with
 | 0,_=>rfl
 | 1,_=>rfl
 | 2,_=>rfl
 | 3,_=>rfl
 | 4,_=>rfl
 | 5,_=>rfl
 | 6,_=>rfl
 | 7,_=>rfl
def qF (s:List W) (k:Nat) :List B:=((s.take k).map vg).flatten++List.replicate (32 - 4*k) 0#8
theorem Zd (s:List W) :(s.map vg).flatten.length=4*s.length:=by
 induction s with
 | nil=>rfl
 | cons w s aI=>simp[aI,vg]; omega
theorem aiY (s:List W) (k:Nat) (hk:k<=s.length) (ak:s.length=8) :(qF s k).length=32:=by
 unfold qF;rw[at4,Zd];simp; omega
theorem aiZ (s:List W) (k:Nat) (w:W) (hk:s[k]? = some w) (ak:s.length=8) :
  ((((qF s k).set (4*k) ((w >>> 24).setWidth 8)).set (4*k+1) ((w >>> 16).setWidth 8)).set (4*k+2) ((w >>> 8).setWidth 8)).set (4*k+3) (w.setWidth 8)=qF s (k+1) :=by
 have h5:=(atU.1 hk).1;unfold qF;rw[aud,hk];have cL:((s.take k).map vg).flatten.length=4*k:=by rw[Zd]; simp; omega
 obtain⟨A,wb⟩:∃ A,A=((s.take k).map vg).flatten:=⟨_,rfl⟩
 rw[<-wb] at cL ⊢;have az:32 - 4*k=(32 - 4*(k+1))+1+1+1+1:=by omega
 rw[az,auY,auY,auY,auY];rw[auA _ _ (by omega),auA _ _ (by omega),auA _ _ (by omega),auA _ _ (by omega)];simp only[cL,avY,Nat.add_sub_cancel_left,avU,awJ,auq,auM,<-wb];simp[vg]
def Fw (s:cp) (r:e0) (n:Nat) :List B:=written (hy s (r.l++tail n)).1
set_option maxHeartbeats 8000000 in
theorem ab6 (s:cp) (r:e0) (n:Nat) (az:r.l.length<=100000000) (aC:n<=100000000) :bw Tryz.prog GS 240 [ra ⟨s,r,n⟩] (fz (Fw s r n)) :=by
 refine bK Tryz.checked.mixed bB ?_;apply bm Tryz.func240 [];have eG:(gU s (cH r) n)[9]? = some (.int .i64 n) :=rfl;have ah:(U.aJ (gU s (cH r) n)).cells=some (gU s (cH r) n) :=rfl;have lJ:=BX n 64 (by omega);obtain⟨q,aZ⟩:∃ q,q=n % 64:=⟨_,rfl⟩
 rw[show ((64:Int).toNat)=64 from rfl,<-aZ] at lJ;have aqo:q<64:=by rw[aZ]; exact avL _ (by omega)
 have jP:IntKind.i64.wrap (119 - (q:Int))=(119 - q:Nat) :=by rw[wrap_i64 (by omega) (by omega)]; omega
 have GH:=BX (119 - q) 64 (by omega);rw[show ((64:Int).toNat)=64 from rfl] at GH;obtain⟨m,hm⟩:∃ m,m=(119 - q) % 64:=⟨_,rfl⟩
 rw[<-hm] at GH;have aqc:m<64:=by rw[hm]; exact avL _ (by omega)
 obtain⟨t,aH⟩:∃ t,t=119 - q:=⟨_,rfl⟩
 rw[<-aH] at jP GH;have lH:cK=140737488355328:=rfl;obtain⟨L,e6⟩:∃ L:ao,L=[a2.cells 10 (gU s (cH r) n),a2.cells 32 (rep 32 (U.int IntKind.u8 0)),a2.cells 1 [U.int IntKind.u8 128]] :=⟨_,rfl⟩
 have adP:L[0]? = some (a2.cells 10 (gU s (cH r) n)) :=by rw[e6]; rfl
 have adQ:L[1]? = some (a2.cells 32 (rep 32 (U.int IntKind.u8 0))) :=by rw[e6]; rfl
 have mK:L.length=3:=by rw[e6]; rfl
 have afR:bG 1 L (.au 1 2 0 1 1 1) 2 [[U.int IntKind.u8 128]] :=by
  rw[e6];exact .au 2 1 1 1 [.int .u8 128] _ rfl rfl rfl (by simp) (atW _) (atW _) rfl
 have afC:m<9223372036854775808:=by omega
 have dN:(List.length [[U.int IntKind.u8 128]]+m)*1<=cK:=by rw[lH]; simp; omega
 have afu:=aan (n:=m) (k:=.i64) (by_:=1) (zero:=[.int .u8 0]) afR rfl (by omega) (by omega) afC dN;obtain⟨v,j,l,h1,ap,aj,aF,aU,bt⟩:=afu;have aq:cx v=false:=by
  rw[Bool.eq_false_iff]; intro aG;rw[i2,bt] at aG;cases aG.1
 have aL:u 128#8=128:=by decide
 have am:([[U.int IntKind.u8 128]]++List.replicate m [U.int IntKind.u8 0] :List (List U))=(nY n 0).map cc:=by
  have:m=(119 - n % 64) % 64:=by rw[hm,aZ]
  unfold nY;rw[<-this];simp[cc,aL]
 rw[am] at ap;have hM:=(aF 0 (by omega) (by omega)).trans adP;have aQ:=(aF 1 (by omega) (by omega)).trans adQ;have jo:2<=j:=by rcases aU with h | h<;>omega
 simp[ra,wQ,eG,lJ,jP,GH];rw[<-e6];simp[h1];refine cF 8 (fun k ae l=>ae 1=.ptr 0 0 10/\ae 2=.ptr 1 0 32/\ae 3=da (BitVec.ofNat 64 n*8#64)/\ae 5=.int .i64 (56 - 8*(k:Int))/\∃ v j,ae 4=v/\2<=j/\cx v=false/\bG 1 l v j ((nY n k).map cc)/\l[0]? = some (a2.cells 10 (gU s (cH r) n))/\l[1]? = some (a2.cells 32 (rep 32 (U.int IntKind.u8 0)))) ?_ ?_
 ·rintro k ae l hk ⟨aM,aT,a7,bh,v,j,bD,ai,aq,ap,hM,aQ⟩;obtain⟨ae,rfl⟩:=lk aM aT a7 bD bh;clear aM aT a7 bD bh;obtain⟨c,ah⟩:∃ c:Int,c=56 - 8*(k:Int) :=⟨_,rfl⟩
  rw[<-ah];simp;by_cases h5:0<=c
  ·have Ap:k<8:=by omega
   have af:=Px (BitVec.ofNat 64 n*8#64) k Ap;have qa:c.toNat=56 - 8*k:=by omega
   have AH:IntKind.i64.wrap (c - 8)=56 - 8*((k:Int)+1) :=by rw[wrap_i64 (by omega) (by omega)]; omega
   have lL:=Ic n k;have lE:bG 1 (l++[a2.cells 1 [bC (((BitVec.ofNat 64 n*8#64) >>> (56 - 8*k)).setWidth 8)]]) v j ((nY n k).map cc) :=ap.more _;obtain⟨aY,bM,l',h1,ad,aj,aF,aU,bt⟩:=oP (by_:=1) lE (x:=.au 1 l.length 0 1 1 1) (xs:=[[bC (((BitVec.ofNat 64 n*8#64) >>> (56 - 8*k)).setWidth 8)]]) (by simp[dM]) (by simp) (by omega) (by omega) (by simp; omega);have eX:j<l.length:=by
    rcases ap.lt with h | h
    ·subst h; simp[cx] at aq
    ·exact h
   have abZ:l'[0]? = some (a2.cells 10 (gU s (cH r) n)) :=by rw[aF 0 (by simp) (by omega),atV (e1 hM)]; exact hM
   have ab0:l'[1]? = some (a2.cells 32 (rep 32 (U.int IntKind.u8 0))) :=by
    have:=e1 aQ;rw[aF 1 (by simp; omega) (by omega),atV (e1 aQ)]; exact aQ
   have gl:cx aY=false:=by rw[uL bt,aq]; rfl
   have eB:2<=bM:=by
    rcases aU with h | h
    ·omega
    ·have h:=avn (show l.length<=(l++[a2.cells 1 [bC (((BitVec.ofNat 64 n*8#64) >>> (56 - 8*k)).setWidth 8)]]).length by simp) h;omega
   simp[h5,qa,h1];refine dT.cy ?_;simp[h5,AH];exact⟨by omega,bM,eB,gl,by rw[YD n k _ af,auq]; exact ad,abZ,ab0⟩
  ·have ux:k=8:=by omega
   subst ux;rw[N7] at ap;have An:=Sp ⟨s,r,n⟩ (some (tail n)) (by have:=Ic n 8; rw[N7] at this; simp; omega) (by simp) (by simp; omega);have af:=ap.m6 (fun _=>rfl) (some (tail n)) (by rw[aq]; rfl) rfl;have T5:(ud ⟨s,r,n⟩ (some (tail n))).st=(hy s (r.l++tail n)).1:=rfl;obtain⟨F,o0⟩:∃ F,F=ud ⟨s,r,n⟩ (some (tail n)) :=⟨_,rfl⟩
   rw[<-o0] at An T5;have Ar:bg [ra ⟨s,r,n⟩]=true:=by simp[bg,ra,U.closed,gU,cp.l,mH]
   have aeS:zZ 8 0 (ra F)=some (.aJ (F.st.l.map bA)) :=rfl;have oj:F.st.l.length=8:=rfl;simp[h5,hM,wQ];refine W8 An (.cons (Xw ?_) (.cons af .nil)) ?_
   ·show (U.aJ (gU s (cH r) n)).closed=true;simp[U.closed,bg,gU,cp.l,mH]
   simp[aeS];refine cF 8 (fun k ae l=>ae 2=.ptr 1 0 32/\ae 33=.aJ (F.st.l.map bA)/\ae 34=.int .i64 k/\l[1]? = some (a2.cells 32 ((qF F.st.l k).map bC))) ?_ ?_
   ·rintro k ae l hk ⟨aT,vY,vZ,aQ⟩;obtain⟨ae,rfl⟩:=kQ aT vY vZ;clear aT vY vZ;obtain⟨Bw,bX,rfl⟩:=ama aQ;clear aQ;simp;by_cases h5:(k:Int)<8
    ·have e2:k<8:=by omega
     obtain⟨w,hw⟩:∃ w,F.st.l[k]? = some w:=⟨_,atX (show k<F.st.l.length from e2)⟩
     have cl:=aiY F.st.l k (by omega) oj;have qp:=aiZ F.st.l k w hw oj;have ll:IntKind.i64.wrap (4*(k:Int))=(4*k:Nat) :=by rw[wrap_i64 (by omega) (by omega)]; omega
     have b1:IntKind.i64.wrap (((4*k:Nat) :Int)+1)=(4*k+1:Nat) :=by rw[wrap_i64 (by omega) (by omega)]; omega
     have w2:IntKind.i64.wrap (((4*k:Nat) :Int)+2)=(4*k+2:Nat) :=by rw[wrap_i64 (by omega) (by omega)]; omega
     have ei:IntKind.i64.wrap (((4*k:Nat) :Int)+3)=(4*k+3:Nat) :=by rw[wrap_i64 (by omega) (by omega)]; omega
     have kT:IntKind.i64.wrap ((k:Int)+1)=k+1:=wrap_i64 (by omega) (by omega);obtain⟨a,ax⟩:∃ a,a=4*k:=⟨_,rfl⟩
     rw[<-ax] at ll b1 w2 ei qp;have s0:=oE bC (qF F.st.l k) a ((w >>> 24).setWidth 8) (by omega);have dE:=oE bC ((qF F.st.l k).set a ((w >>> 24).setWidth 8)) (a+1) ((w >>> 16).setWidth 8) (by simp; omega);have g9:=oE bC (((qF F.st.l k).set a ((w >>> 24).setWidth 8)).set (a+1) ((w >>> 16).setWidth 8)) (a+2) ((w >>> 8).setWidth 8) (by simp; omega);have oD:=oE bC ((((qF F.st.l k).set a ((w >>> 24).setWidth 8)).set (a+1) ((w >>> 16).setWidth 8)).set (a+2) ((w >>> 8).setWidth 8)) (a+3) (w.setWidth 8) (by simp; omega);rw[qp] at oD;have hf:(a:Int)<32:=by omega
     have dW:((a+1:Nat) :Int)<32:=by omega
     have dB:((a+2:Nat) :Int)<32:=by omega
     have gg:((a+3:Nat) :Int)<32:=by omega
     have xE:a+1<=32:=by omega
     have cW:a+1+1<=32:=by omega
     have dv:a+2+1<=32:=by omega
     have j3:a+3+1<=32:=by omega
     have d1:(a:Int)+1<32:=by omega
     have d2:(a:Int)+2<32:=by omega
     have d3:(a:Int)+3<32:=by omega
     have f1:((a:Int)+1).toNat=a+1:=by omega
     have f2:((a:Int)+2).toNat=a+2:=by omega
     have f3:((a:Int)+3).toNat=a+3:=by omega
     have A0:(0:Int)<=(a:Int)+1:=by omega
     have po:(0:Int)<=(a:Int)+2:=by omega
     have rV:(0:Int)<=(a:Int)+3:=by omega
     simp[h5,e2,hw,ll,b1,w2,ei,kT,hf,s0,dE,g9,oD,xE,cW,dv,j3,d1,d2,d3,f1,f2,f3,A0,po,rV,-List.map_set]
    ·have ux:k=8:=by omega
     subst ux;have afU:qF F.st.l 8=written F.st:=by simp[qF,written,cp.l]
     rw[afU];have wz:(written F.st).length=32:=rfl;simp[wz,nX,atT];exact aK (by unfold fz Fw; rw[T5]) (RM bC (fun _=>rfl) _)
   ·simp[aQ];rw[XK .u8 8]; rfl
 ·simp;exact⟨j,jo,aq,ap,hM,aQ⟩
structure zs (m:tI) (b:List B) :Prop where
 I7:hy first b=(m.st,m.rest.l)
 n:m.n=b.length
theorem ahm {m:tI} {b:List B} (h:zs m b) (s:e0) :zs (ud m s) (b++s.l) :=by
 have h1:hy first (b++s.l)=hy m.st (m.rest.l++s.l) :=by rw[Ps,h.I7]
 refine⟨?_,?_⟩
 ·rw[h1];unfold ud
  dsimp only
  split
  ·rename_i am;rw[am]; rfl
  ·rfl
 ·unfold ud
  dsimp only
  rw[h.n]; simp
theorem ahn {m:tI} {b:List B} (h:zs m b) :m.rest.l.length<64:=by
 have:=aaK first b
 rw[h.I7] at this;simp only at this;rw[this]; exact avL _ (by omega)
theorem ahl {m:tI} {b:List B} (h:zs m b) :Fw m.st m.rest b.length=ic b:=by
 unfold Fw ic;rw[Ps first b,h.I7]
def start:tI:=⟨first,none,0⟩
theorem aho:zs start [] :=⟨rfl,rfl⟩
theorem alB:jI Tryz.prog GS 238 [] (ra start) :=by
 refine A8 Tryz.checked.mixed bB ?_;apply bm Tryz.func238 [];simp;exact .flat _ rfl
def s4 (s:e0) :Bool:=decide ((10000:Int)<s.l.length)
theorem aib (s:e0) :bw Tryz.prog GS 237 [cH s] (.bool (s4 s)) :=by
 refine bK Tryz.checked.mixed bB ?_;apply bm Tryz.func237 [];simp[cH];exact aK rfl rfl
theorem acR:hE Tryz.prog 237=true:=by kernel_rfl
def idx (l:List e0) :Int:=match l.findIdx? s4 with | some i=>(i:Int) | none=>-1
theorem agU {l:List e0} {k:Nat} {s:e0} (ak:l[k]? = some s) (al:s4 s=true) (dH:∀ j s,j<k->l[j]? = some s->s4 s=false) :idx l=k:=by
 have:l.findIdx? s4=some k:=by
  rw[List.findIdx?_eq_some_iff_getElem];obtain⟨h1,rfl⟩:=atU.1 ak;refine⟨h1,al,fun j ai=>?_⟩;rw[dH j l[j] ai (atX (by omega))]; simp
 unfold idx; rw[this]
theorem Vs {l:List e0} (dH:∀ j s,j<l.length->l[j]? = some s->s4 s=false) :idx l=-1:=by
 have:l.findIdx? s4=none:=by
  rw[List.findIdx?_eq_none_iff];intro x af;obtain⟨j,ai⟩:=atZ.1 af;exact dH j x (atU.1 ai).1 ai
 unfold idx; rw[this]
theorem L4 (ls:c6 e0) (al:ls.l.length<=1000000000) :bw Tryz.prog GS 257 [nt ls,.fn 237 [] []] (.int .i64 (idx ls.l)) :=by
 refine bK Tryz.checked.mixed bB ?_;apply bm Tryz.func257 [];have bl:cz (.au 1) (nt ls)=some (.int .i64 ls.l.length) :=qB _;simp[bl];refine cF ls.l.length (fun k ae l=>ae 0=nt ls/\ae 1=.fn 237 [] []/\ae 7=.int .i64 ls.l.length/\ae 8=.int .i64 k/\∀ j s,j<k->ls.l[j]? = some s->s4 s=false) ?_ (by simp);rintro k ae l hk ⟨ca,aM,dC,dw,dH⟩;obtain⟨ae,rfl⟩:=iw ca aM dC dw;clear ca aM dC dw;simp;by_cases h:k<ls.l.length
 ·obtain⟨s,ak,_⟩:=bx h;have bW:cg (.au 1) (nt ls) (.int .i64 k)=some (.b3 [cH s] 0) :=by
   rw[rF]; simp[ak]
  have fo:IntKind.i64.wrap ((k:Int)+1)=k+1:=wrap_i64 (by omega) (by omega);simp[h,bW];refine⟨acR,a1 (aib s) (by simp[bg,mH]) ?_⟩;cases jq:s4 s with
  | true=>
   simp;rw[agU ak jq dH];exact aK rfl rfl
  | false=>
   simp[h,fo];intro j fp ai sT;rcases au9 j k with h1 | h1
   ·exact dH j fp h1 sT
   ·have:j=k:=by omega
    subst this;rw[ak] at sT; cases sT; exact jq
 ·simp[h];rw[Vs (fun j s ai ak=>dH j s (by omega) ak)];exact aK rfl rfl
theorem abC (ls:c6 e0) (al:ls.l.length<=1000000000) :bw Tryz.prog GS 236 [nt ls,.fn 237 [] []] (.bool (decide (0<=idx ls.l))) :=by
 refine bK Tryz.checked.mixed bB ?_;apply bm Tryz.func236 [];simp;refine a1 (L4 ls al) (by simp[bg,U.closed,RL]) ?_;simp;exact aK rfl rfl
set_option maxHeartbeats 4000000 in
theorem MZ (ls:List e0) (apz:ls.length<=20) (dH:∀ s∈ls,s.l.length<=10000) :bw Tryz.prog GS 196 [nt (some ls)] (.bE [fz (ic (bytesOf ls)),.int .i64 0]) :=by
 have wm:idx ls=-1:=Vs fun j s ai ak=>by
  have:=dH s (at3 ak);unfold s4; simp; omega
 have bl:∀ k,(bytesOf (ls.take k)).length<=200000:=fun k=>by
  have:∀ l:List e0,(∀ s∈l,s.l.length<=10000)->(bytesOf l).length<=10000*l.length:=by
   intro l
   induction l with
   | nil=>intro _; simp[bytesOf]
   | cons s l aI=>
    intro h;have h1:=aI fun x af=>h x (by simp[af])
    have ad:=h s (by simp);unfold bytesOf at h1 ⊢;rw[aus,auW,at4,auf];omega
  have h1:=this (ls.take k) fun s ak=>dH s (aur ak)
  have ad:(ls.take k).length<=20:=by simp; omega
  omega
 refine bK Tryz.checked.mixed bB ?_;apply bm Tryz.func196 [];have adv:¬(20:Int)<ls.length:=by omega
 have TU:=abC (some ls) (by simp; omega);rw[c6.yN,wm] at TU;simp[adv];refine a1 TU (by simp[bg,U.closed,RL]) ?_;simp;refine a1 alB.Ex rfl ?_;simp[ra,wQ,nX];refine cF ls.length (fun k ae l=>ae 2=.ptr 0 0 32/\ae 4=.ptr 1 0 10/\ae 16=nt (some ls)/\ae 17=.int .i64 ls.length/\ae 18=.int .i64 k/\∃ m,zs m (bytesOf (ls.take k))/\l=[.cells 32 (rep 32 (.int .u8 0)),.cells 10 (gU m.st (cH m.rest) m.n)]) ?_ ?_
 ·rintro k ae l hk ⟨aT,bD,p3,od,sB,m,hm,rfl⟩;obtain⟨ae,rfl⟩:=lk aT bD p3 od sB;clear aT bD p3 od sB;simp;have gi:(U.aJ (gU m.st (cH m.rest) m.n)).closed=true:=by simp[U.closed,bg,gU,cp.l,mH]
  have iG:List.take 10 (gU m.st (cH m.rest) m.n)=gU m.st (cH m.rest) m.n:=rfl;have lK:=ahn hm;have pe:=hm.n;have ik:=bl k;by_cases h:k<ls.length
  ·obtain⟨s,ak,gP⟩:=bx h;have bW:cg (.au 1) (nt (some ls)) (.int .i64 k)=some (.b3 [cH s] 0) :=by
    rw[rF]; simp[ak]
   have fo:IntKind.i64.wrap ((k:Int)+1)=k+1:=wrap_i64 (by omega) (by omega);have h1:=dH s gP;have aD:=Sp m s (by omega) (by omega) (by omega);have kf:=ahm hm s;rw[<-bytesOf_take ls k s ak] at kf;obtain⟨F,o0⟩:∃ F,F=ud m s:=⟨_,rfl⟩
   rw[<-o0] at aD kf;simp[h,bW,wQ,iG];refine a1 aD.Ex ?_ ?_
   ·simp only[bg,gi,mH,avP]
   simp[ra,wQ,nX,h,fo];exact⟨F,kf,rfl⟩
  ·have cZ:k=ls.length:=by omega
   subst cZ;rw[aun] at hm pe ik;have am:=ab6 m.st m.rest (bytesOf ls).length (by omega) (by omega);rw[ahl hm] at am;have iF:m=⟨m.st,m.rest,((bytesOf ls).length:Int)⟩:=by rw[<-pe]
   rw[<-iF] at am;have ec:=va (bytesOf ls);simp[h,wQ,iG];refine a1 am ?_ ?_
   ·simp only[bg,gi,avP]
   have c7:((ic (bytesOf ls)).map bC).length=32:=by rw[auh,ec]
   simp[fz,ec,nX,atT];exact aK rfl (by simp[U.closed,bg,lr bC (fun _=>rfl)])
 ·simp[bytesOf];exact⟨start,aho,rfl⟩
theorem Yy (s:e0) (h:s.l.length<=10000) :bw Tryz.prog GS 145 [cH s] (.bE [fz (ic s.l),.int .i64 0]) :=by
 have ag:bytesOf [s]=s.l:=by simp[bytesOf]
 have ay:=MZ [s] (by simp) (by simpa using h);rw[ag] at ay;refine bK Tryz.checked.mixed bB ?_;apply bm Tryz.func145 [];have ec:=va s.l;simp;refine ia ay (.cons ?_ .nil) (by simp[U.flat,l7,fz,zX bC (fun _=>rfl)]) ?_
 ·exact Eb (es:=[[cH s]]) (rest:=[]) rfl rfl (by simp) (by simp[bg,mH])
 simp[fz,ec,nX,atT];exact aK rfl (by simp[U.closed,bg,lr bC (fun _=>rfl)])
theorem tC (x:W) (n:Nat) (aE:0<n) (h:n<32) :bw Tryz.prog GS 226 [bA x,.int .i64 n] (bA (nS x n)) :=by
 refine bK Tryz.checked.mixed bB ?_;apply bm Tryz.func226 [];have hw:IntKind.i64.wrap (32 - (n:Int))=(32 - n:Nat) :=by rw[wrap_i64 (by omega) (by omega)]; omega
 obtain⟨m,hm⟩:∃ m,m=32 - n:=⟨_,rfl⟩
 rw[<-hm] at hw;simp[hw];exact aK (by unfold nS; rw[hm]) rfl
def eV (x:W) :List U:=[bA x]
set_option maxHeartbeats 4000000 in
theorem abA:jI Tryz.prog GS 227 [] (cI 1 eV (some bP)) :=by
 refine A8 Tryz.checked.mixed bB ?_;apply bm Tryz.func227 [];simp;exact Xz (z:=1) (es:=bP.map eV) (rest:=[]) (by kernel_rfl) (by kernel_rfl) (fun e am=>by obtain⟨y,_,rfl⟩:=auo.1 am; rfl) (fun e am=>by obtain⟨y,_,rfl⟩:=auo.1 am; rfl)
theorem acM:bw Tryz.prog GS 125 [] (.aJ (first.l.map bA)) :=by
 refine bK Tryz.checked.mixed bB ?_;apply bm Tryz.func125 [];simp;exact aK rfl rfl
theorem ana (b:List B) (t:Nat) (hf dW dB gg:B) (aE:b[4*t]? = some hf) (h1:b[4*t+1]? = some dW) (ad:b[4*t+2]? = some dB) (aj:b[4*t+3]? = some gg) :
  pG ((b.drop (4*t)).take 4)=((hf.setWidth 32*256#32+dW.setWidth 32)*256#32+dB.setWidth 32)*256#32+gg.setWidth 32:=by
 have h:(b.drop (4*t)).take 4=[hf,dW,dB,gg] :=by
  have al:=(atU.1 aj).1;apply auD;intro i
  match i with
  | 0=>simp[aE]
  | 1=>simp[h1]
  | 2=>simp[ad]
  | 3=>simp[aj]
  | i+4=>rw[at6 (by simp; omega),at6 (by simp)]
 rw[h];show ((((0#32 <<< 8 ||| hf.setWidth 32) <<< 8 ||| dW.setWidth 32) <<< 8 ||| dB.setWidth 32) <<< 8 ||| gg.setWidth 32)=_;rw[H5,H5,H5,H5];simp
end g3

end Go.cb

/-
  Ids looked up in a list, walked.
-/
import Derived.Test.YtobphgccoalchaaGreatDoorOi
set_option linter.unusedVariables false
set_option linter.unusedSimpArgs false
set_option linter.unnecessarySimpa false
namespace Go.cb
open Go Go.Proofs
set_option maxRecDepth 100000
namespace Op
open g3
def i3 {α:Type} [DecidableEq α] (x:α) :List α->Nat->Int
 | [],_=>-1
 | y::r,k=>if y=x then (k:Int) else i3 x r (k+1)
theorem yJ {α:Type} [DecidableEq α] (x:α) :∀ (l:List α) (k:Nat),(0<=i3 x l k)<->x∈l
 | [],k=>by simp[i3]
 | y::r,k=>by
  unfold i3;by_cases h:y=x
  ·simp[h]
  ·rw[if_neg h,yJ x r (k+1)];simp[Ne.symm h]
theorem AP {α:Type} [DecidableEq α] {x:α}:∀ {l:List α} {k n:Nat} {y:α},l[k]? = some y->(∀ (j:Nat) (z:α),j<k->l[j]? = some z->z≠x)->y=x->i3 x l n=((n+k:Nat) :Int)
 | [],k,n,y,h,_,_=>by simp at h
 | w::r,0,n,y,h,_,aA=>by
  simp at h; subst h;unfold i3;rw[if_pos aA]; simp
 | w::r,k+1,n,y,h,al,aA=>by
  unfold i3;rw[if_neg (al 0 w (by omega) (by simp)),AP (k:=k) (n:=n+1) (by simpa using h) (fun j z ai aw=>al (j+1) z (by omega) (by simpa using aw)) aA];congr 1; omega
theorem Me {α:Type} [DecidableEq α] {x:α}:∀ {l:List α} {n:Nat},(∀ (j:Nat) (z:α),l[j]? = some z->z≠x)->i3 x l n=-1
 | [],n,_=>rfl
 | w::r,n,al=>by
  unfold i3;rw[if_neg (al 0 w (by simp)),Me fun j z aw=>al (j+1) z (by simpa using aw)]
theorem amO (s:ez) (ap:fU s) (al:s.l.length<=1000000) (x:List B) (af:x.length=32) :bw Tryz.prog GS 116 [aR s,.aJ (aS x)] (.int .i64 (i3 x s.l 0)) :=by
 refine bK Tryz.checked.mixed bB ?_;apply bm Tryz.func116 [];simp[aR];refine cF s.l.length (fun k ae l=>l=[.cells 32 (aS x)]/\ae 0=cI 32 aS s/\ae 3=.ptr 0 0 32/\ae 7=.int .i64 s.l.length/\ae 8=.int .i64 k/\∀ (j:Nat) (z:List B),j<k->s.l[j]? = some z->z≠x) ?_ (by simp[aR,cM af]);rintro k ae l hk ⟨rfl,ca,a7,dC,dw,ak⟩;obtain⟨ae,rfl⟩:=iw ca a7 dC dw;clear ca a7 dC dw;simp;refine ip (fun h=>?_) (fun h=>?_)
 ·simp only[decide_eq_true_eq] at h;obtain⟨y,aA,cm⟩:=bx (l:=s.l) (k:=k) (by omega);have aQ:IntKind.i64.wrap ((k:Int)+1)=((k+1:Nat) :Int) :=by rw[IntKind.wrap_i64]; omega
  simp[aA,cM (ap y cm),cM af,atT,G4 af (ap y cm)];by_cases am:x=y
  ·have fJ:=AP (n:=0) aA ak am.symm;simp[am];exact aK (by rw[<-am,fJ]; simp) rfl
  ·simp[am,aQ];refine⟨by omega,fun j z ai aw=>?_⟩;by_cases fk:j=k
   ·subst fk; rw[aA] at aw; obtain rfl:=Option.some.inj aw; exact fun h=>am h.symm
   ·exact ak j z (by omega) aw
 ·simp[h];have hj:k=s.l.length:=by simp at h; omega
  exact aK (by rw[Me fun j z aw=>ak j z (by rw[hj]; exact (atU.1 aw).1) aw]) rfl
theorem EG (s:ez) (ap:fU s) (al:s.l.length<=1000000) (x:List B) (af:x.length=32) :bw Tryz.prog GS 70 [aR s,.aJ (aS x)] (.bool (decide (x∈s.l))) :=by
 refine bK Tryz.checked.mixed bB ?_;apply bm Tryz.func70 [];simp[cM af,atT];refine a1 (amO s ap al x af) (by have:=e5 s; have:=fE x; simp_all [bg,U.closed]) ?_;simp;exact aK (congrArg U.bool (by simp only[yJ])) rfl
theorem Xq (s:ez) (ap:fU s) (al:s.l.length<=1000000) (x:List B) (af:x.length=32) :bw Tryz.prog GS 79 [aR s,.aJ (aS x)] (.bool (decide (x∈s.l))) :=by
 refine bK Tryz.checked.mixed bB ?_;apply bm Tryz.func79 [];simp[aR];refine cF s.l.length (fun k ae l=>l=[.cells 32 (aS x)]/\ae 0=cI 32 aS s/\ae 3=.ptr 0 0 32/\ae 5=.int .i64 k/\∀ (j:Nat) (z:List B),j<k->s.l[j]? = some z->z≠x) ?_ (by simp[aR,cM af]);rintro k ae l hk ⟨rfl,ca,a7,bh,ak⟩;obtain⟨ae,rfl⟩:=kQ ca a7 bh;clear ca a7 bh;simp;refine ip (fun h=>?_) (fun h=>?_)
 ·simp only[decide_eq_true_eq] at h;obtain⟨y,aA,cm⟩:=bx (l:=s.l) (k:=k) (by omega);have aQ:IntKind.i64.wrap ((k:Int)+1)=((k+1:Nat) :Int) :=by rw[IntKind.wrap_i64]; omega
  simp[aA,cM (ap y cm),cM af,atT,G4 (ap y cm) af];by_cases am:y=x
  ·simp[am];exact aK (congrArg U.bool (decide_eq_true (by rw[<-am]; exact cm)).symm) rfl
  ·simp[am,aQ];refine⟨by omega,fun j z ai aw=>?_⟩;by_cases fk:j=k
   ·subst fk; rw[aA] at aw; obtain rfl:=Option.some.inj aw; exact am
   ·exact ak j z (by omega) aw
 ·simp[h];have hj:k=s.l.length:=by simp at h; omega
  refine aK (congrArg U.bool (decide_eq_false fun hm=>?_).symm) rfl;obtain⟨j,ai⟩:=atZ.1 hm;exact ak j x (by rw[hj]; exact (atU.1 ai).1) ai rfl
theorem Xn (s:ez) (ap:fU s) (al:s.l.length<=1000000) (x:List B) (af:x.length=32) :bw Tryz.prog GS 75 [aR s,.aJ (aS x)] (.int .i64 (i3 x s.l 0)) :=by
 refine bK Tryz.checked.mixed bB ?_;apply bm Tryz.func75 [];simp[aR];refine cF s.l.length (fun k ae l=>l=[.cells 32 (aS x)]/\ae 0=cI 32 aS s/\ae 3=.ptr 0 0 32/\ae 5=.int .i64 k/\∀ (j:Nat) (z:List B),j<k->s.l[j]? = some z->z≠x) ?_ (by simp[aR,cM af]);rintro k ae l hk ⟨rfl,ca,a7,bh,ak⟩;obtain⟨ae,rfl⟩:=kQ ca a7 bh;clear ca a7 bh;simp;refine ip (fun h=>?_) (fun h=>?_)
 ·simp only[decide_eq_true_eq] at h;obtain⟨y,aA,cm⟩:=bx (l:=s.l) (k:=k) (by omega);have aQ:IntKind.i64.wrap ((k:Int)+1)=((k+1:Nat) :Int) :=by rw[IntKind.wrap_i64]; omega
  simp[aA,cM (ap y cm),cM af,atT,G4 (ap y cm) af];by_cases am:y=x
  ·have fJ:=AP (n:=0) aA ak am;simp[am];exact aK (by rw[fJ]; simp) rfl
  ·simp[am,aQ];refine⟨by omega,fun j z ai aw=>?_⟩;by_cases fk:j=k
   ·subst fk; rw[aA] at aw; obtain rfl:=Option.some.inj aw; exact fun h=>am h
   ·exact ak j z (by omega) aw
 ·simp[h];have hj:k=s.l.length:=by simp at h; omega
  exact aK (by rw[Me fun j z aw=>ak j z (by rw[hj]; exact (atU.1 aw).1) aw]) rfl
def kr (l cJ:List (List B)) :Bool:=decide (∀ p∈cJ,p∈l)
theorem Na (s:ez) (ap:fU s) (al:s.l.length<=1000000) (t:ez) (aH:fU t) (lL:t.l.length<=1000000) :bw Tryz.prog GS 80 [aR s,aR t] (.bool (kr s.l t.l)) :=by
 refine bK Tryz.checked.mixed bB ?_;apply bm Tryz.func80 [];have ci:=e5 s;have aN:cz (.au 32) (aR t)=some (.int .i64 t.l.length) :=by simp[aR]
 simp;refine cF t.l.length (fun k ae l=>ae 0=aR s/\ae 1=aR t/\ae 5=.int .i64 k/\∀ (j:Nat) (z:List B),j<k->t.l[j]? = some z->z∈s.l) ?_ (by simp);rintro k ae l hk ⟨ca,aM,bh,ak⟩;obtain⟨ae,rfl⟩:=kQ ca aM bh;clear ca aM bh;by_cases cZ:k<t.l.length
 ·obtain⟨y,aA,cm⟩:=bx cZ;have aQ:IntKind.i64.wrap ((k:Int)+1)=((k+1:Nat) :Int) :=by rw[IntKind.wrap_i64]; omega
  have bW:cg (.au 32) (aR t) (.int .i64 (k:Int))=some (.b3 (aS y) 0) :=by simp[aR,aA]
  have jm:=fE y;have fI:=Xn s ap al y (aH y cm);have b8:=cM (aH y cm);have UI:=yJ y s.l 0;obtain⟨Y,ef⟩:∃ Y,Y=aS y:=⟨_,rfl⟩
  rw[<-ef] at bW jm fI b8;simp[aN,cZ,bW,b8,atT];refine a1 fI (by simp[bg,U.closed,ci,jm]) ?_;by_cases hm:y∈s.l
  ·have ad:¬ i3 y s.l 0<0:=by have:=UI.2 hm; omega
   simp[ad,cZ,aQ];intro j z ai aw;by_cases fk:j=k
   ·subst fk; rw[aA] at aw; obtain rfl:=Option.some.inj aw; exact hm
   ·exact ak j z (by omega) aw
  ·have ad:i3 y s.l 0<0:=by
    rcases Int.lt_or_le (i3 y s.l 0) 0 with h | h
    ·exact h
    ·exact absurd (UI.1 h) hm
   simp[ad];exact aK (congrArg U.bool (decide_eq_false fun h=>hm (h y cm)).symm) rfl
 ·have hj:k=t.l.length:=by omega
  simp[aN,cZ];refine aK (congrArg U.bool (decide_eq_true fun p ay=>?_).symm) rfl;obtain⟨j,ai⟩:=atZ.1 ay;exact ak j p (by rw[hj]; exact (atU.1 ai).1) ai
theorem y7 {l:List (List B)} (h:dO l=true) :∀ {i j:Nat} {a b:List B},i<j->l[i]? = some a->l[j]? = some b->cq a b<0:=by
 have aE:=of_decide_eq_true h;intro i j
 induction j with
 | zero=>intro a b hi; omega
 | succ j aI=>
  intro a b hi ax ag;have eX:=(atU.1 ag).1;have h1:=aE (j+1) eX (by omega);obtain⟨c,ah,_⟩:=bx (l:=l) (k:=j) (by omega);rw[show j+1 - 1=j by omega,fK ah,fK ag] at h1;by_cases afb:i=j
  ·subst afb;rw[ax] at ah;obtain rfl:=Option.some.inj ah;exact h1
  ·exact ua _ _ _ (aI (by omega) ax ah) h1
theorem akq {l:List (List B)} (h:dO l=true) {i j:Nat} {a:List B} (ax:l[i]? = some a) (ag:l[j]? = some a) :i=j:=by
 rcases au8 i j with h1 | h1 | h1
 ·have:=y7 h h1 ax ag; rw[oU] at this; omega
 ·exact h1
 ·have:=y7 h h1 ag ax; rw[oU] at this; omega
def q6 (l:List (List B)) (x:List B) :Nat:=(l.takeWhile fun t=>decide (cq t x<0)).length
theorem Jq (x:List B) :∀ {l:List (List B)} {p:Nat},p<=l.length->(∀ (t:Nat) (y:List B),t<p->l[t]? = some y->cq y x<0)->(∀ y,l[p]? = some y->¬ cq y x<0)->q6 l x=p
 | [],p,ay,_,_=>by simp at ay; subst ay; rfl
 | y::l,0,_,_,ad=>by
  have:=ad y (by simp);unfold q6;rw[avu,decide_eq_false this]; rfl
 | y::l,p+1,ay,h1,ad=>by
  have aA:=h1 0 y (by omega) (by simp);have aI:=Jq x (l:=l) (p:=p) (by simpa using ay) (fun t z aH aw=>h1 (t+1) z (by omega) (by simpa using aw)) (fun z aw=>ad z (by simpa using aw));unfold q6 at aI ⊢;rw[avu,decide_eq_true aA];simpa using aI
theorem akX (n:Nat) (h:n<9223372036854775808) :cu .shr .u64 (n:Int) .u64 1=some (.int .u64 ((n / 2:Nat) :Int)) :=by
 have:=tU (BitVec.ofNat 64 n) .u64 1;have aL:(u (BitVec.ofNat 64 n) :Int)=n:=by unfold u; rw[auc,at7 (by omega)]
 have aq:(u (BitVec.ofNat 64 n >>> 1) :Int)=((n / 2:Nat) :Int) :=by
  unfold u; rw[auL,auc,at7 (by omega),auk]
 rw[aL,aq] at this;exact this
structure Zu (s:ez) (X:List U) (x:List B) (m:Nat) (ae:a8) (l:ao) :Prop where
 ex:∃ (i j:Nat),j - i=m/\i<=j/\j<=s.l.length/\l=[.cells 32 X]/\ae 0=aR s/\ae 2=.fn 149 [] []/\ae 4=.ptr 0 0 32/\ae 8=.int .i64 s.l.length/\ae 9=.int .i64 i/\ae 10=.int .i64 j ∧
  (∀ (t:Nat) (y:List B),t<i->s.l[t]? = some y->cq y x<0)/\(∀ (t:Nat) (y:List B),j<=t->s.l[t]? = some y->¬ cq y x<0)
theorem X6 (s:ez) (ap:fU s) (al:s.l.length<=1000000) (x:List B) (af:x.length=32) (hm:dO s.l=true) :
  bw Tryz.prog GS 164 [aR s,.aJ (aS x),.fn 149 [] []] (.bE [.int .i64 (q6 s.l x),.bool (decide (x∈s.l))]) :=by
 refine bK Tryz.checked.mixed bB ?_;apply bm Tryz.func164 [];have bl:cz (.au 32) (aR s)=some (.int .i64 s.l.length) :=by simp[aR]
 have bf:=cM af;have jv:=fE x;have gi:∀ y∈s.l,bw Tryz.prog GS 149 [.aJ (aS y),.aJ (aS x)] (.int .i64 (cq y x)) :=fun y aA=>zL y x (ap y aA) af
 obtain⟨X,cQ⟩:∃ X,X=aS x:=⟨_,rfl⟩
 rw[<-cQ] at bf jv gi ⊢;simp[bl];refine uS (Zu s X x) ?_ s.l.length _ _ ⟨0,s.l.length,by omega,by omega,by omega,by simp[bf],by simp,by simp,by simp[bf],by simp,by simp,by simp,fun t y h=>by omega,fun t y h ad=>by rw[at6 h] at ad; cases ad⟩;rintro m ae l ⟨i,j,gb,hi,eX,rfl,ca,aT,bD,dw,gL,fS,h1,ad⟩;obtain⟨ae,rfl⟩:=zi ca aT bD dw gL fS;clear ca aT bD dw gL fS;by_cases aN:i<j
 ·obtain⟨h,aG⟩:∃ h,h=(i+j) / 2:=⟨_,rfl⟩
  have b1:IntKind.i64.wrap ((i:Int)+j)=((i+j:Nat) :Int) :=by rw[IntKind.wrap_i64]; omega
  have w2:IntKind.u64.wrap ((i+j:Nat) :Int)=((i+j:Nat) :Int) :=by rw[vh,avh]; unfold u; rw[auc,at7 (by omega)]
  have ei:=akX (i+j) (by omega);have n0:IntKind.i64.wrap (h:Int)=(h:Int) :=by rw[IntKind.wrap_i64]; omega
  have qS:IntKind.i64.wrap ((h:Int)+1)=((h+1:Nat) :Int) :=by rw[IntKind.wrap_i64]; omega
  have iX:(i:Int)<(j:Int) :=by omega
  rw[<-aG] at ei;obtain⟨y,aA,cm⟩:=bx (l:=s.l) (k:=h) (by omega);have b8:=cM (ap y cm);have oo:=fE y;have bW:cg (.au 32) (aR s) (.int .i64 (h:Int))=some (.b3 (aS y) 0) :=by simp[aR,aA]
  have jm:=gi y cm;obtain⟨Y,ef⟩:∃ Y,Y=aS y:=⟨_,rfl⟩
  rw[<-ef] at b8 oo bW jm;obtain⟨N,fv⟩:∃ N,N=i+j:=⟨_,rfl⟩
  rw[<-fv] at b1 w2 ei;simp[aN,b1,w2,ei,n0,bW,b8,bf,atT];refine⟨JO,a1 jm (by simp[bg,U.closed,oo,jv]) ?_⟩;by_cases bt:cq y x<0
  ·simp[bt,qS];refine⟨j - (h+1),by omega,h+1,j,rfl,by omega,by omega,by simp,by simp,by simp,by simp,by simp,by simp,by simp,fun t z aH aw=>?_,ad⟩;by_cases LJ:t=h
   ·subst LJ; rw[aA] at aw; obtain rfl:=Option.some.inj aw; exact bt
   ·exact ua _ _ _ (y7 hm (by omega) aw aA) bt
  ·simp[bt];refine⟨h - i,by omega,i,h,rfl,by omega,by omega,by simp,by simp,by simp,by simp,by simp,by simp,by simp,h1,fun t z aH aw c8=>bt ?_⟩;by_cases LJ:t=h
   ·subst LJ; rw[aA] at aw; obtain rfl:=Option.some.inj aw; exact c8
   ·exact ua _ _ _ (y7 hm (by omega) aA aw) c8
 ·have iX:¬ (i:Int)<(j:Int) :=by omega
  obtain rfl:i=j:=by omega
  have ah:=Jq x (l:=s.l) (p:=i) eX h1 (fun y aA=>ad i y (atW _) aA);have k3:∀ {y:List B},s.l[i]? = some y->(y=x<->x∈s.l) :=fun {y} aA=>by
   constructor
   ·rintro rfl; exact at3 aA
   ·intro Do;obtain⟨t,aH⟩:=atZ.1 Do;rcases au8 t i with aj | aj | aj
    ·have:=h1 t x aj aH; rw[oU] at this; omega
    ·subst aj; rw[aA] at aH; exact Option.some.inj aH
    ·exact absurd (y7 hm aj aA aH) (ad i y (atW _) aA)
  by_cases c7:i<s.l.length
  ·have KX:(i:Int)<(s.l.length:Int) :=by omega
   obtain⟨y,aA,cm⟩:=bx (l:=s.l) (k:=i) c7;have b8:=cM (ap y cm);have oo:=fE y;have bW:cg (.au 32) (aR s) (.int .i64 (i:Int))=some (.b3 (aS y) 0) :=by simp[aR,aA]
   have jm:=gi y cm;have CV:cq y x=0<->x∈s.l:=by
    rw[<-k3 aA];exact⟨su,fun h=>by rw[h]; exact oU _⟩
   obtain⟨Y,ef⟩:∃ Y,Y=aS y:=⟨_,rfl⟩
   rw[<-ef] at b8 oo bW jm;simp[c7,bW,b8,bf,atT];refine⟨JO,a1 jm (by simp[bg,U.closed,oo,jv]) ?_⟩;simp;refine aK ?_ rfl;rw[ah];simp[CV]
  ·have KX:¬ (i:Int)<(s.l.length:Int) :=by omega
   simp[c7];refine aK ?_ rfl;have dH:¬ x∈s.l:=fun Do=>by
    obtain⟨t,aH⟩:=atZ.1 Do;have:=h1 t x (by have:=(atU.1 aH).1; omega) aH;rw[oU] at this; omega
   rw[ah,decide_eq_false dH]
theorem xI {l:List (List B)} (hm:dO l=true) {k:Nat} {x:List B} (h:l[k]? = some x) :q6 l x=k:=
 Jq x (av0 (atU.1 h).1) (fun t y aH aA=>y7 hm aH aA h) (fun y aA=>by rw[h] at aA; obtain rfl:=Option.some.inj aA; rw[oU]; omega)
structure bi where
 ids:ez
 ops:c6 bq
def bZ (s:c6 bq) :U:=cI 11 bd s
def ds (g:bi) :List U:=[aR g.ids,bZ g.ops]
def cS (g:bi) :U:=.aJ (ds g)
structure ft (g:bi) :Prop where
 ids:fU g.ids
 ops:∀ o∈g.ops.l,ko o
 li:g.ids.l.length<=1000000
 cV:g.ops.l.length<=1000000
theorem lu (s:c6 bq) :(bZ s).closed=true:=vK l6 s
theorem abr (g:bi) :bg (ds g)=true:=by have:=e5 g.ids; have:=lu g.ops; simp[ds,bg, *]
theorem Fj (g:bi) :(cS g).closed=true:=by simp[cS,U.closed,abr]
def c4 (ops:List bq) (i:Nat) :List (List B) :=match ops[i]? with | some o=>o.bp.l | none=>[]
theorem m1 {ops:List bq} {i:Nat} {o:bq} (h:ops[i]? = some o) :c4 ops i=o.bp.l:=by unfold c4; rw[h]
inductive pL (ids:List (List B)) (ops:List bq) :Nat->Prop
 | mk (i:Nat) (av:i<ids.length) (ay:∀ p∈c4 ops i,p∈ids) (ar:∀ p∈c4 ops i,∀ j,ids[j]? = some p->pL ids ops j) :pL ids ops i
theorem pL.lt {ids:List (List B)} {ops:List bq} {i:Nat} (h:pL ids ops i) :i<ids.length:=by cases h; assumption
def iL (ids:List (List B)) :Prop:=∀ (i j:Nat) (x:List B),ids[i]? = some x->ids[j]? = some x->i=j
theorem mu {ids:List (List B)} (h:dO ids=true) :iL ids:=fun _ _ _ h1 ad=>akq h h1 ad
theorem vb:∀ {a b:List Nat},a.Nodup->(∀ x∈a,x∈b)->a.length<=b.length
 | [],_,_,_=>au7 _
 | x::a,b,aC,ak=>by
  rw[awb] at aC;have af:=ak x (by simp);have aI:=vb (b:=b.erase x) aC.2 (fun y aA=>(List.mem_erase_of_ne (fun e=>aC.1 (by rw[<-e]; exact aA))).2 (ak y (by simp[aA])));rw[awX af] at aI;have:=List.length_pos_of_mem af;simp; omega
def tV (ids:List (List B)) (ops:List bq) (out:List Nat) (i:Nat) :Bool:=decide (i∉out)&&kr (out.map (b2 ids)) (c4 ops i)
def lT (ids:List (List B)) (ops:List bq) (out:List Nat) :Option Nat:=(List.range ops.length).find? (tV ids ops out)
def gn (ids:List (List B)) (ops:List bq) :Nat->List Nat
 | 0=>[]
 | k+1=>match lT ids ops (gn ids ops k) with | some i=>gn ids ops k++[i] | none=>gn ids ops k
def tg (ids:List (List B)) (ops:List bq) :List Nat:=gn ids ops ops.length
theorem aiM {ids:List (List B)} {ops:List bq} {out:List Nat} {i:Nat} (h:lT ids ops out=some i) :i<ops.length/\i∉out/\∀ p∈c4 ops i,p∈out.map (b2 ids) :=by
 have h1:=List.find?_some h;have ad:=awO h;unfold tV at h1;rw[atY,decide_eq_true_eq] at h1;exact⟨aux.1 ad,h1.1,of_decide_eq_true h1.2⟩
theorem aiL {ids:List (List B)} {ops:List bq} {out:List Nat} (h:lT ids ops out=none) {i:Nat} (av:i<ops.length) (ap:i∉out) :¬ ∀ p∈c4 ops i,p∈out.map (b2 ids) :=by
 intro aG;have:=List.find?_eq_none.1 h i (aux.2 av);apply this;unfold tV;rw[atY];exact⟨decide_eq_true ap,decide_eq_true aG⟩
theorem aiJ {ids:List (List B)} {ops:List bq} {out:List Nat} {i:Nat} (av:i<ops.length) (h:tV ids ops out i=true) (ag:∀ j,j<i->tV ids ops out j=false) :lT ids ops out=some i:=by
 unfold lT;rw[List.find?_range_eq_some];exact⟨h,by simpa using av,fun j ai=>by rw[ag j ai]; rfl⟩
theorem aiK {ids:List (List B)} {ops:List bq} {out:List Nat} (ag:∀ j,j<ops.length->tV ids ops out j=false) :lT ids ops out=none:=by
 unfold lT;rw[List.find?_eq_none];intro j ai;rw[ag j (aux.1 ai)]; simp
theorem MO {ids:List (List B)} {ops:List bq} {k i:Nat} (h:lT ids ops (gn ids ops k)=some i) :gn ids ops (k+1)=gn ids ops k++[i] :=by
 show (match lT ids ops (gn ids ops k) with | some i=>gn ids ops k++[i] | none=>gn ids ops k)=_;rw[h]
theorem WG {ids:List (List B)} {ops:List bq} {k:Nat} (h:lT ids ops (gn ids ops k)=none) :gn ids ops (k+1)=gn ids ops k:=by
 show (match lT ids ops (gn ids ops k) with | some i=>gn ids ops k++[i] | none=>gn ids ops k)=_;rw[h]
theorem DZ (ids:List (List B)) (ops:List bq) (aC:ids.length=ops.length) (ai:iL ids) :∀ k,(gn ids ops k).Nodup/\(gn ids ops k).length<=k/\∀ i∈gn ids ops k,i<ops.length/\pL ids ops i
 | 0=>⟨aw9,atW _,fun i av=>by cases av⟩
 | k+1=>by
  obtain⟨h1,ad,aj⟩:=DZ ids ops aC ai k;cases af:lT ids ops (gn ids ops k) with
  | none=>rw[WG af]; exact⟨h1,by omega,aj⟩
  | some i=>
   rw[MO af];obtain⟨aX,a6,a3⟩:=aiM af;refine⟨?_,by simp; omega,fun j wn=>?_⟩
   ·rw[au1];refine⟨h1,by simp,fun x af y aA e=>?_⟩;rw[aui] at aA;subst e;rw[aA] at af;exact a6 af
   ·rw[aup,aui] at wn;rcases wn with wn | rfl
    ·exact aj j wn
    ·have fI:∀ t,t<ids.length->ids[t]? = some (b2 ids t) :=fun t aH=>by
      obtain⟨x,af,_⟩:=bx (l:=ids) aH;rw[af,fK af]
     refine⟨aX,.mk j (by omega) (fun p ay=>?_) fun p ay jx gw=>?_⟩
     ·obtain⟨t,aH,rfl⟩:=auo.1 (a3 p ay);exact at3 (fI t (by have:=(aj t aH).1; omega))
     ·obtain⟨t,aH,rfl⟩:=auo.1 (a3 p ay);obtain⟨dW,dB⟩:=aj t aH;rw[ai jx t _ gw (fI t (by omega))];exact dB
theorem MN {ids:List (List B)} {ops:List bq} {k:Nat} (h:lT ids ops (gn ids ops k)=none) :∀ m,gn ids ops (k+m)=gn ids ops k
 | 0=>rfl
 | m+1=>by
  have aI:=MN h m;rw[<-avx,WG (by rw[aI]; exact h),aI]
theorem Wp {n:Nat} {l:List Nat} (aC:l.Nodup) (al:l.length=n) (ag:∀ i∈l,i<n) :∀ i,i<n->i∈l:=by
 intro i av;apply Classical.byContradiction;intro dH;have:=vb (a:=i::l) (b:=List.range n) (awb.2 ⟨dH,aC⟩) (fun x af=>by
  rw[auG] at af;rcases af with rfl | af
  ·exact aux.2 av
  ·exact aux.2 (ag x af))
 simp[al] at this;omega
theorem WH {ids:List (List B)} {ops:List bq} (aC:ids.length=ops.length) (ai:iL ids) :(tg ids ops).length=ops.length<->∀ i,i<ops.length->pL ids ops i:=by
 obtain⟨h1,ad,aj⟩:=DZ ids ops aC ai ops.length;constructor
 ·intro h i av;exact (aj i (Wp h1 h (fun i av=>(aj i av).1) i av)).2
 ·intro h;have o8:∀ k,k<=ops.length->(gn ids ops k).length=k\/∃ m,m<=k/\lT ids ops (gn ids ops m)=none:=by
   intro k
   induction k with
   | zero=>intro _; exact .inl rfl
   | succ k aI=>
    intro hk;rcases aI (by omega) with aF | ⟨m,hm,aF⟩
    ·cases af:lT ids ops (gn ids ops k) with
     | none=>exact .inr ⟨k,by omega,af⟩
     | some i=>left; rw[MO af]; simp[aF]
    ·exact .inr ⟨m,by omega,aF⟩
  rcases o8 ops.length (atW _) with aF | ⟨m,hm,aF⟩
  ·exact aF
  ·have ch:gn ids ops ops.length=gn ids ops m:=by
    have:=MN aF (ops.length - m)
    rwa [show m+(ops.length - m)=ops.length by omega] at this
   have eH:∀ i,pL ids ops i->i<ops.length->i∈gn ids ops m:=by
    intro i ar
    induction ar with
    | mk i av ay ar aI=>
     intro aN;apply Classical.byContradiction;intro dH;refine aiL aF aN dH fun p qs=>?_
     obtain⟨j,jo⟩:=atZ.1 (ay p qs);exact auo.2 ⟨j,aI p qs j jo (by have:=(atU.1 jo).1; omega),fK jo⟩
   show (gn ids ops ops.length).length=ops.length;rw[ch];have aU:=vb (a:=List.range ops.length) (b:=gn ids ops m) awY fun i av=>eH i (h i (aux.1 av)) (aux.1 av)
   rw[List.length_range] at aU;rw[ch] at ad;omega
theorem Sx (g:bi) (ar:ft g) (az:dO g.ids.l=true) (x:List B) (af:x.length=32) :bw Tryz.prog GS 114 [cS g,.aJ (aS x)] (.bE [.int .i64 (q6 g.ids.l x),.bool (decide (x∈g.ids.l))]) :=by
 refine bK Tryz.checked.mixed bB ?_;apply bm Tryz.func114 [];have dx:=e5 g.ids;have cD:=lu g.ops;have gj:=fE x;have bf:=cM af;have ak:=X6 g.ids ar.ids ar.li x af az;obtain⟨X,cQ⟩:∃ X,X=aS x:=⟨_,rfl⟩
 rw[<-cQ] at ak gj bf ⊢;simp[cS,ds,bf,atT];refine a1 ak (by simp[bg,U.closed,dx,gj]) ?_;simp;exact aK rfl rfl
def hC (n:Nat) :List U:=[.int .i64 (n:Int)]
def ig (b:Bool) :List U:=[.bool b]
def ew {α:Type} (l:List α) :c6 α:=match l with | []=>none | x::r=>some (x::r)
theorem fq {α:Type} (l:List α) :(ew l).l=l:=by cases l<;>rfl
theorem vc {α:Type} (l:List α) :(ew l).isNone=l.isEmpty:=by cases l<;>rfl
def JE (l:c6 Nat) :U:=cI 1 hC l
theorem Nk {α:Type} (zero:U) (n:Nat) :dy [zero] n=List.replicate n zero:=by
 rw[HY]
 induction n with
 | zero=>rfl
 | succ n aI=>rw[auY,auW,aI,auY]; rfl
theorem DN {z by_ n:Nat} {k k' : IntKind} {zero:List U} {l:ao} (aw:zero.length=z) (h1:n<9223372036854775808) (ad:by_*n<=cK) :
  rR z by_ zero l (.int k (n:Int)) (.int k' (n:Int))=some (.au z l.length 0 n n (n*z),l++[.cells (n*z) (dy zero n)])/\bG z (l++[.cells (n*z) (dy zero n)]) (.au z l.length 0 n n (n*z)) l.length (List.replicate n zero) :=by
 constructor
 ·have aj:(by_:Int)*(n:Int)<=(cK:Int) :=by rw[<-Int.natCast_mul]; omega
  simp only[rR,au0];rw[if_pos ⟨by omega,by omega,by omega,aj⟩]
 ·refine .au l.length n n (n*z) (dy zero n) _ (by rw[at8 (atW _)]; simp) (by rw[Bf,aw]) (by simp) (fun e am=>by rw[avf am]; exact aw) (atW _) (atW _) ?_;rw[atT (by rw[Bf,aw]; omega),HY]
def q8 (n:Nat) (out:List Nat) :List Bool:=(List.range n).map fun i=>decide (i∈out)
theorem Fp {n:Nat} {out:List Nat} {i:Nat} (h:i<n) :(q8 n out)[i]? = some (decide (i∈out)) :=by
 unfold q8; rw[at0,auw h]; rfl
theorem Ch (n:Nat) (out:List Nat) :(q8 n out).length=n:=by simp[q8]
theorem abQ {n:Nat} {out:List Nat} {i:Nat} (h:i<n) :(q8 n out).set i true=q8 n (out++[i]) :=by
 apply auD;intro j;by_cases ai:j<n
 ·rw[Fp ai,avJ];by_cases hi:i=j
  ·subst hi; simp[Ch,h]
  ·rw[if_neg hi,Fp ai];simp[Ne.symm hi]
 ·rw[at6 (by simp[Ch]; omega),at6 (by simp[Ch]; omega)]
theorem abP (n:Nat) :q8 n []=List.replicate n false:=by
 apply auD;intro j;by_cases ai:j<n
 ·rw[Fp ai]; simp[ai]
 ·rw[at6 (by simp[Ch]; omega),at6 (by simp; omega)]
theorem one_cell {cs:List U} {o:Nat} {c:U} (h:(cs.drop o).take 1=[c]) :cs[o]? = some c:=by
 have h1:((cs.drop o).take 1)[0]? = some c:=by rw[h]; rfl
 rw[aum (by omega),auC] at h1;exact h1
structure ZO (g:bi) (out:List Nat) (v3 v4 v5:U) (rest:ao) :Prop where
 ex:∃ mv kH gR,bG 1 (.cells 2 (ds g) ::rest) v3 mv (out.map hC)/\bG 32 (.cells 2 (ds g) ::rest) v4 kH ((out.map (b2 g.ids.l)).map aS)/\bG 1 (.cells 2 (ds g) ::rest) v5 gR ((q8 g.ops.l.length out).map ig) ∧
  1<=gR/\cx v5=false/\cx v3=out.isEmpty/\cx v4=out.isEmpty/\(out=[]\/(1<=mv/\1<=kH/\mv≠kH/\mv≠gR/\kH≠gR))
set_option maxHeartbeats 4000000 in
theorem ajO (g:bi) (ar:ft g) (al:g.ids.l.length=g.ops.l.length) (ai:iL g.ids.l) :bw Tryz.prog GS 83 [cS g] (JE (ew (tg g.ids.l g.ops.l))) :=by
 refine bK Tryz.checked.mixed bB ?_;apply bm Tryz.func83 [[[0],[1],[2],[3],[4],[6],[7],[8],[9],[10],[11],[12],[5,12,11,8]]];have lH:cK=140737488355328:=rfl;have dx:=e5 g.ids;have cD:=lu g.ops;have eC:cz (.au 11) (bZ g.ops)=some (.int .i64 g.ops.l.length) :=by simp[bZ]
 have bl:=ar.cV;obtain⟨gb,kf⟩:=DN (z:=1) (by_:=1) (n:=g.ops.l.length) (k:=.i64) (k':=.i64) (zero:=[U.bool false]) (l:=[a2.cells 2 (ds g)]) rfl (by omega) (by rw[lH]; omega);simp only[ds,avo,Nk (α:=Nat)] at gb kf;simp[cS,ds,eC,gb];refine uS (fun m ae l=>∃ (k:Nat) (rest:ao),l=.cells 2 (ds g) ::rest/\ae 1=.ptr 0 0 2/\ZO g (gn g.ids.l g.ops.l k) (ae 3) (ae 4) (ae 5) rest ∧
  ((ae 6=.bool true/\(gn g.ids.l g.ops.l k).length=k/\m=g.ops.l.length - k+1)\/(ae 6=.bool false/\lT g.ids.l g.ops.l (gn g.ids.l g.ops.l k)=none/\k<=g.ops.l.length/\m=0))) ?_ (g.ops.l.length+1) _ _ ?_
 ·rintro m ae l ⟨k,rest,rfl,aM,rf,ak⟩;obtain⟨v3,a7⟩:∃ v,ae 3=v:=⟨_,rfl⟩
  obtain⟨v4,bD⟩:∃ v,ae 4=v:=⟨_,rfl⟩
  obtain⟨v5,bh⟩:∃ v,ae 5=v:=⟨_,rfl⟩
  rw[a7,bD,bh] at rf;obtain⟨out,lF⟩:∃ out,out=gn g.ids.l g.ops.l k:=⟨_,rfl⟩
  rw[<-lF] at rf ak;obtain⟨qm,df,kb⟩:=DZ g.ids.l g.ops.l al ai k;rw[<-lF] at qm df kb;have cl:out.length<=g.ops.l.length:=by
   have:=vb (b:=List.range g.ops.l.length) qm (fun x af=>aux.2 (kb x af).1);simpa using this
  rcases ak with ⟨cd,hk,rfl⟩ | ⟨cd,dH,hl,rfl⟩
  ·obtain⟨ae,rfl⟩:=lk aM a7 bD bh cd;clear aM a7 bD bh cd;simp;refine cF g.ops.l.length (fun i ae l=>l=.cells 2 (ds g) ::rest/\ae 1=.ptr 0 0 2/\ae 3=v3/\ae 4=v4/\ae 5=v5/\ae 6=.bool false/\ae 7=.int .i64 i/\∀ j,j<i->tV g.ids.l g.ops.l out j=false) ?_ (by simp);rintro i ae l av ⟨rfl,aM,a7,bD,bh,cd,dC,ak⟩;obtain⟨ae,rfl⟩:=zi aM a7 bD bh cd dC;clear aM a7 bD bh cd dC;by_cases dQ:i<g.ops.l.length
   ·obtain⟨o,ap,dD⟩:=bx dQ;have aQ:IntKind.i64.wrap ((i:Int)+1)=((i+1:Nat) :Int) :=by rw[IntKind.wrap_i64]; omega
    have bW:cg (.au 11) (bZ g.ops) (.int .i64 (i:Int))=some (.b3 (bd o) 0) :=by simp[bZ,ap]
    obtain⟨mv,kH,gR,rV,uY,i5,aU,lS,uW,ta,bH⟩:=rf;obtain⟨WN,Fa,r6,aX,a6,a3,a4⟩:=i5.q.get (k:=.i64) (i:=i) (e:=ig (decide (i∈out))) (by rw[at0,Fp dQ]; rfl);have a5:=one_cell (c:=.bool (decide (i∈out))) (by simpa [ig] using a4);have k6:=uY.m6 (enc:=aS) (xs:=out.map (b2 g.ids.l)) (fun x=>fE x) (ew (out.map (b2 g.ids.l))) (by rw[ta,vc]; simp) (fq _);have Gy:fU (ew (out.map (b2 g.ids.l))) :=fun x af=>by
     rw[fq] at af;obtain⟨t,aH,rfl⟩:=auo.1 af;obtain⟨y,aA,cm⟩:=bx (l:=g.ids.l) (k:=t) (by have:=(kb t aH).1; omega);rw[fK aA]; exact ar.ids y cm
    have eH:=Na (ew (out.map (b2 g.ids.l))) Gy (by rw[fq]; simp; omega) o.bp (ar.ops o dD).ids (ar.ops o dD).len;rw[fq] at eH;have jN:=e5 o.bp;have nB:tV g.ids.l g.ops.l out i=(decide (i∉out)&&kr (out.map (b2 g.ids.l)) o.bp.l) :=by unfold tV; rw[m1 ap]
    simp only[ds] at a6 rV uY i5 k6;by_cases Gp:i∈out
    ·simp[ds,eC,dQ,aX,a6,a5,Gp,aQ];intro j ai;by_cases oi:j=i
     ·subst oi; rw[nB]; simp[Gp]
     ·exact ak j (by omega)
    ·simp[ds,eC,dQ,aX,a6,a5,Gp,aQ,bW,bd];refine ia eH (.cons k6 (.cons (.same _ jN) .nil)) rfl ?_;by_cases eg:kr (out.map (b2 g.ids.l)) o.bp.l=true
     ·rw[eg] at nB;obtain⟨y,aA,cm⟩:=bx (l:=g.ids.l) (k:=i) (by omega);have C2:cg (.au 32) (aR g.ids) (.int .i64 (i:Int))=some (.b3 (aS y) 0) :=by simp[aR,aA]
      have b8:=cM (ar.ids y cm);obtain⟨Y,ef⟩:∃ Y,Y=aS y:=⟨_,rfl⟩
      rw[<-ef] at C2 b8;have agB:bu (rep 32 (.int .u8 0)) 0 Y=Y:=fi (by rw[b8]; rfl);obtain⟨l1,gk⟩:∃ l1,l1=a2.cells 2 [aR g.ids,bZ g.ops] ::(rest++[a2.cells 1 [U.int IntKind.i64 (i:Int)],a2.cells 32 Y]) :=⟨_,rfl⟩
      have K7:l1.length=rest.length+3:=by rw[gk]; simp
      have wP:bG 1 l1 v3 mv (out.map hC) :=by rw[gk]; exact rV.more _
      have Mw:bG 32 l1 v4 kH ((out.map (b2 g.ids.l)).map aS) :=by rw[gk]; exact uY.more _
      have aik:bG 1 l1 v5 gR ((q8 g.ops.l.length out).map ig) :=by rw[gk]; exact i5.more _
      have rv:out=[]->v3=.aW/\v4=.aW:=fun h=>by rw[h] at uW ta; exact⟨i2.1 uW,i2.1 ta⟩
      have arZ:gR<rest.length+1:=by
       rcases i5.lt with h | h
       ·rw[h] at lS; cases lS
       ·simpa using h
      obtain⟨mv,wP,q1,ff,iJ,Xg⟩:∃ mv,bG 1 l1 v3 mv (out.map hC)/\1<=mv/\mv≠gR/\(out=[]\/mv≠kH)/\(mv<rest.length+1\/l1.length<=mv) :=by
       by_cases h:out=[]
       ·have aq:=(rv h).1;rw[aq,h];exact⟨l1.length,.nil _,by omega,by omega,.inl rfl,.inr (atW _)⟩
       ·obtain⟨h1,ad,aj,aF,aU⟩:=bH.resolve_left h;refine⟨mv,wP,h1,aF,.inr aj,.inl ?_⟩;rcases rV.lt with eG | eG
        ·rw[eG] at uW;cases out with
         | nil=>exact absurd rfl h
         | cons=>cases uW
        ·simpa using eG
      obtain⟨Y1,wG,bX,aM,aT,a7,bD,bh,cd⟩:=oP (by_:=8) wP (x:=.au 1 (rest.length+1) 0 1 1 1) (xs:=[hC i]) (by rw[gk]; simp[dM,hC]) (by simp[hC]) (by omega) (by omega) (by rw[lH]; simp; omega);obtain⟨fg,rfl⟩:∃ fg,bX=a2.cells 2 [aR g.ids,bZ g.ops] ::fg:=DX (by rw[bD 0 (by omega) (by omega),gk]; rfl);have Kx:(a2.cells 2 [aR g.ids,bZ g.ops] ::fg)[rest.length+2]? = some (.cells 32 Y) :=by rw[bD (rest.length+2) (by omega) (by omega),gk]; simp
      have fT:(a2.cells 2 [aR g.ids,bZ g.ops] ::fg)[rest.length+1]? = some (.cells 1 [.int .i64 (i:Int)]) :=by rw[bD (rest.length+1) (by omega) (by omega),gk]; simp
      have i4:=aik.frame (l':=a2.cells 2 [aR g.ids,bZ g.ops] ::fg) (fun h=>bD gR h (Ne.symm ff));rw[gk] at aM;simp[eg,C2,b8,agB,atT,aM];refine dT.cy ?_;simp;have TA:fg[rest.length+1]? = some (.cells 32 Y) :=by simpa using Kx
      refine⟨⟨TA,by omega,atT (by omega)⟩,?_⟩;have Vc:Y1≠.aW:=fun h=>by have:=(cd.1 h).2; cases this
      have ap1:wG<fg.length+1:=by have:=aT.lt.resolve_left Vc; simpa using this
      have KZ:1<=wG/\wG≠gR:=by rcases bh with h | h<;>omega
      obtain⟨kH,Mw,t1,t2,t3,t4⟩:∃ kH,bG 32 (a2.cells 2 [aR g.ids,bZ g.ops] ::fg) v4 kH ((out.map (b2 g.ids.l)).map aS)/\1<=kH/\kH≠gR/\kH≠wG/\(kH<fg.length+1\/fg.length+1<=kH) :=by
       by_cases h:out=[]
       ·have aq:=(rv h).2;rw[aq,h];simp at a7;exact⟨fg.length+1,.nil _,by omega,by omega,by omega,.inr (atW _)⟩
       ·obtain⟨h1,ad,aj,aF,aU⟩:=bH.resolve_left h;have bt:kH<rest.length+1:=by
         rcases uY.lt with eG | eG
         ·rw[eG] at ta;cases out with
          | nil=>exact absurd rfl h
          | cons=>cases ta
         ·simpa using eG
        have c8:=iJ.resolve_left h;refine⟨kH,Mw.frame (fun h=>bD kH h (Ne.symm c8)),ad,aU,by rcases bh with h | h<;>omega,.inl (by simp at a7; omega)⟩
      obtain⟨Y2,wH,fe,f1,f2,f3,f4,f5,f6⟩:=oP (by_:=32) Mw (x:=.au 32 (rest.length+1+1) 0 1 1 32) (xs:=[Y]) (by simp[dM,b8,TA,atT]) (by simp[b8]) (by omega) (by omega) (by rw[lH]; simp; omega);obtain⟨m3,rfl⟩:∃ m3,fe=a2.cells 2 [aR g.ids,bZ g.ops] ::m3:=DX (by rw[f4 0 (by simp) (by omega)]; rfl);have Vd:Y2≠.aW:=fun h=>by have:=(f6.1 h).2; cases this
      have ap2:wH<m3.length+1:=by have:=f2.lt.resolve_left Vd; simpa using this
      have ei:=aT.frame (l':=a2.cells 2 [aR g.ids,bZ g.ops] ::m3) (fun h=>f4 wG h (Ne.symm t3));have qS:=i4.frame (l':=a2.cells 2 [aR g.ids,bZ g.ops] ::m3) (fun h=>f4 gR h (Ne.symm t2));obtain⟨p,kK,iu,kn,qN,Ez,Br⟩:=HF (k:=i) (x:=true) (X:=.bool true) (enc:=ig) rfl qS (fun _ _=>rfl) (by rw[Ch]; exact dQ) rfl;simp[f1];refine dT.cy ?_;simp[iu,kn];have JJ:wH=kH\/fg.length+1<=wH:=by simpa using f5
      have apw:rest.length+3<=fg.length+1:=by rw[K7] at a7; simpa using a7
      have na:1<=wH:=by rcases JJ with h | h<;>omega
      have ix:wH≠gR:=by rcases JJ with h | h<;>omega
      have z3:wG≠wH:=by rcases JJ with h | h<;>omega
      obtain⟨rY,rfl⟩:∃ rY,kK=a2.cells 2 [aR g.ids,bZ g.ops] ::rY:=DX (by rw[Br 0 (by omega)]; rfl);have h6:lT g.ids.l g.ops.l out=some i:=aiJ dQ (by rw[nB]; simp[Gp]) ak;have sN:gn g.ids.l g.ops.l (k+1)=out++[i] :=by rw[MO (by rw[<-lF]; exact h6),<-lF]
      have aN:k<g.ops.l.length:=by
       have eG:=(DZ g.ids.l g.ops.l al ai (k+1)).1;rw[sN] at eG;have:=vb (b:=List.range g.ops.l.length) eG (fun x af=>aux.2 (by
        rw[aup,aui] at af;rcases af with af | rfl
        ·exact (kb x af).1
        ·exact dQ))
       simp at this; omega
      have dn:(out++[i]).map hC=out.map hC++[hC i] :=by simp
      have kt:((out++[i]).map (b2 g.ids.l)).map aS=(out.map (b2 g.ids.l)).map aS++[Y] :=by
       have aff:b2 g.ids.l i=y:=fK aA;rw[auq,auq,List.map_singleton,List.map_singleton,aff,ef]
      refine⟨g.ops.l.length - (k+1)+1,by omega,k+1,rY,rfl,?_,by rw[sN]; simp[hk],rfl⟩;rw[sN];refine⟨⟨wG,wH,gR,?_,?_,?_,aU,lS,?_,?_,.inr ⟨KZ.1,na,z3,KZ.2,ix⟩⟩⟩
      ·rw[dn]; exact ei.frame (fun h=>Br wG KZ.2)
      ·rw[kt]; exact f2.frame (fun h=>Br wH ix)
      ·rw[<-abQ dQ]; exact qN
      ·cases aq:cx Y1 with
       | true=>exact absurd (i2.1 aq) Vc
       | false=>simp
      ·cases aq:cx Y2 with
       | true=>exact absurd (i2.1 aq) Vd
       | false=>simp
     ·rw[awq] at eg;rw[eg] at nB;simp[eg,dQ,aQ];refine⟨rfl,fun j ai=>?_⟩;by_cases oi:j=i
      ·subst oi; rw[nB]; simp
      ·exact ak j (by omega)
   ·have ap0:i=g.ops.l.length:=by omega
    simp[ds,eC,dQ];have dH:lT g.ids.l g.ops.l out=none:=aiK fun j ai=>ak j (by omega)
    refine⟨0,by omega,k,by rw[<-lF]; exact rf,by rw[<-lF]; exact dH,by omega,rfl⟩
  ·obtain⟨ae,rfl⟩:=lk aM a7 bD bh cd;clear aM a7 bD bh cd;simp;obtain⟨mv,kH,gR,rV,uY,i5,aU,lS,uW,ta,bH⟩:=rf;have ch:tg g.ids.l g.ops.l=out:=by
    unfold tg;have:=MN (k:=k) (by rw[<-lF]; exact dH) (g.ops.l.length - k);rw[show k+(g.ops.l.length - k)=g.ops.l.length by omega,<-lF] at this;exact this
   rw[ch];exact rV.q.oA (fun x=>rfl) (ew out) (by rw[uW,vc]) (fq _)
 ·refine⟨0,_,rfl,by simp,?_,.inl ⟨by simp,rfl,rfl⟩⟩;simp;refine⟨⟨0,0,1,.nil 0,.nil 0,?_,by omega,rfl,rfl,rfl,.inl rfl⟩⟩;show bG _ _ _ _ ((q8 g.ops.l.length []).map ig);have:(q8 g.ops.l.length []).map ig=List.replicate g.ops.l.length [U.bool false] :=by rw[abP,awL]; rfl
  rw[this];exact kf
def DY (ids:List (List B)) (ops:List bq) :Bool:=decide (∀ o∈ops,kr ids o.bp.l=true)
def qJ (ids:List (List B)) (ops:List bq) :Int:=if dO ids=true then (if DY ids ops=true then (if (tg ids ops).length=ops.length then 0 else 36) else 40) else 32
theorem ajS (g:bi) (ar:ft g) (al:g.ids.l.length=g.ops.l.length) :bw Tryz.prog GS 40 [cS g] (.int .i64 (qJ g.ids.l g.ops.l)) :=by
 refine bK Tryz.checked.mixed bB ?_;apply bm Tryz.func40 [[],[[0],[3],[4],[5],[1,4],[2]]];have dx:=e5 g.ids;have cD:=lu g.ops;have o5:=Fj g;have eC:cz (.au 11) (bZ g.ops)=some (.int .i64 g.ops.l.length) :=by simp[bZ]
 have bl:=ar.cV;have GJ:=Nc g.ids ar.ids ar.li;simp[cS,ds,eC];refine a1 GJ (by simp[bg,dx]) ?_;by_cases az:dO g.ids.l=true
 ·have ai:=mu az;have nI:=ajO g ar al ai;unfold cS ds at nI o5;simp[az];refine cF g.ops.l.length (fun k ae l=>l=[.cells 2 [aR g.ids,bZ g.ops]]/\ae 1=.ptr 0 0 2/\ae 3=.int .i64 k/\∀ (j:Nat) (o:bq),j<k->g.ops.l[j]? = some o->kr g.ids.l o.bp.l=true) ?_ (by simp);rintro k ae l hk ⟨rfl,aM,a7,ak⟩;obtain⟨ae,rfl⟩:=pE aM a7;clear aM a7;by_cases cZ:k<g.ops.l.length
  ·obtain⟨o,ap,dD⟩:=bx cZ;have aQ:IntKind.i64.wrap ((k:Int)+1)=((k+1:Nat) :Int) :=by rw[IntKind.wrap_i64]; omega
   have bW:cg (.au 11) (bZ g.ops) (.int .i64 (k:Int))=some (.b3 (bd o) 0) :=by simp[bZ,ap]
   have eH:=Na g.ids ar.ids ar.li o.bp (ar.ops o dD).ids (ar.ops o dD).len;have jN:=e5 o.bp;simp[eC,cZ,bW,bd];refine a1 eH (by simp[bg,dx,jN]) ?_;by_cases eg:kr g.ids.l o.bp.l=true
   ·simp[eg,cZ,aQ];intro j cR eB eD;by_cases fk:j=k
    ·subst fk; rw[ap] at eD; obtain rfl:=Option.some.inj eD; exact eg
    ·exact ak j cR (by omega) eD
   ·rw[awq] at eg;simp[eg];refine aK (congrArg (U.int .i64) ?_) rfl;have dH:¬ DY g.ids.l g.ops.l=true:=fun h=>by
     have:=of_decide_eq_true h o dD;rw[eg] at this; cases this
    unfold qJ;rw[if_pos az,if_neg dH]
  ·have pa:k=g.ops.l.length:=by omega
   have gO:DY g.ids.l g.ops.l=true:=decide_eq_true fun o dD=>by
    obtain⟨j,eB⟩:=atZ.1 dD;exact ak j o (by rw[pa]; exact (atU.1 eB).1) eB
   have dR:(tg g.ids.l g.ops.l).length<=g.ops.l.length:=(DZ g.ids.l g.ops.l al ai _).2.1;have pd:cz (.au 1) (JE (ew (tg g.ids.l g.ops.l)))=some (.int .i64 (tg g.ids.l g.ops.l).length) :=by unfold JE; rw[qB,fq]
   simp[eC,cZ];refine a1 nI (by simp[bg,o5]) ?_;by_cases aN:(tg g.ids.l g.ops.l).length<g.ops.l.length
   ·simp[eC,pd,aN];refine aK (congrArg (U.int .i64) ?_) rfl;unfold qJ;rw[if_pos az,if_pos gO,if_neg (by omega)]
   ·simp[eC,pd,aN];refine aK (congrArg (U.int .i64) ?_) rfl;unfold qJ;rw[if_pos az,if_pos gO,if_pos (by omega)]
 ·rw[awq] at az;simp[az];refine aK (congrArg (U.int .i64) ?_) rfl;unfold qJ;rw[az]; rfl
def oX (g:bi) (k:Nat) :Bool:=match g.ops.l[k]?,g.ids.l[k]? with
 | some o,some x=>decide (qQ o=0)&&decide (dZ o=x)
 | _,_=>true
def FJ (g:bi) :Bool:=decide (∀ k,k<g.ops.l.length->oX g k=true)
theorem z2 (g:bi) :FJ g=true<->∀ k,k<g.ops.l.length->oX g k=true:=by unfold FJ; rw[decide_eq_true_eq]
def eK (g:bi) :Int:=if 60<g.ops.l.length then 4 else if g.ids.l.length=g.ops.l.length then (if FJ g=true then qJ g.ids.l g.ops.l else 8) else 8
theorem FK {g:bi} {k:Nat} {o:bq} {x:List B} (ap:g.ops.l[k]? = some o) (af:g.ids.l[k]? = some x) :oX g k=(decide (qQ o=0)&&decide (dZ o=x)) :=by
 unfold oX; rw[ap,af]
theorem Bs {o:bq} (h:qQ o=0) :fA o=0:=by
 unfold qQ at h;by_cases aE:fA o=0
 ·exact aE
 ·rw[if_neg aE] at h; exact h
theorem LW (o:bq) :(dZ o).length=32:=by
 unfold dZ;split
 ·exact va _
 ·simp
set_option maxHeartbeats 4000000 in
theorem ajD (g:bi) (ar:ft g) :bw Tryz.prog GS 11 [cS g] (.int .i64 (eK g)) :=by
 refine bK Tryz.checked.mixed bB ?_;apply bm Tryz.func11 [[[0],[1],[2],[3],[4],[5],[6],[7],[8],[9],[10],[11],[12],[14],[15],[16],[17],[18],[13,18,15]]];have dx:=e5 g.ids;have cD:=lu g.ops;have o5:=Fj g;have eC:cz (.au 11) (bZ g.ops)=some (.int .i64 g.ops.l.length) :=by simp[bZ]
 have gx:cz (.au 32) (aR g.ids)=some (.int .i64 g.ids.l.length) :=by simp[aR]
 have bl:=ar.cV;by_cases kv:60<(g.ops.l.length:Int)
 ·simp[cS,ds,eC,kv];refine aK (congrArg (U.int .i64) ?_) rfl;unfold eK; rw[if_pos (by omega)]
 by_cases al:g.ids.l.length=g.ops.l.length
 ·have pk:=ajS g ar al;unfold cS ds at pk o5;have db:(g.ids.l.length:Int)=(g.ops.l.length:Int) :=by omega
  simp[cS,ds,eC,gx,kv,db];refine cF g.ops.l.length (fun k ae l=>l=[.cells 2 [aR g.ids,bZ g.ops]]/\ae 1=.ptr 0 0 2/\ae 3=.int .i64 k/\∀ j,j<k->oX g j=true) ?_ (by simp);rintro k ae l hk ⟨rfl,aM,a7,ak⟩;obtain⟨ae,rfl⟩:=pE aM a7;clear aM a7;by_cases cZ:k<g.ops.l.length
  ·obtain⟨o,ap,dD⟩:=bx cZ;obtain⟨x,af,cC⟩:=bx (l:=g.ids.l) (k:=k) (by omega);have dY:=FK ap af;have aQ:IntKind.i64.wrap ((k:Int)+1)=((k+1:Nat) :Int) :=by rw[IntKind.wrap_i64]; omega
   have bW:cg (.au 11) (bZ g.ops) (.int .i64 (k:Int))=some (.b3 (bd o) 0) :=by simp[bZ,ap]
   have yj:cg (.au 32) (aR g.ids) (.int .i64 (k:Int))=some (.b3 (aS x) 0) :=by simp[aR,af]
   have aq:=ajZ o (ar.ops o dD);have rp:=l6 o;have bf:=cM (ar.ids x cC);have cl:(bd o).length=11:=rfl;have oh:¬ oX g k=true->eK g=8:=fun h=>by
    unfold eK;rw[if_neg (by omega),if_pos al,if_neg fun aG=>h ((z2 g).1 aG k cZ)]
   by_cases sV:qQ o=0
   ·have aE:=Bs sV;have uz:=ajK o (ar.ops o dD) (by have:=A4 aE; omega);have fm:dZ o=ic (ir o) :=by unfold dZ; rw[if_pos aE]
    rw[<-fm] at uz;have heq:=Dt (LW o) (ar.ids x cC);change bw Tryz.prog GS 33 [.aJ (bd o)] (.aJ (aS (dZ o))) at uz;obtain⟨I,rf⟩:∃ I,I=aS (dZ o) :=⟨_,rfl⟩
    rw[<-rf] at uz heq;rw[sV] at aq;obtain⟨O,dX⟩:∃ O,O=bd o:=⟨_,rfl⟩
    obtain⟨X,cQ⟩:∃ X,X=aS x:=⟨_,rfl⟩
    rw[<-dX] at bW aq uz rp cl;rw[<-cQ] at yj bf heq;simp[eC,cZ,bW,cl,atT];refine a1 aq (by simp[bg,U.closed,rp]) ?_;simp[cl,yj,bf,bW,atT];refine a1 uz (by simp[bg,U.closed,rp]) ?_;by_cases fJ:dZ o=x
    ·simp[heq,fJ,cZ,aQ,bf,atT];intro j ai;by_cases fk:j=k
     ·subst fk; rw[dY]; simp[sV,fJ]
     ·exact ak j (by omega)
    ·have ag:¬ oX g k=true:=fun h=>by rw[dY] at h; simp[fJ] at h
     simp[heq,fJ,bf,atT];exact aK (congrArg (U.int .i64) (oh ag).symm) rfl
   ·have ag:¬ oX g k=true:=fun h=>by rw[dY] at h; simp[sV] at h
    simp[eC,cZ,bW,cl,atT];refine a1 aq (by simp[bg,U.closed,rp]) ?_;simp[sV];exact aK (congrArg (U.int .i64) (oh ag).symm) rfl
  ·have pa:k=g.ops.l.length:=by omega
   simp[eC,cZ];refine a1 pk (by simp[bg,o5]) ?_;simp;refine aK (congrArg (U.int .i64) ?_) rfl;unfold eK;rw[if_neg (by omega),if_pos al,if_pos ((z2 g).2 fun j ai=>ak j (by omega))]
 ·have db:¬ (g.ids.l.length:Int)=(g.ops.l.length:Int) :=by omega
  simp[cS,ds,eC,gx,kv,db];refine aK (congrArg (U.int .i64) ?_) rfl;unfold eK; rw[if_neg (by omega),if_neg al]
def o9 (ids:List (List B)) (D:List Nat) (p:List B) :Nat:=(D.map fun a=>if p == b2 ids a then 1 else 0).sum
def lg (ids:List (List B)) (D:List Nat) (L:List (List B)) :Nat:=(D.map fun a=>L.count (b2 ids a)).sum
theorem alK (ids:List (List B)) (D:List Nat) :lg ids D []=0:=by
 unfold lg
 induction D with
 | nil=>rfl
 | cons a D aI=>rw[aus,avQ,aI]; rfl
theorem Yw (ids:List (List B)) (p:List B) (L:List (List B)) :∀ D,lg ids D (p::L)=lg ids D L+o9 ids D p
 | []=>rfl
 | a::D=>by
  have aI:=Yw ids p L D;unfold lg o9 at aI ⊢;rw[aus,avQ,aus,avQ,aus,avQ,aI,List.count_cons];omega
theorem N1 (ids:List (List B)) (D:List Nat) (a:Nat) (L:List (List B)) :lg ids (D++[a]) L=lg ids D L+L.count (b2 ids a) :=by
 unfold lg; rw[auq,List.sum_append]; simp
theorem Pg {ids:List (List B)} (ai:iL ids) {i j:Nat} (av:i<ids.length) (eX:j<ids.length) (h:b2 ids i=b2 ids j) :i=j:=by
 obtain⟨x,af,_⟩:=bx av;obtain⟨y,aA,_⟩:=bx eX;rw[fK af,fK aA] at h;subst h;exact ai i j x af aA
theorem Uh {ids:List (List B)} {p:List B}:∀ {D:List Nat},(∀ a∈D,b2 ids a≠p)->o9 ids D p=0
 | [],_=>rfl
 | a::D,h=>by
  have aI:=Uh (ids:=ids) (p:=p) (D:=D) fun b ag=>h b (by simp[ag])
  have ax:(p == b2 ids a)=false:=by rw[beq_eq_false_iff_ne]; exact Ne.symm (h a (by simp))
  unfold o9 at aI ⊢;rw[aus,avQ,aI,ax]; rfl
theorem Ug {ids:List (List B)} (ai:iL ids) {p:List B}:∀ {D:List Nat},D.Nodup->(∀ a∈D,a<ids.length)->o9 ids D p<=1/\(o9 ids D p=1<->∃ a∈D,b2 ids a=p)
 | [],_,_=>⟨au7 _,Iff.intro (fun h=>(by cases h)) (fun ⟨a,ax,_⟩=>(by cases ax))⟩
 | a::D,aC,ag=>by
  rw[awb] at aC;obtain⟨ej,eZ⟩:=Ug (p:=p) ai aC.2 (fun b bL=>ag b (by simp[bL]));by_cases h:b2 ids a=p
  ·have aw:o9 ids D p=0:=Uh fun b TJ aep=>aC.1 (by rw[Pg ai (ag a (by simp)) (ag b (by simp[TJ])) (h.trans aep.symm)]; exact TJ)
   have ax:(p == b2 ids a)=true:=by rw[h]; simp
   have e:o9 ids (a::D) p=1:=by
    unfold o9 at aw ⊢;rw[aus,avQ,aw,ax]; rfl
   rw[e];exact⟨atW _,fun _=>⟨a,by simp,h⟩,fun _=>rfl⟩
  ·have ax:(p == b2 ids a)=false:=by rw[beq_eq_false_iff_ne]; exact Ne.symm h
   have e:o9 ids (a::D) p=o9 ids D p:=by
    unfold o9;rw[aus,avQ,ax]; simp
   rw[e];refine⟨ej,eZ.trans ⟨fun ⟨b,gM,fT⟩=>⟨b,by simp[gM],fT⟩,fun ⟨b,gM,fT⟩=>?_⟩⟩;rw[auG] at gM;rcases gM with rfl | gM
   ·exact absurd fT h
   ·exact⟨b,gM,fT⟩
theorem N2 {ids:List (List B)} (ai:iL ids) {D:List Nat} (aC:D.Nodup) (ag:∀ a∈D,a<ids.length) :∀ L:List (List B),lg ids D L<=L.length/\(lg ids D L=L.length<->∀ p∈L,∃ a∈D,b2 ids a=p)
 | []=>by rw[alK]; exact⟨atW _,Iff.intro (fun _ p ay=>by cases ay) (fun _=>rfl)⟩
 | p::L=>by
  obtain⟨ej,eZ⟩:=N2 ai aC ag L;obtain⟨h1,ad⟩:=Ug (p:=p) ai aC ag;rw[Yw,auf];refine⟨by omega,fun h=>?_,fun h=>?_⟩
  ·have aQ:lg ids D L=L.length:=by omega
   have bF:o9 ids D p=1:=by omega
   intro q aZ;rw[auG] at aZ;rcases aZ with rfl | aZ
   ·exact ad.1 bF
   ·exact eZ.1 aQ q aZ
  ·have aQ:=eZ.2 fun q aZ=>h q (by simp[aZ])
   have bF:=ad.2 (h p (by simp));omega
structure Iw (ids:List (List B)) (ops:List bq) (cw:List (List Nat)) :Prop where
 len:cw.length=ops.length
 cnt:∀ (a:Nat) (row:List Nat),cw[a]? = some row->∀ k,k<ops.length->row.count k=(c4 ops k).count (b2 ids a)
 lt:∀ (a:Nat) (row:List Nat),cw[a]? = some row->∀ k∈row,k<ops.length
structure sh (ids:List (List B)) (ops:List bq) (row:List Nat) (d j:Nat) (R:List Nat) (W:List Int) :Prop where
 h8:R.Nodup
 oW:∀ k∈R,k<ops.length/\pL ids ops k
 dl:d<=R.length
 wl:W.length=ops.length
 w:∀ k,k<ops.length->W[k]? = some (((c4 ops k).length:Int) - lg ids (R.take d) (c4 ops k) - (row.take j).count k)
 r:∀ k,k<ops.length->(k∈R<->W[k]? = some 0)
theorem ahT {ids:List (List B)} {ops:List bq} (al:ids.length=ops.length) (ai:iL ids) {cw:List (List Nat)} (ag:Iw ids ops cw) {a:Nat} {row:List Nat} {d j:Nat} {R:List Nat} {W:List Int}
  (h:sh ids ops row d j R W) (ax:R[d]? = some a) (cE:cw[a]? = some row) {k:Nat} (hk:row[j]? = some k) :
  ∃ x:Int,W[k]? = some x/\1<=x/\x<=(c4 ops k).length/\sh ids ops row d (j+1) (if x - 1=0 then R++[k] else R) (W.set k (x - 1)) :=by
 have hl:=ag.lt a row cE k (at3 hk);have Af:=ag.cnt a row cE k hl;have yc:=(atU.1 ax).1;have iG:R.take (d+1)=R.take d++[a] :=by rw[aud,ax]; rfl
 have afL:(R.take (d+1)).Nodup:=List.Sublist.nodup (awk _ _) h.h8;have qk:∀ b∈R.take (d+1),b<ids.length:=fun b bL=>by have:=(h.oW b (aur bL)).1; omega
 obtain⟨dE,g9⟩:=N2 ai afL qk (c4 ops k);rw[iG,N1,<-Af] at dE;have sL:(row.take (j+1)).count k=(row.take j).count k+1:=by
  rw[aud,hk,avX]; simp
 have ka:(row.take (j+1)).count k<=row.count k:=List.Sublist.count_le _ (awk _ _);have hw:=h.w k hl;obtain⟨x,af⟩:∃ x:Int,x=((c4 ops k).length:Int) - lg ids (R.take d) (c4 ops k) - (row.take j).count k:=⟨_,rfl⟩
 rw[<-af] at hw;have AJ:1<=x:=by omega
 have Up:k∉R:=fun hm=>by
  have:=(h.r k hl).1 hm;rw[hw] at this;have:=Option.some.inj this;omega
 refine⟨x,hw,AJ,by omega,?_⟩;have Uq:k<W.length:=by rw[h.wl]; exact hl
 have Dl:(if x - 1=0 then R++[k] else R).take d=R.take d:=by
  split
  ·rw[auj (by omega)]
  ·rfl
 have lD:x - 1=0->pL ids ops k:=fun aE=>by
  have heq:lg ids (R.take (d+1)) (c4 ops k)=(c4 ops k).length:=by rw[iG,N1,<-Af]; omega
  have eH:=g9.1 heq;have dU:∀ t,t<ids.length->ids[t]? = some (b2 ids t) :=fun t aH=>by
   obtain⟨y,aA,_⟩:=bx (l:=ids) aH;rw[aA,fK aA]
  refine .mk k (by omega) (fun p ay=>?_) fun p ay jx gw=>?_
  ·obtain⟨t,aH,rfl⟩:=eH p ay;exact at3 (dU t (qk t aH))
  ·obtain⟨t,aH,rfl⟩:=eH p ay;rw[ai jx t _ gw (dU t (qk t aH))];exact (h.oW t (aur aH)).2
 refine⟨?_,fun y aA=>?_,?_,by simpa using h.wl,fun y aA=>?_,fun y aA=>?_⟩
 ·split
  ·rw[au1];refine⟨h.h8,by simp,fun u aL v aq e=>?_⟩;rw[aui] at aq;subst e;rw[aq] at aL;exact Up aL
  ·exact h.h8
 ·split at aA
  ·rename_i aE;rw[aup,aui] at aA;rcases aA with aA | rfl
   ·exact h.oW y aA
   ·exact⟨hl,lD aE⟩
  ·exact h.oW y aA
 ·split
  ·simp; have:=h.dl; omega
  ·exact h.dl
 ·rw[Dl,avJ];by_cases ym:k=y
  ·subst ym;rw[if_pos rfl,if_pos Uq,sL];congr 1;omega
  ·rw[if_neg ym,h.w y aA,aud,hk,avX];have:([k] :List Nat).count y=0:=by rw[av5]; simp[ym]
   simp only[Option.toList_some,this,awt]
 ·rw[avJ];by_cases ym:k=y
  ·subst ym;rw[if_pos rfl,if_pos Uq];by_cases aE:x - 1=0
   ·rw[if_pos aE]; simp[aE]
   ·rw[if_neg aE];exact⟨fun hm=>absurd hm Up,fun aG=>absurd (Option.some.inj aG) aE⟩
  ·rw[if_neg ym,<-h.r y aA];split
   ·rw[aup,aui];exact⟨fun h=>h.resolve_right (Ne.symm ym),.inl⟩
   ·exact Iff.rfl
theorem ahQ {ids:List (List B)} {ops:List bq} {cw:List (List Nat)} (ag:Iw ids ops cw) {a:Nat} {row u5:List Nat} {d:Nat} {R:List Nat} {W:List Int}
  (h:sh ids ops row d row.length R W) (ax:R[d]? = some a) (cE:cw[a]? = some row) :sh ids ops u5 (d+1) 0 R W:=by
 have iG:R.take (d+1)=R.take d++[a] :=by rw[aud,ax]; rfl
 refine⟨h.h8,h.oW,(atU.1 ax).1,h.wl,fun k hk=>?_,h.r⟩;rw[h.w k hk,iG,N1,aun,ag.cnt a row cE k hk,avd,List.count_nil];congr 1;omega
theorem ahR {ids:List (List B)} {ops:List bq} {row u5:List Nat} {d:Nat} {R:List Nat} {W:List Int} (h:sh ids ops row d 0 R W) :sh ids ops u5 d 0 R W:=
 ⟨h.h8,h.oW,h.dl,h.wl,fun k hk=>by rw[h.w k hk,avd,avd],h.r⟩
theorem ahS {ids:List (List B)} {ops:List bq} (al:ids.length=ops.length) :sh ids ops [] 0 0 ((List.range ops.length).filter fun k=>(c4 ops k).isEmpty) ((List.range ops.length).map fun k=>((c4 ops k).length:Int)) :=by
 refine⟨List.Sublist.nodup avE awY,fun k hk=>?_,au7 _,by simp,fun k hk=>?_,fun k hk=>?_⟩
 ·rw[auS,aux] at hk;have aE:c4 ops k=[] :=awZ.1 hk.2;exact⟨hk.1,.mk k (by omega) (fun p ay=>by rw[aE] at ay; cases ay) fun p ay=>by rw[aE] at ay; cases ay⟩
 ·rw[at0,auw hk];simp[lg]
 ·rw[auS,aux,at0,auw hk];simp only[at1,Option.some.injEq,hk,true_and,awZ];constructor
  ·intro h; rw[h]; rfl
  ·intro h; exact auE.1 (by omega)
theorem ahP {ids:List (List B)} {ops:List bq} (al:ids.length=ops.length) (ai:iL ids) {row:List Nat} {R:List Nat} {W:List Int} (h:sh ids ops row R.length 0 R W) :
  R.length<=ops.length/\(R.length=ops.length<->(tg ids ops).length=ops.length) :=by
 have dR:R.length<=ops.length:=by
  have:=vb (b:=List.range ops.length) h.h8 fun x af=>aux.2 (h.oW x af).1
  simpa using this
 refine⟨dR,?_⟩;rw[WH al ai];constructor
 ·intro am i av;exact (h.oW i (Wp h.h8 am (fun i av=>(h.oW i av).1) i av)).2
 ·intro eH;have dQ:∀ i,pL ids ops i->i<ops.length->i∈R:=by
   intro i ar
   induction ar with
   | mk i av ay ar aI=>
    intro aN;rw[h.r i aN,h.w i aN,aun];have F0:=(N2 ai h.h8 (fun a ax=>by have:=(h.oW a ax).1; omega) (c4 ops i)).2.2 fun p qs=>by
     obtain⟨bM,eB⟩:=atZ.1 (ay p qs);exact⟨bM,aI p qs bM eB (by have:=(atU.1 eB).1; omega),fK eB⟩
    rw[F0];simp
  have:=vb (a:=List.range ops.length) (b:=R) awY fun i av=>dQ i (eH i (aux.1 av)) (aux.1 av)
  simp at this;omega
structure lp (l:ao) (vs:List U) (cw:List (List Nat)) (de:Nat->Nat) :Prop where
 oG:vs.length=cw.length
 own:∀ (a:Nat) (v:U) (row:List Nat),vs[a]? = some v->cw[a]? = some row->bG 1 l v (de a) (row.map hC)/\cx v=row.isEmpty/\(row=[]\/3<=de a)
 apart:∀ (a b:Nat) (mz nQ:List Nat),a≠b->cw[a]? = some mz->cw[b]? = some nQ->mz≠[]->nQ≠[]->de a≠de b
def oO (cw:List (List Nat)) (de:Nat->Nat) (b:Nat) :Prop:=∀ (a:Nat) (row:List Nat),cw[a]? = some row->row≠[]->de a≠b
theorem lp.lt {l:ao} {vs:List U} {cw:List (List Nat)} {de:Nat->Nat} (h:lp l vs cw de) {a:Nat} {row:List Nat} (az:cw[a]? = some row) (bz:row≠[]) :de a<l.length:=by
 have ax:a<vs.length:=by rw[h.oG]; exact (atU.1 az).1
 obtain⟨o,n,_⟩:=h.own a vs[a] row (atX ax) az;rcases o.lt with h1 | h1
 ·rw[h1] at n;cases row with
  | nil=>exact absurd rfl bz
  | cons=>cases n
 ·exact h1
theorem lp.frame {l l' : ao} {vs:List U} {cw:List (List Nat)} {de:Nat->Nat} (h:lp l vs cw de) (aD:∀ b,b<l.length->(∃ a row,cw[a]? = some row/\row≠[]/\de a=b)->l'[b]? = l[b]?) :lp l' vs cw de:=by
 refine⟨h.oG,fun a v row aq az=>?_,h.apart⟩;obtain⟨o,n,t⟩:=h.own a v row aq az;refine⟨?_,n,t⟩;by_cases bz:row=[]
 ·subst bz;have:=i2.1 n;subst this;exact .nil _
 ·exact o.frame fun al=>aD _ al ⟨a,row,az,bz,rfl⟩
theorem lp.more {l:ao} {vs:List U} {cw:List (List Nat)} {de:Nat->Nat} (h:lp l vs cw de) (x:ao) :lp (l++x) vs cw de:=h.frame fun b ag _=>atV ag
theorem lp.app {l:ao} {vs:List U} {cw:List (List Nat)} {de:Nat->Nat} (h:lp l vs cw de) {a k b:Nat} {v:U} {row:List Nat} (aq:vs[a]? = some v) (az:cw[a]? = some row) (ag:l[b]? = some (.cells 1 [.int .i64 (k:Int)])) (aj:3<=l.length) (dN:(row.length+1)*8<=cK) :
  ∃ aY l' DE,iP l 1 8 v (.au 1 b 0 1 1 1)=some (aY,l')/\lp l' (vs.set a aY) (cw.set a (row++[k])) DE/\l.length<=l'.length/\aY.cells=some [aY] ∧
   ∀ c,c<l.length->oO cw de c->l'[c]? = l[c]?/\oO (cw.set a (row++[k])) DE c:=by
 obtain⟨o,n,t⟩:=h.own a v row aq az;have gG:a<cw.length:=(atU.1 az).1;obtain⟨j,Ww,mv,Mi,VB⟩:∃ j,bG 1 l v j (row.map hC)/\3<=j/\(∀ e9 u5,e9≠a->cw[e9]? = some u5->u5≠[]->de e9≠j)/\∀ c,c<l.length->oO cw de c->j≠c:=by
  by_cases bz:row=[]
  ·subst bz;have:=i2.1 n;subst this;exact⟨l.length,.nil _,aj,fun e9 u5 _ kB ys=>by have:=h.lt kB ys; omega,fun c ah _=>by omega⟩
  ·exact⟨de a,o,t.resolve_left bz,fun e9 u5 UF kB ys=>h.apart e9 a u5 row UF kB az ys bz,fun c _ ap=>ap a row az bz⟩
 obtain⟨aY,bM,l',aM,aT,a7,bD,bh,cd⟩:=oP (by_:=8) Ww (x:=.au 1 b 0 1 1 1) (xs:=[hC k]) (by simp[dM,ag,hC]) (by simp[hC]) (by omega) (by omega) (by simpa using dN);have gl:cx aY=false:=by
  cases aG:cx aY with
  | true=>have:=(cd.1 (i2.1 aG)).2; cases this
  | false=>rfl
 refine⟨aY,l',fun x=>if x=a then bM else de x,aM,⟨by simp[h.oG],fun x w NF hw kB=>?_,fun x y tw X3 kE af aA h6 Li=>?_⟩,a7,aT.cells,fun c ah ap=>⟨bD c ah (fun e=>VB c ah ap e.symm),fun x tw af h6=>?_⟩⟩
 ·by_cases kD:x=a
  ·subst kD;rw[at9 (by rw[h.oG]; exact gG)] at hw;rw[at9 gG] at kB;obtain rfl:=Option.some.inj hw;obtain rfl:=Option.some.inj kB;simp only[if_true];refine⟨by rw[auq]; exact aT,by rw[gl]; simp,.inr ?_⟩;rcases bh with e | e<;>omega
  ·rw[at5 (Ne.symm kD)] at hw kB;simp only[if_neg kD];obtain⟨cR,g6,gu⟩:=h.own x w NF hw kB;refine⟨?_,g6,gu⟩;by_cases bz:NF=[]
   ·subst bz;have:=i2.1 g6;subst this;exact .nil _
   ·exact cR.frame fun al=>bD _ al (Mi x NF kD kB bz)
 ·by_cases kD:x=a
  ·subst kD;rw[at5 kE] at aA;simp only[if_true,if_neg (Ne.symm kE)];have:=h.lt aA Li;have:=Mi y X3 (Ne.symm kE) aA Li;rcases bh with e | e<;>omega
  ·rw[at5 (Ne.symm kD)] at af;simp only[if_neg kD];by_cases Dp:y=a
   ·subst Dp;simp only[if_true];have:=h.lt af h6;have:=Mi x tw kD af h6;rcases bh with e | e<;>omega
   ·rw[at5 (Ne.symm Dp)] at aA;simp only[if_neg Dp];exact h.apart x y tw X3 kE af aA h6 Li
 ·by_cases kD:x=a
  ·subst kD;simp only[if_true];have:=VB c ah ap;rcases bh with e | e<;>omega
  ·rw[at5 (Ne.symm kD)] at af;simp only[if_neg kD];exact ap x tw af h6
def xH (ids:List (List B)) (ops:List bq) (m q a k:Nat) :Nat:=if k<m then (c4 ops k).count (b2 ids a) else if k=m then ((c4 ops m).take q).count (b2 ids a) else 0
structure vn (ids:List (List B)) (ops:List bq) (m q:Nat) (cw:List (List Nat)) :Prop where
 len:cw.length=ops.length
 cnt:∀ (a:Nat) (row:List Nat),cw[a]? = some row->∀ k,row.count k=xH ids ops m q a k
 oC:∀ (a:Nat) (row:List Nat),cw[a]? = some row->row.length<=5*m+q
theorem aje (ids:List (List B)) (ops:List bq) :vn ids ops 0 0 (List.replicate ops.length []) :=by
 refine⟨by simp,fun a row h k=>?_,fun a row h=>?_⟩
 ·have:=avf (at3 h);subst this;simp[xH]
 ·have:=avf (at3 h);subst this;simp
theorem ajf {ids:List (List B)} {ops:List bq} (ai:iL ids) (al:ids.length=ops.length) {m q a:Nat} {cw:List (List Nat)} {row:List Nat} {p:List B} (h:vn ids ops m q cw) (ay:(c4 ops m)[q]? = some p) (ax:ids[a]? = some p) (az:cw[a]? = some row) :
  vn ids ops m (q+1) (cw.set a (row++[m])) :=by
 have gG:=(atU.1 az).1;have wh:=(atU.1 ax).1;have iG:(c4 ops m).take (q+1)=(c4 ops m).take q++[p] :=by rw[aud,ay]; rfl
 refine⟨by simp[h.len],fun x tw af k=>?_,fun x tw af=>?_⟩
 ·by_cases kD:x=a
  ·subst kD;rw[at9 gG] at af;obtain rfl:=Option.some.inj af;rw[avX,h.cnt x row az k];unfold xH;by_cases h1:k<m
   ·rw[if_pos h1,if_pos h1,av5];have:(m == k)=false:=by rw[beq_eq_false_iff_ne]; omega
    simp[this]
   ·rw[if_neg h1,if_neg h1];by_cases ad:k=m
    ·subst ad;rw[if_pos rfl,if_pos rfl,iG,avX,fK ax]; simp
    ·rw[if_neg ad,if_neg ad,av5];have:(m == k)=false:=by rw[beq_eq_false_iff_ne]; omega
     simp[this]
  ·rw[at5 (Ne.symm kD)] at af;rw[h.cnt x tw af k];unfold xH;by_cases h1:k<m
   ·rw[if_pos h1,if_pos h1]
   ·rw[if_neg h1,if_neg h1];by_cases ad:k=m
    ·subst ad;rw[if_pos rfl,if_pos rfl,iG,avX,av5];have bf:x<ids.length:=by rw[al,<-h.len]; exact (atU.1 af).1
     have:(p == b2 ids x)=false:=by
      rw[beq_eq_false_iff_ne];intro e;rw[<-fK ax] at e;exact kD (Pg ai wh bf e).symm
     rw[this]; simp
    ·rw[if_neg ad,if_neg ad]
 ·by_cases kD:x=a
  ·subst kD;rw[at9 gG] at af;obtain rfl:=Option.some.inj af;have:=h.oC x row az;simp; omega
  ·rw[at5 (Ne.symm kD)] at af;have:=h.oC x tw af;omega
theorem ajd {ids:List (List B)} {ops:List bq} {m:Nat} {cw:List (List Nat)} (h:vn ids ops m (c4 ops m).length cw) (aF:(c4 ops m).length<=4) :vn ids ops (m+1) 0 cw:=by
 refine⟨h.len,fun a row az k=>?_,fun a row az=>by have:=h.oC a row az; omega⟩;rw[h.cnt a row az k];unfold xH;by_cases h1:k<m
 ·rw[if_pos h1,if_pos (by omega)]
 ·rw[if_neg h1];by_cases ad:k=m
  ·subst ad;rw[if_pos rfl,if_pos (by omega),aun]
  ·rw[if_neg ad,if_neg (by omega)];by_cases aj:k=m+1
   ·rw[if_pos aj]; simp
   ·rw[if_neg aj]
theorem ajc {ids:List (List B)} {ops:List bq} {cw:List (List Nat)} (h:vn ids ops ops.length 0 cw) :Iw ids ops cw:=by
 refine⟨h.len,fun a row az k hk=>?_,fun a row az k hk=>?_⟩
 ·rw[h.cnt a row az k]; unfold xH; rw[if_pos hk]
 ·have h1:0<row.count k:=awG.2 hk;rw[h.cnt a row az k] at h1;unfold xH at h1;by_cases ad:k<ops.length
  ·exact ad
  ·rw[if_neg ad] at h1;split at h1<;>simp at h1
def e4 (ops:List bq) (m:Nat) :List Int:=(List.range ops.length).map fun k=>if k<m then ((c4 ops k).length:Int) else 0
def i6 (ops:List bq) (m:Nat) :List Nat:=(List.range m).filter fun k=>(c4 ops k).isEmpty
theorem Zi (ops:List bq) (m:Nat) :(e4 ops m).length=ops.length:=by simp[e4]
theorem Is {ops:List bq} {m k:Nat} (h:k<ops.length) :(e4 ops m)[k]? = some (if k<m then ((c4 ops k).length:Int) else 0) :=by
 unfold e4; rw[at0,auw h]; rfl
theorem ank {ops:List bq} {m:Nat} (h:m<ops.length) :(e4 ops m).set m ((c4 ops m).length:Int)=e4 ops (m+1) :=by
 apply auD;intro j;by_cases ai:j<ops.length
 ·rw[Is ai,avJ];by_cases UB:m=j
  ·subst UB;rw[if_pos rfl,if_pos (by rw[Zi]; exact ai),if_pos (by omega)]
  ·rw[if_neg UB,Is ai];by_cases h1:j<m
   ·rw[if_pos h1,if_pos (by omega)]
   ·rw[if_neg h1,if_neg (by omega)]
 ·rw[at6 (by simp[e4]; omega),at6 (by simp[e4]; omega)]
theorem anj (ops:List bq) :e4 ops ops.length=(List.range ops.length).map fun k=>((c4 ops k).length:Int) :=by
 unfold e4;apply avs;intro k hk;rw[if_pos (aux.1 hk)]
theorem anl (ops:List bq) :e4 ops 0=List.replicate ops.length 0:=by
 apply auD;intro j;by_cases ai:j<ops.length
 ·rw[Is ai]; simp[ai]
 ·rw[at6 (by simp[e4]; omega),at6 (by simp; omega)]
theorem XA (ops:List bq) (m:Nat) :i6 ops (m+1)=i6 ops m++(if (c4 ops m).isEmpty then [m] else []) :=by
 unfold i6;rw[avr,avG];congr 1;by_cases h:(c4 ops m).isEmpty=true
 ·simp[h]
 ·simp[h]
def j4 (n:Int) :U:=.int .i64 n
theorem alk {l:List U} {i:Nat} {x:U} (h:i<l.length) :bu l i [x]=l.set i x:=by
 have:=oE (fun c:U=>c) l i x h;simpa using this
def cT (g:bi) (wl:List Int) (vs:List U) (rest:ao) :ao:=.cells 2 [aR g.ids,bZ g.ops] ::.cells g.ops.l.length (wl.map j4) ::.cells g.ops.l.length vs::rest
theorem Oa {l:ao} {a b c:a2} (aE:l[0]? = some a) (h1:l[1]? = some b) (ad:l[2]? = some c) :∃ r,l=a::b::c::r:=by
 match l,aE,h1,ad with
 | e9::br::c'::r,aE,h1,ad=>
  simp at aE h1 ad;subst aE h1 ad;exact⟨r,rfl⟩
theorem Au {g:bi} {w w' : List Int} {vs Il:List U} {r:ao}:∀ {b:Nat},3<=b->(cT g w vs r)[b]? = (cT g w' Il r)[b]?
 | 0,h=>by omega
 | 1,h=>by omega
 | 2,h=>by omega
 | b+3,_=>rfl
theorem Lp {g:bi} {w:List Int} {vs:List U} {r x:ao} {b:Nat} (h:b<(cT g w vs r).length) :(cT g w vs (r++x))[b]? = (cT g w vs r)[b]?:=by
 show ((cT g w vs r)++x)[b]? = _;exact atV h
structure ZV (g:bi) (m q:Nat) (dK:U) (l:ao) :Prop where
 ex:∃ (vs:List U) (cw:List (List Nat)) (de:Nat->Nat) (hq:Nat) (rest:ao),l=cT g (e4 g.ops.l m) vs rest/\lp l vs cw de/\vn g.ids.l g.ops.l m q cw/\bG 1 l dK hq ((i6 g.ops.l m).map hC) ∧
  cx dK=(i6 g.ops.l m).isEmpty/\(i6 g.ops.l m=[]\/(3<=hq/\oO cw de hq))
structure ZU (g:bi) (m q:Nat) (dK:U) (b:Nat) (O:List U) (l:ao) :Prop where
 ex:∃ (vs:List U) (cw:List (List Nat)) (de:Nat->Nat) (hq:Nat) (rest:ao),l=cT g (e4 g.ops.l m) vs rest/\lp l vs cw de/\vn g.ids.l g.ops.l m q cw/\bG 1 l dK hq ((i6 g.ops.l m).map hC) ∧
  cx dK=(i6 g.ops.l m).isEmpty/\(i6 g.ops.l m=[]\/(3<=hq/\oO cw de hq))/\l[b]? = some (.cells 11 O)/\3<=b/\oO cw de b
theorem A5 {cw:List (List Nat)} {l:ao} {vs:List U} {de:Nat->Nat} {c:Nat} (fv:lp l vs cw de) (ah:c<3) :oO cw de c:=fun a row az bz=>by
 have ax:a<vs.length:=by rw[fv.oG]; exact (atU.1 az).1
 have:=(fv.own a vs[a] row (atX ax) az).2.2.resolve_left bz;omega
theorem D0 {cw:List (List Nat)} {l:ao} {vs:List U} {de:Nat->Nat} {c:Nat} (fv:lp l vs cw de) (ah:l.length<=c) :oO cw de c:=fun a row az bz=>by
 have:=fv.lt az bz;omega
structure sj (g:bi) (vs:List U) (cw:List (List Nat)) (de:Nat->Nat) (W:List Int) (R:List Nat) (dK:U) (rest:ao) :Prop where
 ex:∃ hq,lp (cT g W vs rest) vs cw de/\bG 1 (cT g W vs rest) dK hq (R.map hC)/\cx dK=R.isEmpty/\(R=[]\/(3<=hq/\oO cw de hq))
theorem sj.setW {g:bi} {vs:List U} {cw:List (List Nat)} {de:Nat->Nat} {W tP:List Int} {R:List Nat} {dK:U} {rest:ao} (h:sj g vs cw de W R dK rest) :sj g vs cw de tP R dK rest:=by
 obtain⟨hq,fv,gF,k0,me⟩:=h;refine⟨⟨hq,fv.frame fun b ag ⟨a,u6,h1,ad,aj⟩=>Au (aw0 fun h=>A5 fv h a u6 h1 ad aj),?_,k0,me⟩⟩;by_cases bz:R=[]
 ·subst bz;rw[i2.1 k0];exact .nil _
 ·exact gF.frame fun _=>Au (me.resolve_left bz).1
theorem sj.push {g:bi} {vs:List U} {cw:List (List Nat)} {de:Nat->Nat} {W:List Int} {R:List Nat} {dK:U} {rest:ao} (h:sj g vs cw de W R dK rest) (m:Nat) (dN:(R.length+1)*8<=cK) :
  ∃ aY fg,iP (cT g W vs (rest++[.cells 1 [.int .i64 (m:Int)]])) 1 8 dK (.au 1 (rest.length+3) 0 1 1 1)=some (aY,cT g W vs fg)/\sj g vs cw de W (R++[m]) aY fg:=by
 obtain⟨hq,wc,FX,k0,me⟩:=h;obtain⟨hp,Mx,na,ix⟩:∃ hp,bG 1 (cT g W vs (rest++[.cells 1 [.int .i64 (m:Int)]])) dK hp (R.map hC)/\3<=hp/\oO cw de hp:=by
  by_cases bz:R=[]
  ·subst bz;rw[i2.1 k0];exact⟨(cT g W vs (rest++[.cells 1 [.int .i64 (m:Int)]])).length,.nil _,by simp[cT],D0 wc (by simp[cT])⟩
  ·exact⟨hq,FX.more _,(me.resolve_left bz).1,(me.resolve_left bz).2⟩
 obtain⟨r5,Mh,bX,aM,aT,a7,bD,bh,cd⟩:=oP (by_:=8) Mx (x:=.au 1 (rest.length+3) 0 1 1 1) (xs:=[hC m]) (by simp[dM,cT,hC]) (by simp[hC]) (by omega) (by omega) (by simpa using dN);have K8:(cT g W vs (rest++[.cells 1 [.int .i64 (m:Int)]])).length=rest.length+4:=by simp[cT]
 have Gu:(cT g W vs rest).length=rest.length+3:=by simp[cT]
 obtain⟨fg,rfl⟩:∃ r,bX=cT g W vs r:=Oa ((bD 0 (by omega) (by omega)).trans rfl) ((bD 1 (by omega) (by omega)).trans rfl) ((bD 2 (by omega) (by omega)).trans rfl);have LM:cx r5=false:=by
  cases aG:cx r5 with
  | true=>have:=(cd.1 (i2.1 aG)).2; cases this
  | false=>rfl
 refine⟨r5,fg,aM,⟨⟨Mh,?_,?_,?_,.inr ⟨?_,?_⟩⟩⟩⟩
 ·exact wc.frame fun b ag ⟨a,u6,h1,ad,aj⟩=>(bD b (by omega) (fun e=>ix a u6 h1 ad (by omega))).trans (Lp ag)
 ·rw[auq]; exact aT
 ·rw[LM]; simp
 ·rcases bh with e | e<;>omega
 ·rcases bh with e | e
  ·rw[e]; exact ix
  ·exact D0 wc (by omega)
set_option maxHeartbeats 8000000 in
theorem akV (g:bi) (ar:ft g) (al:g.ids.l.length=g.ops.l.length) (kv:g.ops.l.length<=60) (aF:∀ o∈g.ops.l,o.bp.l.length<=4) :bw Tryz.prog GS 96 [cS g] (.int .i64 (qJ g.ids.l g.ops.l)) :=by
 refine bK Tryz.checked.mixed bB ?_;apply bm Tryz.func96 [];have lH:cK=140737488355328:=rfl;have dx:=e5 g.ids;have cD:=lu g.ops;have o5:=Fj g;have eC:cz (.au 11) (bZ g.ops)=some (.int .i64 g.ops.l.length) :=by simp[bZ]
 have gx:cz (.au 32) (aR g.ids)=some (.int .i64 g.ops.l.length) :=by simp[aR,al]
 simp[cS,ds];refine cF (g.ops.l.length - 1) (fun k ae l=>l=[.cells 2 [aR g.ids,bZ g.ops]]/\ae 1=.ptr 0 0 2/\ae 3=.int .i64 ((k+1:Nat) :Int)/\∀ j,j<k+1->j<g.ids.l.length->1<=j->cq (b2 g.ids.l (j - 1)) (b2 g.ids.l j)<0) ?_ ⟨by simp,by simp,by simp,fun j h1 _ ad=>by omega⟩;rintro k ae l hk ⟨rfl,aM,a7,ak⟩;obtain⟨ae,rfl⟩:=pE aM a7;clear aM a7;obtain⟨m,hm⟩:∃ m,m=k+1:=⟨_,rfl⟩
 rw[<-hm] at ak ⊢;by_cases aN:m<g.ops.l.length
 ·obtain⟨x,af,cC⟩:=bx (l:=g.ids.l) (k:=k) (by omega);obtain⟨y,aA,cm⟩:=bx (l:=g.ids.l) (k:=m) (by omega);have aQ:IntKind.i64.wrap ((m:Int) - 1)=(k:Int) :=by rw[IntKind.wrap_i64]; omega
  have bF:IntKind.i64.wrap ((m:Int)+1)=((m+1:Nat) :Int) :=by rw[IntKind.wrap_i64]; omega
  have io:=fK af;have s5:=fK aA;have fJ:cg (.au 32) (aR g.ids) (.int .i64 (k:Int))=some (.b3 (aS x) 0) :=by simp[aR,af]
  have C2:cg (.au 32) (aR g.ids) (.int .i64 (m:Int))=some (.b3 (aS y) 0) :=by simp[aR,aA]
  have bf:=cM (ar.ids x cC);have b8:=cM (ar.ids y cm);have gi:=zL x y (ar.ids x cC) (ar.ids y cm);unfold fz at gi;change bw Tryz.prog GS 149 [.aJ (aS x),.aJ (aS y)] _ at gi;have gj:=fE x;have jm:=fE y;obtain⟨X,cQ⟩:∃ X,X=aS x:=⟨_,rfl⟩
  obtain⟨Y,ef⟩:∃ Y,Y=aS y:=⟨_,rfl⟩
  rw[<-cQ] at fJ bf gi gj;rw[<-ef] at C2 b8 gi jm;simp[gx,aN,aQ,fJ,C2,bf,b8,atT];refine a1 gi (by simp[bg,U.closed,gj,jm]) ?_;by_cases ah:cq x y<0
  ·have eW:¬ (0<=cq x y) :=by omega
   simp[eW,bF];refine⟨by omega,fun j h1 ad aj=>?_⟩;have eB:cq (b2 g.ids.l (j - 1)) (b2 g.ids.l j)<0:=by
    by_cases ai:j=m
    ·rw[ai,show m - 1=k by omega,io,s5]; exact ah
    ·exact ak j (by omega) ad aj
   simpa [b2] using eB
  ·have eW:0<=cq x y:=by omega
   simp[eW];refine aK (congrArg (U.int .i64) ?_) rfl;have dH:dO g.ids.l=false:=XQ (k:=m) (by omega) (by omega) (by rw[show m - 1=k by omega,io,s5]; exact ah);unfold qJ;rw[dH]; rfl
 ·have az:dO g.ids.l=true:=Np fun j h1 ad=>ak j (by omega) h1 ad
  have ai:=mu az;obtain⟨aX,_⟩:=DN (z:=1) (by_:=8) (n:=g.ops.l.length) (k:=.i64) (k':=.i64) (zero:=[U.int .i64 0]) (l:=[a2.cells 2 [aR g.ids,bZ g.ops]]) rfl (by omega) (by rw[lH]; omega);obtain⟨a6,_⟩:=DN (z:=1) (by_:=24) (n:=g.ops.l.length) (k:=.i64) (k':=.i64) (zero:=[U.aW]) (l:=[a2.cells 2 [aR g.ids,bZ g.ops],a2.cells g.ops.l.length (List.replicate g.ops.l.length (U.int .i64 0))]) rfl (by omega) (by rw[lH]; omega);simp only[avo,Nk (α:=Nat)] at aX a6;simp[gx,eC,aN,aX,a6];refine cF g.ops.l.length (fun m ae l=>ae 1=.ptr 0 0 2/\ae 4=.au 1 1 0 g.ops.l.length g.ops.l.length g.ops.l.length/\ae 5=.au 1 2 0 g.ops.l.length g.ops.l.length g.ops.l.length/\ae 45=bZ g.ops/\ae 46=.int .i64 g.ops.l.length/\ae 47=.int .i64 m ∧
   ZV g m 0 (ae 6) l/\∀ i,i<m->kr g.ids.l (c4 g.ops.l i)=true) ?_ ?_
  ·rintro m ae l hm ⟨aM,bD,bh,uh,ui,uj,j9,eH⟩;obtain⟨dK,cd⟩:∃ v,ae 6=v:=⟨_,rfl⟩
   rw[cd] at j9;obtain⟨ae,rfl⟩:=Ii aM bD bh cd uh ui uj;clear aM bD bh cd uh ui uj;by_cases pe:m<g.ops.l.length
   ·obtain⟨o,ap,dD⟩:=bx pe;have aQ:IntKind.i64.wrap ((m:Int)+1)=((m+1:Nat) :Int) :=by rw[IntKind.wrap_i64]; omega
    have bW:cg (.au 11) (bZ g.ops) (.int .i64 (m:Int))=some (.b3 (bd o) 0) :=by simp[bZ,ap]
    have k4:=ar.ops o dD;have gy:=aF o dD;have pg:c4 g.ops.l m=o.bp.l:=m1 ap;have nG:cz (.au 32) (aR o.bp)=some (.int .i64 o.bp.l.length) :=by simp[aR]
    have sG:(bd o).length=11:=rfl;have hh:∀ h:1<(bd o).length,(bd o)[1]'h=aR o.bp:=fun _=>rfl
    obtain⟨O,dX⟩:∃ O,O=bd o:=⟨_,rfl⟩
    rw[<-dX] at bW sG hh;have il:bu [U.int .u32 0,.aW,.int .u64 0,.int .u8 0,.str [],.int .u8 0,.int .i64 0,.int .u64 0,.str [],.int .u32 0,.int .u32 0] 0 O=O:=fi (by rw[sG]; rfl);simp[pe,bW,sG,hh,nG,il,atT];obtain⟨zC,F2⟩:∃ zC,zC=l.length:=⟨_,rfl⟩
    rw[<-F2];refine cF o.bp.l.length (fun q ae l=>ae 1=.ptr 0 0 2/\ae 4=.au 1 1 0 g.ops.l.length g.ops.l.length g.ops.l.length/\ae 5=.au 1 2 0 g.ops.l.length g.ops.l.length g.ops.l.length/\ae 6=dK/\ae 7=.int .i64 m/\ae 8=.ptr zC 0 11/\ae 45=bZ g.ops/\ae 46=.int .i64 g.ops.l.length/\ae 47=.int .i64 m ∧
     ae 53=aR o.bp/\ae 54=.int .i64 o.bp.l.length/\ae 55=.int .i64 q/\ZU g m q dK zC O l/\∀ (j:Nat) (p:List B),j<q->o.bp.l[j]? = some p->p∈g.ids.l) ?_ ?_
    ·rintro q ae l aZ ⟨aM,bD,bh,cd,dC,dw,uh,ui,uj,S1,S2,S3,og,yz⟩;obtain⟨ae,rfl⟩:=amp aM bD bh cd dC dw uh ui uj S1 S2 S3;clear aM bD bh cd dC dw uh ui uj S1 S2 S3;obtain⟨vs,cw,de,hq,rest,rfl,fv,nz,gF,k0,me,ag,rj,p8⟩:=og;by_cases uB:q<o.bp.l.length
     ·obtain⟨p,ay,pf⟩:=bx uB;have bF:IntKind.i64.wrap ((q:Int)+1)=((q+1:Nat) :Int) :=by rw[IntKind.wrap_i64]; omega
      have h4:cg (.au 32) (aR o.bp) (.int .i64 (q:Int))=some (.b3 (aS p) 0) :=by simp[aR,ay]
      have UR:=k4.ids p pf;have bf:=cM UR;have gj:=fE p;have An:=Sx g ar az p UR;unfold cS ds at An o5;obtain⟨X,cQ⟩:∃ X,X=aS p:=⟨_,rfl⟩
      rw[<-cQ] at h4 bf gj An;have nJ:bu (rep 32 (.int .u8 0)) 0 X=X:=fi (by rw[bf]; rfl);simp[cT,uB,h4,bf,nJ,atT];refine a1 An (by simp[bg,U.closed,gj,dx,cD]) ?_;by_cases wx:p∈g.ids.l
      ·obtain⟨j2,fI⟩:=atZ.1 wx;have aey:=xI az fI;have apL:=(atU.1 fI).1;have apM:j2<g.ops.l.length:=by omega
       have ju:vs.length=g.ops.l.length:=by rw[fv.oG,nz.len]
       obtain⟨ie,AE,_⟩:=bx (l:=vs) (k:=j2) (by omega);obtain⟨row,cE,_⟩:=bx (l:=cw) (k:=j2) (by rw[nz.len]; omega);obtain⟨l1,gk⟩:∃ l1,l1=cT g (e4 g.ops.l m) vs (rest++[.cells 32 X,.cells 1 [.int .i64 (m:Int)]]) :=⟨_,rfl⟩
       have FV:lp l1 vs cw de:=by rw[gk]; exact fv.more _
       have K7:l1.length=rest.length+5:=by rw[gk]; simp[cT]
       have lK:=nz.oC j2 row cE;obtain⟨aY,bX,DE,aM,aT,a7,bD,bh⟩:=FV.app (b:=rest.length+4) (k:=m) AE cE (by rw[gk]; simp[cT]) (by omega) (by rw[lH]; omega);have eh:=bh 0 (by omega) (A5 FV (by omega));have q1:=bh 1 (by omega) (A5 FV (by omega));have ff:=bh 2 (by omega) (A5 FV (by omega));obtain⟨fg,rfl⟩:∃ r,bX=cT g (e4 g.ops.l m) vs r:=Oa (eh.1.trans (by rw[gk]; rfl)) (q1.1.trans (by rw[gk]; rfl)) (ff.1.trans (by rw[gk]; rfl));have Gn:cg (.au 1) (.au 1 2 0 g.ops.l.length g.ops.l.length g.ops.l.length) (.int .i64 (j2:Int))=some (.ptr 2 j2 g.ops.l.length) :=by
        simp only[cg];rw[if_pos ⟨trivial,by omega,by omega⟩];simp
       rw[gk] at aM;unfold cT at aM;simp[wx,aey,Gn,AE,aM];refine dT.cy ?_;have AB:bu vs j2 [aY]=vs.set j2 aY:=alk (by omega);simp[cT,bD,Gn,AB,ju];have kz:∀ c,3<=c->c<(cT g (e4 g.ops.l m) vs rest).length->oO cw de c->(cT g (e4 g.ops.l m) (vs.set j2 aY) fg)[c]? = (cT g (e4 g.ops.l m) vs rest)[c]?/\oO (cw.set j2 (row++[m])) DE c:=by
        intro c aj eb ap;obtain⟨b6,bJ⟩:=bh c (by simp[cT] at eb; omega) ap;exact⟨(Au aj).trans (b6.trans (by rw[gk]; exact Lp eb)),bJ⟩
       have K1:i6 g.ops.l m≠[]->hq<(cT g (e4 g.ops.l m) vs rest).length:=fun bz=>by
        rcases gF.lt with h | h
        ·rw[h] at k0;cases e6:i6 g.ops.l m with
         | nil=>exact absurd e6 bz
         | cons=>rw[e6] at k0; cases k0
        ·exact h
       have fb:=(atU.1 ag).1;obtain⟨f1,f2⟩:=kz zC rj fb p8;refine⟨by omega,uB,by rw[IntKind.wrap_i64]; omega,⟨⟨vs.set j2 aY,cw.set j2 (row++[m]),DE,hq,fg,rfl,?_,ajf ai al nz (by rw[pg]; exact ay) fI cE,?_,k0,?_,f1.trans ag,rj,f2⟩⟩,fun j bS eB gc=>?_⟩
       ·exact aT.frame fun b ag ⟨a,u6,h1,ad,aj⟩=>by
         have aF:3<=b:=aw0 fun h=>A5 aT h a u6 h1 ad aj
         exact Au aF
       ·by_cases bz:i6 g.ops.l m=[]
        ·rw[bz] at k0 gF ⊢;rw[i2.1 k0];exact .nil _
        ·obtain⟨h1,ad⟩:=me.resolve_left bz;exact gF.frame fun h=>(kz hq h1 (K1 bz) ad).1
       ·by_cases bz:i6 g.ops.l m=[]
        ·exact .inl bz
        ·obtain⟨h1,ad⟩:=me.resolve_left bz;exact .inr ⟨h1,(kz hq h1 (K1 bz) ad).2⟩
       ·by_cases afk:j=q
        ·subst afk; rw[ay] at gc; obtain rfl:=Option.some.inj gc; exact wx
        ·exact yz j bS (by omega) gc
      ·simp[wx];refine aK (congrArg (U.int .i64) ?_) rfl;have dH:¬ DY g.ids.l g.ops.l=true:=fun h=>by
        have:=of_decide_eq_true h o dD;exact wx (of_decide_eq_true this p pf)
       unfold qJ;rw[if_pos az,if_neg dH]
     ·have qt:q=o.bp.l.length:=by omega
      rw[qt] at nz;rw[<-pg] at nz;have Tt:=ajd nz (by rw[pg]; exact gy);have ju:vs.length=g.ops.l.length:=by rw[fv.oG,nz.len]
      have U0:eM (cT g (e4 g.ops.l m) vs rest) (.ptr zC 1 11)=some (O,1) :=by simp only[eM,ag]; rfl
      have CZ:cg (.au 1) (.au 1 1 0 g.ops.l.length g.ops.l.length g.ops.l.length) (.int .i64 (m:Int))=some (.ptr 1 m g.ops.l.length) :=by
       simp only[cg];rw[if_pos ⟨trivial,by omega,by omega⟩];simp
      have LG:km 1 (cT g (e4 g.ops.l m) vs rest) (.ptr 1 m g.ops.l.length) (.int .i64 o.bp.l.length)=some (cT g (e4 g.ops.l (m+1)) vs rest) :=by
       have h1:(cT g (e4 g.ops.l m) vs rest)[1]? = some (.cells g.ops.l.length ((e4 g.ops.l m).map j4)) :=rfl;simp only[km,U.cells,h1];rw[if_pos (by simp; omega)];have ad:bu ((e4 g.ops.l m).map j4) m [U.int .i64 o.bp.l.length]=(e4 g.ops.l (m+1)).map j4:=by
        rw[<-ank pe,pg];exact oE j4 (e4 g.ops.l m) m _ (by rw[Zi]; exact pe)
       rw[ad]; rfl
      have Df:eM (cT g (e4 g.ops.l (m+1)) vs rest) (.ptr 1 m g.ops.l.length)=some ((e4 g.ops.l (m+1)).map j4,m) :=by
       have h1:(cT g (e4 g.ops.l (m+1)) vs rest)[1]? = some (.cells g.ops.l.length ((e4 g.ops.l (m+1)).map j4)) :=rfl;simp only[eM,h1]; simp
      have Gl:((e4 g.ops.l (m+1)).map j4)[m]? = some (.int .i64 o.bp.l.length) :=by
       rw[at0,Is pe,if_pos (by omega),pg]; rfl
      have apZ:∀ h:m<((e4 g.ops.l (m+1)).map j4).length,((e4 g.ops.l (m+1)).map j4)[m]'h=.int .i64 o.bp.l.length:=fun h=>(atU.1 Gl).2
      have Tq:O[1]? = some (aR o.bp) :=by rw[atX (by rw[sG]; omega),hh]
      have wc:lp (cT g (e4 g.ops.l (m+1)) vs rest) vs cw de:=fv.frame fun b ag ⟨a,u6,h1,ad,aj⟩=>Au (aw0 fun h=>A5 fv h a u6 h1 ad aj)
      have FX:bG 1 (cT g (e4 g.ops.l (m+1)) vs rest) dK hq ((i6 g.ops.l m).map hC) :=by
       by_cases bz:i6 g.ops.l m=[]
       ·rw[bz] at k0 ⊢;rw[i2.1 k0];exact .nil _
       ·exact gF.frame fun _=>Au (me.resolve_left bz).1
      have F0:∀ i,i<m+1->kr g.ids.l (c4 g.ops.l i)=true:=fun i av=>by
       by_cases afd:i=m
       ·subst afd;rw[pg];refine decide_eq_true fun p ay=>?_
        obtain⟨j,eB⟩:=atZ.1 ay;exact yz j p (by rw[qt]; exact (atU.1 eB).1) eB
       ·exact eH i (by omega)
      by_cases aw:o.bp.l.length=0
      ·have afz:cz (.au 32) (aR o.bp)=some (.int .i64 0) :=by rw[nG,aw]; rfl
       have agz:km 1 (cT g (e4 g.ops.l m) vs rest) (.ptr 1 m g.ops.l.length) (.int .i64 0)=some (cT g (e4 g.ops.l (m+1)) vs rest) :=by rw[aw] at LG; exact LG
       have ae0:((e4 g.ops.l (m+1)).map j4)[m]? = some (.int .i64 0) :=by rw[aw] at Gl; exact Gl
       have qu:i6 g.ops.l (m+1)=i6 g.ops.l m++[m] :=by
        rw[XA,pg,auE.1 aw]; rfl
       obtain⟨hp,Mx,na,ix⟩:∃ hp,bG 1 (cT g (e4 g.ops.l (m+1)) vs (rest++[.cells 1 [.int .i64 (m:Int)]])) dK hp ((i6 g.ops.l m).map hC)/\3<=hp/\oO cw de hp:=by
        by_cases bz:i6 g.ops.l m=[]
        ·rw[bz] at k0 ⊢;rw[i2.1 k0];exact⟨(cT g (e4 g.ops.l (m+1)) vs (rest++[.cells 1 [.int .i64 (m:Int)]])).length,.nil _,by simp[cT],D0 wc (by simp[cT])⟩
        ·exact⟨hq,FX.more _,(me.resolve_left bz).1,(me.resolve_left bz).2⟩
       have lK:(i6 g.ops.l m).length<=m:=by
        have:=avm (fun k=>(c4 g.ops.l k).isEmpty) (List.range m);simpa [i6] using this
       obtain⟨r5,Mh,bX,aM,aT,a7,bD,bh,cd⟩:=oP (by_:=8) Mx (x:=.au 1 (rest.length+3) 0 1 1 1) (xs:=[hC m]) (by simp[dM,cT,hC]) (by simp[hC]) (by omega) (by omega) (by rw[lH]; simp; omega);have K8:(cT g (e4 g.ops.l (m+1)) vs (rest++[.cells 1 [.int .i64 (m:Int)]])).length=rest.length+4:=by simp[cT]
       obtain⟨fg,rfl⟩:∃ r,bX=cT g (e4 g.ops.l (m+1)) vs r:=Oa ((bD 0 (by omega) (by omega)).trans rfl) ((bD 1 (by omega) (by omega)).trans rfl) ((bD 2 (by omega) (by omega)).trans rfl);have Lt:cT g (e4 g.ops.l (m+1)) vs rest++[a2.cells 1 [.int .i64 (m:Int)]]=cT g (e4 g.ops.l (m+1)) vs (rest++[.cells 1 [.int .i64 (m:Int)]]) :=rfl;have Gu:(cT g (e4 g.ops.l (m+1)) vs rest).length=rest.length+3:=by simp[cT]
       simp[uB,U0,Tq,afz,CZ,agz,Df,ae0,Lt,Gu,aM];refine dT.cy ?_;simp;have LM:cx r5=false:=by
        cases aG:cx r5 with
        | true=>have:=(cd.1 (i2.1 aG)).2; cases this
        | false=>rfl
       refine⟨pe,by rw[IntKind.wrap_i64]; omega,⟨⟨vs,cw,de,Mh,fg,rfl,?_,Tt,?_,?_,.inr ⟨?_,?_⟩⟩⟩,F0⟩
       ·exact wc.frame fun b ag ⟨a,u6,h1,ad,aj⟩=>(bD b (by omega) (fun e=>ix a u6 h1 ad (by omega))).trans (Lp ag)
       ·rw[qu,auq]; exact aT
       ·rw[LM,qu]; simp
       ·rcases bh with e | e<;>omega
       ·rcases bh with e | e
        ·rw[e]; exact ix
        ·exact D0 wc (by omega)
      ·have qu:i6 g.ops.l (m+1)=i6 g.ops.l m:=by
        rw[XA,pg];have:o.bp.l.isEmpty=false:=by cases e6:o.bp.l with | nil=>rw[e6] at aw; exact absurd rfl aw | cons=>rfl
        rw[this]; simp
       simp[uB,U0,Tq,nG,CZ,LG,Df,Gl,aw];exact⟨pe,by rw[IntKind.wrap_i64]; omega,⟨⟨vs,cw,de,hq,rest,rfl,wc,Tt,by rw[qu]; exact FX,by rw[qu]; exact k0,by rw[qu]; exact me⟩⟩,F0⟩
    ·simp;obtain⟨vs,cw,de,hq,rest,rfl,fv,nz,gF,k0,me⟩:=j9;refine⟨⟨vs,cw,de,hq,rest++[.cells 11 O],rfl,fv.more _,nz,gF.more _,k0,me,by rw[F2,at8 (atW _)]; simp,by rw[F2]; simp[cT],D0 fv (by rw[F2]; exact atW _)⟩⟩
   ·have iF:m=g.ops.l.length:=by omega
    subst iF;obtain⟨vs,cw,de,ahx,akl,rfl,Tp,nz,p7,adX,adW⟩:=j9;have Kf:=ajc nz;have ju:vs.length=g.ops.l.length:=by rw[Tp.oG,nz.len]
    have gO:DY g.ids.l g.ops.l=true:=decide_eq_true fun o dD=>by
     obtain⟨j,eB⟩:=atZ.1 dD;have:=eH j (atU.1 eB).1
     rwa [m1 eB] at this
    have Tn:=ahS (ids:=g.ids.l) (ops:=g.ops.l) al;rw[<-anj] at Tn;have adY:sj g vs cw de (e4 g.ops.l g.ops.l.length) (i6 g.ops.l g.ops.l.length) dK akl:=⟨⟨ahx,Tp,p7,adX,adW⟩⟩
    simp;refine cF g.ops.l.length (fun d ae l=>ae 1=.ptr 0 0 2/\ae 4=.au 1 1 0 g.ops.l.length g.ops.l.length g.ops.l.length/\ae 5=.au 1 2 0 g.ops.l.length g.ops.l.length g.ops.l.length/\ae 13=.int .i64 d ∧
     ∃ W R rest,l=cT g W vs rest/\sj g vs cw de W R (ae 6) rest/\sh g.ids.l g.ops.l [] d 0 R W) ?_ ?_
    ·rintro d ae l bH ⟨aM,bD,bh,ih,W,R,rest,rfl,j9,aV⟩;obtain⟨dK,cd⟩:∃ v,ae 6=v:=⟨_,rfl⟩
     rw[cd] at j9;obtain⟨ae,rfl⟩:=lk aM bD bh cd ih;clear aM bD bh cd ih;have Kr:cz (.au 1) dK=some (.int .i64 R.length) :=by obtain⟨hq,_,gF,_⟩:=j9; have:=gF.len; simpa using this
     have k0:R.length<=g.ops.l.length:=by
      have:=vb (b:=List.range g.ops.l.length) aV.h8 fun x af=>aux.2 (aV.oW x af).1
      simpa using this
     by_cases us:d<R.length
     ·obtain⟨a,ax,ad8⟩:=bx us;have ad9:=(aV.oW a ad8).1;have aQ:IntKind.i64.wrap ((d:Int)+1)=((d+1:Nat) :Int) :=by rw[IntKind.wrap_i64]; omega
      obtain⟨row,cE,_⟩:=bx (l:=cw) (k:=a) (by rw[nz.len]; exact ad9);obtain⟨ie,AE,_⟩:=bx (l:=vs) (k:=a) (by omega);obtain⟨hq,fv,gF,Tv,me⟩:=j9;obtain⟨MT,xF,By,dW,dB,gg,l3⟩:=gF.q.get (k:=.i64) (i:=d) (e:=hC a) (by rw[at0,ax]; rfl);have tR:=one_cell (c:=.int .i64 (a:Int)) l3;have Gn:cg (.au 1) (.au 1 2 0 g.ops.l.length g.ops.l.length g.ops.l.length) (.int .i64 (a:Int))=some (.ptr 2 a g.ops.l.length) :=by
       simp only[cg];rw[if_pos ⟨trivial,by omega,by omega⟩];simp
      have Dg:∀ tP lU,eM (cT g tP vs lU) (.ptr 2 a g.ops.l.length)=some (vs,a) :=fun tP lU=>by
       have h1:(cT g tP vs lU)[2]? = some (.cells g.ops.l.length vs) :=rfl;simp only[eM,h1]; simp
      have LO:=(fv.own a ie row AE cE).1;have agH:cz (.au 1) ie=some (.int .i64 row.length) :=by have:=LO.len; simpa using this
      have lK:=nz.oC a row cE;simp[Kr,us,dW,dB,tR,Gn,Dg,AE,agH];refine cF row.length (fun j ae l=>ae 1=.ptr 0 0 2/\ae 4=.au 1 1 0 g.ops.l.length g.ops.l.length g.ops.l.length/\ae 5=.au 1 2 0 g.ops.l.length g.ops.l.length g.ops.l.length/\ae 13=.int .i64 d/\ae 106=ie/\ae 107=.int .i64 row.length/\ae 108=.int .i64 j ∧
       ∃ W R rest,l=cT g W vs rest/\sj g vs cw de W R (ae 6) rest/\sh g.ids.l g.ops.l row d j R W/\R[d]? = some a) ?_ ?_
      ·rintro j ae l K1 ⟨aM,bD,bh,ih,SP,SQ,SR,W,R,rest,rfl,j9,aV,ax⟩;obtain⟨dK,cd⟩:∃ v,ae 6=v:=⟨_,rfl⟩
       rw[cd] at j9;obtain⟨ae,rfl⟩:=YZ aM bD bh cd ih SP SQ SR;clear aM bD bh cd ih SP SQ SR;by_cases eX:j<row.length
       ·obtain⟨k,hk,nE⟩:=bx eX;have hl:=Kf.lt a row cE k nE;obtain⟨x,af,AJ,aqq,CL⟩:=ahT al ai Kf aV ax cE hk;have aqr:(c4 g.ops.l k).length<=4:=by
         obtain⟨cR,eD,af0⟩:=bx hl;rw[m1 eD]; exact aF cR af0
        have aQ:IntKind.i64.wrap ((j:Int)+1)=((j+1:Nat) :Int) :=by rw[IntKind.wrap_i64]; omega
        have bF:IntKind.i64.wrap (x - 1)=x - 1:=by rw[IntKind.wrap_i64]; omega
        obtain⟨hq,fv,gF,Tv,me⟩:=id j9;have LO:=(fv.own a ie row AE cE).1;obtain⟨MT,xF,By,dW,dB,gg,l3⟩:=LO.q.get (k:=.i64) (i:=j) (e:=hC k) (by rw[at0,hk]; rfl);have tR:=one_cell (c:=.int .i64 (k:Int)) l3;have CZ:cg (.au 1) (.au 1 1 0 g.ops.l.length g.ops.l.length g.ops.l.length) (.int .i64 (k:Int))=some (.ptr 1 k g.ops.l.length) :=by
         simp only[cg];rw[if_pos ⟨trivial,by omega,by omega⟩];simp
        have apK:=aV.wl;have Df:eM (cT g W vs rest) (.ptr 1 k g.ops.l.length)=some (W.map j4,k) :=by
         have h1:(cT g W vs rest)[1]? = some (.cells g.ops.l.length (W.map j4)) :=rfl;simp only[eM,h1]; simp
        have dU:(W.map j4)[k]? = some (.int .i64 x) :=by rw[at0,af]; rfl
        have ch:km 1 (cT g W vs rest) (.ptr 1 k g.ops.l.length) (.int .i64 (x - 1))=some (cT g (W.set k (x - 1)) vs rest) :=by
         have h1:(cT g W vs rest)[1]? = some (.cells g.ops.l.length (W.map j4)) :=rfl;simp only[km,U.cells,h1];rw[if_pos (by simp; omega)];have ad:bu (W.map j4) k [U.int .i64 (x - 1)]=(W.set k (x - 1)).map j4:=oE j4 W k _ (by omega);rw[ad]; rfl
        have Dg:eM (cT g (W.set k (x - 1)) vs rest) (.ptr 1 k g.ops.l.length)=some ((W.set k (x - 1)).map j4,k) :=by
         have h1:(cT g (W.set k (x - 1)) vs rest)[1]? = some (.cells g.ops.l.length ((W.set k (x - 1)).map j4)) :=rfl;simp only[eM,h1]; simp
        have Gk:((W.set k (x - 1)).map j4)[k]? = some (.int .i64 (x - 1)) :=by rw[at0,at9 (by omega)]; rfl
        have Ks:sj g vs cw de (W.set k (x - 1)) R dK rest:=j9.setW;obtain⟨hx,FY⟩:∃ hx,hx=W.set k (x - 1) :=⟨_,rfl⟩
        rw[<-FY] at ch Dg Gk Ks CL;by_cases aw:x - 1=0
        ·rw[if_pos aw] at CL;have dn:IntKind.i64.wrap (x - 1)=0:=by rw[bF]; exact aw
         rw[aw] at ch Gk;have apF:R.length<=g.ops.l.length:=by
          have:=vb (b:=List.range g.ops.l.length) aV.h8 fun x af=>aux.2 (aV.oW x af).1
          simpa using this
         obtain⟨aY,fg,oy,wX⟩:=Ks.push k (by rw[lH]; omega);have Lt:cT g hx vs rest++[a2.cells 1 [.int .i64 (k:Int)]]=cT g hx vs (rest++[.cells 1 [.int .i64 (k:Int)]]) :=rfl;have Gu:(cT g hx vs rest).length=rest.length+3:=by simp[cT]
         simp[eX,dW,dB,tR,CZ,Df,dU,dn,ch,Dg,Gk,Lt,Gu,oy];refine dT.cy ?_;simp[eX,aQ];exact⟨hx,R++[k],fg,rfl,wX,CL,by rw[atV (atU.1 ax).1]; exact ax⟩
        ·rw[if_neg aw] at CL;simp[eX,dW,dB,tR,CZ,Df,dU,bF,ch,Dg,Gk,aw,aQ];exact⟨hx,R,rest,rfl,Ks,CL,ax⟩
       ·have afj:j=row.length:=by omega
        subst afj;simp[eX];exact⟨by omega,by rw[IntKind.wrap_i64]; omega,W,R,rest,rfl,j9,ahQ Kf aV ax cE⟩
      ·simp;exact⟨W,R,rest,rfl,⟨⟨hq,fv,gF,Tv,me⟩⟩,ahR aV,ax⟩
     ·have aeH:d=R.length:=by have:=aV.dl; omega
      subst aeH;obtain⟨na,ix⟩:=ahP al ai aV;by_cases ql:R.length<g.ops.l.length
      ·simp[Kr,us,cT,eC,ql];refine aK (congrArg (U.int .i64) ?_) rfl;unfold qJ;rw[if_pos az,if_pos gO,if_neg (fun h=>by have:=ix.2 h; omega)]
      ·simp[Kr,us,cT,eC,ql];refine aK (congrArg (U.int .i64) ?_) rfl;unfold qJ;rw[if_pos az,if_pos gO,if_pos (ix.1 (by omega))]
    ·simp;exact⟨_,_,_,rfl,adY,Tn⟩
  ·simp;refine⟨⟨List.replicate g.ops.l.length .aW,List.replicate g.ops.l.length [],fun _=>0,0,[],?_,⟨by simp,fun a v row aq ago=>?_,fun a b mz nQ _ ax _ Lf _=>?_⟩,aje _ _,.nil _,rfl,.inl rfl⟩⟩
   ·unfold cT; rw[anl,awL]; rfl
   ·have h1:=avf (at3 aq);have ad:=avf (at3 ago);subst h1 ad;exact⟨.nil _,rfl,.inl rfl⟩
   ·exact absurd (avf (at3 ax)) Lf
set_option maxHeartbeats 4000000 in
theorem Bt (g:bi) (ar:ft g) :bw Tryz.prog GS 52 [cS g] (.int .i64 (eK g)) :=by
 refine bK Tryz.checked.mixed bB ?_;apply bm Tryz.func52 [];have dx:=e5 g.ids;have cD:=lu g.ops;have o5:=Fj g;have eC:cz (.au 11) (bZ g.ops)=some (.int .i64 g.ops.l.length) :=by simp[bZ]
 have gx:cz (.au 32) (aR g.ids)=some (.int .i64 g.ids.l.length) :=by simp[aR]
 have bl:=ar.cV;by_cases kv:60<(g.ops.l.length:Int)
 ·simp[cS,ds,eC,kv];refine aK (congrArg (U.int .i64) ?_) rfl;unfold eK; rw[if_pos (by omega)]
 by_cases al:g.ids.l.length=g.ops.l.length
 ·have db:(g.ids.l.length:Int)=(g.ops.l.length:Int) :=by omega
  simp[cS,ds,eC,gx,kv,db];refine cF g.ops.l.length (fun k ae l=>(∃ rest,l=.cells 2 [aR g.ids,bZ g.ops] ::rest)/\ae 1=.ptr 0 0 2/\ae 19=bZ g.ops/\ae 20=.int .i64 g.ops.l.length/\ae 21=.int .i64 k/\∀ j,j<k->oX g j=true) ?_ (by simp);rintro k ae l hk ⟨⟨rest,rfl⟩,aM,sC,SV,ug,ak⟩;obtain⟨ae,rfl⟩:=iw aM sC SV ug;clear aM sC SV ug;by_cases cZ:k<g.ops.l.length
  ·obtain⟨o,ap,dD⟩:=bx cZ;obtain⟨x,af,cC⟩:=bx (l:=g.ids.l) (k:=k) (by omega);have dY:=FK ap af;have aQ:IntKind.i64.wrap ((k:Int)+1)=((k+1:Nat) :Int) :=by rw[IntKind.wrap_i64]; omega
   have bW:cg (.au 11) (bZ g.ops) (.int .i64 (k:Int))=some (.b3 (bd o) 0) :=by simp[bZ,ap]
   have yj:cg (.au 32) (aR g.ids) (.int .i64 (k:Int))=some (.b3 (aS x) 0) :=by simp[aR,af]
   have aq:=am0 o (ar.ops o dD);have fm:=Ou o (ar.ops o dD);change bw Tryz.prog GS 94 [.aJ (bd o)] (.bE [.aJ (aS (dZ o)),.int .i64 (fA o)]) at fm;have rp:=l6 o;have bf:=cM (ar.ids x cC);have CK:=cM (LW o);have cl:(bd o).length=11:=rfl;have heq:=Dt (LW o) (ar.ids x cC);have oh:¬ oX g k=true->eK g=8:=fun h=>by
    unfold eK;rw[if_neg (by omega),if_pos al,if_neg fun aG=>h ((z2 g).1 aG k cZ)]
   obtain⟨O,dX⟩:∃ O,O=bd o:=⟨_,rfl⟩
   obtain⟨X,cQ⟩:∃ X,X=aS x:=⟨_,rfl⟩
   obtain⟨I,rf⟩:∃ I,I=aS (dZ o) :=⟨_,rfl⟩
   rw[<-dX] at bW aq fm rp cl;rw[<-cQ] at yj bf heq;rw[<-rf] at fm heq CK;have il:bu [U.int .u32 0,.aW,.int .u64 0,.int .u8 0,.str [],.int .u8 0,.int .i64 0,.int .u64 0,.str [],.int .u32 0,.int .u32 0] 0 O=O:=fi (by rw[cl]; rfl);have LF:bu (rep 32 (.int .u8 0)) 0 I=I:=fi (by rw[CK]; rfl);simp[cZ,bW,cl,il,atT];refine a1 fm (by simp[bg,U.closed,rp]) ?_;by_cases aE:fA o=0
   ·by_cases fJ:dZ o=x
    ·simp[aE,CK,LF,yj,bf,heq,fJ,cl,atT];refine a1 aq (by simp[bg,U.closed,rp]) ?_;by_cases sV:qQ o=0
     ·simp[sV,cZ,aQ];intro j ai;by_cases fk:j=k
      ·subst fk; rw[dY]; simp[sV,fJ]
      ·exact ak j (by omega)
     ·have ag:¬ oX g k=true:=fun h=>by rw[dY] at h; simp[sV] at h
      simp[sV];exact aK (congrArg (U.int .i64) (oh ag).symm) rfl
    ·have ag:¬ oX g k=true:=fun h=>by rw[dY] at h; simp[fJ] at h
     simp[aE,CK,LF,yj,bf,heq,fJ,cl,atT];exact aK (congrArg (U.int .i64) (oh ag).symm) rfl
   ·have ag:¬ oX g k=true:=fun h=>by
     rw[dY,atY,decide_eq_true_eq] at h;exact aE (Bs h.1)
    simp[aE,CK,LF,yj,bf,heq,cl,atT];exact aK (congrArg (U.int .i64) (oh ag).symm) rfl
  ·have pa:k=g.ops.l.length:=by omega
   have eH:FJ g=true:=(z2 g).2 fun j ai=>ak j (by omega)
   have aF:∀ o∈g.ops.l,o.bp.l.length<=4:=fun o dD=>by
    obtain⟨j,ai⟩:=atZ.1 dD;obtain⟨x,af,_⟩:=bx (l:=g.ids.l) (k:=j) (by have:=(atU.1 ai).1; omega);have h1:=(z2 g).1 eH j (atU.1 ai).1;rw[FK ai af,atY,decide_eq_true_eq] at h1;exact A4 (Bs h1.1)
   have pk:=akV g ar al (by omega) aF;unfold cS ds at pk o5;simp[cZ];refine a1 pk (by simp[bg,o5]) ?_;simp;refine aK (congrArg (U.int .i64) ?_) rfl;unfold eK;rw[if_neg (by omega),if_pos al,if_pos eH]
 ·have db:¬ (g.ids.l.length:Int)=(g.ops.l.length:Int) :=by omega
  simp[cS,ds,eC,gx,kv,db];refine aK (congrArg (U.int .i64) ?_) rfl;unfold eK; rw[if_neg (by omega),if_neg al]
def uk (o:bq) :Bool:=decide (20<o.bp.l.length)||(decide (100<o.act.key.length)||decide (100<o.act.val.text.length))
theorem ajF (o:bq) :bw Tryz.prog GS 38 [.aJ (bd o)] (.bool (uk o)) :=by
 refine bK Tryz.checked.mixed bB ?_;apply bm Tryz.func38 [];unfold uk;have nG:cz (.au 32) (aR o.bp)=some (.int .i64 o.bp.l.length) :=by simp[aR]
 by_cases h1:20<o.bp.l.length
 ·have cN:(20:Int)<(o.bp.l.length:Int) :=by omega
  simp[bd,nG,h1,cN];exact aK rfl rfl
 ·have cN:¬ (20:Int)<(o.bp.l.length:Int) :=by omega
  by_cases ad:100<o.act.key.length
  ·have gE:(100:Int)<(o.act.key.length:Int) :=by omega
   simp[bd,nG,h1,cN,ad,gE];exact aK rfl rfl
  ·have gE:¬ (100:Int)<(o.act.key.length:Int) :=by omega
   simp[bd,nG,h1,cN,ad,gE];refine aK (congrArg U.bool ?_) rfl;by_cases aj:100<o.act.val.text.length
   ·have v7:(100:Int)<(o.act.val.text.length:Int) :=by omega
    simp[aj,v7]
   ·have v7:¬ (100:Int)<(o.act.val.text.length:Int) :=by omega
    simp[aj,v7]
def v6 (g:bi) :Bool:=decide (∃ o∈g.ops.l.take 71,uk o=true)||(decide (16<g.ops.l.length/\g.ops.l.length<=60)||(decide (70<g.ops.l.length)||decide (70<g.ids.l.length)))
theorem ajE (g:bi) :bw Tryz.prog GS 10 [cS g] (.bool (v6 g)) :=by
 refine bK Tryz.checked.mixed bB ?_;apply bm Tryz.func10 [];have eC:cz (.au 11) (bZ g.ops)=some (.int .i64 g.ops.l.length) :=by simp[bZ]
 have gx:cz (.au 32) (aR g.ids)=some (.int .i64 g.ids.l.length) :=by simp[aR]
 simp[cS,ds];refine cF (min g.ops.l.length 71) (fun k ae l=>l=[.cells 2 [aR g.ids,bZ g.ops]]/\ae 1=.ptr 0 0 2/\ae 3=.int .i64 k/\∀ (j:Nat) (o:bq),j<k->g.ops.l[j]? = some o->uk o=false) ?_ (by simp);rintro k ae l hk ⟨rfl,aM,a7,ak⟩;obtain⟨ae,rfl⟩:=pE aM a7;clear aM a7;by_cases cZ:k<g.ops.l.length
 ·by_cases Uo:k<=70
  ·obtain⟨o,ap,dD⟩:=bx cZ;have aQ:IntKind.i64.wrap ((k:Int)+1)=((k+1:Nat) :Int) :=by rw[IntKind.wrap_i64]; omega
   have bW:cg (.au 11) (bZ g.ops) (.int .i64 (k:Int))=some (.b3 (bd o) 0) :=by simp[bZ,ap]
   have aq:=ajF o;have rp:=l6 o;have cl:(bd o).length=11:=rfl;have K3:(k:Int)<=70:=by omega
   have nE:k<min g.ops.l.length 71:=by omega
   obtain⟨O,dX⟩:∃ O,O=bd o:=⟨_,rfl⟩
   rw[<-dX] at bW aq rp cl;simp[eC,cZ,Uo,K3,bW,cl,atT];refine a1 aq (by simp[bg,U.closed,rp]) ?_;by_cases o8:uk o=true
   ·simp[o8];refine aK (congrArg U.bool ?_) rfl;unfold v6;rw[decide_eq_true ⟨o,at3 (i:=k) (by rw[aum (by omega)]; exact ap),o8⟩]; rfl
   ·rw[awq] at o8;simp[o8,aQ];refine⟨by omega,fun j cR ai eD=>?_⟩;by_cases fk:j=k
    ·subst fk; rw[ap] at eD; obtain rfl:=Option.some.inj eD; exact o8
    ·exact ak j cR (by omega) eD
  ·have K3:¬ (k:Int)<=70:=by omega
   have aC:¬ ∃ o∈g.ops.l.take 71,uk o=true:=fun ⟨o,dD,o8⟩=>by
    obtain⟨j,ai⟩:=atZ.1 dD;have eX:=(atU.1 ai).1;rw[aue] at eX;rw[aum (by omega)] at ai;rw[ak j o (by omega) ai] at o8; cases o8
   have aX:(16:Int)<(g.ops.l.length:Int) :=by omega
   have a6:¬ (g.ops.l.length:Int)<=60:=by omega
   have a3:(70:Int)<(g.ops.l.length:Int) :=by omega
   simp[eC,gx,cZ,Uo,K3,aX,a6,a3];refine aK (congrArg U.bool ?_) rfl;unfold v6;simp[show 70<g.ops.l.length by omega]
 ·have aC:¬ ∃ o∈g.ops.l.take 71,uk o=true:=fun ⟨o,dD,o8⟩=>by
   obtain⟨j,ai⟩:=atZ.1 dD;have eX:=(atU.1 ai).1;rw[aue] at eX;rw[aum (by omega)] at ai;rw[ak j o (by omega) ai] at o8; cases o8
  have ae1:v6 g=(decide (16<g.ops.l.length/\g.ops.l.length<=60)||(decide (70<g.ops.l.length)||decide (70<g.ids.l.length))) :=by
   unfold v6; rw[decide_eq_false aC]; rfl
  rw[ae1];have d1:decide ((16:Int)<(g.ops.l.length:Int))=decide (16<g.ops.l.length) :=by rw[decide_eq_decide]; omega
  have d2:decide ((g.ops.l.length:Int)<=60)=decide (g.ops.l.length<=60) :=by rw[decide_eq_decide]; omega
  have d3:decide ((70:Int)<(g.ops.l.length:Int))=decide (70<g.ops.l.length) :=by rw[decide_eq_decide]; omega
  have d4:decide ((70:Int)<(g.ids.l.length:Int))=decide (70<g.ids.l.length) :=by rw[decide_eq_decide]; omega
  by_cases aX:16<g.ops.l.length
  ·have q2:(16:Int)<(g.ops.l.length:Int) :=by omega
   by_cases a6:g.ops.l.length<=60
   ·have EQ:(g.ops.l.length:Int)<=60:=by omega
    simp[eC,gx,cZ,aX,q2,a6,EQ];exact aK rfl rfl
   ·have EQ:¬ (g.ops.l.length:Int)<=60:=by omega
    by_cases a3:70<g.ops.l.length
    ·have BO:(70:Int)<(g.ops.l.length:Int) :=by omega
     simp[eC,gx,cZ,aX,q2,a6,EQ,a3,BO];exact aK rfl rfl
    ·have BO:¬ (70:Int)<(g.ops.l.length:Int) :=by omega
     simp[eC,gx,cZ,aX,q2,a6,EQ,a3,BO];exact aK (congrArg U.bool d4) rfl
  ·have q2:¬ (16:Int)<(g.ops.l.length:Int) :=by omega
   have a3:¬ 70<g.ops.l.length:=by omega
   have BO:¬ (70:Int)<(g.ops.l.length:Int) :=by omega
   simp[eC,gx,cZ,aX,q2,a3,BO];exact aK (congrArg U.bool d4) rfl
def m0 (l:List bq) (k:Nat) :bq:=l.getD k ⟨0,none,0,⟨0,[],⟨0,0,0,[]⟩⟩,0,0⟩
theorem te {l:List bq} {k:Nat} {o:bq} (h:l[k]? = some o) :m0 l k=o:=by unfold m0; rw[aug,h]; rfl
structure kU (g:bi) :Prop where
 n60:g.ops.l.length<=60
 len:g.ids.l.length=g.ops.l.length
 lx:∀ (k:Nat) (o:bq) (x:List B),g.ops.l[k]? = some o->g.ids.l[k]? = some x->qQ o=0/\dZ o=x
 dO:dO g.ids.l=true
 HC:∀ o∈g.ops.l,∀ p∈o.bp.l,p∈g.ids.l
 all:∀ i,i<g.ops.l.length->pL g.ids.l g.ops.l i
theorem my {g:bi} (h:eK g=0) :kU g:=by
 unfold eK at h;split at h
 ·cases h
 ·rename_i kv;split at h
  ·rename_i al;split at h
   ·rename_i dY;unfold qJ at h;split at h
    ·rename_i az;split at h
     ·rename_i gO;split at h
      ·rename_i nI;refine⟨by omega,al,fun k o x ap af=>?_,az,fun o dD p ay=>?_,(WH al (mu az)).1 nI⟩
       ·have:=(z2 g).1 dY k (atU.1 ap).1;rw[FK ap af,atY,decide_eq_true_eq,decide_eq_true_eq] at this;exact this
       ·exact of_decide_eq_true (of_decide_eq_true gO o dD) p ay
      ·cases h
     ·cases h
    ·cases h
   ·cases h
  ·cases h
def He (g:bi) (x:List B) :Int:=if eK g=0 then (if x∈g.ids.l then (q6 g.ids.l x:Int) else 0) else 0
def Hd (g:bi) (x:List B) :Int:=if eK g=0 then (if x∈g.ids.l then 0 else 6) else eK g
set_option maxHeartbeats 2000000 in
theorem aic (g:bi) (ar:ft g) (x:List B) (af:x.length=32) :bw Tryz.prog GS 132 [cS g,.aJ (aS x)] (.bE [.int .i64 (He g x),.int .i64 (Hd g x)]) :=by
 refine bK Tryz.checked.mixed bB ?_;apply bm Tryz.func132 [];unfold He Hd;have dx:=e5 g.ids;have cD:=lu g.ops;have dh:=Bt g ar;have gj:=fE x;have bf:=cM af;unfold cS ds at dh;by_cases aE:eK g=0
 ·have V:=my aE;have ak:=X6 g.ids ar.ids ar.li x af V.dO;obtain⟨X,cQ⟩:∃ X,X=aS x:=⟨_,rfl⟩
  rw[<-cQ] at ak gj bf ⊢;rw[aE] at dh;simp[cS,ds,bf,atT];refine a1 dh (by simp[bg,U.closed,dx,cD]) ?_;simp[bf,atT];refine a1 ak (by simp[bg,U.closed,dx,gj]) ?_;by_cases hm:x∈g.ids.l
  ·simp[hm,aE];exact aK rfl rfl
  ·simp[hm,aE];exact aK rfl rfl
 ·obtain⟨X,cQ⟩:∃ X,X=aS x:=⟨_,rfl⟩
  rw[<-cQ] at gj bf ⊢;simp[cS,ds,bf,atT];refine a1 dh (by simp[bg,U.closed,dx,cD]) ?_;simp[aE];exact aK rfl rfl
def jT (ids:List (List B)) (seen:List Bool) (k:Nat) :List (List B) :=(List.range k).flatMap fun i=>if seen.getD i false=true then [b2 ids i] else []
theorem Hr (ids:List (List B)) (seen:List Bool) (k:Nat) :jT ids seen (k+1)=jT ids seen k++(if seen.getD k false=true then [b2 ids k] else []) :=by
 unfold jT; rw[avr,avD]; simp
theorem Hq (ids:List (List B)) (seen:List Bool) :∀ k,(jT ids seen k).length<=k
 | 0=>by simp[jT]
 | k+1=>by
  have:=Hq ids seen k;rw[Hr,at4];split<;>simp<;>omega
theorem Wi {ids:List (List B)} {seen:List Bool} {x:List B}:∀ {k:Nat},x∈jT ids seen k<->∃ i,i<k/\seen.getD i false=true/\b2 ids i=x:=by
 intro k;unfold jT;rw[awS];constructor
 ·rintro⟨i,av,af⟩;split at af
  ·rename_i ak;rw[aui] at af;exact⟨i,aux.1 av,ak,af.symm⟩
  ·cases af
 ·rintro⟨i,av,ak,af⟩;exact⟨i,aux.2 av,by rw[if_pos ak,af]; simp⟩
set_option maxHeartbeats 2000000 in
theorem aiq (g:bi) (ar:ft g) (seen:c6 Bool) (ak:seen.l.length=g.ids.l.length) :bw Tryz.prog GS 89 [cS g,cI 1 ig seen] (aR (ew (jT g.ids.l seen.l seen.l.length))) :=by
 refine bK Tryz.checked.mixed bB ?_;apply bm Tryz.func89 [];have az:cK=140737488355328:=rfl;have gx:=ar.li;have ec:cz (.au 1) (cI 1 ig seen)=some (.int .i64 seen.l.length) :=qB _;simp[cS,ds,ec];refine cF seen.l.length (fun k ae l=>ae 1=cI 1 ig seen/\ae 2=.ptr 0 0 2/\ae 8=.int .i64 seen.l.length/\ae 9=.int .i64 k/\∃ j rest,l=.cells 2 [aR g.ids,bZ g.ops] ::rest ∧
  bG 32 l (ae 5) j ((jT g.ids.l seen.l k).map aS)/\(ae 5=.aW\/1<=j)/\cx (ae 5)=(jT g.ids.l seen.l k).isEmpty) ?_ ?_
 ·rintro k ae l hk ⟨aM,aT,dw,gL,j,rest,rfl,hF,ai,hn⟩;obtain⟨v,bh⟩:∃ v,ae 5=v:=⟨_,rfl⟩
  rw[bh] at hF ai hn;obtain⟨ae,rfl⟩:=lk aM aT bh dw gL;clear aM aT bh dw gL;by_cases cZ:k<seen.l.length
  ·obtain⟨b,ag,_⟩:=bx cZ;obtain⟨x,af,cC⟩:=bx (l:=g.ids.l) (k:=k) (by omega);have aQ:IntKind.i64.wrap ((k:Int)+1)=((k+1:Nat) :Int) :=by rw[IntKind.wrap_i64]; omega
   have bW:cg (.au 1) (cI 1 ig seen) (.int .i64 (k:Int))=some (.b3 [.bool b] 0) :=by rw[rF]; simp[ag,ig]
   have ii:cg (.au 32) (aR g.ids) (.int .i64 (k:Int))=some (.b3 (aS x) 0) :=by simp[aR,af]
   have yB:seen.l.getD k false=b:=by rw[aug,ag]; rfl
   have bf:=cM (ar.ids x cC);have ml:=Hq g.ids.l seen.l k;have qw:=Hr g.ids.l seen.l k;rw[yB] at qw;cases b with
   | false=>
    simp at qw;simp[cZ,bW,aQ];rw[qw];exact⟨j,hF,ai,hn⟩
   | true=>
    rw[if_pos rfl,fK af] at qw;obtain⟨aY,bM,ct,aX,a6,a3,a4⟩:=xD (by_:=32) (pre:=[.cells 2 [aR g.ids,bZ g.ops]]) (rest:=rest++[.cells 32 (aS x)]) (hF.more _) ai (x:=.au 32 (rest.length+1) 0 1 1 32) (xs:=[aS x])
     (by simp[dM,bf,atT]) (by simp[bf]) (by omega) (by omega) (by rw[az]; simp; omega)
    have cE:(jT g.ids.l seen.l (k+1)).map aS=(jT g.ids.l seen.l k).map aS++[aS x] :=by rw[qw]; simp
    obtain⟨X,cQ⟩:∃ X,X=aS x:=⟨_,rfl⟩
    rw[<-cQ] at ii bf aX a6 cE;have nJ:bu (rep 32 (.int .u8 0)) 0 X=X:=fi (by rw[bf]; rfl);simp only[au5,auT] at aX;simp[cZ,bW,ii,bf,nJ,atT,aX];refine dT.cy ?_;simp[cZ,aQ];refine⟨bM,by rw[cE]; exact a6,by simpa using a3,by rw[a4,qw]; simp⟩
  ·have pa:k=seen.l.length:=by omega
   subst pa;simp[cZ];exact hF.q.oA (fun x=>fE x) (ew _) (by rw[hn,vc]) (fq _)
 ·have aE:jT g.ids.l seen.l 0=[] :=rfl;simp[aE];exact⟨⟨0,.nil 0⟩,rfl⟩
theorem I5:∀ l:List B,fu (l.map bC) (l.map bC)=true
 | []=>rfl
 | x::l=>by
  have h1:U.beq (bC x) (bC x)=true:=by simp[bC,U.beq]
  show (U.beq (bC x) (bC x)&&fu (l.map bC) (l.map bC))=true;rw[h1,I5 l]; rfl
theorem aaA (x:List B) :U.beq (.aJ (aS x)) (.aJ (aS x))=true:=I5 x
theorem JL {x:List B} (h:x.length=32) :k8 Tryz.prog 48 (.aJ (aS x))=true:=by
 have h1:rK Tryz.prog 8 48=true:=by kernel_rfl
 have ad:eo Tryz.prog 48=some true:=by kernel_rfl
 have aj:cB Tryz.prog 48=some 32:=by kernel_rfl
 have aF:(x.map bC).all tl=true:=by rw[auK]; intro c ah; obtain⟨b,_,rfl⟩:=auo.1 ah; rfl
 show (rK Tryz.prog 8 48&&(match eo Tryz.prog 48,cB Tryz.prog 48 with | some true,some m=>Nat.beq (x.map bC).length m | _,_=>false)&&(x.map bC).all tl)=true;rw[h1,ad,aj,aF,auh,h];rfl
theorem We:∀ {a b:List B},a.map (fun x=>u x)=b.map (fun x=>u x)<->a=b
 | [],[]=>by simp
 | [],_::_=>by simp
 | _::_,[]=>by simp
 | x::a,y::b=>by
  rw[aus,aus,List.cons.injEq,List.cons.injEq,We (a:=a) (b:=b)];simp
theorem aci {a b:List B} (ax:a.length=32) (ag:b.length=32) {D:Nat}:eP Tryz.prog (D+2) 48 (.aJ (aS a)) (.aJ (aS b))=some (decide (a=b)) :=by
 have h:=ack (P:=Tryz.prog) (t:=48) (e:=5) (k:=.u8) (n:=32) (by kernel_rfl) (by kernel_rfl) (by kernel_rfl) (by kernel_rfl) (x:=a.map fun x=>u x) (y:=b.map fun x=>u x) (by simp[ax]) (by simp[ag]) (D:=D);rw[avF,avF] at h;unfold aS;rw[show a.map bC=a.map (U.int .u8 ∘ fun x=>u x) from rfl,show b.map bC=b.map (U.int .u8 ∘ fun x=>u x) from rfl,h];simp only[We]
inductive se:Nat->List (U × U × Nat)->List (List B)->Prop
 | nil (b:Nat) :se b [] []
 | cons {b:Nat} {es:List (U × U × Nat)} {bP:List (List B)} {k:List B} (n:Nat) (hk:k.length=32) (h:se (b+1) es bP) :se b ((.aJ (aS k),.int .i64 (b:Int),n) ::es) (k::bP)
theorem se.len {b:Nat} {es:List (U × U × Nat)} {bP:List (List B)} (h:se b es bP) :es.length=bP.length:=by induction h<;>simp_all
theorem se.snoc {b:Nat} {es:List (U × U × Nat)} {bP:List (List B)} (h:se b es bP) {k:List B} (hk:k.length=32) (n:Nat) :se b (es++[(.aJ (aS k),.int .i64 ((b+bP.length:Nat) :Int),n)]) (bP++[k]) :=by
 induction h with
 | nil b=>exact .cons n hk (.nil _)
 | @cons b es bP k' m e2 h aI=>
  refine .cons m e2 ?_;rw[show b+1+bP.length=b+(k'::bP).length by simp; omega] at aI;exact aI
theorem Sv {x:List B} (af:x.length=32) {b:Nat} {es:List (U × U × Nat)} {bP:List (List B)} (h:se b es bP) :∀ c,(∀ i,bP[i]? = some x->(∀ j,j<i->bP[j]?≠some x)->jK Tryz.prog 48 (.aJ (aS x)) es c=some (some (c+i,.int .i64 ((b+i:Nat) :Int))))/\(x∉bP->jK Tryz.prog 48 (.aJ (aS x)) es c=some none) :=by
 induction h with
 | nil b=>intro c; exact⟨fun i h=>by simp at h,fun _=>rfl⟩
 | @cons b es bP k n hk h aI=>
  intro c;unfold jK;rw[JL hk];simp only;rw[show eP Tryz.prog 10000 48 (.aJ (aS x)) (.aJ (aS k))=some (decide (x=k)) from aci af hk (D:=9998)];by_cases am:x=k
  ·subst am;simp only[decide_true,aaA];refine⟨fun i av dH=>?_,fun h=>absurd (by simp) h⟩;cases i with
   | zero=>rfl
   | succ i=>exact absurd rfl (dH 0 (by omega))
  ·simp only[am,decide_false];obtain⟨h1,ad⟩:=aI (c+1);refine⟨fun i av dH=>?_,fun h=>ad (fun h'=>h (by simp[h']))⟩;cases i with
   | zero=>simp at av; exact absurd av.symm am
   | succ i=>
    rw[h1 i (by simpa using av) (fun j ai=>by have:=dH (j+1) (by omega); simpa using this)];rw[show c+1+i=c+(i+1) by omega,show b+1+i=b+(i+1) by omega]
structure nf (l:ao) (j:Nat) (bP:List (List B)) :Prop where
 e:∃ es eN,l[j]? = some (.map es eN)/\se 0 es bP
theorem nf.look {l:ao} {j:Nat} {bP:List (List B)} (h:nf l j bP) (ai:iL bP) {x:List B} (af:x.length=32) {i:Nat} (av:bP[i]? = some x) :wN Tryz.prog l 48 (.int .i64 0) false (.mp j) (.aJ (aS x))=some (.int .i64 (i:Int)) :=by
 obtain⟨es,eN,h1,ad⟩:=h.e;have aj:s8 l (.mp j)=some es:=by simp[s8,h1]
 unfold wN;rw[aj];simp only[JL af];rw[(Sv af ad 0).1 i av (fun t aH aG=>by have:=ai t i x aG av; omega)];simp
theorem nf.put {l:ao} {j:Nat} {bP:List (List B)} (h:nf l j bP) {x:List B} (af:x.length=32) (aC:x∉bP) :∃ c,s9 Tryz.prog l 48 (.mp j) (.aJ (aS x)) (.int .i64 (bP.length:Int))=some (l.set j c)/\(∀ l' : ao,l'[j]? = some c->nf l' j (bP++[x])) :=by
 obtain⟨es,eN,h1,ad⟩:=h.e;unfold s9;simp only[h1,JL af,(Sv af ad 0).2 aC];exact⟨_,rfl,fun l' db=>⟨_,_,db,by have:=ad.snoc af eN; rw[avi] at this; exact this⟩⟩
theorem nf.frame {l l' : ao} {j:Nat} {bP:List (List B)} (h:nf l j bP) (ai:l'[j]? = l[j]?) :nf l' j bP:=by
 obtain⟨es,eN,h1,ad⟩:=h.e;exact⟨es,eN,by rw[ai,h1],ad⟩
theorem nf.lt {l:ao} {j:Nat} {bP:List (List B)} (h:nf l j bP) :j<l.length:=by
 obtain⟨es,eN,h1,ad⟩:=h.e;exact (atU.1 h1).1
theorem ail {P:Program} {aB:Operand->U} {l:ao} {o:Operand} {k:IntKind} {n:Int} (h:aB o=.int k n) :bQ P aB l (.uV (some o))=some (.mp l.length,l++[.map [] 0]) :=by
 show (match asInt (aB o) with | some _=>some (U.mp l.length,l++[a2.map [] 0]) | none=>none)=_;rw[h]; rfl
set_option maxHeartbeats 2000000 in
theorem WU (g:bi) (ar:ft g) (ai:iL g.ids.l) {l:ao} {K:U->ao->Prop} (aV:∀ j l',nf l' j g.ids.l->l.length<=j->(∀ c,c<l.length->l'[c]? = l[c]?)->l.length<=l'.length->K (.mp j) l') :
  cY Tryz.prog GS 88 [cS g] l (c:=⟨K⟩) :=by
 apply bm Tryz.func88 [];have gx:=ar.li;have ec:cz (.au 32) (aR g.ids)=some (.int .i64 g.ids.l.length) :=by simp[aR]
 simp[cS,ds,ec];rw[ail (k:=.i64) (n:=g.ids.l.length) (by simp)];simp[ec];refine cF g.ids.l.length (fun k ae l'=>ae 3=.mp (l.length+1)/\ae 11=aR g.ids/\ae 12=.int .i64 g.ids.l.length/\ae 13=.int .i64 k/\nf l' (l.length+1) (g.ids.l.take k)/\(∀ c,c<l.length->l'[c]? = l[c]?)) ?_ ?_
 ·rintro k ae l' hk ⟨a7,h2,fx,ih,md,kz⟩;obtain⟨ae,rfl⟩:=iw a7 h2 fx ih;clear a7 h2 fx ih;by_cases cZ:k<g.ids.l.length
  ·obtain⟨x,af,cC⟩:=bx cZ;have aQ:IntKind.i64.wrap ((k:Int)+1)=((k+1:Nat) :Int) :=by rw[IntKind.wrap_i64]; omega
   have ii:cg (.au 32) (aR g.ids) (.int .i64 (k:Int))=some (.b3 (aS x) 0) :=by simp[aR,af]
   have nL:=ar.ids x cC;have bf:=cM nL;have ch:g.ids.l.take (k+1)=g.ids.l.take k++[x] :=by rw[aud,af]; rfl
   have dH:x∉g.ids.l.take k:=fun hm=>by
    obtain⟨t,aH⟩:=atZ.1 hm;have lL:=(atU.1 aH).1;rw[aue] at lL;rw[aum (by omega)] at aH;have:=ai t k x aH af; omega
   have aN:=md.lt;have adU:nf (l'++[.cells 32 (aS x)]) (l.length+1) (g.ids.l.take k) :=md.frame (atV aN);obtain⟨c,cW,dv⟩:=adU.put nL dH;have ik:(g.ids.l.take k).length=k:=by rw[aue]; omega
   rw[ik] at cW;obtain⟨X,cQ⟩:∃ X,X=aS x:=⟨_,rfl⟩
   rw[<-cQ] at ii bf cW;have nJ:bu (rep 32 (.int .u8 0)) 0 X=X:=fi (by rw[bf]; rfl);simp[cZ,ii,bf,nJ,atT,cW,aQ];refine⟨?_,fun c' eW=>?_⟩
   ·rw[ch];exact dv _ (by rw[at9 (by simp; omega)])
   ·rw[at5 (by omega),atV (by omega)];exact kz c' eW
  ·have pa:k=g.ids.l.length:=by omega
   rw[pa,aun] at md;simp[cZ];exact aV _ _ md (by omega) kz (by have:=md.lt; omega)
 ·simp;refine⟨⟨[],0,by simp,.nil 0⟩,fun c ah=>by rw[atV ah]⟩
inductive jc (ids:List (List B)) (ops:List bq) (L:List (List B)) :Nat->Prop
 | start (p:List B) (j:Nat) (ay:p∈L) (ai:ids[j]? = some p) :jc ids ops L j
 | step (i:Nat) (p:List B) (j:Nat) (h:jc ids ops L i) (ay:p∈c4 ops i) (ai:ids[j]? = some p) :jc ids ops L j
theorem jc.mono {ids:List (List B)} {ops:List bq} {L zt:List (List B)} (ak:∀ p∈L,p∈zt) {i:Nat} (h:jc ids ops L i) :jc ids ops zt i:=by
 induction h with
 | start p j ay ai=>exact .start p j (ak p ay) ai
 | step i p j _ ay ai aI=>exact .step i p j aI ay ai
theorem jc.under {ids:List (List B)} {ops:List bq} {L:List (List B)} {i:Nat} (av:jc ids ops L i) {j:Nat} (h:jc ids ops (c4 ops i) j) :jc ids ops L j:=by
 induction h with
 | start p j ay ai=>exact .step i p j av ay ai
 | step jx p j _ ay ai aI=>exact .step jx p j aI ay ai
structure pR (ids:List (List B)) (ops:List bq) (L:List (List B)) (S hX:List Bool) :Prop where
 len:hX.length=S.length
 mono:∀ (i:Nat),S[i]? = some true->hX[i]? = some true
 st:∀ p∈L,∀ (j:Nat),ids[j]? = some p->hX[j]? = some true
 new:∀ (i:Nat),hX[i]? = some true->S[i]? = some true\/(jc ids ops L i/\∀ p∈c4 ops i,∀ (j:Nat),ids[j]? = some p->hX[j]? = some true)
theorem Y7 (ids:List (List B)) (ops:List bq) (S:List Bool) :pR ids ops [] S S:=⟨rfl,fun _ h=>h,fun p ay=>by simp at ay,fun _ h=>.inl h⟩
theorem Y8 {ids:List (List B)} {ops:List bq} {L:List (List B)} {p:List B} {S OK jZ:List Bool} (h1:pR ids ops L S OK) (ad:pR ids ops [p] OK jZ) :pR ids ops (L++[p]) S jZ:=by
 refine⟨ad.len.trans h1.len,fun i h=>ad.mono i (h1.mono i h),fun q aZ j ai=>?_,fun i h=>?_⟩
 ·rw[aup] at aZ;rcases aZ with aZ | aZ
  ·exact ad.mono j (h1.st q aZ j ai)
  ·exact ad.st q aZ j ai
 ·rcases ad.new i h with aj | ⟨aj,aF⟩
  ·rcases h1.new i aj with aU | ⟨aU,bt⟩
   ·exact .inl aU
   ·exact .inr ⟨aU.mono fun q aZ=>by simp[aZ],fun q aZ j ai=>ad.mono j (bt q aZ j ai)⟩
  ·exact .inr ⟨aj.mono fun q aZ=>by simp at aZ; simp[aZ],aF⟩
theorem amD {ids:List (List B)} {ops:List bq} (et:iL ids) {p:List B} {i:Nat} {S:List Bool} (av:ids[i]? = some p) (ak:S[i]? = some true) :pR ids ops [p] S S:=by
 refine⟨rfl,fun _ h=>h,fun q aZ j ai=>?_,fun _ h=>.inl h⟩;rw[aui] at aZ;subst aZ;rw[et j i q ai av];exact ak
theorem amE {ids:List (List B)} {ops:List bq} (et:iL ids) {p:List B} {i:Nat} {S jZ:List Bool} (av:ids[i]? = some p) (al:i<S.length) (h:pR ids ops (c4 ops i) (S.set i true) jZ) :pR ids ops [p] S jZ:=by
 have hit:jZ[i]? = some true:=h.mono i (at9 al);have U1:jc ids ops [p] i:=.start p i (by simp) av;refine⟨by rw[h.len]; simp,fun j ai=>h.mono j ?_,fun q aZ j ai=>?_,fun j ai=>?_⟩
 ·by_cases hi:i=j
  ·subst hi; exact at9 al
  ·rw[at5 hi]; exact ai
 ·rw[aui] at aZ;subst aZ;rw[et j i q ai av];exact hit
 ·rcases h.new j ai with h1 | ⟨h1,ad⟩
  ·by_cases hi:i=j
   ·subst hi;exact .inr ⟨U1,fun q aZ t aH=>h.st q aZ t aH⟩
   ·rw[at5 hi] at h1;exact .inl h1
  ·exact .inr ⟨U1.under h1,ad⟩
theorem amC {ids:List (List B)} {ops:List bq} {L:List (List B)} {n:Nat} {S:List Bool} (h:pR ids ops L (List.replicate n false) S) (i:Nat) :S[i]? = some true<->jc ids ops L i:=by
 have dH:∀ (j:Nat),(List.replicate n false)[j]?≠some true:=fun j ai=>by
  have:=avf (at3 ai);cases this
 constructor
 ·intro av;rcases h.new i av with h1 | ⟨h1,_⟩
  ·exact absurd h1 (dH i)
  ·exact h1
 ·intro av
  induction av with
  | start p j ay ai=>exact h.st p ay j ai
  | step i p j _ ay ai aI=>
   rcases h.new i aI with h1 | ⟨_,ad⟩
   ·exact absurd h1 (dH i)
   ·exact ad p ay j ai
end Op

end Go.cb

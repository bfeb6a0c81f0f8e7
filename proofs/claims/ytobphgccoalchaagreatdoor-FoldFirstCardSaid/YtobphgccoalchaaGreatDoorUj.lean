/-
  Ids looked up in a list, walked.
-/
import Derived.Test.YtobphgccoalchaaGreatDoorUi
set_option linter.unusedVariables false
set_option linter.unusedSimpArgs false
set_option linter.unnecessarySimpa false
namespace Go.cb
open Go Go.Proofs
set_option maxRecDepth 100000
namespace Op
open gT
def iJ {α:Type} [DecidableEq α] (x:α) :List α->Nat->Int
 | [],_=>-1
 | y::r,k=>if y=x then (k:Int) else iJ x r (k+1)
theorem xe {α:Type} [DecidableEq α] (x:α) :∀ (l:List α) (k:Nat),(0<=iJ x l k)<->x∈l
 | [],k=>by simp[iJ]
 | y::r,k=>by
  unfold iJ;by_cases h:y=x
  ·simp[h]
  ·rw[if_neg h,xe x r (k+1)];simp[Ne.symm h]
theorem Bu {α:Type} [DecidableEq α] {x:α}:∀ {l:List α} {k n:Nat} {y:α},l[k]? = some y->(∀ (j:Nat) (z:α),j<k->l[j]? = some z->z≠x)->y=x->iJ x l n=((n+k:Nat) :Int)
 | [],k,n,y,h,_,_=>by simp at h
 | w::r,0,n,y,h,_,ax=>by
  simp at h; subst h;unfold iJ;rw[if_pos ax]; simp
 | w::r,k+1,n,y,h,al,ax=>by
  unfold iJ;rw[if_neg (al 0 w (by omega) (by simp)),Bu (k:=k) (n:=n+1) (by simpa using h) (fun j z ai aw=>al (j+1) z (by omega) (by simpa using aw)) ax];congr 1; omega
theorem Ng {α:Type} [DecidableEq α] {x:α}:∀ {l:List α} {n:Nat},(∀ (j:Nat) (z:α),l[j]? = some z->z≠x)->iJ x l n=-1
 | [],n,_=>rfl
 | w::r,n,al=>by
  unfold iJ;rw[if_neg (al 0 w (by simp)),Ng fun j z aw=>al (j+1) z (by simpa using aw)]
theorem aoL (s:ez) (ap:gv s) (al:s.l.length<=1000000) (x:List B) (af:x.length=32) :bz Tryz.prog GS 116 [aK s,.aH (aO x)] (.int .i64 (iJ x s.l 0)) :=by
 refine bL Tryz.checked.mixed bE ?_;apply bp Tryz.func116 [];simp[aK];refine cI s.l.length (fun k ae l=>l=[.cells 32 (aO x)]/\ae 0=cB 32 aO s/\ae 3=.ptr 0 0 32/\ae 7=.int .i64 s.l.length/\ae 8=.int .i64 k/\∀ (j:Nat) (z:List B),j<k->s.l[j]? = some z->z≠x) ?_ (by simp[aK,cC af]);rintro k ae l hk ⟨rfl,cf,a8,dk,dj,ak⟩;obtain⟨ae,rfl⟩:=i0 cf a8 dk dj;clear cf a8 dk dj;simp;refine jo (fun h=>?_) (fun h=>?_)
 ·simp only[decide_eq_true_eq] at h;obtain⟨y,ax,cr⟩:=bx (l:=s.l) (k:=k) (by omega);have aR:IntKind.i64.wrap ((k:Int)+1)=((k+1:Nat) :Int) :=by rw[IntKind.wrap_i64]; omega
  simp[ax,cC (ap y cr),cC af,avO,HW af (ap y cr)];by_cases ao:x=y
  ·have fJ:=Bu (n:=0) ax ak ao.symm;simp[ao];exact aL (by rw[<-ao,fJ]; simp) rfl
  ·simp[ao,aR];refine⟨by omega,fun j z ai aw=>?_⟩;by_cases gc:j=k
   ·subst gc; rw[ax] at aw; obtain rfl:=Option.some.inj aw; exact fun h=>ao h.symm
   ·exact ak j z (by omega) aw
 ·simp[h];have h4:k=s.l.length:=by simp at h; omega
  exact aL (by rw[Ng fun j z aw=>ak j z (by rw[h4]; exact (avP.1 aw).1) aw]) rfl
theorem Fw (s:ez) (ap:gv s) (al:s.l.length<=1000000) (x:List B) (af:x.length=32) :bz Tryz.prog GS 70 [aK s,.aH (aO x)] (.bool (decide (x∈s.l))) :=by
 refine bL Tryz.checked.mixed bE ?_;apply bp Tryz.func70 [];simp[cC af,avO];refine a6 (aoL s ap al x af) (by have:=eK s; have:=e4 x; simp_all [bd,U.closed]) ?_;simp;exact aL (congrArg U.bool (by simp only[xe])) rfl
theorem YI (s:ez) (ap:gv s) (al:s.l.length<=1000000) (x:List B) (af:x.length=32) :bz Tryz.prog GS 79 [aK s,.aH (aO x)] (.bool (decide (x∈s.l))) :=by
 refine bL Tryz.checked.mixed bE ?_;apply bp Tryz.func79 [];simp[aK];refine cI s.l.length (fun k ae l=>l=[.cells 32 (aO x)]/\ae 0=cB 32 aO s/\ae 3=.ptr 0 0 32/\ae 5=.int .i64 k/\∀ (j:Nat) (z:List B),j<k->s.l[j]? = some z->z≠x) ?_ (by simp[aK,cC af]);rintro k ae l hk ⟨rfl,cf,a8,bi,ak⟩;obtain⟨ae,rfl⟩:=kj cf a8 bi;clear cf a8 bi;simp;refine jo (fun h=>?_) (fun h=>?_)
 ·simp only[decide_eq_true_eq] at h;obtain⟨y,ax,cr⟩:=bx (l:=s.l) (k:=k) (by omega);have aR:IntKind.i64.wrap ((k:Int)+1)=((k+1:Nat) :Int) :=by rw[IntKind.wrap_i64]; omega
  simp[ax,cC (ap y cr),cC af,avO,HW (ap y cr) af];by_cases ao:y=x
  ·simp[ao];exact aL (congrArg U.bool (decide_eq_true (by rw[<-ao]; exact cr)).symm) rfl
  ·simp[ao,aR];refine⟨by omega,fun j z ai aw=>?_⟩;by_cases gc:j=k
   ·subst gc; rw[ax] at aw; obtain rfl:=Option.some.inj aw; exact ao
   ·exact ak j z (by omega) aw
 ·simp[h];have h4:k=s.l.length:=by simp at h; omega
  refine aL (congrArg U.bool (decide_eq_false fun hm=>?_).symm) rfl;obtain⟨j,ai⟩:=avT.1 hm;exact ak j x (by rw[h4]; exact (avP.1 ai).1) ai rfl
theorem Oh (s:ez) (ap:gv s) (al:s.l.length<=1000000) (x:List B) (af:x.length=32) :bz Tryz.prog GS 75 [aK s,.aH (aO x)] (.int .i64 (iJ x s.l 0)) :=by
 refine bL Tryz.checked.mixed bE ?_;apply bp Tryz.func75 [];simp[aK];refine cI s.l.length (fun k ae l=>l=[.cells 32 (aO x)]/\ae 0=cB 32 aO s/\ae 3=.ptr 0 0 32/\ae 5=.int .i64 k/\∀ (j:Nat) (z:List B),j<k->s.l[j]? = some z->z≠x) ?_ (by simp[aK,cC af]);rintro k ae l hk ⟨rfl,cf,a8,bi,ak⟩;obtain⟨ae,rfl⟩:=kj cf a8 bi;clear cf a8 bi;simp;refine jo (fun h=>?_) (fun h=>?_)
 ·simp only[decide_eq_true_eq] at h;obtain⟨y,ax,cr⟩:=bx (l:=s.l) (k:=k) (by omega);have aR:IntKind.i64.wrap ((k:Int)+1)=((k+1:Nat) :Int) :=by rw[IntKind.wrap_i64]; omega
  simp[ax,cC (ap y cr),cC af,avO,HW (ap y cr) af];by_cases ao:y=x
  ·have fJ:=Bu (n:=0) ax ak ao;simp[ao];exact aL (by rw[fJ]; simp) rfl
  ·simp[ao,aR];refine⟨by omega,fun j z ai aw=>?_⟩;by_cases gc:j=k
   ·subst gc; rw[ax] at aw; obtain rfl:=Option.some.inj aw; exact fun h=>ao h
   ·exact ak j z (by omega) aw
 ·simp[h];have h4:k=s.l.length:=by simp at h; omega
  exact aL (by rw[Ng fun j z aw=>ak j z (by rw[h4]; exact (avP.1 aw).1) aw]) rfl
def ks (l cU:List (List B)) :Bool:=decide (∀ p∈cU,p∈l)
theorem Og (s:ez) (ap:gv s) (al:s.l.length<=1000000) (t:ez) (aI:gv t) (md:t.l.length<=1000000) :bz Tryz.prog GS 80 [aK s,aK t] (.bool (ks s.l t.l)) :=by
 refine bL Tryz.checked.mixed bE ?_;apply bp Tryz.func80 [];have cd:=eK s;have aM:cK (.ar 32) (aK t)=some (.int .i64 t.l.length) :=by simp[aK]
 simp;refine cI t.l.length (fun k ae l=>ae 0=aK s/\ae 1=aK t/\ae 5=.int .i64 k/\∀ (j:Nat) (z:List B),j<k->t.l[j]? = some z->z∈s.l) ?_ (by simp);rintro k ae l hk ⟨cf,aP,bi,ak⟩;obtain⟨ae,rfl⟩:=kj cf aP bi;clear cf aP bi;by_cases cq:k<t.l.length
 ·obtain⟨y,ax,cr⟩:=bx cq;have aR:IntKind.i64.wrap ((k:Int)+1)=((k+1:Nat) :Int) :=by rw[IntKind.wrap_i64]; omega
  have bN:ck (.ar 32) (aK t) (.int .i64 (k:Int))=some (.b3 (aO y) 0) :=by simp[aK,ax]
  have jG:=e4 y;have fA:=Oh s ap al y (aI y cr);have cg:=cC (aI y cr);have VZ:=xe y s.l 0;obtain⟨Y,eD⟩:∃ Y,Y=aO y:=⟨_,rfl⟩
  rw[<-eD] at bN jG fA cg;simp[aM,cq,bN,cg,avO];refine a6 fA (by simp[bd,U.closed,cd,jG]) ?_;by_cases hm:y∈s.l
  ·have ad:¬ iJ y s.l 0<0:=by have:=VZ.2 hm; omega
   simp[ad,cq,aR];intro j z ai aw;by_cases gc:j=k
   ·subst gc; rw[ax] at aw; obtain rfl:=Option.some.inj aw; exact hm
   ·exact ak j z (by omega) aw
  ·have ad:iJ y s.l 0<0:=by
    rcases Int.lt_or_le (iJ y s.l 0) 0 with h | h
    ·exact h
    ·exact absurd (VZ.1 h) hm
   simp[ad];exact aL (congrArg U.bool (decide_eq_false fun h=>hm (h y cr)).symm) rfl
 ·have h4:k=t.l.length:=by omega
  simp[aM,cq];refine aL (congrArg U.bool (decide_eq_true fun p ay=>?_).symm) rfl;obtain⟨j,ai⟩:=avT.1 ay;exact ak j p (by rw[h4]; exact (avP.1 ai).1) ai
theorem xH {l:List (List B)} (h:c9 l=true) :∀ {i j:Nat} {a b:List B},i<j->l[i]? = some a->l[j]? = some b->cj a b<0:=by
 have aD:=of_decide_eq_true h;intro i j
 induction j with
 | zero=>intro a b hu; omega
 | succ j aJ=>
  intro a b hu aA ag;have e7:=(avP.1 ag).1;have h1:=aD (j+1) e7 (by omega);obtain⟨c,ah,_⟩:=bx (l:=l) (k:=j) (by omega);rw[show j+1 - 1=j by omega,fL ah,fL ag] at h1;by_cases agP:i=j
  ·subst agP;rw[aA] at ah;obtain rfl:=Option.some.inj ah;exact h1
  ·exact uF _ _ _ (aJ (by omega) aA ah) h1
theorem ami {l:List (List B)} (h:c9 l=true) {i j:Nat} {a:List B} (aA:l[i]? = some a) (ag:l[j]? = some a) :i=j:=by
 rcases awY i j with h1 | h1 | h1
 ·have:=xH h h1 aA ag; rw[pq] at this; omega
 ·exact h1
 ·have:=xH h h1 ag aA; rw[pq] at this; omega
def hf (l:List (List B)) (x:List B) :Nat:=(l.takeWhile fun t=>decide (cj t x<0)).length
theorem Ko (x:List B) :∀ {l:List (List B)} {p:Nat},p<=l.length->(∀ (t:Nat) (y:List B),t<p->l[t]? = some y->cj y x<0)->(∀ y,l[p]? = some y->¬ cj y x<0)->hf l x=p
 | [],p,ay,_,_=>by simp at ay; subst ay; rfl
 | y::l,0,_,_,ad=>by
  have:=ad y (by simp);unfold hf;rw[aw7,decide_eq_false this]; rfl
 | y::l,p+1,ay,h1,ad=>by
  have ax:=h1 0 y (by omega) (by simp);have aJ:=Ko x (l:=l) (p:=p) (by simpa using ay) (fun t z aI aw=>h1 (t+1) z (by omega) (by simpa using aw)) (fun z aw=>ad z (by simpa using aw));unfold hf at aJ ⊢;rw[aw7,decide_eq_true ax];simpa using aJ
theorem amQ (n:Nat) (h:n<9223372036854775808) :cD .shr .u64 (n:Int) .u64 1=some (.int .u64 ((n / 2:Nat) :Int)) :=by
 have:=uA (BitVec.ofNat 64 n) .u64 1;have aN:(u (BitVec.ofNat 64 n) :Int)=n:=by unfold u; rw[awc,av4 (by omega)]
 have au:(u (BitVec.ofNat 64 n >>> 1) :Int)=((n / 2:Nat) :Int) :=by
  unfold u; rw[awH,awc,av4 (by omega),awj]
 rw[aN,au] at this;exact this
structure aaU (s:ez) (X:List U) (x:List B) (m:Nat) (ae:bg) (l:am) :Prop where
 ex:∃ (i j:Nat),j - i=m/\i<=j/\j<=s.l.length/\l=[.cells 32 X]/\ae 0=aK s/\ae 2=.fn 149 [] []/\ae 4=.ptr 0 0 32/\ae 8=.int .i64 s.l.length/\ae 9=.int .i64 i/\ae 10=.int .i64 j ∧
  (∀ (t:Nat) (y:List B),t<i->s.l[t]? = some y->cj y x<0)/\(∀ (t:Nat) (y:List B),j<=t->s.l[t]? = some y->¬ cj y x<0)
theorem Zr (s:ez) (ap:gv s) (al:s.l.length<=1000000) (x:List B) (af:x.length=32) (hm:c9 s.l=true) :
  bz Tryz.prog GS 164 [aK s,.aH (aO x),.fn 149 [] []] (.bG [.int .i64 (hf s.l x),.bool (decide (x∈s.l))]) :=by
 refine bL Tryz.checked.mixed bE ?_;apply bp Tryz.func164 [];have bn:cK (.ar 32) (aK s)=some (.int .i64 s.l.length) :=by simp[aK]
 have bf:=cC af;have gL:=e4 x;have fp:∀ y∈s.l,bz Tryz.prog GS 149 [.aH (aO y),.aH (aO x)] (.int .i64 (cj y x)) :=fun y ax=>Aq y x (ap y ax) af
 obtain⟨X,cv⟩:∃ X,X=aO x:=⟨_,rfl⟩
 rw[<-cv] at bf gL fp ⊢;simp[bn];refine vr (aaU s X x) ?_ s.l.length _ _ ⟨0,s.l.length,by omega,by omega,by omega,by simp[bf],by simp,by simp,by simp[bf],by simp,by simp,by simp,fun t y h=>by omega,fun t y h ad=>by rw[av5 h] at ad; cases ad⟩;rintro m ae l ⟨i,j,go,hu,e7,rfl,cf,aU,bA,dj,gJ,fI,h1,ad⟩;obtain⟨ae,rfl⟩:=vP cf aU bA dj gJ fI;clear cf aU bA dj gJ fI;by_cases aM:i<j
 ·obtain⟨h,aG⟩:∃ h,h=(i+j) / 2:=⟨_,rfl⟩
  have b2:IntKind.i64.wrap ((i:Int)+j)=((i+j:Nat) :Int) :=by rw[IntKind.wrap_i64]; omega
  have w2:IntKind.u64.wrap ((i+j:Nat) :Int)=((i+j:Nat) :Int) :=by rw[vR,axh]; unfold u; rw[awc,av4 (by omega)]
  have eh:=amQ (i+j) (by omega);have oH:IntKind.i64.wrap (h:Int)=(h:Int) :=by rw[IntKind.wrap_i64]; omega
  have rj:IntKind.i64.wrap ((h:Int)+1)=((h+1:Nat) :Int) :=by rw[IntKind.wrap_i64]; omega
  have jd:(i:Int)<(j:Int) :=by omega
  rw[<-aG] at eh;obtain⟨y,ax,cr⟩:=bx (l:=s.l) (k:=h) (by omega);have cg:=cC (ap y cr);have k4:=e4 y;have bN:ck (.ar 32) (aK s) (.int .i64 (h:Int))=some (.b3 (aO y) 0) :=by simp[aK,ax]
  have jG:=fp y cr;obtain⟨Y,eD⟩:∃ Y,Y=aO y:=⟨_,rfl⟩
  rw[<-eD] at cg k4 bN jG;obtain⟨N,fy⟩:∃ N,N=i+j:=⟨_,rfl⟩
  rw[<-fy] at b2 w2 eh;simp[aM,b2,w2,eh,oH,bN,cg,bf,avO];refine⟨KL,a6 jG (by simp[bd,U.closed,k4,gL]) ?_⟩;by_cases bw:cj y x<0
  ·simp[bw,rj];refine⟨j - (h+1),by omega,h+1,j,rfl,by omega,by omega,by simp,by simp,by simp,by simp,by simp,by simp,by simp,fun t z aI aw=>?_,ad⟩;by_cases ML:t=h
   ·subst ML; rw[ax] at aw; obtain rfl:=Option.some.inj aw; exact bw
   ·exact uF _ _ _ (xH hm (by omega) aw ax) bw
  ·simp[bw];refine⟨h - i,by omega,i,h,rfl,by omega,by omega,by simp,by simp,by simp,by simp,by simp,by simp,by simp,h1,fun t z aI aw c5=>bw ?_⟩;by_cases ML:t=h
   ·subst ML; rw[ax] at aw; obtain rfl:=Option.some.inj aw; exact c5
   ·exact uF _ _ _ (xH hm (by omega) ax aw) c5
 ·have jd:¬ (i:Int)<(j:Int) :=by omega
  obtain rfl:i=j:=by omega
  have ah:=Ko x (l:=s.l) (p:=i) e7 h1 (fun y ax=>ad i y (avR _) ax);have ly:∀ {y:List B},s.l[i]? = some y->(y=x<->x∈s.l) :=fun {y} ax=>by
   constructor
   ·rintro rfl; exact avY ax
   ·intro D9;obtain⟨t,aI⟩:=avT.1 D9;rcases awY t i with aj | aj | aj
    ·have:=h1 t x aj aI; rw[pq] at this; omega
    ·subst aj; rw[ax] at aI; exact Option.some.inj aI
    ·exact absurd (xH hm aj ax aI) (ad i y (avR _) ax)
  by_cases c3:i<s.l.length
  ·have LZ:(i:Int)<(s.l.length:Int) :=by omega
   obtain⟨y,ax,cr⟩:=bx (l:=s.l) (k:=i) c3;have cg:=cC (ap y cr);have k4:=e4 y;have bN:ck (.ar 32) (aK s) (.int .i64 (i:Int))=some (.b3 (aO y) 0) :=by simp[aK,ax]
   have jG:=fp y cr;have DC:cj y x=0<->x∈s.l:=by
    rw[<-ly ax];exact⟨sX,fun h=>by rw[h]; exact pq _⟩
   obtain⟨Y,eD⟩:∃ Y,Y=aO y:=⟨_,rfl⟩
   rw[<-eD] at cg k4 bN jG;simp[c3,bN,cg,bf,avO];refine⟨KL,a6 jG (by simp[bd,U.closed,k4,gL]) ?_⟩;simp;refine aL ?_ rfl;rw[ah];simp[DC]
  ·have LZ:¬ (i:Int)<(s.l.length:Int) :=by omega
   simp[c3];refine aL ?_ rfl;have dM:¬ x∈s.l:=fun D9=>by
    obtain⟨t,aI⟩:=avT.1 D9;have:=h1 t x (by have:=(avP.1 aI).1; omega) aI;rw[pq] at this; omega
   rw[ah,decide_eq_false dM]
theorem yg {l:List (List B)} (hm:c9 l=true) {k:Nat} {x:List B} (h:l[k]? = some x) :hf l x=k:=
 Ko x (axZ (avP.1 h).1) (fun t y aI ax=>xH hm aI ax h) (fun y ax=>by rw[h] at ax; obtain rfl:=Option.some.inj ax; rw[pq]; omega)
structure bc where
 ids:ez
 ops:cQ bm
def bB (s:cQ bm) :U:=cB 11 a2 s
def cP (g:bc) :List U:=[aK g.ids,bB g.ops]
def cl (g:bc) :U:=.aH (cP g)
structure et (g:bc) :Prop where
 ids:gv g.ids
 ops:∀ o∈g.ops.l,hX o
 li:g.ids.l.length<=1000000
 cV:g.ops.l.length<=1000000
theorem i7 (s:cQ bm) :(bB s).closed=true:=ws i6 s
theorem acW (g:bc) :bd (cP g)=true:=by have:=eK g.ids; have:=i7 g.ops; simp[cP,bd, *]
theorem F6 (g:bc) :(cl g).closed=true:=by simp[cl,U.closed,acW]
def cT (ops:List bm) (i:Nat) :List (List B) :=match ops[i]? with | some o=>o.br.l | none=>[]
theorem lI {ops:List bm} {i:Nat} {o:bm} (h:ops[i]? = some o) :cT ops i=o.br.l:=by unfold cT; rw[h]
inductive pg (ids:List (List B)) (ops:List bm) :Nat->Prop
 | mk (i:Nat) (av:i<ids.length) (ay:∀ p∈cT ops i,p∈ids) (aq:∀ p∈cT ops i,∀ j,ids[j]? = some p->pg ids ops j) :pg ids ops i
theorem pg.lt {ids:List (List B)} {ops:List bm} {i:Nat} (h:pg ids ops i) :i<ids.length:=by cases h; assumption
def hW (ids:List (List B)) :Prop:=∀ (i j:Nat) (x:List B),ids[i]? = some x->ids[j]? = some x->i=j
theorem jP {ids:List (List B)} (h:c9 ids=true) :hW ids:=fun _ _ _ h1 ad=>ami h h1 ad
theorem vK:∀ {a b:List Nat},a.Nodup->(∀ x∈a,x∈b)->a.length<=b.length
 | [],_,_,_=>aw4 _
 | x::a,b,aC,ak=>by
  rw[aya] at aC;have af:=ak x (by simp);have aJ:=vK (b:=b.erase x) aC.2 (fun y ax=>(List.mem_erase_of_ne (fun e=>aC.1 (by rw[<-e]; exact ax))).2 (ak y (by simp[ax])));rw[ayT af] at aJ;have:=List.length_pos_of_mem af;simp; omega
def uB (ids:List (List B)) (ops:List bm) (out:List Nat) (i:Nat) :Bool:=decide (i∉out)&&ks (out.map (b0 ids)) (cT ops i)
def mm (ids:List (List B)) (ops:List bm) (out:List Nat) :Option Nat:=(List.range ops.length).find? (uB ids ops out)
def gE (ids:List (List B)) (ops:List bm) :Nat->List Nat
 | 0=>[]
 | k+1=>match mm ids ops (gE ids ops k) with | some i=>gE ids ops k++[i] | none=>gE ids ops k
def tJ (ids:List (List B)) (ops:List bm) :List Nat:=gE ids ops ops.length
theorem aku {ids:List (List B)} {ops:List bm} {out:List Nat} {i:Nat} (h:mm ids ops out=some i) :i<ops.length/\i∉out/\∀ p∈cT ops i,p∈out.map (b0 ids) :=by
 have h1:=List.find?_some h;have ad:=ayK h;unfold uB at h1;rw[avU,decide_eq_true_eq] at h1;exact⟨aws.1 ad,h1.1,of_decide_eq_true h1.2⟩
theorem akt {ids:List (List B)} {ops:List bm} {out:List Nat} (h:mm ids ops out=none) {i:Nat} (av:i<ops.length) (ap:i∉out) :¬ ∀ p∈cT ops i,p∈out.map (b0 ids) :=by
 intro aG;have:=List.find?_eq_none.1 h i (aws.2 av);apply this;unfold uB;rw[avU];exact⟨decide_eq_true ap,decide_eq_true aG⟩
theorem akr {ids:List (List B)} {ops:List bm} {out:List Nat} {i:Nat} (av:i<ops.length) (h:uB ids ops out i=true) (ag:∀ j,j<i->uB ids ops out j=false) :mm ids ops out=some i:=by
 unfold mm;rw[List.find?_range_eq_some];exact⟨h,by simpa using av,fun j ai=>by rw[ag j ai]; rfl⟩
theorem aks {ids:List (List B)} {ops:List bm} {out:List Nat} (ag:∀ j,j<ops.length->uB ids ops out j=false) :mm ids ops out=none:=by
 unfold mm;rw[List.find?_eq_none];intro j ai;rw[ag j (aws.1 ai)]; simp
theorem NT {ids:List (List B)} {ops:List bm} {k i:Nat} (h:mm ids ops (gE ids ops k)=some i) :gE ids ops (k+1)=gE ids ops k++[i] :=by
 show (match mm ids ops (gE ids ops k) with | some i=>gE ids ops k++[i] | none=>gE ids ops k)=_;rw[h]
theorem X0 {ids:List (List B)} {ops:List bm} {k:Nat} (h:mm ids ops (gE ids ops k)=none) :gE ids ops (k+1)=gE ids ops k:=by
 show (match mm ids ops (gE ids ops k) with | some i=>gE ids ops k++[i] | none=>gE ids ops k)=_;rw[h]
theorem EL (ids:List (List B)) (ops:List bm) (aC:ids.length=ops.length) (ai:hW ids) :∀ k,(gE ids ops k).Nodup/\(gE ids ops k).length<=k/\∀ i∈gE ids ops k,i<ops.length/\pg ids ops i
 | 0=>⟨ay6,avR _,fun i av=>by cases av⟩
 | k+1=>by
  obtain⟨h1,ad,aj⟩:=EL ids ops aC ai k;cases af:mm ids ops (gE ids ops k) with
  | none=>rw[X0 af]; exact⟨h1,by omega,aj⟩
  | some i=>
   rw[NT af];obtain⟨aV,a1,a3⟩:=aku af;refine⟨?_,by simp; omega,fun j wX=>?_⟩
   ·rw[aw0];refine⟨h1,by simp,fun x af y ax e=>?_⟩;rw[awd] at ax;subst e;rw[ax] at af;exact a1 af
   ·rw[awl,awd] at wX;rcases wX with wX | rfl
    ·exact aj j wX
    ·have fA:∀ t,t<ids.length->ids[t]? = some (b0 ids t) :=fun t aI=>by
      obtain⟨x,af,_⟩:=bx (l:=ids) aI;rw[af,fL af]
     refine⟨aV,.mk j (by omega) (fun p ay=>?_) fun p ay fU fq=>?_⟩
     ·obtain⟨t,aI,rfl⟩:=awf.1 (a3 p ay);exact avY (fA t (by have:=(aj t aI).1; omega))
     ·obtain⟨t,aI,rfl⟩:=awf.1 (a3 p ay);obtain⟨de,df⟩:=aj t aI;rw[ai fU t _ fq (fA t (by omega))];exact df
theorem NS {ids:List (List B)} {ops:List bm} {k:Nat} (h:mm ids ops (gE ids ops k)=none) :∀ m,gE ids ops (k+m)=gE ids ops k
 | 0=>rfl
 | m+1=>by
  have aJ:=NS h m;rw[<-axu,X0 (by rw[aJ]; exact h),aJ]
theorem XI {n:Nat} {l:List Nat} (aC:l.Nodup) (al:l.length=n) (ag:∀ i∈l,i<n) :∀ i,i<n->i∈l:=by
 intro i av;apply Classical.byContradiction;intro dM;have:=vK (a:=i::l) (b:=List.range n) (aya.2 ⟨dM,aC⟩) (fun x af=>by
  rw[awA] at af;rcases af with rfl | af
  ·exact aws.2 av
  ·exact aws.2 (ag x af))
 simp[al] at this;omega
theorem NU {ids:List (List B)} {ops:List bm} (aC:ids.length=ops.length) (ai:hW ids) :(tJ ids ops).length=ops.length<->∀ i,i<ops.length->pg ids ops i:=by
 obtain⟨h1,ad,aj⟩:=EL ids ops aC ai ops.length;constructor
 ·intro h i av;exact (aj i (XI h1 h (fun i av=>(aj i av).1) i av)).2
 ·intro h;have pz:∀ k,k<=ops.length->(gE ids ops k).length=k\/∃ m,m<=k/\mm ids ops (gE ids ops m)=none:=by
   intro k
   induction k with
   | zero=>intro _; exact .inl rfl
   | succ k aJ=>
    intro hk;rcases aJ (by omega) with aE | ⟨m,hm,aE⟩
    ·cases af:mm ids ops (gE ids ops k) with
     | none=>exact .inr ⟨k,by omega,af⟩
     | some i=>left; rw[NT af]; simp[aE]
    ·exact .inr ⟨m,by omega,aE⟩
  rcases pz ops.length (avR _) with aE | ⟨m,hm,aE⟩
  ·exact aE
  ·have ci:gE ids ops ops.length=gE ids ops m:=by
    have:=NS aE (ops.length - m)
    rwa [show m+(ops.length - m)=ops.length by omega] at this
   have eQ:∀ i,pg ids ops i->i<ops.length->i∈gE ids ops m:=by
    intro i aq
    induction aq with
    | mk i av ay aq aJ=>
     intro aM;apply Classical.byContradiction;intro dM;refine akt aE aM dM fun p qO=>?_
     obtain⟨j,jJ⟩:=avT.1 (ay p qO);exact awf.2 ⟨j,aJ p qO j jJ (by have:=(avP.1 jJ).1; omega),fL jJ⟩
   show (gE ids ops ops.length).length=ops.length;rw[ci];have aX:=vK (a:=List.range ops.length) (b:=gE ids ops m) ayU fun i av=>eQ i (h i (aws.1 av)) (aws.1 av)
   rw[List.length_range] at aX;rw[ci] at ad;omega
theorem TK (g:bc) (aq:et g) (az:c9 g.ids.l=true) (x:List B) (af:x.length=32) :bz Tryz.prog GS 114 [cl g,.aH (aO x)] (.bG [.int .i64 (hf g.ids.l x),.bool (decide (x∈g.ids.l))]) :=by
 refine bL Tryz.checked.mixed bE ?_;apply bp Tryz.func114 [];have dh:=eK g.ids;have cz:=i7 g.ops;have fQ:=e4 x;have bf:=cC af;have ak:=Zr g.ids aq.ids aq.li x af az;obtain⟨X,cv⟩:∃ X,X=aO x:=⟨_,rfl⟩
 rw[<-cv] at ak fQ bf ⊢;simp[cl,cP,bf,avO];refine a6 ak (by simp[bd,U.closed,dh,fQ]) ?_;simp;exact aL rfl rfl
def hO (n:Nat) :List U:=[.int .i64 (n:Int)]
def iF (b:Bool) :List U:=[.bool b]
def dH {α:Type} (l:List α) :cQ α:=match l with | []=>none | x::r=>some (x::r)
theorem ew {α:Type} (l:List α) :(dH l).l=l:=by cases l<;>rfl
theorem ua {α:Type} (l:List α) :(dH l).isNone=l.isEmpty:=by cases l<;>rfl
def KC (l:cQ Nat) :U:=cB 1 hO l
theorem Ou {α:Type} (zero:U) (n:Nat) :dN [zero] n=List.replicate n zero:=by
 rw[IX]
 induction n with
 | zero=>rfl
 | succ n aJ=>rw[awV,awT,aJ,awV]; rfl
theorem Ez {z by_ n:Nat} {k k' : IntKind} {zero:List U} {l:am} (aw:zero.length=z) (h1:n<9223372036854775808) (ad:by_*n<=cy) :
  sf z by_ zero l (.int k (n:Int)) (.int k' (n:Int))=some (.ar z l.length 0 n n (n*z),l++[.cells (n*z) (dN zero n)])/\bH z (l++[.cells (n*z) (dN zero n)]) (.ar z l.length 0 n n (n*z)) l.length (List.replicate n zero) :=by
 constructor
 ·have aj:(by_:Int)*(n:Int)<=(cy:Int) :=by rw[<-Int.natCast_mul]; omega
  simp only[sf,awZ];rw[if_pos ⟨by omega,by omega,by omega,aj⟩]
 ·refine .ar l.length n n (n*z) (dN zero n) _ (by rw[av2 (avR _)]; simp) (by rw[BS,aw]) (by simp) (fun e ao=>by rw[axe ao]; exact aw) (avR _) (avR _) ?_;rw[avO (by rw[BS,aw]; omega),IX]
def rC (n:Nat) (out:List Nat) :List Bool:=(List.range n).map fun i=>decide (i∈out)
theorem Gb {n:Nat} {out:List Nat} {i:Nat} (h:i<n) :(rC n out)[i]? = some (decide (i∈out)) :=by
 unfold rC; rw[avV,awr h]; rfl
theorem CT (n:Nat) (out:List Nat) :(rC n out).length=n:=by simp[rC]
theorem adn {n:Nat} {out:List Nat} {i:Nat} (h:i<n) :(rC n out).set i true=rC n (out++[i]) :=by
 apply awM;intro j;by_cases ai:j<n
 ·rw[Gb ai,axi];by_cases hu:i=j
  ·subst hu; simp[CT,h]
  ·rw[if_neg hu,Gb ai];simp[Ne.symm hu]
 ·rw[av5 (by simp[CT]; omega),av5 (by simp[CT]; omega)]
theorem adm (n:Nat) :rC n []=List.replicate n false:=by
 apply awM;intro j;by_cases ai:j<n
 ·rw[Gb ai]; simp[ai]
 ·rw[av5 (by simp[CT]; omega),av5 (by simp; omega)]
theorem one_cell {cs:List U} {o:Nat} {c:U} (h:(cs.drop o).take 1=[c]) :cs[o]? = some c:=by
 have h1:((cs.drop o).take 1)[0]? = some c:=by rw[h]; rfl
 rw[awb (by omega),awv] at h1;exact h1
structure abj (g:bc) (out:List Nat) (v3 v4 v5:U) (rest:am) :Prop where
 ex:∃ mY k7 g1,bH 1 (.cells 2 (cP g) ::rest) v3 mY (out.map hO)/\bH 32 (.cells 2 (cP g) ::rest) v4 k7 ((out.map (b0 g.ids.l)).map aO)/\bH 1 (.cells 2 (cP g) ::rest) v5 g1 ((rC g.ops.l.length out).map iF) ∧
  1<=g1/\cw v5=false/\cw v3=out.isEmpty/\cw v4=out.isEmpty/\(out=[]\/(1<=mY/\1<=k7/\mY≠k7/\mY≠g1/\k7≠g1))
set_option maxHeartbeats 4000000 in
theorem alD (g:bc) (aq:et g) (al:g.ids.l.length=g.ops.l.length) (ai:hW g.ids.l) :bz Tryz.prog GS 83 [cl g] (KC (dH (tJ g.ids.l g.ops.l))) :=by
 refine bL Tryz.checked.mixed bE ?_;apply bp Tryz.func83 [[[0],[1],[2],[3],[4],[6],[7],[8],[9],[10],[11],[12],[5,12,11,8]]];have l9:cy=140737488355328:=rfl;have dh:=eK g.ids;have cz:=i7 g.ops;have dL:cK (.ar 11) (bB g.ops)=some (.int .i64 g.ops.l.length) :=by simp[bB]
 have bn:=aq.cV;obtain⟨go,kB⟩:=Ez (z:=1) (by_:=1) (n:=g.ops.l.length) (k:=.i64) (k':=.i64) (zero:=[U.bool false]) (l:=[a7.cells 2 (cP g)]) rfl (by omega) (by rw[l9]; omega);simp only[cP,axn,Ou (α:=Nat)] at go kB;simp[cl,cP,dL,go];refine vr (fun m ae l=>∃ (k:Nat) (rest:am),l=.cells 2 (cP g) ::rest/\ae 1=.ptr 0 0 2/\abj g (gE g.ids.l g.ops.l k) (ae 3) (ae 4) (ae 5) rest ∧
  ((ae 6=.bool true/\(gE g.ids.l g.ops.l k).length=k/\m=g.ops.l.length - k+1)\/(ae 6=.bool false/\mm g.ids.l g.ops.l (gE g.ids.l g.ops.l k)=none/\k<=g.ops.l.length/\m=0))) ?_ (g.ops.l.length+1) _ _ ?_
 ·rintro m ae l ⟨k,rest,rfl,aP,mI,ak⟩;obtain⟨v3,a8⟩:∃ v,ae 3=v:=⟨_,rfl⟩
  obtain⟨v4,bA⟩:∃ v,ae 4=v:=⟨_,rfl⟩
  obtain⟨v5,bi⟩:∃ v,ae 5=v:=⟨_,rfl⟩
  rw[a8,bA,bi] at mI;obtain⟨out,l7⟩:∃ out,out=gE g.ids.l g.ops.l k:=⟨_,rfl⟩
  rw[<-l7] at mI ak;obtain⟨qJ,c1,jI⟩:=EL g.ids.l g.ops.l al ai k;rw[<-l7] at qJ c1 jI;have bY:out.length<=g.ops.l.length:=by
   have:=vK (b:=List.range g.ops.l.length) qJ (fun x af=>aws.2 (jI x af).1);simpa using this
  rcases ak with ⟨b8,hk,rfl⟩ | ⟨b8,dM,gj,rfl⟩
  ·obtain⟨ae,rfl⟩:=lj aP a8 bA bi b8;clear aP a8 bA bi b8;simp;refine cI g.ops.l.length (fun i ae l=>l=.cells 2 (cP g) ::rest/\ae 1=.ptr 0 0 2/\ae 3=v3/\ae 4=v4/\ae 5=v5/\ae 6=.bool false/\ae 7=.int .i64 i/\∀ j,j<i->uB g.ids.l g.ops.l out j=false) ?_ (by simp);rintro i ae l av ⟨rfl,aP,a8,bA,bi,b8,dk,ak⟩;obtain⟨ae,rfl⟩:=vP aP a8 bA bi b8 dk;clear aP a8 bA bi b8 dk;by_cases ec:i<g.ops.l.length
   ·obtain⟨o,ap,dd⟩:=bx ec;have aR:IntKind.i64.wrap ((i:Int)+1)=((i+1:Nat) :Int) :=by rw[IntKind.wrap_i64]; omega
    have bN:ck (.ar 11) (bB g.ops) (.int .i64 (i:Int))=some (.b3 (a2 o) 0) :=by simp[bB,ap]
    obtain⟨mY,k7,g1,sj,vy,jp,aX,ml,vw,tE,bC⟩:=mI;obtain⟨EP,Sh,sy,aV,a1,a3,a4⟩:=jp.q.get (k:=.i64) (i:=i) (e:=iF (decide (i∈out))) (by rw[avV,Gb ec]; rfl);have a5:=one_cell (c:=.bool (decide (i∈out))) (by simpa [iF] using a4);have kD:=vy.nA (enc:=aO) (xs:=out.map (b0 g.ids.l)) (fun x=>e4 x) (dH (out.map (b0 g.ids.l))) (by rw[tE,ua]; simp) (ew _);have Hz:gv (dH (out.map (b0 g.ids.l))) :=fun x af=>by
     rw[ew] at af;obtain⟨t,aI,rfl⟩:=awf.1 af;obtain⟨y,ax,cr⟩:=bx (l:=g.ids.l) (k:=t) (by have:=(jI t aI).1; omega);rw[fL ax]; exact aq.ids y cr
    have eQ:=Og (dH (out.map (b0 g.ids.l))) Hz (by rw[ew]; simp; omega) o.br (aq.ops o dd).ids (aq.ops o dd).len;rw[ew] at eQ;have jF:=eK o.br;have n9:uB g.ids.l g.ops.l out i=(decide (i∉out)&&ks (out.map (b0 g.ids.l)) o.br.l) :=by unfold uB; rw[lI ap]
    simp only[cP] at a1 sj vy jp kD;by_cases Ho:i∈out
    ·simp[cP,dL,ec,aV,a1,a5,Ho,aR];intro j ai;by_cases oU:j=i
     ·subst oU; rw[n9]; simp[Ho]
     ·exact ak j (by omega)
    ·simp[cP,dL,ec,aV,a1,a5,Ho,aR,bN,a2];refine iB eQ (.cons kD (.cons (.same _ jF) .nil)) rfl ?_;by_cases fo:ks (out.map (b0 g.ids.l)) o.br.l=true
     ·rw[fo] at n9;obtain⟨y,ax,cr⟩:=bx (l:=g.ids.l) (k:=i) (by omega);have DK:ck (.ar 32) (aK g.ids) (.int .i64 (i:Int))=some (.b3 (aO y) 0) :=by simp[aK,ax]
      have cg:=cC (aq.ids y cr);obtain⟨Y,eD⟩:∃ Y,Y=aO y:=⟨_,rfl⟩
      rw[<-eD] at DK cg;have aij:bt (rep 32 (.int .u8 0)) 0 Y=Y:=eM (by rw[cg]; rfl);obtain⟨l1,gC⟩:∃ l1,l1=a7.cells 2 [aK g.ids,bB g.ops] ::(rest++[a7.cells 1 [U.int IntKind.i64 (i:Int)],a7.cells 32 Y]) :=⟨_,rfl⟩
      have L9:l1.length=rest.length+3:=by rw[gC]; simp
      have xo:bH 1 l1 v3 mY (out.map hO) :=by rw[gC]; exact sj.more _
      have NB:bH 32 l1 v4 k7 ((out.map (b0 g.ids.l)).map aO) :=by rw[gC]; exact vy.more _
      have aj2:bH 1 l1 v5 g1 ((rC g.ops.l.length out).map iF) :=by rw[gC]; exact jp.more _
      have og:out=[]->v3=.aT/\v4=.aT:=fun h=>by rw[h] at vw tE; exact⟨jm.1 vw,jm.1 tE⟩
      have atW:g1<rest.length+1:=by
       rcases jp.lt with h | h
       ·rw[h] at ml; cases ml
       ·simpa using h
      obtain⟨mY,xo,q1,ft,iY,Yz⟩:∃ mY,bH 1 l1 v3 mY (out.map hO)/\1<=mY/\mY≠g1/\(out=[]\/mY≠k7)/\(mY<rest.length+1\/l1.length<=mY) :=by
       by_cases h:out=[]
       ·have au:=(og h).1;rw[au,h];exact⟨l1.length,.nil _,by omega,by omega,.inl rfl,.inr (avR _)⟩
       ·obtain⟨h1,ad,aj,aE,aX⟩:=bC.resolve_left h;refine⟨mY,xo,h1,aE,.inr aj,.inl ?_⟩;rcases sj.lt with eP | eP
        ·rw[eP] at vw;cases out with
         | nil=>exact absurd rfl h
         | cons=>cases vw
        ·simpa using eP
      obtain⟨aap,xf,b1,aP,aU,a8,bA,bi,b8⟩:=pl (by_:=8) xo (x:=.ar 1 (rest.length+1) 0 1 1 1) (xs:=[hO i]) (by rw[gC]; simp[dE,hO]) (by simp[hO]) (by omega) (by omega) (by rw[l9]; simp; omega);obtain⟨fu,rfl⟩:∃ fu,b1=a7.cells 2 [aK g.ids,bB g.ops] ::fu:=EK (by rw[bA 0 (by omega) (by omega),gC]; rfl);have Lv:(a7.cells 2 [aK g.ids,bB g.ops] ::fu)[rest.length+2]? = some (.cells 32 Y) :=by rw[bA (rest.length+2) (by omega) (by omega),gC]; simp
      have gb:(a7.cells 2 [aK g.ids,bB g.ops] ::fu)[rest.length+1]? = some (.cells 1 [.int .i64 (i:Int)]) :=by rw[bA (rest.length+1) (by omega) (by omega),gC]; simp
      have jn:=aj2.frame (l':=a7.cells 2 [aK g.ids,bB g.ops] ::fu) (fun h=>bA g1 h (Ne.symm ft));rw[gC] at aP;simp[fo,DK,cg,aij,avO,aP];refine dp.cx ?_;simp;have UQ:fu[rest.length+1]? = some (.cells 32 Y) :=by simpa using Lv
      refine⟨⟨UQ,by omega,avO (by omega)⟩,?_⟩;have Ws:aap≠.aT:=fun h=>by have:=(b8.1 h).2; cases this
      have arZ:xf<fu.length+1:=by have:=aU.lt.resolve_left Ws; simpa using this
      have L1:1<=xf/\xf≠g1:=by rcases bi with h | h<;>omega
      obtain⟨k7,NB,t1,t2,t3,t4⟩:∃ k7,bH 32 (a7.cells 2 [aK g.ids,bB g.ops] ::fu) v4 k7 ((out.map (b0 g.ids.l)).map aO)/\1<=k7/\k7≠g1/\k7≠xf/\(k7<fu.length+1\/fu.length+1<=k7) :=by
       by_cases h:out=[]
       ·have au:=(og h).2;rw[au,h];simp at a8;exact⟨fu.length+1,.nil _,by omega,by omega,by omega,.inr (avR _)⟩
       ·obtain⟨h1,ad,aj,aE,aX⟩:=bC.resolve_left h;have bw:k7<rest.length+1:=by
         rcases vy.lt with eP | eP
         ·rw[eP] at tE;cases out with
          | nil=>exact absurd rfl h
          | cons=>cases tE
         ·simpa using eP
        have c5:=iY.resolve_left h;refine⟨k7,NB.frame (fun h=>bA k7 h (Ne.symm c5)),ad,aX,by rcases bi with h | h<;>omega,.inl (by simp at a8; omega)⟩
      obtain⟨aaq,xg,fr,f1,f2,f3,f4,f5,f6⟩:=pl (by_:=32) NB (x:=.ar 32 (rest.length+1+1) 0 1 1 32) (xs:=[Y]) (by simp[dE,cg,UQ,avO]) (by simp[cg]) (by omega) (by omega) (by rw[l9]; simp; omega);obtain⟨nx,rfl⟩:∃ nx,fr=a7.cells 2 [aK g.ids,bB g.ops] ::nx:=EK (by rw[f4 0 (by simp) (by omega)]; rfl);have Wt:aaq≠.aT:=fun h=>by have:=(f6.1 h).2; cases this
      have ar0:xg<nx.length+1:=by have:=f2.lt.resolve_left Wt; simpa using this
      have eh:=aU.frame (l':=a7.cells 2 [aK g.ids,bB g.ops] ::nx) (fun h=>f4 xf h (Ne.symm t3));have rj:=jn.frame (l':=a7.cells 2 [aK g.ids,bB g.ops] ::nx) (fun h=>f4 g1 h (Ne.symm t2));obtain⟨p,la,iK,kJ,rf,Fp,B6⟩:=Iy (k:=i) (x:=true) (X:=.bool true) (enc:=iF) rfl rj (fun _ _=>rfl) (by rw[CT]; exact ec) rfl;simp[f1];refine dp.cx ?_;simp[iK,kJ];have KH:xg=k7\/fu.length+1<=xg:=by simpa using f5
      have ars:rest.length+3<=fu.length+1:=by rw[L9] at a8; simpa using a8
      have nF:1<=xg:=by rcases KH with h | h<;>omega
      have iM:xg≠g1:=by rcases KH with h | h<;>omega
      have z3:xf≠xg:=by rcases KH with h | h<;>omega
      obtain⟨sp,rfl⟩:∃ sp,la=a7.cells 2 [aK g.ids,bB g.ops] ::sp:=EK (by rw[B6 0 (by omega)]; rfl);have iv:mm g.ids.l g.ops.l out=some i:=akr ec (by rw[n9]; simp[Ho]) ak;have th:gE g.ids.l g.ops.l (k+1)=out++[i] :=by rw[NT (by rw[<-l7]; exact iv),<-l7]
      have aM:k<g.ops.l.length:=by
       have eP:=(EL g.ids.l g.ops.l al ai (k+1)).1;rw[th] at eP;have:=vK (b:=List.range g.ops.l.length) eP (fun x af=>aws.2 (by
        rw[awl,awd] at af;rcases af with af | rfl
        ·exact (jI x af).1
        ·exact ec))
       simp at this; omega
      have dF:(out++[i]).map hO=out.map hO++[hO i] :=by simp
      have kP:((out++[i]).map (b0 g.ids.l)).map aO=(out.map (b0 g.ids.l)).map aO++[Y] :=by
       have agT:b0 g.ids.l i=y:=fL ax;rw[awm,awm,List.map_singleton,List.map_singleton,agT,eD]
      refine⟨g.ops.l.length - (k+1)+1,by omega,k+1,sp,rfl,?_,by rw[th]; simp[hk],rfl⟩;rw[th];refine⟨⟨xf,xg,g1,?_,?_,?_,aX,ml,?_,?_,.inr ⟨L1.1,nF,z3,L1.2,iM⟩⟩⟩
      ·rw[dF]; exact eh.frame (fun h=>B6 xf L1.2)
      ·rw[kP]; exact f2.frame (fun h=>B6 xg iM)
      ·rw[<-adn ec]; exact rf
      ·cases au:cw aap with
       | true=>exact absurd (jm.1 au) Ws
       | false=>simp
      ·cases au:cw aaq with
       | true=>exact absurd (jm.1 au) Wt
       | false=>simp
     ·rw[ayo] at fo;rw[fo] at n9;simp[fo,ec,aR];refine⟨rfl,fun j ai=>?_⟩;by_cases oU:j=i
      ·subst oU; rw[n9]; simp
      ·exact ak j (by omega)
   ·have arY:i=g.ops.l.length:=by omega
    simp[cP,dL,ec];have dM:mm g.ids.l g.ops.l out=none:=aks fun j ai=>ak j (by omega)
    refine⟨0,by omega,k,by rw[<-l7]; exact mI,by rw[<-l7]; exact dM,by omega,rfl⟩
  ·obtain⟨ae,rfl⟩:=lj aP a8 bA bi b8;clear aP a8 bA bi b8;simp;obtain⟨mY,k7,g1,sj,vy,jp,aX,ml,vw,tE,bC⟩:=mI;have ci:tJ g.ids.l g.ops.l=out:=by
    unfold tJ;have:=NS (k:=k) (by rw[<-l7]; exact dM) (g.ops.l.length - k);rw[show k+(g.ops.l.length - k)=g.ops.l.length by omega,<-l7] at this;exact this
   rw[ci];exact sj.q.ow (fun x=>rfl) (dH out) (by rw[vw,ua]) (ew _)
 ·refine⟨0,_,rfl,by simp,?_,.inl ⟨by simp,rfl,rfl⟩⟩;simp;refine⟨⟨0,0,1,.nil 0,.nil 0,?_,by omega,rfl,rfl,rfl,.inl rfl⟩⟩;show bH _ _ _ _ ((rC g.ops.l.length []).map iF);have:(rC g.ops.l.length []).map iF=List.replicate g.ops.l.length [U.bool false] :=by rw[adm,ayH]; rfl
  rw[this];exact kB
def BG (ids:List (List B)) (ops:List bm) :Bool:=decide (∀ o∈ops,ks ids o.br.l=true)
def nD (ids:List (List B)) (ops:List bm) :Int:=if c9 ids=true then (if BG ids ops=true then (if (tJ ids ops).length=ops.length then 0 else 36) else 40) else 32
theorem YL (g:bc) (aq:et g) (al:g.ids.l.length=g.ops.l.length) :bz Tryz.prog GS 40 [cl g] (.int .i64 (nD g.ids.l g.ops.l)) :=by
 refine bL Tryz.checked.mixed bE ?_;apply bp Tryz.func40 [[],[[0],[3],[4],[5],[1,4],[2]]];have dh:=eK g.ids;have cz:=i7 g.ops;have lW:=F6 g;have dL:cK (.ar 11) (bB g.ops)=some (.int .i64 g.ops.l.length) :=by simp[bB]
 have bn:=aq.cV;have HG:=Oj g.ids aq.ids aq.li;simp[cl,cP,dL];refine a6 HG (by simp[bd,dh]) ?_;by_cases az:c9 g.ids.l=true
 ·have ai:=jP az;have oi:=alD g aq al ai;unfold cl cP at oi lW;simp[az];refine cI g.ops.l.length (fun k ae l=>l=[.cells 2 [aK g.ids,bB g.ops]]/\ae 1=.ptr 0 0 2/\ae 3=.int .i64 k/\∀ (j:Nat) (o:bm),j<k->g.ops.l[j]? = some o->ks g.ids.l o.br.l=true) ?_ (by simp);rintro k ae l hk ⟨rfl,aP,a8,ak⟩;obtain⟨ae,rfl⟩:=p2 aP a8;clear aP a8;by_cases cq:k<g.ops.l.length
  ·obtain⟨o,ap,dd⟩:=bx cq;have aR:IntKind.i64.wrap ((k:Int)+1)=((k+1:Nat) :Int) :=by rw[IntKind.wrap_i64]; omega
   have bN:ck (.ar 11) (bB g.ops) (.int .i64 (k:Int))=some (.b3 (a2 o) 0) :=by simp[bB,ap]
   have eQ:=Og g.ids aq.ids aq.li o.br (aq.ops o dd).ids (aq.ops o dd).len;have jF:=eK o.br;simp[dL,cq,bN,a2];refine a6 eQ (by simp[bd,dh,jF]) ?_;by_cases fo:ks g.ids.l o.br.l=true
   ·simp[fo,cq,aR];intro j cO dv en;by_cases gc:j=k
    ·subst gc; rw[ap] at en; obtain rfl:=Option.some.inj en; exact fo
    ·exact ak j cO (by omega) en
   ·rw[ayo] at fo;simp[fo];refine aL (congrArg (U.int .i64) ?_) rfl;have dM:¬ BG g.ids.l g.ops.l=true:=fun h=>by
     have:=of_decide_eq_true h o dd;rw[fo] at this; cases this
    unfold nD;rw[if_pos az,if_neg dM]
  ·have ob:k=g.ops.l.length:=by omega
   have gk:BG g.ids.l g.ops.l=true:=decide_eq_true fun o dd=>by
    obtain⟨j,dv⟩:=avT.1 dd;exact ak j o (by rw[ob]; exact (avP.1 dv).1) dv
   have dw:(tJ g.ids.l g.ops.l).length<=g.ops.l.length:=(EL g.ids.l g.ops.l al ai _).2.1;have pE:cK (.ar 1) (KC (dH (tJ g.ids.l g.ops.l)))=some (.int .i64 (tJ g.ids.l g.ops.l).length) :=by unfold KC; rw[q0,ew]
   simp[dL,cq];refine a6 oi (by simp[bd,lW]) ?_;by_cases aM:(tJ g.ids.l g.ops.l).length<g.ops.l.length
   ·simp[dL,pE,aM];refine aL (congrArg (U.int .i64) ?_) rfl;unfold nD;rw[if_pos az,if_pos gk,if_neg (by omega)]
   ·simp[dL,pE,aM];refine aL (congrArg (U.int .i64) ?_) rfl;unfold nD;rw[if_pos az,if_pos gk,if_pos (by omega)]
 ·rw[ayo] at az;simp[az];refine aL (congrArg (U.int .i64) ?_) rfl;unfold nD;rw[az]; rfl
def ps (g:bc) (k:Nat) :Bool:=match g.ops.l[k]?,g.ids.l[k]? with
 | some o,some x=>decide (oG o=0)&&decide (cH o=x)
 | _,_=>true
def Gx (g:bc) :Bool:=decide (∀ k,k<g.ops.l.length->ps g k=true)
theorem yt (g:bc) :Gx g=true<->∀ k,k<g.ops.l.length->ps g k=true:=by unfold Gx; rw[decide_eq_true_eq]
def ep (g:bc) :Int:=if 60<g.ops.l.length then 4 else if g.ids.l.length=g.ops.l.length then (if Gx g=true then nD g.ids.l g.ops.l else 8) else 8
theorem Dh {g:bc} {k:Nat} {o:bm} {x:List B} (ap:g.ops.l[k]? = some o) (af:g.ids.l[k]? = some x) :ps g k=(decide (oG o=0)&&decide (cH o=x)) :=by
 unfold ps; rw[ap,af]
theorem zS {o:bm} (h:oG o=0) :fM o=0:=by
 unfold oG at h;by_cases aD:fM o=0
 ·exact aD
 ·rw[if_neg aD] at h; exact h
theorem Ee (o:bm) :(cH o).length=32:=by
 unfold cH;split
 ·exact vJ _
 ·simp
set_option maxHeartbeats 4000000 in
theorem als (g:bc) (aq:et g) :bz Tryz.prog GS 11 [cl g] (.int .i64 (ep g)) :=by
 refine bL Tryz.checked.mixed bE ?_;apply bp Tryz.func11 [[[0],[1],[2],[3],[4],[5],[6],[7],[8],[9],[10],[11],[12],[14],[15],[16],[17],[18],[13,18,15]]];have dh:=eK g.ids;have cz:=i7 g.ops;have lW:=F6 g;have dL:cK (.ar 11) (bB g.ops)=some (.int .i64 g.ops.l.length) :=by simp[bB]
 have fE:cK (.ar 32) (aK g.ids)=some (.int .i64 g.ids.l.length) :=by simp[aK]
 have bn:=aq.cV;by_cases j2:60<(g.ops.l.length:Int)
 ·simp[cl,cP,dL,j2];refine aL (congrArg (U.int .i64) ?_) rfl;unfold ep; rw[if_pos (by omega)]
 by_cases al:g.ids.l.length=g.ops.l.length
 ·have mT:=YL g aq al;unfold cl cP at mT lW;have dr:(g.ids.l.length:Int)=(g.ops.l.length:Int) :=by omega
  simp[cl,cP,dL,fE,j2,dr];refine cI g.ops.l.length (fun k ae l=>l=[.cells 2 [aK g.ids,bB g.ops]]/\ae 1=.ptr 0 0 2/\ae 3=.int .i64 k/\∀ j,j<k->ps g j=true) ?_ (by simp);rintro k ae l hk ⟨rfl,aP,a8,ak⟩;obtain⟨ae,rfl⟩:=p2 aP a8;clear aP a8;by_cases cq:k<g.ops.l.length
  ·obtain⟨o,ap,dd⟩:=bx cq;obtain⟨x,af,cE⟩:=bx (l:=g.ids.l) (k:=k) (by omega);have ek:=Dh ap af;have aR:IntKind.i64.wrap ((k:Int)+1)=((k+1:Nat) :Int) :=by rw[IntKind.wrap_i64]; omega
   have bN:ck (.ar 11) (bB g.ops) (.int .i64 (k:Int))=some (.b3 (a2 o) 0) :=by simp[bB,ap]
   have yP:ck (.ar 32) (aK g.ids) (.int .i64 (k:Int))=some (.b3 (aO x) 0) :=by simp[aK,af]
   have au:=YP o (aq.ops o dd);have oT:=i6 o;have bf:=cC (aq.ids x cE);have bY:(a2 o).length=11:=rfl;have oS:¬ ps g k=true->ep g=8:=fun h=>by
    unfold ep;rw[if_neg (by omega),if_pos al,if_neg fun aG=>h ((yt g).1 aG k cq)]
   by_cases oZ:oG o=0
   ·have aD:=zS oZ;have kY:=YJ o (aq.ops o dd) (by have:=zy aD; omega);have e1:cH o=ie (iA o) :=by unfold cH; rw[if_pos aD]
    rw[<-e1] at kY;have heq:=HX (Ee o) (aq.ids x cE);change bz Tryz.prog GS 33 [.aH (a2 o)] (.aH (aO (cH o))) at kY;obtain⟨I,mI⟩:∃ I,I=aO (cH o) :=⟨_,rfl⟩
    rw[<-mI] at kY heq;rw[oZ] at au;obtain⟨O,du⟩:∃ O,O=a2 o:=⟨_,rfl⟩
    obtain⟨X,cv⟩:∃ X,X=aO x:=⟨_,rfl⟩
    rw[<-du] at bN au kY oT bY;rw[<-cv] at yP bf heq;simp[dL,cq,bN,bY,avO];refine a6 au (by simp[bd,U.closed,oT]) ?_;simp[bY,yP,bf,bN,avO];refine a6 kY (by simp[bd,U.closed,oT]) ?_;by_cases fJ:cH o=x
    ·simp[heq,fJ,cq,aR,bf,avO];intro j ai;by_cases gc:j=k
     ·subst gc; rw[ek]; simp[oZ,fJ]
     ·exact ak j (by omega)
    ·have ag:¬ ps g k=true:=fun h=>by rw[ek] at h; simp[fJ] at h
     simp[heq,fJ,bf,avO];exact aL (congrArg (U.int .i64) (oS ag).symm) rfl
   ·have ag:¬ ps g k=true:=fun h=>by rw[ek] at h; simp[oZ] at h
    simp[dL,cq,bN,bY,avO];refine a6 au (by simp[bd,U.closed,oT]) ?_;simp[oZ];exact aL (congrArg (U.int .i64) (oS ag).symm) rfl
  ·have ob:k=g.ops.l.length:=by omega
   simp[dL,cq];refine a6 mT (by simp[bd,lW]) ?_;simp;refine aL (congrArg (U.int .i64) ?_) rfl;unfold ep;rw[if_neg (by omega),if_pos al,if_pos ((yt g).2 fun j ai=>ak j (by omega))]
 ·have dr:¬ (g.ids.l.length:Int)=(g.ops.l.length:Int) :=by omega
  simp[cl,cP,dL,fE,j2,dr];refine aL (congrArg (U.int .i64) ?_) rfl;unfold ep; rw[if_neg (by omega),if_neg al]
def pA (ids:List (List B)) (D:List Nat) (p:List B) :Nat:=(D.map fun a=>if p == b0 ids a then 1 else 0).sum
def lL (ids:List (List B)) (D:List Nat) (L:List (List B)) :Nat:=(D.map fun a=>L.count (b0 ids a)).sum
theorem anD (ids:List (List B)) (D:List Nat) :lL ids D []=0:=by
 unfold lL
 induction D with
 | nil=>rfl
 | cons a D aJ=>rw[awn,axQ,aJ]; rfl
theorem ZS (ids:List (List B)) (p:List B) (L:List (List B)) :∀ D,lL ids D (p::L)=lL ids D L+pA ids D p
 | []=>rfl
 | a::D=>by
  have aJ:=ZS ids p L D;unfold lL pA at aJ ⊢;rw[awn,axQ,awn,axQ,awn,axQ,aJ,List.count_cons];omega
theorem O8 (ids:List (List B)) (D:List Nat) (a:Nat) (L:List (List B)) :lL ids (D++[a]) L=lL ids D L+L.count (b0 ids a) :=by
 unfold lL; rw[awm,List.sum_append]; simp
theorem Qq {ids:List (List B)} (ai:hW ids) {i j:Nat} (av:i<ids.length) (e7:j<ids.length) (h:b0 ids i=b0 ids j) :i=j:=by
 obtain⟨x,af,_⟩:=bx av;obtain⟨y,ax,_⟩:=bx e7;rw[fL af,fL ax] at h;subst h;exact ai i j x af ax
theorem Vw {ids:List (List B)} {p:List B}:∀ {D:List Nat},(∀ a∈D,b0 ids a≠p)->pA ids D p=0
 | [],_=>rfl
 | a::D,h=>by
  have aJ:=Vw (ids:=ids) (p:=p) (D:=D) fun b ag=>h b (by simp[ag])
  have aA:(p == b0 ids a)=false:=by rw[beq_eq_false_iff_ne]; exact Ne.symm (h a (by simp))
  unfold pA at aJ ⊢;rw[awn,axQ,aJ,aA]; rfl
theorem Vv {ids:List (List B)} (ai:hW ids) {p:List B}:∀ {D:List Nat},D.Nodup->(∀ a∈D,a<ids.length)->pA ids D p<=1/\(pA ids D p=1<->∃ a∈D,b0 ids a=p)
 | [],_,_=>⟨aw4 _,Iff.intro (fun h=>(by cases h)) (fun ⟨a,aA,_⟩=>(by cases aA))⟩
 | a::D,aC,ag=>by
  rw[aya] at aC;obtain⟨ev,e9⟩:=Vv (p:=p) ai aC.2 (fun b bO=>ag b (by simp[bO]));by_cases h:b0 ids a=p
  ·have aw:pA ids D p=0:=Vw fun b UZ af4=>aC.1 (by rw[Qq ai (ag a (by simp)) (ag b (by simp[UZ])) (h.trans af4.symm)]; exact UZ)
   have aA:(p == b0 ids a)=true:=by rw[h]; simp
   have e:pA ids (a::D) p=1:=by
    unfold pA at aw ⊢;rw[awn,axQ,aw,aA]; rfl
   rw[e];exact⟨avR _,fun _=>⟨a,by simp,h⟩,fun _=>rfl⟩
  ·have aA:(p == b0 ids a)=false:=by rw[beq_eq_false_iff_ne]; exact Ne.symm h
   have e:pA ids (a::D) p=pA ids D p:=by
    unfold pA;rw[awn,axQ,aA]; simp
   rw[e];refine⟨ev,e9.trans ⟨fun ⟨b,gY,gb⟩=>⟨b,by simp[gY],gb⟩,fun ⟨b,gY,gb⟩=>?_⟩⟩;rw[awA] at gY;rcases gY with rfl | gY
   ·exact absurd gb h
   ·exact⟨b,gY,gb⟩
theorem O9 {ids:List (List B)} (ai:hW ids) {D:List Nat} (aC:D.Nodup) (ag:∀ a∈D,a<ids.length) :∀ L:List (List B),lL ids D L<=L.length/\(lL ids D L=L.length<->∀ p∈L,∃ a∈D,b0 ids a=p)
 | []=>by rw[anD]; exact⟨avR _,Iff.intro (fun _ p ay=>by cases ay) (fun _=>rfl)⟩
 | p::L=>by
  obtain⟨ev,e9⟩:=O9 ai aC ag L;obtain⟨h1,ad⟩:=Vv (p:=p) ai aC ag;rw[ZS,awa];refine⟨by omega,fun h=>?_,fun h=>?_⟩
  ·have aR:lL ids D L=L.length:=by omega
   have bJ:pA ids D p=1:=by omega
   intro q aW;rw[awA] at aW;rcases aW with rfl | aW
   ·exact ad.1 bJ
   ·exact e9.1 aR q aW
  ·have aR:=e9.2 fun q aW=>h q (by simp[aW])
   have bJ:=ad.2 (h p (by simp));omega
structure Jx (ids:List (List B)) (ops:List bm) (cG:List (List Nat)) :Prop where
 len:cG.length=ops.length
 cnt:∀ (a:Nat) (row:List Nat),cG[a]? = some row->∀ k,k<ops.length->row.count k=(cT ops k).count (b0 ids a)
 lt:∀ (a:Nat) (row:List Nat),cG[a]? = some row->∀ k∈row,k<ops.length
structure sK (ids:List (List B)) (ops:List bm) (row:List Nat) (d j:Nat) (R:List Nat) (W:List Int) :Prop where
 hA:R.Nodup
 pr:∀ k∈R,k<ops.length/\pg ids ops k
 dl:d<=R.length
 wl:W.length=ops.length
 w:∀ k,k<ops.length->W[k]? = some (((cT ops k).length:Int) - lL ids (R.take d) (cT ops k) - (row.take j).count k)
 r:∀ k,k<ops.length->(k∈R<->W[k]? = some 0)
theorem ajB {ids:List (List B)} {ops:List bm} (al:ids.length=ops.length) (ai:hW ids) {cG:List (List Nat)} (ag:Jx ids ops cG) {a:Nat} {row:List Nat} {d j:Nat} {R:List Nat} {W:List Int}
  (h:sK ids ops row d j R W) (aA:R[d]? = some a) (cJ:cG[a]? = some row) {k:Nat} (hk:row[j]? = some k) :
  ∃ x:Int,W[k]? = some x/\1<=x/\x<=(cT ops k).length/\sK ids ops row d (j+1) (if x - 1=0 then R++[k] else R) (W.set k (x - 1)) :=by
 have gj:=ag.lt a row cJ k (avY hk);have AR:=ag.cnt a row cJ k gj;have tf:=(avP.1 aA).1;have hb:R.take (d+1)=R.take d++[a] :=by rw[av7,aA]; rfl
 have ahq:(R.take (d+1)).Nodup:=List.Sublist.nodup (axI _ _) h.hA;have qH:∀ b∈R.take (d+1),b<ids.length:=fun b bO=>by have:=(h.pr b (awh bO)).1; omega
 obtain⟨dR,hl⟩:=O9 ai ahq qH (cT ops k);rw[hb,O8,<-AR] at dR;have px:(row.take (j+1)).count k=(row.take j).count k+1:=by
  rw[av7,hk,axW]; simp
 have ky:(row.take (j+1)).count k<=row.count k:=List.Sublist.count_le _ (axI _ _);have hw:=h.w k gj;obtain⟨x,af⟩:∃ x:Int,x=((cT ops k).length:Int) - lL ids (R.take d) (cT ops k) - (row.take j).count k:=⟨_,rfl⟩
 rw[<-af] at hw;have Bo:1<=x:=by omega
 have VE:k∉R:=fun hm=>by
  have:=(h.r k gj).1 hm;rw[hw] at this;have:=Option.some.inj this;omega
 refine⟨x,hw,Bo,by omega,?_⟩;have VF:k<W.length:=by rw[h.wl]; exact gj
 have D5:(if x - 1=0 then R++[k] else R).take d=R.take d:=by
  split
  ·rw[awg (by omega)]
  ·rfl
 have l4:x - 1=0->pg ids ops k:=fun aD=>by
  have heq:lL ids (R.take (d+1)) (cT ops k)=(cT ops k).length:=by rw[hb,O8,<-AR]; omega
  have eQ:=hl.1 heq;have ed:∀ t,t<ids.length->ids[t]? = some (b0 ids t) :=fun t aI=>by
   obtain⟨y,ax,_⟩:=bx (l:=ids) aI;rw[ax,fL ax]
  refine .mk k (by omega) (fun p ay=>?_) fun p ay fU fq=>?_
  ·obtain⟨t,aI,rfl⟩:=eQ p ay;exact avY (ed t (qH t aI))
  ·obtain⟨t,aI,rfl⟩:=eQ p ay;rw[ai fU t _ fq (ed t (qH t aI))];exact (h.pr t (awh aI)).2
 refine⟨?_,fun y ax=>?_,?_,by simpa using h.wl,fun y ax=>?_,fun y ax=>?_⟩
 ·split
  ·rw[aw0];refine⟨h.hA,by simp,fun u aN v au e=>?_⟩;rw[awd] at au;subst e;rw[au] at aN;exact VE aN
  ·exact h.hA
 ·split at ax
  ·rename_i aD;rw[awl,awd] at ax;rcases ax with ax | rfl
   ·exact h.pr y ax
   ·exact⟨gj,l4 aD⟩
  ·exact h.pr y ax
 ·split
  ·simp; have:=h.dl; omega
  ·exact h.dl
 ·rw[D5,axi];by_cases yS:k=y
  ·subst yS;rw[if_pos rfl,if_pos VF,px];congr 1;omega
  ·rw[if_neg yS,h.w y ax,av7,hk,axW];have:([k] :List Nat).count y=0:=by rw[ax4]; simp[yS]
   simp only[Option.toList_some,this,ayd]
 ·rw[axi];by_cases yS:k=y
  ·subst yS;rw[if_pos rfl,if_pos VF];by_cases aD:x - 1=0
   ·rw[if_pos aD]; simp[aD]
   ·rw[if_neg aD];exact⟨fun hm=>absurd hm VE,fun aG=>absurd (Option.some.inj aG) aD⟩
  ·rw[if_neg yS,<-h.r y ax];split
   ·rw[awl,awd];exact⟨fun h=>h.resolve_right (Ne.symm yS),.inl⟩
   ·exact Iff.rfl
theorem ajy {ids:List (List B)} {ops:List bm} {cG:List (List Nat)} (ag:Jx ids ops cG) {a:Nat} {row vG:List Nat} {d:Nat} {R:List Nat} {W:List Int}
  (h:sK ids ops row d row.length R W) (aA:R[d]? = some a) (cJ:cG[a]? = some row) :sK ids ops vG (d+1) 0 R W:=by
 have hb:R.take (d+1)=R.take d++[a] :=by rw[av7,aA]; rfl
 refine⟨h.hA,h.pr,(avP.1 aA).1,h.wl,fun k hk=>?_,h.r⟩;rw[h.w k hk,hb,O8,awi,ag.cnt a row cJ k hk,aw9,List.count_nil];congr 1;omega
theorem ajz {ids:List (List B)} {ops:List bm} {row vG:List Nat} {d:Nat} {R:List Nat} {W:List Int} (h:sK ids ops row d 0 R W) :sK ids ops vG d 0 R W:=
 ⟨h.hA,h.pr,h.dl,h.wl,fun k hk=>by rw[h.w k hk,aw9,aw9],h.r⟩
theorem ajA {ids:List (List B)} {ops:List bm} (al:ids.length=ops.length) :sK ids ops [] 0 0 ((List.range ops.length).filter fun k=>(cT ops k).isEmpty) ((List.range ops.length).map fun k=>((cT ops k).length:Int)) :=by
 refine⟨List.Sublist.nodup axC ayU,fun k hk=>?_,aw4 _,by simp,fun k hk=>?_,fun k hk=>?_⟩
 ·rw[awP,aws] at hk;have aD:cT ops k=[] :=ayV.1 hk.2;exact⟨hk.1,.mk k (by omega) (fun p ay=>by rw[aD] at ay; cases ay) fun p ay=>by rw[aD] at ay; cases ay⟩
 ·rw[avV,awr hk];simp[lL]
 ·rw[awP,aws,avV,awr hk];simp only[avZ,Option.some.injEq,hk,true_and,ayV];constructor
  ·intro h; rw[h]; rfl
  ·intro h; exact awt.1 (by omega)
theorem ajx {ids:List (List B)} {ops:List bm} (al:ids.length=ops.length) (ai:hW ids) {row:List Nat} {R:List Nat} {W:List Int} (h:sK ids ops row R.length 0 R W) :
  R.length<=ops.length/\(R.length=ops.length<->(tJ ids ops).length=ops.length) :=by
 have dw:R.length<=ops.length:=by
  have:=vK (b:=List.range ops.length) h.hA fun x af=>aws.2 (h.pr x af).1
  simpa using this
 refine⟨dw,?_⟩;rw[NU al ai];constructor
 ·intro ao i av;exact (h.pr i (XI h.hA ao (fun i av=>(h.pr i av).1) i av)).2
 ·intro eQ;have ec:∀ i,pg ids ops i->i<ops.length->i∈R:=by
   intro i aq
   induction aq with
   | mk i av ay aq aJ=>
    intro aM;rw[h.r i aM,h.w i aM,awi];have G0:=(O9 ai h.hA (fun a aA=>by have:=(h.pr a aA).1; omega) (cT ops i)).2.2 fun p qO=>by
     obtain⟨bl,dv⟩:=avT.1 (ay p qO);exact⟨bl,aJ p qO bl dv (by have:=(avP.1 dv).1; omega),fL dv⟩
    rw[G0];simp
  have:=vK (a:=List.range ops.length) (b:=R) ayU fun i av=>ec i (eQ i (aws.1 av)) (aws.1 av)
  simp at this;omega
structure lP (l:am) (vs:List U) (cG:List (List Nat)) (dt:Nat->Nat) :Prop where
 pc:vs.length=cG.length
 own:∀ (a:Nat) (v:U) (row:List Nat),vs[a]? = some v->cG[a]? = some row->bH 1 l v (dt a) (row.map hO)/\cw v=row.isEmpty/\(row=[]\/3<=dt a)
 apart:∀ (a b:Nat) (m2 ov:List Nat),a≠b->cG[a]? = some m2->cG[b]? = some ov->m2≠[]->ov≠[]->dt a≠dt b
def pk (cG:List (List Nat)) (dt:Nat->Nat) (b:Nat) :Prop:=∀ (a:Nat) (row:List Nat),cG[a]? = some row->row≠[]->dt a≠b
theorem lP.lt {l:am} {vs:List U} {cG:List (List Nat)} {dt:Nat->Nat} (h:lP l vs cG dt) {a:Nat} {row:List Nat} (az:cG[a]? = some row) (bI:row≠[]) :dt a<l.length:=by
 have aA:a<vs.length:=by rw[h.pc]; exact (avP.1 az).1
 obtain⟨o,n,_⟩:=h.own a vs[a] row (avS aA) az;rcases o.lt with h1 | h1
 ·rw[h1] at n;cases row with
  | nil=>exact absurd rfl bI
  | cons=>cases n
 ·exact h1
theorem lP.frame {l l' : am} {vs:List U} {cG:List (List Nat)} {dt:Nat->Nat} (h:lP l vs cG dt) (aF:∀ b,b<l.length->(∃ a row,cG[a]? = some row/\row≠[]/\dt a=b)->l'[b]? = l[b]?) :lP l' vs cG dt:=by
 refine⟨h.pc,fun a v row au az=>?_,h.apart⟩;obtain⟨o,n,t⟩:=h.own a v row au az;refine⟨?_,n,t⟩;by_cases bI:row=[]
 ·subst bI;have:=jm.1 n;subst this;exact .nil _
 ·exact o.frame fun al=>aF _ al ⟨a,row,az,bI,rfl⟩
theorem lP.more {l:am} {vs:List U} {cG:List (List Nat)} {dt:Nat->Nat} (h:lP l vs cG dt) (x:am) :lP (l++x) vs cG dt:=h.frame fun b ag _=>avQ ag
theorem lP.app {l:am} {vs:List U} {cG:List (List Nat)} {dt:Nat->Nat} (h:lP l vs cG dt) {a k b:Nat} {v:U} {row:List Nat} (au:vs[a]? = some v) (az:cG[a]? = some row) (ag:l[b]? = some (.cells 1 [.int .i64 (k:Int)])) (aj:3<=l.length) (dA:(row.length+1)*8<=cy) :
  ∃ aZ l' Ep,gx l 1 8 v (.ar 1 b 0 1 1 1)=some (aZ,l')/\lP l' (vs.set a aZ) (cG.set a (row++[k])) Ep/\l.length<=l'.length/\aZ.cells=some [aZ] ∧
   ∀ c,c<l.length->pk cG dt c->l'[c]? = l[c]?/\pk (cG.set a (row++[k])) Ep c:=by
 obtain⟨o,n,t⟩:=h.own a v row au az;have gB:a<cG.length:=(avP.1 az).1;obtain⟨j,XQ,mY,Nk,Nl⟩:∃ j,bH 1 l v j (row.map hO)/\3<=j/\(∀ fl vG,fl≠a->cG[fl]? = some vG->vG≠[]->dt fl≠j)/\∀ c,c<l.length->pk cG dt c->j≠c:=by
  by_cases bI:row=[]
  ·subst bI;have:=jm.1 n;subst this;exact⟨l.length,.nil _,aj,fun fl vG _ kZ yX=>by have:=h.lt kZ yX; omega,fun c ah _=>by omega⟩
  ·exact⟨dt a,o,t.resolve_left bI,fun fl vG VW kZ yX=>h.apart fl a vG row VW kZ az yX bI,fun c _ ap=>ap a row az bI⟩
 obtain⟨aZ,bl,l',aP,aU,a8,bA,bi,b8⟩:=pl (by_:=8) XQ (x:=.ar 1 b 0 1 1 1) (xs:=[hO k]) (by simp[dE,ag,hO]) (by simp[hO]) (by omega) (by omega) (by simpa using dA);have fi:cw aZ=false:=by
  cases aG:cw aZ with
  | true=>have:=(b8.1 (jm.1 aG)).2; cases this
  | false=>rfl
 refine⟨aZ,l',fun x=>if x=a then bl else dt x,aP,⟨by simp[h.pc],fun x w OM hw kZ=>?_,fun x y tX Zo k3 af ax iv Mk=>?_⟩,a8,aU.cells,fun c ah ap=>⟨bA c ah (fun e=>Nl c ah ap e.symm),fun x tX af iv=>?_⟩⟩
 ·by_cases k2:x=a
  ·subst k2;rw[av3 (by rw[h.pc]; exact gB)] at hw;rw[av3 gB] at kZ;obtain rfl:=Option.some.inj hw;obtain rfl:=Option.some.inj kZ;simp only[if_true];refine⟨by rw[awm]; exact aU,by rw[fi]; simp,.inr ?_⟩;rcases bi with e | e<;>omega
  ·rw[av0 (Ne.symm k2)] at hw kZ;simp only[if_neg k2];obtain⟨cO,hi,gf⟩:=h.own x w OM hw kZ;refine⟨?_,hi,gf⟩;by_cases bI:OM=[]
   ·subst bI;have:=jm.1 hi;subst this;exact .nil _
   ·exact cO.frame fun al=>bA _ al (Nk x OM k2 kZ bI)
 ·by_cases k2:x=a
  ·subst k2;rw[av0 k3] at ax;simp only[if_true,if_neg (Ne.symm k3)];have:=h.lt ax Mk;have:=Nk y Zo (Ne.symm k3) ax Mk;rcases bi with e | e<;>omega
  ·rw[av0 (Ne.symm k2)] at af;simp only[if_neg k2];by_cases Ea:y=a
   ·subst Ea;simp only[if_true];have:=h.lt af iv;have:=Nk x tX k2 af iv;rcases bi with e | e<;>omega
   ·rw[av0 (Ne.symm Ea)] at ax;simp only[if_neg Ea];exact h.apart x y tX Zo k3 af ax iv Mk
 ·by_cases k2:x=a
  ·subst k2;simp only[if_true];have:=Nl c ah ap;rcases bi with e | e<;>omega
  ·rw[av0 (Ne.symm k2)] at af;simp only[if_neg k2];exact ap x tX af iv
def yf (ids:List (List B)) (ops:List bm) (m q a k:Nat) :Nat:=if k<m then (cT ops k).count (b0 ids a) else if k=m then ((cT ops m).take q).count (b0 ids a) else 0
structure vX (ids:List (List B)) (ops:List bm) (m q:Nat) (cG:List (List Nat)) :Prop where
 len:cG.length=ops.length
 cnt:∀ (a:Nat) (row:List Nat),cG[a]? = some row->∀ k,row.count k=yf ids ops m q a k
 nC:∀ (a:Nat) (row:List Nat),cG[a]? = some row->row.length<=5*m+q
theorem ak0 (ids:List (List B)) (ops:List bm) :vX ids ops 0 0 (List.replicate ops.length []) :=by
 refine⟨by simp,fun a row h k=>?_,fun a row h=>?_⟩
 ·have:=axe (avY h);subst this;simp[yf]
 ·have:=axe (avY h);subst this;simp
theorem ak1 {ids:List (List B)} {ops:List bm} (ai:hW ids) (al:ids.length=ops.length) {m q a:Nat} {cG:List (List Nat)} {row:List Nat} {p:List B} (h:vX ids ops m q cG) (ay:(cT ops m)[q]? = some p) (aA:ids[a]? = some p) (az:cG[a]? = some row) :
  vX ids ops m (q+1) (cG.set a (row++[m])) :=by
 have gB:=(avP.1 az).1;have wT:=(avP.1 aA).1;have hb:(cT ops m).take (q+1)=(cT ops m).take q++[p] :=by rw[av7,ay]; rfl
 refine⟨by simp[h.len],fun x tX af k=>?_,fun x tX af=>?_⟩
 ·by_cases k2:x=a
  ·subst k2;rw[av3 gB] at af;obtain rfl:=Option.some.inj af;rw[axW,h.cnt x row az k];unfold yf;by_cases h1:k<m
   ·rw[if_pos h1,if_pos h1,ax4];have:(m == k)=false:=by rw[beq_eq_false_iff_ne]; omega
    simp[this]
   ·rw[if_neg h1,if_neg h1];by_cases ad:k=m
    ·subst ad;rw[if_pos rfl,if_pos rfl,hb,axW,fL aA]; simp
    ·rw[if_neg ad,if_neg ad,ax4];have:(m == k)=false:=by rw[beq_eq_false_iff_ne]; omega
     simp[this]
  ·rw[av0 (Ne.symm k2)] at af;rw[h.cnt x tX af k];unfold yf;by_cases h1:k<m
   ·rw[if_pos h1,if_pos h1]
   ·rw[if_neg h1,if_neg h1];by_cases ad:k=m
    ·subst ad;rw[if_pos rfl,if_pos rfl,hb,axW,ax4];have bf:x<ids.length:=by rw[al,<-h.len]; exact (avP.1 af).1
     have:(p == b0 ids x)=false:=by
      rw[beq_eq_false_iff_ne];intro e;rw[<-fL aA] at e;exact k2 (Qq ai wT bf e).symm
     rw[this]; simp
    ·rw[if_neg ad,if_neg ad]
 ·by_cases k2:x=a
  ·subst k2;rw[av3 gB] at af;obtain rfl:=Option.some.inj af;have:=h.nC x row az;simp; omega
  ·rw[av0 (Ne.symm k2)] at af;have:=h.nC x tX af;omega
theorem akZ {ids:List (List B)} {ops:List bm} {m:Nat} {cG:List (List Nat)} (h:vX ids ops m (cT ops m).length cG) (aE:(cT ops m).length<=4) :vX ids ops (m+1) 0 cG:=by
 refine⟨h.len,fun a row az k=>?_,fun a row az=>by have:=h.nC a row az; omega⟩;rw[h.cnt a row az k];unfold yf;by_cases h1:k<m
 ·rw[if_pos h1,if_pos (by omega)]
 ·rw[if_neg h1];by_cases ad:k=m
  ·subst ad;rw[if_pos rfl,if_pos (by omega),awi]
  ·rw[if_neg ad,if_neg (by omega)];by_cases aj:k=m+1
   ·rw[if_pos aj]; simp
   ·rw[if_neg aj]
theorem akY {ids:List (List B)} {ops:List bm} {cG:List (List Nat)} (h:vX ids ops ops.length 0 cG) :Jx ids ops cG:=by
 refine⟨h.len,fun a row az k hk=>?_,fun a row az k hk=>?_⟩
 ·rw[h.cnt a row az k]; unfold yf; rw[if_pos hk]
 ·have h1:0<row.count k:=ayD.2 hk;rw[h.cnt a row az k] at h1;unfold yf at h1;by_cases ad:k<ops.length
  ·exact ad
  ·rw[if_neg ad] at h1;split at h1<;>simp at h1
def fg (ops:List bm) (m:Nat) :List Int:=(List.range ops.length).map fun k=>if k<m then ((cT ops k).length:Int) else 0
def jq (ops:List bm) (m:Nat) :List Nat:=(List.range m).filter fun k=>(cT ops k).isEmpty
theorem aaI (ops:List bm) (m:Nat) :(fg ops m).length=ops.length:=by simp[fg]
theorem Jt {ops:List bm} {m k:Nat} (h:k<ops.length) :(fg ops m)[k]? = some (if k<m then ((cT ops k).length:Int) else 0) :=by
 unfold fg; rw[avV,awr h]; rfl
theorem apf {ops:List bm} {m:Nat} (h:m<ops.length) :(fg ops m).set m ((cT ops m).length:Int)=fg ops (m+1) :=by
 apply awM;intro j;by_cases ai:j<ops.length
 ·rw[Jt ai,axi];by_cases VS:m=j
  ·subst VS;rw[if_pos rfl,if_pos (by rw[aaI]; exact ai),if_pos (by omega)]
  ·rw[if_neg VS,Jt ai];by_cases h1:j<m
   ·rw[if_pos h1,if_pos (by omega)]
   ·rw[if_neg h1,if_neg (by omega)]
 ·rw[av5 (by simp[fg]; omega),av5 (by simp[fg]; omega)]
theorem ape (ops:List bm) :fg ops ops.length=(List.range ops.length).map fun k=>((cT ops k).length:Int) :=by
 unfold fg;apply axr;intro k hk;rw[if_pos (aws.1 hk)]
theorem apg (ops:List bm) :fg ops 0=List.replicate ops.length 0:=by
 apply awM;intro j;by_cases ai:j<ops.length
 ·rw[Jt ai]; simp[ai]
 ·rw[av5 (by simp[fg]; omega),av5 (by simp; omega)]
theorem YV (ops:List bm) (m:Nat) :jq ops (m+1)=jq ops m++(if (cT ops m).isEmpty then [m] else []) :=by
 unfold jq;rw[axq,axF];congr 1;by_cases h:(cT ops m).isEmpty=true
 ·simp[h]
 ·simp[h]
def ku (n:Int) :U:=.int .i64 n
theorem anc {l:List U} {i:Nat} {x:U} (h:i<l.length) :bt l i [x]=l.set i x:=by
 have:=pa (fun c:U=>c) l i x h;simpa using this
def cY (g:bc) (wl:List Int) (vs:List U) (rest:am) :am:=.cells 2 [aK g.ids,bB g.ops] ::.cells g.ops.l.length (wl.map ku) ::.cells g.ops.l.length vs::rest
theorem Pk {l:am} {a b c:a7} (aD:l[0]? = some a) (h1:l[1]? = some b) (ad:l[2]? = some c) :∃ r,l=a::b::c::r:=by
 match l,aD,h1,ad with
 | fl::bu::c'::r,aD,h1,ad=>
  simp at aD h1 ad;subst aD h1 ad;exact⟨r,rfl⟩
theorem A8 {g:bc} {w w' : List Int} {vs Jl:List U} {r:am}:∀ {b:Nat},3<=b->(cY g w vs r)[b]? = (cY g w' Jl r)[b]?
 | 0,h=>by omega
 | 1,h=>by omega
 | 2,h=>by omega
 | b+3,_=>rfl
theorem Mt {g:bc} {w:List Int} {vs:List U} {r x:am} {b:Nat} (h:b<(cY g w vs r).length) :(cY g w vs (r++x))[b]? = (cY g w vs r)[b]?:=by
 show ((cY g w vs r)++x)[b]? = _;exact avQ h
structure abq (g:bc) (m q:Nat) (dX:U) (l:am) :Prop where
 ex:∃ (vs:List U) (cG:List (List Nat)) (dt:Nat->Nat) (hy:Nat) (rest:am),l=cY g (fg g.ops.l m) vs rest/\lP l vs cG dt/\vX g.ids.l g.ops.l m q cG/\bH 1 l dX hy ((jq g.ops.l m).map hO) ∧
  cw dX=(jq g.ops.l m).isEmpty/\(jq g.ops.l m=[]\/(3<=hy/\pk cG dt hy))
structure abp (g:bc) (m q:Nat) (dX:U) (b:Nat) (O:List U) (l:am) :Prop where
 ex:∃ (vs:List U) (cG:List (List Nat)) (dt:Nat->Nat) (hy:Nat) (rest:am),l=cY g (fg g.ops.l m) vs rest/\lP l vs cG dt/\vX g.ids.l g.ops.l m q cG/\bH 1 l dX hy ((jq g.ops.l m).map hO) ∧
  cw dX=(jq g.ops.l m).isEmpty/\(jq g.ops.l m=[]\/(3<=hy/\pk cG dt hy))/\l[b]? = some (.cells 11 O)/\3<=b/\pk cG dt b
theorem BH {cG:List (List Nat)} {l:am} {vs:List U} {dt:Nat->Nat} {c:Nat} (fy:lP l vs cG dt) (ah:c<3) :pk cG dt c:=fun a row az bI=>by
 have aA:a<vs.length:=by rw[fy.pc]; exact (avP.1 az).1
 have:=(fy.own a vs[a] row (avS aA) az).2.2.resolve_left bI;omega
theorem EM {cG:List (List Nat)} {l:am} {vs:List U} {dt:Nat->Nat} {c:Nat} (fy:lP l vs cG dt) (ah:l.length<=c) :pk cG dt c:=fun a row az bI=>by
 have:=fy.lt az bI;omega
structure sM (g:bc) (vs:List U) (cG:List (List Nat)) (dt:Nat->Nat) (W:List Int) (R:List Nat) (dX:U) (rest:am) :Prop where
 ex:∃ hy,lP (cY g W vs rest) vs cG dt/\bH 1 (cY g W vs rest) dX hy (R.map hO)/\cw dX=R.isEmpty/\(R=[]\/(3<=hy/\pk cG dt hy))
theorem sM.setW {g:bc} {vs:List U} {cG:List (List Nat)} {dt:Nat->Nat} {W uv:List Int} {R:List Nat} {dX:U} {rest:am} (h:sM g vs cG dt W R dX rest) :sM g vs cG dt uv R dX rest:=by
 obtain⟨hy,fy,gA,lu,mK⟩:=h;refine⟨⟨hy,fy.frame fun b ag ⟨a,vH,h1,ad,aj⟩=>A8 (ayW fun h=>BH fy h a vH h1 ad aj),?_,lu,mK⟩⟩;by_cases bI:R=[]
 ·subst bI;rw[jm.1 lu];exact .nil _
 ·exact gA.frame fun _=>A8 (mK.resolve_left bI).1
theorem sM.push {g:bc} {vs:List U} {cG:List (List Nat)} {dt:Nat->Nat} {W:List Int} {R:List Nat} {dX:U} {rest:am} (h:sM g vs cG dt W R dX rest) (m:Nat) (dA:(R.length+1)*8<=cy) :
  ∃ aZ fu,gx (cY g W vs (rest++[.cells 1 [.int .i64 (m:Int)]])) 1 8 dX (.ar 1 (rest.length+3) 0 1 1 1)=some (aZ,cY g W vs fu)/\sM g vs cG dt W (R++[m]) aZ fu:=by
 obtain⟨hy,wQ,GU,lu,mK⟩:=h;obtain⟨hx,NC,nF,iM⟩:∃ hx,bH 1 (cY g W vs (rest++[.cells 1 [.int .i64 (m:Int)]])) dX hx (R.map hO)/\3<=hx/\pk cG dt hx:=by
  by_cases bI:R=[]
  ·subst bI;rw[jm.1 lu];exact⟨(cY g W vs (rest++[.cells 1 [.int .i64 (m:Int)]])).length,.nil _,by simp[cY],EM wQ (by simp[cY])⟩
  ·exact⟨hy,GU.more _,(mK.resolve_left bI).1,(mK.resolve_left bI).2⟩
 obtain⟨sx,Nj,b1,aP,aU,a8,bA,bi,b8⟩:=pl (by_:=8) NC (x:=.ar 1 (rest.length+3) 0 1 1 1) (xs:=[hO m]) (by simp[dE,cY,hO]) (by simp[hO]) (by omega) (by omega) (by simpa using dA);have Ma:(cY g W vs (rest++[.cells 1 [.int .i64 (m:Int)]])).length=rest.length+4:=by simp[cY]
 have Hu:(cY g W vs rest).length=rest.length+3:=by simp[cY]
 obtain⟨fu,rfl⟩:∃ r,b1=cY g W vs r:=Pk ((bA 0 (by omega) (by omega)).trans rfl) ((bA 1 (by omega) (by omega)).trans rfl) ((bA 2 (by omega) (by omega)).trans rfl);have MO:cw sx=false:=by
  cases aG:cw sx with
  | true=>have:=(b8.1 (jm.1 aG)).2; cases this
  | false=>rfl
 refine⟨sx,fu,aP,⟨⟨Nj,?_,?_,?_,.inr ⟨?_,?_⟩⟩⟩⟩
 ·exact wQ.frame fun b ag ⟨a,vH,h1,ad,aj⟩=>(bA b (by omega) (fun e=>iM a vH h1 ad (by omega))).trans (Mt ag)
 ·rw[awm]; exact aU
 ·rw[MO]; simp
 ·rcases bi with e | e<;>omega
 ·rcases bi with e | e
  ·rw[e]; exact iM
  ·exact EM wQ (by omega)
set_option maxHeartbeats 8000000 in
theorem amO (g:bc) (aq:et g) (al:g.ids.l.length=g.ops.l.length) (j2:g.ops.l.length<=60) (aE:∀ o∈g.ops.l,o.br.l.length<=4) :bz Tryz.prog GS 96 [cl g] (.int .i64 (nD g.ids.l g.ops.l)) :=by
 refine bL Tryz.checked.mixed bE ?_;apply bp Tryz.func96 [];have l9:cy=140737488355328:=rfl;have dh:=eK g.ids;have cz:=i7 g.ops;have lW:=F6 g;have dL:cK (.ar 11) (bB g.ops)=some (.int .i64 g.ops.l.length) :=by simp[bB]
 have fE:cK (.ar 32) (aK g.ids)=some (.int .i64 g.ops.l.length) :=by simp[aK,al]
 simp[cl,cP];refine cI (g.ops.l.length - 1) (fun k ae l=>l=[.cells 2 [aK g.ids,bB g.ops]]/\ae 1=.ptr 0 0 2/\ae 3=.int .i64 ((k+1:Nat) :Int)/\∀ j,j<k+1->j<g.ids.l.length->1<=j->cj (b0 g.ids.l (j - 1)) (b0 g.ids.l j)<0) ?_ ⟨by simp,by simp,by simp,fun j h1 _ ad=>by omega⟩;rintro k ae l hk ⟨rfl,aP,a8,ak⟩;obtain⟨ae,rfl⟩:=p2 aP a8;clear aP a8;obtain⟨m,hm⟩:∃ m,m=k+1:=⟨_,rfl⟩
 rw[<-hm] at ak ⊢;by_cases aM:m<g.ops.l.length
 ·obtain⟨x,af,cE⟩:=bx (l:=g.ids.l) (k:=k) (by omega);obtain⟨y,ax,cr⟩:=bx (l:=g.ids.l) (k:=m) (by omega);have aR:IntKind.i64.wrap ((m:Int) - 1)=(k:Int) :=by rw[IntKind.wrap_i64]; omega
  have bJ:IntKind.i64.wrap ((m:Int)+1)=((m+1:Nat) :Int) :=by rw[IntKind.wrap_i64]; omega
  have hc:=fL af;have pJ:=fL ax;have fJ:ck (.ar 32) (aK g.ids) (.int .i64 (k:Int))=some (.b3 (aO x) 0) :=by simp[aK,af]
  have DK:ck (.ar 32) (aK g.ids) (.int .i64 (m:Int))=some (.b3 (aO y) 0) :=by simp[aK,ax]
  have bf:=cC (aq.ids x cE);have cg:=cC (aq.ids y cr);have fp:=Aq x y (aq.ids x cE) (aq.ids y cr);unfold fF at fp;change bz Tryz.prog GS 149 [.aH (aO x),.aH (aO y)] _ at fp;have fQ:=e4 x;have jG:=e4 y;obtain⟨X,cv⟩:∃ X,X=aO x:=⟨_,rfl⟩
  obtain⟨Y,eD⟩:∃ Y,Y=aO y:=⟨_,rfl⟩
  rw[<-cv] at fJ bf fp fQ;rw[<-eD] at DK cg fp jG;simp[fE,aM,aR,fJ,DK,bf,cg,avO];refine a6 fp (by simp[bd,U.closed,fQ,jG]) ?_;by_cases ah:cj x y<0
  ·have ei:¬ (0<=cj x y) :=by omega
   simp[ei,bJ];refine⟨by omega,fun j h1 ad aj=>?_⟩;have dv:cj (b0 g.ids.l (j - 1)) (b0 g.ids.l j)<0:=by
    by_cases ai:j=m
    ·rw[ai,show m - 1=k by omega,hc,pJ]; exact ah
    ·exact ak j (by omega) ad aj
   simpa [b0] using dv
  ·have ei:0<=cj x y:=by omega
   simp[ei];refine aL (congrArg (U.int .i64) ?_) rfl;have dM:c9 g.ids.l=false:=Za (k:=m) (by omega) (by omega) (by rw[show m - 1=k by omega,hc,pJ]; exact ah);unfold nD;rw[dM]; rfl
 ·have az:c9 g.ids.l=true:=Ox fun j h1 ad=>ak j (by omega) h1 ad
  have ai:=jP az;obtain⟨aV,_⟩:=Ez (z:=1) (by_:=8) (n:=g.ops.l.length) (k:=.i64) (k':=.i64) (zero:=[U.int .i64 0]) (l:=[a7.cells 2 [aK g.ids,bB g.ops]]) rfl (by omega) (by rw[l9]; omega);obtain⟨a1,_⟩:=Ez (z:=1) (by_:=24) (n:=g.ops.l.length) (k:=.i64) (k':=.i64) (zero:=[U.aT]) (l:=[a7.cells 2 [aK g.ids,bB g.ops],a7.cells g.ops.l.length (List.replicate g.ops.l.length (U.int .i64 0))]) rfl (by omega) (by rw[l9]; omega);simp only[axn,Ou (α:=Nat)] at aV a1;simp[fE,dL,aM,aV,a1];refine cI g.ops.l.length (fun m ae l=>ae 1=.ptr 0 0 2/\ae 4=.ar 1 1 0 g.ops.l.length g.ops.l.length g.ops.l.length/\ae 5=.ar 1 2 0 g.ops.l.length g.ops.l.length g.ops.l.length/\ae 45=bB g.ops/\ae 46=.int .i64 g.ops.l.length/\ae 47=.int .i64 m ∧
   abq g m 0 (ae 6) l/\∀ i,i<m->ks g.ids.l (cT g.ops.l i)=true) ?_ ?_
  ·rintro m ae l hm ⟨aP,bA,bi,uM,uN,uO,dQ,eQ⟩;obtain⟨dX,b8⟩:∃ v,ae 6=v:=⟨_,rfl⟩
   rw[b8] at dQ;obtain⟨ae,rfl⟩:=Ji aP bA bi b8 uM uN uO;clear aP bA bi b8 uM uN uO;by_cases pF:m<g.ops.l.length
   ·obtain⟨o,ap,dd⟩:=bx pF;have aR:IntKind.i64.wrap ((m:Int)+1)=((m+1:Nat) :Int) :=by rw[IntKind.wrap_i64]; omega
    have bN:ck (.ar 11) (bB g.ops) (.int .i64 (m:Int))=some (.b3 (a2 o) 0) :=by simp[bB,ap]
    have jf:=aq.ops o dd;have gq:=aE o dd;have pH:cT g.ops.l m=o.br.l:=lI ap;have oe:cK (.ar 32) (aK o.br)=some (.int .i64 o.br.l.length) :=by simp[aK]
    have n2:(a2 o).length=11:=rfl;have ht:∀ h:1<(a2 o).length,(a2 o)[1]'h=aK o.br:=fun _=>rfl
    obtain⟨O,du⟩:∃ O,O=a2 o:=⟨_,rfl⟩
    rw[<-du] at bN n2 ht;have hg:bt [U.int .u32 0,.aT,.int .u64 0,.int .u8 0,.str [],.int .u8 0,.int .i64 0,.int .u64 0,.str [],.int .u32 0,.int .u32 0] 0 O=O:=eM (by rw[n2]; rfl);simp[pF,bN,n2,ht,oe,hg,avO];obtain⟨Ag,G2⟩:∃ Ag,Ag=l.length:=⟨_,rfl⟩
    rw[<-G2];refine cI o.br.l.length (fun q ae l=>ae 1=.ptr 0 0 2/\ae 4=.ar 1 1 0 g.ops.l.length g.ops.l.length g.ops.l.length/\ae 5=.ar 1 2 0 g.ops.l.length g.ops.l.length g.ops.l.length/\ae 6=dX/\ae 7=.int .i64 m/\ae 8=.ptr Ag 0 11/\ae 45=bB g.ops/\ae 46=.int .i64 g.ops.l.length/\ae 47=.int .i64 m ∧
     ae 53=aK o.br/\ae 54=.int .i64 o.br.l.length/\ae 55=.int .i64 q/\abp g m q dX Ag O l/\∀ (j:Nat) (p:List B),j<q->o.br.l[j]? = some p->p∈g.ids.l) ?_ ?_
    ·rintro q ae l aW ⟨aP,bA,bi,b8,dk,dj,uM,uN,uO,Ug,Uh,Ui,pu,y4⟩;obtain⟨ae,rfl⟩:=aom aP bA bi b8 dk dj uM uN uO Ug Uh Ui;clear aP bA bi b8 dk dj uM uN uO Ug Uh Ui;obtain⟨vs,cG,dt,hy,rest,rfl,fy,n3,gA,lu,mK,ag,rL,qv⟩:=pu;by_cases vc:q<o.br.l.length
     ·obtain⟨p,ay,pG⟩:=bx vc;have bJ:IntKind.i64.wrap ((q:Int)+1)=((q+1:Nat) :Int) :=by rw[IntKind.wrap_i64]; omega
      have ir:ck (.ar 32) (aK o.br) (.int .i64 (q:Int))=some (.b3 (aO p) 0) :=by simp[aK,ay]
      have V8:=jf.ids p pG;have bf:=cC V8;have fQ:=e4 p;have A1:=TK g aq az p V8;unfold cl cP at A1 lW;obtain⟨X,cv⟩:∃ X,X=aO p:=⟨_,rfl⟩
      rw[<-cv] at ir bf fQ A1;have j8:bt (rep 32 (.int .u8 0)) 0 X=X:=eM (by rw[bf]; rfl);simp[cY,vc,ir,bf,j8,avO];refine a6 A1 (by simp[bd,U.closed,fQ,dh,cz]) ?_;by_cases rV:p∈g.ids.l
      ·obtain⟨kt,fA⟩:=avT.1 rV;have agb:=yg az fA;have arI:=(avP.1 fA).1;have arJ:kt<g.ops.l.length:=by omega
       have jh:vs.length=g.ops.l.length:=by rw[fy.pc,n3.len]
       obtain⟨iD,Bj,_⟩:=bx (l:=vs) (k:=kt) (by omega);obtain⟨row,cJ,_⟩:=bx (l:=cG) (k:=kt) (by rw[n3.len]; omega);obtain⟨l1,gC⟩:∃ l1,l1=cY g (fg g.ops.l m) vs (rest++[.cells 32 X,.cells 1 [.int .i64 (m:Int)]]) :=⟨_,rfl⟩
       have GQ:lP l1 vs cG dt:=by rw[gC]; exact fy.more _
       have L9:l1.length=rest.length+5:=by rw[gC]; simp[cY]
       have mb:=n3.nC kt row cJ;obtain⟨aZ,b1,Ep,aP,aU,a8,bA,bi⟩:=GQ.app (b:=rest.length+4) (k:=m) Bj cJ (by rw[gC]; simp[cY]) (by omega) (by rw[l9]; omega);have dV:=bi 0 (by omega) (BH GQ (by omega));have q1:=bi 1 (by omega) (BH GQ (by omega));have ft:=bi 2 (by omega) (BH GQ (by omega));obtain⟨fu,rfl⟩:∃ r,b1=cY g (fg g.ops.l m) vs r:=Pk (dV.1.trans (by rw[gC]; rfl)) (q1.1.trans (by rw[gC]; rfl)) (ft.1.trans (by rw[gC]; rfl));have Hn:ck (.ar 1) (.ar 1 2 0 g.ops.l.length g.ops.l.length g.ops.l.length) (.int .i64 (kt:Int))=some (.ptr 2 kt g.ops.l.length) :=by
        simp only[ck];rw[if_pos ⟨trivial,by omega,by omega⟩];simp
       rw[gC] at aP;unfold cY at aP;simp[rV,agb,Hn,Bj,aP];refine dp.cx ?_;have Bg:bt vs kt [aZ]=vs.set kt aZ:=anc (by omega);simp[cY,bA,Hn,Bg,jh];have kW:∀ c,3<=c->c<(cY g (fg g.ops.l m) vs rest).length->pk cG dt c->(cY g (fg g.ops.l m) (vs.set kt aZ) fu)[c]? = (cY g (fg g.ops.l m) vs rest)[c]?/\pk (cG.set kt (row++[m])) Ep c:=by
        intro c aj ej ap;obtain⟨ce,bP⟩:=bi c (by simp[cY] at ej; omega) ap;exact⟨(A8 aj).trans (ce.trans (by rw[gC]; exact Mt ej)),bP⟩
       have L3:jq g.ops.l m≠[]->hy<(cY g (fg g.ops.l m) vs rest).length:=fun bI=>by
        rcases gA.lt with h | h
        ·rw[h] at lu;cases eT:jq g.ops.l m with
         | nil=>exact absurd eT bI
         | cons=>rw[eT] at lu; cases lu
        ·exact h
       have eU:=(avP.1 ag).1;obtain⟨f1,f2⟩:=kW Ag rL eU qv;refine⟨by omega,vc,by rw[IntKind.wrap_i64]; omega,⟨⟨vs.set kt aZ,cG.set kt (row++[m]),Ep,hy,fu,rfl,?_,ak1 ai al n3 (by rw[pH]; exact ay) fA cJ,?_,lu,?_,f1.trans ag,rL,f2⟩⟩,fun j bV dv gp=>?_⟩
       ·exact aU.frame fun b ag ⟨a,vH,h1,ad,aj⟩=>by
         have aE:3<=b:=ayW fun h=>BH aU h a vH h1 ad aj
         exact A8 aE
       ·by_cases bI:jq g.ops.l m=[]
        ·rw[bI] at lu gA ⊢;rw[jm.1 lu];exact .nil _
        ·obtain⟨h1,ad⟩:=mK.resolve_left bI;exact gA.frame fun h=>(kW hy h1 (L3 bI) ad).1
       ·by_cases bI:jq g.ops.l m=[]
        ·exact .inl bI
        ·obtain⟨h1,ad⟩:=mK.resolve_left bI;exact .inr ⟨h1,(kW hy h1 (L3 bI) ad).2⟩
       ·by_cases u6:j=q
        ·subst u6; rw[ay] at gp; obtain rfl:=Option.some.inj gp; exact rV
        ·exact y4 j bV (by omega) gp
      ·simp[rV];refine aL (congrArg (U.int .i64) ?_) rfl;have dM:¬ BG g.ids.l g.ops.l=true:=fun h=>by
        have:=of_decide_eq_true h o dd;exact rV (of_decide_eq_true this p pG)
       unfold nD;rw[if_pos az,if_neg dM]
     ·have qP:q=o.br.l.length:=by omega
      rw[qP] at n3;rw[<-pH] at n3;have UJ:=akZ n3 (by rw[pH]; exact gq);have jh:vs.length=g.ops.l.length:=by rw[fy.pc,n3.len]
      have Wh:eW (cY g (fg g.ops.l m) vs rest) (.ptr Ag 1 11)=some (O,1) :=by simp only[eW,ag]; rfl
      have DG:ck (.ar 1) (.ar 1 1 0 g.ops.l.length g.ops.l.length g.ops.l.length) (.int .i64 (m:Int))=some (.ptr 1 m g.ops.l.length) :=by
       simp only[ck];rw[if_pos ⟨trivial,by omega,by omega⟩];simp
      have MI:kH 1 (cY g (fg g.ops.l m) vs rest) (.ptr 1 m g.ops.l.length) (.int .i64 o.br.l.length)=some (cY g (fg g.ops.l (m+1)) vs rest) :=by
       have h1:(cY g (fg g.ops.l m) vs rest)[1]? = some (.cells g.ops.l.length ((fg g.ops.l m).map ku)) :=rfl;simp only[kH,U.cells,h1];rw[if_pos (by simp; omega)];have ad:bt ((fg g.ops.l m).map ku) m [U.int .i64 o.br.l.length]=(fg g.ops.l (m+1)).map ku:=by
        rw[<-apf pF,pH];exact pa ku (fg g.ops.l m) m _ (by rw[aaI]; exact pF)
       rw[ad]; rfl
      have DZ:eW (cY g (fg g.ops.l (m+1)) vs rest) (.ptr 1 m g.ops.l.length)=some ((fg g.ops.l (m+1)).map ku,m) :=by
       have h1:(cY g (fg g.ops.l (m+1)) vs rest)[1]? = some (.cells g.ops.l.length ((fg g.ops.l (m+1)).map ku)) :=rfl;simp only[eW,h1]; simp
      have Hl:((fg g.ops.l (m+1)).map ku)[m]? = some (.int .i64 o.br.l.length) :=by
       rw[avV,Jt pF,if_pos (by omega),pH]; rfl
      have arX:∀ h:m<((fg g.ops.l (m+1)).map ku).length,((fg g.ops.l (m+1)).map ku)[m]'h=.int .i64 o.br.l.length:=fun h=>(avP.1 Hl).2
      have UF:O[1]? = some (aK o.br) :=by rw[avS (by rw[n2]; omega),ht]
      have wQ:lP (cY g (fg g.ops.l (m+1)) vs rest) vs cG dt:=fy.frame fun b ag ⟨a,vH,h1,ad,aj⟩=>A8 (ayW fun h=>BH fy h a vH h1 ad aj)
      have GU:bH 1 (cY g (fg g.ops.l (m+1)) vs rest) dX hy ((jq g.ops.l m).map hO) :=by
       by_cases bI:jq g.ops.l m=[]
       ·rw[bI] at lu ⊢;rw[jm.1 lu];exact .nil _
       ·exact gA.frame fun _=>A8 (mK.resolve_left bI).1
      have G0:∀ i,i<m+1->ks g.ids.l (cT g.ops.l i)=true:=fun i av=>by
       by_cases agR:i=m
       ·subst agR;rw[pH];refine decide_eq_true fun p ay=>?_
        obtain⟨j,dv⟩:=avT.1 ay;exact y4 j p (by rw[qP]; exact (avP.1 dv).1) dv
       ·exact eQ i (by omega)
      by_cases aw:o.br.l.length=0
      ·have ahe:cK (.ar 32) (aK o.br)=some (.int .i64 0) :=by rw[oe,aw]; rfl
       have aih:kH 1 (cY g (fg g.ops.l m) vs rest) (.ptr 1 m g.ops.l.length) (.int .i64 0)=some (cY g (fg g.ops.l (m+1)) vs rest) :=by rw[aw] at MI; exact MI
       have agE:((fg g.ops.l (m+1)).map ku)[m]? = some (.int .i64 0) :=by rw[aw] at Hl; exact Hl
       have qQ:jq g.ops.l (m+1)=jq g.ops.l m++[m] :=by
        rw[YV,pH,awt.1 aw]; rfl
       obtain⟨hx,NC,nF,iM⟩:∃ hx,bH 1 (cY g (fg g.ops.l (m+1)) vs (rest++[.cells 1 [.int .i64 (m:Int)]])) dX hx ((jq g.ops.l m).map hO)/\3<=hx/\pk cG dt hx:=by
        by_cases bI:jq g.ops.l m=[]
        ·rw[bI] at lu ⊢;rw[jm.1 lu];exact⟨(cY g (fg g.ops.l (m+1)) vs (rest++[.cells 1 [.int .i64 (m:Int)]])).length,.nil _,by simp[cY],EM wQ (by simp[cY])⟩
        ·exact⟨hy,GU.more _,(mK.resolve_left bI).1,(mK.resolve_left bI).2⟩
       have mb:(jq g.ops.l m).length<=m:=by
        have:=axm (fun k=>(cT g.ops.l k).isEmpty) (List.range m);simpa [jq] using this
       obtain⟨sx,Nj,b1,aP,aU,a8,bA,bi,b8⟩:=pl (by_:=8) NC (x:=.ar 1 (rest.length+3) 0 1 1 1) (xs:=[hO m]) (by simp[dE,cY,hO]) (by simp[hO]) (by omega) (by omega) (by rw[l9]; simp; omega);have Ma:(cY g (fg g.ops.l (m+1)) vs (rest++[.cells 1 [.int .i64 (m:Int)]])).length=rest.length+4:=by simp[cY]
       obtain⟨fu,rfl⟩:∃ r,b1=cY g (fg g.ops.l (m+1)) vs r:=Pk ((bA 0 (by omega) (by omega)).trans rfl) ((bA 1 (by omega) (by omega)).trans rfl) ((bA 2 (by omega) (by omega)).trans rfl);have Mx:cY g (fg g.ops.l (m+1)) vs rest++[a7.cells 1 [.int .i64 (m:Int)]]=cY g (fg g.ops.l (m+1)) vs (rest++[.cells 1 [.int .i64 (m:Int)]]) :=rfl;have Hu:(cY g (fg g.ops.l (m+1)) vs rest).length=rest.length+3:=by simp[cY]
       simp[vc,Wh,UF,ahe,DG,aih,DZ,agE,Mx,Hu,aP];refine dp.cx ?_;simp;have MO:cw sx=false:=by
        cases aG:cw sx with
        | true=>have:=(b8.1 (jm.1 aG)).2; cases this
        | false=>rfl
       refine⟨pF,by rw[IntKind.wrap_i64]; omega,⟨⟨vs,cG,dt,Nj,fu,rfl,?_,UJ,?_,?_,.inr ⟨?_,?_⟩⟩⟩,G0⟩
       ·exact wQ.frame fun b ag ⟨a,vH,h1,ad,aj⟩=>(bA b (by omega) (fun e=>iM a vH h1 ad (by omega))).trans (Mt ag)
       ·rw[qQ,awm]; exact aU
       ·rw[MO,qQ]; simp
       ·rcases bi with e | e<;>omega
       ·rcases bi with e | e
        ·rw[e]; exact iM
        ·exact EM wQ (by omega)
      ·have qQ:jq g.ops.l (m+1)=jq g.ops.l m:=by
        rw[YV,pH];have:o.br.l.isEmpty=false:=by cases eT:o.br.l with | nil=>rw[eT] at aw; exact absurd rfl aw | cons=>rfl
        rw[this]; simp
       simp[vc,Wh,UF,oe,DG,MI,DZ,Hl,aw];exact⟨pF,by rw[IntKind.wrap_i64]; omega,⟨⟨vs,cG,dt,hy,rest,rfl,wQ,UJ,by rw[qQ]; exact GU,by rw[qQ]; exact lu,by rw[qQ]; exact mK⟩⟩,G0⟩
    ·simp;obtain⟨vs,cG,dt,hy,rest,rfl,fy,n3,gA,lu,mK⟩:=dQ;refine⟨⟨vs,cG,dt,hy,rest++[.cells 11 O],rfl,fy.more _,n3,gA.more _,lu,mK,by rw[G2,av2 (avR _)]; simp,by rw[G2]; simp[cY],EM fy (by rw[G2]; exact avR _)⟩⟩
   ·have iT:m=g.ops.l.length:=by omega
    subst iT;obtain⟨vs,cG,dt,ajf,amd,rfl,UE,n3,qt,afB,afA⟩:=dQ;have Lc:=akY n3;have jh:vs.length=g.ops.l.length:=by rw[UE.pc,n3.len]
    have gk:BG g.ids.l g.ops.l=true:=decide_eq_true fun o dd=>by
     obtain⟨j,dv⟩:=avT.1 dd;have:=eQ j (avP.1 dv).1
     rwa [lI dv] at this
    have UC:=ajA (ids:=g.ids.l) (ops:=g.ops.l) al;rw[<-ape] at UC;have afC:sM g vs cG dt (fg g.ops.l g.ops.l.length) (jq g.ops.l g.ops.l.length) dX amd:=⟨⟨ajf,UE,qt,afB,afA⟩⟩
    simp;refine cI g.ops.l.length (fun d ae l=>ae 1=.ptr 0 0 2/\ae 4=.ar 1 1 0 g.ops.l.length g.ops.l.length g.ops.l.length/\ae 5=.ar 1 2 0 g.ops.l.length g.ops.l.length g.ops.l.length/\ae 13=.int .i64 d ∧
     ∃ W R rest,l=cY g W vs rest/\sM g vs cG dt W R (ae 6) rest/\sK g.ids.l g.ops.l [] d 0 R W) ?_ ?_
    ·rintro d ae l bC ⟨aP,bA,bi,kx,W,R,rest,rfl,dQ,aY⟩;obtain⟨dX,b8⟩:∃ v,ae 6=v:=⟨_,rfl⟩
     rw[b8] at dQ;obtain⟨ae,rfl⟩:=lj aP bA bi b8 kx;clear aP bA bi b8 kx;have Lp:cK (.ar 1) dX=some (.int .i64 R.length) :=by obtain⟨hy,_,gA,_⟩:=dQ; have:=gA.len; simpa using this
     have lu:R.length<=g.ops.l.length:=by
      have:=vK (b:=List.range g.ops.l.length) aY.hA fun x af=>aws.2 (aY.pr x af).1
      simpa using this
     by_cases u1:d<R.length
     ·obtain⟨a,aA,afN⟩:=bx u1;have afO:=(aY.pr a afN).1;have aR:IntKind.i64.wrap ((d:Int)+1)=((d+1:Nat) :Int) :=by rw[IntKind.wrap_i64]; omega
      obtain⟨row,cJ,_⟩:=bx (l:=cG) (k:=a) (by rw[n3.len]; exact afO);obtain⟨iD,Bj,_⟩:=bx (l:=vs) (k:=a) (by omega);obtain⟨hy,fy,gA,UL,mK⟩:=dQ;obtain⟨zA,CF,Cb,de,df,fw,m7⟩:=gA.q.get (k:=.i64) (i:=d) (e:=hO a) (by rw[avV,aA]; rfl);have sR:=one_cell (c:=.int .i64 (a:Int)) m7;have Hn:ck (.ar 1) (.ar 1 2 0 g.ops.l.length g.ops.l.length g.ops.l.length) (.int .i64 (a:Int))=some (.ptr 2 a g.ops.l.length) :=by
       simp only[ck];rw[if_pos ⟨trivial,by omega,by omega⟩];simp
      have D0:∀ uv mo,eW (cY g uv vs mo) (.ptr 2 a g.ops.l.length)=some (vs,a) :=fun uv mo=>by
       have h1:(cY g uv vs mo)[2]? = some (.cells g.ops.l.length vs) :=rfl;simp only[eW,h1]; simp
      have MQ:=(fy.own a iD row Bj cJ).1;have aip:cK (.ar 1) iD=some (.int .i64 row.length) :=by have:=MQ.len; simpa using this
      have mb:=n3.nC a row cJ;simp[Lp,u1,de,df,sR,Hn,D0,Bj,aip];refine cI row.length (fun j ae l=>ae 1=.ptr 0 0 2/\ae 4=.ar 1 1 0 g.ops.l.length g.ops.l.length g.ops.l.length/\ae 5=.ar 1 2 0 g.ops.l.length g.ops.l.length g.ops.l.length/\ae 13=.int .i64 d/\ae 106=iD/\ae 107=.int .i64 row.length/\ae 108=.int .i64 j ∧
       ∃ W R rest,l=cY g W vs rest/\sM g vs cG dt W R (ae 6) rest/\sK g.ids.l g.ops.l row d j R W/\R[d]? = some a) ?_ ?_
      ·rintro j ae l L3 ⟨aP,bA,bi,kx,T6,T7,T8,W,R,rest,rfl,dQ,aY,aA⟩;obtain⟨dX,b8⟩:∃ v,ae 6=v:=⟨_,rfl⟩
       rw[b8] at dQ;obtain⟨ae,rfl⟩:=aan aP bA bi b8 kx T6 T7 T8;clear aP bA bi b8 kx T6 T7 T8;by_cases e7:j<row.length
       ·obtain⟨k,hk,lw⟩:=bx e7;have gj:=Lc.lt a row cJ k lw;obtain⟨x,af,Bo,asq,Dp⟩:=ajB al ai Lc aY aA cJ hk;have asr:(cT g.ops.l k).length<=4:=by
         obtain⟨cO,en,ahF⟩:=bx gj;rw[lI en]; exact aE cO ahF
        have aR:IntKind.i64.wrap ((j:Int)+1)=((j+1:Nat) :Int) :=by rw[IntKind.wrap_i64]; omega
        have bJ:IntKind.i64.wrap (x - 1)=x - 1:=by rw[IntKind.wrap_i64]; omega
        obtain⟨hy,fy,gA,UL,mK⟩:=id dQ;have MQ:=(fy.own a iD row Bj cJ).1;obtain⟨zA,CF,Cb,de,df,fw,m7⟩:=MQ.q.get (k:=.i64) (i:=j) (e:=hO k) (by rw[avV,hk]; rfl);have sR:=one_cell (c:=.int .i64 (k:Int)) m7;have DG:ck (.ar 1) (.ar 1 1 0 g.ops.l.length g.ops.l.length g.ops.l.length) (.int .i64 (k:Int))=some (.ptr 1 k g.ops.l.length) :=by
         simp only[ck];rw[if_pos ⟨trivial,by omega,by omega⟩];simp
        have arH:=aY.wl;have DZ:eW (cY g W vs rest) (.ptr 1 k g.ops.l.length)=some (W.map ku,k) :=by
         have h1:(cY g W vs rest)[1]? = some (.cells g.ops.l.length (W.map ku)) :=rfl;simp only[eW,h1]; simp
        have ed:(W.map ku)[k]? = some (.int .i64 x) :=by rw[avV,af]; rfl
        have ci:kH 1 (cY g W vs rest) (.ptr 1 k g.ops.l.length) (.int .i64 (x - 1))=some (cY g (W.set k (x - 1)) vs rest) :=by
         have h1:(cY g W vs rest)[1]? = some (.cells g.ops.l.length (W.map ku)) :=rfl;simp only[kH,U.cells,h1];rw[if_pos (by simp; omega)];have ad:bt (W.map ku) k [U.int .i64 (x - 1)]=(W.set k (x - 1)).map ku:=pa ku W k _ (by omega);rw[ad]; rfl
        have D0:eW (cY g (W.set k (x - 1)) vs rest) (.ptr 1 k g.ops.l.length)=some ((W.set k (x - 1)).map ku,k) :=by
         have h1:(cY g (W.set k (x - 1)) vs rest)[1]? = some (.cells g.ops.l.length ((W.set k (x - 1)).map ku)) :=rfl;simp only[eW,h1]; simp
        have Hk:((W.set k (x - 1)).map ku)[k]? = some (.int .i64 (x - 1)) :=by rw[avV,av3 (by omega)]; rfl
        have Lq:sM g vs cG dt (W.set k (x - 1)) R dX rest:=dQ.setW;obtain⟨hI,GZ⟩:∃ hI,hI=W.set k (x - 1) :=⟨_,rfl⟩
        rw[<-GZ] at ci D0 Hk Lq Dp;by_cases aw:x - 1=0
        ·rw[if_pos aw] at Dp;have dF:IntKind.i64.wrap (x - 1)=0:=by rw[bJ]; exact aw
         rw[aw] at ci Hk;have arC:R.length<=g.ops.l.length:=by
          have:=vK (b:=List.range g.ops.l.length) aY.hA fun x af=>aws.2 (aY.pr x af).1
          simpa using this
         obtain⟨aZ,fu,lG,sl⟩:=Lq.push k (by rw[l9]; omega);have Mx:cY g hI vs rest++[a7.cells 1 [.int .i64 (k:Int)]]=cY g hI vs (rest++[.cells 1 [.int .i64 (k:Int)]]) :=rfl;have Hu:(cY g hI vs rest).length=rest.length+3:=by simp[cY]
         simp[e7,de,df,sR,DG,DZ,ed,dF,ci,D0,Hk,Mx,Hu,lG];refine dp.cx ?_;simp[e7,aR];exact⟨hI,R++[k],fu,rfl,sl,Dp,by rw[avQ (avP.1 aA).1]; exact aA⟩
        ·rw[if_neg aw] at Dp;simp[e7,de,df,sR,DG,DZ,ed,bJ,ci,D0,Hk,aw,aR];exact⟨hI,R,rest,rfl,Lq,Dp,aA⟩
       ·have agY:j=row.length:=by omega
        subst agY;simp[e7];exact⟨by omega,by rw[IntKind.wrap_i64]; omega,W,R,rest,rfl,dQ,ajy Lc aY aA cJ⟩
      ·simp;exact⟨W,R,rest,rfl,⟨⟨hy,fy,gA,UL,mK⟩⟩,ajz aY,aA⟩
     ·have agl:d=R.length:=by have:=aY.dl; omega
      subst agl;obtain⟨nF,iM⟩:=ajx al ai aY;by_cases qI:R.length<g.ops.l.length
      ·simp[Lp,u1,cY,dL,qI];refine aL (congrArg (U.int .i64) ?_) rfl;unfold nD;rw[if_pos az,if_pos gk,if_neg (fun h=>by have:=iM.2 h; omega)]
      ·simp[Lp,u1,cY,dL,qI];refine aL (congrArg (U.int .i64) ?_) rfl;unfold nD;rw[if_pos az,if_pos gk,if_pos (iM.1 (by omega))]
    ·simp;exact⟨_,_,_,rfl,afC,UC⟩
  ·simp;refine⟨⟨List.replicate g.ops.l.length .aT,List.replicate g.ops.l.length [],fun _=>0,0,[],?_,⟨by simp,fun a v row au ah2=>?_,fun a b m2 ov _ aA _ Mh _=>?_⟩,ak0 _ _,.nil _,rfl,.inl rfl⟩⟩
   ·unfold cY; rw[apg,ayH]; rfl
   ·have h1:=axe (avY au);have ad:=axe (avY ah2);subst h1 ad;exact⟨.nil _,rfl,.inl rfl⟩
   ·exact absurd (axe (avY aA)) Mh
set_option maxHeartbeats 4000000 in
theorem zT (g:bc) (aq:et g) :bz Tryz.prog GS 52 [cl g] (.int .i64 (ep g)) :=by
 refine bL Tryz.checked.mixed bE ?_;apply bp Tryz.func52 [];have dh:=eK g.ids;have cz:=i7 g.ops;have lW:=F6 g;have dL:cK (.ar 11) (bB g.ops)=some (.int .i64 g.ops.l.length) :=by simp[bB]
 have fE:cK (.ar 32) (aK g.ids)=some (.int .i64 g.ids.l.length) :=by simp[aK]
 have bn:=aq.cV;by_cases j2:60<(g.ops.l.length:Int)
 ·simp[cl,cP,dL,j2];refine aL (congrArg (U.int .i64) ?_) rfl;unfold ep; rw[if_pos (by omega)]
 by_cases al:g.ids.l.length=g.ops.l.length
 ·have dr:(g.ids.l.length:Int)=(g.ops.l.length:Int) :=by omega
  simp[cl,cP,dL,fE,j2,dr];refine cI g.ops.l.length (fun k ae l=>(∃ rest,l=.cells 2 [aK g.ids,bB g.ops] ::rest)/\ae 1=.ptr 0 0 2/\ae 19=bB g.ops/\ae 20=.int .i64 g.ops.l.length/\ae 21=.int .i64 k/\∀ j,j<k->ps g j=true) ?_ (by simp);rintro k ae l hk ⟨⟨rest,rfl⟩,aP,s7,Ub,uL,ak⟩;obtain⟨ae,rfl⟩:=i0 aP s7 Ub uL;clear aP s7 Ub uL;by_cases cq:k<g.ops.l.length
  ·obtain⟨o,ap,dd⟩:=bx cq;obtain⟨x,af,cE⟩:=bx (l:=g.ids.l) (k:=k) (by omega);have ek:=Dh ap af;have aR:IntKind.i64.wrap ((k:Int)+1)=((k+1:Nat) :Int) :=by rw[IntKind.wrap_i64]; omega
   have bN:ck (.ar 11) (bB g.ops) (.int .i64 (k:Int))=some (.b3 (a2 o) 0) :=by simp[bB,ap]
   have yP:ck (.ar 32) (aK g.ids) (.int .i64 (k:Int))=some (.b3 (aO x) 0) :=by simp[aK,af]
   have au:=aoW o (aq.ops o dd);have e1:=PB o (aq.ops o dd);change bz Tryz.prog GS 94 [.aH (a2 o)] (.bG [.aH (aO (cH o)),.int .i64 (fM o)]) at e1;have oT:=i6 o;have bf:=cC (aq.ids x cE);have Do:=cC (Ee o);have bY:(a2 o).length=11:=rfl;have heq:=HX (Ee o) (aq.ids x cE);have oS:¬ ps g k=true->ep g=8:=fun h=>by
    unfold ep;rw[if_neg (by omega),if_pos al,if_neg fun aG=>h ((yt g).1 aG k cq)]
   obtain⟨O,du⟩:∃ O,O=a2 o:=⟨_,rfl⟩
   obtain⟨X,cv⟩:∃ X,X=aO x:=⟨_,rfl⟩
   obtain⟨I,mI⟩:∃ I,I=aO (cH o) :=⟨_,rfl⟩
   rw[<-du] at bN au e1 oT bY;rw[<-cv] at yP bf heq;rw[<-mI] at e1 heq Do;have hg:bt [U.int .u32 0,.aT,.int .u64 0,.int .u8 0,.str [],.int .u8 0,.int .i64 0,.int .u64 0,.str [],.int .u32 0,.int .u32 0] 0 O=O:=eM (by rw[bY]; rfl);have MH:bt (rep 32 (.int .u8 0)) 0 I=I:=eM (by rw[Do]; rfl);simp[cq,bN,bY,hg,avO];refine a6 e1 (by simp[bd,U.closed,oT]) ?_;by_cases aD:fM o=0
   ·by_cases fJ:cH o=x
    ·simp[aD,Do,MH,yP,bf,heq,fJ,bY,avO];refine a6 au (by simp[bd,U.closed,oT]) ?_;by_cases oZ:oG o=0
     ·simp[oZ,cq,aR];intro j ai;by_cases gc:j=k
      ·subst gc; rw[ek]; simp[oZ,fJ]
      ·exact ak j (by omega)
     ·have ag:¬ ps g k=true:=fun h=>by rw[ek] at h; simp[oZ] at h
      simp[oZ];exact aL (congrArg (U.int .i64) (oS ag).symm) rfl
    ·have ag:¬ ps g k=true:=fun h=>by rw[ek] at h; simp[fJ] at h
     simp[aD,Do,MH,yP,bf,heq,fJ,bY,avO];exact aL (congrArg (U.int .i64) (oS ag).symm) rfl
   ·have ag:¬ ps g k=true:=fun h=>by
     rw[ek,avU,decide_eq_true_eq] at h;exact aD (zS h.1)
    simp[aD,Do,MH,yP,bf,heq,bY,avO];exact aL (congrArg (U.int .i64) (oS ag).symm) rfl
  ·have ob:k=g.ops.l.length:=by omega
   have eQ:Gx g=true:=(yt g).2 fun j ai=>ak j (by omega)
   have aE:∀ o∈g.ops.l,o.br.l.length<=4:=fun o dd=>by
    obtain⟨j,ai⟩:=avT.1 dd;obtain⟨x,af,_⟩:=bx (l:=g.ids.l) (k:=j) (by have:=(avP.1 ai).1; omega);have h1:=(yt g).1 eQ j (avP.1 ai).1;rw[Dh ai af,avU,decide_eq_true_eq] at h1;exact zy (zS h1.1)
   have mT:=amO g aq al (by omega) aE;unfold cl cP at mT lW;simp[cq];refine a6 mT (by simp[bd,lW]) ?_;simp;refine aL (congrArg (U.int .i64) ?_) rfl;unfold ep;rw[if_neg (by omega),if_pos al,if_pos eQ]
 ·have dr:¬ (g.ids.l.length:Int)=(g.ops.l.length:Int) :=by omega
  simp[cl,cP,dL,fE,j2,dr];refine aL (congrArg (U.int .i64) ?_) rfl;unfold ep; rw[if_neg (by omega),if_neg al]
def uQ (o:bm) :Bool:=decide (20<o.br.l.length)||(decide (100<o.act.key.length)||decide (100<o.act.val.text.length))
theorem alu (o:bm) :bz Tryz.prog GS 38 [.aH (a2 o)] (.bool (uQ o)) :=by
 refine bL Tryz.checked.mixed bE ?_;apply bp Tryz.func38 [];unfold uQ;have oe:cK (.ar 32) (aK o.br)=some (.int .i64 o.br.l.length) :=by simp[aK]
 by_cases h1:20<o.br.l.length
 ·have dg:(20:Int)<(o.br.l.length:Int) :=by omega
  simp[a2,oe,h1,dg];exact aL rfl rfl
 ·have dg:¬ (20:Int)<(o.br.l.length:Int) :=by omega
  by_cases ad:100<o.act.key.length
  ·have gP:(100:Int)<(o.act.key.length:Int) :=by omega
   simp[a2,oe,h1,dg,ad,gP];exact aL rfl rfl
  ·have gP:¬ (100:Int)<(o.act.key.length:Int) :=by omega
   simp[a2,oe,h1,dg,ad,gP];refine aL (congrArg U.bool ?_) rfl;by_cases aj:100<o.act.val.text.length
   ·have wN:(100:Int)<(o.act.val.text.length:Int) :=by omega
    simp[aj,wN]
   ·have wN:¬ (100:Int)<(o.act.val.text.length:Int) :=by omega
    simp[aj,wN]
def wM (g:bc) :Bool:=decide (∃ o∈g.ops.l.take 71,uQ o=true)||(decide (16<g.ops.l.length/\g.ops.l.length<=60)||(decide (70<g.ops.l.length)||decide (70<g.ids.l.length)))
theorem alt (g:bc) :bz Tryz.prog GS 10 [cl g] (.bool (wM g)) :=by
 refine bL Tryz.checked.mixed bE ?_;apply bp Tryz.func10 [];have dL:cK (.ar 11) (bB g.ops)=some (.int .i64 g.ops.l.length) :=by simp[bB]
 have fE:cK (.ar 32) (aK g.ids)=some (.int .i64 g.ids.l.length) :=by simp[aK]
 simp[cl,cP];refine cI (min g.ops.l.length 71) (fun k ae l=>l=[.cells 2 [aK g.ids,bB g.ops]]/\ae 1=.ptr 0 0 2/\ae 3=.int .i64 k/\∀ (j:Nat) (o:bm),j<k->g.ops.l[j]? = some o->uQ o=false) ?_ (by simp);rintro k ae l hk ⟨rfl,aP,a8,ak⟩;obtain⟨ae,rfl⟩:=p2 aP a8;clear aP a8;by_cases cq:k<g.ops.l.length
 ·by_cases VD:k<=70
  ·obtain⟨o,ap,dd⟩:=bx cq;have aR:IntKind.i64.wrap ((k:Int)+1)=((k+1:Nat) :Int) :=by rw[IntKind.wrap_i64]; omega
   have bN:ck (.ar 11) (bB g.ops) (.int .i64 (k:Int))=some (.b3 (a2 o) 0) :=by simp[bB,ap]
   have au:=alu o;have oT:=i6 o;have bY:(a2 o).length=11:=rfl;have L5:(k:Int)<=70:=by omega
   have lw:k<min g.ops.l.length 71:=by omega
   obtain⟨O,du⟩:∃ O,O=a2 o:=⟨_,rfl⟩
   rw[<-du] at bN au oT bY;simp[dL,cq,VD,L5,bN,bY,avO];refine a6 au (by simp[bd,U.closed,oT]) ?_;by_cases pz:uQ o=true
   ·simp[pz];refine aL (congrArg U.bool ?_) rfl;unfold wM;rw[decide_eq_true ⟨o,avY (i:=k) (by rw[awb (by omega)]; exact ap),pz⟩]; rfl
   ·rw[ayo] at pz;simp[pz,aR];refine⟨by omega,fun j cO ai en=>?_⟩;by_cases gc:j=k
    ·subst gc; rw[ap] at en; obtain rfl:=Option.some.inj en; exact pz
    ·exact ak j cO (by omega) en
  ·have L5:¬ (k:Int)<=70:=by omega
   have aC:¬ ∃ o∈g.ops.l.take 71,uQ o=true:=fun ⟨o,dd,pz⟩=>by
    obtain⟨j,ai⟩:=avT.1 dd;have e7:=(avP.1 ai).1;rw[av1] at e7;rw[awb (by omega)] at ai;rw[ak j o (by omega) ai] at pz; cases pz
   have aV:(16:Int)<(g.ops.l.length:Int) :=by omega
   have a1:¬ (g.ops.l.length:Int)<=60:=by omega
   have a3:(70:Int)<(g.ops.l.length:Int) :=by omega
   simp[dL,fE,cq,VD,L5,aV,a1,a3];refine aL (congrArg U.bool ?_) rfl;unfold wM;simp[show 70<g.ops.l.length by omega]
 ·have aC:¬ ∃ o∈g.ops.l.take 71,uQ o=true:=fun ⟨o,dd,pz⟩=>by
   obtain⟨j,ai⟩:=avT.1 dd;have e7:=(avP.1 ai).1;rw[av1] at e7;rw[awb (by omega)] at ai;rw[ak j o (by omega) ai] at pz; cases pz
  have agF:wM g=(decide (16<g.ops.l.length/\g.ops.l.length<=60)||(decide (70<g.ops.l.length)||decide (70<g.ids.l.length))) :=by
   unfold wM; rw[decide_eq_false aC]; rfl
  rw[agF];have d1:decide ((16:Int)<(g.ops.l.length:Int))=decide (16<g.ops.l.length) :=by rw[decide_eq_decide]; omega
  have d2:decide ((g.ops.l.length:Int)<=60)=decide (g.ops.l.length<=60) :=by rw[decide_eq_decide]; omega
  have d3:decide ((70:Int)<(g.ops.l.length:Int))=decide (70<g.ops.l.length) :=by rw[decide_eq_decide]; omega
  have d4:decide ((70:Int)<(g.ids.l.length:Int))=decide (70<g.ids.l.length) :=by rw[decide_eq_decide]; omega
  by_cases aV:16<g.ops.l.length
  ·have ru:(16:Int)<(g.ops.l.length:Int) :=by omega
   by_cases a1:g.ops.l.length<=60
   ·have yb:(g.ops.l.length:Int)<=60:=by omega
    simp[dL,fE,cq,aV,ru,a1,yb];exact aL rfl rfl
   ·have yb:¬ (g.ops.l.length:Int)<=60:=by omega
    by_cases a3:70<g.ops.l.length
    ·have Cr:(70:Int)<(g.ops.l.length:Int) :=by omega
     simp[dL,fE,cq,aV,ru,a1,yb,a3,Cr];exact aL rfl rfl
    ·have Cr:¬ (70:Int)<(g.ops.l.length:Int) :=by omega
     simp[dL,fE,cq,aV,ru,a1,yb,a3,Cr];exact aL (congrArg U.bool d4) rfl
  ·have ru:¬ (16:Int)<(g.ops.l.length:Int) :=by omega
   have a3:¬ 70<g.ops.l.length:=by omega
   have Cr:¬ (70:Int)<(g.ops.l.length:Int) :=by omega
   simp[dL,fE,cq,aV,ru,a3,Cr];exact aL (congrArg U.bool d4) rfl
def jW (o:bm) :bm:={ o with br:=some o.br.l }
theorem an5 {o:bm} (h:hX o) :hX (jW o) :=⟨h.ids,h.len,h.val,h.key⟩
theorem alO (o:bm) (ap:hX o) :bz Tryz.prog GS 51 [.aH (a2 o)] (.aH (a2 (jW o))) :=by
 refine bL Tryz.checked.mixed bE ?_;apply bp Tryz.func51 [];have az:cy=140737488355328:=rfl;have al:=ap.len;have aw:∀ x∈o.br.l,(aO x).length=32:=fun x af=>cC (ap.ids x af)
 have j4:=Qg (enc:=aO) (by_:=32) [a7.cells 11 (a2 o),a7.cells 11 [.int .u32 0,.aT,.int .u64 0,.int .u8 0,.str [],.int .u8 0,.int .i64 0,.int .u64 0,.str [],.int .u32 0,.int .u32 0]] o.br aw (by omega) (by omega) (by rw[az]; omega);have hm:∀ x:ez,(aK x).cells=some [aK x] :=fun x=>by cases x<;>rfl
 have jF:=eK (some o.br.l);simp only[a2,aK,awa,awu,awN,awI] at j4;simp[a2,aK,j4];refine dp.Db (by exact EN aw rfl rfl) rfl ?_;have ao:U.bQ 32 (o.br.l.map aO)=aK (some o.br.l) :=rfl;simp[ao,hm,bt];exact aL rfl (show (U.aH (a2 (jW o))).closed=true by have:=i6 (jW o); simpa [U.closed] using this)
def m4 (g:bc) :bc:=⟨some g.ids.l,dH (g.ops.l.map jW)⟩
theorem an4 {g:bc} (h:et g) :et (m4 g) :=by
 refine⟨h.ids,fun o ap=>?_,h.li,?_⟩
 ·unfold m4 at ap;simp only[ew] at ap;obtain⟨cO,en,rfl⟩:=awf.1 ap;exact an5 (h.ops cO en)
 ·unfold m4; simp only[ew]; simpa using h.cV
set_option maxHeartbeats 4000000 in
theorem alN (g:bc) (aq:et g) :bz Tryz.prog GS 19 [cl g] (cl (m4 g)) :=by
 refine bL Tryz.checked.mixed bE ?_;apply bp Tryz.func19 [[[0],[1],[2],[3],[4],[5],[6],[7,1]]];have az:cy=140737488355328:=rfl;have dL:cK (.ar 11) (bB g.ops)=some (.int .i64 g.ops.l.length) :=by simp[bB]
 have bn:=aq.cV;have fE:=aq.li;have aw:∀ x∈g.ids.l,(aO x).length=32:=fun x af=>cC (aq.ids x af)
 have j4:=Qg (enc:=aO) (by_:=32) [a7.cells 2 (cP g),a7.cells 2 [.aT,.aT]] g.ids aw (by omega) (by omega) (by rw[az]; omega);have hm:∀ x:ez,(aK x).cells=some [aK x] :=fun x=>by cases x<;>rfl
 have dh:=eK (some g.ids.l);simp only[cP,aK,awa,awu,awN,awI] at j4;simp[cl,cP,aK,j4];refine dp.Db (by exact EN aw rfl rfl) rfl ?_;have ao:U.bQ 32 (g.ids.l.map aO)=aK (some g.ids.l) :=rfl;simp[ao,hm,bt];refine cI g.ops.l.length (fun k ae l=>ae 1=.ptr 0 0 2/\ae 2=.ptr 1 0 2/\ae 3=.ptr 3 0 2/\ae 4=.int .i64 k/\∃ v j rest,l=.cells 2 [aK g.ids,bB g.ops] ::.cells 2 [.aT,.aT] ::.dead::.cells 2 [aK (some g.ids.l),v] ::rest ∧
  bH 11 l v j (((g.ops.l.take k).map jW).map a2)/\(v=.aT\/4<=j)/\cw v=(g.ops.l.take k).isEmpty) ?_ ?_
 ·rintro k ae l hk ⟨aP,aU,a8,bA,v,j,rest,rfl,gK,ai,gQ⟩;obtain⟨ae,rfl⟩:=i0 aP aU a8 bA;clear aP aU a8 bA;by_cases cq:k<g.ops.l.length
  ·obtain⟨o,ap,dd⟩:=bx cq;have aR:IntKind.i64.wrap ((k:Int)+1)=((k+1:Nat) :Int) :=by rw[IntKind.wrap_i64]; omega
   have bN:ck (.ar 11) (bB g.ops) (.int .i64 (k:Int))=some (.b3 (a2 o) 0) :=by simp[bB,ap]
   have au:=alO o (aq.ops o dd);have oT:=i6 o;have bY:(a2 o).length=11:=rfl;have DT:(a2 (jW o)).length=11:=rfl;have ci:g.ops.l.take (k+1)=g.ops.l.take k++[o] :=by rw[av7,ap]; rfl
   obtain⟨aZ,bl,ct,aV,a1,a3,a4⟩:=ux (by_:=112) (pre:=[.cells 2 [aK g.ids,bB g.ops],.cells 2 [.aT,.aT],.dead,.cells 2 [aK (some g.ids.l),v]]) (rest:=rest++[.cells 11 (a2 (jW o))]) (gK.more _) ai (x:=.ar 11 (rest.length+1+1+1+1) 0 1 1 11) (xs:=[a2 (jW o)])
    (by simp[dE,DT,avO]) (by simp[DT]) (by omega) (by omega) (by rw[az]; simp; omega)
   obtain⟨O,du⟩:∃ O,O=a2 o:=⟨_,rfl⟩
   obtain⟨T,bM⟩:∃ T,T=a2 (jW o) :=⟨_,rfl⟩
   rw[<-du] at bN au oT bY;rw[<-bM] at au DT aV a1;have ah6:bt [U.int .u32 0,.aT,.int .u64 0,.int .u8 0,.str [],.int .u8 0,.int .i64 0,.int .u64 0,.str [],.int .u32 0,.int .u32 0] 0 T=T:=eM (by rw[DT]; rfl);have iV:=a1.cells;simp only[awN,awI] at aV;simp[dL,cq,bN,bY,avO];refine a6 au (by simp[bd,U.closed,oT]) ?_;simp[DT,ah6,aV];refine dp.cx ?_;simp[iV,bt,aR];have cJ:List.take (k+1) (List.map (a2 ∘ jW) g.ops.l)=((g.ops.l.take k).map jW).map a2++[T] :=by rw[<-ax6,ci]; simp[bM]
   have fi:cw aZ=false:=by rw[a4]; simp
   have agV:4<=bl:=by
    rcases a3 with h | h
    ·rw[h] at fi; cases fi
    ·simpa using h
   refine⟨cq,bl,?_,.inr agV,by rw[fi,ci]; simp⟩;rw[cJ];refine a1.nZ (.inr ?_);obtain⟨kb,rfl⟩:∃ kb,bl=kb+4:=⟨bl - 4,by omega⟩
   rfl
  ·have ob:k=g.ops.l.length:=by omega
   simp[dL,cq];rw[ob,awi] at gK gQ;have kD:Rd (a7.cells 2 [aK g.ids,bB g.ops] ::a7.cells 2 [aK (some g.ids.l),v] ::a7.dead::a7.cells 2 [aK (some g.ids.l),v] ::rest) v (bB (dH (g.ops.l.map jW))) :=by
    refine (gK.nZ (l':=a7.cells 2 [aK g.ids,bB g.ops] ::a7.cells 2 [aK (some g.ids.l),v] ::a7.dead::a7.cells 2 [aK (some g.ids.l),v] ::rest) ?_).q.ow (fun x=>i6 x) (dH (g.ops.l.map jW)) (by rw[gQ,ua]; simp) (ew _);rcases ai with h | h
    ·exact .inl h
    ·right;obtain⟨kb,rfl⟩:∃ kb,j=kb+4:=⟨j - 4,by omega⟩
     rfl
   refine .aH _ _ rfl fun j c c' ah ei=>?_
   rcases j with _ | _ | j
   ·simp[cl,cP,m4] at ah ei; subst ah ei; exact .same _ dh
   ·simp[cl,cP,m4] at ah ei; subst ah ei; exact kD
   ·simp at ah
 ·simp;exact⟨.aT,⟨rfl,rfl⟩,0,.nil 0,.inl rfl,rfl⟩
def lc (l:List bm) (k:Nat) :bm:=l.getD k ⟨0,none,0,⟨0,[],⟨0,0,0,[]⟩⟩,0,0⟩
theorem sk {l:List bm} {k:Nat} {o:bm} (h:l[k]? = some o) :lc l k=o:=by unfold lc; rw[awe,h]; rfl
structure iE (g:bc) :Prop where
 n60:g.ops.l.length<=60
 len:g.ids.l.length=g.ops.l.length
 jC:∀ (k:Nat) (o:bm) (x:List B),g.ops.l[k]? = some o->g.ids.l[k]? = some x->oG o=0/\cH o=x
 c9:c9 g.ids.l=true
 Iv:∀ o∈g.ops.l,∀ p∈o.br.l,p∈g.ids.l
 all:∀ i,i<g.ops.l.length->pg g.ids.l g.ops.l i
theorem mn {g:bc} (h:ep g=0) :iE g:=by
 unfold ep at h;split at h
 ·cases h
 ·rename_i j2;split at h
  ·rename_i al;split at h
   ·rename_i ek;unfold nD at h;split at h
    ·rename_i az;split at h
     ·rename_i gk;split at h
      ·rename_i oi;refine⟨by omega,al,fun k o x ap af=>?_,az,fun o dd p ay=>?_,(NU al (jP az)).1 oi⟩
       ·have:=(yt g).1 ek k (avP.1 ap).1;rw[Dh ap af,avU,decide_eq_true_eq,decide_eq_true_eq] at this;exact this
       ·exact of_decide_eq_true (of_decide_eq_true gk o dd) p ay
      ·cases h
     ·cases h
    ·cases h
   ·cases h
  ·cases h
def H7 (g:bc) (x:List B) :Int:=if ep g=0 then (if x∈g.ids.l then (hf g.ids.l x:Int) else 0) else 0
def H6 (g:bc) (x:List B) :Int:=if ep g=0 then (if x∈g.ids.l then 0 else 6) else ep g
set_option maxHeartbeats 2000000 in
theorem ajU (g:bc) (aq:et g) (x:List B) (af:x.length=32) :bz Tryz.prog GS 132 [cl g,.aH (aO x)] (.bG [.int .i64 (H7 g x),.int .i64 (H6 g x)]) :=by
 refine bL Tryz.checked.mixed bE ?_;apply bp Tryz.func132 [];unfold H7 H6;have dh:=eK g.ids;have cz:=i7 g.ops;have c0:=zT g aq;have fQ:=e4 x;have bf:=cC af;unfold cl cP at c0;by_cases aD:ep g=0
 ·have V:=mn aD;have ak:=Zr g.ids aq.ids aq.li x af V.c9;obtain⟨X,cv⟩:∃ X,X=aO x:=⟨_,rfl⟩
  rw[<-cv] at ak fQ bf ⊢;rw[aD] at c0;simp[cl,cP,bf,avO];refine a6 c0 (by simp[bd,U.closed,dh,cz]) ?_;simp[bf,avO];refine a6 ak (by simp[bd,U.closed,dh,fQ]) ?_;by_cases hm:x∈g.ids.l
  ·simp[hm,aD];exact aL rfl rfl
  ·simp[hm,aD];exact aL rfl rfl
 ·obtain⟨X,cv⟩:∃ X,X=aO x:=⟨_,rfl⟩
  rw[<-cv] at fQ bf ⊢;simp[cl,cP,bf,avO];refine a6 c0 (by simp[bd,U.closed,dh,cz]) ?_;simp[aD];exact aL rfl rfl
def kg (ids:List (List B)) (seen:List Bool) (k:Nat) :List (List B) :=(List.range k).flatMap fun i=>if seen.getD i false=true then [b0 ids i] else []
theorem Il (ids:List (List B)) (seen:List Bool) (k:Nat) :kg ids seen (k+1)=kg ids seen k++(if seen.getD k false=true then [b0 ids k] else []) :=by
 unfold kg; rw[axq,axB]; simp
theorem Ik (ids:List (List B)) (seen:List Bool) :∀ k,(kg ids seen k).length<=k
 | 0=>by simp[kg]
 | k+1=>by
  have:=Ik ids seen k;rw[Il,avW];split<;>simp<;>omega
theorem XB {ids:List (List B)} {seen:List Bool} {x:List B}:∀ {k:Nat},x∈kg ids seen k<->∃ i,i<k/\seen.getD i false=true/\b0 ids i=x:=by
 intro k;unfold kg;rw[ayO];constructor
 ·rintro⟨i,av,af⟩;split at af
  ·rename_i ak;rw[awd] at af;exact⟨i,aws.1 av,ak,af.symm⟩
  ·cases af
 ·rintro⟨i,av,ak,af⟩;exact⟨i,aws.2 av,by rw[if_pos ak,af]; simp⟩
set_option maxHeartbeats 2000000 in
theorem aj8 (g:bc) (aq:et g) (seen:cQ Bool) (ak:seen.l.length=g.ids.l.length) :bz Tryz.prog GS 89 [cl g,cB 1 iF seen] (aK (dH (kg g.ids.l seen.l seen.l.length))) :=by
 refine bL Tryz.checked.mixed bE ?_;apply bp Tryz.func89 [];have az:cy=140737488355328:=rfl;have fE:=aq.li;have ef:cK (.ar 1) (cB 1 iF seen)=some (.int .i64 seen.l.length) :=q0 _;simp[cl,cP,ef];refine cI seen.l.length (fun k ae l=>ae 1=cB 1 iF seen/\ae 2=.ptr 0 0 2/\ae 8=.int .i64 seen.l.length/\ae 9=.int .i64 k/\∃ j rest,l=.cells 2 [aK g.ids,bB g.ops] ::rest ∧
  bH 32 l (ae 5) j ((kg g.ids.l seen.l k).map aO)/\(ae 5=.aT\/1<=j)/\cw (ae 5)=(kg g.ids.l seen.l k).isEmpty) ?_ ?_
 ·rintro k ae l hk ⟨aP,aU,dj,gJ,j,rest,rfl,gK,ai,gQ⟩;obtain⟨v,bi⟩:∃ v,ae 5=v:=⟨_,rfl⟩
  rw[bi] at gK ai gQ;obtain⟨ae,rfl⟩:=lj aP aU bi dj gJ;clear aP aU bi dj gJ;by_cases cq:k<seen.l.length
  ·obtain⟨b,ag,_⟩:=bx cq;obtain⟨x,af,cE⟩:=bx (l:=g.ids.l) (k:=k) (by omega);have aR:IntKind.i64.wrap ((k:Int)+1)=((k+1:Nat) :Int) :=by rw[IntKind.wrap_i64]; omega
   have bN:ck (.ar 1) (cB 1 iF seen) (.int .i64 (k:Int))=some (.b3 [.bool b] 0) :=by rw[r1]; simp[ag,iF]
   have lv:ck (.ar 32) (aK g.ids) (.int .i64 (k:Int))=some (.b3 (aO x) 0) :=by simp[aK,af]
   have y6:seen.l.getD k false=b:=by rw[awe,ag]; rfl
   have bf:=cC (aq.ids x cE);have l3:=Ik g.ids.l seen.l k;have qS:=Il g.ids.l seen.l k;rw[y6] at qS;cases b with
   | false=>
    simp at qS;simp[cq,bN,aR];rw[qS];exact⟨j,gK,ai,gQ⟩
   | true=>
    rw[if_pos rfl,fL af] at qS;obtain⟨aZ,bl,ct,aV,a1,a3,a4⟩:=ux (by_:=32) (pre:=[.cells 2 [aK g.ids,bB g.ops]]) (rest:=rest++[.cells 32 (aO x)]) (gK.more _) ai (x:=.ar 32 (rest.length+1) 0 1 1 32) (xs:=[aO x])
     (by simp[dE,bf,avO]) (by simp[bf]) (by omega) (by omega) (by rw[az]; simp; omega)
    have cJ:(kg g.ids.l seen.l (k+1)).map aO=(kg g.ids.l seen.l k).map aO++[aO x] :=by rw[qS]; simp
    obtain⟨X,cv⟩:∃ X,X=aO x:=⟨_,rfl⟩
    rw[<-cv] at lv bf aV a1 cJ;have j8:bt (rep 32 (.int .u8 0)) 0 X=X:=eM (by rw[bf]; rfl);simp only[awN,awI] at aV;simp[cq,bN,lv,bf,j8,avO,aV];refine dp.cx ?_;simp[cq,aR];refine⟨bl,by rw[cJ]; exact a1,by simpa using a3,by rw[a4,qS]; simp⟩
  ·have ob:k=seen.l.length:=by omega
   subst ob;simp[cq];exact gK.q.ow (fun x=>e4 x) (dH _) (by rw[gQ,ua]) (ew _)
 ·have aD:kg g.ids.l seen.l 0=[] :=rfl;simp[aD];exact⟨⟨0,.nil 0⟩,rfl⟩
theorem J1:∀ l:List B,fD (l.map bF) (l.map bF)=true
 | []=>rfl
 | x::l=>by
  have h1:U.beq (bF x) (bF x)=true:=by simp[bF,U.beq]
  show (U.beq (bF x) (bF x)&&fD (l.map bF) (l.map bF))=true;rw[h1,J1 l]; rfl
theorem ab5 (x:List B) :U.beq (.aH (aO x)) (.aH (aO x))=true:=J1 x
theorem KJ {x:List B} (h:x.length=32) :lB Tryz.prog 48 (.aH (aO x))=true:=by
 have h1:r6 Tryz.prog 8 48=true:=by kernel_rfl
 have ad:eB Tryz.prog 48=some true:=by kernel_rfl
 have aj:cM Tryz.prog 48=some 32:=by kernel_rfl
 have aE:(x.map bF).all tP=true:=by rw[awG]; intro c ah; obtain⟨b,_,rfl⟩:=awf.1 ah; rfl
 show (r6 Tryz.prog 8 48&&(match eB Tryz.prog 48,cM Tryz.prog 48 with | some true,some m=>Nat.beq (x.map bF).length m | _,_=>false)&&(x.map bF).all tP)=true;rw[h1,ad,aj,aE,av8,h];rfl
theorem Xx:∀ {a b:List B},a.map (fun x=>u x)=b.map (fun x=>u x)<->a=b
 | [],[]=>by simp
 | [],_::_=>by simp
 | _::_,[]=>by simp
 | x::a,y::b=>by
  rw[awn,awn,List.cons.injEq,List.cons.injEq,Xx (a:=a) (b:=b)];simp
theorem adM {a b:List B} (aA:a.length=32) (ag:b.length=32) {D:Nat}:eZ Tryz.prog (D+2) 48 (.aH (aO a)) (.aH (aO b))=some (decide (a=b)) :=by
 have h:=adO (P:=Tryz.prog) (t:=48) (e:=5) (k:=.u8) (n:=32) (by kernel_rfl) (by kernel_rfl) (by kernel_rfl) (by kernel_rfl) (x:=a.map fun x=>u x) (y:=b.map fun x=>u x) (by simp[aA]) (by simp[ag]) (D:=D);rw[axD,axD] at h;unfold aO;rw[show a.map bF=a.map (U.int .u8 ∘ fun x=>u x) from rfl,show b.map bF=b.map (U.int .u8 ∘ fun x=>u x) from rfl,h];simp only[Xx]
inductive sH:Nat->List (U × U × Nat)->List (List B)->Prop
 | nil (b:Nat) :sH b [] []
 | cons {b:Nat} {es:List (U × U × Nat)} {bT:List (List B)} {k:List B} (n:Nat) (hk:k.length=32) (h:sH (b+1) es bT) :sH b ((.aH (aO k),.int .i64 (b:Int),n) ::es) (k::bT)
theorem sH.len {b:Nat} {es:List (U × U × Nat)} {bT:List (List B)} (h:sH b es bT) :es.length=bT.length:=by induction h<;>simp_all
theorem sH.snoc {b:Nat} {es:List (U × U × Nat)} {bT:List (List B)} (h:sH b es bT) {k:List B} (hk:k.length=32) (n:Nat) :sH b (es++[(.aH (aO k),.int .i64 ((b+bT.length:Nat) :Int),n)]) (bT++[k]) :=by
 induction h with
 | nil b=>exact .cons n hk (.nil _)
 | @cons b es bT k' m fe h aJ=>
  refine .cons m fe ?_;rw[show b+1+bT.length=b+(k'::bT).length by simp; omega] at aJ;exact aJ
theorem TI {x:List B} (af:x.length=32) {b:Nat} {es:List (U × U × Nat)} {bT:List (List B)} (h:sH b es bT) :∀ c,(∀ i,bT[i]? = some x->(∀ j,j<i->bT[j]?≠some x)->j1 Tryz.prog 48 (.aH (aO x)) es c=some (some (c+i,.int .i64 ((b+i:Nat) :Int))))/\(x∉bT->j1 Tryz.prog 48 (.aH (aO x)) es c=some none) :=by
 induction h with
 | nil b=>intro c; exact⟨fun i h=>by simp at h,fun _=>rfl⟩
 | @cons b es bT k n hk h aJ=>
  intro c;unfold j1;rw[KJ hk];simp only;rw[show eZ Tryz.prog 10000 48 (.aH (aO x)) (.aH (aO k))=some (decide (x=k)) from adM af hk (D:=9998)];by_cases ao:x=k
  ·subst ao;simp only[decide_true,ab5];refine⟨fun i av dM=>?_,fun h=>absurd (by simp) h⟩;cases i with
   | zero=>rfl
   | succ i=>exact absurd rfl (dM 0 (by omega))
  ·simp only[ao,decide_false];obtain⟨h1,ad⟩:=aJ (c+1);refine⟨fun i av dM=>?_,fun h=>ad (fun h'=>h (by simp[h']))⟩;cases i with
   | zero=>simp at av; exact absurd av.symm ao
   | succ i=>
    rw[h1 i (by simpa using av) (fun j ai=>by have:=dM (j+1) (by omega); simpa using this)];rw[show c+1+i=c+(i+1) by omega,show b+1+i=b+(i+1) by omega]
structure nK (l:am) (j:Nat) (bT:List (List B)) :Prop where
 e:∃ es eX,l[j]? = some (.map es eX)/\sH 0 es bT
theorem nK.look {l:am} {j:Nat} {bT:List (List B)} (h:nK l j bT) (ai:hW bT) {x:List B} (af:x.length=32) {i:Nat} (av:bT[i]? = some x) :xm Tryz.prog l 48 (.int .i64 0) false (.mp j) (.aH (aO x))=some (.int .i64 (i:Int)) :=by
 obtain⟨es,eX,h1,ad⟩:=h.e;have aj:tC l (.mp j)=some es:=by simp[tC,h1]
 unfold xm;rw[aj];simp only[KJ af];rw[(TI af ad 0).1 i av (fun t aI aG=>by have:=ai t i x aG av; omega)];simp
theorem nK.put {l:am} {j:Nat} {bT:List (List B)} (h:nK l j bT) {x:List B} (af:x.length=32) (aC:x∉bT) :∃ c,tD Tryz.prog l 48 (.mp j) (.aH (aO x)) (.int .i64 (bT.length:Int))=some (l.set j c)/\(∀ l' : am,l'[j]? = some c->nK l' j (bT++[x])) :=by
 obtain⟨es,eX,h1,ad⟩:=h.e;unfold tD;simp only[h1,KJ af,(TI af ad 0).2 aC];exact⟨_,rfl,fun l' dr=>⟨_,_,dr,by have:=ad.snoc af eX; rw[axa] at this; exact this⟩⟩
theorem nK.frame {l l' : am} {j:Nat} {bT:List (List B)} (h:nK l j bT) (ai:l'[j]? = l[j]?) :nK l' j bT:=by
 obtain⟨es,eX,h1,ad⟩:=h.e;exact⟨es,eX,by rw[ai,h1],ad⟩
theorem nK.lt {l:am} {j:Nat} {bT:List (List B)} (h:nK l j bT) :j<l.length:=by
 obtain⟨es,eX,h1,ad⟩:=h.e;exact (avP.1 h1).1
theorem aj3 {P:Program} {aB:Operand->U} {l:am} {o:Operand} {k:IntKind} {n:Int} (h:aB o=.int k n) :bU P aB l (.vv (some o))=some (.mp l.length,l++[.map [] 0]) :=by
 show (match asInt (aB o) with | some _=>some (U.mp l.length,l++[a7.map [] 0]) | none=>none)=_;rw[h]; rfl
set_option maxHeartbeats 2000000 in
theorem Yc (g:bc) (aq:et g) (ai:hW g.ids.l) {l:am} {K:U->am->Prop} (aY:∀ j l',nK l' j g.ids.l->l.length<=j->(∀ c,c<l.length->l'[c]? = l[c]?)->l.length<=l'.length->K (.mp j) l') :
  c7 Tryz.prog GS 88 [cl g] l (c:=⟨K⟩) :=by
 apply bp Tryz.func88 [];have fE:=aq.li;have ef:cK (.ar 32) (aK g.ids)=some (.int .i64 g.ids.l.length) :=by simp[aK]
 simp[cl,cP,ef];rw[aj3 (k:=.i64) (n:=g.ids.l.length) (by simp)];simp[ef];refine cI g.ids.l.length (fun k ae l'=>ae 3=.mp (l.length+1)/\ae 11=aK g.ids/\ae 12=.int .i64 g.ids.l.length/\ae 13=.int .i64 k/\nK l' (l.length+1) (g.ids.l.take k)/\(∀ c,c<l.length->l'[c]? = l[c]?)) ?_ ?_
 ·rintro k ae l' hk ⟨a8,ip,gX,kx,mJ,kW⟩;obtain⟨ae,rfl⟩:=i0 a8 ip gX kx;clear a8 ip gX kx;by_cases cq:k<g.ids.l.length
  ·obtain⟨x,af,cE⟩:=bx cq;have aR:IntKind.i64.wrap ((k:Int)+1)=((k+1:Nat) :Int) :=by rw[IntKind.wrap_i64]; omega
   have lv:ck (.ar 32) (aK g.ids) (.int .i64 (k:Int))=some (.b3 (aO x) 0) :=by simp[aK,af]
   have ji:=aq.ids x cE;have bf:=cC ji;have ci:g.ids.l.take (k+1)=g.ids.l.take k++[x] :=by rw[av7,af]; rfl
   have dM:x∉g.ids.l.take k:=fun hm=>by
    obtain⟨t,aI⟩:=avT.1 hm;have md:=(avP.1 aI).1;rw[av1] at md;rw[awb (by omega)] at aI;have:=ai t k x aI af; omega
   have aM:=mJ.lt;have afy:nK (l'++[.cells 32 (aO x)]) (l.length+1) (g.ids.l.take k) :=mJ.frame (avQ aM);obtain⟨c,cZ,dJ⟩:=afy.put ji dM;have hS:(g.ids.l.take k).length=k:=by rw[av1]; omega
   rw[hS] at cZ;obtain⟨X,cv⟩:∃ X,X=aO x:=⟨_,rfl⟩
   rw[<-cv] at lv bf cZ;have j8:bt (rep 32 (.int .u8 0)) 0 X=X:=eM (by rw[bf]; rfl);simp[cq,lv,bf,j8,avO,cZ,aR];refine⟨?_,fun c' ei=>?_⟩
   ·rw[ci];exact dJ _ (by rw[av3 (by simp; omega)])
   ·rw[av0 (by omega),avQ (by omega)];exact kW c' ei
  ·have ob:k=g.ids.l.length:=by omega
   rw[ob,awi] at mJ;simp[cq];exact aY _ _ mJ (by omega) kW (by have:=mJ.lt; omega)
 ·simp;refine⟨⟨[],0,by simp,.nil 0⟩,fun c ah=>by rw[avQ ah]⟩
end Op

end Go.cb

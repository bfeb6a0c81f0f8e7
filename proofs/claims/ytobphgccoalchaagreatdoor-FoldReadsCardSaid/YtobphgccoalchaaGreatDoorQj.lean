/-
  Graphs: ids looked for, in both texts.
-/
import Derived.Test.YtobphgccoalchaaGreatDoorQi
set_option linter.unusedVariables false
set_option linter.unusedSimpArgs false
set_option linter.unnecessarySimpa false
namespace Go.b2
open Go Go.Proofs
set_option maxRecDepth 100000
namespace Op
open gh
theorem WJ (s:fq) (ap:h0 s) (ak:s.l.length<=1000000) (x:List B) (af:x.length=32) :bw Tryz.prog GS 75 [aU s,.aM (aR x)] (.int .i64 (hW x s.l 0)) :=by
 refine bP Tryz.checked.mixed bC ?_;apply bj Tryz.func75 [];simp[aU];refine cF s.l.length (fun k ae l=>l=[.cells 32 (aR x)]/\ae 0=cK 32 aR s/\ae 3=.ptr 0 0 32/\ae 5=.int .i64 k/\∀ (j:Nat) (z:List B),j<k->s.l[j]? = some z->z≠x) ?_ (by simp[aU,cQ af]);rintro k ae l hk ⟨rfl,b8,a8,bc,al⟩;obtain⟨ae,rfl⟩:=kq b8 a8 bc;clear b8 a8 bc;simp;refine kk (fun h=>?_) (fun h=>?_)
 ·simp only[decide_eq_true_eq] at h;obtain⟨y,az,cO⟩:=bA (l:=s.l) (k:=k) (by omega);have aQ:IntKind.i64.wrap ((k:Int)+1)=((k+1:Nat) :Int) :=by rw[IntKind.wrap_i64]; omega
  simp[az,cQ (ap y cO),cQ af,atr,Lh (ap y cO) af];by_cases ao:y=x
  ·have fa:=yg (n:=0) az al ao;simp[ao];exact aP (by rw[fa]; simp) rfl
  ·simp[ao,aQ];refine⟨by omega,fun j z ai aw=>?_⟩;by_cases fQ:j=k
   ·subst fQ; rw[az] at aw; obtain rfl:=Option.some.inj aw; exact fun h=>ao h
   ·exact al j z (by omega) aw
 ·simp[h];have jj:k=s.l.length:=by simp at h; omega
  exact aP (by rw[Gt fun j z aw=>al j z (by rw[jj]; exact (atq.1 aw).1) aw]) rfl
def l4 (l cE:List (List B)) :Bool:=decide (∀ p∈cE,p∈l)
theorem My (s:fq) (ap:h0 s) (ak:s.l.length<=1000000) (t:fq) (aI:h0 t) (la:t.l.length<=1000000) :bw Tryz.prog GS 80 [aU s,aU t] (.bool (l4 s.l t.l)) :=by
 refine bP Tryz.checked.mixed bC ?_;apply bj Tryz.func80 [];have ce:=gM s;have aK:cP (.au 32) (aU t)=some (.int .i64 t.l.length) :=by simp[aU]
 simp;refine cF t.l.length (fun k ae l=>ae 0=aU s/\ae 1=aU t/\ae 5=.int .i64 k/\∀ (j:Nat) (z:List B),j<k->t.l[j]? = some z->z∈s.l) ?_ (by simp);rintro k ae l hk ⟨b8,aL,bc,al⟩;obtain⟨ae,rfl⟩:=kq b8 aL bc;clear b8 aL bc;by_cases cI:k<t.l.length
 ·obtain⟨y,az,cO⟩:=bA cI;have aQ:IntKind.i64.wrap ((k:Int)+1)=((k+1:Nat) :Int) :=by rw[IntKind.wrap_i64]; omega
  have cc:cj (.au 32) (aU t) (.int .i64 (k:Int))=some (.b6 (aR y) 0) :=by simp[aU,az]
  have nR:=g6 y;have fK:=WJ s ap ak y (aI y cO);have cx:=cQ (aI y cO);have Ud:=yh y s.l 0;obtain⟨Y,ev⟩:∃ Y,Y=aR y:=⟨_,rfl⟩
  rw[<-ev] at cc nR fK cx;simp[aK,cI,cc,cx,atr];refine bf fK (by simp[bm,U.closed,ce,nR]) ?_;by_cases hm:y∈s.l
  ·have ad:¬ hW y s.l 0<0:=by have:=Ud.2 hm; omega
   simp[ad,cI,aQ];intro j z ai aw;by_cases fQ:j=k
   ·subst fQ; rw[az] at aw; obtain rfl:=Option.some.inj aw; exact hm
   ·exact al j z (by omega) aw
  ·have ad:hW y s.l 0<0:=by
    rcases Int.lt_or_le (hW y s.l 0) 0 with h | h
    ·exact h
    ·exact absurd (Ud.1 h) hm
   simp[ad];exact aP (congrArg U.bool (decide_eq_false fun h=>hm (h y cO)).symm) rfl
 ·have jj:k=t.l.length:=by omega
  simp[aK,cI];refine aP (congrArg U.bool (decide_eq_true fun p ay=>?_).symm) rfl;obtain⟨j,ai⟩:=atx.1 ay;exact al j p (by rw[jj]; exact (atq.1 ai).1) ai
theorem yF {l:List (List B)} (h:dN l=true) :∀ {i j:Nat} {a b:List B},i<j->l[i]? = some a->l[j]? = some b->cl a b<0:=by
 have aE:=of_decide_eq_true h;intro i j
 induction j with
 | zero=>intro a b ho; omega
 | succ j aH=>
  intro a b ho aB ag;have eO:=(atq.1 ag).1;have h1:=aE (j+1) eO (by omega);obtain⟨c,ah,_⟩:=bA (l:=l) (k:=j) (by omega);rw[show j+1 - 1=j by omega,fr ah,fr ag] at h1;by_cases aep:i=j
  ·subst aep;rw[aB] at ah;obtain rfl:=Option.some.inj ah;exact h1
  ·exact xc _ _ _ (aH (by omega) aB ah) h1
theorem ajN {l:List (List B)} (h:dN l=true) {i j:Nat} {a:List B} (aB:l[i]? = some a) (ag:l[j]? = some a) :i=j:=by
 rcases auz i j with h1 | h1 | h1
 ·have:=yF h h1 aB ag; rw[qH] at this; omega
 ·exact h1
 ·have:=yF h h1 ag aB; rw[qH] at this; omega
def tE (l:List (List B)) (x:List B) :Nat:=(l.takeWhile fun t=>decide (cl t x<0)).length
theorem IQ (x:List B) :∀ {l:List (List B)} {p:Nat},p<=l.length->(∀ (t:Nat) (y:List B),t<p->l[t]? = some y->cl y x<0)->(∀ y,l[p]? = some y->¬ cl y x<0)->tE l x=p
 | [],p,ay,_,_=>by simp at ay; subst ay; rfl
 | y::l,0,_,_,ad=>by
  have:=ad y (by simp);unfold tE;rw[au1,decide_eq_false this]; rfl
 | y::l,p+1,ay,h1,ad=>by
  have az:=h1 0 y (by omega) (by simp);have aH:=IQ x (l:=l) (p:=p) (by simpa using ay) (fun t z aI aw=>h1 (t+1) z (by omega) (by simpa using aw)) (fun z aw=>ad z (by simpa using aw));unfold tE at aH ⊢;rw[au1,decide_eq_true az];simpa using aH
theorem aki (n:Nat) (h:n<9223372036854775808) :cm .shr .u64 (n:Int) .u64 1=some (.int .u64 ((n / 2:Nat) :Int)) :=by
 have:=tz (BitVec.ofNat 64 n) .u64 1;have aJ:(u (BitVec.ofNat 64 n) :Int)=n:=by unfold u; rw[atK,atD (by omega)]
 have aq:(u (BitVec.ofNat 64 n >>> 1) :Int)=((n / 2:Nat) :Int) :=by
  unfold u; rw[auf,atK,atD (by omega),atR]
 rw[aJ,aq] at this;exact this
structure YN (s:fq) (X:List U) (x:List B) (m:Nat) (ae:a7) (l:am) :Prop where
 ex:∃ (i j:Nat),j - i=m/\i<=j/\j<=s.l.length/\l=[.cells 32 X]/\ae 0=aU s/\ae 2=.fn 149 [] []/\ae 4=.ptr 0 0 32/\ae 8=.int .i64 s.l.length/\ae 9=.int .i64 i/\ae 10=.int .i64 j ∧
  (∀ (t:Nat) (y:List B),t<i->s.l[t]? = some y->cl y x<0)/\(∀ (t:Nat) (y:List B),j<=t->s.l[t]? = some y->¬ cl y x<0)
theorem Xp (s:fq) (ap:h0 s) (ak:s.l.length<=1000000) (x:List B) (af:x.length=32) (hm:dN s.l=true) :
  bw Tryz.prog GS 164 [aU s,.aM (aR x),.fn 149 [] []] (.bG [.int .i64 (tE s.l x),.bool (decide (x∈s.l))]) :=by
 refine bP Tryz.checked.mixed bC ?_;apply bj Tryz.func164 [];have bh:cP (.au 32) (aU s)=some (.int .i64 s.l.length) :=by simp[aU]
 have bn:=cQ af;have q6:=g6 x;have hR:∀ y∈s.l,bw Tryz.prog GS 149 [.aM (aR y),.aM (aR x)] (.int .i64 (cl y x)) :=fun y az=>zl y x (ap y az) af
 obtain⟨X,cT⟩:∃ X,X=aR x:=⟨_,rfl⟩
 rw[<-cT] at bn q6 hR ⊢;simp[bh];refine wj (YN s X x) ?_ s.l.length _ _ ⟨0,s.l.length,by omega,by omega,by omega,by simp[bn],by simp,by simp,by simp[bn],by simp,by simp,by simp,fun t y h=>by omega,fun t y h ad=>by rw[atG h] at ad; cases ad⟩;rintro m ae l ⟨i,j,fD,ho,eO,rfl,b8,aT,bu,eu,hn,gc,h1,ad⟩;obtain⟨ae,rfl⟩:=AZ b8 aT bu eu hn gc;clear b8 aT bu eu hn gc;by_cases aK:i<j
 ·obtain⟨h,aG⟩:∃ h,h=(i+j) / 2:=⟨_,rfl⟩
  have bW:IntKind.i64.wrap ((i:Int)+j)=((i+j:Nat) :Int) :=by rw[IntKind.wrap_i64]; omega
  have w2:IntKind.u64.wrap ((i+j:Nat) :Int)=((i+j:Nat) :Int) :=by rw[wX,auX]; unfold u; rw[atK,atD (by omega)]
  have ef:=aki (i+j) (by omega);have ph:IntKind.i64.wrap (h:Int)=(h:Int) :=by rw[IntKind.wrap_i64]; omega
  have te:IntKind.i64.wrap ((h:Int)+1)=((h+1:Nat) :Int) :=by rw[IntKind.wrap_i64]; omega
  have iX:(i:Int)<(j:Int) :=by omega
  rw[<-aG] at ef;obtain⟨y,az,cO⟩:=bA (l:=s.l) (k:=h) (by omega);have cx:=cQ (ap y cO);have CX:=g6 y;have cc:cj (.au 32) (aU s) (.int .i64 (h:Int))=some (.b6 (aR y) 0) :=by simp[aU,az]
  have nR:=hR y cO;obtain⟨Y,ev⟩:∃ Y,Y=aR y:=⟨_,rfl⟩
  rw[<-ev] at cx CX cc nR;obtain⟨N,fj⟩:∃ N,N=i+j:=⟨_,rfl⟩
  rw[<-fj] at bW w2 ef;simp[aK,bW,w2,ef,ph,cc,cx,bn,atr];refine⟨Jf,bf nR (by simp[bm,U.closed,CX,q6]) ?_⟩;by_cases bt:cl y x<0
  ·simp[bt,te];refine⟨j - (h+1),by omega,h+1,j,rfl,by omega,by omega,by simp,by simp,by simp,by simp,by simp,by simp,by simp,fun t z aI aw=>?_,ad⟩;by_cases K3:t=h
   ·subst K3; rw[az] at aw; obtain rfl:=Option.some.inj aw; exact bt
   ·exact xc _ _ _ (yF hm (by omega) aw az) bt
  ·simp[bt];refine⟨h - i,by omega,i,h,rfl,by omega,by omega,by simp,by simp,by simp,by simp,by simp,by simp,by simp,h1,fun t z aI aw dq=>bt ?_⟩;by_cases K3:t=h
   ·subst K3; rw[az] at aw; obtain rfl:=Option.some.inj aw; exact dq
   ·exact xc _ _ _ (yF hm (by omega) az aw) dq
 ·have iX:¬ (i:Int)<(j:Int) :=by omega
  obtain rfl:i=j:=by omega
  have ah:=IQ x (l:=s.l) (p:=i) eO h1 (fun y az=>ad i y (att _) az);have kG:∀ {y:List B},s.l[i]? = some y->(y=x<->x∈s.l) :=fun {y} az=>by
   constructor
   ·rintro rfl; exact atz az
   ·intro CV;obtain⟨t,aI⟩:=atx.1 CV;rcases auz t i with aj | aj | aj
    ·have:=h1 t x aj aI; rw[qH] at this; omega
    ·subst aj; rw[az] at aI; exact Option.some.inj aI
    ·exact absurd (yF hm aj az aI) (ad i y (att _) az)
  by_cases du:i<s.l.length
  ·have aeq:(i:Int)<(s.l.length:Int) :=by omega
   obtain⟨y,az,cO⟩:=bA (l:=s.l) (k:=i) du;have cx:=cQ (ap y cO);have CX:=g6 y;have cc:cj (.au 32) (aU s) (.int .i64 (i:Int))=some (.b6 (aR y) 0) :=by simp[aU,az]
   have nR:=hR y cO;have J7:cl y x=0<->x∈s.l:=by
    rw[<-kG az];exact⟨zk,fun h=>by rw[h]; exact qH _⟩
   obtain⟨Y,ev⟩:∃ Y,Y=aR y:=⟨_,rfl⟩
   rw[<-ev] at cx CX cc nR;simp[du,cc,cx,bn,atr];refine⟨Jf,bf nR (by simp[bm,U.closed,CX,q6]) ?_⟩;simp;refine aP ?_ rfl;rw[ah];simp[J7]
  ·have aeq:¬ (i:Int)<(s.l.length:Int) :=by omega
   simp[du];refine aP ?_ rfl;have dF:¬ x∈s.l:=fun CV=>by
    obtain⟨t,aI⟩:=atx.1 CV;have:=h1 t x (by have:=(atq.1 aI).1; omega) aI;rw[qH] at this; omega
   rw[ah,decide_eq_false dF]
theorem EF {l:List (List B)} (hm:dN l=true) {k:Nat} {x:List B} (h:l[k]? = some x) :tE l x=k:=
 IQ x (avv (atq.1 h).1) (fun t y aI az=>yF hm aI az h) (fun y az=>by rw[h] at az; obtain rfl:=Option.some.inj az; rw[qH]; omega)
structure bg where
 ids:fq
 ops:dR bp
def b4 (s:dR bp) :U:=cK 11 bl s
def dS (g:bg) :List U:=[aU g.ids,b4 g.ops]
def db (g:bg) :U:=.aM (dS g)
structure fG (g:bg) :Prop where
 ids:h0 g.ids
 ops:∀ o∈g.ops.l,lZ o
 li:g.ids.l.length<=1000000
 cN:g.ops.l.length<=1000000
theorem mU (s:dR bp) :(b4 s).closed=true:=vj pA s
theorem aaD (g:bg) :bm (dS g)=true:=by have:=gM g.ids; have:=mU g.ops; simp[dS,bm, *]
theorem EE (g:bg) :(db g).closed=true:=by simp[db,U.closed,aaD]
def cU (ops:List bp) (i:Nat) :List (List B) :=match ops[i]? with | some o=>o.bo.l | none=>[]
theorem my {ops:List bp} {i:Nat} {o:bp} (h:ops[i]? = some o) :cU ops i=o.bo.l:=by unfold cU; rw[h]
inductive pm (ids:List (List B)) (ops:List bp) :Nat->Prop
 | mk (i:Nat) (av:i<ids.length) (ay:∀ p∈cU ops i,p∈ids) (ar:∀ p∈cU ops i,∀ j,ids[j]? = some p->pm ids ops j) :pm ids ops i
theorem pm.lt {ids:List (List B)} {ops:List bp} {i:Nat} (h:pm ids ops i) :i<ids.length:=by cases h; assumption
def iw (ids:List (List B)) :Prop:=∀ (i j:Nat) (x:List B),ids[i]? = some x->ids[j]? = some x->i=j
theorem nl {ids:List (List B)} (h:dN ids=true) :iw ids:=fun _ _ _ h1 ad=>ajN h h1 ad
theorem uP:∀ {a b:List Nat},a.Nodup->(∀ x∈a,x∈b)->a.length<=b.length
 | [],_,_,_=>auy _
 | x::a,b,aC,al=>by
  rw[avF] at aC;have af:=al x (by simp);have aH:=uP (b:=b.erase x) aC.2 (fun y az=>(List.mem_erase_of_ne (fun e=>aC.1 (by rw[<-e]; exact az))).2 (al y (by simp[az])));rw[awr af] at aH;have:=List.length_pos_of_mem af;simp; omega
def tA (ids:List (List B)) (ops:List bp) (out:List Nat) (i:Nat) :Bool:=decide (i∉out)&&l4 (out.map (bV ids)) (cU ops i)
def ll (ids:List (List B)) (ops:List bp) (out:List Nat) :Option Nat:=(List.range ops.length).find? (tA ids ops out)
def fZ (ids:List (List B)) (ops:List bp) :Nat->List Nat
 | 0=>[]
 | k+1=>match ll ids ops (fZ ids ops k) with | some i=>fZ ids ops k++[i] | none=>fZ ids ops k
def sT (ids:List (List B)) (ops:List bp) :List Nat:=fZ ids ops ops.length
theorem ah1 {ids:List (List B)} {ops:List bp} {out:List Nat} {i:Nat} (h:ll ids ops out=some i) :i<ops.length/\i∉out/\∀ p∈cU ops i,p∈out.map (bV ids) :=by
 have h1:=List.find?_some h;have ad:=awh h;unfold tA at h1;rw[atv,decide_eq_true_eq] at h1;exact⟨at4.1 ad,h1.1,of_decide_eq_true h1.2⟩
theorem ah0 {ids:List (List B)} {ops:List bp} {out:List Nat} (h:ll ids ops out=none) {i:Nat} (av:i<ops.length) (ap:i∉out) :¬ ∀ p∈cU ops i,p∈out.map (bV ids) :=by
 intro aG;have:=List.find?_eq_none.1 h i (at4.2 av);apply this;unfold tA;rw[atv];exact⟨decide_eq_true ap,decide_eq_true aG⟩
theorem ahY {ids:List (List B)} {ops:List bp} {out:List Nat} {i:Nat} (av:i<ops.length) (h:tA ids ops out i=true) (ag:∀ j,j<i->tA ids ops out j=false) :ll ids ops out=some i:=by
 unfold ll;rw[List.find?_range_eq_some];exact⟨h,by simpa using av,fun j ai=>by rw[ag j ai]; rfl⟩
theorem ahZ {ids:List (List B)} {ops:List bp} {out:List Nat} (ag:∀ j,j<ops.length->tA ids ops out j=false) :ll ids ops out=none:=by
 unfold ll;rw[List.find?_eq_none];intro j ai;rw[ag j (at4.1 ai)]; simp
theorem Mc {ids:List (List B)} {ops:List bp} {k i:Nat} (h:ll ids ops (fZ ids ops k)=some i) :fZ ids ops (k+1)=fZ ids ops k++[i] :=by
 show (match ll ids ops (fZ ids ops k) with | some i=>fZ ids ops k++[i] | none=>fZ ids ops k)=_;rw[h]
theorem V8 {ids:List (List B)} {ops:List bp} {k:Nat} (h:ll ids ops (fZ ids ops k)=none) :fZ ids ops (k+1)=fZ ids ops k:=by
 show (match ll ids ops (fZ ids ops k) with | some i=>fZ ids ops k++[i] | none=>fZ ids ops k)=_;rw[h]
theorem Dv (ids:List (List B)) (ops:List bp) (aC:ids.length=ops.length) (ai:iw ids) :∀ k,(fZ ids ops k).Nodup/\(fZ ids ops k).length<=k/\∀ i∈fZ ids ops k,i<ops.length/\pm ids ops i
 | 0=>⟨awC,att _,fun i av=>by cases av⟩
 | k+1=>by
  obtain⟨h1,ad,aj⟩:=Dv ids ops aC ai k;cases af:ll ids ops (fZ ids ops k) with
  | none=>rw[V8 af]; exact⟨h1,by omega,aj⟩
  | some i=>
   rw[Mc af];obtain⟨aS,aX,a3⟩:=ah1 af;refine⟨?_,by simp; omega,fun j vL=>?_⟩
   ·rw[auD];refine⟨h1,by simp,fun x af y az e=>?_⟩;rw[atM] at az;subst e;rw[az] at af;exact aX af
   ·rw[atQ,atM] at vL;rcases vL with vL | rfl
    ·exact aj j vL
    ·have fK:∀ t,t<ids.length->ids[t]? = some (bV ids t) :=fun t aI=>by
      obtain⟨x,af,_⟩:=bA (l:=ids) aI;rw[af,fr af]
     refine⟨aS,.mk j (by omega) (fun p ay=>?_) fun p ay iZ fC=>?_⟩
     ·obtain⟨t,aI,rfl⟩:=atV.1 (a3 p ay);exact atz (fK t (by have:=(aj t aI).1; omega))
     ·obtain⟨t,aI,rfl⟩:=atV.1 (a3 p ay);obtain⟨dM,dy⟩:=aj t aI;rw[ai iZ t _ fC (fK t (by omega))];exact dy
theorem Mb {ids:List (List B)} {ops:List bp} {k:Nat} (h:ll ids ops (fZ ids ops k)=none) :∀ m,fZ ids ops (k+m)=fZ ids ops k
 | 0=>rfl
 | m+1=>by
  have aH:=Mb h m;rw[<-au4,V8 (by rw[aH]; exact h),aH]
theorem VS {n:Nat} {l:List Nat} (aC:l.Nodup) (ak:l.length=n) (ag:∀ i∈l,i<n) :∀ i,i<n->i∈l:=by
 intro i av;apply Classical.byContradiction;intro dF;have:=uP (a:=i::l) (b:=List.range n) (avF.2 ⟨dF,aC⟩) (fun x af=>by
  rw[aub] at af;rcases af with rfl | af
  ·exact at4.2 av
  ·exact at4.2 (ag x af))
 simp[ak] at this;omega
theorem V9 {ids:List (List B)} {ops:List bp} (aC:ids.length=ops.length) (ai:iw ids) :(sT ids ops).length=ops.length<->∀ i,i<ops.length->pm ids ops i:=by
 obtain⟨h1,ad,aj⟩:=Dv ids ops aC ai ops.length;constructor
 ·intro h i av;exact (aj i (VS h1 h (fun i av=>(aj i av).1) i av)).2
 ·intro h;have oJ:∀ k,k<=ops.length->(fZ ids ops k).length=k\/∃ m,m<=k/\ll ids ops (fZ ids ops m)=none:=by
   intro k
   induction k with
   | zero=>intro _; exact .inl rfl
   | succ k aH=>
    intro hk;rcases aH (by omega) with aF | ⟨m,hm,aF⟩
    ·cases af:ll ids ops (fZ ids ops k) with
     | none=>exact .inr ⟨k,by omega,af⟩
     | some i=>left; rw[Mc af]; simp[aF]
    ·exact .inr ⟨m,by omega,aF⟩
  rcases oJ ops.length (att _) with aF | ⟨m,hm,aF⟩
  ·exact aF
  ·have cw:fZ ids ops ops.length=fZ ids ops m:=by
    have:=Mb aF (ops.length - m)
    rwa [show m+(ops.length - m)=ops.length by omega] at this
   have eC:∀ i,pm ids ops i->i<ops.length->i∈fZ ids ops m:=by
    intro i ar
    induction ar with
    | mk i av ay ar aH=>
     intro aK;apply Classical.byContradiction;intro dF;refine ah0 aF aK dF fun p p1=>?_
     obtain⟨j,jO⟩:=atx.1 (ay p p1);exact atV.2 ⟨j,aH p p1 j jO (by have:=(atq.1 jO).1; omega),fr jO⟩
   show (fZ ids ops ops.length).length=ops.length;rw[cw];have aW:=uP (a:=List.range ops.length) (b:=fZ ids ops m) aws fun i av=>eC i (h i (at4.1 av)) (at4.1 av)
   rw[List.length_range] at aW;rw[cw] at ad;omega
theorem abT (g:bg) (ar:fG g) (ax:dN g.ids.l=true) (x:List B) (af:x.length=32) :bw Tryz.prog GS 114 [db g,.aM (aR x)] (.bG [.int .i64 (tE g.ids.l x),.bool (decide (x∈g.ids.l))]) :=by
 refine bP Tryz.checked.mixed bC ?_;apply bj Tryz.func114 [];have eN:=gM g.ids;have dj:=mU g.ops;have iA:=g6 x;have bn:=cQ af;have al:=Xp g.ids ar.ids ar.li x af ax;obtain⟨X,cT⟩:∃ X,X=aR x:=⟨_,rfl⟩
 rw[<-cT] at al iA bn ⊢;simp[db,dS,bn,atr];refine bf al (by simp[bm,U.closed,eN,iA]) ?_;simp;exact aP rfl rfl
def hj (n:Nat) :List U:=[.int .i64 (n:Int)]
def h7 (b:Bool) :List U:=[.bool b]
def fp {α:Type} (l:List α) :dR α:=match l with | []=>none | x::r=>some (x::r)
theorem gQ {α:Type} (l:List α) :(fp l).l=l:=by cases l<;>rfl
theorem uQ {α:Type} (l:List α) :(fp l).isNone=l.isEmpty:=by cases l<;>rfl
def I6 (l:dR Nat) :U:=cK 1 hj l
theorem MH {α:Type} (zero:U) (n:Nat) :dk [zero] n=List.replicate n zero:=by
 rw[Hr]
 induction n with
 | zero=>rfl
 | succ n aH=>rw[aus,aup,aH,aus]; rfl
theorem Dj {z by_ n:Nat} {k k' : IntKind} {zero:List U} {l:am} (aw:zero.length=z) (h1:n<9223372036854775808) (ad:by_*n<=ct) :
  rq z by_ zero l (.int k (n:Int)) (.int k' (n:Int))=some (.au z l.length 0 n n (n*z),l++[.cells (n*z) (dk zero n)])/\bJ z (l++[.cells (n*z) (dk zero n)]) (.au z l.length 0 n n (n*z)) l.length (List.replicate n zero) :=by
 constructor
 ·have aj:(by_:Int)*(n:Int)<=(ct:Int) :=by rw[<-Int.natCast_mul]; omega
  simp only[rq,auq];rw[if_pos ⟨by omega,by omega,by omega,aj⟩]
 ·refine .au l.length n n (n*z) (dk zero n) _ (by rw[atC (att _)]; simp) (by rw[AN,aw]) (by simp) (fun e ao=>by rw[auH ao]; exact aw) (att _) (att _) ?_;rw[atr (by rw[AN,aw]; omega),Hr]
def qJ (n:Nat) (out:List Nat) :List Bool:=(List.range n).map fun i=>decide (i∈out)
theorem EJ {n:Nat} {out:List Nat} {i:Nat} (h:i<n) :(qJ n out)[i]? = some (decide (i∈out)) :=by
 unfold qJ; rw[atw,at3 h]; rfl
theorem BQ (n:Nat) (out:List Nat) :(qJ n out).length=n:=by simp[qJ]
theorem aa3 {n:Nat} {out:List Nat} {i:Nat} (h:i<n) :(qJ n out).set i true=qJ n (out++[i]) :=by
 apply auk;intro j;by_cases ai:j<n
 ·rw[EJ ai,auQ];by_cases ho:i=j
  ·subst ho; simp[BQ,h]
  ·rw[if_neg ho,EJ ai];simp[Ne.symm ho]
 ·rw[atG (by simp[BQ]; omega),atG (by simp[BQ]; omega)]
theorem aa2 (n:Nat) :qJ n []=List.replicate n false:=by
 apply auk;intro j;by_cases ai:j<n
 ·rw[EJ ai]; simp[ai]
 ·rw[atG (by simp[BQ]; omega),atG (by simp; omega)]
theorem one_cell {cs:List U} {o:Nat} {c:U} (h:(cs.drop o).take 1=[c]) :cs[o]? = some c:=by
 have h1:((cs.drop o).take 1)[0]? = some c:=by rw[h]; rfl
 rw[atP (by omega),at6] at h1;exact h1
structure Y8 (g:bg) (out:List Nat) (v3 v4 v5:U) (rest:am) :Prop where
 ex:∃ lQ ki gB,bJ 1 (.cells 2 (dS g) ::rest) v3 lQ (out.map hj)/\bJ 32 (.cells 2 (dS g) ::rest) v4 ki ((out.map (bV g.ids.l)).map aR)/\bJ 1 (.cells 2 (dS g) ::rest) v5 gB ((qJ g.ops.l.length out).map h7) ∧
  1<=gB/\cD v5=false/\cD v3=out.isEmpty/\cD v4=out.isEmpty/\(out=[]\/(1<=lQ/\1<=ki/\lQ≠ki/\lQ≠gB/\ki≠gB))
set_option maxHeartbeats 4000000 in
theorem ajd (g:bg) (ar:fG g) (ak:g.ids.l.length=g.ops.l.length) (ai:iw g.ids.l) :bw Tryz.prog GS 83 [db g] (I6 (fp (sT g.ids.l g.ops.l))) :=by
 refine bP Tryz.checked.mixed bC ?_;apply bj Tryz.func83 [[[0],[1],[2],[3],[4],[6],[7],[8],[9],[10],[11],[12],[5,12,11,8]]];have k6:ct=140737488355328:=rfl;have eN:=gM g.ids;have dj:=mU g.ops;have ew:cP (.au 11) (b4 g.ops)=some (.int .i64 g.ops.l.length) :=by simp[b4]
 have bh:=ar.cN;obtain⟨fD,iY⟩:=Dj (z:=1) (by_:=1) (n:=g.ops.l.length) (k:=.i64) (k':=.i64) (zero:=[U.bool false]) (l:=[a2.cells 2 (dS g)]) rfl (by omega) (by rw[k6]; omega);simp only[dS,auW,MH (α:=Nat)] at fD iY;simp[db,dS,ew,fD];refine wj (fun m ae l=>∃ (k:Nat) (rest:am),l=.cells 2 (dS g) ::rest/\ae 1=.ptr 0 0 2/\Y8 g (fZ g.ids.l g.ops.l k) (ae 3) (ae 4) (ae 5) rest ∧
  ((ae 6=.bool true/\(fZ g.ids.l g.ops.l k).length=k/\m=g.ops.l.length - k+1)\/(ae 6=.bool false/\ll g.ids.l g.ops.l (fZ g.ids.l g.ops.l k)=none/\k<=g.ops.l.length/\m=0))) ?_ (g.ops.l.length+1) _ _ ?_
 ·rintro m ae l ⟨k,rest,rfl,aL,qN,al⟩;obtain⟨v3,a8⟩:∃ v,ae 3=v:=⟨_,rfl⟩
  obtain⟨v4,bu⟩:∃ v,ae 4=v:=⟨_,rfl⟩
  obtain⟨v5,bc⟩:∃ v,ae 5=v:=⟨_,rfl⟩
  rw[a8,bu,bc] at qN;obtain⟨out,k4⟩:∃ out,out=fZ g.ids.l g.ops.l k:=⟨_,rfl⟩
  rw[<-k4] at qN al;obtain⟨pV,dG,me⟩:=Dv g.ids.l g.ops.l ak ai k;rw[<-k4] at pV dG me;have di:out.length<=g.ops.l.length:=by
   have:=uP (b:=List.range g.ops.l.length) pV (fun x af=>at4.2 (me x af).1);simpa using this
  rcases al with ⟨ch,hk,rfl⟩ | ⟨ch,dF,gW,rfl⟩
  ·obtain⟨ae,rfl⟩:=kU aL a8 bu bc ch;clear aL a8 bu bc ch;simp;refine cF g.ops.l.length (fun i ae l=>l=.cells 2 (dS g) ::rest/\ae 1=.ptr 0 0 2/\ae 3=v3/\ae 4=v4/\ae 5=v5/\ae 6=.bool false/\ae 7=.int .i64 i/\∀ j,j<i->tA g.ids.l g.ops.l out j=false) ?_ (by simp);rintro i ae l av ⟨rfl,aL,a8,bu,bc,ch,ei,al⟩;obtain⟨ae,rfl⟩:=AZ aL a8 bu bc ch ei;clear aL a8 bu bc ch ei;by_cases eG:i<g.ops.l.length
   ·obtain⟨o,ap,dZ⟩:=bA eG;have aQ:IntKind.i64.wrap ((i:Int)+1)=((i+1:Nat) :Int) :=by rw[IntKind.wrap_i64]; omega
    have cc:cj (.au 11) (b4 g.ops) (.int .i64 (i:Int))=some (.b6 (bl o) 0) :=by simp[b4,ap]
    obtain⟨lQ,ki,gB,qe,sP,iG,aW,lk,uB,sN,bq⟩:=qN;obtain⟨We,iP,rJ,aS,aX,a3,a4⟩:=iG.q.get (k:=.i64) (i:=i) (e:=h7 (decide (i∈out))) (by rw[atw,EJ eG]; rfl);have a5:=one_cell (c:=.bool (decide (i∈out))) (by simpa [h7] using a4);have kJ:=sP.nr (enc:=aR) (xs:=out.map (bV g.ids.l)) (fun x=>g6 x) (fp (out.map (bV g.ids.l))) (by rw[sN,uQ]; simp) (gQ _);have F2:h0 (fp (out.map (bV g.ids.l))) :=fun x af=>by
     rw[gQ] at af;obtain⟨t,aI,rfl⟩:=atV.1 af;obtain⟨y,az,cO⟩:=bA (l:=g.ids.l) (k:=t) (by have:=(me t aI).1; omega);rw[fr az]; exact ar.ids y cO
    have eC:=My (fp (out.map (bV g.ids.l))) F2 (by rw[gQ]; simp; omega) o.bo (ar.ops o dZ).ids (ar.ops o dZ).len;rw[gQ] at eC;have sl:=gM o.bo;have m6:tA g.ids.l g.ops.l out i=(decide (i∉out)&&l4 (out.map (bV g.ids.l)) o.bo.l) :=by unfold tA; rw[my ap]
    simp only[dS] at aX qe sP iG kJ;by_cases FV:i∈out
    ·simp[dS,ew,eG,aS,aX,a5,FV,aQ];intro j ai;by_cases nS:j=i
     ·subst nS; rw[m6]; simp[FV]
     ·exact al j (by omega)
    ·simp[dS,ew,eG,aS,aX,a5,FV,aQ,cc,bl];refine ie eC (.cons kJ (.cons (.same _ sl) .nil)) rfl ?_;by_cases e2:l4 (out.map (bV g.ids.l)) o.bo.l=true
     ·rw[e2] at m6;obtain⟨y,az,cO⟩:=bA (l:=g.ids.l) (k:=i) (by omega);have CA:cj (.au 32) (aU g.ids) (.int .i64 (i:Int))=some (.b6 (aR y) 0) :=by simp[aU,az]
      have cx:=cQ (ar.ids y cO);obtain⟨Y,ev⟩:∃ Y,Y=aR y:=⟨_,rfl⟩
      rw[<-ev] at CA cx;have afL:bz (rep 32 (.int .u8 0)) 0 Y=Y:=fE (by rw[cx]; rfl);obtain⟨l1,fW⟩:∃ l1,l1=a2.cells 2 [aU g.ids,b4 g.ops] ::(rest++[a2.cells 1 [U.int IntKind.i64 (i:Int)],a2.cells 32 Y]) :=⟨_,rfl⟩
      have Ks:l1.length=rest.length+3:=by rw[fW]; simp
      have rn:bJ 1 l1 v3 lQ (out.map hj) :=by rw[fW]; exact qe.more _
      have LS:bJ 32 l1 v4 ki ((out.map (bV g.ids.l)).map aR) :=by rw[fW]; exact sP.more _
      have ahy:bJ 1 l1 v5 gB ((qJ g.ops.l.length out).map h7) :=by rw[fW]; exact iG.more _
      have ub:out=[]->v3=.a1/\v4=.a1:=fun h=>by rw[h] at uB sN; exact⟨i3.1 uB,i3.1 sN⟩
      have arv:gB<rest.length+1:=by
       rcases iG.lt with h | h
       ·rw[h] at lk; cases lk
       ·simpa using h
      obtain⟨lQ,rn,q1,gn,kP,wx⟩:∃ lQ,bJ 1 l1 v3 lQ (out.map hj)/\1<=lQ/\lQ≠gB/\(out=[]\/lQ≠ki)/\(lQ<rest.length+1\/l1.length<=lQ) :=by
       by_cases h:out=[]
       ·have aq:=(ub h).1;rw[aq,h];exact⟨l1.length,.nil _,by omega,by omega,.inl rfl,.inr (att _)⟩
       ·obtain⟨h1,ad,aj,aF,aW⟩:=bq.resolve_left h;refine⟨lQ,rn,h1,aF,.inr aj,.inl ?_⟩;rcases qe.lt with eX | eX
        ·rw[eX] at uB;cases out with
         | nil=>exact absurd rfl h
         | cons=>cases uB
        ·simpa using eX
      obtain⟨Yj,v8,b5,aL,aT,a8,bu,bc,ch⟩:=ou (by_:=8) rn (x:=.au 1 (rest.length+1) 0 1 1 1) (xs:=[hj i]) (by rw[fW]; simp[dp,hj]) (by simp[hj]) (by omega) (by omega) (by rw[k6]; simp; omega);obtain⟨fg,rfl⟩:∃ fg,b5=a2.cells 2 [aU g.ids,b4 g.ops] ::fg:=Dt (by rw[bu 0 (by omega) (by omega),fW]; rfl);have Ci:(a2.cells 2 [aU g.ids,b4 g.ops] ::fg)[rest.length+2]? = some (.cells 32 Y) :=by rw[bu (rest.length+2) (by omega) (by omega),fW]; simp
      have e9:(a2.cells 2 [aU g.ids,b4 g.ops] ::fg)[rest.length+1]? = some (.cells 1 [.int .i64 (i:Int)]) :=by rw[bu (rest.length+1) (by omega) (by omega),fW]; simp
      have jq:=ahy.frame (l':=a2.cells 2 [aU g.ids,b4 g.ops] ::fg) (fun h=>bu gB h (Ne.symm gn));rw[fW] at aL;simp[e2,CA,cx,afL,atr,aL];refine c0.cq ?_;simp;have S3:fg[rest.length+1]? = some (.cells 32 Y) :=by simpa using Ci
      refine⟨⟨S3,by omega,atr (by omega)⟩,?_⟩;have UC:Yj≠.a1:=fun h=>by have:=(ch.1 h).2; cases this
      have apw:v8<fg.length+1:=by have:=aT.lt.resolve_left UC; simpa using this
      have Kl:1<=v8/\v8≠gB:=by rcases bc with h | h<;>omega
      obtain⟨ki,LS,t1,t2,t3,t4⟩:∃ ki,bJ 32 (a2.cells 2 [aU g.ids,b4 g.ops] ::fg) v4 ki ((out.map (bV g.ids.l)).map aR)/\1<=ki/\ki≠gB/\ki≠v8/\(ki<fg.length+1\/fg.length+1<=ki) :=by
       by_cases h:out=[]
       ·have aq:=(ub h).2;rw[aq,h];simp at a8;exact⟨fg.length+1,.nil _,by omega,by omega,by omega,.inr (att _)⟩
       ·obtain⟨h1,ad,aj,aF,aW⟩:=bq.resolve_left h;have bt:ki<rest.length+1:=by
         rcases sP.lt with eX | eX
         ·rw[eX] at sN;cases out with
          | nil=>exact absurd rfl h
          | cons=>cases sN
         ·simpa using eX
        have dq:=kP.resolve_left h;refine⟨ki,LS.frame (fun h=>bu ki h (Ne.symm dq)),ad,aW,by rcases bc with h | h<;>omega,.inl (by simp at a8; omega)⟩
      obtain⟨Yk,wa,dU,f1,f2,f3,f4,f5,f6⟩:=ou (by_:=32) LS (x:=.au 32 (rest.length+1+1) 0 1 1 32) (xs:=[Y]) (by simp[dp,cx,S3,atr]) (by simp[cx]) (by omega) (by omega) (by rw[k6]; simp; omega);obtain⟨pa,rfl⟩:∃ pa,dU=a2.cells 2 [aU g.ids,b4 g.ops] ::pa:=Dt (by rw[f4 0 (by simp) (by omega)]; rfl);have UD:Yk≠.a1:=fun h=>by have:=(f6.1 h).2; cases this
      have apx:wa<pa.length+1:=by have:=f2.lt.resolve_left UD; simpa using this
      have ef:=aT.frame (l':=a2.cells 2 [aU g.ids,b4 g.ops] ::pa) (fun h=>f4 v8 h (Ne.symm t3));have te:=jq.frame (l':=a2.cells 2 [aU g.ids,b4 g.ops] ::pa) (fun h=>f4 gB h (Ne.symm t2));obtain⟨p,ri,ig,jU,qr,D3,AY⟩:=G9 (k:=i) (x:=true) (X:=.bool true) (enc:=h7) rfl te (fun _ _=>rfl) (by rw[BQ]; exact eG) rfl;simp[f1];refine c0.cq ?_;simp[ig,jU];have Jc:wa=ki\/fg.length+1<=wa:=by simpa using f5
      have aoX:rest.length+3<=fg.length+1:=by rw[Ks] at a8; simpa using a8
      have hI:1<=wa:=by rcases Jc with h | h<;>omega
      have fO:wa≠gB:=by rcases Jc with h | h<;>omega
      have z3:v8≠wa:=by rcases Jc with h | h<;>omega
      obtain⟨ry,rfl⟩:∃ ry,ri=a2.cells 2 [aU g.ids,b4 g.ops] ::ry:=Dt (by rw[AY 0 (by omega)]; rfl);have mh:ll g.ids.l g.ops.l out=some i:=ahY eG (by rw[m6]; simp[FV]) al;have vN:fZ g.ids.l g.ops.l (k+1)=out++[i] :=by rw[Mc (by rw[<-k4]; exact mh),<-k4]
      have aK:k<g.ops.l.length:=by
       have eX:=(Dv g.ids.l g.ops.l ak ai (k+1)).1;rw[vN] at eX;have:=uP (b:=List.range g.ops.l.length) eX (fun x af=>at4.2 (by
        rw[atQ,atM] at af;rcases af with af | rfl
        ·exact (me x af).1
        ·exact eG))
       simp at this; omega
      have dz:(out++[i]).map hj=out.map hj++[hj i] :=by simp
      have j0:((out++[i]).map (bV g.ids.l)).map aR=(out.map (bV g.ids.l)).map aR++[Y] :=by
       have aeu:bV g.ids.l i=y:=fr az;rw[atX,atX,List.map_singleton,List.map_singleton,aeu,ev]
      refine⟨g.ops.l.length - (k+1)+1,by omega,k+1,ry,rfl,?_,by rw[vN]; simp[hk],rfl⟩;rw[vN];refine⟨⟨v8,wa,gB,?_,?_,?_,aW,lk,?_,?_,.inr ⟨Kl.1,hI,z3,Kl.2,fO⟩⟩⟩
      ·rw[dz]; exact ef.frame (fun h=>AY v8 Kl.2)
      ·rw[j0]; exact f2.frame (fun h=>AY wa fO)
      ·rw[<-aa3 eG]; exact qr
      ·cases aq:cD Yj with
       | true=>exact absurd (i3.1 aq) UC
       | false=>simp
      ·cases aq:cD Yk with
       | true=>exact absurd (i3.1 aq) UD
       | false=>simp
     ·rw[avU] at e2;rw[e2] at m6;simp[e2,eG,aQ];refine⟨rfl,fun j ai=>?_⟩;by_cases nS:j=i
      ·subst nS; rw[m6]; simp
      ·exact al j (by omega)
   ·have apv:i=g.ops.l.length:=by omega
    simp[dS,ew,eG];have dF:ll g.ids.l g.ops.l out=none:=ahZ fun j ai=>al j (by omega)
    refine⟨0,by omega,k,by rw[<-k4]; exact qN,by rw[<-k4]; exact dF,by omega,rfl⟩
  ·obtain⟨ae,rfl⟩:=kU aL a8 bu bc ch;clear aL a8 bu bc ch;simp;obtain⟨lQ,ki,gB,qe,sP,iG,aW,lk,uB,sN,bq⟩:=qN;have cw:sT g.ids.l g.ops.l=out:=by
    unfold sT;have:=Mb (k:=k) (by rw[<-k4]; exact dF) (g.ops.l.length - k);rw[show k+(g.ops.l.length - k)=g.ops.l.length by omega,<-k4] at this;exact this
   rw[cw];exact qe.q.yD (fun x=>rfl) (fp out) (by rw[uB,uQ]) (gQ _)
 ·refine⟨0,_,rfl,by simp,?_,.inl ⟨by simp,rfl,rfl⟩⟩;simp;refine⟨⟨0,0,1,.nil 0,.nil 0,?_,by omega,rfl,rfl,rfl,.inl rfl⟩⟩;show bJ _ _ _ _ ((qJ g.ops.l.length []).map h7);have:(qJ g.ops.l.length []).map h7=List.replicate g.ops.l.length [U.bool false] :=by rw[aa2,awc]; rfl
  rw[this];exact iY
def Du (ids:List (List B)) (ops:List bp) :Bool:=decide (∀ o∈ops,l4 ids o.bo.l=true)
def qn (ids:List (List B)) (ops:List bp) :Int:=if dN ids=true then (if Du ids ops=true then (if (sT ids ops).length=ops.length then 0 else 36) else 40) else 32
theorem ajg (g:bg) (ar:fG g) (ak:g.ids.l.length=g.ops.l.length) :bw Tryz.prog GS 40 [db g] (.int .i64 (qn g.ids.l g.ops.l)) :=by
 refine bP Tryz.checked.mixed bC ?_;apply bj Tryz.func40 [[],[[0],[3],[4],[5],[1,4],[2]]];have eN:=gM g.ids;have dj:=mU g.ops;have oG:=EE g;have ew:cP (.au 11) (b4 g.ops)=some (.int .i64 g.ops.l.length) :=by simp[b4]
 have bh:=ar.cN;have Ga:=WO g.ids ar.ids ar.li;simp[db,dS,ew];refine bf Ga (by simp[bm,eN]) ?_;by_cases ax:dN g.ids.l=true
 ·have ai:=nl ax;have ng:=ajd g ar ak ai;unfold db dS at ng oG;simp[ax];refine cF g.ops.l.length (fun k ae l=>l=[.cells 2 [aU g.ids,b4 g.ops]]/\ae 1=.ptr 0 0 2/\ae 3=.int .i64 k/\∀ (j:Nat) (o:bp),j<k->g.ops.l[j]? = some o->l4 g.ids.l o.bo.l=true) ?_ (by simp);rintro k ae l hk ⟨rfl,aL,a8,al⟩;obtain⟨ae,rfl⟩:=qu aL a8;clear aL a8;by_cases cI:k<g.ops.l.length
  ·obtain⟨o,ap,dZ⟩:=bA cI;have aQ:IntKind.i64.wrap ((k:Int)+1)=((k+1:Nat) :Int) :=by rw[IntKind.wrap_i64]; omega
   have cc:cj (.au 11) (b4 g.ops) (.int .i64 (k:Int))=some (.b6 (bl o) 0) :=by simp[b4,ap]
   have eC:=My g.ids ar.ids ar.li o.bo (ar.ops o dZ).ids (ar.ops o dZ).len;have sl:=gM o.bo;simp[ew,cI,cc,bl];refine bf eC (by simp[bm,eN,sl]) ?_;by_cases e2:l4 g.ids.l o.bo.l=true
   ·simp[e2,cI,aQ];intro j cJ ej ek;by_cases fQ:j=k
    ·subst fQ; rw[ap] at ek; obtain rfl:=Option.some.inj ek; exact e2
    ·exact al j cJ (by omega) ek
   ·rw[avU] at e2;simp[e2];refine aP (congrArg (U.int .i64) ?_) rfl;have dF:¬ Du g.ids.l g.ops.l=true:=fun h=>by
     have:=of_decide_eq_true h o dZ;rw[e2] at this; cases this
    unfold qn;rw[if_pos ax,if_neg dF]
  ·have oL:k=g.ops.l.length:=by omega
   have gx:Du g.ids.l g.ops.l=true:=decide_eq_true fun o dZ=>by
    obtain⟨j,ej⟩:=atx.1 dZ;exact al j o (by rw[oL]; exact (atq.1 ej).1) ej
   have dO:(sT g.ids.l g.ops.l).length<=g.ops.l.length:=(Dv g.ids.l g.ops.l ak ai _).2.1;have oO:cP (.au 1) (I6 (fp (sT g.ids.l g.ops.l)))=some (.int .i64 (sT g.ids.l g.ops.l).length) :=by unfold I6; rw[qc,gQ]
   simp[ew,cI];refine bf ng (by simp[bm,oG]) ?_;by_cases aK:(sT g.ids.l g.ops.l).length<g.ops.l.length
   ·simp[ew,oO,aK];refine aP (congrArg (U.int .i64) ?_) rfl;unfold qn;rw[if_pos ax,if_pos gx,if_neg (by omega)]
   ·simp[ew,oO,aK];refine aP (congrArg (U.int .i64) ?_) rfl;unfold qn;rw[if_pos ax,if_pos gx,if_pos (by omega)]
 ·rw[avU] at ax;simp[ax];refine aP (congrArg (U.int .i64) ?_) rfl;unfold qn;rw[ax]; rfl
def oz (g:bg) (k:Nat) :Bool:=match g.ops.l[k]?,g.ids.l[k]? with
 | some o,some x=>decide (qv o=0)&&decide (jQ o=x)
 | _,_=>true
def Fa (g:bg) :Bool:=decide (∀ k,k<g.ops.l.length->oz g k=true)
theorem zB (g:bg) :Fa g=true<->∀ k,k<g.ops.l.length->oz g k=true:=by unfold Fa; rw[decide_eq_true_eq]
def eW (g:bg) :Int:=if 60<g.ops.l.length then 4 else if g.ids.l.length=g.ops.l.length then (if Fa g=true then qn g.ids.l g.ops.l else 8) else 8
theorem Fb {g:bg} {k:Nat} {o:bp} {x:List B} (ap:g.ops.l[k]? = some o) (af:g.ids.l[k]? = some x) :oz g k=(decide (qv o=0)&&decide (jQ o=x)) :=by
 unfold oz; rw[ap,af]
theorem A0 {o:bp} (h:qv o=0) :fY o=0:=by
 unfold qv at h;by_cases aE:fY o=0
 ·exact aE
 ·rw[if_neg aE] at h; exact h
theorem Li (o:bp) :(jQ o).length=32:=by
 unfold jQ;split
 ·exact wL _
 ·simp
set_option maxHeartbeats 4000000 in
theorem ai1 (g:bg) (ar:fG g) :bw Tryz.prog GS 11 [db g] (.int .i64 (eW g)) :=by
 refine bP Tryz.checked.mixed bC ?_;apply bj Tryz.func11 [[[0],[1],[2],[3],[4],[5],[6],[7],[8],[9],[10],[11],[12],[14],[15],[16],[17],[18],[13,18,15]]];have eN:=gM g.ids;have dj:=mU g.ops;have oG:=EE g;have ew:cP (.au 11) (b4 g.ops)=some (.int .i64 g.ops.l.length) :=by simp[b4]
 have gN:cP (.au 32) (aU g.ids)=some (.int .i64 g.ids.l.length) :=by simp[aU]
 have bh:=ar.cN;by_cases pI:60<(g.ops.l.length:Int)
 ·simp[db,dS,ew,pI];refine aP (congrArg (U.int .i64) ?_) rfl;unfold eW; rw[if_pos (by omega)]
 by_cases ak:g.ids.l.length=g.ops.l.length
 ·have oW:=ajg g ar ak;unfold db dS at oW oG;have c1:(g.ids.l.length:Int)=(g.ops.l.length:Int) :=by omega
  simp[db,dS,ew,gN,pI,c1];refine cF g.ops.l.length (fun k ae l=>l=[.cells 2 [aU g.ids,b4 g.ops]]/\ae 1=.ptr 0 0 2/\ae 3=.int .i64 k/\∀ j,j<k->oz g j=true) ?_ (by simp);rintro k ae l hk ⟨rfl,aL,a8,al⟩;obtain⟨ae,rfl⟩:=qu aL a8;clear aL a8;by_cases cI:k<g.ops.l.length
  ·obtain⟨o,ap,dZ⟩:=bA cI;obtain⟨x,af,cX⟩:=bA (l:=g.ids.l) (k:=k) (by omega);have gl:=Fb ap af;have aQ:IntKind.i64.wrap ((k:Int)+1)=((k+1:Nat) :Int) :=by rw[IntKind.wrap_i64]; omega
   have cc:cj (.au 11) (b4 g.ops) (.int .i64 (k:Int))=some (.b6 (bl o) 0) :=by simp[b4,ap]
   have qZ:cj (.au 32) (aU g.ids) (.int .i64 (k:Int))=some (.b6 (aR x) 0) :=by simp[aU,af]
   have aq:=ajl o (ar.ops o dZ);have qU:=pA o;have bn:=cQ (ar.ids x cX);have di:(bl o).length=11:=rfl;have qR:¬ oz g k=true->eW g=8:=fun h=>by
    unfold eW;rw[if_neg (by omega),if_pos ak,if_neg fun aG=>h ((zB g).1 aG k cI)]
   by_cases sw:qv o=0
   ·have aE:=A0 sw;have ud:=ai9 o (ar.ops o dZ) (by have:=AA aE; omega);have gV:jQ o=h2 (ic o) :=by unfold jQ; rw[if_pos aE]
    rw[<-gV] at ud;have heq:=Gq (Li o) (ar.ids x cX);change bw Tryz.prog GS 33 [.aM (bl o)] (.aM (aR (jQ o))) at ud;obtain⟨I,qN⟩:∃ I,I=aR (jQ o) :=⟨_,rfl⟩
    rw[<-qN] at ud heq;rw[sw] at aq;obtain⟨O,eS⟩:∃ O,O=bl o:=⟨_,rfl⟩
    obtain⟨X,cT⟩:∃ X,X=aR x:=⟨_,rfl⟩
    rw[<-eS] at cc aq ud qU di;rw[<-cT] at qZ bn heq;simp[ew,cI,cc,di,atr];refine bf aq (by simp[bm,U.closed,qU]) ?_;simp[di,qZ,bn,cc,atr];refine bf ud (by simp[bm,U.closed,qU]) ?_;by_cases fa:jQ o=x
    ·simp[heq,fa,cI,aQ,bn,atr];intro j ai;by_cases fQ:j=k
     ·subst fQ; rw[gl]; simp[sw,fa]
     ·exact al j (by omega)
    ·have ag:¬ oz g k=true:=fun h=>by rw[gl] at h; simp[fa] at h
     simp[heq,fa,bn,atr];exact aP (congrArg (U.int .i64) (qR ag).symm) rfl
   ·have ag:¬ oz g k=true:=fun h=>by rw[gl] at h; simp[sw] at h
    simp[ew,cI,cc,di,atr];refine bf aq (by simp[bm,U.closed,qU]) ?_;simp[sw];exact aP (congrArg (U.int .i64) (qR ag).symm) rfl
  ·have oL:k=g.ops.l.length:=by omega
   simp[ew,cI];refine bf oW (by simp[bm,oG]) ?_;simp;refine aP (congrArg (U.int .i64) ?_) rfl;unfold eW;rw[if_neg (by omega),if_pos ak,if_pos ((zB g).2 fun j ai=>al j (by omega))]
 ·have c1:¬ (g.ids.l.length:Int)=(g.ops.l.length:Int) :=by omega
  simp[db,dS,ew,gN,pI,c1];refine aP (congrArg (U.int .i64) ?_) rfl;unfold eW; rw[if_neg (by omega),if_neg ak]
def oK (ids:List (List B)) (D:List Nat) (p:List B) :Nat:=(D.map fun a=>if p == bV ids a then 1 else 0).sum
def kS (ids:List (List B)) (D:List Nat) (L:List (List B)) :Nat:=(D.map fun a=>L.count (bV ids a)).sum
theorem akZ (ids:List (List B)) (D:List Nat) :kS ids D []=0:=by
 unfold kS
 induction D with
 | nil=>rfl
 | cons a D aH=>rw[atY,avj,aH]; rfl
theorem XN (ids:List (List B)) (p:List B) (L:List (List B)) :∀ D,kS ids D (p::L)=kS ids D L+oK ids D p
 | []=>rfl
 | a::D=>by
  have aH:=XN ids p L D;unfold kS oK at aH ⊢;rw[atY,avj,atY,avj,atY,avj,aH,List.count_cons];omega
theorem Ni (ids:List (List B)) (D:List Nat) (a:Nat) (L:List (List B)) :kS ids (D++[a]) L=kS ids D L+L.count (bV ids a) :=by
 unfold kS; rw[atX,List.sum_append]; simp
theorem OD {ids:List (List B)} (ai:iw ids) {i j:Nat} (av:i<ids.length) (eO:j<ids.length) (h:bV ids i=bV ids j) :i=j:=by
 obtain⟨x,af,_⟩:=bA av;obtain⟨y,az,_⟩:=bA eO;rw[fr af,fr az] at h;subst h;exact ai i j x af az
theorem TI {ids:List (List B)} {p:List B}:∀ {D:List Nat},(∀ a∈D,bV ids a≠p)->oK ids D p=0
 | [],_=>rfl
 | a::D,h=>by
  have aH:=TI (ids:=ids) (p:=p) (D:=D) fun b ag=>h b (by simp[ag])
  have aB:(p == bV ids a)=false:=by rw[beq_eq_false_iff_ne]; exact Ne.symm (h a (by simp))
  unfold oK at aH ⊢;rw[atY,avj,aH,aB]; rfl
theorem TH {ids:List (List B)} (ai:iw ids) {p:List B}:∀ {D:List Nat},D.Nodup->(∀ a∈D,a<ids.length)->oK ids D p<=1/\(oK ids D p=1<->∃ a∈D,bV ids a=p)
 | [],_,_=>⟨auy _,Iff.intro (fun h=>(by cases h)) (fun ⟨a,aB,_⟩=>(by cases aB))⟩
 | a::D,aC,ag=>by
  rw[avF] at aC;obtain⟨c6,eH⟩:=TH (p:=p) ai aC.2 (fun b bH=>ag b (by simp[bH]));by_cases h:bV ids a=p
  ·have aw:oK ids D p=0:=TI fun b Tc adJ=>aC.1 (by rw[OD ai (ag a (by simp)) (ag b (by simp[Tc])) (h.trans adJ.symm)]; exact Tc)
   have aB:(p == bV ids a)=true:=by rw[h]; simp
   have e:oK ids (a::D) p=1:=by
    unfold oK at aw ⊢;rw[atY,avj,aw,aB]; rfl
   rw[e];exact⟨att _,fun _=>⟨a,by simp,h⟩,fun _=>rfl⟩
  ·have aB:(p == bV ids a)=false:=by rw[beq_eq_false_iff_ne]; exact Ne.symm h
   have e:oK ids (a::D) p=oK ids D p:=by
    unfold oK;rw[atY,avj,aB]; simp
   rw[e];refine⟨c6,eH.trans ⟨fun ⟨b,fk,e9⟩=>⟨b,by simp[fk],e9⟩,fun ⟨b,fk,e9⟩=>?_⟩⟩;rw[aub] at fk;rcases fk with rfl | fk
   ·exact absurd e9 h
   ·exact⟨b,fk,e9⟩
theorem Nj {ids:List (List B)} (ai:iw ids) {D:List Nat} (aC:D.Nodup) (ag:∀ a∈D,a<ids.length) :∀ L:List (List B),kS ids D L<=L.length/\(kS ids D L=L.length<->∀ p∈L,∃ a∈D,bV ids a=p)
 | []=>by rw[akZ]; exact⟨att _,Iff.intro (fun _ p ay=>by cases ay) (fun _=>rfl)⟩
 | p::L=>by
  obtain⟨c6,eH⟩:=Nj ai aC ag L;obtain⟨h1,ad⟩:=TH (p:=p) ai aC ag;rw[XN,atL];refine⟨by omega,fun h=>?_,fun h=>?_⟩
  ·have aQ:kS ids D L=L.length:=by omega
   have bF:oK ids D p=1:=by omega
   intro q aZ;rw[aub] at aZ;rcases aZ with rfl | aZ
   ·exact ad.1 bF
   ·exact eH.1 aQ q aZ
  ·have aQ:=eH.2 fun q aZ=>h q (by simp[aZ])
   have bF:=ad.2 (h p (by simp));omega
structure HY (ids:List (List B)) (ops:List bp) (cp:List (List Nat)) :Prop where
 len:cp.length=ops.length
 cnt:∀ (a:Nat) (row:List Nat),cp[a]? = some row->∀ k,k<ops.length->row.count k=(cU ops k).count (bV ids a)
 lt:∀ (a:Nat) (row:List Nat),cp[a]? = some row->∀ k∈row,k<ops.length
structure rT (ids:List (List B)) (ops:List bp) (row:List Nat) (d j:Nat) (R:List Nat) (W:List Int) :Prop where
 hY:R.Nodup
 oy:∀ k∈R,k<ops.length/\pm ids ops k
 dl:d<=R.length
 wl:W.length=ops.length
 w:∀ k,k<ops.length->W[k]? = some (((cU ops k).length:Int) - kS ids (R.take d) (cU ops k) - (row.take j).count k)
 r:∀ k,k<ops.length->(k∈R<->W[k]? = some 0)
theorem ag9 {ids:List (List B)} {ops:List bp} (ak:ids.length=ops.length) (ai:iw ids) {cp:List (List Nat)} (ag:HY ids ops cp) {a:Nat} {row:List Nat} {d j:Nat} {R:List Nat} {W:List Int}
  (h:rT ids ops row d j R W) (aB:R[d]? = some a) (cC:cp[a]? = some row) {k:Nat} (hk:row[j]? = some k) :
  ∃ x:Int,W[k]? = some x/\1<=x/\x<=(cU ops k).length/\rT ids ops row d (j+1) (if x - 1=0 then R++[k] else R) (W.set k (x - 1)) :=by
 have gW:=ag.lt a row cC k (atz hk);have FG:=ag.cnt a row cC k gW;have xI:=(atq.1 aB).1;have ir:R.take (d+1)=R.take d++[a] :=by rw[atJ,aB]; rfl
 have aeX:(R.take (d+1)).Nodup:=List.Sublist.nodup (avO _ _) h.hY;have pU:∀ b∈R.take (d+1),b<ids.length:=fun b bH=>by have:=(h.oy b (at0 bH)).1; omega
 obtain⟨c9,hE⟩:=Nj ai aeX pU (cU ops k);rw[ir,Ni,<-FG] at c9;have oE:(row.take (j+1)).count k=(row.take j).count k+1:=by
  rw[atJ,hk,avs]; simp
 have kD:(row.take (j+1)).count k<=row.count k:=List.Sublist.count_le _ (avO _ _);have hw:=h.w k gW;obtain⟨x,af⟩:∃ x:Int,x=((cU ops k).length:Int) - kS ids (R.take d) (cU ops k) - (row.take j).count k:=⟨_,rfl⟩
 rw[<-af] at hw;have Ah:1<=x:=by omega
 have TS:k∉R:=fun hm=>by
  have:=(h.r k gW).1 hm;rw[hw] at this;have:=Option.some.inj this;omega
 refine⟨x,hw,Ah,by omega,?_⟩;have TT:k<W.length:=by rw[h.wl]; exact gW
 have CS:(if x - 1=0 then R++[k] else R).take d=R.take d:=by
  split
  ·rw[atS (by omega)]
  ·rfl
 have nd:x - 1=0->pm ids ops k:=fun aE=>by
  have heq:kS ids (R.take (d+1)) (cU ops k)=(cU ops k).length:=by rw[ir,Ni,<-FG]; omega
  have eC:=hE.1 heq;have eY:∀ t,t<ids.length->ids[t]? = some (bV ids t) :=fun t aI=>by
   obtain⟨y,az,_⟩:=bA (l:=ids) aI;rw[az,fr az]
  refine .mk k (by omega) (fun p ay=>?_) fun p ay iZ fC=>?_
  ·obtain⟨t,aI,rfl⟩:=eC p ay;exact atz (eY t (pU t aI))
  ·obtain⟨t,aI,rfl⟩:=eC p ay;rw[ai iZ t _ fC (eY t (pU t aI))];exact (h.oy t (at0 aI)).2
 refine⟨?_,fun y az=>?_,?_,by simpa using h.wl,fun y az=>?_,fun y az=>?_⟩
 ·split
  ·rw[auD];refine⟨h.hY,by simp,fun u aJ v aq e=>?_⟩;rw[atM] at aq;subst e;rw[aq] at aJ;exact TS aJ
  ·exact h.hY
 ·split at az
  ·rename_i aE;rw[atQ,atM] at az;rcases az with az | rfl
   ·exact h.oy y az
   ·exact⟨gW,nd aE⟩
  ·exact h.oy y az
 ·split
  ·simp; have:=h.dl; omega
  ·exact h.dl
 ·rw[CS,auQ];by_cases xS:k=y
  ·subst xS;rw[if_pos rfl,if_pos TT,oE];congr 1;omega
  ·rw[if_neg xS,h.w y az,atJ,hk,avs];have:([k] :List Nat).count y=0:=by rw[avA]; simp[xS]
   simp only[Option.toList_some,this,avY]
 ·rw[auQ];by_cases xS:k=y
  ·subst xS;rw[if_pos rfl,if_pos TT];by_cases aE:x - 1=0
   ·rw[if_pos aE]; simp[aE]
   ·rw[if_neg aE];exact⟨fun hm=>absurd hm TS,fun aG=>absurd (Option.some.inj aG) aE⟩
  ·rw[if_neg xS,<-h.r y az];split
   ·rw[atQ,atM];exact⟨fun h=>h.resolve_right (Ne.symm xS),.inl⟩
   ·exact Iff.rfl
theorem ag6 {ids:List (List B)} {ops:List bp} {cp:List (List Nat)} (ag:HY ids ops cp) {a:Nat} {row uM:List Nat} {d:Nat} {R:List Nat} {W:List Int}
  (h:rT ids ops row d row.length R W) (aB:R[d]? = some a) (cC:cp[a]? = some row) :rT ids ops uM (d+1) 0 R W:=by
 have ir:R.take (d+1)=R.take d++[a] :=by rw[atJ,aB]; rfl
 refine⟨h.hY,h.oy,(atq.1 aB).1,h.wl,fun k hk=>?_,h.r⟩;rw[h.w k hk,ir,Ni,atW,ag.cnt a row cC k hk,auE,List.count_nil];congr 1;omega
theorem ag7 {ids:List (List B)} {ops:List bp} {row uM:List Nat} {d:Nat} {R:List Nat} {W:List Int} (h:rT ids ops row d 0 R W) :rT ids ops uM d 0 R W:=
 ⟨h.hY,h.oy,h.dl,h.wl,fun k hk=>by rw[h.w k hk,auE,auE],h.r⟩
theorem ag8 {ids:List (List B)} {ops:List bp} (ak:ids.length=ops.length) :rT ids ops [] 0 0 ((List.range ops.length).filter fun k=>(cU ops k).isEmpty) ((List.range ops.length).map fun k=>((cU ops k).length:Int)) :=by
 refine⟨List.Sublist.nodup avC aws,fun k hk=>?_,auy _,by simp,fun k hk=>?_,fun k hk=>?_⟩
 ·rw[auI,at4] at hk;have aE:cU ops k=[] :=awt.1 hk.2;exact⟨hk.1,.mk k (by omega) (fun p ay=>by rw[aE] at ay; cases ay) fun p ay=>by rw[aE] at ay; cases ay⟩
 ·rw[atw,at3 hk];simp[kS]
 ·rw[auI,at4,atw,at3 hk];simp only[atA,Option.some.injEq,hk,true_and,awt];constructor
  ·intro h; rw[h]; rfl
  ·intro h; exact aug.1 (by omega)
theorem ag5 {ids:List (List B)} {ops:List bp} (ak:ids.length=ops.length) (ai:iw ids) {row:List Nat} {R:List Nat} {W:List Int} (h:rT ids ops row R.length 0 R W) :
  R.length<=ops.length/\(R.length=ops.length<->(sT ids ops).length=ops.length) :=by
 have dO:R.length<=ops.length:=by
  have:=uP (b:=List.range ops.length) h.hY fun x af=>at4.2 (h.oy x af).1
  simpa using this
 refine⟨dO,?_⟩;rw[V9 ak ai];constructor
 ·intro ao i av;exact (h.oy i (VS h.hY ao (fun i av=>(h.oy i av).1) i av)).2
 ·intro eC;have eG:∀ i,pm ids ops i->i<ops.length->i∈R:=by
   intro i ar
   induction ar with
   | mk i av ay ar aH=>
    intro aK;rw[h.r i aK,h.w i aK,atW];have Fu:=(Nj ai h.hY (fun a aB=>by have:=(h.oy a aB).1; omega) (cU ops i)).2.2 fun p p1=>by
     obtain⟨bX,ej⟩:=atx.1 (ay p p1);exact⟨bX,aH p p1 bX ej (by have:=(atq.1 ej).1; omega),fr ej⟩
    rw[Fu];simp
  have:=uP (a:=List.range ops.length) (b:=R) aws fun i av=>eG i (eC i (at4.1 av)) (at4.1 av)
  simp at this;omega
structure kV (l:am) (vs:List U) (cp:List (List Nat)) (cZ:Nat->Nat) :Prop where
 og:vs.length=cp.length
 own:∀ (a:Nat) (v:U) (row:List Nat),vs[a]? = some v->cp[a]? = some row->bJ 1 l v (cZ a) (row.map hj)/\cD v=row.isEmpty/\(row=[]\/3<=cZ a)
 apart:∀ (a b:Nat) (lU nq:List Nat),a≠b->cp[a]? = some lU->cp[b]? = some nq->lU≠[]->nq≠[]->cZ a≠cZ b
def ot (cp:List (List Nat)) (cZ:Nat->Nat) (b:Nat) :Prop:=∀ (a:Nat) (row:List Nat),cp[a]? = some row->row≠[]->cZ a≠b
theorem kV.lt {l:am} {vs:List U} {cp:List (List Nat)} {cZ:Nat->Nat} (h:kV l vs cp cZ) {a:Nat} {row:List Nat} (ax:cp[a]? = some row) (bx:row≠[]) :cZ a<l.length:=by
 have aB:a<vs.length:=by rw[h.og]; exact (atq.1 ax).1
 obtain⟨o,n,_⟩:=h.own a vs[a] row (atu aB) ax;rcases o.lt with h1 | h1
 ·rw[h1] at n;cases row with
  | nil=>exact absurd rfl bx
  | cons=>cases n
 ·exact h1
theorem kV.frame {l l' : am} {vs:List U} {cp:List (List Nat)} {cZ:Nat->Nat} (h:kV l vs cp cZ) (aD:∀ b,b<l.length->(∃ a row,cp[a]? = some row/\row≠[]/\cZ a=b)->l'[b]? = l[b]?) :kV l' vs cp cZ:=by
 refine⟨h.og,fun a v row aq ax=>?_,h.apart⟩;obtain⟨o,n,t⟩:=h.own a v row aq ax;refine⟨?_,n,t⟩;by_cases bx:row=[]
 ·subst bx;have:=i3.1 n;subst this;exact .nil _
 ·exact o.frame fun ak=>aD _ ak ⟨a,row,ax,bx,rfl⟩
theorem kV.more {l:am} {vs:List U} {cp:List (List Nat)} {cZ:Nat->Nat} (h:kV l vs cp cZ) (x:am) :kV (l++x) vs cp cZ:=h.frame fun b ag _=>ats ag
theorem kV.app {l:am} {vs:List U} {cp:List (List Nat)} {cZ:Nat->Nat} (h:kV l vs cp cZ) {a k b:Nat} {v:U} {row:List Nat} (aq:vs[a]? = some v) (ax:cp[a]? = some row) (ag:l[b]? = some (.cells 1 [.int .i64 (k:Int)])) (aj:3<=l.length) (df:(row.length+1)*8<=ct) :
  ∃ aY l' Dc,fz l 1 8 v (.au 1 b 0 1 1 1)=some (aY,l')/\kV l' (vs.set a aY) (cp.set a (row++[k])) Dc/\l.length<=l'.length/\aY.cells=some [aY] ∧
   ∀ c,c<l.length->ot cp cZ c->l'[c]? = l[c]?/\ot (cp.set a (row++[k])) Dc c:=by
 obtain⟨o,n,t⟩:=h.own a v row aq ax;have gU:a<cp.length:=(atq.1 ax).1;obtain⟨j,VZ,lQ,Gu,UY⟩:∃ j,bJ 1 l v j (row.map hj)/\3<=j/\(∀ eQ uM,eQ≠a->cp[eQ]? = some uM->uM≠[]->cZ eQ≠j)/\∀ c,c<l.length->ot cp cZ c->j≠c:=by
  by_cases bx:row=[]
  ·subst bx;have:=i3.1 n;subst this;exact⟨l.length,.nil _,aj,fun eQ uM _ j8 uc=>by have:=h.lt j8 uc; omega,fun c ah _=>by omega⟩
  ·exact⟨cZ a,o,t.resolve_left bx,fun eQ uM Ua j8 uc=>h.apart eQ a uM row Ua j8 ax uc bx,fun c _ ap=>ap a row ax bx⟩
 obtain⟨aY,bX,l',aL,aT,a8,bu,bc,ch⟩:=ou (by_:=8) VZ (x:=.au 1 b 0 1 1 1) (xs:=[hj k]) (by simp[dp,ag,hj]) (by simp[hj]) (by omega) (by omega) (by simpa using df);have hu:cD aY=false:=by
  cases aG:cD aY with
  | true=>have:=(ch.1 (i3.1 aG)).2; cases this
  | false=>rfl
 refine⟨aY,l',fun x=>if x=a then bX else cZ x,aL,⟨by simp[h.og],fun x w M0 hw j8=>?_,fun x y wE Xo kb af az mh KB=>?_⟩,a8,aT.cells,fun c ah ap=>⟨bu c ah (fun e=>UY c ah ap e.symm),fun x wE af mh=>?_⟩⟩
 ·by_cases ka:x=a
  ·subst ka;rw[atO (by rw[h.og]; exact gU)] at hw;rw[atO gU] at j8;obtain rfl:=Option.some.inj hw;obtain rfl:=Option.some.inj j8;simp only[if_true];refine⟨by rw[atX]; exact aT,by rw[hu]; simp,.inr ?_⟩;rcases bc with e | e<;>omega
  ·rw[atF (Ne.symm ka)] at hw j8;simp only[if_neg ka];obtain⟨cJ,gY,gb⟩:=h.own x w M0 hw j8;refine⟨?_,gY,gb⟩;by_cases bx:M0=[]
   ·subst bx;have:=i3.1 gY;subst this;exact .nil _
   ·exact cJ.frame fun ak=>bu _ ak (Gu x M0 ka j8 bx)
 ·by_cases ka:x=a
  ·subst ka;rw[atF kb] at az;simp only[if_true,if_neg (Ne.symm kb)];have:=h.lt az KB;have:=Gu y Xo (Ne.symm kb) az KB;rcases bc with e | e<;>omega
  ·rw[atF (Ne.symm ka)] at af;simp only[if_neg ka];by_cases CW:y=a
   ·subst CW;simp only[if_true];have:=h.lt af mh;have:=Gu x wE ka af mh;rcases bc with e | e<;>omega
   ·rw[atF (Ne.symm CW)] at az;simp only[if_neg CW];exact h.apart x y wE Xo kb af az mh KB
 ·by_cases ka:x=a
  ·subst ka;simp only[if_true];have:=UY c ah ap;rcases bc with e | e<;>omega
  ·rw[atF (Ne.symm ka)] at af;simp only[if_neg ka];exact ap x wE af mh
def xd (ids:List (List B)) (ops:List bp) (m q a k:Nat) :Nat:=if k<m then (cU ops k).count (bV ids a) else if k=m then ((cU ops m).take q).count (bV ids a) else 0
structure uY (ids:List (List B)) (ops:List bp) (m q:Nat) (cp:List (List Nat)) :Prop where
 len:cp.length=ops.length
 cnt:∀ (a:Nat) (row:List Nat),cp[a]? = some row->∀ k,row.count k=xd ids ops m q a k
 rA:∀ (a:Nat) (row:List Nat),cp[a]? = some row->row.length<=5*m+q
theorem aiw (ids:List (List B)) (ops:List bp) :uY ids ops 0 0 (List.replicate ops.length []) :=by
 refine⟨by simp,fun a row h k=>?_,fun a row h=>?_⟩
 ·have:=auH (atz h);subst this;simp[xd]
 ·have:=auH (atz h);subst this;simp
theorem aix {ids:List (List B)} {ops:List bp} (ai:iw ids) (ak:ids.length=ops.length) {m q a:Nat} {cp:List (List Nat)} {row:List Nat} {p:List B} (h:uY ids ops m q cp) (ay:(cU ops m)[q]? = some p) (aB:ids[a]? = some p) (ax:cp[a]? = some row) :
  uY ids ops m (q+1) (cp.set a (row++[m])) :=by
 have gU:=(atq.1 ax).1;have vI:=(atq.1 aB).1;have ir:(cU ops m).take (q+1)=(cU ops m).take q++[p] :=by rw[atJ,ay]; rfl
 refine⟨by simp[h.len],fun x wE af k=>?_,fun x wE af=>?_⟩
 ·by_cases ka:x=a
  ·subst ka;rw[atO gU] at af;obtain rfl:=Option.some.inj af;rw[avs,h.cnt x row ax k];unfold xd;by_cases h1:k<m
   ·rw[if_pos h1,if_pos h1,avA];have:(m == k)=false:=by rw[beq_eq_false_iff_ne]; omega
    simp[this]
   ·rw[if_neg h1,if_neg h1];by_cases ad:k=m
    ·subst ad;rw[if_pos rfl,if_pos rfl,ir,avs,fr aB]; simp
    ·rw[if_neg ad,if_neg ad,avA];have:(m == k)=false:=by rw[beq_eq_false_iff_ne]; omega
     simp[this]
  ·rw[atF (Ne.symm ka)] at af;rw[h.cnt x wE af k];unfold xd;by_cases h1:k<m
   ·rw[if_pos h1,if_pos h1]
   ·rw[if_neg h1,if_neg h1];by_cases ad:k=m
    ·subst ad;rw[if_pos rfl,if_pos rfl,ir,avs,avA];have bn:x<ids.length:=by rw[ak,<-h.len]; exact (atq.1 af).1
     have:(p == bV ids x)=false:=by
      rw[beq_eq_false_iff_ne];intro e;rw[<-fr aB] at e;exact ka (OD ai vI bn e).symm
     rw[this]; simp
    ·rw[if_neg ad,if_neg ad]
 ·by_cases ka:x=a
  ·subst ka;rw[atO gU] at af;obtain rfl:=Option.some.inj af;have:=h.rA x row ax;simp; omega
  ·rw[atF (Ne.symm ka)] at af;have:=h.rA x wE af;omega
theorem aiv {ids:List (List B)} {ops:List bp} {m:Nat} {cp:List (List Nat)} (h:uY ids ops m (cU ops m).length cp) (aF:(cU ops m).length<=4) :uY ids ops (m+1) 0 cp:=by
 refine⟨h.len,fun a row ax k=>?_,fun a row ax=>by have:=h.rA a row ax; omega⟩;rw[h.cnt a row ax k];unfold xd;by_cases h1:k<m
 ·rw[if_pos h1,if_pos (by omega)]
 ·rw[if_neg h1];by_cases ad:k=m
  ·subst ad;rw[if_pos rfl,if_pos (by omega),atW]
  ·rw[if_neg ad,if_neg (by omega)];by_cases aj:k=m+1
   ·rw[if_pos aj]; simp
   ·rw[if_neg aj]
theorem aiu {ids:List (List B)} {ops:List bp} {cp:List (List Nat)} (h:uY ids ops ops.length 0 cp) :HY ids ops cp:=by
 refine⟨h.len,fun a row ax k hk=>?_,fun a row ax k hk=>?_⟩
 ·rw[h.cnt a row ax k]; unfold xd; rw[if_pos hk]
 ·have h1:0<row.count k:=av8.2 hk;rw[h.cnt a row ax k] at h1;unfold xd at h1;by_cases ad:k<ops.length
  ·exact ad
  ·rw[if_neg ad] at h1;split at h1<;>simp at h1
def eM (ops:List bp) (m:Nat) :List Int:=(List.range ops.length).map fun k=>if k<m then ((cU ops k).length:Int) else 0
def iH (ops:List bp) (m:Nat) :List Nat:=(List.range m).filter fun k=>(cU ops k).isEmpty
theorem YB (ops:List bp) (m:Nat) :(eM ops m).length=ops.length:=by simp[eM]
theorem HT {ops:List bp} {m k:Nat} (h:k<ops.length) :(eM ops m)[k]? = some (if k<m then ((cU ops k).length:Int) else 0) :=by
 unfold eM; rw[atw,at3 h]; rfl
theorem amG {ops:List bp} {m:Nat} (h:m<ops.length) :(eM ops m).set m ((cU ops m).length:Int)=eM ops (m+1) :=by
 apply auk;intro j;by_cases ai:j<ops.length
 ·rw[HT ai,auQ];by_cases T6:m=j
  ·subst T6;rw[if_pos rfl,if_pos (by rw[YB]; exact ai),if_pos (by omega)]
  ·rw[if_neg T6,HT ai];by_cases h1:j<m
   ·rw[if_pos h1,if_pos (by omega)]
   ·rw[if_neg h1,if_neg (by omega)]
 ·rw[atG (by simp[eM]; omega),atG (by simp[eM]; omega)]
theorem amF (ops:List bp) :eM ops ops.length=(List.range ops.length).map fun k=>((cU ops k).length:Int) :=by
 unfold eM;apply au0;intro k hk;rw[if_pos (at4.1 hk)]
theorem amH (ops:List bp) :eM ops 0=List.replicate ops.length 0:=by
 apply auk;intro j;by_cases ai:j<ops.length
 ·rw[HT ai]; simp[ai]
 ·rw[atG (by simp[eM]; omega),atG (by simp; omega)]
theorem WX (ops:List bp) (m:Nat) :iH ops (m+1)=iH ops m++(if (cU ops m).isEmpty then [m] else []) :=by
 unfold iH;rw[auK,List.filter_append];congr 1;by_cases h:(cU ops m).isEmpty=true
 ·simp[h]
 ·simp[h]
def jI (n:Int) :U:=.int .i64 n
theorem akD {l:List U} {i:Nat} {x:U} (h:i<l.length) :bz l i [x]=l.set i x:=by
 have:=oa (fun c:U=>c) l i x h;simpa using this
def cL (g:bg) (wl:List Int) (vs:List U) (rest:am) :am:=.cells 2 [aU g.ids,b4 g.ops] ::.cells g.ops.l.length (wl.map jI) ::.cells g.ops.l.length vs::rest
theorem Nt {l:am} {a b c:a2} (aE:l[0]? = some a) (h1:l[1]? = some b) (ad:l[2]? = some c) :∃ r,l=a::b::c::r:=by
 match l,aE,h1,ad with
 | eQ::bi::c'::r,aE,h1,ad=>
  simp at aE h1 ad;subst aE h1 ad;exact⟨r,rfl⟩
theorem z1 {g:bg} {w w' : List Int} {vs HL:List U} {r:am}:∀ {b:Nat},3<=b->(cL g w vs r)[b]? = (cL g w' HL r)[b]?
 | 0,h=>by omega
 | 1,h=>by omega
 | 2,h=>by omega
 | b+3,_=>rfl
theorem KG {g:bg} {w:List Int} {vs:List U} {r x:am} {b:Nat} (h:b<(cL g w vs r).length) :(cL g w vs (r++x))[b]? = (cL g w vs r)[b]?:=by
 show ((cL g w vs r)++x)[b]? = _;exact ats h
structure Ze (g:bg) (m q:Nat) (dw:U) (l:am) :Prop where
 ex:∃ (vs:List U) (cp:List (List Nat)) (cZ:Nat->Nat) (g9:Nat) (rest:am),l=cL g (eM g.ops.l m) vs rest/\kV l vs cp cZ/\uY g.ids.l g.ops.l m q cp/\bJ 1 l dw g9 ((iH g.ops.l m).map hj) ∧
  cD dw=(iH g.ops.l m).isEmpty/\(iH g.ops.l m=[]\/(3<=g9/\ot cp cZ g9))
structure Zd (g:bg) (m q:Nat) (dw:U) (b:Nat) (O:List U) (l:am) :Prop where
 ex:∃ (vs:List U) (cp:List (List Nat)) (cZ:Nat->Nat) (g9:Nat) (rest:am),l=cL g (eM g.ops.l m) vs rest/\kV l vs cp cZ/\uY g.ids.l g.ops.l m q cp/\bJ 1 l dw g9 ((iH g.ops.l m).map hj) ∧
  cD dw=(iH g.ops.l m).isEmpty/\(iH g.ops.l m=[]\/(3<=g9/\ot cp cZ g9))/\l[b]? = some (.cells 11 O)/\3<=b/\ot cp cZ b
theorem AC {cp:List (List Nat)} {l:am} {vs:List U} {cZ:Nat->Nat} {c:Nat} (fj:kV l vs cp cZ) (ah:c<3) :ot cp cZ c:=fun a row ax bx=>by
 have aB:a<vs.length:=by rw[fj.og]; exact (atq.1 ax).1
 have:=(fj.own a vs[a] row (atu aB) ax).2.2.resolve_left bx;omega
theorem Dw {cp:List (List Nat)} {l:am} {vs:List U} {cZ:Nat->Nat} {c:Nat} (fj:kV l vs cp cZ) (ah:l.length<=c) :ot cp cZ c:=fun a row ax bx=>by
 have:=fj.lt ax bx;omega
structure rV (g:bg) (vs:List U) (cp:List (List Nat)) (cZ:Nat->Nat) (W:List Int) (R:List Nat) (dw:U) (rest:am) :Prop where
 ex:∃ g9,kV (cL g W vs rest) vs cp cZ/\bJ 1 (cL g W vs rest) dw g9 (R.map hj)/\cD dw=R.isEmpty/\(R=[]\/(3<=g9/\ot cp cZ g9))
theorem rV.setW {g:bg} {vs:List U} {cp:List (List Nat)} {cZ:Nat->Nat} {W tt:List Int} {R:List Nat} {dw:U} {rest:am} (h:rV g vs cp cZ W R dw rest) :rV g vs cp cZ tt R dw rest:=by
 obtain⟨g9,fj,gT,kC,lE⟩:=h;refine⟨⟨g9,fj.frame fun b ag ⟨a,uN,h1,ad,aj⟩=>z1 (awu fun h=>AC fj h a uN h1 ad aj),?_,kC,lE⟩⟩;by_cases bx:R=[]
 ·subst bx;rw[i3.1 kC];exact .nil _
 ·exact gT.frame fun _=>z1 (lE.resolve_left bx).1
theorem rV.push {g:bg} {vs:List U} {cp:List (List Nat)} {cZ:Nat->Nat} {W:List Int} {R:List Nat} {dw:U} {rest:am} (h:rV g vs cp cZ W R dw rest) (m:Nat) (df:(R.length+1)*8<=ct) :
  ∃ aY fg,fz (cL g W vs (rest++[.cells 1 [.int .i64 (m:Int)]])) 1 8 dw (.au 1 (rest.length+3) 0 1 1 1)=some (aY,cL g W vs fg)/\rV g vs cp cZ W (R++[m]) aY fg:=by
 obtain⟨g9,vF,Fq,kC,lE⟩:=h;obtain⟨g8,LU,hI,fO⟩:∃ g8,bJ 1 (cL g W vs (rest++[.cells 1 [.int .i64 (m:Int)]])) dw g8 (R.map hj)/\3<=g8/\ot cp cZ g8:=by
  by_cases bx:R=[]
  ·subst bx;rw[i3.1 kC];exact⟨(cL g W vs (rest++[.cells 1 [.int .i64 (m:Int)]])).length,.nil _,by simp[cL],Dw vF (by simp[cL])⟩
  ·exact⟨g9,Fq.more _,(lE.resolve_left bx).1,(lE.resolve_left bx).2⟩
 obtain⟨rI,Ly,b5,aL,aT,a8,bu,bc,ch⟩:=ou (by_:=8) LU (x:=.au 1 (rest.length+3) 0 1 1 1) (xs:=[hj m]) (by simp[dp,cL,hj]) (by simp[hj]) (by omega) (by omega) (by simpa using df);have Kt:(cL g W vs (rest++[.cells 1 [.int .i64 (m:Int)]])).length=rest.length+4:=by simp[cL]
 have FY:(cL g W vs rest).length=rest.length+3:=by simp[cL]
 obtain⟨fg,rfl⟩:∃ r,b5=cL g W vs r:=Nt ((bu 0 (by omega) (by omega)).trans rfl) ((bu 1 (by omega) (by omega)).trans rfl) ((bu 2 (by omega) (by omega)).trans rfl);have K7:cD rI=false:=by
  cases aG:cD rI with
  | true=>have:=(ch.1 (i3.1 aG)).2; cases this
  | false=>rfl
 refine⟨rI,fg,aL,⟨⟨Ly,?_,?_,?_,.inr ⟨?_,?_⟩⟩⟩⟩
 ·exact vF.frame fun b ag ⟨a,uN,h1,ad,aj⟩=>(bu b (by omega) (fun e=>fO a uN h1 ad (by omega))).trans (KG ag)
 ·rw[atX]; exact aT
 ·rw[K7]; simp
 ·rcases bc with e | e<;>omega
 ·rcases bc with e | e
  ·rw[e]; exact fO
  ·exact Dw vF (by omega)
set_option maxHeartbeats 8000000 in
theorem akf (g:bg) (ar:fG g) (ak:g.ids.l.length=g.ops.l.length) (pI:g.ops.l.length<=60) (aF:∀ o∈g.ops.l,o.bo.l.length<=4) :bw Tryz.prog GS 96 [db g] (.int .i64 (qn g.ids.l g.ops.l)) :=by
 refine bP Tryz.checked.mixed bC ?_;apply bj Tryz.func96 [];have k6:ct=140737488355328:=rfl;have eN:=gM g.ids;have dj:=mU g.ops;have oG:=EE g;have ew:cP (.au 11) (b4 g.ops)=some (.int .i64 g.ops.l.length) :=by simp[b4]
 have gN:cP (.au 32) (aU g.ids)=some (.int .i64 g.ops.l.length) :=by simp[aU,ak]
 simp[db,dS];refine cF (g.ops.l.length - 1) (fun k ae l=>l=[.cells 2 [aU g.ids,b4 g.ops]]/\ae 1=.ptr 0 0 2/\ae 3=.int .i64 ((k+1:Nat) :Int)/\∀ j,j<k+1->j<g.ids.l.length->1<=j->cl (bV g.ids.l (j - 1)) (bV g.ids.l j)<0) ?_ ⟨by simp,by simp,by simp,fun j h1 _ ad=>by omega⟩;rintro k ae l hk ⟨rfl,aL,a8,al⟩;obtain⟨ae,rfl⟩:=qu aL a8;clear aL a8;obtain⟨m,hm⟩:∃ m,m=k+1:=⟨_,rfl⟩
 rw[<-hm] at al ⊢;by_cases aK:m<g.ops.l.length
 ·obtain⟨x,af,cX⟩:=bA (l:=g.ids.l) (k:=k) (by omega);obtain⟨y,az,cO⟩:=bA (l:=g.ids.l) (k:=m) (by omega);have aQ:IntKind.i64.wrap ((m:Int) - 1)=(k:Int) :=by rw[IntKind.wrap_i64]; omega
  have bF:IntKind.i64.wrap ((m:Int)+1)=((m+1:Nat) :Int) :=by rw[IntKind.wrap_i64]; omega
  have gd:=fr af;have o0:=fr az;have fa:cj (.au 32) (aU g.ids) (.int .i64 (k:Int))=some (.b6 (aR x) 0) :=by simp[aU,af]
  have CA:cj (.au 32) (aU g.ids) (.int .i64 (m:Int))=some (.b6 (aR y) 0) :=by simp[aU,az]
  have bn:=cQ (ar.ids x cX);have cx:=cQ (ar.ids y cO);have hR:=zl x y (ar.ids x cX) (ar.ids y cO);unfold fM at hR;change bw Tryz.prog GS 149 [.aM (aR x),.aM (aR y)] _ at hR;have iA:=g6 x;have nR:=g6 y;obtain⟨X,cT⟩:∃ X,X=aR x:=⟨_,rfl⟩
  obtain⟨Y,ev⟩:∃ Y,Y=aR y:=⟨_,rfl⟩
  rw[<-cT] at fa bn hR iA;rw[<-ev] at CA cx hR nR;simp[gN,aK,aQ,fa,CA,bn,cx,atr];refine bf hR (by simp[bm,U.closed,iA,nR]) ?_;by_cases ah:cl x y<0
  ·have e3:¬ (0<=cl x y) :=by omega
   simp[e3,bF];refine⟨by omega,fun j h1 ad aj=>?_⟩;have ej:cl (bV g.ids.l (j - 1)) (bV g.ids.l j)<0:=by
    by_cases ai:j=m
    ·rw[ai,show m - 1=k by omega,gd,o0]; exact ah
    ·exact al j (by omega) ad aj
   simpa [bV] using ej
  ·have e3:0<=cl x y:=by omega
   simp[e3];refine aP (congrArg (U.int .i64) ?_) rfl;have dF:dN g.ids.l=false:=Xb (k:=m) (by omega) (by omega) (by rw[show m - 1=k by omega,gd,o0]; exact ah);unfold qn;rw[dF]; rfl
 ·have ax:dN g.ids.l=true:=MM fun j h1 ad=>al j (by omega) h1 ad
  have ai:=nl ax;obtain⟨aS,_⟩:=Dj (z:=1) (by_:=8) (n:=g.ops.l.length) (k:=.i64) (k':=.i64) (zero:=[U.int .i64 0]) (l:=[a2.cells 2 [aU g.ids,b4 g.ops]]) rfl (by omega) (by rw[k6]; omega);obtain⟨aX,_⟩:=Dj (z:=1) (by_:=24) (n:=g.ops.l.length) (k:=.i64) (k':=.i64) (zero:=[U.a1]) (l:=[a2.cells 2 [aU g.ids,b4 g.ops],a2.cells g.ops.l.length (List.replicate g.ops.l.length (U.int .i64 0))]) rfl (by omega) (by rw[k6]; omega);simp only[auW,MH (α:=Nat)] at aS aX;simp[gN,ew,aK,aS,aX];refine cF g.ops.l.length (fun m ae l=>ae 1=.ptr 0 0 2/\ae 4=.au 1 1 0 g.ops.l.length g.ops.l.length g.ops.l.length/\ae 5=.au 1 2 0 g.ops.l.length g.ops.l.length g.ops.l.length/\ae 45=b4 g.ops/\ae 46=.int .i64 g.ops.l.length/\ae 47=.int .i64 m ∧
   Ze g m 0 (ae 6) l/\∀ i,i<m->l4 g.ids.l (cU g.ops.l i)=true) ?_ ?_
  ·rintro m ae l hm ⟨aL,bu,bc,tL,tM,tN,jf,eC⟩;obtain⟨dw,ch⟩:∃ v,ae 6=v:=⟨_,rfl⟩
   rw[ch] at jf;obtain⟨ae,rfl⟩:=Yg aL bu bc ch tL tM tN;clear aL bu bc ch tL tM tN;by_cases oQ:m<g.ops.l.length
   ·obtain⟨o,ap,dZ⟩:=bA oQ;have aQ:IntKind.i64.wrap ((m:Int)+1)=((m+1:Nat) :Int) :=by rw[IntKind.wrap_i64]; omega
    have cc:cj (.au 11) (b4 g.ops) (.int .i64 (m:Int))=some (.b6 (bl o) 0) :=by simp[b4,ap]
    have mj:=ar.ops o dZ;have gy:=aF o dZ;have oT:cU g.ops.l m=o.bo.l:=my ap;have nb:cP (.au 32) (aU o.bo)=some (.int .i64 o.bo.l.length) :=by simp[aU]
    have sf:(bl o).length=11:=rfl;have jL:∀ h:1<(bl o).length,(bl o)[1]'h=aU o.bo:=fun _=>rfl
    obtain⟨O,eS⟩:∃ O,O=bl o:=⟨_,rfl⟩
    rw[<-eS] at cc sf jL;have k9:bz [U.int .u32 0,.a1,.int .u64 0,.int .u8 0,.str [],.int .u8 0,.int .i64 0,.int .u64 0,.str [],.int .u32 0,.int .u32 0] 0 O=O:=fE (by rw[sf]; rfl);simp[oQ,cc,sf,jL,nb,k9,atr];obtain⟨y9,Fx⟩:∃ y9,y9=l.length:=⟨_,rfl⟩
    rw[<-Fx];refine cF o.bo.l.length (fun q ae l=>ae 1=.ptr 0 0 2/\ae 4=.au 1 1 0 g.ops.l.length g.ops.l.length g.ops.l.length/\ae 5=.au 1 2 0 g.ops.l.length g.ops.l.length g.ops.l.length/\ae 6=dw/\ae 7=.int .i64 m/\ae 8=.ptr y9 0 11/\ae 45=b4 g.ops/\ae 46=.int .i64 g.ops.l.length/\ae 47=.int .i64 m ∧
     ae 53=aU o.bo/\ae 54=.int .i64 o.bo.l.length/\ae 55=.int .i64 q/\Zd g m q dw y9 O l/\∀ (j:Nat) (p:List B),j<q->o.bo.l[j]? = some p->p∈g.ids.l) ?_ ?_
    ·rintro q ae l aZ ⟨aL,bu,bc,ch,ei,eu,tL,tM,tN,Sk,Sl,Sm,tS,x5⟩;obtain⟨ae,rfl⟩:=alL aL bu bc ch ei eu tL tM tN Sk Sl Sm;clear aL bu bc ch ei eu tL tM tN Sk Sl Sm;obtain⟨vs,cp,cZ,g9,rest,rfl,fj,m2,gT,kC,lE,ag,mc,sk⟩:=tS;by_cases uf:q<o.bo.l.length
     ·obtain⟨p,ay,oS⟩:=bA uf;have bF:IntKind.i64.wrap ((q:Int)+1)=((q+1:Nat) :Int) :=by rw[IntKind.wrap_i64]; omega
      have hS:cj (.au 32) (aU o.bo) (.int .i64 (q:Int))=some (.b6 (aR p) 0) :=by simp[aU,ay]
      have Um:=mj.ids p oS;have bn:=cQ Um;have iA:=g6 p;have zR:=abT g ar ax p Um;unfold db dS at zR oG;obtain⟨X,cT⟩:∃ X,X=aR p:=⟨_,rfl⟩
      rw[<-cT] at hS bn iA zR;have oX:bz (rep 32 (.int .u8 0)) 0 X=X:=fE (by rw[bn]; rfl);simp[cL,uf,hS,bn,oX,atr];refine bf zR (by simp[bm,U.closed,iA,eN,dj]) ?_;by_cases vU:p∈g.ids.l
      ·obtain⟨jH,fK⟩:=atx.1 vU;have adO:=EF ax fK;have ape:=(atq.1 fK).1;have apf:jH<g.ops.l.length:=by omega
       have jn:vs.length=g.ops.l.length:=by rw[fj.og,m2.len]
       obtain⟨h3,Ac,_⟩:=bA (l:=vs) (k:=jH) (by omega);obtain⟨row,cC,_⟩:=bA (l:=cp) (k:=jH) (by rw[m2.len]; omega);obtain⟨l1,fW⟩:∃ l1,l1=cL g (eM g.ops.l m) vs (rest++[.cells 32 X,.cells 1 [.int .i64 (m:Int)]]) :=⟨_,rfl⟩
       have Fm:kV l1 vs cp cZ:=by rw[fW]; exact fj.more _
       have Ks:l1.length=rest.length+5:=by rw[fW]; simp[cL]
       have nW:=m2.rA jH row cC;obtain⟨aY,b5,Dc,aL,aT,a8,bu,bc⟩:=Fm.app (b:=rest.length+4) (k:=m) Ac cC (by rw[fW]; simp[cL]) (by omega) (by rw[k6]; omega);have dH:=bc 0 (by omega) (AC Fm (by omega));have q1:=bc 1 (by omega) (AC Fm (by omega));have gn:=bc 2 (by omega) (AC Fm (by omega));obtain⟨fg,rfl⟩:∃ r,b5=cL g (eM g.ops.l m) vs r:=Nt (dH.1.trans (by rw[fW]; rfl)) (q1.1.trans (by rw[fW]; rfl)) (gn.1.trans (by rw[fW]; rfl));have FU:cj (.au 1) (.au 1 2 0 g.ops.l.length g.ops.l.length g.ops.l.length) (.int .i64 (jH:Int))=some (.ptr 2 jH g.ops.l.length) :=by
        simp only[cj];rw[if_pos ⟨trivial,by omega,by omega⟩];simp
       rw[fW] at aL;unfold cL at aL;simp[vU,adO,FU,Ac,aL];refine c0.cq ?_;have vW:bz vs jH [aY]=vs.set jH aY:=akD (by omega);simp[cL,bu,FU,vW,jn];have iB:∀ c,3<=c->c<(cL g (eM g.ops.l m) vs rest).length->ot cp cZ c->(cL g (eM g.ops.l m) (vs.set jH aY) fg)[c]? = (cL g (eM g.ops.l m) vs rest)[c]?/\ot (cp.set jH (row++[m])) Dc c:=by
        intro c aj dE ap;obtain⟨b9,b0⟩:=bc c (by simp[cL] at dE; omega) ap;exact⟨(z1 aj).trans (b9.trans (by rw[fW]; exact KG dE)),b0⟩
       have Kn:iH g.ops.l m≠[]->g9<(cL g (eM g.ops.l m) vs rest).length:=fun bx=>by
        rcases gT.lt with h | h
        ·rw[h] at kC;cases fJ:iH g.ops.l m with
         | nil=>exact absurd fJ bx
         | cons=>rw[fJ] at kC; cases kC
        ·exact h
       have fB:=(atq.1 ag).1;obtain⟨f1,f2⟩:=iB y9 mc fB sk;refine⟨by omega,uf,by rw[IntKind.wrap_i64]; omega,⟨⟨vs.set jH aY,cp.set jH (row++[m]),Dc,g9,fg,rfl,?_,aix ai ak m2 (by rw[oT]; exact ay) fK cC,?_,kC,?_,f1.trans ag,mc,f2⟩⟩,fun j bI ej fR=>?_⟩
       ·exact aT.frame fun b ag ⟨a,uN,h1,ad,aj⟩=>by
         have aF:3<=b:=awu fun h=>AC aT h a uN h1 ad aj
         exact z1 aF
       ·by_cases bx:iH g.ops.l m=[]
        ·rw[bx] at kC gT ⊢;rw[i3.1 kC];exact .nil _
        ·obtain⟨h1,ad⟩:=lE.resolve_left bx;exact gT.frame fun h=>(iB g9 h1 (Kn bx) ad).1
       ·by_cases bx:iH g.ops.l m=[]
        ·exact .inl bx
        ·obtain⟨h1,ad⟩:=lE.resolve_left bx;exact .inr ⟨h1,(iB g9 h1 (Kn bx) ad).2⟩
       ·by_cases aeA:j=q
        ·subst aeA; rw[ay] at fR; obtain rfl:=Option.some.inj fR; exact vU
        ·exact x5 j bI (by omega) fR
      ·simp[vU];refine aP (congrArg (U.int .i64) ?_) rfl;have dF:¬ Du g.ids.l g.ops.l=true:=fun h=>by
        have:=of_decide_eq_true h o dZ;exact vU (of_decide_eq_true this p oS)
       unfold qn;rw[if_pos ax,if_neg dF]
     ·have p2:q=o.bo.l.length:=by omega
      rw[p2] at m2;rw[<-oT] at m2;have SQ:=aiv m2 (by rw[oT]; exact gy);have jn:vs.length=g.ops.l.length:=by rw[fj.og,m2.len]
      have Uv:eo (cL g (eM g.ops.l m) vs rest) (.ptr y9 1 11)=some (O,1) :=by simp only[eo,ag]; rfl
      have Cx:cj (.au 1) (.au 1 1 0 g.ops.l.length g.ops.l.length g.ops.l.length) (.int .i64 (m:Int))=some (.ptr 1 m g.ops.l.length) :=by
       simp only[cj];rw[if_pos ⟨trivial,by omega,by omega⟩];simp
      have K0:jT 1 (cL g (eM g.ops.l m) vs rest) (.ptr 1 m g.ops.l.length) (.int .i64 o.bo.l.length)=some (cL g (eM g.ops.l (m+1)) vs rest) :=by
       have h1:(cL g (eM g.ops.l m) vs rest)[1]? = some (.cells g.ops.l.length ((eM g.ops.l m).map jI)) :=rfl;simp only[jT,U.cells,h1];rw[if_pos (by simp; omega)];have ad:bz ((eM g.ops.l m).map jI) m [U.int .i64 o.bo.l.length]=(eM g.ops.l (m+1)).map jI:=by
        rw[<-amG oQ,oT];exact oa jI (eM g.ops.l m) m _ (by rw[YB]; exact oQ)
       rw[ad]; rfl
      have CN:eo (cL g (eM g.ops.l (m+1)) vs rest) (.ptr 1 m g.ops.l.length)=some ((eM g.ops.l (m+1)).map jI,m) :=by
       have h1:(cL g (eM g.ops.l (m+1)) vs rest)[1]? = some (.cells g.ops.l.length ((eM g.ops.l (m+1)).map jI)) :=rfl;simp only[eo,h1]; simp
      have FS:((eM g.ops.l (m+1)).map jI)[m]? = some (.int .i64 o.bo.l.length) :=by
       rw[atw,HT oQ,if_pos (by omega),oT]; rfl
      have apu:∀ h:m<((eM g.ops.l (m+1)).map jI).length,((eM g.ops.l (m+1)).map jI)[m]'h=.int .i64 o.bo.l.length:=fun h=>(atq.1 FS).2
      have SN:O[1]? = some (aU o.bo) :=by rw[atu (by rw[sf]; omega),jL]
      have vF:kV (cL g (eM g.ops.l (m+1)) vs rest) vs cp cZ:=fj.frame fun b ag ⟨a,uN,h1,ad,aj⟩=>z1 (awu fun h=>AC fj h a uN h1 ad aj)
      have Fq:bJ 1 (cL g (eM g.ops.l (m+1)) vs rest) dw g9 ((iH g.ops.l m).map hj) :=by
       by_cases bx:iH g.ops.l m=[]
       ·rw[bx] at kC ⊢;rw[i3.1 kC];exact .nil _
       ·exact gT.frame fun _=>z1 (lE.resolve_left bx).1
      have Fu:∀ i,i<m+1->l4 g.ids.l (cU g.ops.l i)=true:=fun i av=>by
       by_cases aes:i=m
       ·subst aes;rw[oT];refine decide_eq_true fun p ay=>?_
        obtain⟨j,ej⟩:=atx.1 ay;exact x5 j p (by rw[p2]; exact (atq.1 ej).1) ej
       ·exact eC i (by omega)
      by_cases aw:o.bo.l.length=0
      ·have aeM:cP (.au 32) (aU o.bo)=some (.int .i64 0) :=by rw[nb,aw]; rfl
       have afJ:jT 1 (cL g (eM g.ops.l m) vs rest) (.ptr 1 m g.ops.l.length) (.int .i64 0)=some (cL g (eM g.ops.l (m+1)) vs rest) :=by rw[aw] at K0; exact K0
       have aeg:((eM g.ops.l (m+1)).map jI)[m]? = some (.int .i64 0) :=by rw[aw] at FS; exact FS
       have p3:iH g.ops.l (m+1)=iH g.ops.l m++[m] :=by
        rw[WX,oT,aug.1 aw]; rfl
       obtain⟨g8,LU,hI,fO⟩:∃ g8,bJ 1 (cL g (eM g.ops.l (m+1)) vs (rest++[.cells 1 [.int .i64 (m:Int)]])) dw g8 ((iH g.ops.l m).map hj)/\3<=g8/\ot cp cZ g8:=by
        by_cases bx:iH g.ops.l m=[]
        ·rw[bx] at kC ⊢;rw[i3.1 kC];exact⟨(cL g (eM g.ops.l (m+1)) vs (rest++[.cells 1 [.int .i64 (m:Int)]])).length,.nil _,by simp[cL],Dw vF (by simp[cL])⟩
        ·exact⟨g9,Fq.more _,(lE.resolve_left bx).1,(lE.resolve_left bx).2⟩
       have nW:(iH g.ops.l m).length<=m:=by
        have:=avW (fun k=>(cU g.ops.l k).isEmpty) (List.range m);simpa [iH] using this
       obtain⟨rI,Ly,b5,aL,aT,a8,bu,bc,ch⟩:=ou (by_:=8) LU (x:=.au 1 (rest.length+3) 0 1 1 1) (xs:=[hj m]) (by simp[dp,cL,hj]) (by simp[hj]) (by omega) (by omega) (by rw[k6]; simp; omega);have Kt:(cL g (eM g.ops.l (m+1)) vs (rest++[.cells 1 [.int .i64 (m:Int)]])).length=rest.length+4:=by simp[cL]
       obtain⟨fg,rfl⟩:∃ r,b5=cL g (eM g.ops.l (m+1)) vs r:=Nt ((bu 0 (by omega) (by omega)).trans rfl) ((bu 1 (by omega) (by omega)).trans rfl) ((bu 2 (by omega) (by omega)).trans rfl);have KK:cL g (eM g.ops.l (m+1)) vs rest++[a2.cells 1 [.int .i64 (m:Int)]]=cL g (eM g.ops.l (m+1)) vs (rest++[.cells 1 [.int .i64 (m:Int)]]) :=rfl;have FY:(cL g (eM g.ops.l (m+1)) vs rest).length=rest.length+3:=by simp[cL]
       simp[uf,Uv,SN,aeM,Cx,afJ,CN,aeg,KK,FY,aL];refine c0.cq ?_;simp;have K7:cD rI=false:=by
        cases aG:cD rI with
        | true=>have:=(ch.1 (i3.1 aG)).2; cases this
        | false=>rfl
       refine⟨oQ,by rw[IntKind.wrap_i64]; omega,⟨⟨vs,cp,cZ,Ly,fg,rfl,?_,SQ,?_,?_,.inr ⟨?_,?_⟩⟩⟩,Fu⟩
       ·exact vF.frame fun b ag ⟨a,uN,h1,ad,aj⟩=>(bu b (by omega) (fun e=>fO a uN h1 ad (by omega))).trans (KG ag)
       ·rw[p3,atX]; exact aT
       ·rw[K7,p3]; simp
       ·rcases bc with e | e<;>omega
       ·rcases bc with e | e
        ·rw[e]; exact fO
        ·exact Dw vF (by omega)
      ·have p3:iH g.ops.l (m+1)=iH g.ops.l m:=by
        rw[WX,oT];have:o.bo.l.isEmpty=false:=by cases fJ:o.bo.l with | nil=>rw[fJ] at aw; exact absurd rfl aw | cons=>rfl
        rw[this]; simp
       simp[uf,Uv,SN,nb,Cx,K0,CN,FS,aw];exact⟨oQ,by rw[IntKind.wrap_i64]; omega,⟨⟨vs,cp,cZ,g9,rest,rfl,vF,SQ,by rw[p3]; exact Fq,by rw[p3]; exact kC,by rw[p3]; exact lE⟩⟩,Fu⟩
    ·simp;obtain⟨vs,cp,cZ,g9,rest,rfl,fj,m2,gT,kC,lE⟩:=jf;refine⟨⟨vs,cp,cZ,g9,rest++[.cells 11 O],rfl,fj.more _,m2,gT.more _,kC,lE,by rw[Fx,atC (att _)]; simp,by rw[Fx]; simp[cL],Dw fj (by rw[Fx]; exact att _)⟩⟩
   ·have iq:m=g.ops.l.length:=by omega
    subst iq;obtain⟨vs,cp,cZ,agJ,ajI,rfl,SM,m2,vG,adf,ade⟩:=jf;have JC:=aiu m2;have jn:vs.length=g.ops.l.length:=by rw[SM.og,m2.len]
    have gx:Du g.ids.l g.ops.l=true:=decide_eq_true fun o dZ=>by
     obtain⟨j,ej⟩:=atx.1 dZ;have:=eC j (atq.1 ej).1
     rwa [my ej] at this
    have SK:=ag8 (ids:=g.ids.l) (ops:=g.ops.l) ak;rw[<-amF] at SK;have adg:rV g vs cp cZ (eM g.ops.l g.ops.l.length) (iH g.ops.l g.ops.l.length) dw ajI:=⟨⟨agJ,SM,vG,adf,ade⟩⟩
    simp;refine cF g.ops.l.length (fun d ae l=>ae 1=.ptr 0 0 2/\ae 4=.au 1 1 0 g.ops.l.length g.ops.l.length g.ops.l.length/\ae 5=.au 1 2 0 g.ops.l.length g.ops.l.length g.ops.l.length/\ae 13=.int .i64 d ∧
     ∃ W R rest,l=cL g W vs rest/\rV g vs cp cZ W R (ae 6) rest/\rT g.ids.l g.ops.l [] d 0 R W) ?_ ?_
    ·rintro d ae l bq ⟨aL,bu,bc,h8,W,R,rest,rfl,jf,aV⟩;obtain⟨dw,ch⟩:∃ v,ae 6=v:=⟨_,rfl⟩
     rw[ch] at jf;obtain⟨ae,rfl⟩:=kU aL bu bc ch h8;clear aL bu bc ch h8;have JN:cP (.au 1) dw=some (.int .i64 R.length) :=by obtain⟨g9,_,gT,_⟩:=jf; have:=gT.len; simpa using this
     have kC:R.length<=g.ops.l.length:=by
      have:=uP (b:=List.range g.ops.l.length) aV.hY fun x af=>at4.2 (aV.oy x af).1
      simpa using this
     by_cases Cq:d<R.length
     ·obtain⟨a,aB,adq⟩:=bA Cq;have adr:=(aV.oy a adq).1;have aQ:IntKind.i64.wrap ((d:Int)+1)=((d+1:Nat) :Int) :=by rw[IntKind.wrap_i64]; omega
      obtain⟨row,cC,_⟩:=bA (l:=cp) (k:=a) (by rw[m2.len]; exact adr);obtain⟨h3,Ac,_⟩:=bA (l:=vs) (k:=a) (by omega);obtain⟨g9,fj,gT,SR,lE⟩:=jf;obtain⟨Mh,h6,A6,dM,dy,gL,lw⟩:=gT.q.get (k:=.i64) (i:=d) (e:=hj a) (by rw[atw,aB]; rfl);have tv:=one_cell (c:=.int .i64 (a:Int)) lw;have FU:cj (.au 1) (.au 1 2 0 g.ops.l.length g.ops.l.length g.ops.l.length) (.int .i64 (a:Int))=some (.ptr 2 a g.ops.l.length) :=by
       simp only[cj];rw[if_pos ⟨trivial,by omega,by omega⟩];simp
      have CO:∀ tt ln,eo (cL g tt vs ln) (.ptr 2 a g.ops.l.length)=some (vs,a) :=fun tt ln=>by
       have h1:(cL g tt vs ln)[2]? = some (.cells g.ops.l.length vs) :=rfl;simp only[eo,h1]; simp
      have K9:=(fj.own a h3 row Ac cC).1;have afQ:cP (.au 1) h3=some (.int .i64 row.length) :=by have:=K9.len; simpa using this
      have nW:=m2.rA a row cC;simp[JN,Cq,dM,dy,tv,FU,CO,Ac,afQ];refine cF row.length (fun j ae l=>ae 1=.ptr 0 0 2/\ae 4=.au 1 1 0 g.ops.l.length g.ops.l.length g.ops.l.length/\ae 5=.au 1 2 0 g.ops.l.length g.ops.l.length g.ops.l.length/\ae 13=.int .i64 d/\ae 106=h3/\ae 107=.int .i64 row.length/\ae 108=.int .i64 j ∧
       ∃ W R rest,l=cL g W vs rest/\rV g vs cp cZ W R (ae 6) rest/\rT g.ids.l g.ops.l row d j R W/\R[d]? = some a) ?_ ?_
      ·rintro j ae l Kn ⟨aL,bu,bc,h8,Sa,Sb,Sc,W,R,rest,rfl,jf,aV,aB⟩;obtain⟨dw,ch⟩:∃ v,ae 6=v:=⟨_,rfl⟩
       rw[ch] at jf;obtain⟨ae,rfl⟩:=Yh aL bu bc ch h8 Sa Sb Sc;clear aL bu bc ch h8 Sa Sb Sc;by_cases eO:j<row.length
       ·obtain⟨k,hk,m9⟩:=bA eO;have gW:=JC.lt a row cC k m9;obtain⟨x,af,Ah,apV,Cf⟩:=ag9 ak ai JC aV aB cC hk;have apW:(cU g.ops.l k).length<=4:=by
         obtain⟨cJ,ek,afa⟩:=bA gW;rw[my ek]; exact aF cJ afa
        have aQ:IntKind.i64.wrap ((j:Int)+1)=((j+1:Nat) :Int) :=by rw[IntKind.wrap_i64]; omega
        have bF:IntKind.i64.wrap (x - 1)=x - 1:=by rw[IntKind.wrap_i64]; omega
        obtain⟨g9,fj,gT,SR,lE⟩:=id jf;have K9:=(fj.own a h3 row Ac cC).1;obtain⟨Mh,h6,A6,dM,dy,gL,lw⟩:=K9.q.get (k:=.i64) (i:=j) (e:=hj k) (by rw[atw,hk]; rfl);have tv:=one_cell (c:=.int .i64 (k:Int)) lw;have Cx:cj (.au 1) (.au 1 1 0 g.ops.l.length g.ops.l.length g.ops.l.length) (.int .i64 (k:Int))=some (.ptr 1 k g.ops.l.length) :=by
         simp only[cj];rw[if_pos ⟨trivial,by omega,by omega⟩];simp
        have apd:=aV.wl;have CN:eo (cL g W vs rest) (.ptr 1 k g.ops.l.length)=some (W.map jI,k) :=by
         have h1:(cL g W vs rest)[1]? = some (.cells g.ops.l.length (W.map jI)) :=rfl;simp only[eo,h1]; simp
        have eY:(W.map jI)[k]? = some (.int .i64 x) :=by rw[atw,af]; rfl
        have cw:jT 1 (cL g W vs rest) (.ptr 1 k g.ops.l.length) (.int .i64 (x - 1))=some (cL g (W.set k (x - 1)) vs rest) :=by
         have h1:(cL g W vs rest)[1]? = some (.cells g.ops.l.length (W.map jI)) :=rfl;simp only[jT,U.cells,h1];rw[if_pos (by simp; omega)];have ad:bz (W.map jI) k [U.int .i64 (x - 1)]=(W.set k (x - 1)).map jI:=oa jI W k _ (by omega);rw[ad]; rfl
        have CO:eo (cL g (W.set k (x - 1)) vs rest) (.ptr 1 k g.ops.l.length)=some ((W.set k (x - 1)).map jI,k) :=by
         have h1:(cL g (W.set k (x - 1)) vs rest)[1]? = some (.cells g.ops.l.length ((W.set k (x - 1)).map jI)) :=rfl;simp only[eo,h1]; simp
        have FR:((W.set k (x - 1)).map jI)[k]? = some (.int .i64 (x - 1)) :=by rw[atw,atO (by omega)]; rfl
        have JP:rV g vs cp cZ (W.set k (x - 1)) R dw rest:=jf.setW;obtain⟨hf,Fs⟩:∃ hf,hf=W.set k (x - 1) :=⟨_,rfl⟩
        rw[<-Fs] at cw CO FR JP Cf;by_cases aw:x - 1=0
        ·rw[if_pos aw] at Cf;have dz:IntKind.i64.wrap (x - 1)=0:=by rw[bF]; exact aw
         rw[aw] at cw FR;have ao8:R.length<=g.ops.l.length:=by
          have:=uP (b:=List.range g.ops.l.length) aV.hY fun x af=>at4.2 (aV.oy x af).1
          simpa using this
         obtain⟨aY,fg,np,uG⟩:=JP.push k (by rw[k6]; omega);have KK:cL g hf vs rest++[a2.cells 1 [.int .i64 (k:Int)]]=cL g hf vs (rest++[.cells 1 [.int .i64 (k:Int)]]) :=rfl;have FY:(cL g hf vs rest).length=rest.length+3:=by simp[cL]
         simp[eO,dM,dy,tv,Cx,CN,eY,dz,cw,CO,FR,KK,FY,np];refine c0.cq ?_;simp[eO,aQ];exact⟨hf,R++[k],fg,rfl,uG,Cf,by rw[ats (atq.1 aB).1]; exact aB⟩
        ·rw[if_neg aw] at Cf;simp[eO,dM,dy,tv,Cx,CN,eY,bF,cw,CO,FR,aw,aQ];exact⟨hf,R,rest,rfl,JP,Cf,aB⟩
       ·have aez:j=row.length:=by omega
        subst aez;simp[eO];exact⟨by omega,by rw[IntKind.wrap_i64]; omega,W,R,rest,rfl,jf,ag6 JC aV aB cC⟩
      ·simp;exact⟨W,R,rest,rfl,⟨⟨g9,fj,gT,SR,lE⟩⟩,ag7 aV,aB⟩
     ·have adX:d=R.length:=by have:=aV.dl; omega
      subst adX;obtain⟨hI,fO⟩:=ag5 ak ai aV;by_cases oP:R.length<g.ops.l.length
      ·simp[JN,Cq,cL,ew,oP];refine aP (congrArg (U.int .i64) ?_) rfl;unfold qn;rw[if_pos ax,if_pos gx,if_neg (fun h=>by have:=fO.2 h; omega)]
      ·simp[JN,Cq,cL,ew,oP];refine aP (congrArg (U.int .i64) ?_) rfl;unfold qn;rw[if_pos ax,if_pos gx,if_pos (fO.1 (by omega))]
    ·simp;exact⟨_,_,_,rfl,adg,SK⟩
  ·simp;refine⟨⟨List.replicate g.ops.l.length .a1,List.replicate g.ops.l.length [],fun _=>0,0,[],?_,⟨by simp,fun a v row aq afy=>?_,fun a b lU nq _ aB _ Kz _=>?_⟩,aiw _ _,.nil _,rfl,.inl rfl⟩⟩
   ·unfold cL; rw[amH,awc]; rfl
   ·have h1:=auH (atz aq);have ad:=auH (atz afy);subst h1 ad;exact⟨.nil _,rfl,.inl rfl⟩
   ·exact absurd (auH (atz aB)) Kz
set_option maxHeartbeats 4000000 in
theorem HP (g:bg) (ar:fG g) :bw Tryz.prog GS 52 [db g] (.int .i64 (eW g)) :=by
 refine bP Tryz.checked.mixed bC ?_;apply bj Tryz.func52 [];have eN:=gM g.ids;have dj:=mU g.ops;have oG:=EE g;have ew:cP (.au 11) (b4 g.ops)=some (.int .i64 g.ops.l.length) :=by simp[b4]
 have gN:cP (.au 32) (aU g.ids)=some (.int .i64 g.ids.l.length) :=by simp[aU]
 have bh:=ar.cN;by_cases pI:60<(g.ops.l.length:Int)
 ·simp[db,dS,ew,pI];refine aP (congrArg (U.int .i64) ?_) rfl;unfold eW; rw[if_pos (by omega)]
 by_cases ak:g.ids.l.length=g.ops.l.length
 ·have c1:(g.ids.l.length:Int)=(g.ops.l.length:Int) :=by omega
  simp[db,dS,ew,gN,pI,c1];refine cF g.ops.l.length (fun k ae l=>(∃ rest,l=.cells 2 [aU g.ids,b4 g.ops] ::rest)/\ae 1=.ptr 0 0 2/\ae 19=b4 g.ops/\ae 20=.int .i64 g.ops.l.length/\ae 21=.int .i64 k/\∀ j,j<k->oz g j=true) ?_ (by simp);rintro k ae l hk ⟨⟨rest,rfl⟩,aL,sa,Sf,tK,al⟩;obtain⟨ae,rfl⟩:=iv aL sa Sf tK;clear aL sa Sf tK;by_cases cI:k<g.ops.l.length
  ·obtain⟨o,ap,dZ⟩:=bA cI;obtain⟨x,af,cX⟩:=bA (l:=g.ids.l) (k:=k) (by omega);have gl:=Fb ap af;have aQ:IntKind.i64.wrap ((k:Int)+1)=((k+1:Nat) :Int) :=by rw[IntKind.wrap_i64]; omega
   have cc:cj (.au 11) (b4 g.ops) (.int .i64 (k:Int))=some (.b6 (bl o) 0) :=by simp[b4,ap]
   have qZ:cj (.au 32) (aU g.ids) (.int .i64 (k:Int))=some (.b6 (aR x) 0) :=by simp[aU,af]
   have aq:=amo o (ar.ops o dZ);have gV:=al9 o (ar.ops o dZ);change bw Tryz.prog GS 94 [.aM (bl o)] (.bG [.aM (aR (jQ o)),.int .i64 (fY o)]) at gV;have qU:=pA o;have bn:=cQ (ar.ids x cX);have Ce:=cQ (Li o);have di:(bl o).length=11:=rfl;have heq:=Gq (Li o) (ar.ids x cX);have qR:¬ oz g k=true->eW g=8:=fun h=>by
    unfold eW;rw[if_neg (by omega),if_pos ak,if_neg fun aG=>h ((zB g).1 aG k cI)]
   obtain⟨O,eS⟩:∃ O,O=bl o:=⟨_,rfl⟩
   obtain⟨X,cT⟩:∃ X,X=aR x:=⟨_,rfl⟩
   obtain⟨I,qN⟩:∃ I,I=aR (jQ o) :=⟨_,rfl⟩
   rw[<-eS] at cc aq gV qU di;rw[<-cT] at qZ bn heq;rw[<-qN] at gV heq Ce;have k9:bz [U.int .u32 0,.a1,.int .u64 0,.int .u8 0,.str [],.int .u8 0,.int .i64 0,.int .u64 0,.str [],.int .u32 0,.int .u32 0] 0 O=O:=fE (by rw[di]; rfl);have KY:bz (rep 32 (.int .u8 0)) 0 I=I:=fE (by rw[Ce]; rfl);simp[cI,cc,di,k9,atr];refine bf gV (by simp[bm,U.closed,qU]) ?_;by_cases aE:fY o=0
   ·by_cases fa:jQ o=x
    ·simp[aE,Ce,KY,qZ,bn,heq,fa,di,atr];refine bf aq (by simp[bm,U.closed,qU]) ?_;by_cases sw:qv o=0
     ·simp[sw,cI,aQ];intro j ai;by_cases fQ:j=k
      ·subst fQ; rw[gl]; simp[sw,fa]
      ·exact al j (by omega)
     ·have ag:¬ oz g k=true:=fun h=>by rw[gl] at h; simp[sw] at h
      simp[sw];exact aP (congrArg (U.int .i64) (qR ag).symm) rfl
    ·have ag:¬ oz g k=true:=fun h=>by rw[gl] at h; simp[fa] at h
     simp[aE,Ce,KY,qZ,bn,heq,fa,di,atr];exact aP (congrArg (U.int .i64) (qR ag).symm) rfl
   ·have ag:¬ oz g k=true:=fun h=>by
     rw[gl,atv,decide_eq_true_eq] at h;exact aE (A0 h.1)
    simp[aE,Ce,KY,qZ,bn,heq,di,atr];exact aP (congrArg (U.int .i64) (qR ag).symm) rfl
  ·have oL:k=g.ops.l.length:=by omega
   have eC:Fa g=true:=(zB g).2 fun j ai=>al j (by omega)
   have aF:∀ o∈g.ops.l,o.bo.l.length<=4:=fun o dZ=>by
    obtain⟨j,ai⟩:=atx.1 dZ;obtain⟨x,af,_⟩:=bA (l:=g.ids.l) (k:=j) (by have:=(atq.1 ai).1; omega);have h1:=(zB g).1 eC j (atq.1 ai).1;rw[Fb ai af,atv,decide_eq_true_eq] at h1;exact AA (A0 h1.1)
   have oW:=akf g ar ak (by omega) aF;unfold db dS at oW oG;simp[cI];refine bf oW (by simp[bm,oG]) ?_;simp;refine aP (congrArg (U.int .i64) ?_) rfl;unfold eW;rw[if_neg (by omega),if_pos ak,if_pos eC]
 ·have c1:¬ (g.ids.l.length:Int)=(g.ops.l.length:Int) :=by omega
  simp[db,dS,ew,gN,pI,c1];refine aP (congrArg (U.int .i64) ?_) rfl;unfold eW; rw[if_neg (by omega),if_neg ak]
def tQ (o:bp) :Bool:=decide (20<o.bo.l.length)||(decide (100<o.act.key.length)||decide (100<o.act.val.text.length))
theorem ai3 (o:bp) :bw Tryz.prog GS 38 [.aM (bl o)] (.bool (tQ o)) :=by
 refine bP Tryz.checked.mixed bC ?_;apply bj Tryz.func38 [];unfold tQ;have nb:cP (.au 32) (aU o.bo)=some (.int .i64 o.bo.l.length) :=by simp[aU]
 by_cases h1:20<o.bo.l.length
 ·have dC:(20:Int)<(o.bo.l.length:Int) :=by omega
  simp[bl,nb,h1,dC];exact aP rfl rfl
 ·have dC:¬ (20:Int)<(o.bo.l.length:Int) :=by omega
  by_cases ad:100<o.act.key.length
  ·have gS:(100:Int)<(o.act.key.length:Int) :=by omega
   simp[bl,nb,h1,dC,ad,gS];exact aP rfl rfl
  ·have gS:¬ (100:Int)<(o.act.key.length:Int) :=by omega
   simp[bl,nb,h1,dC,ad,gS];refine aP (congrArg U.bool ?_) rfl;by_cases aj:100<o.act.val.text.length
   ·have vC:(100:Int)<(o.act.val.text.length:Int) :=by omega
    simp[aj,vC]
   ·have vC:¬ (100:Int)<(o.act.val.text.length:Int) :=by omega
    simp[aj,vC]
def vB (g:bg) :Bool:=decide (∃ o∈g.ops.l.take 71,tQ o=true)||(decide (16<g.ops.l.length/\g.ops.l.length<=60)||(decide (70<g.ops.l.length)||decide (70<g.ids.l.length)))
theorem ai2 (g:bg) :bw Tryz.prog GS 10 [db g] (.bool (vB g)) :=by
 refine bP Tryz.checked.mixed bC ?_;apply bj Tryz.func10 [];have ew:cP (.au 11) (b4 g.ops)=some (.int .i64 g.ops.l.length) :=by simp[b4]
 have gN:cP (.au 32) (aU g.ids)=some (.int .i64 g.ids.l.length) :=by simp[aU]
 simp[db,dS];refine cF (min g.ops.l.length 71) (fun k ae l=>l=[.cells 2 [aU g.ids,b4 g.ops]]/\ae 1=.ptr 0 0 2/\ae 3=.int .i64 k/\∀ (j:Nat) (o:bp),j<k->g.ops.l[j]? = some o->tQ o=false) ?_ (by simp);rintro k ae l hk ⟨rfl,aL,a8,al⟩;obtain⟨ae,rfl⟩:=qu aL a8;clear aL a8;by_cases cI:k<g.ops.l.length
 ·by_cases TR:k<=70
  ·obtain⟨o,ap,dZ⟩:=bA cI;have aQ:IntKind.i64.wrap ((k:Int)+1)=((k+1:Nat) :Int) :=by rw[IntKind.wrap_i64]; omega
   have cc:cj (.au 11) (b4 g.ops) (.int .i64 (k:Int))=some (.b6 (bl o) 0) :=by simp[b4,ap]
   have aq:=ai3 o;have qU:=pA o;have di:(bl o).length=11:=rfl;have Kp:(k:Int)<=70:=by omega
   have m9:k<min g.ops.l.length 71:=by omega
   obtain⟨O,eS⟩:∃ O,O=bl o:=⟨_,rfl⟩
   rw[<-eS] at cc aq qU di;simp[ew,cI,TR,Kp,cc,di,atr];refine bf aq (by simp[bm,U.closed,qU]) ?_;by_cases oJ:tQ o=true
   ·simp[oJ];refine aP (congrArg U.bool ?_) rfl;unfold vB;rw[decide_eq_true ⟨o,atz (i:=k) (by rw[atP (by omega)]; exact ap),oJ⟩]; rfl
   ·rw[avU] at oJ;simp[oJ,aQ];refine⟨by omega,fun j cJ ai ek=>?_⟩;by_cases fQ:j=k
    ·subst fQ; rw[ap] at ek; obtain rfl:=Option.some.inj ek; exact oJ
    ·exact al j cJ (by omega) ek
  ·have Kp:¬ (k:Int)<=70:=by omega
   have aC:¬ ∃ o∈g.ops.l.take 71,tQ o=true:=fun ⟨o,dZ,oJ⟩=>by
    obtain⟨j,ai⟩:=atx.1 dZ;have eO:=(atq.1 ai).1;rw[atN] at eO;rw[atP (by omega)] at ai;rw[al j o (by omega) ai] at oJ; cases oJ
   have aS:(16:Int)<(g.ops.l.length:Int) :=by omega
   have aX:¬ (g.ops.l.length:Int)<=60:=by omega
   have a3:(70:Int)<(g.ops.l.length:Int) :=by omega
   simp[ew,gN,cI,TR,Kp,aS,aX,a3];refine aP (congrArg U.bool ?_) rfl;unfold vB;simp[show 70<g.ops.l.length by omega]
 ·have aC:¬ ∃ o∈g.ops.l.take 71,tQ o=true:=fun ⟨o,dZ,oJ⟩=>by
   obtain⟨j,ai⟩:=atx.1 dZ;have eO:=(atq.1 ai).1;rw[atN] at eO;rw[atP (by omega)] at ai;rw[al j o (by omega) ai] at oJ; cases oJ
  have aeh:vB g=(decide (16<g.ops.l.length/\g.ops.l.length<=60)||(decide (70<g.ops.l.length)||decide (70<g.ids.l.length))) :=by
   unfold vB; rw[decide_eq_false aC]; rfl
  rw[aeh];have d1:decide ((16:Int)<(g.ops.l.length:Int))=decide (16<g.ops.l.length) :=by rw[decide_eq_decide]; omega
  have d2:decide ((g.ops.l.length:Int)<=60)=decide (g.ops.l.length<=60) :=by rw[decide_eq_decide]; omega
  have d3:decide ((70:Int)<(g.ops.l.length:Int))=decide (70<g.ops.l.length) :=by rw[decide_eq_decide]; omega
  have d4:decide ((70:Int)<(g.ids.l.length:Int))=decide (70<g.ids.l.length) :=by rw[decide_eq_decide]; omega
  by_cases aS:16<g.ops.l.length
  ·have qD:(16:Int)<(g.ops.l.length:Int) :=by omega
   by_cases aX:g.ops.l.length<=60
   ·have Eg:(g.ops.l.length:Int)<=60:=by omega
    simp[ew,gN,cI,aS,qD,aX,Eg];exact aP rfl rfl
   ·have Eg:¬ (g.ops.l.length:Int)<=60:=by omega
    by_cases a3:70<g.ops.l.length
    ·have Bk:(70:Int)<(g.ops.l.length:Int) :=by omega
     simp[ew,gN,cI,aS,qD,aX,Eg,a3,Bk];exact aP rfl rfl
    ·have Bk:¬ (70:Int)<(g.ops.l.length:Int) :=by omega
     simp[ew,gN,cI,aS,qD,aX,Eg,a3,Bk];exact aP (congrArg U.bool d4) rfl
  ·have qD:¬ (16:Int)<(g.ops.l.length:Int) :=by omega
   have a3:¬ 70<g.ops.l.length:=by omega
   have Bk:¬ (70:Int)<(g.ops.l.length:Int) :=by omega
   simp[ew,gN,cI,aS,qD,a3,Bk];exact aP (congrArg U.bool d4) rfl
def mw (l:List bp) (k:Nat) :bp:=l.getD k ⟨0,none,0,⟨0,[],⟨0,0,0,[]⟩⟩,0,0⟩
theorem sR {l:List bp} {k:Nat} {o:bp} (h:l[k]? = some o) :mw l k=o:=by unfold mw; rw[atE,h]; rfl
structure kv (g:bg) :Prop where
 n60:g.ops.l.length<=60
 len:g.ids.l.length=g.ops.l.length
 kY:∀ (k:Nat) (o:bp) (x:List B),g.ops.l[k]? = some o->g.ids.l[k]? = some x->qv o=0/\jQ o=x
 dN:dN g.ids.l=true
 G6:∀ o∈g.ops.l,∀ p∈o.bo.l,p∈g.ids.l
 all:∀ i,i<g.ops.l.length->pm g.ids.l g.ops.l i
theorem qh {g:bg} (h:eW g=0) :kv g:=by
 unfold eW at h;split at h
 ·cases h
 ·rename_i pI;split at h
  ·rename_i ak;split at h
   ·rename_i gl;unfold qn at h;split at h
    ·rename_i ax;split at h
     ·rename_i gx;split at h
      ·rename_i ng;refine⟨by omega,ak,fun k o x ap af=>?_,ax,fun o dZ p ay=>?_,(V9 ak (nl ax)).1 ng⟩
       ·have:=(zB g).1 gl k (atq.1 ap).1;rw[Fb ap af,atv,decide_eq_true_eq,decide_eq_true_eq] at this;exact this
       ·exact of_decide_eq_true (of_decide_eq_true gx o dZ) p ay
      ·cases h
     ·cases h
    ·cases h
   ·cases h
  ·cases h
def GF (g:bg) (x:List B) :Int:=if eW g=0 then (if x∈g.ids.l then (tE g.ids.l x:Int) else 0) else 0
def GD (g:bg) (x:List B) :Int:=if eW g=0 then (if x∈g.ids.l then 0 else 6) else eW g
set_option maxHeartbeats 2000000 in
theorem ahq (g:bg) (ar:fG g) (x:List B) (af:x.length=32) :bw Tryz.prog GS 132 [db g,.aM (aR x)] (.bG [.int .i64 (GF g x),.int .i64 (GD g x)]) :=by
 refine bP Tryz.checked.mixed bC ?_;apply bj Tryz.func132 [];unfold GF GD;have eN:=gM g.ids;have dj:=mU g.ops;have dr:=HP g ar;have iA:=g6 x;have bn:=cQ af;unfold db dS at dr;by_cases aE:eW g=0
 ·have V:=qh aE;have al:=Xp g.ids ar.ids ar.li x af V.dN;obtain⟨X,cT⟩:∃ X,X=aR x:=⟨_,rfl⟩
  rw[<-cT] at al iA bn ⊢;rw[aE] at dr;simp[db,dS,bn,atr];refine bf dr (by simp[bm,U.closed,eN,dj]) ?_;simp[bn,atr];refine bf al (by simp[bm,U.closed,eN,iA]) ?_;by_cases hm:x∈g.ids.l
  ·simp[hm,aE];exact aP rfl rfl
  ·simp[hm,aE];exact aP rfl rfl
 ·obtain⟨X,cT⟩:∃ X,X=aR x:=⟨_,rfl⟩
  rw[<-cT] at iA bn ⊢;simp[db,dS,bn,atr];refine bf dr (by simp[bm,U.closed,eN,dj]) ?_;simp[aE];exact aP rfl rfl
def js (ids:List (List B)) (seen:List Bool) (k:Nat) :List (List B) :=(List.range k).flatMap fun i=>if seen.getD i false=true then [bV ids i] else []
theorem GV (ids:List (List B)) (seen:List Bool) (k:Nat) :js ids seen (k+1)=js ids seen k++(if seen.getD k false=true then [bV ids k] else []) :=by
 unfold js; rw[auK,auR]; simp
theorem GU (ids:List (List B)) (seen:List Bool) :∀ k,(js ids seen k).length<=k
 | 0=>by simp[js]
 | k+1=>by
  have:=GU ids seen k;rw[GV,atB];split<;>simp<;>omega
theorem VO {ids:List (List B)} {seen:List Bool} {x:List B}:∀ {k:Nat},x∈js ids seen k<->∃ i,i<k/\seen.getD i false=true/\bV ids i=x:=by
 intro k;unfold js;rw[awm];constructor
 ·rintro⟨i,av,af⟩;split at af
  ·rename_i al;rw[atM] at af;exact⟨i,at4.1 av,al,af.symm⟩
  ·cases af
 ·rintro⟨i,av,al,af⟩;exact⟨i,at4.2 av,by rw[if_pos al,af]; simp⟩
set_option maxHeartbeats 2000000 in
theorem ahE (g:bg) (ar:fG g) (seen:dR Bool) (al:seen.l.length=g.ids.l.length) :bw Tryz.prog GS 89 [db g,cK 1 h7 seen] (aU (fp (js g.ids.l seen.l seen.l.length))) :=by
 refine bP Tryz.checked.mixed bC ?_;apply bj Tryz.func89 [];have ax:ct=140737488355328:=rfl;have gN:=ar.li;have e4:cP (.au 1) (cK 1 h7 seen)=some (.int .i64 seen.l.length) :=qc _;simp[db,dS,e4];refine cF seen.l.length (fun k ae l=>ae 1=cK 1 h7 seen/\ae 2=.ptr 0 0 2/\ae 8=.int .i64 seen.l.length/\ae 9=.int .i64 k/\∃ j rest,l=.cells 2 [aU g.ids,b4 g.ops] ::rest ∧
  bJ 32 l (ae 5) j ((js g.ids.l seen.l k).map aR)/\(ae 5=.a1\/1<=j)/\cD (ae 5)=(js g.ids.l seen.l k).isEmpty) ?_ ?_
 ·rintro k ae l hk ⟨aL,aT,eu,hn,j,rest,rfl,j7,ai,hU⟩;obtain⟨v,bc⟩:∃ v,ae 5=v:=⟨_,rfl⟩
  rw[bc] at j7 ai hU;obtain⟨ae,rfl⟩:=kU aL aT bc eu hn;clear aL aT bc eu hn;by_cases cI:k<seen.l.length
  ·obtain⟨b,ag,_⟩:=bA cI;obtain⟨x,af,cX⟩:=bA (l:=g.ids.l) (k:=k) (by omega);have aQ:IntKind.i64.wrap ((k:Int)+1)=((k+1:Nat) :Int) :=by rw[IntKind.wrap_i64]; omega
   have cc:cj (.au 1) (cK 1 h7 seen) (.int .i64 (k:Int))=some (.b6 [.bool b] 0) :=by rw[ra]; simp[ag,h7]
   have ji:cj (.au 32) (aU g.ids) (.int .i64 (k:Int))=some (.b6 (aR x) 0) :=by simp[aU,af]
   have x7:seen.l.getD k false=b:=by rw[atE,ag]; rfl
   have bn:=cQ (ar.ids x cX);have lL:=GU g.ids.l seen.l k;have p5:=GV g.ids.l seen.l k;rw[x7] at p5;cases b with
   | false=>
    simp at p5;simp[cI,cc,aQ];rw[p5];exact⟨j,j7,ai,hU⟩
   | true=>
    rw[if_pos rfl,fr af] at p5;obtain⟨aY,bX,cr,aS,aX,a3,a4⟩:=Bo (by_:=32) (pre:=[.cells 2 [aU g.ids,b4 g.ops]]) (rest:=rest++[.cells 32 (aR x)]) (j7.more _) ai (x:=.au 32 (rest.length+1) 0 1 1 32) (xs:=[aR x])
     (by simp[dp,bn,atr]) (by simp[bn]) (by omega) (by omega) (by rw[ax]; simp; omega)
    have cC:(js g.ids.l seen.l (k+1)).map aR=(js g.ids.l seen.l k).map aR++[aR x] :=by rw[p5]; simp
    obtain⟨X,cT⟩:∃ X,X=aR x:=⟨_,rfl⟩
    rw[<-cT] at ji bn aS aX cC;have oX:bz (rep 32 (.int .u8 0)) 0 X=X:=fE (by rw[bn]; rfl);simp only[auM,auB] at aS;simp[cI,cc,ji,bn,oX,atr,aS];refine c0.cq ?_;simp[cI,aQ];refine⟨bX,by rw[cC]; exact aX,by simpa using a3,by rw[a4,p5]; simp⟩
  ·have oL:k=seen.l.length:=by omega
   subst oL;simp[cI];exact j7.q.yD (fun x=>g6 x) (fp _) (by rw[hU,uQ]) (gQ _)
 ·have aE:js g.ids.l seen.l 0=[] :=rfl;simp[aE];exact⟨⟨0,.nil 0⟩,rfl⟩
theorem It:∀ l:List B,eU (l.map bB) (l.map bB)=true
 | []=>rfl
 | x::l=>by
  have h1:U.beq (bB x) (bB x)=true:=by simp[bB,U.beq]
  show (U.beq (bB x) (bB x)&&eU (l.map bB) (l.map bB))=true;rw[h1,It l]; rfl
theorem ZP (x:List B) :U.beq (.aM (aR x)) (.aM (aR x))=true:=It x
theorem Jd {x:List B} (h:x.length=32) :kL Tryz.prog 48 (.aM (aR x))=true:=by
 have h1:rf Tryz.prog 8 48=true:=by kernel_rfl
 have ad:dW Tryz.prog 48=some true:=by kernel_rfl
 have aj:cv Tryz.prog 48=some 32:=by kernel_rfl
 have aF:(x.map bB).all sY=true:=by rw[aue]; intro c ah; obtain⟨b,_,rfl⟩:=atV.1 ah; rfl
 show (rf Tryz.prog 8 48&&(match dW Tryz.prog 48,cv Tryz.prog 48 with | some true,some m=>Nat.beq (x.map bB).length m | _,_=>false)&&(x.map bB).all sY)=true;rw[h1,ad,aj,aF,atU,h];rfl
theorem VJ:∀ {a b:List B},a.map (fun x=>u x)=b.map (fun x=>u x)<->a=b
 | [],[]=>by simp
 | [],_::_=>by simp
 | _::_,[]=>by simp
 | x::a,y::b=>by
  rw[atY,atY,List.cons.injEq,List.cons.injEq,VJ (a:=a) (b:=b)];simp
theorem aby {a b:List B} (aB:a.length=32) (ag:b.length=32) {D:Nat}:ez Tryz.prog (D+2) 48 (.aM (aR a)) (.aM (aR b))=some (decide (a=b)) :=by
 have h:=abA (P:=Tryz.prog) (t:=48) (e:=5) (k:=.u8) (n:=32) (by kernel_rfl) (by kernel_rfl) (by kernel_rfl) (by kernel_rfl) (x:=a.map fun x=>u x) (y:=b.map fun x=>u x) (by simp[aB]) (by simp[ag]) (D:=D);rw[avw,avw] at h;unfold aR;rw[show a.map bB=a.map (U.int .u8 ∘ fun x=>u x) from rfl,show b.map bB=b.map (U.int .u8 ∘ fun x=>u x) from rfl,h];simp only[VJ]
inductive rQ:Nat->List (U × U × Nat)->List (List B)->Prop
 | nil (b:Nat) :rQ b [] []
 | cons {b:Nat} {es:List (U × U × Nat)} {bN:List (List B)} {k:List B} (n:Nat) (hk:k.length=32) (h:rQ (b+1) es bN) :rQ b ((.aM (aR k),.int .i64 (b:Int),n) ::es) (k::bN)
theorem rQ.len {b:Nat} {es:List (U × U × Nat)} {bN:List (List B)} (h:rQ b es bN) :es.length=bN.length:=by induction h<;>simp_all
theorem rQ.snoc {b:Nat} {es:List (U × U × Nat)} {bN:List (List B)} (h:rQ b es bN) {k:List B} (hk:k.length=32) (n:Nat) :rQ b (es++[(.aM (aR k),.int .i64 ((b+bN.length:Nat) :Int),n)]) (bN++[k]) :=by
 induction h with
 | nil b=>exact .cons n hk (.nil _)
 | @cons b es bN k' m eK h aH=>
  refine .cons m eK ?_;rw[show b+1+bN.length=b+(k'::bN).length by simp; omega] at aH;exact aH
theorem RS {x:List B} (af:x.length=32) {b:Nat} {es:List (U × U × Nat)} {bN:List (List B)} (h:rQ b es bN) :∀ c,(∀ i,bN[i]? = some x->(∀ j,j<i->bN[j]?≠some x)->jd Tryz.prog 48 (.aM (aR x)) es c=some (some (c+i,.int .i64 ((b+i:Nat) :Int))))/\(x∉bN->jd Tryz.prog 48 (.aM (aR x)) es c=some none) :=by
 induction h with
 | nil b=>intro c; exact⟨fun i h=>by simp at h,fun _=>rfl⟩
 | @cons b es bN k n hk h aH=>
  intro c;unfold jd;rw[Jd hk];simp only;rw[show ez Tryz.prog 10000 48 (.aM (aR x)) (.aM (aR k))=some (decide (x=k)) from aby af hk (D:=9998)];by_cases ao:x=k
  ·subst ao;simp only[decide_true,ZP];refine⟨fun i av dF=>?_,fun h=>absurd (by simp) h⟩;cases i with
   | zero=>rfl
   | succ i=>exact absurd rfl (dF 0 (by omega))
  ·simp only[ao,decide_false];obtain⟨h1,ad⟩:=aH (c+1);refine⟨fun i av dF=>?_,fun h=>ad (fun h'=>h (by simp[h']))⟩;cases i with
   | zero=>simp at av; exact absurd av.symm ao
   | succ i=>
    rw[h1 i (by simpa using av) (fun j ai=>by have:=dF (j+1) (by omega); simpa using this)];rw[show c+1+i=c+(i+1) by omega,show b+1+i=b+(i+1) by omega]
structure mK (l:am) (j:Nat) (bN:List (List B)) :Prop where
 e:∃ es ey,l[j]? = some (.map es ey)/\rQ 0 es bN
theorem mK.look {l:am} {j:Nat} {bN:List (List B)} (h:mK l j bN) (ai:iw bN) {x:List B} (af:x.length=32) {i:Nat} (av:bN[i]? = some x) :wi Tryz.prog l 48 (.int .i64 0) false (.mp j) (.aM (aR x))=some (.int .i64 (i:Int)) :=by
 obtain⟨es,ey,h1,ad⟩:=h.e;have aj:sL l (.mp j)=some es:=by simp[sL,h1]
 unfold wi;rw[aj];simp only[Jd af];rw[(RS af ad 0).1 i av (fun t aI aG=>by have:=ai t i x aG av; omega)];simp
theorem mK.put {l:am} {j:Nat} {bN:List (List B)} (h:mK l j bN) {x:List B} (af:x.length=32) (aC:x∉bN) :∃ c,sM Tryz.prog l 48 (.mp j) (.aM (aR x)) (.int .i64 (bN.length:Int))=some (l.set j c)/\(∀ l' : am,l'[j]? = some c->mK l' j (bN++[x])) :=by
 obtain⟨es,ey,h1,ad⟩:=h.e;unfold sM;simp only[h1,Jd af,(RS af ad 0).2 aC];exact⟨_,rfl,fun l' c1=>⟨_,_,c1,by have:=ad.snoc af ey; rw[auF] at this; exact this⟩⟩
theorem mK.frame {l l' : am} {j:Nat} {bN:List (List B)} (h:mK l j bN) (ai:l'[j]? = l[j]?) :mK l' j bN:=by
 obtain⟨es,ey,h1,ad⟩:=h.e;exact⟨es,ey,by rw[ai,h1],ad⟩
theorem mK.lt {l:am} {j:Nat} {bN:List (List B)} (h:mK l j bN) :j<l.length:=by
 obtain⟨es,ey,h1,ad⟩:=h.e;exact (atq.1 h1).1
theorem ahz {P:Program} {aA:Operand->U} {l:am} {o:Operand} {k:IntKind} {n:Int} (h:aA o=.int k n) :bO P aA l (.uA (some o))=some (.mp l.length,l++[.map [] 0]) :=by
 show (match asInt (aA o) with | some _=>some (U.mp l.length,l++[a2.map [] 0]) | none=>none)=_;rw[h]; rfl
set_option maxHeartbeats 2000000 in
theorem Wl (g:bg) (ar:fG g) (ai:iw g.ids.l) {l:am} {K:U->am->Prop} (aV:∀ j l',mK l' j g.ids.l->l.length<=j->(∀ c,c<l.length->l'[c]? = l[c]?)->l.length<=l'.length->K (.mp j) l') :
  c7 Tryz.prog GS 88 [db g] l (c:=⟨K⟩) :=by
 apply bj Tryz.func88 [];have gN:=ar.li;have e4:cP (.au 32) (aU g.ids)=some (.int .i64 g.ids.l.length) :=by simp[aU]
 simp[db,dS,e4];rw[ahz (k:=.i64) (n:=g.ids.l.length) (by simp)];simp[e4];refine cF g.ids.l.length (fun k ae l'=>ae 3=.mp (l.length+1)/\ae 11=aU g.ids/\ae 12=.int .i64 g.ids.l.length/\ae 13=.int .i64 k/\mK l' (l.length+1) (g.ids.l.take k)/\(∀ c,c<l.length->l'[c]? = l[c]?)) ?_ ?_
 ·rintro k ae l' hk ⟨a8,hQ,fA,h8,lD,iB⟩;obtain⟨ae,rfl⟩:=iv a8 hQ fA h8;clear a8 hQ fA h8;by_cases cI:k<g.ids.l.length
  ·obtain⟨x,af,cX⟩:=bA cI;have aQ:IntKind.i64.wrap ((k:Int)+1)=((k+1:Nat) :Int) :=by rw[IntKind.wrap_i64]; omega
   have ji:cj (.au 32) (aU g.ids) (.int .i64 (k:Int))=some (.b6 (aR x) 0) :=by simp[aU,af]
   have nk:=ar.ids x cX;have bn:=cQ nk;have cw:g.ids.l.take (k+1)=g.ids.l.take k++[x] :=by rw[atJ,af]; rfl
   have dF:x∉g.ids.l.take k:=fun hm=>by
    obtain⟨t,aI⟩:=atx.1 hm;have la:=(atq.1 aI).1;rw[atN] at la;rw[atP (by omega)] at aI;have:=ai t k x aI af; omega
   have aK:=lD.lt;have adb:mK (l'++[.cells 32 (aR x)]) (l.length+1) (g.ids.l.take k) :=lD.frame (ats aK);obtain⟨c,ca,cy⟩:=adb.put nk dF;have h9:(g.ids.l.take k).length=k:=by rw[atN]; omega
   rw[h9] at ca;obtain⟨X,cT⟩:∃ X,X=aR x:=⟨_,rfl⟩
   rw[<-cT] at ji bn ca;have oX:bz (rep 32 (.int .u8 0)) 0 X=X:=fE (by rw[bn]; rfl);simp[cI,ji,bn,oX,atr,ca,aQ];refine⟨?_,fun c' e3=>?_⟩
   ·rw[cw];exact cy _ (by rw[atO (by simp; omega)])
   ·rw[atF (by omega),ats (by omega)];exact iB c' e3
  ·have oL:k=g.ids.l.length:=by omega
   rw[oL,atW] at lD;simp[cI];exact aV _ _ lD (by omega) iB (by have:=lD.lt; omega)
 ·simp;refine⟨⟨[],0,by simp,.nil 0⟩,fun c ah=>by rw[ats ah]⟩
inductive iL (ids:List (List B)) (ops:List bp) (L:List (List B)) :Nat->Prop
 | start (p:List B) (j:Nat) (ay:p∈L) (ai:ids[j]? = some p) :iL ids ops L j
 | step (i:Nat) (p:List B) (j:Nat) (h:iL ids ops L i) (ay:p∈cU ops i) (ai:ids[j]? = some p) :iL ids ops L j
theorem iL.mono {ids:List (List B)} {ops:List bp} {L N2:List (List B)} (al:∀ p∈L,p∈N2) {i:Nat} (h:iL ids ops L i) :iL ids ops N2 i:=by
 induction h with
 | start p j ay ai=>exact .start p j (al p ay) ai
 | step i p j _ ay ai aH=>exact .step i p j aH ay ai
theorem iL.under {ids:List (List B)} {ops:List bp} {L:List (List B)} {i:Nat} (av:iL ids ops L i) {j:Nat} (h:iL ids ops (cU ops i) j) :iL ids ops L j:=by
 induction h with
 | start p j ay ai=>exact .step i p j av ay ai
 | step iZ p j _ ay ai aH=>exact .step iZ p j aH ay ai
structure pr (ids:List (List B)) (ops:List bp) (L:List (List B)) (S hJ:List Bool) :Prop where
 len:hJ.length=S.length
 mono:∀ (i:Nat),S[i]? = some true->hJ[i]? = some true
 st:∀ p∈L,∀ (j:Nat),ids[j]? = some p->hJ[j]? = some true
 new:∀ (i:Nat),hJ[i]? = some true->S[i]? = some true\/(iL ids ops L i/\∀ p∈cU ops i,∀ (j:Nat),ids[j]? = some p->hJ[j]? = some true)
theorem Yp (ids:List (List B)) (ops:List bp) (S:List Bool) :pr ids ops [] S S:=⟨rfl,fun _ h=>h,fun p ay=>by simp at ay,fun _ h=>.inl h⟩
theorem Yq {ids:List (List B)} {ops:List bp} {L:List (List B)} {p:List B} {S N3 jD:List Bool} (h1:pr ids ops L S N3) (ad:pr ids ops [p] N3 jD) :pr ids ops (L++[p]) S jD:=by
 refine⟨ad.len.trans h1.len,fun i h=>ad.mono i (h1.mono i h),fun q aZ j ai=>?_,fun i h=>?_⟩
 ·rw[atQ] at aZ;rcases aZ with aZ | aZ
  ·exact ad.mono j (h1.st q aZ j ai)
  ·exact ad.st q aZ j ai
 ·rcases ad.new i h with aj | ⟨aj,aF⟩
  ·rcases h1.new i aj with aW | ⟨aW,bt⟩
   ·exact .inl aW
   ·exact .inr ⟨aW.mono fun q aZ=>by simp[aZ],fun q aZ j ai=>ad.mono j (bt q aZ j ai)⟩
  ·exact .inr ⟨aj.mono fun q aZ=>by simp at aZ; simp[aZ],aF⟩
theorem alZ {ids:List (List B)} {ops:List bp} (dY:iw ids) {p:List B} {i:Nat} {S:List Bool} (av:ids[i]? = some p) (al:S[i]? = some true) :pr ids ops [p] S S:=by
 refine⟨rfl,fun _ h=>h,fun q aZ j ai=>?_,fun _ h=>.inl h⟩;rw[atM] at aZ;subst aZ;rw[dY j i q ai av];exact al
theorem al0 {ids:List (List B)} {ops:List bp} (dY:iw ids) {p:List B} {i:Nat} {S jD:List Bool} (av:ids[i]? = some p) (ak:i<S.length) (h:pr ids ops (cU ops i) (S.set i true) jD) :pr ids ops [p] S jD:=by
 have hit:jD[i]? = some true:=h.mono i (atO ak);have Uw:iL ids ops [p] i:=.start p i (by simp) av;refine⟨by rw[h.len]; simp,fun j ai=>h.mono j ?_,fun q aZ j ai=>?_,fun j ai=>?_⟩
 ·by_cases ho:i=j
  ·subst ho; exact atO ak
  ·rw[atF ho]; exact ai
 ·rw[atM] at aZ;subst aZ;rw[dY j i q ai av];exact hit
 ·rcases h.new j ai with h1 | ⟨h1,ad⟩
  ·by_cases ho:i=j
   ·subst ho;exact .inr ⟨Uw,fun q aZ t aI=>h.st q aZ t aI⟩
   ·rw[atF ho] at h1;exact .inl h1
  ·exact .inr ⟨Uw.under h1,ad⟩
theorem alY {ids:List (List B)} {ops:List bp} {L:List (List B)} {n:Nat} {S:List Bool} (h:pr ids ops L (List.replicate n false) S) (i:Nat) :S[i]? = some true<->iL ids ops L i:=by
 have dF:∀ (j:Nat),(List.replicate n false)[j]?≠some true:=fun j ai=>by
  have:=auH (atz ai);cases this
 constructor
 ·intro av;rcases h.new i av with h1 | ⟨h1,_⟩
  ·exact absurd h1 (dF i)
  ·exact h1
 ·intro av
  induction av with
  | start p j ay ai=>exact h.st p ay j ai
  | step i p j _ ay ai aH=>
   rcases h.new i aH with h1 | ⟨_,ad⟩
   ·exact absurd h1 (dF i)
   ·exact ad p ay j ai
end Op

end Go.b2

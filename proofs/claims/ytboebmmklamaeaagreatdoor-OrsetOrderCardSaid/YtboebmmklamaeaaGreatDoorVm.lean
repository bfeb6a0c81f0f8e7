/-
  Sets of tags: greatness, a copy, searching, putting in; walked.
-/
import Derived.Test.YtboebmmklamaeaaGreatDoorVl
import Derived.Test.YtboebmmklamaeaaGreatDoorRows
import Derived.Shelf.SlSortCmp.WholeK
import Derived.Shelf.SlGeneric
set_option linter.unusedVariables false
set_option linter.unusedSimpArgs false
set_option linter.unnecessarySimpa false
namespace Go.cn
open Go Go.Proofs
set_option maxRecDepth 100000
namespace Op
open hA
theorem Yh (s:fK) :gc Tryz.prog .eql 22 (cO 33 b9 s) .aX=some (.bool s.isNone) :=Fu (e:=77) (by kernel_rfl) 33 b9 s
theorem zI {l:List bn} (h:iE l) :((l.map b9).flatten).length=l.length*33:=by
 rw[lk (z:=33) (fun e aw=>by obtain⟨y,aK,rfl⟩:=List.mem_map.1 aw; exact kL (h y aK)),List.length_map]
theorem Lp {l:av} {b n:Nat} {a:List bn} (aG:iE a) (aH:a.length=n) (ai:l[b]? = some (.cells (n*33) (a.map b9).flatten)) :bX 33 l (.ao 33 b 0 n n (n*33)) b (a.map b9) :=by
 have fv:=zI aG;refine .ao b n n (n*33) _ _ ai (by rw[fv,aH]) (by simp[aH]) (fun e aw=>?_) (Nat.le_refl _) (Nat.le_refl _) ?_
 ·obtain⟨y,aK,rfl⟩:=List.mem_map.1 aw; exact kL (aG y aK)
 ·rw[List.take_of_length_le (by rw[fv,aH]; omega)]
theorem afP (s:fK) (ay:iE s.l) (ar:s.l.length<=1000000) {l:av} {K:ae->av->Prop} (aT:s=none->K .aX l)
  (h1:∀ a,s=some a->K (.ao 33 l.length 0 a.length a.length (a.length*33)) (l++[.cells (a.length*33) (a.map b9).flatten])) :
  dh Tryz.prog GS 39 [dV s] l (c:=⟨K⟩) :=by
 apply bH RU aaN;unfold Hk Nh;have aC:cT=140737488355328:=rfl;cases s with
 | none=>
  simp[dV,Yh];exact aT rfl
 | some a=>
  simp at ar;have fv:=zI (l:=a) ay;have ou:iL (l++[bt.cells 0 []]) 33 48 (.ao 33 l.length 0 0 0 0) (cO 33 b9 (some a))=some (.ao 33 l.length 0 a.length a.length (a.length*33),l++[.cells (a.length*33) (a.map b9).flatten]) :=by
   unfold iL;rw[zu];simp only[dk.AU];unfold h0;by_cases aB:a.length=0
   ·have:a=[] :=List.length_eq_zero_iff.1 aB;subst this;simp
   ·rw[if_neg aB,if_neg (by omega)];simp[aC];exact⟨by omega,fun h=>by simp[h]⟩
  simp[dV,Yh,ou];refine dK.cM ?_;simp;exact h1 a rfl
theorem amw (a b:Int) :yn a b=0<->a=0/\b=0:=by
 unfold yn;by_cases h:a=0<;>simp[h]
theorem afV (a b:List UInt8) :va a b=0<->a=b:=by
 unfold va;cases h:lF a b with
 | true=>
  have h1:=(uG _ _).1 h;simp;rintro rfl;exact absurd h1 (List.lt_irrefl _)
 | false=>
  by_cases ag:a=b<;>simp[ag]
theorem afW (a b:bn) :ir a b=0<->a=b:=by
 unfold ir;rw[amw,afV];constructor
 ·rintro⟨h1,ag⟩;have:=zp ag;cases a; cases b; simp_all
 ·rintro rfl;exact⟨rfl,qo _⟩
def iP (l:List bn) (x:bn) :Nat:=(l.takeWhile fun t=>et t x).length
theorem Ce (x:bn) :∀ {l:List bn} {p:Nat},p<=l.length->(∀ (t:Nat) (y:bn),t<p->l[t]? = some y->et y x=true)->(∀ y,l[p]? = some y->et y x=false)->iP l x=p
 | [],p,aE,_,_=>by simp at aE; subst aE; rfl
 | y::l,0,_,_,ag=>by
  have:=ag y (by simp);unfold iP;rw[List.takeWhile_cons,this]; rfl
 | y::l,p+1,aE,h1,ag=>by
  have aK:=h1 0 y (by omega) (by simp);have aL:=Ce x (l:=l) (p:=p) (by simpa using aE) (fun t z aU aB=>h1 (t+1) z (by omega) (by simpa using aB)) (fun z aB=>ag z (by simpa using aB));unfold iP at aL ⊢;rw[List.takeWhile_cons,aK];simpa using aL
def rV (l:List bn) (x:bn) :Bool:=decide (iP l x<l.length)&&decide (nR l (iP l x)=x)
def Yf (l:List bn) (x:bn) :Prop:=∀ (i j:Nat) (a b:bn),i<=j->l[i]? = some a->l[j]? = some b->et b x=true->et a x=true
theorem aoT (n:Nat) (h:n<9223372036854775808) :cr .shr .u64 (n:Int) .u64 1=some (.int .u64 ((n / 2:Nat) :Int)) :=by
 have:=rN (BitVec.ofNat 64 n) .u64 1;have aM:(u (BitVec.ofNat 64 n) :Int)=n:=by unfold u; rw[BitVec.toNat_ofNat,Nat.mod_eq_of_lt (by omega)]
 have ax:(u (BitVec.ofNat 64 n >>> 1) :Int)=((n / 2:Nat) :Int) :=by
  unfold u; rw[BitVec.toNat_ushiftRight,BitVec.toNat_ofNat,Nat.mod_eq_of_lt (by omega),Nat.shiftRight_eq_div_pow]
 rw[aM,ax] at this;exact this
structure adH (s:fK) (X:List ae) (x:bn) (m:Nat) (ah:bi) (l:av) :Prop where
 ex:∃ (i j:Nat),j - i=m/\i<=j/\j<=s.l.length/\l=[.cells 33 X]/\ah 0=dV s/\ah 2=.fn 41 [] []/\ah 4=.ptr 0 0 33/\ah 8=.int .i64 s.l.length/\ah 9=.int .i64 i/\ah 10=.int .i64 j ∧
  (∀ (t:Nat) (y:bn),t<i->s.l[t]? = some y->et y x=true)/\(∀ (t:Nat) (y:bn),j<=t->s.l[t]? = some y->et y x=false)
theorem TQ:h5 Tryz.prog 41=true:=by kernel_rfl
theorem acq (s:fK) (ay:iE s.l) (au:s.l.length<=1000000) (x:bn) (aj:x.id.length=32) (hm:Yf s.l x) :
  bR Tryz.prog GS 40 [dV s,.aV (b9 x),.fn 41 [] []] (.bU [.int .i64 (iP s.l x),.bool (rV s.l x)]) :=by
 refine cf Tryz.checked.mixed b2 ?_;apply bH RV aaO;unfold Hl Nj;have bA:c8 (.ao 33) (dV s)=some (.int .i64 s.l.length) :=by simp[dV]
 have bF:=kL aj;have kv:=m9 x;have fV:∀ y∈s.l,bR Tryz.prog GS 41 [.aV (b9 y),.aV (b9 x)] (.int .i64 (ir y x)) :=fun y aK=>H9 y x (ay y aK) aj
 obtain⟨X,dN⟩:∃ X,X=b9 x:=⟨_,rfl⟩
 rw[<-dN] at bF kv fV ⊢;simp[bA];refine uo (adH s X x) ?_ s.l.length _ _ ⟨0,s.l.length,by omega,by omega,by omega,by simp[bF],by simp,by simp,by simp[bF],by simp,by simp,by simp,fun t y h=>by omega,fun t y h ag=>by rw[List.getElem?_eq_none h] at ag; cases ag⟩;rintro m ah l ⟨i,j,fE,iy,eR,rfl,cC,a2,bK,ek,g0,fB,h1,ag⟩;obtain⟨ah,rfl⟩:=EN cC a2 bK ek g0 fB;clear cC a2 bK ek g0 fB;unfold Xy;by_cases aP:i<j
 ·obtain⟨h,aN⟩:∃ h,h=(i+j) / 2:=⟨_,rfl⟩
  have cb:IntKind.i64.wrap ((i:Int)+j)=((i+j:Nat) :Int) :=by rw[IntKind.wrap_i64]; omega
  have w2:IntKind.u64.wrap ((i+j:Nat) :Int)=((i+j:Nat) :Int) :=by rw[uV,BitVec.ofInt_natCast]; unfold u; rw[BitVec.toNat_ofNat,Nat.mod_eq_of_lt (by omega)]
  have eg:=aoT (i+j) (by omega);have nV:IntKind.i64.wrap (h:Int)=(h:Int) :=by rw[IntKind.wrap_i64]; omega
  have rv:IntKind.i64.wrap ((h:Int)+1)=((h+1:Nat) :Int) :=by rw[IntKind.wrap_i64]; omega
  have h7:(i:Int)<(j:Int) :=by omega
  rw[<-aN] at eg;obtain⟨y,aK,dg⟩:=ck (l:=s.l) (k:=h) (by omega);have ds:=kL (ay y dg);have pA:=m9 y;have cV:cS (.ao 33) (dV s) (.int .i64 (h:Int))=some (.cq (b9 y) 0) :=by simp[dV,aK]
  have kT:=fV y dg;have sd:=Cd y x;obtain⟨Y,fb⟩:∃ Y,Y=b9 y:=⟨_,rfl⟩
  rw[<-fb] at ds pA cV kT;obtain⟨N,fu⟩:∃ N,N=i+j:=⟨_,rfl⟩
  rw[<-fu] at cb w2 eg;simp[aP,cb,w2,eg,nV,cV,ds,bF,List.take_of_length_le];refine⟨TQ,bC kT (by simp[bM,ae.closed,pA,kv]) ?_⟩;by_cases bL:ir y x<0
  ·simp[bL,rv];refine⟨j - (h+1),by omega,h+1,j,rfl,by omega,by omega,by simp,by simp,by simp,by simp,by simp,by simp,by simp,fun t z aU aB=>?_,ag⟩;exact hm t h z y (by omega) aB aK (sd.1 bL)
  ·simp[bL];refine⟨h - i,by omega,i,h,rfl,by omega,by omega,by simp,by simp,by simp,by simp,by simp,by simp,by simp,h1,fun t z aU aB=>?_⟩;cases eN:et z x with
   | false=>rfl
   | true=>exact absurd (sd.2 (hm h t y z aU aK aB eN)) bL
 ·have h7:¬ (i:Int)<(j:Int) :=by omega
  obtain rfl:i=j:=by omega
  have al:=Ce x (l:=s.l) (p:=i) eR h1 (fun y aK=>ag i y (Nat.le_refl _) aK);by_cases dI:i<s.l.length
  ·have Js:(i:Int)<(s.l.length:Int) :=by omega
   obtain⟨y,aK,dg⟩:=ck (l:=s.l) (k:=i) dI;have ds:=kL (ay y dg);have pA:=m9 y;have cV:cS (.ao 33) (dV s) (.int .i64 (i:Int))=some (.cq (b9 y) 0) :=by simp[dV,aK]
   have kT:=fV y dg;have Jd:=afW y x;obtain⟨Y,fb⟩:∃ Y,Y=b9 y:=⟨_,rfl⟩
   rw[<-fb] at ds pA cV kT;simp[dI,cV,ds,bF,List.take_of_length_le];refine⟨TQ,bC kT (by simp[bM,ae.closed,pA,kv]) ?_⟩;simp;refine a1 ?_ rfl;unfold rV;rw[al,mq aK,decide_eq_true dI,Bool.true_and];simp[Jd]
  ·have Js:¬ (i:Int)<(s.l.length:Int) :=by omega
   simp[dI];refine a1 ?_ rfl;unfold rV;rw[al,decide_eq_false dI,Bool.false_and]
def iV (l:List bn) (i:Nat) (x:bn) :List bn:=l.take i++x::l.drop i
theorem Wl (l:List bn) (i:Nat) (x:bn) :(iV l i x).length=l.length+1:=by
 unfold iV; simp; omega
theorem Wm {l:List bn} {i:Nat} {x:bn} (h:iE l) (aj:x.id.length=32) :iE (iV l i x) :=by
 intro t aU;unfold iV at aU;rcases List.mem_append.1 aU with h1 | h1
 ·exact h t (List.mem_of_mem_take h1)
 ·rcases List.mem_cons.1 h1 with ag | ag
  ·rw[ag]; exact aj
  ·exact h t (List.mem_of_mem_drop ag)
theorem akI {l:av} {b bv n i:Nat} {a:List bn} {x:bn} (aG:iE a) (aj:x.id.length=32) (aH:a.length=n) (ai:l[b]? = some (.cells (n*33) (a.map b9).flatten)) (iw:l[bv]? = some (.cells 33 (b9 x))) (bY:bv≠b) (aA:i<=n) (pv:n<=1000000)
  {K:ae->av->Prop} (a8:K (.ao 33 l.length 0 (n+1) (n+1) ((n+1)*33)) (l.set b .dead++[.cells ((n+1)*33) ((iV a i x).map b9).flatten])) :
  dh Tryz.prog GS 42 [.ao 33 b 0 n n (n*33),.int .i64 i,.ao 33 bv 0 1 1 33] l (c:=⟨K⟩) :=by
 have fh:=e9 ai;have ar:=Wo (P:=Tryz.prog) (G:=GS) (h:=b3 l) KF (by kernel_rfl) (by kernel_rfl) (show iO Tryz.prog 77=some 48 by kernel_rfl) (by omega) (by omega) (by kernel_rfl) (b:=b) (bv:=bv) (len:=n) (cap:=n) (i:=i) (mv.2 ai) (mv.2 iw) bY aA (Nat.le_refl _) (by unfold cT; omega);rw[wF,m0 _ fh,lb,Nat.max_eq_right (by omega)] at ar;refine⟨_,_,.ext ar,by simp,?_⟩;have fv:=zI aG;have b4:a.map b9=(a.take i).map b9++(a.drop i).map b9:=by rw[<-List.map_append,List.take_append_drop]
 have Ki:((a.take i).map b9).flatten.length=i*33:=by
  rw[zI (fun t aU=>aG t (List.mem_of_mem_take aU)),List.length_take,Nat.min_eq_left (by omega)]
 have z8:((a.drop i).map b9).flatten.length=(n - i)*33:=by
  rw[zI (fun t aU=>aG t (List.mem_of_mem_drop aU)),List.length_drop,aH]
 have cF:lz 33 (a.map b9).flatten (b9 x) i n=((iV a i x).map b9).flatten:=by
  unfold lz iV;have h1:((a.map b9).flatten).take (i*33)=((a.take i).map b9).flatten:=by
   rw[b4,List.flatten_append,List.take_append_of_le_length (by omega),List.take_of_length_le (by omega)]
  have ag:((a.map b9).flatten).drop (i*33)=((a.drop i).map b9).flatten:=by
   rw[b4,List.flatten_append,List.drop_append_of_le_length (by omega),List.drop_of_length_le (by omega),List.nil_append]
  have ap:(((a.drop i).map b9).flatten).take ((n - i)*33)=((a.drop i).map b9).flatten:=List.take_of_length_le (by omega);have aJ:((a.map b9).flatten).drop ((n+1)*33)=[] :=List.drop_of_length_le (by rw[fv,aH]; omega);rw[h1,ag,ap,aJ,List.append_nil];simp
 rw[cF];exact a8
theorem akG {l:av} {bv:Nat} {x:bn} (iw:l[bv]? = some (.cells 33 (b9 x))) {K:ae->av->Prop} (a8:K (.ao 33 l.length 0 1 1 33) (l++[.cells 33 (b9 x)])) :
  dh Tryz.prog GS 42 [.aX,.int .i64 0,.ao 33 bv 0 1 1 33] l (c:=⟨K⟩) :=by
 have ar:=Wn (P:=Tryz.prog) (G:=GS) (h:=b3 l) KF (by kernel_rfl) (by kernel_rfl) (show iO Tryz.prog 77=some 48 by kernel_rfl) (by omega) (by omega) (by kernel_rfl) (bv:=bv) (mv.2 iw) (by unfold cT; omega);rw[wF,lb] at ar;exact⟨_,_,.ext ar,by simp,a8⟩
structure o8 (j:Nat) (l l' : av) :Prop where
 le:l.length<=l'.length
 same:∀ b,b<l.length->b≠j->l'[b]? = l[b]?
theorem o8.refl (j:Nat) (l:av) :o8 j l l:=⟨Nat.le_refl _,fun _ _ _=>rfl⟩
theorem o8.trans {j:Nat} {a b c:av} (h1:o8 j a b) (ag:o8 j b c) :o8 j a c:=⟨by have:=h1.le; have:=ag.le; omega,fun x aj am=>by rw[ag.same x (by have:=h1.le; omega) am]; exact h1.same x aj am⟩
def E0 (g:FuncId) (cap:List ae) (j:Nat) (eZ:av) (xs:List bn) (p:bn->Bool) :Prop:=
 ∀ x∈xs,∀ l,o8 j eZ l->∀ K:ae->av->Prop,(∀ l',l.length<=l'.length->(∀ b,b<l.length->l'[b]? = l[b]?)->K (.bool (p x)) l')->dh Tryz.prog GS g ([]++[.aV (b9 x)]++cap) l (c:=⟨K⟩)
structure adP (eZ:av) (v:ae) (g:FuncId) (cap:List ae) (xs:List bn) (p:bn->Bool) (k:Nat) (ah:bi) (l:av) :Prop where
 cC:ah 0=v
 aY:ah 1=.fn g [] cap
 dx:ah 7=.int .i64 xs.length
 ek:ah 8=.int .i64 k
 ar:∀ (j:Nat) (z:bn),j<k->xs[j]? = some z->p z=false
 le:eZ.length<=l.length
 same:∀ b,b<eZ.length->l[b]? = eZ[b]?
theorem akz {g:FuncId} {cap:List ae} {j:Nat} {l:av} {v:ae} {xs:List bn} {p:bn->Bool} (az:h5 Tryz.prog g=true) (ay:bX 33 l v j (xs.map b9)) (aB:iE xs) (aH:xs.length<=1000000) (aE:E0 g cap j l xs p)
  {K:ae->av->Prop} (a8:∀ n l',(n=-1/\(∀ z∈xs,p z=false)\/∃ k:Nat,n=(k:Int)/\k<xs.length/\(∀ (i:Nat) (z:bn),i<k->xs[i]? = some z->p z=false)/\∀ y,xs[k]? = some y->p y=true)->l.length<=l'.length->(∀ b,b<l.length->l'[b]? = l[b]?)->K (.int .i64 n) l') :
  dh Tryz.prog GS 79 [v,.fn g [] cap] l (c:=⟨K⟩) :=by
 apply bH St abn;unfold HM NK;have bA:=ay.len;rw[List.length_map] at bA;simp[bA];refine c7 xs.length (adP l v g cap xs p) ?_ ⟨by simp,by simp,by simp,by simp,fun j z h=>by omega,Nat.le_refl _,fun _ _=>rfl⟩;rintro k ah l1 hk ⟨cC,aY,dx,ek,ar,du,jq⟩;obtain⟨ah,rfl⟩:=jg cC aY dx ek;clear cC aY dx ek;unfold XI;simp;refine oO (fun h=>?_) (fun h=>?_)
 ·simp only[decide_eq_true_eq] at h;obtain⟨y,aK,dg⟩:=ck (l:=xs) (k:=k) (by omega);have aZ:IntKind.i64.wrap ((k:Int)+1)=((k+1:Nat) :Int) :=by rw[IntKind.wrap_i64]; omega
  have JP:bX 33 l1 v j (xs.map b9) :=ay.frame fun am=>jq j am
  obtain⟨q,cs,o,bj,bz,a3,a4⟩:=JP.q.get (k:=.i64) (i:=k) (e:=b9 y) (by rw[List.getElem?_map,aK]; rfl);simp[bj,bz,a3,a4];refine⟨az,?_⟩;have:=aE y dg l1 ⟨du,fun b ai _=>jq b ai⟩;simp at this;refine this _ fun ce h1 ag=>?_
  cases bd:p y with
  | true=>
   simp;refine a8 _ _ (.inr ⟨k,rfl,h,fun i z aA aB=>ar i z aA aB,fun w bB=>?_⟩) (by omega) (fun b ai=>by rw[ag b (by omega)]; exact jq b ai);rw[aK] at bB; obtain rfl:=Option.some.inj bB; exact bd
  | false=>
   simp[aZ];refine⟨by omega,by simp,by simp,by simp,by simp,fun i z aA aB=>?_,by omega,fun b ai=>by rw[ag b (by omega)]; exact jq b ai⟩;by_cases pq:i=k
   ·rw[pq,aK] at aB; obtain rfl:=Option.some.inj aB; exact bd
   ·exact ar i z (by omega) aB
 ·simp[h];have nm:k=xs.length:=by simp at h; omega
  refine a8 _ _ (.inl ⟨rfl,fun z aB=>?_⟩) du jq;obtain⟨i,aA⟩:=List.mem_iff_getElem?.1 aB;exact ar i z (by rw[nm]; exact (List.getElem?_eq_some_iff.1 aA).1) aA
structure adM (eZ:av) (v:ae) (g:FuncId) (cap:List ae) (j:Nat) (xs:List bn) (p:bn->Bool) (k:Nat) (ah:bi) (l:av) :Prop where
 cC:ah 0=v
 aY:ah 1=.fn g [] cap
 cl:ah 6=.int .i64 k
 as5:o8 j eZ l
 ex:∃ (q:Nat) (bl:List bn),ah 5=.int .i64 (q:Int)/\bX 33 l v j (bl.map b9)/\bl.length=xs.length/\iE bl/\bl.take q=(xs.take k).filter (fun t=>!p t)/\q<k/\∀ t,k<=t->bl[t]? = xs[t]?
theorem TE {p:bn->Bool} {l:List bn} (h:∀ z∈l,p z=false) :l.filter (fun t=>!p t)=l:=by
 rw[List.filter_eq_self];intro a aG; rw[h a aG]; rfl
theorem agT {p:bn->Bool} {l:List bn} {k:Nat} (h:∀ (i:Nat) (z:bn),i<k->l[i]? = some z->p z=false) :(l.take k).filter (fun t=>!p t)=l.take k:=by
 refine TE fun z aB=>?_
 obtain⟨i,aA⟩:=List.mem_iff_getElem?.1 aB;have dI:=(List.getElem?_eq_some_iff.1 aA).1;rw[List.length_take] at dI;rw[List.getElem?_take_of_lt (by omega)] at aA;exact h i z (by omega) aA
theorem agS {p:bn->Bool} {l:List bn} {k:Nat} {y:bn} (h:l[k]? = some y) :(l.take (k+1)).filter (fun t=>!p t)=(l.take k).filter (fun t=>!p t)++(if p y then [] else [y]) :=by
 rw[List.take_add_one,h,List.filter_append];cases aE:p y<;>simp[aE]
set_option maxHeartbeats 1000000 in
theorem Tk {g:FuncId} {cap:List ae} {j:Nat} {l:av} {v:ae} {xs:List bn} {p:bn->Bool} (az:h5 Tryz.prog g=true) (ay:bX 33 l v j (xs.map b9)) (aB:iE xs) (aH:xs.length<=1000000) (aE:E0 g cap j l xs p)
  {K:ae->av->Prop} (a8:∀ r l',bX 33 l' r j ((xs.filter fun t=>!p t).map b9)->o8 j l l'->cU r=cU v->K r l') :
  dh Tryz.prog GS 43 [v,.fn g [] cap] l (c:=⟨K⟩) :=by
 apply bH RX aaQ;unfold Hn Nl;have bA:=ay.len;rw[List.length_map] at bA;simp;refine akz az ay aB aH aE fun n l1 aii du jq=>?_
 rcases aii with ⟨rfl,eG⟩ | ⟨gj,rfl,si,ep,fC⟩
 ·simp;refine a8 _ _ ?_ ⟨du,fun b ai _=>jq b ai⟩ rfl;rw[TE eG];exact ay.frame fun am=>jq j am
 ·have bY:¬ ((gj:Int)=-1) :=by omega
  have aZ:IntKind.i64.wrap ((gj:Int)+1)=((gj+1:Nat) :Int) :=by rw[IntKind.wrap_i64]; omega
  have JP:bX 33 l1 v j (xs.map b9) :=ay.frame fun am=>jq j am
  have ax:cU v=false:=by
   cases tX:cU v with
   | false=>rfl
   | true=>
    have:=iW.1 tX;subst this;have:=ay.q.ye;rw[List.map_eq_nil_iff] at this;rw[this] at si; simp at si
  simp[bY,aZ];refine c7 (xs.length - (gj+1)) (fun m=>adM l v g cap j xs p (gj+1+m)) ?_ ⟨by simp,by simp,by simp,⟨du,fun b ai _=>jq b ai⟩,gj,xs,by simp,JP,rfl,aB,?_,by omega,fun _ _=>rfl⟩
  ·rintro m ah ce hm ⟨cC,aY,cl,lq,q,bl,bw,bp,ds,sx,hU,vV,nw⟩;obtain⟨k,hk⟩:∃ k,k=gj+1+m:=⟨_,rfl⟩
   rw[show gj+1+(m+1)=k+1 by omega];rw[<-hk] at cl hU vV nw;obtain⟨ah,rfl⟩:=jg cC aY bw cl;clear cC aY bw cl;unfold Xz;have JG:=bp.len;rw[List.length_map,ds] at JG;by_cases aP:k<xs.length
   ·have h7:(k:Int)<(xs.length:Int) :=by omega
    obtain⟨y,aK,dg⟩:=ck (l:=xs) (k:=k) aP;have We:=aB y dg;have zX:=kL We;have ny:=EB zX;have b4:IntKind.i64.wrap ((k:Int)+1)=((k+1:Nat) :Int) :=by rw[IntKind.wrap_i64]; omega
    have dC:IntKind.i64.wrap ((q:Int)+1)=((q+1:Nat) :Int) :=by rw[IntKind.wrap_i64]; omega
    have akn:bl[k]? = some y:=by rw[nw k (Nat.le_refl _)]; exact aK
    obtain⟨awy,cs,o,bj,bz,a3,a4⟩:=bp.q.get (k:=.i64) (i:=k) (e:=b9 y) (by rw[List.getElem?_map,akn]; rfl);have aiO:o8 j l (ce++[bt.cells 33 (b9 y)]) :=⟨by have:=lq.le; simp; omega,fun b ai g1=>by rw[List.getElem?_append_left (by have:=lq.le; omega)]; exact lq.same b ai g1⟩
    have ln:=aE y dg _ aiO;have lp:=agS (p:=p) aK;have V0:=fun (jy:av) (h:bX 33 jy v j (bl.map b9))=>YA (X:=.aV (b9 y)) rfl h (fun t aU=>kL (sx t aU)) (k:=q) (x:=y) (by omega) zX
    simp at ln;obtain⟨Y,fb⟩:∃ Y,Y=b9 y:=⟨_,rfl⟩
    rw[<-fb] at zX ny a4 ln V0;simp[JG,h7,bj,bz,a3,a4,zX,ny,List.take_of_length_le];refine⟨az,?_⟩;refine ln _ fun jy h1 ag=>?_
    have atJ:ce.length<jy.length:=by omega
    have VY:∀ b,b<ce.length->jy[b]? = ce[b]?:=fun b ai=>by rw[ag b (by omega),List.getElem?_append_left ai]
    have xM:bX 33 jy v j (bl.map b9) :=bp.frame fun am=>VY j am
    have ah4:jy[ce.length]? = some (.cells 33 Y) :=by rw[ag _ (by simp)]; simp
    have Jp:o8 j l jy:=⟨by have:=lq.le; omega,fun b ai g1=>by rw[VY b (by have:=lq.le; omega)]; exact lq.same b ai g1⟩
    cases bd:p y with
    | true=>
     rw[bd,if_pos rfl,List.append_nil] at lp;simp[b4];refine⟨by omega,by simp,by simp,by simp,Jp,q,bl,by simp,xM,ds,sx,by rw[lp]; exact hU,by omega,fun t aU=>nw t (by omega)⟩
    | false=>
     rw[bd,if_neg (by simp)] at lp;obtain⟨YD,KV,lH,iH,z3,z4,z5⟩:=V0 jy xM;simp[ah4,zX,lH,iH,b4,dC,List.take_of_length_le];refine⟨by omega,by simp,by simp,by simp,⟨by have:=Jp.le; omega,fun b ai g1=>by rw[z5 b g1]; exact Jp.same b ai g1⟩,q+1,bl.set q y,by simp,z3,by simp[ds],fun t aU=>?_,?_,by omega,fun t aU=>?_⟩
     ·rcases List.mem_or_eq_of_mem_set aU with h | h
      ·exact sx _ h
      ·rw[h]; exact We
     ·have OS:(bl.take q).length=q:=by rw[List.length_take]; omega
      rw[List.set_eq_take_append_cons_drop,if_pos (by omega),List.take_append,OS,List.take_of_length_le (by omega),show q+1 - q=1 by omega,lp,<-hU]; simp
     ·rw[List.getElem?_set_ne (by omega)]; exact nw t (by omega)
   ·have h7:¬ (k:Int)<(xs.length:Int) :=by omega
    have cZ:k=xs.length:=by omega
    obtain⟨v3,eO,r,lH,iH,z3,z4,z5,aqY,Pf⟩:=amJ (z:=33) (zr:=ae.str [] ::rep 32 (.int .u8 0)) rfl bp (k:=q) (by omega);simp[JG,h7,lH,iH,z3];rw[cZ,List.take_length] at hU;rw[hU] at z4;exact a8 _ _ z4 ⟨by have:=lq.le; omega,fun b ai g1=>by rw[Pf b g1]; exact lq.same b ai g1⟩ (by rw[z5,ax])
  ·rw[List.take_add_one,List.filter_append,agT ep];obtain⟨y,aK,_⟩:=ck (l:=xs) (k:=gj) si;have:=fC y aK;rw[aK]; simp[this]
theorem aoF {a b c:List UInt8} (h1:lF a b=true) (ag:lF b c=true) :lF a c=true:=
 (uG _ _).2 (List.lt_trans ((uG _ _).1 h1) ((uG _ _).1 ag))
theorem aoE (a:List UInt8) :lF a a=false:=by
 cases h:lF a a with
 | false=>rfl
 | true=>exact absurd ((uG _ _).1 h) (List.lt_irrefl _)
theorem pL {a b c:bn} (h1:et a b=true) (ag:et b c=true) :et a c=true:=by
 unfold et at *
 by_cases aZ:a.key=b.key
 ·rw[if_pos aZ] at h1;by_cases b4:b.key=c.key
  ·rw[if_pos b4] at ag;rw[if_pos (aZ.trans b4)];simp only[decide_eq_true_eq] at *
   exact zq _ _ _ h1 ag
  ·rw[if_neg b4] at ag;rw[if_neg (fun h=>b4 (aZ.symm.trans h)),aZ]; exact ag
 ·rw[if_neg aZ] at h1;by_cases b4:b.key=c.key
  ·rw[if_neg (fun h=>aZ (h.trans b4.symm)),<-b4]; exact h1
  ·rw[if_neg b4] at ag;have:=aoF h1 ag;rw[if_neg (fun h=>by rw[h,aoE] at this; cases this)]; exact this
theorem wb (a:bn) :et a a=false:=by
 unfold et;rw[if_pos rfl,qo]; rfl
theorem wc {a b:bn} (h1:et a b=false) (ag:a≠b) :et b a=true:=by
 unfold et at *
 by_cases aZ:a.key=b.key
 ·rw[if_pos aZ] at h1;rw[if_pos aZ.symm];have ap:=Cc a.id b.id;have aJ:=S4 a.id b.id;simp only[decide_eq_false_iff_not,decide_eq_true_eq] at *
  have bd:cN a.id b.id≠0:=fun h=>ag (by
   have:=zp h;cases a; cases b; simp_all)
  omega
 ·rw[if_neg aZ] at h1;rw[if_neg (fun h=>aZ h.symm)];rw[uG];have ap:¬ a.key<b.key:=fun h=>by rw[(uG _ _).2 h] at h1; cases h1
  by_cases h:b.key<a.key
  ·exact h
  ·exact absurd (List.le_antisymm (List.not_lt.1 h) (List.not_lt.1 ap)) aZ
theorem ahi {l:List bn} (h:mS l=0) :l.length<=60/\ll l=true:=by
 unfold mS at h;split at h
 ·cases h
 ·split at h
  ·rename_i h1 ag; exact⟨by omega,ag⟩
  ·cases h
theorem Ue {l:List bn} (h:ll l=true) {i:Nat} {a b:bn} (aG:l[i]? = some a) (ai:l[i+1]? = some b) :et a b=true:=by
 have h1:=(of_decide_eq_true h) (i+1) (List.getElem?_eq_some_iff.1 ai).1;unfold oq at h1;rw[Nat.add_sub_cancel,mq aG,mq ai,Bool.and_eq_true] at h1;simpa using h1.2
theorem CE {l:List bn} (h:ll l=true) :∀ {d i:Nat} {a b:bn},l[i]? = some a->l[i+d+1]? = some b->et a b=true
 | 0,i,a,b,aG,ai=>Ue h aG ai
 | d+1,i,a,b,aG,ai=>by
  obtain⟨c,al,_⟩:=ck (l:=l) (k:=i+d+1) (by have:=(List.getElem?_eq_some_iff.1 ai).1; omega);exact pL (CE h aG al) (Ue h al ai)
theorem Ud {l:List bn} (h:ll l=true) (x:bn) :Yf l x:=by
 intro i j a b iy aG ai aP;by_cases aw:i=j
 ·subst aw; rw[aG] at ai; cases ai; exact aP
 ·exact pL (CE h (d:=j - i - 1) aG (by rw[show i+(j - i - 1)+1=j by omega]; exact ai)) aP
def pd (s:fK) (x:bn) :fK × Int:=if rV s.l x then (none,14) else if s.l.length=60 then (none,18) else (some (iV s.l (iP s.l x) x),0)
def lG (o:bQ) (b:fz) (t:bn) :Bool:=decide (t.key=o.act.key)&&decide (t.id∈b.l)
def acN (f:List bn->List bn) (s:fK) :fK:=match s with | none=>none | some l=>some (f l)
def iM (s:fK) (o:bQ) (b:fz) :fK × Int:=
 if mS s.l=0 then (if fY o=0 then (if 60<b.l.length then (none,4) else
  (if o.act.kind=2#8 then pd s ⟨o.act.key,ib o⟩ else if o.act.kind=3#8 then (acN (fun l=>l.filter fun t=>!lG o b t) s,0) else (s,0))) else (none,8)) else (none,mS s.l)
theorem TR:h5 Tryz.prog 44=true:=by kernel_rfl
theorem apv (o:bQ) (b:fz) (ai:hx b) (fh:b.l.length<=1000000) {j bo bb:Nat} {l:av} {xs:List bn} (aB:iE xs) (h1:l[bo]? = some (.cells 11 (bD o))) (ag:l[bb]? = some (.cells 1 [bc b])) (De:bo≠j) (oz:bb≠j) :
  E0 44 [.ptr bo 0 11,.ptr bb 0 1] j l xs (lG o b) :=by
 intro x aj l1 az K a8;apply bH RY aaR;unfold Ho Nn;have dH:l1[bo]? = some (.cells 11 (bD o)) :=by rw[az.same _ (e9 h1) De]; exact h1
 have fT:l1[bb]? = some (.cells 1 [bc b]) :=by rw[az.same _ (e9 ag) oz]; exact ag
 have fD:=e9 dH;have hD:=e9 fT;have hr:=dd (aB x aj);have UN:=hb b;have gK:=gf x.id;have eA:=aqv b ai fh x.id (aB x aj);have aY:∀ c:bt,(l1++[c])[bo]? = some (.cells 11 (bD o)) :=fun c=>by rw[List.getElem?_append_left fD]; exact dH
 have a2:∀ c:bt,(l1++[c])[bb]? = some (.cells 1 [bc b]) :=fun c=>by rw[List.getElem?_append_left hD]; exact fT
 have rW:=aY;simp[bD] at rW;by_cases hk:x.key=o.act.key
 ·simp[b9,rW,a2,hk,hr,List.take_of_length_le];refine bC eA (by simp[bM,ae.closed,UN,gK]) ?_;simp;have:lG o b x=decide (x.id∈b.l) :=by unfold lG; rw[decide_eq_true hk,Bool.true_and]
  rw[<-this];exact a8 _ (by simp) fun b ai=>List.getElem?_append_left ai
 ·simp[b9,rW,hk];have:lG o b x=false:=by unfold lG; rw[decide_eq_false hk,Bool.false_and]
  rw[<-this];exact a8 _ (by simp) fun b ai=>List.getElem?_append_left ai
theorem zA (o:bQ) :((u o.act.kind:Int)=2)<->o.act.kind=2#8:=ru o.act.kind 2#8
theorem zB (o:bQ) :((u o.act.kind:Int)=3)<->o.act.kind=3#8:=ru o.act.kind 3#8
theorem aks (o:bQ) :(ib o).length=32:=by
 unfold ib; split
 ·exact sZ _
 ·simp
set_option maxHeartbeats 1000000 in
theorem aqq (s:fK) (o:bQ) (b:fz) (ar:iE s.l) (eT:s.l.length<=1000000) (ay:kF o) (ai:hx b) (fh:b.l.length<=1000000) :
  bR Tryz.prog GS 11 [.aV [dV s],.aV (bD o),bc b] (.bU [.aV [dV (iM s o b).1],.int .i64 (iM s o b).2]) :=by
 refine cf Tryz.checked.mixed b2 ?_;apply bH Qt Zl;unfold FM LV;have cp:=wU s;have dp:=mz o;have UN:=hb b;have dW:=aqA s ar eT;have hr:=adn o ay;have dI:=aks o;have I8:(bc b).cells=some [bc b] :=by cases b<;>rfl
 have UH:c8 (.ao 32) (bc b)=some (.int .i64 b.l.length) :=by simp[bc]
 by_cases aT:mS s.l=0
 ·by_cases h1:fY o=0
  ·obtain⟨D,r4⟩:∃ D,D=(ib o).map bI:=⟨_,rfl⟩
   have r5:D.length=32:=by rw[r4,List.length_map,dI]
   have ahA:bM D=true:=by rw[r4]; exact kK bI (fun _=>rfl) _
   have sq:bS (rep 32 (.int .u8 0)) 0 D=D:=g8 (by rw[r5]; rfl);unfold fk at hr;rw[<-r4] at hr;simp[bD,I8];refine bC dW (by simp[bM,ae.closed,cp]) ?_;simp[aT];refine bC hr (show bM [ae.aV (bD o)]=true by simp[bM,ae.closed,dp]) ?_;simp[h1,r5,sq,UH,List.take_of_length_le];by_cases ag:60<b.l.length
   ·have fT:(60:Int)<(b.l.length:Int) :=by omega
    have aG:iM s o b=(none,4) :=by unfold iM; rw[if_pos aT,if_pos h1,if_pos ag]
    rw[aG];simp[fT];exact a1 rfl rfl
   ·have fT:¬ (60:Int)<(b.l.length:Int) :=by omega
    simp[fT];have vE:=(ahi aT).2;obtain⟨x,aj⟩:∃ x:bn,x=⟨o.act.key,ib o⟩:=⟨_,rfl⟩
    have j3:x.id.length=32:=by rw[aj]; exact dI
    have tV:=Ud vE x;have dN:b9 x=.str o.act.key::D:=by rw[aj,r4]; rfl
    have zW:=kL j3;have kv:=m9 x;rw[dN] at zW;have xQ:=EB zW;refine afP s ar eT (fun aH=>?_) (fun a Ka=>?_)
    ·subst aH;by_cases b6:o.act.kind=2#8
     ·have nE:=(zA o).2 b6;have aG:iM none o b=pd none x:=by unfold iM; rw[if_pos aT,if_pos h1,if_neg ag,if_pos b6,aj]
      have hT:=acq none (by simp[iE]) (by simp) x j3 tV;have xo:iP (dk.l (none:fK)) x=0:=rfl;have vD:rV (dk.l (none:fK)) x=false:=rfl;have vx:pd none x=(some (iV [] 0 x),0) :=rfl;rw[xo,vD,dN] at hT;rw[aG,vx];simp[nE,r5,sq,xQ,List.take_of_length_le];refine bC hT (by simp[bM,ae.closed,ahA,dV,cO]) ?_;simp[r5,sq,xQ,List.take_of_length_le];refine akG (bv:=7) (x:=x) (by rw[dN]; rfl) ?_;simp;have h8:∀ l:av,l[8]? = some (.cells 33 (b9 x))->Rd l (.ao 33 8 0 1 1 33) (dV (some (iV [] 0 x))) :=fun l h=>by
       have h1:=Lp (l:=l) (b:=8) (n:=1) (a:=[x]) (by intro t aU; simp at aU; subst aU; exact j3) rfl (by simpa using h);exact h1.q.rl m9 (some [x]) rfl rfl
      exact Bk (Bj (h8 _ (by simp))) (.same _ rfl)
     ·have nE:¬ (u o.act.kind:Int)=2:=fun h=>b6 ((zA o).1 h)
      by_cases df:o.act.kind=3#8
      ·have pD:=(zB o).2 df;have aG:iM none o b=(none,0) :=by unfold iM; rw[if_pos aT,if_pos h1,if_neg ag,if_neg b6,if_pos df]; rfl
       rw[aG];simp[nE,pD];refine Tk (j:=100) (xs:=[]) (p:=lG o b) TR (.nil 100) (by simp[iE]) (by simp) (fun x aj=>by cases aj) fun r l' aC lq JN=>?_
       obtain rfl:=iW.1 JN;have LJ:l'[5]? = some (.cells 1 [.aX]) :=by rw[lq.same 5 (by simp) (by omega)]; rfl
       have nO:l'[3]? = some (.cells 1 [.aX]) :=by rw[lq.same 3 (by simp) (by omega)]; rfl
       have yr:6<=l'.length:=by have:=lq.le; simpa using this
       have Ow:(l'.set 5 (.cells 1 [.aX]))[5]? = some (.cells 1 [.aX]) :=List.getElem?_set_self (by omega);have yB:(l'.set 5 (.cells 1 [.aX]))[3]? = some (.cells 1 [.aX]) :=by rw[List.getElem?_set_ne (by omega)]; exact nO
       have Ov:((l'.set 5 (.cells 1 [.aX])).set 3 (.cells 1 [.aX]))[3]? = some (.cells 1 [.aX]) :=List.getElem?_set_self (by simp; omega);simp[LJ,Ow,yB,Ov];exact a1 rfl rfl
      ·have pD:¬ (u o.act.kind:Int)=3:=fun h=>df ((zB o).1 h)
       have aG:iM none o b=(none,0) :=by unfold iM; rw[if_pos aT,if_pos h1,if_neg ag,if_neg b6,if_neg df]
       rw[aG];simp[nE,pD];exact a1 rfl rfl
    ·subst Ka;obtain⟨n,aH⟩:∃ n,n=a.length:=⟨_,rfl⟩
     have pu:n<=1000000:=by rw[aH]; exact eT
     rw[<-aH];have JQ:∀ (l:av) (b:Nat),l[b]? = some (.cells (n*33) (a.map b9).flatten)->bX 33 l (.ao 33 b 0 n n (n*33)) b (a.map b9) :=fun l b h=>Lp ar aH.symm h
     have aj3:c8 (.ao 33) (.ao 33 5 0 n n (n*33))=some (.int .i64 n) :=rfl;by_cases b6:o.act.kind=2#8
     ·have nE:=(zA o).2 b6;have aG:iM (some a) o b=pd (some a) x:=by unfold iM; rw[if_pos aT,if_pos h1,if_neg ag,if_pos b6,aj]
      have hT:=acq (some a) ar eT x j3 tV;rw[dN] at hT;rw[aG];simp[nE,r5,sq,xQ,List.take_of_length_le];refine iF hT (.cons ((JQ _ 5 (by rfl)).pX m9 (some a) rfl rfl) (.cons (.same _ (by rw[dN] at kv; exact kv)) (.cons (.same _ rfl) .nil))) rfl ?_;cases vD:rV (dk.l (some a:fK)) x with
      | true=>
       have vx:pd (some a) x=(none,14) :=by unfold pd; rw[vD]; rfl
       rw[vx];simp;exact a1 rfl rfl
      | false=>
       by_cases lW:n=60
       ·have vx:pd (some a) x=(none,18) :=by
         unfold pd; rw[vD,if_neg (by simp),if_pos (show (dk.l (some a)).length=60 by rw[<-lW,aH]; rfl)]
        rw[vx];have Ul:(n:Int)=60:=by omega
        simp[lW];exact a1 rfl rfl
       ·have vx:pd (some a) x=(some (iV a (iP a x) x),0) :=by
         unfold pd; rw[vD,if_neg (by simp),if_neg (show ¬ (dk.l (some a)).length=60 by rw[show (dk.l (some a)).length=n from aH.symm]; exact lW)]; rfl
        rw[vx];have Ul:¬ (n:Int)=60:=by omega
        have sd:iP a x<=n:=by rw[aH]; unfold iP; exact (List.takeWhile_sublist _).length_le
        simp[aj3,Ul,r5,sq,xQ,List.take_of_length_le];refine akI (b:=5) (bv:=8) (a:=a) (x:=x) ar j3 aH.symm rfl (by rw[dN]; rfl) (by omega) sd pu ?_;simp;have h8:∀ l:av,l[9]? = some (.cells ((n+1)*33) ((iV a (iP a x) x).map b9).flatten)->Rd l (.ao 33 9 0 (n+1) (n+1) ((n+1)*33)) (dV (some (iV a (iP a x) x))) :=fun l h=>by
         have h1:=Lp (l:=l) (b:=9) (n:=n+1) (a:=iV a (iP a x) x) (Wm ar j3) (by rw[Wl,aH]) h;exact h1.q.rl m9 (some _) rfl rfl
        exact Bk (Bj (h8 _ (by simp))) (.same _ rfl)
     ·have nE:¬ (u o.act.kind:Int)=2:=fun h=>b6 ((zA o).1 h)
      by_cases df:o.act.kind=3#8
      ·have pD:=(zB o).2 df;have aG:iM (some a) o b=(some (a.filter fun t=>!lG o b t),0) :=by unfold iM; rw[if_pos aT,if_pos h1,if_neg ag,if_neg b6,if_pos df]; rfl
       rw[aG];simp[nE,pD];refine Tk (j:=5) (xs:=a) (p:=lG o b) TR (JQ _ 5 (by rfl)) ar eT (apv o b ai fh (bo:=1) (bb:=2) ar rfl rfl (by omega) (by omega)) fun r l' aC lq JN=>?_
       have Aq:=aC.cells;have yr:l'[6]? = some (.cells 1 [.ao 33 5 0 n n (n*33)]) :=by rw[lq.same 6 (by simp) (by omega)]; rfl
       have nO:l'[3]? = some (.cells 1 [.aX]) :=by rw[lq.same 3 (by simp) (by omega)]; rfl
       have Y1:7<=l'.length:=by have:=lq.le; simpa using this
       have Ow:(l'.set 6 (.cells 1 [r]))[6]? = some (.cells 1 [r]) :=List.getElem?_set_self (by omega);have yB:(l'.set 6 (.cells 1 [r]))[3]? = some (.cells 1 [.aX]) :=by rw[List.getElem?_set_ne (by omega)]; exact nO
       have Ov:((l'.set 6 (.cells 1 [r])).set 3 (.cells 1 [r]))[3]? = some (.cells 1 [r]) :=List.getElem?_set_self (by simp; omega);simp[Aq,yr,Ow,yB,Ov,bS];have kr:bX 33 ((l'.set 6 (.cells 1 [r])).set 3 (.cells 1 [r])) r 5 ((a.filter fun t=>!lG o b t).map b9) :=aC.frame fun _=>by
        rw[List.getElem?_set_ne (by omega),List.getElem?_set_ne (by omega)]
       exact Bk (Bj (kr.q.rl m9 (some _) (by rw[JN]; rfl) rfl)) (.same _ rfl)
      ·have pD:¬ (u o.act.kind:Int)=3:=fun h=>df ((zB o).1 h)
       have aG:iM (some a) o b=(some a,0) :=by unfold iM; rw[if_pos aT,if_pos h1,if_neg ag,if_neg b6,if_neg df]
       rw[aG];simp[nE,pD];exact Bk (Bj ((JQ _ 5 (by simp)).q.rl m9 (some a) rfl rfl)) (.same _ rfl)
  ·have aG:iM s o b=(none,8) :=by unfold iM; rw[if_pos aT,if_neg h1]
   rw[aG];have ss:bS (rep 32 (.int .u8 0)) 0 ((ib o).map bI)=(ib o).map bI:=g8 (by rw[List.length_map,dI]; rfl);simp[bD,I8];refine bC dW (by simp[bM,ae.closed,cp]) ?_;simp[aT];refine bC hr (show bM [ae.aV (bD o)]=true by simp[bM,ae.closed,dp]) ?_;simp[h1,fk,dI,ss,UH];exact a1 rfl rfl
 ·have aG:iM s o b=(none,mS s.l) :=by unfold iM; rw[if_neg aT]
  rw[aG];simp[bD,I8];refine bC dW (by simp[bM,ae.closed,cp]) ?_;simp[aT];exact a1 rfl rfl
def nK (l:List bn) (x:bn) :Nat->Nat
 | 0=>0
 | i+1=>if et x (nR l i) then nK l x i else i+1
theorem Ed (l:List bn) (x:bn) :∀ i,nK l x i<=i
 | 0=>Nat.le_refl _
 | i+1=>by
  unfold nK;split
  ·have:=Ed l x i; omega
  ·exact Nat.le_refl _
def am6 (l:List bn) (x:bn) :List bn:=iV l (nK l x l.length) x
structure ara (l:av) (a:List bn) (x:bn) (m:Nat) (ah:bi) (l1:av) :Prop where
 ex:∃ (i:Nat) (v:ae),i=m/\i<=a.length/\ah 5=v/\ah 6=.int .i64 (i:Int)/\cw 33 b9 l l1 v (iV a i x) false/\nK a x i=nK a x a.length
def WF (o:bQ) (b:fz) (t:bn) :Bool:=decide (¬ o.act.kind=3#8)||(decide (¬ t.key=o.act.key)||!decide (t.id∈b.l))
def EF (l:List bn) :fK:=match l with | []=>none | a::r=>some (a::r)
theorem OK (l:List bn) :(EF l).l=l:=by cases l<;>rfl
theorem apy (l:List bn) :(EF l).isNone=l.isEmpty:=by cases l<;>rfl
structure aq0 (s:fK) (x:bn) (L:av) (k:Nat) (ah:bi) (l:av) :Prop where
 au:l=L
 bh:ah 3=.ptr 0 0 1
 cl:ah 6=.ptr 2 0 1
 ek:ah 8=.ptr 3 0 33
 g0:ah 9=.int .i64 k
 ar:∀ (j:Nat) (t:bn),j<k->s.l[j]? = some t->t≠x
structure ad6 (s:fK) (o:bQ) (b:fz) (k:Nat) (l:av) :Prop where
 ex:∃ v j,l[3]? = some (.cells 1 [v])/\bX 33 l v j (((s.l.take k).filter (WF o b)).map b9)/\(v=.aX\/4<=j)/\cU v=((s.l.take k).filter (WF o b)).isEmpty
 len:4<=l.length
 gl:l[0]? = some (.cells 1 [dV s])
 rf:l[1]? = some (.cells 11 (bD o))
 Lq:l[2]? = some (.cells 1 [.aX])
structure arc (s:fK) (o:bQ) (b:fz) (k:Nat) (ah:bi) (l:av) :Prop where
 a2:ah 2=bc b
 bh:ah 3=.ptr 0 0 1
 bK:ah 4=.ptr 1 0 11
 cl:ah 6=.ptr 2 0 1
 fB:ah 10=.ptr 3 0 1
 h6:ah 11=.int .i64 k
 h:ad6 s o b k l
theorem LD (l:List bn) (x:bn) :∀ (n i:Nat),nK l x n<=i->i<n->et x (nR l i)=true
 | 0,i,_,h=>by omega
 | n+1,i,h1,ag=>by
  unfold nK at h1;split at h1
  ·rename_i h;by_cases aA:i=n
   ·rw[aA]; exact h
   ·exact LD l x n i h1 (by omega)
  ·omega
theorem YN (l:List bn) (x:bn) :∀ (n i:Nat),nK l x n=i+1->et x (nR l i)=false
 | 0,i,h=>by cases h
 | n+1,i,h1=>by
  unfold nK at h1;split at h1
  ·exact YN l x n i h1
  ·rename_i h;obtain rfl:n=i:=by omega
   exact Bool.eq_false_iff.2 h
theorem amV {l:List bn} {x:bn} (az:ll l=true) (aj:x∉l) :nK l x l.length=iP l x:=by
 refine (Ce x (Ed l x l.length) (fun t y aU aK=>?_) (fun y aK=>?_)).symm
 ·obtain⟨i,aA⟩:∃ i,nK l x l.length=i+1:=⟨nK l x l.length - 1,by omega⟩
  have du:=Ed l x l.length;obtain⟨z,aB,x4⟩:=ck (l:=l) (k:=i) (by omega);have h1:=YN l x l.length i aA;rw[mq aB] at h1;have ag:=wc h1 (fun h=>aj (by rw[h]; exact x4));exact Ud az x t i y z (by omega) aK aB ag
 ·have aP:=(List.getElem?_eq_some_iff.1 aK).1;have h1:=LD l x l.length _ (Nat.le_refl _) aP;rw[mq aK] at h1;cases ag:et y x with
  | false=>rfl
  | true=>have:=pL h1 ag; rw[wb] at this; cases this
theorem ag3 {l:List bn} {x:bn} (az:ll l=true) :rV l x=true<->x∈l:=by
 unfold rV;rw[Bool.and_eq_true,decide_eq_true_eq,decide_eq_true_eq];constructor
 ·rintro⟨h1,ag⟩;obtain⟨z,aB,x4⟩:=ck (l:=l) (k:=iP l x) h1;rw[mq aB] at ag;rw[<-ag]; exact x4
 ·intro hm;obtain⟨j,am⟩:=List.mem_iff_getElem?.1 hm;have aP:=(List.getElem?_eq_some_iff.1 am).1;have al:=Ce x (l:=l) (p:=j) (by omega) (fun t y aU aK=>CE az (d:=j - t - 1) aK (by rw[show t+(j - t - 1)+1=j by omega]; exact am)) (fun y aK=>by
   rw[am] at aK; obtain rfl:=Option.some.inj aK; exact wb _)
  rw[al];exact⟨aP,mq am⟩
end Op
end Go.cn

namespace Go.cn
open Go Go.Proofs Go.RowKit
set_option maxRecDepth 100000
namespace Op
open hA
theorem Ld:bR Tryz.prog GS 17 [] (.aV [.aX]) :=by
 refine cf Tryz.checked.mixed b2 ?_;apply bH Rf Z6;unfold Gw ys;simp;exact a1 rfl rfl
theorem zP (l:List bn) :ll l=true<->(∀ t∈l,gu t.key=true)/\l.Pairwise fun a b=>et a b=true:=by
 constructor
 ·intro h;refine⟨fun t aU=>?_,List.pairwise_iff_getElem.2 fun i j aA am iy=>?_⟩
  ·obtain⟨k,hk⟩:=List.mem_iff_getElem?.1 aU;have h1:=(of_decide_eq_true h) k (List.getElem?_eq_some_iff.1 hk).1;unfold oq at h1;rw[mq hk,Bool.and_eq_true] at h1;exact h1.1
  ·exact CE h (d:=j - i - 1) (List.getElem?_eq_getElem aA) (by rw[show i+(j - i - 1)+1=j by omega]; exact List.getElem?_eq_getElem am)
 ·rintro⟨h1,ag⟩;refine IF fun k hk=>?_
  unfold oq;have aK:=List.getElem?_eq_getElem hk;rw[mq aK,h1 _ (List.getElem_mem hk),Bool.true_and];by_cases si:k=0
  ·simp[si]
  ·have aj:=List.getElem?_eq_getElem (l:=l) (i:=k - 1) (by omega);rw[mq aj,(List.pairwise_iff_getElem.1 ag) (k - 1) k (by omega) hk (by omega)]; simp
theorem ahk {l:List bn} {x:bn} (az:ll l=true) (aj:x∉l) (hk:gu x.key=true) :ll (iV l (iP l x) x)=true:=by
 obtain⟨h1,ag⟩:=(zP l).1 az;have aE:=amV az aj;have du:=Ed l x l.length;refine (zP _).2 ⟨fun t aU=>?_,?_⟩
 ·unfold iV at aU;rcases List.mem_append.1 aU with h | h
  ·exact h1 t (List.mem_of_mem_take h)
  ·rcases List.mem_cons.1 h with h | h
   ·rw[h]; exact hk
   ·exact h1 t (List.mem_of_mem_drop h)
 ·have ep:∀ a∈l.take (iP l x),et a x=true:=fun a aG=>by
   have aZ:l.takeWhile (fun t=>et t x)=l.take (iP l x) :=List.prefix_iff_eq_take.1 (List.takeWhile_prefix _);rw[<-aZ] at aG;have:=List.all_takeWhile (l:=l) (p:=fun t=>et t x);exact List.all_eq_true.1 this a aG
  have qI:∀ b∈l.drop (iP l x),et x b=true:=fun b ai=>by
   obtain⟨j,am⟩:=List.mem_iff_getElem?.1 ai;rw[List.getElem?_drop] at am;have:=LD l x l.length (iP l x+j) (by omega) (List.getElem?_eq_some_iff.1 am).1;rw[mq am] at this; exact this
  unfold iV;rw[List.pairwise_append];refine⟨ag.sublist (List.take_sublist _ _),List.pairwise_cons.2 ⟨qI,ag.sublist (List.drop_sublist _ _)⟩,fun a aG b ai=>?_⟩;rcases List.mem_cons.1 ai with h | h
  ·rw[h]; exact ep a aG
  ·exact pL (ep a aG) (qI b h)
theorem ahj {l:List bn} {p:bn->Bool} (az:ll l=true) :ll (l.filter p)=true:=by
 obtain⟨h1,ag⟩:=(zP l).1 az;exact (zP _).2 ⟨fun t aU=>h1 t (List.mem_filter.1 aU).1,ag.sublist List.filter_sublist⟩
theorem Ty {l:List bn} (h1:l.length<=60) (ag:ll l=true) :mS l=0:=by
 unfold mS; rw[if_neg (by omega),ag]; rfl
def ahh (o:bQ) (b:fz) (t:bn) :Bool:=decide (o.act.kind=3#8)&&lG o b t
structure aq3 (s:fK) (o:bQ) (b:fz) (t:List bn) :Prop where
 ok:mS t=0
 mem:∀ x∈s.l,decide (x∈t)=!ahh o b x
 new:∀ x∈t,x∉s.l->o.act.kind=2#8/\x=⟨o.act.key,ib o⟩
 cnt:∃ p:Nat,(o.act.kind=2#8->p<t.length/\∀ (i:Nat) (y:bn),t[i]? = some y->(y∉s.l<->i=p))/\(o.act.kind≠2#8->∀ x∈t,x∈s.l)
theorem akB {l:List bn} {i:Nat} {x y:bn}:y∈iV l i x<->y=x\/y∈l:=by
 unfold iV;rw[List.mem_append,List.mem_cons];have:y∈l<->y∈l.take i\/y∈l.drop i:=by rw[<-List.mem_append,List.take_append_drop]
 rw[this];constructor
 ·rintro (h | h | h)
  ·exact .inr (.inl h)
  ·exact .inl h
  ·exact .inr (.inr h)
 ·rintro (h | h | h)
  ·exact .inr (.inl h)
  ·exact .inl h
  ·exact .inr (.inr h)
end Op
end Go.cn

namespace Go.Proofs
open Go.Shelf
set_option maxRecDepth 100000
def Tryz.ao7:Go.Shelf.Ren:=⟨fun | 6=>57 | 15=>91 | 14=>90 | 28=>134 | 29=>135 | 20=>126 | 21=>127 | 22=>128 | 23=>129 | 24=>130 | 25=>131 | 26=>132 | 27=>133 | 46=>169 | 47=>170 | 48=>171 | 49=>172 | 50=>173 | 57=>193 | n=>n,fun | 22=>22 | 24=>77 | 25=>92 | 3=>3 | 39=>125 | 0=>0 | 53=>25 | 55=>27 | 4=>4 | 46=>174 | 45=>173 | 50=>90 | 5=>5 | 9=>9 | 66=>208 | 70=>212 | 76=>231 | 77=>232 | n=>n,fun | n=>n⟩
theorem Tryz.ao6:Go.Proofs.SlLaysF0.n6 Tryz.prog Tryz.ao7 where
 mixed:=by kernel_rfl
 f6:=⟨ "slices.SortFunc[[]braid/api.Tag,braid/api.Tag]",by decide,Tryz.func57.trans (congrArg some (by kernel_rfl))⟩
 f14:=⟨ "slices.pdqsortCmpFunc[braid/api.Tag]",by decide,Tryz.func90.trans (congrArg some (by kernel_rfl))⟩
 f15:=Tryz.func91.trans (congrArg some (by kernel_rfl))
 f20:=⟨ "slices.insertionSortCmpFunc[braid/api.Tag]",by decide,Tryz.func126.trans (congrArg some (by kernel_rfl))⟩
 f21:=⟨ "slices.heapSortCmpFunc[braid/api.Tag]",by decide,Tryz.func127.trans (congrArg some (by kernel_rfl))⟩
 f22:=⟨ "slices.breakPatternsCmpFunc[braid/api.Tag]",by decide,Tryz.func128.trans (congrArg some (by kernel_rfl))⟩
 f23:=⟨ "slices.choosePivotCmpFunc[braid/api.Tag]",by decide,Tryz.func129.trans (congrArg some (by kernel_rfl))⟩
 f24:=⟨ "slices.reverseRangeCmpFunc[braid/api.Tag]",by decide,Tryz.func130.trans (congrArg some (by kernel_rfl))⟩
 f25:=⟨ "slices.partialInsertionSortCmpFunc[braid/api.Tag]",by decide,Tryz.func131.trans (congrArg some (by kernel_rfl))⟩
 f26:=⟨ "slices.partitionEqualCmpFunc[braid/api.Tag]",by decide,Tryz.func132.trans (congrArg some (by kernel_rfl))⟩
 f27:=⟨ "slices.partitionCmpFunc[braid/api.Tag]",by decide,Tryz.func133.trans (congrArg some (by kernel_rfl))⟩
 f28:=Tryz.func134.trans (congrArg some (by kernel_rfl))
 f29:=Tryz.func135.trans (congrArg some (by kernel_rfl))
 f46:=⟨ "slices.siftDownCmpFunc[braid/api.Tag]",by decide,Tryz.func169.trans (congrArg some (by kernel_rfl))⟩
 f47:=Tryz.func170.trans (congrArg some (by kernel_rfl))
 f48:=Tryz.func171.trans (congrArg some (by kernel_rfl))
 f49:=⟨ "slices.medianAdjacentCmpFunc[braid/api.Tag]",by decide,Tryz.func172.trans (congrArg some (by kernel_rfl))⟩
 f50:=⟨ "slices.medianCmpFunc[braid/api.Tag]",by decide,Tryz.func173.trans (congrArg some (by kernel_rfl))⟩
 f57:=⟨ "slices.order2CmpFunc[braid/api.Tag]",by decide,Tryz.func193.trans (congrArg some (by kernel_rfl))⟩
 t0:=Tryz.underlying0
 a0:=Tryz.isAgg0
 z0:=Tryz.sizeOf0
 v0:=Tryz.zeroValue0
 t3:=Tryz.underlying3
 a3:=Tryz.isAgg3
 z3:=Tryz.sizeOf3
 v3:=Tryz.zeroValue3
 t4:=Tryz.underlying4
 a4:=Tryz.isAgg4
 z4:=Tryz.sizeOf4
 v4:=Tryz.zeroValue4
 t5:=Tryz.underlying5
 a5:=Tryz.isAgg5
 z5:=Tryz.sizeOf5
 v5:=Tryz.zeroValue5
 t9:=Tryz.underlying9
 a9:=Tryz.isAgg9
 z9:=Tryz.sizeOf9
 v9:=Tryz.zeroValue9
 t22:=Tryz.underlying22
 a22:=Tryz.isAgg22
 z22:=Tryz.sizeOf22
 v22:=Tryz.zeroValue22
 t25:=Tryz.underlying92
 a25:=Tryz.isAgg92
 z25:=Tryz.sizeOf92
 v25:=Tryz.zeroValue92
 t39:=Tryz.underlying125
 a39:=Tryz.isAgg125
 z39:=Tryz.sizeOf125
 v39:=Tryz.zeroValue125
 t45:=Tryz.underlying173
 a45:=Tryz.isAgg173
 z45:=Tryz.sizeOf173
 v45:=Tryz.zeroValue173
 t46:=Tryz.underlying174
 a46:=Tryz.isAgg174
 z46:=Tryz.sizeOf174
 v46:=Tryz.zeroValue174
 t50:=Tryz.underlying90
 a50:=Tryz.isAgg90
 z50:=Tryz.sizeOf90
 v50:=Tryz.zeroValue90
 t53:=Tryz.underlying25
 a53:=Tryz.isAgg25
 z53:=Tryz.sizeOf25
 v53:=Tryz.zeroValue25
 t55:=Tryz.underlying27
 a55:=Tryz.isAgg27
 z55:=Tryz.sizeOf27
 v55:=Tryz.zeroValue27
 t66:=Tryz.underlying208
 a66:=Tryz.isAgg208
 z66:=Tryz.sizeOf208
 v66:=Tryz.zeroValue208
 t70:=Tryz.underlying212
 a70:=Tryz.isAgg212
 z70:=Tryz.sizeOf212
 v70:=Tryz.zeroValue212
 t76:=Tryz.underlying231
 a76:=Tryz.isAgg231
 z76:=Tryz.sizeOf231
 v76:=Tryz.zeroValue231
 t77:=Tryz.underlying232
 a77:=Tryz.isAgg232
 z77:=Tryz.sizeOf232
 v77:=Tryz.zeroValue232
end Go.Proofs

namespace Go.cn
open Go Go.Proofs
set_option maxRecDepth 100000
namespace Op
open hA
structure EY (g:b1) (i:Nat) (out:List (List B)) :Prop where
 mem:∀ (j:Nat) (p:List B),g.ids.l[j]? = some p->(p∈out<->io g.ids.l g.ops.l (c5 g.ops.l i) j)
 sub:∀ p∈out,p∈g.ids.l
 len:out.length<=g.ids.l.length
theorem aeb (g:b1) (az:hY g) (V:mw g) {i:Nat} {x:List B} (aA:g.ids.l[i]? = some x) :∃ out,EY g i out/\bR Tryz.prog GS 29 [dw g,.aV (a7 x)] (bc (e4 out)) :=by
 obtain⟨r,l',xu,du,out,h1,ag,ap,j2⟩:=aea g az V aA;exact⟨out,⟨h1,ag,ap⟩,cf Tryz.checked.mixed b2 ⟨r,l',xu,du,j2⟩⟩
open Classical in
noncomputable def iJ (g:b1) (i:Nat) :List (List B) :=if h:∃ out,EY g i out/\bR Tryz.prog GS 29 [dw g,.aV (a7 (ch g.ids.l i))] (bc (e4 out)) then h.choose else []
theorem y4 (g:b1) (az:hY g) (V:mw g) {i:Nat} {x:List B} (aA:g.ids.l[i]? = some x) :EY g i (iJ g i)/\bR Tryz.prog GS 29 [dw g,.aV (a7 x)] (bc (e4 (iJ g i))) :=by
 have h:=aeb g az V aA;have aj:ch g.ids.l i=x:=hW aA;rw[<-aj] at h ⊢;unfold iJ;rw[dif_pos h];exact h.choose_spec
def aol (o:bQ) (k:List UInt8) :Bool:=decide (o.act.kind=3#8)&&decide (o.act.key=k)
def zO (g:b1) (A:Nat->List (List B)) (k:List UInt8) (x:List B) :Nat->Bool
 | 0=>false
 | m+1=>zO g A k x m||(match g.ops.l[m]? with | some o=>aol o k&&decide (x∈A m) | none=>false)
def apo (g:b1) (A:Nat->List (List B)) (o:bQ) (x:List B) :Bool:=decide (o.act.kind=2#8)&&!zO g A o.act.key x g.ops.l.length
def yj (g:b1) (A:Nat->List (List B)) :Nat->fK
 | 0=>none
 | m+1=>match g.ops.l[m]?,g.ids.l[m]? with
  | some o,some x=>if apo g A o x=true then some (am6 (yj g A m).l ⟨o.act.key,x⟩) else yj g A m
  | _,_=>yj g A m
def Tq (L:List (List B)) :List ae:=[bc (e4 L)]
theorem SV (s:fK) :(dV s).cells=some [dV s] :=by cases s<;>rfl
structure aq7 (g:b1) (k:Nat) (ah:bi) (l:av) :Prop where
 aY:ah 1=.ptr 0 0 2
 a2:ah 2=.ptr 1 0 1
 bh:ah 3=.int .i64 0
 bw:ah 5=.int .i64 k
 q8:∃ v,ah 4=v/\cw 1 Tq [.cells 2 [bc g.ids,cA g.ops],.cells 1 [.aX]] l v ((List.range k).map (iJ g)) (decide (k=0))
structure aq8 (g:b1) (yW:av) (v4:ae) (k:Nat) (ah:bi) (l:av) :Prop where
 aY:ah 1=.ptr 0 0 2
 a2:ah 2=.ptr 1 0 1
 bh:ah 3=.int .i64 0
 bK:ah 4=v4
 cl:ah 6=.ptr yW.length 0 1
 dx:ah 7=.int .i64 k
 ex:∃ m,l=yW++.cells 1 [dV (yj g (iJ g) k)] ::m
structure aq9 (g:b1) (yW:av) (v4:ae) (i:Nat) (o:bQ) (x:List B) (b:Nat) (k:Nat) (ah:bi) (l:av) :Prop where
 aY:ah 1=.ptr 0 0 2
 a2:ah 2=.ptr 1 0 1
 bh:ah 3=.int .i64 0
 bK:ah 4=v4
 cl:ah 6=.ptr yW.length 0 1
 dx:ah 7=.int .i64 i
 ek:ah 8=.ptr b 0 6
 g0:ah 9=.bool (zO g (iJ g) o.act.key x k)
 fB:ah 10=.int .i64 k
 ex:∃ m,l=yW++.cells 1 [dV (yj g (iJ g) i)] ::m/\l[b]? = some (.cells 6 (kg o.act))
noncomputable def aws (g:b1) :fK:=if hB g=0 then yj g (iJ g) g.ops.l.length else none
theorem aek (g:b1) (i:Nat) :(jK g i).length<=g.ids.l.length:=K8 _ _ _
theorem ael {g:b1} {i:Nat} {x:List B} (h:x∈jK g i) :x∈g.ids.l:=by
 unfold jK at h;obtain⟨j,am,_,rfl⟩:=Yc.1 h;obtain⟨y,aK,dg⟩:=ck am;rw[hW aK]; exact dg
end Op
end Go.cn

namespace Go.cn
open Go Go.Proofs Go.Sort Go.Shelf
set_option maxRecDepth 100000
namespace Op
open hA
abbrev ta:={t:bn // t.id.length=32}
instance:Inhabited ta:=⟨⟨⟨[],List.replicate 32 0#8⟩,by simp⟩⟩
def zF (x:ta) :List ae:=b9 x.1
def tq (x y:ta) :Int:=ir x.1 y.1
theorem sI (a b:bn) :ltOf ir a b=et a b:=by
 unfold ltOf;cases h:et a b with
 | true=>exact decide_eq_true ((Cd a b).2 h)
 | false=>exact decide_eq_false fun aN=>by rw[(Cd a b).1 aN] at h; cases h
theorem acO:SWO (ltOf tq) where
 irrefl x:=by show ltOf ir x.1 x.1=false; rw[sI]; exact wb _
 trans x y z:=by
  show ltOf ir x.1 y.1=true->ltOf ir y.1 z.1=true->ltOf ir x.1 z.1=true;rw[sI,sI,sI]; exact pL
 ntrans x y z:=by
  show ltOf ir x.1 y.1=false->ltOf ir y.1 z.1=false->ltOf ir x.1 z.1=false;rw[sI,sI,sI];intro h1 ag;cases ap:et x.1 z.1 with
  | false=>rfl
  | true=>
   by_cases aZ:x.1=y.1
   ·rw[aZ] at ap; rw[ap] at ag; cases ag
   ·by_cases b4:y.1=z.1
    ·rw[b4] at h1; rw[ap] at h1; cases h1
    ·have:=pL (pL ap (wc ag b4)) (wc h1 aZ);rw[wb] at this; cases this
theorem aep (x y:ta) (h1:ltOf tq x y=false) (ag:ltOf tq y x=false) :x=y:=by
 have dH:ltOf ir x.1 y.1=false:=h1;have fT:ltOf ir y.1 x.1=false:=ag;rw[sI] at dH fT;by_cases e:x.1=y.1
 ·exact Subtype.ext e
 ·rw[wc dH e] at fT; cases fT
theorem Tr (x:ta) :(zF x).length=33:=kL x.2
theorem agt (x:ta) :∀ c∈zF x,yp c=true:=fun c al=>by
 rcases List.mem_cons.1 al with h | h
 ·rw[h]; rfl
 ·obtain⟨b,_,rfl⟩:=List.mem_map.1 h; rfl
theorem ao4 {g:Nat} (agr:∀ args w,(callFunc g args).run Tryz.prog w=.ok (.enter g args) w) :E7 Tryz.prog 57 g 33 (fun x=>(zF x).map valOf) tq:=
 fun blk off cap d w sb hH hblk g4=>
  AnyQ.slices_SortFunc Tryz.ao6 33 (by intro w; exact Tryz.isAgg77 w) (by intro w; exact Tryz.sizeOf77 w) _ (fun x=>by rw[List.length_map,Tr]) (fun x v ax=>by obtain⟨c,_,rfl⟩:=List.mem_map.1 ax; exact O4 c) tq acO g #[] blk off cap d w agr sb hH hblk g4
def k6 (l:List bn) :List bn:=l.mergeSort fun x y=>!et y x
theorem acU:∀ {xs:List bn},iE xs->∃ bl:List ta,bl.map (·.1)=xs
 | [],_=>⟨[],rfl⟩
 | x::xs,h=>by
  obtain⟨bl,aK⟩:=acU (xs:=xs) fun i aA=>h i (by simp[aA])
  exact⟨⟨x,h x (by simp)⟩::bl,by simp[aK]⟩
theorem apa (bl:List ta) :(sorted tq bl).map (·.1)=k6 (bl.map (·.1)) :=by
 unfold sorted k6;rw[List.map_mergeSort];intro a _ b _;show (!ltOf ir b.1 a.1)=(!et b.1 a.1)
 rw[sI]
theorem am9 {z:Nat} {l l' : av} {v:ae} {j:Nat} {es dn:List (List ae)} (h:bX z l v j es) (h' : ea z l' v j dn) :bX z l' v j dn:=by
 cases h with
 | nil j=>have:=h'.ye; subst this; exact .nil j
 | ao j n cap sz cs es ai au aH aB al c3 cp=>
  generalize ax:ae.ao z j 0 n cap sz=w at h';cases h' with
  | nil=>cases ax
  | ao auo awt q5 ar5 axb ho w3 fU hD pv kY jV atr aio=>
   injection ax with _ aZ b4 dC lR Ij
   subst b4 dC lR Ij;exact .ao j n cap sz ho _ fU hD pv kY jV (by omega) (by simpa using aio)
theorem apS:iI Tryz.prog GS 57 [.aX,.fn 41 [] []] (.bU []) :=
 wm (P:=Tryz.prog) Tryz.checked.mixed b2 (Yj _ _) uM (fuel:=100) (k:=10) (by kernel_rfl)
theorem apR {l:av} {v:ae} {j:Nat} {xs:List bn} (aj:iE xs) (au:xs.length<=1000000) (aH:cU v=xs.isEmpty) (h:bX 33 l v j (xs.map b9)) {K:ae->av->Prop}
  (a8:∀ l',l'.length=l.length->(∀ b,v=.aX\/b≠j->l'[b]? = l[b]?)->bX 33 l' v j ((k6 xs).map b9)->K (.bU []) l') :dh Tryz.prog GS 57 [v,.fn 41 [] []] l (c:=⟨K⟩) :=by
 by_cases i9:xs=[]
 ·subst i9;have Km:v=.aX:=iW.1 (by rw[aH]; rfl);subst Km;exact bC apS.yK rfl (a8 l rfl (fun _ _=>rfl) (by simpa [k6] using bX.nil j))
 ·obtain⟨bl,aK⟩:=acU aj;have aw:bl.map zF=xs.map b9:=by rw[<-aK,List.map_map]; rfl
  have ar:(sorted tq bl).map zF=(k6 xs).map b9:=by rw[<-aK,<-apa,List.map_map]; rfl
  have ds:bl.length=xs.length:=by rw[<-aK]; simp
  have Km:v≠.aX:=fun ax=>by subst ax; rw[show cU .aX=true from rfl] at aH; exact i9 (by simpa using aH.symm)
  rw[<-aw] at h;exact ao5 tq (ao4 (by intro args w; exact enters_of Tryz.func41 (by kernel_rfl) rfl args w)) acO aep Tr agt (fun x y=>H9 x.1 y.1 x.2 y.2) h.q (by omega) (fun so=>absurd (by rw[<-aK,so]; rfl) i9)
   (fun l' h1 ag ap=>a8 l' h1 (fun b ai=>ag b (ai.resolve_left Km)) (by rw[<-ar]; exact am9 h ap))
theorem acx (l:List bn) (y:bn) :y∈k6 l<->y∈l:=by unfold k6; exact List.mem_mergeSort
theorem acw (l:List bn) :(k6 l).length=l.length:=by unfold k6; exact List.length_mergeSort l
theorem ao8 {l:List bn} (aH:l.Nodup) :(k6 l).Pairwise fun a b=>et a b=true:=by
 have h1:(k6 l).Pairwise fun a b=>(!et b a)=true:=by
  unfold k6;refine List.pairwise_mergeSort (fun a b c h1 ag=>?_) (fun a b=>?_) l
  ·simp only[Bool.not_eq_true'] at *
   cases ap:et c a with
   | false=>rfl
   | true=>
    by_cases aZ:b=c
    ·rw[aZ] at h1; rw[ap] at h1; cases h1
    ·by_cases b4:a=b
     ·rw[b4] at ap; rw[ap] at ag; cases ag
     ·have:=pL (pL ap (wc h1 (Ne.symm b4))) (wc ag (Ne.symm aZ));rw[wb] at this; cases this
  ·cases h:et b a with
   | false=>rfl
   | true=>
    cases ag:et a b with
    | false=>rfl
    | true=>have:=pL h ag; rw[wb] at this; cases this
 have ag:(k6 l).Nodup:=(List.mergeSort_perm l _).nodup_iff.2 aH;refine (h1.and ag).imp fun {a b} h=>?_
 have ap:et b a=false:=by simpa using h.1
 exact wc ap (Ne.symm h.2)
end Op
end Go.cn

namespace Go.cn
open Go Go.Proofs
set_option maxRecDepth 100000
namespace Op
open hA
theorem aeC (t:bn) :ae.beq (.aV (b9 t)) (.aV (b9 t))=true:=by
 show e8 (.str t.key::a7 t.id) (.str t.key::a7 t.id)=true;have h:=Ft t.id;unfold a7;simp[e8,ae.beq,h]
theorem Iu {t:bn} (h:t.id.length=32) :j5 Tryz.prog 77 (.aV (b9 t))=true:=by
 have h1:pH Tryz.prog 8 77=true:=by kernel_rfl
 have ag:dM Tryz.prog 77=some true:=by kernel_rfl
 have ap:cz Tryz.prog 77=some 33:=by kernel_rfl
 have aJ:(b9 t).all rh=true:=by
  rw[List.all_eq_true];intro c al;rcases List.mem_cons.1 al with h | h
  ·rw[h]; rfl
  ·obtain⟨b,_,rfl⟩:=List.mem_map.1 h; rfl
 show (pH Tryz.prog 8 77&&(match dM Tryz.prog 77,cz Tryz.prog 77 with | some true,some m=>Nat.beq (b9 t).length m | _,_=>false)&&(b9 t).all rh)=true;rw[h1,ag,ap,aJ,kL h];rfl
theorem agD {a b:bn} (aG:a.id.length=32) (ai:b.id.length=32) :ej Tryz.prog 10000 77 (.aV (b9 a)) (.aV (b9 b))=some (decide (a=b)) :=by
 rw[<-PX aG ai];obtain⟨x,y,om,mE,rT⟩:=(Cp (P:=Tryz.prog) 20 10000 (by omega) 77 DJ WI).2 _ _ (D6 aG) (D6 ai);have ag:dM Tryz.prog 77=some true:=by kernel_rfl
 simp only[jL,ag,Option.some.injEq] at om mE;subst om; subst mE;exact rT
inductive o7:List (ae × ae × Nat)->List bn->Prop
 | nil:o7 [] []
 | cons {es:List (ae × ae × Nat)} {bV:List bn} {k:bn} (n:Nat) (hk:k.id.length=32) (h:o7 es bV) :o7 ((.aV (b9 k),.bool true,n) ::es) (k::bV)
theorem o7.snoc {es:List (ae × ae × Nat)} {bV:List bn} (h:o7 es bV) {k:bn} (hk:k.id.length=32) (n:Nat) :o7 (es++[(.aV (b9 k),.bool true,n)]) (bV++[k]) :=by
 induction h with
 | nil=>exact .cons n hk .nil
 | cons m eH h aL=>exact .cons m eH aL
theorem o7.modify {es:List (ae × ae × Nat)} {bV:List bn} (h:o7 es bV) :∀ {i:Nat} {k:bn},bV[i]? = some k->o7 (es.modify i fun e=>(.aV (b9 k),.bool true,e.2.2)) bV:=by
 induction h with
 | nil=>intro i k h; simp at h
 | cons n hk h aL=>
  intro i k aA;cases i with
  | zero=>simp at aA; subst aA; exact .cons n hk h
  | succ i=>exact .cons n hk (aL (by simpa using aA))
theorem Cu {x:bn} (aj:x.id.length=32) {es:List (ae × ae × Nat)} {bV:List bn} (h:o7 es bV) :∀ c,(x∈bV->∃ i,bV[i]? = some x/\iQ Tryz.prog 77 (.aV (b9 x)) es c=some (some (c+i,.bool true)))/\(x∉bV->iQ Tryz.prog 77 (.aV (b9 x)) es c=some none) :=by
 induction h with
 | nil=>intro c; exact⟨fun h=>by simp at h,fun _=>rfl⟩
 | @cons es bV k n hk h aL=>
  intro c;unfold iQ;rw[Iu hk];simp only;rw[agD aj hk];by_cases aw:x=k
  ·subst aw;simp only[decide_true,aeC];exact⟨fun _=>⟨0,by simp⟩,fun h=>absurd (by simp) h⟩
  ·simp only[aw,decide_false];obtain⟨h1,ag⟩:=aL (c+1);refine⟨fun hm=>?_,fun h=>ag (fun h'=>h (by simp[h']))⟩;obtain⟨i,aA,aI⟩:=h1 (by simpa [aw] using hm);exact⟨i+1,by simpa using aA,by rw[aI,show c+1+i=c+(i+1) by omega]⟩
structure lK (l:av) (j:Nat) (M:bn->Prop) :Prop where
 e:∃ es ei bV,l[j]? = some (.map es ei)/\o7 es bV/\∀ x,x∈bV<->M x
open Classical in
theorem lK.look {l:av} {j:Nat} {M:bn->Prop} (h:lK l j M) {x:bn} (aj:x.id.length=32) :um Tryz.prog l 77 (.bool false) false (.mp j) (.aV (b9 x))=some (.bool (decide (M x))) :=by
 obtain⟨es,ei,bV,h1,ag,aJ⟩:=h.e;have ap:q2 l (.mp j)=some es:=by simp[q2,h1]
 unfold um;rw[ap];simp only[Iu aj];by_cases hm:x∈bV
 ·obtain⟨i,_,aI⟩:=(Cu aj ag 0).1 hm;rw[aI];simp[(aJ x).1 hm]
 ·rw[(Cu aj ag 0).2 hm];have:¬ M x:=fun aN=>hm ((aJ x).2 aN)
  simp[this]
theorem lK.put {l:av} {j:Nat} {M:bn->Prop} (h:lK l j M) {x:bn} (aj:x.id.length=32) :∃ c,q3 Tryz.prog l 77 (.mp j) (.aV (b9 x)) (.bool true)=some (l.set j c)/\(∀ l' : av,l'[j]? = some c->lK l' j (fun y=>M y\/y=x)) :=by
 obtain⟨es,ei,bV,h1,ag,aJ⟩:=h.e;unfold q3;simp only[h1,Iu aj];by_cases hm:x∈bV
 ·obtain⟨i,aA,aI⟩:=(Cu aj ag 0).1 hm;rw[aI];rw[Nat.zero_add];refine⟨_,rfl,fun l' c6=>⟨_,_,bV,c6,ag.modify aA,fun y=>?_⟩⟩;rw[aJ y];exact⟨.inl,fun aN=>aN.elim id fun e=>by rw[e]; exact (aJ x).1 hm⟩
 ·rw[(Cu aj ag 0).2 hm];refine⟨_,rfl,fun l' c6=>⟨_,_,_,c6,ag.snoc aj ei,fun y=>?_⟩⟩;rw[List.mem_append,List.mem_singleton,aJ y]
theorem lK.frame {l l' : av} {j:Nat} {M:bn->Prop} (h:lK l j M) (am:l'[j]? = l[j]?) :lK l' j M:=by
 obtain⟨es,ei,bV,h1,ag,aJ⟩:=h.e;exact⟨es,ei,bV,by rw[am,h1],ag,aJ⟩
theorem lK.lt {l:av} {j:Nat} {M:bn->Prop} (h:lK l j M) :j<l.length:=by
 obtain⟨es,ei,bV,h1,ag⟩:=h.e;exact (List.getElem?_eq_some_iff.1 h1).1
theorem amL (l:av) :lK (l++[.map [] 0]) l.length (fun _=>False) :=⟨[],0,[],by simp,.nil,fun x=>by simp⟩
theorem lK.iff {l:av} {j:Nat} {M N:bn->Prop} (h:lK l j M) (aN:∀ x,M x<->N x) :lK l j N:=by
 obtain⟨es,ei,bV,h1,ag,aJ⟩:=h.e;exact⟨es,ei,bV,h1,ag,fun x=>(aJ x).trans (aN x)⟩
def mY (g:b1) (m:Nat) (t:bn) :Prop:=∃ k o,k<m/\g.ops.l[k]? = some o/\o.act.kind=3#8/\o.act.key=t.key/\t.id∈jK g k
def yU (g:b1) (m:Nat) (key:List UInt8) (L:List (List B)) (t:bn) :Prop:=mY g m t\/(key=t.key/\t.id∈L)
theorem ahe {g:b1} {m:Nat} {o:bQ} (ay:g.ops.l[m]? = some o) (hk:¬ o.act.kind=3#8) (t:bn) :mY g m t<->mY g (m+1) t:=by
 constructor
 ·rintro⟨k,c0,h1,ag⟩; exact⟨k,c0,by omega,ag⟩
 ·rintro⟨k,c0,h1,ag,ap,aJ⟩;by_cases l3:k=m
  ·subst l3; rw[ay] at ag; obtain rfl:=Option.some.inj ag; exact absurd ap hk
  ·exact⟨k,c0,by omega,ag,ap,aJ⟩
theorem ahf {g:b1} {m:Nat} {o:bQ} (ay:g.ops.l[m]? = some o) (hk:o.act.kind=3#8) (t:bn) :yU g m o.act.key (jK g m) t<->mY g (m+1) t:=by
 constructor
 ·rintro (⟨k,c0,h1,ag⟩ | ⟨h1,ag⟩)
  ·exact⟨k,c0,by omega,ag⟩
  ·exact⟨m,o,by omega,ay,hk,h1,ag⟩
 ·rintro⟨k,c0,h1,ag,ap,aJ,bd⟩;by_cases l3:k=m
  ·subst l3; rw[ay] at ag; obtain rfl:=Option.some.inj ag; exact .inr ⟨aJ,bd⟩
  ·exact .inl ⟨k,c0,by omega,ag,ap,aJ,bd⟩
theorem ahg {g:b1} {m:Nat} {key:List UInt8} {L:List (List B)} {k:Nat} {x:List B} (aj:L[k]? = some x) (t:bn) :(yU g m key (L.take k) t\/t=⟨key,x⟩)<->yU g m key (L.take (k+1)) t:=by
 unfold yU;rw[List.take_add_one,aj,List.mem_append];simp only[Option.toList_some,List.mem_singleton];constructor
 ·rintro ((h | ⟨h1,ag⟩) | h)
  ·exact .inl h
  ·exact .inr ⟨h1,.inl ag⟩
  ·subst h; exact .inr ⟨rfl,.inr rfl⟩
 ·rintro (h | ⟨h1,ag | ag⟩)
  ·exact .inl (.inl h)
  ·exact .inl (.inr ⟨h1,ag⟩)
  ·right; cases t; simp_all
open Classical in
noncomputable def hO (g:b1) (m:Nat) :List bn:=(List.range m).flatMap fun k=>match g.ops.l[k]?,g.ids.l[k]? with
 | some o,some x=>if o.act.kind=2#8/\¬ mY g g.ops.l.length ⟨o.act.key,x⟩ then [⟨o.act.key,x⟩] else []
 | _,_=>[]
open Classical in
theorem Fj {g:b1} {m:Nat} {o:bQ} {x:List B} (ay:g.ops.l[m]? = some o) (aj:g.ids.l[m]? = some x) :hO g (m+1)=hO g m++(if o.act.kind=2#8/\¬ mY g g.ops.l.length ⟨o.act.key,x⟩ then [⟨o.act.key,x⟩] else []) :=by
 unfold hO;rw[List.range_succ,List.flatMap_append];simp[ay,aj]
theorem Fi {g:b1} {t:bn}:∀ {m:Nat},t∈hO g m<->∃ k o x,k<m/\g.ops.l[k]? = some o/\g.ids.l[k]? = some x/\o.act.kind=2#8/\¬ mY g g.ops.l.length ⟨o.act.key,x⟩/\t=⟨o.act.key,x⟩:=by
 intro m;unfold hO;rw[List.mem_flatMap];constructor
 ·rintro⟨k,hk,aU⟩;rw[List.mem_range] at hk;cases ay:g.ops.l[k]? with
  | none=>simp[ay] at aU
  | some o=>
   cases aj:g.ids.l[k]? with
   | none=>simp[ay,aj] at aU
   | some x=>
    simp only[ay,aj] at aU;split at aU
    ·rename_i aN;rw[List.mem_singleton] at aU;exact⟨k,o,x,hk,ay,aj,aN.1,aN.2,aU⟩
    ·simp at aU
 ·rintro⟨k,o,x,hk,ay,aj,h1,ag,ap⟩;refine⟨k,List.mem_range.2 hk,?_⟩;simp only[ay,aj];rw[if_pos ⟨h1,ag⟩,List.mem_singleton];exact ap
theorem BN (g:b1) :∀ m,(hO g m).length<=m
 | 0=>by simp[hO]
 | m+1=>by
  have aL:=BN g m;cases ay:g.ops.l[m]? with
  | none=>unfold hO at *; rw[List.range_succ,List.flatMap_append]; simp[ay] at *; omega
  | some o=>
   cases aj:g.ids.l[m]? with
   | none=>unfold hO at *; rw[List.range_succ,List.flatMap_append]; simp[ay,aj] at *; omega
   | some x=>
    rw[Fj ay aj,List.length_append];split<;>simp<;>omega
theorem Pv {g:b1} (az:hY g) (m:Nat) :iE (hO g m) :=fun t aU=>by
 obtain⟨k,o,x,_,_,aj,_,_,ap⟩:=Fi.1 aU;rw[ap]; exact az.ids x (List.mem_of_getElem? aj)
structure kE (g:b1) (M:bn->Prop) (l:av) :Prop where
 gl:l[0]? = some (.cells 2 [bc g.ids,cA g.ops])
 rf:l[1]? = some (.cells 1 [.aX])
 m:lK l 2 M
theorem kE.lt {g:b1} {M:bn->Prop} {l:av} (h:kE g M l) :3<=l.length:=h.m.lt
theorem kE.frame {g:b1} {M:bn->Prop} {l l' : av} (h:kE g M l) (aI:∀ b,b<3->l'[b]? = l[b]?) :kE g M l':=
 ⟨(aI 0 (by omega)).trans h.gl,(aI 1 (by omega)).trans h.rf,h.m.frame (aI 2 (by omega))⟩
theorem kE.more {g:b1} {M:bn->Prop} {l:av} (h:kE g M l) (x:av) :kE g M (l++x) :=h.frame fun b ai=>List.getElem?_append_left (by have:=h.lt; omega)
theorem kE.iff {g:b1} {M N:bn->Prop} {l:av} (h:kE g M l) (aN:∀ x,M x<->N x) :kE g N l:=⟨h.gl,h.rf,h.m.iff aN⟩
structure adW (g:b1) (k:Nat) (ah:bi) (l:av) :Prop where
 aY:ah 1=.ptr 0 0 2
 a2:ah 2=.ptr 1 0 1
 bh:ah 3=.int .i64 0
 bw:ah 5=.mp 2
 na:ah 24=cA g.ops
 kP:ah 25=.int .i64 g.ops.l.length
 kQ:ah 26=.int .i64 k
 h:kE g (mY g k) l
structure adY (g:b1) (i:Nat) (o:bQ) (b:Nat) (k:Nat) (ah:bi) (l:av) :Prop where
 aY:ah 1=.ptr 0 0 2
 a2:ah 2=.ptr 1 0 1
 bh:ah 3=.int .i64 0
 bw:ah 5=.mp 2
 dx:ah 7=.ptr b 0 11
 na:ah 24=cA g.ops
 kP:ah 25=.int .i64 g.ops.l.length
 kQ:ah 26=.int .i64 i
 rY:ah 45=bc (e4 (jK g i))
 rZ:ah 46=.int .i64 (jK g i).length
 r0:ah 47=.int .i64 k
 h:kE g (yU g i o.act.key ((jK g i).take k)) l
 gH:3<=b
 ai:l[b]? = some (.cells 11 (bD o))
structure adX (g:b1) (b:Nat) (k:Nat) (ah:bi) (l:av) :Prop where
 aY:ah 1=.ptr 0 0 2
 a2:ah 2=.ptr 1 0 1
 bh:ah 3=.int .i64 0
 bw:ah 5=.mp 2
 hC:ah 12=.ptr b 0 1
 IC:ah 60=cA g.ops
 ID:ah 61=.int .i64 g.ops.l.length
 IE:ah 62=.int .i64 k
 h:kE g (mY g g.ops.l.length) l
 gH:3<=b
 ex:∃ v j,l[b]? = some (.cells 1 [v])/\bX 33 l v j ((hO g k).map b9)/\cU v=(hO g k).isEmpty/\(v=.aX\/b<j)
noncomputable def q9 (g:b1) :fK:=if hB g=0 then EF (k6 (hO g g.ops.l.length)) else none
set_option maxHeartbeats 8000000 in
theorem aqy (g:b1) (az:hY g) :bR Tryz.prog GS 24 [dw g] (.bU [.aV [dV (q9 g)],.int .i64 (hB g)]) :=by
 refine cf Tryz.checked.mixed b2 ?_;apply bH RI aaB;unfold Hb uy;have aC:cT=140737488355328:=rfl;have fc:=hb g.ids;have dp:=oh g.ops;have dW:=adm g az;unfold dw ew at dW;have ep:c8 (.ao 11) (cA g.ops)=some (.int .i64 g.ops.l.length) :=by simp[cA]
 simp[dw,ew];refine bC dW (by simp[bM,ae.closed,fc,dp]) ?_;by_cases aT:hB g=0
 ·have V:=D7 aT;have Dk:=V.n60;have ja:=V.len;have ahC:kE g (fun _=>False) [bt.cells 2 [bc g.ids,cA g.ops],.cells 1 [.aX],.map [] 0] :=⟨rfl,rfl,amL [bt.cells 2 [bc g.ids,cA g.ops],.cells 1 [.aX]]⟩
  simp[aT,ep];refine c7 g.ops.l.length (adW g) ?_ ⟨by simp,by simp,by simp,by simp,by simp,by simp,by simp,ahC.iff fun x=>⟨fun h=>h.elim,fun ⟨k,_,hk,_⟩=>by omega⟩⟩;rintro k ah l hk ⟨aY,a2,bh,bw,na,kP,kQ,hH⟩;obtain⟨ah,rfl⟩:=O0 aY a2 bh bw na kP kQ;clear aY a2 bh bw na kP kQ;unfold Xq;by_cases cZ:k<g.ops.l.length
  ·obtain⟨x,aj,dF⟩:=ck (l:=g.ids.l) (k:=k) (by omega);obtain⟨o,ay,eK⟩:=ck cZ;have ma:=az.ids x dF;have bF:=dd ma;have aZ:IntKind.i64.wrap ((k:Int)+1)=((k+1:Nat) :Int) :=by rw[IntKind.wrap_i64]; omega
   have hs:cS (.ao 32) (bc g.ids) (.int .i64 (k:Int))=some (.cq (a7 x) 0) :=by simp[bc,aj]
   have cV:cS (.ao 11) (cA g.ops) (.int .i64 (k:Int))=some (.cq (bD o) 0) :=by simp[cA,ay]
   have dJ:(bD o).length=11:=rfl;have vr:∀ h,(bD o)[3]'h=bI o.act.kind:=fun _=>rfl
   have tI:∀ h,(bD o)[4]'h=.str o.act.key:=fun _=>rfl
   have gK:=gf x;have vH:=zB o;have zY:=aen g az V aT x k aj;unfold dw ew at zY;obtain⟨O,fq⟩:∃ O,O=bD o:=⟨_,rfl⟩
   obtain⟨Y,fb⟩:∃ Y,Y=a7 x:=⟨_,rfl⟩
   rw[<-fq] at cV dJ vr tI;rw[<-fb] at hs bF gK zY;obtain⟨Z,qD⟩:∃ Z,Z=[ae.int .u32 0,.aX,.int .u64 0,.int .u8 0,.str [],.int .u8 0,.int .i64 0,.int .u64 0,.str [],.int .u32 0,.int .u32 0] :=⟨_,rfl⟩
   have pj:Z.length=11:=by rw[qD]; rfl
   have mJ:bS Z 0 O=O:=g8 (by rw[dJ,pj]);have CK:=hH.more [.cells 11 O];have kW:∀ y z:bt,(l++[y]).set l.length z=l++[z] :=fun y z=>by rw[List.set_append_right _ _ (Nat.le_refl _)]; simp
   have g7:=CK.gl;have k4:∀ (X:av) h,(l++X)[0]'h=.cells 2 [bc g.ids,cA g.ops] :=fun X h=>by
    have:=(hH.more X).gl; rw[List.getElem?_eq_some_iff] at this; exact this.2
   have zV:O.take 11=O:=List.take_of_length_le (by omega);by_cases df:o.act.kind=3#8
   ·have pD:=vH.2 df;simp[cZ,cV,dJ,<-qD,pj,mJ,kW,zV,vr,tI,pD,k4,hs,bF,List.take_of_length_le];refine bC zY (by simp[bM,ae.closed,fc,dp,gK]) ?_;have xD:c8 (.ao 32) (bc (e4 (jK g k)))=some (.int .i64 (jK g k).length) :=by simp[bc,hJ]
    have gy:=aek g k;simp[xD];refine c7 (jK g k).length (adY g k o l.length) ?_ ⟨by simp,by simp,by simp,by simp,by simp,by simp,by simp,by simp,by simp,by simp,by simp,CK.iff fun t=>⟨.inl,fun h=>h.elim id fun h=>by simp at h⟩,hH.lt,by rw[<-fq]; simp⟩;obtain⟨b,jU⟩:∃ b,b=l.length:=⟨_,rfl⟩
    rw[<-jU];clear hH CK kW g7 k4;rintro q ah l bp ⟨aY,a2,bh,bw,dx,na,kP,kQ,rY,rZ,r0,hH,gH,ai⟩;obtain⟨ah,rfl⟩:=ac9 aY a2 bh bw dx na kP kQ rY rZ r0;clear aY a2 bh bw dx na kP kQ rY rZ r0;unfold Xp;by_cases kp:q<(jK g k).length
    ·obtain⟨y,aK,dg⟩:=ck kp;have pz:=az.ids y (ael dg);have ds:=dd pz;have f1:IntKind.i64.wrap ((q:Int)+1)=((q+1:Nat) :Int) :=by rw[IntKind.wrap_i64]; omega
     have Ag:cS (.ao 32) (bc (e4 (jK g k))) (.int .i64 (q:Int))=some (.cq (a7 y) 0) :=by simp[bc,hJ,aK]
     have qC:b9 ⟨o.act.key,y⟩=.str o.act.key::a7 y:=rfl;have fE:=(hH.more [.cells 32 (a7 y)]).m;obtain⟨c,xL,l5⟩:=fE.put (x:=⟨o.act.key,y⟩) pz;rw[qC] at xL;rw[<-fq] at ai;have fh:b<l.length:=(List.getElem?_eq_some_iff.1 ai).1;obtain⟨W,fa⟩:∃ W,W=a7 y:=⟨_,rfl⟩
     rw[<-fa] at ds Ag qC xL fE;have aj7:bS (rep 32 (.int .u8 0)) 0 W=W:=g8 (by rw[ds]; rfl);have kW:∀ y z:bt,(l++[y]).set l.length z=l++[z] :=fun y z=>by rw[List.set_append_right _ _ (Nat.le_refl _)]; simp
     have ca:∀ X:av,(l++X)[b]? = some (.cells 11 O) :=fun X=>by rw[List.getElem?_append_left fh]; exact ai
     simp[kp,Ag,ds,aj7,kW,List.take_of_length_le,ca,tI,dJ,xL,f1];have hT:∀ a,a≠2->((l++[bt.cells 32 W]).set 2 c)[a]? = (l++[bt.cells 32 W])[a]?:=fun a aG=>List.getElem?_set_ne (Ne.symm aG)
     have xi:=hH.more [.cells 32 W];refine⟨by simp,by simp,by simp,by simp,by simp,by simp,by simp,by simp,by simp,by simp,by simp,⟨(hT 0 (by omega)).trans xi.gl,(hT 1 (by omega)).trans xi.rf,?_⟩,gH,?_⟩
     ·refine (l5 _ (List.getElem?_set_self (by have:=xi.lt; omega))).iff (ahg aK)
     ·rw[hT b (by omega),<-fq]; exact ca _
    ·have sp:q=(jK g k).length:=by omega
     subst sp;rw[List.take_length] at hH;simp[kp,aZ];exact⟨cZ,by simp,by simp,by simp,by simp,by simp,by simp,by simp,hH.iff (ahf ay df)⟩
   ·have pD:¬ (u o.act.kind:Int)=3:=fun h=>df (vH.1 h)
    simp[cZ,cV,dJ,<-qD,pj,mJ,kW,zV,vr,tI,pD,aZ];exact⟨by simp,by simp,by simp,by simp,by simp,by simp,by simp,CK.iff (ahe ay df)⟩
  ·have gp:k=g.ops.l.length:=by omega
   subst gp;have k4:∀ (X:av) h,(l++X)[0]'h=.cells 2 [bc g.ids,cA g.ops] :=fun X h=>by
    have:=(hH.more X).gl; rw[List.getElem?_eq_some_iff] at this; exact this.2
   simp[cZ,k4,ep];refine c7 g.ops.l.length (adX g l.length) ?_ ⟨by simp,by simp,by simp,by simp,by simp,by simp,by simp,by simp,hH.more _,hH.lt,.aX,l.length+1,by simp,by simpa [hO] using bX.nil _,by simp[hO,cU],.inl rfl⟩;obtain⟨b,jU⟩:∃ b,b=l.length:=⟨_,rfl⟩
   rw[<-jU];clear hH k4 jU;rintro i ah l aA ⟨aY,a2,bh,bw,hC,IC,ID,IE,hH,gH,v,j,ai,h8,tX,am⟩;obtain⟨ah,rfl⟩:=ada aY a2 bh bw hC IC ID IE;clear aY a2 bh bw hC IC ID IE;unfold Xr;have fh:b<l.length:=(List.getElem?_eq_some_iff.1 ai).1;have k4:∀ (X:av) h,(l++X)[0]'h=.cells 2 [bc g.ids,cA g.ops] :=fun X h=>by
    have:=(hH.more X).gl; rw[List.getElem?_eq_some_iff] at this; exact this.2
   by_cases dI:i<g.ops.l.length
   ·obtain⟨x,aj,dF⟩:=ck (l:=g.ids.l) (k:=i) (by omega);obtain⟨o,ay,eK⟩:=ck dI;have ma:=az.ids x dF;have bF:=dd ma;have aZ:IntKind.i64.wrap ((i:Int)+1)=((i+1:Nat) :Int) :=by rw[IntKind.wrap_i64]; omega
    have hs:cS (.ao 32) (bc g.ids) (.int .i64 (i:Int))=some (.cq (a7 x) 0) :=by simp[bc,aj]
    have cV:cS (.ao 11) (cA g.ops) (.int .i64 (i:Int))=some (.cq (bD o) 0) :=by simp[cA,ay]
    have dJ:(bD o).length=11:=rfl;have vr:∀ h,(bD o)[3]'h=bI o.act.kind:=fun _=>rfl
    have tI:∀ h,(bD o)[4]'h=.str o.act.key:=fun _=>rfl
    have vH:=zA o;have qC:b9 ⟨o.act.key,x⟩=.str o.act.key::a7 x:=rfl;have r9:(b9 ⟨o.act.key,x⟩).length=33:=kL ma;have gy:=Fj ay aj;obtain⟨O,fq⟩:∃ O,O=bD o:=⟨_,rfl⟩
    obtain⟨Y,fb⟩:∃ Y,Y=a7 x:=⟨_,rfl⟩
    obtain⟨T,dt⟩:∃ T,T=b9 ⟨o.act.key,x⟩:=⟨_,rfl⟩
    rw[<-fq] at cV dJ vr tI;rw[<-fb] at hs bF qC;have jX:=(hH.more [bt.cells 11 O,.cells 33 T]).m.look (x:=⟨o.act.key,x⟩) ma;rw[<-dt] at qC r9 jX;obtain⟨Z,qD⟩:∃ Z,Z=[ae.int .u32 0,.aX,.int .u64 0,.int .u8 0,.str [],.int .u8 0,.int .i64 0,.int .u64 0,.str [],.int .u32 0,.int .u32 0] :=⟨_,rfl⟩
    have pj:Z.length=11:=by rw[qD]; rfl
    have mJ:bS Z 0 O=O:=g8 (by rw[dJ,pj]);have nz:bS (rep 32 (.int .u8 0)) 0 Y=Y:=g8 (by rw[bF]; rfl);have Kd:bS (ae.str [] ::rep 32 (.int .u8 0)) 0 T=T:=EB r9;have zV:O.take 11=O:=List.take_of_length_le (by omega);have Uy:T.take 33=T:=List.take_of_length_le (by omega);have kW:∀ y z:bt,(l++[y]).set l.length z=l++[z] :=fun y z=>by rw[List.set_append_right _ _ (Nat.le_refl _)]; simp
    have Vu:∀ y z w:bt,(l++[w,y]).set (l.length+1) z=l++[w,z] :=fun y z w=>by rw[List.set_append_right _ _ (by omega)]; simp
    have ca:∀ X:av,(l++X)[b]? = some (.cells 1 [v]) :=fun X=>by rw[List.getElem?_append_left fh]; exact ai
    by_cases b6:o.act.kind=2#8
    ·have nE:=vH.2 b6;simp[dI,cV,dJ,<-qD,pj,mJ,kW,zV,vr,tI,nE,k4,hs,bF,List.take_of_length_le,nz,<-qC,r9,Kd,Vu,jX];by_cases hm:mY g g.ops.l.length ⟨o.act.key,x⟩
     ·rw[if_neg (fun h=>h.2 hm),List.append_nil] at gy;simp[hm,aZ];exact⟨dI,by simp,by simp,by simp,by simp,by simp,by simp,by simp,by simp,hH.more _,gH,v,j,ca _,by rw[gy]; exact h8.more _,by rw[gy]; exact tX,am⟩
     ·rw[if_pos ⟨b6,hm⟩] at gy;obtain⟨eO,sk⟩:∃ eO,eO=l++[bt.cells 11 O,bt.cells 33 T,bt.cells 33 T] :=⟨_,rfl⟩
      have atK:eO.length=l.length+3:=by rw[sk]; simp
      have ahY:=BN g i;have ajz:bX 33 eO v j ((hO g i).map b9) :=by rw[sk]; exact h8.more _
      obtain⟨bf,ct,l',hK,jf,o0,By,yM,ap5⟩:=PF (by_:=48) ajz (x:=.ao 33 (l.length+2) 0 1 1 33) (xs:=[T]) (by rw[sk]; simp[dv,r9,Uy]) (by simp[r9]) (by omega) (by omega) (by simp; omega);have he:cU bf=false:=by rw[ap5]; simp
      have Ax:=jf.cells;have ahD:kE g (mY g g.ops.l.length) eO:=by rw[sk]; exact hH.more _
      have sa:eO[b]? = some (.cells 1 [v]) :=by rw[sk]; exact ca _
      have bP:l'[b]? = some (.cells 1 [v]) :=by rw[By b (by omega) (am.imp_right (by omega))]; exact sa
      rw[sk] at hK;simp[hm,ca,r9,Uy,Kd,hK,List.take_of_length_le];refine dK.cM ?_;simp[Ax,bP,aZ];have bY:∀ a,a≠b->(l'.set b (.cells 1 [bf]))[a]? = l'[a]?:=fun a aG=>List.getElem?_set_ne (Ne.symm aG)
      refine⟨dI,by simp,by simp,by simp,by simp,by simp,by simp,by simp,by simp,ahD.frame fun a aG=>?_,gH,bf,ct,List.getElem?_set_self (by omega),?_,by rw[he,gy]; simp,?_⟩
      ·rw[bY a (by omega),By a (by omega) (am.imp_right (by omega))]
      ·have ai3:ct≠b:=by
        rcases yM with h | ⟨h1,ag⟩ | h
        ·omega
        ·have:=am.resolve_left h1; omega
        ·rw[h] at he; cases he
       rw[gy,List.map_append];have:bX 33 (l'.set b (.cells 1 [bf])) bf ct ((hO g i).map b9++[T]) :=jf.frame fun _=>bY ct ai3
       rw[dt] at this;exact this
      ·right;rcases yM with h | ⟨h1,ag⟩ | h
       ·omega
       ·have:=am.resolve_left h1; omega
       ·rw[h] at he; cases he
    ·have nE:¬ (u o.act.kind:Int)=2:=fun h=>b6 (vH.1 h)
     simp[dI,cV,dJ,<-qD,pj,mJ,kW,zV,vr,tI,nE,k4,hs,bF,List.take_of_length_le,nz,<-qC,r9,Kd,Vu,aZ];rw[if_neg (fun h=>b6 h.1),List.append_nil] at gy;exact⟨by simp,by simp,by simp,by simp,by simp,by simp,by simp,by simp,hH.more _,gH,v,j,ca _,by rw[gy]; exact h8.more _,by rw[gy]; exact tX,am⟩
   ·have eA:i=g.ops.l.length:=by omega
    subst eA;have ahY:=BN g g.ops.l.length;simp[dI,ai];refine apR (Pv az _) (by omega) tX h8 (fun l' h1 ag ap=>?_);have bP:l'[b]? = some (.cells 1 [v]) :=by rw[ag b (am.imp_right (by omega))]; exact ai
    have xi:kE g (mY g g.ops.l.length) l':=hH.frame fun a aG=>ag a (am.imp_right (by omega))
    have rf:=xi.rf;have sk:=xi.lt;have Ax:=ap.cells;have dZ:∀ (y:bt),(l'.set 1 y)[1]? = some y:=fun y=>List.getElem?_set_self (by omega)
    simp[bP,rf,dZ];refine Bk (Bj ?_) (a1 (by rw[aT]) rfl);unfold q9;rw[if_pos aT];have aJ:bX 33 (l'.set 1 (.cells 1 [v])) v j ((k6 (hO g g.ops.l.length)).map b9) :=by
     rcases am with e | e
     ·subst e;have:=ap.q.ye;rw[this]; exact .nil _
     ·exact ap.frame fun _=>List.getElem?_set_ne (by omega)
    exact aJ.q.rl (fun x=>m9 x) (EF (k6 (hO g g.ops.l.length))) (by
     rw[tX,apy];have:=acw (hO g g.ops.l.length);cases bd:k6 (hO g g.ops.l.length)<;>cases bL:hO g g.ops.l.length<;>simp_all) (OK _)
 ·simp[aT];refine a1 ?_ ?_
  ·unfold q9; rw[if_neg aT]; rfl
  ·simp[ae.closed,bM,wU]
theorem ahb {α:Type} {l:List α} {i:Nat} {d x:α} (h:l[i]? = some x) :l.getD i d=x:=by rw[List.getD_eq_getElem?_getD,h]; rfl
open Classical in
theorem PB {g:b1} (am:im g.ids.l) {i j:Nat} {p:List B} (aE:g.ids.l[j]? = some p) :p∈jK g i<->io g.ids.l g.ops.l (c5 g.ops.l i) j:=by
 have aC:∀ t,t<g.ids.l.length->(nP g (c5 g.ops.l i)).getD t false=decide (io g.ids.l g.ops.l (c5 g.ops.l i) t) :=fun t aU=>by
  apply ahb;unfold nP;rw[List.getElem?_map,List.getElem?_range aU]; rfl
 unfold jK;rw[Yc];constructor
 ·rintro⟨t,aU,h1,ag⟩;rw[aC t aU] at h1;obtain⟨y,aK,_⟩:=ck aU;rw[hW aK] at ag;subst ag;rw[am j t y aE aK];exact of_decide_eq_true h1
 ·intro h;have au:=(List.getElem?_eq_some_iff.1 aE).1;exact⟨j,au,by rw[aC j au]; exact decide_eq_true h,hW aE⟩
theorem alc {g:b1} (V:mw g) {k:Nat} {o:bQ} (ay:g.ops.l[k]? = some o) (b6:o.act.kind=2#8) :gu o.act.key=true:=by
 obtain⟨y,aK,_⟩:=ck (l:=g.ids.l) (k:=k) (by rw[V.len]; exact (List.getElem?_eq_some_iff.1 ay).1);have h1:=Tx (BC (V.qx k o y ay aK).1);rw[y5 b6,Bool.and_eq_true] at h1;exact h1.1
theorem aed {g:b1} (V:mw g) {m:Nat} {key:List UInt8} {x:List B} (aj:g.ids.l[m]? = some x) :(⟨key,x⟩:bn)∉hO g m:=fun h=>by
 obtain⟨k,o,y,h1,_,ap,_,_,bL⟩:=Fi.1 h;have:x=y:=congrArg bn.id bL;subst this;have:=oM V.eU k m x ap aj;omega
theorem Pu {g:b1} (V:mw g) :∀ {m:Nat},m<=g.ops.l.length->(hO g m).Nodup
 | 0,_=>by simp[hO]
 | m+1,hm=>by
  have aL:=Pu V (m:=m) (by omega);obtain⟨o,ay,_⟩:=ck (l:=g.ops.l) (k:=m) (by omega);obtain⟨x,aj,_⟩:=ck (l:=g.ids.l) (k:=m) (by rw[V.len]; omega);rw[Fj ay aj];split
  ·rw[List.nodup_append];refine⟨aL,by simp,fun a aG b ai e=>?_⟩;rw[List.mem_singleton] at ai;subst e;rw[ai] at aG;exact aed V aj aG
  ·simpa using aL
theorem amu {g:b1} (az:hY g) :iE (q9 g).l/\(q9 g).l.length<=g.ops.l.length:=by
 unfold q9;by_cases aT:hB g=0
 ·rw[if_pos aT,OK];refine⟨fun t aU=>Pv az _ t ((acx _ _).1 aU),?_⟩;rw[acw]; exact BN g _
 ·rw[if_neg aT]; exact⟨fun t aU=>(by cases aU),Nat.zero_le _⟩
structure Fa (g:b1) :Prop where
 ids:hx g.ids
 ops:∀ o∈g.ops.l,Fb o
theorem apU {ts:List TypeId} {cs:List ae} (h:lf Tryz.prog (60::ts) cs) :∃ (g:b1) (cs' : List ae),cs=dw g::cs'/\Fa g/\lf Tryz.prog ts cs':=by
 obtain⟨c,cs',rfl,h1,ag⟩:=ac3 h;obtain⟨cs,rfl,ap⟩:=apX (by kernel_rfl) h1;have aJ:=Bx (fs:=[26,58]) (by kernel_rfl) ap;obtain⟨i,_,rfl,aA,bd⟩:=ac5 aJ;obtain⟨s,_,rfl,_,ay,bL⟩:=OV (e:=35) (z:=11) (enc:=bD) (Q:=Fb) (by kernel_rfl) (by kernel_rfl) (fun r aC=>by
  obtain⟨x,_,rfl,aj,ap⟩:=ap2 aC;rw[EL ap,List.append_nil];exact⟨x,rfl,aj⟩) bd
 rw[EL bL];exact⟨⟨i,s⟩,cs',rfl,⟨aA,ay⟩,ag⟩
theorem amv {g:b1} (h:Fa g) (az:tD g=false) :hY g:=by
 unfold tD at az;simp only[Bool.or_eq_false_iff,decide_eq_false_iff_not] at az;obtain⟨h1,ag,ap,aJ⟩:=az;refine⟨h.ids,fun o ay=>?_,by omega,by omega⟩;have bd:¬ r2 o=true:=fun aN=>h1 ⟨o,by rw[List.take_of_length_le (by omega)]; exact ay,aN⟩
 unfold r2 at bd;simp only[Bool.or_eq_true,decide_eq_true_eq,not_or] at bd;have aU:=h.ops o ay;exact⟨aU.ids,by omega,⟨aU.me,aU.q5,by omega⟩,by omega⟩
noncomputable def O6 (g:b1) (key:List UInt8) :Nat->Bool
 | 0=>false
 | m+1=>O6 g key m||(match g.ops.l[m]?,g.ids.l[m]? with | some o,some x=>decide (o.act.kind=2#8)&&(decide (o.act.key=key)&&!zO g (iJ g) key x g.ops.l.length) | _,_=>false)
structure arj (g:b1) (key:List UInt8) (T:fK) (K:yV) (ar:Bool) (k:Nat) (ah:bi) (l:av) :Prop where
 aY:ah 1=.str key
 a2:ah 2=.ptr 0 0 2
 bw:ah 5=.bool true
 ek:ah 8=.bool ar
 fB:ah 10=Cn K
 hC:ah 12=.bool false
 ag7:ah 14=.int .i64 k
 q8:∃ v,ah 13=v/\cw 1 Tq [.cells 2 [bc g.ids,cA g.ops],.cells 1 [dV T]] l v ((List.range k).map (iJ g)) (decide (k=0))
structure ark (g:b1) (key:List UInt8) (K:yV) (ar:Bool) (v:ae) (L:av) (k:Nat) (ah:bi) (l:av) :Prop where
 aY:ah 1=.str key
 a2:ah 2=.ptr 0 0 2
 bw:ah 5=.bool true
 ek:ah 8=.bool ar
 fB:ah 10=Cn K
 hC:ah 12=.bool (O6 g key k)
 kO:ah 13=v
 xb:ah 15=.int .i64 k
 e:l=L
structure arl (g:b1) (key:List UInt8) (K:yV) (ar:Bool) (v:ae) (L:av) (i:Nat) (x:List B) (k:Nat) (ah:bi) (l:av) :Prop where
 aY:ah 1=.str key
 a2:ah 2=.ptr 0 0 2
 bw:ah 5=.bool true
 ek:ah 8=.bool ar
 fB:ah 10=Cn K
 hC:ah 12=.bool (O6 g key i)
 kO:ah 13=v
 xb:ah 15=.int .i64 i
 tC:ah 16=.bool (!zO g (iJ g) key x k)
 qu:ah 17=.int .i64 k
 e:l=L
structure arm (key:List UInt8) (K:yV) (ar w:Bool) (L:av) (k:Nat) (ah:bi) (l:av) :Prop where
 aY:ah 1=.str key
 bw:ah 5=.bool true
 ek:ah 8=.bool ar
 fB:ah 10=Cn K
 hC:ah 12=.bool w
 qv:ah 18=.bool (decide (key∈K.l.take k))
 qw:ah 19=.int .i64 k
 e:l=L
structure m3 (g:b1) (out:List (List B)) :Prop where
 iB:out.Nodup
 sub:∀ x∈out,x∈g.ids.l
 pre:∀ (i:Nat) (x:List B) (j:Nat),out[i]? = some x->g.ids.l[j]? = some x->∀ p∈c5 g.ops.l j,p∈out.take i
theorem apJ (g:b1) :m3 g [] :=⟨List.nodup_nil,fun x h=>by simp at h,fun i x j h=>by simp at h⟩
theorem apK {g:b1} (eV:im g.ids.l) {out:List (List B)} (h:m3 g out) {j:Nat} {x:List B} (aj:g.ids.l[j]? = some x) (aH:x∉out) (aE:∀ p∈c5 g.ops.l j,p∈out) :m3 g (out++[x]) :=by
 refine⟨?_,fun y aK=>?_,fun i y t aA aU p oG=>?_⟩
 ·rw[List.nodup_append];exact⟨h.iB,by simp,fun a aG b ai e=>by rw[List.mem_singleton] at ai; subst e; rw[ai] at aG; exact aH aG⟩
 ·rw[List.mem_append,List.mem_singleton] at aK;rcases aK with aK | aK
  ·exact h.sub y aK
  ·rw[aK]; exact List.mem_of_getElem? aj
 ·by_cases dI:i<out.length
  ·rw[List.getElem?_append_left dI] at aA;rw[List.take_append_of_le_length (by omega)];exact h.pre i y t aA aU p oG
  ·have aiU:i=out.length:=by
    have:=(List.getElem?_eq_some_iff.1 aA).1;simp at this; omega
   subst aiU;rw[List.getElem?_append_right (Nat.le_refl _)] at aA;simp at aA;subst aA;rw[eV t j x aU aj] at oG;rw[List.take_append_of_le_length (Nat.le_refl _),List.take_length];exact aE p oG
theorem acX {g:b1} {out:List (List B)} (h:m3 g out) :out.length<=g.ids.l.length:=yE h.iB h.sub
def lP (g:b1) (out:List (List B)) :Nat->List (List B)
 | 0=>[]
 | k+1=>lP g out k++(match g.ids.l[k]? with | some x=>if x∉out/\∀ p∈c5 g.ops.l k,p∈out then [x] else [] | none=>[])
theorem H6 {g:b1} {out:List (List B)} {k:Nat} {x:List B} (h:g.ids.l[k]? = some x) :lP g out (k+1)=lP g out k++(if x∉out/\∀ p∈c5 g.ops.l k,p∈out then [x] else []) :=by
 show lP g out k++(match g.ids.l[k]? with | some x=>if x∉out/\∀ p∈c5 g.ops.l k,p∈out then [x] else [] | none=>[])=_;rw[h]
theorem H4 (g:b1) (out:List (List B)) :∀ k,(lP g out k).length<=k
 | 0=>Nat.le_refl _
 | k+1=>by
  have aL:=H4 g out k;cases h:g.ids.l[k]? with
  | none=>
   show (lP g out k++(match g.ids.l[k]? with | some x=>if x∉out/\∀ p∈c5 g.ops.l k,p∈out then [x] else [] | none=>[])).length<=k+1;rw[h]; simp; omega
  | some x=>
   rw[H6 h,List.length_append];split<;>simp<;>omega
theorem H5 {g:b1} {out:List (List B)} {x:List B}:∀ {k:Nat},k<=g.ids.l.length->(x∈lP g out k<->∃ j,j<k/\g.ids.l[j]? = some x/\x∉out/\∀ p∈c5 g.ops.l j,p∈out)
 | 0,_=>by simp[lP]
 | k+1,hk=>by
  have aL:=H5 (g:=g) (out:=out) (x:=x) (k:=k) (by omega);obtain⟨y,aK,_⟩:=ck (l:=g.ids.l) (k:=k) (by omega);rw[H6 aK,List.mem_append,aL];constructor
  ·rintro (⟨j,h1,ag⟩ | h)
   ·exact⟨j,by omega,ag⟩
   ·split at h
    ·rename_i aN;rw[List.mem_singleton] at h;subst h;exact⟨k,by omega,aK,aN⟩
    ·cases h
  ·rintro⟨j,h1,ag,ap⟩;by_cases g2:j=k
   ·subst g2;rw[aK] at ag; obtain rfl:=Option.some.inj ag;right; rw[if_pos ap]; simp
   ·exact .inl ⟨j,by omega,ag,ap⟩
theorem afy {g:b1} (V:mw g) {out:List (List B)} (h:m3 g out) (au:out.length<g.ids.l.length) :lP g out g.ids.l.length≠[] :=by
 intro aw;have eS:∀ (j:Nat) (x:List B),g.ids.l[j]? = some x->x∉out->∃ p∈c5 g.ops.l j,p∉out:=fun j x am aj=>by
  apply Classical.byContradiction;intro aN;have:x∈lP g out g.ids.l.length:=(H5 (Nat.le_refl _)).2 ⟨j,(List.getElem?_eq_some_iff.1 am).1,am,aj,fun p aE=>Classical.byContradiction fun ajL=>aN ⟨p,aE,ajL⟩⟩;rw[aw] at this; cases this
 have eG:∀ j,n0 g.ids.l g.ops.l j->∀ x,g.ids.l[j]? = some x->x∈out:=by
  intro j az
  induction az with
  | mk j aA aE vE aL=>
   intro x aj;apply Classical.byContradiction;intro x2;obtain⟨p,oG,nt⟩:=eS j x aj x2;obtain⟨t,aU⟩:=List.mem_iff_getElem?.1 (aE p oG);exact nt (aL p oG t aU p aU)
 have:g.ids.l.length<=out.length:=by
  have vN:g.ids.l.Nodup:=by
   refine List.pairwise_iff_getElem.2 fun i j aA am iy e=>?_
   have h1:=List.getElem?_eq_getElem aA;rw[e] at h1;have:=oM V.eU i j _ h1 (List.getElem?_eq_getElem am);omega
  exact yE vN fun x aj=>by
   obtain⟨j,am⟩:=List.mem_iff_getElem?.1 aj;exact eG j (V.all j (by rw[<-V.len]; exact (List.getElem?_eq_some_iff.1 am).1)) x am
 omega
def zz (n:Int) :List ae:=[.int .i64 n]
def qr (s:dk Int) :ae:=cO 1 zz s
theorem afR (s:dk Int) :(qr s).closed=true:=u7 (fun _=>rfl) s
structure ad1 (g:b1) (s:dk Int) (m:Nat) (ah:bi) (l:av) :Prop where
 aY:ah 1=qr s
 a2:ah 2=.ptr 0 0 2
 ex:∃ out v,ah 5=v/\cw 32 a7 [.cells 2 [bc g.ids,cA g.ops]] l v out out.isEmpty/\m3 g out/\m=g.ids.l.length - out.length
structure ad0 (g:b1) (s:dk Int) (L:av) (v:ae) (out:List (List B)) (k:Nat) (ah:bi) (l:av) :Prop where
 aY:ah 1=qr s
 a2:ah 2=.ptr 0 0 2
 bw:ah 5=v
 dx:ah 7=.int .i64 k
 ex:∃ w,ah 6=w/\cw 32 a7 L l w (lP g out k) (lP g out k).isEmpty
set_option maxHeartbeats 8000000 in
theorem anS (g:b1) (az:hY g) (V:mw g) (s:dk Int) :
  dh Tryz.prog GS 34 [dw g,qr s] [] (c:=⟨fun r l=>∃ out,m3 g out/\out.length=g.ids.l.length/\Rd l r (bc (e4 out))⟩) :=by
 apply bH RQ aaJ;unfold Hh Nd;have aC:cT=140737488355328:=rfl;have eV:=oM V.eU;have Dk:=V.n60;have ja:=V.len;have gM:c8 (.ao 32) (bc g.ids)=some (.int .i64 g.ids.l.length) :=by simp[bc]
 have ep:c8 (.ao 11) (cA g.ops)=some (.int .i64 g.ops.l.length) :=by simp[cA]
 have kW:c8 (.ao 1) (qr s)=some (.int .i64 s.l.length) :=oP _;simp[dw,ew];refine uo (ad1 g s) ?_ g.ids.l.length _ _ ⟨by simp,by simp,[],.aX,by simp,by simpa using cw.nil,apJ g,by simp⟩;rintro m ah l ⟨aY,a2,out,v,bw,fj,dt,hm⟩;obtain⟨ah,rfl⟩:=kD aY a2 bw;clear aY a2 bw;unfold Xx;have km:=fj.len;have du:=acX dt;have gl:l[0]? = some (.cells 2 [bc g.ids,cA g.ops]) :=by rw[fj.same 0 (by simp)]; rfl
 have fD:1<=l.length:=by have:=fj.le; simpa using this
 by_cases Jl:out.length<g.ids.l.length
 ·simp[km,gl,gM,Jl];refine c7 g.ids.l.length (ad0 g s l v out) ?_ ⟨by simp,by simp,by simp,by simp,.aX,by simp,by simpa [lP] using cw.nil⟩;rintro k ah l1 hk ⟨aY,a2,bw,dx,w,cl,lZ⟩;obtain⟨ah,rfl⟩:=k7 aY a2 bw cl dx;clear aY a2 bw cl dx;unfold Xw;have g7:l1[0]? = some (.cells 2 [bc g.ids,cA g.ops]) :=by rw[lZ.same 0 (by omega)]; exact gl
  have JR:=fj.frame lZ.le lZ.same;by_cases cZ:k<g.ids.l.length
  ·obtain⟨x,aj,dF⟩:=ck cZ;obtain⟨o,ay,eK⟩:=ck (l:=g.ops.l) (k:=k) (by omega);have ma:=az.ids x dF;have bF:=dd ma;have aZ:IntKind.i64.wrap ((k:Int)+1)=((k+1:Nat) :Int) :=by rw[IntKind.wrap_i64]; omega
   have hs:cS (.ao 32) (bc g.ids) (.int .i64 (k:Int))=some (.cq (a7 x) 0) :=by simp[bc,aj]
   have cV:cS (.ao 11) (cA g.ops) (.int .i64 (k:Int))=some (.cq (bD o) 0) :=by simp[cA,ay]
   have kh:(bD o)[1]? = some (bc o.bO) :=rfl;have gK:=gf x;have qG:=hb o.bO;have nu:c5 g.ops.l k=o.bO.l:=uv ay;have cp:=H6 (out:=out) aj;have ez:=H4 g out k;rw[nu] at cp;have Dl:hx (e4 out) :=fun y aK=>by rw[hJ] at aK; exact az.ids y (dt.sub y aK)
   have eA:=abO (e4 out) Dl (by rw[hJ]; omega) x ma;have eG:=N3 (e4 out) Dl (by rw[hJ]; omega) o.bO (az.ops o eK).ids (az.ops o eK).len;rw[hJ] at eA eG;have j2:=JR.pW (fun x=>gf x) (e4 out) (by rw[wv]) (hJ _);obtain⟨O,fq⟩:∃ O,O=bD o:=⟨_,rfl⟩
   obtain⟨Y,fb⟩:∃ Y,Y=a7 x:=⟨_,rfl⟩
   rw[<-fq] at cV kh;rw[<-fb] at hs bF gK eA;have nz:bS (rep 32 (.int .u8 0)) 0 Y=Y:=g8 (by rw[bF]; rfl);simp[g7,gM,cZ,hs,bF,List.take_of_length_le];refine iF eA (.cons j2 (.cons (.same _ (by simp[ae.closed,gK])) .nil)) rfl ?_;by_cases x2:x∈out
   ·rw[if_neg (fun h=>h.1 x2),List.append_nil] at cp;simp[x2,aZ];exact⟨cZ,by simp,by simp,by simp,by simp,w,by simp,by rw[cp]; exact lZ⟩
   ·simp[x2,g7,ep,cV,kh];refine iF eG (.cons j2 (.cons (.same _ qG) .nil)) rfl ?_;by_cases xj:∀ p∈o.bO.l,p∈out
    ·have fM:m4 out o.bO.l=true:=by unfold m4; exact decide_eq_true xj
     rw[if_pos ⟨x2,xj⟩] at cp;obtain⟨w',l',hK,jf,o0⟩:=Yp (by_:=32) (lZ.more [bt.cells 32 (a7 x)]) x (b:=l1.length) (by simp) (by rw[<-fb]; exact bF) (by omega) (by omega) (by rw[aC]; omega);rw[<-fb] at hK;simp[fM,g7,hs,bF,List.take_of_length_le,nz,hK];refine dK.cM ?_;simp[aZ];exact⟨cZ,by simp,by simp,by simp,by simp,w',by simp,by rw[cp,show (lP g out k++[x]).isEmpty=false by simp]; exact jf⟩
    ·have fM:m4 out o.bO.l=false:=by unfold m4; exact decide_eq_false xj
     rw[if_neg (fun h=>xj h.2),List.append_nil] at cp;simp[fM,aZ];exact⟨cZ,by simp,by simp,by simp,by simp,w,by simp,by rw[cp]; exact lZ⟩
  ·have gp:k=g.ids.l.length:=by omega
   subst gp;have bY:=afy V dt Jl;obtain⟨C,xh⟩:∃ C,C=lP g out g.ids.l.length:=⟨_,rfl⟩
   have fV:∀ y,y∈C->∃ j,g.ids.l[j]? = some y/\y∉out/\∀ p∈c5 g.ops.l j,p∈out:=fun y aK=>by
    rw[xh] at aK;obtain⟨j,_,ag⟩:=(H5 (Nat.le_refl _)).1 aK;exact⟨j,ag⟩
   have ez:=H4 g out g.ids.l.length;rw[<-xh] at lZ bY ez;have IQ:0<C.length:=List.length_pos_iff.2 bY;have IR:¬ (C.length:Int)=0:=by omega
   have kV:=lZ.len;obtain⟨nD,amI,_,_,_,_⟩:=id lZ
   -- whichever is taken
   have fin:∀ a:Nat,a<C.length->∃ y p c x bf l',C[a]? = some y/\y.length=32/\cS (.ao 32) w (.int .i64 (a:Int))=some p/\eC l1 p=some (c,x)/\x+32<=c.length/\(c.drop x).take 32=a7 y ∧
     iL (l1++[bt.cells 32 (a7 y)]) 32 32 v (.ao 32 l1.length 0 1 1 32)=some (bf,l')/\cw 32 a7 [.cells 2 [bc g.ids,cA g.ops]] l' bf (out++[y]) false/\m3 g (out++[y]) :=fun a aG=>by
    obtain⟨y,aK,dg⟩:=ck aG;obtain⟨j,am,ako,akp⟩:=fV y dg;have pz:=az.ids y (List.mem_of_getElem? am);obtain⟨p,c,x,bj,bz,a3,a4⟩:=amI.q.get (k:=.i64) (i:=a) (e:=a7 y) (by rw[List.getElem?_map,aK]; rfl);obtain⟨bf,l',hK,jf,o0⟩:=Yp (by_:=32) (JR.more [bt.cells 32 (a7 y)]) y (b:=l1.length) (by simp) (dd pz) (by omega) (by omega) (by rw[aC]; omega);exact⟨y,p,c,x,bf,l',aK,pz,bj,bz,a3,a4,hK,jf,apK eV dt am ako akp⟩
   have JH:=JR.len;by_cases vU:out.length<s.l.length
   ·obtain⟨q,bp,_⟩:=ck vU;have Ag:cS (.ao 1) (qr s) (.int .i64 (out.length:Int))=some (.cq (zz q) 0) :=by unfold qr; rw[pB]; simp[bp]
    by_cases J2:0<q
    ·obtain⟨Eh,rfl⟩:=Int.eq_ofNat_of_zero_le (Int.le_of_lt J2);have sp:0<Eh:=by omega
     have Au:=zd Eh (C.length:Int) (by omega);rw[Int.toNat_natCast] at Au;obtain⟨y,p,c,x,bf,l',aK,pz,bj,bz,a3,a4,hK,jf,o0⟩:=fin (Eh % C.length) (Nat.mod_lt _ IQ)
     have ds:=dd pz;obtain⟨Y,fb⟩:∃ Y,Y=a7 y:=⟨_,rfl⟩
     rw[<-fb] at ds a4 hK;have nz:bS (rep 32 (.int .u8 0)) 0 Y=Y:=g8 (by rw[ds]; rfl);obtain⟨a,ahX⟩:∃ a,a=Eh % C.length:=⟨_,rfl⟩
     rw[<-ahX] at bj Au;simp[g7,gM,kV,bY,IR,km,JH,kW,vU,Ag,zz,J2,sp,Au,bj,bz,a3,a4,ds,nz,List.take_of_length_le,hK];refine dK.cM ?_;simp;exact⟨_,by simp; omega,by simp,by simp,out++[y],bf,by simp,by rw[show (out++[y]).isEmpty=false by simp]; exact jf,o0,rfl⟩
    ·obtain⟨y,p,c,x,bf,l',aK,pz,bj,bz,a3,a4,hK,jf,o0⟩:=fin 0 IQ;have ds:=dd pz;obtain⟨Y,fb⟩:∃ Y,Y=a7 y:=⟨_,rfl⟩
     rw[<-fb] at ds a4 hK;have nz:bS (rep 32 (.int .u8 0)) 0 Y=Y:=g8 (by rw[ds]; rfl);have pc:cS (.ao 32) w (.int .i64 0)=some p:=bj;simp[g7,gM,kV,bY,IR,km,JH,kW,vU,Ag,zz,J2,pc,bz,a3,a4,ds,nz,List.take_of_length_le,hK];refine dK.cM ?_;simp;exact⟨_,by simp; omega,by simp,by simp,out++[y],bf,by simp,by rw[show (out++[y]).isEmpty=false by simp]; exact jf,o0,rfl⟩
   ·obtain⟨y,p,c,x,bf,l',aK,pz,bj,bz,a3,a4,hK,jf,o0⟩:=fin 0 IQ;have ds:=dd pz;obtain⟨Y,fb⟩:∃ Y,Y=a7 y:=⟨_,rfl⟩
    rw[<-fb] at ds a4 hK;have nz:bS (rep 32 (.int .u8 0)) 0 Y=Y:=g8 (by rw[ds]; rfl);have pc:cS (.ao 32) w (.int .i64 0)=some p:=bj;simp[g7,gM,kV,bY,IR,km,JH,kW,vU,pc,bz,a3,a4,ds,nz,List.take_of_length_le,hK];refine dK.cM ?_;simp;exact⟨_,by simp; omega,by simp,by simp,out++[y],bf,by simp,by rw[show (out++[y]).isEmpty=false by simp]; exact jf,o0,rfl⟩
 ·simp[km,gl,gM,Jl];exact⟨out,dt,by omega,fj.rd (fun x=>gf x) (e4 out) (by rw[wv]) (hJ _)⟩
theorem amy (g:b1) (az:hY g) (V:mw g) (s:dk Int) :∃ out,m3 g out/\out.length=g.ids.l.length/\bR Tryz.prog GS 34 [dw g,qr s] (bc (e4 out)) :=by
 obtain⟨r,l',xu,du,out,h1,ag,j2⟩:=anS g az V s;exact⟨out,h1,ag,cf Tryz.checked.mixed b2 ⟨r,l',xu,du,j2⟩⟩
theorem aem {g:b1} {out:List (List B)} (h:m3 g out) {i m:Nat} {y:List B} (aA:out[i]? = some y) (hm:g.ids.l[m]? = some y) :∀ {j:Nat},io g.ids.l g.ops.l (c5 g.ops.l m) j->∀ x,g.ids.l[j]? = some x->x∈out.take i:=by
 intro j aC
 induction aC with
 | start p j aE am=>
  intro x aj;rw[am] at aj; obtain rfl:=Option.some.inj aj;exact h.pre i y m aA hm p aE
 | step iz p j aC aE am aL=>
  intro x aj;rw[am] at aj; obtain rfl:=Option.some.inj aj;have bp:∃ q,g.ids.l[iz]? = some q:=by
   cases aC with
   | start bZ _ fF eo=>exact⟨bZ,eo⟩
   | step Kt bZ _ jp fF eo=>exact⟨bZ,eo⟩
  obtain⟨q,bp⟩:=bp;have ajT:=aL q bp;obtain⟨a,aG⟩:=List.mem_iff_getElem?.1 ajT;have gy:=(List.getElem?_eq_some_iff.1 aG).1;rw[List.length_take] at gy;rw[List.getElem?_take_of_lt (by omega)] at aG;have:=h.pre a q iz aG bp p aE;exact List.mem_of_mem_take (by rw[List.take_take]; rw[Nat.min_eq_left (by omega)]; exact this:p∈(out.take i).take a)
def yR (g:b1) (D:List (List B)) (t:bn) :Prop:=∃ (j:Nat) (o:bQ) (x:List B),x∈D/\g.ids.l[j]? = some x/\g.ops.l[j]? = some o/\o.act.kind=2#8/\t=⟨o.act.key,x⟩
def BL (g:b1) (D:List (List B)) (t:bn) :Prop:=∃ (j:Nat) (o:bQ) (x:List B),x∈D/\g.ids.l[j]? = some x/\g.ops.l[j]? = some o/\o.act.kind=3#8/\o.act.key=t.key/\t.id∈iJ g j
structure yY (g:b1) (out:List (List B)) (k:Nat) (s:fK) :Prop where
 ok:iE s.l
 qx:ll s.l=true
 len:s.l.length<=k
 mem:∀ t,t∈s.l<->yR g (out.take k) t/\¬ BL g (out.take k) t
theorem apl (g:b1) (out:List (List B)) :yY g out 0 none:=
 ⟨fun t h=>(by cases h),rfl,Nat.le_refl _,fun t=>⟨fun h=>(by cases h),fun ⟨⟨j,o,x,aj,_⟩,_⟩=>by simp at aj⟩⟩
theorem ya {out:List (List B)} {k:Nat} {x y:List B} (hk:out[k]? = some x) :y∈out.take (k+1)<->y∈out.take k\/y=x:=by
 rw[List.take_add_one,hk,List.mem_append]; simp
theorem amk {out:List (List B)} (aH:out.Nodup) {k:Nat} {x:List B} (hk:out[k]? = some x) :x∉out.take k:=fun h=>by
 obtain⟨a,aG⟩:=List.mem_iff_getElem?.1 h;have gy:=(List.getElem?_eq_some_iff.1 aG).1;rw[List.length_take] at gy;rw[List.getElem?_take_of_lt (by omega)] at aG;obtain⟨h1,ag⟩:=List.getElem?_eq_some_iff.1 hk;obtain⟨ap,aJ⟩:=List.getElem?_eq_some_iff.1 aG;exact List.pairwise_iff_getElem.1 aH a k ap h1 (by omega) (aJ.trans ag.symm)
theorem aee {g:b1} (eV:im g.ids.l) {out:List (List B)} {k j:Nat} {x:List B} {o:bQ} (hk:out[k]? = some x) (aj:g.ids.l[j]? = some x) (ay:g.ops.l[j]? = some o) (t:bn) :yR g (out.take (k+1)) t<->yR g (out.take k) t\/(o.act.kind=2#8/\t=⟨o.act.key,x⟩) :=by
 constructor
 ·rintro⟨ct,c0,mr,h1,ag,ap,aJ,bd⟩;rcases (ya hk).1 h1 with h | h
  ·exact .inl ⟨ct,c0,mr,h,ag,ap,aJ,bd⟩
  ·subst h;have:=eV ct j mr ag aj;subst this;rw[ay] at ap; obtain rfl:=Option.some.inj ap;exact .inr ⟨aJ,bd⟩
 ·rintro (⟨ct,c0,mr,h1,ag⟩ | ⟨h1,ag⟩)
  ·exact⟨ct,c0,mr,(ya hk).2 (.inl h1),ag⟩
  ·exact⟨j,o,x,(ya hk).2 (.inr rfl),aj,ay,h1,ag⟩
theorem aom {g:b1} (eV:im g.ids.l) {out:List (List B)} {k j:Nat} {x:List B} {o:bQ} (hk:out[k]? = some x) (aj:g.ids.l[j]? = some x) (ay:g.ops.l[j]? = some o) (t:bn) :BL g (out.take (k+1)) t<->BL g (out.take k) t\/(o.act.kind=3#8/\o.act.key=t.key/\t.id∈iJ g j) :=by
 constructor
 ·rintro⟨ct,c0,mr,h1,ag,ap,aJ,bd⟩;rcases (ya hk).1 h1 with h | h
  ·exact .inl ⟨ct,c0,mr,h,ag,ap,aJ,bd⟩
  ·subst h;have:=eV ct j mr ag aj;subst this;rw[ay] at ap; obtain rfl:=Option.some.inj ap;exact .inr ⟨aJ,bd⟩
 ·rintro (⟨ct,c0,mr,h1,ag⟩ | ⟨h1,ag⟩)
  ·exact⟨ct,c0,mr,(ya hk).2 (.inl h1),ag⟩
  ·exact⟨j,o,x,(ya hk).2 (.inr rfl),aj,ay,h1,ag⟩
theorem apm {g:b1} (az:hY g) (V:mw g) {out:List (List B)} (dt:m3 g out) {k j:Nat} {x:List B} {o:bQ} {s:fK} (ar:yY g out k s) (hk:out[k]? = some x) (aj:g.ids.l[j]? = some x) (ay:g.ops.l[j]? = some o) :
  ∃ eY,iM s o (e4 (iJ g j))=(eY,0)/\yY g out (k+1) eY:=by
 have eV:=oM V.eU;have cZ:=(List.getElem?_eq_some_iff.1 hk).1;have Dk:=V.n60;have ja:=V.len;have dJ:=acX dt;have eT:=ar.len;have aT:mS s.l=0:=Ty (by omega) ar.qx;obtain⟨ax,hr⟩:=V.qx j o x ay aj;have h1:=BC ax;obtain⟨CH,_⟩:=y4 g az V aj;have ag:¬ 60<(e4 (iJ g j)).l.length:=by rw[hJ]; have:=CH.len; omega
 have CP:=aee eV hk aj ay;have ks:=aom eV hk aj ay;have Wd:=amk dt.iB hk;have ma:=az.ids x (List.mem_of_getElem? aj);unfold iM;rw[if_pos aT,if_pos h1,if_neg ag];by_cases b6:o.act.kind=2#8
 ·rw[if_pos b6,hr];have l5:(⟨o.act.key,x⟩:bn)∉s.l:=fun h=>by
   obtain⟨⟨ct,c0,mr,bj,bz,a3,a4,a5⟩,_⟩:=(ar.mem _).1 h;have:x=mr:=congrArg bn.id a5;rw[<-this] at bj;exact Wd bj
  have aI:¬ rV s.l ⟨o.act.key,x⟩=true:=fun h=>l5 ((ag3 ar.qx).1 h)
  refine⟨some (iV s.l (iP s.l ⟨o.act.key,x⟩) ⟨o.act.key,x⟩),by unfold pd; rw[if_neg aI,if_neg (by omega)],Wm ar.ok ma,ahk ar.qx l5 (alc V ay b6),by rw[dk.AU,Wl]; omega,fun t=>?_⟩;rw[dk.AU,akB,ar.mem t,CP t,ks t];have df:¬ o.act.kind=3#8:=fun h=>by rw[b6] at h; cases h
  constructor
  ·rintro (h | ⟨bj,bz⟩)
   ·subst h;refine⟨.inr ⟨b6,rfl⟩,fun aN=>?_⟩;rcases aN with ⟨ct,c0,y,ev,dU,gH,oc,u5,BT⟩ | aN
    ·obtain⟨i,aA⟩:=List.mem_iff_getElem?.1 ev;have dI:=(List.getElem?_eq_some_iff.1 aA).1;rw[List.length_take] at dI;rw[List.getElem?_take_of_lt (by omega)] at aA;have aC:=((y4 g az V dU).1.mem j x aj).1 BT;have:=aem dt aA dU aC x aj;exact Wd (List.mem_of_mem_take (by rw[List.take_take,Nat.min_eq_left (by omega)]; exact this:x∈(out.take k).take i))
    ·exact df aN.1
   ·exact⟨.inl bj,fun aN=>aN.elim bz fun aN=>df aN.1⟩
  ·rintro⟨bj | bj,bz⟩
   ·exact .inr ⟨bj,fun aN=>bz (.inl aN)⟩
   ·exact .inl bj.2
 ·rw[if_neg b6];have UB:∀ t,yR g (out.take (k+1)) t<->yR g (out.take k) t:=fun t=>by
   rw[CP t]; exact⟨fun h=>h.elim id fun h=>absurd h.1 b6,.inl⟩
  by_cases df:o.act.kind=3#8
  ·rw[if_pos df];have xS:(acN (fun l=>l.filter fun t=>!lG o (e4 (iJ g j)) t) s).l=s.l.filter fun t=>!lG o (e4 (iJ g j)) t:=by cases s<;>rfl
   refine⟨_,rfl,?_,?_,?_,fun t=>?_⟩
   ·rw[xS]; exact fun t aU=>ar.ok t (List.mem_filter.1 aU).1
   ·rw[xS]; exact ahj ar.qx
   ·rw[xS]; have:=List.length_filter_le (fun t=>!lG o (e4 (iJ g j)) t) s.l; omega
   ·rw[xS,List.mem_filter,ar.mem t,UB t,ks t];have cK:(!lG o (e4 (iJ g j)) t)=true<->¬ (t.key=o.act.key/\t.id∈iJ g j) :=by
     unfold lG;rw[hJ];simp;exact⟨fun h aG=>h.elim (fun h=>absurd aG h) id,fun h=>Classical.or_iff_not_imp_left.2 fun h'=>h (Classical.not_not.1 h')⟩
    rw[cK];constructor
    ·rintro⟨⟨bj,bz⟩,a3⟩;exact⟨bj,fun aN=>aN.elim bz fun aN=>a3 ⟨aN.2.1.symm,aN.2.2⟩⟩
    ·rintro⟨bj,bz⟩;exact⟨⟨bj,fun aN=>bz (.inl aN)⟩,fun aN=>bz (.inr ⟨df,aN.1.symm,aN.2⟩)⟩
  ·rw[if_neg df];refine⟨_,rfl,ar.ok,ar.qx,by omega,fun t=>?_⟩;rw[ar.mem t,UB t,ks t];exact⟨fun ⟨bj,bz⟩=>⟨bj,fun aN=>aN.elim bz fun aN=>df aN.1⟩,fun ⟨bj,bz⟩=>⟨bj,fun aN=>bz (.inl aN)⟩⟩
theorem acW {g:b1} {out:List (List B)} (h:m3 g out) (au:out.length=g.ids.l.length) {x:List B} (aj:x∈g.ids.l) :x∈out:=by
 apply Classical.byContradiction;intro aH;have:=yE (a:=x::out) (b:=g.ids.l) (List.nodup_cons.2 ⟨aH,h.iB⟩) (fun y aK=>by
  rcases List.mem_cons.1 aK with e | e
  ·rw[e]; exact aj
  ·exact h.sub y e)
 simp at this; omega
theorem apk {g:b1} (az:hY g) (aT:hB g=0) {out:List (List B)} (dt:m3 g out) (au:out.length=g.ids.l.length) {s:fK} (ar:yY g out out.length s) :s.l=(q9 g).l:=by
 have V:=D7 aT;have eV:=oM V.eU;unfold q9;rw[if_pos aT,OK];have jZ:=ar.mem;rw[List.take_length] at jZ;refine acz (lt:=et) wb (fun a b c h1 ag=>pL h1 ag) ((zP _).1 ar.qx).2 (ao8 (Pu V (Nat.le_refl _))) (fun t=>?_);rw[acx,jZ t,Fi];have ks:∀ (key:List UInt8) (x:List B),x∈g.ids.l->(BL g out ⟨key,x⟩<->mY g g.ops.l.length ⟨key,x⟩) :=fun key x dF=>by
  obtain⟨i,aA⟩:=List.mem_iff_getElem?.1 dF;constructor
  ·rintro⟨j,o,y,bj,bz,a3,a4,a5,u4⟩;exact⟨j,o,(List.getElem?_eq_some_iff.1 a3).1,a3,a4,a5,(PB eV aA).2 (((y4 g az V bz).1.mem i x aA).1 u4)⟩
  ·rintro⟨j,o,bj,bz,a3,a4,a5⟩;obtain⟨y,aK,dg⟩:=ck (l:=g.ids.l) (k:=j) (by rw[V.len]; exact bj);exact⟨j,o,y,acW dt au dg,aK,bz,a3,a4,((y4 g az V aK).1.mem i x aA).2 ((PB eV aA).1 a5)⟩
 constructor
 ·rintro⟨⟨j,o,x,bj,bz,a3,a4,a5⟩,u4⟩;subst a5;exact⟨j,o,x,(List.getElem?_eq_some_iff.1 a3).1,a3,bz,a4,fun h=>u4 ((ks _ _ (List.mem_of_getElem? bz)).2 h),rfl⟩
 ·rintro⟨j,o,x,bj,bz,a3,a4,a5,u4⟩;subst u4;have dF:=List.mem_of_getElem? a3;exact⟨⟨j,o,x,acW dt au dF,a3,bz,a4,rfl⟩,fun h=>a5 ((ks _ _ dF).1 h)⟩
theorem apV {ts:List TypeId} {cs:List ae} (h:lf Tryz.prog (80::ts) cs) :∃ (s:dk Int) (cs' : List ae),cs=qr s::cs'/\lf Tryz.prog ts cs':=by
 obtain⟨c,cs',rfl,h1,ag⟩:=ac3 h;obtain⟨s,ve,ar,_,_,ap⟩:=OV (e:=3) (z:=1) (enc:=zz) (Q:=fun _=>True) (by kernel_rfl) (by kernel_rfl) (fun r aC=>by
  obtain⟨x,cs',rfl,_,_,ap⟩:=yL (k:=.i64) (by kernel_rfl) aC;rw[EL ap];exact⟨x,rfl,trivial⟩) (apY (by kernel_rfl) h1)
 cases ar;exact⟨s,cs',rfl,ag⟩
structure adV (g:b1) (out:List (List B)) (T:fK) (k:Nat) (ah:bi) (l:av) :Prop where
 a2:ah 2=.ptr 0 0 2
 bw:ah 5=.bool true
 cl:ah 6=.ptr 1 0 1
 dx:ah 7=.int .i64 0
 ek:ah 8=bc (e4 out)
 g0:ah 9=.ptr 2 0 1
 fB:ah 10=.int .i64 k
 ex:∃ s m,l=.cells 2 [bc g.ids,cA g.ops] ::.cells 1 [dV T] ::.cells 1 [dV s] ::m/\yY g out k s
set_option maxHeartbeats 8000000 in
theorem amz (gy:bR Tryz.prog GS 27 [] (.bool true)) (g:b1) (aU:Fa g) (Lx:dk Int) :dh Tryz.prog GS 7 [dw g,qr Lx] [] (c:=⟨fun r _=>r=.bool true⟩) :=by
 apply bH Su abo;unfold rO oT;have fc:=hb g.ids;have dp:=oh g.ops;have qH:=anK g;unfold dw ew at qH;simp[dw,ew];refine bC gy rfl ?_;simp;refine bC qH (by simp[bM,ae.closed,fc,dp]) ?_;cases Jm:tD g with
 | true=>simp
 | false=>
  have az:=amv aU Jm;have dW:=anJ g az;unfold dw ew at dW;simp;refine bC dW (by simp[bM,ae.closed,fc,dp]) ?_;by_cases aT:hB g=0
  ·have V:=D7 aT;have Dk:=V.n60;have ja:=V.len;have gM:=az.li;have mI:=aqy g az;rw[aT] at mI;obtain⟨ci,b6⟩:=amu az;obtain⟨out,dt,dJ,kn⟩:=amy g az V Lx;have aik:=afR Lx;have atv:=hb (e4 out);have ep:c8 (.ao 32) (bc (e4 out))=some (.int .i64 out.length) :=by simp[bc,hJ]
   have JC:c8 (.ao 32) (bc g.ids)=some (.int .i64 g.ids.l.length) :=by simp[bc]
   have xt:=@apk g az aT out dt dJ;unfold dw ew at mI kn;have cX:=wU (q9 g);obtain⟨T,ahQ⟩:∃ T,T=q9 g:=⟨_,rfl⟩
   rw[<-ahQ] at mI cX ci b6 xt;have ahP:=SV T;simp[aT];refine bC mI (by simp[bM,ae.closed,fc,dp]) ?_;simp[ahP];refine bC kn (by simp[bM,ae.closed,fc,dp,aik]) ?_;simp;refine bC Ld rfl ?_;simp;refine c7 out.length (adV g out T) ?_ ⟨by simp,by simp,by simp,by simp,by simp,by simp,by simp,none,[],rfl,apl g out⟩;rintro k ah l hk ⟨a2,bw,cl,dx,ek,g0,fB,s,m,rfl,ar⟩;obtain⟨ah,rfl⟩:=O0 a2 bw cl dx ek g0 fB;clear a2 bw cl dx ek g0 fB;unfold XJ;by_cases cZ:k<out.length
   ·obtain⟨x,aj,dF⟩:=ck cZ;have j3:=dt.sub x dF;obtain⟨j,am⟩:=List.mem_iff_getElem?.1 j3;obtain⟨o,ay,eK⟩:=ck (l:=g.ops.l) (k:=j) (by rw[<-V.len]; exact (List.getElem?_eq_some_iff.1 am).1);obtain⟨eY,xj,l7⟩:=apm az V dt ar aj am ay;have ma:=az.ids x j3;have bF:=dd ma;have aZ:IntKind.i64.wrap ((k:Int)+1)=((k+1:Nat) :Int) :=by rw[IntKind.wrap_i64]; omega
    have hs:cS (.ao 32) (bc (e4 out)) (.int .i64 (k:Int))=some (.cq (a7 x) 0) :=by simp[bc,hJ,aj]
    have fO:=abP g az (oM V.eU) am ay;obtain⟨CH,fM⟩:=y4 g az V am;have eT:=ar.len;have V7:=aqq s o (e4 (iJ g j)) ar.ok (by omega) (az.ops o eK) (fun y aK=>az.ids y (CH.sub y (by rw[hJ] at aK; exact aK))) (by rw[hJ]; have:=CH.len; omega);rw[xj] at V7;have at1:=l7.len;have UP:=anZ eY l7.ok (by omega);rw[Ty (by omega) l7.qx] at UP;unfold dw ew at fO fM;have gK:=gf x;have se:=mz o;have cp:=wU s;have ain:=wU eY;have aih:=hb (e4 (iJ g j));have VZ:=SV eY;obtain⟨Y,fb⟩:∃ Y,Y=a7 x:=⟨_,rfl⟩
    rw[<-fb] at hs bF gK fO fM;simp[ep,cZ,hs,bF,List.take_of_length_le];refine bC fO (by simp[bM,ae.closed,fc,dp,gK]) ?_;simp;refine⟨⟨by omega,List.take_of_length_le (by omega)⟩,?_⟩;refine bC fM (by simp[bM,ae.closed,fc,dp,gK]) ?_;simp;refine bC V7 (by simp[bM,ae.closed,cp,se,aih]) ?_;simp[VZ];refine bC UP (by simp[bM,ae.closed,ain]) ?_;simp[VZ,aZ];exact⟨cZ,by simp,by simp,by simp,by simp,by simp,by simp,by simp,eY,m++[_],rfl,l7⟩
   ·have gp:k=out.length:=by omega
    subst gp;have r9:=xt ar;have jq:=aoI s T ar.ok ci (by have:=ar.len; omega);rw[decide_eq_true r9] at jq;have cp:=wU s;simp[ep,cZ,JC,dJ];refine bC jq (by simp[bM,ae.closed,cp,cX]) ?_;simp
  ·simp[aT]
end Op
end Go.cn

namespace Go.cn
open Go Go.Proofs
set_option maxRecDepth 1000000
set_option maxHeartbeats 8000000
abbrev Wv:List ae:=[.aV ([.int .u32 (1024)]++[.b0 32 []]++[.int .u64 (1)]++[.int .u8 2]++[.str [107]]++[.int .u8 0]++[nC (0)]++[.int .u64 (0)]++[.str []]++[.int .u32 (279904696)]++[.int .u32 (405231647)])]
abbrev WA:ae:=nC (0)
theorem ak3:iI Tryz.prog GS 61 Wv WA:=
 wm (P:=Tryz.prog) Tryz.checked.mixed b2 (wi (mW.mem (oa Ep (wL)))) uM (orc:=sQ [Bl]) (fuel:=100000) (k:=60) (by kernel_rfl)
abbrev Ww:List ae:=[.aV ([.int .u32 (1024)]++[.b0 32 [da [229,124,185,107,70,231,131,233,115,130,99,242,254,26,152,21,36,103,69,47,253,120,128,100,162,223,201,56,16,173,61,62]]]++[.int .u64 (2)]++[.int .u8 3]++[.str [107]]++[.int .u8 0]++[nC (0)]++[.int .u64 (0)]++[.str []]++[.int .u32 (222953725)]++[.int .u32 (492791184)])]
abbrev WB:ae:=nC (0)
theorem ak4:iI Tryz.prog GS 61 Ww WB:=
 wm (P:=Tryz.prog) Tryz.checked.mixed b2 (wi (mW.mem (oa Ep (wL)))) uM (orc:=sQ [Bl]) (fuel:=100000) (k:=60) (by kernel_rfl)
abbrev Wx:List ae:=[.aV ([.int .u32 (1024)]++[.b0 32 []]++[.int .u64 (3)]++[.int .u8 2]++[.str [107]]++[.int .u8 0]++[nC (0)]++[.int .u64 (0)]++[.str []]++[.int .u32 (466031157)]++[.int .u32 (154584838)])]
abbrev WC:ae:=nC (0)
theorem ak5:iI Tryz.prog GS 61 Wx WC:=
 wm (P:=Tryz.prog) Tryz.checked.mixed b2 (wi (mW.mem (oa Ep (wL)))) uM (orc:=sQ [Bl]) (fuel:=100000) (k:=60) (by kernel_rfl)
abbrev Wy:List ae:=[.aV ([.b0 32 [da [118,22,95,112,174,4,111,107,240,22,10,146,23,178,112,45,83,205,202,96,101,37,118,128,7,255,191,103,167,230,185,199],da [229,124,185,107,70,231,131,233,115,130,99,242,254,26,152,21,36,103,69,47,253,120,128,100,162,223,201,56,16,173,61,62],da [236,1,228,215,173,162,212,26,73,9,238,81,3,24,43,149,66,163,18,250,15,204,37,92,161,241,167,131,64,202,126,40]]]++[.b0 11 [[.int .u32 (1024)]++[.b0 32 []]++[.int .u64 (3)]++[.int .u8 2]++[.str [107]]++[.int .u8 0]++[nC (0)]++[.int .u64 (0)]++[.str []]++[.int .u32 (466031157)]++[.int .u32 (154584838)],[.int .u32 (1024)]++[.b0 32 []]++[.int .u64 (1)]++[.int .u8 2]++[.str [107]]++[.int .u8 0]++[nC (0)]++[.int .u64 (0)]++[.str []]++[.int .u32 (279904696)]++[.int .u32 (405231647)],[.int .u32 (1024)]++[.b0 32 [da [229,124,185,107,70,231,131,233,115,130,99,242,254,26,152,21,36,103,69,47,253,120,128,100,162,223,201,56,16,173,61,62]]]++[.int .u64 (2)]++[.int .u8 3]++[.str [107]]++[.int .u8 0]++[nC (0)]++[.int .u64 (0)]++[.str []]++[.int .u32 (222953725)]++[.int .u32 (492791184)]]])]
abbrev WD:ae:=nC (0)
theorem ak6:iI Tryz.prog GS 55 Wy WD:=
 wm (P:=Tryz.prog) Tryz.checked.mixed b2 (wi (mW.mem (oa YJ (oa acL (oa YS (wL)))))) uM (orc:=sQ [Ly,j9,LF]) (fuel:=100000) (k:=60) (by kernel_rfl)
abbrev Wz:List ae:=[.aV ([.b0 32 [da [229,124,185,107,70,231,131,233,115,130,99,242,254,26,152,21,36,103,69,47,253,120,128,100,162,223,201,56,16,173,61,62],da [236,1,228,215,173,162,212,26,73,9,238,81,3,24,43,149,66,163,18,250,15,204,37,92,161,241,167,131,64,202,126,40]]]++[.b0 11 [[.int .u32 (1024)]++[.b0 32 []]++[.int .u64 (1)]++[.int .u8 2]++[.str [107]]++[.int .u8 0]++[nC (0)]++[.int .u64 (0)]++[.str []]++[.int .u32 (279904696)]++[.int .u32 (405231647)],[.int .u32 (1024)]++[.b0 32 [da [229,124,185,107,70,231,131,233,115,130,99,242,254,26,152,21,36,103,69,47,253,120,128,100,162,223,201,56,16,173,61,62]]]++[.int .u64 (2)]++[.int .u8 3]++[.str [107]]++[.int .u8 0]++[nC (0)]++[.int .u64 (0)]++[.str []]++[.int .u32 (222953725)]++[.int .u32 (492791184)]]])]
abbrev WE:ae:=nC (0)
theorem ak7:iI Tryz.prog GS 55 Wz WE:=
 wm (P:=Tryz.prog) Tryz.checked.mixed b2 (wi (mW.mem (oa YJ (oa acL (oa YS (wL)))))) uM (orc:=sQ [Ly,j9,LF]) (fuel:=100000) (k:=60) (by kernel_rfl)
theorem ak8:dh Tryz.prog GS 27 [] [] (c:=⟨fun r _=>r=.bool true⟩) :=
 afw (wi (mW.mem (oa Ep (oa (Lv (y7 ak6 (y7 ak7 (Py)))) (oa (Lv (y7 ak3 (y7 ak4 (y7 ak5 (Py))))) (wL)))))) uM (orc:=sQ [Bl,(55,true,A8 [(Wy,WD),(Wz,WE)]),(61,true,A8 [(Wv,WA),(Ww,WB),(Wx,WC)])]) (fuel:=100000) (k:=60) (by kernel_rfl)
theorem aeg:bR Tryz.prog GS 27 [] (.bool true) :=
 cf Tryz.checked.mixed b2 (by
  obtain⟨r,l,h1,ag,ap⟩:=ak8;exact⟨r,l,h1,ag,a1 ap rfl⟩)
end Go.cn

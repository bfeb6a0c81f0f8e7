/-
  Sets of tags: a tag is put in, tags are struck; the program's Apply, walked.
-/
import Derived.Test.YtboebmmklamaeaaGreatDoorSl
import Derived.Test.YtboebmmklamaeaaGreatDoorRows
import Derived.Shelf.SlSortCmp.WholeK
import Derived.Shelf.SlGeneric
set_option linter.unusedVariables false
set_option linter.unusedSimpArgs false
set_option linter.unnecessarySimpa false
namespace Go.cl
open Go Go.Proofs
set_option maxRecDepth 100000
namespace Op
open gX
def hd (l:List bw) (i:Nat) (x:bw) :List bw:=l.take i++x::l.drop i
theorem UF (l:List bw) (i:Nat) (x:bw) :(hd l i x).length=l.length+1:=by
 unfold hd; simp; omega
theorem UG {l:List bw} {i:Nat} {x:bw} (h:m7 l) (aj:x.id.length=32) :m7 (hd l i x) :=by
 intro t aU;unfold hd at aU;rcases List.mem_append.1 aU with h1 | h1
 ·exact h t (List.mem_of_mem_take h1)
 ·rcases List.mem_cons.1 h1 with af | af
  ·rw[af]; exact aj
  ·exact h t (List.mem_of_mem_drop af)
structure ub (j:Nat) (l l' : au) :Prop where
 le:l.length<=l'.length
 same:∀ b,b<l.length->b≠j->l'[b]? = l[b]?
theorem ub.refl (j:Nat) (l:au) :ub j l l:=⟨Nat.le_refl _,fun _ _ _=>rfl⟩
theorem ub.trans {j:Nat} {a b c:au} (h1:ub j a b) (af:ub j b c) :ub j a c:=⟨by have:=h1.le; have:=af.le; omega,fun x aj am=>by rw[af.same x (by have:=h1.le; omega) am]; exact h1.same x aj am⟩
structure anS (eR:au) (v:ae) (g:FuncId) (cap:List ae) (xs:List bw) (p:bw->Bool) (k:Nat) (ah:bj) (l:au) :Prop where
 cP:ah 0=v
 aV:ah 1=.fn g [] cap
 dU:ah 7=.int .i64 xs.length
 ff:ah 8=.int .i64 k
 ar:∀ (j:Nat) (z:bw),j<k->xs[j]? = some z->p z=false
 le:eR.length<=l.length
 same:∀ b,b<eR.length->l[b]? = eR[b]?
structure anP (eR:au) (v:ae) (g:FuncId) (cap:List ae) (j:Nat) (xs:List bw) (p:bw->Bool) (k:Nat) (ah:bj) (l:au) :Prop where
 cP:ah 0=v
 aV:ah 1=.fn g [] cap
 cj:ah 6=.int .i64 k
 apL:ub j eR l
 ex:∃ (q:Nat) (bm:List bw),ah 5=.int .i64 (q:Int)/\bX 33 l v j (bm.map cW)/\bm.length=xs.length/\m7 bm/\bm.take q=(xs.take k).filter (fun t=>!p t)/\q<k/\∀ t,k<=t->bm[t]? = xs[t]?
theorem alq {a b c:List UInt8} (h1:lK a b=true) (af:lK b c=true) :lK a c=true:=
 (vG _ _).2 (List.lt_trans ((vG _ _).1 h1) ((vG _ _).1 af))
theorem alp (a:List UInt8) :lK a a=false:=by
 cases h:lK a a with
 | false=>rfl
 | true=>exact absurd ((vG _ _).1 h) (List.lt_irrefl _)
theorem n5 {a b c:bw} (h1:ec a b=true) (af:ec b c=true) :ec a c=true:=by
 unfold ec at *
 by_cases a1:a.key=b.key
 ·rw[if_pos a1] at h1;by_cases b7:b.key=c.key
  ·rw[if_pos b7] at af;rw[if_pos (a1.trans b7)];simp only[decide_eq_true_eq] at *
   exact yg _ _ _ h1 af
  ·rw[if_neg b7] at af;rw[if_neg (fun h=>b7 (a1.symm.trans h)),a1]; exact af
 ·rw[if_neg a1] at h1;by_cases b7:b.key=c.key
  ·rw[if_neg (fun h=>a1 (h.trans b7.symm)),<-b7]; exact h1
  ·rw[if_neg b7] at af;have:=alq h1 af;rw[if_neg (fun h=>by rw[h,alp] at this; cases this)]; exact this
theorem vn (a:bw) :ec a a=false:=by
 unfold ec;rw[if_pos rfl,q0]; rfl
theorem vo {a b:bw} (h1:ec a b=false) (af:a≠b) :ec b a=true:=by
 unfold ec at *
 by_cases a1:a.key=b.key
 ·rw[if_pos a1] at h1;rw[if_pos a1.symm];have ap:=Bb a.id b.id;have aH:=Rb a.id b.id;simp only[decide_eq_false_iff_not,decide_eq_true_eq] at *
  have bc:cK a.id b.id≠0:=fun h=>af (by
   have:=Ba h;cases a; cases b; simp_all)
  omega
 ·rw[if_neg a1] at h1;rw[if_neg (fun h=>a1 h.symm)];rw[vG];have ap:¬ a.key<b.key:=fun h=>by rw[(vG _ _).2 h] at h1; cases h1
  by_cases h:b.key<a.key
  ·exact h
  ·exact absurd (List.le_antisymm (List.not_lt.1 h) (List.not_lt.1 ap)) a1
theorem Sq {l:List bw} (h:pO l=true) {i:Nat} {a b:bw} (aG:l[i]? = some a) (ai:l[i+1]? = some b) :ec a b=true:=by
 have h1:=(of_decide_eq_true h) (i+1) (List.getElem?_eq_some_iff.1 ai).1;unfold yA at h1;rw[Nat.add_sub_cancel,sb aG,sb ai,Bool.and_eq_true] at h1;simpa using h1.2
theorem Hw {l:List bw} (h:pO l=true) :∀ {d i:Nat} {a b:bw},l[i]? = some a->l[i+d+1]? = some b->ec a b=true
 | 0,i,a,b,aG,ai=>Sq h aG ai
 | d+1,i,a,b,aG,ai=>by
  obtain⟨c,ak,_⟩:=ck (l:=l) (k:=i+d+1) (by have:=(List.getElem?_eq_some_iff.1 ai).1; omega);exact n5 (Hw h aG ak) (Sq h ak ai)
theorem aeE {l:List bw} (h:pO l=true) (x:bw) :ai8 l x:=by
 intro i j a b iD aG ai aN;by_cases aw:i=j
 ·subst aw; rw[aG] at ai; cases ai; exact aN
 ·exact n5 (Hw h (d:=j - i - 1) aG (by rw[show i+(j - i - 1)+1=j by omega]; exact ai)) aN
def amd (o:bH) (b:fp) (t:bw) :Bool:=decide (t.key=o.act.key)&&decide (t.id∈b.l)
theorem RA (o:bH) :((u o.act.kind:Int)=2)<->o.act.kind=2#8:=qH o.act.kind 2#8
theorem RB (o:bH) :((u o.act.kind:Int)=3)<->o.act.kind=3#8:=qH o.act.kind 3#8
def ky (l:List bw) (x:bw) :Nat->Nat
 | 0=>0
 | i+1=>if ec x (pm l i) then ky l x i else i+1
theorem Dj (l:List bw) (x:bw) :∀ i,ky l x i<=i
 | 0=>Nat.le_refl _
 | i+1=>by
  unfold ky;split
  ·have:=Dj l x i; omega
  ·exact Nat.le_refl _
def oa (l:List bw) (x:bw) :List bw:=hd l (ky l x l.length) x
theorem ahR {l:List bw} {i:Nat} {x:bw} (aA:i<=l.length) :(hd l i x)[i]? = some x:=by
 unfold hd;rw[List.getElem?_append_right (by rw[List.length_take]; omega),List.length_take,Nat.min_eq_left aA]; simp
theorem ahS {l:List bw} {i k:Nat} {x:bw} (aE:k<i) (aA:i<=l.length) :(hd l i x)[k]? = l[k]?:=by
 unfold hd;rw[List.getElem?_append_left (by rw[List.length_take]; omega),List.getElem?_take_of_lt aE]
theorem ahU {l:List bw} {i:Nat} {x y:bw} (aO:l[i]? = some y) :((hd l (i+1) x).set (i+1) y).set i x=hd l i x:=by
 have aA:=(List.getElem?_eq_some_iff.1 aO).1;have h1:l.take (i+1)=l.take i++[y] :=by rw[List.take_add_one,aO]; rfl
 have af:l.drop i=y::l.drop (i+1) :=by rw[List.drop_eq_getElem_cons aA,(List.getElem?_eq_some_iff.1 aO).2]
 have aq:(l.take i).length=i:=by rw[List.length_take]; omega
 unfold hd;rw[h1,af,List.append_assoc];rw[List.set_append_right _ _ (by omega),List.set_append_right _ _ (by omega),aq];simp
theorem Ww {l l1:au} {v:ae} {a:List bw} {e2:Bool} (h:cq 33 cW l l1 v a e2) {k:Nat} {y:bw} (aO:a[k]? = some y) :
  ∃ p cs o,cO (.ao 33) v (.int .i64 (k:Int))=some p/\d4 l1 p=some (cs,o)/\o+33<=cs.length/\(cs.drop o).take 33=cW y:=by
 obtain⟨j,ay,_⟩:=h;exact ay.q.get (k:=.i64) (i:=k) (e:=cW y) (by rw[List.getElem?_map,aO]; rfl)
theorem Wx {l l1:au} {v:ae} {a:List bw} {e2:Bool} (h:cq 33 cW l l1 v a e2) (aB:m7 a) {k:Nat} {y:bw} (aE:k<a.length) (aO:y.id.length=32) :
  ∃ p l',cO (.ao 33) v (.int .i64 (k:Int))=some p/\iJ 33 l1 p (.aS (cW y))=some l'/\cq 33 cW l l' v (a.set k y) e2:=by
 obtain⟨j,ay,af,ap,aH,bc⟩:=h;obtain⟨p,l',bn,bA,a3,a4,a5⟩:=WK (X:=.aS (cW y)) rfl ay (fun t aU=>oC (aB t aU)) aE (oC aO);refine⟨p,l',bn,bA,j,a3,by omega,fun b ai=>?_,aH,bc⟩;rcases aH with aH | aH
 ·subst aH;have:=ay.q.xp;rw[List.map_eq_nil_iff] at this;rw[this] at aE; simp at aE
 ·rw[a5 b (by omega)]; exact ap b ai
theorem aj7 {l l1:au} {v:ae} {a:List bw} {e2:Bool} (h:cq 33 cW l l1 v a e2) (x:bw) {b:Nat} (ai:l1[b]? = some (.cells 33 (cW x))) (aj:x.id.length=32) (ds:a.length<=1000000000) :
  ∃ bf l',ie l1 33 48 v (.ao 33 b 0 1 1 33)=some (bf,l')/\cq 33 cW l l' bf (a++[x]) false/\l1.length<=l'.length:=by
 have aC:cJ=140737488355328:=rfl;have bE:=oC aj;obtain⟨bf,l',aV,aY,bd⟩:=h.app (by_:=48) (x:=.ao 33 b 0 1 1 33) (xs:=[x]) (by simp[df,ai,bE,List.take_of_length_le]) (by simp[bE]) (by omega) (by omega) (by rw[aC]; simp; omega);exact⟨bf,l',aV,by simpa using aY,bd⟩
theorem adp (l:au) (s:j7) :df l 33 (gE s)=some ((s.l.map cW).flatten,s.l.length) :=wh l 33 cW s
structure abN (l:au) (a:List bw) (x:bw) (m:Nat) (ah:bj) (l1:au) :Prop where
 ex:∃ (i:Nat) (v:ae),i=m/\i<=a.length/\ah 5=v/\ah 6=.int .i64 (i:Int)/\cq 33 cW l l1 v (hd a i x) false/\ky a x i=ky a x a.length
theorem akA (s:j7) (ar:m7 s.l) (e7:s.l.length<=1000000) (x:bw) (aj:x.id.length=32) :bT Tryz.prog GS 46 [gE s,.aS (cW x)] (gE (some (oa s.l x))) :=by
 refine ca Tryz.checked.mixed b3 ?_;apply bI Qg YN;unfold Gc LV;have bE:=oC aj;have aC:cJ=140737488355328:=rfl;obtain⟨X,dY⟩:∃ X,X=cW x:=⟨_,rfl⟩
 have rA:=aaj (E:=X) (by rw[dY]; exact bE);have agW:bX 33 [bg.cells 33 X,bg.cells 0 [],bg.cells 33 X] (.ao 33 1 0 0 0 0) 1 [] :=.ao 1 0 0 0 [] [] rfl rfl rfl (by simp) (Nat.le_refl _) (by omega) rfl;obtain⟨e0,Jr,l1,bn,ei,cz,pI,a1,h2⟩:=Ek agW (by_:=48) (x:=gE s) (xs:=s.l.map cW) (by rw[List.length_map]; exact adp _ s) (fun e aw=>by obtain⟨y,aO,rfl⟩:=List.mem_map.1 aw; exact oC (ar y aO)) (by omega) (by omega) (by rw[aC]; simp; omega);simp at cz;have Ie:Jr=1\/3<=Jr:=by
  rcases a1 with h | ⟨_,h⟩ | h
  ·exact .inr h
  ·exact .inl h
  ·rw[h] at h2; cases h2
 have hy:l1[0]? = some (.cells 33 X) :=by rw[pI 0 (by simp) (.inr (by omega))]; rfl
 have hz:l1[2]? = some (.cells 33 X) :=by rw[pI 2 (by simp) (.inr (by omega))]; rfl
 have Eo:cq 33 cW [bg.cells 33 X] l1 e0 s.l false:=⟨Jr,by simpa using ei,by simp; omega,fun b ai=>by
  obtain rfl:b=0:=by simpa using ai
  rw[hy]; rfl,.inr (by simp; omega),h2⟩
 obtain⟨dx,cg,bA,dN,de⟩:=aj7 Eo x (b:=2) (by rw[<-dY]; exact hz) aj (by omega);rw[<-dY] at bE ⊢;simp[bE,rA,List.take_of_length_le,bn];refine du.cM ?_;simp[hy,hz,bE,List.take_of_length_le,bA];refine du.cM ?_;have pZ:=dN.len;have dO:IntKind.i64.wrap ((s.l.length:Int)+1 - 1)=(s.l.length:Int) :=by rw[IntKind.wrap_i64]; omega
 have ke:IntKind.i64.wrap (s.l.length:Int)=(s.l.length:Int) :=by rw[IntKind.wrap_i64]; omega
 have aQ:hd s.l s.l.length x=s.l++[x] :=by unfold hd; simp
 simp[pZ,dO,ke];rw[<-aQ] at dN;refine vm (abN [bg.cells 33 X] s.l x) ?_ s.l.length _ _ ⟨s.l.length,dx,rfl,Nat.le_refl _,by simp,by simp,dN,rfl⟩;rintro m ah eS ⟨i,v,rfl,d1,br,cj,eu,ma⟩;obtain⟨ah,rfl⟩:=oj br cj;clear br cj;unfold VJ;have oX:(hd s.l i x)[i]? = some x:=ahR d1;have Ca:∀ (K:ae->au->Prop),ky s.l x i=i->hd s.l i x=oa s.l x:=fun K h=>by unfold oa; rw[<-ma,h]
 rcases i with _ | i
 ·simp;have:=Ca (fun _ _=>True) rfl;rw[this] at eu;exact eu.rd ul (some _) rfl rfl
 ·obtain⟨y,aO,el⟩:=ck (l:=s.l) (k:=i) (by omega);have ahG:(hd s.l (i+1) x)[i]? = some y:=by rw[ahS (by omega) d1]; exact aO
  obtain⟨m9,cz,vt,hB,j3,t2,my⟩:=Ww eu oX;obtain⟨Df,de,mn,iM,lR,Aw,vP⟩:=Ww eu ahG;have b4:IntKind.i64.wrap ((i:Int)+1 - 1)=(i:Int) :=by rw[IntKind.wrap_i64]; omega
  have w2:IntKind.i64.wrap (i:Int)=(i:Int) :=by rw[IntKind.wrap_i64]; omega
  have kq:(0:Int)<(i:Int)+1:=by omega
  have dv:=aiP x y aj (ar y el);have fc:=oC (ar y el);have mf:=ul x;have tc:=ul y;have u4:ky s.l x (i+1)=if ec x y then ky s.l x i else i+1:=by
   show (if ec x (pm s.l i) then ky s.l x i else i+1)=_;rw[sb aO]
  have aB:=UG (i:=i+1) ar aj;have d2:(hd s.l (i+1) x).length=s.l.length+1:=UF _ _ _;obtain⟨ajO,n4,j0,k8,agS⟩:=Wx eu aB (k:=i+1) (y:=y) (by omega) (ar y el);have ahH:m7 ((hd s.l (i+1) x).set (i+1) y) :=fun t aU=>by
   rcases List.mem_or_eq_of_mem_set aU with h | h
   ·exact aB t h
   ·rw[h]; exact ar y el
  obtain⟨ajP,JB,ng,qD,T1⟩:=Wx agS ahH (k:=i) (y:=x) (by simp; omega) aj;rw[ahU aO] at T1;rw[<-dY] at my dv mf qD;obtain⟨Y,gj⟩:∃ Y,Y=cW y:=⟨_,rfl⟩
  rw[<-gj] at vP dv fc tc k8;simp at hB j0;rw[hB] at j0;obtain rfl:=Option.some.inj j0;rw[iM] at ng;obtain rfl:=Option.some.inj ng;simp[kq,hB,j3,t2,my,iM,lR,Aw,vP,b4,w2];refine bv dv (by simp[bP,ae.closed,mf,tc]) ?_;cases bc:ec x y with
  | true=>
   rw[bc,if_pos rfl] at u4;simp[hB,j3,t2,my,iM,lR,Aw,vP,b4,w2,k8,qD];exact⟨i,by omega,i,v,rfl,by omega,by simp,by simp,T1,by rw[<-u4]; exact ma⟩
  | false=>
   rw[bc,if_neg (by simp)] at u4;simp;have:=Ca (fun _ _=>True) u4;rw[this] at eu;exact eu.rd ul (some _) rfl rfl
def UP (o:bH) (b:fp) (t:bw) :Bool:=decide (¬ o.act.kind=3#8)||(decide (¬ t.key=o.act.key)||!decide (t.id∈b.l))
def DH (l:List bw) :j7:=match l with | []=>none | a::r=>some (a::r)
theorem Ah (l:List bw) :(DH l).l=l:=by cases l<;>rfl
theorem ami (l:List bw) :(DH l).isNone=l.isEmpty:=by cases l<;>rfl
structure anL (s:j7) (x:bw) (L:au) (k:Nat) (ah:bj) (l:au) :Prop where
 aq:l=L
 bd:ah 3=.ptr 0 0 1
 cj:ah 6=.ptr 2 0 1
 ff:ah 8=.ptr 3 0 33
 hs:ah 9=.int .i64 k
 ar:∀ (j:Nat) (t:bw),j<k->s.l[j]? = some t->t≠x
structure abQ (s:j7) (o:bH) (b:fp) (k:Nat) (l:au) :Prop where
 ex:∃ v j,l[3]? = some (.cells 1 [v])/\bX 33 l v j (((s.l.take k).filter (UP o b)).map cW)/\(v=.a6\/4<=j)/\cT v=((s.l.take k).filter (UP o b)).isEmpty
 len:4<=l.length
 eJ:l[0]? = some (.cells 1 [gE s])
 m9:l[1]? = some (.cells 11 (bl o))
 Df:l[2]? = some (.cells 1 [.a6])
structure anX (s:j7) (o:bH) (b:fp) (k:Nat) (ah:bj) (l:au) :Prop where
 aY:ah 2=a8 b
 bd:ah 3=.ptr 0 0 1
 bD:ah 4=.ptr 1 0 11
 cj:ah 6=.ptr 2 0 1
 hr:ah 10=.ptr 3 0 1
 iB:ah 11=.int .i64 k
 h:abQ s o b k l
theorem Ke (l:List bw) (x:bw) :∀ (n i:Nat),ky l x n<=i->i<n->ec x (pm l i)=true
 | 0,i,_,h=>by omega
 | n+1,i,h1,af=>by
  unfold ky at h1;split at h1
  ·rename_i h;by_cases aA:i=n
   ·rw[aA]; exact h
   ·exact Ke l x n i h1 (by omega)
  ·omega
theorem WX (l:List bw) (x:bw) :∀ (n i:Nat),ky l x n=i+1->ec x (pm l i)=false
 | 0,i,h=>by cases h
 | n+1,i,h1=>by
  unfold ky at h1;split at h1
  ·exact WX l x n i h1
  ·rename_i h;obtain rfl:n=i:=by omega
   exact Bool.eq_false_iff.2 h
theorem WY {l:List bw} {x:bw} (az:pO l=true) (aj:x∉l) :ky l x l.length=pG l x:=by
 refine (Rj x (Dj l x l.length) (fun t y aU aO=>?_) (fun y aO=>?_)).symm
 ·obtain⟨i,aA⟩:∃ i,ky l x l.length=i+1:=⟨ky l x l.length - 1,by omega⟩
  have dv:=Dj l x l.length;obtain⟨z,aB,CI⟩:=ck (l:=l) (k:=i) (by omega);have h1:=WX l x l.length i aA;rw[sb aB] at h1;have af:=vo h1 (fun h=>aj (by rw[h]; exact CI));exact aeE az x t i y z (by omega) aO aB af
 ·have aN:=(List.getElem?_eq_some_iff.1 aO).1;have h1:=Ke l x l.length _ (Nat.le_refl _) aN;rw[sb aO] at h1;cases af:ec y x with
  | false=>rfl
  | true=>have:=n5 h1 af; rw[vn] at this; cases this
end Op
end Go.cl

namespace Go.cl
open Go Go.Proofs Go.RowKit
set_option maxRecDepth 100000
namespace Op
open gX
theorem Wn:bT Tryz.prog GS 17 [] (.aS [.a6]) :=by
 refine ca Tryz.checked.mixed b3 ?_;apply bI PE X9;unfold Fu xB;simp;exact aZ rfl rfl
theorem Hv (l:List bw) :pO l=true<->(∀ t∈l,g9 t.key=true)/\l.Pairwise fun a b=>ec a b=true:=by
 constructor
 ·intro h;refine⟨fun t aU=>?_,List.pairwise_iff_getElem.2 fun i j aA am iD=>?_⟩
  ·obtain⟨k,aE⟩:=List.mem_iff_getElem?.1 aU;have h1:=(of_decide_eq_true h) k (List.getElem?_eq_some_iff.1 aE).1;unfold yA at h1;rw[sb aE,Bool.and_eq_true] at h1;exact h1.1
  ·exact Hw h (d:=j - i - 1) (List.getElem?_eq_getElem aA) (by rw[show i+(j - i - 1)+1=j by omega]; exact List.getElem?_eq_getElem am)
 ·rintro⟨h1,af⟩;refine aeF fun k aE=>?_
  unfold yA;have aO:=List.getElem?_eq_getElem aE;rw[sb aO,h1 _ (List.getElem_mem aE),Bool.true_and];by_cases yX:k=0
  ·simp[yX]
  ·have aj:=List.getElem?_eq_getElem (l:=l) (i:=k - 1) (by omega);rw[sb aj,(List.pairwise_iff_getElem.1 af) (k - 1) k (by omega) aE (by omega)]; simp
theorem aeD {l:List bw} {x:bw} (az:pO l=true) (aj:x∉l) (aE:g9 x.key=true) :pO (hd l (pG l x) x)=true:=by
 obtain⟨h1,af⟩:=(Hv l).1 az;have aF:=WY az aj;have dv:=Dj l x l.length;refine (Hv _).2 ⟨fun t aU=>?_,?_⟩
 ·unfold hd at aU;rcases List.mem_append.1 aU with h | h
  ·exact h1 t (List.mem_of_mem_take h)
  ·rcases List.mem_cons.1 h with h | h
   ·rw[h]; exact aE
   ·exact h1 t (List.mem_of_mem_drop h)
 ·have dw:∀ a∈l.take (pG l x),ec a x=true:=fun a aG=>by
   have a1:l.takeWhile (fun t=>ec t x)=l.take (pG l x) :=List.prefix_iff_eq_take.1 (List.takeWhile_prefix _);rw[<-a1] at aG;have:=List.all_takeWhile (l:=l) (p:=fun t=>ec t x);exact List.all_eq_true.1 this a aG
  have pX:∀ b∈l.drop (pG l x),ec x b=true:=fun b ai=>by
   obtain⟨j,am⟩:=List.mem_iff_getElem?.1 ai;rw[List.getElem?_drop] at am;have:=Ke l x l.length (pG l x+j) (by omega) (List.getElem?_eq_some_iff.1 am).1;rw[sb am] at this; exact this
  unfold hd;rw[List.pairwise_append];refine⟨af.sublist (List.take_sublist _ _),List.pairwise_cons.2 ⟨pX,af.sublist (List.drop_sublist _ _)⟩,fun a aG b ai=>?_⟩;rcases List.mem_cons.1 ai with h | h
  ·rw[h]; exact dw a aG
  ·exact n5 (dw a aG) (pX b h)
def aeA (o:bH) (b:fp) (t:bw) :Bool:=decide (o.act.kind=3#8)&&amd o b t
structure anQ (s:j7) (o:bH) (b:fp) (t:List bw) :Prop where
 ok:aml t=0
 mem:∀ x∈s.l,decide (x∈t)=!aeA o b x
 new:∀ x∈t,x∉s.l->o.act.kind=2#8/\x=⟨o.act.key,kt o⟩
 cnt:∃ p:Nat,(o.act.kind=2#8->p<t.length/\∀ (i:Nat) (y:bw),t[i]? = some y->(y∉s.l<->i=p))/\(o.act.kind≠2#8->∀ x∈t,x∈s.l)
theorem ahT {l:List bw} {i:Nat} {x y:bw}:y∈hd l i x<->y=x\/y∈l:=by
 unfold hd;rw[List.mem_append,List.mem_cons];have:y∈l<->y∈l.take i\/y∈l.drop i:=by rw[<-List.mem_append,List.take_append_drop]
 rw[this];constructor
 ·rintro (h | h | h)
  ·exact .inr (.inl h)
  ·exact .inl h
  ·exact .inr (.inr h)
 ·rintro (h | h | h)
  ·exact .inr (.inl h)
  ·exact .inl h
  ·exact .inr (.inr h)
end Op
end Go.cl

namespace Go.Proofs
open Go.Shelf
set_option maxRecDepth 100000
def Tryz.alV:Go.Shelf.Ren:=⟨fun | 6=>57 | 15=>91 | 14=>90 | 28=>134 | 29=>135 | 20=>126 | 21=>127 | 22=>128 | 23=>129 | 24=>130 | 25=>131 | 26=>132 | 27=>133 | 46=>169 | 47=>170 | 48=>171 | 49=>172 | 50=>173 | 57=>193 | n=>n,fun | 22=>22 | 24=>77 | 25=>92 | 3=>3 | 39=>125 | 0=>0 | 53=>25 | 55=>27 | 4=>4 | 46=>174 | 45=>173 | 50=>90 | 5=>5 | 9=>9 | 66=>208 | 70=>212 | 76=>231 | 77=>232 | n=>n,fun | n=>n⟩
theorem Tryz.alU:Go.Proofs.SlLaysF0.n6 Tryz.prog Tryz.alV where
 mixed:=by kernel_rfl
 f6:=⟨ "slices.SortFunc[[]braid/api.Tag,braid/api.Tag]",by decide,Tryz.func57.trans (congrArg some (by kernel_rfl))⟩
 f14:=⟨ "slices.pdqsortCmpFunc[braid/api.Tag]",by decide,Tryz.func90.trans (congrArg some (by kernel_rfl))⟩
 f15:=Tryz.func91.trans (congrArg some (by kernel_rfl))
 f20:=⟨ "slices.insertionSortCmpFunc[braid/api.Tag]",by decide,Tryz.func126.trans (congrArg some (by kernel_rfl))⟩
 f21:=⟨ "slices.heapSortCmpFunc[braid/api.Tag]",by decide,Tryz.func127.trans (congrArg some (by kernel_rfl))⟩
 f22:=⟨ "slices.breakPatternsCmpFunc[braid/api.Tag]",by decide,Tryz.func128.trans (congrArg some (by kernel_rfl))⟩
 f23:=⟨ "slices.choosePivotCmpFunc[braid/api.Tag]",by decide,Tryz.func129.trans (congrArg some (by kernel_rfl))⟩
 f24:=⟨ "slices.reverseRangeCmpFunc[braid/api.Tag]",by decide,Tryz.func130.trans (congrArg some (by kernel_rfl))⟩
 f25:=⟨ "slices.partialInsertionSortCmpFunc[braid/api.Tag]",by decide,Tryz.func131.trans (congrArg some (by kernel_rfl))⟩
 f26:=⟨ "slices.partitionEqualCmpFunc[braid/api.Tag]",by decide,Tryz.func132.trans (congrArg some (by kernel_rfl))⟩
 f27:=⟨ "slices.partitionCmpFunc[braid/api.Tag]",by decide,Tryz.func133.trans (congrArg some (by kernel_rfl))⟩
 f28:=Tryz.func134.trans (congrArg some (by kernel_rfl))
 f29:=Tryz.func135.trans (congrArg some (by kernel_rfl))
 f46:=⟨ "slices.siftDownCmpFunc[braid/api.Tag]",by decide,Tryz.func169.trans (congrArg some (by kernel_rfl))⟩
 f47:=Tryz.func170.trans (congrArg some (by kernel_rfl))
 f48:=Tryz.func171.trans (congrArg some (by kernel_rfl))
 f49:=⟨ "slices.medianAdjacentCmpFunc[braid/api.Tag]",by decide,Tryz.func172.trans (congrArg some (by kernel_rfl))⟩
 f50:=⟨ "slices.medianCmpFunc[braid/api.Tag]",by decide,Tryz.func173.trans (congrArg some (by kernel_rfl))⟩
 f57:=⟨ "slices.order2CmpFunc[braid/api.Tag]",by decide,Tryz.func193.trans (congrArg some (by kernel_rfl))⟩
 t0:=Tryz.underlying0
 a0:=Tryz.isAgg0
 z0:=Tryz.sizeOf0
 v0:=Tryz.zeroValue0
 t3:=Tryz.underlying3
 a3:=Tryz.isAgg3
 z3:=Tryz.sizeOf3
 v3:=Tryz.zeroValue3
 t4:=Tryz.underlying4
 a4:=Tryz.isAgg4
 z4:=Tryz.sizeOf4
 v4:=Tryz.zeroValue4
 t5:=Tryz.underlying5
 a5:=Tryz.isAgg5
 z5:=Tryz.sizeOf5
 v5:=Tryz.zeroValue5
 t9:=Tryz.underlying9
 a9:=Tryz.isAgg9
 z9:=Tryz.sizeOf9
 v9:=Tryz.zeroValue9
 t22:=Tryz.underlying22
 a22:=Tryz.isAgg22
 z22:=Tryz.sizeOf22
 v22:=Tryz.zeroValue22
 t25:=Tryz.underlying92
 a25:=Tryz.isAgg92
 z25:=Tryz.sizeOf92
 v25:=Tryz.zeroValue92
 t39:=Tryz.underlying125
 a39:=Tryz.isAgg125
 z39:=Tryz.sizeOf125
 v39:=Tryz.zeroValue125
 t45:=Tryz.underlying173
 a45:=Tryz.isAgg173
 z45:=Tryz.sizeOf173
 v45:=Tryz.zeroValue173
 t46:=Tryz.underlying174
 a46:=Tryz.isAgg174
 z46:=Tryz.sizeOf174
 v46:=Tryz.zeroValue174
 t50:=Tryz.underlying90
 a50:=Tryz.isAgg90
 z50:=Tryz.sizeOf90
 v50:=Tryz.zeroValue90
 t53:=Tryz.underlying25
 a53:=Tryz.isAgg25
 z53:=Tryz.sizeOf25
 v53:=Tryz.zeroValue25
 t55:=Tryz.underlying27
 a55:=Tryz.isAgg27
 z55:=Tryz.sizeOf27
 v55:=Tryz.zeroValue27
 t66:=Tryz.underlying208
 a66:=Tryz.isAgg208
 z66:=Tryz.sizeOf208
 v66:=Tryz.zeroValue208
 t70:=Tryz.underlying212
 a70:=Tryz.isAgg212
 z70:=Tryz.sizeOf212
 v70:=Tryz.zeroValue212
 t76:=Tryz.underlying231
 a76:=Tryz.isAgg231
 z76:=Tryz.sizeOf231
 v76:=Tryz.zeroValue231
 t77:=Tryz.underlying232
 a77:=Tryz.isAgg232
 z77:=Tryz.sizeOf232
 v77:=Tryz.zeroValue232
end Go.Proofs

namespace Go.cl
open Go Go.Proofs
set_option maxRecDepth 100000
namespace Op
open gX
structure D0 (g:b2) (i:Nat) (out:List (List B)) :Prop where
 mem:∀ (j:Nat) (p:List B),g.ids.l[j]? = some p->(p∈out<->hC g.ids.l g.ops.l (c7 g.ops.l i) j)
 sub:∀ p∈out,p∈g.ids.l
 len:out.length<=g.ids.l.length
theorem abW (g:b2) (az:fZ g) (V:nr g) {i:Nat} {x:List B} (aA:g.ids.l[i]? = some x) :∃ out,D0 g i out/\bT Tryz.prog GS 29 [c6 g,.aS (a2 x)] (a8 (gq out)) :=by
 obtain⟨r,l',B9,dv,out,h1,af,ap,kX⟩:=abV g az V aA;exact⟨out,⟨h1,af,ap⟩,ca Tryz.checked.mixed b3 ⟨r,l',B9,dv,kX⟩⟩
open Classical in
noncomputable def fq (g:b2) (i:Nat) :List (List B) :=if h:∃ out,D0 g i out/\bT Tryz.prog GS 29 [c6 g,.aS (a2 (cc g.ids.l i))] (a8 (gq out)) then h.choose else []
theorem Ef (g:b2) (az:fZ g) (V:nr g) {i:Nat} {x:List B} (aA:g.ids.l[i]? = some x) :D0 g i (fq g i)/\bT Tryz.prog GS 29 [c6 g,.aS (a2 x)] (a8 (gq (fq g i))) :=by
 have h:=abW g az V aA;have aj:cc g.ids.l i=x:=hw aA;rw[<-aj] at h ⊢;unfold fq;rw[dif_pos h];exact h.choose_spec
def qz (o:bH) (k:List UInt8) :Bool:=decide (o.act.kind=3#8)&&decide (o.act.key=k)
def pN (g:b2) (A:Nat->List (List B)) (k:List UInt8) (x:List B) :Nat->Bool
 | 0=>false
 | m+1=>pN g A k x m||(match g.ops.l[m]? with | some o=>qz o k&&decide (x∈A m) | none=>false)
theorem Sm {g:b2} {A:Nat->List (List B)} {k:List UInt8} {x:List B} {m:Nat} {o:bH} (h:g.ops.l[m]? = some o) :pN g A k x (m+1)=(pN g A k x m||(qz o k&&decide (x∈A m))) :=by
 show (pN g A k x m||(match g.ops.l[m]? with | some o=>qz o k&&decide (x∈A m) | none=>false))=_;rw[h]
def lP (g:b2) (A:Nat->List (List B)) (o:bH) (x:List B) :Bool:=decide (o.act.kind=2#8)&&!pN g A o.act.key x g.ops.l.length
def ft (g:b2) (A:Nat->List (List B)) :Nat->j7
 | 0=>none
 | m+1=>match g.ops.l[m]?,g.ids.l[m]? with
  | some o,some x=>if lP g A o x=true then some (oa (ft g A m).l ⟨o.act.key,x⟩) else ft g A m
  | _,_=>ft g A m
theorem JY {g:b2} {A:Nat->List (List B)} {m:Nat} {o:bH} {x:List B} (h:g.ops.l[m]? = some o) (aj:g.ids.l[m]? = some x) :ft g A (m+1)=if lP g A o x=true then some (oa (ft g A m).l ⟨o.act.key,x⟩) else ft g A m:=by
 show (match g.ops.l[m]?,g.ids.l[m]? with
  | some o,some x=>if lP g A o x=true then some (oa (ft g A m).l ⟨o.act.key,x⟩) else ft g A m
  | _,_=>ft g A m)=_
 rw[h,aj]
theorem Wy {g:b2} (az:fZ g) {A:Nat->List (List B)}:∀ m,m7 (ft g A m).l/\(ft g A m).l.length<=m
 | 0=>⟨fun t aU=>(by cases aU),Nat.le_refl _⟩
 | m+1=>by
  obtain⟨h1,af⟩:=Wy az (A:=A) m;cases ay:g.ops.l[m]? with
  | none=>
   have:ft g A (m+1)=ft g A m:=by
    show (match g.ops.l[m]?,g.ids.l[m]? with
     | some o,some x=>if lP g A o x=true then some (oa (ft g A m).l ⟨o.act.key,x⟩) else ft g A m
     | _,_=>ft g A m)=_
    rw[ay]
   rw[this]; exact⟨h1,by omega⟩
  | some o=>
   cases aj:g.ids.l[m]? with
   | none=>
    have:ft g A (m+1)=ft g A m:=by
     show (match g.ops.l[m]?,g.ids.l[m]? with
      | some o,some x=>if lP g A o x=true then some (oa (ft g A m).l ⟨o.act.key,x⟩) else ft g A m
      | _,_=>ft g A m)=_
     rw[ay,aj]
    rw[this]; exact⟨h1,by omega⟩
   | some x=>
    rw[JY ay aj];split
    ·refine⟨UG h1 (az.ids x (List.mem_of_getElem? aj)),?_⟩;show (oa (ft g A m).l ⟨o.act.key,x⟩).length<=m+1;unfold oa;rw[UF]; omega
    ·exact⟨h1,by omega⟩
def yq (L:List (List B)) :List ae:=[a8 (gq L)]
theorem Q5 (s:fp) :(a8 s).cells=some [a8 s] :=by cases s<;>rfl
theorem A5 (s:j7) :(gE s).cells=some [gE s] :=by cases s<;>rfl
structure abE (g:b2) (k:Nat) (ah:bj) (l:au) :Prop where
 aV:ah 1=.ptr 0 0 2
 aY:ah 2=.ptr 1 0 1
 bd:ah 3=.int .i64 0
 br:ah 5=.int .i64 k
 rX:∃ v,ah 4=v/\cq 1 yq [.cells 2 [a8 g.ids,b8 g.ops],.cells 1 [.a6]] l v ((List.range k).map (fq g)) (decide (k=0))
structure abF (g:b2) (xW:au) (v4:ae) (k:Nat) (ah:bj) (l:au) :Prop where
 aV:ah 1=.ptr 0 0 2
 aY:ah 2=.ptr 1 0 1
 bd:ah 3=.int .i64 0
 bD:ah 4=v4
 cj:ah 6=.ptr xW.length 0 1
 dU:ah 7=.int .i64 k
 ex:∃ m,l=xW++.cells 1 [gE (ft g (fq g) k)] ::m
structure abG (g:b2) (xW:au) (v4:ae) (i:Nat) (o:bH) (x:List B) (b:Nat) (k:Nat) (ah:bj) (l:au) :Prop where
 aV:ah 1=.ptr 0 0 2
 aY:ah 2=.ptr 1 0 1
 bd:ah 3=.int .i64 0
 bD:ah 4=v4
 cj:ah 6=.ptr xW.length 0 1
 dU:ah 7=.int .i64 i
 ff:ah 8=.ptr b 0 6
 hs:ah 9=.bool (pN g (fq g) o.act.key x k)
 hr:ah 10=.int .i64 k
 ex:∃ m,l=xW++.cells 1 [gE (ft g (fq g) i)] ::m/\l[b]? = some (.cells 6 (fR o.act))
noncomputable def rZ (g:b2) :j7:=if fQ g=0 then ft g (fq g) g.ops.l.length else none
set_option maxHeartbeats 8000000 in
theorem aku (g:b2) (az:fZ g) :bT Tryz.prog GS 25 [c6 g] (.bU [.aS [gE (rZ g)],.int .i64 (fQ g)]) :=by
 refine ca Tryz.checked.mixed b3 ?_;apply bI P6 YD;unfold F2 LK;have aC:cJ=140737488355328:=rfl;have eA:=f2 g.ids;have da:=lW g.ops;have ea:=akn g az;unfold c6 dA at ea;have dw:c9 (.ao 11) (b8 g.ops)=some (.int .i64 g.ops.l.length) :=by simp[b8]
 simp[c6,dA];refine bv ea (by simp[bP,ae.closed,eA,da]) ?_;by_cases aQ:fQ g=0
 ·have V:=xv aQ;have TS:=V.n60;have jz:=V.len;simp[aQ];refine c0 g.ops.l.length (abE g) ?_ ⟨by simp,by simp,by simp,by simp,.a6,by simp,by simpa using cq.nil⟩
  ·rintro k ah l aE ⟨aV,aY,bd,br,v,bD,eu⟩;obtain⟨ah,rfl⟩:=kC aV aY bd bD br;clear aV aY bd bD br;unfold VB;have eJ:l[0]? = some (.cells 2 [a8 g.ids,b8 g.ops]) :=by rw[eu.same 0 (by simp)]; rfl
   by_cases cC:k<g.ops.l.length
   ·obtain⟨x,aj,dV⟩:=ck (l:=g.ids.l) (k:=k) (by omega);obtain⟨cA,kO⟩:=Ef g az V aj;unfold c6 dA at kO;have me:=az.ids x dV;have bE:=dm me;have a1:IntKind.i64.wrap ((k:Int)+1)=((k+1:Nat) :Int) :=by rw[IntKind.wrap_i64]; omega
    have g5:cO (.ao 32) (a8 g.ids) (.int .i64 (k:Int))=some (.cn (a2 x) 0) :=by simp[a8,aj]
    have g4:=gZ x;obtain⟨Y,gj⟩:∃ Y,Y=a2 x:=⟨_,rfl⟩
    rw[<-gj] at kO g5 bE g4;obtain⟨bf,l',j0,k8,Am⟩:=ajv (by_:=24) (eu.more [bg.cells 1 [a8 (gq (fq g k))]]) (fq g k) (b:=l.length) (by simp[yq]) (by simp[yq]) (by omega) (by omega) (by simp; omega);simp[eJ,dw,cC,g5,bE,List.take_of_length_le];refine bv kO (by simp[bP,ae.closed,eA,da,g4]) ?_;simp[Q5,j0];refine du.cM ?_;simp[a1];refine⟨cC,by simp,by simp,by simp,by simp,bf,by simp,?_⟩;have bJ:decide (k+1=0)=false:=by simp
    rw[bJ,List.range_succ,List.map_append];exact k8
   ·have fT:k=g.ops.l.length:=by omega
    subst fT;obtain⟨rL,pg,dv,iX,apR,pc⟩:=id eu;have apV:2<=l.length:=by simpa using dv
    have eJ:∀ X:au,(l++X)[0]? = some (.cells 2 [a8 g.ids,b8 g.ops]) :=fun X=>by rw[List.getElem?_append_left (by omega),iX 0 (by simp)]; rfl
    have m9:∀ X:au,(l++X)[1]? = some (.cells 1 [.a6]) :=fun X=>by rw[List.getElem?_append_left (by omega),iX 1 (by simp)]; rfl
    have Kb:∀ (y:bg) (X:au),(l++y::X)[l.length]? = some y:=fun y X=>by rw[List.getElem?_append_right (Nat.le_refl _)]; simp
    have cx:∀ (y z:bg) (X:au),(l++y::X).set l.length z=l++z::X:=fun y z X=>by rw[List.set_append_right _ _ (Nat.le_refl _)]; simp
    have tz:=eJ [];rw[List.append_nil] at tz;simp[tz,dw,cC];refine c0 g.ops.l.length (abF g l v) ?_ ⟨by simp,by simp,by simp,by simp,by simp,by simp,[],rfl⟩;rintro i ah l1 aA ⟨aV,aY,bd,bD,cj,dU,m,rfl⟩;obtain⟨ah,rfl⟩:=DO aV aY bd bD cj dU;clear aV aY bd bD cj dU;unfold VD;by_cases d1:i<g.ops.l.length
    ·obtain⟨x,aj,dV⟩:=ck (l:=g.ids.l) (k:=i) (by omega);obtain⟨o,ay,ek⟩:=ck d1;have me:=az.ids x dV;have bE:=dm me;have a1:IntKind.i64.wrap ((i:Int)+1)=((i+1:Nat) :Int) :=by rw[IntKind.wrap_i64]; omega
     have g5:cO (.ao 32) (a8 g.ids) (.int .i64 (i:Int))=some (.cn (a2 x) 0) :=by simp[a8,aj]
     have cQ:cO (.ao 11) (b8 g.ops) (.int .i64 (i:Int))=some (.cn (bl o) 0) :=by simp[b8,ay]
     have dh:(bl o).length=11:=rfl;have nI:((bl o).drop 3).take 6=fR o.act:=rfl;have g3:(fR o.act).length=6:=rfl;have oE:∀ h,(fR o.act)[0]'h=bG o.act.kind:=fun _=>rfl
     have rf:∀ h,(fR o.act)[1]'h=.str o.act.key:=fun _=>rfl
     have g4:=gZ x;obtain⟨dG,aqC⟩:=Wy az (A:=fq g) i;have rz:=akA (ft g (fq g) i) dG (by omega) ⟨o.act.key,x⟩ me;have afw:=wd (ft g (fq g) i);have S6:=ul ⟨o.act.key,x⟩;have wX:=JY (A:=fq g) ay aj;have l4:cW ⟨o.act.key,x⟩=.str o.act.key::a2 x:=rfl;have oP:=RA o;obtain⟨O,ej⟩:∃ O,O=bl o:=⟨_,rfl⟩
     obtain⟨A,cA⟩:∃ A,A=fR o.act:=⟨_,rfl⟩
     obtain⟨Y,gj⟩:∃ Y,Y=a2 x:=⟨_,rfl⟩
     obtain⟨T,d9⟩:∃ T,T=cW ⟨o.act.key,x⟩:=⟨_,rfl⟩
     rw[<-ej] at cQ dh nI;rw[<-cA] at nI g3 oE rf;rw[<-gj] at g5 bE g4 l4;rw[<-d9] at rz S6 l4;have Uj:bS [ae.int .u8 0,.str [],.int .u8 0,.int .i64 0,.int .u64 0,.str []] 0 A=A:=hb (by rw[g3]; rfl);obtain⟨b,ai⟩:∃ b,b=l.length+(m.length+1) :=⟨_,rfl⟩
     have Xb:∀ (m:au) (y c:bg),(l++c::(m++[y]))[l.length+(m.length+1)]? = some y:=fun m y c=>by
      rw[List.getElem?_append_right (by omega),show l.length+(m.length+1) - l.length=m.length+1 by omega,List.getElem?_cons_succ,List.getElem?_append_right (Nat.le_refl _)]; simp
     have Xc:∀ (m:au) (y z c:bg),(l++c::(m++[y])).set (l.length+(m.length+1)) z=l++c::(m++[z]) :=fun m y z c=>by
      rw[List.set_append_right _ _ (by omega),show l.length+(m.length+1) - l.length=m.length+1 by omega,List.set_cons_succ,List.set_append_right _ _ (Nat.le_refl _)]; simp
     have qt:=Xb m;have Kl:=Xc m;rw[<-ai] at qt Kl;have b7:=oP;by_cases ce:o.act.kind=2#8
     ·have vh:=oP.2 ce;simp[eJ,dw,d1,cQ,dh,nI,g3,Uj,oE,<-ai,vh,qt,Kl];refine c0 g.ops.l.length (abG g l v i o x b) ?_ ⟨by simp,by simp,by simp,by simp,by simp,by simp,by simp,by simp[pN],by simp,⟨_,rfl,by rw[<-cA]; exact qt _ _⟩⟩;rintro k ah l1 aE ⟨aV,aY,bd,bD,cj,dU,ff,hs,hr,fK,rfl,sX⟩;obtain⟨ah,rfl⟩:=amV aV aY bd bD cj dU ff hs hr;clear aV aY bd bD cj dU ff hs hr;unfold VC;rw[<-cA] at sX;by_cases cC:k<g.ops.l.length
      ·obtain⟨ci,dr,T3⟩:=ck cC;have h2:IntKind.i64.wrap ((k:Int)+1)=((k+1:Nat) :Int) :=by rw[IntKind.wrap_i64]; omega
       have yU:cO (.ao 11) (b8 g.ops) (.int .i64 (k:Int))=some (.cn (bl ci) 0) :=by simp[b8,dr]
       have y7:(bl ci).length=11:=rfl;have wE:((bl ci).drop 3).take 6=fR ci.act:=rfl;have sQ:(fR ci.act).length=6:=rfl;have BC:∀ h,(fR ci.act)[0]'h=bG ci.act.kind:=fun _=>rfl
       have BD:∀ h,(fR ci.act)[1]'h=.str ci.act.key:=fun _=>rfl
       have mS:=Sm (A:=fq g) (k:=o.act.key) (x:=x) dr;have TA:=RB ci;obtain⟨anV,ae1⟩:∃ O,O=bl ci:=⟨_,rfl⟩
       obtain⟨t8,yE⟩:∃ A,A=fR ci.act:=⟨_,rfl⟩
       rw[<-ae1] at yU y7 wE;rw[<-yE] at wE sQ BC BD;have CB:bS [ae.int .u8 0,.str [],.int .u8 0,.int .i64 0,.int .u64 0,.str []] 0 t8=t8:=hb (by rw[sQ]; rfl);obtain⟨dN,e6⟩:∃ b,b=l.length+(fK.length+1) :=⟨_,rfl⟩
       have zT:=Xb fK;have zU:=Xc fK;rw[<-e6] at zT zU;obtain⟨cz,jr⟩:∃ cz,cz=bg.cells 1 [gE (ft g (fq g) i)] :=⟨_,rfl⟩
       rw[<-jr] at sX ⊢;have fi:b<(l++cz::fK).length:=(List.getElem?_eq_some_iff.1 sX).1;have wH:∀ y,(l++cz::(fK++[y]))[b]? = some (.cells 6 A) :=fun y=>by
        have:l++cz::(fK++[y])=(l++cz::fK)++[y] :=by simp
        rw[this,List.getElem?_append_left fi]; exact sX
       cases Ti:pN g (fq g) o.act.key x k with
       | true=>
        rw[Ti] at mS;simp[eJ,dw,cC,yU,y7,wE,sQ,CB,zT,zU,<-e6,h2];exact⟨by simp,by simp,by simp,by simp,by simp,by simp,by simp,by simp[mS],by simp,fK++[_],by rw[jr],by rw[<-cA]; exact wH _⟩
       | false=>
        rw[Ti] at mS;by_cases dH:ci.act.kind=3#8
        ·have tk:=TA.2 dH;by_cases iF:ci.act.key=o.act.key
         ·have u6:qz ci o.act.key=true:=by unfold qz; simp[dH,iF]
          rw[u6] at mS;obtain⟨DY,rE,aqQ⟩:=ck (l:=g.ids.l) (k:=k) (by omega);obtain⟨Sy,_⟩:=Ef g az V rE;obtain⟨WN,acP,sg,bn,bA,a3,a4⟩:=(pg.more (cz::(fK++[bg.cells 6 t8]))).q.get (k:=.i64) (i:=k) (e:=yq (fq g k)) (by simp[cC]);have a5:=one_cell (c:=a8 (gq (fq g k))) (by simpa [yq] using a4);have d2:=Zz (gq (fq g k)) (fun y aO=>az.ids y (Sy.sub y (by rw[iK] at aO; exact aO))) (by rw[iK]; have:=Sy.len; omega) x me;rw[iK,<-gj] at d2;have iV:=f2 (gq (fq g k));simp[eJ,dw,cC,yU,y7,wE,sQ,CB,zT,zU,<-e6,h2,tk,BC,BD,iF,wH,rf,g3,bn,bA,a5,g5,bE,List.take_of_length_le];refine bv d2 (by simp[bP,ae.closed,iV,g4]) ?_;simp[h2,cC];exact⟨by simp,by simp,by simp,by simp,by simp,by simp,by simp,by simp[mS],by simp,fK++[_],by rw[jr],by rw[<-cA]; exact wH _⟩
         ·have u6:qz ci o.act.key=false:=by unfold qz; simp[iF]
          rw[u6] at mS;simp[eJ,dw,cC,yU,y7,wE,sQ,CB,zT,zU,<-e6,h2,tk,BC,BD,iF,wH,rf,g3];exact⟨by simp,by simp,by simp,by simp,by simp,by simp,by simp,by simp[mS],by simp,fK++[_],by rw[jr],by rw[<-cA]; exact wH _⟩
        ·have tk:¬ (u ci.act.kind:Int)=3:=fun h=>dH (TA.1 h)
         have u6:qz ci o.act.key=false:=by unfold qz; simp[dH]
         rw[u6] at mS;simp[eJ,dw,cC,yU,y7,wE,sQ,CB,zT,zU,<-e6,h2,tk,BC,BD];exact⟨by simp,by simp,by simp,by simp,by simp,by simp,by simp,by simp[mS],by simp,fK++[_],by rw[jr],by rw[<-cA]; exact wH _⟩
      ·have fT:k=g.ops.l.length:=by omega
       subst fT;simp[eJ,dw,cC];cases Tj:pN g (fq g) o.act.key x g.ops.l.length with
       | true=>
        have cm:lP g (fq g) o x=false:=by unfold lP; simp[Tj]
        rw[cm,if_neg (by simp)] at wX;simp[a1];exact⟨d1,by simp,by simp,by simp,by simp,by simp,by simp,by rw[wX]; exact⟨_,rfl⟩⟩
       | false=>
        have cm:lP g (fq g) o x=true:=by unfold lP; simp[Tj,ce]
        rw[cm,if_pos rfl] at wX;have u7:bS (rep 32 (.int .u8 0)) 0 Y=Y:=hb (by rw[bE]; rfl);simp[sX,rf,g3,Kb,g5,bE,eJ,List.take_of_length_le,u7];rw[<-l4];refine bv rz (by simp[bP,ae.closed,afw,S6]) ?_;simp[A5,Kb,cx,a1];exact⟨d1,by simp,by simp,by simp,by simp,by simp,by simp,by rw[wX]; exact⟨_,rfl⟩⟩
     ·have vh:¬ (u o.act.kind:Int)=2:=fun h=>ce (oP.1 h)
      simp[eJ,dw,d1,cQ,dh,nI,g3,Uj,oE,<-ai,vh,qt,Kl,a1];have cm:lP g (fq g) o x=false:=by unfold lP; simp[ce]
      rw[cm,if_neg (by simp)] at wX;exact⟨by simp,by simp,by simp,by simp,by simp,by simp,by rw[wX]; exact⟨_,rfl⟩⟩
    ·have d2:i=g.ops.l.length:=by omega
     subst d2;have dC:∀ (X:au) (y:bg),((l++X).set 1 y)[1]? = some y:=fun X y=>List.getElem?_set_self (by simp; omega)
     simp[eJ,dw,d1,Kb,m9,A5,dC];refine aZ ?_ ?_
     ·unfold rZ; rw[if_pos aQ,aQ]
     ·simp[ae.closed,bP,wd]
 ·simp[aQ];refine bv ea (by simp[bP,ae.closed,eA,da]) ?_;simp[aQ];refine aZ ?_ ?_
  ·unfold rZ; rw[if_neg aQ]; rfl
  ·simp[ae.closed,bP,wd]
end Op
end Go.cl

namespace Go.cl
open Go Go.Proofs Go.Sort Go.Shelf
set_option maxRecDepth 100000
namespace Op
open gX
abbrev sk:={t:bw // t.id.length=32}
instance:Inhabited sk:=⟨⟨⟨[],List.replicate 32 0#8⟩,by simp⟩⟩
def yr (x:sk) :List ae:=cW x.1
def sE (x y:sk) :Int:=kI x.1 y.1
theorem rR (a b:bw) :ltOf kI a b=ec a b:=by
 unfold ltOf;cases h:ec a b with
 | true=>exact decide_eq_true ((Rg a b).2 h)
 | false=>exact decide_eq_false fun aR=>by rw[(Rg a b).1 aR] at h; cases h
theorem aau:SWO (ltOf sE) where
 irrefl x:=by show ltOf kI x.1 x.1=false; rw[rR]; exact vn _
 trans x y z:=by
  show ltOf kI x.1 y.1=true->ltOf kI y.1 z.1=true->ltOf kI x.1 z.1=true;rw[rR,rR,rR]; exact n5
 ntrans x y z:=by
  show ltOf kI x.1 y.1=false->ltOf kI y.1 z.1=false->ltOf kI x.1 z.1=false;rw[rR,rR,rR];intro h1 af;cases ap:ec x.1 z.1 with
  | false=>rfl
  | true=>
   by_cases a1:x.1=y.1
   ·rw[a1] at ap; rw[ap] at af; cases af
   ·by_cases b7:y.1=z.1
    ·rw[b7] at h1; rw[ap] at h1; cases h1
    ·have:=n5 (n5 ap (vo af b7)) (vo h1 a1);rw[vn] at this; cases this
theorem ab7 (x y:sk) (h1:ltOf sE x y=false) (af:ltOf sE y x=false) :x=y:=by
 have d8:ltOf kI x.1 y.1=false:=h1;have f3:ltOf kI y.1 x.1=false:=af;rw[rR] at d8 f3;by_cases e:x.1=y.1
 ·exact Subtype.ext e
 ·rw[vo d8 e] at f3; cases f3
theorem RE (x:sk) :(yr x).length=33:=oC x.2
theorem adP (x:sk) :∀ c∈yr x,xA c=true:=fun c ak=>by
 rcases List.mem_cons.1 ak with h | h
 ·rw[h]; rfl
 ·obtain⟨b,_,rfl⟩:=List.mem_map.1 h; rfl
theorem alS {g:Nat} (adN:∀ args w,(callFunc g args).run Tryz.prog w=.ok (.enter g args) w) :D8 Tryz.prog 57 g 33 (fun x=>(yr x).map valOf) sE:=
 fun blk off cap d w rj hJ f8 gH=>
  AnyQ.slices_SortFunc Tryz.alU 33 (by intro w; exact Tryz.isAgg77 w) (by intro w; exact Tryz.sizeOf77 w) _ (fun x=>by rw[List.length_map,RE]) (fun x v ax=>by obtain⟨c,_,rfl⟩:=List.mem_map.1 ax; exact Nt c) sE aau g #[] blk off cap d w adN rj hJ f8 gH
def kB (l:List bw) :List bw:=l.mergeSort fun x y=>!ec y x
theorem aaI:∀ {xs:List bw},m7 xs->∃ bm:List sk,bm.map (·.1)=xs
 | [],_=>⟨[],rfl⟩
 | x::xs,h=>by
  obtain⟨bm,aO⟩:=aaI (xs:=xs) fun i aA=>h i (by simp[aA])
  exact⟨⟨x,h x (by simp)⟩::bm,by simp[aO]⟩
theorem alX (bm:List sk) :(sorted sE bm).map (·.1)=kB (bm.map (·.1)) :=by
 unfold sorted kB;rw[List.map_mergeSort];intro a _ b _;show (!ltOf kI b.1 a.1)=(!ec b.1 a.1)
 rw[rR]
theorem akc {z:Nat} {l l' : au} {v:ae} {j:Nat} {es dg:List (List ae)} (h:bX z l v j es) (h' : dR z l' v j dg) :bX z l' v j dg:=by
 cases h with
 | nil j=>have:=h'.xp; subst this; exact .nil j
 | ao j n cap sz cs es ai aq aI aB ak cY cL=>
  generalize ax:ae.ao z j 0 n cap sz=w at h';cases h' with
  | nil=>cases ax
  | ao aq8 ati ql aoJ atZ g0 wr e6 hK p1 kr js aqb afB=>
   injection ax with _ a1 b7 dO ke G8
   subst b7 dO ke G8;exact .ao j n cap sz g0 _ e6 hK p1 kr js (by omega) (by simpa using afB)
theorem amC:lf Tryz.prog GS 57 [.a6,.fn 41 [] []] (.bU []) :=
 W4 (P:=Tryz.prog) Tryz.checked.mixed b3 (Wp _ _) aaH (fuel:=100) (k:=10) (by kernel_rfl)
theorem amB {l:au} {v:ae} {j:Nat} {xs:List bw} (aj:m7 xs) (aq:xs.length<=1000000) (aI:cT v=xs.isEmpty) (h:bX 33 l v j (xs.map cW)) {K:ae->au->Prop}
  (a7:∀ l',l'.length=l.length->(∀ b,v=.a6\/b≠j->l'[b]? = l[b]?)->bX 33 l' v j ((kB xs).map cW)->K (.bU []) l') :dB Tryz.prog GS 57 [v,.fn 41 [] []] l (c:=⟨K⟩) :=by
 by_cases hL:xs=[]
 ·subst hL;have I4:v=.a6:=i4.1 (by rw[aI]; rfl);subst I4;exact bv amC.Aj rfl (a7 l rfl (fun _ _=>rfl) (by simpa [kB] using bX.nil j))
 ·obtain⟨bm,aO⟩:=aaI aj;have aw:bm.map yr=xs.map cW:=by rw[<-aO,List.map_map]; rfl
  have ar:(sorted sE bm).map yr=(kB xs).map cW:=by rw[<-aO,<-alX,List.map_map]; rfl
  have fc:bm.length=xs.length:=by rw[<-aO]; simp
  have I4:v≠.a6:=fun ax=>by subst ax; rw[show cT .a6=true from rfl] at aI; exact hL (by simpa using aI.symm)
  rw[<-aw] at h;exact alT sE (alS (by intro args w; exact enters_of Tryz.func41 (by kernel_rfl) rfl args w)) aau ab7 RE adP (fun x y=>adi x.1 y.1 x.2 y.2) h.q (by omega) (fun rx=>absurd (by rw[<-aO,rx]; rfl) hL)
   (fun l' h1 af ap=>a7 l' h1 (fun b ai=>af b (ai.resolve_left I4)) (by rw[<-ar]; exact akc h ap))
theorem DD (l:List bw) (y:bw) :y∈kB l<->y∈l:=by unfold kB; exact List.mem_mergeSort
theorem aah (l:List bw) :(kB l).length=l.length:=by unfold kB; exact List.length_mergeSort l
theorem M0 {l:List bw} (aI:l.Nodup) :(kB l).Pairwise fun a b=>ec a b=true:=by
 have h1:(kB l).Pairwise fun a b=>(!ec b a)=true:=by
  unfold kB;refine List.pairwise_mergeSort (fun a b c h1 af=>?_) (fun a b=>?_) l
  ·simp only[Bool.not_eq_true'] at *
   cases ap:ec c a with
   | false=>rfl
   | true=>
    by_cases a1:b=c
    ·rw[a1] at h1; rw[ap] at h1; cases h1
    ·by_cases b7:a=b
     ·rw[b7] at ap; rw[ap] at af; cases af
     ·have:=n5 (n5 ap (vo h1 (Ne.symm b7))) (vo af (Ne.symm a1));rw[vn] at this; cases this
  ·cases h:ec b a with
   | false=>rfl
   | true=>
    cases af:ec a b with
    | false=>rfl
    | true=>have:=n5 h af; rw[vn] at this; cases this
 have af:(kB l).Nodup:=(List.mergeSort_perm l _).nodup_iff.2 aI;refine (h1.and af).imp fun {a b} h=>?_
 have ap:ec b a=false:=by simpa using h.1
 exact vo ap (Ne.symm h.2)
end Op
end Go.cl

namespace Go.cl
open Go Go.Proofs
set_option maxRecDepth 100000
namespace Op
open gX
theorem acj (t:bw) :ae.beq (.aS (cW t)) (.aS (cW t))=true:=by
 show eD (.str t.key::a2 t.id) (.str t.key::a2 t.id)=true;have h:=Eu t.id;unfold a2;simp[eD,ae.beq,h]
theorem Hk {t:bw} (h:t.id.length=32) :jB Tryz.prog 77 (.aS (cW t))=true:=by
 have h1:o3 Tryz.prog 8 77=true:=by kernel_rfl
 have af:dM Tryz.prog 77=some true:=by kernel_rfl
 have ap:cv Tryz.prog 77=some 33:=by kernel_rfl
 have aH:(cW t).all qr=true:=by
  rw[List.all_eq_true];intro c ak;rcases List.mem_cons.1 ak with h | h
  ·rw[h]; rfl
  ·obtain⟨b,_,rfl⟩:=List.mem_map.1 h; rfl
 show (o3 Tryz.prog 8 77&&(match dM Tryz.prog 77,cv Tryz.prog 77 with | some true,some m=>Nat.beq (cW t).length m | _,_=>false)&&(cW t).all qr)=true;rw[h1,af,ap,aH,oC h];rfl
theorem adZ {a b:bw} (aG:a.id.length=32) (ai:b.id.length=32) :dX Tryz.prog 10000 77 (.aS (cW a)) (.aS (cW b))=some (decide (a=b)) :=by
 rw[<-On aG ai];obtain⟨x,y,nF,l2,q3⟩:=(Bk (P:=Tryz.prog) 20 10000 (by omega) 77 CN US).2 _ _ (C8 aG) (C8 ai);have af:dM Tryz.prog 77=some true:=by kernel_rfl
 simp only[jh,af,Option.some.injEq] at nF l2;subst nF; subst l2;exact q3
inductive oq:List (ae × ae × Nat)->List bw->Prop
 | nil:oq [] []
 | cons {es:List (ae × ae × Nat)} {bQ:List bw} {k:bw} (n:Nat) (aE:k.id.length=32) (h:oq es bQ) :oq ((.aS (cW k),.bool true,n) ::es) (k::bQ)
theorem oq.snoc {es:List (ae × ae × Nat)} {bQ:List bw} (h:oq es bQ) {k:bw} (aE:k.id.length=32) (n:Nat) :oq (es++[(.aS (cW k),.bool true,n)]) (bQ++[k]) :=by
 induction h with
 | nil=>exact .cons n aE .nil
 | cons m eb h aK=>exact .cons m eb aK
theorem oq.modify {es:List (ae × ae × Nat)} {bQ:List bw} (h:oq es bQ) :∀ {i:Nat} {k:bw},bQ[i]? = some k->oq (es.modify i fun e=>(.aS (cW k),.bool true,e.2.2)) bQ:=by
 induction h with
 | nil=>intro i k h; simp at h
 | cons n aE h aK=>
  intro i k aA;cases i with
  | zero=>simp at aA; subst aA; exact .cons n aE h
  | succ i=>exact .cons n aE (aK (by simpa using aA))
theorem Bp {x:bw} (aj:x.id.length=32) {es:List (ae × ae × Nat)} {bQ:List bw} (h:oq es bQ) :∀ c,(x∈bQ->∃ i,bQ[i]? = some x/\ig Tryz.prog 77 (.aS (cW x)) es c=some (some (c+i,.bool true)))/\(x∉bQ->ig Tryz.prog 77 (.aS (cW x)) es c=some none) :=by
 induction h with
 | nil=>intro c; exact⟨fun h=>by simp at h,fun _=>rfl⟩
 | @cons es bQ k n aE h aK=>
  intro c;unfold ig;rw[Hk aE];simp only;rw[adZ aj aE];by_cases aw:x=k
  ·subst aw;simp only[decide_true,acj];exact⟨fun _=>⟨0,by simp⟩,fun h=>absurd (by simp) h⟩
  ·simp only[aw,decide_false];obtain⟨h1,af⟩:=aK (c+1);refine⟨fun hm=>?_,fun h=>af (fun h'=>h (by simp[h']))⟩;obtain⟨i,aA,aJ⟩:=h1 (by simpa [aw] using hm);exact⟨i+1,by simpa using aA,by rw[aJ,show c+1+i=c+(i+1) by omega]⟩
structure lc (l:au) (j:Nat) (M:bw->Prop) :Prop where
 e:∃ es dW bQ,l[j]? = some (.map es dW)/\oq es bQ/\∀ x,x∈bQ<->M x
open Classical in
theorem lc.look {l:au} {j:Nat} {M:bw->Prop} (h:lc l j M) {x:bw} (aj:x.id.length=32) :tp Tryz.prog l 77 (.bool false) false (.mp j) (.aS (cW x))=some (.bool (decide (M x))) :=by
 obtain⟨es,dW,bQ,h1,af,aH⟩:=h.e;have ap:qh l (.mp j)=some es:=by simp[qh,h1]
 unfold tp;rw[ap];simp only[Hk aj];by_cases hm:x∈bQ
 ·obtain⟨i,_,aJ⟩:=(Bp aj af 0).1 hm;rw[aJ];simp[(aH x).1 hm]
 ·rw[(Bp aj af 0).2 hm];have:¬ M x:=fun aR=>hm ((aH x).2 aR)
  simp[this]
theorem lc.put {l:au} {j:Nat} {M:bw->Prop} (h:lc l j M) {x:bw} (aj:x.id.length=32) :∃ c,qi Tryz.prog l 77 (.mp j) (.aS (cW x)) (.bool true)=some (l.set j c)/\(∀ l' : au,l'[j]? = some c->lc l' j (fun y=>M y\/y=x)) :=by
 obtain⟨es,dW,bQ,h1,af,aH⟩:=h.e;unfold qi;simp only[h1,Hk aj];by_cases hm:x∈bQ
 ·obtain⟨i,aA,aJ⟩:=(Bp aj af 0).1 hm;rw[aJ];rw[Nat.zero_add];refine⟨_,rfl,fun l' cZ=>⟨_,_,bQ,cZ,af.modify aA,fun y=>?_⟩⟩;rw[aH y];exact⟨.inl,fun aR=>aR.elim id fun e=>by rw[e]; exact (aH x).1 hm⟩
 ·rw[(Bp aj af 0).2 hm];refine⟨_,rfl,fun l' cZ=>⟨_,_,_,cZ,af.snoc aj dW,fun y=>?_⟩⟩;rw[List.mem_append,List.mem_singleton,aH y]
theorem lc.frame {l l' : au} {j:Nat} {M:bw->Prop} (h:lc l j M) (am:l'[j]? = l[j]?) :lc l' j M:=by
 obtain⟨es,dW,bQ,h1,af,aH⟩:=h.e;exact⟨es,dW,bQ,by rw[am,h1],af,aH⟩
theorem lc.lt {l:au} {j:Nat} {M:bw->Prop} (h:lc l j M) :j<l.length:=by
 obtain⟨es,dW,bQ,h1,af⟩:=h.e;exact (List.getElem?_eq_some_iff.1 h1).1
theorem ajM (l:au) :lc (l++[.map [] 0]) l.length (fun _=>False) :=⟨[],0,[],by simp,.nil,fun x=>by simp⟩
theorem lc.iff {l:au} {j:Nat} {M N:bw->Prop} (h:lc l j M) (aR:∀ x,M x<->N x) :lc l j N:=by
 obtain⟨es,dW,bQ,h1,af,aH⟩:=h.e;exact⟨es,dW,bQ,h1,af,fun x=>(aH x).trans (aR x)⟩
def j4 (g:b2) (m:Nat) (t:bw) :Prop:=∃ k o,k<m/\g.ops.l[k]? = some o/\o.act.kind=3#8/\o.act.key=t.key/\t.id∈hY g k
def xV (g:b2) (m:Nat) (key:List UInt8) (L:List (List B)) (t:bw) :Prop:=j4 g m t\/(key=t.key/\t.id∈L)
theorem aex {g:b2} {m:Nat} {o:bH} (ay:g.ops.l[m]? = some o) (aE:¬ o.act.kind=3#8) (t:bw) :j4 g m t<->j4 g (m+1) t:=by
 constructor
 ·rintro⟨k,ci,h1,af⟩; exact⟨k,ci,by omega,af⟩
 ·rintro⟨k,ci,h1,af,ap,aH⟩;by_cases ko:k=m
  ·subst ko; rw[ay] at af; obtain rfl:=Option.some.inj af; exact absurd ap aE
  ·exact⟨k,ci,by omega,af,ap,aH⟩
theorem aey {g:b2} {m:Nat} {o:bH} (ay:g.ops.l[m]? = some o) (aE:o.act.kind=3#8) (t:bw) :xV g m o.act.key (hY g m) t<->j4 g (m+1) t:=by
 constructor
 ·rintro (⟨k,ci,h1,af⟩ | ⟨h1,af⟩)
  ·exact⟨k,ci,by omega,af⟩
  ·exact⟨m,o,by omega,ay,aE,h1,af⟩
 ·rintro⟨k,ci,h1,af,ap,aH,bc⟩;by_cases ko:k=m
  ·subst ko; rw[ay] at af; obtain rfl:=Option.some.inj af; exact .inr ⟨aH,bc⟩
  ·exact .inl ⟨k,ci,by omega,af,ap,aH,bc⟩
theorem aez {g:b2} {m:Nat} {key:List UInt8} {L:List (List B)} {k:Nat} {x:List B} (aj:L[k]? = some x) (t:bw) :(xV g m key (L.take k) t\/t=⟨key,x⟩)<->xV g m key (L.take (k+1)) t:=by
 unfold xV;rw[List.take_add_one,aj,List.mem_append];simp only[Option.toList_some,List.mem_singleton];constructor
 ·rintro ((h | ⟨h1,af⟩) | h)
  ·exact .inl h
  ·exact .inr ⟨h1,.inl af⟩
  ·subst h; exact .inr ⟨rfl,.inr rfl⟩
 ·rintro (h | ⟨h1,af | af⟩)
  ·exact .inl (.inl h)
  ·exact .inl (.inr ⟨h1,af⟩)
  ·right; cases t; simp_all
open Classical in
noncomputable def gx (g:b2) (m:Nat) :List bw:=(List.range m).flatMap fun k=>match g.ops.l[k]?,g.ids.l[k]? with
 | some o,some x=>if o.act.kind=2#8/\¬ j4 g g.ops.l.length ⟨o.act.key,x⟩ then [⟨o.act.key,x⟩] else []
 | _,_=>[]
open Classical in
theorem AJ {g:b2} {m:Nat} {o:bH} {x:List B} (ay:g.ops.l[m]? = some o) (aj:g.ids.l[m]? = some x) :gx g (m+1)=gx g m++(if o.act.kind=2#8/\¬ j4 g g.ops.l.length ⟨o.act.key,x⟩ then [⟨o.act.key,x⟩] else []) :=by
 unfold gx;rw[List.range_succ,List.flatMap_append];simp[ay,aj]
theorem AH {g:b2} {t:bw}:∀ {m:Nat},t∈gx g m<->∃ k o x,k<m/\g.ops.l[k]? = some o/\g.ids.l[k]? = some x/\o.act.kind=2#8/\¬ j4 g g.ops.l.length ⟨o.act.key,x⟩/\t=⟨o.act.key,x⟩:=by
 intro m;unfold gx;rw[List.mem_flatMap];constructor
 ·rintro⟨k,aE,aU⟩;rw[List.mem_range] at aE;cases ay:g.ops.l[k]? with
  | none=>simp[ay] at aU
  | some o=>
   cases aj:g.ids.l[k]? with
   | none=>simp[ay,aj] at aU
   | some x=>
    simp only[ay,aj] at aU;split at aU
    ·rename_i aR;rw[List.mem_singleton] at aU;exact⟨k,o,x,aE,ay,aj,aR.1,aR.2,aU⟩
    ·simp at aU
 ·rintro⟨k,o,x,aE,ay,aj,h1,af,ap⟩;refine⟨k,List.mem_range.2 aE,?_⟩;simp only[ay,aj];rw[if_pos ⟨h1,af⟩,List.mem_singleton];exact ap
theorem AG (g:b2) :∀ m,(gx g m).length<=m
 | 0=>by simp[gx]
 | m+1=>by
  have aK:=AG g m;cases ay:g.ops.l[m]? with
  | none=>unfold gx at *; rw[List.range_succ,List.flatMap_append]; simp[ay] at *; omega
  | some o=>
   cases aj:g.ids.l[m]? with
   | none=>unfold gx at *; rw[List.range_succ,List.flatMap_append]; simp[ay,aj] at *; omega
   | some x=>
    rw[AJ ay aj,List.length_append];split<;>simp<;>omega
theorem NS {g:b2} (az:fZ g) (m:Nat) :m7 (gx g m) :=fun t aU=>by
 obtain⟨k,o,x,_,_,aj,_,_,ap⟩:=AH.1 aU;rw[ap]; exact az.ids x (List.mem_of_getElem? aj)
structure j5 (g:b2) (M:bw->Prop) (l:au) :Prop where
 eJ:l[0]? = some (.cells 2 [a8 g.ids,b8 g.ops])
 m9:l[1]? = some (.cells 1 [.a6])
 m:lc l 2 M
theorem j5.lt {g:b2} {M:bw->Prop} {l:au} (h:j5 g M l) :3<=l.length:=h.m.lt
theorem j5.frame {g:b2} {M:bw->Prop} {l l' : au} (h:j5 g M l) (aJ:∀ b,b<3->l'[b]? = l[b]?) :j5 g M l':=
 ⟨(aJ 0 (by omega)).trans h.eJ,(aJ 1 (by omega)).trans h.m9,h.m.frame (aJ 2 (by omega))⟩
theorem j5.more {g:b2} {M:bw->Prop} {l:au} (h:j5 g M l) (x:au) :j5 g M (l++x) :=h.frame fun b ai=>List.getElem?_append_left (by have:=h.lt; omega)
theorem j5.iff {g:b2} {M N:bw->Prop} {l:au} (h:j5 g M l) (aR:∀ x,M x<->N x) :j5 g N l:=⟨h.eJ,h.m9,h.m.iff aR⟩
structure abH (g:b2) (k:Nat) (ah:bj) (l:au) :Prop where
 aV:ah 1=.ptr 0 0 2
 aY:ah 2=.ptr 1 0 1
 bd:ah 3=.int .i64 0
 br:ah 5=.mp 2
 mJ:ah 24=b8 g.ops
 kh:ah 25=.int .i64 g.ops.l.length
 ki:ah 26=.int .i64 k
 h:j5 g (j4 g k) l
structure abJ (g:b2) (i:Nat) (o:bH) (b:Nat) (k:Nat) (ah:bj) (l:au) :Prop where
 aV:ah 1=.ptr 0 0 2
 aY:ah 2=.ptr 1 0 1
 bd:ah 3=.int .i64 0
 br:ah 5=.mp 2
 dU:ah 7=.ptr b 0 11
 mJ:ah 24=b8 g.ops
 kh:ah 25=.int .i64 g.ops.l.length
 ki:ah 26=.int .i64 i
 q9:ah 45=a8 (gq (hY g i))
 ra:ah 46=.int .i64 (hY g i).length
 rb:ah 47=.int .i64 k
 h:j5 g (xV g i o.act.key ((hY g i).take k)) l
 gy:3<=b
 ai:l[b]? = some (.cells 11 (bl o))
structure abI (g:b2) (b:Nat) (k:Nat) (ah:bj) (l:au) :Prop where
 aV:ah 1=.ptr 0 0 2
 aY:ah 2=.ptr 1 0 1
 bd:ah 3=.int .i64 0
 br:ah 5=.mp 2
 jm:ah 12=.ptr b 0 1
 Hs:ah 60=b8 g.ops
 Ht:ah 61=.int .i64 g.ops.l.length
 Hu:ah 62=.int .i64 k
 h:j5 g (j4 g g.ops.l.length) l
 gy:3<=b
 ex:∃ v j,l[b]? = some (.cells 1 [v])/\bX 33 l v j ((gx g k).map cW)/\cT v=(gx g k).isEmpty/\(v=.a6\/b<j)
theorem ab2 (g:b2) (i:Nat) :(hY g i).length<=g.ids.l.length:=JP _ _ _
theorem ab3 {g:b2} {i:Nat} {x:List B} (h:x∈hY g i) :x∈g.ids.l:=by
 unfold hY at h;obtain⟨j,am,_,rfl⟩:=Wj.1 h;obtain⟨y,aO,el⟩:=ck am;rw[hw aO]; exact el
noncomputable def lG (g:b2) :j7:=if fQ g=0 then DH (kB (gx g g.ops.l.length)) else none
set_option maxHeartbeats 8000000 in
theorem anj (g:b2) (az:fZ g) :bT Tryz.prog GS 24 [c6 g] (.bU [.aS [gE (lG g)],.int .i64 (fQ g)]) :=by
 refine ca Tryz.checked.mixed b3 ?_;apply bI P5 YC;unfold F1 tD;have aC:cJ=140737488355328:=rfl;have eA:=f2 g.ids;have da:=lW g.ops;have ea:=aa8 g az;unfold c6 dA at ea;have dw:c9 (.ao 11) (b8 g.ops)=some (.int .i64 g.ops.l.length) :=by simp[b8]
 simp[c6,dA];refine bv ea (by simp[bP,ae.closed,eA,da]) ?_;by_cases aQ:fQ g=0
 ·have V:=xv aQ;have TS:=V.n60;have jz:=V.len;have aeV:j5 g (fun _=>False) [bg.cells 2 [a8 g.ids,b8 g.ops],.cells 1 [.a6],.map [] 0] :=⟨rfl,rfl,ajM [bg.cells 2 [a8 g.ids,b8 g.ops],.cells 1 [.a6]]⟩
  simp[aQ,dw];refine c0 g.ops.l.length (abH g) ?_ ⟨by simp,by simp,by simp,by simp,by simp,by simp,by simp,aeV.iff fun x=>⟨fun h=>h.elim,fun ⟨k,_,aE,_⟩=>by omega⟩⟩;rintro k ah l aE ⟨aV,aY,bd,br,mJ,kh,ki,hJ⟩;obtain⟨ah,rfl⟩:=aaW aV aY bd br mJ kh ki;clear aV aY bd br mJ kh ki;unfold Vz;by_cases cC:k<g.ops.l.length
  ·obtain⟨x,aj,dV⟩:=ck (l:=g.ids.l) (k:=k) (by omega);obtain⟨o,ay,ek⟩:=ck cC;have me:=az.ids x dV;have bE:=dm me;have a1:IntKind.i64.wrap ((k:Int)+1)=((k+1:Nat) :Int) :=by rw[IntKind.wrap_i64]; omega
   have g5:cO (.ao 32) (a8 g.ids) (.int .i64 (k:Int))=some (.cn (a2 x) 0) :=by simp[a8,aj]
   have cQ:cO (.ao 11) (b8 g.ops) (.int .i64 (k:Int))=some (.cn (bl o) 0) :=by simp[b8,ay]
   have dh:(bl o).length=11:=rfl;have nI:∀ h,(bl o)[3]'h=bG o.act.kind:=fun _=>rfl
   have sS:∀ h,(bl o)[4]'h=.str o.act.key:=fun _=>rfl
   have g4:=gZ x;have oP:=RB o;have yI:=ab5 g az V aQ x k aj;unfold c6 dA at yI;obtain⟨O,ej⟩:∃ O,O=bl o:=⟨_,rfl⟩
   obtain⟨Y,gj⟩:∃ Y,Y=a2 x:=⟨_,rfl⟩
   rw[<-ej] at cQ dh nI sS;rw[<-gj] at g5 bE g4 yI;obtain⟨Z,pT⟩:∃ Z,Z=[ae.int .u32 0,.a6,.int .u64 0,.int .u8 0,.str [],.int .u8 0,.int .i64 0,.int .u64 0,.str [],.int .u32 0,.int .u32 0] :=⟨_,rfl⟩
   have oF:Z.length=11:=by rw[pT]; rfl
   have mb:bS Z 0 O=O:=hb (by rw[dh,oF]);have BI:=hJ.more [.cells 11 O];have oS:∀ y z:bg,(l++[y]).set l.length z=l++[z] :=fun y z=>by rw[List.set_append_right _ _ (Nat.le_refl _)]; simp
   have hy:=BI.eJ;have kz:∀ (X:au) h,(l++X)[0]'h=.cells 2 [a8 g.ids,b8 g.ops] :=fun X h=>by
    have:=(hJ.more X).eJ; rw[List.getElem?_eq_some_iff] at this; exact this.2
   have yH:O.take 11=O:=List.take_of_length_le (by omega);by_cases dH:o.act.kind=3#8
   ·have tk:=oP.2 dH;simp[cC,cQ,dh,<-pT,oF,mb,oS,yH,nI,sS,tk,kz,g5,bE,List.take_of_length_le];refine bv yI (by simp[bP,ae.closed,eA,da,g4]) ?_;have oQ:c9 (.ao 32) (a8 (gq (hY g k)))=some (.int .i64 (hY g k).length) :=by simp[a8,iK]
    have ht:=ab2 g k;simp[oQ];refine c0 (hY g k).length (abJ g k o l.length) ?_ ⟨by simp,by simp,by simp,by simp,by simp,by simp,by simp,by simp,by simp,by simp,by simp,BI.iff fun t=>⟨.inl,fun h=>h.elim id fun h=>by simp at h⟩,hJ.lt,by rw[<-ej]; simp⟩;obtain⟨b,jp⟩:∃ b,b=l.length:=⟨_,rfl⟩
    rw[<-jp];clear hJ BI oS hy kz;rintro q ah l bp ⟨aV,aY,bd,br,dU,mJ,kh,ki,q9,ra,rb,hJ,gy,ai⟩;obtain⟨ah,rfl⟩:=aaV aV aY bd br dU mJ kh ki q9 ra rb;clear aV aY bd br dU mJ kh ki q9 ra rb;unfold Vy;by_cases jQ:q<(hY g k).length
    ·obtain⟨y,aO,el⟩:=ck jQ;have Ux:=az.ids y (ab3 el);have fc:=dm Ux;have h2:IntKind.i64.wrap ((q:Int)+1)=((q+1:Nat) :Int) :=by rw[IntKind.wrap_i64]; omega
     have Ts:cO (.ao 32) (a8 (gq (hY g k))) (.int .i64 (q:Int))=some (.cn (a2 y) 0) :=by simp[a8,iK,aO]
     have l4:cW ⟨o.act.key,y⟩=.str o.act.key::a2 y:=rfl;have fG:=(hJ.more [.cells 32 (a2 y)]).m;obtain⟨c,rz,nT⟩:=fG.put (x:=⟨o.act.key,y⟩) Ux;rw[l4] at rz;rw[<-ej] at ai;have fi:b<l.length:=(List.getElem?_eq_some_iff.1 ai).1;obtain⟨W,eO⟩:∃ W,W=a2 y:=⟨_,rfl⟩
     rw[<-eO] at fc Ts l4 rz fG;have aho:bS (rep 32 (.int .u8 0)) 0 W=W:=hb (by rw[fc]; rfl);have oS:∀ y z:bg,(l++[y]).set l.length z=l++[z] :=fun y z=>by rw[List.set_append_right _ _ (Nat.le_refl _)]; simp
     have b1:∀ X:au,(l++X)[b]? = some (.cells 11 O) :=fun X=>by rw[List.getElem?_append_left fi]; exact ai
     simp[jQ,Ts,fc,aho,oS,List.take_of_length_le,b1,sS,dh,rz,h2];have jx:∀ a,a≠2->((l++[bg.cells 32 W]).set 2 c)[a]? = (l++[bg.cells 32 W])[a]?:=fun a aG=>List.getElem?_set_ne (Ne.symm aG)
     have wD:=hJ.more [.cells 32 W];refine⟨by simp,by simp,by simp,by simp,by simp,by simp,by simp,by simp,by simp,by simp,by simp,⟨(jx 0 (by omega)).trans wD.eJ,(jx 1 (by omega)).trans wD.m9,?_⟩,gy,?_⟩
     ·refine (nT _ (List.getElem?_set_self (by have:=wD.lt; omega))).iff (aez aO)
     ·rw[jx b (by omega),<-ej]; exact b1 _
    ·have u5:q=(hY g k).length:=by omega
     subst u5;rw[List.take_length] at hJ;simp[jQ,a1];exact⟨cC,by simp,by simp,by simp,by simp,by simp,by simp,by simp,hJ.iff (aey ay dH)⟩
   ·have tk:¬ (u o.act.kind:Int)=3:=fun h=>dH (oP.1 h)
    simp[cC,cQ,dh,<-pT,oF,mb,oS,yH,nI,sS,tk,a1];exact⟨by simp,by simp,by simp,by simp,by simp,by simp,by simp,BI.iff (aex ay dH)⟩
  ·have fT:k=g.ops.l.length:=by omega
   subst fT;have kz:∀ (X:au) h,(l++X)[0]'h=.cells 2 [a8 g.ids,b8 g.ops] :=fun X h=>by
    have:=(hJ.more X).eJ; rw[List.getElem?_eq_some_iff] at this; exact this.2
   simp[cC,kz,dw];refine c0 g.ops.l.length (abI g l.length) ?_ ⟨by simp,by simp,by simp,by simp,by simp,by simp,by simp,by simp,hJ.more _,hJ.lt,.a6,l.length+1,by simp,by simpa [gx] using bX.nil _,by simp[gx,cT],.inl rfl⟩;obtain⟨b,jp⟩:∃ b,b=l.length:=⟨_,rfl⟩
   rw[<-jp];clear hJ kz jp;rintro i ah l aA ⟨aV,aY,bd,br,jm,Hs,Ht,Hu,hJ,gy,v,j,ai,hM,wV,am⟩;obtain⟨ah,rfl⟩:=aaX aV aY bd br jm Hs Ht Hu;clear aV aY bd br jm Hs Ht Hu;unfold VA;have fi:b<l.length:=(List.getElem?_eq_some_iff.1 ai).1;have kz:∀ (X:au) h,(l++X)[0]'h=.cells 2 [a8 g.ids,b8 g.ops] :=fun X h=>by
    have:=(hJ.more X).eJ; rw[List.getElem?_eq_some_iff] at this; exact this.2
   by_cases d1:i<g.ops.l.length
   ·obtain⟨x,aj,dV⟩:=ck (l:=g.ids.l) (k:=i) (by omega);obtain⟨o,ay,ek⟩:=ck d1;have me:=az.ids x dV;have bE:=dm me;have a1:IntKind.i64.wrap ((i:Int)+1)=((i+1:Nat) :Int) :=by rw[IntKind.wrap_i64]; omega
    have g5:cO (.ao 32) (a8 g.ids) (.int .i64 (i:Int))=some (.cn (a2 x) 0) :=by simp[a8,aj]
    have cQ:cO (.ao 11) (b8 g.ops) (.int .i64 (i:Int))=some (.cn (bl o) 0) :=by simp[b8,ay]
    have dh:(bl o).length=11:=rfl;have nI:∀ h,(bl o)[3]'h=bG o.act.kind:=fun _=>rfl
    have sS:∀ h,(bl o)[4]'h=.str o.act.key:=fun _=>rfl
    have oP:=RA o;have l4:cW ⟨o.act.key,x⟩=.str o.act.key::a2 x:=rfl;have uF:(cW ⟨o.act.key,x⟩).length=33:=oC me;have ht:=AJ ay aj;obtain⟨O,ej⟩:∃ O,O=bl o:=⟨_,rfl⟩
    obtain⟨Y,gj⟩:∃ Y,Y=a2 x:=⟨_,rfl⟩
    obtain⟨T,d9⟩:∃ T,T=cW ⟨o.act.key,x⟩:=⟨_,rfl⟩
    rw[<-ej] at cQ dh nI sS;rw[<-gj] at g5 bE l4;have ju:=(hJ.more [bg.cells 11 O,.cells 33 T]).m.look (x:=⟨o.act.key,x⟩) me;rw[<-d9] at l4 uF ju;obtain⟨Z,pT⟩:∃ Z,Z=[ae.int .u32 0,.a6,.int .u64 0,.int .u8 0,.str [],.int .u8 0,.int .i64 0,.int .u64 0,.str [],.int .u32 0,.int .u32 0] :=⟨_,rfl⟩
    have oF:Z.length=11:=by rw[pT]; rfl
    have mb:bS Z 0 O=O:=hb (by rw[dh,oF]);have u7:bS (rep 32 (.int .u8 0)) 0 Y=Y:=hb (by rw[bE]; rfl);have IW:bS (ae.str [] ::rep 32 (.int .u8 0)) 0 T=T:=aaj uF;have yH:O.take 11=O:=List.take_of_length_le (by omega);have SK:T.take 33=T:=List.take_of_length_le (by omega);have oS:∀ y z:bg,(l++[y]).set l.length z=l++[z] :=fun y z=>by rw[List.set_append_right _ _ (Nat.le_refl _)]; simp
    have TL:∀ y z w:bg,(l++[w,y]).set (l.length+1) z=l++[w,z] :=fun y z w=>by rw[List.set_append_right _ _ (by omega)]; simp
    have b1:∀ X:au,(l++X)[b]? = some (.cells 1 [v]) :=fun X=>by rw[List.getElem?_append_left fi]; exact ai
    by_cases ce:o.act.kind=2#8
    ·have vh:=oP.2 ce;simp[d1,cQ,dh,<-pT,oF,mb,oS,yH,nI,sS,vh,kz,g5,bE,List.take_of_length_le,u7,<-l4,uF,IW,TL,ju];by_cases hm:j4 g g.ops.l.length ⟨o.act.key,x⟩
     ·rw[if_neg (fun h=>h.2 hm),List.append_nil] at ht;simp[hm,a1];exact⟨d1,by simp,by simp,by simp,by simp,by simp,by simp,by simp,by simp,hJ.more _,gy,v,j,b1 _,by rw[ht]; exact hM.more _,by rw[ht]; exact wV,am⟩
     ·rw[if_pos ⟨ce,hm⟩] at ht;obtain⟨eS,rr⟩:∃ eS,eS=l++[bg.cells 11 O,bg.cells 33 T,bg.cells 33 T] :=⟨_,rfl⟩
      have aqs:eS.length=l.length+3:=by rw[rr]; simp
      have afg:=AG g i;have agO:bX 33 eS v j ((gx g i).map cW) :=by rw[rr]; exact hM.more _
      obtain⟨bf,cD,l',j0,k8,Am,An,xP,amQ⟩:=Ek (by_:=48) agO (x:=.ao 33 (l.length+2) 0 1 1 33) (xs:=[T]) (by rw[rr]; simp[df,uF,SK]) (by simp[uF]) (by omega) (by omega) (by simp; omega);have fW:cT bf=false:=by rw[amQ]; simp
      have vc:=k8.cells;have aeW:j5 g (j4 g g.ops.l.length) eS:=by rw[rr]; exact hJ.more _
      have ri:eS[b]? = some (.cells 1 [v]) :=by rw[rr]; exact b1 _
      have bL:l'[b]? = some (.cells 1 [v]) :=by rw[An b (by omega) (am.imp_right (by omega))]; exact ri
      rw[rr] at j0;simp[hm,b1,uF,SK,IW,j0,List.take_of_length_le];refine du.cM ?_;simp[vc,bL,a1];have b0:∀ a,a≠b->(l'.set b (.cells 1 [bf]))[a]? = l'[a]?:=fun a aG=>List.getElem?_set_ne (Ne.symm aG)
      refine⟨d1,by simp,by simp,by simp,by simp,by simp,by simp,by simp,by simp,aeW.frame fun a aG=>?_,gy,bf,cD,List.getElem?_set_self (by omega),?_,by rw[fW,ht]; simp,?_⟩
      ·rw[b0 a (by omega),An a (by omega) (am.imp_right (by omega))]
      ·have agi:cD≠b:=by
        rcases xP with h | ⟨h1,af⟩ | h
        ·omega
        ·have:=am.resolve_left h1; omega
        ·rw[h] at fW; cases fW
       rw[ht,List.map_append];have:bX 33 (l'.set b (.cells 1 [bf])) bf cD ((gx g i).map cW++[T]) :=k8.frame fun _=>b0 cD agi
       rw[d9] at this;exact this
      ·right;rcases xP with h | ⟨h1,af⟩ | h
       ·omega
       ·have:=am.resolve_left h1; omega
       ·rw[h] at fW; cases fW
    ·have vh:¬ (u o.act.kind:Int)=2:=fun h=>ce (oP.1 h)
     simp[d1,cQ,dh,<-pT,oF,mb,oS,yH,nI,sS,vh,kz,g5,bE,List.take_of_length_le,u7,<-l4,uF,IW,TL,a1];rw[if_neg (fun h=>ce h.1),List.append_nil] at ht;exact⟨by simp,by simp,by simp,by simp,by simp,by simp,by simp,by simp,hJ.more _,gy,v,j,b1 _,by rw[ht]; exact hM.more _,by rw[ht]; exact wV,am⟩
   ·have d2:i=g.ops.l.length:=by omega
    subst d2;have afg:=AG g g.ops.l.length;simp[d1,ai];refine amB (NS az _) (by omega) wV hM (fun l' h1 af ap=>?_);have bL:l'[b]? = some (.cells 1 [v]) :=by rw[af b (am.imp_right (by omega))]; exact ai
    have wD:j5 g (j4 g g.ops.l.length) l':=hJ.frame fun a aG=>af a (am.imp_right (by omega))
    have m9:=wD.m9;have rr:=wD.lt;have vc:=ap.cells;have dC:∀ (y:bg),(l'.set 1 y)[1]? = some y:=fun y=>List.getElem?_set_self (by omega)
    simp[bL,m9,dC];refine akV (akU ?_) (aZ (by rw[aQ]) rfl);unfold lG;rw[if_pos aQ];have aH:bX 33 (l'.set 1 (.cells 1 [v])) v j ((kB (gx g g.ops.l.length)).map cW) :=by
     rcases am with e | e
     ·subst e;have:=ap.q.xp;rw[this]; exact .nil _
     ·exact ap.frame fun _=>List.getElem?_set_ne (by omega)
    exact aH.q.vC (fun x=>ul x) (DH (kB (gx g g.ops.l.length))) (by
     rw[wV,ami];have:=aah (gx g g.ops.l.length);cases bc:kB (gx g g.ops.l.length)<;>cases bM:gx g g.ops.l.length<;>simp_all) (Ah _)
 ·simp[aQ];refine aZ ?_ ?_
  ·unfold lG; rw[if_neg aQ]; rfl
  ·simp[ae.closed,bP,wd]
theorem aeu {α:Type} {l:List α} {i:Nat} {d x:α} (h:l[i]? = some x) :l.getD i d=x:=by rw[List.getD_eq_getElem?_getD,h]; rfl
open Classical in
theorem ab4 {g:b2} (am:iN g.ids.l) {i j:Nat} {p:List B} (aF:g.ids.l[j]? = some p) :p∈hY g i<->hC g.ids.l g.ops.l (c7 g.ops.l i) j:=by
 have aC:∀ t,t<g.ids.l.length->(k6 g (c7 g.ops.l i)).getD t false=decide (hC g.ids.l g.ops.l (c7 g.ops.l i) t) :=fun t aU=>by
  apply aeu;unfold k6;rw[List.getElem?_map,List.getElem?_range aU]; rfl
 unfold hY;rw[Wj];constructor
 ·rintro⟨t,aU,h1,af⟩;rw[aC t aU] at h1;obtain⟨y,aO,_⟩:=ck aU;rw[hw aO] at af;subst af;rw[am j t y aF aO];exact of_decide_eq_true h1
 ·intro h;have aq:=(List.getElem?_eq_some_iff.1 aF).1;exact⟨j,aq,by rw[aC j aq]; exact decide_eq_true h,hw aF⟩
theorem Sp {g:b2} (az:fZ g) (V:nr g) {key:List UInt8} {x:List B} (aj:x∈g.ids.l) :∀ {m:Nat},m<=g.ops.l.length->(pN g (fq g) key x m=true<->j4 g m ⟨key,x⟩)
 | 0,_=>by
  constructor
  ·intro h; cases h
  ·rintro⟨k,_,aE,_⟩; omega
 | m+1,hm=>by
  have aK:=Sp az V aj (key:=key) (m:=m) (by omega);obtain⟨o,ay,_⟩:=ck (l:=g.ops.l) (k:=m) (by omega);obtain⟨y,aO,_⟩:=ck (l:=g.ids.l) (k:=m) (by rw[V.len]; omega);obtain⟨j,am⟩:=List.mem_iff_getElem?.1 aj;have cA:=(Ef g az V aO).1;have h1:x∈fq g m<->x∈hY g m:=(cA.mem j x am).trans (ab4 (th V.eU) am).symm;rw[Sm ay,Bool.or_eq_true,aK,Bool.and_eq_true,decide_eq_true_eq,h1];unfold qz;rw[Bool.and_eq_true,decide_eq_true_eq,decide_eq_true_eq];constructor
  ·rintro (⟨k,ci,bn,bA⟩ | ⟨⟨bn,bA⟩,a3⟩)
   ·exact⟨k,ci,by omega,bA⟩
   ·exact⟨m,o,by omega,ay,bn,bA,a3⟩
  ·rintro⟨k,ci,bn,bA,a3,a4,a5⟩;by_cases ko:k=m
   ·subst ko; rw[ay] at bA; obtain rfl:=Option.some.inj bA; exact .inr ⟨⟨a3,a4⟩,a5⟩
   ·exact .inl ⟨k,ci,by omega,bA,a3,a4,a5⟩
theorem aiq {g:b2} (V:nr g) {k:Nat} {o:bH} (ay:g.ops.l[k]? = some o) (ce:o.act.kind=2#8) :g9 o.act.key=true:=by
 obtain⟨y,aO,_⟩:=ck (l:=g.ids.l) (k:=k) (by rw[V.len]; exact (List.getElem?_eq_some_iff.1 ay).1);have h1:=RK (DP (V.aeB k o y ay aO).1);rw[AF ce,Bool.and_eq_true] at h1;exact h1.1
theorem NR {g:b2} (V:nr g) {m:Nat} {key:List UInt8} {x:List B} (aj:g.ids.l[m]? = some x) :(⟨key,x⟩:bw)∉gx g m:=fun h=>by
 obtain⟨k,o,y,h1,_,ap,_,_,bM⟩:=AH.1 h;have:x=y:=congrArg bw.id bM;subst this;have:=th V.eU k m x ap aj;omega
theorem AI {g:b2} (V:nr g) :∀ {m:Nat},m<=g.ops.l.length->(gx g m).Nodup
 | 0,_=>by simp[gx]
 | m+1,hm=>by
  have aK:=AI V (m:=m) (by omega);obtain⟨o,ay,_⟩:=ck (l:=g.ops.l) (k:=m) (by omega);obtain⟨x,aj,_⟩:=ck (l:=g.ids.l) (k:=m) (by rw[V.len]; omega);rw[AJ ay aj];split
  ·rw[List.nodup_append];refine⟨aK,by simp,fun a aG b ai e=>?_⟩;rw[List.mem_singleton] at ai;subst e;rw[ai] at aG;exact NR V aj aG
  ·simpa using aK
theorem Wz {g:b2} (az:fZ g) (V:nr g) :∀ {m:Nat},m<=g.ops.l.length->pO (ft g (fq g) m).l=true/\∀ t,t∈(ft g (fq g) m).l<->t∈gx g m
 | 0,_=>⟨rfl,fun t=>by simp[ft,gx]⟩
 | m+1,hm=>by
  obtain⟨h1,af⟩:=Wz az V (m:=m) (by omega);obtain⟨o,ay,_⟩:=ck (l:=g.ops.l) (k:=m) (by omega);obtain⟨x,aj,dV⟩:=ck (l:=g.ids.l) (k:=m) (by rw[V.len]; omega);have Th:=Sp az V (key:=o.act.key) dV (Nat.le_refl g.ops.l.length);rw[JY ay aj,AJ ay aj];by_cases ak:o.act.kind=2#8/\¬ j4 g g.ops.l.length ⟨o.act.key,x⟩
  ·have ar:lP g (fq g) o x=true:=by
    unfold lP;rw[Bool.and_eq_true,decide_eq_true_eq,Bool.not_eq_true'];exact⟨ak.1,Bool.eq_false_iff.2 fun h=>ak.2 (Th.1 h)⟩
   rw[if_pos ar,if_pos ak];have aI:(⟨o.act.key,x⟩:bw)∉(ft g (fq g) m).l:=fun h=>NR V aj ((af _).1 h)
   have aF:oa (ft g (fq g) m).l ⟨o.act.key,x⟩=hd (ft g (fq g) m).l (pG (ft g (fq g) m).l ⟨o.act.key,x⟩) ⟨o.act.key,x⟩:=by unfold oa; rw[WY h1 aI]
   rw[eh.JE,aF];refine⟨aeD h1 aI (aiq V ay ak.1),fun t=>?_⟩;rw[ahT,af t,List.mem_append,List.mem_singleton,Or.comm]
  ·have ar:¬ lP g (fq g) o x=true:=by
    intro h;unfold lP at h;rw[Bool.and_eq_true,decide_eq_true_eq,Bool.not_eq_true'] at h;exact ak ⟨h.1,fun aR=>by rw[Th.2 aR] at h; cases h.2⟩
   rw[if_neg ar,if_neg ak,List.append_nil];exact⟨h1,af⟩
theorem ajz {g:b2} (az:fZ g) :(lG g).l=(rZ g).l:=by
 unfold lG rZ;by_cases aQ:fQ g=0
 ·have V:=xv aQ;rw[if_pos aQ,if_pos aQ,Ah];obtain⟨h1,af⟩:=Wz az V (Nat.le_refl _);exact M1 (lt:=ec) vn (fun a b c h1 af=>n5 h1 af) (M0 (AI V (Nat.le_refl _))) ((Hv _).1 h1).2 (fun t=>by rw[DD,af])
 ·rw[if_neg aQ,if_neg aQ]
theorem ajx {g:b2} (az:fZ g) :m7 (lG g).l/\(lG g).l.length<=g.ops.l.length:=by
 unfold lG;by_cases aQ:fQ g=0
 ·rw[if_pos aQ,Ah];refine⟨fun t aU=>NS az _ t ((DD _ _).1 aU),?_⟩;rw[aah]; exact AG g _
 ·rw[if_neg aQ]; exact⟨fun t aU=>(by cases aU),Nat.zero_le _⟩
structure Eb (g:b2) :Prop where
 ids:hS g.ids
 ops:∀ o∈g.ops.l,Ec o
theorem amH {ts:List TypeId} {cs:List ae} (h:lU Tryz.prog (60::ts) cs) :∃ (g:b2) (cs' : List ae),cs=c6 g::cs'/\Eb g/\lU Tryz.prog ts cs':=by
 obtain⟨c,cs',rfl,h1,af⟩:=amG h;obtain⟨cs,rfl,ap⟩:=amJ (by kernel_rfl) h1;have aH:=Al (fs:=[26,58]) (by kernel_rfl) ap;obtain⟨i,_,rfl,aA,bc⟩:=aaQ aH;obtain⟨s,_,rfl,_,ay,bM⟩:=aaR (e:=35) (z:=11) (enc:=bl) (Q:=Ec) (by kernel_rfl) (by kernel_rfl) (fun r aC=>by
  obtain⟨x,_,rfl,aj,ap⟩:=amN aC;rw[Nk ap,List.append_nil];exact⟨x,rfl,aj⟩) bc
 rw[Nk bM];exact⟨⟨i,s⟩,cs',rfl,⟨aA,ay⟩,af⟩
theorem ajA {g:b2} (h:Eb g) (az:sN g=false) :fZ g:=by
 unfold sN at az;simp only[Bool.or_eq_false_iff,decide_eq_false_iff_not] at az;obtain⟨h1,af,ap,aH⟩:=az;refine⟨h.ids,fun o ay=>?_,by omega,by omega⟩;have bc:¬ re o=true:=fun aR=>h1 ⟨o,by rw[List.take_of_length_le (by omega)]; exact ay,aR⟩
 unfold re at bc;simp only[Bool.or_eq_true,decide_eq_true_eq,not_or] at bc;have aU:=h.ops o ay;exact⟨aU.ids,by omega,⟨aU.lD,aU.ql,by omega⟩,by omega⟩
theorem Dl (ops:List bH) (i:Nat) :c7 (ops.map gV) i=c7 ops i:=by
 unfold c7;rw[List.getElem?_map];cases ops[i]?<;>rfl
theorem ni (g:b2) :(gb g).ops.l=g.ops.l.map gV:=iK _
theorem acV (ids:List (List B)) (ops:List bH) (out:List Nat) :nA ids (ops.map gV) out=nA ids ops out:=by
 funext i;unfold nA;rw[Dl]
theorem Wu (ids:List (List B)) (ops:List bH) (out:List Nat) :ip ids (ops.map gV) out=ip ids ops out:=by unfold ip; rw[acV,List.length_map]
theorem WH (ids:List (List B)) (ops:List bH) :∀ k,e3 ids (ops.map gV) k=e3 ids ops k
 | 0=>rfl
 | k+1=>by
  have aK:=WH ids ops k;cases h:ip ids ops (e3 ids ops k) with
  | none=>rw[De h,De (by rw[aK,Wu]; exact h),aK]
  | some i=>rw[zL h,zL (by rw[aK,Wu]; exact h),aK]
theorem alH (ids:List (List B)) (ops:List bH) :lN ids (ops.map gV)=lN ids ops:=by
 have h1:tx ids (ops.map gV)=tx ids ops:=by
  unfold tx;rw[decide_eq_decide];constructor
  ·intro h o ay; exact h (gV o) (List.mem_map_of_mem ay)
  ·intro h o ay;obtain⟨ci,dr,rfl⟩:=List.mem_map.1 ay;exact h ci dr
 have af:m8 ids (ops.map gV)=m8 ids ops:=by unfold m8; rw[WH,List.length_map]
 unfold lN;rw[h1,af,List.length_map]
theorem aeC (g:b2) (k:Nat) :kL (gb g) k=kL g k:=by
 unfold kL;rw[ni,List.getElem?_map];rw[show (gb g).ids.l=g.ids.l from rfl];cases g.ops.l[k]?<;>cases g.ids.l[k]?<;>rfl
theorem G0 (g:b2) :fQ (gb g)=fQ g:=by
 have h1:uz (gb g)=uz g:=by
  unfold uz;rw[decide_eq_decide,ni,List.length_map];simp only[aeC]
 unfold fQ;rw[h1,ni,alH,List.length_map];rfl
theorem akO {ids:List (List B)} {ops:List bH} {L:List (List B)} {i:Nat}:hC ids (ops.map gV) L i<->hC ids ops L i:=by
 constructor
 ·intro h
  induction h with
  | start p j aF am=>exact .start p j aF am
  | step i p j aC aF am aK=>rw[Dl] at aF; exact .step i p j aK aF am
 ·intro h
  induction h with
  | start p j aF am=>exact .start p j aF am
  | step i p j aC aF am aK=>exact .step i p j aK (by rw[Dl]; exact aF) am
theorem NY (g:b2) (i:Nat) :hY (gb g) i=hY g i:=by
 unfold hY;rw[ni,Dl];have h:k6 (gb g) (c7 g.ops.l i)=k6 g (c7 g.ops.l i) :=by
  unfold k6;rw[ni];exact List.map_congr_left fun j _=>decide_eq_decide.2 akO
 rw[h]; rfl
theorem Sn (g:b2) (m:Nat) (t:bw) :j4 (gb g) m t<->j4 g m t:=by
 unfold j4;constructor
 ·rintro⟨k,o,h1,af,ap,aH,bc⟩;rw[ni,List.getElem?_map] at af;cases ay:g.ops.l[k]? with
  | none=>rw[ay] at af; cases af
  | some ci=>
   rw[ay] at af;obtain rfl:=Option.some.inj af;rw[NY] at bc;exact⟨k,ci,h1,ay,ap,aH,bc⟩
 ·rintro⟨k,o,h1,af,ap,aH,bc⟩;exact⟨k,gV o,h1,by rw[ni,List.getElem?_map,af]; rfl,ap,aH,by rw[NY]; exact bc⟩
theorem abX {g:b2} (m:Nat) (t:bw) :t∈gx (gb g) m<->t∈gx g m:=by
 have rl:(gb g).ops.l.length=g.ops.l.length:=by rw[ni,List.length_map]
 rw[AH,AH];constructor
 ·rintro⟨k,o,x,h1,af,ap,aH,bc,bM⟩;rw[ni,List.getElem?_map] at af;cases ay:g.ops.l[k]? with
  | none=>rw[ay] at af; cases af
  | some ci=>
   rw[ay] at af;obtain rfl:=Option.some.inj af;rw[Sn,rl] at bc;exact⟨k,ci,x,h1,ay,ap,aH,bc,bM⟩
 ·rintro⟨k,o,x,h1,af,ap,aH,bc,bM⟩;exact⟨k,gV o,x,h1,by rw[ni,List.getElem?_map,af]; rfl,ap,aH,by rw[Sn,rl]; exact bc,bM⟩
theorem ajy {g:b2} (az:fZ g) :(lG (gb g)).l=(lG g).l:=by
 unfold lG;rw[G0];by_cases aQ:fQ g=0
 ·have V:=xv aQ;have abR:=xv (g:=gb g) (by rw[G0]; exact aQ);have rl:(gb g).ops.l.length=g.ops.l.length:=by rw[ni,List.length_map]
  rw[if_pos aQ,if_pos aQ,Ah,Ah];exact M1 (lt:=ec) vn (fun a b c h1 af=>n5 h1 af) (M0 (AI abR (Nat.le_refl _))) (M0 (AI V (Nat.le_refl _))) (fun t=>by rw[DD,DD,rl,abX])
 ·rw[if_neg aQ,if_neg aQ]
theorem alv (g:b2) :r8 (gb g) g=true:=by
 have h1:=alu g;unfold r8 at h1 ⊢;rw[ni,List.length_map];simp only[Bool.and_eq_true,decide_eq_true_eq] at h1 ⊢;refine⟨rfl,trivial,fun k aE=>?_⟩;obtain⟨o,ay,_⟩:=ck aE;rw[C9 (by rw[List.getElem?_map,ay]; rfl:(g.ops.l.map gV)[k]? = some (gV o)),C9 ay];exact Z9 o
set_option maxHeartbeats 4000000 in
theorem ajC (g:b2) (aU:Eb g) :dB Tryz.prog GS 4 [c6 g] [] (c:=⟨fun r _=>r=.bool true⟩) :=by
 apply bI Qh YO;unfold hF vz;have eA:=f2 g.ids;have da:=lW g.ops;have pW:=ako g;unfold c6 dA at pW;simp[c6,dA];refine bv pW (by simp[bP,ae.closed,eA,da]) ?_;cases H8:sN g with
 | true=>simp
 | false=>
  have az:=ajA aU H8;have Up:=akH g az;unfold c6 dA at Up;simp;refine bv Up (by simp[bP,ae.closed,eA,da]) ?_;have H7:=amD az;have kV:=anj (gb g) H7;have Co:=aku g az;have iX:=akC (gb g) g H7 az;rw[alv] at iX;rw[G0] at kV;unfold c6 dA at kV Co iX;have HX:=f2 (gb g).ids;have HY:=lW (gb g).ops;obtain⟨cd,ce⟩:=ajx H7;have rl:(gb g).ops.l.length=g.ops.l.length:=by rw[ni,List.length_map]
  have dw:=az.cI;have mc:(lG (gb g)).l=(rZ g).l:=by rw[ajy az,ajz az]
  have cm:=alw (lG (gb g)) (rZ g) cd (by rw[<-mc]; exact cd) (by omega);rw[decide_eq_true mc] at cm;have cz:=wd (lG (gb g));have de:=wd (rZ g);obtain⟨A,cA⟩:∃ A,A=lG (gb g) :=⟨_,rfl⟩
  obtain⟨R,iT⟩:∃ R,R=rZ g:=⟨_,rfl⟩
  obtain⟨I,mL⟩:∃ I,I=a8 (gb g).ids:=⟨_,rfl⟩
  obtain⟨O,ej⟩:∃ O,O=b8 (gb g).ops:=⟨_,rfl⟩
  obtain⟨e,aw⟩:∃ e,e=fQ g:=⟨_,rfl⟩
  have apU:I.cells=some [I] :=by rw[mL]; exact Q5 _
  rw[<-cA] at kV cm cz;rw[<-iT] at Co cm de;rw[<-mL,<-ej] at kV iX ⊢;rw[<-mL] at HX;rw[<-ej] at HY;rw[<-aw] at kV Co;have rf:=A5 A;have ae5:=A5 R;simp;refine bv kV (by simp[bP,ae.closed,HX,HY]) ?_;simp[rf];refine bv Co (by simp[bP,ae.closed,eA,da]) ?_;simp[ae5];refine bv cm (by simp[bP,ae.closed,cz,de]) ?_;simp;refine bv iX (by simp[bP,ae.closed,eA,da,HX,HY]) ?_;simp
end Op
end Go.cl

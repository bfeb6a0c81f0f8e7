/-
  Sets of tags: greatness, a copy, searching, putting in; walked.
-/
import Derived.Test.YtobphgccoalchaaGreatDoorRj
import Derived.Test.YtobphgccoalchaaGreatDoorRows
import Derived.Shelf.SlSortCmp.WholeK
import Derived.Shelf.SlGeneric
set_option linter.unusedVariables false
set_option linter.unusedSimpArgs false
set_option linter.unnecessarySimpa false
namespace Go.cf
open Go Go.Proofs
set_option maxRecDepth 100000
namespace Op
open gZ
theorem Ut (s:eO) :gq Tryz.prog .eql 29 (cL 33 bF s) .aV=some (.bool s.isNone) :=Fb (e:=53) (by kernel_rfl) 33 bF s
theorem CI {l:List bj} (h:gW l) :((l.map bF).flatten).length=l.length*33:=by
 rw[mM (z:=33) (fun e ao=>by obtain⟨y,ay,rfl⟩:=asr.1 ao; exact iL (h y ay)),asi]
theorem Nb {l:ap} {b n:Nat} {a:List bj} (az:gW a) (aF:a.length=n) (ag:l[b]? = some (.cells (n*33) (a.map bF).flatten)) :bB 33 l (.au 33 b 0 n n (n*33)) b (a.map bF) :=by
 have eo:=CI az;refine .au b n n (n*33) _ _ ag (by rw[eo,aF]) (by simp[aF]) (fun e ao=>?_) (ar0 _) (ar0 _) ?_
 ·obtain⟨y,ay,rfl⟩:=asr.1 ao; exact iL (az y ay)
 ·rw[arX (by rw[eo,aF]; omega)]
theorem ZD (s:eO) (aq:gW s.l) (ak:s.l.length<=1000000) {l:ap} {K:ad->ap->Prop} (aB:s=none->K .aV l)
  (h1:∀ a,s=some a->K (.au 33 l.length 0 a.length a.length (a.length*33)) (l++[.cells (a.length*33) (a.map bF).flatten])) :
  dr Tryz.prog GS 150 [dd s] l (c:=⟨K⟩) :=by
 apply bm Tryz.func150 [];have aA:cK=140737488355328:=rfl;cases s with
 | none=>
  simp[dd,Ut];exact aB rfl
 | some a=>
  simp at ak;have eo:=CI (l:=a) aq;have lI:i1 (l++[aY.cells 0 []]) 33 48 (.au 33 l.length 0 0 0 0) (cL 33 bF (some a))=some (.au 33 l.length 0 a.length a.length (a.length*33),l++[.cells (a.length*33) (a.map bF).flatten]) :=by
   unfold i1;rw[ul];simp only[dg.tt];unfold jm;by_cases av:a.length=0
   ·have:a=[] :=asF.1 av;subst this;simp
   ·rw[if_neg av,if_neg (by omega)];simp[aA];exact⟨by omega,fun h=>by simp[h]⟩
  simp[dd,Ut,lI];refine dt.cy ?_;simp;exact h1 a rfl
theorem agT (a b:Int) :xd a b=0<->a=0/\b=0:=by
 unfold xd;by_cases h:a=0<;>simp[h]
theorem P5 (a b:List UInt8) :qc a b=0<->a=b:=by
 unfold qc;cases h:e6 a b with
 | true=>
  have h1:=(tM _ _).1 h;simp;rintro rfl;exact absurd h1 (avy _)
 | false=>
  by_cases ae:a=b<;>simp[ae]
theorem ZJ (a b:bj) :jT a b=0<->a=b:=by
 unfold jT;rw[agT,P5];constructor
 ·rintro⟨h1,ae⟩;have:=rs ae;cases a; cases b; simp_all
 ·rintro rfl;exact⟨rfl,pf _⟩
def jp (l:List bj) (x:bj) :Nat:=(l.takeWhile fun t=>eM t x).length
theorem Fs (x:bj) :∀ {l:List bj} {p:Nat},p<=l.length->(∀ (t:Nat) (y:bj),t<p->l[t]? = some y->eM y x=true)->(∀ y,l[p]? = some y->eM y x=false)->jp l x=p
 | [],p,aC,_,_=>by simp at aC; subst aC; rfl
 | y::l,0,_,_,ae=>by
  have:=ae y (by simp);unfold jp;rw[atH,this]; rfl
 | y::l,p+1,aC,h1,ae=>by
  have ay:=h1 0 y (by omega) (by simp);have aO:=Fs x (l:=l) (p:=p) (by simpa using aC) (fun t z aJ av=>h1 (t+1) z (by omega) (by simpa using av)) (fun z av=>ae z (by simpa using av));unfold jp at aO ⊢;rw[atH,ay];simpa using aO
def rz (l:List bj) (x:bj) :Bool:=decide (jp l x<l.length)&&decide (oX l (jp l x)=x)
def Uq (l:List bj) (x:bj) :Prop:=∀ (i j:Nat) (a b:bj),i<=j->l[i]? = some a->l[j]? = some b->eM b x=true->eM a x=true
theorem Wr (n:Nat) (h:n<9223372036854775808) :cB .shr .u64 (n:Int) .u64 1=some (.int .u64 ((n / 2:Nat) :Int)) :=by
 have:=uh (BitVec.ofNat 64 n) .u64 1;have aP:(u (BitVec.ofNat 64 n) :Int)=n:=by unfold u; rw[asn,asg (by omega)]
 have aw:(u (BitVec.ofNat 64 n >>> 1) :Int)=((n / 2:Nat) :Int) :=by
  unfold u; rw[asH,asn,asg (by omega),aso]
 rw[aP,aw] at this;exact this
structure XF (s:eO) (X:List ad) (x:bj) (m:Nat) (af:bi) (l:ap) :Prop where
 ex:∃ (i j:Nat),j - i=m/\i<=j/\j<=s.l.length/\l=[.cells 33 X]/\af 0=dd s/\af 2=.fn 86 [] []/\af 4=.ptr 0 0 33/\af 8=.int .i64 s.l.length/\af 9=.int .i64 i/\af 10=.int .i64 j ∧
  (∀ (t:Nat) (y:bj),t<i->s.l[t]? = some y->eM y x=true)/\(∀ (t:Nat) (y:bj),j<=t->s.l[t]? = some y->eM y x=false)
theorem QU:iv Tryz.prog 86=true:=by kernel_rfl
theorem Wo (s:eO) (aq:gW s.l) (am:s.l.length<=1000000) (x:bj) (ai:x.id.length=32) (hm:Uq s.l x) :
  bx Tryz.prog GS 151 [dd s,.aI (bF x),.fn 86 [] []] (.bJ [.int .i64 (jp s.l x),.bool (rz s.l x)]) :=by
 refine bH Tryz.checked.mixed bD ?_;apply bm Tryz.func151 [];have bn:cz (.au 33) (dd s)=some (.int .i64 s.l.length) :=by simp[dd]
 have a2:=iL ai;have fI:=k4 x;have gV:∀ y∈s.l,bx Tryz.prog GS 86 [.aI (bF y),.aI (bF x)] (.int .i64 (jT y x)) :=fun y ay=>JJ y x (aq y ay) ai
 obtain⟨X,b3⟩:∃ X,X=bF x:=⟨_,rfl⟩
 rw[<-b3] at a2 fI gV ⊢;simp[bn];refine r9 (XF s X x) ?_ s.l.length _ _ ⟨0,s.l.length,by omega,by omega,by omega,by simp[a2],by simp,by simp,by simp[a2],by simp,by simp,by simp,fun t y h=>by omega,fun t y h ae=>by rw[ase h] at ae; cases ae⟩;rintro m af l ⟨i,j,gw,iy,e3,rfl,cg,aT,bp,de,fP,ft,h1,ae⟩;obtain⟨af,rfl⟩:=vp cg aT bp de fP ft;clear cg aT bp de fP ft;by_cases aM:i<j
 ·obtain⟨h,aH⟩:∃ h,h=(i+j) / 2:=⟨_,rfl⟩
  have bX:IntKind.i64.wrap ((i:Int)+j)=((i+j:Nat) :Int) :=by rw[IntKind.wrap_i64]; omega
  have w2:IntKind.u64.wrap ((i+j:Nat) :Int)=((i+j:Nat) :Int) :=by rw[vr,as2]; unfold u; rw[asn,asg (by omega)]
  have et:=Wr (i+j) (by omega);have oq:IntKind.i64.wrap (h:Int)=(h:Int) :=by rw[IntKind.wrap_i64]; omega
  have rh:IntKind.i64.wrap ((h:Int)+1)=((h+1:Nat) :Int) :=by rw[IntKind.wrap_i64]; omega
  have jz:(i:Int)<(j:Int) :=by omega
  rw[<-aH] at et;obtain⟨y,ay,ch⟩:=bu (l:=s.l) (k:=h) (by omega);have b4:=iL (aq y ch);have kq:=k4 y;have bG:cd (.au 33) (dd s) (.int .i64 (h:Int))=some (.b0 (bF y) 0) :=by simp[dd,ay]
  have hY:=gV y ch;have qq:=Fr y x;obtain⟨Y,dC⟩:∃ Y,Y=bF y:=⟨_,rfl⟩
  rw[<-dC] at b4 kq bG hY;obtain⟨N,fQ⟩:∃ N,N=i+j:=⟨_,rfl⟩
  rw[<-fQ] at bX w2 et;simp[aM,bX,w2,et,oq,bG,b4,a2,arX];refine⟨QU,aW hY (by simp[aZ,ad.closed,kq,fI]) ?_⟩;by_cases bz:jT y x<0
  ·simp[bz,rh];refine⟨j - (h+1),by omega,h+1,j,rfl,by omega,by omega,by simp,by simp,by simp,by simp,by simp,by simp,by simp,fun t z aJ av=>?_,ae⟩;exact hm t h z y (by omega) av ay (qq.1 bz)
  ·simp[bz];refine⟨h - i,by omega,i,h,rfl,by omega,by omega,by simp,by simp,by simp,by simp,by simp,by simp,by simp,h1,fun t z aJ av=>?_⟩;cases dy:eM z x with
   | false=>rfl
   | true=>exact absurd (qq.2 (hm h t y z aJ ay av dy)) bz
 ·have jz:¬ (i:Int)<(j:Int) :=by omega
  obtain rfl:i=j:=by omega
  have ah:=Fs x (l:=s.l) (p:=i) e3 h1 (fun y ay=>ae i y (ar0 _) ay);by_cases cY:i<s.l.length
  ·have Lg:(i:Int)<(s.l.length:Int) :=by omega
   obtain⟨y,ay,ch⟩:=bu (l:=s.l) (k:=i) cY;have b4:=iL (aq y ch);have kq:=k4 y;have bG:cd (.au 33) (dd s) (.int .i64 (i:Int))=some (.b0 (bF y) 0) :=by simp[dd,ay]
   have hY:=gV y ch;have C5:=ZJ y x;obtain⟨Y,dC⟩:∃ Y,Y=bF y:=⟨_,rfl⟩
   rw[<-dC] at b4 kq bG hY;simp[cY,bG,b4,a2,arX];refine⟨QU,aW hY (by simp[aZ,ad.closed,kq,fI]) ?_⟩;simp;refine aK ?_ rfl;unfold rz;rw[ah,nD ay,decide_eq_true cY,asM];simp[C5]
  ·have Lg:¬ (i:Int)<(s.l.length:Int) :=by omega
   simp[cY];refine aK ?_ rfl;unfold rz;rw[ah,decide_eq_false cY,asN]
def gf (l:List bj) (i:Nat) (x:bj) :List bj:=l.take i++x::l.drop i
theorem DK (l:List bj) (i:Nat) (x:bj) :(gf l i x).length=l.length+1:=by
 unfold gf; simp; omega
theorem DL {l:List bj} {i:Nat} {x:bj} (h:gW l) (ai:x.id.length=32) :gW (gf l i x) :=by
 intro t aJ;unfold gf at aJ;rcases asu.1 aJ with h1 | h1
 ·exact h t (asz h1)
 ·rcases as0.1 h1 with ae | ae
  ·rw[ae]; exact ai
  ·exact h t (atx ae)
theorem afd {l:ap} {b bv n i:Nat} {a:List bj} {x:bj} (az:gW a) (ai:x.id.length=32) (aF:a.length=n) (ag:l[b]? = some (.cells (n*33) (a.map bF).flatten)) (i5:l[bv]? = some (.cells 33 (bF x))) (bU:bv≠b) (ax:i<=n) (oM:n<=1000000)
  {K:ad->ap->Prop} (bl:K (.au 33 l.length 0 (n+1) (n+1) ((n+1)*33)) (l.set b .dead++[.cells ((n+1)*33) ((gf a i x).map bF).flatten])) :
  dr Tryz.prog GS 152 [.au 33 b 0 n n (n*33),.int .i64 i,.au 33 bv 0 1 1 33] l (c:=⟨K⟩) :=by
 have eC:=e7 ag;have ak:=Mt (P:=Tryz.prog) (G:=GS) (h:=b8 l) Mr (by kernel_rfl) (by kernel_rfl) (show jn Tryz.prog 53=some 48 by kernel_rfl) (by omega) (by omega) (by kernel_rfl) (b:=b) (bv:=bv) (len:=n) (cap:=n) (i:=i) (ly.2 ag) (ly.2 i5) bU ax (ar0 _) (by unfold cK; omega);rw[zI,o7 _ eC,ng,aun (by omega)] at ak;refine⟨_,_,.ext ak,by simp,?_⟩;have eo:=CI az;have bE:a.map bF=(a.take i).map bF++(a.drop i).map bF:=by rw[<-asv,asK]
 have Hi:((a.take i).map bF).flatten.length=i*33:=by
  rw[CI (fun t aJ=>az t (asz aJ)),asc,asR (by omega)]
 have AD:((a.drop i).map bF).flatten.length=(n - i)*33:=by
  rw[CI (fun t aJ=>az t (atx aJ)),atg,aF]
 have cI:mw 33 (a.map bF).flatten (bF x) i n=((gf a i x).map bF).flatten:=by
  unfold mw gf;have h1:((a.map bF).flatten).take (i*33)=((a.take i).map bF).flatten:=by
   rw[bE,asX,asm (by omega),arX (by omega)]
  have ae:((a.map bF).flatten).drop (i*33)=((a.drop i).map bF).flatten:=by
   rw[bE,asX,asL (by omega),asW (by omega),asO]
  have al:(((a.drop i).map bF).flatten).take ((n - i)*33)=((a.drop i).map bF).flatten:=arX (by omega);have aE:((a.map bF).flatten).drop ((n+1)*33)=[] :=asW (by rw[eo,aF]; omega);rw[h1,ae,al,aE,asD];simp
 rw[cI];exact bl
theorem afa {l:ap} {bv:Nat} {x:bj} (i5:l[bv]? = some (.cells 33 (bF x))) {K:ad->ap->Prop} (bl:K (.au 33 l.length 0 1 1 33) (l++[.cells 33 (bF x)])) :
  dr Tryz.prog GS 152 [.aV,.int .i64 0,.au 33 bv 0 1 1 33] l (c:=⟨K⟩) :=by
 have ak:=Ms (P:=Tryz.prog) (G:=GS) (h:=b8 l) Mr (by kernel_rfl) (by kernel_rfl) (show jn Tryz.prog 53=some 48 by kernel_rfl) (by omega) (by omega) (by kernel_rfl) (bv:=bv) (ly.2 i5) (by unfold cK; omega);rw[zI,ng] at ak;exact⟨_,_,.ext ak,by simp,bl⟩
structure rl (j:Nat) (l l' : ap) :Prop where
 le:l.length<=l'.length
 same:∀ b,b<l.length->b≠j->l'[b]? = l[b]?
theorem rl.refl (j:Nat) (l:ap) :rl j l l:=⟨ar0 _,fun _ _ _=>rfl⟩
theorem rl.trans {j:Nat} {a b c:ap} (h1:rl j a b) (ae:rl j b c) :rl j a c:=⟨by have:=h1.le; have:=ae.le; omega,fun x ai aj=>by rw[ae.same x (by have:=h1.le; omega) aj]; exact h1.same x ai aj⟩
def I3 (g:FuncId) (cap:List ad) (j:Nat) (eL:ap) (xs:List bj) (p:bj->Bool) :Prop:=
 ∀ x∈xs,∀ l,rl j eL l->∀ K:ad->ap->Prop,(∀ l',l.length<=l'.length->(∀ b,b<l.length->l'[b]? = l[b]?)->K (.bool (p x)) l')->dr Tryz.prog GS g ([]++[.aI (bF x)]++cap) l (c:=⟨K⟩)
structure XR (eL:ap) (v:ad) (g:FuncId) (cap:List ad) (xs:List bj) (p:bj->Bool) (k:Nat) (af:bi) (l:ap) :Prop where
 cg:af 0=v
 aL:af 1=.fn g [] cap
 dh:af 7=.int .i64 xs.length
 de:af 8=.int .i64 k
 ak:∀ (j:Nat) (z:bj),j<k->xs[j]? = some z->p z=false
 le:eL.length<=l.length
 same:∀ b,b<eL.length->l[b]? = eL[b]?
theorem ae1 {g:FuncId} {cap:List ad} {j:Nat} {l:ap} {v:ad} {xs:List bj} {p:bj->Bool} (ar:iv Tryz.prog g=true) (aq:bB 33 l v j (xs.map bF)) (av:gW xs) (aF:xs.length<=1000000) (aC:I3 g cap j l xs p)
  {K:ad->ap->Prop} (bl:∀ n l',(n=-1/\(∀ z∈xs,p z=false)\/∃ k:Nat,n=(k:Int)/\k<xs.length/\(∀ (i:Nat) (z:bj),i<k->xs[i]? = some z->p z=false)/\∀ y,xs[k]? = some y->p y=true)->l.length<=l'.length->(∀ b,b<l.length->l'[b]? = l[b]?)->K (.int .i64 n) l') :
  dr Tryz.prog GS 209 [v,.fn g [] cap] l (c:=⟨K⟩) :=by
 apply bm Tryz.func209 [];have bn:=aq.len;rw[asi] at bn;simp[bn];refine cw xs.length (XR l v g cap xs p) ?_ ⟨by simp,by simp,by simp,by simp,fun j z h=>by omega,ar0 _,fun _ _=>rfl⟩;rintro k af l1 hk ⟨cg,aL,dh,de,ak,dT,gD⟩;obtain⟨af,rfl⟩:=jh cg aL dh de;clear cg aL dh de;simp;refine g8 (fun h=>?_) (fun h=>?_)
 ·simp only[decide_eq_true_eq] at h;obtain⟨y,ay,ch⟩:=bu (l:=xs) (k:=k) (by omega);have aR:IntKind.i64.wrap ((k:Int)+1)=((k+1:Nat) :Int) :=by rw[IntKind.wrap_i64]; omega
  have LD:bB 33 l1 v j (xs.map bF) :=aq.frame fun aj=>gD j aj
  obtain⟨q,cs,o,aX,bg,a3,a4⟩:=LD.q.get (k:=.i64) (i:=k) (e:=bF y) (by rw[ar5,ay]; rfl);simp[aX,bg,a3,a4];refine⟨ar,?_⟩;have:=aC y ch l1 ⟨dT,fun b ag _=>gD b ag⟩;simp at this;refine this _ fun bQ h1 ae=>?_
  cases aU:p y with
  | true=>
   simp;refine bl _ _ (.inr ⟨k,rfl,h,fun i z ax av=>ak i z ax av,fun w hw=>?_⟩) (by omega) (fun b ag=>by rw[ae b (by omega)]; exact gD b ag);rw[ay] at hw; obtain rfl:=Option.some.inj hw; exact aU
  | false=>
   simp[aR];refine⟨by omega,by simp,by simp,by simp,by simp,fun i z ax av=>?_,by omega,fun b ag=>by rw[ae b (by omega)]; exact gD b ag⟩;by_cases lN:i=k
   ·rw[lN,ay] at av; obtain rfl:=Option.some.inj av; exact aU
   ·exact ak i z (by omega) av
 ·simp[h];have fR:k=xs.length:=by simp at h; omega
  refine bl _ _ (.inl ⟨rfl,fun z av=>?_⟩) dT gD;obtain⟨i,ax⟩:=ar6.1 av;exact ak i z (by rw[fR]; exact (arY.1 ax).1) ax
structure XL (eL:ap) (v:ad) (g:FuncId) (cap:List ad) (j:Nat) (xs:List bj) (p:bj->Bool) (k:Nat) (af:bi) (l:ap) :Prop where
 cg:af 0=v
 aL:af 1=.fn g [] cap
 bT:af 6=.int .i64 k
 ans:rl j eL l
 ex:∃ (q:Nat) (bh:List bj),af 5=.int .i64 (q:Int)/\bB 33 l v j (bh.map bF)/\bh.length=xs.length/\gW bh/\bh.take q=(xs.take k).filter (fun t=>!p t)/\q<k/\∀ t,k<=t->bh[t]? = xs[t]?
theorem QH {p:bj->Bool} {l:List bj} (h:∀ z∈l,p z=false) :l.filter (fun t=>!p t)=l:=by
 rw[List.filter_eq_self];intro a az; rw[h a az]; rfl
theorem aaU {p:bj->Bool} {l:List bj} {k:Nat} (h:∀ (i:Nat) (z:bj),i<k->l[i]? = some z->p z=false) :(l.take k).filter (fun t=>!p t)=l.take k:=by
 refine QH fun z av=>?_
 obtain⟨i,ax⟩:=ar6.1 av;have cY:=(arY.1 ax).1;rw[asc] at cY;rw[asf (by omega)] at ax;exact h i z (by omega) ax
theorem aaT {p:bj->Bool} {l:List bj} {k:Nat} {y:bj} (h:l[k]? = some y) :(l.take (k+1)).filter (fun t=>!p t)=(l.take k).filter (fun t=>!p t)++(if p y then [] else [y]) :=by
 rw[ash,h,atl];cases aC:p y<;>simp[aC]
set_option maxHeartbeats 1000000 in
theorem Qi {g:FuncId} {cap:List ad} {j:Nat} {l:ap} {v:ad} {xs:List bj} {p:bj->Bool} (ar:iv Tryz.prog g=true) (aq:bB 33 l v j (xs.map bF)) (av:gW xs) (aF:xs.length<=1000000) (aC:I3 g cap j l xs p)
  {K:ad->ap->Prop} (bl:∀ r l',bB 33 l' r j ((xs.filter fun t=>!p t).map bF)->rl j l l'->cx r=cx v->K r l') :
  dr Tryz.prog GS 153 [v,.fn g [] cap] l (c:=⟨K⟩) :=by
 apply bm Tryz.func153 [];have bn:=aq.len;rw[asi] at bn;simp;refine ae1 ar aq av aF aC fun n l1 acE dT gD=>?_
 rcases acE with ⟨rfl,fg⟩ | ⟨g7,rfl,rQ,dv,eB⟩
 ·simp;refine bl _ _ ?_ ⟨dT,fun b ag _=>gD b ag⟩ rfl;rw[QH fg];exact aq.frame fun aj=>gD j aj
 ·have bU:¬ ((g7:Int)=-1) :=by omega
  have aR:IntKind.i64.wrap ((g7:Int)+1)=((g7+1:Nat) :Int) :=by rw[IntKind.wrap_i64]; omega
  have LD:bB 33 l1 v j (xs.map bF) :=aq.frame fun aj=>gD j aj
  have aw:cx v=false:=by
   cases wH:cx v with
   | false=>rfl
   | true=>
    have:=jC.1 wH;subst this;have:=aq.q.qX;rw[ate] at this;rw[this] at rQ; simp at rQ
  simp[bU,aR];refine cw (xs.length - (g7+1)) (fun m=>XL l v g cap j xs p (g7+1+m)) ?_ ⟨by simp,by simp,by simp,⟨dT,fun b ag _=>gD b ag⟩,g7,xs,by simp,LD,rfl,av,?_,by omega,fun _ _=>rfl⟩
  ·rintro m af bQ hm ⟨cg,aL,bT,nt,q,bh,bf,bd,b4,uV,i9,uM,pB⟩;obtain⟨k,hk⟩:∃ k,k=g7+1+m:=⟨_,rfl⟩
   rw[show g7+1+(m+1)=k+1 by omega];rw[<-hk] at bT i9 uM pB;obtain⟨af,rfl⟩:=jh cg aL bf bT;clear cg aL bf bT;have Lv:=bd.len;rw[asi,b4] at Lv;by_cases aM:k<xs.length
   ·have jz:(k:Int)<(xs.length:Int) :=by omega
    obtain⟨y,ay,ch⟩:=bu (l:=xs) (k:=k) aM;have TE:=av y ch;have CZ:=iL TE;have hN:=zs CZ;have bE:IntKind.i64.wrap ((k:Int)+1)=((k+1:Nat) :Int) :=by rw[IntKind.wrap_i64]; omega
    have c4:IntKind.i64.wrap ((q:Int)+1)=((q+1:Nat) :Int) :=by rw[IntKind.wrap_i64]; omega
    have iR:bh[k]? = some y:=by rw[pB k (ar0 _)]; exact ay
    obtain⟨ahc,cs,o,aX,bg,a3,a4⟩:=bd.q.get (k:=.i64) (i:=k) (e:=bF y) (by rw[ar5,iR]; rfl);have ada:rl j l (bQ++[aY.cells 33 (bF y)]) :=⟨by have:=nt.le; simp; omega,fun b ag gK=>by rw[arZ (by have:=nt.le; omega)]; exact nt.same b ag gK⟩
    have hr:=aC y ch _ ada;have km:=aaT (p:=p) ay;have To:=fun (j6:ap) (h:bB 33 j6 v j (bh.map bF))=>zf (X:=.aI (bF y)) rfl h (fun t aJ=>iL (uV t aJ)) (k:=q) (x:=y) (by omega) CZ
    simp at hr;obtain⟨Y,dC⟩:∃ Y,Y=bF y:=⟨_,rfl⟩
    rw[<-dC] at CZ hN a4 hr To;simp[Lv,jz,aX,bg,a3,a4,CZ,hN,arX];refine⟨ar,?_⟩;refine hr _ fun j6 h1 ae=>?_
    have an7:bQ.length<j6.length:=by omega
    have Tn:∀ b,b<bQ.length->j6[b]? = bQ[b]?:=fun b ag=>by rw[ae b (by omega),arZ ag]
    have AX:bB 33 j6 v j (bh.map bF) :=bd.frame fun aj=>Tn j aj
    have acl:j6[bQ.length]? = some (.cells 33 Y) :=by rw[ae _ (by simp)]; simp
    have Lc:rl j l j6:=⟨by have:=nt.le; omega,fun b ag gK=>by rw[Tn b (by have:=nt.le; omega)]; exact nt.same b ag gK⟩
    cases aU:p y with
    | true=>
     rw[aU,if_pos rfl,asD] at km;simp[bE];refine⟨by omega,by simp,by simp,by simp,Lc,q,bh,by simp,AX,b4,uV,by rw[km]; exact i9,by omega,fun t aJ=>pB t (by omega)⟩
    | false=>
     rw[aU,if_neg (by simp)] at km;obtain⟨Nd,Bi,k0,h4,z3,z4,z5⟩:=To j6 AX;simp[acl,CZ,k0,h4,bE,c4,arX];refine⟨by omega,by simp,by simp,by simp,⟨by have:=Lc.le; omega,fun b ag gK=>by rw[z5 b gK]; exact Lc.same b ag gK⟩,q+1,bh.set q y,by simp,z3,by simp[b4],fun t aJ=>?_,?_,by omega,fun t aJ=>?_⟩
     ·rcases atf aJ with h | h
      ·exact uV _ h
      ·rw[h]; exact TE
     ·have Oy:(bh.take q).length=q:=by rw[asc]; omega
      rw[atw,if_pos (by omega),at4,Oy,arX (by omega),show q+1 - q=1 by omega,km,<-i9]; simp
     ·rw[ar7 (by omega)]; exact pB t (by omega)
   ·have jz:¬ (k:Int)<(xs.length:Int) :=by omega
    have cH:k=xs.length:=by omega
    obtain⟨v3,ew,r,k0,h4,z3,z4,z5,alt,OW⟩:=agZ (z:=33) (zr:=ad.str [] ::rep 32 (.int .u8 0)) rfl bd (k:=q) (by omega);simp[Lv,jz,k0,h4,z3];rw[cH,asx] at i9;rw[i9] at z4;exact bl _ _ z4 ⟨by have:=nt.le; omega,fun b ag gK=>by rw[OW b gK]; exact nt.same b ag gK⟩ (by rw[z5,aw])
  ·rw[ash,atl,aaU dv];obtain⟨y,ay,_⟩:=bu (l:=xs) (k:=g7) rQ;have:=eB y ay;rw[ay]; simp[this]
theorem Ev {a b c:List UInt8} (h1:e6 a b=true) (ae:e6 b c=true) :e6 a c=true:=
 (tM _ _).2 (List.lt_trans ((tM _ _).1 h1) ((tM _ _).1 ae))
theorem vi (a:List UInt8) :e6 a a=false:=by
 cases h:e6 a a with
 | false=>rfl
 | true=>exact absurd ((tM _ _).1 h) (avy _)
theorem sa {a b c:bj} (h1:eM a b=true) (ae:eM b c=true) :eM a c=true:=by
 unfold eM at *
 by_cases aR:a.key=b.key
 ·rw[if_pos aR] at h1;by_cases bE:b.key=c.key
  ·rw[if_pos bE] at ae;rw[if_pos (aR.trans bE)];simp only[decide_eq_true_eq] at *
   exact uk _ _ _ h1 ae
  ·rw[if_neg bE] at ae;rw[if_neg (fun h=>bE (aR.symm.trans h)),aR]; exact ae
 ·rw[if_neg aR] at h1;by_cases bE:b.key=c.key
  ·rw[if_neg (fun h=>aR (h.trans bE.symm)),<-bE]; exact h1
  ·rw[if_neg bE] at ae;have:=Ev h1 ae;rw[if_neg (fun h=>by rw[h,vi] at this; cases this)]; exact this
theorem za (a:bj) :eM a a=false:=by
 unfold eM;rw[if_pos rfl,pf]; rfl
theorem zb {a b:bj} (h1:eM a b=false) (ae:a≠b) :eM b a=true:=by
 unfold eM at *
 by_cases aR:a.key=b.key
 ·rw[if_pos aR] at h1;rw[if_pos aR.symm];have al:=qb a.id b.id;have aE:=Cr a.id b.id;simp only[decide_eq_false_iff_not,decide_eq_true_eq] at *
  have aU:cu a.id b.id≠0:=fun h=>ae (by
   have:=rs h;cases a; cases b; simp_all)
  omega
 ·rw[if_neg aR] at h1;rw[if_neg (fun h=>aR h.symm)];rw[tM];have al:¬ a.key<b.key:=fun h=>by rw[(tM _ _).2 h] at h1; cases h1
  by_cases h:b.key<a.key
  ·exact h
  ·exact absurd (avn (avv.1 h) (avv.1 al)) aR
theorem F1 {l:List bj} (h:lr l=0) :l.length<=60/\l8 l=true:=by
 unfold lr at h;split at h
 ·cases h
 ·split at h
  ·rename_i h1 ae; exact⟨by omega,ae⟩
  ·cases h
theorem Rt {l:List bj} (h:l8 l=true) {i:Nat} {a b:bj} (az:l[i]? = some a) (ag:l[i+1]? = some b) :eM a b=true:=by
 have h1:=(of_decide_eq_true h) (i+1) (arY.1 ag).1;unfold qk at h1;rw[atP,nD az,nD ag,ar3] at h1;simpa using h1.2
theorem F3 {l:List bj} (h:l8 l=true) :∀ {d i:Nat} {a b:bj},l[i]? = some a->l[i+d+1]? = some b->eM a b=true
 | 0,i,a,b,az,ag=>Rt h az ag
 | d+1,i,a,b,az,ag=>by
  obtain⟨c,ah,_⟩:=bu (l:=l) (k:=i+d+1) (by have:=(arY.1 ag).1; omega);exact sa (F3 h az ah) (Rt h ah ag)
theorem Rr {l:List bj} (h:l8 l=true) (x:bj) :Uq l x:=by
 intro i j a b iy az ag aM;by_cases ao:i=j
 ·subst ao; rw[az] at ag; cases ag; exact aM
 ·exact sa (F3 h (d:=j - i - 1) az (by rw[show i+(j - i - 1)+1=j by omega]; exact ag)) aM
def nL (s:eO) (x:bj) :eO × Int:=if rz s.l x then (none,14) else if s.l.length=60 then (none,18) else (some (gf s.l (jp s.l x) x),0)
def jK (o:bq) (b:dM) (t:bj) :Bool:=decide (t.key=o.act.key)&&decide (t.id∈b.l)
def Om (f:List bj->List bj) (s:eO) :eO:=match s with | none=>none | some l=>some (f l)
def gb (s:eO) (o:bq) (b:dM) :eO × Int:=
 if lr s.l=0 then (if fy o=0 then (if 60<b.l.length then (none,4) else
  (if o.act.kind=2#8 then nL s ⟨o.act.key,cQ o⟩ else if o.act.kind=3#8 then (Om (fun l=>l.filter fun t=>!jK o b t) s,0) else (s,0))) else (none,8)) else (none,lr s.l)
theorem QW:iv Tryz.prog 154=true:=by kernel_rfl
theorem ajH (o:bq) (b:dM) (ag:fo b) (eC:b.l.length<=1000000) {j bo bb:Nat} {l:ap} {xs:List bj} (av:gW xs) (h1:l[bo]? = some (.cells 11 (a1 o))) (ae:l[bb]? = some (.cells 1 [aN b])) (AI:bo≠j) (jZ:bb≠j) :
  I3 154 [.ptr bo 0 11,.ptr bb 0 1] j l xs (jK o b) :=by
 intro x ai l1 ar K bl;apply bm Tryz.func154 [];have c3:l1[bo]? = some (.cells 11 (a1 o)) :=by rw[ar.same _ (e7 h1) AI]; exact h1
 have gh:l1[bb]? = some (.cells 1 [aN b]) :=by rw[ar.same _ (e7 ae) jZ]; exact ae
 have gj:=e7 c3;have gk:=e7 gh;have fv:=cA (av x ai);have wu:=eb b;have eF:=eP x.id;have cZ:=ER b ag eC x.id (av x ai);have aL:∀ c:aY,(l1++[c])[bo]? = some (.cells 11 (a1 o)) :=fun c=>by rw[arZ gj]; exact c3
 have aT:∀ c:aY,(l1++[c])[bb]? = some (.cells 1 [aN b]) :=fun c=>by rw[arZ gk]; exact gh
 have us:=aL;simp[a1] at us;by_cases hk:x.key=o.act.key
 ·simp[bF,us,aT,hk,fv,arX];refine aW cZ (by simp[aZ,ad.closed,wu,eF]) ?_;simp;have:jK o b x=decide (x.id∈b.l) :=by unfold jK; rw[decide_eq_true hk,asM]
  rw[<-this];exact bl _ (by simp) fun b ag=>arZ ag
 ·simp[bF,us,hk];have:jK o b x=false:=by unfold jK; rw[decide_eq_false hk,asN]
  rw[<-this];exact bl _ (by simp) fun b ag=>arZ ag
theorem vY (o:bq) :((u o.act.kind:Int)=2)<->o.act.kind=2#8:=sn o.act.kind 2#8
theorem vZ (o:bq) :((u o.act.kind:Int)=3)<->o.act.kind=3#8:=sn o.act.kind 3#8
theorem Bb (o:bq) :(cQ o).length=32:=by
 unfold cQ; split
 ·exact vj _
 ·simp
set_option maxHeartbeats 1000000 in
theorem akK (s:eO) (o:bq) (b:dM) (ak:gW s.l) (db:s.l.length<=1000000) (aq:jO o) (ag:fo b) (eC:b.l.length<=1000000) :
  bx Tryz.prog GS 97 [.aI [dd s],.aI (a1 o),aN b] (.bJ [.aI [dd (gb s o b).1],.int .i64 (gb s o b).2]) :=by
 refine bH Tryz.checked.mixed bD ?_;apply bm Tryz.func97 [];have cb:=oz s;have b6:=k5 o;have wu:=eb b;have cO:=ak0 s ak db;have fv:=ON o aq;have cY:=Bb o;have ym:(aN b).cells=some [aN b] :=by cases b<;>rfl
 have Gw:cz (.au 32) (aN b)=some (.int .i64 b.l.length) :=by simp[aN]
 by_cases aB:lr s.l=0
 ·by_cases h1:fy o=0
  ·obtain⟨D,gc⟩:∃ D,D=(cQ o).map bA:=⟨_,rfl⟩
   have gU:D.length=32:=by rw[gc,asi,cY]
   have An:aZ D=true:=by rw[gc]; exact lD bA (fun _=>rfl) _
   have mo:bt (rep 32 (.int .u8 0)) 0 D=D:=ek (by rw[gU]; rfl);unfold fD at fv;rw[<-gc] at fv;simp[a1,ym];refine aW cO (by simp[aZ,ad.closed,cb]) ?_;simp[aB];refine aW fv (show aZ [ad.aI (a1 o)]=true by simp[aZ,ad.closed,b6]) ?_;simp[h1,gU,mo,Gw,arX];by_cases ae:60<b.l.length
   ·have gh:(60:Int)<(b.l.length:Int) :=by omega
    have az:gb s o b=(none,4) :=by unfold gb; rw[if_pos aB,if_pos h1,if_pos ae]
    rw[az];simp[gh];exact aK rfl rfl
   ·have gh:¬ (60:Int)<(b.l.length:Int) :=by omega
    simp[gh];have lM:=(F1 aB).2;obtain⟨x,ai⟩:∃ x:bj,x=⟨o.act.key,cQ o⟩:=⟨_,rfl⟩
    have iQ:x.id.length=32:=by rw[ai]; exact cY
    have wF:=Rr lM x;have b3:bF x=.str o.act.key::D:=by rw[ai,gc]; rfl
    have uD:=iL iQ;have fI:=k4 x;rw[b3] at uD;have wO:=zs uD;refine ZD s ak db (fun aF=>?_) (fun a yU=>?_)
    ·subst aF;by_cases bI:o.act.kind=2#8
     ·have kT:=(vY o).2 bI;have az:gb none o b=nL none x:=by unfold gb; rw[if_pos aB,if_pos h1,if_neg ae,if_pos bI,ai]
      have ia:=Wo none (by simp[gW]) (by simp) x iQ wF;have AB:jp (dg.l (none:eO)) x=0:=rfl;have oI:rz (dg.l (none:eO)) x=false:=rfl;have pn:nL none x=(some (gf [] 0 x),0) :=rfl;rw[AB,oI,b3] at ia;rw[az,pn];simp[kT,gU,mo,wO,arX];refine aW ia (by simp[aZ,ad.closed,An,dd,cL]) ?_;simp[gU,mo,wO,arX];refine afa (bv:=7) (x:=x) (by rw[b3]; rfl) ?_;simp;have e4:∀ l:ap,l[8]? = some (.cells 33 (bF x))->Rd l (.au 33 8 0 1 1 33) (dd (some (gf [] 0 x))) :=fun l h=>by
       have h1:=Nb (l:=l) (b:=8) (n:=1) (a:=[x]) (by intro t aJ; simp at aJ; subst aJ; exact iQ) rfl (by simpa using h);exact h1.q.lZ k4 (some [x]) rfl rfl
      exact oT (q4 (e4 _ (by simp))) (.same _ rfl)
     ·have kT:¬ (u o.act.kind:Int)=2:=fun h=>bI ((vY o).1 h)
      by_cases cS:o.act.kind=3#8
      ·have kU:=(vZ o).2 cS;have az:gb none o b=(none,0) :=by unfold gb; rw[if_pos aB,if_pos h1,if_neg ae,if_neg bI,if_pos cS]; rfl
       rw[az];simp[kT,kU];refine Qi (j:=100) (xs:=[]) (p:=jK o b) QW (.nil 100) (by simp[gW]) (by simp) (fun x ai=>by cases ai) fun r l' aA nt LB=>?_
       obtain rfl:=jC.1 LB;have Ej:l'[5]? = some (.cells 1 [.aV]) :=by rw[nt.same 5 (by simp) (by omega)]; rfl
       have hn:l'[3]? = some (.cells 1 [.aV]) :=by rw[nt.same 3 (by simp) (by omega)]; rfl
       have By:6<=l'.length:=by have:=nt.le; simpa using this
       have N2:(l'.set 5 (.cells 1 [.aV]))[5]? = some (.cells 1 [.aV]) :=ar9 (by omega);have oV:(l'.set 5 (.cells 1 [.aV]))[3]? = some (.cells 1 [.aV]) :=by rw[ar7 (by omega)]; exact hn
       have N1:((l'.set 5 (.cells 1 [.aV])).set 3 (.cells 1 [.aV]))[3]? = some (.cells 1 [.aV]) :=ar9 (by simp; omega);simp[Ej,N2,oV,N1];exact aK rfl rfl
      ·have kU:¬ (u o.act.kind:Int)=3:=fun h=>cS ((vZ o).1 h)
       have az:gb none o b=(none,0) :=by unfold gb; rw[if_pos aB,if_pos h1,if_neg ae,if_neg bI,if_neg cS]
       rw[az];simp[kT,kU];exact aK rfl rfl
    ·subst yU;obtain⟨n,aF⟩:∃ n,n=a.length:=⟨_,rfl⟩
     have rV:n<=1000000:=by rw[aF]; exact db
     rw[<-aF];have LF:∀ (l:ap) (b:Nat),l[b]? = some (.cells (n*33) (a.map bF).flatten)->bB 33 l (.au 33 b 0 n n (n*33)) b (a.map bF) :=fun l b h=>Nb ak aF.symm h
     have uP:cz (.au 33) (.au 33 5 0 n n (n*33))=some (.int .i64 n) :=rfl;by_cases bI:o.act.kind=2#8
     ·have kT:=(vY o).2 bI;have az:gb (some a) o b=nL (some a) x:=by unfold gb; rw[if_pos aB,if_pos h1,if_neg ae,if_pos bI,ai]
      have ia:=Wo (some a) ak db x iQ wF;rw[b3] at ia;rw[az];simp[kT,gU,mo,wO,arX];refine iW ia (.cons ((LF _ 5 (by rfl)).na k4 (some a) rfl rfl) (.cons (.same _ (by rw[b3] at fI; exact fI)) (.cons (.same _ rfl) .nil))) rfl ?_;cases oI:rz (dg.l (some a:eO)) x with
      | true=>
       have pn:nL (some a) x=(none,14) :=by unfold nL; rw[oI]; rfl
       rw[pn];simp;exact aK rfl rfl
      | false=>
       by_cases iM:n=60
       ·have pn:nL (some a) x=(none,18) :=by
         unfold nL; rw[oI,if_neg (by simp),if_pos (show (dg.l (some a)).length=60 by rw[<-iM,aF]; rfl)]
        rw[pn];have CR:(n:Int)=60:=by omega
        simp[iM];exact aK rfl rfl
       ·have pn:nL (some a) x=(some (gf a (jp a x) x),0) :=by
         unfold nL; rw[oI,if_neg (by simp),if_neg (show ¬ (dg.l (some a)).length=60 by rw[show (dg.l (some a)).length=n from aF.symm]; exact iM)]; rfl
        rw[pn];have CR:¬ (n:Int)=60:=by omega
        have qq:jp a x<=n:=by rw[aF]; unfold jp; exact (List.takeWhile_sublist _).length_le
        simp[uP,CR,gU,mo,wO,arX];refine afd (b:=5) (bv:=8) (a:=a) (x:=x) ak iQ aF.symm rfl (by rw[b3]; rfl) (by omega) qq rV ?_;simp;have e4:∀ l:ap,l[9]? = some (.cells ((n+1)*33) ((gf a (jp a x) x).map bF).flatten)->Rd l (.au 33 9 0 (n+1) (n+1) ((n+1)*33)) (dd (some (gf a (jp a x) x))) :=fun l h=>by
         have h1:=Nb (l:=l) (b:=9) (n:=n+1) (a:=gf a (jp a x) x) (DL ak iQ) (by rw[DK,aF]) h;exact h1.q.lZ k4 (some _) rfl rfl
        exact oT (q4 (e4 _ (by simp))) (.same _ rfl)
     ·have kT:¬ (u o.act.kind:Int)=2:=fun h=>bI ((vY o).1 h)
      by_cases cS:o.act.kind=3#8
      ·have kU:=(vZ o).2 cS;have az:gb (some a) o b=(some (a.filter fun t=>!jK o b t),0) :=by unfold gb; rw[if_pos aB,if_pos h1,if_neg ae,if_neg bI,if_pos cS]; rfl
       rw[az];simp[kT,kU];refine Qi (j:=5) (xs:=a) (p:=jK o b) QW (LF _ 5 (by rfl)) ak db (ajH o b ag eC (bo:=1) (bb:=2) ak rfl rfl (by omega) (by omega)) fun r l' aA nt LB=>?_
       have Du:=aA.cells;have By:l'[6]? = some (.cells 1 [.au 33 5 0 n n (n*33)]) :=by rw[nt.same 6 (by simp) (by omega)]; rfl
       have hn:l'[3]? = some (.cells 1 [.aV]) :=by rw[nt.same 3 (by simp) (by omega)]; rfl
       have Vw:7<=l'.length:=by have:=nt.le; simpa using this
       have N2:(l'.set 6 (.cells 1 [r]))[6]? = some (.cells 1 [r]) :=ar9 (by omega);have oV:(l'.set 6 (.cells 1 [r]))[3]? = some (.cells 1 [.aV]) :=by rw[ar7 (by omega)]; exact hn
       have N1:((l'.set 6 (.cells 1 [r])).set 3 (.cells 1 [r]))[3]? = some (.cells 1 [r]) :=ar9 (by simp; omega);simp[Du,By,N2,oV,N1,bt];have mm:bB 33 ((l'.set 6 (.cells 1 [r])).set 3 (.cells 1 [r])) r 5 ((a.filter fun t=>!jK o b t).map bF) :=aA.frame fun _=>by
        rw[ar7 (by omega),ar7 (by omega)]
       exact oT (q4 (mm.q.lZ k4 (some _) (by rw[LB]; rfl) rfl)) (.same _ rfl)
      ·have kU:¬ (u o.act.kind:Int)=3:=fun h=>cS ((vZ o).1 h)
       have az:gb (some a) o b=(some a,0) :=by unfold gb; rw[if_pos aB,if_pos h1,if_neg ae,if_neg bI,if_neg cS]
       rw[az];simp[kT,kU];exact oT (q4 ((LF _ 5 (by simp)).q.lZ k4 (some a) rfl rfl)) (.same _ rfl)
  ·have az:gb s o b=(none,8) :=by unfold gb; rw[if_pos aB,if_neg h1]
   rw[az];have uQ:bt (rep 32 (.int .u8 0)) 0 ((cQ o).map bA)=(cQ o).map bA:=ek (by rw[asi,cY]; rfl);simp[a1,ym];refine aW cO (by simp[aZ,ad.closed,cb]) ?_;simp[aB];refine aW fv (show aZ [ad.aI (a1 o)]=true by simp[aZ,ad.closed,b6]) ?_;simp[h1,fD,cY,uQ,Gw];exact aK rfl rfl
 ·have az:gb s o b=(none,lr s.l) :=by unfold gb; rw[if_neg aB]
  rw[az];simp[a1,ym];refine aW cO (by simp[aZ,ad.closed,cb]) ?_;simp[aB];exact aK rfl rfl
def m8 (l:List bj) (x:bj) :Nat->Nat
 | 0=>0
 | i+1=>if eM x (oX l i) then m8 l x i else i+1
theorem Ih (l:List bj) (x:bj) :∀ i,m8 l x i<=i
 | 0=>ar0 _
 | i+1=>by
  unfold m8;split
  ·have:=Ih l x i; omega
  ·exact ar0 _
def lX (l:List bj) (x:bj) :List bj:=gf l (m8 l x l.length) x
theorem ae4 {l:List bj} {i:Nat} {x:bj} (ax:i<=l.length) :(gf l i x)[i]? = some x:=by
 unfold gf;rw[ar8 (by rw[asc]; omega),asc,asR ax]; simp
theorem ae5 {l:List bj} {i k:Nat} {x:bj} (hk:k<i) (ax:i<=l.length) :(gf l i x)[k]? = l[k]?:=by
 unfold gf;rw[arZ (by rw[asc]; omega),asf hk]
theorem ae6 {l:List bj} {i:Nat} {x y:bj} (ay:l[i]? = some y) :((gf l (i+1) x).set (i+1) y).set i x=gf l i x:=by
 have ax:=(arY.1 ay).1;have h1:l.take (i+1)=l.take i++[y] :=by rw[ash,ay]; rfl
 have ae:l.drop i=y::l.drop (i+1) :=by rw[asS ax,(arY.1 ay).2]
 have am:(l.take i).length=i:=by rw[asc]; omega
 unfold gf;rw[h1,ae,ass];rw[asy _ _ (by omega),asy _ _ (by omega),am];simp
theorem UD {l l1:ap} {v:ad} {a:List bj} {fx:Bool} (h:cj 33 bF l l1 v a fx) {k:Nat} {y:bj} (ay:a[k]? = some y) :
  ∃ p cs o,cd (.au 33) v (.int .i64 (k:Int))=some p/\eZ l1 p=some (cs,o)/\o+33<=cs.length/\(cs.drop o).take 33=bF y:=by
 obtain⟨j,aq,_⟩:=h;exact aq.q.get (k:=.i64) (i:=k) (e:=bF y) (by rw[ar5,ay]; rfl)
theorem UE {l l1:ap} {v:ad} {a:List bj} {fx:Bool} (h:cj 33 bF l l1 v a fx) (av:gW a) {k:Nat} {y:bj} (hk:k<a.length) (ay:y.id.length=32) :
  ∃ p l',cd (.au 33) v (.int .i64 (k:Int))=some p/\kw 33 l1 p (.aI (bF y))=some l'/\cj 33 bF l l' v (a.set k y) fx:=by
 obtain⟨j,aq,ae,al,aE,aU⟩:=h;obtain⟨p,l',aX,bg,a3,a4,a5⟩:=zf (X:=.aI (bF y)) rfl aq (fun t aJ=>iL (av t aJ)) hk (iL ay);refine⟨p,l',aX,bg,j,a3,by omega,fun b ag=>?_,aE,aU⟩;rcases aE with aE | aE
 ·subst aE;have:=aq.q.qX;rw[ate] at this;rw[this] at hk; simp at hk
 ·rw[a5 b (by omega)]; exact al b ag
theorem ahl {l l1:ap} {v:ad} {a:List bj} {fx:Bool} (h:cj 33 bF l l1 v a fx) (x:bj) {b:Nat} (ag:l1[b]? = some (.cells 33 (bF x))) (ai:x.id.length=32) (dO:a.length<=1000000000) :
  ∃ a8 l',i1 l1 33 48 v (.au 33 b 0 1 1 33)=some (a8,l')/\cj 33 bF l l' a8 (a++[x]) false/\l1.length<=l'.length:=by
 have aA:cK=140737488355328:=rfl;have a2:=iL ai;obtain⟨a8,l',aL,aT,a7⟩:=h.app (by_:=48) (x:=.au 33 b 0 1 1 33) (xs:=[x]) (by simp[dA,ag,a2,arX]) (by simp[a2]) (by omega) (by omega) (by rw[aA]; simp; omega);exact⟨a8,l',aL,by simpa using aT,a7⟩
theorem ZR (l:ap) (s:eO) :dA l 33 (dd s)=some ((s.l.map bF).flatten,s.l.length) :=ul l 33 bF s
structure X8 (l:ap) (a:List bj) (x:bj) (m:Nat) (af:bi) (l1:ap) :Prop where
 ex:∃ (i:Nat) (v:ad),i=m/\i<=a.length/\af 5=v/\af 6=.int .i64 (i:Int)/\cj 33 bF l l1 v (gf a i x) false/\m8 a x i=m8 a x a.length
theorem VH (s:eO) (ak:gW s.l) (db:s.l.length<=1000000) (x:bj) (ai:x.id.length=32) :bx Tryz.prog GS 111 [dd s,.aI (bF x)] (dd (some (lX s.l x))) :=by
 refine bH Tryz.checked.mixed bD ?_;apply bm Tryz.func111 [[[0],[1],[3],[4],[2,4,3]]];have a2:=iL ai;have aA:cK=140737488355328:=rfl;obtain⟨X,b3⟩:∃ X,X=bF x:=⟨_,rfl⟩
 have hN:=zs (E:=X) (by rw[b3]; exact a2);have AQ:bB 33 [aY.cells 33 X,aY.cells 0 [],aY.cells 33 X] (.au 33 1 0 0 0 0) 1 [] :=.au 1 0 0 0 [] [] rfl rfl rfl (by simp) (ar0 _) (by omega) rfl;obtain⟨eh,tl,l1,aX,dx,cm,d1,aR,f1⟩:=zN AQ (by_:=48) (x:=dd s) (xs:=s.l.map bF) (by rw[asi]; exact ZR _ s) (fun e ao=>by obtain⟨y,ay,rfl⟩:=asr.1 ao; exact iL (ak y ay)) (by omega) (by omega) (by rw[aA]; simp; omega);simp at cm;have AI:tl=1\/3<=tl:=by
  rcases aR with h | ⟨_,h⟩ | h
  ·exact .inr h
  ·exact .inl h
  ·rw[h] at f1; cases f1
 have dK:l1[0]? = some (.cells 33 X) :=by rw[d1 0 (by simp) (.inr (by omega))]; rfl
 have dE:l1[2]? = some (.cells 33 X) :=by rw[d1 2 (by simp) (.inr (by omega))]; rfl
 have Cc:cj 33 bF [aY.cells 33 X] l1 eh s.l false:=⟨tl,by simpa using dx,by simp; omega,fun b ag=>by
  obtain rfl:b=0:=by simpa using ag
  rw[dK]; rfl,.inr (by simp; omega),f1⟩
 obtain⟨dz,bQ,bg,di,dk⟩:=ahl Cc x (b:=2) (by rw[<-b3]; exact dE) ai (by omega);rw[<-b3] at a2 ⊢;simp[a2,hN,arX,aX];refine dt.cy ?_;simp[dK,dE,a2,arX,bg];refine dt.cy ?_;have qB:=di.len;have c4:IntKind.i64.wrap ((s.l.length:Int)+1 - 1)=(s.l.length:Int) :=by rw[IntKind.wrap_i64]; omega
 have jr:IntKind.i64.wrap (s.l.length:Int)=(s.l.length:Int) :=by rw[IntKind.wrap_i64]; omega
 have aB:gf s.l s.l.length x=s.l++[x] :=by unfold gf; simp
 simp[qB,c4,jr];rw[<-aB] at di;refine r9 (X8 [aY.cells 33 X] s.l x) ?_ s.l.length _ _ ⟨s.l.length,dz,rfl,ar0 _,by simp,by simp,di,rfl⟩;rintro m af ew ⟨i,v,rfl,cY,bf,bT,c1,iN⟩;obtain⟨af,rfl⟩:=nE bf bT;clear bf bT;have iQ:(gf s.l i x)[i]? = some x:=ae4 cY;have rO:∀ (K:ad->ap->Prop),m8 s.l x i=i->gf s.l i x=lX s.l x:=fun K h=>by unfold lX; rw[<-iN,h]
 rcases i with _ | i
 ·simp;have:=rO (fun _ _=>True) rfl;rw[this] at c1;exact c1.rd k4 (some _) rfl rfl
 ·obtain⟨y,ay,ch⟩:=bu (l:=s.l) (k:=i) (by omega);have uU:(gf s.l (i+1) x)[i]? = some y:=by rw[ae5 (by omega) cY]; exact ay
  obtain⟨lV,cm,tw,gg,gI,pZ,kg⟩:=UD c1 iQ;obtain⟨sj,dk,gP,hp,ji,o1,o2⟩:=UD c1 uU;have bX:IntKind.i64.wrap ((i:Int)+1 - 1)=(i:Int) :=by rw[IntKind.wrap_i64]; omega
  have w2:IntKind.i64.wrap (i:Int)=(i:Int) :=by rw[IntKind.wrap_i64]; omega
  have h0:(0:Int)<(i:Int)+1:=by omega
  have dT:=Ud x y ai (ak y ch);have b4:=iL (ak y ch);have fI:=k4 x;have kq:=k4 y;have mj:m8 s.l x (i+1)=if eM x y then m8 s.l x i else i+1:=by
   show (if eM x (oX s.l i) then m8 s.l x i else i+1)=_;rw[nD ay]
  have av:=DL (i:=i+1) ak ai;have cZ:(gf s.l (i+1) x).length=s.l.length+1:=DK _ _ _;obtain⟨Ed,j6,jf,kx,Dn⟩:=UE c1 av (k:=i+1) (y:=y) (by omega) (ak y ch);have DF:gW ((gf s.l (i+1) x).set (i+1) y) :=fun t aJ=>by
   rcases atf aJ with h | h
   ·exact av t h
   ·rw[h]; exact ak y ch
  obtain⟨Nc,Bi,t1,t2,wI⟩:=UE Dn DF (k:=i) (y:=x) (by simp; omega) ai;rw[ae6 ay] at wI;rw[<-b3] at kg dT fI t2;obtain⟨Y,dC⟩:∃ Y,Y=bF y:=⟨_,rfl⟩
  rw[<-dC] at o2 dT b4 kq kx;simp at gg jf;rw[gg] at jf;obtain rfl:=Option.some.inj jf;rw[hp] at t1;obtain rfl:=Option.some.inj t1;simp[h0,gg,gI,pZ,kg,hp,ji,o1,o2,bX,w2];refine aW dT (by simp[aZ,ad.closed,fI,kq]) ?_;cases aU:eM x y with
  | true=>
   rw[aU,if_pos rfl] at mj;simp[gg,gI,pZ,kg,hp,ji,o1,o2,bX,w2,kx,t2];exact⟨i,by omega,i,v,rfl,by omega,by simp,by simp,wI,by rw[<-mj]; exact iN⟩
  | false=>
   rw[aU,if_neg (by simp)] at mj;simp;have:=rO (fun _ _=>True) mj;rw[this] at c1;exact c1.rd k4 (some _) rfl rfl
def rp (s:eO) (x:bj) :eO × Int:=if x∈s.l then (none,14) else if s.l.length=60 then (none,18) else (some (lX s.l x),0)
def jE (o:bq) (b:dM) (t:bj) :Bool:=decide (¬ o.act.kind=3#8)||(decide (¬ t.key=o.act.key)||!decide (t.id∈b.l))
def zu (l:List bj) :eO:=match l with | []=>none | a::r=>some (a::r)
theorem BK (l:List bj) :(zu l).l=l:=by cases l<;>rfl
theorem WN (l:List bj) :(zu l).isNone=l.isEmpty:=by cases l<;>rfl
def io (s:eO) (o:bq) (b:dM) :eO × Int:=
 if lr s.l=0 then (if fy o=0 then (if 60<b.l.length then (none,4) else
  (if o.act.kind=2#8 then rp s ⟨o.act.key,cQ o⟩ else (zu (s.l.filter (jE o b)),0))) else (none,8)) else (none,lr s.l)
structure XA (s:eO) (x:bj) (L:ap) (k:Nat) (af:bi) (l:ap) :Prop where
 am:l=L
 a7:af 3=.ptr 0 0 1
 bT:af 6=.ptr 2 0 1
 de:af 8=.ptr 3 0 33
 fP:af 9=.int .i64 k
 ak:∀ (j:Nat) (t:bj),j<k->s.l[j]? = some t->t≠x
structure Jd (s:eO) (o:bq) (b:dM) (k:Nat) (l:ap) :Prop where
 ex:∃ v j,l[3]? = some (.cells 1 [v])/\bB 33 l v j (((s.l.take k).filter (jE o b)).map bF)/\(v=.aV\/4<=j)/\cx v=((s.l.take k).filter (jE o b)).isEmpty
 len:4<=l.length
 fh:l[0]? = some (.cells 1 [dd s])
 lV:l[1]? = some (.cells 11 (a1 o))
 sj:l[2]? = some (.cells 1 [.aV])
structure Yd (s:eO) (o:bq) (b:dM) (k:Nat) (af:bi) (l:ap) :Prop where
 aT:af 2=aN b
 a7:af 3=.ptr 0 0 1
 bp:af 4=.ptr 1 0 11
 bT:af 6=.ptr 2 0 1
 ft:af 10=.ptr 3 0 1
 hJ:af 11=.int .i64 k
 h:Jd s o b k l
theorem afC {p:bj->Bool} {l:List bj} {k:Nat} {y:bj} (h:l[k]? = some y) :(l.take (k+1)).filter p=(l.take k).filter p++(if p y then [y] else []) :=by
 rw[ash,h,atl];cases aC:p y<;>simp[aC]
theorem UN (o:bq) :a1 o=[bC o.hq,aN o.br,cU o.cl,bA o.act.kind,.str o.act.key,bA o.act.val.kind,.int .i64 o.act.val.num,cU o.act.val.bits,.str o.act.val.text,bC o.e,bC o.s] :=rfl
set_option maxHeartbeats 1000000 in
theorem ahv (s:eO) (o:bq) (b:dM) (ak:gW s.l) (db:s.l.length<=1000000) (aq:jO o) (ag:fo b) (eC:b.l.length<=1000000) :
  bx Tryz.prog GS 100 [.aI [dd s],.aI (a1 o),aN b] (.bJ [.aI [dd (io s o b).1],.int .i64 (io s o b).2]) :=by
 refine bH Tryz.checked.mixed bD ?_;apply bm Tryz.func100 [[[0],[1],[2],[3],[6],[4,6,2],[5]]];have cb:=oz s;have b6:=k5 o;have wu:=eb b;have cO:=ahY s ak db;have AN:=Nx o aq;have cY:=Bb o;have Gw:cz (.au 32) (aN b)=some (.int .i64 b.l.length) :=by simp[aN]
 have uP:cz (.au 33) (dd s)=some (.int .i64 s.l.length) :=by simp[dd]
 have rL:aZ [ad.aI (a1 o)]=true:=by simp[aZ,ad.closed,b6]
 by_cases aB:lr s.l=0
 ·by_cases h1:fy o=0
  ·simp[a1];refine aW cO (by simp[aZ,ad.closed,cb]) ?_;simp[aB];refine aW AN rL ?_;simp[h1,Gw];by_cases ae:60<b.l.length
   ·have gh:(60:Int)<(b.l.length:Int) :=by omega
    have az:io s o b=(none,4) :=by unfold io; rw[if_pos aB,if_pos h1,if_pos ae]
    rw[az];simp[gh];exact aK rfl rfl
   ·have gh:¬ (60:Int)<(b.l.length:Int) :=by omega
    simp[gh];have lM:=(F1 aB).2;by_cases bI:o.act.kind=2#8
    ·have kT:=(vY o).2 bI;obtain⟨x,ai⟩:∃ x:bj,x=⟨o.act.key,cQ o⟩:=⟨_,rfl⟩
     have az:io s o b=rp s x:=by unfold io; rw[if_pos aB,if_pos h1,if_neg ae,if_pos bI,ai]
     rw[az];have iQ:x.id.length=32:=by rw[ai]; exact cY
     have la:=Nw o aq (by have:=xc h1; omega);have Lf:cQ o=iH (ii o) :=by unfold cQ; rw[if_pos h1]
     rw[<-Lf] at la;obtain⟨D,gc⟩:∃ D,D=(cQ o).map bA:=⟨_,rfl⟩
     have gU:D.length=32:=by rw[gc,asi,cY]
     unfold fD at la;rw[<-gc] at la;have b3:bF x=.str o.act.key::D:=by rw[ai,gc]; rfl
     have wO:=zs (E:=.str o.act.key::D) (by simp[gU]);simp[kT];refine aW la rL ?_;have mo:bt (rep 32 (.int .u8 0)) 0 D=D:=ek (by rw[gU]; rfl);simp[gU,mo,wO,arX];rw[<-UN o,<-b3];obtain⟨L,dS⟩:∃ L,L=[aY.cells 1 [dd s],aY.cells 11 (a1 o),aY.cells 1 [.aV],aY.cells 33 (bF x)] :=⟨_,rfl⟩
     rw[<-dS];have dK:L[0]? = some (.cells 1 [dd s]) :=by rw[dS]; rfl
     have dE:L[2]? = some (.cells 1 [.aV]) :=by rw[dS]; rfl
     have hn:L[3]? = some (.cells 33 (bF x)) :=by rw[dS]; rfl
     have mR:L.length=4:=by rw[dS]; rfl
     have qM:∀ c:aY,(L.set 2 c)[2]? = some c:=fun c=>ar9 (by omega)
     have uD:=iL iQ;have iB:=VH s ak db x iQ;have fI:=k4 x;obtain⟨X,Au⟩:∃ X,X=bF x:=⟨_,rfl⟩
     have heq:∀ y∈s.l,gq Tryz.prog .eql 53 (.aI (bF y)) (.aI X)=some (.bool (decide (y=x))) :=fun y ay=>by rw[Au]; exact ajP (ak y ay) iQ
     rw[<-Au] at hn uD iB fI;refine cw s.l.length (XA s x L) ?_ ⟨rfl,by simp,by simp,by simp,by simp,fun j t h=>by omega⟩;rintro k af l hk ⟨rfl,a7,bT,de,fP,oO⟩;obtain⟨af,rfl⟩:=jh a7 bT de fP;clear a7 bT de fP;simp[dK,uP];refine g8 (fun h=>?_) (fun h=>?_)
     ·simp only[decide_eq_true_eq] at h;obtain⟨y,ay,ch⟩:=bu (l:=s.l) (k:=k) (by omega);have aR:IntKind.i64.wrap ((k:Int)+1)=((k+1:Nat) :Int) :=by rw[IntKind.wrap_i64]; omega
      have bG:cd (.au 33) (dd s) (.int .i64 (k:Int))=some (.b0 (bF y) 0) :=by simp[dd,ay]
      have b4:=iL (ak y ch);have Sf:=heq y ch;obtain⟨Y,dC⟩:∃ Y,Y=bF y:=⟨_,rfl⟩
      rw[<-dC] at bG b4 Sf;simp[dK,bG,b4,hn,uD,Sf,arX];by_cases ao:y=x
      ·have pn:rp s x=(none,14) :=by unfold rp; rw[if_pos (by rw[<-ao]; exact ch)]
       rw[pn];simp[ao,dE,qM];exact aK rfl rfl
      ·simp[ao,aR];refine⟨by omega,rfl,by simp,by simp,by simp,by simp,fun j z aj av=>?_⟩;by_cases fB:j=k
       ·rw[fB,ay] at av; obtain rfl:=Option.some.inj av; exact ao
       ·exact oO j z (by omega) av
     ·have fR:k=s.l.length:=by simp at h; omega
      have Dl:¬ x∈s.l:=fun hm=>by
       obtain⟨j,aj⟩:=ar6.1 hm;exact oO j x (by rw[fR]; exact (arY.1 aj).1) aj rfl
      by_cases iM:s.l.length=60
      ·have pn:rp s x=(none,18) :=by unfold rp; rw[if_neg Dl,if_pos iM]
       rw[pn];have CR:(s.l.length:Int)=60:=by omega
       simp[h,dK,uP,iM,dE,qM];exact aK rfl rfl
      ·have pn:rp s x=(some (lX s.l x),0) :=by unfold rp; rw[if_neg Dl,if_neg iM]
       rw[pn];have CR:¬ (s.l.length:Int)=60:=by omega
       have LL:=oz (some (lX s.l x));simp[h,dK,uP,iM,CR,hn,uD,arX];refine aW iB (by simp[aZ,ad.closed,cb,fI]) ?_;have acF:(dd (some (lX s.l x))).cells=some [dd (some (lX s.l x))] :=rfl;simp[acF,dE,qM,bt];exact aK rfl (by simp[ad.closed,aZ,LL])
    ·have kT:¬ (u o.act.kind:Int)=2:=fun h=>bI ((vY o).1 h)
     have az:io s o b=(zu (s.l.filter (jE o b)),0) :=by unfold io; rw[if_pos aB,if_pos h1,if_neg ae,if_neg bI]
     rw[az];simp[kT];rw[<-UN o];refine cw s.l.length (Yd s o b) ?_ ⟨by simp,by simp,by simp,by simp,by simp,by simp,⟨⟨.aV,0,rfl,.nil 0,.inl rfl,rfl⟩,by simp,rfl,rfl,rfl⟩⟩;rintro k af l hk ⟨aT,a7,bp,bT,ft,hJ,⟨⟨v,j,hn,e4,j1,wP⟩,bn,dK,q1,dE⟩⟩;obtain⟨af,rfl⟩:=vp aT a7 bp bT ft hJ;clear aT a7 bp bT ft hJ;simp[dK,uP];refine g8 (fun h=>?_) (fun h=>?_)
     ·simp only[decide_eq_true_eq] at h;obtain⟨y,ay,ch⟩:=bu (l:=s.l) (k:=k) (by omega);have aR:IntKind.i64.wrap ((k:Int)+1)=((k+1:Nat) :Int) :=by rw[IntKind.wrap_i64]; omega
      have bG:cd (.au 33) (dd s) (.int .i64 (k:Int))=some (.b0 (bF y) 0) :=by simp[dd,ay]
      have b4:=iL (ak y ch);have mY:=afC (p:=jE o b) ay;have cZ:=zl b ag eC y.id (ak y ch);have Hm:=eP y.id;obtain⟨E,ff⟩:∃ E,E=aQ y.id:=⟨_,rfl⟩
      have sY:bF y=.str y.key::E:=by rw[ff]; rfl
      have l9:E.length=32:=by rw[ff]; exact cA (ak y ch)
      have hN:=zs (E:=.str y.key::E) (by simp[l9]);have LX:bt (rep 32 (.int .u8 0)) 0 E=E:=ek (by rw[l9]; rfl);rw[<-ff] at cZ Hm;rw[sY] at bG;obtain⟨bQ,gk⟩:∃ bQ,bQ=l++[aY.cells 33 (.str y.key::E)] :=⟨_,rfl⟩
      have f0:bQ[0]? = some (.cells 1 [dd s]) :=by rw[gk,arZ (by omega)]; exact dK
      have f1:bQ[1]? = some (.cells 11 (a1 o)) :=by rw[gk,arZ (by omega)]; exact q1
      have f2:bQ[2]? = some (.cells 1 [.aV]) :=by rw[gk,arZ (by omega)]; exact dE
      have f3:bQ[3]? = some (.cells 1 [v]) :=by rw[gk,arZ (by omega)]; exact hn
      have f4:bQ[l.length]? = some (.cells 33 (.str y.key::E)) :=by rw[gk]; simp
      have f5:4<=bQ.length:=by rw[gk]; simp; omega
      have G2:bB 33 bQ v j (((s.l.take k).filter (jE o b)).map bF) :=by rw[gk]; exact e4.more _
      have FJ:=f1;simp[a1] at FJ;have aA:cK=140737488355328:=rfl;have eo:((s.l.take k).filter (jE o b)).length<=1000000:=by
       have:=atc (jE o b) (s.l.take k);rw[asc] at this; omega
      obtain⟨a8,bK,ew,aX,dx,cm,d1,JW,aaF⟩:=zN (G2.more [aY.cells 33 (.str y.key::E)]) (by_:=48) (x:=.au 33 bQ.length 0 1 1 33) (xs:=[bF y]) (by simp[dA,sY,l9,arX]) (by simp[b4]) (by omega) (by omega) (by rw[aA]; simp; omega);simp at cm;have iC:=e4.cells;have aL:∀ b,b<4->ew[b]? = bQ[b]?:=fun b ag=>by
       rw[d1 b (by simp; omega) (j1.imp id (fun h=>by omega)),arZ (by omega)]
      have L5:=dx.cells;have ep:a8=.aV\/4<=bK:=by
       rcases JW with h | ⟨h,h'⟩ | h
       ·exact .inr (by simp at h; omega)
       ·rcases j1 with ae | ae
        ·exact absurd ae h
        ·exact .inr (by omega)
       ·exact .inl h
      have kR:∀ c:aY,(ew.set 3 c)[3]? = some c:=fun c=>ar9 (by omega)
      have Df:jE o b y=true->Jd s o b (k+1) (ew.set 3 (.cells 1 [a8])) :=fun rS=>by
       rw[rS,if_pos rfl] at mY;refine⟨⟨a8,bK,kR _,?_,ep,?_⟩,by simp; omega,?_,?_,?_⟩
       ·rw[mY,asv];refine dx.nT (ep.imp id fun h=>by rw[ar7 (by omega)])
       ·rw[aaF,wP,mY]; simp
       ·rw[ar7 (by omega),aL 0 (by omega)]; exact f0
       ·rw[ar7 (by omega),aL 1 (by omega)]; exact f1
       ·rw[ar7 (by omega),aL 2 (by omega)]; exact f2
      simp[dK,bG,l9,hN,arX];rw[<-gk];have AY:jE o b y=false->Jd s o b (k+1) bQ:=fun rS=>by
       rw[rS,if_neg (by simp),asD] at mY;exact⟨⟨v,j,f3,by rw[mY]; exact G2,j1,by rw[mY]; exact wP⟩,f5,f0,f1,f2⟩
      by_cases cS:o.act.kind=3#8
      ·have kU:=(vZ o).2 cS;by_cases mg:y.key=o.act.key
       ·simp[FJ,kU,f4,mg,l9,arX];refine aW cZ (by simp[aZ,ad.closed,wu,Hm]) ?_;by_cases kO:y.id∈b.l
        ·have rS:jE o b y=false:=by unfold jE; simp[mg,cS,kO]
         have xJ:=AY rS;simp[kO,aR];exact⟨by omega,by simp,by simp,by simp,by simp,by simp,by simp,xJ⟩
        ·have rS:jE o b y=true:=by unfold jE; simp[kO]
         have xJ:=Df rS;simp[kO,f3,f4,l9,iC,LX,arX,aX];refine dt.cy ?_;have ku:ew[3]? = some (.cells 1 [v]) :=by rw[aL 3 (by omega)]; exact f3
         simp[L5,ku,bt,aR];exact⟨by omega,by simp,by simp,by simp,by simp,by simp,by simp,xJ⟩
       ·have rS:jE o b y=true:=by unfold jE; simp[mg]
        have xJ:=Df rS;simp[FJ,kU,f4,mg,f3,l9,iC,LX,arX,aX];refine dt.cy ?_;have ku:ew[3]? = some (.cells 1 [v]) :=by rw[aL 3 (by omega)]; exact f3
        simp[L5,ku,bt,aR];exact⟨by omega,by simp,by simp,by simp,by simp,by simp,by simp,xJ⟩
      ·have kU:¬ (u o.act.kind:Int)=3:=fun h=>cS ((vZ o).1 h)
       have rS:jE o b y=true:=by unfold jE; simp[cS]
       simp[FJ,kU,f3,f4,l9,iC,LX,arX,aX];refine dt.cy ?_;have xJ:=Df rS;have ku:ew[3]? = some (.cells 1 [v]) :=by rw[aL 3 (by omega)]; exact f3
       simp[L5,ku,bt,aR];exact⟨by omega,by simp,by simp,by simp,by simp,by simp,by simp,xJ⟩
     ·simp[h];have fR:k=s.l.length:=by simp at h; omega
      rw[fR,asx] at e4 wP;have kR:∀ c:aY,(l.set 2 c)[2]? = some c:=fun c=>ar9 (by omega)
      have G2:∀ c:aY,bB 33 (l.set 2 c) v j ((s.l.filter (jE o b)).map bF) :=fun c=>e4.nT (j1.imp id fun h=>by rw[ar7 (by omega)])
      simp[hn,dE,kR];exact oT (q4 ((G2 _).q.lZ k4 (zu (s.l.filter (jE o b))) (by rw[wP,WN]) (BK _))) (.same _ rfl)
  ·have az:io s o b=(none,8) :=by unfold io; rw[if_pos aB,if_neg h1]
   rw[az];simp[a1];refine aW cO (by simp[aZ,ad.closed,cb]) ?_;simp[aB];refine aW AN rL ?_;simp[h1];exact aK rfl rfl
 ·have az:io s o b=(none,lr s.l) :=by unfold io; rw[if_neg aB]
  rw[az];simp[a1];refine aW cO (by simp[aZ,ad.closed,cb]) ?_;simp[aB];refine aW cO (by simp[aZ,ad.closed,cb]) ?_;simp;exact aK rfl rfl
theorem Nn (l:List bj) (x:bj) :∀ (n i:Nat),m8 l x n<=i->i<n->eM x (oX l i)=true
 | 0,i,_,h=>by omega
 | n+1,i,h1,ae=>by
  unfold m8 at h1;split at h1
  ·rename_i h;by_cases ax:i=n
   ·rw[ax]; exact h
   ·exact Nn l x n i h1 (by omega)
  ·omega
theorem Vf (l:List bj) (x:bj) :∀ (n i:Nat),m8 l x n=i+1->eM x (oX l i)=false
 | 0,i,h=>by cases h
 | n+1,i,h1=>by
  unfold m8 at h1;split at h1
  ·exact Vf l x n i h1
  ·rename_i h;obtain rfl:n=i:=by omega
   exact au9.2 h
theorem No {l:List bj} {x:bj} (ar:l8 l=true) (ai:x∉l) :m8 l x l.length=jp l x:=by
 refine (Fs x (Ih l x l.length) (fun t y aJ ay=>?_) (fun y ay=>?_)).symm
 ·obtain⟨i,ax⟩:∃ i,m8 l x l.length=i+1:=⟨m8 l x l.length - 1,by omega⟩
  have dT:=Ih l x l.length;obtain⟨z,av,tf⟩:=bu (l:=l) (k:=i) (by omega);have h1:=Vf l x l.length i ax;rw[nD av] at h1;have ae:=zb h1 (fun h=>ai (by rw[h]; exact tf));exact Rr ar x t i y z (by omega) ay av ae
 ·have aM:=(arY.1 ay).1;have h1:=Nn l x l.length _ (ar0 _) aM;rw[nD ay] at h1;cases ae:eM y x with
  | false=>rfl
  | true=>have:=sa h1 ae; rw[za] at this; cases this
theorem Q1 {l:List bj} {x:bj} (ar:l8 l=true) :rz l x=true<->x∈l:=by
 unfold rz;rw[ar3,decide_eq_true_eq,decide_eq_true_eq];constructor
 ·rintro⟨h1,ae⟩;obtain⟨z,av,tf⟩:=bu (l:=l) (k:=jp l x) h1;rw[nD av] at ae;rw[<-ae]; exact tf
 ·intro hm;obtain⟨j,aj⟩:=ar6.1 hm;have aM:=(arY.1 aj).1;have ah:=Fs x (l:=l) (p:=j) (by omega) (fun t y aJ ay=>F3 ar (d:=j - t - 1) ay (by rw[show t+(j - t - 1)+1=j by omega]; exact aj)) (fun y ay=>by
   rw[aj] at ay; obtain rfl:=Option.some.inj ay; exact za _)
  rw[ah];exact⟨aM,nD aj⟩
theorem Yq (s:eO) (x:bj) (ar:l8 s.l=true) :(nL s x).1.l=(rp s x).1.l/\(nL s x).2=(rp s x).2:=by
 unfold nL rp;have aD:=Q1 (x:=x) ar;by_cases hm:x∈s.l
 ·rw[aD.2 hm,if_pos rfl,if_pos hm]; exact⟨rfl,rfl⟩
 ·have ac1:rz s.l x=false:=by
   cases h:rz s.l x with
   | false=>rfl
   | true=>exact absurd (aD.1 h) hm
  rw[ac1,if_neg (by simp),if_neg hm];split
  ·exact⟨rfl,rfl⟩
  ·refine⟨?_,rfl⟩;show gf s.l (jp s.l x) x=lX s.l x;unfold lX;rw[No ar hm]
theorem Jm (s:eO) (o:bq) (b:dM) :(gb s o b).1.l=(io s o b).1.l/\(gb s o b).2=(io s o b).2:=by
 unfold gb io;by_cases aB:lr s.l=0
 ·rw[if_pos aB,if_pos aB];have ar:=(F1 aB).2;by_cases h1:fy o=0
  ·rw[if_pos h1,if_pos h1];by_cases ae:60<b.l.length
   ·rw[if_pos ae,if_pos ae]; exact⟨rfl,rfl⟩
   ·rw[if_neg ae,if_neg ae];by_cases bI:o.act.kind=2#8
    ·rw[if_pos bI,if_pos bI]; exact Yq s _ ar
    ·rw[if_neg bI,if_neg bI];by_cases cS:o.act.kind=3#8
     ·rw[if_pos cS];refine⟨?_,rfl⟩;have mY:∀ t,jE o b t=!jK o b t:=fun t=>by
       unfold jE jK;by_cases aR:t.key=o.act.key<;>by_cases bE:t.id∈b.l<;>simp[cS,aR,bE]
      rw[BK];show (Om (fun l=>l.filter fun t=>!jK o b t) s).l=_;cases s with
      | none=>rfl
      | some a=>
       show a.filter (fun t=>!jK o b t)=a.filter (jE o b);congr 1;funext t; exact (mY t).symm
     ·rw[if_neg cS];refine⟨?_,rfl⟩;rw[BK];show s.l=_;rw[List.filter_eq_self.2];intro t _;unfold jE; simp[cS]
  ·rw[if_neg h1,if_neg h1]; exact⟨rfl,rfl⟩
 ·rw[if_neg aB,if_neg aB]; exact⟨rfl,rfl⟩
end Op

end Go.cf

namespace Go.cf
open Go Go.Proofs Go.RowKit
set_option maxRecDepth 100000
namespace Op
open gZ
theorem YC (s:eO) (o:bq) (b:dM) (ak:gW s.l) (am:s.l.length<=1000000) :gW (gb s o b).1.l/\(gb s o b).1.l.length<=1000000:=by
 have aB:gW (dg.l (none:eO))/\(dg.l (none:eO)).length<=1000000:=⟨fun t aJ=>(by cases aJ),by simp⟩
 unfold gb;split
 ·rename_i aJ;have iM:=(F1 aJ).1;split
  ·split
   ·exact aB
   ·split
    ·unfold nL;split
     ·exact aB
     ·split
      ·exact aB
      ·refine⟨DL ak (Bb o),?_⟩;show (gf s.l _ _).length<=_;rw[DK]; omega
    ·split
     ·cases s with
      | none=>exact aB
      | some a=>
       refine⟨fun t aJ=>ak t (as6.1 aJ).1,?_⟩;have:=atc (fun t=>!jK o b t) a;exact ati this am
     ·exact⟨ak,am⟩
  ·exact aB
 ·exact aB
theorem CO (l:List bj) :l8 l=true<->(∀ t∈l,gN t.key=true)/\l.Pairwise fun a b=>eM a b=true:=by
 constructor
 ·intro h;refine⟨fun t aJ=>?_,atk.2 fun i j ax aj iy=>?_⟩
  ·obtain⟨k,hk⟩:=ar6.1 aJ;have h1:=(of_decide_eq_true h) k (arY.1 hk).1;unfold qk at h1;rw[nD hk,ar3] at h1;exact h1.1
  ·exact F3 h (d:=j - i - 1) (ar1 ax) (by rw[show i+(j - i - 1)+1=j by omega]; exact ar1 aj)
 ·rintro⟨h1,ae⟩;refine Kr fun k hk=>?_
  unfold qk;have ay:=ar1 hk;rw[nD ay,h1 _ (auI hk),asM];by_cases rQ:k=0
  ·simp[rQ]
  ·have ai:=ar1 (l:=l) (i:=k - 1) (by omega);rw[nD ai,(atk.1 ae) (k - 1) k (by omega) hk (by omega)]; simp
theorem Rq {l:List bj} {x:bj} (ar:l8 l=true) (ai:x∉l) (hk:gN x.key=true) :l8 (gf l (jp l x) x)=true:=by
 obtain⟨h1,ae⟩:=(CO l).1 ar;have aC:=No ar ai;have dT:=Ih l x l.length;refine (CO _).2 ⟨fun t aJ=>?_,?_⟩
 ·unfold gf at aJ;rcases asu.1 aJ with h | h
  ·exact h1 t (asz h)
  ·rcases as0.1 h with h | h
   ·rw[h]; exact hk
   ·exact h1 t (atx h)
 ·have dv:∀ a∈l.take (jp l x),eM a x=true:=fun a az=>by
   have aR:l.takeWhile (fun t=>eM t x)=l.take (jp l x) :=avp.1 (auP _);rw[<-aR] at az;have:=List.all_takeWhile (l:=l) (p:=fun t=>eM t x);exact asZ.1 this a az
  have s4:∀ b∈l.drop (jp l x),eM x b=true:=fun b ag=>by
   obtain⟨j,aj⟩:=ar6.1 ag;rw[asE] at aj;have:=Nn l x l.length (jp l x+j) (by omega) (arY.1 aj).1;rw[nD aj] at this; exact this
  unfold gf;rw[auo];refine⟨ae.sublist (auE _ _),aue.2 ⟨s4,ae.sublist (List.drop_sublist _ _)⟩,fun a az b ag=>?_⟩;rcases as0.1 ag with h | h
  ·rw[h]; exact dv a az
  ·exact sa (dv a az) (s4 b h)
theorem abA {l:List bj} {p:bj->Bool} (ar:l8 l=true) :l8 (l.filter p)=true:=by
 obtain⟨h1,ae⟩:=(CO l).1 ar;exact (CO _).2 ⟨fun t aJ=>h1 t (as6.1 aJ).1,ae.sublist atT⟩
theorem aaz {l:List bj} (h1:l.length<=60) (ae:l8 l=true) :lr l=0:=by
 unfold lr; rw[if_neg (by omega),ae]; rfl
def abw (o:bq) (b:dM) (t:bj) :Bool:=decide (o.act.kind=3#8)&&jK o b t
structure alx (s:eO) (o:bq) (b:dM) (t:List bj) :Prop where
 ok:lr t=0
 mem:∀ x∈s.l,decide (x∈t)=!abw o b x
 new:∀ x∈t,x∉s.l->o.act.kind=2#8/\x=⟨o.act.key,cQ o⟩
 cnt:∃ p:Nat,(o.act.kind=2#8->p<t.length/\∀ (i:Nat) (y:bj),t[i]? = some y->(y∉s.l<->i=p))/\(o.act.kind≠2#8->∀ x∈t,x∈s.l)
theorem TN {l:List bj} {i:Nat} {x y:bj}:y∈gf l i x<->y=x\/y∈l:=by
 unfold gf;rw[asu,as0];have:y∈l<->y∈l.take i\/y∈l.drop i:=by rw[<-asu,asK]
 rw[this];constructor
 ·rintro (h | h | h)
  ·exact .inr (.inl h)
  ·exact .inl h
  ·exact .inr (.inr h)
 ·rintro (h | h | h)
  ·exact .inr (.inl h)
  ·exact .inl h
  ·exact .inr (.inr h)
end Op

end Go.cf

namespace Go.cf
open Go Go.Proofs
set_option maxRecDepth 100000
namespace Op
open gZ
structure I1 (g:bc) (i:Nat) (out:List (List B)) :Prop where
 mem:∀ (j:Nat) (p:List B),g.ids.l[j]? = some p->(p∈out<->jP g.ids.l g.ops.l (dB g.ops.l i) j)
 sub:∀ p∈out,p∈g.ids.l
 len:out.length<=g.ids.l.length
theorem Yn (g:bc) (ar:ei g) (V:kB g) {i:Nat} {x:List B} (ax:g.ids.l[i]? = some x) :∃ out,I1 g i out/\bx Tryz.prog GS 101 [cn g,.aI (aQ x)] (aN (dW out)) :=by
 obtain⟨r,l',GH,dT,out,h1,ae,al,oN⟩:=Ym g ar V ax;exact⟨out,⟨h1,ae,al⟩,bH Tryz.checked.mixed bD ⟨r,l',GH,dT,oN⟩⟩
open Classical in
noncomputable def eu (g:bc) (i:Nat) :List (List B) :=if h:∃ out,I1 g i out/\bx Tryz.prog GS 101 [cn g,.aI (aQ (b2 g.ids.l i))] (aN (dW out)) then h.choose else []
theorem vE (g:bc) (ar:ei g) (V:kB g) {i:Nat} {x:List B} (ax:g.ids.l[i]? = some x) :I1 g i (eu g i)/\bx Tryz.prog GS 101 [cn g,.aI (aQ x)] (aN (dW (eu g i))) :=by
 have h:=Yn g ar V ax;have ai:b2 g.ids.l i=x:=fJ ax;rw[<-ai] at h ⊢;unfold eu;rw[dif_pos h];exact h.choose_spec
def tJ (o:bq) (k:List UInt8) :Bool:=decide (o.act.kind=3#8)&&decide (o.act.key=k)
def qj (g:bc) (A:Nat->List (List B)) (k:List UInt8) (x:List B) :Nat->Bool
 | 0=>false
 | m+1=>qj g A k x m||(match g.ops.l[m]? with | some o=>tJ o k&&decide (x∈A m) | none=>false)
theorem Rn {g:bc} {A:Nat->List (List B)} {k:List UInt8} {x:List B} {m:Nat} {o:bq} (h:g.ops.l[m]? = some o) :qj g A k x (m+1)=(qj g A k x m||(tJ o k&&decide (x∈A m))) :=by
 show (qj g A k x m||(match g.ops.l[m]? with | some o=>tJ o k&&decide (x∈A m) | none=>false))=_;rw[h]
def ol (g:bc) (A:Nat->List (List B)) (o:bq) (x:List B) :Bool:=decide (o.act.kind=2#8)&&!qj g A o.act.key x g.ops.l.length
def gQ (g:bc) (A:Nat->List (List B)) :Nat->eO
 | 0=>none
 | m+1=>match g.ops.l[m]?,g.ids.l[m]? with
  | some o,some x=>if ol g A o x=true then some (lX (gQ g A m).l ⟨o.act.key,x⟩) else gQ g A m
  | _,_=>gQ g A m
theorem M3 {g:bc} {A:Nat->List (List B)} {m:Nat} {o:bq} {x:List B} (h:g.ops.l[m]? = some o) (ai:g.ids.l[m]? = some x) :gQ g A (m+1)=if ol g A o x=true then some (lX (gQ g A m).l ⟨o.act.key,x⟩) else gQ g A m:=by
 show (match g.ops.l[m]?,g.ids.l[m]? with
  | some o,some x=>if ol g A o x=true then some (lX (gQ g A m).l ⟨o.act.key,x⟩) else gQ g A m
  | _,_=>gQ g A m)=_
 rw[h,ai]
theorem UF {g:bc} (ar:ei g) {A:Nat->List (List B)}:∀ m,gW (gQ g A m).l/\(gQ g A m).l.length<=m
 | 0=>⟨fun t aJ=>(by cases aJ),ar0 _⟩
 | m+1=>by
  obtain⟨h1,ae⟩:=UF ar (A:=A) m;cases aq:g.ops.l[m]? with
  | none=>
   have:gQ g A (m+1)=gQ g A m:=by
    show (match g.ops.l[m]?,g.ids.l[m]? with
     | some o,some x=>if ol g A o x=true then some (lX (gQ g A m).l ⟨o.act.key,x⟩) else gQ g A m
     | _,_=>gQ g A m)=_
    rw[aq]
   rw[this]; exact⟨h1,by omega⟩
  | some o=>
   cases ai:g.ids.l[m]? with
   | none=>
    have:gQ g A (m+1)=gQ g A m:=by
     show (match g.ops.l[m]?,g.ids.l[m]? with
      | some o,some x=>if ol g A o x=true then some (lX (gQ g A m).l ⟨o.act.key,x⟩) else gQ g A m
      | _,_=>gQ g A m)=_
     rw[aq,ai]
    rw[this]; exact⟨h1,by omega⟩
   | some x=>
    rw[M3 aq ai];split
    ·refine⟨DL h1 (ar.ids x (ar4 ai)),?_⟩;show (lX (gQ g A m).l ⟨o.act.key,x⟩).length<=m+1;unfold lX;rw[DK]; omega
    ·exact⟨h1,by omega⟩
def Ad (L:List (List B)) :List ad:=[aN (dW L)]
theorem Zt (s:dM) :(aN s).cells=some [aN s] :=by cases s<;>rfl
theorem z1 (s:eO) :(dd s).cells=some [dd s] :=by cases s<;>rfl
structure XZ (g:bc) (k:Nat) (af:bi) (l:ap) :Prop where
 aL:af 1=.ptr 0 0 2
 aT:af 2=.ptr 1 0 1
 a7:af 3=.int .i64 0
 bf:af 5=.int .i64 k
 tx:∃ v,af 4=v/\cj 1 Ad [.cells 2 [aN g.ids,bM g.ops],.cells 1 [.aV]] l v ((List.range k).map (eu g)) (decide (k=0))
structure X0 (g:bc) (B3:ap) (v4:ad) (k:Nat) (af:bi) (l:ap) :Prop where
 aL:af 1=.ptr 0 0 2
 aT:af 2=.ptr 1 0 1
 a7:af 3=.int .i64 0
 bp:af 4=v4
 bT:af 6=.ptr B3.length 0 1
 dh:af 7=.int .i64 k
 ex:∃ m,l=B3++.cells 1 [dd (gQ g (eu g) k)] ::m
structure X1 (g:bc) (B3:ap) (v4:ad) (i:Nat) (o:bq) (x:List B) (b:Nat) (k:Nat) (af:bi) (l:ap) :Prop where
 aL:af 1=.ptr 0 0 2
 aT:af 2=.ptr 1 0 1
 a7:af 3=.int .i64 0
 bp:af 4=v4
 bT:af 6=.ptr B3.length 0 1
 dh:af 7=.int .i64 i
 de:af 8=.ptr b 0 6
 fP:af 9=.bool (qj g (eu g) o.act.key x k)
 ft:af 10=.int .i64 k
 ex:∃ m,l=B3++.cells 1 [dd (gQ g (eu g) i)] ::m/\l[b]? = some (.cells 6 (he o.act))
noncomputable def xa (g:bc) :eO:=if dm g=0 then gQ g (eu g) g.ops.l.length else none
set_option maxHeartbeats 8000000 in
theorem ahL (g:bc) (ar:ei g) :bx Tryz.prog GS 65 [cn g] (.bJ [.aI [dd (xa g)],.int .i64 (dm g)]) :=by
 refine bH Tryz.checked.mixed bD ?_;apply bm Tryz.func65 [];have aA:cK=140737488355328:=rfl;have cJ:=eb g.ids;have b6:=jo g.ops;have cO:=In g ar;unfold cn cV at cO;have dv:cz (.au 11) (bM g.ops)=some (.int .i64 g.ops.l.length) :=by simp[bM]
 simp[cn,cV];refine aW cO (by simp[aZ,ad.closed,cJ,b6]) ?_;by_cases aB:dm g=0
 ·have V:=kX aB;have yH:=V.n60;have kS:=V.len;simp[aB];refine cw g.ops.l.length (XZ g) ?_ ⟨by simp,by simp,by simp,by simp,.aV,by simp,by simpa using cj.nil⟩
  ·rintro k af l hk ⟨aL,aT,a7,bf,v,bp,c1⟩;obtain⟨af,rfl⟩:=ky aL aT a7 bp bf;clear aL aT a7 bp bf;have fh:l[0]? = some (.cells 2 [aN g.ids,bM g.ops]) :=by rw[c1.same 0 (by simp)]; rfl
   by_cases cH:k<g.ops.l.length
   ·obtain⟨x,ai,cE⟩:=bu (l:=g.ids.l) (k:=k) (by omega);obtain⟨cv,hr⟩:=vE g ar V ai;unfold cn cV at hr;have mr:=ar.ids x cE;have a2:=cA mr;have aR:IntKind.i64.wrap ((k:Int)+1)=((k+1:Nat) :Int) :=by rw[IntKind.wrap_i64]; omega
    have hM:cd (.au 32) (aN g.ids) (.int .i64 (k:Int))=some (.b0 (aQ x) 0) :=by simp[aN,ai]
    have eF:=eP x;obtain⟨Y,dC⟩:∃ Y,Y=aQ x:=⟨_,rfl⟩
    rw[<-dC] at hr hM a2 eF;obtain⟨a8,l',jf,kx,EI⟩:=M1 (by_:=24) (c1.more [aY.cells 1 [aN (dW (eu g k))]]) (eu g k) (b:=l.length) (by simp[Ad]) (by simp[Ad]) (by omega) (by omega) (by simp; omega);simp[fh,dv,cH,hM,a2,arX];refine aW hr (by simp[aZ,ad.closed,cJ,b6,eF]) ?_;simp[Zt,jf];refine dt.cy ?_;simp[aR];refine⟨cH,by simp,by simp,by simp,by simp,a8,by simp,?_⟩;have bN:decide (k+1=0)=false:=by simp
    rw[bN,atA,asv];exact kx
   ·have g4:k=g.ops.l.length:=by omega
    subst g4;obtain⟨wZ,si,dT,gD,anz,se⟩:=id c1;have Aq:2<=l.length:=by simpa using dT
    have fh:∀ X:ap,(l++X)[0]? = some (.cells 2 [aN g.ids,bM g.ops]) :=fun X=>by rw[arZ (by omega),gD 0 (by simp)]; rfl
    have lV:∀ X:ap,(l++X)[1]? = some (.cells 1 [.aV]) :=fun X=>by rw[arZ (by omega),gD 1 (by simp)]; rfl
    have Nj:∀ (y:aY) (X:ap),(l++y::X)[l.length]? = some y:=fun y X=>by rw[ar8 (ar0 _)]; simp
    have cT:∀ (y z:aY) (X:ap),(l++y::X).set l.length z=l++z::X:=fun y z X=>by rw[asy _ _ (ar0 _)]; simp
    have xe:=fh [];rw[asD] at xe;simp[xe,dv,cH];refine cw g.ops.l.length (X0 g l v) ?_ ⟨by simp,by simp,by simp,by simp,by simp,by simp,[],rfl⟩;rintro i af l1 ax ⟨aL,aT,a7,bp,bT,dh,m,rfl⟩;obtain⟨af,rfl⟩:=vp aL aT a7 bp bT dh;clear aL aT a7 bp bT dh;by_cases cY:i<g.ops.l.length
    ·obtain⟨x,ai,cE⟩:=bu (l:=g.ids.l) (k:=i) (by omega);obtain⟨o,aq,ds⟩:=bu cY;have mr:=ar.ids x cE;have a2:=cA mr;have aR:IntKind.i64.wrap ((i:Int)+1)=((i+1:Nat) :Int) :=by rw[IntKind.wrap_i64]; omega
     have hM:cd (.au 32) (aN g.ids) (.int .i64 (i:Int))=some (.b0 (aQ x) 0) :=by simp[aN,ai]
     have bG:cd (.au 11) (bM g.ops) (.int .i64 (i:Int))=some (.b0 (a1 o) 0) :=by simp[bM,aq]
     have bO:(a1 o).length=11:=rfl;have jv:((a1 o).drop 3).take 6=he o.act:=rfl;have hK:(he o.act).length=6:=rfl;have rC:∀ h,(he o.act)[0]'h=bA o.act.kind:=fun _=>rfl
     have yd:∀ h,(he o.act)[1]'h=.str o.act.key:=fun _=>rfl
     have eF:=eP x;obtain⟨da,aoi⟩:=UF ar (A:=eu g) i;have iB:=VH (gQ g (eu g) i) da (by omega) ⟨o.act.key,x⟩ mr;have rG:=oz (gQ g (eu g) i);have R8:=k4 ⟨o.act.key,x⟩;have AP:=M3 (A:=eu g) aq ai;have oG:bF ⟨o.act.key,x⟩=.str o.act.key::aQ x:=rfl;have rR:=vY o;obtain⟨O,dn⟩:∃ O,O=a1 o:=⟨_,rfl⟩
     obtain⟨A,cv⟩:∃ A,A=he o.act:=⟨_,rfl⟩
     obtain⟨Y,dC⟩:∃ Y,Y=aQ x:=⟨_,rfl⟩
     obtain⟨T,cM⟩:∃ T,T=bF ⟨o.act.key,x⟩:=⟨_,rfl⟩
     rw[<-dn] at bG bO jv;rw[<-cv] at jv hK rC yd;rw[<-dC] at hM a2 eF oG;rw[<-cM] at iB R8 oG;have Tp:bt [ad.int .u8 0,.str [],.int .u8 0,.int .i64 0,.int .u64 0,.str []] 0 A=A:=ek (by rw[hK]; rfl);obtain⟨b,ag⟩:∃ b,b=l.length+(m.length+1) :=⟨_,rfl⟩
     have Vx:∀ (m:ap) (y c:aY),(l++c::(m++[y]))[l.length+(m.length+1)]? = some y:=fun m y c=>by
      rw[ar8 (by omega),show l.length+(m.length+1) - l.length=m.length+1 by omega,asP,ar8 (ar0 _)]; simp
     have Vy:∀ (m:ap) (y z c:aY),(l++c::(m++[y])).set (l.length+(m.length+1)) z=l++c::(m++[z]) :=fun m y z c=>by
      rw[asy _ _ (by omega),show l.length+(m.length+1) - l.length=m.length+1 by omega,auy,asy _ _ (ar0 _)]; simp
     have tF:=Vx m;have Ns:=Vy m;rw[<-ag] at tF Ns;have bE:=rR;by_cases bI:o.act.kind=2#8
     ·have kT:=rR.2 bI;simp[fh,dv,cY,bG,bO,jv,hK,Tp,rC,<-ag,kT,tF,Ns];refine cw g.ops.l.length (X1 g l v i o x b) ?_ ⟨by simp,by simp,by simp,by simp,by simp,by simp,by simp,by simp[qj],by simp,⟨_,rfl,by rw[<-cv]; exact tF _ _⟩⟩;rintro k af l1 hk ⟨aL,aT,a7,bp,bT,dh,de,fP,ft,g9,rfl,ws⟩;obtain⟨af,rfl⟩:=Xb aL aT a7 bp bT dh de fP ft;clear aL aT a7 bp bT dh de fP ft;rw[<-cv] at ws;by_cases cH:k<g.ops.l.length
      ·obtain⟨ck,er,S7⟩:=bu cH;have f1:IntKind.i64.wrap ((k:Int)+1)=((k+1:Nat) :Int) :=by rw[IntKind.wrap_i64]; omega
       have Db:cd (.au 11) (bM g.ops) (.int .i64 (k:Int))=some (.b0 (a1 ck) 0) :=by simp[bM,er]
       have Dp:(a1 ck).length=11:=rfl;have Ar:((a1 ck).drop 3).take 6=he ck.act:=rfl;have wj:(he ck.act).length=6:=rfl;have F4:∀ h,(he ck.act)[0]'h=bA ck.act.kind:=fun _=>rfl
       have F5:∀ h,(he ck.act)[1]'h=.str ck.act.key:=fun _=>rfl
       have ps:=Rn (A:=eu g) (k:=o.act.key) (x:=x) er;have SE:=vZ ck;obtain⟨alB,ab1⟩:∃ O,O=a1 ck:=⟨_,rfl⟩
       obtain⟨xG,CT⟩:∃ A,A=he ck.act:=⟨_,rfl⟩
       rw[<-ab1] at Db Dp Ar;rw[<-CT] at Ar wj F4 F5;have He:bt [ad.int .u8 0,.str [],.int .u8 0,.int .i64 0,.int .u64 0,.str []] 0 xG=xG:=ek (by rw[wj]; rfl);obtain⟨di,fm⟩:∃ b,b=l.length+(g9.length+1) :=⟨_,rfl⟩
       have Ek:=Vx g9;have El:=Vy g9;rw[<-fm] at Ek El;obtain⟨cm,nn⟩:∃ cm,cm=aY.cells 1 [dd (gQ g (eu g) i)] :=⟨_,rfl⟩
       rw[<-nn] at ws ⊢;have eC:b<(l++cm::g9).length:=(arY.1 ws).1;have Ay:∀ y,(l++cm::(g9++[y]))[b]? = some (.cells 6 A) :=fun y=>by
        have:l++cm::(g9++[y])=(l++cm::g9)++[y] :=by simp
        rw[this,arZ eC]; exact ws
       cases Sl:qj g (eu g) o.act.key x k with
       | true=>
        rw[Sl] at ps;simp[fh,dv,cH,Db,Dp,Ar,wj,He,Ek,El,<-fm,f1];exact⟨by simp,by simp,by simp,by simp,by simp,by simp,by simp,by simp[ps],by simp,g9++[_],by rw[nn],by rw[<-cv]; exact Ay _⟩
       | false=>
        rw[Sl] at ps;by_cases cS:ck.act.kind=3#8
        ·have kU:=SE.2 cS;by_cases kV:ck.act.key=o.act.key
         ·have yT:tJ ck o.act.key=true:=by unfold tJ; simp[cS,kV]
          rw[yT] at ps;obtain⟨kf,uT,aox⟩:=bu (l:=g.ids.l) (k:=k) (by omega);obtain⟨F6,_⟩:=vE g ar V uT;obtain⟨Nd,JE,ri,aX,bg,a3,a4⟩:=(si.more (cm::(g9++[aY.cells 6 xG]))).q.get (k:=.i64) (i:=k) (e:=Ad (eu g k)) (by simp[cH]);have a5:=one_cell (c:=aN (dW (eu g k))) (by simpa [Ad] using a4);have cZ:=zl (dW (eu g k)) (fun y ay=>ar.ids y (F6.sub y (by rw[fM] at ay; exact ay))) (by rw[fM]; have:=F6.len; omega) x mr;rw[fM,<-dC] at cZ;have kk:=eb (dW (eu g k));simp[fh,dv,cH,Db,Dp,Ar,wj,He,Ek,El,<-fm,f1,kU,F4,F5,kV,Ay,yd,hK,aX,bg,a5,hM,a2,arX];refine aW cZ (by simp[aZ,ad.closed,kk,eF]) ?_;simp[f1,cH];exact⟨by simp,by simp,by simp,by simp,by simp,by simp,by simp,by simp[ps],by simp,g9++[_],by rw[nn],by rw[<-cv]; exact Ay _⟩
         ·have yT:tJ ck o.act.key=false:=by unfold tJ; simp[kV]
          rw[yT] at ps;simp[fh,dv,cH,Db,Dp,Ar,wj,He,Ek,El,<-fm,f1,kU,F4,F5,kV,Ay,yd,hK];exact⟨by simp,by simp,by simp,by simp,by simp,by simp,by simp,by simp[ps],by simp,g9++[_],by rw[nn],by rw[<-cv]; exact Ay _⟩
        ·have kU:¬ (u ck.act.kind:Int)=3:=fun h=>cS (SE.1 h)
         have yT:tJ ck o.act.key=false:=by unfold tJ; simp[cS]
         rw[yT] at ps;simp[fh,dv,cH,Db,Dp,Ar,wj,He,Ek,El,<-fm,f1,kU,F4,F5];exact⟨by simp,by simp,by simp,by simp,by simp,by simp,by simp,by simp[ps],by simp,g9++[_],by rw[nn],by rw[<-cv]; exact Ay _⟩
      ·have g4:k=g.ops.l.length:=by omega
       subst g4;simp[fh,dv,cH];cases Sm:qj g (eu g) o.act.key x g.ops.l.length with
       | true=>
        have b1:ol g (eu g) o x=false:=by unfold ol; simp[Sm]
        rw[b1,if_neg (by simp)] at AP;simp[aR];exact⟨cY,by simp,by simp,by simp,by simp,by simp,by simp,by rw[AP]; exact⟨_,rfl⟩⟩
       | false=>
        have b1:ol g (eu g) o x=true:=by unfold ol; simp[Sm,bI]
        rw[b1,if_pos rfl] at AP;have yW:bt (rep 32 (.int .u8 0)) 0 Y=Y:=ek (by rw[a2]; rfl);simp[ws,yd,hK,Nj,hM,a2,fh,arX,yW];rw[<-oG];refine aW iB (by simp[aZ,ad.closed,rG,R8]) ?_;simp[z1,Nj,cT,aR];exact⟨cY,by simp,by simp,by simp,by simp,by simp,by simp,by rw[AP]; exact⟨_,rfl⟩⟩
     ·have kT:¬ (u o.act.kind:Int)=2:=fun h=>bI (rR.1 h)
      simp[fh,dv,cY,bG,bO,jv,hK,Tp,rC,<-ag,kT,tF,Ns,aR];have b1:ol g (eu g) o x=false:=by unfold ol; simp[bI]
      rw[b1,if_neg (by simp)] at AP;exact⟨by simp,by simp,by simp,by simp,by simp,by simp,by rw[AP]; exact⟨_,rfl⟩⟩
    ·have cZ:i=g.ops.l.length:=by omega
     subst cZ;have fZ:∀ (X:ap) (y:aY),((l++X).set 1 y)[1]? = some y:=fun X y=>ar9 (by simp; omega)
     simp[fh,dv,cY,Nj,lV,z1,fZ];refine aK ?_ ?_
     ·unfold xa; rw[if_pos aB,aB]
     ·simp[ad.closed,aZ,oz]
 ·simp[aB];refine aW cO (by simp[aZ,ad.closed,cJ,b6]) ?_;simp[aB];refine aK ?_ ?_
  ·unfold xa; rw[if_neg aB]; rfl
  ·simp[ad.closed,aZ,oz]
theorem E7 (g:bc) (i:Nat) :(i0 g i).length<=g.ids.l.length:=HU _ _ _
theorem E8 {g:bc} {i:Nat} {x:List B} (h:x∈i0 g i) :x∈g.ids.l:=by
 unfold i0 at h;obtain⟨j,aj,_,rfl⟩:=Up.1 h;obtain⟨y,ay,ch⟩:=bu aj;rw[fJ ay]; exact ch
theorem abq {α:Type} {l:List α} {i:Nat} {d x:α} (h:l[i]? = some x) :l.getD i d=x:=by rw[asq,h]; rfl
open Classical in
theorem Ca {g:bc} (aj:jj g.ids.l) {i j:Nat} {p:List B} (aC:g.ids.l[j]? = some p) :p∈i0 g i<->jP g.ids.l g.ops.l (dB g.ops.l i) j:=by
 have aA:∀ t,t<g.ids.l.length->(pP g (dB g.ops.l i)).getD t false=decide (jP g.ids.l g.ops.l (dB g.ops.l i) t) :=fun t aJ=>by
  apply abq;unfold pP;rw[ar5,asI aJ]; rfl
 unfold i0;rw[Up];constructor
 ·rintro⟨t,aJ,h1,ae⟩;rw[aA t aJ] at h1;obtain⟨y,ay,_⟩:=bu aJ;rw[fJ ay] at ae;subst ae;rw[aj j t y aC ay];exact of_decide_eq_true h1
 ·intro h;have am:=(arY.1 aC).1;exact⟨j,am,by rw[aA j am]; exact decide_eq_true h,fJ aC⟩
structure Jf (g:bc) :Prop where
 ids:fo g.ids
 ops:∀ o∈g.ops.l,Jg o
theorem ake {ts:List TypeId} {cs:List ad} (h:nh Tryz.prog (25::ts) cs) :∃ (g:bc) (cs' : List ad),cs=cn g::cs'/\Jf g/\nh Tryz.prog ts cs':=by
 obtain⟨c,cs',rfl,h1,ae⟩:=W3 h;obtain⟨cs,rfl,al⟩:=akh (by kernel_rfl) h1;have aE:=EH (fs:=[22,23]) (by kernel_rfl) al;obtain⟨i,_,rfl,ax,aU⟩:=OC aE;obtain⟨s,_,rfl,_,aq,bz⟩:=W5 (e:=82) (z:=11) (enc:=a1) (Q:=Jg) (by kernel_rfl) (by kernel_rfl) (fun r aA=>by
  obtain⟨x,_,rfl,ai,al⟩:=akm aA;rw[OD al,asD];exact⟨x,rfl,ai⟩) aU
 rw[OD bz];exact⟨⟨i,s⟩,cs',rfl,⟨ax,aq⟩,ae⟩
theorem agR {g:bc} (h:Jf g) (ar:we g=false) :ei g:=by
 unfold we at ar;simp only[Bool.or_eq_false_iff,decide_eq_false_iff_not] at ar;obtain⟨h1,ae,al,aE⟩:=ar;refine⟨h.ids,fun o aq=>?_,by omega,by omega⟩;have aU:¬ ux o=true:=fun aH=>h1 ⟨o,by rw[arX (by omega)]; exact aq,aH⟩
 unfold ux at aU;simp only[atZ,decide_eq_true_eq,not_or] at aU;have aJ:=h.ops o aq;exact⟨aJ.ids,by omega,⟨aJ.my,aJ.ny,by omega⟩,by omega⟩
theorem W2 (g:bc) :(IK g).ops.l=g.ops.l.map BO:=fM _
end Op

end Go.cf

namespace Go.Proofs
open Go.Shelf
set_option maxRecDepth 100000
def Tryz.ajf:Go.Shelf.Ren:=⟨fun | 6=>99 | 15=>135 | 14=>156 | 28=>188 | 29=>189 | 20=>210 | 21=>211 | 22=>212 | 23=>213 | 24=>214 | 25=>215 | 26=>216 | 27=>217 | 46=>248 | 47=>229 | 48=>230 | 49=>249 | 50=>250 | 57=>263 | n=>n,fun | 22=>22 | 24=>48 | 25=>115 | 3=>3 | 39=>194 | 0=>0 | 53=>76 | 55=>40 | 4=>4 | 46=>234 | 45=>233 | 50=>152 | 5=>5 | 9=>9 | 66=>269 | 70=>273 | 76=>291 | 77=>292 | n=>n,fun | n=>n⟩
theorem Tryz.ajd:Go.Proofs.SlLaysF0.n6 Tryz.prog Tryz.ajf where
 mixed:=by kernel_rfl
 f6:=⟨ "slices.SortFunc[[]braid/api.ID,braid/api.ID]",by decide,Tryz.func99.trans (congrArg some (by kernel_rfl))⟩
 f14:=⟨ "slices.pdqsortCmpFunc[braid/api.ID]",by decide,Tryz.func156.trans (congrArg some (by kernel_rfl))⟩
 f15:=Tryz.func135.trans (congrArg some (by kernel_rfl))
 f20:=⟨ "slices.insertionSortCmpFunc[braid/api.ID]",by decide,Tryz.func210.trans (congrArg some (by kernel_rfl))⟩
 f21:=⟨ "slices.heapSortCmpFunc[braid/api.ID]",by decide,Tryz.func211.trans (congrArg some (by kernel_rfl))⟩
 f22:=⟨ "slices.breakPatternsCmpFunc[braid/api.ID]",by decide,Tryz.func212.trans (congrArg some (by kernel_rfl))⟩
 f23:=⟨ "slices.choosePivotCmpFunc[braid/api.ID]",by decide,Tryz.func213.trans (congrArg some (by kernel_rfl))⟩
 f24:=⟨ "slices.reverseRangeCmpFunc[braid/api.ID]",by decide,Tryz.func214.trans (congrArg some (by kernel_rfl))⟩
 f25:=⟨ "slices.partialInsertionSortCmpFunc[braid/api.ID]",by decide,Tryz.func215.trans (congrArg some (by kernel_rfl))⟩
 f26:=⟨ "slices.partitionEqualCmpFunc[braid/api.ID]",by decide,Tryz.func216.trans (congrArg some (by kernel_rfl))⟩
 f27:=⟨ "slices.partitionCmpFunc[braid/api.ID]",by decide,Tryz.func217.trans (congrArg some (by kernel_rfl))⟩
 f28:=Tryz.func188.trans (congrArg some (by kernel_rfl))
 f29:=Tryz.func189.trans (congrArg some (by kernel_rfl))
 f46:=⟨ "slices.siftDownCmpFunc[braid/api.ID]",by decide,Tryz.func248.trans (congrArg some (by kernel_rfl))⟩
 f47:=Tryz.func229.trans (congrArg some (by kernel_rfl))
 f48:=Tryz.func230.trans (congrArg some (by kernel_rfl))
 f49:=⟨ "slices.medianAdjacentCmpFunc[braid/api.ID]",by decide,Tryz.func249.trans (congrArg some (by kernel_rfl))⟩
 f50:=⟨ "slices.medianCmpFunc[braid/api.ID]",by decide,Tryz.func250.trans (congrArg some (by kernel_rfl))⟩
 f57:=⟨ "slices.order2CmpFunc[braid/api.ID]",by decide,Tryz.func263.trans (congrArg some (by kernel_rfl))⟩
 t0:=Tryz.underlying0
 a0:=Tryz.isAgg0
 z0:=Tryz.sizeOf0
 v0:=Tryz.zeroValue0
 t3:=Tryz.underlying3
 a3:=Tryz.isAgg3
 z3:=Tryz.sizeOf3
 v3:=Tryz.zeroValue3
 t4:=Tryz.underlying4
 a4:=Tryz.isAgg4
 z4:=Tryz.sizeOf4
 v4:=Tryz.zeroValue4
 t5:=Tryz.underlying5
 a5:=Tryz.isAgg5
 z5:=Tryz.sizeOf5
 v5:=Tryz.zeroValue5
 t9:=Tryz.underlying9
 a9:=Tryz.isAgg9
 z9:=Tryz.sizeOf9
 v9:=Tryz.zeroValue9
 t22:=Tryz.underlying22
 a22:=Tryz.isAgg22
 z22:=Tryz.sizeOf22
 v22:=Tryz.zeroValue22
 t25:=Tryz.underlying115
 a25:=Tryz.isAgg115
 z25:=Tryz.sizeOf115
 v25:=Tryz.zeroValue115
 t39:=Tryz.underlying194
 a39:=Tryz.isAgg194
 z39:=Tryz.sizeOf194
 v39:=Tryz.zeroValue194
 t45:=Tryz.underlying233
 a45:=Tryz.isAgg233
 z45:=Tryz.sizeOf233
 v45:=Tryz.zeroValue233
 t46:=Tryz.underlying234
 a46:=Tryz.isAgg234
 z46:=Tryz.sizeOf234
 v46:=Tryz.zeroValue234
 t50:=Tryz.underlying152
 a50:=Tryz.isAgg152
 z50:=Tryz.sizeOf152
 v50:=Tryz.zeroValue152
 t53:=Tryz.underlying76
 a53:=Tryz.isAgg76
 z53:=Tryz.sizeOf76
 v53:=Tryz.zeroValue76
 t55:=Tryz.underlying40
 a55:=Tryz.isAgg40
 z55:=Tryz.sizeOf40
 v55:=Tryz.zeroValue40
 t66:=Tryz.underlying269
 a66:=Tryz.isAgg269
 z66:=Tryz.sizeOf269
 v66:=Tryz.zeroValue269
 t70:=Tryz.underlying273
 a70:=Tryz.isAgg273
 z70:=Tryz.sizeOf273
 v70:=Tryz.zeroValue273
 t76:=Tryz.underlying291
 a76:=Tryz.isAgg291
 z76:=Tryz.sizeOf291
 v76:=Tryz.zeroValue291
 t77:=Tryz.underlying292
 a77:=Tryz.isAgg292
 z77:=Tryz.sizeOf292
 v77:=Tryz.zeroValue292
end Go.Proofs

namespace Go.cf
open Go Go.Proofs Go.Sort Go.Shelf
set_option maxRecDepth 100000
open gZ
abbrev vw:={l:List B // l.length=32}
instance:Inhabited vw:=⟨⟨List.replicate 32 0#8,by simp⟩⟩
def Ae (x:vw) :List ad:=x.1.map bA
def vT (x y:vw) :Int:=cu x.1 y.1
theorem WP:SWO (ltOf vT) where
 irrefl x:=Oo.irrefl x.1
 trans x y z:=Oo.trans x.1 y.1 z.1
 ntrans x y z:=Oo.ntrans x.1 y.1 z.1
theorem Yx (x y:vw) (h1:ltOf vT x y=false) (ae:ltOf vT y x=false) :x=y:=Subtype.ext (Yy x.1 y.1 h1 ae)
theorem Qs (x:vw) :(Ae x).length=32:=by unfold Ae; rw[asi,x.2]
theorem aak (x:vw) :∀ c∈Ae x,zg c=true:=fun c ah=>by obtain⟨b,_,rfl⟩:=asr.1 ah; rfl
theorem aje {g:Nat} (J0:∀ args w,(callFunc g args).run Tryz.prog w=.ok (.enter g args) w) :EZ Tryz.prog 99 g 32 (fun x=>(Ae x).map valOf) vT:=
 fun blk off cap d w rJ hH hblk ht=>
  AnyQ.slices_SortFunc Tryz.ajd 32 (by intro w; exact Tryz.isAgg48 w) (by intro w; exact Tryz.sizeOf48 w) _ (fun x=>by rw[asi,Qs]) (fun x v aw=>by obtain⟨c,_,rfl⟩:=asr.1 aw; exact IM c) vT WP g #[] blk off cap d w J0 rJ hH hblk ht
end Go.cf

namespace Go.cf
open Go Go.Proofs
set_option maxRecDepth 100000
namespace Op
open gZ
structure bP where
 key:List UInt8
 val:h6
 cl:Q
 id:List B
instance:DecidableEq h6:=fun a b=>decidable_of_iff (a.kind=b.kind/\a.num=b.num/\a.bits=b.bits/\a.text=b.text) (by cases a; cases b; simp)
instance:DecidableEq bP:=fun a b=>decidable_of_iff (a.key=b.key/\a.val=b.val/\a.cl=b.cl/\a.id=b.id) (by cases a; cases b; simp)
def bR (r:bP) :List ad:=.str r.key::bA r.val.kind::.int .i64 r.val.num::cU r.val.bits::.str r.val.text::cU r.cl::aQ r.id
abbrev gp:=dg bP
def c8 (s:gp) :ad:=cL 38 bR s
structure tX (r:bP) :Prop where
 id:r.id.length=32
 val:D7 r.val
def hj (l:List bP) :Prop:=∀ r∈l,tX r
theorem iu {r:bP} (h:r.id.length=32) :(bR r).length=38:=by simp[bR,cA h]
theorem mK (r:bP) :aZ (bR r)=true:=by simp[bR,aZ,ad.closed,eP]
theorem qa (s:gp) :(c8 s).closed=true:=xW mK s
def l0 (l:List bP) (k:Nat) :bP:=l.getD k ⟨[],o3,0,[]⟩
theorem nb {l:List bP} {k:Nat} {x:bP} (h:l[k]? = some x) :l0 l k=x:=by
 unfold l0; rw[asq,h]; rfl
def BI (x:Q) :Bool:=decide (x.toNat<=1000000000000)
def jJ (r:bP) :Bool:=gN r.key&&(ke r.val&&BI r.cl)
def ql (l:List bP) (k:Nat) :Bool:=jJ (l0 l k)&&(decide (k=0)||e6 (l0 l (k - 1)).key (l0 l k).key)
def l7 (l:List bP) :Bool:=decide (∀ k,k<l.length->ql l k=true)
def mB (l:List bP) :Int:=if 60<l.length then 4 else if l7 l then 0 else 8
theorem Kq {l:List bP} (h:∀ k,k<l.length->ql l k=true) :l7 l=true:=decide_eq_true h
theorem wc {l:List bP} {k:Nat} (hk:k<l.length) (h:ql l k=false) :l7 l=false:=decide_eq_false fun aH=>by rw[aH k hk] at h; cases h
theorem BG {E:List ad} (h:E.length=38) :bt (ad.str [] ::.int .u8 0::.int .i64 0::.int .u64 0::.str [] ::.int .u64 0::rep 32 (.int .u8 0)) 0 E=E:=ek (by rw[h]; rfl)
theorem Qn (x:Q) :((1000000000000:Int)<u x)<->BI x=false:=by
 unfold BI u;rw[decide_eq_false_iff_not];omega
theorem N3 (a b:List UInt8) :e6 a b=false<->¬ a<b:=by
 rw[<-tM]; simp
set_option maxHeartbeats 4000000 in
theorem akW (s:gp) (aq:hj s.l) (am:s.l.length<=1000000) :bx Tryz.prog GS 59 [.aI [c8 s]] (.int .i64 (mB s.l)) :=by
 refine bH Tryz.checked.mixed bD ?_;apply bm Tryz.func59 [];unfold mB;have bn:cz (.au 38) (c8 s)=some (.int .i64 s.l.length) :=by simp[c8]
 by_cases h1:60<s.l.length
 ·have c3:(60:Int)<(s.l.length:Int) :=by omega
  simp[bn,c3];exact aK (by rw[if_pos h1]) rfl
 ·have c3:¬ (60:Int)<(s.l.length:Int) :=by omega
  simp[bn,c3];refine cw s.l.length (fun k af l=>(∃ r,l=.cells 1 [c8 s] ::r)/\af 1=.ptr 0 0 1/\af 10=c8 s/\af 11=.int .i64 s.l.length/\af 12=.int .i64 k/\∀ j,j<k->ql s.l j=true) ?_ (by simp);rintro k af l hk ⟨⟨r,rfl⟩,aL,ft,hJ,g2,ak⟩;obtain⟨af,rfl⟩:=jh aL ft hJ g2;clear aL ft hJ g2;simp;refine g8 (fun h=>?_) (fun h=>?_)
  ·simp only[decide_eq_true_eq] at h;obtain⟨y,ay,ch⟩:=bu (l:=s.l) (k:=k) (by omega);have b4:=iu (aq y ch).id;have aR:IntKind.i64.wrap ((k:Int)+1)=((k+1:Nat) :Int) :=by rw[IntKind.wrap_i64]; omega
   have uE:=JI ⟨2#8,y.key,o3⟩;rw[Pc] at uE;have iC:=OI y.val;have ef:ql s.l k=(jJ y&&(decide (k=0)||e6 (l0 s.l (k - 1)).key y.key)) :=by unfold ql; rw[nb ay]
   have bG:cd (.au 38) (c8 s) (.int .i64 (k:Int))=some (.b0 (bR y) 0) :=by simp[c8,ay]
   have hN:=BG b4;have cM:(bR y).take 38=bR y:=arX (by omega);have qo:∀ h,(bR y)[0]'h=.str y.key:=fun _=>rfl
   have oF:∀ h,(bR y)[5]'h=cU y.cl:=fun _=>rfl
   have yh:((bR y).tail).take 4=dJ y.val:=rfl;have n0:=Qn y.cl;have kk:aZ (dJ y.val)=true:=by simp[dJ,aZ,ad.closed]
   obtain⟨R,gu⟩:∃ R,R=bR y:=⟨_,rfl⟩
   obtain⟨Yf,KO⟩:∃ V,V=dJ y.val:=⟨_,rfl⟩
   rw[<-gu] at b4 bG hN cM qo oF yh;rw[<-KO] at iC yh kk;simp[bG,b4,hN,cM,qo];refine aW uE rfl ?_;cases aU:gN y.key with
   | false=>
    have:jJ y=false:=by unfold jJ; rw[aU]; rfl
    rw[this,asN] at ef;simp[hI];exact aK (by rw[if_neg h1,wc h ef]; rfl) rfl
   | true=>
    simp[hI,b4,yh];refine aW iC (by simp[aZ,ad.closed,kk]) ?_;cases bz:ke y.val with
    | false=>
     have:jJ y=false:=by unfold jJ; rw[aU,bz]; rfl
     rw[this,asN] at ef;simp[hI];exact aK (by rw[if_neg h1,wc h ef]; rfl) rfl
    | true=>
     cases dy:BI y.cl with
     | false=>
      have:jJ y=false:=by unfold jJ; rw[aU,bz,dy]; rfl
      rw[this,asN] at ef;have nV:=n0.2 dy;simp[hI,b4,oF,nV];exact aK (by rw[if_neg h1,wc h ef]; rfl) rfl
     | true=>
      have nV:¬ (1000000000000:Int)<u y.cl:=fun h=>by rw[n0.1 h] at dy; cases dy
      have:jJ y=true:=by unfold jJ; rw[aU,bz,dy]; rfl
      rw[this,asM] at ef;rcases k with _ | k
      ·simp[hI,b4,oF,nV,aR];exact⟨by omega,by rw[IntKind.wrap_i64]; omega,by rw[ef]; rfl⟩
      ·obtain⟨x,ai,cE⟩:=bu (l:=s.l) (k:=k) (by omega);have fF:cd (.au 38) (c8 s) (.int .i64 (k:Int))=some (.b0 (bR x) 0) :=by simp[c8,ai]
       have wq:(bR x)[0]? = some (.str x.key) :=rfl;obtain⟨Yh,Au⟩:∃ X,X=bR x:=⟨_,rfl⟩
       rw[<-Au] at fF wq;have c4:IntKind.i64.wrap (k:Int)=(k:Int) :=by rw[IntKind.wrap_i64]; omega
       have h0:(0:Int)<(k:Int)+1:=by omega
       simp only[atP,nb ai,aus,auV,and_false,decide_false,aur] at ef;simp[hI,b4,oF,nV,h0,c4,fF,wq,qo];have KX:ov .geq x.key y.key=some (.bool (!e6 x.key y.key)) :=rfl;rw[KX];cases eQ:e6 x.key y.key with
       | true=>
        rw[eQ] at ef;simp[aR];refine⟨by omega,by rw[IntKind.wrap_i64]; omega,fun j aj=>?_⟩;by_cases fB:j=k+1
        ·rw[fB,ef]
        ·exact ak j (by omega)
       | false=>
        rw[eQ] at ef;simp;exact aK (by rw[if_neg h1,wc h ef]; rfl) rfl
  ·simp[h];have fR:k=s.l.length:=by simp at h; omega
   exact aK (by rw[if_neg h1,if_pos (Kq fun j aj=>ak j (by omega))]) rfl
def Ct (a b:Q) :Int:=if a.toNat<b.toNat then -1 else if b.toNat<a.toNat then 1 else 0
theorem Ux (a:Q) :bx Tryz.prog GS 234 [cU a] (.bool false) :=by
 refine bH Tryz.checked.mixed bD ?_;apply bm Tryz.func234 [];simp;exact aK rfl rfl
theorem ZI (a b:Q) :bx Tryz.prog GS 193 [cU a,cU b] (.int .i64 (Ct a b)) :=by
 refine bH Tryz.checked.mixed bD ?_;apply bm Tryz.func193 [];unfold Ct;simp;refine aW (Ux a) rfl ?_;simp;refine aW (Ux b) rfl ?_;by_cases h1:a.toNat<b.toNat
 ·simp[h1,cU,u];exact aK rfl rfl
 ·by_cases ae:b.toNat<a.toNat
  ·simp[h1,ae,cU,u];exact aK rfl rfl
  ·simp[h1,ae,cU,u];exact aK rfl rfl
def kW (s:Q) (x:List B) (t:Q) (y:List B) :Bool:=decide (t.toNat<s.toNat)||(decide (s=t)&&decide (0<cu x y))
theorem afS (s:Q) (x:List B) (t:Q) (y:List B) :(0<xd (Ct s t) (cu x y))<->kW s x t y=true:=by
 unfold xd Ct kW;by_cases h1:s.toNat<t.toNat
 ·have ae:s≠t:=fun h=>by rw[h] at h1; omega
  simp[h1,ae]; omega
 ·by_cases ae:t.toNat<s.toNat
  ·simp[h1,ae]
  ·have al:s=t:=asd (by omega);simp[al]
theorem U0 {l:ap} {j:Nat} {r:bP} (az:r.id.length=32) (aj:l[j]? = some (.cells 38 (bR r))) :ez 1 l (.au 1 j 6 32 32 38) j (r.id.map ci) :=by
 refine .au j 6 32 32 38 (bR r) _ aj (iu az) (by simp[az]) (fun e ao=>?_) (ar0 _) (by omega) ?_
 ·obtain⟨x,_,rfl⟩:=asr.1 ao; rfl
 ·simp only[bR,auX,as1];rw[arX (by simp[aQ,az]),x3]; rfl
theorem akS (a b:bP) (az:a.id.length=32) (ag:b.id.length=32) :bx Tryz.prog GS 139 [.aI (bR a),.aI (bR b)] (.bool (kW a.cl a.id b.cl b.id)) :=by
 refine bH Tryz.checked.mixed bD ?_;apply bm Tryz.func139 [[[0],[1],[2],[3],[5],[6],[7],[8],[4]]];have h1:=iu az;have ae:=iu ag;have al:=cA az;have aE:=cA ag;have abK:∀ h,(bR a)[5]'h=cU a.cl:=fun _=>rfl
 have abP:∀ h,(bR b)[5]'h=cU b.cl:=fun _=>rfl
 simp[h1,ae,abK,abP];refine aW (ZI _ _) rfl ?_;have ah:=E9 (some a.id) (some b.id) (by simp[az,ag]);simp;refine iW ah ?_ rfl ?_
 ·exact .cons ((U0 (j:=0) (r:=a) az rfl).na (fun _=>rfl) (some a.id) rfl rfl) (.cons ((U0 (j:=1) (r:=b) ag rfl).na (fun _=>rfl) (some b.id) rfl rfl) .nil)
 ·simp;refine iW (UR (Ct a.cl b.cl) (cu a.id b.id)) (.cons (VO (by simp)) .nil) rfl ?_;have am:=afS a.cl a.id b.cl b.id;simp;refine aK (congrArg ad.bool ?_) rfl;rw[auc,decide_eq_true_eq]; exact am
theorem VG (s:Q) (x:List B) (r:bP) (ai:x.length=32) (aA:r.id.length=32) :bx Tryz.prog GS 112 [cU s,.aI (aQ x),.aI (bR r)] (.bool (kW s x r.cl r.id)) :=by
 refine bH Tryz.checked.mixed bD ?_;apply bm Tryz.func112 [];unfold kW;have h1:=iu aA;have ae:=cA ai;have oF:∀ h,(bR r)[5]'h=cU r.cl:=fun _=>rfl
 have KJ:(bR r).drop 6=aQ r.id:=rfl;have yS:=cA aA;have ah:=NE x r.id ai aA;have eF:=eP x;have jY:=eP r.id;unfold fD at ah;obtain⟨X,b3⟩:∃ X,X=aQ x:=⟨_,rfl⟩
 obtain⟨Y,dC⟩:∃ Y,Y=aQ r.id:=⟨_,rfl⟩
 have gv:bx Tryz.prog GS 107 [.aI X,.aI Y] (.int .i64 (cu x r.id)) :=by rw[b3,dC]; exact ah
 obtain⟨R,gu⟩:∃ R,R=bR r:=⟨_,rfl⟩
 rw[<-gu] at h1 oF KJ ⊢;rw[<-b3] at ae eF ⊢;rw[<-dC] at KJ jY yS;by_cases aM:r.cl.toNat<s.toNat
 ·simp[h1,ae,oF,aM,u]
  skip
  exact aK (by simp[aM]) rfl
 ·by_cases ao:s=r.cl
  ·simp[h1,ae,oF,ao,KJ,yS,arX];refine aW gv (by simp[aZ,ad.closed,eF,jY]) ?_;simp;exact aK (by simp[ao]) rfl
  ·have gd:¬ ((s.toNat:Int)=(r.cl.toNat:Int)) :=fun h=>ao (asd (by omega))
   simp[h1,ae,oF,aM,ao,gd,u];exact aK (by simp[aM,ao]) rfl
theorem ahw (s:gp) (aq:hj s.l) (am:s.l.length<=1000000) (x:List UInt8) :bx Tryz.prog GS 15 [c8 s,.str x] (.int .i64 (hv x (s.l.map bP.key) 0)) :=by
 refine bH Tryz.checked.mixed bD ?_;apply bm Tryz.func15 [];have bn:cz (.au 38) (c8 s)=some (.int .i64 s.l.length) :=by simp[c8]
 simp;refine cw s.l.length (fun k af l=>af 0=c8 s/\af 1=.str x/\af 5=.int .i64 k/\∀ (j:Nat) (z:List UInt8),j<k->(s.l.map bP.key)[j]? = some z->z≠x) ?_ (by simp);rintro k af l hk ⟨cg,aL,bf,ak⟩;obtain⟨af,rfl⟩:=kb cg aL bf;clear cg aL bf;by_cases cH:k<s.l.length
 ·obtain⟨y,ay,ch⟩:=bu cH;have aR:IntKind.i64.wrap ((k:Int)+1)=((k+1:Nat) :Int) :=by rw[IntKind.wrap_i64]; omega
  have bG:cd (.au 38) (c8 s) (.int .i64 (k:Int))=some (.b0 (bR y) 0) :=by simp[c8,ay]
  have Av:(bR y)[0]? = some (.str y.key) :=rfl;have iR:(s.l.map bP.key)[k]? = some y.key:=by rw[ar5,ay]; rfl
  obtain⟨Y,dC⟩:∃ Y,Y=bR y:=⟨_,rfl⟩
  rw[<-dC] at bG Av;by_cases ao:y.key=x
  ·have fF:=y2 (n:=0) iR ak ao;simp[bn,cH,bG,Av,ao];exact aK (by rw[fF]; simp) rfl
  ·simp[bn,cH,bG,Av,ao,aR];intro j z aj BW aeR av;have qR:(s.l.map bP.key)[j]? = some z:=by rw[ar5,aeR,<-av]; rfl
   by_cases fB:j=k
   ·subst fB; rw[iR] at qR; obtain rfl:=Option.some.inj qR; exact ao
   ·exact ak j z (by omega) qR
 ·have g4:k=s.l.length:=by omega
  simp[bn,cH];exact aK (by rw[HA fun j z av=>ak j z (by have:=(arY.1 av).1; simp at this; omega) av]) rfl
def MC:List mG:=.s::.i .u8::.i .i64::.i .u64::.s::.i .u64::List.replicate 32 (.i .u8)
theorem afH:r4 Tryz.prog 20 50=some MC:=by kernel_rfl
theorem UI {r:bP} (h:r.id.length=32) :ih MC (bR r)=true:=by
 unfold MC bR;have:=ze r.id;rw[h] at this;simp only[ih,EF,asM];exact this
theorem YN {a b:bP} (az:a.id.length=32) (ag:b.id.length=32) :fk (bR a) (bR b)=decide (a=b) :=by
 unfold bR aQ;simp only[fk,ad.beq];rw[Cd a.id b.id (by omega)];obtain⟨ce,⟨eh,my,dx,t1⟩,fZ,eg⟩:=a;obtain⟨bI,⟨dz,ny,di,t2⟩,ho,eK⟩:=b;simp only[bP.mk.injEq,h6.mk.injEq];by_cases h1:ce=bI<;>by_cases ae:eh=dz<;>by_cases al:my=ny<;>by_cases aE:dx=di<;>by_cases aU:t1=t2<;>by_cases bz:fZ=ho<;>by_cases dy:eg=eK<;>simp[h1,ae,al,aE,aU,bz,dy]
theorem ahK {a b:bP} (az:a.id.length=32) (ag:b.id.length=32) :gq Tryz.prog .neq 50 (.aI (bR a)) (.aI (bR b))=some (.bool (!decide (a=b))) :=by
 rw[Fe afH (by kernel_rfl) (by kernel_rfl) (UI az) (UI ag),YN az ag]
theorem aiO (a b:gp) (az:hj a.l) (ag:hj b.l) (am:a.l.length<=1000000) :bx Tryz.prog GS 57 [.aI [c8 a],.aI [c8 b]] (.bool (decide (a.l=b.l))) :=by
 refine bH Tryz.checked.mixed bD ?_;apply bm Tryz.func57 [];have jx:cz (.au 38) (c8 a)=some (.int .i64 a.l.length) :=by simp[c8]
 have oL:cz (.au 38) (c8 b)=some (.int .i64 b.l.length) :=by simp[c8]
 by_cases h1:a.l.length=b.l.length
 ·have c3:((a.l.length:Int)=b.l.length) :=by omega
  simp[jx,oL,h1];refine cw a.l.length (fun k af l=>l=[.cells 1 [c8 a],.cells 1 [c8 b]]/\af 2=.ptr 0 0 1/\af 3=.ptr 1 0 1/\af 5=.int .i64 k/\∀ j,j<k->a.l[j]? = b.l[j]?) ?_ (by simp);rintro k af l hk ⟨rfl,aT,a7,bf,ak⟩;obtain⟨s,rfl⟩:=kb aT a7 bf;clear aT a7 bf;simp[jx];refine g8 (fun h=>?_) (fun h=>?_)
  ·simp only[decide_eq_true_eq] at h;obtain⟨x,ai,cE⟩:=bu h;obtain⟨y,ay,ch⟩:=bu (l:=b.l) (k:=k) (by omega);have aR:IntKind.i64.wrap ((k:Int)+1)=((k+1:Nat) :Int) :=by rw[IntKind.wrap_i64]; omega
   have bG:cd (.au 38) (c8 a) (.int .i64 (k:Int))=some (.b0 (bR x) 0) :=by simp[c8,ai]
   have jw:cd (.au 38) (c8 b) (.int .i64 (k:Int))=some (.b0 (bR y) 0) :=by simp[c8,ay]
   have a2:=iu (az x cE).id;have b4:=iu (ag y ch).id;have bU:=ahK (az x cE).id (ag y ch).id;obtain⟨X,b3⟩:∃ X,X=bR x:=⟨_,rfl⟩
   obtain⟨Y,dC⟩:∃ Y,Y=bR y:=⟨_,rfl⟩
   rw[<-b3] at bG a2 bU;rw[<-dC] at jw b4 bU;simp[bG,jw,a2,b4,arX,bU];by_cases ao:x=y
   ·simp[ao,aR];refine⟨by omega,fun j aj=>?_⟩;by_cases fB:j=k
    ·subst fB; rw[ai,ay,ao]
    ·exact ak j (by omega)
   ·simp[ao];refine aK (congrArg ad.bool (decide_eq_false fun fu=>ao ?_).symm) rfl;rw[fu,ay] at ai; exact (Option.some.inj ai).symm
  ·simp[h];have fR:k=a.l.length:=by simp at h; omega
   refine aK (congrArg ad.bool (decide_eq_true ?_).symm) rfl;apply asY;intro j;by_cases aj:j<a.l.length
   ·exact ak j (by omega)
   ·rw[ase (by omega),ase (by omega)]
 ·have c3:¬ ((a.l.length:Int)=b.l.length) :=by omega
  simp[jx,oL,h1,c3];exact aK (by rw[decide_eq_false (fun fu=>h1 (by rw[fu]))]) rfl
theorem afE (r:bP) (h:r.id.length=32) :bx Tryz.prog GS 93 [.aI (bR r)] (.str r.key) :=by
 refine bH Tryz.checked.mixed bD ?_;apply bm Tryz.func93 [];have h1:=iu h;have qo:∀ h,(bR r)[0]'h=.str r.key:=fun _=>rfl
 obtain⟨R,gu⟩:∃ R,R=bR r:=⟨_,rfl⟩
 rw[<-gu] at h1 qo ⊢;simp[h1,qo];exact aK rfl rfl
theorem aaZ:iv Tryz.prog 93=true:=by kernel_rfl
theorem QV:iv Tryz.prog 143=true:=by kernel_rfl
theorem QI (r:bP) (h:r.id.length=32) (k:List UInt8) {b:Nat} {l:ap} (ag:l[b]? = some (.cells 1 [.fn 93 [] []])) {K:ad->ap->Prop} (bl:K (.int .i64 (qc r.key k)) (l++[.cells 38 (bR r)])) :
  dr Tryz.prog GS 143 [.aI (bR r),.str k,.ptr b 0 1] l (c:=⟨K⟩) :=by
 apply bm Tryz.func143 [];have h1:=iu h;have SI:=afE r h;have jY:=mK r;obtain⟨R,gu⟩:∃ R,R=bR r:=⟨_,rfl⟩
 rw[<-gu] at h1 SI jY bl ⊢;have eC:b<l.length:=(arY.1 ag).1;have fm:(l++[aY.cells 38 R])[b]? = some (.cells 1 [.fn 93 [] []]) :=by rw[arZ eC]; exact ag
 simp[h1,fm,arX];refine⟨aaZ,aW SI (by simp[aZ,ad.closed,jY]) ?_⟩;simp;refine aW (P4 _ _) rfl ?_;simpa using bl
def eV (l:List bP) (x:List UInt8) :Nat:=(l.takeWhile fun t=>e6 t.key x).length
theorem P8 (x:List UInt8) :∀ {l:List bP} {p:Nat},p<=l.length->(∀ (t:Nat) (y:bP),t<p->l[t]? = some y->e6 y.key x=true)->(∀ y,l[p]? = some y->e6 y.key x=false)->eV l x=p
 | [],p,aC,_,_=>by simp at aC; subst aC; rfl
 | y::l,0,_,_,ae=>by
  have:=ae y rfl;unfold eV;rw[atH,this]; rfl
 | y::l,p+1,aC,h1,ae=>by
  have:=h1 0 y (by omega) rfl;have aO:=P8 x (l:=l) (p:=p) (by simpa using aC) (fun t z aJ av=>h1 (t+1) z (by omega) (by simpa using av)) (fun z av=>ae z (by simpa using av));unfold eV at *
  rw[atH,this];simp[aO]
def ju (l:List bP) (x:List UInt8) :Bool:=decide (eV l x<l.length)&&decide ((l0 l (eV l x)).key=x)
def HW (l:List bP) (x:List UInt8) :Prop:=∀ (i j:Nat) (a b:bP),i<=j->l[i]? = some a->l[j]? = some b->e6 b.key x=true->e6 a.key x=true
theorem ZH (a b:List UInt8) :(qc a b<0)<->e6 a b=true:=by
 unfold qc;by_cases h:e6 a b=true
 ·simp[h]
 ·rw[if_neg h];simp[h];split<;>omega
structure XH (s:gp) (x:List UInt8) (m:Nat) (af:bi) (l:ap) :Prop where
 ex:∃ (i j:Nat) (r:ap),j - i=m/\i<=j/\j<=s.l.length/\l=.cells 1 [.fn 93 [] []] ::r/\af 0=c8 s/\af 1=.str x/\af 2=.fn 143 [] [.ptr 0 0 1]/\af 8=.int .i64 s.l.length/\af 9=.int .i64 i/\af 10=.int .i64 j ∧
  (∀ (t:Nat) (y:bP),t<i->s.l[t]? = some y->e6 y.key x=true)/\(∀ (t:Nat) (y:bP),j<=t->s.l[t]? = some y->e6 y.key x=false)
theorem aiV (s:gp) (aq:hj s.l) (am:s.l.length<=1000000) (x:List UInt8) (hm:HW s.l x) {K:ad->ap->Prop} (bl:∀ l',K (.bJ [.int .i64 (eV s.l x),.bool (ju s.l x)]) l') :
  dr Tryz.prog GS 142 [c8 s,.str x,.fn 143 [] [.ptr 0 0 1]] [.cells 1 [.fn 93 [] []]] (c:=⟨K⟩) :=by
 apply bm Tryz.func142 [];have bn:cz (.au 38) (c8 s)=some (.int .i64 s.l.length) :=by simp[c8]
 simp[bn];refine r9 (XH s x) ?_ s.l.length _ _ ⟨0,s.l.length,[],by omega,by omega,by omega,rfl,by simp,by simp,by simp,by simp,by simp,by simp,fun t y h=>by omega,fun t y h ae=>by rw[ase h] at ae; cases ae⟩;rintro m af l ⟨i,j,r,gw,iy,e3,rfl,cg,aL,aT,de,fP,ft,h1,ae⟩;obtain⟨af,rfl⟩:=vp cg aL aT de fP ft;clear cg aL aT de fP ft;by_cases aM:i<j
 ·obtain⟨h,aH⟩:∃ h,h=(i+j) / 2:=⟨_,rfl⟩
  have bX:IntKind.i64.wrap ((i:Int)+j)=((i+j:Nat) :Int) :=by rw[IntKind.wrap_i64]; omega
  have w2:IntKind.u64.wrap ((i+j:Nat) :Int)=((i+j:Nat) :Int) :=by rw[vr,as2]; unfold u; rw[asn,asg (by omega)]
  have et:=Wr (i+j) (by omega);have oq:IntKind.i64.wrap (h:Int)=(h:Int) :=by rw[IntKind.wrap_i64]; omega
  have rh:IntKind.i64.wrap ((h:Int)+1)=((h+1:Nat) :Int) :=by rw[IntKind.wrap_i64]; omega
  rw[<-aH] at et;obtain⟨y,ay,ch⟩:=bu (l:=s.l) (k:=h) (by omega);have b4:=iu (aq y ch).id;have bG:cd (.au 38) (c8 s) (.int .i64 (h:Int))=some (.b0 (bR y) 0) :=by simp[c8,ay]
  have qq:=ZH y.key x;have yt:=fun (K:ad->ap->Prop)=>QI y (aq y ch).id x (b:=0) (l:=.cells 1 [.fn 93 [] []] ::r) (K:=K) rfl
  obtain⟨Y,dC⟩:∃ Y,Y=bR y:=⟨_,rfl⟩
  rw[<-dC] at b4 bG yt;obtain⟨N,fQ⟩:∃ N,N=i+j:=⟨_,rfl⟩
  rw[<-fQ] at bX w2 et;simp[aM,bX,w2,et,oq,bG,b4,arX];refine⟨QV,yt _ ?_⟩;by_cases bz:qc y.key x<0
  ·simp[bz,rh];refine⟨j - (h+1),by omega,h+1,j,_,rfl,by omega,by omega,rfl,by simp,by simp,by simp,by simp,by simp,by simp,fun t z aJ av=>?_,ae⟩;exact hm t h z y (by omega) av ay (qq.1 bz)
  ·simp[bz];refine⟨h - i,by omega,i,h,_,rfl,by omega,by omega,rfl,by simp,by simp,by simp,by simp,by simp,by simp,h1,fun t z aJ av=>?_⟩;cases dy:e6 z.key x with
   | false=>rfl
   | true=>exact absurd (qq.2 (hm h t y z aJ ay av dy)) bz
 ·obtain rfl:i=j:=by omega
  have ah:=P8 x (l:=s.l) (p:=i) e3 h1 (fun y ay=>ae i y (ar0 _) ay);by_cases cY:i<s.l.length
  ·obtain⟨y,ay,ch⟩:=bu (l:=s.l) (k:=i) cY;have b4:=iu (aq y ch).id;have bG:cd (.au 38) (c8 s) (.int .i64 (i:Int))=some (.b0 (bR y) 0) :=by simp[c8,ay]
   have C5:=P5 y.key x;have yt:=fun (K:ad->ap->Prop)=>QI y (aq y ch).id x (b:=0) (l:=.cells 1 [.fn 93 [] []] ::r) (K:=K) rfl
   obtain⟨Y,dC⟩:∃ Y,Y=bR y:=⟨_,rfl⟩
   rw[<-dC] at b4 bG yt;simp[cY,bG,b4,arX];refine⟨QV,yt _ ?_⟩;simp;have:ju s.l x=decide (qc y.key x=0) :=by
    unfold ju;rw[ah,nb ay,decide_eq_true cY,asM,decide_eq_decide];exact C5.symm
   rw[<-ah,<-this];exact bl _
  ·simp[cY];have:ju s.l x=false:=by
    unfold ju;rw[ah,decide_eq_false cY,asN]
   rw[<-this,<-ah];exact bl _
theorem aaW (s:gp) (aq:hj s.l) (am:s.l.length<=1000000) (x:List UInt8) (hm:HW s.l x) :
  bx Tryz.prog GS 92 [c8 s,.fn 93 [] [],.str x] (.bJ [.int .i64 (eV s.l x),.bool (ju s.l x)]) :=by
 refine bH Tryz.checked.mixed bD ?_;apply bm Tryz.func92 [];simp;refine aiV s aq am x hm fun l'=>?_
 simp;exact aK rfl rfl
end Op

end Go.cf

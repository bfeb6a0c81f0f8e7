/-
  Sets of tags: checked, keys; walked in both texts.
-/
import Derived.Test.YtobphgccoalchaaGreatDoorDk
import Derived.Shelf.Spec.SlicesInsertGrow
import Derived.Test.YtobphgccoalchaaGreatDoorRows
import Derived.Shelf.SlSortCmp.WholeK
import Derived.Shelf.SlGeneric
set_option linter.unusedVariables false
set_option linter.unusedSimpArgs false
set_option linter.unnecessarySimpa false
namespace Go.ct
open Go Go.Proofs
set_option maxRecDepth 100000
namespace Op
open hK
theorem R1 (a b:bF) :(qW a b<0)<->gF a b=true:=by
 unfold qW pQ we gF;by_cases h:a.key=b.key
 ·have aB:fi b.key b.key=false:=by
   cases ai:fi b.key b.key with
   | false=>rfl
   | true=>exact absurd ((uG _ _).1 ai) (aF7 _)
  simp[h,aB]
 ·cases ai:fi a.key b.key with
  | true=>simp[h]
  | false=>simp[h]
def nu (l:List bF) (k:Nat) :bF:=l.getD k ⟨[],[]⟩
theorem oH {l:List bF} {k:Nat} {x:bF} (h:l[k]? = some x) :nu l k=x:=by
 unfold nu; rw[aC2,h]; rfl
def sj (l:List bF) (k:Nat) :Bool:=hz (nu l k).key&&(decide (k=0)||gF (nu l (k - 1)) (nu l k))
def pY (l:List bF) :Bool:=decide (∀ k,k<l.length->sj l k=true)
def iA (l:List bF) :Int:=if 60<l.length then 4 else if pY l then 0 else 8
theorem Ti {l:List bF} (h:∀ k,k<l.length->sj l k=true) :pY l=true:=decide_eq_true h
theorem E5 {l:List bF} {k:Nat} (hk:k<l.length) (h:sj l k=false) :pY l=false:=decide_eq_false fun aR=>by rw[aR k hk] at h; cases h
theorem NT (k:List UInt8) :kP ⟨2#8,k,jN⟩=hz k:=by
 rw[El rfl];have:nT jN=true:=by decide
 simp[this]
theorem yE {E:List ad} (h:E.length=33) :bO (ad.str [] ::rep 32 (.int .u8 0)) 0 E=E:=fM (by rw[h]; rfl)
theorem Nu (s:e7) (ax:gY s.l) (ar:s.l.length<=1000000) :bE Tryz.prog GS 58 [.aM [cE s]] (.int .i64 (iA s.l)) :=by
 refine bS Tryz.checked.mixed bP ?_;apply bw ahy asg;unfold Rf aa7 iA;have bu:c1 (.av 33) (cE s)=some (.int .i64 s.l.length) :=by simp[cE]
 by_cases h1:60<s.l.length
 ·have du:(60:Int)<(s.l.length:Int) :=by omega
  simp[bu,du];exact aJ (by rw[if_pos h1]) rfl
 ·have du:¬ (60:Int)<(s.l.length:Int) :=by omega
  simp[bu,du];refine c2 s.l.length (fun k ah l=>(∃ r,l=.cells 1 [cE s] ::r)/\ah 1=.ptr 0 0 1/\ah 10=cE s/\ah 11=.int .i64 s.l.length/\ah 12=.int .i64 k/\∀ j,j<k->sj s.l j=true) ?_ (by simp);rintro k ah l hk ⟨⟨r,rfl⟩,aW,gJ,hN,g1,ap⟩;obtain⟨ah,rfl⟩:=hW aW gJ hN g1;clear aW gJ hN g1;unfold W6;simp;refine im (fun h=>?_) (fun h=>?_)
  ·simp only[decide_eq_true_eq] at h;obtain⟨y,aE,b6⟩:=bV (l:=s.l) (k:=k) (by omega);have b8:=iI (ax y b6);have a2:IntKind.i64.wrap ((k:Int)+1)=((k+1:Nat) :Int) :=by rw[IntKind.wrap_i64]; omega
   have b7:1<=k->IntKind.i64.wrap ((k:Int) - 1)=((k - 1:Nat) :Int) :=fun h=>by rw[IntKind.wrap_i64]; omega
   have tO:=Iv ⟨2#8,y.key,jN⟩;rw[NT] at tO;have eC:sj s.l k=(hz y.key&&(decide (k=0)||gF (nu s.l (k - 1)) y)) :=by unfold sj; rw[oH aE]
   have hx:=yE b8;obtain⟨E,fm⟩:∃ E,E=a1 y.id:=⟨_,rfl⟩
   have oZ:b3 y=.str y.key::E:=by rw[fm]; rfl
   have kU:E.length=32:=by rw[fm]; exact c3 (ax y b6)
   have Jk:a7 E=true:=by rw[fm]; exact fK _
   rw[oZ] at b8 hx;simp[cE,aE,oZ,kU,hx,aCI];refine a8 tO rfl ?_;cases bd:hz y.key with
   | false=>
    rw[bd,aDJ] at eC;simp[gT];exact aJ (by rw[if_neg h1,E5 h eC]; rfl) rfl
   | true=>
    rw[bd,aDL] at eC;rcases k with _ | k
    ·simp[gT,a2];exact⟨by omega,rfl,by rw[IntKind.wrap_i64]; omega,by rw[eC]; rfl⟩
    ·obtain⟨x,al,dT⟩:=bV (l:=s.l) (k:=k) (by omega);have bm:=iI (ax x dT);have dG:IntKind.i64.wrap (k:Int)=(k:Int) :=by rw[IntKind.wrap_i64]; omega
     have h5:(0:Int)<(k:Int)+1:=by omega
     have hs:=R2 x y (ax x dT) (ax y b6);rw[oZ] at hs;simp only[aEu,oH al,aE5,aFw,and_false,decide_false,aEF] at eC;simp[gT,h5,al,bm,dG,kU,aCI];refine a8 hs (by simp[a7,ad.closed,Jk,lW]) ?_;have p2:=R1 x y;by_cases bM:qW x y<0
     ·rw[p2.1 bM] at eC;have sm:¬ (0:Int)<=qW x y:=by omega
      simp[sm,a2];refine⟨by omega,rfl,by rw[IntKind.wrap_i64]; omega,fun j am=>?_⟩;by_cases eL:j=k+1
      ·rw[eL,eC]
      ·exact ap j (by omega)
     ·have sm:(0:Int)<=qW x y:=by omega
      have dq:gF x y=false:=by
       cases fl:gF x y with
       | false=>rfl
       | true=>exact absurd (p2.2 fl) bM
      rw[dq] at eC;simp[sm];exact aJ (by rw[if_neg h1,E5 h eC]; rfl) rfl
  ·simp[h];have gV:k=s.l.length:=by simp at h; omega
   exact aJ (by rw[if_neg h1,if_pos (Ti fun j am=>ap j (by omega))]) rfl
abbrev iP (l:List (List UInt8)) (k:Nat) :List UInt8:=l.getD k []
def pR (l:List (List UInt8)) (m:Nat) :List (List UInt8) :=(List.range m).flatMap fun k=>if k=0\/iP l k≠iP l (k - 1) then [iP l k] else []
def sb (l:List (List UInt8)) :List (List UInt8) :=pR l l.length
theorem BF (l:List (List UInt8)) (m:Nat) :pR l (m+1)=pR l m++(if m=0\/iP l m≠iP l (m - 1) then [iP l m] else []) :=by
 unfold pR; rw[aEw,aEL]; simp
theorem Sd (l:List (List UInt8)) :∀ m,(pR l m).length<=m
 | 0=>by simp[pR]
 | m+1=>by
  have:=Sd l m;rw[BF,aCS];split<;>simp<;>omega
theorem EI {l:List (List UInt8)}:∀ {m},m<=l.length->(∀ k,1<=k->k<m->iP l k≠iP l (k - 1))->pR l m=l.take m
 | 0,_,_=>by simp[pR]
 | m+1,hm,h=>by
  rw[BF,EI (by omega) (fun k h1 ag=>h k h1 (by omega)),aC4,if_pos (by
   by_cases aG:m=0
   ·exact .inl aG
   ·exact .inr (h m (by omega) (by omega)))]
  congr 1;unfold iP;rw[aC2,aCM (by omega)];rfl
theorem VR {a:List (List UInt8)} {k:Nat} (h:k<a.length) :(a.map kT)[k]? = some (kT (iP a k)) :=by
 rw[aCO];unfold iP;rw[aC2,aCM h];rfl
theorem VG {a:List (List UInt8)} {k:Nat} (h:k<a.length) :iP a k∈a:=by
 unfold iP;rw[aC2,aCM h];exact aFT h
structure adF (l:aw) (v:ad) (xs:List (List UInt8)) (k:Nat) (ah:bB) (l1:aw) :Prop where
 cd:ah 0=v
 bj:ah 3=.int .i64 ((k+1:Nat) :Int)
 ar:l1=l
 ap:∀ j,1<=j->j<k+1->iP xs j≠iP xs (j - 1)
structure adE (l:aw) (v ei:ad) (j:Nat) (xs:List (List UInt8)) (m i:Nat) (ah:bB) (cf:aw) :Prop where
 cd:ah 0=v
 bL:ah 4=ei
 bC:ah 5=.int .i64 ((i+1:Nat) :Int)
 ex:∃ (k:Nat) (bt:List (List UInt8)),ah 3=.int .i64 (k:Int)/\bW 1 cf v j (bt.map kT)/\bt.length=xs.length/\(∀ y∈bt,y.length=y.length)/\bt.take k=pR xs (m+i+1)/\k<=m+i/\(∀ t,m+i<=t->iP bt t=iP xs t)/\cf.length=l.length/\∀ b,b≠j->cf[b]? = l[b]?
theorem VH {l:aw} {v:ad} {j:Nat} {bt:List (List UInt8)} (h:eJ 1 l v j (bt.map kT)) {k:Nat} (hk:k<bt.length) :
  ∃ p cs o,cC (.av 1) v (.int .i64 (k:Int))=some p/\e4 l p=some (cs,o)/\cs[o]? = some (.str (iP bt k)) :=by
 obtain⟨p,cs,o,h1,ag,aq,aH⟩:=h.get (k:=.i64) (VR hk);refine⟨p,cs,o,h1,ag,?_⟩;have:=congrArg (fun l=>l[0]?) aH;simp only[aFc,aDh,kT] at this;simpa using this
theorem VI {l:aw} {v:ad} {j m:Nat} {bt:List (List UInt8)} (h:eJ 1 l v j ((bt.map kT).drop m)) {k:Nat} (hk:m+k<bt.length) :
  ∃ p cs o,cC (.av 1) v (.int .i64 (k:Int))=some p/\e4 l p=some (cs,o)/\cs[o]? = some (.str (iP bt (m+k))) :=by
 obtain⟨p,cs,o,h1,ag,aq,aH⟩:=h.get (k:=.i64) (i:=k) (e:=kT (iP bt (m+k))) (by rw[aDh]; exact VR hk);refine⟨p,cs,o,h1,ag,?_⟩;have:=congrArg (fun l=>l[0]?) aH;simp only[aFc,aDh,kT] at this;simpa using this
theorem aix {fz l:aw} {v:ad} {xs:List (List UInt8)} {fr:Bool} (h:cA 1 kT fz l v xs fr) (al:∀ x∈xs,x.length=x.length) (aI:xs.length<=1000000) {K:ad->aw->Prop} (bA:∀ r l',cA 1 kT fz l' r (sb xs) fr->K r l') :
  dS Tryz.prog GS 140 [v] l (c:=⟨K⟩) :=by
 apply bw afC aqi;unfold Pk Zd;have bu:=h.len;by_cases ag:xs.length<2
 ·have eV:(xs.length:Int)<2:=by omega
  have sr:sb xs=xs:=by
   unfold sb;rw[EI (aCL _) (fun k h1 aq=>by omega),aDi]
  simp[bu,eV];exact bA _ _ (by rw[sr]; exact h)
 ·have eV:¬ (xs.length:Int)<2:=by omega
  simp[bu,eV];refine c2 (xs.length - 1) (adF l v xs) ?_ ⟨by simp,by simp,rfl,fun j h1 aq=>by omega⟩;rintro k ah l1 hk ⟨cd,bj,rfl,ap⟩;obtain⟨ah,rfl⟩:=lS cd bj;clear cd bj;obtain⟨m,hm⟩:∃ m,m=k+1:=⟨_,rfl⟩
  rw[<-hm] at ap ⊢;unfold We;by_cases aP:m<xs.length
  ·have a2:IntKind.i64.wrap ((m:Int) - 1)=(k:Int) :=by rw[IntKind.wrap_i64]; omega
   have b7:IntKind.i64.wrap ((m:Int)+1)=((m+1:Nat) :Int) :=by rw[IntKind.wrap_i64]; omega
   have h4:(m:Int)<(xs.length:Int) :=by omega
   obtain⟨j,ax,kZ⟩:=h;obtain⟨ux,cT,rC,br,bI,a4⟩:=VH ax.q aP;obtain⟨uy,dF,mJ,dE,dA,kQ⟩:=VH ax.q (k:=k) (by omega);obtain⟨X,ce⟩:∃ X,X=iP xs m:=⟨_,rfl⟩
   obtain⟨Y,dB⟩:∃ Y,Y=iP xs k:=⟨_,rfl⟩
   rw[<-ce] at a4;rw[<-dB] at kQ;by_cases au:X=Y
   ·have rc:decide (X=Y)=true:=decide_eq_true au;have ay:cX v=false:=by
     cases CG:cX v with
     | false=>rfl
     | true=>
      have:=jB.1 CG;subst this;have:=ax.q.rz;rw[aDQ] at this;rw[this] at aP; simp at aP
    obtain⟨ei,hF,jG,_⟩:=ax.q.from ay (k:=.i64) (i:=m) (by simp; omega);have aG:pR xs m=xs.take m:=EI (by omega) ap;have h1:pR xs (m+1)=xs.take m:=by rw[BF,if_neg (fun h=>h.elim (fun aG=>by omega) (fun ag=>ag (by rw[<-ce,show m - 1=k by omega,<-dB]; exact au))),aG,aDl]
    simp[bu,h4,a2,br,bI,a4,dE,dA,kQ,au,hF];refine c2 (xs.length - m - 1) (adE l1 v ei j xs m) ?_ ⟨by simp,by simp,by simp,m,xs,by simp,ax,rfl,al,h1.symm,by omega,fun t _=>rfl,rfl,fun b _=>rfl⟩;rintro i ah cf aB ⟨cd,bL,bC,q,bt,bj,bD,b8,oA,hC,vJ,l5,xV,lD⟩;obtain⟨ah,rfl⟩:=hW cd bj bL bC;clear cd bj bL bC;obtain⟨dO,JY⟩:∃ dO,dO=i+1:=⟨_,rfl⟩
    rw[<-JY];unfold Wd;obtain⟨avB,DS,yz,_⟩:=bD.q.from ay (k:=.i64) (i:=m) (by simp; omega);rw[hF] at DS;obtain rfl:=Option.some.inj DS;have gk:=yz.len;rw[aDS,aCZ,b8] at gk;by_cases pd:dO<xs.length - m
    ·have tU:(dO:Int)<((xs.length - m:Nat) :Int) :=by omega
     have cb:IntKind.i64.wrap ((dO:Int) - 1)=(i:Int) :=by rw[IntKind.wrap_i64]; omega
     have w2:IntKind.i64.wrap ((dO:Int)+1)=((dO+1:Nat) :Int) :=by rw[IntKind.wrap_i64]; omega
     have eF:IntKind.i64.wrap ((q:Int)+1)=((q+1:Nat) :Int) :=by rw[IntKind.wrap_i64]; omega
     obtain⟨AP,kS,qz,gD,iV,jl⟩:=VI yz (k:=dO) (by omega);obtain⟨G2,ie,sV,hp,jL,mg⟩:=VI yz (k:=i) (by omega);have rp:=oA _ (VG (a:=bt) (k:=m+dO) (by omega));have j1:=oA _ (VG (a:=bt) (k:=m+i) (by omega));have qm:=l5 (m+dO) (by omega);have nQ:=l5 (m+i) (by omega);have bX:=BF xs (m+dO);rw[show m+dO - 1=m+i by omega] at bX;obtain⟨mV,Jz⟩:∃ X,X=iP bt (m+dO) :=⟨_,rfl⟩
     obtain⟨wW,Ce⟩:∃ Y,Y=iP bt (m+i) :=⟨_,rfl⟩
     rw[<-Jz] at jl rp qm;rw[<-Ce] at mg nQ;rw[<-qm,<-nQ] at bX;rw[show m+i+1=m+dO by omega] at hC;by_cases o5:mV=wW
     ·have tX:decide (mV=wW)=true:=decide_eq_true o5;rw[if_neg (fun h=>h.elim (fun aG=>by omega) (fun ag=>ag o5)),aDl] at bX;simp[gk,tU,cb,gD,iV,jl,hp,jL,mg,o5,w2];exact⟨by omega,by simp,by simp,by simp,q,bt,by simp,bD,b8,oA,by rw[bX]; exact hC,by omega,fun t aQ=>l5 t (by omega),xV,lD⟩
     ·have tX:decide (mV=wW)=false:=decide_eq_false o5;rw[if_pos (.inr o5)] at bX;obtain⟨LZ,fb,iB,hq,z3,z4,z5⟩:=yo (X:=.str mV) rfl bD (fun _ _=>rfl) (k:=q) (x:=mV) (by omega) rfl;simp[gk,tU,cb,gD,iV,jl,hp,jL,mg,o5,w2,eF,iB,hq];have D6:(bt.take q).length=q:=by rw[aCX]; omega
      have l6:(bt.set q mV).take (q+1)=bt.take q++[mV] :=by
       rw[aD0,if_pos (by omega),aEz,D6,aCI (by omega),show q+1 - q=1 by omega]; simp
      refine⟨by omega,by simp,by simp,by simp,q+1,bt.set q mV,by simp,z3,by simp[b8],fun y aE=>?_,by rw[l6,bX,hC],by omega,fun t aQ=>?_,by omega,fun b ai=>(z5 b ai).trans (lD b ai)⟩
      ·rcases aDX aE with h | h
       ·exact oA _ h
       ·rw[h]
      ·have:=l5 t (by omega);unfold iP at this ⊢;rw[aC2,aCU (by omega),<-aC2];exact this
    ·have tU:¬ (dO:Int)<((xs.length - m:Nat) :Int) :=by omega
     obtain⟨v3,fb,r,iB,hq,z3,z4,z5,adn,Ee⟩:=X5 (z:=1) (zr:=[.str []]) rfl bD (k:=q) (by omega);simp[gk,tU,iB,hq,z3];obtain⟨aW,bg,bj,bL⟩:=kZ;have Cx:fz.length<=j:=bj.resolve_left (fun h=>by rw[h] at ay; cases ay);have xK:m+i+1=xs.length:=by omega
     rw[xK] at hC;refine bA _ _ ⟨j,by unfold sb; rw[<-hC]; exact z4,by omega,fun b ai=>?_,.inr Cx,by rw[z5,<-bL,ay]⟩;rw[Ee b (by omega),lD b (by omega)];exact bg b ai
   ·have rc:decide (X=Y)=false:=decide_eq_false au;simp[bu,h4,a2,br,bI,a4,dE,dA,kQ,au,b7];refine⟨by omega,by simp,by simp[hm],rfl,fun t h1 ag=>?_⟩;by_cases aQ:t=m
    ·rw[aQ,<-ce,show m - 1=k by omega,<-dB]; exact au
    ·exact ap t h1 (by omega)
  ·have h4:¬ (m:Int)<(xs.length:Int) :=by omega
   have sr:sb xs=xs:=by
    unfold sb;rw[EI (aCL _) (fun k h1 aq=>ap k h1 (by omega)),aDi]
   simp[bu,h4];exact bA _ _ (by rw[sr]; exact h)
theorem qD {l:aw} {a b fA bK:ad} (h1:Rd l a fA) (ag:Rd l b bK) :Rd l (.b5 [a,b]) (.b5 [fA,bK]) :=by
 refine .b5 _ _ rfl fun j x Nx al x8=>?_
 rcases j with _ | _ | j
 ·simp at al x8; subst al x8; exact h1
 ·simp at al x8; subst al x8; exact ag
 ·simp at al
theorem s4 {l:aw} {a fA:ad} (h1:Rd l a fA) :Rd l (.aM [a]) (.aM [fA]) :=by
 refine .aM _ _ rfl fun j x Nx al x8=>?_
 rcases j with _ | j
 ·simp at al x8; subst al x8; exact h1
 ·simp at al
theorem apx {l l1:aw} {v:ad} {a:List (List UInt8)} {fr:Bool} (h:cA 1 kT l l1 v a fr) (x:List UInt8) (eb:a.length<=1000000000) :
  ∃ bl l',g8 (l1++[.cells 1 [.str x]]) 1 16 v (.av 1 l1.length 0 1 1 1)=some (bl,l')/\cA 1 kT l l' bl (a++[x]) false:=by
 have aC:c4=140737488355328:=rfl;obtain⟨bl,l',aW,bg,_⟩:=(h.more [.cells 1 [.str x]]).app (by_:=16) (x:=.av 1 l1.length 0 1 1 1) (xs:=[x]) (by simp[dL,kT]) (by simp[kT]) (by omega) (by omega) (by rw[aC]; simp; omega);exact⟨bl,l',aW,by simpa using bg⟩
def A9 (l:List bF) :uU:=if l=[] then none else some (sb (l.map bF.key))
theorem anY (l:List bF) (k:Nat) :((l.map bF.key).take k).length<=l.length:=by simp; omega
structure adN (s:e7) (k:Nat) (ah:bB) (l:aw) :Prop where
 I0:ah 14=cE s
 xg:ah 15=.int .i64 s.l.length
 sh:ah 16=.int .i64 k
 rD:∃ v,ah 5=v/\cA 1 kT [.cells 1 [cE s]] l v ((s.l.map bF.key).take k) (decide (k=0))
def um (l:List bF) :uU:=if iA l=0 then A9 l else none
theorem av3 (s:e7) (ax:gY s.l) (ar:s.l.length<=1000000) :bE Tryz.prog GS 90 [.aM [cE s]] (.b5 [xb (um s.l),.int .i64 (iA s.l)]) :=by
 refine bS Tryz.checked.mixed bP ?_;apply bw ahX asF;unfold RD abx um;have bu:c1 (.av 33) (cE s)=some (.int .i64 s.l.length) :=by simp[cE]
 have eB:=lv s;have cU:=Nu s ax ar;simp;refine a8 cU (by simp[a7,ad.closed,eB]) ?_;by_cases aG:iA s.l=0
 ·simp[aG,bu];refine c2 s.l.length (adN s) ?_ ⟨by simp,by simp,by simp,.aK,by simp,by simpa using cA.nil⟩;rintro k ah l hk ⟨I0,xg,sh,v,bC,dC⟩;obtain⟨ah,rfl⟩:=hW bC I0 xg sh;clear bC I0 xg sh;unfold Xk;simp;refine im (fun h=>?_) (fun h=>?_)
  ·simp only[decide_eq_true_eq] at h;obtain⟨y,aE,b6⟩:=bV (l:=s.l) (k:=k) (by omega);have b8:=iI (ax y b6);have a2:IntKind.i64.wrap ((k:Int)+1)=((k+1:Nat) :Int) :=by rw[IntKind.wrap_i64]; omega
   have hx:=yE b8;obtain⟨E,fm⟩:∃ E,E=a1 y.id:=⟨_,rfl⟩
   have oZ:b3 y=.str y.key::E:=by rw[fm]; rfl
   have kU:E.length=32:=by rw[fm]; exact c3 (ax y b6)
   rw[oZ] at b8 hx;have dt:=anY s.l k;obtain⟨bl,l',br,bI⟩:=apx (dC.more [.cells 33 (.str y.key::E)]) y.key (by omega);have l6:(s.l.map bF.key).take (k+1)=(s.l.map bF.key).take k++[y.key] :=by rw[aC4,aCO,aE]; rfl
   simp at br;simp[cE,aE,oZ,kU,hx,br,aCI];refine dx.c6 ?_;simp[a2];refine⟨by omega,by simp[cE],by simp,by simp,bl,by simp,by rw[l6]; simpa using bI⟩
  ·simp[h];have gV:k=s.l.length:=by simp at h; omega
   have aQ:(s.l.map bF.key).take k=s.l.map bF.key:=aCI (by simp[gV]);rw[aQ] at dC;refine aix dC (fun _ _=>rfl) (by simp; omega) fun r cf ag=>?_
   simp;rw[if_pos aG,aG];refine qD (ag.rd (fun _=>rfl) (A9 s.l) ?_ ?_) (.same _ rfl)
   ·rw[gV]; unfold A9;cases dI:s.l with
    | nil=>rfl
    | cons a r=>simp
   ·unfold A9;split
    ·rename_i au; rw[au]; rfl
    ·rfl
 ·simp[aG];exact aJ (by simp[xb,c0]) rfl
def Cg (l:List bF) (k:List UInt8) :Bool:=decide (k∈(um l).l)
theorem aiJ (l:List (List UInt8)) :(sb l).length<=l.length:=Sd l _
theorem anX (l:List bF) :(um l).l.length<=l.length:=by
 have:=aiJ (l.map bF.key);unfold um A9;split
 ·split
  ·simp
  ·simpa using this
 ·simp
theorem avY (s:e7) (ax:gY s.l) (ar:s.l.length<=1000000) (x:List UInt8) :bE Tryz.prog GS 44 [.aM [cE s],.str x] (.b5 [.bool (Cg s.l x),.int .i64 (iA s.l)]) :=by
 refine bS Tryz.checked.mixed bP ?_;apply bw ahj ar1;unfold Q0 aaT Cg;have eB:=lv s;have Uu:=RU (um s.l);have dt:=anX s.l;simp;refine a8 (av3 s ax ar) (by simp[a7,ad.closed,eB]) ?_;simp;refine a8 (av0 (um s.l) (by omega) x) (by simp[a7,ad.closed,Uu]) ?_;simp;exact aJ rfl rfl
theorem abP (s:e7) (ax:gY s.l) (ar:s.l.length<=1000000) :bE Tryz.prog GS 62 [.aM [cE s]] (.int .i64 (iA s.l)) :=by
 refine bS Tryz.checked.mixed bP ?_;apply bw ahC asl;unfold Rj abd iA;have bu:c1 (.av 33) (cE s)=some (.int .i64 s.l.length) :=by simp[cE]
 by_cases h1:60<s.l.length
 ·have du:(60:Int)<(s.l.length:Int) :=by omega
  simp[bu,du];exact aJ (by rw[if_pos h1]) rfl
 ·have du:¬ (60:Int)<(s.l.length:Int) :=by omega
  simp[bu,du];refine c2 s.l.length (fun k ah l=>l=[.cells 1 [cE s]]/\ah 1=.ptr 0 0 1/\ah 3=.int .i64 k/\∀ j,j<k->sj s.l j=true) ?_ (by simp);rintro k ah l hk ⟨rfl,aW,bj,ap⟩;obtain⟨ah,rfl⟩:=lS aW bj;clear aW bj;unfold W9;simp[bu];refine im (fun h=>?_) (fun h=>?_)
  ·simp only[decide_eq_true_eq] at h;obtain⟨y,aE,b6⟩:=bV (l:=s.l) (k:=k) (by omega);have b8:=iI (ax y b6);have a2:IntKind.i64.wrap ((k:Int)+1)=((k+1:Nat) :Int) :=by rw[IntKind.wrap_i64]; omega
   have tO:=Dn y.key;have eC:sj s.l k=(hz y.key&&(decide (k=0)||gF (nu s.l (k - 1)) y)) :=by unfold sj; rw[oH aE]
   obtain⟨E,fm⟩:∃ E,E=a1 y.id:=⟨_,rfl⟩
   have oZ:b3 y=.str y.key::E:=by rw[fm]; rfl
   have kU:E.length=32:=by rw[fm]; exact c3 (ax y b6)
   have Jk:a7 E=true:=by rw[fm]; exact fK _
   simp[cE,aE,oZ];refine a8 tO rfl ?_;cases bd:hz y.key with
   | false=>
    rw[bd,aDJ] at eC;simp;exact aJ (by rw[if_neg h1,E5 h eC]; rfl) rfl
   | true=>
    rw[bd,aDL] at eC;rcases k with _ | k
    ·simp[a2,cE]
     and_intros<;>first | omega | rfl | (rw[IntKind.wrap_i64]; omega) | (rw[eC]; rfl)
    ·obtain⟨x,al,dT⟩:=bV (l:=s.l) (k:=k) (by omega);have bm:=iI (ax x dT);have dG:IntKind.i64.wrap (k:Int)=(k:Int) :=by rw[IntKind.wrap_i64]; omega
     have h5:(0:Int)<(k:Int)+1:=by omega
     have hs:=Xq x y (ax x dT) (ax y b6);rw[oZ] at hs;simp only[aEu,oH al,aE5,aFw,and_false,decide_false,aEF] at eC;simp[h5,al,aE,oZ,bm,dG,kU,aCI];refine⟨by omega,?_⟩;refine a8 hs (by simp[a7,ad.closed,Jk,lW]) ?_;cases bM:gF x y with
     | true=>
      rw[bM] at eC;simp[a2];refine⟨by omega,rfl,by rw[IntKind.wrap_i64]; omega,fun j am=>?_⟩;by_cases eL:j=k+1
      ·rw[eL,eC]
      ·exact ap j (by omega)
     | false=>
      rw[bM] at eC;simp;exact aJ (by rw[if_neg h1,E5 h eC]; rfl) rfl
  ·simp[h];have gV:k=s.l.length:=by simp at h; omega
   exact aJ (by rw[if_neg h1,if_pos (Ti fun j am=>ap j (by omega))]) rfl
def JG (l:List bF) (k:List UInt8) :Bool:=decide (iA l=0)&&o2 l k
def s2 (l:List bF) (m:Nat) :List (List UInt8) :=(List.range m).flatMap fun k=>if o2 (l.take k) (nu l k).key then [] else [(nu l k).key]
theorem abL (l:List bF) (m:Nat) :s2 l (m+1)=s2 l m++(if o2 (l.take m) (nu l m).key then [] else [(nu l m).key]) :=by
 unfold s2; rw[aEw,aEL]; simp
def Mg (l:List bF) :uU:=if l=[] then none else some (s2 l l.length)
def Lr (l:List bF) :uU:=if iA l=0 then Mg l else none
structure awA (s:e7) (k:Nat) (ah:bB) (l:aw) :Prop where
 aW:ah 1=.ptr 0 0 1
 bC:ah 5=.int .i64 k
 rD:∃ v,ah 4=v/\cA 1 kT [.cells 1 [cE s]] l v (s2 s.l k) (decide (k=0))
def Ln:List mi:=.s::List.replicate 32 (.i .u8)
theorem VQ:qw Tryz.prog 20 53=some Ln:=by kernel_rfl
theorem GX {t:bF} (h:t.id.length=32) :ir Ln (b3 t)=true:=by
 unfold Ln b3;have:=yn t.id;rw[h] at this;simp only[ir,D5,aDL];exact this
theorem On {a b:bF} (aD:a.id.length=32) (ai:b.id.length=32) :fJ (b3 a) (b3 b)=decide (a=b) :=by
 unfold b3 a1;simp only[fJ,ad.beq];rw[Bp a.id b.id (by omega)];cases a; cases b;simp only[bF.mk.injEq];rename_i cn dO cc fF;by_cases h1:cn=cc<;>by_cases ag:dO=fF<;>simp[h1,ag]
theorem au1 {a b:bF} (aD:a.id.length=32) (ai:b.id.length=32) :gu Tryz.prog .eql 53 (.aM (b3 a)) (.aM (b3 b))=some (.bool (decide (a=b))) :=by
 rw[yY VQ (by kernel_rfl) (by kernel_rfl) (GX aD) (GX ai),On aD ai]
theorem acM {a b:bF} (aD:a.id.length=32) (ai:b.id.length=32) :gu Tryz.prog .neq 53 (.aM (b3 a)) (.aM (b3 b))=some (.bool (!decide (a=b))) :=by
 rw[Et VQ (by kernel_rfl) (by kernel_rfl) (GX aD) (GX ai),On aD ai]
theorem at7 (a b:e7) (aD:gY a.l) (ai:gY b.l) (ar:a.l.length<=1000000) :bE Tryz.prog GS 56 [.aM [cE a],.aM [cE b]] (.bool (decide (a.l=b.l))) :=by
 refine bS Tryz.checked.mixed bP ?_;apply bw ahw ase;unfold Rc aa5;have ht:c1 (.av 33) (cE a)=some (.int .i64 a.l.length) :=by simp[cE]
 have iX:c1 (.av 33) (cE b)=some (.int .i64 b.l.length) :=by simp[cE]
 by_cases h1:a.l.length=b.l.length
 ·have du:((a.l.length:Int)=b.l.length) :=by omega
  simp[ht,iX,h1];refine c2 a.l.length (fun k ah l=>l=[.cells 1 [cE a],.cells 1 [cE b]]/\ah 2=.ptr 0 0 1/\ah 3=.ptr 1 0 1/\ah 5=.int .i64 k/\∀ j,j<k->a.l[j]? = b.l[j]?) ?_ (by simp);rintro k ah l hk ⟨rfl,bg,bj,bC,ap⟩;obtain⟨s,rfl⟩:=jJ bg bj bC;clear bg bj bC;unfold W4;simp[ht];refine im (fun h=>?_) (fun h=>?_)
  ·simp only[decide_eq_true_eq] at h;obtain⟨x,al,dT⟩:=bV h;obtain⟨y,aE,b6⟩:=bV (l:=b.l) (k:=k) (by omega);have a2:IntKind.i64.wrap ((k:Int)+1)=((k+1:Nat) :Int) :=by rw[IntKind.wrap_i64]; omega
   have bZ:cC (.av 33) (cE a) (.int .i64 (k:Int))=some (.cm (b3 x) 0) :=by simp[cE,al]
   have je:cC (.av 33) (cE b) (.int .i64 (k:Int))=some (.cm (b3 y) 0) :=by simp[cE,aE]
   have bm:=iI (aD x dT);have b8:=iI (ai y b6);have b2:=acM (aD x dT) (ai y b6);obtain⟨X,ce⟩:∃ X,X=b3 x:=⟨_,rfl⟩
   obtain⟨Y,dB⟩:∃ Y,Y=b3 y:=⟨_,rfl⟩
   rw[<-ce] at bZ bm b2;rw[<-dB] at je b8 b2;simp[bZ,je,bm,b8,aCI,b2];by_cases au:x=y
   ·simp[au,a2];refine⟨by omega,fun j am=>?_⟩;by_cases eL:j=k
    ·subst eL; rw[al,aE,au]
    ·exact ap j (by omega)
   ·simp[au];refine aJ (congrArg ad.bool (decide_eq_false fun eP=>au ?_).symm) rfl;rw[eP,aE] at al; exact (Option.some.inj al).symm
  ·simp[h];have gV:k=a.l.length:=by simp at h; omega
   refine aJ (congrArg ad.bool (decide_eq_true ?_).symm) rfl;apply aDF;intro j;by_cases am:j<a.l.length
   ·exact ap j (by omega)
   ·rw[aC0 (by omega),aC0 (by omega)]
 ·have du:¬ ((a.l.length:Int)=b.l.length) :=by omega
  simp[ht,iX,h1,du];exact aJ (by rw[decide_eq_false (fun eP=>h1 (by rw[eP]))]) rfl
end Op

end Go.ct

namespace Go.ct
open Go Go.Proofs Go.Shelf Go.RowKit Go.Lib
set_option maxRecDepth 100000
set_option maxHeartbeats 4000000
theorem anu (base:Option Addr) (n c eY fN ho:Nat) (r:Value) (w w' : World) (aI:n<=c) (oY:n<=4611686018427387904) (ij:base=none->n=0/\c=0)
  (iY:(Builtin.append_ #[32,32] 32 #[.slice base n c,.slice (some ⟨fN,ho,none⟩) 1 eY]).run Tryz.prog w=.ok r w') :
  Calls Tryz.prog 138 #[.slice base n c,.int .i64 n,.slice (some ⟨fN,ho,none⟩) 1 eY] w fun e w2=>e=.returned r/\w2=w':=by
 have yL:=Tryz.underlying32;have mixed:=Tryz.checked.mixed
 go_enter Tryz.func138,Tryz.ntmps138
 cases base with
 | none=>
  obtain⟨aG,h1⟩:=ij rfl;subst aG h1
  go_wp2_with (at_builtin; refine Lib.wpList_append_run _ rfl _ _ _ _ rfl _ _ rfl rfl _ _ iY ?_)
  go_ret
  exact⟨rfl,rfl⟩
 | some a=>
  obtain⟨ab,aek,aeu⟩:=a
  go_wp2_with (at_builtin; refine Lib.wpList_append_run _ rfl _ _ _ _ rfl _ _ rfl rfl _ _ iY ?_)
  all_goals (go_ret; exact⟨rfl,rfl⟩)
theorem anA (b off n c i fN ho eY:Nat) (cn cc:Value) (w jQ hY:World) (yG fQ:TypeId) (qt sM:Nat) (aB:i<n) (eb:n+1<=c) (oY:n<=4611686018427387904) (nS:fN≠b)
  (x4:w.shape? fN=some (yG,qt)) (CX:w.shape? b=some (fQ,sM)) (J8:sM≠0) (jd:w.frozen? ⟨fN,ho,none⟩=false) (xM:w.frozen? ⟨fN,qt,none⟩=false)
  (p3:(Builtin.copy_ #[32,32] 3 #[.slice (some ⟨b,off+(i+1)*38,none⟩) (n - i) (c - (i+1)),.slice (some ⟨b,off+i*38,none⟩) (n+1 - i) (c - i)]).run Tryz.prog w.drew=.ok cn jQ)
  (p4:(Builtin.copy_ #[32,32] 3 #[.slice (some ⟨b,off+i*38,none⟩) (n+1 - i) (c - i),.slice (some ⟨fN,ho,none⟩) 1 eY]).run Tryz.prog jQ=.ok cc hY) :
  Calls Tryz.prog 138 #[.slice (some ⟨b,off,none⟩) n c,.int .i64 i,.slice (some ⟨fN,ho,none⟩) 1 eY] w fun e w2=>e=.returned (.slice (some ⟨b,off,none⟩) (n+1) c)/\w2=hY:=by
 have yL:=Tryz.underlying32;have z0:∀ w,(Go.sizeOf 50).run Tryz.prog w=.ok 38 w:=fun w=>gh (by kernel_rfl)
 have mixed:=Tryz.checked.mixed;have CN:∀ yd pN,(callFunc 191 #[.slice (some ⟨fN,ho,none⟩) 1 eY,.slice (some ⟨b,off+(i+1)*38,none⟩) yd pN]).run Tryz.prog w=.ok (.value (.bool false)) w:=fun yd pN=>by
  rw[run_callFunc_extern Tryz.func191 (by kernel_rfl) (by kernel_rfl) (by kernel_rfl) (e:=Extern.SlicesOverlaps.overlaps #[32,32] #[4]) (by kernel_rfl),
   Lib.run_overlaps_apart w 32 4 50 yL 38 z0 ⟨fN,ho,none⟩ ⟨b,off+(i+1)*38,none⟩ 1 eY yd pN nS yG fQ qt sM x4 CX J8 jd xM]
  rfl
 have j1:¬ ((i:Int)=(n:Int)) :=by omega
 have kh:IntKind.i64.wrap ((i:Int)+1)=(i:Int)+1:=by rw[IntKind.wrap_i64]; omega
 have mE:IntKind.i64.wrap ((n:Int)+1)=(n:Int)+1:=by rw[IntKind.wrap_i64]; omega
 have hd:(0:Int)<=(i:Int)+1:=by omega
 have ea:i<=n:=by omega
 have Gd:((i:Int)+1).toNat=i+1:=by omega
 have gK:¬ (c=i+1) :=by omega
 have tP:(i:Int)<=(n:Int)+1:=by omega
 have akO:¬ (c=i) :=by omega
 have akP:¬ ((c:Int)<(n:Int)+1) :=by omega
 go_enter Tryz.func138,Tryz.ntmps138
 go_wp2_with (simp only[CN])
 go_region_law_o (refine step_copy_runI rfl _ _ 32 32 rfl _ _ (by simp[Act.eval,Act.put]) (by simp[Act.eval,Act.put]) p3 ?_)
 go_wp2_with (at_builtin; refine wpList_copy_runI _ rfl _ _ 32 32 rfl _ _ rfl rfl p4 ?_)
 go_ret
 exact⟨rfl,rfl⟩
theorem anw (b off n c i fN ho eY N G:Nat) (cn cc:Value) (w uX jQ hY:World) (aB:i<n) (FV:n<=c) (eb:c<n+1) (lY:n+1<=G) (oY:n<=4611686018427387904)
  (jb:(Builtin.append_ #[32,3] 32 #[.slice (some ⟨b,off,none⟩) i c,.int .i64 ((n:Int)+1 - (i:Int))]).run Tryz.prog w=.ok (.slice (some ⟨N,0,none⟩) (n+1) G) uX)
  (p3:(Builtin.copy_ #[32,32] 3 #[.slice (some ⟨N,i*38,none⟩) (n+1 - i) (G - i),.slice (some ⟨fN,ho,none⟩) 1 eY]).run Tryz.prog uX=.ok cn jQ)
  (p4:(Builtin.copy_ #[32,32] 3 #[.slice (some ⟨N,(i+1)*38,none⟩) (n - i) (G - (i+1)),.slice (some ⟨b,off+i*38,none⟩) (n - i) (c - i)]).run Tryz.prog jQ.drew=.ok cc hY) :
  Calls Tryz.prog 138 #[.slice (some ⟨b,off,none⟩) n c,.int .i64 i,.slice (some ⟨fN,ho,none⟩) 1 eY] w fun e w2=>e=.returned (.slice (some ⟨N,0,none⟩) (n+1) G)/\w2=hY:=by
 have yL:=Tryz.underlying32;have z0:∀ w,(Go.sizeOf 50).run Tryz.prog w=.ok 38 w:=fun w=>gh (by kernel_rfl)
 have mixed:=Tryz.checked.mixed;have j1:¬ ((i:Int)=(n:Int)) :=by omega
 have kh:IntKind.i64.wrap ((i:Int)+1)=(i:Int)+1:=by rw[IntKind.wrap_i64]; omega
 have mE:IntKind.i64.wrap ((n:Int)+1)=(n:Int)+1:=by rw[IntKind.wrap_i64]; omega
 have am2:IntKind.i64.wrap ((n:Int)+1 - (i:Int))=(n:Int)+1 - (i:Int) :=by rw[IntKind.wrap_i64]; omega
 have hd:(0:Int)<=(i:Int)+1:=by omega
 have ea:i<=n:=by omega
 have Gd:((i:Int)+1).toNat=i+1:=by omega
 have akq:¬ (G=i) :=by omega
 have akr:¬ (G=i+1) :=by omega
 have dY:¬ (c=i) :=by omega
 have KT:(c:Int)<(n:Int)+1:=by omega
 have tP:(i:Int)<=(n:Int) :=by omega
 have akQ:(i:Int)<=(c:Int) :=by omega
 go_enter Tryz.func138,Tryz.ntmps138
 go_wp2_with (first
  | (at_builtin; refine Lib.wpList_append_run _ rfl _ _ _ _ rfl _ _ rfl rfl _ _ jb ?_)
  | (at_builtin; refine wpList_copy_runI _ rfl _ _ 32 32 rfl _ _ rfl rfl p3 ?_))
 go_region_law_o (refine step_copy_runI rfl _ _ 32 32 rfl _ _ (by simp[Act.eval,Act.put]) (by simp[Act.eval,Act.put]) p4 ?_)
 go_wp2
 go_ret
 exact⟨rfl,rfl⟩
theorem K8:Bf Tryz.prog 138 32 3 50 38:=
 ⟨Tryz.underlying32,Tryz.underlying3,anu,anA,anw⟩
theorem ann {G:Nat->ad} (args:List ad) (h:bh) (r:ad) (h' : bh) (al:Aw 38 96 args h=some (r,h')) :rT Tryz.prog G 138 args h r h':=
 VB K8 (by kernel_rfl) (by kernel_rfl) (by kernel_rfl) (by omega) (by omega) (by kernel_rfl) args h r h' al
theorem anv (base:Option Addr) (n c eY fN ho:Nat) (r:Value) (w w' : World) (aI:n<=c) (oY:n<=4611686018427387904) (ij:base=none->n=0/\c=0)
  (iY:(Builtin.append_ #[29,29] 29 #[.slice base n c,.slice (some ⟨fN,ho,none⟩) 1 eY]).run Tryz.prog w=.ok r w') :
  Calls Tryz.prog 152 #[.slice base n c,.int .i64 n,.slice (some ⟨fN,ho,none⟩) 1 eY] w fun e w2=>e=.returned r/\w2=w':=by
 have yL:=Tryz.underlying29;have mixed:=Tryz.checked.mixed
 go_enter Tryz.func152,Tryz.ntmps152
 cases base with
 | none=>
  obtain⟨aG,h1⟩:=ij rfl;subst aG h1
  go_wp2_with (at_builtin; refine Lib.wpList_append_run _ rfl _ _ _ _ rfl _ _ rfl rfl _ _ iY ?_)
  go_ret
  exact⟨rfl,rfl⟩
 | some a=>
  obtain⟨ab,aek,aeu⟩:=a
  go_wp2_with (at_builtin; refine Lib.wpList_append_run _ rfl _ _ _ _ rfl _ _ rfl rfl _ _ iY ?_)
  all_goals (go_ret; exact⟨rfl,rfl⟩)
theorem anB (b off n c i fN ho eY:Nat) (cn cc:Value) (w jQ hY:World) (yG fQ:TypeId) (qt sM:Nat) (aB:i<n) (eb:n+1<=c) (oY:n<=4611686018427387904) (nS:fN≠b)
  (x4:w.shape? fN=some (yG,qt)) (CX:w.shape? b=some (fQ,sM)) (J8:sM≠0) (jd:w.frozen? ⟨fN,ho,none⟩=false) (xM:w.frozen? ⟨fN,qt,none⟩=false)
  (p3:(Builtin.copy_ #[29,29] 3 #[.slice (some ⟨b,off+(i+1)*33,none⟩) (n - i) (c - (i+1)),.slice (some ⟨b,off+i*33,none⟩) (n+1 - i) (c - i)]).run Tryz.prog w.drew=.ok cn jQ)
  (p4:(Builtin.copy_ #[29,29] 3 #[.slice (some ⟨b,off+i*33,none⟩) (n+1 - i) (c - i),.slice (some ⟨fN,ho,none⟩) 1 eY]).run Tryz.prog jQ=.ok cc hY) :
  Calls Tryz.prog 152 #[.slice (some ⟨b,off,none⟩) n c,.int .i64 i,.slice (some ⟨fN,ho,none⟩) 1 eY] w fun e w2=>e=.returned (.slice (some ⟨b,off,none⟩) (n+1) c)/\w2=hY:=by
 have yL:=Tryz.underlying29;have z0:∀ w,(Go.sizeOf 53).run Tryz.prog w=.ok 33 w:=fun w=>gh (by kernel_rfl)
 have mixed:=Tryz.checked.mixed;have CN:∀ yd pN,(callFunc 207 #[.slice (some ⟨fN,ho,none⟩) 1 eY,.slice (some ⟨b,off+(i+1)*33,none⟩) yd pN]).run Tryz.prog w=.ok (.value (.bool false)) w:=fun yd pN=>by
  rw[run_callFunc_extern Tryz.func207 (by kernel_rfl) (by kernel_rfl) (by kernel_rfl) (e:=Extern.SlicesOverlaps.overlaps #[29,29] #[4]) (by kernel_rfl),
   Lib.run_overlaps_apart w 29 4 53 yL 33 z0 ⟨fN,ho,none⟩ ⟨b,off+(i+1)*33,none⟩ 1 eY yd pN nS yG fQ qt sM x4 CX J8 jd xM]
  rfl
 have j1:¬ ((i:Int)=(n:Int)) :=by omega
 have kh:IntKind.i64.wrap ((i:Int)+1)=(i:Int)+1:=by rw[IntKind.wrap_i64]; omega
 have mE:IntKind.i64.wrap ((n:Int)+1)=(n:Int)+1:=by rw[IntKind.wrap_i64]; omega
 have hd:(0:Int)<=(i:Int)+1:=by omega
 have ea:i<=n:=by omega
 have Gd:((i:Int)+1).toNat=i+1:=by omega
 have gK:¬ (c=i+1) :=by omega
 have tP:(i:Int)<=(n:Int)+1:=by omega
 have akO:¬ (c=i) :=by omega
 have akP:¬ ((c:Int)<(n:Int)+1) :=by omega
 go_enter Tryz.func152,Tryz.ntmps152
 go_wp2_with (simp only[CN])
 go_region_law_o (refine step_copy_runI rfl _ _ 29 29 rfl _ _ (by simp[Act.eval,Act.put]) (by simp[Act.eval,Act.put]) p3 ?_)
 go_wp2_with (at_builtin; refine wpList_copy_runI _ rfl _ _ 29 29 rfl _ _ rfl rfl p4 ?_)
 go_ret
 exact⟨rfl,rfl⟩
theorem anx (b off n c i fN ho eY N G:Nat) (cn cc:Value) (w uX jQ hY:World) (aB:i<n) (FV:n<=c) (eb:c<n+1) (lY:n+1<=G) (oY:n<=4611686018427387904)
  (jb:(Builtin.append_ #[29,3] 29 #[.slice (some ⟨b,off,none⟩) i c,.int .i64 ((n:Int)+1 - (i:Int))]).run Tryz.prog w=.ok (.slice (some ⟨N,0,none⟩) (n+1) G) uX)
  (p3:(Builtin.copy_ #[29,29] 3 #[.slice (some ⟨N,i*33,none⟩) (n+1 - i) (G - i),.slice (some ⟨fN,ho,none⟩) 1 eY]).run Tryz.prog uX=.ok cn jQ)
  (p4:(Builtin.copy_ #[29,29] 3 #[.slice (some ⟨N,(i+1)*33,none⟩) (n - i) (G - (i+1)),.slice (some ⟨b,off+i*33,none⟩) (n - i) (c - i)]).run Tryz.prog jQ.drew=.ok cc hY) :
  Calls Tryz.prog 152 #[.slice (some ⟨b,off,none⟩) n c,.int .i64 i,.slice (some ⟨fN,ho,none⟩) 1 eY] w fun e w2=>e=.returned (.slice (some ⟨N,0,none⟩) (n+1) G)/\w2=hY:=by
 have yL:=Tryz.underlying29;have z0:∀ w,(Go.sizeOf 53).run Tryz.prog w=.ok 33 w:=fun w=>gh (by kernel_rfl)
 have mixed:=Tryz.checked.mixed;have j1:¬ ((i:Int)=(n:Int)) :=by omega
 have kh:IntKind.i64.wrap ((i:Int)+1)=(i:Int)+1:=by rw[IntKind.wrap_i64]; omega
 have mE:IntKind.i64.wrap ((n:Int)+1)=(n:Int)+1:=by rw[IntKind.wrap_i64]; omega
 have am2:IntKind.i64.wrap ((n:Int)+1 - (i:Int))=(n:Int)+1 - (i:Int) :=by rw[IntKind.wrap_i64]; omega
 have hd:(0:Int)<=(i:Int)+1:=by omega
 have ea:i<=n:=by omega
 have Gd:((i:Int)+1).toNat=i+1:=by omega
 have akq:¬ (G=i) :=by omega
 have akr:¬ (G=i+1) :=by omega
 have dY:¬ (c=i) :=by omega
 have KT:(c:Int)<(n:Int)+1:=by omega
 have tP:(i:Int)<=(n:Int) :=by omega
 have akQ:(i:Int)<=(c:Int) :=by omega
 go_enter Tryz.func152,Tryz.ntmps152
 go_wp2_with (first
  | (at_builtin; refine Lib.wpList_append_run _ rfl _ _ _ _ rfl _ _ rfl rfl _ _ jb ?_)
  | (at_builtin; refine wpList_copy_runI _ rfl _ _ 29 29 rfl _ _ rfl rfl p3 ?_))
 go_region_law_o (refine step_copy_runI rfl _ _ 29 29 rfl _ _ (by simp[Act.eval,Act.put]) (by simp[Act.eval,Act.put]) p4 ?_)
 go_wp2
 go_ret
 exact⟨rfl,rfl⟩
theorem K9:Bf Tryz.prog 152 29 3 53 33:=
 ⟨Tryz.underlying29,Tryz.underlying3,anv,anB,anx⟩
theorem ano {G:Nat->ad} (args:List ad) (h:bh) (r:ad) (h' : bh) (al:Aw 33 48 args h=some (r,h')) :rT Tryz.prog G 152 args h r h':=
 VB K9 (by kernel_rfl) (by kernel_rfl) (by kernel_rfl) (by omega) (by omega) (by kernel_rfl) args h r h' al
def K7 (f:FuncId) :Option (Nat × Nat) :=match Nat.beq f 138 with | true=>some (38,96) | false=>match Nat.beq f 152 with | true=>some (33,48) | false=>none
theorem anm (f:FuncId) (z by_:Nat) (h:K7 f=some (z,by_)) (args:List ad) (aF:bh) (r:ad) (gX:bh) (al:Aw z by_ args aF=some (r,gX)) :rT Tryz.prog GS f args aF r gX:=by
 unfold K7 at h;split at h
 ·rename_i ai;have aL:=aDP ai;subst aL;cases h;exact ann args aF r gX al
 split at h
 ·rename_i ai;have aL:=aDP ai;subst aL;cases h;exact ano args aF r gX al
 cases h
instance azm:NF Tryz.prog GS:=⟨K7,anm⟩
end Go.ct

namespace Go.ct
open Go Go.Proofs
set_option maxRecDepth 100000
namespace Op
open hK
def vq (l:List bF) :Bool:=decide (∃ t∈l.take 101,100<t.key.length)||decide (100<l.length)
theorem ati (s:e7) (ax:gY s.l) :bE Tryz.prog GS 49 [.aM [cE s]] (.bool (vq s.l)) :=by
 refine bS Tryz.checked.mixed bP ?_;apply bw aho ar6;unfold Q5 aaY;have bu:c1 (.av 33) (cE s)=some (.int .i64 s.l.length) :=by simp[cE]
 simp;refine c2 (min s.l.length 101) (fun k ah l=>l=[.cells 1 [cE s]]/\ah 1=.ptr 0 0 1/\ah 3=.int .i64 k/\∀ (j:Nat) (t:bF),j<k->s.l[j]? = some t->t.key.length<=100) ?_ (by simp);rintro k ah l hk ⟨rfl,aW,bj,ap⟩;obtain⟨ah,rfl⟩:=lS aW bj;clear aW bj;unfold W0;by_cases h:k<s.l.length
 ·have h' : (k:Int)<(s.l.length:Int) :=by omega
  by_cases ag:k<=100
  ·have eV:(k:Int)<=100:=by omega
   obtain⟨y,aE,b6⟩:=bV (l:=s.l) (k:=k) h;have bZ:cC (.av 33) (cE s) (.int .i64 (k:Int))=some (.cm (b3 y) 0) :=by simp[cE,aE]
   have a2:IntKind.i64.wrap ((k:Int)+1)=((k+1:Nat) :Int) :=by rw[IntKind.wrap_i64]; omega
   by_cases aq:100<y.key.length
   ·have mu:(100:Int)<(y.key.length:Int) :=by omega
    simp[bu,h,ag,h',eV,bZ,b3,aq,mu];refine aJ (congrArg ad.bool ?_) rfl;unfold vq;rw[decide_eq_true (⟨y,?_,aq⟩:∃ t∈s.l.take 101,100<t.key.length)]; rfl;exact aCY.2 ⟨k,by rw[aCW (by omega)]; exact aE⟩
   ·have mu:¬ (100:Int)<(y.key.length:Int) :=by omega
    simp[bu,h,ag,h',eV,bZ,b3,aq,mu,a2];refine⟨by omega,fun j t am aQ=>?_⟩;by_cases eL:j=k
    ·rw[eL,aE] at aQ; obtain rfl:=Option.some.inj aQ; omega
    ·exact ap j t (by omega) aQ
  ·have eV:¬ (k:Int)<=100:=by omega
   have aH:100<s.l.length:=by omega
   have lX:(100:Int)<(s.l.length:Int) :=by omega
   simp[bu,h,ag,h',eV,lX];refine aJ (congrArg ad.bool ?_) rfl;unfold vq;simp[aH]
 ·have h' : ¬ (k:Int)<(s.l.length:Int) :=by omega
  have aH:((100:Int)<(s.l.length:Int))<->100<s.l.length:=by omega
  simp[bu,h,h',aH];refine aJ (congrArg ad.bool ?_) rfl;unfold vq;rw[decide_eq_false (p:=∃ t∈s.l.take 101,100<t.key.length),aEF];rintro⟨t,aQ,CY⟩;obtain⟨j,am⟩:=aCY.1 aQ;have eW:=(aCJ.1 am).1;rw[aCX] at eW;rw[aCW (by omega)] at am;have:=ap j t (by omega) am;omega
theorem aj5 {l:List bF} (h:vq l=false) :l.length<=100/\∀ t∈l,t.key.length<=100:=by
 unfold vq at h;rw[aEH,decide_eq_false_iff_not,decide_eq_false_iff_not] at h;refine⟨by omega,fun t aQ=>?_⟩;rw[aCI (by omega)] at h;exact aFo fun ag=>h.1 ⟨t,aQ,ag⟩
theorem XG (s:e7) :gu Tryz.prog .eql 29 (c0 33 b3 s) .aK=some (.bool s.isNone) :=Es (e:=53) (by kernel_rfl) 33 b3 s
theorem BP {l:List bF} (h:gY l) :((l.map b3).flatten).length=l.length*33:=by
 rw[mo (z:=33) (fun e au=>by obtain⟨y,aE,rfl⟩:=aC9.1 au; exact iI (h y aE)),aCZ]
theorem LY {l:aw} {b n:Nat} {a:List bF} (aD:gY a) (aI:a.length=n) (ai:l[b]? = some (.cells (n*33) (a.map b3).flatten)) :bW 33 l (.av 33 b 0 n n (n*33)) b (a.map b3) :=by
 have e1:=BP aD;refine .av b n n (n*33) _ _ ai (by rw[e1,aI]) (by simp[aI]) (fun e au=>?_) (aCL _) (aCL _) ?_
 ·obtain⟨y,aE,rfl⟩:=aC9.1 au; exact iI (aD y aE)
 ·rw[aCI (by rw[e1,aI]; omega)]
theorem aip (s:e7) (ax:gY s.l) (ap:s.l.length<=1000000) {l:aw} {K:ad->aw->Prop} (aG:s=none->K .aK l)
  (h1:∀ a,s=some a->K (.av 33 l.length 0 a.length a.length (a.length*33)) (l++[.cells (a.length*33) (a.map b3).flatten])) :
  dS Tryz.prog GS 150 [cE s] l (c:=⟨K⟩) :=by
 apply bw afM aqs;unfold Pu Zo;have aC:c4=140737488355328:=rfl;cases s with
 | none=>
  simp[cE,XG];exact aG rfl
 | some a=>
  simp at ap;have e1:=BP (l:=a) ax;have jb:g8 (l++[bp.cells 0 []]) 33 48 (.av 33 l.length 0 0 0 0) (c0 33 b3 (some a))=some (.av 33 l.length 0 a.length a.length (a.length*33),l++[.cells (a.length*33) (a.map b3).flatten]) :=by
   unfold g8;rw[qX];simp only[dX.Gt];unfold iW;by_cases az:a.length=0
   ·have:a=[] :=aDk.1 az;subst this;simp
   ·rw[if_neg az,if_neg (by omega)];simp[aC];exact⟨by omega,fun h=>by simp[h]⟩
  simp[cE,XG,jb];refine dx.c6 ?_;simp;exact h1 a rfl
theorem ao8 (a b:Int) :we a b=0<->a=0/\b=0:=by
 unfold we;by_cases h:a=0<;>simp[h]
theorem R0 (a b:List UInt8) :pQ a b=0<->a=b:=by
 unfold pQ;cases h:fi a b with
 | true=>
  have h1:=(uG _ _).1 h;simp;rintro rfl;exact absurd h1 (aF7 _)
 | false=>
  by_cases ag:a=b<;>simp[ag]
theorem aiv (a b:bF) :qW a b=0<->a=b:=by
 unfold qW;rw[ao8,R0];constructor
 ·rintro⟨h1,ag⟩;have:=r7 ag;cases a; cases b; simp_all
 ·rintro rfl;exact⟨rfl,pP _⟩
def mm (l:List bF) (x:bF) :Nat:=(l.takeWhile fun t=>gF t x).length
theorem EG (x:bF) :∀ {l:List bF} {p:Nat},p<=l.length->(∀ (t:Nat) (y:bF),t<p->l[t]? = some y->gF y x=true)->(∀ y,l[p]? = some y->gF y x=false)->mm l x=p
 | [],p,aF,_,_=>by simp at aF; subst aF; rfl
 | y::l,0,_,_,ag=>by
  have:=ag y (by simp);unfold mm;rw[aEj,this]; rfl
 | y::l,p+1,aF,h1,ag=>by
  have aE:=h1 0 y (by omega) (by simp);have aY:=EG x (l:=l) (p:=p) (by simpa using aF) (fun t z aQ az=>h1 (t+1) z (by omega) (by simpa using az)) (fun z az=>ag z (by simpa using az));unfold mm at aY ⊢;rw[aEj,aE];simpa using aY
def sg (l:List bF) (x:bF) :Bool:=decide (mm l x<l.length)&&decide (nu l (mm l x)=x)
def XD (l:List bF) (x:bF) :Prop:=∀ (i j:Nat) (a b:bF),i<=j->l[i]? = some a->l[j]? = some b->gF b x=true->gF a x=true
theorem acs (n:Nat) (h:n<9223372036854775808) :cP .shr .u64 (n:Int) .u64 1=some (.int .u64 ((n / 2:Nat) :Int)) :=by
 have:=tt (BitVec.ofNat 64 n) .u64 1;have aS:(u (BitVec.ofNat 64 n) :Int)=n:=by unfold u; rw[aC7,aC1 (by omega)]
 have ay:(u (BitVec.ofNat 64 n >>> 1) :Int)=((n / 2:Nat) :Int) :=by
  unfold u; rw[aDo,aC7,aC1 (by omega),aC8]
 rw[aS,ay] at this;exact this
structure ady (s:e7) (X:List ad) (x:bF) (m:Nat) (ah:bB) (l:aw) :Prop where
 ex:∃ (i j:Nat),j - i=m/\i<=j/\j<=s.l.length/\l=[.cells 33 X]/\ah 0=cE s/\ah 2=.fn 86 [] []/\ah 4=.ptr 0 0 33/\ah 8=.int .i64 s.l.length/\ah 9=.int .i64 i/\ah 10=.int .i64 j ∧
  (∀ (t:Nat) (y:bF),t<i->s.l[t]? = some y->gF y x=true)/\(∀ (t:Nat) (y:bF),j<=t->s.l[t]? = some y->gF y x=false)
theorem SP:js Tryz.prog 86=true:=by kernel_rfl
theorem acq (s:e7) (ax:gY s.l) (ar:s.l.length<=1000000) (x:bF) (al:x.id.length=32) (hm:XD s.l x) :
  bE Tryz.prog GS 151 [cE s,.aM (b3 x),.fn 86 [] []] (.b5 [.int .i64 (mm s.l x),.bool (sg s.l x)]) :=by
 refine bS Tryz.checked.mixed bP ?_;apply bw afN aqt;unfold Pv Zp;have bu:c1 (.av 33) (cE s)=some (.int .i64 s.l.length) :=by simp[cE]
 have bm:=iI al;have jz:=lW x;have hs:∀ y∈s.l,bE Tryz.prog GS 86 [.aM (b3 y),.aM (b3 x)] (.int .i64 (qW y x)) :=fun y aE=>R2 y x (ax y aE) al
 obtain⟨X,ce⟩:∃ X,X=b3 x:=⟨_,rfl⟩
 rw[<-ce] at bm jz hs ⊢;simp[bu];refine rv (ady s X x) ?_ s.l.length _ _ ⟨0,s.l.length,by omega,by omega,by omega,by simp[bm],by simp,by simp,by simp[bm],by simp,by simp,by simp,fun t y h=>by omega,fun t y h ag=>by rw[aC0 h] at ag; cases ag⟩;rintro m ah l ⟨i,j,g2,jx,eW,rfl,cd,bg,bL,et,hB,gJ,h1,ag⟩;obtain⟨ah,rfl⟩:=A8 cd bg bL et hB gJ;clear cd bg bL et hB gJ;unfold Wi;by_cases aP:i<j
 ·obtain⟨h,aR⟩:∃ h,h=(i+j) / 2:=⟨_,rfl⟩
  have cb:IntKind.i64.wrap ((i:Int)+j)=((i+j:Nat) :Int) :=by rw[IntKind.wrap_i64]; omega
  have w2:IntKind.u64.wrap ((i+j:Nat) :Int)=((i+j:Nat) :Int) :=by rw[uO,aDI]; unfold u; rw[aC7,aC1 (by omega)]
  have eF:=acs (i+j) (by omega);have n5:IntKind.i64.wrap (h:Int)=(h:Int) :=by rw[IntKind.wrap_i64]; omega
  have qL:IntKind.i64.wrap ((h:Int)+1)=((h+1:Nat) :Int) :=by rw[IntKind.wrap_i64]; omega
  have h4:(i:Int)<(j:Int) :=by omega
  rw[<-aR] at eF;obtain⟨y,aE,b6⟩:=bV (l:=s.l) (k:=h) (by omega);have b8:=iI (ax y b6);have nj:=lW y;have bZ:cC (.av 33) (cE s) (.int .i64 (h:Int))=some (.cm (b3 y) 0) :=by simp[cE,aE]
  have h3:=hs y b6;have p2:=R1 y x;obtain⟨Y,dB⟩:∃ Y,Y=b3 y:=⟨_,rfl⟩
  rw[<-dB] at b8 nj bZ h3;obtain⟨N,fu⟩:∃ N,N=i+j:=⟨_,rfl⟩
  rw[<-fu] at cb w2 eF;simp[aP,cb,w2,eF,n5,bZ,b8,bm,aCI];refine⟨SP,a8 h3 (by simp[a7,ad.closed,nj,jz]) ?_⟩;by_cases bM:qW y x<0
  ·simp[bM,qL];refine⟨j - (h+1),by omega,h+1,j,rfl,by omega,by omega,by simp,by simp,by simp,by simp,by simp,by simp,by simp,fun t z aQ az=>?_,ag⟩;exact hm t h z y (by omega) az aE (p2.1 bM)
  ·simp[bM];refine⟨h - i,by omega,i,h,rfl,by omega,by omega,by simp,by simp,by simp,by simp,by simp,by simp,by simp,h1,fun t z aQ az=>?_⟩;cases dq:gF z x with
   | false=>rfl
   | true=>exact absurd (p2.2 (hm h t y z aQ aE az dq)) bM
 ·have h4:¬ (i:Int)<(j:Int) :=by omega
  obtain rfl:i=j:=by omega
  have ak:=EG x (l:=s.l) (p:=i) eW h1 (fun y aE=>ag i y (aCL _) aE);by_cases dZ:i<s.l.length
  ·have J2:(i:Int)<(s.l.length:Int) :=by omega
   obtain⟨y,aE,b6⟩:=bV (l:=s.l) (k:=i) dZ;have b8:=iI (ax y b6);have nj:=lW y;have bZ:cC (.av 33) (cE s) (.int .i64 (i:Int))=some (.cm (b3 y) 0) :=by simp[cE,aE]
   have h3:=hs y b6;have Cn:=aiv y x;obtain⟨Y,dB⟩:∃ Y,Y=b3 y:=⟨_,rfl⟩
   rw[<-dB] at b8 nj bZ h3;simp[dZ,bZ,b8,bm,aCI];refine⟨SP,a8 h3 (by simp[a7,ad.closed,nj,jz]) ?_⟩;simp;refine aJ ?_ rfl;unfold sg;rw[ak,oH aE,decide_eq_true dZ,aDL];simp[Cn]
  ·have J2:¬ (i:Int)<(s.l.length:Int) :=by omega
   simp[dZ];refine aJ ?_ rfl;unfold sg;rw[ak,decide_eq_false dZ,aDJ]
def hy (l:List bF) (i:Nat) (x:bF) :List bF:=l.take i++x::l.drop i
theorem K3 (l:List bF) (i:Nat) (x:bF) :(hy l i x).length=l.length+1:=by
 unfold hy; simp; omega
theorem K4 {l:List bF} {i:Nat} {x:bF} (h:gY l) (al:x.id.length=32) :gY (hy l i x) :=by
 intro t aQ;unfold hy at aQ;rcases aDr.1 aQ with h1 | h1
 ·exact h t (aDs h1)
 ·rcases aDY.1 h1 with ag | ag
  ·rw[ag]; exact al
  ·exact h t (aEf ag)
theorem ans {l:aw} {b bv n i:Nat} {a:List bF} {x:bF} (aD:gY a) (al:x.id.length=32) (aI:a.length=n) (ai:l[b]? = some (.cells (n*33) (a.map b3).flatten)) (jc:l[bv]? = some (.cells 33 (b3 x))) (b2:bv≠b) (aB:i<=n) (qc:n<=1000000)
  {K:ad->aw->Prop} (bA:K (.av 33 l.length 0 (n+1) (n+1) ((n+1)*33)) (l.set b .dead++[.cells ((n+1)*33) ((hy a i x).map b3).flatten])) :
  dS Tryz.prog GS 152 [.av 33 b 0 n n (n*33),.int .i64 i,.av 33 bv 0 1 1 33] l (c:=⟨K⟩) :=by
 have fo:=fW ai;have ap:=Lb (P:=Tryz.prog) (G:=GS) (h:=cj l) K9 (by kernel_rfl) (by kernel_rfl) (show jp Tryz.prog 53=some 48 by kernel_rfl) (by omega) (by omega) (by kernel_rfl) (b:=b) (bv:=bv) (len:=n) (cap:=n) (i:=i) (ln.2 ai) (ln.2 jc) b2 aB (aCL _) (by unfold c4; omega);rw[yU,oN _ fo,mU,aE2 (by omega)] at ap;refine⟨_,_,.ext ap,by simp,?_⟩;have e1:=BP aD;have b7:a.map b3=(a.take i).map b3++(a.drop i).map b3:=by rw[<-aDe,aDt]
 have Gc:((a.take i).map b3).flatten.length=i*33:=by
  rw[BP (fun t aQ=>aD t (aDs aQ)),aCX,aDE (by omega)]
 have zK:((a.drop i).map b3).flatten.length=(n - i)*33:=by
  rw[BP (fun t aQ=>aD t (aEf aQ)),aDS,aI]
 have cW:ma 33 (a.map b3).flatten (b3 x) i n=((hy a i x).map b3).flatten:=by
  unfold ma hy;have h1:((a.map b3).flatten).take (i*33)=((a.take i).map b3).flatten:=by
   rw[b7,aDD,aDb (by omega),aCI (by omega)]
  have ag:((a.map b3).flatten).drop (i*33)=((a.drop i).map b3).flatten:=by
   rw[b7,aDD,aDp (by omega),aDC (by omega),aDq]
  have aq:(((a.drop i).map b3).flatten).take ((n - i)*33)=((a.drop i).map b3).flatten:=aCI (by omega);have aH:((a.map b3).flatten).drop ((n+1)*33)=[] :=aDC (by rw[e1,aI]; omega);rw[h1,ag,aq,aH,aDl];simp
 rw[cW];exact bA
theorem anp {l:aw} {bv:Nat} {x:bF} (jc:l[bv]? = some (.cells 33 (b3 x))) {K:ad->aw->Prop} (bA:K (.av 33 l.length 0 1 1 33) (l++[.cells 33 (b3 x)])) :
  dS Tryz.prog GS 152 [.aK,.int .i64 0,.av 33 bv 0 1 1 33] l (c:=⟨K⟩) :=by
 have ap:=La (P:=Tryz.prog) (G:=GS) (h:=cj l) K9 (by kernel_rfl) (by kernel_rfl) (show jp Tryz.prog 53=some 48 by kernel_rfl) (by omega) (by omega) (by kernel_rfl) (bv:=bv) (ln.2 jc) (by unfold c4; omega);rw[yU,mU] at ap;exact⟨_,_,.ext ap,by simp,bA⟩
structure qO (j:Nat) (l l' : aw) :Prop where
 le:l.length<=l'.length
 same:∀ b,b<l.length->b≠j->l'[b]? = l[b]?
theorem qO.refl (j:Nat) (l:aw) :qO j l l:=⟨aCL _,fun _ _ _=>rfl⟩
theorem qO.trans {j:Nat} {a b c:aw} (h1:qO j a b) (ag:qO j b c) :qO j a c:=⟨by have:=h1.le; have:=ag.le; omega,fun x al am=>by rw[ag.same x (by have:=h1.le; omega) am]; exact h1.same x al am⟩
def HQ (g:FuncId) (cap:List ad) (j:Nat) (fz:aw) (xs:List bF) (p:bF->Bool) :Prop:=
 ∀ x∈xs,∀ l,qO j fz l->∀ K:ad->aw->Prop,(∀ l',l.length<=l'.length->(∀ b,b<l.length->l'[b]? = l[b]?)->K (.bool (p x)) l')->dS Tryz.prog GS g ([]++[.aM (b3 x)]++cap) l (c:=⟨K⟩)
structure adM (fz:aw) (v:ad) (g:FuncId) (cap:List ad) (xs:List bF) (p:bF->Bool) (k:Nat) (ah:bB) (l:aw) :Prop where
 cd:ah 0=v
 aW:ah 1=.fn g [] cap
 eU:ah 7=.int .i64 xs.length
 et:ah 8=.int .i64 k
 ap:∀ (j:Nat) (z:bF),j<k->xs[j]? = some z->p z=false
 le:fz.length<=l.length
 same:∀ b,b<fz.length->l[b]? = fz[b]?
theorem anh {g:FuncId} {cap:List ad} {j:Nat} {l:aw} {v:ad} {xs:List bF} {p:bF->Bool} (aA:js Tryz.prog g=true) (ax:bW 33 l v j (xs.map b3)) (az:gY xs) (aI:xs.length<=1000000) (aF:HQ g cap j l xs p)
  {K:ad->aw->Prop} (bA:∀ n l',(n=-1/\(∀ z∈xs,p z=false)\/∃ k:Nat,n=(k:Int)/\k<xs.length/\(∀ (i:Nat) (z:bF),i<k->xs[i]? = some z->p z=false)/\∀ y,xs[k]? = some y->p y=true)->l.length<=l'.length->(∀ b,b<l.length->l'[b]? = l[b]?)->K (.int .i64 n) l') :
  dS Tryz.prog GS 209 [v,.fn g [] cap] l (c:=⟨K⟩) :=by
 apply bw agv ara;unfold Qc Z4;have bu:=ax.len;rw[aCZ] at bu;simp[bu];refine c2 xs.length (adM l v g cap xs p) ?_ ⟨by simp,by simp,by simp,by simp,fun j z h=>by omega,aCL _,fun _ _=>rfl⟩;rintro k ah l1 hk ⟨cd,aW,eU,et,ap,eD,jZ⟩;obtain⟨ah,rfl⟩:=hW cd aW eU et;clear cd aW eU et;unfold WD;simp;refine im (fun h=>?_) (fun h=>?_)
 ·simp only[decide_eq_true_eq] at h;obtain⟨y,aE,b6⟩:=bV (l:=xs) (k:=k) (by omega);have a2:IntKind.i64.wrap ((k:Int)+1)=((k+1:Nat) :Int) :=by rw[IntKind.wrap_i64]; omega
  have Kn:bW 33 l1 v j (xs.map b3) :=ax.frame fun am=>jZ j am
  obtain⟨q,cs,o,br,bI,a3,a4⟩:=Kn.q.get (k:=.i64) (i:=k) (e:=b3 y) (by rw[aCO,aE]; rfl);simp[br,bI,a3,a4];refine⟨aA,?_⟩;have:=aF y b6 l1 ⟨eD,fun b ai _=>jZ b ai⟩;simp at this;refine this _ fun cf h1 ag=>?_
  cases bd:p y with
  | true=>
   simp;refine bA _ _ (.inr ⟨k,rfl,h,fun i z aB az=>ap i z aB az,fun w hw=>?_⟩) (by omega) (fun b ai=>by rw[ag b (by omega)]; exact jZ b ai);rw[aE] at hw; obtain rfl:=Option.some.inj hw; exact bd
  | false=>
   simp[a2];refine⟨by omega,by simp,by simp,by simp,by simp,fun i z aB az=>?_,by omega,fun b ai=>by rw[ag b (by omega)]; exact jZ b ai⟩;by_cases jW:i=k
   ·rw[jW,aE] at az; obtain rfl:=Option.some.inj az; exact bd
   ·exact ap i z (by omega) az
 ·simp[h];have gV:k=xs.length:=by simp at h; omega
  refine bA _ _ (.inl ⟨rfl,fun z az=>?_⟩) eD jZ;obtain⟨i,aB⟩:=aCY.1 az;exact ap i z (by rw[gV]; exact (aCJ.1 aB).1) aB
structure adG (fz:aw) (v:ad) (g:FuncId) (cap:List ad) (j:Nat) (xs:List bF) (p:bF->Bool) (k:Nat) (ah:bB) (l:aw) :Prop where
 cd:ah 0=v
 aW:ah 1=.fn g [] cap
 cv:ah 6=.int .i64 k
 ayn:qO j fz l
 ex:∃ (q:Nat) (bt:List bF),ah 5=.int .i64 (q:Int)/\bW 33 l v j (bt.map b3)/\bt.length=xs.length/\gY bt/\bt.take q=(xs.take k).filter (fun t=>!p t)/\q<k/\∀ t,k<=t->bt[t]? = xs[t]?
theorem SC {p:bF->Bool} {l:List bF} (h:∀ z∈l,p z=false) :l.filter (fun t=>!p t)=l:=by
 rw[List.filter_eq_self];intro a aD; rw[h a aD]; rfl
theorem ajB {p:bF->Bool} {l:List bF} {k:Nat} (h:∀ (i:Nat) (z:bF),i<k->l[i]? = some z->p z=false) :(l.take k).filter (fun t=>!p t)=l.take k:=by
 refine SC fun z az=>?_
 obtain⟨i,aB⟩:=aCY.1 az;have dZ:=(aCJ.1 aB).1;rw[aCX] at dZ;rw[aCW (by omega)] at aB;exact h i z (by omega) aB
theorem ajA {p:bF->Bool} {l:List bF} {k:Nat} {y:bF} (h:l[k]? = some y) :(l.take (k+1)).filter (fun t=>!p t)=(l.take k).filter (fun t=>!p t)++(if p y then [] else [y]) :=by
 rw[aC4,h,aEe];cases aF:p y<;>simp[aF]
set_option maxHeartbeats 1000000 in
theorem Sh {g:FuncId} {cap:List ad} {j:Nat} {l:aw} {v:ad} {xs:List bF} {p:bF->Bool} (aA:js Tryz.prog g=true) (ax:bW 33 l v j (xs.map b3)) (az:gY xs) (aI:xs.length<=1000000) (aF:HQ g cap j l xs p)
  {K:ad->aw->Prop} (bA:∀ r l',bW 33 l' r j ((xs.filter fun t=>!p t).map b3)->qO j l l'->cX r=cX v->K r l') :
  dS Tryz.prog GS 153 [v,.fn g [] cap] l (c:=⟨K⟩) :=by
 apply bw afO aqu;unfold Pw Zq;have bu:=ax.len;rw[aCZ] at bu;simp;refine anh aA ax az aI aF fun n l1 ak3 eD jZ=>?_
 rcases ak3 with ⟨rfl,fS⟩ | ⟨hh,rfl,xQ,fY,e9⟩
 ·simp;refine bA _ _ ?_ ⟨eD,fun b ai _=>jZ b ai⟩ rfl;rw[SC fS];exact ax.frame fun am=>jZ j am
 ·have b2:¬ ((hh:Int)=-1) :=by omega
  have a2:IntKind.i64.wrap ((hh:Int)+1)=((hh+1:Nat) :Int) :=by rw[IntKind.wrap_i64]; omega
  have Kn:bW 33 l1 v j (xs.map b3) :=ax.frame fun am=>jZ j am
  have ay:cX v=false:=by
   cases CG:cX v with
   | false=>rfl
   | true=>
    have:=jB.1 CG;subst this;have:=ax.q.rz;rw[aDQ] at this;rw[this] at xQ; simp at xQ
  simp[b2,a2];refine c2 (xs.length - (hh+1)) (fun m=>adG l v g cap j xs p (hh+1+m)) ?_ ⟨by simp,by simp,by simp,⟨eD,fun b ai _=>jZ b ai⟩,hh,xs,by simp,Kn,rfl,az,?_,by omega,fun _ _=>rfl⟩
  ·rintro m ah cf hm ⟨cd,aW,cv,m8,q,bt,bC,bD,b8,oA,hC,vJ,l5⟩;obtain⟨k,hk⟩:∃ k,k=hh+1+m:=⟨_,rfl⟩
   rw[show hh+1+(m+1)=k+1 by omega];rw[<-hk] at cv hC vJ l5;obtain⟨ah,rfl⟩:=hW cd aW bC cv;clear cd aW bC cv;unfold Wj;have Kg:=bD.len;rw[aCZ,b8] at Kg;by_cases aP:k<xs.length
   ·have h4:(k:Int)<(xs.length:Int) :=by omega
    obtain⟨y,aE,b6⟩:=bV (l:=xs) (k:=k) aP;have Vo:=az y b6;have Cf:=iI Vo;have hx:=yE Cf;have b7:IntKind.i64.wrap ((k:Int)+1)=((k+1:Nat) :Int) :=by rw[IntKind.wrap_i64]; omega
    have dG:IntKind.i64.wrap ((q:Int)+1)=((q+1:Nat) :Int) :=by rw[IntKind.wrap_i64]; omega
    have An:bt[k]? = some y:=by rw[l5 k (aCL _)]; exact aE
    obtain⟨aBI,cs,o,br,bI,a3,a4⟩:=bD.q.get (k:=.i64) (i:=k) (e:=b3 y) (by rw[aCO,An]; rfl);have alx:qO j l (cf++[bp.cells 33 (b3 y)]) :=⟨by have:=m8.le; simp; omega,fun b ai he=>by rw[aCK (by have:=m8.le; omega)]; exact m8.same b ai he⟩
    have jv:=aF y b6 _ alx;have m7:=ajA (p:=p) aE;have U8:=fun (j3:aw) (h:bW 33 j3 v j (bt.map b3))=>yo (X:=.aM (b3 y)) rfl h (fun t aQ=>iI (oA t aQ)) (k:=q) (x:=y) (by omega) Cf
    simp at jv;obtain⟨Y,dB⟩:∃ Y,Y=b3 y:=⟨_,rfl⟩
    rw[<-dB] at Cf hx a4 jv U8;simp[Kg,h4,br,bI,a3,a4,Cf,hx,aCI];refine⟨aA,?_⟩;refine jv _ fun j3 h1 ag=>?_
    have ayX:cf.length<j3.length:=by omega
    have U7:∀ b,b<cf.length->j3[b]? = cf[b]?:=fun b ai=>by rw[ag b (by omega),aCK ai]
    have z7:bW 33 j3 v j (bt.map b3) :=bD.frame fun am=>U7 j am
    have akN:j3[cf.length]? = some (.cells 33 Y) :=by rw[ag _ (by simp)]; simp
    have JW:qO j l j3:=⟨by have:=m8.le; omega,fun b ai he=>by rw[U7 b (by have:=m8.le; omega)]; exact m8.same b ai he⟩
    cases bd:p y with
    | true=>
     rw[bd,if_pos rfl,aDl] at m7;simp[b7];refine⟨by omega,by simp,by simp,by simp,JW,q,bt,by simp,z7,b8,oA,by rw[m7]; exact hC,by omega,fun t aQ=>l5 t (by omega)⟩
    | false=>
     rw[bd,if_neg (by simp)] at m7;obtain⟨LZ,AA,iB,hq,z3,z4,z5⟩:=U8 j3 z7;simp[akN,Cf,iB,hq,b7,dG,aCI];refine⟨by omega,by simp,by simp,by simp,⟨by have:=JW.le; omega,fun b ai he=>by rw[z5 b he]; exact JW.same b ai he⟩,q+1,bt.set q y,by simp,z3,by simp[b8],fun t aQ=>?_,?_,by omega,fun t aQ=>?_⟩
     ·rcases aDX aQ with h | h
      ·exact oA _ h
      ·rw[h]; exact Vo
     ·have D6:(bt.take q).length=q:=by rw[aCX]; omega
      rw[aD0,if_pos (by omega),aEz,D6,aCI (by omega),show q+1 - q=1 by omega,m7,<-hC]; simp
     ·rw[aCU (by omega)]; exact l5 t (by omega)
   ·have h4:¬ (k:Int)<(xs.length:Int) :=by omega
    have dt:k=xs.length:=by omega
    obtain⟨v3,fb,r,iB,hq,z3,z4,z5,adn,Ee⟩:=X5 (z:=33) (zr:=ad.str [] ::rep 32 (.int .u8 0)) rfl bD (k:=q) (by omega);simp[Kg,h4,iB,hq,z3];rw[dt,aDi] at hC;rw[hC] at z4;exact bA _ _ z4 ⟨by have:=m8.le; omega,fun b ai he=>by rw[Ee b he]; exact m8.same b ai he⟩ (by rw[z5,ay])
  ·rw[aC4,aEe,ajB fY];obtain⟨y,aE,_⟩:=bV (l:=xs) (k:=hh) xQ;have:=e9 y aE;rw[aE]; simp[this]
theorem DT {a b c:List UInt8} (h1:fi a b=true) (ag:fi b c=true) :fi a c=true:=
 (uG _ _).2 (List.lt_trans ((uG _ _).1 h1) ((uG _ _).1 ag))
theorem yA (a:List UInt8) :fi a a=false:=by
 cases h:fi a a with
 | false=>rfl
 | true=>exact absurd ((uG _ _).1 h) (aF7 _)
theorem LB {a b c:bF} (h1:gF a b=true) (ag:gF b c=true) :gF a c=true:=by
 unfold gF at *
 by_cases a2:a.key=b.key
 ·rw[if_pos a2] at h1;by_cases b7:b.key=c.key
  ·rw[if_pos b7] at ag;rw[if_pos (a2.trans b7)];simp only[decide_eq_true_eq] at *
   exact vf _ _ _ h1 ag
  ·rw[if_neg b7] at ag;rw[if_neg (fun h=>b7 (a2.symm.trans h)),a2]; exact ag
 ·rw[if_neg a2] at h1;by_cases b7:b.key=c.key
  ·rw[if_neg (fun h=>a2 (h.trans b7.symm)),<-b7]; exact h1
  ·rw[if_neg b7] at ag;have:=DT h1 ag;rw[if_neg (fun h=>by rw[h,yA] at this; cases this)]; exact this
theorem Xt (a:bF) :gF a a=false:=by
 unfold gF;rw[if_pos rfl,pP]; rfl
theorem aox {a b:bF} (h1:gF a b=false) (ag:a≠b) :gF b a=true:=by
 unfold gF at *
 by_cases a2:a.key=b.key
 ·rw[if_pos a2] at h1;rw[if_pos a2.symm];have aq:=r8 a.id b.id;have aH:=Bz a.id b.id;simp only[decide_eq_false_iff_not,decide_eq_true_eq] at *
  have bd:cI a.id b.id≠0:=fun h=>ag (by
   have:=r7 h;cases a; cases b; simp_all)
  omega
 ·rw[if_neg a2] at h1;rw[if_neg (fun h=>a2 h.symm)];rw[uG];have aq:¬ a.key<b.key:=fun h=>by rw[(uG _ _).2 h] at h1; cases h1
  by_cases h:b.key<a.key
  ·exact h
  ·exact absurd (List.le_antisymm (aF4.1 h) (aF4.1 aq)) a2
theorem B0 {l:List bF} (h:iA l=0) :l.length<=60/\pY l=true:=by
 unfold iA at h;split at h
 ·cases h
 ·split at h
  ·rename_i h1 ag; exact⟨by omega,ag⟩
  ·cases h
theorem Jc {l:List bF} (h:pY l=true) {i:Nat} {a b:bF} (aD:l[i]? = some a) (ai:l[i+1]? = some b) :gF a b=true:=by
 have h1:=(of_decide_eq_true h) (i+1) (aCJ.1 ai).1;unfold sj at h1;rw[aEu,oH aD,oH ai,aCQ] at h1;simpa using h1.2
theorem E6 {l:List bF} (h:pY l=true) :∀ {d i:Nat} {a b:bF},l[i]? = some a->l[i+d+1]? = some b->gF a b=true
 | 0,i,a,b,aD,ai=>Jc h aD ai
 | d+1,i,a,b,aD,ai=>by
  obtain⟨c,ak,_⟩:=bV (l:=l) (k:=i+d+1) (by have:=(aCJ.1 ai).1; omega);exact LB (E6 h aD ak) (Jc h ak ai)
theorem Th {l:List bF} (h:pY l=true) (x:bF) :XD l x:=by
 intro i j a b jx aD ai aP;by_cases au:i=j
 ·subst au; rw[aD] at ai; cases ai; exact aP
 ·exact LB (E6 h (d:=j - i - 1) aD (by rw[show i+(j - i - 1)+1=j by omega]; exact ai)) aP
def oa (s:e7) (x:bF) :e7 × Int:=if sg s.l x then (none,14) else if s.l.length=60 then (none,18) else (some (hy s.l (mm s.l x) x),0)
def lR (o:bJ) (b:eN) (t:bF) :Bool:=decide (t.key=o.act.key)&&decide (t.id∈b.l)
def acK (f:List bF->List bF) (s:e7) :e7:=match s with | none=>none | some l=>some (f l)
def gq (s:e7) (o:bJ) (b:eN) :e7 × Int:=
 if iA s.l=0 then (if fZ o=0 then (if 60<b.l.length then (none,4) else
  (if o.act.kind=2#8 then oa s ⟨o.act.key,db o⟩ else if o.act.kind=3#8 then (acK (fun l=>l.filter fun t=>!lR o b t) s,0) else (s,0))) else (none,8)) else (none,iA s.l)
theorem SR:js Tryz.prog 154=true:=by kernel_rfl
theorem auT (o:bJ) (b:eN) (ai:gx b) (fo:b.l.length<=1000000) {j bo bb:Nat} {l:aw} {xs:List bF} (az:gY xs) (h1:l[bo]? = some (.cells 11 (bn o))) (ag:l[bb]? = some (.cells 1 [bc b])) (zR:bo≠j) (jX:bb≠j) :
  HQ 154 [.ptr bo 0 11,.ptr bb 0 1] j l xs (lR o b) :=by
 intro x al l1 aA K bA;apply bw afP aqv;unfold Px Zr;have du:l1[bo]? = some (.cells 11 (bn o)) :=by rw[aA.same _ (fW h1) zR]; exact h1
 have eV:l1[bb]? = some (.cells 1 [bc b]) :=by rw[aA.same _ (fW ag) jX]; exact ag
 have gW:=fW du;have gk:=fW eV;have iK:=c3 (az x al);have p1:=eZ b;have eu:=fK x.id;have ea:=Nr b ai fo x.id (az x al);have aW:∀ c:bp,(l1++[c])[bo]? = some (.cells 11 (bn o)) :=fun c=>by rw[aCK gW]; exact du
 have bg:∀ c:bp,(l1++[c])[bb]? = some (.cells 1 [bc b]) :=fun c=>by rw[aCK gk]; exact eV
 have tC:=aW;simp[bn] at tC;by_cases hk:x.key=o.act.key
 ·simp[b3,tC,bg,hk,iK,aCI];refine a8 ea (by simp[a7,ad.closed,p1,eu]) ?_;simp;have:lR o b x=decide (x.id∈b.l) :=by unfold lR; rw[decide_eq_true hk,aDL]
  rw[<-this];exact bA _ (by simp) fun b ai=>aCK ai
 ·simp[b3,tC,hk];have:lR o b x=false:=by unfold lR; rw[decide_eq_false hk,aDJ]
  rw[<-this];exact bA _ (by simp) fun b ai=>aCK ai
theorem ze (o:bJ) :((u o.act.kind:Int)=2)<->o.act.kind=2#8:=rK o.act.kind 2#8
theorem zf (o:bJ) :((u o.act.kind:Int)=3)<->o.act.kind=3#8:=rK o.act.kind 3#8
theorem Ar (o:bJ) :(db o).length=32:=by
 unfold db; split
 ·exact uH _
 ·simp
set_option maxHeartbeats 1000000 in
theorem avT (s:e7) (o:bJ) (b:eN) (ap:gY s.l) (dI:s.l.length<=1000000) (ax:ic o) (ai:gx b) (fo:b.l.length<=1000000) :
  bE Tryz.prog GS 97 [.aM [cE s],.aM (bn o),bc b] (.b5 [.aM [cE (gq s o b).1],.int .i64 (gq s o b).2]) :=by
 refine bS Tryz.checked.mixed bP ?_;apply bw ah4 asM;unfold RK abE;have bT:=lv s;have cQ:=i6 o;have p1:=eZ b;have cU:=Nu s ap dI;have iK:=Nq o ax;have dZ:=Ar o;have zG:(bc b).cells=some [bc b] :=by cases b<;>rfl
 have Fz:c1 (.av 32) (bc b)=some (.int .i64 b.l.length) :=by simp[bc]
 by_cases aG:iA s.l=0
 ·by_cases h1:fZ o=0
  ·obtain⟨D,ja⟩:∃ D,D=(db o).map bQ:=⟨_,rfl⟩
   have kb:D.length=32:=by rw[ja,aCZ,dZ]
   have Fa:a7 D=true:=by rw[ja]; exact lr bQ (fun _=>rfl) _
   have nR:bO (rep 32 (.int .u8 0)) 0 D=D:=fM (by rw[kb]; rfl);unfold fL at iK;rw[<-ja] at iK;simp[bn,zG];refine a8 cU (by simp[a7,ad.closed,bT]) ?_;simp[aG];refine a8 iK (show a7 [ad.aM (bn o)]=true by simp[a7,ad.closed,cQ]) ?_;simp[h1,kb,nR,Fz,aCI];by_cases ag:60<b.l.length
   ·have eV:(60:Int)<(b.l.length:Int) :=by omega
    have aD:gq s o b=(none,4) :=by unfold gq; rw[if_pos aG,if_pos h1,if_pos ag]
    rw[aD];simp[eV];exact aJ rfl rfl
   ·have eV:¬ (60:Int)<(b.l.length:Int) :=by omega
    simp[eV];have ot:=(B0 aG).2;obtain⟨x,al⟩:∃ x:bF,x=⟨o.act.key,db o⟩:=⟨_,rfl⟩
    have i0:x.id.length=32:=by rw[al]; exact dZ
    have sy:=Th ot x;have ce:b3 x=.str o.act.key::D:=by rw[al,ja]; rfl
    have tN:=iI i0;have jz:=lW x;rw[ce] at tN;have vN:=yE tN;refine aip s ap dI (fun aI=>?_) (fun a x4=>?_)
    ·subst aI;by_cases cc:o.act.kind=2#8
     ·have pm:=(ze o).2 cc;have aD:gq none o b=oa none x:=by unfold gq; rw[if_pos aG,if_pos h1,if_neg ag,if_pos cc,al]
      have jy:=acq none (by simp[gY]) (by simp) x i0 sy;have zJ:mm (dX.l (none:e7)) x=0:=rfl;have rb:sg (dX.l (none:e7)) x=false:=rfl;have o3:oa none x=(some (hy [] 0 x),0) :=rfl;rw[zJ,rb,ce] at jy;rw[aD,o3];simp[pm,kb,nR,vN,aCI];refine a8 jy (by simp[a7,ad.closed,Fa,cE,c0]) ?_;simp[kb,nR,vN,aCI];refine anp (bv:=7) (x:=x) (by rw[ce]; rfl) ?_;simp;have fU:∀ l:aw,l[8]? = some (.cells 33 (b3 x))->Rd l (.av 33 8 0 1 1 33) (cE (some (hy [] 0 x))) :=fun l h=>by
       have h1:=LY (l:=l) (b:=8) (n:=1) (a:=[x]) (by intro t aQ; simp at aQ; subst aQ; exact i0) rfl (by simpa using h);exact h1.q.mP lW (some [x]) rfl rfl
      exact qD (s4 (fU _ (by simp))) (.same _ rfl)
     ·have pm:¬ (u o.act.kind:Int)=2:=fun h=>cc ((ze o).1 h)
      by_cases dP:o.act.kind=3#8
      ·have qs:=(zf o).2 dP;have aD:gq none o b=(none,0) :=by unfold gq; rw[if_pos aG,if_pos h1,if_neg ag,if_neg cc,if_pos dP]; rfl
       rw[aD];simp[pm,qs];refine Sh (j:=100) (xs:=[]) (p:=lR o b) SR (.nil 100) (by simp[gY]) (by simp) (fun x al=>by cases al) fun r l' aC m8 Kl=>?_
       obtain rfl:=jB.1 Kl;have DE:l'[5]? = some (.cells 1 [.aK]) :=by rw[m8.same 5 (by simp) (by omega)]; rfl
       have ji:l'[3]? = some (.cells 1 [.aK]) :=by rw[m8.same 3 (by simp) (by omega)]; rfl
       have AU:6<=l'.length:=by have:=m8.le; simpa using this
       have MF:(l'.set 5 (.cells 1 [.aK]))[5]? = some (.cells 1 [.aK]) :=aC3 (by omega);have wv:(l'.set 5 (.cells 1 [.aK]))[3]? = some (.cells 1 [.aK]) :=by rw[aCU (by omega)]; exact ji
       have ME:((l'.set 5 (.cells 1 [.aK])).set 3 (.cells 1 [.aK]))[3]? = some (.cells 1 [.aK]) :=aC3 (by simp; omega);simp[DE,MF,wv,ME];exact aJ rfl rfl
      ·have qs:¬ (u o.act.kind:Int)=3:=fun h=>dP ((zf o).1 h)
       have aD:gq none o b=(none,0) :=by unfold gq; rw[if_pos aG,if_pos h1,if_neg ag,if_neg cc,if_neg dP]
       rw[aD];simp[pm,qs];exact aJ rfl rfl
    ·subst x4;obtain⟨n,aI⟩:∃ n,n=a.length:=⟨_,rfl⟩
     have ri:n<=1000000:=by rw[aI]; exact dI
     rw[<-aI];have Ko:∀ (l:aw) (b:Nat),l[b]? = some (.cells (n*33) (a.map b3).flatten)->bW 33 l (.av 33 b 0 n n (n*33)) b (a.map b3) :=fun l b h=>LY ap aI.symm h
     have ub:c1 (.av 33) (.av 33 5 0 n n (n*33))=some (.int .i64 n) :=rfl;by_cases cc:o.act.kind=2#8
     ·have pm:=(ze o).2 cc;have aD:gq (some a) o b=oa (some a) x:=by unfold gq; rw[if_pos aG,if_pos h1,if_neg ag,if_pos cc,al]
      have jy:=acq (some a) ap dI x i0 sy;rw[ce] at jy;rw[aD];simp[pm,kb,nR,vN,aCI];refine i3 jy (.cons ((Ko _ 5 (by rfl)).mO lW (some a) rfl rfl) (.cons (.same _ (by rw[ce] at jz; exact jz)) (.cons (.same _ rfl) .nil))) rfl ?_;cases rb:sg (dX.l (some a:e7)) x with
      | true=>
       have o3:oa (some a) x=(none,14) :=by unfold oa; rw[rb]; rfl
       rw[o3];simp;exact aJ rfl rfl
      | false=>
       by_cases i9:n=60
       ·have o3:oa (some a) x=(none,18) :=by
         unfold oa; rw[rb,if_neg (by simp),if_pos (show (dX.l (some a)).length=60 by rw[<-i9,aI]; rfl)]
        rw[o3];have B3:(n:Int)=60:=by omega
        simp[i9];exact aJ rfl rfl
       ·have o3:oa (some a) x=(some (hy a (mm a x) x),0) :=by
         unfold oa; rw[rb,if_neg (by simp),if_neg (show ¬ (dX.l (some a)).length=60 by rw[show (dX.l (some a)).length=n from aI.symm]; exact i9)]; rfl
        rw[o3];have B3:¬ (n:Int)=60:=by omega
        have p2:mm a x<=n:=by rw[aI]; unfold mm; exact (List.takeWhile_sublist _).length_le
        simp[ub,B3,kb,nR,vN,aCI];refine ans (b:=5) (bv:=8) (a:=a) (x:=x) ap i0 aI.symm rfl (by rw[ce]; rfl) (by omega) p2 ri ?_;simp;have fU:∀ l:aw,l[9]? = some (.cells ((n+1)*33) ((hy a (mm a x) x).map b3).flatten)->Rd l (.av 33 9 0 (n+1) (n+1) ((n+1)*33)) (cE (some (hy a (mm a x) x))) :=fun l h=>by
         have h1:=LY (l:=l) (b:=9) (n:=n+1) (a:=hy a (mm a x) x) (K4 ap i0) (by rw[K3,aI]) h;exact h1.q.mP lW (some _) rfl rfl
        exact qD (s4 (fU _ (by simp))) (.same _ rfl)
     ·have pm:¬ (u o.act.kind:Int)=2:=fun h=>cc ((ze o).1 h)
      by_cases dP:o.act.kind=3#8
      ·have qs:=(zf o).2 dP;have aD:gq (some a) o b=(some (a.filter fun t=>!lR o b t),0) :=by unfold gq; rw[if_pos aG,if_pos h1,if_neg ag,if_neg cc,if_pos dP]; rfl
       rw[aD];simp[pm,qs];refine Sh (j:=5) (xs:=a) (p:=lR o b) SR (Ko _ 5 (by rfl)) ap dI (auT o b ai fo (bo:=1) (bb:=2) ap rfl rfl (by omega) (by omega)) fun r l' aC m8 Kl=>?_
       have CS:=aC.cells;have AU:l'[6]? = some (.cells 1 [.av 33 5 0 n n (n*33)]) :=by rw[m8.same 6 (by simp) (by omega)]; rfl
       have ji:l'[3]? = some (.cells 1 [.aK]) :=by rw[m8.same 3 (by simp) (by omega)]; rfl
       have Yz:7<=l'.length:=by have:=m8.le; simpa using this
       have MF:(l'.set 6 (.cells 1 [r]))[6]? = some (.cells 1 [r]) :=aC3 (by omega);have wv:(l'.set 6 (.cells 1 [r]))[3]? = some (.cells 1 [.aK]) :=by rw[aCU (by omega)]; exact ji
       have ME:((l'.set 6 (.cells 1 [r])).set 3 (.cells 1 [r]))[3]? = some (.cells 1 [r]) :=aC3 (by simp; omega);simp[CS,AU,MF,wv,ME,bO];have l4:bW 33 ((l'.set 6 (.cells 1 [r])).set 3 (.cells 1 [r])) r 5 ((a.filter fun t=>!lR o b t).map b3) :=aC.frame fun _=>by
        rw[aCU (by omega),aCU (by omega)]
       exact qD (s4 (l4.q.mP lW (some _) (by rw[Kl]; rfl) rfl)) (.same _ rfl)
      ·have qs:¬ (u o.act.kind:Int)=3:=fun h=>dP ((zf o).1 h)
       have aD:gq (some a) o b=(some a,0) :=by unfold gq; rw[if_pos aG,if_pos h1,if_neg ag,if_neg cc,if_neg dP]
       rw[aD];simp[pm,qs];exact qD (s4 ((Ko _ 5 (by simp)).q.mP lW (some a) rfl rfl)) (.same _ rfl)
  ·have aD:gq s o b=(none,8) :=by unfold gq; rw[if_pos aG,if_neg h1]
   rw[aD];have uc:bO (rep 32 (.int .u8 0)) 0 ((db o).map bQ)=(db o).map bQ:=fM (by rw[aCZ,dZ]; rfl);simp[bn,zG];refine a8 cU (by simp[a7,ad.closed,bT]) ?_;simp[aG];refine a8 iK (show a7 [ad.aM (bn o)]=true by simp[a7,ad.closed,cQ]) ?_;simp[h1,fL,dZ,uc,Fz];exact aJ rfl rfl
 ·have aD:gq s o b=(none,iA s.l) :=by unfold gq; rw[if_neg aG]
  rw[aD];simp[bn,zG];refine a8 cU (by simp[a7,ad.closed,bT]) ?_;simp[aG];exact aJ rfl rfl
def mL (l:List bF) (x:bF) :Nat->Nat
 | 0=>0
 | i+1=>if gF x (nu l i) then mL l x i else i+1
theorem L6 (l:List bF) (x:bF) :∀ i,mL l x i<=i
 | 0=>aCL _
 | i+1=>by
  unfold mL;split
  ·have:=L6 l x i; omega
  ·exact aCL _
def rF (l:List bF) (x:bF) :List bF:=hy l (mL l x l.length) x
theorem anj {l:List bF} {i:Nat} {x:bF} (aB:i<=l.length) :(hy l i x)[i]? = some x:=by
 unfold hy;rw[aCT (by rw[aCX]; omega),aCX,aDE aB]; simp
theorem ank {l:List bF} {i k:Nat} {x:bF} (hk:k<i) (aB:i<=l.length) :(hy l i x)[k]? = l[k]?:=by
 unfold hy;rw[aCK (by rw[aCX]; omega),aCW hk]
theorem anl {l:List bF} {i:Nat} {x y:bF} (aE:l[i]? = some y) :((hy l (i+1) x).set (i+1) y).set i x=hy l i x:=by
 have aB:=(aCJ.1 aE).1;have h1:l.take (i+1)=l.take i++[y] :=by rw[aC4,aE]; rfl
 have ag:l.drop i=y::l.drop (i+1) :=by rw[aDy aB,(aCJ.1 aE).2]
 have ar:(l.take i).length=i:=by rw[aCX]; omega
 unfold hy;rw[h1,ag,aDa];rw[aDu _ _ (by omega),aDu _ _ (by omega),ar];simp
theorem XQ {l l1:aw} {v:ad} {a:List bF} {fr:Bool} (h:cA 33 b3 l l1 v a fr) {k:Nat} {y:bF} (aE:a[k]? = some y) :
  ∃ p cs o,cC (.av 33) v (.int .i64 (k:Int))=some p/\e4 l1 p=some (cs,o)/\o+33<=cs.length/\(cs.drop o).take 33=b3 y:=by
 obtain⟨j,ax,_⟩:=h;exact ax.q.get (k:=.i64) (i:=k) (e:=b3 y) (by rw[aCO,aE]; rfl)
theorem XR {l l1:aw} {v:ad} {a:List bF} {fr:Bool} (h:cA 33 b3 l l1 v a fr) (az:gY a) {k:Nat} {y:bF} (hk:k<a.length) (aE:y.id.length=32) :
  ∃ p l',cC (.av 33) v (.int .i64 (k:Int))=some p/\kI 33 l1 p (.aM (b3 y))=some l'/\cA 33 b3 l l' v (a.set k y) fr:=by
 obtain⟨j,ax,ag,aq,aH,bd⟩:=h;obtain⟨p,l',br,bI,a3,a4,a5⟩:=yo (X:=.aM (b3 y)) rfl ax (fun t aQ=>iI (az t aQ)) hk (iI aE);refine⟨p,l',br,bI,j,a3,by omega,fun b ai=>?_,aH,bd⟩;rcases aH with aH | aH
 ·subst aH;have:=ax.q.rz;rw[aDQ] at this;rw[this] at hk; simp at hk
 ·rw[a5 b (by omega)]; exact aq b ai
theorem apA {l l1:aw} {v:ad} {a:List bF} {fr:Bool} (h:cA 33 b3 l l1 v a fr) (x:bF) {b:Nat} (ai:l1[b]? = some (.cells 33 (b3 x))) (al:x.id.length=32) (eb:a.length<=1000000000) :
  ∃ bl l',g8 l1 33 48 v (.av 33 b 0 1 1 33)=some (bl,l')/\cA 33 b3 l l' bl (a++[x]) false/\l1.length<=l'.length:=by
 have aC:c4=140737488355328:=rfl;have bm:=iI al;obtain⟨bl,l',aW,bg,bj⟩:=h.app (by_:=48) (x:=.av 33 b 0 1 1 33) (xs:=[x]) (by simp[dL,ai,bm,aCI]) (by simp[bm]) (by omega) (by omega) (by rw[aC]; simp; omega);exact⟨bl,l',aW,by simpa using bg,bj⟩
theorem aiD (l:aw) (s:e7) :dL l 33 (cE s)=some ((s.l.map b3).flatten,s.l.length) :=qX l 33 b3 s
structure adW (l:aw) (a:List bF) (x:bF) (m:Nat) (ah:bB) (l1:aw) :Prop where
 ex:∃ (i:Nat) (v:ad),i=m/\i<=a.length/\ah 5=v/\ah 6=.int .i64 (i:Int)/\cA 33 b3 l l1 v (hy a i x) false/\mL a x i=mL a x a.length
theorem as4 (s:e7) (ap:gY s.l) (dI:s.l.length<=1000000) (x:bF) (al:x.id.length=32) :bE Tryz.prog GS 111 [cE s,.aM (b3 x)] (cE (some (rF s.l x))) :=by
 refine bS Tryz.checked.mixed bP ?_;apply bw afd apT;unfold OT YO;have bm:=iI al;have aC:c4=140737488355328:=rfl;obtain⟨X,ce⟩:∃ X,X=b3 x:=⟨_,rfl⟩
 have hx:=yE (E:=X) (by rw[ce]; exact bm);have zY:bW 33 [bp.cells 33 X,bp.cells 0 [],bp.cells 33 X] (.av 33 1 0 0 0 0) 1 [] :=.av 1 0 0 0 [] [] rfl rfl rfl (by simp) (aCL _) (by omega) rfl;obtain⟨ft,sL,l1,br,dE,cT,d1,a2,f1⟩:=Bm zY (by_:=48) (x:=cE s) (xs:=s.l.map b3) (by rw[aCZ]; exact aiD _ s) (fun e au=>by obtain⟨y,aE,rfl⟩:=aC9.1 au; exact iI (ap y aE)) (by omega) (by omega) (by rw[aC]; simp; omega);simp at cT;have zR:sL=1\/3<=sL:=by
  rcases a2 with h | ⟨_,h⟩ | h
  ·exact .inr h
  ·exact .inl h
  ·rw[h] at f1; cases f1
 have gB:l1[0]? = some (.cells 33 X) :=by rw[d1 0 (by simp) (.inr (by omega))]; rfl
 have fh:l1[2]? = some (.cells 33 X) :=by rw[d1 2 (by simp) (.inr (by omega))]; rfl
 have Bo:cA 33 b3 [bp.cells 33 X] l1 ft s.l false:=⟨sL,by simpa using dE,by simp; omega,fun b ai=>by
  obtain rfl:b=0:=by simpa using ai
  rw[gB]; rfl,.inr (by simp; omega),f1⟩
 obtain⟨ei,cf,bI,dA,dF⟩:=apA Bo x (b:=2) (by rw[<-ce]; exact fh) al (by omega);rw[<-ce] at bm ⊢;simp[bm,hx,aCI,br];refine dx.c6 ?_;simp[gB,fh,bm,aCI,bI];refine dx.c6 ?_;have p9:=dA.len;have dG:IntKind.i64.wrap ((s.l.length:Int)+1 - 1)=(s.l.length:Int) :=by rw[IntKind.wrap_i64]; omega
 have j8:IntKind.i64.wrap (s.l.length:Int)=(s.l.length:Int) :=by rw[IntKind.wrap_i64]; omega
 have aG:hy s.l s.l.length x=s.l++[x] :=by unfold hy; simp
 simp[p9,dG,j8];rw[<-aG] at dA;refine rv (adW [bp.cells 33 X] s.l x) ?_ s.l.length _ _ ⟨s.l.length,ei,rfl,aCL _,by simp,by simp,dA,rfl⟩;rintro m ah fb ⟨i,v,rfl,dZ,bC,cv,dC,k1⟩;obtain⟨ah,rfl⟩:=lS bC cv;clear bC cv;unfold V0;have i0:(hy s.l i x)[i]? = some x:=anj dZ;have su:∀ (K:ad->aw->Prop),mL s.l x i=i->hy s.l i x=rF s.l x:=fun K h=>by unfold rF; rw[<-k1,h]
 rcases i with _ | i
 ·simp;have:=su (fun _ _=>True) rfl;rw[this] at dC;exact dC.rd lW (some _) rfl rfl
 ·obtain⟨y,aE,b6⟩:=bV (l:=s.l) (k:=i) (by omega);have ug:(hy s.l (i+1) x)[i]? = some y:=by rw[ank (by omega) dZ]; exact aE
  obtain⟨ux,cT,rC,gD,iV,qM,jl⟩:=XQ dC i0;obtain⟨uy,dF,mJ,hp,jL,uP,mg⟩:=XQ dC ug;have cb:IntKind.i64.wrap ((i:Int)+1 - 1)=(i:Int) :=by rw[IntKind.wrap_i64]; omega
  have w2:IntKind.i64.wrap (i:Int)=(i:Int) :=by rw[IntKind.wrap_i64]; omega
  have h5:(0:Int)<(i:Int)+1:=by omega
  have eD:=Xq x y al (ap y b6);have b8:=iI (ap y b6);have jz:=lW x;have nj:=lW y;have l2:mL s.l x (i+1)=if gF x y then mL s.l x i else i+1:=by
   show (if gF x (nu s.l i) then mL s.l x i else i+1)=_;rw[oH aE]
  have az:=K4 (i:=i+1) ap al;have ea:(hy s.l (i+1) x).length=s.l.length+1:=K3 _ _ _;obtain⟨AP,j3,lk,mQ,CI⟩:=XR dC az (k:=i+1) (y:=y) (by omega) (ap y b6);have C4:gY ((hy s.l (i+1) x).set (i+1) y) :=fun t aQ=>by
   rcases aDX aQ with h | h
   ·exact az t h
   ·rw[h]; exact ap y b6
  obtain⟨G2,AA,t1,t2,vG⟩:=XR CI C4 (k:=i) (y:=x) (by simp; omega) al;rw[anl aE] at vG;rw[<-ce] at jl eD jz t2;obtain⟨Y,dB⟩:∃ Y,Y=b3 y:=⟨_,rfl⟩
  rw[<-dB] at mg eD b8 nj mQ;simp at gD lk;rw[gD] at lk;obtain rfl:=Option.some.inj lk;rw[hp] at t1;obtain rfl:=Option.some.inj t1;simp[h5,gD,iV,qM,jl,hp,jL,uP,mg,cb,w2];refine a8 eD (by simp[a7,ad.closed,jz,nj]) ?_;cases bd:gF x y with
  | true=>
   rw[bd,if_pos rfl] at l2;simp[gD,iV,qM,jl,hp,jL,uP,mg,cb,w2,mQ,t2];exact⟨i,by omega,i,v,rfl,by omega,by simp,by simp,vG,by rw[<-l2]; exact k1⟩
  | false=>
   rw[bd,if_neg (by simp)] at l2;simp;have:=su (fun _ _=>True) l2;rw[this] at dC;exact dC.rd lW (some _) rfl rfl
def qR (s:e7) (x:bF) :e7 × Int:=if x∈s.l then (none,14) else if s.l.length=60 then (none,18) else (some (rF s.l x),0)
def jC (o:bJ) (b:eN) (t:bF) :Bool:=decide (¬ o.act.kind=3#8)||(decide (¬ t.key=o.act.key)||!decide (t.id∈b.l))
def D1 (l:List bF) :e7:=match l with | []=>none | a::r=>some (a::r)
theorem MU (l:List bF) :(D1 l).l=l:=by cases l<;>rfl
theorem auY (l:List bF) :(D1 l).isNone=l.isEmpty:=by cases l<;>rfl
def jo (s:e7) (o:bJ) (b:eN) :e7 × Int:=
 if iA s.l=0 then (if fZ o=0 then (if 60<b.l.length then (none,4) else
  (if o.act.kind=2#8 then qR s ⟨o.act.key,db o⟩ else (D1 (s.l.filter (jC o b)),0))) else (none,8)) else (none,iA s.l)
structure adt (s:e7) (x:bF) (L:aw) (k:Nat) (ah:bB) (l:aw) :Prop where
 ar:l=L
 bj:ah 3=.ptr 0 0 1
 cv:ah 6=.ptr 2 0 1
 et:ah 8=.ptr 3 0 33
 hB:ah 9=.int .i64 k
 ap:∀ (j:Nat) (t:bF),j<k->s.l[j]? = some t->t≠x
structure HZ (s:e7) (o:bJ) (b:eN) (k:Nat) (l:aw) :Prop where
 ex:∃ v j,l[3]? = some (.cells 1 [v])/\bW 33 l v j (((s.l.take k).filter (jC o b)).map b3)/\(v=.aK\/4<=j)/\cX v=((s.l.take k).filter (jC o b)).isEmpty
 len:4<=l.length
 kG:l[0]? = some (.cells 1 [cE s])
 ux:l[1]? = some (.cells 11 (bn o))
 uy:l[2]? = some (.cells 1 [.aK])
structure ad0 (s:e7) (o:bJ) (b:eN) (k:Nat) (ah:bB) (l:aw) :Prop where
 bg:ah 2=bc b
 bj:ah 3=.ptr 0 0 1
 bL:ah 4=.ptr 1 0 11
 cv:ah 6=.ptr 2 0 1
 gJ:ah 10=.ptr 3 0 1
 hN:ah 11=.int .i64 k
 h:HZ s o b k l
theorem anT {p:bF->Bool} {l:List bF} {k:Nat} {y:bF} (h:l[k]? = some y) :(l.take (k+1)).filter p=(l.take k).filter p++(if p y then [y] else []) :=by
 rw[aC4,h,aEe];cases aF:p y<;>simp[aF]
theorem XY (o:bJ) :bn o=[bR o.g9,bc o.bN,dm o.dj,bQ o.act.kind,.str o.act.key,bQ o.act.val.kind,.int .i64 o.act.val.num,dm o.act.val.bits,.str o.act.val.text,bR o.e,bR o.s] :=rfl
set_option maxHeartbeats 1000000 in
theorem asO (s:e7) (o:bJ) (b:eN) (ap:gY s.l) (dI:s.l.length<=1000000) (ax:ic o) (ai:gx b) (fo:b.l.length<=1000000) :
  bE Tryz.prog GS 100 [.aM [cE s],.aM (bn o),bc b] (.b5 [.aM [cE (jo s o b).1],.int .i64 (jo s o b).2]) :=by
 refine bS Tryz.checked.mixed bP ?_;apply bw ae1 apH;unfold OG YC;have bT:=lv s;have cQ:=i6 o;have p1:=eZ b;have cU:=abP s ap dI;have zW:=Mi o ax;have dZ:=Ar o;have Fz:c1 (.av 32) (bc b)=some (.int .i64 b.l.length) :=by simp[bc]
 have ub:c1 (.av 33) (cE s)=some (.int .i64 s.l.length) :=by simp[cE]
 have q9:a7 [ad.aM (bn o)]=true:=by simp[a7,ad.closed,cQ]
 by_cases aG:iA s.l=0
 ·by_cases h1:fZ o=0
  ·simp[bn];refine a8 cU (by simp[a7,ad.closed,bT]) ?_;simp[aG];refine a8 zW q9 ?_;simp[h1,Fz];by_cases ag:60<b.l.length
   ·have eV:(60:Int)<(b.l.length:Int) :=by omega
    have aD:jo s o b=(none,4) :=by unfold jo; rw[if_pos aG,if_pos h1,if_pos ag]
    rw[aD];simp[eV];exact aJ rfl rfl
   ·have eV:¬ (60:Int)<(b.l.length:Int) :=by omega
    simp[eV];have ot:=(B0 aG).2;by_cases cc:o.act.kind=2#8
    ·have pm:=(ze o).2 cc;obtain⟨x,al⟩:∃ x:bF,x=⟨o.act.key,db o⟩:=⟨_,rfl⟩
     have aD:jo s o b=qR s x:=by unfold jo; rw[if_pos aG,if_pos h1,if_neg ag,if_pos cc,al]
     rw[aD];have i0:x.id.length=32:=by rw[al]; exact dZ
     have k0:=Mh o ax (by have:=wc h1; omega);have J0:db o=iR (iu o) :=by unfold db; rw[if_pos h1]
     rw[<-J0] at k0;obtain⟨D,ja⟩:∃ D,D=(db o).map bQ:=⟨_,rfl⟩
     have kb:D.length=32:=by rw[ja,aCZ,dZ]
     unfold fL at k0;rw[<-ja] at k0;have ce:b3 x=.str o.act.key::D:=by rw[al,ja]; rfl
     have vN:=yE (E:=.str o.act.key::D) (by simp[kb]);simp[pm];refine a8 k0 q9 ?_;have nR:bO (rep 32 (.int .u8 0)) 0 D=D:=fM (by rw[kb]; rfl);simp[kb,nR,vN,aCI];rw[<-XY o,<-ce];obtain⟨L,e0⟩:∃ L,L=[bp.cells 1 [cE s],bp.cells 11 (bn o),bp.cells 1 [.aK],bp.cells 33 (b3 x)] :=⟨_,rfl⟩
     rw[<-e0];have gB:L[0]? = some (.cells 1 [cE s]) :=by rw[e0]; rfl
     have fh:L[2]? = some (.cells 1 [.aK]) :=by rw[e0]; rfl
     have ji:L[3]? = some (.cells 33 (b3 x)) :=by rw[e0]; rfl
     have m3:L.length=4:=by rw[e0]; rfl
     have nQ:∀ c:bp,(L.set 2 c)[2]? = some c:=fun c=>aC3 (by omega)
     have tN:=iI i0;have nd:=as4 s ap dI x i0;have jz:=lW x;obtain⟨X,zB⟩:∃ X,X=b3 x:=⟨_,rfl⟩
     have heq:∀ y∈s.l,gu Tryz.prog .eql 53 (.aM (b3 y)) (.aM X)=some (.bool (decide (y=x))) :=fun y aE=>by rw[zB]; exact au1 (ap y aE) i0
     rw[<-zB] at ji tN nd jz;refine c2 s.l.length (adt s x L) ?_ ⟨rfl,by simp,by simp,by simp,by simp,fun j t h=>by omega⟩;rintro k ah l hk ⟨rfl,bj,cv,et,hB,oy⟩;obtain⟨ah,rfl⟩:=hW bj cv et hB;clear bj cv et hB;unfold VS;simp[gB,ub];refine im (fun h=>?_) (fun h=>?_)
     ·simp only[decide_eq_true_eq] at h;obtain⟨y,aE,b6⟩:=bV (l:=s.l) (k:=k) (by omega);have a2:IntKind.i64.wrap ((k:Int)+1)=((k+1:Nat) :Int) :=by rw[IntKind.wrap_i64]; omega
      have bZ:cC (.av 33) (cE s) (.int .i64 (k:Int))=some (.cm (b3 y) 0) :=by simp[cE,aE]
      have b8:=iI (ap y b6);have T8:=heq y b6;obtain⟨Y,dB⟩:∃ Y,Y=b3 y:=⟨_,rfl⟩
      rw[<-dB] at bZ b8 T8;simp[gB,bZ,b8,ji,tN,T8,aCI];by_cases au:y=x
      ·have o3:qR s x=(none,14) :=by unfold qR; rw[if_pos (by rw[<-au]; exact b6)]
       rw[o3];simp[au,fh,nQ];exact aJ rfl rfl
      ·simp[au,a2];refine⟨by omega,rfl,by simp,by simp,by simp,by simp,fun j z am az=>?_⟩;by_cases eL:j=k
       ·rw[eL,aE] at az; obtain rfl:=Option.some.inj az; exact au
       ·exact oy j z (by omega) az
     ·have gV:k=s.l.length:=by simp at h; omega
      have CF:¬ x∈s.l:=fun hm=>by
       obtain⟨j,am⟩:=aCY.1 hm;exact oy j x (by rw[gV]; exact (aCJ.1 am).1) am rfl
      by_cases i9:s.l.length=60
      ·have o3:qR s x=(none,18) :=by unfold qR; rw[if_neg CF,if_pos i9]
       rw[o3];have B3:(s.l.length:Int)=60:=by omega
       simp[h,gB,ub,i9,fh,nQ];exact aJ rfl rfl
      ·have o3:qR s x=(some (rF s.l x),0) :=by unfold qR; rw[if_neg CF,if_neg i9]
       rw[o3];have B3:¬ (s.l.length:Int)=60:=by omega
       have ams:=lv (some (rF s.l x));simp[h,gB,ub,i9,B3,ji,tN,aCI];refine a8 nd (by simp[a7,ad.closed,bT,jz]) ?_;have ak4:(cE (some (rF s.l x))).cells=some [cE (some (rF s.l x))] :=rfl;simp[ak4,fh,nQ,bO];exact aJ rfl (by simp[ad.closed,a7,ams])
    ·have pm:¬ (u o.act.kind:Int)=2:=fun h=>cc ((ze o).1 h)
     have aD:jo s o b=(D1 (s.l.filter (jC o b)),0) :=by unfold jo; rw[if_pos aG,if_pos h1,if_neg ag,if_neg cc]
     rw[aD];simp[pm];rw[<-XY o];refine c2 s.l.length (ad0 s o b) ?_ ⟨by simp,by simp,by simp,by simp,by simp,by simp,⟨⟨.aK,0,rfl,.nil 0,.inl rfl,rfl⟩,by simp,rfl,rfl,rfl⟩⟩;rintro k ah l hk ⟨bg,bj,bL,cv,gJ,hN,⟨⟨v,j,ji,fU,j0,Gf⟩,bu,gB,q1,fh⟩⟩;obtain⟨ah,rfl⟩:=A8 bg bj bL cv gJ hN;clear bg bj bL cv gJ hN;unfold VT;simp[gB,ub];refine im (fun h=>?_) (fun h=>?_)
     ·simp only[decide_eq_true_eq] at h;obtain⟨y,aE,b6⟩:=bV (l:=s.l) (k:=k) (by omega);have a2:IntKind.i64.wrap ((k:Int)+1)=((k+1:Nat) :Int) :=by rw[IntKind.wrap_i64]; omega
      have bZ:cC (.av 33) (cE s) (.int .i64 (k:Int))=some (.cm (b3 y) 0) :=by simp[cE,aE]
      have b8:=iI (ap y b6);have mA:=anT (p:=jC o b) aE;have ea:=Hb b ai fo y.id (ap y b6);have Gg:=fK y.id;obtain⟨E,fm⟩:∃ E,E=a1 y.id:=⟨_,rfl⟩
      have oZ:b3 y=.str y.key::E:=by rw[fm]; rfl
      have kU:E.length=32:=by rw[fm]; exact c3 (ap y b6)
      have hx:=yE (E:=.str y.key::E) (by simp[kU]);have KD:bO (rep 32 (.int .u8 0)) 0 E=E:=fM (by rw[kU]; rfl);rw[<-fm] at ea Gg;rw[oZ] at bZ;obtain⟨cf,gk⟩:∃ cf,cf=l++[bp.cells 33 (.str y.key::E)] :=⟨_,rfl⟩
      have f0:cf[0]? = some (.cells 1 [cE s]) :=by rw[gk,aCK (by omega)]; exact gB
      have f1:cf[1]? = some (.cells 11 (bn o)) :=by rw[gk,aCK (by omega)]; exact q1
      have f2:cf[2]? = some (.cells 1 [.aK]) :=by rw[gk,aCK (by omega)]; exact fh
      have f3:cf[3]? = some (.cells 1 [v]) :=by rw[gk,aCK (by omega)]; exact ji
      have f4:cf[l.length]? = some (.cells 33 (.str y.key::E)) :=by rw[gk]; simp
      have f5:4<=cf.length:=by rw[gk]; simp; omega
      have FW:bW 33 cf v j (((s.l.take k).filter (jC o b)).map b3) :=by rw[gk]; exact fU.more _
      have ES:=f1;simp[bn] at ES;have aC:c4=140737488355328:=rfl;have e1:((s.l.take k).filter (jC o b)).length<=1000000:=by
       have:=aEa (jC o b) (s.l.take k);rw[aCX] at this; omega
      obtain⟨bl,cx,fb,br,dE,cT,d1,IF,ajs⟩:=Bm (FW.more [bp.cells 33 (.str y.key::E)]) (by_:=48) (x:=.av 33 cf.length 0 1 1 33) (xs:=[b3 y]) (by simp[dL,oZ,kU,aCI]) (by simp[b8]) (by omega) (by omega) (by rw[aC]; simp; omega);simp at cT;have ik:=fU.cells;have aW:∀ b,b<4->fb[b]? = cf[b]?:=fun b ai=>by
       rw[d1 b (by simp; omega) (j0.imp id (fun h=>by omega)),aCK (by omega)]
      have KL:=dE.cells;have fp:bl=.aK\/4<=cx:=by
       rcases IF with h | ⟨h,h'⟩ | h
       ·exact .inr (by simp at h; omega)
       ·rcases j0 with ag | ag
        ·exact absurd ag h
        ·exact .inr (by omega)
       ·exact .inl h
      have kD:∀ c:bp,(fb.set 3 c)[3]? = some c:=fun c=>aC3 (by omega)
      have Cz:jC o b y=true->HZ s o b (k+1) (fb.set 3 (.cells 1 [bl])) :=fun rg=>by
       rw[rg,if_pos rfl] at mA;refine⟨⟨bl,cx,kD _,?_,fp,?_⟩,by simp; omega,?_,?_,?_⟩
       ·rw[mA,aDe];refine dE.nF (fp.imp id fun h=>by rw[aCU (by omega)])
       ·rw[ajs,Gf,mA]; simp
       ·rw[aCU (by omega),aW 0 (by omega)]; exact f0
       ·rw[aCU (by omega),aW 1 (by omega)]; exact f1
       ·rw[aCU (by omega),aW 2 (by omega)]; exact f2
      simp[gB,bZ,kU,hx,aCI];rw[<-gk];have z8:jC o b y=false->HZ s o b (k+1) cf:=fun rg=>by
       rw[rg,if_neg (by simp),aDl] at mA;exact⟨⟨v,j,f3,by rw[mA]; exact FW,j0,by rw[mA]; exact Gf⟩,f5,f0,f1,f2⟩
      by_cases dP:o.act.kind=3#8
      ·have qs:=(zf o).2 dP;by_cases lE:y.key=o.act.key
       ·simp[ES,qs,f4,lE,kU,aCI];refine a8 ea (by simp[a7,ad.closed,p1,Gg]) ?_;by_cases kC:y.id∈b.l
        ·have rg:jC o b y=false:=by unfold jC; simp[lE,dP,kC]
         have wP:=z8 rg;simp[kC,a2];exact⟨by omega,by simp,by simp,by simp,by simp,by simp,by simp,wP⟩
        ·have rg:jC o b y=true:=by unfold jC; simp[kC]
         have wP:=Cz rg;simp[kC,f3,f4,kU,ik,KD,aCI,br];refine dx.c6 ?_;have mM:fb[3]? = some (.cells 1 [v]) :=by rw[aW 3 (by omega)]; exact f3
         simp[KL,mM,bO,a2];exact⟨by omega,by simp,by simp,by simp,by simp,by simp,by simp,wP⟩
       ·have rg:jC o b y=true:=by unfold jC; simp[lE]
        have wP:=Cz rg;simp[ES,qs,f4,lE,f3,kU,ik,KD,aCI,br];refine dx.c6 ?_;have mM:fb[3]? = some (.cells 1 [v]) :=by rw[aW 3 (by omega)]; exact f3
        simp[KL,mM,bO,a2];exact⟨by omega,by simp,by simp,by simp,by simp,by simp,by simp,wP⟩
      ·have qs:¬ (u o.act.kind:Int)=3:=fun h=>dP ((zf o).1 h)
       have rg:jC o b y=true:=by unfold jC; simp[dP]
       simp[ES,qs,f3,f4,kU,ik,KD,aCI,br];refine dx.c6 ?_;have wP:=Cz rg;have mM:fb[3]? = some (.cells 1 [v]) :=by rw[aW 3 (by omega)]; exact f3
       simp[KL,mM,bO,a2];exact⟨by omega,by simp,by simp,by simp,by simp,by simp,by simp,wP⟩
     ·simp[h];have gV:k=s.l.length:=by simp at h; omega
      rw[gV,aDi] at fU Gf;have kD:∀ c:bp,(l.set 2 c)[2]? = some c:=fun c=>aC3 (by omega)
      have FW:∀ c:bp,bW 33 (l.set 2 c) v j ((s.l.filter (jC o b)).map b3) :=fun c=>fU.nF (j0.imp id fun h=>by rw[aCU (by omega)])
      simp[ji,fh,kD];exact qD (s4 ((FW _).q.mP lW (D1 (s.l.filter (jC o b))) (by rw[Gf,auY]) (MU _))) (.same _ rfl)
  ·have aD:jo s o b=(none,8) :=by unfold jo; rw[if_pos aG,if_neg h1]
   rw[aD];simp[bn];refine a8 cU (by simp[a7,ad.closed,bT]) ?_;simp[aG];refine a8 zW q9 ?_;simp[h1];exact aJ rfl rfl
 ·have aD:jo s o b=(none,iA s.l) :=by unfold jo; rw[if_neg aG]
  rw[aD];simp[bn];refine a8 cU (by simp[a7,ad.closed,bT]) ?_;simp[aG];refine a8 cU (by simp[a7,ad.closed,bT]) ?_;simp;exact aJ rfl rfl
theorem Ym (l:List bF) (x:bF) :∀ (n i:Nat),mL l x n<=i->i<n->gF x (nu l i)=true
 | 0,i,_,h=>by omega
 | n+1,i,h1,ag=>by
  unfold mL at h1;split at h1
  ·rename_i h;by_cases aB:i=n
   ·rw[aB]; exact h
   ·exact Ym l x n i h1 (by omega)
  ·omega
theorem Yn (l:List bF) (x:bF) :∀ (n i:Nat),mL l x n=i+1->gF x (nu l i)=false
 | 0,i,h=>by cases h
 | n+1,i,h1=>by
  unfold mL at h1;split at h1
  ·exact Yn l x n i h1
  ·rename_i h;obtain rfl:n=i:=by omega
   exact Bool.eq_false_iff.2 h
theorem apn {l:List bF} {x:bF} (aA:pY l=true) (al:x∉l) :mL l x l.length=mm l x:=by
 refine (EG x (L6 l x l.length) (fun t y aQ aE=>?_) (fun y aE=>?_)).symm
 ·obtain⟨i,aB⟩:∃ i,mL l x l.length=i+1:=⟨mL l x l.length - 1,by omega⟩
  have eD:=L6 l x l.length;obtain⟨z,az,Ap⟩:=bV (l:=l) (k:=i) (by omega);have h1:=Yn l x l.length i aB;rw[oH az] at h1;have ag:=aox h1 (fun h=>al (by rw[h]; exact Ap));exact Th aA x t i y z (by omega) aE az ag
 ·have aP:=(aCJ.1 aE).1;have h1:=Ym l x l.length _ (aCL _) aP;rw[oH aE] at h1;cases ag:gF y x with
  | false=>rfl
  | true=>have:=LB h1 ag; rw[Xt] at this; cases this
theorem ajP {l:List bF} {x:bF} (aA:pY l=true) :sg l x=true<->x∈l:=by
 unfold sg;rw[aCQ,decide_eq_true_eq,decide_eq_true_eq];constructor
 ·rintro⟨h1,ag⟩;obtain⟨z,az,Ap⟩:=bV (l:=l) (k:=mm l x) h1;rw[oH az] at ag;rw[<-ag]; exact Ap
 ·intro hm;obtain⟨j,am⟩:=aCY.1 hm;have aP:=(aCJ.1 am).1;have ak:=EG x (l:=l) (p:=j) (by omega) (fun t y aQ aE=>E6 aA (d:=j - t - 1) aE (by rw[show t+(j - t - 1)+1=j by omega]; exact am)) (fun y aE=>by
   rw[am] at aE; obtain rfl:=Option.some.inj aE; exact Xt _)
  rw[ak];exact⟨aP,oH am⟩
theorem aeb (s:e7) (x:bF) (aA:pY s.l=true) :(oa s x).1.l=(qR s x).1.l/\(oa s x).2=(qR s x).2:=by
 unfold oa qR;have aL:=ajP (x:=x) aA;by_cases hm:x∈s.l
 ·rw[aL.2 hm,if_pos rfl,if_pos hm]; exact⟨rfl,rfl⟩
 ·have alq:sg s.l x=false:=by
   cases h:sg s.l x with
   | false=>rfl
   | true=>exact absurd (aL.1 h) hm
  rw[alq,if_neg (by simp),if_neg hm];split
  ·exact⟨rfl,rfl⟩
  ·refine⟨?_,rfl⟩;show hy s.l (mm s.l x) x=rF s.l x;unfold rF;rw[apn aA hm]
theorem aer (s:e7) (o:bJ) (b:eN) :(gq s o b).1.l=(jo s o b).1.l/\(gq s o b).2=(jo s o b).2:=by
 unfold gq jo;by_cases aG:iA s.l=0
 ·rw[if_pos aG,if_pos aG];have aA:=(B0 aG).2;by_cases h1:fZ o=0
  ·rw[if_pos h1,if_pos h1];by_cases ag:60<b.l.length
   ·rw[if_pos ag,if_pos ag]; exact⟨rfl,rfl⟩
   ·rw[if_neg ag,if_neg ag];by_cases cc:o.act.kind=2#8
    ·rw[if_pos cc,if_pos cc]; exact aeb s _ aA
    ·rw[if_neg cc,if_neg cc];by_cases dP:o.act.kind=3#8
     ·rw[if_pos dP];refine⟨?_,rfl⟩;have mA:∀ t,jC o b t=!lR o b t:=fun t=>by
       unfold jC lR;by_cases a2:t.key=o.act.key<;>by_cases b7:t.id∈b.l<;>simp[dP,a2,b7]
      rw[MU];show (acK (fun l=>l.filter fun t=>!lR o b t) s).l=_;cases s with
      | none=>rfl
      | some a=>
       show a.filter (fun t=>!lR o b t)=a.filter (jC o b);congr 1;funext t; exact (mA t).symm
     ·rw[if_neg dP];refine⟨?_,rfl⟩;rw[MU];show s.l=_;rw[List.filter_eq_self.2];intro t _;unfold jC; simp[dP]
  ·rw[if_neg h1,if_neg h1]; exact⟨rfl,rfl⟩
 ·rw[if_neg aG,if_neg aG]; exact⟨rfl,rfl⟩
theorem VN {a b:bF} (h:gF a b=true) :a.key=b.key\/fi a.key b.key=true:=by
 unfold gF at h;by_cases e:a.key=b.key
 ·exact .inl e
 ·rw[if_neg e] at h; exact .inr h
theorem anW {l:List bF} (aA:pY l=true) {k:Nat} {y:bF} (aE:l[k]? = some y) :o2 (l.take k) y.key=true<->∃ x,1<=k/\l[k - 1]? = some x/\x.key=y.key:=by
 constructor
 ·intro h;unfold o2 at h;rw[decide_eq_true_eq] at h;obtain⟨z,az,C5⟩:=aC9.1 h;obtain⟨i,aB⟩:=aCY.1 az;have dZ:=(aCJ.1 aB).1;rw[aCX] at dZ;rw[aCW (by omega)] at aB;have vC:1<=k:=by omega
  have dt:=(aCJ.1 aE).1;obtain⟨x,al,_⟩:=bV (l:=l) (k:=k - 1) (by omega);refine⟨x,vC,al,?_⟩;have h1:=VN (Jc aA al (by rw[show k - 1+1=k by omega]; exact aE));rcases h1 with h1 | h1
  ·exact h1
  ·exfalso;by_cases jW:i=k - 1
   ·rw[jW,al] at aB; obtain rfl:=Option.some.inj aB;rw[C5,yA] at h1; cases h1
   ·have ag:=VN (E6 aA (d:=k - 1 - i - 1) aB (by rw[show i+(k - 1 - i - 1)+1=k - 1 by omega]; exact al));rcases ag with ag | ag
    ·rw[<-ag,C5,yA] at h1; cases h1
    ·have:=DT ag h1;rw[C5,yA] at this; cases this
 ·rintro⟨x,vC,al,Al⟩;exact TK (aCY.2 ⟨k - 1,by rw[aCW (by omega)]; exact al⟩) Al
theorem Lj {l:List bF} {k:Nat} {y:bF} (aE:l[k]? = some y) :iP (l.map bF.key) k=y.key:=by
 unfold iP; rw[aC2,aCO,aE]; rfl
theorem VO {l:List bF} (aA:pY l=true) :∀ m,m<=l.length->pR (l.map bF.key) m=s2 l m
 | 0,_=>rfl
 | m+1,h=>by
  obtain⟨y,aE,_⟩:=bV (l:=l) (k:=m) (by omega);rw[BF,abL,VO aA m (by omega),Lj aE,oH aE];congr 1;have aI:=anW aA aE;by_cases aR:o2 (l.take m) y.key=true
  ·rw[if_pos aR];obtain⟨x,vC,al,Al⟩:=aI.1 aR;rw[if_neg];rintro (aG | aG)
   ·omega
   ·exact aG (by rw[Lj al,Al])
  ·rw[if_neg aR,if_pos];by_cases aG:m=0
   ·exact .inl aG
   ·right;intro au;obtain⟨x,al,_⟩:=bV (l:=l) (k:=m - 1) (by omega);rw[Lj al] at au;exact aR (aI.2 ⟨x,by omega,al,au.symm⟩)
theorem anZ (l:List bF) :(um l).l=(Lr l).l:=by
 unfold um Lr;by_cases aG:iA l=0
 ·rw[if_pos aG,if_pos aG];have aA:=(B0 aG).2;unfold A9 Mg;by_cases ar:l=[]
  ·rw[if_pos ar,if_pos ar]
  ·rw[if_neg ar,if_neg ar];show sb (l.map bF.key)=s2 l l.length;unfold sb;rw[aCZ];exact VO aA l.length (aCL _)
 ·rw[if_neg aG,if_neg aG]
theorem Xz {l:List bF} {k:List UInt8}:∀ m,m<=l.length->(k∈s2 l m<->k∈(l.take m).map bF.key)
 | 0,_=>by simp[s2]
 | m+1,h=>by
  obtain⟨y,aE,_⟩:=bV (l:=l) (k:=m) (by omega);rw[abL,aDr,Xz m (by omega),oH aE,aC4,aE,aDe,aDr];by_cases aR:o2 (l.take m) y.key=true
  ·rw[if_pos aR];unfold o2 at aR;rw[decide_eq_true_eq] at aR;simp;rintro rfl;simpa using aR
  ·rw[if_neg aR];simp
theorem akK (l:List bF) (k:List UInt8) :Cg l k=JG l k:=by
 unfold Cg JG;rw[anZ];unfold Lr;by_cases aG:iA l=0
 ·rw[if_pos aG,decide_eq_true aG,aDL];unfold Mg o2;by_cases ar:l=[]
  ·rw[if_pos ar,ar]; simp
  ·rw[if_neg ar];have:=Xz (l:=l) (k:=k) l.length (aCL _);rw[aDi] at this;show decide (k∈s2 l l.length)=_;simp only[this]
 ·rw[if_neg aG,decide_eq_false aG]; simp
end Op

end Go.ct

namespace Go.ct
open Go Go.Proofs Go.RowKit
set_option maxRecDepth 100000
namespace Op
open hK
theorem avu {ts:List TypeId} {cs:List ad} (h:ec Tryz.prog (53::ts) cs) :∃ (t:bF) (cs' : List ad),cs=b3 t++cs'/\t.id.length=32/\ec Tryz.prog ts cs':=by
 have h1:=tc (fs:=[9,48]) (by kernel_rfl) h;obtain⟨s,_,rfl,ag⟩:=D7 (by kernel_rfl) h1;obtain⟨x,cs',rfl,al,aq⟩:=M8 ag;exact⟨⟨s,x⟩,cs',rfl,al,aq⟩
theorem aeo (s:e7) (o:bJ) (b:eN) (ap:gY s.l) (ar:s.l.length<=1000000) :gY (gq s o b).1.l/\(gq s o b).1.l.length<=1000000:=by
 have aG:gY (dX.l (none:e7))/\(dX.l (none:e7)).length<=1000000:=⟨fun t aQ=>(by cases aQ),by simp⟩
 unfold gq;split
 ·rename_i aQ;have i9:=(B0 aQ).1;split
  ·split
   ·exact aG
   ·split
    ·unfold oa;split
     ·exact aG
     ·split
      ·exact aG
      ·refine⟨K4 ap (Ar o),?_⟩;show (hy s.l _ _).length<=_;rw[K3]; omega
    ·split
     ·cases s with
      | none=>exact aG
      | some a=>
       refine⟨fun t aQ=>ap t (aEd.1 aQ).1,?_⟩;have:=aEa (fun t=>!lR o b t) a;exact aD2 this ar
     ·exact⟨ap,ar⟩
  ·exact aG
 ·exact aG
def aj1 (o:bJ) (b:eN) (t:bF) :Bool:=decide (o.act.kind=3#8)&&lR o b t
structure awy (s:e7) (o:bJ) (b:eN) (t:List bF) :Prop where
 ok:iA t=0
 mem:∀ x∈s.l,decide (x∈t)=!aj1 o b x
 new:∀ x∈t,x∉s.l->o.act.kind=2#8/\x=⟨o.act.key,db o⟩
 cnt:∃ p:Nat,(o.act.kind=2#8->p<t.length/\∀ (i:Nat) (y:bF),t[i]? = some y->(y∉s.l<->i=p))/\(o.act.kind≠2#8->∀ x∈t,x∈s.l)
end Op

end Go.ct

namespace Go.ct
open Go Go.Proofs
set_option maxRecDepth 100000
namespace Op
open hK
structure HO (g:cR) (i:Nat) (out:List (List B)) :Prop where
 mem:∀ (j:Nat) (p:List B),g.ids.l[j]? = some p->(p∈out<->jm g.ids.l g.ops.l (dR g.ops.l i) j)
 sub:∀ p∈out,p∈g.ids.l
 len:out.length<=g.ids.l.length
theorem ad9 (g:cR) (aA:ib g) (V:uV g) {i:Nat} {x:List B} (aB:g.ids.l[i]? = some x) :∃ out,HO g i out/\bE Tryz.prog GS 101 [de g,.aM (a1 x)] (bc (hn out)) :=by
 obtain⟨r,l',FH,eD,out,h1,ag,aq,nf⟩:=ad8 g aA V aB;exact⟨out,⟨h1,ag,aq⟩,bS Tryz.checked.mixed bP ⟨r,l',FH,eD,nf⟩⟩
open Classical in
noncomputable def oQ (g:cR) (i:Nat) :List (List B) :=if h:∃ out,HO g i out/\bE Tryz.prog GS 101 [de g,.aM (a1 (cw g.ids.l i))] (bc (hn out)) then h.choose else []
theorem NN (g:cR) (aA:ib g) (V:uV g) {i:Nat} {x:List B} (aB:g.ids.l[i]? = some x) :HO g i (oQ g i)/\bE Tryz.prog GS 101 [de g,.aM (a1 x)] (bc (hn (oQ g i))) :=by
 have h:=ad9 g aA V aB;have al:cw g.ids.l i=x:=iO aB;rw[<-al] at h ⊢;unfold oQ;rw[dif_pos h];exact h.choose_spec
def atK (o:bJ) (k:List UInt8) :Bool:=decide (o.act.kind=3#8)&&decide (o.act.key=k)
def I9 (g:cR) (A:Nat->List (List B)) (k:List UInt8) (x:List B) :Nat->Bool
 | 0=>false
 | m+1=>I9 g A k x m||(match g.ops.l[m]? with | some o=>atK o k&&decide (x∈A m) | none=>false)
def auO (g:cR) (A:Nat->List (List B)) (o:bJ) (x:List B) :Bool:=decide (o.act.kind=2#8)&&!I9 g A o.act.key x g.ops.l.length
def AK (g:cR) (A:Nat->List (List B)) :Nat->e7
 | 0=>none
 | m+1=>match g.ops.l[m]?,g.ids.l[m]? with
  | some o,some x=>if auO g A o x=true then some (rF (AK g A m).l ⟨o.act.key,x⟩) else AK g A m
  | _,_=>AK g A m
def ai4 (L:List (List B)) :List ad:=[bc (hn L)]
theorem It (s:e7) :(cE s).cells=some [cE s] :=by cases s<;>rfl
structure awB (g:cR) (k:Nat) (ah:bB) (l:aw) :Prop where
 aW:ah 1=.ptr 0 0 2
 bg:ah 2=.ptr 1 0 1
 bj:ah 3=.int .i64 0
 bC:ah 5=.int .i64 k
 rD:∃ v,ah 4=v/\cA 1 ai4 [.cells 2 [bc g.ids,c8 g.ops],.cells 1 [.aK]] l v ((List.range k).map (oQ g)) (decide (k=0))
structure awC (g:cR) (Bg:aw) (v4:ad) (k:Nat) (ah:bB) (l:aw) :Prop where
 aW:ah 1=.ptr 0 0 2
 bg:ah 2=.ptr 1 0 1
 bj:ah 3=.int .i64 0
 bL:ah 4=v4
 cv:ah 6=.ptr Bg.length 0 1
 eU:ah 7=.int .i64 k
 ex:∃ m,l=Bg++.cells 1 [cE (AK g (oQ g) k)] ::m
structure awD (g:cR) (Bg:aw) (v4:ad) (i:Nat) (o:bJ) (x:List B) (b:Nat) (k:Nat) (ah:bB) (l:aw) :Prop where
 aW:ah 1=.ptr 0 0 2
 bg:ah 2=.ptr 1 0 1
 bj:ah 3=.int .i64 0
 bL:ah 4=v4
 cv:ah 6=.ptr Bg.length 0 1
 eU:ah 7=.int .i64 i
 et:ah 8=.ptr b 0 6
 hB:ah 9=.bool (I9 g (oQ g) o.act.key x k)
 gJ:ah 10=.int .i64 k
 ex:∃ m,l=Bg++.cells 1 [cE (AK g (oQ g) i)] ::m/\l[b]? = some (.cells 6 (j9 o.act))
noncomputable def aBE (g:cR) :e7:=if gR g=0 then AK g (oQ g) g.ops.l.length else none
theorem N0 (g:cR) (i:Nat) :(mX g i).length<=g.ids.l.length:=LK _ _ _
theorem N1 {g:cR} {i:Nat} {x:List B} (h:x∈mX g i) :x∈g.ids.l:=by
 unfold mX at h;obtain⟨j,am,_,rfl⟩:=XB.1 h;obtain⟨y,aE,b6⟩:=bV am;rw[iO aE]; exact b6
theorem ajX {α:Type} {l:List α} {i:Nat} {d x:α} (h:l[i]? = some x) :l.getD i d=x:=by rw[aC2,h]; rfl
open Classical in
theorem N2 {g:cR} (am:kK g.ids.l) {i j:Nat} {p:List B} (aF:g.ids.l[j]? = some p) :p∈mX g i<->jm g.ids.l g.ops.l (dR g.ops.l i) j:=by
 have aC:∀ t,t<g.ids.l.length->(nr g (dR g.ops.l i)).getD t false=decide (jm g.ids.l g.ops.l (dR g.ops.l i) t) :=fun t aQ=>by
  apply ajX;unfold nr;rw[aCO,aDN aQ]; rfl
 unfold mX;rw[XB];constructor
 ·rintro⟨t,aQ,h1,ag⟩;rw[aC t aQ] at h1;obtain⟨y,aE,_⟩:=bV aQ;rw[iO aE] at ag;subst ag;rw[am j t y aF aE];exact of_decide_eq_true h1
 ·intro h;have ar:=(aCJ.1 aF).1;exact⟨j,ar,by rw[aC j ar]; exact decide_eq_true h,iO aF⟩
structure H1 (g:cR) :Prop where
 ids:gx g.ids
 ops:∀ o∈g.ops.l,H2 o
theorem avk {ts:List TypeId} {cs:List ad} (h:kO Tryz.prog (25::ts) cs) :∃ (g:cR) (cs' : List ad),cs=de g::cs'/\H1 g/\kO Tryz.prog ts cs':=by
 obtain⟨c,cs',rfl,h1,ag⟩:=HA h;obtain⟨cs,rfl,aq⟩:=M6 (by kernel_rfl) h1;have aH:=tc (fs:=[22,23]) (by kernel_rfl) aq;obtain⟨i,_,rfl,aB,bd⟩:=M9 aH;obtain⟨s,_,rfl,_,ax,bM⟩:=HB (e:=82) (z:=11) (enc:=bn) (Q:=H2) (by kernel_rfl) (by kernel_rfl) (fun r aC=>by
  obtain⟨x,_,rfl,al,aq⟩:=avr aC;rw[yK aq,aDl];exact⟨x,rfl,al⟩) bd
 rw[yK bM];exact⟨⟨i,s⟩,cs',rfl,⟨aB,ax⟩,ag⟩
theorem ao6 {g:cR} (h:H1 g) (aA:vp g=false) :ib g:=by
 unfold vp at aA;simp only[aEH,decide_eq_false_iff_not] at aA;obtain⟨h1,ag,aq,aH⟩:=aA;refine⟨h.ids,fun o ax=>?_,by omega,by omega⟩;have bd:¬ tK o=true:=fun aR=>h1 ⟨o,by rw[aCI (by omega)]; exact ax,aR⟩
 unfold tK at bd;simp only[aE7,decide_eq_true_eq,not_or] at bd;have aQ:=h.ops o ax;exact⟨aQ.ids,by omega,⟨aQ.lM,aQ.nl,by omega⟩,by omega⟩
theorem G8 (ops:List bJ) (i:Nat) :dR (ops.map hU) i=dR ops i:=by
 unfold dR;rw[aCO];cases ops[i]?<;>rfl
theorem yJ (g:cR) :(iT g).ops.l=g.ops.l.map hU:=jH _
theorem ah7 (ids:List (List B)) (ops:List bJ) (out:List Nat) :pM ids (ops.map hU) out=pM ids ops out:=by
 funext i;unfold pM;rw[G8]
theorem XN (ids:List (List B)) (ops:List bJ) (out:List Nat) :kp ids (ops.map hU) out=kp ids ops out:=by unfold kp; rw[ah7,aCZ]
theorem X3 (ids:List (List B)) (ops:List bJ) :∀ k,gy ids (ops.map hU) k=gy ids ops k
 | 0=>rfl
 | k+1=>by
  have aY:=X3 ids ops k;cases h:kp ids ops (gy ids ops k) with
  | none=>rw[G1 h,G1 (by rw[aY,XN]; exact h),aY]
  | some i=>rw[Dx h,Dx (by rw[aY,XN]; exact h),aY]
theorem auk (ids:List (List B)) (ops:List bJ) :n1 ids (ops.map hU)=n1 ids ops:=by
 have h1:wd ids (ops.map hU)=wd ids ops:=by
  unfold wd;rw[decide_eq_decide];constructor
  ·intro h o ax; exact h (hU o) (aEi ax)
  ·intro h o ax;obtain⟨eh,ev,rfl⟩:=aC9.1 ax;exact h eh ev
 have ag:ps ids (ops.map hU)=ps ids ops:=by unfold ps; rw[X3,aCZ]
 unfold n1;rw[h1,ag,aCZ]
theorem aj2 (g:cR) (k:Nat) :m1 (iT g) k=m1 g k:=by
 unfold m1;rw[yJ,aCO];rw[show (iT g).ids.l=g.ids.l from rfl];cases g.ops.l[k]?<;>cases g.ids.l[k]?<;>rfl
theorem RQ (g:cR) :gR (iT g)=gR g:=by
 have h1:xj (iT g)=xj g:=by
  unfold xj;rw[decide_eq_decide,yJ,aCZ];simp only[aj2]
 unfold gR;rw[h1,yJ,auk,aCZ];rfl
theorem atv {ids:List (List B)} {ops:List bJ} {L:List (List B)} {i:Nat}:jm ids (ops.map hU) L i<->jm ids ops L i:=by
 constructor
 ·intro h
  induction h with
  | start p j aF am=>exact .start p j aF am
  | step i p j aC aF am aY=>rw[G8] at aF; exact .step i p j aY aF am
 ·intro h
  induction h with
  | start p j aF am=>exact .start p j aF am
  | step i p j aC aF am aY=>exact .step i p j aY (by rw[G8]; exact aF) am
theorem aef (g:cR) (i:Nat) :mX (iT g) i=mX g i:=by
 unfold mX;rw[yJ,G8];have h:nr (iT g) (dR g.ops.l i)=nr g (dR g.ops.l i) :=by
  unfold nr;rw[yJ];exact aEy fun j _=>decide_eq_decide.2 atv
 rw[h]; rfl
end Op

end Go.ct

namespace Go.Proofs
open Go.Shelf
set_option maxRecDepth 100000
def Tryz.auz:Go.Shelf.Ren:=⟨fun | 6=>99 | 15=>135 | 14=>156 | 28=>188 | 29=>189 | 20=>210 | 21=>211 | 22=>212 | 23=>213 | 24=>214 | 25=>215 | 26=>216 | 27=>217 | 46=>248 | 47=>229 | 48=>230 | 49=>249 | 50=>250 | 57=>263 | n=>n,fun | 22=>22 | 24=>48 | 25=>115 | 3=>3 | 39=>194 | 0=>0 | 53=>76 | 55=>40 | 4=>4 | 46=>234 | 45=>233 | 50=>152 | 5=>5 | 9=>9 | 66=>269 | 70=>273 | 76=>291 | 77=>292 | n=>n,fun | n=>n⟩
theorem Tryz.aux:Go.Proofs.SlLaysF0.n6 Tryz.prog Tryz.auz where
 mixed:=by kernel_rfl
 f6:=⟨ "slices.SortFunc[[]braid/api.ID,braid/api.ID]",by decide,Tryz.func99.trans (congrArg some (by kernel_rfl))⟩
 f14:=⟨ "slices.pdqsortCmpFunc[braid/api.ID]",by decide,Tryz.func156.trans (congrArg some (by kernel_rfl))⟩
 f15:=Tryz.func135.trans (congrArg some (by kernel_rfl))
 f20:=⟨ "slices.insertionSortCmpFunc[braid/api.ID]",by decide,Tryz.func210.trans (congrArg some (by kernel_rfl))⟩
 f21:=⟨ "slices.heapSortCmpFunc[braid/api.ID]",by decide,Tryz.func211.trans (congrArg some (by kernel_rfl))⟩
 f22:=⟨ "slices.breakPatternsCmpFunc[braid/api.ID]",by decide,Tryz.func212.trans (congrArg some (by kernel_rfl))⟩
 f23:=⟨ "slices.choosePivotCmpFunc[braid/api.ID]",by decide,Tryz.func213.trans (congrArg some (by kernel_rfl))⟩
 f24:=⟨ "slices.reverseRangeCmpFunc[braid/api.ID]",by decide,Tryz.func214.trans (congrArg some (by kernel_rfl))⟩
 f25:=⟨ "slices.partialInsertionSortCmpFunc[braid/api.ID]",by decide,Tryz.func215.trans (congrArg some (by kernel_rfl))⟩
 f26:=⟨ "slices.partitionEqualCmpFunc[braid/api.ID]",by decide,Tryz.func216.trans (congrArg some (by kernel_rfl))⟩
 f27:=⟨ "slices.partitionCmpFunc[braid/api.ID]",by decide,Tryz.func217.trans (congrArg some (by kernel_rfl))⟩
 f28:=Tryz.func188.trans (congrArg some (by kernel_rfl))
 f29:=Tryz.func189.trans (congrArg some (by kernel_rfl))
 f46:=⟨ "slices.siftDownCmpFunc[braid/api.ID]",by decide,Tryz.func248.trans (congrArg some (by kernel_rfl))⟩
 f47:=Tryz.func229.trans (congrArg some (by kernel_rfl))
 f48:=Tryz.func230.trans (congrArg some (by kernel_rfl))
 f49:=⟨ "slices.medianAdjacentCmpFunc[braid/api.ID]",by decide,Tryz.func249.trans (congrArg some (by kernel_rfl))⟩
 f50:=⟨ "slices.medianCmpFunc[braid/api.ID]",by decide,Tryz.func250.trans (congrArg some (by kernel_rfl))⟩
 f57:=⟨ "slices.order2CmpFunc[braid/api.ID]",by decide,Tryz.func263.trans (congrArg some (by kernel_rfl))⟩
 t0:=Tryz.underlying0
 a0:=Tryz.isAgg0
 z0:=Tryz.sizeOf0
 v0:=Tryz.zeroValue0
 t3:=Tryz.underlying3
 a3:=Tryz.isAgg3
 z3:=Tryz.sizeOf3
 v3:=Tryz.zeroValue3
 t4:=Tryz.underlying4
 a4:=Tryz.isAgg4
 z4:=Tryz.sizeOf4
 v4:=Tryz.zeroValue4
 t5:=Tryz.underlying5
 a5:=Tryz.isAgg5
 z5:=Tryz.sizeOf5
 v5:=Tryz.zeroValue5
 t9:=Tryz.underlying9
 a9:=Tryz.isAgg9
 z9:=Tryz.sizeOf9
 v9:=Tryz.zeroValue9
 t22:=Tryz.underlying22
 a22:=Tryz.isAgg22
 z22:=Tryz.sizeOf22
 v22:=Tryz.zeroValue22
 t25:=Tryz.underlying115
 a25:=Tryz.isAgg115
 z25:=Tryz.sizeOf115
 v25:=Tryz.zeroValue115
 t39:=Tryz.underlying194
 a39:=Tryz.isAgg194
 z39:=Tryz.sizeOf194
 v39:=Tryz.zeroValue194
 t45:=Tryz.underlying233
 a45:=Tryz.isAgg233
 z45:=Tryz.sizeOf233
 v45:=Tryz.zeroValue233
 t46:=Tryz.underlying234
 a46:=Tryz.isAgg234
 z46:=Tryz.sizeOf234
 v46:=Tryz.zeroValue234
 t50:=Tryz.underlying152
 a50:=Tryz.isAgg152
 z50:=Tryz.sizeOf152
 v50:=Tryz.zeroValue152
 t53:=Tryz.underlying76
 a53:=Tryz.isAgg76
 z53:=Tryz.sizeOf76
 v53:=Tryz.zeroValue76
 t55:=Tryz.underlying40
 a55:=Tryz.isAgg40
 z55:=Tryz.sizeOf40
 v55:=Tryz.zeroValue40
 t66:=Tryz.underlying269
 a66:=Tryz.isAgg269
 z66:=Tryz.sizeOf269
 v66:=Tryz.zeroValue269
 t70:=Tryz.underlying273
 a70:=Tryz.isAgg273
 z70:=Tryz.sizeOf273
 v70:=Tryz.zeroValue273
 t76:=Tryz.underlying291
 a76:=Tryz.isAgg291
 z76:=Tryz.sizeOf291
 v76:=Tryz.zeroValue291
 t77:=Tryz.underlying292
 a77:=Tryz.isAgg292
 z77:=Tryz.sizeOf292
 v77:=Tryz.zeroValue292
end Go.Proofs

namespace Go.ct
open Go Go.Proofs Go.Sort Go.Shelf
set_option maxRecDepth 100000
open hK
abbrev uT:={l:List B // l.length=32}
instance:Inhabited uT:=⟨⟨List.replicate 32 0#8,by simp⟩⟩
def zg (x:uT) :List ad:=x.1.map bQ
def vg (x y:uT) :Int:=cI x.1 y.1
theorem acL:SWO (ltOf vg) where
 irrefl x:=MW.irrefl x.1
 trans x y z:=MW.trans x.1 y.1 z.1
 ntrans x y z:=MW.ntrans x.1 y.1 z.1
theorem aei (x y:uT) (h1:ltOf vg x y=false) (ag:ltOf vg y x=false) :x=y:=Subtype.ext (aej x.1 y.1 h1 ag)
theorem Sq (x:uT) :(zg x).length=32:=by unfold zg; rw[aCZ,x.2]
theorem ai5 (x:uT) :∀ c∈zg x,AQ c=true:=fun c ak=>by obtain⟨b,_,rfl⟩:=aC9.1 ak; rfl
theorem auy {g:Nat} (ai2:∀ args w,(callFunc g args).run Tryz.prog w=.ok (.enter g args) w) :HX Tryz.prog 99 g 32 (fun x=>(zg x).map valOf) vg:=
 fun blk off cap d w tQ hH hblk h6=>
  AnyQ.slices_SortFunc Tryz.aux 32 (by intro w; exact Tryz.isAgg48 w) (by intro w; exact Tryz.sizeOf48 w) _ (fun x=>by rw[aCZ,Sq]) (fun x v ay=>by obtain⟨c,_,rfl⟩:=aC9.1 ay; exact Nl c) vg acL g #[] blk off cap d w ai2 tQ hH hblk h6
end Go.ct

/-
  Sets of tags: checked, keys; walked in both texts.
-/
import Derived.Test.YtginfboibgolaaaGreatDoorRj
import Derived.Shelf.Spec.SlicesInsertGrow
import Derived.Test.YtginfboibgolaaaGreatDoorRows
import Derived.Shelf.SlSortCmp.WholeK
import Derived.Shelf.SlGeneric
set_option linter.unusedVariables false
set_option linter.unusedSimpArgs false
set_option linter.unnecessarySimpa false
namespace Go.bJ
open Go Go.Proofs
set_option maxRecDepth 100000
namespace Op
open eX
theorem H2 (a b:bQ) :(j5 a b<0)<->gx a b=true:=by
 unfold j5 oW zS gx;by_cases h:a.key=b.key
 ·have ax:eW b.key b.key=false:=by
   cases af:eW b.key b.key with
   | false=>rfl
   | true=>exact absurd ((rY _ _).1 af) (atB _)
  simp[h,ax]
 ·cases af:eW a.key b.key with
  | true=>simp[h]
  | false=>simp[h]
def tH (l:List bQ) (k:Nat) :bQ:=l.getD k ⟨[],[]⟩
theorem xY {l:List bQ} {k:Nat} {x:bQ} (h:l[k]? = some x) :tH l k=x:=by
 unfold tH; rw[aqD,h]; rfl
def sK (l:List bQ) (k:Nat) :Bool:=fE (tH l k).key&&(decide (k=0)||gx (tH l (k - 1)) (tH l k))
def wx (l:List bQ) :Bool:=decide (∀ k,k<l.length->sK l k=true)
def py (l:List bQ) :Int:=if 60<l.length then 4 else if wx l then 0 else 8
theorem Qn {l:List bQ} (h:∀ k,k<l.length->sK l k=true) :wx l=true:=decide_eq_true h
theorem Qk {l:List bQ} {k:Nat} (hk:k<l.length) (h:sK l k=false) :wx l=false:=decide_eq_false fun aM=>by rw[aM k hk] at h; cases h
theorem M8 (k:List UInt8) :hU ⟨2#8,k,hR⟩=fE k:=by
 rw[Aw rfl];have:ki hR=true:=by decide
 simp[this]
theorem L4 {E:List U} (h:E.length=33) :bn (U.str [] ::rep 32 (.int .u8 0)) 0 E=E:=eC (by rw[h]; rfl)
theorem VT (s:kz) (aq:rL s.l) (ak:s.l.length<=1000000) :bi Tryz.prog GS 90 [.aI [ha s]] (.int .i64 (py s.l)) :=by
 refine bt Tryz.checked.mixed bp ?_;apply bb Tryz.func90 [];unfold py;have bc:cL (.ar 33) (ha s)=some (.int .i64 s.l.length) :=by simp[ha]
 by_cases h1:60<s.l.length
 ·have dK:(60:Int)<(s.l.length:Int) :=by omega
  simp[bc,dK];exact aH (by rw[if_pos h1]) rfl
 ·have dK:¬ (60:Int)<(s.l.length:Int) :=by omega
  simp[bc,dK];refine cE s.l.length (fun k ae l=>(∃ r,l=.cells 1 [ha s] ::r)/\ae 1=.ptr 0 0 1/\ae 10=ha s/\ae 11=.int .i64 s.l.length/\ae 12=.int .i64 k/\∀ j,j<k->sK s.l j=true) ?_ (by simp);rintro k ae l hk ⟨⟨r,rfl⟩,aF,gP,hu,hI,al⟩;obtain⟨ae,rfl⟩:=iq aF gP hu hI;clear aF gP hu hI;simp;refine lY (fun h=>?_) (fun h=>?_)
  ·simp only[decide_eq_true_eq] at h;obtain⟨y,aG,dg⟩:=bW (l:=s.l) (k:=k) (by omega);have df:=yF (aq y dg);have aR:IntKind.i64.wrap ((k:Int)+1)=((k+1:Nat) :Int) :=by rw[IntKind.wrap_i64]; omega
   have bI:1<=k->IntKind.i64.wrap ((k:Int) - 1)=((k - 1:Nat) :Int) :=fun h=>by rw[IntKind.wrap_i64]; omega
   have Br:=AN ⟨2#8,y.key,hR⟩;rw[M8] at Br;have fX:sK s.l k=(fE y.key&&(decide (k=0)||gx (tH s.l (k - 1)) y)) :=by unfold sK; rw[xY aG]
   have ig:=L4 df;obtain⟨E,dV⟩:∃ E,E=aY y.id:=⟨_,rfl⟩
   have yR:eF y=.str y.key::E:=by rw[dV]; rfl
   have sP:E.length=32:=by rw[dV]; exact dk (aq y dg)
   have aao:aV E=true:=by rw[dV]; exact hX _
   rw[yR] at df ig;simp[ha,aG,yR,sP,ig,aqs];refine aU Br rfl ?_;cases aZ:fE y.key with
   | false=>
    rw[aZ,ar4] at fX;simp[eh];exact aH (by rw[if_neg h1,Qk h fX]; rfl) rfl
   | true=>
    rw[aZ,art] at fX;rcases k with _ | k
    ·simp[eh,aR];exact⟨by omega,rfl,by rw[IntKind.wrap_i64]; omega,by rw[fX]; rfl⟩
    ·obtain⟨x,ag,dm⟩:=bW (l:=s.l) (k:=k) (by omega);have bB:=yF (aq x dm);have dJ:IntKind.i64.wrap (k:Int)=(k:Int) :=by rw[IntKind.wrap_i64]; omega
     have ke:(0:Int)<(k:Int)+1:=by omega
     have h4:=O9 x y (aq x dm) (aq y dg);rw[yR] at h4;simp only[aso,xY ag,Nat.add_eq_zero_iff,Nat.one_ne_zero,and_false,decide_false,atf] at fX;simp[eh,ke,ag,bB,dJ,sP,aqs];refine aU h4 (by simp[aV,U.closed,aao,H1]) ?_;have mD:=H2 x y;by_cases bx:j5 x y<0
     ·rw[mD.1 bx] at fX;have uE:¬ (0:Int)<=j5 x y:=by omega
      simp[uE,aR];refine⟨by omega,rfl,by rw[IntKind.wrap_i64]; omega,fun j ai=>?_⟩;by_cases h5:j=k+1
      ·rw[h5,fX]
      ·exact al j (by omega)
     ·have uE:(0:Int)<=j5 x y:=by omega
      have de:gx x y=false:=by
       cases eb:gx x y with
       | false=>rfl
       | true=>exact absurd (mD.2 eb) bx
      rw[de] at fX;simp[uE];exact aH (by rw[if_neg h1,Qk h fX]; rfl) rfl
  ·simp[h];have lP:k=s.l.length:=by simp at h; omega
   exact aH (by rw[if_neg h1,if_pos (Qn fun j ai=>al j (by omega))]) rfl
abbrev h8 (l:List (List UInt8)) (k:Nat) :List UInt8:=l.getD k []
def pT (l:List (List UInt8)) (m:Nat) :List (List UInt8) :=(List.range m).flatMap fun k=>if k=0\/h8 l k≠h8 l (k - 1) then [h8 l k] else []
def uu (l:List (List UInt8)) :List (List UInt8) :=pT l l.length
theorem D5 (l:List (List UInt8)) (m:Nat) :pT l (m+1)=pT l m++(if m=0\/h8 l m≠h8 l (m - 1) then [h8 l m] else []) :=by
 unfold pT; rw[arQ,arX]; simp
theorem Pm (l:List (List UInt8)) :∀ m,(pT l m).length<=m
 | 0=>by simp[pT]
 | m+1=>by
  have:=Pm l m;rw[D5,aqA];split<;>simp<;>omega
theorem D4 {l:List (List UInt8)}:∀ {m},m<=l.length->(∀ k,1<=k->k<m->h8 l k≠h8 l (k - 1))->pT l m=l.take m
 | 0,_,_=>by simp[pT]
 | m+1,hm,h=>by
  rw[D5,D4 (by omega) (fun k h1 ad=>h k h1 (by omega)),aqN,if_pos (by
   by_cases aE:m=0
   ·exact .inl aE
   ·exact .inr (h m (by omega) (by omega)))]
  congr 1;unfold h8;rw[aqD,aqu (by omega)];rfl
theorem S6 {a:List (List UInt8)} {k:Nat} (h:k<a.length) :(a.map jz)[k]? = some (jz (h8 a k)) :=by
 rw[aqx];unfold h8;rw[aqD,aqu h];rfl
theorem SR {a:List (List UInt8)} {k:Nat} (h:k<a.length) :h8 a k∈a:=by
 unfold h8;rw[aqD,aqu h];exact asy h
structure Wh (l:am) (v:U) (xs:List (List UInt8)) (k:Nat) (ae:a2) (l1:am) :Prop where
 b9:ae 0=v
 aW:ae 3=.int .i64 ((k+1:Nat) :Int)
 ak:l1=l
 al:∀ j,1<=j->j<k+1->h8 xs j≠h8 xs (j - 1)
structure Wg (l:am) (v dv:U) (j:Nat) (xs:List (List UInt8)) (m i:Nat) (ae:a2) (bZ:am) :Prop where
 b9:ae 0=v
 bd:ae 4=dv
 bh:ae 5=.int .i64 ((i+1:Nat) :Int)
 fB:∃ (k:Nat) (a1:List (List UInt8)),ae 3=.int .i64 (k:Int)/\bG 1 bZ v j (a1.map jz)/\a1.length=xs.length/\(∀ y∈a1,y.length=y.length)/\a1.take k=pT xs (m+i+1)/\k<=m+i/\(∀ t,m+i<=t->h8 a1 t=h8 xs t)/\bZ.length=l.length/\∀ b,b≠j->bZ[b]? = l[b]?
theorem SS {l:am} {v:U} {j:Nat} {a1:List (List UInt8)} (h:eJ 1 l v j (a1.map jz)) {k:Nat} (hk:k<a1.length) :
  ∃ p cs o,cv (.ar 1) v (.int .i64 (k:Int))=some p/\dY l p=some (cs,o)/\cs[o]? = some (.str (h8 a1 k)) :=by
 obtain⟨p,cs,o,h1,ad,aj,aC⟩:=h.get (k:=.i64) (S6 hk);refine⟨p,cs,o,h1,ad,?_⟩;have:=congrArg (fun l=>l[0]?) aC;simp only[asH,aq3,jz] at this;simpa using this
theorem SU {l:am} {v:U} {j m:Nat} {a1:List (List UInt8)} (h:eJ 1 l v j ((a1.map jz).drop m)) {k:Nat} (hk:m+k<a1.length) :
  ∃ p cs o,cv (.ar 1) v (.int .i64 (k:Int))=some p/\dY l p=some (cs,o)/\cs[o]? = some (.str (h8 a1 (m+k))) :=by
 obtain⟨p,cs,o,h1,ad,aj,aC⟩:=h.get (k:=.i64) (i:=k) (e:=jz (h8 a1 (m+k))) (by rw[aq3]; exact S6 hk);refine⟨p,cs,o,h1,ad,?_⟩;have:=congrArg (fun l=>l[0]?) aC;simp only[asH,aq3,jz] at this;simpa using this
theorem Yk {c1 l:am} {v:U} {xs:List (List UInt8)} {fo:Bool} (h:b7 1 jz c1 l v xs fo) (ag:∀ x∈xs,x.length=x.length) (aD:xs.length<=1000000) {K:U->am->Prop} (aS:∀ r l',b7 1 jz c1 l' r (uu xs) fo->K r l') :
  c2 Tryz.prog GS 189 [v] l (c:=⟨K⟩) :=by
 apply bb Tryz.func189 [];have bc:=h.len;by_cases ad:xs.length<2
 ·have gD:(xs.length:Int)<2:=by omega
  have rl:uu xs=xs:=by
   unfold uu;rw[D4 (aqv _) (fun k h1 aj=>by omega),aq0]
  simp[bc,gD];exact aS _ _ (by rw[rl]; exact h)
 ·have gD:¬ (xs.length:Int)<2:=by omega
  simp[bc,gD];refine cE (xs.length - 1) (Wh l v xs) ?_ ⟨by simp,by simp,rfl,fun j h1 aj=>by omega⟩;rintro k ae l1 hk ⟨b9,aW,rfl,al⟩;obtain⟨ae,rfl⟩:=nA b9 aW;clear b9 aW;obtain⟨m,hm⟩:∃ m,m=k+1:=⟨_,rfl⟩
  rw[<-hm] at al ⊢;by_cases aL:m<xs.length
  ·have aR:IntKind.i64.wrap ((m:Int) - 1)=(k:Int) :=by rw[IntKind.wrap_i64]; omega
   have bI:IntKind.i64.wrap ((m:Int)+1)=((m+1:Nat) :Int) :=by rw[IntKind.wrap_i64]; omega
   have iD:(m:Int)<(xs.length:Int) :=by omega
   obtain⟨j,aq,lT⟩:=h;obtain⟨ly,ci,xy,a7,bl,a4⟩:=SS aq.q aL;obtain⟨qH,dd,nu,dU,dw,kA⟩:=SS aq.q (k:=k) (by omega);obtain⟨X,dy⟩:∃ X,X=h8 xs m:=⟨_,rfl⟩
   obtain⟨Y,gQ⟩:∃ Y,Y=h8 xs k:=⟨_,rfl⟩
   rw[<-dy] at a4;rw[<-gQ] at kA;by_cases ap:X=Y
   ·have p9:decide (X=Y)=true:=decide_eq_true ap;have ao:cq v=false:=by
     cases uS:cq v with
     | false=>rfl
     | true=>
      have:=iK.1 uS;subst this;have:=aq.q.vn;rw[arB] at this;rw[this] at aL; simp at aL
    obtain⟨dv,cQ,g8,_⟩:=aq.q.from ao (k:=.i64) (i:=m) (by simp; omega);have aE:pT xs m=xs.take m:=D4 (by omega) al;have h1:pT xs (m+1)=xs.take m:=by rw[D5,if_neg (fun h=>h.elim (fun aE=>by omega) (fun ad=>ad (by rw[<-dy,show m - 1=k by omega,<-gQ]; exact ap))),aE,aqW]
    simp[bc,iD,aR,a7,bl,a4,dU,dw,kA,ap,cQ];refine cE (xs.length - m - 1) (Wg l1 v dv j xs m) ?_ ⟨by simp,by simp,by simp,m,xs,by simp,aq,rfl,ag,h1.symm,by omega,fun t _=>rfl,rfl,fun b _=>rfl⟩;rintro i ae bZ ax ⟨b9,bd,bh,q,a1,aW,bm,df,rz,h7,zg,oc,wX,g5⟩;obtain⟨ae,rfl⟩:=iq b9 aW bd bh;clear b9 aW bd bh;obtain⟨cU,Js⟩:∃ cU,cU=i+1:=⟨_,rfl⟩
    rw[<-Js];obtain⟨aiX,C4,xT,_⟩:=bm.q.from ao (k:=.i64) (i:=m) (by simp; omega);rw[cQ] at C4;obtain rfl:=Option.some.inj C4;have fC:=xT.len;rw[arA,aqS,df] at fC;by_cases n5:cU<xs.length - m
    ·have sY:(cU:Int)<((xs.length - m:Nat) :Int) :=by omega
     have bS:IntKind.i64.wrap ((cU:Int) - 1)=(i:Int) :=by rw[IntKind.wrap_i64]; omega
     have w2:IntKind.i64.wrap ((cU:Int)+1)=((cU+1:Nat) :Int) :=by rw[IntKind.wrap_i64]; omega
     have dT:IntKind.i64.wrap ((q:Int)+1)=((q+1:Nat) :Int) :=by rw[IntKind.wrap_i64]; omega
     obtain⟨Lg,j4,pq,hP,jb,l7⟩:=SU xT (k:=cU) (by omega);obtain⟨afL,jg,rK,jY,m1,x7⟩:=SU xT (k:=i) (by omega);have qp:=rz _ (SR (a:=a1) (k:=m+cU) (by omega));have jq:=rz _ (SR (a:=a1) (k:=m+i) (by omega));have qk:=oc (m+cU) (by omega);have ql:=oc (m+i) (by omega);have br:=D5 xs (m+cU);rw[show m+cU - 1=m+i by omega] at br;obtain⟨lJ,I7⟩:∃ X,X=h8 a1 (m+cU) :=⟨_,rfl⟩
     obtain⟨v7,Bq⟩:∃ Y,Y=h8 a1 (m+i) :=⟨_,rfl⟩
     rw[<-I7] at l7 qp qk;rw[<-Bq] at x7 ql;rw[<-qk,<-ql] at br;rw[show m+i+1=m+cU by omega] at h7;by_cases nY:lJ=v7
     ·have s3:decide (lJ=v7)=true:=decide_eq_true nY;rw[if_neg (fun h=>h.elim (fun aE=>by omega) (fun ad=>ad nY)),aqW] at br;simp[fC,sY,bS,hP,jb,l7,jY,m1,x7,nY,w2];exact⟨by omega,by simp,by simp,by simp,q,a1,by simp,bm,df,rz,by rw[br]; exact h7,by omega,fun t aP=>oc t (by omega),wX,g5⟩
     ·have s3:decide (lJ=v7)=false:=decide_eq_false nY;rw[if_pos (.inr nY)] at br;obtain⟨TS,dQ,l8,hQ,z3,z4,z5⟩:=Ge (X:=.str lJ) rfl bm (fun _ _=>rfl) (k:=q) (x:=lJ) (by omega) rfl;simp[fC,sY,bS,hP,jb,l7,jY,m1,x7,nY,w2,dT,l8,hQ];have Mn:(a1.take q).length=q:=by rw[aqM]; omega
      have mM:(a1.set q lJ).take (q+1)=a1.take q++[lJ] :=by
       rw[arZ,if_pos (by omega),ase,Mn,aqs (by omega),show q+1 - q=1 by omega]; simp
      refine⟨by omega,by simp,by simp,by simp,q+1,a1.set q lJ,by simp,z3,by simp[df],fun y aG=>?_,by rw[mM,br,h7],by omega,fun t aP=>?_,by omega,fun b af=>(z5 b af).trans (g5 b af)⟩
      ·rcases arR aG with h | h
       ·exact rz _ h
       ·rw[h]
      ·have:=oc t (by omega);unfold h8 at this ⊢;rw[aqD,aqG (by omega),<-aqD];exact this
    ·have sY:¬ (cU:Int)<((xs.length - m:Nat) :Int) :=by omega
     obtain⟨v3,dQ,r,l8,hQ,z3,z4,z5,ajN,MO⟩:=afF (z:=1) (zr:=[.str []]) rfl bm (k:=q) (by omega);simp[fC,sY,l8,hQ,z3];obtain⟨aF,aQ,aW,bd⟩:=lT;have BM:c1.length<=j:=aW.resolve_left (fun h=>by rw[h] at ao; cases ao);have BE:m+i+1=xs.length:=by omega
     rw[BE] at h7;refine aS _ _ ⟨j,by unfold uu; rw[<-h7]; exact z4,by omega,fun b af=>?_,.inr BM,by rw[z5,<-bd,ao]⟩;rw[MO b (by omega),g5 b (by omega)];exact aQ b af
   ·have p9:decide (X=Y)=false:=decide_eq_false ap;simp[bc,iD,aR,a7,bl,a4,dU,dw,kA,ap,bI];refine⟨by omega,by simp,by simp[hm],rfl,fun t h1 ad=>?_⟩;by_cases aP:t=m
    ·rw[aP,<-dy,show m - 1=k by omega,<-gQ]; exact ap
    ·exact al t h1 (by omega)
  ·have iD:¬ (m:Int)<(xs.length:Int) :=by omega
   have rl:uu xs=xs:=by
    unfold uu;rw[D4 (aqv _) (fun k h1 aj=>al k h1 (by omega)),aq0]
   simp[bc,iD];exact aS _ _ (by rw[rl]; exact h)
theorem Gr {l:am} {a b eD bf:U} (h1:Rd l a eD) (ad:Rd l b bf) :Rd l (.bu [a,b]) (.bu [eD,bf]) :=by
 refine .bu _ _ rfl fun j x MJ ag ta=>?_
 rcases j with _ | _ | j
 ·simp at ag ta; subst ag ta; exact h1
 ·simp at ag ta; subst ag ta; exact ad
 ·simp at ag
theorem Uy {l:am} {a eD:U} (h1:Rd l a eD) :Rd l (.aI [a]) (.aI [eD]) :=by
 refine .aI _ _ rfl fun j x MJ ag ta=>?_
 rcases j with _ | j
 ·simp at ag ta; subst ag ta; exact h1
 ·simp at ag
theorem af3 {l l1:am} {v:U} {a:List (List UInt8)} {fo:Bool} (h:b7 1 jz l l1 v a fo) (x:List UInt8) (du:a.length<=1000000000) :
  ∃ a8 l',iR (l1++[.cells 1 [.str x]]) 1 16 v (.ar 1 l1.length 0 1 1 1)=some (a8,l')/\b7 1 jz l l' a8 (a++[x]) false:=by
 have ay:cx=140737488355328:=rfl;obtain⟨a8,l',aF,aQ,_⟩:=(h.more [.cells 1 [.str x]]).app (by_:=16) (x:=.ar 1 l1.length 0 1 1 1) (xs:=[x]) (by simp[c8,jz]) (by simp[jz]) (by omega) (by omega) (by rw[ay]; simp; omega);exact⟨a8,l',aF,by simpa using aQ⟩
def Dl (l:List bQ) :ye:=if l=[] then none else some (uu (l.map bQ.key))
theorem ad9 (l:List bQ) (k:Nat) :((l.map bQ.key).take k).length<=l.length:=by simp; omega
structure Wl (s:kz) (k:Nat) (ae:a2) (l:am) :Prop where
 Iv:ae 14=ha s
 pX:ae 15=.int .i64 s.l.length
 na:ae 16=.int .i64 k
 nv:∃ v,ae 5=v/\b7 1 jz [.cells 1 [ha s]] l v ((s.l.map bQ.key).take k) (decide (k=0))
def xk (l:List bQ) :ye:=if py l=0 then Dl l else none
theorem ajp (s:kz) (aq:rL s.l) (ak:s.l.length<=1000000) :bi Tryz.prog GS 134 [.aI [ha s]] (.bu [wo (xk s.l),.int .i64 (py s.l)]) :=by
 refine bt Tryz.checked.mixed bp ?_;apply bb Tryz.func134 [];unfold xk;have bc:cL (.ar 33) (ha s)=some (.int .i64 s.l.length) :=by simp[ha]
 have di:=yw s;have cz:=VT s aq ak;simp;refine aU cz (by simp[aV,U.closed,di]) ?_;by_cases aE:py s.l=0
 ·simp[aE,bc];refine cE s.l.length (Wl s) ?_ ⟨by simp,by simp,by simp,.aX,by simp,by simpa using b7.nil⟩;rintro k ae l hk ⟨Iv,pX,na,v,bh,ed⟩;obtain⟨ae,rfl⟩:=iq bh Iv pX na;clear bh Iv pX na;simp;refine lY (fun h=>?_) (fun h=>?_)
  ·simp only[decide_eq_true_eq] at h;obtain⟨y,aG,dg⟩:=bW (l:=s.l) (k:=k) (by omega);have df:=yF (aq y dg);have aR:IntKind.i64.wrap ((k:Int)+1)=((k+1:Nat) :Int) :=by rw[IntKind.wrap_i64]; omega
   have ig:=L4 df;obtain⟨E,dV⟩:∃ E,E=aY y.id:=⟨_,rfl⟩
   have yR:eF y=.str y.key::E:=by rw[dV]; rfl
   have sP:E.length=32:=by rw[dV]; exact dk (aq y dg)
   rw[yR] at df ig;have cI:=ad9 s.l k;obtain⟨a8,l',a7,bl⟩:=af3 (ed.more [.cells 33 (.str y.key::E)]) y.key (by omega);have mM:(s.l.map bQ.key).take (k+1)=(s.l.map bQ.key).take k++[y.key] :=by rw[aqN,aqx,aG]; rfl
   simp at a7;simp[ha,aG,yR,sP,ig,a7,aqs];refine dq.cr ?_;simp[aR];refine⟨by omega,by simp[ha],by simp,by simp,a8,by simp,by rw[mM]; simpa using bl⟩
  ·simp[h];have lP:k=s.l.length:=by simp at h; omega
   have aP:(s.l.map bQ.key).take k=s.l.map bQ.key:=aqs (by simp[lP]);rw[aP] at ed;refine Yk ed (fun _ _=>rfl) (by simp; omega) fun r bZ ad=>?_
   simp;rw[if_pos aE,aE];refine Gr (ad.rd (fun _=>rfl) (Dl s.l) ?_ ?_) (.same _ rfl)
   ·rw[lP]; unfold Dl;cases eV:s.l with
    | nil=>rfl
    | cons a r=>simp
   ·unfold Dl;split
    ·rename_i ap; rw[ap]; rfl
    ·rfl
 ·simp[aE];exact aH (by simp[wo,cy]) rfl
def Jd (l:List bQ) (k:List UInt8) :Bool:=decide (k∈(xk l).l)
theorem Yv (l:List (List UInt8)) :(uu l).length<=l.length:=Pm l _
theorem ad8 (l:List bQ) :(xk l).l.length<=l.length:=by
 have:=Yv (l.map bQ.key);unfold xk Dl;split
 ·split
  ·simp
  ·simpa using this
 ·simp
theorem ajj (s:kz) (aq:rL s.l) (ak:s.l.length<=1000000) (x:List UInt8) :bi Tryz.prog GS 87 [.aI [ha s],.str x] (.bu [.bool (Jd s.l x),.int .i64 (py s.l)]) :=by
 refine bt Tryz.checked.mixed bp ?_;apply bb Tryz.func87 [];unfold Jd;have di:=yw s;have RH:=O0 (xk s.l);have cI:=ad8 s.l;simp;refine aU (ajp s aq ak) (by simp[aV,U.closed,di]) ?_;simp;refine aU (ajn (xk s.l) (by omega) x) (by simp[aV,U.closed,RH]) ?_;simp;exact aH rfl rfl
def agr (l:List bQ) (m:Nat) :List (List UInt8) :=(List.range m).flatMap fun k=>if aaM (l.take k) (tH l k).key then [] else [(tH l k).key]
structure aj3 (s:kz) (k:Nat) (ae:a2) (l:am) :Prop where
 aF:ae 1=.ptr 0 0 1
 bh:ae 5=.int .i64 k
 nv:∃ v,ae 4=v/\b7 1 jz [.cells 1 [ha s]] l v (agr s.l k) (decide (k=0))
def FH:List lH:=.s::List.replicate 32 (.i .u8)
theorem aed:qw Tryz.prog 20 152=some FH:=by kernel_rfl
theorem TD {t:bQ} (h:t.id.length=32) :hi FH (eF t)=true:=by
 unfold FH eF;have:=zQ t.id;rw[h] at this;simp only[hi,De,art];exact this
theorem Xb {a b:bQ} (az:a.id.length=32) (af:b.id.length=32) :eo (eF a) (eF b)=decide (a=b) :=by
 unfold eF aY;simp only[eo,U.beq];rw[DI a.id b.id (by omega)];cases a; cases b;simp only[bQ.mk.injEq];rename_i bL cU bz eA;by_cases h1:bL=bz<;>by_cases ad:cU=eA<;>simp[h1,ad]
end Op

end Go.bJ

namespace Go.bJ
open Go Go.Proofs Go.Shelf Go.RowKit Go.Lib
set_option maxRecDepth 100000
set_option maxHeartbeats 4000000
theorem adG (base:Option Addr) (n c e1 gc jv:Nat) (r:Value) (w w' : World) (aD:n<=c) (rc:n<=4611686018427387904) (hd:base=none->n=0/\c=0)
  (hB:(Builtin.append_ #[40,40] 40 #[.slice base n c,.slice (some ⟨gc,jv,none⟩) 1 e1]).run Tryz.prog w=.ok r w') :
  Calls Tryz.prog 187 #[.slice base n c,.int .i64 n,.slice (some ⟨gc,jv,none⟩) 1 e1] w fun e w2=>e=.returned r/\w2=w':=by
 have qM:=Tryz.underlying40;have mixed:=Tryz.checked.mixed
 go_enter Tryz.func187,Tryz.ntmps187
 cases base with
 | none=>
  obtain⟨aE,h1⟩:=hd rfl;subst aE h1
  go_wp2_with (at_builtin; refine Lib.wpList_append_run _ rfl _ _ _ _ rfl _ _ rfl rfl _ _ hB ?_)
  go_ret
  exact⟨rfl,rfl⟩
 | some a=>
  obtain⟨ab,aki,akk⟩:=a
  go_wp2_with (at_builtin; refine Lib.wpList_append_run _ rfl _ _ _ _ rfl _ _ rfl rfl _ _ hB ?_)
  all_goals (go_ret; exact⟨rfl,rfl⟩)
theorem adJ (b off n c i gc jv e1:Nat) (bL bz:Value) (w kU iv:World) (GL e7:TypeId) (vc zA:Nat) (ax:i<n) (du:n+1<=c) (rc:n<=4611686018427387904) (mN:gc≠b)
  (acU:w.shape? gc=some (GL,vc)) (w9:w.shape? b=some (e7,zA)) (abV:zA≠0) (wO:w.frozen? ⟨gc,jv,none⟩=false) (BF:w.frozen? ⟨gc,vc,none⟩=false)
  (uJ:(Builtin.copy_ #[40,40] 3 #[.slice (some ⟨b,off+(i+1)*38,none⟩) (n - i) (c - (i+1)),.slice (some ⟨b,off+i*38,none⟩) (n+1 - i) (c - i)]).run Tryz.prog w.drew=.ok bL kU)
  (uK:(Builtin.copy_ #[40,40] 3 #[.slice (some ⟨b,off+i*38,none⟩) (n+1 - i) (c - i),.slice (some ⟨gc,jv,none⟩) 1 e1]).run Tryz.prog kU=.ok bz iv) :
  Calls Tryz.prog 187 #[.slice (some ⟨b,off,none⟩) n c,.int .i64 i,.slice (some ⟨gc,jv,none⟩) 1 e1] w fun e w2=>e=.returned (.slice (some ⟨b,off,none⟩) (n+1) c)/\w2=iv:=by
 have qM:=Tryz.underlying40;have z0:∀ w,(Go.sizeOf 154).run Tryz.prog w=.ok 38 w:=fun w=>fp (by kernel_rfl)
 have mixed:=Tryz.checked.mixed;have JK:∀ KK iU,(callFunc 244 #[.slice (some ⟨gc,jv,none⟩) 1 e1,.slice (some ⟨b,off+(i+1)*38,none⟩) KK iU]).run Tryz.prog w=.ok (.value (.bool false)) w:=fun KK iU=>by
  rw[run_callFunc_extern Tryz.func244 (by kernel_rfl) (by kernel_rfl) (by kernel_rfl) (e:=Extern.SlicesOverlaps.overlaps #[40,40] #[4]) (by kernel_rfl),
   Lib.run_overlaps_apart w 40 4 154 qM 38 z0 ⟨gc,jv,none⟩ ⟨b,off+(i+1)*38,none⟩ 1 e1 KK iU mN GL e7 vc zA acU w9 abV wO BF]
  rfl
 have jq:¬ ((i:Int)=(n:Int)) :=by omega
 have jH:IntKind.i64.wrap ((i:Int)+1)=(i:Int)+1:=by rw[IntKind.wrap_i64]; omega
 have mP:IntKind.i64.wrap ((n:Int)+1)=(n:Int)+1:=by rw[IntKind.wrap_i64]; omega
 have gE:(0:Int)<=(i:Int)+1:=by omega
 have fl:i<=n:=by omega
 have Sp:((i:Int)+1).toNat=i+1:=by omega
 have fI:¬ (c=i+1) :=by omega
 have sR:(i:Int)<=(n:Int)+1:=by omega
 have amg:¬ (c=i) :=by omega
 have ami:¬ ((c:Int)<(n:Int)+1) :=by omega
 go_enter Tryz.func187,Tryz.ntmps187
 go_wp2_with (simp only[JK])
 go_region_law_o (refine step_copy_runI rfl _ _ 40 40 rfl _ _ (by simp[Act.eval,Act.put]) (by simp[Act.eval,Act.put]) uJ ?_)
 go_wp2_with (at_builtin; refine wpList_copy_runI _ rfl _ _ 40 40 rfl _ _ rfl rfl uK ?_)
 go_ret
 exact⟨rfl,rfl⟩
theorem adH (b off n c i gc jv e1 N G:Nat) (bL bz:Value) (w Au kU iv:World) (ax:i<n) (w1:n<=c) (du:c<n+1) (k4:n+1<=G) (rc:n<=4611686018427387904)
  (uI:(Builtin.append_ #[40,3] 40 #[.slice (some ⟨b,off,none⟩) i c,.int .i64 ((n:Int)+1 - (i:Int))]).run Tryz.prog w=.ok (.slice (some ⟨N,0,none⟩) (n+1) G) Au)
  (uJ:(Builtin.copy_ #[40,40] 3 #[.slice (some ⟨N,i*38,none⟩) (n+1 - i) (G - i),.slice (some ⟨gc,jv,none⟩) 1 e1]).run Tryz.prog Au=.ok bL kU)
  (uK:(Builtin.copy_ #[40,40] 3 #[.slice (some ⟨N,(i+1)*38,none⟩) (n - i) (G - (i+1)),.slice (some ⟨b,off+i*38,none⟩) (n - i) (c - i)]).run Tryz.prog kU.drew=.ok bz iv) :
  Calls Tryz.prog 187 #[.slice (some ⟨b,off,none⟩) n c,.int .i64 i,.slice (some ⟨gc,jv,none⟩) 1 e1] w fun e w2=>e=.returned (.slice (some ⟨N,0,none⟩) (n+1) G)/\w2=iv:=by
 have qM:=Tryz.underlying40;have z0:∀ w,(Go.sizeOf 154).run Tryz.prog w=.ok 38 w:=fun w=>fp (by kernel_rfl)
 have mixed:=Tryz.checked.mixed;have jq:¬ ((i:Int)=(n:Int)) :=by omega
 have jH:IntKind.i64.wrap ((i:Int)+1)=(i:Int)+1:=by rw[IntKind.wrap_i64]; omega
 have mP:IntKind.i64.wrap ((n:Int)+1)=(n:Int)+1:=by rw[IntKind.wrap_i64]; omega
 have amR:IntKind.i64.wrap ((n:Int)+1 - (i:Int))=(n:Int)+1 - (i:Int) :=by rw[IntKind.wrap_i64]; omega
 have gE:(0:Int)<=(i:Int)+1:=by omega
 have fl:i<=n:=by omega
 have Sp:((i:Int)+1).toNat=i+1:=by omega
 have al5:¬ (G=i) :=by omega
 have al6:¬ (G=i+1) :=by omega
 have er:¬ (c=i) :=by omega
 have SB:(c:Int)<(n:Int)+1:=by omega
 have sR:(i:Int)<=(n:Int) :=by omega
 have amj:(i:Int)<=(c:Int) :=by omega
 go_enter Tryz.func187,Tryz.ntmps187
 go_wp2_with (first
  | (at_builtin; refine Lib.wpList_append_run _ rfl _ _ _ _ rfl _ _ rfl rfl _ _ uI ?_)
  | (at_builtin; refine wpList_copy_runI _ rfl _ _ 40 40 rfl _ _ rfl rfl uJ ?_))
 go_region_law_o (refine step_copy_runI rfl _ _ 40 40 rfl _ _ (by simp[Act.eval,Act.put]) (by simp[Act.eval,Act.put]) uK ?_)
 go_wp2
 go_ret
 exact⟨rfl,rfl⟩
theorem Ks:Ds Tryz.prog 187 40 3 154 38:=
 ⟨Tryz.underlying40,Tryz.underlying3,adG,adJ,adH⟩
theorem adz {G:Nat->U} (args:List U) (h:aN) (r:U) (h' : aN) (ag:te 38 96 args h=some (r,h')) :r8 Tryz.prog G 187 args h r h':=
 adA Ks (by kernel_rfl) (by kernel_rfl) (by kernel_rfl) (by omega) (by omega) (by kernel_rfl) args h r h' ag
def Kr (f:FuncId) :Option (Nat × Nat) :=match Nat.beq f 187 with | true=>some (38,96) | false=>none
theorem ady (f:FuncId) (z by_:Nat) (h:Kr f=some (z,by_)) (args:List U) (aB:aN) (r:U) (gR:aN) (ag:te z by_ args aB=some (r,gR)) :r8 Tryz.prog GS f args aB r gR:=by
 unfold Kr at h;split at h
 ·rename_i af;have aA:=arl af;subst aA;cases h;exact adz args aB r gR ag
 cases h
instance amY:sd Tryz.prog GS:=⟨Kr,ady⟩
end Go.bJ

namespace Go.bJ
open Go Go.Proofs
set_option maxRecDepth 100000
namespace Op
open eX
theorem Yh (a b:List UInt8) :oW a b=0<->a=b:=by
 unfold oW;cases h:eW a b with
 | true=>
  have h1:=(rY _ _).1 h;simp;rintro rfl;exact absurd h1 (atB _)
 | false=>
  by_cases ad:a=b<;>simp[ad]
theorem ahE (n:Nat) (h:n<9223372036854775808) :b8 .shr .u64 (n:Int) .u64 1=some (.int .u64 ((n / 2:Nat) :Int)) :=by
 have:=sq (BitVec.ofNat 64 n) .u64 1;have aK:(u (BitVec.ofNat 64 n) :Int)=n:=by unfold u; rw[aqK,aqC (by omega)]
 have ao:(u (BitVec.ofNat 64 n >>> 1) :Int)=((n / 2:Nat) :Int) :=by
  unfold u; rw[arc,aqK,aqC (by omega),aqO]
 rw[aK,ao] at this;exact this
structure ajV (s:kz) (X:List U) (x:bQ) (m:Nat) (ae:a2) (l:am) :Prop where
 fB:∃ (i j:Nat),j - i=m/\i<=j/\j<=s.l.length/\l=[.cells 33 X]/\ae 0=ha s/\ae 2=.fn 129 [] []/\ae 4=.ptr 0 0 33/\ae 8=.int .i64 s.l.length/\ae 9=.int .i64 i/\ae 10=.int .i64 j ∧
  (∀ (t:Nat) (y:bQ),t<i->s.l[t]? = some y->gx y x=true)/\(∀ (t:Nat) (y:bQ),j<=t->s.l[t]? = some y->gx y x=false)
def adx (l:List bQ) (i:Nat) (x:bQ) :List bQ:=l.take i++x::l.drop i
structure vY (j:Nat) (l l' : am) :Prop where
 le:l.length<=l'.length
 same:∀ b,b<l.length->b≠j->l'[b]? = l[b]?
theorem vY.refl (j:Nat) (l:am) :vY j l l:=⟨aqv _,fun _ _ _=>rfl⟩
theorem vY.trans {j:Nat} {a b c:am} (h1:vY j a b) (ad:vY j b c) :vY j a c:=⟨by have:=h1.le; have:=ad.le; omega,fun x ag ai=>by rw[ad.same x (by have:=h1.le; omega) ai]; exact h1.same x ag ai⟩
structure aj2 (c1:am) (v:U) (g:FuncId) (cap:List U) (xs:List bQ) (p:bQ->Bool) (k:Nat) (ae:a2) (l:am) :Prop where
 b9:ae 0=v
 aF:ae 1=.fn g [] cap
 eR:ae 7=.int .i64 xs.length
 eS:ae 8=.int .i64 k
 al:∀ (j:Nat) (z:bQ),j<k->xs[j]? = some z->p z=false
 le:c1.length<=l.length
 same:∀ b,b<c1.length->l[b]? = c1[b]?
structure ajW (c1:am) (v:U) (g:FuncId) (cap:List U) (j:Nat) (xs:List bQ) (p:bQ->Bool) (k:Nat) (ae:a2) (l:am) :Prop where
 b9:ae 0=v
 aF:ae 1=.fn g [] cap
 cc:ae 6=.int .i64 k
 alZ:vY j c1 l
 fB:∃ (q:Nat) (a1:List bQ),ae 5=.int .i64 (q:Int)/\bG 33 l v j (a1.map eF)/\a1.length=xs.length/\rL a1/\a1.take q=(xs.take k).filter (fun t=>!p t)/\q<k/\∀ t,k<=t->a1[t]? = xs[t]?
theorem C5 {a b c:List UInt8} (h1:eW a b=true) (ad:eW b c=true) :eW a c=true:=
 (rY _ _).2 (List.lt_trans ((rY _ _).1 h1) ((rY _ _).1 ad))
theorem Gz (a:List UInt8) :eW a a=false:=by
 cases h:eW a a with
 | false=>rfl
 | true=>exact absurd ((rY _ _).1 h) (atB _)
theorem xp {a b c:bQ} (h1:gx a b=true) (ad:gx b c=true) :gx a c=true:=by
 unfold gx at *
 by_cases aR:a.key=b.key
 ·rw[if_pos aR] at h1;by_cases bI:b.key=c.key
  ·rw[if_pos bI] at ad;rw[if_pos (aR.trans bI)];simp only[decide_eq_true_eq] at *
   exact AW _ _ _ h1 ad
  ·rw[if_neg bI] at ad;rw[if_neg (fun h=>bI (aR.symm.trans h)),aR]; exact ad
 ·rw[if_neg aR] at h1;by_cases bI:b.key=c.key
  ·rw[if_neg (fun h=>aR (h.trans bI.symm)),<-bI]; exact h1
  ·rw[if_neg bI] at ad;have:=C5 h1 ad;rw[if_neg (fun h=>by rw[h,Gz] at this; cases this)]; exact this
theorem FT (a:bQ) :gx a a=false:=by
 unfold gx;rw[if_pos rfl,sy]; rfl
theorem zG {a b:bQ} (h1:gx a b=false) (ad:a≠b) :gx b a=true:=by
 unfold gx at *
 by_cases aR:a.key=b.key
 ·rw[if_pos aR] at h1;rw[if_pos aR.symm];have aj:=D1 a.id b.id;have aC:=O4 a.id b.id;simp only[decide_eq_false_iff_not,decide_eq_true_eq] at *
  have aZ:cd a.id b.id≠0:=fun h=>ad (by
   have:=D0 h;cases a; cases b; simp_all)
  omega
 ·rw[if_neg aR] at h1;rw[if_neg (fun h=>aR h.symm)];rw[rY];have aj:¬ a.key<b.key:=fun h=>by rw[(rY _ _).2 h] at h1; cases h1
  by_cases h:b.key<a.key
  ·exact h
  ·exact absurd (atv (atA.1 h) (atA.1 aj)) aR
theorem Qm {l:List bQ} (h:wx l=true) {i:Nat} {a b:bQ} (az:l[i]? = some a) (af:l[i+1]? = some b) :gx a b=true:=by
 have h1:=(of_decide_eq_true h) (i+1) (aqr.1 af).1;unfold sK at h1;rw[aso,xY az,xY af,aqw] at h1;simpa using h1.2
theorem Ql {l:List bQ} (h:wx l=true) :∀ {d i:Nat} {a b:bQ},l[i]? = some a->l[i+d+1]? = some b->gx a b=true
 | 0,i,a,b,az,af=>Qm h az af
 | d+1,i,a,b,az,af=>by
  obtain⟨c,ah,_⟩:=bW (l:=l) (k:=i+d+1) (by have:=(aqr.1 af).1; omega);exact xp (Ql h az ah) (Qm h ah af)
def aid (o:bA) (b:eI) (t:bQ) :Bool:=decide (t.key=o.act.key)&&decide (t.id∈b.l)
theorem YO (o:bA) :((u o.act.kind:Int)=2)<->o.act.kind=2#8:=oD o.act.kind 2#8
theorem YP (o:bA) :((u o.act.kind:Int)=3)<->o.act.kind=3#8:=oD o.act.kind 3#8
def Lm (l:List bQ) (x:bQ) :Nat->Nat
 | 0=>0
 | i+1=>if gx x (tH l i) then Lm l x i else i+1
structure aj5 (l:am) (a:List bQ) (x:bQ) (m:Nat) (ae:a2) (l1:am) :Prop where
 fB:∃ (i:Nat) (v:U),i=m/\i<=a.length/\ae 5=v/\ae 6=.int .i64 (i:Int)/\b7 33 eF l l1 v (adx a i x) false/\Lm a x i=Lm a x a.length
def S0 (o:bA) (b:eI) (t:bQ) :Bool:=decide (¬ o.act.kind=3#8)||(decide (¬ t.key=o.act.key)||!decide (t.id∈b.l))
def GK (l:List bQ) :kz:=match l with | []=>none | a::r=>some (a::r)
theorem Mf (l:List bQ) :(GK l).l=l:=by cases l<;>rfl
theorem aij (l:List bQ) :(GK l).isNone=l.isEmpty:=by cases l<;>rfl
structure ajU (s:kz) (x:bQ) (L:am) (k:Nat) (ae:a2) (l:am) :Prop where
 ak:l=L
 aW:ae 3=.ptr 0 0 1
 cc:ae 6=.ptr 2 0 1
 eS:ae 8=.ptr 3 0 33
 hb:ae 9=.int .i64 k
 al:∀ (j:Nat) (t:bQ),j<k->s.l[j]? = some t->t≠x
structure WC (s:kz) (o:bA) (b:eI) (k:Nat) (l:am) :Prop where
 fB:∃ v j,l[3]? = some (.cells 1 [v])/\bG 33 l v j (((s.l.take k).filter (S0 o b)).map eF)/\(v=.aX\/4<=j)/\cq v=((s.l.take k).filter (S0 o b)).isEmpty
 len:4<=l.length
 gp:l[0]? = some (.cells 1 [ha s])
 ly:l[1]? = some (.cells 11 (bj o))
 qH:l[2]? = some (.cells 1 [.aX])
structure aj8 (s:kz) (o:bA) (b:eI) (k:Nat) (ae:a2) (l:am) :Prop where
 aQ:ae 2=aT b
 aW:ae 3=.ptr 0 0 1
 bd:ae 4=.ptr 1 0 11
 cc:ae 6=.ptr 2 0 1
 gP:ae 10=.ptr 3 0 1
 hu:ae 11=.int .i64 k
 h:WC s o b k l
end Op

end Go.bJ

namespace Go.bJ
open Go Go.Proofs Go.RowKit
set_option maxRecDepth 100000
namespace Op
open eX
theorem ZW (l:List bQ) :wx l=true<->(∀ t∈l,fE t.key=true)/\l.Pairwise fun a b=>gx a b=true:=by
 constructor
 ·intro h;refine⟨fun t aP=>?_,ars.2 fun i j ax ai hx=>?_⟩
  ·obtain⟨k,hk⟩:=aqU.1 aP;have h1:=(of_decide_eq_true h) k (aqr.1 hk).1;unfold sK at h1;rw[xY hk,aqw] at h1;exact h1.1
  ·exact Ql h (d:=j - i - 1) (aqu ax) (by rw[show i+(j - i - 1)+1=j by omega]; exact aqu ai)
 ·rintro⟨h1,ad⟩;refine Qn fun k hk=>?_
  unfold sK;have aG:=aqu hk;rw[xY aG,h1 _ (asy hk),art];by_cases wS:k=0
  ·simp[wS]
  ·have ag:=aqu (l:=l) (i:=k - 1) (by omega);rw[xY ag,(ars.1 ad) (k - 1) k (by omega) hk (by omega)]; simp
def ZT (o:bA) (b:eI) (t:bQ) :Bool:=decide (o.act.kind=3#8)&&aid o b t
structure ajZ (s:kz) (o:bA) (b:eI) (t:List bQ) :Prop where
 ok:py t=0
 mem:∀ x∈s.l,decide (x∈t)=!ZT o b x
 new:∀ x∈t,x∉s.l->o.act.kind=2#8/\x=⟨o.act.key,lm o⟩
 cnt:∃ p:Nat,(o.act.kind=2#8->p<t.length/\∀ (i:Nat) (y:bQ),t[i]? = some y->(y∉s.l<->i=p))/\(o.act.kind≠2#8->∀ x∈t,x∈s.l)
end Op

end Go.bJ

namespace Go.bJ
open Go Go.Proofs
set_option maxRecDepth 100000
namespace Op
open eX
structure ajT (g:bM) (i:Nat) (out:List (List B)) :Prop where
 mem:∀ (j:Nat) (p:List B),g.ids.l[j]? = some p->(p∈out<->kT g.ids.l g.ops.l (dX g.ops.l i) j)
 sub:∀ p∈out,p∈g.ids.l
 len:out.length<=g.ids.l.length
open Classical in
theorem XZ (s:kz) :(ha s).cells=some [ha s] :=by cases s<;>rfl
theorem WT (g:bM) (i:Nat) :(kV g i).length<=g.ids.l.length:=FZ _ _ _
theorem WU {g:bM} {i:Nat} {x:List B} (h:x∈kV g i) :x∈g.ids.l:=by
 unfold kV at h;obtain⟨j,ai,_,rfl⟩:=aeZ.1 h;obtain⟨y,aG,dg⟩:=bW ai;rw[gG aG]; exact dg
open Classical in
structure Hp (g:bM) :Prop where
 ids:g7 g.ids
 ops:∀ o∈g.ops.l,Hq o
theorem aiH {ts:List TypeId} {cs:List U} (h:lI Tryz.prog (95::ts) cs) :∃ (g:bM) (cs' : List U),cs=c3 g::cs'/\Hp g/\lI Tryz.prog ts cs':=by
 obtain⟨c,cs',rfl,h1,ad⟩:=Vy h;obtain⟨cs,rfl,aj⟩:=aiK (by kernel_rfl) h1;have aC:=tJ (fs:=[32,93]) (by kernel_rfl) aj;obtain⟨i,_,rfl,ax,aZ⟩:=Ms aC;obtain⟨s,_,rfl,_,aq,bx⟩:=Df (e:=78) (z:=11) (enc:=bj) (Q:=Hq) (by kernel_rfl) (by kernel_rfl) (fun r ay=>by
  obtain⟨x,_,rfl,ag,aj⟩:=aiP ay;rw[Ad aj,aqW];exact⟨x,rfl,ag⟩) aZ
 rw[Ad bx];exact⟨⟨i,s⟩,cs',rfl,⟨ax,aq⟩,ad⟩
theorem afz {g:bM} (h:Hp g) (au:uB g=false) :hS g:=by
 unfold uB at au;simp only[Bool.or_eq_false_iff,decide_eq_false_iff_not] at au;obtain⟨h1,ad,aj,aC⟩:=au;refine⟨h.ids,fun o aq=>?_,by omega,by omega⟩;have aZ:¬ sM o=true:=fun aM=>h1 ⟨o,by rw[aqs (by omega)]; exact aq,aM⟩
 unfold sM at aZ;simp only[asC,decide_eq_true_eq,not_or] at aZ;have aP:=h.ops o aq;exact⟨aP.ids,by omega,⟨aP.kq,aP.pn,by omega⟩,by omega⟩
end Op

end Go.bJ

namespace Go.bJ
open Go Go.Proofs Go.Sort Go.Shelf
set_option maxRecDepth 100000
open eX
abbrev Wk:={l:List B // l.length=32}
instance:Inhabited Wk:=⟨⟨List.replicate 32 0#8,by simp⟩⟩
end Go.bJ

namespace Go.bJ
open Go Go.Proofs
set_option maxRecDepth 100000
namespace Op
open eX
structure cm where
 key:List UInt8
 val:fA
 cX:Q
 id:List B
instance:DecidableEq fA:=fun a b=>decidable_of_iff (a.kind=b.kind/\a.num=b.num/\a.bits=b.bits/\a.text=b.text) (by cases a; cases b; simp)
instance:DecidableEq cm:=fun a b=>decidable_of_iff (a.key=b.key/\a.val=b.val/\a.cX=b.cX/\a.id=b.id) (by cases a; cases b; simp)
def cR (r:cm) :List U:=.str r.key::a6 r.val.kind::.int .i64 r.val.num::cD r.val.bits::.str r.val.text::cD r.cX::aY r.id
abbrev nJ:=ez cm
def gj (s:nJ) :U:=cy 38 cR s
structure Ap (r:cm) :Prop where
 id:r.id.length=32
 val:CG r.val
def l0 (l:List cm) :Prop:=∀ r∈l,Ap r
theorem m8 {r:cm} (h:r.id.length=32) :(cR r).length=38:=by simp[cR,dk h]
theorem yx (r:cm) :aV (cR r)=true:=by simp[cR,aV,U.closed,hX]
theorem DZ (s:nJ) :(gj s).closed=true:=uk yx s
def oy (l:List cm) (k:Nat) :cm:=l.getD k ⟨[],hR,0,[]⟩
theorem oz {l:List cm} {k:Nat} {x:cm} (h:l[k]? = some x) :oy l k=x:=by
 unfold oy; rw[aqD,h]; rfl
def Db (x:Q) :Bool:=decide (x.toNat<=1000000000000)
def nx (r:cm) :Bool:=fE r.key&&(i9 r.val&&Db r.cX)
def sL (l:List cm) (k:Nat) :Bool:=nx (oy l k)&&(decide (k=0)||eW (oy l (k - 1)).key (oy l k).key)
def nb (l:List cm) :Bool:=decide (∀ k,k<l.length->sL l k=true)
def ox (l:List cm) :Int:=if 60<l.length then 4 else if nb l then 0 else 8
theorem Qj {l:List cm} (h:∀ k,k<l.length->sL l k=true) :nb l=true:=decide_eq_true h
theorem Ev {l:List cm} {k:Nat} (hk:k<l.length) (h:sL l k=false) :nb l=false:=decide_eq_false fun aM=>by rw[aM k hk] at h; cases h
theorem U7 {E:List U} (h:E.length=38) :bn (U.str [] ::.int .u8 0::.int .i64 0::.int .u64 0::.str [] ::.int .u64 0::rep 32 (.int .u8 0)) 0 E=E:=eC (by rw[h]; rfl)
theorem YR (x:Q) :((1000000000000:Int)<u x)<->Db x=false:=by
 unfold Db u;rw[decide_eq_false_iff_not];omega
theorem LX (a b:List UInt8) :eW a b=false<->¬ a<b:=by
 rw[<-rY]; simp
set_option maxHeartbeats 4000000 in
theorem VR (s:nJ) (aq:l0 s.l) (ak:s.l.length<=1000000) :bi Tryz.prog GS 91 [.aI [gj s]] (.int .i64 (ox s.l)) :=by
 refine bt Tryz.checked.mixed bp ?_;apply bb Tryz.func91 [];unfold ox;have bc:cL (.ar 38) (gj s)=some (.int .i64 s.l.length) :=by simp[gj]
 by_cases h1:60<s.l.length
 ·have dK:(60:Int)<(s.l.length:Int) :=by omega
  simp[bc,dK];exact aH (by rw[if_pos h1]) rfl
 ·have dK:¬ (60:Int)<(s.l.length:Int) :=by omega
  simp[bc,dK];refine cE s.l.length (fun k ae l=>(∃ r,l=.cells 1 [gj s] ::r)/\ae 1=.ptr 0 0 1/\ae 10=gj s/\ae 11=.int .i64 s.l.length/\ae 12=.int .i64 k/\∀ j,j<k->sL s.l j=true) ?_ (by simp);rintro k ae l hk ⟨⟨r,rfl⟩,aF,gP,hu,hI,al⟩;obtain⟨ae,rfl⟩:=iq aF gP hu hI;clear aF gP hu hI;simp;refine lY (fun h=>?_) (fun h=>?_)
  ·simp only[decide_eq_true_eq] at h;obtain⟨y,aG,dg⟩:=bW (l:=s.l) (k:=k) (by omega);have df:=m8 (aq y dg).id;have aR:IntKind.i64.wrap ((k:Int)+1)=((k+1:Nat) :Int) :=by rw[IntKind.wrap_i64]; omega
   have Br:=AN ⟨2#8,y.key,hR⟩;rw[M8] at Br;have mO:=My y.val;have fX:sL s.l k=(nx y&&(decide (k=0)||eW (oy s.l (k - 1)).key y.key)) :=by unfold sL; rw[oz aG]
   have cg:cv (.ar 38) (gj s) (.int .i64 (k:Int))=some (.b5 (cR y) 0) :=by simp[gj,aG]
   have ig:=U7 df;have dt:(cR y).take 38=cR y:=aqs (by omega);have uG:∀ h,(cR y)[0]'h=.str y.key:=fun _=>rfl
   have EI:∀ h,(cR y)[5]'h=cD y.cX:=fun _=>rfl
   have I2:((cR y).tail).take 4=cn y.val:=rfl;have o9:=YR y.cX;have jk:aV (cn y.val)=true:=by simp[cn,aV,U.closed]
   obtain⟨R,hK⟩:∃ R,R=cR y:=⟨_,rfl⟩
   obtain⟨aka,aaC⟩:∃ V,V=cn y.val:=⟨_,rfl⟩
   rw[<-hK] at df cg ig dt uG EI I2;rw[<-aaC] at mO I2 jk;simp[cg,df,ig,dt,uG];refine aU Br rfl ?_;cases aZ:fE y.key with
   | false=>
    have:nx y=false:=by unfold nx; rw[aZ]; rfl
    rw[this,ar4] at fX;simp[eh];exact aH (by rw[if_neg h1,Ev h fX]; rfl) rfl
   | true=>
    simp[eh,df,I2];refine aU mO (by simp[aV,U.closed,jk]) ?_;cases bx:i9 y.val with
    | false=>
     have:nx y=false:=by unfold nx; rw[aZ,bx]; rfl
     rw[this,ar4] at fX;simp[eh];exact aH (by rw[if_neg h1,Ev h fX]; rfl) rfl
    | true=>
     cases de:Db y.cX with
     | false=>
      have:nx y=false:=by unfold nx; rw[aZ,bx,de]; rfl
      rw[this,ar4] at fX;have re:=o9.2 de;simp[eh,df,EI,re];exact aH (by rw[if_neg h1,Ev h fX]; rfl) rfl
     | true=>
      have re:¬ (1000000000000:Int)<u y.cX:=fun h=>by rw[o9.1 h] at de; cases de
      have:nx y=true:=by unfold nx; rw[aZ,bx,de]; rfl
      rw[this,art] at fX;rcases k with _ | k
      ·simp[eh,df,EI,re,aR];exact⟨by omega,by rw[IntKind.wrap_i64]; omega,by rw[fX]; rfl⟩
      ·obtain⟨x,ag,dm⟩:=bW (l:=s.l) (k:=k) (by omega);have fm:cv (.ar 38) (gj s) (.int .i64 (k:Int))=some (.b5 (cR x) 0) :=by simp[gj,ag]
       have QO:(cR x)[0]? = some (.str x.key) :=rfl;obtain⟨akg,aaF⟩:∃ X,X=cR x:=⟨_,rfl⟩
       rw[<-aaF] at fm QO;have dJ:IntKind.i64.wrap (k:Int)=(k:Int) :=by rw[IntKind.wrap_i64]; omega
       have ke:(0:Int)<(k:Int)+1:=by omega
       simp only[aso,oz ag,Nat.add_eq_zero_iff,Nat.one_ne_zero,and_false,decide_false,atf] at fX;simp[eh,df,EI,re,ke,dJ,fm,QO,uG];have aaU:oR .geq x.key y.key=some (.bool (!eW x.key y.key)) :=rfl;rw[aaU];cases eb:eW x.key y.key with
       | true=>
        rw[eb] at fX;simp[aR];refine⟨by omega,by rw[IntKind.wrap_i64]; omega,fun j ai=>?_⟩;by_cases h5:j=k+1
        ·rw[h5,fX]
        ·exact al j (by omega)
       | false=>
        rw[eb] at fX;simp;exact aH (by rw[if_neg h1,Ev h fX]; rfl) rfl
  ·simp[h];have lP:k=s.l.length:=by simp at h; omega
   exact aH (by rw[if_neg h1,if_pos (Qj fun j ai=>al j (by omega))]) rfl
def AY (a b:Q) :Int:=if a.toNat<b.toNat then -1 else if b.toNat<a.toNat then 1 else 0
theorem Tx (a:Q) :bi Tryz.prog GS 268 [cD a] (.bool false) :=by
 refine bt Tryz.checked.mixed bp ?_;apply bb Tryz.func268 [];simp;exact aH rfl rfl
theorem Yi (a b:Q) :bi Tryz.prog GS 246 [cD a,cD b] (.int .i64 (AY a b)) :=by
 refine bt Tryz.checked.mixed bp ?_;apply bb Tryz.func246 [];unfold AY;simp;refine aU (Tx a) rfl ?_;simp;refine aU (Tx b) rfl ?_;by_cases h1:a.toNat<b.toNat
 ·simp[h1,cD,u];exact aH rfl rfl
 ·by_cases ad:b.toNat<a.toNat
  ·simp[h1,ad,cD,u];exact aH rfl rfl
  ·simp[h1,ad,cD,u];exact aH rfl rfl
def ve (s:Q) (x:List B) (t:Q) (y:List B) :Bool:=decide (t.toNat<s.toNat)||(decide (s=t)&&decide (0<cd x y))
theorem aen (s:Q) (x:List B) (t:Q) (y:List B) :(0<zS (AY s t) (cd x y))<->ve s x t y=true:=by
 unfold zS AY ve;by_cases h1:s.toNat<t.toNat
 ·have ad:s≠t:=fun h=>by rw[h] at h1; omega
  simp[h1,ad]; omega
 ·by_cases ad:t.toNat<s.toNat
  ·simp[h1,ad]
  ·have aj:s=t:=aqE (by omega);simp[aj]
theorem TQ {l:am} {j:Nat} {r:cm} (az:r.id.length=32) (ai:l[j]? = some (.cells 38 (cR r))) :eJ 1 l (.ar 1 j 6 32 32 38) j (r.id.map bN) :=by
 refine .ar j 6 32 32 38 (cR r) _ ai (m8 az) (by simp[az]) (fun e ap=>?_) (aqv _) (by omega) ?_
 ·obtain⟨x,_,rfl⟩:=aqR.1 ap; rfl
 ·simp only[cR,asA,ary];rw[aqs (by simp[aY,az]),wn]; rfl
theorem ajq (a b:cm) (az:a.id.length=32) (af:b.id.length=32) :bi Tryz.prog GS 188 [.aI (cR a),.aI (cR b)] (.bool (ve a.cX a.id b.cX b.id)) :=by
 refine bt Tryz.checked.mixed bp ?_;apply bb Tryz.func188 [[[0],[1],[2],[3],[5],[6],[7],[8],[4]]];have h1:=m8 az;have ad:=m8 af;have aj:=dk az;have aC:=dk af;have Z8:∀ h,(cR a)[5]'h=cD a.cX:=fun _=>rfl
 have aag:∀ h,(cR b)[5]'h=cD b.cX:=fun _=>rfl
 simp[h1,ad,Z8,aag];refine aU (Yi _ _) rfl ?_;have ah:=DG (some a.id) (some b.id) (by simp[az,af]);simp;refine il ah ?_ rfl ?_
 ·exact .cons ((TQ (j:=0) (r:=a) az rfl).mT (fun _=>rfl) (some a.id) rfl rfl) (.cons ((TQ (j:=1) (r:=b) af rfl).mT (fun _=>rfl) (some b.id) rfl rfl) .nil)
 ·simp;refine il (TK (AY a.cX b.cX) (cd a.id b.id)) (.cons (Uv (by simp)) .nil) rfl ?_;have ak:=aen a.cX a.id b.cX b.id;simp;refine aH (congrArg U.bool ?_) rfl;rw[Bool.eq_iff_iff,decide_eq_true_eq]; exact ak
theorem ad6 (r:cm) (h:r.id.length=32) :bi Tryz.prog GS 137 [.aI (cR r)] (.str r.key) :=by
 refine bt Tryz.checked.mixed bp ?_;apply bb Tryz.func137 [];have h1:=m8 h;have uG:∀ h,(cR r)[0]'h=.str r.key:=fun _=>rfl
 obtain⟨R,hK⟩:∃ R,R=cR r:=⟨_,rfl⟩
 rw[<-hK] at h1 uG ⊢;simp[h1,uG];exact aH rfl rfl
theorem Zw:ht Tryz.prog 137=true:=by kernel_rfl
theorem PT:ht Tryz.prog 192=true:=by kernel_rfl
theorem PH (r:cm) (h:r.id.length=32) (k:List UInt8) {b:Nat} {l:am} (af:l[b]? = some (.cells 1 [.fn 137 [] []])) {K:U->am->Prop} (aS:K (.int .i64 (oW r.key k)) (l++[.cells 38 (cR r)])) :
  c2 Tryz.prog GS 192 [.aI (cR r),.str k,.ptr b 0 1] l (c:=⟨K⟩) :=by
 apply bb Tryz.func192 [];have h1:=m8 h;have RI:=ad6 r h;have o5:=yx r;obtain⟨R,hK⟩:∃ R,R=cR r:=⟨_,rfl⟩
 rw[<-hK] at h1 RI o5 aS ⊢;have fV:b<l.length:=(aqr.1 af).1;have fI:(l++[bg.cells 38 R])[b]? = some (.cells 1 [.fn 137 [] []]) :=by rw[aqt fV]; exact af
 simp[h1,fI,aqs];refine⟨Zw,aU RI (by simp[aV,U.closed,o5]) ?_⟩;simp;refine aU (O8 _ _) rfl ?_;simpa using aS
def fw (l:List cm) (x:List UInt8) :Nat:=(l.takeWhile fun t=>eW t.key x).length
theorem Pe (x:List UInt8) :∀ {l:List cm} {p:Nat},p<=l.length->(∀ (t:Nat) (y:cm),t<p->l[t]? = some y->eW y.key x=true)->(∀ y,l[p]? = some y->eW y.key x=false)->fw l x=p
 | [],p,aB,_,_=>by simp at aB; subst aB; rfl
 | y::l,0,_,_,ad=>by
  have:=ad y rfl;unfold fw;rw[asg,this]; rfl
 | y::l,p+1,aB,h1,ad=>by
  have:=h1 0 y (by omega) rfl;have aJ:=Pe x (l:=l) (p:=p) (by simpa using aB) (fun t z aP av=>h1 (t+1) z (by omega) (by simpa using av)) (fun z av=>ad z (by simpa using av));unfold fw at *
  rw[asg,this];simp[aJ]
def iX (l:List cm) (x:List UInt8) :Bool:=decide (fw l x<l.length)&&decide ((oy l (fw l x)).key=x)
def F1 (l:List cm) (x:List UInt8) :Prop:=∀ (i j:Nat) (a b:cm),i<=j->l[i]? = some a->l[j]? = some b->eW b.key x=true->eW a.key x=true
theorem Yg (a b:List UInt8) :(oW a b<0)<->eW a b=true:=by
 unfold oW;by_cases h:eW a b=true
 ·simp[h]
 ·rw[if_neg h];simp[h];split<;>omega
structure Wa (s:nJ) (x:List UInt8) (m:Nat) (ae:a2) (l:am) :Prop where
 fB:∃ (i j:Nat) (r:am),j - i=m/\i<=j/\j<=s.l.length/\l=.cells 1 [.fn 137 [] []] ::r/\ae 0=gj s/\ae 1=.str x/\ae 2=.fn 192 [] [.ptr 0 0 1]/\ae 8=.int .i64 s.l.length/\ae 9=.int .i64 i/\ae 10=.int .i64 j ∧
  (∀ (t:Nat) (y:cm),t<i->s.l[t]? = some y->eW y.key x=true)/\(∀ (t:Nat) (y:cm),j<=t->s.l[t]? = some y->eW y.key x=false)
theorem ahv (s:nJ) (aq:l0 s.l) (ak:s.l.length<=1000000) (x:List UInt8) (hm:F1 s.l x) {K:U->am->Prop} (aS:∀ l',K (.bu [.int .i64 (fw s.l x),.bool (iX s.l x)]) l') :
  c2 Tryz.prog GS 191 [gj s,.str x,.fn 192 [] [.ptr 0 0 1]] [.cells 1 [.fn 137 [] []]] (c:=⟨K⟩) :=by
 apply bb Tryz.func191 [];have bc:cL (.ar 38) (gj s)=some (.int .i64 s.l.length) :=by simp[gj]
 simp[bc];refine zF (Wa s x) ?_ s.l.length _ _ ⟨0,s.l.length,[],by omega,by omega,by omega,rfl,by simp,by simp,by simp,by simp,by simp,by simp,fun t y h=>by omega,fun t y h ad=>by rw[aqJ h] at ad; cases ad⟩;rintro m ae l ⟨i,j,r,fQ,hx,eN,rfl,b9,aF,aQ,eS,hb,gP,h1,ad⟩;obtain⟨ae,rfl⟩:=Af b9 aF aQ eS hb gP;clear b9 aF aQ eS hb gP;by_cases aL:i<j
 ·obtain⟨h,aM⟩:∃ h,h=(i+j) / 2:=⟨_,rfl⟩
  have bS:IntKind.i64.wrap ((i:Int)+j)=((i+j:Nat) :Int) :=by rw[IntKind.wrap_i64]; omega
  have w2:IntKind.u64.wrap ((i+j:Nat) :Int)=((i+j:Nat) :Int) :=by rw[vU,arT]; unfold u; rw[aqK,aqC (by omega)]
  have dT:=ahE (i+j) (by omega);have pF:IntKind.i64.wrap (h:Int)=(h:Int) :=by rw[IntKind.wrap_i64]; omega
  have r6:IntKind.i64.wrap ((h:Int)+1)=((h+1:Nat) :Int) :=by rw[IntKind.wrap_i64]; omega
  rw[<-aM] at dT;obtain⟨y,aG,dg⟩:=bW (l:=s.l) (k:=h) (by omega);have df:=m8 (aq y dg).id;have cg:cv (.ar 38) (gj s) (.int .i64 (h:Int))=some (.b5 (cR y) 0) :=by simp[gj,aG]
  have mD:=Yg y.key x;have wN:=fun (K:U->am->Prop)=>PH y (aq y dg).id x (b:=0) (l:=.cells 1 [.fn 137 [] []] ::r) (K:=K) rfl
  obtain⟨Y,gQ⟩:∃ Y,Y=cR y:=⟨_,rfl⟩
  rw[<-gQ] at df cg wN;obtain⟨N,eP⟩:∃ N,N=i+j:=⟨_,rfl⟩
  rw[<-eP] at bS w2 dT;simp[aL,bS,w2,dT,pF,cg,df,aqs];refine⟨PT,wN _ ?_⟩;by_cases bx:oW y.key x<0
  ·simp[bx,r6];refine⟨j - (h+1),by omega,h+1,j,_,rfl,by omega,by omega,rfl,by simp,by simp,by simp,by simp,by simp,by simp,fun t z aP av=>?_,ad⟩;exact hm t h z y (by omega) av aG (mD.1 bx)
  ·simp[bx];refine⟨h - i,by omega,i,h,_,rfl,by omega,by omega,rfl,by simp,by simp,by simp,by simp,by simp,by simp,h1,fun t z aP av=>?_⟩;cases de:eW z.key x with
   | false=>rfl
   | true=>exact absurd (mD.2 (hm h t y z aP aG av de)) bx
 ·obtain rfl:i=j:=by omega
  have ah:=Pe x (l:=s.l) (p:=i) eN h1 (fun y aG=>ad i y (aqv _) aG);by_cases fk:i<s.l.length
  ·obtain⟨y,aG,dg⟩:=bW (l:=s.l) (k:=i) fk;have df:=m8 (aq y dg).id;have cg:cv (.ar 38) (gj s) (.int .i64 (i:Int))=some (.b5 (cR y) 0) :=by simp[gj,aG]
   have Jh:=Yh y.key x;have wN:=fun (K:U->am->Prop)=>PH y (aq y dg).id x (b:=0) (l:=.cells 1 [.fn 137 [] []] ::r) (K:=K) rfl
   obtain⟨Y,gQ⟩:∃ Y,Y=cR y:=⟨_,rfl⟩
   rw[<-gQ] at df cg wN;simp[fk,cg,df,aqs];refine⟨PT,wN _ ?_⟩;simp;have:iX s.l x=decide (oW y.key x=0) :=by
    unfold iX;rw[ah,oz aG,decide_eq_true fk,art,decide_eq_decide];exact Jh.symm
   rw[<-ah,<-this];exact aS _
  ·simp[fk];have:iX s.l x=false:=by
    unfold iX;rw[ah,decide_eq_false fk,ar4]
   rw[<-this,<-ah];exact aS _
theorem PL (s:nJ) (aq:l0 s.l) (ak:s.l.length<=1000000) (x:List UInt8) (hm:F1 s.l x) :
  bi Tryz.prog GS 136 [gj s,.fn 137 [] [],.str x] (.bu [.int .i64 (fw s.l x),.bool (iX s.l x)]) :=by
 refine bt Tryz.checked.mixed bp ?_;apply bb Tryz.func136 [];simp;refine ahv s aq ak x hm fun l'=>?_
 simp;exact aH rfl rfl
theorem Ej {l:List cm} (h:l0 l) :((l.map cR).flatten).length=l.length*38:=by
 rw[m9 (z:=38) (fun e ap=>by obtain⟨y,aG,rfl⟩:=aqR.1 ap; exact m8 (h y aG).id),aqS]
theorem afK {l:am} {b n:Nat} {a:List cm} (az:l0 a) (aD:a.length=n) (af:l[b]? = some (.cells (n*38) (a.map cR).flatten)) :bG 38 l (.ar 38 b 0 n n (n*38)) b (a.map cR) :=by
 have fj:=Ej az;refine .ar b n n (n*38) _ _ af (by rw[fj,aD]) (by simp[aD]) (fun e ap=>?_) (aqv _) (aqv _) ?_
 ·obtain⟨y,aG,rfl⟩:=aqR.1 ap; exact m8 (az y aG).id
 ·rw[aqs (by rw[fj,aD]; omega)]
structure jd (l:am) (v:U) (j:Nat) (xs:List cm) :Prop where
 o:bG 38 l v j (xs.map cR)
 v:v=.aX\/v=.ar 38 j 0 xs.length xs.length (xs.length*38)
theorem jd.nil (l:am) (j:Nat) :jd l .aX j [] :=⟨.nil j,.inl rfl⟩
theorem jd.frame {l l' : am} {v:U} {j:Nat} {xs:List cm} (h:jd l v j xs) (aA:v=.aX\/l'[j]? = l[j]?) :jd l' v j xs:=⟨h.o.wu aA,h.v⟩
theorem jd.full {l:am} {j:Nat} {xs:List cm} (aq:l0 xs) (af:l[j]? = some (.cells (xs.length*38) (xs.map cR).flatten)) :jd l (.ar 38 j 0 xs.length xs.length (xs.length*38)) j xs:=⟨afK aq rfl af,.inr rfl⟩
theorem jd.block {l:am} {v:U} {j:Nat} {xs:List cm} (h:jd l v j xs) (ao:v≠.aX) :v=.ar 38 j 0 xs.length xs.length (xs.length*38)/\l[j]? = some (.cells (xs.length*38) (xs.map cR).flatten) :=by
 have pk:=h.v.resolve_left ao;refine⟨pk,?_⟩;have aq:=h.o;rw[pk] at aq;generalize ap:U.ar 38 j 0 xs.length xs.length (xs.length*38)=w at aq;generalize iC:xs.map cR=es at aq;cases aq with
 | nil=>cases ap
 | ar adY n cap sz cs es af ak aD av ah cM cp=>
  injection ap with _ aR _ bI dJ kB
  rw[af,<-kB,<-cp,aqs (by rw[ak,<-kB,<-bI]; omega)]
def Mg (v:U) (xs:List cm) :nJ:=match cq v with | true=>none | false=>some xs
theorem jd.aik {l:am} {v:U} {j:Nat} {xs:List cm} (h:jd l v j xs) :(Mg v xs).l=xs:=by
 rcases h.v with ao | ao
 ·have:=h.o;rw[ao] at this;have ag:=this.q.vn;rw[arB] at ag;rw[ao,ag]; rfl
 ·rw[ao]; rfl
theorem jd.rd {l:am} {v:U} {j:Nat} {xs:List cm} (h:jd l v j xs) :ft (bK l) v (gj (Mg v xs)) :=by
 rcases h.v with ao | ao
 ·rw[ao]; exact .same _ rfl
 ·have:=h.o.mT (fun x=>yx x) (some xs) (by rw[ao]; rfl) rfl;rw[ao] at this ⊢;exact this
theorem adD {l:am} {b bv n i:Nat} {a:List cm} {x:cm} (az:l0 a) (ag:Ap x) (aD:a.length=n) (af:l[b]? = some (.cells (n*38) (a.map cR).flatten)) (iA:l[bv]? = some (.cells 38 (cR x))) (bY:bv≠b) (ax:i<=n) (qg:n<=1000000)
  {K:U->am->Prop} (aS:K (.ar 38 l.length 0 (n+1) (n+1) ((n+1)*38)) (l.set b .dead++[.cells ((n+1)*38) ((kh a i x).map cR).flatten])) :
  c2 Tryz.prog GS 187 [.ar 38 b 0 n n (n*38),.int .i64 i,.ar 38 bv 0 1 1 38] l (c:=⟨K⟩) :=by
 have fV:=fy af;have al:=SN (P:=Tryz.prog) (G:=GS) (h:=bK l) Ks (by kernel_rfl) (by kernel_rfl) (show iT Tryz.prog 154=some 96 by kernel_rfl) (by omega) (by omega) (by kernel_rfl) (b:=b) (bv:=bv) (len:=n) (cap:=n) (i:=i) (lE.2 af) (lE.2 iA) bY ax (aqv _) (by unfold cx; omega);rw[yc,nF _ fV,lF,asO (by omega)] at al;refine⟨_,_,.ext al,by simp,?_⟩;have fj:=Ej az;have bI:a.map cR=(a.take i).map cR++(a.drop i).map cR:=by rw[<-aqV,aq8]
 have J9:((a.take i).map cR).flatten.length=i*38:=by
  rw[Ej (fun t aP=>az t (ard aP)),aqM,arV (by omega)]
 have BC:((a.drop i).map cR).flatten.length=(n - i)*38:=by
  rw[Ej (fun t aP=>az t (asT aP)),arA,aD]
 have cj:lX 38 (a.map cR).flatten (cR x) i n=((kh a i x).map cR).flatten:=by
  unfold lX kh;have h1:((a.map cR).flatten).take (i*38)=((a.take i).map cR).flatten:=by
   rw[bI,arj,aqT (by omega),aqs (by omega)]
  have ad:((a.map cR).flatten).drop (i*38)=((a.drop i).map cR).flatten:=by
   rw[bI,arj,ark (by omega),arx (by omega),aru]
  have aj:(((a.drop i).map cR).flatten).take ((n - i)*38)=((a.drop i).map cR).flatten:=aqs (by omega);have aC:((a.map cR).flatten).drop ((n+1)*38)=[] :=arx (by rw[fj,aD]; omega);rw[h1,ad,aj,aC,aqW];simp
 rw[cj];exact aS
theorem adC {l:am} {bv:Nat} {x:cm} (iA:l[bv]? = some (.cells 38 (cR x))) {K:U->am->Prop} (aS:K (.ar 38 l.length 0 1 1 38) (l++[.cells 38 (cR x)])) :
  c2 Tryz.prog GS 187 [.aX,.int .i64 0,.ar 38 bv 0 1 1 38] l (c:=⟨K⟩) :=by
 have al:=SM (P:=Tryz.prog) (G:=GS) (h:=bK l) Ks (by kernel_rfl) (by kernel_rfl) (show iT Tryz.prog 154=some 96 by kernel_rfl) (by omega) (by omega) (by kernel_rfl) (bv:=bv) (lE.2 iA) (by unfold cx; omega);rw[yc,lF] at al;exact⟨_,_,.ext al,by simp,aS⟩
theorem Pd (l:List cm) (x:List UInt8) :fw l x<=l.length:=by unfold fw; exact (List.takeWhile_prefix _).length_le
def tD (l:List cm) (x:cm) :List cm:=if iX l x.key=true then (if ve x.cX x.id (oy l (fw l x.key)).cX (oy l (fw l x.key)).id=true then l.set (fw l x.key) x else l) else kh l (fw l x.key) x
def iP (o:bA) (x:List B) :cm:=⟨o.act.key,o.act.val,o.cX,x⟩
def kt (l:List cm) (o:bA) (x:List B) :List cm:=if o.act.kind=4#8 then tD l (iP o x) else l
theorem YQ (o:bA) :((u o.act.kind:Int)=4)<->o.act.kind=4#8:=oD o.act.kind 4#8
theorem SL {l:List cm} {i:Nat} {x:cm} (h:l0 l) (ag:Ap x) :l0 (kh l i x) :=fun t aP=>by
 rcases SK.1 aP with e | e
 ·rw[e]; exact ag
 ·exact h t e
theorem ahw {l:List cm} {x:cm} (h:l0 l) (ag:Ap x) :l0 (tD l x)/\(tD l x).length<=l.length+1:=by
 unfold tD;split
 ·split
  ·refine⟨fun t aP=>?_,by simp⟩;rcases arR aP with e | e
   ·exact h t e
   ·rw[e]; exact ag
  ·exact⟨h,by omega⟩
 ·exact⟨SL h ag,by rw[Kq]; omega⟩
set_option maxHeartbeats 8000000 in
theorem af6 (o:bA) (aq:CG o.act.val) (x:List B) (ag:x.length=32) {xs:List cm} (dN:l0 xs) (aD:xs.length<=1000000) (hm:F1 xs o.act.key) {l:am} {v:U} {j:Nat} (h:jd l v j xs) {K:U->am->Prop}
  (aS:∀ a8 l' cP,jd l' a8 cP (kt xs o x)->((v≠.aX/\cP=j)\/l.length<=cP\/a8=.aX)->l.length<=l'.length->(∀ b,b<l.length->(v=.aX\/b≠j)->l'[b]? = l[b]?)->(cq a8=true->cq v=true/\o.act.kind≠4#8)->(o.act.kind≠4#8->a8=v)->K a8 l') :
  c2 Tryz.prog GS 130 [v,.aI (bj o),.aI (aY x)] l (c:=⟨K⟩) :=by
 apply bb Tryz.func130 [];have bB:=dk ag;have ds:(bj o).length=11:=rfl;have nT:∀ h,(bj o)[3]'h=a6 o.act.kind:=fun _=>rfl
 have nU:∀ h,(bj o)[4]'h=.str o.act.key:=fun _=>rfl
 have EG:∀ h,(bj o)[2]'h=cD o.cX:=fun _=>rfl
 have QG:((bj o).drop 5).take 4=cn o.act.val:=rfl;have p1:(cn o.act.val).length=4:=rfl;have RD:=YQ o;obtain⟨O,fh⟩:∃ O,O=bj o:=⟨_,rfl⟩
 obtain⟨X,dy⟩:∃ X,X=aY x:=⟨_,rfl⟩
 rw[<-fh] at ds nT nU EG QG ⊢;rw[<-dy] at bB ⊢;obtain⟨L,ec⟩:∃ L,L=l++[bg.cells 11 O,bg.cells 32 X] :=⟨_,rfl⟩
 have mA:L.length=l.length+2:=by rw[ec]; simp
 have IX:∀ b,b<l.length->L[b]? = l[b]?:=fun b af=>by rw[ec,aqt af]
 have eO:L[l.length]? = some (.cells 11 O) :=by rw[ec,aqB (aqv _)]; simp
 have q1:L[l.length+1]? = some (.cells 32 X) :=by rw[ec,aqB (by omega)]; simp
 have ai:v=.aX\/j<l.length:=h.o.lt;by_cases dn:o.act.kind=4#8
 ·have KC:=RD.2 dn;have lU:kt xs o x=tD xs (iP o x) :=by unfold kt; rw[if_pos dn]
  have JJ:Ap (iP o x) :=⟨ag,aq⟩
  have QM:cR (iP o x)=.str o.act.key::a6 o.act.val.kind::.int .i64 o.act.val.num::cD o.act.val.bits::.str o.act.val.text::cD o.cX::X:=by rw[dy]; rfl
  have mC:=m8 ag (r:=iP o x);have QJ:∀ h,(cR (iP o x))[0]'h=.str o.act.key:=fun _=>rfl
  have mL:bn (rep 32 (.int .u8 0)) 0 X=X:=eC (by rw[bB]; rfl);have xa:=U7 mC;have al:=h.aik;obtain⟨s,i1⟩:∃ s,s=Mg v xs:=⟨_,rfl⟩
  rw[<-i1] at al;have rn:=PL s (by rw[al]; exact dN) (by rw[al]; exact aD) o.act.key (by rw[al]; exact hm);rw[al] at rn;have Q4:=yx (iP o x);obtain⟨T,dt⟩:∃ T,T=cR (iP o x) :=⟨_,rfl⟩
  rw[<-dt] at QM mC QJ xa Q4;obtain⟨jZ,o2⟩:∃ jZ,jZ=L++[bg.cells 38 T] :=⟨_,rfl⟩
  have IV:jZ.length=l.length+3:=by rw[o2]; simp[mA]
  have EF:∀ b,b<l.length->jZ[b]? = l[b]?:=fun b af=>by rw[o2,aqt (by omega)]; exact IX b af
  have ad:jd jZ v j xs:=h.frame (ai.imp_right fun ai=>EF j ai);have Sh:=ad.rd;rw[<-i1] at Sh;have fZ:jZ[l.length+2]? = some (.cells 38 T) :=by rw[o2,aqB (by omega),mA]; simp
  have b9:∀ h,L[l.length]'h=.cells 11 O:=fun h=>(aqr.1 eO).2
  have aF:∀ h,L[l.length+1]'h=.cells 32 X:=fun h=>(aqr.1 q1).2
  have aQ:∀ h,jZ[l.length+2]'h=.cells 38 T:=fun h=>(aqr.1 fZ).2
  have lj:∀ y:bg,(L++[y]).set (l.length+2) (.cells 38 T)=jZ:=fun y=>by rw[o2,aq9 _ _ (by omega),mA]; simp
  have agb:∀ y:bg,(L++[y])[l.length+2]? = some y:=fun y=>by rw[aqB (by omega),mA]; simp
  simp[ds,bB,nT,nU,EG,QG,cn,KC,<-ec,eO,q1,mA,aqs,mL,<-QM,mC,xa,lj,agb,fZ,QJ,b9,aF,aQ];rw[<-o2];refine il rn (.cons Sh (.cons (.same _ rfl) (.cons (.same _ rfl) .nil))) rfl ?_;have di:=Pd xs o.act.key;obtain⟨at_,fi⟩:∃ a,a=fw xs o.act.key:=⟨_,rfl⟩
  have s7:tD xs (iP o x)=if iX xs o.act.key=true then (if ve o.cX x (oy xs at_).cX (oy xs at_).id=true then xs.set at_ (iP o x) else xs) else kh xs at_ (iP o x) :=by rw[fi]; rfl
  rw[<-fi] at di ⊢;cases aA:iX xs o.act.key with
  | false=>
   rw[aA,if_neg (by simp)] at s7;obtain⟨vZ,EE⟩:∃ vZ,vZ=jZ++[bg.cells 38 T] :=⟨_,rfl⟩
   have al7:vZ.length=l.length+4:=by rw[EE]; simp[IV]
   have IY:∀ b,b<l.length->vZ[b]? = l[b]?:=fun b af=>by rw[EE,aqt (by omega)]; exact EF b af
   have pt:vZ[l.length+3]? = some (.cells 38 T) :=by rw[EE,aqB (by omega),IV]; simp
   simp[IV,fZ,aQ,mC,xa,aqs,<-EE];by_cases ao:v=.aX
   ·have Ca:xs=[] :=by
     have:=h.o;rw[ao] at this;have:=this.q.vn
     rwa [arB] at this
    have QT:at_=0:=by rw[Ca] at di; simp at di; exact di
    rw[ao,QT];refine adC (x:=iP o x) (by rw[pt,dt]) ?_;simp;have pe:kt xs o x=[iP o x] :=by rw[lU,s7,Ca,QT]; rfl
    refine aS _ _ vZ.length ?_ (.inr (.inl (by omega))) (by simp; omega) (fun b af _=>by rw[aqt (by omega)]; exact IY b af) (fun aM=>by cases aM) (fun aM=>absurd dn aM);rw[pe];exact jd.full (xs:=[iP o x]) (fun t aP=>by rw[aq6] at aP; rw[aP]; exact JJ) (by simp)
   ·obtain⟨pk,af⟩:=h.block ao;have eN:=ai.resolve_left ao;rw[pk];refine adD (a:=xs) (x:=iP o x) dN JJ rfl (by rw[IY j eN]; exact af) (by rw[pt,dt]) (by omega) di aD ?_;simp;refine aS _ _ vZ.length ?_ (.inr (.inl (by omega))) (by simp; omega) (fun b af k8=>by rw[aqt (by simp; omega),aqG (fun e=>(k8.resolve_left ao) e.symm)]; exact IY b af) (fun aM=>by cases aM) (fun aM=>absurd dn aM);rw[lU,s7];have bc:(kh xs at_ (iP o x)).length=xs.length+1:=Kq _ _ _;rw[<-bc];exact jd.full (SL dN JJ) (by rw[aqB (by simp)]; simp)
  | true=>
   rw[aA,if_pos rfl] at s7;have rm:=aA;unfold iX at rm;rw[aqw,decide_eq_true_eq,<-fi] at rm;obtain⟨y,aG,dg⟩:=bW rm.1;have Cc:oy xs at_=y:=oz aG;rw[Cc] at s7;have ao:v≠.aX:=fun ao=>by
    have:=h.o;rw[ao] at this;have:=this.q.vn;rw[arB] at this;rw[this] at aG; simp at aG
   have df:=m8 (dN y dg).id;have nh:=yx y;obtain⟨p,c,q,a7,bl,a3,a4⟩:=ad.o.q.get (k:=.i64) (i:=at_) (e:=cR y) (by rw[aqx,aG]; rfl);have aL:=ajq (iP o x) y ag (dN y dg).id;rw[<-dt] at aL;obtain⟨Y,gQ⟩:∃ Y,Y=cR y:=⟨_,rfl⟩
   rw[<-gQ] at a4 aL df nh;simp[fZ,aQ,mC,aqs,a7,bl,a3,a4];refine aU aL (by simp[aV,U.closed,Q4,nh]) ?_;have uP:ve (iP o x).cX (iP o x).id y.cX y.id=ve o.cX x y.cX y.id:=rfl;rw[uP];cases BO:ve o.cX x y.cX y.id with
   | false=>
    rw[BO,if_neg (by simp)] at s7;simp;refine aS v jZ j (by rw[lU,s7]; exact ad) (.inl ⟨ao,rfl⟩) (by omega) (fun b af _=>EF b af) (fun aM=>absurd (iK.1 aM) ao) (fun aM=>absurd dn aM)
   | true=>
    rw[BO,if_pos rfl] at s7;obtain⟨bT,l',dU,dw,gZ,kA,ua⟩:=Ge (X:=.aI (cR (iP o x))) rfl ad.o (fun y aG=>m8 (dN y aG).id) rm.1 (by rw[<-dt]; exact mC);rw[a7] at dU;obtain rfl:=Option.some.inj dU;rw[<-dt] at dw;simp[fZ,aQ,mC,aqs,a7,dw];refine aS v l' j ?_ (.inl ⟨ao,rfl⟩) (by omega) (fun b af k8=>by rw[ua b (k8.resolve_left ao)]; exact EF b af) (fun aM=>absurd (iK.1 aM) ao) (fun aM=>absurd dn aM);rw[lU,s7];refine⟨gZ,.inr ?_⟩;rw[asD];exact h.v.resolve_left ao
 ·have KC:¬ (u o.act.kind:Int)=4:=fun aM=>dn (RD.1 aM)
  simp[ds,bB,nT,KC,<-ec,eO];have lU:kt xs o x=xs:=by unfold kt; rw[if_neg dn]
  refine aS v L j (by rw[lU]; exact h.frame (ai.imp_right fun ai=>IX j ai)) ?_ (by omega) (fun b af _=>IX b af) (fun aM=>⟨aM,dn⟩) (fun _=>rfl);by_cases ao:v=.aX
  ·exact .inr (.inr ao)
  ·exact .inl ⟨ao,rfl⟩
theorem OT (s:nJ) :(gj s).cells=some [gj s] :=by cases s<;>rfl
theorem ZU {l:List cm} (h:ox l=0) :l.length<=60/\nb l=true:=by
 unfold ox at h;split at h
 ·cases h
 ·split at h
  ·rename_i h1 ad; exact⟨by omega,ad⟩
  ·cases h
theorem Qi {l:List cm} (h:nb l=true) {i:Nat} {a b:cm} (az:l[i]? = some a) (af:l[i+1]? = some b) :eW a.key b.key=true:=by
 have h1:=(of_decide_eq_true h) (i+1) (aqr.1 af).1;unfold sL at h1;rw[aso,oz az,oz af,aqw] at h1;simpa using h1.2
theorem Ew {l:List cm} (h:nb l=true) :∀ {d i:Nat} {a b:cm},l[i]? = some a->l[i+d+1]? = some b->eW a.key b.key=true
 | 0,i,a,b,az,af=>Qi h az af
 | d+1,i,a,b,az,af=>by
  obtain⟨c,ah,_⟩:=bW (l:=l) (k:=i+d+1) (by have:=(aqr.1 af).1; omega);exact C5 (Ew h az ah) (Qi h ah af)
theorem IF {l:List cm} (h:nb l=true) (x:List UInt8) :F1 l x:=by
 intro i j a b hx az af aL;by_cases ap:i=j
 ·subst ap; rw[az] at af; cases af; exact aL
 ·exact C5 (Ew h (d:=j - i - 1) az (by rw[show i+(j - i - 1)+1=j by omega]; exact af)) aL
def ra (l:List cm) (k:List UInt8) :fA × Int:=if ox l=0 then (if iX l k=true then ((oy l (fw l k)).val,0) else (hR,6)) else (hR,ox l)
theorem ajt (s:nJ) (al:l0 s.l) (eV:s.l.length<=1000000) (k:List UInt8) :bi Tryz.prog GS 88 [.aI [gj s],.str k] (.bu [.aI (cn (ra s.l k).1),.int .i64 (ra s.l k).2]) :=by
 refine bt Tryz.checked.mixed bp ?_;apply bb Tryz.func88 [];have cp:=DZ s;have cz:=VR s al eV;have o5:=OT s;by_cases aE:ox s.l=0
 ·have wY:=IF (ZU aE).2 k;have rn:=PL s al eV k wY;simp[o5];refine aU cz (by simp[aV,U.closed,cp]) ?_;simp[aE];refine aU rn (by simp[aV,U.closed,cp]) ?_;cases aA:iX s.l k with
  | false=>
   have au:ra s.l k=(hR,6) :=by unfold ra; rw[if_pos aE,if_neg (by rw[aA]; simp)]
   rw[au];simp;exact aH rfl rfl
  | true=>
   have rm:=aA;unfold iX at rm;rw[aqw,decide_eq_true_eq] at rm;obtain⟨y,aG,dg⟩:=bW rm.1;have au:ra s.l k=(y.val,0) :=by unfold ra; rw[if_pos aE,if_pos aA,oz aG]
   rw[au];have cg:cv (.ar 38) (gj s) (.int .i64 (fw s.l k:Int))=some (.b5 (cR y) 0) :=by simp[gj,aG]
   have df:=m8 (al y dg).id;have I8:((cR y).tail).take 4=cn y.val:=rfl;have mO:aV (cn y.val)=true:=by simp[cn,aV,U.closed]
   have p1:(cn y.val).length=4:=rfl;obtain⟨Y,gQ⟩:∃ Y,Y=cR y:=⟨_,rfl⟩
   obtain⟨V,j9⟩:∃ V,V=cn y.val:=⟨_,rfl⟩
   rw[<-gQ] at cg df I8;rw[<-j9] at I8 mO p1 ⊢;have J3:bn [U.int .u8 0,.int .i64 0,.int .u64 0,.str []] 0 V=V:=eC (by rw[p1]; rfl);simp[cg,df,I8,p1,J3,aqs];exact aH rfl (by simp[U.closed,aV,mO])
 ·have au:ra s.l k=(hR,ox s.l) :=by unfold ra; rw[if_neg aE]
  rw[au];simp[o5];refine aU cz (by simp[aV,U.closed,cp]) ?_;simp[aE];exact aH rfl rfl
def lp (a b:cm) :Bool:=eW a.key b.key
theorem XV {l:am} {p:U} {x:List U × Nat} (h:dY l p=some x) :mo p 0=some p:=by
 cases p<;>first | rfl | (exfalso; simp[dY] at h)
structure akf (l:am) (a:List cm) (x:cm) (m:Nat) (ae:a2) (l1:am) :Prop where
 fB:∃ (i:Nat) (v:U),i=m/\i<=a.length/\ae 5=v/\ae 6=.int .i64 (i:Int)/\b7 38 cR l l1 v (kh a i x) false/\oq lp a x i=oq lp a x a.length
theorem adW {α:Type} [DecidableEq α] {x:α} {l:List α} (h:0<=kj x l 0) :∃ i:Nat,kj x l 0=(i:Int)/\l[i]? = some x:=by
 have hm:=(xh x l 0).1 h;have:∃ i:Nat,l[i]? = some x/\∀ (j:Nat) (z:α),j<i->l[j]? = some z->z≠x:=by
  clear h
  induction l with
  | nil=>cases hm
  | cons y r aJ=>
   by_cases aG:y=x
   ·exact⟨0,by simp[aG],fun j z ai=>by omega⟩
   ·obtain⟨i,h1,ad⟩:=aJ (by simpa [Ne.symm aG] using hm);refine⟨i+1,by simpa using h1,fun j z ai av=>?_⟩;rcases j with _ | j
    ·simp at av; rw[<-av]; exact aG
    ·exact ad j z (by omega) (by simpa using av)
 obtain⟨i,h1,ad⟩:=this;exact⟨i,by have:=Cq (n:=0) h1 ad rfl; simpa using this,h1⟩
theorem H5 {l:List cm} {x:List UInt8} {t:Nat} {y:cm} (aP:t<fw l x) (aG:l[t]? = some y) :eW y.key x=true:=by
 have aR:l.takeWhile (fun t=>eW t.key x)=l.take (fw l x) :=List.prefix_iff_eq_take.1 (List.takeWhile_prefix _);have hm:y∈l.take (fw l x) :=aqU.2 ⟨t,by rw[aqY aP]; exact aG⟩;rw[<-aR] at hm;have:=List.all_takeWhile (l:=l) (p:=fun t=>eW t.key x);exact ari.1 this y hm
theorem H4:∀ {l:List cm} {x:List UInt8} {y:cm},l[fw l x]? = some y->eW y.key x=false
 | [],x,y,h=>by simp at h
 | a::l,x,y,h=>by
  unfold fw at h;rw[asg] at h;cases az:eW a.key x with
  | false=>
   rw[az] at h;simp at h;rw[<-h]; exact az
  | true=>
   rw[az] at h;simp at h;exact H4 (l:=l) (by unfold fw; exact h)
theorem ZV {l:List cm} (h:nb l=true) {x:List UInt8} {t:Nat} {y:cm} (aP:fw l x<=t) (aG:l[t]? = some y) :eW y.key x=false:=by
 obtain⟨z,av,_⟩:=bW (l:=l) (k:=fw l x) (by have:=(aqr.1 aG).1; omega);have h1:=H4 av;cases ad:eW y.key x with
 | false=>rfl
 | true=>rw[IF h x _ _ _ _ aP av aG ad] at h1; cases h1
theorem PX {l:List cm} (h:nb l=true) (x:List UInt8) :(iX l x=true/\kj x (l.map cm.key) 0=(fw l x:Int))\/(iX l x=false/\¬ 0<=kj x (l.map cm.key) 0) :=by
 cases aA:iX l x with
 | true=>
  left;refine⟨rfl,?_⟩;unfold iX at aA;rw[aqw,decide_eq_true_eq,decide_eq_true_eq] at aA;obtain⟨y,aG,_⟩:=bW aA.1;have adl:y.key=x:=by rw[<-aA.2,oz aG]
  have:=Cq (x:=x) (l:=l.map cm.key) (k:=fw l x) (n:=0) (y:=x) (by rw[aqx,aG]; exact congrArg some adl) (fun j z ai av qq=>by
   rw[aqx] at av;cases jn:l[j]? with
   | none=>rw[jn] at av; cases av
   | some w=>
    rw[jn] at av;have hw:w.key=z:=Option.some.inj av;have:=H5 ai jn;rw[hw,qq,Gz] at this; cases this) rfl
  simpa using this
 | false=>
  right;refine⟨rfl,fun aE=>?_⟩;obtain⟨i,amx,mF⟩:=adW aE;rw[aqx] at mF;cases jn:l[i]? with
  | none=>rw[jn] at mF; cases mF
  | some w=>
   rw[jn] at mF;have hw:w.key=x:=Option.some.inj mF;have fk:=(aqr.1 jn).1;by_cases abF:i<fw l x
   ·have:=H5 abF jn;rw[hw,Gz] at this; cases this
   ·by_cases abG:i=fw l x
    ·unfold iX at aA;rw[<-abG,oz jn,hw,decide_eq_true fk] at aA;simp at aA
    ·obtain⟨z,av,_⟩:=bW (l:=l) (k:=fw l x) (by omega);have h1:=H4 av;have ad:=Ew h (d:=i - fw l x - 1) av (by rw[show fw l x+(i - fw l x - 1)+1=i by omega]; exact jn);rw[hw,h1] at ad; cases ad
theorem afU {l:List cm} (h:nb l=true) {x:cm} (aD:iX l x.key=false) :oq lp l x l.length=fw l x.key:=by
 have ah:=Pd l x.key;have key:∀ k,fw l x.key<=k->k<=l.length->oq lp l x k=fw l x.key:=by
  intro k
  induction k with
  | zero=>
   intro h1 _;have:fw l x.key=0:=by omega
   rw[this]; rfl
  | succ k aJ=>
   intro h1 ad;obtain⟨y,aG,_⟩:=bW (l:=l) (k:=k) (by omega);rw[T3 aG];by_cases hk:fw l x.key=k+1
   ·have aj:=H5 (l:=l) (x:=x.key) (t:=k) (by omega) aG;have aC:lp x y=false:=by
     unfold lp;cases aZ:eW x.key y.key with
     | false=>rfl
     | true=>have:=C5 aj aZ; rw[Gz] at this; cases this
    rw[aC,if_neg (by simp)]; exact hk.symm
   ·have aj:=ZV h (x:=x.key) (t:=k) (by omega) aG;have aC:lp x y=true:=by
     unfold lp;cases aZ:eW x.key y.key with
     | true=>rfl
     | false=>
      exfalso;have ap:y.key=x.key:=by
       have a7:¬ y.key<x.key:=(LX _ _).1 aj;have bl:¬ x.key<y.key:=(LX _ _).1 aZ;exact atv (atA.1 bl) (atA.1 a7)
      rcases PX h x.key with ⟨bx,_⟩ | ⟨_,de⟩
      ·rw[aD] at bx; cases bx
      ·exact de ((xh x.key (l.map cm.key) 0).2 (by rw[<-ap]; exact ar7 (aqI aG)))
    rw[aC,if_pos rfl];exact aJ (by omega) (by omega)
 exact key l.length ah (aqv _)
structure c0 where
 dA:Int
 set:kz
 jt:nJ
 cl:eI
def mw (s:c0) :List U:=[.int .i64 s.dA,ha s.set,gj s.jt,aT s.cl]
structure Aq (s:c0) :Prop where
 set:rL s.set.l
 jt:l0 s.jt.l
 cl:g7 s.cl
 ls:s.set.l.length<=1000000
 Tk:s.jt.l.length<=1000000
 Te:s.cl.l.length<=1000000
theorem AV (s:c0) :aV (mw s)=true:=by simp[mw,aV,U.closed,yw,DZ,gC]
theorem Zf (a b:List B) (az:a.length=32) (af:b.length=32) :bi Tryz.prog GS 92 [.aI (aY a),.aI (aY b)] (.int .i64 (cd a b)) :=by
 refine bt Tryz.checked.mixed bp ?_;apply bb Tryz.func92 [];have al:=Da (n:=32) (b:=1) (by omega);have B5:=Da (n:=32) (b:=0) (by omega);simp[aY,az,af,al,B5];have ah:=DG (some a) (some b) (by simp[az,af]);refine il ah ?_ rfl ?_
 ·exact .cons ((oo (j:=0) az rfl).mT (fun _=>rfl) (some a) rfl rfl) (.cons ((oo (j:=1) af rfl).mT (fun _=>rfl) (some b) rfl rfl) .nil)
 ·simp;exact aH rfl rfl
def yP (s:c0) :Bool:=decide (0<=s.dA)&&(decide (s.dA<=60)&&(decide ((s.cl.l.length:Int)<=s.dA)&&!(decide (s.cl.l.length=0)&&decide (0<s.dA))))
def IG (s:c0) :Bool:=yP s&&(decide (py s.set.l=0)&&(decide (ox s.jt.l=0)&&eB s.cl.l))
def tE (s:c0) :Int:=eh (IG s)
set_option maxHeartbeats 8000000 in
theorem MG (s:c0) (aq:Aq s) :bi Tryz.prog GS 50 [.aI (mw s)] (.int .i64 (tE s)) :=by
 refine bt Tryz.checked.mixed bp ?_;apply bb Tryz.func50 [];unfold tE IG;have y9:cL (.ar 32) (aT s.cl)=some (.int .i64 s.cl.l.length) :=by simp[aT]
 have E2:=yw s.set;have o5:=DZ s.jt;cases au:yP s with
 | false=>
  rw[ar4];simp[mw];unfold yP at au;by_cases h1:s.dA<0
  ·simp[y9,h1];exact aH rfl rfl
  ·by_cases ad:60<s.dA
   ·simp[y9,h1,ad];exact aH rfl rfl
   ·by_cases aj:s.dA<(s.cl.l.length:Int)
    ·simp[y9,h1,ad,aj];exact aH rfl rfl
    ·have aC:s.cl.l.length=0:=by
      by_cases h:s.cl.l.length=0
      ·exact h
      ·exfalso; simp[h,h1,ad,aj] at au; try omega
     have aZ:0<s.dA:=by simp[aC,h1,ad] at au; omega
     simp[y9,h1,ad,aj,aC,aZ];exact aH rfl rfl
 | true=>
  unfold yP at au;simp only[aqw,decide_eq_true_eq,asq,Bool.and_eq_false_iff,decide_eq_false_iff_not] at au;obtain⟨aF,aQ,aW,bd⟩:=au;have h1:¬ s.dA<0:=by omega
  have ad:¬ 60<s.dA:=by omega
  have aj:¬ s.dA<(s.cl.l.length:Int) :=by omega
  have aD:(decide ((s.cl.l.length:Int)=0)&&decide (0<s.dA))=false:=by
   rcases bd with h | h
   ·rw[decide_eq_false (by omega)]; rfl
   ·rw[decide_eq_false h,Bool.and_false]
  rw[art];have dt:=VT s.set aq.set aq.ls;have hK:=VR s.jt aq.jt aq.Tk;obtain⟨N,eP⟩:∃ N:Int,N=s.cl.l.length:=⟨_,rfl⟩
  rw[<-eP] at y9 aj aD;by_cases aC:N=0<;>by_cases bx:0<s.dA
  ·rw[decide_eq_true aC,decide_eq_true bx] at aD; cases aD
  all_goals
   simp[mw,y9,h1,ad,aj,aC,bx];refine aU dt (by simp[aV,U.closed,E2]) ?_;by_cases de:py s.set.l=0
   ·simp[de];refine aU hK (by simp[aV,U.closed,o5]) ?_;by_cases eb:ox s.jt.l=0
    ·simp[eb];refine cE (s.cl.l.length - 1) (fun k ae l=>(∃ r,l=.cells 4 [.int .i64 s.dA,ha s.set,gj s.jt,aT s.cl] ::r)/\ae 1=.ptr 0 0 4/\ae 3=.int .i64 N/\ae 4=.int .i64 ((k+1:Nat) :Int)/\∀ j,j<k+1->j<s.cl.l.length->1<=j->cd (bU s.cl.l (j - 1)) (bU s.cl.l j)<0) ?_ ⟨by simp,by simp,by simp[aC],by simp,fun j h1 _ ad=>by omega⟩;rintro k ae l hk ⟨⟨r,rfl⟩,aF,aW,bd,al⟩;obtain⟨ae,rfl⟩:=lB aF aW bd;clear aF aW bd;obtain⟨m,hm⟩:∃ m,m=k+1:=⟨_,rfl⟩
     rw[<-hm] at al ⊢;simp;refine lY (fun h=>?_) (fun h=>?_)
     ·simp only[decide_eq_true_eq] at h;have aL:m<s.cl.l.length:=by omega
      obtain⟨x,ag,dm⟩:=bW (l:=s.cl.l) (k:=k) (by omega);obtain⟨y,aG,dg⟩:=bW aL;have aR:IntKind.i64.wrap ((m:Int) - 1)=(k:Int) :=by rw[IntKind.wrap_i64]; omega
      have bI:IntKind.i64.wrap ((m:Int)+1)=((m+1:Nat) :Int) :=by rw[IntKind.wrap_i64]; omega
      have fR:=gG ag;have oh:=gG aG;have cg:cv (.ar 32) (aT s.cl) (.int .i64 (k:Int))=some (.b5 (aY x) 0) :=by simp[aT,ag]
      have n0:cv (.ar 32) (aT s.cl) (.int .i64 (m:Int))=some (.b5 (aY y) 0) :=by simp[aT,aG]
      simp[aR,cg,n0,dk (aq.cl x dm),dk (aq.cl y dg),aqs];refine aU (Zf x y (aq.cl x dm) (aq.cl y dg)) (by simp[aV,hX,U.closed,fJ]) ?_;by_cases ah:cd x y<0
      ·have e8:¬ (0<=cd x y) :=by omega
       simp[e8,bI];refine⟨by omega,fun j h1 ad aj=>?_⟩;by_cases ai:j=m
       ·show cd (bU s.cl.l (j - 1)) (bU s.cl.l j)<0;rw[ai,show m - 1=k by omega,fR,oh]; exact ah
       ·exact al j (by omega) ad aj
      ·have e8:0<=cd x y:=by omega
       simp[e8];refine aH (by rw[show eB s.cl.l=false from decide_eq_false fun aM=>by have:=aM m aL (by omega); rw[show m - 1=k by omega,fR,oh] at this; omega,de,eb]; rfl) rfl
     ·simp[h];have eu:s.cl.l.length<=m:=by simp at h; omega
      refine aH (by rw[show eB s.cl.l=true from decide_eq_true fun j h1 ad=>al j (by omega) h1 ad,de,eb]; rfl) rfl
    ·simp[eb];exact aH rfl rfl
   ·simp[de];exact aH rfl rfl
end Op

end Go.bJ

namespace Go.bJ
open Go Go.Proofs Go.Sort Go.Shelf
set_option maxRecDepth 100000
namespace Op
open eX
abbrev ah5 (l:List (List B)) :List (List B) :=z2 FS l l.length
structure aj0 (a:List (List B)) (k:Nat) (ae:a2) (l:am) :Prop where
 bd:ae 4=.int .i64 k
 fB:∃ v,ae 3=v/\b7 32 aY [] l v (z2 FS a k++a.drop k) false
structure ajY (t:List (List B)) (x:List B) (i:Nat) (m:Nat) (ae:a2) (l:am) :Prop where
 bd:ae 4=.int .i64 i
 fB:∃ (k:Nat) (v:U),k=m/\k<=i/\ae 3=v/\ae 5=.int .i64 k/\b7 32 aY [] l v (kh t k x) false/\oq FS t x k=oq FS t x i
end Op

end Go.bJ

namespace Go.bJ
open Go Go.Proofs
set_option maxRecDepth 100000
namespace Op
open eX
def ow (s:c0) (k:List UInt8) :Bool × fA × Int:=if tE s=0 then (Jd s.set.l k,(ra s.jt.l k).1,0) else (false,hR,tE s)
theorem XY (s:eI) :(aT s).cells=some [aT s] :=by cases s<;>rfl
theorem VS (s:c0) (aq:Aq s) (k:List UInt8) :bi Tryz.prog GS 44 [.aI (mw s),.str k] (.bu [.bool (ow s k).1,.aI (cn (ow s k).2.1),.int .i64 (ow s k).2.2]) :=by
 refine bt Tryz.checked.mixed bp ?_;apply bb Tryz.func44 [];unfold ow;have cp:=AV s;have cz:=MG s aq;have E2:=yw s.set;have o5:=DZ s.jt;have aM:=ajj s.set aq.set aq.ls k;have au:=ajt s.jt aq.jt aq.Tk k;unfold mw at cz cp;obtain⟨V,j9⟩:∃ V,V=cn (ra s.jt.l k).1:=⟨_,rfl⟩
 have amc:aV V=true:=by rw[j9]; simp[cn,aV,U.closed]
 have p1:V.length=4:=by rw[j9]; rfl
 rw[<-j9] at au;have J3:bn [U.int .u8 0,.int .i64 0,.int .u64 0,.str []] 0 V=V:=eC (by rw[p1]; rfl);have acZ:bn V 0 V=V:=eC rfl;simp[mw];refine aU cz (by simpa [aV,U.closed] using cp) ?_;by_cases aE:tE s=0
 ·simp[aE];refine aU aM (by simp[aV,U.closed,E2]) ?_;simp;refine aU au (by simp[aV,U.closed,o5]) ?_;simp[p1,J3,acZ,aqs];refine aH (by rw[j9,if_pos aE]) (by rw[if_pos aE]; simp[U.closed,aV,cn])
 ·simp[aE];exact aH rfl rfl
def L7:c0:=⟨0,none,none,none⟩
abbrev Cw (o:bA) (h:List B) :Bool:=!decide (h∈o.bo.l)
theorem O3 (s:c0) (e:Int) :(U.bu [.aI (mw s),.int .i64 e]).closed=true:=by have:=AV s; simp[U.closed,aV,this]
abbrev afW (s:c0) (g:bM) (O X:List U) (A:kz) (R:nJ) (v:U) :am:=
 [.cells 4 [.int .i64 s.dA,ha s.set,gj s.jt,aT s.cl],.cells 2 [aT g.ids,b1 g.ops],.cells 32 X,.cells 4 [.int .i64 0,.aX,.aX,.aX],.cells 11 O,.cells 4 [.int .i64 (s.dA+1),ha A,gj R,v]]
structure ajX (s:c0) (g:bM) (o:bA) (O X:List U) (A:kz) (R:nJ) (k:Nat) (ae:a2) (l:am) :Prop where
 bh:ae 5=.ptr 2 0 32
 cc:ae 6=.ptr 3 0 4
 eS:ae 8=.ptr 4 0 11
 hI:ae 12=.ptr 5 0 4
 alW:ae 70=aT s.cl
 alX:ae 71=.int .i64 s.cl.l.length
 alY:ae 72=.int .i64 k
 fB:∃ v j rest,l=afW s g O X A R v++rest/\bG 32 l v j (((s.cl.l.take k).filter (Cw o)).map aY)/\(v=.aX\/6<=j)/\cq v=((s.cl.l.take k).filter (Cw o)).isEmpty
structure aj6 (a:eI) (o:bA) (X:List U) (k:Nat) (ae:a2) (l:am) :Prop where
 b9:ae 0=aT a
 bd:ae 4=.ptr 0 0 11
 bh:ae 5=.ptr 1 0 32
 eS:ae 8=.int .i64 k
 fB:∃ v j rest,l=.cells 11 (bj o) ::.cells 32 X::rest/\ae 7=v/\bG 32 l v j (((a.l.take k).filter (Cw o)).map aY)/\(v=.aX\/2<=j)/\cq v=((a.l.take k).filter (Cw o)).isEmpty
def BB (l:List (List B)) (o:bA) (x:List B) :List (List B) :=ah5 (l.filter (Cw o)++[x])
structure WF (r:cm) :Prop where
 id:r.id.length=32
 kq:-9223372036854775808<=r.val.num
 pn:r.val.num<9223372036854775808
structure aj9 (s:c0) :Prop where
 set:rL s.set.l
 jt:∀ r∈s.jt.l,WF r
 cl:g7 s.cl
theorem aeH (a b:cm) (bY:a.key≠b.key) (h:lp a b=false) :lp b a=true:=by
 unfold lp at h ⊢;rw[LX] at h;rw[rY];have ad:b.key<=a.key:=h;exact Decidable.byContradiction fun aj=>bY (atv (show a.key<=b.key from aj) ad)
theorem aeI (a b c:cm) (h1:lp a b=true) (ad:lp b c=true) :lp a c=true:=C5 h1 ad
theorem IE (l:List cm) :nb l=true<->(∀ t∈l,nx t=true)/\l.Pairwise fun a b=>lp a b=true:=by
 constructor
 ·intro h;refine⟨fun t aP=>?_,ars.2 fun i j ax ai hx=>?_⟩
  ·obtain⟨k,hk⟩:=aqU.1 aP;have h1:=(of_decide_eq_true h) k (aqr.1 hk).1;unfold sL at h1;rw[oz hk,aqw] at h1;exact h1.1
  ·exact Ew h (d:=j - i - 1) (aqu ax) (by rw[show i+(j - i - 1)+1=j by omega]; exact aqu ai)
 ·rintro⟨h1,ad⟩;refine Qj fun k hk=>?_
  unfold sL;have aG:=aqu hk;rw[oz aG,h1 _ (asy hk),art];by_cases wS:k=0
  ·simp[wS]
  ·have ag:=aqu (l:=l) (i:=k - 1) (by omega);have:=(ars.1 ad) (k - 1) k (by omega) hk (by omega);unfold lp at this;rw[oz ag,this]; simp
theorem ZX {l:List cm} {x:cm} (au:nb l=true) (ag:nx x=true) :nb (tD l x)=true:=by
 obtain⟨h1,ad⟩:=(IE l).1 au;unfold tD;cases aA:iX l x.key with
 | true=>
  rw[if_pos rfl];split
  ·unfold iX at aA;rw[aqw,decide_eq_true_eq,decide_eq_true_eq] at aA;obtain⟨ah,hk⟩:=aA;have aG:=aqu ah;rw[oz aG] at hk;refine (IE _).2 ⟨fun t aP=>?_,ars.2 fun i j ax ai hx=>?_⟩
   ·rcases arR aP with e | e
    ·exact h1 t e
    ·rw[e]; exact ag
   ·rw[asD] at ax ai;have aj:=(ars.1 ad) i j ax ai hx;have y8:∀ (t:Nat) (aP:t<l.length),((l.set (fw l x.key) x)[t]'(by rw[asD]; exact aP)).key=(l[t]'aP).key:=fun t aP=>by
     rw[List.getElem_set];split
     ·rename_i e; subst e; exact hk.symm
     ·rfl
    unfold lp at aj ⊢;rw[y8 i ax,y8 j ai]; exact aj
  ·exact au
 | false=>
  rw[if_neg (by simp)];have aB:=afU au aA;rw[<-aB];refine (IE _).2 ⟨fun t aP=>?_,adK aeI ad fun y aG kM=>aeH x y (fun e=>?_) kM⟩
  ·rcases SK.1 aP with e | e
   ·rw[e]; exact ag
   ·exact h1 t e
  ·rcases PX au x.key with ⟨aj,_⟩ | ⟨_,aj⟩
   ·rw[aj] at aA; cases aA
   ·exact aj ((xh x.key (l.map cm.key) 0).2 (by rw[e]; exact ar7 aG))
theorem ag0 {g:bM} (V:pJ g) {k:Nat} {o:bA} {x:List B} (aq:g.ops.l[k]? = some o) (ag:g.ids.l[k]? = some x) (dn:o.act.kind=4#8) :nx (iP o x)=true:=by
 have h1:=(V.ID k o x aq ag).1;have ad:fY o=0:=by
  unfold pD at h1;split at h1
  ·assumption
  ·rename_i h; exact absurd h1 h
 unfold fY at ad;split at ad
 ·cases ad
 ·split at ad
  ·split at ad
   ·rename_i _ _ aj;unfold rb at aj;simp only[aqw,decide_eq_true_eq] at aj;obtain⟨_,aC,aZ,_⟩:=aj;unfold hU at aZ;rw[dn] at aZ;simp only[aqw] at aZ;unfold nx iP Db;simp only[aqw,decide_eq_true_eq];simp at aZ;exact⟨aZ.1,aZ.2,aC⟩
   ·cases ad
  ·cases ad
def jR (g:bM) :Nat->List cm
 | 0=>[]
 | k+1=>kt (jR g k) (mS g.ops.l k) (bU g.ids.l k)
theorem Ue {g:bM} {k:Nat} {o:bA} {x:List B} (aq:g.ops.l[k]? = some o) (ag:g.ids.l[k]? = some x) :jR g (k+1)=kt (jR g k) o x:=by
 show kt (jR g k) (mS g.ops.l k) (bU g.ids.l k)=_;rw[xB aq,gG ag]
theorem Lq {g:bM} (au:hS g) (V:pJ g) :∀ {k:Nat},k<=g.ops.l.length->nb (jR g k)=true/\l0 (jR g k)/\(jR g k).length<=k
 | 0,_=>⟨rfl,fun t aP=>(by cases aP),aqv _⟩
 | k+1,hk=>by
  obtain⟨h1,ad,aj⟩:=Lq au V (k:=k) (by omega);obtain⟨o,aq,ef⟩:=bW (l:=g.ops.l) (k:=k) (by omega);obtain⟨x,ag,dm⟩:=bW (l:=g.ids.l) (k:=k) (by rw[V.len]; omega);rw[Ue aq ag];unfold kt;by_cases dn:o.act.kind=4#8
  ·rw[if_pos dn];have:=ahw (x:=iP o x) ad ⟨au.ids x dm,(au.ops o ef).val⟩;exact⟨ZX h1 (ag0 V aq ag dn),this.1,by omega⟩
  ·rw[if_neg dn]; exact⟨h1,ad,by omega⟩
structure Wn (g:bM) (k:Nat) (ae:a2) (l:am) :Prop where
 aF:ae 1=.ptr 0 0 2
 aQ:ae 2=.ptr 1 0 1
 bh:ae 5=.ptr 2 0 1
 pX:ae 15=b1 g.ops
 na:ae 16=.int .i64 g.ops.l.length
 nQ:ae 17=.int .i64 k
 eO:l[0]? = some (.cells 2 [aT g.ids,b1 g.ops])
 q1:l[1]? = some (.cells 1 [.aX])
 fB:∃ v j,l[2]? = some (.cells 1 [v])/\jd l v j (jR g k)/\(v=.aX\/3<=j)/\cq v=(jR g k).isEmpty
def lv (g:bM) :nJ:=if fv g=0 then i8 (jR g g.ops.l.length) else none
set_option maxHeartbeats 8000000 in
theorem aju (g:bM) (au:hS g) :bi Tryz.prog GS 84 [c3 g] (.bu [.aI [gj (lv g)],.int .i64 (fv g)]) :=by
 refine bt Tryz.checked.mixed bp ?_;apply bb Tryz.func84 [];have er:=gC g.ids;have c7:=mr g.ops;have cz:=GZ g au;have ab3:=au.cB;have dL:cL (.ar 11) (b1 g.ops)=some (.int .i64 g.ops.l.length) :=by simp[b1]
 unfold c3 dB at cz;simp[c3,dB];refine aU cz (by simp[aV,U.closed,er,c7]) ?_;by_cases aE:fv g=0
 ·have V:=tt aE;simp[aE,dL];refine cE g.ops.l.length (Wn g) ?_ ⟨by simp,by simp,by simp,by simp,by simp,by simp,by simp,by simp,.aX,0,by simp,jd.nil _ 0,.inl rfl,rfl⟩;rintro k ae l hk ⟨aF,aQ,bh,pX,na,nQ,eO,q1,v,j,fZ,BX,ai,hd⟩;obtain⟨ae,rfl⟩:=Af aF aQ bh pX na nQ;clear aF aQ bh pX na nQ;simp;refine lY (fun h=>?_) (fun h=>?_)
  ·simp only[decide_eq_true_eq] at h;obtain⟨o,aq,ef⟩:=bW (l:=g.ops.l) (k:=k) (by omega);obtain⟨x,ag,dm⟩:=bW (l:=g.ids.l) (k:=k) (by rw[V.len]; omega);have uT:=au.ops o ef;have Sx:=au.ids x dm;have bI:IntKind.i64.wrap ((k:Int)+1)=((k+1:Nat) :Int) :=by rw[IntKind.wrap_i64]; omega
   have cg:cv (.ar 11) (b1 g.ops) (.int .i64 (k:Int))=some (.b5 (bj o) 0) :=by simp[b1,aq]
   have n0:cv (.ar 32) (aT g.ids) (.int .i64 (k:Int))=some (.b5 (aY x) 0) :=by simp[aT,ag]
   have ds:(bj o).length=11:=rfl;have bB:=dk Sx;obtain⟨bL,bz,cO⟩:=Lq au V (k:=k) (by omega);have b4:jR g (k+1)=kt (jR g k) o x:=Ue aq ag;have qc:3<=l.length:=by have:=(aqr.1 fZ).1; omega
   have acB:jd (l++[.cells 11 (bj o)]) v j (jR g k) :=BX.frame (by
    by_cases ao:v=.aX
    ·exact .inl ao
    ·obtain⟨_,af⟩:=BX.block ao;exact .inr (aqt (aqr.1 af).1))
   have lU:=fun (K:U->am->Prop)=>af6 o uT.val x Sx bz (by have:=au.cB; omega) (IF bL o.act.key) acB (K:=K)
   have qH:∀ c:bg,(l++[c])[2]? = some (.cells 1 [v]) :=fun c=>by rw[aqt (by omega)]; exact fZ
   have gp:∀ c:bg,(l++[c])[0]? = some (.cells 2 [aT g.ids,b1 g.ops]) :=fun c=>by rw[aqt (by omega)]; exact eO
   have ly:∀ c:bg,(l++[c])[1]? = some (.cells 1 [.aX]) :=fun c=>by rw[aqt (by omega)]; exact q1
   have Gh:∀ c:bg,(l++[c])[l.length]? = some c:=fun c=>ate
   obtain⟨O,fh⟩:∃ O,O=bj o:=⟨_,rfl⟩
   obtain⟨X,dy⟩:∃ X,X=aY x:=⟨_,rfl⟩
   rw[<-fh] at cg ds;rw[<-dy] at n0 bB;simp only[<-fh,<-dy] at lU;have oe:bn [U.int .u32 0,.aX,.int .u64 0,.int .u8 0,.str [],.int .u8 0,.int .i64 0,.int .u64 0,.str [],.int .u32 0,.int .u32 0] 0 O=O:=eC (by rw[ds]; rfl);have afO:∀ (c:bg) (h:0<(l++[c]).length),(l++[c])[0]'h=.cells 2 [aT g.ids,b1 g.ops] :=fun c h=>(aqr.1 (gp c)).2
   simp[cg,n0,ds,bB,oe,gp,afO,qH,Gh,aqs];refine lU _ (fun a8 l' cP dS fc tx xK Gm Gn=>?_);simp at tx;have jF:∀ b,b<3->v=.aX\/b≠j:=fun b af=>ai.imp id fun h=>by omega
   have t0:l'[0]? = some (.cells 2 [aT g.ids,b1 g.ops]) :=by rw[xK 0 (by simp) (jF 0 (by omega)),gp]
   have t1:l'[1]? = some (.cells 1 [.aX]) :=by rw[xK 1 (by simp; omega) (jF 1 (by omega)),ly]
   have t2:l'[2]? = some (.cells 1 [v]) :=by rw[xK 2 (by simp; omega) (jF 2 (by omega)),qH]
   have mO:=dS.o.cells;have g8:∀ y:bg,(l'.set 2 y)[2]? = some y:=fun y=>aqL (by omega)
   have e4:a8=.aX\/3<=cP:=by
    rcases fc with h | h | h
    ·right; rw[h.2]; exact ai.resolve_left h.1
    ·right; simp at h; omega
    ·exact .inl h
   simp[t2,mO,bI];refine⟨h,by simp,by simp,by simp,by simp,by simp,by simp,by rw[aqG (by omega)]; exact t0,by rw[aqG (by omega)]; exact t1,a8,cP,g8 _,?_,e4,?_⟩
   ·rw[b4];exact dS.frame (e4.imp id fun h=>aqG (by omega))
   ·rw[b4];by_cases dn:o.act.kind=4#8
    ·have gk:cq a8=false:=by
      cases eb:cq a8 with
      | false=>rfl
      | true=>exact absurd dn (Gm eb).2
     have k3:(kt (jR g k) o x).isEmpty=false:=by
      cases eb:(kt (jR g k) o x).isEmpty with
      | false=>rfl
      | true=>
       rw[att] at eb;exfalso;unfold kt at eb;rw[if_pos dn] at eb;unfold tD at eb;split at eb
       ·rename_i aA;unfold iX at aA;rw[aqw,decide_eq_true_eq] at aA;have sW:0<(jR g k).length:=by omega
        split at eb
        ·have:=congrArg List.length eb; rw[asD,aq5] at this; omega
        ·rw[eb] at sW; simp at sW
       ·have:=congrArg List.length eb; rw[Kq] at this; simp at this
     rw[gk,k3]
    ·have sN:kt (jR g k) o x=jR g k:=by unfold kt; rw[if_neg dn]
     rw[Gn dn,sN]; exact hd
  ·have lP:k=g.ops.l.length:=by simp at h; omega
   rw[lP] at BX hd;have qc:3<=l.length:=by have:=(aqr.1 fZ).1; omega
   have cQ:∀ y:bg,(l.set 1 y)[1]? = some y:=fun y=>aqL (by omega)
   have mO:=BX.o.cells;simp[h,q1,fZ,mO,cQ];refine Gr (Uy ?_) (aH (by rw[aE]) rfl);have g5:bG 38 (l.set 1 (.cells 1 [v])) v j ((jR g g.ops.l.length).map cR) :=BX.o.wu (ai.imp id fun h=>aqG (by omega));exact g5.q.xO (fun x=>yx x) (lv g) (by unfold lv; rw[if_pos aE,xX]; exact hd) (by unfold lv; rw[if_pos aE,kv])
 ·have wO:lv g=none:=by unfold lv; rw[if_neg aE]
  rw[wO];simp[aE];exact aH rfl rfl
def uy (g:bM) (x:List B) (m:Nat) :Bool:=decide (∀ j,j<m->x∉(mS g.ops.l j).bo.l)
theorem ZF (g:bM) (x:List B) (m:Nat) :uy g x (m+1)=(uy g x m&&!decide (x∈(mS g.ops.l m).bo.l)) :=by
 unfold uy;rw[Bool.eq_iff_iff,aqw,decide_eq_true_eq,decide_eq_true_eq,asq,decide_eq_false_iff_not];constructor
 ·intro h; exact⟨fun j ai=>h j (by omega),h m (by omega)⟩
 ·rintro⟨h1,ad⟩ j ai;by_cases e:j=m
  ·rw[e]; exact ad
  ·exact h1 j (by omega)
abbrev lb (g:bM) (x:List B) :Bool:=uy g x g.ops.l.length
def la (g:bM) :List (List B) :=g.ids.l.filter (lb g)
structure Wq (g:bM) (c1:am) (w:U) (seen:List Bool) (k:Nat) (ae:a2) (l:am) :Prop where
 aF:ae 1=w
 aQ:ae 2=.ptr c1.length 0 2
 eS:ae 8=.int .i64 seen.length
 hb:ae 9=.int .i64 k
 fB:∃ v,ae 5=v/\b7 32 aY (c1++[.cells 2 [aT g.ids,b1 g.ops]]) l v (i5 g.ids.l seen k) (i5 g.ids.l seen k).isEmpty
set_option maxHeartbeats 4000000 in
theorem aeV (g:bM) (au:hS g) {c1:am} {w:U} {i3:Nat} {seen:List Bool} (al:seen.length=g.ids.l.length) (hw:bG 1 c1 w i3 (seen.map hG)) (abT:i3<c1.length) {K:U->am->Prop}
  (aS:∀ v l',b7 32 aY c1 l' v (i5 g.ids.l seen seen.length) (i5 g.ids.l seen seen.length).isEmpty->K v l') :
  c2 Tryz.prog GS 132 [c3 g,w] c1 (c:=⟨K⟩) :=by
 apply bb Tryz.func132 [];have ay:cx=140737488355328:=rfl;have hz:=au.li;have eV:cL (.ar 1) w=some (.int .i64 seen.length) :=by have:=hw.len; simpa using this
 simp[c3,dB,eV];refine cE seen.length (Wq g c1 w seen) ?_ ⟨by simp,by simp,by simp,by simp,.aX,by simp,b7.nil⟩;rintro k ae l hk ⟨aF,aQ,eS,hb,v,bh,ed⟩;obtain⟨ae,rfl⟩:=lC aF aQ bh eS hb;clear aF aQ bh eS hb;have eO:l[c1.length]? = some (.cells 2 [aT g.ids,b1 g.ops]) :=by rw[ed.same _ (by simp)]; simp
 have uX:bG 1 l w i3 (seen.map hG) :=hw.wu (.inr (by rw[ed.same _ (by simp; omega),aqt abT]));by_cases cI:k<seen.length
 ·obtain⟨b,af,_⟩:=bW cI;obtain⟨x,ag,dm⟩:=bW (l:=g.ids.l) (k:=k) (by omega);have aR:IntKind.i64.wrap ((k:Int)+1)=((k+1:Nat) :Int) :=by rw[IntKind.wrap_i64]; omega
  obtain⟨p,cs,o,hP,jb,Ak,l7⟩:=uX.q.get (k:=.i64) (i:=k) (e:=hG b) (by rw[aqx,af]; rfl);have qN:cs[o]? = some (.bool b) :=by
   have ad:((cs.drop o).take 1)[0]? = (hG b)[0]?:=by rw[l7]
   rw[aqY (by omega)] at ad;simpa [hG] using ad
  have n0:cv (.ar 32) (aT g.ids) (.int .i64 (k:Int))=some (.b5 (aY x) 0) :=by simp[aT,ag]
  have w9:seen.getD k false=b:=by rw[aqD,af]; rfl
  have bB:=dk (au.ids x dm);have lg:=FZ g.ids.l seen k;have pj:=F0 g.ids.l seen k;have hQ:=XV jb;rw[w9] at pj;cases b with
  | false=>
   simp at pj;simp[cI,hP,jb,qN,hQ,aR];exact⟨by simp,by simp,by simp,by simp,v,by simp,by rw[pj]; exact ed⟩
  | true=>
   rw[if_pos rfl,gG ag] at pj;obtain⟨a8,S8,a7,acx,Ox⟩:=afw (by_:=32) (ed.more [bg.cells 32 (aY x)]) x (b:=l.length) (by simp) bB (by omega) (by omega) (by rw[ay]; omega);obtain⟨X,dy⟩:∃ X,X=aY x:=⟨_,rfl⟩
   rw[<-dy] at n0 bB a7;have mL:bn (rep 32 (.int .u8 0)) 0 X=X:=eC (by rw[bB]; rfl);simp[cI,hP,jb,qN,hQ,eO,n0,bB,mL,aqs,a7];refine dq.cr ?_;simp[cI,aR];exact⟨by simp,by simp,by simp,by simp,a8,by simp,by rw[pj,show (i5 g.ids.l seen k++[x]).isEmpty=false by simp]; exact acx⟩
 ·have n2:k=seen.length:=by omega
  subst n2;simp[cI];exact aS _ _ (ed.base (by simp) (fun b af=>aqt af))
def pW (n k:Nat) :List Bool:=(List.range n).map fun i=>decide (i<k)
theorem Zn (n k:Nat) :(pW n k).length=n:=by simp[pW]
theorem Zp (n:Nat) :pW n 0=List.replicate n false:=by
 apply arp ; intro i;unfold pW;by_cases h:i<n
 ·rw[aqx,aq1 h,List.getElem?_replicate,if_pos h]; simp
 ·rw[aqJ (by simp; omega),aqJ (by simp; omega)]
theorem Zo {n k:Nat} (h:k<n) :(pW n k).set k true=pW n (k+1) :=by
 apply arp ; intro i;unfold pW;by_cases ax:i<n
 ·by_cases e:k=i
  ·subst e;rw[aqL (by simp; omega),aqx,aq1 ax]; simp
  ·rw[aqG e,aqx,aqx,aq1 ax];simp; omega
 ·rw[aqJ (by simp; omega),aqJ (by simp; omega)]
def kE (g:bM) (q m:Nat) :List Bool:=(List.range g.ids.l.length).map fun i=>uy g (bU g.ids.l i) q&&!decide (bU g.ids.l i∈(mS g.ops.l q).bo.l.take m)
theorem Jj (g:bM) (q m:Nat) :(kE g q m).length=g.ids.l.length:=by simp[kE]
theorem aa7 (g:bM) :pW g.ids.l.length g.ids.l.length=kE g 0 0:=by
 unfold pW kE;refine arW fun i ax=>?_
 rw[aqZ] at ax;rw[decide_eq_true ax];simp[uy]
theorem aa5 (g:bM) (q:Nat) :kE g q (mS g.ops.l q).bo.l.length=kE g (q+1) 0:=by
 unfold kE;refine arW fun i ax=>?_
 rw[aq0,ZF]; simp
theorem aa6 {g:bM} (ai:mc g.ids.l) {q m i:Nat} {p:List B} (aB:(mS g.ops.l q).bo.l[m]? = some p) (ax:g.ids.l[i]? = some p) :(kE g q m).set i false=kE g q (m+1) :=by
 have fk:=(aqr.1 ax).1;apply arp ; intro t;unfold kE;have b4:(mS g.ops.l q).bo.l.take (m+1)=(mS g.ops.l q).bo.l.take m++[p] :=by rw[aqN,aB]; rfl
 by_cases aP:t<g.ids.l.length
 ·obtain⟨y,aG,_⟩:=bW aP;by_cases e:i=t
  ·subst e;rw[aqL (by simp; omega),aqx,aq1 aP,b4]; simp[ax]
  ·rw[aqG e,aqx,aqx,aq1 aP,b4];have bY:y≠p:=fun h=>e (by subst h; exact ai i t y ax aG)
   simp[aG,bY]
 ·rw[aqJ (by simp; omega),aqJ (by simp; omega)]
theorem Ts (g:bM) :∀ k,k<=g.ids.l.length->i5 g.ids.l (kE g g.ops.l.length 0) k=(g.ids.l.take k).filter (lb g)
 | 0,_=>rfl
 | k+1,hk=>by
  obtain⟨x,ag,_⟩:=bW (l:=g.ids.l) (k:=k) (by omega);have h1:(kE g g.ops.l.length 0).getD k false=lb g x:=by
   rw[aqD];unfold kE;rw[aqx,aq1 (by omega)];simp[gG ag,ag]
  rw[F0,Ts g k (by omega),h1,gG ag,aqN,ag,asI];cases h:lb g x<;>simp[h]
structure qY (g:bM) (e9 b:Nat) (S:List Bool) (l:am) :Prop where
 eO:l[0]? = some (.cells 2 [aT g.ids,b1 g.ops])
 p:me l e9 g.ids.l
 w:bG 1 l (.ar 1 b 0 g.ids.l.length g.ids.l.length g.ids.l.length) b (S.map hG)
 af:b<l.length
 hm:e9<b
 aE:0<e9
theorem qY.more {g:bM} {e9 b:Nat} {S:List Bool} {l:am} (h:qY g e9 b S l) (c:bg) :qY g e9 b S (l++[c]) :=
 ⟨by rw[aqt (by have:=h.af; omega)]; exact h.eO,h.p.frame (aqt h.p.lt),h.w.more _,by have:=h.af; simp; omega,h.hm,h.aE⟩
theorem qY.set {g:bM} {e9 b:Nat} {S:List Bool} {l:am} (h:qY g e9 b S l) {i:Nat} {v:Bool} (ax:i<S.length) :
  ∃ p l',cv (.ar 1) (.ar 1 b 0 g.ids.l.length g.ids.l.length g.ids.l.length) (.int .i64 (i:Int))=some p/\jT 1 l p (.bool v)=some l'/\qY g e9 b (S.set i v) l':=by
 obtain⟨p,l',a7,bl,a3,a4,a5⟩:=Ge (enc:=hG) (x:=v) (X:=.bool v) rfl h.w (fun _ _=>rfl) ax rfl;have h1:=h.hm;have ad:=h.aE;exact⟨p,l',a7,bl,by rw[a5 0 (by omega)]; exact h.eO,h.p.frame (a5 e9 (by omega)),a3,by rw[a4]; exact h.af,h.hm,h.aE⟩
def jV (g:bM) :eI:=if fv g=0 then i8 (la g) else none
set_option maxHeartbeats 8000000 in
theorem ajk (g:bM) (au:hS g) :bi Tryz.prog GS 85 [c3 g] (.bu [aT (jV g),.int .i64 (fv g)]) :=by
 refine bt Tryz.checked.mixed bp ?_;apply bb Tryz.func85 [];have ay:cx=140737488355328:=rfl;have er:=gC g.ids;have c7:=mr g.ops;have ab3:=au.cB;have amD:=au.li;have cz:=GZ g au;have dL:cL (.ar 11) (b1 g.ops)=some (.int .i64 g.ops.l.length) :=by simp[b1]
 have hz:cL (.ar 32) (aT g.ids)=some (.int .i64 g.ids.l.length) :=by simp[aT]
 unfold c3 dB at cz;simp[c3,dB];refine aU cz (by simp[aV,U.closed,er,c7]) ?_;by_cases aE:fv g=0
 ·have V:=tt aE;have jm:=u4 V.eB;simp[aE];refine TY g au jm ?_;intro e9 l1 k6 uN g5 qd;have eO:l1[0]? = some (bg.cells 2 [aT g.ids,b1 g.ops]) :=by rw[g5 0 (by simp)]; rfl
  obtain⟨a7,bl⟩:=CA (z:=1) (by_:=1) (n:=g.ids.l.length) (k:=.i64) (k':=.i64) (zero:=[U.bool false]) (l:=l1) rfl (by omega) (by rw[ay]; omega);obtain⟨N,eP⟩:∃ N,N=g.ids.l.length:=⟨_,rfl⟩
  simp only[arS] at a7 bl;have dr:qY g e9 l1.length (pW g.ids.l.length 0) (l1++[.cells g.ids.l.length (c4 [.bool false] g.ids.l.length)]) :=by
   have h1:l1.length ≥ 1:=by simp at qd; omega
   refine⟨by rw[aqt (by omega)]; exact eO,k6.frame (aqt k6.lt),?_,by simp,k6.lt,by simp at uN; omega⟩;rw[Zp,atd]; exact bl
  simp[eO,hz,a7];obtain⟨b,af⟩:∃ b,b=l1.length:=⟨_,rfl⟩
  rw[<-af] at dr ⊢;refine cE g.ids.l.length (fun k ae l=>ae 1=.ptr 0 0 2/\ae 5=.mp e9/\ae 6=.ar 1 b 0 g.ids.l.length g.ids.l.length g.ids.l.length/\ae 24=.int .i64 g.ids.l.length/\ae 25=.int .i64 k/\qY g e9 b (pW g.ids.l.length k) l) ?_ ⟨by simp,by simp,by simp,by simp,by simp,dr⟩;clear dr a7 bl eO g5 k6;rintro k ae l hk ⟨aF,bh,cc,lN,jB,dr⟩;obtain⟨ae,rfl⟩:=lC aF bh cc lN jB;clear aF bh cc lN jB;simp;refine lY (fun h=>?_) (fun h=>?_)
  ·simp only[decide_eq_true_eq] at h;have aR:IntKind.i64.wrap ((k:Int)+1)=((k+1:Nat) :Int) :=by rw[IntKind.wrap_i64]; omega
   obtain⟨p,l',cQ,g8,rX⟩:=dr.set (i:=k) (v:=true) (by rw[Zn]; omega);rw[Zo (by omega)] at rX;simp[cQ,g8,aR];exact⟨by omega,rX⟩
  ·have lP:k=g.ids.l.length:=by simp at h; omega
   rw[lP,aa7] at dr;have eO:=dr.eO;simp[h,eO,dL];refine cE g.ops.l.length (fun q ae l=>ae 1=.ptr 0 0 2/\ae 5=.mp e9/\ae 6=.ar 1 b 0 g.ids.l.length g.ids.l.length g.ids.l.length/\ae 33=b1 g.ops/\ae 34=.int .i64 g.ops.l.length/\ae 35=.int .i64 q/\qY g e9 b (kE g q 0) l) ?_ ⟨by simp,by simp,by simp,by simp,by simp,by simp,dr⟩;clear dr eO;rintro q ae l bm ⟨aF,bh,cc,uz,uA,Bf,dr⟩;obtain⟨ae,rfl⟩:=Af aF bh cc uz uA Bf;clear aF bh cc uz uA Bf;simp;refine lY (fun ad=>?_) (fun ad=>?_)
   ·simp only[decide_eq_true_eq] at ad;obtain⟨o,aq,ef⟩:=bW (l:=g.ops.l) (k:=q) (by omega);have uT:=au.ops o ef;have aR:IntKind.i64.wrap ((q:Int)+1)=((q+1:Nat) :Int) :=by rw[IntKind.wrap_i64]; omega
    have cg:cv (.ar 11) (b1 g.ops) (.int .i64 (q:Int))=some (.b5 (bj o) 0) :=by simp[b1,aq]
    have ds:(bj o).length=11:=rfl;have k5:∀ h,(bj o)[1]'h=aT o.bo:=fun _=>rfl
    have qe:cL (.ar 32) (aT o.bo)=some (.int .i64 o.bo.l.length) :=by simp[aT]
    obtain⟨O,fh⟩:∃ O,O=bj o:=⟨_,rfl⟩
    rw[<-fh] at cg ds k5;have oe:bn [U.int .u32 0,.aX,.int .u64 0,.int .u8 0,.str [],.int .u8 0,.int .i64 0,.int .u64 0,.str [],.int .u32 0,.int .u32 0] 0 O=O:=eC (by rw[ds]; rfl);have Gh:∀ c:bg,(l++[c])[l.length]? = some c:=fun c=>ate
    simp[cg,ds,k5,oe,qe,Gh,aqs];refine cE o.bo.l.length (fun m ae l=>ae 1=.ptr 0 0 2/\ae 5=.mp e9/\ae 6=.ar 1 b 0 g.ids.l.length g.ids.l.length g.ids.l.length/\ae 33=b1 g.ops/\ae 34=.int .i64 g.ops.l.length/\ae 35=.int .i64 q/\ae 40=aT o.bo/\ae 41=.int .i64 o.bo.l.length/\ae 42=.int .i64 m/\qY g e9 b (kE g q m) l) ?_ ⟨by simp,by simp,by simp,by simp,by simp,by simp,by simp,by simp,by simp,dr.more _⟩;clear dr Gh;rintro m ae l hm ⟨aF,bh,cc,uz,uA,Bf,P8,P9,Qa,dr⟩;obtain⟨ae,rfl⟩:=aiW aF bh cc uz uA Bf P8 P9 Qa;clear aF bh cc uz uA Bf P8 P9 Qa;simp;refine lY (fun aj=>?_) (fun aj=>?_)
    ·simp only[decide_eq_true_eq] at aj;obtain⟨p,aB,w7⟩:=bW (l:=o.bo.l) (k:=m) (by omega);have ze:=uT.ids p w7;have jp:=dk ze;have amO:=uT.len;have bI:IntKind.i64.wrap ((m:Int)+1)=((m+1:Nat) :Int) :=by rw[IntKind.wrap_i64]; omega
     obtain⟨i,ax⟩:=aqU.1 (V.K8 o ef p w7);have fk:=(aqr.1 ax).1;have kH:cv (.ar 32) (aT o.bo) (.int .i64 (m:Int))=some (.b5 (aY p) 0) :=by simp[aT,aB]
     have EL:=dr.more (.cells 32 (aY p));have i0:=EL.p.look jm ze ax;obtain⟨apl,l',cQ,g8,rX⟩:=EL.set (i:=i) (v:=false) (by rw[Jj]; omega);rw[aa6 jm (by rw[xB aq]; exact aB) ax] at rX;obtain⟨P,k6⟩:∃ P,P=aY p:=⟨_,rfl⟩
     rw[<-k6] at kH jp i0 g8;have acY:bn (rep 32 (U.int .u8 0)) 0 P=P:=eC (by rw[jp]; rfl);simp[kH,jp,acY,i0,cQ,g8,bI,aqs];exact⟨by omega,rX⟩
    ·have jo:m=o.bo.l.length:=by simp at aj; omega
     have lS:=aa5 g q;rw[xB aq] at lS;rw[jo,lS] at dr;simp[aj,aR];exact⟨by omega,dr⟩
   ·have acJ:q=g.ops.l.length:=by simp at ad; omega
    rw[acJ] at dr;have eO:=dr.eO;simp[ad,eO];have hw:=dr.w;refine aeV g au (seen:=kE g g.ops.l.length 0) (Jj _ _ _) hw dr.af (fun v l' ed=>?_);simp;have uR:i5 g.ids.l (kE g g.ops.l.length 0) (kE g g.ops.l.length 0).length=la g:=by
     rw[Jj,Ts g _ (aqv _),aq0]; rfl
    rw[uR] at ed;refine Gr ?_ (aH (by rw[aE]) rfl);exact ed.rd hX (jV g) (by unfold jV; rw[if_pos aE,xX]) (by unfold jV; rw[if_pos aE,kv])
 ·have wO:jV g=none:=by unfold jV; rw[if_neg aE]
  rw[wO];simp[aE];exact aH rfl rfl
end Op

end Go.bJ

namespace Go.Proofs
open Go.Shelf
set_option maxRecDepth 100000
def Tryz.ahS:Go.Shelf.Ren:=⟨fun | 6=>128 | 15=>184 | 14=>183 | 28=>242 | 29=>208 | 20=>234 | 21=>235 | 22=>236 | 23=>237 | 24=>238 | 25=>239 | 26=>240 | 27=>241 | 46=>262 | 47=>263 | 48=>264 | 49=>265 | 50=>266 | 57=>275 | n=>n,fun | 22=>37 | 24=>152 | 25=>205 | 3=>3 | 39=>268 | 0=>0 | 53=>45 | 55=>23 | 4=>4 | 46=>314 | 45=>313 | 50=>216 | 5=>5 | 9=>9 | 66=>335 | 70=>339 | 76=>348 | 77=>349 | n=>n,fun | n=>n⟩
theorem Tryz.ahR:Go.Proofs.SlLaysF0.n6 Tryz.prog Tryz.ahS where
 mixed:=by kernel_rfl
 f6:=⟨ "slices.SortFunc[[]braid/api.Tag,braid/api.Tag]",by decide,Tryz.func128.trans (congrArg some (by kernel_rfl))⟩
 f14:=⟨ "slices.pdqsortCmpFunc[braid/api.Tag]",by decide,Tryz.func183.trans (congrArg some (by kernel_rfl))⟩
 f15:=Tryz.func184.trans (congrArg some (by kernel_rfl))
 f20:=⟨ "slices.insertionSortCmpFunc[braid/api.Tag]",by decide,Tryz.func234.trans (congrArg some (by kernel_rfl))⟩
 f21:=⟨ "slices.heapSortCmpFunc[braid/api.Tag]",by decide,Tryz.func235.trans (congrArg some (by kernel_rfl))⟩
 f22:=⟨ "slices.breakPatternsCmpFunc[braid/api.Tag]",by decide,Tryz.func236.trans (congrArg some (by kernel_rfl))⟩
 f23:=⟨ "slices.choosePivotCmpFunc[braid/api.Tag]",by decide,Tryz.func237.trans (congrArg some (by kernel_rfl))⟩
 f24:=⟨ "slices.reverseRangeCmpFunc[braid/api.Tag]",by decide,Tryz.func238.trans (congrArg some (by kernel_rfl))⟩
 f25:=⟨ "slices.partialInsertionSortCmpFunc[braid/api.Tag]",by decide,Tryz.func239.trans (congrArg some (by kernel_rfl))⟩
 f26:=⟨ "slices.partitionEqualCmpFunc[braid/api.Tag]",by decide,Tryz.func240.trans (congrArg some (by kernel_rfl))⟩
 f27:=⟨ "slices.partitionCmpFunc[braid/api.Tag]",by decide,Tryz.func241.trans (congrArg some (by kernel_rfl))⟩
 f28:=Tryz.func242.trans (congrArg some (by kernel_rfl))
 f29:=Tryz.func208.trans (congrArg some (by kernel_rfl))
 f46:=⟨ "slices.siftDownCmpFunc[braid/api.Tag]",by decide,Tryz.func262.trans (congrArg some (by kernel_rfl))⟩
 f47:=Tryz.func263.trans (congrArg some (by kernel_rfl))
 f48:=Tryz.func264.trans (congrArg some (by kernel_rfl))
 f49:=⟨ "slices.medianAdjacentCmpFunc[braid/api.Tag]",by decide,Tryz.func265.trans (congrArg some (by kernel_rfl))⟩
 f50:=⟨ "slices.medianCmpFunc[braid/api.Tag]",by decide,Tryz.func266.trans (congrArg some (by kernel_rfl))⟩
 f57:=⟨ "slices.order2CmpFunc[braid/api.Tag]",by decide,Tryz.func275.trans (congrArg some (by kernel_rfl))⟩
 t0:=Tryz.underlying0
 a0:=Tryz.isAgg0
 z0:=Tryz.sizeOf0
 v0:=Tryz.zeroValue0
 t3:=Tryz.underlying3
 a3:=Tryz.isAgg3
 z3:=Tryz.sizeOf3
 v3:=Tryz.zeroValue3
 t4:=Tryz.underlying4
 a4:=Tryz.isAgg4
 z4:=Tryz.sizeOf4
 v4:=Tryz.zeroValue4
 t5:=Tryz.underlying5
 a5:=Tryz.isAgg5
 z5:=Tryz.sizeOf5
 v5:=Tryz.zeroValue5
 t9:=Tryz.underlying9
 a9:=Tryz.isAgg9
 z9:=Tryz.sizeOf9
 v9:=Tryz.zeroValue9
 t22:=Tryz.underlying37
 a22:=Tryz.isAgg37
 z22:=Tryz.sizeOf37
 v22:=Tryz.zeroValue37
 t25:=Tryz.underlying205
 a25:=Tryz.isAgg205
 z25:=Tryz.sizeOf205
 v25:=Tryz.zeroValue205
 t39:=Tryz.underlying268
 a39:=Tryz.isAgg268
 z39:=Tryz.sizeOf268
 v39:=Tryz.zeroValue268
 t45:=Tryz.underlying313
 a45:=Tryz.isAgg313
 z45:=Tryz.sizeOf313
 v45:=Tryz.zeroValue313
 t46:=Tryz.underlying314
 a46:=Tryz.isAgg314
 z46:=Tryz.sizeOf314
 v46:=Tryz.zeroValue314
 t50:=Tryz.underlying216
 a50:=Tryz.isAgg216
 z50:=Tryz.sizeOf216
 v50:=Tryz.zeroValue216
 t53:=Tryz.underlying45
 a53:=Tryz.isAgg45
 z53:=Tryz.sizeOf45
 v53:=Tryz.zeroValue45
 t55:=Tryz.underlying23
 a55:=Tryz.isAgg23
 z55:=Tryz.sizeOf23
 v55:=Tryz.zeroValue23
 t66:=Tryz.underlying335
 a66:=Tryz.isAgg335
 z66:=Tryz.sizeOf335
 v66:=Tryz.zeroValue335
 t70:=Tryz.underlying339
 a70:=Tryz.isAgg339
 z70:=Tryz.sizeOf339
 v70:=Tryz.zeroValue339
 t76:=Tryz.underlying348
 a76:=Tryz.isAgg348
 z76:=Tryz.sizeOf348
 v76:=Tryz.zeroValue348
 t77:=Tryz.underlying349
 a77:=Tryz.isAgg349
 z77:=Tryz.sizeOf349
 v77:=Tryz.zeroValue349
end Go.Proofs

namespace Go.bJ
open Go Go.Proofs Go.Sort Go.Shelf
set_option maxRecDepth 100000
namespace Op
open eX
abbrev tU:={t:bQ // t.id.length=32}
instance:Inhabited tU:=⟨⟨⟨[],List.replicate 32 0#8⟩,by simp⟩⟩
def A6 (x:tU) :List U:=eF x.1
def um (x y:tU) :Int:=j5 x.1 y.1
theorem tk (a b:bQ) :ltOf j5 a b=gx a b:=by
 unfold ltOf;cases h:gx a b with
 | true=>exact decide_eq_true ((H2 a b).2 h)
 | false=>exact decide_eq_false fun aM=>by rw[(H2 a b).1 aM] at h; cases h
theorem Vk:SWO (ltOf um) where
 irrefl x:=by show ltOf j5 x.1 x.1=false; rw[tk]; exact FT _
 trans x y z:=by
  show ltOf j5 x.1 y.1=true->ltOf j5 y.1 z.1=true->ltOf j5 x.1 z.1=true;rw[tk,tk,tk]; exact xp
 ntrans x y z:=by
  show ltOf j5 x.1 y.1=false->ltOf j5 y.1 z.1=false->ltOf j5 x.1 z.1=false;rw[tk,tk,tk];intro h1 ad;cases aj:gx x.1 z.1 with
  | false=>rfl
  | true=>
   by_cases aR:x.1=y.1
   ·rw[aR] at aj; rw[aj] at ad; cases ad
   ·by_cases bI:y.1=z.1
    ·rw[bI] at h1; rw[aj] at h1; cases h1
    ·have:=xp (xp aj (zG ad bI)) (zG h1 aR);rw[FT] at this; cases this
theorem WX (x y:tU) (h1:ltOf um x y=false) (ad:ltOf um y x=false) :x=y:=by
 have dK:ltOf j5 x.1 y.1=false:=h1;have gD:ltOf j5 y.1 x.1=false:=ad;rw[tk] at dK gD;by_cases e:x.1=y.1
 ·exact Subtype.ext e
 ·rw[zG dK e] at gD; cases gD
theorem Pv (x:tU) :(A6 x).length=33:=yF x.2
theorem YU (x:tU) :∀ c∈A6 x,zU c=true:=fun c ah=>by
 rcases arI.1 ah with h | h
 ·rw[h]; rfl
 ·obtain⟨b,_,rfl⟩:=aqR.1 h; rfl
theorem ahP {g:Nat} (YS:∀ args w,(callFunc g args).run Tryz.prog w=.ok (.enter g args) w) :Hl Tryz.prog 128 g 33 (fun x=>(A6 x).map valOf) um:=
 fun blk off cap d w sT hH hblk gF=>
  AnyQ.slices_SortFunc Tryz.ahR 33 (by intro w; exact Tryz.isAgg152 w) (by intro w; exact Tryz.sizeOf152 w) _ (fun x=>by rw[aqS,Pv]) (fun x v ao=>by obtain⟨c,_,rfl⟩:=aqR.1 ao; exact ME c) um Vk g #[] blk off cap d w YS sT hH hblk gF
def kP (l:List bQ) :List bQ:=l.mergeSort fun x y=>!gx y x
theorem Vq:∀ {xs:List bQ},rL xs->∃ a1:List tU,a1.map (·.1)=xs
 | [],_=>⟨[],rfl⟩
 | x::xs,h=>by
  obtain⟨a1,aG⟩:=Vq (xs:=xs) fun i ax=>h i (by simp[ax])
  exact⟨⟨x,h x (by simp)⟩::a1,by simp[aG]⟩
theorem ahV (a1:List tU) :(sorted um a1).map (·.1)=kP (a1.map (·.1)) :=by
 unfold sorted kP;rw[List.map_mergeSort];intro a _ b _;show (!ltOf j5 b.1 a.1)=(!gx b.1 a.1)
 rw[tk]
theorem agh {z:Nat} {l l' : am} {v:U} {j:Nat} {es c9:List (List U)} (h:bG z l v j es) (h' : eJ z l' v j c9) :bG z l' v j c9:=by
 cases h with
 | nil j=>have:=h'.vn; subst this; exact .nil j
 | ar j n cap sz cs es af ak aD av ah cM cp=>
  generalize ao:U.ar z j 0 n cap sz=w at h';cases h' with
  | nil=>cases ao
  | ar adY api pn akZ ap3 hq yG fI fC qg jq iY amm aa4=>
   injection ao with _ aR bI dJ kB Ie
   subst bI dJ kB Ie;exact .ar j n cap sz hq _ fI fC qg jq iY (by omega) (by simpa using aa4)
theorem W7 (n:Q) :bi Tryz.prog GS 184 [cD n] (.int .i64 (i4 n.toNat)) :=by
 refine bt Tryz.checked.mixed bp ?_;apply bb Tryz.func184 [];have h:=Tc n;simp;refine aU h rfl ?_;simp;exact aH rfl rfl
theorem aiv (f:U) (aA:f.closed=true) :bi Tryz.prog GS 234 [.aX,.int .i64 0,.int .i64 0,f] (.bu []) :=by
 refine bt Tryz.checked.mixed bp ?_;apply bb Tryz.func234 [];have bS:IntKind.i64.wrap 1=1:=by decide
 simp;refine cE 0 (fun _ ae l=>ae 2=.int .i64 0/\ae 8=.int .i64 1) ?_ ⟨by simp,by simp[bS]⟩;rintro k ae l hk ⟨aQ,eS⟩;simp[aQ,eS];exact aH rfl rfl
theorem aiy (n:Int) (f:U) (aA:f.closed=true) :bi Tryz.prog GS 183 [.aX,.int .i64 0,.int .i64 0,.int .i64 n,f] (.bu []) :=by
 refine bt Tryz.checked.mixed bp ?_;apply bb Tryz.func183 [];have h:=aiv f aA;have l6:IntKind.i64.wrap 0=0:=by decide
 simp;refine cE 0 (fun _ ae l=>ae 0=.aX/\ae 1=.int .i64 0/\ae 2=.int .i64 0/\ae 4=f) ?_ ⟨by simp,by simp,by simp,by simp⟩;rintro k ae l hk ⟨b9,aF,aQ,bd⟩;simp[b9,aF,aQ,bd,l6];refine aU h (by simp[aV,U.closed,aA]) ?_;simp;exact aH rfl rfl
theorem aiF:bi Tryz.prog GS 128 [.aX,.fn 129 [] []] (.bu []) :=by
 refine bt Tryz.checked.mixed bp ?_;apply bb Tryz.func128 [];have h:=W7 0;have ad:=aiy (i4 (0:Q).toNat) (.fn 129 [] []) rfl;simp;refine aU h rfl ?_;simp;refine aU ad rfl ?_;simp;exact aH rfl rfl
theorem aiE {l:am} {v:U} {j:Nat} {xs:List bQ} (ag:rL xs) (ak:xs.length<=1000000) (aD:cq v=xs.isEmpty) (h:bG 33 l v j (xs.map eF)) {K:U->am->Prop}
  (aS:∀ l',l'.length=l.length->(∀ b,v=.aX\/b≠j->l'[b]? = l[b]?)->bG 33 l' v j ((kP xs).map eF)->K (.bu []) l') :c2 Tryz.prog GS 128 [v,.fn 129 [] []] l (c:=⟨K⟩) :=by
 by_cases hd:xs=[]
 ·subst hd;have zo:v=.aX:=iK.1 (by rw[aD]; rfl);subst zo;exact aU aiF rfl (aS l rfl (fun _ _=>rfl) (by simpa [kP] using bG.nil j))
 ·obtain⟨a1,aG⟩:=Vq ag;have ap:a1.map A6=xs.map eF:=by rw[<-aG,asv]; rfl
  have al:(sorted um a1).map A6=(kP xs).map eF:=by rw[<-aG,<-ahV,asv]; rfl
  have df:a1.length=xs.length:=by rw[<-aG]; simp
  have zo:v≠.aX:=fun ao=>by subst ao; rw[show cq .aX=true from rfl] at aD; exact hd (by simpa using aD.symm)
  rw[<-ap] at h;exact ahQ um (ahP (by intro args w; exact enters_of Tryz.func129 (by kernel_rfl) rfl args w)) Vk WX Pv YU (fun x y=>O9 x.1 y.1 x.2 y.2) h.q (by omega) (fun s1=>absurd (by rw[<-aG,s1]; rfl) hd)
   (fun l' h1 ad aj=>aS l' h1 (fun b af=>ad b (af.resolve_left zo)) (by rw[<-al]; exact agh h aj))
theorem U5 (l:List bQ) (y:bQ) :y∈kP l<->y∈l:=by unfold kP; exact List.mem_mergeSort
theorem U4 (l:List bQ) :(kP l).length=l.length:=by unfold kP; exact List.length_mergeSort l
theorem ahT {l:List bQ} (aD:l.Nodup) :(kP l).Pairwise fun a b=>gx a b=true:=by
 have h1:(kP l).Pairwise fun a b=>(!gx b a)=true:=by
  unfold kP;refine List.pairwise_mergeSort (fun a b c h1 ad=>?_) (fun a b=>?_) l
  ·simp only[asq] at *
   cases aj:gx c a with
   | false=>rfl
   | true=>
    by_cases aR:b=c
    ·rw[aR] at h1; rw[aj] at h1; cases h1
    ·by_cases bI:a=b
     ·rw[bI] at aj; rw[aj] at ad; cases ad
     ·have:=xp (xp aj (zG h1 (Ne.symm bI))) (zG ad (Ne.symm aR));rw[FT] at this; cases this
  ·cases h:gx b a with
   | false=>rfl
   | true=>
    cases ad:gx a b with
    | false=>rfl
    | true=>have:=xp h ad; rw[FT] at this; cases this
 have ad:(kP l).Nodup:=(List.mergeSort_perm l _).nodup_iff.2 aD;refine (h1.and ad).imp fun {a b} h=>?_
 have aj:gx b a=false:=by simpa using h.1
 exact zG aj (Ne.symm h.2)
end Op

end Go.bJ

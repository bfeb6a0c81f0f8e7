/-
  Ids, sorted by Go's library.
-/
import Derived.Test.YtobphgccoalchaaGreatDoorUk
set_option linter.unusedVariables false
set_option linter.unusedSimpArgs false
set_option linter.unnecessarySimpa false
namespace Go.cb
open Go Go.Proofs Go.Sort Go.Shelf
set_option maxRecDepth 100000
open gT
abbrev vV:={l:List B // l.length=32}
instance:Inhabited vV:=⟨⟨List.replicate 32 0#8,by simp⟩⟩
def Ay (x:vV) :List U:=x.1.map bF
def ww (x y:vV) :Int:=cj x.1 y.1
theorem ZY:SWO (ltOf ww) where
 irrefl x:=Pe.irrefl x.1
 trans x y z:=Pe.trans x.1 y.1 z.1
 ntrans x y z:=Pe.ntrans x.1 y.1 z.1
theorem abL (x y:vV) (h1:ltOf ww x y=false) (ad:ltOf ww y x=false) :x=y:=Subtype.ext (abM x.1 y.1 h1 ad)
theorem Tq (x:vV) :(Ay x).length=32:=by unfold Ay; rw[av8,x.2]
theorem adC (x:vV) :∀ c∈Ay x,zB c=true:=fun c ah=>by obtain⟨b,_,rfl⟩:=awf.1 ah; rfl
theorem am1 {g:Nat} (KA:∀ args w,(callFunc g args).run Tryz.prog w=.ok (.enter g args) w) :FE Tryz.prog 99 g 32 (fun x=>(Ay x).map valOf) ww:=
 fun blk off cap d w rP hH hblk hh=>
  AnyQ.slices_SortFunc Tryz.am0 32 (by intro w; exact Tryz.isAgg48 w) (by intro w; exact Tryz.sizeOf48 w) _ (fun x=>by rw[av8,Tq]) (fun x v au=>by obtain⟨c,_,rfl⟩:=awf.1 au; exact Jj c) ww ZY g #[] blk off cap d w KA rP hH hblk hh
end Go.cb

namespace Go.cb
open Go Go.Proofs
set_option maxRecDepth 100000
namespace Op
open gT
structure b4 where
 key:List UInt8
 val:hY
 c4:Q
 id:List B
instance:DecidableEq hY:=fun a b=>decidable_of_iff (a.kind=b.kind/\a.num=b.num/\a.bits=b.bits/\a.text=b.text) (by cases a; cases b; simp)
instance:DecidableEq b4:=fun a b=>decidable_of_iff (a.key=b.key/\a.val=b.val/\a.c4=b.c4/\a.id=b.id) (by cases a; cases b; simp)
def cA (r:b4) :List U:=.str r.key::bF r.val.kind::.int .i64 r.val.num::dq r.val.bits::.str r.val.text::dq r.c4::aO r.id
abbrev hG:=cQ b4
def eC (s:hG) :U:=cB 38 cA s
structure Cl (r:b4) :Prop where
 id:r.id.length=32
 val:EI r.val
def iz (l:List b4) :Prop:=∀ r∈l,Cl r
theorem na {r:b4} (h:r.id.length=32) :(cA r).length=38:=by simp[cA,cC h]
theorem wr (r:b4) :bd (cA r)=true:=by simp[cA,bd,U.closed,e4]
theorem wq (s:hG) :(eC s).closed=true:=ws wr s
def mq (l:List b4) (k:Nat) :b4:=l.getD k ⟨[],pd,0,[]⟩
theorem nB {l:List b4} {k:Nat} {x:b4} (h:l[k]? = some x) :mq l k=x:=by
 unfold mq; rw[awe,h]; rfl
def BX (x:Q) :Bool:=decide (x.toNat<=1000000000000)
def jr (r:b4) :Bool:=gM r.key&&(jX r.val&&BX r.c4)
def qr (l:List b4) (k:Nat) :Bool:=jr (mq l k)&&(decide (k=0)||fv (mq l (k - 1)).key (mq l k).key)
def lV (l:List b4) :Bool:=decide (∀ k,k<l.length->qr l k=true)
def lK (l:List b4) :Int:=if 60<l.length then 4 else if lV l then 0 else 8
theorem K1 {l:List b4} (h:∀ k,k<l.length->qr l k=true) :lV l=true:=decide_eq_true h
theorem wK {l:List b4} {k:Nat} (hk:k<l.length) (h:qr l k=false) :lV l=false:=decide_eq_false fun aG=>by rw[aG k hk] at h; cases h
theorem O0 {E:List U} (h:E.length=38) :bt (U.str [] ::.int .u8 0::.int .i64 0::.int .u64 0::.str [] ::.int .u64 0::rep 32 (.int .u8 0)) 0 E=E:=eM (by rw[h]; rfl)
theorem Tl (x:Q) :((1000000000000:Int)<u x)<->BX x=false:=by
 unfold BX u;rw[decide_eq_false_iff_not];omega
theorem OQ (a b:List UInt8) :fv a b=false<->¬ a<b:=by
 rw[<-tY]; simp
set_option maxHeartbeats 4000000 in
theorem aaA (s:hG) (ap:iz s.l) (al:s.l.length<=1000000) :bz Tryz.prog GS 59 [.aH [eC s]] (.int .i64 (lK s.l)) :=by
 refine bL Tryz.checked.mixed bE ?_;apply bp Tryz.func59 [];unfold lK;have bn:cK (.ar 38) (eC s)=some (.int .i64 s.l.length) :=by simp[eC]
 by_cases h1:60<s.l.length
 ·have dg:(60:Int)<(s.l.length:Int) :=by omega
  simp[bn,dg];exact aL (by rw[if_pos h1]) rfl
 ·have dg:¬ (60:Int)<(s.l.length:Int) :=by omega
  simp[bn,dg];refine cI s.l.length (fun k ae l=>(∃ r,l=.cells 1 [eC s] ::r)/\ae 1=.ptr 0 0 1/\ae 10=eC s/\ae 11=.int .i64 s.l.length/\ae 12=.int .i64 k/\∀ j,j<k->qr s.l j=true) ?_ (by simp);rintro k ae l hk ⟨⟨r,rfl⟩,aP,fI,ip,gX,ak⟩;obtain⟨ae,rfl⟩:=i0 aP fI ip gX;clear aP fI ip gX;simp;refine jo (fun h=>?_) (fun h=>?_)
  ·simp only[decide_eq_true_eq] at h;obtain⟨y,ax,cr⟩:=bx (l:=s.l) (k:=k) (by omega);have cg:=na (ap y cr).id;have aR:IntKind.i64.wrap ((k:Int)+1)=((k+1:Nat) :Int) :=by rw[IntKind.wrap_i64]; omega
   have uZ:=Kj ⟨2#8,y.key,pd⟩;rw[P0] at uZ;have iV:=Pw y.val;have ek:qr s.l k=(jr y&&(decide (k=0)||fv (mq s.l (k - 1)).key y.key)) :=by unfold qr; rw[nB ax]
   have bN:ck (.ar 38) (eC s) (.int .i64 (k:Int))=some (.b3 (cA y) 0) :=by simp[eC,ax]
   have jg:=O0 cg;have bM:(cA y).take 38=cA y:=avO (by omega);have qt:∀ h,(cA y)[0]'h=.str y.key:=fun _=>rfl
   have uW:∀ h,(cA y)[5]'h=dq y.c4:=fun _=>rfl
   have yz:((cA y).tail).take 4=eb y.val:=rfl;have l0:=Tl y.c4;have jc:bd (eb y.val)=true:=by simp[eb,bd,U.closed]
   obtain⟨R,gA⟩:∃ R,R=cA y:=⟨_,rfl⟩
   obtain⟨abt,Ls⟩:∃ V,V=eb y.val:=⟨_,rfl⟩
   rw[<-gA] at cg bN jg bM qt uW yz;rw[<-Ls] at iV yz jc;simp[bN,cg,jg,bM,qt];refine a6 uZ rfl ?_;cases aX:gM y.key with
   | false=>
    have:jr y=false:=by unfold jr; rw[aX]; rfl
    rw[this,awR] at ek;simp[gI];exact aL (by rw[if_neg h1,wK h ek]; rfl) rfl
   | true=>
    simp[gI,cg,yz];refine a6 iV (by simp[bd,U.closed,jc]) ?_;cases bw:jX y.val with
    | false=>
     have:jr y=false:=by unfold jr; rw[aX,bw]; rfl
     rw[this,awR] at ek;simp[gI];exact aL (by rw[if_neg h1,wK h ek]; rfl) rfl
    | true=>
     cases c5:BX y.c4 with
     | false=>
      have:jr y=false:=by unfold jr; rw[aX,bw,c5]; rfl
      rw[this,awR] at ek;have n0:=l0.2 c5;simp[gI,cg,uW,n0];exact aL (by rw[if_neg h1,wK h ek]; rfl) rfl
     | true=>
      have n0:¬ (1000000000000:Int)<u y.c4:=fun h=>by rw[l0.1 h] at c5; cases c5
      have:jr y=true:=by unfold jr; rw[aX,bw,c5]; rfl
      rw[this,awL] at ek;rcases k with _ | k
      ·simp[gI,cg,uW,n0,aR];exact⟨by omega,by rw[IntKind.wrap_i64]; omega,by rw[ek]; rfl⟩
      ·obtain⟨x,af,cE⟩:=bx (l:=s.l) (k:=k) (by omega);have fJ:ck (.ar 38) (eC s) (.int .i64 (k:Int))=some (.b3 (cA x) 0) :=by simp[eC,af]
       have Dw:(cA x)[0]? = some (.str x.key) :=rfl;obtain⟨abu,Lu⟩:∃ X,X=cA x:=⟨_,rfl⟩
       rw[<-Lu] at fJ Dw;have dF:IntKind.i64.wrap (k:Int)=(k:Int) :=by rw[IntKind.wrap_i64]; omega
       have jL:(0:Int)<(k:Int)+1:=by omega
       simp only[axz,nB af,ax7,ayv,and_false,decide_false,ax5] at ek;simp[gI,cg,uW,n0,jL,dF,fJ,Dw,qt];have LF:pn .geq x.key y.key=some (.bool (!fv x.key y.key)) :=rfl;rw[LF];cases dZ:fv x.key y.key with
       | true=>
        rw[dZ] at ek;simp[aR];refine⟨by omega,by rw[IntKind.wrap_i64]; omega,fun j ai=>?_⟩;by_cases gc:j=k+1
        ·rw[gc,ek]
        ·exact ak j (by omega)
       | false=>
        rw[dZ] at ek;simp;exact aL (by rw[if_neg h1,wK h ek]; rfl) rfl
  ·simp[h];have h4:k=s.l.length:=by simp at h; omega
   exact aL (by rw[if_neg h1,if_pos (K1 fun j ai=>ak j (by omega))]) rfl
def CP (a b:Q) :Int:=if a.toNat<b.toNat then -1 else if b.toNat<a.toNat then 1 else 0
theorem XK (a:Q) :bz Tryz.prog GS 234 [dq a] (.bool false) :=by
 refine bL Tryz.checked.mixed bE ?_;apply bp Tryz.func234 [];simp;exact aL rfl rfl
theorem ac1 (a b:Q) :bz Tryz.prog GS 193 [dq a,dq b] (.int .i64 (CP a b)) :=by
 refine bL Tryz.checked.mixed bE ?_;apply bp Tryz.func193 [];unfold CP;simp;refine a6 (XK a) rfl ?_;simp;refine a6 (XK b) rfl ?_;by_cases h1:a.toNat<b.toNat
 ·simp[h1,dq,u];exact aL rfl rfl
 ·by_cases ad:b.toNat<a.toNat
  ·simp[h1,ad,dq,u];exact aL rfl rfl
  ·simp[h1,ad,dq,u];exact aL rfl rfl
def o4 (s:Q) (x:List B) (t:Q) (y:List B) :Bool:=decide (t.toNat<s.toNat)||(decide (s=t)&&decide (0<cj x y))
theorem ajG (s:Q) (x:List B) (t:Q) (y:List B) :(0<xw (CP s t) (cj x y))<->o4 s x t y=true:=by
 unfold xw CP o4;by_cases h1:s.toNat<t.toNat
 ·have ad:s≠t:=fun h=>by rw[h] at h1; omega
  simp[h1,ad]; omega
 ·by_cases ad:t.toNat<s.toNat
  ·simp[h1,ad]
  ·have aj:s=t:=av6 (by omega);simp[aj]
theorem X3 {l:am} {j:Nat} {r:b4} (aA:r.id.length=32) (ai:l[j]? = some (.cells 38 (cA r))) :eA 1 l (.ar 1 j 6 32 32 38) j (r.id.map ch) :=by
 refine .ar j 6 32 32 38 (cA r) _ ai (na aA) (by simp[aA]) (fun e ao=>?_) (avR _) (by omega) ?_
 ·obtain⟨x,_,rfl⟩:=awf.1 ao; rfl
 ·simp only[cA,ayy,aw2];rw[avO (by simp[aO,aA]),yk]; rfl
theorem aoM (a b:b4) (aA:a.id.length=32) (ag:b.id.length=32) :bz Tryz.prog GS 139 [.aH (cA a),.aH (cA b)] (.bool (o4 a.c4 a.id b.c4 b.id)) :=by
 refine bL Tryz.checked.mixed bE ?_;apply bp Tryz.func139 [[[0],[1],[2],[3],[5],[6],[7],[8],[4]]];have h1:=na aA;have ad:=na ag;have aj:=cC aA;have aE:=cC ag;have aeX:∀ h,(cA a)[5]'h=dq a.c4:=fun _=>rfl
 have ae6:∀ h,(cA b)[5]'h=dq b.c4:=fun _=>rfl
 simp[h1,ad,aeX,ae6];refine a6 (ac1 _ _) rfl ?_;have ah:=FP (some a.id) (some b.id) (by simp[aA,ag]);simp;refine iB ah ?_ rfl ?_
 ·exact .cons ((X3 (j:=0) (r:=a) aA rfl).nA (fun _=>rfl) (some a.id) rfl rfl) (.cons ((X3 (j:=1) (r:=b) ag rfl).nA (fun _=>rfl) (some b.id) rfl rfl) .nil)
 ·simp;refine iB (XZ (CP a.c4 b.c4) (cj a.id b.id)) (.cons (YS (by simp)) .nil) rfl ?_;have al:=ajG a.c4 a.id b.c4 b.id;simp;refine aL (congrArg U.bool ?_) rfl;rw[ayw,decide_eq_true_eq]; exact al
def Np:List mx:=.s::.i .u8::.i .i64::.i .u64::.s::.i .u64::List.replicate 32 (.i .u8)
theorem ajw:r7 Tryz.prog 20 50=some Np:=by kernel_rfl
theorem XR {r:b4} (h:r.id.length=32) :ib Np (cA r)=true:=by
 unfold Np cA;have:=zx r.id;rw[h] at this;simp only[ib,Fl,awL];exact this
theorem ab4 {a b:b4} (aA:a.id.length=32) (ag:b.id.length=32) :fD (cA a) (cA b)=decide (a=b) :=by
 unfold cA aO;simp only[fD,U.beq];rw[Cw a.id b.id (by omega)];obtain⟨ce,⟨fk,mj,de,t1⟩,dR,ev⟩:=a;obtain⟨bP,⟨dS,o5,df,t2⟩,hl,e9⟩:=b;simp only[b4.mk.injEq,hY.mk.injEq];by_cases h1:ce=bP<;>by_cases ad:fk=dS<;>by_cases aj:mj=o5<;>by_cases aE:de=df<;>by_cases aX:t1=t2<;>by_cases bw:dR=hl<;>by_cases c5:ev=e9<;>simp[h1,ad,aj,aE,aX,bw,c5]
theorem alz {a b:b4} (aA:a.id.length=32) (ag:b.id.length=32) :gH Tryz.prog .neq 50 (.aH (cA a)) (.aH (cA b))=some (.bool (!decide (a=b))) :=by
 rw[FT ajw (by kernel_rfl) (by kernel_rfl) (XR aA) (XR ag),ab4 aA ag]
theorem amC (a b:hG) (aA:iz a.l) (ag:iz b.l) (al:a.l.length<=1000000) :bz Tryz.prog GS 57 [.aH [eC a],.aH [eC b]] (.bool (decide (a.l=b.l))) :=by
 refine bL Tryz.checked.mixed bE ?_;apply bp Tryz.func57 [];have mO:cK (.ar 38) (eC a)=some (.int .i64 a.l.length) :=by simp[eC]
 have oW:cK (.ar 38) (eC b)=some (.int .i64 b.l.length) :=by simp[eC]
 by_cases h1:a.l.length=b.l.length
 ·have dg:((a.l.length:Int)=b.l.length) :=by omega
  simp[mO,oW,h1];refine cI a.l.length (fun k ae l=>l=[.cells 1 [eC a],.cells 1 [eC b]]/\ae 2=.ptr 0 0 1/\ae 3=.ptr 1 0 1/\ae 5=.int .i64 k/\∀ j,j<k->a.l[j]? = b.l[j]?) ?_ (by simp);rintro k ae l hk ⟨rfl,aU,a8,bi,ak⟩;obtain⟨s,rfl⟩:=kj aU a8 bi;clear aU a8 bi;simp[mO];refine jo (fun h=>?_) (fun h=>?_)
  ·simp only[decide_eq_true_eq] at h;obtain⟨x,af,cE⟩:=bx h;obtain⟨y,ax,cr⟩:=bx (l:=b.l) (k:=k) (by omega);have aR:IntKind.i64.wrap ((k:Int)+1)=((k+1:Nat) :Int) :=by rw[IntKind.wrap_i64]; omega
   have bN:ck (.ar 38) (eC a) (.int .i64 (k:Int))=some (.b3 (cA x) 0) :=by simp[eC,af]
   have lv:ck (.ar 38) (eC b) (.int .i64 (k:Int))=some (.b3 (cA y) 0) :=by simp[eC,ax]
   have bf:=na (aA x cE).id;have cg:=na (ag y cr).id;have bI:=alz (aA x cE).id (ag y cr).id;obtain⟨X,cv⟩:∃ X,X=cA x:=⟨_,rfl⟩
   obtain⟨Y,eD⟩:∃ Y,Y=cA y:=⟨_,rfl⟩
   rw[<-cv] at bN bf bI;rw[<-eD] at lv cg bI;simp[bN,lv,bf,cg,avO,bI];by_cases ao:x=y
   ·simp[ao,aR];refine⟨by omega,fun j ai=>?_⟩;by_cases gc:j=k
    ·subst gc; rw[af,ax,ao]
    ·exact ak j (by omega)
   ·simp[ao];refine aL (congrArg U.bool (decide_eq_false fun fo=>ao ?_).symm) rfl;rw[fo,ax] at af; exact (Option.some.inj af).symm
  ·simp[h];have h4:k=a.l.length:=by simp at h; omega
   refine aL (congrArg U.bool (decide_eq_true ?_).symm) rfl;apply awM;intro j;by_cases ai:j<a.l.length
   ·exact ak j (by omega)
   ·rw[av5 (by omega),av5 (by omega)]
 ·have dg:¬ ((a.l.length:Int)=b.l.length) :=by omega
  simp[mO,oW,h1,dg];exact aL (by rw[decide_eq_false (fun fo=>h1 (by rw[fo]))]) rfl
theorem ajs (r:b4) (h:r.id.length=32) :bz Tryz.prog GS 93 [.aH (cA r)] (.str r.key) :=by
 refine bL Tryz.checked.mixed bE ?_;apply bp Tryz.func93 [];have h1:=na h;have qt:∀ h,(cA r)[0]'h=.str r.key:=fun _=>rfl
 obtain⟨R,gA⟩:∃ R,R=cA r:=⟨_,rfl⟩
 rw[<-gA] at h1 qt ⊢;simp[h1,qt];exact aL rfl rfl
theorem aef:hQ Tryz.prog 93=true:=by kernel_rfl
theorem TT:hQ Tryz.prog 143=true:=by kernel_rfl
theorem TG (r:b4) (h:r.id.length=32) (k:List UInt8) {b:Nat} {l:am} (ag:l[b]? = some (.cells 1 [.fn 93 [] []])) {K:U->am->Prop} (aY:K (.int .i64 (qj r.key k)) (l++[.cells 38 (cA r)])) :
  c7 Tryz.prog GS 143 [.aH (cA r),.str k,.ptr b 0 1] l (c:=⟨K⟩) :=by
 apply bp Tryz.func143 [];have h1:=na h;have VH:=ajs r h;have lX:=wr r;obtain⟨R,gA⟩:∃ R,R=cA r:=⟨_,rfl⟩
 rw[<-gA] at h1 VH lX aY ⊢;have eU:b<l.length:=(avP.1 ag).1;have gb:(l++[a7.cells 38 R])[b]? = some (.cells 1 [.fn 93 [] []]) :=by rw[avQ eU]; exact ag
 simp[h1,gb,avO];refine⟨aef,a6 VH (by simp[bd,U.closed,lX]) ?_⟩;simp;refine a6 (S2 _ _) rfl ?_;simpa using aY
def eY (l:List b4) (x:List UInt8) :Nat:=(l.takeWhile fun t=>fv t.key x).length
theorem S6 (x:List UInt8) :∀ {l:List b4} {p:Nat},p<=l.length->(∀ (t:Nat) (y:b4),t<p->l[t]? = some y->fv y.key x=true)->(∀ y,l[p]? = some y->fv y.key x=false)->eY l x=p
 | [],p,ay,_,_=>by simp at ay; subst ay; rfl
 | y::l,0,_,_,ad=>by
  have:=ad y rfl;unfold eY;rw[aw7,this]; rfl
 | y::l,p+1,ay,h1,ad=>by
  have:=h1 0 y (by omega) rfl;have aJ:=S6 x (l:=l) (p:=p) (by simpa using ay) (fun t z aI aw=>h1 (t+1) z (by omega) (by simpa using aw)) (fun z aw=>ad z (by simpa using aw));unfold eY at *
  rw[aw7,this];simp[aJ]
def jb (l:List b4) (x:List UInt8) :Bool:=decide (eY l x<l.length)&&decide ((mq l (eY l x)).key=x)
def Im (l:List b4) (x:List UInt8) :Prop:=∀ (i j:Nat) (a b:b4),i<=j->l[i]? = some a->l[j]? = some b->fv b.key x=true->fv a.key x=true
theorem ac0 (a b:List UInt8) :(qj a b<0)<->fv a b=true:=by
 unfold qj;by_cases h:fv a b=true
 ·simp[h]
 ·rw[if_neg h];simp[h];split<;>omega
structure aaV (s:hG) (x:List UInt8) (m:Nat) (ae:bg) (l:am) :Prop where
 ex:∃ (i j:Nat) (r:am),j - i=m/\i<=j/\j<=s.l.length/\l=.cells 1 [.fn 93 [] []] ::r/\ae 0=eC s/\ae 1=.str x/\ae 2=.fn 143 [] [.ptr 0 0 1]/\ae 8=.int .i64 s.l.length/\ae 9=.int .i64 i/\ae 10=.int .i64 j ∧
  (∀ (t:Nat) (y:b4),t<i->s.l[t]? = some y->fv y.key x=true)/\(∀ (t:Nat) (y:b4),j<=t->s.l[t]? = some y->fv y.key x=false)
theorem amI (s:hG) (ap:iz s.l) (al:s.l.length<=1000000) (x:List UInt8) (hm:Im s.l x) {K:U->am->Prop} (aY:∀ l',K (.bG [.int .i64 (eY s.l x),.bool (jb s.l x)]) l') :
  c7 Tryz.prog GS 142 [eC s,.str x,.fn 143 [] [.ptr 0 0 1]] [.cells 1 [.fn 93 [] []]] (c:=⟨K⟩) :=by
 apply bp Tryz.func142 [];have bn:cK (.ar 38) (eC s)=some (.int .i64 s.l.length) :=by simp[eC]
 simp[bn];refine vr (aaV s x) ?_ s.l.length _ _ ⟨0,s.l.length,[],by omega,by omega,by omega,rfl,by simp,by simp,by simp,by simp,by simp,by simp,fun t y h=>by omega,fun t y h ad=>by rw[av5 h] at ad; cases ad⟩;rintro m ae l ⟨i,j,r,go,hu,e7,rfl,cf,aP,aU,dj,gJ,fI,h1,ad⟩;obtain⟨ae,rfl⟩:=vP cf aP aU dj gJ fI;clear cf aP aU dj gJ fI;by_cases aM:i<j
 ·obtain⟨h,aG⟩:∃ h,h=(i+j) / 2:=⟨_,rfl⟩
  have b2:IntKind.i64.wrap ((i:Int)+j)=((i+j:Nat) :Int) :=by rw[IntKind.wrap_i64]; omega
  have w2:IntKind.u64.wrap ((i+j:Nat) :Int)=((i+j:Nat) :Int) :=by rw[vR,axh]; unfold u; rw[awc,av4 (by omega)]
  have eh:=Zv (i+j) (by omega);have oH:IntKind.i64.wrap (h:Int)=(h:Int) :=by rw[IntKind.wrap_i64]; omega
  have rj:IntKind.i64.wrap ((h:Int)+1)=((h+1:Nat) :Int) :=by rw[IntKind.wrap_i64]; omega
  rw[<-aG] at eh;obtain⟨y,ax,cr⟩:=bx (l:=s.l) (k:=h) (by omega);have cg:=na (ap y cr).id;have bN:ck (.ar 38) (eC s) (.int .i64 (h:Int))=some (.b3 (cA y) 0) :=by simp[eC,ax]
  have qx:=ac0 y.key x;have yM:=fun (K:U->am->Prop)=>TG y (ap y cr).id x (b:=0) (l:=.cells 1 [.fn 93 [] []] ::r) (K:=K) rfl
  obtain⟨Y,eD⟩:∃ Y,Y=cA y:=⟨_,rfl⟩
  rw[<-eD] at cg bN yM;obtain⟨N,fy⟩:∃ N,N=i+j:=⟨_,rfl⟩
  rw[<-fy] at b2 w2 eh;simp[aM,b2,w2,eh,oH,bN,cg,avO];refine⟨TT,yM _ ?_⟩;by_cases bw:qj y.key x<0
  ·simp[bw,rj];refine⟨j - (h+1),by omega,h+1,j,_,rfl,by omega,by omega,rfl,by simp,by simp,by simp,by simp,by simp,by simp,fun t z aI aw=>?_,ad⟩;exact hm t h z y (by omega) aw ax (qx.1 bw)
  ·simp[bw];refine⟨h - i,by omega,i,h,_,rfl,by omega,by omega,rfl,by simp,by simp,by simp,by simp,by simp,by simp,h1,fun t z aI aw=>?_⟩;cases c5:fv z.key x with
   | false=>rfl
   | true=>exact absurd (qx.2 (hm h t y z aI ax aw c5)) bw
 ·obtain rfl:i=j:=by omega
  have ah:=S6 x (l:=s.l) (p:=i) e7 h1 (fun y ax=>ad i y (avR _) ax);by_cases c3:i<s.l.length
  ·obtain⟨y,ax,cr⟩:=bx (l:=s.l) (k:=i) c3;have cg:=na (ap y cr).id;have bN:ck (.ar 38) (eC s) (.int .i64 (i:Int))=some (.b3 (cA y) 0) :=by simp[eC,ax]
   have DC:=S3 y.key x;have yM:=fun (K:U->am->Prop)=>TG y (ap y cr).id x (b:=0) (l:=.cells 1 [.fn 93 [] []] ::r) (K:=K) rfl
   obtain⟨Y,eD⟩:∃ Y,Y=cA y:=⟨_,rfl⟩
   rw[<-eD] at cg bN yM;simp[c3,bN,cg,avO];refine⟨TT,yM _ ?_⟩;simp;have:jb s.l x=decide (qj y.key x=0) :=by
    unfold jb;rw[ah,nB ax,decide_eq_true c3,awL,decide_eq_decide];exact DC.symm
   rw[<-ah,<-this];exact aY _
  ·simp[c3];have:jb s.l x=false:=by
    unfold jb;rw[ah,decide_eq_false c3,awR]
   rw[<-this,<-ah];exact aY _
theorem aec (s:hG) (ap:iz s.l) (al:s.l.length<=1000000) (x:List UInt8) (hm:Im s.l x) :
  bz Tryz.prog GS 92 [eC s,.fn 93 [] [],.str x] (.bG [.int .i64 (eY s.l x),.bool (jb s.l x)]) :=by
 refine bL Tryz.checked.mixed bE ?_;apply bp Tryz.func92 [];simp;refine amI s ap al x hm fun l'=>?_
 simp;exact aL rfl rfl
theorem XF (s:hG) :gH Tryz.prog .eql 32 (cB 38 cA s) .aT=some (.bool s.isNone) :=FS (e:=50) (by kernel_rfl) 38 cA s
theorem C5 {l:List b4} (h:iz l) :((l.map cA).flatten).length=l.length*38:=by
 rw[mC (z:=38) (fun e ao=>by obtain⟨y,ax,rfl⟩:=awf.1 ao; exact na (h y ax).id),av8]
theorem akV {l:am} {b n:Nat} {a:List b4} (aA:iz a) (aC:a.length=n) (ag:l[b]? = some (.cells (n*38) (a.map cA).flatten)) :bH 38 l (.ar 38 b 0 n n (n*38)) b (a.map cA) :=by
 have fc:=C5 aA;refine .ar b n n (n*38) _ _ ag (by rw[fc,aC]) (by simp[aC]) (fun e ao=>?_) (avR _) (avR _) ?_
 ·obtain⟨y,ax,rfl⟩:=awf.1 ao; exact na (aA y ax).id
 ·rw[avO (by rw[fc,aC]; omega)]
structure i2 (l:am) (v:U) (j:Nat) (xs:List b4) :Prop where
 o:bH 38 l v j (xs.map cA)
 v:v=.aT\/v=.ar 38 j 0 xs.length xs.length (xs.length*38)
theorem i2.nil (l:am) (j:Nat) :i2 l .aT j [] :=⟨.nil j,.inl rfl⟩
theorem i2.frame {l l' : am} {v:U} {j:Nat} {xs:List b4} (h:i2 l v j xs) (aF:v=.aT\/l'[j]? = l[j]?) :i2 l' v j xs:=⟨h.o.nZ aF,h.v⟩
theorem i2.full {l:am} {j:Nat} {xs:List b4} (ap:iz xs) (ag:l[j]? = some (.cells (xs.length*38) (xs.map cA).flatten)) :i2 l (.ar 38 j 0 xs.length xs.length (xs.length*38)) j xs:=⟨akV ap rfl ag,.inr rfl⟩
theorem i2.block {l:am} {v:U} {j:Nat} {xs:List b4} (h:i2 l v j xs) (au:v≠.aT) :v=.ar 38 j 0 xs.length xs.length (xs.length*38)/\l[j]? = some (.cells (xs.length*38) (xs.map cA).flatten) :=by
 have qU:=h.v.resolve_left au;refine⟨qU,?_⟩;have ap:=h.o;rw[qU] at ap;generalize ao:U.ar 38 j 0 xs.length xs.length (xs.length*38)=w at ap;generalize jH:xs.map cA=es at ap;cases ap with
 | nil=>cases ao
 | ar WU n cap sz cs es ag al aC aw ah db cd=>
  injection ao with _ aR _ bJ dF kP
  rw[ag,<-kP,<-cd,avO (by rw[al,<-kP,<-bJ]; omega)]
def Pc (v:U) (xs:List b4) :hG:=match cw v with | true=>none | false=>some xs
theorem i2.anG {l:am} {v:U} {j:Nat} {xs:List b4} (h:i2 l v j xs) :(Pc v xs).l=xs:=by
 rcases h.v with au | au
 ·have:=h.o;rw[au] at this;have af:=this.q.tG;rw[aw3] at af;rw[au,af]; rfl
 ·rw[au]; rfl
theorem i2.rd {l:am} {v:U} {j:Nat} {xs:List b4} (h:i2 l v j xs) :gh (bW l) v (eC (Pc v xs)) :=by
 rcases h.v with au | au
 ·rw[au]; exact .same _ rfl
 ·have:=h.o.nA (fun x=>wr x) (some xs) (by rw[au]; rfl) rfl;rw[au] at this ⊢;exact this
theorem acU (s:hG) (ap:iz s.l) (ak:s.l.length<=1000000) {l:am} {K:U->am->Prop} (aD:s=none->K .aT l)
  (h1:∀ a,s=some a->K (.ar 38 l.length 0 a.length a.length (a.length*38)) (l++[.cells (a.length*38) (a.map cA).flatten])) :
  c7 Tryz.prog GS 155 [eC s] l (c:=⟨K⟩) :=by
 apply bp Tryz.func155 [];have az:cy=140737488355328:=rfl;cases s with
 | none=>
  simp[eC,XF];exact aD rfl
 | some a=>
  simp at ak;have fc:=C5 (l:=a) ap;have j4:gx (l++[a7.cells 0 []]) 38 96 (.ar 38 l.length 0 0 0 0) (cB 38 cA (some a))=some (.ar 38 l.length 0 a.length a.length (a.length*38),l++[.cells (a.length*38) (a.map cA).flatten]) :=by
   unfold gx;rw[uG];simp only[cQ.zi];unfold hJ;by_cases aw:a.length=0
   ·have:a=[] :=awt.1 aw;subst this;simp
   ·rw[if_neg aw,if_neg (by omega)];simp[az];exact⟨by omega,fun h=>by simp[h]⟩
  simp[eC,XF,j4];refine dp.cx ?_;simp;exact h1 a rfl
theorem aiR {l:am} {b bv n i:Nat} {a:List b4} {x:b4} (aA:iz a) (af:Cl x) (aC:a.length=n) (ag:l[b]? = some (.cells (n*38) (a.map cA).flatten)) (iq:l[bv]? = some (.cells 38 (cA x))) (bI:bv≠b) (av:i<=n) (oX:n<=1000000)
  {K:U->am->Prop} (aY:K (.ar 38 l.length 0 (n+1) (n+1) ((n+1)*38)) (l.set b .dead++[.cells ((n+1)*38) ((fj a i x).map cA).flatten])) :
  c7 Tryz.prog GS 138 [.ar 38 b 0 n n (n*38),.int .i64 i,.ar 38 bv 0 1 1 38] l (c:=⟨K⟩) :=by
 have eU:=eu ag;have ak:=Nc (P:=Tryz.prog) (G:=GS) (h:=bW l) M9 (by kernel_rfl) (by kernel_rfl) (show i5 Tryz.prog 50=some 96 by kernel_rfl) (by omega) (by omega) (by kernel_rfl) (b:=b) (bv:=bv) (len:=n) (cap:=n) (i:=i) (ln.2 ag) (ln.2 iq) bI av (avR _) (by unfold cy; omega);rw[vU,oK _ eU,lO,ax3 (by omega)] at ak;refine⟨_,_,.ext ak,by simp,?_⟩;have fc:=C5 aA;have bJ:a.map cA=(a.take i).map cA++(a.drop i).map cA:=by rw[<-awm,awy]
 have HO:((a.take i).map cA).flatten.length=i*38:=by
  rw[C5 (fun t aI=>aA t (awh aI)),av1,awQ (by omega)]
 have AW:((a.drop i).map cA).flatten.length=(n - i)*38:=by
  rw[C5 (fun t aI=>aA t (axo aI)),awW,aC]
 have cJ:mh 38 (a.map cA).flatten (cA x) i n=((fj a i x).map cA).flatten:=by
  unfold mh fj;have h1:((a.map cA).flatten).take (i*38)=((a.take i).map cA).flatten:=by
   rw[bJ,awC,awg (by omega),avO (by omega)]
  have ad:((a.map cA).flatten).drop (i*38)=((a.drop i).map cA).flatten:=by
   rw[bJ,awC,awE (by omega),aw1 (by omega),awI]
  have aj:(((a.drop i).map cA).flatten).take ((n - i)*38)=((a.drop i).map cA).flatten:=avO (by omega);have aE:((a.map cA).flatten).drop ((n+1)*38)=[] :=aw1 (by rw[fc,aC]; omega);rw[h1,ad,aj,aE,awp];simp
 rw[cJ];exact aY
theorem aiQ {l:am} {bv:Nat} {x:b4} (iq:l[bv]? = some (.cells 38 (cA x))) {K:U->am->Prop} (aY:K (.ar 38 l.length 0 1 1 38) (l++[.cells 38 (cA x)])) :
  c7 Tryz.prog GS 138 [.aT,.int .i64 0,.ar 38 bv 0 1 1 38] l (c:=⟨K⟩) :=by
 have ak:=Nb (P:=Tryz.prog) (G:=GS) (h:=bW l) M9 (by kernel_rfl) (by kernel_rfl) (show i5 Tryz.prog 50=some 96 by kernel_rfl) (by omega) (by omega) (by kernel_rfl) (bv:=bv) (ln.2 iq) (by unfold cy; omega);rw[vU,lO] at ak;exact⟨_,_,.ext ak,by simp,aY⟩
theorem S5 (l:List b4) (x:List UInt8) :eY l x<=l.length:=by unfold eY; exact (ayq _).length_le
def iZ (l:List b4) (x:b4) :List b4:=if jb l x.key=true then (if o4 x.c4 x.id (mq l (eY l x.key)).c4 (mq l (eY l x.key)).id=true then l.set (eY l x.key) x else l) else fj l (eY l x.key) x
def gd (o:bm) (x:List B) :b4:=⟨o.act.key,o.act.val,o.c4,x⟩
def eV (l:List b4) (o:bm) (x:List B) :List b4:=if o.act.kind=4#8 then iZ l (gd o x) else l
theorem adz (o:bm) :((u o.act.kind:Int)=4)<->o.act.kind=4#8:=sw o.act.kind 4#8
theorem WP {l:List b4} {i:Nat} {x:b4} (h:iz l) (af:Cl x) :iz (fj l i x) :=fun t aI=>by
 rcases tw.1 aI with e | e
 ·rw[e]; exact af
 ·exact h t e
theorem OU {l:List b4} {x:b4} (h:iz l) (af:Cl x) :iz (iZ l x)/\(iZ l x).length<=l.length+1:=by
 unfold iZ;split
 ·split
  ·refine⟨fun t aI=>?_,by simp⟩;rcases axl aI with e | e
   ·exact h t e
   ·rw[e]; exact af
  ·exact⟨h,by omega⟩
 ·exact⟨WP h af,by rw[o0]; omega⟩
set_option maxHeartbeats 8000000 in
theorem Yx (o:bm) (ap:EI o.act.val) (x:List B) (af:x.length=32) {xs:List b4} (c1:iz xs) (aC:xs.length<=1000000) (hm:Im xs o.act.key) {l:am} {v:U} {j:Nat} (h:i2 l v j xs) {K:U->am->Prop}
  (aY:∀ aZ l' bl,i2 l' aZ bl (eV xs o x)->((v≠.aT/\bl=j)\/l.length<=bl\/aZ=.aT)->l.length<=l'.length->(∀ b,b<l.length->(v=.aT\/b≠j)->l'[b]? = l[b]?)->(cw aZ=true->cw v=true/\o.act.kind≠4#8)->(o.act.kind≠4#8->aZ=v)->K aZ l') :
  c7 Tryz.prog GS 87 [v,.aH (a2 o),.aH (aO x)] l (c:=⟨K⟩) :=by
 apply bp Tryz.func87 [];have bf:=cC af;have bY:(a2 o).length=11:=rfl;have rI:∀ h,(a2 o)[3]'h=bF o.act.kind:=fun _=>rfl
 have rJ:∀ h,(a2 o)[4]'h=.str o.act.key:=fun _=>rfl
 have UG:∀ h,(a2 o)[2]'h=dq o.c4:=fun _=>rfl
 have UH:((a2 o).drop 5).take 4=eb o.act.val:=rfl;have arG:(eb o.act.val).length=4:=rfl;have VC:=adz o;obtain⟨O,du⟩:∃ O,O=a2 o:=⟨_,rfl⟩
 obtain⟨X,cv⟩:∃ X,X=aO x:=⟨_,rfl⟩
 rw[<-du] at bY rI rJ UG UH ⊢;rw[<-cv] at bf ⊢;obtain⟨L,eT⟩:∃ L,L=l++[a7.cells 11 O,a7.cells 32 X] :=⟨_,rfl⟩
 have ng:L.length=l.length+2:=by rw[eT]; simp
 have Ll:∀ b,b<l.length->L[b]? = l[b]?:=fun b ag=>by rw[eT,avQ ag]
 have dV:L[l.length]? = some (.cells 11 O) :=by rw[eT,av2 (avR _)]; simp
 have q1:L[l.length+1]? = some (.cells 32 X) :=by rw[eT,av2 (by omega)]; simp
 have ai:v=.aT\/j<l.length:=h.o.lt;by_cases dG:o.act.kind=4#8
 ·have Nn:=VC.2 dG;have ix:eV xs o x=iZ xs (gd o x) :=by unfold eV; rw[if_pos dG]
  have Mq:Cl (gd o x) :=⟨af,ap⟩
  have UO:cA (gd o x)=.str o.act.key::bF o.act.val.kind::.int .i64 o.act.val.num::dq o.act.val.bits::.str o.act.val.text::dq o.c4::X:=by rw[cv]; rfl
  have n5:=na af (r:=gd o x);have UM:∀ h,(cA (gd o x))[0]'h=.str o.act.key:=fun _=>rfl
  have j8:bt (rep 32 (.int .u8 0)) 0 X=X:=eM (by rw[bf]; rfl);have y7:=O0 n5;have ak:=h.anG;obtain⟨s,h5⟩:∃ s,s=Pc v xs:=⟨_,rfl⟩
  rw[<-h5] at ak;have u4:=aec s (by rw[ak]; exact c1) (by rw[ak]; exact aC) o.act.key (by rw[ak]; exact hm);rw[ak] at u4;have Hb:=wr (gd o x);obtain⟨T,bM⟩:∃ T,T=cA (gd o x) :=⟨_,rfl⟩
  rw[<-bM] at UO n5 UM y7 Hb;obtain⟨sL,Dq⟩:∃ sL,sL=L++[a7.cells 38 T] :=⟨_,rfl⟩
  have Lj:sL.length=l.length+3:=by rw[Dq]; simp[ng]
  have GO:∀ b,b<l.length->sL[b]? = l[b]?:=fun b ag=>by rw[Dq,avQ (by omega)]; exact Ll b ag
  have ad:i2 sL v j xs:=h.frame (ai.imp_right fun ai=>GO j ai);have Wg:=ad.rd;rw[<-h5] at Wg;have ft:sL[l.length+2]? = some (.cells 38 T) :=by rw[Dq,av2 (by omega),ng]; simp
  have cf:∀ h,L[l.length]'h=.cells 11 O:=fun h=>(avP.1 dV).2
  have aP:∀ h,L[l.length+1]'h=.cells 32 X:=fun h=>(avP.1 q1).2
  have aU:∀ h,sL[l.length+2]'h=.cells 38 T:=fun h=>(avP.1 ft).2
  have mS:∀ y:a7,(L++[y]).set (l.length+2) (.cells 38 T)=sL:=fun y=>by rw[Dq,awz _ _ (by omega),ng]; simp
  have alk:∀ y:a7,(L++[y])[l.length+2]? = some y:=fun y=>by rw[av2 (by omega),ng]; simp
  simp[bY,bf,rI,rJ,UG,UH,eb,Nn,<-eT,dV,q1,ng,avO,j8,<-UO,n5,y7,mS,alk,ft,UM,cf,aP,aU];rw[<-Dq];refine iB u4 (.cons Wg (.cons (.same _ rfl) (.cons (.same _ rfl) .nil))) rfl ?_;have ej:=S5 xs o.act.key;obtain⟨kt,fA⟩:∃ a,a=eY xs o.act.key:=⟨_,rfl⟩
  have vd:iZ xs (gd o x)=if jb xs o.act.key=true then (if o4 o.c4 x (mq xs kt).c4 (mq xs kt).id=true then xs.set kt (gd o x) else xs) else fj xs kt (gd o x) :=by rw[fA]; rfl
  rw[<-fA] at ej ⊢;cases aF:jb xs o.act.key with
  | false=>
   rw[aF,if_neg (by simp)] at vd;obtain⟨x3,GN⟩:∃ x3,x3=sL++[a7.cells 38 T] :=⟨_,rfl⟩
   have arA:x3.length=l.length+4:=by rw[GN]; simp[Lj]
   have Lm:∀ b,b<l.length->x3[b]? = l[b]?:=fun b ag=>by rw[GN,avQ (by omega)]; exact GO b ag
   have iY:x3[l.length+3]? = some (.cells 38 T) :=by rw[GN,av2 (by omega),Lj]; simp
   simp[Lj,ft,aU,n5,y7,avO,<-GN];by_cases au:v=.aT
   ·have w8:xs=[] :=by
     have:=h.o;rw[au] at this;have:=this.q.tG
     rwa [aw3] at this
    have US:kt=0:=by rw[w8] at ej; simp at ej; exact ej
    rw[au,US];refine aiQ (x:=gd o x) (by rw[iY,bM]) ?_;simp;have qN:eV xs o x=[gd o x] :=by rw[ix,vd,w8,US]; rfl
    refine aY _ _ x3.length ?_ (.inr (.inl (by omega))) (by simp; omega) (fun b ag _=>by rw[avQ (by omega)]; exact Lm b ag) (fun aG=>by cases aG) (fun aG=>absurd dG aG);rw[qN];exact i2.full (xs:=[gd o x]) (fun t aI=>by rw[awd] at aI; rw[aI]; exact Mq) (by simp)
   ·obtain⟨qU,ag⟩:=h.block au;have e7:=ai.resolve_left au;rw[qU];refine aiR (a:=xs) (x:=gd o x) c1 Mq rfl (by rw[Lm j e7]; exact ag) (by rw[iY,bM]) (by omega) ej aC ?_;simp;refine aY _ _ x3.length ?_ (.inr (.inl (by omega))) (by simp; omega) (fun b ag gZ=>by rw[avQ (by simp; omega),av0 (fun e=>(gZ.resolve_left au) e.symm)]; exact Lm b ag) (fun aG=>by cases aG) (fun aG=>absurd dG aG);rw[ix,vd];have bn:(fj xs kt (gd o x)).length=xs.length+1:=o0 _ _ _;rw[<-bn];exact i2.full (WP c1 Mq) (by rw[av2 (by simp)]; simp)
  | true=>
   rw[aF,if_pos rfl] at vd;have A0:=aF;unfold jb at A0;rw[avU,decide_eq_true_eq,<-fA] at A0;obtain⟨y,ax,cr⟩:=bx A0.1;have Ea:mq xs kt=y:=nB ax;rw[Ea] at vd;have au:v≠.aT:=fun au=>by
    have:=h.o;rw[au] at this;have:=this.q.tG;rw[aw3] at this;rw[this] at ax; simp at ax
   have cg:=na (c1 y cr).id;have jG:=wr y;obtain⟨p,c,q,aV,a1,a3,a4⟩:=ad.o.q.get (k:=.i64) (i:=kt) (e:=cA y) (by rw[avV,ax]; rfl);have aM:=aoM (gd o x) y af (c1 y cr).id;rw[<-bM] at aM;obtain⟨Y,eD⟩:∃ Y,Y=cA y:=⟨_,rfl⟩
   rw[<-eD] at a4 aM cg jG;simp[ft,aU,n5,avO,aV,a1,a3,a4];refine a6 aM (by simp[bd,U.closed,Hb,jG]) ?_;have oW:o4 (gd o x).c4 (gd o x).id y.c4 y.id=o4 o.c4 x y.c4 y.id:=rfl;rw[oW];cases mO:o4 o.c4 x y.c4 y.id with
   | false=>
    rw[mO,if_neg (by simp)] at vd;simp;refine aY v sL j (by rw[ix,vd]; exact ad) (.inl ⟨au,rfl⟩) (by omega) (fun b ag _=>GO b ag) (fun aG=>absurd (jm.1 aG) au) (fun aG=>absurd dG aG)
   | true=>
    rw[mO,if_pos rfl] at vd;obtain⟨bV,l',de,df,fw,m7,sR⟩:=Iy (X:=.aH (cA (gd o x))) rfl ad.o (fun y ax=>na (c1 y ax).id) A0.1 (by rw[<-bM]; exact n5);rw[aV] at de;obtain rfl:=Option.some.inj de;rw[<-bM] at df;simp[ft,aU,n5,avO,aV,df];refine aY v l' j ?_ (.inl ⟨au,rfl⟩) (by omega) (fun b ag gZ=>by rw[sR b (gZ.resolve_left au)]; exact GO b ag) (fun aG=>absurd (jm.1 aG) au) (fun aG=>absurd dG aG);rw[ix,vd];refine⟨fw,.inr ?_⟩;rw[ax9];exact h.v.resolve_left au
 ·have Nn:¬ (u o.act.kind:Int)=4:=fun aG=>dG (VC.1 aG)
  simp[bY,bf,rI,Nn,<-eT,dV];have ix:eV xs o x=xs:=by unfold eV; rw[if_neg dG]
  refine aY v L j (by rw[ix]; exact h.frame (ai.imp_right fun ai=>Ll j ai)) ?_ (by omega) (fun b ag _=>Ll b ag) (fun aG=>⟨aG,dG⟩) (fun _=>rfl);by_cases au:v=.aT
  ·exact .inr (.inr au)
  ·exact .inl ⟨au,rfl⟩
theorem Kh (s:hG) :(eC s).cells=some [eC s] :=by cases s<;>rfl
theorem KZ {l:List b4} (h:lK l=0) :l.length<=60/\lV l=true:=by
 unfold lK at h;split at h
 ·cases h
 ·split at h
  ·rename_i h1 ad; exact⟨by omega,ad⟩
  ·cases h
theorem Um {l:List b4} (h:lV l=true) {i:Nat} {a b:b4} (aA:l[i]? = some a) (ag:l[i+1]? = some b) :fv a.key b.key=true:=by
 have h1:=(of_decide_eq_true h) (i+1) (avP.1 ag).1;unfold qr at h1;rw[axz,nB aA,nB ag,avU] at h1;simpa using h1.2
theorem wL {l:List b4} (h:lV l=true) :∀ {d i:Nat} {a b:b4},l[i]? = some a->l[i+d+1]? = some b->fv a.key b.key=true
 | 0,i,a,b,aA,ag=>Um h aA ag
 | d+1,i,a,b,aA,ag=>by
  obtain⟨c,ah,_⟩:=bx (l:=l) (k:=i+d+1) (by have:=(avP.1 ag).1; omega);exact E9 (wL h aA ah) (Um h ah ag)
theorem K0 {l:List b4} (h:lV l=true) (x:List UInt8) :Im l x:=by
 intro i j a b hu aA ag aM;by_cases ao:i=j
 ·subst ao; rw[aA] at ag; cases ag; exact aM
 ·exact E9 (wL h (d:=j - i - 1) aA (by rw[show i+(j - i - 1)+1=j by omega]; exact ag)) aM
def o8 (s:hG) (o:bm) :hG:=if s.isNone=true/\o.act.kind≠4#8 then none else some (eV s.l o (cH o))
theorem xG (s:hG) (o:bm) :(o8 s o).l=eV s.l o (cH o) :=by
 unfold o8;split
 ·rename_i h;cases s with
  | some a=>cases h.1
  | none=>unfold eV; rw[if_neg h.2]
 ·rfl
def iC (s:hG) (o:bm) :hG × Int:=
 if lK s.l=0 then (if fM o=0 then (if 60<(eV s.l o (cH o)).length then (none,18) else (o8 s o,0)) else (none,8)) else (none,lK s.l)
set_option maxHeartbeats 8000000 in
theorem aoP (s:hG) (o:bm) (ak:iz s.l) (ef:s.l.length<=1000000) (ap:hX o) :
  bz Tryz.prog GS 98 [.aH [eC s],.aH (a2 o)] (.bG [.aH [eC (iC s o).1],.int .i64 (iC s o).2]) :=by
 refine bL Tryz.checked.mixed bE ?_;apply bp Tryz.func98 [[[0],[1],[3],[4],[2,4,3]]];have cd:=wq s;have cz:=i6 o;have c0:=aaA s ak ef;have e1:=PB o ap;have c3:=HY o;have bY:(a2 o).length=11:=rfl;have lX:=Kh s;by_cases aD:lK s.l=0
 ·by_cases h1:fM o=0
  ·obtain⟨D,jD⟩:∃ D,D=(cH o).map bF:=⟨_,rfl⟩
   have kS:D.length=32:=by rw[jD,av8,c3]
   have Ux:bd D=true:=by rw[jD]; exact lS bF (fun _=>rfl) _
   have afa:aO (cH o)=D:=by rw[jD]; rfl
   have rW:bt (rep 32 (.int .u8 0)) 0 D=D:=eM (by rw[kS]; rfl);unfold fF at e1;rw[<-jD] at e1;have tj:=K0 (KZ aD).2 o.act.key;have j2:=(KZ aD).1;obtain⟨O,du⟩:∃ O,O=a2 o:=⟨_,rfl⟩
   have ix:=fun (l:am) (v:U) (j:Nat) (h:i2 l v j s.l) (K:U->am->Prop)=>Yx o ap.val (cH o) c3 ak ef tj h (K:=K)
   rw[<-du] at e1 bY cz ⊢;simp only[<-du,afa] at ix;simp[bY,lX,avO];refine a6 c0 (by simp[bd,U.closed,cd]) ?_;simp[aD,bY,avO];refine a6 e1 (by simp[bd,U.closed,cz]) ?_;simp[h1,kS,rW,bY,avO];refine acU s ak ef (fun aC=>?_) (fun a y5=>?_)
   ·subst aC;simp[bY,kS,avO];refine ix _ _ _ (i2.nil _ 4) _ (fun aZ l' bl dW fu nx sp tQ tR=>?_);have ft:l'[2]? = some (.cells 1 [.aT]) :=by rw[sp 2 (by simp) (.inl rfl)]; rfl
    have pD:3<=l'.length:=by simp at nx; omega
    have bn:=dW.o.len;rw[av8] at bn;have iV:=dW.o.cells;have hl:∀ y:a7,(l'.set 2 y)[2]? = some y:=fun y=>av3 (by omega)
    by_cases eP:60<(eV [] o (cH o)).length
    ·have rH:(60:Int)<((eV [] o (cH o)).length:Int) :=by omega
     have aA:iC (none) o=(none,18) :=by unfold iC; rw[if_pos aD,if_pos h1]; exact if_pos eP
     rw[aA];simp[bn,rH,ft,hl];exact aL rfl rfl
    ·have rH:¬ (60:Int)<((eV [] o (cH o)).length:Int) :=by omega
     have aA:iC (none) o=(o8 (none) o,0) :=by unfold iC; rw[if_pos aD,if_pos h1]; exact if_neg eP
     rw[aA];simp[bn,rH,ft,hl,iV];refine tU (xD ?_) (aL rfl rfl);have l6:bH 38 (l'.set 2 (.cells 1 [aZ])) aZ bl ((eV [] o (cH o)).map cA) :=dW.o.nZ (by
      by_cases au:aZ=.aT
      ·exact .inl au
      ·right;refine av0 ?_;rcases fu with h | h | h
       ·exact absurd rfl h.1
       ·simp at h; omega
       ·exact absurd h au)
     exact l6.q.ow (fun x=>wr x) (o8 (none) o) (by
      unfold o8;by_cases dG:o.act.kind=4#8
      ·simp[dG];cases dZ:cw aZ with
       | false=>rfl
       | true=>exact absurd dG (tQ dZ).2
      ·simp[dG];rw[tR dG]; rfl) (xG _ _)
   ·subst y5;simp[bY,kS,avO];refine ix _ _ _ (i2.full ak (by simp)) _ (fun aZ l' bl dW fu nx sp tQ tR=>?_);have ft:l'[2]? = some (.cells 1 [.aT]) :=by rw[sp 2 (by simp) (.inr (by simp))]; rfl
    have pD:3<=l'.length:=by simp at nx; omega
    have bn:=dW.o.len;rw[av8] at bn;have iV:=dW.o.cells;have hl:∀ y:a7,(l'.set 2 y)[2]? = some y:=fun y=>av3 (by omega)
    by_cases eP:60<(eV a o (cH o)).length
    ·have rH:(60:Int)<((eV a o (cH o)).length:Int) :=by omega
     have aA:iC (some a) o=(none,18) :=by unfold iC; rw[if_pos aD,if_pos h1]; exact if_pos eP
     rw[aA];simp[bn,rH,ft,hl];exact aL rfl rfl
    ·have rH:¬ (60:Int)<((eV a o (cH o)).length:Int) :=by omega
     have aA:iC (some a) o=(o8 (some a) o,0) :=by unfold iC; rw[if_pos aD,if_pos h1]; exact if_neg eP
     rw[aA];simp[bn,rH,ft,hl,iV];refine tU (xD ?_) (aL rfl rfl);have l6:bH 38 (l'.set 2 (.cells 1 [aZ])) aZ bl ((eV a o (cH o)).map cA) :=dW.o.nZ (by
      by_cases au:aZ=.aT
      ·exact .inl au
      ·right;refine av0 ?_;rcases fu with h | h | h
       ·rw[h.2]; simp
       ·simp at h; omega
       ·exact absurd h au)
     exact l6.q.ow (fun x=>wr x) (o8 (some a) o) (by
      unfold o8;simp;cases dZ:cw aZ with
      | false=>rfl
      | true=>exact absurd (tQ dZ).1 (by simp[cw])) (xG _ _)
  ·have aA:iC s o=(none,8) :=by unfold iC; rw[if_pos aD,if_neg h1]
   rw[aA];simp[bY,lX];refine a6 c0 (by simp[bd,U.closed,cd]) ?_;simp[aD,bY,avO];refine a6 e1 (by simp[bd,U.closed,cz]) ?_;simp[h1,fF,c3];exact aL rfl rfl
 ·have aA:iC s o=(none,lK s.l) :=by unfold iC; rw[if_neg aD]
  rw[aA];simp[bY,lX];refine a6 c0 (by simp[bd,U.closed,cd]) ?_;simp[aD];exact aL rfl rfl
def lC (a b:b4) :Bool:=fv a.key b.key
def PE (l:List b4) (x:b4) :List b4:=fj l (ou lC l x l.length) x
theorem acJ {l:am} {p:U} {x:List U × Nat} (h:eW l p=some x) :nU p 0=some p:=by
 cases p<;>first | rfl | (exfalso; simp[eW] at h)
structure apJ (l:am) (a:List b4) (x:b4) (m:Nat) (ae:bg) (l1:am) :Prop where
 ex:∃ (i:Nat) (v:U),i=m/\i<=a.length/\ae 5=v/\ae 6=.int .i64 (i:Int)/\cu 38 cA l l1 v (fj a i x) false/\ou lC a x i=ou lC a x a.length
set_option maxHeartbeats 4000000 in
theorem alG (s:hG) (ap:iz s.l) (al:s.l.length<=1000000) :bz Tryz.prog GS 63 [.aH [eC s]] (.int .i64 (lK s.l)) :=by
 refine bL Tryz.checked.mixed bE ?_;apply bp Tryz.func63 [];unfold lK;have bn:cK (.ar 38) (eC s)=some (.int .i64 s.l.length) :=by simp[eC]
 by_cases h1:60<s.l.length
 ·have dg:(60:Int)<(s.l.length:Int) :=by omega
  simp[bn,dg];exact aL (by rw[if_pos h1]) rfl
 ·have dg:¬ (60:Int)<(s.l.length:Int) :=by omega
  simp[bn,dg];refine cI s.l.length (fun k ae l=>(∃ r,l=.cells 1 [eC s] ::r)/\ae 1=.ptr 0 0 1/\ae 3=.int .i64 k/\∀ j,j<k->qr s.l j=true) ?_ (by simp);rintro k ae l hk ⟨⟨r,rfl⟩,aP,a8,ak⟩;obtain⟨ae,rfl⟩:=p2 aP a8;clear aP a8;simp[bn];refine jo (fun h=>?_) (fun h=>?_)
  ·simp only[decide_eq_true_eq] at h;obtain⟨y,ax,cr⟩:=bx (l:=s.l) (k:=k) (by omega);have cg:=na (ap y cr).id;have aR:IntKind.i64.wrap ((k:Int)+1)=((k+1:Nat) :Int) :=by rw[IntKind.wrap_i64]; omega
   have uZ:=EC y.key;have iV:=YZ y.val;have ek:qr s.l k=(jr y&&(decide (k=0)||fv (mq s.l (k - 1)).key y.key)) :=by unfold qr; rw[nB ax]
   have bN:ck (.ar 38) (eC s) (.int .i64 (k:Int))=some (.b3 (cA y) 0) :=by simp[eC,ax]
   have jg:=O0 cg;have bM:(cA y).take 38=cA y:=avO (by omega);have qt:∀ h,(cA y)[0]'h=.str y.key:=fun _=>rfl
   have uW:∀ h,(cA y)[5]'h=dq y.c4:=fun _=>rfl
   have yz:((cA y).tail).take 4=eb y.val:=rfl;have l0:=Tl y.c4;have jc:bd (eb y.val)=true:=by simp[eb,bd,U.closed]
   obtain⟨R,gA⟩:∃ R,R=cA y:=⟨_,rfl⟩
   obtain⟨abt,Ls⟩:∃ V,V=eb y.val:=⟨_,rfl⟩
   rw[<-gA] at cg bN jg bM qt uW yz;rw[<-Ls] at iV yz jc;simp[bN,cg,jg,bM,qt];refine a6 uZ rfl ?_;cases aX:gM y.key with
   | false=>
    have:jr y=false:=by unfold jr; rw[aX]; rfl
    rw[this,awR] at ek;simp;exact aL (by rw[if_neg h1,wK h ek]; rfl) rfl
   | true=>
    simp[cg,yz];refine a6 iV (by simp[bd,U.closed,jc]) ?_;cases bw:jX y.val with
    | false=>
     have:jr y=false:=by unfold jr; rw[aX,bw]; rfl
     rw[this,awR] at ek;simp[gI];exact aL (by rw[if_neg h1,wK h ek]; rfl) rfl
    | true=>
     cases c5:BX y.c4 with
     | false=>
      have:jr y=false:=by unfold jr; rw[aX,bw,c5]; rfl
      rw[this,awR] at ek;have n0:=l0.2 c5;simp[gI,cg,uW,n0];exact aL (by rw[if_neg h1,wK h ek]; rfl) rfl
     | true=>
      have n0:¬ (1000000000000:Int)<u y.c4:=fun h=>by rw[l0.1 h] at c5; cases c5
      have:jr y=true:=by unfold jr; rw[aX,bw,c5]; rfl
      rw[this,awL] at ek;rcases k with _ | k
      ·simp[gI,cg,uW,n0,aR];exact⟨by omega,by rw[IntKind.wrap_i64]; omega,by rw[ek]; rfl⟩
      ·obtain⟨x,af,cE⟩:=bx (l:=s.l) (k:=k) (by omega);have fJ:ck (.ar 38) (eC s) (.int .i64 (k:Int))=some (.b3 (cA x) 0) :=by simp[eC,af]
       have Dw:(cA x)[0]? = some (.str x.key) :=rfl;obtain⟨abu,Lu⟩:∃ X,X=cA x:=⟨_,rfl⟩
       rw[<-Lu] at fJ Dw;have dF:IntKind.i64.wrap (k:Int)=(k:Int) :=by rw[IntKind.wrap_i64]; omega
       have jL:(0:Int)<(k:Int)+1:=by omega
       simp only[axz,nB af,ax7,ayv,and_false,decide_false,ax5] at ek;simp[gI,cg,uW,n0,jL,dF,fJ,Dw,qt];have LF:pn .geq x.key y.key=some (.bool (!fv x.key y.key)) :=rfl;rw[LF];cases dZ:fv x.key y.key with
       | true=>
        rw[dZ] at ek;simp[aR];refine⟨by omega,by rw[IntKind.wrap_i64]; omega,fun j ai=>?_⟩;by_cases gc:j=k+1
        ·rw[gc,ek]
        ·exact ak j (by omega)
       | false=>
        rw[dZ] at ek;simp;exact aL (by rw[if_neg h1,wK h ek]; rfl) rfl
  ·simp[h];have h4:k=s.l.length:=by simp at h; omega
   exact aL (by rw[if_neg h1,if_pos (K1 fun j ai=>ak j (by omega))]) rfl
theorem ajd {α:Type} [DecidableEq α] {x:α} {l:List α} (h:0<=iJ x l 0) :∃ i:Nat,iJ x l 0=(i:Int)/\l[i]? = some x:=by
 have hm:=(xe x l 0).1 h;have:∃ i:Nat,l[i]? = some x/\∀ (j:Nat) (z:α),j<i->l[j]? = some z->z≠x:=by
  clear h
  induction l with
  | nil=>cases hm
  | cons y r aJ=>
   by_cases ax:y=x
   ·exact⟨0,by simp[ax],fun j z ai=>by omega⟩
   ·obtain⟨i,h1,ad⟩:=aJ (by simpa [Ne.symm ax] using hm);refine⟨i+1,by simpa using h1,fun j z ai aw=>?_⟩;rcases j with _ | j
    ·simp at aw; rw[<-aw]; exact ax
    ·exact ad j z (by omega) (by simpa using aw)
 obtain⟨i,h1,ad⟩:=this;exact⟨i,by have:=Bu (n:=0) h1 ad rfl; simpa using this,h1⟩
def q6 (s:hG) (o:bm) :hG × Int:=
 if lK s.l=0 then (if fM o=0 then (if o.act.kind=4#8 then
  (if 0<=iJ o.act.key (s.l.map b4.key) 0 then (if o4 o.c4 (cH o) (mq s.l (iJ o.act.key (s.l.map b4.key) 0).toNat).c4 (mq s.l (iJ o.act.key (s.l.map b4.key) 0).toNat).id=true then (some (s.l.set (iJ o.act.key (s.l.map b4.key) 0).toNat (gd o (cH o))),0) else (some s.l,0))
   else if s.l.length=60 then (none,18) else (some (PE s.l (gd o (cH o))),0))
  else (some s.l,0)) else (none,8)) else (none,lK s.l)
theorem Kq {l:List b4} {x:List UInt8} {t:Nat} {y:b4} (aI:t<eY l x) (ax:l[t]? = some y) :fv y.key x=true:=by
 have aR:l.takeWhile (fun t=>fv t.key x)=l.take (eY l x) :=ayZ.1 (ayq _);have hm:y∈l.take (eY l x) :=avT.2 ⟨t,by rw[awb aI]; exact ax⟩;rw[<-aR] at hm;have:=List.all_takeWhile (l:=l) (p:=fun t=>fv t.key x);exact awG.1 this y hm
theorem Kp:∀ {l:List b4} {x:List UInt8} {y:b4},l[eY l x]? = some y->fv y.key x=false
 | [],x,y,h=>by simp at h
 | a::l,x,y,h=>by
  unfold eY at h;rw[aw7] at h;cases aA:fv a.key x with
  | false=>
   rw[aA] at h;simp at h;rw[<-h]; exact aA
  | true=>
   rw[aA] at h;simp at h;exact Kp (l:=l) (by unfold eY; exact h)
theorem aeL {l:List b4} (h:lV l=true) {x:List UInt8} {t:Nat} {y:b4} (aI:eY l x<=t) (ax:l[t]? = some y) :fv y.key x=false:=by
 obtain⟨z,aw,_⟩:=bx (l:=l) (k:=eY l x) (by have:=(avP.1 ax).1; omega);have h1:=Kp aw;cases ad:fv y.key x with
 | false=>rfl
 | true=>rw[K0 h x _ _ _ _ aI aw ax ad] at h1; cases h1
theorem Gs {l:List b4} (h:lV l=true) (x:List UInt8) :(jb l x=true/\iJ x (l.map b4.key) 0=(eY l x:Int))\/(jb l x=false/\¬ 0<=iJ x (l.map b4.key) 0) :=by
 cases aF:jb l x with
 | true=>
  left;refine⟨rfl,?_⟩;unfold jb at aF;rw[avU,decide_eq_true_eq,decide_eq_true_eq] at aF;obtain⟨y,ax,_⟩:=bx aF.1;have jM:y.key=x:=by rw[<-aF.2,nB ax]
  have:=Bu (x:=x) (l:=l.map b4.key) (k:=eY l x) (n:=0) (y:=x) (by rw[avV,ax]; exact congrArg some jM) (fun j z ai aw mg=>by
   rw[avV] at aw;cases jJ:l[j]? with
   | none=>rw[jJ] at aw; cases aw
   | some w=>
    rw[jJ] at aw;have hw:w.key=z:=Option.some.inj aw;have:=Kq ai jJ;rw[hw,mg,vI] at this; cases this) rfl
  simpa using this
 | false=>
  right;refine⟨rfl,fun aD=>?_⟩;obtain⟨i,Vt,mN⟩:=ajd aD;rw[avV] at mN;cases jJ:l[i]? with
  | none=>rw[jJ] at mN; cases mN
  | some w=>
   rw[jJ] at mN;have hw:w.key=x:=Option.some.inj mN;have c3:=(avP.1 jJ).1;by_cases agM:i<eY l x
   ·have:=Kq agM jJ;rw[hw,vI] at this; cases this
   ·by_cases agN:i=eY l x
    ·unfold jb at aF;rw[<-agN,nB jJ,hw,decide_eq_true c3] at aF;simp at aF
    ·obtain⟨z,aw,_⟩:=bx (l:=l) (k:=eY l x) (by omega);have h1:=Kp aw;have ad:=wL h (d:=i - eY l x - 1) aw (by rw[show eY l x+(i - eY l x - 1)+1=i by omega]; exact jJ);rw[hw,h1] at ad; cases ad
theorem Yj {l:List b4} (h:lV l=true) {x:b4} (aC:jb l x.key=false) :ou lC l x l.length=eY l x.key:=by
 have ah:=S5 l x.key;have key:∀ k,eY l x.key<=k->k<=l.length->ou lC l x k=eY l x.key:=by
  intro k
  induction k with
  | zero=>
   intro h1 _;have:eY l x.key=0:=by omega
   rw[this]; rfl
  | succ k aJ=>
   intro h1 ad;obtain⟨y,ax,_⟩:=bx (l:=l) (k:=k) (by omega);rw[Yg ax];by_cases hk:eY l x.key=k+1
   ·have aj:=Kq (l:=l) (x:=x.key) (t:=k) (by omega) ax;have aE:lC x y=false:=by
     unfold lC;cases aX:fv x.key y.key with
     | false=>rfl
     | true=>have:=E9 aj aX; rw[vI] at this; cases this
    rw[aE,if_neg (by simp)]; exact hk.symm
   ·have aj:=aeL h (x:=x.key) (t:=k) (by omega) ax;have aE:lC x y=true:=by
     unfold lC;cases aX:fv x.key y.key with
     | true=>rfl
     | false=>
      exfalso;have ao:y.key=x.key:=by
       have aV:¬ y.key<x.key:=(OQ _ _).1 aj;have a1:¬ x.key<y.key:=(OQ _ _).1 aX;exact ayX (ay4.1 a1) (ay4.1 aV)
      rcases Gs h x.key with ⟨bw,_⟩ | ⟨_,c5⟩
      ·rw[aC] at bw; cases bw
      ·exact c5 ((xe x.key (l.map b4.key) 0).2 (by rw[<-ao]; exact axj (avY ax)))
    rw[aE,if_pos rfl];exact aJ (by omega) (by omega)
 exact key l.length ah (avR _)
theorem IM (s:hG) (o:bm) :(iC s o).1.l=(q6 s o).1.l/\(iC s o).2=(q6 s o).2:=by
 unfold iC q6;by_cases aD:lK s.l=0
 ·rw[if_pos aD,if_pos aD];by_cases h1:fM o=0
  ·rw[if_pos h1,if_pos h1];obtain⟨j2,jI⟩:=KZ aD;have mb:=xG s o;by_cases dG:o.act.kind=4#8
   ·have ay:eV s.l o (cH o)=iZ s.l (gd o (cH o)) :=by unfold eV; rw[if_pos dG]
    rw[if_pos dG];rcases Gs jI o.act.key with ⟨ad,aj⟩ | ⟨ad,aj⟩
    ·have av:0<=iJ o.act.key (s.l.map b4.key) 0:=by rw[aj]; omega
     have ci:iZ s.l (gd o (cH o))=if o4 o.c4 (cH o) (mq s.l (eY s.l o.act.key)).c4 (mq s.l (eY s.l o.act.key)).id=true then s.l.set (eY s.l o.act.key) (gd o (cH o)) else s.l:=by
      unfold iZ;rw[show (gd o (cH o)).key=o.act.key from rfl,if_pos ad]; rfl
     have bn:(eV s.l o (cH o)).length=s.l.length:=by rw[ay,ci]; split<;>simp
     rw[if_neg (by omega),if_pos av,aj,awZ];split
     ·rename_i mO;exact⟨by rw[mb,ay,ci,if_pos mO]; rfl,rfl⟩
     ·rename_i mO;exact⟨by rw[mb,ay,ci,if_neg mO]; rfl,rfl⟩
    ·have ci:iZ s.l (gd o (cH o))=fj s.l (eY s.l o.act.key) (gd o (cH o)) :=by
      unfold iZ;rw[show (gd o (cH o)).key=o.act.key from rfl,if_neg (by rw[ad]; simp)]
     have bn:(eV s.l o (cH o)).length=s.l.length+1:=by rw[ay,ci,o0]
     rw[if_neg aj];by_cases bw:s.l.length=60
     ·have K6:60<(eV s.l o (cH o)).length:=by omega
      rw[if_pos K6,if_pos bw]; exact⟨rfl,rfl⟩
     ·have K6:¬ 60<(eV s.l o (cH o)).length:=by omega
      rw[if_neg K6,if_neg bw];refine⟨?_,rfl⟩;rw[mb,ay,ci];show _=PE s.l (gd o (cH o));unfold PE;rw[Yj jI ad]; rfl
   ·have ay:eV s.l o (cH o)=s.l:=by unfold eV; rw[if_neg dG]
    rw[if_neg dG,if_neg (by rw[ay]; omega)];exact⟨by rw[mb,ay]; rfl,rfl⟩
  ·rw[if_neg h1,if_neg h1]; exact⟨rfl,rfl⟩
 ·rw[if_neg aD,if_neg aD]; exact⟨rfl,rfl⟩
structure cp where
 c6:Int
 set:fh
 c8:hG
 b5:ez
def fb (s:cp) :List U:=[.int .i64 s.c6,er s.set,eC s.c8,aK s.b5]
structure um (s:cp) :Prop where
 set:hU s.set.l
 c8:iz s.c8.l
 b5:gv s.b5
 ls:s.set.l.length<=1000000
 Ex:s.c8.l.length<=1000000
 H4:s.b5.l.length<=1000000
theorem sW (s:cp) :bd (fb s)=true:=by simp[fb,bd,U.closed,uE,wq,eK]
theorem TA (a b:List B) (aA:a.length=32) (ag:b.length=32) :bz Tryz.prog GS 60 [.aH (aO a),.aH (aO b)] (.int .i64 (cj a b)) :=by
 refine bL Tryz.checked.mixed bE ?_;apply bp Tryz.func60 [];have ak:=Fe (n:=32) (b:=1) (by omega);have D3:=Fe (n:=32) (b:=0) (by omega);simp[aO,aA,ag,ak,D3];have ah:=FP (some a) (some b) (by simp[aA,ag]);refine iB ah ?_ rfl ?_
 ·exact .cons ((pQ (j:=0) aA rfl).nA (fun _=>rfl) (some a) rfl rfl) (.cons ((pQ (j:=1) ag rfl).nA (fun _=>rfl) (some b) rfl rfl) .nil)
 ·simp;exact aL rfl rfl
def uP (s:cp) :Bool:=decide (0<=s.c6)&&(decide (s.c6<=60)&&(decide ((s.b5.l.length:Int)<=s.c6)&&!(decide (s.b5.l.length=0)&&decide (0<s.c6))))
def AH (s:cp) :Bool:=uP s&&(decide (kI s.set.l=0)&&(decide (lK s.c8.l=0)&&c9 s.b5.l))
def ra (s:cp) :Int:=gI (AH s)
set_option maxHeartbeats 8000000 in
theorem aoT (s:cp) (ap:um s) :bz Tryz.prog GS 25 [.aH (fb s)] (.int .i64 (ra s)) :=by
 refine bL Tryz.checked.mixed bE ?_;apply bp Tryz.func25 [];unfold ra AH;have od:cK (.ar 32) (aK s.b5)=some (.int .i64 s.b5.l.length) :=by simp[aK]
 have te:=uE s.set;have lX:=wq s.c8;cases aq:uP s with
 | false=>
  rw[awR];simp[fb];unfold uP at aq;by_cases h1:s.c6<0
  ·simp[od,h1];exact aL rfl rfl
  ·by_cases ad:60<s.c6
   ·simp[od,h1,ad];exact aL rfl rfl
   ·by_cases aj:s.c6<(s.b5.l.length:Int)
    ·simp[od,h1,ad,aj];exact aL rfl rfl
    ·have aE:s.b5.l.length=0:=by
      by_cases h:s.b5.l.length=0
      ·exact h
      ·exfalso; simp[h,h1,ad,aj] at aq; try omega
     have aX:0<s.c6:=by simp[aE,h1,ad] at aq; omega
     simp[od,h1,ad,aj,aE,aX];exact aL rfl rfl
 | true=>
  unfold uP at aq;simp only[avU,decide_eq_true_eq,aw5,Bool.and_eq_false_iff,decide_eq_false_iff_not] at aq;obtain⟨aP,aU,a8,bA⟩:=aq;have h1:¬ s.c6<0:=by omega
  have ad:¬ 60<s.c6:=by omega
  have aj:¬ s.c6<(s.b5.l.length:Int) :=by omega
  have aC:(decide ((s.b5.l.length:Int)=0)&&decide (0<s.c6))=false:=by
   rcases bA with h | h
   ·rw[decide_eq_false (by omega)]; rfl
   ·rw[decide_eq_false h,ay5]
  rw[awL];have bM:=aaB s.set ap.set ap.ls;have gA:=aaA s.c8 ap.c8 ap.Ex;obtain⟨N,fy⟩:∃ N:Int,N=s.b5.l.length:=⟨_,rfl⟩
  rw[<-fy] at od aj aC;by_cases aE:N=0<;>by_cases bw:0<s.c6
  ·rw[decide_eq_true aE,decide_eq_true bw] at aC; cases aC
  all_goals
   simp[fb,od,h1,ad,aj,aE,bw];refine a6 bM (by simp[bd,U.closed,te]) ?_;by_cases c5:kI s.set.l=0
   ·simp[c5];refine a6 gA (by simp[bd,U.closed,lX]) ?_;by_cases dZ:lK s.c8.l=0
    ·simp[dZ];refine cI (s.b5.l.length - 1) (fun k ae l=>(∃ r,l=.cells 4 [.int .i64 s.c6,er s.set,eC s.c8,aK s.b5] ::r)/\ae 1=.ptr 0 0 4/\ae 3=.int .i64 N/\ae 4=.int .i64 ((k+1:Nat) :Int)/\∀ j,j<k+1->j<s.b5.l.length->1<=j->cj (b0 s.b5.l (j - 1)) (b0 s.b5.l j)<0) ?_ ⟨by simp,by simp,by simp[aE],by simp,fun j h1 _ ad=>by omega⟩;rintro k ae l hk ⟨⟨r,rfl⟩,aP,a8,bA,ak⟩;obtain⟨ae,rfl⟩:=kj aP a8 bA;clear aP a8 bA;obtain⟨m,hm⟩:∃ m,m=k+1:=⟨_,rfl⟩
     rw[<-hm] at ak ⊢;simp;refine jo (fun h=>?_) (fun h=>?_)
     ·simp only[decide_eq_true_eq] at h;have aM:m<s.b5.l.length:=by omega
      obtain⟨x,af,cE⟩:=bx (l:=s.b5.l) (k:=k) (by omega);obtain⟨y,ax,cr⟩:=bx aM;have aR:IntKind.i64.wrap ((m:Int) - 1)=(k:Int) :=by rw[IntKind.wrap_i64]; omega
      have bJ:IntKind.i64.wrap ((m:Int)+1)=((m+1:Nat) :Int) :=by rw[IntKind.wrap_i64]; omega
      have hc:=fL af;have pJ:=fL ax;have bN:ck (.ar 32) (aK s.b5) (.int .i64 (k:Int))=some (.b3 (aO x) 0) :=by simp[aK,af]
      have lv:ck (.ar 32) (aK s.b5) (.int .i64 (m:Int))=some (.b3 (aO y) 0) :=by simp[aK,ax]
      simp[aR,bN,lv,cC (ap.b5 x cE),cC (ap.b5 y cr),avO];refine a6 (TA x y (ap.b5 x cE) (ap.b5 y cr)) (by simp[bd,e4,U.closed,fF]) ?_;by_cases ah:cj x y<0
      ·have ei:¬ (0<=cj x y) :=by omega
       simp[ei,bJ];refine⟨by omega,fun j h1 ad aj=>?_⟩;by_cases ai:j=m
       ·show cj (b0 s.b5.l (j - 1)) (b0 s.b5.l j)<0;rw[ai,show m - 1=k by omega,hc,pJ]; exact ah
       ·exact ak j (by omega) ad aj
      ·have ei:0<=cj x y:=by omega
       simp[ei];refine aL (by rw[show c9 s.b5.l=false from decide_eq_false fun aG=>by have:=aG m aM (by omega); rw[show m - 1=k by omega,hc,pJ] at this; omega,c5,dZ]; rfl) rfl
     ·simp[h];have dw:s.b5.l.length<=m:=by simp at h; omega
      refine aL (by rw[show c9 s.b5.l=true from decide_eq_true fun j h1 ad=>ak j (by omega) h1 ad,c5,dZ]; rfl) rfl
    ·simp[dZ];exact aL rfl rfl
   ·simp[c5];exact aL rfl rfl
set_option maxHeartbeats 8000000 in
theorem alK (s:cp) (ap:um s) :bz Tryz.prog GS 26 [.aH (fb s)] (.int .i64 (ra s)) :=by
 refine bL Tryz.checked.mixed bE ?_;apply bp Tryz.func26 [];unfold ra AH;have od:cK (.ar 32) (aK s.b5)=some (.int .i64 s.b5.l.length) :=by simp[aK]
 have te:=uE s.set;have lX:=wq s.c8;have dh:=eK s.b5;cases aq:uP s with
 | false=>
  rw[awR];simp[fb];unfold uP at aq;by_cases h1:s.c6<0
  ·simp[od,h1];exact aL rfl rfl
  ·by_cases ad:60<s.c6
   ·simp[od,h1,ad];exact aL rfl rfl
   ·by_cases aj:s.c6<(s.b5.l.length:Int)
    ·simp[od,h1,ad,aj];exact aL rfl rfl
    ·have aE:s.b5.l.length=0:=by
      by_cases h:s.b5.l.length=0
      ·exact h
      ·exfalso; simp[h,h1,ad,aj] at aq; try omega
     have aX:0<s.c6:=by simp[aE,h1,ad] at aq; omega
     simp[od,h1,ad,aj,aE,aX];exact aL rfl rfl
 | true=>
  unfold uP at aq;simp only[avU,decide_eq_true_eq,aw5,Bool.and_eq_false_iff,decide_eq_false_iff_not] at aq;obtain⟨aP,aU,a8,bA⟩:=aq;have h1:¬ s.c6<0:=by omega
  have ad:¬ 60<s.c6:=by omega
  have aj:¬ s.c6<(s.b5.l.length:Int) :=by omega
  have aC:(decide ((s.b5.l.length:Int)=0)&&decide (0<s.c6))=false:=by
   rcases bA with h | h
   ·rw[decide_eq_false (by omega)]; rfl
   ·rw[decide_eq_false h,ay5]
  rw[awL];have bM:=alM s.set ap.set ap.ls;have gA:=alG s.c8 ap.c8 ap.Ex;have mI:=Oj s.b5 ap.b5 ap.H4;obtain⟨N,fy⟩:∃ N:Int,N=s.b5.l.length:=⟨_,rfl⟩
  rw[<-fy] at od aj aC;by_cases aE:N=0<;>by_cases bw:0<s.c6
  ·rw[decide_eq_true aE,decide_eq_true bw] at aC; cases aC
  all_goals
   simp[fb,od,h1,ad,aj,aE,bw];refine a6 mI (by simp[bd,U.closed,dh]) ?_;cases eP:c9 s.b5.l with
   | false=>
    simp[eP];exact aL (by simp[gI]) rfl
   | true=>
    simp[eP];refine a6 bM (by simp[bd,U.closed,te]) ?_;by_cases c5:kI s.set.l=0
    ·simp[c5];refine a6 gA (by simp[bd,U.closed,lX]) ?_;by_cases dZ:lK s.c8.l=0
     ·simp[dZ];exact aL (by simp[gI,c5,dZ]) rfl
     ·simp[dZ];exact aL (by simp[gI]) rfl
    ·simp[c5];exact aL (by simp[gI]) rfl
def q8 (a b:cp) :Bool:=decide (a.c6=b.c6)&&(decide (a.set.l=b.set.l)&&(decide (a.c8.l=b.c8.l)&&decide (a.b5.l=b.b5.l)))
theorem YM (a b:cp) (aA:um a) (ag:um b) :bz Tryz.prog GS 23 [.aH (fb a),.aH (fb b)] (.bool (q8 a b)) :=by
 refine bL Tryz.checked.mixed bE ?_;apply bp Tryz.func23 [];unfold q8;have cZ:=uE a.set;have dJ:=uE b.set;have iQ:=wq a.c8;have h0:=wq b.c8;have Sh:=eK a.b5;have CF:=eK b.b5;by_cases h1:a.c6=b.c6
 ·simp[fb,h1];refine a6 (amD a.set b.set aA.set ag.set aA.ls) (by simp[bd,U.closed,cZ,dJ]) ?_;by_cases ad:a.set.l=b.set.l
  ·simp[ad];refine a6 (amC a.c8 b.c8 aA.c8 ag.c8 aA.Ex) (by simp[bd,U.closed,iQ,h0]) ?_;by_cases aj:a.c8.l=b.c8.l
   ·simp[aj];refine a6 (amB a.b5 b.b5 aA.b5 ag.b5 aA.H4) (by simp[bd,U.closed,Sh,CF]) ?_;simp;exact aL (by simp[h1,ad,aj]) rfl
   ·simp[aj];exact aL rfl rfl
  ·simp[ad];exact aL rfl rfl
 ·simp[fb,h1];exact aL rfl rfl
end Op

end Go.cb

namespace Go.cb
open Go Go.Proofs Go.Sort Go.Shelf
set_option maxRecDepth 100000
namespace Op
open gT
def pX (l:List (List B)) :List (List B) :=l.mergeSort fun x y=>!hz y x
theorem WK:∀ {xs:List (List B)},(∀ i∈xs,i.length=32)->∃ bh:List vV,bh.map (·.1)=xs
 | [],_=>⟨[],rfl⟩
 | x::xs,h=>by
  obtain⟨bh,ax⟩:=WK (xs:=xs) fun i av=>h i (by simp[av])
  exact⟨⟨x,h x (by simp)⟩::bh,by simp[ax]⟩
theorem am8 (bh:List vV) :(sorted ww bh).map (·.1)=pX (bh.map (·.1)) :=by
 unfold sorted pX;rw[List.map_mergeSort];intro a _ b _;rfl
theorem alm {z:Nat} {l l' : am} {v:U} {j:Nat} {es dK:List (List U)} (h:bH z l v j es) (h' : eA z l' v j dK) :bH z l' v j dK:=by
 cases h with
 | nil j=>have:=h'.tG; subst this; exact .nil j
 | ar j n cap sz cs es ag al aC aw ah db cd=>
  generalize au:U.ar z j 0 n cap sz=w at h';cases h' with
  | nil=>cases au
  | ar WU akD o5 acD anI hN ym gb hR oX iH ky af9 LJ=>
   injection au with _ aR bJ dF kP CU
   subst bJ dF kP CU;exact .ar j n cap sz hN _ gb hR oX iH ky (by omega) (by simpa using LJ)
theorem aew {l:am} {v:U} {j:Nat} {xs:List (List B)} (af:∀ i∈xs,i.length=32) (al:xs.length<=1000000) (aD:xs≠[]) (h:bH 32 l v j (xs.map aO)) {K:U->am->Prop}
  (aY:∀ l',l'.length=l.length->(∀ b,b≠j->l'[b]? = l[b]?)->bH 32 l' v j ((pX xs).map aO)->K (.bG []) l') :c7 Tryz.prog GS 99 [v,.fn 60 [] []] l (c:=⟨K⟩) :=by
 obtain⟨bh,ax⟩:=WK af;have ao:bh.map Ay=xs.map aO:=by rw[<-ax,axD]; rfl
 have ak:(sorted ww bh).map Ay=(pX xs).map aO:=by rw[<-ax,<-am8,axD]; rfl
 have cg:bh.length=xs.length:=by rw[<-ax]; simp
 rw[<-ao] at h;exact ZB ww (am1 (by intro args w; exact enters_of Tryz.func60 (by kernel_rfl) rfl args w)) ZY abL Tq adC (fun x y=>TA x.1 y.1 x.2 y.2) h.q (by omega) (fun og=>absurd (by rw[<-ax,og]; rfl) aD)
  (fun l' h1 ad aj=>aY l' h1 (fun b ag=>ad b ag) (by rw[<-ak]; exact alm h aj))
theorem amZ (l:List (List B)) (y:List B) :y∈pX l<->y∈l:=by unfold pX; exact List.mem_mergeSort
abbrev BV (l:List (List B)) :List (List B) :=oC hz l l.length
structure apt (a:List (List B)) (k:Nat) (ae:bg) (l:am) :Prop where
 bA:ae 4=.int .i64 k
 ex:∃ v,ae 3=v/\cu 32 aO [] l v (oC hz a k++a.drop k) false
structure apr (t:List (List B)) (x:List B) (i:Nat) (m:Nat) (ae:bg) (l:am) :Prop where
 bA:ae 4=.int .i64 i
 ex:∃ (k:Nat) (v:U),k=m/\k<=i/\ae 3=v/\ae 5=.int .i64 k/\cu 32 aO [] l v (fj t k x) false/\ou hz t x k=ou hz t x i
end Op

end Go.cb

namespace Go.cb
open Go Go.Proofs
set_option maxRecDepth 100000
namespace Op
open gT
theorem An (s:ez) :(aK s).cells=some [aK s] :=by cases s<;>rfl
theorem alL:bz Tryz.prog GS 24 [] (.aH (fb ⟨0,none,none,none⟩)) :=by
 refine bL Tryz.checked.mixed bE ?_;apply bp Tryz.func24 [];simp;exact aL rfl rfl
theorem abR {α:Type} {enc:α->List U} {z by_:Nat} (l:am) (b:Nat) (j5:l[b]? = some (.cells 0 [])) (s:cQ α) (h:∀ x∈s.l,(enc x).length=z) (aD:z≠0) (ag:by_≠0) (az:s.l.length*by_<=cy) :
  gx l z by_ (.ar z b 0 0 0 0) (cB z enc s)=some (.ar z b 0 s.l.length s.l.length (s.l.length*z),l.set b (.cells (s.l.length*z) (s.l.map enc).flatten)) :=by
 have fc:=C7 h;unfold gx;rw[uG];simp only[];unfold hJ;by_cases aw:s.l.length=0
 ·have aD:s.l=[] :=awt.1 aw;rw[aD];obtain⟨eU,LC⟩:=avP.1 j5;have:l.set b (.cells 0 [])=l:=by rw[<-LC,List.set_getElem_self]
  simp[this]
 ·rw[if_neg aw,if_neg (by omega)];have bI:¬ s.l=[] :=fun h=>aw (by rw[h]; rfl)
  simp[az,aD,aw,bI,j5]
theorem aiB (s:ez) (ap:gv s) (ak:s.l.length<=1000000) :bz Tryz.prog GS 165 [aK s] (aK s) :=by
 refine bL Tryz.checked.mixed bE ?_;refine WH s ap ak fun v l' h=>?_
 exact h.rd e4 s rfl rfl
theorem akG (o:bm) :bt (a2 o) 1 [aK o.br]=a2 o:=by
 unfold bt a2; simp
theorem adv (o:bm) (ap:hX o) :bz Tryz.prog GS 115 [.aH (a2 o)] (.aH (a2 o)) :=by
 refine bL Tryz.checked.mixed bE ?_;apply bp Tryz.func115 [];have cz:=i6 o;have bY:(a2 o).length=11:=rfl;have ht:∀ h,(a2 o)[1]'h=aK o.br:=fun _=>rfl
 have jF:=eK o.br;have ej:=aiB o.br ap.ids ap.len;have oj:=akG o;have hm:=An o.br;obtain⟨O,du⟩:∃ O,O=a2 o:=⟨_,rfl⟩
 rw[<-du] at cz bY ht oj ⊢;have hg:bt [U.int .u32 0,.aT,.int .u64 0,.int .u8 0,.str [],.int .u8 0,.int .i64 0,.int .u64 0,.str [],.int .u32 0,.int .u32 0] 0 O=O:=eM (by rw[bY]; rfl);simp[bY,ht,avO];refine a6 ej (by simp[bd,U.closed,jF]) ?_;simp[bY,hm,oj,hg,avO];exact aL rfl (by simpa [U.closed] using cz)
def Cd:bm:=⟨0,none,0,⟨0,[],pd⟩,0,0⟩
def mF (g:bc) (x:List B) :bm × Int:=if x∈g.ids.l then (lc g.ops.l (hf g.ids.l x),0) else (Cd,6)
theorem rG {g:bc} (V:iE g) {i:Nat} {x:List B} {o:bm} (av:g.ids.l[i]? = some x) (ap:g.ops.l[i]? = some o) :mF g x=(o,0) :=by
 unfold mF;rw[if_pos (avY av),yg V.c9 av,sk ap]
theorem Th (g:bc) (aq:et g) (aD:ep g=0) (x:List B) (af:x.length=32) :bz Tryz.prog GS 68 [cl g,.aH (aO x)] (.bG [.aH (a2 (mF g x).1),.int .i64 (mF g x).2]) :=by
 refine bL Tryz.checked.mixed bE ?_;apply bp Tryz.func68 [];have V:=mn aD;have dh:=eK g.ids;have cz:=i7 g.ops;have fQ:=e4 x;have bf:=cC af;have c0:=zT g aq;have aF:=TK g aq V.c9 x af;rw[aD] at c0;obtain⟨X,cv⟩:∃ X,X=aO x:=⟨_,rfl⟩
 rw[<-cv] at fQ bf aF ⊢;unfold cl cP at c0 aF;simp[cl,cP,bf,avO];refine a6 c0 (by simp[bd,U.closed,dh,cz]) ?_;simp[bf,avO];refine a6 aF (by simp[bd,U.closed,dh,cz,fQ]) ?_;by_cases hm:x∈g.ids.l
 ·obtain⟨i,av⟩:=avT.1 hm;obtain⟨o,ap,dd⟩:=bx (l:=g.ops.l) (k:=i) (by rw[<-V.len]; exact (avP.1 av).1);rw[rG V av ap,yg V.c9 av];have bN:ck (.ar 11) (bB g.ops) (.int .i64 (i:Int))=some (.b3 (a2 o) 0) :=by simp[bB,ap]
  have bY:(a2 o).length=11:=rfl;have jF:=i6 o;have D6:=adv o (aq.ops o dd);obtain⟨O,du⟩:∃ O,O=a2 o:=⟨_,rfl⟩
  rw[<-du] at bN bY jF D6 ⊢;have hg:bt [U.int .u32 0,.aT,.int .u64 0,.int .u8 0,.str [],.int .u8 0,.int .i64 0,.int .u64 0,.str [],.int .u32 0,.int .u32 0] 0 O=O:=eM (by rw[bY]; rfl);simp[hm,bN,bY,avO];refine a6 D6 (by simpa [bd,U.closed] using jF) ?_;simp[bY,hg,avO];exact aL rfl (by simpa [U.closed,bd] using jF)
 ·have qE:mF g x=(Cd,6) :=by unfold mF; rw[if_neg hm]
  rw[qE];simp[hm];exact aL rfl rfl
def eN:cp:=⟨0,none,none,none⟩
abbrev k9 (o:bm) (h:List B) :Bool:=!decide (h∈o.br.l)
def u2 (s:cp) (o:bm) (x:List B) :List (List B) :=pX (s.b5.l.filter (k9 o)++[x])
noncomputable def yo (s:cp) (o:bm) (x:List B) (b:ez) :cp × Int:=
 if (ga s.set o b).2=0 then (if (iC s.c8 o).2=0 then (⟨s.c6+1,(ga s.set o b).1,(iC s.c8 o).1,some (u2 s o x)⟩,0) else (eN,(iC s.c8 o).2)) else (eN,(ga s.set o b).2)
noncomputable def i9 (s:cp) (g:bc) (x:List B) :cp × Int:=
 if x∈g.ids.l then (if x∈s.b5.l then (eN,14) else if s.c6=60 then (eN,18) else yo s (mF g x).1 x (dH (i4 g (hf g.ids.l x)))) else (eN,6)
theorem rz (s:cp) (e:Int) :(U.bG [.aH (fb s),.int .i64 e]).closed=true:=by have:=sW s; simp[U.closed,bd,this]
abbrev zE (s:cp) (g:bc) (O X:List U) (A:fh) (R:hG) (v:U) :am:=
 [.cells 4 [.int .i64 s.c6,er s.set,eC s.c8,aK s.b5],.cells 2 [aK g.ids,bB g.ops],.cells 32 X,.cells 4 [.int .i64 0,.aT,.aT,.aT],.cells 11 O,.cells 4 [.int .i64 (s.c6+1),er A,eC R,v]]
structure aa3 (s:cp) (g:bc) (o:bm) (O X:List U) (A:fh) (R:hG) (k:Nat) (ae:bg) (l:am) :Prop where
 bi:ae 5=.ptr 2 0 32
 b8:ae 6=.ptr 3 0 4
 dj:ae 8=.ptr 4 0 11
 gX:ae 12=.ptr 5 0 4
 KW:ae 70=aK s.b5
 KX:ae 71=.int .i64 s.b5.l.length
 KY:ae 72=.int .i64 k
 ex:∃ v j rest,l=zE s g O X A R v++rest/\bH 32 l v j (((s.b5.l.take k).filter (k9 o)).map aO)/\(v=.aT\/6<=j)/\cw v=((s.b5.l.take k).filter (k9 o)).isEmpty
set_option maxHeartbeats 8000000 in
theorem TB (s:cp) (ak:um s) (iU:0<=s.c6) (mU:s.c6<=60) (aG:s.b5.l.length<=60) (g:bc) (aq:et g) (aD:ep g=0) (x:List B) (af:x.length=32) :
  bz Tryz.prog GS 53 [.aH (fb s),cl g,.aH (aO x)] (.bG [.aH (fb (i9 s g x).1),.int .i64 (i9 s g x).2]) :=by
 refine bL Tryz.checked.mixed bE ?_;apply bp Tryz.func53 [];have az:cy=140737488355328:=rfl;have V:=mn aD;have dh:=eK g.ids;have cz:=i7 g.ops;have fQ:=e4 x;have bf:=cC af;have yG:=eK s.b5;have te:=uE s.set;have lX:=wq s.c8;have ed:=Th g aq aD x af;have ec:=Fw s.b5 ak.b5 ak.H4 x af;by_cases hm:x∈g.ids.l
 ·obtain⟨i,av⟩:=avT.1 hm;obtain⟨o,ap,dd⟩:=bx (l:=g.ops.l) (k:=i) (by rw[<-V.len]; exact (avP.1 av).1);have mR:=aq.ops o dd;have td:=P8 g aq V aD x i av;have kz:i9 s g x=if x∈s.b5.l then (eN,14) else if s.c6=60 then (eN,18) else yo s o x (dH (i4 g i)) :=by
   unfold i9; rw[if_pos hm,rG V av ap,yg V.c9 av]
  rw[rG V av ap] at ed;obtain⟨b,ag⟩:∃ b,b=dH (i4 g i) :=⟨_,rfl⟩
  rw[kz,<-ag];have qv:gv b:=fun p ay=>by rw[ag,ew] at ay; exact aq.ids p (FM ay)
  have eU:b.l.length<=1000000:=by rw[ag,ew]; have:=FL g i; have:=aq.li; omega
  rw[<-ag] at td;have Hc:=eK b;have iG:=aoE s.set o b ak.set ak.ls mR qv eU;have D2:=aoP s.c8 o ak.c8 ak.Ex mR;have bY:(a2 o).length=11:=rfl;have jF:=i6 o;have ht:∀ h,(a2 o)[1]'h=aK o.br:=fun _=>rfl
  obtain⟨X,cv⟩:∃ X,X=aO x:=⟨_,rfl⟩
  obtain⟨O,du⟩:∃ O,O=a2 o:=⟨_,rfl⟩
  rw[<-cv] at fQ bf ed ec td ⊢;rw[<-du] at ed bY jF iG D2 ht;have hg:bt [U.int .u32 0,.aT,.int .u64 0,.int .u8 0,.str [],.int .u8 0,.int .i64 0,.int .u64 0,.str [],.int .u32 0,.int .u32 0] 0 O=O:=eM (by rw[bY]; rfl);unfold cl cP at ed td;simp[fb,cl,cP,bf,avO];refine a6 ed (by simp[bd,U.closed,dh,cz,fQ]) ?_;simp[bY,hg,bf,avO];refine a6 ec (by simp[bd,U.closed,yG,fQ]) ?_;by_cases h1:x∈s.b5.l
  ·simp[h1];exact aL rfl rfl
  ·by_cases ad:s.c6=60
   ·simp[h1,ad];exact aL rfl rfl
   ·have aR:IntKind.i64.wrap (s.c6+1)=s.c6+1:=by rw[IntKind.wrap_i64]; omega
    simp[h1,ad,bf,avO];refine a6 td (by simp[bd,U.closed,dh,cz,fQ]) ?_;simp[aR,bY,bt,avO];obtain⟨A,cN⟩:∃ A,A=ga s.set o b:=⟨_,rfl⟩
    obtain⟨R,gA⟩:∃ R,R=iC s.c8 o:=⟨_,rfl⟩
    have qD:yo s o x b=if A.2=0 then (if R.2=0 then (⟨s.c6+1,A.1,R.1,some (u2 s o x)⟩,0) else (eN,R.2)) else (eN,A.2) :=by unfold yo; rw[cN,gA]
    rw[if_neg h1,if_neg ad,qD];rw[<-cN] at iG;rw[<-gA] at D2;refine a6 iG (by simp[bd,U.closed,te,jF,Hc]) ?_;have uT:=SQ A.1;have UK:=Kh R.1;by_cases aj:A.2=0
    ·simp[aj,uT,bY,bt,avO];refine a6 D2 (by simp[bd,U.closed,lX,jF]) ?_;by_cases aE:R.2=0
     ·simp[aE,UK,bY,bt,avO];have od:cK (.ar 32) (aK s.b5)=some (.int .i64 s.b5.l.length) :=by simp[aK]
      have afI:bt (rep 32 (U.int .u8 0)) 0 X=X:=eM (by rw[bf]; rfl);simp[od];refine cI s.b5.l.length (aa3 s g o O X A.1 R.1) ?_ ?_
      ·rintro k ae l hk ⟨bi,b8,dj,gX,KW,KX,KY,v,j,rest,rfl,gK,ai,gQ⟩;obtain⟨ae,rfl⟩:=Ji bi b8 dj gX KW KX KY;clear bi b8 dj gX KW KX KY;simp;refine jo (fun h=>?_) (fun h=>?_)
       ·simp only[decide_eq_true_eq] at h;obtain⟨y,ax,cr⟩:=bx (l:=s.b5.l) (k:=k) (by omega);have bJ:IntKind.i64.wrap ((k:Int)+1)=((k+1:Nat) :Int) :=by rw[IntKind.wrap_i64]; omega
        have bN:ck (.ar 32) (aK s.b5) (.int .i64 (k:Int))=some (.b3 (aO y) 0) :=by simp[aK,ax]
        have HS:=ak.b5 y cr;have cg:=cC HS;have jG:=e4 y;have j6:=Fw o.br mR.ids mR.len y HS;have age:=eK o.br;have ci:s.b5.l.take (k+1)=s.b5.l.take k++[y] :=by rw[av7,ax]; rfl
        obtain⟨Y,eD⟩:∃ Y,Y=aO y:=⟨_,rfl⟩
        rw[<-eD] at bN cg jG j6;have UR:bt (rep 32 (U.int .u8 0)) 0 Y=Y:=eM (by rw[cg]; rfl);simp[bN,cg,UR,bY,ht,avO];refine a6 j6 (by simp[bd,U.closed,age,jG]) ?_;by_cases aX:y∈o.br.l
        ·simp[aX,bJ];have aF:(s.b5.l.take (k+1)).filter (k9 o)=(s.b5.l.take k).filter (k9 o) :=by rw[ci,axF]; simp[aX]
         refine⟨h,by simp,by simp,by simp,by simp,by simp,by simp,by simp,v,j,rest++[.cells 32 Y],rfl,?_,ai,by rw[aF]; exact gQ⟩;have c5:=gK.more [a7.cells 32 Y];rw[awo] at c5;rw[aF]; exact c5
        ·have aF:(s.b5.l.take (k+1)).filter (k9 o)=(s.b5.l.take k).filter (k9 o)++[y] :=by rw[ci,axF]; simp[aX]
         have fc:((s.b5.l.take k).filter (k9 o)).length<=60:=axc (axm _ _) (by rw[av1]; omega);obtain⟨aZ,bl,ct,aV,a1,a3,a4⟩:=ux (by_:=32) (pre:=zE s g O X A.1 R.1 v) (rest:=rest++[.cells 32 Y,.cells 32 Y]) (by rw[<-awo]; exact gK.more _) ai (x:=.ar 32 (rest.length+1+1+1+1+1+1+1) 0 1 1 32) (xs:=[Y])
          (by simp[dE,cg,avO]) (by simp[cg]) (by omega) (by omega) (by rw[az]; simp; omega)
         simp only[zE,awN,awI] at aV;have iV:=a1.cells;simp[aX,cg,UR,avO,aV];refine dp.cx ?_;simp[iV,bt,bJ];have fi:cw aZ=false:=by rw[a4]; simp
         have L2:6<=bl:=by
          rcases a3 with h | h
          ·rw[h] at fi; cases fi
          ·simpa using h
         refine⟨h,by simp,by simp,by simp,by simp,by simp,by simp,by simp,aZ,bl,ct,rfl,?_,.inr L2,by rw[aF,fi]; simp⟩;rw[aF,awm,awn,ax0,<-eD];refine a1.nZ (.inr ?_);obtain⟨kb,rfl⟩:∃ kb,bl=kb+6:=⟨bl - 6,by omega⟩
         rfl
       ·have h4:k=s.b5.l.length:=by simp at h; omega
        rw[h4,awi] at gK gQ;have fc:(s.b5.l.filter (k9 o)).length<=60:=axc (axm _ _) aG;obtain⟨aZ,bl,ct,aV,a1,a3,a4⟩:=ux (by_:=32) (pre:=zE s g O X A.1 R.1 v) (rest:=rest++[.cells 32 X]) (by rw[<-awo]; exact gK.more _) ai (x:=.ar 32 (rest.length+1+1+1+1+1+1) 0 1 1 32) (xs:=[X])
         (by simp[dE,bf,avO]) (by simp[bf]) (by omega) (by omega) (by rw[az]; simp; omega)
        simp only[zE,awN,awI] at aV;have iV:=a1.cells;simp[h,bf,afI,avO,aV];refine dp.cx ?_;simp[iV,bt];have fi:cw aZ=false:=by rw[a4]; simp
        have L2:6<=bl:=by
         rcases a3 with h | h
         ·rw[h] at fi; cases fi
         ·simpa using h
        have a5:bH 32 (zE s g O X A.1 R.1 aZ++ct) aZ bl ((s.b5.l.filter (k9 o)++[x]).map aO) :=by
         rw[awm,awn,ax0,<-cv];refine a1.nZ (.inr ?_);obtain⟨kb,rfl⟩:∃ kb,bl=kb+6:=⟨bl - 6,by omega⟩
         rfl
        refine aew (xs:=s.b5.l.filter (k9 o)++[x]) (fun z aw=>?_) (by rw[avW]; simp; omega) (by simp) a5 (fun l' de df fw=>?_)
        ·rcases awl.1 aw with e | e
         ·exact ak.b5 z (awP.1 e).1
         ·rw[awd.1 e]; exact af
        have EW:l'[5]? = some (.cells 4 [.int .i64 (s.c6+1),er A.1,eC R.1,aZ]) :=by rw[df 5 (by omega)]; rfl
        have iY:l'[3]? = some (.cells 4 [.int .i64 0,.aT,.aT,.aT]) :=by rw[df 3 (by omega)]; rfl
        have qG:4<=l'.length:=by rw[de]; simp
        have o9:∀ y:a7,(l'.set 3 y)[3]? = some y:=fun y=>av3 (by omega)
        simp[EW,iY,o9,bt];rw[if_pos aj,if_pos aE];refine tU (.aH _ _ rfl fun m c c' ah ei=>?_) (aL rfl rfl);rcases m with _ | _ | _ | _ | m
        ·simp[fb] at ah ei; subst ah ei; exact .same _ rfl
        ·simp[fb] at ah ei; subst ah ei; exact .same _ (uE _)
        ·simp[fb] at ah ei; subst ah ei; exact .same _ (wq _)
        ·simp[fb] at ah ei; subst ah ei;have m7:bH 32 (l'.set 3 (.cells 4 [.int .i64 (s.c6+1),er A.1,eC R.1,aZ])) aZ bl ((u2 s o x).map aO) :=fw.nZ (.inr (av0 (by omega)));exact m7.q.ow e4 (some (u2 s o x)) fi rfl
        ·simp at ah
      ·refine⟨by simp,by simp,by simp,by simp,by simp,by simp,by simp,.aT,0,[],by simp[zE],.nil 0,.inl rfl,rfl⟩
     ·simp[aE,UK,bY,bt,avO];exact aL (by rw[if_pos aj]; rfl) (by rw[if_pos aj]; exact rz eN _)
    ·simp[aj,uT];exact aL rfl (rz eN _)
 ·have qE:mF g x=(Cd,6) :=by unfold mF; rw[if_neg hm]
  have kz:i9 s g x=(eN,6) :=by unfold i9; rw[if_neg hm]
  rw[qE] at ed;rw[kz];obtain⟨X,cv⟩:∃ X,X=aO x:=⟨_,rfl⟩
  rw[<-cv] at fQ bf ed ⊢;unfold cl cP at ed;simp[fb,cl,cP,bf,avO];refine a6 ed (by simp[bd,U.closed,dh,cz,fQ]) ?_;have aw:a2 Cd=[U.int .u32 0,.aT,.int .u64 0,.int .u8 0,.str [],.int .u8 0,.int .i64 0,.int .u64 0,.str [],.int .u32 0,.int .u32 0] :=rfl;simp[aw,bt];exact aL rfl rfl
theorem anm {s:cp} (h:ra s=0) :(0<=s.c6/\s.c6<=60/\s.b5.l.length<=60)/\kI s.set.l=0/\lK s.c8.l=0/\c9 s.b5.l=true:=by
 unfold ra gI AH uP at h;split at h
 ·rename_i h1;simp only[avU,decide_eq_true_eq] at h1;obtain⟨⟨a,b,c,d⟩,e,f,g⟩:=h1;exact⟨⟨a,b,by omega⟩,e,f,g⟩
 ·cases h
noncomputable def s2 (s:cp) (g:bc) (x:List B) :cp × Int:=if ra s=0 then (if ep g=0 then i9 s g x else (eN,ep g)) else (eN,ra s)
theorem aoI (s:cp) (ak:um s) (g:bc) (aq:et g) (x:List B) (af:x.length=32) :
  bz Tryz.prog GS 20 [.aH (fb s),cl g,.aH (aO x)] (.bG [.aH (fb (s2 s g x).1),.int .i64 (s2 s g x).2]) :=by
 refine bL Tryz.checked.mixed bE ?_;apply bp Tryz.func20 [];have dh:=eK g.ids;have cz:=i7 g.ops;have fQ:=e4 x;have bf:=cC af;have cd:=sW s;have c0:=aoT s ak;have lW:=zT g aq;obtain⟨S,dQ⟩:∃ S,S=fb s:=⟨_,rfl⟩
 have GX:S.length=4:=by rw[dQ]; rfl
 by_cases aD:ra s=0
 ·by_cases h1:ep g=0
  ·have kz:s2 s g x=i9 s g x:=by unfold s2; rw[if_pos aD,if_pos h1]
   obtain⟨⟨aV,a1,a3⟩,_⟩:=anm aD;have iG:=TB s ak aV a1 a3 g aq h1 x af;rw[kz];obtain⟨F,h3⟩:∃ F,F=fb (i9 s g x).1:=⟨_,rfl⟩
   have Uz:F.length=4:=by rw[h3]; rfl
   have afg:bd F=true:=by rw[h3]; exact sW _
   obtain⟨X,cv⟩:∃ X,X=aO x:=⟨_,rfl⟩
   rw[<-dQ] at c0 iG cd ⊢;rw[<-cv] at bf fQ iG ⊢;rw[<-h3] at iG ⊢;have aie:bt [U.int .i64 0,.aT,.aT,.aT] 0 F=F:=eM (by rw[Uz]; rfl);unfold cl cP at lW iG;simp[cl,cP,GX,bf,avO];refine a6 c0 (by simp[bd,U.closed,cd]) ?_;simp[aD];refine a6 lW (by simp[bd,U.closed,dh,cz]) ?_;simp[h1,GX,bf,avO];refine a6 iG (by simp[bd,U.closed,cd,dh,cz,fQ]) ?_;simp[Uz,aie,avO];exact aL rfl (by simp[U.closed,bd,afg])
  ·have kz:s2 s g x=(eN,ep g) :=by unfold s2; rw[if_pos aD,if_neg h1]
   rw[kz];obtain⟨X,cv⟩:∃ X,X=aO x:=⟨_,rfl⟩
   rw[<-dQ] at c0 cd ⊢;rw[<-cv] at bf fQ ⊢;unfold cl cP at lW;simp[cl,cP,GX,bf,avO];refine a6 c0 (by simp[bd,U.closed,cd]) ?_;simp[aD];refine a6 lW (by simp[bd,U.closed,dh,cz]) ?_;simp[h1];exact aL rfl (rz eN _)
 ·have kz:s2 s g x=(eN,ra s) :=by unfold s2; rw[if_neg aD]
  rw[kz];obtain⟨X,cv⟩:∃ X,X=aO x:=⟨_,rfl⟩
  rw[<-dQ] at c0 cd ⊢;rw[<-cv] at bf fQ ⊢;simp[cl,cP,GX,bf,avO];refine a6 c0 (by simp[bd,U.closed,cd]) ?_;simp[aD];exact aL rfl (rz eN _)
structure apB (a:ez) (o:bm) (X:List U) (k:Nat) (ae:bg) (l:am) :Prop where
 cf:ae 0=aK a
 bA:ae 4=.ptr 0 0 11
 bi:ae 5=.ptr 1 0 32
 dj:ae 8=.int .i64 k
 ex:∃ v j rest,l=.cells 11 (a2 o) ::.cells 32 X::rest/\ae 7=v/\bH 32 l v j (((a.l.take k).filter (k9 o)).map aO)/\(v=.aT\/2<=j)/\cw v=((a.l.take k).filter (k9 o)).isEmpty
def u1 (l:List (List B)) (o:bm) (x:List B) :List (List B) :=BV (l.filter (k9 o)++[x])
noncomputable def KI (s:cp) (o:bm) (x:List B) (b:ez) :cp × Int:=
 if (sO s.set o b).2=0 then (if (q6 s.c8 o).2=0 then (⟨s.c6+1,(sO s.set o b).1,(q6 s.c8 o).1,some (u1 s.b5.l o x)⟩,0) else (eN,(q6 s.c8 o).2)) else (eN,(sO s.set o b).2)
noncomputable def AA (s:cp) (g:bc) (x:List B) :cp × Int:=
 if x∈g.ids.l then (if x∈s.b5.l then (eN,14) else if s.c6=60 then (eN,18) else KI s (mF g x).1 x (dH (ik g (hf g.ids.l x)))) else (eN,6)
theorem Ib (a:List B) :hz a a=false:=by
 cases h:hz a a with
 | false=>rfl
 | true=>rw[sb,pq] at h; omega
theorem xn (a b c:List B) (h1:hz a b=true) (ad:hz b c=true) :hz a c=true:=(sb _ _).2 (uF a b c ((sb _ _).1 h1) ((sb _ _).1 ad))
theorem Ey (a b:List B) (bI:a≠b) (h:hz a b=false) :hz b a=true:=by
 rw[sb,rA];rcases CN a b with h1 | h1 | h1
 ·rw[(sb a b).2 (by omega)] at h; cases h
 ·exact absurd (sX h1) bI
 ·omega
theorem amY (l:List (List B)) :(pX l).Pairwise fun a b=>hz b a=false:=by
 unfold pX;have h:=ay0 (le:=fun x y:List B=>!hz y x) (fun a b c h1 ad=>by
  simp only[aw5] at h1 ad ⊢;cases aj:hz c a with
  | false=>rfl
  | true=>
   by_cases fo:a=b
   ·subst fo; rw[aj] at ad; cases ad
   ·have aE:=Ey b a (fun e=>fo e.symm) h1;have aX:=xn _ _ _ aj aE;rw[aX] at ad; cases ad) (fun a b=>by
  cases h1:hz a b with
  | false=>simp
  | true=>
   cases ad:hz b a with
   | false=>simp
   | true=>have:=xn _ _ _ h1 ad; rw[Ib] at this; cases this) l
 exact h.imp fun {a b} fo=>by simpa using fo
theorem O2 {l:List (List B)} (aC:l.Nodup) :pX l=BV l:=by
 have ay:(pX l).Perm l:=ayz l _;have qJ:(pX l).Nodup:=ay.nodup_iff.2 aC;have ak:(pX l).Pairwise fun a b=>hz a b=true:=by
  refine List.Pairwise.imp (R:=fun a b=>hz b a=false/\a≠b) (fun {a b} h=>Ey b a (fun e=>h.2 e.symm) h.1) ?_;exact List.pairwise_and_iff.2 ⟨amY l,qJ⟩
 exact Fg Ib xn ak (OZ xn Ey aC (avR _)) fun y=>by rw[amZ,Ff (avR _),awi]
theorem Qe (s:fh) (o:bm) {b c:ez} (h:∀ p,p∈b.l<->p∈c.l) (ag:b.l.length<=60) (ah:c.l.length<=60) :ga s o b=ga s o c:=by
 have ak:js o b=js o c:=by
  funext t; unfold js; rw[decide_eq_decide.2 (h t.id)]
 unfold ga;rw[if_neg (show ¬ 60<b.l.length by omega),if_neg (show ¬ 60<c.l.length by omega),ak]
theorem alS (s:hG) (o:bm) (ak:iz s.l) (al:s.l.length<=100) (ap:hX o) :iz (iC s o).1.l/\(iC s o).1.l.length<=1000000:=by
 have aD:iz (cQ.l (none:hG))/\(cQ.l (none:hG)).length<=1000000:=⟨fun t aI=>(by cases aI),by simp⟩
 unfold iC;split
 ·split
  ·split
   ·exact aD
   ·rw[xG];unfold eV;split
    ·have:=OU (x:=gd o (cH o)) ak ⟨HY o,ap.val⟩;exact⟨this.1,by omega⟩
    ·exact⟨ak,by omega⟩
  ·exact aD
 ·exact aD
theorem XS:um eN:=⟨fun t aI=>(by cases aI),fun t aI=>(by cases aI),fun t aI=>(by cases aI),by simp[eN],by simp[eN],by simp[eN]⟩
structure abs (r:b4) :Prop where
 id:r.id.length=32
 mj:-9223372036854775808<=r.val.num
 o5:r.val.num<9223372036854775808
structure apE (s:cp) :Prop where
 set:hU s.set.l
 c8:∀ r∈s.c8.l,abs r
 b5:gv s.b5
theorem aj0 (a b:b4) (bI:a.key≠b.key) (h:lC a b=false) :lC b a=true:=by
 unfold lC at h ⊢;rw[OQ] at h;rw[tY];have ad:b.key<=a.key:=h;exact Decidable.byContradiction fun aj=>bI (ayX (show a.key<=b.key from aj) ad)
theorem Xq (a b c:b4) (h1:lC a b=true) (ad:lC b c=true) :lC a c=true:=E9 h1 ad
theorem Di (l:List b4) :lV l=true<->(∀ t∈l,jr t=true)/\l.Pairwise fun a b=>lC a b=true:=by
 constructor
 ·intro h;refine⟨fun t aI=>?_,aww.2 fun i j av ai hu=>?_⟩
  ·obtain⟨k,hk⟩:=avT.1 aI;have h1:=(of_decide_eq_true h) k (avP.1 hk).1;unfold qr at h1;rw[nB hk,avU] at h1;exact h1.1
  ·exact wL h (d:=j - i - 1) (avS av) (by rw[show i+(j - i - 1)+1=j by omega]; exact avS ai)
 ·rintro⟨h1,ad⟩;refine K1 fun k hk=>?_
  unfold qr;have ax:=avS hk;rw[nB ax,h1 _ (aym hk),awL];by_cases pB:k=0
  ·simp[pB]
  ·have af:=avS (l:=l) (i:=k - 1) (by omega);have:=(aww.1 ad) (k - 1) k (by omega) hk (by omega);unfold lC at this;rw[nB af,this]; simp
theorem Uo {l:List b4} {x:b4} (aq:lV l=true) (af:jr x=true) :lV (iZ l x)=true:=by
 obtain⟨h1,ad⟩:=(Di l).1 aq;unfold iZ;cases aF:jb l x.key with
 | true=>
  rw[if_pos rfl];split
  ·unfold jb at aF;rw[avU,decide_eq_true_eq,decide_eq_true_eq] at aF;obtain⟨ah,hk⟩:=aF;have ax:=avS ah;rw[nB ax] at hk;refine (Di _).2 ⟨fun t aI=>?_,aww.2 fun i j av ai hu=>?_⟩
   ·rcases axl aI with e | e
    ·exact h1 t e
    ·rw[e]; exact af
   ·rw[ax9] at av ai;have aj:=(aww.1 ad) i j av ai hu;have A5:∀ (t:Nat) (aI:t<l.length),((l.set (eY l x.key) x)[t]'(by rw[ax9]; exact aI)).key=(l[t]'aI).key:=fun t aI=>by
     rw[List.getElem_set];split
     ·rename_i e; subst e; exact hk.symm
     ·rfl
    unfold lC at aj ⊢;rw[A5 i av,A5 j ai]; exact aj
  ·exact aq
 | false=>
  rw[if_neg (by simp)];have ay:=Yj aq aF;rw[<-ay];refine (Di _).2 ⟨fun t aI=>?_,WR Xq ad fun y ax k3=>aj0 x y (fun e=>?_) k3⟩
  ·rcases tw.1 aI with e | e
   ·rw[e]; exact af
   ·exact h1 t e
  ·rcases Gs aq x.key with ⟨aj,_⟩ | ⟨_,aj⟩
   ·rw[aj] at aF; cases aF
   ·exact aj ((xe x.key (l.map b4.key) 0).2 (by rw[e]; exact axj ax))
theorem Y8 {g:bc} (V:iE g) {k:Nat} {o:bm} {x:List B} (ap:g.ops.l[k]? = some o) (af:g.ids.l[k]? = some x) (dG:o.act.kind=4#8) :jr (gd o x)=true:=by
 have h1:=(V.jC k o x ap af).1;have ad:fM o=0:=by
  unfold oG at h1;split at h1
  ·assumption
  ·rename_i h; exact absurd h1 h
 unfold fM at ad;split at ad
 ·cases ad
 ·split at ad
  ·split at ad
   ·rename_i _ _ aj;unfold s9 at aj;simp only[avU,decide_eq_true_eq] at aj;obtain⟨_,aE,aX,_⟩:=aj;unfold kr at aX;rw[dG] at aX;simp only[avU] at aX;unfold jr gd BX;simp only[avU,decide_eq_true_eq];simp at aX;exact⟨aX.1,aX.2,aE⟩
   ·cases ad
  ·cases ad
def hj (g:bc) :Nat->List b4
 | 0=>[]
 | k+1=>eV (hj g k) (lc g.ops.l k) (b0 g.ids.l k)
theorem Yw {g:bc} {k:Nat} {o:bm} {x:List B} (ap:g.ops.l[k]? = some o) (af:g.ids.l[k]? = some x) :hj g (k+1)=eV (hj g k) o x:=by
 show eV (hj g k) (lc g.ops.l k) (b0 g.ids.l k)=_;rw[sk ap,fL af]
theorem EU {g:bc} (aq:et g) (V:iE g) :∀ {k:Nat},k<=g.ops.l.length->lV (hj g k)=true/\iz (hj g k)/\(hj g k).length<=k
 | 0,_=>⟨rfl,fun t aI=>(by cases aI),avR _⟩
 | k+1,hk=>by
  obtain⟨h1,ad,aj⟩:=EU aq V (k:=k) (by omega);obtain⟨o,ap,dd⟩:=bx (l:=g.ops.l) (k:=k) (by omega);obtain⟨x,af,cE⟩:=bx (l:=g.ids.l) (k:=k) (by rw[V.len]; omega);rw[Yw ap af];unfold eV;by_cases dG:o.act.kind=4#8
  ·rw[if_pos dG];have:=OU (x:=gd o x) ad ⟨aq.ids x cE,(aq.ops o dd).val⟩;exact⟨Uo h1 (Y8 V ap af dG),this.1,by omega⟩
  ·rw[if_neg dG]; exact⟨h1,ad,by omega⟩
structure aa6 (g:bc) (k:Nat) (ae:bg) (l:am) :Prop where
 aP:ae 1=.ptr 0 0 2
 aU:ae 2=.ptr 1 0 1
 bi:ae 5=.ptr 2 0 1
 s5:ae 15=bB g.ops
 qp:ae 16=.int .i64 g.ops.l.length
 lU:ae 17=.int .i64 k
 dV:l[0]? = some (.cells 2 [aK g.ids,bB g.ops])
 q1:l[1]? = some (.cells 1 [.aT])
 ex:∃ v j,l[2]? = some (.cells 1 [v])/\i2 l v j (hj g k)/\(v=.aT\/3<=j)/\cw v=(hj g k).isEmpty
def nu (g:bc) :hG:=if ep g=0 then dH (hj g g.ops.l.length) else none
set_option maxHeartbeats 8000000 in
theorem aoQ (g:bc) (aq:et g) :bz Tryz.prog GS 42 [cl g] (.bG [.aH [eC (nu g)],.int .i64 (ep g)]) :=by
 refine bL Tryz.checked.mixed bE ?_;apply bp Tryz.func42 [];have dh:=eK g.ids;have cz:=i7 g.ops;have c0:=zT g aq;have ahd:=aq.cV;have dL:cK (.ar 11) (bB g.ops)=some (.int .i64 g.ops.l.length) :=by simp[bB]
 unfold cl cP at c0;simp[cl,cP];refine a6 c0 (by simp[bd,U.closed,dh,cz]) ?_;by_cases aD:ep g=0
 ·have V:=mn aD;simp[aD,dL];refine cI g.ops.l.length (aa6 g) ?_ ⟨by simp,by simp,by simp,by simp,by simp,by simp,by simp,by simp,.aT,0,by simp,i2.nil _ 0,.inl rfl,rfl⟩;rintro k ae l hk ⟨aP,aU,bi,s5,qp,lU,dV,q1,v,j,ft,DV,ai,gQ⟩;obtain⟨ae,rfl⟩:=vP aP aU bi s5 qp lU;clear aP aU bi s5 qp lU;simp;refine jo (fun h=>?_) (fun h=>?_)
  ·simp only[decide_eq_true_eq] at h;obtain⟨o,ap,dd⟩:=bx (l:=g.ops.l) (k:=k) (by omega);obtain⟨x,af,cE⟩:=bx (l:=g.ids.l) (k:=k) (by rw[V.len]; omega);have mR:=aq.ops o dd;have oo:=aq.ids x cE;have bJ:IntKind.i64.wrap ((k:Int)+1)=((k+1:Nat) :Int) :=by rw[IntKind.wrap_i64]; omega
   have bN:ck (.ar 11) (bB g.ops) (.int .i64 (k:Int))=some (.b3 (a2 o) 0) :=by simp[bB,ap]
   have lv:ck (.ar 32) (aK g.ids) (.int .i64 (k:Int))=some (.b3 (aO x) 0) :=by simp[aK,af]
   have bY:(a2 o).length=11:=rfl;have bf:=cC oo;obtain⟨ce,bP,dn⟩:=EU aq V (k:=k) (by omega);have ci:hj g (k+1)=eV (hj g k) o x:=Yw ap af;have pD:3<=l.length:=by have:=(avP.1 ft).1; omega
   have ahG:i2 (l++[.cells 11 (a2 o)]) v j (hj g k) :=DV.frame (by
    by_cases au:v=.aT
    ·exact .inl au
    ·obtain⟨_,ag⟩:=DV.block au;exact .inr (avQ (avP.1 ag).1))
   have ix:=fun (K:U->am->Prop)=>Yx o mR.val x oo bP (by have:=aq.cV; omega) (K0 ce o.act.key) ahG (K:=K)
   have sl:∀ c:a7,(l++[c])[2]? = some (.cells 1 [v]) :=fun c=>by rw[avQ (by omega)]; exact ft
   have gw:∀ c:a7,(l++[c])[0]? = some (.cells 2 [aK g.ids,bB g.ops]) :=fun c=>by rw[avQ (by omega)]; exact dV
   have lG:∀ c:a7,(l++[c])[1]? = some (.cells 1 [.aT]) :=fun c=>by rw[avQ (by omega)]; exact q1
   have IC:∀ c:a7,(l++[c])[l.length]? = some c:=fun c=>ax2
   obtain⟨O,du⟩:∃ O,O=a2 o:=⟨_,rfl⟩
   obtain⟨X,cv⟩:∃ X,X=aO x:=⟨_,rfl⟩
   rw[<-du] at bN bY;rw[<-cv] at lv bf;simp only[<-du,<-cv] at ix;have hg:bt [U.int .u32 0,.aT,.int .u64 0,.int .u8 0,.str [],.int .u8 0,.int .i64 0,.int .u64 0,.str [],.int .u32 0,.int .u32 0] 0 O=O:=eM (by rw[bY]; rfl);have akX:∀ (c:a7) (h:0<(l++[c]).length),(l++[c])[0]'h=.cells 2 [aK g.ids,bB g.ops] :=fun c h=>(avP.1 (gw c)).2
   simp[bN,lv,bY,bf,hg,gw,akX,sl,IC,avO];refine ix _ (fun aZ l' bl dW fu nx sp tQ tR=>?_);simp at nx;have kX:∀ b,b<3->v=.aT\/b≠j:=fun b ag=>ai.imp id fun h=>by omega
   have t0:l'[0]? = some (.cells 2 [aK g.ids,bB g.ops]) :=by rw[sp 0 (by simp) (kX 0 (by omega)),gw]
   have t1:l'[1]? = some (.cells 1 [.aT]) :=by rw[sp 1 (by simp; omega) (kX 1 (by omega)),lG]
   have t2:l'[2]? = some (.cells 1 [v]) :=by rw[sp 2 (by simp; omega) (kX 2 (by omega)),sl]
   have iV:=dW.o.cells;have hl:∀ y:a7,(l'.set 2 y)[2]? = some y:=fun y=>av3 (by omega)
   have dv:aZ=.aT\/3<=bl:=by
    rcases fu with h | h | h
    ·right; rw[h.2]; exact ai.resolve_left h.1
    ·right; simp at h; omega
    ·exact .inl h
   simp[t2,iV,bJ];refine⟨h,by simp,by simp,by simp,by simp,by simp,by simp,by rw[av0 (by omega)]; exact t0,by rw[av0 (by omega)]; exact t1,aZ,bl,hl _,?_,dv,?_⟩
   ·rw[ci];exact dW.frame (dv.imp id fun h=>av0 (by omega))
   ·rw[ci];by_cases dG:o.act.kind=4#8
    ·have eP:cw aZ=false:=by
      cases dZ:cw aZ with
      | false=>rfl
      | true=>exact absurd dG (tQ dZ).2
     have mH:(eV (hj g k) o x).isEmpty=false:=by
      cases dZ:(eV (hj g k) o x).isEmpty with
      | false=>rfl
      | true=>
       rw[ayV] at dZ;exfalso;unfold eV at dZ;rw[if_pos dG] at dZ;unfold iZ at dZ;split at dZ
       ·rename_i aF;unfold jb at aF;rw[avU,decide_eq_true_eq] at aF;have rS:0<(hj g k).length:=by omega
        split at dZ
        ·have:=congrArg List.length dZ; rw[ax9,awu] at this; omega
        ·rw[dZ] at rS; simp at rS
       ·have:=congrArg List.length dZ; rw[o0] at this; simp at this
     rw[eP,mH]
    ·have uR:eV (hj g k) o x=hj g k:=by unfold eV; rw[if_neg dG]
     rw[tR dG,uR]; exact gQ
  ·have h4:k=g.ops.l.length:=by simp at h; omega
   rw[h4] at DV gQ;have pD:3<=l.length:=by have:=(avP.1 ft).1; omega
   have dR:∀ y:a7,(l.set 1 y)[1]? = some y:=fun y=>av3 (by omega)
   have iV:=DV.o.cells;simp[h,q1,ft,iV,dR];refine tU (xD ?_) (aL (by rw[aD]) rfl);have kW:bH 38 (l.set 1 (.cells 1 [v])) v j ((hj g g.ops.l.length).map cA) :=DV.o.nZ (ai.imp id fun h=>av0 (by omega));exact kW.q.ow (fun x=>wr x) (nu g) (by unfold nu; rw[if_pos aD,ua]; exact gQ) (by unfold nu; rw[if_pos aD,ew])
 ·have kz:nu g=none:=by unfold nu; rw[if_neg aD]
  rw[kz];simp[aD];exact aL rfl rfl
def ox (g:bc) (k:Nat) :b4:=gd (lc g.ops.l k) (b0 g.ids.l k)
def jR (a b:b4) :Bool:=o4 a.c4 a.id b.c4 b.id
theorem Ny (a b:b4) :jR a b=true<->b.c4.toNat<a.c4.toNat\/(a.c4.toNat=b.c4.toNat/\cj b.id a.id<0) :=by
 unfold jR o4;rw[axT,decide_eq_true_eq,avU,decide_eq_true_eq,decide_eq_true_eq];have h1:a.c4=b.c4<->a.c4.toNat=b.c4.toNat:=⟨fun h=>by rw[h],av6⟩
 have ad:0<cj a.id b.id<->cj b.id a.id<0:=by rw[rA a.id b.id]; omega
 rw[h1,ad]
theorem Xs {a b c:b4} (h1:jR a b=true) (ad:jR b c=true) :jR a c=true:=by
 rw[Ny] at h1 ad ⊢;rcases h1 with h1 | ⟨h1,aj⟩<;>rcases ad with ad | ⟨ad,aE⟩
 ·left; omega
 ·left; omega
 ·left; omega
 ·right; exact⟨by omega,uF _ _ _ aE aj⟩
theorem Ic (a:b4) :jR a a=false:=by
 cases h:jR a a with
 | false=>rfl
 | true=>rw[Ny,pq] at h; omega
theorem Xr {a b:b4} (bI:a.id≠b.id) (h:jR a b=false) :jR b a=true:=by
 have h1:¬ jR a b=true:=by rw[h]; simp
 rw[Ny] at h1 ⊢;by_cases ad:a.c4.toNat<b.c4.toNat
 ·exact .inl ad
 ·right;have aj:¬ b.c4.toNat<a.c4.toNat:=fun e=>h1 (.inl e)
  refine⟨by omega,?_⟩;have aE:¬ cj b.id a.id<0:=fun e=>h1 (.inr ⟨by omega,e⟩)
  have aX:=rA b.id a.id;have bw:cj b.id a.id≠0:=fun e=>bI (sX e).symm
  omega
def xO (g:bc) (j:Nat) :Prop:=(lc g.ops.l j).act.kind=4#8
def x4 (g:bc) (k:Nat) (r:b4) :Prop:=∃ j,j<k/\xO g j/\r=ox g j/\∀ m,m<k->xO g m->(ox g m).key=r.key->jR (ox g m) r=false
theorem amh {g:bc} (V:iE g) {i j:Nat} (av:i<g.ops.l.length) (ai:j<g.ops.l.length) (h:(ox g i).id=(ox g j).id) :i=j:=by
 obtain⟨x,af,_⟩:=bx (l:=g.ids.l) (k:=i) (by rw[V.len]; omega);obtain⟨y,ax,_⟩:=bx (l:=g.ids.l) (k:=j) (by rw[V.len]; omega);unfold ox gd at h;rw[fL af,fL ax] at h;have ad:x=y:=h;subst ad;exact jP V.c9 i j x af ax
theorem alh {g:bc} {k:Nat} (h:xO g k) :hj g (k+1)=iZ (hj g k) (ox g k) :=by
 show eV (hj g k) (lc g.ops.l k) (b0 g.ids.l k)=_;unfold eV;exact if_pos h
theorem alg {g:bc} {k:Nat} (h:¬ xO g k) :hj g (k+1)=hj g k:=by
 show eV (hj g k) (lc g.ops.l k) (b0 g.ids.l k)=_;unfold eV;exact if_neg h
theorem AG {l:List b4} (h:lV l=true) {a b:b4} (aA:a∈l) (ag:b∈l) (hk:a.key=b.key) :a=b:=by
 obtain⟨i,av⟩:=avT.1 aA;obtain⟨j,ai⟩:=avT.1 ag;rcases awY i j with h1 | h1 | h1
 ·have:=wL h (d:=j - i - 1) av (by rw[show i+(j - i - 1)+1=j by omega]; exact ai);rw[hk,vI] at this; cases this
 ·subst h1; rw[av] at ai; exact Option.some.inj ai
 ·have:=wL h (d:=i - j - 1) ai (by rw[show j+(i - j - 1)+1=i by omega]; exact av);rw[hk,vI] at this; cases this
theorem Zu {l:List b4} (aq:lV l=true) (x r:b4) :
  (∀ y∈l,y.key=x.key->jR x y=true->(r∈iZ l x<->r=x\/(r∈l/\r.key≠x.key))) ∧
  (∀ y∈l,y.key=x.key->jR x y=false->iZ l x=l) ∧
  ((∀ y∈l,y.key≠x.key)->(r∈iZ l x<->r=x\/r∈l)) :=by
 have qD:∀ y∈l,y.key=x.key->jb l x.key=true/\mq l (eY l x.key)=y/\l[eY l x.key]? = some y:=fun y ax hk=>by
  rcases Gs aq x.key with ⟨h1,_⟩ | ⟨_,h1⟩
  ·refine⟨h1,?_⟩;unfold jb at h1;rw[avU,decide_eq_true_eq,decide_eq_true_eq] at h1;obtain⟨z,aw,qX⟩:=bx h1.1;have aj:=nB aw;rw[aj] at h1;have:=AG aq qX ax (by rw[h1.2,hk]);subst this;exact⟨aj,aw⟩
  ·exact absurd ((xe x.key (l.map b4.key) 0).2 (by rw[<-hk]; exact axj ax)) h1
 refine⟨fun y ax hk al=>?_,fun y ax hk al=>?_,fun dM=>?_⟩
 ·obtain⟨h1,ad,aj⟩:=qD y ax hk;unfold iZ;rw[if_pos h1,ad,if_pos (show o4 x.c4 x.id y.c4 y.id=true from al)];have aM:=(avP.1 aj).1;constructor
  ·intro h;obtain⟨i,av⟩:=avT.1 h;by_cases e:eY l x.key=i
   ·rw[<-e,av3 aM] at av; exact .inl (Option.some.inj av).symm
   ·rw[av0 e] at av;refine .inr ⟨avY av,fun hT=>e ?_⟩;have:=AG aq (avY av) ax (by rw[hT,hk]);subst this;rcases awY (eY l x.key) i with q | q | q
    ·have:=wL aq (d:=i - eY l x.key - 1) aj (by rw[show eY l x.key+(i - eY l x.key - 1)+1=i by omega]; exact av);rw[vI] at this; cases this
    ·exact q
    ·have:=wL aq (d:=eY l x.key - i - 1) av (by rw[show i+(eY l x.key - i - 1)+1=eY l x.key by omega]; exact aj);rw[vI] at this; cases this
  ·rintro (rfl | ⟨h,hT⟩)
   ·exact avT.2 ⟨_,av3 aM⟩
   ·obtain⟨i,av⟩:=avT.1 h;refine avT.2 ⟨i,?_⟩;rw[av0 (fun e=>by subst e; rw[aj] at av; obtain rfl:=Option.some.inj av; exact hT hk)];exact av
 ·obtain⟨h1,ad,aj⟩:=qD y ax hk;have aE:¬ o4 x.c4 x.id y.c4 y.id=true:=by unfold jR at al; rw[al]; simp
  unfold iZ;rw[if_pos h1,ad,if_neg aE]
 ·have h1:jb l x.key=false:=by
   cases ad:jb l x.key with
   | false=>rfl
   | true=>
    unfold jb at ad;rw[avU,decide_eq_true_eq,decide_eq_true_eq] at ad;obtain⟨z,aw,qX⟩:=bx ad.1;rw[nB aw] at ad;exact absurd ad.2 (dM z qX)
  unfold iZ;rw[if_neg (by rw[h1]; simp),tw]
theorem Yv {g:bc} (aq:et g) (V:iE g) :∀ {k:Nat},k<=g.ops.l.length->(∀ r,r∈hj g k<->x4 g k r)/\(∀ m,m<k->xO g m->∃ r∈hj g k,r.key=(ox g m).key)
 | 0,_=>⟨fun r=>⟨fun h=>(by cases h),fun ⟨j,ai,_⟩=>by omega⟩,fun m hm=>by omega⟩
 | k+1,hk=>by
  obtain⟨ds,h8⟩:=Yv aq V (k:=k) (by omega);have jI:=(EU aq V (k:=k) (by omega)).1;by_cases ak:xO g k
  ·rw[alh ak];obtain⟨x,af⟩:∃ x,x=ox g k:=⟨_,rfl⟩
   rw[<-af];have gl:=fun r=>Zu jI x r
   have yJ:∀ {r},x4 g k r->(ox g k).key≠r.key\/jR (ox g k) r=false->x4 g (k+1) r:=fun {r} ⟨j,ai,h1,ad,aj⟩ h=>⟨j,by omega,h1,ad,fun m hm kC aW=>by
    by_cases e:m=k
    ·rw[e] at aW ⊢; exact h.resolve_left fun aC=>aC aW
    ·exact aj m (by omega) kC aW⟩
   have zb:∀ {r},x4 g (k+1) r->r=x\/x4 g k r:=fun {r} ⟨j,ai,h1,ad,aj⟩=>by
    by_cases e:j=k
    ·subst e; left; rw[ad,af]
    ·exact .inr ⟨j,by omega,h1,ad,fun m hm kC hk=>aj m (by omega) kC hk⟩
   have hS:∀ {r},x4 g (k+1) r->x.key=r.key->jR x r=false:=fun {r} ⟨j,ai,h1,ad,aj⟩ hk=>by rw[af]; exact aj k (by omega) ak (by rw[<-af]; exact hk)
   by_cases qC:∃ y∈hj g k,y.key=x.key
   ·obtain⟨y,ax,jM⟩:=qC;have cg:=(ds y).1 ax;cases al:jR x y with
    | true=>
     refine⟨fun r=>?_,fun m hm kC=>?_⟩
     ·rw[(gl r).1 y ax jM al];constructor
      ·rintro (rfl | ⟨h,hT⟩)
       ·refine⟨k,by omega,ak,af,fun m hm kC hk=>?_⟩;by_cases e:m=k
        ·subst e; rw[<-af]; exact Ic _
        ·cases eP:jR (ox g m) r with
         | false=>rfl
         | true=>
          obtain⟨j,ai,h1,ad,aj⟩:=cg;have:=aj m (by omega) kC (by rw[hk,jM]);rw[Xs eP al] at this; cases this
       ·exact yJ ((ds r).1 h) (.inl (by rw[<-af]; exact fun e=>hT e.symm))
      ·intro h;rcases zb h with e | e
       ·exact .inl e
       ·refine .inr ⟨(ds r).2 e,fun hT=>?_⟩;have h1:=hS h hT.symm;rw[AG jI ((ds r).2 e) ax (by rw[hT,jM]),al] at h1; cases h1
     ·by_cases e:(ox g m).key=x.key
      ·exact⟨x,((gl x).1 y ax jM al).2 (.inl rfl),e.symm⟩
      ·obtain⟨r,az,hT⟩:=h8 m (ayg (by omega) fun q=>e (by rw[q,af])) kC;exact⟨r,((gl r).1 y ax jM al).2 (.inr ⟨az,by rw[hT]; exact e⟩),hT⟩
    | false=>
     rw[(gl x).2.1 y ax jM al];refine⟨fun r=>⟨fun h=>yJ ((ds r).1 h) ?_,fun h=>?_⟩,fun m hm kC=>?_⟩
     ·by_cases hT:r.key=x.key
      ·right;rw[AG jI h ax (by rw[hT,jM]),<-af]; exact al
      ·exact .inl (by rw[<-af]; exact fun e=>hT e.symm)
     ·rcases zb h with e | e
      ·exfalso;subst e;obtain⟨j,ai,h1,ad,aj⟩:=cg;obtain⟨bl,_,_,_,aE⟩:=h;have aX:=aE j (by omega) h1 (by rw[<-ad]; exact jM);rw[<-ad] at aX;by_cases e1:y.id=r.id
       ·rw[ad,af] at e1;have:=amh V (by omega) (by omega) e1;omega
       ·have:=Xr e1 aX;rw[al] at this; cases this
      ·exact (ds r).2 e
     ·by_cases e:m=k
      ·subst e; exact⟨y,ax,by rw[<-af]; exact jM⟩
      ·exact h8 m (by omega) kC
   ·have dM:∀ y∈hj g k,y.key≠x.key:=fun y ax e=>qC ⟨y,ax,e⟩
    refine⟨fun r=>?_,fun m hm kC=>?_⟩
    ·rw[(gl r).2.2 dM];constructor
     ·rintro (rfl | h)
      ·refine⟨k,by omega,ak,af,fun m hm kC hk=>?_⟩;by_cases e:m=k
       ·subst e; rw[<-af]; exact Ic _
       ·obtain⟨q,aW,vb⟩:=h8 m (by omega) kC;exact absurd (by rw[vb,hk]) (dM q aW)
      ·exact yJ ((ds r).1 h) (.inl (by rw[<-af]; exact fun e=>dM r h e.symm))
     ·intro h;rcases zb h with e | e
      ·exact .inl e
      ·exact .inr ((ds r).2 e)
    ·by_cases e:m=k
     ·subst e; exact⟨x,((gl x).2.2 dM).2 (.inl rfl),by rw[af]⟩
     ·obtain⟨r,az,hT⟩:=h8 m (by omega) kC;exact⟨r,((gl r).2.2 dM).2 (.inr az),hT⟩
  ·rw[alg ak];refine⟨fun r=>?_,fun m hm kC=>h8 m (ayg (by omega) fun e=>ak (by rw[<-e]; exact kC)) kC⟩;rw[ds];constructor
   ·rintro⟨j,ai,h1,ad,aj⟩;exact⟨j,by omega,h1,ad,fun m hm kC hk=>aj m (ayg (by omega) fun e=>ak (by rw[<-e]; exact kC)) kC hk⟩
   ·rintro⟨j,ai,h1,ad,aj⟩;exact⟨j,ayg (by omega) fun e=>ak (by rw[<-e]; exact h1),h1,ad,fun m hm kC hk=>aj m (by omega) kC hk⟩
def yq (g:bc) (x:List B) (m:Nat) :Bool:=decide (∀ j,j<m->x∉(lc g.ops.l j).br.l)
theorem aev (g:bc) (x:List B) (m:Nat) :yq g x (m+1)=(yq g x m&&!decide (x∈(lc g.ops.l m).br.l)) :=by
 unfold yq;rw[ayw,avU,decide_eq_true_eq,decide_eq_true_eq,aw5,decide_eq_false_iff_not];constructor
 ·intro h; exact⟨fun j ai=>h j (by omega),h m (by omega)⟩
 ·rintro⟨h1,ad⟩ j ai;by_cases e:j=m
  ·rw[e]; exact ad
  ·exact h1 j (by omega)
abbrev AY (g:bc) (x:List B) :Bool:=yq g x g.ops.l.length
def AU (g:bc) :List (List B) :=g.ids.l.filter (AY g)
structure aa9 (g:bc) (eL:am) (w:U) (seen:List Bool) (k:Nat) (ae:bg) (l:am) :Prop where
 aP:ae 1=w
 aU:ae 2=.ptr eL.length 0 2
 dj:ae 8=.int .i64 seen.length
 gJ:ae 9=.int .i64 k
 ex:∃ v,ae 5=v/\cu 32 aO (eL++[.cells 2 [aK g.ids,bB g.ops]]) l v (kg g.ids.l seen k) (kg g.ids.l seen k).isEmpty
set_option maxHeartbeats 4000000 in
theorem aj7 (g:bc) (aq:et g) {eL:am} {w:U} {k8:Nat} {seen:List Bool} (ak:seen.length=g.ids.l.length) (hw:bH 1 eL w k8 (seen.map iF)) (agZ:k8<eL.length) {K:U->am->Prop}
  (aY:∀ v l',cu 32 aO eL l' v (kg g.ids.l seen seen.length) (kg g.ids.l seen seen.length).isEmpty->K v l') :
  c7 Tryz.prog GS 89 [cl g,w] eL (c:=⟨K⟩) :=by
 apply bp Tryz.func89 [];have az:cy=140737488355328:=rfl;have fE:=aq.li;have ef:cK (.ar 1) w=some (.int .i64 seen.length) :=by have:=hw.len; simpa using this
 simp[cl,cP,ef];refine cI seen.length (aa9 g eL w seen) ?_ ⟨by simp,by simp,by simp,by simp,.aT,by simp,cu.nil⟩;rintro k ae l hk ⟨aP,aU,dj,gJ,v,bi,e8⟩;obtain⟨ae,rfl⟩:=lj aP aU bi dj gJ;clear aP aU bi dj gJ;have dV:l[eL.length]? = some (.cells 2 [aK g.ids,bB g.ops]) :=by rw[e8.same _ (by simp)]; simp
 have w7:bH 1 l w k8 (seen.map iF) :=hw.nZ (.inr (by rw[e8.same _ (by simp; omega),avQ agZ]));by_cases cq:k<seen.length
 ·obtain⟨b,ag,_⟩:=bx cq;obtain⟨x,af,cE⟩:=bx (l:=g.ids.l) (k:=k) (by omega);have aR:IntKind.i64.wrap ((k:Int)+1)=((k+1:Nat) :Int) :=by rw[IntKind.wrap_i64]; omega
  obtain⟨p,cs,o,jY,lN,Ca,rk⟩:=w7.q.get (k:=.i64) (i:=k) (e:=iF b) (by rw[avV,ag]; rfl);have sy:cs[o]? = some (.bool b) :=by
   have ad:((cs.drop o).take 1)[0]? = (iF b)[0]?:=by rw[rk]
   rw[awb (by omega)] at ad;simpa [iF] using ad
  have lv:ck (.ar 32) (aK g.ids) (.int .i64 (k:Int))=some (.b3 (aO x) 0) :=by simp[aK,af]
  have y6:seen.getD k false=b:=by rw[awe,ag]; rfl
  have bf:=cC (aq.ids x cE);have l3:=Ik g.ids.l seen k;have qS:=Il g.ids.l seen k;have iM:=acJ lN;rw[y6] at qS;cases b with
  | false=>
   simp at qS;simp[cq,jY,lN,sy,iM,aR];exact⟨by simp,by simp,by simp,by simp,v,by simp,by rw[qS]; exact e8⟩
  | true=>
   rw[if_pos rfl,fL af] at qS;obtain⟨aZ,Xf,aV,ahD,CF⟩:=NM (by_:=32) (e8.more [a7.cells 32 (aO x)]) x (b:=l.length) (by simp) bf (by omega) (by omega) (by rw[az]; omega);obtain⟨X,cv⟩:∃ X,X=aO x:=⟨_,rfl⟩
   rw[<-cv] at lv bf aV;have j8:bt (rep 32 (.int .u8 0)) 0 X=X:=eM (by rw[bf]; rfl);simp[cq,jY,lN,sy,iM,dV,lv,bf,j8,avO,aV];refine dp.cx ?_;simp[cq,aR];exact⟨by simp,by simp,by simp,by simp,aZ,by simp,by rw[qS,show (kg g.ids.l seen k++[x]).isEmpty=false by simp]; exact ahD⟩
 ·have ob:k=seen.length:=by omega
  subst ob;simp[cq];exact aY _ _ (e8.base (by simp) (fun b ag=>avQ ag))
end Op

end Go.cb

/-
  Registers: what they are; checked, walked in both texts.
-/
import Derived.Test.YtobphgccoalchaaGreatDoorDl
set_option linter.unusedVariables false
set_option linter.unusedSimpArgs false
set_option linter.unnecessarySimpa false
namespace Go.ct
open Go Go.Proofs
set_option maxRecDepth 100000
namespace Op
open hK
structure cq where
 key:List UInt8
 val:g7
 dj:Q
 id:List B
instance:DecidableEq g7:=fun a b=>decidable_of_iff (a.kind=b.kind/\a.num=b.num/\a.bits=b.bits/\a.text=b.text) (by cases a; cases b; simp)
instance:DecidableEq cq:=fun a b=>decidable_of_iff (a.key=b.key/\a.val=b.val/\a.dj=b.dj/\a.id=b.id) (by cases a; cases b; simp)
def bU (r:cq) :List ad:=.str r.key::bQ r.val.kind::.int .i64 r.val.num::dm r.val.bits::.str r.val.text::dm r.dj::a1 r.id
abbrev gI:=dX cq
def cJ (s:gI) :ad:=c0 38 bU s
structure wS (r:cq) :Prop where
 id:r.id.length=32
 val:Ds r.val
def hS (l:List cq) :Prop:=∀ r∈l,wS r
theorem hr {r:cq} (h:r.id.length=32) :(bU r).length=38:=by simp[bU,c3 h]
theorem nB (r:cq) :a7 (bU r)=true:=by simp[bU,a7,ad.closed,fK]
theorem lu (s:gI) :(cJ s).closed=true:=ve nB s
def lg (l:List cq) (k:Nat) :cq:=l.getD k ⟨[],jN,0,[]⟩
theorem px {l:List cq} {k:Nat} {x:cq} (h:l[k]? = some x) :lg l k=x:=by
 unfold lg; rw[aC2,h]; rfl
def DZ (x:Q) :Bool:=decide (x.toNat<=1000000000000)
def lP (r:cq) :Bool:=hz r.key&&(j6 r.val&&DZ r.dj)
def sk (l:List cq) (k:Nat) :Bool:=lP (lg l k)&&(decide (k=0)||fi (lg l (k - 1)).key (lg l k).key)
def sl (l:List cq) :Bool:=decide (∀ k,k<l.length->sk l k=true)
def ix (l:List cq) :Int:=if 60<l.length then 4 else if sl l then 0 else 8
theorem Tg {l:List cq} (h:∀ k,k<l.length->sk l k=true) :sl l=true:=decide_eq_true h
theorem vn {l:List cq} {k:Nat} (hk:k<l.length) (h:sk l k=false) :sl l=false:=decide_eq_false fun aR=>by rw[aR k hk] at h; cases h
theorem DY {E:List ad} (h:E.length=38) :bO (ad.str [] ::.int .u8 0::.int .i64 0::.int .u64 0::.str [] ::.int .u64 0::rep 32 (.int .u8 0)) 0 E=E:=fM (by rw[h]; rfl)
theorem Sm (x:Q) :((1000000000000:Int)<u x)<->DZ x=false:=by
 unfold DZ u;rw[decide_eq_false_iff_not];omega
theorem acn (a b:List UInt8) :fi a b=false<->¬ a<b:=by
 rw[<-uG]; simp
set_option maxHeartbeats 4000000 in
theorem Ns (s:gI) (ax:hS s.l) (ar:s.l.length<=1000000) :bE Tryz.prog GS 59 [.aM [cJ s]] (.int .i64 (ix s.l)) :=by
 refine bS Tryz.checked.mixed bP ?_;apply bw ahz ash;unfold Rg aa8 ix;have bu:c1 (.av 38) (cJ s)=some (.int .i64 s.l.length) :=by simp[cJ]
 by_cases h1:60<s.l.length
 ·have du:(60:Int)<(s.l.length:Int) :=by omega
  simp[bu,du];exact aJ (by rw[if_pos h1]) rfl
 ·have du:¬ (60:Int)<(s.l.length:Int) :=by omega
  simp[bu,du];refine c2 s.l.length (fun k ah l=>(∃ r,l=.cells 1 [cJ s] ::r)/\ah 1=.ptr 0 0 1/\ah 10=cJ s/\ah 11=.int .i64 s.l.length/\ah 12=.int .i64 k/\∀ j,j<k->sk s.l j=true) ?_ (by simp);rintro k ah l hk ⟨⟨r,rfl⟩,aW,gJ,hN,g1,ap⟩;obtain⟨ah,rfl⟩:=hW aW gJ hN g1;clear aW gJ hN g1;unfold W7;simp;refine im (fun h=>?_) (fun h=>?_)
  ·simp only[decide_eq_true_eq] at h;obtain⟨y,aE,b6⟩:=bV (l:=s.l) (k:=k) (by omega);have b8:=hr (ax y b6).id;have a2:IntKind.i64.wrap ((k:Int)+1)=((k+1:Nat) :Int) :=by rw[IntKind.wrap_i64]; omega
   have tO:=Iv ⟨2#8,y.key,jN⟩;rw[NT] at tO;have ik:=Nh y.val;have eC:sk s.l k=(lP y&&(decide (k=0)||fi (lg s.l (k - 1)).key y.key)) :=by unfold sk; rw[px aE]
   have bZ:cC (.av 38) (cJ s) (.int .i64 (k:Int))=some (.cm (bU y) 0) :=by simp[cJ,aE]
   have hx:=DY b8;have dH:(bU y).take 38=bU y:=aCI (by omega);have mv:∀ h,(bU y)[0]'h=.str y.key:=fun _=>rfl
   have ol:∀ h,(bU y)[5]'h=dm y.dj:=fun _=>rfl
   have xw:((bU y).tail).take 4=c7 y.val:=rfl;have nL:=Sm y.dj;have kY:a7 (c7 y.val)=true:=by simp[c7,a7,ad.closed]
   obtain⟨R,fR⟩:∃ R,R=bU y:=⟨_,rfl⟩
   obtain⟨ad2,Jx⟩:∃ V,V=c7 y.val:=⟨_,rfl⟩
   rw[<-fR] at b8 bZ hx dH mv ol xw;rw[<-Jx] at ik xw kY;simp[bZ,b8,hx,dH,mv];refine a8 tO rfl ?_;cases bd:hz y.key with
   | false=>
    have:lP y=false:=by unfold lP; rw[bd]; rfl
    rw[this,aDJ] at eC;simp[gT];exact aJ (by rw[if_neg h1,vn h eC]; rfl) rfl
   | true=>
    simp[gT,b8,xw];refine a8 ik (by simp[a7,ad.closed,kY]) ?_;cases bM:j6 y.val with
    | false=>
     have:lP y=false:=by unfold lP; rw[bd,bM]; rfl
     rw[this,aDJ] at eC;simp[gT];exact aJ (by rw[if_neg h1,vn h eC]; rfl) rfl
    | true=>
     cases dq:DZ y.dj with
     | false=>
      have:lP y=false:=by unfold lP; rw[bd,bM,dq]; rfl
      rw[this,aDJ] at eC;have nG:=nL.2 dq;simp[gT,b8,ol,nG];exact aJ (by rw[if_neg h1,vn h eC]; rfl) rfl
     | true=>
      have nG:¬ (1000000000000:Int)<u y.dj:=fun h=>by rw[nL.1 h] at dq; cases dq
      have:lP y=true:=by unfold lP; rw[bd,bM,dq]; rfl
      rw[this,aDL] at eC;rcases k with _ | k
      ·simp[gT,b8,ol,nG,a2];exact⟨by omega,by rw[IntKind.wrap_i64]; omega,by rw[eC]; rfl⟩
      ·obtain⟨x,al,dT⟩:=bV (l:=s.l) (k:=k) (by omega);have fO:cC (.av 38) (cJ s) (.int .i64 (k:Int))=some (.cm (bU x) 0) :=by simp[cJ,al]
       have vw:(bU x)[0]? = some (.str x.key) :=rfl;obtain⟨ad4,zB⟩:∃ X,X=bU x:=⟨_,rfl⟩
       rw[<-zB] at fO vw;have dG:IntKind.i64.wrap (k:Int)=(k:Int) :=by rw[IntKind.wrap_i64]; omega
       have h5:(0:Int)<(k:Int)+1:=by omega
       simp only[aEu,px al,aE5,aFw,and_false,decide_false,aEF] at eC;simp[gT,b8,ol,nG,h5,dG,fO,vw,mv];have JJ:ob .geq x.key y.key=some (.bool (!fi x.key y.key)) :=rfl;rw[JJ];cases fl:fi x.key y.key with
       | true=>
        rw[fl] at eC;simp[a2];refine⟨by omega,by rw[IntKind.wrap_i64]; omega,fun j am=>?_⟩;by_cases eL:j=k+1
        ·rw[eL,eC]
        ·exact ap j (by omega)
       | false=>
        rw[fl] at eC;simp;exact aJ (by rw[if_neg h1,vn h eC]; rfl) rfl
  ·simp[h];have gV:k=s.l.length:=by simp at h; omega
   exact aJ (by rw[if_neg h1,if_pos (Tg fun j am=>ap j (by omega))]) rfl
def BB (a b:Q) :Int:=if a.toNat<b.toNat then -1 else if b.toNat<a.toNat then 1 else 0
theorem XK (a:Q) :bE Tryz.prog GS 234 [dm a] (.bool false) :=by
 refine bS Tryz.checked.mixed bP ?_;apply bw agJ arq;unfold Qq aak;simp;exact aJ rfl rfl
theorem aiu (a b:Q) :bE Tryz.prog GS 193 [dm a,dm b] (.int .i64 (BB a b)) :=by
 refine bS Tryz.checked.mixed bP ?_;apply bw agh aqW;unfold PX ZP BB;simp;refine a8 (XK a) rfl ?_;simp;refine a8 (XK b) rfl ?_;by_cases h1:a.toNat<b.toNat
 ·simp[h1,dm,u];exact aJ rfl rfl
 ·by_cases ag:b.toNat<a.toNat
  ·simp[h1,ag,dm,u];exact aJ rfl rfl
  ·simp[h1,ag,dm,u];exact aJ rfl rfl
def oD (s:Q) (x:List B) (t:Q) (y:List B) :Bool:=decide (t.toNat<s.toNat)||(decide (s=t)&&decide (0<cI x y))
theorem aoe (s:Q) (x:List B) (t:Q) (y:List B) :(0<we (BB s t) (cI x y))<->oD s x t y=true:=by
 unfold we BB oD;by_cases h1:s.toNat<t.toNat
 ·have ag:s≠t:=fun h=>by rw[h] at h1; omega
  simp[h1,ag]; omega
 ·by_cases ag:t.toNat<s.toNat
  ·simp[h1,ag]
  ·have aq:s=t:=aCV (by omega);simp[aq]
theorem X8 {l:aw} {j:Nat} {r:cq} (aD:r.id.length=32) (am:l[j]? = some (.cells 38 (bU r))) :eJ 1 l (.av 1 j 6 32 32 38) j (r.id.map cu) :=by
 refine .av j 6 32 32 38 (bU r) _ am (hr aD) (by simp[aD]) (fun e au=>?_) (aCL _) (by omega) ?_
 ·obtain⟨x,_,rfl⟩:=aC9.1 au; rfl
 ·simp only[bU,aFy,aDH];rw[aCI (by simp[a1,aD]),xa]; rfl
theorem av4 (a b:cq) (aD:a.id.length=32) (ai:b.id.length=32) :bE Tryz.prog GS 139 [.aM (bU a),.aM (bU b)] (.bool (oD a.dj a.id b.dj b.id)) :=by
 refine bS Tryz.checked.mixed bP ?_;apply bw afA aqg;unfold Ph Zb;have h1:=hr aD;have ag:=hr ai;have aq:=c3 aD;have aH:=c3 ai;have akf:∀ h,(bU a)[5]'h=dm a.dj:=fun _=>rfl
 have akl:∀ h,(bU b)[5]'h=dm b.dj:=fun _=>rfl
 simp[h1,ag,akf,akl];refine a8 (aiu _ _) rfl ?_;have ak:=Er (some a.id) (some b.id) (by simp[aD,ai]);simp;refine i3 ak ?_ rfl ?_
 ·exact .cons ((X8 (j:=0) (r:=a) aD rfl).mO (fun _=>rfl) (some a.id) rfl rfl) (.cons ((X8 (j:=1) (r:=b) ai rfl).mO (fun _=>rfl) (some b.id) rfl rfl) .nil)
 ·simp;refine i3 (X2 (BB a.dj b.dj) (cI a.id b.id)) (.cons (abT (by simp)) .nil) rfl ?_;have ar:=aoe a.dj a.id b.dj b.id;simp;refine aJ (congrArg ad.bool ?_) rfl;rw[Bool.eq_iff_iff,decide_eq_true_eq]; exact ar
theorem as0 (s:Q) (x:List B) (r:cq) (al:x.length=32) (aC:r.id.length=32) :bE Tryz.prog GS 112 [dm s,.aM (a1 x),.aM (bU r)] (.bool (oD s x r.dj r.id)) :=by
 refine bS Tryz.checked.mixed bP ?_;apply bw afe apU;unfold OU YP oD;have h1:=hr aC;have ag:=c3 al;have ol:∀ h,(bU r)[5]'h=dm r.dj:=fun _=>rfl
 have Js:(bU r).drop 6=a1 r.id:=rfl;have tY:=c3 aC;have ak:=Mp x r.id al aC;have eu:=fK x;have gw:=fK r.id;unfold fL at ak;obtain⟨X,ce⟩:∃ X,X=a1 x:=⟨_,rfl⟩
 obtain⟨Y,dB⟩:∃ Y,Y=a1 r.id:=⟨_,rfl⟩
 have fD:bE Tryz.prog GS 107 [.aM X,.aM Y] (.int .i64 (cI x r.id)) :=by rw[ce,dB]; exact ak
 obtain⟨R,fR⟩:∃ R,R=bU r:=⟨_,rfl⟩
 rw[<-fR] at h1 ol Js ⊢;rw[<-ce] at ag eu ⊢;rw[<-dB] at Js gw tY;by_cases aP:r.dj.toNat<s.toNat
 ·simp[h1,ag,ol,aP,u]
  skip
  exact aJ (by simp[aP]) rfl
 ·by_cases au:s=r.dj
  ·simp[h1,ag,ol,au,Js,tY,aCI];refine a8 fD (by simp[a7,ad.closed,eu,gw]) ?_;simp;exact aJ (by simp[au]) rfl
  ·have gM:¬ ((s.toNat:Int)=(r.dj.toNat:Int)) :=fun h=>au (aCV (by omega))
   simp[h1,ag,ol,aP,au,gM,u];exact aJ (by simp[aP,au]) rfl
theorem abH (s:gI) (ax:hS s.l) (ar:s.l.length<=1000000) (x:List UInt8) :bE Tryz.prog GS 15 [cJ s,.str x] (.int .i64 (g3 x (s.l.map cq.key) 0)) :=by
 refine bS Tryz.checked.mixed bP ?_;apply bw afU aqA;unfold EA Zn;have bu:c1 (.av 38) (cJ s)=some (.int .i64 s.l.length) :=by simp[cJ]
 simp;refine c2 s.l.length (fun k ah l=>ah 0=cJ s/\ah 1=.str x/\ah 5=.int .i64 k/\∀ (j:Nat) (z:List UInt8),j<k->(s.l.map cq.key)[j]? = some z->z≠x) ?_ (by simp);rintro k ah l hk ⟨cd,aW,bC,ap⟩;obtain⟨ah,rfl⟩:=jJ cd aW bC;clear cd aW bC;unfold Wk;by_cases dt:k<s.l.length
 ·obtain⟨y,aE,b6⟩:=bV dt;have a2:IntKind.i64.wrap ((k:Int)+1)=((k+1:Nat) :Int) :=by rw[IntKind.wrap_i64]; omega
  have bZ:cC (.av 38) (cJ s) (.int .i64 (k:Int))=some (.cm (bU y) 0) :=by simp[cJ,aE]
  have zC:(bU y)[0]? = some (.str y.key) :=rfl;have An:(s.l.map cq.key)[k]? = some y.key:=by rw[aCO,aE]; rfl
  obtain⟨Y,dB⟩:∃ Y,Y=bU y:=⟨_,rfl⟩
  rw[<-dB] at bZ zC;by_cases au:y.key=x
  ·have fO:=vU (n:=0) An ap au;simp[bu,dt,bZ,zC,au];exact aJ (by rw[fO]; simp) rfl
  ·simp[bu,dt,bZ,zC,au,a2];intro j z am Be am6 az;have uh:(s.l.map cq.key)[j]? = some z:=by rw[aCO,am6,<-az]; rfl
   by_cases eL:j=k
   ·subst eL; rw[An] at uh; obtain rfl:=Option.some.inj uh; exact au
   ·exact ap j z (by omega) uh
 ·have iM:k=s.l.length:=by omega
  simp[bu,dt];exact aJ (by rw[Dd fun j z az=>ap j z (by have:=(aCJ.1 az).1; simp at this; omega) az]) rfl
def Lm:List mi:=.s::.i .u8::.i .i64::.i .u64::.s::.i .u64::List.replicate 32 (.i .u8)
theorem an2:qw Tryz.prog 20 50=some Lm:=by kernel_rfl
theorem XT {r:cq} (h:r.id.length=32) :ir Lm (bU r)=true:=by
 unfold Lm bU;have:=yn r.id;rw[h] at this;simp only[ir,D5,aDL];exact this
theorem aez {a b:cq} (aD:a.id.length=32) (ai:b.id.length=32) :fJ (bU a) (bU b)=decide (a=b) :=by
 unfold bU a1;simp only[fJ,ad.beq];rw[Bp a.id b.id (by omega)];obtain⟨cn,⟨ft,lM,dE,t1⟩,hF,dO⟩:=a;obtain⟨cc,⟨ei,nl,dA,t2⟩,jG,fF⟩:=b;simp only[cq.mk.injEq,g7.mk.injEq];by_cases h1:cn=cc<;>by_cases ag:ft=ei<;>by_cases aq:lM=nl<;>by_cases aH:dE=dA<;>by_cases bd:t1=t2<;>by_cases bM:hF=jG<;>by_cases dq:dO=fF<;>simp[h1,ag,aq,aH,bd,bM,dq]
theorem abM {a b:cq} (aD:a.id.length=32) (ai:b.id.length=32) :gu Tryz.prog .neq 50 (.aM (bU a)) (.aM (bU b))=some (.bool (!decide (a=b))) :=by
 rw[Et an2 (by kernel_rfl) (by kernel_rfl) (XT aD) (XT ai),aez aD ai]
theorem at6 (a b:gI) (aD:hS a.l) (ai:hS b.l) (ar:a.l.length<=1000000) :bE Tryz.prog GS 57 [.aM [cJ a],.aM [cJ b]] (.bool (decide (a.l=b.l))) :=by
 refine bS Tryz.checked.mixed bP ?_;apply bw ahx asf;unfold Re aa6;have ht:c1 (.av 38) (cJ a)=some (.int .i64 a.l.length) :=by simp[cJ]
 have iX:c1 (.av 38) (cJ b)=some (.int .i64 b.l.length) :=by simp[cJ]
 by_cases h1:a.l.length=b.l.length
 ·have du:((a.l.length:Int)=b.l.length) :=by omega
  simp[ht,iX,h1];refine c2 a.l.length (fun k ah l=>l=[.cells 1 [cJ a],.cells 1 [cJ b]]/\ah 2=.ptr 0 0 1/\ah 3=.ptr 1 0 1/\ah 5=.int .i64 k/\∀ j,j<k->a.l[j]? = b.l[j]?) ?_ (by simp);rintro k ah l hk ⟨rfl,bg,bj,bC,ap⟩;obtain⟨s,rfl⟩:=jJ bg bj bC;clear bg bj bC;unfold W5;simp[ht];refine im (fun h=>?_) (fun h=>?_)
  ·simp only[decide_eq_true_eq] at h;obtain⟨x,al,dT⟩:=bV h;obtain⟨y,aE,b6⟩:=bV (l:=b.l) (k:=k) (by omega);have a2:IntKind.i64.wrap ((k:Int)+1)=((k+1:Nat) :Int) :=by rw[IntKind.wrap_i64]; omega
   have bZ:cC (.av 38) (cJ a) (.int .i64 (k:Int))=some (.cm (bU x) 0) :=by simp[cJ,al]
   have je:cC (.av 38) (cJ b) (.int .i64 (k:Int))=some (.cm (bU y) 0) :=by simp[cJ,aE]
   have bm:=hr (aD x dT).id;have b8:=hr (ai y b6).id;have b2:=abM (aD x dT).id (ai y b6).id;obtain⟨X,ce⟩:∃ X,X=bU x:=⟨_,rfl⟩
   obtain⟨Y,dB⟩:∃ Y,Y=bU y:=⟨_,rfl⟩
   rw[<-ce] at bZ bm b2;rw[<-dB] at je b8 b2;simp[bZ,je,bm,b8,aCI,b2];by_cases au:x=y
   ·simp[au,a2];refine⟨by omega,fun j am=>?_⟩;by_cases eL:j=k
    ·subst eL; rw[al,aE,au]
    ·exact ap j (by omega)
   ·simp[au];refine aJ (congrArg ad.bool (decide_eq_false fun eP=>au ?_).symm) rfl;rw[eP,aE] at al; exact (Option.some.inj al).symm
  ·simp[h];have gV:k=a.l.length:=by simp at h; omega
   refine aJ (congrArg ad.bool (decide_eq_true ?_).symm) rfl;apply aDF;intro j;by_cases am:j<a.l.length
   ·exact ap j (by omega)
   ·rw[aC0 (by omega),aC0 (by omega)]
 ·have du:¬ ((a.l.length:Int)=b.l.length) :=by omega
  simp[ht,iX,h1,du];exact aJ (by rw[decide_eq_false (fun eP=>h1 (by rw[eP]))]) rfl
theorem anV (r:cq) (h:r.id.length=32) :bE Tryz.prog GS 93 [.aM (bU r)] (.str r.key) :=by
 refine bS Tryz.checked.mixed bP ?_;apply bw ah0 asI;unfold RG abA;have h1:=hr h;have mv:∀ h,(bU r)[0]'h=.str r.key:=fun _=>rfl
 obtain⟨R,fR⟩:∃ R,R=bU r:=⟨_,rfl⟩
 rw[<-fR] at h1 mv ⊢;simp[h1,mv];exact aJ rfl rfl
theorem ajF:js Tryz.prog 93=true:=by kernel_rfl
theorem SQ:js Tryz.prog 143=true:=by kernel_rfl
theorem SD (r:cq) (h:r.id.length=32) (k:List UInt8) {b:Nat} {l:aw} (ai:l[b]? = some (.cells 1 [.fn 93 [] []])) {K:ad->aw->Prop} (bA:K (.int .i64 (pQ r.key k)) (l++[.cells 38 (bU r)])) :
  dS Tryz.prog GS 143 [.aM (bU r),.str k,.ptr b 0 1] l (c:=⟨K⟩) :=by
 apply bw afF aql;unfold Pn Zg;have h1:=hr h;have Uv:=anV r h;have gw:=nB r;obtain⟨R,fR⟩:∃ R,R=bU r:=⟨_,rfl⟩
 rw[<-fR] at h1 Uv gw bA ⊢;have fo:b<l.length:=(aCJ.1 ai).1;have gK:(l++[bp.cells 38 R])[b]? = some (.cells 1 [.fn 93 [] []]) :=by rw[aCK fo]; exact ai
 simp[h1,gK,aCI];refine⟨ajF,a8 Uv (by simp[a7,ad.closed,gw]) ?_⟩;simp;refine a8 (RZ _ _) rfl ?_;simpa using bA
def gd (l:List cq) (x:List UInt8) :Nat:=(l.takeWhile fun t=>fi t.key x).length
theorem R5 (x:List UInt8) :∀ {l:List cq} {p:Nat},p<=l.length->(∀ (t:Nat) (y:cq),t<p->l[t]? = some y->fi y.key x=true)->(∀ y,l[p]? = some y->fi y.key x=false)->gd l x=p
 | [],p,aF,_,_=>by simp at aF; subst aF; rfl
 | y::l,0,_,_,ag=>by
  have:=ag y rfl;unfold gd;rw[aEj,this]; rfl
 | y::l,p+1,aF,h1,ag=>by
  have:=h1 0 y (by omega) rfl;have aY:=R5 x (l:=l) (p:=p) (by simpa using aF) (fun t z aQ az=>h1 (t+1) z (by omega) (by simpa using az)) (fun z az=>ag z (by simpa using az));unfold gd at *
  rw[aEj,this];simp[aY]
def ly (l:List cq) (x:List UInt8) :Bool:=decide (gd l x<l.length)&&decide ((lg l (gd l x)).key=x)
def GK (l:List cq) (x:List UInt8) :Prop:=∀ (i j:Nat) (a b:cq),i<=j->l[i]? = some a->l[j]? = some b->fi b.key x=true->fi a.key x=true
theorem ait (a b:List UInt8) :(pQ a b<0)<->fi a b=true:=by
 unfold pQ;by_cases h:fi a b=true
 ·simp[h]
 ·rw[if_neg h];simp[h];split<;>omega
structure adA (s:gI) (x:List UInt8) (m:Nat) (ah:bB) (l:aw) :Prop where
 ex:∃ (i j:Nat) (r:aw),j - i=m/\i<=j/\j<=s.l.length/\l=.cells 1 [.fn 93 [] []] ::r/\ah 0=cJ s/\ah 1=.str x/\ah 2=.fn 143 [] [.ptr 0 0 1]/\ah 8=.int .i64 s.l.length/\ah 9=.int .i64 i/\ah 10=.int .i64 j ∧
  (∀ (t:Nat) (y:cq),t<i->s.l[t]? = some y->fi y.key x=true)/\(∀ (t:Nat) (y:cq),j<=t->s.l[t]? = some y->fi y.key x=false)
theorem auc (s:gI) (ax:hS s.l) (ar:s.l.length<=1000000) (x:List UInt8) (hm:GK s.l x) {K:ad->aw->Prop} (bA:∀ l',K (.b5 [.int .i64 (gd s.l x),.bool (ly s.l x)]) l') :
  dS Tryz.prog GS 142 [cJ s,.str x,.fn 143 [] [.ptr 0 0 1]] [.cells 1 [.fn 93 [] []]] (c:=⟨K⟩) :=by
 apply bw afE aqk;unfold Pm Zf;have bu:c1 (.av 38) (cJ s)=some (.int .i64 s.l.length) :=by simp[cJ]
 simp[bu];refine rv (adA s x) ?_ s.l.length _ _ ⟨0,s.l.length,[],by omega,by omega,by omega,rfl,by simp,by simp,by simp,by simp,by simp,by simp,fun t y h=>by omega,fun t y h ag=>by rw[aC0 h] at ag; cases ag⟩;rintro m ah l ⟨i,j,r,g2,jx,eW,rfl,cd,aW,bg,et,hB,gJ,h1,ag⟩;obtain⟨ah,rfl⟩:=A8 cd aW bg et hB gJ;clear cd aW bg et hB gJ;unfold Wg;by_cases aP:i<j
 ·obtain⟨h,aR⟩:∃ h,h=(i+j) / 2:=⟨_,rfl⟩
  have cb:IntKind.i64.wrap ((i:Int)+j)=((i+j:Nat) :Int) :=by rw[IntKind.wrap_i64]; omega
  have w2:IntKind.u64.wrap ((i+j:Nat) :Int)=((i+j:Nat) :Int) :=by rw[uO,aDI]; unfold u; rw[aC7,aC1 (by omega)]
  have eF:=acs (i+j) (by omega);have n5:IntKind.i64.wrap (h:Int)=(h:Int) :=by rw[IntKind.wrap_i64]; omega
  have qL:IntKind.i64.wrap ((h:Int)+1)=((h+1:Nat) :Int) :=by rw[IntKind.wrap_i64]; omega
  rw[<-aR] at eF;obtain⟨y,aE,b6⟩:=bV (l:=s.l) (k:=h) (by omega);have b8:=hr (ax y b6).id;have bZ:cC (.av 38) (cJ s) (.int .i64 (h:Int))=some (.cm (bU y) 0) :=by simp[cJ,aE]
  have p2:=ait y.key x;have xL:=fun (K:ad->aw->Prop)=>SD y (ax y b6).id x (b:=0) (l:=.cells 1 [.fn 93 [] []] ::r) (K:=K) rfl
  obtain⟨Y,dB⟩:∃ Y,Y=bU y:=⟨_,rfl⟩
  rw[<-dB] at b8 bZ xL;obtain⟨N,fu⟩:∃ N,N=i+j:=⟨_,rfl⟩
  rw[<-fu] at cb w2 eF;simp[aP,cb,w2,eF,n5,bZ,b8,aCI];refine⟨SQ,xL _ ?_⟩;by_cases bM:pQ y.key x<0
  ·simp[bM,qL];refine⟨j - (h+1),by omega,h+1,j,_,rfl,by omega,by omega,rfl,by simp,by simp,by simp,by simp,by simp,by simp,fun t z aQ az=>?_,ag⟩;exact hm t h z y (by omega) az aE (p2.1 bM)
  ·simp[bM];refine⟨h - i,by omega,i,h,_,rfl,by omega,by omega,rfl,by simp,by simp,by simp,by simp,by simp,by simp,h1,fun t z aQ az=>?_⟩;cases dq:fi z.key x with
   | false=>rfl
   | true=>exact absurd (p2.2 (hm h t y z aQ aE az dq)) bM
 ·obtain rfl:i=j:=by omega
  have ak:=R5 x (l:=s.l) (p:=i) eW h1 (fun y aE=>ag i y (aCL _) aE);by_cases dZ:i<s.l.length
  ·obtain⟨y,aE,b6⟩:=bV (l:=s.l) (k:=i) dZ;have b8:=hr (ax y b6).id;have bZ:cC (.av 38) (cJ s) (.int .i64 (i:Int))=some (.cm (bU y) 0) :=by simp[cJ,aE]
   have Cn:=R0 y.key x;have xL:=fun (K:ad->aw->Prop)=>SD y (ax y b6).id x (b:=0) (l:=.cells 1 [.fn 93 [] []] ::r) (K:=K) rfl
   obtain⟨Y,dB⟩:∃ Y,Y=bU y:=⟨_,rfl⟩
   rw[<-dB] at b8 bZ xL;simp[dZ,bZ,b8,aCI];refine⟨SQ,xL _ ?_⟩;simp;have:ly s.l x=decide (pQ y.key x=0) :=by
    unfold ly;rw[ak,px aE,decide_eq_true dZ,aDL,decide_eq_decide];exact Cn.symm
   rw[<-ak,<-this];exact bA _
  ·simp[dZ];have:ly s.l x=false:=by
    unfold ly;rw[ak,decide_eq_false dZ,aDJ]
   rw[<-this,<-ak];exact bA _
theorem SI (s:gI) (ax:hS s.l) (ar:s.l.length<=1000000) (x:List UInt8) (hm:GK s.l x) :
  bE Tryz.prog GS 92 [cJ s,.fn 93 [] [],.str x] (.b5 [.int .i64 (gd s.l x),.bool (ly s.l x)]) :=by
 refine bS Tryz.checked.mixed bP ?_;apply bw ahZ asH;unfold RF abz;simp;refine auc s ax ar x hm fun l'=>?_
 simp;exact aJ rfl rfl
theorem XF (s:gI) :gu Tryz.prog .eql 32 (c0 38 bU s) .aK=some (.bool s.isNone) :=Es (e:=50) (by kernel_rfl) 38 bU s
theorem zm {l:List cq} (h:hS l) :((l.map bU).flatten).length=l.length*38:=by
 rw[mo (z:=38) (fun e au=>by obtain⟨y,aE,rfl⟩:=aC9.1 au; exact hr (h y aE).id),aCZ]
theorem Ya {l:aw} {b n:Nat} {a:List cq} (aD:hS a) (aI:a.length=n) (ai:l[b]? = some (.cells (n*38) (a.map bU).flatten)) :bW 38 l (.av 38 b 0 n n (n*38)) b (a.map bU) :=by
 have e1:=zm aD;refine .av b n n (n*38) _ _ ai (by rw[e1,aI]) (by simp[aI]) (fun e au=>?_) (aCL _) (aCL _) ?_
 ·obtain⟨y,aE,rfl⟩:=aC9.1 au; exact hr (aD y aE).id
 ·rw[aCI (by rw[e1,aI]; omega)]
structure ks (l:aw) (v:ad) (j:Nat) (xs:List cq) :Prop where
 o:bW 38 l v j (xs.map bU)
 v:v=.aK\/v=.av 38 j 0 xs.length xs.length (xs.length*38)
theorem ks.nil (l:aw) (j:Nat) :ks l .aK j [] :=⟨.nil j,.inl rfl⟩
theorem ks.frame {l l' : aw} {v:ad} {j:Nat} {xs:List cq} (h:ks l v j xs) (aL:v=.aK\/l'[j]? = l[j]?) :ks l' v j xs:=⟨h.o.nF aL,h.v⟩
theorem ks.full {l:aw} {j:Nat} {xs:List cq} (ax:hS xs) (ai:l[j]? = some (.cells (xs.length*38) (xs.map bU).flatten)) :ks l (.av 38 j 0 xs.length xs.length (xs.length*38)) j xs:=⟨Ya ax rfl ai,.inr rfl⟩
theorem ks.block {l:aw} {v:ad} {j:Nat} {xs:List cq} (h:ks l v j xs) (ay:v≠.aK) :v=.av 38 j 0 xs.length xs.length (xs.length*38)/\l[j]? = some (.cells (xs.length*38) (xs.map bU).flatten) :=by
 have qp:=h.v.resolve_left ay;refine⟨qp,?_⟩;have ax:=h.o;rw[qp] at ax;generalize au:ad.av 38 j 0 xs.length xs.length (xs.length*38)=w at ax;generalize lC:xs.map bU=es at ax;cases ax with
 | nil=>cases au
 | av anO n cap sz cs es ai ar aI az ak dv bT=>
  injection au with _ a2 _ b7 dG j8
  rw[ai,<-j8,<-bT,aCI (by rw[ar,<-j8,<-b7]; omega)]
def MV (v:ad) (xs:List cq) :gI:=match cX v with | true=>none | false=>some xs
theorem ks.auZ {l:aw} {v:ad} {j:Nat} {xs:List cq} (h:ks l v j xs) :(MV v xs).l=xs:=by
 rcases h.v with ay | ay
 ·have:=h.o;rw[ay] at this;have al:=this.q.rz;rw[aDQ] at al;rw[ay,al]; rfl
 ·rw[ay]; rfl
theorem ks.rd {l:aw} {v:ad} {j:Nat} {xs:List cq} (h:ks l v j xs) :gH (cj l) v (cJ (MV v xs)) :=by
 rcases h.v with ay | ay
 ·rw[ay]; exact .same _ rfl
 ·have:=h.o.mO (fun x=>nB x) (some xs) (by rw[ay]; rfl) rfl;rw[ay] at this ⊢;exact this
theorem aio (s:gI) (ax:hS s.l) (ap:s.l.length<=1000000) {l:aw} {K:ad->aw->Prop} (aG:s=none->K .aK l)
  (h1:∀ a,s=some a->K (.av 38 l.length 0 a.length a.length (a.length*38)) (l++[.cells (a.length*38) (a.map bU).flatten])) :
  dS Tryz.prog GS 155 [cJ s] l (c:=⟨K⟩) :=by
 apply bw afQ aqw;unfold Py Zs;have aC:c4=140737488355328:=rfl;cases s with
 | none=>
  simp[cJ,XF];exact aG rfl
 | some a=>
  simp at ap;have e1:=zm (l:=a) ax;have jb:g8 (l++[bp.cells 0 []]) 38 96 (.av 38 l.length 0 0 0 0) (c0 38 bU (some a))=some (.av 38 l.length 0 a.length a.length (a.length*38),l++[.cells (a.length*38) (a.map bU).flatten]) :=by
   unfold g8;rw[qX];simp only[dX.Gt];unfold iW;by_cases az:a.length=0
   ·have:a=[] :=aDk.1 az;subst this;simp
   ·rw[if_neg az,if_neg (by omega)];simp[aC];exact⟨by omega,fun h=>by simp[h]⟩
  simp[cJ,XF,jb];refine dx.c6 ?_;simp;exact h1 a rfl
theorem anr {l:aw} {b bv n i:Nat} {a:List cq} {x:cq} (aD:hS a) (al:wS x) (aI:a.length=n) (ai:l[b]? = some (.cells (n*38) (a.map bU).flatten)) (jc:l[bv]? = some (.cells 38 (bU x))) (b2:bv≠b) (aB:i<=n) (qc:n<=1000000)
  {K:ad->aw->Prop} (bA:K (.av 38 l.length 0 (n+1) (n+1) ((n+1)*38)) (l.set b .dead++[.cells ((n+1)*38) ((fq a i x).map bU).flatten])) :
  dS Tryz.prog GS 138 [.av 38 b 0 n n (n*38),.int .i64 i,.av 38 bv 0 1 1 38] l (c:=⟨K⟩) :=by
 have fo:=fW ai;have ap:=Lb (P:=Tryz.prog) (G:=GS) (h:=cj l) K8 (by kernel_rfl) (by kernel_rfl) (show jp Tryz.prog 50=some 96 by kernel_rfl) (by omega) (by omega) (by kernel_rfl) (b:=b) (bv:=bv) (len:=n) (cap:=n) (i:=i) (ln.2 ai) (ln.2 jc) b2 aB (aCL _) (by unfold c4; omega);rw[yU,oN _ fo,mU,aE2 (by omega)] at ap;refine⟨_,_,.ext ap,by simp,?_⟩;have e1:=zm aD;have b7:a.map bU=(a.take i).map bU++(a.drop i).map bU:=by rw[<-aDe,aDt]
 have Gc:((a.take i).map bU).flatten.length=i*38:=by
  rw[zm (fun t aQ=>aD t (aDs aQ)),aCX,aDE (by omega)]
 have zK:((a.drop i).map bU).flatten.length=(n - i)*38:=by
  rw[zm (fun t aQ=>aD t (aEf aQ)),aDS,aI]
 have cW:ma 38 (a.map bU).flatten (bU x) i n=((fq a i x).map bU).flatten:=by
  unfold ma fq;have h1:((a.map bU).flatten).take (i*38)=((a.take i).map bU).flatten:=by
   rw[b7,aDD,aDb (by omega),aCI (by omega)]
  have ag:((a.map bU).flatten).drop (i*38)=((a.drop i).map bU).flatten:=by
   rw[b7,aDD,aDp (by omega),aDC (by omega),aDq]
  have aq:(((a.drop i).map bU).flatten).take ((n - i)*38)=((a.drop i).map bU).flatten:=aCI (by omega);have aH:((a.map bU).flatten).drop ((n+1)*38)=[] :=aDC (by rw[e1,aI]; omega);rw[h1,ag,aq,aH,aDl];simp
 rw[cW];exact bA
theorem anq {l:aw} {bv:Nat} {x:cq} (jc:l[bv]? = some (.cells 38 (bU x))) {K:ad->aw->Prop} (bA:K (.av 38 l.length 0 1 1 38) (l++[.cells 38 (bU x)])) :
  dS Tryz.prog GS 138 [.aK,.int .i64 0,.av 38 bv 0 1 1 38] l (c:=⟨K⟩) :=by
 have ap:=La (P:=Tryz.prog) (G:=GS) (h:=cj l) K8 (by kernel_rfl) (by kernel_rfl) (show jp Tryz.prog 50=some 96 by kernel_rfl) (by omega) (by omega) (by kernel_rfl) (bv:=bv) (ln.2 jc) (by unfold c4; omega);rw[yU,mU] at ap;exact⟨_,_,.ext ap,by simp,bA⟩
theorem R4 (l:List cq) (x:List UInt8) :gd l x<=l.length:=by unfold gd; exact (List.takeWhile_prefix _).length_le
def rH (l:List cq) (x:cq) :List cq:=if ly l x.key=true then (if oD x.dj x.id (lg l (gd l x.key)).dj (lg l (gd l x.key)).id=true then l.set (gd l x.key) x else l) else fq l (gd l x.key) x
def fG (o:bJ) (x:List B) :cq:=⟨o.act.key,o.act.val,o.dj,x⟩
def hT (l:List cq) (o:bJ) (x:List B) :List cq:=if o.act.kind=4#8 then rH l (fG o x) else l
theorem Sl (o:bJ) :((u o.act.kind:Int)=4)<->o.act.kind=4#8:=rK o.act.kind 4#8
theorem K6 {l:List cq} {i:Nat} {x:cq} (h:hS l) (al:wS x) :hS (fq l i x) :=fun t aQ=>by
 rcases K5.1 aQ with e | e
 ·rw[e]; exact al
 ·exact h t e
theorem aud {l:List cq} {x:cq} (h:hS l) (al:wS x) :hS (rH l x)/\(rH l x).length<=l.length+1:=by
 unfold rH;split
 ·split
  ·refine⟨fun t aQ=>?_,by simp⟩;rcases aDX aQ with e | e
   ·exact h t e
   ·rw[e]; exact al
  ·exact⟨h,by omega⟩
 ·exact⟨K6 h al,by rw[Av]; omega⟩
set_option maxHeartbeats 8000000 in
theorem apB (o:bJ) (ax:Ds o.act.val) (x:List B) (al:x.length=32) {xs:List cq} (fa:hS xs) (aI:xs.length<=1000000) (hm:GK xs o.act.key) {l:aw} {v:ad} {j:Nat} (h:ks l v j xs) {K:ad->aw->Prop}
  (bA:∀ bl l' cx,ks l' bl cx (hT xs o x)->((v≠.aK/\cx=j)\/l.length<=cx\/bl=.aK)->l.length<=l'.length->(∀ b,b<l.length->(v=.aK\/b≠j)->l'[b]? = l[b]?)->(cX bl=true->cX v=true/\o.act.kind≠4#8)->(o.act.kind≠4#8->bl=v)->K bl l') :
  dS Tryz.prog GS 87 [v,.aM (bn o),.aM (a1 x)] l (c:=⟨K⟩) :=by
 apply bw ahT asC;unfold RA abu;have bm:=c3 al;have cH:(bn o).length=11:=rfl;have xu:∀ h,(bn o)[3]'h=bQ o.act.kind:=fun _=>rfl
 have zy:∀ h,(bn o)[4]'h=.str o.act.key:=fun _=>rfl
 have zx:∀ h,(bn o)[2]'h=dm o.dj:=fun _=>rfl
 have zz:((bn o).drop 5).take 4=c7 o.act.val:=rfl;have kW:(c7 o.act.val).length=4:=rfl;have Cy:=Sl o;obtain⟨O,eO⟩:∃ O,O=bn o:=⟨_,rfl⟩
 obtain⟨X,ce⟩:∃ X,X=a1 x:=⟨_,rfl⟩
 rw[<-eO] at cH xu zy zx zz ⊢;rw[<-ce] at bm ⊢;obtain⟨L,e0⟩:∃ L,L=l++[bp.cells 11 O,bp.cells 32 X] :=⟨_,rfl⟩
 have m3:L.length=l.length+2:=by rw[e0]; simp
 have Jo:∀ b,b<l.length->L[b]? = l[b]?:=fun b ai=>by rw[e0,aCK ai]
 have gB:L[l.length]? = some (.cells 11 O) :=by rw[e0,aCT (aCL _)]; simp
 have q1:L[l.length+1]? = some (.cells 32 X) :=by rw[e0,aCT (by omega)]; simp
 have am:v=.aK\/j<l.length:=h.o.lt;by_cases ew:o.act.kind=4#8
 ·have yc:=Cy.2 ew;have nd:hT xs o x=rH xs (fG o x) :=by unfold hT; rw[if_pos ew]
  have CK:wS (fG o x) :=⟨al,ax⟩
  have Cb:bU (fG o x)=.str o.act.key::bQ o.act.val.kind::.int .i64 o.act.val.num::dm o.act.val.bits::.str o.act.val.text::dm o.dj::X:=by rw[ce]; rfl
  have kV:=hr al (r:=fG o x);have Ca:∀ h,(bU (fG o x))[0]'h=.str o.act.key:=fun _=>rfl
  have rm:bO (rep 32 (.int .u8 0)) 0 X=X:=fM (by rw[bm]; rfl);have Aa:=DY kV;have ap:=h.auZ;obtain⟨s,jy⟩:∃ s,s=MV v xs:=⟨_,rfl⟩
  rw[<-jy] at ap;have tS:=SI s (by rw[ap]; exact fa) (by rw[ap]; exact aI) o.act.key (by rw[ap]; exact hm);rw[ap] at tS;have Ck:=nB (fG o x);obtain⟨T,dH⟩:∃ T,T=bU (fG o x) :=⟨_,rfl⟩
  rw[<-dH] at Cb kV Ca Aa Ck;obtain⟨rY,B9⟩:∃ rY,rY=L++[bp.cells 38 T] :=⟨_,rfl⟩
  have Jm:rY.length=l.length+3:=by rw[B9]; simp[m3]
  have Fe:∀ b,b<l.length->rY[b]? = l[b]?:=fun b ai=>by rw[B9,aCK (by omega)]; exact Jo b ai
  have ag:ks rY v j xs:=h.frame (am.imp_right fun am=>Fe j am);have U3:=ag.rd;rw[<-jy] at U3;have fh:rY[l.length+2]? = some (.cells 38 T) :=by rw[B9,aCT (by omega),m3]; simp
  have cd:∀ h,L[l.length]'h=.cells 11 O:=fun h=>(aCJ.1 gB).2
  have aW:∀ h,L[l.length+1]'h=.cells 32 X:=fun h=>(aCJ.1 q1).2
  have bg:∀ h,rY[l.length+2]'h=.cells 38 T:=fun h=>(aCJ.1 fh).2
  have kD:∀ y:bp,(L++[y]).set (l.length+2) (.cells 38 T)=rY:=fun y=>by rw[B9,aDu _ _ (by omega),m3]; simp
  have apE:∀ y:bp,(L++[y])[l.length+2]? = some y:=fun y=>by rw[aCT (by omega),m3]; simp
  simp[cH,bm,xu,zy,zx,zz,c7,yc,<-e0,gB,q1,m3,aCI,rm,<-Cb,kV,Aa,kD,apE,fh,Ca,cd,aW,bg];rw[<-B9];refine i3 tS (.cons U3 (.cons (.same _ rfl) (.cons (.same _ rfl) .nil))) rfl ?_;have eB:=R4 xs o.act.key;obtain⟨kw,e9⟩:∃ a,a=gd xs o.act.key:=⟨_,rfl⟩
  have ua:rH xs (fG o x)=if ly xs o.act.key=true then (if oD o.dj x (lg xs kw).dj (lg xs kw).id=true then xs.set kw (fG o x) else xs) else fq xs kw (fG o x) :=by rw[e9]; rfl
  rw[<-e9] at eB ⊢;cases aL:ly xs o.act.key with
  | false=>
   rw[aL,if_neg (by simp)] at ua;obtain⟨wR,Fc⟩:∃ wR,wR=rY++[bp.cells 38 T] :=⟨_,rfl⟩
   have ayt:wR.length=l.length+4:=by rw[Fc]; simp[Jm]
   have Jp:∀ b,b<l.length->wR[b]? = l[b]?:=fun b ai=>by rw[Fc,aCK (by omega)]; exact Fe b ai
   have ji:wR[l.length+3]? = some (.cells 38 T) :=by rw[Fc,aCT (by omega),Jm]; simp
   simp[Jm,fh,bg,kV,Aa,aCI,<-Fc];by_cases ay:v=.aK
   ·have x9:xs=[] :=by
     have:=h.o;rw[ay] at this;have:=this.q.rz
     rwa [aDQ] at this
    have TG:kw=0:=by rw[x9] at eB; simp at eB; exact eB
    rw[ay,TG];refine anq (x:=fG o x) (by rw[ji,dH]) ?_;simp;have qi:hT xs o x=[fG o x] :=by rw[nd,ua,x9,TG]; rfl
    refine bA _ _ wR.length ?_ (.inr (.inl (by omega))) (by simp; omega) (fun b ai _=>by rw[aCK (by omega)]; exact Jp b ai) (fun aR=>by cases aR) (fun aR=>absurd ew aR);rw[qi];exact ks.full (xs:=[fG o x]) (fun t aQ=>by rw[aDm] at aQ; rw[aQ]; exact CK) (by simp)
   ·obtain⟨qp,ai⟩:=h.block ay;have eW:=am.resolve_left ay;rw[qp];refine anr (a:=xs) (x:=fG o x) fa CK rfl (by rw[Jp j eW]; exact ai) (by rw[ji,dH]) (by omega) eB aI ?_;simp;refine bA _ _ wR.length ?_ (.inr (.inl (by omega))) (by simp; omega) (fun b ai he=>by rw[aCK (by simp; omega),aCU (fun e=>(he.resolve_left ay) e.symm)]; exact Jp b ai) (fun aR=>by cases aR) (fun aR=>absurd ew aR);rw[nd,ua];have bu:(fq xs kw (fG o x)).length=xs.length+1:=Av _ _ _;rw[<-bu];exact ks.full (K6 fa CK) (by rw[aCT (by simp)]; simp)
  | true=>
   rw[aL,if_pos rfl] at ua;have ss:=aL;unfold ly at ss;rw[aCQ,decide_eq_true_eq,<-e9] at ss;obtain⟨y,aE,b6⟩:=bV ss.1;have ya:lg xs kw=y:=px aE;rw[ya] at ua;have ay:v≠.aK:=fun ay=>by
    have:=h.o;rw[ay] at this;have:=this.q.rz;rw[aDQ] at this;rw[this] at aE; simp at aE
   have b8:=hr (fa y b6).id;have h3:=nB y;obtain⟨p,c,q,br,bI,a3,a4⟩:=ag.o.q.get (k:=.i64) (i:=kw) (e:=bU y) (by rw[aCO,aE]; rfl);have aP:=av4 (fG o x) y al (fa y b6).id;rw[<-dH] at aP;obtain⟨Y,dB⟩:∃ Y,Y=bU y:=⟨_,rfl⟩
   rw[<-dB] at a4 aP b8 h3;simp[fh,bg,kV,aCI,br,bI,a3,a4];refine a8 aP (by simp[a7,ad.closed,Ck,h3]) ?_;have iX:oD (fG o x).dj (fG o x).id y.dj y.id=oD o.dj x y.dj y.id:=rfl;rw[iX];cases ht:oD o.dj x y.dj y.id with
   | false=>
    rw[ht,if_neg (by simp)] at ua;simp;refine bA v rY j (by rw[nd,ua]; exact ag) (.inl ⟨ay,rfl⟩) (by omega) (fun b ai _=>Fe b ai) (fun aR=>absurd (jB.1 aR) ay) (fun aR=>absurd ew aR)
   | true=>
    rw[ht,if_pos rfl] at ua;obtain⟨ch,l',dE,dA,iD,kQ,qS⟩:=yo (X:=.aM (bU (fG o x))) rfl ag.o (fun y aE=>hr (fa y aE).id) ss.1 (by rw[<-dH]; exact kV);rw[br] at dE;obtain rfl:=Option.some.inj dE;rw[<-dH] at dA;simp[fh,bg,kV,aCI,br,dA];refine bA v l' j ?_ (.inl ⟨ay,rfl⟩) (by omega) (fun b ai he=>by rw[qS b (he.resolve_left ay)]; exact Fe b ai) (fun aR=>absurd (jB.1 aR) ay) (fun aR=>absurd ew aR);rw[nd,ua];refine⟨iD,.inr ?_⟩;rw[List.length_set];exact h.v.resolve_left ay
 ·have yc:¬ (u o.act.kind:Int)=4:=fun aR=>ew (Cy.1 aR)
  simp[cH,bm,xu,yc,<-e0,gB];have nd:hT xs o x=xs:=by unfold hT; rw[if_neg ew]
  refine bA v L j (by rw[nd]; exact h.frame (am.imp_right fun am=>Jo j am)) ?_ (by omega) (fun b ai _=>Jo b ai) (fun aR=>⟨aR,ew⟩) (fun _=>rfl);by_cases ay:v=.aK
  ·exact .inr (.inr ay)
  ·exact .inl ⟨ay,rfl⟩
theorem vc (s:gI) :(cJ s).cells=some [cJ s] :=by cases s<;>rfl
theorem zu {l:List cq} (h:ix l=0) :l.length<=60/\sl l=true:=by
 unfold ix at h;split at h
 ·cases h
 ·split at h
  ·rename_i h1 ag; exact⟨by omega,ag⟩
  ·cases h
theorem Tf {l:List cq} (h:sl l=true) {i:Nat} {a b:cq} (aD:l[i]? = some a) (ai:l[i+1]? = some b) :fi a.key b.key=true:=by
 have h1:=(of_decide_eq_true h) (i+1) (aCJ.1 ai).1;unfold sk at h1;rw[aEu,px aD,px ai,aCQ] at h1;simpa using h1.2
theorem Ja {l:List cq} (h:sl l=true) :∀ {d i:Nat} {a b:cq},l[i]? = some a->l[i+d+1]? = some b->fi a.key b.key=true
 | 0,i,a,b,aD,ai=>Tf h aD ai
 | d+1,i,a,b,aD,ai=>by
  obtain⟨c,ak,_⟩:=bV (l:=l) (k:=i+d+1) (by have:=(aCJ.1 ai).1; omega);exact DT (Ja h aD ak) (Tf h ak ai)
theorem Jb {l:List cq} (h:sl l=true) (x:List UInt8) :GK l x:=by
 intro i j a b jx aD ai aP;by_cases au:i=j
 ·subst au; rw[aD] at ai; cases ai; exact aP
 ·exact DT (Ja h (d:=j - i - 1) aD (by rw[show i+(j - i - 1)+1=j by omega]; exact ai)) aP
def uD (s:gI) (o:bJ) :gI:=if s.isNone=true/\o.act.kind≠4#8 then none else some (hT s.l o (db o))
theorem Hk (s:gI) (o:bJ) :(uD s o).l=hT s.l o (db o) :=by
 unfold uD;split
 ·rename_i h;cases s with
  | some a=>cases h.1
  | none=>unfold hT; rw[if_neg h.2]
 ·rfl
def iw (s:gI) (o:bJ) :gI × Int:=
 if ix s.l=0 then (if fZ o=0 then (if 60<(hT s.l o (db o)).length then (none,18) else (uD s o,0)) else (none,8)) else (none,ix s.l)
set_option maxHeartbeats 8000000 in
theorem av6 (s:gI) (o:bJ) (ap:hS s.l) (dI:s.l.length<=1000000) (ax:ic o) :
  bE Tryz.prog GS 98 [.aM [cJ s],.aM (bn o)] (.b5 [.aM [cJ (iw s o).1],.int .i64 (iw s o).2]) :=by
 refine bS Tryz.checked.mixed bP ?_;apply bw ah5 asN;unfold RL abF;have bT:=lu s;have cQ:=i6 o;have cU:=Ns s ap dI;have iK:=Nq o ax;have dZ:=Ar o;have cH:(bn o).length=11:=rfl;have gw:=vc s;by_cases aG:ix s.l=0
 ·by_cases h1:fZ o=0
  ·obtain⟨D,ja⟩:∃ D,D=(db o).map bQ:=⟨_,rfl⟩
   have kb:D.length=32:=by rw[ja,aCZ,dZ]
   have Fa:a7 D=true:=by rw[ja]; exact lr bQ (fun _=>rfl) _
   have ako:a1 (db o)=D:=by rw[ja]; rfl
   have nR:bO (rep 32 (.int .u8 0)) 0 D=D:=fM (by rw[kb]; rfl);unfold fL at iK;rw[<-ja] at iK;have sy:=Jb (zu aG).2 o.act.key;have i9:=(zu aG).1;obtain⟨O,eO⟩:∃ O,O=bn o:=⟨_,rfl⟩
   have nd:=fun (l:aw) (v:ad) (j:Nat) (h:ks l v j s.l) (K:ad->aw->Prop)=>apB o ax.val (db o) dZ ap dI sy h (K:=K)
   rw[<-eO] at iK cH cQ ⊢;simp only[<-eO,ako] at nd;simp[cH,gw,aCI];refine a8 cU (by simp[a7,ad.closed,bT]) ?_;simp[aG,cH,aCI];refine a8 iK (by simp[a7,ad.closed,cQ]) ?_;simp[h1,kb,nR,cH,aCI];refine aio s ap dI (fun aI=>?_) (fun a x4=>?_)
   ·subst aI;simp[cH,kb,aCI];refine nd _ _ _ (ks.nil _ 4) _ (fun bl l' cx gC gg mM qC s1 wm=>?_);have fh:l'[2]? = some (.cells 1 [.aK]) :=by rw[qC 2 (by simp) (.inl rfl)]; rfl
    have Kc:3<=l'.length:=by simp at mM; omega
    have bu:=gC.o.len;rw[aCZ] at bu;have ik:=gC.o.cells;have jG:∀ y:bp,(l'.set 2 y)[2]? = some y:=fun y=>aC3 (by omega)
    by_cases fC:60<(hT [] o (db o)).length
    ·have q2:(60:Int)<((hT [] o (db o)).length:Int) :=by omega
     have aD:iw (none) o=(none,18) :=by unfold iw; rw[if_pos aG,if_pos h1]; exact if_pos fC
     rw[aD];simp[bu,q2,fh,jG];exact aJ rfl rfl
    ·have q2:¬ (60:Int)<((hT [] o (db o)).length:Int) :=by omega
     have aD:iw (none) o=(uD (none) o,0) :=by unfold iw; rw[if_pos aG,if_pos h1]; exact if_neg fC
     rw[aD];simp[bu,q2,fh,jG,ik];refine qD (s4 ?_) (aJ rfl rfl);have kZ:bW 38 (l'.set 2 (.cells 1 [bl])) bl cx ((hT [] o (db o)).map bU) :=gC.o.nF (by
      by_cases ay:bl=.aK
      ·exact .inl ay
      ·right;refine aCU ?_;rcases gg with h | h | h
       ·exact absurd rfl h.1
       ·simp at h; omega
       ·exact absurd h ay)
     exact kZ.q.mP (fun x=>nB x) (uD (none) o) (by
      unfold uD;by_cases ew:o.act.kind=4#8
      ·simp[ew];cases fl:cX bl with
       | false=>rfl
       | true=>exact absurd ew (s1 fl).2
      ·simp[ew];rw[wm ew]; rfl) (Hk _ _)
   ·subst x4;simp[cH,kb,aCI];refine nd _ _ _ (ks.full ap (by simp)) _ (fun bl l' cx gC gg mM qC s1 wm=>?_);have fh:l'[2]? = some (.cells 1 [.aK]) :=by rw[qC 2 (by simp) (.inr (by simp))]; rfl
    have Kc:3<=l'.length:=by simp at mM; omega
    have bu:=gC.o.len;rw[aCZ] at bu;have ik:=gC.o.cells;have jG:∀ y:bp,(l'.set 2 y)[2]? = some y:=fun y=>aC3 (by omega)
    by_cases fC:60<(hT a o (db o)).length
    ·have q2:(60:Int)<((hT a o (db o)).length:Int) :=by omega
     have aD:iw (some a) o=(none,18) :=by unfold iw; rw[if_pos aG,if_pos h1]; exact if_pos fC
     rw[aD];simp[bu,q2,fh,jG];exact aJ rfl rfl
    ·have q2:¬ (60:Int)<((hT a o (db o)).length:Int) :=by omega
     have aD:iw (some a) o=(uD (some a) o,0) :=by unfold iw; rw[if_pos aG,if_pos h1]; exact if_neg fC
     rw[aD];simp[bu,q2,fh,jG,ik];refine qD (s4 ?_) (aJ rfl rfl);have kZ:bW 38 (l'.set 2 (.cells 1 [bl])) bl cx ((hT a o (db o)).map bU) :=gC.o.nF (by
      by_cases ay:bl=.aK
      ·exact .inl ay
      ·right;refine aCU ?_;rcases gg with h | h | h
       ·rw[h.2]; simp
       ·simp at h; omega
       ·exact absurd h ay)
     exact kZ.q.mP (fun x=>nB x) (uD (some a) o) (by
      unfold uD;simp;cases fl:cX bl with
      | false=>rfl
      | true=>exact absurd (s1 fl).1 (by simp[cX])) (Hk _ _)
  ·have aD:iw s o=(none,8) :=by unfold iw; rw[if_pos aG,if_neg h1]
   rw[aD];simp[cH,gw];refine a8 cU (by simp[a7,ad.closed,bT]) ?_;simp[aG,cH,aCI];refine a8 iK (by simp[a7,ad.closed,cQ]) ?_;simp[h1,fL,dZ];exact aJ rfl rfl
 ·have aD:iw s o=(none,ix s.l) :=by unfold iw; rw[if_neg aG]
  rw[aD];simp[cH,gw];refine a8 cU (by simp[a7,ad.closed,bT]) ?_;simp[aG];exact aJ rfl rfl
def pW (l:List cq) (k:List UInt8) :g7 × Int:=if ix l=0 then (if ly l k=true then ((lg l (gd l k)).val,0) else (jN,6)) else (jN,ix l)
theorem av7 (s:gI) (ap:hS s.l) (dI:s.l.length<=1000000) (k:List UInt8) :bE Tryz.prog GS 45 [.aM [cJ s],.str k] (.b5 [.aM (c7 (pW s.l k).1),.int .i64 (pW s.l k).2]) :=by
 refine bS Tryz.checked.mixed bP ?_;apply bw ahk ar2;unfold Q1 aaU;have bT:=lu s;have cU:=Ns s ap dI;have gw:=vc s;by_cases aG:ix s.l=0
 ·have sy:=Jb (zu aG).2 k;have tS:=SI s ap dI k sy;simp[gw];refine a8 cU (by simp[a7,ad.closed,bT]) ?_;simp[aG];refine a8 tS (by simp[a7,ad.closed,bT]) ?_;cases aL:ly s.l k with
  | false=>
   have aA:pW s.l k=(jN,6) :=by unfold pW; rw[if_pos aG,if_neg (by rw[aL]; simp)]
   rw[aA];simp;exact aJ rfl rfl
  | true=>
   have ss:=aL;unfold ly at ss;rw[aCQ,decide_eq_true_eq] at ss;obtain⟨y,aE,b6⟩:=bV ss.1;have aA:pW s.l k=(y.val,0) :=by unfold pW; rw[if_pos aG,if_pos aL,px aE]
   rw[aA];have bZ:cC (.av 38) (cJ s) (.int .i64 (gd s.l k:Int))=some (.cm (bU y) 0) :=by simp[cJ,aE]
   have b8:=hr (ap y b6).id;have xD:((bU y).tail).take 4=c7 y.val:=rfl;have ik:a7 (c7 y.val)=true:=by simp[c7,a7,ad.closed]
   have kW:(c7 y.val).length=4:=rfl;obtain⟨Y,dB⟩:∃ Y,Y=bU y:=⟨_,rfl⟩
   obtain⟨V,ke⟩:∃ V,V=c7 y.val:=⟨_,rfl⟩
   rw[<-dB] at bZ b8 xD;rw[<-ke] at xD ik kW ⊢;have vM:bO [ad.int .u8 0,.int .i64 0,.int .u64 0,.str []] 0 V=V:=fM (by rw[kW]; rfl);simp[bZ,b8,xD,kW,vM,aCI];exact aJ rfl (by simp[ad.closed,a7,ik])
 ·have aA:pW s.l k=(jN,ix s.l) :=by unfold pW; rw[if_neg aG]
  rw[aA];simp[gw];refine a8 cU (by simp[a7,ad.closed,bT]) ?_;simp[aG];exact aJ rfl rfl
def qx (a b:cq) :Bool:=fi a.key b.key
def wK (l:List cq) (x:cq) :List cq:=fq l (i2 qx l x l.length) x
theorem Sc (l:aw) (s:gI) :dL l 38 (cJ s)=some ((s.l.map bU).flatten,s.l.length) :=qX l 38 bU s
theorem RN {l:aw} {p:ad} {x:List ad × Nat} (h:e4 l p=some x) :od p 0=some p:=by
 cases p<;>first | rfl | (exfalso; simp[e4] at h)
structure ad3 (l:aw) (a:List cq) (x:cq) (m:Nat) (ah:bB) (l1:aw) :Prop where
 ex:∃ (i:Nat) (v:ad),i=m/\i<=a.length/\ah 5=v/\ah 6=.int .i64 (i:Int)/\cA 38 bU l l1 v (fq a i x) false/\i2 qx a x i=i2 qx a x a.length
set_option maxHeartbeats 4000000 in
theorem atn (s:gI) (ap:hS s.l) (dI:s.l.length<=1000000) (x:cq) (al:wS x) :bE Tryz.prog GS 113 [cJ s,.aM (bU x)] (cJ (some (wK s.l x))) :=by
 refine bS Tryz.checked.mixed bP ?_;apply bw aff apV;unfold OV YQ;have bm:=hr al.id;have aC:c4=140737488355328:=rfl;have vw:∀ h,(bU x)[0]'h=.str x.key:=fun _=>rfl
 obtain⟨X,ce⟩:∃ X,X=bU x:=⟨_,rfl⟩
 have hx:=DY (E:=X) (by rw[ce]; exact bm);have zY:bW 38 [bp.cells 38 X,bp.cells 0 [],bp.cells 38 X] (.av 38 1 0 0 0 0) 1 [] :=.av 1 0 0 0 [] [] rfl rfl rfl (by simp) (aCL _) (by omega) rfl;obtain⟨ft,sL,l1,br,dE,cT,d1,a2,f1⟩:=Bm zY (by_:=96) (x:=cJ s) (xs:=s.l.map bU) (by rw[aCZ]; exact Sc _ s) (fun e au=>by obtain⟨y,aE,rfl⟩:=aC9.1 au; exact hr (ap y aE).id) (by omega) (by omega) (by rw[aC]; simp; omega);simp at cT;have zR:sL=1\/3<=sL:=by
  rcases a2 with h | ⟨_,h⟩ | h
  ·exact .inr h
  ·exact .inl h
  ·rw[h] at f1; cases f1
 have gB:l1[0]? = some (.cells 38 X) :=by rw[d1 0 (by simp) (.inr (by omega))]; rfl
 have fh:l1[2]? = some (.cells 38 X) :=by rw[d1 2 (by simp) (.inr (by omega))]; rfl
 have Bo:cA 38 bU [bp.cells 38 X] l1 ft s.l false:=⟨sL,by simpa using dE,by simp; omega,fun b ai=>by
  obtain rfl:b=0:=by simpa using ai
  rw[gB]; rfl,.inr (by simp; omega),f1⟩
 obtain⟨ei,cf,bI,dA,dF⟩:=ao4 (by_:=96) Bo x (b:=2) (by rw[<-ce]; exact fh) (hr al.id) (by omega) (by omega) (by rw[aC]; omega);rw[<-ce] at bm vw ⊢;simp[bm,hx,aCI,br];refine dx.c6 ?_;simp[gB,fh,bm,aCI,bI];refine dx.c6 ?_;have p9:=dA.len;have dG:IntKind.i64.wrap ((s.l.length:Int)+1 - 1)=(s.l.length:Int) :=by rw[IntKind.wrap_i64]; omega
 have j8:IntKind.i64.wrap (s.l.length:Int)=(s.l.length:Int) :=by rw[IntKind.wrap_i64]; omega
 have aG:fq s.l s.l.length x=s.l++[x] :=by unfold fq; simp
 simp[p9,dG,j8];rw[<-aG] at dA;refine rv (ad3 [bp.cells 38 X] s.l x) ?_ s.l.length _ _ ⟨s.l.length,ei,rfl,aCL _,by simp,by simp,dA,rfl⟩;rintro m ah fb ⟨i,v,rfl,dZ,bC,cv,dC,k1⟩;obtain⟨ah,rfl⟩:=lS bC cv;clear bC cv;unfold V1;have i0:(fq s.l i x)[i]? = some x:=Vy dZ;have su:i2 qx s.l x i=i->fq s.l i x=wK s.l x:=fun h=>by unfold wK; rw[<-k1,h]
 rcases i with _ | i
 ·simp;have:=su rfl;rw[this] at dC;exact dC.rd nB (some _) rfl rfl
 ·obtain⟨y,aE,b6⟩:=bV (l:=s.l) (k:=i) (by omega);have ug:(fq s.l (i+1) x)[i]? = some y:=by rw[Vz (by omega) dZ]; exact aE
  obtain⟨ux,cT,rC,gD,iV,qM,jl⟩:=AI dC i0;obtain⟨uy,dF,mJ,hp,jL,uP,mg⟩:=AI dC ug;have cb:IntKind.i64.wrap ((i:Int)+1 - 1)=(i:Int) :=by rw[IntKind.wrap_i64]; omega
  have w2:IntKind.i64.wrap (i:Int)=(i:Int) :=by rw[IntKind.wrap_i64]; omega
  have h5:(0:Int)<(i:Int)+1:=by omega
  have b8:=hr (ap y b6).id;have nj:=nB y;have l2:=AR (lt:=qx) (x:=x) aE;have qq:∀ t∈fq s.l (i+1) x,(bU t).length=38:=fun t aQ=>hr (K6 ap al t aQ).id
  have ea:(fq s.l (i+1) x).length=s.l.length+1:=Av _ _ _;obtain⟨AP,j3,lk,mQ,CI⟩:=GQ (X:=.aM (bU y)) dC qq rfl (k:=i+1) (y:=y) (by omega) b8;have C4:∀ t∈(fq s.l (i+1) x).set (i+1) y,(bU t).length=38:=fun t aQ=>by
   rcases aDX aQ with h | h
   ·exact qq t h
   ·rw[h]; exact b8
  obtain⟨G2,AA,t1,t2,vG⟩:=GQ (X:=.aM (bU x)) CI C4 rfl (k:=i) (y:=x) (by simp; omega) (hr al.id);rw[VA aE] at vG;have zC:∀ h,(bU y)[0]'h=.str y.key:=fun _=>rfl
  rw[<-ce] at jl t2;obtain⟨Y,dB⟩:∃ Y,Y=bU y:=⟨_,rfl⟩
  rw[<-dB] at mg b8 nj mQ zC;simp at gD lk;rw[gD] at lk;obtain rfl:=Option.some.inj lk;rw[hp] at t1;obtain rfl:=Option.some.inj t1;have x9:cT[rC]? = some (.str x.key) :=by
   have:(cT.drop rC)[0]? = some (.str x.key) :=by
    have ag:((cT.drop rC).take 38)[0]? = X[0]?:=by rw[jl]
    rw[aCW (by omega)] at ag;rw[ag,aCM (by omega),vw]
   simpa using this
  have am7:dF[mJ]? = some (.str y.key) :=by
   have:(dF.drop mJ)[0]? = some (.str y.key) :=by
    have ag:((dF.drop mJ).take 38)[0]? = Y[0]?:=by rw[mg]
    rw[aCW (by omega)] at ag;rw[ag,aCM (by omega),zC]
   simpa using this
  have iB:=RN iV;have hq:=RN jL;have fo:ob .lss x.key y.key=some (.bool (fi x.key y.key)) :=rfl;simp[h5,gD,iV,hp,jL,iB,hq,cb,w2,x9,am7,fo];have aP:qx x y=fi x.key y.key:=rfl;rw[aP] at l2;cases bd:fi x.key y.key with
  | true=>
   rw[bd,if_pos rfl] at l2;simp[gD,iV,qM,jl,hp,jL,uP,mg,cb,w2,mQ,t2];exact⟨i,by omega,i,v,rfl,by omega,by simp,by simp,vG,by rw[<-l2]; exact k1⟩
  | false=>
   rw[bd,if_neg (by simp)] at l2;simp;have:=su l2;rw[this] at dC;exact dC.rd nB (some _) rfl rfl
set_option maxHeartbeats 4000000 in
theorem Mj (s:gI) (ax:hS s.l) (ar:s.l.length<=1000000) :bE Tryz.prog GS 63 [.aM [cJ s]] (.int .i64 (ix s.l)) :=by
 refine bS Tryz.checked.mixed bP ?_;apply bw ahD asm;unfold Rk abe ix;have bu:c1 (.av 38) (cJ s)=some (.int .i64 s.l.length) :=by simp[cJ]
 by_cases h1:60<s.l.length
 ·have du:(60:Int)<(s.l.length:Int) :=by omega
  simp[bu,du];exact aJ (by rw[if_pos h1]) rfl
 ·have du:¬ (60:Int)<(s.l.length:Int) :=by omega
  simp[bu,du];refine c2 s.l.length (fun k ah l=>(∃ r,l=.cells 1 [cJ s] ::r)/\ah 1=.ptr 0 0 1/\ah 3=.int .i64 k/\∀ j,j<k->sk s.l j=true) ?_ (by simp);rintro k ah l hk ⟨⟨r,rfl⟩,aW,bj,ap⟩;obtain⟨ah,rfl⟩:=lS aW bj;clear aW bj;unfold Xa;simp[bu];refine im (fun h=>?_) (fun h=>?_)
  ·simp only[decide_eq_true_eq] at h;obtain⟨y,aE,b6⟩:=bV (l:=s.l) (k:=k) (by omega);have b8:=hr (ax y b6).id;have a2:IntKind.i64.wrap ((k:Int)+1)=((k+1:Nat) :Int) :=by rw[IntKind.wrap_i64]; omega
   have tO:=Dn y.key;have ik:=ab0 y.val;have eC:sk s.l k=(lP y&&(decide (k=0)||fi (lg s.l (k - 1)).key y.key)) :=by unfold sk; rw[px aE]
   have bZ:cC (.av 38) (cJ s) (.int .i64 (k:Int))=some (.cm (bU y) 0) :=by simp[cJ,aE]
   have hx:=DY b8;have dH:(bU y).take 38=bU y:=aCI (by omega);have mv:∀ h,(bU y)[0]'h=.str y.key:=fun _=>rfl
   have ol:∀ h,(bU y)[5]'h=dm y.dj:=fun _=>rfl
   have xw:((bU y).tail).take 4=c7 y.val:=rfl;have nL:=Sm y.dj;have kY:a7 (c7 y.val)=true:=by simp[c7,a7,ad.closed]
   obtain⟨R,fR⟩:∃ R,R=bU y:=⟨_,rfl⟩
   obtain⟨ad2,Jx⟩:∃ V,V=c7 y.val:=⟨_,rfl⟩
   rw[<-fR] at b8 bZ hx dH mv ol xw;rw[<-Jx] at ik xw kY;simp[bZ,b8,hx,dH,mv];refine a8 tO rfl ?_;cases bd:hz y.key with
   | false=>
    have:lP y=false:=by unfold lP; rw[bd]; rfl
    rw[this,aDJ] at eC;simp;exact aJ (by rw[if_neg h1,vn h eC]; rfl) rfl
   | true=>
    simp[b8,xw];refine a8 ik (by simp[a7,ad.closed,kY]) ?_;cases bM:j6 y.val with
    | false=>
     have:lP y=false:=by unfold lP; rw[bd,bM]; rfl
     rw[this,aDJ] at eC;simp[gT];exact aJ (by rw[if_neg h1,vn h eC]; rfl) rfl
    | true=>
     cases dq:DZ y.dj with
     | false=>
      have:lP y=false:=by unfold lP; rw[bd,bM,dq]; rfl
      rw[this,aDJ] at eC;have nG:=nL.2 dq;simp[gT,b8,ol,nG];exact aJ (by rw[if_neg h1,vn h eC]; rfl) rfl
     | true=>
      have nG:¬ (1000000000000:Int)<u y.dj:=fun h=>by rw[nL.1 h] at dq; cases dq
      have:lP y=true:=by unfold lP; rw[bd,bM,dq]; rfl
      rw[this,aDL] at eC;rcases k with _ | k
      ·simp[gT,b8,ol,nG,a2];exact⟨by omega,by rw[IntKind.wrap_i64]; omega,by rw[eC]; rfl⟩
      ·obtain⟨x,al,dT⟩:=bV (l:=s.l) (k:=k) (by omega);have fO:cC (.av 38) (cJ s) (.int .i64 (k:Int))=some (.cm (bU x) 0) :=by simp[cJ,al]
       have vw:(bU x)[0]? = some (.str x.key) :=rfl;obtain⟨ad4,zB⟩:∃ X,X=bU x:=⟨_,rfl⟩
       rw[<-zB] at fO vw;have dG:IntKind.i64.wrap (k:Int)=(k:Int) :=by rw[IntKind.wrap_i64]; omega
       have h5:(0:Int)<(k:Int)+1:=by omega
       simp only[aEu,px al,aE5,aFw,and_false,decide_false,aEF] at eC;simp[gT,b8,ol,nG,h5,dG,fO,vw,mv];have JJ:ob .geq x.key y.key=some (.bool (!fi x.key y.key)) :=rfl;rw[JJ];cases fl:fi x.key y.key with
       | true=>
        rw[fl] at eC;simp[a2];refine⟨by omega,by rw[IntKind.wrap_i64]; omega,fun j am=>?_⟩;by_cases eL:j=k+1
        ·rw[eL,eC]
        ·exact ap j (by omega)
       | false=>
        rw[fl] at eC;simp;exact aJ (by rw[if_neg h1,vn h eC]; rfl) rfl
  ·simp[h];have gV:k=s.l.length:=by simp at h; omega
   exact aJ (by rw[if_neg h1,if_pos (Tg fun j am=>ap j (by omega))]) rfl
def pX (l:List cq) (k:List UInt8) :g7 × Int:=if ix l=0 then (if 0<=g3 k (l.map cq.key) 0 then ((lg l (g3 k (l.map cq.key) 0).toNat).val,0) else (jN,6)) else (jN,ix l)
theorem Le {α:Type} [DecidableEq α] {x:α} {l:List α} (h:0<=g3 x l 0) :∃ i:Nat,g3 x l 0=(i:Int)/\l[i]? = some x:=by
 have hm:=(vV x l 0).1 h;have:∃ i:Nat,l[i]? = some x/\∀ (j:Nat) (z:α),j<i->l[j]? = some z->z≠x:=by
  clear h
  induction l with
  | nil=>cases hm
  | cons y r aY=>
   by_cases aE:y=x
   ·exact⟨0,by simp[aE],fun j z am=>by omega⟩
   ·obtain⟨i,h1,ag⟩:=aY (by simpa [Ne.symm aE] using hm);refine⟨i+1,by simpa using h1,fun j z am az=>?_⟩;rcases j with _ | j
    ·simp at az; rw[<-az]; exact aE
    ·exact ag j z (by omega) (by simpa using az)
 obtain⟨i,h1,ag⟩:=this;exact⟨i,by have:=vU (n:=0) h1 ag rfl; simpa using this,h1⟩
theorem as6 (s:gI) (ap:hS s.l) (dI:s.l.length<=1000000) (k:List UInt8) :bE Tryz.prog GS 55 [.aM [cJ s],.str k] (.b5 [.aM (c7 (pX s.l k).1),.int .i64 (pX s.l k).2]) :=by
 refine bS Tryz.checked.mixed bP ?_;apply bw ahv asd;unfold Rb aa4;have bT:=lu s;have cU:=Mj s ap dI;have gw:=vc s;have e9:=abH s ap dI k;by_cases aG:ix s.l=0
 ·simp[gw];refine a8 cU (by simp[a7,ad.closed,bT]) ?_;simp[aG];refine a8 e9 (by simp[a7,ad.closed,bT]) ?_;by_cases aB:0<=g3 k (s.l.map cq.key) 0
  ·obtain⟨i,zQ,jW⟩:=Le aB;have dZ:i<s.l.length:=by have:=(aCJ.1 jW).1; simpa using this
   obtain⟨y,aE,b6⟩:=bV dZ;have aA:pX s.l k=(y.val,0) :=by unfold pX; rw[if_pos aG,if_pos aB,zQ,aDf,px aE]
   rw[aA,zQ];have ea:¬ (i:Int)<0:=by omega
   have bZ:cC (.av 38) (cJ s) (.int .i64 (i:Int))=some (.cm (bU y) 0) :=by simp[cJ,aE]
   have b8:=hr (ap y b6).id;have xD:((bU y).tail).take 4=c7 y.val:=rfl;have ik:a7 (c7 y.val)=true:=by simp[c7,a7,ad.closed]
   have kW:(c7 y.val).length=4:=rfl;obtain⟨Y,dB⟩:∃ Y,Y=bU y:=⟨_,rfl⟩
   obtain⟨V,ke⟩:∃ V,V=c7 y.val:=⟨_,rfl⟩
   rw[<-dB] at bZ b8 xD;rw[<-ke] at xD ik kW ⊢;have vM:bO [ad.int .u8 0,.int .i64 0,.int .u64 0,.str []] 0 V=V:=fM (by rw[kW]; rfl);simp[ea,bZ,b8,xD,kW,vM,aCI];exact aJ rfl (by simp[ad.closed,a7,ik])
  ·have aA:pX s.l k=(jN,6) :=by unfold pX; rw[if_pos aG,if_neg aB]
   have gj:g3 k (s.l.map cq.key) 0<0:=by omega
   rw[aA];simp[gj];exact aJ rfl rfl
 ·have aA:pX s.l k=(jN,ix s.l) :=by unfold pX; rw[if_neg aG]
  rw[aA];simp[gw];refine a8 cU (by simp[a7,ad.closed,bT]) ?_;simp[aG];refine a8 cU (by simp[a7,ad.closed,bT]) ?_;simp;exact aJ rfl rfl
def i4 (s:gI) (o:bJ) :gI × Int:=
 if ix s.l=0 then (if fZ o=0 then (if o.act.kind=4#8 then
  (if 0<=g3 o.act.key (s.l.map cq.key) 0 then (if oD o.dj (db o) (lg s.l (g3 o.act.key (s.l.map cq.key) 0).toNat).dj (lg s.l (g3 o.act.key (s.l.map cq.key) 0).toNat).id=true then (some (s.l.set (g3 o.act.key (s.l.map cq.key) 0).toNat (fG o (db o))),0) else (some s.l,0))
   else if s.l.length=60 then (none,18) else (some (wK s.l (fG o (db o))),0))
  else (some s.l,0)) else (none,8)) else (none,ix s.l)
theorem aeq (l:aw) (s:gI) (ax:hS s.l) (ap:s.l.length<=1000000) :g8 (l++[bp.cells 0 []]) 38 96 (.av 38 l.length 0 0 0 0) (cJ s)=some (.av 38 l.length 0 s.l.length s.l.length (s.l.length*38),l++[.cells (s.l.length*38) (s.l.map bU).flatten]) :=by
 have aC:c4=140737488355328:=rfl;have e1:=zm ax;unfold g8;rw[Sc];simp only;unfold iW;by_cases az:s.l.length=0
 ·have:s.l=[] :=aDk.1 az;rw[this];simp
 ·rw[if_neg az,if_neg (by omega)];simp[aC];exact⟨by omega,fun h=>by simp[h]⟩
set_option maxHeartbeats 8000000 in
theorem as5 (s:gI) (o:bJ) (ap:hS s.l) (dI:s.l.length<=1000000) (ax:ic o) :
  bE Tryz.prog GS 102 [.aM [cJ s],.aM (bn o)] (.b5 [.aM [cJ (i4 s o).1],.int .i64 (i4 s o).2]) :=by
 refine bS Tryz.checked.mixed bP ?_;apply bw ae3 apJ;unfold OI YE;have bT:=lu s;have cQ:=i6 o;have cU:=Mj s ap dI;have zW:=Mi o ax;have dZ:=Ar o;have cH:(bn o).length=11:=rfl;have gw:=vc s;have ub:c1 (.av 38) (cJ s)=some (.int .i64 s.l.length) :=by simp[cJ]
 have xu:∀ h,(bn o)[3]'h=bQ o.act.kind:=fun _=>rfl
 have zy:∀ h,(bn o)[4]'h=.str o.act.key:=fun _=>rfl
 have zx:∀ h,(bn o)[2]'h=dm o.dj:=fun _=>rfl
 have zz:((bn o).drop 5).take 4=c7 o.act.val:=rfl;have Cy:=Sl o;have e9:=abH s ap dI o.act.key;by_cases aG:ix s.l=0
 ·by_cases h1:fZ o=0
  ·have i9:=(zu aG).1;have J0:db o=iR (iu o) :=by unfold db; rw[if_pos h1]
   have k0:=Mh o ax (by have:=wc h1; omega);rw[<-J0] at k0;obtain⟨D,ja⟩:∃ D,D=(db o).map bQ:=⟨_,rfl⟩
   have kb:D.length=32:=by rw[ja,aCZ,dZ]
   have Fa:a7 D=true:=by rw[ja]; exact lr bQ (fun _=>rfl) _
   have nR:bO (rep 32 (.int .u8 0)) 0 D=D:=fM (by rw[kb]; rfl);unfold fL at k0;rw[<-ja] at k0;obtain⟨O,eO⟩:∃ O,O=bn o:=⟨_,rfl⟩
   have jb:=aeq [bp.cells 1 [cJ s],bp.cells 11 O,bp.cells 1 [.aK]] s ap dI;simp only[aC6,aDx,aDG,aDq] at jb;rw[<-eO] at cH cQ k0 zW xu zy zx zz ⊢;simp[cH,gw];refine a8 cU (by simp[a7,ad.closed,bT]) ?_;simp[aG,cH,aCI];refine a8 zW (by simp[a7,ad.closed,cQ]) ?_;simp[h1,jb];refine dx.c6 ?_;have fU:∀ l:aw,l[3]? = some (.cells (s.l.length*38) (s.l.map bU).flatten)->bW 38 l (.av 38 3 0 s.l.length s.l.length (s.l.length*38)) 3 (s.l.map bU) :=fun l h=>Ya ap rfl h
   by_cases ew:o.act.kind=4#8
   ·have yc:=Cy.2 ew;have Cb:bU (fG o (db o))=.str o.act.key::bQ o.act.val.kind::.int .i64 o.act.val.num::dm o.act.val.bits::.str o.act.val.text::dm o.dj::D:=by rw[ja]; rfl
    have CK:wS (fG o (db o)) :=⟨dZ,ax.val⟩
    have kV:=hr dZ (r:=fG o (db o));have Ck:=nB (fG o (db o));have Ca:∀ h,(bU (fG o (db o)))[0]'h=.str o.act.key:=fun _=>rfl
    have Ty:∀ h,(bU (fG o (db o)))[5]'h=dm o.dj:=fun _=>rfl
    have Tz:((bU (fG o (db o))).drop 6)=D:=by rw[ja]; rfl
    have Aa:=DY kV;obtain⟨T,dH⟩:∃ T,T=bU (fG o (db o)) :=⟨_,rfl⟩
    rw[<-dH] at Cb kV Ca Ty Tz Aa Ck;simp[cH,xu,yc,zy,zx,zz,c7,aCI];refine a8 k0 (by simp[a7,ad.closed,cQ]) ?_;simp[kb,nR,<-Cb,kV,Aa,Ca,aCI];refine⟨⟨by rw[aCM (by omega),zx],⟨by omega,zz⟩,by rw[aCM (by omega),zy]⟩,?_⟩;refine a8 e9 (by simp[a7,ad.closed,bT]) ?_;by_cases aB:0<=g3 o.act.key (s.l.map cq.key) 0
    ·obtain⟨i,zQ,jW⟩:=Le aB;have FO:i<s.l.length:=by have:=(aCJ.1 jW).1; simpa using this
     obtain⟨y,aE,b6⟩:=bV FO;have ya:lg s.l i=y:=px aE;have aD:i4 s o=if oD o.dj (db o) y.dj y.id=true then (some (s.l.set i (fG o (db o))),0) else (some s.l,0) :=by
      unfold i4; rw[if_pos aG,if_pos h1,if_pos ew,if_pos aB,zQ,aDf,ya]
     rw[aD,zQ];have ea:(0:Int)<=(i:Int) :=by omega
     have bZ:cC (.av 38) (cJ s) (.int .i64 (i:Int))=some (.cm (bU y) 0) :=by simp[cJ,aE]
     have b8:=hr (ap y b6).id;have h3:=nB y;have aP:=as0 o.dj (db o) y dZ (ap y b6).id;rw[show a1 (db o)=D by rw[ja]; rfl] at aP;obtain⟨Y,dB⟩:∃ Y,Y=bU y:=⟨_,rfl⟩
     rw[<-dB] at bZ b8 h3 aP;simp[ea,kV,Ty,Tz,kb,bZ,b8,aCI];refine a8 aP (by simp[a7,ad.closed,Fa,h3]) ?_;cases ht:oD o.dj (db o) y.dj y.id with
     | false=>
      simp;refine qD (s4 ?_) (aJ rfl rfl);exact (fU _ (by simp)).q.mP (fun x=>nB x) (some s.l) rfl rfl
     | true=>
      obtain⟨L,e0⟩:∃ L,L=[bp.cells 1 [cJ s],bp.cells 11 O,bp.cells 1 [.aK],bp.cells (s.l.length*38) (s.l.map bU).flatten,bp.cells 1 [.av 38 3 0 s.l.length s.l.length (s.l.length*38)],bp.cells 38 T] :=⟨_,rfl⟩
      obtain⟨ch,l',dE,dA,iD,kQ,qS⟩:=yo (X:=.aM (bU (fG o (db o)))) rfl (fU L (by rw[e0]; rfl)) (fun y aE=>hr (ap y aE).id) FO (by rw[<-dH]; exact kV);rw[<-dH] at dA;have fh:l'[2]? = some (.cells 1 [.aK]) :=by rw[qS 2 (by omega),e0]; rfl
      have G9:l'[4]? = some (.cells 1 [.av 38 3 0 s.l.length s.l.length (s.l.length*38)]) :=by rw[qS 4 (by omega),e0]; rfl
      have jG:∀ y:bp,(l'.set 2 y)[2]? = some y:=fun y=>aC3 (by rw[kQ,e0]; simp)
      rw[<-e0];have qC:L[4]? = some (.cells 1 [.av 38 3 0 s.l.length s.l.length (s.l.length*38)]) :=by rw[e0]; rfl
      have s1:L[5]? = some (.cells 38 T) :=by rw[e0]; rfl
      simp at dE;simp[qC,s1,kV,aCI,dE,dA,G9,fh,jG];refine qD (s4 ?_) (aJ rfl rfl);have Ep:bW 38 (l'.set 2 (.cells 1 [.av 38 3 0 s.l.length s.l.length (s.l.length*38)])) (.av 38 3 0 s.l.length s.l.length (s.l.length*38)) 3 ((s.l.set i (fG o (db o))).map bU) :=iD.frame fun _=>aCU (by omega)
      exact Ep.q.mP (fun x=>nB x) (some (s.l.set i (fG o (db o)))) rfl rfl
    ·have gj:¬ (0:Int)<=g3 o.act.key (s.l.map cq.key) 0:=aB;by_cases bM:s.l.length=60
     ·have aD:i4 s o=(none,18) :=by unfold i4; rw[if_pos aG,if_pos h1,if_pos ew,if_neg aB,if_pos bM]
      rw[aD];simp[gj,ub,bM];exact aJ rfl rfl
     ·have aD:i4 s o=(some (wK s.l (fG o (db o))),0) :=by unfold i4; rw[if_pos aG,if_pos h1,if_pos ew,if_neg aB,if_neg bM]
      have sm:¬ (s.l.length:Int)=60:=by omega
      have hw:=atn s ap dI (fG o (db o)) CK;rw[<-dH] at hw;rw[aD];have ak9:=vc (some (wK s.l (fG o (db o))));simp[gj,ub,sm,kV,aCI];refine a8 hw (by simp[a7,ad.closed,bT,Ck]) ?_;simp[ak9];exact aJ rfl (by simp[ad.closed,a7,lu])
   ·have yc:¬ (u o.act.kind:Int)=4:=fun h=>ew (Cy.1 h)
    have aD:i4 s o=(some s.l,0) :=by unfold i4; rw[if_pos aG,if_pos h1,if_neg ew]
    rw[aD];simp[cH,xu,yc];refine qD (s4 ?_) (aJ rfl rfl);exact (fU _ (by simp)).q.mP (fun x=>nB x) (some s.l) rfl rfl
  ·have aD:i4 s o=(none,8) :=by unfold i4; rw[if_pos aG,if_neg h1]
   rw[aD];simp[cH,gw];refine a8 cU (by simp[a7,ad.closed,bT]) ?_;simp[aG,cH,aCI];refine a8 zW (by simp[a7,ad.closed,cQ]) ?_;simp[h1];exact aJ rfl rfl
 ·have aD:i4 s o=(none,ix s.l) :=by unfold i4; rw[if_neg aG]
  rw[aD];simp[cH,gw];refine a8 cU (by simp[a7,ad.closed,bT]) ?_;simp[aG];refine a8 cU (by simp[a7,ad.closed,bT]) ?_;simp;exact aJ rfl rfl
theorem Iy {l:List cq} {x:List UInt8} {t:Nat} {y:cq} (aQ:t<gd l x) (aE:l[t]? = some y) :fi y.key x=true:=by
 have a2:l.takeWhile (fun t=>fi t.key x)=l.take (gd l x) :=List.prefix_iff_eq_take.1 (List.takeWhile_prefix _);have hm:y∈l.take (gd l x) :=aCY.2 ⟨t,by rw[aCW aQ]; exact aE⟩;rw[<-a2] at hm;have:=List.all_takeWhile (l:=l) (p:=fun t=>fi t.key x);exact aDO.1 this y hm
theorem Ix:∀ {l:List cq} {x:List UInt8} {y:cq},l[gd l x]? = some y->fi y.key x=false
 | [],x,y,h=>by simp at h
 | a::l,x,y,h=>by
  unfold gd at h;rw[aEj] at h;cases aD:fi a.key x with
  | false=>
   rw[aD] at h;simp at h;rw[<-h]; exact aD
  | true=>
   rw[aD] at h;simp at h;exact Ix (l:=l) (by unfold gd; exact h)
theorem aj3 {l:List cq} (h:sl l=true) {x:List UInt8} {t:Nat} {y:cq} (aQ:gd l x<=t) (aE:l[t]? = some y) :fi y.key x=false:=by
 obtain⟨z,az,_⟩:=bV (l:=l) (k:=gd l x) (by have:=(aCJ.1 aE).1; omega);have h1:=Ix az;cases ag:fi y.key x with
 | false=>rfl
 | true=>rw[Jb h x _ _ _ _ aQ az aE ag] at h1; cases h1
theorem IZ {l:List cq} (h:sl l=true) (x:List UInt8) :(ly l x=true/\g3 x (l.map cq.key) 0=(gd l x:Int))\/(ly l x=false/\¬ 0<=g3 x (l.map cq.key) 0) :=by
 cases aL:ly l x with
 | true=>
  left;refine⟨rfl,?_⟩;unfold ly at aL;rw[aCQ,decide_eq_true_eq,decide_eq_true_eq] at aL;obtain⟨y,aE,_⟩:=bV aL.1;have An:y.key=x:=by rw[<-aL.2,px aE]
  have:=vU (x:=x) (l:=l.map cq.key) (k:=gd l x) (n:=0) (y:=x) (by rw[aCO,aE]; exact congrArg some An) (fun j z am az l9=>by
   rw[aCO] at az;cases jX:l[j]? with
   | none=>rw[jX] at az; cases az
   | some w=>
    rw[jX] at az;have hw:w.key=z:=Option.some.inj az;have:=Iy am jX;rw[hw,l9,yA] at this; cases this) rfl
  simpa using this
 | false=>
  right;refine⟨rfl,fun aG=>?_⟩;obtain⟨i,zQ,jW⟩:=Le aG;rw[aCO] at jW;cases jX:l[i]? with
  | none=>rw[jX] at jW; cases jW
  | some w=>
   rw[jX] at jW;have hw:w.key=x:=Option.some.inj jW;have dZ:=(aCJ.1 jX).1;by_cases alC:i<gd l x
   ·have:=Iy alC jX;rw[hw,yA] at this; cases this
   ·by_cases alD:i=gd l x
    ·unfold ly at aL;rw[<-alD,px jX,hw,decide_eq_true dZ] at aL;simp at aL
    ·obtain⟨z,az,_⟩:=bV (l:=l) (k:=gd l x) (by omega);have h1:=Ix az;have ag:=Ja h (d:=i - gd l x - 1) az (by rw[show gd l x+(i - gd l x - 1)+1=i by omega]; exact jX);rw[hw,h1] at ag; cases ag
theorem ajY (l:List cq) (k:List UInt8) :pW l k=pX l k:=by
 unfold pW pX;by_cases aG:ix l=0
 ·rw[if_pos aG,if_pos aG];rcases IZ (zu aG).2 k with ⟨h1,ag⟩ | ⟨h1,ag⟩
  ·rw[if_pos h1,if_pos (by rw[ag]; omega),ag,aDf]
  ·rw[if_neg (by rw[h1]; simp),if_neg ag]
 ·rw[if_neg aG,if_neg aG]
theorem apo {l:List cq} (h:sl l=true) {x:cq} (aI:ly l x.key=false) :i2 qx l x l.length=gd l x.key:=by
 have ak:=R4 l x.key;have key:∀ k,gd l x.key<=k->k<=l.length->i2 qx l x k=gd l x.key:=by
  intro k
  induction k with
  | zero=>
   intro h1 _;have:gd l x.key=0:=by omega
   rw[this]; rfl
  | succ k aY=>
   intro h1 ag;obtain⟨y,aE,_⟩:=bV (l:=l) (k:=k) (by omega);rw[AR aE];by_cases hk:gd l x.key=k+1
   ·have aq:=Iy (l:=l) (x:=x.key) (t:=k) (by omega) aE;have aH:qx x y=false:=by
     unfold qx;cases bd:fi x.key y.key with
     | false=>rfl
     | true=>have:=DT aq bd; rw[yA] at this; cases this
    rw[aH,if_neg (by simp)]; exact hk.symm
   ·have aq:=aj3 h (x:=x.key) (t:=k) (by omega) aE;have aH:qx x y=true:=by
     unfold qx;cases bd:fi x.key y.key with
     | true=>rfl
     | false=>
      exfalso;have au:y.key=x.key:=by
       have br:¬ y.key<x.key:=(acn _ _).1 aq;have bI:¬ x.key<y.key:=(acn _ _).1 bd;exact List.le_antisymm (aF4.1 bI) (aF4.1 br)
      rcases IZ h x.key with ⟨bM,_⟩ | ⟨_,dq⟩
      ·rw[aI] at bM; cases bM
      ·exact dq ((vV x.key (l.map cq.key) 0).2 (by rw[<-au]; exact aEi (aCP aE)))
    rw[aH,if_pos rfl];exact aY (by omega) (by omega)
 exact key l.length ak (aCL _)
theorem atr (s:gI) (o:bJ) :(iw s o).1.l=(i4 s o).1.l/\(iw s o).2=(i4 s o).2:=by
 unfold iw i4;by_cases aG:ix s.l=0
 ·rw[if_pos aG,if_pos aG];by_cases h1:fZ o=0
  ·rw[if_pos h1,if_pos h1];obtain⟨i9,ot⟩:=zu aG;have mC:=Hk s o;by_cases ew:o.act.kind=4#8
   ·have aF:hT s.l o (db o)=rH s.l (fG o (db o)) :=by unfold hT; rw[if_pos ew]
    rw[if_pos ew];rcases IZ ot o.act.key with ⟨ag,aq⟩ | ⟨ag,aq⟩
    ·have aB:0<=g3 o.act.key (s.l.map cq.key) 0:=by rw[aq]; omega
     have cL:rH s.l (fG o (db o))=if oD o.dj (db o) (lg s.l (gd s.l o.act.key)).dj (lg s.l (gd s.l o.act.key)).id=true then s.l.set (gd s.l o.act.key) (fG o (db o)) else s.l:=by
      unfold rH;rw[show (fG o (db o)).key=o.act.key from rfl,if_pos ag]; rfl
     have bu:(hT s.l o (db o)).length=s.l.length:=by rw[aF,cL]; split<;>simp
     rw[if_neg (by omega),if_pos aB,aq,aDf];split
     ·rename_i ht;exact⟨by rw[mC,aF,cL,if_pos ht]; rfl,rfl⟩
     ·rename_i ht;exact⟨by rw[mC,aF,cL,if_neg ht]; rfl,rfl⟩
    ·have cL:rH s.l (fG o (db o))=fq s.l (gd s.l o.act.key) (fG o (db o)) :=by
      unfold rH;rw[show (fG o (db o)).key=o.act.key from rfl,if_neg (by rw[ag]; simp)]
     have bu:(hT s.l o (db o)).length=s.l.length+1:=by rw[aF,cL,Av]
     rw[if_neg aq];by_cases bM:s.l.length=60
     ·have Jf:60<(hT s.l o (db o)).length:=by omega
      rw[if_pos Jf,if_pos bM]; exact⟨rfl,rfl⟩
     ·have Jf:¬ 60<(hT s.l o (db o)).length:=by omega
      rw[if_neg Jf,if_neg bM];refine⟨?_,rfl⟩;rw[mC,aF,cL];show _=wK s.l (fG o (db o));unfold wK;rw[apo ot ag]; rfl
   ·have aF:hT s.l o (db o)=s.l:=by unfold hT; rw[if_neg ew]
    rw[if_neg ew,if_neg (by rw[aF]; omega)];exact⟨by rw[mC,aF]; rfl,rfl⟩
  ·rw[if_neg h1,if_neg h1]; exact⟨rfl,rfl⟩
 ·rw[if_neg aG,if_neg aG]; exact⟨rfl,rfl⟩
structure cG where
 er:Int
 set:e7
 cY:gI
 b4:eN
def ed (s:cG) :List ad:=[.int .i64 s.er,cE s.set,cJ s.cY,bc s.b4]
structure kL (s:cG) :Prop where
 set:gY s.set.l
 cY:hS s.cY.l
 b4:gx s.b4
 ls:s.set.l.length<=1000000
 sR:s.cY.l.length<=1000000
 yg:s.b4.l.length<=1000000
theorem oU (s:cG) :a7 (ed s)=true:=by simp[ed,a7,ad.closed,lv,lu,eZ]
theorem Sy (a b:List B) (aD:a.length=32) (ai:b.length=32) :bE Tryz.prog GS 60 [.aM (a1 a),.aM (a1 b)] (.int .i64 (cI a b)) :=by
 refine bS Tryz.checked.mixed bP ?_;apply bw ahA asi;unfold Rh aa9;have ap:=DX (n:=32) (b:=1) (by omega);have CV:=DX (n:=32) (b:=0) (by omega);simp[a1,aD,ai,ap,CV];have ak:=Er (some a) (some b) (by simp[aD,ai]);refine i3 ak ?_ rfl ?_
 ·exact .cons ((pt (j:=0) aD rfl).mO (fun _=>rfl) (some a) rfl rfl) (.cons ((pt (j:=1) ai rfl).mO (fun _=>rfl) (some b) rfl rfl) .nil)
 ·simp;exact aJ rfl rfl
def vo (s:cG) :Bool:=decide (0<=s.er)&&(decide (s.er<=60)&&(decide ((s.b4.l.length:Int)<=s.er)&&!(decide (s.b4.l.length=0)&&decide (0<s.er))))
def E4 (s:cG) :Bool:=vo s&&(decide (iA s.set.l=0)&&(decide (ix s.cY.l=0)&&eH s.b4.l))
def iz (s:cG) :Int:=gT (E4 s)
set_option maxHeartbeats 8000000 in
theorem Nt (s:cG) (ax:kL s) :bE Tryz.prog GS 25 [.aM (ed s)] (.int .i64 (iz s)) :=by
 refine bS Tryz.checked.mixed bP ?_;apply bw ag4 arM;unfold QE aax iz E4;have mB:c1 (.av 32) (bc s.b4)=some (.int .i64 s.b4.l.length) :=by simp[bc]
 have lB:=lv s.set;have gw:=lu s.cY;cases aA:vo s with
 | false=>
  rw[aDJ];simp[ed];unfold vo at aA;by_cases h1:s.er<0
  ·simp[mB,h1];exact aJ rfl rfl
  ·by_cases ag:60<s.er
   ·simp[mB,h1,ag];exact aJ rfl rfl
   ·by_cases aq:s.er<(s.b4.l.length:Int)
    ·simp[mB,h1,ag,aq];exact aJ rfl rfl
    ·have aH:s.b4.l.length=0:=by
      by_cases h:s.b4.l.length=0
      ·exact h
      ·exfalso; simp[h,h1,ag,aq] at aA; try omega
     have bd:0<s.er:=by simp[aH,h1,ag] at aA; omega
     simp[mB,h1,ag,aq,aH,bd];exact aJ rfl rfl
 | true=>
  unfold vo at aA;simp only[aCQ,decide_eq_true_eq,aET,Bool.and_eq_false_iff,decide_eq_false_iff_not] at aA;obtain⟨aW,bg,bj,bL⟩:=aA;have h1:¬ s.er<0:=by omega
  have ag:¬ 60<s.er:=by omega
  have aq:¬ s.er<(s.b4.l.length:Int) :=by omega
  have aI:(decide ((s.b4.l.length:Int)=0)&&decide (0<s.er))=false:=by
   rcases bL with h | h
   ·rw[decide_eq_false (by omega)]; rfl
   ·rw[decide_eq_false h,aF6]
  rw[aDL];have dH:=Nu s.set ax.set ax.ls;have fR:=Ns s.cY ax.cY ax.sR;obtain⟨N,fu⟩:∃ N:Int,N=s.b4.l.length:=⟨_,rfl⟩
  rw[<-fu] at mB aq aI;by_cases aH:N=0<;>by_cases bM:0<s.er
  ·rw[decide_eq_true aH,decide_eq_true bM] at aI; cases aI
  all_goals
   simp[ed,mB,h1,ag,aq,aH,bM];refine a8 dH (by simp[a7,ad.closed,lB]) ?_;by_cases dq:iA s.set.l=0
   ·simp[dq];refine a8 fR (by simp[a7,ad.closed,gw]) ?_;by_cases fl:ix s.cY.l=0
    ·simp[fl];refine c2 (s.b4.l.length - 1) (fun k ah l=>(∃ r,l=.cells 4 [.int .i64 s.er,cE s.set,cJ s.cY,bc s.b4] ::r)/\ah 1=.ptr 0 0 4/\ah 3=.int .i64 N/\ah 4=.int .i64 ((k+1:Nat) :Int)/\∀ j,j<k+1->j<s.b4.l.length->1<=j->cI (cw s.b4.l (j - 1)) (cw s.b4.l j)<0) ?_ ⟨by simp,by simp,by simp[aH],by simp,fun j h1 _ ag=>by omega⟩;rintro k ah l hk ⟨⟨r,rfl⟩,aW,bj,bL,ap⟩;obtain⟨ah,rfl⟩:=jJ aW bj bL;clear aW bj bL;obtain⟨m,hm⟩:∃ m,m=k+1:=⟨_,rfl⟩
     rw[<-hm] at ap ⊢;unfold WR;simp;refine im (fun h=>?_) (fun h=>?_)
     ·simp only[decide_eq_true_eq] at h;have aP:m<s.b4.l.length:=by omega
      obtain⟨x,al,dT⟩:=bV (l:=s.b4.l) (k:=k) (by omega);obtain⟨y,aE,b6⟩:=bV aP;have a2:IntKind.i64.wrap ((m:Int) - 1)=(k:Int) :=by rw[IntKind.wrap_i64]; omega
      have b7:IntKind.i64.wrap ((m:Int)+1)=((m+1:Nat) :Int) :=by rw[IntKind.wrap_i64]; omega
      have h7:=iO al;have pl:=iO aE;have bZ:cC (.av 32) (bc s.b4) (.int .i64 (k:Int))=some (.cm (a1 x) 0) :=by simp[bc,al]
      have je:cC (.av 32) (bc s.b4) (.int .i64 (m:Int))=some (.cm (a1 y) 0) :=by simp[bc,aE]
      simp[a2,bZ,je,c3 (ax.b4 x dT),c3 (ax.b4 y b6),aCI];refine a8 (Sy x y (ax.b4 x dT) (ax.b4 y b6)) (by simp[a7,fK,ad.closed,fL]) ?_;by_cases ak:cI x y<0
      ·have fD:¬ (0<=cI x y) :=by omega
       simp[fD,b7];refine⟨by omega,fun j h1 ag aq=>?_⟩;by_cases am:j=m
       ·show cI (cw s.b4.l (j - 1)) (cw s.b4.l j)<0;rw[am,show m - 1=k by omega,h7,pl]; exact ak
       ·exact ap j (by omega) ag aq
      ·have fD:0<=cI x y:=by omega
       simp[fD];refine aJ (by rw[show eH s.b4.l=false from decide_eq_false fun aR=>by have:=aR m aP (by omega); rw[show m - 1=k by omega,h7,pl] at this; omega,dq,fl]; rfl) rfl
     ·simp[h];have eD:s.b4.l.length<=m:=by simp at h; omega
      refine aJ (by rw[show eH s.b4.l=true from decide_eq_true fun j h1 ag=>ap j (by omega) h1 ag,dq,fl]; rfl) rfl
    ·simp[fl];exact aJ rfl rfl
   ·simp[dq];exact aJ rfl rfl
set_option maxHeartbeats 8000000 in
theorem Ml (s:cG) (ax:kL s) :bE Tryz.prog GS 26 [.aM (ed s)] (.int .i64 (iz s)) :=by
 refine bS Tryz.checked.mixed bP ?_;apply bw ahb arT;unfold QM aaF iz E4;have mB:c1 (.av 32) (bc s.b4)=some (.int .i64 s.b4.l.length) :=by simp[bc]
 have lB:=lv s.set;have gw:=lu s.cY;have dY:=eZ s.b4;cases aA:vo s with
 | false=>
  rw[aDJ];simp[ed];unfold vo at aA;by_cases h1:s.er<0
  ·simp[mB,h1];exact aJ rfl rfl
  ·by_cases ag:60<s.er
   ·simp[mB,h1,ag];exact aJ rfl rfl
   ·by_cases aq:s.er<(s.b4.l.length:Int)
    ·simp[mB,h1,ag,aq];exact aJ rfl rfl
    ·have aH:s.b4.l.length=0:=by
      by_cases h:s.b4.l.length=0
      ·exact h
      ·exfalso; simp[h,h1,ag,aq] at aA; try omega
     have bd:0<s.er:=by simp[aH,h1,ag] at aA; omega
     simp[mB,h1,ag,aq,aH,bd];exact aJ rfl rfl
 | true=>
  unfold vo at aA;simp only[aCQ,decide_eq_true_eq,aET,Bool.and_eq_false_iff,decide_eq_false_iff_not] at aA;obtain⟨aW,bg,bj,bL⟩:=aA;have h1:¬ s.er<0:=by omega
  have ag:¬ 60<s.er:=by omega
  have aq:¬ s.er<(s.b4.l.length:Int) :=by omega
  have aI:(decide ((s.b4.l.length:Int)=0)&&decide (0<s.er))=false:=by
   rcases bL with h | h
   ·rw[decide_eq_false (by omega)]; rfl
   ·rw[decide_eq_false h,aF6]
  rw[aDL];have dH:=abP s.set ax.set ax.ls;have fR:=Mj s.cY ax.cY ax.sR;have q3:=Hc s.b4 ax.b4 ax.yg;obtain⟨N,fu⟩:∃ N:Int,N=s.b4.l.length:=⟨_,rfl⟩
  rw[<-fu] at mB aq aI;by_cases aH:N=0<;>by_cases bM:0<s.er
  ·rw[decide_eq_true aH,decide_eq_true bM] at aI; cases aI
  all_goals
   simp[ed,mB,h1,ag,aq,aH,bM];refine a8 q3 (by simp[a7,ad.closed,dY]) ?_;cases fC:eH s.b4.l with
   | false=>
    simp[fC];exact aJ (by simp[gT]) rfl
   | true=>
    simp[fC];refine a8 dH (by simp[a7,ad.closed,lB]) ?_;by_cases dq:iA s.set.l=0
    ·simp[dq];refine a8 fR (by simp[a7,ad.closed,gw]) ?_;by_cases fl:ix s.cY.l=0
     ·simp[fl];exact aJ (by simp[gT,dq,fl]) rfl
     ·simp[fl];exact aJ (by simp[gT]) rfl
    ·simp[dq];exact aJ (by simp[gT]) rfl
theorem ajg (a b:e7) (aD:gY a.l) (ai:gY b.l) (ar:a.l.length<=1000000) :bE Tryz.prog GS 46 [cE a,cE b] (.bool (decide (a.l=b.l))) :=by
 refine bS Tryz.checked.mixed bP ?_;apply bw ahl ar3;unfold Q2 aaV;have ht:c1 (.av 33) (cE a)=some (.int .i64 a.l.length) :=by simp[cE]
 have iX:c1 (.av 33) (cE b)=some (.int .i64 b.l.length) :=by simp[cE]
 by_cases h1:a.l.length=b.l.length
 ·have du:((a.l.length:Int)=b.l.length) :=by omega
  simp[ht,iX,h1];refine c2 a.l.length (fun k ah l=>ah 0=cE a/\ah 1=cE b/\ah 12=.int .i64 a.l.length/\ah 13=.int .i64 k/\∀ j,j<k->a.l[j]? = b.l[j]?) ?_ (by simp[h1]);rintro k ah l hk ⟨cd,aW,g1,jt,ap⟩;obtain⟨s,rfl⟩:=hW cd aW g1 jt;clear cd aW g1 jt;unfold WX;simp;refine im (fun h=>?_) (fun h=>?_)
  ·simp only[decide_eq_true_eq] at h;obtain⟨x,al,dT⟩:=bV h;obtain⟨y,aE,b6⟩:=bV (l:=b.l) (k:=k) (by omega);have a2:IntKind.i64.wrap ((k:Int)+1)=((k+1:Nat) :Int) :=by rw[IntKind.wrap_i64]; omega
   have bZ:cC (.av 33) (cE a) (.int .i64 (k:Int))=some (.cm (b3 x) 0) :=by simp[cE,al]
   have je:cC (.av 33) (cE b) (.int .i64 (k:Int))=some (.cm (b3 y) 0) :=by simp[cE,aE]
   have bm:=iI (aD x dT);have b8:=iI (ai y b6);have b2:=acM (aD x dT) (ai y b6);obtain⟨X,ce⟩:∃ X,X=b3 x:=⟨_,rfl⟩
   obtain⟨Y,dB⟩:∃ Y,Y=b3 y:=⟨_,rfl⟩
   rw[<-ce] at bZ bm b2;rw[<-dB] at je b8 b2;simp[bZ,je,bm,b8,aCI,b2];by_cases au:x=y
   ·simp[au,a2];refine⟨by omega,fun j am=>?_⟩;by_cases eL:j=k
    ·subst eL; rw[al,aE,au]
    ·exact ap j (by omega)
   ·simp[au];refine aJ (congrArg ad.bool (decide_eq_false fun eP=>au ?_).symm) rfl;rw[eP,aE] at al; exact (Option.some.inj al).symm
  ·simp[h];have gV:k=a.l.length:=by simp at h; omega
   refine aJ (congrArg ad.bool (decide_eq_true ?_).symm) rfl;apply aDF;intro j;by_cases am:j<a.l.length
   ·exact ap j (by omega)
   ·rw[aC0 (by omega),aC0 (by omega)]
 ·have du:¬ ((a.l.length:Int)=b.l.length) :=by omega
  simp[ht,iX,h1,du];exact aJ (by rw[decide_eq_false (fun eP=>h1 (by rw[eP]))]) rfl
theorem aje (a b:gI) (aD:hS a.l) (ai:hS b.l) (ar:a.l.length<=1000000) :bE Tryz.prog GS 47 [cJ a,cJ b] (.bool (decide (a.l=b.l))) :=by
 refine bS Tryz.checked.mixed bP ?_;apply bw ahm ar4;unfold Q3 aaW;have ht:c1 (.av 38) (cJ a)=some (.int .i64 a.l.length) :=by simp[cJ]
 have iX:c1 (.av 38) (cJ b)=some (.int .i64 b.l.length) :=by simp[cJ]
 by_cases h1:a.l.length=b.l.length
 ·have du:((a.l.length:Int)=b.l.length) :=by omega
  simp[ht,iX,h1];refine c2 a.l.length (fun k ah l=>ah 0=cJ a/\ah 1=cJ b/\ah 12=.int .i64 a.l.length/\ah 13=.int .i64 k/\∀ j,j<k->a.l[j]? = b.l[j]?) ?_ (by simp[h1]);rintro k ah l hk ⟨cd,aW,g1,jt,ap⟩;obtain⟨s,rfl⟩:=hW cd aW g1 jt;clear cd aW g1 jt;unfold WY;simp;refine im (fun h=>?_) (fun h=>?_)
  ·simp only[decide_eq_true_eq] at h;obtain⟨x,al,dT⟩:=bV h;obtain⟨y,aE,b6⟩:=bV (l:=b.l) (k:=k) (by omega);have a2:IntKind.i64.wrap ((k:Int)+1)=((k+1:Nat) :Int) :=by rw[IntKind.wrap_i64]; omega
   have bZ:cC (.av 38) (cJ a) (.int .i64 (k:Int))=some (.cm (bU x) 0) :=by simp[cJ,al]
   have je:cC (.av 38) (cJ b) (.int .i64 (k:Int))=some (.cm (bU y) 0) :=by simp[cJ,aE]
   have bm:=hr (aD x dT).id;have b8:=hr (ai y b6).id;have b2:=abM (aD x dT).id (ai y b6).id;obtain⟨X,ce⟩:∃ X,X=bU x:=⟨_,rfl⟩
   obtain⟨Y,dB⟩:∃ Y,Y=bU y:=⟨_,rfl⟩
   rw[<-ce] at bZ bm b2;rw[<-dB] at je b8 b2;simp[bZ,je,bm,b8,aCI,b2];by_cases au:x=y
   ·simp[au,a2];refine⟨by omega,fun j am=>?_⟩;by_cases eL:j=k
    ·subst eL; rw[al,aE,au]
    ·exact ap j (by omega)
   ·simp[au];refine aJ (congrArg ad.bool (decide_eq_false fun eP=>au ?_).symm) rfl;rw[eP,aE] at al; exact (Option.some.inj al).symm
  ·simp[h];have gV:k=a.l.length:=by simp at h; omega
   refine aJ (congrArg ad.bool (decide_eq_true ?_).symm) rfl;apply aDF;intro j;by_cases am:j<a.l.length
   ·exact ap j (by omega)
   ·rw[aC0 (by omega),aC0 (by omega)]
 ·have du:¬ ((a.l.length:Int)=b.l.length) :=by omega
  simp[ht,iX,h1,du];exact aJ (by rw[decide_eq_false (fun eP=>h1 (by rw[eP]))]) rfl
theorem ajd (a b:eN) (aD:gx a) (ai:gx b) (ar:a.l.length<=1000000) :bE Tryz.prog GS 48 [bc a,bc b] (.bool (decide (a.l=b.l))) :=by
 refine bS Tryz.checked.mixed bP ?_;apply bw ahn ar5;unfold Q4 aaX;have ht:c1 (.av 32) (bc a)=some (.int .i64 a.l.length) :=by simp[bc]
 have iX:c1 (.av 32) (bc b)=some (.int .i64 b.l.length) :=by simp[bc]
 by_cases h1:a.l.length=b.l.length
 ·have du:((a.l.length:Int)=b.l.length) :=by omega
  simp[ht,iX,h1];refine c2 a.l.length (fun k ah l=>ah 0=bc a/\ah 1=bc b/\ah 12=.int .i64 a.l.length/\ah 13=.int .i64 k/\∀ j,j<k->a.l[j]? = b.l[j]?) ?_ (by simp[h1]);rintro k ah l hk ⟨cd,aW,g1,jt,ap⟩;obtain⟨s,rfl⟩:=hW cd aW g1 jt;clear cd aW g1 jt;unfold WZ;simp;refine im (fun h=>?_) (fun h=>?_)
  ·simp only[decide_eq_true_eq] at h;obtain⟨x,al,dT⟩:=bV h;obtain⟨y,aE,b6⟩:=bV (l:=b.l) (k:=k) (by omega);have a2:IntKind.i64.wrap ((k:Int)+1)=((k+1:Nat) :Int) :=by rw[IntKind.wrap_i64]; omega
   have bZ:cC (.av 32) (bc a) (.int .i64 (k:Int))=some (.cm (a1 x) 0) :=by simp[bc,al]
   have je:cC (.av 32) (bc b) (.int .i64 (k:Int))=some (.cm (a1 y) 0) :=by simp[bc,aE]
   have bm:=c3 (aD x dT);have b8:=c3 (ai y b6);have b2:=C9 (aD x dT) (ai y b6);obtain⟨X,ce⟩:∃ X,X=a1 x:=⟨_,rfl⟩
   obtain⟨Y,dB⟩:∃ Y,Y=a1 y:=⟨_,rfl⟩
   rw[<-ce] at bZ bm b2;rw[<-dB] at je b8 b2;simp[bZ,je,bm,b8,aCI,b2];by_cases au:x=y
   ·simp[au,a2];refine⟨by omega,fun j am=>?_⟩;by_cases eL:j=k
    ·subst eL; rw[al,aE,au]
    ·exact ap j (by omega)
   ·simp[au];refine aJ (congrArg ad.bool (decide_eq_false fun eP=>au ?_).symm) rfl;rw[eP,aE] at al; exact (Option.some.inj al).symm
  ·simp[h];have gV:k=a.l.length:=by simp at h; omega
   refine aJ (congrArg ad.bool (decide_eq_true ?_).symm) rfl;apply aDF;intro j;by_cases am:j<a.l.length
   ·exact ap j (by omega)
   ·rw[aC0 (by omega),aC0 (by omega)]
 ·have du:¬ ((a.l.length:Int)=b.l.length) :=by omega
  simp[ht,iX,h1,du];exact aJ (by rw[decide_eq_false (fun eP=>h1 (by rw[eP]))]) rfl
def py (a b:cG) :Bool:=decide (a.er=b.er)&&(decide (a.set.l=b.set.l)&&(decide (a.cY.l=b.cY.l)&&decide (a.b4.l=b.b4.l)))
theorem ade (a b:cG) (aD:kL a) (ai:kL b) :bE Tryz.prog GS 17 [.aM (ed a),.aM (ed b)] (.bool (py a b)) :=by
 refine bS Tryz.checked.mixed bP ?_;apply bw agc aqS;unfold PJ DG py;have cT:=lv a.set;have dF:=lv b.set;have kS:=lu a.cY;have ie:=lu b.cY;have EB:=eZ a.b4;have y2:=eZ b.b4;by_cases h1:a.er=b.er
 ·simp[ed,h1];refine a8 (ajg a.set b.set aD.set ai.set aD.ls) (by simp[a7,ad.closed,cT,dF]) ?_;by_cases ag:a.set.l=b.set.l
  ·simp[ag];refine a8 (aje a.cY b.cY aD.cY ai.cY aD.sR) (by simp[a7,ad.closed,kS,ie]) ?_;by_cases aq:a.cY.l=b.cY.l
   ·simp[aq];refine a8 (ajd a.b4 b.b4 aD.b4 ai.b4 aD.yg) (by simp[a7,ad.closed,EB,y2]) ?_;simp;exact aJ (by simp[h1,ag,aq]) rfl
   ·simp[aq];exact aJ rfl rfl
  ·simp[ag];exact aJ rfl rfl
 ·simp[ed,h1];exact aJ rfl rfl
theorem Hd (a b:cG) (aD:kL a) (ai:kL b) :bE Tryz.prog GS 23 [.aM (ed a),.aM (ed b)] (.bool (py a b)) :=by
 refine bS Tryz.checked.mixed bP ?_;apply bw agO arw;unfold Qp aaj py;have cT:=lv a.set;have dF:=lv b.set;have kS:=lu a.cY;have ie:=lu b.cY;have EB:=eZ a.b4;have y2:=eZ b.b4;by_cases h1:a.er=b.er
 ·simp[ed,h1];refine a8 (at7 a.set b.set aD.set ai.set aD.ls) (by simp[a7,ad.closed,cT,dF]) ?_;by_cases ag:a.set.l=b.set.l
  ·simp[ag];refine a8 (at6 a.cY b.cY aD.cY ai.cY aD.sR) (by simp[a7,ad.closed,kS,ie]) ?_;by_cases aq:a.cY.l=b.cY.l
   ·simp[aq];refine a8 (MG a.b4 b.b4 aD.b4 ai.b4 aD.yg) (by simp[a7,ad.closed,EB,y2]) ?_;simp;exact aJ (by simp[h1,ag,aq]) rfl
   ·simp[aq];exact aJ rfl rfl
  ·simp[ag];exact aJ rfl rfl
 ·simp[ed,h1];exact aJ rfl rfl
end Op

end Go.ct

namespace Go.ct
open Go Go.Proofs Go.Sort Go.Shelf
set_option maxRecDepth 100000
namespace Op
open hK
def pz (l:List (List B)) :List (List B) :=l.mergeSort fun x y=>!gl y x
theorem Vw:∀ {xs:List (List B)},(∀ i∈xs,i.length=32)->∃ bt:List uT,bt.map (·.1)=xs
 | [],_=>⟨[],rfl⟩
 | x::xs,h=>by
  obtain⟨bt,aE⟩:=Vw (xs:=xs) fun i aB=>h i (by simp[aB])
  exact⟨⟨x,h x (by simp)⟩::bt,by simp[aE]⟩
theorem auC (bt:List uT) :(sorted vg bt).map (·.1)=pz (bt.map (·.1)) :=by
 unfold sorted pz;rw[List.map_mergeSort];intro a _ b _;rfl
theorem apF {z:Nat} {l l' : aw} {v:ad} {j:Nat} {es ef:List (List ad)} (h:bW z l v j es) (h' : eJ z l' v j ef) :bW z l' v j ef:=by
 cases h with
 | nil j=>have:=h'.rz; subst this; exact .nil j
 | av j n cap sz cs es ai ar aI az ak dv bT=>
  generalize ay:ad.av z j 0 n cap sz=w at h';cases h' with
  | nil=>cases ay
  | av anO aBF nl axn aCl iF zh gK gk qc j1 m4 ayI ak8=>
   injection ay with _ a2 b7 dG j8 IH
   subst b7 dG j8 IH;exact .av j n cap sz iF _ gK gk qc j1 m4 (by omega) (by simpa using ak8)
theorem ajS {l:aw} {v:ad} {j:Nat} {xs:List (List B)} (al:∀ i∈xs,i.length=32) (ar:xs.length<=1000000) (aG:xs≠[]) (h:bW 32 l v j (xs.map a1)) {K:ad->aw->Prop}
  (bA:∀ l',l'.length=l.length->(∀ b,b≠j->l'[b]? = l[b]?)->bW 32 l' v j ((pz xs).map a1)->K (.b5 []) l') :dS Tryz.prog GS 99 [v,.fn 60 [] []] l (c:=⟨K⟩) :=by
 obtain⟨bt,aE⟩:=Vw al;have au:bt.map zg=xs.map a1:=by rw[<-aE,aEZ]; rfl
 have ap:(sorted vg bt).map zg=(pz xs).map a1:=by rw[<-aE,<-auC,aEZ]; rfl
 have b8:bt.length=xs.length:=by rw[<-aE]; simp
 rw[<-au] at h;exact auA vg (auy (by intro args w; exact enters_of Tryz.func60 (by kernel_rfl) rfl args w)) acL aei Sq ai5 (fun x y=>Sy x.1 y.1 x.2 y.2) h.q (by omega) (fun tW=>absurd (by rw[<-aE,tW]; rfl) aG)
  (fun l' h1 ag aq=>bA l' h1 (fun b ai=>ag b ai) (by rw[<-ap]; exact apF h aq))
theorem auF {X Y:List ad} (aE:Y.length=32) (al:X.length=32) :bO (bO (rep 32 (ad.int .u8 0)++rep 32 (.int .u8 0)) 0 Y) 32 X=Y++X:=by
 have aC:(rep 32 (ad.int .u8 0)).length=32:=rfl;unfold bO;rw[aD1,aDq,aDT,aE,al,aDp (by omega),aDC (l:=rep 32 (ad.int .u8 0)) (by omega),aDq];rw[aDb (by omega),aCI (by omega),aDC (by rw[aCS]; omega),aDl]
theorem avj (l:aw) {X Y:List ad} (aE:Y.length=32) (al:X.length=32) :bW 32 (l++[.cells 64 (Y++X)]) (.av 32 l.length 0 2 2 64) l.length [Y,X] :=
 .av l.length 2 2 64 (Y++X) [Y,X] (by simp) (by simp[al,aE]) rfl (by simp[al,aE]) (aCL _) (by omega) (by simp; exact aCI (by simp[al,aE]))
theorem auw (l:List (List B)) (y:List B) :y∈pz l<->y∈l:=by unfold pz; exact List.mem_mergeSort
abbrev A0 (l:List (List B)) :List (List B) :=jj gl l l.length
structure adK (a:List (List B)) (k:Nat) (ah:bB) (l:aw) :Prop where
 bL:ah 4=.int .i64 k
 ex:∃ v,ah 3=v/\cA 32 a1 [] l v (jj gl a k++a.drop k) false
structure adJ (t:List (List B)) (x:List B) (i:Nat) (m:Nat) (ah:bB) (l:aw) :Prop where
 bL:ah 4=.int .i64 i
 ex:∃ (k:Nat) (v:ad),k=m/\k<=i/\ah 3=v/\ah 5=.int .i64 k/\cA 32 a1 [] l v (fq t k x) false/\i2 gl t x k=i2 gl t x i
set_option maxHeartbeats 4000000 in
theorem atf (a:eN) (aD:gx a) (ar:a.l.length<=1000000) (aI:a.l.Nodup) :bE Tryz.prog GS 74 [bc a] (bc (some (A0 a.l))) :=by
 refine bS Tryz.checked.mixed bP ?_;apply bw ahI asr;unfold Rp abj;have aC:c4=140737488355328:=rfl;obtain⟨U,Fl⟩:∃ U,U=a.l:=⟨_,rfl⟩
 have zY:bW 32 [bp.cells 0 []] (.av 32 0 0 0 0 0) 0 [] :=.av 0 0 0 0 [] [] rfl rfl rfl (by simp) (aCL _) (by omega) rfl;obtain⟨ft,sL,l1,br,dE,cT,d1,a2,f1⟩:=Bm zY (by_:=32) (x:=bc a) (xs:=a.l.map a1) (by rw[aCZ]; exact qX _ 32 a1 a) (fun e au=>by obtain⟨y,aE,rfl⟩:=aC9.1 au; exact c3 (aD y aE)) (by omega) (by omega) (by rw[aC]; simp; omega);have dC:cA 32 a1 [] l1 ft a.l false:=⟨sL,by simpa using dE,by simp,fun b ai=>absurd ai (by simp),.inr (by simp),f1⟩
 rw[<-Fl] at dC ⊢;have TB:∀ z∈U,z.length=32:=fun z az=>aD z (by rw[<-Fl]; exact az)
 have ayy:U.length<=1000000:=by rw[Fl]; exact ar
 have TA:U.Nodup:=by rw[Fl]; exact aI
 simp[br];refine dx.c6 ?_;simp;refine c2 U.length (adK U) ?_ ⟨by simp,ft,by simp,by simpa [jj] using dC⟩;clear dC br dE cT d1 a2 f1 zY ft sL l1;rintro i ah l aB ⟨bL,v,bj,dC⟩;obtain⟨ah,rfl⟩:=lS bj bL;clear bj bL;have dI:=ML (lt:=gl) (u:=U) aB;have UD:c1 (.av 32) v=some (.int .i64 U.length) :=by
  have:=dC.len;rw[aCS,dI,aDS] at this;rw[this]; congr 2; omega
 unfold Xd;simp[UD];refine im (fun h=>?_) (fun h=>?_)
 ·simp only[decide_eq_true_eq] at h;obtain⟨x,al,dT⟩:=bV (l:=U) (k:=i) (by omega);have a2:IntKind.i64.wrap ((i:Int)+1)=((i+1:Nat) :Int) :=by rw[IntKind.wrap_i64]; omega
  obtain⟨t,aQ⟩:∃ t,t=jj gl U i++U.drop (i+1) :=⟨_,rfl⟩
  have k3:t.length+1=U.length:=by rw[aQ,aCS,dI,aDS]; omega
  have amV:∀ z∈t,z∈U:=fun z az=>by
   rw[aQ,aDr] at az;rcases az with az | az
   ·rw[AZ aB] at az; exact aDs az
   ·exact aEf az
  have am4:x∉t:=fun az=>by
   rw[aQ,aDr] at az;have ag:U=U.take i++x::U.drop (i+1) :=by
    have bX:U.drop i=x::U.drop (i+1) :=by rw[aDy (by omega),(aCJ.1 al).2]
    rw[<-bX,aDt]
   rw[ag] at TA;obtain⟨_,nl,ry⟩:=aEx.1 TA;rcases az with az | az
   ·rw[AZ aB] at az; exact ry x az x (by simp) rfl
   ·exact (aE8.1 nl).1 az
  have KJ:∀ z∈t,z.length=32:=fun z az=>TB z (amV z az)
  have alH:jj gl U i++U.drop i=fq t i x:=by
   have bX:U.drop i=x::U.drop (i+1) :=by rw[aDy (by omega),(aCJ.1 al).2]
   rw[bX,aQ,Vx (by omega)];unfold fq;rw[show (jj gl U i).take i=jj gl U i from aCI (by rw[dI]; exact aCL _),show (jj gl U i).drop i=[] from aDC (by rw[dI]; exact aCL _)]; simp
  have h5:i2 gl t x i=i2 gl (jj gl U i) x (jj gl U i).length:=by rw[aQ,Yk _ _ _ _ _ (by omega),dI]
  have xK:fq t (i2 gl t x i) x=jj gl U (i+1)++U.drop (i+1) :=by
   rw[h5,Hr al,aQ,Vx (Yl _ _ _ _)]
  rw[alH] at dC;refine rv (adJ t x i) ?_ i _ _ ⟨by simp,i,v,rfl,aCL _,by simp,by simp,dC,rfl⟩;clear dC UD v;rintro m ah l ⟨bL,k,v,rfl,ayW,bj,bC,dC,k1⟩;obtain⟨ah,rfl⟩:=jJ bj bL bC;clear bj bL bC;unfold Xc;have su:i2 gl t x k=k->fq t k x=jj gl U (i+1)++U.drop (i+1) :=fun h=>by rw[<-xK,<-k1,h]
  have i0:(fq t k x)[k]? = some x:=Vy (by omega);rcases k with _ | k
  ·rw[su rfl] at dC;simp[a2];exact⟨by omega,by simp,v,by simp,dC⟩
  ·obtain⟨y,aE,b6⟩:=bV (l:=t) (k:=k) (by omega);have ug:(fq t (k+1) x)[k]? = some y:=by rw[Vz (by omega) (by omega)]; exact aE
   obtain⟨ux,cT,rC,gD,iV,qM,jl⟩:=AI dC i0;obtain⟨uy,dF,mJ,hp,jL,uP,mg⟩:=AI dC ug;have cb:IntKind.i64.wrap ((k:Int)+1 - 1)=(k:Int) :=by rw[IntKind.wrap_i64]; omega
   have w2:IntKind.i64.wrap (k:Int)=(k:Int) :=by rw[IntKind.wrap_i64]; omega
   have CO:(0:Int)<(k:Int)+1:=by omega
   have Vn:=TB x dT;have vP:=KJ y b6;have b8:=c3 vP;have bm:=c3 Vn;have l2:i2 gl t x (k+1)=if gl x y then i2 gl t x k else k+1:=AR aE
   have az:∀ w∈fq t (k+1) x,(a1 w).length=32:=fun w hw=>by
    rcases K5.1 hw with e | e
    ·rw[e]; exact bm
    ·exact c3 (KJ w e)
   have ea:(fq t (k+1) x).length=U.length:=by rw[Av,k3]
   obtain⟨X,ce⟩:∃ X,X=a1 x:=⟨_,rfl⟩
   obtain⟨Y,dB⟩:∃ Y,Y=a1 y:=⟨_,rfl⟩
   have pk:=bm;have Ao:=b8;rw[<-ce] at jl pk;rw[<-dB] at mg Ao;simp at gD;have nQ:=auF Ao pk;have B4:64<=(bO (rep 32 (ad.int IntKind.u8 0)++rep 32 (ad.int IntKind.u8 0)) 0 Y).length:=by rw[acA (by rw[Ao]; decide)]; decide
   have jv:=Hc (some [y,x]) (fun z az=>by
    rcases aDY.1 az with e | e
    ·rw[e]; exact vP
    ·rw[aDm.1 e]; exact Vn) (by simp)
   simp[CO,gD,iV,qM,jl,hp,jL,uP,mg,cb,w2,pk,Ao,B4,nQ];have CY:bW 32 (l++[.cells 64 (Y++X)]) (.av 32 l.length 0 2 2 64) l.length ([y,x].map a1) :=by
    rw[aDc,aDc,aEB,<-ce,<-dB]; exact avj l Ao pk
   refine i3 jv (.cons (CY.mO fK (some [y,x]) rfl rfl) .nil) rfl ?_;have tY:eH [y,x]=decide (cI y x<0) :=by
    unfold eH;rw[decide_eq_decide];exact⟨fun h=>h 1 (by simp) (aCL _),fun h k h1 ag=>by
     have:k=1:=by simp at h1; omega
     subst this; exact h⟩
   have aP:gl x y=!decide (cI y x<0) :=by
    have b2:¬ cI y x=0:=fun h=>am4 (by rw[<-r7 h]; exact b6)
    have:=yh x y;rw[r8] at this;cases h:gl x y with
    | true=>rw[h] at this; have:=this.1 rfl; rw[decide_eq_false (by omega)]; rfl
    | false=>rw[h] at this; rw[decide_eq_true]; rfl; exact Decidable.byContradiction fun ag=>absurd (this.2 (by omega)) (by simp)
   rw[show dX.l (some [y,x])=[y,x] from rfl,tY];have CH:=dC.more [bp.cells 64 (Y++X)];by_cases bd:cI y x<0
   ·rw[aP,decide_eq_true bd,if_neg (by simp)] at l2;rw[su l2] at CH;simp[bd,a2];exact⟨by omega,by simp,v,by simp,CH⟩
   ·rw[aP,decide_eq_false bd,if_pos (show (!false)=true from rfl)] at l2;obtain⟨q1,d1,gC,iB,hq,z3,z4⟩:=AI CH i0;obtain⟨fh,d2,gg,ft,ei,v3,v4⟩:=AI CH ug;obtain⟨AP,j3,lk,mQ,CI⟩:=GQ (X:=.aM (a1 x)) CH az rfl (k:=k) (y:=x) (by omega) bm;have C4:∀ w∈(fq t (k+1) x).set k x,(a1 w).length=32:=fun w hw=>by
     rcases aDX hw with h | h
     ·exact az w h
     ·rw[h]; exact bm
    obtain⟨G2,AA,t1,t2,vG⟩:=GQ (X:=.aM (a1 y)) CI C4 rfl (k:=k+1) (y:=y) (by simp; omega) b8;rw[List.set_comm _ _ (by omega),VA aE] at vG;rw[<-ce] at z4 mQ;rw[<-dB] at v4 t2;simp at iB t1;rw[hp] at lk;obtain rfl:=Option.some.inj lk;rw[gD] at t1;obtain rfl:=Option.some.inj t1;rw[gD] at iB;obtain rfl:=Option.some.inj iB;rw[hp] at ft;obtain rfl:=Option.some.inj ft;simp[bd,gD,hp,cb,w2,pk,Ao,hq,z3,z4,ei,v3,v4,mQ,t2];exact⟨k,by omega,by simp,k,v,rfl,by omega,by simp,by simp,vG,by rw[<-l2]; exact k1⟩
 ·simp[h];have FM:i=U.length:=by simp at h; omega
  rw[FM,aFS,aDl] at dC;exact dC.rd fK (some (A0 U)) rfl rfl
end Op

end Go.ct

namespace Go.ct
open Go Go.Proofs
set_option maxRecDepth 100000
namespace Op
open hK
def AV (s:cG) (k:List UInt8) :Bool × g7 × Int:=if iz s=0 then (Cg s.set.l k,(pW s.cY.l k).1,0) else (false,jN,iz s)
def wq (s:cG) (k:List UInt8) :Bool × g7 × Int:=if iz s=0 then (o2 s.set.l k,(pX s.cY.l k).1,0) else (false,jN,iz s)
theorem Is (s:eN) :(bc s).cells=some [bc s] :=by cases s<;>rfl
theorem av8 (s:cG) (ax:kL s) (k:List UInt8) :bE Tryz.prog GS 13 [.aM (ed s),.str k] (.b5 [.bool (AV s k).1,.aM (c7 (AV s k).2.1),.int .i64 (AV s k).2.2]) :=by
 refine bS Tryz.checked.mixed bP ?_;apply bw afB aqh;unfold O9 Y4 AV;have bT:=oU s;have cU:=Nt s ax;have lB:=lv s.set;have gw:=lu s.cY;have aR:=avY s.set ax.set ax.ls k;have aA:=av7 s.cY ax.cY ax.sR k;unfold ed at cU bT;obtain⟨V,ke⟩:∃ V,V=c7 (pW s.cY.l k).1:=⟨_,rfl⟩
 have TC:a7 V=true:=by rw[ke]; simp[c7,a7,ad.closed]
 have kW:V.length=4:=by rw[ke]; rfl
 rw[<-ke] at aA;have vM:bO [ad.int .u8 0,.int .i64 0,.int .u64 0,.str []] 0 V=V:=fM (by rw[kW]; rfl);have amP:bO V 0 V=V:=fM rfl;simp[ed];refine a8 cU (by simpa [a7,ad.closed] using bT) ?_;by_cases aG:iz s=0
 ·simp[aG];refine a8 aR (by simp[a7,ad.closed,lB]) ?_;simp;refine a8 aA (by simp[a7,ad.closed,gw]) ?_;simp[kW,vM,amP,aCI];refine aJ (by rw[ke,if_pos aG]) (by rw[if_pos aG]; simp[ad.closed,a7,c7])
 ·simp[aG];exact aJ rfl rfl
theorem as8 (s:cG) (ax:kL s) (k:List UInt8) :bE Tryz.prog GS 22 [.aM (ed s),.str k] (.b5 [.bool (wq s k).1,.aM (c7 (wq s k).2.1),.int .i64 (wq s k).2.2]) :=by
 refine bS Tryz.checked.mixed bP ?_;apply bw agI arp;unfold Qg Z8 wq;have bT:=oU s;have cU:=Ml s ax;have lB:=lv s.set;have gw:=lu s.cY;have aR:=asX s.set ax.set ax.ls k;have aA:=as6 s.cY ax.cY ax.sR k;unfold ed at cU bT;obtain⟨V,ke⟩:∃ V,V=c7 (pX s.cY.l k).1:=⟨_,rfl⟩
 have TC:a7 V=true:=by rw[ke]; simp[c7,a7,ad.closed]
 have kW:V.length=4:=by rw[ke]; rfl
 rw[<-ke] at aA;have vM:bO [ad.int .u8 0,.int .i64 0,.int .u64 0,.str []] 0 V=V:=fM (by rw[kW]; rfl);simp[ed];refine a8 cU (by simpa [a7,ad.closed] using bT) ?_;by_cases aG:iz s=0
 ·simp[aG];refine a8 aA (by simp[a7,ad.closed,gw]) ?_;simp[kW,vM,aCI];refine a8 aR (by simp[a7,ad.closed,lB]) ?_;simp[kW,vM,aCI];refine aJ (by rw[ke,if_pos aG]) (by rw[if_pos aG]; simp[ad.closed,a7,c7])
 ·simp[aG];refine a8 cU (by simpa [a7,ad.closed] using bT) ?_;simp;exact aJ (by rw[if_neg aG]; rfl) (by rw[if_neg aG]; rfl)
theorem atg:bE Tryz.prog GS 24 [] (.aM (ed ⟨0,none,none,none⟩)) :=by
 refine bS Tryz.checked.mixed bP ?_;apply bw agW arE;unfold Qw yt;simp;exact aJ rfl rfl
def tM (r:cq) :Bool:=decide (100<r.key.length)||decide (100<r.val.text.length)
def tL (l:List cq) :Bool:=decide (∃ t∈l.take 101,tM t=true)||decide (100<l.length)
theorem as7 (s:gI) (ax:∀ r∈s.l,r.id.length=32) :bE Tryz.prog GS 50 [.aM [cJ s]] (.bool (tL s.l)) :=by
 refine bS Tryz.checked.mixed bP ?_;apply bw ahq ar8;unfold Q6 aaZ;have bu:c1 (.av 38) (cJ s)=some (.int .i64 s.l.length) :=by simp[cJ]
 simp;refine c2 (min s.l.length 101) (fun k ah l=>l=[.cells 1 [cJ s]]/\ah 1=.ptr 0 0 1/\ah 3=.int .i64 k/\∀ (j:Nat) (t:cq),j<k->s.l[j]? = some t->tM t=false) ?_ (by simp);rintro k ah l hk ⟨rfl,aW,bj,ap⟩;obtain⟨ah,rfl⟩:=lS aW bj;clear aW bj;unfold W1;by_cases h:k<s.l.length
 ·have h' : (k:Int)<(s.l.length:Int) :=by omega
  by_cases ag:k<=100
  ·have eV:(k:Int)<=100:=by omega
   obtain⟨y,aE,b6⟩:=bV (l:=s.l) (k:=k) h;have bZ:cC (.av 38) (cJ s) (.int .i64 (k:Int))=some (.cm (bU y) 0) :=by simp[cJ,aE]
   have a2:IntKind.i64.wrap ((k:Int)+1)=((k+1:Nat) :Int) :=by rw[IntKind.wrap_i64]; omega
   have aA:∀ b,tM y=b->(b=true->decide (∃ t∈s.l.take 101,tM t=true)=true) :=fun b ai au=>decide_eq_true ⟨y,aCY.2 ⟨k,by rw[aCW (by omega)]; exact aE⟩,by rw[ai,au]⟩
   have b8:=hr (ax y b6);have mv:∀ h,(bU y)[0]'h=.str y.key:=fun _=>rfl
   have Fi:∀ h,(bU y)[4]'h=.str y.val.text:=fun _=>rfl
   have ot:tM y=(decide (100<y.key.length)||decide (100<y.val.text.length)) :=rfl;obtain⟨Y,dB⟩:∃ Y,Y=bU y:=⟨_,rfl⟩
   rw[<-dB] at bZ b8 mv Fi;by_cases aq:100<y.key.length
   ·have mu:(100:Int)<(y.key.length:Int) :=by omega
    simp[bu,h,ag,h',eV,bZ,b8,mv,Fi,aq,mu];refine aJ (congrArg ad.bool ?_) rfl;unfold tL;rw[aA true (by rw[ot]; simp[aq]) rfl]; rfl
   ·have mu:¬ (100:Int)<(y.key.length:Int) :=by omega
    by_cases aH:100<y.val.text.length
    ·have lX:(100:Int)<(y.val.text.length:Int) :=by omega
     simp[bu,h,ag,h',eV,bZ,b8,mv,Fi,aq,mu,aH,lX];refine aJ (congrArg ad.bool ?_) rfl;unfold tL;rw[aA true (by rw[ot]; simp[aH]) rfl]; rfl
    ·have lX:¬ (100:Int)<(y.val.text.length:Int) :=by omega
     simp[bu,h,ag,h',eV,bZ,b8,mv,Fi,aq,mu,aH,lX,a2];refine⟨by omega,fun j t am aQ=>?_⟩;by_cases eL:j=k
     ·rw[eL,aE] at aQ; obtain rfl:=Option.some.inj aQ; rw[ot]; simp[aq,aH]
     ·exact ap j t (by omega) aQ
  ·have eV:¬ (k:Int)<=100:=by omega
   have aH:100<s.l.length:=by omega
   have lX:(100:Int)<(s.l.length:Int) :=by omega
   simp[bu,h,ag,h',eV,aH,lX];refine aJ (congrArg ad.bool ?_) rfl;unfold tL;simp[aH]
 ·have h' : ¬ (k:Int)<(s.l.length:Int) :=by omega
  have aH:((100:Int)<(s.l.length:Int))<->100<s.l.length:=by omega
  simp[bu,h,h',aH];refine aJ (congrArg ad.bool ?_) rfl;unfold tL;rw[decide_eq_false (p:=∃ t∈s.l.take 101,tM t=true),aEF];rintro⟨t,aQ,CY⟩;obtain⟨j,am⟩:=aCY.1 aQ;have eW:=(aCJ.1 am).1;rw[aCX] at eW;rw[aCW (by omega)] at am;have:=ap j t (by omega) am;rw[this] at CY; cases CY
theorem aj4 {l:List cq} (h:tL l=false) :l.length<=100/\∀ t∈l,t.key.length<=100/\t.val.text.length<=100:=by
 unfold tL at h;rw[aEH,decide_eq_false_iff_not,decide_eq_false_iff_not] at h;refine⟨by omega,fun t aQ=>?_⟩;rw[aCI (by omega)] at h;have ag:tM t=false:=by
  cases aq:tM t with
  | false=>rfl
  | true=>exact absurd ⟨t,aQ,aq⟩ h.1
 unfold tM at ag;rw[aEH,decide_eq_false_iff_not,decide_eq_false_iff_not] at ag;exact⟨by omega,by omega⟩
def zw (s:cG) :Bool:=vq s.set.l||(tL s.cY.l||decide (100<s.b4.l.length))
theorem abO (s:cG) (h1:gY s.set.l) (ag:∀ r∈s.cY.l,r.id.length=32) :bE Tryz.prog GS 18 [.aM (ed s)] (.bool (zw s)) :=by
 refine bS Tryz.checked.mixed bP ?_;apply bw age aqU;unfold PT DH zw;have mB:c1 (.av 32) (bc s.b4)=some (.int .i64 s.b4.l.length) :=by simp[bc]
 have lB:=lv s.set;have gw:=lu s.cY;have aH:((100:Int)<(s.b4.l.length:Int))<->100<s.b4.l.length:=by omega
 simp[ed];refine a8 (ati s.set h1) (by simp[a7,ad.closed,lB]) ?_;cases dH:vq s.set.l with
 | true=>
  simp;exact aJ rfl rfl
 | false=>
  simp;refine a8 (as7 s.cY ag) (by simp[a7,ad.closed,gw]) ?_;cases fR:tL s.cY.l with
  | true=>
   simp;exact aJ rfl rfl
  | false=>
   simp[mB,aH];exact aJ rfl rfl
theorem H8 {α:Type} {enc:α->List ad} {z by_:Nat} (l:aw) (b:Nat) (mx:l[b]? = some (.cells 0 [])) (s:dX α) (h:∀ x∈s.l,(enc x).length=z) (aG:z≠0) (ai:by_≠0) (aC:s.l.length*by_<=c4) :
  g8 l z by_ (.av z b 0 0 0 0) (c0 z enc s)=some (.av z b 0 s.l.length s.l.length (s.l.length*z),l.set b (.cells (s.l.length*z) (s.l.map enc).flatten)) :=by
 have e1:=EX h;unfold g8;rw[qX];simp only[];unfold iW;by_cases az:s.l.length=0
 ·have aG:s.l=[] :=aDk.1 az;rw[aG];obtain⟨fo,Fu⟩:=aCJ.1 mx;have:l.set b (.cells 0 [])=l:=by rw[<-Fu,List.set_getElem_self]
  simp[this]
 ·rw[if_neg az,if_neg (by omega)];have b2:¬ s.l=[] :=fun h=>az (by rw[h]; rfl)
  simp[aC,aG,az,b2,mx]
def h9 (s:cG) :cG:=⟨s.er,some s.set.l,some s.cY.l,some s.b4.l⟩
theorem avh {s:cG} (h:kL s) :kL (h9 s) :=⟨h.set,h.cY,h.b4,h.ls,h.sR,h.yg⟩
set_option maxHeartbeats 4000000 in
theorem ath (s:cG) (ax:kL s) :bE Tryz.prog GS 16 [.aM (ed s)] (.aM (ed (h9 s))) :=by
 refine bS Tryz.checked.mixed bP ?_;apply bw af2 aqI;unfold u9 Zw;have aC:c4=140737488355328:=rfl;have iB:∀ x∈s.set.l,(b3 x).length=33:=fun x al=>iI (ax.set x al)
 have hq:∀ x∈s.cY.l,(bU x).length=38:=fun x al=>hr (ax.cY x al).id
 have z3:∀ x∈s.b4.l,(a1 x).length=32:=fun x al=>c3 (ax.b4 x al)
 have l1:=ax.ls;have cf:=ax.sR;have fb:=ax.yg;obtain⟨A,c9⟩:∃ A,A=bp.cells 4 (ed s) :=⟨_,rfl⟩
 obtain⟨C,B5⟩:∃ C,C=bp.cells 4 [ad.int .i64 0,.aK,.aK,.aK] :=⟨_,rfl⟩
 have br:=H8 (enc:=b3) (by_:=48) [A,C,.cells 0 [],.cells 0 [],.cells 0 []] 2 rfl s.set iB (by omega) (by omega) (by rw[aC]; omega);have bI:=H8 (enc:=bU) (by_:=96) [A,C,.dead,.cells 0 [],.cells 0 []] 3 rfl s.cY hq (by omega) (by omega) (by rw[aC]; omega);have a3:=H8 (enc:=a1) (by_:=32) [A,C,.dead,.dead,.cells 0 []] 4 rfl s.b4 z3 (by omega) (by omega) (by rw[aC]; omega);have a2:ad.cr 33 (s.set.l.map b3)=cE (some s.set.l) :=rfl;have b7:ad.cr 38 (s.cY.l.map bU)=cJ (some s.cY.l) :=rfl;have dG:ad.cr 32 (s.b4.l.map a1)=bc (some s.b4.l) :=rfl;have kn:=It (some s.set.l);have ko:=vc (some s.cY.l);have sS:=Is (some s.b4.l);rw[c9,B5] at br bI a3;unfold ed at br bI a3;change g8 _ _ _ _ (cE s.set)=_ at br;change g8 _ _ _ _ (cJ s.cY)=_ at bI;change g8 _ _ _ _ (bc s.b4)=_ at a3;simp[ed,br];refine dx.zo (by exact AO iB rfl rfl) rfl ?_;simp[a2,kn,bI];refine dx.zo (by exact AO hq rfl rfl) rfl ?_;simp[b7,ko,a3];refine dx.zo (by exact AO z3 rfl rfl) rfl ?_;simp[dG,sS,bO];exact aJ rfl (show (ad.aM (ed (h9 s))).closed=true by have:=oU (h9 s); simpa [ad.closed] using this)
theorem ana (s:eN) (ax:gx s) (ap:s.l.length<=1000000) :bE Tryz.prog GS 165 [bc s] (bc s) :=by
 refine bS Tryz.checked.mixed bP ?_;refine Vu s ax ap fun v l' h=>?_
 exact h.rd fK s rfl rfl
theorem ao7 (o:bJ) :bO (bn o) 1 [bc o.bN]=bn o:=by
 unfold bO bn; simp
theorem aiZ (o:bJ) (ax:ic o) :bE Tryz.prog GS 115 [.aM (bn o)] (.aM (bn o)) :=by
 refine bS Tryz.checked.mixed bP ?_;apply bw afh apX;unfold OX YS;have cQ:=i6 o;have cH:(bn o).length=11:=rfl;have ju:∀ h,(bn o)[1]'h=bc o.bN:=fun _=>rfl
 have iJ:=eZ o.bN;have eB:=ana o.bN ax.ids ax.len;have qm:=ao7 o;have hm:=Is o.bN;obtain⟨O,eO⟩:∃ O,O=bn o:=⟨_,rfl⟩
 rw[<-eO] at cQ cH ju qm ⊢;have ng:bO [ad.int .u32 0,.aK,.int .u64 0,.int .u8 0,.str [],.int .u8 0,.int .i64 0,.int .u64 0,.str [],.int .u32 0,.int .u32 0] 0 O=O:=fM (by rw[cH]; rfl);simp[cH,ju,aCI];refine a8 eB (by simp[a7,ad.closed,iJ]) ?_;simp[cH,hm,qm,ng,aCI];exact aJ rfl (by simpa [ad.closed] using cQ)
def HL:bJ:=⟨0,none,0,⟨0,[],jN⟩,0,0⟩
def si (g:cR) (x:List B) :bJ × Int:=if x∈g.ids.l then (uv g.ops.l (r9 g.ids.l x),0) else (HL,6)
theorem zs {g:cR} (V:uV g) {i:Nat} {x:List B} {o:bJ} (aB:g.ids.l[i]? = some x) (ax:g.ops.l[i]? = some o) :si g x=(o,0) :=by
 unfold si;rw[if_pos (aCP aB),w4 V.eH aB,Dv ax]
theorem aiN (g:cR) (aA:ib g) (aG:gR g=0) (x:List B) (al:x.length=32) :bE Tryz.prog GS 68 [de g,.aM (a1 x)] (.b5 [.aM (bn (si g x).1),.int .i64 (si g x).2]) :=by
 refine bS Tryz.checked.mixed bP ?_;apply bw ahF aso;unfold Rm abg;have V:=AL aG;have dY:=eZ g.ids;have cQ:=ml g.ops;have eu:=fK x;have bm:=c3 al;have cU:=Np g aA;have aL:=SH g aA V.eH x al;rw[aG] at cU;obtain⟨X,ce⟩:∃ X,X=a1 x:=⟨_,rfl⟩
 rw[<-ce] at eu bm aL ⊢;unfold de dK at cU aL;simp[de,dK,bm,aCI];refine a8 cU (by simp[a7,ad.closed,dY,cQ]) ?_;simp[bm,aCI];refine a8 aL (by simp[a7,ad.closed,dY,cQ,eu]) ?_;by_cases hm:x∈g.ids.l
 ·obtain⟨i,aB⟩:=aCY.1 hm;obtain⟨o,ax,e2⟩:=bV (l:=g.ops.l) (k:=i) (by rw[<-V.len]; exact (aCJ.1 aB).1);rw[zs V aB ax,w4 V.eH aB];have bZ:cC (.av 11) (c8 g.ops) (.int .i64 (i:Int))=some (.cm (bn o) 0) :=by simp[c8,ax]
  have cH:(bn o).length=11:=rfl;have iJ:=i6 o;have Vg:=aiZ o (aA.ops o e2);obtain⟨O,eO⟩:∃ O,O=bn o:=⟨_,rfl⟩
  rw[<-eO] at bZ cH iJ Vg ⊢;have ng:bO [ad.int .u32 0,.aK,.int .u64 0,.int .u8 0,.str [],.int .u8 0,.int .i64 0,.int .u64 0,.str [],.int .u32 0,.int .u32 0] 0 O=O:=fM (by rw[cH]; rfl);simp[hm,bZ,cH,aCI];refine a8 Vg (by simpa [a7,ad.closed] using iJ) ?_;simp[cH,ng,aCI];exact aJ rfl (by simpa [ad.closed,a7] using iJ)
 ·have sv:si g x=(HL,6) :=by unfold si; rw[if_neg hm]
  rw[sv];simp[hm];exact aJ rfl rfl
end Op

end Go.ct

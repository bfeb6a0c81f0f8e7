/-
  Registers: what they are; checked, walked in both texts.
-/
import Derived.Test.YtobphgccoalchaaGreatDoorOk
set_option linter.unusedVariables false
set_option linter.unusedSimpArgs false
set_option linter.unnecessarySimpa false
namespace Go.cb
open Go Go.Proofs
set_option maxRecDepth 100000
namespace Op
open g3
structure bY where
 key:List UInt8
 val:hK
 cX:Q
 id:List B
instance:DecidableEq hK:=fun a b=>decidable_of_iff (a.kind=b.kind/\a.num=b.num/\a.bits=b.bits/\a.text=b.text) (by cases a; cases b; simp)
instance:DecidableEq bY:=fun a b=>decidable_of_iff (a.key=b.key/\a.val=b.val/\a.cX=b.cX/\a.id=b.id) (by cases a; cases b; simp)
def ck (r:bY) :List U:=.str r.key::bC r.val.kind::.int .i64 r.val.num::da r.val.bits::.str r.val.text::da r.cX::aS r.id
abbrev he:=c6 bY
def dt (s:he) :U:=cI 38 ck s
structure BI (r:bY) :Prop where
 id:r.id.length=32
 val:DV r.val
def hI (l:List bY) :Prop:=∀ r∈l,BI r
theorem lw {r:bY} (h:r.id.length=32) :(ck r).length=38:=by simp[ck,cM h]
theorem vJ (r:bY) :bg (ck r)=true:=by simp[ck,bg,U.closed,fE]
theorem tY (s:he) :(dt s).closed=true:=vK vJ s
def lV (l:List bY) (k:Nat) :bY:=l.getD k ⟨[],oH,0,[]⟩
theorem m7 {l:List bY} {k:Nat} {x:bY} (h:l[k]? = some x) :lV l k=x:=by
 unfold lV; rw[aug,h]; rfl
def Bj (x:Q) :Bool:=decide (x.toNat<=1000000000000)
def i7 (r:bY) :Bool:=gA r.key&&(jG r.val&&Bj r.cX)
def p5 (l:List bY) (k:Nat) :Bool:=i7 (lV l k)&&(decide (k=0)||fh (lV l (k - 1)).key (lV l k).key)
def ly (l:List bY) :Bool:=decide (∀ k,k<l.length->p5 l k=true)
def mA (l:List bY) :Int:=if 60<l.length then 4 else if ly l then 0 else 8
theorem J5 {l:List bY} (h:∀ k,k<l.length->p5 l k=true) :ly l=true:=decide_eq_true h
theorem v1 {l:List bY} {k:Nat} (hk:k<l.length) (h:p5 l k=false) :ly l=false:=decide_eq_false fun aG=>by rw[aG k hk] at h; cases h
theorem NS {E:List U} (h:E.length=38) :bu (U.str [] ::.int .u8 0::.int .i64 0::.int .u64 0::.str [] ::.int .u64 0::rep 32 (.int .u8 0)) 0 E=E:=fi (by rw[h]; rfl)
theorem R9 (x:Q) :((1000000000000:Int)<u x)<->Bj x=false:=by
 unfold Bj u;rw[decide_eq_false_iff_not];omega
theorem NJ (a b:List UInt8) :fh a b=false<->¬ a<b:=by
 rw[<-tx]; simp
set_option maxHeartbeats 4000000 in
theorem amT (s:he) (ap:hI s.l) (al:s.l.length<=1000000) :bw Tryz.prog GS 59 [.aJ [dt s]] (.int .i64 (mA s.l)) :=by
 refine bK Tryz.checked.mixed bB ?_;apply bm Tryz.func59 [];unfold mA;have bl:cz (.au 38) (dt s)=some (.int .i64 s.l.length) :=by simp[dt]
 by_cases h1:60<s.l.length
 ·have cN:(60:Int)<(s.l.length:Int) :=by omega
  simp[bl,cN];exact aK (by rw[if_pos h1]) rfl
 ·have cN:¬ (60:Int)<(s.l.length:Int) :=by omega
  simp[bl,cN];refine cF s.l.length (fun k ae l=>(∃ r,l=.cells 1 [dt s] ::r)/\ae 1=.ptr 0 0 1/\ae 10=dt s/\ae 11=.int .i64 s.l.length/\ae 12=.int .i64 k/\∀ j,j<k->p5 s.l j=true) ?_ (by simp);rintro k ae l hk ⟨⟨r,rfl⟩,aM,fS,h2,fx,ak⟩;obtain⟨ae,rfl⟩:=iw aM fS h2 fx;clear aM fS h2 fx;simp;refine ip (fun h=>?_) (fun h=>?_)
  ·simp only[decide_eq_true_eq] at h;obtain⟨y,aA,cm⟩:=bx (l:=s.l) (k:=k) (by omega);have b8:=lw (ap y cm).id;have aQ:IntKind.i64.wrap ((k:Int)+1)=((k+1:Nat) :Int) :=by rw[IntKind.wrap_i64]; omega
   have ur:=Jo ⟨2#8,y.key,oH⟩;rw[OQ] at ur;have jt:=Om y.val;have dY:p5 s.l k=(i7 y&&(decide (k=0)||fh (lV s.l (k - 1)).key y.key)) :=by unfold p5; rw[m7 aA]
   have bW:cg (.au 38) (dt s) (.int .i64 (k:Int))=some (.b3 (ck y) 0) :=by simp[dt,aA]
   have js:=NS b8;have ce:(ck y).take 38=ck y:=atT (by omega);have p7:∀ h,(ck y)[0]'h=.str y.key:=fun _=>rfl
   have uq:∀ h,(ck y)[5]'h=da y.cX:=fun _=>rfl
   have x1:((ck y).tail).take 4=dP y.val:=rfl;have nD:=R9 y.cX;have iW:bg (dP y.val)=true:=by simp[dP,bg,U.closed]
   obtain⟨R,gF⟩:∃ R,R=ck y:=⟨_,rfl⟩
   obtain⟨ZY,Ku⟩:∃ V,V=dP y.val:=⟨_,rfl⟩
   rw[<-gF] at b8 bW js ce p7 uq x1;rw[<-Ku] at jt x1 iW;simp[bW,b8,js,ce,p7];refine a1 ur rfl ?_;cases aU:gA y.key with
   | false=>
    have:i7 y=false:=by unfold i7; rw[aU]; rfl
    rw[this,auV] at dY;simp[gD];exact aK (by rw[if_neg h1,v1 h dY]; rfl) rfl
   | true=>
    simp[gD,b8,x1];refine a1 jt (by simp[bg,U.closed,iW]) ?_;cases bt:jG y.val with
    | false=>
     have:i7 y=false:=by unfold i7; rw[aU,bt]; rfl
     rw[this,auV] at dY;simp[gD];exact aK (by rw[if_neg h1,v1 h dY]; rfl) rfl
    | true=>
     cases c8:Bj y.cX with
     | false=>
      have:i7 y=false:=by unfold i7; rw[aU,bt,c8]; rfl
      rw[this,auV] at dY;have nw:=nD.2 c8;simp[gD,b8,uq,nw];exact aK (by rw[if_neg h1,v1 h dY]; rfl) rfl
     | true=>
      have nw:¬ (1000000000000:Int)<u y.cX:=fun h=>by rw[nD.1 h] at c8; cases c8
      have:i7 y=true:=by unfold i7; rw[aU,bt,c8]; rfl
      rw[this,auQ] at dY;rcases k with _ | k
      ·simp[gD,b8,uq,nw,aQ];exact⟨by omega,by rw[IntKind.wrap_i64]; omega,by rw[dY]; rfl⟩
      ·obtain⟨x,af,cC⟩:=bx (l:=s.l) (k:=k) (by omega);have fJ:cg (.au 38) (dt s) (.int .i64 (k:Int))=some (.b3 (ck x) 0) :=by simp[dt,af]
       have CO:(ck x)[0]? = some (.str x.key) :=rfl;obtain⟨ZZ,Kw⟩:∃ X,X=ck x:=⟨_,rfl⟩
       rw[<-Kw] at fJ CO;have dn:IntKind.i64.wrap (k:Int)=(k:Int) :=by rw[IntKind.wrap_i64]; omega
       have jr:(0:Int)<(k:Int)+1:=by omega
       simp only[avB,m7 af,av8,awy,and_false,decide_false,av7] at dY;simp[gD,b8,uq,nw,jr,dn,fJ,CO,p7];have KE:oR .geq x.key y.key=some (.bool (!fh x.key y.key)) :=rfl;rw[KE];cases ed:fh x.key y.key with
       | true=>
        rw[ed] at dY;simp[aQ];refine⟨by omega,by rw[IntKind.wrap_i64]; omega,fun j ai=>?_⟩;by_cases fk:j=k+1
        ·rw[fk,dY]
        ·exact ak j (by omega)
       | false=>
        rw[ed] at dY;simp;exact aK (by rw[if_neg h1,v1 h dY]; rfl) rfl
  ·simp[h];have hj:k=s.l.length:=by simp at h; omega
   exact aK (by rw[if_neg h1,if_pos (J5 fun j ai=>ak j (by omega))]) rfl
def Cd (a b:Q) :Int:=if a.toNat<b.toNat then -1 else if b.toNat<a.toNat then 1 else 0
theorem Wr (a:Q) :bw Tryz.prog GS 234 [da a] (.bool false) :=by
 refine bK Tryz.checked.mixed bB ?_;apply bm Tryz.func234 [];simp;exact aK rfl rfl
theorem abv (a b:Q) :bw Tryz.prog GS 193 [da a,da b] (.int .i64 (Cd a b)) :=by
 refine bK Tryz.checked.mixed bB ?_;apply bm Tryz.func193 [];unfold Cd;simp;refine a1 (Wr a) rfl ?_;simp;refine a1 (Wr b) rfl ?_;by_cases h1:a.toNat<b.toNat
 ·simp[h1,da,u];exact aK rfl rfl
 ·by_cases ad:b.toNat<a.toNat
  ·simp[h1,ad,da,u];exact aK rfl rfl
  ·simp[h1,ad,da,u];exact aK rfl rfl
def ov (s:Q) (x:List B) (t:Q) (y:List B) :Bool:=decide (t.toNat<s.toNat)||(decide (s=t)&&decide (0<cq x y))
theorem ahY (s:Q) (x:List B) (t:Q) (y:List B) :(0<wV (Cd s t) (cq x y))<->ov s x t y=true:=by
 unfold wV Cd ov;by_cases h1:s.toNat<t.toNat
 ·have ad:s≠t:=fun h=>by rw[h] at h1; omega
  simp[h1,ad]; omega
 ·by_cases ad:t.toNat<s.toNat
  ·simp[h1,ad]
  ·have aj:s=t:=aua (by omega);simp[aj]
theorem WK {l:ao} {j:Nat} {r:bY} (ax:r.id.length=32) (ai:l[j]? = some (.cells 38 (ck r))) :en 1 l (.au 1 j 6 32 32 38) j (r.id.map cc) :=by
 refine .au j 6 32 32 38 (ck r) _ ai (lw ax) (by simp[ax]) (fun e am=>?_) (atW _) (by omega) ?_
 ·obtain⟨x,_,rfl⟩:=auo.1 am; rfl
 ·simp only[ck,awB,au3];rw[atT (by simp[aS,ax]),xN]; rfl
theorem amP (a b:bY) (ax:a.id.length=32) (ag:b.id.length=32) :bw Tryz.prog GS 139 [.aJ (ck a),.aJ (ck b)] (.bool (ov a.cX a.id b.cX b.id)) :=by
 refine bK Tryz.checked.mixed bB ?_;apply bm Tryz.func139 [[[0],[1],[2],[3],[5],[6],[7],[8],[4]]];have h1:=lw ax;have ad:=lw ag;have aj:=cM ax;have aF:=cM ag;have adz:∀ h,(ck a)[5]'h=da a.cX:=fun _=>rfl
 have adG:∀ h,(ck b)[5]'h=da b.cX:=fun _=>rfl
 simp[h1,ad,adz,adG];refine a1 (abv _ _) rfl ?_;have ah:=E0 (some a.id) (some b.id) (by simp[ax,ag]);simp;refine ia ah ?_ rfl ?_
 ·exact .cons ((WK (j:=0) (r:=a) ax rfl).m6 (fun _=>rfl) (some a.id) rfl rfl) (.cons ((WK (j:=1) (r:=b) ag rfl).m6 (fun _=>rfl) (some b.id) rfl rfl) .nil)
 ·simp;refine ia (WF (Cd a.cX b.cX) (cq a.id b.id)) (.cons (Xx (by simp)) .nil) rfl ?_;have al:=ahY a.cX a.id b.cX b.id;simp;refine aK (congrArg U.bool ?_) rfl;rw[awz,decide_eq_true_eq]; exact al
def Ml:List l2:=.s::.i .u8::.i .i64::.i .u64::.s::.i .u64::List.replicate 32 (.i .u8)
theorem ahO:rL Tryz.prog 20 50=some Ml:=by kernel_rfl
theorem Wx {r:bY} (h:r.id.length=32) :hT Ml (ck r)=true:=by
 unfold Ml ck;have:=y0 r.id;rw[h] at this;simp only[hT,Ew,auQ];exact this
theorem aaz {a b:bY} (ax:a.id.length=32) (ag:b.id.length=32) :fu (ck a) (ck b)=decide (a=b) :=by
 unfold ck aS;simp only[fu,U.beq];rw[BT a.id b.id (by omega)];obtain⟨b6,⟨e8,lR,dW,t1⟩,dE,ej⟩:=a;obtain⟨bJ,⟨dF,ow,dB,t2⟩,g9,eZ⟩:=b;simp only[bY.mk.injEq,hK.mk.injEq];by_cases h1:b6=bJ<;>by_cases ad:e8=dF<;>by_cases aj:lR=ow<;>by_cases aF:dW=dB<;>by_cases aU:t1=t2<;>by_cases bt:dE=g9<;>by_cases c8:ej=eZ<;>simp[h1,ad,aj,aF,aU,bt,c8]
theorem Xr {a b:bY} (ax:a.id.length=32) (ag:b.id.length=32) :gv Tryz.prog .neq 50 (.aJ (ck a)) (.aJ (ck b))=some (.bool (!decide (a=b))) :=by
 rw[E4 ahO (by kernel_rfl) (by kernel_rfl) (Wx ax) (Wx ag),aaz ax ag]
theorem akJ (a b:he) (ax:hI a.l) (ag:hI b.l) (al:a.l.length<=1000000) :bw Tryz.prog GS 57 [.aJ [dt a],.aJ [dt b]] (.bool (decide (a.l=b.l))) :=by
 refine bK Tryz.checked.mixed bB ?_;apply bm Tryz.func57 [];have ij:cz (.au 38) (dt a)=some (.int .i64 a.l.length) :=by simp[dt]
 have jp:cz (.au 38) (dt b)=some (.int .i64 b.l.length) :=by simp[dt]
 by_cases h1:a.l.length=b.l.length
 ·have cN:((a.l.length:Int)=b.l.length) :=by omega
  simp[ij,jp,h1];refine cF a.l.length (fun k ae l=>l=[.cells 1 [dt a],.cells 1 [dt b]]/\ae 2=.ptr 0 0 1/\ae 3=.ptr 1 0 1/\ae 5=.int .i64 k/\∀ j,j<k->a.l[j]? = b.l[j]?) ?_ (by simp);rintro k ae l hk ⟨rfl,aT,a7,bh,ak⟩;obtain⟨s,rfl⟩:=kQ aT a7 bh;clear aT a7 bh;simp[ij];refine ip (fun h=>?_) (fun h=>?_)
  ·simp only[decide_eq_true_eq] at h;obtain⟨x,af,cC⟩:=bx h;obtain⟨y,aA,cm⟩:=bx (l:=b.l) (k:=k) (by omega);have aQ:IntKind.i64.wrap ((k:Int)+1)=((k+1:Nat) :Int) :=by rw[IntKind.wrap_i64]; omega
   have bW:cg (.au 38) (dt a) (.int .i64 (k:Int))=some (.b3 (ck x) 0) :=by simp[dt,af]
   have ii:cg (.au 38) (dt b) (.int .i64 (k:Int))=some (.b3 (ck y) 0) :=by simp[dt,aA]
   have bf:=lw (ax x cC).id;have b8:=lw (ag y cm).id;have bz:=Xr (ax x cC).id (ag y cm).id;obtain⟨X,cQ⟩:∃ X,X=ck x:=⟨_,rfl⟩
   obtain⟨Y,ef⟩:∃ Y,Y=ck y:=⟨_,rfl⟩
   rw[<-cQ] at bW bf bz;rw[<-ef] at ii b8 bz;simp[bW,ii,bf,b8,atT,bz];by_cases am:x=y
   ·simp[am,aQ];refine⟨by omega,fun j ai=>?_⟩;by_cases fk:j=k
    ·subst fk; rw[af,aA,am]
    ·exact ak j (by omega)
   ·simp[am];refine aK (congrArg U.bool (decide_eq_false fun eg=>am ?_).symm) rfl;rw[eg,aA] at af; exact (Option.some.inj af).symm
  ·simp[h];have hj:k=a.l.length:=by simp at h; omega
   refine aK (congrArg U.bool (decide_eq_true ?_).symm) rfl;apply auD;intro j;by_cases ai:j<a.l.length
   ·exact ak j (by omega)
   ·rw[at6 (by omega),at6 (by omega)]
 ·have cN:¬ ((a.l.length:Int)=b.l.length) :=by omega
  simp[ij,jp,h1,cN];exact aK (by rw[decide_eq_false (fun eg=>h1 (by rw[eg]))]) rfl
theorem ahK (r:bY) (h:r.id.length=32) :bw Tryz.prog GS 93 [.aJ (ck r)] (.str r.key) :=by
 refine bK Tryz.checked.mixed bB ?_;apply bm Tryz.func93 [];have h1:=lw h;have p7:∀ h,(ck r)[0]'h=.str r.key:=fun _=>rfl
 obtain⟨R,gF⟩:∃ R,R=ck r:=⟨_,rfl⟩
 rw[<-gF] at h1 p7 ⊢;simp[h1,p7];exact aK rfl rfl
theorem acO:hE Tryz.prog 93=true:=by kernel_rfl
theorem SG:hE Tryz.prog 143=true:=by kernel_rfl
theorem St (r:bY) (h:r.id.length=32) (k:List UInt8) {b:Nat} {l:ao} (ag:l[b]? = some (.cells 1 [.fn 93 [] []])) {K:U->ao->Prop} (aV:K (.int .i64 (pX r.key k)) (l++[.cells 38 (ck r)])) :
  cY Tryz.prog GS 143 [.aJ (ck r),.str k,.ptr b 0 1] l (c:=⟨K⟩) :=by
 apply bm Tryz.func143 [];have h1:=lw h;have Ur:=ahK r h;have mN:=vJ r;obtain⟨R,gF⟩:∃ R,R=ck r:=⟨_,rfl⟩
 rw[<-gF] at h1 Ur mN aV ⊢;have fb:b<l.length:=(atU.1 ag).1;have fT:(l++[a2.cells 38 R])[b]? = some (.cells 1 [.fn 93 [] []]) :=by rw[atV fb]; exact ag
 simp[h1,fT,atT];refine⟨acO,a1 Ur (by simp[bg,U.closed,mN]) ?_⟩;simp;refine a1 (RQ _ _) rfl ?_;simpa using aV
def eO (l:List bY) (x:List UInt8) :Nat:=(l.takeWhile fun t=>fh t.key x).length
theorem RU (x:List UInt8) :∀ {l:List bY} {p:Nat},p<=l.length->(∀ (t:Nat) (y:bY),t<p->l[t]? = some y->fh y.key x=true)->(∀ y,l[p]? = some y->fh y.key x=false)->eO l x=p
 | [],p,ay,_,_=>by simp at ay; subst ay; rfl
 | y::l,0,_,_,ad=>by
  have:=ad y rfl;unfold eO;rw[avu,this]; rfl
 | y::l,p+1,ay,h1,ad=>by
  have:=h1 0 y (by omega) rfl;have aI:=RU x (l:=l) (p:=p) (by simpa using ay) (fun t z aH aw=>h1 (t+1) z (by omega) (by simpa using aw)) (fun z aw=>ad z (by simpa using aw));unfold eO at *
  rw[avu,this];simp[aI]
def iU (l:List bY) (x:List UInt8) :Bool:=decide (eO l x<l.length)&&decide ((lV l (eO l x)).key=x)
def Hs (l:List bY) (x:List UInt8) :Prop:=∀ (i j:Nat) (a b:bY),i<=j->l[i]? = some a->l[j]? = some b->fh b.key x=true->fh a.key x=true
theorem abu (a b:List UInt8) :(pX a b<0)<->fh a b=true:=by
 unfold pX;by_cases h:fh a b=true
 ·simp[h]
 ·rw[if_neg h];simp[h];split<;>omega
structure Zv (s:he) (x:List UInt8) (m:Nat) (ae:a8) (l:ao) :Prop where
 ex:∃ (i j:Nat) (r:ao),j - i=m/\i<=j/\j<=s.l.length/\l=.cells 1 [.fn 93 [] []] ::r/\ae 0=dt s/\ae 1=.str x/\ae 2=.fn 143 [] [.ptr 0 0 1]/\ae 8=.int .i64 s.l.length/\ae 9=.int .i64 i/\ae 10=.int .i64 j ∧
  (∀ (t:Nat) (y:bY),t<i->s.l[t]? = some y->fh y.key x=true)/\(∀ (t:Nat) (y:bY),j<=t->s.l[t]? = some y->fh y.key x=false)
theorem akQ (s:he) (ap:hI s.l) (al:s.l.length<=1000000) (x:List UInt8) (hm:Hs s.l x) {K:U->ao->Prop} (aV:∀ l',K (.bE [.int .i64 (eO s.l x),.bool (iU s.l x)]) l') :
  cY Tryz.prog GS 142 [dt s,.str x,.fn 143 [] [.ptr 0 0 1]] [.cells 1 [.fn 93 [] []]] (c:=⟨K⟩) :=by
 apply bm Tryz.func142 [];have bl:cz (.au 38) (dt s)=some (.int .i64 s.l.length) :=by simp[dt]
 simp[bl];refine uS (Zv s x) ?_ s.l.length _ _ ⟨0,s.l.length,[],by omega,by omega,by omega,rfl,by simp,by simp,by simp,by simp,by simp,by simp,fun t y h=>by omega,fun t y h ad=>by rw[at6 h] at ad; cases ad⟩;rintro m ae l ⟨i,j,r,gb,hi,eX,rfl,ca,aM,aT,dw,gL,fS,h1,ad⟩;obtain⟨ae,rfl⟩:=zi ca aM aT dw gL fS;clear ca aM aT dw gL fS;by_cases aN:i<j
 ·obtain⟨h,aG⟩:∃ h,h=(i+j) / 2:=⟨_,rfl⟩
  have b1:IntKind.i64.wrap ((i:Int)+j)=((i+j:Nat) :Int) :=by rw[IntKind.wrap_i64]; omega
  have w2:IntKind.u64.wrap ((i+j:Nat) :Int)=((i+j:Nat) :Int) :=by rw[vh,avh]; unfold u; rw[auc,at7 (by omega)]
  have ei:=Ya (i+j) (by omega);have n0:IntKind.i64.wrap (h:Int)=(h:Int) :=by rw[IntKind.wrap_i64]; omega
  have qS:IntKind.i64.wrap ((h:Int)+1)=((h+1:Nat) :Int) :=by rw[IntKind.wrap_i64]; omega
  rw[<-aG] at ei;obtain⟨y,aA,cm⟩:=bx (l:=s.l) (k:=h) (by omega);have b8:=lw (ap y cm).id;have bW:cg (.au 38) (dt s) (.int .i64 (h:Int))=some (.b3 (ck y) 0) :=by simp[dt,aA]
  have qa:=abu y.key x;have yg:=fun (K:U->ao->Prop)=>St y (ap y cm).id x (b:=0) (l:=.cells 1 [.fn 93 [] []] ::r) (K:=K) rfl
  obtain⟨Y,ef⟩:∃ Y,Y=ck y:=⟨_,rfl⟩
  rw[<-ef] at b8 bW yg;obtain⟨N,fv⟩:∃ N,N=i+j:=⟨_,rfl⟩
  rw[<-fv] at b1 w2 ei;simp[aN,b1,w2,ei,n0,bW,b8,atT];refine⟨SG,yg _ ?_⟩;by_cases bt:pX y.key x<0
  ·simp[bt,qS];refine⟨j - (h+1),by omega,h+1,j,_,rfl,by omega,by omega,rfl,by simp,by simp,by simp,by simp,by simp,by simp,fun t z aH aw=>?_,ad⟩;exact hm t h z y (by omega) aw aA (qa.1 bt)
  ·simp[bt];refine⟨h - i,by omega,i,h,_,rfl,by omega,by omega,rfl,by simp,by simp,by simp,by simp,by simp,by simp,h1,fun t z aH aw=>?_⟩;cases c8:fh z.key x with
   | false=>rfl
   | true=>exact absurd (qa.2 (hm h t y z aH aA aw c8)) bt
 ·obtain rfl:i=j:=by omega
  have ah:=RU x (l:=s.l) (p:=i) eX h1 (fun y aA=>ad i y (atW _) aA);by_cases c7:i<s.l.length
  ·obtain⟨y,aA,cm⟩:=bx (l:=s.l) (k:=i) c7;have b8:=lw (ap y cm).id;have bW:cg (.au 38) (dt s) (.int .i64 (i:Int))=some (.b3 (ck y) 0) :=by simp[dt,aA]
   have CV:=RR y.key x;have yg:=fun (K:U->ao->Prop)=>St y (ap y cm).id x (b:=0) (l:=.cells 1 [.fn 93 [] []] ::r) (K:=K) rfl
   obtain⟨Y,ef⟩:∃ Y,Y=ck y:=⟨_,rfl⟩
   rw[<-ef] at b8 bW yg;simp[c7,bW,b8,atT];refine⟨SG,yg _ ?_⟩;simp;have:iU s.l x=decide (pX y.key x=0) :=by
    unfold iU;rw[ah,m7 aA,decide_eq_true c7,auQ,decide_eq_decide];exact CV.symm
   rw[<-ah,<-this];exact aV _
  ·simp[c7];have:iU s.l x=false:=by
    unfold iU;rw[ah,decide_eq_false c7,auV]
   rw[<-this,<-ah];exact aV _
theorem acL (s:he) (ap:hI s.l) (al:s.l.length<=1000000) (x:List UInt8) (hm:Hs s.l x) :
  bw Tryz.prog GS 92 [dt s,.fn 93 [] [],.str x] (.bE [.int .i64 (eO s.l x),.bool (iU s.l x)]) :=by
 refine bK Tryz.checked.mixed bB ?_;apply bm Tryz.func92 [];simp;refine akQ s ap al x hm fun l'=>?_
 simp;exact aK rfl rfl
theorem Wm (s:he) :gv Tryz.prog .eql 32 (cI 38 ck s) .aW=some (.bool s.isNone) :=E3 (e:=50) (by kernel_rfl) 38 ck s
theorem Ct {l:List bY} (h:hI l) :((l.map ck).flatten).length=l.length*38:=by
 rw[l8 (z:=38) (fun e am=>by obtain⟨y,aA,rfl⟩:=auo.1 am; exact lw (h y aA).id),auh]
theorem ai8 {l:ao} {b n:Nat} {a:List bY} (ax:hI a) (aC:a.length=n) (ag:l[b]? = some (.cells (n*38) (a.map ck).flatten)) :bG 38 l (.au 38 b 0 n n (n*38)) b (a.map ck) :=by
 have fc:=Ct ax;refine .au b n n (n*38) _ _ ag (by rw[fc,aC]) (by simp[aC]) (fun e am=>?_) (atW _) (atW _) ?_
 ·obtain⟨y,aA,rfl⟩:=auo.1 am; exact lw (ax y aA).id
 ·rw[atT (by rw[fc,aC]; omega)]
structure iM (l:ao) (v:U) (j:Nat) (xs:List bY) :Prop where
 o:bG 38 l v j (xs.map ck)
 v:v=.aW\/v=.au 38 j 0 xs.length xs.length (xs.length*38)
theorem iM.nil (l:ao) (j:Nat) :iM l .aW j [] :=⟨.nil j,.inl rfl⟩
theorem iM.frame {l l' : ao} {v:U} {j:Nat} {xs:List bY} (h:iM l v j xs) (aD:v=.aW\/l'[j]? = l[j]?) :iM l' v j xs:=⟨h.o.oV aD,h.v⟩
theorem iM.full {l:ao} {j:Nat} {xs:List bY} (ap:hI xs) (ag:l[j]? = some (.cells (xs.length*38) (xs.map ck).flatten)) :iM l (.au 38 j 0 xs.length xs.length (xs.length*38)) j xs:=⟨ai8 ap rfl ag,.inr rfl⟩
theorem iM.block {l:ao} {v:U} {j:Nat} {xs:List bY} (h:iM l v j xs) (aq:v≠.aW) :v=.au 38 j 0 xs.length xs.length (xs.length*38)/\l[j]? = some (.cells (xs.length*38) (xs.map ck).flatten) :=by
 have qy:=h.v.resolve_left aq;refine⟨qy,?_⟩;have ap:=h.o;rw[qy] at ap;generalize am:U.au 38 j 0 xs.length xs.length (xs.length*38)=w at ap;generalize jn:xs.map ck=es at ap;cases ap with
 | nil=>cases am
 | au VA n cap sz cs es ag al aC aw ah c3 ci=>
  injection am with _ aQ _ bF dn kt
  rw[ag,<-kt,<-ci,atT (by rw[al,<-kt,<-bF]; omega)]
def N4 (v:U) (xs:List bY) :he:=match cx v with | true=>none | false=>some xs
theorem iM.alM {l:ao} {v:U} {j:Nat} {xs:List bY} (h:iM l v j xs) :(N4 v xs).l=xs:=by
 rcases h.v with aq | aq
 ·have:=h.o;rw[aq] at this;have af:=this.q.tc;rw[au6] at af;rw[aq,af]; rfl
 ·rw[aq]; rfl
theorem iM.rd {l:ao} {v:U} {j:Nat} {xs:List bY} (h:iM l v j xs) :fX (bU l) v (dt (N4 v xs)) :=by
 rcases h.v with aq | aq
 ·rw[aq]; exact .same _ rfl
 ·have:=h.o.m6 (fun x=>vJ x) (some xs) (by rw[aq]; rfl) rfl;rw[aq] at this ⊢;exact this
theorem abp (s:he) (ap:hI s.l) (ak:s.l.length<=1000000) {l:ao} {K:U->ao->Prop} (aE:s=none->K .aW l)
  (h1:∀ a,s=some a->K (.au 38 l.length 0 a.length a.length (a.length*38)) (l++[.cells (a.length*38) (a.map ck).flatten])) :
  cY Tryz.prog GS 155 [dt s] l (c:=⟨K⟩) :=by
 apply bm Tryz.func155 [];have az:cK=140737488355328:=rfl;cases s with
 | none=>
  simp[dt,Wm];exact aE rfl
 | some a=>
  simp at ak;have fc:=Ct (l:=a) ap;have mL:iP (l++[a2.cells 0 []]) 38 96 (.au 38 l.length 0 0 0 0) (cI 38 ck (some a))=some (.au 38 l.length 0 a.length a.length (a.length*38),l++[.cells (a.length*38) (a.map ck).flatten]) :=by
   unfold iP;rw[zM];simp only[c6.yN];unfold iB;by_cases aw:a.length=0
   ·have:a=[] :=auE.1 aw;subst this;simp
   ·rw[if_neg aw,if_neg (by omega)];simp[az];exact⟨by omega,fun h=>by simp[h]⟩
  simp[dt,Wm,mL];refine dT.cy ?_;simp;exact h1 a rfl
theorem ag9 {l:ao} {b bv n i:Nat} {a:List bY} {x:bY} (ax:hI a) (af:BI x) (aC:a.length=n) (ag:l[b]? = some (.cells (n*38) (a.map ck).flatten)) (h3:l[bv]? = some (.cells 38 (ck x))) (bz:bv≠b) (av:i<=n) (ol:n<=1000000)
  {K:U->ao->Prop} (aV:K (.au 38 l.length 0 (n+1) (n+1) ((n+1)*38)) (l.set b .dead++[.cells ((n+1)*38) ((jR a i x).map ck).flatten])) :
  cY Tryz.prog GS 138 [.au 38 b 0 n n (n*38),.int .i64 i,.au 38 bv 0 1 1 38] l (c:=⟨K⟩) :=by
 have fb:=e1 ag;have ak:=Mb (P:=Tryz.prog) (G:=GS) (h:=bU l) L8 (by kernel_rfl) (by kernel_rfl) (show iQ Tryz.prog 50=some 96 by kernel_rfl) (by omega) (by omega) (by kernel_rfl) (b:=b) (bv:=bv) (len:=n) (cap:=n) (i:=i) (lY.2 ag) (lY.2 h3) bz av (atW _) (by unfold cK; omega);rw[vk,n2 _ fb,lo,av3 (by omega)] at ak;refine⟨_,_,.ext ak,by simp,?_⟩;have fc:=Ct ax;have bF:a.map ck=(a.take i).map ck++(a.drop i).map ck:=by rw[<-auq,auz]
 have GV:((a.take i).map ck).flatten.length=i*38:=by
  rw[Ct (fun t aH=>ax t (aur aH)),aue,ava (by omega)]
 have Ai:((a.drop i).map ck).flatten.length=(n - i)*38:=by
  rw[Ct (fun t aH=>ax t (avC aH)),au4,aC]
 have cE:lP 38 (a.map ck).flatten (ck x) i n=((jR a i x).map ck).flatten:=by
  unfold lP jR;have h1:((a.map ck).flatten).take (i*38)=((a.take i).map ck).flatten:=by
   rw[bF,auM,auj (by omega),atT (by omega)]
  have ad:((a.map ck).flatten).drop (i*38)=((a.drop i).map ck).flatten:=by
   rw[bF,auM,auH (by omega),au2 (by omega),auT]
  have aj:(((a.drop i).map ck).flatten).take ((n - i)*38)=((a.drop i).map ck).flatten:=atT (by omega);have aF:((a.map ck).flatten).drop ((n+1)*38)=[] :=au2 (by rw[fc,aC]; omega);rw[h1,ad,aj,aF,auu];simp
 rw[cE];exact aV
theorem ag8 {l:ao} {bv:Nat} {x:bY} (h3:l[bv]? = some (.cells 38 (ck x))) {K:U->ao->Prop} (aV:K (.au 38 l.length 0 1 1 38) (l++[.cells 38 (ck x)])) :
  cY Tryz.prog GS 138 [.aW,.int .i64 0,.au 38 bv 0 1 1 38] l (c:=⟨K⟩) :=by
 have ak:=Ma (P:=Tryz.prog) (G:=GS) (h:=bU l) L8 (by kernel_rfl) (by kernel_rfl) (show iQ Tryz.prog 50=some 96 by kernel_rfl) (by omega) (by omega) (by kernel_rfl) (bv:=bv) (lY.2 h3) (by unfold cK; omega);rw[vk,lo] at ak;exact⟨_,_,.ext ak,by simp,aV⟩
theorem RT (l:List bY) (x:List UInt8) :eO l x<=l.length:=by unfold eO; exact (aws _).length_le
def iK (l:List bY) (x:bY) :List bY:=if iU l x.key=true then (if ov x.cX x.id (lV l (eO l x.key)).cX (lV l (eO l x.key)).id=true then l.set (eO l x.key) x else l) else jR l (eO l x.key) x
def fV (o:bq) (x:List B) :bY:=⟨o.act.key,o.act.val,o.cX,x⟩
def eL (l:List bY) (o:bq) (x:List B) :List bY:=if o.act.kind=4#8 then iK l (fV o x) else l
theorem ab2 (o:bq) :((u o.act.kind:Int)=4)<->o.act.kind=4#8:=r4 o.act.kind 4#8
theorem Vv {l:List bY} {i:Nat} {x:bY} (h:hI l) (af:BI x) :hI (jR l i x) :=fun t aH=>by
 rcases G7.1 aH with e | e
 ·rw[e]; exact af
 ·exact h t e
theorem NM {l:List bY} {x:bY} (h:hI l) (af:BI x) :hI (iK l x)/\(iK l x).length<=l.length+1:=by
 unfold iK;split
 ·split
  ·refine⟨fun t aH=>?_,by simp⟩;rcases avl aH with e | e
   ·exact h t e
   ·rw[e]; exact af
  ·exact⟨h,by omega⟩
 ·exact⟨Vv h af,by rw[AO]; omega⟩
set_option maxHeartbeats 8000000 in
theorem Xf (o:bq) (ap:DV o.act.val) (x:List B) (af:x.length=32) {xs:List bY} (df:hI xs) (aC:xs.length<=1000000) (hm:Hs xs o.act.key) {l:ao} {v:U} {j:Nat} (h:iM l v j xs) {K:U->ao->Prop}
  (aV:∀ aY l' bM,iM l' aY bM (eL xs o x)->((v≠.aW/\bM=j)\/l.length<=bM\/aY=.aW)->l.length<=l'.length->(∀ b,b<l.length->(v=.aW\/b≠j)->l'[b]? = l[b]?)->(cx aY=true->cx v=true/\o.act.kind≠4#8)->(o.act.kind≠4#8->aY=v)->K aY l') :
  cY Tryz.prog GS 87 [v,.aJ (bd o),.aJ (aS x)] l (c:=⟨K⟩) :=by
 apply bm Tryz.func87 [];have bf:=cM af;have cl:(bd o).length=11:=rfl;have rg:∀ h,(bd o)[3]'h=bC o.act.kind:=fun _=>rfl
 have rh:∀ h,(bd o)[4]'h=.str o.act.key:=fun _=>rfl
 have Tr:∀ h,(bd o)[2]'h=da o.cX:=fun _=>rfl
 have Ts:((bd o).drop 5).take 4=dP o.act.val:=rfl;have apJ:(dP o.act.val).length=4:=rfl;have Un:=ab2 o;obtain⟨O,dX⟩:∃ O,O=bd o:=⟨_,rfl⟩
 obtain⟨X,cQ⟩:∃ X,X=aS x:=⟨_,rfl⟩
 rw[<-dX] at cl rg rh Tr Ts ⊢;rw[<-cQ] at bf ⊢;obtain⟨L,e6⟩:∃ L,L=l++[a2.cells 11 O,a2.cells 32 X] :=⟨_,rfl⟩
 have mK:L.length=l.length+2:=by rw[e6]; simp
 have Kn:∀ b,b<l.length->L[b]? = l[b]?:=fun b ag=>by rw[e6,atV ag]
 have eh:L[l.length]? = some (.cells 11 O) :=by rw[e6,at8 (atW _)]; simp
 have q1:L[l.length+1]? = some (.cells 32 X) :=by rw[e6,at8 (by omega)]; simp
 have ai:v=.aW\/j<l.length:=h.o.lt;by_cases di:o.act.kind=4#8
 ·have Mj:=Un.2 di;have kh:eL xs o x=iK xs (fV o x) :=by unfold eL; rw[if_pos di]
  have Ln:BI (fV o x) :=⟨af,ap⟩
  have Tz:ck (fV o x)=.str o.act.key::bC o.act.val.kind::.int .i64 o.act.val.num::da o.act.val.bits::.str o.act.val.text::da o.cX::X:=by rw[cQ]; rfl
  have nA:=lw af (r:=fV o x);have Tw:∀ h,(ck (fV o x))[0]'h=.str o.act.key:=fun _=>rfl
  have nJ:bu (rep 32 (.int .u8 0)) 0 X=X:=fi (by rw[bf]; rfl);have yC:=NS nA;have ak:=h.alM;obtain⟨s,hN⟩:∃ s,s=N4 v xs:=⟨_,rfl⟩
  rw[<-hN] at ak;have uv:=acL s (by rw[ak]; exact df) (by rw[ak]; exact aC) o.act.key (by rw[ak]; exact hm);rw[ak] at uv;have TP:=vJ (fV o x);obtain⟨T,ce⟩:∃ T,T=ck (fV o x) :=⟨_,rfl⟩
  rw[<-ce] at Tz nA Tw yC TP;obtain⟨si,CM⟩:∃ si,si=L++[a2.cells 38 T] :=⟨_,rfl⟩
  have Kl:si.length=l.length+3:=by rw[CM]; simp[mK]
  have FU:∀ b,b<l.length->si[b]? = l[b]?:=fun b ag=>by rw[CM,atV (by omega)]; exact Kn b ag
  have ad:iM si v j xs:=h.frame (ai.imp_right fun ai=>FU j ai);have UZ:=ad.rd;rw[<-hN] at UZ;have ff:si[l.length+2]? = some (.cells 38 T) :=by rw[CM,at8 (by omega),mK]; simp
  have ca:∀ h,L[l.length]'h=.cells 11 O:=fun h=>(atU.1 eh).2
  have aM:∀ h,L[l.length+1]'h=.cells 32 X:=fun h=>(atU.1 q1).2
  have aT:∀ h,si[l.length+2]'h=.cells 38 T:=fun h=>(atU.1 ff).2
  have mn:∀ y:a2,(L++[y]).set (l.length+2) (.cells 38 T)=si:=fun y=>by rw[CM,auA _ _ (by omega),mK]; simp
  have ajw:∀ y:a2,(L++[y])[l.length+2]? = some y:=fun y=>by rw[at8 (by omega),mK]; simp
  simp[cl,bf,rg,rh,Tr,Ts,dP,Mj,<-e6,eh,q1,mK,atT,nJ,<-Tz,nA,yC,mn,ajw,ff,Tw,ca,aM,aT];rw[<-CM];refine ia uv (.cons UZ (.cons (.same _ rfl) (.cons (.same _ rfl) .nil))) rfl ?_;have eb:=RT xs o.act.key;obtain⟨j2,fI⟩:∃ a,a=eO xs o.act.key:=⟨_,rfl⟩
  have uD:iK xs (fV o x)=if iU xs o.act.key=true then (if ov o.cX x (lV xs j2).cX (lV xs j2).id=true then xs.set j2 (fV o x) else xs) else jR xs j2 (fV o x) :=by rw[fI]; rfl
  rw[<-fI] at eb ⊢;cases aD:iU xs o.act.key with
  | false=>
   rw[aD,if_neg (by simp)] at uD;obtain⟨xu,FT⟩:∃ xu,xu=si++[a2.cells 38 T] :=⟨_,rfl⟩
   have apD:xu.length=l.length+4:=by rw[FT]; simp[Kl]
   have Ko:∀ b,b<l.length->xu[b]? = l[b]?:=fun b ag=>by rw[FT,atV (by omega)]; exact FU b ag
   have iJ:xu[l.length+3]? = some (.cells 38 T) :=by rw[FT,at8 (by omega),Kl]; simp
   simp[Kl,ff,aT,nA,yC,atT,<-FT];by_cases aq:v=.aW
   ·have wA:xs=[] :=by
     have:=h.o;rw[aq] at this;have:=this.q.tc
     rwa [au6] at this
    have TC:j2=0:=by rw[wA] at eb; simp at eb; exact eb
    rw[aq,TC];refine ag8 (x:=fV o x) (by rw[iJ,ce]) ?_;simp;have qr:eL xs o x=[fV o x] :=by rw[kh,uD,wA,TC]; rfl
    refine aV _ _ xu.length ?_ (.inr (.inl (by omega))) (by simp; omega) (fun b ag _=>by rw[atV (by omega)]; exact Ko b ag) (fun aG=>by cases aG) (fun aG=>absurd di aG);rw[qr];exact iM.full (xs:=[fV o x]) (fun t aH=>by rw[aui] at aH; rw[aH]; exact Ln) (by simp)
   ·obtain⟨qy,ag⟩:=h.block aq;have eX:=ai.resolve_left aq;rw[qy];refine ag9 (a:=xs) (x:=fV o x) df Ln rfl (by rw[Ko j eX]; exact ag) (by rw[iJ,ce]) (by omega) eb aC ?_;simp;refine aV _ _ xu.length ?_ (.inr (.inl (by omega))) (by simp; omega) (fun b ag gN=>by rw[atV (by simp; omega),at5 (fun e=>(gN.resolve_left aq) e.symm)]; exact Ko b ag) (fun aG=>by cases aG) (fun aG=>absurd di aG);rw[kh,uD];have bl:(jR xs j2 (fV o x)).length=xs.length+1:=AO _ _ _;rw[<-bl];exact iM.full (Vv df Ln) (by rw[at8 (by simp)]; simp)
  | true=>
   rw[aD,if_pos rfl] at uD;have Am:=aD;unfold iU at Am;rw[atY,decide_eq_true_eq,<-fI] at Am;obtain⟨y,aA,cm⟩:=bx Am.1;have Dp:lV xs j2=y:=m7 aA;rw[Dp] at uD;have aq:v≠.aW:=fun aq=>by
    have:=h.o;rw[aq] at this;have:=this.q.tc;rw[au6] at this;rw[this] at aA; simp at aA
   have b8:=lw (df y cm).id;have jm:=vJ y;obtain⟨p,c,q,aX,a6,a3,a4⟩:=ad.o.q.get (k:=.i64) (i:=j2) (e:=ck y) (by rw[at0,aA]; rfl);have aN:=amP (fV o x) y af (df y cm).id;rw[<-ce] at aN;obtain⟨Y,ef⟩:∃ Y,Y=ck y:=⟨_,rfl⟩
   rw[<-ef] at a4 aN b8 jm;simp[ff,aT,nA,atT,aX,a6,a3,a4];refine a1 aN (by simp[bg,U.closed,TP,jm]) ?_;have jp:ov (fV o x).cX (fV o x).id y.cX y.id=ov o.cX x y.cX y.id:=rfl;rw[jp];cases ij:ov o.cX x y.cX y.id with
   | false=>
    rw[ij,if_neg (by simp)] at uD;simp;refine aV v si j (by rw[kh,uD]; exact ad) (.inl ⟨aq,rfl⟩) (by omega) (fun b ag _=>FU b ag) (fun aG=>absurd (i2.1 aG) aq) (fun aG=>absurd di aG)
   | true=>
    rw[ij,if_pos rfl] at uD;obtain⟨bS,l',dW,dB,gg,l3,tR⟩:=HF (X:=.aJ (ck (fV o x))) rfl ad.o (fun y aA=>lw (df y aA).id) Am.1 (by rw[<-ce]; exact nA);rw[aX] at dW;obtain rfl:=Option.some.inj dW;rw[<-ce] at dB;simp[ff,aT,nA,atT,aX,dB];refine aV v l' j ?_ (.inl ⟨aq,rfl⟩) (by omega) (fun b ag gN=>by rw[tR b (gN.resolve_left aq)]; exact FU b ag) (fun aG=>absurd (i2.1 aG) aq) (fun aG=>absurd di aG);rw[kh,uD];refine⟨gg,.inr ?_⟩;rw[awa];exact h.v.resolve_left aq
 ·have Mj:¬ (u o.act.kind:Int)=4:=fun aG=>di (Un.1 aG)
  simp[cl,bf,rg,Mj,<-e6,eh];have kh:eL xs o x=xs:=by unfold eL; rw[if_neg di]
  refine aV v L j (by rw[kh]; exact h.frame (ai.imp_right fun ai=>Kn j ai)) ?_ (by omega) (fun b ag _=>Kn b ag) (fun aG=>⟨aG,di⟩) (fun _=>rfl);by_cases aq:v=.aW
  ·exact .inr (.inr aq)
  ·exact .inl ⟨aq,rfl⟩
theorem Jm (s:he) :(dt s).cells=some [dt s] :=by cases s<;>rfl
theorem J3 {l:List bY} (h:mA l=0) :l.length<=60/\ly l=true:=by
 unfold mA at h;split at h
 ·cases h
 ·split at h
  ·rename_i h1 ad; exact⟨by omega,ad⟩
  ·cases h
theorem S7 {l:List bY} (h:ly l=true) {i:Nat} {a b:bY} (ax:l[i]? = some a) (ag:l[i+1]? = some b) :fh a.key b.key=true:=by
 have h1:=(of_decide_eq_true h) (i+1) (atU.1 ag).1;unfold p5 at h1;rw[avB,m7 ax,m7 ag,atY] at h1;simpa using h1.2
theorem v2 {l:List bY} (h:ly l=true) :∀ {d i:Nat} {a b:bY},l[i]? = some a->l[i+d+1]? = some b->fh a.key b.key=true
 | 0,i,a,b,ax,ag=>S7 h ax ag
 | d+1,i,a,b,ax,ag=>by
  obtain⟨c,ah,_⟩:=bx (l:=l) (k:=i+d+1) (by have:=(atU.1 ag).1; omega);exact Ek (v2 h ax ah) (S7 h ah ag)
theorem J4 {l:List bY} (h:ly l=true) (x:List UInt8) :Hs l x:=by
 intro i j a b hi ax ag aN;by_cases am:i=j
 ·subst am; rw[ax] at ag; cases ag; exact aN
 ·exact Ek (v2 h (d:=j - i - 1) ax (by rw[show i+(j - i - 1)+1=j by omega]; exact ag)) aN
def oB (s:he) (o:bq) :he:=if s.isNone=true/\o.act.kind≠4#8 then none else some (eL s.l o (dZ o))
theorem w7 (s:he) (o:bq) :(oB s o).l=eL s.l o (dZ o) :=by
 unfold oB;split
 ·rename_i h;cases s with
  | some a=>cases h.1
  | none=>unfold eL; rw[if_neg h.2]
 ·rfl
def ib (s:he) (o:bq) :he × Int:=
 if mA s.l=0 then (if fA o=0 then (if 60<(eL s.l o (dZ o)).length then (none,18) else (oB s o,0)) else (none,8)) else (none,mA s.l)
set_option maxHeartbeats 8000000 in
theorem amS (s:he) (o:bq) (ak:hI s.l) (ec:s.l.length<=1000000) (ap:ko o) :
  bw Tryz.prog GS 98 [.aJ [dt s],.aJ (bd o)] (.bE [.aJ [dt (ib s o).1],.int .i64 (ib s o).2]) :=by
 refine bK Tryz.checked.mixed bB ?_;apply bm Tryz.func98 [[[0],[1],[3],[4],[2,4,3]]];have ci:=tY s;have cD:=l6 o;have dh:=amT s ak ec;have fm:=Ou o ap;have c7:=G5 o;have cl:(bd o).length=11:=rfl;have mN:=Jm s;by_cases aE:mA s.l=0
 ·by_cases h1:fA o=0
  ·obtain⟨D,jk⟩:∃ D,D=(dZ o).map bC:=⟨_,rfl⟩
   have lz:D.length=32:=by rw[jk,auh,c7]
   have Tk:bg D=true:=by rw[jk]; exact lr bC (fun _=>rfl) _
   have adI:aS (dZ o)=D:=by rw[jk]; rfl
   have rz:bu (rep 32 (.int .u8 0)) 0 D=D:=fi (by rw[lz]; rfl);unfold fz at fm;rw[<-jk] at fm;have sP:=J4 (J3 aE).2 o.act.key;have kv:=(J3 aE).1;obtain⟨O,dX⟩:∃ O,O=bd o:=⟨_,rfl⟩
   have kh:=fun (l:ao) (v:U) (j:Nat) (h:iM l v j s.l) (K:U->ao->Prop)=>Xf o ap.val (dZ o) c7 ak ec sP h (K:=K)
   rw[<-dX] at fm cl cD ⊢;simp only[<-dX,adI] at kh;simp[cl,mN,atT];refine a1 dh (by simp[bg,U.closed,ci]) ?_;simp[aE,cl,atT];refine a1 fm (by simp[bg,U.closed,cD]) ?_;simp[h1,lz,rz,cl,atT];refine abp s ak ec (fun aC=>?_) (fun a yA=>?_)
   ·subst aC;simp[cl,lz,atT];refine kh _ _ _ (iM.nil _ 4) _ (fun aY l' bM dJ fg m3 rY tm tn=>?_);have ff:l'[2]? = some (.cells 1 [.aW]) :=by rw[rY 2 (by simp) (.inl rfl)]; rfl
    have pc:3<=l'.length:=by simp at m3; omega
    have bl:=dJ.o.len;rw[auh] at bl;have jt:=dJ.o.cells;have g9:∀ y:a2,(l'.set 2 y)[2]? = some y:=fun y=>at9 (by omega)
    by_cases eG:60<(eL [] o (dZ o)).length
    ·have re:(60:Int)<((eL [] o (dZ o)).length:Int) :=by omega
     have ax:ib (none) o=(none,18) :=by unfold ib; rw[if_pos aE,if_pos h1]; exact if_pos eG
     rw[ax];simp[bl,re,ff,g9];exact aK rfl rfl
    ·have re:¬ (60:Int)<((eL [] o (dZ o)).length:Int) :=by omega
     have ax:ib (none) o=(oB (none) o,0) :=by unfold ib; rw[if_pos aE,if_pos h1]; exact if_neg eG
     rw[ax];simp[bl,re,ff,g9,jt];refine tt (w4 ?_) (aK rfl rfl);have lE:bG 38 (l'.set 2 (.cells 1 [aY])) aY bM ((eL [] o (dZ o)).map ck) :=dJ.o.oV (by
      by_cases aq:aY=.aW
      ·exact .inl aq
      ·right;refine at5 ?_;rcases fg with h | h | h
       ·exact absurd rfl h.1
       ·simp at h; omega
       ·exact absurd h aq)
     exact lE.q.oA (fun x=>vJ x) (oB (none) o) (by
      unfold oB;by_cases di:o.act.kind=4#8
      ·simp[di];cases ed:cx aY with
       | false=>rfl
       | true=>exact absurd di (tm ed).2
      ·simp[di];rw[tn di]; rfl) (w7 _ _)
   ·subst yA;simp[cl,lz,atT];refine kh _ _ _ (iM.full ak (by simp)) _ (fun aY l' bM dJ fg m3 rY tm tn=>?_);have ff:l'[2]? = some (.cells 1 [.aW]) :=by rw[rY 2 (by simp) (.inr (by simp))]; rfl
    have pc:3<=l'.length:=by simp at m3; omega
    have bl:=dJ.o.len;rw[auh] at bl;have jt:=dJ.o.cells;have g9:∀ y:a2,(l'.set 2 y)[2]? = some y:=fun y=>at9 (by omega)
    by_cases eG:60<(eL a o (dZ o)).length
    ·have re:(60:Int)<((eL a o (dZ o)).length:Int) :=by omega
     have ax:ib (some a) o=(none,18) :=by unfold ib; rw[if_pos aE,if_pos h1]; exact if_pos eG
     rw[ax];simp[bl,re,ff,g9];exact aK rfl rfl
    ·have re:¬ (60:Int)<((eL a o (dZ o)).length:Int) :=by omega
     have ax:ib (some a) o=(oB (some a) o,0) :=by unfold ib; rw[if_pos aE,if_pos h1]; exact if_neg eG
     rw[ax];simp[bl,re,ff,g9,jt];refine tt (w4 ?_) (aK rfl rfl);have lE:bG 38 (l'.set 2 (.cells 1 [aY])) aY bM ((eL a o (dZ o)).map ck) :=dJ.o.oV (by
      by_cases aq:aY=.aW
      ·exact .inl aq
      ·right;refine at5 ?_;rcases fg with h | h | h
       ·rw[h.2]; simp
       ·simp at h; omega
       ·exact absurd h aq)
     exact lE.q.oA (fun x=>vJ x) (oB (some a) o) (by
      unfold oB;simp;cases ed:cx aY with
      | false=>rfl
      | true=>exact absurd (tm ed).1 (by simp[cx])) (w7 _ _)
  ·have ax:ib s o=(none,8) :=by unfold ib; rw[if_pos aE,if_neg h1]
   rw[ax];simp[cl,mN];refine a1 dh (by simp[bg,U.closed,ci]) ?_;simp[aE,cl,atT];refine a1 fm (by simp[bg,U.closed,cD]) ?_;simp[h1,fz,c7];exact aK rfl rfl
 ·have ax:ib s o=(none,mA s.l) :=by unfold ib; rw[if_neg aE]
  rw[ax];simp[cl,mN];refine a1 dh (by simp[bg,U.closed,ci]) ?_;simp[aE];exact aK rfl rfl
def k9 (a b:bY) :Bool:=fh a.key b.key
def Ox (l:List bY) (x:bY) :List bY:=jR l (nP k9 l x l.length) x
theorem abe {l:ao} {p:U} {x:List U × Nat} (h:eM l p=some x) :nq p 0=some p:=by
 cases p<;>first | rfl | (exfalso; simp[eM] at h)
structure anP (l:ao) (a:List bY) (x:bY) (m:Nat) (ae:a8) (l1:ao) :Prop where
 ex:∃ (i:Nat) (v:U),i=m/\i<=a.length/\ae 5=v/\ae 6=.int .i64 (i:Int)/\cn 38 ck l l1 v (jR a i x) false/\nP k9 a x i=nP k9 a x a.length
set_option maxHeartbeats 4000000 in
theorem ajQ (s:he) (ap:hI s.l) (al:s.l.length<=1000000) :bw Tryz.prog GS 63 [.aJ [dt s]] (.int .i64 (mA s.l)) :=by
 refine bK Tryz.checked.mixed bB ?_;apply bm Tryz.func63 [];unfold mA;have bl:cz (.au 38) (dt s)=some (.int .i64 s.l.length) :=by simp[dt]
 by_cases h1:60<s.l.length
 ·have cN:(60:Int)<(s.l.length:Int) :=by omega
  simp[bl,cN];exact aK (by rw[if_pos h1]) rfl
 ·have cN:¬ (60:Int)<(s.l.length:Int) :=by omega
  simp[bl,cN];refine cF s.l.length (fun k ae l=>(∃ r,l=.cells 1 [dt s] ::r)/\ae 1=.ptr 0 0 1/\ae 3=.int .i64 k/\∀ j,j<k->p5 s.l j=true) ?_ (by simp);rintro k ae l hk ⟨⟨r,rfl⟩,aM,a7,ak⟩;obtain⟨ae,rfl⟩:=pE aM a7;clear aM a7;simp[bl];refine ip (fun h=>?_) (fun h=>?_)
  ·simp only[decide_eq_true_eq] at h;obtain⟨y,aA,cm⟩:=bx (l:=s.l) (k:=k) (by omega);have b8:=lw (ap y cm).id;have aQ:IntKind.i64.wrap ((k:Int)+1)=((k+1:Nat) :Int) :=by rw[IntKind.wrap_i64]; omega
   have ur:=DQ y.key;have jt:=XF y.val;have dY:p5 s.l k=(i7 y&&(decide (k=0)||fh (lV s.l (k - 1)).key y.key)) :=by unfold p5; rw[m7 aA]
   have bW:cg (.au 38) (dt s) (.int .i64 (k:Int))=some (.b3 (ck y) 0) :=by simp[dt,aA]
   have js:=NS b8;have ce:(ck y).take 38=ck y:=atT (by omega);have p7:∀ h,(ck y)[0]'h=.str y.key:=fun _=>rfl
   have uq:∀ h,(ck y)[5]'h=da y.cX:=fun _=>rfl
   have x1:((ck y).tail).take 4=dP y.val:=rfl;have nD:=R9 y.cX;have iW:bg (dP y.val)=true:=by simp[dP,bg,U.closed]
   obtain⟨R,gF⟩:∃ R,R=ck y:=⟨_,rfl⟩
   obtain⟨ZY,Ku⟩:∃ V,V=dP y.val:=⟨_,rfl⟩
   rw[<-gF] at b8 bW js ce p7 uq x1;rw[<-Ku] at jt x1 iW;simp[bW,b8,js,ce,p7];refine a1 ur rfl ?_;cases aU:gA y.key with
   | false=>
    have:i7 y=false:=by unfold i7; rw[aU]; rfl
    rw[this,auV] at dY;simp;exact aK (by rw[if_neg h1,v1 h dY]; rfl) rfl
   | true=>
    simp[b8,x1];refine a1 jt (by simp[bg,U.closed,iW]) ?_;cases bt:jG y.val with
    | false=>
     have:i7 y=false:=by unfold i7; rw[aU,bt]; rfl
     rw[this,auV] at dY;simp[gD];exact aK (by rw[if_neg h1,v1 h dY]; rfl) rfl
    | true=>
     cases c8:Bj y.cX with
     | false=>
      have:i7 y=false:=by unfold i7; rw[aU,bt,c8]; rfl
      rw[this,auV] at dY;have nw:=nD.2 c8;simp[gD,b8,uq,nw];exact aK (by rw[if_neg h1,v1 h dY]; rfl) rfl
     | true=>
      have nw:¬ (1000000000000:Int)<u y.cX:=fun h=>by rw[nD.1 h] at c8; cases c8
      have:i7 y=true:=by unfold i7; rw[aU,bt,c8]; rfl
      rw[this,auQ] at dY;rcases k with _ | k
      ·simp[gD,b8,uq,nw,aQ];exact⟨by omega,by rw[IntKind.wrap_i64]; omega,by rw[dY]; rfl⟩
      ·obtain⟨x,af,cC⟩:=bx (l:=s.l) (k:=k) (by omega);have fJ:cg (.au 38) (dt s) (.int .i64 (k:Int))=some (.b3 (ck x) 0) :=by simp[dt,af]
       have CO:(ck x)[0]? = some (.str x.key) :=rfl;obtain⟨ZZ,Kw⟩:∃ X,X=ck x:=⟨_,rfl⟩
       rw[<-Kw] at fJ CO;have dn:IntKind.i64.wrap (k:Int)=(k:Int) :=by rw[IntKind.wrap_i64]; omega
       have jr:(0:Int)<(k:Int)+1:=by omega
       simp only[avB,m7 af,av8,awy,and_false,decide_false,av7] at dY;simp[gD,b8,uq,nw,jr,dn,fJ,CO,p7];have KE:oR .geq x.key y.key=some (.bool (!fh x.key y.key)) :=rfl;rw[KE];cases ed:fh x.key y.key with
       | true=>
        rw[ed] at dY;simp[aQ];refine⟨by omega,by rw[IntKind.wrap_i64]; omega,fun j ai=>?_⟩;by_cases fk:j=k+1
        ·rw[fk,dY]
        ·exact ak j (by omega)
       | false=>
        rw[ed] at dY;simp;exact aK (by rw[if_neg h1,v1 h dY]; rfl) rfl
  ·simp[h];have hj:k=s.l.length:=by simp at h; omega
   exact aK (by rw[if_neg h1,if_pos (J5 fun j ai=>ak j (by omega))]) rfl
theorem ahv {α:Type} [DecidableEq α] {x:α} {l:List α} (h:0<=i3 x l 0) :∃ i:Nat,i3 x l 0=(i:Int)/\l[i]? = some x:=by
 have hm:=(yJ x l 0).1 h;have:∃ i:Nat,l[i]? = some x/\∀ (j:Nat) (z:α),j<i->l[j]? = some z->z≠x:=by
  clear h
  induction l with
  | nil=>cases hm
  | cons y r aI=>
   by_cases aA:y=x
   ·exact⟨0,by simp[aA],fun j z ai=>by omega⟩
   ·obtain⟨i,h1,ad⟩:=aI (by simpa [Ne.symm aA] using hm);refine⟨i+1,by simpa using h1,fun j z ai aw=>?_⟩;rcases j with _ | j
    ·simp at aw; rw[<-aw]; exact aA
    ·exact ad j z (by omega) (by simpa using aw)
 obtain⟨i,h1,ad⟩:=this;exact⟨i,by have:=AP (n:=0) h1 ad rfl; simpa using this,h1⟩
def qG (s:he) (o:bq) :he × Int:=
 if mA s.l=0 then (if fA o=0 then (if o.act.kind=4#8 then
  (if 0<=i3 o.act.key (s.l.map bY.key) 0 then (if ov o.cX (dZ o) (lV s.l (i3 o.act.key (s.l.map bY.key) 0).toNat).cX (lV s.l (i3 o.act.key (s.l.map bY.key) 0).toNat).id=true then (some (s.l.set (i3 o.act.key (s.l.map bY.key) 0).toNat (fV o (dZ o))),0) else (some s.l,0))
   else if s.l.length=60 then (none,18) else (some (Ox s.l (fV o (dZ o))),0))
  else (some s.l,0)) else (none,8)) else (none,mA s.l)
theorem Js {l:List bY} {x:List UInt8} {t:Nat} {y:bY} (aH:t<eO l x) (aA:l[t]? = some y) :fh y.key x=true:=by
 have aQ:l.takeWhile (fun t=>fh t.key x)=l.take (eO l x) :=aw3.1 (aws _);have hm:y∈l.take (eO l x) :=atZ.2 ⟨t,by rw[aum aH]; exact aA⟩;rw[<-aQ] at hm;have:=List.all_takeWhile (l:=l) (p:=fun t=>fh t.key x);exact auK.1 this y hm
theorem Jr:∀ {l:List bY} {x:List UInt8} {y:bY},l[eO l x]? = some y->fh y.key x=false
 | [],x,y,h=>by simp at h
 | a::l,x,y,h=>by
  unfold eO at h;rw[avu] at h;cases ax:fh a.key x with
  | false=>
   rw[ax] at h;simp at h;rw[<-h]; exact ax
  | true=>
   rw[ax] at h;simp at h;exact Jr (l:=l) (by unfold eO; exact h)
theorem adn {l:List bY} (h:ly l=true) {x:List UInt8} {t:Nat} {y:bY} (aH:eO l x<=t) (aA:l[t]? = some y) :fh y.key x=false:=by
 obtain⟨z,aw,_⟩:=bx (l:=l) (k:=eO l x) (by have:=(atU.1 aA).1; omega);have h1:=Jr aw;cases ad:fh y.key x with
 | false=>rfl
 | true=>rw[J4 h x _ _ _ _ aH aw aA ad] at h1; cases h1
theorem FE {l:List bY} (h:ly l=true) (x:List UInt8) :(iU l x=true/\i3 x (l.map bY.key) 0=(eO l x:Int))\/(iU l x=false/\¬ 0<=i3 x (l.map bY.key) 0) :=by
 cases aD:iU l x with
 | true=>
  left;refine⟨rfl,?_⟩;unfold iU at aD;rw[atY,decide_eq_true_eq,decide_eq_true_eq] at aD;obtain⟨y,aA,_⟩:=bx aD.1;have jw:y.key=x:=by rw[<-aD.2,m7 aA]
  have:=AP (x:=x) (l:=l.map bY.key) (k:=eO l x) (n:=0) (y:=x) (by rw[at0,aA]; exact congrArg some jw) (fun j z ai aw lO=>by
   rw[at0] at aw;cases jo:l[j]? with
   | none=>rw[jo] at aw; cases aw
   | some w=>
    rw[jo] at aw;have hw:w.key=z:=Option.some.inj aw;have:=Js ai jo;rw[hw,lO,u7] at this; cases this) rfl
  simpa using this
 | false=>
  right;refine⟨rfl,fun aE=>?_⟩;obtain⟨i,Ue,mh⟩:=ahv aE;rw[at0] at mh;cases jo:l[i]? with
  | none=>rw[jo] at mh; cases mh
  | some w=>
   rw[jo] at mh;have hw:w.key=x:=Option.some.inj mh;have c7:=(atU.1 jo).1;by_cases ae8:i<eO l x
   ·have:=Js ae8 jo;rw[hw,u7] at this; cases this
   ·by_cases ae9:i=eO l x
    ·unfold iU at aD;rw[<-ae9,m7 jo,hw,decide_eq_true c7] at aD;simp at aD
    ·obtain⟨z,aw,_⟩:=bx (l:=l) (k:=eO l x) (by omega);have h1:=Jr aw;have ad:=v2 h (d:=i - eO l x - 1) aw (by rw[show eO l x+(i - eO l x - 1)+1=i by omega]; exact jo);rw[hw,h1] at ad; cases ad
theorem W1 {l:List bY} (h:ly l=true) {x:bY} (aC:iU l x.key=false) :nP k9 l x l.length=eO l x.key:=by
 have ah:=RT l x.key;have key:∀ k,eO l x.key<=k->k<=l.length->nP k9 l x k=eO l x.key:=by
  intro k
  induction k with
  | zero=>
   intro h1 _;have:eO l x.key=0:=by omega
   rw[this]; rfl
  | succ k aI=>
   intro h1 ad;obtain⟨y,aA,_⟩:=bx (l:=l) (k:=k) (by omega);rw[WY aA];by_cases hk:eO l x.key=k+1
   ·have aj:=Js (l:=l) (x:=x.key) (t:=k) (by omega) aA;have aF:k9 x y=false:=by
     unfold k9;cases aU:fh x.key y.key with
     | false=>rfl
     | true=>have:=Ek aj aU; rw[u7] at this; cases this
    rw[aF,if_neg (by simp)]; exact hk.symm
   ·have aj:=adn h (x:=x.key) (t:=k) (by omega) aA;have aF:k9 x y=true:=by
     unfold k9;cases aU:fh x.key y.key with
     | true=>rfl
     | false=>
      exfalso;have am:y.key=x.key:=by
       have aX:¬ y.key<x.key:=(NJ _ _).1 aj;have a6:¬ x.key<y.key:=(NJ _ _).1 aU;exact aw1 (aw8.1 a6) (aw8.1 aX)
      rcases FE h x.key with ⟨bt,_⟩ | ⟨_,c8⟩
      ·rw[aC] at bt; cases bt
      ·exact c8 ((yJ x.key (l.map bY.key) 0).2 (by rw[<-am]; exact avt (at3 aA)))
    rw[aF,if_pos rfl];exact aI (by omega) (by omega)
 exact key l.length ah (atW _)
theorem HS (s:he) (o:bq) :(ib s o).1.l=(qG s o).1.l/\(ib s o).2=(qG s o).2:=by
 unfold ib qG;by_cases aE:mA s.l=0
 ·rw[if_pos aE,if_pos aE];by_cases h1:fA o=0
  ·rw[if_pos h1,if_pos h1];obtain⟨kv,kb⟩:=J3 aE;have lK:=w7 s o;by_cases di:o.act.kind=4#8
   ·have ay:eL s.l o (dZ o)=iK s.l (fV o (dZ o)) :=by unfold eL; rw[if_pos di]
    rw[if_pos di];rcases FE kb o.act.key with ⟨ad,aj⟩ | ⟨ad,aj⟩
    ·have av:0<=i3 o.act.key (s.l.map bY.key) 0:=by rw[aj]; omega
     have ch:iK s.l (fV o (dZ o))=if ov o.cX (dZ o) (lV s.l (eO s.l o.act.key)).cX (lV s.l (eO s.l o.act.key)).id=true then s.l.set (eO s.l o.act.key) (fV o (dZ o)) else s.l:=by
      unfold iK;rw[show (fV o (dZ o)).key=o.act.key from rfl,if_pos ad]; rfl
     have bl:(eL s.l o (dZ o)).length=s.l.length:=by rw[ay,ch]; split<;>simp
     rw[if_neg (by omega),if_pos av,aj,au0];split
     ·rename_i ij;exact⟨by rw[lK,ay,ch,if_pos ij]; rfl,rfl⟩
     ·rename_i ij;exact⟨by rw[lK,ay,ch,if_neg ij]; rfl,rfl⟩
    ·have ch:iK s.l (fV o (dZ o))=jR s.l (eO s.l o.act.key) (fV o (dZ o)) :=by
      unfold iK;rw[show (fV o (dZ o)).key=o.act.key from rfl,if_neg (by rw[ad]; simp)]
     have bl:(eL s.l o (dZ o)).length=s.l.length+1:=by rw[ay,ch,AO]
     rw[if_neg aj];by_cases bt:s.l.length=60
     ·have Ka:60<(eL s.l o (dZ o)).length:=by omega
      rw[if_pos Ka,if_pos bt]; exact⟨rfl,rfl⟩
     ·have Ka:¬ 60<(eL s.l o (dZ o)).length:=by omega
      rw[if_neg Ka,if_neg bt];refine⟨?_,rfl⟩;rw[lK,ay,ch];show _=Ox s.l (fV o (dZ o));unfold Ox;rw[W1 kb ad]; rfl
   ·have ay:eL s.l o (dZ o)=s.l:=by unfold eL; rw[if_neg di]
    rw[if_neg di,if_neg (by rw[ay]; omega)];exact⟨by rw[lK,ay]; rfl,rfl⟩
  ·rw[if_neg h1,if_neg h1]; exact⟨rfl,rfl⟩
 ·rw[if_neg aE,if_neg aE]; exact⟨rfl,rfl⟩
structure cp where
 dS:Int
 set:eU
 c1:he
 cr:ez
def fR (s:cp) :List U:=[.int .i64 s.dS,dg s.set,dt s.c1,aR s.cr]
structure tJ (s:cp) :Prop where
 set:g7 s.set.l
 c1:hI s.c1.l
 cr:fU s.cr
 ls:s.set.l.length<=1000000
 DM:s.c1.l.length<=1000000
 DK:s.cr.l.length<=1000000
theorem Ca (s:cp) :bg (fR s)=true:=by simp[fR,bg,U.closed,ss,tY,e5]
theorem acu (a b:List B) (ax:a.length=32) (ag:b.length=32) :bw Tryz.prog GS 60 [.aJ (aS a),.aJ (aS b)] (.int .i64 (cq a b)) :=by
 refine bK Tryz.checked.mixed bB ?_;apply bm Tryz.func60 [];have ak:=Eo (n:=32) (b:=1) (by omega);have Dj:=Eo (n:=32) (b:=0) (by omega);simp[aS,ax,ag,ak,Dj];have ah:=E0 (some a) (some b) (by simp[ax,ag]);refine ia ah ?_ rfl ?_
 ·exact .cons ((ps (j:=0) ax rfl).m6 (fun _=>rfl) (some a) rfl rfl) (.cons ((ps (j:=1) ag rfl).m6 (fun _=>rfl) (some b) rfl rfl) .nil)
 ·simp;exact aK rfl rfl
def z7 (s:cp) :Bool:=decide (0<=s.dS)&&(decide (s.dS<=60)&&(decide ((s.cr.l.length:Int)<=s.dS)&&!(decide (s.cr.l.length=0)&&decide (0<s.dS))))
def CE (s:cp) :Bool:=z7 s&&(decide (lh s.set.l=0)&&(decide (mA s.c1.l=0)&&dO s.cr.l))
def xg (s:cp) :Int:=gD (CE s)
set_option maxHeartbeats 8000000 in
theorem ajV (s:cp) (ap:tJ s) :bw Tryz.prog GS 26 [.aJ (fR s)] (.int .i64 (xg s)) :=by
 refine bK Tryz.checked.mixed bB ?_;apply bm Tryz.func26 [];unfold xg CE;have wq:cz (.au 32) (aR s.cr)=some (.int .i64 s.cr.l.length) :=by simp[aR]
 have wi:=ss s.set;have mN:=tY s.c1;have dx:=e5 s.cr;cases ar:z7 s with
 | false=>
  rw[auV];simp[fR];unfold z7 at ar;by_cases h1:s.dS<0
  ·simp[wq,h1];exact aK rfl rfl
  ·by_cases ad:60<s.dS
   ·simp[wq,h1,ad];exact aK rfl rfl
   ·by_cases aj:s.dS<(s.cr.l.length:Int)
    ·simp[wq,h1,ad,aj];exact aK rfl rfl
    ·have aF:s.cr.l.length=0:=by
      by_cases h:s.cr.l.length=0
      ·exact h
      ·exfalso; simp[h,h1,ad,aj] at ar; try omega
     have aU:0<s.dS:=by simp[aF,h1,ad] at ar; omega
     simp[wq,h1,ad,aj,aF,aU];exact aK rfl rfl
 | true=>
  unfold z7 at ar;simp only[atY,decide_eq_true_eq,avb,Bool.and_eq_false_iff,decide_eq_false_iff_not] at ar;obtain⟨aM,aT,a7,bD⟩:=ar;have h1:¬ s.dS<0:=by omega
  have ad:¬ 60<s.dS:=by omega
  have aj:¬ s.dS<(s.cr.l.length:Int) :=by omega
  have aC:(decide ((s.cr.l.length:Int)=0)&&decide (0<s.dS))=false:=by
   rcases bD with h | h
   ·rw[decide_eq_false (by omega)]; rfl
   ·rw[decide_eq_false h,Bool.and_false]
  rw[auQ];have ce:=ajX s.set ap.set ap.ls;have gF:=ajQ s.c1 ap.c1 ap.DM;have rf:=Nc s.cr ap.cr ap.DK;obtain⟨N,fv⟩:∃ N:Int,N=s.cr.l.length:=⟨_,rfl⟩
  rw[<-fv] at wq aj aC;by_cases aF:N=0<;>by_cases bt:0<s.dS
  ·rw[decide_eq_true aF,decide_eq_true bt] at aC; cases aC
  all_goals
   simp[fR,wq,h1,ad,aj,aF,bt];refine a1 rf (by simp[bg,U.closed,dx]) ?_;cases eG:dO s.cr.l with
   | false=>
    simp[eG];exact aK (by simp[gD]) rfl
   | true=>
    simp[eG];refine a1 ce (by simp[bg,U.closed,wi]) ?_;by_cases c8:lh s.set.l=0
    ·simp[c8];refine a1 gF (by simp[bg,U.closed,mN]) ?_;by_cases ed:mA s.c1.l=0
     ·simp[ed];exact aK (by simp[gD,c8,ed]) rfl
     ·simp[ed];exact aK (by simp[gD]) rfl
    ·simp[c8];exact aK (by simp[gD]) rfl
theorem ach (a b:eU) (ax:g7 a.l) (ag:g7 b.l) (al:a.l.length<=1000000) :bw Tryz.prog GS 46 [dg a,dg b] (.bool (decide (a.l=b.l))) :=by
 refine bK Tryz.checked.mixed bB ?_;apply bm Tryz.func46 [];have ij:cz (.au 33) (dg a)=some (.int .i64 a.l.length) :=by simp[dg]
 have jp:cz (.au 33) (dg b)=some (.int .i64 b.l.length) :=by simp[dg]
 by_cases h1:a.l.length=b.l.length
 ·have cN:((a.l.length:Int)=b.l.length) :=by omega
  simp[ij,jp,h1];refine cF a.l.length (fun k ae l=>ae 0=dg a/\ae 1=dg b/\ae 12=.int .i64 a.l.length/\ae 13=.int .i64 k/\∀ j,j<k->a.l[j]? = b.l[j]?) ?_ (by simp[h1]);rintro k ae l hk ⟨ca,aM,fx,ih,ak⟩;obtain⟨s,rfl⟩:=iw ca aM fx ih;clear ca aM fx ih;simp;refine ip (fun h=>?_) (fun h=>?_)
  ·simp only[decide_eq_true_eq] at h;obtain⟨x,af,cC⟩:=bx h;obtain⟨y,aA,cm⟩:=bx (l:=b.l) (k:=k) (by omega);have aQ:IntKind.i64.wrap ((k:Int)+1)=((k+1:Nat) :Int) :=by rw[IntKind.wrap_i64]; omega
   have bW:cg (.au 33) (dg a) (.int .i64 (k:Int))=some (.b3 (b0 x) 0) :=by simp[dg,af]
   have ii:cg (.au 33) (dg b) (.int .i64 (k:Int))=some (.b3 (b0 y) 0) :=by simp[dg,aA]
   have bf:=kZ (ax x cC);have b8:=kZ (ag y cm);have bz:=YB (ax x cC) (ag y cm);obtain⟨X,cQ⟩:∃ X,X=b0 x:=⟨_,rfl⟩
   obtain⟨Y,ef⟩:∃ Y,Y=b0 y:=⟨_,rfl⟩
   rw[<-cQ] at bW bf bz;rw[<-ef] at ii b8 bz;simp[bW,ii,bf,b8,atT,bz];by_cases am:x=y
   ·simp[am,aQ];refine⟨by omega,fun j ai=>?_⟩;by_cases fk:j=k
    ·subst fk; rw[af,aA,am]
    ·exact ak j (by omega)
   ·simp[am];refine aK (congrArg U.bool (decide_eq_false fun eg=>am ?_).symm) rfl;rw[eg,aA] at af; exact (Option.some.inj af).symm
  ·simp[h];have hj:k=a.l.length:=by simp at h; omega
   refine aK (congrArg U.bool (decide_eq_true ?_).symm) rfl;apply auD;intro j;by_cases ai:j<a.l.length
   ·exact ak j (by omega)
   ·rw[at6 (by omega),at6 (by omega)]
 ·have cN:¬ ((a.l.length:Int)=b.l.length) :=by omega
  simp[ij,jp,h1,cN];exact aK (by rw[decide_eq_false (fun eg=>h1 (by rw[eg]))]) rfl
theorem acf (a b:he) (ax:hI a.l) (ag:hI b.l) (al:a.l.length<=1000000) :bw Tryz.prog GS 47 [dt a,dt b] (.bool (decide (a.l=b.l))) :=by
 refine bK Tryz.checked.mixed bB ?_;apply bm Tryz.func47 [];have ij:cz (.au 38) (dt a)=some (.int .i64 a.l.length) :=by simp[dt]
 have jp:cz (.au 38) (dt b)=some (.int .i64 b.l.length) :=by simp[dt]
 by_cases h1:a.l.length=b.l.length
 ·have cN:((a.l.length:Int)=b.l.length) :=by omega
  simp[ij,jp,h1];refine cF a.l.length (fun k ae l=>ae 0=dt a/\ae 1=dt b/\ae 12=.int .i64 a.l.length/\ae 13=.int .i64 k/\∀ j,j<k->a.l[j]? = b.l[j]?) ?_ (by simp[h1]);rintro k ae l hk ⟨ca,aM,fx,ih,ak⟩;obtain⟨s,rfl⟩:=iw ca aM fx ih;clear ca aM fx ih;simp;refine ip (fun h=>?_) (fun h=>?_)
  ·simp only[decide_eq_true_eq] at h;obtain⟨x,af,cC⟩:=bx h;obtain⟨y,aA,cm⟩:=bx (l:=b.l) (k:=k) (by omega);have aQ:IntKind.i64.wrap ((k:Int)+1)=((k+1:Nat) :Int) :=by rw[IntKind.wrap_i64]; omega
   have bW:cg (.au 38) (dt a) (.int .i64 (k:Int))=some (.b3 (ck x) 0) :=by simp[dt,af]
   have ii:cg (.au 38) (dt b) (.int .i64 (k:Int))=some (.b3 (ck y) 0) :=by simp[dt,aA]
   have bf:=lw (ax x cC).id;have b8:=lw (ag y cm).id;have bz:=Xr (ax x cC).id (ag y cm).id;obtain⟨X,cQ⟩:∃ X,X=ck x:=⟨_,rfl⟩
   obtain⟨Y,ef⟩:∃ Y,Y=ck y:=⟨_,rfl⟩
   rw[<-cQ] at bW bf bz;rw[<-ef] at ii b8 bz;simp[bW,ii,bf,b8,atT,bz];by_cases am:x=y
   ·simp[am,aQ];refine⟨by omega,fun j ai=>?_⟩;by_cases fk:j=k
    ·subst fk; rw[af,aA,am]
    ·exact ak j (by omega)
   ·simp[am];refine aK (congrArg U.bool (decide_eq_false fun eg=>am ?_).symm) rfl;rw[eg,aA] at af; exact (Option.some.inj af).symm
  ·simp[h];have hj:k=a.l.length:=by simp at h; omega
   refine aK (congrArg U.bool (decide_eq_true ?_).symm) rfl;apply auD;intro j;by_cases ai:j<a.l.length
   ·exact ak j (by omega)
   ·rw[at6 (by omega),at6 (by omega)]
 ·have cN:¬ ((a.l.length:Int)=b.l.length) :=by omega
  simp[ij,jp,h1,cN];exact aK (by rw[decide_eq_false (fun eg=>h1 (by rw[eg]))]) rfl
theorem ace (a b:ez) (ax:fU a) (ag:fU b) (al:a.l.length<=1000000) :bw Tryz.prog GS 48 [aR a,aR b] (.bool (decide (a.l=b.l))) :=by
 refine bK Tryz.checked.mixed bB ?_;apply bm Tryz.func48 [];have ij:cz (.au 32) (aR a)=some (.int .i64 a.l.length) :=by simp[aR]
 have jp:cz (.au 32) (aR b)=some (.int .i64 b.l.length) :=by simp[aR]
 by_cases h1:a.l.length=b.l.length
 ·have cN:((a.l.length:Int)=b.l.length) :=by omega
  simp[ij,jp,h1];refine cF a.l.length (fun k ae l=>ae 0=aR a/\ae 1=aR b/\ae 12=.int .i64 a.l.length/\ae 13=.int .i64 k/\∀ j,j<k->a.l[j]? = b.l[j]?) ?_ (by simp[h1]);rintro k ae l hk ⟨ca,aM,fx,ih,ak⟩;obtain⟨s,rfl⟩:=iw ca aM fx ih;clear ca aM fx ih;simp;refine ip (fun h=>?_) (fun h=>?_)
  ·simp only[decide_eq_true_eq] at h;obtain⟨x,af,cC⟩:=bx h;obtain⟨y,aA,cm⟩:=bx (l:=b.l) (k:=k) (by omega);have aQ:IntKind.i64.wrap ((k:Int)+1)=((k+1:Nat) :Int) :=by rw[IntKind.wrap_i64]; omega
   have bW:cg (.au 32) (aR a) (.int .i64 (k:Int))=some (.b3 (aS x) 0) :=by simp[aR,af]
   have ii:cg (.au 32) (aR b) (.int .i64 (k:Int))=some (.b3 (aS y) 0) :=by simp[aR,aA]
   have bf:=cM (ax x cC);have b8:=cM (ag y cm);have bz:=Dt (ax x cC) (ag y cm);obtain⟨X,cQ⟩:∃ X,X=aS x:=⟨_,rfl⟩
   obtain⟨Y,ef⟩:∃ Y,Y=aS y:=⟨_,rfl⟩
   rw[<-cQ] at bW bf bz;rw[<-ef] at ii b8 bz;simp[bW,ii,bf,b8,atT,bz];by_cases am:x=y
   ·simp[am,aQ];refine⟨by omega,fun j ai=>?_⟩;by_cases fk:j=k
    ·subst fk; rw[af,aA,am]
    ·exact ak j (by omega)
   ·simp[am];refine aK (congrArg U.bool (decide_eq_false fun eg=>am ?_).symm) rfl;rw[eg,aA] at af; exact (Option.some.inj af).symm
  ·simp[h];have hj:k=a.l.length:=by simp at h; omega
   refine aK (congrArg U.bool (decide_eq_true ?_).symm) rfl;apply auD;intro j;by_cases ai:j<a.l.length
   ·exact ak j (by omega)
   ·rw[at6 (by omega),at6 (by omega)]
 ·have cN:¬ ((a.l.length:Int)=b.l.length) :=by omega
  simp[ij,jp,h1,cN];exact aK (by rw[decide_eq_false (fun eg=>h1 (by rw[eg]))]) rfl
def mB (a b:cp) :Bool:=decide (a.dS=b.dS)&&(decide (a.set.l=b.set.l)&&(decide (a.c1.l=b.c1.l)&&decide (a.cr.l=b.cr.l)))
theorem amW (a b:cp) (ax:tJ a) (ag:tJ b) :bw Tryz.prog GS 17 [.aJ (fR a),.aJ (fR b)] (.bool (mB a b)) :=by
 refine bK Tryz.checked.mixed bB ?_;apply bm Tryz.func17 [];unfold mB;have cW:=ss a.set;have dv:=ss b.set;have j3:=tY a.c1;have iR:=tY b.c1;have Fa:=e5 a.cr;have xF:=e5 b.cr;by_cases h1:a.dS=b.dS
 ·simp[fR,h1];refine a1 (ach a.set b.set ax.set ag.set ax.ls) (by simp[bg,U.closed,cW,dv]) ?_;by_cases ad:a.set.l=b.set.l
  ·simp[ad];refine a1 (acf a.c1 b.c1 ax.c1 ag.c1 ax.DM) (by simp[bg,U.closed,j3,iR]) ?_;by_cases aj:a.c1.l=b.c1.l
   ·simp[aj];refine a1 (ace a.cr b.cr ax.cr ag.cr ax.DK) (by simp[bg,U.closed,Fa,xF]) ?_;simp;exact aK (by simp[h1,ad,aj]) rfl
   ·simp[aj];exact aK rfl rfl
  ·simp[ad];exact aK rfl rfl
 ·simp[fR,h1];exact aK rfl rfl
theorem Xs (a b:cp) (ax:tJ a) (ag:tJ b) :bw Tryz.prog GS 23 [.aJ (fR a),.aJ (fR b)] (.bool (mB a b)) :=by
 refine bK Tryz.checked.mixed bB ?_;apply bm Tryz.func23 [];unfold mB;have cW:=ss a.set;have dv:=ss b.set;have j3:=tY a.c1;have iR:=tY b.c1;have Fa:=e5 a.cr;have xF:=e5 b.cr;by_cases h1:a.dS=b.dS
 ·simp[fR,h1];refine a1 (akL a.set b.set ax.set ag.set ax.ls) (by simp[bg,U.closed,cW,dv]) ?_;by_cases ad:a.set.l=b.set.l
  ·simp[ad];refine a1 (akJ a.c1 b.c1 ax.c1 ag.c1 ax.DM) (by simp[bg,U.closed,j3,iR]) ?_;by_cases aj:a.c1.l=b.c1.l
   ·simp[aj];refine a1 (akI a.cr b.cr ax.cr ag.cr ax.DK) (by simp[bg,U.closed,Fa,xF]) ?_;simp;exact aK (by simp[h1,ad,aj]) rfl
   ·simp[aj];exact aK rfl rfl
  ·simp[ad];exact aK rfl rfl
 ·simp[fR,h1];exact aK rfl rfl
end Op

end Go.cb

namespace Go.cb
open Go Go.Proofs Go.Sort Go.Shelf
set_option maxRecDepth 100000
namespace Op
open g3
def pz (l:List (List B)) :List (List B) :=l.mergeSort fun x y=>!iq y x
theorem Vt:∀ {xs:List (List B)},(∀ i∈xs,i.length=32)->∃ bc:List vl,bc.map (·.1)=xs
 | [],_=>⟨[],rfl⟩
 | x::xs,h=>by
  obtain⟨bc,aA⟩:=Vt (xs:=xs) fun i av=>h i (by simp[av])
  exact⟨⟨x,h x (by simp)⟩::bc,by simp[aA]⟩
theorem alg (bc:List vl) :(sorted vN bc).map (·.1)=pz (bc.map (·.1)) :=by
 unfold sorted pz;rw[List.map_mergeSort];intro a _ b _;rfl
theorem ajx {z:Nat} {l l' : ao} {v:U} {j:Nat} {es du:List (List U)} (h:bG z l v j es) (h' : en z l' v j du) :bG z l' v j du:=by
 cases h with
 | nil j=>have:=h'.tc; subst this; exact .nil j
 | au j n cap sz cs es ag al aC aw ah c3 ci=>
  generalize aq:U.au z j 0 n cap sz=w at h';cases h' with
  | nil=>cases aq
  | au VA aiS ow aa6 alO hB xP fT g0 ol iY ka aew KI=>
   injection aq with _ aQ bF dn kt Ci
   subst bF dn kt Ci;exact .au j n cap sz hB _ fT g0 ol iY ka (by omega) (by simpa using KI)
theorem ac7 {l:ao} {v:U} {j:Nat} {xs:List (List B)} (af:∀ i∈xs,i.length=32) (al:xs.length<=1000000) (aE:xs≠[]) (h:bG 32 l v j (xs.map aS)) {K:U->ao->Prop}
  (aV:∀ l',l'.length=l.length->(∀ b,b≠j->l'[b]? = l[b]?)->bG 32 l' v j ((pz xs).map aS)->K (.bE []) l') :cY Tryz.prog GS 99 [v,.fn 60 [] []] l (c:=⟨K⟩) :=by
 obtain⟨bc,aA⟩:=Vt af;have am:bc.map zT=xs.map aS:=by rw[<-aA,avF]; rfl
 have ak:(sorted vN bc).map zT=(pz xs).map aS:=by rw[<-aA,<-alg,avF]; rfl
 have b8:bc.length=xs.length:=by rw[<-aA]; simp
 rw[<-am] at h;exact Yg vN (ak9 (by intro args w; exact enters_of Tryz.func60 (by kernel_rfl) rfl args w)) YA aai Se ab5 (fun x y=>acu x.1 y.1 x.2 y.2) h.q (by omega) (fun rv=>absurd (by rw[<-aA,rv]; rfl) aE)
  (fun l' h1 ad aj=>aV l' h1 (fun b ag=>ad b ag) (by rw[<-ak]; exact ajx h aj))
theorem ak7 (l:List (List B)) (y:List B) :y∈pz l<->y∈l:=by unfold pz; exact List.mem_mergeSort
abbrev Bh (l:List (List B)) :List (List B) :=nW iq l l.length
structure anx (a:List (List B)) (k:Nat) (ae:a8) (l:ao) :Prop where
 bD:ae 4=.int .i64 k
 ex:∃ v,ae 3=v/\cn 32 aS [] l v (nW iq a k++a.drop k) false
structure anv (t:List (List B)) (x:List B) (i:Nat) (m:Nat) (ae:a8) (l:ao) :Prop where
 bD:ae 4=.int .i64 i
 ex:∃ (k:Nat) (v:U),k=m/\k<=i/\ae 3=v/\ae 5=.int .i64 k/\cn 32 aS [] l v (jR t k x) false/\nP iq t x k=nP iq t x i
end Op

end Go.cb

namespace Go.cb
open Go Go.Proofs
set_option maxRecDepth 100000
namespace Op
open g3
theorem Jl (s:ez) :(aR s).cells=some [aR s] :=by cases s<;>rfl
theorem ajW:bw Tryz.prog GS 24 [] (.aJ (fR ⟨0,none,none,none⟩)) :=by
 refine bK Tryz.checked.mixed bB ?_;apply bm Tryz.func24 [];simp;exact aK rfl rfl
theorem agT (s:ez) (ap:fU s) (ak:s.l.length<=1000000) :bw Tryz.prog GS 165 [aR s] (aR s) :=by
 refine bK Tryz.checked.mixed bB ?_;refine Vq s ap ak fun v l' h=>?_
 exact h.rd fE s rfl rfl
theorem aiV (o:bq) :bu (bd o) 1 [aR o.bp]=bd o:=by
 unfold bu bd; simp
theorem abY (o:bq) (ap:ko o) :bw Tryz.prog GS 115 [.aJ (bd o)] (.aJ (bd o)) :=by
 refine bK Tryz.checked.mixed bB ?_;apply bm Tryz.func115 [];have cD:=l6 o;have cl:(bd o).length=11:=rfl;have hh:∀ h,(bd o)[1]'h=aR o.bp:=fun _=>rfl
 have jN:=e5 o.bp;have eb:=agT o.bp ap.ids ap.len;have pi:=aiV o;have hm:=Jl o.bp;obtain⟨O,dX⟩:∃ O,O=bd o:=⟨_,rfl⟩
 rw[<-dX] at cD cl hh pi ⊢;have il:bu [U.int .u32 0,.aW,.int .u64 0,.int .u8 0,.str [],.int .u8 0,.int .i64 0,.int .u64 0,.str [],.int .u32 0,.int .u32 0] 0 O=O:=fi (by rw[cl]; rfl);simp[cl,hh,atT];refine a1 eb (by simp[bg,U.closed,jN]) ?_;simp[cl,hm,pi,il,atT];exact aK rfl (by simpa [U.closed] using cD)
def Bz:bq:=⟨0,none,0,⟨0,[],oH⟩,0,0⟩
def oe (g:bi) (x:List B) :bq × Int:=if x∈g.ids.l then (m0 g.ops.l (q6 g.ids.l x),0) else (Bz,6)
theorem sE {g:bi} (V:kU g) {i:Nat} {x:List B} {o:bq} (av:g.ids.l[i]? = some x) (ap:g.ops.l[i]? = some o) :oe g x=(o,0) :=by
 unfold oe;rw[if_pos (at3 av),xI V.dO av,te ap]
theorem R5 (g:bi) (ar:ft g) (aE:eK g=0) (x:List B) (af:x.length=32) :bw Tryz.prog GS 68 [cS g,.aJ (aS x)] (.bE [.aJ (bd (oe g x).1),.int .i64 (oe g x).2]) :=by
 refine bK Tryz.checked.mixed bB ?_;apply bm Tryz.func68 [];have V:=my aE;have dx:=e5 g.ids;have cD:=lu g.ops;have gj:=fE x;have bf:=cM af;have dh:=Bt g ar;have aD:=Sx g ar V.dO x af;rw[aE] at dh;obtain⟨X,cQ⟩:∃ X,X=aS x:=⟨_,rfl⟩
 rw[<-cQ] at gj bf aD ⊢;unfold cS ds at dh aD;simp[cS,ds,bf,atT];refine a1 dh (by simp[bg,U.closed,dx,cD]) ?_;simp[bf,atT];refine a1 aD (by simp[bg,U.closed,dx,cD,gj]) ?_;by_cases hm:x∈g.ids.l
 ·obtain⟨i,av⟩:=atZ.1 hm;obtain⟨o,ap,dD⟩:=bx (l:=g.ops.l) (k:=i) (by rw[<-V.len]; exact (atU.1 av).1);rw[sE V av ap,xI V.dO av];have bW:cg (.au 11) (bZ g.ops) (.int .i64 (i:Int))=some (.b3 (bd o) 0) :=by simp[bZ,ap]
  have cl:(bd o).length=11:=rfl;have jN:=l6 o;have Vb:=abY o (ar.ops o dD);obtain⟨O,dX⟩:∃ O,O=bd o:=⟨_,rfl⟩
  rw[<-dX] at bW cl jN Vb ⊢;have il:bu [U.int .u32 0,.aW,.int .u64 0,.int .u8 0,.str [],.int .u8 0,.int .i64 0,.int .u64 0,.str [],.int .u32 0,.int .u32 0] 0 O=O:=fi (by rw[cl]; rfl);simp[hm,bW,cl,atT];refine a1 Vb (by simpa [bg,U.closed] using jN) ?_;simp[cl,il,atT];exact aK rfl (by simpa [U.closed,bg] using jN)
 ·have qh:oe g x=(Bz,6) :=by unfold oe; rw[if_neg hm]
  rw[qh];simp[hm];exact aK rfl rfl
def e7:cp:=⟨0,none,none,none⟩
abbrev kJ (o:bq) (h:List B) :Bool:=!decide (h∈o.bp.l)
def ut (s:cp) (o:bq) (x:List B) :List (List B) :=pz (s.cr.l.filter (kJ o)++[x])
noncomputable def xR (s:cp) (o:bq) (x:List B) (b:ez) :cp × Int:=
 if (fQ s.set o b).2=0 then (if (ib s.c1 o).2=0 then (⟨s.dS+1,(fQ s.set o b).1,(ib s.c1 o).1,some (ut s o x)⟩,0) else (e7,(ib s.c1 o).2)) else (e7,(fQ s.set o b).2)
noncomputable def j6 (s:cp) (g:bi) (x:List B) :cp × Int:=
 if x∈g.ids.l then (if x∈s.cr.l then (e7,14) else if s.dS=60 then (e7,18) else xR s (oe g x).1 x (ew (iO g (q6 g.ids.l x)))) else (e7,6)
theorem tZ (s:cp) (e:Int) :(U.bE [.aJ (fR s),.int .i64 e]).closed=true:=by have:=Ca s; simp[U.closed,bg,this]
abbrev y4 (s:cp) (g:bi) (O X:List U) (A:eU) (R:he) (v:U) :ao:=
 [.cells 4 [.int .i64 s.dS,dg s.set,dt s.c1,aR s.cr],.cells 2 [aR g.ids,bZ g.ops],.cells 32 X,.cells 4 [.int .i64 0,.aW,.aW,.aW],.cells 11 O,.cells 4 [.int .i64 (s.dS+1),dg A,dt R,v]]
structure ZB (s:cp) (g:bi) (o:bq) (O X:List U) (A:eU) (R:he) (k:Nat) (ae:a8) (l:ao) :Prop where
 bh:ae 5=.ptr 2 0 32
 cd:ae 6=.ptr 3 0 4
 dw:ae 8=.ptr 4 0 11
 fx:ae 12=.ptr 5 0 4
 J0:ae 70=aR s.cr
 J1:ae 71=.int .i64 s.cr.l.length
 J2:ae 72=.int .i64 k
 ex:∃ v j rest,l=y4 s g O X A R v++rest/\bG 32 l v j (((s.cr.l.take k).filter (kJ o)).map aS)/\(v=.aW\/6<=j)/\cx v=((s.cr.l.take k).filter (kJ o)).isEmpty
set_option maxHeartbeats 8000000 in
theorem acz (s:cp) (ak:tJ s) (iH:0<=s.dS) (mo:s.dS<=60) (aG:s.cr.l.length<=60) (g:bi) (ar:ft g) (aE:eK g=0) (x:List B) (af:x.length=32) :
  bw Tryz.prog GS 53 [.aJ (fR s),cS g,.aJ (aS x)] (.bE [.aJ (fR (j6 s g x).1),.int .i64 (j6 s g x).2]) :=by
 refine bK Tryz.checked.mixed bB ?_;apply bm Tryz.func53 [];have az:cK=140737488355328:=rfl;have V:=my aE;have dx:=e5 g.ids;have cD:=lu g.ops;have gj:=fE x;have bf:=cM af;have x9:=e5 s.cr;have wi:=ss s.set;have mN:=tY s.c1;have dU:=R5 g ar aE x af;have dQ:=EG s.cr ak.cr ak.DK x af;by_cases hm:x∈g.ids.l
 ·obtain⟨i,av⟩:=atZ.1 hm;obtain⟨o,ap,dD⟩:=bx (l:=g.ops.l) (k:=i) (by rw[<-V.len]; exact (atU.1 av).1);have mm:=ar.ops o dD;have sK:=OZ g ar V aE x i av;have o7:j6 s g x=if x∈s.cr.l then (e7,14) else if s.dS=60 then (e7,18) else xR s o x (ew (iO g i)) :=by
   unfold j6; rw[if_pos hm,sE V av ap,xI V.dO av]
  rw[sE V av ap] at dU;obtain⟨b,ag⟩:∃ b,b=ew (iO g i) :=⟨_,rfl⟩
  rw[o7,<-ag];have p8:fU b:=fun p ay=>by rw[ag,fq] at ay; exact ar.ids p (EX ay)
  have fb:b.l.length<=1000000:=by rw[ag,fq]; have:=EW g i; have:=ar.li; omega
  rw[<-ag] at sK;have Gb:=e5 b;have o3:=amH s.set o b ak.set ak.ls mm p8 fb;have Di:=amS s.c1 o ak.c1 ak.DM mm;have cl:(bd o).length=11:=rfl;have jN:=l6 o;have hh:∀ h,(bd o)[1]'h=aR o.bp:=fun _=>rfl
  obtain⟨X,cQ⟩:∃ X,X=aS x:=⟨_,rfl⟩
  obtain⟨O,dX⟩:∃ O,O=bd o:=⟨_,rfl⟩
  rw[<-cQ] at gj bf dU dQ sK ⊢;rw[<-dX] at dU cl jN o3 Di hh;have il:bu [U.int .u32 0,.aW,.int .u64 0,.int .u8 0,.str [],.int .u8 0,.int .i64 0,.int .u64 0,.str [],.int .u32 0,.int .u32 0] 0 O=O:=fi (by rw[cl]; rfl);unfold cS ds at dU sK;simp[fR,cS,ds,bf,atT];refine a1 dU (by simp[bg,U.closed,dx,cD,gj]) ?_;simp[cl,il,bf,atT];refine a1 dQ (by simp[bg,U.closed,x9,gj]) ?_;by_cases h1:x∈s.cr.l
  ·simp[h1];exact aK rfl rfl
  ·by_cases ad:s.dS=60
   ·simp[h1,ad];exact aK rfl rfl
   ·have aQ:IntKind.i64.wrap (s.dS+1)=s.dS+1:=by rw[IntKind.wrap_i64]; omega
    simp[h1,ad,bf,atT];refine a1 sK (by simp[bg,U.closed,dx,cD,gj]) ?_;simp[aQ,cl,bu,atT];obtain⟨A,cL⟩:∃ A,A=fQ s.set o b:=⟨_,rfl⟩
    obtain⟨R,gF⟩:∃ R,R=ib s.c1 o:=⟨_,rfl⟩
    have qg:xR s o x b=if A.2=0 then (if R.2=0 then (⟨s.dS+1,A.1,R.1,some (ut s o x)⟩,0) else (e7,R.2)) else (e7,A.2) :=by unfold xR; rw[cL,gF]
    rw[if_neg h1,if_neg ad,qg];rw[<-cL] at o3;rw[<-gF] at Di;refine a1 o3 (by simp[bg,U.closed,wi,jN,Gb]) ?_;have oZ:=RF A.1;have Tu:=Jm R.1;by_cases aj:A.2=0
    ·simp[aj,oZ,cl,bu,atT];refine a1 Di (by simp[bg,U.closed,mN,jN]) ?_;by_cases aF:R.2=0
     ·simp[aF,Tu,cl,bu,atT];have wq:cz (.au 32) (aR s.cr)=some (.int .i64 s.cr.l.length) :=by simp[aR]
      have ad3:bu (rep 32 (U.int .u8 0)) 0 X=X:=fi (by rw[bf]; rfl);simp[wq];refine cF s.cr.l.length (ZB s g o O X A.1 R.1) ?_ ?_
      ·rintro k ae l hk ⟨bh,cd,dw,fx,J0,J1,J2,v,j,rest,rfl,hF,ai,hn⟩;obtain⟨ae,rfl⟩:=Ii bh cd dw fx J0 J1 J2;clear bh cd dw fx J0 J1 J2;simp;refine ip (fun h=>?_) (fun h=>?_)
       ·simp only[decide_eq_true_eq] at h;obtain⟨y,aA,cm⟩:=bx (l:=s.cr.l) (k:=k) (by omega);have bF:IntKind.i64.wrap ((k:Int)+1)=((k+1:Nat) :Int) :=by rw[IntKind.wrap_i64]; omega
        have bW:cg (.au 32) (aR s.cr) (.int .i64 (k:Int))=some (.b3 (aS y) 0) :=by simp[aR,aA]
        have G0:=ak.cr y cm;have b8:=cM G0;have jm:=fE y;have jL:=EG o.bp mm.ids mm.len y G0;have aeB:=e5 o.bp;have ch:s.cr.l.take (k+1)=s.cr.l.take k++[y] :=by rw[aud,aA]; rfl
        obtain⟨Y,ef⟩:∃ Y,Y=aS y:=⟨_,rfl⟩
        rw[<-ef] at bW b8 jm jL;have TB:bu (rep 32 (U.int .u8 0)) 0 Y=Y:=fi (by rw[b8]; rfl);simp[bW,b8,TB,cl,hh,atT];refine a1 jL (by simp[bg,U.closed,aeB,jm]) ?_;by_cases aU:y∈o.bp.l
        ·simp[aU,bF];have aD:(s.cr.l.take (k+1)).filter (kJ o)=(s.cr.l.take k).filter (kJ o) :=by rw[ch,avG]; simp[aU]
         refine⟨h,by simp,by simp,by simp,by simp,by simp,by simp,by simp,v,j,rest++[.cells 32 Y],rfl,?_,ai,by rw[aD]; exact hn⟩;have c8:=hF.more [a2.cells 32 Y];rw[aut] at c8;rw[aD]; exact c8
        ·have aD:(s.cr.l.take (k+1)).filter (kJ o)=(s.cr.l.take k).filter (kJ o)++[y] :=by rw[ch,avG]; simp[aU]
         have fc:((s.cr.l.take k).filter (kJ o)).length<=60:=avn (avm _ _) (by rw[aue]; omega);obtain⟨aY,bM,ct,aX,a6,a3,a4⟩:=xD (by_:=32) (pre:=y4 s g O X A.1 R.1 v) (rest:=rest++[.cells 32 Y,.cells 32 Y]) (by rw[<-aut]; exact hF.more _) ai (x:=.au 32 (rest.length+1+1+1+1+1+1+1) 0 1 1 32) (xs:=[Y])
          (by simp[dM,b8,atT]) (by simp[b8]) (by omega) (by omega) (by rw[az]; simp; omega)
         simp only[y4,au5,auT] at aX;have jt:=a6.cells;simp[aU,b8,TB,atT,aX];refine dT.cy ?_;simp[jt,bu,bF];have gl:cx aY=false:=by rw[a4]; simp
         have K0:6<=bM:=by
          rcases a3 with h | h
          ·rw[h] at gl; cases gl
          ·simpa using h
         refine⟨h,by simp,by simp,by simp,by simp,by simp,by simp,by simp,aY,bM,ct,rfl,?_,.inr K0,by rw[aD,gl]; simp⟩;rw[aD,auq,aus,awg,<-ef];refine a6.oV (.inr ?_);obtain⟨mW,rfl⟩:∃ mW,bM=mW+6:=⟨bM - 6,by omega⟩
         rfl
       ·have hj:k=s.cr.l.length:=by simp at h; omega
        rw[hj,aun] at hF hn;have fc:(s.cr.l.filter (kJ o)).length<=60:=avn (avm _ _) aG;obtain⟨aY,bM,ct,aX,a6,a3,a4⟩:=xD (by_:=32) (pre:=y4 s g O X A.1 R.1 v) (rest:=rest++[.cells 32 X]) (by rw[<-aut]; exact hF.more _) ai (x:=.au 32 (rest.length+1+1+1+1+1+1) 0 1 1 32) (xs:=[X])
         (by simp[dM,bf,atT]) (by simp[bf]) (by omega) (by omega) (by rw[az]; simp; omega)
        simp only[y4,au5,auT] at aX;have jt:=a6.cells;simp[h,bf,ad3,atT,aX];refine dT.cy ?_;simp[jt,bu];have gl:cx aY=false:=by rw[a4]; simp
        have K0:6<=bM:=by
         rcases a3 with h | h
         ·rw[h] at gl; cases gl
         ·simpa using h
        have a5:bG 32 (y4 s g O X A.1 R.1 aY++ct) aY bM ((s.cr.l.filter (kJ o)++[x]).map aS) :=by
         rw[auq,aus,awg,<-cQ];refine a6.oV (.inr ?_);obtain⟨mW,rfl⟩:∃ mW,bM=mW+6:=⟨bM - 6,by omega⟩
         rfl
        refine ac7 (xs:=s.cr.l.filter (kJ o)++[x]) (fun z aw=>?_) (by rw[at4]; simp; omega) (by simp) a5 (fun l' dW dB gg=>?_)
        ·rcases aup.1 aw with e | e
         ·exact ak.cr z (auS.1 e).1
         ·rw[aui.1 e]; exact af
        have D8:l'[5]? = some (.cells 4 [.int .i64 (s.dS+1),dg A.1,dt R.1,aY]) :=by rw[dB 5 (by omega)]; rfl
        have iJ:l'[3]? = some (.cells 4 [.int .i64 0,.aW,.aW,.aW]) :=by rw[dB 3 (by omega)]; rfl
        have qj:4<=l'.length:=by rw[dW]; simp
        have oD:∀ y:a2,(l'.set 3 y)[3]? = some y:=fun y=>at9 (by omega)
        simp[D8,iJ,oD,bu];rw[if_pos aj,if_pos aF];refine tt (.aJ _ _ rfl fun m c c' ah eW=>?_) (aK rfl rfl);rcases m with _ | _ | _ | _ | m
        ·simp[fR] at ah eW; subst ah eW; exact .same _ rfl
        ·simp[fR] at ah eW; subst ah eW; exact .same _ (ss _)
        ·simp[fR] at ah eW; subst ah eW; exact .same _ (tY _)
        ·simp[fR] at ah eW; subst ah eW;have l3:bG 32 (l'.set 3 (.cells 4 [.int .i64 (s.dS+1),dg A.1,dt R.1,aY])) aY bM ((ut s o x).map aS) :=gg.oV (.inr (at5 (by omega)));exact l3.q.oA fE (some (ut s o x)) gl rfl
        ·simp at ah
      ·refine⟨by simp,by simp,by simp,by simp,by simp,by simp,by simp,.aW,0,[],by simp[y4],.nil 0,.inl rfl,rfl⟩
     ·simp[aF,Tu,cl,bu,atT];exact aK (by rw[if_pos aj]; rfl) (by rw[if_pos aj]; exact tZ e7 _)
    ·simp[aj,oZ];exact aK rfl (tZ e7 _)
 ·have qh:oe g x=(Bz,6) :=by unfold oe; rw[if_neg hm]
  have o7:j6 s g x=(e7,6) :=by unfold j6; rw[if_neg hm]
  rw[qh] at dU;rw[o7];obtain⟨X,cQ⟩:∃ X,X=aS x:=⟨_,rfl⟩
  rw[<-cQ] at gj bf dU ⊢;unfold cS ds at dU;simp[fR,cS,ds,bf,atT];refine a1 dU (by simp[bg,U.closed,dx,cD,gj]) ?_;have aw:bd Bz=[U.int .u32 0,.aW,.int .u64 0,.int .u8 0,.str [],.int .u8 0,.int .i64 0,.int .u64 0,.str [],.int .u32 0,.int .u32 0] :=rfl;simp[aw,bu];exact aK rfl rfl
structure anH (a:ez) (o:bq) (X:List U) (k:Nat) (ae:a8) (l:ao) :Prop where
 ca:ae 0=aR a
 bD:ae 4=.ptr 0 0 11
 bh:ae 5=.ptr 1 0 32
 dw:ae 8=.int .i64 k
 ex:∃ v j rest,l=.cells 11 (bd o) ::.cells 32 X::rest/\ae 7=v/\bG 32 l v j (((a.l.take k).filter (kJ o)).map aS)/\(v=.aW\/2<=j)/\cx v=((a.l.take k).filter (kJ o)).isEmpty
def us (l:List (List B)) (o:bq) (x:List B) :List (List B) :=Bh (l.filter (kJ o)++[x])
noncomputable def JK (s:cp) (o:bq) (x:List B) (b:ez) :cp × Int:=
 if (sl s.set o b).2=0 then (if (qG s.c1 o).2=0 then (⟨s.dS+1,(sl s.set o b).1,(qG s.c1 o).1,some (us s.cr.l o x)⟩,0) else (e7,(qG s.c1 o).2)) else (e7,(sl s.set o b).2)
noncomputable def zV (s:cp) (g:bi) (x:List B) :cp × Int:=
 if x∈g.ids.l then (if x∈s.cr.l then (e7,14) else if s.dS=60 then (e7,18) else JK s (oe g x).1 x (ew (iz g (q6 g.ids.l x)))) else (e7,6)
theorem Hi (a:List B) :iq a a=false:=by
 cases h:iq a a with
 | false=>rfl
 | true=>rw[wO,oU] at h; omega
theorem AU (a b c:List B) (h1:iq a b=true) (ad:iq b c=true) :iq a c=true:=(wO _ _).2 (ua a b c ((wO _ _).1 h1) ((wO _ _).1 ad))
theorem Hj (a b:List B) (bz:a≠b) (h:iq a b=false) :iq b a=true:=by
 rw[wO,q5];rcases Cb a b with h1 | h1 | h1
 ·rw[(wO a b).2 (by omega)] at h; cases h
 ·exact absurd (su h1) bz
 ·omega
theorem ak6 (l:List (List B)) :(pz l).Pairwise fun a b=>iq b a=false:=by
 unfold pz;have h:=aw4 (le:=fun x y:List B=>!iq y x) (fun a b c h1 ad=>by
  simp only[avb] at h1 ad ⊢;cases aj:iq c a with
  | false=>rfl
  | true=>
   by_cases eg:a=b
   ·subst eg; rw[aj] at ad; cases ad
   ·have aF:=Hj b a (fun e=>eg e.symm) h1;have aU:=AU _ _ _ aj aF;rw[aU] at ad; cases ad) (fun a b=>by
  cases h1:iq a b with
  | false=>simp
  | true=>
   cases ad:iq b a with
   | false=>simp
   | true=>have:=AU _ _ _ h1 ad; rw[Hi] at this; cases this) l
 exact h.imp fun {a b} eg=>by simpa using eg
theorem NU {l:List (List B)} (aC:l.Nodup) :pz l=Bh l:=by
 have ay:(pz l).Perm l:=awC l _;have qm:(pz l).Nodup:=ay.nodup_iff.2 aC;have ak:(pz l).Pairwise fun a b=>iq a b=true:=by
  refine List.Pairwise.imp (R:=fun a b=>iq b a=false/\a≠b) (fun {a b} h=>Hj b a (fun e=>h.2 e.symm) h.1) ?_;exact List.pairwise_and_iff.2 ⟨ak6 l,qm⟩
 exact Er Hi AU ak (NR AU Hj aC (atW _)) fun y=>by rw[ak7,Ep (atW _),aun]
theorem O5 (s:eU) (o:bq) {b c:ez} (h:∀ p,p∈b.l<->p∈c.l) (ag:b.l.length<=60) (ah:c.l.length<=60) :fQ s o b=fQ s o c:=by
 have ak:i8 o b=i8 o c:=by
  funext t; unfold i8; rw[decide_eq_decide.2 (h t.id)]
 unfold fQ;rw[if_neg (show ¬ 60<b.l.length by omega),if_neg (show ¬ 60<c.l.length by omega),ak]
theorem aj2 (s:he) (o:bq) (ak:hI s.l) (al:s.l.length<=100) (ap:ko o) :hI (ib s o).1.l/\(ib s o).1.l.length<=1000000:=by
 have aE:hI (c6.l (none:he))/\(c6.l (none:he)).length<=1000000:=⟨fun t aH=>(by cases aH),by simp⟩
 unfold ib;split
 ·split
  ·split
   ·exact aE
   ·rw[w7];unfold eL;split
    ·have:=NM (x:=fV o (dZ o)) ak ⟨G5 o,ap.val⟩;exact⟨this.1,by omega⟩
    ·exact⟨ak,by omega⟩
  ·exact aE
 ·exact aE
theorem Wy:tJ e7:=⟨fun t aH=>(by cases aH),fun t aH=>(by cases aH),fun t aH=>(by cases aH),by simp[e7],by simp[e7],by simp[e7]⟩
structure ZX (r:bY) :Prop where
 id:r.id.length=32
 lR:-9223372036854775808<=r.val.num
 ow:r.val.num<9223372036854775808
structure anK (s:cp) :Prop where
 set:g7 s.set.l
 c1:∀ r∈s.c1.l,ZX r
 cr:fU s.cr
theorem aii (a b:bY) (bz:a.key≠b.key) (h:k9 a b=false) :k9 b a=true:=by
 unfold k9 at h ⊢;rw[NJ] at h;rw[tx];have ad:b.key<=a.key:=h;exact Decidable.byContradiction fun aj=>bz (aw1 (show a.key<=b.key from aj) ad)
theorem V7 (a b c:bY) (h1:k9 a b=true) (ad:k9 b c=true) :k9 a c=true:=Ek h1 ad
theorem CD (l:List bY) :ly l=true<->(∀ t∈l,i7 t=true)/\l.Pairwise fun a b=>k9 a b=true:=by
 constructor
 ·intro h;refine⟨fun t aH=>?_,auO.2 fun i j av ai hi=>?_⟩
  ·obtain⟨k,hk⟩:=atZ.1 aH;have h1:=(of_decide_eq_true h) k (atU.1 hk).1;unfold p5 at h1;rw[m7 hk,atY] at h1;exact h1.1
  ·exact v2 h (d:=j - i - 1) (atX av) (by rw[show i+(j - i - 1)+1=j by omega]; exact atX ai)
 ·rintro⟨h1,ad⟩;refine J5 fun k hk=>?_
  unfold p5;have aA:=atX hk;rw[m7 aA,h1 _ (awo hk),auQ];by_cases rs:k=0
  ·simp[rs]
  ·have af:=atX (l:=l) (i:=k - 1) (by omega);have:=(auO.1 ad) (k - 1) k (by omega) hk (by omega);unfold k9 at this;rw[m7 af,this]; simp
theorem S9 {l:List bY} {x:bY} (ar:ly l=true) (af:i7 x=true) :ly (iK l x)=true:=by
 obtain⟨h1,ad⟩:=(CD l).1 ar;unfold iK;cases aD:iU l x.key with
 | true=>
  rw[if_pos rfl];split
  ·unfold iU at aD;rw[atY,decide_eq_true_eq,decide_eq_true_eq] at aD;obtain⟨ah,hk⟩:=aD;have aA:=atX ah;rw[m7 aA] at hk;refine (CD _).2 ⟨fun t aH=>?_,auO.2 fun i j av ai hi=>?_⟩
   ·rcases avl aH with e | e
    ·exact h1 t e
    ·rw[e]; exact af
   ·rw[awa] at av ai;have aj:=(auO.1 ad) i j av ai hi;have Aq:∀ (t:Nat) (aH:t<l.length),((l.set (eO l x.key) x)[t]'(by rw[awa]; exact aH)).key=(l[t]'aH).key:=fun t aH=>by
     rw[List.getElem_set];split
     ·rename_i e; subst e; exact hk.symm
     ·rfl
    unfold k9 at aj ⊢;rw[Aq i av,Aq j ai]; exact aj
  ·exact ar
 | false=>
  rw[if_neg (by simp)];have ay:=W1 ar aD;rw[<-ay];refine (CD _).2 ⟨fun t aH=>?_,Vx V7 ad fun y aA kE=>aii x y (fun e=>?_) kE⟩
  ·rcases G7.1 aH with e | e
   ·rw[e]; exact af
   ·exact h1 t e
  ·rcases FE ar x.key with ⟨aj,_⟩ | ⟨_,aj⟩
   ·rw[aj] at aD; cases aD
   ·exact aj ((yJ x.key (l.map bY.key) 0).2 (by rw[e]; exact avt aA))
theorem XO {g:bi} (V:kU g) {k:Nat} {o:bq} {x:List B} (ap:g.ops.l[k]? = some o) (af:g.ids.l[k]? = some x) (di:o.act.kind=4#8) :i7 (fV o x)=true:=by
 have h1:=(V.lx k o x ap af).1;have ad:fA o=0:=by
  unfold qQ at h1;split at h1
  ·assumption
  ·rename_i h; exact absurd h1 h
 unfold fA at ad;split at ad
 ·cases ad
 ·split at ad
  ·split at ad
   ·rename_i _ _ aj;unfold sF at aj;simp only[atY,decide_eq_true_eq] at aj;obtain⟨_,aF,aU,_⟩:=aj;unfold j1 at aU;rw[di] at aU;simp only[atY] at aU;unfold i7 fV Bj;simp only[atY,decide_eq_true_eq];simp at aU;exact⟨aU.1,aU.2,aF⟩
   ·cases ad
  ·cases ad
def g8 (g:bi) :Nat->List bY
 | 0=>[]
 | k+1=>eL (g8 g k) (m0 g.ops.l k) (b2 g.ids.l k)
theorem Xe {g:bi} {k:Nat} {o:bq} {x:List B} (ap:g.ops.l[k]? = some o) (af:g.ids.l[k]? = some x) :g8 g (k+1)=eL (g8 g k) o x:=by
 show eL (g8 g k) (m0 g.ops.l k) (b2 g.ids.l k)=_;rw[te ap,fK af]
theorem D6 {g:bi} (ar:ft g) (V:kU g) :∀ {k:Nat},k<=g.ops.l.length->ly (g8 g k)=true/\hI (g8 g k)/\(g8 g k).length<=k
 | 0,_=>⟨rfl,fun t aH=>(by cases aH),atW _⟩
 | k+1,hk=>by
  obtain⟨h1,ad,aj⟩:=D6 ar V (k:=k) (by omega);obtain⟨o,ap,dD⟩:=bx (l:=g.ops.l) (k:=k) (by omega);obtain⟨x,af,cC⟩:=bx (l:=g.ids.l) (k:=k) (by rw[V.len]; omega);rw[Xe ap af];unfold eL;by_cases di:o.act.kind=4#8
  ·rw[if_pos di];have:=NM (x:=fV o x) ad ⟨ar.ids x cC,(ar.ops o dD).val⟩;exact⟨S9 h1 (XO V ap af di),this.1,by omega⟩
  ·rw[if_neg di]; exact⟨h1,ad,by omega⟩
structure ZE (g:bi) (k:Nat) (ae:a8) (l:ao) :Prop where
 aM:ae 1=.ptr 0 0 2
 aT:ae 2=.ptr 1 0 1
 bh:ae 5=.ptr 2 0 1
 sA:ae 15=bZ g.ops
 p3:ae 16=.int .i64 g.ops.l.length
 od:ae 17=.int .i64 k
 eh:l[0]? = some (.cells 2 [aR g.ids,bZ g.ops])
 q1:l[1]? = some (.cells 1 [.aW])
 ex:∃ v j,l[2]? = some (.cells 1 [v])/\iM l v j (g8 g k)/\(v=.aW\/3<=j)/\cx v=(g8 g k).isEmpty
def mY (g:bi) :he:=if eK g=0 then ew (g8 g g.ops.l.length) else none
set_option maxHeartbeats 8000000 in
theorem amU (g:bi) (ar:ft g) :bw Tryz.prog GS 42 [cS g] (.bE [.aJ [dt (mY g)],.int .i64 (eK g)]) :=by
 refine bK Tryz.checked.mixed bB ?_;apply bm Tryz.func42 [];have dx:=e5 g.ids;have cD:=lu g.ops;have dh:=Bt g ar;have afy:=ar.cV;have eC:cz (.au 11) (bZ g.ops)=some (.int .i64 g.ops.l.length) :=by simp[bZ]
 unfold cS ds at dh;simp[cS,ds];refine a1 dh (by simp[bg,U.closed,dx,cD]) ?_;by_cases aE:eK g=0
 ·have V:=my aE;simp[aE,eC];refine cF g.ops.l.length (ZE g) ?_ ⟨by simp,by simp,by simp,by simp,by simp,by simp,by simp,by simp,.aW,0,by simp,iM.nil _ 0,.inl rfl,rfl⟩;rintro k ae l hk ⟨aM,aT,bh,sA,p3,od,eh,q1,v,j,ff,Db,ai,hn⟩;obtain⟨ae,rfl⟩:=zi aM aT bh sA p3 od;clear aM aT bh sA p3 od;simp;refine ip (fun h=>?_) (fun h=>?_)
  ·simp only[decide_eq_true_eq] at h;obtain⟨o,ap,dD⟩:=bx (l:=g.ops.l) (k:=k) (by omega);obtain⟨x,af,cC⟩:=bx (l:=g.ids.l) (k:=k) (by rw[V.len]; omega);have mm:=ar.ops o dD;have nM:=ar.ids x cC;have bF:IntKind.i64.wrap ((k:Int)+1)=((k+1:Nat) :Int) :=by rw[IntKind.wrap_i64]; omega
   have bW:cg (.au 11) (bZ g.ops) (.int .i64 (k:Int))=some (.b3 (bd o) 0) :=by simp[bZ,ap]
   have ii:cg (.au 32) (aR g.ids) (.int .i64 (k:Int))=some (.b3 (aS x) 0) :=by simp[aR,af]
   have cl:(bd o).length=11:=rfl;have bf:=cM nM;obtain⟨b6,bJ,c0⟩:=D6 ar V (k:=k) (by omega);have ch:g8 g (k+1)=eL (g8 g k) o x:=Xe ap af;have pc:3<=l.length:=by have:=(atU.1 ff).1; omega
   have af1:iM (l++[.cells 11 (bd o)]) v j (g8 g k) :=Db.frame (by
    by_cases aq:v=.aW
    ·exact .inl aq
    ·obtain⟨_,ag⟩:=Db.block aq;exact .inr (atV (atU.1 ag).1))
   have kh:=fun (K:U->ao->Prop)=>Xf o mm.val x nM bJ (by have:=ar.cV; omega) (J4 b6 o.act.key) af1 (K:=K)
   have wX:∀ c:a2,(l++[c])[2]? = some (.cells 1 [v]) :=fun c=>by rw[atV (by omega)]; exact ff
   have gf:∀ c:a2,(l++[c])[0]? = some (.cells 2 [aR g.ids,bZ g.ops]) :=fun c=>by rw[atV (by omega)]; exact eh
   have oy:∀ c:a2,(l++[c])[1]? = some (.cells 1 [.aW]) :=fun c=>by rw[atV (by omega)]; exact q1
   have HI:∀ c:a2,(l++[c])[l.length]? = some c:=fun c=>av2
   obtain⟨O,dX⟩:∃ O,O=bd o:=⟨_,rfl⟩
   obtain⟨X,cQ⟩:∃ X,X=aS x:=⟨_,rfl⟩
   rw[<-dX] at bW cl;rw[<-cQ] at ii bf;simp only[<-dX,<-cQ] at kh;have il:bu [U.int .u32 0,.aW,.int .u64 0,.int .u8 0,.str [],.int .u8 0,.int .i64 0,.int .u64 0,.str [],.int .u32 0,.int .u32 0] 0 O=O:=fi (by rw[cl]; rfl);have ajb:∀ (c:a2) (h:0<(l++[c]).length),(l++[c])[0]'h=.cells 2 [aR g.ids,bZ g.ops] :=fun c h=>(atU.1 (gf c)).2
   simp[bW,ii,cl,bf,il,gf,ajb,wX,HI,atT];refine kh _ (fun aY l' bM dJ fg m3 rY tm tn=>?_);simp at m3;have kA:∀ b,b<3->v=.aW\/b≠j:=fun b ag=>ai.imp id fun h=>by omega
   have t0:l'[0]? = some (.cells 2 [aR g.ids,bZ g.ops]) :=by rw[rY 0 (by simp) (kA 0 (by omega)),gf]
   have t1:l'[1]? = some (.cells 1 [.aW]) :=by rw[rY 1 (by simp; omega) (kA 1 (by omega)),oy]
   have t2:l'[2]? = some (.cells 1 [v]) :=by rw[rY 2 (by simp; omega) (kA 2 (by omega)),wX]
   have jt:=dJ.o.cells;have g9:∀ y:a2,(l'.set 2 y)[2]? = some y:=fun y=>at9 (by omega)
   have eB:aY=.aW\/3<=bM:=by
    rcases fg with h | h | h
    ·right; rw[h.2]; exact ai.resolve_left h.1
    ·right; simp at h; omega
    ·exact .inl h
   simp[t2,jt,bF];refine⟨h,by simp,by simp,by simp,by simp,by simp,by simp,by rw[at5 (by omega)]; exact t0,by rw[at5 (by omega)]; exact t1,aY,bM,g9 _,?_,eB,?_⟩
   ·rw[ch];exact dJ.frame (eB.imp id fun h=>at5 (by omega))
   ·rw[ch];by_cases di:o.act.kind=4#8
    ·have eG:cx aY=false:=by
      cases ed:cx aY with
      | false=>rfl
      | true=>exact absurd di (tm ed).2
     have mc:(eL (g8 g k) o x).isEmpty=false:=by
      cases ed:(eL (g8 g k) o x).isEmpty with
      | false=>rfl
      | true=>
       rw[awZ] at ed;exfalso;unfold eL at ed;rw[if_pos di] at ed;unfold iK at ed;split at ed
       ·rename_i aD;unfold iU at aD;rw[atY,decide_eq_true_eq] at aD;have ru:0<(g8 g k).length:=by omega
        split at ed
        ·have:=congrArg List.length ed; rw[awa,auy] at this; omega
        ·rw[ed] at ru; simp at ru
       ·have:=congrArg List.length ed; rw[AO] at this; simp at this
     rw[eG,mc]
    ·have ul:eL (g8 g k) o x=g8 g k:=by unfold eL; rw[if_neg di]
     rw[tn di,ul]; exact hn
  ·have hj:k=g.ops.l.length:=by simp at h; omega
   rw[hj] at Db hn;have pc:3<=l.length:=by have:=(atU.1 ff).1; omega
   have dE:∀ y:a2,(l.set 1 y)[1]? = some y:=fun y=>at9 (by omega)
   have jt:=Db.o.cells;simp[h,q1,ff,jt,dE];refine tt (w4 ?_) (aK (by rw[aE]) rfl);have kz:bG 38 (l.set 1 (.cells 1 [v])) v j ((g8 g g.ops.l.length).map ck) :=Db.o.oV (ai.imp id fun h=>at5 (by omega));exact kz.q.oA (fun x=>vJ x) (mY g) (by unfold mY; rw[if_pos aE,vc]; exact hn) (by unfold mY; rw[if_pos aE,fq])
 ·have o7:mY g=none:=by unfold mY; rw[if_neg aE]
  rw[o7];simp[aE];exact aK rfl rfl
def nR (g:bi) (k:Nat) :bY:=fV (m0 g.ops.l k) (b2 g.ids.l k)
def jB (a b:bY) :Bool:=ov a.cX a.id b.cX b.id
theorem Mt (a b:bY) :jB a b=true<->b.cX.toNat<a.cX.toNat\/(a.cX.toNat=b.cX.toNat/\cq b.id a.id<0) :=by
 unfold jB ov;rw[avT,decide_eq_true_eq,atY,decide_eq_true_eq,decide_eq_true_eq];have h1:a.cX=b.cX<->a.cX.toNat=b.cX.toNat:=⟨fun h=>by rw[h],aua⟩
 have ad:0<cq a.id b.id<->cq b.id a.id<0:=by rw[q5 a.id b.id]; omega
 rw[h1,ad]
theorem V9 {a b c:bY} (h1:jB a b=true) (ad:jB b c=true) :jB a c=true:=by
 rw[Mt] at h1 ad ⊢;rcases h1 with h1 | ⟨h1,aj⟩<;>rcases ad with ad | ⟨ad,aF⟩
 ·left; omega
 ·left; omega
 ·left; omega
 ·right; exact⟨by omega,ua _ _ _ aF aj⟩
theorem Hk (a:bY) :jB a a=false:=by
 cases h:jB a a with
 | false=>rfl
 | true=>rw[Mt,oU] at h; omega
theorem V8 {a b:bY} (bz:a.id≠b.id) (h:jB a b=false) :jB b a=true:=by
 have h1:¬ jB a b=true:=by rw[h]; simp
 rw[Mt] at h1 ⊢;by_cases ad:a.cX.toNat<b.cX.toNat
 ·exact .inl ad
 ·right;have aj:¬ b.cX.toNat<a.cX.toNat:=fun e=>h1 (.inl e)
  refine⟨by omega,?_⟩;have aF:¬ cq b.id a.id<0:=fun e=>h1 (.inr ⟨by omega,e⟩)
  have aU:=q5 b.id a.id;have bt:cq b.id a.id≠0:=fun e=>bz (su e).symm
  omega
def xe (g:bi) (j:Nat) :Prop:=(m0 g.ops.l j).act.kind=4#8
def xv (g:bi) (k:Nat) (r:bY) :Prop:=∃ j,j<k/\xe g j/\r=nR g j/\∀ m,m<k->xe g m->(nR g m).key=r.key->jB (nR g m) r=false
theorem akp {g:bi} (V:kU g) {i j:Nat} (av:i<g.ops.l.length) (ai:j<g.ops.l.length) (h:(nR g i).id=(nR g j).id) :i=j:=by
 obtain⟨x,af,_⟩:=bx (l:=g.ids.l) (k:=i) (by rw[V.len]; omega);obtain⟨y,aA,_⟩:=bx (l:=g.ids.l) (k:=j) (by rw[V.len]; omega);unfold nR fV at h;rw[fK af,fK aA] at h;have ad:x=y:=h;subst ad;exact mu V.dO i j x af aA
theorem ajt {g:bi} {k:Nat} (h:xe g k) :g8 g (k+1)=iK (g8 g k) (nR g k) :=by
 show eL (g8 g k) (m0 g.ops.l k) (b2 g.ids.l k)=_;unfold eL;exact if_pos h
theorem ajs {g:bi} {k:Nat} (h:¬ xe g k) :g8 g (k+1)=g8 g k:=by
 show eL (g8 g k) (m0 g.ops.l k) (b2 g.ids.l k)=_;unfold eL;exact if_neg h
theorem z6 {l:List bY} (h:ly l=true) {a b:bY} (ax:a∈l) (ag:b∈l) (hk:a.key=b.key) :a=b:=by
 obtain⟨i,av⟩:=atZ.1 ax;obtain⟨j,ai⟩:=atZ.1 ag;rcases au8 i j with h1 | h1 | h1
 ·have:=v2 h (d:=j - i - 1) av (by rw[show i+(j - i - 1)+1=j by omega]; exact ai);rw[hk,u7] at this; cases this
 ·subst h1; rw[av] at ai; exact Option.some.inj ai
 ·have:=v2 h (d:=i - j - 1) ai (by rw[show j+(i - j - 1)+1=i by omega]; exact av);rw[hk,u7] at this; cases this
theorem X9 {l:List bY} (ar:ly l=true) (x r:bY) :
  (∀ y∈l,y.key=x.key->jB x y=true->(r∈iK l x<->r=x\/(r∈l/\r.key≠x.key))) ∧
  (∀ y∈l,y.key=x.key->jB x y=false->iK l x=l) ∧
  ((∀ y∈l,y.key≠x.key)->(r∈iK l x<->r=x\/r∈l)) :=by
 have qg:∀ y∈l,y.key=x.key->iU l x.key=true/\lV l (eO l x.key)=y/\l[eO l x.key]? = some y:=fun y aA hk=>by
  rcases FE ar x.key with ⟨h1,_⟩ | ⟨_,h1⟩
  ·refine⟨h1,?_⟩;unfold iU at h1;rw[atY,decide_eq_true_eq,decide_eq_true_eq] at h1;obtain⟨z,aw,sZ⟩:=bx h1.1;have aj:=m7 aw;rw[aj] at h1;have:=z6 ar sZ aA (by rw[h1.2,hk]);subst this;exact⟨aj,aw⟩
  ·exact absurd ((yJ x.key (l.map bY.key) 0).2 (by rw[<-hk]; exact avt aA)) h1
 refine⟨fun y aA hk al=>?_,fun y aA hk al=>?_,fun dH=>?_⟩
 ·obtain⟨h1,ad,aj⟩:=qg y aA hk;unfold iK;rw[if_pos h1,ad,if_pos (show ov x.cX x.id y.cX y.id=true from al)];have aN:=(atU.1 aj).1;constructor
  ·intro h;obtain⟨i,av⟩:=atZ.1 h;by_cases e:eO l x.key=i
   ·rw[<-e,at9 aN] at av; exact .inl (Option.some.inj av).symm
   ·rw[at5 e] at av;refine .inr ⟨at3 av,fun hG=>e ?_⟩;have:=z6 ar (at3 av) aA (by rw[hG,hk]);subst this;rcases au8 (eO l x.key) i with q | q | q
    ·have:=v2 ar (d:=i - eO l x.key - 1) aj (by rw[show eO l x.key+(i - eO l x.key - 1)+1=i by omega]; exact av);rw[u7] at this; cases this
    ·exact q
    ·have:=v2 ar (d:=eO l x.key - i - 1) av (by rw[show i+(eO l x.key - i - 1)+1=eO l x.key by omega]; exact aj);rw[u7] at this; cases this
  ·rintro (rfl | ⟨h,hG⟩)
   ·exact atZ.2 ⟨_,at9 aN⟩
   ·obtain⟨i,av⟩:=atZ.1 h;refine atZ.2 ⟨i,?_⟩;rw[at5 (fun e=>by subst e; rw[aj] at av; obtain rfl:=Option.some.inj av; exact hG hk)];exact av
 ·obtain⟨h1,ad,aj⟩:=qg y aA hk;have aF:¬ ov x.cX x.id y.cX y.id=true:=by unfold jB at al; rw[al]; simp
  unfold iK;rw[if_pos h1,ad,if_neg aF]
 ·have h1:iU l x.key=false:=by
   cases ad:iU l x.key with
   | false=>rfl
   | true=>
    unfold iU at ad;rw[atY,decide_eq_true_eq,decide_eq_true_eq] at ad;obtain⟨z,aw,sZ⟩:=bx ad.1;rw[m7 aw] at ad;exact absurd ad.2 (dH z sZ)
  unfold iK;rw[if_neg (by rw[h1]; simp),G7]
theorem Xd {g:bi} (ar:ft g) (V:kU g) :∀ {k:Nat},k<=g.ops.l.length->(∀ r,r∈g8 g k<->xv g k r)/\(∀ m,m<k->xe g m->∃ r∈g8 g k,r.key=(nR g m).key)
 | 0,_=>⟨fun r=>⟨fun h=>(by cases h),fun ⟨j,ai,_⟩=>by omega⟩,fun m hm=>by omega⟩
 | k+1,hk=>by
  obtain⟨dd,hQ⟩:=Xd ar V (k:=k) (by omega);have kb:=(D6 ar V (k:=k) (by omega)).1;by_cases ak:xe g k
  ·rw[ajt ak];obtain⟨x,af⟩:∃ x,x=nR g k:=⟨_,rfl⟩
   rw[<-af];have gP:=fun r=>X9 kb x r
   have yd:∀ {r},xv g k r->(nR g k).key≠r.key\/jB (nR g k) r=false->xv g (k+1) r:=fun {r} ⟨j,ai,h1,ad,aj⟩ h=>⟨j,by omega,h1,ad,fun m hm kg aZ=>by
    by_cases e:m=k
    ·rw[e] at aZ ⊢; exact h.resolve_left fun aC=>aC aZ
    ·exact aj m (by omega) kg aZ⟩
   have yF:∀ {r},xv g (k+1) r->r=x\/xv g k r:=fun {r} ⟨j,ai,h1,ad,aj⟩=>by
    by_cases e:j=k
    ·subst e; left; rw[ad,af]
    ·exact .inr ⟨j,by omega,h1,ad,fun m hm kg hk=>aj m (by omega) kg hk⟩
   have ik:∀ {r},xv g (k+1) r->x.key=r.key->jB x r=false:=fun {r} ⟨j,ai,h1,ad,aj⟩ hk=>by rw[af]; exact aj k (by omega) ak (by rw[<-af]; exact hk)
   by_cases qf:∃ y∈g8 g k,y.key=x.key
   ·obtain⟨y,aA,jw⟩:=qf;have b8:=(dd y).1 aA;cases al:jB x y with
    | true=>
     refine⟨fun r=>?_,fun m hm kg=>?_⟩
     ·rw[(gP r).1 y aA jw al];constructor
      ·rintro (rfl | ⟨h,hG⟩)
       ·refine⟨k,by omega,ak,af,fun m hm kg hk=>?_⟩;by_cases e:m=k
        ·subst e; rw[<-af]; exact Hk _
        ·cases eG:jB (nR g m) r with
         | false=>rfl
         | true=>
          obtain⟨j,ai,h1,ad,aj⟩:=b8;have:=aj m (by omega) kg (by rw[hk,jw]);rw[V9 eG al] at this; cases this
       ·exact yd ((dd r).1 h) (.inl (by rw[<-af]; exact fun e=>hG e.symm))
      ·intro h;rcases yF h with e | e
       ·exact .inl e
       ·refine .inr ⟨(dd r).2 e,fun hG=>?_⟩;have h1:=ik h hG.symm;rw[z6 kb ((dd r).2 e) aA (by rw[hG,jw]),al] at h1; cases h1
     ·by_cases e:(nR g m).key=x.key
      ·exact⟨x,((gP x).1 y aA jw al).2 (.inl rfl),e.symm⟩
      ·obtain⟨r,az,hG⟩:=hQ m (awh (by omega) fun q=>e (by rw[q,af])) kg;exact⟨r,((gP r).1 y aA jw al).2 (.inr ⟨az,by rw[hG]; exact e⟩),hG⟩
    | false=>
     rw[(gP x).2.1 y aA jw al];refine⟨fun r=>⟨fun h=>yd ((dd r).1 h) ?_,fun h=>?_⟩,fun m hm kg=>?_⟩
     ·by_cases hG:r.key=x.key
      ·right;rw[z6 kb h aA (by rw[hG,jw]),<-af]; exact al
      ·exact .inl (by rw[<-af]; exact fun e=>hG e.symm)
     ·rcases yF h with e | e
      ·exfalso;subst e;obtain⟨j,ai,h1,ad,aj⟩:=b8;obtain⟨bM,_,_,_,aF⟩:=h;have aU:=aF j (by omega) h1 (by rw[<-ad]; exact jw);rw[<-ad] at aU;by_cases fm:y.id=r.id
       ·rw[ad,af] at fm;have:=akp V (by omega) (by omega) fm;omega
       ·have:=V8 fm aU;rw[al] at this; cases this
      ·exact (dd r).2 e
     ·by_cases e:m=k
      ·subst e; exact⟨y,aA,by rw[<-af]; exact jw⟩
      ·exact hQ m (by omega) kg
   ·have dH:∀ y∈g8 g k,y.key≠x.key:=fun y aA e=>qf ⟨y,aA,e⟩
    refine⟨fun r=>?_,fun m hm kg=>?_⟩
    ·rw[(gP r).2.2 dH];constructor
     ·rintro (rfl | h)
      ·refine⟨k,by omega,ak,af,fun m hm kg hk=>?_⟩;by_cases e:m=k
       ·subst e; rw[<-af]; exact Hk _
       ·obtain⟨q,aZ,uA⟩:=hQ m (by omega) kg;exact absurd (by rw[uA,hk]) (dH q aZ)
      ·exact yd ((dd r).1 h) (.inl (by rw[<-af]; exact fun e=>dH r h e.symm))
     ·intro h;rcases yF h with e | e
      ·exact .inl e
      ·exact .inr ((dd r).2 e)
    ·by_cases e:m=k
     ·subst e; exact⟨x,((gP x).2.2 dH).2 (.inl rfl),by rw[af]⟩
     ·obtain⟨r,az,hG⟩:=hQ m (by omega) kg;exact⟨r,((gP r).2.2 dH).2 (.inr az),hG⟩
  ·rw[ajs ak];refine⟨fun r=>?_,fun m hm kg=>hQ m (awh (by omega) fun e=>ak (by rw[<-e]; exact kg)) kg⟩;rw[dd];constructor
   ·rintro⟨j,ai,h1,ad,aj⟩;exact⟨j,by omega,h1,ad,fun m hm kg hk=>aj m (awh (by omega) fun e=>ak (by rw[<-e]; exact kg)) kg hk⟩
   ·rintro⟨j,ai,h1,ad,aj⟩;exact⟨j,awh (by omega) fun e=>ak (by rw[<-e]; exact h1),h1,ad,fun m hm kg hk=>aj m (by omega) kg hk⟩
def xT (g:bi) (x:List B) (m:Nat) :Bool:=decide (∀ j,j<m->x∉(m0 g.ops.l j).bp.l)
theorem ac6 (g:bi) (x:List B) (m:Nat) :xT g x (m+1)=(xT g x m&&!decide (x∈(m0 g.ops.l m).bp.l)) :=by
 unfold xT;rw[awz,atY,decide_eq_true_eq,decide_eq_true_eq,avb,decide_eq_false_iff_not];constructor
 ·intro h; exact⟨fun j ai=>h j (by omega),h m (by omega)⟩
 ·rintro⟨h1,ad⟩ j ai;by_cases e:j=m
  ·rw[e]; exact ad
  ·exact h1 j (by omega)
abbrev Ak (g:bi) (x:List B) :Bool:=xT g x g.ops.l.length
def Ag (g:bi) :List (List B) :=g.ids.l.filter (Ak g)
structure ZH (g:bi) (eE:ao) (w:U) (seen:List Bool) (k:Nat) (ae:a8) (l:ao) :Prop where
 aM:ae 1=w
 aT:ae 2=.ptr eE.length 0 2
 dw:ae 8=.int .i64 seen.length
 gL:ae 9=.int .i64 k
 ex:∃ v,ae 5=v/\cn 32 aS (eE++[.cells 2 [aR g.ids,bZ g.ops]]) l v (jT g.ids.l seen k) (jT g.ids.l seen k).isEmpty
set_option maxHeartbeats 4000000 in
theorem aip (g:bi) (ar:ft g) {eE:ao} {w:U} {kI:Nat} {seen:List Bool} (ak:seen.length=g.ids.l.length) (hw:bG 1 eE w kI (seen.map ig)) (afl:kI<eE.length) {K:U->ao->Prop}
  (aV:∀ v l',cn 32 aS eE l' v (jT g.ids.l seen seen.length) (jT g.ids.l seen seen.length).isEmpty->K v l') :
  cY Tryz.prog GS 89 [cS g,w] eE (c:=⟨K⟩) :=by
 apply bm Tryz.func89 [];have az:cK=140737488355328:=rfl;have gx:=ar.li;have ec:cz (.au 1) w=some (.int .i64 seen.length) :=by have:=hw.len; simpa using this
 simp[cS,ds,ec];refine cF seen.length (ZH g eE w seen) ?_ ⟨by simp,by simp,by simp,by simp,.aW,by simp,cn.nil⟩;rintro k ae l hk ⟨aM,aT,dw,gL,v,bh,eY⟩;obtain⟨ae,rfl⟩:=lk aM aT bh dw gL;clear aM aT bh dw gL;have eh:l[eE.length]? = some (.cells 2 [aR g.ids,bZ g.ops]) :=by rw[eY.same _ (by simp)]; simp
 have wz:bG 1 l w kI (seen.map ig) :=hw.oV (.inr (by rw[eY.same _ (by simp; omega),atV afl]));by_cases cZ:k<seen.length
 ·obtain⟨b,ag,_⟩:=bx cZ;obtain⟨x,af,cC⟩:=bx (l:=g.ids.l) (k:=k) (by omega);have aQ:IntKind.i64.wrap ((k:Int)+1)=((k+1:Nat) :Int) :=by rw[IntKind.wrap_i64]; omega
  obtain⟨p,cs,o,jH,lm,Bx,qT⟩:=wz.q.get (k:=.i64) (i:=k) (e:=ig b) (by rw[at0,ag]; rfl);have r6:cs[o]? = some (.bool b) :=by
   have ad:((cs.drop o).take 1)[0]? = (ig b)[0]?:=by rw[qT]
   rw[aum (by omega)] at ad;simpa [ig] using ad
  have ii:cg (.au 32) (aR g.ids) (.int .i64 (k:Int))=some (.b3 (aS x) 0) :=by simp[aR,af]
  have yB:seen.getD k false=b:=by rw[aug,ag]; rfl
  have bf:=cM (ar.ids x cC);have ml:=Hq g.ids.l seen k;have qw:=Hr g.ids.l seen k;have ix:=abe lm;rw[yB] at qw;cases b with
  | false=>
   simp at qw;simp[cZ,jH,lm,r6,ix,aQ];exact⟨by simp,by simp,by simp,by simp,v,by simp,by rw[qw]; exact eY⟩
  | true=>
   rw[if_pos rfl,fK af] at qw;obtain⟨aY,VW,aX,afY,xF⟩:=MJ (by_:=32) (eY.more [a2.cells 32 (aS x)]) x (b:=l.length) (by simp) bf (by omega) (by omega) (by rw[az]; omega);obtain⟨X,cQ⟩:∃ X,X=aS x:=⟨_,rfl⟩
   rw[<-cQ] at ii bf aX;have nJ:bu (rep 32 (.int .u8 0)) 0 X=X:=fi (by rw[bf]; rfl);simp[cZ,jH,lm,r6,ix,eh,ii,bf,nJ,atT,aX];refine dT.cy ?_;simp[cZ,aQ];exact⟨by simp,by simp,by simp,by simp,aY,by simp,by rw[qw,show (jT g.ids.l seen k++[x]).isEmpty=false by simp]; exact afY⟩
 ·have pa:k=seen.length:=by omega
  subst pa;simp[cZ];exact aV _ _ (eY.base (by simp) (fun b ag=>atV ag))
def rb (n k:Nat) :List Bool:=(List.range n).map fun i=>decide (i<k)
theorem acE (n k:Nat) :(rb n k).length=n:=by simp[rb]
theorem acG (n:Nat) :rb n 0=List.replicate n false:=by
 apply auD ; intro i;unfold rb;by_cases h:i<n
 ·rw[at0,auw h,List.getElem?_replicate,if_pos h]; simp
 ·rw[at6 (by simp; omega),at6 (by simp; omega)]
theorem acF {n k:Nat} (h:k<n) :(rb n k).set k true=rb n (k+1) :=by
 apply auD ; intro i;unfold rb;by_cases av:i<n
 ·by_cases e:k=i
  ·subst e;rw[at9 (by simp; omega),at0,auw av]; simp
  ·rw[at5 e,at0,at0,auw av];simp; omega
 ·rw[at6 (by simp; omega),at6 (by simp; omega)]
def lA (g:bi) (q m:Nat) :List Bool:=(List.range g.ids.l.length).map fun i=>xT g (b2 g.ids.l i) q&&!decide (b2 g.ids.l i∈(m0 g.ops.l q).bp.l.take m)
theorem KK (g:bi) (q m:Nat) :(lA g q m).length=g.ids.l.length:=by simp[lA]
theorem aeE (g:bi) :rb g.ids.l.length g.ids.l.length=lA g 0 0:=by
 unfold rb lA;refine avs fun i av=>?_
 rw[aux] at av;rw[decide_eq_true av];simp[xT]
theorem aeC (g:bi) (q:Nat) :lA g q (m0 g.ops.l q).bp.l.length=lA g (q+1) 0:=by
 unfold lA;refine avs fun i av=>?_
 rw[aun,ac6]; simp
theorem aeD {g:bi} (ai:iL g.ids.l) {q m i:Nat} {p:List B} (ay:(m0 g.ops.l q).bp.l[m]? = some p) (av:g.ids.l[i]? = some p) :(lA g q m).set i false=lA g q (m+1) :=by
 have c7:=(atU.1 av).1;apply auD ; intro t;unfold lA;have ch:(m0 g.ops.l q).bp.l.take (m+1)=(m0 g.ops.l q).bp.l.take m++[p] :=by rw[aud,ay]; rfl
 by_cases aH:t<g.ids.l.length
 ·obtain⟨y,aA,_⟩:=bx aH;by_cases e:i=t
  ·subst e;rw[at9 (by simp; omega),at0,auw aH,ch]; simp[av]
  ·rw[at5 e,at0,at0,auw aH,ch];have bz:y≠p:=fun h=>e (by subst h; exact ai i t y av aA)
   simp[aA,bz]
 ·rw[at6 (by simp; omega),at6 (by simp; omega)]
theorem Wh (g:bi) :∀ k,k<=g.ids.l.length->jT g.ids.l (lA g g.ops.l.length 0) k=(g.ids.l.take k).filter (Ak g)
 | 0,_=>rfl
 | k+1,hk=>by
  obtain⟨x,af,_⟩:=bx (l:=g.ids.l) (k:=k) (by omega);have h1:(lA g g.ops.l.length 0).getD k false=Ak g x:=by
   rw[aug];unfold lA;rw[at0,auw (by omega)];simp[fK af,af]
  rw[Hr,Wh g k (by omega),h1,fK af,aud,af,avG];cases h:Ak g x<;>simp[h]
structure sk (g:bi) (fL b:Nat) (S:List Bool) (l:ao) :Prop where
 eh:l[0]? = some (.cells 2 [aR g.ids,bZ g.ops])
 p:nf l fL g.ids.l
 w:bG 1 l (.au 1 b 0 g.ids.l.length g.ids.l.length g.ids.l.length) b (S.map ig)
 ag:b<l.length
 hm:fL<b
 aE:0<fL
theorem sk.more {g:bi} {fL b:Nat} {S:List Bool} {l:ao} (h:sk g fL b S l) (c:a2) :sk g fL b S (l++[c]) :=
 ⟨by rw[atV (by have:=h.ag; omega)]; exact h.eh,h.p.frame (atV h.p.lt),h.w.more _,by have:=h.ag; simp; omega,h.hm,h.aE⟩
theorem sk.set {g:bi} {fL b:Nat} {S:List Bool} {l:ao} (h:sk g fL b S l) {i:Nat} {v:Bool} (av:i<S.length) :
  ∃ p l',cg (.au 1) (.au 1 b 0 g.ids.l.length g.ids.l.length g.ids.l.length) (.int .i64 (i:Int))=some p/\km 1 l p (.bool v)=some l'/\sk g fL b (S.set i v) l':=by
 obtain⟨p,l',aX,a6,a3,a4,a5⟩:=HF (enc:=ig) (x:=v) (X:=.bool v) rfl h.w (fun _ _=>rfl) av rfl;have h1:=h.hm;have ad:=h.aE;exact⟨p,l',aX,a6,by rw[a5 0 (by omega)]; exact h.eh,h.p.frame (a5 fL (by omega)),a3,by rw[a4]; exact h.ag,h.hm,h.aE⟩
def m8 (g:bi) :ez:=if eK g=0 then ew (Ag g) else none
set_option maxHeartbeats 8000000 in
theorem amM (g:bi) (ar:ft g) :bw Tryz.prog GS 43 [cS g] (.bE [aR (m8 g),.int .i64 (eK g)]) :=by
 refine bK Tryz.checked.mixed bB ?_;apply bm Tryz.func43 [];have az:cK=140737488355328:=rfl;have dx:=e5 g.ids;have cD:=lu g.ops;have afy:=ar.cV;have afv:=ar.li;have dh:=Bt g ar;have eC:cz (.au 11) (bZ g.ops)=some (.int .i64 g.ops.l.length) :=by simp[bZ]
 have gx:cz (.au 32) (aR g.ids)=some (.int .i64 g.ids.l.length) :=by simp[aR]
 unfold cS ds at dh;simp[cS,ds];refine a1 dh (by simp[bg,U.closed,dx,cD]) ?_;by_cases aE:eK g=0
 ·have V:=my aE;have et:=mu V.dO;simp[aE];refine WU g ar et ?_;intro fL l1 md wn kz pd;have eh:l1[0]? = some (a2.cells 2 [aR g.ids,bZ g.ops]) :=by rw[kz 0 (by simp)]; rfl
  obtain⟨aX,a6⟩:=DN (z:=1) (by_:=1) (n:=g.ids.l.length) (k:=.i64) (k':=.i64) (zero:=[U.bool false]) (l:=l1) rfl (by omega) (by rw[az]; omega);obtain⟨N,fv⟩:∃ N,N=g.ids.l.length:=⟨_,rfl⟩
  simp only[avo] at aX a6;have dG:sk g fL l1.length (rb g.ids.l.length 0) (l1++[.cells g.ids.l.length (dy [.bool false] g.ids.l.length)]) :=by
   have h1:l1.length ≥ 1:=by simp at pd; omega
   refine⟨by rw[atV (by omega)]; exact eh,md.frame (atV md.lt),?_,by simp,md.lt,by simp at wn; omega⟩;rw[acG,awL]; exact a6
  simp[eh,gx,aX];obtain⟨b,ag⟩:∃ b,b=l1.length:=⟨_,rfl⟩
  rw[<-ag] at dG ⊢;refine cF g.ids.l.length (fun k ae l=>ae 1=.ptr 0 0 2/\ae 5=.mp fL/\ae 6=.au 1 b 0 g.ids.l.length g.ids.l.length g.ids.l.length/\ae 24=.int .i64 g.ids.l.length/\ae 25=.int .i64 k/\sk g fL b (rb g.ids.l.length k) l) ?_ ⟨by simp,by simp,by simp,by simp,by simp,dG⟩;clear dG aX a6 eh kz md;rintro k ae l hk ⟨aM,bh,cd,mJ,ku,dG⟩;obtain⟨ae,rfl⟩:=lk aM bh cd mJ ku;clear aM bh cd mJ ku;simp;refine ip (fun h=>?_) (fun h=>?_)
  ·simp only[decide_eq_true_eq] at h;have aQ:IntKind.i64.wrap ((k:Int)+1)=((k+1:Nat) :Int) :=by rw[IntKind.wrap_i64]; omega
   obtain⟨p,l',dE,g9,oD⟩:=dG.set (i:=k) (v:=true) (by rw[acE]; omega);rw[acF (by omega)] at oD;simp[dE,g9,aQ];exact⟨by omega,oD⟩
  ·have hj:k=g.ids.l.length:=by simp at h; omega
   rw[hj,aeE] at dG;have eh:=dG.eh;simp[h,eh,eC];refine cF g.ops.l.length (fun q ae l=>ae 1=.ptr 0 0 2/\ae 5=.mp fL/\ae 6=.au 1 b 0 g.ids.l.length g.ids.l.length g.ids.l.length/\ae 33=bZ g.ops/\ae 34=.int .i64 g.ops.l.length/\ae 35=.int .i64 q/\sk g fL b (lA g q 0) l) ?_ ⟨by simp,by simp,by simp,by simp,by simp,by simp,dG⟩;clear dG eh;rintro q ae l aZ ⟨aM,bh,cd,vY,vZ,Cz,dG⟩;obtain⟨ae,rfl⟩:=zi aM bh cd vY vZ Cz;clear aM bh cd vY vZ Cz;simp;refine ip (fun ad=>?_) (fun ad=>?_)
   ·simp only[decide_eq_true_eq] at ad;obtain⟨o,ap,dD⟩:=bx (l:=g.ops.l) (k:=q) (by omega);have mm:=ar.ops o dD;have aQ:IntKind.i64.wrap ((q:Int)+1)=((q+1:Nat) :Int) :=by rw[IntKind.wrap_i64]; omega
    have bW:cg (.au 11) (bZ g.ops) (.int .i64 (q:Int))=some (.b3 (bd o) 0) :=by simp[bZ,ap]
    have cl:(bd o).length=11:=rfl;have hh:∀ h,(bd o)[1]'h=aR o.bp:=fun _=>rfl
    have nG:cz (.au 32) (aR o.bp)=some (.int .i64 o.bp.l.length) :=by simp[aR]
    obtain⟨O,dX⟩:∃ O,O=bd o:=⟨_,rfl⟩
    rw[<-dX] at bW cl hh;have il:bu [U.int .u32 0,.aW,.int .u64 0,.int .u8 0,.str [],.int .u8 0,.int .i64 0,.int .u64 0,.str [],.int .u32 0,.int .u32 0] 0 O=O:=fi (by rw[cl]; rfl);have HI:∀ c:a2,(l++[c])[l.length]? = some c:=fun c=>av2
    simp[bW,cl,hh,il,nG,HI,atT];refine cF o.bp.l.length (fun m ae l=>ae 1=.ptr 0 0 2/\ae 5=.mp fL/\ae 6=.au 1 b 0 g.ids.l.length g.ids.l.length g.ids.l.length/\ae 33=bZ g.ops/\ae 34=.int .i64 g.ops.l.length/\ae 35=.int .i64 q/\ae 40=aR o.bp/\ae 41=.int .i64 o.bp.l.length/\ae 42=.int .i64 m/\sk g fL b (lA g q m) l) ?_ ⟨by simp,by simp,by simp,by simp,by simp,by simp,by simp,by simp,by simp,dG.more _⟩;clear dG HI;rintro m ae l hm ⟨aM,bh,cd,vY,vZ,Cz,SX,SY,SZ,dG⟩;obtain⟨ae,rfl⟩:=amq aM bh cd vY vZ Cz SX SY SZ;clear aM bh cd vY vZ Cz SX SY SZ;simp;refine ip (fun aj=>?_) (fun aj=>?_)
    ·simp only[decide_eq_true_eq] at aj;obtain⟨p,ay,pf⟩:=bx (l:=o.bp.l) (k:=m) (by omega);have k4:=mm.ids p pf;have gy:=cM k4;have aql:=mm.len;have bF:IntKind.i64.wrap ((m:Int)+1)=((m+1:Nat) :Int) :=by rw[IntKind.wrap_i64]; omega
     obtain⟨i,av⟩:=atZ.1 (V.HC o dD p pf);have c7:=(atU.1 av).1;have h4:cg (.au 32) (aR o.bp) (.int .i64 (m:Int))=some (.b3 (aS p) 0) :=by simp[aR,ay]
     have FY:=dG.more (.cells 32 (aS p));have ik:=FY.p.look et k4 av;obtain⟨aji,l',dE,g9,oD⟩:=FY.set (i:=i) (v:=false) (by rw[KK]; omega);rw[aeD et (by rw[te ap]; exact ay) av] at oD;obtain⟨P,md⟩:∃ P,P=aS p:=⟨_,rfl⟩
     rw[<-md] at h4 gy ik g9;have agx:bu (rep 32 (U.int .u8 0)) 0 P=P:=fi (by rw[gy]; rfl);simp[h4,gy,agx,ik,dE,g9,bF,atT];exact⟨by omega,oD⟩
    ·have kf:m=o.bp.l.length:=by simp at aj; omega
     have h6:=aeC g q;rw[te ap] at h6;rw[kf,h6] at dG;simp[aj,aQ];exact⟨by omega,dG⟩
   ·have agd:q=g.ops.l.length:=by simp at ad; omega
    rw[agd] at dG;have eh:=dG.eh;simp[ad,eh];have hw:=dG.w;refine aip g ar (seen:=lA g g.ops.l.length 0) (KK _ _ _) hw dG.ag (fun v l' eY=>?_);simp;have ws:jT g.ids.l (lA g g.ops.l.length 0) (lA g g.ops.l.length 0).length=Ag g:=by
     rw[KK,Wh g _ (atW _),aun]; rfl
    rw[ws] at eY;refine tt ?_ (aK (by rw[aE]) rfl);exact eY.rd fE (m8 g) (by unfold m8; rw[if_pos aE,vc]) (by unfold m8; rw[if_pos aE,fq])
 ·have o7:m8 g=none:=by unfold m8; rw[if_neg aE]
  rw[o7];simp[aE];exact aK rfl rfl
end Op

end Go.cb

/-
  Lists of ids as bytes: walked in both texts.
-/
import Derived.Test.YtobphgccoalchaaGreatDoorOh
set_option linter.unusedVariables false
set_option linter.unusedSimpArgs false
set_option linter.unnecessarySimpa false
namespace Go.cb
open Go Go.Proofs
set_option maxRecDepth 100000
namespace Op
open g3
def rN (l:List (List B)) :List B:=eJ l.length++l.flatten
theorem RI:∀ (x:List B),l5 1 x.length (x.map bC)=x.map cc
 | []=>rfl
 | b::r=>by
  show ((bC b::r.map bC).take 1) ::l5 1 r.length ((bC b::r.map bC).drop 1)=_;simp[RI r,cc]
theorem abj {x:List B} (h:x.length=32) :l5 1 32 (aS x)=x.map cc:=by
 have:=RI x;rw[h] at this;exact this
theorem LX {l:List (List B)} (h:∀ x∈l,x.length=32) :l.flatten.length=l.length*32:=l8 h
theorem YF {l:List (List B)} {k:Nat} {x:List B} (h:l[k]? = some x) :(l.take (k+1)).flatten=(l.take k).flatten++x:=by
 rw[aud,h]; simp
theorem ak4 {x:List B} (h:x.length=32) :gq (.arr 32 1) (.b3 (aS x) 0) none none none=some (.bR 1 (x.map cc)) :=by
 have:=abj h;have ag:gK 32 32 none none none=some (0,32,32) :=rfl;unfold gq;simp only[ag];simp[cM h,this]
structure ZF (l:ao) (s:ez) (k:Nat) (ae:a8) (l1:ao) :Prop where
 ca:ae 0=cI 32 aS s
 bD:ae 4=.int .i64 k
 td:∃ v,ae 3=v/\cn 1 cc l l1 v (eJ s.l.length++(s.l.take k).flatten) false
theorem ajJ (s:ez) (ap:fU s) (ak:s.l.length<=1000) {l:ao} {K:U->ao->Prop} (aV:∀ v l',cn 1 cc l l' v (rN s.l) false->K v l') :
  cY Tryz.prog GS 171 [aR s] l (c:=⟨K⟩) :=by
 apply bm Tryz.func171 [];have az:cK=140737488355328:=rfl;have aC:(BitVec.ofNat 64 s.l.length).toNat=s.l.length:=by rw[auc]; exact at7 (by omega)
 have nH:=h9 s.l.length;simp[aR];refine w3 _ fun v l' h=>?_
 rw[aC] at h;simp;refine cF s.l.length (ZF l s) ?_ ⟨by simp[aR],by simp,v,by simp,by simpa using h⟩;rintro k ae l1 hk ⟨ca,bD,v,a7,eY⟩;obtain⟨ae,rfl⟩:=kQ ca a7 bD;clear ca a7 bD;simp;refine ip (fun h=>?_) (fun h=>?_)
 ·simp only[decide_eq_true_eq] at h;obtain⟨x,af,cC⟩:=bx (l:=s.l) (k:=k) (by omega);have aQ:IntKind.i64.wrap ((k:Int)+1)=((k+1:Nat) :Int) :=by rw[IntKind.wrap_i64]; omega
  have fc:((s.l.take k).flatten).length<=32000:=by
   rw[LX (fun y aA=>ap y (aur aA)),aue]; omega
  obtain⟨aY,bX,aX,a6,_⟩:=eY.app (by_:=1) (x:=.bR 1 (x.map cc)) (xs:=x) (by simp[dM]) (by simp[cc]) (by omega) (by omega) (by rw[az,ap x cC]; simp only[at4]; omega);simp[af,cM (ap x cC),atT,ak4 (ap x cC),aX];refine dT.cy ?_;simp[aQ];exact⟨by omega,by simp,by simp,aY,by simp,by rw[YF af,<-aut]; exact a6⟩
 ·simp[h];have aH:s.l.take k=s.l:=atT (by simp at h; omega);rw[aH] at eY;exact aV _ _ eY
structure ZG (l:ao) (s:ez) (k:Nat) (ae:a8) (l1:ao) :Prop where
 od:ae 17=cI 32 aS s
 sB:ae 18=.int .i64 s.l.length
 sC:ae 19=.int .i64 k
 td:∃ v,ae 4=v/\cn 1 cc l l1 v (eJ s.l.length++(s.l.take k).flatten) false
theorem amN (s:ez) (ap:fU s) (ak:s.l.length<=60) (az:dO s.l=true) {l:ao} {K:U->ao->Prop} (aV:∀ v l',cn 1 cc l l' v (rN s.l) false->K (.bE [v,.int .i64 0]) l') :
  cY Tryz.prog GS 200 [aR s] l (c:=⟨K⟩) :=by
 apply bm Tryz.func200 [];have Dh:cK=140737488355328:=rfl;have aC:(BitVec.ofNat 64 s.l.length).toNat=s.l.length:=by rw[auc]; exact at7 (by omega)
 have nH:=h9 s.l.length;have kv:¬ (60:Int)<(s.l.length:Int) :=by omega
 simp[aR,kv];refine a1 (akw s ap (by omega)) (by have:=e5 s; simp[bg]; exact this) ?_;simp[az,aR];refine zj _ fun v l' h=>?_
 rw[aC] at h;simp[aR];refine cF s.l.length (ZG l s) ?_ ⟨by simp[aR],by simp,by simp,v,by simp,by simpa using h⟩;rintro k ae l1 hk ⟨od,sB,sC,v,bD,eY⟩;obtain⟨ae,rfl⟩:=iw od sB sC bD;clear od sB sC bD;simp;refine ip (fun h=>?_) (fun h=>?_)
 ·simp only[decide_eq_true_eq] at h;obtain⟨x,af,cC⟩:=bx (l:=s.l) (k:=k) (by omega);have aQ:IntKind.i64.wrap ((k:Int)+1)=((k+1:Nat) :Int) :=by rw[IntKind.wrap_i64]; omega
  have fc:((s.l.take k).flatten).length<=32000:=by
   rw[LX (fun y aA=>ap y (aur aA)),aue]; omega
  obtain⟨aY,bX,aX,a6,_⟩:=(eY.more [.cells 32 (aS x)]).app (by_:=1) (x:=.au 1 l1.length 0 32 32 32) (xs:=x) (by simp[dM,ap x cC,cM (ap x cC),atT,aS,xN]) (by simp[cc]) (by omega) (by omega) (by rw[Dh,ap x cC]; simp only[at4]; omega);have js:bu (rep 32 (.int .u8 0)) 0 (aS x)=aS x:=fi (by rw[cM (ap x cC)]; rfl);simp[af,cM (ap x cC),atT,Eo,js,aX];refine dT.cy ?_;simp[aQ];exact⟨by omega,by simp,by simp,by simp,aY,by simp,by rw[YF af,<-aut]; exact a6⟩
 ·simp[h];have aH:s.l.take k=s.l:=atT (by simp at h; omega);rw[aH] at eY;exact aV _ _ eY
def fr (s:List UInt8) :List B:=s.map fun b=>b.toBitVec
theorem Ib (s:List UInt8) :(s.map fun b=>[jf b])=(fr s).map cc:=by
 unfold fr;rw[avF];rfl
theorem qK (s:List UInt8) :(fr s).length=s.length:=by simp[fr]
def oQ (b:Q) (k:Nat) :List B:=(List.range k).map fun i=>l4 b.toNat (7 - i)
def ja (v:hK) :List B:=v.kind::(if v.kind=1#8 then eJ (nb v.num).toNat else if v.kind=2#8 then oQ v.bits 8 else i9 (fr v.text))
def DV (v:hK) :Prop:=-9223372036854775808<=v.num/\v.num<9223372036854775808/\v.text.length<=10000
theorem Pl (b:Q) (k:Nat) :oQ b (k+1)=oQ b k++[l4 b.toNat (7 - k)] :=by
 unfold oQ; rw[avr,auq]; rfl
theorem Wv (l:ao) (c:a2) (x:B) :cn 1 cc l (l++[c,.cells 1 [bC x]]) (.au 1 (l.length+1) 0 1 1 1) [x] false:=by
 exact⟨l.length+1,ps (n:=1) (a:=[x]) rfl (by simp),by simp,fun b ag=>atV ag,.inr (by omega),rfl⟩
theorem uZ (l:ao) (c:a2) (x:B) :cn 1 cc (l++[c]) (l++[c,.cells 1 [bC x]]) (.au 1 (l.length+1) 0 1 1 1) [x] false:=by
 have e:l++[c,.cells 1 [bC x]]=(l++[c])++[.cells 1 [bC x]] :=by simp
 exact⟨l.length+1,ps (n:=1) (a:=[x]) rfl (by simp),by simp,fun b ag=>by rw[e]; exact atV ag,.inr (by simp),rfl⟩
structure Zr (l:ao) (v:hK) (p:Nat) (k:Nat) (ae:a8) (l1:ao) :Prop where
 aM:ae 1=.ptr p 0 4
 bD:ae 4=.int .i64 (7 - (k:Int))
 td:∃ w,ae 3=w/\cn 1 cc (l++[.cells 4 (dP v)]) l1 w (v.kind::oQ v.bits k) false
theorem ajY (v:hK) (aq:DV v) {l:ao} {K:U->ao->Prop} (aV:∀ w l',cn 1 cc l l' w (ja v) false->K w l') :
  cY Tryz.prog GS 173 [.aJ (dP v)] l (c:=⟨K⟩) :=by
 apply bm Tryz.func173 [];have az:cK=140737488355328:=rfl;have aE:=Wv l (.cells 4 (dP v)) v.kind;obtain⟨rx,ol,aH⟩:=aq;have ah:vU (.str v.text)=some (.bR 1 ((fr v.text).map cc)) :=by
  show some (U.bR 1 (v.text.map fun b=>[jf b]))=_;rw[Ib]
 by_cases cW:v.kind=1#8
 ·have nK:ja v=[v.kind]++eJ (nb v.num).toNat:=by unfold ja; rw[if_pos cW]; rfl
  have aQ:(u v.kind:Int)=1:=(iv v.kind).2 cW;simp only[bC,aQ] at aE;have nH:=h9 (nb v.num).toNat
  simp[dP,aQ];refine ajT v.num rx ol fun w l' h=>?_
  obtain⟨aY,bX,aX,a6,_⟩:=(aE.frame h.le h.same).app (by_:=1) (x:=w) (xs:=eJ (nb v.num).toNat) h.contents (by simp[cc]) (by omega) (by omega) (by rw[az]; simp only[auf,auy]; omega);simp[aX];refine dT.cy ?_;simp;exact aV _ _ (by rw[nK]; exact a6)
 ·have aQ:¬ (u v.kind:Int)=1:=fun h=>cW ((iv v.kind).1 h)
  by_cases dv:v.kind=2#8
  ·have bF:(u v.kind:Int)=2:=(lX v.kind).2 dv;have nK:ja v=v.kind::oQ v.bits 8:=by unfold ja; rw[if_neg cW,if_pos dv]
   have ad:=uZ l (.cells 4 (dP v)) v.kind;simp only[bC,bF] at ad;simp[dP,bF];refine cF 8 (Zr l v l.length) ?_ ⟨by simp,by simp,_,by simp,ad⟩;rintro k ae l1 hk ⟨aM,bD,w,a7,eY⟩;have ay:l1[l.length]? = some (.cells 4 (dP v)) :=by rw[eY.same l.length (by simp)]; simp
   obtain⟨ae,rfl⟩:=kQ aM a7 bD;clear aM a7 bD;by_cases h5:k=8
   ·subst h5;rw[<-nK] at eY;simp;exact aV _ _ (eY.base (by simp) fun b ag=>atV ag)
   ·obtain⟨m,hm⟩:∃ m,m+k=7:=⟨7 - k,by omega⟩
    have em:7 - (k:Int)=(m:Int) :=by omega
    have JD:IntKind.i64.wrap ((m:Int) - 1)=(m:Int) - 1:=by rw[IntKind.wrap_i64]; omega
    have ab3:IntKind.i64.wrap (8*(m:Int))=((8*m:Nat) :Int) :=by rw[IntKind.wrap_i64]; omega
    have qT:cu .shr .u64 (u v.bits) .i64 ((8*m:Nat) :Int)=some (.int .u64 (u (v.bits >>> (8*m)))) :=tU v.bits .i64 (8*m);have r6:=E8 v.bits m;have bl:(v.kind::oQ v.bits k).length<=1000000000:=by simp[oQ]; omega
    obtain⟨w',l',aX,a6⟩:=cn.push eY (l4 v.bits.toNat m) bl;rw[em];simp[dP] at ay;simp[ay,ab3,qT,r6,aX,-Int.natCast_mul];refine dT.cy ?_;simp[JD];exact⟨by omega,by simp,by simp; omega,w',by simp,by rw[Pl,show 7 - k=m by omega]; exact a6⟩
  ·have bF:¬ (u v.kind:Int)=2:=fun h=>dv ((lX v.kind).1 h)
   have nK:ja v=[v.kind]++i9 (fr v.text) :=by unfold ja; rw[if_neg cW,if_neg dv]; rfl
   have lL:(i9 (fr v.text)).length<=20000:=by
    have:=h9 (fr v.text).length;unfold i9;rw[at4];have:=qK v.text;omega
   simp[dP,aQ,bF,ah];refine Xu (some (fr v.text)) (by simpa [qK] using aH) (by simp[dM]) (by simp) (fun l' _ _=>by simp[dM]) fun w l' h=>?_
   obtain⟨aY,bX,aX,a6,_⟩:=(aE.frame h.le h.same).app (by_:=1) (x:=w) (xs:=i9 (fr v.text)) h.contents (by simp[cc]) (by omega) (by omega) (by rw[az]; simp only[auf,auy]; omega);simp[aX];refine dT.cy ?_;simp;exact aV _ _ (by rw[nK]; exact a6)
structure Zs (l:ao) (v:hK) (p:Nat) (k:Nat) (ae:a8) (l1:ao) :Prop where
 aM:ae 1=.ptr p 0 4
 cd:ae 6=.int .i64 (8*(7 - (k:Int)))
 td:∃ w,ae 5=w/\cn 1 cc (l++[.cells 4 (dP v)]) l1 w (v.kind::oQ v.bits k) false
theorem ahM {v:hK} (h:jG v=true) (cW:¬ v.kind=1#8) (dv:¬ v.kind=2#8) :v.kind=3#8:=by
 unfold jG at h;simp[cW,dv] at h;exact h.1
theorem amY (v:hK) (aq:DV v) (df:jG v=true) {l:ao} {K:U->ao->Prop} (aV:∀ w l',cn 1 cc l l' w (ja v) false->K (.bE [w,.int .i64 0]) l') :
  cY Tryz.prog GS 202 [.aJ (dP v)] l (c:=⟨K⟩) :=by
 apply bm Tryz.func202 [];have az:cK=140737488355328:=rfl;have aE:=Wv l (.cells 4 (dP v)) v.kind;obtain⟨rx,ol,aH⟩:=aq;have ah:vU (.str v.text)=some (.bR 1 ((fr v.text).map cc)) :=by
  show some (U.bR 1 (v.text.map fun b=>[jf b]))=_;rw[Ib]
 have dh:=Om v;rw[df] at dh;by_cases cW:v.kind=1#8
 ·have nK:ja v=[v.kind]++eJ (nb v.num).toNat:=by unfold ja; rw[if_pos cW]; rfl
  have aQ:(u v.kind:Int)=1:=(iv v.kind).2 cW;simp only[bC,aQ] at aE;have nH:=h9 (nb v.num).toNat
  simp[dP];refine a1 dh rfl ?_;simp[gD,aQ];refine amV v.num rx ol fun w l' h=>?_
  obtain⟨aY,bX,aX,a6,_⟩:=(aE.frame h.le h.same).app (by_:=1) (x:=w) (xs:=eJ (nb v.num).toNat) h.contents (by simp[cc]) (by omega) (by omega) (by rw[az]; simp only[auf,auy]; omega);simp[aX];refine dT.cy ?_;simp;exact aV _ _ (by rw[nK]; exact a6)
 ·have aQ:¬ (u v.kind:Int)=1:=fun h=>cW ((iv v.kind).1 h)
  by_cases dv:v.kind=2#8
  ·have bF:(u v.kind:Int)=2:=(lX v.kind).2 dv;have nK:ja v=v.kind::oQ v.bits 8:=by unfold ja; rw[if_neg cW,if_pos dv]
   have ad:=uZ l (.cells 4 (dP v)) v.kind;simp only[bC,bF] at ad;simp[dP];refine a1 dh rfl ?_;simp[gD,bF];refine cF 8 (Zs l v l.length) ?_ ⟨by simp,by simp,_,by simp,ad⟩;rintro k ae l1 hk ⟨aM,cd,w,bh,eY⟩;have ay:l1[l.length]? = some (.cells 4 (dP v)) :=by rw[eY.same l.length (by simp)]; simp
   obtain⟨ae,rfl⟩:=kQ aM bh cd;clear aM bh cd;by_cases h5:k=8
   ·subst h5;rw[<-nK] at eY;simp;exact aV _ _ (eY.base (by simp) fun b ag=>atV ag)
   ·obtain⟨m,hm⟩:∃ m,m+k=7:=⟨7 - k,by omega⟩
    obtain⟨n,aC⟩:∃ n,n=8*m:=⟨_,rfl⟩
    have em:8*(7 - (k:Int))=(n:Int) :=by omega
    have JD:IntKind.i64.wrap ((n:Int) - 8)=(n:Int) - 8:=by rw[IntKind.wrap_i64]; omega
    have qT:cu .shr .u64 (u v.bits) .i64 (n:Int)=some (.int .u64 (u (v.bits >>> n))) :=tU v.bits .i64 n;have r6:=E8 v.bits m;rw[<-aC] at r6;have bl:(v.kind::oQ v.bits k).length<=1000000000:=by simp[oQ]; omega
    obtain⟨w',l',aX,a6⟩:=cn.push eY (l4 v.bits.toNat m) bl;rw[em];simp[dP] at ay;simp[ay,qT,r6,aX];refine dT.cy ?_;simp[JD];exact⟨by omega,by simp,by simp; omega,w',by simp,by rw[Pl,show 7 - k=m by omega]; exact a6⟩
  ·have bF:¬ (u v.kind:Int)=2:=fun h=>dv ((lX v.kind).1 h)
   have dn:(u v.kind:Int)=3:=(pD v.kind).2 (ahM df cW dv);have nK:ja v=[v.kind]++i9 (fr v.text) :=by unfold ja; rw[if_neg cW,if_neg dv]; rfl
   have lL:(i9 (fr v.text)).length<=20000:=by
    have:=h9 (fr v.text).length;unfold i9;rw[at4];have:=qK v.text;omega
   simp only[bC,dn] at aE;simp[dP];refine a1 dh rfl ?_;simp[gD,dn,ah];refine Y9 (some (fr v.text)) (by simpa [qK] using aH) (by simp[dM]) (by simp) (fun l' _ _=>by simp[dM]) fun w l' h=>?_
   obtain⟨aY,bX,aX,a6,_⟩:=(aE.frame h.le h.same).app (by_:=1) (x:=w) (xs:=i9 (fr v.text)) h.contents (by simp[cc]) (by omega) (by omega) (by rw[az]; simp only[auf,auy]; omega);simp[aX];refine dT.cy ?_;simp;exact aV _ _ (by rw[nK]; exact a6)
structure bq where
 hL:D
 bp:ez
 cX:Q
 act:Act
 e:D
 s:D
def bd (o:bq) :List U:=[bA o.hL,aR o.bp,da o.cX,bC o.act.kind,.str o.act.key,bC o.act.val.kind,.int .i64 o.act.val.num,da o.act.val.bits,.str o.act.val.text,bA o.e,bA o.s]
structure ko (o:bq) :Prop where
 ids:fU o.bp
 len:o.bp.l.length<=1000000
 val:DV o.act.val
 key:o.act.key.length<=10000
def sF (o:bq) :Bool:=gm o.hL&&(decide (o.cX.toNat<=1000000000000)&&(j1 o.act&&(ji o.e&&ji o.s)))
def fA (o:bq) :Int:=if 4<o.bp.l.length then 4 else if dO o.bp.l then (if sF o then 0 else 8) else 32
theorem l6 (o:bq) :bg (bd o)=true:=by
 have:=e5 o.bp;simp[bd,bg,U.closed,this]
theorem ajL (o:bq) (ap:ko o) :bw Tryz.prog GS 81 [.aJ (bd o)] (.int .i64 (fA o)) :=by
 refine bK Tryz.checked.mixed bB ?_;apply bm Tryz.func81 [];unfold fA;have eb:=e5 o.bp;have bl:cz (.au 32) (aR o.bp)=some (.int .i64 o.bp.l.length) :=by simp[aR]
 have jl:(aR o.bp).cells=some [aR o.bp] :=by cases o.bp<;>rfl
 obtain⟨p,ay⟩:∃ p,p=aR o.bp:=⟨_,rfl⟩
 by_cases h1:4<o.bp.l.length
 ·have cN:(4:Int)<(o.bp.l.length:Int) :=by omega
  rw[if_pos h1];simp[bd,bl,cN];exact aK rfl rfl
 ·have cN:¬ (4:Int)<(o.bp.l.length:Int) :=by omega
  rw[if_neg h1];simp[bd,bl,cN];refine a1 (Nc o.bp ap.ids ap.len) (by simp[bg,eb]) ?_;cases ad:dO o.bp.l with
  | false=>
   simp;exact aK rfl rfl
  | true=>
   simp;refine a1 (XD o.hL) rfl ?_;unfold sF;cases aj:gm o.hL with
   | false=>
    simp;exact aK rfl rfl
   | true=>
    have ch:((1000000000000:Int)<u o.cX)<->¬ o.cX.toNat<=1000000000000:=by unfold u; omega
    by_cases aF:o.cX.toNat<=1000000000000
    ·have z8:¬ ((1000000000000:Int)<u o.cX) :=fun h=>ch.1 h aF
     simp[aF,z8];refine a1 (akb o.act) rfl ?_;cases aU:j1 o.act with
     | false=>
      simp[gD];exact aK rfl rfl
     | true=>
      simp[gD];refine a1 (Fz o.e) rfl ?_;cases bt:ji o.e with
      | false=>
       simp;exact aK rfl rfl
      | true=>
       simp;refine a1 (Fz o.s) rfl ?_;cases c8:ji o.s with
       | false=>
        simp;exact aK rfl rfl
       | true=>
        simp;exact aK (by rw[if_pos aF]) rfl
    ·have z8:(1000000000000:Int)<u o.cX:=ch.2 aF;simp[aF,z8];exact aK rfl rfl
def opHead (o:bq) :List B:=111#8::eJ o.hL.toNat
def kN (o:bq) :List B:=
 opHead o++rN o.bp.l++eJ o.cX.toNat++[o.act.kind]++(if o.act.kind=1#8 then [] else i9 (fr o.act.key))++(if o.act.kind=4#8 then ja o.act.val else [])
theorem DL {l:List (List B)} (h:∀ x∈l,x.length=32) :(rN l).length<=9+l.length*32:=by
 have:=h9 l.length;have ad:=LX h;unfold rN;rw[at4];omega
theorem Bp (s:List B) :(i9 s).length<=9+s.length:=by
 have:=h9 s.length;unfold i9;rw[at4];omega
theorem EC (v:hK) :(ja v).length<=20+v.text.length:=by
 have h1:=h9 (nb v.num).toNat
 have ad:=Bp (fr v.text);have aj:=qK v.text;unfold ja;simp only[auf];split
 ·omega
 ·split
  ·simp[oQ]; omega
  ·omega
theorem Xt (o:bq) (ap:ko o) (qj:o.bp.l.length<=1000) {l:ao} {K:U->ao->Prop} (aV:∀ w l',cn 1 cc l l' w (kN o) false->K w l') :
  cY Tryz.prog GS 122 [.aJ (bd o)] l (c:=⟨K⟩) :=by
 apply bm Tryz.func122 [[[0],[1],[2],[5],[6],[3,6],[4,6]]];have az:cK=140737488355328:=rfl;have aE:=uZ l (.cells 11 (bd o)) 111#8;have Lf:=h9 o.hL.toNat
 have sR:=h9 o.cX.toNat
 have gy:=DL ap.ids;have LH:(BitVec.setWidth 64 o.hL).toNat=o.hL.toNat:=by rw[aub]; exact at7 (by have:=o.hL.isLt; omega)
 have aN:l.length<(l++[a2.cells 11 (bd o)]).length:=by simp
 have fI:(l++[a2.cells 11 (bd o)])[l.length]? = some (.cells 11 (bd o)) :=by simp
 simp[bd];refine w3 _ fun b1 l1 h1=>?_
 rw[LH] at h1;obtain⟨w2,bX,a6,dB,_⟩:=(aE.frame h1.le h1.same).app (by_:=1) (x:=b1) (xs:=eJ o.hL.toNat) h1.contents (by simp[cc]) (by omega) (by omega) (by rw[az]; simp only[auf,auy]; omega);have sS:bX[l.length]? = some (.cells 11 (bd o)) :=by rw[dB.same _ aN]; exact fI
 have ql:l.length<bX.length:=by have:=dB.le; omega
 have ry:=sS;simp[bd] at ry;simp[a6];refine dT.cy ?_;simp[ry];refine ajJ o.bp ap.ids qj fun ei fe aj=>?_
 obtain⟨n0,kK,a4,l3,_⟩:=(dB.frame aj.le aj.same).app (by_:=1) (x:=ei) (xs:=rN o.bp.l) aj.contents (by simp[cc]) (by omega) (by omega) (by rw[az]; simp only[at4,auf,auy]; omega);have cT:fe[l.length]? = some (.cells 11 (bd o)) :=by rw[aj.same _ ql]; exact sS
 have Gz:kK[l.length]? = some (.cells 11 (bd o)) :=by rw[l3.same _ aN]; exact fI
 have afA:l.length<kK.length:=by have:=l3.le; omega
 have ww:=cT;have Av:=Gz;simp[bd] at ww Av;simp[ww,a4];refine dT.cy ?_;simp[Av];refine w3 _ fun qS Mp aU=>?_
 obtain⟨atP,VW,xB,EZ,_⟩:=(l3.frame aU.le aU.same).app (by_:=1) (x:=qS) (xs:=eJ o.cX.toNat) aU.contents (by simp[cc]) (by omega) (by omega) (by rw[az]; simp only[at4,auf,auy]; omega);have af2:VW[l.length]? = some (.cells 11 (bd o)) :=by rw[EZ.same _ aN]; exact fI
 have UP:=af2;simp[bd] at UP;obtain⟨EF,VX,Z0,tS⟩:=cn.push EZ o.act.kind (by simp only[at4,auf,auy]; omega);have af3:VX[l.length]? = some (.cells 11 (bd o)) :=by rw[tS.same _ aN]; exact fI
 have aqa:l.length<VX.length:=by have:=tS.le; omega
 have Lq:=af3;simp[bd] at Lq;simp[xB];refine dT.cy ?_;simp[UP,Z0];refine dT.cy ?_;obtain⟨M,ny⟩:∃ M,M=[111#8]++eJ o.hL.toNat++rN o.bp.l++eJ o.cX.toNat++[o.act.kind] :=⟨_,rfl⟩
 have adS:M.length<=40000:=by rw[ny]; simp only[at4,auf,auy]; omega
 rw[<-ny] at tS;have ce:kN o=M++(if o.act.kind=1#8 then [] else i9 (fr o.act.key))++(if o.act.kind=4#8 then ja o.act.val else []) :=by rw[ny]; rfl
 have lL:=Bp (fr o.act.key);rw[qK] at lL;have Aq:=ap.key;have ju:=EC o.act.val;have agI:=ap.val.2.2;have ah:vU (.str o.act.key)=some (.bR 1 ((fr o.act.key).map cc)) :=by
  show some (U.bR 1 (o.act.key.map fun b=>[jf b]))=_;rw[Ib]
 by_cases cW:o.act.kind=1#8
 ·have aQ:(u o.act.kind:Int)=1:=(iv o.act.kind).2 cW;have iR:¬ o.act.kind=4#8:=by rw[cW]; decide
  rw[if_pos cW,if_neg iR,auu,auu] at ce;simp[Lq,aQ];exact aV _ _ (by rw[ce]; exact tS.base (by simp) fun b ag=>atV ag)
 ·have aQ:¬ (u o.act.kind:Int)=1:=fun h=>cW ((iv o.act.kind).1 h)
  rw[if_neg cW] at ce;simp[Lq,aQ,ah];refine Xu (some (fr o.act.key)) (by simpa [qK] using Aq) (by simp[dM]) (by simp) (fun l' _ _=>by simp[dM]) fun Io lQ ed=>?_
  obtain⟨amG,Mq,a9,vz,_⟩:=(tS.frame ed.le ed.same).app (by_:=1) (x:=Io) (xs:=i9 (fr o.act.key)) ed.contents (by simp[cc]) (by omega) (by omega) (by rw[az]; omega);have Lr:Mq[l.length]? = some (.cells 11 (bd o)) :=by rw[vz.same _ aN]; exact fI
  have yy:=Lr;simp[bd] at yy;simp[a9];refine dT.cy ?_;simp only[auV] at vz;by_cases iR:o.act.kind=4#8
  ·have kt:(u o.act.kind:Int)=4:=(xk o.act.kind).2 iR;rw[if_pos iR] at ce;simp[yy,kt];refine ajY o.act.val ap.val fun Ot ahU mc=>?_
   obtain⟨amF,ahV,IL,I1,_⟩:=(vz.frame mc.le mc.same).app (by_:=1) (x:=Ot) (xs:=ja o.act.val) mc.contents (by simp[cc]) (by omega) (by omega) (by rw[az]; simp only[at4]; omega);simp[IL];refine dT.cy ?_;simp;exact aV _ _ (by rw[ce]; exact I1.base (by simp) fun b ag=>atV ag)
  ·have kt:¬ (u o.act.kind:Int)=4:=fun h=>iR ((xk o.act.kind).1 h)
   rw[if_neg iR,auu] at ce;simp[yy,kt];exact aV _ _ (by rw[ce]; exact vz.base (by simp) fun b ag=>atV ag)
def ir (o:bq) :List B:=kN o++eJ o.e.toNat++eJ o.s.toNat
theorem WB (o:bq) (ap:ko o) (qj:o.bp.l.length<=1000) :(kN o).length<=100000:=by
 have h1:=h9 o.hL.toNat
 have ad:=h9 o.cX.toNat
 have aj:=DL ap.ids;have aF:=Bp (fr o.act.key);rw[qK] at aF;have aU:=ap.key;have bt:=EC o.act.val;have c8:=ap.val.2.2;have aM:(if o.act.kind=1#8 then [] else i9 (fr o.act.key)).length<=10009:=by split<;>(try simp) ; omega
 have aT:(if o.act.kind=4#8 then ja o.act.val else []).length<=10020:=by split<;>(try simp) ; omega
 unfold kN opHead;simp only[at4,auf,auy];omega
theorem ajB (o:bq) (ap:ko o) (qj:o.bp.l.length<=1000) {l:ao} {K:U->ao->Prop} (aV:∀ w l',cn 1 cc l l' w (ir o) false->K w l') :
  cY Tryz.prog GS 78 [.aJ (bd o)] l (c:=⟨K⟩) :=by
 apply bm Tryz.func78 [[[0],[2],[3],[4],[5],[8],[9],[10],[11],[1,11,10,5,4],[6,11,10],[7,11,10]]];have az:cK=140737488355328:=rfl;have bz:=h9 o.e.toNat
 have sR:=h9 o.s.toNat
 have lL:=WB o ap qj;have hN:(BitVec.setWidth 64 o.e).toNat=o.e.toNat:=by rw[aub]; exact at7 (by have:=o.e.isLt; omega)
 have rA:(BitVec.setWidth 64 o.s).toNat=o.s.toNat:=by rw[aub]; exact at7 (by have:=o.s.isLt; omega)
 have aN:l.length<(l++[a2.cells 11 (bd o)]).length:=by simp
 have fI:(l++[a2.cells 11 (bd o)])[l.length]? = some (.cells 11 (bd o)) :=by simp
 simp[bd];refine Xt o ap qj fun b1 l1 h1=>?_
 have qr:l1[l.length]? = some (.cells 11 (bd o)) :=by rw[h1.same _ aN]; exact fI
 have qk:l.length<l1.length:=by have:=h1.le; simp at this; omega
 have yw:=qr;simp[bd] at yw;simp[yw];refine w3 _ fun w2 bX ad=>?_
 rw[hN] at ad;obtain⟨ei,fe,a3,gg,_⟩:=(h1.frame ad.le ad.same).app (by_:=1) (x:=w2) (xs:=eJ o.e.toNat) ad.contents (by simp[cc]) (by omega) (by omega) (by rw[az]; omega);have sS:bX[l.length]? = some (.cells 11 (bd o)) :=by rw[ad.same _ qk]; exact qr
 have cT:fe[l.length]? = some (.cells 11 (bd o)) :=by rw[gg.same _ aN]; exact fI
 have ry:=sS;have ww:=cT;simp[bd] at ry ww;simp[ry,a3];refine dT.cy ?_;simp[ww];refine w3 _ fun n0 kK aF=>?_
 rw[rA] at aF;obtain⟨qS,Mp,a5,tR,_⟩:=(gg.frame aF.le aF.same).app (by_:=1) (x:=n0) (xs:=eJ o.s.toNat) aF.contents (by simp[cc]) (by omega) (by omega) (by rw[az]; simp only[at4]; omega);simp[a5];refine dT.cy ?_;simp;exact aV _ _ (tR.base (by simp) fun b ag=>atV ag)
theorem ajK (o:bq) (ap:ko o) (qj:o.bp.l.length<=1000) :bw Tryz.prog GS 33 [.aJ (bd o)] (fz (ic (ir o))) :=by
 refine bK Tryz.checked.mixed bB ?_;apply bm Tryz.func33 [];have bz:=h9 o.e.toNat
 have sR:=h9 o.s.toNat
 have lL:=WB o ap qj;have ec:(ic (ir o)).length=32:=va _;simp[bd];refine ajB o ap qj fun b1 l1 h1=>?_
 have fI:l1[1]? = some (.cells 32 (rep 32 (.int .u8 0))) :=by rw[h1.same 1 (by simp)]; rfl
 simp;refine ia (Nh (some (ir o)) (by simp[ir]; omega)) (.cons (h1.rZ (fun _=>rfl) (some (ir o)) rfl rfl) .nil) (by simp[U.flat,l7,fz,zX bC (fun _=>rfl)]) ?_;have uE:bu (rep 32 (.int .u8 0)) 0 ((ic (ir o)).map bC)=(ic (ir o)).map bC:=fi (by rw[auh,ec]; rfl);have mn:(l1.set 1 (a2.cells 32 ((ic (ir o)).map bC)))[1]? = some (.cells 32 ((ic (ir o)).map bC)) :=at9 (e1 fI);simp[fI,fz,ec,uE,mn,atT];exact aK rfl (by simp[U.closed,lr bC (fun _=>rfl)])
theorem BT:∀ a b:List B,a.length=b.length->fu (a.map bC) (b.map bC)=decide (a=b)
 | [],[],_=>rfl
 | [],_::_,h=>by simp at h
 | _::_,[],h=>by simp at h
 | x::a,y::b,h=>by
  have aI:=BT a b (by simpa using h);simp only[aus,fu,aI,U.beq,decide_true,auQ];by_cases h1:x=y
  ·by_cases ad:a=b<;>simp[h1,ad]
  ·have:¬ u x=u y:=fun h=>h1 ((r4 x y).1 h)
   simp[h1]
theorem y0:∀ a:List B,hT (List.replicate a.length (.i .u8)) (a.map bC)=true
 | []=>rfl
 | x::a=>by
  rw[auf,auY,aus];simp only[hT,y0 a,Ew,decide_true,avP]
theorem VT:rL Tryz.prog 20 48=some (List.replicate 32 (.i .u8)) :=by kernel_rfl
theorem G4 {a b:List B} (ax:a.length=32) (ag:b.length=32) :gv Tryz.prog .eql 48 (.aJ (aS a)) (.aJ (aS b))=some (.bool (decide (a=b))) :=by
 unfold aS;rw[I6 VT (by kernel_rfl) (by kernel_rfl) (by have:=y0 a; rwa [ax] at this) (by have:=y0 b; rwa [ag] at this),BT a b (by omega)]
theorem Dt {a b:List B} (ax:a.length=32) (ag:b.length=32) :gv Tryz.prog .neq 48 (.aJ (aS a)) (.aJ (aS b))=some (.bool (!decide (a=b))) :=by
 unfold aS;rw[E4 VT (by kernel_rfl) (by kernel_rfl) (by have:=y0 a; rwa [ax] at this) (by have:=y0 b; rwa [ag] at this),BT a b (by omega)]
theorem aiC (s:ez) :gv Tryz.prog .eql 22 (cI 32 aS s) .aW=some (.bool s.isNone) :=E3 (e:=48) (by kernel_rfl) 32 aS s
theorem aiP (l:ao) :cn 32 aS l (l++[.cells 0 []]) (.au 32 l.length 0 0 0 0) ([] :List (List B)) false:=
 ⟨l.length,.au l.length 0 0 0 [] [] (by simp) rfl rfl (by simp) (atW _) (by omega) rfl,by simp,fun b ag=>atV ag,.inr (atW _),rfl⟩
theorem Vq (s:ez) (ap:fU s) (ak:s.l.length<=1000000) {l:ao} {K:U->ao->Prop} (aV:∀ v l',cn 32 aS l l' v s.l s.isNone->K v l') :
  cY Tryz.prog GS 165 [aR s] l (c:=⟨K⟩) :=by
 apply bm Tryz.func165 [];have az:cK=140737488355328:=rfl;cases s with
 | none=>
  simp[aR];exact aV _ _ cn.nil
 | some a=>
  simp at ak;obtain⟨aY,l',aX,a6,_⟩:=(aiP l).app (by_:=32) (x:=cI 32 aS (some a)) (xs:=a) (zM _ 32 aS (some a)) (fun y aA=>cM (ap y aA)) (by omega) (by omega) (by rw[az]; simp; omega);simp[aR,aiC,aX];refine dT.cy ?_;simp;exact aV _ _ (by simpa using a6)
def pY (l:List (List B)) (m:Nat) :List (List B) :=(List.range m).flatMap fun k=>if k=0\/b2 l k≠b2 l (k - 1) then [b2 l k] else []
def sv (l:List (List B)) :List (List B) :=pY l l.length
theorem Cg (l:List (List B)) (m:Nat) :pY l (m+1)=pY l m++(if m=0\/b2 l m≠b2 l (m - 1) then [b2 l m] else []) :=by
 unfold pY; rw[avr,avD]; simp
theorem R1 (l:List (List B)) :∀ m,(pY l m).length<=m
 | 0=>by simp[pY]
 | m+1=>by
  have:=R1 l m;rw[Cg,at4];split<;>simp<;>omega
theorem Cf {l:List (List B)}:∀ {m},m<=l.length->(∀ k,1<=k->k<m->b2 l k≠b2 l (k - 1))->pY l m=l.take m
 | 0,_,_=>by simp[pY]
 | m+1,hm,h=>by
  rw[Cg,Cf (by omega) (fun k h1 ad=>h k h1 (by omega)),aud,if_pos (by
   by_cases aE:m=0
   ·exact .inl aE
   ·exact .inr (h m (by omega) (by omega)))]
  congr 1;unfold b2;rw[aug,atX (by omega)];rfl
theorem R2 {l:List (List B)} {k:Nat} (h1:1<=k) (am:b2 l k=b2 l (k - 1)) :∀ {m},k<m->(pY l m).length<m
 | 0,h=>by omega
 | m+1,h=>by
  rw[Cg,at4];by_cases hk:k=m
  ·subst hk;have:=R1 l k;rw[if_neg (fun h=>h.elim (fun aE=>by omega) (fun ad=>ad am))];simp; omega
  ·have:=R2 h1 am (m:=m) (by omega);split<;>simp<;>omega
theorem abK {l:List (List B)} (ak:zb l=true) :((sv l).length=l.length)<->dO l=true:=by
 unfold zb at ak;rw[decide_eq_true_eq] at ak;unfold dO sv;rw[decide_eq_true_eq];constructor
 ·intro h k hk h1;have ad:=ak k hk h1;have aj:b2 l k≠b2 l (k - 1) :=fun am=>by
   have:=R2 h1 am hk;omega
  have aF:=q5 (b2 l k) (b2 l (k - 1));have aU:cq (b2 l (k - 1)) (b2 l k)≠0:=fun aE=>aj (su aE).symm
  omega
 ·intro h;rw[Cf (atW _) (fun k h1 ad am=>by
   have:=h k ad h1;rw[<-am,oU] at this;omega),aun]
theorem G6 {a:List (List B)} {k:Nat} (h:k<a.length) :(a.map aS)[k]? = some (aS (b2 a k)) :=by
 rw[at0];unfold b2;rw[aug,atX h];rfl
theorem G3 {a:List (List B)} {k:Nat} (h:k<a.length) :b2 a k∈a:=by
 unfold b2;rw[aug,atX h];exact awo h
structure Zy (l:ao) (v:U) (xs:List (List B)) (k:Nat) (ae:a8) (l1:ao) :Prop where
 ca:ae 0=v
 a7:ae 3=.int .i64 ((k+1:Nat) :Int)
 al:l1=l
 ak:∀ j,1<=j->j<k+1->b2 xs j≠b2 xs (j - 1)
structure Zx (l:ao) (v dF:U) (j:Nat) (xs:List (List B)) (m i:Nat) (ae:a8) (bX:ao) :Prop where
 ca:ae 0=v
 bD:ae 4=dF
 bh:ae 5=.int .i64 ((i+1:Nat) :Int)
 ex:∃ (k:Nat) (bc:List (List B)),ae 3=.int .i64 (k:Int)/\bG 32 bX v j (bc.map aS)/\bc.length=xs.length/\(∀ y∈bc,y.length=32)/\bc.take k=pY xs (m+i+1)/\k<=m+i/\(∀ t,m+i<=t->b2 bc t=b2 xs t)/\bX.length=l.length/\∀ b,b≠j->bX[b]? = l[b]?
theorem abI {l:ao} {v:U} {j k:Nat} {bc:List (List B)} (h:bG 32 l v j (bc.map aS)) (hk:k<bc.length) :
  ∃ v3 fe r,gq (.au 32) v (some (.int .i64 (k:Int))) none none=some v3/\sr (rep 32 (.int .u8 0)) l v3=some fe/\gq (.au 32) v none (some (.int .i64 (k:Int))) none=some r ∧
   bG 32 fe r j ((bc.take k).map aS)/\cx r=false/\fe.length=l.length/\∀ b,b≠j->fe[b]? = l[b]?:=by
 generalize am:bc.map aS=es at h;cases h with
 | nil j=>rw[au6] at am; subst am; simp at hk
 | au j n cap sz cs es ag al aC aw ah c3 ci=>
  subst am;have sQ:bc.length=n:=by simpa using aC
  have gM:jJ (.int .i64 (k:Int)) n=some k:=by
   show (if 0<=(k:Int)/\(k:Int)<=(n:Int) then some (k:Int).toNat else none)=some k;rw[if_pos ⟨by omega,by omega⟩]; simp
  have fT:jJ (.int .i64 (k:Int)) cap=some k:=by
   show (if 0<=(k:Int)/\(k:Int)<=(cap:Int) then some (k:Int).toNat else none)=some k;rw[if_pos ⟨by omega,by omega⟩]; simp
  have dW:gK n cap (some (.int .i64 (k:Int))) none none=some (k,n,cap) :=by
   show (match jJ (.int .i64 (k:Int)) n with | none=>none | some l=>some (l,n,cap))=_;rw[gM]
  have dB:gK n cap none (some (.int .i64 (k:Int))) none=some (0,k,cap) :=by
   show (match jJ (.int .i64 (k:Int)) cap with | none=>none | some h=>some (0,h,cap))=_;rw[fT]
  have dh:¬ cap=k:=by omega
  have Ad:¬ cap=0:=by omega
  have eX:j<l.length:=e1 ag;have gb:k*32<=n*32:=at2 _ (by omega);have kf:n*32<=cap*32:=at2 _ ah;have lK:(dy (rep 32 (.int .u8 0)) (n - k)).length=(n - k)*32:=by rw[Bf]; rfl
  have afB:k*32+(n - k)*32=n*32:=by rw[<-auN]; congr 1; omega
  refine⟨.au 32 j (k*32) (n - k) (cap - k) sz,l.set j (.cells sz (bu cs (k*32) (dy (rep 32 (.int .u8 0)) (n - k)))),.au 32 j 0 k cap sz,?_,?_,?_,?_,rfl,by simp,fun b gN=>by rw[at5 (fun h=>gN h.symm)]⟩
  ·rw[za,dW]; simp[dh]
  ·unfold sr;simp only;rw[if_neg (by omega)];simp[ag]
  ·rw[za,dB]; simp[Ad]
  ·refine .au j k cap sz _ _ (at9 eX) (by rw[r3 (by omega),lK]; omega) (by simp; omega) (fun e am=>?_) (by omega) c3 ?_
   ·obtain⟨y,aA,rfl⟩:=auo.1 am;exact aw _ (avt (aur aA))
   ·unfold bu;rw[aut,auj (by rw[aue]; omega),avj,Nat.min_self];have aQ:cs.take (k*32)=(cs.take (n*32)).take (k*32) :=by rw[avj,ava gb]
    have bF:bc.map aS=(bc.take k).map aS++(bc.drop k).map aS:=by rw[<-auq,auz]
    have dn:((bc.take k).map aS).flatten.length=k*32:=by
     rw[l8 (z:=32) (fun e am=>by obtain⟨y,aA,rfl⟩:=auo.1 am; exact aw _ (avt (aur aA)))];simp; omega
    rw[aQ,ci,bF,auM,auj (by omega),atT (by omega)]
theorem WQ {bc:List (List B)} (aw:∀ y∈bc,y.length=32) (k:Nat) (hk:k<=bc.length) {n:Nat} (aC:bc.length=n) {cs:List U} (ci:cs.take (n*32)=(bc.map aS).flatten) (al:n*32<=cs.length) :
  cs.take (k*32)=((bc.take k).map aS).flatten/\(cs.drop (k*32)).take (n*32 - k*32)=((bc.drop k).map aS).flatten:=by
 have gb:k*32<=n*32:=at2 _ (by omega);have bF:bc.map aS=(bc.take k).map aS++(bc.drop k).map aS:=by rw[<-auq,auz]
 have dn:((bc.take k).map aS).flatten.length=k*32:=by
  rw[l8 (z:=32) (fun e am=>by obtain⟨y,aA,rfl⟩:=auo.1 am; exact cM (aw _ (aur aA)))];simp; omega
 have aQ:cs.take (k*32)=(cs.take (n*32)).take (k*32) :=by rw[avj,ava gb]
 constructor
 ·rw[aQ,ci,bF,auM,auj (by omega),atT (by omega)]
 ·rw[<-awi,ci,bF,auM,auH (by omega),au2 (by omega),auT]
theorem akS {l:ao} {v:U} {j k:Nat} {bc:List (List B)} {x:List B} (h:bG 32 l v j (bc.map aS)) (aw:∀ y∈bc,y.length=32) (hk:k<bc.length) (af:x.length=32) :
  ∃ p l',cg (.au 32) v (.int .i64 (k:Int))=some p/\km 32 l p (.aJ (aS x))=some l'/\bG 32 l' v j ((bc.set k x).map aS)/\l'.length=l.length/\∀ b,b≠j->l'[b]? = l[b]?:=by
 generalize am:bc.map aS=es at h;cases h with
 | nil j=>rw[au6] at am; subst am; simp at hk
 | au j n cap sz cs es ag al aC iY ah c3 ci=>
  subst am;have sQ:bc.length=n:=by simpa using aC
  have eX:j<l.length:=e1 ag;have bf:=cM af;have gb:(k+1)*32<=n*32:=at2 _ (by omega);have kf:n*32<=cap*32:=at2 _ ah;have ak:(k+1)*32=k*32+32:=by rw[auI]
  obtain⟨f1,_⟩:=WQ aw k (by omega) sQ ci (by omega);obtain⟨_,f2⟩:=WQ aw (k+1) (by omega) sQ ci (by omega);refine⟨.ptr j (k*32) sz,l.set j (.cells sz (bu cs (k*32) (aS x))),?_,?_,?_,by simp,fun b gN=>by rw[at5 (fun h=>gN h.symm)]⟩
  ·simp[cg]; omega
  ·unfold km;simp[ag,U.cells,bf];omega
  ·refine .au j n cap sz _ _ (at9 eX) (by rw[r3 (by omega),bf]; omega) (by simp; omega) (fun e am=>?_) ah c3 ?_
   ·obtain⟨y,aA,rfl⟩:=auo.1 am;rcases avl aA with h | h
    ·exact cM (aw _ h)
    ·rw[h]; exact bf
   ·have mn:bc.set k x=bc.take k++(x::bc.drop (k+1)) :=by rw[avw,if_pos hk]
    rw[mn,auq,aus,auM,auW,<-f1,<-f2];unfold bu;have t1:(cs.take (k*32)).length=k*32:=by rw[aue]; omega
    have iu:(cs.take (k*32)).take (n*32)=cs.take (k*32) :=atT (by rw[t1]; omega);have kn:(aS x).take (n*32 - k*32)=aS x:=atT (by rw[bf]; omega);rw[aut,bf,<-ak,avN,t1,iu,avN,kn,bf,show n*32 - k*32 - 32=n*32 - (k+1)*32 by omega]
theorem aby {eE l:ao} {v:U} {xs:List (List B)} {g2:Bool} (h:cn 32 aS eE l v xs g2) (af:∀ x∈xs,x.length=32) (aC:xs.length<=1000000) {K:U->ao->Prop} (aV:∀ r l',cn 32 aS eE l' r (sv xs) g2->K r l') :
  cY Tryz.prog GS 198 [v] l (c:=⟨K⟩) :=by
 apply bm Tryz.func198 [];have bl:=h.len;by_cases ad:xs.length<2
 ·have gE:(xs.length:Int)<2:=by omega
  have Ah:sv xs=xs:=by
   unfold sv;rw[Cf (atW _) (fun k h1 aj=>by omega),aun]
  simp[bl,gE];exact aV _ _ (by rw[Ah]; exact h)
 ·have gE:¬ (xs.length:Int)<2:=by omega
  simp[bl,gE];refine cF (xs.length - 1) (Zy l v xs) ?_ ⟨by simp,by simp,rfl,fun j h1 aj=>by omega⟩;rintro k ae l1 hk ⟨ca,a7,rfl,ak⟩;obtain⟨ae,rfl⟩:=pE ca a7;clear ca a7;obtain⟨m,hm⟩:∃ m,m=k+1:=⟨_,rfl⟩
  rw[<-hm] at ak ⊢;by_cases aN:m<xs.length
  ·have aQ:IntKind.i64.wrap ((m:Int) - 1)=(k:Int) :=by rw[IntKind.wrap_i64]; omega
   have bF:IntKind.i64.wrap ((m:Int)+1)=((m+1:Nat) :Int) :=by rw[IntKind.wrap_i64]; omega
   have iX:(m:Int)<(xs.length:Int) :=by omega
   obtain⟨j,ap,lE⟩:=h;obtain⟨oy,cW,A0,aX,a6,a3,a4⟩:=ap.q.get (k:=.i64) (G6 aN);obtain⟨wX,dv,po,dW,dB,gg,l3⟩:=ap.q.get (k:=.i64) (G6 (a:=xs) (k:=k) (by omega));have fm:=G4 (af _ (G3 aN)) (af _ (G3 (a:=xs) (k:=k) (by omega)));obtain⟨X,cQ⟩:∃ X,X=b2 xs m:=⟨_,rfl⟩
   obtain⟨Y,ef⟩:∃ Y,Y=b2 xs k:=⟨_,rfl⟩
   rw[<-cQ] at a4 fm;rw[<-ef] at l3 fm;by_cases am:X=Y
   ·have uw:gv Tryz.prog .eql 48 (.aJ (aS X)) (.aJ (aS Y))=some (.bool true) :=by rw[fm,decide_eq_true am]
    have aq:cx v=false:=by
     cases wv:cx v with
     | false=>rfl
     | true=>
      have:=i2.1 wv;subst this;have:=ap.q.tc;rw[au6] at this;rw[this] at aN; simp at aN
    obtain⟨dF,dE,g9,_⟩:=ap.q.from aq (k:=.i64) (i:=m) (by simp; omega);have aE:pY xs m=xs.take m:=Cf (by omega) ak;have h1:pY xs (m+1)=xs.take m:=by rw[Cg,if_neg (fun h=>h.elim (fun aE=>by omega) (fun ad=>ad (by rw[<-cQ,show m - 1=k by omega,<-ef]; exact am))),aE,auu]
    simp[bl,iX,aQ,aX,a6,a3,a4,dW,dB,gg,l3,uw,dE];refine cF (xs.length - m - 1) (Zx l1 v dF j xs m) ?_ ⟨by simp,by simp,by simp,m,xs,by simp,ap,rfl,af,h1.symm,by omega,fun t _=>rfl,rfl,fun b _=>rfl⟩;rintro i ae bX av ⟨ca,bD,bh,q,bc,a7,aZ,b8,uI,iG,uA,pj,C5,kz⟩;obtain⟨ae,rfl⟩:=iw ca a7 bD bh;clear ca a7 bD bh;obtain⟨ej,ae6⟩:∃ ej,ej=i+1:=⟨_,rfl⟩
    rw[<-ae6];obtain⟨atM,X4,NG,_⟩:=aZ.q.from aq (k:=.i64) (i:=m) (by simp; omega);rw[dE] at X4;obtain rfl:=Option.some.inj X4;have g0:=NG.len;rw[au4,auh,b8] at g0;by_cases ql:ej<xs.length - m
    ·have Gv:(ej:Int)<((xs.length - m:Nat) :Int) :=by omega
     have b1:IntKind.i64.wrap ((ej:Int) - 1)=(i:Int) :=by rw[IntKind.wrap_i64]; omega
     have w2:IntKind.i64.wrap ((ej:Int)+1)=((ej+1:Nat) :Int) :=by rw[IntKind.wrap_i64]; omega
     have ei:IntKind.i64.wrap ((q:Int)+1)=((q+1:Nat) :Int) :=by rw[IntKind.wrap_i64]; omega
     obtain⟨WM,j3,rV,jH,lm,Bx,qT⟩:=NG.get (k:=.i64) (i:=ej) (e:=aS (b2 bc (m+ej))) (by rw[auC]; exact G6 (by omega));obtain⟨asR,iR,uY,ln,m9,zn,OD⟩:=NG.get (k:=.i64) (i:=i) (e:=aS (b2 bc (m+i))) (by rw[auC]; exact G6 (by omega));have uJ:=uI _ (G3 (a:=bc) (k:=m+ej) (by omega));have iY:=uI _ (G3 (a:=bc) (k:=m+i) (by omega));have bz:=Dt uJ iY;have pi:=pj (m+ej) (by omega);have uC:=pj (m+i) (by omega);have bH:=Cg xs (m+ej);rw[show m+ej - 1=m+i by omega] at bH;obtain⟨xA,ad2⟩:∃ X,X=b2 bc (m+ej) :=⟨_,rfl⟩
     obtain⟨IK,Kx⟩:∃ Y,Y=b2 bc (m+i) :=⟨_,rfl⟩
     rw[<-ad2] at qT bz uJ pi;rw[<-Kx] at OD bz uC;rw[<-pi,<-uC] at bH;rw[show m+i+1=m+ej by omega] at iG;by_cases mO:xA=IK
     ·have ys:gv Tryz.prog .neq 48 (.aJ (aS xA)) (.aJ (aS IK))=some (.bool false) :=by rw[bz]; simp[mO]
      rw[if_neg (fun h=>h.elim (fun aE=>by omega) (fun ad=>ad mO)),auu] at bH;simp[g0,Gv,b1,jH,lm,Bx,qT,ln,m9,zn,OD,ys,w2];exact⟨by omega,by simp,by simp,by simp,q,bc,by simp,aZ,b8,uI,by rw[bH]; exact iG,by omega,fun t aH=>pj t (by omega),C5,kz⟩
     ·have ys:gv Tryz.prog .neq 48 (.aJ (aS xA)) (.aJ (aS IK))=some (.bool true) :=by rw[bz]; simp[mO]
      rw[if_pos (.inr mO)] at bH;obtain⟨WN,fe,na,ix,z3,z4,z5⟩:=akS aZ uI (k:=q) (x:=xA) (by omega) uJ;simp[g0,Gv,b1,jH,lm,Bx,qT,ln,m9,zn,OD,ys,w2,ei,na,ix];have Oc:(bc.take q).length=q:=by rw[aue]; omega
      have rC:(bc.set q xA).take (q+1)=bc.take q++[xA] :=by
       rw[avw,if_pos (by omega),avN,Oc,atT (by omega),show q+1 - q=1 by omega]; simp
      refine⟨by omega,by simp,by simp,by simp,q+1,bc.set q xA,by simp,z3,by simp[b8],fun y aA=>?_,by rw[rC,bH,iG],by omega,fun t aH=>?_,by omega,fun b ag=>(z5 b ag).trans (kz b ag)⟩
      ·rcases avl aA with h | h
       ·exact uI _ h
       ·rw[h]; exact uJ
      ·have:=pj t (by omega);unfold b2 at this ⊢;rw[aug,at5 (by omega),<-aug];exact this
    ·have Gv:¬ (ej:Int)<((xs.length - m:Nat) :Int) :=by omega
     obtain⟨v3,fe,r,na,ix,z3,z4,z5,anq,OE⟩:=abI aZ (k:=q) (by omega);simp[g0,Gv,na,ix,z3];obtain⟨aM,aT,a7,bD⟩:=lE;have KY:eE.length<=j:=a7.resolve_left (fun h=>by rw[h] at aq; cases aq);have KO:m+i+1=xs.length:=by omega
     rw[KO] at iG;refine aV _ _ ⟨j,by unfold sv; rw[<-iG]; exact z4,by omega,fun b ag=>?_,.inr KY,by rw[z5,<-bD,aq]⟩;rw[OE b (by omega),kz b (by omega)];exact aT b ag
   ·have uw:gv Tryz.prog .eql 48 (.aJ (aS X)) (.aJ (aS Y))=some (.bool false) :=by rw[fm,decide_eq_false am]
    simp[bl,iX,aQ,aX,a6,a3,a4,dW,dB,gg,l3,uw,bF];refine⟨by omega,by simp,by simp[hm],rfl,fun t h1 ad=>?_⟩;by_cases aH:t=m
    ·rw[aH,<-cQ,show m - 1=k by omega,<-ef]; exact am
    ·exact ak t h1 (by omega)
  ·have iX:¬ (m:Int)<(xs.length:Int) :=by omega
   have Ah:sv xs=xs:=by
    unfold sv;rw[Cf (atW _) (fun k h1 aj=>ak k h1 (by omega)),aun]
   simp[bl,iX];exact aV _ _ (by rw[Ah]; exact h)
theorem aks {l:List (List B)} (h:dO l=true) :zb l=true:=by
 unfold dO at h;rw[decide_eq_true_eq] at h;exact Yk fun k hk h1=>by
  have:=h k hk h1;have aF:=q5 (b2 l k) (b2 l (k - 1));omega
theorem Ip (o:bq) (ap:ko o) :bw Tryz.prog GS 146 [.aJ (bd o)] (.int .i64 (fA o)) :=by
 refine bK Tryz.checked.mixed bB ?_;apply bm Tryz.func146 [[[0],[1],[2],[3],[4],[5],[6],[10],[11],[12],[7,11],[8,11],[9]]];unfold fA;have eb:=e5 o.bp;have bl:cz (.au 32) (aR o.bp)=some (.int .i64 o.bp.l.length) :=by simp[aR]
 have jl:(aR o.bp).cells=some [aR o.bp] :=by cases o.bp<;>rfl
 by_cases h1:4<o.bp.l.length
 ·have cN:(4:Int)<(o.bp.l.length:Int) :=by omega
  rw[if_pos h1];simp[bd,bl,cN];exact aK rfl rfl
 ·have cN:¬ (4:Int)<(o.bp.l.length:Int) :=by omega
  rw[if_neg h1];simp[bd,bl,cN];refine a1 (aht o.bp ap.ids ap.len) (by simp[bg,eb,U.closed]) ?_;cases ad:zb o.bp.l with
  | false=>
   have aj:dO o.bp.l=false:=by
    cases aj:dO o.bp.l with
    | false=>rfl
    | true=>rw[aks aj] at ad; cases ad
   simp[aj,bl];exact aK rfl rfl
  | true=>
   simp[bl];refine Vq o.bp ap.ids ap.len fun e8 l1 aM=>?_
   have aed:l1[0]? = some (.cells 11 (bd o)) :=by rw[aM.same 0 (by simp)]; rfl
   have TG:=aed;simp[bd] at TG;simp[TG];refine aby aM ap.ids ap.len fun dF bX aT=>?_
   have fI:bX[0]? = some (.cells 11 (bd o)) :=by rw[aT.same 0 (by simp)]; rfl
   have Ac:=fI;simp[bd] at Ac;have g0:=aT.len;have Ah:=abK ad;cases aj:dO o.bp.l with
   | false=>
    have bz:¬ ((sv o.bp.l).length:Int)=(o.bp.l.length:Int) :=fun h=>by
     have:=Ah.1 (by omega);rw[aj] at this; cases this
    simp[g0,Ac,bl,bz];exact aK rfl rfl
   | true=>
    have heq:((sv o.bp.l).length:Int)=(o.bp.l.length:Int) :=by have:=Ah.2 aj; omega
    simp[g0,Ac,bl,heq];refine a1 (Mc o.hL) rfl ?_;unfold sF;cases aU:gm o.hL with
    | false=>
     simp;exact aK rfl rfl
    | true=>
     have ch:((1000000000000:Int)<u o.cX)<->¬ o.cX.toNat<=1000000000000:=by unfold u; omega
     by_cases bt:o.cX.toNat<=1000000000000
     ·have wa:¬ ((1000000000000:Int)<u o.cX) :=fun h=>ch.1 h bt
      have yq:((500000003:Int)<=max (u o.e:Int) (u o.s))<->¬ (ji o.e&&ji o.s)=true:=by
       unfold ji u;simp only[atY,decide_eq_true_eq];omega
      have UA:uU (bA o.e) (bA o.s)=some (.int .u32 (max (u o.e:Int) (u o.s))) :=by
       show (if IntKind.u32=IntKind.u32 then some (U.int .u32 (if (u o.e:Int)<u o.s then u o.s else u o.e)) else none)=_;rw[if_pos rfl];congr 2;split<;>omega
      cases c8:(ji o.e&&ji o.s) with
      | false=>
       have nw:(500000003:Int)<=max (u o.e:Int) (u o.s) :=yq.2 (by rw[c8]; simp);simp[Ac,bt,wa,UA,nw];exact aK rfl rfl
      | true=>
       have nw:¬ (500000003:Int)<=max (u o.e:Int) (u o.s) :=fun h=>(yq.1 h) c8
       simp[Ac,bt,wa,UA,nw];refine a1 (Jo o.act) rfl ?_;cases ed:j1 o.act with
       | false=>
        simp[gD];exact aK rfl rfl
       | true=>
        simp[gD];exact aK (by rw[if_pos bt]) rfl
     ·have wa:(1000000000000:Int)<u o.cX:=ch.2 bt;simp[Ac,bt,wa];exact aK rfl rfl
theorem akI (a b:ez) (ax:fU a) (ag:fU b) (al:a.l.length<=1000000) :bw Tryz.prog GS 37 [aR a,aR b] (.bool (decide (a.l=b.l))) :=by
 refine bK Tryz.checked.mixed bB ?_;apply bm Tryz.func37 [];simp[aR];by_cases h1:a.l.length=b.l.length
 ·have cN:((a.l.length:Int)=b.l.length) :=by omega
  simp[h1];refine cF a.l.length (fun k ae l=>ae 0=cI 32 aS a/\ae 1=cI 32 aS b/\ae 5=.int .i64 k/\∀ j,j<k->a.l[j]? = b.l[j]?) ?_ (by simp[aR]);rintro k ae l hk ⟨ca,aM,bh,ak⟩;obtain⟨s,rfl⟩:=kQ ca aM bh;clear ca aM bh;simp;refine ip (fun h=>?_) (fun h=>?_)
  ·simp only[decide_eq_true_eq] at h;obtain⟨x,af,cC⟩:=bx h;obtain⟨y,aA,cm⟩:=bx (l:=b.l) (k:=k) (by omega);have aQ:IntKind.i64.wrap ((k:Int)+1)=((k+1:Nat) :Int) :=by rw[IntKind.wrap_i64]; omega
   simp[af,aA,cM (ax x cC),cM (ag y cm),atT,Dt (ax x cC) (ag y cm)];by_cases am:x=y
   ·simp[am,aQ];refine⟨by omega,fun j ai=>?_⟩;by_cases fk:j=k
    ·subst fk; rw[af,aA,am]
    ·exact ak j (by omega)
   ·simp[am];refine aK (congrArg U.bool (decide_eq_false fun eg=>am ?_).symm) rfl;rw[eg,aA] at af; exact (Option.some.inj af).symm
  ·simp[h];have hj:k=a.l.length:=by simp at h; omega
   refine aK (congrArg U.bool (decide_eq_true ?_).symm) rfl;apply auD;intro j;by_cases ai:j<a.l.length
   ·exact ak j (by omega)
   ·rw[at6 (by omega),at6 (by omega)]
 ·have cN:¬ ((a.l.length:Int)=b.l.length) :=by omega
  simp[h1,cN];exact aK (by rw[decide_eq_false (fun eg=>h1 (by rw[eg]))]) rfl
def dZ (o:bq) :List B:=if fA o=0 then ic (ir o) else List.replicate 32 0#8
theorem A4 {o:bq} (h:fA o=0) :o.bp.l.length<=4:=by
 unfold fA at h;split at h
 ·cases h
 ·omega
theorem Eh {l:ao} {b n:Nat} {ha:List U} {k:Nat} {w:U} {kd:IntKind} (ag:l[b]? = some (.cells n ha)) (aC:ha.length=n) (hk:ha[k]? = some w) :
  ∃ p cs o,cg (.au 1) (.au 1 b 0 n n n) (.int kd (k:Int))=some p/\eM l p=some (cs,o)/\cs[o]? = some w:=by
 have aN:k<n:=by rw[<-aC]; exact (atU.1 hk).1
 refine⟨.ptr b (0+k*1) n,ha,0+k*1,?_,?_,by simpa using hk⟩
 ·simp only[cg,au0];rw[if_pos ⟨trivial,by omega,by omega⟩]
 ·simp only[eM,ag,if_true]
theorem adt {n:Nat} (aC:n<=1000000000) {l:ao} {K:U->ao->Prop} (aV:∀ v l',cn 1 cc l l' v ([] :List B) (decide (n=0))->K v l') :cY Tryz.prog GS 235 [.aW,.int .i64 n] l (c:=⟨K⟩) :=by
 apply bm Tryz.func235 [];have h1:¬((n:Int)<0) :=by omega
 have hw:IntKind.i64.wrap (n:Int)=n:=wrap_i64 (by omega) (by omega);have LQ:IntKind.i64.wrap (0:Int)=0:=rfl;by_cases aE:n=0
 ·subst aE;simp;exact aV _ _ cn.nil
 have ad:(0:Int)<n:=by omega
 have aw:q3 l 1 1 [.int .u8 0] .aW (.int .i64 n)=some (.au 1 l.length 0 n n (n*1),l++[.cells (n*1) (dy [.int .u8 0] n)]) :=by
  unfold q3 iB;simp only[au0];have az:cK=140737488355328:=rfl;rw[if_pos ⟨by omega,by omega,by rw[az]; omega⟩,if_neg aE,if_neg (by omega),if_pos (by rw[az]; omega)]
 have ak:gq (.au 1) (.au 1 l.length 0 n n (n*1)) none (some (.int .i64 0)) none=some (.au 1 l.length 0 0 n (n*1)) :=by
  rw[za,Ja,if_pos ⟨by omega,by omega⟩];simp[aE]
 rw[avo] at aw ak;have aj:0<n:=by omega
 simp[h1,ad,aj,hw,aw,LQ,ak];refine aV _ (l++[.cells n (dy [.int .u8 0] n)]) ⟨l.length,.au _ 0 n n (dy [.int .u8 0] n) [] (by simp) (by rw[Bf]; simp) rfl (by simp) (by omega) (by omega) rfl,by simp,fun b ag=>atV ag,.inr (atW _),?_⟩;simp[cx,aE]
def iT (bs:List (List B)) :List B:=bs.flatten
theorem Sz {bs:List (List B)} {k:Nat} {s:List B} (h:bs[k]? = some s) :iT (bs.take (k+1))=iT (bs.take k)++s:=by
 unfold iT;rw[aud,h]; simp
theorem Sy (bs:List (List B)) (k:Nat) :(iT (bs.take k)).length<=(iT bs).length:=by
 conv=>rhs; rw[<-auz k bs]
 unfold iT;rw[auM,at4];omega
structure nh (l:ao) (w:U) (s:List B) :Prop where
 len:cz (.au 1) w=some (.int .i64 s.length)
 RX:∀ l',l.length<=l'.length->(∀ b,b<l.length->l'[b]? = l[b]?)->dM l' 1 w=some ((s.map cc).flatten,s.length)
theorem A1 {l l1:ao} {w:U} {s:List B} {g2:Bool} (h:cn 1 cc l l1 w s g2) :nh l1 w s:=⟨h.len,fun l' h1 ad=>(h.frame h1 ad).contents⟩
theorem nh.frame {l l1:ao} {w:U} {s:List B} (h:nh l w s) (al:l.length<=l1.length) (ak:∀ b,b<l.length->l1[b]? = l[b]?) :nh l1 w s:=
 ⟨h.len,fun l' h1 ad=>h.RX l' (by omega) fun b ag=>by rw[ad b (by omega)]; exact ak b ag⟩
theorem WR {l:ao} {b:Nat} {x:B} (h:l[b]? = some (.cells 1 [bC x])) :nh l (.au 1 b 0 1 1 1) [x] :=by
 have:=e1 h;exact⟨rfl,fun l' h1 ad=>by have:=ad b this; rw[h] at this; simp[dM,this,cc]⟩
structure Zw (l:ao) (X:U) (bs:List (List B)) (k:Nat) (ae:a8) (l1:ao) :Prop where
 ku:ae 25=X
 ma:ae 26=.int .i64 bs.length
 sD:ae 27=.int .i64 k
 td:∃ v,ae 6=v/\cn 1 cc l l1 v (iT (bs.take k)) (decide ((iT bs).length=0))
set_option maxHeartbeats 4000000 in
theorem RY {l:ao} {b n:Nat} {ha:List U} {bs:List (List B)} (ag:l[b]? = some (.cells n ha)) (agM:ha.length=n) (o4:bs.length=n)
  (ay:∀ (k:Nat) (w:U) (s:List B),ha[k]? = some w->bs[k]? = some s->nh l w s) (al:(iT bs).length<=1000000000) (C5:n<=1000000000)
  {K:U->ao->Prop} (aV:∀ v l',cn 1 cc l l' v (iT bs) (decide ((iT bs).length=0))->K v l') :
  cY Tryz.prog GS 194 [.au 1 b 0 n n n] l (c:=⟨K⟩) :=by
 apply bm Tryz.func194 [];have jp:=e1 ag;have cQ:∀ l',l.length<=l'.length->(∀ b,b<l.length->l'[b]? = l[b]?)->∀ k,k<n->∃ w s p cs o,ha[k]? = some w/\bs[k]? = some s/\nh l' w s/\cg (.au 1) (.au 1 b 0 n n n) (.int .i64 (k:Int))=some p/\eM l' p=some (cs,o)/\cs[o]? = some w:=by
  intro l' h1 ad k hk;obtain⟨w,hw,_⟩:=bx (l:=ha) (k:=k) (by omega);obtain⟨s,ak,_⟩:=bx (l:=bs) (k:=k) (by omega);obtain⟨p,cs,o,aX,a6,a3⟩:=Eh (kd:=.i64) (l:=l') (by rw[ad b jp]; exact ag) agM hw;exact⟨w,s,p,cs,o,hw,ak,(ay k w s hw ak).frame h1 ad,aX,a6,a3⟩
 obtain⟨X,sI⟩:∃ X,X=U.au 1 b 0 n n n:=⟨_,rfl⟩
 have CP:cz (.au 1) X=some (.int .i64 bs.length) :=by rw[sI,o4]; rfl
 rw[<-sI] at cQ ⊢;simp[CP];refine cF n (fun k ae l1=>ae 0=X/\ae 9=X/\ae 10=.int .i64 bs.length/\ae 11=.int .i64 k/\ae 3=.int .i64 (iT (bs.take k)).length/\l1=l) ?_ ?_
 ·rintro k ae l1 hk ⟨ca,gL,fS,h2,a7,rfl⟩;obtain⟨ae,rfl⟩:=lk ca a7 gL fS h2;clear ca a7 gL fS h2;simp;by_cases h:k<bs.length
  ·obtain⟨w,s,p,cs,o,hw,ak,Lu,aX,a6,a3⟩:=cQ l1 (atW _) (fun _ _=>rfl) k (by omega);have CX:=Sz ak;have dR:=Sy bs (k+1);rw[CX,at4] at dR;have mq:IntKind.i64.wrap (((iT (bs.take k)).length:Int)+s.length)=((iT (bs.take k)).length:Int)+s.length:=wrap_i64 (by omega) (by omega);have fo:IntKind.i64.wrap ((k:Int)+1)=k+1:=wrap_i64 (by omega) (by omega);have qn:¬(((iT (bs.take k)).length:Int)+s.length<0) :=by omega
   have gy:=Lu.len;simp[h,aX,a6,a3,gy,mq,qn,fo,CX];omega
  ·have cZ:k=bs.length:=by omega
   subst cZ;rw[aun];simp;refine adt al ?_;intro v l ap;simp[CP];refine cF bs.length (Zw l1 X bs) ?_ ⟨by simp,by simp,by simp,v,by simp,by simpa [iT] using ap⟩;rintro k ae bX hk ⟨ku,ma,sD,w,cd,ap⟩;obtain⟨ae,rfl⟩:=iw cd ku ma sD;clear cd ku ma sD;simp;by_cases h:k<bs.length
   ·obtain⟨y,s,p,cs,o,hw,ak,Lu,aX,a6,a3⟩:=cQ bX ap.le ap.same k (by omega);have CX:=Sz ak;have dR:=Sy bs (k+1);rw[CX,at4] at dR;have fo:IntKind.i64.wrap ((k:Int)+1)=k+1:=wrap_i64 (by omega) (by omega);have az:cK=140737488355328:=rfl;obtain⟨aY,fe,dW,dB,gg⟩:=ap.app (by_:=1) (x:=y) (xs:=s) (Lu.RX bX (atW _) fun _ _=>rfl) (by simp[cc]) (by omega) (by omega) (by rw[az]; omega);simp[h,aX,a6,a3,dW];refine dT.cy ?_;simp[h,fo];refine⟨by simp,by simp,by simp,aY,by simp,?_⟩;rw[CX];have nH:(decide ((iT bs).length=0)&&s.isEmpty)=decide ((iT bs).length=0) :=by
     by_cases am:(iT bs).length=0
     ·have:s=[] :=auE.1 (by omega);simp[am,this]
     ·simp[am]
    rw[nH] at dB;exact dB
   ·have cZ:k=bs.length:=by omega
    subst cZ;simp;rw[aun] at ap;exact aV _ _ ap
 ·simp[iT]
def hg (o:bq) :bq:={ o with e:=0#32,s:=0#32 }
theorem Za (o:bq) (ap:ko o) (hk:fA (hg o)=0) {l:ao} {K:U->ao->Prop} (aV:∀ w l',cn 1 cc l l' w (kN o) false->K (.bE [w,.int .i64 0]) l') :
  cY Tryz.prog GS 147 [.aJ (bd o)] l (c:=⟨K⟩) :=by
 apply bm Tryz.func147 [[[0],[1],[2],[3],[5],[6],[7],[9],[10],[11],[12],[4,12,11,7,0],[8,12,11,0]]];have az:cK=140737488355328:=rfl;have Lf:=h9 o.hL.toNat
 have sR:=h9 o.cX.toNat
 have gy:=DL ap.ids;have eY:ko (hg o) :=⟨ap.ids,ap.len,ap.val,ap.key⟩
 have dh:=Ip (hg o) eY;rw[hk] at dh;have qj:o.bp.l.length<=4:=A4 (o:=hg o) hk;have GJ:dO o.bp.l=true:=by
  unfold fA at hk;have aQ:(hg o).bp=o.bp:=rfl;rw[aQ,if_neg (by omega)] at hk;cases aj:dO o.bp.l with
  | true=>rfl
  | false=>rw[aj] at hk; cases hk
 have LH:(BitVec.setWidth 64 o.hL).toNat=o.hL.toNat:=by rw[aub]; exact at7 (by have:=o.hL.isLt; omega)
 have aeA:=l6 (hg o);have aN:l.length<(l++[a2.cells 11 (bd (hg o))]).length:=by simp
 have fI:(l++[a2.cells 11 (bd (hg o))])[l.length]? = some (.cells 11 (bd (hg o))) :=by simp
 simp[bd];refine a1 dh (show bg [U.aJ (bd (hg o))]=true by simp[bg,U.closed,aeA]) ?_;simp;refine amN o.bp ap.ids (by omega) GJ fun b1 l1 h1=>?_
 have qr:l1[l.length]? = some (.cells 11 (bd (hg o))) :=by rw[h1.same _ aN]; exact fI
 have qk:l.length<l1.length:=by have:=h1.le; simp at this; omega
 have yw:=qr;simp[bd,hg] at yw;have agb:(l1++[a2.cells 1 [U.int .u8 111]])[l.length]? = some (.cells 11 (bd (hg o))) :=by rw[atV qk]; exact qr
 have aqb:l.length<(l1++[a2.cells 1 [U.int .u8 111]]).length:=by simp; omega
 have UV:=agb;simp[bd,hg] at UV;simp[UV];have agi:(l1++[a2.cells 1 [U.int .u8 111],a2.cells 1 [U.int .u8 (u o.act.kind)]])[l.length]? = some (.cells 11 (bd (hg o))) :=by rw[atV qk]; exact qr
 have agc:(l1++[a2.cells 1 [U.int .u8 111],a2.cells 1 [U.int .u8 (u o.act.kind)]])[l1.length]? = some (.cells 1 [.int .u8 111]) :=by simp
 have uA:(l1++[a2.cells 1 [U.int .u8 111],a2.cells 1 [U.int .u8 (u o.act.kind)]])[l1.length+1]? = some (.cells 1 [.int .u8 (u o.act.kind)]) :=by simp
 have mK:(l1++[a2.cells 1 [U.int .u8 111],a2.cells 1 [U.int .u8 (u o.act.kind)]]).length=l1.length+2:=by simp
 refine zj _ fun w2 bX ad=>?_
 rw[LH] at ad;have Gt:=ad.le;rw[mK] at Gt;have sS:bX[l.length]? = some (.cells 11 (bd (hg o))) :=by rw[ad.same _ (by rw[mK]; omega)]; exact agi
 have Td:bX[l1.length]? = some (.cells 1 [.int .u8 111]) :=by rw[ad.same _ (by rw[mK]; omega)]; exact agc
 have Te:bX[l1.length+1]? = some (.cells 1 [.int .u8 (u o.act.kind)]) :=by rw[ad.same _ (by rw[mK]; omega)]; exact uA
 have ry:=sS;simp[bd,hg] at ry;simp[ry,Td,Te];refine zj _ fun ei fe aj=>?_
 have Uy:=aj.le;have cT:fe[l.length]? = some (.cells 11 (bd (hg o))) :=by rw[aj.same _ (by omega)]; exact sS
 have Tf:fe[l1.length]? = some (.cells 1 [.int .u8 111]) :=by rw[aj.same _ (by omega)]; exact Td
 have Tg:fe[l1.length+1]? = some (.cells 1 [.int .u8 (u o.act.kind)]) :=by rw[aj.same _ (by omega)]; exact Te
 have ww:=cT;simp[bd,hg] at ww;simp[ww,Tf,Tg,h1.cells,ad.cells,aj.cells,bu];obtain⟨L,e6⟩:∃ L,L=fe++[a2.cells 5 [.au 1 l1.length 0 1 1 1,w2,b1,ei,.au 1 (l1.length+1) 0 1 1 1]] :=⟨_,rfl⟩
 have x0:fe.length<=L.length:=by rw[e6]; simp
 have p6:∀ b,b<fe.length->L[b]? = fe[b]?:=fun b ag=>by rw[e6,atV ag]
 have Km:L[fe.length]? = some (.cells 5 [.au 1 l1.length 0 1 1 1,w2,b1,ei,.au 1 (l1.length+1) 0 1 1 1]) :=by rw[e6]; simp
 rw[<-e6];have IC:nh L (.au 1 l1.length 0 1 1 1) [111#8] :=WR (by rw[p6 _ (by omega)]; exact Tf);have ZS:nh L (.au 1 (l1.length+1) 0 1 1 1) [o.act.kind] :=WR (by rw[p6 _ (by omega)]; exact Tg);have ID:nh L w2 (eJ o.hL.toNat) :=((A1 ad).frame Uy aj.same).frame x0 p6;have IE:nh L b1 (rN o.bp.l) :=((((A1 h1).frame (l1:=l1++[a2.cells 1 [U.int .u8 111],a2.cells 1 [U.int .u8 (u o.act.kind)]]) (by rw[mK]; omega) (fun b ag=>atV ag)).frame (by rw[mK]; exact Gt) ad.same).frame Uy aj.same).frame x0 p6;have ZR:nh L ei (eJ o.cX.toNat) :=(A1 aj).frame x0 p6;have UQ:L[l.length]? = some (.cells 11 (bd (hg o))) :=by rw[p6 _ (by omega)]; exact cT
 obtain⟨M,ny⟩:∃ M,M=iT [[111#8],eJ o.hL.toNat,rN o.bp.l,eJ o.cX.toNat,[o.act.kind]] :=⟨_,rfl⟩
 have Kq:M=[111#8]++eJ o.hL.toNat++rN o.bp.l++eJ o.cX.toNat++[o.act.kind] :=by rw[ny]; simp[iT]
 have adS:M.length<=40000:=by rw[Kq]; simp only[at4,auf,auy]; omega
 have Kp:M.length≠0:=by rw[Kq]; simp
 refine RY (bs:=[[111#8],eJ o.hL.toNat,rN o.bp.l,eJ o.cX.toNat,[o.act.kind]]) Km rfl rfl ?_ (by rw[<-ny]; omega) (by omega) fun n0 kK aF=>?_
 ·intro k w s hw ak;rcases k with _ | _ | _ | _ | _ | k
  ·obtain rfl:=Option.some.inj hw; obtain rfl:=Option.some.inj ak; exact IC
  ·obtain rfl:=Option.some.inj hw; obtain rfl:=Option.some.inj ak; exact ID
  ·obtain rfl:=Option.some.inj hw; obtain rfl:=Option.some.inj ak; exact IE
  ·obtain rfl:=Option.some.inj hw; obtain rfl:=Option.some.inj ak; exact ZR
  ·obtain rfl:=Option.some.inj hw; obtain rfl:=Option.some.inj ak; exact ZS
  ·cases hw
 rw[<-ny,decide_eq_false Kp] at aF;have adR:l.length<=L.length:=by omega
 have z8:cn 1 cc l kK n0 M false:=aF.base adR fun b ag=>by
  have fb:b<l1.length:=by omega
  rw[p6 b (by omega),aj.same b (by omega),ad.same b (by rw[mK]; omega),atV fb,h1.same b (by simp; omega),atV ag]
 have Gz:kK[l.length]? = some (.cells 11 (bd (hg o))) :=by rw[aF.same _ (by omega)]; exact UQ
 have afA:l.length<kK.length:=e1 Gz;have Av:=Gz;simp[bd,hg] at Av;have ce:kN o=M++(if o.act.kind=1#8 then [] else i9 (fr o.act.key))++(if o.act.kind=4#8 then ja o.act.val else []) :=by rw[Kq]; rfl
 have lL:=Bp (fr o.act.key);rw[qK] at lL;have Aq:=ap.key;have ju:=EC o.act.val;have agI:=ap.val.2.2;have ah:vU (.str o.act.key)=some (.bR 1 ((fr o.act.key).map cc)) :=by
  show some (U.bR 1 (o.act.key.map fun b=>[jf b]))=_;rw[Ib]
 by_cases cW:o.act.kind=1#8
 ·have aQ:(u o.act.kind:Int)=1:=(iv o.act.kind).2 cW;have iR:¬ o.act.kind=4#8:=by rw[cW]; decide
  rw[if_pos cW,if_neg iR,auu,auu] at ce;simp[Av,aQ];exact aV _ _ (by rw[ce]; exact z8)
 ·have aQ:¬ (u o.act.kind:Int)=1:=fun h=>cW ((iv o.act.kind).1 h)
  rw[if_neg cW] at ce;simp[Av,aQ,ah];refine Y9 (some (fr o.act.key)) (by simpa [qK] using Aq) (by simp[dM]) (by simp) (fun l' _ _=>by simp[dM]) fun Io lQ ed=>?_
  obtain⟨amG,Mq,a9,vz,_⟩:=(z8.frame ed.le ed.same).app (by_:=1) (x:=Io) (xs:=i9 (fr o.act.key)) ed.contents (by simp[cc]) (by omega) (by omega) (by rw[az]; omega);have aat:=(aF.frame ed.le ed.same).app (by_:=1) (x:=Io) (xs:=i9 (fr o.act.key)) ed.contents (by simp[cc]) (by omega) (by omega) (by rw[az]; omega);obtain⟨atQ,arR,OL,Fb,_⟩:=aat
  rw[a9] at OL;obtain⟨rfl,rfl⟩:=Prod.mk.inj (Option.some.inj OL);have Lr:Mq[l.length]? = some (.cells 11 (bd (hg o))) :=by rw[Fb.same _ (by omega)]; exact UQ
  have yy:=Lr;simp[bd,hg] at yy;simp[a9];refine dT.cy ?_;simp only[auV] at vz;by_cases iR:o.act.kind=4#8
  ·have kt:(u o.act.kind:Int)=4:=(xk o.act.kind).2 iR;rw[if_pos iR] at ce;have TD:j1 o.act=true:=by
    cases h:j1 o.act with
    | true=>rfl
    | false=>
     unfold fA at hk;have bF:(hg o).bp=o.bp:=rfl;have dn:(hg o).act=o.act:=rfl;rw[bF,if_neg (by omega),GJ,if_pos rfl] at hk;unfold sF at hk;rw[dn,h] at hk;simp at hk
   rw[BQ iR,atY] at TD;simp[yy,kt];refine amY o.act.val ap.val TD.2 fun Ot ahU mc=>?_
   obtain⟨amF,ahV,IL,I1,_⟩:=(vz.frame mc.le mc.same).app (by_:=1) (x:=Ot) (xs:=ja o.act.val) mc.contents (by simp[cc]) (by omega) (by omega) (by rw[az]; simp only[at4]; omega);simp[IL];refine dT.cy ?_;simp;exact aV _ _ (by rw[ce]; exact I1)
  ·have kt:¬ (u o.act.kind:Int)=4:=fun h=>iR ((xk o.act.kind).1 h)
   rw[if_neg iR,auu] at ce;simp[yy,kt];exact aV _ _ (by rw[ce]; exact vz)
theorem Pj {o:bq} (h:fA o=0) :fA (hg o)=0:=by
 unfold fA at h ⊢;have aQ:(hg o).bp=o.bp:=rfl;rw[aQ];have ar:sF o=true->sF (hg o)=true:=by
  unfold sF hg;simp only[atY];rintro⟨a,b,c,d,e⟩;exact⟨a,b,c,by decide,by decide⟩
 split at h
 ·cases h
 ·rename_i h1;rw[if_neg h1];split at h
  ·rename_i ad;rw[if_pos ad];split at h
   ·rename_i aj;rw[if_pos (ar aj)]
   ·cases h
  ·cases h
theorem Sk {o:bq} (h:fA o=0) :j1 o.act=true:=by
 unfold fA at h;split at h
 ·cases h
 ·split at h
  ·split at h
   ·rename_i aj;unfold sF at aj;simp only[atY] at aj;exact aj.2.2.1
   ·cases h
  ·cases h
theorem Mm {s:List UInt8} (h:gA s=true) :s.length<=20:=by
 unfold gA at h;simp only[atY,decide_eq_true_eq] at h;omega
theorem Sm {o:bq} (ap:ko o) (h:fA o=0) :(ir o).length<=1000:=by
 have h1:=h9 o.hL.toNat
 have ad:=h9 o.cX.toNat
 have aj:=DL ap.ids;have aF:=Bp (fr o.act.key);rw[qK] at aF;have bt:=EC o.act.val;have ay:=A4 h;have am:=h9 o.e.toNat
 have ak:=h9 o.s.toNat
 have ax:=Sk h;have aM:(if o.act.kind=1#8 then [] else i9 (fr o.act.key)).length<=100:=by
  split
  ·simp
  ·rename_i cW;have:o.act.key.length<=20:=by
    by_cases dv:o.act.kind=2#8
    ·rw[BP dv,atY] at ax; exact Mm ax.1
    ·by_cases j3:o.act.kind=3#8
     ·rw[IP j3,atY] at ax; exact Mm ax.1
     ·by_cases iR:o.act.kind=4#8
      ·rw[BQ iR,atY] at ax; exact Mm ax.1
      ·rw[IQ cW dv j3 iR] at ax; cases ax
   omega
 have aT:(if o.act.kind=4#8 then ja o.act.val else []).length<=100:=by
  split
  ·rename_i iR;rw[BQ iR,atY] at ax;have aq:=ax.2;have:o.act.val.text.length<=30:=by
    by_cases b6:o.act.val.kind=1#8
    ·rw[On b6] at aq;simp only[atY,decide_eq_true_eq] at aq;rw[aq.2]; simp
    ·by_cases bJ:o.act.val.kind=2#8
     ·rw[Oo bJ] at aq;simp only[atY,decide_eq_true_eq] at aq;rw[aq.2.2]; simp
     ·by_cases c0:o.act.val.kind=3#8
      ·by_cases al:o.act.val.text.length<=30
       ·exact al
       ·rw[Y4 c0] at aq;unfold tA at aq;rw[if_neg al] at aq;simp only[atY,decide_eq_true_eq,oH] at aq;have:=aq.1;rw[c0] at this;exact absurd this (by decide)
      ·rw[Oq b6 bJ c0] at aq; cases aq
   omega
  ·simp
 unfold ir kN opHead;simp only[at4,auf,auy];omega
theorem amK (o:bq) (ap:ko o) (hk:fA o=0) {l:ao} {K:U->ao->Prop} (aV:∀ w l',cn 1 cc l l' w (ir o) false->K (.bE [w,.int .i64 0]) l') :
  cY Tryz.prog GS 144 [.aJ (bd o)] l (c:=⟨K⟩) :=by
 apply bm Tryz.func144 [[[0],[1],[2],[3],[4],[6],[7],[8],[9],[5,9,8]]];have dh:=Ip o ap;rw[hk] at dh;have eb:=l6 o;have gP:=Sm ap hk;have hN:(BitVec.setWidth 64 o.e).toNat=o.e.toNat:=by rw[aub]; exact at7 (by have:=o.e.isLt; omega)
 have rA:(BitVec.setWidth 64 o.s).toNat=o.s.toNat:=by rw[aub]; exact at7 (by have:=o.s.isLt; omega)
 have aN:l.length<(l++[a2.cells 11 (bd o)]).length:=by simp
 have fI:(l++[a2.cells 11 (bd o)])[l.length]? = some (.cells 11 (bd o)) :=by simp
 simp[bd];refine a1 dh (show bg [U.aJ (bd o)]=true by simp[bg,U.closed,eb]) ?_;simp;refine Za o ap (Pj hk) fun b1 l1 h1=>?_
 have qr:l1[l.length]? = some (.cells 11 (bd o)) :=by rw[h1.same _ aN]; exact fI
 have qk:l.length<l1.length:=e1 qr;have yw:=qr;simp[bd] at yw;simp[yw];refine zj _ fun w2 bX ad=>?_
 rw[hN] at ad;have sS:bX[l.length]? = some (.cells 11 (bd o)) :=by rw[ad.same _ qk]; exact qr
 have ry:=sS;simp[bd] at ry;simp[ry];refine zj _ fun ei fe aj=>?_
 rw[rA] at aj;simp[h1.cells,ad.cells,aj.cells,bu];obtain⟨L,e6⟩:∃ L,L=fe++[a2.cells 3 [b1,w2,ei]] :=⟨_,rfl⟩
 have x0:fe.length<=L.length:=by rw[e6]; simp
 have p6:∀ b,b<fe.length->L[b]? = fe[b]?:=fun b ag=>by rw[e6,atV ag]
 have Km:L[fe.length]? = some (.cells 3 [b1,w2,ei]) :=by rw[e6]; simp
 rw[<-e6];have IC:nh L b1 (kN o) :=(((A1 h1).frame ad.le ad.same).frame aj.le aj.same).frame x0 p6;have ID:nh L w2 (eJ o.e.toNat) :=((A1 ad).frame aj.le aj.same).frame x0 p6;have IE:nh L ei (eJ o.s.toNat) :=(A1 aj).frame x0 p6;have ny:iT [kN o,eJ o.e.toNat,eJ o.s.toNat]=ir o:=by simp[iT,ir]
 have Kp:(ir o).length≠0:=by unfold ir kN opHead; simp
 refine RY (bs:=[kN o,eJ o.e.toNat,eJ o.s.toNat]) Km rfl rfl ?_ (by rw[ny]; omega) (by omega) fun n0 kK aF=>?_
 ·intro k w s hw ak;rcases k with _ | _ | _ | k
  ·obtain rfl:=Option.some.inj hw; obtain rfl:=Option.some.inj ak; exact IC
  ·obtain rfl:=Option.some.inj hw; obtain rfl:=Option.some.inj ak; exact ID
  ·obtain rfl:=Option.some.inj hw; obtain rfl:=Option.some.inj ak; exact IE
  ·cases hw
 rw[ny,decide_eq_false Kp] at aF;simp;refine aV _ _ (aF.base ?_ fun b ag=>?_)
 ·have:=ad.le; have:=aj.le; omega
 ·have:=ad.le; have:=aj.le;rw[p6 b (by omega),aj.same b (by omega),ad.same b (by omega),h1.same b (by simp; omega),atV ag]
theorem amJ (o:bq) (ap:ko o) (hk:¬ fA o=0) :bw Tryz.prog GS 144 [.aJ (bd o)] (.bE [.aW,.int .i64 (fA o)]) :=by
 refine bK Tryz.checked.mixed bB ?_;apply bm Tryz.func144 [[[0],[1],[2],[3],[4],[6],[7],[8],[9],[5,9,8]]];have dh:=Ip o ap;have eb:=l6 o;obtain⟨E,eQ⟩:∃ E,E=bd o:=⟨_,rfl⟩
 have uo:E.length=11:=by rw[eQ]; rfl
 rw[<-eQ] at dh eb ⊢;simp[uo,atT];refine a1 dh (by simp[bg,U.closed,eb]) ?_;simp[hk];exact aK rfl rfl
theorem Ou (o:bq) (ap:ko o) :bw Tryz.prog GS 94 [.aJ (bd o)] (.bE [fz (dZ o),.int .i64 (fA o)]) :=by
 refine bK Tryz.checked.mixed bB ?_;apply bm Tryz.func94 [];unfold dZ;have eb:=l6 o;have aw:(rep 32 (.int .u8 0) :List U)=(List.replicate 32 0#8).map bC:=by simp[rep]
 obtain⟨E,eQ⟩:∃ E,E=bd o:=⟨_,rfl⟩
 have uo:E.length=11:=by rw[eQ]; rfl
 by_cases aE:fA o=0
 ·have gP:=Sm ap aE;have ec:(ic (ir o)).length=32:=va _;rw[<-eQ];simp[uo,atT];rw[eQ];refine amK o ap aE fun b1 l1 h1=>?_
  rw[<-eQ] at h1;have fI:l1[1]? = some (.cells 32 (rep 32 (.int .u8 0))) :=by rw[h1.same 1 (by simp)]; rfl
  simp;refine ia (Yy (some (ir o)) (by simp; omega)) (.cons (h1.rZ (fun _=>rfl) (some (ir o)) rfl rfl) .nil) (by simp[U.flat,l7,fz,zX bC (fun _=>rfl)]) ?_;have uE:bu (rep 32 (.int .u8 0)) 0 ((ic (ir o)).map bC)=(ic (ir o)).map bC:=fi (by rw[auh,ec]; rfl);have mn:(l1.set 1 (a2.cells 32 ((ic (ir o)).map bC)))[1]? = some (.cells 32 ((ic (ir o)).map bC)) :=at9 (e1 fI);simp[fI,fz,ec,uE,mn,atT];exact aK (by rw[if_pos aE,aE]) (by simp[U.closed,bg,lr bC (fun _=>rfl)])
 ·have T0:=amJ o ap aE;rw[<-eQ] at T0 eb ⊢;simp[uo,atT];refine a1 T0 (by simp[bg,U.closed,eb]) ?_;simp[aE,fz,aw];exact aK rfl (by simp only[U.closed,bg,lr bC (fun _=>rfl),avP])
end Op

end Go.cb

namespace Go.cb
open Go Go.Proofs Go.RowKit
set_option maxRecDepth 100000
namespace Op
open g3
theorem YV {P:Program} {t:TypeId} {ts:List TypeId} {cs:List U} (aL:P.underlying t=some .string) (h:ea P (t::ts) cs) :∃ s cs',cs=.str s::cs'/\ea P ts cs':=by
 cases h
 case str s cs' ak qx h=>exact⟨_,_,rfl,h⟩
 all_goals (exfalso; simp_all; done)
theorem YX {ts:List TypeId} {cs:List U} (h:ea Tryz.prog (5::ts) cs) :∃ (x:B) (cs' : List U),cs=bC x::cs'/\ea Tryz.prog ts cs':=by
 obtain⟨k,xK,rfl,h1,ad,aj⟩:=Bq (k:=.u8) (by kernel_rfl) h;have aU:(0:Int)<=k:=h1;have bt:k<=255:=ad;refine⟨BitVec.ofNat 8 k.toNat,xK,?_,aj⟩;have:((BitVec.ofNat 8 k.toNat).toNat:Int)=k:=by
  rw[auc,at7 (by omega)]; omega
 simp[bC,u]; omega
theorem amh {ts:List TypeId} {cs:List U} (h:ea Tryz.prog (48::ts) cs) :∃ (x:List B) (cs' : List U),cs=x.map bC++cs'/\x.length=32/\ea Tryz.prog ts cs':=by
 have h1:=amg (e:=5) (n:=32) (by kernel_rfl) h;exact YT (by kernel_rfl) 32 h1
theorem YU {ts:List TypeId} {cs:List U} (h:ea Tryz.prog (22::ts) cs) :∃ (s:ez) (cs' : List U),cs=aR s::cs'/\fU s/\ea Tryz.prog ts cs':=by
 obtain⟨s,cs',rfl,_,h1,ad⟩:=Oh (e:=48) (z:=32) (enc:=aS) (Q:=fun x=>x.length=32) (by kernel_rfl) (by kernel_rfl) (fun r az=>by
  obtain⟨x,cs',rfl,af,aj⟩:=amh az;rw[Ig aj,auu];exact⟨x,rfl,af⟩) h
 exact⟨s,cs',rfl,h1,ad⟩
theorem Oi {ts:List TypeId} {cs:List U} (h:ea Tryz.prog (76::ts) cs) :∃ (x:D) (cs' : List U),cs=bA x::cs'/\ea Tryz.prog ts cs':=by
 obtain⟨k,xK,rfl,h1,ad,aj⟩:=Bq (k:=.u32) (by kernel_rfl) h;have aU:(0:Int)<=k:=h1;have bt:k<=4294967295:=ad;refine⟨BitVec.ofNat 32 k.toNat,xK,?_,aj⟩;have:((BitVec.ofNat 32 k.toNat).toNat:Int)=k:=by
  rw[auc,at7 (by omega)]; omega
 simp[bA,u]; omega
structure IJ (o:bq) :Prop where
 ids:fU o.bp
 lR:-9223372036854775808<=o.act.val.num
 ow:o.act.val.num<9223372036854775808
theorem amk {ts:List TypeId} {cs:List U} (h:ea Tryz.prog (42::ts) cs) :∃ (v:hK) (cs' : List U),cs=[bC v.kind,.int .i64 v.num,da v.bits,.str v.text]++cs'/\(-9223372036854775808<=v.num/\v.num<9223372036854775808)/\ea Tryz.prog ts cs':=by
 have h1:=Ey (fs:=[5,2,40,9]) (by kernel_rfl) h;obtain⟨k,_,rfl,ad⟩:=YX h1;obtain⟨n,_,rfl,rx,ol,aj⟩:=Bq (k:=.i64) (by kernel_rfl) ad;obtain⟨b,_,rfl,aF⟩:=YW aj;obtain⟨s,_,rfl,aU⟩:=YV (by kernel_rfl) aF;have bt:n<=9223372036854775807:=ol;exact⟨⟨k,n,b,s⟩,_,rfl,⟨rx,by show n<9223372036854775808; omega⟩,aU⟩
theorem amf {ts:List TypeId} {cs:List U} (h:ea Tryz.prog (78::ts) cs) :∃ (a:Act) (cs' : List U),cs=[bC a.kind,.str a.key,bC a.val.kind,.int .i64 a.val.num,da a.val.bits,.str a.val.text]++cs'/\(-9223372036854775808<=a.val.num/\a.val.num<9223372036854775808)/\ea Tryz.prog ts cs':=by
 have h1:=Ey (fs:=[5,9,42]) (by kernel_rfl) h;obtain⟨k,_,rfl,ad⟩:=YX h1;obtain⟨s,_,rfl,aj⟩:=YV (by kernel_rfl) ad;obtain⟨v,_,rfl,aq,aF⟩:=amk aj;exact⟨⟨k,s,v⟩,_,rfl,aq,aF⟩
theorem ami {ts:List TypeId} {cs:List U} (h:ea Tryz.prog (82::ts) cs) :∃ (o:bq) (cs' : List U),cs=bd o++cs'/\IJ o/\ea Tryz.prog ts cs':=by
 have h1:=Ey (fs:=[76,22,40,78,80]) (by kernel_rfl) h;obtain⟨a,_,rfl,ad⟩:=Oi h1;obtain⟨p,_,rfl,ay,aj⟩:=YU ad;obtain⟨n,_,rfl,aF⟩:=YW aj;obtain⟨c,_,rfl,ah,aU⟩:=amf aF;have bt:=Ey (fs:=[76,76]) (by kernel_rfl) aU;obtain⟨x,_,rfl,c8⟩:=Oi bt;obtain⟨y,cs',rfl,ed⟩:=Oi c8;exact⟨⟨a,p,n,c,x,y⟩,cs',by simp[bd],⟨ay,ah.1,ah.2⟩,ed⟩
end Op

end Go.cb

namespace Go.cb
open Go Go.Proofs
set_option maxRecDepth 100000
open g3 Op
def A7 (a n:Nat) :Nat->Nat
 | 0=>1
 | k+1=>match Nat.beq (n / 2 ^ (63 - k) % 2) 1 with
  | true=>((A7 a n k) ^ 2 % 1000000007)*a % 1000000007
  | false=>(A7 a n k) ^ 2 % 1000000007
theorem M1 (a n:Nat) (aC:n<2 ^ 64) :∀ k,k<=64->A7 a n k=fN a (n / 2 ^ (64 - k))
 | 0,_=>by
  have:n / 2 ^ (64 - 0)=0:=awV aC;rw[this]; rfl
 | k+1,hk=>by
  have aI:=M1 a n aC k (by omega);have ag:=TF n k (by omega);have e:64 - (k+1)=63 - k:=by omega
  rw[e];unfold A7;rw[aI,Nat.pow_two,W5];split
  ·rename_i h;have h1:=auP h;rw[W3,ag,h1]
  ·rename_i h;have h1:n / 2 ^ (63 - k) % 2≠1:=fun aG=>by rw[aG] at h; cases h
   rw[ag];congr 1; omega
def W2:List U->Option U
 | [.int .u32 x,.int .u64 n]=>match decide (0<=x)&&(decide (x<4294967296)&&(decide (0<=n)&&decide (n<18446744073709551616))) with
  | true=>some (.int .u32 ((A7 x.toNat n.toNat 64:Nat) :Int))
  | false=>none
 | _=>none
abbrev M3:FuncId × Bool × (List U->Option U) :=(241,false,W2)
theorem W6:tK Tryz.prog GS M3:=by
 intro args r h;refine⟨?_,fun h=>by cases h⟩;simp only[W2] at h;split at h
 ·rename_i x n;split at h
  ·rename_i ah;cases h;simp only[atY,decide_eq_true_eq] at ah;obtain⟨h1,ad,aj,aF⟩:=ah;have af:(U.int .u32 x)=bA (BitVec.ofNat 32 x.toNat) :=by
    have:((BitVec.ofNat 32 x.toNat).toNat:Int)=x:=by
     rw[auc,at7 (by omega)]; omega
    simp[bA,u]; omega
   have aC:(U.int .u64 n)=da (BitVec.ofNat 64 n.toNat) :=by
    have:((BitVec.ofNat 64 n.toNat).toNat:Int)=n:=by
     rw[auc,at7 (by omega)]; omega
    simp[da,u]; omega
   have ay:=HM (BitVec.ofNat 32 x.toNat) (BitVec.ofNat 64 n.toNat);have az:bA (gW (BitVec.ofNat 32 x.toNat) (BitVec.ofNat 64 n.toNat).toNat)=.int .u32 ((A7 x.toNat n.toNat 64:Nat) :Int) :=by
    have aQ:(BitVec.ofNat 32 x.toNat).toNat=x.toNat:=by rw[auc,at7 (by omega)]
    have bF:(BitVec.ofNat 64 n.toNat).toNat=n.toNat:=by rw[auc,at7 (by omega)]
    show U.int .u32 (u _)=_;unfold u;rw[rX,aQ,bF,M1 _ _ (by omega) 64 (atW _)];simp
   rw[af,aC,<-az];exact ay
  ·cases h
 ·cases h
def Hh:List (List U)->Option (List e0)
 | []=>some []
 | [c] ::r=>match B0 c with
  | some s=>match Nat.ble s.l.length 10000 with
   | true=>match Hh r with | some l=>some (s::l) | none=>none
   | false=>none
  | none=>none
 | _=>none
theorem V6:∀ {es:List (List U)} {l:List e0},Hh es=some l->(es=l.map fun s=>[cH s])/\∀ s∈l,s.l.length<=10000
 | [],l,h=>by cases h; exact⟨rfl,fun s ak=>by cases ak⟩
 | e::r,l,h=>by
  unfold Hh at h;split at h
  ·rename_i aQ; cases aQ
  ·rename_i c ct aQ;cases aQ;split at h
   ·rename_i s ak;split at h
    ·rename_i ag;split at h
     ·rename_i l' al;cases h;obtain⟨h1,ad⟩:=V6 al;refine⟨by rw[Jc ak,h1]; rfl,fun x af=>?_⟩;rcases auG.1 af with aj | aj
      ·rw[aj]; exact auX ag
      ·exact ad x aj
     ·cases h
    ·cases h
   ·cases h
  ·cases h
def WS:List U->Option U
 | [.bR 1 es]=>match Hh es with
  | some ls=>match Nat.ble ls.length 20 with
   | true=>some (.bE [fz (ic (bytesOf ls)),.int .i64 0])
   | false=>none
  | none=>none
 | _=>none
abbrev MY:FuncId × Bool × (List U->Option U) :=(196,false,WS)
theorem WT:tK Tryz.prog GS MY:=by
 intro args r h;refine⟨?_,fun h=>by cases h⟩;simp only[WS] at h;split at h
 ·split at h
  ·rename_i es ls jq;split at h
   ·rename_i aC;cases h;obtain⟨h1,ad⟩:=V6 jq;rw[h1];exact MZ ls (auX aC) ad
   ·cases h
  ·cases h
 ·cases h
end Go.cb

namespace Go.cb
open Go Go.Proofs
set_option maxRecDepth 100000
namespace Op
open g3
section
variable {α:Type} {z:Nat} {enc:α->List U}
theorem ai3 {l:ao} {v:U} {j k:Nat} {bc:List α} {zr:List U} (s1:zr.length=z) (h:bG z l v j (bc.map enc)) (hk:k<bc.length) :
  ∃ v3 fe r,gq (.au z) v (some (.int .i64 (k:Int))) none none=some v3/\sr zr l v3=some fe/\gq (.au z) v none (some (.int .i64 (k:Int))) none=some r ∧
   bG z fe r j ((bc.take k).map enc)/\cx r=false/\fe.length=l.length/\∀ b,b≠j->fe[b]? = l[b]?:=by
 generalize am:bc.map enc=es at h;cases h with
 | nil j=>rw[au6] at am; subst am; simp at hk
 | au j n cap sz cs es ag al aC aw ah c3 ci=>
  subst am;have sQ:bc.length=n:=by simpa using aC
  have gM:jJ (.int .i64 (k:Int)) n=some k:=by
   show (if 0<=(k:Int)/\(k:Int)<=(n:Int) then some (k:Int).toNat else none)=some k;rw[if_pos ⟨by omega,by omega⟩]; simp
  have fT:jJ (.int .i64 (k:Int)) cap=some k:=by
   show (if 0<=(k:Int)/\(k:Int)<=(cap:Int) then some (k:Int).toNat else none)=some k;rw[if_pos ⟨by omega,by omega⟩]; simp
  have dW:gK n cap (some (.int .i64 (k:Int))) none none=some (k,n,cap) :=by
   show (match jJ (.int .i64 (k:Int)) n with | none=>none | some l=>some (l,n,cap))=_;rw[gM]
  have dB:gK n cap none (some (.int .i64 (k:Int))) none=some (0,k,cap) :=by
   show (match jJ (.int .i64 (k:Int)) cap with | none=>none | some h=>some (0,h,cap))=_;rw[fT]
  have dh:¬ cap=k:=by omega
  have Ad:¬ cap=0:=by omega
  have eX:j<l.length:=e1 ag;have gb:k*z<=n*z:=at2 _ (by omega);have kf:n*z<=cap*z:=at2 _ ah;have lK:(dy zr (n - k)).length=(n - k)*z:=by rw[Bf,s1]
  have afB:k*z+(n - k)*z=n*z:=by rw[<-auN]; congr 1; omega
  refine⟨.au z j (k*z) (n - k) (cap - k) sz,l.set j (.cells sz (bu cs (k*z) (dy zr (n - k)))),.au z j 0 k cap sz,?_,?_,?_,?_,rfl,by simp,fun b gN=>by rw[at5 (fun h=>gN h.symm)]⟩
  ·rw[za,dW]; simp[dh]
  ·unfold sr;simp only;rw[if_neg (by omega)];simp[ag,s1]
  ·rw[za,dB]; simp[Ad]
  ·refine .au j k cap sz _ _ (at9 eX) (by rw[r3 (by omega),lK]; omega) (by simp; omega) (fun e am=>?_) (by omega) c3 ?_
   ·obtain⟨y,aA,rfl⟩:=auo.1 am;exact aw _ (avt (aur aA))
   ·unfold bu;rw[aut,auj (by rw[aue]; omega),avj,Nat.min_self];have aQ:cs.take (k*z)=(cs.take (n*z)).take (k*z) :=by rw[avj,ava gb]
    have bF:bc.map enc=(bc.take k).map enc++(bc.drop k).map enc:=by rw[<-auq,auz]
    have dn:((bc.take k).map enc).flatten.length=k*z:=by
     rw[l8 (z:=z) (fun e am=>by obtain⟨y,aA,rfl⟩:=auo.1 am; exact aw _ (avt (aur aA)))];rw[auh,aue,ava (by omega)]
    rw[aQ,ci,bF,auM,auj (by omega),atT (by omega)]
theorem WI {bc:List α} (aw:∀ y∈bc,(enc y).length=z) (k:Nat) (hk:k<=bc.length) {n:Nat} (aC:bc.length=n) {cs:List U} (ci:cs.take (n*z)=(bc.map enc).flatten) (al:n*z<=cs.length) :
  cs.take (k*z)=((bc.take k).map enc).flatten/\(cs.drop (k*z)).take (n*z - k*z)=((bc.drop k).map enc).flatten:=by
 have gb:k*z<=n*z:=at2 _ (by omega);have bF:bc.map enc=(bc.take k).map enc++(bc.drop k).map enc:=by rw[<-auq,auz]
 have dn:((bc.take k).map enc).flatten.length=k*z:=by
  rw[l8 (z:=z) (fun e am=>by obtain⟨y,aA,rfl⟩:=auo.1 am; exact aw _ (aur aA))];rw[auh,aue,ava (by omega)]
 have aQ:cs.take (k*z)=(cs.take (n*z)).take (k*z) :=by rw[avj,ava gb]
 constructor
 ·rw[aQ,ci,bF,auM,auj (by omega),atT (by omega)]
 ·rw[<-awi,ci,bF,auM,auH (by omega),au2 (by omega),auT]
theorem HF {l:ao} {v:U} {j k:Nat} {bc:List α} {x:α} {X:U} (cQ:X.cells=some (enc x)) (h:bG z l v j (bc.map enc)) (aw:∀ y∈bc,(enc y).length=z) (hk:k<bc.length) (af:(enc x).length=z) :
  ∃ p l',cg (.au z) v (.int .i64 (k:Int))=some p/\km z l p (X)=some l'/\bG z l' v j ((bc.set k x).map enc)/\l'.length=l.length/\∀ b,b≠j->l'[b]? = l[b]?:=by
 generalize am:bc.map enc=es at h;cases h with
 | nil j=>rw[au6] at am; subst am; simp at hk
 | au j n cap sz cs es ag al aC iY ah c3 ci=>
  subst am;have sQ:bc.length=n:=by simpa using aC
  have eX:j<l.length:=e1 ag;have bf:=af;have gb:(k+1)*z<=n*z:=at2 _ (by omega);have kf:n*z<=cap*z:=at2 _ ah;have ak:(k+1)*z=k*z+z:=by rw[auI]
  obtain⟨f1,_⟩:=WI aw k (by omega) sQ ci (by omega);obtain⟨_,f2⟩:=WI aw (k+1) (by omega) sQ ci (by omega);refine⟨.ptr j (k*z) sz,l.set j (.cells sz (bu cs (k*z) (enc x))),?_,?_,?_,by simp,fun b gN=>by rw[at5 (fun h=>gN h.symm)]⟩
  ·simp[cg]; omega
  ·unfold km;simp[ag,cQ,bf];omega
  ·refine .au j n cap sz _ _ (at9 eX) (by rw[r3 (by omega),bf]; omega) (by simp; omega) (fun e am=>?_) ah c3 ?_
   ·obtain⟨y,aA,rfl⟩:=auo.1 am;rcases avl aA with h | h
    ·exact aw _ h
    ·rw[h]; exact bf
   ·have mn:bc.set k x=bc.take k++(x::bc.drop (k+1)) :=by rw[avw,if_pos hk]
    rw[mn,auq,aus,auM,auW,<-f1,<-f2];unfold bu;have t1:(cs.take (k*z)).length=k*z:=by rw[aue]; omega
    have iu:(cs.take (k*z)).take (n*z)=cs.take (k*z) :=atT (by rw[t1]; omega);have kn:(enc x).take (n*z - k*z)=enc x:=atT (by rw[bf]; omega);rw[aut,bf,<-ak,avN,t1,iu,avN,kn,bf,show n*z - k*z - z=n*z - (k+1)*z by omega]
end

end Op

end Go.cb

namespace Go.cb
open Go Go.Proofs
set_option maxRecDepth 100000
namespace Op
theorem SC {α:Type} {enc:α->List U} {z:Nat} {a:List α} (h:∀ x∈a,(enc x).length=z) :(a.map enc).flatten.length=a.length*z:=by
 rw[l8 (z:=z) (fun e am=>by obtain⟨y,aA,rfl⟩:=auo.1 am; exact h y aA),auh]
theorem ai6 {α:Type} {enc:α->List U} {z:Nat} {l:ao} {b n:Nat} {a:List α} (ax:∀ x∈a,(enc x).length=z) (aC:a.length=n) (ag:l[b]? = some (.cells (n*z) (a.map enc).flatten)) :bG z l (.au z b 0 n n (n*z)) b (a.map enc) :=by
 have fc:=SC ax;refine .au b n n (n*z) _ _ ag (by rw[fc,aC]) (by simp[aC]) (fun e am=>?_) (atW _) (atW _) ?_
 ·obtain⟨y,aA,rfl⟩:=auo.1 am; exact ax y aA
 ·rw[atT (by rw[fc,aC]; omega)]
end Op

end Go.cb

namespace Go.cb
open Go Go.Proofs
set_option maxRecDepth 100000
namespace Op
open g3
theorem aae {l:List D} {k:Nat} {x:D} (h:l[k]? = some x) (ay:(l.take k).all gm=true) :(l.take (k+1)).all gm=gm x:=by
 rw[aud,h,List.all_append,ay]; simp
theorem aac {l:List D} {k:Nat} {x:D} (h:l[k]? = some x) (af:gm x=false) :l.all gm=false:=by
 cases aG:l.all gm with
 | false=>rfl
 | true=>rw[auK.1 aG x (at3 h)] at af; cases af
structure Zp (l:List D) (k:Nat) (ae:a8) (h:ao) :Prop where
 bh:ae 5=cI 1 eV (some l)
 cd:ae 6=.int .i64 l.length
 dC:ae 7=.int .i64 k
 ay:(l.take k).all gm=true
theorem S4 (l:List D) (al:l.length<=1000) :bw Tryz.prog GS 244 [cI 1 eV (some l)] (.bool (l.all gm)) :=by
 refine bK Tryz.checked.mixed bB ?_;apply bm Tryz.func244 [];have bl:cz (.au 1) (cI 1 eV (some l))=some (.int .i64 l.length) :=qB _;simp[bl];refine cF l.length (Zp l) ?_ ⟨by simp,by simp,by simp,by simp⟩;rintro k ae h hk ⟨bh,cd,dC,ay⟩;obtain⟨ae,rfl⟩:=kQ bh cd dC;clear bh cd dC;by_cases h:k<l.length
 ·obtain⟨x,af,_⟩:=bx h;have bW:cg (.au 1) (cI 1 eV (some l)) (.int .i64 k)=some (.b3 (eV x) 0) :=by rw[rF]; simp[af]
  have fo:IntKind.i64.wrap ((k:Int)+1)=(k+1:Nat) :=wrap_i64 (by omega) (by omega);simp[h,bW,eV];refine a1 (Mc x) rfl ?_;cases ar:gm x with
  | false=>
   have:=aac af ar;simp;exact aK (by rw[this]) rfl
  | true=>
   simp[fo];exact⟨by omega,by simp,by simp,by simp,by rw[aae af ay]; exact ar⟩
 ·have e2:k=l.length:=by omega
  subst e2;rw[aun] at ay;simp;exact aK (by rw[ay]) rfl
theorem aj5 {l:ao} {b:Nat} {x:D} (h:l[b]? = some (.cells 1 [bA x])) :fX (bU l) (.au 1 b 0 1 1 1) (cI 1 eV (some [x])) :=by
 refine Eb (rest:=[]) (es:=[[bA x]]) (by simpa using h) rfl (by simp) (by simp[bg,U.closed])
def D5 (a b:D) :D:=BitVec.ofNat 32 (a.toNat*b.toNat % 1000000007)
theorem adb (a b:D) :bw Tryz.prog GS 204 [bA a,bA b] (.bE [bA (if gm a&&gm b then D5 a b else 0#32),.int .i64 (if gm a&&gm b then 0 else 2)]) :=by
 refine bK Tryz.checked.mixed bB ?_;apply bm Tryz.func204 [];simp;refine ia (S4 [a,b] (by simp)) (.cons (Ec (by simp)) .nil) rfl ?_;cases ax:gm a with
 | false=>
  simp[ax];exact aK rfl rfl
 | true=>
  cases ag:gm b with
  | false=>
   simp[ax,ag];exact aK rfl rfl
  | true=>
   have aN:a.toNat<1000000007:=by unfold gm at ax; simp at ax; exact ax.1.2
   simp[ax,ag];refine ia (MD [a,b] (by simp)) (.cons (.same _ rfl) (.cons (Ec (by simp)) .nil)) rfl ?_;simp[MC a b aN];exact aK rfl rfl
theorem adc (a:D) (n:Q) :bw Tryz.prog GS 203 [bA a,da n] (.bE [bA (if gm a then gW a n.toNat else 0#32),.int .i64 (if gm a then 0 else 2)]) :=by
 refine bK Tryz.checked.mixed bB ?_;apply bm Tryz.func203 [];simp;refine ia (S4 [a] (by simp)) (.cons (aj5 (by simp)) .nil) rfl ?_;cases ax:gm a with
 | false=>
  simp[ax];exact aK rfl rfl
 | true=>
  simp[ax];refine a1 (HM a n) rfl ?_;simp;exact aK rfl rfl
theorem ada (n:Q) :bw Tryz.prog GS 205 [da n] (bA (gW 4#32 n.toNat)) :=by
 refine bK Tryz.checked.mixed bB ?_;apply bm Tryz.func205 [];simp;refine a1 (HM 4#32 n) rfl ?_;simp;exact aK rfl rfl
theorem Nb (a:D) (n:Q) :bw Tryz.prog GS 177 [bA a,da n] (bA (gW a n.toNat)) :=by
 refine bK Tryz.checked.mixed bB ?_;apply bm Tryz.func177 [];have aU:(a.setWidth 64:Q).toNat=a.toNat:=by rw[aub]; omega
 have bt:=y3 a.toNat n.toNat
 have c8:(BitVec.ofNat 64 (fN a.toNat n.toNat)).setWidth 32=gW a n.toNat:=by
  apply aua;rw[rX,aub,auc];omega
 have ay:=W7 (a.setWidth 64) n (by rw[aU]; exact a.isLt);rw[aU] at ay;simp;refine a1 ay rfl ?_;simp[c8];exact aK rfl rfl
theorem ajA (n:Q) :bw Tryz.prog GS 166 [da n] (bA (gW 4#32 n.toNat)) :=by
 refine bK Tryz.checked.mixed bB ?_;apply bm Tryz.func166 [];simp;refine a1 (Nb 4#32 n) rfl ?_;simp;exact aK rfl rfl
theorem ajG (a:D) :bw Tryz.prog GS 176 [bA a] (.bE [bA (if gm a then gW a 500000002 else 0#32),.int .i64 (if gm a then 0 else 2)]) :=by
 refine bK Tryz.checked.mixed bB ?_;apply bm Tryz.func176 [];simp;refine a1 (XD a) rfl ?_;cases ax:gm a with
 | false=>
  simp;exact aK rfl rfl
 | true=>
  simp;refine a1 (Nb a 500000002#64) rfl ?_;simp;exact aK rfl rfl
theorem ajP (a b:D) :bw Tryz.prog GS 178 [bA a,bA b] (bA (D5 a b)) :=by
 refine bK Tryz.checked.mixed bB ?_;apply bm Tryz.func178 [];have aU:∀ a:D,(a.setWidth 64:Q).toNat=a.toNat:=fun a=>by rw[aub]; omega
 have c8:((a.setWidth 64:Q)*b.setWidth 64 % 1000000007#64).setWidth 32=D5 a b:=by
  apply aua;rw[aub,AX _ _ (by rw[aU]; exact a.isLt) (by rw[aU]; exact b.isLt),aU,aU];unfold D5;rw[auc]
 simp[HV,c8];exact aK rfl rfl
def vA (l:List B) :Q:=l.foldl (fun n x=>(n <<< 8) ||| x.setWidth 64) 0#64
theorem Pq (l:List B) (k:Nat) (x:B) (h:l[k]? = some x) :vA (l.take (k+1))=(vA (l.take k) <<< 8) ||| x.setWidth 64:=by
 rw[aud,h]; simp[vA,awj]
theorem akW (a:Q) (x:B) :(a <<< 8) ||| x.setWidth 64=256#64*a+x.setWidth 64:=by
 apply aua;have af:x.toNat<256:=x.isLt;have ax:=a.isLt;rw[BitVec.toNat_or,avW,awU,avM,aub];have h1:x.toNat % 2 ^ 64=x.toNat:=at7 (by omega);have ad:a.toNat <<< 8 % 2 ^ 64=(a.toNat % 2 ^ 56) <<< 8:=by rw[avz,avz]; omega
 have aj:=awA (b:=x.toNat) (i:=8) (by omega) (a.toNat % 2 ^ 56);rw[h1,ad,<-aj,avz];have aF:(256#64).toNat=256:=rfl;rw[aF];omega
def jj (n:D) :List B:=[(n >>> 24).setWidth 8,(n >>> 16).setWidth 8,(n >>> 8).setWidth 8,n.setWidth 8]
def l9 (l:List D) :List B:=l.flatMap jj
theorem ac1 {l:List D} {k:Nat} {x:D} (h:l[k]? = some x) :l9 (l.take (k+1))=l9 (l.take k)++jj x:=by
 unfold l9; rw[aud,h,avD]; simp
theorem SN (l:List D) :(l9 l).length=4*l.length:=by
 induction l with
 | nil=>rfl
 | cons x l aI=>unfold l9 at aI ⊢; rw[List.flatMap_cons,at4,aI,auf]; simp[jj]; omega
def CR (b:List B) :Q:=vA ((ic b).take 8)
theorem aj6 {l:ao} {b:Nat} {v m aY cv:U} (h:l[b]? = some (.cells 2 [v,m])) (h1:fX (bU l) v aY) (ad:fX (bU l) m cv) :fX (bU l) (.au 1 b 0 2 2 2) (.bR 1 [[aY],[cv]]) :=by
 refine .au 1 b 0 2 2 2 [v,m] [[aY],[cv]] (lY.2 h) rfl (by simp) (by simp) (fun i j e c c' am ai ah=>?_);rcases i with _ | _ | i
 ·simp at am; subst am;rcases j with _ | j
  ·simp at ai ah; subst ai ah; exact h1
  ·simp at ai
 ·simp at am; subst am;rcases j with _ | j
  ·simp at ai ah; subst ai ah; exact ad
  ·simp at ai
 ·simp at am
theorem ak5 {b:Nat}:gq (.arr 32 1) (.ptr b 0 32) none (some (.int .i64 8)) none=some (.au 1 b 0 8 32 32) :=by
 have:gK 32 32 none (some (.int .i64 8)) none=some (0,8,32) :=rfl;simp only[gq,this]; rfl
structure ZC (gT:B) (m:e0) (eE:List D) (k:Nat) (ae:a8) (l:ao) :Prop where
 aM:ae 1=cH m
 ug:ae 21=cI 1 eV (some eE)
 JR:ae 22=.int .i64 eE.length
 z1:ae 23=.int .i64 k
 ex:∃ v,ae 8=v/\cn 1 cc [] l v (gT::l9 (eE.take k)) false
structure Zq (d:List B) (e:Int) (k:Nat) (ae:a8) (l:ao) :Prop where
 fx:ae 12=.int .i64 e
 ih:ae 13=da (vA (d.take k))
 JU:∃ b n,ae 49=.au 1 b 0 8 n n/\l[b]? = some (.cells n (d.map bC))/\n=32
 JV:ae 50=.int .i64 8
 JW:ae 51=.int .i64 k
set_option maxHeartbeats 1000000 in
theorem aec (gT:B) (m:e0) (hm:m.l.length<=9991) (eE:List D) (al:eE.length<=10) :bw Tryz.prog GS 246 [bC gT,cH m,cI 1 eV (some eE)] (.bE [da (CR (gT::(l9 eE++m.l))),.int .i64 0]) :=by
 refine bK Tryz.checked.mixed bB ?_;apply bm Tryz.func246 [];have az:cK=140737488355328:=rfl;have bl:cz (.au 1) (cH m)=some (.int .i64 m.l.length) :=qB _;have afw:cz (.au 1) (cI 1 eV (some eE))=some (.int .i64 eE.length) :=qB _;have eG:¬ (9991:Int)<(m.l.length:Int) :=by omega
 have re:¬ 9991<m.l.length:=by omega
 have gi:=mH m;simp[bl,afw,eG,re];refine cF eE.length (ZC gT m eE) ?_ ⟨by simp,by simp,by simp,by simp,_,rfl,⟨0,ps (n:=1) (a:=[gT]) rfl rfl,by simp,by simp,.inr (by simp),rfl⟩⟩;rintro k ae l hk ⟨aM,ug,JR,z1,v,dw,eY⟩;obtain⟨ae,rfl⟩:=lk aM dw ug JR z1;clear aM dw ug JR z1;by_cases h:k<eE.length
 ·obtain⟨x,af,_⟩:=bx h;have bW:cg (.au 1) (cI 1 eV (some eE)) (.int .i64 k)=some (.b3 (eV x) 0) :=by rw[rF]; simp[af]
  have fo:IntKind.i64.wrap ((k:Int)+1)=(k+1:Nat) :=wrap_i64 (by omega) (by omega);have ak:=ac1 af;have fc:=SN (eE.take k);rw[aue] at fc;obtain⟨aY,l',aX,a6,a3⟩:=(eY.more [a2.cells 4 ((jj x).map bC)]).app (by_:=1) (x:=.au 1 l.length 0 4 4 4) (xs:=jj x) (by rw[xN]; simp[dM,jj]) (fun y _=>rfl) (by omega) (by omega) (by rw[az]; simp[jj]; omega);rw[show (jj x).map bC=[.int .u8 (u (BitVec.setWidth 8 (x >>> 24))),.int .u8 (u (BitVec.setWidth 8 (x >>> 16))),.int .u8 (u (BitVec.setWidth 8 (x >>> 8))),.int .u8 (u (BitVec.setWidth 8 x))] from rfl] at aX;simp[h,bW,eV,fo,aX];refine dT.cy ?_;simp[fo];exact⟨by omega,by simp,by simp,by simp,by simp,aY,by simp,by rw[ak,<-au5]; exact a6⟩
 ·have e2:k=eE.length:=by omega
  subst e2;rw[aun] at eY;have fc:=SN eE;have ay:=MZ [some (gT::l9 eE),m] (by simp) (fun s ak=>by
   rcases auG.1 ak with h | h
   ·rw[h]; show (gT::l9 eE).length<=_; simp; omega
   ·rw[aui.1 h]; omega)
  have ep:bytesOf [some (gT::l9 eE),m]=gT::(l9 eE++m.l) :=by simp[bytesOf]
  rw[ep] at ay;have jt:=eY.cells;have Ar:(cH m).cells=some [cH m] :=by cases m<;>rfl
  obtain⟨iS,yb⟩:∃ iS,iS=ic (gT::(l9 eE++m.l)) :=⟨_,rfl⟩
  have yc:iS.length=32:=by rw[yb]; exact va _
  rw[<-yb] at ay;have KM:(iS.map bC).length=32:=by simp[yc]
  have KW:fz iS=.aJ (iS.map bC) :=rfl;rw[KW] at ay;have rz:bu (rep 32 (.int .u8 0)) 0 (iS.map bC)=iS.map bC:=fi (by rw[KM]; rfl);have ec:∀ b,gq (.arr 32 1) (.ptr b 0 32) none (some (.int .i64 8)) none=some (.au 1 b 0 8 32 32) :=fun b=>ak5 (b:=b)
  simp[jt,Ar];refine ia ay (.cons (aj6 (by simp) ((eY.more _).rZ (fun _=>rfl) (some (gT::l9 eE)) rfl rfl) (.same _ gi)) .nil) (by simp[U.flat,l7,fz,zX bC (fun _=>rfl)]) ?_;simp[yc,rz,ec];refine cF 8 (Zq iS 0) ?_ ⟨by simp,by simp[vA],⟨l.length+1,32,by simp,by simp[List.getElem?_append],rfl⟩,by simp,by simp⟩;clear eY;rintro k ae l hk ⟨fx,ih,⟨b,n,JU,ag,rfl⟩,JV,JW⟩;obtain⟨ae,rfl⟩:=lk fx ih JU JV JW;clear fx ih JU JV JW;by_cases h:k<8
  ·obtain⟨x,af,_⟩:=bx (l:=iS) (k:=k) (by omega);have fo:IntKind.i64.wrap ((k:Int)+1)=(k+1:Nat) :=wrap_i64 (by omega) (by omega);have ak:=Pq iS k x af;have e2:(k:Int)<8:=by omega
   have aqs:(iS.map bC)[k]? = some (bC x) :=by rw[at0,af]; rfl
   simp[h,e2,ag,fo,af];exact⟨by simp,by simp[ak],⟨b,32,by simp,by simpa using ag,rfl⟩,by simp,by simp⟩
  ·have h5:k=8:=by omega
   subst h5;simp;exact aK (by unfold CR; rw[yb]) rfl
def B5 (r y:D) (m:List B) :D:=(CR (99#8::(l9 [r,y]++m)) % 500000003#64).setWidth 32
theorem XJ (x:Q) :cu .rem .u64 (u x) .u64 500000003=some (.int .u64 (u (x % 500000003#64))) :=zE x 500000003#64 (by decide)
theorem amI (r y:D) (m:e0) (hm:m.l.length<=9991) :bw Tryz.prog GS 206 [bA r,bA y,cH m] (.bE [bA (B5 r y m.l),.int .i64 0]) :=by
 refine bK Tryz.checked.mixed bB ?_;apply bm Tryz.func206 [];have gi:=mH m;simp;refine ia (aec 99#8 m hm [r,y] (by simp)) (.cons (.same _ rfl) (.cons (.same _ gi) (.cons (Ec (by simp)) .nil))) rfl ?_;simp[XJ];exact aK rfl rfl
theorem M8 (a b:D) (ag:b≠0#32) :cu .quo .u32 (u a) .u32 (u b)=some (.int .u32 (u (a / b))) :=by
 have bL:(b.toNat:Int)≠0:=fun e=>ag (aua (by simpa using e))
 show (if IntKind.u32=IntKind.u32/\(b.toNat:Int)≠0 then some (U.int .u32 (IntKind.u32.wrap ((a.toNat:Int).tdiv b.toNat))) else none)=_;rw[if_pos ⟨rfl,bL⟩,Bv];congr 2;have:((a.toNat:Int).tdiv b.toNat)=((a.toNat / b.toNat:Nat) :Int) :=rfl;rw[this,avh];congr 1;apply aua;rw[auc,avq];exact at7 (Nat.lt_of_le_of_lt (Nat.div_le_self _ _) a.isLt)
theorem SM (x:D) {l:ao} {K:U->ao->Prop} (aV:∀ v l',cn 1 cc l l' v (jj x) false->K v l') :cY Tryz.prog GS 223 [bA x] l (c:=⟨K⟩) :=by
 apply bm Tryz.func223 [];have q1:cu .quo .u32 (u x) .u32 16777216=some (.int .u32 (u (x / 16777216#32))) :=M8 x 16777216#32 (by decide);have ff:cu .quo .u32 (u x) .u32 65536=some (.int .u32 (u (x / 65536#32))) :=M8 x 65536#32 (by decide);have iJ:cu .quo .u32 (u x) .u32 256=some (.int .u32 (u (x / 256#32))) :=M8 x 256#32 (by decide);have lf:∀ y:D,cu .rem .u32 (u y) .u32 256=some (.int .u32 (u (y % 256#32))) :=fun y=>aaN y 256#32 (by decide)
 have af:=x.isLt;have aQ:BitVec.setWidth 8 (x / 16777216#32)=BitVec.setWidth 8 (x >>> 24) :=by
  apply aua;rw[aub,aub,avq,auL,auk];rfl
 have bF:BitVec.setWidth 8 (x / 65536#32 % 256#32)=BitVec.setWidth 8 (x >>> 16) :=by
  apply aua;rw[aub,aub,avc,avq,auL,auk];show x.toNat / 65536 % 256 % 256=x.toNat / 65536 % 256;omega
 have dn:BitVec.setWidth 8 (x / 256#32 % 256#32)=BitVec.setWidth 8 (x >>> 8) :=by
  apply aua;rw[aub,aub,avc,avq,auL,auk];show x.toNat / 256 % 256 % 256=x.toNat / 256 % 256;omega
 have kt:BitVec.setWidth 8 (x % 256#32)=BitVec.setWidth 8 x:=by
  apply aua;rw[aub,aub,avc];show x.toNat % 256 % 256=x.toNat % 256;omega
 simp[q1,ff,iJ,lf,aQ,bF,dn,kt];exact aV _ _ ⟨l.length,ps (n:=4) (a:=jj x) rfl (by simp; rfl),by simp,fun b ag=>atV ag,.inr (by simp),rfl⟩
structure ZI (d:List B) (k:Nat) (ae:a8) (l:ao) :Prop where
 a7:ae 3=.ptr 0 0 32
 bD:ae 4=da (vA (d.take k))
 bh:ae 5=.int .i64 k
 gf:l[0]? = some (.cells 32 (d.map bC))
theorem aiI (s:e0) (ak:s.l.length<=1000000) :bw Tryz.prog GS 224 [cH s] (da (CR s.l)) :=by
 refine bK Tryz.checked.mixed bB ?_;apply bm Tryz.func224 [];have uz:=Nh s ak;have ci:=mH s;obtain⟨iS,yb⟩:∃ iS,iS=ic s.l:=⟨_,rfl⟩
 have yc:iS.length=32:=by rw[yb]; exact va _
 rw[<-yb] at uz;have KW:fz iS=.aJ (iS.map bC) :=rfl;rw[KW] at uz;have KM:(iS.map bC).length=32:=by simp[yc]
 have rz:bu (rep 32 (.int .u8 0)) 0 (iS.map bC)=iS.map bC:=fi (by rw[KM]; rfl);simp;refine a1 uz (by simp[bg,ci]) ?_;simp[yc,rz];refine cF 8 (ZI iS) ?_ ⟨by simp,by simp[vA],by simp,rfl⟩;rintro k ae l hk ⟨a7,bD,bh,gf⟩;obtain⟨ae,rfl⟩:=kQ a7 bD bh;clear a7 bD bh;by_cases h:k<8
 ·obtain⟨x,af,_⟩:=bx (l:=iS) (k:=k) (by omega);have fo:IntKind.i64.wrap ((k:Int)+1)=(k+1:Nat) :=wrap_i64 (by omega) (by omega);have ak:=Pq iS k x af;rw[akW] at ak;have e2:(k:Int)<8:=by omega
  have K2:k<32:=by omega
  simp[h,e2,K2,gf,fo,af];exact⟨by omega,by simp,by simp[ak],by simp,gf⟩
 ·have h5:k=8:=by omega
  subst h5;simp;exact aK (by unfold CR; rw[yb]) rfl
theorem ajC (r y:D) (m:e0) (hm:m.l.length<=900000) :bw Tryz.prog GS 168 [bA r,bA y,cH m] (bA (B5 r y m.l)) :=by
 refine bK Tryz.checked.mixed bB ?_;apply bm Tryz.func168 [];have az:cK=140737488355328:=rfl;have gi:=mH m;simp;refine SM r fun e8 l1 h1=>?_
 have Ux:=h1.le;have afW:cn 1 cc [] l1 (.au 1 0 0 1 1 1) [99#8] false:=⟨0,ps (n:=1) (a:=[99#8]) rfl (by rw[h1.same 0 (by simp)]; rfl),by simp,by simp,.inr (by simp),rfl⟩
 obtain⟨dF,bX,aX,a6,a3⟩:=afW.app (by_:=1) (x:=e8) (xs:=jj r) h1.contents (fun _ _=>rfl) (by omega) (by omega) (by rw[az]; simp[jj]);simp[aX];refine dT.cy ?_;simp;refine SM y fun v3 fe aj=>?_
 have afX:cn 1 cc [] fe dF ([99#8]++jj r) false:=a6.frame aj.le aj.same;obtain⟨v4,kK,dW,dB,gg⟩:=afX.app (by_:=1) (x:=v3) (xs:=jj y) aj.contents (fun _ _=>rfl) (by omega) (by omega) (by rw[az]; simp[jj]);simp[dW];refine dT.cy ?_;obtain⟨v5,Mp,cW,dv,j3⟩:=dB.app (by_:=1) (x:=cH m) (xs:=m.l) (RZ _ _) (fun _ _=>rfl) (by omega) (by omega) (by rw[az]; simp[jj]; omega);simp[cW];refine dT.cy ?_;have ag:(c6.l (some ([99#8]++jj r++jj y++m.l)) :List B)=99#8::(l9 [r,y]++m.l) :=by simp[l9]
 have UL:=aiI (some ([99#8]++jj r++jj y++m.l)) (by rw[ag]; simp[l9,jj]; omega);rw[ag] at UL;simp;refine ia UL (.cons (dv.rZ (fun _=>rfl) (some ([99#8]++jj r++jj y++m.l)) (by simp) rfl) .nil) rfl ?_;simp[XJ];exact aK rfl rfl
theorem HL (a n k:Nat) :fN (fN a n) k=fN a (n*k) :=by
 unfold fN; rw[<-awF,<-Nat.pow_mul]
theorem W4 (n:Nat) :fN 1 n=1:=by unfold fN; rw[Nat.one_pow]
theorem ajh (a m n:Nat) :fN a (m+n)=fN a m*fN a n % 1000000007:=by
 unfold fN; rw[awE,awn]
theorem aax:fN 4 500000003=1:=by
 have h:=M1 4 500000003 (by decide) 64 (atW _);rw[show 500000003 / 2 ^ (64 - 64)=500000003 from rfl] at h;rw[<-h];decide +kernel
theorem Md {y:D} (h:fN y.toNat 500000003=1) (n:Nat) :gm (gW y n)=true:=by
 have aq:=rX y n;have aN:=y3 y.toNat n;have h1:fN (fN y.toNat n) 500000003=1:=by
  rw[HL,awT,<-HL,h,W4]
 have aE:fN y.toNat n≠0:=fun e=>by
  rw[e] at h1;have aw:∀ n,0<n->fN 0 n=0:=fun n aC=>by unfold fN; rw[Nat.zero_pow aC]
  rw[aw _ (by decide)] at h1;cases h1
 unfold gm;rw[aq,decide_eq_true (by omega),decide_eq_true aN,decide_eq_true h1]; rfl
theorem Vz {y:D} (h:gm y=true) :fN y.toNat 500000003=1:=by
 unfold gm at h; simp only[atY,decide_eq_true_eq] at h; exact h.2
theorem aaw {y:D} (h:fN y.toNat 500000003=1) {e:Nat} (am:e<500000003) :gW (gW y e) 500000002=gW y (500000003 - e) :=by
 apply aua;rw[rX,rX,rX,HL];rcases e with _ | e
 ·rw[awc,aww,h];unfold fN; rfl
 ·have aQ:(e+1)*500000002=500000003*e+(500000003 - (e+1)) :=by omega
  rw[aQ,ajh,<-HL,h,W4,awm,at7 (y3 _ _)]
def Ea (y:D) (e s:D) :D:=D5 (gW 4#32 s.toNat) (gW y (500000003 - e.toNat))
def Em (y:D) (m:List B) (e s:D) :Bool:=ji e&&(ji s&&decide (B5 (Ea y e s) y m=e))
theorem alJ {e:D} (am:e.toNat<500000003) :(500000003#64 - e.setWidth 64).toNat=500000003 - e.toNat:=by
 rw[BitVec.toNat_sub,aub];have:(500000003#64).toNat=500000003:=rfl;rw[this]; omega
theorem amZ (y:D) (aA:gm y=true) (m:e0) (hm:m.l.length<=9991) (e s:D) :bw Tryz.prog GS 148 [bA y,cH m,.aJ [bA e,bA s]] (.int .i64 (if Em y m.l e s then 0 else 22)) :=by
 refine bK Tryz.checked.mixed bB ?_;apply bm Tryz.func148 [];unfold Em;have bl:cz (.au 1) (cH m)=some (.int .i64 m.l.length) :=qB _;have eG:¬ (9991:Int)<(m.l.length:Int) :=by omega
 have re:¬ 9991<m.l.length:=by omega
 have gi:=mH m;have aZ:=Vz aA;have T8:=Mc y;rw[aA] at T8;simp;refine a1 T8 rfl ?_;obtain⟨M,ny⟩:∃ M:Int,M=if u e<u s then u s else u e:=⟨_,rfl⟩
 have yq:uU (bA e) (bA s)=some (.int .u32 M) :=by rw[ny]; simp[uU,bA]
 have To:(500000003:Int)<=M<->500000003<=e.toNat\/500000003<=s.toNat:=by
  rw[ny]; unfold u; split<;>omega
 simp[bl,eG,re,yq];by_cases h1:500000003<=e.toNat\/500000003<=s.toNat
 ·have ag:(ji e&&(ji s&&decide (B5 (Ea y e s) y m.l=e)))=false:=by
   unfold ji;rcases h1 with h | h
   ·rw[decide_eq_false (by omega)]; rfl
   ·rw[decide_eq_false (p:=s.toNat<500000003) (by omega)]; simp
  have ah:=To.2 h1;simp[ah,ag];exact aK rfl rfl
 ·have ah:¬ (500000003:Int)<=M:=fun h=>h1 (To.1 h)
  have gM:ji e=true:=by unfold ji; exact decide_eq_true (by omega)
  have fT:ji s=true:=by unfold ji; exact decide_eq_true (by omega)
  have UU:=adc y (500000003#64 - e.setWidth 64);have agq:(s.setWidth 64:Q).toNat=s.toNat:=by rw[aub]; omega
  have F4:=ada (s.setWidth 64);rw[aA,if_pos rfl,if_pos rfl,alJ (by omega)] at UU;rw[agq] at F4;have uy:=adb (gW 4#32 s.toNat) (gW y (500000003 - e.toNat));rw[Md (y:=4#32) aax,Md aZ] at uy;simp only[avP,if_true] at uy;have x9:=amI (Ea y e s) y m hm;have eQ:∀ a b:D,((u a:Int)=u b)<->a=b:=fun a b=>⟨fun h=>aua (by unfold u at h; omega),fun h=>by rw[h]⟩
  simp[ah];refine a1 UU rfl ?_;simp;refine a1 F4 rfl ?_;simp;refine a1 uy rfl ?_;simp;refine a1 x9 (by simp[bg,U.closed,gi]) ?_;rw[gM,fT];by_cases aj:B5 (Ea y e s) y m.l=e
  ·simp[aj];exact aK rfl rfl
  ·simp[aj,eQ];exact aK rfl rfl
theorem ajH (s:D) :bw Tryz.prog GS 120 [bA s] (bA (gW 4#32 s.toNat)) :=by
 refine bK Tryz.checked.mixed bB ?_;apply bm Tryz.func120 [];have akF:(s.setWidth 64:Q).toNat=s.toNat:=by rw[aub]; omega
 have F3:=ajA (s.setWidth 64);rw[akF] at F3;simp;refine a1 F3 rfl ?_;simp;exact aK rfl rfl
theorem ajR (y:D) (aA:gm y=true) (m:e0) (hm:m.l.length<=900000) (e s:D) :bw Tryz.prog GS 131 [bA y,cH m,.aJ [bA e,bA s]] (.bool (Em y m.l e s)) :=by
 refine bK Tryz.checked.mixed bB ?_;apply bm Tryz.func131 [[[0],[1],[3],[5],[6],[8],[9],[2,9],[4,9],[7,9]]];unfold Em;have gi:=mH m;have aZ:=Vz aA;have eQ:∀ a b:D,((u a:Int)=u b)<->a=b:=fun a b=>⟨fun h=>aua (by unfold u at h; omega),fun h=>by rw[h]⟩
 simp;refine a1 (Fz e) rfl ?_;cases h1:ji e with
 | false=>simp; exact aK rfl rfl
 | true=>
 simp;refine a1 (Fz s) rfl ?_;cases ad:ji s with
 | false=>simp; exact aK rfl rfl
 | true=>
 have am:e.toNat<500000003:=by unfold ji at h1; exact of_decide_eq_true h1
 have ab1:(e.setWidth 64:Q).toNat=e.toNat:=by rw[aub]; omega
 have UY:=Nb y (e.setWidth 64);rw[ab1] at UY;have Uf:=ajG (gW y e.toNat);rw[Md aZ,if_pos rfl,if_pos rfl,aaw aZ am] at Uf;have F3:=ajH s;have Ax:=ajP (gW 4#32 s.toNat) (gW y (500000003 - e.toNat));have x9:=ajC (Ea y e s) y m hm;simp;refine a1 UY rfl ?_;simp;refine a1 Uf rfl ?_;simp;refine a1 F3 rfl ?_;simp;refine a1 Ax rfl ?_;simp;refine a1 x9 (by simp[bg,U.closed,gi]) ?_;simp[eQ];exact aK rfl rfl
def NP (o:bq) :Bool:=Em o.hL (kN o) o.e o.s
def qQ (o:bq) :Int:=if fA o=0 then (if NP o then 0 else 22) else fA o
theorem WA {o:bq} (av:∀ x∈o.bp.l,x.length=32) (h:fA o=0) :gm o.hL=true/\(kN o).length<=9991:=by
 have aF:=A4 h;unfold fA at h;rw[if_neg (by omega)] at h;split at h
 ·split at h
  ·rename_i az ar;unfold sF at ar;simp only[atY,decide_eq_true_eq] at ar;obtain⟨aM,aT,a7,bD,bh⟩:=ar;refine⟨aM,?_⟩;have K5:o.act.key.length<=20/\(o.act.kind=4#8->o.act.val.text.length<=30) :=by
    unfold j1 at a7;split at a7
    ·rename_i h1;simp only[atY,decide_eq_true_eq] at a7;rw[a7.1];exact⟨by simp,fun h=>by rw[h1] at h; cases h⟩
    ·split at a7
     ·rename_i h1 ad;simp only[atY] at a7;have hk:=a7.1;unfold gA at hk;simp only[atY,decide_eq_true_eq] at hk;exact⟨hk.1.2,fun h=>by rw[h] at ad; rcases ad with ad | ad<;>cases ad⟩
     ·split at a7
      ·simp only[atY] at a7;obtain⟨hk,aq⟩:=a7;unfold gA at hk;simp only[atY,decide_eq_true_eq] at hk;refine⟨hk.1.2,fun _=>?_⟩;unfold jG at aq;split at aq
       ·simp only[atY,decide_eq_true_eq] at aq; rw[aq.2]; simp
       ·split at aq
        ·simp only[atY,decide_eq_true_eq] at aq; rw[aq.1.2]; simp
        ·split at aq
         ·simp only[atY,decide_eq_true_eq] at aq; exact aq.1.2
         ·cases aq
      ·cases a7
   have lR:=h9 o.hL.toNat
   have ow:=h9 o.cX.toNat
   have uW:=DL av;have ta:=Bp (fr o.act.key);rw[qK] at ta;have lS:=EC o.act.val;have n6:(opHead o).length<=10:=by unfold opHead; simp; omega
   unfold kN;simp only[at4,auf,auy];have n7:(if o.act.kind=1#8 then ([] :List B) else i9 (fr o.act.key)).length<=29:=by
    split
    ·simp
    ·omega
   have n8:(if o.act.kind=4#8 then ja o.act.val else []).length<=50:=by
    split
    ·rename_i h; have:=K5.2 h; omega
    ·simp
   omega
  ·cases h
 ·cases h
theorem am0 (o:bq) (ap:ko o) :bw Tryz.prog GS 95 [.aJ (bd o)] (.int .i64 (qQ o)) :=by
 refine bK Tryz.checked.mixed bB ?_;apply bm Tryz.func95 [];unfold qQ;have cD:=l6 o;have dh:=Ip o ap;have ya:bg [U.aJ (bd o)]=true:=by simp[bg,U.closed,cD]
 by_cases aE:fA o=0
 ·obtain⟨ar,bl⟩:=WA ap.ids aE;rw[if_pos aE];simp[bd];refine a1 dh ya ?_;simp[aE];refine Za o ap (Pj aE) fun w l' h=>?_
  have gf:l'[0]? = some (.cells 11 (bd o)) :=by rw[h.same 0 (by simp)]; rfl
  have D1:=gf;simp[bd] at D1;have aq:=amZ o.hL ar (some (kN o)) bl o.e o.s;simp[D1];refine ia aq (.cons (.same _ rfl) (.cons (h.rZ (fun _=>rfl) (some (kN o)) rfl rfl) (.cons (.same _ rfl) .nil))) rfl ?_;simp;exact aK rfl rfl
 ·rw[if_neg aE];simp[bd];refine a1 dh ya ?_;simp[aE];exact aK rfl rfl
theorem ajU (o:bq) (ap:ko o) (aE:fA o=0) :bw Tryz.prog GS 82 [.aJ (bd o)] (.bool (NP o)) :=by
 refine bK Tryz.checked.mixed bB ?_;apply bm Tryz.func82 [[[0],[1],[2],[4],[5],[3,5,1]]];have cD:=l6 o;obtain⟨ar,bl⟩:=WA ap.ids aE;have aq:=ajR o.hL ar (some (kN o)) (by show (kN o).length<=_; omega) o.e o.s;simp[bd];refine Xt o ap (by have:=A4 aE; omega) fun w l' h=>?_
 have gf:l'[0]? = some (.cells 11 (bd o)) :=by rw[h.same 0 (by simp)]; rfl
 have D1:=gf;simp[bd] at D1;simp[D1];refine ia aq (.cons (.same _ rfl) (.cons (h.rZ (fun _=>rfl) (some (kN o)) rfl rfl) (.cons (.same _ rfl) .nil))) rfl ?_;simp;exact aK rfl rfl
theorem ajZ (o:bq) (ap:ko o) :bw Tryz.prog GS 39 [.aJ (bd o)] (.int .i64 (qQ o)) :=by
 refine bK Tryz.checked.mixed bB ?_;apply bm Tryz.func39 [];unfold qQ;have cD:=l6 o;have dh:=ajL o ap;have ya:bg [U.aJ (bd o)]=true:=by simp[bg,U.closed,cD]
 by_cases aE:fA o=0
 ·rw[if_pos aE];simp[bd];refine a1 dh ya ?_;simp[aE];refine a1 (ajU o ap aE) ya ?_;cases ak:NP o with
  | true=>simp; exact aK rfl rfl
  | false=>simp; exact aK rfl rfl
 ·rw[if_neg aE];simp[bd];refine a1 dh ya ?_;simp[aE];refine a1 dh ya ?_;simp;exact aK rfl rfl
end Op

end Go.cb

namespace Go.cb
open Go Go.Proofs
set_option maxRecDepth 100000
namespace Op

section
variable {α:Type} {z:Nat} {enc:α->List U}
theorem MJ {by_:Nat} {l l1:ao} {v:U} {a:List α} {g2:Bool} (h:cn z enc l l1 v a g2) (x:α) {b:Nat} (ag:l1[b]? = some (.cells z (enc x))) (af:(enc x).length=z) (aE:z≠0) (ep:by_≠0) (dN:(a.length+1)*by_<=cK) :
  ∃ aY l',iP l1 z by_ v (.au z b 0 1 1 z)=some (aY,l')/\cn z enc l l' aY (a++[x]) false/\l1.length<=l'.length:=by
 obtain⟨aY,l',aM,aT,a7⟩:=h.app (by_:=by_) (x:=.au z b 0 1 1 z) (xs:=[x]) (by simp[dM,ag,af,atT]) (by simp[af]) aE ep (by simpa using dN);exact⟨aY,l',aM,by simpa using aT,a7⟩
def jR (l:List α) (i:Nat) (x:α) :List α:=l.take i++x::l.drop i
theorem AO (l:List α) (i:Nat) (x:α) :(jR l i x).length=l.length+1:=by
 unfold jR;have:=congrArg List.length (auz i l);simp only[at4,auf] at this ⊢; omega
theorem G7 {l:List α} {i:Nat} {x y:α}:y∈jR l i x<->y=x\/y∈l:=by
 unfold jR;rw[aup,auG];constructor
 ·rintro (h | h | h)
  ·exact .inr (aur h)
  ·exact .inl h
  ·exact .inr (avC h)
 ·rintro (h | h)
  ·exact .inr (.inl h)
  ·rw[<-auz i l,aup] at h;exact h.elim .inl fun h=>.inr (.inr h)
def nP (lt:α->α->Bool) (l:List α) (x:α) :Nat->Nat
 | 0=>0
 | k+1=>match l[k]? with
  | some y=>if lt x y then nP lt l x k else k+1
  | none=>k+1
theorem WY {lt:α->α->Bool} {l:List α} {x y:α} {k:Nat} (h:l[k]? = some y) :nP lt l x (k+1)=if lt x y then nP lt l x k else k+1:=by
 rw[nP,h]
theorem Vx {lt:α->α->Bool} (yE:∀ a b c,lt a b=true->lt b c=true->lt a c=true) {l:List α} {x:α} (ak:l.Pairwise fun a b=>lt a b=true) (af:∀ y∈l,lt x y=false->lt y x=true) :
  (jR l (nP lt l x l.length) x).Pairwise fun a b=>lt a b=true:=by
 have key:∀ k,k<=l.length->(∀ y∈l.drop k,lt x y=true)->(jR l (nP lt l x k) x).Pairwise fun a b=>lt a b=true:=by
  intro k
  induction k with
  | zero=>
   intro _ h;show (jR l 0 x).Pairwise _;unfold jR;rw[avd,auT,au3,avV];exact⟨h,ak⟩
  | succ k aI=>
   intro hk h;obtain⟨y,aA,cm⟩:=bx (l:=l) (k:=k) (by omega);rw[WY aA];have bH:l.drop k=y::l.drop (k+1) :=by rw[auU (by omega),(atU.1 aA).2]
   have aH:l.take (k+1)=l.take k++[y] :=by rw[aud,aA]; rfl
   cases kE:lt x y with
   | true=>
    rw[if_pos rfl];refine aI (by omega) fun w hw=>?_
    rw[bH] at hw;rcases auG.1 hw with rfl | hw
    ·exact kE
    ·exact h w hw
   | false=>
    rw[if_neg (by simp)];have Vl:=af y cm kE;have h1:∀ a∈l.take (k+1),lt a x=true:=fun a ax=>by
     rw[aH,aup,aui] at ax;rcases ax with ax | rfl
     ·have ad:(l.take k++y::l.drop (k+1)).Pairwise fun a b=>lt a b=true:=by rw[<-bH,auz]; exact ak
      exact yE _ _ _ ((av4.1 ad).2.2 a ax y (by simp)) Vl
     ·exact Vl
    unfold jR;have ad:=ak;rw[<-auz (k+1) l] at ad;obtain⟨oy,wX,WM⟩:=av4.1 ad;refine av4.2 ⟨oy,avV.2 ⟨h,wX⟩,fun a ax b ag=>?_⟩;rcases auG.1 ag with rfl | ag
    ·exact h1 a ax
    ·exact WM a ax b ag
 exact key _ (atW _) (by simp)
theorem Er {lt:α->α->Bool} (Gq:∀ a,lt a a=false) (yE:∀ a b c,lt a b=true->lt b c=true->lt a c=true) :∀ {l m:List α},l.Pairwise (fun a b=>lt a b=true)->m.Pairwise (fun a b=>lt a b=true)->(∀ y,y∈l<->y∈m)->l=m
 | [],[],_,_,_=>rfl
 | [],b::m,_,_,h=>absurd ((h b).2 (by simp)) (by simp)
 | a::l,[],_,_,h=>absurd ((h a).1 (by simp)) (by simp)
 | a::l,b::m,al,hm,h=>by
  obtain⟨l1,bX⟩:=avV.1 al;obtain⟨kL,ki⟩:=avV.1 hm;have eg:a=b:=by
   rcases auG.1 ((h a).1 (by simp)) with e | e
   ·exact e
   ·rcases auG.1 ((h b).2 (by simp)) with bF | bF
    ·exact bF.symm
    ·have:=yE _ _ _ (kL a e) (l1 b bF);rw[Gq] at this; cases this
  subst eg;congr 1;refine Er Gq yE bX ki fun y=>⟨fun aA=>?_,fun aA=>?_⟩
  ·rcases auG.1 ((h y).1 (by simp[aA])) with e | e
   ·subst e;have:=l1 y aA;rw[Gq] at this; cases this
   ·exact e
  ·rcases auG.1 ((h y).2 (by simp[aA])) with e | e
   ·subst e;have:=kL y aA;rw[Gq] at this; cases this
   ·exact e
def nW (lt:α->α->Bool) (u:List α) :Nat->List α
 | 0=>[]
 | i+1=>match u[i]? with
  | some x=>jR (nW lt u i) (nP lt (nW lt u i) x (nW lt u i).length) x
  | none=>nW lt u i
theorem NQ {lt:α->α->Bool} {u:List α} {i:Nat} {x:α} (h:u[i]? = some x) :nW lt u (i+1)=jR (nW lt u i) (nP lt (nW lt u i) x (nW lt u i).length) x:=by rw[nW,h]
theorem Yf {lt:α->α->Bool} {u:List α}:∀ {i:Nat},i<=u.length->(nW lt u i).length=i
 | 0,_=>rfl
 | i+1,h=>by
  obtain⟨x,af,_⟩:=bx (l:=u) (k:=i) (by omega);rw[NQ af,AO,Yf (by omega)]
theorem Ep {lt:α->α->Bool} {u:List α} {y:α}:∀ {i:Nat},i<=u.length->(y∈nW lt u i<->y∈u.take i)
 | 0,_=>by simp[nW]
 | i+1,h=>by
  obtain⟨x,af,_⟩:=bx (l:=u) (k:=i) (by omega);rw[NQ af,G7,Ep (by omega),aud,af,aup];simp[or_comm]
theorem NR {lt:α->α->Bool} (yE:∀ a b c,lt a b=true->lt b c=true->lt a c=true) (Va:∀ a b,a≠b->lt a b=false->lt b a=true) {u:List α} (aC:u.Nodup) :∀ {i:Nat},i<=u.length->(nW lt u i).Pairwise fun a b=>lt a b=true
 | 0,_=>List.Pairwise.nil
 | i+1,h=>by
  obtain⟨x,af,_⟩:=bx (l:=u) (k:=i) (by omega);rw[NQ af];refine Vx yE (NR yE Va aC (by omega)) fun y aA kE=>Va x y (fun e=>?_) kE
  subst e;rw[Ep (by omega)] at aA;have ad:(u.take i++[x]).Nodup:=by
   have:u.take (i+1)=u.take i++[x] :=by rw[aud,af]; rfl
   rw[<-this]; exact aC.sublist (awk _ _)
  exact (au1.1 ad).2.2 x aA x (by simp) rfl
end

section
variable {α:Type} [DecidableEq α]
end

end Op

end Go.cb

/-
  Lists of ids as bytes: walked in both texts.
-/
import Derived.Test.YtobphgccoalchaaGreatDoorQh
set_option linter.unusedVariables false
set_option linter.unusedSimpArgs false
set_option linter.unnecessarySimpa false
namespace Go.b2
open Go Go.Proofs
set_option maxRecDepth 100000
namespace Op
open gh
def rk (l:List (List B)) :List B:=et l.length++l.flatten
theorem Q7:∀ (x:List B),ly 1 x.length (x.map bB)=x.map b7
 | []=>rfl
 | b::r=>by
  show ((bB b::r.map bB).take 1) ::ly 1 r.length ((bB b::r.map bB).drop 1)=_;simp[Q7 r,b7]
theorem aax {x:List B} (h:x.length=32) :ly 1 32 (aR x)=x.map b7:=by
 have:=Q7 x;rw[h] at this;exact this
theorem Lj {l:List (List B)} (h:∀ x∈l,x.length=32) :l.flatten.length=l.length*32:=l9 h
theorem XV {l:List (List B)} {k:Nat} {x:List B} (h:l[k]? = some x) :(l.take (k+1)).flatten=(l.take k).flatten++x:=by
 rw[atJ,h]; simp
theorem akp {x:List B} (h:x.length=32) :gg (.arr 32 1) (.b6 (aR x) 0) none none none=some (.bD 1 (x.map b7)) :=by
 have:=aax h;have ag:gv 32 32 none none none=some (0,32,32) :=rfl;unfold gg;simp only[ag];simp[cQ h,this]
structure YZ (l:am) (s:fq) (k:Nat) (ae:a7) (l1:am) :Prop where
 b8:ae 0=cK 32 aR s
 bu:ae 4=.int .i64 k
 sQ:∃ v,ae 3=v/\cf 1 b7 l l1 v (et s.l.length++(s.l.take k).flatten) false
theorem ai7 (s:fq) (ap:h0 s) (al:s.l.length<=1000) {l:am} {K:U->am->Prop} (aV:∀ v l',cf 1 b7 l l' v (rk s.l) false->K v l') :
  c7 Tryz.prog GS 171 [aU s] l (c:=⟨K⟩) :=by
 apply bj Tryz.func171 [];have ax:ct=140737488355328:=rfl;have aC:(BitVec.ofNat 64 s.l.length).toNat=s.l.length:=by rw[atK]; exact atD (by omega)
 have nf:=hZ s.l.length;simp[aU];refine wz _ fun v l' h=>?_
 rw[aC] at h;simp;refine cF s.l.length (YZ l s) ?_ ⟨by simp[aU],by simp,v,by simp,by simpa using h⟩;rintro k ae l1 hk ⟨b8,bu,v,a8,en⟩;obtain⟨ae,rfl⟩:=kq b8 a8 bu;clear b8 a8 bu;simp;refine kk (fun h=>?_) (fun h=>?_)
 ·simp only[decide_eq_true_eq] at h;obtain⟨x,af,cX⟩:=bA (l:=s.l) (k:=k) (by omega);have aQ:IntKind.i64.wrap ((k:Int)+1)=((k+1:Nat) :Int) :=by rw[IntKind.wrap_i64]; omega
  have fL:((s.l.take k).flatten).length<=32000:=by
   rw[Lj (fun y az=>ap y (at0 az)),atN]; omega
  obtain⟨aY,b5,aS,aX,_⟩:=en.app (by_:=1) (x:=.bD 1 (x.map b7)) (xs:=x) (by simp[dp]) (by simp[b7]) (by omega) (by omega) (by rw[ax,ap x cX]; simp only[atB]; omega);simp[af,cQ (ap x cX),atr,akp (ap x cX),aS];refine c0.cq ?_;simp[aQ];exact⟨by omega,by simp,by simp,aY,by simp,by rw[XV af,<-at1]; exact aX⟩
 ·simp[h];have aI:s.l.take k=s.l:=atr (by simp at h; omega);rw[aI] at en;exact aV _ _ en
structure Y0 (l:am) (s:fq) (k:Nat) (ae:a7) (l1:am) :Prop where
 nO:ae 17=cK 32 aR s
 r9:ae 18=.int .i64 s.l.length
 sa:ae 19=.int .i64 k
 sQ:∃ v,ae 4=v/\cf 1 b7 l l1 v (et s.l.length++(s.l.take k).flatten) false
theorem ama (s:fq) (ap:h0 s) (al:s.l.length<=60) (ax:dN s.l=true) {l:am} {K:U->am->Prop} (aV:∀ v l',cf 1 b7 l l' v (rk s.l) false->K (.bG [v,.int .i64 0]) l') :
  c7 Tryz.prog GS 200 [aU s] l (c:=⟨K⟩) :=by
 apply bj Tryz.func200 [];have x6:ct=140737488355328:=rfl;have aC:(BitVec.ofNat 64 s.l.length).toNat=s.l.length:=by rw[atK]; exact atD (by omega)
 have nf:=hZ s.l.length;have pI:¬ (60:Int)<(s.l.length:Int) :=by omega
 simp[aU,pI];refine bf (ajT s ap (by omega)) (by have:=gM s; simp[bm]; exact this) ?_;simp[ax,aU];refine yS _ fun v l' h=>?_
 rw[aC] at h;simp[aU];refine cF s.l.length (Y0 l s) ?_ ⟨by simp[aU],by simp,by simp,v,by simp,by simpa using h⟩;rintro k ae l1 hk ⟨nO,r9,sa,v,bu,en⟩;obtain⟨ae,rfl⟩:=iv nO r9 sa bu;clear nO r9 sa bu;simp;refine kk (fun h=>?_) (fun h=>?_)
 ·simp only[decide_eq_true_eq] at h;obtain⟨x,af,cX⟩:=bA (l:=s.l) (k:=k) (by omega);have aQ:IntKind.i64.wrap ((k:Int)+1)=((k+1:Nat) :Int) :=by rw[IntKind.wrap_i64]; omega
  have fL:((s.l.take k).flatten).length<=32000:=by
   rw[Lj (fun y az=>ap y (at0 az)),atN]; omega
  obtain⟨aY,b5,aS,aX,_⟩:=(en.more [.cells 32 (aR x)]).app (by_:=1) (x:=.au 1 l1.length 0 32 32 32) (xs:=x) (by simp[dp,ap x cX,cQ (ap x cX),atr,aR,xi]) (by simp[b7]) (by omega) (by omega) (by rw[x6,ap x cX]; simp only[atB]; omega);have k8:bz (rep 32 (.int .u8 0)) 0 (aR x)=aR x:=fE (by rw[cQ (ap x cX)]; rfl);simp[af,cQ (ap x cX),atr,DU,k8,aS];refine c0.cq ?_;simp[aQ];exact⟨by omega,by simp,by simp,by simp,aY,by simp,by rw[XV af,<-at1]; exact aX⟩
 ·simp[h];have aI:s.l.take k=s.l:=atr (by simp at h; omega);rw[aI] at en;exact aV _ _ en
def e8 (s:List UInt8) :List B:=s.map fun b=>b.toBitVec
theorem HG (s:List UInt8) :(s.map fun b=>[iO b])=(e8 s).map b7:=by
 unfold e8;rw[avw];rfl
theorem qo (s:List UInt8) :(e8 s).length=s.length:=by simp[e8]
def ov (b:Q) (k:Nat) :List B:=(List.range k).map fun i=>lx b.toNat (7 - i)
def iJ (v:gK) :List B:=v.kind::(if v.kind=1#8 then et (mH v.num).toNat else if v.kind=2#8 then ov v.bits 8 else iI (e8 v.text))
def Ay (v:gK) :Prop:=-9223372036854775808<=v.num/\v.num<9223372036854775808/\v.text.length<=10000
theorem OI (b:Q) (k:Nat) :ov b (k+1)=ov b k++[lx b.toNat (7 - k)] :=by
 unfold ov; rw[auK,atX]; rfl
theorem Dn (l:am) (c:a2) (x:B) :cf 1 b7 l (l++[c,.cells 1 [bB x]]) (.au 1 (l.length+1) 0 1 1 1) [x] false:=by
 exact⟨l.length+1,o5 (n:=1) (a:=[x]) rfl (by simp),by simp,fun b ag=>ats ag,.inr (by omega),rfl⟩
theorem uE (l:am) (c:a2) (x:B) :cf 1 b7 (l++[c]) (l++[c,.cells 1 [bB x]]) (.au 1 (l.length+1) 0 1 1 1) [x] false:=by
 have e:l++[c,.cells 1 [bB x]]=(l++[c])++[.cells 1 [bB x]] :=by simp
 exact⟨l.length+1,o5 (n:=1) (a:=[x]) rfl (by simp),by simp,fun b ag=>by rw[e]; exact ats ag,.inr (by simp),rfl⟩
structure YL (l:am) (v:gK) (p:Nat) (k:Nat) (ae:a7) (l1:am) :Prop where
 aL:ae 1=.ptr p 0 4
 bu:ae 4=.int .i64 (7 - (k:Int))
 sQ:∃ w,ae 3=w/\cf 1 b7 (l++[.cells 4 (cW v)]) l1 w (v.kind::ov v.bits k) false
theorem ajk (v:gK) (aq:Ay v) {l:am} {K:U->am->Prop} (aV:∀ w l',cf 1 b7 l l' w (iJ v) false->K w l') :
  c7 Tryz.prog GS 173 [.aM (cW v)] l (c:=⟨K⟩) :=by
 apply bj Tryz.func173 [];have ax:ct=140737488355328:=rfl;have aE:=Dn l (.cells 4 (cW v)) v.kind;obtain⟨oR,nV,aI⟩:=aq;have ah:vt (.str v.text)=some (.bD 1 ((e8 v.text).map b7)) :=by
  show some (U.bD 1 (v.text.map fun b=>[iO b]))=_;rw[HG]
 by_cases ca:v.kind=1#8
 ·have ni:iJ v=[v.kind]++et (mH v.num).toNat:=by unfold iJ; rw[if_pos ca]; rfl
  have aQ:(u v.kind:Int)=1:=(ih v.kind).2 ca;simp only[bB,aQ] at aE;have nf:=hZ (mH v.num).toNat
  simp[cW,aQ];refine ajh v.num oR nV fun w l' h=>?_
  obtain⟨aY,b5,aS,aX,_⟩:=(aE.frame h.le h.same).app (by_:=1) (x:=w) (xs:=et (mH v.num).toNat) h.contents (by simp[b7]) (by omega) (by omega) (by rw[ax]; simp only[atL,at7]; omega);simp[aS];refine c0.cq ?_;simp;exact aV _ _ (by rw[ni]; exact aX)
 ·have aQ:¬ (u v.kind:Int)=1:=fun h=>ca ((ih v.kind).1 h)
  by_cases cy:v.kind=2#8
  ·have bF:(u v.kind:Int)=2:=(lp v.kind).2 cy;have ni:iJ v=v.kind::ov v.bits 8:=by unfold iJ; rw[if_neg ca,if_pos cy]
   have ad:=uE l (.cells 4 (cW v)) v.kind;simp only[bB,bF] at ad;simp[cW,bF];refine cF 8 (YL l v l.length) ?_ ⟨by simp,by simp,_,by simp,ad⟩;rintro k ae l1 hk ⟨aL,bu,w,a8,en⟩;have ay:l1[l.length]? = some (.cells 4 (cW v)) :=by rw[en.same l.length (by simp)]; simp
   obtain⟨ae,rfl⟩:=kq aL a8 bu;clear aL a8 bu;by_cases hT:k=8
   ·subst hT;rw[<-ni] at en;simp;exact aV _ _ (en.base (by simp) fun b ag=>ats ag)
   ·obtain⟨m,hm⟩:∃ m,m+k=7:=⟨7 - k,by omega⟩
    have em:7 - (k:Int)=(m:Int) :=by omega
    have I5:IntKind.i64.wrap ((m:Int) - 1)=(m:Int) - 1:=by rw[IntKind.wrap_i64]; omega
    have abl:IntKind.i64.wrap (8*(m:Int))=((8*m:Nat) :Int) :=by rw[IntKind.wrap_i64]; omega
    have mG:cm .shr .u64 (u v.bits) .i64 ((8*m:Nat) :Int)=some (.int .u64 (u (v.bits >>> (8*m)))) :=tz v.bits .i64 (8*m);have rJ:=Ev v.bits m;have bh:(v.kind::ov v.bits k).length<=1000000000:=by simp[ov]; omega
    obtain⟨w',l',aS,aX⟩:=cf.push en (lx v.bits.toNat m) bh;rw[em];simp[cW] at ay;simp[ay,abl,mG,rJ,aS,-Int.natCast_mul];refine c0.cq ?_;simp[I5];exact⟨by omega,by simp,by simp; omega,w',by simp,by rw[OI,show 7 - k=m by omega]; exact aX⟩
  ·have bF:¬ (u v.kind:Int)=2:=fun h=>cy ((lp v.kind).1 h)
   have ni:iJ v=[v.kind]++iI (e8 v.text) :=by unfold iJ; rw[if_neg ca,if_neg cy]; rfl
   have la:(iI (e8 v.text)).length<=20000:=by
    have:=hZ (e8 v.text).length;unfold iI;rw[atB];have:=qo v.text;omega
   simp[cW,aQ,bF,ah];refine WQ (some (e8 v.text)) (by simpa [qo] using aI) (by simp[dp]) (by simp) (fun l' _ _=>by simp[dp]) fun w l' h=>?_
   obtain⟨aY,b5,aS,aX,_⟩:=(aE.frame h.le h.same).app (by_:=1) (x:=w) (xs:=iI (e8 v.text)) h.contents (by simp[b7]) (by omega) (by omega) (by rw[ax]; simp only[atL,at7]; omega);simp[aS];refine c0.cq ?_;simp;exact aV _ _ (by rw[ni]; exact aX)
structure YM (l:am) (v:gK) (p:Nat) (k:Nat) (ae:a7) (l1:am) :Prop where
 aL:ae 1=.ptr p 0 4
 ch:ae 6=.int .i64 (8*(7 - (k:Int)))
 sQ:∃ w,ae 5=w/\cf 1 b7 (l++[.cells 4 (cW v)]) l1 w (v.kind::ov v.bits k) false
theorem ag2 {v:gK} (h:jx v=true) (ca:¬ v.kind=1#8) (cy:¬ v.kind=2#8) :v.kind=3#8:=by
 unfold jx at h;simp[ca,cy] at h;exact h.1
theorem amm (v:gK) (aq:Ay v) (dG:jx v=true) {l:am} {K:U->am->Prop} (aV:∀ w l',cf 1 b7 l l' w (iJ v) false->K (.bG [w,.int .i64 0]) l') :
  c7 Tryz.prog GS 202 [.aM (cW v)] l (c:=⟨K⟩) :=by
 apply bj Tryz.func202 [];have ax:ct=140737488355328:=rfl;have aE:=Dn l (.cells 4 (cW v)) v.kind;obtain⟨oR,nV,aI⟩:=aq;have ah:vt (.str v.text)=some (.bD 1 ((e8 v.text).map b7)) :=by
  show some (U.bD 1 (v.text.map fun b=>[iO b]))=_;rw[HG]
 have dr:=NG v;rw[dG] at dr;by_cases ca:v.kind=1#8
 ·have ni:iJ v=[v.kind]++et (mH v.num).toNat:=by unfold iJ; rw[if_pos ca]; rfl
  have aQ:(u v.kind:Int)=1:=(ih v.kind).2 ca;simp only[bB,aQ] at aE;have nf:=hZ (mH v.num).toNat
  simp[cW];refine bf dr rfl ?_;simp[hO,aQ];refine amk v.num oR nV fun w l' h=>?_
  obtain⟨aY,b5,aS,aX,_⟩:=(aE.frame h.le h.same).app (by_:=1) (x:=w) (xs:=et (mH v.num).toNat) h.contents (by simp[b7]) (by omega) (by omega) (by rw[ax]; simp only[atL,at7]; omega);simp[aS];refine c0.cq ?_;simp;exact aV _ _ (by rw[ni]; exact aX)
 ·have aQ:¬ (u v.kind:Int)=1:=fun h=>ca ((ih v.kind).1 h)
  by_cases cy:v.kind=2#8
  ·have bF:(u v.kind:Int)=2:=(lp v.kind).2 cy;have ni:iJ v=v.kind::ov v.bits 8:=by unfold iJ; rw[if_neg ca,if_pos cy]
   have ad:=uE l (.cells 4 (cW v)) v.kind;simp only[bB,bF] at ad;simp[cW];refine bf dr rfl ?_;simp[hO,bF];refine cF 8 (YM l v l.length) ?_ ⟨by simp,by simp,_,by simp,ad⟩;rintro k ae l1 hk ⟨aL,ch,w,bc,en⟩;have ay:l1[l.length]? = some (.cells 4 (cW v)) :=by rw[en.same l.length (by simp)]; simp
   obtain⟨ae,rfl⟩:=kq aL bc ch;clear aL bc ch;by_cases hT:k=8
   ·subst hT;rw[<-ni] at en;simp;exact aV _ _ (en.base (by simp) fun b ag=>ats ag)
   ·obtain⟨m,hm⟩:∃ m,m+k=7:=⟨7 - k,by omega⟩
    obtain⟨n,aC⟩:∃ n,n=8*m:=⟨_,rfl⟩
    have em:8*(7 - (k:Int))=(n:Int) :=by omega
    have I5:IntKind.i64.wrap ((n:Int) - 8)=(n:Int) - 8:=by rw[IntKind.wrap_i64]; omega
    have mG:cm .shr .u64 (u v.bits) .i64 (n:Int)=some (.int .u64 (u (v.bits >>> n))) :=tz v.bits .i64 n;have rJ:=Ev v.bits m;rw[<-aC] at rJ;have bh:(v.kind::ov v.bits k).length<=1000000000:=by simp[ov]; omega
    obtain⟨w',l',aS,aX⟩:=cf.push en (lx v.bits.toNat m) bh;rw[em];simp[cW] at ay;simp[ay,mG,rJ,aS];refine c0.cq ?_;simp[I5];exact⟨by omega,by simp,by simp; omega,w',by simp,by rw[OI,show 7 - k=m by omega]; exact aX⟩
  ·have bF:¬ (u v.kind:Int)=2:=fun h=>cy ((lp v.kind).1 h)
   have dz:(u v.kind:Int)=3:=(pf v.kind).2 (ag2 dG ca cy);have ni:iJ v=[v.kind]++iI (e8 v.text) :=by unfold iJ; rw[if_neg ca,if_neg cy]; rfl
   have la:(iI (e8 v.text)).length<=20000:=by
    have:=hZ (e8 v.text).length;unfold iI;rw[atB];have:=qo v.text;omega
   simp only[bB,dz] at aE;simp[cW];refine bf dr rfl ?_;simp[hO,dz,ah];refine Yr (some (e8 v.text)) (by simpa [qo] using aI) (by simp[dp]) (by simp) (fun l' _ _=>by simp[dp]) fun w l' h=>?_
   obtain⟨aY,b5,aS,aX,_⟩:=(aE.frame h.le h.same).app (by_:=1) (x:=w) (xs:=iI (e8 v.text)) h.contents (by simp[b7]) (by omega) (by omega) (by rw[ax]; simp only[atL,at7]; omega);simp[aS];refine c0.cq ?_;simp;exact aV _ _ (by rw[ni]; exact aX)
structure bp where
 ht:D
 bo:fq
 c3:Q
 act:Act
 e:D
 s:D
def bl (o:bp) :List U:=[br o.ht,aU o.bo,c4 o.c3,bB o.act.kind,.str o.act.key,bB o.act.val.kind,.int .i64 o.act.val.num,c4 o.act.val.bits,.str o.act.val.text,br o.e,br o.s]
structure lZ (o:bp) :Prop where
 ids:h0 o.bo
 len:o.bo.l.length<=1000000
 val:Ay o.act.val
 key:o.act.key.length<=10000
def sb (o:bp) :Bool:=fX o.ht&&(decide (o.c3.toNat<=1000000000000)&&(jF o.act&&(iR o.e&&iR o.s)))
def fY (o:bp) :Int:=if 4<o.bo.l.length then 4 else if dN o.bo.l then (if sb o then 0 else 8) else 32
theorem pA (o:bp) :bm (bl o)=true:=by
 have:=gM o.bo;simp[bl,bm,U.closed,this]
theorem aja (o:bp) (ap:lZ o) :bw Tryz.prog GS 81 [.aM (bl o)] (.int .i64 (fY o)) :=by
 refine bP Tryz.checked.mixed bC ?_;apply bj Tryz.func81 [];unfold fY;have dE:=gM o.bo;have bh:cP (.au 32) (aU o.bo)=some (.int .i64 o.bo.l.length) :=by simp[aU]
 have iV:(aU o.bo).cells=some [aU o.bo] :=by cases o.bo<;>rfl
 obtain⟨p,ay⟩:∃ p,p=aU o.bo:=⟨_,rfl⟩
 by_cases h1:4<o.bo.l.length
 ·have dC:(4:Int)<(o.bo.l.length:Int) :=by omega
  rw[if_pos h1];simp[bl,bh,dC];exact aP rfl rfl
 ·have dC:¬ (4:Int)<(o.bo.l.length:Int) :=by omega
  rw[if_neg h1];simp[bl,bh,dC];refine bf (WO o.bo ap.ids ap.len) (by simp[bm,dE]) ?_;cases ad:dN o.bo.l with
  | false=>
   simp;exact aP rfl rfl
  | true=>
   simp;refine bf (WZ o.ht) rfl ?_;unfold sb;cases aj:fX o.ht with
   | false=>
    simp;exact aP rfl rfl
   | true=>
    have cw:((1000000000000:Int)<u o.c3)<->¬ o.c3.toNat<=1000000000000:=by unfold u; omega
    by_cases aF:o.c3.toNat<=1000000000000
    ·have sd:¬ ((1000000000000:Int)<u o.c3) :=fun h=>cw.1 h aF
     simp[aF,sd];refine bf (ajw o.act) rfl ?_;cases aW:jF o.act with
     | false=>
      simp[hO];exact aP rfl rfl
     | true=>
      simp[hO];refine bf (ES o.e) rfl ?_;cases bt:iR o.e with
      | false=>
       simp;exact aP rfl rfl
      | true=>
       simp;refine bf (ES o.s) rfl ?_;cases dq:iR o.s with
       | false=>
        simp;exact aP rfl rfl
       | true=>
        simp;exact aP (by rw[if_pos aF]) rfl
    ·have sd:(1000000000000:Int)<u o.c3:=cw.2 aF;simp[aF,sd];exact aP rfl rfl
def opHead (o:bp) :List B:=111#8::et o.ht.toNat
def kn (o:bp) :List B:=
 opHead o++rk o.bo.l++et o.c3.toNat++[o.act.kind]++(if o.act.kind=1#8 then [] else iI (e8 o.act.key))++(if o.act.kind=4#8 then iJ o.act.val else [])
theorem Di {l:List (List B)} (h:∀ x∈l,x.length=32) :(rk l).length<=9+l.length*32:=by
 have:=hZ l.length;have ad:=Lj h;unfold rk;rw[atB];omega
theorem AX (s:List B) :(iI s).length<=9+s.length:=by
 have:=hZ s.length;unfold iI;rw[atB];omega
theorem D7 (v:gK) :(iJ v).length<=20+v.text.length:=by
 have h1:=hZ (mH v.num).toNat
 have ad:=AX (e8 v.text);have aj:=qo v.text;unfold iJ;simp only[atL];split
 ·omega
 ·split
  ·simp[ov]; omega
  ·omega
theorem WP (o:bp) (ap:lZ o) (tY:o.bo.l.length<=1000) {l:am} {K:U->am->Prop} (aV:∀ w l',cf 1 b7 l l' w (kn o) false->K w l') :
  c7 Tryz.prog GS 122 [.aM (bl o)] l (c:=⟨K⟩) :=by
 apply bj Tryz.func122 [[[0],[1],[2],[5],[6],[3,6],[4,6]]];have ax:ct=140737488355328:=rfl;have aE:=uE l (.cells 11 (bl o)) 111#8;have Kz:=hZ o.ht.toNat
 have sr:=hZ o.c3.toNat
 have gy:=Di ap.ids;have K1:(BitVec.setWidth 64 o.ht).toNat=o.ht.toNat:=by rw[atI]; exact atD (by have:=o.ht.isLt; omega)
 have aK:l.length<(l++[a2.cells 11 (bl o)]).length:=by simp
 have fK:(l++[a2.cells 11 (bl o)])[l.length]? = some (.cells 11 (bl o)) :=by simp
 simp[bl];refine wz _ fun bW l1 h1=>?_
 rw[K1] at h1;obtain⟨w2,b5,aX,dy,_⟩:=(aE.frame h1.le h1.same).app (by_:=1) (x:=bW) (xs:=et o.ht.toNat) h1.contents (by simp[b7]) (by omega) (by omega) (by rw[ax]; simp only[atL,at7]; omega);have ss:b5[l.length]? = some (.cells 11 (bl o)) :=by rw[dy.same _ aK]; exact fK
 have oP:l.length<b5.length:=by have:=dy.le; omega
 have q3:=ss;simp[bl] at q3;simp[aX];refine c0.cq ?_;simp[q3];refine ai7 o.bo ap.ids tY fun ef dU aj=>?_
 obtain⟨ph,ri,a4,lw,_⟩:=(dy.frame aj.le aj.same).app (by_:=1) (x:=ef) (xs:=rk o.bo.l) aj.contents (by simp[b7]) (by omega) (by omega) (by rw[ax]; simp only[atB,atL,at7]; omega);have cL:dU[l.length]? = some (.cells 11 (bl o)) :=by rw[aj.same _ oP]; exact ss
 have F3:ri[l.length]? = some (.cells 11 (bl o)) :=by rw[lw.same _ aK]; exact fK
 have aeN:l.length<ri.length:=by have:=lw.le; omega
 have vT:=cL;have z2:=F3;simp[bl] at vT z2;simp[vT,a4];refine c0.cq ?_;simp[z2];refine wz _ fun te Vq aW=>?_
 obtain⟨atm,Vr,u5,En,_⟩:=(lw.frame aW.le aW.same).app (by_:=1) (x:=te) (xs:=et o.c3.toNat) aW.contents (by simp[b7]) (by omega) (by omega) (by rw[ax]; simp only[atB,atL,at7]; omega);have afc:Vr[l.length]? = some (.cells 11 (bl o)) :=by rw[En.same _ aK]; exact fK
 have Uk:=afc;simp[bl] at Uk;obtain⟨D8,Vs,Zh,tw⟩:=cf.push En o.act.kind (by simp only[atB,atL,at7]; omega);have afd:Vs[l.length]? = some (.cells 11 (bl o)) :=by rw[tw.same _ aK]; exact fK
 have apF:l.length<Vs.length:=by have:=tw.le; omega
 have KH:=afd;simp[bl] at KH;simp[u5];refine c0.cq ?_;simp[Uk,Zh];refine c0.cq ?_;obtain⟨M,m1⟩:∃ M,M=[111#8]++et o.ht.toNat++rk o.bo.l++et o.c3.toNat++[o.act.kind] :=⟨_,rfl⟩
 have ac9:M.length<=40000:=by rw[m1]; simp only[atB,atL,at7]; omega
 rw[<-m1] at tw;have ci:kn o=M++(if o.act.kind=1#8 then [] else iI (e8 o.act.key))++(if o.act.kind=4#8 then iJ o.act.val else []) :=by rw[m1]; rfl
 have la:=AX (e8 o.act.key);rw[qo] at la;have zV:=ap.key;have jn:=D7 o.act.val;have La:=ap.val.2.2;have ah:vt (.str o.act.key)=some (.bD 1 ((e8 o.act.key).map b7)) :=by
  show some (U.bD 1 (o.act.key.map fun b=>[iO b]))=_;rw[HG]
 by_cases ca:o.act.kind=1#8
 ·have aQ:(u o.act.kind:Int)=1:=(ih o.act.kind).2 ca;have e1:¬ o.act.kind=4#8:=by rw[ca]; decide
  rw[if_pos ca,if_neg e1,atZ,atZ] at ci;simp[KH,aQ];exact aV _ _ (by rw[ci]; exact tw.base (by simp) fun b ag=>ats ag)
 ·have aQ:¬ (u o.act.kind:Int)=1:=fun h=>ca ((ih o.act.kind).1 h)
  rw[if_neg ca] at ci;simp[KH,aQ,ah];refine WQ (some (e8 o.act.key)) (by simpa [qo] using zV) (by simp[dp]) (by simp) (fun l' _ _=>by simp[dp]) fun HO lg eA=>?_
  obtain⟨al2,LL,a9,va,_⟩:=(tw.frame eA.le eA.same).app (by_:=1) (x:=HO) (xs:=iI (e8 o.act.key)) eA.contents (by simp[b7]) (by omega) (by omega) (by rw[ax]; omega);have KI:LL[l.length]? = some (.cells 11 (bl o)) :=by rw[va.same _ aK]; exact fK
  have x4:=KI;simp[bl] at x4;simp[a9];refine c0.cq ?_;simp only[au8] at va;by_cases e1:o.act.kind=4#8
  ·have j0:(u o.act.kind:Int)=4:=(wQ o.act.kind).2 e1;rw[if_pos e1] at ci;simp[x4,j0];refine ajk o.act.val ap.val fun NM aha lC=>?_
   obtain⟨al1,ahb,Ib,Ip,_⟩:=(va.frame lC.le lC.same).app (by_:=1) (x:=NM) (xs:=iJ o.act.val) lC.contents (by simp[b7]) (by omega) (by omega) (by rw[ax]; simp only[atB]; omega);simp[Ib];refine c0.cq ?_;simp;exact aV _ _ (by rw[ci]; exact Ip.base (by simp) fun b ag=>ats ag)
  ·have j0:¬ (u o.act.kind:Int)=4:=fun h=>e1 ((wQ o.act.kind).1 h)
   rw[if_neg e1,atZ] at ci;simp[x4,j0];exact aV _ _ (by rw[ci]; exact va.base (by simp) fun b ag=>ats ag)
def ic (o:bp) :List B:=kn o++et o.e.toNat++et o.s.toNat
theorem V3 (o:bp) (ap:lZ o) (tY:o.bo.l.length<=1000) :(kn o).length<=100000:=by
 have h1:=hZ o.ht.toNat
 have ad:=hZ o.c3.toNat
 have aj:=Di ap.ids;have aF:=AX (e8 o.act.key);rw[qo] at aF;have aW:=ap.key;have bt:=D7 o.act.val;have dq:=ap.val.2.2;have aL:(if o.act.kind=1#8 then [] else iI (e8 o.act.key)).length<=10009:=by split<;>(try simp) ; omega
 have aT:(if o.act.kind=4#8 then iJ o.act.val else []).length<=10020:=by split<;>(try simp) ; omega
 unfold kn opHead;simp only[atB,atL,at7];omega
theorem aiZ (o:bp) (ap:lZ o) (tY:o.bo.l.length<=1000) {l:am} {K:U->am->Prop} (aV:∀ w l',cf 1 b7 l l' w (ic o) false->K w l') :
  c7 Tryz.prog GS 78 [.aM (bl o)] l (c:=⟨K⟩) :=by
 apply bj Tryz.func78 [[[0],[2],[3],[4],[5],[8],[9],[10],[11],[1,11,10,5,4],[6,11,10],[7,11,10]]];have ax:ct=140737488355328:=rfl;have bx:=hZ o.e.toNat
 have sr:=hZ o.s.toNat
 have la:=V3 o ap tY;have jl:(BitVec.setWidth 64 o.e).toNat=o.e.toNat:=by rw[atI]; exact atD (by have:=o.e.isLt; omega)
 have q5:(BitVec.setWidth 64 o.s).toNat=o.s.toNat:=by rw[atI]; exact atD (by have:=o.s.isLt; omega)
 have aK:l.length<(l++[a2.cells 11 (bl o)]).length:=by simp
 have fK:(l++[a2.cells 11 (bl o)])[l.length]? = some (.cells 11 (bl o)) :=by simp
 simp[bl];refine WP o ap tY fun bW l1 h1=>?_
 have p0:l1[l.length]? = some (.cells 11 (bl o)) :=by rw[h1.same _ aK]; exact fK
 have pU:l.length<l1.length:=by have:=h1.le; simp at this; omega
 have x2:=p0;simp[bl] at x2;simp[x2];refine wz _ fun w2 b5 ad=>?_
 rw[jl] at ad;obtain⟨ef,dU,a3,gL,_⟩:=(h1.frame ad.le ad.same).app (by_:=1) (x:=w2) (xs:=et o.e.toNat) ad.contents (by simp[b7]) (by omega) (by omega) (by rw[ax]; omega);have ss:b5[l.length]? = some (.cells 11 (bl o)) :=by rw[ad.same _ pU]; exact p0
 have cL:dU[l.length]? = some (.cells 11 (bl o)) :=by rw[gL.same _ aK]; exact fK
 have q3:=ss;have vT:=cL;simp[bl] at q3 vT;simp[q3,a3];refine c0.cq ?_;simp[vT];refine wz _ fun ph ri aF=>?_
 rw[q5] at aF;obtain⟨te,Vq,a5,tv,_⟩:=(gL.frame aF.le aF.same).app (by_:=1) (x:=ph) (xs:=et o.s.toNat) aF.contents (by simp[b7]) (by omega) (by omega) (by rw[ax]; simp only[atB]; omega);simp[a5];refine c0.cq ?_;simp;exact aV _ _ (tv.base (by simp) fun b ag=>ats ag)
theorem ai9 (o:bp) (ap:lZ o) (tY:o.bo.l.length<=1000) :bw Tryz.prog GS 33 [.aM (bl o)] (fM (h2 (ic o))) :=by
 refine bP Tryz.checked.mixed bC ?_;apply bj Tryz.func33 [];have bx:=hZ o.e.toNat
 have sr:=hZ o.s.toNat
 have la:=V3 o ap tY;have e4:(h2 (ic o)).length=32:=wL _;simp[bl];refine aiZ o ap tY fun bW l1 h1=>?_
 have fK:l1[1]? = some (.cells 32 (rep 32 (.int .u8 0))) :=by rw[h1.same 1 (by simp)]; rfl
 simp;refine ie (ME (some (ic o)) (by simp[ic]; omega)) (.cons (h1.rz (fun _=>rfl) (some (ic o)) rfl rfl) .nil) (by simp[U.flat,lz,fM,zx bB (fun _=>rfl)]) ?_;have x9:bz (rep 32 (.int .u8 0)) 0 ((h2 (ic o)).map bB)=(h2 (ic o)).map bB:=fE (by rw[atU,e4]; rfl);have lN:(l1.set 1 (a2.cells 32 ((h2 (ic o)).map bB)))[1]? = some (.cells 32 ((h2 (ic o)).map bB)) :=atO (fc fK);simp[fK,fM,e4,x9,lN,atr];exact aP rfl (by simp[U.closed,l6 bB (fun _=>rfl)])
theorem Br:∀ a b:List B,a.length=b.length->eU (a.map bB) (b.map bB)=decide (a=b)
 | [],[],_=>rfl
 | [],_::_,h=>by simp at h
 | _::_,[],h=>by simp at h
 | x::a,y::b,h=>by
  have aH:=Br a b (by simpa using h);simp only[atY,eU,aH,U.beq,decide_true,auu];by_cases h1:x=y
  ·by_cases ad:a=b<;>simp[h1,ad]
  ·have:¬ u x=u y:=fun h=>h1 ((rH x y).1 h)
   simp[h1]
theorem yw:∀ a:List B,hB (List.replicate a.length (.i .u8)) (a.map bB)=true
 | []=>rfl
 | x::a=>by
  rw[atL,aus,atY];simp only[hB,yw a,DZ,decide_true,avi]
theorem Vm:rg Tryz.prog 20 48=some (List.replicate 32 (.i .u8)) :=by kernel_rfl
theorem Lh {a b:List B} (aB:a.length=32) (ag:b.length=32) :gi Tryz.prog .eql 48 (.aM (aR a)) (.aM (aR b))=some (.bool (decide (a=b))) :=by
 unfold aR;rw[Iu Vm (by kernel_rfl) (by kernel_rfl) (by have:=yw a; rwa [aB] at this) (by have:=yw b; rwa [ag] at this),Br a b (by omega)]
theorem Gq {a b:List B} (aB:a.length=32) (ag:b.length=32) :gi Tryz.prog .neq 48 (.aM (aR a)) (.aM (aR b))=some (.bool (!decide (a=b))) :=by
 unfold aR;rw[Er Vm (by kernel_rfl) (by kernel_rfl) (by have:=yw a; rwa [aB] at this) (by have:=yw b; rwa [ag] at this),Br a b (by omega)]
theorem ahR (s:fq) :gi Tryz.prog .eql 22 (cK 32 aR s) .a1=some (.bool s.isNone) :=OO (e:=48) (by kernel_rfl) 32 aR s
theorem ah7 (l:am) :cf 32 aR l (l++[.cells 0 []]) (.au 32 l.length 0 0 0 0) ([] :List (List B)) false:=
 ⟨l.length,.au l.length 0 0 0 [] [] (by simp) rfl rfl (by simp) (att _) (by omega) rfl,by simp,fun b ag=>ats ag,.inr (att _),rfl⟩
theorem af3 (s:fq) (ap:h0 s) (al:s.l.length<=1000000) {l:am} {K:U->am->Prop} (aV:∀ v l',cf 32 aR l l' v s.l s.isNone->K v l') :
  c7 Tryz.prog GS 165 [aU s] l (c:=⟨K⟩) :=by
 apply bj Tryz.func165 [];have ax:ct=140737488355328:=rfl;cases s with
 | none=>
  simp[aU];exact aV _ _ cf.nil
 | some a=>
  simp at al;obtain⟨aY,l',aS,aX,_⟩:=(ah7 l).app (by_:=32) (x:=cK 32 aR (some a)) (xs:=a) (BM _ 32 aR (some a)) (fun y az=>cQ (ap y az)) (by omega) (by omega) (by rw[ax]; simp; omega);simp[aU,ahR,aS];refine c0.cq ?_;simp;exact aV _ _ (by simpa using aX)
def pD (l:List (List B)) (m:Nat) :List (List B) :=(List.range m).flatMap fun k=>if k=0\/bV l k≠bV l (k - 1) then [bV l k] else []
def r4 (l:List (List B)) :List (List B) :=pD l l.length
theorem BP (l:List (List B)) (m:Nat) :pD l (m+1)=pD l m++(if m=0\/bV l m≠bV l (m - 1) then [bV l m] else []) :=by
 unfold pD; rw[auK,auR]; simp
theorem Rt (l:List (List B)) :∀ m,(pD l m).length<=m
 | 0=>by simp[pD]
 | m+1=>by
  have:=Rt l m;rw[BP,atB];split<;>simp<;>omega
theorem BO {l:List (List B)}:∀ {m},m<=l.length->(∀ k,1<=k->k<m->bV l k≠bV l (k - 1))->pD l m=l.take m
 | 0,_,_=>by simp[pD]
 | m+1,hm,h=>by
  rw[BP,BO (by omega) (fun k h1 ad=>h k h1 (by omega)),atJ,if_pos (by
   by_cases aE:m=0
   ·exact .inl aE
   ·exact .inr (h m (by omega) (by omega)))]
  congr 1;unfold bV;rw[atE,atu (by omega)];rfl
theorem Ru {l:List (List B)} {k:Nat} (h1:1<=k) (ao:bV l k=bV l (k - 1)) :∀ {m},k<m->(pD l m).length<m
 | 0,h=>by omega
 | m+1,h=>by
  rw[BP,atB];by_cases hk:k=m
  ·subst hk;have:=Rt l k;rw[if_neg (fun h=>h.elim (fun aE=>by omega) (fun ad=>ad ao))];simp; omega
  ·have:=Ru h1 ao (m:=m) (by omega);split<;>simp<;>omega
theorem aaX {l:List (List B)} (al:yL l=true) :((r4 l).length=l.length)<->dN l=true:=by
 unfold yL at al;rw[decide_eq_true_eq] at al;unfold dN r4;rw[decide_eq_true_eq];constructor
 ·intro h k hk h1;have ad:=al k hk h1;have aj:bV l k≠bV l (k - 1) :=fun ao=>by
   have:=Ru h1 ao hk;omega
  have aF:=xb (bV l k) (bV l (k - 1));have aW:cl (bV l (k - 1)) (bV l k)≠0:=fun aE=>aj (zk aE).symm
  omega
 ·intro h;rw[BO (att _) (fun k h1 ad ao=>by
   have:=h k ad h1;rw[<-ao,qH] at this;omega),atW]
theorem Gr {a:List (List B)} {k:Nat} (h:k<a.length) :(a.map aR)[k]? = some (aR (bV a k)) :=by
 rw[atw];unfold bV;rw[atE,atu h];rfl
theorem Gp {a:List (List B)} {k:Nat} (h:k<a.length) :bV a k∈a:=by
 unfold bV;rw[atE,atu h];exact avy h
structure YR (l:am) (v:U) (xs:List (List B)) (k:Nat) (ae:a7) (l1:am) :Prop where
 b8:ae 0=v
 a8:ae 3=.int .i64 ((k+1:Nat) :Int)
 ak:l1=l
 al:∀ j,1<=j->j<k+1->bV xs j≠bV xs (j - 1)
structure YQ (l:am) (v dJ:U) (j:Nat) (xs:List (List B)) (m i:Nat) (ae:a7) (b5:am) :Prop where
 b8:ae 0=v
 bu:ae 4=dJ
 bc:ae 5=.int .i64 ((i+1:Nat) :Int)
 ex:∃ (k:Nat) (a6:List (List B)),ae 3=.int .i64 (k:Int)/\bJ 32 b5 v j (a6.map aR)/\a6.length=xs.length/\(∀ y∈a6,y.length=32)/\a6.take k=pD xs (m+i+1)/\k<=m+i/\(∀ t,m+i<=t->bV a6 t=bV xs t)/\b5.length=l.length/\∀ b,b≠j->b5[b]? = l[b]?
theorem aaV {l:am} {v:U} {j k:Nat} {a6:List (List B)} (h:bJ 32 l v j (a6.map aR)) (hk:k<a6.length) :
  ∃ v3 dU r,gg (.au 32) v (some (.int .i64 (k:Int))) none none=some v3/\r3 (rep 32 (.int .u8 0)) l v3=some dU/\gg (.au 32) v none (some (.int .i64 (k:Int))) none=some r ∧
   bJ 32 dU r j ((a6.take k).map aR)/\cD r=false/\dU.length=l.length/\∀ b,b≠j->dU[b]? = l[b]?:=by
 generalize ao:a6.map aR=es at h;cases h with
 | nil j=>rw[aux] at ao; subst ao; simp at hk
 | au j n cap sz cs es ag ak aC aw ah cS ce=>
  subst ao;have sq:a6.length=n:=by simpa using aC
  have fk:jb (.int .i64 (k:Int)) n=some k:=by
   show (if 0<=(k:Int)/\(k:Int)<=(n:Int) then some (k:Int).toNat else none)=some k;rw[if_pos ⟨by omega,by omega⟩]; simp
  have e9:jb (.int .i64 (k:Int)) cap=some k:=by
   show (if 0<=(k:Int)/\(k:Int)<=(cap:Int) then some (k:Int).toNat else none)=some k;rw[if_pos ⟨by omega,by omega⟩]; simp
  have dM:gv n cap (some (.int .i64 (k:Int))) none none=some (k,n,cap) :=by
   show (match jb (.int .i64 (k:Int)) n with | none=>none | some l=>some (l,n,cap))=_;rw[fk]
  have dy:gv n cap none (some (.int .i64 (k:Int))) none=some (0,k,cap) :=by
   show (match jb (.int .i64 (k:Int)) cap with | none=>none | some h=>some (0,h,cap))=_;rw[e9]
  have dr:¬ cap=k:=by omega
  have zL:¬ cap=0:=by omega
  have eO:j<l.length:=fc ag;have fD:k*32<=n*32:=aty _ (by omega);have iY:n*32<=cap*32:=aty _ ah;have nW:(dk (rep 32 (.int .u8 0)) (n - k)).length=(n - k)*32:=by rw[AN]; rfl
  have T4:k*32+(n - k)*32=n*32:=by rw[<-auh]; congr 1; omega
  refine⟨.au 32 j (k*32) (n - k) (cap - k) sz,l.set j (.cells sz (bz cs (k*32) (dk (rep 32 (.int .u8 0)) (n - k)))),.au 32 j 0 k cap sz,?_,?_,?_,?_,rfl,by simp,fun b iT=>by rw[atF (fun h=>iT h.symm)]⟩
  ·rw[yK,dM]; simp[dr]
  ·unfold r3;simp only;rw[if_neg (by omega)];simp[ag]
  ·rw[yK,dy]; simp[zL]
  ·refine .au j k cap sz _ _ (atO eO) (by rw[rG (by omega),nW]; omega) (by simp; omega) (fun e ao=>?_) (by omega) cS ?_
   ·obtain⟨y,az,rfl⟩:=atV.1 ao;exact aw _ (auS (at0 az))
   ·unfold bz;rw[at1,atS (by rw[atN]; omega),auO,Nat.min_self];have aQ:cs.take (k*32)=(cs.take (n*32)).take (k*32) :=by rw[auO,auJ fD]
    have bF:a6.map aR=(a6.take k).map aR++(a6.drop k).map aR:=by rw[<-atX,auc]
    have dz:((a6.take k).map aR).flatten.length=k*32:=by
     rw[l9 (z:=32) (fun e ao=>by obtain⟨y,az,rfl⟩:=atV.1 ao; exact aw _ (auS (at0 az)))];simp; omega
    rw[aQ,ce,bF,aul,atS (by omega),atr (by omega)]
theorem Wh {a6:List (List B)} (aw:∀ y∈a6,y.length=32) (k:Nat) (hk:k<=a6.length) {n:Nat} (aC:a6.length=n) {cs:List U} (ce:cs.take (n*32)=(a6.map aR).flatten) (ak:n*32<=cs.length) :
  cs.take (k*32)=((a6.take k).map aR).flatten/\(cs.drop (k*32)).take (n*32 - k*32)=((a6.drop k).map aR).flatten:=by
 have fD:k*32<=n*32:=aty _ (by omega);have bF:a6.map aR=(a6.take k).map aR++(a6.drop k).map aR:=by rw[<-atX,auc]
 have dz:((a6.take k).map aR).flatten.length=k*32:=by
  rw[l9 (z:=32) (fun e ao=>by obtain⟨y,az,rfl⟩:=atV.1 ao; exact cQ (aw _ (at0 az)))];simp; omega
 have aQ:cs.take (k*32)=(cs.take (n*32)).take (k*32) :=by rw[auO,auJ fD]
 constructor
 ·rw[aQ,ce,bF,aul,atS (by omega),atr (by omega)]
 ·rw[<-avM,ce,bF,aul,aum (by omega),auN (by omega),auB]
theorem akb {l:am} {v:U} {j k:Nat} {a6:List (List B)} {x:List B} (h:bJ 32 l v j (a6.map aR)) (aw:∀ y∈a6,y.length=32) (hk:k<a6.length) (af:x.length=32) :
  ∃ p l',cj (.au 32) v (.int .i64 (k:Int))=some p/\jT 32 l p (.aM (aR x))=some l'/\bJ 32 l' v j ((a6.set k x).map aR)/\l'.length=l.length/\∀ b,b≠j->l'[b]? = l[b]?:=by
 generalize ao:a6.map aR=es at h;cases h with
 | nil j=>rw[aux] at ao; subst ao; simp at hk
 | au j n cap sz cs es ag ak aC ke ah cS ce=>
  subst ao;have sq:a6.length=n:=by simpa using aC
  have eO:j<l.length:=fc ag;have bn:=cQ af;have fD:(k+1)*32<=n*32:=aty _ (by omega);have iY:n*32<=cap*32:=aty _ ah;have al:(k+1)*32=k*32+32:=by rw[aua]
  obtain⟨f1,_⟩:=Wh aw k (by omega) sq ce (by omega);obtain⟨_,f2⟩:=Wh aw (k+1) (by omega) sq ce (by omega);refine⟨.ptr j (k*32) sz,l.set j (.cells sz (bz cs (k*32) (aR x))),?_,?_,?_,by simp,fun b iT=>by rw[atF (fun h=>iT h.symm)]⟩
  ·simp[cj]; omega
  ·unfold jT;simp[ag,U.cells,bn];omega
  ·refine .au j n cap sz _ _ (atO eO) (by rw[rG (by omega),bn]; omega) (by simp; omega) (fun e ao=>?_) ah cS ?_
   ·obtain⟨y,az,rfl⟩:=atV.1 ao;rcases auU az with h | h
    ·exact cQ (aw _ h)
    ·rw[h]; exact bn
   ·have lN:a6.set k x=a6.take k++(x::a6.drop (k+1)) :=by rw[au3,if_pos hk]
    rw[lN,atX,atY,aul,aup,<-f1,<-f2];unfold bz;have t1:(cs.take (k*32)).length=k*32:=by rw[atN]; omega
    have ig:(cs.take (k*32)).take (n*32)=cs.take (k*32) :=atr (by rw[t1]; omega);have jU:(aR x).take (n*32 - k*32)=aR x:=atr (by rw[bn]; omega);rw[at1,bn,<-al,avg,t1,ig,avg,jU,bn,show n*32 - k*32 - 32=n*32 - (k+1)*32 by omega]
theorem aaL {dT l:am} {v:U} {xs:List (List B)} {fT:Bool} (h:cf 32 aR dT l v xs fT) (af:∀ x∈xs,x.length=32) (aC:xs.length<=1000000) {K:U->am->Prop} (aV:∀ r l',cf 32 aR dT l' r (r4 xs) fT->K r l') :
  c7 Tryz.prog GS 198 [v] l (c:=⟨K⟩) :=by
 apply bj Tryz.func198 [];have bh:=h.len;by_cases ad:xs.length<2
 ·have gS:(xs.length:Int)<2:=by omega
  have sm:r4 xs=xs:=by
   unfold r4;rw[BO (att _) (fun k h1 aj=>by omega),atW]
  simp[bh,gS];exact aV _ _ (by rw[sm]; exact h)
 ·have gS:¬ (xs.length:Int)<2:=by omega
  simp[bh,gS];refine cF (xs.length - 1) (YR l v xs) ?_ ⟨by simp,by simp,rfl,fun j h1 aj=>by omega⟩;rintro k ae l1 hk ⟨b8,a8,rfl,al⟩;obtain⟨ae,rfl⟩:=qu b8 a8;clear b8 a8;obtain⟨m,hm⟩:∃ m,m=k+1:=⟨_,rfl⟩
  rw[<-hm] at al ⊢;by_cases aK:m<xs.length
  ·have aQ:IntKind.i64.wrap ((m:Int) - 1)=(k:Int) :=by rw[IntKind.wrap_i64]; omega
   have bF:IntKind.i64.wrap ((m:Int)+1)=((m+1:Nat) :Int) :=by rw[IntKind.wrap_i64]; omega
   have iX:(m:Int)<(xs.length:Int) :=by omega
   obtain⟨j,ap,mi⟩:=h;obtain⟨np,ca,yu,aS,aX,a3,a4⟩:=ap.q.get (k:=.i64) (Gr aK);obtain⟨uG,cy,n3,dM,dy,gL,lw⟩:=ap.q.get (k:=.i64) (Gr (a:=xs) (k:=k) (by omega));have gV:=Lh (af _ (Gp aK)) (af _ (Gp (a:=xs) (k:=k) (by omega)));obtain⟨X,cT⟩:∃ X,X=bV xs m:=⟨_,rfl⟩
   obtain⟨Y,ev⟩:∃ Y,Y=bV xs k:=⟨_,rfl⟩
   rw[<-cT] at a4 gV;rw[<-ev] at lw gV;by_cases ao:X=Y
   ·have qY:gi Tryz.prog .eql 48 (.aM (aR X)) (.aM (aR Y))=some (.bool true) :=by rw[gV,decide_eq_true ao]
    have aq:cD v=false:=by
     cases vS:cD v with
     | false=>rfl
     | true=>
      have:=i3.1 vS;subst this;have:=ap.q.uD;rw[aux] at this;rw[this] at aK; simp at aK
    obtain⟨dJ,c9,hE,_⟩:=ap.q.from aq (k:=.i64) (i:=m) (by simp; omega);have aE:pD xs m=xs.take m:=BO (by omega) al;have h1:pD xs (m+1)=xs.take m:=by rw[BP,if_neg (fun h=>h.elim (fun aE=>by omega) (fun ad=>ad (by rw[<-cT,show m - 1=k by omega,<-ev]; exact ao))),aE,atZ]
    simp[bh,iX,aQ,aS,aX,a3,a4,dM,dy,gL,lw,qY,c9];refine cF (xs.length - m - 1) (YQ l1 v dJ j xs m) ?_ ⟨by simp,by simp,by simp,m,xs,by simp,ap,rfl,af,h1.symm,by omega,fun t _=>rfl,rfl,fun b _=>rfl⟩;rintro i ae b5 av ⟨b8,bu,bc,q,a6,a8,aZ,cx,sB,ir,vV,oV,xV,iB⟩;obtain⟨ae,rfl⟩:=iv b8 a8 bu bc;clear b8 a8 bu bc;obtain⟨c6,Kj⟩:∃ c6,c6=i+1:=⟨_,rfl⟩
    rw[<-Kj];obtain⟨alN,DQ,yI,_⟩:=aZ.q.from aq (k:=.i64) (i:=m) (by simp; omega);rw[c9] at DQ;obtain rfl:=Option.some.inj DQ;have gX:=yI.len;rw[auw,atU,cx] at gX;by_cases oP:c6<xs.length - m
    ·have tZ:(c6:Int)<((xs.length - m:Nat) :Int) :=by omega
     have bW:IntKind.i64.wrap ((c6:Int) - 1)=(i:Int) :=by rw[IntKind.wrap_i64]; omega
     have w2:IntKind.i64.wrap ((c6:Int)+1)=((c6+1:Nat) :Int) :=by rw[IntKind.wrap_i64]; omega
     have ef:IntKind.i64.wrap ((q:Int)+1)=((q+1:Nat) :Int) :=by rw[IntKind.wrap_i64]; omega
     obtain⟨Mg,eV,qe,ii,jA,A5,mG⟩:=yI.get (k:=.i64) (i:=c6) (e:=aR (bV a6 (m+c6))) (by rw[at6]; exact Gr (by omega));obtain⟨aiq,e1,sP,ku,nB,YD,yW⟩:=yI.get (k:=.i64) (i:=i) (e:=aR (bV a6 (m+i))) (by rw[at6]; exact Gr (by omega));have q8:=sB _ (Gp (a:=a6) (k:=m+c6) (by omega));have ke:=sB _ (Gp (a:=a6) (k:=m+i) (by omega));have bx:=Gq q8 ke;have q4:=oV (m+c6) (by omega);have ug:=oV (m+i) (by omega);have bq:=BP xs (m+c6);rw[show m+c6 - 1=m+i by omega] at bq;obtain⟨l2,JU⟩:∃ X,X=bV a6 (m+c6) :=⟨_,rfl⟩
     obtain⟨w8,Ci⟩:∃ Y,Y=bV a6 (m+i) :=⟨_,rfl⟩
     rw[<-JU] at mG bx q8 q4;rw[<-Ci] at yW bx ug;rw[<-q4,<-ug] at bq;rw[show m+i+1=m+c6 by omega] at ir;by_cases oH:l2=w8
     ·have uc:gi Tryz.prog .neq 48 (.aM (aR l2)) (.aM (aR w8))=some (.bool false) :=by rw[bx]; simp[oH]
      rw[if_neg (fun h=>h.elim (fun aE=>by omega) (fun ad=>ad oH)),atZ] at bq;simp[gX,tZ,bW,ii,jA,A5,mG,ku,nB,YD,yW,uc,w2];exact⟨by omega,by simp,by simp,by simp,q,a6,by simp,aZ,cx,sB,by rw[bq]; exact ir,by omega,fun t aI=>oV t (by omega),xV,iB⟩
     ·have uc:gi Tryz.prog .neq 48 (.aM (aR l2)) (.aM (aR w8))=some (.bool true) :=by rw[bx]; simp[oH]
      rw[if_pos (.inr oH)] at bq;obtain⟨We,dU,hI,fO,z3,z4,z5⟩:=akb aZ sB (k:=q) (x:=l2) (by omega) q8;simp[gX,tZ,bW,ii,jA,A5,mG,ku,nB,YD,yW,uc,w2,ef,hI,fO];have Nv:(a6.take q).length=q:=by rw[atN]; omega
      have nh:(a6.set q l2).take (q+1)=a6.take q++[l2] :=by
       rw[au3,if_pos (by omega),avg,Nv,atr (by omega),show q+1 - q=1 by omega]; simp
      refine⟨by omega,by simp,by simp,by simp,q+1,a6.set q l2,by simp,z3,by simp[cx],fun y az=>?_,by rw[nh,bq,ir],by omega,fun t aI=>?_,by omega,fun b ag=>(z5 b ag).trans (iB b ag)⟩
      ·rcases auU az with h | h
       ·exact sB _ h
       ·rw[h]; exact q8
      ·have:=oV t (by omega);unfold bV at this ⊢;rw[atE,atF (by omega),<-atE];exact this
    ·have tZ:¬ (c6:Int)<((xs.length - m:Nat) :Int) :=by omega
     obtain⟨v3,dU,r,hI,fO,z3,z4,z5,amJ,NV⟩:=aaV aZ (k:=q) (by omega);simp[gX,tZ,hI,fO,z3];obtain⟨aL,aT,a8,bu⟩:=mi;have CB:dT.length<=j:=a8.resolve_left (fun h=>by rw[h] at aq; cases aq);have Cu:m+i+1=xs.length:=by omega
     rw[Cu] at ir;refine aV _ _ ⟨j,by unfold r4; rw[<-ir]; exact z4,by omega,fun b ag=>?_,.inr CB,by rw[z5,<-bu,aq]⟩;rw[NV b (by omega),iB b (by omega)];exact aT b ag
   ·have qY:gi Tryz.prog .eql 48 (.aM (aR X)) (.aM (aR Y))=some (.bool false) :=by rw[gV,decide_eq_false ao]
    simp[bh,iX,aQ,aS,aX,a3,a4,dM,dy,gL,lw,qY,bF];refine⟨by omega,by simp,by simp[hm],rfl,fun t h1 ad=>?_⟩;by_cases aI:t=m
    ·rw[aI,<-cT,show m - 1=k by omega,<-ev]; exact ao
    ·exact al t h1 (by omega)
  ·have iX:¬ (m:Int)<(xs.length:Int) :=by omega
   have sm:r4 xs=xs:=by
    unfold r4;rw[BO (att _) (fun k h1 aj=>al k h1 (by omega)),atW]
   simp[bh,iX];exact aV _ _ (by rw[sm]; exact h)
theorem ajP {l:List (List B)} (h:dN l=true) :yL l=true:=by
 unfold dN at h;rw[decide_eq_true_eq] at h;exact XB fun k hk h1=>by
  have:=h k hk h1;have aF:=xb (bV l k) (bV l (k - 1));omega
theorem HQ (o:bp) (ap:lZ o) :bw Tryz.prog GS 146 [.aM (bl o)] (.int .i64 (fY o)) :=by
 refine bP Tryz.checked.mixed bC ?_;apply bj Tryz.func146 [[[0],[1],[2],[3],[4],[5],[6],[10],[11],[12],[7,11],[8,11],[9]]];unfold fY;have dE:=gM o.bo;have bh:cP (.au 32) (aU o.bo)=some (.int .i64 o.bo.l.length) :=by simp[aU]
 have iV:(aU o.bo).cells=some [aU o.bo] :=by cases o.bo<;>rfl
 by_cases h1:4<o.bo.l.length
 ·have dC:(4:Int)<(o.bo.l.length:Int) :=by omega
  rw[if_pos h1];simp[bl,bh,dC];exact aP rfl rfl
 ·have dC:¬ (4:Int)<(o.bo.l.length:Int) :=by omega
  rw[if_neg h1];simp[bl,bh,dC];refine bf (agD o.bo ap.ids ap.len) (by simp[bm,dE,U.closed]) ?_;cases ad:yL o.bo.l with
  | false=>
   have aj:dN o.bo.l=false:=by
    cases aj:dN o.bo.l with
    | false=>rfl
    | true=>rw[ajP aj] at ad; cases ad
   simp[aj,bh];exact aP rfl rfl
  | true=>
   simp[bh];refine af3 o.bo ap.ids ap.len fun fx l1 aL=>?_
   have adv:l1[0]? = some (.cells 11 (bl o)) :=by rw[aL.same 0 (by simp)]; rfl
   have S9:=adv;simp[bl] at S9;simp[S9];refine aaL aL ap.ids ap.len fun dJ b5 aT=>?_
   have fK:b5[0]? = some (.cells 11 (bl o)) :=by rw[aT.same 0 (by simp)]; rfl
   have zK:=fK;simp[bl] at zK;have gX:=aT.len;have sm:=aaX ad;cases aj:dN o.bo.l with
   | false=>
    have bx:¬ ((r4 o.bo.l).length:Int)=(o.bo.l.length:Int) :=fun h=>by
     have:=sm.1 (by omega);rw[aj] at this; cases this
    simp[gX,zK,bh,bx];exact aP rfl rfl
   | true=>
    have heq:((r4 o.bo.l).length:Int)=(o.bo.l.length:Int) :=by have:=sm.2 aj; omega
    simp[gX,zK,bh,heq];refine bf (Lu o.ht) rfl ?_;unfold sb;cases aW:fX o.ht with
    | false=>
     simp;exact aP rfl rfl
    | true=>
     have cw:((1000000000000:Int)<u o.c3)<->¬ o.c3.toNat<=1000000000000:=by unfold u; omega
     by_cases bt:o.c3.toNat<=1000000000000
     ·have vE:¬ ((1000000000000:Int)<u o.c3) :=fun h=>cw.1 h bt
      have xY:((500000003:Int)<=max (u o.e:Int) (u o.s))<->¬ (iR o.e&&iR o.s)=true:=by
       unfold iR u;simp only[atv,decide_eq_true_eq];omega
      have T5:uz (br o.e) (br o.s)=some (.int .u32 (max (u o.e:Int) (u o.s))) :=by
       show (if IntKind.u32=IntKind.u32 then some (U.int .u32 (if (u o.e:Int)<u o.s then u o.s else u o.e)) else none)=_;rw[if_pos rfl];congr 2;split<;>omega
      cases dq:(iR o.e&&iR o.s) with
      | false=>
       have se:(500000003:Int)<=max (u o.e:Int) (u o.s) :=xY.2 (by rw[dq]; simp);simp[zK,bt,vE,T5,se];exact aP rfl rfl
      | true=>
       have se:¬ (500000003:Int)<=max (u o.e:Int) (u o.s) :=fun h=>(xY.1 h) dq
       simp[zK,bt,vE,T5,se];refine bf (IJ o.act) rfl ?_;cases eA:jF o.act with
       | false=>
        simp[hO];exact aP rfl rfl
       | true=>
        simp[hO];exact aP (by rw[if_pos bt]) rfl
     ·have vE:(1000000000000:Int)<u o.c3:=cw.2 bt;simp[zK,bt,vE];exact aP rfl rfl
def jQ (o:bp) :List B:=if fY o=0 then h2 (ic o) else List.replicate 32 0#8
theorem AA {o:bp} (h:fY o=0) :o.bo.l.length<=4:=by
 unfold fY at h;split at h
 ·cases h
 ·omega
theorem DN {l:am} {b n:Nat} {g0:List U} {k:Nat} {w:U} {kd:IntKind} (ag:l[b]? = some (.cells n g0)) (aC:g0.length=n) (hk:g0[k]? = some w) :
  ∃ p cs o,cj (.au 1) (.au 1 b 0 n n n) (.int kd (k:Int))=some p/\eo l p=some (cs,o)/\cs[o]? = some w:=by
 have aK:k<n:=by rw[<-aC]; exact (atq.1 hk).1
 refine⟨.ptr b (0+k*1) n,g0,0+k*1,?_,?_,by simpa using hk⟩
 ·simp only[cj,auq];rw[if_pos ⟨trivial,by omega,by omega⟩]
 ·simp only[eo,ag,if_true]
theorem acD {n:Nat} (aC:n<=1000000000) {l:am} {K:U->am->Prop} (aV:∀ v l',cf 1 b7 l l' v ([] :List B) (decide (n=0))->K v l') :c7 Tryz.prog GS 235 [.a1,.int .i64 n] l (c:=⟨K⟩) :=by
 apply bj Tryz.func235 [];have h1:¬((n:Int)<0) :=by omega
 have hw:IntKind.i64.wrap (n:Int)=n:=wrap_i64 (by omega) (by omega);have Lc:IntKind.i64.wrap (0:Int)=0:=rfl;by_cases aE:n=0
 ·subst aE;simp;exact aV _ _ cf.nil
 have ad:(0:Int)<n:=by omega
 have aw:qE l 1 1 [.int .u8 0] .a1 (.int .i64 n)=some (.au 1 l.length 0 n n (n*1),l++[.cells (n*1) (dk [.int .u8 0] n)]) :=by
  unfold qE h4;simp only[auq];have ax:ct=140737488355328:=rfl;rw[if_pos ⟨by omega,by omega,by rw[ax]; omega⟩,if_neg aE,if_neg (by omega),if_pos (by rw[ax]; omega)]
 have al:gg (.au 1) (.au 1 l.length 0 n n (n*1)) none (some (.int .i64 0)) none=some (.au 1 l.length 0 0 n (n*1)) :=by
  rw[yK,Iy,if_pos ⟨by omega,by omega⟩];simp[aE]
 rw[auW] at aw al;have aj:0<n:=by omega
 simp[h1,ad,aj,hw,aw,Lc,al];refine aV _ (l++[.cells n (dk [.int .u8 0] n)]) ⟨l.length,.au _ 0 n n (dk [.int .u8 0] n) [] (by simp) (by rw[AN]; simp) rfl (by simp) (by omega) (by omega) rfl,by simp,fun b ag=>ats ag,.inr (att _),?_⟩;simp[cD,aE]
def iz (bs:List (List B)) :List B:=bs.flatten
theorem RW {bs:List (List B)} {k:Nat} {s:List B} (h:bs[k]? = some s) :iz (bs.take (k+1))=iz (bs.take k)++s:=by
 unfold iz;rw[atJ,h]; simp
theorem RV (bs:List (List B)) (k:Nat) :(iz (bs.take k)).length<=(iz bs).length:=by
 conv=>rhs; rw[<-auc k bs]
 unfold iz;rw[aul,atB];omega
structure mM (l:am) (w:U) (s:List B) :Prop where
 len:cP (.au 1) w=some (.int .i64 s.length)
 Ro:∀ l',l.length<=l'.length->(∀ b,b<l.length->l'[b]? = l[b]?)->dp l' 1 w=some ((s.map b7).flatten,s.length)
theorem Aw {l l1:am} {w:U} {s:List B} {fT:Bool} (h:cf 1 b7 l l1 w s fT) :mM l1 w s:=⟨h.len,fun l' h1 ad=>(h.frame h1 ad).contents⟩
theorem mM.frame {l l1:am} {w:U} {s:List B} (h:mM l w s) (ak:l.length<=l1.length) (al:∀ b,b<l.length->l1[b]? = l[b]?) :mM l1 w s:=
 ⟨h.len,fun l' h1 ad=>h.Ro l' (by omega) fun b ag=>by rw[ad b (by omega)]; exact al b ag⟩
theorem Wi {l:am} {b:Nat} {x:B} (h:l[b]? = some (.cells 1 [bB x])) :mM l (.au 1 b 0 1 1 1) [x] :=by
 have:=fc h;exact⟨rfl,fun l' h1 ad=>by have:=ad b this; rw[h] at this; simp[dp,this,b7]⟩
structure YP (l:am) (X:U) (bs:List (List B)) (k:Nat) (ae:a7) (l1:am) :Prop where
 j2:ae 25=X
 lB:ae 26=.int .i64 bs.length
 xo:ae 27=.int .i64 k
 sQ:∃ v,ae 6=v/\cf 1 b7 l l1 v (iz (bs.take k)) (decide ((iz bs).length=0))
set_option maxHeartbeats 4000000 in
theorem Rp {l:am} {b n:Nat} {g0:List U} {bs:List (List B)} (ag:l[b]? = some (.cells n g0)) (afU:g0.length=n) (m5:bs.length=n)
  (ay:∀ (k:Nat) (w:U) (s:List B),g0[k]? = some w->bs[k]? = some s->mM l w s) (ak:(iz bs).length<=1000000000) (xV:n<=1000000000)
  {K:U->am->Prop} (aV:∀ v l',cf 1 b7 l l' v (iz bs) (decide ((iz bs).length=0))->K v l') :
  c7 Tryz.prog GS 194 [.au 1 b 0 n n n] l (c:=⟨K⟩) :=by
 apply bj Tryz.func194 [];have lH:=fc ag;have cT:∀ l',l.length<=l'.length->(∀ b,b<l.length->l'[b]? = l[b]?)->∀ k,k<n->∃ w s p cs o,g0[k]? = some w/\bs[k]? = some s/\mM l' w s/\cj (.au 1) (.au 1 b 0 n n n) (.int .i64 (k:Int))=some p/\eo l' p=some (cs,o)/\cs[o]? = some w:=by
  intro l' h1 ad k hk;obtain⟨w,hw,_⟩:=bA (l:=g0) (k:=k) (by omega);obtain⟨s,al,_⟩:=bA (l:=bs) (k:=k) (by omega);obtain⟨p,cs,o,aS,aX,a3⟩:=DN (kd:=.i64) (l:=l') (by rw[ad b lH]; exact ag) afU hw;exact⟨w,s,p,cs,o,hw,al,(ay k w s hw al).frame h1 ad,aS,aX,a3⟩
 obtain⟨X,si⟩:∃ X,X=U.au 1 b 0 n n n:=⟨_,rfl⟩
 have S2:cP (.au 1) X=some (.int .i64 bs.length) :=by rw[si,m5]; rfl
 rw[<-si] at cT ⊢;simp[S2];refine cF n (fun k ae l1=>ae 0=X/\ae 9=X/\ae 10=.int .i64 bs.length/\ae 11=.int .i64 k/\ae 3=.int .i64 (iz (bs.take k)).length/\l1=l) ?_ ?_
 ·rintro k ae l1 hk ⟨b8,hn,gc,hQ,a8,rfl⟩;obtain⟨ae,rfl⟩:=kU b8 a8 hn gc hQ;clear b8 a8 hn gc hQ;simp;by_cases h:k<bs.length
  ·obtain⟨w,s,p,cs,o,hw,al,KL,aS,aX,a3⟩:=cT l1 (att _) (fun _ _=>rfl) k (by omega);have Cv:=RW al;have dO:=RV bs (k+1);rw[Cv,atB] at dO;have lO:IntKind.i64.wrap (((iz (bs.take k)).length:Int)+s.length)=((iz (bs.take k)).length:Int)+s.length:=wrap_i64 (by omega) (by omega);have e5:IntKind.i64.wrap ((k:Int)+1)=k+1:=wrap_i64 (by omega) (by omega);have pW:¬(((iz (bs.take k)).length:Int)+s.length<0) :=by omega
   have gy:=KL.len;simp[h,aS,aX,a3,gy,lO,pW,e5,Cv];omega
  ·have cI:k=bs.length:=by omega
   subst cI;rw[atW];simp;refine acD ak ?_;intro v l ap;simp[S2];refine cF bs.length (YP l1 X bs) ?_ ⟨by simp,by simp,by simp,v,by simp,by simpa [iz] using ap⟩;rintro k ae b5 hk ⟨j2,lB,xo,w,ch,ap⟩;obtain⟨ae,rfl⟩:=iv ch j2 lB xo;clear ch j2 lB xo;simp;by_cases h:k<bs.length
   ·obtain⟨y,s,p,cs,o,hw,al,KL,aS,aX,a3⟩:=cT b5 ap.le ap.same k (by omega);have Cv:=RW al;have dO:=RV bs (k+1);rw[Cv,atB] at dO;have e5:IntKind.i64.wrap ((k:Int)+1)=k+1:=wrap_i64 (by omega) (by omega);have ax:ct=140737488355328:=rfl;obtain⟨aY,dU,dM,dy,gL⟩:=ap.app (by_:=1) (x:=y) (xs:=s) (KL.Ro b5 (att _) fun _ _=>rfl) (by simp[b7]) (by omega) (by omega) (by rw[ax]; omega);simp[h,aS,aX,a3,dM];refine c0.cq ?_;simp[h,e5];refine⟨by simp,by simp,by simp,aY,by simp,?_⟩;rw[Cv];have nf:(decide ((iz bs).length=0)&&s.isEmpty)=decide ((iz bs).length=0) :=by
     by_cases ao:(iz bs).length=0
     ·have:s=[] :=aug.1 (by omega);simp[ao,this]
     ·simp[ao]
    rw[nf] at dy;exact dy
   ·have cI:k=bs.length:=by omega
    subst cI;simp;rw[atW] at ap;exact aV _ _ ap
 ·simp[iz]
def g5 (o:bp) :bp:={ o with e:=0#32,s:=0#32 }
theorem Ys (o:bp) (ap:lZ o) (hk:fY (g5 o)=0) {l:am} {K:U->am->Prop} (aV:∀ w l',cf 1 b7 l l' w (kn o) false->K (.bG [w,.int .i64 0]) l') :
  c7 Tryz.prog GS 147 [.aM (bl o)] l (c:=⟨K⟩) :=by
 apply bj Tryz.func147 [[[0],[1],[2],[3],[5],[6],[7],[9],[10],[11],[12],[4,12,11,7,0],[8,12,11,0]]];have ax:ct=140737488355328:=rfl;have Kz:=hZ o.ht.toNat
 have sr:=hZ o.c3.toNat
 have gy:=Di ap.ids;have en:lZ (g5 o) :=⟨ap.ids,ap.len,ap.val,ap.key⟩
 have dr:=HQ (g5 o) en;rw[hk] at dr;have tY:o.bo.l.length<=4:=AA (o:=g5 o) hk;have Ga:dN o.bo.l=true:=by
  unfold fY at hk;have aQ:(g5 o).bo=o.bo:=rfl;rw[aQ,if_neg (by omega)] at hk;cases aj:dN o.bo.l with
  | true=>rfl
  | false=>rw[aj] at hk; cases hk
 have K1:(BitVec.setWidth 64 o.ht).toNat=o.ht.toNat:=by rw[atI]; exact atD (by have:=o.ht.isLt; omega)
 have adQ:=pA (g5 o);have aK:l.length<(l++[a2.cells 11 (bl (g5 o))]).length:=by simp
 have fK:(l++[a2.cells 11 (bl (g5 o))])[l.length]? = some (.cells 11 (bl (g5 o))) :=by simp
 simp[bl];refine bf dr (show bm [U.aM (bl (g5 o))]=true by simp[bm,U.closed,adQ]) ?_;simp;refine ama o.bo ap.ids (by omega) Ga fun bW l1 h1=>?_
 have p0:l1[l.length]? = some (.cells 11 (bl (g5 o))) :=by rw[h1.same _ aK]; exact fK
 have pU:l.length<l1.length:=by have:=h1.le; simp at this; omega
 have x2:=p0;simp[bl,g5] at x2;have afk:(l1++[a2.cells 1 [U.int .u8 111]])[l.length]? = some (.cells 11 (bl (g5 o))) :=by rw[ats pU]; exact p0
 have apG:l.length<(l1++[a2.cells 1 [U.int .u8 111]]).length:=by simp; omega
 have Uq:=afk;simp[bl,g5] at Uq;simp[Uq];have afq:(l1++[a2.cells 1 [U.int .u8 111],a2.cells 1 [U.int .u8 (u o.act.kind)]])[l.length]? = some (.cells 11 (bl (g5 o))) :=by rw[ats pU]; exact p0
 have afl:(l1++[a2.cells 1 [U.int .u8 111],a2.cells 1 [U.int .u8 (u o.act.kind)]])[l1.length]? = some (.cells 1 [.int .u8 111]) :=by simp
 have vV:(l1++[a2.cells 1 [U.int .u8 111],a2.cells 1 [U.int .u8 (u o.act.kind)]])[l1.length+1]? = some (.cells 1 [.int .u8 (u o.act.kind)]) :=by simp
 have m0:(l1++[a2.cells 1 [U.int .u8 111],a2.cells 1 [U.int .u8 (u o.act.kind)]]).length=l1.length+2:=by simp
 refine yS _ fun w2 b5 ad=>?_
 rw[K1] at ad;have FX:=ad.le;rw[m0] at FX;have ss:b5[l.length]? = some (.cells 11 (bl (g5 o))) :=by rw[ad.same _ (by rw[m0]; omega)]; exact afq
 have Sz:b5[l1.length]? = some (.cells 1 [.int .u8 111]) :=by rw[ad.same _ (by rw[m0]; omega)]; exact afl
 have SA:b5[l1.length+1]? = some (.cells 1 [.int .u8 (u o.act.kind)]) :=by rw[ad.same _ (by rw[m0]; omega)]; exact vV
 have q3:=ss;simp[bl,g5] at q3;simp[q3,Sz,SA];refine yS _ fun ef dU aj=>?_
 have T2:=aj.le;have cL:dU[l.length]? = some (.cells 11 (bl (g5 o))) :=by rw[aj.same _ (by omega)]; exact ss
 have SB:dU[l1.length]? = some (.cells 1 [.int .u8 111]) :=by rw[aj.same _ (by omega)]; exact Sz
 have SC:dU[l1.length+1]? = some (.cells 1 [.int .u8 (u o.act.kind)]) :=by rw[aj.same _ (by omega)]; exact SA
 have vT:=cL;simp[bl,g5] at vT;simp[vT,SB,SC,h1.cells,ad.cells,aj.cells,bz];obtain⟨L,fJ⟩:∃ L,L=dU++[a2.cells 5 [.au 1 l1.length 0 1 1 1,w2,bW,ef,.au 1 (l1.length+1) 0 1 1 1]] :=⟨_,rfl⟩
 have xy:dU.length<=L.length:=by rw[fJ]; simp
 have pJ:∀ b,b<dU.length->L[b]? = dU[b]?:=fun b ag=>by rw[fJ,ats ag]
 have JI:L[dU.length]? = some (.cells 5 [.au 1 l1.length 0 1 1 1,w2,bW,ef,.au 1 (l1.length+1) 0 1 1 1]) :=by rw[fJ]; simp
 rw[<-fJ];have H2:mM L (.au 1 l1.length 0 1 1 1) [111#8] :=Wi (by rw[pJ _ (by omega)]; exact SB);have Zc:mM L (.au 1 (l1.length+1) 0 1 1 1) [o.act.kind] :=Wi (by rw[pJ _ (by omega)]; exact SC);have H3:mM L w2 (et o.ht.toNat) :=((Aw ad).frame T2 aj.same).frame xy pJ;have H4:mM L bW (rk o.bo.l) :=((((Aw h1).frame (l1:=l1++[a2.cells 1 [U.int .u8 111],a2.cells 1 [U.int .u8 (u o.act.kind)]]) (by rw[m0]; omega) (fun b ag=>ats ag)).frame (by rw[m0]; exact FX) ad.same).frame T2 aj.same).frame xy pJ;have Zb:mM L ef (et o.c3.toNat) :=(Aw aj).frame xy pJ;have Ul:L[l.length]? = some (.cells 11 (bl (g5 o))) :=by rw[pJ _ (by omega)]; exact cL
 obtain⟨M,m1⟩:∃ M,M=iz [[111#8],et o.ht.toNat,rk o.bo.l,et o.c3.toNat,[o.act.kind]] :=⟨_,rfl⟩
 have JM:M=[111#8]++et o.ht.toNat++rk o.bo.l++et o.c3.toNat++[o.act.kind] :=by rw[m1]; simp[iz]
 have ac9:M.length<=40000:=by rw[JM]; simp only[atB,atL,at7]; omega
 have JL:M.length≠0:=by rw[JM]; simp
 refine Rp (bs:=[[111#8],et o.ht.toNat,rk o.bo.l,et o.c3.toNat,[o.act.kind]]) JI rfl rfl ?_ (by rw[<-m1]; omega) (by omega) fun ph ri aF=>?_
 ·intro k w s hw al;rcases k with _ | _ | _ | _ | _ | k
  ·obtain rfl:=Option.some.inj hw; obtain rfl:=Option.some.inj al; exact H2
  ·obtain rfl:=Option.some.inj hw; obtain rfl:=Option.some.inj al; exact H3
  ·obtain rfl:=Option.some.inj hw; obtain rfl:=Option.some.inj al; exact H4
  ·obtain rfl:=Option.some.inj hw; obtain rfl:=Option.some.inj al; exact Zb
  ·obtain rfl:=Option.some.inj hw; obtain rfl:=Option.some.inj al; exact Zc
  ·cases hw
 rw[<-m1,decide_eq_false JL] at aF;have ac8:l.length<=L.length:=by omega
 have sd:cf 1 b7 l ri ph M false:=aF.base ac8 fun b ag=>by
  have fB:b<l1.length:=by omega
  rw[pJ b (by omega),aj.same b (by omega),ad.same b (by rw[m0]; omega),ats fB,h1.same b (by simp; omega),ats ag]
 have F3:ri[l.length]? = some (.cells 11 (bl (g5 o))) :=by rw[aF.same _ (by omega)]; exact Ul
 have aeN:l.length<ri.length:=fc F3;have z2:=F3;simp[bl,g5] at z2;have ci:kn o=M++(if o.act.kind=1#8 then [] else iI (e8 o.act.key))++(if o.act.kind=4#8 then iJ o.act.val else []) :=by rw[JM]; rfl
 have la:=AX (e8 o.act.key);rw[qo] at la;have zV:=ap.key;have jn:=D7 o.act.val;have La:=ap.val.2.2;have ah:vt (.str o.act.key)=some (.bD 1 ((e8 o.act.key).map b7)) :=by
  show some (U.bD 1 (o.act.key.map fun b=>[iO b]))=_;rw[HG]
 by_cases ca:o.act.kind=1#8
 ·have aQ:(u o.act.kind:Int)=1:=(ih o.act.kind).2 ca;have e1:¬ o.act.kind=4#8:=by rw[ca]; decide
  rw[if_pos ca,if_neg e1,atZ,atZ] at ci;simp[z2,aQ];exact aV _ _ (by rw[ci]; exact sd)
 ·have aQ:¬ (u o.act.kind:Int)=1:=fun h=>ca ((ih o.act.kind).1 h)
  rw[if_neg ca] at ci;simp[z2,aQ,ah];refine Yr (some (e8 o.act.key)) (by simpa [qo] using zV) (by simp[dp]) (by simp) (fun l' _ _=>by simp[dp]) fun HO lg eA=>?_
  obtain⟨al2,LL,a9,va,_⟩:=(sd.frame eA.le eA.same).app (by_:=1) (x:=HO) (xs:=iI (e8 o.act.key)) eA.contents (by simp[b7]) (by omega) (by omega) (by rw[ax]; omega);have ZI:=(aF.frame eA.le eA.same).app (by_:=1) (x:=HO) (xs:=iI (e8 o.act.key)) eA.contents (by simp[b7]) (by omega) (by omega) (by rw[ax]; omega);obtain⟨atn,arm,N5,Ex,_⟩:=ZI;rw[a9] at N5;obtain⟨rfl,rfl⟩:=Prod.mk.inj (Option.some.inj N5);have KI:LL[l.length]? = some (.cells 11 (bl (g5 o))) :=by rw[Ex.same _ (by omega)]; exact Ul
  have x4:=KI;simp[bl,g5] at x4;simp[a9];refine c0.cq ?_;simp only[au8] at va;by_cases e1:o.act.kind=4#8
  ·have j0:(u o.act.kind:Int)=4:=(wQ o.act.kind).2 e1;rw[if_pos e1] at ci;have S5:jF o.act=true:=by
    cases h:jF o.act with
    | true=>rfl
    | false=>
     unfold fY at hk;have bF:(g5 o).bo=o.bo:=rfl;have dz:(g5 o).act=o.act:=rfl;rw[bF,if_neg (by omega),Ga,if_pos rfl] at hk;unfold sb at hk;rw[dz,h] at hk;simp at hk
   rw[Bn e1,atv] at S5;simp[x4,j0];refine amm o.act.val ap.val S5.2 fun NM aha lC=>?_
   obtain⟨al1,ahb,Ib,Ip,_⟩:=(va.frame lC.le lC.same).app (by_:=1) (x:=NM) (xs:=iJ o.act.val) lC.contents (by simp[b7]) (by omega) (by omega) (by rw[ax]; simp only[atB]; omega);simp[Ib];refine c0.cq ?_;simp;exact aV _ _ (by rw[ci]; exact Ip)
  ·have j0:¬ (u o.act.kind:Int)=4:=fun h=>e1 ((wQ o.act.kind).1 h)
   rw[if_neg e1,atZ] at ci;simp[x4,j0];exact aV _ _ (by rw[ci]; exact va)
theorem OG {o:bp} (h:fY o=0) :fY (g5 o)=0:=by
 unfold fY at h ⊢;have aQ:(g5 o).bo=o.bo:=rfl;rw[aQ];have ar:sb o=true->sb (g5 o)=true:=by
  unfold sb g5;simp only[atv];rintro⟨a,b,c,d,e⟩;exact⟨a,b,c,by decide,by decide⟩
 split at h
 ·cases h
 ·rename_i h1;rw[if_neg h1];split at h
  ·rename_i ad;rw[if_pos ad];split at h
   ·rename_i aj;rw[if_pos (ar aj)]
   ·cases h
  ·cases h
theorem RI {o:bp} (h:fY o=0) :jF o.act=true:=by
 unfold fY at h;split at h
 ·cases h
 ·split at h
  ·split at h
   ·rename_i aj;unfold sb at aj;simp only[atv] at aj;exact aj.2.2.1
   ·cases h
  ·cases h
theorem LH {s:List UInt8} (h:gP s=true) :s.length<=20:=by
 unfold gP at h;simp only[atv,decide_eq_true_eq] at h;omega
theorem RK {o:bp} (ap:lZ o) (h:fY o=0) :(ic o).length<=1000:=by
 have h1:=hZ o.ht.toNat
 have ad:=hZ o.c3.toNat
 have aj:=Di ap.ids;have aF:=AX (e8 o.act.key);rw[qo] at aF;have bt:=D7 o.act.val;have ay:=AA h;have ao:=hZ o.e.toNat
 have al:=hZ o.s.toNat
 have aB:=RI h;have aL:(if o.act.kind=1#8 then [] else iI (e8 o.act.key)).length<=100:=by
  split
  ·simp
  ·rename_i ca;have:o.act.key.length<=20:=by
    by_cases cy:o.act.kind=2#8
    ·rw[Bm cy,atv] at aB; exact LH aB.1
    ·by_cases eV:o.act.kind=3#8
     ·rw[Ie eV,atv] at aB; exact LH aB.1
     ·by_cases e1:o.act.kind=4#8
      ·rw[Bn e1,atv] at aB; exact LH aB.1
      ·rw[Ig ca cy eV e1] at aB; cases aB
   omega
 have aT:(if o.act.kind=4#8 then iJ o.act.val else []).length<=100:=by
  split
  ·rename_i e1;rw[Bn e1,atv] at aB;have aq:=aB.2;have:o.act.val.text.length<=30:=by
    by_cases b9:o.act.val.kind=1#8
    ·rw[NI b9] at aq;simp only[atv,decide_eq_true_eq] at aq;rw[aq.2]; simp
    ·by_cases b0:o.act.val.kind=2#8
     ·rw[NJ b0] at aq;simp only[atv,decide_eq_true_eq] at aq;rw[aq.2.2]; simp
     ·by_cases dK:o.act.val.kind=3#8
      ·by_cases ak:o.act.val.text.length<=30
       ·exact ak
       ·rw[Yn dK] at aq;unfold ta at aq;rw[if_neg ak] at aq;simp only[atv,decide_eq_true_eq,ij] at aq;have:=aq.1;rw[dK] at this;exact absurd this (by decide)
      ·rw[NK b9 b0 dK] at aq; cases aq
   omega
  ·simp
 unfold ic kn opHead;simp only[atB,atL,at7];omega
theorem al5 (o:bp) (ap:lZ o) (hk:fY o=0) {l:am} {K:U->am->Prop} (aV:∀ w l',cf 1 b7 l l' w (ic o) false->K (.bG [w,.int .i64 0]) l') :
  c7 Tryz.prog GS 144 [.aM (bl o)] l (c:=⟨K⟩) :=by
 apply bj Tryz.func144 [[[0],[1],[2],[3],[4],[6],[7],[8],[9],[5,9,8]]];have dr:=HQ o ap;rw[hk] at dr;have dE:=pA o;have jm:=RK ap hk;have jl:(BitVec.setWidth 64 o.e).toNat=o.e.toNat:=by rw[atI]; exact atD (by have:=o.e.isLt; omega)
 have q5:(BitVec.setWidth 64 o.s).toNat=o.s.toNat:=by rw[atI]; exact atD (by have:=o.s.isLt; omega)
 have aK:l.length<(l++[a2.cells 11 (bl o)]).length:=by simp
 have fK:(l++[a2.cells 11 (bl o)])[l.length]? = some (.cells 11 (bl o)) :=by simp
 simp[bl];refine bf dr (show bm [U.aM (bl o)]=true by simp[bm,U.closed,dE]) ?_;simp;refine Ys o ap (OG hk) fun bW l1 h1=>?_
 have p0:l1[l.length]? = some (.cells 11 (bl o)) :=by rw[h1.same _ aK]; exact fK
 have pU:l.length<l1.length:=fc p0;have x2:=p0;simp[bl] at x2;simp[x2];refine yS _ fun w2 b5 ad=>?_
 rw[jl] at ad;have ss:b5[l.length]? = some (.cells 11 (bl o)) :=by rw[ad.same _ pU]; exact p0
 have q3:=ss;simp[bl] at q3;simp[q3];refine yS _ fun ef dU aj=>?_
 rw[q5] at aj;simp[h1.cells,ad.cells,aj.cells,bz];obtain⟨L,fJ⟩:∃ L,L=dU++[a2.cells 3 [bW,w2,ef]] :=⟨_,rfl⟩
 have xy:dU.length<=L.length:=by rw[fJ]; simp
 have pJ:∀ b,b<dU.length->L[b]? = dU[b]?:=fun b ag=>by rw[fJ,ats ag]
 have JI:L[dU.length]? = some (.cells 3 [bW,w2,ef]) :=by rw[fJ]; simp
 rw[<-fJ];have H2:mM L bW (kn o) :=(((Aw h1).frame ad.le ad.same).frame aj.le aj.same).frame xy pJ;have H3:mM L w2 (et o.e.toNat) :=((Aw ad).frame aj.le aj.same).frame xy pJ;have H4:mM L ef (et o.s.toNat) :=(Aw aj).frame xy pJ;have m1:iz [kn o,et o.e.toNat,et o.s.toNat]=ic o:=by simp[iz,ic]
 have JL:(ic o).length≠0:=by unfold ic kn opHead; simp
 refine Rp (bs:=[kn o,et o.e.toNat,et o.s.toNat]) JI rfl rfl ?_ (by rw[m1]; omega) (by omega) fun ph ri aF=>?_
 ·intro k w s hw al;rcases k with _ | _ | _ | k
  ·obtain rfl:=Option.some.inj hw; obtain rfl:=Option.some.inj al; exact H2
  ·obtain rfl:=Option.some.inj hw; obtain rfl:=Option.some.inj al; exact H3
  ·obtain rfl:=Option.some.inj hw; obtain rfl:=Option.some.inj al; exact H4
  ·cases hw
 rw[m1,decide_eq_false JL] at aF;simp;refine aV _ _ (aF.base ?_ fun b ag=>?_)
 ·have:=ad.le; have:=aj.le; omega
 ·have:=ad.le; have:=aj.le;rw[pJ b (by omega),aj.same b (by omega),ad.same b (by omega),h1.same b (by simp; omega),ats ag]
theorem al4 (o:bp) (ap:lZ o) (hk:¬ fY o=0) :bw Tryz.prog GS 144 [.aM (bl o)] (.bG [.a1,.int .i64 (fY o)]) :=by
 refine bP Tryz.checked.mixed bC ?_;apply bj Tryz.func144 [[[0],[1],[2],[3],[4],[6],[7],[8],[9],[5,9,8]]];have dr:=HQ o ap;have dE:=pA o;obtain⟨E,eB⟩:∃ E,E=bl o:=⟨_,rfl⟩
 have tT:E.length=11:=by rw[eB]; rfl
 rw[<-eB] at dr dE ⊢;simp[tT,atr];refine bf dr (by simp[bm,U.closed,dE]) ?_;simp[hk];exact aP rfl rfl
theorem al9 (o:bp) (ap:lZ o) :bw Tryz.prog GS 94 [.aM (bl o)] (.bG [fM (jQ o),.int .i64 (fY o)]) :=by
 refine bP Tryz.checked.mixed bC ?_;apply bj Tryz.func94 [];unfold jQ;have dE:=pA o;have aw:(rep 32 (.int .u8 0) :List U)=(List.replicate 32 0#8).map bB:=by simp[rep]
 obtain⟨E,eB⟩:∃ E,E=bl o:=⟨_,rfl⟩
 have tT:E.length=11:=by rw[eB]; rfl
 by_cases aE:fY o=0
 ·have jm:=RK ap aE;have e4:(h2 (ic o)).length=32:=wL _;rw[<-eB];simp[tT,atr];rw[eB];refine al5 o ap aE fun bW l1 h1=>?_
  rw[<-eB] at h1;have fK:l1[1]? = some (.cells 32 (rep 32 (.int .u8 0))) :=by rw[h1.same 1 (by simp)]; rfl
  simp;refine ie (XP (some (ic o)) (by simp; omega)) (.cons (h1.rz (fun _=>rfl) (some (ic o)) rfl rfl) .nil) (by simp[U.flat,lz,fM,zx bB (fun _=>rfl)]) ?_;have x9:bz (rep 32 (.int .u8 0)) 0 ((h2 (ic o)).map bB)=(h2 (ic o)).map bB:=fE (by rw[atU,e4]; rfl);have lN:(l1.set 1 (a2.cells 32 ((h2 (ic o)).map bB)))[1]? = some (.cells 32 ((h2 (ic o)).map bB)) :=atO (fc fK);simp[fK,fM,e4,x9,lN,atr];exact aP (by rw[if_pos aE,aE]) (by simp[U.closed,bm,l6 bB (fun _=>rfl)])
 ·have Ts:=al4 o ap aE;rw[<-eB] at Ts dE ⊢;simp[tT,atr];refine bf Ts (by simp[bm,U.closed,dE]) ?_;simp[aE,fM,aw];exact aP rfl (by simp only[U.closed,bm,l6 bB (fun _=>rfl),avi])
end Op

end Go.b2

namespace Go.b2
open Go Go.Proofs Go.RowKit
set_option maxRecDepth 100000
namespace Op
open gh
theorem NB {P:Program} {t:TypeId} {ts:List TypeId} {cs:List U} (aJ:P.underlying t=some .string) (h:dL P (t::ts) cs) :∃ s cs',cs=.str s::cs'/\dL P ts cs':=by
 cases h
 case str s cs' al p6 h=>exact⟨_,_,rfl,h⟩
 all_goals (exfalso; simp_all; done)
theorem Yc {ts:List TypeId} {cs:List U} (h:dL Tryz.prog (5::ts) cs) :∃ (x:B) (cs' : List U),cs=bB x::cs'/\dL Tryz.prog ts cs':=by
 obtain⟨k,xf,rfl,h1,ad,aj⟩:=D1 (k:=.u8) (by kernel_rfl) h;have aW:(0:Int)<=k:=h1;have bt:k<=255:=ad;refine⟨BitVec.ofNat 8 k.toNat,xf,?_,aj⟩;have:((BitVec.ofNat 8 k.toNat).toNat:Int)=k:=by
  rw[atK,atD (by omega)]; omega
 simp[bB,u]; omega
theorem alC {ts:List TypeId} {cs:List U} (h:dL Tryz.prog (48::ts) cs) :∃ (x:List B) (cs' : List U),cs=x.map bB++cs'/\x.length=32/\dL Tryz.prog ts cs':=by
 have h1:=alB (e:=5) (n:=32) (by kernel_rfl) h;exact X8 (by kernel_rfl) 32 h1
theorem X9 {ts:List TypeId} {cs:List U} (h:dL Tryz.prog (22::ts) cs) :∃ (s:fq) (cs' : List U),cs=aU s::cs'/\h0 s/\dL Tryz.prog ts cs':=by
 obtain⟨s,cs',rfl,_,h1,ad⟩:=Ya (e:=48) (z:=32) (enc:=aR) (Q:=fun x=>x.length=32) (by kernel_rfl) (by kernel_rfl) (fun r ax=>by
  obtain⟨x,cs',rfl,af,aj⟩:=alC ax;rw[NA aj,atZ];exact⟨x,rfl,af⟩) h
 exact⟨s,cs',rfl,h1,ad⟩
theorem NC {ts:List TypeId} {cs:List U} (h:dL Tryz.prog (76::ts) cs) :∃ (x:D) (cs' : List U),cs=br x::cs'/\dL Tryz.prog ts cs':=by
 obtain⟨k,xf,rfl,h1,ad,aj⟩:=D1 (k:=.u32) (by kernel_rfl) h;have aW:(0:Int)<=k:=h1;have bt:k<=4294967295:=ad;refine⟨BitVec.ofNat 32 k.toNat,xf,?_,aj⟩;have:((BitVec.ofNat 32 k.toNat).toNat:Int)=k:=by
  rw[atK,atD (by omega)]; omega
 simp[br,u]; omega
structure Ia (o:bp) :Prop where
 ids:h0 o.bo
 lj:-9223372036854775808<=o.act.val.num
 n2:o.act.val.num<9223372036854775808
theorem alF {ts:List TypeId} {cs:List U} (h:dL Tryz.prog (42::ts) cs) :∃ (v:gK) (cs' : List U),cs=[bB v.kind,.int .i64 v.num,c4 v.bits,.str v.text]++cs'/\(-9223372036854775808<=v.num/\v.num<9223372036854775808)/\dL Tryz.prog ts cs':=by
 have h1:=D2 (fs:=[5,2,40,9]) (by kernel_rfl) h;obtain⟨k,_,rfl,ad⟩:=Yc h1;obtain⟨n,_,rfl,oR,nV,aj⟩:=D1 (k:=.i64) (by kernel_rfl) ad;obtain⟨b,_,rfl,aF⟩:=Yb aj;obtain⟨s,_,rfl,aW⟩:=NB (by kernel_rfl) aF;have bt:n<=9223372036854775807:=nV;exact⟨⟨k,n,b,s⟩,_,rfl,⟨oR,by show n<9223372036854775808; omega⟩,aW⟩
theorem alA {ts:List TypeId} {cs:List U} (h:dL Tryz.prog (78::ts) cs) :∃ (a:Act) (cs' : List U),cs=[bB a.kind,.str a.key,bB a.val.kind,.int .i64 a.val.num,c4 a.val.bits,.str a.val.text]++cs'/\(-9223372036854775808<=a.val.num/\a.val.num<9223372036854775808)/\dL Tryz.prog ts cs':=by
 have h1:=D2 (fs:=[5,9,42]) (by kernel_rfl) h;obtain⟨k,_,rfl,ad⟩:=Yc h1;obtain⟨s,_,rfl,aj⟩:=NB (by kernel_rfl) ad;obtain⟨v,_,rfl,aq,aF⟩:=alF aj;exact⟨⟨k,s,v⟩,_,rfl,aq,aF⟩
theorem alD {ts:List TypeId} {cs:List U} (h:dL Tryz.prog (82::ts) cs) :∃ (o:bp) (cs' : List U),cs=bl o++cs'/\Ia o/\dL Tryz.prog ts cs':=by
 have h1:=D2 (fs:=[76,22,40,78,80]) (by kernel_rfl) h;obtain⟨a,_,rfl,ad⟩:=NC h1;obtain⟨p,_,rfl,ay,aj⟩:=X9 ad;obtain⟨n,_,rfl,aF⟩:=Yb aj;obtain⟨c,_,rfl,ah,aW⟩:=alA aF;have bt:=D2 (fs:=[76,76]) (by kernel_rfl) aW;obtain⟨x,_,rfl,dq⟩:=NC bt;obtain⟨y,cs',rfl,eA⟩:=NC dq;exact⟨⟨a,p,n,c,x,y⟩,cs',by simp[bl],⟨ay,ah.1,ah.2⟩,eA⟩
theorem alx {ts:List TypeId} {cs:List U} (h:l0 Tryz.prog (9::ts) cs) :∃ (s:List UInt8) (cs' : List U),cs=.str s::cs'/\l0 Tryz.prog ts cs':=by
 obtain⟨c,cs',rfl,h1,ad⟩:=X7 h;obtain⟨s,xf,al,aj⟩:=NB (by kernel_rfl) (alz (by kernel_rfl) h1);cases al;exact⟨s,cs',rfl,ad⟩
end Op

end Go.b2

namespace Go.b2
open Go Go.Proofs
set_option maxRecDepth 100000
open gh Op
def AF (a n:Nat) :Nat->Nat
 | 0=>1
 | k+1=>match Nat.beq (n / 2 ^ (63 - k) % 2) 1 with
  | true=>((AF a n k) ^ 2 % 1000000007)*a % 1000000007
  | false=>(AF a n k) ^ 2 % 1000000007
theorem Mp (a n:Nat) (aC:n<2 ^ 64) :∀ k,k<=64->AF a n k=fv a (n / 2 ^ (64 - k))
 | 0,_=>by
  have:n / 2 ^ (64 - 0)=0:=awp aC;rw[this]; rfl
 | k+1,hk=>by
  have aH:=Mp a n aC k (by omega);have ag:=S7 n k (by omega);have e:64 - (k+1)=63 - k:=by omega
  rw[e];unfold AF;rw[aH,Nat.pow_two,Wu];split
  ·rename_i h;have h1:=auj h;rw[Ws,ag,h1]
  ·rename_i h;have h1:n / 2 ^ (63 - k) % 2≠1:=fun aG=>by rw[aG] at h; cases h
   rw[ag];congr 1; omega
def Wr:List U->Option U
 | [.int .u32 x,.int .u64 n]=>match decide (0<=x)&&(decide (x<4294967296)&&(decide (0<=n)&&decide (n<18446744073709551616))) with
  | true=>some (.int .u32 ((AF x.toNat n.toNat 64:Nat) :Int))
  | false=>none
 | _=>none
abbrev Mr:FuncId × Bool × (List U->Option U) :=(241,false,Wr)
theorem Wv:tl Tryz.prog GS Mr:=by
 intro args r h;refine⟨?_,fun h=>by cases h⟩;simp only[Wr] at h;split at h
 ·rename_i x n;split at h
  ·rename_i ah;cases h;simp only[atv,decide_eq_true_eq] at ah;obtain⟨h1,ad,aj,aF⟩:=ah;have af:(U.int .u32 x)=br (BitVec.ofNat 32 x.toNat) :=by
    have:((BitVec.ofNat 32 x.toNat).toNat:Int)=x:=by
     rw[atK,atD (by omega)]; omega
    simp[br,u]; omega
   have aC:(U.int .u64 n)=c4 (BitVec.ofNat 64 n.toNat) :=by
    have:((BitVec.ofNat 64 n.toNat).toNat:Int)=n:=by
     rw[atK,atD (by omega)]; omega
    simp[c4,u]; omega
   have ay:=Hg (BitVec.ofNat 32 x.toNat) (BitVec.ofNat 64 n.toNat);have ax:br (gF (BitVec.ofNat 32 x.toNat) (BitVec.ofNat 64 n.toNat).toNat)=.int .u32 ((AF x.toNat n.toNat 64:Nat) :Int) :=by
    have aQ:(BitVec.ofNat 32 x.toNat).toNat=x.toNat:=by rw[atK,atD (by omega)]
    have bF:(BitVec.ofNat 64 n.toNat).toNat=n.toNat:=by rw[atK,atD (by omega)]
    show U.int .u32 (u _)=_;unfold u;rw[rx,aQ,bF,Mp _ _ (by omega) 64 (att _)];simp
   rw[af,aC,<-ax];exact ay
  ·cases h
 ·cases h
def GI:List (List U)->Option (List eI)
 | []=>some []
 | [c] ::r=>match Bx c with
  | some s=>match Nat.ble s.l.length 10000 with
   | true=>match GI r with | some l=>some (s::l) | none=>none
   | false=>none
  | none=>none
 | _=>none
theorem VB:∀ {es:List (List U)} {l:List eI},GI es=some l->(es=l.map fun s=>[cB s])/\∀ s∈l,s.l.length<=10000
 | [],l,h=>by cases h; exact⟨rfl,fun s al=>by cases al⟩
 | e::r,l,h=>by
  unfold GI at h;split at h
  ·rename_i aQ; cases aQ
  ·rename_i c cr aQ;cases aQ;split at h
   ·rename_i s al;split at h
    ·rename_i ag;split at h
     ·rename_i l' ak;cases h;obtain⟨h1,ad⟩:=VB ak;refine⟨by rw[IA al,h1]; rfl,fun x af=>?_⟩;rcases aub.1 af with aj | aj
      ·rw[aj]; exact aur ag
      ·exact ad x aj
     ·cases h
    ·cases h
   ·cases h
  ·cases h
def Wj:List U->Option U
 | [.bD 1 es]=>match GI es with
  | some ls=>match Nat.ble ls.length 20 with
   | true=>some (.bG [fM (h2 (bytesOf ls)),.int .i64 0])
   | false=>none
  | none=>none
 | _=>none
abbrev Mm:FuncId × Bool × (List U->Option U) :=(196,false,Wj)
theorem Wk:tl Tryz.prog GS Mm:=by
 intro args r h;refine⟨?_,fun h=>by cases h⟩;simp only[Wj] at h;split at h
 ·split at h
  ·rename_i es ls lJ;split at h
   ·rename_i aC;cases h;obtain⟨h1,ad⟩:=VB lJ;rw[h1];exact Mn ls (aur aC) ad
   ·cases h
  ·cases h
 ·cases h
end Go.b2

namespace Go.b2
open Go Go.Proofs
set_option maxRecDepth 100000
namespace Op
open gh
section
variable {α:Type} {z:Nat} {enc:α->List U}
theorem ail {l:am} {v:U} {j k:Nat} {a6:List α} {zr:List U} (sE:zr.length=z) (h:bJ z l v j (a6.map enc)) (hk:k<a6.length) :
  ∃ v3 dU r,gg (.au z) v (some (.int .i64 (k:Int))) none none=some v3/\r3 zr l v3=some dU/\gg (.au z) v none (some (.int .i64 (k:Int))) none=some r ∧
   bJ z dU r j ((a6.take k).map enc)/\cD r=false/\dU.length=l.length/\∀ b,b≠j->dU[b]? = l[b]?:=by
 generalize ao:a6.map enc=es at h;cases h with
 | nil j=>rw[aux] at ao; subst ao; simp at hk
 | au j n cap sz cs es ag ak aC aw ah cS ce=>
  subst ao;have sq:a6.length=n:=by simpa using aC
  have fk:jb (.int .i64 (k:Int)) n=some k:=by
   show (if 0<=(k:Int)/\(k:Int)<=(n:Int) then some (k:Int).toNat else none)=some k;rw[if_pos ⟨by omega,by omega⟩]; simp
  have e9:jb (.int .i64 (k:Int)) cap=some k:=by
   show (if 0<=(k:Int)/\(k:Int)<=(cap:Int) then some (k:Int).toNat else none)=some k;rw[if_pos ⟨by omega,by omega⟩]; simp
  have dM:gv n cap (some (.int .i64 (k:Int))) none none=some (k,n,cap) :=by
   show (match jb (.int .i64 (k:Int)) n with | none=>none | some l=>some (l,n,cap))=_;rw[fk]
  have dy:gv n cap none (some (.int .i64 (k:Int))) none=some (0,k,cap) :=by
   show (match jb (.int .i64 (k:Int)) cap with | none=>none | some h=>some (0,h,cap))=_;rw[e9]
  have dr:¬ cap=k:=by omega
  have zL:¬ cap=0:=by omega
  have eO:j<l.length:=fc ag;have fD:k*z<=n*z:=aty _ (by omega);have iY:n*z<=cap*z:=aty _ ah;have nW:(dk zr (n - k)).length=(n - k)*z:=by rw[AN,sE]
  have T4:k*z+(n - k)*z=n*z:=by rw[<-auh]; congr 1; omega
  refine⟨.au z j (k*z) (n - k) (cap - k) sz,l.set j (.cells sz (bz cs (k*z) (dk zr (n - k)))),.au z j 0 k cap sz,?_,?_,?_,?_,rfl,by simp,fun b iT=>by rw[atF (fun h=>iT h.symm)]⟩
  ·rw[yK,dM]; simp[dr]
  ·unfold r3;simp only;rw[if_neg (by omega)];simp[ag,sE]
  ·rw[yK,dy]; simp[zL]
  ·refine .au j k cap sz _ _ (atO eO) (by rw[rG (by omega),nW]; omega) (by simp; omega) (fun e ao=>?_) (by omega) cS ?_
   ·obtain⟨y,az,rfl⟩:=atV.1 ao;exact aw _ (auS (at0 az))
   ·unfold bz;rw[at1,atS (by rw[atN]; omega),auO,Nat.min_self];have aQ:cs.take (k*z)=(cs.take (n*z)).take (k*z) :=by rw[auO,auJ fD]
    have bF:a6.map enc=(a6.take k).map enc++(a6.drop k).map enc:=by rw[<-atX,auc]
    have dz:((a6.take k).map enc).flatten.length=k*z:=by
     rw[l9 (z:=z) (fun e ao=>by obtain⟨y,az,rfl⟩:=atV.1 ao; exact aw _ (auS (at0 az)))];rw[atU,atN,auJ (by omega)]
    rw[aQ,ce,bF,aul,atS (by omega),atr (by omega)]
theorem Wa {a6:List α} (aw:∀ y∈a6,(enc y).length=z) (k:Nat) (hk:k<=a6.length) {n:Nat} (aC:a6.length=n) {cs:List U} (ce:cs.take (n*z)=(a6.map enc).flatten) (ak:n*z<=cs.length) :
  cs.take (k*z)=((a6.take k).map enc).flatten/\(cs.drop (k*z)).take (n*z - k*z)=((a6.drop k).map enc).flatten:=by
 have fD:k*z<=n*z:=aty _ (by omega);have bF:a6.map enc=(a6.take k).map enc++(a6.drop k).map enc:=by rw[<-atX,auc]
 have dz:((a6.take k).map enc).flatten.length=k*z:=by
  rw[l9 (z:=z) (fun e ao=>by obtain⟨y,az,rfl⟩:=atV.1 ao; exact aw _ (at0 az))];rw[atU,atN,auJ (by omega)]
 have aQ:cs.take (k*z)=(cs.take (n*z)).take (k*z) :=by rw[auO,auJ fD]
 constructor
 ·rw[aQ,ce,bF,aul,atS (by omega),atr (by omega)]
 ·rw[<-avM,ce,bF,aul,aum (by omega),auN (by omega),auB]
theorem G9 {l:am} {v:U} {j k:Nat} {a6:List α} {x:α} {X:U} (cT:X.cells=some (enc x)) (h:bJ z l v j (a6.map enc)) (aw:∀ y∈a6,(enc y).length=z) (hk:k<a6.length) (af:(enc x).length=z) :
  ∃ p l',cj (.au z) v (.int .i64 (k:Int))=some p/\jT z l p (X)=some l'/\bJ z l' v j ((a6.set k x).map enc)/\l'.length=l.length/\∀ b,b≠j->l'[b]? = l[b]?:=by
 generalize ao:a6.map enc=es at h;cases h with
 | nil j=>rw[aux] at ao; subst ao; simp at hk
 | au j n cap sz cs es ag ak aC ke ah cS ce=>
  subst ao;have sq:a6.length=n:=by simpa using aC
  have eO:j<l.length:=fc ag;have bn:=af;have fD:(k+1)*z<=n*z:=aty _ (by omega);have iY:n*z<=cap*z:=aty _ ah;have al:(k+1)*z=k*z+z:=by rw[aua]
  obtain⟨f1,_⟩:=Wa aw k (by omega) sq ce (by omega);obtain⟨_,f2⟩:=Wa aw (k+1) (by omega) sq ce (by omega);refine⟨.ptr j (k*z) sz,l.set j (.cells sz (bz cs (k*z) (enc x))),?_,?_,?_,by simp,fun b iT=>by rw[atF (fun h=>iT h.symm)]⟩
  ·simp[cj]; omega
  ·unfold jT;simp[ag,cT,bn];omega
  ·refine .au j n cap sz _ _ (atO eO) (by rw[rG (by omega),bn]; omega) (by simp; omega) (fun e ao=>?_) ah cS ?_
   ·obtain⟨y,az,rfl⟩:=atV.1 ao;rcases auU az with h | h
    ·exact aw _ h
    ·rw[h]; exact bn
   ·have lN:a6.set k x=a6.take k++(x::a6.drop (k+1)) :=by rw[au3,if_pos hk]
    rw[lN,atX,atY,aul,aup,<-f1,<-f2];unfold bz;have t1:(cs.take (k*z)).length=k*z:=by rw[atN]; omega
    have ig:(cs.take (k*z)).take (n*z)=cs.take (k*z) :=atr (by rw[t1]; omega);have jU:(enc x).take (n*z - k*z)=enc x:=atr (by rw[bn]; omega);rw[at1,bn,<-al,avg,t1,ig,avg,jU,bn,show n*z - k*z - z=n*z - (k+1)*z by omega]
end

end Op

end Go.b2

namespace Go.b2
open Go Go.Proofs
set_option maxRecDepth 100000
namespace Op
theorem E0 {α:Type} {enc:α->List U} {z:Nat} {a:List α} (h:∀ x∈a,(enc x).length=z) :(a.map enc).flatten.length=a.length*z:=by
 rw[l9 (z:=z) (fun e ao=>by obtain⟨y,az,rfl⟩:=atV.1 ao; exact h y az),atU]
theorem mx {α:Type} {enc:α->List U} {z:Nat} {l:am} {b n:Nat} {a:List α} (aB:∀ x∈a,(enc x).length=z) (aC:a.length=n) (ag:l[b]? = some (.cells (n*z) (a.map enc).flatten)) :bJ z l (.au z b 0 n n (n*z)) b (a.map enc) :=by
 have fL:=E0 aB;refine .au b n n (n*z) _ _ ag (by rw[fL,aC]) (by simp[aC]) (fun e ao=>?_) (att _) (att _) ?_
 ·obtain⟨y,az,rfl⟩:=atV.1 ao; exact aB y az
 ·rw[atr (by rw[fL,aC]; omega)]
end Op

end Go.b2

namespace Go.b2
open Go Go.Proofs
set_option maxRecDepth 100000
namespace Op
open gh
theorem Zs {l:List D} {k:Nat} {x:D} (h:l[k]? = some x) (ay:(l.take k).all fX=true) :(l.take (k+1)).all fX=fX x:=by
 rw[atJ,h,List.all_append,ay]; simp
theorem Zq {l:List D} {k:Nat} {x:D} (h:l[k]? = some x) (af:fX x=false) :l.all fX=false:=by
 cases aG:l.all fX with
 | false=>rfl
 | true=>rw[aue.1 aG x (atz h)] at af; cases af
structure YJ (l:List D) (k:Nat) (ae:a7) (h:am) :Prop where
 bc:ae 5=cK 1 eF (some l)
 ch:ae 6=.int .i64 l.length
 ei:ae 7=.int .i64 k
 ay:(l.take k).all fX=true
theorem Sn (l:List D) (ak:l.length<=1000) :bw Tryz.prog GS 244 [cK 1 eF (some l)] (.bool (l.all fX)) :=by
 refine bP Tryz.checked.mixed bC ?_;apply bj Tryz.func244 [];have bh:cP (.au 1) (cK 1 eF (some l))=some (.int .i64 l.length) :=qc _;simp[bh];refine cF l.length (YJ l) ?_ ⟨by simp,by simp,by simp,by simp⟩;rintro k ae h hk ⟨bc,ch,ei,ay⟩;obtain⟨ae,rfl⟩:=kq bc ch ei;clear bc ch ei;by_cases h:k<l.length
 ·obtain⟨x,af,_⟩:=bA h;have cc:cj (.au 1) (cK 1 eF (some l)) (.int .i64 k)=some (.b6 (eF x) 0) :=by rw[ra]; simp[af]
  have e5:IntKind.i64.wrap ((k:Int)+1)=(k+1:Nat) :=wrap_i64 (by omega) (by omega);simp[h,cc,eF];refine bf (Lu x) rfl ?_;cases ar:fX x with
  | false=>
   have:=Zq af ar;simp;exact aP (by rw[this]) rfl
  | true=>
   simp[e5];exact⟨by omega,by simp,by simp,by simp,by rw[Zs af ay]; exact ar⟩
 ·have eK:k=l.length:=by omega
  subst eK;rw[atW] at ay;simp;exact aP (by rw[ay]) rfl
theorem ajp {l:am} {b:Nat} {x:D} (h:l[b]? = some (.cells 1 [br x])) :fH (bU l) (.au 1 b 0 1 1 1) (cK 1 eF (some [x])) :=by
 refine DH (rest:=[]) (es:=[[br x]]) (by simpa using h) rfl (by simp) (by simp[bm,U.closed])
def DB (a b:D) :D:=BitVec.ofNat 32 (a.toNat*b.toNat % 1000000007)
theorem acj (a b:D) :bw Tryz.prog GS 204 [br a,br b] (.bG [br (if fX a&&fX b then DB a b else 0#32),.int .i64 (if fX a&&fX b then 0 else 2)]) :=by
 refine bP Tryz.checked.mixed bC ?_;apply bj Tryz.func204 [];simp;refine ie (Sn [a,b] (by simp)) (.cons (DI (by simp)) .nil) rfl ?_;cases aB:fX a with
 | false=>
  simp[aB];exact aP rfl rfl
 | true=>
  cases ag:fX b with
  | false=>
   simp[aB,ag];exact aP rfl rfl
  | true=>
   have aK:a.toNat<1000000007:=by unfold fX at aB; simp at aB; exact aB.1.2
   simp[aB,ag];refine ie (L2 [a,b] (by simp)) (.cons (.same _ rfl) (.cons (DI (by simp)) .nil)) rfl ?_;simp[L1 a b aK];exact aP rfl rfl
theorem ack (a:D) (n:Q) :bw Tryz.prog GS 203 [br a,c4 n] (.bG [br (if fX a then gF a n.toNat else 0#32),.int .i64 (if fX a then 0 else 2)]) :=by
 refine bP Tryz.checked.mixed bC ?_;apply bj Tryz.func203 [];simp;refine ie (Sn [a] (by simp)) (.cons (ajp (by simp)) .nil) rfl ?_;cases aB:fX a with
 | false=>
  simp[aB];exact aP rfl rfl
 | true=>
  simp[aB];refine bf (Hg a n) rfl ?_;simp;exact aP rfl rfl
theorem aci (n:Q) :bw Tryz.prog GS 205 [c4 n] (br (gF 4#32 n.toNat)) :=by
 refine bP Tryz.checked.mixed bC ?_;apply bj Tryz.func205 [];simp;refine bf (Hg 4#32 n) rfl ?_;simp;exact aP rfl rfl
theorem MA (a:D) (n:Q) :bw Tryz.prog GS 177 [br a,c4 n] (br (gF a n.toNat)) :=by
 refine bP Tryz.checked.mixed bC ?_;apply bj Tryz.func177 [];have aW:(a.setWidth 64:Q).toNat=a.toNat:=by rw[atI]; omega
 have bt:=yz a.toNat n.toNat
 have dq:(BitVec.ofNat 64 (fv a.toNat n.toNat)).setWidth 32=gF a n.toNat:=by
  apply atH;rw[rx,atI,atK];omega
 have ay:=Ww (a.setWidth 64) n (by rw[aW]; exact a.isLt);rw[aW] at ay;simp;refine bf ay rfl ?_;simp[dq];exact aP rfl rfl
theorem aiY (n:Q) :bw Tryz.prog GS 166 [c4 n] (br (gF 4#32 n.toNat)) :=by
 refine bP Tryz.checked.mixed bC ?_;apply bj Tryz.func166 [];simp;refine bf (MA 4#32 n) rfl ?_;simp;exact aP rfl rfl
theorem ai5 (a:D) :bw Tryz.prog GS 176 [br a] (.bG [br (if fX a then gF a 500000002 else 0#32),.int .i64 (if fX a then 0 else 2)]) :=by
 refine bP Tryz.checked.mixed bC ?_;apply bj Tryz.func176 [];simp;refine bf (WZ a) rfl ?_;cases aB:fX a with
 | false=>
  simp;exact aP rfl rfl
 | true=>
  simp;refine bf (MA a 500000002#64) rfl ?_;simp;exact aP rfl rfl
theorem aje (a b:D) :bw Tryz.prog GS 178 [br a,br b] (br (DB a b)) :=by
 refine bP Tryz.checked.mixed bC ?_;apply bj Tryz.func178 [];have aW:∀ a:D,(a.setWidth 64:Q).toNat=a.toNat:=fun a=>by rw[atI]; omega
 have dq:((a.setWidth 64:Q)*b.setWidth 64 % 1000000007#64).setWidth 32=DB a b:=by
  apply atH;rw[atI,As _ _ (by rw[aW]; exact a.isLt) (by rw[aW]; exact b.isLt),aW,aW];unfold DB;rw[atK]
 simp[Ho,dq];exact aP rfl rfl
def vb (l:List B) :Q:=l.foldl (fun n x=>(n <<< 8) ||| x.setWidth 64) 0#64
theorem ON (l:List B) (k:Nat) (x:B) (h:l[k]? = some x) :vb (l.take (k+1))=(vb (l.take k) <<< 8) ||| x.setWidth 64:=by
 rw[atJ,h]; simp[vb,avN]
theorem akg (a:Q) (x:B) :(a <<< 8) ||| x.setWidth 64=256#64*a+x.setWidth 64:=by
 apply atH;have af:x.toNat<256:=x.isLt;have aB:=a.isLt;rw[BitVec.toNat_or,avr,awo,avf,atI];have h1:x.toNat % 2 ^ 64=x.toNat:=atD (by omega);have ad:a.toNat <<< 8 % 2 ^ 64=(a.toNat % 2 ^ 56) <<< 8:=by rw[au6,au6]; omega
 have aj:=av3 (b:=x.toNat) (i:=8) (by omega) (a.toNat % 2 ^ 56);rw[h1,ad,<-aj,au6];have aF:(256#64).toNat=256:=rfl;rw[aF];omega
def iS (n:D) :List B:=[(n >>> 24).setWidth 8,(n >>> 16).setWidth 8,(n >>> 8).setWidth 8,n.setWidth 8]
def lA (l:List D) :List B:=l.flatMap iS
theorem ab9 {l:List D} {k:Nat} {x:D} (h:l[k]? = some x) :lA (l.take (k+1))=lA (l.take k)++iS x:=by
 unfold lA; rw[atJ,h,auR]; simp
theorem R8 (l:List D) :(lA l).length=4*l.length:=by
 induction l with
 | nil=>rfl
 | cons x l aH=>unfold lA at aH ⊢; rw[List.flatMap_cons,atB,aH,atL]; simp[iS]; omega
def Cl (b:List B) :Q:=vb ((h2 b).take 8)
theorem ajq {l:am} {b:Nat} {v m aY cn:U} (h:l[b]? = some (.cells 2 [v,m])) (h1:fH (bU l) v aY) (ad:fH (bU l) m cn) :fH (bU l) (.au 1 b 0 2 2 2) (.bD 1 [[aY],[cn]]) :=by
 refine .au 1 b 0 2 2 2 [v,m] [[aY],[cn]] (lX.2 h) rfl (by simp) (by simp) (fun i j e c c' ao ai ah=>?_);rcases i with _ | _ | i
 ·simp at ao; subst ao;rcases j with _ | j
  ·simp at ai ah; subst ai ah; exact h1
  ·simp at ai
 ·simp at ao; subst ao;rcases j with _ | j
  ·simp at ai ah; subst ai ah; exact ad
  ·simp at ai
 ·simp at ao
theorem akr {b:Nat}:gg (.arr 32 1) (.ptr b 0 32) none (some (.int .i64 8)) none=some (.au 1 b 0 8 32 32) :=by
 have:gv 32 32 none (some (.int .i64 8)) none=some (0,8,32) :=rfl;simp only[gg,this]; rfl
structure YV (i4:B) (m:eI) (dT:List D) (k:Nat) (ae:a7) (l:am) :Prop where
 aL:ae 1=cB m
 tK:ae 21=cK 1 eF (some dT)
 Ji:ae 22=.int .i64 dT.length
 zA:ae 23=.int .i64 k
 ex:∃ v,ae 8=v/\cf 1 b7 [] l v (i4::lA (dT.take k)) false
structure YK (d:List B) (e:Int) (k:Nat) (ae:a7) (l:am) :Prop where
 fA:ae 12=.int .i64 e
 h8:ae 13=c4 (vb (d.take k))
 Jj:∃ b n,ae 49=.au 1 b 0 8 n n/\l[b]? = some (.cells n (d.map bB))/\n=32
 Jk:ae 50=.int .i64 8
 Jl:ae 51=.int .i64 k
set_option maxHeartbeats 1000000 in
theorem adu (i4:B) (m:eI) (hm:m.l.length<=9991) (dT:List D) (ak:dT.length<=10) :bw Tryz.prog GS 246 [bB i4,cB m,cK 1 eF (some dT)] (.bG [c4 (Cl (i4::(lA dT++m.l))),.int .i64 0]) :=by
 refine bP Tryz.checked.mixed bC ?_;apply bj Tryz.func246 [];have ax:ct=140737488355328:=rfl;have bh:cP (.au 1) (cB m)=some (.int .i64 m.l.length) :=qc _;have aeJ:cP (.au 1) (cK 1 eF (some dT))=some (.int .i64 dT.length) :=qc _;have eX:¬ (9991:Int)<(m.l.length:Int) :=by omega
 have Jw:¬ 9991<m.l.length:=by omega
 have hR:=l7 m;simp[bh,aeJ,eX,Jw];refine cF dT.length (YV i4 m dT) ?_ ⟨by simp,by simp,by simp,by simp,_,rfl,⟨0,o5 (n:=1) (a:=[i4]) rfl rfl,by simp,by simp,.inr (by simp),rfl⟩⟩;rintro k ae l hk ⟨aL,tK,Ji,zA,v,eu,en⟩;obtain⟨ae,rfl⟩:=kU aL eu tK Ji zA;clear aL eu tK Ji zA;by_cases h:k<dT.length
 ·obtain⟨x,af,_⟩:=bA h;have cc:cj (.au 1) (cK 1 eF (some dT)) (.int .i64 k)=some (.b6 (eF x) 0) :=by rw[ra]; simp[af]
  have e5:IntKind.i64.wrap ((k:Int)+1)=(k+1:Nat) :=wrap_i64 (by omega) (by omega);have al:=ab9 af;have fL:=R8 (dT.take k);rw[atN] at fL;obtain⟨aY,l',aS,aX,a3⟩:=(en.more [a2.cells 4 ((iS x).map bB)]).app (by_:=1) (x:=.au 1 l.length 0 4 4 4) (xs:=iS x) (by rw[xi]; simp[dp,iS]) (fun y _=>rfl) (by omega) (by omega) (by rw[ax]; simp[iS]; omega);rw[show (iS x).map bB=[.int .u8 (u (BitVec.setWidth 8 (x >>> 24))),.int .u8 (u (BitVec.setWidth 8 (x >>> 16))),.int .u8 (u (BitVec.setWidth 8 (x >>> 8))),.int .u8 (u (BitVec.setWidth 8 x))] from rfl] at aS;simp[h,cc,eF,e5,aS];refine c0.cq ?_;simp[e5];exact⟨by omega,by simp,by simp,by simp,by simp,aY,by simp,by rw[al,<-auM]; exact aX⟩
 ·have eK:k=dT.length:=by omega
  subst eK;rw[atW] at en;have fL:=R8 dT;have ay:=Mn [some (i4::lA dT),m] (by simp) (fun s al=>by
   rcases aub.1 al with h | h
   ·rw[h]; show (i4::lA dT).length<=_; simp; omega
   ·rw[atM.1 h]; omega)
  have dD:bytesOf [some (i4::lA dT),m]=i4::(lA dT++m.l) :=by simp[bytesOf]
  rw[dD] at ay;have nj:=en.cells;have zX:(cB m).cells=some [cB m] :=by cases m<;>rfl
  obtain⟨iy,xH⟩:∃ iy,iy=h2 (i4::(lA dT++m.l)) :=⟨_,rfl⟩
  have xI:iy.length=32:=by rw[xH]; exact wL _
  rw[<-xH] at ay;have Kb:(iy.map bB).length=32:=by simp[xI]
  have Kk:fM iy=.aM (iy.map bB) :=rfl;rw[Kk] at ay;have KX:bz (rep 32 (.int .u8 0)) 0 (iy.map bB)=iy.map bB:=fE (by rw[Kb]; rfl);have e4:∀ b,gg (.arr 32 1) (.ptr b 0 32) none (some (.int .i64 8)) none=some (.au 1 b 0 8 32 32) :=fun b=>akr (b:=b)
  simp[nj,zX];refine ie ay (.cons (ajq (by simp) ((en.more _).rz (fun _=>rfl) (some (i4::lA dT)) rfl rfl) (.same _ hR)) .nil) (by simp[U.flat,lz,fM,zx bB (fun _=>rfl)]) ?_;simp[xI,KX,e4];refine cF 8 (YK iy 0) ?_ ⟨by simp,by simp[vb],⟨l.length+1,32,by simp,by simp[List.getElem?_append],rfl⟩,by simp,by simp⟩;clear en;rintro k ae l hk ⟨fA,h8,⟨b,n,Jj,ag,rfl⟩,Jk,Jl⟩;obtain⟨ae,rfl⟩:=kU fA h8 Jj Jk Jl;clear fA h8 Jj Jk Jl;by_cases h:k<8
  ·obtain⟨x,af,_⟩:=bA (l:=iy) (k:=k) (by omega);have e5:IntKind.i64.wrap ((k:Int)+1)=(k+1:Nat) :=wrap_i64 (by omega) (by omega);have al:=ON iy k x af;have eK:(k:Int)<8:=by omega
   have apX:(iy.map bB)[k]? = some (bB x) :=by rw[atw,af]; rfl
   simp[h,eK,ag,e5,af];exact⟨by simp,by simp[al],⟨b,32,by simp,by simpa using ag,rfl⟩,by simp,by simp⟩
  ·have hT:k=8:=by omega
   subst hT;simp;exact aP (by unfold Cl; rw[xH]) rfl
def BE (r y:D) (m:List B) :D:=(Cl (99#8::(lA [r,y]++m)) % 500000003#64).setWidth 32
theorem W4 (x:Q) :cm .rem .u64 (u x) .u64 500000003=some (.int .u64 (u (x % 500000003#64))) :=zb x 500000003#64 (by decide)
theorem al3 (r y:D) (m:eI) (hm:m.l.length<=9991) :bw Tryz.prog GS 206 [br r,br y,cB m] (.bG [br (BE r y m.l),.int .i64 0]) :=by
 refine bP Tryz.checked.mixed bC ?_;apply bj Tryz.func206 [];have hR:=l7 m;simp;refine ie (adu 99#8 m hm [r,y] (by simp)) (.cons (.same _ rfl) (.cons (.same _ hR) (.cons (DI (by simp)) .nil))) rfl ?_;simp[W4];exact aP rfl rfl
theorem Mw (a b:D) (ag:b≠0#32) :cm .quo .u32 (u a) .u32 (u b)=some (.int .u32 (u (a / b))) :=by
 have bH:(b.toNat:Int)≠0:=fun e=>ag (atH (by simpa using e))
 show (if IntKind.u32=IntKind.u32/\(b.toNat:Int)≠0 then some (U.int .u32 (IntKind.u32.wrap ((a.toNat:Int).tdiv b.toNat))) else none)=_;rw[if_pos ⟨rfl,bH⟩,A3];congr 2;have:((a.toNat:Int).tdiv b.toNat)=((a.toNat / b.toNat:Nat) :Int) :=rfl;rw[this,auX];congr 1;apply atH;rw[atK,auZ];exact atD (Nat.lt_of_le_of_lt (Nat.div_le_self _ _) a.isLt)
theorem R7 (x:D) {l:am} {K:U->am->Prop} (aV:∀ v l',cf 1 b7 l l' v (iS x) false->K v l') :c7 Tryz.prog GS 223 [br x] l (c:=⟨K⟩) :=by
 apply bj Tryz.func223 [];have q1:cm .quo .u32 (u x) .u32 16777216=some (.int .u32 (u (x / 16777216#32))) :=Mw x 16777216#32 (by decide);have gn:cm .quo .u32 (u x) .u32 65536=some (.int .u32 (u (x / 65536#32))) :=Mw x 65536#32 (by decide);have kP:cm .quo .u32 (u x) .u32 256=some (.int .u32 (u (x / 256#32))) :=Mw x 256#32 (by decide);have lT:∀ y:D,cm .rem .u32 (u y) .u32 256=some (.int .u32 (u (y % 256#32))) :=fun y=>Z2 y 256#32 (by decide)
 have af:=x.isLt;have aQ:BitVec.setWidth 8 (x / 16777216#32)=BitVec.setWidth 8 (x >>> 24) :=by
  apply atH;rw[atI,atI,auZ,auf,atR];rfl
 have bF:BitVec.setWidth 8 (x / 65536#32 % 256#32)=BitVec.setWidth 8 (x >>> 16) :=by
  apply atH;rw[atI,atI,auC,auZ,auf,atR];show x.toNat / 65536 % 256 % 256=x.toNat / 65536 % 256;omega
 have dz:BitVec.setWidth 8 (x / 256#32 % 256#32)=BitVec.setWidth 8 (x >>> 8) :=by
  apply atH;rw[atI,atI,auC,auZ,auf,atR];show x.toNat / 256 % 256 % 256=x.toNat / 256 % 256;omega
 have j0:BitVec.setWidth 8 (x % 256#32)=BitVec.setWidth 8 x:=by
  apply atH;rw[atI,atI,auC];show x.toNat % 256 % 256=x.toNat % 256;omega
 simp[q1,gn,kP,lT,aQ,bF,dz,j0];exact aV _ _ ⟨l.length,o5 (n:=4) (a:=iS x) rfl (by simp; rfl),by simp,fun b ag=>ats ag,.inr (by simp),rfl⟩
structure Y2 (d:List B) (k:Nat) (ae:a7) (l:am) :Prop where
 a8:ae 3=.ptr 0 0 32
 bu:ae 4=c4 (vb (d.take k))
 bc:ae 5=.int .i64 k
 fU:l[0]? = some (.cells 32 (d.map bB))
theorem ahX (s:eI) (al:s.l.length<=1000000) :bw Tryz.prog GS 224 [cB s] (c4 (Cl s.l)) :=by
 refine bP Tryz.checked.mixed bC ?_;apply bj Tryz.func224 [];have ud:=ME s al;have ce:=l7 s;obtain⟨iy,xH⟩:∃ iy,iy=h2 s.l:=⟨_,rfl⟩
 have xI:iy.length=32:=by rw[xH]; exact wL _
 rw[<-xH] at ud;have Kk:fM iy=.aM (iy.map bB) :=rfl;rw[Kk] at ud;have Kb:(iy.map bB).length=32:=by simp[xI]
 have KX:bz (rep 32 (.int .u8 0)) 0 (iy.map bB)=iy.map bB:=fE (by rw[Kb]; rfl);simp;refine bf ud (by simp[bm,ce]) ?_;simp[xI,KX];refine cF 8 (Y2 iy) ?_ ⟨by simp,by simp[vb],by simp,rfl⟩;rintro k ae l hk ⟨a8,bu,bc,fU⟩;obtain⟨ae,rfl⟩:=kq a8 bu bc;clear a8 bu bc;by_cases h:k<8
 ·obtain⟨x,af,_⟩:=bA (l:=iy) (k:=k) (by omega);have e5:IntKind.i64.wrap ((k:Int)+1)=(k+1:Nat) :=wrap_i64 (by omega) (by omega);have al:=ON iy k x af;rw[akg] at al;have eK:(k:Int)<8:=by omega
  have Ko:k<32:=by omega
  simp[h,eK,Ko,fU,e5,af];exact⟨by omega,by simp,by simp[al],by simp,fU⟩
 ·have hT:k=8:=by omega
  subst hT;simp;exact aP (by unfold Cl; rw[xH]) rfl
theorem ai0 (r y:D) (m:eI) (hm:m.l.length<=900000) :bw Tryz.prog GS 168 [br r,br y,cB m] (br (BE r y m.l)) :=by
 refine bP Tryz.checked.mixed bC ?_;apply bj Tryz.func168 [];have ax:ct=140737488355328:=rfl;have hR:=l7 m;simp;refine R7 r fun fx l1 h1=>?_
 have T1:=h1.le;have ae7:cf 1 b7 [] l1 (.au 1 0 0 1 1 1) [99#8] false:=⟨0,o5 (n:=1) (a:=[99#8]) rfl (by rw[h1.same 0 (by simp)]; rfl),by simp,by simp,.inr (by simp),rfl⟩
 obtain⟨dJ,b5,aS,aX,a3⟩:=ae7.app (by_:=1) (x:=fx) (xs:=iS r) h1.contents (fun _ _=>rfl) (by omega) (by omega) (by rw[ax]; simp[iS]);simp[aS];refine c0.cq ?_;simp;refine R7 y fun v3 dU aj=>?_
 have ae8:cf 1 b7 [] dU dJ ([99#8]++iS r) false:=aX.frame aj.le aj.same;obtain⟨v4,ri,dM,dy,gL⟩:=ae8.app (by_:=1) (x:=v3) (xs:=iS y) aj.contents (fun _ _=>rfl) (by omega) (by omega) (by rw[ax]; simp[iS]);simp[dM];refine c0.cq ?_;obtain⟨v5,Vq,ca,cy,eV⟩:=dy.app (by_:=1) (x:=cB m) (xs:=m.l) (Rq _ _) (fun _ _=>rfl) (by omega) (by omega) (by rw[ax]; simp[iS]; omega);simp[ca];refine c0.cq ?_;have ag:(dR.l (some ([99#8]++iS r++iS y++m.l)) :List B)=99#8::(lA [r,y]++m.l) :=by simp[lA]
 have Ug:=ahX (some ([99#8]++iS r++iS y++m.l)) (by rw[ag]; simp[lA,iS]; omega);rw[ag] at Ug;simp;refine ie Ug (.cons (cy.rz (fun _=>rfl) (some ([99#8]++iS r++iS y++m.l)) (by simp) rfl) .nil) rfl ?_;simp[W4];exact aP rfl rfl
theorem Hf (a n k:Nat) :fv (fv a n) k=fv a (n*k) :=by
 unfold fv; rw[<-av7,<-Nat.pow_mul]
theorem Wt (n:Nat) :fv 1 n=1:=by unfold fv; rw[Nat.one_pow]
theorem aiB (a m n:Nat) :fv a (m+n)=fv a m*fv a n % 1000000007:=by
 unfold fv; rw[av6,avR]
theorem ZM:fv 4 500000003=1:=by
 have h:=Mp 4 500000003 (by decide) 64 (att _);rw[show 500000003 / 2 ^ (64 - 64)=500000003 from rfl] at h;rw[<-h];decide +kernel
theorem Lv {y:D} (h:fv y.toNat 500000003=1) (n:Nat) :fX (gF y n)=true:=by
 have aq:=rx y n;have aK:=yz y.toNat n;have h1:fv (fv y.toNat n) 500000003=1:=by
  rw[Hf,awn,<-Hf,h,Wt]
 have aE:fv y.toNat n≠0:=fun e=>by
  rw[e] at h1;have aw:∀ n,0<n->fv 0 n=0:=fun n aC=>by unfold fv; rw[Nat.zero_pow aC]
  rw[aw _ (by decide)] at h1;cases h1
 unfold fX;rw[aq,decide_eq_true (by omega),decide_eq_true aK,decide_eq_true h1]; rfl
theorem UW {y:D} (h:fX y=true) :fv y.toNat 500000003=1:=by
 unfold fX at h; simp only[atv,decide_eq_true_eq] at h; exact h.2
theorem ZL {y:D} (h:fv y.toNat 500000003=1) {e:Nat} (ao:e<500000003) :gF (gF y e) 500000002=gF y (500000003 - e) :=by
 apply atH;rw[rx,rx,rx,Hf];rcases e with _ | e
 ·rw[avG,av1,h];unfold fv; rfl
 ·have aQ:(e+1)*500000002=500000003*e+(500000003 - (e+1)) :=by omega
  rw[aQ,aiB,<-Hf,h,Wt,avQ,atD (yz _ _)]
def DF (y:D) (e s:D) :D:=DB (gF 4#32 s.toNat) (gF y (500000003 - e.toNat))
def DS (y:D) (m:List B) (e s:D) :Bool:=iR e&&(iR s&&decide (BE (DF y e s) y m=e))
theorem akY {e:D} (ao:e.toNat<500000003) :(500000003#64 - e.setWidth 64).toNat=500000003 - e.toNat:=by
 rw[BitVec.toNat_sub,atI];have:(500000003#64).toNat=500000003:=rfl;rw[this]; omega
theorem amn (y:D) (az:fX y=true) (m:eI) (hm:m.l.length<=9991) (e s:D) :bw Tryz.prog GS 148 [br y,cB m,.aM [br e,br s]] (.int .i64 (if DS y m.l e s then 0 else 22)) :=by
 refine bP Tryz.checked.mixed bC ?_;apply bj Tryz.func148 [];unfold DS;have bh:cP (.au 1) (cB m)=some (.int .i64 m.l.length) :=qc _;have eX:¬ (9991:Int)<(m.l.length:Int) :=by omega
 have Jw:¬ 9991<m.l.length:=by omega
 have hR:=l7 m;have aZ:=UW az;have Tz:=Lu y;rw[az] at Tz;simp;refine bf Tz rfl ?_;obtain⟨M,m1⟩:∃ M:Int,M=if u e<u s then u s else u e:=⟨_,rfl⟩
 have xY:uz (br e) (br s)=some (.int .u32 M) :=by rw[m1]; simp[uz,br]
 have SL:(500000003:Int)<=M<->500000003<=e.toNat\/500000003<=s.toNat:=by
  rw[m1]; unfold u; split<;>omega
 simp[bh,eX,Jw,xY];by_cases h1:500000003<=e.toNat\/500000003<=s.toNat
 ·have ag:(iR e&&(iR s&&decide (BE (DF y e s) y m.l=e)))=false:=by
   unfold iR;rcases h1 with h | h
   ·rw[decide_eq_false (by omega)]; rfl
   ·rw[decide_eq_false (p:=s.toNat<500000003) (by omega)]; simp
  have ah:=SL.2 h1;simp[ah,ag];exact aP rfl rfl
 ·have ah:¬ (500000003:Int)<=M:=fun h=>h1 (SL.1 h)
  have fk:iR e=true:=by unfold iR; exact decide_eq_true (by omega)
  have e9:iR s=true:=by unfold iR; exact decide_eq_true (by omega)
  have Up:=ack y (500000003#64 - e.setWidth 64);have afA:(s.setWidth 64:Q).toNat=s.toNat:=by rw[atI]; omega
  have Fz:=aci (s.setWidth 64);rw[az,if_pos rfl,if_pos rfl,akY (by omega)] at Up;rw[afA] at Fz;have ua:=acj (gF 4#32 s.toNat) (gF y (500000003 - e.toNat));rw[Lv (y:=4#32) ZM,Lv aZ] at ua;simp only[avi,if_true] at ua;have Co:=al3 (DF y e s) y m hm;have eB:∀ a b:D,((u a:Int)=u b)<->a=b:=fun a b=>⟨fun h=>atH (by unfold u at h; omega),fun h=>by rw[h]⟩
  simp[ah];refine bf Up rfl ?_;simp;refine bf Fz rfl ?_;simp;refine bf ua rfl ?_;simp;refine bf Co (by simp[bm,U.closed,hR]) ?_;rw[fk,e9];by_cases aj:BE (DF y e s) y m.l=e
  ·simp[aj];exact aP rfl rfl
  ·simp[aj,eB];exact aP rfl rfl
theorem ai6 (s:D) :bw Tryz.prog GS 120 [br s] (br (gF 4#32 s.toNat)) :=by
 refine bP Tryz.checked.mixed bC ?_;apply bj Tryz.func120 [];have aj2:(s.setWidth 64:Q).toNat=s.toNat:=by rw[atI]; omega
 have Fy:=aiY (s.setWidth 64);rw[aj2] at Fy;simp;refine bf Fy rfl ?_;simp;exact aP rfl rfl
theorem ajf (y:D) (az:fX y=true) (m:eI) (hm:m.l.length<=900000) (e s:D) :bw Tryz.prog GS 131 [br y,cB m,.aM [br e,br s]] (.bool (DS y m.l e s)) :=by
 refine bP Tryz.checked.mixed bC ?_;apply bj Tryz.func131 [[[0],[1],[3],[5],[6],[8],[9],[2,9],[4,9],[7,9]]];unfold DS;have hR:=l7 m;have aZ:=UW az;have eB:∀ a b:D,((u a:Int)=u b)<->a=b:=fun a b=>⟨fun h=>atH (by unfold u at h; omega),fun h=>by rw[h]⟩
 simp;refine bf (ES e) rfl ?_;cases h1:iR e with
 | false=>simp; exact aP rfl rfl
 | true=>
 simp;refine bf (ES s) rfl ?_;cases ad:iR s with
 | false=>simp; exact aP rfl rfl
 | true=>
 have ao:e.toNat<500000003:=by unfold iR at h1; exact of_decide_eq_true h1
 have abf:(e.setWidth 64:Q).toNat=e.toNat:=by rw[atI]; omega
 have Ut:=MA y (e.setWidth 64);rw[abf] at Ut;have TG:=ai5 (gF y e.toNat);rw[Lv aZ,if_pos rfl,if_pos rfl,ZL aZ ao] at TG;have Fy:=ai6 s;have z7:=aje (gF 4#32 s.toNat) (gF y (500000003 - e.toNat));have Co:=ai0 (DF y e s) y m hm;simp;refine bf Ut rfl ?_;simp;refine bf TG rfl ?_;simp;refine bf Fy rfl ?_;simp;refine bf z7 rfl ?_;simp;refine bf Co (by simp[bm,U.closed,hR]) ?_;simp[eB];exact aP rfl rfl
def M6 (o:bp) :Bool:=DS o.ht (kn o) o.e o.s
def qv (o:bp) :Int:=if fY o=0 then (if M6 o then 0 else 22) else fY o
theorem V2 {o:bp} (av:∀ x∈o.bo.l,x.length=32) (h:fY o=0) :fX o.ht=true/\(kn o).length<=9991:=by
 have aF:=AA h;unfold fY at h;rw[if_neg (by omega)] at h;split at h
 ·split at h
  ·rename_i ax ar;unfold sb at ar;simp only[atv,decide_eq_true_eq] at ar;obtain⟨aL,aT,a8,bu,bc⟩:=ar;refine⟨aL,?_⟩;have Kr:o.act.key.length<=20/\(o.act.kind=4#8->o.act.val.text.length<=30) :=by
    unfold jF at a8;split at a8
    ·rename_i h1;simp only[atv,decide_eq_true_eq] at a8;rw[a8.1];exact⟨by simp,fun h=>by rw[h1] at h; cases h⟩
    ·split at a8
     ·rename_i h1 ad;simp only[atv] at a8;have hk:=a8.1;unfold gP at hk;simp only[atv,decide_eq_true_eq] at hk;exact⟨hk.1.2,fun h=>by rw[h] at ad; rcases ad with ad | ad<;>cases ad⟩
     ·split at a8
      ·simp only[atv] at a8;obtain⟨hk,aq⟩:=a8;unfold gP at hk;simp only[atv,decide_eq_true_eq] at hk;refine⟨hk.1.2,fun _=>?_⟩;unfold jx at aq;split at aq
       ·simp only[atv,decide_eq_true_eq] at aq; rw[aq.2]; simp
       ·split at aq
        ·simp only[atv,decide_eq_true_eq] at aq; rw[aq.1.2]; simp
        ·split at aq
         ·simp only[atv,decide_eq_true_eq] at aq; exact aq.1.2
         ·cases aq
      ·cases a8
   have lj:=hZ o.ht.toNat
   have n2:=hZ o.c3.toNat
   have uB:=Di av;have sN:=AX (e8 o.act.key);rw[qo] at sN;have lk:=D7 o.act.val;have n6:(opHead o).length<=10:=by unfold opHead; simp; omega
   unfold kn;simp only[atB,atL,at7];have n7:(if o.act.kind=1#8 then ([] :List B) else iI (e8 o.act.key)).length<=29:=by
    split
    ·simp
    ·omega
   have n8:(if o.act.kind=4#8 then iJ o.act.val else []).length<=50:=by
    split
    ·rename_i h; have:=Kr.2 h; omega
    ·simp
   omega
  ·cases h
 ·cases h
theorem amo (o:bp) (ap:lZ o) :bw Tryz.prog GS 95 [.aM (bl o)] (.int .i64 (qv o)) :=by
 refine bP Tryz.checked.mixed bC ?_;apply bj Tryz.func95 [];unfold qv;have dj:=pA o;have dr:=HQ o ap;have xG:bm [U.aM (bl o)]=true:=by simp[bm,U.closed,dj]
 by_cases aE:fY o=0
 ·obtain⟨ar,bh⟩:=V2 ap.ids aE;rw[if_pos aE];simp[bl];refine bf dr xG ?_;simp[aE];refine Ys o ap (OG aE) fun w l' h=>?_
  have fU:l'[0]? = some (.cells 11 (bl o)) :=by rw[h.same 0 (by simp)]; rfl
  have Dx:=fU;simp[bl] at Dx;have aq:=amn o.ht ar (some (kn o)) bh o.e o.s;simp[Dx];refine ie aq (.cons (.same _ rfl) (.cons (h.rz (fun _=>rfl) (some (kn o)) rfl rfl) (.cons (.same _ rfl) .nil))) rfl ?_;simp;exact aP rfl rfl
 ·rw[if_neg aE];simp[bl];refine bf dr xG ?_;simp[aE];exact aP rfl rfl
theorem aji (o:bp) (ap:lZ o) (aE:fY o=0) :bw Tryz.prog GS 82 [.aM (bl o)] (.bool (M6 o)) :=by
 refine bP Tryz.checked.mixed bC ?_;apply bj Tryz.func82 [[[0],[1],[2],[4],[5],[3,5,1]]];have dj:=pA o;obtain⟨ar,bh⟩:=V2 ap.ids aE;have aq:=ajf o.ht ar (some (kn o)) (by show (kn o).length<=_; omega) o.e o.s;simp[bl];refine WP o ap (by have:=AA aE; omega) fun w l' h=>?_
 have fU:l'[0]? = some (.cells 11 (bl o)) :=by rw[h.same 0 (by simp)]; rfl
 have Dx:=fU;simp[bl] at Dx;simp[Dx];refine ie aq (.cons (.same _ rfl) (.cons (h.rz (fun _=>rfl) (some (kn o)) rfl rfl) (.cons (.same _ rfl) .nil))) rfl ?_;simp;exact aP rfl rfl
theorem ajl (o:bp) (ap:lZ o) :bw Tryz.prog GS 39 [.aM (bl o)] (.int .i64 (qv o)) :=by
 refine bP Tryz.checked.mixed bC ?_;apply bj Tryz.func39 [];unfold qv;have dj:=pA o;have dr:=aja o ap;have xG:bm [U.aM (bl o)]=true:=by simp[bm,U.closed,dj]
 by_cases aE:fY o=0
 ·rw[if_pos aE];simp[bl];refine bf dr xG ?_;simp[aE];refine bf (aji o ap aE) xG ?_;cases al:M6 o with
  | true=>simp; exact aP rfl rfl
  | false=>simp; exact aP rfl rfl
 ·rw[if_neg aE];simp[bl];refine bf dr xG ?_;simp[aE];refine bf dr xG ?_;simp;exact aP rfl rfl
end Op

end Go.b2

namespace Go.b2
open Go Go.Proofs
set_option maxRecDepth 100000
namespace Op

section
variable {α:Type} {z:Nat} {enc:α->List U}
theorem L7 {by_:Nat} {l l1:am} {v:U} {a:List α} {fT:Bool} (h:cf z enc l l1 v a fT) (x:α) {b:Nat} (ag:l1[b]? = some (.cells z (enc x))) (af:(enc x).length=z) (aE:z≠0) (dD:by_≠0) (df:(a.length+1)*by_<=ct) :
  ∃ aY l',fz l1 z by_ v (.au z b 0 1 1 z)=some (aY,l')/\cf z enc l l' aY (a++[x]) false/\l1.length<=l'.length:=by
 obtain⟨aY,l',aL,aT,a8⟩:=h.app (by_:=by_) (x:=.au z b 0 1 1 z) (xs:=[x]) (by simp[dp,ag,af,atr]) (by simp[af]) aE dD (by simpa using df);exact⟨aY,l',aL,by simpa using aT,a8⟩
def kg (l:List α) (i:Nat) (x:α) :List α:=l.take i++x::l.drop i
theorem Lr (l:List α) (i:Nat) (x:α) :(kg l i x).length=l.length+1:=by
 unfold kg;have:=congrArg List.length (auc i l);simp only[atB,atL] at this ⊢; omega
theorem Gs {l:List α} {i:Nat} {x y:α}:y∈kg l i x<->y=x\/y∈l:=by
 unfold kg;rw[atQ,aub];constructor
 ·rintro (h | h | h)
  ·exact .inr (at0 h)
  ·exact .inl h
  ·exact .inr (avc h)
 ·rintro (h | h)
  ·exact .inr (.inl h)
  ·rw[<-auc i l,atQ] at h;exact h.elim .inl fun h=>.inr (.inr h)
def n5 (lt:α->α->Bool) (l:List α) (x:α) :Nat->Nat
 | 0=>0
 | k+1=>match l[k]? with
  | some y=>if lt x y then n5 lt l x k else k+1
  | none=>k+1
theorem Wp {lt:α->α->Bool} {l:List α} {x y:α} {k:Nat} (h:l[k]? = some y) :n5 lt l x (k+1)=if lt x y then n5 lt l x k else k+1:=by
 rw[n5,h]
theorem UU {lt:α->α->Bool} (yb:∀ a b c,lt a b=true->lt b c=true->lt a c=true) {l:List α} {x:α} (al:l.Pairwise fun a b=>lt a b=true) (af:∀ y∈l,lt x y=false->lt y x=true) :
  (kg l (n5 lt l x l.length) x).Pairwise fun a b=>lt a b=true:=by
 have key:∀ k,k<=l.length->(∀ y∈l.drop k,lt x y=true)->(kg l (n5 lt l x k) x).Pairwise fun a b=>lt a b=true:=by
  intro k
  induction k with
  | zero=>
   intro _ h;show (kg l 0 x).Pairwise _;unfold kg;rw[auE,auB,auv,avq];exact⟨h,al⟩
  | succ k aH=>
   intro hk h;obtain⟨y,az,cO⟩:=bA (l:=l) (k:=k) (by omega);rw[Wp az];have bq:l.drop k=y::l.drop (k+1) :=by rw[auo (by omega),(atq.1 az).2]
   have aI:l.take (k+1)=l.take k++[y] :=by rw[atJ,az]; rfl
   cases kb:lt x y with
   | true=>
    rw[if_pos rfl];refine aH (by omega) fun w hw=>?_
    rw[bq] at hw;rcases aub.1 hw with rfl | hw
    ·exact kb
    ·exact h w hw
   | false=>
    rw[if_neg (by simp)];have UJ:=af y cO kb;have h1:∀ a∈l.take (k+1),lt a x=true:=fun a aB=>by
     rw[aI,atQ,atM] at aB;rcases aB with aB | rfl
     ·have ad:(l.take k++y::l.drop (k+1)).Pairwise fun a b=>lt a b=true:=by rw[<-bq,auc]; exact al
      exact yb _ _ _ ((avz.1 ad).2.2 a aB y (by simp)) UJ
     ·exact UJ
    unfold kg;have ad:=al;rw[<-auc (k+1) l] at ad;obtain⟨np,uG,Mg⟩:=avz.1 ad;refine avz.2 ⟨np,avq.2 ⟨h,uG⟩,fun a aB b ag=>?_⟩;rcases aub.1 ag with rfl | ag
    ·exact h1 a aB
    ·exact Mg a aB b ag
 exact key _ (att _) (by simp)
theorem DV {lt:α->α->Bool} (FW:∀ a,lt a a=false) (yb:∀ a b c,lt a b=true->lt b c=true->lt a c=true) :∀ {l m:List α},l.Pairwise (fun a b=>lt a b=true)->m.Pairwise (fun a b=>lt a b=true)->(∀ y,y∈l<->y∈m)->l=m
 | [],[],_,_,_=>rfl
 | [],b::m,_,_,h=>absurd ((h b).2 (by simp)) (by simp)
 | a::l,[],_,_,h=>absurd ((h a).1 (by simp)) (by simp)
 | a::l,b::m,ak,hm,h=>by
  obtain⟨l1,b5⟩:=avq.1 ak;obtain⟨gm,hr⟩:=avq.1 hm;have e2:a=b:=by
   rcases aub.1 ((h a).1 (by simp)) with e | e
   ·exact e
   ·rcases aub.1 ((h b).2 (by simp)) with bF | bF
    ·exact bF.symm
    ·have:=yb _ _ _ (gm a e) (l1 b bF);rw[FW] at this; cases this
  subst e2;congr 1;refine DV FW yb b5 hr fun y=>⟨fun az=>?_,fun az=>?_⟩
  ·rcases aub.1 ((h y).1 (by simp[az])) with e | e
   ·subst e;have:=l1 y az;rw[FW] at this; cases this
   ·exact e
  ·rcases aub.1 ((h y).2 (by simp[az])) with e | e
   ·subst e;have:=gm y az;rw[FW] at this; cases this
   ·exact e
def n9 (lt:α->α->Bool) (u:List α) :Nat->List α
 | 0=>[]
 | i+1=>match u[i]? with
  | some x=>kg (n9 lt u i) (n5 lt (n9 lt u i) x (n9 lt u i).length) x
  | none=>n9 lt u i
theorem Xw {lt:α->α->Bool} {u:List α} {i:Nat} {x:α} (h:u[i]? = some x) :n9 lt u (i+1)=kg (n9 lt u i) (n5 lt (n9 lt u i) x (n9 lt u i).length) x:=by rw[n9,h]
theorem HB {lt:α->α->Bool} {u:List α} {y:α}:∀ {i:Nat},i<=u.length->(y∈n9 lt u i<->y∈u.take i)
 | 0,_=>by simp[n9]
 | i+1,h=>by
  obtain⟨x,af,_⟩:=bA (l:=u) (k:=i) (by omega);rw[Xw af,Gs,HB (by omega),atJ,af,atQ];simp[or_comm]
theorem M7 {lt:α->α->Bool} (yb:∀ a b c,lt a b=true->lt b c=true->lt a c=true) (UB:∀ a b,a≠b->lt a b=false->lt b a=true) {u:List α} (aC:u.Nodup) :∀ {i:Nat},i<=u.length->(n9 lt u i).Pairwise fun a b=>lt a b=true
 | 0,_=>List.Pairwise.nil
 | i+1,h=>by
  obtain⟨x,af,_⟩:=bA (l:=u) (k:=i) (by omega);rw[Xw af];refine UU yb (M7 yb UB aC (by omega)) fun y az kb=>UB x y (fun e=>?_) kb
  subst e;rw[HB (by omega)] at az;have ad:(u.take i++[x]).Nodup:=by
   have:u.take (i+1)=u.take i++[x] :=by rw[atJ,af]; rfl
   rw[<-this]; exact aC.sublist (avO _ _)
  exact (auD.1 ad).2.2 x az x (by simp) rfl
end

section
variable {α:Type} [DecidableEq α]
end

end Op

end Go.b2

namespace Go.b2
open Go Go.Proofs
set_option maxRecDepth 100000
namespace Op
open gh
def hW {α:Type} [DecidableEq α] (x:α) :List α->Nat->Int
 | [],_=>-1
 | y::r,k=>if y=x then (k:Int) else hW x r (k+1)
theorem yh {α:Type} [DecidableEq α] (x:α) :∀ (l:List α) (k:Nat),(0<=hW x l k)<->x∈l
 | [],k=>by simp[hW]
 | y::r,k=>by
  unfold hW;by_cases h:y=x
  ·simp[h]
  ·rw[if_neg h,yh x r (k+1)];simp[Ne.symm h]
theorem yg {α:Type} [DecidableEq α] {x:α}:∀ {l:List α} {k n:Nat} {y:α},l[k]? = some y->(∀ (j:Nat) (z:α),j<k->l[j]? = some z->z≠x)->y=x->hW x l n=((n+k:Nat) :Int)
 | [],k,n,y,h,_,_=>by simp at h
 | w::r,0,n,y,h,_,az=>by
  simp at h; subst h;unfold hW;rw[if_pos az]; simp
 | w::r,k+1,n,y,h,ak,az=>by
  unfold hW;rw[if_neg (ak 0 w (by omega) (by simp)),yg (k:=k) (n:=n+1) (by simpa using h) (fun j z ai aw=>ak (j+1) z (by omega) (by simpa using aw)) az];congr 1; omega
theorem Gt {α:Type} [DecidableEq α] {x:α}:∀ {l:List α} {n:Nat},(∀ (j:Nat) (z:α),l[j]? = some z->z≠x)->hW x l n=-1
 | [],n,_=>rfl
 | w::r,n,ak=>by
  unfold hW;rw[if_neg (ak 0 w (by simp)),Gt fun j z aw=>ak (j+1) z (by simpa using aw)]
theorem WM (s:fq) (ap:h0 s) (ak:s.l.length<=1000000) (x:List B) (af:x.length=32) :bw Tryz.prog GS 79 [aU s,.aM (aR x)] (.bool (decide (x∈s.l))) :=by
 refine bP Tryz.checked.mixed bC ?_;apply bj Tryz.func79 [];simp[aU];refine cF s.l.length (fun k ae l=>l=[.cells 32 (aR x)]/\ae 0=cK 32 aR s/\ae 3=.ptr 0 0 32/\ae 5=.int .i64 k/\∀ (j:Nat) (z:List B),j<k->s.l[j]? = some z->z≠x) ?_ (by simp[aU,cQ af]);rintro k ae l hk ⟨rfl,b8,a8,bc,al⟩;obtain⟨ae,rfl⟩:=kq b8 a8 bc;clear b8 a8 bc;simp;refine kk (fun h=>?_) (fun h=>?_)
 ·simp only[decide_eq_true_eq] at h;obtain⟨y,az,cO⟩:=bA (l:=s.l) (k:=k) (by omega);have aQ:IntKind.i64.wrap ((k:Int)+1)=((k+1:Nat) :Int) :=by rw[IntKind.wrap_i64]; omega
  simp[az,cQ (ap y cO),cQ af,atr,Lh (ap y cO) af];by_cases ao:y=x
  ·simp[ao];exact aP (congrArg U.bool (decide_eq_true (by rw[<-ao]; exact cO)).symm) rfl
  ·simp[ao,aQ];refine⟨by omega,fun j z ai aw=>?_⟩;by_cases fQ:j=k
   ·subst fQ; rw[az] at aw; obtain rfl:=Option.some.inj aw; exact ao
   ·exact al j z (by omega) aw
 ·simp[h];have jj:k=s.l.length:=by simp at h; omega
  refine aP (congrArg U.bool (decide_eq_false fun hm=>?_).symm) rfl;obtain⟨j,ai⟩:=atx.1 hm;exact al j x (by rw[jj]; exact (atq.1 ai).1) ai rfl
end Op

end Go.b2

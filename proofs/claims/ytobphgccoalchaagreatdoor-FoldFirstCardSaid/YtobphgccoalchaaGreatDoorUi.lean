/-
  Lists of ids as bytes: walked in both texts.
-/
import Derived.Test.YtobphgccoalchaaGreatDoorUh
set_option linter.unusedVariables false
set_option linter.unusedSimpArgs false
set_option linter.unnecessarySimpa false
namespace Go.cb
open Go Go.Proofs
set_option maxRecDepth 100000
namespace Op
open gT
def r9 (l:List (List B)) :List B:=eS l.length++l.flatten
theorem SU:∀ (x:List B),mz 1 x.length (x.map bF)=x.map ch
 | []=>rfl
 | b::r=>by
  show ((bF b::r.map bF).take 1) ::mz 1 r.length ((bF b::r.map bF).drop 1)=_;simp[SU r,ch]
theorem acO {x:List B} (h:x.length=32) :mz 1 32 (aO x)=x.map ch:=by
 have:=SU x;rw[h] at this;exact this
theorem MY {l:List (List B)} (h:∀ x∈l,x.length=32) :l.flatten.length=l.length*32:=mC h
theorem Z2 {l:List (List B)} {k:Nat} {x:List B} (h:l[k]? = some x) :(l.take (k+1)).flatten=(l.take k).flatten++x:=by
 rw[av7,h]; simp
theorem amW {x:List B} (h:x.length=32) :fG (.arr 32 1) (.b3 (aO x) 0) none none none=some (.bQ 1 (x.map ch)) :=by
 have:=acO h;have ag:gW 32 32 none none none=some (0,32,32) :=rfl;unfold fG;simp only[ag];simp[cC h,this]
structure aa7 (l:am) (s:ez) (k:Nat) (ae:bg) (l1:am) :Prop where
 cf:ae 0=cB 32 aO s
 bA:ae 4=.int .i64 k
 tH:∃ v,ae 3=v/\cu 1 ch l l1 v (eS s.l.length++(s.l.take k).flatten) false
theorem aly (s:ez) (ap:gv s) (ak:s.l.length<=1000) {l:am} {K:U->am->Prop} (aY:∀ v l',cu 1 ch l l' v (r9 s.l) false->K v l') :
  c7 Tryz.prog GS 171 [aK s] l (c:=⟨K⟩) :=by
 apply bp Tryz.func171 [];have az:cy=140737488355328:=rfl;have aC:(BitVec.ofNat 64 s.l.length).toNat=s.l.length:=by rw[awc]; exact av4 (by omega)
 have l5:=iy s.l.length;simp[aK];refine xC _ fun v l' h=>?_
 rw[aC] at h;simp;refine cI s.l.length (aa7 l s) ?_ ⟨by simp[aK],by simp,v,by simp,by simpa using h⟩;rintro k ae l1 hk ⟨cf,bA,v,a8,e8⟩;obtain⟨ae,rfl⟩:=kj cf a8 bA;clear cf a8 bA;simp;refine jo (fun h=>?_) (fun h=>?_)
 ·simp only[decide_eq_true_eq] at h;obtain⟨x,af,cE⟩:=bx (l:=s.l) (k:=k) (by omega);have aR:IntKind.i64.wrap ((k:Int)+1)=((k+1:Nat) :Int) :=by rw[IntKind.wrap_i64]; omega
  have fc:((s.l.take k).flatten).length<=32000:=by
   rw[MY (fun y ax=>ap y (awh ax)),av1]; omega
  obtain⟨aZ,b1,aV,a1,_⟩:=e8.app (by_:=1) (x:=.bQ 1 (x.map ch)) (xs:=x) (by simp[dE]) (by simp[ch]) (by omega) (by omega) (by rw[az,ap x cE]; simp only[avW]; omega);simp[af,cC (ap x cE),avO,amW (ap x cE),aV];refine dp.cx ?_;simp[aR];exact⟨by omega,by simp,by simp,aZ,by simp,by rw[Z2 af,<-awo]; exact a1⟩
 ·simp[h];have aI:s.l.take k=s.l:=avO (by simp at h; omega);rw[aI] at e8;exact aY _ _ e8
structure aa8 (l:am) (s:ez) (k:Nat) (ae:bg) (l1:am) :Prop where
 lU:ae 17=cB 32 aO s
 s6:ae 18=.int .i64 s.l.length
 s7:ae 19=.int .i64 k
 tH:∃ v,ae 4=v/\cu 1 ch l l1 v (eS s.l.length++(s.l.take k).flatten) false
theorem aoK (s:ez) (ap:gv s) (ak:s.l.length<=60) (az:c9 s.l=true) {l:am} {K:U->am->Prop} (aY:∀ v l',cu 1 ch l l' v (r9 s.l) false->K (.bG [v,.int .i64 0]) l') :
  c7 Tryz.prog GS 200 [aK s] l (c:=⟨K⟩) :=by
 apply bp Tryz.func200 [];have D1:cy=140737488355328:=rfl;have aC:(BitVec.ofNat 64 s.l.length).toNat=s.l.length:=by rw[awc]; exact av4 (by omega)
 have l5:=iy s.l.length;have j2:¬ (60:Int)<(s.l.length:Int) :=by omega
 simp[aK,j2];refine a6 (amo s ap (by omega)) (by have:=eK s; simp[bd]; exact this) ?_;simp[az,aK];refine zU _ fun v l' h=>?_
 rw[aC] at h;simp[aK];refine cI s.l.length (aa8 l s) ?_ ⟨by simp[aK],by simp,by simp,v,by simp,by simpa using h⟩;rintro k ae l1 hk ⟨lU,s6,s7,v,bA,e8⟩;obtain⟨ae,rfl⟩:=i0 lU s6 s7 bA;clear lU s6 s7 bA;simp;refine jo (fun h=>?_) (fun h=>?_)
 ·simp only[decide_eq_true_eq] at h;obtain⟨x,af,cE⟩:=bx (l:=s.l) (k:=k) (by omega);have aR:IntKind.i64.wrap ((k:Int)+1)=((k+1:Nat) :Int) :=by rw[IntKind.wrap_i64]; omega
  have fc:((s.l.take k).flatten).length<=32000:=by
   rw[MY (fun y ax=>ap y (awh ax)),av1]; omega
  obtain⟨aZ,b1,aV,a1,_⟩:=(e8.more [.cells 32 (aO x)]).app (by_:=1) (x:=.ar 1 l1.length 0 32 32 32) (xs:=x) (by simp[dE,ap x cE,cC (ap x cE),avO,aO,yk]) (by simp[ch]) (by omega) (by omega) (by rw[D1,ap x cE]; simp only[avW]; omega);have jg:bt (rep 32 (.int .u8 0)) 0 (aO x)=aO x:=eM (by rw[cC (ap x cE)]; rfl);simp[af,cC (ap x cE),avO,Fe,jg,aV];refine dp.cx ?_;simp[aR];exact⟨by omega,by simp,by simp,by simp,aZ,by simp,by rw[Z2 af,<-awo]; exact a1⟩
 ·simp[h];have aI:s.l.take k=s.l:=avO (by simp at h; omega);rw[aI] at e8;exact aY _ _ e8
def fC (s:List UInt8) :List B:=s.map fun b=>b.toBitVec
theorem Jb (s:List UInt8) :(s.map fun b=>[jx b])=(fC s).map ch:=by
 unfold fC;rw[axD];rfl
theorem rb (s:List UInt8) :(fC s).length=s.length:=by simp[fC]
def pm (b:Q) (k:Nat) :List B:=(List.range k).map fun i=>my b.toNat (7 - i)
def ju (v:hY) :List B:=v.kind::(if v.kind=1#8 then eS (nG v.num).toNat else if v.kind=2#8 then pm v.bits 8 else jt (fC v.text))
def EI (v:hY) :Prop:=-9223372036854775808<=v.num/\v.num<9223372036854775808/\v.text.length<=10000
theorem Qu (b:Q) (k:Nat) :pm b (k+1)=pm b k++[my b.toNat (7 - k)] :=by
 unfold pm; rw[axq,awm]; rfl
theorem XO (l:am) (c:a7) (x:B) :cu 1 ch l (l++[c,.cells 1 [bF x]]) (.ar 1 (l.length+1) 0 1 1 1) [x] false:=by
 exact⟨l.length+1,pQ (n:=1) (a:=[x]) rfl (by simp),by simp,fun b ag=>avQ ag,.inr (by omega),rfl⟩
theorem vz (l:am) (c:a7) (x:B) :cu 1 ch (l++[c]) (l++[c,.cells 1 [bF x]]) (.ar 1 (l.length+1) 0 1 1 1) [x] false:=by
 have e:l++[c,.cells 1 [bF x]]=(l++[c])++[.cells 1 [bF x]] :=by simp
 exact⟨l.length+1,pQ (n:=1) (a:=[x]) rfl (by simp),by simp,fun b ag=>by rw[e]; exact avQ ag,.inr (by simp),rfl⟩
structure aaR (l:am) (v:hY) (p:Nat) (k:Nat) (ae:bg) (l1:am) :Prop where
 aP:ae 1=.ptr p 0 4
 bA:ae 4=.int .i64 (7 - (k:Int))
 tH:∃ w,ae 3=w/\cu 1 ch (l++[.cells 4 (eb v)]) l1 w (v.kind::pm v.bits k) false
theorem alP (v:hY) (au:EI v) {l:am} {K:U->am->Prop} (aY:∀ w l',cu 1 ch l l' w (ju v) false->K w l') :
  c7 Tryz.prog GS 173 [.aH (eb v)] l (c:=⟨K⟩) :=by
 apply bp Tryz.func173 [];have az:cy=140737488355328:=rfl;have aD:=XO l (.cells 4 (eb v)) v.kind;obtain⟨rT,oX,aI⟩:=au;have ah:wE (.str v.text)=some (.bQ 1 ((fC v.text).map ch)) :=by
  show some (U.bQ 1 (v.text.map fun b=>[jx b]))=_;rw[Jb]
 by_cases cZ:v.kind=1#8
 ·have om:ju v=[v.kind]++eS (nG v.num).toNat:=by unfold ju; rw[if_pos cZ]; rfl
  have aR:(u v.kind:Int)=1:=(iL v.kind).2 cZ;simp only[bF,aR] at aD;have l5:=iy (nG v.num).toNat
  simp[eb,aR];refine alI v.num rT oX fun w l' h=>?_
  obtain⟨aZ,b1,aV,a1,_⟩:=(aD.frame h.le h.same).app (by_:=1) (x:=w) (xs:=eS (nG v.num).toNat) h.contents (by simp[ch]) (by omega) (by omega) (by rw[az]; simp only[awa,awu]; omega);simp[aV];refine dp.cx ?_;simp;exact aY _ _ (by rw[om]; exact a1)
 ·have aR:¬ (u v.kind:Int)=1:=fun h=>cZ ((iL v.kind).1 h)
  by_cases dJ:v.kind=2#8
  ·have bJ:(u v.kind:Int)=2:=(mu v.kind).2 dJ;have om:ju v=v.kind::pm v.bits 8:=by unfold ju; rw[if_neg cZ,if_pos dJ]
   have ad:=vz l (.cells 4 (eb v)) v.kind;simp only[bF,bJ] at ad;simp[eb,bJ];refine cI 8 (aaR l v l.length) ?_ ⟨by simp,by simp,_,by simp,ad⟩;rintro k ae l1 hk ⟨aP,bA,w,a8,e8⟩;have ay:l1[l.length]? = some (.cells 4 (eb v)) :=by rw[e8.same l.length (by simp)]; simp
   obtain⟨ae,rfl⟩:=kj aP a8 bA;clear aP a8 bA;by_cases iu:k=8
   ·subst iu;rw[<-om] at e8;simp;exact aY _ _ (e8.base (by simp) fun b ag=>avQ ag)
   ·obtain⟨m,hm⟩:∃ m,m+k=7:=⟨7 - k,by omega⟩
    have em:7 - (k:Int)=(m:Int) :=by omega
    have KB:IntKind.i64.wrap ((m:Int) - 1)=(m:Int) - 1:=by rw[IntKind.wrap_i64]; omega
    have adA:IntKind.i64.wrap (8*(m:Int))=((8*m:Nat) :Int) :=by rw[IntKind.wrap_i64]; omega
    have rk:cD .shr .u64 (u v.bits) .i64 ((8*m:Nat) :Int)=some (.int .u64 (u (v.bits >>> (8*m)))) :=uA v.bits .i64 (8*m);have sy:=FX v.bits m;have bn:(v.kind::pm v.bits k).length<=1000000000:=by simp[pm]; omega
    obtain⟨w',l',aV,a1⟩:=cu.push e8 (my v.bits.toNat m) bn;rw[em];simp[eb] at ay;simp[ay,adA,rk,sy,aV,-Int.natCast_mul];refine dp.cx ?_;simp[KB];exact⟨by omega,by simp,by simp; omega,w',by simp,by rw[Qu,show 7 - k=m by omega]; exact a1⟩
  ·have bJ:¬ (u v.kind:Int)=2:=fun h=>dJ ((mu v.kind).1 h)
   have om:ju v=[v.kind]++jt (fC v.text) :=by unfold ju; rw[if_neg cZ,if_neg dJ]; rfl
   have md:(jt (fC v.text)).length<=20000:=by
    have:=iy (fC v.text).length;unfold jt;rw[avW];have:=rb v.text;omega
   simp[eb,aR,bJ,ah];refine YO (some (fC v.text)) (by simpa [rb] using aI) (by simp[dE]) (by simp) (fun l' _ _=>by simp[dE]) fun w l' h=>?_
   obtain⟨aZ,b1,aV,a1,_⟩:=(aD.frame h.le h.same).app (by_:=1) (x:=w) (xs:=jt (fC v.text)) h.contents (by simp[ch]) (by omega) (by omega) (by rw[az]; simp only[awa,awu]; omega);simp[aV];refine dp.cx ?_;simp;exact aY _ _ (by rw[om]; exact a1)
structure aaS (l:am) (v:hY) (p:Nat) (k:Nat) (ae:bg) (l1:am) :Prop where
 aP:ae 1=.ptr p 0 4
 b8:ae 6=.int .i64 (8*(7 - (k:Int)))
 tH:∃ w,ae 5=w/\cu 1 ch (l++[.cells 4 (eb v)]) l1 w (v.kind::pm v.bits k) false
theorem aju {v:hY} (h:jX v=true) (cZ:¬ v.kind=1#8) (dJ:¬ v.kind=2#8) :v.kind=3#8:=by
 unfold jX at h;simp[cZ,dJ] at h;exact h.1
theorem aoU (v:hY) (au:EI v) (c1:jX v=true) {l:am} {K:U->am->Prop} (aY:∀ w l',cu 1 ch l l' w (ju v) false->K (.bG [w,.int .i64 0]) l') :
  c7 Tryz.prog GS 202 [.aH (eb v)] l (c:=⟨K⟩) :=by
 apply bp Tryz.func202 [];have az:cy=140737488355328:=rfl;have aD:=XO l (.cells 4 (eb v)) v.kind;obtain⟨rT,oX,aI⟩:=au;have ah:wE (.str v.text)=some (.bQ 1 ((fC v.text).map ch)) :=by
  show some (U.bQ 1 (v.text.map fun b=>[jx b]))=_;rw[Jb]
 have c0:=Pw v;rw[c1] at c0;by_cases cZ:v.kind=1#8
 ·have om:ju v=[v.kind]++eS (nG v.num).toNat:=by unfold ju; rw[if_pos cZ]; rfl
  have aR:(u v.kind:Int)=1:=(iL v.kind).2 cZ;simp only[bF,aR] at aD;have l5:=iy (nG v.num).toNat
  simp[eb];refine a6 c0 rfl ?_;simp[gI,aR];refine aoS v.num rT oX fun w l' h=>?_
  obtain⟨aZ,b1,aV,a1,_⟩:=(aD.frame h.le h.same).app (by_:=1) (x:=w) (xs:=eS (nG v.num).toNat) h.contents (by simp[ch]) (by omega) (by omega) (by rw[az]; simp only[awa,awu]; omega);simp[aV];refine dp.cx ?_;simp;exact aY _ _ (by rw[om]; exact a1)
 ·have aR:¬ (u v.kind:Int)=1:=fun h=>cZ ((iL v.kind).1 h)
  by_cases dJ:v.kind=2#8
  ·have bJ:(u v.kind:Int)=2:=(mu v.kind).2 dJ;have om:ju v=v.kind::pm v.bits 8:=by unfold ju; rw[if_neg cZ,if_pos dJ]
   have ad:=vz l (.cells 4 (eb v)) v.kind;simp only[bF,bJ] at ad;simp[eb];refine a6 c0 rfl ?_;simp[gI,bJ];refine cI 8 (aaS l v l.length) ?_ ⟨by simp,by simp,_,by simp,ad⟩;rintro k ae l1 hk ⟨aP,b8,w,bi,e8⟩;have ay:l1[l.length]? = some (.cells 4 (eb v)) :=by rw[e8.same l.length (by simp)]; simp
   obtain⟨ae,rfl⟩:=kj aP bi b8;clear aP bi b8;by_cases iu:k=8
   ·subst iu;rw[<-om] at e8;simp;exact aY _ _ (e8.base (by simp) fun b ag=>avQ ag)
   ·obtain⟨m,hm⟩:∃ m,m+k=7:=⟨7 - k,by omega⟩
    obtain⟨n,aC⟩:∃ n,n=8*m:=⟨_,rfl⟩
    have em:8*(7 - (k:Int))=(n:Int) :=by omega
    have KB:IntKind.i64.wrap ((n:Int) - 8)=(n:Int) - 8:=by rw[IntKind.wrap_i64]; omega
    have rk:cD .shr .u64 (u v.bits) .i64 (n:Int)=some (.int .u64 (u (v.bits >>> n))) :=uA v.bits .i64 n;have sy:=FX v.bits m;rw[<-aC] at sy;have bn:(v.kind::pm v.bits k).length<=1000000000:=by simp[pm]; omega
    obtain⟨w',l',aV,a1⟩:=cu.push e8 (my v.bits.toNat m) bn;rw[em];simp[eb] at ay;simp[ay,rk,sy,aV];refine dp.cx ?_;simp[KB];exact⟨by omega,by simp,by simp; omega,w',by simp,by rw[Qu,show 7 - k=m by omega]; exact a1⟩
  ·have bJ:¬ (u v.kind:Int)=2:=fun h=>dJ ((mu v.kind).1 h)
   have dF:(u v.kind:Int)=3:=(p1 v.kind).2 (aju c1 cZ dJ);have om:ju v=[v.kind]++jt (fC v.text) :=by unfold ju; rw[if_neg cZ,if_neg dJ]; rfl
   have md:(jt (fC v.text)).length<=20000:=by
    have:=iy (fC v.text).length;unfold jt;rw[avW];have:=rb v.text;omega
   simp only[bF,dF] at aD;simp[eb];refine a6 c0 rfl ?_;simp[gI,dF,ah];refine aax (some (fC v.text)) (by simpa [rb] using aI) (by simp[dE]) (by simp) (fun l' _ _=>by simp[dE]) fun w l' h=>?_
   obtain⟨aZ,b1,aV,a1,_⟩:=(aD.frame h.le h.same).app (by_:=1) (x:=w) (xs:=jt (fC v.text)) h.contents (by simp[ch]) (by omega) (by omega) (by rw[az]; simp only[awa,awu]; omega);simp[aV];refine dp.cx ?_;simp;exact aY _ _ (by rw[om]; exact a1)
structure bm where
 hZ:D
 br:ez
 c4:Q
 act:Act
 e:D
 s:D
def a2 (o:bm) :List U:=[bD o.hZ,aK o.br,dq o.c4,bF o.act.kind,.str o.act.key,bF o.act.val.kind,.int .i64 o.act.val.num,dq o.act.val.bits,.str o.act.val.text,bD o.e,bD o.s]
structure hX (o:bm) :Prop where
 ids:gv o.br
 len:o.br.l.length<=1000000
 val:EI o.act.val
 key:o.act.key.length<=10000
def s9 (o:bm) :Bool:=gD o.hZ&&(decide (o.c4.toNat<=1000000000000)&&(kr o.act&&(jA o.e&&jA o.s)))
def fM (o:bm) :Int:=if 4<o.br.l.length then 4 else if c9 o.br.l then (if s9 o then 0 else 8) else 32
theorem i6 (o:bm) :bd (a2 o)=true:=by
 have:=eK o.br;simp[a2,bd,U.closed,this]
theorem alB (o:bm) (ap:hX o) :bz Tryz.prog GS 81 [.aH (a2 o)] (.int .i64 (fM o)) :=by
 refine bL Tryz.checked.mixed bE ?_;apply bp Tryz.func81 [];unfold fM;have ej:=eK o.br;have bn:cK (.ar 32) (aK o.br)=some (.int .i64 o.br.l.length) :=by simp[aK]
 have jE:(aK o.br).cells=some [aK o.br] :=by cases o.br<;>rfl
 obtain⟨p,ay⟩:∃ p,p=aK o.br:=⟨_,rfl⟩
 by_cases h1:4<o.br.l.length
 ·have dg:(4:Int)<(o.br.l.length:Int) :=by omega
  rw[if_pos h1];simp[a2,bn,dg];exact aL rfl rfl
 ·have dg:¬ (4:Int)<(o.br.l.length:Int) :=by omega
  rw[if_neg h1];simp[a2,bn,dg];refine a6 (Oj o.br ap.ids ap.len) (by simp[bd,ej]) ?_;cases ad:c9 o.br.l with
  | false=>
   simp;exact aL rfl rfl
  | true=>
   simp;refine a6 (YX o.hZ) rfl ?_;unfold s9;cases aj:gD o.hZ with
   | false=>
    simp;exact aL rfl rfl
   | true=>
    have ci:((1000000000000:Int)<u o.c4)<->¬ o.c4.toNat<=1000000000000:=by unfold u; omega
    by_cases aE:o.c4.toNat<=1000000000000
    ·have AI:¬ ((1000000000000:Int)<u o.c4) :=fun h=>ci.1 h aE
     simp[aE,AI];refine a6 (al3 o.act) rfl ?_;cases aX:kr o.act with
     | false=>
      simp[gI];exact aL rfl rfl
     | true=>
      simp[gI];refine a6 (Gl o.e) rfl ?_;cases bw:jA o.e with
      | false=>
       simp;exact aL rfl rfl
      | true=>
       simp;refine a6 (Gl o.s) rfl ?_;cases c5:jA o.s with
       | false=>
        simp;exact aL rfl rfl
       | true=>
        simp;exact aL (by rw[if_pos aE]) rfl
    ·have AI:(1000000000000:Int)<u o.c4:=ci.2 aE;simp[aE,AI];exact aL rfl rfl
def opHead (o:bm) :List B:=111#8::eS o.hZ.toNat
def lf (o:bm) :List B:=
 opHead o++r9 o.br.l++eS o.c4.toNat++[o.act.kind]++(if o.act.kind=1#8 then [] else jt (fC o.act.key))++(if o.act.kind=4#8 then ju o.act.val else [])
theorem Ew {l:List (List B)} (h:∀ x∈l,x.length=32) :(r9 l).length<=9+l.length*32:=by
 have:=iy l.length;have ad:=MY h;unfold r9;rw[avW];omega
theorem B5 (s:List B) :(jt s).length<=9+s.length:=by
 have:=iy s.length;unfold jt;rw[avW];omega
theorem Fs (v:hY) :(ju v).length<=20+v.text.length:=by
 have h1:=iy (nG v.num).toNat
 have ad:=B5 (fC v.text);have aj:=rb v.text;unfold ju;simp only[awa];split
 ·omega
 ·split
  ·simp[pm]; omega
  ·omega
theorem YN (o:bm) (ap:hX o) (qG:o.br.l.length<=1000) {l:am} {K:U->am->Prop} (aY:∀ w l',cu 1 ch l l' w (lf o) false->K w l') :
  c7 Tryz.prog GS 122 [.aH (a2 o)] l (c:=⟨K⟩) :=by
 apply bp Tryz.func122 [[[0],[1],[2],[5],[6],[3,6],[4,6]]];have az:cy=140737488355328:=rfl;have aD:=vz l (.cells 11 (a2 o)) 111#8;have Mh:=iy o.hZ.toNat
 have tl:=iy o.c4.toNat
 have gq:=Ew ap.ids;have MJ:(BitVec.setWidth 64 o.hZ).toNat=o.hZ.toNat:=by rw[av9]; exact av4 (by have:=o.hZ.isLt; omega)
 have aM:l.length<(l++[a7.cells 11 (a2 o)]).length:=by simp
 have fA:(l++[a7.cells 11 (a2 o)])[l.length]? = some (.cells 11 (a2 o)) :=by simp
 simp[a2];refine xC _ fun b2 l1 h1=>?_
 rw[MJ] at h1;obtain⟨w2,b1,a1,df,_⟩:=(aD.frame h1.le h1.same).app (by_:=1) (x:=b2) (xs:=eS o.hZ.toNat) h1.contents (by simp[ch]) (by omega) (by omega) (by rw[az]; simp only[awa,awu]; omega);have tm:b1[l.length]? = some (.cells 11 (a2 o)) :=by rw[df.same _ aM]; exact fA
 have qI:l.length<b1.length:=by have:=df.le; omega
 have rU:=tm;simp[a2] at rU;simp[a1];refine dp.cx ?_;simp[rU];refine aly o.br ap.ids qG fun eh fr aj=>?_
 obtain⟨oH,la,a4,m7,_⟩:=(df.frame aj.le aj.same).app (by_:=1) (x:=eh) (xs:=r9 o.br.l) aj.contents (by simp[ch]) (by omega) (by omega) (by rw[az]; simp only[avW,awa,awu]; omega);have cY:fr[l.length]? = some (.cells 11 (a2 o)) :=by rw[aj.same _ qI]; exact tm
 have HA:la[l.length]? = some (.cells 11 (a2 o)) :=by rw[m7.same _ aM]; exact fA
 have ahf:l.length<la.length:=by have:=m7.le; omega
 have w5:=cY;have A9:=HA;simp[a2] at w5 A9;simp[w5,a4];refine dp.cx ?_;simp[A9];refine xC _ fun rj Nt aX=>?_
 obtain⟨avK,Xf,rv,FO,_⟩:=(m7.frame aX.le aX.same).app (by_:=1) (x:=rj) (xs:=eS o.c4.toNat) aX.contents (by simp[ch]) (by omega) (by omega) (by rw[az]; simp only[avW,awa,awu]; omega);have ahH:Xf[l.length]? = some (.cells 11 (a2 o)) :=by rw[FO.same _ aM]; exact fA
 have V6:=ahH;simp[a2] at V6;obtain⟨Fv,Xg,abv,uy⟩:=cu.push FO o.act.kind (by simp only[avW,awa,awu]; omega);have ahI:Xg[l.length]? = some (.cells 11 (a2 o)) :=by rw[uy.same _ aM]; exact fA
 have ar8:l.length<Xg.length:=by have:=uy.le; omega
 have Mu:=ahI;simp[a2] at Mu;simp[rv];refine dp.cx ?_;simp[V6,abv];refine dp.cx ?_;obtain⟨M,n1⟩:∃ M,M=[111#8]++eS o.hZ.toNat++r9 o.br.l++eS o.c4.toNat++[o.act.kind] :=⟨_,rfl⟩
 have afw:M.length<=40000:=by rw[n1]; simp only[avW,awa,awu]; omega
 rw[<-n1] at uy;have bM:lf o=M++(if o.act.kind=1#8 then [] else jt (fC o.act.key))++(if o.act.kind=4#8 then ju o.act.val else []) :=by rw[n1]; rfl
 have md:=B5 (fC o.act.key);rw[rb] at md;have A5:=ap.key;have jh:=Fs o.act.val;have aiq:=ap.val.2.2;have ah:wE (.str o.act.key)=some (.bQ 1 ((fC o.act.key).map ch)) :=by
  show some (U.bQ 1 (o.act.key.map fun b=>[jx b]))=_;rw[Jb]
 by_cases cZ:o.act.kind=1#8
 ·have aR:(u o.act.kind:Int)=1:=(iL o.act.kind).2 cZ;have h0:¬ o.act.kind=4#8:=by rw[cZ]; decide
  rw[if_pos cZ,if_neg h0,awp,awp] at bM;simp[Mu,aR];exact aY _ _ (by rw[bM]; exact uy.base (by simp) fun b ag=>avQ ag)
 ·have aR:¬ (u o.act.kind:Int)=1:=fun h=>cZ ((iL o.act.kind).1 h)
  rw[if_neg cZ] at bM;simp[Mu,aR,ah];refine YO (some (fC o.act.key)) (by simpa [rb] using A5) (by simp[dE]) (by simp) (fun l' _ _=>by simp[dE]) fun Jo mi dZ=>?_
  obtain⟨aoD,Nu,a9,wd,_⟩:=(uy.frame dZ.le dZ.same).app (by_:=1) (x:=Jo) (xs:=jt (fC o.act.key)) dZ.contents (by simp[ch]) (by omega) (by omega) (by rw[az]; omega);have Mv:Nu[l.length]? = some (.cells 11 (a2 o)) :=by rw[wd.same _ aM]; exact fA
  have y3:=Mv;simp[a2] at y3;simp[a9];refine dp.cx ?_;simp only[awR] at wd;by_cases h0:o.act.kind=4#8
  ·have kP:(u o.act.kind:Int)=4:=(xT o.act.kind).2 h0;rw[if_pos h0] at bM;simp[y3,kP];refine alP o.act.val ap.val fun PA ajC mH=>?_
   obtain⟨aoC,ajD,JL,JX,_⟩:=(wd.frame mH.le mH.same).app (by_:=1) (x:=PA) (xs:=ju o.act.val) mH.contents (by simp[ch]) (by omega) (by omega) (by rw[az]; simp only[avW]; omega);simp[JL];refine dp.cx ?_;simp;exact aY _ _ (by rw[bM]; exact JX.base (by simp) fun b ag=>avQ ag)
  ·have kP:¬ (u o.act.kind:Int)=4:=fun h=>h0 ((xT o.act.kind).1 h)
   rw[if_neg h0,awp] at bM;simp[y3,kP];exact aY _ _ (by rw[bM]; exact wd.base (by simp) fun b ag=>avQ ag)
def iA (o:bm) :List B:=lf o++eS o.e.toNat++eS o.s.toNat
theorem XV (o:bm) (ap:hX o) (qG:o.br.l.length<=1000) :(lf o).length<=100000:=by
 have h1:=iy o.hZ.toNat
 have ad:=iy o.c4.toNat
 have aj:=Ew ap.ids;have aE:=B5 (fC o.act.key);rw[rb] at aE;have aX:=ap.key;have bw:=Fs o.act.val;have c5:=ap.val.2.2;have aP:(if o.act.kind=1#8 then [] else jt (fC o.act.key)).length<=10009:=by split<;>(try simp) ; omega
 have aU:(if o.act.kind=4#8 then ju o.act.val else []).length<=10020:=by split<;>(try simp) ; omega
 unfold lf opHead;simp only[avW,awa,awu];omega
theorem alq (o:bm) (ap:hX o) (qG:o.br.l.length<=1000) {l:am} {K:U->am->Prop} (aY:∀ w l',cu 1 ch l l' w (iA o) false->K w l') :
  c7 Tryz.prog GS 78 [.aH (a2 o)] l (c:=⟨K⟩) :=by
 apply bp Tryz.func78 [[[0],[2],[3],[4],[5],[8],[9],[10],[11],[1,11,10,5,4],[6,11,10],[7,11,10]]];have az:cy=140737488355328:=rfl;have bI:=iy o.e.toNat
 have tl:=iy o.s.toNat
 have md:=XV o ap qG;have h5:(BitVec.setWidth 64 o.e).toNat=o.e.toNat:=by rw[av9]; exact av4 (by have:=o.e.isLt; omega)
 have rX:(BitVec.setWidth 64 o.s).toNat=o.s.toNat:=by rw[av9]; exact av4 (by have:=o.s.isLt; omega)
 have aM:l.length<(l++[a7.cells 11 (a2 o)]).length:=by simp
 have fA:(l++[a7.cells 11 (a2 o)])[l.length]? = some (.cells 11 (a2 o)) :=by simp
 simp[a2];refine YN o ap qG fun b2 l1 h1=>?_
 have qN:l1[l.length]? = some (.cells 11 (a2 o)) :=by rw[h1.same _ aM]; exact fA
 have qH:l.length<l1.length:=by have:=h1.le; simp at this; omega
 have y1:=qN;simp[a2] at y1;simp[y1];refine xC _ fun w2 b1 ad=>?_
 rw[h5] at ad;obtain⟨eh,fr,a3,fw,_⟩:=(h1.frame ad.le ad.same).app (by_:=1) (x:=w2) (xs:=eS o.e.toNat) ad.contents (by simp[ch]) (by omega) (by omega) (by rw[az]; omega);have tm:b1[l.length]? = some (.cells 11 (a2 o)) :=by rw[ad.same _ qH]; exact qN
 have cY:fr[l.length]? = some (.cells 11 (a2 o)) :=by rw[fw.same _ aM]; exact fA
 have rU:=tm;have w5:=cY;simp[a2] at rU w5;simp[rU,a3];refine dp.cx ?_;simp[w5];refine xC _ fun oH la aE=>?_
 rw[rX] at aE;obtain⟨rj,Nt,a5,sR,_⟩:=(fw.frame aE.le aE.same).app (by_:=1) (x:=oH) (xs:=eS o.s.toNat) aE.contents (by simp[ch]) (by omega) (by omega) (by rw[az]; simp only[avW]; omega);simp[a5];refine dp.cx ?_;simp;exact aY _ _ (sR.base (by simp) fun b ag=>avQ ag)
theorem YJ (o:bm) (ap:hX o) (qG:o.br.l.length<=1000) :bz Tryz.prog GS 33 [.aH (a2 o)] (fF (ie (iA o))) :=by
 refine bL Tryz.checked.mixed bE ?_;apply bp Tryz.func33 [];have bI:=iy o.e.toNat
 have tl:=iy o.s.toNat
 have md:=XV o ap qG;have ef:(ie (iA o)).length=32:=vJ _;simp[a2];refine alq o ap qG fun b2 l1 h1=>?_
 have fA:l1[1]? = some (.cells 32 (rep 32 (.int .u8 0))) :=by rw[h1.same 1 (by simp)]; rfl
 simp;refine iB (Oo (some (iA o)) (by simp[iA]; omega)) (.cons (h1.sq (fun _=>rfl) (some (iA o)) rfl rfl) .nil) (by simp[U.flat,mB,fF,AC bF (fun _=>rfl)]) ?_;have ve:bt (rep 32 (.int .u8 0)) 0 ((ie (iA o)).map bF)=(ie (iA o)).map bF:=eM (by rw[av8,ef]; rfl);have mS:(l1.set 1 (a7.cells 32 ((ie (iA o)).map bF)))[1]? = some (.cells 32 ((ie (iA o)).map bF)) :=av3 (eu fA);simp[fA,fF,ef,ve,mS,avO];exact aL rfl (by simp[U.closed,lS bF (fun _=>rfl)])
theorem Cw:∀ a b:List B,a.length=b.length->fD (a.map bF) (b.map bF)=decide (a=b)
 | [],[],_=>rfl
 | [],_::_,h=>by simp at h
 | _::_,[],h=>by simp at h
 | x::a,y::b,h=>by
  have aJ:=Cw a b (by simpa using h);simp only[awn,fD,aJ,U.beq,decide_true,awL];by_cases h1:x=y
  ·by_cases ad:a=b<;>simp[h1,ad]
  ·have:¬ u x=u y:=fun h=>h1 ((sw x y).1 h)
   simp[h1]
theorem zx:∀ a:List B,ib (List.replicate a.length (.i .u8)) (a.map bF)=true
 | []=>rfl
 | x::a=>by
  rw[awa,awV,awn];simp only[ib,zx a,Fl,decide_true,axP]
theorem Xc:r7 Tryz.prog 20 48=some (List.replicate 32 (.i .u8)) :=by kernel_rfl
theorem HW {a b:List B} (aA:a.length=32) (ag:b.length=32) :gH Tryz.prog .eql 48 (.aH (aO a)) (.aH (aO b))=some (.bool (decide (a=b))) :=by
 unfold aO;rw[J2 Xc (by kernel_rfl) (by kernel_rfl) (by have:=zx a; rwa [aA] at this) (by have:=zx b; rwa [ag] at this),Cw a b (by omega)]
theorem HX {a b:List B} (aA:a.length=32) (ag:b.length=32) :gH Tryz.prog .neq 48 (.aH (aO a)) (.aH (aO b))=some (.bool (!decide (a=b))) :=by
 unfold aO;rw[FT Xc (by kernel_rfl) (by kernel_rfl) (by have:=zx a; rwa [aA] at this) (by have:=zx b; rwa [ag] at this),Cw a b (by omega)]
theorem akk (s:ez) :gH Tryz.prog .eql 22 (cB 32 aO s) .aT=some (.bool s.isNone) :=FS (e:=48) (by kernel_rfl) 32 aO s
theorem akA (l:am) :cu 32 aO l (l++[.cells 0 []]) (.ar 32 l.length 0 0 0 0) ([] :List (List B)) false:=
 ⟨l.length,.ar l.length 0 0 0 [] [] (by simp) rfl rfl (by simp) (avR _) (by omega) rfl,by simp,fun b ag=>avQ ag,.inr (avR _),rfl⟩
theorem WH (s:ez) (ap:gv s) (ak:s.l.length<=1000000) {l:am} {K:U->am->Prop} (aY:∀ v l',cu 32 aO l l' v s.l s.isNone->K v l') :
  c7 Tryz.prog GS 165 [aK s] l (c:=⟨K⟩) :=by
 apply bp Tryz.func165 [];have az:cy=140737488355328:=rfl;cases s with
 | none=>
  simp[aK];exact aY _ _ cu.nil
 | some a=>
  simp at ak;obtain⟨aZ,l',aV,a1,_⟩:=(akA l).app (by_:=32) (x:=cB 32 aO (some a)) (xs:=a) (uG _ 32 aO (some a)) (fun y ax=>cC (ap y ax)) (by omega) (by omega) (by rw[az]; simp; omega);simp[aK,akk,aV];refine dp.cx ?_;simp;exact aY _ _ (by simpa using a1)
def qk (l:List (List B)) (m:Nat) :List (List B) :=(List.range m).flatMap fun k=>if k=0\/b0 l k≠b0 l (k - 1) then [b0 l k] else []
def sY (l:List (List B)) :List (List B) :=qk l l.length
theorem CS (l:List (List B)) (m:Nat) :qk l (m+1)=qk l m++(if m=0\/b0 l m≠b0 l (m - 1) then [b0 l m] else []) :=by
 unfold qk; rw[axq,axB]; simp
theorem Td (l:List (List B)) :∀ m,(qk l m).length<=m
 | 0=>by simp[qk]
 | m+1=>by
  have:=Td l m;rw[CS,avW];split<;>simp<;>omega
theorem CR {l:List (List B)}:∀ {m},m<=l.length->(∀ k,1<=k->k<m->b0 l k≠b0 l (k - 1))->qk l m=l.take m
 | 0,_,_=>by simp[qk]
 | m+1,hm,h=>by
  rw[CS,CR (by omega) (fun k h1 ad=>h k h1 (by omega)),av7,if_pos (by
   by_cases aD:m=0
   ·exact .inl aD
   ·exact .inr (h m (by omega) (by omega)))]
  congr 1;unfold b0;rw[awe,avS (by omega)];rfl
theorem Te {l:List (List B)} {k:Nat} (h1:1<=k) (ao:b0 l k=b0 l (k - 1)) :∀ {m},k<m->(qk l m).length<m
 | 0,h=>by omega
 | m+1,h=>by
  rw[CS,avW];by_cases hk:k=m
  ·subst hk;have:=Td l k;rw[if_neg (fun h=>h.elim (fun aD=>by omega) (fun ad=>ad ao))];simp; omega
  ·have:=Te h1 ao (m:=m) (by omega);split<;>simp<;>omega
theorem adh {l:List (List B)} (ak:zK l=true) :((sY l).length=l.length)<->c9 l=true:=by
 unfold zK at ak;rw[decide_eq_true_eq] at ak;unfold c9 sY;rw[decide_eq_true_eq];constructor
 ·intro h k hk h1;have ad:=ak k hk h1;have aj:b0 l k≠b0 l (k - 1) :=fun ao=>by
   have:=Te h1 ao hk;omega
  have aE:=rA (b0 l k) (b0 l (k - 1));have aX:cj (b0 l (k - 1)) (b0 l k)≠0:=fun aD=>aj (sX aD).symm
  omega
 ·intro h;rw[CR (avR _) (fun k h1 ad ao=>by
   have:=h k ad h1;rw[<-ao,pq] at this;omega),awi]
theorem HZ {a:List (List B)} {k:Nat} (h:k<a.length) :(a.map aO)[k]? = some (aO (b0 a k)) :=by
 rw[avV];unfold b0;rw[awe,avS h];rfl
theorem HV {a:List (List B)} {k:Nat} (h:k<a.length) :b0 a k∈a:=by
 unfold b0;rw[awe,avS h];exact aym h
structure aaY (l:am) (v:U) (xs:List (List B)) (k:Nat) (ae:bg) (l1:am) :Prop where
 cf:ae 0=v
 a8:ae 3=.int .i64 ((k+1:Nat) :Int)
 al:l1=l
 ak:∀ j,1<=j->j<k+1->b0 xs j≠b0 xs (j - 1)
structure aaX (l:am) (v dS:U) (j:Nat) (xs:List (List B)) (m i:Nat) (ae:bg) (b1:am) :Prop where
 cf:ae 0=v
 bA:ae 4=dS
 bi:ae 5=.int .i64 ((i+1:Nat) :Int)
 ex:∃ (k:Nat) (bh:List (List B)),ae 3=.int .i64 (k:Int)/\bH 32 b1 v j (bh.map aO)/\bh.length=xs.length/\(∀ y∈bh,y.length=32)/\bh.take k=qk xs (m+i+1)/\k<=m+i/\(∀ t,m+i<=t->b0 bh t=b0 xs t)/\b1.length=l.length/\∀ b,b≠j->b1[b]? = l[b]?
theorem adf {l:am} {v:U} {j k:Nat} {bh:List (List B)} (h:bH 32 l v j (bh.map aO)) (hk:k<bh.length) :
  ∃ v3 fr r,fG (.ar 32) v (some (.int .i64 (k:Int))) none none=some v3/\sV (rep 32 (.int .u8 0)) l v3=some fr/\fG (.ar 32) v none (some (.int .i64 (k:Int))) none=some r ∧
   bH 32 fr r j ((bh.take k).map aO)/\cw r=false/\fr.length=l.length/\∀ b,b≠j->fr[b]? = l[b]?:=by
 generalize ao:bh.map aO=es at h;cases h with
 | nil j=>rw[aw3] at ao; subst ao; simp at hk
 | ar j n cap sz cs es ag al aC aw ah db cd=>
  subst ao;have tk:bh.length=n:=by simpa using aC
  have gY:j0 (.int .i64 (k:Int)) n=some k:=by
   show (if 0<=(k:Int)/\(k:Int)<=(n:Int) then some (k:Int).toNat else none)=some k;rw[if_pos ⟨by omega,by omega⟩]; simp
  have gb:j0 (.int .i64 (k:Int)) cap=some k:=by
   show (if 0<=(k:Int)/\(k:Int)<=(cap:Int) then some (k:Int).toNat else none)=some k;rw[if_pos ⟨by omega,by omega⟩]; simp
  have de:gW n cap (some (.int .i64 (k:Int))) none none=some (k,n,cap) :=by
   show (match j0 (.int .i64 (k:Int)) n with | none=>none | some l=>some (l,n,cap))=_;rw[gY]
  have df:gW n cap none (some (.int .i64 (k:Int))) none=some (0,k,cap) :=by
   show (match j0 (.int .i64 (k:Int)) cap with | none=>none | some h=>some (0,h,cap))=_;rw[gb]
  have c0:¬ cap=k:=by omega
  have AP:¬ cap=0:=by omega
  have e7:j<l.length:=eu ag;have go:k*32<=n*32:=avX _ (by omega);have kB:n*32<=cap*32:=avX _ ah;have mb:(dN (rep 32 (.int .u8 0)) (n - k)).length=(n - k)*32:=by rw[BS]; rfl
  have ahg:k*32+(n - k)*32=n*32:=by rw[<-awJ]; congr 1; omega
  refine⟨.ar 32 j (k*32) (n - k) (cap - k) sz,l.set j (.cells sz (bt cs (k*32) (dN (rep 32 (.int .u8 0)) (n - k)))),.ar 32 j 0 k cap sz,?_,?_,?_,?_,rfl,by simp,fun b gZ=>by rw[av0 (fun h=>gZ h.symm)]⟩
  ·rw[zJ,de]; simp[c0]
  ·unfold sV;simp only;rw[if_neg (by omega)];simp[ag]
  ·rw[zJ,df]; simp[AP]
  ·refine .ar j k cap sz _ _ (av3 e7) (by rw[sv (by omega),mb]; omega) (by simp; omega) (fun e ao=>?_) (by omega) db ?_
   ·obtain⟨y,ax,rfl⟩:=awf.1 ao;exact aw _ (axj (awh ax))
   ·unfold bt;rw[awo,awg (by rw[av1]; omega),axd,Nat.min_self];have aR:cs.take (k*32)=(cs.take (n*32)).take (k*32) :=by rw[axd,awQ go]
    have bJ:bh.map aO=(bh.take k).map aO++(bh.drop k).map aO:=by rw[<-awm,awy]
    have dF:((bh.take k).map aO).flatten.length=k*32:=by
     rw[mC (z:=32) (fun e ao=>by obtain⟨y,ax,rfl⟩:=awf.1 ao; exact aw _ (axj (awh ax)))];simp; omega
    rw[aR,cd,bJ,awC,awg (by omega),avO (by omega)]
theorem X8 {bh:List (List B)} (aw:∀ y∈bh,y.length=32) (k:Nat) (hk:k<=bh.length) {n:Nat} (aC:bh.length=n) {cs:List U} (cd:cs.take (n*32)=(bh.map aO).flatten) (al:n*32<=cs.length) :
  cs.take (k*32)=((bh.take k).map aO).flatten/\(cs.drop (k*32)).take (n*32 - k*32)=((bh.drop k).map aO).flatten:=by
 have go:k*32<=n*32:=avX _ (by omega);have bJ:bh.map aO=(bh.take k).map aO++(bh.drop k).map aO:=by rw[<-awm,awy]
 have dF:((bh.take k).map aO).flatten.length=k*32:=by
  rw[mC (z:=32) (fun e ao=>by obtain⟨y,ax,rfl⟩:=awf.1 ao; exact cC (aw _ (awh ax)))];simp; omega
 have aR:cs.take (k*32)=(cs.take (n*32)).take (k*32) :=by rw[axd,awQ go]
 constructor
 ·rw[aR,cd,bJ,awC,awg (by omega),avO (by omega)]
 ·rw[<-ayh,cd,bJ,awC,awE (by omega),aw1 (by omega),awI]
theorem amK {l:am} {v:U} {j k:Nat} {bh:List (List B)} {x:List B} (h:bH 32 l v j (bh.map aO)) (aw:∀ y∈bh,y.length=32) (hk:k<bh.length) (af:x.length=32) :
  ∃ p l',ck (.ar 32) v (.int .i64 (k:Int))=some p/\kH 32 l p (.aH (aO x))=some l'/\bH 32 l' v j ((bh.set k x).map aO)/\l'.length=l.length/\∀ b,b≠j->l'[b]? = l[b]?:=by
 generalize ao:bh.map aO=es at h;cases h with
 | nil j=>rw[aw3] at ao; subst ao; simp at hk
 | ar j n cap sz cs es ag al aC iH ah db cd=>
  subst ao;have tk:bh.length=n:=by simpa using aC
  have e7:j<l.length:=eu ag;have bf:=cC af;have go:(k+1)*32<=n*32:=avX _ (by omega);have kB:n*32<=cap*32:=avX _ ah;have ak:(k+1)*32=k*32+32:=by rw[awD]
  obtain⟨f1,_⟩:=X8 aw k (by omega) tk cd (by omega);obtain⟨_,f2⟩:=X8 aw (k+1) (by omega) tk cd (by omega);refine⟨.ptr j (k*32) sz,l.set j (.cells sz (bt cs (k*32) (aO x))),?_,?_,?_,by simp,fun b gZ=>by rw[av0 (fun h=>gZ h.symm)]⟩
  ·simp[ck]; omega
  ·unfold kH;simp[ag,U.cells,bf];omega
  ·refine .ar j n cap sz _ _ (av3 e7) (by rw[sv (by omega),bf]; omega) (by simp; omega) (fun e ao=>?_) ah db ?_
   ·obtain⟨y,ax,rfl⟩:=awf.1 ao;rcases axl ax with h | h
    ·exact cC (aw _ h)
    ·rw[h]; exact bf
   ·have mS:bh.set k x=bh.take k++(x::bh.drop (k+1)) :=by rw[axt,if_pos hk]
    rw[mS,awm,awn,awC,awT,<-f1,<-f2];unfold bt;have t1:(cs.take (k*32)).length=k*32:=by rw[av1]; omega
    have iK:(cs.take (k*32)).take (n*32)=cs.take (k*32) :=avO (by rw[t1]; omega);have kJ:(aO x).take (n*32 - k*32)=aO x:=avO (by rw[bf]; omega);rw[awo,bf,<-ak,axN,t1,iK,axN,kJ,bf,show n*32 - k*32 - 32=n*32 - (k+1)*32 by omega]
theorem ac4 {eL l:am} {v:U} {xs:List (List B)} {hd:Bool} (h:cu 32 aO eL l v xs hd) (af:∀ x∈xs,x.length=32) (aC:xs.length<=1000000) {K:U->am->Prop} (aY:∀ r l',cu 32 aO eL l' r (sY xs) hd->K r l') :
  c7 Tryz.prog GS 198 [v] l (c:=⟨K⟩) :=by
 apply bp Tryz.func198 [];have bn:=h.len;by_cases ad:xs.length<2
 ·have gP:(xs.length:Int)<2:=by omega
  have AV:sY xs=xs:=by
   unfold sY;rw[CR (avR _) (fun k h1 aj=>by omega),awi]
  simp[bn,gP];exact aY _ _ (by rw[AV]; exact h)
 ·have gP:¬ (xs.length:Int)<2:=by omega
  simp[bn,gP];refine cI (xs.length - 1) (aaY l v xs) ?_ ⟨by simp,by simp,rfl,fun j h1 aj=>by omega⟩;rintro k ae l1 hk ⟨cf,a8,rfl,ak⟩;obtain⟨ae,rfl⟩:=p2 cf a8;clear cf a8;obtain⟨m,hm⟩:∃ m,m=k+1:=⟨_,rfl⟩
  rw[<-hm] at ak ⊢;by_cases aM:m<xs.length
  ·have aR:IntKind.i64.wrap ((m:Int) - 1)=(k:Int) :=by rw[IntKind.wrap_i64]; omega
   have bJ:IntKind.i64.wrap ((m:Int)+1)=((m+1:Nat) :Int) :=by rw[IntKind.wrap_i64]; omega
   have jd:(m:Int)<(xs.length:Int) :=by omega
   obtain⟨j,ap,l6⟩:=h;obtain⟨lG,cZ,BC,aV,a1,a3,a4⟩:=ap.q.get (k:=.i64) (HZ aM);obtain⟨sl,dJ,pM,de,df,fw,m7⟩:=ap.q.get (k:=.i64) (HZ (a:=xs) (k:=k) (by omega));have e1:=HW (af _ (HV aM)) (af _ (HV (a:=xs) (k:=k) (by omega)));obtain⟨X,cv⟩:∃ X,X=b0 xs m:=⟨_,rfl⟩
   obtain⟨Y,eD⟩:∃ Y,Y=b0 xs k:=⟨_,rfl⟩
   rw[<-cv] at a4 e1;rw[<-eD] at m7 e1;by_cases ao:X=Y
   ·have u5:gH Tryz.prog .eql 48 (.aH (aO X)) (.aH (aO Y))=some (.bool true) :=by rw[e1,decide_eq_true ao]
    have au:cw v=false:=by
     cases w4:cw v with
     | false=>rfl
     | true=>
      have:=jm.1 w4;subst this;have:=ap.q.tG;rw[aw3] at this;rw[this] at aM; simp at aM
    obtain⟨dS,dR,hl,_⟩:=ap.q.from au (k:=.i64) (i:=m) (by simp; omega);have aD:qk xs m=xs.take m:=CR (by omega) ak;have h1:qk xs (m+1)=xs.take m:=by rw[CS,if_neg (fun h=>h.elim (fun aD=>by omega) (fun ad=>ad (by rw[<-cv,show m - 1=k by omega,<-eD]; exact ao))),aD,awp]
    simp[bn,jd,aR,aV,a1,a3,a4,de,df,fw,m7,u5,dR];refine cI (xs.length - m - 1) (aaX l1 v dS j xs m) ?_ ⟨by simp,by simp,by simp,m,xs,by simp,ap,rfl,af,h1.symm,by omega,fun t _=>rfl,rfl,fun b _=>rfl⟩;rintro i ae b1 av ⟨cf,bA,bi,q,bh,a8,aW,cg,vi,hb,vb,mc,DO,kW⟩;obtain⟨ae,rfl⟩:=i0 cf a8 bA bi;clear cf a8 bA bi;obtain⟨ev,agK⟩:∃ ev,ev=i+1:=⟨_,rfl⟩
    rw[<-agK];obtain⟨avH,Zp,ON,_⟩:=aW.q.from au (k:=.i64) (i:=m) (by simp; omega);rw[dR] at Zp;obtain rfl:=Option.some.inj Zp;have hR:=ON.len;rw[awW,av8,cg] at hR;by_cases qI:ev<xs.length - m
    ·have Hv:(ev:Int)<((xs.length - m:Nat) :Int) :=by omega
     have b2:IntKind.i64.wrap ((ev:Int) - 1)=(i:Int) :=by rw[IntKind.wrap_i64]; omega
     have w2:IntKind.i64.wrap ((ev:Int)+1)=((ev+1:Nat) :Int) :=by rw[IntKind.wrap_i64]; omega
     have eh:IntKind.i64.wrap ((q:Int)+1)=((q+1:Nat) :Int) :=by rw[IntKind.wrap_i64]; omega
     obtain⟨BI,iQ,sj,jY,lN,Ca,rk⟩:=ON.get (k:=.i64) (i:=ev) (e:=aO (b0 bh (m+ev))) (by rw[awv]; exact HZ (by omega));obtain⟨Iz,h0,vy,i1,kK,sB,Cc⟩:=ON.get (k:=.i64) (i:=i) (e:=aO (b0 bh (m+i))) (by rw[awv]; exact HZ (by omega));have qW:=vi _ (HV (a:=bh) (k:=m+ev) (by omega));have iH:=vi _ (HV (a:=bh) (k:=m+i) (by omega));have bI:=HX qW iH;have oj:=mc (m+ev) (by omega);have ol:=mc (m+i) (by omega);have bC:=CS xs (m+ev);rw[show m+ev - 1=m+i by omega] at bC;obtain⟨ya,afH⟩:∃ X,X=b0 bh (m+ev) :=⟨_,rfl⟩
     obtain⟨JK,Lv⟩:∃ Y,Y=b0 bh (m+i) :=⟨_,rfl⟩
     rw[<-afH] at rk bI qW oj;rw[<-Lv] at Cc bI ol;rw[<-oj,<-ol] at bC;rw[show m+i+1=m+ev by omega] at hb;by_cases ni:ya=JK
     ·have yX:gH Tryz.prog .neq 48 (.aH (aO ya)) (.aH (aO JK))=some (.bool false) :=by rw[bI]; simp[ni]
      rw[if_neg (fun h=>h.elim (fun aD=>by omega) (fun ad=>ad ni)),awp] at bC;simp[hR,Hv,b2,jY,lN,Ca,rk,i1,kK,sB,Cc,yX,w2];exact⟨by omega,by simp,by simp,by simp,q,bh,by simp,aW,cg,vi,by rw[bC]; exact hb,by omega,fun t aI=>mc t (by omega),DO,kW⟩
     ·have yX:gH Tryz.prog .neq 48 (.aH (aO ya)) (.aH (aO JK))=some (.bool true) :=by rw[bI]; simp[ni]
      rw[if_pos (.inr ni)] at bC;obtain⟨EP,fr,nF,iM,z3,z4,z5⟩:=amK aW vi (k:=q) (x:=ya) (by omega) qW;simp[hR,Hv,b2,jY,lN,Ca,rk,i1,kK,sB,Cc,yX,w2,eh,nF,iM];have Pm:(bh.take q).length=q:=by rw[av1]; omega
      have rZ:(bh.set q ya).take (q+1)=bh.take q++[ya] :=by
       rw[axt,if_pos (by omega),axN,Pm,avO (by omega),show q+1 - q=1 by omega]; simp
      refine⟨by omega,by simp,by simp,by simp,q+1,bh.set q ya,by simp,z3,by simp[cg],fun y ax=>?_,by rw[rZ,bC,hb],by omega,fun t aI=>?_,by omega,fun b ag=>(z5 b ag).trans (kW b ag)⟩
      ·rcases axl ax with h | h
       ·exact vi _ h
       ·rw[h]; exact qW
      ·have:=mc t (by omega);unfold b0 at this ⊢;rw[awe,av0 (by omega),<-awe];exact this
    ·have Hv:¬ (ev:Int)<((xs.length - m:Nat) :Int) :=by omega
     obtain⟨v3,fr,r,nF,iM,z3,z4,z5,apl,PK⟩:=adf aW (k:=q) (by omega);simp[hR,Hv,nF,iM,z3];obtain⟨aP,aU,a8,bA⟩:=l6;have L0:eL.length<=j:=a8.resolve_left (fun h=>by rw[h] at au; cases au);have LP:m+i+1=xs.length:=by omega
     rw[LP] at hb;refine aY _ _ ⟨j,by unfold sY; rw[<-hb]; exact z4,by omega,fun b ag=>?_,.inr L0,by rw[z5,<-bA,au]⟩;rw[PK b (by omega),kW b (by omega)];exact aU b ag
   ·have u5:gH Tryz.prog .eql 48 (.aH (aO X)) (.aH (aO Y))=some (.bool false) :=by rw[e1,decide_eq_false ao]
    simp[bn,jd,aR,aV,a1,a3,a4,de,df,fw,m7,u5,bJ];refine⟨by omega,by simp,by simp[hm],rfl,fun t h1 ad=>?_⟩;by_cases aI:t=m
    ·rw[aI,<-cv,show m - 1=k by omega,<-eD]; exact ao
    ·exact ak t h1 (by omega)
  ·have jd:¬ (m:Int)<(xs.length:Int) :=by omega
   have AV:sY xs=xs:=by
    unfold sY;rw[CR (avR _) (fun k h1 aj=>ak k h1 (by omega)),awi]
   simp[bn,jd];exact aY _ _ (by rw[AV]; exact h)
theorem amk {l:List (List B)} (h:c9 l=true) :zK l=true:=by
 unfold c9 at h;rw[decide_eq_true_eq] at h;exact ZF fun k hk h1=>by
  have:=h k hk h1;have aE:=rA (b0 l k) (b0 l (k - 1));omega
theorem Jp (o:bm) (ap:hX o) :bz Tryz.prog GS 146 [.aH (a2 o)] (.int .i64 (fM o)) :=by
 refine bL Tryz.checked.mixed bE ?_;apply bp Tryz.func146 [[[0],[1],[2],[3],[4],[5],[6],[10],[11],[12],[7,11],[8,11],[9]]];unfold fM;have ej:=eK o.br;have bn:cK (.ar 32) (aK o.br)=some (.int .i64 o.br.l.length) :=by simp[aK]
 have jE:(aK o.br).cells=some [aK o.br] :=by cases o.br<;>rfl
 by_cases h1:4<o.br.l.length
 ·have dg:(4:Int)<(o.br.l.length:Int) :=by omega
  rw[if_pos h1];simp[a2,bn,dg];exact aL rfl rfl
 ·have dg:¬ (4:Int)<(o.br.l.length:Int) :=by omega
  rw[if_neg h1];simp[a2,bn,dg];refine a6 (ajb o.br ap.ids ap.len) (by simp[bd,ej,U.closed]) ?_;cases ad:zK o.br.l with
  | false=>
   have aj:c9 o.br.l=false:=by
    cases aj:c9 o.br.l with
    | false=>rfl
    | true=>rw[amk aj] at ad; cases ad
   simp[aj,bn];exact aL rfl rfl
  | true=>
   simp[bn];refine WH o.br ap.ids ap.len fun fk l1 aP=>?_
   have afS:l1[0]? = some (.cells 11 (a2 o)) :=by rw[aP.same 0 (by simp)]; rfl
   have UW:=afS;simp[a2] at UW;simp[UW];refine ac4 aP ap.ids ap.len fun dS b1 aU=>?_
   have fA:b1[0]? = some (.cells 11 (a2 o)) :=by rw[aU.same 0 (by simp)]; rfl
   have AO:=fA;simp[a2] at AO;have hR:=aU.len;have AV:=adh ad;cases aj:c9 o.br.l with
   | false=>
    have bI:¬ ((sY o.br.l).length:Int)=(o.br.l.length:Int) :=fun h=>by
     have:=AV.1 (by omega);rw[aj] at this; cases this
    simp[hR,AO,bn,bI];exact aL rfl rfl
   | true=>
    have heq:((sY o.br.l).length:Int)=(o.br.l.length:Int) :=by have:=AV.2 aj; omega
    simp[hR,AO,bn,heq];refine a6 (Nd o.hZ) rfl ?_;unfold s9;cases aX:gD o.hZ with
    | false=>
     simp;exact aL rfl rfl
    | true=>
     have ci:((1000000000000:Int)<u o.c4)<->¬ o.c4.toNat<=1000000000000:=by unfold u; omega
     by_cases bw:o.c4.toNat<=1000000000000
     ·have wP:¬ ((1000000000000:Int)<u o.c4) :=fun h=>ci.1 h bw
      have yW:((500000003:Int)<=max (u o.e:Int) (u o.s))<->¬ (jA o.e&&jA o.s)=true:=by
       unfold jA u;simp only[avU,decide_eq_true_eq];omega
      have VR:vu (bD o.e) (bD o.s)=some (.int .u32 (max (u o.e:Int) (u o.s))) :=by
       show (if IntKind.u32=IntKind.u32 then some (U.int .u32 (if (u o.e:Int)<u o.s then u o.s else u o.e)) else none)=_;rw[if_pos rfl];congr 2;split<;>omega
      cases c5:(jA o.e&&jA o.s) with
      | false=>
       have n0:(500000003:Int)<=max (u o.e:Int) (u o.s) :=yW.2 (by rw[c5]; simp);simp[AO,bw,wP,VR,n0];exact aL rfl rfl
      | true=>
       have n0:¬ (500000003:Int)<=max (u o.e:Int) (u o.s) :=fun h=>(yW.1 h) c5
       simp[AO,bw,wP,VR,n0];refine a6 (Kj o.act) rfl ?_;cases dZ:kr o.act with
       | false=>
        simp[gI];exact aL rfl rfl
       | true=>
        simp[gI];exact aL (by rw[if_pos bw]) rfl
     ·have wP:(1000000000000:Int)<u o.c4:=ci.2 bw;simp[AO,bw,wP];exact aL rfl rfl
theorem amB (a b:ez) (aA:gv a) (ag:gv b) (al:a.l.length<=1000000) :bz Tryz.prog GS 37 [aK a,aK b] (.bool (decide (a.l=b.l))) :=by
 refine bL Tryz.checked.mixed bE ?_;apply bp Tryz.func37 [];simp[aK];by_cases h1:a.l.length=b.l.length
 ·have dg:((a.l.length:Int)=b.l.length) :=by omega
  simp[h1];refine cI a.l.length (fun k ae l=>ae 0=cB 32 aO a/\ae 1=cB 32 aO b/\ae 5=.int .i64 k/\∀ j,j<k->a.l[j]? = b.l[j]?) ?_ (by simp[aK]);rintro k ae l hk ⟨cf,aP,bi,ak⟩;obtain⟨s,rfl⟩:=kj cf aP bi;clear cf aP bi;simp;refine jo (fun h=>?_) (fun h=>?_)
  ·simp only[decide_eq_true_eq] at h;obtain⟨x,af,cE⟩:=bx h;obtain⟨y,ax,cr⟩:=bx (l:=b.l) (k:=k) (by omega);have aR:IntKind.i64.wrap ((k:Int)+1)=((k+1:Nat) :Int) :=by rw[IntKind.wrap_i64]; omega
   simp[af,ax,cC (aA x cE),cC (ag y cr),avO,HX (aA x cE) (ag y cr)];by_cases ao:x=y
   ·simp[ao,aR];refine⟨by omega,fun j ai=>?_⟩;by_cases gc:j=k
    ·subst gc; rw[af,ax,ao]
    ·exact ak j (by omega)
   ·simp[ao];refine aL (congrArg U.bool (decide_eq_false fun fo=>ao ?_).symm) rfl;rw[fo,ax] at af; exact (Option.some.inj af).symm
  ·simp[h];have h4:k=a.l.length:=by simp at h; omega
   refine aL (congrArg U.bool (decide_eq_true ?_).symm) rfl;apply awM;intro j;by_cases ai:j<a.l.length
   ·exact ak j (by omega)
   ·rw[av5 (by omega),av5 (by omega)]
 ·have dg:¬ ((a.l.length:Int)=b.l.length) :=by omega
  simp[h1,dg];exact aL (by rw[decide_eq_false (fun fo=>h1 (by rw[fo]))]) rfl
def cH (o:bm) :List B:=if fM o=0 then ie (iA o) else List.replicate 32 0#8
theorem zy {o:bm} (h:fM o=0) :o.br.l.length<=4:=by
 unfold fM at h;split at h
 ·cases h
 ·omega
theorem E6 {l:am} {b n:Nat} {hn:List U} {k:Nat} {w:U} {kd:IntKind} (ag:l[b]? = some (.cells n hn)) (aC:hn.length=n) (hk:hn[k]? = some w) :
  ∃ p cs o,ck (.ar 1) (.ar 1 b 0 n n n) (.int kd (k:Int))=some p/\eW l p=some (cs,o)/\cs[o]? = some w:=by
 have aM:k<n:=by rw[<-aC]; exact (avP.1 hk).1
 refine⟨.ptr b (0+k*1) n,hn,0+k*1,?_,?_,by simpa using hk⟩
 ·simp only[ck,awZ];rw[if_pos ⟨trivial,by omega,by omega⟩]
 ·simp only[eW,ag,if_true]
theorem aeR {n:Nat} (aC:n<=1000000000) {l:am} {K:U->am->Prop} (aY:∀ v l',cu 1 ch l l' v ([] :List B) (decide (n=0))->K v l') :c7 Tryz.prog GS 235 [.aT,.int .i64 n] l (c:=⟨K⟩) :=by
 apply bp Tryz.func235 [];have h1:¬((n:Int)<0) :=by omega
 have hw:IntKind.i64.wrap (n:Int)=n:=wrap_i64 (by omega) (by omega);have MS:IntKind.i64.wrap (0:Int)=0:=rfl;by_cases aD:n=0
 ·subst aD;simp;exact aY _ _ cu.nil
 have ad:(0:Int)<n:=by omega
 have aw:rx l 1 1 [.int .u8 0] .aT (.int .i64 n)=some (.ar 1 l.length 0 n n (n*1),l++[.cells (n*1) (dN [.int .u8 0] n)]) :=by
  unfold rx hJ;simp only[awZ];have az:cy=140737488355328:=rfl;rw[if_pos ⟨by omega,by omega,by rw[az]; omega⟩,if_neg aD,if_neg (by omega),if_pos (by rw[az]; omega)]
 have ak:fG (.ar 1) (.ar 1 l.length 0 n n (n*1)) none (some (.int .i64 0)) none=some (.ar 1 l.length 0 0 n (n*1)) :=by
  rw[zJ,J6,if_pos ⟨by omega,by omega⟩];simp[aD]
 rw[axn] at aw ak;have aj:0<n:=by omega
 simp[h1,ad,aj,hw,aw,MS,ak];refine aY _ (l++[.cells n (dN [.int .u8 0] n)]) ⟨l.length,.ar _ 0 n n (dN [.int .u8 0] n) [] (by simp) (by rw[BS]; simp) rfl (by simp) (by omega) (by omega) rfl,by simp,fun b ag=>avQ ag,.inr (avR _),?_⟩;simp[cw,aD]
def ja (bs:List (List B)) :List B:=bs.flatten
theorem TM {bs:List (List B)} {k:Nat} {s:List B} (h:bs[k]? = some s) :ja (bs.take (k+1))=ja (bs.take k)++s:=by
 unfold ja;rw[av7,h]; simp
theorem TL (bs:List (List B)) (k:Nat) :(ja (bs.take k)).length<=(ja bs).length:=by
 conv=>rhs; rw[<-awy k bs]
 unfold ja;rw[awC,avW];omega
structure nM (l:am) (w:U) (s:List B) :Prop where
 len:cK (.ar 1) w=some (.int .i64 s.length)
 S9:∀ l',l.length<=l'.length->(∀ b,b<l.length->l'[b]? = l[b]?)->dE l' 1 w=some ((s.map ch).flatten,s.length)
theorem BD {l l1:am} {w:U} {s:List B} {hd:Bool} (h:cu 1 ch l l1 w s hd) :nM l1 w s:=⟨h.len,fun l' h1 ad=>(h.frame h1 ad).contents⟩
theorem nM.frame {l l1:am} {w:U} {s:List B} (h:nM l w s) (al:l.length<=l1.length) (ak:∀ b,b<l.length->l1[b]? = l[b]?) :nM l1 w s:=
 ⟨h.len,fun l' h1 ad=>h.S9 l' (by omega) fun b ag=>by rw[ad b (by omega)]; exact ak b ag⟩
theorem X9 {l:am} {b:Nat} {x:B} (h:l[b]? = some (.cells 1 [bF x])) :nM l (.ar 1 b 0 1 1 1) [x] :=by
 have:=eu h;exact⟨rfl,fun l' h1 ad=>by have:=ad b this; rw[h] at this; simp[dE,this,ch]⟩
structure aaW (l:am) (X:U) (bs:List (List B)) (k:Nat) (ae:bg) (l1:am) :Prop where
 kR:ae 25=X
 mE:ae 26=.int .i64 bs.length
 s8:ae 27=.int .i64 k
 tH:∃ v,ae 6=v/\cu 1 ch l l1 v (ja (bs.take k)) (decide ((ja bs).length=0))
set_option maxHeartbeats 4000000 in
theorem Ta {l:am} {b n:Nat} {hn:List U} {bs:List (List B)} (ag:l[b]? = some (.cells n hn)) (aiu:hn.length=n) (pw:bs.length=n)
  (ay:∀ (k:Nat) (w:U) (s:List B),hn[k]? = some w->bs[k]? = some s->nM l w s) (al:(ja bs).length<=1000000000) (DO:n<=1000000000)
  {K:U->am->Prop} (aY:∀ v l',cu 1 ch l l' v (ja bs) (decide ((ja bs).length=0))->K v l') :
  c7 Tryz.prog GS 194 [.ar 1 b 0 n n n] l (c:=⟨K⟩) :=by
 apply bp Tryz.func194 [];have oW:=eu ag;have cv:∀ l',l.length<=l'.length->(∀ b,b<l.length->l'[b]? = l[b]?)->∀ k,k<n->∃ w s p cs o,hn[k]? = some w/\bs[k]? = some s/\nM l' w s/\ck (.ar 1) (.ar 1 b 0 n n n) (.int .i64 (k:Int))=some p/\eW l' p=some (cs,o)/\cs[o]? = some w:=by
  intro l' h1 ad k hk;obtain⟨w,hw,_⟩:=bx (l:=hn) (k:=k) (by omega);obtain⟨s,ak,_⟩:=bx (l:=bs) (k:=k) (by omega);obtain⟨p,cs,o,aV,a1,a3⟩:=E6 (kd:=.i64) (l:=l') (by rw[ad b oW]; exact ag) aiu hw;exact⟨w,s,p,cs,o,hw,ak,(ay k w s hw ak).frame h1 ad,aV,a1,a3⟩
 obtain⟨X,tb⟩:∃ X,X=U.ar 1 b 0 n n n:=⟨_,rfl⟩
 have qu:cK (.ar 1) X=some (.int .i64 bs.length) :=by rw[tb,pw]; rfl
 rw[<-tb] at cv ⊢;simp[qu];refine cI n (fun k ae l1=>ae 0=X/\ae 9=X/\ae 10=.int .i64 bs.length/\ae 11=.int .i64 k/\ae 3=.int .i64 (ja (bs.take k)).length/\l1=l) ?_ ?_
 ·rintro k ae l1 hk ⟨cf,gJ,fI,ip,a8,rfl⟩;obtain⟨ae,rfl⟩:=lj cf a8 gJ fI ip;clear cf a8 gJ fI ip;simp;by_cases h:k<bs.length
  ·obtain⟨w,s,p,cs,o,hw,ak,My,aV,a1,a3⟩:=cv l1 (avR _) (fun _ _=>rfl) k (by omega);have DE:=TM ak;have dw:=TL bs (k+1);rw[DE,avW] at dw;have mV:IntKind.i64.wrap (((ja (bs.take k)).length:Int)+s.length)=((ja (bs.take k)).length:Int)+s.length:=wrap_i64 (by omega) (by omega);have fB:IntKind.i64.wrap ((k:Int)+1)=k+1:=wrap_i64 (by omega) (by omega);have oh:¬(((ja (bs.take k)).length:Int)+s.length<0) :=by omega
   have gq:=My.len;simp[h,aV,a1,a3,gq,mV,oh,fB,DE];omega
  ·have cq:k=bs.length:=by omega
   subst cq;rw[awi];simp;refine aeR al ?_;intro v l ap;simp[qu];refine cI bs.length (aaW l1 X bs) ?_ ⟨by simp,by simp,by simp,v,by simp,by simpa [ja] using ap⟩;rintro k ae b1 hk ⟨kR,mE,s8,w,b8,ap⟩;obtain⟨ae,rfl⟩:=i0 b8 kR mE s8;clear b8 kR mE s8;simp;by_cases h:k<bs.length
   ·obtain⟨y,s,p,cs,o,hw,ak,My,aV,a1,a3⟩:=cv b1 ap.le ap.same k (by omega);have DE:=TM ak;have dw:=TL bs (k+1);rw[DE,avW] at dw;have fB:IntKind.i64.wrap ((k:Int)+1)=k+1:=wrap_i64 (by omega) (by omega);have az:cy=140737488355328:=rfl;obtain⟨aZ,fr,de,df,fw⟩:=ap.app (by_:=1) (x:=y) (xs:=s) (My.S9 b1 (avR _) fun _ _=>rfl) (by simp[ch]) (by omega) (by omega) (by rw[az]; omega);simp[h,aV,a1,a3,de];refine dp.cx ?_;simp[h,fB];refine⟨by simp,by simp,by simp,aZ,by simp,?_⟩;rw[DE];have l5:(decide ((ja bs).length=0)&&s.isEmpty)=decide ((ja bs).length=0) :=by
     by_cases ao:(ja bs).length=0
     ·have:s=[] :=awt.1 (by omega);simp[ao,this]
     ·simp[ao]
    rw[l5] at df;exact df
   ·have cq:k=bs.length:=by omega
    subst cq;simp;rw[awi] at ap;exact aY _ _ ap
 ·simp[ja]
def hs (o:bm) :bm:={ o with e:=0#32,s:=0#32 }
theorem aaz (o:bm) (ap:hX o) (hk:fM (hs o)=0) {l:am} {K:U->am->Prop} (aY:∀ w l',cu 1 ch l l' w (lf o) false->K (.bG [w,.int .i64 0]) l') :
  c7 Tryz.prog GS 147 [.aH (a2 o)] l (c:=⟨K⟩) :=by
 apply bp Tryz.func147 [[[0],[1],[2],[3],[5],[6],[7],[9],[10],[11],[12],[4,12,11,7,0],[8,12,11,0]]];have az:cy=140737488355328:=rfl;have Mh:=iy o.hZ.toNat
 have tl:=iy o.c4.toNat
 have gq:=Ew ap.ids;have e8:hX (hs o) :=⟨ap.ids,ap.len,ap.val,ap.key⟩
 have c0:=Jp (hs o) e8;rw[hk] at c0;have qG:o.br.l.length<=4:=zy (o:=hs o) hk;have HG:c9 o.br.l=true:=by
  unfold fM at hk;have aR:(hs o).br=o.br:=rfl;rw[aR,if_neg (by omega)] at hk;cases aj:c9 o.br.l with
  | true=>rfl
  | false=>rw[aj] at hk; cases hk
 have MJ:(BitVec.setWidth 64 o.hZ).toNat=o.hZ.toNat:=by rw[av9]; exact av4 (by have:=o.hZ.isLt; omega)
 have agd:=i6 (hs o);have aM:l.length<(l++[a7.cells 11 (a2 (hs o))]).length:=by simp
 have fA:(l++[a7.cells 11 (a2 (hs o))])[l.length]? = some (.cells 11 (a2 (hs o))) :=by simp
 simp[a2];refine a6 c0 (show bd [U.aH (a2 (hs o))]=true by simp[bd,U.closed,agd]) ?_;simp;refine aoK o.br ap.ids (by omega) HG fun b2 l1 h1=>?_
 have qN:l1[l.length]? = some (.cells 11 (a2 (hs o))) :=by rw[h1.same _ aM]; exact fA
 have qH:l.length<l1.length:=by have:=h1.le; simp at this; omega
 have y1:=qN;simp[a2,hs] at y1;have ahQ:(l1++[a7.cells 1 [U.int .u8 111]])[l.length]? = some (.cells 11 (a2 (hs o))) :=by rw[avQ qH]; exact qN
 have ar9:l.length<(l1++[a7.cells 1 [U.int .u8 111]]).length:=by simp; omega
 have Wc:=ahQ;simp[a2,hs] at Wc;simp[Wc];have ahW:(l1++[a7.cells 1 [U.int .u8 111],a7.cells 1 [U.int .u8 (u o.act.kind)]])[l.length]? = some (.cells 11 (a2 (hs o))) :=by rw[avQ qH]; exact qN
 have ahR:(l1++[a7.cells 1 [U.int .u8 111],a7.cells 1 [U.int .u8 (u o.act.kind)]])[l1.length]? = some (.cells 1 [.int .u8 111]) :=by simp
 have vb:(l1++[a7.cells 1 [U.int .u8 111],a7.cells 1 [U.int .u8 (u o.act.kind)]])[l1.length+1]? = some (.cells 1 [.int .u8 (u o.act.kind)]) :=by simp
 have ng:(l1++[a7.cells 1 [U.int .u8 111],a7.cells 1 [U.int .u8 (u o.act.kind)]]).length=l1.length+2:=by simp
 refine zU _ fun w2 b1 ad=>?_
 rw[MJ] at ad;have Ht:=ad.le;rw[ng] at Ht;have tm:b1[l.length]? = some (.cells 11 (a2 (hs o))) :=by rw[ad.same _ (by rw[ng]; omega)]; exact ahW
 have Us:b1[l1.length]? = some (.cells 1 [.int .u8 111]) :=by rw[ad.same _ (by rw[ng]; omega)]; exact ahR
 have Ut:b1[l1.length+1]? = some (.cells 1 [.int .u8 (u o.act.kind)]) :=by rw[ad.same _ (by rw[ng]; omega)]; exact vb
 have rU:=tm;simp[a2,hs] at rU;simp[rU,Us,Ut];refine zU _ fun eh fr aj=>?_
 have VP:=aj.le;have cY:fr[l.length]? = some (.cells 11 (a2 (hs o))) :=by rw[aj.same _ (by omega)]; exact tm
 have Uu:fr[l1.length]? = some (.cells 1 [.int .u8 111]) :=by rw[aj.same _ (by omega)]; exact Us
 have Uv:fr[l1.length+1]? = some (.cells 1 [.int .u8 (u o.act.kind)]) :=by rw[aj.same _ (by omega)]; exact Ut
 have w5:=cY;simp[a2,hs] at w5;simp[w5,Uu,Uv,h1.cells,ad.cells,aj.cells,bt];obtain⟨L,eT⟩:∃ L,L=fr++[a7.cells 5 [.ar 1 l1.length 0 1 1 1,w2,b2,eh,.ar 1 (l1.length+1) 0 1 1 1]] :=⟨_,rfl⟩
 have yy:fr.length<=L.length:=by rw[eT]; simp
 have qs:∀ b,b<fr.length->L[b]? = fr[b]?:=fun b ag=>by rw[eT,avQ ag]
 have Lk:L[fr.length]? = some (.cells 5 [.ar 1 l1.length 0 1 1 1,w2,b2,eh,.ar 1 (l1.length+1) 0 1 1 1]) :=by rw[eT]; simp
 rw[<-eT];have JC:nM L (.ar 1 l1.length 0 1 1 1) [111#8] :=X9 (by rw[qs _ (by omega)]; exact Uu);have abn:nM L (.ar 1 (l1.length+1) 0 1 1 1) [o.act.kind] :=X9 (by rw[qs _ (by omega)]; exact Uv);have JD:nM L w2 (eS o.hZ.toNat) :=((BD ad).frame VP aj.same).frame yy qs;have JE:nM L b2 (r9 o.br.l) :=((((BD h1).frame (l1:=l1++[a7.cells 1 [U.int .u8 111],a7.cells 1 [U.int .u8 (u o.act.kind)]]) (by rw[ng]; omega) (fun b ag=>avQ ag)).frame (by rw[ng]; exact Ht) ad.same).frame VP aj.same).frame yy qs;have abm:nM L eh (eS o.c4.toNat) :=(BD aj).frame yy qs;have V7:L[l.length]? = some (.cells 11 (a2 (hs o))) :=by rw[qs _ (by omega)]; exact cY
 obtain⟨M,n1⟩:∃ M,M=ja [[111#8],eS o.hZ.toNat,r9 o.br.l,eS o.c4.toNat,[o.act.kind]] :=⟨_,rfl⟩
 have Lo:M=[111#8]++eS o.hZ.toNat++r9 o.br.l++eS o.c4.toNat++[o.act.kind] :=by rw[n1]; simp[ja]
 have afw:M.length<=40000:=by rw[Lo]; simp only[avW,awa,awu]; omega
 have Ln:M.length≠0:=by rw[Lo]; simp
 refine Ta (bs:=[[111#8],eS o.hZ.toNat,r9 o.br.l,eS o.c4.toNat,[o.act.kind]]) Lk rfl rfl ?_ (by rw[<-n1]; omega) (by omega) fun oH la aE=>?_
 ·intro k w s hw ak;rcases k with _ | _ | _ | _ | _ | k
  ·obtain rfl:=Option.some.inj hw; obtain rfl:=Option.some.inj ak; exact JC
  ·obtain rfl:=Option.some.inj hw; obtain rfl:=Option.some.inj ak; exact JD
  ·obtain rfl:=Option.some.inj hw; obtain rfl:=Option.some.inj ak; exact JE
  ·obtain rfl:=Option.some.inj hw; obtain rfl:=Option.some.inj ak; exact abm
  ·obtain rfl:=Option.some.inj hw; obtain rfl:=Option.some.inj ak; exact abn
  ·cases hw
 rw[<-n1,decide_eq_false Ln] at aE;have afv:l.length<=L.length:=by omega
 have AI:cu 1 ch l la oH M false:=aE.base afv fun b ag=>by
  have eU:b<l1.length:=by omega
  rw[qs b (by omega),aj.same b (by omega),ad.same b (by rw[ng]; omega),avQ eU,h1.same b (by simp; omega),avQ ag]
 have HA:la[l.length]? = some (.cells 11 (a2 (hs o))) :=by rw[aE.same _ (by omega)]; exact V7
 have ahf:l.length<la.length:=eu HA;have A9:=HA;simp[a2,hs] at A9;have bM:lf o=M++(if o.act.kind=1#8 then [] else jt (fC o.act.key))++(if o.act.kind=4#8 then ju o.act.val else []) :=by rw[Lo]; rfl
 have md:=B5 (fC o.act.key);rw[rb] at md;have A5:=ap.key;have jh:=Fs o.act.val;have aiq:=ap.val.2.2;have ah:wE (.str o.act.key)=some (.bQ 1 ((fC o.act.key).map ch)) :=by
  show some (U.bQ 1 (o.act.key.map fun b=>[jx b]))=_;rw[Jb]
 by_cases cZ:o.act.kind=1#8
 ·have aR:(u o.act.kind:Int)=1:=(iL o.act.kind).2 cZ;have h0:¬ o.act.kind=4#8:=by rw[cZ]; decide
  rw[if_pos cZ,if_neg h0,awp,awp] at bM;simp[A9,aR];exact aY _ _ (by rw[bM]; exact AI)
 ·have aR:¬ (u o.act.kind:Int)=1:=fun h=>cZ ((iL o.act.kind).1 h)
  rw[if_neg cZ] at bM;simp[A9,aR,ah];refine aax (some (fC o.act.key)) (by simpa [rb] using A5) (by simp[dE]) (by simp) (fun l' _ _=>by simp[dE]) fun Jo mi dZ=>?_
  obtain⟨aoD,Nu,a9,wd,_⟩:=(AI.frame dZ.le dZ.same).app (by_:=1) (x:=Jo) (xs:=jt (fC o.act.key)) dZ.contents (by simp[ch]) (by omega) (by omega) (by rw[az]; omega);have abY:=(aE.frame dZ.le dZ.same).app (by_:=1) (x:=Jo) (xs:=jt (fC o.act.key)) dZ.contents (by simp[ch]) (by omega) (by omega) (by rw[az]; omega);obtain⟨avL,atO,PU,FZ,_⟩:=abY;rw[a9] at PU;obtain⟨rfl,rfl⟩:=Prod.mk.inj (Option.some.inj PU);have Mv:Nu[l.length]? = some (.cells 11 (a2 (hs o))) :=by rw[FZ.same _ (by omega)]; exact V7
  have y3:=Mv;simp[a2,hs] at y3;simp[a9];refine dp.cx ?_;simp only[awR] at wd;by_cases h0:o.act.kind=4#8
  ·have kP:(u o.act.kind:Int)=4:=(xT o.act.kind).2 h0;rw[if_pos h0] at bM;have UT:kr o.act=true:=by
    cases h:kr o.act with
    | true=>rfl
    | false=>
     unfold fM at hk;have bJ:(hs o).br=o.br:=rfl;have dF:(hs o).act=o.act:=rfl;rw[bJ,if_neg (by omega),HG,if_pos rfl] at hk;unfold s9 at hk;rw[dF,h] at hk;simp at hk
   rw[Ct h0,avU] at UT;simp[y3,kP];refine aoU o.act.val ap.val UT.2 fun PA ajC mH=>?_
   obtain⟨aoC,ajD,JL,JX,_⟩:=(wd.frame mH.le mH.same).app (by_:=1) (x:=PA) (xs:=ju o.act.val) mH.contents (by simp[ch]) (by omega) (by omega) (by rw[az]; simp only[avW]; omega);simp[JL];refine dp.cx ?_;simp;exact aY _ _ (by rw[bM]; exact JX)
  ·have kP:¬ (u o.act.kind:Int)=4:=fun h=>h0 ((xT o.act.kind).1 h)
   rw[if_neg h0,awp] at bM;simp[y3,kP];exact aY _ _ (by rw[bM]; exact wd)
theorem Qs {o:bm} (h:fM o=0) :fM (hs o)=0:=by
 unfold fM at h ⊢;have aR:(hs o).br=o.br:=rfl;rw[aR];have aq:s9 o=true->s9 (hs o)=true:=by
  unfold s9 hs;simp only[avU];rintro⟨a,b,c,d,e⟩;exact⟨a,b,c,by decide,by decide⟩
 split at h
 ·cases h
 ·rename_i h1;rw[if_neg h1];split at h
  ·rename_i ad;rw[if_pos ad];split at h
   ·rename_i aj;rw[if_pos (aq aj)]
   ·cases h
  ·cases h
theorem Tw {o:bm} (h:fM o=0) :kr o.act=true:=by
 unfold fM at h;split at h
 ·cases h
 ·split at h
  ·split at h
   ·rename_i aj;unfold s9 at aj;simp only[avU] at aj;exact aj.2.2.1
   ·cases h
  ·cases h
theorem Nq {s:List UInt8} (h:gM s=true) :s.length<=20:=by
 unfold gM at h;simp only[avU,decide_eq_true_eq] at h;omega
theorem Ty {o:bm} (ap:hX o) (h:fM o=0) :(iA o).length<=1000:=by
 have h1:=iy o.hZ.toNat
 have ad:=iy o.c4.toNat
 have aj:=Ew ap.ids;have aE:=B5 (fC o.act.key);rw[rb] at aE;have bw:=Fs o.act.val;have ay:=zy h;have ao:=iy o.e.toNat
 have ak:=iy o.s.toNat
 have aA:=Tw h;have aP:(if o.act.kind=1#8 then [] else jt (fC o.act.key)).length<=100:=by
  split
  ·simp
  ·rename_i cZ;have:o.act.key.length<=20:=by
    by_cases dJ:o.act.kind=2#8
    ·rw[Cs dJ,avU] at aA; exact Nq aA.1
    ·by_cases iQ:o.act.kind=3#8
     ·rw[JN iQ,avU] at aA; exact Nq aA.1
     ·by_cases h0:o.act.kind=4#8
      ·rw[Ct h0,avU] at aA; exact Nq aA.1
      ·rw[JO cZ dJ iQ h0] at aA; cases aA
   omega
 have aU:(if o.act.kind=4#8 then ju o.act.val else []).length<=100:=by
  split
  ·rename_i h0;rw[Ct h0,avU] at aA;have au:=aA.2;have:o.act.val.text.length<=30:=by
    by_cases ce:o.act.val.kind=1#8
    ·rw[Px ce] at au;simp only[avU,decide_eq_true_eq] at au;rw[au.2]; simp
    ·by_cases bP:o.act.val.kind=2#8
     ·rw[Py bP] at au;simp only[avU,decide_eq_true_eq] at au;rw[au.2.2]; simp
     ·by_cases dn:o.act.val.kind=3#8
      ·by_cases al:o.act.val.text.length<=30
       ·exact al
       ·rw[aas dn] at au;unfold uc at au;rw[if_neg al] at au;simp only[avU,decide_eq_true_eq,pd] at au;have:=au.1;rw[dn] at this;exact absurd this (by decide)
      ·rw[Pz ce bP dn] at au; cases au
   omega
  ·simp
 unfold iA lf opHead;simp only[avW,awa,awu];omega
theorem aoH (o:bm) (ap:hX o) (hk:fM o=0) {l:am} {K:U->am->Prop} (aY:∀ w l',cu 1 ch l l' w (iA o) false->K (.bG [w,.int .i64 0]) l') :
  c7 Tryz.prog GS 144 [.aH (a2 o)] l (c:=⟨K⟩) :=by
 apply bp Tryz.func144 [[[0],[1],[2],[3],[4],[6],[7],[8],[9],[5,9,8]]];have c0:=Jp o ap;rw[hk] at c0;have ej:=i6 o;have gl:=Ty ap hk;have h5:(BitVec.setWidth 64 o.e).toNat=o.e.toNat:=by rw[av9]; exact av4 (by have:=o.e.isLt; omega)
 have rX:(BitVec.setWidth 64 o.s).toNat=o.s.toNat:=by rw[av9]; exact av4 (by have:=o.s.isLt; omega)
 have aM:l.length<(l++[a7.cells 11 (a2 o)]).length:=by simp
 have fA:(l++[a7.cells 11 (a2 o)])[l.length]? = some (.cells 11 (a2 o)) :=by simp
 simp[a2];refine a6 c0 (show bd [U.aH (a2 o)]=true by simp[bd,U.closed,ej]) ?_;simp;refine aaz o ap (Qs hk) fun b2 l1 h1=>?_
 have qN:l1[l.length]? = some (.cells 11 (a2 o)) :=by rw[h1.same _ aM]; exact fA
 have qH:l.length<l1.length:=eu qN;have y1:=qN;simp[a2] at y1;simp[y1];refine zU _ fun w2 b1 ad=>?_
 rw[h5] at ad;have tm:b1[l.length]? = some (.cells 11 (a2 o)) :=by rw[ad.same _ qH]; exact qN
 have rU:=tm;simp[a2] at rU;simp[rU];refine zU _ fun eh fr aj=>?_
 rw[rX] at aj;simp[h1.cells,ad.cells,aj.cells,bt];obtain⟨L,eT⟩:∃ L,L=fr++[a7.cells 3 [b2,w2,eh]] :=⟨_,rfl⟩
 have yy:fr.length<=L.length:=by rw[eT]; simp
 have qs:∀ b,b<fr.length->L[b]? = fr[b]?:=fun b ag=>by rw[eT,avQ ag]
 have Lk:L[fr.length]? = some (.cells 3 [b2,w2,eh]) :=by rw[eT]; simp
 rw[<-eT];have JC:nM L b2 (lf o) :=(((BD h1).frame ad.le ad.same).frame aj.le aj.same).frame yy qs;have JD:nM L w2 (eS o.e.toNat) :=((BD ad).frame aj.le aj.same).frame yy qs;have JE:nM L eh (eS o.s.toNat) :=(BD aj).frame yy qs;have n1:ja [lf o,eS o.e.toNat,eS o.s.toNat]=iA o:=by simp[ja,iA]
 have Ln:(iA o).length≠0:=by unfold iA lf opHead; simp
 refine Ta (bs:=[lf o,eS o.e.toNat,eS o.s.toNat]) Lk rfl rfl ?_ (by rw[n1]; omega) (by omega) fun oH la aE=>?_
 ·intro k w s hw ak;rcases k with _ | _ | _ | k
  ·obtain rfl:=Option.some.inj hw; obtain rfl:=Option.some.inj ak; exact JC
  ·obtain rfl:=Option.some.inj hw; obtain rfl:=Option.some.inj ak; exact JD
  ·obtain rfl:=Option.some.inj hw; obtain rfl:=Option.some.inj ak; exact JE
  ·cases hw
 rw[n1,decide_eq_false Ln] at aE;simp;refine aY _ _ (aE.base ?_ fun b ag=>?_)
 ·have:=ad.le; have:=aj.le; omega
 ·have:=ad.le; have:=aj.le;rw[qs b (by omega),aj.same b (by omega),ad.same b (by omega),h1.same b (by simp; omega),avQ ag]
theorem aoG (o:bm) (ap:hX o) (hk:¬ fM o=0) :bz Tryz.prog GS 144 [.aH (a2 o)] (.bG [.aT,.int .i64 (fM o)]) :=by
 refine bL Tryz.checked.mixed bE ?_;apply bp Tryz.func144 [[[0],[1],[2],[3],[4],[6],[7],[8],[9],[5,9,8]]];have c0:=Jp o ap;have ej:=i6 o;obtain⟨E,e6⟩:∃ E,E=a2 o:=⟨_,rfl⟩
 have uV:E.length=11:=by rw[e6]; rfl
 rw[<-e6] at c0 ej ⊢;simp[uV,avO];refine a6 c0 (by simp[bd,U.closed,ej]) ?_;simp[hk];exact aL rfl rfl
theorem PB (o:bm) (ap:hX o) :bz Tryz.prog GS 94 [.aH (a2 o)] (.bG [fF (cH o),.int .i64 (fM o)]) :=by
 refine bL Tryz.checked.mixed bE ?_;apply bp Tryz.func94 [];unfold cH;have ej:=i6 o;have aw:(rep 32 (.int .u8 0) :List U)=(List.replicate 32 0#8).map bF:=by simp[rep]
 obtain⟨E,e6⟩:∃ E,E=a2 o:=⟨_,rfl⟩
 have uV:E.length=11:=by rw[e6]; rfl
 by_cases aD:fM o=0
 ·have gl:=Ty ap aD;have ef:(ie (iA o)).length=32:=vJ _;rw[<-e6];simp[uV,avO];rw[e6];refine aoH o ap aD fun b2 l1 h1=>?_
  rw[<-e6] at h1;have fA:l1[1]? = some (.cells 32 (rep 32 (.int .u8 0))) :=by rw[h1.same 1 (by simp)]; rfl
  simp;refine iB (ZU (some (iA o)) (by simp; omega)) (.cons (h1.sq (fun _=>rfl) (some (iA o)) rfl rfl) .nil) (by simp[U.flat,mB,fF,AC bF (fun _=>rfl)]) ?_;have ve:bt (rep 32 (.int .u8 0)) 0 ((ie (iA o)).map bF)=(ie (iA o)).map bF:=eM (by rw[av8,ef]; rfl);have mS:(l1.set 1 (a7.cells 32 ((ie (iA o)).map bF)))[1]? = some (.cells 32 ((ie (iA o)).map bF)) :=av3 (eu fA);simp[fA,fF,ef,ve,mS,avO];exact aL (by rw[if_pos aD,aD]) (by simp[U.closed,bd,lS bF (fun _=>rfl)])
 ·have Vf:=aoG o ap aD;rw[<-e6] at Vf ej ⊢;simp[uV,avO];refine a6 Vf (by simp[bd,U.closed,ej]) ?_;simp[aD,fF,aw];exact aL rfl (by simp only[U.closed,bd,lS bF (fun _=>rfl),axP])
end Op

end Go.cb

namespace Go.cb
open Go Go.Proofs Go.RowKit
set_option maxRecDepth 100000
namespace Op
open gT
theorem aaj {P:Program} {t:TypeId} {ts:List TypeId} {cs:List U} (aN:P.underlying t=some .string) (h:eo P (t::ts) cs) :∃ s cs',cs=.str s::cs'/\eo P ts cs':=by
 cases h
 case str s cs' ak qT h=>exact⟨_,_,rfl,h⟩
 all_goals (exfalso; simp_all; done)
theorem aal {ts:List TypeId} {cs:List U} (h:eo Tryz.prog (5::ts) cs) :∃ (x:B) (cs' : List U),cs=bF x::cs'/\eo Tryz.prog ts cs':=by
 obtain⟨k,wD,rfl,h1,ad,aj⟩:=zP (k:=.u8) (by kernel_rfl) h;have aX:(0:Int)<=k:=h1;have bw:k<=255:=ad;refine⟨BitVec.ofNat 8 k.toNat,wD,?_,aj⟩;have:((BitVec.ofNat 8 k.toNat).toNat:Int)=k:=by
  rw[awc,av4 (by omega)]; omega
 simp[bF,u]; omega
theorem aoe {ts:List TypeId} {cs:List U} (h:eo Tryz.prog (48::ts) cs) :∃ (x:List B) (cs' : List U),cs=x.map bF++cs'/\x.length=32/\eo Tryz.prog ts cs':=by
 have h1:=aod (e:=5) (n:=32) (by kernel_rfl) h;exact aah (by kernel_rfl) 32 h1
theorem aai {ts:List TypeId} {cs:List U} (h:eo Tryz.prog (22::ts) cs) :∃ (s:ez) (cs' : List U),cs=aK s::cs'/\gv s/\eo Tryz.prog ts cs':=by
 obtain⟨s,cs',rfl,_,h1,ad⟩:=Ps (e:=48) (z:=32) (enc:=aO) (Q:=fun x=>x.length=32) (by kernel_rfl) (by kernel_rfl) (fun r az=>by
  obtain⟨x,cs',rfl,af,aj⟩:=aoe az;rw[Jg aj,awp];exact⟨x,rfl,af⟩) h
 exact⟨s,cs',rfl,h1,ad⟩
theorem Pt {ts:List TypeId} {cs:List U} (h:eo Tryz.prog (76::ts) cs) :∃ (x:D) (cs' : List U),cs=bD x::cs'/\eo Tryz.prog ts cs':=by
 obtain⟨k,wD,rfl,h1,ad,aj⟩:=zP (k:=.u32) (by kernel_rfl) h;have aX:(0:Int)<=k:=h1;have bw:k<=4294967295:=ad;refine⟨BitVec.ofNat 32 k.toNat,wD,?_,aj⟩;have:((BitVec.ofNat 32 k.toNat).toNat:Int)=k:=by
  rw[awc,av4 (by omega)]; omega
 simp[bD,u]; omega
structure JJ (o:bm) :Prop where
 ids:gv o.br
 mj:-9223372036854775808<=o.act.val.num
 o5:o.act.val.num<9223372036854775808
theorem aoh {ts:List TypeId} {cs:List U} (h:eo Tryz.prog (42::ts) cs) :∃ (v:hY) (cs' : List U),cs=[bF v.kind,.int .i64 v.num,dq v.bits,.str v.text]++cs'/\(-9223372036854775808<=v.num/\v.num<9223372036854775808)/\eo Tryz.prog ts cs':=by
 have h1:=Fo (fs:=[5,2,40,9]) (by kernel_rfl) h;obtain⟨k,_,rfl,ad⟩:=aal h1;obtain⟨n,_,rfl,rT,oX,aj⟩:=zP (k:=.i64) (by kernel_rfl) ad;obtain⟨b,_,rfl,aE⟩:=aak aj;obtain⟨s,_,rfl,aX⟩:=aaj (by kernel_rfl) aE;have bw:n<=9223372036854775807:=oX;exact⟨⟨k,n,b,s⟩,_,rfl,⟨rT,by show n<9223372036854775808; omega⟩,aX⟩
theorem aoc {ts:List TypeId} {cs:List U} (h:eo Tryz.prog (78::ts) cs) :∃ (a:Act) (cs' : List U),cs=[bF a.kind,.str a.key,bF a.val.kind,.int .i64 a.val.num,dq a.val.bits,.str a.val.text]++cs'/\(-9223372036854775808<=a.val.num/\a.val.num<9223372036854775808)/\eo Tryz.prog ts cs':=by
 have h1:=Fo (fs:=[5,9,42]) (by kernel_rfl) h;obtain⟨k,_,rfl,ad⟩:=aal h1;obtain⟨s,_,rfl,aj⟩:=aaj (by kernel_rfl) ad;obtain⟨v,_,rfl,au,aE⟩:=aoh aj;exact⟨⟨k,s,v⟩,_,rfl,au,aE⟩
theorem aof {ts:List TypeId} {cs:List U} (h:eo Tryz.prog (82::ts) cs) :∃ (o:bm) (cs' : List U),cs=a2 o++cs'/\JJ o/\eo Tryz.prog ts cs':=by
 have h1:=Fo (fs:=[76,22,40,78,80]) (by kernel_rfl) h;obtain⟨a,_,rfl,ad⟩:=Pt h1;obtain⟨p,_,rfl,ay,aj⟩:=aai ad;obtain⟨n,_,rfl,aE⟩:=aak aj;obtain⟨c,_,rfl,ah,aX⟩:=aoc aE;have bw:=Fo (fs:=[76,76]) (by kernel_rfl) aX;obtain⟨x,_,rfl,c5⟩:=Pt bw;obtain⟨y,cs',rfl,dZ⟩:=Pt c5;exact⟨⟨a,p,n,c,x,y⟩,cs',by simp[a2],⟨ay,ah.1,ah.2⟩,dZ⟩
end Op

end Go.cb

namespace Go.cb
open Go Go.Proofs
set_option maxRecDepth 100000
open gT Op
def BK (a n:Nat) :Nat->Nat
 | 0=>1
 | k+1=>match Nat.beq (n / 2 ^ (63 - k) % 2) 1 with
  | true=>((BK a n k) ^ 2 % 1000000007)*a % 1000000007
  | false=>(BK a n k) ^ 2 % 1000000007
theorem N7 (a n:Nat) (aC:n<2 ^ 64) :∀ k,k<=64->BK a n k=fX a (n / 2 ^ (64 - k))
 | 0,_=>by
  have:n / 2 ^ (64 - 0)=0:=ayR aC;rw[this]; rfl
 | k+1,hk=>by
  have aJ:=N7 a n aC k (by omega);have ag:=UV n k (by omega);have e:64 - (k+1)=63 - k:=by omega
  rw[e];unfold BK;rw[aJ,Nat.pow_two,Yn];split
  ·rename_i h;have h1:=awK h;rw[Yl,ag,h1]
  ·rename_i h;have h1:n / 2 ^ (63 - k) % 2≠1:=fun aG=>by rw[aG] at h; cases h
   rw[ag];congr 1; omega
def Yk:List U->Option U
 | [.int .u32 x,.int .u64 n]=>match decide (0<=x)&&(decide (x<4294967296)&&(decide (0<=n)&&decide (n<18446744073709551616))) with
  | true=>some (.int .u32 ((BK x.toNat n.toNat 64:Nat) :Int))
  | false=>none
 | _=>none
abbrev N9:FuncId × Bool × (List U->Option U) :=(241,false,Yk)
theorem Yo:uo Tryz.prog GS N9:=by
 intro args r h;refine⟨?_,fun h=>by cases h⟩;simp only[Yk] at h;split at h
 ·rename_i x n;split at h
  ·rename_i ah;cases h;simp only[avU,decide_eq_true_eq] at ah;obtain⟨h1,ad,aj,aE⟩:=ah;have af:(U.int .u32 x)=bD (BitVec.ofNat 32 x.toNat) :=by
    have:((BitVec.ofNat 32 x.toNat).toNat:Int)=x:=by
     rw[awc,av4 (by omega)]; omega
    simp[bD,u]; omega
   have aC:(U.int .u64 n)=dq (BitVec.ofNat 64 n.toNat) :=by
    have:((BitVec.ofNat 64 n.toNat).toNat:Int)=n:=by
     rw[awc,av4 (by omega)]; omega
    simp[dq,u]; omega
   have ay:=IG (BitVec.ofNat 32 x.toNat) (BitVec.ofNat 64 n.toNat);have az:bD (g6 (BitVec.ofNat 32 x.toNat) (BitVec.ofNat 64 n.toNat).toNat)=.int .u32 ((BK x.toNat n.toNat 64:Nat) :Int) :=by
    have aR:(BitVec.ofNat 32 x.toNat).toNat=x.toNat:=by rw[awc,av4 (by omega)]
    have bJ:(BitVec.ofNat 64 n.toNat).toNat=n.toNat:=by rw[awc,av4 (by omega)]
    show U.int .u32 (u _)=_;unfold u;rw[sn,aR,bJ,N7 _ _ (by omega) 64 (avR _)];simp
   rw[af,aC,<-az];exact ay
  ·cases h
 ·cases h
def Ia:List (List U)->Option (List fa)
 | []=>some []
 | [c] ::r=>match CC c with
  | some s=>match Nat.ble s.l.length 10000 with
   | true=>match Ia r with | some l=>some (s::l) | none=>none
   | false=>none
  | none=>none
 | _=>none
theorem Xp:∀ {es:List (List U)} {l:List fa},Ia es=some l->(es=l.map fun s=>[cS s])/\∀ s∈l,s.l.length<=10000
 | [],l,h=>by cases h; exact⟨rfl,fun s ak=>by cases ak⟩
 | e::r,l,h=>by
  unfold Ia at h;split at h
  ·rename_i aR; cases aR
  ·rename_i c ct aR;cases aR;split at h
   ·rename_i s ak;split at h
    ·rename_i ag;split at h
     ·rename_i l' al;cases h;obtain⟨h1,ad⟩:=Xp al;refine⟨by rw[J8 ak,h1]; rfl,fun x af=>?_⟩;rcases awA.1 af with aj | aj
      ·rw[aj]; exact awU ag
      ·exact ad x aj
     ·cases h
    ·cases h
   ·cases h
  ·cases h
def Ya:List U->Option U
 | [.bQ 1 es]=>match Ia es with
  | some ls=>match Nat.ble ls.length 20 with
   | true=>some (.bG [fF (ie (bytesOf ls)),.int .i64 0])
   | false=>none
  | none=>none
 | _=>none
abbrev N3:FuncId × Bool × (List U->Option U) :=(196,false,Ya)
theorem Yb:uo Tryz.prog GS N3:=by
 intro args r h;refine⟨?_,fun h=>by cases h⟩;simp only[Ya] at h;split at h
 ·split at h
  ·rename_i es ls jK;split at h
   ·rename_i aC;cases h;obtain⟨h1,ad⟩:=Xp jK;rw[h1];exact N4 ls (awU aC) ad
   ·cases h
  ·cases h
 ·cases h
end Go.cb

namespace Go.cb
open Go Go.Proofs
set_option maxRecDepth 100000
namespace Op
open gT
section
variable {α:Type} {z:Nat} {enc:α->List U}
theorem akR {l:am} {v:U} {j k:Nat} {bh:List α} {zr:List U} (tu:zr.length=z) (h:bH z l v j (bh.map enc)) (hk:k<bh.length) :
  ∃ v3 fr r,fG (.ar z) v (some (.int .i64 (k:Int))) none none=some v3/\sV zr l v3=some fr/\fG (.ar z) v none (some (.int .i64 (k:Int))) none=some r ∧
   bH z fr r j ((bh.take k).map enc)/\cw r=false/\fr.length=l.length/\∀ b,b≠j->fr[b]? = l[b]?:=by
 generalize ao:bh.map enc=es at h;cases h with
 | nil j=>rw[aw3] at ao; subst ao; simp at hk
 | ar j n cap sz cs es ag al aC aw ah db cd=>
  subst ao;have tk:bh.length=n:=by simpa using aC
  have gY:j0 (.int .i64 (k:Int)) n=some k:=by
   show (if 0<=(k:Int)/\(k:Int)<=(n:Int) then some (k:Int).toNat else none)=some k;rw[if_pos ⟨by omega,by omega⟩]; simp
  have gb:j0 (.int .i64 (k:Int)) cap=some k:=by
   show (if 0<=(k:Int)/\(k:Int)<=(cap:Int) then some (k:Int).toNat else none)=some k;rw[if_pos ⟨by omega,by omega⟩]; simp
  have de:gW n cap (some (.int .i64 (k:Int))) none none=some (k,n,cap) :=by
   show (match j0 (.int .i64 (k:Int)) n with | none=>none | some l=>some (l,n,cap))=_;rw[gY]
  have df:gW n cap none (some (.int .i64 (k:Int))) none=some (0,k,cap) :=by
   show (match j0 (.int .i64 (k:Int)) cap with | none=>none | some h=>some (0,h,cap))=_;rw[gb]
  have c0:¬ cap=k:=by omega
  have AP:¬ cap=0:=by omega
  have e7:j<l.length:=eu ag;have go:k*z<=n*z:=avX _ (by omega);have kB:n*z<=cap*z:=avX _ ah;have mb:(dN zr (n - k)).length=(n - k)*z:=by rw[BS,tu]
  have ahg:k*z+(n - k)*z=n*z:=by rw[<-awJ]; congr 1; omega
  refine⟨.ar z j (k*z) (n - k) (cap - k) sz,l.set j (.cells sz (bt cs (k*z) (dN zr (n - k)))),.ar z j 0 k cap sz,?_,?_,?_,?_,rfl,by simp,fun b gZ=>by rw[av0 (fun h=>gZ h.symm)]⟩
  ·rw[zJ,de]; simp[c0]
  ·unfold sV;simp only;rw[if_neg (by omega)];simp[ag,tu]
  ·rw[zJ,df]; simp[AP]
  ·refine .ar j k cap sz _ _ (av3 e7) (by rw[sv (by omega),mb]; omega) (by simp; omega) (fun e ao=>?_) (by omega) db ?_
   ·obtain⟨y,ax,rfl⟩:=awf.1 ao;exact aw _ (axj (awh ax))
   ·unfold bt;rw[awo,awg (by rw[av1]; omega),axd,Nat.min_self];have aR:cs.take (k*z)=(cs.take (n*z)).take (k*z) :=by rw[axd,awQ go]
    have bJ:bh.map enc=(bh.take k).map enc++(bh.drop k).map enc:=by rw[<-awm,awy]
    have dF:((bh.take k).map enc).flatten.length=k*z:=by
     rw[mC (z:=z) (fun e ao=>by obtain⟨y,ax,rfl⟩:=awf.1 ao; exact aw _ (axj (awh ax)))];rw[av8,av1,awQ (by omega)]
    rw[aR,cd,bJ,awC,awg (by omega),avO (by omega)]
theorem X1 {bh:List α} (aw:∀ y∈bh,(enc y).length=z) (k:Nat) (hk:k<=bh.length) {n:Nat} (aC:bh.length=n) {cs:List U} (cd:cs.take (n*z)=(bh.map enc).flatten) (al:n*z<=cs.length) :
  cs.take (k*z)=((bh.take k).map enc).flatten/\(cs.drop (k*z)).take (n*z - k*z)=((bh.drop k).map enc).flatten:=by
 have go:k*z<=n*z:=avX _ (by omega);have bJ:bh.map enc=(bh.take k).map enc++(bh.drop k).map enc:=by rw[<-awm,awy]
 have dF:((bh.take k).map enc).flatten.length=k*z:=by
  rw[mC (z:=z) (fun e ao=>by obtain⟨y,ax,rfl⟩:=awf.1 ao; exact aw _ (awh ax))];rw[av8,av1,awQ (by omega)]
 have aR:cs.take (k*z)=(cs.take (n*z)).take (k*z) :=by rw[axd,awQ go]
 constructor
 ·rw[aR,cd,bJ,awC,awg (by omega),avO (by omega)]
 ·rw[<-ayh,cd,bJ,awC,awE (by omega),aw1 (by omega),awI]
theorem Iy {l:am} {v:U} {j k:Nat} {bh:List α} {x:α} {X:U} (cv:X.cells=some (enc x)) (h:bH z l v j (bh.map enc)) (aw:∀ y∈bh,(enc y).length=z) (hk:k<bh.length) (af:(enc x).length=z) :
  ∃ p l',ck (.ar z) v (.int .i64 (k:Int))=some p/\kH z l p (X)=some l'/\bH z l' v j ((bh.set k x).map enc)/\l'.length=l.length/\∀ b,b≠j->l'[b]? = l[b]?:=by
 generalize ao:bh.map enc=es at h;cases h with
 | nil j=>rw[aw3] at ao; subst ao; simp at hk
 | ar j n cap sz cs es ag al aC iH ah db cd=>
  subst ao;have tk:bh.length=n:=by simpa using aC
  have e7:j<l.length:=eu ag;have bf:=af;have go:(k+1)*z<=n*z:=avX _ (by omega);have kB:n*z<=cap*z:=avX _ ah;have ak:(k+1)*z=k*z+z:=by rw[awD]
  obtain⟨f1,_⟩:=X1 aw k (by omega) tk cd (by omega);obtain⟨_,f2⟩:=X1 aw (k+1) (by omega) tk cd (by omega);refine⟨.ptr j (k*z) sz,l.set j (.cells sz (bt cs (k*z) (enc x))),?_,?_,?_,by simp,fun b gZ=>by rw[av0 (fun h=>gZ h.symm)]⟩
  ·simp[ck]; omega
  ·unfold kH;simp[ag,cv,bf];omega
  ·refine .ar j n cap sz _ _ (av3 e7) (by rw[sv (by omega),bf]; omega) (by simp; omega) (fun e ao=>?_) ah db ?_
   ·obtain⟨y,ax,rfl⟩:=awf.1 ao;rcases axl ax with h | h
    ·exact aw _ h
    ·rw[h]; exact bf
   ·have mS:bh.set k x=bh.take k++(x::bh.drop (k+1)) :=by rw[axt,if_pos hk]
    rw[mS,awm,awn,awC,awT,<-f1,<-f2];unfold bt;have t1:(cs.take (k*z)).length=k*z:=by rw[av1]; omega
    have iK:(cs.take (k*z)).take (n*z)=cs.take (k*z) :=avO (by rw[t1]; omega);have kJ:(enc x).take (n*z - k*z)=enc x:=avO (by rw[bf]; omega);rw[awo,bf,<-ak,axN,t1,iK,axN,kJ,bf,show n*z - k*z - z=n*z - (k+1)*z by omega]
end

end Op

end Go.cb

namespace Go.cb
open Go Go.Proofs
set_option maxRecDepth 100000
namespace Op
theorem C7 {α:Type} {enc:α->List U} {z:Nat} {a:List α} (h:∀ x∈a,(enc x).length=z) :(a.map enc).flatten.length=a.length*z:=by
 rw[mC (z:=z) (fun e ao=>by obtain⟨y,ax,rfl⟩:=awf.1 ao; exact h y ax),av8]
theorem Qg {α:Type} {enc:α->List U} {z by_:Nat} (l:am) (s:cQ α) (h:∀ x∈s.l,(enc x).length=z) (aD:z≠0) (ag:by_≠0) (az:s.l.length*by_<=cy) :
  gx (l++[a7.cells 0 []]) z by_ (.ar z l.length 0 0 0 0) (cB z enc s)=some (.ar z l.length 0 s.l.length s.l.length (s.l.length*z),l++[.cells (s.l.length*z) (s.l.map enc).flatten]) :=by
 have fc:=C7 h;unfold gx;rw[uG];simp only[];unfold hJ;by_cases aw:s.l.length=0
 ·have aD:s.l=[] :=awt.1 aw;rw[aD];simp
 ·rw[if_neg aw,if_neg (by omega)];have bI:¬ s.l=[] :=fun h=>aw (by rw[h]; rfl)
  simp[az,aD,aw,bI]
theorem EN {α:Type} {enc:α->List U} {z:Nat} {l:am} {b n:Nat} {a:List α} (aA:∀ x∈a,(enc x).length=z) (aC:a.length=n) (ag:l[b]? = some (.cells (n*z) (a.map enc).flatten)) :bH z l (.ar z b 0 n n (n*z)) b (a.map enc) :=by
 have fc:=C7 aA;refine .ar b n n (n*z) _ _ ag (by rw[fc,aC]) (by simp[aC]) (fun e ao=>?_) (avR _) (avR _) ?_
 ·obtain⟨y,ax,rfl⟩:=awf.1 ao; exact aA y ax
 ·rw[avO (by rw[fc,aC]; omega)]
end Op

end Go.cb

namespace Go.cb
open Go Go.Proofs
set_option maxRecDepth 100000
namespace Op
open gT
theorem abH {l:List D} {k:Nat} {x:D} (h:l[k]? = some x) (ay:(l.take k).all gD=true) :(l.take (k+1)).all gD=gD x:=by
 rw[av7,h,List.all_append,ay]; simp
theorem abF {l:List D} {k:Nat} {x:D} (h:l[k]? = some x) (af:gD x=false) :l.all gD=false:=by
 cases aG:l.all gD with
 | false=>rfl
 | true=>rw[awG.1 aG x (avY h)] at af; cases af
structure aaP (l:List D) (k:Nat) (ae:bg) (h:am) :Prop where
 bi:ae 5=cB 1 e5 (some l)
 b8:ae 6=.int .i64 l.length
 dk:ae 7=.int .i64 k
 ay:(l.take k).all gD=true
theorem Uj (l:List D) (al:l.length<=1000) :bz Tryz.prog GS 244 [cB 1 e5 (some l)] (.bool (l.all gD)) :=by
 refine bL Tryz.checked.mixed bE ?_;apply bp Tryz.func244 [];have bn:cK (.ar 1) (cB 1 e5 (some l))=some (.int .i64 l.length) :=q0 _;simp[bn];refine cI l.length (aaP l) ?_ ⟨by simp,by simp,by simp,by simp⟩;rintro k ae h hk ⟨bi,b8,dk,ay⟩;obtain⟨ae,rfl⟩:=kj bi b8 dk;clear bi b8 dk;by_cases h:k<l.length
 ·obtain⟨x,af,_⟩:=bx h;have bN:ck (.ar 1) (cB 1 e5 (some l)) (.int .i64 k)=some (.b3 (e5 x) 0) :=by rw[r1]; simp[af]
  have fB:IntKind.i64.wrap ((k:Int)+1)=(k+1:Nat) :=wrap_i64 (by omega) (by omega);simp[h,bN,e5];refine a6 (Nd x) rfl ?_;cases aq:gD x with
  | false=>
   have:=abF af aq;simp;exact aL (by rw[this]) rfl
  | true=>
   simp[fB];exact⟨by omega,by simp,by simp,by simp,by rw[abH af ay]; exact aq⟩
 ·have fe:k=l.length:=by omega
  subst fe;rw[awi] at ay;simp;exact aL (by rw[ay]) rfl
theorem alX {l:am} {b:Nat} {x:D} (h:l[b]? = some (.cells 1 [bD x])) :gh (bW l) (.ar 1 b 0 1 1 1) (cB 1 e5 (some [x])) :=by
 refine EZ (rest:=[]) (es:=[[bD x]]) (by simpa using h) rfl (by simp) (by simp[bd,U.closed])
def ET (a b:D) :D:=BitVec.ofNat 32 (a.toNat*b.toNat % 1000000007)
theorem aeA (a b:D) :bz Tryz.prog GS 204 [bD a,bD b] (.bG [bD (if gD a&&gD b then ET a b else 0#32),.int .i64 (if gD a&&gD b then 0 else 2)]) :=by
 refine bL Tryz.checked.mixed bE ?_;apply bp Tryz.func204 [];simp;refine iB (Uj [a,b] (by simp)) (.cons (E0 (by simp)) .nil) rfl ?_;cases aA:gD a with
 | false=>
  simp[aA];exact aL rfl rfl
 | true=>
  cases ag:gD b with
  | false=>
   simp[aA,ag];exact aL rfl rfl
  | true=>
   have aM:a.toNat<1000000007:=by unfold gD at aA; simp at aA; exact aA.1.2
   simp[aA,ag];refine iB (NI [a,b] (by simp)) (.cons (.same _ rfl) (.cons (E0 (by simp)) .nil)) rfl ?_;simp[NH a b aM];exact aL rfl rfl
theorem aeB (a:D) (n:Q) :bz Tryz.prog GS 203 [bD a,dq n] (.bG [bD (if gD a then g6 a n.toNat else 0#32),.int .i64 (if gD a then 0 else 2)]) :=by
 refine bL Tryz.checked.mixed bE ?_;apply bp Tryz.func203 [];simp;refine iB (Uj [a] (by simp)) (.cons (alX (by simp)) .nil) rfl ?_;cases aA:gD a with
 | false=>
  simp[aA];exact aL rfl rfl
 | true=>
  simp[aA];refine a6 (IG a n) rfl ?_;simp;exact aL rfl rfl
theorem aez (n:Q) :bz Tryz.prog GS 205 [dq n] (bD (g6 4#32 n.toNat)) :=by
 refine bL Tryz.checked.mixed bE ?_;apply bp Tryz.func205 [];simp;refine a6 (IG 4#32 n) rfl ?_;simp;exact aL rfl rfl
theorem Oi (a:D) (n:Q) :bz Tryz.prog GS 177 [bD a,dq n] (bD (g6 a n.toNat)) :=by
 refine bL Tryz.checked.mixed bE ?_;apply bp Tryz.func177 [];have aX:(a.setWidth 64:Q).toNat=a.toNat:=by rw[av9]; omega
 have bw:=zD a.toNat n.toNat
 have c5:(BitVec.ofNat 64 (fX a.toNat n.toNat)).setWidth 32=g6 a n.toNat:=by
  apply av6;rw[sn,av9,awc];omega
 have ay:=Yp (a.setWidth 64) n (by rw[aX]; exact a.isLt);rw[aX] at ay;simp;refine a6 ay rfl ?_;simp[c5];exact aL rfl rfl
theorem alp (n:Q) :bz Tryz.prog GS 166 [dq n] (bD (g6 4#32 n.toNat)) :=by
 refine bL Tryz.checked.mixed bE ?_;apply bp Tryz.func166 [];simp;refine a6 (Oi 4#32 n) rfl ?_;simp;exact aL rfl rfl
theorem alv (a:D) :bz Tryz.prog GS 176 [bD a] (.bG [bD (if gD a then g6 a 500000002 else 0#32),.int .i64 (if gD a then 0 else 2)]) :=by
 refine bL Tryz.checked.mixed bE ?_;apply bp Tryz.func176 [];simp;refine a6 (YX a) rfl ?_;cases aA:gD a with
 | false=>
  simp;exact aL rfl rfl
 | true=>
  simp;refine a6 (Oi a 500000002#64) rfl ?_;simp;exact aL rfl rfl
theorem alE (a b:D) :bz Tryz.prog GS 178 [bD a,bD b] (bD (ET a b)) :=by
 refine bL Tryz.checked.mixed bE ?_;apply bp Tryz.func178 [];have aX:∀ a:D,(a.setWidth 64:Q).toNat=a.toNat:=fun a=>by rw[av9]; omega
 have c5:((a.setWidth 64:Q)*b.setWidth 64 % 1000000007#64).setWidth 32=ET a b:=by
  apply av6;rw[av9,Bz _ _ (by rw[aX]; exact a.isLt) (by rw[aX]; exact b.isLt),aX,aX];unfold ET;rw[awc]
 simp[IU,c5];exact aL rfl rfl
def we (l:List B) :Q:=l.foldl (fun n x=>(n <<< 8) ||| x.setWidth 64) 0#64
theorem Qz (l:List B) (k:Nat) (x:B) (h:l[k]? = some x) :we (l.take (k+1))=(we (l.take k) <<< 8) ||| x.setWidth 64:=by
 rw[av7,h]; simp[we,ayi]
theorem amP (a:Q) (x:B) :(a <<< 8) ||| x.setWidth 64=256#64*a+x.setWidth 64:=by
 apply av6;have af:x.toNat<256:=x.isLt;have aA:=a.isLt;rw[BitVec.toNat_or,axV,ayQ,axM,av9];have h1:x.toNat % 2 ^ 64=x.toNat:=av4 (by omega);have ad:a.toNat <<< 8 % 2 ^ 64=(a.toNat % 2 ^ 56) <<< 8:=by rw[axw,axw]; omega
 have aj:=ayx (b:=x.toNat) (i:=8) (by omega) (a.toNat % 2 ^ 56);rw[h1,ad,<-aj,axw];have aE:(256#64).toNat=256:=rfl;rw[aE];omega
def jB (n:D) :List B:=[(n >>> 24).setWidth 8,(n >>> 16).setWidth 8,(n >>> 8).setWidth 8,n.setWidth 8]
def mD (l:List D) :List B:=l.flatMap jB
theorem aeq {l:List D} {k:Nat} {x:D} (h:l[k]? = some x) :mD (l.take (k+1))=mD (l.take k)++jB x:=by
 unfold mD; rw[av7,h,axB]; simp
theorem T1 (l:List D) :(mD l).length=4*l.length:=by
 induction l with
 | nil=>rfl
 | cons x l aJ=>unfold mD at aJ ⊢; rw[List.flatMap_cons,avW,aJ,awa]; simp[jB]; omega
def Dy (b:List B) :Q:=we ((ie b).take 8)
theorem alY {l:am} {b:Nat} {v m aZ cF:U} (h:l[b]? = some (.cells 2 [v,m])) (h1:gh (bW l) v aZ) (ad:gh (bW l) m cF) :gh (bW l) (.ar 1 b 0 2 2 2) (.bQ 1 [[aZ],[cF]]) :=by
 refine .ar 1 b 0 2 2 2 [v,m] [[aZ],[cF]] (ln.2 h) rfl (by simp) (by simp) (fun i j e c c' ao ai ah=>?_);rcases i with _ | _ | i
 ·simp at ao; subst ao;rcases j with _ | j
  ·simp at ai ah; subst ai ah; exact h1
  ·simp at ai
 ·simp at ao; subst ao;rcases j with _ | j
  ·simp at ai ah; subst ai ah; exact ad
  ·simp at ai
 ·simp at ao
theorem amX {b:Nat}:fG (.arr 32 1) (.ptr b 0 32) none (some (.int .i64 8)) none=some (.ar 1 b 0 8 32 32) :=by
 have:gW 32 32 none (some (.int .i64 8)) none=some (0,8,32) :=rfl;simp only[fG,this]; rfl
structure aa4 (g3:B) (m:fa) (eL:List D) (k:Nat) (ae:bg) (l:am) :Prop where
 aP:ae 1=cS m
 uL:ae 21=cB 1 e5 (some eL)
 KN:ae 22=.int .i64 eL.length
 AF:ae 23=.int .i64 k
 ex:∃ v,ae 8=v/\cu 1 ch [] l v (g3::mD (eL.take k)) false
structure aaQ (d:List B) (e:Int) (k:Nat) (ae:bg) (l:am) :Prop where
 gX:ae 12=.int .i64 e
 kx:ae 13=dq (we (d.take k))
 KQ:∃ b n,ae 49=.ar 1 b 0 8 n n/\l[b]? = some (.cells n (d.map bF))/\n=32
 KR:ae 50=.int .i64 8
 KS:ae 51=.int .i64 k
set_option maxHeartbeats 1000000 in
theorem afR (g3:B) (m:fa) (hm:m.l.length<=9991) (eL:List D) (al:eL.length<=10) :bz Tryz.prog GS 246 [bF g3,cS m,cB 1 e5 (some eL)] (.bG [dq (Dy (g3::(mD eL++m.l))),.int .i64 0]) :=by
 refine bL Tryz.checked.mixed bE ?_;apply bp Tryz.func246 [];have az:cy=140737488355328:=rfl;have bn:cK (.ar 1) (cS m)=some (.int .i64 m.l.length) :=q0 _;have ahb:cK (.ar 1) (cB 1 e5 (some eL))=some (.int .i64 eL.length) :=q0 _;have eP:¬ (9991:Int)<(m.l.length:Int) :=by omega
 have rH:¬ 9991<m.l.length:=by omega
 have fp:=m9 m;simp[bn,ahb,eP,rH];refine cI eL.length (aa4 g3 m eL) ?_ ⟨by simp,by simp,by simp,by simp,_,rfl,⟨0,pQ (n:=1) (a:=[g3]) rfl rfl,by simp,by simp,.inr (by simp),rfl⟩⟩;rintro k ae l hk ⟨aP,uL,KN,AF,v,dj,e8⟩;obtain⟨ae,rfl⟩:=lj aP dj uL KN AF;clear aP dj uL KN AF;by_cases h:k<eL.length
 ·obtain⟨x,af,_⟩:=bx h;have bN:ck (.ar 1) (cB 1 e5 (some eL)) (.int .i64 k)=some (.b3 (e5 x) 0) :=by rw[r1]; simp[af]
  have fB:IntKind.i64.wrap ((k:Int)+1)=(k+1:Nat) :=wrap_i64 (by omega) (by omega);have ak:=aeq af;have fc:=T1 (eL.take k);rw[av1] at fc;obtain⟨aZ,l',aV,a1,a3⟩:=(e8.more [a7.cells 4 ((jB x).map bF)]).app (by_:=1) (x:=.ar 1 l.length 0 4 4 4) (xs:=jB x) (by rw[yk]; simp[dE,jB]) (fun y _=>rfl) (by omega) (by omega) (by rw[az]; simp[jB]; omega);rw[show (jB x).map bF=[.int .u8 (u (BitVec.setWidth 8 (x >>> 24))),.int .u8 (u (BitVec.setWidth 8 (x >>> 16))),.int .u8 (u (BitVec.setWidth 8 (x >>> 8))),.int .u8 (u (BitVec.setWidth 8 x))] from rfl] at aV;simp[h,bN,e5,fB,aV];refine dp.cx ?_;simp[fB];exact⟨by omega,by simp,by simp,by simp,by simp,aZ,by simp,by rw[ak,<-awN]; exact a1⟩
 ·have fe:k=eL.length:=by omega
  subst fe;rw[awi] at e8;have fc:=T1 eL;have ay:=N4 [some (g3::mD eL),m] (by simp) (fun s ak=>by
   rcases awA.1 ak with h | h
   ·rw[h]; show (g3::mD eL).length<=_; simp; omega
   ·rw[awd.1 h]; omega)
  have ea:bytesOf [some (g3::mD eL),m]=g3::(mD eL++m.l) :=by simp[bytesOf]
  rw[ea] at ay;have iV:=e8.cells;have A6:(cS m).cells=some [cS m] :=by cases m<;>rfl
  obtain⟨i8,yI⟩:∃ i8,i8=ie (g3::(mD eL++m.l)) :=⟨_,rfl⟩
  have tf:i8.length=32:=by rw[yI]; exact vJ _
  rw[<-yI] at ay;have LN:(i8.map bF).length=32:=by simp[tf]
  have LY:fF i8=.aH (i8.map bF) :=rfl;rw[LY] at ay;have rW:bt (rep 32 (.int .u8 0)) 0 (i8.map bF)=i8.map bF:=eM (by rw[LN]; rfl);have ef:∀ b,fG (.arr 32 1) (.ptr b 0 32) none (some (.int .i64 8)) none=some (.ar 1 b 0 8 32 32) :=fun b=>amX (b:=b)
  simp[iV,A6];refine iB ay (.cons (alY (by simp) ((e8.more _).sq (fun _=>rfl) (some (g3::mD eL)) rfl rfl) (.same _ fp)) .nil) (by simp[U.flat,mB,fF,AC bF (fun _=>rfl)]) ?_;simp[tf,rW,ef];refine cI 8 (aaQ i8 0) ?_ ⟨by simp,by simp[we],⟨l.length+1,32,by simp,by simp[List.getElem?_append],rfl⟩,by simp,by simp⟩;clear e8;rintro k ae l hk ⟨gX,kx,⟨b,n,KQ,ag,rfl⟩,KR,KS⟩;obtain⟨ae,rfl⟩:=lj gX kx KQ KR KS;clear gX kx KQ KR KS;by_cases h:k<8
  ·obtain⟨x,af,_⟩:=bx (l:=i8) (k:=k) (by omega);have fB:IntKind.i64.wrap ((k:Int)+1)=(k+1:Nat) :=wrap_i64 (by omega) (by omega);have ak:=Qz i8 k x af;have fe:(k:Int)<8:=by omega
   have ass:(i8.map bF)[k]? = some (bF x) :=by rw[avV,af]; rfl
   simp[h,fe,ag,fB,af];exact⟨by simp,by simp[ak],⟨b,32,by simp,by simpa using ag,rfl⟩,by simp,by simp⟩
  ·have iu:k=8:=by omega
   subst iu;simp;exact aL (by unfold Dy; rw[yI]) rfl
def CI (r y:D) (m:List B) :D:=(Dy (99#8::(mD [r,y]++m)) % 500000003#64).setWidth 32
theorem Y3 (x:Q) :cD .rem .u64 (u x) .u64 500000003=some (.int .u64 (u (x % 500000003#64))) :=Ai x 500000003#64 (by decide)
theorem aoF (r y:D) (m:fa) (hm:m.l.length<=9991) :bz Tryz.prog GS 206 [bD r,bD y,cS m] (.bG [bD (CI r y m.l),.int .i64 0]) :=by
 refine bL Tryz.checked.mixed bE ?_;apply bp Tryz.func206 [];have fp:=m9 m;simp;refine iB (afR 99#8 m hm [r,y] (by simp)) (.cons (.same _ rfl) (.cons (.same _ fp) (.cons (E0 (by simp)) .nil))) rfl ?_;simp[Y3];exact aL rfl rfl
theorem Oe (a b:D) (ag:b≠0#32) :cD .quo .u32 (u a) .u32 (u b)=some (.int .u32 (u (a / b))) :=by
 have bO:(b.toNat:Int)≠0:=fun e=>ag (av6 (by simpa using e))
 show (if IntKind.u32=IntKind.u32/\(b.toNat:Int)≠0 then some (U.int .u32 (IntKind.u32.wrap ((a.toNat:Int).tdiv b.toNat))) else none)=_;rw[if_pos ⟨rfl,bO⟩,B8];congr 2;have:((a.toNat:Int).tdiv b.toNat)=((a.toNat / b.toNat:Nat) :Int) :=rfl;rw[this,axh];congr 1;apply av6;rw[awc,axp];exact av4 (Nat.lt_of_le_of_lt (Nat.div_le_self _ _) a.isLt)
theorem T0 (x:D) {l:am} {K:U->am->Prop} (aY:∀ v l',cu 1 ch l l' v (jB x) false->K v l') :c7 Tryz.prog GS 223 [bD x] l (c:=⟨K⟩) :=by
 apply bp Tryz.func223 [];have q1:cD .quo .u32 (u x) .u32 16777216=some (.int .u32 (u (x / 16777216#32))) :=Oe x 16777216#32 (by decide);have ft:cD .quo .u32 (u x) .u32 65536=some (.int .u32 (u (x / 65536#32))) :=Oe x 65536#32 (by decide);have iY:cD .quo .u32 (u x) .u32 256=some (.int .u32 (u (x / 256#32))) :=Oe x 256#32 (by decide);have lJ:∀ y:D,cD .rem .u32 (u y) .u32 256=some (.int .u32 (u (y % 256#32))) :=fun y=>acj y 256#32 (by decide)
 have af:=x.isLt;have aR:BitVec.setWidth 8 (x / 16777216#32)=BitVec.setWidth 8 (x >>> 24) :=by
  apply av6;rw[av9,av9,axp,awH,awj];rfl
 have bJ:BitVec.setWidth 8 (x / 65536#32 % 256#32)=BitVec.setWidth 8 (x >>> 16) :=by
  apply av6;rw[av9,av9,aw8,axp,awH,awj];show x.toNat / 65536 % 256 % 256=x.toNat / 65536 % 256;omega
 have dF:BitVec.setWidth 8 (x / 256#32 % 256#32)=BitVec.setWidth 8 (x >>> 8) :=by
  apply av6;rw[av9,av9,aw8,axp,awH,awj];show x.toNat / 256 % 256 % 256=x.toNat / 256 % 256;omega
 have kP:BitVec.setWidth 8 (x % 256#32)=BitVec.setWidth 8 x:=by
  apply av6;rw[av9,av9,aw8];show x.toNat % 256 % 256=x.toNat % 256;omega
 simp[q1,ft,iY,lJ,aR,bJ,dF,kP];exact aY _ _ ⟨l.length,pQ (n:=4) (a:=jB x) rfl (by simp; rfl),by simp,fun b ag=>avQ ag,.inr (by simp),rfl⟩
structure abb (d:List B) (k:Nat) (ae:bg) (l:am) :Prop where
 a8:ae 3=.ptr 0 0 32
 bA:ae 4=dq (we (d.take k))
 bi:ae 5=.int .i64 k
 gw:l[0]? = some (.cells 32 (d.map bF))
theorem akq (s:fa) (ak:s.l.length<=1000000) :bz Tryz.prog GS 224 [cS s] (dq (Dy s.l)) :=by
 refine bL Tryz.checked.mixed bE ?_;apply bp Tryz.func224 [];have kY:=Oo s ak;have cd:=m9 s;obtain⟨i8,yI⟩:∃ i8,i8=ie s.l:=⟨_,rfl⟩
 have tf:i8.length=32:=by rw[yI]; exact vJ _
 rw[<-yI] at kY;have LY:fF i8=.aH (i8.map bF) :=rfl;rw[LY] at kY;have LN:(i8.map bF).length=32:=by simp[tf]
 have rW:bt (rep 32 (.int .u8 0)) 0 (i8.map bF)=i8.map bF:=eM (by rw[LN]; rfl);simp;refine a6 kY (by simp[bd,cd]) ?_;simp[tf,rW];refine cI 8 (abb i8) ?_ ⟨by simp,by simp[we],by simp,rfl⟩;rintro k ae l hk ⟨a8,bA,bi,gw⟩;obtain⟨ae,rfl⟩:=kj a8 bA bi;clear a8 bA bi;by_cases h:k<8
 ·obtain⟨x,af,_⟩:=bx (l:=i8) (k:=k) (by omega);have fB:IntKind.i64.wrap ((k:Int)+1)=(k+1:Nat) :=wrap_i64 (by omega) (by omega);have ak:=Qz i8 k x af;rw[amP] at ak;have fe:(k:Int)<8:=by omega
  have L4:k<32:=by omega
  simp[h,fe,L4,gw,fB,af];exact⟨by omega,by simp,by simp[ak],by simp,gw⟩
 ·have iu:k=8:=by omega
  subst iu;simp;exact aL (by unfold Dy; rw[yI]) rfl
theorem alr (r y:D) (m:fa) (hm:m.l.length<=900000) :bz Tryz.prog GS 168 [bD r,bD y,cS m] (bD (CI r y m.l)) :=by
 refine bL Tryz.checked.mixed bE ?_;apply bp Tryz.func168 [];have az:cy=140737488355328:=rfl;have fp:=m9 m;simp;refine T0 r fun fk l1 h1=>?_
 have Hs:=h1.le;have ahB:cu 1 ch [] l1 (.ar 1 0 0 1 1 1) [99#8] false:=⟨0,pQ (n:=1) (a:=[99#8]) rfl (by rw[h1.same 0 (by simp)]; rfl),by simp,by simp,.inr (by simp),rfl⟩
 obtain⟨dS,b1,aV,a1,a3⟩:=ahB.app (by_:=1) (x:=fk) (xs:=jB r) h1.contents (fun _ _=>rfl) (by omega) (by omega) (by rw[az]; simp[jB]);simp[aV];refine dp.cx ?_;simp;refine T0 y fun v3 fr aj=>?_
 have ahC:cu 1 ch [] fr dS ([99#8]++jB r) false:=a1.frame aj.le aj.same;obtain⟨v4,la,de,df,fw⟩:=ahC.app (by_:=1) (x:=v3) (xs:=jB y) aj.contents (fun _ _=>rfl) (by omega) (by omega) (by rw[az]; simp[jB]);simp[de];refine dp.cx ?_;obtain⟨v5,Nt,cZ,dJ,iQ⟩:=df.app (by_:=1) (x:=cS m) (xs:=m.l) (Tb _ _) (fun _ _=>rfl) (by omega) (by omega) (by rw[az]; simp[jB]; omega);simp[cZ];refine dp.cx ?_;have ag:(cQ.l (some ([99#8]++jB r++jB y++m.l)) :List B)=99#8::(mD [r,y]++m.l) :=by simp[mD]
 have V2:=akq (some ([99#8]++jB r++jB y++m.l)) (by rw[ag]; simp[mD,jB]; omega);rw[ag] at V2;simp;refine iB V2 (.cons (dJ.sq (fun _=>rfl) (some ([99#8]++jB r++jB y++m.l)) (by simp) rfl) .nil) rfl ?_;simp[Y3];exact aL rfl rfl
theorem IF (a n k:Nat) :fX (fX a n) k=fX a (n*k) :=by
 unfold fX; rw[<-ayC,<-Nat.pow_mul]
theorem Ym (n:Nat) :fX 1 n=1:=by unfold fX; rw[Nat.one_pow]
theorem ak3 (a m n:Nat) :fX a (m+n)=fX a m*fX a n % 1000000007:=by
 unfold fX; rw[ayB,ayl]
theorem ab2:fX 4 500000003=1:=by
 have h:=N7 4 500000003 (by decide) 64 (avR _);rw[show 500000003 / 2 ^ (64 - 64)=500000003 from rfl] at h;rw[<-h];decide +kernel
theorem Nf {y:D} (h:fX y.toNat 500000003=1) (n:Nat) :gD (g6 y n)=true:=by
 have au:=sn y n;have aM:=zD y.toNat n;have h1:fX (fX y.toNat n) 500000003=1:=by
  rw[IF,ayP,<-IF,h,Ym]
 have aD:fX y.toNat n≠0:=fun e=>by
  rw[e] at h1;have aw:∀ n,0<n->fX 0 n=0:=fun n aC=>by unfold fX; rw[Nat.zero_pow aC]
  rw[aw _ (by decide)] at h1;cases h1
 unfold gD;rw[au,decide_eq_true (by omega),decide_eq_true aM,decide_eq_true h1]; rfl
theorem WT {y:D} (h:gD y=true) :fX y.toNat 500000003=1:=by
 unfold gD at h; simp only[avU,decide_eq_true_eq] at h; exact h.2
theorem ab1 {y:D} (h:fX y.toNat 500000003=1) {e:Nat} (ao:e<500000003) :g6 (g6 y e) 500000002=g6 y (500000003 - e) :=by
 apply av6;rw[sn,sn,sn,IF];rcases e with _ | e
 ·rw[ayb,ayt,h];unfold fX; rfl
 ·have aR:(e+1)*500000002=500000003*e+(500000003 - (e+1)) :=by omega
  rw[aR,ak3,<-IF,h,Ym,ayk,av4 (zD _ _)]
def EY (y:D) (e s:D) :D:=ET (g6 4#32 s.toNat) (g6 y (500000003 - e.toNat))
def Fb (y:D) (m:List B) (e s:D) :Bool:=jA e&&(jA s&&decide (CI (EY y e s) y m=e))
theorem anC {e:D} (ao:e.toNat<500000003) :(500000003#64 - e.setWidth 64).toNat=500000003 - e.toNat:=by
 rw[BitVec.toNat_sub,av9];have:(500000003#64).toNat=500000003:=rfl;rw[this]; omega
theorem aoV (y:D) (ax:gD y=true) (m:fa) (hm:m.l.length<=9991) (e s:D) :bz Tryz.prog GS 148 [bD y,cS m,.aH [bD e,bD s]] (.int .i64 (if Fb y m.l e s then 0 else 22)) :=by
 refine bL Tryz.checked.mixed bE ?_;apply bp Tryz.func148 [];unfold Fb;have bn:cK (.ar 1) (cS m)=some (.int .i64 m.l.length) :=q0 _;have eP:¬ (9991:Int)<(m.l.length:Int) :=by omega
 have rH:¬ 9991<m.l.length:=by omega
 have fp:=m9 m;have aW:=WT ax;have Vn:=Nd y;rw[ax] at Vn;simp;refine a6 Vn rfl ?_;obtain⟨M,n1⟩:∃ M:Int,M=if u e<u s then u s else u e:=⟨_,rfl⟩
 have yW:vu (bD e) (bD s)=some (.int .u32 M) :=by rw[n1]; simp[vu,bD]
 have UD:(500000003:Int)<=M<->500000003<=e.toNat\/500000003<=s.toNat:=by
  rw[n1]; unfold u; split<;>omega
 simp[bn,eP,rH,yW];by_cases h1:500000003<=e.toNat\/500000003<=s.toNat
 ·have ag:(jA e&&(jA s&&decide (CI (EY y e s) y m.l=e)))=false:=by
   unfold jA;rcases h1 with h | h
   ·rw[decide_eq_false (by omega)]; rfl
   ·rw[decide_eq_false (p:=s.toNat<500000003) (by omega)]; simp
  have ah:=UD.2 h1;simp[ah,ag];exact aL rfl rfl
 ·have ah:¬ (500000003:Int)<=M:=fun h=>h1 (UD.1 h)
  have gY:jA e=true:=by unfold jA; exact decide_eq_true (by omega)
  have gb:jA s=true:=by unfold jA; exact decide_eq_true (by omega)
  have Wb:=aeB y (500000003#64 - e.setWidth 64);have ah4:(s.setWidth 64:Q).toNat=s.toNat:=by rw[av9]; omega
  have G4:=aez (s.setWidth 64);rw[ax,if_pos rfl,if_pos rfl,anC (by omega)] at Wb;rw[ah4] at G4;have u9:=aeA (g6 4#32 s.toNat) (g6 y (500000003 - e.toNat));rw[Nf (y:=4#32) ab2,Nf aW] at u9;simp only[axP,if_true] at u9;have yG:=aoF (EY y e s) y m hm;have e6:∀ a b:D,((u a:Int)=u b)<->a=b:=fun a b=>⟨fun h=>av6 (by unfold u at h; omega),fun h=>by rw[h]⟩
  simp[ah];refine a6 Wb rfl ?_;simp;refine a6 G4 rfl ?_;simp;refine a6 u9 rfl ?_;simp;refine a6 yG (by simp[bd,U.closed,fp]) ?_;rw[gY,gb];by_cases aj:CI (EY y e s) y m.l=e
  ·simp[aj];exact aL rfl rfl
  ·simp[aj,e6];exact aL rfl rfl
theorem alw (s:D) :bz Tryz.prog GS 120 [bD s] (bD (g6 4#32 s.toNat)) :=by
 refine bL Tryz.checked.mixed bE ?_;apply bp Tryz.func120 [];have amy:(s.setWidth 64:Q).toNat=s.toNat:=by rw[av9]; omega
 have G3:=alp (s.setWidth 64);rw[amy] at G3;simp;refine a6 G3 rfl ?_;simp;exact aL rfl rfl
theorem alH (y:D) (ax:gD y=true) (m:fa) (hm:m.l.length<=900000) (e s:D) :bz Tryz.prog GS 131 [bD y,cS m,.aH [bD e,bD s]] (.bool (Fb y m.l e s)) :=by
 refine bL Tryz.checked.mixed bE ?_;apply bp Tryz.func131 [[[0],[1],[3],[5],[6],[8],[9],[2,9],[4,9],[7,9]]];unfold Fb;have fp:=m9 m;have aW:=WT ax;have e6:∀ a b:D,((u a:Int)=u b)<->a=b:=fun a b=>⟨fun h=>av6 (by unfold u at h; omega),fun h=>by rw[h]⟩
 simp;refine a6 (Gl e) rfl ?_;cases h1:jA e with
 | false=>simp; exact aL rfl rfl
 | true=>
 simp;refine a6 (Gl s) rfl ?_;cases ad:jA s with
 | false=>simp; exact aL rfl rfl
 | true=>
 have ao:e.toNat<500000003:=by unfold jA at h1; exact of_decide_eq_true h1
 have ady:(e.setWidth 64:Q).toNat=e.toNat:=by rw[av9]; omega
 have Wf:=Oi y (e.setWidth 64);rw[ady] at Wf;have Vu:=alv (g6 y e.toNat);rw[Nf aW,if_pos rfl,if_pos rfl,ab1 aW ao] at Vu;have G3:=alw s;have Bb:=alE (g6 4#32 s.toNat) (g6 y (500000003 - e.toNat));have yG:=alr (EY y e s) y m hm;simp;refine a6 Wf rfl ?_;simp;refine a6 Vu rfl ?_;simp;refine a6 G3 rfl ?_;simp;refine a6 Bb rfl ?_;simp;refine a6 yG (by simp[bd,U.closed,fp]) ?_;simp[e6];exact aL rfl rfl
def OW (o:bm) :Bool:=Fb o.hZ (lf o) o.e o.s
def oG (o:bm) :Int:=if fM o=0 then (if OW o then 0 else 22) else fM o
theorem XU {o:bm} (av:∀ x∈o.br.l,x.length=32) (h:fM o=0) :gD o.hZ=true/\(lf o).length<=9991:=by
 have aE:=zy h;unfold fM at h;rw[if_neg (by omega)] at h;split at h
 ·split at h
  ·rename_i az aq;unfold s9 at aq;simp only[avU,decide_eq_true_eq] at aq;obtain⟨aP,aU,a8,bA,bi⟩:=aq;refine⟨aP,?_⟩;have L8:o.act.key.length<=20/\(o.act.kind=4#8->o.act.val.text.length<=30) :=by
    unfold kr at a8;split at a8
    ·rename_i h1;simp only[avU,decide_eq_true_eq] at a8;rw[a8.1];exact⟨by simp,fun h=>by rw[h1] at h; cases h⟩
    ·split at a8
     ·rename_i h1 ad;simp only[avU] at a8;have hk:=a8.1;unfold gM at hk;simp only[avU,decide_eq_true_eq] at hk;exact⟨hk.1.2,fun h=>by rw[h] at ad; rcases ad with ad | ad<;>cases ad⟩
     ·split at a8
      ·simp only[avU] at a8;obtain⟨hk,au⟩:=a8;unfold gM at hk;simp only[avU,decide_eq_true_eq] at hk;refine⟨hk.1.2,fun _=>?_⟩;unfold jX at au;split at au
       ·simp only[avU,decide_eq_true_eq] at au; rw[au.2]; simp
       ·split at au
        ·simp only[avU,decide_eq_true_eq] at au; rw[au.1.2]; simp
        ·split at au
         ·simp only[avU,decide_eq_true_eq] at au; exact au.1.2
         ·cases au
      ·cases a8
   have mj:=iy o.hZ.toNat
   have o5:=iy o.c4.toNat
   have vw:=Ew av;have tE:=B5 (fC o.act.key);rw[rb] at tE;have ml:=Fs o.act.val;have n6:(opHead o).length<=10:=by unfold opHead; simp; omega
   unfold lf;simp only[avW,awa,awu];have n7:(if o.act.kind=1#8 then ([] :List B) else jt (fC o.act.key)).length<=29:=by
    split
    ·simp
    ·omega
   have n8:(if o.act.kind=4#8 then ju o.act.val else []).length<=50:=by
    split
    ·rename_i h; have:=L8.2 h; omega
    ·simp
   omega
  ·cases h
 ·cases h
theorem aoW (o:bm) (ap:hX o) :bz Tryz.prog GS 95 [.aH (a2 o)] (.int .i64 (oG o)) :=by
 refine bL Tryz.checked.mixed bE ?_;apply bp Tryz.func95 [];unfold oG;have cz:=i6 o;have c0:=Jp o ap;have yH:bd [U.aH (a2 o)]=true:=by simp[bd,U.closed,cz]
 by_cases aD:fM o=0
 ·obtain⟨aq,bn⟩:=XU ap.ids aD;rw[if_pos aD];simp[a2];refine a6 c0 yH ?_;simp[aD];refine aaz o ap (Qs aD) fun w l' h=>?_
  have gw:l'[0]? = some (.cells 11 (a2 o)) :=by rw[h.same 0 (by simp)]; rfl
  have EO:=gw;simp[a2] at EO;have au:=aoV o.hZ aq (some (lf o)) bn o.e o.s;simp[EO];refine iB au (.cons (.same _ rfl) (.cons (h.sq (fun _=>rfl) (some (lf o)) rfl rfl) (.cons (.same _ rfl) .nil))) rfl ?_;simp;exact aL rfl rfl
 ·rw[if_neg aD];simp[a2];refine a6 c0 yH ?_;simp[aD];exact aL rfl rfl
theorem alJ (o:bm) (ap:hX o) (aD:fM o=0) :bz Tryz.prog GS 82 [.aH (a2 o)] (.bool (OW o)) :=by
 refine bL Tryz.checked.mixed bE ?_;apply bp Tryz.func82 [[[0],[1],[2],[4],[5],[3,5,1]]];have cz:=i6 o;obtain⟨aq,bn⟩:=XU ap.ids aD;have au:=alH o.hZ aq (some (lf o)) (by show (lf o).length<=_; omega) o.e o.s;simp[a2];refine YN o ap (by have:=zy aD; omega) fun w l' h=>?_
 have gw:l'[0]? = some (.cells 11 (a2 o)) :=by rw[h.same 0 (by simp)]; rfl
 have EO:=gw;simp[a2] at EO;simp[EO];refine iB au (.cons (.same _ rfl) (.cons (h.sq (fun _=>rfl) (some (lf o)) rfl rfl) (.cons (.same _ rfl) .nil))) rfl ?_;simp;exact aL rfl rfl
theorem YP (o:bm) (ap:hX o) :bz Tryz.prog GS 39 [.aH (a2 o)] (.int .i64 (oG o)) :=by
 refine bL Tryz.checked.mixed bE ?_;apply bp Tryz.func39 [];unfold oG;have cz:=i6 o;have c0:=alB o ap;have yH:bd [U.aH (a2 o)]=true:=by simp[bd,U.closed,cz]
 by_cases aD:fM o=0
 ·rw[if_pos aD];simp[a2];refine a6 c0 yH ?_;simp[aD];refine a6 (alJ o ap aD) yH ?_;cases ak:OW o with
  | true=>simp; exact aL rfl rfl
  | false=>simp; exact aL rfl rfl
 ·rw[if_neg aD];simp[a2];refine a6 c0 yH ?_;simp[aD];refine a6 c0 yH ?_;simp;exact aL rfl rfl
end Op

end Go.cb

namespace Go.cb
open Go Go.Proofs
set_option maxRecDepth 100000
namespace Op

section
variable {α:Type} {z:Nat} {enc:α->List U}
theorem NM {by_:Nat} {l l1:am} {v:U} {a:List α} {hd:Bool} (h:cu z enc l l1 v a hd) (x:α) {b:Nat} (ag:l1[b]? = some (.cells z (enc x))) (af:(enc x).length=z) (aD:z≠0) (ea:by_≠0) (dA:(a.length+1)*by_<=cy) :
  ∃ aZ l',gx l1 z by_ v (.ar z b 0 1 1 z)=some (aZ,l')/\cu z enc l l' aZ (a++[x]) false/\l1.length<=l'.length:=by
 obtain⟨aZ,l',aP,aU,a8⟩:=h.app (by_:=by_) (x:=.ar z b 0 1 1 z) (xs:=[x]) (by simp[dE,ag,af,avO]) (by simp[af]) aD ea (by simpa using dA);exact⟨aZ,l',aP,by simpa using aU,a8⟩
def fj (l:List α) (i:Nat) (x:α) :List α:=l.take i++x::l.drop i
theorem o0 (l:List α) (i:Nat) (x:α) :(fj l i x).length=l.length+1:=by
 unfold fj;have:=congrArg List.length (awy i l);simp only[avW,awa] at this ⊢; omega
theorem WM {l:List α} {i:Nat} {x:α} (av:i<=l.length) :(fj l i x)[i]? = some x:=by
 unfold fj;rw[av2 (by rw[av1]; omega),av1,awQ av]; simp
theorem WO {l:List α} {i k:Nat} {x:α} (hk:k<i) (av:i<=l.length) :(fj l i x)[k]? = l[k]?:=by
 unfold fj;rw[avQ (by rw[av1]; omega),awb hk]
theorem tw {l:List α} {i:Nat} {x y:α}:y∈fj l i x<->y=x\/y∈l:=by
 unfold fj;rw[awl,awA];constructor
 ·rintro (h | h | h)
  ·exact .inr (awh h)
  ·exact .inl h
  ·exact .inr (axo h)
 ·rintro (h | h)
  ·exact .inr (.inl h)
  ·rw[<-awy i l,awl] at h;exact h.elim .inl fun h=>.inr (.inr h)
def ou (lt:α->α->Bool) (l:List α) (x:α) :Nat->Nat
 | 0=>0
 | k+1=>match l[k]? with
  | some y=>if lt x y then ou lt l x k else k+1
  | none=>k+1
theorem Yg {lt:α->α->Bool} {l:List α} {x y:α} {k:Nat} (h:l[k]? = some y) :ou lt l x (k+1)=if lt x y then ou lt l x k else k+1:=by
 rw[ou,h]
theorem WR {lt:α->α->Bool} (za:∀ a b c,lt a b=true->lt b c=true->lt a c=true) {l:List α} {x:α} (ak:l.Pairwise fun a b=>lt a b=true) (af:∀ y∈l,lt x y=false->lt y x=true) :
  (fj l (ou lt l x l.length) x).Pairwise fun a b=>lt a b=true:=by
 have key:∀ k,k<=l.length->(∀ y∈l.drop k,lt x y=true)->(fj l (ou lt l x k) x).Pairwise fun a b=>lt a b=true:=by
  intro k
  induction k with
  | zero=>
   intro _ h;show (fj l 0 x).Pairwise _;unfold fj;rw[aw9,awI,aw2,axE];exact⟨h,ak⟩
  | succ k aJ=>
   intro hk h;obtain⟨y,ax,cr⟩:=bx (l:=l) (k:=k) (by omega);rw[Yg ax];have bC:l.drop k=y::l.drop (k+1) :=by rw[awS (by omega),(avP.1 ax).2]
   have aI:l.take (k+1)=l.take k++[y] :=by rw[av7,ax]; rfl
   cases k3:lt x y with
   | true=>
    rw[if_pos rfl];refine aJ (by omega) fun w hw=>?_
    rw[bC] at hw;rcases awA.1 hw with rfl | hw
    ·exact k3
    ·exact h w hw
   | false=>
    rw[if_neg (by simp)];have WC:=af y cr k3;have h1:∀ a∈l.take (k+1),lt a x=true:=fun a aA=>by
     rw[aI,awl,awd] at aA;rcases aA with aA | rfl
     ·have ad:(l.take k++y::l.drop (k+1)).Pairwise fun a b=>lt a b=true:=by rw[<-bC,awy]; exact ak
      exact za _ _ _ ((axL.1 ad).2.2 a aA y (by simp)) WC
     ·exact WC
    unfold fj;have ad:=ak;rw[<-awy (k+1) l] at ad;obtain⟨lG,sl,BI⟩:=axL.1 ad;refine axL.2 ⟨lG,axE.2 ⟨h,sl⟩,fun a aA b ag=>?_⟩;rcases awA.1 ag with rfl | ag
    ·exact h1 a aA
    ·exact BI a aA b ag
 exact key _ (avR _) (by simp)
theorem Fg {lt:α->α->Bool} (Hp:∀ a,lt a a=false) (za:∀ a b c,lt a b=true->lt b c=true->lt a c=true) :∀ {l m:List α},l.Pairwise (fun a b=>lt a b=true)->m.Pairwise (fun a b=>lt a b=true)->(∀ y,y∈l<->y∈m)->l=m
 | [],[],_,_,_=>rfl
 | [],b::m,_,_,h=>absurd ((h b).2 (by simp)) (by simp)
 | a::l,[],_,_,h=>absurd ((h a).1 (by simp)) (by simp)
 | a::l,b::m,al,hm,h=>by
  obtain⟨l1,b1⟩:=axE.1 al;obtain⟨kE,kf⟩:=axE.1 hm;have fo:a=b:=by
   rcases awA.1 ((h a).1 (by simp)) with e | e
   ·exact e
   ·rcases awA.1 ((h b).2 (by simp)) with bJ | bJ
    ·exact bJ.symm
    ·have:=za _ _ _ (kE a e) (l1 b bJ);rw[Hp] at this; cases this
  subst fo;congr 1;refine Fg Hp za b1 kf fun y=>⟨fun ax=>?_,fun ax=>?_⟩
  ·rcases awA.1 ((h y).1 (by simp[ax])) with e | e
   ·subst e;have:=l1 y ax;rw[Hp] at this; cases this
   ·exact e
  ·rcases awA.1 ((h y).2 (by simp[ax])) with e | e
   ·subst e;have:=kE y ax;rw[Hp] at this; cases this
   ·exact e
def oC (lt:α->α->Bool) (u:List α) :Nat->List α
 | 0=>[]
 | i+1=>match u[i]? with
  | some x=>fj (oC lt u i) (ou lt (oC lt u i) x (oC lt u i).length) x
  | none=>oC lt u i
theorem OY {lt:α->α->Bool} {u:List α} {i:Nat} {x:α} (h:u[i]? = some x) :oC lt u (i+1)=fj (oC lt u i) (ou lt (oC lt u i) x (oC lt u i).length) x:=by rw[oC,h]
theorem ZA {lt:α->α->Bool} {u:List α}:∀ {i:Nat},i<=u.length->(oC lt u i).length=i
 | 0,_=>rfl
 | i+1,h=>by
  obtain⟨x,af,_⟩:=bx (l:=u) (k:=i) (by omega);rw[OY af,o0,ZA (by omega)]
theorem Ff {lt:α->α->Bool} {u:List α} {y:α}:∀ {i:Nat},i<=u.length->(y∈oC lt u i<->y∈u.take i)
 | 0,_=>by simp[oC]
 | i+1,h=>by
  obtain⟨x,af,_⟩:=bx (l:=u) (k:=i) (by omega);rw[OY af,tw,Ff (by omega),av7,af,awl];simp[or_comm]
theorem OZ {lt:α->α->Bool} (za:∀ a b c,lt a b=true->lt b c=true->lt a c=true) (Wr:∀ a b,a≠b->lt a b=false->lt b a=true) {u:List α} (aC:u.Nodup) :∀ {i:Nat},i<=u.length->(oC lt u i).Pairwise fun a b=>lt a b=true
 | 0,_=>List.Pairwise.nil
 | i+1,h=>by
  obtain⟨x,af,_⟩:=bx (l:=u) (k:=i) (by omega);rw[OY af];refine WR za (OZ za Wr aC (by omega)) fun y ax k3=>Wr x y (fun e=>?_) k3
  subst e;rw[Ff (by omega)] at ax;have ad:(u.take i++[x]).Nodup:=by
   have:u.take (i+1)=u.take i++[x] :=by rw[av7,af]; rfl
   rw[<-this]; exact aC.sublist (axI _ _)
  exact (aw0.1 ad).2.2 x ax x (by simp) rfl
end

section
variable {α:Type} [DecidableEq α]
end

end Op

end Go.cb

/-
  Rows of one's own: one element is set, the rest is cleared and cut off; a copy; what a condition says is left out.
-/
import Derived.Test.YtobphgccoalchaaGreatDoorRh
set_option linter.unusedVariables false
set_option linter.unusedSimpArgs false
set_option linter.unnecessarySimpa false
namespace Go.cf
open Go Go.Proofs
set_option maxRecDepth 100000
namespace Op
open gZ
section
variable {α:Type} {z:Nat} {enc:α->List ad}
theorem agZ {l:ap} {v:ad} {j k:Nat} {bh:List α} {zr:List ad} (tg:zr.length=z) (h:bB z l v j (bh.map enc)) (hk:k<bh.length) :
  ∃ v3 ew r,gS (.au z) v (some (.int .i64 (k:Int))) none none=some v3/\uj zr l v3=some ew/\gS (.au z) v none (some (.int .i64 (k:Int))) none=some r ∧
   bB z ew r j ((bh.take k).map enc)/\cx r=false/\ew.length=l.length/\∀ b,b≠j->ew[b]? = l[b]?:=by
 generalize ao:bh.map enc=es at h;cases h with
 | nil j=>rw[ate] at ao; subst ao; simp at hk
 | au j n cap sz cs es ag am aF av ah c9 cb=>
  subst ao;have s6:bh.length=n:=by simpa using aF
  have g3:kh (.int .i64 (k:Int)) n=some k:=by
   show (if 0<=(k:Int)/\(k:Int)<=(n:Int) then some (k:Int).toNat else none)=some k;rw[if_pos ⟨by omega,by omega⟩]; simp
  have fm:kh (.int .i64 (k:Int)) cap=some k:=by
   show (if 0<=(k:Int)/\(k:Int)<=(cap:Int) then some (k:Int).toNat else none)=some k;rw[if_pos ⟨by omega,by omega⟩]; simp
  have dx:g1 n cap (some (.int .i64 (k:Int))) none none=some (k,n,cap) :=by
   show (match kh (.int .i64 (k:Int)) n with | none=>none | some l=>some (l,n,cap))=_;rw[g3]
  have di:g1 n cap none (some (.int .i64 (k:Int))) none=some (0,k,cap) :=by
   show (match kh (.int .i64 (k:Int)) cap with | none=>none | some h=>some (0,h,cap))=_;rw[fm]
  have cO:¬ cap=k:=by omega
  have Az:¬ cap=0:=by omega
  have e3:j<l.length:=e7 ag;have gw:k*z<=n*z:=ar2 _ (by omega);have i6:n*z<=cap*z:=ar2 _ ah;have mn:(dZ zr (n - k)).length=(n - k)*z:=by rw[BA,tg]
  have adH:k*z+(n - k)*z=n*z:=by rw[<-asA]; congr 1; omega
  refine⟨.au z j (k*z) (n - k) (cap - k) sz,l.set j (.cells sz (bt cs (k*z) (dZ zr (n - k)))),.au z j 0 k cap sz,?_,?_,?_,?_,rfl,by simp,fun b gK=>by rw[ar7 (fun h=>gK h.symm)]⟩
  ·rw[zp,dx]; simp[cO]
  ·unfold uj;simp only;rw[if_neg (by omega)];simp[ag,tg]
  ·rw[zp,di]; simp[Az]
  ·refine .au j k cap sz _ _ (ar9 e3) (by rw[sm (by omega),mn]; omega) (by simp; omega) (fun e ao=>?_) (by omega) c9 ?_
   ·obtain⟨y,ay,rfl⟩:=asr.1 ao;exact av _ (atG (asz ay))
   ·unfold bt;rw[ass,asm (by rw[asc]; omega),aty,Nat.min_self];have aR:cs.take (k*z)=(cs.take (n*z)).take (k*z) :=by rw[aty,asR gw]
    have bE:bh.map enc=(bh.take k).map enc++(bh.drop k).map enc:=by rw[<-asv,asK]
    have c4:((bh.take k).map enc).flatten.length=k*z:=by
     rw[mM (z:=z) (fun e ao=>by obtain⟨y,ay,rfl⟩:=asr.1 ao; exact av _ (atG (asz ay)))];rw[asi,asc,asR (by omega)]
    rw[aR,cb,bE,asX,asm (by omega),arX (by omega)]
theorem UY {bh:List α} (av:∀ y∈bh,(enc y).length=z) (k:Nat) (hk:k<=bh.length) {n:Nat} (aF:bh.length=n) {cs:List ad} (cb:cs.take (n*z)=(bh.map enc).flatten) (am:n*z<=cs.length) :
  cs.take (k*z)=((bh.take k).map enc).flatten/\(cs.drop (k*z)).take (n*z - k*z)=((bh.drop k).map enc).flatten:=by
 have gw:k*z<=n*z:=ar2 _ (by omega);have bE:bh.map enc=(bh.take k).map enc++(bh.drop k).map enc:=by rw[<-asv,asK]
 have c4:((bh.take k).map enc).flatten.length=k*z:=by
  rw[mM (z:=z) (fun e ao=>by obtain⟨y,ay,rfl⟩:=asr.1 ao; exact av _ (asz ay))];rw[asi,asc,asR (by omega)]
 have aR:cs.take (k*z)=(cs.take (n*z)).take (k*z) :=by rw[aty,asR gw]
 constructor
 ·rw[aR,cb,bE,asX,asm (by omega),arX (by omega)]
 ·rw[<-auh,cb,bE,asX,asL (by omega),asW (by omega),asO]
theorem zf {l:ap} {v:ad} {j k:Nat} {bh:List α} {x:α} {X:ad} (b3:X.cells=some (enc x)) (h:bB z l v j (bh.map enc)) (av:∀ y∈bh,(enc y).length=z) (hk:k<bh.length) (ai:(enc x).length=z) :
  ∃ p l',cd (.au z) v (.int .i64 (k:Int))=some p/\kw z l p (X)=some l'/\bB z l' v j ((bh.set k x).map enc)/\l'.length=l.length/\∀ b,b≠j->l'[b]? = l[b]?:=by
 generalize ao:bh.map enc=es at h;cases h with
 | nil j=>rw[ate] at ao; subst ao; simp at hk
 | au j n cap sz cs es ag am aF jA ah c9 cb=>
  subst ao;have s6:bh.length=n:=by simpa using aF
  have e3:j<l.length:=e7 ag;have a2:=ai;have gw:(k+1)*z<=n*z:=ar2 _ (by omega);have i6:n*z<=cap*z:=ar2 _ ah;have ak:(k+1)*z=k*z+z:=by rw[asB]
  obtain⟨f1,_⟩:=UY av k (by omega) s6 cb (by omega);obtain⟨_,f2⟩:=UY av (k+1) (by omega) s6 cb (by omega);refine⟨.ptr j (k*z) sz,l.set j (.cells sz (bt cs (k*z) (enc x))),?_,?_,?_,by simp,fun b gK=>by rw[ar7 (fun h=>gK h.symm)]⟩
  ·simp[cd]; omega
  ·unfold kw;simp[ag,b3,a2];omega
  ·refine .au j n cap sz _ _ (ar9 e3) (by rw[sm (by omega),a2]; omega) (by simp; omega) (fun e ao=>?_) ah c9 ?_
   ·obtain⟨y,ay,rfl⟩:=asr.1 ao;rcases atf ay with h | h
    ·exact av _ h
    ·rw[h]; exact a2
   ·have kR:bh.set k x=bh.take k++(x::bh.drop (k+1)) :=by rw[atw,if_pos hk]
    rw[kR,asv,ast,asX,as4,<-f1,<-f2];unfold bt;have t1:(cs.take (k*z)).length=k*z:=by rw[asc]; omega
    have jf:(cs.take (k*z)).take (n*z)=cs.take (k*z) :=arX (by rw[t1]; omega);have kx:(enc x).take (n*z - k*z)=enc x:=arX (by rw[a2]; omega);rw[ass,a2,<-ak,at4,t1,jf,at4,kx,a2,show n*z - k*z - z=n*z - (k+1)*z by omega]
end

end Op

end Go.cf

namespace Go.cf
open Go Go.Proofs
set_option maxRecDepth 100000
namespace Op
theorem QR {α:Type} {enc:α->List ad} {z:Nat} {a:List α} (h:∀ x∈a,(enc x).length=z) :(a.map enc).flatten.length=a.length*z:=by
 rw[mM (z:=z) (fun e ao=>by obtain⟨y,ay,rfl⟩:=asr.1 ao; exact h y ay),asi]
theorem ag2 {α:Type} {enc:α->List ad} {z:Nat} {l:ap} {b n:Nat} {a:List α} (az:∀ x∈a,(enc x).length=z) (aF:a.length=n) (ag:l[b]? = some (.cells (n*z) (a.map enc).flatten)) :bB z l (.au z b 0 n n (n*z)) b (a.map enc) :=by
 have eo:=QR az;refine .au b n n (n*z) _ _ ag (by rw[eo,aF]) (by simp[aF]) (fun e ao=>?_) (ar0 _) (ar0 _) ?_
 ·obtain⟨y,ay,rfl⟩:=asr.1 ao; exact az y ay
 ·rw[arX (by rw[eo,aF]; omega)]
end Op

end Go.cf

namespace Go.cf
open Go Go.Proofs
set_option maxRecDepth 100000
namespace Op
open gZ
theorem Yt {l:List D} {k:Nat} {x:D} (h:l[k]? = some x) (aC:(l.take k).all gE=true) :(l.take (k+1)).all gE=gE x:=by
 rw[ash,h,List.all_append,aC]; simp
theorem Yr {l:List D} {k:Nat} {x:D} (h:l[k]? = some x) (ai:gE x=false) :l.all gE=false:=by
 cases aH:l.all gE with
 | false=>rfl
 | true=>rw[asZ.1 aH x (ar4 h)] at ai; cases ai
structure XB (l:List D) (k:Nat) (af:bi) (h:ap) :Prop where
 bf:af 5=cL 1 e1 (some l)
 bT:af 6=.int .i64 l.length
 dh:af 7=.int .i64 k
 aC:(l.take k).all gE=true
theorem Rk (l:List D) (am:l.length<=1000) :bx Tryz.prog GS 244 [cL 1 e1 (some l)] (.bool (l.all gE)) :=by
 refine bH Tryz.checked.mixed bD ?_;apply bm Tryz.func244 [];have bn:cz (.au 1) (cL 1 e1 (some l))=some (.int .i64 l.length) :=r6 _;simp[bn];refine cw l.length (XB l) ?_ ⟨by simp,by simp,by simp,by simp⟩;rintro k af h hk ⟨bf,bT,dh,aC⟩;obtain⟨af,rfl⟩:=kb bf bT dh;clear bf bT dh;by_cases h:k<l.length
 ·obtain⟨x,ai,_⟩:=bu h;have bG:cd (.au 1) (cL 1 e1 (some l)) (.int .i64 k)=some (.b0 (e1 x) 0) :=by rw[th]; simp[ai]
  have fw:IntKind.i64.wrap ((k:Int)+1)=(k+1:Nat) :=wrap_i64 (by omega) (by omega);simp[h,bG,e1];refine aW (Mv x) rfl ?_;cases ar:gE x with
  | false=>
   have:=Yr ai ar;simp;exact aK (by rw[this]) rfl
  | true=>
   simp[fw];exact⟨by omega,by simp,by simp,by simp,by rw[Yt ai aC]; exact ar⟩
 ·have e9:k=l.length:=by omega
  subst e9;rw[asx] at aC;simp;exact aK (by rw[aC]) rfl
theorem ah8 {l:ap} {b:Nat} {x:D} (h:l[b]? = some (.cells 1 [bC x])) :go (b8 l) (.au 1 b 0 1 1 1) (cL 1 e1 (some [x])) :=by
 refine Eo (rest:=[]) (es:=[[bC x]]) (by simpa using h) rfl (by simp) (by simp[aZ,ad.closed])
def Eg (a b:D) :D:=BitVec.ofNat 32 (a.toNat*b.toNat % 1000000007)
theorem abo (a b:D) :bx Tryz.prog GS 204 [bC a,bC b] (.bJ [bC (if gE a&&gE b then Eg a b else 0#32),.int .i64 (if gE a&&gE b then 0 else 2)]) :=by
 refine bH Tryz.checked.mixed bD ?_;apply bm Tryz.func204 [];simp;refine iW (Rk [a,b] (by simp)) (.cons (Ep (by simp)) .nil) rfl ?_;cases az:gE a with
 | false=>
  simp[az];exact aK rfl rfl
 | true=>
  cases ag:gE b with
  | false=>
   simp[az,ag];exact aK rfl rfl
  | true=>
   have aM:a.toNat<1000000007:=by unfold gE at az; simp at az; exact az.1.2
   simp[az,ag];refine iW (MX [a,b] (by simp)) (.cons (.same _ rfl) (.cons (Ep (by simp)) .nil)) rfl ?_;simp[MW a b aM];exact aK rfl rfl
theorem abp (a:D) (n:Q) :bx Tryz.prog GS 203 [bC a,cU n] (.bJ [bC (if gE a then hl a n.toNat else 0#32),.int .i64 (if gE a then 0 else 2)]) :=by
 refine bH Tryz.checked.mixed bD ?_;apply bm Tryz.func203 [];simp;refine iW (Rk [a] (by simp)) (.cons (ah8 (by simp)) .nil) rfl ?_;cases az:gE a with
 | false=>
  simp[az];exact aK rfl rfl
 | true=>
  simp[az];refine aW (Np a n) rfl ?_;simp;exact aK rfl rfl
theorem abn (n:Q) :bx Tryz.prog GS 205 [cU n] (bC (hl 4#32 n.toNat)) :=by
 refine bH Tryz.checked.mixed bD ?_;apply bm Tryz.func205 [];simp;refine aW (Np 4#32 n) rfl ?_;simp;exact aK rfl rfl
theorem Nz (a:D) (n:Q) :bx Tryz.prog GS 177 [bC a,cU n] (bC (hl a n.toNat)) :=by
 refine bH Tryz.checked.mixed bD ?_;apply bm Tryz.func177 [];have aU:(a.setWidth 64:Q).toNat=a.toNat:=by rw[asj]; omega
 have bz:=zi a.toNat n.toNat
 have dy:(BitVec.ofNat 64 (fX a.toNat n.toNat)).setWidth 32=hl a n.toNat:=by
  apply asd;rw[tE,asj,asn];omega
 have aC:=Vk (a.setWidth 64) n (by rw[aU]; exact a.isLt);rw[aU] at aC;simp;refine aW aC rfl ?_;simp[dy];exact aK rfl rfl
theorem ahx (n:Q) :bx Tryz.prog GS 166 [cU n] (bC (hl 4#32 n.toNat)) :=by
 refine bH Tryz.checked.mixed bD ?_;apply bm Tryz.func166 [];simp;refine aW (Nz 4#32 n) rfl ?_;simp;exact aK rfl rfl
theorem ahF (a:D) :bx Tryz.prog GS 176 [bC a] (.bJ [bC (if gE a then hl a 500000002 else 0#32),.int .i64 (if gE a then 0 else 2)]) :=by
 refine bH Tryz.checked.mixed bD ?_;apply bm Tryz.func176 [];simp;refine aW (VT a) rfl ?_;cases az:gE a with
 | false=>
  simp;exact aK rfl rfl
 | true=>
  simp;refine aW (Nz a 500000002#64) rfl ?_;simp;exact aK rfl rfl
theorem ahN (a b:D) :bx Tryz.prog GS 178 [bC a,bC b] (bC (Eg a b)) :=by
 refine bH Tryz.checked.mixed bD ?_;apply bm Tryz.func178 [];have aU:∀ a:D,(a.setWidth 64:Q).toNat=a.toNat:=fun a=>by rw[asj]; omega
 have dy:((a.setWidth 64:Q)*b.setWidth 64 % 1000000007#64).setWidth 32=Eg a b:=by
  apply asd;rw[asj,Bn _ _ (by rw[aU]; exact a.isLt) (by rw[aU]; exact b.isLt),aU,aU];unfold Eg;rw[asn]
 simp[Ir,dy];exact aK rfl rfl
def vJ (l:List B) :Q:=l.foldl (fun n x=>(n <<< 8) ||| x.setWidth 64) 0#64
theorem PI (l:List B) (k:Nat) (x:B) (h:l[k]? = some x) :vJ (l.take (k+1))=(vJ (l.take k) <<< 8) ||| x.setWidth 64:=by
 rw[ash,h]; simp[vJ,auB]
theorem ai1 (a:Q) (x:B) :(a <<< 8) ||| x.setWidth 64=256#64*a+x.setWidth 64:=by
 apply asd;have ai:x.toNat<256:=x.isLt;have az:=a.isLt;rw[BitVec.toNat_or,ats,avi,at3,asj];have h1:x.toNat % 2 ^ 64=x.toNat:=asg (by omega);have ae:a.toNat <<< 8 % 2 ^ 64=(a.toNat % 2 ^ 56) <<< 8:=by rw[atn,atn]; omega
 have al:=auW (b:=x.toNat) (i:=8) (by omega) (a.toNat % 2 ^ 56);rw[h1,ae,<-al,atn];have aE:(256#64).toNat=256:=rfl;rw[aE];omega
def jW (n:D) :List B:=[(n >>> 24).setWidth 8,(n >>> 16).setWidth 8,(n >>> 8).setWidth 8,n.setWidth 8]
def mN (l:List D) :List B:=l.flatMap jW
theorem abf {l:List D} {k:Nat} {x:D} (h:l[k]? = some x) :mN (l.take (k+1))=mN (l.take k)++jW x:=by
 unfold mN; rw[ash,h,atS]; simp
theorem Q3 (l:List D) :(mN l).length=4*l.length:=by
 induction l with
 | nil=>rfl
 | cons x l aO=>unfold mN at aO ⊢; rw[List.flatMap_cons,asa,aO,asp]; simp[jW]; omega
def C0 (b:List B) :Q:=vJ ((iH b).take 8)
theorem ah9 {l:ap} {b:Nat} {v m a8 cD:ad} (h:l[b]? = some (.cells 2 [v,m])) (h1:go (b8 l) v a8) (ae:go (b8 l) m cD) :go (b8 l) (.au 1 b 0 2 2 2) (.cq 1 [[a8],[cD]]) :=by
 refine .au 1 b 0 2 2 2 [v,m] [[a8],[cD]] (ly.2 h) rfl (by simp) (by simp) (fun i j e c c' ao aj ah=>?_);rcases i with _ | _ | i
 ·simp at ao; subst ao;rcases j with _ | j
  ·simp at aj ah; subst aj ah; exact h1
  ·simp at aj
 ·simp at ao; subst ao;rcases j with _ | j
  ·simp at aj ah; subst aj ah; exact ae
  ·simp at aj
 ·simp at ao
theorem aja {b:Nat}:gS (.arr 32 1) (.ptr b 0 32) none (some (.int .i64 8)) none=some (.au 1 b 0 8 32 32) :=by
 have:g1 32 32 none (some (.int .i64 8)) none=some (0,8,32) :=rfl;simp only[gS,this]; rfl
structure XQ (g7:B) (m:fi) (eL:List D) (k:Nat) (af:bi) (l:ap) :Prop where
 aL:af 1=cN m
 ut:af 21=cL 1 e1 (some eL)
 Kc:af 22=.int .i64 eL.length
 Ak:af 23=.int .i64 k
 ex:∃ v,af 8=v/\cj 1 ci [] l v (g7::mN (eL.take k)) false
structure XC (d:List B) (e:Int) (k:Nat) (af:bi) (l:ap) :Prop where
 g2:af 12=.int .i64 e
 mO:af 13=cU (vJ (d.take k))
 Kf:∃ b n,af 49=.au 1 b 0 8 n n/\l[b]? = some (.cells n (d.map bA))/\n=32
 Kg:af 50=.int .i64 8
 Kh:af 51=.int .i64 k
set_option maxHeartbeats 1000000 in
theorem acj (g7:B) (m:fi) (hm:m.l.length<=9991) (eL:List D) (am:eL.length<=10) :bx Tryz.prog GS 246 [bA g7,cN m,cL 1 e1 (some eL)] (.bJ [cU (C0 (g7::(mN eL++m.l))),.int .i64 0]) :=by
 refine bH Tryz.checked.mixed bD ?_;apply bm Tryz.func246 [];have aA:cK=140737488355328:=rfl;have bn:cz (.au 1) (cN m)=some (.int .i64 m.l.length) :=r6 _;have adD:cz (.au 1) (cL 1 e1 (some eL))=some (.int .i64 eL.length) :=r6 _;have ev:¬ (9991:Int)<(m.l.length:Int) :=by omega
 have rB:¬ 9991<m.l.length:=by omega
 have gV:=nj m;simp[bn,adD,ev,rB];refine cw eL.length (XQ g7 m eL) ?_ ⟨by simp,by simp,by simp,by simp,_,rfl,⟨0,pK (n:=1) (a:=[g7]) rfl rfl,by simp,by simp,.inr (by simp),rfl⟩⟩;rintro k af l hk ⟨aL,ut,Kc,Ak,v,de,c1⟩;obtain⟨af,rfl⟩:=ky aL de ut Kc Ak;clear aL de ut Kc Ak;by_cases h:k<eL.length
 ·obtain⟨x,ai,_⟩:=bu h;have bG:cd (.au 1) (cL 1 e1 (some eL)) (.int .i64 k)=some (.b0 (e1 x) 0) :=by rw[th]; simp[ai]
  have fw:IntKind.i64.wrap ((k:Int)+1)=(k+1:Nat) :=wrap_i64 (by omega) (by omega);have ak:=abf ai;have eo:=Q3 (eL.take k);rw[asc] at eo;obtain⟨a8,l',aX,bg,a3⟩:=(c1.more [aY.cells 4 ((jW x).map bA)]).app (by_:=1) (x:=.au 1 l.length 0 4 4 4) (xs:=jW x) (by rw[x3]; simp[dA,jW]) (fun y _=>rfl) (by omega) (by omega) (by rw[aA]; simp[jW]; omega);rw[show (jW x).map bA=[.int .u8 (u (BitVec.setWidth 8 (x >>> 24))),.int .u8 (u (BitVec.setWidth 8 (x >>> 16))),.int .u8 (u (BitVec.setWidth 8 (x >>> 8))),.int .u8 (u (BitVec.setWidth 8 x))] from rfl] at aX;simp[h,bG,e1,fw,aX];refine dt.cy ?_;simp[fw];exact⟨by omega,by simp,by simp,by simp,by simp,a8,by simp,by rw[ak,<-as5]; exact bg⟩
 ·have e9:k=eL.length:=by omega
  subst e9;rw[asx] at c1;have eo:=Q3 eL;have aC:=U7 [some (g7::mN eL),m] (by simp) (fun s ak=>by
   rcases as0.1 ak with h | h
   ·rw[h]; show (g7::mN eL).length<=_; simp; omega
   ·rw[asl.1 h]; omega)
  have eD:bytesOf [some (g7::mN eL),m]=g7::(mN eL++m.l) :=by simp[bytesOf]
  rw[eD] at aC;have iC:=c1.cells;have AM:(cN m).cells=some [cN m] :=by cases m<;>rfl
  obtain⟨jq,yo⟩:∃ jq,jq=iH (g7::(mN eL++m.l)) :=⟨_,rfl⟩
  have yp:jq.length=32:=by rw[yo]; exact vj _
  rw[<-yo] at aC;have K7:(jq.map bA).length=32:=by simp[yp]
  have Le:fD jq=.aI (jq.map bA) :=rfl;rw[Le] at aC;have mo:bt (rep 32 (.int .u8 0)) 0 (jq.map bA)=jq.map bA:=ek (by rw[K7]; rfl);have db:∀ b,gS (.arr 32 1) (.ptr b 0 32) none (some (.int .i64 8)) none=some (.au 1 b 0 8 32 32) :=fun b=>aja (b:=b)
  simp[iC,AM];refine iW aC (.cons (ah9 (by simp) ((c1.more _).tH (fun _=>rfl) (some (g7::mN eL)) rfl rfl) (.same _ gV)) .nil) (by simp[ad.flat,mL,fD,Ah bA (fun _=>rfl)]) ?_;simp[yp,mo,db];refine cw 8 (XC jq 0) ?_ ⟨by simp,by simp[vJ],⟨l.length+1,32,by simp,by simp[List.getElem?_append],rfl⟩,by simp,by simp⟩;clear c1;rintro k af l hk ⟨g2,mO,⟨b,n,Kf,ag,rfl⟩,Kg,Kh⟩;obtain⟨af,rfl⟩:=ky g2 mO Kf Kg Kh;clear g2 mO Kf Kg Kh;by_cases h:k<8
  ·obtain⟨x,ai,_⟩:=bu (l:=jq) (k:=k) (by omega);have fw:IntKind.i64.wrap ((k:Int)+1)=(k+1:Nat) :=wrap_i64 (by omega) (by omega);have ak:=PI jq k x ai;have e9:(k:Int)<8:=by omega
   have aow:(jq.map bA)[k]? = some (bA x) :=by rw[ar5,ai]; rfl
   simp[h,e9,ag,fw,ai];exact⟨by simp,by simp[ak],⟨b,32,by simp,by simpa using ag,rfl⟩,by simp,by simp⟩
  ·have iz:k=8:=by omega
   subst iz;simp;exact aK (by unfold C0; rw[yo]) rfl
def Cm (r y:D) (m:List B) :D:=(C0 (99#8::(mN [r,y]++m)) % 500000003#64).setWidth 32
theorem VY (x:Q) :cB .rem .u64 (u x) .u64 500000003=some (.int .u64 (u (x % 500000003#64))) :=zT x 500000003#64 (by decide)
theorem akL (r y:D) (m:fi) (hm:m.l.length<=9991) :bx Tryz.prog GS 206 [bC r,bC y,cN m] (.bJ [bC (Cm r y m.l),.int .i64 0]) :=by
 refine bH Tryz.checked.mixed bD ?_;apply bm Tryz.func206 [];have gV:=nj m;simp;refine iW (acj 99#8 m hm [r,y] (by simp)) (.cons (.same _ rfl) (.cons (.same _ gV) (.cons (Ep (by simp)) .nil))) rfl ?_;simp[VY];exact aK rfl rfl
theorem Nt (a b:D) (ag:b≠0#32) :cB .quo .u32 (u a) .u32 (u b)=some (.int .u32 (u (a / b))) :=by
 have bS:(b.toNat:Int)≠0:=fun e=>ag (asd (by simpa using e))
 show (if IntKind.u32=IntKind.u32/\(b.toNat:Int)≠0 then some (ad.int .u32 (IntKind.u32.wrap ((a.toNat:Int).tdiv b.toNat))) else none)=_;rw[if_pos ⟨rfl,bS⟩,BT];congr 2;have:((a.toNat:Int).tdiv b.toNat)=((a.toNat / b.toNat:Nat) :Int) :=rfl;rw[this,as2];congr 1;apply asd;rw[asn,atE];exact asg (Nat.lt_of_le_of_lt (avs _ _) a.isLt)
theorem Q2 (x:D) {l:ap} {K:ad->ap->Prop} (bl:∀ v l',cj 1 ci l l' v (jW x) false->K v l') :dr Tryz.prog GS 223 [bC x] l (c:=⟨K⟩) :=by
 apply bm Tryz.func223 [];have q1:cB .quo .u32 (u x) .u32 16777216=some (.int .u32 (u (x / 16777216#32))) :=Nt x 16777216#32 (by decide);have dE:cB .quo .u32 (u x) .u32 65536=some (.int .u32 (u (x / 65536#32))) :=Nt x 65536#32 (by decide);have hn:cB .quo .u32 (u x) .u32 256=some (.int .u32 (u (x / 256#32))) :=Nt x 256#32 (by decide);have lY:∀ y:D,cB .rem .u32 (u y) .u32 256=some (.int .u32 (u (y % 256#32))) :=fun y=>Y1 y 256#32 (by decide)
 have ai:=x.isLt;have aR:BitVec.setWidth 8 (x / 16777216#32)=BitVec.setWidth 8 (x >>> 24) :=by
  apply asd;rw[asj,asj,atE,asH,aso];rfl
 have bE:BitVec.setWidth 8 (x / 65536#32 % 256#32)=BitVec.setWidth 8 (x >>> 16) :=by
  apply asd;rw[asj,asj,ata,atE,asH,aso];show x.toNat / 65536 % 256 % 256=x.toNat / 65536 % 256;omega
 have c4:BitVec.setWidth 8 (x / 256#32 % 256#32)=BitVec.setWidth 8 (x >>> 8) :=by
  apply asd;rw[asj,asj,ata,atE,asH,aso];show x.toNat / 256 % 256 % 256=x.toNat / 256 % 256;omega
 have jr:BitVec.setWidth 8 (x % 256#32)=BitVec.setWidth 8 x:=by
  apply asd;rw[asj,asj,ata];show x.toNat % 256 % 256=x.toNat % 256;omega
 simp[q1,dE,hn,lY,aR,bE,c4,jr];exact bl _ _ ⟨l.length,pK (n:=4) (a:=jW x) rfl (by simp; rfl),by simp,fun b ag=>arZ ag,.inr (by simp),rfl⟩
structure XW (d:List B) (k:Nat) (af:bi) (l:ap) :Prop where
 a7:af 3=.ptr 0 0 32
 bp:af 4=cU (vJ (d.take k))
 bf:af 5=.int .i64 k
 fh:l[0]? = some (.cells 32 (d.map bA))
theorem agD (s:fi) (ak:s.l.length<=1000000) :bx Tryz.prog GS 224 [cN s] (cU (C0 s.l)) :=by
 refine bH Tryz.checked.mixed bD ?_;apply bm Tryz.func224 [];have la:=VU s ak;have cb:=nj s;obtain⟨jq,yo⟩:∃ jq,jq=iH s.l:=⟨_,rfl⟩
 have yp:jq.length=32:=by rw[yo]; exact vj _
 rw[<-yo] at la;have Le:fD jq=.aI (jq.map bA) :=rfl;rw[Le] at la;have K7:(jq.map bA).length=32:=by simp[yp]
 have mo:bt (rep 32 (.int .u8 0)) 0 (jq.map bA)=jq.map bA:=ek (by rw[K7]; rfl);simp;refine aW la (by simp[aZ,cb]) ?_;simp[yp,mo];refine cw 8 (XW jq) ?_ ⟨by simp,by simp[vJ],by simp,rfl⟩;rintro k af l hk ⟨a7,bp,bf,fh⟩;obtain⟨af,rfl⟩:=kb a7 bp bf;clear a7 bp bf;by_cases h:k<8
 ·obtain⟨x,ai,_⟩:=bu (l:=jq) (k:=k) (by omega);have fw:IntKind.i64.wrap ((k:Int)+1)=(k+1:Nat) :=wrap_i64 (by omega) (by omega);have ak:=PI jq k x ai;rw[ai1] at ak;have e9:(k:Int)<8:=by omega
  have Ll:k<32:=by omega
  simp[h,e9,Ll,fh,fw,ai];exact⟨by omega,by simp,by simp[ak],by simp,fh⟩
 ·have iz:k=8:=by omega
  subst iz;simp;exact aK (by unfold C0; rw[yo]) rfl
theorem ahz (r y:D) (m:fi) (hm:m.l.length<=900000) :bx Tryz.prog GS 168 [bC r,bC y,cN m] (bC (Cm r y m.l)) :=by
 refine bH Tryz.checked.mixed bD ?_;apply bm Tryz.func168 [];have aA:cK=140737488355328:=rfl;have gV:=nj m;simp;refine Q2 r fun eh l1 h1=>?_
 have SO:=h1.le;have ad1:cj 1 ci [] l1 (.au 1 0 0 1 1 1) [99#8] false:=⟨0,pK (n:=1) (a:=[99#8]) rfl (by rw[h1.same 0 (by simp)]; rfl),by simp,by simp,.inr (by simp),rfl⟩
 obtain⟨dz,bQ,aX,bg,a3⟩:=ad1.app (by_:=1) (x:=eh) (xs:=jW r) h1.contents (fun _ _=>rfl) (by omega) (by omega) (by rw[aA]; simp[jW]);simp[aX];refine dt.cy ?_;simp;refine Q2 y fun v3 ew al=>?_
 have ad2:cj 1 ci [] ew dz ([99#8]++jW r) false:=bg.frame al.le al.same;obtain⟨v4,j6,dx,di,gA⟩:=ad2.app (by_:=1) (x:=v3) (xs:=jW y) al.contents (fun _ _=>rfl) (by omega) (by omega) (by rw[aA]; simp[jW]);simp[dx];refine dt.cy ?_;obtain⟨v5,Bi,cm,dk,kH⟩:=di.app (by_:=1) (x:=cN m) (xs:=m.l) (Qd _ _) (fun _ _=>rfl) (by omega) (by omega) (by rw[aA]; simp[jW]; omega);simp[cm];refine dt.cy ?_;have ag:(dg.l (some ([99#8]++jW r++jW y++m.l)) :List B)=99#8::(mN [r,y]++m.l) :=by simp[mN]
 have S4:=agD (some ([99#8]++jW r++jW y++m.l)) (by rw[ag]; simp[mN,jW]; omega);rw[ag] at S4;simp;refine iW S4 (.cons (dk.tH (fun _=>rfl) (some ([99#8]++jW r++jW y++m.l)) (by simp) rfl) .nil) rfl ?_;simp[VY];exact aK rfl rfl
theorem Ii (a n k:Nat) :fX (fX a n) k=fX a (n*k) :=by
 unfold fX; rw[<-au0,<-Nat.pow_mul]
theorem Vi (n:Nat) :fX 1 n=1:=by unfold fX; rw[Nat.one_pow]
theorem ahb (a m n:Nat) :fX a (m+n)=fX a m*fX a n % 1000000007:=by
 unfold fX; rw[at2,auH]
theorem YL:fX 4 500000003=1:=by
 have h:=Vc 4 500000003 (by decide) 64 (ar0 _);rw[show 500000003 / 2 ^ (64 - 64)=500000003 from rfl] at h;rw[<-h];decide +kernel
theorem Mw {y:D} (h:fX y.toNat 500000003=1) (n:Nat) :gE (hl y n)=true:=by
 have aw:=tE y n;have aM:=zi y.toNat n;have h1:fX (fX y.toNat n) 500000003=1:=by
  rw[Ii,avh,<-Ii,h,Vi]
 have aB:fX y.toNat n≠0:=fun e=>by
  rw[e] at h1;have av:∀ n,0<n->fX 0 n=0:=fun n aF=>by unfold fX; rw[Nat.zero_pow aF]
  rw[av _ (by decide)] at h1;cases h1
 unfold gE;rw[aw,decide_eq_true (by omega),decide_eq_true aM,decide_eq_true h1]; rfl
theorem TW {y:D} (h:gE y=true) :fX y.toNat 500000003=1:=by
 unfold gE at h; simp only[ar3,decide_eq_true_eq] at h; exact h.2
theorem YK {y:D} (h:fX y.toNat 500000003=1) {e:Nat} (ao:e<500000003) :hl (hl y e) 500000002=hl y (500000003 - e) :=by
 apply asd;rw[tE,tE,tE,Ii];rcases e with _ | e
 ·rw[aug,auT,h];unfold fX; rfl
 ·have aR:(e+1)*500000002=500000003*e+(500000003 - (e+1)) :=by omega
  rw[aR,ahb,<-Ii,h,Vi,auG,asg (zi _ _)]
def Em (y:D) (e s:D) :D:=Eg (hl 4#32 s.toNat) (hl y (500000003 - e.toNat))
def Ex (y:D) (m:List B) (e s:D) :Bool:=jU e&&(jU s&&decide (Cm (Em y e s) y m=e))
theorem ajI {e:D} (ao:e.toNat<500000003) :(500000003#64 - e.setWidth 64).toNat=500000003 - e.toNat:=by
 rw[BitVec.toNat_sub,asj];have:(500000003#64).toNat=500000003:=rfl;rw[this]; omega
theorem ak2 (y:D) (ay:gE y=true) (m:fi) (hm:m.l.length<=9991) (e s:D) :bx Tryz.prog GS 148 [bC y,cN m,.aI [bC e,bC s]] (.int .i64 (if Ex y m.l e s then 0 else 22)) :=by
 refine bH Tryz.checked.mixed bD ?_;apply bm Tryz.func148 [];unfold Ex;have bn:cz (.au 1) (cN m)=some (.int .i64 m.l.length) :=r6 _;have ev:¬ (9991:Int)<(m.l.length:Int) :=by omega
 have rB:¬ 9991<m.l.length:=by omega
 have gV:=nj m;have bd:=TW ay;have Sp:=Mv y;rw[ay] at Sp;simp;refine aW Sp rfl ?_;obtain⟨M,nW⟩:∃ M:Int,M=if u e<u s then u s else u e:=⟨_,rfl⟩
 have yG:w5 (bC e) (bC s)=some (.int .u32 M) :=by rw[nW]; simp[w5,bC]
 have RF:(500000003:Int)<=M<->500000003<=e.toNat\/500000003<=s.toNat:=by
  rw[nW]; unfold u; split<;>omega
 simp[bn,ev,rB,yG];by_cases h1:500000003<=e.toNat\/500000003<=s.toNat
 ·have ag:(jU e&&(jU s&&decide (Cm (Em y e s) y m.l=e)))=false:=by
   unfold jU;rcases h1 with h | h
   ·rw[decide_eq_false (by omega)]; rfl
   ·rw[decide_eq_false (p:=s.toNat<500000003) (by omega)]; simp
  have ah:=RF.2 h1;simp[ah,ag];exact aK rfl rfl
 ·have ah:¬ (500000003:Int)<=M:=fun h=>h1 (RF.1 h)
  have g3:jU e=true:=by unfold jU; exact decide_eq_true (by omega)
  have fm:jU s=true:=by unfold jU; exact decide_eq_true (by omega)
  have Te:=abp y (500000003#64 - e.setWidth 64);have aet:(s.setWidth 64:Q).toNat=s.toNat:=by rw[asj]; omega
  have Gr:=abn (s.setWidth 64);rw[ay,if_pos rfl,if_pos rfl,ajI (by omega)] at Te;rw[aet] at Gr;have uK:=abo (hl 4#32 s.toNat) (hl y (500000003 - e.toNat));rw[Mw (y:=4#32) YL,Mw bd] at uK;simp only[atK,if_true] at uK;have rH:=akL (Em y e s) y m hm;have ff:∀ a b:D,((u a:Int)=u b)<->a=b:=fun a b=>⟨fun h=>asd (by unfold u at h; omega),fun h=>by rw[h]⟩
  simp[ah];refine aW Te rfl ?_;simp;refine aW Gr rfl ?_;simp;refine aW uK rfl ?_;simp;refine aW rH (by simp[aZ,ad.closed,gV]) ?_;rw[g3,fm];by_cases al:Cm (Em y e s) y m.l=e
  ·simp[al];exact aK rfl rfl
  ·simp[al,ff];exact aK rfl rfl
theorem ahH (s:D) :bx Tryz.prog GS 120 [bC s] (bC (hl 4#32 s.toNat)) :=by
 refine bH Tryz.checked.mixed bD ?_;apply bm Tryz.func120 [];have aiI:(s.setWidth 64:Q).toNat=s.toNat:=by rw[asj]; omega
 have Gq:=ahx (s.setWidth 64);rw[aiI] at Gq;simp;refine aW Gq rfl ?_;simp;exact aK rfl rfl
theorem ahR (y:D) (ay:gE y=true) (m:fi) (hm:m.l.length<=900000) (e s:D) :bx Tryz.prog GS 131 [bC y,cN m,.aI [bC e,bC s]] (.bool (Ex y m.l e s)) :=by
 refine bH Tryz.checked.mixed bD ?_;apply bm Tryz.func131 [[[0],[1],[3],[5],[6],[8],[9],[2,9],[4,9],[7,9]]];unfold Ex;have gV:=nj m;have bd:=TW ay;have ff:∀ a b:D,((u a:Int)=u b)<->a=b:=fun a b=>⟨fun h=>asd (by unfold u at h; omega),fun h=>by rw[h]⟩
 simp;refine aW (FH e) rfl ?_;cases h1:jU e with
 | false=>simp; exact aK rfl rfl
 | true=>
 simp;refine aW (FH s) rfl ?_;cases ae:jU s with
 | false=>simp; exact aK rfl rfl
 | true=>
 have ao:e.toNat<500000003:=by unfold jU at h1; exact of_decide_eq_true h1
 have aag:(e.setWidth 64:Q).toNat=e.toNat:=by rw[asj]; omega
 have Ti:=Nz y (e.setWidth 64);rw[aag] at Ti;have Su:=ahF (hl y e.toNat);rw[Mw bd,if_pos rfl,if_pos rfl,YK bd ao] at Su;have Gq:=ahH s;have AW:=ahN (hl 4#32 s.toNat) (hl y (500000003 - e.toNat));have rH:=ahz (Em y e s) y m hm;simp;refine aW Ti rfl ?_;simp;refine aW Su rfl ?_;simp;refine aW Gq rfl ?_;simp;refine aW AW rfl ?_;simp;refine aW rH (by simp[aZ,ad.closed,gV]) ?_;simp[ff];exact aK rfl rfl
def N8 (o:bq) :Bool:=Ex o.hq (ln o) o.e o.s
def rf (o:bq) :Int:=if fy o=0 then (if N8 o then 0 else 22) else fy o
theorem UL {o:bq} (ax:∀ x∈o.br.l,x.length=32) (h:fy o=0) :gE o.hq=true/\(ln o).length<=9991:=by
 have aE:=xc h;unfold fy at h;rw[if_neg (by omega)] at h;split at h
 ·split at h
  ·rename_i aA ar;unfold sV at ar;simp only[ar3,decide_eq_true_eq] at ar;obtain⟨aL,aT,a7,bp,bf⟩:=ar;refine⟨aL,?_⟩;have Lo:o.act.key.length<=20/\(o.act.kind=4#8->o.act.val.text.length<=30) :=by
    unfold kE at a7;split at a7
    ·rename_i h1;simp only[ar3,decide_eq_true_eq] at a7;rw[a7.1];exact⟨by simp,fun h=>by rw[h1] at h; cases h⟩
    ·split at a7
     ·rename_i h1 ae;simp only[ar3] at a7;have hk:=a7.1;unfold gN at hk;simp only[ar3,decide_eq_true_eq] at hk;exact⟨hk.1.2,fun h=>by rw[h] at ae; rcases ae with ae | ae<;>cases ae⟩
     ·split at a7
      ·simp only[ar3] at a7;obtain⟨hk,aw⟩:=a7;unfold gN at hk;simp only[ar3,decide_eq_true_eq] at hk;refine⟨hk.1.2,fun _=>?_⟩;unfold ke at aw;split at aw
       ·simp only[ar3,decide_eq_true_eq] at aw; rw[aw.2]; simp
       ·split at aw
        ·simp only[ar3,decide_eq_true_eq] at aw; rw[aw.1.2]; simp
        ·split at aw
         ·simp only[ar3,decide_eq_true_eq] at aw; exact aw.1.2
         ·cases aw
      ·cases a7
   have my:=iF o.hq.toNat
   have ny:=iF o.cl.toNat
   have sd:=DU ax;have se:=BN (fA o.act.key);rw[ra] at se;have mz:=EN o.act.val;have n6:(opHead o).length<=10:=by unfold opHead; simp; omega
   unfold ln;simp only[asa,asp,asU];have n7:(if o.act.kind=1#8 then ([] :List B) else jL (fA o.act.key)).length<=29:=by
    split
    ·simp
    ·omega
   have n8:(if o.act.kind=4#8 then jM o.act.val else []).length<=50:=by
    split
    ·rename_i h; have:=Lo.2 h; omega
    ·simp
   omega
  ·cases h
 ·cases h
theorem ak3 (o:bq) (aq:jO o) :bx Tryz.prog GS 95 [.aI (a1 o)] (.int .i64 (rf o)) :=by
 refine bH Tryz.checked.mixed bD ?_;apply bm Tryz.func95 [];unfold rf;have b6:=k5 o;have cO:=IW o aq;have rL:aZ [ad.aI (a1 o)]=true:=by simp[aZ,ad.closed,b6]
 by_cases aB:fy o=0
 ·obtain⟨ar,bn⟩:=UL aq.ids aB;rw[if_pos aB];simp[a1];refine aW cO rL ?_;simp[aB];refine Xm o aq (PD aB) fun w l' h=>?_
  have fh:l'[0]? = some (.cells 11 (a1 o)) :=by rw[h.same 0 (by simp)]; rfl
  have xe:=fh;simp[a1] at xe;have aw:=ak2 o.hq ar (some (ln o)) bn o.e o.s;simp[xe];refine iW aw (.cons (.same _ rfl) (.cons (h.tH (fun _=>rfl) (some (ln o)) rfl rfl) (.cons (.same _ rfl) .nil))) rfl ?_;simp;exact aK rfl rfl
 ·rw[if_neg aB];simp[a1];refine aW cO rL ?_;simp[aB];exact aK rfl rfl
theorem ahV (o:bq) (aq:jO o) (aB:fy o=0) :bx Tryz.prog GS 82 [.aI (a1 o)] (.bool (N8 o)) :=by
 refine bH Tryz.checked.mixed bD ?_;apply bm Tryz.func82 [[[0],[1],[2],[4],[5],[3,5,1]]];have b6:=k5 o;obtain⟨ar,bn⟩:=UL aq.ids aB;have aw:=ahR o.hq ar (some (ln o)) (by show (ln o).length<=_; omega) o.e o.s;simp[a1];refine VJ o aq (by have:=xc aB; omega) fun w l' h=>?_
 have fh:l'[0]? = some (.cells 11 (a1 o)) :=by rw[h.same 0 (by simp)]; rfl
 have xe:=fh;simp[a1] at xe;simp[xe];refine iW aw (.cons (.same _ rfl) (.cons (h.tH (fun _=>rfl) (some (ln o)) rfl rfl) (.cons (.same _ rfl) .nil))) rfl ?_;simp;exact aK rfl rfl
theorem ah0 (o:bq) (aq:jO o) :bx Tryz.prog GS 39 [.aI (a1 o)] (.int .i64 (rf o)) :=by
 refine bH Tryz.checked.mixed bD ?_;apply bm Tryz.func39 [];unfold rf;have b6:=k5 o;have cO:=Nx o aq;have rL:aZ [ad.aI (a1 o)]=true:=by simp[aZ,ad.closed,b6]
 by_cases aB:fy o=0
 ·rw[if_pos aB];simp[a1];refine aW cO rL ?_;simp[aB];refine aW (ahV o aq aB) rL ?_;cases ak:N8 o with
  | true=>simp; exact aK rfl rfl
  | false=>simp; exact aK rfl rfl
 ·rw[if_neg aB];simp[a1];refine aW cO rL ?_;simp[aB];refine aW cO rL ?_;simp;exact aK rfl rfl
end Op

end Go.cf

namespace Go.cf
open Go Go.Proofs
set_option maxRecDepth 100000
namespace Op

section
variable {α:Type} {z:Nat} {enc:α->List ad}
theorem Bs {l l1:ap} {v:ad} {a:List α} {fx:Bool} (h:cj z enc l l1 v a fx) {k:Nat} {y:α} (ay:a[k]? = some y) :
  ∃ p cs o,cd (.au z) v (.int .i64 (k:Int))=some p/\eZ l1 p=some (cs,o)/\o+z<=cs.length/\(cs.drop o).take z=enc y:=by
 obtain⟨j,aq,_⟩:=h;exact aq.q.get (k:=.i64) (i:=k) (e:=enc y) (by rw[ar5,ay]; rfl)
theorem H2 {l l1:ap} {v:ad} {a:List α} {fx:Bool} (h:cj z enc l l1 v a fx) (av:∀ y∈a,(enc y).length=z) {k:Nat} {y:α} {X:ad} (b3:X.cells=some (enc y)) (hk:k<a.length) (ay:(enc y).length=z) :
  ∃ p l',cd (.au z) v (.int .i64 (k:Int))=some p/\kw z l1 p X=some l'/\cj z enc l l' v (a.set k y) fx:=by
 obtain⟨j,aq,ae,al,aE,aU⟩:=h;obtain⟨p,l',aX,bg,a3,a4,a5⟩:=zf b3 aq av hk ay;refine⟨p,l',aX,bg,j,a3,by omega,fun b ag=>?_,aE,aU⟩;rcases aE with aE | aE
 ·subst aE;have:=aq.q.qX;rw[ate] at this;rw[this] at hk; simp at hk
 ·rw[a5 b (by omega)]; exact al b ag
theorem M1 {by_:Nat} {l l1:ap} {v:ad} {a:List α} {fx:Bool} (h:cj z enc l l1 v a fx) (x:α) {b:Nat} (ag:l1[b]? = some (.cells z (enc x))) (ai:(enc x).length=z) (aB:z≠0) (eD:by_≠0) (dO:(a.length+1)*by_<=cK) :
  ∃ a8 l',i1 l1 z by_ v (.au z b 0 1 1 z)=some (a8,l')/\cj z enc l l' a8 (a++[x]) false/\l1.length<=l'.length:=by
 obtain⟨a8,l',aL,aT,a7⟩:=h.app (by_:=by_) (x:=.au z b 0 1 1 z) (xs:=[x]) (by simp[dA,ag,ai,arX]) (by simp[ai]) aB eD (by simpa using dO);exact⟨a8,l',aL,by simpa using aT,a7⟩
def e5 (l:List α) (i:Nat) (x:α) :List α:=l.take i++x::l.drop i
theorem ti (l:List α) (i:Nat) (x:α) :(e5 l i x).length=l.length+1:=by
 unfold e5;have:=congrArg List.length (asK i l);simp only[asa,asp] at this ⊢; omega
theorem TQ {l:List α} {i:Nat} {x:α} (ax:i<=l.length) :(e5 l i x)[i]? = some x:=by
 unfold e5;rw[ar8 (by rw[asc]; omega),asc,asR ax]; simp
theorem TR {l:List α} {i k:Nat} {x:α} (hk:k<i) (ax:i<=l.length) :(e5 l i x)[k]? = l[k]?:=by
 unfold e5;rw[arZ (by rw[asc]; omega),asf hk]
theorem TS {l:List α} {i:Nat} {x y:α} (ay:l[i]? = some y) :((e5 l (i+1) x).set (i+1) y).set i x=e5 l i x:=by
 have ax:=(arY.1 ay).1;have h1:l.take (i+1)=l.take i++[y] :=by rw[ash,ay]; rfl
 have ae:l.drop i=y::l.drop (i+1) :=by rw[asS ax,(arY.1 ay).2]
 have am:(l.take i).length=i:=by rw[asc]; omega
 unfold e5;rw[h1,ae,ass];rw[asy _ _ (by omega),asy _ _ (by omega),am];simp
theorem Be {l:List α} {i:Nat} {x y:α}:y∈e5 l i x<->y=x\/y∈l:=by
 unfold e5;rw[asu,as0];constructor
 ·rintro (h | h | h)
  ·exact .inr (asz h)
  ·exact .inl h
  ·exact .inr (atx h)
 ·rintro (h | h)
  ·exact .inr (.inl h)
  ·rw[<-asK i l,asu] at h;exact h.elim .inl fun h=>.inr (.inr h)
theorem TP {s r:List α} {i:Nat} (ax:i<=s.length) (x:α) :e5 (s++r) i x=e5 s i x++r:=by
 unfold e5;rw[asm ax,asL ax]; simp
def iV (lt:α->α->Bool) (l:List α) (x:α) :Nat->Nat
 | 0=>0
 | k+1=>match l[k]? with
  | some y=>if lt x y then iV lt l x k else k+1
  | none=>k+1
theorem Ve (lt:α->α->Bool) (l:List α) (x:α) :∀ k,iV lt l x k<=k
 | 0=>ar0 _
 | k+1=>by
  unfold iV;split
  ·split
   ·have:=Ve lt l x k; omega
   ·exact ar0 _
  ·exact ar0 _
theorem Bx {lt:α->α->Bool} {l:List α} {x y:α} {k:Nat} (h:l[k]? = some y) :iV lt l x (k+1)=if lt x y then iV lt l x k else k+1:=by
 rw[iV,h]
theorem Vd (lt:α->α->Bool) (s r:List α) (x:α) :∀ k,k<=s.length->iV lt (s++r) x k=iV lt s x k
 | 0,_=>rfl
 | k+1,hk=>by
  obtain⟨y,ay,_⟩:=bu (l:=s) (k:=k) (by omega);rw[Bx ay,Bx (by rw[arZ (by omega)]; exact ay),Vd lt s r x k (by omega)]
theorem Mu {lt:α->α->Bool} (yY:∀ a b c,lt a b=true->lt b c=true->lt a c=true) {l:List α} {x:α} (ak:l.Pairwise fun a b=>lt a b=true) (ai:∀ y∈l,lt x y=false->lt y x=true) :
  (e5 l (iV lt l x l.length) x).Pairwise fun a b=>lt a b=true:=by
 have key:∀ k,k<=l.length->(∀ y∈l.drop k,lt x y=true)->(e5 l (iV lt l x k) x).Pairwise fun a b=>lt a b=true:=by
  intro k
  induction k with
  | zero=>
   intro _ h;show (e5 l 0 x).Pairwise _;unfold e5;rw[atm,asO,as1,aue];exact⟨h,ak⟩
  | succ k aO=>
   intro hk h;obtain⟨y,ay,ch⟩:=bu (l:=l) (k:=k) (by omega);rw[Bx ay];have bN:l.drop k=y::l.drop (k+1) :=by rw[asS (by omega),(arY.1 ay).2]
   have aJ:l.take (k+1)=l.take k++[y] :=by rw[ash,ay]; rfl
   cases lg:lt x y with
   | true=>
    rw[if_pos rfl];refine aO (by omega) fun w hw=>?_
    rw[bN] at hw;rcases as0.1 hw with rfl | hw
    ·exact lg
    ·exact h w hw
   | false=>
    rw[if_neg (by simp)];have uU:=ai y ch lg;have h1:∀ a∈l.take (k+1),lt a x=true:=fun a az=>by
     rw[aJ,asu,asl] at az;rcases az with az | rfl
     ·have ae:(l.take k++y::l.drop (k+1)).Pairwise fun a b=>lt a b=true:=by rw[<-bN,asK]; exact ak
      exact yY _ _ _ ((auo.1 ae).2.2 a az y (by simp)) uU
     ·exact uU
    unfold e5;have ae:=ak;rw[<-asK (k+1) l] at ae;obtain⟨lV,sj,Ed⟩:=auo.1 ae;refine auo.2 ⟨lV,aue.2 ⟨h,sj⟩,fun a az b ag=>?_⟩;rcases as0.1 ag with rfl | ag
    ·exact h1 a az
    ·exact Ed a az b ag
 exact key _ (ar0 _) (by simp)
theorem ID {lt:α->α->Bool} (GQ:∀ a,lt a a=false) (yY:∀ a b c,lt a b=true->lt b c=true->lt a c=true) :∀ {l m:List α},l.Pairwise (fun a b=>lt a b=true)->m.Pairwise (fun a b=>lt a b=true)->(∀ y,y∈l<->y∈m)->l=m
 | [],[],_,_,_=>rfl
 | [],b::m,_,_,h=>absurd ((h b).2 (by simp)) (by simp)
 | a::l,[],_,_,h=>absurd ((h a).1 (by simp)) (by simp)
 | a::l,b::m,am,hm,h=>by
  obtain⟨l1,bQ⟩:=aue.1 am;obtain⟨g9,lk⟩:=aue.1 hm;have fu:a=b:=by
   rcases as0.1 ((h a).1 (by simp)) with e | e
   ·exact e
   ·rcases as0.1 ((h b).2 (by simp)) with bE | bE
    ·exact bE.symm
    ·have:=yY _ _ _ (g9 a e) (l1 b bE);rw[GQ] at this; cases this
  subst fu;congr 1;refine ID GQ yY bQ lk fun y=>⟨fun ay=>?_,fun ay=>?_⟩
  ·rcases as0.1 ((h y).1 (by simp[ay])) with e | e
   ·subst e;have:=l1 y ay;rw[GQ] at this; cases this
   ·exact e
  ·rcases as0.1 ((h y).2 (by simp[ay])) with e | e
   ·subst e;have:=g9 y ay;rw[GQ] at this; cases this
   ·exact e
def je (lt:α->α->Bool) (u:List α) :Nat->List α
 | 0=>[]
 | i+1=>match u[i]? with
  | some x=>e5 (je lt u i) (iV lt (je lt u i) x (je lt u i).length) x
  | none=>je lt u i
theorem IC {lt:α->α->Bool} {u:List α} {i:Nat} {x:α} (h:u[i]? = some x) :je lt u (i+1)=e5 (je lt u i) (iV lt (je lt u i) x (je lt u i).length) x:=by rw[je,h]
theorem N9 {lt:α->α->Bool} {u:List α}:∀ {i:Nat},i<=u.length->(je lt u i).length=i
 | 0,_=>rfl
 | i+1,h=>by
  obtain⟨x,ai,_⟩:=bu (l:=u) (k:=i) (by omega);rw[IC ai,ti,N9 (by omega)]
theorem zq {lt:α->α->Bool} {u:List α} {y:α}:∀ {i:Nat},i<=u.length->(y∈je lt u i<->y∈u.take i)
 | 0,_=>by simp[je]
 | i+1,h=>by
  obtain⟨x,ai,_⟩:=bu (l:=u) (k:=i) (by omega);rw[IC ai,Be,zq (by omega),ash,ai,asu];simp[or_comm]
theorem Oa {lt:α->α->Bool} (yY:∀ a b c,lt a b=true->lt b c=true->lt a c=true) (Ts:∀ a b,a≠b->lt a b=false->lt b a=true) {u:List α} (aF:u.Nodup) :∀ {i:Nat},i<=u.length->(je lt u i).Pairwise fun a b=>lt a b=true
 | 0,_=>List.Pairwise.nil
 | i+1,h=>by
  obtain⟨x,ai,_⟩:=bu (l:=u) (k:=i) (by omega);rw[IC ai];refine Mu yY (Oa yY Ts aF (by omega)) fun y ay lg=>Ts x y (fun e=>?_) lg
  subst e;rw[zq (by omega)] at ay;have ae:(u.take i++[x]).Nodup:=by
   have:u.take (i+1)=u.take i++[x] :=by rw[ash,ai]; rfl
   rw[<-this]; exact aF.sublist (auE _ _)
  exact (ath.1 ae).2.2 x ay x (by simp) rfl
end

section
variable {α:Type} [DecidableEq α]
end

end Op

end Go.cf

namespace Go.cf
open Go Go.Proofs
set_option maxRecDepth 100000
namespace Op
open gZ
def hv {α:Type} [DecidableEq α] (x:α) :List α->Nat->Int
 | [],_=>-1
 | y::r,k=>if y=x then (k:Int) else hv x r (k+1)
theorem r2 {α:Type} [DecidableEq α] (x:α) :∀ (l:List α) (k:Nat),(0<=hv x l k)<->x∈l
 | [],k=>by simp[hv]
 | y::r,k=>by
  unfold hv;by_cases h:y=x
  ·simp[h]
  ·rw[if_neg h,r2 x r (k+1)];simp[Ne.symm h]
theorem y2 {α:Type} [DecidableEq α] {x:α}:∀ {l:List α} {k n:Nat} {y:α},l[k]? = some y->(∀ (j:Nat) (z:α),j<k->l[j]? = some z->z≠x)->y=x->hv x l n=((n+k:Nat) :Int)
 | [],k,n,y,h,_,_=>by simp at h
 | w::r,0,n,y,h,_,ay=>by
  simp at h; subst h;unfold hv;rw[if_pos ay]; simp
 | w::r,k+1,n,y,h,am,ay=>by
  unfold hv;rw[if_neg (am 0 w (by omega) (by simp)),y2 (k:=k) (n:=n+1) (by simpa using h) (fun j z aj av=>am (j+1) z (by omega) (by simpa using av)) ay];congr 1; omega
theorem HA {α:Type} [DecidableEq α] {x:α}:∀ {l:List α} {n:Nat},(∀ (j:Nat) (z:α),l[j]? = some z->z≠x)->hv x l n=-1
 | [],n,_=>rfl
 | w::r,n,am=>by
  unfold hv;rw[if_neg (am 0 w (by simp)),HA fun j z av=>am (j+1) z (by simpa using av)]
theorem akR (s:dM) (aq:fo s) (am:s.l.length<=1000000) (x:List B) (ai:x.length=32) :bx Tryz.prog GS 116 [aN s,.aI (aQ x)] (.int .i64 (hv x s.l 0)) :=by
 refine bH Tryz.checked.mixed bD ?_;apply bm Tryz.func116 [];simp[aN];refine cw s.l.length (fun k af l=>l=[.cells 32 (aQ x)]/\af 0=cL 32 aQ s/\af 3=.ptr 0 0 32/\af 7=.int .i64 s.l.length/\af 8=.int .i64 k/\∀ (j:Nat) (z:List B),j<k->s.l[j]? = some z->z≠x) ?_ (by simp[aN,cA ai]);rintro k af l hk ⟨rfl,cg,a7,dh,de,ak⟩;obtain⟨af,rfl⟩:=jh cg a7 dh de;clear cg a7 dh de;simp;refine g8 (fun h=>?_) (fun h=>?_)
 ·simp only[decide_eq_true_eq] at h;obtain⟨y,ay,ch⟩:=bu (l:=s.l) (k:=k) (by omega);have aR:IntKind.i64.wrap ((k:Int)+1)=((k+1:Nat) :Int) :=by rw[IntKind.wrap_i64]; omega
  simp[ay,cA (aq y ch),cA ai,arX,Hq ai (aq y ch)];by_cases ao:x=y
  ·have fF:=y2 (n:=0) ay ak ao.symm;simp[ao];exact aK (by rw[<-ao,fF]; simp) rfl
  ·simp[ao,aR];refine⟨by omega,fun j z aj av=>?_⟩;by_cases fB:j=k
   ·subst fB; rw[ay] at av; obtain rfl:=Option.some.inj av; exact fun h=>ao h.symm
   ·exact ak j z (by omega) av
 ·simp[h];have fR:k=s.l.length:=by simp at h; omega
  exact aK (by rw[HA fun j z av=>ak j z (by rw[fR]; exact (arY.1 av).1) av]) rfl
theorem ER (s:dM) (aq:fo s) (am:s.l.length<=1000000) (x:List B) (ai:x.length=32) :bx Tryz.prog GS 70 [aN s,.aI (aQ x)] (.bool (decide (x∈s.l))) :=by
 refine bH Tryz.checked.mixed bD ?_;apply bm Tryz.func70 [];simp[cA ai,arX];refine aW (akR s aq am x ai) (by have:=eb s; have:=eP x; simp_all [aZ,ad.closed]) ?_;simp;exact aK (congrArg ad.bool (by simp only[r2])) rfl
theorem zl (s:dM) (aq:fo s) (am:s.l.length<=1000000) (x:List B) (ai:x.length=32) :bx Tryz.prog GS 79 [aN s,.aI (aQ x)] (.bool (decide (x∈s.l))) :=by
 refine bH Tryz.checked.mixed bD ?_;apply bm Tryz.func79 [];simp[aN];refine cw s.l.length (fun k af l=>l=[.cells 32 (aQ x)]/\af 0=cL 32 aQ s/\af 3=.ptr 0 0 32/\af 5=.int .i64 k/\∀ (j:Nat) (z:List B),j<k->s.l[j]? = some z->z≠x) ?_ (by simp[aN,cA ai]);rintro k af l hk ⟨rfl,cg,a7,bf,ak⟩;obtain⟨af,rfl⟩:=kb cg a7 bf;clear cg a7 bf;simp;refine g8 (fun h=>?_) (fun h=>?_)
 ·simp only[decide_eq_true_eq] at h;obtain⟨y,ay,ch⟩:=bu (l:=s.l) (k:=k) (by omega);have aR:IntKind.i64.wrap ((k:Int)+1)=((k+1:Nat) :Int) :=by rw[IntKind.wrap_i64]; omega
  simp[ay,cA (aq y ch),cA ai,arX,Hq (aq y ch) ai];by_cases ao:y=x
  ·simp[ao];exact aK (congrArg ad.bool (decide_eq_true (by rw[<-ao]; exact ch)).symm) rfl
  ·simp[ao,aR];refine⟨by omega,fun j z aj av=>?_⟩;by_cases fB:j=k
   ·subst fB; rw[ay] at av; obtain rfl:=Option.some.inj av; exact ao
   ·exact ak j z (by omega) av
 ·simp[h];have fR:k=s.l.length:=by simp at h; omega
  refine aK (congrArg ad.bool (decide_eq_false fun hm=>?_).symm) rfl;obtain⟨j,aj⟩:=ar6.1 hm;exact ak j x (by rw[fR]; exact (arY.1 aj).1) aj rfl
theorem Im (s:dM) (aq:fo s) (am:s.l.length<=1000000) (x:List B) (ai:x.length=32) :bx Tryz.prog GS 75 [aN s,.aI (aQ x)] (.int .i64 (hv x s.l 0)) :=by
 refine bH Tryz.checked.mixed bD ?_;apply bm Tryz.func75 [];simp[aN];refine cw s.l.length (fun k af l=>l=[.cells 32 (aQ x)]/\af 0=cL 32 aQ s/\af 3=.ptr 0 0 32/\af 5=.int .i64 k/\∀ (j:Nat) (z:List B),j<k->s.l[j]? = some z->z≠x) ?_ (by simp[aN,cA ai]);rintro k af l hk ⟨rfl,cg,a7,bf,ak⟩;obtain⟨af,rfl⟩:=kb cg a7 bf;clear cg a7 bf;simp;refine g8 (fun h=>?_) (fun h=>?_)
 ·simp only[decide_eq_true_eq] at h;obtain⟨y,ay,ch⟩:=bu (l:=s.l) (k:=k) (by omega);have aR:IntKind.i64.wrap ((k:Int)+1)=((k+1:Nat) :Int) :=by rw[IntKind.wrap_i64]; omega
  simp[ay,cA (aq y ch),cA ai,arX,Hq (aq y ch) ai];by_cases ao:y=x
  ·have fF:=y2 (n:=0) ay ak ao;simp[ao];exact aK (by rw[fF]; simp) rfl
  ·simp[ao,aR];refine⟨by omega,fun j z aj av=>?_⟩;by_cases fB:j=k
   ·subst fB; rw[ay] at av; obtain rfl:=Option.some.inj av; exact fun h=>ao h
   ·exact ak j z (by omega) av
 ·simp[h];have fR:k=s.l.length:=by simp at h; omega
  exact aK (by rw[HA fun j z av=>ak j z (by rw[fR]; exact (arY.1 av).1) av]) rfl
def mH (l cT:List (List B)) :Bool:=decide (∀ p∈cT,p∈l)
theorem Nv (s:dM) (aq:fo s) (am:s.l.length<=1000000) (t:dM) (aJ:fo t) (lf:t.l.length<=1000000) :bx Tryz.prog GS 80 [aN s,aN t] (.bool (mH s.l t.l)) :=by
 refine bH Tryz.checked.mixed bD ?_;apply bm Tryz.func80 [];have cb:=eb s;have aM:cz (.au 32) (aN t)=some (.int .i64 t.l.length) :=by simp[aN]
 simp;refine cw t.l.length (fun k af l=>af 0=aN s/\af 1=aN t/\af 5=.int .i64 k/\∀ (j:Nat) (z:List B),j<k->t.l[j]? = some z->z∈s.l) ?_ (by simp);rintro k af l hk ⟨cg,aL,bf,ak⟩;obtain⟨af,rfl⟩:=kb cg aL bf;clear cg aL bf;by_cases cH:k<t.l.length
 ·obtain⟨y,ay,ch⟩:=bu cH;have aR:IntKind.i64.wrap ((k:Int)+1)=((k+1:Nat) :Int) :=by rw[IntKind.wrap_i64]; omega
  have bG:cd (.au 32) (aN t) (.int .i64 (k:Int))=some (.b0 (aQ y) 0) :=by simp[aN,ay]
  have hY:=eP y;have eB:=Im s aq am y (aJ y ch);have b4:=cA (aJ y ch);have S2:=r2 y s.l 0;obtain⟨Y,dC⟩:∃ Y,Y=aQ y:=⟨_,rfl⟩
  rw[<-dC] at bG hY eB b4;simp[aM,cH,bG,b4,arX];refine aW eB (by simp[aZ,ad.closed,cb,hY]) ?_;by_cases hm:y∈s.l
  ·have ae:¬ hv y s.l 0<0:=by have:=S2.2 hm; omega
   simp[ae,cH,aR];intro j z aj av;by_cases fB:j=k
   ·subst fB; rw[ay] at av; obtain rfl:=Option.some.inj av; exact hm
   ·exact ak j z (by omega) av
  ·have ae:hv y s.l 0<0:=by
    rcases Int.lt_or_le (hv y s.l 0) 0 with h | h
    ·exact h
    ·exact absurd (S2.1 h) hm
   simp[ae];exact aK (congrArg ad.bool (decide_eq_false fun h=>hm (h y ch)).symm) rfl
 ·have fR:k=t.l.length:=by omega
  simp[aM,cH];refine aK (congrArg ad.bool (decide_eq_true fun p aC=>?_).symm) rfl;obtain⟨j,aj⟩:=ar6.1 aC;exact ak j p (by rw[fR]; exact (arY.1 aj).1) aj
theorem BC {l:List (List B)} (h:ea l=true) :∀ {i j:Nat} {a b:List B},i<j->l[i]? = some a->l[j]? = some b->cu a b<0:=by
 have aB:=of_decide_eq_true h;intro i j
 induction j with
 | zero=>intro a b iy; omega
 | succ j aO=>
  intro a b iy az ag;have e3:=(arY.1 ag).1;have h1:=aB (j+1) e3 (by omega);obtain⟨c,ah,_⟩:=bu (l:=l) (k:=j) (by omega);rw[show j+1 - 1=j by omega,fJ ah,fJ ag] at h1;by_cases adk:i=j
  ·subst adk;rw[az] at ah;obtain rfl:=Option.some.inj ah;exact h1
  ·exact uk _ _ _ (aO (by omega) az ah) h1
theorem aiu {l:List (List B)} (h:ea l=true) {i j:Nat} {a:List B} (az:l[i]? = some a) (ag:l[j]? = some a) :i=j:=by
 rcases atq i j with h1 | h1 | h1
 ·have:=BC h h1 az ag; rw[pf] at this; omega
 ·exact h1
 ·have:=BC h h1 ag az; rw[pf] at this; omega
def ru (l:List (List B)) (x:List B) :Nat:=(l.takeWhile fun t=>decide (cu t x<0)).length
theorem JK (x:List B) :∀ {l:List (List B)} {p:Nat},p<=l.length->(∀ (t:Nat) (y:List B),t<p->l[t]? = some y->cu y x<0)->(∀ y,l[p]? = some y->¬ cu y x<0)->ru l x=p
 | [],p,aC,_,_=>by simp at aC; subst aC; rfl
 | y::l,0,_,_,ae=>by
  have:=ae y (by simp);unfold ru;rw[atH,decide_eq_false this]; rfl
 | y::l,p+1,aC,h1,ae=>by
  have ay:=h1 0 y (by omega) (by simp);have aO:=JK x (l:=l) (p:=p) (by simpa using aC) (fun t z aJ av=>h1 (t+1) z (by omega) (by simpa using av)) (fun z av=>ae z (by simpa using av));unfold ru at aO ⊢;rw[atH,decide_eq_true ay];simpa using aO
theorem ai2 (n:Nat) (h:n<9223372036854775808) :cB .shr .u64 (n:Int) .u64 1=some (.int .u64 ((n / 2:Nat) :Int)) :=by
 have:=uh (BitVec.ofNat 64 n) .u64 1;have aP:(u (BitVec.ofNat 64 n) :Int)=n:=by unfold u; rw[asn,asg (by omega)]
 have aw:(u (BitVec.ofNat 64 n >>> 1) :Int)=((n / 2:Nat) :Int) :=by
  unfold u; rw[asH,asn,asg (by omega),aso]
 rw[aP,aw] at this;exact this
structure XG (s:dM) (X:List ad) (x:List B) (m:Nat) (af:bi) (l:ap) :Prop where
 ex:∃ (i j:Nat),j - i=m/\i<=j/\j<=s.l.length/\l=[.cells 32 X]/\af 0=aN s/\af 2=.fn 149 [] []/\af 4=.ptr 0 0 32/\af 8=.int .i64 s.l.length/\af 9=.int .i64 i/\af 10=.int .i64 j ∧
  (∀ (t:Nat) (y:List B),t<i->s.l[t]? = some y->cu y x<0)/\(∀ (t:Nat) (y:List B),j<=t->s.l[t]? = some y->¬ cu y x<0)
theorem Wn (s:dM) (aq:fo s) (am:s.l.length<=1000000) (x:List B) (ai:x.length=32) (hm:ea s.l=true) :
  bx Tryz.prog GS 164 [aN s,.aI (aQ x),.fn 149 [] []] (.bJ [.int .i64 (ru s.l x),.bool (decide (x∈s.l))]) :=by
 refine bH Tryz.checked.mixed bD ?_;apply bm Tryz.func164 [];have bn:cz (.au 32) (aN s)=some (.int .i64 s.l.length) :=by simp[aN]
 have a2:=cA ai;have fI:=eP x;have gV:∀ y∈s.l,bx Tryz.prog GS 149 [.aI (aQ y),.aI (aQ x)] (.int .i64 (cu y x)) :=fun y ay=>z7 y x (aq y ay) ai
 obtain⟨X,b3⟩:∃ X,X=aQ x:=⟨_,rfl⟩
 rw[<-b3] at a2 fI gV ⊢;simp[bn];refine r9 (XG s X x) ?_ s.l.length _ _ ⟨0,s.l.length,by omega,by omega,by omega,by simp[a2],by simp,by simp,by simp[a2],by simp,by simp,by simp,fun t y h=>by omega,fun t y h ae=>by rw[ase h] at ae; cases ae⟩;rintro m af l ⟨i,j,gw,iy,e3,rfl,cg,aT,bp,de,fP,ft,h1,ae⟩;obtain⟨af,rfl⟩:=vp cg aT bp de fP ft;clear cg aT bp de fP ft;by_cases aM:i<j
 ·obtain⟨h,aH⟩:∃ h,h=(i+j) / 2:=⟨_,rfl⟩
  have bX:IntKind.i64.wrap ((i:Int)+j)=((i+j:Nat) :Int) :=by rw[IntKind.wrap_i64]; omega
  have w2:IntKind.u64.wrap ((i+j:Nat) :Int)=((i+j:Nat) :Int) :=by rw[vr,as2]; unfold u; rw[asn,asg (by omega)]
  have et:=ai2 (i+j) (by omega);have oq:IntKind.i64.wrap (h:Int)=(h:Int) :=by rw[IntKind.wrap_i64]; omega
  have rh:IntKind.i64.wrap ((h:Int)+1)=((h+1:Nat) :Int) :=by rw[IntKind.wrap_i64]; omega
  have jz:(i:Int)<(j:Int) :=by omega
  rw[<-aH] at et;obtain⟨y,ay,ch⟩:=bu (l:=s.l) (k:=h) (by omega);have b4:=cA (aq y ch);have kq:=eP y;have bG:cd (.au 32) (aN s) (.int .i64 (h:Int))=some (.b0 (aQ y) 0) :=by simp[aN,ay]
  have hY:=gV y ch;obtain⟨Y,dC⟩:∃ Y,Y=aQ y:=⟨_,rfl⟩
  rw[<-dC] at b4 kq bG hY;obtain⟨N,fQ⟩:∃ N,N=i+j:=⟨_,rfl⟩
  rw[<-fQ] at bX w2 et;simp[aM,bX,w2,et,oq,bG,b4,a2,arX];refine⟨Ka,aW hY (by simp[aZ,ad.closed,kq,fI]) ?_⟩;by_cases bz:cu y x<0
  ·simp[bz,rh];refine⟨j - (h+1),by omega,h+1,j,rfl,by omega,by omega,by simp,by simp,by simp,by simp,by simp,by simp,by simp,fun t z aJ av=>?_,ae⟩;by_cases L2:t=h
   ·subst L2; rw[ay] at av; obtain rfl:=Option.some.inj av; exact bz
   ·exact uk _ _ _ (BC hm (by omega) av ay) bz
  ·simp[bz];refine⟨h - i,by omega,i,h,rfl,by omega,by omega,by simp,by simp,by simp,by simp,by simp,by simp,by simp,h1,fun t z aJ av dy=>bz ?_⟩;by_cases L2:t=h
   ·subst L2; rw[ay] at av; obtain rfl:=Option.some.inj av; exact dy
   ·exact uk _ _ _ (BC hm (by omega) ay av) dy
 ·have jz:¬ (i:Int)<(j:Int) :=by omega
  obtain rfl:i=j:=by omega
  have ah:=JK x (l:=s.l) (p:=i) e3 h1 (fun y ay=>ae i y (ar0 _) ay);have kO:∀ {y:List B},s.l[i]? = some y->(y=x<->x∈s.l) :=fun {y} ay=>by
   constructor
   ·rintro rfl; exact ar4 ay
   ·intro wS;obtain⟨t,aJ⟩:=ar6.1 wS;rcases atq t i with al | al | al
    ·have:=h1 t x al aJ; rw[pf] at this; omega
    ·subst al; rw[ay] at aJ; exact Option.some.inj aJ
    ·exact absurd (BC hm al ay aJ) (ae i y (ar0 _) ay)
  by_cases cY:i<s.l.length
  ·have Lg:(i:Int)<(s.l.length:Int) :=by omega
   obtain⟨y,ay,ch⟩:=bu (l:=s.l) (k:=i) cY;have b4:=cA (aq y ch);have kq:=eP y;have bG:cd (.au 32) (aN s) (.int .i64 (i:Int))=some (.b0 (aQ y) 0) :=by simp[aN,ay]
   have hY:=gV y ch;have C5:cu y x=0<->x∈s.l:=by
    rw[<-kO ay];exact⟨rs,fun h=>by rw[h]; exact pf _⟩
   obtain⟨Y,dC⟩:∃ Y,Y=aQ y:=⟨_,rfl⟩
   rw[<-dC] at b4 kq bG hY;simp[cY,bG,b4,a2,arX];refine⟨Ka,aW hY (by simp[aZ,ad.closed,kq,fI]) ?_⟩;simp;refine aK ?_ rfl;rw[ah];simp[C5]
  ·have Lg:¬ (i:Int)<(s.l.length:Int) :=by omega
   simp[cY];refine aK ?_ rfl;have dY:¬ x∈s.l:=fun wS=>by
    obtain⟨t,aJ⟩:=ar6.1 wS;have:=h1 t x (by have:=(arY.1 aJ).1; omega) aJ;rw[pf] at this; omega
   rw[ah,decide_eq_false dY]
theorem vU {l:List (List B)} (hm:ea l=true) {k:Nat} {x:List B} (h:l[k]? = some x) :ru l x=k:=
 JK x (atr (arY.1 h).1) (fun t y aJ ay=>BC hm aJ ay h) (fun y ay=>by rw[h] at ay; obtain rfl:=Option.some.inj ay; rw[pf]; omega)
structure bc where
 ids:dM
 ops:dg bq
def bM (s:dg bq) :ad:=cL 11 a1 s
def cV (g:bc) :List ad:=[aN g.ids,bM g.ops]
def cn (g:bc) :ad:=.aI (cV g)
structure ei (g:bc) :Prop where
 ids:fo g.ids
 ops:∀ o∈g.ops.l,jO o
 li:g.ids.l.length<=1000000
 c0:g.ops.l.length<=1000000
theorem jo (s:dg bq) :(bM s).closed=true:=xW k5 s
theorem ZE (g:bc) :aZ (cV g)=true:=by have:=eb g.ids; have:=jo g.ops; simp[cV,aZ, *]
theorem Fq (g:bc) :(cn g).closed=true:=by simp[cn,ad.closed,ZE]
def dB (ops:List bq) (i:Nat) :List (List B) :=match ops[i]? with | some o=>o.br.l | none=>[]
theorem q2 {ops:List bq} {i:Nat} {o:bq} (h:ops[i]? = some o) :dB ops i=o.br.l:=by unfold dB; rw[h]
inductive rk (ids:List (List B)) (ops:List bq) :Nat->Prop
 | mk (i:Nat) (ax:i<ids.length) (aC:∀ p∈dB ops i,p∈ids) (ar:∀ p∈dB ops i,∀ j,ids[j]? = some p->rk ids ops j) :rk ids ops i
theorem rk.lt {ids:List (List B)} {ops:List bq} {i:Nat} (h:rk ids ops i) :i<ids.length:=by cases h; assumption
def jj (ids:List (List B)) :Prop:=∀ (i j:Nat) (x:List B),ids[i]? = some x->ids[j]? = some x->i=j
theorem m3 {ids:List (List B)} (h:ea ids=true) :jj ids:=fun _ _ _ h1 ae=>aiu h h1 ae
theorem vl:∀ {a b:List Nat},a.Nodup->(∀ x∈a,x∈b)->a.length<=b.length
 | [],_,_,_=>ato _
 | x::a,b,aF,ak=>by
  rw[auv] at aF;have ai:=ak x (by simp);have aO:=vl (b:=b.erase x) aF.2 (fun y ay=>(List.mem_erase_of_ne (fun e=>aF.1 (by rw[<-e]; exact ay))).2 (ak y (by simp[ay])));rw[avk ai] at aO;have:=List.length_pos_of_mem ai;simp; omega
def ui (ids:List (List B)) (ops:List bq) (out:List Nat) (i:Nat) :Bool:=decide (i∉out)&&mH (out.map (b2 ids)) (dB ops i)
def mA (ids:List (List B)) (ops:List bq) (out:List Nat) :Option Nat:=(List.range ops.length).find? (ui ids ops out)
def gF (ids:List (List B)) (ops:List bq) :Nat->List Nat
 | 0=>[]
 | k+1=>match mA ids ops (gF ids ops k) with | some i=>gF ids ops k++[i] | none=>gF ids ops k
def tz (ids:List (List B)) (ops:List bq) :List Nat:=gF ids ops ops.length
theorem agH {ids:List (List B)} {ops:List bq} {out:List Nat} {i:Nat} (h:mA ids ops out=some i) :i<ops.length/\i∉out/\∀ p∈dB ops i,p∈out.map (b2 ids) :=by
 have h1:=List.find?_some h;have ae:=ava h;unfold ui at h1;rw[ar3,decide_eq_true_eq] at h1;exact⟨asJ.1 ae,h1.1,of_decide_eq_true h1.2⟩
theorem agG {ids:List (List B)} {ops:List bq} {out:List Nat} (h:mA ids ops out=none) {i:Nat} (ax:i<ops.length) (aq:i∉out) :¬ ∀ p∈dB ops i,p∈out.map (b2 ids) :=by
 intro aH;have:=List.find?_eq_none.1 h i (asJ.2 ax);apply this;unfold ui;rw[ar3];exact⟨decide_eq_true aq,decide_eq_true aH⟩
theorem agE {ids:List (List B)} {ops:List bq} {out:List Nat} {i:Nat} (ax:i<ops.length) (h:ui ids ops out i=true) (ag:∀ j,j<i->ui ids ops out j=false) :mA ids ops out=some i:=by
 unfold mA;rw[List.find?_range_eq_some];exact⟨h,by simpa using ax,fun j aj=>by rw[ag j aj]; rfl⟩
theorem agF {ids:List (List B)} {ops:List bq} {out:List Nat} (ag:∀ j,j<ops.length->ui ids ops out j=false) :mA ids ops out=none:=by
 unfold mA;rw[List.find?_eq_none];intro j aj;rw[ag j (asJ.1 aj)]; simp
theorem M7 {ids:List (List B)} {ops:List bq} {k i:Nat} (h:mA ids ops (gF ids ops k)=some i) :gF ids ops (k+1)=gF ids ops k++[i] :=by
 show (match mA ids ops (gF ids ops k) with | some i=>gF ids ops k++[i] | none=>gF ids ops k)=_;rw[h]
theorem US {ids:List (List B)} {ops:List bq} {k:Nat} (h:mA ids ops (gF ids ops k)=none) :gF ids ops (k+1)=gF ids ops k:=by
 show (match mA ids ops (gF ids ops k) with | some i=>gF ids ops k++[i] | none=>gF ids ops k)=_;rw[h]
theorem Eb (ids:List (List B)) (ops:List bq) (aF:ids.length=ops.length) (aj:jj ids) :∀ k,(gF ids ops k).Nodup/\(gF ids ops k).length<=k/\∀ i∈gF ids ops k,i<ops.length/\rk ids ops i
 | 0=>⟨avx,ar0 _,fun i ax=>by cases ax⟩
 | k+1=>by
  obtain⟨h1,ae,al⟩:=Eb ids ops aF aj k;cases ai:mA ids ops (gF ids ops k) with
  | none=>rw[US ai]; exact⟨h1,by omega,al⟩
  | some i=>
   rw[M7 ai];obtain⟨aX,bg,a3⟩:=agH ai;refine⟨?_,by simp; omega,fun j wB=>?_⟩
   ·rw[ath];refine⟨h1,by simp,fun x ai y ay e=>?_⟩;rw[asl] at ay;subst e;rw[ay] at ai;exact bg ai
   ·rw[asu,asl] at wB;rcases wB with wB | rfl
    ·exact al j wB
    ·have eB:∀ t,t<ids.length->ids[t]? = some (b2 ids t) :=fun t aJ=>by
      obtain⟨x,ai,_⟩:=bu (l:=ids) aJ;rw[ai,fJ ai]
     refine⟨aX,.mk j (by omega) (fun p aC=>?_) fun p aC j2 gi=>?_⟩
     ·obtain⟨t,aJ,rfl⟩:=asr.1 (a3 p aC);exact ar4 (eB t (by have:=(al t aJ).1; omega))
     ·obtain⟨t,aJ,rfl⟩:=asr.1 (a3 p aC);obtain⟨dx,di⟩:=al t aJ;rw[aj j2 t _ gi (eB t (by omega))];exact di
theorem M6 {ids:List (List B)} {ops:List bq} {k:Nat} (h:mA ids ops (gF ids ops k)=none) :∀ m,gF ids ops (k+m)=gF ids ops k
 | 0=>rfl
 | m+1=>by
  have aO:=M6 h m;rw[<-atJ,US (by rw[aO]; exact h),aO]
theorem Uv {n:Nat} {l:List Nat} (aF:l.Nodup) (am:l.length=n) (ag:∀ i∈l,i<n) :∀ i,i<n->i∈l:=by
 intro i ax;apply Classical.byContradiction;intro dY;have:=vl (a:=i::l) (b:=List.range n) (auv.2 ⟨dY,aF⟩) (fun x ai=>by
  rw[as0] at ai;rcases ai with rfl | ai
  ·exact asJ.2 ax
  ·exact asJ.2 (ag x ai))
 simp[am] at this;omega
theorem UT {ids:List (List B)} {ops:List bq} (aF:ids.length=ops.length) (aj:jj ids) :(tz ids ops).length=ops.length<->∀ i,i<ops.length->rk ids ops i:=by
 obtain⟨h1,ae,al⟩:=Eb ids ops aF aj ops.length;constructor
 ·intro h i ax;exact (al i (Uv h1 h (fun i ax=>(al i ax).1) i ax)).2
 ·intro h;have pr:∀ k,k<=ops.length->(gF ids ops k).length=k\/∃ m,m<=k/\mA ids ops (gF ids ops m)=none:=by
   intro k
   induction k with
   | zero=>intro _; exact .inl rfl
   | succ k aO=>
    intro hk;rcases aO (by omega) with aE | ⟨m,hm,aE⟩
    ·cases ai:mA ids ops (gF ids ops k) with
     | none=>exact .inr ⟨k,by omega,ai⟩
     | some i=>left; rw[M7 ai]; simp[aE]
    ·exact .inr ⟨m,by omega,aE⟩
  rcases pr ops.length (ar0 _) with aE | ⟨m,hm,aE⟩
  ·exact aE
  ·have b1:gF ids ops ops.length=gF ids ops m:=by
    have:=M6 aE (ops.length - m)
    rwa [show m+(ops.length - m)=ops.length by omega] at this
   have fg:∀ i,rk ids ops i->i<ops.length->i∈gF ids ops m:=by
    intro i ar
    induction ar with
    | mk i ax aC ar aO=>
     intro aM;apply Classical.byContradiction;intro dY;refine agG aE aM dY fun p uL=>?_
     obtain⟨j,jZ⟩:=ar6.1 (aC p uL);exact asr.2 ⟨j,aO p uL j jZ (by have:=(arY.1 jZ).1; omega),fJ jZ⟩
   show (gF ids ops ops.length).length=ops.length;rw[b1];have aU:=vl (a:=List.range ops.length) (b:=gF ids ops m) avl fun i ax=>fg i (h i (asJ.1 ax)) (asJ.1 ax)
   rw[List.length_range] at aU;rw[b1] at ae;omega
theorem QM (g:bc) (ar:ei g) (aA:ea g.ids.l=true) (x:List B) (ai:x.length=32) :bx Tryz.prog GS 114 [cn g,.aI (aQ x)] (.bJ [.int .i64 (ru g.ids.l x),.bool (decide (x∈g.ids.l))]) :=by
 refine bH Tryz.checked.mixed bD ?_;apply bm Tryz.func114 [];have cJ:=eb g.ids;have b6:=jo g.ops;have eF:=eP x;have a2:=cA ai;have ak:=Wn g.ids ar.ids ar.li x ai aA;obtain⟨X,b3⟩:∃ X,X=aQ x:=⟨_,rfl⟩
 rw[<-b3] at ak eF a2 ⊢;simp[cn,cV,a2,arX];refine aW ak (by simp[aZ,ad.closed,cJ,eF]) ?_;simp;exact aK rfl rfl
def hX (n:Nat) :List ad:=[.int .i64 (n:Int)]
def iK (b:Bool) :List ad:=[.bool b]
def dW {α:Type} (l:List α) :dg α:=match l with | []=>none | x::r=>some (x::r)
theorem fM {α:Type} (l:List α) :(dW l).l=l:=by cases l<;>rfl
theorem xv {α:Type} (l:List α) :(dW l).isNone=l.isEmpty:=by cases l<;>rfl
def J2 (l:dg Nat) :ad:=cL 1 hX l
theorem NH {α:Type} (zero:ad) (n:Nat) :dZ [zero] n=List.replicate n zero:=by
 rw[Is]
 induction n with
 | zero=>rfl
 | succ n aO=>rw[atd,as4,aO,atd]; rfl
theorem D1 {z by_ n:Nat} {k k' : IntKind} {zero:List ad} {l:ap} (av:zero.length=z) (h1:n<9223372036854775808) (ae:by_*n<=cK) :
  u5 z by_ zero l (.int k (n:Int)) (.int k' (n:Int))=some (.au z l.length 0 n n (n*z),l++[.cells (n*z) (dZ zero n)])/\bB z (l++[.cells (n*z) (dZ zero n)]) (.au z l.length 0 n n (n*z)) l.length (List.replicate n zero) :=by
 constructor
 ·have al:(by_:Int)*(n:Int)<=(cK:Int) :=by rw[<-Int.natCast_mul]; omega
  simp only[u5,asC];rw[if_pos ⟨by omega,by omega,by omega,al⟩]
 ·refine .au l.length n n (n*z) (dZ zero n) _ (by rw[ar8 (ar0 _)]; simp) (by rw[BA,av]) (by simp) (fun e ao=>by rw[atv ao]; exact av) (ar0 _) (ar0 _) ?_;rw[arX (by rw[BA,av]; omega),Is]
def rv (n:Nat) (out:List Nat) :List Bool:=(List.range n).map fun i=>decide (i∈out)
theorem Fu {n:Nat} {out:List Nat} {i:Nat} (h:i<n) :(rv n out)[i]? = some (decide (i∈out)) :=by
 unfold rv; rw[ar5,asI h]; rfl
theorem CA (n:Nat) (out:List Nat) :(rv n out).length=n:=by simp[rv]
theorem Z4 {n:Nat} {out:List Nat} {i:Nat} (h:i<n) :(rv n out).set i true=rv n (out++[i]) :=by
 apply asY;intro j;by_cases aj:j<n
 ·rw[Fu aj,atD];by_cases iy:i=j
  ·subst iy; simp[CA,h]
  ·rw[if_neg iy,Fu aj];simp[Ne.symm iy]
 ·rw[ase (by simp[CA]; omega),ase (by simp[CA]; omega)]
theorem Z3 (n:Nat) :rv n []=List.replicate n false:=by
 apply asY;intro j;by_cases aj:j<n
 ·rw[Fu aj]; simp[aj]
 ·rw[ase (by simp[CA]; omega),ase (by simp; omega)]
theorem one_cell {cs:List ad} {o:Nat} {c:ad} (h:(cs.drop o).take 1=[c]) :cs[o]? = some c:=by
 have h1:((cs.drop o).take 1)[0]? = some c:=by rw[h]; rfl
 rw[asf (by omega),asE] at h1;exact h1
structure X5 (g:bc) (out:List Nat) (v3 v4 v5:ad) (rest:ap) :Prop where
 ex:∃ m4 ja gm,bB 1 (.cells 2 (cV g) ::rest) v3 m4 (out.map hX)/\bB 32 (.cells 2 (cV g) ::rest) v4 ja ((out.map (b2 g.ids.l)).map aQ)/\bB 1 (.cells 2 (cV g) ::rest) v5 gm ((rv g.ops.l.length out).map iK) ∧
  1<=gm/\cx v5=false/\cx v3=out.isEmpty/\cx v4=out.isEmpty/\(out=[]\/(1<=m4/\1<=ja/\m4≠ja/\m4≠gm/\ja≠gm))
set_option maxHeartbeats 4000000 in
theorem ahM (g:bc) (ar:ei g) (am:g.ids.l.length=g.ops.l.length) (aj:jj g.ids.l) :bx Tryz.prog GS 83 [cn g] (J2 (dW (tz g.ids.l g.ops.l))) :=by
 refine bH Tryz.checked.mixed bD ?_;apply bm Tryz.func83 [[[0],[1],[2],[3],[4],[6],[7],[8],[9],[10],[11],[12],[5,12,11,8]]];have ml:cK=140737488355328:=rfl;have cJ:=eb g.ids;have b6:=jo g.ops;have dv:cz (.au 11) (bM g.ops)=some (.int .i64 g.ops.l.length) :=by simp[bM]
 have bn:=ar.c0;obtain⟨gw,i6⟩:=D1 (z:=1) (by_:=1) (n:=g.ops.l.length) (k:=.i64) (k':=.i64) (zero:=[ad.bool false]) (l:=[aY.cells 2 (cV g)]) rfl (by omega) (by rw[ml]; omega);simp only[cV,atC,NH (α:=Nat)] at gw i6;simp[cn,cV,dv,gw];refine r9 (fun m af l=>∃ (k:Nat) (rest:ap),l=.cells 2 (cV g) ::rest/\af 1=.ptr 0 0 2/\X5 g (gF g.ids.l g.ops.l k) (af 3) (af 4) (af 5) rest ∧
  ((af 6=.bool true/\(gF g.ids.l g.ops.l k).length=k/\m=g.ops.l.length - k+1)\/(af 6=.bool false/\mA g.ids.l g.ops.l (gF g.ids.l g.ops.l k)=none/\k<=g.ops.l.length/\m=0))) ?_ (g.ops.l.length+1) _ _ ?_
 ·rintro m af l ⟨k,rest,rfl,aL,uz,ak⟩;obtain⟨v3,a7⟩:∃ v,af 3=v:=⟨_,rfl⟩
  obtain⟨v4,bp⟩:∃ v,af 4=v:=⟨_,rfl⟩
  obtain⟨v5,bf⟩:∃ v,af 5=v:=⟨_,rfl⟩
  rw[a7,bp,bf] at uz;obtain⟨out,i8⟩:∃ out,out=gF g.ids.l g.ops.l k:=⟨_,rfl⟩
  rw[<-i8] at uz ak;obtain⟨yI,da,lM⟩:=Eb g.ids.l g.ops.l am aj k;rw[<-i8] at yI da lM;have bO:out.length<=g.ops.l.length:=by
   have:=vl (b:=List.range g.ops.l.length) yI (fun x ai=>asJ.2 (lM x ai).1);simpa using this
  rcases ak with ⟨bT,hk,rfl⟩ | ⟨bT,dY,g4,rfl⟩
  ·obtain⟨af,rfl⟩:=ky aL a7 bp bf bT;clear aL a7 bp bf bT;simp;refine cw g.ops.l.length (fun i af l=>l=.cells 2 (cV g) ::rest/\af 1=.ptr 0 0 2/\af 3=v3/\af 4=v4/\af 5=v5/\af 6=.bool false/\af 7=.int .i64 i/\∀ j,j<i->ui g.ids.l g.ops.l out j=false) ?_ (by simp);rintro i af l ax ⟨rfl,aL,a7,bp,bf,bT,dh,ak⟩;obtain⟨af,rfl⟩:=vp aL a7 bp bf bT dh;clear aL a7 bp bf bT dh;by_cases cZ:i<g.ops.l.length
   ·obtain⟨o,aq,ds⟩:=bu cZ;have aR:IntKind.i64.wrap ((i:Int)+1)=((i+1:Nat) :Int) :=by rw[IntKind.wrap_i64]; omega
    have bG:cd (.au 11) (bM g.ops) (.int .i64 (i:Int))=some (.b0 (a1 o) 0) :=by simp[bM,aq]
    obtain⟨m4,ja,gm,sh,si,jH,aU,mz,sd,se,bN⟩:=uz;obtain⟨Nd,JE,ri,aX,bg,a3,a4⟩:=jH.q.get (k:=.i64) (i:=i) (e:=iK (decide (i∈out))) (by rw[ar5,Fu cZ]; rfl);have a5:=one_cell (c:=.bool (decide (i∈out))) (by simpa [iK] using a4);have oN:=si.na (enc:=aQ) (xs:=out.map (b2 g.ids.l)) (fun x=>eP x) (dW (out.map (b2 g.ids.l))) (by rw[se,xv]; simp) (fM _);have ad6:fo (dW (out.map (b2 g.ids.l))) :=fun x ai=>by
     rw[fM] at ai;obtain⟨t,aJ,rfl⟩:=asr.1 ai;obtain⟨y,ay,ch⟩:=bu (l:=g.ids.l) (k:=t) (by have:=(lM t aJ).1; omega);rw[fJ ay]; exact ar.ids y ch
    have fg:=Nv (dW (out.map (b2 g.ids.l))) ad6 (by rw[fM]; simp; omega) o.br (ar.ops o ds).ids (ar.ops o ds).len;rw[fM] at fg;have ix:=eb o.br;have C3:ui g.ids.l g.ops.l out i=(decide (i∉out)&&mH (out.map (b2 g.ids.l)) o.br.l) :=by unfold ui; rw[q2 aq]
    simp only[cV] at bg sh si jH oN;by_cases yy:i∈out
    ·simp[cV,dv,cZ,aX,bg,a5,yy,aR];intro j aj;by_cases oJ:j=i
     ·subst oJ; rw[C3]; simp[yy]
     ·exact ak j (by omega)
    ·simp[cV,dv,cZ,aX,bg,a5,yy,aR,bG,a1];refine iW fg (.cons oN (.cons (.same _ ix) .nil)) rfl ?_;by_cases fu:mH (out.map (b2 g.ids.l)) o.br.l=true
     ·rw[fu] at C3;obtain⟨y,ay,ch⟩:=bu (l:=g.ids.l) (k:=i) (by omega);have De:cd (.au 32) (aN g.ids) (.int .i64 (i:Int))=some (.b0 (aQ y) 0) :=by simp[aN,ay]
      have b4:=cA (ar.ids y ch);obtain⟨Y,dC⟩:∃ Y,Y=aQ y:=⟨_,rfl⟩
      rw[<-dC] at De b4;have aeC:bt (rep 32 (.int .u8 0)) 0 Y=Y:=ek (by rw[b4]; rfl);obtain⟨l1,gj⟩:∃ l1,l1=aY.cells 2 [aN g.ids,bM g.ops] ::(rest++[aY.cells 1 [ad.int IntKind.i64 (i:Int)],aY.cells 32 Y]) :=⟨_,rfl⟩
      have Lp:l1.length=rest.length+3:=by rw[gj]; simp
      have w4:bB 1 l1 v3 m4 (out.map hX) :=by rw[gj]; exact sh.more _
      have MR:bB 32 l1 v4 ja ((out.map (b2 g.ids.l)).map aQ) :=by rw[gj]; exact si.more _
      have agd:bB 1 l1 v5 gm ((rv g.ops.l.length out).map iK) :=by rw[gj]; exact jH.more _
      have rU:out=[]->v3=.aV/\v4=.aV:=fun h=>by rw[h] at sd se; exact⟨jC.1 sd,jC.1 se⟩
      have ap2:gm<rest.length+1:=by
       rcases jH.lt with h | h
       ·rw[h] at mz; cases mz
       ·simpa using h
      obtain⟨m4,w4,q1,dE,hn,Ij⟩:∃ m4,bB 1 l1 v3 m4 (out.map hX)/\1<=m4/\m4≠gm/\(out=[]\/m4≠ja)/\(m4<rest.length+1\/l1.length<=m4) :=by
       by_cases h:out=[]
       ·have aw:=(rU h).1;rw[aw,h];exact⟨l1.length,.nil _,by omega,by omega,.inl rfl,.inr (ar0 _)⟩
       ·obtain⟨h1,ae,al,aE,aU⟩:=bN.resolve_left h;refine⟨m4,w4,h1,aE,.inr al,.inl ?_⟩;rcases sh.lt with ev | ev
        ·rw[ev] at sd;cases out with
         | nil=>exact absurd rfl h
         | cons=>cases sd
        ·simpa using ev
      obtain⟨Xd,wY,bQ,aL,aT,a7,bp,bf,bT⟩:=pb (by_:=8) w4 (x:=.au 1 (rest.length+1) 0 1 1 1) (xs:=[hX i]) (by rw[gj]; simp[dA,hX]) (by simp[hX]) (by omega) (by omega) (by rw[ml]; simp; omega);obtain⟨fp,rfl⟩:∃ fp,bQ=aY.cells 2 [aN g.ids,bM g.ops] ::fp:=D9 (by rw[bp 0 (by omega) (by omega),gj]; rfl);have KQ:(aY.cells 2 [aN g.ids,bM g.ops] ::fp)[rest.length+2]? = some (.cells 32 Y) :=by rw[bp (rest.length+2) (by omega) (by omega),gj]; simp
      have fm:(aY.cells 2 [aN g.ids,bM g.ops] ::fp)[rest.length+1]? = some (.cells 1 [.int .i64 (i:Int)]) :=by rw[bp (rest.length+1) (by omega) (by omega),gj]; simp
      have jD:=agd.frame (l':=aY.cells 2 [aN g.ids,bM g.ops] ::fp) (fun h=>bp gm h (Ne.symm dE));rw[gj] at aL;simp[fu,De,b4,aeC,arX,aL];refine dt.cy ?_;simp;have RQ:fp[rest.length+1]? = some (.cells 32 Y) :=by simpa using KQ
      refine⟨⟨RQ,by omega,arX (by omega)⟩,?_⟩;have Tu:Xd≠.aV:=fun h=>by have:=(bT.1 h).2; cases this
      have an2:wY<fp.length+1:=by have:=aT.lt.resolve_left Tu; simpa using this
      have Li:1<=wY/\wY≠gm:=by rcases bf with h | h<;>omega
      obtain⟨ja,MR,t1,t2,t3,t4⟩:∃ ja,bB 32 (aY.cells 2 [aN g.ids,bM g.ops] ::fp) v4 ja ((out.map (b2 g.ids.l)).map aQ)/\1<=ja/\ja≠gm/\ja≠wY/\(ja<fp.length+1\/fp.length+1<=ja) :=by
       by_cases h:out=[]
       ·have aw:=(rU h).2;rw[aw,h];simp at a7;exact⟨fp.length+1,.nil _,by omega,by omega,by omega,.inr (ar0 _)⟩
       ·obtain⟨h1,ae,al,aE,aU⟩:=bN.resolve_left h;have bz:ja<rest.length+1:=by
         rcases si.lt with ev | ev
         ·rw[ev] at se;cases out with
          | nil=>exact absurd rfl h
          | cons=>cases se
         ·simpa using ev
        have dy:=hn.resolve_left h;refine⟨ja,MR.frame (fun h=>bp ja h (Ne.symm dy)),ae,aU,by rcases bf with h | h<;>omega,.inl (by simp at a7; omega)⟩
      obtain⟨Xe,pF,ew,f1,f2,f3,f4,f5,f6⟩:=pb (by_:=32) MR (x:=.au 32 (rest.length+1+1) 0 1 1 32) (xs:=[Y]) (by simp[dA,b4,RQ,arX]) (by simp[b4]) (by omega) (by omega) (by rw[ml]; simp; omega);obtain⟨ku,rfl⟩:∃ ku,ew=aY.cells 2 [aN g.ids,bM g.ops] ::ku:=D9 (by rw[f4 0 (by simp) (by omega)]; rfl);have Tv:Xe≠.aV:=fun h=>by have:=(f6.1 h).2; cases this
      have an3:pF<ku.length+1:=by have:=f2.lt.resolve_left Tv; simpa using this
      have et:=aT.frame (l':=aY.cells 2 [aN g.ids,bM g.ops] ::ku) (fun h=>f4 wY h (Ne.symm t3));have rh:=jD.frame (l':=aY.cells 2 [aN g.ids,bM g.ops] ::ku) (fun h=>f4 gm h (Ne.symm t2));obtain⟨p,j6,jf,kx,EI,EJ,BP⟩:=zf (k:=i) (x:=true) (X:=.bool true) (enc:=iK) rfl rh (fun _ _=>rfl) (by rw[CA]; exact cZ) rfl;simp[f1];refine dt.cy ?_;simp[jf,kx];have J7:pF=ja\/fp.length+1<=pF:=by simpa using f5
      have anr:rest.length+3<=fp.length+1:=by rw[Lp] at a7; simpa using a7
      have k0:1<=pF:=by rcases J7 with h | h<;>omega
      have h4:pF≠gm:=by rcases J7 with h | h<;>omega
      have z3:wY≠pF:=by rcases J7 with h | h<;>omega
      obtain⟨pO,rfl⟩:∃ pO,j6=aY.cells 2 [aN g.ids,bM g.ops] ::pO:=D9 (by rw[BP 0 (by omega)]; rfl);have hg:mA g.ids.l g.ops.l out=some i:=agE cZ (by rw[C3]; simp[yy]) ak;have mY:gF g.ids.l g.ops.l (k+1)=out++[i] :=by rw[M7 (by rw[<-i8]; exact hg),<-i8]
      have aM:k<g.ops.l.length:=by
       have ev:=(Eb g.ids.l g.ops.l am aj (k+1)).1;rw[mY] at ev;have:=vl (b:=List.range g.ops.l.length) ev (fun x ai=>asJ.2 (by
        rw[asu,asl] at ai;rcases ai with ai | rfl
        ·exact (lM x ai).1
        ·exact cZ))
       simp at this; omega
      have c4:(out++[i]).map hX=out.map hX++[hX i] :=by simp
      have jr:((out++[i]).map (b2 g.ids.l)).map aQ=(out.map (b2 g.ids.l)).map aQ++[Y] :=by
       have ado:b2 g.ids.l i=y:=fJ ay;rw[asv,asv,List.map_singleton,List.map_singleton,ado,dC]
      refine⟨g.ops.l.length - (k+1)+1,by omega,k+1,pO,rfl,?_,by rw[mY]; simp[hk],rfl⟩;rw[mY];refine⟨⟨wY,pF,gm,?_,?_,?_,aU,mz,?_,?_,.inr ⟨Li.1,k0,z3,Li.2,h4⟩⟩⟩
      ·rw[c4]; exact et.frame (fun h=>BP wY Li.2)
      ·rw[jr]; exact f2.frame (fun h=>BP pF h4)
      ·rw[<-Z4 cZ]; exact EI
      ·cases aw:cx Xd with
       | true=>exact absurd (jC.1 aw) Tu
       | false=>simp
      ·cases aw:cx Xe with
       | true=>exact absurd (jC.1 aw) Tv
       | false=>simp
     ·rw[auN] at fu;rw[fu] at C3;simp[fu,cZ,aR];refine⟨rfl,fun j aj=>?_⟩;by_cases oJ:j=i
      ·subst oJ; rw[C3]; simp
      ·exact ak j (by omega)
   ·have an1:i=g.ops.l.length:=by omega
    simp[cV,dv,cZ];have dY:mA g.ids.l g.ops.l out=none:=agF fun j aj=>ak j (by omega)
    refine⟨0,by omega,k,by rw[<-i8]; exact uz,by rw[<-i8]; exact dY,by omega,rfl⟩
  ·obtain⟨af,rfl⟩:=ky aL a7 bp bf bT;clear aL a7 bp bf bT;simp;obtain⟨m4,ja,gm,sh,si,jH,aU,mz,sd,se,bN⟩:=uz;have b1:tz g.ids.l g.ops.l=out:=by
    unfold tz;have:=M6 (k:=k) (by rw[<-i8]; exact dY) (g.ops.l.length - k);rw[show k+(g.ops.l.length - k)=g.ops.l.length by omega,<-i8] at this;exact this
   rw[b1];exact sh.q.lZ (fun x=>rfl) (dW out) (by rw[sd,xv]) (fM _)
 ·refine⟨0,_,rfl,by simp,?_,.inl ⟨by simp,rfl,rfl⟩⟩;simp;refine⟨⟨0,0,1,.nil 0,.nil 0,?_,by omega,rfl,rfl,rfl,.inl rfl⟩⟩;show bB _ _ _ _ ((rv g.ops.l.length []).map iK);have:(rv g.ops.l.length []).map iK=List.replicate g.ops.l.length [ad.bool false] :=by rw[Z3,au6]; rfl
  rw[this];exact i6
def Ea (ids:List (List B)) (ops:List bq) :Bool:=decide (∀ o∈ops,mH ids o.br.l=true)
def q9 (ids:List (List B)) (ops:List bq) :Int:=if ea ids=true then (if Ea ids ops=true then (if (tz ids ops).length=ops.length then 0 else 36) else 40) else 32
theorem ahT (g:bc) (ar:ei g) (am:g.ids.l.length=g.ops.l.length) :bx Tryz.prog GS 40 [cn g] (.int .i64 (q9 g.ids.l g.ops.l)) :=by
 refine bH Tryz.checked.mixed bD ?_;apply bm Tryz.func40 [[],[[0],[3],[4],[5],[1,4],[2]]];have cJ:=eb g.ids;have b6:=jo g.ops;have pp:=Fq g;have dv:cz (.au 11) (bM g.ops)=some (.int .i64 g.ops.l.length) :=by simp[bM]
 have bn:=ar.c0;have G9:=NA g.ids ar.ids ar.li;simp[cn,cV,dv];refine aW G9 (by simp[aZ,cJ]) ?_;by_cases aA:ea g.ids.l=true
 ·have aj:=m3 aA;have n4:=ahM g ar am aj;unfold cn cV at n4 pp;simp[aA];refine cw g.ops.l.length (fun k af l=>l=[.cells 2 [aN g.ids,bM g.ops]]/\af 1=.ptr 0 0 2/\af 3=.int .i64 k/\∀ (j:Nat) (o:bq),j<k->g.ops.l[j]? = some o->mH g.ids.l o.br.l=true) ?_ (by simp);rintro k af l hk ⟨rfl,aL,a7,ak⟩;obtain⟨af,rfl⟩:=nE aL a7;clear aL a7;by_cases cH:k<g.ops.l.length
  ·obtain⟨o,aq,ds⟩:=bu cH;have aR:IntKind.i64.wrap ((k:Int)+1)=((k+1:Nat) :Int) :=by rw[IntKind.wrap_i64]; omega
   have bG:cd (.au 11) (bM g.ops) (.int .i64 (k:Int))=some (.b0 (a1 o) 0) :=by simp[bM,aq]
   have fg:=Nv g.ids ar.ids ar.li o.br (ar.ops o ds).ids (ar.ops o ds).len;have ix:=eb o.br;simp[dv,cH,bG,a1];refine aW fg (by simp[aZ,cJ,ix]) ?_;by_cases fu:mH g.ids.l o.br.l=true
   ·simp[fu,cH,aR];intro j ck ep er;by_cases fB:j=k
    ·subst fB; rw[aq] at er; obtain rfl:=Option.some.inj er; exact fu
    ·exact ak j ck (by omega) er
   ·rw[auN] at fu;simp[fu];refine aK (congrArg (ad.int .i64) ?_) rfl;have dY:¬ Ea g.ids.l g.ops.l=true:=fun h=>by
     have:=of_decide_eq_true h o ds;rw[fu] at this; cases this
    unfold q9;rw[if_pos aA,if_neg dY]
  ·have mg:k=g.ops.l.length:=by omega
   have fC:Ea g.ids.l g.ops.l=true:=decide_eq_true fun o ds=>by
    obtain⟨j,ep⟩:=ar6.1 ds;exact ak j o (by rw[mg]; exact (arY.1 ep).1) ep
   have dT:(tz g.ids.l g.ops.l).length<=g.ops.l.length:=(Eb g.ids.l g.ops.l am aj _).2.1;have px:cz (.au 1) (J2 (dW (tz g.ids.l g.ops.l)))=some (.int .i64 (tz g.ids.l g.ops.l).length) :=by unfold J2; rw[r6,fM]
   simp[dv,cH];refine aW n4 (by simp[aZ,pp]) ?_;by_cases aM:(tz g.ids.l g.ops.l).length<g.ops.l.length
   ·simp[dv,px,aM];refine aK (congrArg (ad.int .i64) ?_) rfl;unfold q9;rw[if_pos aA,if_pos fC,if_neg (by omega)]
   ·simp[dv,px,aM];refine aK (congrArg (ad.int .i64) ?_) rfl;unfold q9;rw[if_pos aA,if_pos fC,if_pos (by omega)]
 ·rw[auN] at aA;simp[aA];refine aK (congrArg (ad.int .i64) ?_) rfl;unfold q9;rw[aA]; rfl
def pi (g:bc) (k:Nat) :Bool:=match g.ops.l[k]?,g.ids.l[k]? with
 | some o,some x=>decide (rf o=0)&&decide (cQ o=x)
 | _,_=>true
def FX (g:bc) :Bool:=decide (∀ k,k<g.ops.l.length->pi g k=true)
theorem Al (g:bc) :FX g=true<->∀ k,k<g.ops.l.length->pi g k=true:=by unfold FX; rw[decide_eq_true_eq]
def dm (g:bc) :Int:=if 60<g.ops.l.length then 4 else if g.ids.l.length=g.ops.l.length then (if FX g=true then q9 g.ids.l g.ops.l else 8) else 8
theorem FY {g:bc} {k:Nat} {o:bq} {x:List B} (aq:g.ops.l[k]? = some o) (ai:g.ids.l[k]? = some x) :pi g k=(decide (rf o=0)&&decide (cQ o=x)) :=by
 unfold pi; rw[aq,ai]
theorem BQ {o:bq} (h:rf o=0) :fy o=0:=by
 unfold rf at h;by_cases aB:fy o=0
 ·exact aB
 ·rw[if_neg aB] at h; exact h
theorem Mf (o:bq) :(cQ o).length=32:=by
 unfold cQ;split
 ·exact vj _
 ·simp
set_option maxHeartbeats 4000000 in
theorem In (g:bc) (ar:ei g) :bx Tryz.prog GS 11 [cn g] (.int .i64 (dm g)) :=by
 refine bH Tryz.checked.mixed bD ?_;apply bm Tryz.func11 [[[0],[1],[2],[3],[4],[5],[6],[7],[8],[9],[10],[11],[12],[14],[15],[16],[17],[18],[13,18,15]]];have cJ:=eb g.ids;have b6:=jo g.ops;have pp:=Fq g;have dv:cz (.au 11) (bM g.ops)=some (.int .i64 g.ops.l.length) :=by simp[bM]
 have g5:cz (.au 32) (aN g.ids)=some (.int .i64 g.ids.l.length) :=by simp[aN]
 have bn:=ar.c0;by_cases iM:60<(g.ops.l.length:Int)
 ·simp[cn,cV,dv,iM];refine aK (congrArg (ad.int .i64) ?_) rfl;unfold dm; rw[if_pos (by omega)]
 by_cases am:g.ids.l.length=g.ops.l.length
 ·have pC:=ahT g ar am;unfold cn cV at pC pp;have dp:(g.ids.l.length:Int)=(g.ops.l.length:Int) :=by omega
  simp[cn,cV,dv,g5,iM,dp];refine cw g.ops.l.length (fun k af l=>l=[.cells 2 [aN g.ids,bM g.ops]]/\af 1=.ptr 0 0 2/\af 3=.int .i64 k/\∀ j,j<k->pi g j=true) ?_ (by simp);rintro k af l hk ⟨rfl,aL,a7,ak⟩;obtain⟨af,rfl⟩:=nE aL a7;clear aL a7;by_cases cH:k<g.ops.l.length
  ·obtain⟨o,aq,ds⟩:=bu cH;obtain⟨x,ai,cE⟩:=bu (l:=g.ids.l) (k:=k) (by omega);have ef:=FY aq ai;have aR:IntKind.i64.wrap ((k:Int)+1)=((k+1:Nat) :Int) :=by rw[IntKind.wrap_i64]; omega
   have bG:cd (.au 11) (bM g.ops) (.int .i64 (k:Int))=some (.b0 (a1 o) 0) :=by simp[bM,aq]
   have yx:cd (.au 32) (aN g.ids) (.int .i64 (k:Int))=some (.b0 (aQ x) 0) :=by simp[aN,ai]
   have aw:=ah0 o (ar.ops o ds);have rK:=k5 o;have a2:=cA (ar.ids x cE);have bO:(a1 o).length=11:=rfl;have mc:¬ pi g k=true->dm g=8:=fun h=>by
    unfold dm;rw[if_neg (by omega),if_pos am,if_neg fun aH=>h ((Al g).1 aH k cH)]
   by_cases ta:rf o=0
   ·have aB:=BQ ta;have la:=Nw o (ar.ops o ds) (by have:=xc aB; omega);have fv:cQ o=iH (ii o) :=by unfold cQ; rw[if_pos aB]
    rw[<-fv] at la;have heq:=Hr (Mf o) (ar.ids x cE);change bx Tryz.prog GS 33 [.aI (a1 o)] (.aI (aQ (cQ o))) at la;obtain⟨I,uz⟩:∃ I,I=aQ (cQ o) :=⟨_,rfl⟩
    rw[<-uz] at la heq;rw[ta] at aw;obtain⟨O,dn⟩:∃ O,O=a1 o:=⟨_,rfl⟩
    obtain⟨X,b3⟩:∃ X,X=aQ x:=⟨_,rfl⟩
    rw[<-dn] at bG aw la rK bO;rw[<-b3] at yx a2 heq;simp[dv,cH,bG,bO,arX];refine aW aw (by simp[aZ,ad.closed,rK]) ?_;simp[bO,yx,a2,bG,arX];refine aW la (by simp[aZ,ad.closed,rK]) ?_;by_cases fF:cQ o=x
    ·simp[heq,fF,cH,aR,a2,arX];intro j aj;by_cases fB:j=k
     ·subst fB; rw[ef]; simp[ta,fF]
     ·exact ak j (by omega)
    ·have ag:¬ pi g k=true:=fun h=>by rw[ef] at h; simp[fF] at h
     simp[heq,fF,a2,arX];exact aK (congrArg (ad.int .i64) (mc ag).symm) rfl
   ·have ag:¬ pi g k=true:=fun h=>by rw[ef] at h; simp[ta] at h
    simp[dv,cH,bG,bO,arX];refine aW aw (by simp[aZ,ad.closed,rK]) ?_;simp[ta];exact aK (congrArg (ad.int .i64) (mc ag).symm) rfl
  ·have mg:k=g.ops.l.length:=by omega
   simp[dv,cH];refine aW pC (by simp[aZ,pp]) ?_;simp;refine aK (congrArg (ad.int .i64) ?_) rfl;unfold dm;rw[if_neg (by omega),if_pos am,if_pos ((Al g).2 fun j aj=>ak j (by omega))]
 ·have dp:¬ (g.ids.l.length:Int)=(g.ops.l.length:Int) :=by omega
  simp[cn,cV,dv,g5,iM,dp];refine aK (congrArg (ad.int .i64) ?_) rfl;unfold dm; rw[if_neg (by omega),if_neg am]
def pt (ids:List (List B)) (D:List Nat) (p:List B) :Nat:=(D.map fun a=>if p == b2 ids a then 1 else 0).sum
def nC (ids:List (List B)) (D:List Nat) (L:List (List B)) :Nat:=(D.map fun a=>L.count (b2 ids a)).sum
theorem ajK (ids:List (List B)) (D:List Nat) :nC ids D []=0:=by
 unfold nC
 induction D with
 | nil=>rfl
 | cons a D aO=>rw[ast,at7,aO]; rfl
theorem WM (ids:List (List B)) (p:List B) (L:List (List B)) :∀ D,nC ids D (p::L)=nC ids D L+pt ids D p
 | []=>rfl
 | a::D=>by
  have aO:=WM ids p L D;unfold nC pt at aO ⊢;rw[ast,at7,ast,at7,ast,at7,aO,List.count_cons];omega
theorem Oj (ids:List (List B)) (D:List Nat) (a:Nat) (L:List (List B)) :nC ids (D++[a]) L=nC ids D L+L.count (b2 ids a) :=by
 unfold nC; rw[asv,List.sum_append]; simp
theorem PA {ids:List (List B)} (aj:jj ids) {i j:Nat} (ax:i<ids.length) (e3:j<ids.length) (h:b2 ids i=b2 ids j) :i=j:=by
 obtain⟨x,ai,_⟩:=bu ax;obtain⟨y,ay,_⟩:=bu e3;rw[fJ ai,fJ ay] at h;subst h;exact aj i j x ai ay
theorem Sx {ids:List (List B)} {p:List B}:∀ {D:List Nat},(∀ a∈D,b2 ids a≠p)->pt ids D p=0
 | [],_=>rfl
 | a::D,h=>by
  have aO:=Sx (ids:=ids) (p:=p) (D:=D) fun b ag=>h b (by simp[ag])
  have az:(p == b2 ids a)=false:=by rw[beq_eq_false_iff_ne]; exact Ne.symm (h a (by simp))
  unfold pt at aO ⊢;rw[ast,at7,aO,az]; rfl
theorem Sw {ids:List (List B)} (aj:jj ids) {p:List B}:∀ {D:List Nat},D.Nodup->(∀ a∈D,a<ids.length)->pt ids D p<=1/\(pt ids D p=1<->∃ a∈D,b2 ids a=p)
 | [],_,_=>⟨ato _,Iff.intro (fun h=>(by cases h)) (fun ⟨a,az,_⟩=>(by cases az))⟩
 | a::D,aF,ag=>by
  rw[auv] at aF;obtain⟨eg,eK⟩:=Sw (p:=p) aj aF.2 (fun b bS=>ag b (by simp[bS]));by_cases h:b2 ids a=p
  ·have av:pt ids D p=0:=Sx fun b RX acx=>aF.1 (by rw[PA aj (ag a (by simp)) (ag b (by simp[RX])) (h.trans acx.symm)]; exact RX)
   have az:(p == b2 ids a)=true:=by rw[h]; simp
   have e:pt ids (a::D) p=1:=by
    unfold pt at av ⊢;rw[ast,at7,av,az]; rfl
   rw[e];exact⟨ar0 _,fun _=>⟨a,by simp,h⟩,fun _=>rfl⟩
  ·have az:(p == b2 ids a)=false:=by rw[beq_eq_false_iff_ne]; exact Ne.symm h
   have e:pt ids (a::D) p=pt ids D p:=by
    unfold pt;rw[ast,at7,az]; simp
   rw[e];refine⟨eg,eK.trans ⟨fun ⟨b,g3,fm⟩=>⟨b,by simp[g3],fm⟩,fun ⟨b,g3,fm⟩=>?_⟩⟩;rw[as0] at g3;rcases g3 with rfl | g3
   ·exact absurd fm h
   ·exact⟨b,g3,fm⟩
theorem Ol {ids:List (List B)} (aj:jj ids) {D:List Nat} (aF:D.Nodup) (ag:∀ a∈D,a<ids.length) :∀ L:List (List B),nC ids D L<=L.length/\(nC ids D L=L.length<->∀ p∈L,∃ a∈D,b2 ids a=p)
 | []=>by rw[ajK]; exact⟨ar0 _,Iff.intro (fun _ p aC=>by cases aC) (fun _=>rfl)⟩
 | p::L=>by
  obtain⟨eg,eK⟩:=Ol aj aF ag L;obtain⟨h1,ae⟩:=Sw (p:=p) aj aF ag;rw[WM,asp];refine⟨by omega,fun h=>?_,fun h=>?_⟩
  ·have aR:nC ids D L=L.length:=by omega
   have bE:pt ids D p=1:=by omega
   intro q bd;rw[as0] at bd;rcases bd with rfl | bd
   ·exact ae.1 bE
   ·exact eK.1 aR q bd
  ·have aR:=eK.2 fun q bd=>h q (by simp[bd])
   have bE:=ae.2 (h p (by simp));omega
structure I2 (ids:List (List B)) (ops:List bq) (cC:List (List Nat)) :Prop where
 len:cC.length=ops.length
 cnt:∀ (a:Nat) (row:List Nat),cC[a]? = some row->∀ k,k<ops.length->row.count k=(dB ops k).count (b2 ids a)
 lt:∀ (a:Nat) (row:List Nat),cC[a]? = some row->∀ k∈row,k<ops.length
structure sB (ids:List (List B)) (ops:List bq) (row:List Nat) (d j:Nat) (R:List Nat) (W:List Int) :Prop where
 jG:R.Nodup
 ph:∀ k∈R,k<ops.length/\rk ids ops k
 dl:d<=R.length
 wl:W.length=ops.length
 w:∀ k,k<ops.length->W[k]? = some (((dB ops k).length:Int) - nC ids (R.take d) (dB ops k) - (row.take j).count k)
 r:∀ k,k<ops.length->(k∈R<->W[k]? = some 0)
theorem afM {ids:List (List B)} {ops:List bq} (am:ids.length=ops.length) (aj:jj ids) {cC:List (List Nat)} (ag:I2 ids ops cC) {a:Nat} {row:List Nat} {d j:Nat} {R:List Nat} {W:List Int}
  (h:sB ids ops row d j R W) (az:R[d]? = some a) (cI:cC[a]? = some row) {k:Nat} (hk:row[j]? = some k) :
  ∃ x:Int,W[k]? = some x/\1<=x/\x<=(dB ops k).length/\sB ids ops row d (j+1) (if x - 1=0 then R++[k] else R) (W.set k (x - 1)) :=by
 have g4:=ag.lt a row cI k (ar4 hk);have AB:=ag.cnt a row cI k g4;have yp:=(arY.1 az).1;have i9:R.take (d+1)=R.take d++[a] :=by rw[ash,az]; rfl
 have adR:(R.take (d+1)).Nodup:=List.Sublist.nodup (auE _ _) h.jG;have qC:∀ b∈R.take (d+1),b<ids.length:=fun b bS=>by have:=(h.ph b (asz bS)).1; omega
 obtain⟨fZ,ho⟩:=Ol aj adR qC (dB ops k);rw[i9,Oj,<-AB] at fZ;have nn:(row.take (j+1)).count k=(row.take j).count k+1:=by
  rw[ash,hk,auf]; simp
 have md:(row.take (j+1)).count k<=row.count k:=List.Sublist.count_le _ (auE _ _);have hw:=h.w k g4;obtain⟨x,ai⟩:∃ x:Int,x=((dB ops k).length:Int) - nC ids (R.take d) (dB ops k) - (row.take j).count k:=⟨_,rfl⟩
 rw[<-ai] at hw;have A7:1<=x:=by omega
 have SG:k∉R:=fun hm=>by
  have:=(h.r k g4).1 hm;rw[hw] at this;have:=Option.some.inj this;omega
 refine⟨x,hw,A7,by omega,?_⟩;have SH:k<W.length:=by rw[h.wl]; exact g4
 have DA:(if x - 1=0 then R++[k] else R).take d=R.take d:=by
  split
  ·rw[asm (by omega)]
  ·rfl
 have mi:x - 1=0->rk ids ops k:=fun aB=>by
  have heq:nC ids (R.take (d+1)) (dB ops k)=(dB ops k).length:=by rw[i9,Oj,<-AB]; omega
  have fg:=ho.1 heq;have ec:∀ t,t<ids.length->ids[t]? = some (b2 ids t) :=fun t aJ=>by
   obtain⟨y,ay,_⟩:=bu (l:=ids) aJ;rw[ay,fJ ay]
  refine .mk k (by omega) (fun p aC=>?_) fun p aC j2 gi=>?_
  ·obtain⟨t,aJ,rfl⟩:=fg p aC;exact ar4 (ec t (qC t aJ))
  ·obtain⟨t,aJ,rfl⟩:=fg p aC;rw[aj j2 t _ gi (ec t (qC t aJ))];exact (h.ph t (asz aJ)).2
 refine⟨?_,fun y ay=>?_,?_,by simpa using h.wl,fun y ay=>?_,fun y ay=>?_⟩
 ·split
  ·rw[ath];refine⟨h.jG,by simp,fun u aP v aw e=>?_⟩;rw[asl] at aw;subst e;rw[aw] at aP;exact SG aP
  ·exact h.jG
 ·split at ay
  ·rename_i aB;rw[asu,asl] at ay;rcases ay with ay | rfl
   ·exact h.ph y ay
   ·exact⟨g4,mi aB⟩
  ·exact h.ph y ay
 ·split
  ·simp; have:=h.dl; omega
  ·exact h.dl
 ·rw[DA,atD];by_cases yB:k=y
  ·subst yB;rw[if_pos rfl,if_pos SH,nn];congr 1;omega
  ·rw[if_neg yB,h.w y ay,ash,hk,auf];have:([k] :List Nat).count y=0:=by rw[aup]; simp[yB]
   simp only[Option.toList_some,this,auQ]
 ·rw[atD];by_cases yB:k=y
  ·subst yB;rw[if_pos rfl,if_pos SH];by_cases aB:x - 1=0
   ·rw[if_pos aB]; simp[aB]
   ·rw[if_neg aB];exact⟨fun hm=>absurd hm SG,fun aH=>absurd (Option.some.inj aH) aB⟩
  ·rw[if_neg yB,<-h.r y ay];split
   ·rw[asu,asl];exact⟨fun h=>h.resolve_right (Ne.symm yB),.inl⟩
   ·exact Iff.rfl
theorem afJ {ids:List (List B)} {ops:List bq} {cC:List (List Nat)} (ag:I2 ids ops cC) {a:Nat} {row vg:List Nat} {d:Nat} {R:List Nat} {W:List Int}
  (h:sB ids ops row d row.length R W) (az:R[d]? = some a) (cI:cC[a]? = some row) :sB ids ops vg (d+1) 0 R W:=by
 have i9:R.take (d+1)=R.take d++[a] :=by rw[ash,az]; rfl
 refine⟨h.jG,h.ph,(arY.1 az).1,h.wl,fun k hk=>?_,h.r⟩;rw[h.w k hk,i9,Oj,asx,ag.cnt a row cI k hk,atm,List.count_nil];congr 1;omega
theorem afK {ids:List (List B)} {ops:List bq} {row vg:List Nat} {d:Nat} {R:List Nat} {W:List Int} (h:sB ids ops row d 0 R W) :sB ids ops vg d 0 R W:=
 ⟨h.jG,h.ph,h.dl,h.wl,fun k hk=>by rw[h.w k hk,atm,atm],h.r⟩
theorem afL {ids:List (List B)} {ops:List bq} (am:ids.length=ops.length) :sB ids ops [] 0 0 ((List.range ops.length).filter fun k=>(dB ops k).isEmpty) ((List.range ops.length).map fun k=>((dB ops k).length:Int)) :=by
 refine⟨List.Sublist.nodup atT avl,fun k hk=>?_,ato _,by simp,fun k hk=>?_,fun k hk=>?_⟩
 ·rw[as6,asJ] at hk;have aB:dB ops k=[] :=auL.1 hk.2;exact⟨hk.1,.mk k (by omega) (fun p aC=>by rw[aB] at aC; cases aC) fun p aC=>by rw[aB] at aC; cases aC⟩
 ·rw[ar5,asI hk];simp[nC]
 ·rw[as6,asJ,ar5,asI hk];simp only[asb,Option.some.injEq,hk,true_and,auL];constructor
  ·intro h; rw[h]; rfl
  ·intro h; exact asF.1 (by omega)
theorem afI {ids:List (List B)} {ops:List bq} (am:ids.length=ops.length) (aj:jj ids) {row:List Nat} {R:List Nat} {W:List Int} (h:sB ids ops row R.length 0 R W) :
  R.length<=ops.length/\(R.length=ops.length<->(tz ids ops).length=ops.length) :=by
 have dT:R.length<=ops.length:=by
  have:=vl (b:=List.range ops.length) h.jG fun x ai=>asJ.2 (h.ph x ai).1
  simpa using this
 refine⟨dT,?_⟩;rw[UT am aj];constructor
 ·intro ao i ax;exact (h.ph i (Uv h.jG ao (fun i ax=>(h.ph i ax).1) i ax)).2
 ·intro fg;have cZ:∀ i,rk ids ops i->i<ops.length->i∈R:=by
   intro i ar
   induction ar with
   | mk i ax aC ar aO=>
    intro aM;rw[h.r i aM,h.w i aM,asx];have Gm:=(Ol aj h.jG (fun a az=>by have:=(h.ph a az).1; omega) (dB ops i)).2.2 fun p uL=>by
     obtain⟨bK,ep⟩:=ar6.1 (aC p uL);exact⟨bK,aO p uL bK ep (by have:=(arY.1 ep).1; omega),fJ ep⟩
    rw[Gm];simp
  have:=vl (a:=List.range ops.length) (b:=R) avl fun i ax=>cZ i (fg i (asJ.1 ax)) (asJ.1 ax)
  simp at this;omega
structure l4 (l:ap) (vs:List ad) (cC:List (List Nat)) (dU:Nat->Nat) :Prop where
 oZ:vs.length=cC.length
 own:∀ (a:Nat) (v:ad) (row:List Nat),vs[a]? = some v->cC[a]? = some row->bB 1 l v (dU a) (row.map hX)/\cx v=row.isEmpty/\(row=[]\/3<=dU a)
 apart:∀ (a b:Nat) (m9 oe:List Nat),a≠b->cC[a]? = some m9->cC[b]? = some oe->m9≠[]->oe≠[]->dU a≠dU b
def o9 (cC:List (List Nat)) (dU:Nat->Nat) (b:Nat) :Prop:=∀ (a:Nat) (row:List Nat),cC[a]? = some row->row≠[]->dU a≠b
theorem l4.lt {l:ap} {vs:List ad} {cC:List (List Nat)} {dU:Nat->Nat} (h:l4 l vs cC dU) {a:Nat} {row:List Nat} (aA:cC[a]? = some row) (bU:row≠[]) :dU a<l.length:=by
 have az:a<vs.length:=by rw[h.oZ]; exact (arY.1 aA).1
 obtain⟨o,n,_⟩:=h.own a vs[a] row (ar1 az) aA;rcases o.lt with h1 | h1
 ·rw[h1] at n;cases row with
  | nil=>exact absurd rfl bU
  | cons=>cases n
 ·exact h1
theorem l4.frame {l l' : ap} {vs:List ad} {cC:List (List Nat)} {dU:Nat->Nat} (h:l4 l vs cC dU) (aD:∀ b,b<l.length->(∃ a row,cC[a]? = some row/\row≠[]/\dU a=b)->l'[b]? = l[b]?) :l4 l' vs cC dU:=by
 refine⟨h.oZ,fun a v row aw aA=>?_,h.apart⟩;obtain⟨o,n,t⟩:=h.own a v row aw aA;refine⟨?_,n,t⟩;by_cases bU:row=[]
 ·subst bU;have:=jC.1 n;subst this;exact .nil _
 ·exact o.frame fun am=>aD _ am ⟨a,row,aA,bU,rfl⟩
theorem l4.more {l:ap} {vs:List ad} {cC:List (List Nat)} {dU:Nat->Nat} (h:l4 l vs cC dU) (x:ap) :l4 (l++x) vs cC dU:=h.frame fun b ag _=>arZ ag
theorem l4.app {l:ap} {vs:List ad} {cC:List (List Nat)} {dU:Nat->Nat} (h:l4 l vs cC dU) {a k b:Nat} {v:ad} {row:List Nat} (aw:vs[a]? = some v) (aA:cC[a]? = some row) (ag:l[b]? = some (.cells 1 [.int .i64 (k:Int)])) (al:3<=l.length) (dO:(row.length+1)*8<=cK) :
  ∃ a8 l' DO,i1 l 1 8 v (.au 1 b 0 1 1 1)=some (a8,l')/\l4 l' (vs.set a a8) (cC.set a (row++[k])) DO/\l.length<=l'.length/\a8.cells=some [a8] ∧
   ∀ c,c<l.length->o9 cC dU c->l'[c]? = l[c]?/\o9 (cC.set a (row++[k])) DO c:=by
 obtain⟨o,n,t⟩:=h.own a v row aw aA;have hf:a<cC.length:=(arY.1 aA).1;obtain⟨j,UH,m4,MA,T1⟩:∃ j,bB 1 l v j (row.map hX)/\3<=j/\(∀ fc vg,fc≠a->cC[fc]? = some vg->vg≠[]->dU fc≠j)/\∀ c,c<l.length->o9 cC dU c->j≠c:=by
  by_cases bU:row=[]
  ·subst bU;have:=jC.1 n;subst this;exact⟨l.length,.nil _,al,fun fc vg _ lb yJ=>by have:=h.lt lb yJ; omega,fun c ah _=>by omega⟩
  ·exact⟨dU a,o,t.resolve_left bU,fun fc vg SZ lb yJ=>h.apart fc a vg row SZ lb aA yJ bU,fun c _ aq=>aq a row aA bU⟩
 obtain⟨a8,bK,l',aL,aT,a7,bp,bf,bT⟩:=pb (by_:=8) UH (x:=.au 1 b 0 1 1 1) (xs:=[hX k]) (by simp[dA,ag,hX]) (by simp[hX]) (by omega) (by omega) (by simpa using dO);have fH:cx a8=false:=by
  cases aH:cx a8 with
  | true=>have:=(bT.1 (jC.1 aH)).2; cases this
  | false=>rfl
 refine⟨a8,l',fun x=>if x=a then bK else dU x,aL,⟨by simp[h.oZ],fun x w NZ hw lb=>?_,fun x y tL Wk lg ai ay hg LC=>?_⟩,a7,aT.cells,fun c ah aq=>⟨bp c ah (fun e=>T1 c ah aq e.symm),fun x tL ai hg=>?_⟩⟩
 ·by_cases kp:x=a
  ·subst kp;rw[ar9 (by rw[h.oZ]; exact hf)] at hw;rw[ar9 hf] at lb;obtain rfl:=Option.some.inj hw;obtain rfl:=Option.some.inj lb;simp only[if_true];refine⟨by rw[asv]; exact aT,by rw[fH]; simp,.inr ?_⟩;rcases bf with e | e<;>omega
  ·rw[ar7 (Ne.symm kp)] at hw lb;simp only[if_neg kp];obtain⟨ck,hy,gH⟩:=h.own x w NZ hw lb;refine⟨?_,hy,gH⟩;by_cases bU:NZ=[]
   ·subst bU;have:=jC.1 hy;subst this;exact .nil _
   ·exact ck.frame fun am=>bp _ am (MA x NZ kp lb bU)
 ·by_cases kp:x=a
  ·subst kp;rw[ar7 lg] at ay;simp only[if_true,if_neg (Ne.symm lg)];have:=h.lt ay LC;have:=MA y Wk (Ne.symm lg) ay LC;rcases bf with e | e<;>omega
  ·rw[ar7 (Ne.symm kp)] at ai;simp only[if_neg kp];by_cases y1:y=a
   ·subst y1;simp only[if_true];have:=h.lt ai hg;have:=MA x tL kp ai hg;rcases bf with e | e<;>omega
   ·rw[ar7 (Ne.symm y1)] at ay;simp only[if_neg y1];exact h.apart x y tL Wk lg ai ay hg LC
 ·by_cases kp:x=a
  ·subst kp;simp only[if_true];have:=T1 c ah aq;rcases bf with e | e<;>omega
  ·rw[ar7 (Ne.symm kp)] at ai;simp only[if_neg kp];exact aq x tL ai hg
def xY (ids:List (List B)) (ops:List bq) (m q a k:Nat) :Nat:=if k<m then (dB ops k).count (b2 ids a) else if k=m then ((dB ops m).take q).count (b2 ids a) else 0
structure vy (ids:List (List B)) (ops:List bq) (m q:Nat) (cC:List (List Nat)) :Prop where
 len:cC.length=ops.length
 cnt:∀ (a:Nat) (row:List Nat),cC[a]? = some row->∀ k,row.count k=xY ids ops m q a k
 pQ:∀ (a:Nat) (row:List Nat),cC[a]? = some row->row.length<=5*m+q
theorem ag8 (ids:List (List B)) (ops:List bq) :vy ids ops 0 0 (List.replicate ops.length []) :=by
 refine⟨by simp,fun a row h k=>?_,fun a row h=>?_⟩
 ·have:=atv (ar4 h);subst this;simp[xY]
 ·have:=atv (ar4 h);subst this;simp
theorem ag9 {ids:List (List B)} {ops:List bq} (aj:jj ids) (am:ids.length=ops.length) {m q a:Nat} {cC:List (List Nat)} {row:List Nat} {p:List B} (h:vy ids ops m q cC) (aC:(dB ops m)[q]? = some p) (az:ids[a]? = some p) (aA:cC[a]? = some row) :
  vy ids ops m (q+1) (cC.set a (row++[m])) :=by
 have hf:=(arY.1 aA).1;have wr:=(arY.1 az).1;have i9:(dB ops m).take (q+1)=(dB ops m).take q++[p] :=by rw[ash,aC]; rfl
 refine⟨by simp[h.len],fun x tL ai k=>?_,fun x tL ai=>?_⟩
 ·by_cases kp:x=a
  ·subst kp;rw[ar9 hf] at ai;obtain rfl:=Option.some.inj ai;rw[auf,h.cnt x row aA k];unfold xY;by_cases h1:k<m
   ·rw[if_pos h1,if_pos h1,aup];have:(m == k)=false:=by rw[beq_eq_false_iff_ne]; omega
    simp[this]
   ·rw[if_neg h1,if_neg h1];by_cases ae:k=m
    ·subst ae;rw[if_pos rfl,if_pos rfl,i9,auf,fJ az]; simp
    ·rw[if_neg ae,if_neg ae,aup];have:(m == k)=false:=by rw[beq_eq_false_iff_ne]; omega
     simp[this]
  ·rw[ar7 (Ne.symm kp)] at ai;rw[h.cnt x tL ai k];unfold xY;by_cases h1:k<m
   ·rw[if_pos h1,if_pos h1]
   ·rw[if_neg h1,if_neg h1];by_cases ae:k=m
    ·subst ae;rw[if_pos rfl,if_pos rfl,i9,auf,aup];have a2:x<ids.length:=by rw[am,<-h.len]; exact (arY.1 ai).1
     have:(p == b2 ids x)=false:=by
      rw[beq_eq_false_iff_ne];intro e;rw[<-fJ az] at e;exact kp (PA aj wr a2 e).symm
     rw[this]; simp
    ·rw[if_neg ae,if_neg ae]
 ·by_cases kp:x=a
  ·subst kp;rw[ar9 hf] at ai;obtain rfl:=Option.some.inj ai;have:=h.pQ x row aA;simp; omega
  ·rw[ar7 (Ne.symm kp)] at ai;have:=h.pQ x tL ai;omega
theorem ag7 {ids:List (List B)} {ops:List bq} {m:Nat} {cC:List (List Nat)} (h:vy ids ops m (dB ops m).length cC) (aE:(dB ops m).length<=4) :vy ids ops (m+1) 0 cC:=by
 refine⟨h.len,fun a row aA k=>?_,fun a row aA=>by have:=h.pQ a row aA; omega⟩;rw[h.cnt a row aA k];unfold xY;by_cases h1:k<m
 ·rw[if_pos h1,if_pos (by omega)]
 ·rw[if_neg h1];by_cases ae:k=m
  ·subst ae;rw[if_pos rfl,if_pos (by omega),asx]
  ·rw[if_neg ae,if_neg (by omega)];by_cases al:k=m+1
   ·rw[if_pos al]; simp
   ·rw[if_neg al]
theorem ag6 {ids:List (List B)} {ops:List bq} {cC:List (List Nat)} (h:vy ids ops ops.length 0 cC) :I2 ids ops cC:=by
 refine⟨h.len,fun a row aA k hk=>?_,fun a row aA k hk=>?_⟩
 ·rw[h.cnt a row aA k]; unfold xY; rw[if_pos hk]
 ·have h1:0<row.count k:=au1.2 hk;rw[h.cnt a row aA k] at h1;unfold xY at h1;by_cases ae:k<ops.length
  ·exact ae
  ·rw[if_neg ae] at h1;split at h1<;>simp at h1
def fb (ops:List bq) (m:Nat) :List Int:=(List.range ops.length).map fun k=>if k<m then ((dB ops k).length:Int) else 0
def jI (ops:List bq) (m:Nat) :List Nat:=(List.range m).filter fun k=>(dB ops k).isEmpty
theorem Xt (ops:List bq) (m:Nat) :(fb ops m).length=ops.length:=by simp[fb]
theorem IZ {ops:List bq} {m k:Nat} (h:k<ops.length) :(fb ops m)[k]? = some (if k<m then ((dB ops k).length:Int) else 0) :=by
 unfold fb; rw[ar5,asI h]; rfl
theorem aln {ops:List bq} {m:Nat} (h:m<ops.length) :(fb ops m).set m ((dB ops m).length:Int)=fb ops (m+1) :=by
 apply asY;intro j;by_cases aj:j<ops.length
 ·rw[IZ aj,atD];by_cases SU:m=j
  ·subst SU;rw[if_pos rfl,if_pos (by rw[Xt]; exact aj),if_pos (by omega)]
  ·rw[if_neg SU,IZ aj];by_cases h1:j<m
   ·rw[if_pos h1,if_pos (by omega)]
   ·rw[if_neg h1,if_neg (by omega)]
 ·rw[ase (by simp[fb]; omega),ase (by simp[fb]; omega)]
theorem alm (ops:List bq) :fb ops ops.length=(List.range ops.length).map fun k=>((dB ops k).length:Int) :=by
 unfold fb;apply atF;intro k hk;rw[if_pos (asJ.1 hk)]
theorem alo (ops:List bq) :fb ops 0=List.replicate ops.length 0:=by
 apply asY;intro j;by_cases aj:j<ops.length
 ·rw[IZ aj]; simp[aj]
 ·rw[ase (by simp[fb]; omega),ase (by simp; omega)]
theorem VR (ops:List bq) (m:Nat) :jI ops (m+1)=jI ops m++(if (dB ops m).isEmpty then [m] else []) :=by
 unfold jI;rw[atA,atl];congr 1;by_cases h:(dB ops m).isEmpty=true
 ·simp[h]
 ·simp[h]
end Op

end Go.cf

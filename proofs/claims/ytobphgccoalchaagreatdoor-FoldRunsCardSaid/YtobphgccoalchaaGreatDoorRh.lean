/-
  Numbers, as bytes: walked in both texts.
-/
import Derived.Test.YtobphgccoalchaaGreatDoorRg
set_option linter.unusedVariables false
set_option linter.unusedSimpArgs false
set_option linter.unnecessarySimpa false
namespace Go.cf
open Go Go.Proofs
set_option maxRecDepth 100000
def cj {α:Type} (z:Nat) (enc:α->List ad) (l l1:ap) (v:ad) (a:List α) (fx:Bool) :Prop:=
 ∃ j,bB z l1 v j (a.map enc)/\l.length<=l1.length/\(∀ b,b<l.length->l1[b]? = l[b]?)/\(v=.aV\/l.length<=j)/\cx v=fx
section
variable {α:Type} {z:Nat} {enc:α->List ad} {l l1:ap} {v:ad} {a:List α} {fx:Bool}
theorem cj.nil:cj z enc l l .aV ([] :List α) true:=⟨0,.nil 0,ar0 _,fun _ _=>rfl,.inl rfl,rfl⟩
theorem cj.more (h:cj z enc l l1 v a fx) (r:ap) :cj z enc l (l1++r) v a fx:=by
 obtain⟨j,h1,ae,al,aE,aU⟩:=h;exact⟨j,h1.more r,by simp; omega,fun b ag=>by rw[arZ (by omega)]; exact al b ag,aE,aU⟩
theorem cj.len (h:cj z enc l l1 v a fx) :cz (.au z) v=some (.int .i64 a.length) :=by
 obtain⟨j,h1,_⟩:=h;rw[h1.len,asi]
theorem cj.cells (h:cj z enc l l1 v a fx) :v.cells=some [v] :=by
 obtain⟨j,h1,_⟩:=h;exact h1.cells
theorem cj.contents (h:cj z enc l l1 v a fx) :dA l1 z v=some ((a.map enc).flatten,a.length) :=by
 obtain⟨j,h1,_⟩:=h;rw[h1.contents,asi]
theorem cj.le (h:cj z enc l l1 v a fx) :l.length<=l1.length:=by obtain⟨j,h1,ae,_⟩:=h; exact ae
theorem cj.same (h:cj z enc l l1 v a fx) :∀ b,b<l.length->l1[b]? = l[b]?:=by obtain⟨j,h1,ae,al,_⟩:=h; exact al
theorem cj.tH (h:cj z enc l l1 v a fx) (aD:∀ x,aZ (enc x)=true) (s:dg α) (ak:fx=s.isNone) (ai:s.l=a) :go (b8 l1) v (cL z enc s) :=by
 obtain⟨j,h1,ae,al,aE,aU⟩:=h;exact h1.na aD s (by rw[aU,ak]) ai
theorem cj.rd (h:cj z enc l l1 v a fx) (aD:∀ x,aZ (enc x)=true) (s:dg α) (ak:fx=s.isNone) (ai:s.l=a) :Rd l1 v (cL z enc s) :=by
 obtain⟨j,h1,ae,al,aE,aU⟩:=h;exact h1.q.lZ aD s (by rw[aU,ak]) ai
theorem cj.Iq (h:cj z enc l l1 v a fx) (aD:∀ x,mL (enc x)=true) (s:dg α) (ak:fx=s.isNone) (ai:s.l=a) :lz l1 v (cL z enc s) :=by
 obtain⟨j,h1,ae,al,aE,aU⟩:=h;exact h1.Er aD s (by rw[aU,ak]) ai
theorem cj.base (h:cj z enc l l1 v a fx) {eL:ap} (am:eL.length<=l.length) (ak:∀ b,b<eL.length->l[b]? = eL[b]?) :cj z enc eL l1 v a fx:=by
 obtain⟨j,h1,ae,al,aE,aU⟩:=h;exact⟨j,h1,by omega,fun b ag=>by rw[al b (by omega)]; exact ak b ag,aE.imp id (by omega),aU⟩
theorem cj.frame (h:cj z enc l l1 v a fx) {bQ:ap} (am:l1.length<=bQ.length) (ak:∀ b,b<l1.length->bQ[b]? = l1[b]?) :cj z enc l bQ v a fx:=by
 obtain⟨j,h1,ae,al,aE,aU⟩:=h;exact⟨j,h1.frame fun aj=>ak j aj,by omega,fun b ag=>by rw[ak b (by omega)]; exact al b ag,aE,aU⟩
theorem cj.app (h:cj z enc l l1 v a fx) {by_:Nat} {x:ad} {xs:List α} (ai:dA l1 z x=some ((xs.map enc).flatten,xs.length)) (av:∀ y∈xs,(enc y).length=z) (aB:z≠0) (eD:by_≠0) (dO:(a.length+xs.length)*by_<=cK) :
  ∃ a8 l',i1 l1 z by_ v x=some (a8,l')/\cj z enc l l' a8 (a++xs) (fx&&xs.isEmpty)/\l1.length<=l'.length:=by
 obtain⟨j,h1,ae,al,aE,aU⟩:=h;obtain⟨a8,bK,l',aL,aT,a7,bp,bf,bT⟩:=zN (xs:=xs.map enc) h1 (by simpa using ai) (fun e ao=>by obtain⟨y,ay,rfl⟩:=asr.1 ao; exact av y ay) aB eD (by simpa using dO);refine⟨a8,l',aL,⟨bK,by rw[asv]; exact aT,by omega,fun b ag=>?_,?_,?_⟩,a7⟩
 ·rw[bp b (by omega)]
  ·exact al b ag
  ·rcases aE with h | h
   ·exact .inl h
   ·exact .inr (by omega)
 ·rcases bf with h | ⟨bz,dy⟩ | h
  ·exact .inr (by omega)
  ·rcases aE with h | h
   ·exact absurd h bz
   ·exact .inr (by omega)
  ·exact .inl h
 ·rw[bT,aU]; simp
end

namespace Op
open gZ
theorem cj.push {l l1:ap} {v:ad} {a:List B} {fx:Bool} (h:cj 1 ci l l1 v a fx) (x:B) (dO:a.length<=1000000000) :
  ∃ a8 l',i1 (l1++[.cells 1 [bA x]]) 1 1 v (.au 1 l1.length 0 1 1 1)=some (a8,l')/\cj 1 ci l l' a8 (a++[x]) false:=by
 have aA:cK=140737488355328:=rfl;obtain⟨a8,l',aL,aT,_⟩:=(h.more [.cells 1 [bA x]]).app (by_:=1) (x:=.au 1 l1.length 0 1 1 1) (xs:=[x]) (by simp[dA,ci]) (by simp[ci]) (by omega) (by omega) (by rw[aA]; simp; omega);exact⟨a8,l',aL,by simpa using aT⟩
theorem x3:∀ a:List B,(a.map ci).flatten=a.map bA
 | []=>rfl
 | x::a=>by rw[ast,as4,x3 a]; rfl
theorem pK {l:ap} {j n:Nat} {a:List B} (az:a.length=n) (aj:l[j]? = some (.cells n (a.map bA))) :bB 1 l (.au 1 j 0 n n n) j (a.map ci) :=by
 refine .au j n n n (a.map bA) _ aj (by simp[az]) (by simp[az]) (fun e ao=>?_) (ar0 _) (by omega) ?_
 ·obtain⟨x,_,rfl⟩:=asr.1 ao; rfl
 ·rw[arX (by simp[az]),x3]
def lU (n:Nat) :Nat:=if n<256 then 1 else if n<65536 then 2 else if n<16777216 then 3 else if n<4294967296 then 4 else if n<1099511627776 then 5 else if n<281474976710656 then 6 else if n<72057594037927936 then 7 else 8
theorem H0 (n:Nat) :1<=lU n/\lU n<=8:=by unfold lU; refine⟨?_,?_⟩<;>(repeat' split)<;>omega
def mJ (n i:Nat) :B:=BitVec.ofNat 8 (n >>> (8*i))
def vm (n:Nat) :Nat->List B
 | 0=>[]
 | i+1=>mJ n i::vm n i
theorem Ou (n:Nat) :∀ i,(vm n i).length=i
 | 0=>rfl
 | i+1=>by simp[vm,Ou n i]
def eR (n:Nat) :List B:=if n<=247 then [BitVec.ofNat 8 n] else BitVec.ofNat 8 (247+lU n) ::vm n (lU n)
def mx (x:Nat) :Nat:=if x<1 then 0 else if x<2 then 1 else if x<4 then 2 else if x<8 then 3 else if x<16 then 4 else if x<32 then 5 else if x<64 then 6 else if x<128 then 7 else 8
def EC:List UInt8:=[0,1,2,2,3,3,3,3,4,4,4,4,4,4,4,4,5,5,5,5,5,5,5,5,5,5,5,5,5,5,5,5,6,6,6,6,6,6,6,6,6,6,6,6,6,6,6,6,6,6,6,6,6,6,6,6,6,6,6,6,6,6,6,6,7,7,7,7,7,7,7,7,7,7,7,7,7,7,7,7,7,7,7,7,7,7,7,7,7,7,7,7,7,7,7,7,7,7,7,7,7,7,7,7,7,7,7,7,7,7,7,7,7,7,7,7,7,7,7,7,7,7,7,7,7,7,7,7,8,8,8,8,8,8,8,8,8,8,8,8,8,8,8,8,8,8,8,8,8,8,8,8,8,8,8,8,8,8,8,8,8,8,8,8,8,8,8,8,8,8,8,8,8,8,8,8,8,8,8,8,8,8,8,8,8,8,8,8,8,8,8,8,8,8,8,8,8,8,8,8,8,8,8,8,8,8,8,8,8,8,8,8,8,8,8,8,8,8,8,8,8,8,8,8,8,8,8,8,8,8,8,8,8,8,8,8,8,8,8,8,8,8,8,8,8,8,8,8,8,8,8,8,8,8,8,8]
def Oq:Nat->List UInt8->Bool
 | _,[]=>true
 | i,x::r=>Nat.beq x.toNat (mx i)&&Oq (i+1) r
theorem WQ:∀ (i:Nat) (l:List UInt8),Oq i l=true->∀ (j:Nat) (x:UInt8),l[j]? = some x->x.toNat=mx (i+j)
 | i,[],_,j,x,h=>by simp at h
 | i,y::r,h,j,x,ai=>by
  simp only[Oq,ar3] at h;cases j with
  | zero=>simp at ai; subst ai; exact as7 h.1
  | succ j=>simp at ai; rw[WQ (i+1) r h.2 j x ai]; congr 1; omega
theorem xw (i:Nat) (h:i<256) :∃ x,EC[i]? = some x/\x.toNat=mx i:=by
 have am:EC.length=256:=by kernel_rfl
 have ar:=WQ 0 EC (by kernel_rfl) i _ (ar1 (by omega));exact⟨_,ar1 (by omega),by rw[ar]; congr 1; omega⟩
theorem u1 (x:Nat) :mx x<=8:=by unfold mx; (repeat' split)<;>omega
def ks (n:Nat) :Nat:=
 if n<256 then mx n else if n<65536 then 8+mx (n / 256) else if n<16777216 then 16+mx (n / 65536) else if n<4294967296 then 24+mx (n / 16777216)
 else if n<1099511627776 then 32+mx (n / 4294967296) else if n<281474976710656 then 40+mx (n / 1099511627776) else if n<72057594037927936 then 48+mx (n / 281474976710656) else 56+mx (n / 72057594037927936)
theorem afX (n:Nat) (h:1<=n) :(ks n+7) / 8=lU n:=by
 have am:∀ x,1<=x->1<=mx x/\mx x<=8:=fun x ai=>⟨by unfold mx; rw[if_neg (by omega)]; (repeat' split)<;>omega,u1 x⟩
 unfold ks lU
 repeat' split
 ·have:=am n h; omega
 ·have:=am (n / 256) (by omega); omega
 ·have:=am (n / 65536) (by omega); omega
 ·have:=am (n / 16777216) (by omega); omega
 ·have:=am (n / 4294967296) (by omega); omega
 ·have:=am (n / 1099511627776) (by omega); omega
 ·have:=am (n / 281474976710656) (by omega); omega
 ·have:=am (n / 72057594037927936) (by omega); omega
theorem N7 (x:Q) (k:Nat) :cB .shr .u64 (u x) .u64 (k:Int)=some (.int .u64 (u (x >>> k))) :=uh x .u64 k
theorem vC {i:Nat} {y:UInt8} {k:UInt8->Prop} (h:EC[i]? = some y) (hk:k y) :W EC[i]? (c:=⟨k⟩) :=by rw[h]; exact hk
set_option maxHeartbeats 4000000 in
theorem Uc (n:Q) :bx Tryz.prog GS 189 [cU n] (.int .i64 (ks n.toNat)) :=by
 refine bH Tryz.checked.mixed bD ?_;apply bm Tryz.func189 [];have lu:IntKind.i64.wrap 8=8:=rfl;have xy:IntKind.i64.wrap 16=16:=rfl;have xA:IntKind.i64.wrap 24=24:=rfl;have xB:IntKind.i64.wrap 32=32:=rfl;have xC:IntKind.i64.wrap 40=40:=rfl;have xD:IntKind.i64.wrap 48=48:=rfl;have xE:IntKind.i64.wrap 56=56:=rfl;have cm:∀ x:Q,((4294967296:Int)<=u x)<->4294967296<=x.toNat:=fun x=>by unfold u; omega
 have dk:∀ x:Q,((65536:Int)<=u x)<->65536<=x.toNat:=fun x=>by unfold u; omega
 have kH:∀ x:Q,((256:Int)<=u x)<->256<=x.toNat:=fun x=>by unfold u; omega
 have xn:∀ x:Q,cB .shr .u64 (u x) .u64 32=some (.int .u64 (u (x >>> 32))) :=fun x=>N7 x 32
 have xm:∀ x:Q,cB .shr .u64 (u x) .u64 16=some (.int .u64 (u (x >>> 16))) :=fun x=>N7 x 16
 have xo:∀ x:Q,cB .shr .u64 (u x) .u64 8=some (.int .u64 (u (x >>> 8))) :=fun x=>N7 x 8
 have t32:n.toNat >>> 32=n.toNat / 4294967296:=by rw[aso]
 have t48:n.toNat >>> 48=n.toNat / 281474976710656:=by rw[aso]
 have t16:n.toNat >>> 16=n.toNat / 65536:=by rw[aso]
 have acy:=n.isLt;by_cases h1:4294967296<=n.toNat
 ·by_cases ae:65536<=n.toNat >>> 32
  ·by_cases al:256<=n.toNat >>> 48
   ·have dK:n.toNat >>> 56 % 256=n.toNat / 72057594037927936:=by rw[aso]; exact asg (by omega)
    obtain⟨y,aL,aT⟩:=xw (n.toNat / 72057594037927936) (by omega);have a7:=u1 (n.toNat / 72057594037927936);rw[<-aT] at a7;have bX:IntKind.i64.wrap (y.toNat:Int)=y.toNat:=wrap_i64 (by omega) (by omega);have w2:IntKind.i64.wrap (56+(y.toNat:Int))=((56+y.toNat:Nat) :Int) :=by rw[wrap_i64 (by omega) (by omega)]; omega
    have et:ks n.toNat=56+y.toNat:=by unfold ks; rw[aT]; (repeat' split)<;>first | omega | rfl
    simp[cm,dk,kH,xn,xm,xo,h1,ae,al];refine vC (y:=y) (by rw[dK]; exact aL) ?_;rw[et];simp[jS,bX,w2];exact aK (by simp[lu,xy,xA,xB,xC,xD,xE,w2]) rfl
   ·have dK:n.toNat >>> 48 % 256=n.toNat / 281474976710656:=by rw[aso]; exact asg (by omega)
    obtain⟨y,aL,aT⟩:=xw (n.toNat / 281474976710656) (by omega);have a7:=u1 (n.toNat / 281474976710656);rw[<-aT] at a7;have bX:IntKind.i64.wrap (y.toNat:Int)=y.toNat:=wrap_i64 (by omega) (by omega);have w2:IntKind.i64.wrap (48+(y.toNat:Int))=((48+y.toNat:Nat) :Int) :=by rw[wrap_i64 (by omega) (by omega)]; omega
    have et:ks n.toNat=48+y.toNat:=by unfold ks; rw[aT]; (repeat' split)<;>first | omega | rfl
    simp[cm,dk,kH,xn,xm,xo,h1,ae,al];refine vC (y:=y) (by rw[dK]; exact aL) ?_;rw[et];simp[jS,bX,w2];exact aK (by simp[lu,xy,xA,xB,xC,xD,xE,w2]) rfl
  ·by_cases al:256<=n.toNat >>> 32
   ·have dK:n.toNat >>> 40 % 256=n.toNat / 1099511627776:=by rw[aso]; exact asg (by omega)
    obtain⟨y,aL,aT⟩:=xw (n.toNat / 1099511627776) (by omega);have a7:=u1 (n.toNat / 1099511627776);rw[<-aT] at a7;have bX:IntKind.i64.wrap (y.toNat:Int)=y.toNat:=wrap_i64 (by omega) (by omega);have w2:IntKind.i64.wrap (40+(y.toNat:Int))=((40+y.toNat:Nat) :Int) :=by rw[wrap_i64 (by omega) (by omega)]; omega
    have et:ks n.toNat=40+y.toNat:=by unfold ks; rw[aT]; (repeat' split)<;>first | omega | rfl
    simp[cm,dk,kH,xn,xm,xo,h1,ae,al];refine vC (y:=y) (by rw[dK]; exact aL) ?_;rw[et];simp[jS,bX,w2];exact aK (by simp[lu,xy,xA,xB,xC,xD,xE,w2]) rfl
   ·have dK:n.toNat >>> 32 % 256=n.toNat / 4294967296:=by rw[aso]; exact asg (by omega)
    obtain⟨y,aL,aT⟩:=xw (n.toNat / 4294967296) (by omega);have a7:=u1 (n.toNat / 4294967296);rw[<-aT] at a7;have bX:IntKind.i64.wrap (y.toNat:Int)=y.toNat:=wrap_i64 (by omega) (by omega);have w2:IntKind.i64.wrap (32+(y.toNat:Int))=((32+y.toNat:Nat) :Int) :=by rw[wrap_i64 (by omega) (by omega)]; omega
    have et:ks n.toNat=32+y.toNat:=by unfold ks; rw[aT]; (repeat' split)<;>first | omega | rfl
    simp[cm,dk,kH,xn,xm,xo,h1,ae,al];refine vC (y:=y) (by rw[dK]; exact aL) ?_;rw[et];simp[jS,bX,w2];exact aK (by simp[lu,xy,xA,xB,xC,xD,xE,w2]) rfl
 ·by_cases ae:65536<=n.toNat
  ·by_cases al:256<=n.toNat >>> 16
   ·have dK:n.toNat >>> 24 % 256=n.toNat / 16777216:=by rw[aso]; exact asg (by omega)
    obtain⟨y,aL,aT⟩:=xw (n.toNat / 16777216) (by omega);have a7:=u1 (n.toNat / 16777216);rw[<-aT] at a7;have bX:IntKind.i64.wrap (y.toNat:Int)=y.toNat:=wrap_i64 (by omega) (by omega);have w2:IntKind.i64.wrap (24+(y.toNat:Int))=((24+y.toNat:Nat) :Int) :=by rw[wrap_i64 (by omega) (by omega)]; omega
    have et:ks n.toNat=24+y.toNat:=by unfold ks; rw[aT]; (repeat' split)<;>first | omega | rfl
    simp[cm,dk,kH,xn,xm,xo,h1,ae,al];refine vC (y:=y) (by rw[dK]; exact aL) ?_;rw[et];simp[jS,bX,w2];exact aK (by simp[lu,xy,xA,xB,xC,xD,xE,w2]) rfl
   ·have dK:n.toNat >>> 16 % 256=n.toNat / 65536:=by rw[aso]; exact asg (by omega)
    obtain⟨y,aL,aT⟩:=xw (n.toNat / 65536) (by omega);have a7:=u1 (n.toNat / 65536);rw[<-aT] at a7;have bX:IntKind.i64.wrap (y.toNat:Int)=y.toNat:=wrap_i64 (by omega) (by omega);have w2:IntKind.i64.wrap (16+(y.toNat:Int))=((16+y.toNat:Nat) :Int) :=by rw[wrap_i64 (by omega) (by omega)]; omega
    have et:ks n.toNat=16+y.toNat:=by unfold ks; rw[aT]; (repeat' split)<;>first | omega | rfl
    simp[cm,dk,kH,xn,xm,xo,h1,ae,al];refine vC (y:=y) (by rw[dK]; exact aL) ?_;rw[et];simp[jS,bX,w2];exact aK (by simp[lu,xy,xA,xB,xC,xD,xE,w2]) rfl
  ·by_cases al:256<=n.toNat
   ·have dK:n.toNat >>> 8 % 256=n.toNat / 256:=by rw[aso]; exact asg (by omega)
    obtain⟨y,aL,aT⟩:=xw (n.toNat / 256) (by omega);have a7:=u1 (n.toNat / 256);rw[<-aT] at a7;have bX:IntKind.i64.wrap (y.toNat:Int)=y.toNat:=wrap_i64 (by omega) (by omega);have w2:IntKind.i64.wrap (8+(y.toNat:Int))=((8+y.toNat:Nat) :Int) :=by rw[wrap_i64 (by omega) (by omega)]; omega
    have et:ks n.toNat=8+y.toNat:=by unfold ks; rw[aT]; (repeat' split)<;>first | omega | rfl
    simp[cm,dk,kH,xn,xm,xo,h1,ae,al];refine vC (y:=y) (by rw[dK]; exact aL) ?_;rw[et];simp[jS,bX,w2];exact aK (by simp[lu,xy,xA,xB,xC,xD,xE,w2]) rfl
   ·have dK:n.toNat % 256=n.toNat:=asg (by omega);obtain⟨y,aL,aT⟩:=xw (n.toNat) (by omega);have a7:=u1 (n.toNat);rw[<-aT] at a7;have bX:IntKind.i64.wrap (y.toNat:Int)=y.toNat:=wrap_i64 (by omega) (by omega);have w2:IntKind.i64.wrap (0+(y.toNat:Int))=((0+y.toNat:Nat) :Int) :=by rw[wrap_i64 (by omega) (by omega)]; omega
    have et:ks n.toNat=0+y.toNat:=by unfold ks; rw[aT]; (repeat' split)<;>first | omega | rfl
    simp[cm,dk,kH,xn,xm,xo,h1,ae,al];refine vC (y:=y) (by rw[dK]; exact aL) ?_;rw[et];simp[jS,bX,w2];exact aK (by simp[lu,xy,xA,xB,xC,xD,xE,w2]) rfl
theorem Fk (n:Q) (i:Nat) :(n >>> (8*i)).setWidth 8=mJ n.toNat i:=by
 apply asd;unfold mJ;rw[asj,asH,asn]
theorem aiW (l:ap) (c d:aY) :(l++[c]).set l.length d=l++[d] :=by rw[asy _ _ (ar0 _)]; simp
def sf (n k i:Nat) :List B:=BitVec.ofNat 8 (247+k) ::(List.replicate (k - i) 0#8++vm n i)
theorem Uz (n k i:Nat) (h:i<=k) :(sf n k i).length=k+1:=by simp[sf,Ou]; omega
theorem agC (n k i:Nat) (h:i<k) :(sf n k i).set (k - i) (mJ n i)=sf n k (i+1) :=by
 unfold sf;obtain⟨m,hm⟩:∃ m,k - i=m+1:=⟨k - i - 1,by omega⟩
 rw[hm,auy,show k - (i+1)=m by omega,List.replicate_succ',ass];congr 1;rw[asy _ _ (by simp)];simp[vm]
theorem akT (n:Q) {l:ap} {K:ad->ap->Prop} (bl:∀ v j l',bB 1 l' v j ((eR n.toNat).map ci)->l.length<=l'.length->(∀ b,b<l.length->l'[b]? = l[b]?)->l.length<=j->cx v=false->K v l') :
  dr Tryz.prog GS 195 [cU n] l (c:=⟨K⟩) :=by
 apply bm Tryz.func195 [];have cm:((u n:Int)<=247)<->n.toNat<=247:=by unfold u; omega
 by_cases h:n.toNat<=247
 ·have wG:eR n.toNat=[n.setWidth 8] :=by
   unfold eR; rw[if_pos h]; rfl
  simp[cm,h];refine bl _ l.length _ (pK (n:=1) (a:=eR n.toNat) (by rw[wG]; rfl) (by rw[wG]; simp)) (by simp) (fun b ag=>arZ ag) (ar0 _) rfl
 ·have hk:=H0 n.toNat
  obtain⟨k,pu⟩:∃ k,lU n.toNat=k:=⟨_,rfl⟩
  have wG:eR n.toNat=sf n.toNat k k:=by unfold eR sf; rw[if_neg h,pu]; simp
  have Dh:=afX n.toNat (by omega)
  rw[pu] at Dh hk;obtain⟨L,dS⟩:∃ L,ks n.toNat=L:=⟨_,rfl⟩
  rw[dS] at Dh;have bX:IntKind.i64.wrap ((L:Int)+7)=((L+7:Nat) :Int) :=by rw[wrap_i64 (by omega) (by omega)]; omega
  have q1:cB .quo .i64 ((L+7:Nat) :Int) .i64 8=some (.int .i64 (k:Int)) :=by rw[JA _ 8 (by omega) (by omega)]; rw[show (8:Int).toNat=8 from rfl,Dh]
  have w2:IntKind.i64.wrap ((k:Int)+1)=((k+1:Nat) :Int) :=by rw[wrap_i64 (by omega) (by omega)]; omega
  have et:IntKind.i64.wrap (247+(k:Int))=((247+k:Nat) :Int) :=by rw[wrap_i64 (by omega) (by omega)]; omega
  have g9:u5 1 1 [.int .u8 0] l (.int .i64 ((k+1:Nat) :Int)) (.int .i64 ((k+1:Nat) :Int))=some (.au 1 l.length 0 (k+1) (k+1) (k+1),l++[.cells (k+1) ((List.replicate (k+1) 0#8).map bA)]) :=by
   unfold u5;have aA:cK=140737488355328:=rfl;simp only[];rw[if_pos ⟨by omega,by omega,by omega,by rw[aA]; omega⟩,Is];simp
  simp[cm,h];refine aW (Uc n) rfl ?_;rw[dS];have h8:bt (List.replicate (k+1) (bA 0#8)) 0 [bA (BitVec.ofNat 8 (247+k))]=(sf n.toNat k 0).map bA:=by
   rw[atd,ajr,ajs]; simp[sf,vm]
  simp[bX,q1,w2,et,g9,-Int.natCast_add];refine cw k (fun i af l1=>af 0=cU n/\af 3=.int .i64 k/\af 4=.au 1 l.length 0 (k+1) (k+1) (k+1)/\af 23=.int .i64 k/\af 24=.int .i64 i/\l1=l++[.cells (k+1) ((sf n.toNat k i).map bA)]) ?_ ?_
  ·rintro i af l1 ax ⟨cg,a7,bp,Ak,nl,rfl⟩;obtain⟨af,rfl⟩:=ky cg a7 bp Ak nl;clear cg a7 bp Ak nl;by_cases lN:i<k
   ·have gg:IntKind.i64.wrap ((k:Int) - i)=((k - i:Nat) :Int) :=by rw[wrap_i64 (by omega) (by omega)]; omega
    have gI:IntKind.i64.wrap (8*(i:Int))=((8*i:Nat) :Int) :=by rw[wrap_i64 (by omega) (by omega)]; omega
    have pZ:IntKind.i64.wrap ((i:Int)+1)=((i+1:Nat) :Int) :=by rw[wrap_i64 (by omega) (by omega)]; omega
    have kg:cB .shr .u64 (u n) .i64 ((8*i:Nat) :Int)=some (.int .u64 (u (n >>> (8*i)))) :=uh n .i64 (8*i);have ri:=Fk n i;have BV:=oW bA (sf n.toNat k i) (k - i) (mJ n.toNat i) (by rw[Uz _ _ _ ax]; omega);rw[agC _ _ _ lN] at BV;obtain⟨d,bN⟩:∃ d,k - i=d:=⟨_,rfl⟩
    obtain⟨e,ao⟩:∃ e,8*i=e:=⟨_,rfl⟩
    rw[bN] at gg BV;rw[ao] at gI kg ri;have AE:d<=k:=by omega
    simp[lN,gg,gI,pZ,kg,ri,BV,AE,-Int.natCast_add,aiW];omega
   ·have gi:i=k:=by omega
    subst gi;simp;refine bl _ l.length _ (pK (n:=i+1) (a:=eR n.toNat) (by rw[wG,Uz _ _ _ (ar0 _)]) (by rw[wG]; simp)) (by simp) (fun b ag=>arZ ag) (ar0 _) rfl
  ·simp;exact h8
theorem agx {n:Nat} (h:n<18446744073709551616) :n<256 ^ lU n:=by
 unfold lU; (repeat' split)<;>simp<;>omega
theorem agy {n k:Nat} (h1:1<=n) (h:k<lU n) :256 ^ k<=n:=by
 have eQ:=(H0 n).2;have hk:k=0\/k=1\/k=2\/k=3\/k=4\/k=5\/k=6\/k=7:=by omega
 rcases hk with rfl | rfl | rfl | rfl | rfl | rfl | rfl | rfl<;>simp<;>unfold lU at h<;>(repeat' split at h)<;>omega
theorem ai3 {n k:Nat} (h1:1<=n) (h:n<18446744073709551616) (hk:k<=lU n) :n >>> (8*k)=0<->k=lU n:=by
 have aC:2 ^ (8*k)=256 ^ k:=by rw[Nat.pow_mul]
 rw[aso,aC,Nat.div_eq_zero_iff];constructor
 ·rintro (ae | ae)
  ·exact absurd ae (by have:0<256 ^ k:=Nat.pow_pos (by decide); omega)
  ·rcases as3 k (lU n) with al | al
   ·have:=agy h1 al; omega
   ·omega
 ·rintro rfl;exact .inr (agx h)
theorem WS (n:Nat) :∀ k,vm n k=((List.range k).map (mJ n)).reverse
 | 0=>rfl
 | k+1=>by rw[vm,WS n k,atA,asv,List.reverse_append]; rfl
def qe (n k:Nat) :List B:=(List.range k).map (mJ n)
theorem Z1 (n k:Nat) :qe n (k+1)=qe n k++[mJ n k] :=by simp[qe,atA]
theorem Ab (n k:Nat) :(qe n k).length=k:=by simp[qe]
theorem Qk (n k i:Nat) (h:i<k) :(qe n k)[i]? = some (mJ n i) :=by simp[qe,h]
theorem ain (x:Q) :cB .rem .u64 (u x) .u64 256=some (.int .u64 (u (x % 256#64))) :=zT x 256#64 (by decide)
theorem ahu (x:Q) :cB .quo .u64 (u x) .u64 256=some (.int .u64 (u (x / 256#64))) :=Nu x 256#64 (by decide)
theorem aga (n:Q) (i:Nat) :((n >>> (8*i)) % 256#64).setWidth 8=mJ n.toNat i:=by
 rw[<-Fk];apply asd;rw[asj,ata,asj];show _ % 256 % 2 ^ 8=_ % 2 ^ 8;omega
theorem agv (n:Q) (i:Nat) :(n >>> (8*i)) / 256#64=n >>> (8*(i+1)) :=by
 apply asd;rw[atE,asH,asH,aso,aso,show 8*(i+1)=8*i+8 by omega,at2,<-Nat.div_div_eq_div_mul]; rfl
theorem cj.get {l l1:ap} {v:ad} {a:List B} {fx:Bool} (h:cj 1 ci l l1 v a fx) {k:IntKind} {i:Nat} {x:B} (ai:a[i]? = some x) :∃ p cs o,cd (.au 1) v (.int k (i:Int))=some p/\eZ l1 p=some (cs,o)/\cs[o]? = some (bA x) :=by
 obtain⟨j,h,_⟩:=h;obtain⟨p,cs,o,h1,ae,al,aE⟩:=h.q.get (k:=k) (i:=i) (e:=ci x) (by rw[ar5,ai]; rfl);refine⟨p,cs,o,h1,ae,?_⟩;have:=congrArg (fun l=>l[0]?) aE;simp[List.getElem?_take,asE,ci] at this;exact this
theorem zB (n:Q) {l:ap} {K:ad->ap->Prop} (bl:∀ v l',cj 1 ci l l' v (eR n.toNat) false->K v l') :dr Tryz.prog GS 195 [cU n] l (c:=⟨K⟩) :=
 akT n fun v j l' h1 ae al aE aU=>bl v l' ⟨j,h1,ae,al,.inr aE,aU⟩
structure XX (l:ap) (n:Q) (i:Nat) (af:bi) (l1:ap) :Prop where
 cg:af 0=cU (n >>> (8*i))
 tx:∃ v,af 3=v/\cj 1 ci l l1 v (qe n.toNat i) (decide (i=0))
structure XY (l1:ap) (v:ad) (n:Q) (k i:Nat) (af:bi) (bQ:ap) :Prop where
 a7:af 3=v
 bf:af 5=.int .i64 ((k:Int) - 1 - i)
 tx:∃ w,af 4=w/\cj 1 ci l1 bQ w (BitVec.ofNat 8 (247+k) ::((qe n.toNat k).reverse.take i)) false
theorem xj (n:Q) {l:ap} {K:ad->ap->Prop} (bl:∀ v l',cj 1 ci l l' v (eR n.toNat) false->K v l') :
  dr Tryz.prog GS 127 [cU n] l (c:=⟨K⟩) :=by
 apply bm Tryz.func127 [];have cm:((u n:Int)<=247)<->n.toNat<=247:=by unfold u; omega
 by_cases h:n.toNat<=247
 ·have wG:eR n.toNat=[n.setWidth 8] :=by
   unfold eR; rw[if_pos h]; rfl
  simp[cm,h];exact bl _ _ ⟨l.length,pK (n:=1) (a:=eR n.toNat) (by rw[wG]; rfl) (by rw[wG]; simp),by simp,fun b ag=>arZ ag,.inr (ar0 _),rfl⟩
 ·have acy:=n.isLt;have hk:=H0 n.toNat
  simp[cm,h];refine cw (lU n.toNat) (XX l n) ?_ ⟨by simp,.aV,by simp,cj.nil⟩;rintro i af l1 ax ⟨cg,v,a7,c1⟩;obtain⟨af,rfl⟩:=nE cg a7;clear cg a7;have av:=ai3 (n:=n.toNat) (k:=i) (by omega) (by omega) ax;have h0:((0:Int)<u (n >>> (8*i)))<->¬ i=lU n.toNat:=by
   rw[<-av]; unfold u; rw[asH]; generalize n.toNat >>> (8*i)=q; omega
  by_cases lN:i=lU n.toNat
  ·obtain⟨k,pu⟩:∃ k,lU n.toNat=k:=⟨_,rfl⟩
   rw[pu] at lN h0 hk;subst lN;have adU:eR n.toNat=BitVec.ofNat 8 (247+i) ::(qe n.toNat i).reverse:=by
    unfold eR; rw[if_neg h,pu,WS]; rfl
   have bn:=c1.len;rw[Ab] at bn;have bX:IntKind.i64.wrap (247+(i:Int))=((247+i:Nat) :Int) :=by rw[wrap_i64 (by omega) (by omega)]; omega
   have w2:IntKind.i64.wrap ((i:Int) - 1)=(i:Int) - 1:=wrap_i64 (by omega) (by omega);have f1:(eR n.toNat)=BitVec.ofNat 8 (247+i) ::(qe n.toNat i).reverse.take i:=by rw[adU,arX (by rw[List.length_reverse,Ab]; omega)]
   simp[h0,bn,bX,w2,-Int.natCast_add];refine cw i (XY l1 v n i) ?_ ⟨by simp,by simp,_,by simp,⟨l1.length,pK (n:=1) (a:=[BitVec.ofNat 8 (247+i)]) rfl (by simp),by simp,fun b ag=>arZ ag,.inr (ar0 _),rfl⟩⟩;rintro j af bQ aj ⟨a7,bf,w,bp,u7⟩;have qQ:=c1.frame u7.le u7.same;obtain⟨af,rfl⟩:=kb a7 bp bf;clear a7 bp bf;by_cases oJ:j=i
   ·have qF:¬ (j:Int)<=(i:Int) - 1:=by omega
    rw[oJ,<-f1] at u7;simp[qF];exact bl _ _ (u7.base c1.le c1.same)
   ·have qx:(j:Int)<=(i:Int) - 1:=by omega
    have wz:((i:Int) - 1 - j)=((i - 1 - j:Nat) :Int) :=by omega
    have et:IntKind.i64.wrap ((i:Int) - 1 - j - 1)=(i:Int) - 1 - (j+1:Nat) :=by rw[wrap_i64 (by omega) (by omega)]; omega
    obtain⟨p,cs,o,q1,dE,hn⟩:=cj.get qQ (k:=.i64) (Qk n.toNat i (i - 1 - j) (by omega));rw[<-wz] at q1;have ai:(qe n.toNat i).reverse[j]? = some (mJ n.toNat (i - 1 - j)) :=by
     rw[List.getElem?_reverse (by rw[Ab]; omega),Ab,Qk _ _ _ (by omega)]
    have qB:=Ab n.toNat i;obtain⟨w',l',aX,bg⟩:=cj.push u7 (mJ n.toNat (i - 1 - j)) (by simp; omega);simp[qx,q1,dE,hn,aX];refine dt.cy ?_;simp[et];exact⟨by omega,by simp,by simp,w',by simp,by rw[ash,ai]; simpa using bg⟩
  ·have yp:=Ab n.toNat i;obtain⟨a8,l',aX,bg⟩:=cj.push c1 (mJ n.toNat i) (by omega);rw[<-Z1] at bg;have bd:cB .quo .u64 (u (n >>> (8*i))) .u64 256=some (cU (n >>> (8*(i+1)))) :=by rw[ahu,agv]
   simp[h0,lN,ain,bd,aga,aX];refine dt.cy ?_;simp[bd];exact⟨by omega,by simp,a8,by simp,by simpa using bg⟩
end Op

end Go.cf

namespace Go.cf
open Go Go.Proofs
set_option maxRecDepth 100000
namespace Op
open gZ
def nF (n:Int) :Q:=if 0<=n then BitVec.ofNat 64 (2*n.toNat) else BitVec.ofNat 64 (2*(-(n+1)).toNat+1)
theorem akZ (n:Int) (h1:-9223372036854775808<=n) (ae:n<9223372036854775808) {l:ap} {K:ad->ap->Prop} (bl:∀ v l',cj 1 ci l l' v (eR (nF n).toNat) false->K v l') :
  dr Tryz.prog GS 243 [.int .i64 n] l (c:=⟨K⟩) :=by
 apply bm Tryz.func243 [];have aR:cB .shl .u64 (u (BitVec.ofInt 64 n)) .u64 1=some (.int .u64 (u (BitVec.ofInt 64 n <<< 1))) :=PN _ .u64 1;have bE:cB .shr .i64 n .u64 63=some (.int .i64 (if 0<=n then 0 else -1)) :=by
  show (if (63:Int)<0 then none else some (ad.int .i64 (n.fdiv (2 ^ min (63:Int).toNat 64))))=_;rw[if_neg (by omega)];congr 2;have:(2:Int) ^ min (63:Int).toNat 64=9223372036854775808:=by decide
  rw[this,atL _ (by omega)];split<;>omega
 have av:BitVec.ofInt 64 n <<< 1 ^^^ BitVec.ofInt 64 (if 0<=n then 0 else -1)=nF n:=by
  unfold nF;by_cases h:0<=n
  ·rw[if_pos h,if_pos h];obtain⟨m,rfl⟩:=asQ h;rw[as2,asC];have:BitVec.ofInt 64 (0:Int)=0#64:=rfl;rw[this,BitVec.xor_zero];apply asd;rw[ats,asn,asn,atn];omega
  ·rw[if_neg h,if_neg h];obtain⟨m,hm⟩:=asQ (show 0<=-(n+1) by omega);have aF:n=-((m:Int)+1) :=by omega
   have aX:BitVec.ofInt 64 (-1:Int)=BitVec.allOnes 64:=by decide
   have bg:BitVec.ofInt 64 n = ~~~ BitVec.ofNat 64 m:=by
    apply asd;rw[aF,aub,avj,asn];omega
   have i6:m<9223372036854775808:=by omega
   rw[aX,bg,BitVec.xor_allOnes,hm,asC];apply asd;rw[avj,ats,avj,asn,asn,atn];omega
 simp[aR,bE,av];refine zB _ fun v l' h=>?_
 simp;exact bl v l' h
theorem ahU (n:Int) (h1:-9223372036854775808<=n) (ae:n<9223372036854775808) {l:ap} {K:ad->ap->Prop} (bl:∀ v l',cj 1 ci l l' v (eR (nF n).toNat) false->K v l') :
  dr Tryz.prog GS 225 [.int .i64 n] l (c:=⟨K⟩) :=by
 apply bm Tryz.func225 [];by_cases h:0<=n
 ·obtain⟨m,rfl⟩:=asQ h;have av:2#64*BitVec.ofNat 64 m=nF m:=by
   unfold nF; rw[if_pos h,asC];apply asd;simp only[at3,asn];omega
  simp[av];refine xj _ fun v l' h=>?_
  simp;exact bl v l' h
 ·have bX:IntKind.i64.wrap (n+1)=n+1:=wrap_i64 (by omega) (by omega);have w2:IntKind.i64.wrap (0 - (n+1))=0 - (n+1) :=wrap_i64 (by omega) (by omega);have w2:IntKind.i64.wrap (-(n+1))=-(n+1) :=wrap_i64 (by omega) (by omega);have av:2#64*BitVec.ofInt 64 (-(n+1))+1#64=nF n:=by
   obtain⟨m,hm⟩:=asQ (show 0<=-(n+1) by omega);unfold nF; rw[if_neg h,hm,asC,as2];apply asd;simp only[at3,asn,avi];omega
  simp[h,bX,w2,av];refine xj _ fun v l' h=>?_
  simp;exact bl v l' h
def jL (s:List B) :List B:=eR s.length++s
theorem iF (n:Nat) :(eR n).length<=9:=by
 unfold eR;have:=(H0 n).2;split
 ·simp
 ·simp[Ou]; omega
theorem aaY (s:List B) :(s.map ci).flatten=s.map bA:=x3 s
theorem Qd (l:ap) (s:fi) :dA l 1 (cN s)=some ((s.l.map ci).flatten,s.l.length) :=ul l 1 ci s
theorem Xl (s:fi) (ak:s.l.length<=10000) {x:ad} {l:ap} (ai:dA l 1 x=some ((s.l.map ci).flatten,s.l.length)) (bn:cz (.au 1) x=some (.int .i64 s.l.length)) (b1:∀ l',l.length<=l'.length->(∀ b,b<l.length->l'[b]? = l[b]?)->dA l' 1 x=some ((s.l.map ci).flatten,s.l.length))
  {K:ad->ap->Prop} (bl:∀ v l',cj 1 ci l l' v (jL s.l) false->K (.bJ [v,.int .i64 0]) l') :dr Tryz.prog GS 201 [x] l (c:=⟨K⟩) :=by
 apply bm Tryz.func201 [];have h1:¬ ((10000:Int)<s.l.length) :=by omega
 have aA:cK=140737488355328:=rfl;simp[bn,h1];refine zB _ fun v l' h=>?_
 have aF:(BitVec.ofNat 64 s.l.length).toNat=s.l.length:=by rw[asn]; exact asg (by omega)
 rw[aF] at h;have n3:=iF s.l.length;obtain⟨a8,bQ,aX,bg,_⟩:=h.app (by_:=1) (x:=x) (xs:=s.l) (b1 l' h.le h.same) (by simp[ci]) (by omega) (by omega) (by rw[aA]; omega);simp[aX];refine dt.cy ?_;simp;exact bl a8 bQ (by simpa [jL] using bg)
theorem VK (s:fi) (ak:s.l.length<=10000) {x:ad} {l:ap} (ai:dA l 1 x=some ((s.l.map ci).flatten,s.l.length)) (bn:cz (.au 1) x=some (.int .i64 s.l.length)) (b1:∀ l',l.length<=l'.length->(∀ b,b<l.length->l'[b]? = l[b]?)->dA l' 1 x=some ((s.l.map ci).flatten,s.l.length))
  {K:ad->ap->Prop} (bl:∀ v l',cj 1 ci l l' v (jL s.l) false->K v l') :dr Tryz.prog GS 172 [x] l (c:=⟨K⟩) :=by
 apply bm Tryz.func172 [];have aA:cK=140737488355328:=rfl;simp[bn];refine xj _ fun v l' h=>?_
 have aF:(BitVec.ofNat 64 s.l.length).toNat=s.l.length:=by rw[asn]; exact asg (by omega)
 rw[aF] at h;have n3:=iF s.l.length;obtain⟨a8,bQ,aX,bg,_⟩:=h.app (by_:=1) (x:=x) (xs:=s.l) (b1 l' h.le h.same) (by simp[ci]) (by omega) (by omega) (by rw[aA]; omega);simp[aX];refine dt.cy ?_;simp;exact bl a8 bQ (by simpa [jL] using bg)
def aQ (i:List B) :List ad:=i.map bA
abbrev dM:=dg (List B)
def aN (s:dM) :ad:=cL 32 aQ s
def fo (s:dM) :Prop:=∀ i∈s.l,i.length=32
theorem eP (i:List B) :aZ (aQ i)=true:=lD bA (fun _=>rfl) _
theorem eb (s:dM) :(aN s).closed=true:=xW eP s
theorem P3:∀ a b:List B,a.length=b.length->pg (a.map fun x=>UInt8.ofNat x.toNat) (b.map fun x=>UInt8.ofNat x.toNat)=cu a b
 | [],[],_=>rfl
 | [],_::_,h=>by simp at h
 | _::_,[],h=>by simp at h
 | x::a,y::b,h=>by
  have aO:=P3 a b (by simpa using h);have ai:=x.isLt;have ay:=y.isLt;rw[P2];simp only[ast,pg,aO];have aR:(UInt8.ofNat x.toNat=UInt8.ofNat y.toNat)<->x.toNat=y.toNat:=by
   constructor
   ·intro h;have:=congrArg UInt8.toNat h;simp only[UInt8.toNat_ofNat'] at this;omega
   ·intro h; rw[h]
  have bE:(UInt8.ofNat x.toNat<UInt8.ofNat y.toNat)<->x.toNat<y.toNat:=by
   rw[UInt8.lt_iff_toNat_lt]; simp only[UInt8.toNat_ofNat'];rw[asg (by omega),asg (by omega)]
  by_cases h1:x.toNat=y.toNat
  ·rw[if_pos (aR.2 h1),if_neg (by omega),if_neg (by omega)]
  ·rw[if_neg (fun h=>h1 (aR.1 h))];by_cases ae:x.toNat<y.toNat
   ·rw[if_pos (bE.2 ae),if_pos ae]
   ·rw[if_neg (fun h=>ae (bE.1 h)),if_neg ae,if_pos (by omega)]
@[simp ↓] theorem aqe {P:Program} {aG:Operand->ad} {l:ap} (f:FuncId) (x9 x y:Operand) :b5 P aG l (.cu f x9 x y)=(match Hu f (aG x9) with | true=>dV l (cmpL l (aG x) (aG y)) | false=>none) :=id rfl
@[simp ↓] theorem apm (f:FuncId) (x9 x y:Operand) (v:ad) (l:ap) (K:ad->ap->Prop) :eY (.cu f x9 x y) v l K=K v l:=id rfl
@[simp] theorem aoC (f:FuncId) :Hu f (.fn f [] [])=true:=avc f
theorem PQ:∀ a:List B,ow (a.map bA)=some (a.map fun x=>UInt8.ofNat x.toNat)
 | []=>rfl
 | x::a=>by
  simp only[ast,ow,PQ a,asb];simp[u]
theorem PR (l:ap) (s:fi) :rr l (cN s)=some (s.l.map fun x=>UInt8.ofNat x.toNat) :=by
 have h:=Qd l s;rw[aaY] at h;cases s with
 | none=>simp[rr,cL,dA,ow]
 | some a=>
  unfold rr;simp only[cL];have ae:dA l 1 (ad.cq 1 (a.map ci))=some (a.map bA,a.length) :=h;rw[ae];exact PQ a
theorem E9 (a b:fi) (h:a.l.length=b.l.length) :bx Tryz.prog GS 106 [cN a,cN b] (.int .i64 (cu a.l b.l)) :=by
 refine bH Tryz.checked.mixed bD ?_;apply bm Tryz.func106 [];have ah:cmpL [] (cN a) (cN b)=some (.int .i64 (cu a.l b.l)) :=by
  unfold cmpL;rw[PR,PR];simp only[P3 _ _ h]
 simp[ah];exact aK rfl rfl
theorem Ez {n b:Nat} (dv:0<n) :gS (.arr n 1) (.ptr b 0 n) none none none=some (.au 1 b 0 n n n) :=by
 have:g1 n n none none none=some (0,n,n) :=rfl;simp only[gS,this];rw[if_pos (by omega),if_neg (by omega)];simp
theorem z7 (a b:List B) (az:a.length=32) (ag:b.length=32) :bx Tryz.prog GS 149 [fD a,fD b] (.int .i64 (cu a b)) :=by
 refine bH Tryz.checked.mixed bD ?_;apply bm Tryz.func149 [];have ak:=Ez (n:=32) (b:=1) (by omega);have Dx:=Ez (n:=32) (b:=0) (by omega);simp[fD,az,ag,ak,Dx];have ah:=E9 (some a) (some b) (by simp[az,ag]);refine iW ah ?_ rfl ?_
 ·exact .cons ((pK (j:=0) az rfl).na (fun _=>rfl) (some a) rfl rfl) (.cons ((pK (j:=1) ag rfl).na (fun _=>rfl) (some b) rfl rfl) .nil)
 ·simp;exact aK rfl rfl
theorem NE (a b:List B) (az:a.length=32) (ag:b.length=32) :bx Tryz.prog GS 107 [fD a,fD b] (.int .i64 (cu a b)) :=by
 refine bH Tryz.checked.mixed bD ?_;apply bm Tryz.func107 [];obtain⟨A,cv⟩:∃ A,A=a.map bA:=⟨_,rfl⟩
 obtain⟨C,iw⟩:∃ C,C=b.map bA:=⟨_,rfl⟩
 have hK:A.length=32:=by rw[cv,asi,az]
 have kM:C.length=32:=by rw[iw,asi,ag]
 unfold fD;rw[<-cv,<-iw];simp[hK,kM];refine cw 32 (fun k af l=>af 2=.ptr 0 0 32/\af 3=.ptr 1 0 32/\af 5=.int .i64 k/\l=[.cells 32 A,.cells 32 C]/\∀ j,j<k->a[j]? = b[j]?) ?_ (by simp);rintro k af l hk ⟨aT,a7,bf,rfl,heq⟩;obtain⟨af,rfl⟩:=kb aT a7 bf;clear aT a7 bf;have yr:=ZG k heq (by omega) (by omega);by_cases h:(k:Int)<32
 ·have g4:k<32:=by omega
  have fw:IntKind.i64.wrap ((k:Int)+1)=(k+1:Nat) :=wrap_i64 (by omega) (by omega);obtain⟨x,ai,_⟩:=bu (l:=a) (k:=k) (by omega);obtain⟨y,ay,_⟩:=bu (l:=b) (k:=k) (by omega);have abL:A[k]? = some (bA x) :=by rw[cv,ar5,ai]; rfl
  have abR:C[k]? = some (bA y) :=by rw[iw,ar5,ay]; rfl
  obtain⟨_,Kv⟩:=arY.1 abL;obtain⟨_,Kx⟩:=arY.1 abR;have K6:a.drop k=x::a.drop (k+1) :=by
   obtain⟨h1,ae⟩:=arY.1 ai;rw[asS h1,ae]
  have acN:b.drop k=y::b.drop (k+1) :=by
   obtain⟨h1,ae⟩:=arY.1 ay;rw[asS h1,ae]
  rw[K6,acN,P2] at yr;have jf:((u x:Int)<u y)<->x.toNat<y.toNat:=by unfold u; omega
  have kx:((u y:Int)<u x)<->y.toNat<x.toNat:=by unfold u; omega
  by_cases cm:x.toNat<y.toNat
  ·rw[if_pos cm] at yr;have Fl:x<y:=cm;simp[h,g4,hK,kM,Kv,Kx,Fl];exact aK (by rw[<-yr]) rfl
  ·have Fl:¬ x<y:=cm;rw[if_neg cm] at yr;by_cases dk:y.toNat<x.toNat
   ·rw[if_pos dk] at yr;have JD:y<x:=dk;simp[h,g4,hK,kM,Kv,Kx,Fl,JD];exact aK (by rw[<-yr]) rfl
   ·have JD:¬ y<x:=dk;simp[h,g4,hK,kM,Kv,Kx,Fl,JD,fw];intro j aj;by_cases fB:j=k
    ·subst fB;rw[ai,ay];have:x=y:=asd (by omega);rw[this]
    ·exact heq j (by omega)
 ·have e9:k=32:=by omega
  subst e9;have:cu a b=0:=by
   rw[<-yr,asW (by omega),asW (by omega)]; rfl
  simp;exact aK (by rw[this]) rfl
abbrev b2 (l:List (List B)) (k:Nat) :List B:=l.getD k []
def ea (l:List (List B)) :Bool:=decide (∀ k,k<l.length->1<=k->cu (b2 l (k - 1)) (b2 l k)<0)
def zt (l:List (List B)) :Bool:=decide (∀ k,k<l.length->1<=k->¬ cu (b2 l k) (b2 l (k - 1))<0)
theorem fJ {l:List (List B)} {k:Nat} {x:List B} (h:l[k]? = some x) :b2 l k=x:=by
 unfold b2; rw[asq,h]; rfl
theorem V7 {l:List (List B)} (h:∀ k,k<l.length->1<=k->cu (b2 l (k - 1)) (b2 l k)<0) :ea l=true:=decide_eq_true h
theorem V6 {l:List (List B)} {k:Nat} (hk:k<l.length) (h1:1<=k) (h:¬ cu (b2 l (k - 1)) (b2 l k)<0) :ea l=false:=decide_eq_false fun aH=>h (aH k hk h1)
theorem WB {l:List (List B)} (h:∀ k,k<l.length->1<=k->¬ cu (b2 l k) (b2 l (k - 1))<0) :zt l=true:=decide_eq_true h
theorem ajx {l:List (List B)} {k:Nat} (hk:k<l.length) (h1:1<=k) (h:cu (b2 l k) (b2 l (k - 1))<0) :zt l=false:=decide_eq_false fun aH=>aH k hk h1 h
theorem cA {x:List B} (h:x.length=32) :(aQ x).length=32:=by simp[aQ,h]
theorem NA (a:dM) (az:fo a) (am:a.l.length<=1000000) :bx Tryz.prog GS 61 [aN a] (.bool (ea a.l)) :=by
 refine bH Tryz.checked.mixed bD ?_;apply bm Tryz.func61 [];simp[aN];refine cw (a.l.length - 1) (fun k af l=>af 0=cL 32 aQ a/\af 3=.int .i64 ((k+1:Nat) :Int)/\∀ j,j<k+1->j<a.l.length->1<=j->cu (b2 a.l (j - 1)) (b2 a.l j)<0) ?_ ⟨by simp[aN],by simp,fun j h1 _ ae=>by omega⟩;rintro k af l hk ⟨cg,a7,ak⟩;obtain⟨s,rfl⟩:=nE cg a7;clear cg a7;obtain⟨m,hm⟩:∃ m,m=k+1:=⟨_,rfl⟩
 rw[<-hm] at ak ⊢;simp;refine g8 (fun h=>?_) (fun h=>?_)
 ·simp only[decide_eq_true_eq] at h;have aM:m<a.l.length:=by omega
  obtain⟨x,ai,cE⟩:=bu (l:=a.l) (k:=k) (by omega);obtain⟨y,ay,ch⟩:=bu aM;have aR:IntKind.i64.wrap ((m:Int) - 1)=(k:Int) :=by rw[IntKind.wrap_i64]; omega
  have bE:IntKind.i64.wrap ((m:Int)+1)=((m+1:Nat) :Int) :=by rw[IntKind.wrap_i64]; omega
  have iT:=fJ ai;have tk:=fJ ay;simp[aR,ai,ay,cA (az x cE),cA (az y ch),arX];refine aW (NE x y (az x cE) (az y ch)) (by simp[aZ,eP,ad.closed,fD]) ?_;by_cases ah:cu x y<0
  ·have gv:¬ (0<=cu x y) :=by omega
   simp[gv,bE];refine⟨by omega,fun j h1 ae al=>?_⟩;have ep:cu (b2 a.l (j - 1)) (b2 a.l j)<0:=by
    by_cases aj:j=m
    ·rw[aj,show m - 1=k by omega,iT,tk]; exact ah
    ·exact ak j (by omega) ae al
   simpa [b2] using ep
  ·have gv:0<=cu x y:=by omega
   simp[gv];refine aK (congrArg ad.bool (V6 (k:=m) aM (by omega) ?_).symm) rfl;rw[show m - 1=k by omega,iT,tk];exact ah
 ·simp[h];exact aK (congrArg ad.bool (V7 fun j h1 ae=>ak j (by simp at h; omega) h1 ae).symm) rfl
theorem Ka:iv Tryz.prog 149=true:=by kernel_rfl
theorem afv (a:dM) (az:fo a) (am:a.l.length<=1000000) :bx Tryz.prog GS 197 [aN a,.fn 149 [] []] (.bool (zt a.l)) :=by
 refine bH Tryz.checked.mixed bD ?_;apply bm Tryz.func197 [];have h8:IntKind.i64.wrap ((a.l.length:Int) - 1)=(a.l.length:Int) - 1:=by rw[IntKind.wrap_i64]; omega
 simp[aN,h8];refine cw (a.l.length - 1) (fun k af l=>af 0=cL 32 aQ a/\af 1=.fn 149 [] []/\af 5=.int .i64 ((a.l.length:Int) - 1 - k)/\∀ j,j<a.l.length->a.l.length - 1 - k<j->¬ cu (b2 a.l j) (b2 a.l (j - 1))<0) ?_ ⟨by simp[aN],by simp,by simp,fun j h1 ae=>by omega⟩;rintro k af l hk ⟨cg,aL,bf,ak⟩;obtain⟨s,rfl⟩:=kb cg aL bf;clear cg aL bf;simp;refine g8 (fun h=>?_) (fun h=>?_)
 ·simp only[decide_eq_true_eq] at h;obtain⟨m,hm⟩:∃ m,m+k+2=a.l.length:=⟨a.l.length - 2 - k,by omega⟩
  have aR:((a.l.length:Int) - 1 - k)=((m+1:Nat) :Int) :=by omega
  rw[aR];obtain⟨x,ai,cE⟩:=bu (l:=a.l) (k:=m+1) (by omega);obtain⟨y,ay,ch⟩:=bu (l:=a.l) (k:=m) (by omega);obtain⟨n,aF⟩:∃ n,n=m+1:=⟨_,rfl⟩
  rw[<-aF] at ai ⊢;have bE:IntKind.i64.wrap ((n:Int) - 1)=(m:Int) :=by rw[IntKind.wrap_i64]; omega
  have iT:=fJ ai;have tk:=fJ ay;simp[bE,ai,ay,cA (az x cE),cA (az y ch),arX];refine⟨Ka,aW (z7 x y (az x cE) (az y ch)) (by simp[aZ,eP,ad.closed,fD]) ?_⟩;by_cases ah:cu x y<0
  ·simp[ah];refine aK (congrArg ad.bool (ajx (k:=n) (by omega) (by omega) ?_).symm) rfl;rw[show n - 1=m by omega,iT,tk];exact ah
  ·simp[ah,bE];refine⟨by omega,by omega,fun j h1 ae=>?_⟩;have ep:¬ cu (b2 a.l j) (b2 a.l (j - 1))<0:=by
    by_cases aj:j=n
    ·rw[aj,show n - 1=m by omega,iT,tk]; exact ah
    ·exact ak j h1 (by omega)
   simpa [b2] using ep
 ·simp[h];exact aK (congrArg ad.bool (WB fun j h1 ae=>ak j h1 (by simp at h; omega)).symm) rfl
def Ac (l:List (List B)) (k:Nat) :Bool:=decide (k+1<l.length)&&decide (0<=cu (b2 l k) (b2 l (k+1)))
theorem V5 {l:List (List B)}:ea l=true<->∀ k,k<l.length->Ac l k=false:=by
 unfold ea Ac;rw[decide_eq_true_eq];constructor
 ·intro h k hk;by_cases h1:k+1<l.length
  ·have:=h (k+1) h1 (by omega);rw[atP] at this;rw[decide_eq_false (p:=0<=_) (by omega),Bool.and_false]
  ·simp[h1]
 ·intro h k hk h1;have:=h (k - 1) (by omega);rw[show k - 1+1=k by omega] at this;rw[decide_eq_true hk,asM,decide_eq_false_iff_not] at this;omega
theorem aiw (a:dM) (az:fo a) (am:a.l.length<=1000000) (k:Nat) (hk:k<a.l.length) (x:List B) (ai:x.length=32) (r:ap) {K:ad->ap->Prop}
  (bl:∀ dI,K (.bool (Ac a.l k)) (.cells 1 [aN a] ::.cells 1 [.int .i64 ((k+1:Nat) :Int)] ::dI)) :
  dr Tryz.prog GS 261 [fD x,.ptr 1 0 1,.ptr 0 0 1] (.cells 1 [aN a] ::.cells 1 [.int .i64 (k:Int)] ::r) (c:=⟨K⟩) :=by
 apply bm Tryz.func261 [];have aR:IntKind.i64.wrap ((k:Int)+1)=((k+1:Nat) :Int) :=by rw[IntKind.wrap_i64]; omega
 obtain⟨m,hm⟩:∃ m,m=k+1:=⟨_,rfl⟩
 rw[<-hm] at aR bl;have bE:IntKind.i64.wrap ((m:Int) - 1)=(k:Int) :=by rw[IntKind.wrap_i64]; omega
 unfold Ac at bl;rw[<-hm] at bl;obtain⟨y,ay,ch⟩:=bu hk;by_cases h:m<a.l.length
 ·obtain⟨z,av,tf⟩:=bu h;have tk:=fJ ay;have afx:=fJ av;rw[tk,afx] at bl;have h' : (m:Int)<(a.l.length:Int) :=by omega
  have qR:a.l[m]=z:=(arY.1 av).2;simp[fD,aN,aR,bE,h,h',ay,qR,cA (az y ch),cA (az z tf),arX];refine aW (z7 y z (az y ch) (az z tf)) (by simp[aZ,eP,ad.closed,fD]) ?_;have:=bl (r++[aY.cells x.length (List.map bA x)]);simpa [h,aN] using this
 ·have h' : ¬ (m:Int)<(a.l.length:Int) :=by omega
  simp[fD,aN,aR,bE,h,h'];have:=bl (r++[aY.cells x.length (List.map bA x)]);simpa [h,aN] using this
theorem aa3:iv Tryz.prog 261=true:=by kernel_rfl
theorem aiy (a:dM) (az:fo a) (am:a.l.length<=1000000) {K:ad->ap->Prop} (bl:∀ n dI,(n<0<->ea a.l=true)->K (.int .i64 n) dI) :
  dr Tryz.prog GS 117 [aN a,.fn 261 [] [.ptr 1 0 1,.ptr 0 0 1]] [.cells 1 [aN a],.cells 1 [.int .i64 0]] (c:=⟨K⟩) :=by
 apply bm Tryz.func117 [];simp[aN];refine cw a.l.length (fun k af l=>af 0=cL 32 aQ a/\af 1=.fn 261 [] [.ptr 1 0 1,.ptr 0 0 1]/\af 7=.int .i64 a.l.length/\af 8=.int .i64 k/\(∃ r,l=.cells 1 [aN a] ::.cells 1 [.int .i64 (k:Int)] ::r)/\∀ j,j<k->Ac a.l j=false) ?_ ⟨by simp[aN],by simp,by simp,by simp,⟨[],by simp[aN]⟩,fun j h=>by omega⟩;rintro k af l hk ⟨cg,aL,dh,de,⟨r,rfl⟩,ak⟩;obtain⟨s,rfl⟩:=jh cg aL dh de;clear cg aL dh de;simp;refine g8 (fun h=>?_) (fun h=>?_)
 ·simp only[decide_eq_true_eq] at h;obtain⟨x,ai,cE⟩:=bu (l:=a.l) (k:=k) (by omega);have aR:IntKind.i64.wrap ((k:Int)+1)=((k+1:Nat) :Int) :=by rw[IntKind.wrap_i64]; omega
  simp[ai,cA (az x cE),arX];refine⟨aa3,aiw a az am k (by omega) x (az x cE) r fun dI=>?_⟩;cases bN:Ac a.l k with
  | true=>
   simp;refine bl _ _ ⟨fun aF=>by omega,fun aA=>?_⟩;have:=V5.1 aA k (by omega);rw[bN] at this; cases this
  | false=>
   simp[aR];refine⟨by omega,fun j aj=>?_⟩;by_cases fB:j=k
   ·subst fB; exact bN
   ·exact ak j (by omega)
 ·simp[h];refine bl _ _ ⟨fun _=>V5.2 fun j aj=>ak j (by simp at h; omega),fun _=>by omega⟩
theorem aix (a:dM) (az:fo a) (am:a.l.length<=1000000) {K:ad->ap->Prop} (bl:∀ dI,K (.bool (!ea a.l)) dI) :
  dr Tryz.prog GS 71 [aN a,.fn 261 [] [.ptr 1 0 1,.ptr 0 0 1]] [.cells 1 [aN a],.cells 1 [.int .i64 0]] (c:=⟨K⟩) :=by
 apply bm Tryz.func71 [];simp;refine aiy a az am fun n dI aF=>?_
 have e:decide (0<=n)=!ea a.l:=by
  cases aA:ea a.l with
  | true=>have:=aF.2 aA; simp; omega
  | false=>
   have:¬ n<0:=fun h=>by have:=aF.1 h; rw[aA] at this; cases this
   simp; omega
 simp[e];exact bl dI
theorem aiz (a:dM) (az:fo a) (am:a.l.length<=1000000) :bx Tryz.prog GS 242 [aN a] (.bool (ea a.l)) :=by
 refine bH Tryz.checked.mixed bD ?_;apply bm Tryz.func242 [];have ah:(aN a).cells=some [aN a] :=by cases a<;>rfl
 simp[ah];refine aix a az am fun dI=>?_
 simp;exact aK rfl rfl
def r7 (l:List (List B)) :List B:=eR l.length++l.flatten
theorem PX:∀ (x:List B),pe 1 x.length (x.map bA)=x.map ci
 | []=>rfl
 | b::r=>by
  show ((bA b::r.map bA).take 1) ::pe 1 r.length ((bA b::r.map bA).drop 1)=_;simp[PX r,ci]
theorem Zw {x:List B} (h:x.length=32) :pe 1 32 (aQ x)=x.map ci:=by
 have:=PX x;rw[h] at this;exact this
theorem Mg {l:List (List B)} (h:∀ x∈l,x.length=32) :l.flatten.length=l.length*32:=mM h
theorem WT {l:List (List B)} {k:Nat} {x:List B} (h:l[k]? = some x) :(l.take (k+1)).flatten=(l.take k).flatten++x:=by
 rw[ash,h]; simp
theorem ai9 {x:List B} (h:x.length=32) :gS (.arr 32 1) (.b0 (aQ x) 0) none none none=some (.cq 1 (x.map ci)) :=by
 have:=Zw h;have ag:g1 32 32 none none none=some (0,32,32) :=rfl;unfold gS;simp only[ag];simp[cA h,this]
structure XT (l:ap) (s:dM) (k:Nat) (af:bi) (l1:ap) :Prop where
 cg:af 0=cL 32 aQ s
 bp:af 4=.int .i64 k
 tx:∃ v,af 3=v/\cj 1 ci l l1 v (eR s.l.length++(s.l.take k).flatten) false
theorem ahJ (s:dM) (aq:fo s) (ak:s.l.length<=1000) {l:ap} {K:ad->ap->Prop} (bl:∀ v l',cj 1 ci l l' v (r7 s.l) false->K v l') :
  dr Tryz.prog GS 171 [aN s] l (c:=⟨K⟩) :=by
 apply bm Tryz.func171 [];have aA:cK=140737488355328:=rfl;have aF:(BitVec.ofNat 64 s.l.length).toNat=s.l.length:=by rw[asn]; exact asg (by omega)
 have n3:=iF s.l.length;simp[aN];refine xj _ fun v l' h=>?_
 rw[aF] at h;simp;refine cw s.l.length (XT l s) ?_ ⟨by simp[aN],by simp,v,by simp,by simpa using h⟩;rintro k af l1 hk ⟨cg,bp,v,a7,c1⟩;obtain⟨af,rfl⟩:=kb cg a7 bp;clear cg a7 bp;simp;refine g8 (fun h=>?_) (fun h=>?_)
 ·simp only[decide_eq_true_eq] at h;obtain⟨x,ai,cE⟩:=bu (l:=s.l) (k:=k) (by omega);have aR:IntKind.i64.wrap ((k:Int)+1)=((k+1:Nat) :Int) :=by rw[IntKind.wrap_i64]; omega
  have eo:((s.l.take k).flatten).length<=32000:=by
   rw[Mg (fun y ay=>aq y (asz ay)),asc]; omega
  obtain⟨a8,bQ,aX,bg,_⟩:=c1.app (by_:=1) (x:=.cq 1 (x.map ci)) (xs:=x) (by simp[dA]) (by simp[ci]) (by omega) (by omega) (by rw[aA,aq x cE]; simp only[asa]; omega);simp[ai,cA (aq x cE),arX,ai9 (aq x cE),aX];refine dt.cy ?_;simp[aR];exact⟨by omega,by simp,by simp,a8,by simp,by rw[WT ai,<-ass]; exact bg⟩
 ·simp[h];have aJ:s.l.take k=s.l:=arX (by simp at h; omega);rw[aJ] at c1;exact bl _ _ c1
structure XU (l:ap) (s:dM) (k:Nat) (af:bi) (l1:ap) :Prop where
 oD:af 17=cL 32 aQ s
 sS:af 18=.int .i64 s.l.length
 sT:af 19=.int .i64 k
 tx:∃ v,af 4=v/\cj 1 ci l l1 v (eR s.l.length++(s.l.take k).flatten) false
theorem akQ (s:dM) (aq:fo s) (ak:s.l.length<=60) (aA:ea s.l=true) {l:ap} {K:ad->ap->Prop} (bl:∀ v l',cj 1 ci l l' v (r7 s.l) false->K (.bJ [v,.int .i64 0]) l') :
  dr Tryz.prog GS 200 [aN s] l (c:=⟨K⟩) :=by
 apply bm Tryz.func200 [];have yT:cK=140737488355328:=rfl;have aF:(BitVec.ofNat 64 s.l.length).toNat=s.l.length:=by rw[asn]; exact asg (by omega)
 have n3:=iF s.l.length;have iM:¬ (60:Int)<(s.l.length:Int) :=by omega
 simp[aN,iM];refine aW (aiz s aq (by omega)) (by have:=eb s; simp[aZ]; exact this) ?_;simp[aA,aN];refine zB _ fun v l' h=>?_
 rw[aF] at h;simp[aN];refine cw s.l.length (XU l s) ?_ ⟨by simp[aN],by simp,by simp,v,by simp,by simpa using h⟩;rintro k af l1 hk ⟨oD,sS,sT,v,bp,c1⟩;obtain⟨af,rfl⟩:=jh oD sS sT bp;clear oD sS sT bp;simp;refine g8 (fun h=>?_) (fun h=>?_)
 ·simp only[decide_eq_true_eq] at h;obtain⟨x,ai,cE⟩:=bu (l:=s.l) (k:=k) (by omega);have aR:IntKind.i64.wrap ((k:Int)+1)=((k+1:Nat) :Int) :=by rw[IntKind.wrap_i64]; omega
  have eo:((s.l.take k).flatten).length<=32000:=by
   rw[Mg (fun y ay=>aq y (asz ay)),asc]; omega
  obtain⟨a8,bQ,aX,bg,_⟩:=(c1.more [.cells 32 (aQ x)]).app (by_:=1) (x:=.au 1 l1.length 0 32 32 32) (xs:=x) (by simp[dA,aq x cE,cA (aq x cE),arX,aQ,x3]) (by simp[ci]) (by omega) (by omega) (by rw[yT,aq x cE]; simp only[asa]; omega);have hN:bt (rep 32 (.int .u8 0)) 0 (aQ x)=aQ x:=ek (by rw[cA (aq x cE)]; rfl);simp[ai,cA (aq x cE),arX,Ez,hN,aX];refine dt.cy ?_;simp[aR];exact⟨by omega,by simp,by simp,by simp,a8,by simp,by rw[WT ai,<-ass]; exact bg⟩
 ·simp[h];have aJ:s.l.take k=s.l:=arX (by simp at h; omega);rw[aJ] at c1;exact bl _ _ c1
def fA (s:List UInt8) :List B:=s.map fun b=>b.toBitVec
theorem IG (s:List UInt8) :(s.map fun b=>[jS b])=(fA s).map ci:=by
 unfold fA;rw[atV];rfl
theorem ra (s:List UInt8) :(fA s).length=s.length:=by simp[fA]
def pc (b:Q) (k:Nat) :List B:=(List.range k).map fun i=>mJ b.toNat (7 - i)
def jM (v:h6) :List B:=v.kind::(if v.kind=1#8 then eR (nF v.num).toNat else if v.kind=2#8 then pc v.bits 8 else jL (fA v.text))
def D7 (v:h6) :Prop:=-9223372036854775808<=v.num/\v.num<9223372036854775808/\v.text.length<=10000
theorem PE (b:Q) (k:Nat) :pc b (k+1)=pc b k++[mJ b.toNat (7 - k)] :=by
 unfold pc; rw[atA,asv]; rfl
theorem UC (l:ap) (c:aY) (x:B) :cj 1 ci l (l++[c,.cells 1 [bA x]]) (.au 1 (l.length+1) 0 1 1 1) [x] false:=by
 exact⟨l.length+1,pK (n:=1) (a:=[x]) rfl (by simp),by simp,fun b ag=>arZ ag,.inr (by omega),rfl⟩
theorem u7 (l:ap) (c:aY) (x:B) :cj 1 ci (l++[c]) (l++[c,.cells 1 [bA x]]) (.au 1 (l.length+1) 0 1 1 1) [x] false:=by
 have e:l++[c,.cells 1 [bA x]]=(l++[c])++[.cells 1 [bA x]] :=by simp
 exact⟨l.length+1,pK (n:=1) (a:=[x]) rfl (by simp),by simp,fun b ag=>by rw[e]; exact arZ ag,.inr (by simp),rfl⟩
structure XD (l:ap) (v:h6) (p:Nat) (k:Nat) (af:bi) (l1:ap) :Prop where
 aL:af 1=.ptr p 0 4
 bp:af 4=.int .i64 (7 - (k:Int))
 tx:∃ w,af 3=w/\cj 1 ci (l++[.cells 4 (dJ v)]) l1 w (v.kind::pc v.bits k) false
theorem ahZ (v:h6) (aw:D7 v) {l:ap} {K:ad->ap->Prop} (bl:∀ w l',cj 1 ci l l' w (jM v) false->K w l') :
  dr Tryz.prog GS 173 [.aI (dJ v)] l (c:=⟨K⟩) :=by
 apply bm Tryz.func173 [];have aA:cK=140737488355328:=rfl;have aB:=UC l (.cells 4 (dJ v)) v.kind;obtain⟨rV,oM,aJ⟩:=aw;have ah:x1 (.str v.text)=some (.cq 1 ((fA v.text).map ci)) :=by
  show some (ad.cq 1 (v.text.map fun b=>[jS b]))=_;rw[IG]
 by_cases cm:v.kind=1#8
 ·have n9:jM v=[v.kind]++eR (nF v.num).toNat:=by unfold jM; rw[if_pos cm]; rfl
  have aR:(u v.kind:Int)=1:=(iY v.kind).2 cm;simp only[bA,aR] at aB;have n3:=iF (nF v.num).toNat
  simp[dJ,aR];refine ahU v.num rV oM fun w l' h=>?_
  obtain⟨a8,bQ,aX,bg,_⟩:=(aB.frame h.le h.same).app (by_:=1) (x:=w) (xs:=eR (nF v.num).toNat) h.contents (by simp[ci]) (by omega) (by omega) (by rw[aA]; simp only[asp,asU]; omega);simp[aX];refine dt.cy ?_;simp;exact bl _ _ (by rw[n9]; exact bg)
 ·have aR:¬ (u v.kind:Int)=1:=fun h=>cm ((iY v.kind).1 h)
  by_cases dk:v.kind=2#8
  ·have bE:(u v.kind:Int)=2:=(mD v.kind).2 dk;have n9:jM v=v.kind::pc v.bits 8:=by unfold jM; rw[if_neg cm,if_pos dk]
   have ae:=u7 l (.cells 4 (dJ v)) v.kind;simp only[bA,bE] at ae;simp[dJ,bE];refine cw 8 (XD l v l.length) ?_ ⟨by simp,by simp,_,by simp,ae⟩;rintro k af l1 hk ⟨aL,bp,w,a7,c1⟩;have aC:l1[l.length]? = some (.cells 4 (dJ v)) :=by rw[c1.same l.length (by simp)]; simp
   obtain⟨af,rfl⟩:=kb aL a7 bp;clear aL a7 bp;by_cases iz:k=8
   ·subst iz;rw[<-n9] at c1;simp;exact bl _ _ (c1.base (by simp) fun b ag=>arZ ag)
   ·obtain⟨m,hm⟩:∃ m,m+k=7:=⟨7 - k,by omega⟩
    have em:7 - (k:Int)=(m:Int) :=by omega
    have J1:IntKind.i64.wrap ((m:Int) - 1)=(m:Int) - 1:=by rw[IntKind.wrap_i64]; omega
    have aai:IntKind.i64.wrap (8*(m:Int))=((8*m:Nat) :Int) :=by rw[IntKind.wrap_i64]; omega
    have kg:cB .shr .u64 (u v.bits) .i64 ((8*m:Nat) :Int)=some (.int .u64 (u (v.bits >>> (8*m)))) :=uh v.bits .i64 (8*m);have ri:=Fk v.bits m;have bn:(v.kind::pc v.bits k).length<=1000000000:=by simp[pc]; omega
    obtain⟨w',l',aX,bg⟩:=cj.push c1 (mJ v.bits.toNat m) bn;rw[em];simp[dJ] at aC;simp[aC,aai,kg,ri,aX,-Int.natCast_mul];refine dt.cy ?_;simp[J1];exact⟨by omega,by simp,by simp; omega,w',by simp,by rw[PE,show 7 - k=m by omega]; exact bg⟩
  ·have bE:¬ (u v.kind:Int)=2:=fun h=>dk ((mD v.kind).1 h)
   have n9:jM v=[v.kind]++jL (fA v.text) :=by unfold jM; rw[if_neg cm,if_neg dk]; rfl
   have lf:(jL (fA v.text)).length<=20000:=by
    have:=iF (fA v.text).length;unfold jL;rw[asa];have:=ra v.text;omega
   simp[dJ,aR,bE,ah];refine VK (some (fA v.text)) (by simpa [ra] using aJ) (by simp[dA]) (by simp) (fun l' _ _=>by simp[dA]) fun w l' h=>?_
   obtain⟨a8,bQ,aX,bg,_⟩:=(aB.frame h.le h.same).app (by_:=1) (x:=w) (xs:=jL (fA v.text)) h.contents (by simp[ci]) (by omega) (by omega) (by rw[aA]; simp only[asp,asU]; omega);simp[aX];refine dt.cy ?_;simp;exact bl _ _ (by rw[n9]; exact bg)
structure XE (l:ap) (v:h6) (p:Nat) (k:Nat) (af:bi) (l1:ap) :Prop where
 aL:af 1=.ptr p 0 4
 bT:af 6=.int .i64 (8*(7 - (k:Int)))
 tx:∃ w,af 5=w/\cj 1 ci (l++[.cells 4 (dJ v)]) l1 w (v.kind::pc v.bits k) false
theorem afF {v:h6} (h:ke v=true) (cm:¬ v.kind=1#8) (dk:¬ v.kind=2#8) :v.kind=3#8:=by
 unfold ke at h;simp[cm,dk] at h;exact h.1
theorem ak1 (v:h6) (aw:D7 v) (da:ke v=true) {l:ap} {K:ad->ap->Prop} (bl:∀ w l',cj 1 ci l l' w (jM v) false->K (.bJ [w,.int .i64 0]) l') :
  dr Tryz.prog GS 202 [.aI (dJ v)] l (c:=⟨K⟩) :=by
 apply bm Tryz.func202 [];have aA:cK=140737488355328:=rfl;have aB:=UC l (.cells 4 (dJ v)) v.kind;obtain⟨rV,oM,aJ⟩:=aw;have ah:x1 (.str v.text)=some (.cq 1 ((fA v.text).map ci)) :=by
  show some (ad.cq 1 (v.text.map fun b=>[jS b]))=_;rw[IG]
 have cO:=OI v;rw[da] at cO;by_cases cm:v.kind=1#8
 ·have n9:jM v=[v.kind]++eR (nF v.num).toNat:=by unfold jM; rw[if_pos cm]; rfl
  have aR:(u v.kind:Int)=1:=(iY v.kind).2 cm;simp only[bA,aR] at aB;have n3:=iF (nF v.num).toNat
  simp[dJ];refine aW cO rfl ?_;simp[hI,aR];refine akZ v.num rV oM fun w l' h=>?_
  obtain⟨a8,bQ,aX,bg,_⟩:=(aB.frame h.le h.same).app (by_:=1) (x:=w) (xs:=eR (nF v.num).toNat) h.contents (by simp[ci]) (by omega) (by omega) (by rw[aA]; simp only[asp,asU]; omega);simp[aX];refine dt.cy ?_;simp;exact bl _ _ (by rw[n9]; exact bg)
 ·have aR:¬ (u v.kind:Int)=1:=fun h=>cm ((iY v.kind).1 h)
  by_cases dk:v.kind=2#8
  ·have bE:(u v.kind:Int)=2:=(mD v.kind).2 dk;have n9:jM v=v.kind::pc v.bits 8:=by unfold jM; rw[if_neg cm,if_pos dk]
   have ae:=u7 l (.cells 4 (dJ v)) v.kind;simp only[bA,bE] at ae;simp[dJ];refine aW cO rfl ?_;simp[hI,bE];refine cw 8 (XE l v l.length) ?_ ⟨by simp,by simp,_,by simp,ae⟩;rintro k af l1 hk ⟨aL,bT,w,bf,c1⟩;have aC:l1[l.length]? = some (.cells 4 (dJ v)) :=by rw[c1.same l.length (by simp)]; simp
   obtain⟨af,rfl⟩:=kb aL bf bT;clear aL bf bT;by_cases iz:k=8
   ·subst iz;rw[<-n9] at c1;simp;exact bl _ _ (c1.base (by simp) fun b ag=>arZ ag)
   ·obtain⟨m,hm⟩:∃ m,m+k=7:=⟨7 - k,by omega⟩
    obtain⟨n,aF⟩:∃ n,n=8*m:=⟨_,rfl⟩
    have em:8*(7 - (k:Int))=(n:Int) :=by omega
    have J1:IntKind.i64.wrap ((n:Int) - 8)=(n:Int) - 8:=by rw[IntKind.wrap_i64]; omega
    have kg:cB .shr .u64 (u v.bits) .i64 (n:Int)=some (.int .u64 (u (v.bits >>> n))) :=uh v.bits .i64 n;have ri:=Fk v.bits m;rw[<-aF] at ri;have bn:(v.kind::pc v.bits k).length<=1000000000:=by simp[pc]; omega
    obtain⟨w',l',aX,bg⟩:=cj.push c1 (mJ v.bits.toNat m) bn;rw[em];simp[dJ] at aC;simp[aC,kg,ri,aX];refine dt.cy ?_;simp[J1];exact⟨by omega,by simp,by simp; omega,w',by simp,by rw[PE,show 7 - k=m by omega]; exact bg⟩
  ·have bE:¬ (u v.kind:Int)=2:=fun h=>dk ((mD v.kind).1 h)
   have c4:(u v.kind:Int)=3:=(pU v.kind).2 (afF da cm dk);have n9:jM v=[v.kind]++jL (fA v.text) :=by unfold jM; rw[if_neg cm,if_neg dk]; rfl
   have lf:(jL (fA v.text)).length<=20000:=by
    have:=iF (fA v.text).length;unfold jL;rw[asa];have:=ra v.text;omega
   simp only[bA,c4] at aB;simp[dJ];refine aW cO rfl ?_;simp[hI,c4,ah];refine Xl (some (fA v.text)) (by simpa [ra] using aJ) (by simp[dA]) (by simp) (fun l' _ _=>by simp[dA]) fun w l' h=>?_
   obtain⟨a8,bQ,aX,bg,_⟩:=(aB.frame h.le h.same).app (by_:=1) (x:=w) (xs:=jL (fA v.text)) h.contents (by simp[ci]) (by omega) (by omega) (by rw[aA]; simp only[asp,asU]; omega);simp[aX];refine dt.cy ?_;simp;exact bl _ _ (by rw[n9]; exact bg)
structure bq where
 hq:D
 br:dM
 cl:Q
 act:Act
 e:D
 s:D
def a1 (o:bq) :List ad:=[bC o.hq,aN o.br,cU o.cl,bA o.act.kind,.str o.act.key,bA o.act.val.kind,.int .i64 o.act.val.num,cU o.act.val.bits,.str o.act.val.text,bC o.e,bC o.s]
structure jO (o:bq) :Prop where
 ids:fo o.br
 len:o.br.l.length<=1000000
 val:D7 o.act.val
 key:o.act.key.length<=10000
def sV (o:bq) :Bool:=gE o.hq&&(decide (o.cl.toNat<=1000000000000)&&(kE o.act&&(jU o.e&&jU o.s)))
def fy (o:bq) :Int:=if 4<o.br.l.length then 4 else if ea o.br.l then (if sV o then 0 else 8) else 32
theorem k5 (o:bq) :aZ (a1 o)=true:=by
 have:=eb o.br;simp[a1,aZ,ad.closed,this]
theorem Nx (o:bq) (aq:jO o) :bx Tryz.prog GS 81 [.aI (a1 o)] (.int .i64 (fy o)) :=by
 refine bH Tryz.checked.mixed bD ?_;apply bm Tryz.func81 [];unfold fy;have eE:=eb o.br;have bn:cz (.au 32) (aN o.br)=some (.int .i64 o.br.l.length) :=by simp[aN]
 have jX:(aN o.br).cells=some [aN o.br] :=by cases o.br<;>rfl
 obtain⟨p,aC⟩:∃ p,p=aN o.br:=⟨_,rfl⟩
 by_cases h1:4<o.br.l.length
 ·have c3:(4:Int)<(o.br.l.length:Int) :=by omega
  rw[if_pos h1];simp[a1,bn,c3];exact aK rfl rfl
 ·have c3:¬ (4:Int)<(o.br.l.length:Int) :=by omega
  rw[if_neg h1];simp[a1,bn,c3];refine aW (NA o.br aq.ids aq.len) (by simp[aZ,eE]) ?_;cases ae:ea o.br.l with
  | false=>
   simp;exact aK rfl rfl
  | true=>
   simp;refine aW (VT o.hq) rfl ?_;unfold sV;cases al:gE o.hq with
   | false=>
    simp;exact aK rfl rfl
   | true=>
    have b1:((1000000000000:Int)<u o.cl)<->¬ o.cl.toNat<=1000000000000:=by unfold u; omega
    by_cases aE:o.cl.toNat<=1000000000000
    ·have sW:¬ ((1000000000000:Int)<u o.cl) :=fun h=>b1.1 h aE
     simp[aE,sW];refine aW (aie o.act) rfl ?_;cases aU:kE o.act with
     | false=>
      simp[hI];exact aK rfl rfl
     | true=>
      simp[hI];refine aW (FH o.e) rfl ?_;cases bz:jU o.e with
      | false=>
       simp;exact aK rfl rfl
      | true=>
       simp;refine aW (FH o.s) rfl ?_;cases dy:jU o.s with
       | false=>
        simp;exact aK rfl rfl
       | true=>
        simp;exact aK (by rw[if_pos aE]) rfl
    ·have sW:(1000000000000:Int)<u o.cl:=b1.2 aE;simp[aE,sW];exact aK rfl rfl
def opHead (o:bq) :List B:=111#8::eR o.hq.toNat
def ln (o:bq) :List B:=
 opHead o++r7 o.br.l++eR o.cl.toNat++[o.act.kind]++(if o.act.kind=1#8 then [] else jL (fA o.act.key))++(if o.act.kind=4#8 then jM o.act.val else [])
theorem DU {l:List (List B)} (h:∀ x∈l,x.length=32) :(r7 l).length<=9+l.length*32:=by
 have:=iF l.length;have ae:=Mg h;unfold r7;rw[asa];omega
theorem BN (s:List B) :(jL s).length<=9+s.length:=by
 have:=iF s.length;unfold jL;rw[asa];omega
theorem EN (v:h6) :(jM v).length<=20+v.text.length:=by
 have h1:=iF (nF v.num).toNat
 have ae:=BN (fA v.text);have al:=ra v.text;unfold jM;simp only[asp];split
 ·omega
 ·split
  ·simp[pc]; omega
  ·omega
theorem VJ (o:bq) (aq:jO o) (qA:o.br.l.length<=1000) {l:ap} {K:ad->ap->Prop} (bl:∀ w l',cj 1 ci l l' w (ln o) false->K w l') :
  dr Tryz.prog GS 122 [.aI (a1 o)] l (c:=⟨K⟩) :=by
 apply bm Tryz.func122 [[[0],[1],[2],[5],[6],[3,6],[4,6]]];have aA:cK=140737488355328:=rfl;have aB:=u7 l (.cells 11 (a1 o)) 111#8;have Ly:=iF o.hq.toNat
 have s7:=iF o.cl.toNat
 have gL:=DU aq.ids;have L0:(BitVec.setWidth 64 o.hq).toNat=o.hq.toNat:=by rw[asj]; exact asg (by have:=o.hq.isLt; omega)
 have aM:l.length<(l++[aY.cells 11 (a1 o)]).length:=by simp
 have eB:(l++[aY.cells 11 (a1 o)])[l.length]? = some (.cells 11 (a1 o)) :=by simp
 simp[a1];refine xj _ fun bX l1 h1=>?_
 rw[L0] at h1;obtain⟨w2,bQ,bg,di,_⟩:=(aB.frame h1.le h1.same).app (by_:=1) (x:=bX) (xs:=eR o.hq.toNat) h1.contents (by simp[ci]) (by omega) (by omega) (by rw[aA]; simp only[asp,asU]; omega);have s8:bQ[l.length]? = some (.cells 11 (a1 o)) :=by rw[di.same _ aM]; exact eB
 have qD:l.length<bQ.length:=by have:=di.le; omega
 have rW:=s8;simp[a1] at rW;simp[bg];refine dt.cy ?_;simp[rW];refine ahJ o.br aq.ids qA fun et ew al=>?_
 obtain⟨oq,j6,a4,mI,_⟩:=(di.frame al.le al.same).app (by_:=1) (x:=et) (xs:=r7 o.br.l) al.contents (by simp[ci]) (by omega) (by omega) (by rw[aA]; simp only[asa,asp,asU]; omega);have cW:ew[l.length]? = some (.cells 11 (a1 o)) :=by rw[al.same _ qD]; exact s8
 have G3:j6[l.length]? = some (.cells 11 (a1 o)) :=by rw[mI.same _ aM]; exact eB
 have adG:l.length<j6.length:=by have:=mI.le; omega
 have wJ:=cW;have AU:=G3;simp[a1] at wJ AU;simp[wJ,a4];refine dt.cy ?_;simp[AU];refine xj _ fun rh Bi aU=>?_
 obtain⟨arT,Ua,Yi,zP,_⟩:=(mI.frame aU.le aU.same).app (by_:=1) (x:=rh) (xs:=eR o.cl.toNat) aU.contents (by simp[ci]) (by omega) (by omega) (by rw[aA]; simp only[asa,asp,asU]; omega);have ad8:Ua[l.length]? = some (.cells 11 (a1 o)) :=by rw[zP.same _ aM]; exact eB
 have S9:=ad8;simp[a1] at S9;obtain⟨EQ,Ub,Yj,ug⟩:=cj.push zP o.act.kind (by simp only[asa,asp,asU]; omega);have ad9:Ub[l.length]? = some (.cells 11 (a1 o)) :=by rw[ug.same _ aM]; exact eB
 have aoc:l.length<Ub.length:=by have:=ug.le; omega
 have LJ:=ad9;simp[a1] at LJ;simp[Yi];refine dt.cy ?_;simp[S9,Yj];refine dt.cy ?_;obtain⟨M,nW⟩:∃ M,M=[111#8]++eR o.hq.toNat++r7 o.br.l++eR o.cl.toNat++[o.act.kind] :=⟨_,rfl⟩
 have ab0:M.length<=40000:=by rw[nW]; simp only[asa,asp,asU]; omega
 rw[<-nW] at ug;have cM:ln o=M++(if o.act.kind=1#8 then [] else jL (fA o.act.key))++(if o.act.kind=4#8 then jM o.act.val else []) :=by rw[nW]; rfl
 have lf:=BN (fA o.act.key);rw[ra] at lf;have AL:=aq.key;have kS:=EN o.act.val;have aeJ:=aq.val.2.2;have ah:x1 (.str o.act.key)=some (.cq 1 ((fA o.act.key).map ci)) :=by
  show some (ad.cq 1 (o.act.key.map fun b=>[jS b]))=_;rw[IG]
 by_cases cm:o.act.kind=1#8
 ·have aR:(u o.act.kind:Int)=1:=(iY o.act.kind).2 cm;have ki:¬ o.act.kind=4#8:=by rw[cm]; decide
  rw[if_pos cm,if_neg ki,asD,asD] at cM;simp[LJ,aR];exact bl _ _ (by rw[cM]; exact ug.base (by simp) fun b ag=>arZ ag)
 ·have aR:¬ (u o.act.kind:Int)=1:=fun h=>cm ((iY o.act.kind).1 h)
  rw[if_neg cm] at cM;simp[LJ,aR,ah];refine VK (some (fA o.act.key)) (by simpa [ra] using AL) (by simp[dA]) (by simp) (fun l' _ _=>by simp[dA]) fun IV mx eQ=>?_
  obtain⟨akJ,MH,a9,vH,_⟩:=(ug.frame eQ.le eQ.same).app (by_:=1) (x:=IV) (xs:=jL (fA o.act.key)) eQ.contents (by simp[ci]) (by omega) (by omega) (by rw[aA]; omega);have LK:MH[l.length]? = some (.cells 11 (a1 o)) :=by rw[vH.same _ aM]; exact eB
  have yP:=LK;simp[a1] at yP;simp[a9];refine dt.cy ?_;simp only[asN] at vH;by_cases ki:o.act.kind=4#8
  ·have jr:(u o.act.kind:Int)=4:=(xx o.act.kind).2 ki;rw[if_pos ki] at cM;simp[yP,jr];refine ahZ o.act.val aq.val fun OM afN mQ=>?_
   obtain⟨akI,afO,Ji,Jq,_⟩:=(vH.frame mQ.le mQ.same).app (by_:=1) (x:=OM) (xs:=jM o.act.val) mQ.contents (by simp[ci]) (by omega) (by omega) (by rw[aA]; simp only[asa]; omega);simp[Ji];refine dt.cy ?_;simp;exact bl _ _ (by rw[cM]; exact Jq.base (by simp) fun b ag=>arZ ag)
  ·have jr:¬ (u o.act.kind:Int)=4:=fun h=>ki ((xx o.act.kind).1 h)
   rw[if_neg ki,asD] at cM;simp[yP,jr];exact bl _ _ (by rw[cM]; exact vH.base (by simp) fun b ag=>arZ ag)
def ii (o:bq) :List B:=ln o++eR o.e.toNat++eR o.s.toNat
theorem UM (o:bq) (aq:jO o) (qA:o.br.l.length<=1000) :(ln o).length<=100000:=by
 have h1:=iF o.hq.toNat
 have ae:=iF o.cl.toNat
 have al:=DU aq.ids;have aE:=BN (fA o.act.key);rw[ra] at aE;have aU:=aq.key;have bz:=EN o.act.val;have dy:=aq.val.2.2;have aL:(if o.act.kind=1#8 then [] else jL (fA o.act.key)).length<=10009:=by split<;>(try simp) ; omega
 have aT:(if o.act.kind=4#8 then jM o.act.val else []).length<=10020:=by split<;>(try simp) ; omega
 unfold ln opHead;simp only[asa,asp,asU];omega
theorem ahy (o:bq) (aq:jO o) (qA:o.br.l.length<=1000) {l:ap} {K:ad->ap->Prop} (bl:∀ w l',cj 1 ci l l' w (ii o) false->K w l') :
  dr Tryz.prog GS 78 [.aI (a1 o)] l (c:=⟨K⟩) :=by
 apply bm Tryz.func78 [[[0],[2],[3],[4],[5],[8],[9],[10],[11],[1,11,10,5,4],[6,11,10],[7,11,10]]];have aA:cK=140737488355328:=rfl;have bU:=iF o.e.toNat
 have s7:=iF o.s.toNat
 have lf:=UM o aq qA;have ia:(BitVec.setWidth 64 o.e).toNat=o.e.toNat:=by rw[asj]; exact asg (by have:=o.e.isLt; omega)
 have oO:(BitVec.setWidth 64 o.s).toNat=o.s.toNat:=by rw[asj]; exact asg (by have:=o.s.isLt; omega)
 have aM:l.length<(l++[aY.cells 11 (a1 o)]).length:=by simp
 have eB:(l++[aY.cells 11 (a1 o)])[l.length]? = some (.cells 11 (a1 o)) :=by simp
 simp[a1];refine VJ o aq qA fun bX l1 h1=>?_
 have qJ:l1[l.length]? = some (.cells 11 (a1 o)) :=by rw[h1.same _ aM]; exact eB
 have qC:l.length<l1.length:=by have:=h1.le; simp at this; omega
 have yN:=qJ;simp[a1] at yN;simp[yN];refine xj _ fun w2 bQ ae=>?_
 rw[ia] at ae;obtain⟨et,ew,a3,gA,_⟩:=(h1.frame ae.le ae.same).app (by_:=1) (x:=w2) (xs:=eR o.e.toNat) ae.contents (by simp[ci]) (by omega) (by omega) (by rw[aA]; omega);have s8:bQ[l.length]? = some (.cells 11 (a1 o)) :=by rw[ae.same _ qC]; exact qJ
 have cW:ew[l.length]? = some (.cells 11 (a1 o)) :=by rw[gA.same _ aM]; exact eB
 have rW:=s8;have wJ:=cW;simp[a1] at rW wJ;simp[rW,a3];refine dt.cy ?_;simp[wJ];refine xj _ fun oq j6 aE=>?_
 rw[oO] at aE;obtain⟨rh,Bi,a5,p6,_⟩:=(gA.frame aE.le aE.same).app (by_:=1) (x:=oq) (xs:=eR o.s.toNat) aE.contents (by simp[ci]) (by omega) (by omega) (by rw[aA]; simp only[asa]; omega);simp[a5];refine dt.cy ?_;simp;exact bl _ _ (p6.base (by simp) fun b ag=>arZ ag)
theorem Nw (o:bq) (aq:jO o) (qA:o.br.l.length<=1000) :bx Tryz.prog GS 33 [.aI (a1 o)] (fD (iH (ii o))) :=by
 refine bH Tryz.checked.mixed bD ?_;apply bm Tryz.func33 [];have bU:=iF o.e.toNat
 have s7:=iF o.s.toNat
 have lf:=UM o aq qA;have db:(iH (ii o)).length=32:=vj _;simp[a1];refine ahy o aq qA fun bX l1 h1=>?_
 have eB:l1[1]? = some (.cells 32 (rep 32 (.int .u8 0))) :=by rw[h1.same 1 (by simp)]; rfl
 simp;refine iW (VU (some (ii o)) (by simp[ii]; omega)) (.cons (h1.tH (fun _=>rfl) (some (ii o)) rfl rfl) .nil) (by simp[ad.flat,mL,fD,Ah bA (fun _=>rfl)]) ?_;have uQ:bt (rep 32 (.int .u8 0)) 0 ((iH (ii o)).map bA)=(iH (ii o)).map bA:=ek (by rw[asi,db]; rfl);have kR:(l1.set 1 (aY.cells 32 ((iH (ii o)).map bA)))[1]? = some (.cells 32 ((iH (ii o)).map bA)) :=ar9 (e7 eB);simp[eB,fD,db,uQ,kR,arX];exact aK rfl (by simp[ad.closed,lD bA (fun _=>rfl)])
theorem Cd:∀ a b:List B,a.length=b.length->fk (a.map bA) (b.map bA)=decide (a=b)
 | [],[],_=>rfl
 | [],_::_,h=>by simp at h
 | _::_,[],h=>by simp at h
 | x::a,y::b,h=>by
  have aO:=Cd a b (by simpa using h);simp only[ast,fk,aO,ad.beq,decide_true,asM];by_cases h1:x=y
  ·by_cases ae:a=b<;>simp[h1,ae]
  ·have:¬ u x=u y:=fun h=>h1 ((sn x y).1 h)
   simp[h1]
theorem ze:∀ a:List B,ih (List.replicate a.length (.i .u8)) (a.map bA)=true
 | []=>rfl
 | x::a=>by
  rw[asp,atd,ast];simp only[ih,ze a,EF,decide_true,atK]
theorem T8:r4 Tryz.prog 20 48=some (List.replicate 32 (.i .u8)) :=by kernel_rfl
theorem Hq {a b:List B} (az:a.length=32) (ag:b.length=32) :gq Tryz.prog .eql 48 (.aI (aQ a)) (.aI (aQ b))=some (.bool (decide (a=b))) :=by
 unfold aQ;rw[Fc T8 (by kernel_rfl) (by kernel_rfl) (by have:=ze a; rwa [az] at this) (by have:=ze b; rwa [ag] at this),Cd a b (by omega)]
theorem Hr {a b:List B} (az:a.length=32) (ag:b.length=32) :gq Tryz.prog .neq 48 (.aI (aQ a)) (.aI (aQ b))=some (.bool (!decide (a=b))) :=by
 unfold aQ;rw[Fe T8 (by kernel_rfl) (by kernel_rfl) (by have:=ze a; rwa [az] at this) (by have:=ze b; rwa [ag] at this),Cd a b (by omega)]
theorem agw (s:dM) :gq Tryz.prog .eql 22 (cL 32 aQ s) .aV=some (.bool s.isNone) :=Fb (e:=48) (by kernel_rfl) 32 aQ s
theorem agL (l:ap) :cj 32 aQ l (l++[.cells 0 []]) (.au 32 l.length 0 0 0 0) ([] :List (List B)) false:=
 ⟨l.length,.au l.length 0 0 0 [] [] (by simp) rfl rfl (by simp) (ar0 _) (by omega) rfl,by simp,fun b ag=>arZ ag,.inr (ar0 _),rfl⟩
theorem TJ (s:dM) (aq:fo s) (ak:s.l.length<=1000000) {l:ap} {K:ad->ap->Prop} (bl:∀ v l',cj 32 aQ l l' v s.l s.isNone->K v l') :
  dr Tryz.prog GS 165 [aN s] l (c:=⟨K⟩) :=by
 apply bm Tryz.func165 [];have aA:cK=140737488355328:=rfl;cases s with
 | none=>
  simp[aN];exact bl _ _ cj.nil
 | some a=>
  simp at ak;obtain⟨a8,l',aX,bg,_⟩:=(agL l).app (by_:=32) (x:=cL 32 aQ (some a)) (xs:=a) (ul _ 32 aQ (some a)) (fun y ay=>cA (aq y ay)) (by omega) (by omega) (by rw[aA]; simp; omega);simp[aN,agw,aX];refine dt.cy ?_;simp;exact bl _ _ (by simpa using bg)
def qd (l:List (List B)) (m:Nat) :List (List B) :=(List.range m).flatMap fun k=>if k=0\/b2 l k≠b2 l (k - 1) then [b2 l k] else []
def sN (l:List (List B)) :List (List B) :=qd l l.length
theorem Cz (l:List (List B)) (m:Nat) :qd l (m+1)=qd l m++(if m=0\/b2 l m≠b2 l (m - 1) then [b2 l m] else []) :=by
 unfold qd; rw[atA,atS]; simp
theorem Qf (l:List (List B)) :∀ m,(qd l m).length<=m
 | 0=>by simp[qd]
 | m+1=>by
  have:=Qf l m;rw[Cz,asa];split<;>simp<;>omega
theorem Cy {l:List (List B)}:∀ {m},m<=l.length->(∀ k,1<=k->k<m->b2 l k≠b2 l (k - 1))->qd l m=l.take m
 | 0,_,_=>by simp[qd]
 | m+1,hm,h=>by
  rw[Cz,Cy (by omega) (fun k h1 ae=>h k h1 (by omega)),ash,if_pos (by
   by_cases aB:m=0
   ·exact .inl aB
   ·exact .inr (h m (by omega) (by omega)))]
  congr 1;unfold b2;rw[asq,ar1 (by omega)];rfl
theorem Qg {l:List (List B)} {k:Nat} (h1:1<=k) (ao:b2 l k=b2 l (k - 1)) :∀ {m},k<m->(qd l m).length<m
 | 0,h=>by omega
 | m+1,h=>by
  rw[Cz,asa];by_cases hk:k=m
  ·subst hk;have:=Qf l k;rw[if_neg (fun h=>h.elim (fun aB=>by omega) (fun ae=>ae ao))];simp; omega
  ·have:=Qg h1 ao (m:=m) (by omega);split<;>simp<;>omega
theorem ZY {l:List (List B)} (ak:zt l=true) :((sN l).length=l.length)<->ea l=true:=by
 unfold zt at ak;rw[decide_eq_true_eq] at ak;unfold ea sN;rw[decide_eq_true_eq];constructor
 ·intro h k hk h1;have ae:=ak k hk h1;have al:b2 l k≠b2 l (k - 1) :=fun ao=>by
   have:=Qg h1 ao hk;omega
  have aE:=qb (b2 l k) (b2 l (k - 1));have aU:cu (b2 l (k - 1)) (b2 l k)≠0:=fun aB=>al (rs aB).symm
  omega
 ·intro h;rw[Cy (ar0 _) (fun k h1 ae ao=>by
   have:=h k ae h1;rw[<-ao,pf] at this;omega),asx]
theorem Hs {a:List (List B)} {k:Nat} (h:k<a.length) :(a.map aQ)[k]? = some (aQ (b2 a k)) :=by
 rw[ar5];unfold b2;rw[asq,ar1 h];rfl
theorem Hp {a:List (List B)} {k:Nat} (h:k<a.length) :b2 a k∈a:=by
 unfold b2;rw[asq,ar1 h];exact auI h
structure XK (l:ap) (v:ad) (xs:List (List B)) (k:Nat) (af:bi) (l1:ap) :Prop where
 cg:af 0=v
 a7:af 3=.int .i64 ((k+1:Nat) :Int)
 am:l1=l
 ak:∀ j,1<=j->j<k+1->b2 xs j≠b2 xs (j - 1)
structure XJ (l:ap) (v dz:ad) (j:Nat) (xs:List (List B)) (m i:Nat) (af:bi) (bQ:ap) :Prop where
 cg:af 0=v
 bp:af 4=dz
 bf:af 5=.int .i64 ((i+1:Nat) :Int)
 ex:∃ (k:Nat) (bh:List (List B)),af 3=.int .i64 (k:Int)/\bB 32 bQ v j (bh.map aQ)/\bh.length=xs.length/\(∀ y∈bh,y.length=32)/\bh.take k=qd xs (m+i+1)/\k<=m+i/\(∀ t,m+i<=t->b2 bh t=b2 xs t)/\bQ.length=l.length/\∀ b,b≠j->bQ[b]? = l[b]?
theorem ZW {l:ap} {v:ad} {j k:Nat} {bh:List (List B)} (h:bB 32 l v j (bh.map aQ)) (hk:k<bh.length) :
  ∃ v3 ew r,gS (.au 32) v (some (.int .i64 (k:Int))) none none=some v3/\uj (rep 32 (.int .u8 0)) l v3=some ew/\gS (.au 32) v none (some (.int .i64 (k:Int))) none=some r ∧
   bB 32 ew r j ((bh.take k).map aQ)/\cx r=false/\ew.length=l.length/\∀ b,b≠j->ew[b]? = l[b]?:=by
 generalize ao:bh.map aQ=es at h;cases h with
 | nil j=>rw[ate] at ao; subst ao; simp at hk
 | au j n cap sz cs es ag am aF av ah c9 cb=>
  subst ao;have s6:bh.length=n:=by simpa using aF
  have g3:kh (.int .i64 (k:Int)) n=some k:=by
   show (if 0<=(k:Int)/\(k:Int)<=(n:Int) then some (k:Int).toNat else none)=some k;rw[if_pos ⟨by omega,by omega⟩]; simp
  have fm:kh (.int .i64 (k:Int)) cap=some k:=by
   show (if 0<=(k:Int)/\(k:Int)<=(cap:Int) then some (k:Int).toNat else none)=some k;rw[if_pos ⟨by omega,by omega⟩]; simp
  have dx:g1 n cap (some (.int .i64 (k:Int))) none none=some (k,n,cap) :=by
   show (match kh (.int .i64 (k:Int)) n with | none=>none | some l=>some (l,n,cap))=_;rw[g3]
  have di:g1 n cap none (some (.int .i64 (k:Int))) none=some (0,k,cap) :=by
   show (match kh (.int .i64 (k:Int)) cap with | none=>none | some h=>some (0,h,cap))=_;rw[fm]
  have cO:¬ cap=k:=by omega
  have Az:¬ cap=0:=by omega
  have e3:j<l.length:=e7 ag;have gw:k*32<=n*32:=ar2 _ (by omega);have i6:n*32<=cap*32:=ar2 _ ah;have mn:(dZ (rep 32 (.int .u8 0)) (n - k)).length=(n - k)*32:=by rw[BA]; rfl
  have adH:k*32+(n - k)*32=n*32:=by rw[<-asA]; congr 1; omega
  refine⟨.au 32 j (k*32) (n - k) (cap - k) sz,l.set j (.cells sz (bt cs (k*32) (dZ (rep 32 (.int .u8 0)) (n - k)))),.au 32 j 0 k cap sz,?_,?_,?_,?_,rfl,by simp,fun b gK=>by rw[ar7 (fun h=>gK h.symm)]⟩
  ·rw[zp,dx]; simp[cO]
  ·unfold uj;simp only;rw[if_neg (by omega)];simp[ag]
  ·rw[zp,di]; simp[Az]
  ·refine .au j k cap sz _ _ (ar9 e3) (by rw[sm (by omega),mn]; omega) (by simp; omega) (fun e ao=>?_) (by omega) c9 ?_
   ·obtain⟨y,ay,rfl⟩:=asr.1 ao;exact av _ (atG (asz ay))
   ·unfold bt;rw[ass,asm (by rw[asc]; omega),aty,Nat.min_self];have aR:cs.take (k*32)=(cs.take (n*32)).take (k*32) :=by rw[aty,asR gw]
    have bE:bh.map aQ=(bh.take k).map aQ++(bh.drop k).map aQ:=by rw[<-asv,asK]
    have c4:((bh.take k).map aQ).flatten.length=k*32:=by
     rw[mM (z:=32) (fun e ao=>by obtain⟨y,ay,rfl⟩:=asr.1 ao; exact av _ (atG (asz ay)))];simp; omega
    rw[aR,cb,bE,asX,asm (by omega),arX (by omega)]
theorem U5 {bh:List (List B)} (av:∀ y∈bh,y.length=32) (k:Nat) (hk:k<=bh.length) {n:Nat} (aF:bh.length=n) {cs:List ad} (cb:cs.take (n*32)=(bh.map aQ).flatten) (am:n*32<=cs.length) :
  cs.take (k*32)=((bh.take k).map aQ).flatten/\(cs.drop (k*32)).take (n*32 - k*32)=((bh.drop k).map aQ).flatten:=by
 have gw:k*32<=n*32:=ar2 _ (by omega);have bE:bh.map aQ=(bh.take k).map aQ++(bh.drop k).map aQ:=by rw[<-asv,asK]
 have c4:((bh.take k).map aQ).flatten.length=k*32:=by
  rw[mM (z:=32) (fun e ao=>by obtain⟨y,ay,rfl⟩:=asr.1 ao; exact cA (av _ (asz ay)))];simp; omega
 have aR:cs.take (k*32)=(cs.take (n*32)).take (k*32) :=by rw[aty,asR gw]
 constructor
 ·rw[aR,cb,bE,asX,asm (by omega),arX (by omega)]
 ·rw[<-auh,cb,bE,asX,asL (by omega),asW (by omega),asO]
theorem aiX {l:ap} {v:ad} {j k:Nat} {bh:List (List B)} {x:List B} (h:bB 32 l v j (bh.map aQ)) (av:∀ y∈bh,y.length=32) (hk:k<bh.length) (ai:x.length=32) :
  ∃ p l',cd (.au 32) v (.int .i64 (k:Int))=some p/\kw 32 l p (.aI (aQ x))=some l'/\bB 32 l' v j ((bh.set k x).map aQ)/\l'.length=l.length/\∀ b,b≠j->l'[b]? = l[b]?:=by
 generalize ao:bh.map aQ=es at h;cases h with
 | nil j=>rw[ate] at ao; subst ao; simp at hk
 | au j n cap sz cs es ag am aF jA ah c9 cb=>
  subst ao;have s6:bh.length=n:=by simpa using aF
  have e3:j<l.length:=e7 ag;have a2:=cA ai;have gw:(k+1)*32<=n*32:=ar2 _ (by omega);have i6:n*32<=cap*32:=ar2 _ ah;have ak:(k+1)*32=k*32+32:=by rw[asB]
  obtain⟨f1,_⟩:=U5 av k (by omega) s6 cb (by omega);obtain⟨_,f2⟩:=U5 av (k+1) (by omega) s6 cb (by omega);refine⟨.ptr j (k*32) sz,l.set j (.cells sz (bt cs (k*32) (aQ x))),?_,?_,?_,by simp,fun b gK=>by rw[ar7 (fun h=>gK h.symm)]⟩
  ·simp[cd]; omega
  ·unfold kw;simp[ag,ad.cells,a2];omega
  ·refine .au j n cap sz _ _ (ar9 e3) (by rw[sm (by omega),a2]; omega) (by simp; omega) (fun e ao=>?_) ah c9 ?_
   ·obtain⟨y,ay,rfl⟩:=asr.1 ao;rcases atf ay with h | h
    ·exact cA (av _ h)
    ·rw[h]; exact a2
   ·have kR:bh.set k x=bh.take k++(x::bh.drop (k+1)) :=by rw[atw,if_pos hk]
    rw[kR,asv,ast,asX,as4,<-f1,<-f2];unfold bt;have t1:(cs.take (k*32)).length=k*32:=by rw[asc]; omega
    have jf:(cs.take (k*32)).take (n*32)=cs.take (k*32) :=arX (by rw[t1]; omega);have kx:(aQ x).take (n*32 - k*32)=aQ x:=arX (by rw[a2]; omega);rw[ass,a2,<-ak,at4,t1,jf,at4,kx,a2,show n*32 - k*32 - 32=n*32 - (k+1)*32 by omega]
theorem ZL {eL l:ap} {v:ad} {xs:List (List B)} {fx:Bool} (h:cj 32 aQ eL l v xs fx) (ai:∀ x∈xs,x.length=32) (aF:xs.length<=1000000) {K:ad->ap->Prop} (bl:∀ r l',cj 32 aQ eL l' r (sN xs) fx->K r l') :
  dr Tryz.prog GS 198 [v] l (c:=⟨K⟩) :=by
 apply bm Tryz.func198 [];have bn:=h.len;by_cases ae:xs.length<2
 ·have gh:(xs.length:Int)<2:=by omega
  have AC:sN xs=xs:=by
   unfold sN;rw[Cy (ar0 _) (fun k h1 al=>by omega),asx]
  simp[bn,gh];exact bl _ _ (by rw[AC]; exact h)
 ·have gh:¬ (xs.length:Int)<2:=by omega
  simp[bn,gh];refine cw (xs.length - 1) (XK l v xs) ?_ ⟨by simp,by simp,rfl,fun j h1 al=>by omega⟩;rintro k af l1 hk ⟨cg,a7,rfl,ak⟩;obtain⟨af,rfl⟩:=nE cg a7;clear cg a7;obtain⟨m,hm⟩:∃ m,m=k+1:=⟨_,rfl⟩
  rw[<-hm] at ak ⊢;by_cases aM:m<xs.length
  ·have aR:IntKind.i64.wrap ((m:Int) - 1)=(k:Int) :=by rw[IntKind.wrap_i64]; omega
   have bE:IntKind.i64.wrap ((m:Int)+1)=((m+1:Nat) :Int) :=by rw[IntKind.wrap_i64]; omega
   have jz:(m:Int)<(xs.length:Int) :=by omega
   obtain⟨j,aq,kQ⟩:=h;obtain⟨lV,cm,tw,aX,bg,a3,a4⟩:=aq.q.get (k:=.i64) (Hs aM);obtain⟨sj,dk,gP,dx,di,gA,mI⟩:=aq.q.get (k:=.i64) (Hs (a:=xs) (k:=k) (by omega));have fv:=Hq (ai _ (Hp aM)) (ai _ (Hp (a:=xs) (k:=k) (by omega)));obtain⟨X,b3⟩:∃ X,X=b2 xs m:=⟨_,rfl⟩
   obtain⟨Y,dC⟩:∃ Y,Y=b2 xs k:=⟨_,rfl⟩
   rw[<-b3] at a4 fv;rw[<-dC] at mI fv;by_cases ao:X=Y
   ·have uI:gq Tryz.prog .eql 48 (.aI (aQ X)) (.aI (aQ Y))=some (.bool true) :=by rw[fv,decide_eq_true ao]
    have aw:cx v=false:=by
     cases wH:cx v with
     | false=>rfl
     | true=>
      have:=jC.1 wH;subst this;have:=aq.q.qX;rw[ate] at this;rw[this] at aM; simp at aM
    obtain⟨dz,fZ,ho,_⟩:=aq.q.from aw (k:=.i64) (i:=m) (by simp; omega);have aB:qd xs m=xs.take m:=Cy (by omega) ak;have h1:qd xs (m+1)=xs.take m:=by rw[Cz,if_neg (fun h=>h.elim (fun aB=>by omega) (fun ae=>ae (by rw[<-b3,show m - 1=k by omega,<-dC]; exact ao))),aB,asD]
    simp[bn,jz,aR,aX,bg,a3,a4,dx,di,gA,mI,uI,fZ];refine cw (xs.length - m - 1) (XJ l1 v dz j xs m) ?_ ⟨by simp,by simp,by simp,m,xs,by simp,aq,rfl,ai,h1.symm,by omega,fun t _=>rfl,rfl,fun b _=>rfl⟩;rintro i af bQ ax ⟨cg,bp,bf,q,bh,a7,bd,b4,uV,i9,uM,pB,Dj,k8⟩;obtain⟨af,rfl⟩:=jh cg a7 bp bf;clear cg a7 bp bf;obtain⟨eg,adf⟩:∃ eg,eg=i+1:=⟨_,rfl⟩
    rw[<-adf];obtain⟨arQ,Wl,N0,_⟩:=bd.q.from aw (k:=.i64) (i:=m) (by simp; omega);rw[fZ] at Wl;obtain rfl:=Option.some.inj Wl;have gk:=N0.len;rw[atg,asi,b4] at gk;by_cases qD:eg<xs.length - m
    ·have GX:(eg:Int)<((xs.length - m:Nat) :Int) :=by omega
     have bX:IntKind.i64.wrap ((eg:Int) - 1)=(i:Int) :=by rw[IntKind.wrap_i64]; omega
     have w2:IntKind.i64.wrap ((eg:Int)+1)=((eg+1:Nat) :Int) :=by rw[IntKind.wrap_i64]; omega
     have et:IntKind.i64.wrap ((q:Int)+1)=((q+1:Nat) :Int) :=by rw[IntKind.wrap_i64]; omega
     obtain⟨Ed,kH,sh,gg,gI,pZ,kg⟩:=N0.get (k:=.i64) (i:=eg) (e:=aQ (b2 bh (m+eg))) (by rw[asE]; exact Hs (by omega));obtain⟨Nc,ki,si,hp,ji,o1,o2⟩:=N0.get (k:=.i64) (i:=i) (e:=aQ (b2 bh (m+i))) (by rw[asE]; exact Hs (by omega));have uW:=uV _ (Hp (a:=bh) (k:=m+eg) (by omega));have jA:=uV _ (Hp (a:=bh) (k:=m+i) (by omega));have bU:=Hr uW jA;have rY:=pB (m+eg) (by omega);have qM:=pB (m+i) (by omega);have bN:=Cz xs (m+eg);rw[show m+eg - 1=m+i by omega] at bN;obtain⟨xQ,aca⟩:∃ X,X=b2 bh (m+eg) :=⟨_,rfl⟩
     obtain⟨Jh,KQ⟩:∃ Y,Y=b2 bh (m+i) :=⟨_,rfl⟩
     rw[<-aca] at kg bU uW rY;rw[<-KQ] at o2 bU qM;rw[<-rY,<-qM] at bN;rw[show m+i+1=m+eg by omega] at i9;by_cases nq:xQ=Jh
     ·have yJ:gq Tryz.prog .neq 48 (.aI (aQ xQ)) (.aI (aQ Jh))=some (.bool false) :=by rw[bU]; simp[nq]
      rw[if_neg (fun h=>h.elim (fun aB=>by omega) (fun ae=>ae nq)),asD] at bN;simp[gk,GX,bX,gg,gI,pZ,kg,hp,ji,o1,o2,yJ,w2];exact⟨by omega,by simp,by simp,by simp,q,bh,by simp,bd,b4,uV,by rw[bN]; exact i9,by omega,fun t aJ=>pB t (by omega),Dj,k8⟩
     ·have yJ:gq Tryz.prog .neq 48 (.aI (aQ xQ)) (.aI (aQ Jh))=some (.bool true) :=by rw[bU]; simp[nq]
      rw[if_pos (.inr nq)] at bN;obtain⟨Nd,ew,k0,h4,z3,z4,z5⟩:=aiX bd uV (k:=q) (x:=xQ) (by omega) uW;simp[gk,GX,bX,gg,gI,pZ,kg,hp,ji,o1,o2,yJ,w2,et,k0,h4];have Oy:(bh.take q).length=q:=by rw[asc]; omega
      have r0:(bh.set q xQ).take (q+1)=bh.take q++[xQ] :=by
       rw[atw,if_pos (by omega),at4,Oy,arX (by omega),show q+1 - q=1 by omega]; simp
      refine⟨by omega,by simp,by simp,by simp,q+1,bh.set q xQ,by simp,z3,by simp[b4],fun y ay=>?_,by rw[r0,bN,i9],by omega,fun t aJ=>?_,by omega,fun b ag=>(z5 b ag).trans (k8 b ag)⟩
      ·rcases atf ay with h | h
       ·exact uV _ h
       ·rw[h]; exact uW
      ·have:=pB t (by omega);unfold b2 at this ⊢;rw[asq,ar7 (by omega),<-asq];exact this
    ·have GX:¬ (eg:Int)<((xs.length - m:Nat) :Int) :=by omega
     obtain⟨v3,ew,r,k0,h4,z3,z4,z5,alt,OW⟩:=ZW bd (k:=q) (by omega);simp[gk,GX,k0,h4,z3];obtain⟨aL,aT,a7,bp⟩:=kQ;have Lh:eL.length<=j:=a7.resolve_left (fun h=>by rw[h] at aw; cases aw);have C7:m+i+1=xs.length:=by omega
     rw[C7] at i9;refine bl _ _ ⟨j,by unfold sN; rw[<-i9]; exact z4,by omega,fun b ag=>?_,.inr Lh,by rw[z5,<-bp,aw]⟩;rw[OW b (by omega),k8 b (by omega)];exact aT b ag
   ·have uI:gq Tryz.prog .eql 48 (.aI (aQ X)) (.aI (aQ Y))=some (.bool false) :=by rw[fv,decide_eq_false ao]
    simp[bn,jz,aR,aX,bg,a3,a4,dx,di,gA,mI,uI,bE];refine⟨by omega,by simp,by simp[hm],rfl,fun t h1 ae=>?_⟩;by_cases aJ:t=m
    ·rw[aJ,<-b3,show m - 1=k by omega,<-dC]; exact ao
    ·exact ak t h1 (by omega)
  ·have jz:¬ (m:Int)<(xs.length:Int) :=by omega
   have AC:sN xs=xs:=by
    unfold sN;rw[Cy (ar0 _) (fun k h1 al=>ak k h1 (by omega)),asx]
   simp[bn,jz];exact bl _ _ (by rw[AC]; exact h)
theorem aiv {l:List (List B)} (h:ea l=true) :zt l=true:=by
 unfold ea at h;rw[decide_eq_true_eq] at h;exact WB fun k hk h1=>by
  have:=h k hk h1;have aE:=qb (b2 l k) (b2 l (k - 1));omega
theorem IW (o:bq) (aq:jO o) :bx Tryz.prog GS 146 [.aI (a1 o)] (.int .i64 (fy o)) :=by
 refine bH Tryz.checked.mixed bD ?_;apply bm Tryz.func146 [[[0],[1],[2],[3],[4],[5],[6],[10],[11],[12],[7,11],[8,11],[9]]];unfold fy;have eE:=eb o.br;have bn:cz (.au 32) (aN o.br)=some (.int .i64 o.br.l.length) :=by simp[aN]
 have jX:(aN o.br).cells=some [aN o.br] :=by cases o.br<;>rfl
 by_cases h1:4<o.br.l.length
 ·have c3:(4:Int)<(o.br.l.length:Int) :=by omega
  rw[if_pos h1];simp[a1,bn,c3];exact aK rfl rfl
 ·have c3:¬ (4:Int)<(o.br.l.length:Int) :=by omega
  rw[if_neg h1];simp[a1,bn,c3];refine aW (afv o.br aq.ids aq.len) (by simp[aZ,eE,ad.closed]) ?_;cases ae:zt o.br.l with
  | false=>
   have al:ea o.br.l=false:=by
    cases al:ea o.br.l with
    | false=>rfl
    | true=>rw[aiv al] at ae; cases ae
   simp[al,bn];exact aK rfl rfl
  | true=>
   simp[bn];refine TJ o.br aq.ids aq.len fun eh l1 aL=>?_
   have ack:l1[0]? = some (.cells 11 (a1 o)) :=by rw[aL.same 0 (by simp)]; rfl
   have RV:=ack;simp[a1] at RV;simp[RV];refine ZL aL aq.ids aq.len fun dz bQ aT=>?_
   have eB:bQ[0]? = some (.cells 11 (a1 o)) :=by rw[aT.same 0 (by simp)]; rfl
   have Ax:=eB;simp[a1] at Ax;have gk:=aT.len;have AC:=ZY ae;cases al:ea o.br.l with
   | false=>
    have bU:¬ ((sN o.br.l).length:Int)=(o.br.l.length:Int) :=fun h=>by
     have:=AC.1 (by omega);rw[al] at this; cases this
    simp[gk,Ax,bn,bU];exact aK rfl rfl
   | true=>
    have heq:((sN o.br.l).length:Int)=(o.br.l.length:Int) :=by have:=AC.2 al; omega
    simp[gk,Ax,bn,heq];refine aW (Mv o.hq) rfl ?_;unfold sV;cases aU:gE o.hq with
    | false=>
     simp;exact aK rfl rfl
    | true=>
     have b1:((1000000000000:Int)<u o.cl)<->¬ o.cl.toNat<=1000000000000:=by unfold u; omega
     by_cases bz:o.cl.toNat<=1000000000000
     ·have sX:¬ ((1000000000000:Int)<u o.cl) :=fun h=>b1.1 h bz
      have yG:((500000003:Int)<=max (u o.e:Int) (u o.s))<->¬ (jU o.e&&jU o.s)=true:=by
       unfold jU u;simp only[ar3,decide_eq_true_eq];omega
      have SS:w5 (bC o.e) (bC o.s)=some (.int .u32 (max (u o.e:Int) (u o.s))) :=by
       show (if IntKind.u32=IntKind.u32 then some (ad.int .u32 (if (u o.e:Int)<u o.s then u o.s else u o.e)) else none)=_;rw[if_pos rfl];congr 2;split<;>omega
      cases dy:(jU o.e&&jU o.s) with
      | false=>
       have nV:(500000003:Int)<=max (u o.e:Int) (u o.s) :=yG.2 (by rw[dy]; simp);simp[Ax,bz,sX,SS,nV];exact aK rfl rfl
      | true=>
       have nV:¬ (500000003:Int)<=max (u o.e:Int) (u o.s) :=fun h=>(yG.1 h) dy
       simp[Ax,bz,sX,SS,nV];refine aW (JI o.act) rfl ?_;cases eQ:kE o.act with
       | false=>
        simp[hI];exact aK rfl rfl
       | true=>
        simp[hI];exact aK (by rw[if_pos bz]) rfl
     ·have sX:(1000000000000:Int)<u o.cl:=b1.2 bz;simp[Ax,bz,sX];exact aK rfl rfl
theorem aiN (a b:dM) (az:fo a) (ag:fo b) (am:a.l.length<=1000000) :bx Tryz.prog GS 37 [aN a,aN b] (.bool (decide (a.l=b.l))) :=by
 refine bH Tryz.checked.mixed bD ?_;apply bm Tryz.func37 [];simp[aN];by_cases h1:a.l.length=b.l.length
 ·have c3:((a.l.length:Int)=b.l.length) :=by omega
  simp[h1];refine cw a.l.length (fun k af l=>af 0=cL 32 aQ a/\af 1=cL 32 aQ b/\af 5=.int .i64 k/\∀ j,j<k->a.l[j]? = b.l[j]?) ?_ (by simp[aN]);rintro k af l hk ⟨cg,aL,bf,ak⟩;obtain⟨s,rfl⟩:=kb cg aL bf;clear cg aL bf;simp;refine g8 (fun h=>?_) (fun h=>?_)
  ·simp only[decide_eq_true_eq] at h;obtain⟨x,ai,cE⟩:=bu h;obtain⟨y,ay,ch⟩:=bu (l:=b.l) (k:=k) (by omega);have aR:IntKind.i64.wrap ((k:Int)+1)=((k+1:Nat) :Int) :=by rw[IntKind.wrap_i64]; omega
   simp[ai,ay,cA (az x cE),cA (ag y ch),arX,Hr (az x cE) (ag y ch)];by_cases ao:x=y
   ·simp[ao,aR];refine⟨by omega,fun j aj=>?_⟩;by_cases fB:j=k
    ·subst fB; rw[ai,ay,ao]
    ·exact ak j (by omega)
   ·simp[ao];refine aK (congrArg ad.bool (decide_eq_false fun fu=>ao ?_).symm) rfl;rw[fu,ay] at ai; exact (Option.some.inj ai).symm
  ·simp[h];have fR:k=a.l.length:=by simp at h; omega
   refine aK (congrArg ad.bool (decide_eq_true ?_).symm) rfl;apply asY;intro j;by_cases aj:j<a.l.length
   ·exact ak j (by omega)
   ·rw[ase (by omega),ase (by omega)]
 ·have c3:¬ ((a.l.length:Int)=b.l.length) :=by omega
  simp[h1,c3];exact aK (by rw[decide_eq_false (fun fu=>h1 (by rw[fu]))]) rfl
def cQ (o:bq) :List B:=if fy o=0 then iH (ii o) else List.replicate 32 0#8
theorem xc {o:bq} (h:fy o=0) :o.br.l.length<=4:=by
 unfold fy at h;split at h
 ·cases h
 ·omega
theorem Et {l:ap} {b n:Nat} {hC:List ad} {k:Nat} {w:ad} {kd:IntKind} (ag:l[b]? = some (.cells n hC)) (aF:hC.length=n) (hk:hC[k]? = some w) :
  ∃ p cs o,cd (.au 1) (.au 1 b 0 n n n) (.int kd (k:Int))=some p/\eZ l p=some (cs,o)/\cs[o]? = some w:=by
 have aM:k<n:=by rw[<-aF]; exact (arY.1 hk).1
 refine⟨.ptr b (0+k*1) n,hC,0+k*1,?_,?_,by simpa using hk⟩
 ·simp only[cd,asC];rw[if_pos ⟨trivial,by omega,by omega⟩]
 ·simp only[eZ,ag,if_true]
theorem abE {n:Nat} (aF:n<=1000000000) {l:ap} {K:ad->ap->Prop} (bl:∀ v l',cj 1 ci l l' v ([] :List B) (decide (n=0))->K v l') :dr Tryz.prog GS 235 [.aV,.int .i64 n] l (c:=⟨K⟩) :=by
 apply bm Tryz.func235 [];have h1:¬((n:Int)<0) :=by omega
 have hw:IntKind.i64.wrap (n:Int)=n:=wrap_i64 (by omega) (by omega);have Ma:IntKind.i64.wrap (0:Int)=0:=rfl;by_cases aB:n=0
 ·subst aB;simp;exact bl _ _ cj.nil
 have ae:(0:Int)<n:=by omega
 have av:sG l 1 1 [.int .u8 0] .aV (.int .i64 n)=some (.au 1 l.length 0 n n (n*1),l++[.cells (n*1) (dZ [.int .u8 0] n)]) :=by
  unfold sG jm;simp only[asC];have aA:cK=140737488355328:=rfl;rw[if_pos ⟨by omega,by omega,by rw[aA]; omega⟩,if_neg aB,if_neg (by omega),if_pos (by rw[aA]; omega)]
 have ak:gS (.au 1) (.au 1 l.length 0 n n (n*1)) none (some (.int .i64 0)) none=some (.au 1 l.length 0 0 n (n*1)) :=by
  rw[zp,Jz,if_pos ⟨by omega,by omega⟩];simp[aB]
 rw[atC] at av ak;have al:0<n:=by omega
 simp[h1,ae,al,hw,av,Ma,ak];refine bl _ (l++[.cells n (dZ [.int .u8 0] n)]) ⟨l.length,.au _ 0 n n (dZ [.int .u8 0] n) [] (by simp) (by rw[BA]; simp) rfl (by simp) (by omega) (by omega) rfl,by simp,fun b ag=>arZ ag,.inr (ar0 _),?_⟩;simp[cx,aB]
def jt (bs:List (List B)) :List B:=bs.flatten
theorem QO {bs:List (List B)} {k:Nat} {s:List B} (h:bs[k]? = some s) :jt (bs.take (k+1))=jt (bs.take k)++s:=by
 unfold jt;rw[ash,h]; simp
theorem QN (bs:List (List B)) (k:Nat) :(jt (bs.take k)).length<=(jt bs).length:=by
 conv=>rhs; rw[<-asK k bs]
 unfold jt;rw[asX,asa];omega
structure nJ (l:ap) (w:ad) (s:List B) :Prop where
 len:cz (.au 1) w=some (.int .i64 s.length)
 Qb:∀ l',l.length<=l'.length->(∀ b,b<l.length->l'[b]? = l[b]?)->dA l' 1 w=some ((s.map ci).flatten,s.length)
theorem Bt {l l1:ap} {w:ad} {s:List B} {fx:Bool} (h:cj 1 ci l l1 w s fx) :nJ l1 w s:=⟨h.len,fun l' h1 ae=>(h.frame h1 ae).contents⟩
theorem nJ.frame {l l1:ap} {w:ad} {s:List B} (h:nJ l w s) (am:l.length<=l1.length) (ak:∀ b,b<l.length->l1[b]? = l[b]?) :nJ l1 w s:=
 ⟨h.len,fun l' h1 ae=>h.Qb l' (by omega) fun b ag=>by rw[ae b (by omega)]; exact ak b ag⟩
theorem U6 {l:ap} {b:Nat} {x:B} (h:l[b]? = some (.cells 1 [bA x])) :nJ l (.au 1 b 0 1 1 1) [x] :=by
 have:=e7 h;exact⟨rfl,fun l' h1 ae=>by have:=ae b this; rw[h] at this; simp[dA,this,ci]⟩
structure XI (l:ap) (X:ad) (bs:List (List B)) (k:Nat) (af:bi) (l1:ap) :Prop where
 k6:af 25=X
 mP:af 26=.int .i64 bs.length
 sU:af 27=.int .i64 k
 tx:∃ v,af 6=v/\cj 1 ci l l1 v (jt (bs.take k)) (decide ((jt bs).length=0))
set_option maxHeartbeats 4000000 in
theorem Qc {l:ap} {b n:Nat} {hC:List ad} {bs:List (List B)} (ag:l[b]? = some (.cells n hC)) (aeN:hC.length=n) (po:bs.length=n)
  (aC:∀ (k:Nat) (w:ad) (s:List B),hC[k]? = some w->bs[k]? = some s->nJ l w s) (am:(jt bs).length<=1000000000) (Dj:n<=1000000000)
  {K:ad->ap->Prop} (bl:∀ v l',cj 1 ci l l' v (jt bs) (decide ((jt bs).length=0))->K v l') :
  dr Tryz.prog GS 194 [.au 1 b 0 n n n] l (c:=⟨K⟩) :=by
 apply bm Tryz.func194 [];have oL:=e7 ag;have b3:∀ l',l.length<=l'.length->(∀ b,b<l.length->l'[b]? = l[b]?)->∀ k,k<n->∃ w s p cs o,hC[k]? = some w/\bs[k]? = some s/\nJ l' w s/\cd (.au 1) (.au 1 b 0 n n n) (.int .i64 (k:Int))=some p/\eZ l' p=some (cs,o)/\cs[o]? = some w:=by
  intro l' h1 ae k hk;obtain⟨w,hw,_⟩:=bu (l:=hC) (k:=k) (by omega);obtain⟨s,ak,_⟩:=bu (l:=bs) (k:=k) (by omega);obtain⟨p,cs,o,aX,bg,a3⟩:=Et (kd:=.i64) (l:=l') (by rw[ae b oL]; exact ag) aeN hw;exact⟨w,s,p,cs,o,hw,ak,(aC k w s hw ak).frame h1 ae,aX,bg,a3⟩
 obtain⟨X,oG⟩:∃ X,X=ad.au 1 b 0 n n n:=⟨_,rfl⟩
 have uD:cz (.au 1) X=some (.int .i64 bs.length) :=by rw[oG,po]; rfl
 rw[<-oG] at b3 ⊢;simp[uD];refine cw n (fun k af l1=>af 0=X/\af 9=X/\af 10=.int .i64 bs.length/\af 11=.int .i64 k/\af 3=.int .i64 (jt (bs.take k)).length/\l1=l) ?_ ?_
 ·rintro k af l1 hk ⟨cg,fP,ft,hJ,a7,rfl⟩;obtain⟨af,rfl⟩:=ky cg a7 fP ft hJ;clear cg a7 fP ft hJ;simp;by_cases h:k<bs.length
  ·obtain⟨w,s,p,cs,o,hw,ak,LO,aX,bg,a3⟩:=b3 l1 (ar0 _) (fun _ _=>rfl) k (by omega);have C8:=QO ak;have dT:=QN bs (k+1);rw[C8,asa] at dT;have m1:IntKind.i64.wrap (((jt (bs.take k)).length:Int)+s.length)=((jt (bs.take k)).length:Int)+s.length:=wrap_i64 (by omega) (by omega);have fw:IntKind.i64.wrap ((k:Int)+1)=k+1:=wrap_i64 (by omega) (by omega);have qF:¬(((jt (bs.take k)).length:Int)+s.length<0) :=by omega
   have gL:=LO.len;simp[h,aX,bg,a3,gL,m1,qF,fw,C8];omega
  ·have cH:k=bs.length:=by omega
   subst cH;rw[asx];simp;refine abE am ?_;intro v l aq;simp[uD];refine cw bs.length (XI l1 X bs) ?_ ⟨by simp,by simp,by simp,v,by simp,by simpa [jt] using aq⟩;rintro k af bQ hk ⟨k6,mP,sU,w,bT,aq⟩;obtain⟨af,rfl⟩:=jh bT k6 mP sU;clear bT k6 mP sU;simp;by_cases h:k<bs.length
   ·obtain⟨y,s,p,cs,o,hw,ak,LO,aX,bg,a3⟩:=b3 bQ aq.le aq.same k (by omega);have C8:=QO ak;have dT:=QN bs (k+1);rw[C8,asa] at dT;have fw:IntKind.i64.wrap ((k:Int)+1)=k+1:=wrap_i64 (by omega) (by omega);have aA:cK=140737488355328:=rfl;obtain⟨a8,ew,dx,di,gA⟩:=aq.app (by_:=1) (x:=y) (xs:=s) (LO.Qb bQ (ar0 _) fun _ _=>rfl) (by simp[ci]) (by omega) (by omega) (by rw[aA]; omega);simp[h,aX,bg,a3,dx];refine dt.cy ?_;simp[h,fw];refine⟨by simp,by simp,by simp,a8,by simp,?_⟩;rw[C8];have n3:(decide ((jt bs).length=0)&&s.isEmpty)=decide ((jt bs).length=0) :=by
     by_cases ao:(jt bs).length=0
     ·have:s=[] :=asF.1 (by omega);simp[ao,this]
     ·simp[ao]
    rw[n3] at di;exact di
   ·have cH:k=bs.length:=by omega
    subst cH;simp;rw[asx] at aq;exact bl _ _ aq
 ·simp[jt]
def hG (o:bq) :bq:={ o with e:=0#32,s:=0#32 }
theorem Xm (o:bq) (aq:jO o) (hk:fy (hG o)=0) {l:ap} {K:ad->ap->Prop} (bl:∀ w l',cj 1 ci l l' w (ln o) false->K (.bJ [w,.int .i64 0]) l') :
  dr Tryz.prog GS 147 [.aI (a1 o)] l (c:=⟨K⟩) :=by
 apply bm Tryz.func147 [[[0],[1],[2],[3],[5],[6],[7],[9],[10],[11],[12],[4,12,11,7,0],[8,12,11,0]]];have aA:cK=140737488355328:=rfl;have Ly:=iF o.hq.toNat
 have s7:=iF o.cl.toNat
 have gL:=DU aq.ids;have c1:jO (hG o) :=⟨aq.ids,aq.len,aq.val,aq.key⟩
 have cO:=IW (hG o) c1;rw[hk] at cO;have qA:o.br.l.length<=4:=xc (o:=hG o) hk;have G9:ea o.br.l=true:=by
  unfold fy at hk;have aR:(hG o).br=o.br:=rfl;rw[aR,if_neg (by omega)] at hk;cases al:ea o.br.l with
  | true=>rfl
  | false=>rw[al] at hk; cases hk
 have L0:(BitVec.setWidth 64 o.hq).toNat=o.hq.toNat:=by rw[asj]; exact asg (by have:=o.hq.isLt; omega)
 have acI:=k5 (hG o);have aM:l.length<(l++[aY.cells 11 (a1 (hG o))]).length:=by simp
 have eB:(l++[aY.cells 11 (a1 (hG o))])[l.length]? = some (.cells 11 (a1 (hG o))) :=by simp
 simp[a1];refine aW cO (show aZ [ad.aI (a1 (hG o))]=true by simp[aZ,ad.closed,acI]) ?_;simp;refine akQ o.br aq.ids (by omega) G9 fun bX l1 h1=>?_
 have qJ:l1[l.length]? = some (.cells 11 (a1 (hG o))) :=by rw[h1.same _ aM]; exact eB
 have qC:l.length<l1.length:=by have:=h1.le; simp at this; omega
 have yN:=qJ;simp[a1,hG] at yN;have aef:(l1++[aY.cells 1 [ad.int .u8 111]])[l.length]? = some (.cells 11 (a1 (hG o))) :=by rw[arZ qC]; exact qJ
 have aod:l.length<(l1++[aY.cells 1 [ad.int .u8 111]]).length:=by simp; omega
 have Tf:=aef;simp[a1,hG] at Tf;simp[Tf];have ael:(l1++[aY.cells 1 [ad.int .u8 111],aY.cells 1 [ad.int .u8 (u o.act.kind)]])[l.length]? = some (.cells 11 (a1 (hG o))) :=by rw[arZ qC]; exact qJ
 have aeg:(l1++[aY.cells 1 [ad.int .u8 111],aY.cells 1 [ad.int .u8 (u o.act.kind)]])[l1.length]? = some (.cells 1 [.int .u8 111]) :=by simp
 have uM:(l1++[aY.cells 1 [ad.int .u8 111],aY.cells 1 [ad.int .u8 (u o.act.kind)]])[l1.length+1]? = some (.cells 1 [.int .u8 (u o.act.kind)]) :=by simp
 have mR:(l1++[aY.cells 1 [ad.int .u8 111],aY.cells 1 [ad.int .u8 (u o.act.kind)]]).length=l1.length+2:=by simp
 refine zB _ fun w2 bQ ae=>?_
 rw[L0] at ae;have GU:=ae.le;rw[mR] at GU;have s8:bQ[l.length]? = some (.cells 11 (a1 (hG o))) :=by rw[ae.same _ (by rw[mR]; omega)]; exact ael
 have Rw:bQ[l1.length]? = some (.cells 1 [.int .u8 111]) :=by rw[ae.same _ (by rw[mR]; omega)]; exact aeg
 have Rx:bQ[l1.length+1]? = some (.cells 1 [.int .u8 (u o.act.kind)]) :=by rw[ae.same _ (by rw[mR]; omega)]; exact uM
 have rW:=s8;simp[a1,hG] at rW;simp[rW,Rw,Rx];refine zB _ fun et ew al=>?_
 have SP:=al.le;have cW:ew[l.length]? = some (.cells 11 (a1 (hG o))) :=by rw[al.same _ (by omega)]; exact s8
 have Ry:ew[l1.length]? = some (.cells 1 [.int .u8 111]) :=by rw[al.same _ (by omega)]; exact Rw
 have Rz:ew[l1.length+1]? = some (.cells 1 [.int .u8 (u o.act.kind)]) :=by rw[al.same _ (by omega)]; exact Rx
 have wJ:=cW;simp[a1,hG] at wJ;simp[wJ,Ry,Rz,h1.cells,ae.cells,al.cells,bt];obtain⟨L,dS⟩:∃ L,L=ew++[aY.cells 5 [.au 1 l1.length 0 1 1 1,w2,bX,et,.au 1 (l1.length+1) 0 1 1 1]] :=⟨_,rfl⟩
 have yg:ew.length<=L.length:=by rw[dS]; simp
 have qn:∀ b,b<ew.length->L[b]? = ew[b]?:=fun b ag=>by rw[dS,arZ ag]
 have KB:L[ew.length]? = some (.cells 5 [.au 1 l1.length 0 1 1 1,w2,bX,et,.au 1 (l1.length+1) 0 1 1 1]) :=by rw[dS]; simp
 rw[<-dS];have I6:nJ L (.au 1 l1.length 0 1 1 1) [111#8] :=U6 (by rw[qn _ (by omega)]; exact Ry);have X7:nJ L (.au 1 (l1.length+1) 0 1 1 1) [o.act.kind] :=U6 (by rw[qn _ (by omega)]; exact Rz);have I7:nJ L w2 (eR o.hq.toNat) :=((Bt ae).frame SP al.same).frame yg qn;have I8:nJ L bX (r7 o.br.l) :=((((Bt h1).frame (l1:=l1++[aY.cells 1 [ad.int .u8 111],aY.cells 1 [ad.int .u8 (u o.act.kind)]]) (by rw[mR]; omega) (fun b ag=>arZ ag)).frame (by rw[mR]; exact GU) ae.same).frame SP al.same).frame yg qn;have X6:nJ L et (eR o.cl.toNat) :=(Bt al).frame yg qn;have Ta:L[l.length]? = some (.cells 11 (a1 (hG o))) :=by rw[qn _ (by omega)]; exact cW
 obtain⟨M,nW⟩:∃ M,M=jt [[111#8],eR o.hq.toNat,r7 o.br.l,eR o.cl.toNat,[o.act.kind]] :=⟨_,rfl⟩
 have KF:M=[111#8]++eR o.hq.toNat++r7 o.br.l++eR o.cl.toNat++[o.act.kind] :=by rw[nW]; simp[jt]
 have ab0:M.length<=40000:=by rw[KF]; simp only[asa,asp,asU]; omega
 have KE:M.length≠0:=by rw[KF]; simp
 refine Qc (bs:=[[111#8],eR o.hq.toNat,r7 o.br.l,eR o.cl.toNat,[o.act.kind]]) KB rfl rfl ?_ (by rw[<-nW]; omega) (by omega) fun oq j6 aE=>?_
 ·intro k w s hw ak;rcases k with _ | _ | _ | _ | _ | k
  ·obtain rfl:=Option.some.inj hw; obtain rfl:=Option.some.inj ak; exact I6
  ·obtain rfl:=Option.some.inj hw; obtain rfl:=Option.some.inj ak; exact I7
  ·obtain rfl:=Option.some.inj hw; obtain rfl:=Option.some.inj ak; exact I8
  ·obtain rfl:=Option.some.inj hw; obtain rfl:=Option.some.inj ak; exact X6
  ·obtain rfl:=Option.some.inj hw; obtain rfl:=Option.some.inj ak; exact X7
  ·cases hw
 rw[<-nW,decide_eq_false KE] at aE;have abZ:l.length<=L.length:=by omega
 have sW:cj 1 ci l j6 oq M false:=aE.base abZ fun b ag=>by
  have eC:b<l1.length:=by omega
  rw[qn b (by omega),al.same b (by omega),ae.same b (by rw[mR]; omega),arZ eC,h1.same b (by simp; omega),arZ ag]
 have G3:j6[l.length]? = some (.cells 11 (a1 (hG o))) :=by rw[aE.same _ (by omega)]; exact Ta
 have adG:l.length<j6.length:=e7 G3;have AU:=G3;simp[a1,hG] at AU;have cM:ln o=M++(if o.act.kind=1#8 then [] else jL (fA o.act.key))++(if o.act.kind=4#8 then jM o.act.val else []) :=by rw[KF]; rfl
 have lf:=BN (fA o.act.key);rw[ra] at lf;have AL:=aq.key;have kS:=EN o.act.val;have aeJ:=aq.val.2.2;have ah:x1 (.str o.act.key)=some (.cq 1 ((fA o.act.key).map ci)) :=by
  show some (ad.cq 1 (o.act.key.map fun b=>[jS b]))=_;rw[IG]
 by_cases cm:o.act.kind=1#8
 ·have aR:(u o.act.kind:Int)=1:=(iY o.act.kind).2 cm;have ki:¬ o.act.kind=4#8:=by rw[cm]; decide
  rw[if_pos cm,if_neg ki,asD,asD] at cM;simp[AU,aR];exact bl _ _ (by rw[cM]; exact sW)
 ·have aR:¬ (u o.act.kind:Int)=1:=fun h=>cm ((iY o.act.kind).1 h)
  rw[if_neg cm] at cM;simp[AU,aR,ah];refine Xl (some (fA o.act.key)) (by simpa [ra] using AL) (by simp[dA]) (by simp) (fun l' _ _=>by simp[dA]) fun IV mx eQ=>?_
  obtain⟨akJ,MH,a9,vH,_⟩:=(sW.frame eQ.le eQ.same).app (by_:=1) (x:=IV) (xs:=jL (fA o.act.key)) eQ.contents (by simp[ci]) (by omega) (by omega) (by rw[aA]; omega);have YI:=(aE.frame eQ.le eQ.same).app (by_:=1) (x:=IV) (xs:=jL (fA o.act.key)) eQ.contents (by simp[ci]) (by omega) (by omega) (by rw[aA]; omega);obtain⟨arU,apU,O6,Zh,_⟩:=YI;rw[a9] at O6;obtain⟨rfl,rfl⟩:=Prod.mk.inj (Option.some.inj O6);have LK:MH[l.length]? = some (.cells 11 (a1 (hG o))) :=by rw[Zh.same _ (by omega)]; exact Ta
  have yP:=LK;simp[a1,hG] at yP;simp[a9];refine dt.cy ?_;simp only[asN] at vH;by_cases ki:o.act.kind=4#8
  ·have jr:(u o.act.kind:Int)=4:=(xx o.act.kind).2 ki;rw[if_pos ki] at cM;have RS:kE o.act=true:=by
    cases h:kE o.act with
    | true=>rfl
    | false=>
     unfold fy at hk;have bE:(hG o).br=o.br:=rfl;have c4:(hG o).act=o.act:=rfl;rw[bE,if_neg (by omega),G9,if_pos rfl] at hk;unfold sV at hk;rw[c4,h] at hk;simp at hk
   rw[B9 ki,ar3] at RS;simp[yP,jr];refine ak1 o.act.val aq.val RS.2 fun OM afN mQ=>?_
   obtain⟨akI,afO,Ji,Jq,_⟩:=(vH.frame mQ.le mQ.same).app (by_:=1) (x:=OM) (xs:=jM o.act.val) mQ.contents (by simp[ci]) (by omega) (by omega) (by rw[aA]; simp only[asa]; omega);simp[Ji];refine dt.cy ?_;simp;exact bl _ _ (by rw[cM]; exact Jq)
  ·have jr:¬ (u o.act.kind:Int)=4:=fun h=>ki ((xx o.act.kind).1 h)
   rw[if_neg ki,asD] at cM;simp[yP,jr];exact bl _ _ (by rw[cM]; exact vH)
theorem PD {o:bq} (h:fy o=0) :fy (hG o)=0:=by
 unfold fy at h ⊢;have aR:(hG o).br=o.br:=rfl;rw[aR];have ar:sV o=true->sV (hG o)=true:=by
  unfold sV hG;simp only[ar3];rintro⟨a,b,c,d,e⟩;exact⟨a,b,c,by decide,by decide⟩
 split at h
 ·cases h
 ·rename_i h1;rw[if_neg h1];split at h
  ·rename_i ae;rw[if_pos ae];split at h
   ·rename_i al;rw[if_pos (ar al)]
   ·cases h
  ·cases h
theorem Qy {o:bq} (h:fy o=0) :kE o.act=true:=by
 unfold fy at h;split at h
 ·cases h
 ·split at h
  ·split at h
   ·rename_i al;unfold sV at al;simp only[ar3] at al;exact al.2.2.1
   ·cases h
  ·cases h
theorem MD {s:List UInt8} (h:gN s=true) :s.length<=20:=by
 unfold gN at h;simp only[ar3,decide_eq_true_eq] at h;omega
theorem Qz {o:bq} (aq:jO o) (h:fy o=0) :(ii o).length<=1000:=by
 have h1:=iF o.hq.toNat
 have ae:=iF o.cl.toNat
 have al:=DU aq.ids;have aE:=BN (fA o.act.key);rw[ra] at aE;have bz:=EN o.act.val;have aC:=xc h;have ao:=iF o.e.toNat
 have ak:=iF o.s.toNat
 have az:=Qy h;have aL:(if o.act.kind=1#8 then [] else jL (fA o.act.key)).length<=100:=by
  split
  ·simp
  ·rename_i cm;have:o.act.key.length<=20:=by
    by_cases dk:o.act.kind=2#8
    ·rw[B8 dk,ar3] at az; exact MD az.1
    ·by_cases kH:o.act.kind=3#8
     ·rw[Jk kH,ar3] at az; exact MD az.1
     ·by_cases ki:o.act.kind=4#8
      ·rw[B9 ki,ar3] at az; exact MD az.1
      ·rw[Jl cm dk kH ki] at az; cases az
   omega
 have aT:(if o.act.kind=4#8 then jM o.act.val else []).length<=100:=by
  split
  ·rename_i ki;rw[B9 ki,ar3] at az;have aw:=az.2;have:o.act.val.text.length<=30:=by
    by_cases ce:o.act.val.kind=1#8
    ·rw[OJ ce] at aw;simp only[ar3,decide_eq_true_eq] at aw;rw[aw.2]; simp
    ·by_cases bI:o.act.val.kind=2#8
     ·rw[OK bI] at aw;simp only[ar3,decide_eq_true_eq] at aw;rw[aw.2.2]; simp
     ·by_cases cS:o.act.val.kind=3#8
      ·by_cases am:o.act.val.text.length<=30
       ·exact am
       ·rw[Xg cS] at aw;unfold tP at aw;rw[if_neg am] at aw;simp only[ar3,decide_eq_true_eq,o3] at aw;have:=aw.1;rw[cS] at this;exact absurd this (by decide)
      ·rw[OL ce bI cS] at aw; cases aw
   omega
  ·simp
 unfold ii ln opHead;simp only[asa,asp,asU];omega
theorem akN (o:bq) (aq:jO o) (hk:fy o=0) {l:ap} {K:ad->ap->Prop} (bl:∀ w l',cj 1 ci l l' w (ii o) false->K (.bJ [w,.int .i64 0]) l') :
  dr Tryz.prog GS 144 [.aI (a1 o)] l (c:=⟨K⟩) :=by
 apply bm Tryz.func144 [[[0],[1],[2],[3],[4],[6],[7],[8],[9],[5,9,8]]];have cO:=IW o aq;rw[hk] at cO;have eE:=k5 o;have gD:=Qz aq hk;have ia:(BitVec.setWidth 64 o.e).toNat=o.e.toNat:=by rw[asj]; exact asg (by have:=o.e.isLt; omega)
 have oO:(BitVec.setWidth 64 o.s).toNat=o.s.toNat:=by rw[asj]; exact asg (by have:=o.s.isLt; omega)
 have aM:l.length<(l++[aY.cells 11 (a1 o)]).length:=by simp
 have eB:(l++[aY.cells 11 (a1 o)])[l.length]? = some (.cells 11 (a1 o)) :=by simp
 simp[a1];refine aW cO (show aZ [ad.aI (a1 o)]=true by simp[aZ,ad.closed,eE]) ?_;simp;refine Xm o aq (PD hk) fun bX l1 h1=>?_
 have qJ:l1[l.length]? = some (.cells 11 (a1 o)) :=by rw[h1.same _ aM]; exact eB
 have qC:l.length<l1.length:=e7 qJ;have yN:=qJ;simp[a1] at yN;simp[yN];refine zB _ fun w2 bQ ae=>?_
 rw[ia] at ae;have s8:bQ[l.length]? = some (.cells 11 (a1 o)) :=by rw[ae.same _ qC]; exact qJ
 have rW:=s8;simp[a1] at rW;simp[rW];refine zB _ fun et ew al=>?_
 rw[oO] at al;simp[h1.cells,ae.cells,al.cells,bt];obtain⟨L,dS⟩:∃ L,L=ew++[aY.cells 3 [bX,w2,et]] :=⟨_,rfl⟩
 have yg:ew.length<=L.length:=by rw[dS]; simp
 have qn:∀ b,b<ew.length->L[b]? = ew[b]?:=fun b ag=>by rw[dS,arZ ag]
 have KB:L[ew.length]? = some (.cells 3 [bX,w2,et]) :=by rw[dS]; simp
 rw[<-dS];have I6:nJ L bX (ln o) :=(((Bt h1).frame ae.le ae.same).frame al.le al.same).frame yg qn;have I7:nJ L w2 (eR o.e.toNat) :=((Bt ae).frame al.le al.same).frame yg qn;have I8:nJ L et (eR o.s.toNat) :=(Bt al).frame yg qn;have nW:jt [ln o,eR o.e.toNat,eR o.s.toNat]=ii o:=by simp[jt,ii]
 have KE:(ii o).length≠0:=by unfold ii ln opHead; simp
 refine Qc (bs:=[ln o,eR o.e.toNat,eR o.s.toNat]) KB rfl rfl ?_ (by rw[nW]; omega) (by omega) fun oq j6 aE=>?_
 ·intro k w s hw ak;rcases k with _ | _ | _ | k
  ·obtain rfl:=Option.some.inj hw; obtain rfl:=Option.some.inj ak; exact I6
  ·obtain rfl:=Option.some.inj hw; obtain rfl:=Option.some.inj ak; exact I7
  ·obtain rfl:=Option.some.inj hw; obtain rfl:=Option.some.inj ak; exact I8
  ·cases hw
 rw[nW,decide_eq_false KE] at aE;simp;refine bl _ _ (aE.base ?_ fun b ag=>?_)
 ·have:=ae.le; have:=al.le; omega
 ·have:=ae.le; have:=al.le;rw[qn b (by omega),al.same b (by omega),ae.same b (by omega),h1.same b (by simp; omega),arZ ag]
theorem akM (o:bq) (aq:jO o) (hk:¬ fy o=0) :bx Tryz.prog GS 144 [.aI (a1 o)] (.bJ [.aV,.int .i64 (fy o)]) :=by
 refine bH Tryz.checked.mixed bD ?_;apply bm Tryz.func144 [[[0],[1],[2],[3],[4],[6],[7],[8],[9],[5,9,8]]];have cO:=IW o aq;have eE:=k5 o;obtain⟨E,ff⟩:∃ E,E=a1 o:=⟨_,rfl⟩
 have l9:E.length=11:=by rw[ff]; rfl
 rw[<-ff] at cO eE ⊢;simp[l9,arX];refine aW cO (by simp[aZ,ad.closed,eE]) ?_;simp[hk];exact aK rfl rfl
theorem ON (o:bq) (aq:jO o) :bx Tryz.prog GS 94 [.aI (a1 o)] (.bJ [fD (cQ o),.int .i64 (fy o)]) :=by
 refine bH Tryz.checked.mixed bD ?_;apply bm Tryz.func94 [];unfold cQ;have eE:=k5 o;have av:(rep 32 (.int .u8 0) :List ad)=(List.replicate 32 0#8).map bA:=by simp[rep]
 obtain⟨E,ff⟩:∃ E,E=a1 o:=⟨_,rfl⟩
 have l9:E.length=11:=by rw[ff]; rfl
 by_cases aB:fy o=0
 ·have gD:=Qz aq aB;have db:(iH (ii o)).length=32:=vj _;rw[<-ff];simp[l9,arX];rw[ff];refine akN o aq aB fun bX l1 h1=>?_
  rw[<-ff] at h1;have eB:l1[1]? = some (.cells 32 (rep 32 (.int .u8 0))) :=by rw[h1.same 1 (by simp)]; rfl
  simp;refine iW (ajL (some (ii o)) (by simp; omega)) (.cons (h1.tH (fun _=>rfl) (some (ii o)) rfl rfl) .nil) (by simp[ad.flat,mL,fD,Ah bA (fun _=>rfl)]) ?_;have uQ:bt (rep 32 (.int .u8 0)) 0 ((iH (ii o)).map bA)=(iH (ii o)).map bA:=ek (by rw[asi,db]; rfl);have kR:(l1.set 1 (aY.cells 32 ((iH (ii o)).map bA)))[1]? = some (.cells 32 ((iH (ii o)).map bA)) :=ar9 (e7 eB);simp[eB,fD,db,uQ,kR,arX];exact aK (by rw[if_pos aB,aB]) (by simp[ad.closed,aZ,lD bA (fun _=>rfl)])
 ·have Sd:=akM o aq aB;rw[<-ff] at Sd eE ⊢;simp[l9,arX];refine aW Sd (by simp[aZ,ad.closed,eE]) ?_;simp[aB,fD,av];exact aK rfl (by simp only[ad.closed,aZ,lD bA (fun _=>rfl),atK])
end Op

end Go.cf

namespace Go.cf
open Go Go.Proofs Go.RowKit
set_option maxRecDepth 100000
namespace Op
open gZ
theorem W6 {P:Program} {t:TypeId} {ts:List TypeId} {cs:List ad} (aP:P.underlying t=some .string) (h:ej P (t::ts) cs) :∃ s cs',cs=.str s::cs'/\ej P ts cs':=by
 cases h
 case str s cs' ak qP h=>exact⟨_,_,rfl,h⟩
 all_goals (exfalso; simp_all; done)
theorem W8 {ts:List TypeId} {cs:List ad} (h:ej Tryz.prog (5::ts) cs) :∃ (x:B) (cs' : List ad),cs=bA x::cs'/\ej Tryz.prog ts cs':=by
 obtain⟨k,x0,rfl,h1,ae,al⟩:=EG (k:=.u8) (by kernel_rfl) h;have aU:(0:Int)<=k:=h1;have bz:k<=255:=ae;refine⟨BitVec.ofNat 8 k.toNat,x0,?_,al⟩;have:((BitVec.ofNat 8 k.toNat).toNat:Int)=k:=by
  rw[asn,asg (by omega)]; omega
 simp[bA,u]; omega
theorem akl {ts:List TypeId} {cs:List ad} (h:ej Tryz.prog (48::ts) cs) :∃ (x:List B) (cs' : List ad),cs=x.map bA++cs'/\x.length=32/\ej Tryz.prog ts cs':=by
 have h1:=akk (e:=5) (n:=32) (by kernel_rfl) h;exact W4 (by kernel_rfl) 32 h1
theorem OC {ts:List TypeId} {cs:List ad} (h:ej Tryz.prog (22::ts) cs) :∃ (s:dM) (cs' : List ad),cs=aN s::cs'/\fo s/\ej Tryz.prog ts cs':=by
 obtain⟨s,cs',rfl,_,h1,ae⟩:=W5 (e:=48) (z:=32) (enc:=aQ) (Q:=fun x=>x.length=32) (by kernel_rfl) (by kernel_rfl) (fun r aA=>by
  obtain⟨x,cs',rfl,ai,al⟩:=akl aA;rw[OD al,asD];exact⟨x,rfl,ai⟩) h
 exact⟨s,cs',rfl,h1,ae⟩
theorem OE {ts:List TypeId} {cs:List ad} (h:ej Tryz.prog (76::ts) cs) :∃ (x:D) (cs' : List ad),cs=bC x::cs'/\ej Tryz.prog ts cs':=by
 obtain⟨k,x0,rfl,h1,ae,al⟩:=EG (k:=.u32) (by kernel_rfl) h;have aU:(0:Int)<=k:=h1;have bz:k<=4294967295:=ae;refine⟨BitVec.ofNat 32 k.toNat,x0,?_,al⟩;have:((BitVec.ofNat 32 k.toNat).toNat:Int)=k:=by
  rw[asn,asg (by omega)]; omega
 simp[bC,u]; omega
structure Jg (o:bq) :Prop where
 ids:fo o.br
 my:-9223372036854775808<=o.act.val.num
 ny:o.act.val.num<9223372036854775808
theorem ako {ts:List TypeId} {cs:List ad} (h:ej Tryz.prog (42::ts) cs) :∃ (v:h6) (cs' : List ad),cs=[bA v.kind,.int .i64 v.num,cU v.bits,.str v.text]++cs'/\(-9223372036854775808<=v.num/\v.num<9223372036854775808)/\ej Tryz.prog ts cs':=by
 have h1:=EH (fs:=[5,2,40,9]) (by kernel_rfl) h;obtain⟨k,_,rfl,ae⟩:=W8 h1;obtain⟨n,_,rfl,rV,oM,al⟩:=EG (k:=.i64) (by kernel_rfl) ae;obtain⟨b,_,rfl,aE⟩:=W7 al;obtain⟨s,_,rfl,aU⟩:=W6 (by kernel_rfl) aE;have bz:n<=9223372036854775807:=oM;exact⟨⟨k,n,b,s⟩,_,rfl,⟨rV,by show n<9223372036854775808; omega⟩,aU⟩
theorem akj {ts:List TypeId} {cs:List ad} (h:ej Tryz.prog (78::ts) cs) :∃ (a:Act) (cs' : List ad),cs=[bA a.kind,.str a.key,bA a.val.kind,.int .i64 a.val.num,cU a.val.bits,.str a.val.text]++cs'/\(-9223372036854775808<=a.val.num/\a.val.num<9223372036854775808)/\ej Tryz.prog ts cs':=by
 have h1:=EH (fs:=[5,9,42]) (by kernel_rfl) h;obtain⟨k,_,rfl,ae⟩:=W8 h1;obtain⟨s,_,rfl,al⟩:=W6 (by kernel_rfl) ae;obtain⟨v,_,rfl,aw,aE⟩:=ako al;exact⟨⟨k,s,v⟩,_,rfl,aw,aE⟩
theorem akm {ts:List TypeId} {cs:List ad} (h:ej Tryz.prog (82::ts) cs) :∃ (o:bq) (cs' : List ad),cs=a1 o++cs'/\Jg o/\ej Tryz.prog ts cs':=by
 have h1:=EH (fs:=[76,22,40,78,80]) (by kernel_rfl) h;obtain⟨a,_,rfl,ae⟩:=OE h1;obtain⟨p,_,rfl,aC,al⟩:=OC ae;obtain⟨n,_,rfl,aE⟩:=W7 al;obtain⟨c,_,rfl,ah,aU⟩:=akj aE;have bz:=EH (fs:=[76,76]) (by kernel_rfl) aU;obtain⟨x,_,rfl,dy⟩:=OE bz;obtain⟨y,cs',rfl,eQ⟩:=OE dy;exact⟨⟨a,p,n,c,x,y⟩,cs',by simp[a1],⟨aC,ah.1,ah.2⟩,eQ⟩
theorem akf {ts:List TypeId} {cs:List ad} (h:nh Tryz.prog (22::ts) cs) :∃ (s:dM) (cs' : List ad),cs=aN s::cs'/\fo s/\nh Tryz.prog ts cs':=by
 obtain⟨c,cs',rfl,h1,ae⟩:=W3 h;obtain⟨s,x0,ak,aq,al⟩:=OC (aki (by kernel_rfl) h1);cases ak;exact⟨s,cs',rfl,aq,ae⟩
end Op

end Go.cf

namespace Go.cf
open Go Go.Proofs
set_option maxRecDepth 100000
open gZ Op
def Ic (a n:Nat) :Nat->Nat
 | 0=>1
 | k+1=>match Nat.beq (n / 2 ^ (63 - k) % 2) 1 with
  | true=>((Ic a n k) ^ 2 % 1000000007)*a % 1000000007
  | false=>(Ic a n k) ^ 2 % 1000000007
theorem Vc (a n:Nat) (aF:n<2 ^ 64) :∀ k,k<=64->Ic a n k=fX a (n / 2 ^ (64 - k))
 | 0,_=>by
  have:n / 2 ^ (64 - 0)=0:=att aF;rw[this]; rfl
 | k+1,hk=>by
  have aO:=Vc a n aF k (by omega);have ag:=RU n k (by omega);have e:64 - (k+1)=63 - k:=by omega
  rw[e];unfold Ic;rw[aO,Nat.pow_two,Vj];split
  ·rename_i h;have h1:=as7 h;rw[Vh,ag,h1]
  ·rename_i h;have h1:n / 2 ^ (63 - k) % 2≠1:=fun aH=>by rw[aH] at h; cases h
   rw[ag];congr 1; omega
end Go.cf

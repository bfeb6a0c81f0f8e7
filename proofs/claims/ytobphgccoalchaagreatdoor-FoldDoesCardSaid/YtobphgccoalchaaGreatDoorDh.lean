/-
  SHA-256, as lists of words and bytes; the words of a block.
-/
import Derived.Test.YtobphgccoalchaaGreatDoorDg
import Derived.LaidMore
import Derived.MakeChecks
import Derived.Lib.DecodeN
set_option linter.unusedVariables false
set_option linter.unusedSimpArgs false
set_option linter.unnecessarySimpa false
namespace Go.ct
open Go
namespace hK
abbrev W:=BitVec 32
abbrev B:=BitVec 8
def nY (x:W) (n:Nat) :W:=(x >>> n) ||| (x <<< (32 - n))
def pD (l:List B) :W:=l.foldl (fun a x=>(a <<< 8) ||| x.setWidth 32) 0#32
def part (b:List B) (k t:Nat) :W:=pD (((b.take k).drop (4*t)).take 4)
def gb (b:List B) :List W:=(List.range 16).map fun t=>pD ((b.drop (4*t)).take 4)
def ext (w:List W) :W:=
 let t:=w.length
 let x:=w.getD (t - 15) 0#32
 let y:=w.getD (t - 2) 0#32
 w.getD (t - 16) 0#32+w.getD (t - 7) 0#32+(nY x 7 ^^^ nY x 18 ^^^ (x >>> 3))+(nY y 17 ^^^ nY y 19 ^^^ (y >>> 10))
def i8:Nat->List W->List W
 | 0,w=>w
 | n+1,w=>i8 n (w++[ext w])
def gi (b:List B) :List W:=i8 48 (gb b)
def LJ (x:W) (i j k:Nat) :W:=nY x i ^^^ nY x j ^^^ nY x k
structure cG where
 (a b c d e f g h:W)
def round (s:cG) (k w:W) :cG:=
 let p:=s.h+LJ s.e 6 11 25+((s.e &&& s.f) ^^^ (~~~s.e &&& s.g))+k+w
 let q:=LJ s.a 2 13 22+((s.a &&& s.b) ^^^ (s.a &&& s.c) ^^^ (s.b &&& s.c))
 ⟨p+q,s.a,s.b,s.c,s.d+p,s.e,s.f,s.g⟩
def rounds:cG->List W->List W->cG
 | s,k::cK,w::hG=>rounds (round s k w) cK hG
 | s,_,_=>s
def table:List Nat:=[0x428a2f98,0x71374491,0xb5c0fbcf,0xe9b5dba5,0x3956c25b,0x59f111f1,0x923f82a4,0xab1c5ed5,0xd807aa98,0x12835b01,0x243185be,0x550c7dc3,0x72be5d74,0x80deb1fe,0x9bdc06a7,0xc19bf174,0xe49b69c1,0xefbe4786,0x0fc19dc6,0x240ca1cc,0x2de92c6f,0x4a7484aa,0x5cb0a9dc,0x76f988da,0x983e5152,0xa831c66d,0xb00327c8,0xbf597fc7,0xc6e00bf3,0xd5a79147,0x06ca6351,0x14292967,0x27b70a85,0x2e1b2138,0x4d2c6dfc,0x53380d13,0x650a7354,0x766a0abb,0x81c2c92e,0x92722c85,0xa2bfe8a1,0xa81a664b,0xc24b8b70,0xc76c51a3,0xd192e819,0xd6990624,0xf40e3585,0x106aa070,0x19a4c116,0x1e376c08,0x2748774c,0x34b0bcb5,0x391c0cb3,0x4ed8aa4a,0x5b9cca4f,0x682e6ff3,0x748f82ee,0x78a5636f,0x84c87814,0x8cc70208,0x90befffa,0xa4506ceb,0xbef9a3f7,0xc67178f2]
def cK:List W:=table.map (BitVec.ofNat 32)
def grind (h:cG) (b:List B) :cG:=
 let v:=rounds h cK (gi b)
 ⟨h.a+v.a,h.b+v.b,h.c+v.c,h.d+v.d,h.e+v.e,h.f+v.f,h.g+v.g,h.h+v.h⟩
def Ij:Nat->cG->List B->cG × List B
 | 0,h,b=>(h,b)
 | n+1,h,b=>if 64<=b.length then Ij n (grind h (b.take 64)) (b.drop 64) else (h,b)
def hZ (h:cG) (b:List B) :cG × List B:=Ij (b.length / 64) h b
def first:cG:=⟨0x6a09e667#32,0xbb67ae85#32,0x3c6ef372#32,0xa54ff53a#32,0x510e527f#32,0x9b05688c#32,0x1f83d9ab#32,0x5be0cd19#32⟩
def Bt (n:BitVec 64) :List B:=[(n >>> 56).setWidth 8,(n >>> 48).setWidth 8,(n >>> 40).setWidth 8,(n >>> 32).setWidth 8,(n >>> 24).setWidth 8,(n >>> 16).setWidth 8,(n >>> 8).setWidth 8,(n >>> 0).setWidth 8]
def tail (n:Nat) :List B:=128#8::List.replicate ((119 - n % 64) % 64) 0#8++Bt (BitVec.ofNat 64 n*8#64)
def uN (w:W) :List B:=[(w >>> 24).setWidth 8,(w >>> 16).setWidth 8,(w >>> 8).setWidth 8,w.setWidth 8]
def cG.l (s:cG) :List W:=[s.a,s.b,s.c,s.d,s.e,s.f,s.g,s.h]
def written (s:cG) :List B:=(s.l.map uN).flatten
def iR (b:List B) :List B:=written (hZ first (b++tail b.length)).1
theorem awf (l:List B) (x:B) :pD (l++[x])=(pD l <<< 8) ||| x.setWidth 32:=by simp[pD,aFf]
theorem xd:∀ (n:Nat) (w:List W),(i8 n w).length=w.length+n
 | 0,w=>rfl
 | n+1,w=>by rw[i8,xd n]; simp; omega
theorem DU (b:List B) :(gi b).length=64:=by rw[gi,xd]; simp[gb]
theorem HJ (s:cG) :(written s).length=32:=rfl
theorem uH (b:List B) :(iR b).length=32:=rfl
theorem IU:∀ (n:Nat) (w:List W),i8 (n+1) w=i8 n w++[ext (i8 n w)]
 | 0,w=>rfl
 | n+1,w=>by rw[i8,IU n (w++[ext w])]; rfl
theorem Hp (a:W) (x:B) :(a <<< 8) ||| x.setWidth 32=a*256#32+x.setWidth 32:=by
 apply aCV;have al:x.toNat<256:=x.isLt;have aD:=a.isLt;rw[BitVec.toNat_or,aD6,aFW,aEJ,aC5];have h1:x.toNat % 2 ^ 32=x.toNat:=aC1 (by omega);have ag:a.toNat <<< 8 % 2 ^ 32=(a.toNat % 2 ^ 24) <<< 8:=by rw[aD3,aD3]; omega
 have aq:=aFx (b:=x.toNat) (i:=8) (by omega) (a.toNat % 2 ^ 24);rw[h1,ag,<-aq,aD3];have aH:(256#32).toNat=256:=rfl;rw[aH];omega
theorem Br (h:cG) (b:List B) (ai:64<=b.length) :hZ h b=hZ (grind h (b.take 64)) (b.drop 64) :=by
 have:b.length / 64=(b.drop 64).length / 64+1:=by simp; omega
 rw[hZ,this,Ij,if_pos ai];rfl
theorem Ev (h:cG) (b:List B) (ai:b.length<64) :hZ h b=(h,b) :=by
 rw[hZ,aD7 ai]; rfl
theorem aeJ (h:cG) (b:List B) :(hZ h b).2.length=b.length % 64:=by
 generalize aI:b.length=n
 induction n using Nat.strongRecOn generalizing h b with
 | _ n aY=>
  rcases aDK b.length 64 with h1 | h1
  ·rw[Ev h b h1,aC1 (by omega)]; exact aI
  ·rw[Br h b h1,aY (b.length - 64) (by omega) _ (b.drop 64) (by simp)];omega
theorem Ou (h:cG) (a b:List B) :hZ h (a++b)=hZ (hZ h a).1 ((hZ h a).2++b) :=by
 generalize aI:a.length=n
 induction n using Nat.strongRecOn generalizing h a with
 | _ n aY=>
  rcases aDK a.length 64 with h1 | h1
  ·rw[Ev h a h1]
  ·rw[Br h a h1,Br h (a++b) (by simp; omega),aDb h1,aDp h1];exact aY (a.length - 64) (by omega) _ (a.drop 64) (by simp)
end hK

end Go.ct

namespace Go.ct
open Go Go.Proofs
def A5:List ad:=hK.cK.map bR
def GS:Nat->ad:=fun g=>match Nat.beq g 1 with | true=>.cm A5 0 | false=>.bad
theorem bP:∀ g,(GS g).closed=true:=by
 intro g;unfold GS;split
 ·exact lr bR (fun _=>rfl) _
 ·rfl
@[simp]
theorem awz:GS 1=.cm A5 0:=id rfl
theorem au4 (i:Nat) (h:i<64) :A5[i]? = some (bR (hK.cK.getD i 0#32)) :=by
 have ar:hK.cK.length=64:=rfl;unfold A5;rw[aCO,aC2,aCM (by omega)];rfl
end Go.ct

namespace Go.ct
open Go Go.Proofs
set_option maxRecDepth 100000
namespace hK
def Mt (x:W) (k:Int) :W:=(x <<< (BitVec.ofInt 64 k &&& 31#64).toNat) ||| (x >>> (32#64 - (BitVec.ofInt 64 k &&& 31#64)).toNat)
theorem yy (x:W) (n:Nat) (aG:0<n) (h:n<32) :Mt x (-(n:Int))=nY x n:=by
 have h1:∀ n:Fin 32,0<n.val->(BitVec.ofInt 64 (-(n.val:Int)) &&& 31#64)=BitVec.ofNat 64 (32 - n.val) :=by decide
 have ag:=h1 ⟨n,h⟩ aG;simp only at ag;unfold Mt nY;rw[ag,BitVec.or_comm];congr 2
 ·have:∀ n:Fin 32,0<n.val->(32#64 - BitVec.ofNat 64 (32 - n.val)).toNat=n.val:=by decide
  exact this ⟨n,h⟩ aG
 ·have:∀ n:Fin 32,0<n.val->(BitVec.ofNat 64 (32 - n.val)).toNat=32 - n.val:=by decide
  exact this ⟨n,h⟩ aG
theorem yx (x:W) (k:Int) :bE Tryz.prog GS 267 [bR x,.int .i64 k] (bR (Mt x k)) :=by
 refine bS Tryz.checked.mixed bP ?_;apply bw aha arS;unfold QS aaL;simp;exact aJ rfl rfl
theorem XA (x:W) (i j k:Nat) (aB:0<i/\i<32) (am:0<j/\j<32) (hk:0<k/\k<32) :bE Tryz.prog GS 266 [bR x,.int .i64 i,.int .i64 j,.int .i64 k] (bR (LJ x i j k)) :=by
 refine bS Tryz.checked.mixed bP ?_;apply bw ag9 arR;unfold QR aaK;have aI:∀ n:Nat,n<32->IntKind.i64.wrap (-(n:Int))=-(n:Int) :=fun n aI=>wrap_i64 (by omega) (by omega)
 simp[aI i aB.2];refine a8 (yx x _) rfl ?_;simp[aI j am.2];refine a8 (yx x _) rfl ?_;simp[aI k hk.2];refine a8 (yx x _) rfl ?_;simp[yy x _ aB.1 aB.2,yy x _ am.1 am.2,yy x _ hk.1 hk.2];exact aJ rfl rfl
def cu (x:B) :List ad:=[bQ x]
abbrev fH:=dX B
abbrev da (s:fH) :ad:=c0 1 cu s
theorem mY (s:fH) :(da s).closed=true:=ve (fun _=>rfl) s
def pE (b:List B) (k:Nat) :List W:=((List.range 16).map fun t=>pD (((b.take k).drop (4*t)).take 4))++List.replicate 48 0#32
theorem adi (b:List B) (k:Nat) :(pE b k).length=64:=by simp[pE]
theorem awr (b:List B) :pE b 0=List.replicate 64 0#32:=by simp[pE,pD]; rfl
theorem Nw (b:List B) (k t:Nat) (aQ:t<16) :(pE b k)[t]? = some (pD (((b.take k).drop (4*t)).take 4)) :=by
 unfold pE;rw[aCK (by simpa using aQ),aCO,aDN aQ];rfl
theorem awq (b:List B) (k:Nat) (hk:k<64) (ai:k<b.length) (x:B) (al:b[k]? = some x) :
  (pE b k).set (k / 4) ((pD (((b.take k).drop (4*(k / 4))).take 4) <<< 8) ||| x.setWidth 32)=pE b (k+1) :=by
 apply aDF;intro t;rw[aEg,adi];have Al:b.take (k+1)=b.take k++[x] :=by rw[aC4,al]; rfl
 have bu:(b.take k).length=k:=by simp; omega
 by_cases aQ:t<16
 ·rw[Nw b _ t aQ,Nw b _ t aQ];by_cases h:k / 4=t
  ·rw[if_pos h,if_pos (by omega),<-awf,Al,h];congr 2;rw[aDp (by omega)];obtain⟨A,c9⟩:∃ A,A=List.drop (4*t) (List.take k b) :=⟨_,rfl⟩
   have ka:A.length<4:=by rw[c9]; simp; omega
   rw[<-c9,aCI (by omega),aCI (by simp; omega)]
  ·rw[if_neg h,Al];congr 2;rcases aDK k (4*t) with h1 | h1
   ·rw[aDB (by omega),aDB (by simp; omega)]
   ·rw[aDp (by omega),aDb (by simp; omega)]
 ·rw[if_neg (by omega)];unfold pE;rw[aCT (by simp; omega),aCT (by simp; omega)];simp
theorem awp (b:List B) (ai:64<=b.length) :pE b 64=gb b++List.replicate 48 0#32:=by
 unfold pE gb;congr 1;apply aEy;intro t aQ;have:=aDw.1 aQ;congr 1;rw[aEW,aEt,aDE (by omega)]
def qF (b:List B) (k:Nat) :List W:=i8 k (gb b)++List.replicate (48 - k) 0#32
theorem at8 (b:List B) (k:Nat) (hk:k<=48) :(qF b k).length=64:=by simp[qF,xd,gb]; omega
theorem Ho (b:List B) (k i:Nat) (aB:i<16+k) :(qF b k)[i]? = some ((i8 k (gb b)).getD i 0#32) :=by
 unfold qF;have ar:(i8 k (gb b)).length=16+k:=by simp[xd,gb]
 rw[aCK (by omega),aC2,aCM (by omega)];rfl
theorem at9 (b:List B) (k:Nat) (hk:k<48) :(qF b k).set (16+k) (ext (i8 k (gb b)))=qF b (k+1) :=by
 have ar:(i8 k (gb b)).length=16+k:=by simp[xd,gb]
 unfold qF;rw[aDu _ _ (by omega),ar,aEX,show 48 - k=(48 - (k+1))+1 by omega,aDW,aEP,IU];simp
set_option maxHeartbeats 4000000 in
theorem aub (b:List B) (ai:64<=b.length) :bE Tryz.prog GS 265 [da (some b)] (.aM ((gi b).map bR)) :=by
 refine bS Tryz.checked.mixed bP ?_;apply bw ag8 arQ;unfold QQ aaJ;have dI:g5 (.av 1) (da (some b)) none (some (.int .i64 64)) none=some (da (some (b.take 64))) :=by
  unfold da; rw[aut (by omega) (by omega)]; rfl
 have rh:min 64 b.length=64:=by omega
 simp[dI,rh];refine c2 64 (fun k ah l=>ah 2=.ptr 0 0 64/\ah 11=da (some (b.take 64))/\ah 12=.int .i64 64/\ah 13=.int .i64 k/\l=[.cells 64 ((pE b k).map bR)]) ?_ ?_
 ·rintro k ah l hk ⟨bg,hN,g1,jt,rfl⟩;obtain⟨ah,rfl⟩:=hW bg hN g1 jt;clear bg hN g1 jt;unfold WS;simp;by_cases h:(k:Int)<64
  ·obtain⟨x,al⟩:∃ x,b[k]? = some x:=⟨_,aCM (by omega)⟩
   have C2:(b.take 64)[k]? = some x:=by rw[aCW (by omega)]; exact al
   have bZ:cC (.av 1) (da (some (b.take 64))) (.int .i64 k)=some (.cm (cu x) 0) :=by simp[da,sI,C2]
   obtain⟨q,z7⟩:∃ q,q=k / 4:=⟨_,rfl⟩
   have bD:cP .quo .i64 (k:Int) .i64 4=some (.int .i64 (q:Int)) :=by rw[z7]; exact Il k 4 (by omega) (by omega)
   have fP:IntKind.i64.wrap ((k:Int)+1)=k+1:=wrap_i64 (by omega) (by omega);have aP:(q:Int)<64:=by omega
   have aA:=Nw b k q (by omega);have ap:=oG bR (pE b k) q (((pD (((b.take k).drop (4*q)).take 4) <<< 8) ||| x.setWidth 32)) (by rw[adi]; omega);rw[z7,awq b k (by omega) (by omega) x al,<-z7] at ap;have eD:q+1<=64:=by omega
   simp[h,bZ,cu,bD,aP,aA,eD,fP,ap];omega
  ·have xR:k=64:=by omega
   subst xR;simp;refine c2 48 (fun j ah l=>ah 2=.ptr 0 0 64/\ah 5=.int .i64 (16+j:Nat)/\l=[.cells 64 ((qF b j).map bR)]) ?_ ?_
   ·rintro j ah l am ⟨bg,bC,rfl⟩;obtain⟨ah,rfl⟩:=lS bg bC;clear bg bC;unfold WT;obtain⟨t,aQ⟩:∃ t,t=16+j:=⟨_,rfl⟩
    rw[<-aQ];simp;by_cases h:(t:Int)<64
    ·have kh:IntKind.i64.wrap ((t:Int)+1)=(t+1:Nat) :=wrap_i64 (by omega) (by omega);have HE:IntKind.i64.wrap ((t:Int) - 15)=(t - 15:Nat) :=by rw[wrap_i64 (by omega) (by omega)]; omega
     have w2:IntKind.i64.wrap ((t:Int) - 2)=(t - 2:Nat) :=by rw[wrap_i64 (by omega) (by omega)]; omega
     have HF:IntKind.i64.wrap ((t:Int) - 16)=(t - 16:Nat) :=by rw[wrap_i64 (by omega) (by omega)]; omega
     have Eb:IntKind.i64.wrap ((t:Int) - 7)=(t - 7:Nat) :=by rw[wrap_i64 (by omega) (by omega)]; omega
     have ar:(i8 j (gb b)).length=t:=by simp[xd,gb]; omega
     have xg:=Ho b j (t - 15) (by omega);have bg:=Ho b j (t - 2) (by omega);have sh:=Ho b j (t - 16) (by omega);have eU:=Ho b j (t - 7) (by omega);have ap:=oG bR (qF b j) t (ext (i8 j (gb b))) (by rw[at8 b j (by omega)]; omega);rw[aQ,at9 b j (by omega),<-aQ] at ap;unfold ext at ap;rw[ar] at ap
     dsimp only at ap
     obtain⟨vR,IG⟩:∃ i,i=t - 15:=⟨_,rfl⟩
     obtain⟨fF,b7⟩:∃ i,i=t - 2:=⟨_,rfl⟩
     obtain⟨vS,EK⟩:∃ i,i=t - 16:=⟨_,rfl⟩
     obtain⟨k6,II⟩:∃ i,i=t - 7:=⟨_,rfl⟩
     rw[<-IG] at HE xg ap;rw[<-b7] at w2 bg ap;rw[<-EK] at HF sh ap;rw[<-II] at Eb eU ap;have Ic:(vR:Int)<64:=by omega
     have dA:(fF:Int)<64:=by omega
     have Ie:(vS:Int)<64:=by omega
     have tq:(k6:Int)<64:=by omega
     have eD:t+1<=64:=by omega
     generalize (i8 j (gb b)).getD vR 0#32=x at xg ap;generalize (i8 j (gb b)).getD fF 0#32=y at bg ap;generalize (i8 j (gb b)).getD vS 0#32=Ny at sh ap;generalize (i8 j (gb b)).getD k6 0#32=Nz at eU ap;have wn:=yy x 7 (by omega) (by omega);have DH:=yy x 18 (by omega) (by omega);have DG:=yy y 17 (by omega) (by omega);have DI:=yy y 19 (by omega) (by omega);simp at wn DH DG DI;simp[h,HE,w2,xg,bg,Ic,dA];refine a8 (yx _ _) rfl ?_;simp;refine a8 (yx _ _) rfl ?_;simp;refine a8 (yx _ _) rfl ?_;simp;refine a8 (yx _ _) rfl ?_;simp[wn,DH,DG,DI,HF,Eb,sh,eU,Ie,tq,h,ap,kh,eD];omega
    ·have alM:j=48:=by omega
     have amH:qF b 48=gi b:=by simp[qF,gi]
     subst alM;have CB:=DU b;rw[amH];simp[h,CB,n2,aCI];exact aJ rfl (RW bR (fun _=>rfl) _)
   ·simp[qF,i8,awp b ai]
 ·simp[awr,ab4 _ 32]
theorem awn (b:List B) (n:Nat) (aI:64<=n) :gb (b.take n)=gb b:=by
 unfold gb;apply aEy;intro t aQ;have:=aDw.1 aQ;congr 1;rw[aEW,aEt,aDE (by omega)]
theorem aua (b:List B) (n:Nat) (aI:64<=n) :gi (b.take n)=gi b:=by unfold gi; rw[awn b n aI]
theorem rounds_succ:∀ (k:Nat) (s:cG) (a b:List W) (x y:W),a[k]? = some x->b[k]? = some y->rounds s (a.take (k+1)) (b.take (k+1))=round (rounds s (a.take k) (b.take k)) x y
 | 0,s,a,b,x,y,aD,ai=>by
  cases a with
  | nil=>simp at aD
  | cons a NV=>
   cases b with
   | nil=>simp at ai
   | cons b bs=>simp at aD ai; subst aD ai; simp[rounds]
 | k+1,s,a,b,x,y,aD,ai=>by
  cases a with
  | nil=>simp at aD
  | cons a NV=>
   cases b with
   | nil=>simp at ai
   | cons b bs=>
    simp only[List.take_succ_cons,rounds];exact rounds_succ k _ NV bs x y (by simpa using aD) (by simpa using ai)
def np (h:cG) (b:List B) (k:Nat) :cG:=rounds h (cK.take k) ((gi b).take k)
theorem abK (h:cG) (b:List B) :np h b 0=h:=rfl
theorem abJ (h:cG) (b:List B) (k:Nat) (hk:k<64) :np h b (k+1)=round (np h b k) (cK.getD k 0#32) ((gi b).getD k 0#32) :=by
 have h1:cK.length=64:=rfl;have ag:=DU b;refine rounds_succ k h cK (gi b) _ _ ?_ ?_
 ·rw[aC2,aCM (by omega)]; rfl
 ·rw[aC2,aCM (by omega)]; rfl
theorem abI (h:cG) (b:List B) :np h b 64=rounds h cK (gi b) :=by
 have h1:cK.length=64:=rfl;have ag:=DU b;unfold np;rw[aCI (by omega),aCI (by omega)]
def jn (a b:List W) (k:Nat) :List W:=(List.zipWith (·+·) a b).take k++a.drop k
theorem NR (a b:List W) :jn a b 0=a:=rfl
theorem H5 {a b:List W} (h:a.length=b.length) (k:Nat) :(jn a b k).length=a.length:=by simp[jn]; omega
theorem NP {a b:List W} (h:a.length=b.length) {k:Nat} (hk:k<a.length) :(jn a b k)[k]? = a[k]?:=by
 unfold jn;rw[aCT (by simp; omega)];have:(List.take k (List.zipWith (·+·) a b)).length=k:=by simp; omega
 rw[this,aDh]; simp
theorem NQ {a b:List W} (h:a.length=b.length) {k:Nat} {x y:W} (al:a[k]? = some x) (aE:b[k]? = some y) :(jn a b k).set k (x+y)=jn a b (k+1) :=by
 have hk:=(aCJ.1 al).1;unfold jn;have ar:(List.take k (List.zipWith (·+·) a b)).length=k:=by simp; omega
 have az:(List.zipWith (·+·) a b)[k]? = some (x+y) :=by rw[List.getElem?_zipWith,al,aE]
 rw[aDu _ _ (by omega),ar,aEX,aDy hk,aEP,aC4,az];simp
set_option maxHeartbeats 8000000 in
theorem aj6 {h:cG} {b:List B} (ai:64<=b.length) {l:aw} {bk sz:Nat} {rest:List ad} {x:ad} {K:ad->aw->Prop} (ar:l[bk]? = some (.cells sz (h.l.map bR++rest))) (h6:8<=sz) (al:gH (cj l) x (da (some b)))
  (bA:∀ junk,K (.b5 []) (l.set bk (.cells sz ((grind h b).l.map bR++rest))++junk)) :dS Tryz.prog GS 258 [.ptr bk 0 sz,x] l (c:=⟨K⟩) :=by
 apply bw ag2 arK;unfold QK aaD;simp;refine i3 (aub b ai) (.cons al .nil) (SM bR (fun _=>rfl) _) ?_;have aI:=fW ar;have dI:=DU b;have gk:(l++[bp.cells 64 ((gi b).map bR)])[bk]? = some (.cells sz (h.l.map bR++rest)) :=by rw[aCK aI]; exact ar
 have aA:∀ i (y:W),i<8->h.l[i]? = some y->(h.l.map bR++rest)[i]? = some (bR y) :=fun i y aB aE=>by
  rw[aCK (by simpa [cG.l] using aB),aCO,aE]; rfl
 have gB:=aA 0 h.a (by omega) rfl;have q1:=aA 1 h.b (by omega) rfl;have fh:=aA 2 h.c (by omega) rfl;have ji:=aA 3 h.d (by omega) rfl;have G9:=aA 4 h.e (by omega) rfl;have DE:=aA 5 h.f (by omega) rfl;have AU:=aA 6 h.g (by omega) rfl;have Yz:=aA 7 h.h (by omega) rfl;simp[n2,dI,gk,gB,q1,fh,ji,G9,DE,AU,Yz];refine c2 64 (fun k ah l'=>ah 0=.ptr bk 0 sz/\ah 4=.ptr l.length 0 64/\ah 5=bR (np h b k).a/\ah 6=bR (np h b k).b/\ah 7=bR (np h b k).c/\ah 8=bR (np h b k).d/\ah 9=bR (np h b k).e/\ah 10=bR (np h b k).f/\ah 11=bR (np h b k).g/\ah 12=bR (np h b k).h/\ah 52=.int .i64 k ∧
  l'=l++[.cells 64 ((gi b).map bR)]) ?_ ?_
 ·rintro k ah l' hk ⟨cd,bL,bC,cv,eU,et,hB,gJ,hN,g1,S8,rfl⟩;obtain⟨ah,rfl⟩:=avy cd bL bC cv eU et hB gJ hN g1 S8;clear cd bL bC cv eU et hB gJ hN g1 S8;unfold WP;simp;by_cases fE:(k:Int)<64
  ·have fP:IntKind.i64.wrap ((k:Int)+1)=k+1:=wrap_i64 (by omega) (by omega);have iM:k<64:=by omega
   have aQ:=au4 k iM;have hv:(gi b)[k]? = some ((gi b).getD k 0#32) :=by rw[aC2,aCM (by omega)]; rfl
   rw[abJ h b k iM];generalize (gi b).getD k 0#32=lm at *
   generalize cK.getD k 0#32=nk at *
   generalize np h b k=s at *
   have kn:=XA s.e 6 11 25 (by omega) (by omega) (by omega);have ko:=XA s.a 2 13 22 (by omega) (by omega) (by omega);simp at kn ko;simp[fE,aQ,hv];refine a8 kn rfl ?_;simp[aQ,hv];refine a8 ko rfl ?_;simp[iM,fP];simp[round]
  ·have xR:k=64:=by omega
   subst xR;rw[abI];obtain⟨v,ay⟩:∃ v,rounds h cK (gi b)=v:=⟨_,rfl⟩
   rw[ay];have xN:grind h b=⟨h.a+v.a,h.b+v.b,h.c+v.c,h.d+v.d,h.e+v.e,h.f+v.f,h.g+v.g,h.h+v.h⟩:=by unfold grind; rw[ay]
   simp;have qb:h.l.length=v.l.length:=rfl;have ov:h.l.length=8:=rfl;have JU:(grind h b).l=jn h.l v.l 8:=by rw[xN]; rfl
   rw[JU] at bA;refine c2 8 (fun k ah l'=>ah 0=.ptr bk 0 sz/\ah 111=.aM (v.l.map bR)/\ah 112=.int .i64 k/\l'=l.set bk (.cells sz ((jn h.l v.l k).map bR++rest))++[.cells 64 ((gi b).map bR)]) ?_ ?_
   ·rintro k ah l' hk ⟨cd,S3,S4,rfl⟩;obtain⟨ah,rfl⟩:=jJ cd S3 S4;clear cd S3 S4;unfold WQ;simp;by_cases fE:(k:Int)<8
    ·have fP:IntKind.i64.wrap ((k:Int)+1)=k+1:=wrap_i64 (by omega) (by omega);have iL:k<8:=by omega
     obtain⟨y,aE⟩:∃ y,v.l[k]? = some y:=⟨_,aCM (show k<v.l.length from iL)⟩
     obtain⟨z,az⟩:∃ z,h.l[k]? = some z:=⟨_,aCM (show k<h.l.length from iL)⟩
     have aD:=NP qb (k:=k) (by rw[ov]; exact iL);rw[az] at aD;have om:=H5 qb k;have ap:=oG bR (jn h.l v.l k) k (z+y) (by rw[om,ov]; exact iL);rw[NQ qb az aE] at ap;have ht:((jn h.l v.l k).map bR).length=8:=by rw[aCZ,om,ov]
     have hx:bO ((jn h.l v.l k).map bR++rest) k [bR (z+y)]=(jn h.l v.l (k+1)).map bR++rest:=by
      rw[<-ap];unfold bO;rw[aDb (by omega),aDp (by simp; omega)];simp
     have nL:((jn h.l v.l k).map bR++rest)[k]? = some (bR z) :=by rw[aCK (by omega),aCO,aD]; rfl
     have Kc:(l.set bk (.cells sz ((jn h.l v.l k).map bR++rest))++[bp.cells 64 ((gi b).map bR)])[bk]? = some (.cells sz ((jn h.l v.l k).map bR++rest)) :=by
      rw[aCK (by simpa using aI),aEg]; simp[aI]
     have mA:k+1<=sz:=by omega
     simp[fE,aE,nL,Kc,fP,hx,iL,mA,aI,List.set_append]
    ·have iL:k=8:=by omega
     subst iL;simp;exact bA _
   ·have kD:l.set bk (.cells sz ((jn h.l v.l 0).map bR++rest))=l:=by
     rw[NR]; exact auh ar
    rw[kD];simp[cG.l]
 ·simp[abK]
abbrev nC (ls:dX fH) :ad:=c0 1 (fun s=>[da s]) ls
theorem RV (ls:dX fH) :(nC ls).closed=true:=ve (fun s=>by simp only[a7,mY,aEn]) ls
def bytesOf (ls:List fH) :List B:=(ls.map dX.l).flatten
theorem bytesOf_take (ls:List fH) (k:Nat) (s:fH) (h:ls[k]? = some s) :bytesOf (ls.take (k+1))=bytesOf (ls.take k)++s.l:=by
 unfold bytesOf;rw[aC4,h]; simp
theorem OD (ls:List fH) (k:Nat) :(bytesOf (ls.take k)).length<=(bytesOf ls).length:=by
 conv=>rhs; rw[<-aDt k ls]
 unfold bytesOf;rw[aDe,aDD,aCS];omega
theorem aka {n:Nat} (aI:n<=1000000000) {l:aw} {K:ad->aw->Prop} (bA:∀ v j l',bW 1 l' v j []->l.length<=l'.length->(∀ b,b<l.length->l'[b]? = l[b]?)->(cX v=decide (n=0))->K v l') :dS Tryz.prog GS 235 [.aK,.int .i64 n] l (c:=⟨K⟩) :=by
 apply bw Qr aal;unfold Ir Me;have h1:¬((n:Int)<0) :=by omega
 have hw:IntKind.i64.wrap (n:Int)=n:=wrap_i64 (by omega) (by omega);have KQ:IntKind.i64.wrap (0:Int)=0:=rfl;by_cases aG:n=0
 ·subst aG;simp;exact bA _ 0 _ (.nil 0) (aCL _) (fun _ _=>rfl) rfl
 have ag:(0:Int)<n:=by omega
 have az:r0 l 1 1 [.int .u8 0] .aK (.int .i64 n)=some (.av 1 l.length 0 n n (n*1),l++[.cells (n*1) (ey [.int .u8 0] n)]) :=by
  unfold r0 iW;simp only[aDf];have aC:c4=140737488355328:=rfl;rw[if_pos ⟨by omega,by omega,by rw[aC]; omega⟩,if_neg aG,if_neg (by omega),if_pos (by rw[aC]; omega)]
 have ap:g5 (.av 1) (.av 1 l.length 0 n n (n*1)) none (some (.int .i64 0)) none=some (.av 1 l.length 0 0 n (n*1)) :=by
  rw[yD,Ik,if_pos ⟨by omega,by omega⟩];simp[aG]
 rw[aEk] at az ap;have aq:0<n:=by omega
 simp[h1,ag,aq,hw,az,KQ,ap];refine bA _ l.length (l++[.cells n (ey [.int .u8 0] n)]) (.av _ 0 n n (ey [.int .u8 0] n) [] (by simp) (by rw[AW]; simp) rfl (by simp) (by omega) (by omega) rfl) (by simp) (fun b ai=>aCK ai) ?_;simp[cX,aG]
def y7 (ls:List fH) :fH:=if bytesOf ls=[] then none else some (bytesOf ls)
theorem aib (ls:List fH) :(y7 ls).l=bytesOf ls:=by unfold y7; split<;>simp_all
set_option maxHeartbeats 4000000 in
theorem aiz (ls:List fH) (ar:(bytesOf ls).length<=1000000000) (xV:ls.length<=1000000000) :pG Tryz.prog GS 194 [nC (some ls)] (da (y7 ls)) :=by
 refine DD Tryz.checked.mixed bP ?_;apply bw PY ZQ;unfold Ip Md;simp;have bZ:∀ (k:Nat) (s:fH),ls[k]? = some s->cC (.av 1) (nC (some ls)) (.int .i64 k)=some (.cm [da s] 0) :=fun k s ap=>by simp[nC,sI,ap]
 refine c2 ls.length (fun k ah l=>ah 0=nC (some ls)/\ah 9=nC (some ls)/\ah 10=.int .i64 ls.length/\ah 11=.int .i64 k/\ah 3=.int .i64 (bytesOf (ls.take k)).length/\l=[]) ?_ ?_
 ·rintro k ah l hk ⟨cd,hB,gJ,hN,bj,rfl⟩;obtain⟨ah,rfl⟩:=mR cd bj hB gJ hN;clear cd bj hB gJ hN;unfold Lt;simp;by_cases h:k<ls.length
  ·obtain⟨s,ap,_⟩:=bV h;have ai:=bytesOf_take ls k s ap;have eD:=OD ls (k+1);rw[ai,aCS] at eD;have hw:IntKind.i64.wrap (((bytesOf (ls.take k)).length:Int)+s.l.length)=((bytesOf (ls.take k)).length:Int)+s.l.length:=wrap_i64 (by omega) (by omega);have fP:IntKind.i64.wrap ((k:Int)+1)=k+1:=wrap_i64 (by omega) (by omega);have qd:¬(((bytesOf (ls.take k)).length:Int)+s.l.length<0) :=by omega
   simp[h,bZ k s ap,hw,qd,fP,ai]
  ·have dt:k=ls.length:=by omega
   subst dt;simp;refine aka ar ?_;intro v j l ax bu _ ij;simp;refine c2 ls.length (fun k ah l=>ah 25=nC (some ls)/\ah 26=.int .i64 ls.length/\ah 27=.int .i64 k/\∃ v j,ah 6=v/\bW 1 l v j ((bytesOf (ls.take k)).map cu)/\cX v=decide (bytesOf ls=[])) ?_ ?_
   ·rintro k ah l hk ⟨tH,tI,zq,v,j,cv,ax,ij⟩;obtain⟨ah,rfl⟩:=hW cv tH tI zq;clear cv tH tI zq;unfold Lu;simp;by_cases h:k<ls.length
    ·obtain⟨s,ap,_⟩:=bV h;have ai:=bytesOf_take ls k s ap;have eD:=OD ls (k+1);rw[ai,aCS] at eD;have fP:IntKind.i64.wrap ((k:Int)+1)=k+1:=wrap_i64 (by omega) (by omega);have aC:c4=140737488355328:=rfl;obtain⟨bl,cx,l',h1,ag,aq,aH,bd,bM⟩:=oR (by_:=1) ax (x:=da s) (xs:=s.l.map cu) (by simp[da]) (fun e au=>by obtain⟨x,_,rfl⟩:=aC9.1 au; rfl) (by omega) (by omega) (by simp; omega);simp[h,bZ k s ap,h1];refine dx.c6 ?_;simp[h,fP];refine⟨⟨cx,by rw[ai,aDe]; exact ag⟩,?_⟩;rw[ui bM,ij];by_cases au:bytesOf ls=[]
     ·have aG:(bytesOf ls).length=0:=by rw[au]; rfl
      have:s.l=[] :=aDk.1 (by omega);simp[au,this]
     ·simp[au]
    ·have dt:k=ls.length:=by omega
     subst dt;simp;rw[aDi] at ax;refine ax.DN (fun _=>rfl) _ ?_ (aib ls);rw[ij];unfold y7;split<;>simp_all
   ·simp;refine⟨⟨j,by simpa [bytesOf] using ax⟩,?_⟩;rw[ij];simp[aDk]
 ·simp[bytesOf]
theorem aim (s:dX B) :gu Tryz.prog .eql 136 (c0 1 cu s) .aK=some (.bool s.isNone) :=Es (e:=5) (by kernel_rfl) 1 cu s
theorem ain {s:dX B} (ap:s.l.length<=1000000000) {l:aw} {K:ad->aw->Prop} (bA:∀ v j l',bW 1 l' v j (s.l.map cu)->l.length<=l'.length->(∀ b,b<l.length->l'[b]? = l[b]?)->(v=.aK\/l.length<=j)->cX v=s.isNone->K v l') :dS Tryz.prog GS 259 [c0 1 cu s] l (c:=⟨K⟩) :=by
 apply bw ag3 arL;unfold QL aaE;simp[aim];cases s with
 | none=>
  simp;exact bA _ 0 _ (.nil 0) (aCL _) (fun _ _=>rfl) (.inl rfl) rfl
 | some b=>
  simp;have aC:c4=140737488355328:=rfl;have vK:b.length<=1000000000:=ap;have ax:bW 1 (l++[bp.cells 0 []]) (.av 1 l.length 0 0 0 0) l.length [] :=.av l.length 0 0 0 [] [] (by simp) rfl rfl (by simp) (aCL _) (by omega) rfl;obtain⟨bl,cx,l',h1,ag,aq,aH,bd,bM⟩:=oR (by_:=1) ax (x:=c0 1 cu (some b)) (xs:=b.map cu) (by simp) (fun e au=>by obtain⟨x,_,rfl⟩:=aC9.1 au; rfl) (by omega) (by omega) (by simp; omega);simp[h1];refine dx.c6 ?_;simp;have mu:l.length+1<=l'.length:=by simpa using aq
  refine bA _ cx _ ag (by omega) (fun b ai=>?_) (.inr (by rcases bd with h | h<;>(try simp only[aCS,aC6,aDx] at h)<;>omega)) ?_
  ·rw[aH b (by simp; omega) (by omega),aCK ai]
  ·rw[ui bM]; rfl
structure th where
 st:cG
 rest:fH
 n:Int
def hi (s:cG) (r:ad) (n:Int) :List ad:=s.l.map bR++[r,.int .i64 n]
def q0 (m:th) :ad:=.aM (hi m.st (da m.rest) m.n)
def tB (m:th) (b:fH) :th:=
 let all:=m.rest.l++b.l
 ⟨(hZ m.st all).1,if all=[] then none else some (hZ m.st all).2,m.n+b.l.length⟩
theorem aic (a b:fH) :y7 [a,b]=if a.l++b.l=[] then none else some (a.l++b.l) :=by
 have:bytesOf [a,b]=a.l++b.l:=by simp[bytesOf]
 unfold y7;rw[this]
theorem aj7 (h:cG) (b:List B) :grind h (b.take 64)=grind h b:=by unfold grind; rw[aua b 64 (by omega)]
theorem v6 (s:cG) (r:ad) (n:Int) :(hi s r n).length=10:=rfl
set_option maxHeartbeats 8000000 in
theorem Sz (m:th) (b:fH) (ar:m.rest.l.length+b.l.length<=1000000000) (aI:0<=m.n) (qc:m.n<=1000000000) :pG Tryz.prog GS 239 [q0 m,da b] (q0 (tB m b)) :=by
 refine DD Tryz.checked.mixed bP ?_;apply bw agN arv;unfold Qv aap;have ak:(ad.aM (hi m.st (da m.rest) m.n)).cells=some (hi m.st (da m.rest) m.n) :=rfl;have fl:(hi m.st (da m.rest) m.n)[8]? = some (da m.rest) :=rfl;have TU:=aiz [m.rest,b] (by simp[bytesOf]; exact ar) (by simp);rw[aic] at TU;simp[q0,v6,fl];refine Yu TU (.cons ?_ .nil) ?_
 ·exact DL (es:=[[da m.rest],[da b]]) (rest:=[]) rfl rfl (by simp) (by simp[a7,mY])
 obtain⟨all,fS⟩:∃ all,all=m.rest.l++b.l:=⟨_,rfl⟩
 have om:all.length<=1000000000:=by rw[fS]; simpa using ar
 rw[<-fS];simp;refine c2 (all.length / 64) (fun k ah l=>ah 1=da b/\ah 2=.ptr 0 0 10/\ah 4=.ptr 1 0 10/\∃ h s hI junk,ah 5=da s/\l=.cells 10 (hi h (da m.rest) m.n) ::.cells 10 hI::junk/\hZ m.st all=hZ h s.l/\s.l.length=all.length - 64*k/\hI.length=10/\s.isNone=decide (all=[])) ?_ ?_
 ·rintro k ah l hk ⟨aW,bg,bL,h,s,hI,junk,bC,rfl,fo,eB,rp,UO⟩;obtain⟨ah,rfl⟩:=hW aW bg bL bC;clear aW bg bL bC;unfold WF;have bu:c1 (.av 1) (da s)=some (.int .i64 s.l.length) :=rr _;simp[bu];by_cases B4:(64:Int)<=s.l.length
  ·cases s with
   | none=>simp at B4
   | some iG=>
   have akd:(64:Int)<=iG.length:=B4;have Tp:64<=iG.length:=by omega
   simp[akd];refine aj6 (h:=h) (b:=iG) Tp (l:=.cells 10 (hi h (da m.rest) m.n) ::.cells 10 hI::junk) (bk:=0) (sz:=10) (rest:=[da m.rest,.int .i64 m.n]) rfl (by omega) (abS (mY _)) (fun azA=>?_);have dI:g5 (.av 1) (da (some iG)) (some (.int .i64 64)) none none=some (da (some (iG.drop 64))) :=by
    unfold da; rw[aup (by omega) (by omega)]; rfl
   simp[dI];have ayL:iG.length=all.length - 64*k:=eB;refine⟨by omega,grind h iG,some (iG.drop 64),rfl,hI,⟨rfl,rfl⟩,?_,?_,rp,?_⟩
   ·rw[fo];show hZ h iG=_;rw[Br h iG Tp,aj7]; rfl
   ·simp; omega
   ·exact UO
  ·have aP:s.l.length<64:=by omega
   have hw:IntKind.i64.wrap (m.n+(b.l.length:Int))=m.n+b.l.length:=wrap_i64 (by omega) (by omega);have fC:(hi h (da m.rest) m.n)[9]? = some (.int .i64 m.n) :=rfl;have iX:c1 (.av 1) (da b)=some (.int .i64 b.l.length) :=rr _;simp[B4,fC,iX,hw];refine ain (by omega) ?_;intro v j l ax gW gk am ij;obtain⟨l',rfl⟩:∃ l',l=.cells 10 (hi h (da m.rest) m.n) ::.cells 10 hI::l':=by
    have ih:=gk 0 (by simp);have a2:=gk 1 (by simp);cases l with
    | nil=>simp at ih
    | cons a l=>cases l with
     | nil=>simp at a2
     | cons c l=>simp at ih a2; subst ih a2; exact⟨l,rfl⟩
   have amO:∀ r n hE,bO (hi h r n) 9 [.int .i64 hE]=hi h r hE:=fun _ _ _=>rfl
   have amN:∀ r n dU,bO (hi h r n) 8 [dU]=hi h dU n:=fun _ _ _=>rfl
   have ay:=ax.cells;simp[fC,amO,amN,ay,v6,rp,n2];have hC:∀ r n,List.take 10 (hi h r n)=hi h r n:=fun _ _=>rfl
   rw[hC,hC];have su:tB m b=⟨h,if all=[] then none else some s.l,m.n+b.l.length⟩:=by
    unfold tB;rw[<-fS]
    dsimp only
    rw[fo,Ev h s.l aP]
   rw[su];have nf:=(ax.nF (l':=.cells 10 (hi h v (m.n+(b.l.length:Int))) ::.cells 10 (hi h v (m.n+(b.l.length:Int))) ::l') (by
    rcases am with am | am
    ·exact .inl am
    ·obtain⟨q,rfl⟩:∃ q,j=q+2:=⟨j - 2,by simp at am; omega⟩
     exact .inr rfl)).DN (fun _=>rfl) (if all=[] then none else some s.l) (by
     rw[ij,UO]; split<;>simp_all) (by
     split
     ·rename_i au; rw[au] at eB; simp at eB; rw[eB]; rfl
     ·rfl)
   refine .aM _ _ rfl fun i c c' sq m4=>?_
   rcases i with _ | _ | _ | _ | _ | _ | _ | _ | _ | _ | i<;>simp[hi,cG.l] at sq m4
   all_goals subst sq m4
   all_goals first | exact nf | exact .flat _ rfl
 ·simp;exact⟨m.st,(if all=[] then none else some all),rfl,⟨[.int .u32 0,.int .u32 0,.int .u32 0,.int .u32 0,.int .u32 0,.int .u32 0,.int .u32 0,.int .u32 0,.aK,.int .i64 0],⟨rfl,rfl⟩,by split<;>simp_all,by split<;>simp_all,rfl,by split<;>simp_all⟩⟩
def fL (b:List B) :ad:=.aM (b.map bQ)
def n4 (n k:Nat) :List B:=128#8::List.replicate ((119 - n % 64) % 64) 0#8++(Bt (BitVec.ofNat 64 n*8#64)).take k
theorem MY (n:Nat) :n4 n 8=tail n:=rfl
theorem acO (n k:Nat) (x:B) (al:(Bt (BitVec.ofNat 64 n*8#64))[k]? = some x) :n4 n (k+1)=n4 n k++[x] :=by
 unfold n4;rw[aC4,al]; simp
theorem Hw (n k:Nat) :(n4 n k).length<=80:=by
 unfold n4;have:(Bt (BitVec.ofNat 64 n*8#64)).length=8:=rfl;simp; omega
theorem Oz (q:BitVec 64) (k:Nat) (hk:k<8) :(Bt q)[k]? = some ((q >>> (56 - 8*k)).setWidth 8) :=by
 match k,hk with
 | 0,_=>rfl
 | 1,_=>rfl
 | 2,_=>rfl
 | 3,_=>rfl
 | 4,_=>rfl
 | 5,_=>rfl
 | 6,_=>rfl
 | 7,_=>rfl
def qB (s:List W) (k:Nat) :List B:=((s.take k).map uN).flatten++List.replicate (32 - 4*k) 0#8
theorem adg (s:List W) :(s.map uN).flatten.length=4*s.length:=by
 induction s with
 | nil=>rfl
 | cons w s aY=>simp[aY,uN]; omega
theorem apa (s:List W) (k:Nat) (hk:k<=s.length) (ap:s.length=8) :(qB s k).length=32:=by
 unfold qB;rw[aCS,adg];simp; omega
theorem apb (s:List W) (k:Nat) (w:W) (hk:s[k]? = some w) (ap:s.length=8) :
  ((((qB s k).set (4*k) ((w >>> 24).setWidth 8)).set (4*k+1) ((w >>> 16).setWidth 8)).set (4*k+2) ((w >>> 8).setWidth 8)).set (4*k+3) (w.setWidth 8)=qB s (k+1) :=by
 have iL:=(aCJ.1 hk).1;unfold qB;rw[aC4,hk];have c9:((s.take k).map uN).flatten.length=4*k:=by rw[adg]; simp; omega
 obtain⟨A,xp⟩:∃ A,A=((s.take k).map uN).flatten:=⟨_,rfl⟩
 rw[<-xp] at c9 ⊢;have aC:32 - 4*k=(32 - 4*(k+1))+1+1+1+1:=by omega
 rw[aC,aDW,aDW,aDW,aDW];rw[aDu _ _ (by omega),aDu _ _ (by omega),aDu _ _ (by omega),aDu _ _ (by omega)];simp only[c9,aEX,Nat.add_sub_cancel_left,aEP,aFF,aDe,aDD,<-xp];simp[uN]
def EO (s:cG) (r:fH) (n:Nat) :List B:=written (hZ s (r.l++tail n)).1
set_option maxHeartbeats 8000000 in
theorem ai6 (s:cG) (r:fH) (n:Nat) (aC:r.l.length<=100000000) (aI:n<=100000000) :bE Tryz.prog GS 240 [q0 ⟨s,r,n⟩] (fL (EO s r n)) :=by
 refine bS Tryz.checked.mixed bP ?_;apply bw agP arx;unfold Qx aaq;have fC:(hi s (da r) n)[9]? = some (.int .i64 n) :=rfl;have ak:(ad.aM (hi s (da r) n)).cells=some (hi s (da r) n) :=rfl;have rl:=Ew n 64 (by omega);obtain⟨q,bD⟩:∃ q,q=n % 64:=⟨_,rfl⟩
 rw[show ((64:Int).toNat)=64 from rfl,<-bD] at rl;have aze:q<64:=by rw[bD]; exact aES _ (by omega)
 have kh:IntKind.i64.wrap (119 - (q:Int))=(119 - q:Nat) :=by rw[wrap_i64 (by omega) (by omega)]; omega
 have F2:=Ew (119 - q) 64 (by omega);rw[show ((64:Int).toNat)=64 from rfl] at F2;obtain⟨m,hm⟩:∃ m,m=(119 - q) % 64:=⟨_,rfl⟩
 rw[<-hm] at F2;have ay3:m<64:=by rw[hm]; exact aES _ (by omega)
 obtain⟨t,aQ⟩:∃ t,t=119 - q:=⟨_,rfl⟩
 rw[<-aQ] at kh F2;have l3:c4=140737488355328:=rfl;obtain⟨L,e0⟩:∃ L:aw,L=[bp.cells 10 (hi s (da r) n),bp.cells 32 (rep 32 (ad.int IntKind.u8 0)),bp.cells 1 [ad.int IntKind.u8 128]] :=⟨_,rfl⟩
 have aks:L[0]? = some (bp.cells 10 (hi s (da r) n)) :=by rw[e0]; rfl
 have akt:L[1]? = some (bp.cells 32 (rep 32 (ad.int IntKind.u8 0))) :=by rw[e0]; rfl
 have m3:L.length=3:=by rw[e0]; rfl
 have amg:bW 1 L (.av 1 2 0 1 1 1) 2 [[ad.int IntKind.u8 128]] :=by
  rw[e0];exact .av 2 1 1 1 [.int .u8 128] _ rfl rfl rfl (by simp) (aCL _) (aCL _) rfl
 have al1:m<9223372036854775808:=by omega
 have eb:(List.length [[ad.int IntKind.u8 128]]+m)*1<=c4:=by rw[l3]; simp; omega
 have alV:=aep (n:=m) (k:=.i64) (by_:=1) (zero:=[.int .u8 0]) amg rfl (by omega) (by omega) al1 eb;obtain⟨v,j,l,h1,ax,aq,aH,bd,bM⟩:=alV;have ay:cX v=false:=by
  rw[Bool.eq_false_iff]; intro aR;rw[jB,bM] at aR;cases aR.1
 have aS:u 128#8=128:=by decide
 have au:([[ad.int IntKind.u8 128]]++List.replicate m [ad.int IntKind.u8 0] :List (List ad))=(n4 n 0).map cu:=by
  have:m=(119 - n % 64) % 64:=by rw[hm,bD]
  unfold n4;rw[<-this];simp[cu,aS]
 rw[au] at ax;have ih:=(aH 0 (by omega) (by omega)).trans aks;have a2:=(aH 1 (by omega) (by omega)).trans akt;have jX:2<=j:=by rcases bd with h | h<;>omega
 simp[q0,v6,fC,rl,kh,F2];rw[<-e0];simp[h1];refine c2 8 (fun k ah l=>ah 1=.ptr 0 0 10/\ah 2=.ptr 1 0 32/\ah 3=dm (BitVec.ofNat 64 n*8#64)/\ah 5=.int .i64 (56 - 8*(k:Int))/\∃ v j,ah 4=v/\2<=j/\cX v=false/\bW 1 l v j ((n4 n k).map cu)/\l[0]? = some (bp.cells 10 (hi s (da r) n))/\l[1]? = some (bp.cells 32 (rep 32 (ad.int IntKind.u8 0)))) ?_ ?_
 ·rintro k ah l hk ⟨aW,bg,bj,bC,v,j,bL,am,ay,ax,ih,a2⟩;obtain⟨ah,rfl⟩:=mR aW bg bj bL bC;clear aW bg bj bL bC;unfold WG;obtain⟨c,ak⟩:∃ c:Int,c=56 - 8*(k:Int) :=⟨_,rfl⟩
  rw[<-ak];simp;by_cases iL:0<=c
  ·have zT:k<8:=by omega
   have al:=Oz (BitVec.ofNat 64 n*8#64) k zT;have p2:c.toNat=56 - 8*k:=by omega
   have Ah:IntKind.i64.wrap (c - 8)=56 - 8*((k:Int)+1) :=by rw[wrap_i64 (by omega) (by omega)]; omega
   have k3:=Hw n k;have kZ:bW 1 (l++[bp.cells 1 [bQ (((BitVec.ofNat 64 n*8#64) >>> (56 - 8*k)).setWidth 8)]]) v j ((n4 n k).map cu) :=ax.more _;obtain⟨bl,cx,l',h1,ag,aq,aH,bd,bM⟩:=oR (by_:=1) kZ (x:=.av 1 l.length 0 1 1 1) (xs:=[[bQ (((BitVec.ofNat 64 n*8#64) >>> (56 - 8*k)).setWidth 8)]]) (by simp[dL]) (by simp) (by omega) (by omega) (by simp; omega);have eW:j<l.length:=by
    rcases ax.lt with h | h
    ·subst h; simp[cX] at ay
    ·exact h
   have ai0:l'[0]? = some (bp.cells 10 (hi s (da r) n)) :=by rw[aH 0 (by simp) (by omega),aCK (fW ih)]; exact ih
   have IF:l'[1]? = some (bp.cells 32 (rep 32 (ad.int IntKind.u8 0))) :=by
    have:=fW a2;rw[aH 1 (by simp; omega) (by omega),aCK (fW a2)]; exact a2
   have gE:cX bl=false:=by rw[ui bM,ay]; rfl
   have fp:2<=cx:=by
    rcases bd with h | h
    ·omega
    ·have h:=aD2 (show l.length<=(l++[bp.cells 1 [bQ (((BitVec.ofNat 64 n*8#64) >>> (56 - 8*k)).setWidth 8)]]).length by simp) h;omega
   simp[iL,p2,h1];refine dx.c6 ?_;simp[iL,Ah];exact⟨by omega,cx,fp,gE,by rw[acO n k _ al,aDe]; exact ag,ai0,IF⟩
  ·have tT:k=8:=by omega
   subst tT;rw[MY] at ax;have zO:=Sz ⟨s,r,n⟩ (some (tail n)) (by have:=Hw n 8; rw[MY] at this; simp; omega) (by simp) (by simp; omega);have al:=ax.mO (fun _=>rfl) (some (tail n)) (by rw[ay]; rfl) rfl;have Ub:(tB ⟨s,r,n⟩ (some (tail n))).st=(hZ s (r.l++tail n)).1:=rfl;obtain⟨F,nH⟩:∃ F,F=tB ⟨s,r,n⟩ (some (tail n)) :=⟨_,rfl⟩
   rw[<-nH] at zO Ub;have zU:a7 [q0 ⟨s,r,n⟩]=true:=by simp[a7,q0,ad.closed,hi,cG.l,mY]
   have alo:BR 8 0 (q0 F)=some (.aM (F.st.l.map bR)) :=rfl;have ov:F.st.l.length=8:=rfl;simp[iL,ih,v6];refine Yu zO (.cons (abS ?_) (.cons al .nil)) ?_
   ·show (ad.aM (hi s (da r) n)).closed=true;simp[ad.closed,a7,hi,cG.l,mY]
   simp[alo];refine c2 8 (fun k ah l=>ah 2=.ptr 1 0 32/\ah 33=.aM (F.st.l.map bR)/\ah 34=.int .i64 k/\l[1]? = some (bp.cells 32 ((qB F.st.l k).map bQ))) ?_ ?_
   ·rintro k ah l hk ⟨bg,S6,S7,a2⟩;obtain⟨ah,rfl⟩:=jJ bg S6 S7;clear bg S6 S7;obtain⟨Bc,cf,rfl⟩:=avi a2;clear a2;unfold WH;simp;by_cases iL:(k:Int)<8
    ·have fE:k<8:=by omega
     obtain⟨w,hw⟩:∃ w,F.st.l[k]? = some w:=⟨_,aCM (show k<F.st.l.length from fE)⟩
     have cH:=apa F.st.l k (by omega) ov;have qg:=apb F.st.l k w hw ov;have oJ:IntKind.i64.wrap (4*(k:Int))=(4*k:Nat) :=by rw[wrap_i64 (by omega) (by omega)]; omega
     have cb:IntKind.i64.wrap (((4*k:Nat) :Int)+1)=(4*k+1:Nat) :=by rw[wrap_i64 (by omega) (by omega)]; omega
     have w2:IntKind.i64.wrap (((4*k:Nat) :Int)+2)=(4*k+2:Nat) :=by rw[wrap_i64 (by omega) (by omega)]; omega
     have eF:IntKind.i64.wrap (((4*k:Nat) :Int)+3)=(4*k+3:Nat) :=by rw[wrap_i64 (by omega) (by omega)]; omega
     have lm:IntKind.i64.wrap ((k:Int)+1)=k+1:=wrap_i64 (by omega) (by omega);obtain⟨a,aD⟩:∃ a,a=4*k:=⟨_,rfl⟩
     rw[<-aD] at oJ cb w2 eF qg;have s0:=oG bQ (qB F.st.l k) a ((w >>> 24).setWidth 8) (by omega);have hF:=oG bQ ((qB F.st.l k).set a ((w >>> 24).setWidth 8)) (a+1) ((w >>> 16).setWidth 8) (by simp; omega);have jG:=oG bQ (((qB F.st.l k).set a ((w >>> 24).setWidth 8)).set (a+1) ((w >>> 16).setWidth 8)) (a+2) ((w >>> 8).setWidth 8) (by simp; omega);have wv:=oG bQ ((((qB F.st.l k).set a ((w >>> 24).setWidth 8)).set (a+1) ((w >>> 16).setWidth 8)).set (a+2) ((w >>> 8).setWidth 8)) (a+3) (w.setWidth 8) (by simp; omega);rw[qg] at wv;have hL:(a:Int)<32:=by omega
     have dE:((a+1:Nat) :Int)<32:=by omega
     have dA:((a+2:Nat) :Int)<32:=by omega
     have iD:((a+3:Nat) :Int)<32:=by omega
     have wY:a+1<=32:=by omega
     have cT:a+1+1<=32:=by omega
     have dF:a+2+1<=32:=by omega
     have kS:a+3+1<=32:=by omega
     have d1:(a:Int)+1<32:=by omega
     have d2:(a:Int)+2<32:=by omega
     have d3:(a:Int)+3<32:=by omega
     have f1:((a:Int)+1).toNat=a+1:=by omega
     have f2:((a:Int)+2).toNat=a+2:=by omega
     have f3:((a:Int)+3).toNat=a+3:=by omega
     have rC:(0:Int)<=(a:Int)+1:=by omega
     have mJ:(0:Int)<=(a:Int)+2:=by omega
     have qz:(0:Int)<=(a:Int)+3:=by omega
     simp[iL,fE,hw,oJ,cb,w2,eF,lm,hL,s0,hF,jG,wv,wY,cT,dF,kS,d1,d2,d3,f1,f2,f3,rC,mJ,qz,-List.map_set]
    ·have tT:k=8:=by omega
     subst tT;have ami:qB F.st.l 8=written F.st:=by simp[qB,written,cG.l]
     rw[ami];have Ai:(written F.st).length=32:=rfl;simp[Ai,n2,aCI];exact aJ (by unfold fL EO; rw[Ub]) (RW bQ (fun _=>rfl) _)
   ·simp[a2];rw[ab4 .u8 8]; rfl
 ·simp;exact⟨j,jX,ay,ax,ih,a2⟩
structure yV (m:th) (b:List B) :Prop where
 Ih:hZ first b=(m.st,m.rest.l)
 n:m.n=b.length
theorem anF {m:th} {b:List B} (h:yV m b) (s:fH) :yV (tB m s) (b++s.l) :=by
 have h1:hZ first (b++s.l)=hZ m.st (m.rest.l++s.l) :=by rw[Ou,h.Ih]
 refine⟨?_,?_⟩
 ·rw[h1];unfold tB
  dsimp only
  split
  ·rename_i au;rw[au]; rfl
  ·rfl
 ·unfold tB
  dsimp only
  rw[h.n]; simp
theorem anG {m:th} {b:List B} (h:yV m b) :m.rest.l.length<64:=by
 have:=aeJ first b
 rw[h.Ih] at this;simp only at this;rw[this]; exact aES _ (by omega)
theorem anE {m:th} {b:List B} (h:yV m b) :EO m.st m.rest b.length=iR b:=by
 unfold EO iR;rw[Ou first b,h.Ih]
def start:th:=⟨first,none,0⟩
theorem anH:yV start [] :=⟨rfl,rfl⟩
theorem auN:pG Tryz.prog GS 238 [] (q0 start) :=by
 refine DD Tryz.checked.mixed bP ?_;apply bw agM aru;unfold Qu aao;simp;exact .flat _ rfl
def sK (s:fH) :Bool:=decide ((10000:Int)<s.l.length)
theorem aoq (s:fH) :bE Tryz.prog GS 237 [da s] (.bool (sK s)) :=by
 refine bS Tryz.checked.mixed bP ?_;apply bw agL art;unfold Qt aan;simp[da];exact aJ rfl rfl
theorem ajH:js Tryz.prog 237=true:=by kernel_rfl
def idx (l:List fH) :Int:=match l.findIdx? sK with | some i=>(i:Int) | none=>-1
theorem anb {l:List fH} {k:Nat} {s:fH} (ap:l[k]? = some s) (ar:sK s=true) (fT:∀ j s,j<k->l[j]? = some s->sK s=false) :idx l=k:=by
 have:l.findIdx? sK=some k:=by
  rw[List.findIdx?_eq_some_iff_getElem];obtain⟨h1,rfl⟩:=aCJ.1 ap;refine⟨h1,ar,fun j am=>?_⟩;rw[fT j l[j] am (aCM (by omega))]; simp
 unfold idx; rw[this]
theorem Vv {l:List fH} (fT:∀ j s,j<l.length->l[j]? = some s->sK s=false) :idx l=-1:=by
 have:l.findIdx? sK=none:=by
  rw[List.findIdx?_eq_none_iff];intro x al;obtain⟨j,am⟩:=aCY.1 al;exact fT j x (aCJ.1 am).1 am
 unfold idx; rw[this]
theorem K2 (ls:dX fH) (ar:ls.l.length<=1000000000) :bE Tryz.prog GS 257 [nC ls,.fn 237 [] []] (.int .i64 (idx ls.l)) :=by
 refine bS Tryz.checked.mixed bP ?_;apply bw ag1 arJ;unfold QJ aaC;have bu:c1 (.av 1) (nC ls)=some (.int .i64 ls.l.length) :=rr _;simp[bu];refine c2 ls.l.length (fun k ah l=>ah 0=nC ls/\ah 1=.fn 237 [] []/\ah 7=.int .i64 ls.l.length/\ah 8=.int .i64 k/\∀ j s,j<k->ls.l[j]? = some s->sK s=false) ?_ (by simp);rintro k ah l hk ⟨cd,aW,eU,et,fT⟩;obtain⟨ah,rfl⟩:=hW cd aW eU et;clear cd aW eU et;unfold WO;simp;by_cases h:k<ls.l.length
 ·obtain⟨s,ap,_⟩:=bV h;have bZ:cC (.av 1) (nC ls) (.int .i64 k)=some (.cm [da s] 0) :=by
   rw[sI]; simp[ap]
  have fP:IntKind.i64.wrap ((k:Int)+1)=k+1:=wrap_i64 (by omega) (by omega);simp[h,bZ];refine⟨ajH,a8 (aoq s) (by simp[a7,mY]) ?_⟩;cases UE:sK s with
  | true=>
   simp;rw[anb ap UE fT];exact aJ rfl rfl
  | false=>
   simp[h,fP];intro j Hn am vK;rcases aDK j k with h1 | h1
   ·exact fT j Hn h1 vK
   ·have:j=k:=by omega
    subst this;rw[ap] at vK; cases vK; exact UE
 ·simp[h];rw[Vv (fun j s am ap=>fT j s (by omega) ap)];exact aJ rfl rfl
theorem aiB (ls:dX fH) (ar:ls.l.length<=1000000000) :bE Tryz.prog GS 236 [nC ls,.fn 237 [] []] (.bool (decide (0<=idx ls.l))) :=by
 refine bS Tryz.checked.mixed bP ?_;apply bw agK ars;unfold Qs aam;simp;refine a8 (K2 ls ar) (by simp[a7,ad.closed,RV]) ?_;simp;exact aJ rfl rfl
set_option maxHeartbeats 4000000 in
theorem Yf (ls:List fH) (ayp:ls.length<=20) (fT:∀ s∈ls,s.l.length<=10000) :bE Tryz.prog GS 196 [nC (some ls)] (.b5 [fL (iR (bytesOf ls)),.int .i64 0]) :=by
 have vB:idx ls=-1:=Vv fun j s am ap=>by
  have:=fT s (aCP ap);unfold sK; simp; omega
 have bu:∀ k,(bytesOf (ls.take k)).length<=200000:=fun k=>by
  have:∀ l:List fH,(∀ s∈l,s.l.length<=10000)->(bytesOf l).length<=10000*l.length:=by
   intro l
   induction l with
   | nil=>intro _; simp[bytesOf]
   | cons s l aY=>
    intro h;have h1:=aY fun x al=>h x (by simp[al])
    have ag:=h s (by simp);unfold bytesOf at h1 ⊢;rw[aDc,aDM,aCS,aC6];omega
  have h1:=this (ls.take k) fun s ap=>fT s (aDs ap)
  have ag:(ls.take k).length<=20:=by simp; omega
  omega
 refine bS Tryz.checked.mixed bP ?_;apply bw agj aqY;unfold P0 ZS;have akb:¬(20:Int)<ls.length:=by omega
 have TZ:=aiB (some ls) (by simp; omega);rw[dX.Gt,vB] at TZ;simp[akb];refine a8 TZ (by simp[a7,ad.closed,RV]) ?_;simp;refine a8 auN.Hz rfl ?_;simp[q0,v6,n2];refine c2 ls.length (fun k ah l=>ah 2=.ptr 0 0 32/\ah 4=.ptr 1 0 10/\ah 16=nC (some ls)/\ah 17=.int .i64 ls.length/\ah 18=.int .i64 k/\∃ m,yV m (bytesOf (ls.take k))/\l=[.cells 32 (rep 32 (.int .u8 0)),.cells 10 (hi m.st (da m.rest) m.n)]) ?_ ?_
 ·rintro k ah l hk ⟨bg,bL,sh,tD,tE,m,hm,rfl⟩;obtain⟨ah,rfl⟩:=mR bg bL sh tD tE;clear bg bL sh tD tE;unfold Ww;simp;have hs:(ad.aM (hi m.st (da m.rest) m.n)).closed=true:=by simp[ad.closed,a7,hi,cG.l,mY]
  have hC:List.take 10 (hi m.st (da m.rest) m.n)=hi m.st (da m.rest) m.n:=rfl;have mC:=anG hm;have pe:=hm.n;have ow:=bu k;by_cases h:k<ls.length
  ·obtain⟨s,ap,jZ⟩:=bV h;have bZ:cC (.av 1) (nC (some ls)) (.int .i64 k)=some (.cm [da s] 0) :=by
    rw[sI]; simp[ap]
   have fP:IntKind.i64.wrap ((k:Int)+1)=k+1:=wrap_i64 (by omega) (by omega);have h1:=fT s jZ;have aL:=Sz m s (by omega) (by omega) (by omega);have lG:=anF hm s;rw[<-bytesOf_take ls k s ap] at lG;obtain⟨F,nH⟩:∃ F,F=tB m s:=⟨_,rfl⟩
   rw[<-nH] at aL lG;simp[h,bZ,v6,hC];refine a8 aL.Hz ?_ ?_
   ·simp only[a7,hs,mY,aEn]
   simp[q0,v6,n2,h,fP];exact⟨F,lG,rfl⟩
  ·have dt:k=ls.length:=by omega
   subst dt;rw[aDi] at hm pe ow;have au:=ai6 m.st m.rest (bytesOf ls).length (by omega) (by omega);rw[anE hm] at au;have jf:m=⟨m.st,m.rest,((bytesOf ls).length:Int)⟩:=by rw[<-pe]
   rw[<-jf] at au;have dI:=uH (bytesOf ls);simp[h,v6,hC];refine a8 au ?_ ?_
   ·simp only[a7,hs,aEn]
   have dZ:((iR (bytesOf ls)).map bQ).length=32:=by rw[aCZ,dI]
   simp[fL,dI,n2,aCI];exact aJ rfl (by simp[ad.closed,a7,lr bQ (fun _=>rfl)])
 ·simp[bytesOf];exact⟨start,anH,rfl⟩
theorem auX (s:fH) (h:s.l.length<=10000) :bE Tryz.prog GS 145 [da s] (.b5 [fL (iR s.l),.int .i64 0]) :=by
 have ai:bytesOf [s]=s.l:=by simp[bytesOf]
 have aF:=Yf [s] (by simp) (by simpa using h);rw[ai] at aF;refine bS Tryz.checked.mixed bP ?_;apply bw afG aqm;unfold Pp Zi;have dI:=uH s.l;simp;refine i3 aF (.cons ?_ .nil) (by simp[ad.flat,mn,fL,zl bQ (fun _=>rfl)]) ?_
 ·exact DL (es:=[[da s]]) (rest:=[]) rfl rfl (by simp) (by simp[a7,mY])
 simp[fL,dI,n2,aCI];exact aJ rfl (by simp[ad.closed,a7,lr bQ (fun _=>rfl)])
theorem tb (x:W) (n:Nat) (aG:0<n) (h:n<32) :bE Tryz.prog GS 226 [bR x,.int .i64 n] (bR (nY x n)) :=by
 refine bS Tryz.checked.mixed bP ?_;apply bw agG arn;unfold Qn aah;have hw:IntKind.i64.wrap (32 - (n:Int))=(32 - n:Nat) :=by rw[wrap_i64 (by omega) (by omega)]; omega
 obtain⟨m,hm⟩:∃ m,m=32 - n:=⟨_,rfl⟩
 rw[<-hm] at hw;simp[hw];exact aJ (by unfold nY; rw[hm]) rfl
def fj (x:W) :List ad:=[bR x]
set_option maxHeartbeats 4000000 in
theorem aiA:pG Tryz.prog GS 227 [] (c0 1 fj (some cK)) :=by
 refine DD Tryz.checked.mixed bP ?_;apply bw agH aro;unfold Qo aai;simp;exact abV (z:=1) (es:=cK.map fj) (rest:=[]) (by kernel_rfl) (by kernel_rfl) (fun e au=>by obtain⟨y,_,rfl⟩:=aC9.1 au; rfl) (fun e au=>by obtain⟨y,_,rfl⟩:=aC9.1 au; rfl)
theorem ajD:bE Tryz.prog GS 125 [] (.aM (first.l.map bR)) :=by
 refine bS Tryz.checked.mixed bP ?_;apply bw afp ap5;unfold O4 YZ;simp;exact aJ rfl rfl
theorem awl (b:List B) (t:Nat) (hL dE dA iD:B) (aG:b[4*t]? = some hL) (h1:b[4*t+1]? = some dE) (ag:b[4*t+2]? = some dA) (aq:b[4*t+3]? = some iD) :
  pD ((b.drop (4*t)).take 4)=((hL.setWidth 32*256#32+dE.setWidth 32)*256#32+dA.setWidth 32)*256#32+iD.setWidth 32:=by
 have h:(b.drop (4*t)).take 4=[hL,dE,dA,iD] :=by
  have ar:=(aCJ.1 aq).1;apply aDF;intro i
  match i with
  | 0=>simp[aG]
  | 1=>simp[h1]
  | 2=>simp[ag]
  | 3=>simp[aq]
  | i+4=>rw[aC0 (by simp; omega),aC0 (by simp)]
 rw[h];show ((((0#32 <<< 8 ||| hL.setWidth 32) <<< 8 ||| dE.setWidth 32) <<< 8 ||| dA.setWidth 32) <<< 8 ||| iD.setWidth 32)=_;rw[Hp,Hp,Hp,Hp];simp
theorem ac8 {l:aw} {v:ad} {j:Nat} {hG:List W} (h:bW 1 l v j (hG.map fj)) (ay:cX v=false) :∃ (cap sz:Nat) (cs:List ad),v=.av 1 j 0 hG.length cap sz/\l[j]? = some (.cells sz cs)/\∀ (i:Nat) (x:W),hG[i]? = some x->cs[i]? = some (bR x) :=by
 obtain⟨n,cap,sz,cs,h1,ag,aq,aH,bd,bM,_⟩:=h.view ay;rw[aCZ] at aH;subst aH;refine⟨cap,sz,cs,h1,ag,fun i x al=>?_⟩;have:=bM i (fj x) (by rw[aCO,al]; rfl) 0 (by omega);simpa [fj] using this
theorem awo (b:List B) (k:Nat) (hk:k<16) :(gb b).take (k+1)=(gb b).take k++[pD ((b.drop (4*k)).take 4)] :=by
 have:(gb b)[k]? = some (pD ((b.drop (4*k)).take 4)) :=by unfold gb; rw[aCO,aDN hk]; rfl
 rw[aC4,this]; rfl
theorem awm (b:List B) :(gb b).length=16:=by simp[gb]
theorem ajq (k:Nat) (b:List B) :(i8 k (gb b)).length=16+k:=by simp[xd,gb]
set_option maxHeartbeats 16000000 in
theorem aj8 (h:cG) (b:List B) (ai:64<=b.length) :bE Tryz.prog GS 174 [.aM (h.l.map bR),da (some b)] (.aM ((grind h b).l.map bR)) :=by
 have l3:c4=140737488355328:=rfl;have Uh:(h.l.map bR).length=8:=rfl;refine bS Tryz.checked.mixed bP ?_;apply bw af6 aqM;unfold PN ZH;simp[Uh];refine c2 16 (fun k ah l=>ah 1=da (some b)/\ah 2=.ptr 0 0 8/\ah 4=.ptr 1 0 8/\ah 6=.int .i64 k/\∃ v j hI rest,ah 5=v/\(cX v=true->k=0)/\(v=.aK\/2<=j)/\bW 1 l v j (((gb b).take k).map fj)/\l=.cells 8 (h.l.map bR) ::.cells 8 hI::rest/\hI.length=8) ?_ ?_
 ·rintro k ah l hk ⟨aW,bg,bL,cv,v,j,hI,rest,bC,ay,am,ax,rfl,kj⟩;obtain⟨ah,rfl⟩:=mR aW bg bL bC cv;clear aW bg bL bC cv;unfold Wp;by_cases Uq:(k:Int)<16
  ·have fE:k<16:=by omega
   obtain⟨a,aD⟩:∃ a,a=4*k:=⟨_,rfl⟩
   have oJ:IntKind.i64.wrap (4*(k:Int))=(a:Nat) :=by rw[wrap_i64 (by omega) (by omega)]; omega
   obtain⟨br,JC⟩:∃ x,x=a+1:=⟨_,rfl⟩
   obtain⟨bI,akF⟩:∃ x,x=a+2:=⟨_,rfl⟩
   obtain⟨a3,akG⟩:∃ x,x=a+3:=⟨_,rfl⟩
   have cb:IntKind.i64.wrap ((a:Int)+1)=br:=by rw[wrap_i64 (by omega) (by omega)]; omega
   have w2:IntKind.i64.wrap ((a:Int)+2)=bI:=by rw[wrap_i64 (by omega) (by omega)]; omega
   have eF:IntKind.i64.wrap ((a:Int)+3)=a3:=by rw[wrap_i64 (by omega) (by omega)]; omega
   have lm:IntKind.i64.wrap ((k:Int)+1)=k+1:=wrap_i64 (by omega) (by omega);obtain⟨hL,mx⟩:∃ x,b[a]? = some x:=⟨_,aCM (by omega)⟩
   obtain⟨dE,hd⟩:∃ x,b[br]? = some x:=⟨_,aCM (by omega)⟩
   obtain⟨dA,gK⟩:∃ x,b[bI]? = some x:=⟨_,aCM (by omega)⟩
   obtain⟨iD,tP⟩:∃ x,b[a3]? = some x:=⟨_,aCM (by omega)⟩
   have bZ:∀ (i:Nat) (x:B),b[i]? = some x->cC (.av 1) (da (some b)) (.int .i64 i)=some (.cm (cu x) 0) :=fun i x al=>by rw[sI]; simp[al]
   have vQ:=bZ a hL mx;have dO:=bZ br dE hd;have fF:=bZ bI dA gK;have jg:=bZ a3 iD tP;have KS:=awo b k fE;rw[awl b k hL dE dA iD (by rw[<-aD]; exact mx) (by rw[<-aD,<-JC]; exact hd) (by rw[<-aD,<-akF]; exact gK) (by rw[<-aD,<-akG]; exact tP)] at KS;obtain⟨w,hw⟩:∃ w,w=((hL.setWidth 32*256#32+dE.setWidth 32)*256#32+dA.setWidth 32)*256#32+iD.setWidth 32:=⟨_,rfl⟩
   rw[<-hw] at KS;have kZ:bW 1 ([.cells 8 (h.l.map bR),.cells 8 hI]++(rest++[bp.cells 1 [bR w]])) v j (((gb b).take k).map fj) :=ax.more [bp.cells 1 [bR w]];have ow:(((gb b).take k).map fj).length<=16:=by simp; omega
   obtain⟨bl,cx,dU,h1,ag,aq,aH⟩:=r1 (by_:=4) kZ am (x:=.av 1 (rest.length+2) 0 1 1 1) (xs:=[fj w]) (by simp[dL,fj]) (by simp[fj]) (by omega) (by omega) (by rw[l3]; simp; omega);have eV:bW 1 (.cells 8 (h.l.map bR) ::.cells 8 hI::dU) bl cx (((gb b).take (k+1)).map fj) :=by rw[KS,aDe]; exact ag
   simp only[aDG,aDq] at h1;have gE:cX bl=false:=by rw[aH]; simp
   simp[Uq,oJ,cb,w2,eF,vQ,dO,fF,jg,cu];rw[<-hw];simp[h1];refine dx.c6 ?_;simp[Uq,lm,fE];exact⟨gE,cx,aq,by rw[<-aFI]; exact eV,kj⟩
  ·have fE:k=16:=by omega
   subst fE;have iZ:cX v=false:=by
    cases KP:cX v with
    | false=>rfl
    | true=>exact absurd (ay KP) (by omega)
   have jX:2<=j:=by
    rcases am with h | h
    ·subst h; cases iZ
    ·exact h
   have amh:bW 1 (.cells 8 (h.l.map bR) ::.cells 8 hI::rest) v j ((gb b).map fj) :=by
    have:(gb b).take 16=gb b:=aCI (by rw[awm]; omega);rw[this] at ax; exact ax
   clear ay am ax;simp;refine c2 48 (fun k ah l=>ah 2=.ptr 0 0 8/\ah 4=.ptr 1 0 8/\ah 7=.int .i64 (16+k:Nat)/\∃ v j hI rest,ah 5=v/\cX v=false/\2<=j/\bW 1 l v j ((i8 k (gb b)).map fj)/\l=.cells 8 (h.l.map bR) ::.cells 8 hI::rest/\hI.length=8) ?_ ?_
   ·rintro k ah l hk ⟨bg,bL,eU,v,j,hI,rest,bC,ay,am,ax,rfl,kj⟩;obtain⟨ah,rfl⟩:=hW bg bL bC eU;clear bg bL bC eU;unfold Wq;obtain⟨t,aQ⟩:∃ t,t=16+k:=⟨_,rfl⟩
    rw[<-aQ];by_cases xR:(t:Int)<64
    ·have kh:IntKind.i64.wrap ((t:Int)+1)=(t+1:Nat) :=wrap_i64 (by omega) (by omega);have ar:=ajq k b;obtain⟨vR,IG⟩:∃ i,i=t - 15:=⟨_,rfl⟩
     obtain⟨fF,b7⟩:∃ i,i=t - 2:=⟨_,rfl⟩
     obtain⟨vS,EK⟩:∃ i,i=t - 16:=⟨_,rfl⟩
     obtain⟨k6,II⟩:∃ i,i=t - 7:=⟨_,rfl⟩
     have HE:IntKind.i64.wrap ((t:Int) - 15)=vR:=by rw[wrap_i64 (by omega) (by omega)]; omega
     have w2:IntKind.i64.wrap ((t:Int) - 2)=fF:=by rw[wrap_i64 (by omega) (by omega)]; omega
     have HF:IntKind.i64.wrap ((t:Int) - 16)=vS:=by rw[wrap_i64 (by omega) (by omega)]; omega
     have Eb:IntKind.i64.wrap ((t:Int) - 7)=k6:=by rw[wrap_i64 (by omega) (by omega)]; omega
     obtain⟨hG,rn⟩:∃ hG,hG=i8 k (gb b) :=⟨_,rfl⟩
     have x5:=IU k (gb b);rw[<-rn] at ar ax x5;have Ai:hG.length=t:=by omega
     unfold ext at x5
     dsimp only at x5
     rw[Ai,<-IG,<-b7,<-EK,<-II] at x5;have xi:∀ i,i<t->hG[i]? = some (hG.getD i 0#32) :=fun i aB=>by rw[aC2,aCM (by omega)]; rfl
     obtain⟨x,al⟩:∃ x,x=hG.getD vR 0#32:=⟨_,rfl⟩
     obtain⟨y,aE⟩:∃ y,y=hG.getD fF 0#32:=⟨_,rfl⟩
     obtain⟨Ny,Vk⟩:∃ y,y=hG.getD vS 0#32:=⟨_,rfl⟩
     obtain⟨Nz,Vm⟩:∃ y,y=hG.getD k6 0#32:=⟨_,rfl⟩
     rw[<-al,<-aE,<-Vk,<-Vm] at x5;obtain⟨cap,sz,cs,rfl,vE,bT⟩:=ac8 ax ay;have EA:=bT vR x (by rw[al]; exact xi vR (by omega));have dF:=bT fF y (by rw[aE]; exact xi fF (by omega));have u9:=bT vS Ny (by rw[Vk]; exact xi vS (by omega));have Bu:=bT k6 Nz (by rw[Vm]; exact xi k6 (by omega));obtain⟨w,hw⟩:∃ w,w=Ny+Nz+(nY x 7 ^^^ nY x 18 ^^^ x >>> 3)+(nY y 17 ^^^ nY y 19 ^^^ y >>> 10) :=⟨_,rfl⟩
     rw[<-hw] at x5;have kZ:bW 1 ([.cells 8 (h.l.map bR),.cells 8 hI]++(rest++[bp.cells 1 [bR w]])) _ j (hG.map fj) :=ax.more [bp.cells 1 [bR w]];obtain⟨bl,cx,dU,h1,ag,aq,aH⟩:=r1 (by_:=4) kZ (.inr am) (x:=.av 1 (rest.length+2) 0 1 1 1) (xs:=[fj w]) (by simp[dL,fj]) (by simp[fj]) (by omega) (by omega) (by rw[l3]; simp; omega);have eV:bW 1 (.cells 8 (h.l.map bR) ::.cells 8 hI::dU) bl cx ((i8 (k+1) (gb b)).map fj) :=by rw[x5,aDe]; exact ag
     simp only[aDG,aDq] at h1;have gE:cX bl=false:=by rw[aH]; rfl
     obtain⟨kk,rfl⟩:∃ kk,j=kk+2:=⟨j - 2,by omega⟩
     have sx:rest[kk]? = some (.cells sz cs) :=by simpa using vE
     have xU:(rest++[bp.cells 1 [bR w]])[kk]? = some (.cells sz cs) :=by rw[aCK (fW sx)]; exact sx
     have Ic:vR<hG.length:=by omega
     have dA:fF<hG.length:=by omega
     have Ie:vS<hG.length:=by omega
     have tq:k6<hG.length:=by omega
     have t7:=tb x 7 (by omega) (by omega);have t18:=tb x 18 (by omega) (by omega);have t17:=tb y 17 (by omega) (by omega);have t19:=tb y 19 (by omega) (by omega);simp at t7 t18 t17 t19;simp[xR,HE,w2,HF,Eb,Ic,dA,Ie,tq,sx,EA,dF,u9,Bu];refine a8 t7 rfl ?_;simp[sx,u9,Bu];refine a8 t18 rfl ?_;simp[sx,u9,Bu];refine a8 t17 rfl ?_;simp[sx,u9,Bu];refine a8 t19 rfl ?_;simp[sx,u9,Bu];rw[<-hw];simp[h1];refine dx.c6 ?_;simp[kh];exact⟨by omega,by omega,gE,cx,aq.resolve_left (by intro e; subst e; cases gE),eV,kj⟩
    ·have fE:k=48:=by omega
     subst fE;subst aQ;have sD:i8 48 (gb b)=gi b:=rfl;rw[sD] at ax;obtain⟨cap,sz,cs,rfl,vE,bT⟩:=ac8 ax ay;obtain⟨kk,rfl⟩:∃ kk,j=kk+2:=⟨j - 2,by omega⟩
     have sx:rest[kk]? = some (.cells sz cs) :=by simpa using vE
     have dI:=DU b;rw[dI];clear ax ay am vE;simp;refine a8 aiA.Hz rfl ?_;have ov:h.l.length=8:=rfl;simp[n2,ov];refine c2 64 (fun k ah l=>ah 2=.ptr 0 0 8/\ah 4=.ptr 1 0 8/\ah 5=.av 1 (kk+2) 0 64 cap sz/\ah 10=c0 1 fj (some cK)/\ah 11=.ptr (rest.length+2) 0 8/\ah 12=.int .i64 k/\l=.cells 8 (h.l.map bR) ::.cells 8 hI::(rest++[.cells 8 ((np h b k).l.map bR)])) ?_ ?_
     ·rintro k ah l hk ⟨bg,bL,bC,gJ,hN,g1,rfl⟩;obtain⟨ah,rfl⟩:=A8 bg bL bC gJ hN g1;clear bg bL bC gJ hN g1;unfold Wr;have eW:=fW sx;have xU:∀ x:bp,(rest++[x])[kk]? = some (.cells sz cs) :=fun x=>by rw[aCK eW]; exact sx
      by_cases xR:(k:Int)<64
      ·have iM:k<64:=by omega
       have fP:IntKind.i64.wrap ((k:Int)+1)=(k+1:Nat) :=wrap_i64 (by omega) (by omega);have pa:cK[k]? = some (cK.getD k 0#32) :=by rw[aC2,aCM (show k<cK.length from iM)]; rfl
       have hv:=bT k ((gi b).getD k 0#32) (by rw[aC2,aCM (by omega)]; rfl);rw[abJ h b k iM];obtain⟨lm,hw⟩:∃ lm,(gi b).getD k 0#32=lm:=⟨_,rfl⟩
       obtain⟨nk,Ka⟩:∃ nk,cK.getD k 0#32=nk:=⟨_,rfl⟩
       obtain⟨s,ap⟩:∃ s,np h b k=s:=⟨_,rfl⟩
       rw[hw] at hv ⊢;rw[Ka] at pa ⊢;rw[ap];have As:cC (.av 1) (c0 1 fj (some cK)) (.int .i64 k)=some (.cm (fj nk) 0) :=by rw[sI]; simp[pa]
       have t6:=tb s.e 6 (by omega) (by omega);have t11:=tb s.e 11 (by omega) (by omega);have t25:=tb s.e 25 (by omega) (by omega);have t2:=tb s.a 2 (by omega) (by omega);have t13:=tb s.a 13 (by omega) (by omega);have t22:=tb s.a 22 (by omega) (by omega);simp at t6 t11 t25 t2 t13 t22;have amJ:s.l=[s.a,s.b,s.c,s.d,s.e,s.f,s.g,s.h] :=rfl;have U1:(round s nk lm).l=[(round s nk lm).a,(round s nk lm).b,(round s nk lm).c,(round s nk lm).d,(round s nk lm).e,(round s nk lm).f,(round s nk lm).g,(round s nk lm).h] :=rfl;simp[xR,amJ,As,fj,xU,hv];refine a8 t6 rfl ?_;simp[As,fj,xU,hv];refine a8 t11 rfl ?_;simp[As,fj,xU,hv];refine a8 t25 rfl ?_;simp[As,fj,xU,hv];refine a8 t2 rfl ?_;simp[As,fj,xU,hv];refine a8 t13 rfl ?_;simp[As,fj,xU,hv];refine a8 t22 rfl ?_;simp[n2,iM,fP];rfl
      ·have fE:k=64:=by omega
       subst fE;rw[abI];obtain⟨v,ay⟩:∃ v,rounds h cK (gi b)=v:=⟨_,rfl⟩
       rw[ay];have xN:grind h b=⟨h.a+v.a,h.b+v.b,h.c+v.c,h.d+v.d,h.e+v.e,h.f+v.f,h.g+v.g,h.h+v.h⟩:=by unfold grind; rw[ay]
       have qb:h.l.length=v.l.length:=rfl;have ov:h.l.length=8:=rfl;have JU:(grind h b).l=jn h.l v.l 8:=by rw[xN]; rfl
       rw[JU];simp;refine c2 8 (fun k ah l=>ah 2=.ptr 0 0 8/\ah 4=.ptr 1 0 8/\ah 11=.ptr (rest.length+2) 0 8/\ah 21=.int .i64 k/\l=.cells 8 ((jn h.l v.l k).map bR) ::.cells 8 hI::(rest++[.cells 8 (v.l.map bR)])) ?_ ?_
       ·rintro k ah l hk ⟨bg,bL,hN,tG,rfl⟩;obtain⟨ah,rfl⟩:=hW bg bL hN tG;clear bg bL hN tG;unfold Ws;by_cases iL:(k:Int)<8
        ·have tT:k<8:=by omega
         have fP:IntKind.i64.wrap ((k:Int)+1)=(k+1:Nat) :=wrap_i64 (by omega) (by omega);obtain⟨y,aE⟩:∃ y,v.l[k]? = some y:=⟨_,aCM (show k<v.l.length from tT)⟩
         obtain⟨z,az⟩:∃ z,h.l[k]? = some z:=⟨_,aCM (show k<h.l.length from tT)⟩
         have aD:=NP qb (k:=k) (by rw[ov]; exact tT);rw[az] at aD;have om:=H5 qb k;have oy:=oG bR (jn h.l v.l k) k (z+y) (by rw[om,ov]; exact tT);rw[NQ qb az aE] at oy;have Uf:(List.map bR (jn h.l v.l k))[k]? = some (bR z) :=by rw[aCO,aD]; rfl
         have zT:k<=7:=by omega
         obtain⟨A,c9⟩:∃ A,A=(jn h.l v.l k).map bR:=⟨_,rfl⟩
         have ka:A.length=8:=by rw[c9,aCZ,om,ov]
         rw[<-c9] at Uf oy ⊢;obtain⟨akh,aly⟩:=aCJ.1 Uf;simp[iL,tT,fP,aly,aE,oy,ka,zT]
        ·have fE:k=8:=by omega
         subst fE;have om:=H5 qb 8;have Gb:∀ A:List ad,A.length=8->A.take 8=A:=fun A c9=>aCI (by omega)
         obtain⟨A,c9⟩:∃ A,A=(jn h.l v.l 8).map bR:=⟨_,rfl⟩
         have ka:A.length=8:=by rw[c9,aCZ,om,ov]
         have m2:a7 A=true:=by rw[c9]; exact lr bR (fun _=>rfl) _
         rw[<-c9];simp[n2,kj,ka,Gb A ka];exact aJ rfl (by simp[ad.closed,m2])
       ·simp[NR]
     ·simp[abK];exact aCI (by simp[ov])
   ·refine⟨rfl,rfl,rfl,v,j,hI,rest,rfl,iZ,jX,amh,rfl,kj⟩
 ·simp;exact⟨0,.nil 0⟩
def rE (k:Nat) :List B:=128#8::List.replicate k 0#8
theorem apg (k:Nat) :rE (k+1)=rE k++[0#8] :=by simp[rE,List.replicate_succ']
theorem Yb (k:Nat) :(rE k).length=k+1:=by simp[rE]
set_option maxHeartbeats 8000000 in
theorem atH (n:Nat) (aI:n<=100000000) :pG Tryz.prog GS 126 [.int .i64 n] (da (some (tail n))) :=by
 have l3:c4=140737488355328:=rfl;refine DD Tryz.checked.mixed bP ?_;apply bw afq ap6;unfold O5 Y0;obtain⟨m,hm⟩:∃ m,m=(119 - n % 64) % 64:=⟨_,rfl⟩
 simp;refine c2 m (fun k ah l=>ah 0=.int .i64 n/\∃ v j,ah 3=v/\cX v=false/\bW 1 l v j ((rE k).map cu)) ?_ ?_
 ·rintro k ah l hk ⟨cd,v,j,bj,ay,ax⟩;obtain⟨ah,rfl⟩:=lS cd bj;clear cd bj;unfold V7;have bu:=ax.len;rw[aCZ,Yb] at bu;obtain⟨cn,vC⟩:∃ cn,cn=k+1:=⟨_,rfl⟩
  rw[<-vC] at bu;have kh:IntKind.i64.wrap ((n:Int)+(cn:Int))=(n+cn:Nat) :=wrap_i64 (by omega) (by omega);obtain⟨q,bD⟩:∃ q,q=n+cn:=⟨_,rfl⟩
  rw[<-bD] at kh;have mE:IntKind.i64.wrap ((q:Int)+8)=(q+8:Nat) :=wrap_i64 (by omega) (by omega);obtain⟨Ha,Kx⟩:∃ Ha,Ha=q+8:=⟨_,rfl⟩
  rw[<-Kx] at mE;have rl:=Ew Ha 64 (by omega);rw[show ((64:Int).toNat)=64 from rfl] at rl;obtain⟨x,al⟩:∃ x,x=Ha % 64:=⟨_,rfl⟩
  rw[<-al] at rl;simp[bu,kh,mE,rl];by_cases x9:x=0
  ·have rf:k=m:=by omega
   subst rf;have KH:rE k=n4 n 0:=by unfold rE n4; rw[<-hm]; simp
   rw[KH] at ax;clear bu kh mE rl;simp[x9];refine c2 8 (fun k ah l=>ah 0=.int .i64 n/\ah 4=.int .i64 (7 - (k:Int))/\∃ v j,ah 3=v/\cX v=false/\bW 1 l v j ((n4 n k).map cu)) ?_ ?_
   ·rintro k ah l hk ⟨cd,bL,v,j,bj,ay,ax⟩;obtain⟨ah,rfl⟩:=jJ cd bj bL;clear cd bj bL;unfold V8;obtain⟨c,ak⟩:∃ c:Int,c=7 - (k:Int) :=⟨_,rfl⟩
    rw[<-ak];by_cases iL:0<=c
    ·have zT:k<8:=by omega
     have Ah:IntKind.i64.wrap (c - 1)=7 - ((k:Int)+1) :=by rw[wrap_i64 (by omega) (by omega)]; omega
     obtain⟨d,bX⟩:∃ d,d=8*c:=⟨_,rfl⟩
     have KR:IntKind.i64.wrap (8*c)=d:=by rw[wrap_i64 (by omega) (by omega)]; omega
     have JN:0<=d:=by omega
     have JQ:d.toNat=56 - 8*k:=by omega
     have al:=Oz (BitVec.ofNat 64 n*8#64) k zT;have k3:=Hw n k;obtain⟨y,aE⟩:∃ y,y=(((BitVec.ofNat 64 n*8#64) >>> (56 - 8*k)).setWidth 8) :=⟨_,rfl⟩
     rw[<-aE] at al;have kZ:bW 1 (l++[bp.cells 1 [bQ y]]) v j ((n4 n k).map cu) :=ax.more _;obtain⟨bl,cx,l',h1,ag,aq,aH,bd,bM⟩:=oR (by_:=1) kZ (x:=.av 1 l.length 0 1 1 1) (xs:=[[bQ y]]) (by simp[dL]) (by simp) (by omega) (by omega) (by simp; omega);have gE:cX bl=false:=by rw[ui bM,ay]; rfl
     have eV:bW 1 l' bl cx ((n4 n (k+1)).map cu) :=by rw[acO n k y al,aDe]; exact ag
     rw[BitVec.mul_comm] at aE;simp only[bQ] at h1;simp[iL,KR,JN,JQ];rw[<-aE];simp[h1];refine dx.c6 ?_;simp[Ah,zT];exact⟨gE,cx,eV⟩
    ·have fE:k=8:=by omega
     subst fE;simp[iL];exact ax.DN (fun _=>rfl) (some (tail n)) ay rfl
   ·simp;exact⟨ay,_,ax⟩
  ·have k3:=Yb k;have kZ:bW 1 (l++[bp.cells 1 [bQ 0#8]]) v j ((rE k).map cu) :=ax.more _;obtain⟨bl,cx,l',h1,ag,aq,aH,bd,bM⟩:=oR (by_:=1) kZ (x:=.av 1 l.length 0 1 1 1) (xs:=[[bQ 0#8]]) (by simp[dL]) (by simp) (by omega) (by omega) (by simp; omega);have gE:cX bl=false:=by rw[ui bM,ay]; rfl
   have eV:bW 1 l' bl cx ((rE (k+1)).map cu) :=by rw[apg,aDe]; exact ag
   have rf:k<m:=by omega
   simp[bQ] at h1;simp[x9,h1];refine dx.c6 ?_;simp[rf];exact⟨gE,cx,eV⟩
 ·simp;exact⟨rfl,0,.av 0 1 1 1 [.int .u8 128] _ rfl rfl rfl (by intro e au; simp[rE] at au; subst au; rfl) (aCL _) (aCL _) rfl⟩
set_option maxHeartbeats 8000000 in
theorem atB (h:cG) (b:List B) (ai:b.length<=100000000) :bE Tryz.prog GS 124 [.aM (h.l.map bR),da (some b)] (.aM ((hZ h b).1.l.map bR)) :=by
 refine bS Tryz.checked.mixed bP ?_;apply bw afo ap4;unfold O3 YY;have Gb:∀ A:List ad,A.length=8->A.take 8=A:=fun A c9=>aCI (by omega)
 have Uh:∀ s:cG,(s.l.map bR).length=8:=fun s=>rfl
 obtain⟨HN,xn⟩:∃ HN,HN=h.l.map bR:=⟨_,rfl⟩
 have ake:HN.length=8:=by rw[xn]; rfl
 rw[<-xn];simp[ake];refine c2 (b.length / 64) (fun k ah l=>ah 1=da (some b)/\ah 2=.ptr 0 0 8/\ah 4=.ptr 1 0 8/\ah 5=.int .i64 (64*k:Nat)/\∃ s hI,hZ s (b.drop (64*k))=hZ h b/\l=[.cells 8 (s.l.map bR),.cells 8 hI]/\hI.length=8) ?_ ?_
 ·rintro k ah l hk ⟨aW,bg,bL,bC,s,hI,ap,rfl,kj⟩;obtain⟨ah,rfl⟩:=hW aW bg bL bC;clear aW bg bL bC;unfold V6;obtain⟨a,aD⟩:∃ a,a=64*k:=⟨_,rfl⟩
  rw[<-aD] at ap ⊢;obtain⟨br,JC⟩:∃ br,br=64*(k+1) :=⟨_,rfl⟩
  rw[<-JC];obtain⟨A,c9⟩:∃ A,A=s.l.map bR:=⟨_,rfl⟩
  have ka:A.length=8:=by rw[c9]; rfl
  rw[<-c9];have hw:IntKind.i64.wrap ((a:Int)+64)=br:=by rw[wrap_i64 (by omega) (by omega)]; omega
  by_cases eD:br<=b.length
  ·have CC:(br:Int)<=b.length:=by omega
   have dI:g5 (.av 1) (da (some b)) (some (.int .i64 (a:Int))) (some (.int .i64 (br:Int))) none=some (da (some ((b.drop a).take 64))) :=by
    unfold da; rw[auq (by omega) (by omega) (by omega)];have:(br:Int).toNat - (a:Int).toNat=64:=by omega
    rw[this,aDf]
   have fo:64<=((b.drop a).take 64).length:=by simp; omega
   have xN:=aj8 s _ fo;have nL:grind s ((b.drop a).take 64)=grind s (((b.drop a).take 64)) :=rfl;rw[<-c9] at xN;have cL:hZ (grind s ((b.drop a).take 64)) (b.drop br)=hZ h b:=by
    rw[<-ap,Br s (b.drop a) (by simp; omega),aFe];congr 2; omega
   have iM:k<b.length / 64:=by omega
   have m2:a7 A=true:=by rw[c9]; exact lr bR (fun _=>rfl) _
   obtain⟨HM,Jg⟩:∃ HM,HM=(grind s ((b.drop a).take 64)).l.map bR:=⟨_,rfl⟩
   have aki:HM.length=8:=by rw[Jg]; rfl
   rw[<-Jg] at xN;simp[hw,eD,CC,ka,Gb A ka,dI];refine a8 xN (by simp[a7,ad.closed,m2,mY]) ?_;simp[n2,ka,aki,hw,iM];exact⟨_,cL,hI,⟨Jg,rfl⟩,kj⟩
  ·have CC:¬(br:Int)<=b.length:=by omega
   have au:=ap;rw[Ev s (b.drop a) (by simp; omega)] at au;rw[<-au];have m2:a7 A=true:=by rw[c9]; exact lr bR (fun _=>rfl) _
   simp[hw,eD,CC,ka,Gb A ka,n2,kj];exact aJ (by rw[c9]) (by rw[c9] at m2; simp[ad.closed,m2])
 ·exact⟨rfl,rfl,rfl,rfl,h,rep 8 (.int .u32 0),rfl,by rw[xn]; rfl,rfl⟩
def sW (s:cG) (k:Nat) :List B:=(written s).take k++List.replicate (32 - k) 0#8
theorem apc (s:cG) (k:Nat) (hk:k<=32) :(sW s k).length=32:=by
 unfold sW;have:=HJ s;simp; omega
theorem apd (s:cG) (k:Nat) (x:B) (al:(written s)[k]? = some x) :(sW s k).set k x=sW s (k+1) :=by
 have hk:k<32:=(aCJ.1 al).1;unfold sW;have ar:(List.take k (written s)).length=k:=by have:=HJ s; simp; omega
 rw[aDu _ _ (by omega),ar,aEX,aC4,al,show 32 - k=(32 - (k+1))+1 by omega,aDW,aEP];simp
theorem aws (s:cG) (k:Nat) (hk:k<32) :∃ w,s.l[k / 4]? = some w/\(written s)[k]? = some ((w >>> (24 - 8*(k % 4))).setWidth 8) :=by
 have aG:∀ w:W,w=w >>> 0:=fun w=>by simp
 obtain⟨a,b,c,d,e,f,g,h⟩:=s;have:∀ (l:List W) (k:Nat),k<4*l.length->∃ w,l[k / 4]? = some w/\(l.map uN).flatten[k]? = some ((w >>> (24 - 8*(k % 4))).setWidth 8) :=by
  intro l
  induction l with
  | nil=>intro k hk; simp at hk
  | cons w l aY=>
   intro k hk
   match k,hk with
   | 0,_=>exact⟨w,rfl,rfl⟩
   | 1,_=>exact⟨w,rfl,rfl⟩
   | 2,_=>exact⟨w,rfl,rfl⟩
   | 3,_=>refine⟨w,rfl,?_⟩; simp[uN]
   | k+4,hk=>
    obtain⟨y,h1,ag⟩:=aY k (by simp at hk; omega);refine⟨y,?_,?_⟩
    ·rw[show (k+4) / 4=k / 4+1 by omega]; exact h1
    ·rw[show (k+4) % 4=k % 4 by omega]; exact ag
 exact this _ k (by simpa [cG.l] using hk)
set_option maxHeartbeats 8000000 in
theorem atI (s:cG) :bE Tryz.prog GS 123 [.aM (s.l.map bR)] (fL (written s)) :=by
 refine bS Tryz.checked.mixed bP ?_;apply bw afn ap3;unfold O2 YX;obtain⟨A,c9⟩:∃ A,A=s.l.map bR:=⟨_,rfl⟩
 have ka:A.length=8:=by rw[c9]; rfl
 rw[<-c9];simp[ka];refine c2 32 (fun k ah l=>ah 1=.ptr 0 0 8/\ah 2=.ptr 1 0 32/\ah 3=.ptr 2 0 32/\ah 4=.int .i64 k/\∃ hI,l=[.cells 8 A,.cells 32 hI,.cells 32 ((sW s k).map bQ)]/\hI.length=32) ?_ ?_
 ·rintro k ah l hk ⟨aW,bg,bj,bL,hI,rfl,kj⟩;obtain⟨ah,rfl⟩:=hW aW bg bj bL;clear aW bg bj bL;unfold V5;by_cases J6:(k:Int)<32
  ·have iM:k<32:=by omega
   have fP:IntKind.i64.wrap ((k:Int)+1)=(k+1:Nat) :=wrap_i64 (by omega) (by omega);have Ky:=Il k 4 (by omega) (by omega);have rl:=Ew k 4 (by omega);rw[show ((4:Int).toNat)=4 from rfl] at Ky rl;obtain⟨w,hw,al⟩:=aws s k iM;obtain⟨q,bD⟩:∃ q,q=k / 4:=⟨_,rfl⟩
   obtain⟨r,aC⟩:∃ r,r=k % 4:=⟨_,rfl⟩
   rw[<-bD] at Ky hw;rw[<-aC] at rl al;have Kx:q<8:=by omega
   obtain⟨yu,U1⟩:∃ yu,yu=8*r:=⟨_,rfl⟩
   have KR:IntKind.i64.wrap (8*(r:Int))=yu:=by rw[wrap_i64 (by omega) (by omega)]; omega
   obtain⟨yt,amD⟩:∃ yt,yt=24 - yu:=⟨_,rfl⟩
   have am1:IntKind.i64.wrap (24 - (yu:Int))=yt:=by rw[wrap_i64 (by omega) (by omega)]; omega
   have kD:=apd s k _ al;rw[<-U1,<-amD] at al kD;have cH:=apc s k (by omega);have oy:=oG bQ (sW s k) k ((w >>> yt).setWidth 8) (by rw[cH]; exact iM);rw[kD] at oy;obtain⟨O,eO⟩:∃ O,O=(sW s k).map bQ:=⟨_,rfl⟩
   have sn:O.length=32:=by rw[eO,aCZ,cH]
   rw[<-eO] at oy ⊢;have akj:A[q]? = some (bR w) :=by rw[c9,aCO,hw]; rfl
   obtain⟨akh,akk⟩:=aCJ.1 akj;have amy:q<=7:=by omega
   have alP:k<=31:=by omega
   have amz:(q:Int)<8:=by omega
   simp[J6,iM,fP,Ky,rl,KR,am1,ka,Kx,akk,sn,oy,kj,amy,alP,amz]
  ·have fE:k=32:=by omega
   subst fE;have ax:sW s 32=written s:=by unfold sW; rw[aCI (by rw[HJ]; omega)]; simp
   rw[ax];obtain⟨O,eO⟩:∃ O,O=(written s).map bQ:=⟨_,rfl⟩
   have sn:O.length=32:=by rw[eO,aCZ,HJ]
   have akw:a7 O=true:=by rw[eO]; exact lr bQ (fun _=>rfl) _
   have aQ:O.take 32=O:=aCI (by omega);unfold fL;rw[<-eO];simp[sn,aQ,n2,kj];exact aJ rfl (by simp[ad.closed,akw])
 ·refine⟨rfl,rfl,rfl,rfl,_,rfl,rfl⟩
set_option maxHeartbeats 8000000 in
theorem abZ (s:fH) (ap:s.l.length<=1000000) :bE Tryz.prog GS 77 [da s] (fL (iR s.l)) :=by
 have l3:c4=140737488355328:=rfl;refine bS Tryz.checked.mixed bP ?_;apply bw ahK ast;unfold Rr abl;simp;refine a8 ajD rfl ?_;have ao1:bW 1 ([bp.cells 32 (rep 32 (ad.int IntKind.u8 0))]++[bp.cells 0 []]) (.av 1 1 0 0 0 0) 1 [] :=.av 1 0 0 0 [] _ rfl rfl rfl (by simp) (aCL _) (aCL _) rfl;obtain⟨v,j,r,h1,ag,aq,aH⟩:=r1 (by_:=1) ao1 (.inr (aCL _)) (x:=da s) (xs:=s.l.map cu) (by unfold da; rw[qX,aCZ]) (by intro e au; obtain⟨x,_,rfl⟩:=aC9.1 au; rfl) (by omega) (by omega) (by rw[l3]; simp; omega);have ay:cX v=false:=by rw[aH]; rfl
 simp only[aDq,List.singleton_append] at h1 ag;have bu:c1 (.av 1) (da s)=some (.int .i64 s.l.length) :=rr _;have k3:=atH s.l.length (by omega);have Gd:(tail s.l.length).length<=80:=by rw[<-MY]; exact Hw _ _
 obtain⟨bl,cx,dU,cn,cc,dP,ew⟩:=r1 (by_:=1) (pre:=[bp.cells 32 (rep 32 (ad.int IntKind.u8 0))]) ag aq (x:=da (some (tail s.l.length))) (xs:=(tail s.l.length).map cu) (by unfold da; rw[qX,aCZ]; rfl) (by intro e au; obtain⟨x,_,rfl⟩:=aC9.1 au; rfl) (by omega) (by omega) (by rw[l3]; simp; omega);have gE:cX bl=false:=by rw[ew,ay]; rfl
 rw[<-aDe] at cc;simp only[List.singleton_append] at cn cc;have nf:=cc.mO (fun _=>rfl) (some (s.l++tail s.l.length)) gE rfl;have fo:=atB first (s.l++tail s.l.length) (by simp; omega)
 have C1:=atI (hZ first (s.l++tail s.l.length)).1;have pi:iR s.l=written (hZ first (s.l++tail s.l.length)).1:=rfl;rw[<-pi] at C1;obtain⟨F,nH⟩:∃ F,F=(hZ first (s.l++tail s.l.length)).1:=⟨_,rfl⟩
 rw[<-nH] at fo C1;simp[h1];refine dx.c6 ?_;simp[bu];refine a8 k3.Hz rfl ?_;simp[cn];refine dx.c6 ?_;simp;refine i3 fo (.cons (.same _ ?_) (.cons nf .nil)) (SM bR (fun _=>rfl) _) ?_
 ·simp[ad.closed,lr bR (fun _=>rfl)]
 simp;refine a8 C1 ?_ ?_
 ·simp[a7,ad.closed,lr bR (fun _=>rfl)]
 have dI:=uH s.l;simp[fL,dI,n2,aCI];exact aJ rfl (by simp[ad.closed,lr bQ (fun _=>rfl)])
end hK

end Go.ct

namespace Go.ct
open Go Go.Proofs Go.RowKit
set_option maxRecDepth 100000
open hK
theorem M7 {e:TypeId} (aS:Tryz.prog.underlying e=some (.int .u8)) :∀ (n:Nat) {ts:List TypeId} {cs:List ad},ec Tryz.prog (List.replicate n e++ts) cs->∃ (x:List B) (cs' : List ad),cs=x.map bQ++cs'/\x.length=n/\ec Tryz.prog ts cs'
 | 0,ts,cs,h=>⟨[],cs,rfl,rfl,h⟩
 | n+1,ts,cs,h=>by
  obtain⟨k,w6,rfl,h1,ag,aq⟩:=A7 aS h;obtain⟨x,iF,rfl,al,aH⟩:=M7 aS n aq;have bd:(0:Int)<=k:=h1;have bM:k<=255:=ag;refine⟨BitVec.ofNat 8 k.toNat::x,iF,?_,by simp[al],aH⟩;have:((BitVec.ofNat 8 k.toNat).toNat:Int)=k:=by
   rw[aC7,aC1 (by omega)]; omega
  simp[bQ,u]; omega
theorem avq (r:List ad) (h:ec Tryz.prog [48] r) :∃ x:List B,r=x.map bQ/\x.length=32:=by
 have h1:=acY (e:=5) (n:=32) (by kernel_rfl) h;obtain⟨x,cs',rfl,al,ag⟩:=M7 (by kernel_rfl) 32 h1;rw[yK ag,aDl];exact⟨x,rfl,al⟩
theorem Nb {ts:List TypeId} {cs:List ad} (h:ec Tryz.prog (40::ts) cs) :∃ (x:BitVec 64) (cs' : List ad),cs=dm x::cs'/\ec Tryz.prog ts cs':=by
 obtain⟨k,w6,rfl,h1,ag,aq⟩:=A7 (k:=.u64) (by kernel_rfl) h;have bd:(0:Int)<=k:=h1;have bM:k<=18446744073709551615:=ag;refine⟨BitVec.ofNat 64 k.toNat,w6,?_,aq⟩;have:((BitVec.ofNat 64 k.toNat).toNat:Int)=k:=by
  rw[aC7,aC1 (by omega)]; omega
 simp[dm,u]; omega
theorem avl {ts:List TypeId} {cs:List ad} (h:kO Tryz.prog (48::ts) cs) :∃ (x:List B) (cs' : List ad),cs=fL x::cs'/\x.length=32/\kO Tryz.prog ts cs':=by
 obtain⟨c,cs',rfl,h1,ag⟩:=HA h;obtain⟨cs,rfl,aq⟩:=M6 (by kernel_rfl) h1;obtain⟨x,rfl,al⟩:=avq _ aq;exact⟨x,cs',rfl,al,ag⟩
def Ll:List Int:=hK.cK.map fun k=>(k.toNat:Int)
theorem au5:A5=Ll.map fun k=>.int .u32 k:=by unfold A5 Ll; rw[aEZ]; rfl
theorem aod {W:World} (h:laidMetH Tryz.prog [("braid/digest.constants",Go.Proofs.YtobphgccoalchaaGreatDoor.Rows.laid_braid_digest_constants)] W) :∀ g,gc W (fun _=>True) (GS g) (.pointer (some ⟨g,0,none⟩)) :=by
 intro g;unfold GS;split
 ·rename_i ai;have:=aDP ai;subst this;rw[MakeChecks.laidMetH_plain _ _ _ (by kernel_rfl)] at h;obtain⟨di,⟨cd,t0,og,f0,kG,gB,alv,KH,iZ,JN,_,_⟩,_,_⟩:=h;have a2:Tryz.prog.globalNamed "braid/digest.constants"=some 1:=by kernel_rfl
  have b7:(Tryz.prog.globals[1]?).map (·.type)=some 302:=by kernel_rfl
  obtain rfl:=Option.some.inj (a2.symm.trans alv);obtain rfl:=Option.some.inj (b7.symm.trans KH);rw[au5];exact ajZ Ll a2 iZ (n:=64) (e:=76) (by kernel_rfl) (by kernel_rfl) (by kernel_rfl) JN (by rfl)
 ·exact .bad _
end Go.ct

namespace Go.ct
open Go Go.Proofs
set_option maxRecDepth 100000
open hK
def Of:ad->Option B
 | .int .u8 (.ofNat n)=>match Nat.ble n 255 with | true=>some (BitVec.ofNat 8 n) | false=>none
 | _=>none
def Ow:List ad->Option (List B)
 | []=>some []
 | c::r=>match Of c with
  | some b=>match Ow r with | some l=>some (b::l) | none=>none
  | none=>none
def db:ad->Option (List B)
 | .aM cs=>match Ow cs with | some l=>(match Nat.beq l.length 32 with | true=>some l | false=>none) | none=>none
 | _=>none
def acd:List (List ad)->Option (List B)
 | []=>some []
 | [c] ::r=>match Of c with
  | some b=>match acd r with | some l=>some (b::l) | none=>none
  | none=>none
 | _=>none
def aeY:ad->Option fH
 | .aK=>some none
 | .cr 1 es=>match acd es with | some l=>some (some l) | none=>none
 | _=>none
def auV:List ad->Option ad
 | [c]=>match aeY c with
  | some s=>match Nat.ble s.l.length 10000 with | true=>some (.b5 [fL (iR s.l),.int .i64 0]) | false=>none
  | none=>none
 | _=>none
abbrev nt:FuncId × Bool × (List ad->Option ad) :=(145,false,auV)
end Go.ct

namespace Go.ct
open Go Go.Proofs Go.Sort Go.Shelf
set_option maxRecDepth 100000
open hK
def cI:List B->List B->Int
 | [],[]=>0
 | [],_::_=>-1
 | _::_,[]=>1
 | a::mN,b::nX=>if a.toNat<b.toNat then -1 else if b.toNat<a.toNat then 1 else cI mN nX
theorem RX (a b:B) (mN nX:List B) :cI (a::mN) (b::nX)=if a.toNat<b.toNat then -1 else if b.toNat<a.toNat then 1 else cI mN nX:=rfl
theorem pP:∀ a:List B,cI a a=0
 | []=>rfl
 | a::mN=>by unfold cI; simp; exact pP mN
theorem r7:∀ {a b:List B},cI a b=0->a=b
 | [],[],_=>rfl
 | [],_::_,h=>by simp[cI] at h
 | _::_,[],h=>by simp[cI] at h
 | a::mN,b::nX,h=>by
  unfold cI at h;split at h
  ·cases h
  ·split at h
   ·cases h
   ·have h1:a=b:=aCV (by omega);rw[h1,r7 h]
theorem r8:∀ a b:List B,cI b a=- cI a b
 | [],[]=>rfl
 | [],_::_=>rfl
 | _::_,[]=>rfl
 | a::mN,b::nX=>by
  unfold cI;by_cases h1:a.toNat<b.toNat
  ·simp[h1,show ¬ b.toNat<a.toNat by omega]
  ·by_cases ag:b.toNat<a.toNat
   ·simp[h1,ag]
   ·simp[h1,ag]; exact r8 mN nX
theorem Bz:∀ a b:List B,cI a b=-1\/cI a b=0\/cI a b=1
 | [],[]=>by simp[cI]
 | [],_::_=>by simp[cI]
 | _::_,[]=>by simp[cI]
 | a::mN,b::nX=>by
  unfold cI;split
  ·simp
  ·split
   ·simp
   ·exact Bz mN nX
theorem vf:∀ a b c:List B,cI a b<0->cI b c<0->cI a c<0
 | [],[],_,h,_=>by simp[cI] at h
 | [],_::_,[],_,h=>by simp[cI] at h
 | [],_::_,_::_,_,_=>by simp[cI]
 | _::_,[],_,h,_=>by simp[cI] at h
 | _::_,_::_,[],_,h=>by simp[cI] at h
 | a::mN,b::nX,c::att,h1,ag=>by
  unfold cI at h1 ag ⊢;have aY:=vf mN nX att
  repeat' split at h1
  all_goals repeat' split at ag
  all_goals repeat' split
  all_goals first | omega | (exact aY h1 ag) | (exfalso; omega) | skip
def gl (a b:List B) :Bool:=ltOf cI a b
theorem yh (a b:List B) :gl a b=true<->cI a b<0:=by unfold gl ltOf; simp
theorem MW:SWO (ltOf cI) where
 irrefl x:=by unfold ltOf; rw[pP]; rfl
 trans x y z h1 ag:=by
  unfold ltOf at *
  simp only[decide_eq_true_eq] at *
  exact vf x y z h1 ag
 ntrans x y z h1 ag:=by
  unfold ltOf at *
  simp only[decide_eq_false_iff_not] at *
  intro aq;have a2:=r8 x y;have b7:=r8 y z;rcases Bz x y with h | h | h
  ·omega
  ·have:=r7 h; subst this; omega
  ·rcases Bz y z with h' | h' | h'
   ·omega
   ·have:=r7 h'; subst this; omega
   ·have:=vf z y x (by omega) (by omega);have dG:=r8 x z;omega
theorem aej (x y:List B) (h1:ltOf cI x y=false) (ag:ltOf cI y x=false) :x=y:=by
 unfold ltOf at *
 simp only[decide_eq_false_iff_not] at *
 have e:=r8 x y;exact r7 (by omega)
theorem ais {a b:List B} (k:Nat) (h:∀ j,j<k->a[j]? = b[j]?) (aD:k<=a.length) (ai:k<=b.length) :cI (a.drop k) (b.drop k)=cI a b:=by
 induction k with
 | zero=>simp
 | succ k aY=>
  rw[<-aY (fun j am=>h j (by omega)) (by omega) (by omega)];have h1:=h k (by omega);rw[aDy (l:=a) (i:=k) (by omega),aDy (l:=b) (i:=k) (by omega)];rw[aCM (by omega),aCM (by omega)] at h1;have ag:=Option.some.inj h1
  conv=>rhs; unfold cI
  rw[ag];simp
end Go.ct

namespace Go.ct
open Go Go.Proofs
set_option maxRecDepth 100000
namespace Op
open hK
abbrev Q:=BitVec 64
abbrev D:=BitVec 32
theorem Nc:(u (1#64) :Int)=1:=rfl
def fj (x:D) :List ad:=[bR x]
def rx (l:List D) :Q:=l.foldl (fun o x=>o*x.setWidth 64 % 1000000007#64) 1#64
theorem aoH (l:List D) (k:Nat) (x:D) (h:l[k]? = some x) :rx (l.take (k+1))=rx (l.take k)*x.setWidth 64 % 1000000007#64:=by
 rw[aC4,h]; simp[rx,aFf]
theorem Hg (x:Q) :cP .rem .u64 (u x) .u64 1000000007=some (.int .u64 (u (x % 1000000007#64))) :=y0 x 1000000007#64 (by decide)
theorem LM (l:List D) (ar:l.length<=1000) :bE Tryz.prog GS 245 [.int .u64 1000000007,c0 1 fj (some l)] (bR ((rx l).setWidth 32)) :=by
 refine bS Tryz.checked.mixed bP ?_;apply bw agU arC;unfold QC aav;have bu:c1 (.av 1) (c0 1 fj (some l))=some (.int .i64 l.length) :=rr _;simp[bu];refine c2 l.length (fun k ah _=>ah 0=.int .u64 1000000007/\ah 5=dm (rx (l.take k))/\ah 8=c0 1 fj (some l)/\ah 9=.int .i64 l.length/\ah 10=.int .i64 k) ?_ (by simp[rx]; rfl);rintro k ah h hk ⟨cd,bC,et,hB,gJ⟩;obtain⟨ah,rfl⟩:=mR cd bC et hB gJ;clear cd bC et hB gJ;unfold WK;by_cases h:k<l.length
 ·obtain⟨x,al,_⟩:=bV h;have bZ:cC (.av 1) (c0 1 fj (some l)) (.int .i64 k)=some (.cm (fj x) 0) :=by rw[sI]; simp[al]
  have fP:IntKind.i64.wrap ((k:Int)+1)=(k+1:Nat) :=wrap_i64 (by omega) (by omega);have ap:=aoH l k x al;simp[h,bZ,fj,fP,Hg];rw[<-ap]
 ·have fE:k=l.length:=by omega
  subst fE;simp;exact aJ rfl rfl
def gn (a n:Nat) :Nat:=a ^ n % 1000000007
theorem yq (a n:Nat) :gn a n<1000000007:=aES _ (by decide)
theorem Yq (a n:Nat) :gn a n*gn a n % 1000000007=gn a (2*n) :=by
 unfold gn; rw[<-aFk,<-aEI]; congr 2; omega
theorem Yo (a n:Nat) :gn a n*a % 1000000007=gn a (n+1) :=by
 unfold gn; rw[Nat.mod_mul_mod,Nat.pow_succ]
def hA (a:D) (n:Nat) :D:=BitVec.ofNat 32 (gn a.toNat n)
theorem sZ (a:D) (n:Nat) :(hA a n).toNat=gn a.toNat n:=by
 have:=yq a.toNat n;unfold hA; rw[aC7]; exact aC1 (by omega)
theorem LL (x y:D) (al:x.toNat<1000000007) :(rx [x,y]).setWidth 32=BitVec.ofNat 32 (x.toNat*y.toNat % 1000000007) :=by
 apply aCV;have aE:=y.isLt;have h1:x.toNat*y.toNat<1000000007*4294967296:=by
  calc x.toNat*y.toNat<=1000000007*y.toNat:=aCN _ (by omega)
   _<1000000007*4294967296:=Nat.mul_lt_mul_of_pos_left (by simpa using aE) (by decide)
 have ag:(1#64*x.setWidth 64 % 1000000007#64).toNat=x.toNat:=by
  rw[BitVec.one_mul,aDU,aC5];rw[aC1 (show x.toNat<2 ^ 64 by omega),show (1000000007#64).toNat=1000000007 from rfl,aC1 al]
 simp only[rx,aF0,List.foldl_nil,aC5,aDU,aEJ,ag,aC7];rw[aC1 (show y.toNat<2 ^ 64 by omega),aC1 (show x.toNat*y.toNat<2 ^ 64 by omega),aC1 (show 1000000007<2 ^ 64 by decide)]
theorem aoI (a:D) (n:Nat) :(rx [hA a n,hA a n]).setWidth 32=hA a (2*n) :=by
 rw[LL _ _ (by rw[sZ]; exact yq _ _),sZ,Yq]; rfl
theorem mul_one (a:D) (n:Nat) :(rx [hA a n,a]).setWidth 32=hA a (n+1) :=by
 rw[LL _ _ (by rw[sZ]; exact yq _ _),sZ,Yo]; rfl
theorem DM {l:aw} {b:Nat} {x y:D} (h:l[b]? = some (.cells 2 [bR x,bR y])) :gH (cj l) (.av 1 b 0 2 2 2) (c0 1 fj (some [x,y])) :=by
 refine DL (rest:=[]) (es:=[[bR x],[bR y]]) (by simpa using h) rfl (by simp) (by simp[a7,ad.closed])
theorem ajJ:js Tryz.prog 260=true:=by kernel_rfl
theorem auK {x:D} {l:aw} {K:ad->aw->Prop} (bA:∀ v rest,K v (.cells 1 [bR ((rx [x,x]).setWidth 32)] ::rest)) :dS Tryz.prog GS 260 [.ptr 0 0 1] (.cells 1 [bR x] ::l) (c:=⟨K⟩) :=by
 apply bw ag5 arN;unfold QN aaG;simp;refine i3 (LM [x,x] (by simp)) (.cons (.same _ rfl) (.cons (DM (by simp)) .nil)) rfl ?_;simp;exact bA _ _
theorem TH (n k:Nat) (hk:k<64) :n / 2 ^ (63 - k)=2*(n / 2 ^ (64 - k))+n / 2 ^ (63 - k) % 2:=by
 have:2 ^ (64 - k)=2 ^ (63 - k)*2:=by rw[<-Nat.pow_succ]; congr 1; omega
 rw[this,<-Nat.div_div_eq_div_mul]; omega
theorem L7 (a:D) (n:Q) :bE Tryz.prog GS 241 [bR a,dm n] (bR (hA a n.toNat)) :=by
 refine bS Tryz.checked.mixed bP ?_;apply bw agQ ary;unfold Qy aar;simp;refine c2 64 (fun k ah l=>ah 0=bR a/\ah 1=dm n/\ah 5=.ptr 0 0 1/\ah 6=.fn 260 [] [.ptr 0 0 1]/\ah 9=.int .i64 k/\∃ r,l=.cells 1 [bR (hA a (n.toNat / 2 ^ (64 - k)))] ::r) ?_ (by
  have:n.toNat / 2 ^ 64=0:=aD7 n.isLt;simp[this,hA,gn]; rfl)
 rintro k ah l hk ⟨cd,aW,bC,cv,hB,r,rfl⟩;obtain⟨ah,rfl⟩:=mR cd aW bC cv hB;clear cd aW bC cv hB;unfold WI;by_cases h:(k:Int)<64
 ·have fP:IntKind.i64.wrap ((k:Int)+1)=(k+1:Nat) :=wrap_i64 (by omega) (by omega);have rn:IntKind.i64.wrap (63 - (k:Int))=((63 - k:Nat) :Int) :=by rw[wrap_i64 (by omega) (by omega)]; omega
  have ai:=TH n.toNat k (by omega);have pi:cP .shr .u64 (u n) .i64 ((63 - k:Nat) :Int)=some (.int .u64 (u (n >>> (63 - k)))) :=tt n .i64 (63 - k);have akc:64 - (k+1)=63 - k:=by omega
  simp[h,fP];refine⟨ajJ,?_⟩;simp;refine auK fun v rest=>?_
  simp[rn,pi,aoI];rw[akc];by_cases ax:n.toNat / 2 ^ (63 - k) % 2=1
  ·have JK:n >>> (63 - k) &&& 1#64=1#64:=by
    apply aCV;rw[aFn,aDo,aC8];show _ &&& 1=1;rw[Nat.and_one_is_mod,ax]
   rw[ax] at ai;have bD:hA a (2*(n.toNat / 2 ^ (64 - k))+1)=hA a (n.toNat / 2 ^ (63 - k)) :=by rw[<-ai]
   simp[JK,Nc];refine i3 (LM [hA a (2*(n.toNat / 2 ^ (64 - k))),a] (by simp)) (.cons (.same _ rfl) (.cons (DM (by simp)) .nil)) rfl ?_;rw[mul_one,bD];simp[fP];omega
  ·have ax:n.toNat / 2 ^ (63 - k) % 2=0:=by omega
   have JK:n >>> (63 - k) &&& 1#64=0#64:=by
    apply aCV;rw[aFn,aDo,aC8];show _ &&& 1=0;rw[Nat.and_one_is_mod,ax]
   rw[ax,aFq] at ai;simp[JK,fP];rw[<-ai];exact⟨by omega,rfl⟩
 ·have fE:k=64:=by omega
  subst fE;simp;exact aJ rfl rfl
theorem Mb (a b:Q) (ai:b≠0#64) :cP .quo .u64 (u a) .u64 (u b)=some (.int .u64 (u (a / b))) :=by
 have ca:(b.toNat:Int)≠0:=fun e=>ai (aCV (by simpa using e))
 show (if IntKind.u64=IntKind.u64/\(b.toNat:Int)≠0 then some (ad.int .u64 (IntKind.u64.wrap ((a.toNat:Int).tdiv b.toNat))) else none)=_;rw[if_pos ⟨rfl,ca⟩,uO];congr 2;have:((a.toNat:Int).tdiv b.toNat)=((a.toNat / b.toNat:Nat) :Int) :=rfl;rw[this,aDI];congr 1;apply aCV;rw[aC7,aEh];exact aC1 (Nat.lt_of_le_of_lt (aF1 _ _) a.isLt)
theorem YA (x:Q) :cP .quo .u64 (u x) .u64 2=some (.int .u64 (u (x / 2#64))) :=Mb x 2#64 (by decide)
theorem ab2 (x:Q) :cP .rem .u64 (u x) .u64 2=some (.int .u64 (u (x % 2#64))) :=y0 x 2#64 (by decide)
theorem AF (x y:Q) (al:x.toNat<4294967296) (aE:y.toNat<4294967296) :(x*y % 1000000007#64).toNat=x.toNat*y.toNat % 1000000007:=by
 have h1:x.toNat*y.toNat<18446744073709551616:=by
  calc x.toNat*y.toNat<=4294967295*y.toNat:=aCN _ (by omega)
   _<=4294967295*4294967295:=Nat.mul_le_mul_left _ (by omega)
   _<18446744073709551616:=by decide
 rw[aDU,aEJ,aC1 (show x.toNat*y.toNat<2 ^ 64 by omega)]; rfl
theorem apD (o b m:Nat) (h:m % 2=1) :o*b % 1000000007*(b*b % 1000000007) ^ (m / 2) % 1000000007=o*b ^ m % 1000000007:=by
 have hm:m=2*(m / 2)+1:=by omega
 rw[aFk,Nat.mod_mod,aFB (b*b % 1000000007),Nat.mod_mod,<-aFB,<-aFk];congr 1;rw[Nat.mul_pow,Nat.mul_assoc,<-aEI]
 conv=>rhs; rw[hm,Nat.pow_succ]
 rw[aFV b,show 2*(m / 2)=m / 2+m / 2 by omega]
theorem apC (o b m:Nat) (h:m % 2=0) :o*(b*b % 1000000007) ^ (m / 2) % 1000000007=o*b ^ m % 1000000007:=by
 have hm:m=2*(m / 2) :=by omega
 rw[aFk,aFB (b*b % 1000000007),Nat.mod_mod,<-aFB,<-aFk];congr 1;rw[Nat.mul_pow,<-aEI]
 conv=>rhs; rw[hm]
 rw[show 2*(m / 2)=m / 2+m / 2 by omega]
theorem Yr (a n:Q) (aD:a.toNat<4294967296) :bE Tryz.prog GS 175 [dm a,dm n,.int .u64 1000000007] (dm (BitVec.ofNat 64 (gn a.toNat n.toNat))) :=by
 refine bS Tryz.checked.mixed bP ?_;apply bw af7 aqN;unfold PO ZI;simp;refine rv (fun m ah _=>∃ o b c:Q,c.toNat=m/\o.toNat<1000000007/\b.toNat<4294967296/\o.toNat*b.toNat ^ m % 1000000007=gn a.toNat n.toNat/\ah 0=dm b/\ah 1=dm c/\ah 2=.int .u64 1000000007/\ah 7=dm o) ?_ n.toNat _ _ ⟨1#64,a,n,rfl,by decide,aD,by simp[gn],by simp; rfl⟩;rintro m ah l ⟨o,b,c,ak,ax,ai,aF,cd,aW,bg,eU⟩;obtain⟨ah,rfl⟩:=hW cd aW bg eU;clear cd aW bg eU;unfold Wt;have h5:(u c:Int)=(m:Int) :=by unfold u; rw[ak]
 by_cases hm:m=0
 ·subst hm;have aG:c=0#64:=aCV (by simpa using ak);simp[aG];refine aJ ?_ rfl;rw[Nat.pow_zero,aEk,aC1 ax] at aF;rw[<-aF,aFH,BitVec.setWidth_eq]
 ·have zH:c≠0#64:=fun e=>hm (by rw[<-ak,e]; rfl)
  have aP:(0:Int)<u c:=by rw[h5]; omega
  have Ui:(c / 2#64).toNat=m / 2:=by rw[aEh,ak]; rfl
  have UH:(c % 2#64).toNat=m % 2:=by rw[aDU,ak]; rfl
  have cy:(b*b % 1000000007#64).toNat<4294967296:=by
   rw[AF b b ai ai]; have:=aES (b.toNat*b.toNat) (show 1000000007 > 0 by decide); omega
  by_cases UR:m % 2=1
  ·have h1:c % 2#64=1#64:=aCV (by rw[UH,UR]; rfl);simp[aP,Hg,YA,ab2,h1,Nc];have dC:o.toNat<4294967296:=by omega
   refine⟨m / 2,by omega,_,_,_,Ui,?_,cy,?_,rfl,rfl,rfl⟩
   ·rw[AF o b dC ai]; exact aES _ (by decide)
   ·rw[AF o b dC ai,AF b b ai ai,apD _ _ _ UR,aF]
  ·have h1:c % 2#64=0#64:=aCV (by rw[UH]; simp; omega);simp[aP,Hg,YA,ab2,h1,Nc];refine⟨m / 2,by omega,_,_,_,Ui,ax,cy,?_,rfl,rfl,rfl⟩;rw[AF b b ai ai,apC _ _ _ (by omega),aF]
def gO (a:D) :Bool:=decide (0<a.toNat)&&decide (a.toNat<1000000007)&&decide (gn a.toNat 500000003=1)
theorem Lc (a:D) :bE Tryz.prog GS 199 [bR a] (.bool (gO a)) :=by
 refine bS Tryz.checked.mixed bP ?_;apply bw agm aq1;unfold P3 ZV gO;have h1:((0:Int)<u a)<->0<a.toNat:=by unfold u; omega
 have ag:(u a<(1000000007:Int))<->a.toNat<1000000007:=by unfold u; omega
 by_cases aW:0<a.toNat
 ·by_cases bg:a.toNat<1000000007
  ·simp[h1,ag,aW,bg];refine a8 (L7 a 500000003#64) rfl ?_;have aq:(u (hA a 500000003)=(1:Int))<->gn a.toNat 500000003=1:=by unfold u; rw[sZ]; omega
   have aH:(500000003#64:Q).toNat=500000003:=rfl;rw[aH];simp[aq];exact aJ (by simp[aW,bg]) rfl
  ·simp[h1,ag,aW,bg];exact aJ rfl rfl
 ·simp[h1,aW];exact aJ rfl rfl
theorem abY (a:D) :bE Tryz.prog GS 128 [bR a] (.bool (gO a)) :=by
 refine bS Tryz.checked.mixed bP ?_;apply bw afs ap8;unfold O7 Y2 gO;have h1:((1:Int)<=u a)<->0<a.toNat:=by unfold u; omega
 have ag:(u a<(1000000007:Int))<->a.toNat<1000000007:=by unfold u; omega
 by_cases aW:0<a.toNat
 ·by_cases bg:a.toNat<1000000007
  ·simp[h1,ag,aW,bg];refine a8 (Yr (a.setWidth 64) 500000003#64 (by rw[aC5]; omega)) rfl ?_;have bd:(a.setWidth 64:Q).toNat=a.toNat:=by rw[aC5]; omega
   have aH:(500000003#64:Q).toNat=500000003:=rfl;have bM:=yq a.toNat 500000003;have aq:(u (BitVec.ofNat 64 (gn a.toNat 500000003))=(1:Int))<->gn a.toNat 500000003=1:=by unfold u; rw[aC7,aC1 (by omega)]; omega
   rw[aH,bd];simp[aq];exact aJ (by simp[aW,bg]) rfl
  ·simp[h1,ag,aW,bg];exact aJ rfl rfl
 ·simp[h1,aW];exact aJ rfl rfl
def jT (a:D) :Bool:=decide (a.toNat<500000003)
theorem EQ (a:D) :bE Tryz.prog GS 130 [bR a] (.bool (jT a)) :=by
 refine bS Tryz.checked.mixed bP ?_;apply bw afu aqa;unfold Pb Y5 jT;have ag:(u (a.setWidth 64)<(500000003:Int))<->a.toNat<500000003:=by unfold u; rw[aC5]; omega
 simp[ag];exact aJ rfl rfl
@[simp] theorem axe (a b:List UInt8) :ob .eql a b=some (.bool (decide (a=b))) :=by
 by_cases h:a=b<;>simp[ob,h]
@[simp] theorem axh (a b:List UInt8) :ob .neq a b=some (.bool (!decide (a=b))) :=by
 by_cases h:a=b<;>simp[ob,h]
abbrev oh (s:List UInt8) (pos:Nat) :Nat × Nat:=Utf8.decode ⟨s.toArray⟩ pos
theorem Td (s:List UInt8) (pos:Nat) (b:UInt8) (h:s[pos]? = some b) :(ByteArray.get! ⟨s.toArray⟩ pos)=b:=by
 show (s.toArray)[pos]! = b;obtain⟨h1,ag⟩:=aCJ.1 h;simp[h1,ag]
theorem aiM {s:List UInt8} {pos:Nat} {b:UInt8} (h:s[pos]? = some b) (ai:b.toNat<128) :oh s pos=(b.toNat,1) :=by
 unfold oh;rw[Lib.decode_at,Td s pos b h];unfold Lib.decodeN;rw[if_pos ai]
theorem aiL {s:List UInt8} {pos:Nat} {b:UInt8} (h:s[pos]? = some b) (ai:128<=b.toNat) :128<=(oh s pos).1:=by
 unfold oh;rw[Lib.decode_at,Td s pos b h];unfold Lib.decodeN;rw[if_neg (by omega)]
 repeat' split
 all_goals (simp only; omega)
theorem Sg (s:List UInt8) (pos:Nat) :1<=(oh s pos).2:=by
 unfold oh;rw[Lib.decode_at];unfold Lib.decodeN
 repeat' split
 all_goals simp only<;>omega
def lK (p:Nat->Bool) (s:List UInt8) :Nat->Nat->Int
 | 0,_=>-1
 | n+1,pos=>if pos<s.length then (if p (oh s pos).1 then (pos:Int) else lK p s n (pos+(oh s pos).2)) else -1
theorem Lg (p:Nat->Bool) (s:List UInt8) :∀ (n pos:Nat),s.length - pos<=n->lK p s n pos=lK p s (s.length - pos) pos
 | 0,pos,h=>by rw[show s.length - pos=0 by omega]
 | n+1,pos,h=>by
  by_cases aF:pos<s.length
  ·have hw:=Sg s pos;rw[show s.length - pos=(s.length - pos - 1)+1 by omega];unfold lK;rw[if_pos aF,if_pos aF,Lg p s n _ (by omega),Lg p s (s.length - pos - 1) _ (by omega)]
  ·rw[show s.length - pos=0 by omega];unfold lK;rw[if_neg aF]
def nz (dn r:Nat) :Bool:=decide (r<dn)||decide (126<r)
def hR (dn:Nat) (b:UInt8) :Bool:=decide (dn<=b.toNat)&&decide (b.toNat<=126)
theorem Lf (dn:Nat) (fY:dn<=128) (s:List UInt8) :∀ (n pos:Nat),s.length - pos<=n->(lK (nz dn) s n pos<0<->(s.drop pos).all (hR dn)=true)
 | 0,pos,h=>by
  rw[aDB (by omega)];simp[lK]
 | n+1,pos,h=>by
  unfold lK;by_cases aF:pos<s.length
  ·rw[if_pos aF,aDy aF,aF9];have eK:s[pos]? = some s[pos] :=aCM aF;obtain⟨b,ai⟩:∃ b,b=s[pos] :=⟨_,rfl⟩
   rw[<-ai] at eK ⊢;by_cases ap:b.toNat<128
   ·rw[aiM eK ap];simp only;have fa:hR dn b=!nz dn b.toNat:=by
     unfold hR nz;by_cases h1:b.toNat<dn<;>by_cases ag:126<b.toNat<;>simp[h1,ag]<;>omega
    cases q4:nz dn b.toNat with
    | true=>rw[fa,q4]; simp
    | false=>
     rw[fa,q4];simp only[aDV,if_false,aFA,aDL];exact Lf dn fY s n (pos+1) (by omega)
   ·have aA:=aiL eK (by omega);have q4:nz dn (oh s pos).1=true:=by unfold nz; simp; omega
    have fa:hR dn b=false:=by unfold hR; simp; omega
    rw[q4,fa]; simp
  ·rw[if_neg aF,aDB (by omega)];simp
theorem aoO {s:List UInt8} {pos:Nat} {r:aw} (h:pos<s.length) :wa (.iter s pos::r) (.it 0)=some (.b5 [.bool true,.int .i64 pos,.int .i32 (oh s pos).1],.iter s (pos+(oh s pos).2) ::r) :=by
 unfold wa;simp only[aDd];rw[show Nat.blt pos s.length=true from Nat.ble_eq_true_of_le h];rfl
theorem aoN {s:List UInt8} {pos:Nat} {r:aw} (h:¬ pos<s.length) :wa (.iter s pos::r) (.it 0)=some (.b5 [.bool false],.iter s pos::r) :=by
 unfold wa;simp only[aDd];rw[show Nat.blt pos s.length=false by cases ai:Nat.blt pos s.length with | false=>rfl | true=>exact absurd (aED ai) h]
theorem ang {g:FuncId} {p:Nat->Bool} (aA:js Tryz.prog g=true) (aF:∀ r:Nat,bE Tryz.prog GS g [.int .i32 r] (.bool (p r))) (s:List UInt8) :
  bE Tryz.prog GS 251 [.str s,.fn g [] [],.bool true] (.int .i64 (lK p s s.length 0)) :=by
 refine bS Tryz.checked.mixed bP ?_;apply bw agX arF;unfold QF aay;simp[DK];refine rv (fun m ah l=>∃ pos,s.length - pos=m/\lK p s m pos=lK p s s.length 0/\ah 1=.fn g [] []/\ah 2=.bool true/\ah 10=.it 0/\l=[.iter s pos]) ?_ s.length _ _ ⟨0,by simp⟩;rintro m ah l ⟨pos,hm,aB,aW,bg,gJ,rfl⟩;obtain⟨ah,rfl⟩:=jJ aW bg gJ;clear aW bg gJ;unfold WN;by_cases h:pos<s.length
 ·have g2:m=(m - 1)+1:=by omega
  have hw:=Sg s pos;obtain⟨R,fR⟩:∃ R,R=lK p s s.length 0:=⟨_,rfl⟩
  rw[<-fR] at aB ⊢;rw[g2] at aB;unfold lK at aB;rw[if_pos h] at aB;simp[aoO h];refine⟨aA,a8 (aF _) rfl ?_⟩;cases ai:p (oh s pos).1 with
  | true=>
   rw[ai] at aB;simp;exact aJ (by rw[<-aB]; simp) rfl
  | false=>
   rw[ai] at aB;simp;refine⟨s.length - (pos+(oh s pos).2),by omega,pos+(oh s pos).2,rfl,?_,by simp,by simp,by simp,by simp⟩;rw[<-aB];simp only[aDV,if_false];rw[Lg p s (m - 1) _ (by omega)]
 ·have kg:m=0:=by omega
  subst kg;simp[aoN h];exact aJ (by rw[<-aB]; rfl) rfl
theorem acH {g:FuncId} {p:Nat->Bool} (aA:js Tryz.prog g=true) (aF:∀ r:Nat,bE Tryz.prog GS g [.int .i32 r] (.bool (p r))) (s:List UInt8) :
  bE Tryz.prog GS 218 [.str s,.fn g [] []] (.int .i64 (lK p s s.length 0)) :=by
 refine bS Tryz.checked.mixed bP ?_;apply bw agx arc;unfold Qe Z6;simp;refine a8 (ang aA aF s) rfl ?_;simp;exact aJ rfl rfl
theorem anU (r:Nat) :bE Tryz.prog GS 219 [.int .i32 r] (.bool (nz 33 r)) :=by
 refine bS Tryz.checked.mixed bP ?_;apply bw agy ard;unfold Qf Z7 nz;have h1:((r:Int)<33)<->r<33:=by omega
 have ag:((126:Int)<r)<->126<r:=by omega
 by_cases h:r<33
 ·simp[h1,h];exact aJ rfl rfl
 ·simp[h1,h,ag];exact aJ rfl rfl
theorem au6 (r:Nat) :bE Tryz.prog GS 221 [.int .i32 r] (.bool (nz 32 r)) :=by
 refine bS Tryz.checked.mixed bP ?_;apply bw agB ari;unfold Qi aac nz;have h1:((r:Int)<32)<->r<32:=by omega
 have ag:((126:Int)<r)<->126<r:=by omega
 by_cases h:r<32
 ·simp[h1,h];exact aJ rfl rfl
 ·simp[h1,h,ag];exact aJ rfl rfl
theorem ajG:js Tryz.prog 219=true:=by kernel_rfl
theorem ajK:js Tryz.prog 221=true:=by kernel_rfl
def hz (s:List UInt8) :Bool:=decide (1<=s.length)&&decide (s.length<=20)&&s.all (hR 33)
theorem Lp (s:List UInt8) :bE Tryz.prog GS 157 [.str s] (.bool (hz s)) :=by
 refine bS Tryz.checked.mixed bP ?_;apply bw afR aqx;unfold Pz Zt hz;have h1:((1:Int)<=s.length)<->1<=s.length:=by omega
 have ag:((s.length:Int)<=20)<->s.length<=20:=by omega
 by_cases aW:1<=s.length
 ·by_cases bg:s.length<=20
  ·simp[h1,ag,aW,bg];refine a8 (acH ajG anU s) rfl ?_;have:=Lf 33 (by omega) s s.length 0 (by omega);rw[aDH] at this;have aq:decide (lK (nz 33) s s.length 0<0)=s.all (hR 33) :=by
    cases ai:s.all (hR 33) with
    | true=>simpa using this.2 ai
    | false=>
     have:¬ lK (nz 33) s s.length 0<0:=fun h=>by rw[this.1 h] at ai; cases ai
     simpa using this
   simp;rw[aq];exact aJ (by simp[aW,bg]) rfl
  ·simp[h1,ag,aW,bg];exact aJ (by simp[aW,bg]) rfl
 ·simp[h1,aW];exact aJ (by simp[aW]) rfl
theorem NZ {s:List UInt8} {p:UInt8->Bool} {k:Nat} {b:UInt8} (h:s[k]? = some b) :(s.take (k+1)).all p=((s.take k).all p&&p b) :=by
 rw[aC4,h]; simp[List.all_append]
theorem En {s:List UInt8} {p:UInt8->Bool} {k:Nat} {b:UInt8} (h:s[k]? = some b) (aF:p b=false) :s.all p=false:=by
 rw[List.all_eq_false];exact⟨b,aCP h,by simp[aF]⟩
theorem Dn (s:List UInt8) :bE Tryz.prog GS 108 [.str s] (.bool (hz s)) :=by
 refine bS Tryz.checked.mixed bP ?_;apply bw ae9 apP;unfold OO YK;have h1:((s.length:Int)<1)<->¬ 1<=s.length:=by omega
 have ag:((20:Int)<s.length)<->¬ s.length<=20:=by omega
 by_cases aW:1<=s.length
 ·by_cases bg:s.length<=20
  ·simp[h1,ag,aW,bg];refine c2 s.length (fun k ah _=>ah 0=.str s/\ah 3=.int .i64 k/\(s.take k).all (hR 33)=true) ?_ (by simp);rintro k ah l hk ⟨ih,dG,fS⟩;obtain⟨ah,rfl⟩:=lS ih dG;clear ih dG;unfold VY;by_cases h:k<s.length
   ·obtain⟨b,ai,_⟩:=bV h;have fP:IntKind.i64.wrap ((k:Int)+1)=(k+1:Nat) :=wrap_i64 (by omega) (by omega);have dE:((b.toNat:Int)<33)<->¬ 33<=b.toNat:=by omega
    have dA:((126:Int)<b.toNat)<->¬ b.toNat<=126:=by omega
    have fO:Ay (.str s) (.int .i64 k)=some (.int .u8 b.toNat) :=by simp[ai,jR]
    by_cases q1:33<=b.toNat
    ·by_cases fh:b.toNat<=126
     ·have fa:hR 33 b=true:=by simp[hR,q1,fh]
      simp[h,fO,dE,dA,q1,fh,fP,NZ ai,fa,-Az];simpa using fS
     ·have fa:hR 33 b=false:=by simp[hR,fh]
      simp[h,fO,dE,dA,q1,fh,-Az];exact aJ (by simp[hz,En ai fa]) rfl
    ·have fa:hR 33 b=false:=by simp[hR,q1]
     simp[h,fO,dE,q1,-Az];exact aJ (by simp[hz,En ai fa]) rfl
   ·have fE:k=s.length:=by omega
    subst fE;rw[aDi] at fS;simp;exact aJ (by simp only[hz,fS]; simp[aW,bg]) rfl
  ·simp[h1,ag,aW,bg];exact aJ (by simp[hz,bg]) rfl
 ·simp[h1,aW];exact aJ (by simp[hz,aW]) rfl
theorem apt (s:List UInt8) (ar:s.length<=1000000000) :bE Tryz.prog GS 163 [.str s] (.bool (s.all (hR 32))) :=by
 refine bS Tryz.checked.mixed bP ?_;apply bw afX aqD;unfold PE Zz;simp;refine c2 s.length (fun k ah _=>ah 0=.str s/\ah 3=.int .i64 k/\(s.take k).all (hR 32)=true) ?_ (by simp);rintro k ah l hk ⟨ih,dG,fS⟩;obtain⟨ah,rfl⟩:=lS ih dG;clear ih dG;unfold Wl;by_cases h:k<s.length
 ·obtain⟨b,ai,_⟩:=bV h;have fP:IntKind.i64.wrap ((k:Int)+1)=(k+1:Nat) :=wrap_i64 (by omega) (by omega);have dE:((b.toNat:Int)<32)<->¬ 32<=b.toNat:=by omega
  have dA:((126:Int)<b.toNat)<->¬ b.toNat<=126:=by omega
  have fO:Ay (.str s) (.int .i64 k)=some (.int .u8 b.toNat) :=by simp[ai,jR]
  by_cases q1:32<=b.toNat
  ·by_cases fh:b.toNat<=126
   ·have fa:hR 32 b=true:=by simp[hR,q1,fh]
    simp[h,fO,dE,dA,q1,fh,fP,NZ ai,fa,-Az];simpa using fS
   ·have fa:hR 32 b=false:=by simp[hR,fh]
    simp[h,fO,dE,dA,q1,fh,-Az];exact aJ (by simp only[En ai fa]) rfl
  ·have fa:hR 32 b=false:=by simp[hR,q1]
   simp[h,fO,dE,q1,-Az];exact aJ (by simp only[En ai fa]) rfl
 ·have fE:k=s.length:=by omega
  subst fE;rw[aDi] at fS;simp;exact aJ (by simp only[fS]) rfl
end Op

end Go.ct

/-
  SHA-256, as lists of words and bytes; the words of a block.
-/
import Derived.Test.YtboebmmklamaeaaGreatDoorSh
import Derived.LaidMore
import Derived.MakeChecks
import Derived.Lib.DecodeN
set_option linter.unusedVariables false
set_option linter.unusedSimpArgs false
set_option linter.unnecessarySimpa false
namespace Go.cl
open Go
namespace gX
abbrev W:=BitVec 32
abbrev B:=BitVec 8
def lI (x:W) (n:Nat) :W:=(x >>> n) ||| (x <<< (32 - n))
def nl (l:List B) :W:=l.foldl (fun a x=>(a <<< 8) ||| x.setWidth 32) 0#32
def part (b:List B) (k t:Nat) :W:=nl (((b.take k).drop (4*t)).take 4)
def eM (b:List B) :List W:=(List.range 16).map fun t=>nl ((b.drop (4*t)).take 4)
def ext (w:List W) :W:=
 let t:=w.length
 let x:=w.getD (t - 15) 0#32
 let y:=w.getD (t - 2) 0#32
 w.getD (t - 16) 0#32+w.getD (t - 7) 0#32+(lI x 7 ^^^ lI x 18 ^^^ (x >>> 3))+(lI y 17 ^^^ lI y 19 ^^^ (y >>> 10))
def hq:Nat->List W->List W
 | 0,w=>w
 | n+1,w=>hq n (w++[ext w])
def eV (b:List B) :List W:=hq 48 (eM b)
def JO (x:W) (i j k:Nat) :W:=lI x i ^^^ lI x j ^^^ lI x k
structure d6 where
 (a b c d e f g h:W)
def round (s:d6) (k w:W) :d6:=
 let p:=s.h+JO s.e 6 11 25+((s.e &&& s.f) ^^^ (~~~s.e &&& s.g))+k+w
 let q:=JO s.a 2 13 22+((s.a &&& s.b) ^^^ (s.a &&& s.c) ^^^ (s.b &&& s.c))
 ⟨p+q,s.a,s.b,s.c,s.d+p,s.e,s.f,s.g⟩
def rounds:d6->List W->List W->d6
 | s,k::bQ,w::gc=>rounds (round s k w) bQ gc
 | s,_,_=>s
def table:List Nat:=[0x428a2f98,0x71374491,0xb5c0fbcf,0xe9b5dba5,0x3956c25b,0x59f111f1,0x923f82a4,0xab1c5ed5,0xd807aa98,0x12835b01,0x243185be,0x550c7dc3,0x72be5d74,0x80deb1fe,0x9bdc06a7,0xc19bf174,0xe49b69c1,0xefbe4786,0x0fc19dc6,0x240ca1cc,0x2de92c6f,0x4a7484aa,0x5cb0a9dc,0x76f988da,0x983e5152,0xa831c66d,0xb00327c8,0xbf597fc7,0xc6e00bf3,0xd5a79147,0x06ca6351,0x14292967,0x27b70a85,0x2e1b2138,0x4d2c6dfc,0x53380d13,0x650a7354,0x766a0abb,0x81c2c92e,0x92722c85,0xa2bfe8a1,0xa81a664b,0xc24b8b70,0xc76c51a3,0xd192e819,0xd6990624,0xf40e3585,0x106aa070,0x19a4c116,0x1e376c08,0x2748774c,0x34b0bcb5,0x391c0cb3,0x4ed8aa4a,0x5b9cca4f,0x682e6ff3,0x748f82ee,0x78a5636f,0x84c87814,0x8cc70208,0x90befffa,0xa4506ceb,0xbef9a3f7,0xc67178f2]
def bQ:List W:=table.map (BitVec.ofNat 32)
def grind (h:d6) (b:List B) :d6:=
 let v:=rounds h bQ (eV b)
 ⟨h.a+v.a,h.b+v.b,h.c+v.c,h.d+v.d,h.e+v.e,h.f+v.f,h.g+v.g,h.h+v.h⟩
def Ey:Nat->d6->List B->d6 × List B
 | 0,h,b=>(h,b)
 | n+1,h,b=>if 64<=b.length then Ey n (grind h (b.take 64)) (b.drop 64) else (h,b)
def gB (h:d6) (b:List B) :d6 × List B:=Ey (b.length / 64) h b
def first:d6:=⟨0x6a09e667#32,0xbb67ae85#32,0x3c6ef372#32,0xa54ff53a#32,0x510e527f#32,0x9b05688c#32,0x1f83d9ab#32,0x5be0cd19#32⟩
def x8 (n:BitVec 64) :List B:=[(n >>> 56).setWidth 8,(n >>> 48).setWidth 8,(n >>> 40).setWidth 8,(n >>> 32).setWidth 8,(n >>> 24).setWidth 8,(n >>> 16).setWidth 8,(n >>> 8).setWidth 8,(n >>> 0).setWidth 8]
def tail (n:Nat) :List B:=128#8::List.replicate ((119 - n % 64) % 64) 0#8++x8 (BitVec.ofNat 64 n*8#64)
def sf (w:W) :List B:=[(w >>> 24).setWidth 8,(w >>> 16).setWidth 8,(w >>> 8).setWidth 8,w.setWidth 8]
def d6.l (s:d6) :List W:=[s.a,s.b,s.c,s.d,s.e,s.f,s.g,s.h]
def written (s:d6) :List B:=(s.l.map sf).flatten
def hA (b:List B) :List B:=written (gB first (b++tail b.length)).1
theorem anq (l:List B) (x:B) :nl (l++[x])=(nl l <<< 8) ||| x.setWidth 32:=by simp[nl,List.foldl_append]
theorem uu:∀ (n:Nat) (w:List W),(hq n w).length=w.length+n
 | 0,w=>rfl
 | n+1,w=>by rw[hq,uu n]; simp; omega
theorem Ac (b:List B) :(eV b).length=64:=by rw[eV,uu]; simp[eM]
theorem DW (s:d6) :(written s).length=32:=rfl
theorem tO (b:List B) :(hA b).length=32:=rfl
theorem Hh:∀ (n:Nat) (w:List W),hq (n+1) w=hq n w++[ext (hq n w)]
 | 0,w=>rfl
 | n+1,w=>by rw[hq,Hh n (w++[ext w])]; rfl
theorem DB (a:W) (x:B) :(a <<< 8) ||| x.setWidth 32=a*256#32+x.setWidth 32:=by
 apply BitVec.eq_of_toNat_eq;have aj:x.toNat<256:=x.isLt;have aG:=a.isLt;rw[BitVec.toNat_or,BitVec.toNat_shiftLeft,BitVec.toNat_add,BitVec.toNat_mul,BitVec.toNat_setWidth];have h1:x.toNat % 2 ^ 32=x.toNat:=Nat.mod_eq_of_lt (by omega);have af:a.toNat <<< 8 % 2 ^ 32=(a.toNat % 2 ^ 24) <<< 8:=by rw[Nat.shiftLeft_eq,Nat.shiftLeft_eq]; omega
 have ap:=Nat.shiftLeft_add_eq_or_of_lt (b:=x.toNat) (i:=8) (by omega) (a.toNat % 2 ^ 24);rw[h1,af,<-ap,Nat.shiftLeft_eq];have aH:(256#32).toNat=256:=rfl;rw[aH];omega
theorem x6 (h:d6) (b:List B) (ai:64<=b.length) :gB h b=gB (grind h (b.take 64)) (b.drop 64) :=by
 have:b.length / 64=(b.drop 64).length / 64+1:=by simp; omega
 rw[gB,this,Ey,if_pos ai];rfl
theorem AU (h:d6) (b:List B) (ai:b.length<64) :gB h b=(h,b) :=by
 rw[gB,Nat.div_eq_of_lt ai]; rfl
theorem acs (h:d6) (b:List B) :(gB h b).2.length=b.length % 64:=by
 generalize aI:b.length=n
 induction n using Nat.strongRecOn generalizing h b with
 | _ n aK=>
  rcases Nat.lt_or_ge b.length 64 with h1 | h1
  ·rw[AU h b h1,Nat.mod_eq_of_lt (by omega)]; exact aI
  ·rw[x6 h b h1,aK (b.length - 64) (by omega) _ (b.drop 64) (by simp)];omega
theorem Ov (h:d6) (a b:List B) :gB h (a++b)=gB (gB h a).1 ((gB h a).2++b) :=by
 generalize aI:a.length=n
 induction n using Nat.strongRecOn generalizing h a with
 | _ n aK=>
  rcases Nat.lt_or_ge a.length 64 with h1 | h1
  ·rw[AU h a h1]
  ·rw[x6 h a h1,x6 h (a++b) (by simp; omega),List.take_append_of_le_length h1,List.drop_append_of_le_length h1];exact aK (a.length - 64) (by omega) _ (a.drop 64) (by simp)
end gX
end Go.cl

namespace Go.cl
open Go Go.Proofs
def xN:List ae:=gX.bQ.map bu
def GS:Nat->ae:=fun g=>match Nat.beq g 1 with | true=>.cn xN 0 | false=>.bad
theorem b3:∀ g,(GS g).closed=true:=by
 intro g;unfold GS;split
 ·exact kG bu (fun _=>rfl) _
 ·rfl
@[simp]
theorem anR:GS 1=.cn xN 0:=id rfl
theorem amo (i:Nat) (h:i<64) :xN[i]? = some (bu (gX.bQ.getD i 0#32)) :=by
 have aq:gX.bQ.length=64:=rfl;unfold xN;rw[List.getElem?_map,List.getD_eq_getElem?_getD,List.getElem?_eq_getElem (by omega)];rfl
end Go.cl

namespace Go.cl
open Go Go.Proofs
set_option maxRecDepth 100000
namespace gX
def MH (x:W) (k:Int) :W:=(x <<< (BitVec.ofInt 64 k &&& 31#64).toNat) ||| (x >>> (32#64 - (BitVec.ofInt 64 k &&& 31#64)).toNat)
theorem vF (x:W) (n:Nat) (aQ:0<n) (h:n<32) :MH x (-(n:Int))=lI x n:=by
 have h1:∀ n:Fin 32,0<n.val->(BitVec.ofInt 64 (-(n.val:Int)) &&& 31#64)=BitVec.ofNat 64 (32 - n.val) :=by decide
 have af:=h1 ⟨n,h⟩ aQ;simp only at af;unfold MH lI;rw[af,BitVec.or_comm];congr 2
 ·have:∀ n:Fin 32,0<n.val->(32#64 - BitVec.ofNat 64 (32 - n.val)).toNat=n.val:=by decide
  exact this ⟨n,h⟩ aQ
 ·have:∀ n:Fin 32,0<n.val->(BitVec.ofNat 64 (32 - n.val)).toNat=32 - n.val:=by decide
  exact this ⟨n,h⟩ aQ
theorem vE (x:W) (k:Int) :bT Tryz.prog GS 203 [bu x,.int .i64 k] (bu (MH x k)) :=by
 refine ca Tryz.checked.mixed b3 ?_;apply bI P1 Yy;unfold FY LH;simp;exact aZ rfl rfl
theorem Wi (x:W) (i j k:Nat) (aA:0<i/\i<32) (am:0<j/\j<32) (aE:0<k/\k<32) :bT Tryz.prog GS 200 [bu x,.int .i64 i,.int .i64 j,.int .i64 k] (bu (JO x i j k)) :=by
 refine ca Tryz.checked.mixed b3 ?_;apply bI PY Yv;unfold FV LD;have aI:∀ n:Nat,n<32->IntKind.i64.wrap (-(n:Int))=-(n:Int) :=fun n aI=>wrap_i64 (by omega) (by omega)
 simp[aI i aA.2];refine bv (vE x _) rfl ?_;simp[aI j am.2];refine bv (vE x _) rfl ?_;simp[aI k aE.2];refine bv (vE x _) rfl ?_;simp[vF x _ aA.1 aA.2,vF x _ am.1 am.2,vF x _ aE.1 aE.2];exact aZ rfl rfl
def b9 (x:B) :List ae:=[bG x]
abbrev ew:=eh B
abbrev cE (s:ew) :ae:=cS 1 b9 s
theorem kH (s:ew) :(cE s).closed=true:=we (fun _=>rfl) s
def nm (b:List B) (k:Nat) :List W:=((List.range 16).map fun t=>nl (((b.take k).drop (4*t)).take 4))++List.replicate 48 0#32
theorem abf (b:List B) (k:Nat) :(nm b k).length=64:=by simp[nm]
theorem anD (b:List B) :nm b 0=List.replicate 64 0#32:=by simp[nm,nl]; rfl
theorem Nw (b:List B) (k t:Nat) (aU:t<16) :(nm b k)[t]? = some (nl (((b.take k).drop (4*t)).take 4)) :=by
 unfold nm;rw[List.getElem?_append_left (by simpa using aU),List.getElem?_map,List.getElem?_range aU];rfl
theorem anC (b:List B) (k:Nat) (aE:k<64) (ai:k<b.length) (x:B) (aj:b[k]? = some x) :
  (nm b k).set (k / 4) ((nl (((b.take k).drop (4*(k / 4))).take 4) <<< 8) ||| x.setWidth 32)=nm b (k+1) :=by
 apply List.ext_getElem?;intro t;rw[List.getElem?_set,abf];have Uw:b.take (k+1)=b.take k++[x] :=by rw[List.take_add_one,aj]; rfl
 have bz:(b.take k).length=k:=by simp; omega
 by_cases aU:t<16
 ·rw[Nw b _ t aU,Nw b _ t aU];by_cases h:k / 4=t
  ·rw[if_pos h,if_pos (by omega),<-anq,Uw,h];congr 2;rw[List.drop_append_of_le_length (by omega)];obtain⟨A,cA⟩:∃ A,A=List.drop (4*t) (List.take k b) :=⟨_,rfl⟩
   have g3:A.length<4:=by rw[cA]; simp; omega
   rw[<-cA,List.take_of_length_le (by omega),List.take_of_length_le (by simp; omega)]
  ·rw[if_neg h,Uw];congr 2;rcases Nat.lt_or_ge k (4*t) with h1 | h1
   ·rw[List.drop_eq_nil_of_le (by omega),List.drop_eq_nil_of_le (by simp; omega)]
   ·rw[List.drop_append_of_le_length (by omega),List.take_append_of_le_length (by simp; omega)]
 ·rw[if_neg (by omega)];unfold nm;rw[List.getElem?_append_right (by simp; omega),List.getElem?_append_right (by simp; omega)];simp
theorem anB (b:List B) (ai:64<=b.length) :nm b 64=eM b++List.replicate 48 0#32:=by
 unfold nm eM;congr 1;apply List.map_congr_left;intro t aU;have:=List.mem_range.1 aU;congr 1;rw[List.drop_take,List.take_take,Nat.min_eq_left (by omega)]
def oc (b:List B) (k:Nat) :List W:=hq k (eM b)++List.replicate (48 - k) 0#32
theorem alx (b:List B) (k:Nat) (aE:k<=48) :(oc b k).length=64:=by simp[oc,uu,eM]; omega
theorem DA (b:List B) (k i:Nat) (aA:i<16+k) :(oc b k)[i]? = some ((hq k (eM b)).getD i 0#32) :=by
 unfold oc;have aq:(hq k (eM b)).length=16+k:=by simp[uu,eM]
 rw[List.getElem?_append_left (by omega),List.getD_eq_getElem?_getD,List.getElem?_eq_getElem (by omega)];rfl
theorem aly (b:List B) (k:Nat) (aE:k<48) :(oc b k).set (16+k) (ext (hq k (eM b)))=oc b (k+1) :=by
 have aq:(hq k (eM b)).length=16+k:=by simp[uu,eM]
 unfold oc;rw[List.set_append_right _ _ (by omega),aq,Nat.sub_self,show 48 - k=(48 - (k+1))+1 by omega,List.replicate_succ,List.set_cons_zero,Hh];simp
set_option maxHeartbeats 4000000 in
theorem alA (b:List B) (ai:64<=b.length) :bT Tryz.prog GS 199 [cE (some b)] (.aS ((eV b).map bu)) :=by
 refine ca Tryz.checked.mixed b3 ?_;apply bI PX Yu;unfold FS LB;have e7:fN (.ao 1) (cE (some b)) none (some (.int .i64 64)) none=some (cE (some (b.take 64))) :=by
  unfold cE; rw[alQ (by omega) (by omega)]; rfl
 have oR:min 64 b.length=64:=by omega
 simp[e7,oR];refine c0 64 (fun k ah l=>ah 2=.ptr 0 0 64/\ah 11=cE (some (b.take 64))/\ah 12=.int .i64 64/\ah 13=.int .i64 k/\l=[.cells 64 ((nm b k).map bu)]) ?_ ?_
 ·rintro k ah l aE ⟨aY,iB,jm,lp,rfl⟩;obtain⟨ah,rfl⟩:=j2 aY iB jm lp;clear aY iB jm lp;unfold Vs;simp;by_cases h:(k:Int)<64
  ·obtain⟨x,aj⟩:∃ x,b[k]? = some x:=⟨_,List.getElem?_eq_getElem (by omega)⟩
   have zj:(b.take 64)[k]? = some x:=by rw[List.getElem?_take_of_lt (by omega)]; exact aj
   have cQ:cO (.ao 1) (cE (some (b.take 64))) (.int .i64 k)=some (.cn (b9 x) 0) :=by simp[cE,qc,zj]
   obtain⟨q,IG⟩:∃ q,q=k / 4:=⟨_,rfl⟩
   have bp:ct .quo .i64 (k:Int) .i64 4=some (.int .i64 (q:Int)) :=by rw[IG]; exact EA k 4 (by omega) (by omega)
   have eF:IntKind.i64.wrap ((k:Int)+1)=k+1:=wrap_i64 (by omega) (by omega);have aN:(q:Int)<64:=by omega
   have az:=Nw b k q (by omega);have ar:=mr bu (nm b k) q (((nl (((b.take k).drop (4*q)).take 4) <<< 8) ||| x.setWidth 32)) (by rw[abf]; omega);rw[IG,anC b k (by omega) (by omega) x aj,<-IG] at ar;have dv:q+1<=64:=by omega
   simp[h,cQ,b9,bp,aN,az,dv,eF,ar];omega
  ·have uS:k=64:=by omega
   subst uS;simp;refine c0 48 (fun j ah l=>ah 2=.ptr 0 0 64/\ah 5=.int .i64 (16+j:Nat)/\l=[.cells 64 ((oc b j).map bu)]) ?_ ?_
   ·rintro j ah l am ⟨aY,br,rfl⟩;obtain⟨ah,rfl⟩:=oj aY br;clear aY br;unfold Vt;obtain⟨t,aU⟩:∃ t,t=16+j:=⟨_,rfl⟩
    rw[<-aU];simp;by_cases h:(t:Int)<64
    ·have iZ:IntKind.i64.wrap ((t:Int)+1)=(t+1:Nat) :=wrap_i64 (by omega) (by omega);have DR:IntKind.i64.wrap ((t:Int) - 15)=(t - 15:Nat) :=by rw[wrap_i64 (by omega) (by omega)]; omega
     have w2:IntKind.i64.wrap ((t:Int) - 2)=(t - 2:Nat) :=by rw[wrap_i64 (by omega) (by omega)]; omega
     have DS:IntKind.i64.wrap ((t:Int) - 16)=(t - 16:Nat) :=by rw[wrap_i64 (by omega) (by omega)]; omega
     have Ar:IntKind.i64.wrap ((t:Int) - 7)=(t - 7:Nat) :=by rw[wrap_i64 (by omega) (by omega)]; omega
     have aq:(hq j (eM b)).length=t:=by simp[uu,eM]; omega
     have Bs:=DA b j (t - 15) (by omega);have aY:=DA b j (t - 2) (by omega);have ux:=DA b j (t - 16) (by omega);have dU:=DA b j (t - 7) (by omega);have ar:=mr bu (oc b j) t (ext (hq j (eM b))) (by rw[alx b j (by omega)]; omega);rw[aU,aly b j (by omega),<-aU] at ar;unfold ext at ar;rw[aq] at ar
     dsimp only at ar
     obtain⟨te,G7⟩:∃ i,i=t - 15:=⟨_,rfl⟩
     obtain⟨en,b7⟩:∃ i,i=t - 2:=⟨_,rfl⟩
     obtain⟨tf,Bf⟩:∃ i,i=t - 16:=⟨_,rfl⟩
     obtain⟨h7,G9⟩:∃ i,i=t - 7:=⟨_,rfl⟩
     rw[<-G7] at DR Bs ar;rw[<-b7] at w2 aY ar;rw[<-Bf] at DS ux ar;rw[<-G9] at Ar dU ar;have Er:(te:Int)<64:=by omega
     have dN:(en:Int)<64:=by omega
     have Es:(tf:Int)<64:=by omega
     have qW:(h7:Int)<64:=by omega
     have dv:t+1<=64:=by omega
     generalize (hq j (eM b)).getD te 0#32=x at Bs ar;generalize (hq j (eM b)).getD en 0#32=y at aY ar;generalize (hq j (eM b)).getD tf 0#32=Nx at ux ar;generalize (hq j (eM b)).getD h7 0#32=Ny at dU ar;have tE:=vF x 7 (by omega) (by omega);have Ya:=vF x 18 (by omega) (by omega);have xB:=vF y 17 (by omega) (by omega);have Yl:=vF y 19 (by omega) (by omega);simp at tE Ya xB Yl;simp[h,DR,w2,Bs,aY,Er,dN];refine bv (vE _ _) rfl ?_;simp;refine bv (vE _ _) rfl ?_;simp;refine bv (vE _ _) rfl ?_;simp;refine bv (vE _ _) rfl ?_;simp[tE,Ya,xB,Yl,DS,Ar,ux,dU,Es,qW,h,ar,iZ,dv];omega
    ·have agh:j=48:=by omega
     have ahf:oc b 48=eV b:=by simp[oc,eV]
     subst agh;have yZ:=Ac b;rw[ahf];simp[h,yZ,lO,List.take_of_length_le];exact aZ rfl (Ra bu (fun _=>rfl) _)
   ·simp[oc,hq,anB b ai]
 ·simp[anD,ZO _ 32]
theorem anz (b:List B) (n:Nat) (aI:64<=n) :eM (b.take n)=eM b:=by
 unfold eM;apply List.map_congr_left;intro t aU;have:=List.mem_range.1 aU;congr 1;rw[List.drop_take,List.take_take,Nat.min_eq_left (by omega)]
theorem alz (b:List B) (n:Nat) (aI:64<=n) :eV (b.take n)=eV b:=by unfold eV; rw[anz b n aI]
theorem rounds_succ:∀ (k:Nat) (s:d6) (a b:List W) (x y:W),a[k]? = some x->b[k]? = some y->rounds s (a.take (k+1)) (b.take (k+1))=round (rounds s (a.take k) (b.take k)) x y
 | 0,s,a,b,x,y,aG,ai=>by
  cases a with
  | nil=>simp at aG
  | cons a NT=>
   cases b with
   | nil=>simp at ai
   | cons b bs=>simp at aG ai; subst aG ai; simp[rounds]
 | k+1,s,a,b,x,y,aG,ai=>by
  cases a with
  | nil=>simp at aG
  | cons a NT=>
   cases b with
   | nil=>simp at ai
   | cons b bs=>
    simp only[List.take_succ_cons,rounds];exact rounds_succ k _ NT bs x y (by simpa using aG) (by simpa using ai)
def k4 (h:d6) (b:List B) (k:Nat) :d6:=rounds h (bQ.take k) ((eV b).take k)
theorem Zy (h:d6) (b:List B) :k4 h b 0=h:=rfl
theorem Zx (h:d6) (b:List B) (k:Nat) (aE:k<64) :k4 h b (k+1)=round (k4 h b k) (bQ.getD k 0#32) ((eV b).getD k 0#32) :=by
 have h1:bQ.length=64:=rfl;have af:=Ac b;refine rounds_succ k h bQ (eV b) _ _ ?_ ?_
 ·rw[List.getD_eq_getElem?_getD,List.getElem?_eq_getElem (by omega)]; rfl
 ·rw[List.getD_eq_getElem?_getD,List.getElem?_eq_getElem (by omega)]; rfl
theorem Zv (h:d6) (b:List B) :k4 h b 64=rounds h bQ (eV b) :=by
 have h1:bQ.length=64:=rfl;have af:=Ac b;unfold k4;rw[List.take_of_length_le (by omega),List.take_of_length_le (by omega)]
def hD (a b:List W) (k:Nat) :List W:=(List.zipWith (·+·) a b).take k++a.drop k
theorem NN (a b:List W) :hD a b 0=a:=rfl
theorem Eg {a b:List W} (h:a.length=b.length) (k:Nat) :(hD a b k).length=a.length:=by simp[hD]; omega
theorem NL {a b:List W} (h:a.length=b.length) {k:Nat} (aE:k<a.length) :(hD a b k)[k]? = a[k]?:=by
 unfold hD;rw[List.getElem?_append_right (by simp; omega)];have:(List.take k (List.zipWith (·+·) a b)).length=k:=by simp; omega
 rw[this,List.getElem?_drop]; simp
theorem NM {a b:List W} (h:a.length=b.length) {k:Nat} {x y:W} (aj:a[k]? = some x) (aO:b[k]? = some y) :(hD a b k).set k (x+y)=hD a b (k+1) :=by
 have aE:=(List.getElem?_eq_some_iff.1 aj).1;unfold hD;have aq:(List.take k (List.zipWith (·+·) a b)).length=k:=by simp; omega
 have aB:(List.zipWith (·+·) a b)[k]? = some (x+y) :=by rw[List.getElem?_zipWith,aj,aO]
 rw[List.set_append_right _ _ (by omega),aq,Nat.sub_self,List.drop_eq_getElem_cons aE,List.set_cons_zero,List.take_add_one,aB];simp
set_option maxHeartbeats 8000000 in
theorem aeG {h:d6} {b:List B} (ai:64<=b.length) {l:au} {bk sz:Nat} {rest:List ae} {x:ae} {K:ae->au->Prop} (aq:l[bk]? = some (.cells sz (h.l.map bu++rest))) (gH:8<=sz) (aj:fa (bW l) x (cE (some b)))
  (a7:∀ junk,K (.bU []) (l.set bk (.cells sz ((grind h b).l.map bu++rest))++junk)) :dB Tryz.prog GS 187 [.ptr bk 0 sz,x] l (c:=⟨K⟩) :=by
 apply bI PM Yi;unfold FH Lp;simp;refine ja (alA b ai) (.cons aj .nil) (RX bu (fun _=>rfl) _) ?_;have aI:=fg aq;have e7:=Ac b;have hK:(l++[bg.cells 64 ((eV b).map bu)])[bk]? = some (.cells sz (h.l.map bu++rest)) :=by rw[List.getElem?_append_left aI]; exact aq
 have az:∀ i (y:W),i<8->h.l[i]? = some y->(h.l.map bu++rest)[i]? = some (bu y) :=fun i y aA aO=>by
  rw[List.getElem?_append_left (by simpa [d6.l] using aA),List.getElem?_map,aO]; rfl
 have hy:=az 0 h.a (by omega) rfl;have q1:=az 1 h.b (by omega) rfl;have hz:=az 2 h.c (by omega) rfl;have r2:=az 3 h.d (by omega) rfl;have Xa:=az 4 h.e (by omega) rfl;have aka:=az 5 h.f (by omega) rfl;have Kj:=az 6 h.g (by omega) rfl;have akb:=az 7 h.h (by omega) rfl;simp[lO,e7,hK,hy,q1,hz,r2,Xa,aka,Kj,akb];refine c0 64 (fun k ah l'=>ah 0=.ptr bk 0 sz/\ah 4=.ptr l.length 0 64/\ah 5=bu (k4 h b k).a/\ah 6=bu (k4 h b k).b/\ah 7=bu (k4 h b k).c/\ah 8=bu (k4 h b k).d/\ah 9=bu (k4 h b k).e/\ah 10=bu (k4 h b k).f/\ah 11=bu (k4 h b k).g/\ah 12=bu (k4 h b k).h/\ah 52=.int .i64 k ∧
  l'=l++[.cells 64 ((eV b).map bu)]) ?_ ?_
 ·rintro k ah l' aE ⟨cP,bD,br,cj,dU,ff,hs,hr,iB,jm,Sf,rfl⟩;obtain⟨ah,rfl⟩:=aaV cP bD br cj dU ff hs hr iB jm Sf;clear cP bD br cj dU ff hs hr iB jm Sf;unfold Vm;simp;by_cases eb:(k:Int)<64
  ·have eF:IntKind.i64.wrap ((k:Int)+1)=k+1:=wrap_i64 (by omega) (by omega);have fT:k<64:=by omega
   have aU:=amo k fT;have fV:(eV b)[k]? = some ((eV b).getD k 0#32) :=by rw[List.getD_eq_getElem?_getD,List.getElem?_eq_getElem (by omega)]; rfl
   rw[Zx h b k fT];generalize (eV b).getD k 0#32=jf at *
   generalize bQ.getD k 0#32=iF at *
   generalize k4 h b k=s at *
   have fK:=Wi s.e 6 11 25 (by omega) (by omega) (by omega);have iG:=Wi s.a 2 13 22 (by omega) (by omega) (by omega);simp at fK iG;simp[eb,aU,fV];refine bv fK rfl ?_;simp[aU,fV];refine bv iG rfl ?_;simp[fT,eF];simp[round]
  ·have uS:k=64:=by omega
   subst uS;rw[Zv];obtain⟨v,ax⟩:∃ v,rounds h bQ (eV b)=v:=⟨_,rfl⟩
   rw[ax];have pW:grind h b=⟨h.a+v.a,h.b+v.b,h.c+v.c,h.d+v.d,h.e+v.e,h.f+v.f,h.g+v.g,h.h+v.h⟩:=by unfold grind; rw[ax]
   simp;have nR:h.l.length=v.l.length:=rfl;have l8:h.l.length=8:=rfl;have rl:(grind h b).l=hD h.l v.l 8:=by rw[pW]; rfl
   rw[rl] at a7;refine c0 8 (fun k ah l'=>ah 0=.ptr bk 0 sz/\ah 111=.aS (v.l.map bu)/\ah 112=.int .i64 k/\l'=l.set bk (.cells sz ((hD h.l v.l k).map bu++rest))++[.cells 64 ((eV b).map bu)]) ?_ ?_
   ·rintro k ah l' aE ⟨cP,Sa,Sb,rfl⟩;obtain⟨ah,rfl⟩:=jG cP Sa Sb;clear cP Sa Sb;unfold Vn;simp;by_cases eb:(k:Int)<8
    ·have eF:IntKind.i64.wrap ((k:Int)+1)=k+1:=wrap_i64 (by omega) (by omega);have g6:k<8:=by omega
     obtain⟨y,aO⟩:∃ y,v.l[k]? = some y:=⟨_,List.getElem?_eq_getElem (show k<v.l.length from g6)⟩
     obtain⟨z,aB⟩:∃ z,h.l[k]? = some z:=⟨_,List.getElem?_eq_getElem (show k<h.l.length from g6)⟩
     have aG:=NL nR (k:=k) (by rw[l8]; exact g6);rw[aB] at aG;have ht:=Eg nR k;have ar:=mr bu (hD h.l v.l k) k (z+y) (by rw[ht,l8]; exact g6);rw[NM nR aB aO] at ar;have oQ:((hD h.l v.l k).map bu).length=8:=by rw[List.length_map,ht,l8]
     have rA:bS ((hD h.l v.l k).map bu++rest) k [bu (z+y)]=(hD h.l v.l (k+1)).map bu++rest:=by
      rw[<-ar];unfold bS;rw[List.take_append_of_le_length (by omega),List.drop_append_of_le_length (by simp; omega)];simp
     have rm:((hD h.l v.l k).map bu++rest)[k]? = some (bu z) :=by rw[List.getElem?_append_left (by omega),List.getElem?_map,aG]; rfl
     have rr:(l.set bk (.cells sz ((hD h.l v.l k).map bu++rest))++[bg.cells 64 ((eV b).map bu)])[bk]? = some (.cells sz ((hD h.l v.l k).map bu++rest)) :=by
      rw[List.getElem?_append_left (by simpa using aI),List.getElem?_set]; simp[aI]
     have s4:k+1<=sz:=by omega
     simp[eb,aO,rm,rr,eF,rA,g6,s4,aI,List.set_append]
    ·have g6:k=8:=by omega
     subst g6;simp;exact a7 _
   ·have lA:l.set bk (.cells sz ((hD h.l v.l 0).map bu++rest))=l:=by
     rw[NN]; exact alE aq
    rw[lA];simp[d6.l]
 ·simp[Zy]
abbrev lm (co:eh ew) :ae:=cS 1 (fun s=>[cE s]) co
theorem Q9 (co:eh ew) :(lm co).closed=true:=we (fun s=>by simp only[bP,kH,Bool.and_self]) co
def bytesOf (co:List ew) :List B:=(co.map eh.l).flatten
theorem bytesOf_take (co:List ew) (k:Nat) (s:ew) (h:co[k]? = some s) :bytesOf (co.take (k+1))=bytesOf (co.take k)++s.l:=by
 unfold bytesOf;rw[List.take_add_one,h]; simp
theorem OE (co:List ew) (k:Nat) :(bytesOf (co.take k)).length<=(bytesOf co).length:=by
 conv=>rhs; rw[<-List.take_append_drop k co]
 unfold bytesOf;rw[List.map_append,List.flatten_append,List.length_append];omega
theorem aeK {n:Nat} (aI:n<=1000000000) {l:au} {K:ae->au->Prop} (a7:∀ v j l',bX 1 l' v j []->l.length<=l'.length->(∀ b,b<l.length->l'[b]? = l[b]?)->(cT v=decide (n=0))->K v l') :dB Tryz.prog GS 155 [.a6,.int .i64 n] l (c:=⟨K⟩) :=by
 apply bI Fg K0;unfold A0 Do;have h1:¬((n:Int)<0) :=by omega
 have bt:IntKind.i64.wrap (n:Int)=n:=wrap_i64 (by omega) (by omega);have I7:IntKind.i64.wrap (0:Int)=0:=rfl;by_cases aQ:n=0
 ·subst aQ;simp;exact a7 _ 0 _ (.nil 0) (Nat.le_refl _) (fun _ _=>rfl) rfl
 have af:(0:Int)<n:=by omega
 have aB:ow l 1 1 [.int .u8 0] .a6 (.int .i64 n)=some (.ao 1 l.length 0 n n (n*1),l++[.cells (n*1) (dp [.int .u8 0] n)]) :=by
  unfold ow hE;simp only[Int.toNat_natCast];have aC:cJ=140737488355328:=rfl;rw[if_pos ⟨by omega,by omega,by rw[aC]; omega⟩,if_neg aQ,if_neg (by omega),if_pos (by rw[aC]; omega)]
 have ar:fN (.ao 1) (.ao 1 l.length 0 n n (n*1)) none (some (.int .i64 0)) none=some (.ao 1 l.length 0 0 n (n*1)) :=by
  rw[Af,Ez,if_pos ⟨by omega,by omega⟩];simp[aQ]
 rw[Nat.mul_one] at aB ar;have ap:0<n:=by omega
 simp[h1,af,ap,bt,aB,I7,ar];refine a7 _ l.length (l++[.cells n (dp [.int .u8 0] n)]) (.ao _ 0 n n (dp [.int .u8 0] n) [] (by simp) (by rw[z2]; simp) rfl (by simp) (by omega) (by omega) rfl) (by simp) (fun b ai=>List.getElem?_append_left ai) ?_;simp[cT,aQ]
def wb (co:List ew) :ew:=if bytesOf co=[] then none else some (bytesOf co)
theorem acZ (co:List ew) :(wb co).l=bytesOf co:=by unfold wb; split<;>simp_all
set_option maxHeartbeats 4000000 in
theorem adl (co:List ew) (aq:(bytesOf co).length<=1000000000) (y1:co.length<=1000000000) :lf Tryz.prog GS 109 [lm (some co)] (cE (wb co)) :=by
 refine zR Tryz.checked.mixed b3 ?_;apply bI EJ Ku;unfold AZ Dn;simp;have cQ:∀ (k:Nat) (s:ew),co[k]? = some s->cO (.ao 1) (lm (some co)) (.int .i64 k)=some (.cn [cE s] 0) :=fun k s ar=>by simp[lm,qc,ar]
 refine c0 co.length (fun k ah l=>ah 0=lm (some co)/\ah 9=lm (some co)/\ah 10=.int .i64 co.length/\ah 11=.int .i64 k/\ah 3=.int .i64 (bytesOf (co.take k)).length/\l=[]) ?_ ?_
 ·rintro k ah l aE ⟨cP,hs,hr,iB,bd,rfl⟩;obtain⟨ah,rfl⟩:=kC cP bd hs hr iB;clear cP bd hs hr iB;unfold Jz;simp;by_cases h:k<co.length
  ·obtain⟨s,ar,_⟩:=ck h;have ai:=bytesOf_take co k s ar;have dv:=OE co (k+1);rw[ai,List.length_append] at dv;have bt:IntKind.i64.wrap (((bytesOf (co.take k)).length:Int)+s.l.length)=((bytesOf (co.take k)).length:Int)+s.l.length:=wrap_i64 (by omega) (by omega);have eF:IntKind.i64.wrap ((k:Int)+1)=k+1:=wrap_i64 (by omega) (by omega);have nS:¬(((bytesOf (co.take k)).length:Int)+s.l.length<0) :=by omega
   simp[h,cQ k s ar,bt,nS,eF,ai]
  ·have cC:k=co.length:=by omega
   subst cC;simp;refine aeK aq ?_;intro v j l ay bz _ hL;simp;refine c0 co.length (fun k ah l=>ah 25=lm (some co)/\ah 26=.int .i64 co.length/\ah 27=.int .i64 k/\∃ v j,ah 6=v/\bX 1 l v j ((bytesOf (co.take k)).map b9)/\cT v=decide (bytesOf co=[])) ?_ ?_
   ·rintro k ah l aE ⟨kh,ki,wz,v,j,cj,ay,hL⟩;obtain⟨ah,rfl⟩:=j2 cj kh ki wz;clear cj kh ki wz;unfold JA;simp;by_cases h:k<co.length
    ·obtain⟨s,ar,_⟩:=ck h;have ai:=bytesOf_take co k s ar;have dv:=OE co (k+1);rw[ai,List.length_append] at dv;have eF:IntKind.i64.wrap ((k:Int)+1)=k+1:=wrap_i64 (by omega) (by omega);have aC:cJ=140737488355328:=rfl;obtain⟨bf,cD,l',h1,af,ap,aH,bc,bM⟩:=mF (by_:=1) ay (x:=cE s) (xs:=s.l.map b9) (by simp[cE]) (fun e aw=>by obtain⟨x,_,rfl⟩:=List.mem_map.1 aw; rfl) (by omega) (by omega) (by simp; omega);simp[h,cQ k s ar,h1];refine du.cM ?_;simp[h,eF];refine⟨⟨cD,by rw[ai,List.map_append]; exact af⟩,?_⟩;rw[rJ bM,hL];by_cases aw:bytesOf co=[]
     ·have aQ:(bytesOf co).length=0:=by rw[aw]; rfl
      have:s.l=[] :=List.length_eq_zero_iff.1 (by omega);simp[aw,this]
     ·simp[aw]
    ·have cC:k=co.length:=by omega
     subst cC;simp;rw[List.take_length] at ay;refine ay.zZ (fun _=>rfl) _ ?_ (acZ co);rw[hL];unfold wb;split<;>simp_all
   ·simp;refine⟨⟨j,by simpa [bytesOf] using ay⟩,?_⟩;rw[hL];simp[List.length_eq_zero_iff]
 ·simp[bytesOf]
theorem adb (s:eh B) :fD Tryz.prog .eql 117 (cS 1 b9 s) .a6=some (.bool s.isNone) :=Ot (e:=5) (by kernel_rfl) 1 b9 s
theorem adc {s:eh B} (ar:s.l.length<=1000000000) {l:au} {K:ae->au->Prop} (a7:∀ v j l',bX 1 l' v j (s.l.map b9)->l.length<=l'.length->(∀ b,b<l.length->l'[b]? = l[b]?)->(v=.a6\/l.length<=j)->cT v=s.isNone->K v l') :dB Tryz.prog GS 188 [cS 1 b9 s] l (c:=⟨K⟩) :=by
 apply bI PN Yj;unfold FI Lq;simp[adb];cases s with
 | none=>
  simp;exact a7 _ 0 _ (.nil 0) (Nat.le_refl _) (fun _ _=>rfl) (.inl rfl) rfl
 | some b=>
  simp;have aC:cJ=140737488355328:=rfl;have p6:b.length<=1000000000:=ar;have ay:bX 1 (l++[bg.cells 0 []]) (.ao 1 l.length 0 0 0 0) l.length [] :=.ao l.length 0 0 0 [] [] (by simp) rfl rfl (by simp) (Nat.le_refl _) (by omega) rfl;obtain⟨bf,cD,l',h1,af,ap,aH,bc,bM⟩:=mF (by_:=1) ay (x:=cS 1 b9 (some b)) (xs:=b.map b9) (by simp) (fun e aw=>by obtain⟨x,_,rfl⟩:=List.mem_map.1 aw; rfl) (by omega) (by omega) (by simp; omega);simp[h1];refine du.cM ?_;simp;have sO:l.length+1<=l'.length:=by simpa using ap
  refine a7 _ cD _ af (by omega) (fun b ai=>?_) (.inr (by rcases bc with h | h<;>(try simp only[List.length_append,List.length_cons,List.length_nil] at h)<;>omega)) ?_
  ·rw[aH b (by simp; omega) (by omega),List.getElem?_append_left ai]
  ·rw[rJ bM]; rfl
structure qO where
 st:d6
 rest:ew
 n:Int
def fL (s:d6) (r:ae) (n:Int) :List ae:=s.l.map bu++[r,.int .i64 n]
def oB (m:qO) :ae:=.aS (fL m.st (cE m.rest) m.n)
def q4 (m:qO) (b:ew) :qO:=
 let all:=m.rest.l++b.l
 ⟨(gB m.st all).1,if all=[] then none else some (gB m.st all).2,m.n+b.l.length⟩
theorem ac0 (a b:ew) :wb [a,b]=if a.l++b.l=[] then none else some (a.l++b.l) :=by
 have:bytesOf [a,b]=a.l++b.l:=by simp[bytesOf]
 unfold wb;rw[this]
theorem aeH (h:d6) (b:List B) :grind h (b.take 64)=grind h b:=by unfold grind; rw[alz b 64 (by omega)]
theorem tt (s:d6) (r:ae) (n:Int) :(fL s r n).length=10:=rfl
set_option maxHeartbeats 8000000 in
theorem RO (m:qO) (b:ew) (aq:m.rest.l.length+b.l.length<=1000000000) (aI:0<=m.n) (p1:m.n<=1000000000) :lf Tryz.prog GS 159 [oB m,cE b] (oB (q4 m b)) :=by
 refine zR Tryz.checked.mixed b3 ?_;apply bI Pp XU;unfold Fk K4;have ak:(ae.aS (fL m.st (cE m.rest) m.n)).cells=some (fL m.st (cE m.rest) m.n) :=rfl;have gN:(fL m.st (cE m.rest) m.n)[8]? = some (cE m.rest) :=rfl;have SZ:=adl [m.rest,b] (by simp[bytesOf]; exact aq) (by simp);rw[ac0] at SZ;simp[oB,tt,gN];refine W3 SZ (.cons ?_ .nil) ?_
 ·exact zX (es:=[[cE m.rest],[cE b]]) (rest:=[]) rfl rfl (by simp) (by simp[bP,kH])
 obtain⟨all,eP⟩:∃ all,all=m.rest.l++b.l:=⟨_,rfl⟩
 have ht:all.length<=1000000000:=by rw[eP]; simpa using aq
 rw[<-eP];simp;refine c0 (all.length / 64) (fun k ah l=>ah 1=cE b/\ah 2=.ptr 0 0 10/\ah 4=.ptr 1 0 10/\∃ h s gd junk,ah 5=cE s/\l=.cells 10 (fL h (cE m.rest) m.n) ::.cells 10 gd::junk/\gB m.st all=gB h s.l/\s.l.length=all.length - 64*k/\gd.length=10/\s.isNone=decide (all=[])) ?_ ?_
 ·rintro k ah l aE ⟨aV,aY,bD,h,s,gd,junk,br,rfl,fi,er,rG,TY⟩;obtain⟨ah,rfl⟩:=j2 aV aY bD br;clear aV aY bD br;unfold Vf;have bz:c9 (.ao 1) (cE s)=some (.int .i64 s.l.length) :=o6 _;simp[bz];by_cases HA:(64:Int)<=s.l.length
  ·cases s with
   | none=>simp at HA
   | some g1=>
   have aeN:(64:Int)<=g1.length:=HA;have Sx:64<=g1.length:=by omega
   simp[aeN];refine aeG (h:=h) (b:=g1) Sx (l:=.cells 10 (fL h (cE m.rest) m.n) ::.cells 10 gd::junk) (bk:=0) (sz:=10) (rest:=[cE m.rest,.int .i64 m.n]) rfl (by omega) (ZE (kH _)) (fun aq9=>?_);have e7:fN (.ao 1) (cE (some g1)) (some (.int .i64 64)) none none=some (cE (some (g1.drop 64))) :=by
    unfold cE; rw[alM (by omega) (by omega)]; rfl
   simp[e7];have aqe:g1.length=all.length - 64*k:=er;refine⟨by omega,grind h g1,some (g1.drop 64),rfl,gd,⟨rfl,rfl⟩,?_,?_,rG,?_⟩
   ·rw[fi];show gB h g1=_;rw[x6 h g1 Sx,aeH]; rfl
   ·simp; omega
   ·exact TY
  ·have aN:s.l.length<64:=by omega
   have bt:IntKind.i64.wrap (m.n+(b.l.length:Int))=m.n+b.l.length:=wrap_i64 (by omega) (by omega);have fb:(fL h (cE m.rest) m.n)[9]? = some (.int .i64 m.n) :=rfl;have nO:c9 (.ao 1) (cE b)=some (.int .i64 b.l.length) :=o6 _;simp[HA,fb,nO,bt];refine adc (by omega) ?_;intro v j l ay fF hK am hL;obtain⟨l',rfl⟩:∃ l',l=.cells 10 (fL h (cE m.rest) m.n) ::.cells 10 gd::l':=by
    have gM:=hK 0 (by simp);have a1:=hK 1 (by simp);cases l with
    | nil=>simp at gM
    | cons a l=>cases l with
     | nil=>simp at a1
     | cons c l=>simp at gM a1; subst gM a1; exact⟨l,rfl⟩
   have ahn:∀ r n ga,bS (fL h r n) 9 [.int .i64 ga]=fL h r ga:=fun _ _ _=>rfl
   have ahm:∀ r n cw,bS (fL h r n) 8 [cw]=fL h cw n:=fun _ _ _=>rfl
   have ax:=ay.cells;simp[fb,ahn,ahm,ax,tt,rG,lO];have jy:∀ r n,List.take 10 (fL h r n)=fL h r n:=fun _ _=>rfl
   rw[jy,jy];have Ca:q4 m b=⟨h,if all=[] then none else some s.l,m.n+b.l.length⟩:=by
    unfold q4;rw[<-eP]
    dsimp only
    rw[fi,AU h s.l aN]
   rw[Ca];have kX:=(ay.uw (l':=.cells 10 (fL h v (m.n+(b.l.length:Int))) ::.cells 10 (fL h v (m.n+(b.l.length:Int))) ::l') (by
    rcases am with am | am
    ·exact .inl am
    ·obtain⟨q,rfl⟩:∃ q,j=q+2:=⟨j - 2,by simp at am; omega⟩
     exact .inr rfl)).zZ (fun _=>rfl) (if all=[] then none else some s.l) (by
     rw[hL,TY]; split<;>simp_all) (by
     split
     ·rename_i aw; rw[aw] at er; simp at er; rw[er]; rfl
     ·rfl)
   refine .aS _ _ rfl fun i c c' jr js=>?_
   rcases i with _ | _ | _ | _ | _ | _ | _ | _ | _ | _ | i<;>simp[fL,d6.l] at jr js
   all_goals subst jr js
   all_goals first | exact kX | exact .flat _ rfl
 ·simp;exact⟨m.st,(if all=[] then none else some all),rfl,⟨[.int .u32 0,.int .u32 0,.int .u32 0,.int .u32 0,.int .u32 0,.int .u32 0,.int .u32 0,.int .u32 0,.a6,.int .i64 0],⟨rfl,rfl⟩,by split<;>simp_all,by split<;>simp_all,rfl,by split<;>simp_all⟩⟩
def fj (b:List B) :ae:=.aS (b.map bG)
def lQ (n k:Nat) :List B:=128#8::List.replicate ((119 - n % 64) % 64) 0#8++(x8 (BitVec.ofNat 64 n*8#64)).take k
theorem Nc (n:Nat) :lQ n 8=tail n:=rfl
theorem aaD (n k:Nat) (x:B) (aj:(x8 (BitVec.ofNat 64 n*8#64))[k]? = some x) :lQ n (k+1)=lQ n k++[x] :=by
 unfold lQ;rw[List.take_add_one,aj]; simp
theorem DK (n k:Nat) :(lQ n k).length<=80:=by
 unfold lQ;have:(x8 (BitVec.ofNat 64 n*8#64)).length=8:=rfl;simp; omega
theorem OA (q:BitVec 64) (k:Nat) (aE:k<8) :(x8 q)[k]? = some ((q >>> (56 - 8*k)).setWidth 8) :=by
 match k,aE with
 | 0,_=>rfl
 | 1,_=>rfl
 | 2,_=>rfl
 | 3,_=>rfl
 | 4,_=>rfl
 | 5,_=>rfl
 | 6,_=>rfl
 | 7,_=>rfl
def n9 (s:List W) (k:Nat) :List B:=((s.take k).map sf).flatten++List.replicate (32 - 4*k) 0#8
theorem abd (s:List W) :(s.map sf).flatten.length=4*s.length:=by
 induction s with
 | nil=>rfl
 | cons w s aK=>simp[aK,sf]; omega
theorem ajH (s:List W) (k:Nat) (aE:k<=s.length) (ar:s.length=8) :(n9 s k).length=32:=by
 unfold n9;rw[List.length_append,abd];simp; omega
theorem ajI (s:List W) (k:Nat) (w:W) (aE:s[k]? = some w) (ar:s.length=8) :
  ((((n9 s k).set (4*k) ((w >>> 24).setWidth 8)).set (4*k+1) ((w >>> 16).setWidth 8)).set (4*k+2) ((w >>> 8).setWidth 8)).set (4*k+3) (w.setWidth 8)=n9 s (k+1) :=by
 have g6:=(List.getElem?_eq_some_iff.1 aE).1;unfold n9;rw[List.take_add_one,aE];have cA:((s.take k).map sf).flatten.length=4*k:=by rw[abd]; simp; omega
 obtain⟨A,Sz⟩:∃ A,A=((s.take k).map sf).flatten:=⟨_,rfl⟩
 rw[<-Sz] at cA ⊢;have aC:32 - 4*k=(32 - 4*(k+1))+1+1+1+1:=by omega
 rw[aC,List.replicate_succ,List.replicate_succ,List.replicate_succ,List.replicate_succ];rw[List.set_append_right _ _ (by omega),List.set_append_right _ _ (by omega),List.set_append_right _ _ (by omega),List.set_append_right _ _ (by omega)];simp only[cA,Nat.sub_self,Nat.add_sub_cancel_left,List.set_cons_zero,List.set_cons_succ,List.map_append,List.flatten_append,<-Sz];simp[sf]
def Bj (s:d6) (r:ew) (n:Nat) :List B:=written (gB s (r.l++tail n)).1
set_option maxHeartbeats 8000000 in
theorem adQ (s:d6) (r:ew) (n:Nat) (aC:r.l.length<=100000000) (aI:n<=100000000) :bT Tryz.prog GS 160 [oB ⟨s,r,n⟩] (fj (Bj s r n)) :=by
 refine ca Tryz.checked.mixed b3 ?_;apply bI Pq XV;unfold Fl K5;have fb:(fL s (cE r) n)[9]? = some (.int .i64 n) :=rfl;have ak:(ae.aS (fL s (cE r) n)).cells=some (fL s (cE r) n) :=rfl;have oV:=AV n 64 (by omega);obtain⟨q,bp⟩:∃ q,q=n % 64:=⟨_,rfl⟩
 rw[show ((64:Int).toNat)=64 from rfl,<-bp] at oV;have aqK:q<64:=by rw[bp]; exact Nat.mod_lt _ (by omega)
 have iZ:IntKind.i64.wrap (119 - (q:Int))=(119 - q:Nat) :=by rw[wrap_i64 (by omega) (by omega)]; omega
 have Cu:=AV (119 - q) 64 (by omega);rw[show ((64:Int).toNat)=64 from rfl] at Cu;obtain⟨m,hm⟩:∃ m,m=(119 - q) % 64:=⟨_,rfl⟩
 rw[<-hm] at Cu;have aqz:m<64:=by rw[hm]; exact Nat.mod_lt _ (by omega)
 obtain⟨t,aU⟩:∃ t,t=119 - q:=⟨_,rfl⟩
 rw[<-aU] at iZ Cu;have jR:cJ=140737488355328:=rfl;obtain⟨L,f5⟩:∃ L:au,L=[bg.cells 10 (fL s (cE r) n),bg.cells 32 (rep 32 (ae.int IntKind.u8 0)),bg.cells 1 [ae.int IntKind.u8 128]] :=⟨_,rfl⟩
 have aeX:L[0]? = some (bg.cells 10 (fL s (cE r) n)) :=by rw[f5]; rfl
 have aeY:L[1]? = some (bg.cells 32 (rep 32 (ae.int IntKind.u8 0))) :=by rw[f5]; rfl
 have rh:L.length=3:=by rw[f5]; rfl
 have agM:bX 1 L (.ao 1 2 0 1 1 1) 2 [[ae.int IntKind.u8 128]] :=by
  rw[f5];exact .ao 2 1 1 1 [.int .u8 128] _ rfl rfl rfl (by simp) (Nat.le_refl _) (Nat.le_refl _) rfl
 have agx:m<9223372036854775808:=by omega
 have ds:(List.length [[ae.int IntKind.u8 128]]+m)*1<=cJ:=by rw[jR]; simp; omega
 have ags:=ab9 (n:=m) (k:=.i64) (by_:=1) (zero:=[.int .u8 0]) agM rfl (by omega) (by omega) agx ds;obtain⟨v,j,l,h1,ay,ap,aH,bc,bM⟩:=ags;have ax:cT v=false:=by
  rw[Bool.eq_false_iff]; intro aR;rw[i4,bM] at aR;cases aR.1
 have aL:u 128#8=128:=by decide
 have aw:([[ae.int IntKind.u8 128]]++List.replicate m [ae.int IntKind.u8 0] :List (List ae))=(lQ n 0).map b9:=by
  have:m=(119 - n % 64) % 64:=by rw[hm,bp]
  unfold lQ;rw[<-this];simp[b9,aL]
 rw[aw] at ay;have gM:=(aH 0 (by omega) (by omega)).trans aeX;have a1:=(aH 1 (by omega) (by omega)).trans aeY;have pY:2<=j:=by rcases bc with h | h<;>omega
 simp[oB,tt,fb,oV,iZ,Cu];rw[<-f5];simp[h1];refine c0 8 (fun k ah l=>ah 1=.ptr 0 0 10/\ah 2=.ptr 1 0 32/\ah 3=dz (BitVec.ofNat 64 n*8#64)/\ah 5=.int .i64 (56 - 8*(k:Int))/\∃ v j,ah 4=v/\2<=j/\cT v=false/\bX 1 l v j ((lQ n k).map b9)/\l[0]? = some (bg.cells 10 (fL s (cE r) n))/\l[1]? = some (bg.cells 32 (rep 32 (ae.int IntKind.u8 0)))) ?_ ?_
 ·rintro k ah l aE ⟨aV,aY,bd,br,v,j,bD,am,ax,ay,gM,a1⟩;obtain⟨ah,rfl⟩:=kC aV aY bd bD br;clear aV aY bd bD br;unfold Vg;obtain⟨c,ak⟩:∃ c:Int,c=56 - 8*(k:Int) :=⟨_,rfl⟩
  rw[<-ak];simp;by_cases g6:0<=c
  ·have wS:k<8:=by omega
   have aj:=OA (BitVec.ofNat 64 n*8#64) k wS;have afA:c.toNat=56 - 8*k:=by omega
   have xc:IntKind.i64.wrap (c - 8)=56 - 8*((k:Int)+1) :=by rw[wrap_i64 (by omega) (by omega)]; omega
   have jS:=DK n k;have l9:bX 1 (l++[bg.cells 1 [bG (((BitVec.ofNat 64 n*8#64) >>> (56 - 8*k)).setWidth 8)]]) v j ((lQ n k).map b9) :=ay.more _;obtain⟨bf,cD,l',h1,af,ap,aH,bc,bM⟩:=mF (by_:=1) l9 (x:=.ao 1 l.length 0 1 1 1) (xs:=[[bG (((BitVec.ofNat 64 n*8#64) >>> (56 - 8*k)).setWidth 8)]]) (by simp[df]) (by simp) (by omega) (by omega) (by simp; omega);have eQ:j<l.length:=by
    rcases ay.lt with h | h
    ·subst h; simp[cT] at ax
    ·exact h
   have adK:l'[0]? = some (bg.cells 10 (fL s (cE r) n)) :=by rw[aH 0 (by simp) (by omega),List.getElem?_append_left (fg gM)]; exact gM
   have adL:l'[1]? = some (bg.cells 32 (rep 32 (ae.int IntKind.u8 0))) :=by
    have:=fg a1;rw[aH 1 (by simp; omega) (by omega),List.getElem?_append_left (fg a1)]; exact a1
   have fW:cT bf=false:=by rw[rJ bM,ax]; rfl
   have et:2<=cD:=by
    rcases bc with h | h
    ·omega
    ·have h:=Nat.le_trans (show l.length<=(l++[bg.cells 1 [bG (((BitVec.ofNat 64 n*8#64) >>> (56 - 8*k)).setWidth 8)]]).length by simp) h;omega
   simp[g6,afA,h1];refine du.cM ?_;simp[g6,xc];exact⟨by omega,cD,et,fW,by rw[aaD n k _ aj,List.map_append]; exact af,adK,adL⟩
  ·have rq:k=8:=by omega
   subst rq;rw[Nc] at ay;have wN:=RO ⟨s,r,n⟩ (some (tail n)) (by have:=DK n 8; rw[Nc] at this; simp; omega) (by simp) (by simp; omega);have aj:=ay.qx (fun _=>rfl) (some (tail n)) (by rw[ax]; rfl) rfl;have Tf:(q4 ⟨s,r,n⟩ (some (tail n))).st=(gB s (r.l++tail n)).1:=rfl;obtain⟨F,uD⟩:∃ F,F=q4 ⟨s,r,n⟩ (some (tail n)) :=⟨_,rfl⟩
   rw[<-uD] at wN Tf;have wT:bP [oB ⟨s,r,n⟩]=true:=by simp[bP,oB,ae.closed,fL,d6.l,kH]
   have afT:wx 8 0 (oB F)=some (.aS (F.st.l.map bu)) :=rfl;have l8:F.st.l.length=8:=rfl;simp[g6,gM,tt];refine W3 wN (.cons (ZE ?_) (.cons aj .nil)) ?_
   ·show (ae.aS (fL s (cE r) n)).closed=true;simp[ae.closed,bP,fL,d6.l,kH]
   simp[afT];refine c0 8 (fun k ah l=>ah 2=.ptr 1 0 32/\ah 33=.aS (F.st.l.map bu)/\ah 34=.int .i64 k/\l[1]? = some (bg.cells 32 ((n9 F.st.l k).map bG))) ?_ ?_
   ·rintro k ah l aE ⟨aY,Sd,Se,a1⟩;obtain⟨ah,rfl⟩:=jG aY Sd Se;clear aY Sd Se;obtain⟨xS,cg,rfl⟩:=amF a1;clear a1;unfold Vh;simp;by_cases g6:(k:Int)<8
    ·have eb:k<8:=by omega
     obtain⟨w,bt⟩:∃ w,F.st.l[k]? = some w:=⟨_,List.getElem?_eq_getElem (show k<F.st.l.length from eb)⟩
     have dh:=ajH F.st.l k (by omega) l8;have nV:=ajI F.st.l k w bt l8;have mx:IntKind.i64.wrap (4*(k:Int))=(4*k:Nat) :=by rw[wrap_i64 (by omega) (by omega)]; omega
     have b4:IntKind.i64.wrap (((4*k:Nat) :Int)+1)=(4*k+1:Nat) :=by rw[wrap_i64 (by omega) (by omega)]; omega
     have w2:IntKind.i64.wrap (((4*k:Nat) :Int)+2)=(4*k+2:Nat) :=by rw[wrap_i64 (by omega) (by omega)]; omega
     have ef:IntKind.i64.wrap (((4*k:Nat) :Int)+3)=(4*k+3:Nat) :=by rw[wrap_i64 (by omega) (by omega)]; omega
     have jf:IntKind.i64.wrap ((k:Int)+1)=k+1:=wrap_i64 (by omega) (by omega);obtain⟨a,aG⟩:∃ a,a=4*k:=⟨_,rfl⟩
     rw[<-aG] at mx b4 w2 ef nV;have s0:=mr bG (n9 F.st.l k) a ((w >>> 24).setWidth 8) (by omega);have dC:=mr bG ((n9 F.st.l k).set a ((w >>> 24).setWidth 8)) (a+1) ((w >>> 16).setWidth 8) (by simp; omega);have mq:=mr bG (((n9 F.st.l k).set a ((w >>> 24).setWidth 8)).set (a+1) ((w >>> 16).setWidth 8)) (a+2) ((w >>> 8).setWidth 8) (by simp; omega);have Z7:=mr bG ((((n9 F.st.l k).set a ((w >>> 24).setWidth 8)).set (a+1) ((w >>> 16).setWidth 8)).set (a+2) ((w >>> 8).setWidth 8)) (a+3) (w.setWidth 8) (by simp; omega);rw[nV] at Z7;have gh:(a:Int)<32:=by omega
     have ei:((a+1:Nat) :Int)<32:=by omega
     have dN:((a+2:Nat) :Int)<32:=by omega
     have gy:((a+3:Nat) :Int)<32:=by omega
     have uk:a+1<=32:=by omega
     have cz:a+1+1<=32:=by omega
     have de:a+2+1<=32:=by omega
     have lk:a+3+1<=32:=by omega
     have pI:(a:Int)+1<32:=by omega
     have Rr:(a:Int)+2<32:=by omega
     have Rs:(a:Int)+3<32:=by omega
     have h2:((a:Int)+1).toNat=a+1:=by omega
     have pL:((a:Int)+2).toNat=a+2:=by omega
     have RN:((a:Int)+3).toNat=a+3:=by omega
     have vt:(0:Int)<=(a:Int)+1:=by omega
     have mn:(0:Int)<=(a:Int)+2:=by omega
     have pf:(0:Int)<=(a:Int)+3:=by omega
     simp[g6,eb,bt,mx,b4,w2,ef,jf,gh,s0,dC,mq,Z7,uk,cz,de,lk,pI,Rr,Rs,h2,pL,RN,vt,mn,pf,-List.map_set]
    ·have rq:k=8:=by omega
     subst rq;have agP:n9 F.st.l 8=written F.st:=by simp[n9,written,d6.l]
     rw[agP];have xd:(written F.st).length=32:=rfl;simp[xd,lO,List.take_of_length_le];exact aZ (by unfold fj Bj; rw[Tf]) (Ra bG (fun _=>rfl) _)
   ·simp[a1];rw[ZO .u8 8]; rfl
 ·simp;exact⟨j,pY,ax,ay,gM,a1⟩
structure vT (m:qO) (b:List B) :Prop where
 Ew:gB first b=(m.st,m.rest.l)
 n:m.n=b.length
theorem aia {m:qO} {b:List B} (h:vT m b) (s:ew) :vT (q4 m s) (b++s.l) :=by
 have h1:gB first (b++s.l)=gB m.st (m.rest.l++s.l) :=by rw[Ov,h.Ew]
 refine⟨?_,?_⟩
 ·rw[h1];unfold q4
  dsimp only
  split
  ·rename_i aw;rw[aw]; rfl
  ·rfl
 ·unfold q4
  dsimp only
  rw[h.n]; simp
theorem aib {m:qO} {b:List B} (h:vT m b) :m.rest.l.length<64:=by
 have:=acs first b
 rw[h.Ew] at this;simp only at this;rw[this]; exact Nat.mod_lt _ (by omega)
theorem ah9 {m:qO} {b:List B} (h:vT m b) :Bj m.st m.rest b.length=hA b:=by
 unfold Bj hA;rw[Ov first b,h.Ew]
def start:qO:=⟨first,none,0⟩
theorem aic:vT start [] :=⟨rfl,rfl⟩
theorem al7:lf Tryz.prog GS 158 [] (oB start) :=by
 refine zR Tryz.checked.mixed b3 ?_;apply bI Po XT;unfold Fj K3;simp;exact .flat _ rfl
def qe (s:ew) :Bool:=decide ((10000:Int)<s.l.length)
theorem aiT (s:ew) :bT Tryz.prog GS 157 [cE s] (.bool (qe s)) :=by
 refine ca Tryz.checked.mixed b3 ?_;apply bI Pn XS;unfold Fi K2;simp[cE];exact aZ rfl rfl
theorem aek:iS Tryz.prog 157=true:=by kernel_rfl
def idx (l:List ew) :Int:=match l.findIdx? qe with | some i=>(i:Int) | none=>-1
theorem ahL {l:List ew} {k:Nat} {s:ew} (ar:l[k]? = some s) (aq:qe s=true) (eG:∀ j s,j<k->l[j]? = some s->qe s=false) :idx l=k:=by
 have:l.findIdx? qe=some k:=by
  rw[List.findIdx?_eq_some_iff_getElem];obtain⟨h1,rfl⟩:=List.getElem?_eq_some_iff.1 ar;refine⟨h1,aq,fun j am=>?_⟩;rw[eG j l[j] am (List.getElem?_eq_getElem (by omega))]; simp
 unfold idx; rw[this]
theorem UE {l:List ew} (eG:∀ j s,j<l.length->l[j]? = some s->qe s=false) :idx l=-1:=by
 have:l.findIdx? qe=none:=by
  rw[List.findIdx?_eq_none_iff];intro x aj;obtain⟨j,am⟩:=List.mem_iff_getElem?.1 aj;exact eG j x (List.getElem?_eq_some_iff.1 am).1 am
 unfold idx; rw[this]
theorem Jk (co:eh ew) (aq:co.l.length<=1000000000) :bT Tryz.prog GS 186 [lm co,.fn 157 [] []] (.int .i64 (idx co.l)) :=by
 refine ca Tryz.checked.mixed b3 ?_;apply bI PL Yh;unfold FG Lo;have bz:c9 (.ao 1) (lm co)=some (.int .i64 co.l.length) :=o6 _;simp[bz];refine c0 co.l.length (fun k ah l=>ah 0=lm co/\ah 1=.fn 157 [] []/\ah 7=.int .i64 co.l.length/\ah 8=.int .i64 k/\∀ j s,j<k->co.l[j]? = some s->qe s=false) ?_ (by simp);rintro k ah l aE ⟨cP,aV,dU,ff,eG⟩;obtain⟨ah,rfl⟩:=j2 cP aV dU ff;clear cP aV dU ff;unfold Vl;simp;by_cases h:k<co.l.length
 ·obtain⟨s,ar,_⟩:=ck h;have cQ:cO (.ao 1) (lm co) (.int .i64 k)=some (.cn [cE s] 0) :=by
   rw[qc]; simp[ar]
  have eF:IntKind.i64.wrap ((k:Int)+1)=k+1:=wrap_i64 (by omega) (by omega);simp[h,cQ];refine⟨aek,bv (aiT s) (by simp[bP,kH]) ?_⟩;cases oS:qe s with
  | true=>
   simp;rw[ahL ar oS eG];exact aZ rfl rfl
  | false=>
   simp[h,eF];intro j fm am p6;rcases Nat.lt_or_ge j k with h1 | h1
   ·exact eG j fm h1 p6
   ·have:j=k:=by omega
    subst this;rw[ar] at p6; cases p6; exact oS
 ·simp[h];rw[UE (fun j s am ar=>eG j s (by omega) ar)];exact aZ rfl rfl
theorem adn (co:eh ew) (aq:co.l.length<=1000000000) :bT Tryz.prog GS 156 [lm co,.fn 157 [] []] (.bool (decide (0<=idx co.l))) :=by
 refine ca Tryz.checked.mixed b3 ?_;apply bI Pm XR;unfold Fh K1;simp;refine bv (Jk co aq) (by simp[bP,ae.closed,Q9]) ?_;simp;exact aZ rfl rfl
set_option maxHeartbeats 4000000 in
theorem WS (co:List ew) (apN:co.length<=20) (eG:∀ s∈co,s.l.length<=10000) :bT Tryz.prog GS 111 [lm (some co)] (.bU [fj (hA (bytesOf co)),.int .i64 0]) :=by
 have s2:idx co=-1:=UE fun j s am ar=>by
  have:=eG s (List.mem_of_getElem? ar);unfold qe; simp; omega
 have bz:∀ k,(bytesOf (co.take k)).length<=200000:=fun k=>by
  have:∀ l:List ew,(∀ s∈l,s.l.length<=10000)->(bytesOf l).length<=10000*l.length:=by
   intro l
   induction l with
   | nil=>intro _; simp[bytesOf]
   | cons s l aK=>
    intro h;have h1:=aK fun x aj=>h x (by simp[aj])
    have af:=h s (by simp);unfold bytesOf at h1 ⊢;rw[List.map_cons,List.flatten_cons,List.length_append,List.length_cons];omega
  have h1:=this (co.take k) fun s ar=>eG s (List.mem_of_mem_take ar)
  have af:(co.take k).length<=20:=by simp; omega
  omega
 refine ca Tryz.checked.mixed b3 ?_;apply bI ON Xl;unfold EL Kw;have aeL:¬(20:Int)<co.length:=by omega
 have S2:=adn (some co) (by simp; omega);rw[eh.JE,s2] at S2;simp[aeL];refine bv S2 (by simp[bP,ae.closed,Q9]) ?_;simp;refine bv al7.Aj rfl ?_;simp[oB,tt,lO];refine c0 co.length (fun k ah l=>ah 2=.ptr 0 0 32/\ah 4=.ptr 1 0 10/\ah 16=lm (some co)/\ah 17=.int .i64 co.length/\ah 18=.int .i64 k/\∃ m,vT m (bytesOf (co.take k))/\l=[.cells 32 (rep 32 (.int .u8 0)),.cells 10 (fL m.st (cE m.rest) m.n)]) ?_ ?_
 ·rintro k ah l aE ⟨aY,bD,ux,q5,q6,m,hm,rfl⟩;obtain⟨ah,rfl⟩:=kC aY bD ux q5 q6;clear aY bD ux q5 q6;unfold UZ;simp;have ih:(ae.aS (fL m.st (cE m.rest) m.n)).closed=true:=by simp[ae.closed,bP,fL,d6.l,kH]
  have jy:List.take 10 (fL m.st (cE m.rest) m.n)=fL m.st (cE m.rest) m.n:=rfl;have p5:=aib hm;have mX:=hm.n;have ju:=bz k;by_cases h:k<co.length
  ·obtain⟨s,ar,iX⟩:=ck h;have cQ:cO (.ao 1) (lm (some co)) (.int .i64 k)=some (.cn [cE s] 0) :=by
    rw[qc]; simp[ar]
   have eF:IntKind.i64.wrap ((k:Int)+1)=k+1:=wrap_i64 (by omega) (by omega);have h1:=eG s iX;have aJ:=RO m s (by omega) (by omega) (by omega);have jO:=aia hm s;rw[<-bytesOf_take co k s ar] at jO;obtain⟨F,uD⟩:∃ F,F=q4 m s:=⟨_,rfl⟩
   rw[<-uD] at aJ jO;simp[h,cQ,tt,jy];refine bv aJ.Aj ?_ ?_
   ·simp only[bP,ih,kH,Bool.and_self]
   simp[oB,tt,lO,h,eF];exact⟨F,jO,rfl⟩
  ·have cC:k=co.length:=by omega
   subst cC;rw[List.take_length] at hm mX ju;have aw:=adQ m.st m.rest (bytesOf co).length (by omega) (by omega);rw[ah9 hm] at aw;have hv:m=⟨m.st,m.rest,((bytesOf co).length:Int)⟩:=by rw[<-mX]
   rw[<-hv] at aw;have e7:=tO (bytesOf co);simp[h,tt,jy];refine bv aw ?_ ?_
   ·simp only[bP,ih,Bool.and_self]
   have d1:((hA (bytesOf co)).map bG).length=32:=by rw[List.length_map,e7]
   simp[fj,e7,lO,List.take_of_length_le];exact aZ rfl (by simp[ae.closed,bP,kG bG (fun _=>rfl)])
 ·simp[bytesOf];exact⟨start,aic,rfl⟩
theorem amh (s:ew) (h:s.l.length<=10000) :bT Tryz.prog GS 73 [cE s] (.bU [fj (hA s.l),.int .i64 0]) :=by
 have ai:bytesOf [s]=s.l:=by simp[bytesOf]
 have aF:=WS [s] (by simp) (by simpa using h);rw[ai] at aF;refine ca Tryz.checked.mixed b3 ?_;apply bI QD Y9;unfold Gy Mg;have e7:=tO s.l;simp;refine ja aF (.cons ?_ .nil) (by simp[ae.flat,kf,fj,wu bG (fun _=>rfl)]) ?_
 ·exact zX (es:=[[cE s]]) (rest:=[]) rfl rfl (by simp) (by simp[bP,kH])
 simp[fj,e7,lO,List.take_of_length_le];exact aZ rfl (by simp[ae.closed,bP,kG bG (fun _=>rfl)])
theorem qG (x:W) (n:Nat) (aQ:0<n) (h:n<32) :bT Tryz.prog GS 178 [bu x,.int .i64 n] (bu (lI x n)) :=by
 refine ca Tryz.checked.mixed b3 ?_;apply bI PC X7;unfold Fz Lh;have bt:IntKind.i64.wrap (32 - (n:Int))=(32 - n:Nat) :=by rw[wrap_i64 (by omega) (by omega)]; omega
 obtain⟨m,hm⟩:∃ m,m=32 - n:=⟨_,rfl⟩
 rw[<-hm] at bt;simp[bt];exact aZ (by unfold lI; rw[hm]) rfl
def d7 (x:W) :List ae:=[bu x]
theorem adm:lf Tryz.prog GS 179 [] (cS 1 d7 (some bQ)) :=
 W4 Tryz.checked.mixed b3 (Wp _ _) aaH (fuel:=100) (k:=10) (by kernel_rfl)
theorem aeh:bT Tryz.prog GS 99 [] (.aS (first.l.map bu)) :=by
 refine ca Tryz.checked.mixed b3 ?_;apply bI QX Zt;unfold GX My;simp;exact aZ rfl rfl
theorem anw (b:List B) (t:Nat) (gh ei dN gy:B) (aQ:b[4*t]? = some gh) (h1:b[4*t+1]? = some ei) (af:b[4*t+2]? = some dN) (ap:b[4*t+3]? = some gy) :
  nl ((b.drop (4*t)).take 4)=((gh.setWidth 32*256#32+ei.setWidth 32)*256#32+dN.setWidth 32)*256#32+gy.setWidth 32:=by
 have h:(b.drop (4*t)).take 4=[gh,ei,dN,gy] :=by
  have aq:=(List.getElem?_eq_some_iff.1 ap).1;apply List.ext_getElem?;intro i
  match i with
  | 0=>simp[aQ]
  | 1=>simp[h1]
  | 2=>simp[af]
  | 3=>simp[ap]
  | i+4=>rw[List.getElem?_eq_none (by simp; omega),List.getElem?_eq_none (by simp)]
 rw[h];show ((((0#32 <<< 8 ||| gh.setWidth 32) <<< 8 ||| ei.setWidth 32) <<< 8 ||| dN.setWidth 32) <<< 8 ||| gy.setWidth 32)=_;rw[DB,DB,DB,DB];simp
theorem aa4 {l:au} {v:ae} {j:Nat} {gc:List W} (h:bX 1 l v j (gc.map d7)) (ax:cT v=false) :∃ (cap sz:Nat) (cs:List ae),v=.ao 1 j 0 gc.length cap sz/\l[j]? = some (.cells sz cs)/\∀ (i:Nat) (x:W),gc[i]? = some x->cs[i]? = some (bu x) :=by
 obtain⟨n,cap,sz,cs,h1,af,ap,aH,bc,bM,_⟩:=h.view ax;rw[List.length_map] at aH;subst aH;refine⟨cap,sz,cs,h1,af,fun i x aj=>?_⟩;have:=bM i (d7 x) (by rw[List.getElem?_map,aj]; rfl) 0 (by omega);simpa [d7] using this
theorem anA (b:List B) (k:Nat) (aE:k<16) :(eM b).take (k+1)=(eM b).take k++[nl ((b.drop (4*k)).take 4)] :=by
 have:(eM b)[k]? = some (nl ((b.drop (4*k)).take 4)) :=by unfold eM; rw[List.getElem?_map,List.getElem?_range aE]; rfl
 rw[List.take_add_one,this]; rfl
theorem anx (b:List B) :(eM b).length=16:=by simp[eM]
theorem ad7 (k:Nat) (b:List B) :(hq k (eM b)).length=16+k:=by simp[uu,eM]
set_option maxHeartbeats 16000000 in
theorem aeI (h:d6) (b:List B) (ai:64<=b.length) :bT Tryz.prog GS 139 [.aS (h.l.map bu),cE (some b)] (.aS ((grind h b).l.map bu)) :=by
 have jR:cJ=140737488355328:=rfl;have To:(h.l.map bu).length=8:=rfl;refine ca Tryz.checked.mixed b3 ?_;apply bI O7 XE;unfold E2 KN;simp[To];refine c0 16 (fun k ah l=>ah 1=cE (some b)/\ah 2=.ptr 0 0 8/\ah 4=.ptr 1 0 8/\ah 6=.int .i64 k/\∃ v j gd rest,ah 5=v/\(cT v=true->k=0)/\(v=.a6\/2<=j)/\bX 1 l v j (((eM b).take k).map d7)/\l=.cells 8 (h.l.map bu) ::.cells 8 gd::rest/\gd.length=8) ?_ ?_
 ·rintro k ah l aE ⟨aV,aY,bD,cj,v,j,gd,rest,br,ax,am,ay,rfl,il⟩;obtain⟨ah,rfl⟩:=kC aV aY bD br cj;clear aV aY bD br cj;unfold U4;by_cases Tz:(k:Int)<16
  ·have eb:k<16:=by omega
   obtain⟨a,aG⟩:∃ a,a=4*k:=⟨_,rfl⟩
   have mx:IntKind.i64.wrap (4*(k:Int))=(a:Nat) :=by rw[wrap_i64 (by omega) (by omega)]; omega
   obtain⟨bn,HP⟩:∃ x,x=a+1:=⟨_,rfl⟩
   obtain⟨bA,afd⟩:∃ x,x=a+2:=⟨_,rfl⟩
   obtain⟨a3,afe⟩:∃ x,x=a+3:=⟨_,rfl⟩
   have b4:IntKind.i64.wrap ((a:Int)+1)=bn:=by rw[wrap_i64 (by omega) (by omega)]; omega
   have w2:IntKind.i64.wrap ((a:Int)+2)=bA:=by rw[wrap_i64 (by omega) (by omega)]; omega
   have ef:IntKind.i64.wrap ((a:Int)+3)=a3:=by rw[wrap_i64 (by omega) (by omega)]; omega
   have jf:IntKind.i64.wrap ((k:Int)+1)=k+1:=wrap_i64 (by omega) (by omega);obtain⟨gh,jp⟩:∃ x,b[a]? = some x:=⟨_,List.getElem?_eq_getElem (by omega)⟩
   obtain⟨ei,gG⟩:∃ x,b[bn]? = some x:=⟨_,List.getElem?_eq_getElem (by omega)⟩
   obtain⟨dN,e6⟩:∃ x,b[bA]? = some x:=⟨_,List.getElem?_eq_getElem (by omega)⟩
   obtain⟨gy,ri⟩:∃ x,b[a3]? = some x:=⟨_,List.getElem?_eq_getElem (by omega)⟩
   have cQ:∀ (i:Nat) (x:B),b[i]? = some x->cO (.ao 1) (cE (some b)) (.int .i64 i)=some (.cn (b9 x) 0) :=fun i x aj=>by rw[qc]; simp[aj]
   have td:=cQ a gh jp;have dP:=cQ bn ei gG;have en:=cQ bA dN e6;have gP:=cQ a3 gy ri;have I9:=anA b k eb;rw[anw b k gh ei dN gy (by rw[<-aG]; exact jp) (by rw[<-aG,<-HP]; exact gG) (by rw[<-aG,<-afd]; exact e6) (by rw[<-aG,<-afe]; exact ri)] at I9;obtain⟨w,bt⟩:∃ w,w=((gh.setWidth 32*256#32+ei.setWidth 32)*256#32+dN.setWidth 32)*256#32+gy.setWidth 32:=⟨_,rfl⟩
   rw[<-bt] at I9;have l9:bX 1 ([.cells 8 (h.l.map bu),.cells 8 gd]++(rest++[bg.cells 1 [bu w]])) v j (((eM b).take k).map d7) :=ay.more [bg.cells 1 [bu w]];have ju:(((eM b).take k).map d7).length<=16:=by simp; omega
   obtain⟨bf,cD,cw,h1,af,ap,aH⟩:=vY (by_:=4) l9 am (x:=.ao 1 (rest.length+2) 0 1 1 1) (xs:=[d7 w]) (by simp[df,d7]) (by simp[d7]) (by omega) (by omega) (by rw[jR]; simp; omega);have f3:bX 1 (.cells 8 (h.l.map bu) ::.cells 8 gd::cw) bf cD (((eM b).take (k+1)).map d7) :=by rw[I9,List.map_append]; exact af
   simp only[List.cons_append,List.nil_append] at h1;have fW:cT bf=false:=by rw[aH]; simp
   simp[Tz,mx,b4,w2,ef,td,dP,en,gP,b9];rw[<-bt];simp[h1];refine du.cM ?_;simp[Tz,jf,eb];exact⟨fW,cD,ap,by rw[<-List.map_take]; exact f3,il⟩
  ·have eb:k=16:=by omega
   subst eb;have hN:cT v=false:=by
    cases I6:cT v with
    | false=>rfl
    | true=>exact absurd (ax I6) (by omega)
   have pY:2<=j:=by
    rcases am with h | h
    ·subst h; cases hN
    ·exact h
   have agN:bX 1 (.cells 8 (h.l.map bu) ::.cells 8 gd::rest) v j ((eM b).map d7) :=by
    have:(eM b).take 16=eM b:=List.take_of_length_le (by rw[anx]; omega);rw[this] at ay; exact ay
   clear ax am ay;simp;refine c0 48 (fun k ah l=>ah 2=.ptr 0 0 8/\ah 4=.ptr 1 0 8/\ah 7=.int .i64 (16+k:Nat)/\∃ v j gd rest,ah 5=v/\cT v=false/\2<=j/\bX 1 l v j ((hq k (eM b)).map d7)/\l=.cells 8 (h.l.map bu) ::.cells 8 gd::rest/\gd.length=8) ?_ ?_
   ·rintro k ah l aE ⟨aY,bD,dU,v,j,gd,rest,br,ax,am,ay,rfl,il⟩;obtain⟨ah,rfl⟩:=j2 aY bD br dU;clear aY bD br dU;unfold U5;obtain⟨t,aU⟩:∃ t,t=16+k:=⟨_,rfl⟩
    rw[<-aU];by_cases uS:(t:Int)<64
    ·have iZ:IntKind.i64.wrap ((t:Int)+1)=(t+1:Nat) :=wrap_i64 (by omega) (by omega);have aq:=ad7 k b;obtain⟨te,G7⟩:∃ i,i=t - 15:=⟨_,rfl⟩
     obtain⟨en,b7⟩:∃ i,i=t - 2:=⟨_,rfl⟩
     obtain⟨tf,Bf⟩:∃ i,i=t - 16:=⟨_,rfl⟩
     obtain⟨h7,G9⟩:∃ i,i=t - 7:=⟨_,rfl⟩
     have DR:IntKind.i64.wrap ((t:Int) - 15)=te:=by rw[wrap_i64 (by omega) (by omega)]; omega
     have w2:IntKind.i64.wrap ((t:Int) - 2)=en:=by rw[wrap_i64 (by omega) (by omega)]; omega
     have DS:IntKind.i64.wrap ((t:Int) - 16)=tf:=by rw[wrap_i64 (by omega) (by omega)]; omega
     have Ar:IntKind.i64.wrap ((t:Int) - 7)=h7:=by rw[wrap_i64 (by omega) (by omega)]; omega
     obtain⟨gc,vd⟩:∃ gc,gc=hq k (eM b) :=⟨_,rfl⟩
     have va:=Hh k (eM b);rw[<-vd] at aq ay va;have xd:gc.length=t:=by omega
     unfold ext at va
     dsimp only at va
     rw[xd,<-G7,<-b7,<-Bf,<-G9] at va;have Bv:∀ i,i<t->gc[i]? = some (gc.getD i 0#32) :=fun i aA=>by rw[List.getD_eq_getElem?_getD,List.getElem?_eq_getElem (by omega)]; rfl
     obtain⟨x,aj⟩:∃ x,x=gc.getD te 0#32:=⟨_,rfl⟩
     obtain⟨y,aO⟩:∃ y,y=gc.getD en 0#32:=⟨_,rfl⟩
     obtain⟨Nx,Uu⟩:∃ y,y=gc.getD tf 0#32:=⟨_,rfl⟩
     obtain⟨Ny,Uv⟩:∃ y,y=gc.getD h7 0#32:=⟨_,rfl⟩
     rw[<-aj,<-aO,<-Uu,<-Uv] at va;obtain⟨cap,sz,cs,rfl,s6,cL⟩:=aa4 ay ax;have acN:=cL te x (by rw[aj]; exact Bv te (by omega));have de:=cL en y (by rw[aO]; exact Bv en (by omega));have x9:=cL tf Nx (by rw[Uu]; exact Bv tf (by omega));have ya:=cL h7 Ny (by rw[Uv]; exact Bv h7 (by omega));obtain⟨w,bt⟩:∃ w,w=Nx+Ny+(lI x 7 ^^^ lI x 18 ^^^ x >>> 3)+(lI y 17 ^^^ lI y 19 ^^^ y >>> 10) :=⟨_,rfl⟩
     rw[<-bt] at va;have l9:bX 1 ([.cells 8 (h.l.map bu),.cells 8 gd]++(rest++[bg.cells 1 [bu w]])) _ j (gc.map d7) :=ay.more [bg.cells 1 [bu w]];obtain⟨bf,cD,cw,h1,af,ap,aH⟩:=vY (by_:=4) l9 (.inr am) (x:=.ao 1 (rest.length+2) 0 1 1 1) (xs:=[d7 w]) (by simp[df,d7]) (by simp[d7]) (by omega) (by omega) (by rw[jR]; simp; omega);have f3:bX 1 (.cells 8 (h.l.map bu) ::.cells 8 gd::cw) bf cD ((hq (k+1) (eM b)).map d7) :=by rw[va,List.map_append]; exact af
     simp only[List.cons_append,List.nil_append] at h1;have fW:cT bf=false:=by rw[aH]; rfl
     obtain⟨k1,rfl⟩:∃ k1,j=k1+2:=⟨j - 2,by omega⟩
     have p0:rest[k1]? = some (.cells sz cs) :=by simpa using s6
     have uV:(rest++[bg.cells 1 [bu w]])[k1]? = some (.cells sz cs) :=by rw[List.getElem?_append_left (fg p0)]; exact p0
     have Er:te<gc.length:=by omega
     have dN:en<gc.length:=by omega
     have Es:tf<gc.length:=by omega
     have qW:h7<gc.length:=by omega
     have aaB:=qG x 7 (by omega) (by omega);have aay:=qG x 18 (by omega) (by omega);have aax:=qG y 17 (by omega) (by omega);have aaz:=qG y 19 (by omega) (by omega);simp at aaB aay aax aaz;simp[uS,DR,w2,DS,Ar,Er,dN,Es,qW,p0,acN,de,x9,ya];refine bv aaB rfl ?_;simp[p0,x9,ya];refine bv aay rfl ?_;simp[p0,x9,ya];refine bv aax rfl ?_;simp[p0,x9,ya];refine bv aaz rfl ?_;simp[p0,x9,ya];rw[<-bt];simp[h1];refine du.cM ?_;simp[iZ];exact⟨by omega,by omega,fW,cD,ap.resolve_left (by intro e; subst e; cases fW),f3,il⟩
    ·have eb:k=48:=by omega
     subst eb;subst aU;have p7:hq 48 (eM b)=eV b:=rfl;rw[p7] at ay;obtain⟨cap,sz,cs,rfl,s6,cL⟩:=aa4 ay ax;obtain⟨k1,rfl⟩:∃ k1,j=k1+2:=⟨j - 2,by omega⟩
     have p0:rest[k1]? = some (.cells sz cs) :=by simpa using s6
     have e7:=Ac b;rw[e7];clear ay ax am s6;simp;refine bv adm.Aj rfl ?_;have l8:h.l.length=8:=rfl;simp[lO,l8];refine c0 64 (fun k ah l=>ah 2=.ptr 0 0 8/\ah 4=.ptr 1 0 8/\ah 5=.ao 1 (k1+2) 0 64 cap sz/\ah 10=cS 1 d7 (some bQ)/\ah 11=.ptr (rest.length+2) 0 8/\ah 12=.int .i64 k/\l=.cells 8 (h.l.map bu) ::.cells 8 gd::(rest++[.cells 8 ((k4 h b k).l.map bu)])) ?_ ?_
     ·rintro k ah l aE ⟨aY,bD,br,hr,iB,jm,rfl⟩;obtain⟨ah,rfl⟩:=DO aY bD br hr iB jm;clear aY bD br hr iB jm;unfold U6;have eQ:=fg p0;have uV:∀ x:bg,(rest++[x])[k1]? = some (.cells sz cs) :=fun x=>by rw[List.getElem?_append_left eQ]; exact p0
      by_cases uS:(k:Int)<64
      ·have fT:k<64:=by omega
       have eF:IntKind.i64.wrap ((k:Int)+1)=(k+1:Nat) :=wrap_i64 (by omega) (by omega);have mU:bQ[k]? = some (bQ.getD k 0#32) :=by rw[List.getD_eq_getElem?_getD,List.getElem?_eq_getElem (show k<bQ.length from fT)]; rfl
       have fV:=cL k ((eV b).getD k 0#32) (by rw[List.getD_eq_getElem?_getD,List.getElem?_eq_getElem (by omega)]; rfl);rw[Zx h b k fT];obtain⟨jf,bt⟩:∃ jf,(eV b).getD k 0#32=jf:=⟨_,rfl⟩
       obtain⟨iF,Il⟩:∃ iF,bQ.getD k 0#32=iF:=⟨_,rfl⟩
       obtain⟨s,ar⟩:∃ s,k4 h b k=s:=⟨_,rfl⟩
       rw[bt] at fV ⊢;rw[Il] at mU ⊢;rw[ar];have xh:cO (.ao 1) (cS 1 d7 (some bQ)) (.int .i64 k)=some (.cn (d7 iF) 0) :=by rw[qc]; simp[mU]
       have aaA:=qG s.e 6 (by omega) (by omega);have aav:=qG s.e 11 (by omega) (by omega);have t25:=qG s.e 25 (by omega) (by omega);have qD:=qG s.a 2 (by omega) (by omega);have aaw:=qG s.a 13 (by omega) (by omega);have t22:=qG s.a 22 (by omega) (by omega);simp at aaA aav t25 qD aaw t22;have ahh:s.l=[s.a,s.b,s.c,s.d,s.e,s.f,s.g,s.h] :=rfl;have Ud:(round s iF jf).l=[(round s iF jf).a,(round s iF jf).b,(round s iF jf).c,(round s iF jf).d,(round s iF jf).e,(round s iF jf).f,(round s iF jf).g,(round s iF jf).h] :=rfl;simp[uS,ahh,xh,d7,uV,fV];refine bv aaA rfl ?_;simp[xh,d7,uV,fV];refine bv aav rfl ?_;simp[xh,d7,uV,fV];refine bv t25 rfl ?_;simp[xh,d7,uV,fV];refine bv qD rfl ?_;simp[xh,d7,uV,fV];refine bv aaw rfl ?_;simp[xh,d7,uV,fV];refine bv t22 rfl ?_;simp[lO,fT,eF];rfl
      ·have eb:k=64:=by omega
       subst eb;rw[Zv];obtain⟨v,ax⟩:∃ v,rounds h bQ (eV b)=v:=⟨_,rfl⟩
       rw[ax];have pW:grind h b=⟨h.a+v.a,h.b+v.b,h.c+v.c,h.d+v.d,h.e+v.e,h.f+v.f,h.g+v.g,h.h+v.h⟩:=by unfold grind; rw[ax]
       have nR:h.l.length=v.l.length:=rfl;have l8:h.l.length=8:=rfl;have rl:(grind h b).l=hD h.l v.l 8:=by rw[pW]; rfl
       rw[rl];simp;refine c0 8 (fun k ah l=>ah 2=.ptr 0 0 8/\ah 4=.ptr 1 0 8/\ah 11=.ptr (rest.length+2) 0 8/\ah 21=.int .i64 k/\l=.cells 8 ((hD h.l v.l k).map bu) ::.cells 8 gd::(rest++[.cells 8 (v.l.map bu)])) ?_ ?_
       ·rintro k ah l aE ⟨aY,bD,iB,q8,rfl⟩;obtain⟨ah,rfl⟩:=j2 aY bD iB q8;clear aY bD iB q8;unfold U7;by_cases g6:(k:Int)<8
        ·have rq:k<8:=by omega
         have eF:IntKind.i64.wrap ((k:Int)+1)=(k+1:Nat) :=wrap_i64 (by omega) (by omega);obtain⟨y,aO⟩:∃ y,v.l[k]? = some y:=⟨_,List.getElem?_eq_getElem (show k<v.l.length from rq)⟩
         obtain⟨z,aB⟩:∃ z,h.l[k]? = some z:=⟨_,List.getElem?_eq_getElem (show k<h.l.length from rq)⟩
         have aG:=NL nR (k:=k) (by rw[l8]; exact rq);rw[aB] at aG;have ht:=Eg nR k;have mc:=mr bu (hD h.l v.l k) k (z+y) (by rw[ht,l8]; exact rq);rw[NM nR aB aO] at mc;have Tm:(List.map bu (hD h.l v.l k))[k]? = some (bu z) :=by rw[List.getElem?_map,aG]; rfl
         have wS:k<=7:=by omega
         obtain⟨A,cA⟩:∃ A,A=(hD h.l v.l k).map bu:=⟨_,rfl⟩
         have g3:A.length=8:=by rw[cA,List.length_map,ht,l8]
         rw[<-cA] at Tm mc ⊢;obtain⟨aeQ,af2⟩:=List.getElem?_eq_some_iff.1 Tm;simp[g6,rq,eF,af2,aO,mc,g3,wS]
        ·have eb:k=8:=by omega
         subst eb;have ht:=Eg nR 8;have CF:∀ A:List ae,A.length=8->A.take 8=A:=fun A cA=>List.take_of_length_le (by omega)
         obtain⟨A,cA⟩:∃ A,A=(hD h.l v.l 8).map bu:=⟨_,rfl⟩
         have g3:A.length=8:=by rw[cA,List.length_map,ht,l8]
         have wC:bP A=true:=by rw[cA]; exact kG bu (fun _=>rfl) _
         rw[<-cA];simp[lO,il,g3,CF A g3];exact aZ rfl (by simp[ae.closed,wC])
       ·simp[NN]
     ·simp[Zy];exact List.take_of_length_le (by simp[l8])
   ·refine⟨rfl,rfl,rfl,v,j,gd,rest,rfl,hN,pY,agN,rfl,il⟩
 ·simp;exact⟨0,.nil 0⟩
def pi (k:Nat) :List B:=128#8::List.replicate k 0#8
theorem ajQ (k:Nat) :pi (k+1)=pi k++[0#8] :=by simp[pi,List.replicate_succ']
theorem WO (k:Nat) :(pi k).length=k+1:=by simp[pi]
set_option maxHeartbeats 8000000 in
theorem ak3 (n:Nat) (aI:n<=100000000) :lf Tryz.prog GS 100 [.int .i64 n] (cE (some (tail n))) :=by
 have jR:cJ=140737488355328:=rfl;refine zR Tryz.checked.mixed b3 ?_;apply bI OG Xe;unfold ED Ko;obtain⟨m,hm⟩:∃ m,m=(119 - n % 64) % 64:=⟨_,rfl⟩
 simp;refine c0 m (fun k ah l=>ah 0=.int .i64 n/\∃ v j,ah 3=v/\cT v=false/\bX 1 l v j ((pi k).map b9)) ?_ ?_
 ·rintro k ah l aE ⟨cP,v,j,bd,ax,ay⟩;obtain⟨ah,rfl⟩:=oj cP bd;clear cP bd;unfold UU;have bz:=ay.len;rw[List.length_map,WO] at bz;obtain⟨cd,Cj⟩:∃ cd,cd=k+1:=⟨_,rfl⟩
  rw[<-Cj] at bz;have iZ:IntKind.i64.wrap ((n:Int)+(cd:Int))=(n+cd:Nat) :=wrap_i64 (by omega) (by omega);obtain⟨q,bp⟩:∃ q,q=n+cd:=⟨_,rfl⟩
  rw[<-bp] at iZ;have lB:IntKind.i64.wrap ((q:Int)+8)=(q+8:Nat) :=wrap_i64 (by omega) (by omega);obtain⟨Dm,IH⟩:∃ Dm,Dm=q+8:=⟨_,rfl⟩
  rw[<-IH] at lB;have oV:=AV Dm 64 (by omega);rw[show ((64:Int).toNat)=64 from rfl] at oV;obtain⟨x,aj⟩:∃ x,x=Dm % 64:=⟨_,rfl⟩
  rw[<-aj] at oV;simp[bz,iZ,lB,oV];by_cases Ut:x=0
  ·have ko:k=m:=by omega
   subst ko;have IZ:pi k=lQ n 0:=by unfold pi lQ; rw[<-hm]; simp
   rw[IZ] at ay;clear bz iZ lB oV;simp[Ut];refine c0 8 (fun k ah l=>ah 0=.int .i64 n/\ah 4=.int .i64 (7 - (k:Int))/\∃ v j,ah 3=v/\cT v=false/\bX 1 l v j ((lQ n k).map b9)) ?_ ?_
   ·rintro k ah l aE ⟨cP,bD,v,j,bd,ax,ay⟩;obtain⟨ah,rfl⟩:=jG cP bd bD;clear cP bd bD;unfold UV;obtain⟨c,ak⟩:∃ c:Int,c=7 - (k:Int) :=⟨_,rfl⟩
    rw[<-ak];by_cases g6:0<=c
    ·have wS:k<8:=by omega
     have xc:IntKind.i64.wrap (c - 1)=7 - ((k:Int)+1) :=by rw[wrap_i64 (by omega) (by omega)]; omega
     obtain⟨d,bJ⟩:∃ d,d=8*c:=⟨_,rfl⟩
     have I8:IntKind.i64.wrap (8*c)=d:=by rw[wrap_i64 (by omega) (by omega)]; omega
     have HZ:0<=d:=by omega
     have afI:d.toNat=56 - 8*k:=by omega
     have aj:=OA (BitVec.ofNat 64 n*8#64) k wS;have jS:=DK n k;obtain⟨y,aO⟩:∃ y,y=(((BitVec.ofNat 64 n*8#64) >>> (56 - 8*k)).setWidth 8) :=⟨_,rfl⟩
     rw[<-aO] at aj;have l9:bX 1 (l++[bg.cells 1 [bG y]]) v j ((lQ n k).map b9) :=ay.more _;obtain⟨bf,cD,l',h1,af,ap,aH,bc,bM⟩:=mF (by_:=1) l9 (x:=.ao 1 l.length 0 1 1 1) (xs:=[[bG y]]) (by simp[df]) (by simp) (by omega) (by omega) (by simp; omega);have fW:cT bf=false:=by rw[rJ bM,ax]; rfl
     have f3:bX 1 l' bf cD ((lQ n (k+1)).map b9) :=by rw[aaD n k y aj,List.map_append]; exact af
     rw[BitVec.mul_comm] at aO;simp only[bG] at h1;simp[g6,I8,HZ,afI];rw[<-aO];simp[h1];refine du.cM ?_;simp[xc,wS];exact⟨fW,cD,f3⟩
    ·have eb:k=8:=by omega
     subst eb;simp[g6];exact ay.zZ (fun _=>rfl) (some (tail n)) ax rfl
   ·simp;exact⟨ax,_,ay⟩
  ·have jS:=WO k;have l9:bX 1 (l++[bg.cells 1 [bG 0#8]]) v j ((pi k).map b9) :=ay.more _;obtain⟨bf,cD,l',h1,af,ap,aH,bc,bM⟩:=mF (by_:=1) l9 (x:=.ao 1 l.length 0 1 1 1) (xs:=[[bG 0#8]]) (by simp[df]) (by simp) (by omega) (by omega) (by simp; omega);have fW:cT bf=false:=by rw[rJ bM,ax]; rfl
   have f3:bX 1 l' bf cD ((pi (k+1)).map b9) :=by rw[ajQ,List.map_append]; exact af
   have ko:k<m:=by omega
   simp[bG] at h1;simp[Ut,h1];refine du.cM ?_;simp[ko];exact⟨fW,cD,f3⟩
 ·simp;exact⟨rfl,0,.ao 0 1 1 1 [.int .u8 128] _ rfl rfl rfl (by intro e aw; simp[pi] at aw; subst aw; rfl) (Nat.le_refl _) (Nat.le_refl _) rfl⟩
set_option maxHeartbeats 8000000 in
theorem akX (h:d6) (b:List B) (ai:b.length<=100000000) :bT Tryz.prog GS 98 [.aS (h.l.map bu),cE (some b)] (.aS ((gB h b).1.l.map bu)) :=by
 refine ca Tryz.checked.mixed b3 ?_;apply bI QW Zs;unfold GV Mx;have CF:∀ A:List ae,A.length=8->A.take 8=A:=fun A cA=>List.take_of_length_le (by omega)
 have To:∀ s:d6,(s.l.map bu).length=8:=fun s=>rfl
 obtain⟨DZ,oE⟩:∃ DZ,DZ=h.l.map bu:=⟨_,rfl⟩
 have aeO:DZ.length=8:=by rw[oE]; rfl
 rw[<-oE];simp[aeO];refine c0 (b.length / 64) (fun k ah l=>ah 1=cE (some b)/\ah 2=.ptr 0 0 8/\ah 4=.ptr 1 0 8/\ah 5=.int .i64 (64*k:Nat)/\∃ s gd,gB s (b.drop (64*k))=gB h b/\l=[.cells 8 (s.l.map bu),.cells 8 gd]/\gd.length=8) ?_ ?_
 ·rintro k ah l aE ⟨aV,aY,bD,br,s,gd,ar,rfl,il⟩;obtain⟨ah,rfl⟩:=j2 aV aY bD br;clear aV aY bD br;unfold V4;obtain⟨a,aG⟩:∃ a,a=64*k:=⟨_,rfl⟩
  rw[<-aG] at ar ⊢;obtain⟨bn,HP⟩:∃ bn,bn=64*(k+1) :=⟨_,rfl⟩
  rw[<-HP];obtain⟨A,cA⟩:∃ A,A=s.l.map bu:=⟨_,rfl⟩
  have g3:A.length=8:=by rw[cA]; rfl
  rw[<-cA];have bt:IntKind.i64.wrap ((a:Int)+64)=bn:=by rw[wrap_i64 (by omega) (by omega)]; omega
  by_cases dv:bn<=b.length
  ·have y0:(bn:Int)<=b.length:=by omega
   have e7:fN (.ao 1) (cE (some b)) (some (.int .i64 (a:Int))) (some (.int .i64 (bn:Int))) none=some (cE (some ((b.drop a).take 64))) :=by
    unfold cE; rw[alN (by omega) (by omega) (by omega)];have:(bn:Int).toNat - (a:Int).toNat=64:=by omega
    rw[this,Int.toNat_natCast]
   have fi:64<=((b.drop a).take 64).length:=by simp; omega
   have pW:=aeI s _ fi;have rm:grind s ((b.drop a).take 64)=grind s (((b.drop a).take 64)) :=rfl;rw[<-cA] at pW;have cm:gB (grind s ((b.drop a).take 64)) (b.drop bn)=gB h b:=by
    rw[<-ar,x6 s (b.drop a) (by simp; omega),List.drop_drop];congr 2; omega
   have fT:k<b.length / 64:=by omega
   have wC:bP A=true:=by rw[cA]; exact kG bu (fun _=>rfl) _
   obtain⟨t8,yE⟩:∃ t8,t8=(grind s ((b.drop a).take 64)).l.map bu:=⟨_,rfl⟩
   have sQ:t8.length=8:=by rw[yE]; rfl
   rw[<-yE] at pW;simp[bt,dv,y0,g3,CF A g3,e7];refine bv pW (by simp[bP,ae.closed,wC,kH]) ?_;simp[lO,g3,sQ,bt,fT];exact⟨_,cm,gd,⟨yE,rfl⟩,il⟩
  ·have y0:¬(bn:Int)<=b.length:=by omega
   have aw:=ar;rw[AU s (b.drop a) (by simp; omega)] at aw;rw[<-aw];have wC:bP A=true:=by rw[cA]; exact kG bu (fun _=>rfl) _
   simp[bt,dv,y0,g3,CF A g3,lO,il];exact aZ (by rw[cA]) (by rw[cA] at wC; simp[ae.closed,wC])
 ·exact⟨rfl,rfl,rfl,rfl,h,rep 8 (.int .u32 0),rfl,by rw[oE]; rfl,rfl⟩
def qn (s:d6) (k:Nat) :List B:=(written s).take k++List.replicate (32 - k) 0#8
theorem ajJ (s:d6) (k:Nat) (aE:k<=32) :(qn s k).length=32:=by
 unfold qn;have:=DW s;simp; omega
theorem ajK (s:d6) (k:Nat) (x:B) (aj:(written s)[k]? = some x) :(qn s k).set k x=qn s (k+1) :=by
 have aE:k<32:=(List.getElem?_eq_some_iff.1 aj).1;unfold qn;have aq:(List.take k (written s)).length=k:=by have:=DW s; simp; omega
 rw[List.set_append_right _ _ (by omega),aq,Nat.sub_self,List.take_add_one,aj,show 32 - k=(32 - (k+1))+1 by omega,List.replicate_succ,List.set_cons_zero];simp
theorem anE (s:d6) (k:Nat) (aE:k<32) :∃ w,s.l[k / 4]? = some w/\(written s)[k]? = some ((w >>> (24 - 8*(k % 4))).setWidth 8) :=by
 have aQ:∀ w:W,w=w >>> 0:=fun w=>by simp
 obtain⟨a,b,c,d,e,f,g,h⟩:=s;have:∀ (l:List W) (k:Nat),k<4*l.length->∃ w,l[k / 4]? = some w/\(l.map sf).flatten[k]? = some ((w >>> (24 - 8*(k % 4))).setWidth 8) :=by
  intro l
  induction l with
  | nil=>intro k aE; simp at aE
  | cons w l aK=>
   intro k aE
   match k,aE with
   | 0,_=>exact⟨w,rfl,rfl⟩
   | 1,_=>exact⟨w,rfl,rfl⟩
   | 2,_=>exact⟨w,rfl,rfl⟩
   | 3,_=>refine⟨w,rfl,?_⟩; simp[sf]
   | k+4,aE=>
    obtain⟨y,h1,af⟩:=aK k (by simp at aE; omega);refine⟨y,?_,?_⟩
    ·rw[show (k+4) / 4=k / 4+1 by omega]; exact h1
    ·rw[show (k+4) % 4=k % 4 by omega]; exact af
 exact this _ k (by simpa [d6.l] using aE)
set_option maxHeartbeats 8000000 in
theorem ak5 (s:d6) :bT Tryz.prog GS 97 [.aS (s.l.map bu)] (fj (written s)) :=by
 refine ca Tryz.checked.mixed b3 ?_;apply bI QV Zr;unfold GU Mw;obtain⟨A,cA⟩:∃ A,A=s.l.map bu:=⟨_,rfl⟩
 have g3:A.length=8:=by rw[cA]; rfl
 rw[<-cA];simp[g3];refine c0 32 (fun k ah l=>ah 1=.ptr 0 0 8/\ah 2=.ptr 1 0 32/\ah 3=.ptr 2 0 32/\ah 4=.int .i64 k/\∃ gd,l=[.cells 8 A,.cells 32 gd,.cells 32 ((qn s k).map bG)]/\gd.length=32) ?_ ?_
 ·rintro k ah l aE ⟨aV,aY,bd,bD,gd,rfl,il⟩;obtain⟨ah,rfl⟩:=j2 aV aY bd bD;clear aV aY bd bD;unfold V3;by_cases Ii:(k:Int)<32
  ·have fT:k<32:=by omega
   have eF:IntKind.i64.wrap ((k:Int)+1)=(k+1:Nat) :=wrap_i64 (by omega) (by omega);have II:=EA k 4 (by omega) (by omega);have oV:=AV k 4 (by omega);rw[show ((4:Int).toNat)=4 from rfl] at II oV;obtain⟨w,bt,aj⟩:=anE s k fT;obtain⟨q,bp⟩:∃ q,q=k / 4:=⟨_,rfl⟩
   obtain⟨r,aC⟩:∃ r,r=k % 4:=⟨_,rfl⟩
   rw[<-bp] at II bt;rw[<-aC] at oV aj;have IH:q<8:=by omega
   obtain⟨vA,Ud⟩:∃ vA,vA=8*r:=⟨_,rfl⟩
   have I8:IntKind.i64.wrap (8*(r:Int))=vA:=by rw[wrap_i64 (by omega) (by omega)]; omega
   obtain⟨tD,ahb⟩:∃ tD,tD=24 - vA:=⟨_,rfl⟩
   have ahB:IntKind.i64.wrap (24 - (vA:Int))=tD:=by rw[wrap_i64 (by omega) (by omega)]; omega
   have lA:=ajK s k _ aj;rw[<-Ud,<-ahb] at aj lA;have dh:=ajJ s k (by omega);have mc:=mr bG (qn s k) k ((w >>> tD).setWidth 8) (by rw[dh]; exact fT);rw[lA] at mc;obtain⟨O,ej⟩:∃ O,O=(qn s k).map bG:=⟨_,rfl⟩
   have pQ:O.length=32:=by rw[ej,List.length_map,dh]
   rw[<-ej] at mc ⊢;have aeR:A[q]? = some (bu w) :=by rw[cA,List.getElem?_map,bt]; rfl
   obtain⟨aeQ,aeS⟩:=List.getElem?_eq_some_iff.1 aeR;have ag6:q<=7:=by omega
   have agl:k<=31:=by omega
   have ag7:(q:Int)<8:=by omega
   simp[Ii,fT,eF,II,oV,I8,ahB,g3,IH,aeS,pQ,mc,il,ag6,agl,ag7]
  ·have eb:k=32:=by omega
   subst eb;have ay:qn s 32=written s:=by unfold qn; rw[List.take_of_length_le (by rw[DW]; omega)]; simp
   rw[ay];obtain⟨O,ej⟩:∃ O,O=(written s).map bG:=⟨_,rfl⟩
   have pQ:O.length=32:=by rw[ej,List.length_map,DW]
   have ae2:bP O=true:=by rw[ej]; exact kG bG (fun _=>rfl) _
   have aU:O.take 32=O:=List.take_of_length_le (by omega);unfold fj;rw[<-ej];simp[pQ,aU,lO,il];exact aZ rfl (by simp[ae.closed,ae2])
 ·refine⟨rfl,rfl,rfl,rfl,_,rfl,rfl⟩
set_option maxHeartbeats 8000000 in
theorem ZK (s:ew) (ar:s.l.length<=1000000) :bT Tryz.prog GS 67 [cE s] (fj (hA s.l)) :=by
 have jR:cJ=140737488355328:=rfl;refine ca Tryz.checked.mixed b3 ?_;apply bI Qz Y5;unfold Gt Mb;simp;refine bv aeh rfl ?_;have ajt:bX 1 ([bg.cells 32 (rep 32 (ae.int IntKind.u8 0))]++[bg.cells 0 []]) (.ao 1 1 0 0 0 0) 1 [] :=.ao 1 0 0 0 [] _ rfl rfl rfl (by simp) (Nat.le_refl _) (Nat.le_refl _) rfl;obtain⟨v,j,r,h1,af,ap,aH⟩:=vY (by_:=1) ajt (.inr (Nat.le_refl _)) (x:=cE s) (xs:=s.l.map b9) (by unfold cE; rw[wh,List.length_map]) (by intro e aw; obtain⟨x,_,rfl⟩:=List.mem_map.1 aw; rfl) (by omega) (by omega) (by rw[jR]; simp; omega);have ax:cT v=false:=by rw[aH]; rfl
 simp only[List.nil_append,List.singleton_append] at h1 af;have bz:c9 (.ao 1) (cE s)=some (.int .i64 s.l.length) :=o6 _;have jS:=ak3 s.l.length (by omega);have Un:(tail s.l.length).length<=80:=by rw[<-Nc]; exact DK _ _
 obtain⟨bf,cD,cw,cd,ce,dH,gI⟩:=vY (by_:=1) (pre:=[bg.cells 32 (rep 32 (ae.int IntKind.u8 0))]) af ap (x:=cE (some (tail s.l.length))) (xs:=(tail s.l.length).map b9) (by unfold cE; rw[wh,List.length_map]; rfl) (by intro e aw; obtain⟨x,_,rfl⟩:=List.mem_map.1 aw; rfl) (by omega) (by omega) (by rw[jR]; simp; omega);have fW:cT bf=false:=by rw[gI,ax]; rfl
 rw[<-List.map_append] at ce;simp only[List.singleton_append] at cd ce;have kX:=ce.qx (fun _=>rfl) (some (s.l++tail s.l.length)) fW rfl;have fi:=akX first (s.l++tail s.l.length) (by simp; omega)
 have zi:=ak5 (gB first (s.l++tail s.l.length)).1;have m0:hA s.l=written (gB first (s.l++tail s.l.length)).1:=rfl;rw[<-m0] at zi;obtain⟨F,uD⟩:∃ F,F=(gB first (s.l++tail s.l.length)).1:=⟨_,rfl⟩
 rw[<-uD] at fi zi;simp[h1];refine du.cM ?_;simp[bz];refine bv jS.Aj rfl ?_;simp[cd];refine du.cM ?_;simp;refine ja fi (.cons (.same _ ?_) (.cons kX .nil)) (RX bu (fun _=>rfl) _) ?_
 ·simp[ae.closed,kG bu (fun _=>rfl)]
 simp;refine bv zi ?_ ?_
 ·simp[bP,ae.closed,kG bu (fun _=>rfl)]
 have e7:=tO s.l;simp[fj,e7,lO,List.take_of_length_le];exact aZ rfl (by simp[ae.closed,kG bG (fun _=>rfl)])
end gX
end Go.cl

namespace Go.cl
open Go Go.Proofs Go.RowKit
set_option maxRecDepth 100000
open gX
theorem aaP {e:TypeId} (aL:Tryz.prog.underlying e=some (.int .u8)) :∀ (n:Nat) {ts:List TypeId} {cs:List ae},dy Tryz.prog (List.replicate n e++ts) cs->∃ (x:List B) (cs' : List ae),cs=x.map bG++cs'/\x.length=n/\dy Tryz.prog ts cs'
 | 0,ts,cs,h=>⟨[],cs,rfl,rfl,h⟩
 | n+1,ts,cs,h=>by
  obtain⟨k,wk,rfl,h1,af,ap⟩:=Ak aL h;obtain⟨x,g0,rfl,aj,aH⟩:=aaP aL n ap;have bc:(0:Int)<=k:=h1;have bM:k<=255:=af;refine⟨BitVec.ofNat 8 k.toNat::x,g0,?_,by simp[aj],aH⟩;have:((BitVec.ofNat 8 k.toNat).toNat:Int)=k:=by
   rw[BitVec.toNat_ofNat,Nat.mod_eq_of_lt (by omega)]; omega
  simp[bG,u]; omega
theorem aaT {ts:List TypeId} {cs:List ae} (h:dy Tryz.prog (27::ts) cs) :∃ (x:BitVec 64) (cs' : List ae),cs=dz x::cs'/\dy Tryz.prog ts cs':=by
 obtain⟨k,wk,rfl,h1,af,ap⟩:=Ak (k:=.u64) (by kernel_rfl) h;have bc:(0:Int)<=k:=h1;have bM:k<=18446744073709551615:=af;refine⟨BitVec.ofNat 64 k.toNat,wk,?_,ap⟩;have:((BitVec.ofNat 64 k.toNat).toNat:Int)=k:=by
  rw[BitVec.toNat_ofNat,Nat.mod_eq_of_lt (by omega)]; omega
 simp[dz,u]; omega
def Jv:List Int:=gX.bQ.map fun k=>(k.toNat:Int)
theorem amp:xN=Jv.map fun k=>.int .u32 k:=by unfold xN Jv; rw[List.map_map]; rfl
theorem aiG {W:World} (h:laidMetH Tryz.prog [("braid/digest.constants",Go.Proofs.YtboebmmklamaeaaGreatDoor.Rows.laid_braid_digest_constants)] W) :∀ g,eN W (fun _=>True) (GS g) (.pointer (some ⟨g,0,none⟩)) :=by
 intro g;unfold GS;split
 ·rename_i ai;have:=Nat.eq_of_beq_eq_true ai;subst this;rw[MakeChecks.laidMetH_plain _ _ _ (by kernel_rfl)] at h;obtain⟨cx,⟨cP,t0,lZ,apz,eJ,hy,af0,IZ,hN,HZ,_,_⟩,_,_⟩:=h;have a1:Tryz.prog.globalNamed "braid/digest.constants"=some 1:=by kernel_rfl
  have b7:(Tryz.prog.globals[1]?).map (·.type)=some 236:=by kernel_rfl
  obtain rfl:=Option.some.inj (a1.symm.trans af0);obtain rfl:=Option.some.inj (b7.symm.trans IZ);rw[amp];exact aev Jv a1 hN (n:=64) (e:=25) (by kernel_rfl) (by kernel_rfl) (by kernel_rfl) HZ (by rfl)
 ·exact .bad _
end Go.cl

namespace Go.cl
open Go Go.Proofs
set_option maxRecDepth 100000
open gX
def Of:ae->Option B
 | .int .u8 (.ofNat n)=>match Nat.ble n 255 with | true=>some (BitVec.ofNat 8 n) | false=>none
 | _=>none
def Ox:List ae->Option (List B)
 | []=>some []
 | c::r=>match Of c with
  | some b=>match Ox r with | some l=>some (b::l) | none=>none
  | none=>none
def kt:ae->Option (List B)
 | .aS cs=>match Ox cs with | some l=>(match Nat.beq l.length 32 with | true=>some l | false=>none) | none=>none
 | _=>none
def ZV:List (List ae)->Option (List B)
 | []=>some []
 | [c] ::r=>match Of c with
  | some b=>match ZV r with | some l=>some (b::l) | none=>none
  | none=>none
 | _=>none
def acI:ae->Option ew
 | .a6=>some none
 | .b6 1 es=>match ZV es with | some l=>some (some l) | none=>none
 | _=>none
def amf:List ae->Option ae
 | [c]=>match acI c with
  | some s=>match Nat.ble s.l.length 10000 with | true=>some (.bU [fj (hA s.l),.int .i64 0]) | false=>none
  | none=>none
 | _=>none
abbrev k7:FuncId × Bool × (List ae->Option ae) :=(73,false,amf)
end Go.cl

namespace Go.cl
open Go Go.Proofs Go.Sort Go.Shelf
set_option maxRecDepth 100000
open gX
def cK:List B->List B->Int
 | [],[]=>0
 | [],_::_=>-1
 | _::_,[]=>1
 | a::kA,b::lH=>if a.toNat<b.toNat then -1 else if b.toNat<a.toNat then 1 else cK kA lH
theorem Rc (a b:B) (kA lH:List B) :cK (a::kA) (b::lH)=if a.toNat<b.toNat then -1 else if b.toNat<a.toNat then 1 else cK kA lH:=rfl
theorem q0:∀ a:List B,cK a a=0
 | []=>rfl
 | a::kA=>by unfold cK; simp; exact q0 kA
theorem Ba:∀ {a b:List B},cK a b=0->a=b
 | [],[],_=>rfl
 | [],_::_,h=>by simp[cK] at h
 | _::_,[],h=>by simp[cK] at h
 | a::kA,b::lH,h=>by
  unfold cK at h;split at h
  ·cases h
  ·split at h
   ·cases h
   ·have h1:a=b:=BitVec.eq_of_toNat_eq (by omega);rw[h1,Ba h]
theorem Bb:∀ a b:List B,cK b a=- cK a b
 | [],[]=>rfl
 | [],_::_=>rfl
 | _::_,[]=>rfl
 | a::kA,b::lH=>by
  unfold cK;by_cases h1:a.toNat<b.toNat
  ·simp[h1,show ¬ b.toNat<a.toNat by omega]
  ·by_cases af:b.toNat<a.toNat
   ·simp[h1,af]
   ·simp[h1,af]; exact Bb kA lH
theorem Rb:∀ a b:List B,cK a b=-1\/cK a b=0\/cK a b=1
 | [],[]=>by simp[cK]
 | [],_::_=>by simp[cK]
 | _::_,[]=>by simp[cK]
 | a::kA,b::lH=>by
  unfold cK;split
  ·simp
  ·split
   ·simp
   ·exact Rb kA lH
theorem yg:∀ a b c:List B,cK a b<0->cK b c<0->cK a c<0
 | [],[],_,h,_=>by simp[cK] at h
 | [],_::_,[],_,h=>by simp[cK] at h
 | [],_::_,_::_,_,_=>by simp[cK]
 | _::_,[],_,h,_=>by simp[cK] at h
 | _::_,_::_,[],_,h=>by simp[cK] at h
 | a::kA,b::lH,c::akM,h1,af=>by
  unfold cK at h1 af ⊢;have aK:=yg kA lH akM
  repeat' split at h1
  all_goals repeat' split at af
  all_goals repeat' split
  all_goals first | omega | (exact aK h1 af) | (exfalso; omega) | skip
theorem adg {a b:List B} (k:Nat) (h:∀ j,j<k->a[j]? = b[j]?) (aG:k<=a.length) (ai:k<=b.length) :cK (a.drop k) (b.drop k)=cK a b:=by
 induction k with
 | zero=>simp
 | succ k aK=>
  rw[<-aK (fun j am=>h j (by omega)) (by omega) (by omega)];have h1:=h k (by omega);rw[List.drop_eq_getElem_cons (l:=a) (i:=k) (by omega),List.drop_eq_getElem_cons (l:=b) (i:=k) (by omega)];rw[List.getElem?_eq_getElem (by omega),List.getElem?_eq_getElem (by omega)] at h1;have af:=Option.some.inj h1
  conv=>rhs; unfold cK
  rw[af];simp
end Go.cl

namespace Go.cl
open Go Go.Proofs
set_option maxRecDepth 100000
namespace Op
open gX
abbrev Q:=BitVec 64
abbrev D:=BitVec 32
theorem No:(u (1#64) :Int)=1:=rfl
def d7 (x:D) :List ae:=[bu x]
def pb (l:List D) :Q:=l.foldl (fun o x=>o*x.setWidth 64 % 1000000007#64) 1#64
theorem ai9 (l:List D) (k:Nat) (x:D) (h:l[k]? = some x) :pb (l.take (k+1))=pb (l.take k)*x.setWidth 64 % 1000000007#64:=by
 rw[List.take_add_one,h]; simp[pb,List.foldl_append]
theorem Du (x:Q) :ct .rem .u64 (u x) .u64 1000000007=some (.int .u64 (u (x % 1000000007#64))) :=v6 x 1000000007#64 (by decide)
theorem JS (l:List D) (aq:l.length<=1000) :bT Tryz.prog GS 191 [.int .u64 1000000007,cS 1 d7 (some l)] (bu ((pb l).setWidth 32)) :=by
 refine ca Tryz.checked.mixed b3 ?_;apply bI PQ Yn;unfold FL Lt;have bz:c9 (.ao 1) (cS 1 d7 (some l))=some (.int .i64 l.length) :=o6 _;simp[bz];refine c0 l.length (fun k ah _=>ah 0=.int .u64 1000000007/\ah 5=dz (pb (l.take k))/\ah 8=cS 1 d7 (some l)/\ah 9=.int .i64 l.length/\ah 10=.int .i64 k) ?_ (by simp[pb]; rfl);rintro k ah h aE ⟨cP,br,ff,hs,hr⟩;obtain⟨ah,rfl⟩:=kC cP br ff hs hr;clear cP br ff hs hr;unfold Vp;by_cases h:k<l.length
 ·obtain⟨x,aj,_⟩:=ck h;have cQ:cO (.ao 1) (cS 1 d7 (some l)) (.int .i64 k)=some (.cn (d7 x) 0) :=by rw[qc]; simp[aj]
  have eF:IntKind.i64.wrap ((k:Int)+1)=(k+1:Nat) :=wrap_i64 (by omega) (by omega);have ar:=ai9 l k x aj;simp[h,cQ,d7,eF,Du];rw[<-ar]
 ·have eb:k=l.length:=by omega
  subst eb;simp;exact aZ rfl rfl
def eY (a n:Nat) :Nat:=a ^ n % 1000000007
theorem vw (a n:Nat) :eY a n<1000000007:=Nat.mod_lt _ (by decide)
theorem W1 (a n:Nat) :eY a n*eY a n % 1000000007=eY a (2*n) :=by
 unfold eY; rw[<-Nat.mul_mod,<-Nat.pow_add]; congr 2; omega
theorem WZ (a n:Nat) :eY a n*a % 1000000007=eY a (n+1) :=by
 unfold eY; rw[Nat.mod_mul_mod,Nat.pow_succ]
def fY (a:D) (n:Nat) :D:=BitVec.ofNat 32 (eY a.toNat n)
theorem qs (a:D) (n:Nat) :(fY a n).toNat=eY a.toNat n:=by
 have:=vw a.toNat n;unfold fY; rw[BitVec.toNat_ofNat]; exact Nat.mod_eq_of_lt (by omega)
theorem JR (x y:D) (aj:x.toNat<1000000007) :(pb [x,y]).setWidth 32=BitVec.ofNat 32 (x.toNat*y.toNat % 1000000007) :=by
 apply BitVec.eq_of_toNat_eq;have aO:=y.isLt;have h1:x.toNat*y.toNat<1000000007*4294967296:=by
  calc x.toNat*y.toNat<=1000000007*y.toNat:=Nat.mul_le_mul_right _ (by omega)
   _<1000000007*4294967296:=Nat.mul_lt_mul_of_pos_left (by simpa using aO) (by decide)
 have af:(1#64*x.setWidth 64 % 1000000007#64).toNat=x.toNat:=by
  rw[BitVec.one_mul,BitVec.toNat_umod,BitVec.toNat_setWidth];rw[Nat.mod_eq_of_lt (show x.toNat<2 ^ 64 by omega),show (1000000007#64).toNat=1000000007 from rfl,Nat.mod_eq_of_lt aj]
 simp only[pb,List.foldl_cons,List.foldl_nil,BitVec.toNat_setWidth,BitVec.toNat_umod,BitVec.toNat_mul,af,BitVec.toNat_ofNat];rw[Nat.mod_eq_of_lt (show y.toNat<2 ^ 64 by omega),Nat.mod_eq_of_lt (show x.toNat*y.toNat<2 ^ 64 by omega),Nat.mod_eq_of_lt (show 1000000007<2 ^ 64 by decide)]
theorem aja (a:D) (n:Nat) :(pb [fY a n,fY a n]).setWidth 32=fY a (2*n) :=by
 rw[JR _ _ (by rw[qs]; exact vw _ _),qs,W1]; rfl
theorem mul_one (a:D) (n:Nat) :(pb [fY a n,a]).setWidth 32=fY a (n+1) :=by
 rw[JR _ _ (by rw[qs]; exact vw _ _),qs,WZ]; rfl
theorem zY {l:au} {b:Nat} {x y:D} (h:l[b]? = some (.cells 2 [bu x,bu y])) :fa (bW l) (.ao 1 b 0 2 2 2) (cS 1 d7 (some [x,y])) :=by
 refine zX (rest:=[]) (es:=[[bu x],[bu y]]) (by simpa using h) rfl (by simp) (by simp[bP,ae.closed])
theorem aem:iS Tryz.prog 196=true:=by kernel_rfl
theorem al5 {x:D} {l:au} {K:ae->au->Prop} (a7:∀ v rest,K v (.cells 1 [bu ((pb [x,x]).setWidth 32)] ::rest)) :dB Tryz.prog GS 196 [.ptr 0 0 1] (.cells 1 [bu x] ::l) (c:=⟨K⟩) :=by
 apply bI PU Yr;unfold FP Lx;simp;refine ja (JS [x,x] (by simp)) (.cons (.same _ rfl) (.cons (zY (by simp)) .nil)) rfl ?_;simp;exact a7 _ _
theorem SN (n k:Nat) (aE:k<64) :n / 2 ^ (63 - k)=2*(n / 2 ^ (64 - k))+n / 2 ^ (63 - k) % 2:=by
 have:2 ^ (64 - k)=2 ^ (63 - k)*2:=by rw[<-Nat.pow_succ]; congr 1; omega
 rw[this,<-Nat.div_div_eq_div_mul]; omega
theorem Kf (a:D) (n:Q) :bT Tryz.prog GS 183 [bu a,dz n] (bu (fY a n.toNat)) :=by
 refine ca Tryz.checked.mixed b3 ?_;apply bI PI Ye;unfold FD Ll;simp;refine c0 64 (fun k ah l=>ah 0=bu a/\ah 1=dz n/\ah 5=.ptr 0 0 1/\ah 6=.fn 196 [] [.ptr 0 0 1]/\ah 9=.int .i64 k/\∃ r,l=.cells 1 [bu (fY a (n.toNat / 2 ^ (64 - k)))] ::r) ?_ (by
  have:n.toNat / 2 ^ 64=0:=Nat.div_eq_of_lt n.isLt;simp[this,fY,eY]; rfl)
 rintro k ah l aE ⟨cP,aV,br,cj,hs,r,rfl⟩;obtain⟨ah,rfl⟩:=kC cP aV br cj hs;clear cP aV br cj hs;unfold Vk;by_cases h:(k:Int)<64
 ·have eF:IntKind.i64.wrap ((k:Int)+1)=(k+1:Nat) :=wrap_i64 (by omega) (by omega);have vd:IntKind.i64.wrap (63 - (k:Int))=((63 - k:Nat) :Int) :=by rw[wrap_i64 (by omega) (by omega)]; omega
  have ai:=SN n.toNat k (by omega);have m0:ct .shr .u64 (u n) .i64 ((63 - k:Nat) :Int)=some (.int .u64 (u (n >>> (63 - k)))) :=su n .i64 (63 - k);have aeM:64 - (k+1)=63 - k:=by omega
  simp[h,eF];refine⟨aem,?_⟩;simp;refine al5 fun v rest=>?_
  simp[vd,m0,aja];rw[aeM];by_cases ay:n.toNat / 2 ^ (63 - k) % 2=1
  ·have HU:n >>> (63 - k) &&& 1#64=1#64:=by
    apply BitVec.eq_of_toNat_eq;rw[BitVec.toNat_and,BitVec.toNat_ushiftRight,Nat.shiftRight_eq_div_pow];show _ &&& 1=1;rw[Nat.and_one_is_mod,ay]
   rw[ay] at ai;have bp:fY a (2*(n.toNat / 2 ^ (64 - k))+1)=fY a (n.toNat / 2 ^ (63 - k)) :=by rw[<-ai]
   simp[HU,No];refine ja (JS [fY a (2*(n.toNat / 2 ^ (64 - k))),a] (by simp)) (.cons (.same _ rfl) (.cons (zY (by simp)) .nil)) rfl ?_;rw[mul_one,bp];simp[eF];omega
  ·have ay:n.toNat / 2 ^ (63 - k) % 2=0:=by omega
   have HU:n >>> (63 - k) &&& 1#64=0#64:=by
    apply BitVec.eq_of_toNat_eq;rw[BitVec.toNat_and,BitVec.toNat_ushiftRight,Nat.shiftRight_eq_div_pow];show _ &&& 1=0;rw[Nat.and_one_is_mod,ay]
   rw[ay,Nat.add_zero] at ai;simp[HU,eF];rw[<-ai];exact⟨by omega,rfl⟩
 ·have eb:k=64:=by omega
  subst eb;simp;exact aZ rfl rfl
theorem Kn (a b:Q) (ai:b≠0#64) :ct .quo .u64 (u a) .u64 (u b)=some (.int .u64 (u (a / b))) :=by
 have bL:(b.toNat:Int)≠0:=fun e=>ai (BitVec.eq_of_toNat_eq (by simpa using e))
 show (if IntKind.u64=IntKind.u64/\(b.toNat:Int)≠0 then some (ae.int .u64 (IntKind.u64.wrap ((a.toNat:Int).tdiv b.toNat))) else none)=_;rw[if_pos ⟨rfl,bL⟩,vL];congr 2;have:((a.toNat:Int).tdiv b.toNat)=((a.toNat / b.toNat:Nat) :Int) :=rfl;rw[this,BitVec.ofInt_natCast];congr 1;apply BitVec.eq_of_toNat_eq;rw[BitVec.toNat_ofNat,BitVec.toNat_udiv];exact Nat.mod_eq_of_lt (Nat.lt_of_le_of_lt (Nat.div_le_self _ _) a.isLt)
theorem Xd (x:Q) :ct .quo .u64 (u x) .u64 2=some (.int .u64 (u (x / 2#64))) :=Kn x 2#64 (by decide)
theorem ZM (x:Q) :ct .rem .u64 (u x) .u64 2=some (.int .u64 (u (x % 2#64))) :=v6 x 2#64 (by decide)
theorem xn (x y:Q) (aj:x.toNat<4294967296) (aO:y.toNat<4294967296) :(x*y % 1000000007#64).toNat=x.toNat*y.toNat % 1000000007:=by
 have h1:x.toNat*y.toNat<18446744073709551616:=by
  calc x.toNat*y.toNat<=4294967295*y.toNat:=Nat.mul_le_mul_right _ (by omega)
   _<=4294967295*4294967295:=Nat.mul_le_mul_left _ (by omega)
   _<18446744073709551616:=by decide
 rw[BitVec.toNat_umod,BitVec.toNat_mul,Nat.mod_eq_of_lt (show x.toNat*y.toNat<2 ^ 64 by omega)]; rfl
theorem aj9 (o b m:Nat) (h:m % 2=1) :o*b % 1000000007*(b*b % 1000000007) ^ (m / 2) % 1000000007=o*b ^ m % 1000000007:=by
 have hm:m=2*(m / 2)+1:=by omega
 rw[Nat.mul_mod,Nat.mod_mod,Nat.pow_mod (b*b % 1000000007),Nat.mod_mod,<-Nat.pow_mod,<-Nat.mul_mod];congr 1;rw[Nat.mul_pow,Nat.mul_assoc,<-Nat.pow_add]
 conv=>rhs; rw[hm,Nat.pow_succ]
 rw[Nat.mul_comm b,show 2*(m / 2)=m / 2+m / 2 by omega]
theorem aj8 (o b m:Nat) (h:m % 2=0) :o*(b*b % 1000000007) ^ (m / 2) % 1000000007=o*b ^ m % 1000000007:=by
 have hm:m=2*(m / 2) :=by omega
 rw[Nat.mul_mod,Nat.pow_mod (b*b % 1000000007),Nat.mod_mod,<-Nat.pow_mod,<-Nat.mul_mod];congr 1;rw[Nat.mul_pow,<-Nat.pow_add]
 conv=>rhs; rw[hm]
 rw[show 2*(m / 2)=m / 2+m / 2 by omega]
theorem W2 (a n:Q) (aG:a.toNat<4294967296) :bT Tryz.prog GS 95 [dz a,dz n,.int .u64 1000000007] (dz (BitVec.ofNat 64 (eY a.toNat n.toNat))) :=by
 refine ca Tryz.checked.mixed b3 ?_;apply bI QT Zp;unfold GQ Mu;simp;refine vm (fun m ah _=>∃ o b c:Q,c.toNat=m/\o.toNat<1000000007/\b.toNat<4294967296/\o.toNat*b.toNat ^ m % 1000000007=eY a.toNat n.toNat/\ah 0=dz b/\ah 1=dz c/\ah 2=.int .u64 1000000007/\ah 7=dz o) ?_ n.toNat _ _ ⟨1#64,a,n,rfl,by decide,aG,by simp[eY],by simp; rfl⟩;rintro m ah l ⟨o,b,c,ak,ay,ai,aF,cP,aV,aY,dU⟩;obtain⟨ah,rfl⟩:=j2 cP aV aY dU;clear cP aV aY dU;unfold V2;have kq:(u c:Int)=(m:Int) :=by unfold u; rw[ak]
 by_cases hm:m=0
 ·subst hm;have aQ:c=0#64:=BitVec.eq_of_toNat_eq (by simpa using ak);simp[aQ];refine aZ ?_ rfl;rw[Nat.pow_zero,Nat.mul_one,Nat.mod_eq_of_lt ay] at aF;rw[<-aF,BitVec.ofNat_toNat,BitVec.setWidth_eq]
 ·have BZ:c≠0#64:=fun e=>hm (by rw[<-ak,e]; rfl)
  have aN:(0:Int)<u c:=by rw[kq]; omega
  have Tp:(c / 2#64).toNat=m / 2:=by rw[BitVec.toNat_udiv,ak]; rfl
  have TP:(c % 2#64).toNat=m % 2:=by rw[BitVec.toNat_umod,ak]; rfl
  have b1:(b*b % 1000000007#64).toNat<4294967296:=by
   rw[xn b b ai ai]; have:=Nat.mod_lt (b.toNat*b.toNat) (show 1000000007 > 0 by decide); omega
  by_cases T2:m % 2=1
  ·have h1:c % 2#64=1#64:=BitVec.eq_of_toNat_eq (by rw[TP,T2]; rfl);simp[aN,Du,Xd,ZM,h1,No];have eu:o.toNat<4294967296:=by omega
   refine⟨m / 2,by omega,_,_,_,Tp,?_,b1,?_,rfl,rfl,rfl⟩
   ·rw[xn o b eu ai]; exact Nat.mod_lt _ (by decide)
   ·rw[xn o b eu ai,xn b b ai ai,aj9 _ _ _ T2,aF]
  ·have h1:c % 2#64=0#64:=BitVec.eq_of_toNat_eq (by rw[TP]; simp; omega);simp[aN,Du,Xd,ZM,h1,No];refine⟨m / 2,by omega,_,_,_,Tp,ay,b1,?_,rfl,rfl,rfl⟩;rw[xn b b ai ai,aj8 _ _ _ (by omega),aF]
def fk (a:D) :Bool:=decide (0<a.toNat)&&decide (a.toNat<1000000007)&&decide (eY a.toNat 500000003=1)
theorem Jm (a:D) :bT Tryz.prog GS 151 [bu a] (.bool (fk a)) :=by
 refine ca Tryz.checked.mixed b3 ?_;apply bI Ph XN;unfold Fb KW fk;have h1:((0:Int)<u a)<->0<a.toNat:=by unfold u; omega
 have af:(u a<(1000000007:Int))<->a.toNat<1000000007:=by unfold u; omega
 by_cases aV:0<a.toNat
 ·by_cases aY:a.toNat<1000000007
  ·simp[h1,af,aV,aY];refine bv (Kf a 500000003#64) rfl ?_;have ap:(u (fY a 500000003)=(1:Int))<->eY a.toNat 500000003=1:=by unfold u; rw[qs]; omega
   have aH:(500000003#64:Q).toNat=500000003:=rfl;rw[aH];simp[ap];exact aZ (by simp[aV,aY]) rfl
  ·simp[h1,af,aV,aY];exact aZ rfl rfl
 ·simp[h1,aV];exact aZ rfl rfl
theorem ZJ (a:D) :bT Tryz.prog GS 64 [bu a] (.bool (fk a)) :=by
 refine ca Tryz.checked.mixed b3 ?_;apply bI Qw Y2;unfold Gq L8 fk;have h1:((1:Int)<=u a)<->0<a.toNat:=by unfold u; omega
 have af:(u a<(1000000007:Int))<->a.toNat<1000000007:=by unfold u; omega
 by_cases aV:0<a.toNat
 ·by_cases aY:a.toNat<1000000007
  ·simp[h1,af,aV,aY];refine bv (W2 (a.setWidth 64) 500000003#64 (by rw[BitVec.toNat_setWidth]; omega)) rfl ?_;have bc:(a.setWidth 64:Q).toNat=a.toNat:=by rw[BitVec.toNat_setWidth]; omega
   have aH:(500000003#64:Q).toNat=500000003:=rfl;have bM:=vw a.toNat 500000003;have ap:(u (BitVec.ofNat 64 (eY a.toNat 500000003))=(1:Int))<->eY a.toNat 500000003=1:=by unfold u; rw[BitVec.toNat_ofNat,Nat.mod_eq_of_lt (by omega)]; omega
   rw[aH,bc];simp[ap];exact aZ (by simp[aV,aY]) rfl
  ·simp[h1,af,aV,aY];exact aZ rfl rfl
 ·simp[h1,aV];exact aZ rfl rfl
def h0 (a:D) :Bool:=decide (a.toNat<500000003)
theorem Bm (a:D) :bT Tryz.prog GS 66 [bu a] (.bool (h0 a)) :=by
 refine ca Tryz.checked.mixed b3 ?_;apply bI Qy Y4;unfold Gs Ma h0;have af:(u (a.setWidth 64)<(500000003:Int))<->a.toNat<500000003:=by unfold u; rw[BitVec.toNat_setWidth]; omega
 simp[af];exact aZ rfl rfl
@[simp] theorem aoA (a b:List UInt8) :oy .eql a b=some (.bool (decide (a=b))) :=by
 by_cases h:a=b<;>simp[oy,h]
@[simp] theorem aoD (a b:List UInt8) :oy .neq a b=some (.bool (!decide (a=b))) :=by
 by_cases h:a=b<;>simp[oy,h]
abbrev l0 (s:List UInt8) (pos:Nat) :Nat × Nat:=Utf8.decode ⟨s.toArray⟩ pos
theorem Sk (s:List UInt8) (pos:Nat) (b:UInt8) (h:s[pos]? = some b) :(ByteArray.get! ⟨s.toArray⟩ pos)=b:=by
 show (s.toArray)[pos]! = b;obtain⟨h1,af⟩:=List.getElem?_eq_some_iff.1 h;simp[h1,af]
theorem ady {s:List UInt8} {pos:Nat} {b:UInt8} (h:s[pos]? = some b) (ai:b.toNat<128) :l0 s pos=(b.toNat,1) :=by
 unfold l0;rw[Lib.decode_at,Sk s pos b h];unfold Lib.decodeN;rw[if_pos ai]
theorem adx {s:List UInt8} {pos:Nat} {b:UInt8} (h:s[pos]? = some b) (ai:128<=b.toNat) :128<=(l0 s pos).1:=by
 unfold l0;rw[Lib.decode_at,Sk s pos b h];unfold Lib.decodeN;rw[if_neg (by omega)]
 repeat' split
 all_goals (simp only; omega)
theorem Rw (s:List UInt8) (pos:Nat) :1<=(l0 s pos).2:=by
 unfold l0;rw[Lib.decode_at];unfold Lib.decodeN
 repeat' split
 all_goals simp only<;>omega
def jA (p:Nat->Bool) (s:List UInt8) :Nat->Nat->Int
 | 0,_=>-1
 | n+1,pos=>if pos<s.length then (if p (l0 s pos).1 then (pos:Int) else jA p s n (pos+(l0 s pos).2)) else -1
theorem Jq (p:Nat->Bool) (s:List UInt8) :∀ (n pos:Nat),s.length - pos<=n->jA p s n pos=jA p s (s.length - pos) pos
 | 0,pos,h=>by rw[show s.length - pos=0 by omega]
 | n+1,pos,h=>by
  by_cases aF:pos<s.length
  ·have bt:=Rw s pos;rw[show s.length - pos=(s.length - pos - 1)+1 by omega];unfold jA;rw[if_pos aF,if_pos aF,Jq p s n _ (by omega),Jq p s (s.length - pos - 1) _ (by omega)]
  ·rw[show s.length - pos=0 by omega];unfold jA;rw[if_neg aF]
def lh (cI r:Nat) :Bool:=decide (r<cI)||decide (126<r)
def gn (cI:Nat) (b:UInt8) :Bool:=decide (cI<=b.toNat)&&decide (b.toNat<=126)
theorem Jp (cI:Nat) (dw:cI<=128) (s:List UInt8) :∀ (n pos:Nat),s.length - pos<=n->(jA (lh cI) s n pos<0<->(s.drop pos).all (gn cI)=true)
 | 0,pos,h=>by
  rw[List.drop_eq_nil_of_le (by omega)];simp[jA]
 | n+1,pos,h=>by
  unfold jA;by_cases aF:pos<s.length
  ·rw[if_pos aF,List.drop_eq_getElem_cons aF,List.all_cons];have eB:s[pos]? = some s[pos] :=List.getElem?_eq_getElem aF;obtain⟨b,ai⟩:∃ b,b=s[pos] :=⟨_,rfl⟩
   rw[<-ai] at eB ⊢;by_cases ar:b.toNat<128
   ·rw[ady eB ar];simp only;have dG:gn cI b=!lh cI b.toNat:=by
     unfold gn lh;by_cases h1:b.toNat<cI<;>by_cases af:126<b.toNat<;>simp[h1,af]<;>omega
    cases oG:lh cI b.toNat with
    | true=>rw[dG,oG]; simp
    | false=>
     rw[dG,oG];simp only[Bool.false_eq_true,if_false,Bool.not_false,Bool.true_and];exact Jp cI dw s n (pos+1) (by omega)
   ·have az:=adx eB (by omega);have oG:lh cI (l0 s pos).1=true:=by unfold lh; simp; omega
    have dG:gn cI b=false:=by unfold gn; simp; omega
    rw[oG,dG]; simp
  ·rw[if_neg aF,List.drop_eq_nil_of_le (by omega)];simp
theorem ajf {s:List UInt8} {pos:Nat} {r:au} (h:pos<s.length) :rV (.iter s pos::r) (.it 0)=some (.bU [.bool true,.int .i64 pos,.int .i32 (l0 s pos).1],.iter s (pos+(l0 s pos).2) ::r) :=by
 unfold rV;simp only[List.getElem?_cons_zero];rw[show Nat.blt pos s.length=true from Nat.ble_eq_true_of_le h];rfl
theorem aje {s:List UInt8} {pos:Nat} {r:au} (h:¬ pos<s.length) :rV (.iter s pos::r) (.it 0)=some (.bU [.bool false],.iter s pos::r) :=by
 unfold rV;simp only[List.getElem?_cons_zero];rw[show Nat.blt pos s.length=false by cases ai:Nat.blt pos s.length with | false=>rfl | true=>exact absurd (Nat.le_of_ble_eq_true ai) h]
theorem ahP {g:FuncId} {p:Nat->Bool} (az:iS Tryz.prog g=true) (aF:∀ r:Nat,bT Tryz.prog GS g [.int .i32 r] (.bool (p r))) (s:List UInt8) :
  bT Tryz.prog GS 162 [.str s,.fn g [] [],.bool true] (.int .i64 (jA p s s.length 0)) :=by
 refine ca Tryz.checked.mixed b3 ?_;apply bI Pr XW;unfold Fm K6;simp[xC];refine vm (fun m ah l=>∃ pos,s.length - pos=m/\jA p s m pos=jA p s s.length 0/\ah 1=.fn g [] []/\ah 2=.bool true/\ah 10=.it 0/\l=[.iter s pos]) ?_ s.length _ _ ⟨0,by simp⟩;rintro m ah l ⟨pos,hm,aA,aV,aY,hr,rfl⟩;obtain⟨ah,rfl⟩:=jG aV aY hr;clear aV aY hr;unfold Vi;by_cases h:pos<s.length
 ·have fG:m=(m - 1)+1:=by omega
  have bt:=Rw s pos;obtain⟨R,iT⟩:∃ R,R=jA p s s.length 0:=⟨_,rfl⟩
  rw[<-iT] at aA ⊢;rw[fG] at aA;unfold jA at aA;rw[if_pos h] at aA;simp[ajf h];refine⟨az,bv (aF _) rfl ?_⟩;cases ai:p (l0 s pos).1 with
  | true=>
   rw[ai] at aA;simp;exact aZ (by rw[<-aA]; simp) rfl
  | false=>
   rw[ai] at aA;simp;refine⟨s.length - (pos+(l0 s pos).2),by omega,pos+(l0 s pos).2,rfl,?_,by simp,by simp,by simp,by simp⟩;rw[<-aA];simp only[Bool.false_eq_true,if_false];rw[Jq p s (m - 1) _ (by omega)]
 ·have ik:m=0:=by omega
  subst ik;simp[aje h];exact aZ (by rw[<-aA]; rfl) rfl
theorem aar {g:FuncId} {p:Nat->Bool} (az:iS Tryz.prog g=true) (aF:∀ r:Nat,bT Tryz.prog GS g [.int .i32 r] (.bool (p r))) (s:List UInt8) :
  bT Tryz.prog GS 115 [.str s,.fn g [] []] (.int .i64 (jA p s s.length 0)) :=by
 refine ca Tryz.checked.mixed b3 ?_;apply bI OP Xn;unfold EN Ky;simp;refine bv (ahP az aF s) rfl ?_;simp;exact aZ rfl rfl
theorem aip (r:Nat) :bT Tryz.prog GS 116 [.int .i32 r] (.bool (lh 33 r)) :=by
 refine ca Tryz.checked.mixed b3 ?_;apply bI OQ Xo;unfold EO Kz lh;have h1:((r:Int)<33)<->r<33:=by omega
 have af:((126:Int)<r)<->126<r:=by omega
 by_cases h:r<33
 ·simp[h1,h];exact aZ rfl rfl
 ·simp[h1,h,af];exact aZ rfl rfl
theorem ams (r:Nat) :bT Tryz.prog GS 164 [.int .i32 r] (.bool (lh 32 r)) :=by
 refine ca Tryz.checked.mixed b3 ?_;apply bI Pt XY;unfold Fp K8 lh;have h1:((r:Int)<32)<->r<32:=by omega
 have af:((126:Int)<r)<->126<r:=by omega
 by_cases h:r<32
 ·simp[h1,h];exact aZ rfl rfl
 ·simp[h1,h,af];exact aZ rfl rfl
theorem aej:iS Tryz.prog 116=true:=by kernel_rfl
theorem aen:iS Tryz.prog 164=true:=by kernel_rfl
def g9 (s:List UInt8) :Bool:=decide (1<=s.length)&&decide (s.length<=20)&&s.all (gn 33)
theorem Jx (s:List UInt8) :bT Tryz.prog GS 82 [.str s] (.bool (g9 s)) :=by
 refine ca Tryz.checked.mixed b3 ?_;apply bI QH Zd;unfold GF Mk g9;have h1:((1:Int)<=s.length)<->1<=s.length:=by omega
 have af:((s.length:Int)<=20)<->s.length<=20:=by omega
 by_cases aV:1<=s.length
 ·by_cases aY:s.length<=20
  ·simp[h1,af,aV,aY];refine bv (aar aej aip s) rfl ?_;have:=Jp 33 (by omega) s s.length 0 (by omega);rw[List.drop_zero] at this;have ap:decide (jA (lh 33) s s.length 0<0)=s.all (gn 33) :=by
    cases ai:s.all (gn 33) with
    | true=>simpa using this.2 ai
    | false=>
     have:¬ jA (lh 33) s s.length 0<0:=fun h=>by rw[this.1 h] at ai; cases ai
     simpa using this
   simp;rw[ap];exact aZ (by simp[aV,aY]) rfl
  ·simp[h1,af,aV,aY];exact aZ (by simp[aV,aY]) rfl
 ·simp[h1,aV];exact aZ (by simp[aV]) rfl
theorem NW {s:List UInt8} {p:UInt8->Bool} {k:Nat} {b:UInt8} (h:s[k]? = some b) :(s.take (k+1)).all p=((s.take k).all p&&p b) :=by
 rw[List.take_add_one,h]; simp[List.all_append]
theorem AL {s:List UInt8} {p:UInt8->Bool} {k:Nat} {b:UInt8} (h:s[k]? = some b) (aF:p b=false) :s.all p=false:=by
 rw[List.all_eq_false];exact⟨b,List.mem_of_getElem? h,by simp[aF]⟩
theorem JT (s:List UInt8) :bT Tryz.prog GS 51 [.str s] (.bool (g9 s)) :=by
 refine ca Tryz.checked.mixed b3 ?_;apply bI Qj YQ;unfold Ge LX;have h1:((s.length:Int)<1)<->¬ 1<=s.length:=by omega
 have af:((20:Int)<s.length)<->¬ s.length<=20:=by omega
 by_cases aV:1<=s.length
 ·by_cases aY:s.length<=20
  ·simp[h1,af,aV,aY];refine c0 s.length (fun k ah _=>ah 0=.str s/\ah 3=.int .i64 k/\(s.take k).all (gn 33)=true) ?_ (by simp);rintro k ah l aE ⟨gM,dO,eP⟩;obtain⟨ah,rfl⟩:=oj gM dO;clear gM dO;unfold VK;by_cases h:k<s.length
   ·obtain⟨b,ai,_⟩:=ck h;have eF:IntKind.i64.wrap ((k:Int)+1)=(k+1:Nat) :=wrap_i64 (by omega) (by omega);have ei:((b.toNat:Int)<33)<->¬ 33<=b.toNat:=by omega
    have dN:((126:Int)<b.toNat)<->¬ b.toNat<=126:=by omega
    have fS:vg (.str s) (.int .i64 k)=some (.int .u8 b.toNat) :=by simp[ai,hZ]
    by_cases q1:33<=b.toNat
    ·by_cases hz:b.toNat<=126
     ·have dG:gn 33 b=true:=by simp[gn,q1,hz]
      simp[h,fS,ei,dN,q1,hz,eF,NW ai,dG,-xj];simpa using eP
     ·have dG:gn 33 b=false:=by simp[gn,hz]
      simp[h,fS,ei,dN,q1,hz,-xj];exact aZ (by simp[g9,AL ai dG]) rfl
    ·have dG:gn 33 b=false:=by simp[gn,q1]
     simp[h,fS,ei,q1,-xj];exact aZ (by simp[g9,AL ai dG]) rfl
   ·have eb:k=s.length:=by omega
    subst eb;rw[List.take_length] at eP;simp;exact aZ (by simp only[g9,eP]; simp[aV,aY]) rfl
  ·simp[h1,af,aV,aY];exact aZ (by simp[g9,aY]) rfl
 ·simp[h1,aV];exact aZ (by simp[g9,aV]) rfl
theorem aj0 (s:List UInt8) (aq:s.length<=1000000000) :bT Tryz.prog GS 138 [.str s] (.bool (s.all (gn 32))) :=by
 refine ca Tryz.checked.mixed b3 ?_;apply bI O6 XD;unfold E1 KM;simp;refine c0 s.length (fun k ah _=>ah 0=.str s/\ah 3=.int .i64 k/\(s.take k).all (gn 32)=true) ?_ (by simp);rintro k ah l aE ⟨gM,dO,eP⟩;obtain⟨ah,rfl⟩:=oj gM dO;clear gM dO;unfold U3;by_cases h:k<s.length
 ·obtain⟨b,ai,_⟩:=ck h;have eF:IntKind.i64.wrap ((k:Int)+1)=(k+1:Nat) :=wrap_i64 (by omega) (by omega);have ei:((b.toNat:Int)<32)<->¬ 32<=b.toNat:=by omega
  have dN:((126:Int)<b.toNat)<->¬ b.toNat<=126:=by omega
  have fS:vg (.str s) (.int .i64 k)=some (.int .u8 b.toNat) :=by simp[ai,hZ]
  by_cases q1:32<=b.toNat
  ·by_cases hz:b.toNat<=126
   ·have dG:gn 32 b=true:=by simp[gn,q1,hz]
    simp[h,fS,ei,dN,q1,hz,eF,NW ai,dG,-xj];simpa using eP
   ·have dG:gn 32 b=false:=by simp[gn,hz]
    simp[h,fS,ei,dN,q1,hz,-xj];exact aZ (by simp only[AL ai dG]) rfl
  ·have dG:gn 32 b=false:=by simp[gn,q1]
   simp[h,fS,ei,q1,-xj];exact aZ (by simp only[AL ai dG]) rfl
 ·have eb:k=s.length:=by omega
  subst eb;rw[List.take_length] at eP;simp;exact aZ (by simp only[eP]) rfl
end Op
end Go.cl

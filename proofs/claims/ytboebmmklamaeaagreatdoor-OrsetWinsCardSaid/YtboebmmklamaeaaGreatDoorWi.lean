/-
  SHA-256, as lists of words and bytes; the words of a block.
-/
import Derived.Test.YtboebmmklamaeaaGreatDoorWh
import Derived.LaidMore
import Derived.MakeChecks
import Derived.Lib.DecodeN
set_option linter.unusedVariables false
set_option linter.unusedSimpArgs false
set_option linter.unnecessarySimpa false
namespace Go.cj
open Go
namespace g9
abbrev W:=BitVec 32
abbrev B:=BitVec 8
def lI (x:W) (n:Nat) :W:=(x >>> n) ||| (x <<< (32 - n))
def nk (l:List B) :W:=l.foldl (fun a x=>(a <<< 8) ||| x.setWidth 32) 0#32
def part (b:List B) (k t:Nat) :W:=nk (((b.take k).drop (4*t)).take 4)
def eM (b:List B) :List W:=(List.range 16).map fun t=>nk ((b.drop (4*t)).take 4)
def ext (w:List W) :W:=
 let t:=w.length
 let x:=w.getD (t - 15) 0#32
 let y:=w.getD (t - 2) 0#32
 w.getD (t - 16) 0#32+w.getD (t - 7) 0#32+(lI x 7 ^^^ lI x 18 ^^^ (x >>> 3))+(lI y 17 ^^^ lI y 19 ^^^ (y >>> 10))
def hn:Nat->List W->List W
 | 0,w=>w
 | n+1,w=>hn n (w++[ext w])
def eW (b:List B) :List W:=hn 48 (eM b)
def J4 (x:W) (i j k:Nat) :W:=lI x i ^^^ lI x j ^^^ lI x k
structure d8 where
 (a b c d e f g h:W)
def round (s:d8) (k w:W) :d8:=
 let p:=s.h+J4 s.e 6 11 25+((s.e &&& s.f) ^^^ (~~~s.e &&& s.g))+k+w
 let q:=J4 s.a 2 13 22+((s.a &&& s.b) ^^^ (s.a &&& s.c) ^^^ (s.b &&& s.c))
 ⟨p+q,s.a,s.b,s.c,s.d+p,s.e,s.f,s.g⟩
def rounds:d8->List W->List W->d8
 | s,k::bQ,w::f4=>rounds (round s k w) bQ f4
 | s,_,_=>s
def table:List Nat:=[0x428a2f98,0x71374491,0xb5c0fbcf,0xe9b5dba5,0x3956c25b,0x59f111f1,0x923f82a4,0xab1c5ed5,0xd807aa98,0x12835b01,0x243185be,0x550c7dc3,0x72be5d74,0x80deb1fe,0x9bdc06a7,0xc19bf174,0xe49b69c1,0xefbe4786,0x0fc19dc6,0x240ca1cc,0x2de92c6f,0x4a7484aa,0x5cb0a9dc,0x76f988da,0x983e5152,0xa831c66d,0xb00327c8,0xbf597fc7,0xc6e00bf3,0xd5a79147,0x06ca6351,0x14292967,0x27b70a85,0x2e1b2138,0x4d2c6dfc,0x53380d13,0x650a7354,0x766a0abb,0x81c2c92e,0x92722c85,0xa2bfe8a1,0xa81a664b,0xc24b8b70,0xc76c51a3,0xd192e819,0xd6990624,0xf40e3585,0x106aa070,0x19a4c116,0x1e376c08,0x2748774c,0x34b0bcb5,0x391c0cb3,0x4ed8aa4a,0x5b9cca4f,0x682e6ff3,0x748f82ee,0x78a5636f,0x84c87814,0x8cc70208,0x90befffa,0xa4506ceb,0xbef9a3f7,0xc67178f2]
def bQ:List W:=table.map (BitVec.ofNat 32)
def grind (h:d8) (b:List B) :d8:=
 let v:=rounds h bQ (eW b)
 ⟨h.a+v.a,h.b+v.b,h.c+v.c,h.d+v.d,h.e+v.e,h.f+v.f,h.g+v.g,h.h+v.h⟩
def EL:Nat->d8->List B->d8 × List B
 | 0,h,b=>(h,b)
 | n+1,h,b=>if 64<=b.length then EL n (grind h (b.take 64)) (b.drop 64) else (h,b)
def gv (h:d8) (b:List B) :d8 × List B:=EL (b.length / 64) h b
def first:d8:=⟨0x6a09e667#32,0xbb67ae85#32,0x3c6ef372#32,0xa54ff53a#32,0x510e527f#32,0x9b05688c#32,0x1f83d9ab#32,0x5be0cd19#32⟩
def yt (n:BitVec 64) :List B:=[(n >>> 56).setWidth 8,(n >>> 48).setWidth 8,(n >>> 40).setWidth 8,(n >>> 32).setWidth 8,(n >>> 24).setWidth 8,(n >>> 16).setWidth 8,(n >>> 8).setWidth 8,(n >>> 0).setWidth 8]
def tail (n:Nat) :List B:=128#8::List.replicate ((119 - n % 64) % 64) 0#8++yt (BitVec.ofNat 64 n*8#64)
def sB (w:W) :List B:=[(w >>> 24).setWidth 8,(w >>> 16).setWidth 8,(w >>> 8).setWidth 8,w.setWidth 8]
def d8.l (s:d8) :List W:=[s.a,s.b,s.c,s.d,s.e,s.f,s.g,s.h]
def written (s:d8) :List B:=(s.l.map sB).flatten
def g6 (b:List B) :List B:=written (gv first (b++tail b.length)).1
theorem ap5 (l:List B) (x:B) :nk (l++[x])=(nk l <<< 8) ||| x.setWidth 32:=by simp[nk,List.foldl_append]
theorem uO:∀ (n:Nat) (w:List W),(hn n w).length=w.length+n
 | 0,w=>rfl
 | n+1,w=>by rw[hn,uO n]; simp; omega
theorem AB (b:List B) :(eW b).length=64:=by rw[eW,uO]; simp[eM]
theorem Eb (s:d8) :(written s).length=32:=rfl
theorem ud (b:List B) :(g6 b).length=32:=rfl
theorem Hs:∀ (n:Nat) (w:List W),hn (n+1) w=hn n w++[ext (hn n w)]
 | 0,w=>rfl
 | n+1,w=>by rw[hn,Hs n (w++[ext w])]; rfl
theorem DQ (a:W) (x:B) :(a <<< 8) ||| x.setWidth 32=a*256#32+x.setWidth 32:=by
 apply BitVec.eq_of_toNat_eq;have ak:x.toNat<256:=x.isLt;have aI:=a.isLt;rw[BitVec.toNat_or,BitVec.toNat_shiftLeft,BitVec.toNat_add,BitVec.toNat_mul,BitVec.toNat_setWidth];have h1:x.toNat % 2 ^ 32=x.toNat:=Nat.mod_eq_of_lt (by omega);have ag:a.toNat <<< 8 % 2 ^ 32=(a.toNat % 2 ^ 24) <<< 8:=by rw[Nat.shiftLeft_eq,Nat.shiftLeft_eq]; omega
 have aq:=Nat.shiftLeft_add_eq_or_of_lt (b:=x.toNat) (i:=8) (by omega) (a.toNat % 2 ^ 24);rw[h1,ag,<-aq,Nat.shiftLeft_eq];have aK:(256#32).toNat=256:=rfl;rw[aK];omega
theorem yq (h:d8) (b:List B) (aj:64<=b.length) :gv h b=gv (grind h (b.take 64)) (b.drop 64) :=by
 have:b.length / 64=(b.drop 64).length / 64+1:=by simp; omega
 rw[gv,this,EL,if_pos aj];rfl
theorem A8 (h:d8) (b:List B) (aj:b.length<64) :gv h b=(h,b) :=by
 rw[gv,Nat.div_eq_of_lt aj]; rfl
theorem ad0 (h:d8) (b:List B) :(gv h b).2.length=b.length % 64:=by
 generalize aH:b.length=n
 induction n using Nat.strongRecOn generalizing h b with
 | _ n aM=>
  rcases Nat.lt_or_ge b.length 64 with h1 | h1
  ·rw[A8 h b h1,Nat.mod_eq_of_lt (by omega)]; exact aH
  ·rw[yq h b h1,aM (b.length - 64) (by omega) _ (b.drop 64) (by simp)];omega
theorem OT (h:d8) (a b:List B) :gv h (a++b)=gv (gv h a).1 ((gv h a).2++b) :=by
 generalize aH:a.length=n
 induction n using Nat.strongRecOn generalizing h a with
 | _ n aM=>
  rcases Nat.lt_or_ge a.length 64 with h1 | h1
  ·rw[A8 h a h1]
  ·rw[yq h a h1,yq h (a++b) (by simp; omega),List.take_append_of_le_length h1,List.drop_append_of_le_length h1];exact aM (a.length - 64) (by omega) _ (a.drop 64) (by simp)
end g9
end Go.cj

namespace Go.cj
open Go Go.Proofs
def xZ:List ae:=g9.bQ.map bA
def GS:Nat->ae:=fun g=>match Nat.beq g 1 with | true=>.cp xZ 0 | false=>.bad
theorem b2:∀ g,(GS g).closed=true:=by
 intro g;unfold GS;split
 ·exact kI bA (fun _=>rfl) _
 ·rfl
@[simp]
theorem aqu:GS 1=.cp xZ 0:=id rfl
theorem ao0 (i:Nat) (h:i<64) :xZ[i]? = some (bA (g9.bQ.getD i 0#32)) :=by
 have ar:g9.bQ.length=64:=rfl;unfold xZ;rw[List.getElem?_map,List.getD_eq_getElem?_getD,List.getElem?_eq_getElem (by omega)];rfl
end Go.cj

namespace Go.cj
open Go Go.Proofs
set_option maxRecDepth 100000
namespace g9
def M0 (x:W) (k:Int) :W:=(x <<< (BitVec.ofInt 64 k &&& 31#64).toNat) ||| (x >>> (32#64 - (BitVec.ofInt 64 k &&& 31#64)).toNat)
theorem vM (x:W) (n:Nat) (aO:0<n) (h:n<32) :M0 x (-(n:Int))=lI x n:=by
 have h1:∀ n:Fin 32,0<n.val->(BitVec.ofInt 64 (-(n.val:Int)) &&& 31#64)=BitVec.ofNat 64 (32 - n.val) :=by decide
 have ag:=h1 ⟨n,h⟩ aO;simp only at ag;unfold M0 lI;rw[ag,BitVec.or_comm];congr 2
 ·have:∀ n:Fin 32,0<n.val->(32#64 - BitVec.ofNat 64 (32 - n.val)).toNat=n.val:=by decide
  exact this ⟨n,h⟩ aO
 ·have:∀ n:Fin 32,0<n.val->(BitVec.ofNat 64 (32 - n.val)).toNat=32 - n.val:=by decide
  exact this ⟨n,h⟩ aO
theorem vL (x:W) (k:Int) :bT Tryz.prog GS 203 [bA x,.int .i64 k] (bA (M0 x k)) :=by
 refine cd Tryz.checked.mixed b2 ?_;apply bH QA ZE;unfold Gd L3;simp;exact a7 rfl rfl
theorem Xh (x:W) (i j k:Nat) (aA:0<i/\i<32) (am:0<j/\j<32) (aF:0<k/\k<32) :bT Tryz.prog GS 200 [bA x,.int .i64 i,.int .i64 j,.int .i64 k] (bA (J4 x i j k)) :=by
 refine cd Tryz.checked.mixed b2 ?_;apply bH Qx ZB;unfold Ga L0;have aH:∀ n:Nat,n<32->IntKind.i64.wrap (-(n:Int))=-(n:Int) :=fun n aH=>wrap_i64 (by omega) (by omega)
 simp[aH i aA.2];refine bB (vL x _) rfl ?_;simp[aH j am.2];refine bB (vL x _) rfl ?_;simp[aH k aF.2];refine bB (vL x _) rfl ?_;simp[vM x _ aA.1 aA.2,vM x _ am.1 am.2,vM x _ aF.1 aF.2];exact a7 rfl rfl
def b8 (x:B) :List ae:=[bF x]
abbrev d7:=eh B
abbrev cv (s:d7) :ae:=cO 1 b8 s
theorem kJ (s:d7) :(cv s).closed=true:=uF (fun _=>rfl) s
def nl (b:List B) (k:Nat) :List W:=((List.range 16).map fun t=>nk (((b.take k).drop (4*t)).take 4))++List.replicate 48 0#32
theorem acE (b:List B) (k:Nat) :(nl b k).length=64:=by simp[nl]
theorem aqi (b:List B) :nl b 0=List.replicate 64 0#32:=by simp[nl,nk]; rfl
theorem NT (b:List B) (k t:Nat) (aW:t<16) :(nl b k)[t]? = some (nk (((b.take k).drop (4*t)).take 4)) :=by
 unfold nl;rw[List.getElem?_append_left (by simpa using aW),List.getElem?_map,List.getElem?_range aW];rfl
theorem aqh (b:List B) (k:Nat) (aF:k<64) (aj:k<b.length) (x:B) (ak:b[k]? = some x) :
  (nl b k).set (k / 4) ((nk (((b.take k).drop (4*(k / 4))).take 4) <<< 8) ||| x.setWidth 32)=nl b (k+1) :=by
 apply List.ext_getElem?;intro t;rw[List.getElem?_set,acE];have xm:b.take (k+1)=b.take k++[x] :=by rw[List.take_add_one,ak]; rfl
 have bw:(b.take k).length=k:=by simp; omega
 by_cases aW:t<16
 ·rw[NT b _ t aW,NT b _ t aW];by_cases h:k / 4=t
  ·rw[if_pos h,if_pos (by omega),<-ap5,xm,h];congr 2;rw[List.drop_append_of_le_length (by omega)];obtain⟨A,cR⟩:∃ A,A=List.drop (4*t) (List.take k b) :=⟨_,rfl⟩
   have js:A.length<4:=by rw[cR]; simp; omega
   rw[<-cR,List.take_of_length_le (by omega),List.take_of_length_le (by simp; omega)]
  ·rw[if_neg h,xm];congr 2;rcases Nat.lt_or_ge k (4*t) with h1 | h1
   ·rw[List.drop_eq_nil_of_le (by omega),List.drop_eq_nil_of_le (by simp; omega)]
   ·rw[List.drop_append_of_le_length (by omega),List.take_append_of_le_length (by simp; omega)]
 ·rw[if_neg (by omega)];unfold nl;rw[List.getElem?_append_right (by simp; omega),List.getElem?_append_right (by simp; omega)];simp
theorem aqg (b:List B) (aj:64<=b.length) :nl b 64=eM b++List.replicate 48 0#32:=by
 unfold nl eM;congr 1;apply List.map_congr_left;intro t aW;have:=List.mem_range.1 aW;congr 1;rw[List.drop_take,List.take_take,Nat.min_eq_left (by omega)]
def oi (b:List B) (k:Nat) :List W:=hn k (eM b)++List.replicate (48 - k) 0#32
theorem aod (b:List B) (k:Nat) (aF:k<=48) :(oi b k).length=64:=by simp[oi,uO,eM]; omega
theorem DP (b:List B) (k i:Nat) (aA:i<16+k) :(oi b k)[i]? = some ((hn k (eM b)).getD i 0#32) :=by
 unfold oi;have ar:(hn k (eM b)).length=16+k:=by simp[uO,eM]
 rw[List.getElem?_append_left (by omega),List.getD_eq_getElem?_getD,List.getElem?_eq_getElem (by omega)];rfl
theorem aoe (b:List B) (k:Nat) (aF:k<48) :(oi b k).set (16+k) (ext (hn k (eM b)))=oi b (k+1) :=by
 have ar:(hn k (eM b)).length=16+k:=by simp[uO,eM]
 unfold oi;rw[List.set_append_right _ _ (by omega),ar,Nat.sub_self,show 48 - k=(48 - (k+1))+1 by omega,List.replicate_succ,List.set_cons_zero,Hs];simp
set_option maxHeartbeats 4000000 in
theorem aog (b:List B) (aj:64<=b.length) :bT Tryz.prog GS 199 [cv (some b)] (.aV ((eW b).map bA)) :=by
 refine cd Tryz.checked.mixed b2 ?_;apply bH Qv Zz;unfold F8 LZ;have e8:fu (.ao 1) (cv (some b)) none (some (.int .i64 64)) none=some (cv (some (b.take 64))) :=by
  unfold cv; rw[aov (by omega) (by omega)]; rfl
 have o0:min 64 b.length=64:=by omega
 simp[e8,o0];refine c0 64 (fun k ah l=>ah 2=.ptr 0 0 64/\ah 11=cv (some (b.take 64))/\ah 12=.int .i64 64/\ah 13=.int .i64 k/\l=[.cells 64 ((nl b k).map bA)]) ?_ ?_
 ·rintro k ah l aF ⟨a6,hx,e7,hb,rfl⟩;obtain⟨ah,rfl⟩:=iJ a6 hx e7 hb;clear a6 hx e7 hb;unfold Wp;simp;by_cases h:(k:Int)<64
  ·obtain⟨x,ak⟩:∃ x,b[k]? = some x:=⟨_,List.getElem?_eq_getElem (by omega)⟩
   have zH:(b.take 64)[k]? = some x:=by rw[List.getElem?_take_of_lt (by omega)]; exact ak
   have c2:cU (.ao 1) (cv (some (b.take 64))) (.int .i64 k)=some (.cp (b8 x) 0) :=by simp[cv,pa,zH]
   obtain⟨q,IW⟩:∃ q,q=k / 4:=⟨_,rfl⟩
   have bp:cn .quo .i64 (k:Int) .i64 4=some (.int .i64 (q:Int)) :=by rw[IW]; exact EN k 4 (by omega) (by omega)
   have eC:IntKind.i64.wrap ((k:Int)+1)=k+1:=wrap_i64 (by omega) (by omega);have aS:(q:Int)<64:=by omega
   have ay:=NT b k q (by omega);have au:=md bA (nl b k) q (((nk (((b.take k).drop (4*q)).take 4) <<< 8) ||| x.setWidth 32)) (by rw[acE]; omega);rw[IW,aqh b k (by omega) (by omega) x ak,<-IW] at au;have dO:q+1<=64:=by omega
   simp[h,c2,b8,bp,aS,ay,dO,eC,au];omega
  ·have vb:k=64:=by omega
   subst vb;simp;refine c0 48 (fun j ah l=>ah 2=.ptr 0 0 64/\ah 5=.int .i64 (16+j:Nat)/\l=[.cells 64 ((oi b j).map bA)]) ?_ ?_
   ·rintro j ah l am ⟨a6,bq,rfl⟩;obtain⟨ah,rfl⟩:=ov a6 bq;clear a6 bq;unfold Wq;obtain⟨t,aW⟩:∃ t,t=16+j:=⟨_,rfl⟩
    rw[<-aW];simp;by_cases h:(t:Int)<64
    ·have i1:IntKind.i64.wrap ((t:Int)+1)=(t+1:Nat) :=wrap_i64 (by omega) (by omega);have D6:IntKind.i64.wrap ((t:Int) - 15)=(t - 15:Nat) :=by rw[wrap_i64 (by omega) (by omega)]; omega
     have w2:IntKind.i64.wrap ((t:Int) - 2)=(t - 2:Nat) :=by rw[wrap_i64 (by omega) (by omega)]; omega
     have D7:IntKind.i64.wrap ((t:Int) - 16)=(t - 16:Nat) :=by rw[wrap_i64 (by omega) (by omega)]; omega
     have AN:IntKind.i64.wrap ((t:Int) - 7)=(t - 7:Nat) :=by rw[wrap_i64 (by omega) (by omega)]; omega
     have ar:(hn j (eM b)).length=t:=by simp[uO,eM]; omega
     have lp:=DP b j (t - 15) (by omega);have a6:=DP b j (t - 2) (by omega);have lZ:=DP b j (t - 16) (by omega);have eb:=DP b j (t - 7) (by omega);have au:=md bA (oi b j) t (ext (hn j (eM b))) (by rw[aod b j (by omega)]; omega);rw[aW,aoe b j (by omega),<-aW] at au;unfold ext at au;rw[ar] at au
     dsimp only at au
     obtain⟨tD,Hj⟩:∃ i,i=t - 15:=⟨_,rfl⟩
     obtain⟨ej,b3⟩:∃ i,i=t - 2:=⟨_,rfl⟩
     obtain⟨tE,Bv⟩:∃ i,i=t - 16:=⟨_,rfl⟩
     obtain⟨hW,Hl⟩:∃ i,i=t - 7:=⟨_,rfl⟩
     rw[<-Hj] at D6 lp au;rw[<-b3] at w2 a6 au;rw[<-Bv] at D7 lZ au;rw[<-Hl] at AN eb au;have EE:(tD:Int)<64:=by omega
     have dK:(ej:Int)<64:=by omega
     have EF:(tE:Int)<64:=by omega
     have rl:(hW:Int)<64:=by omega
     have dO:t+1<=64:=by omega
     generalize (hn j (eM b)).getD tD 0#32=x at lp au;generalize (hn j (eM b)).getD ej 0#32=y at a6 au;generalize (hn j (eM b)).getD tE 0#32=NU at lZ au;generalize (hn j (eM b)).getD hW 0#32=NV at eb au;have tZ:=vM x 7 (by omega) (by omega);have xM:=vM x 18 (by omega) (by omega);have xL:=vM y 17 (by omega) (by omega);have An:=vM y 19 (by omega) (by omega);simp at tZ xM xL An;simp[h,D6,w2,lp,a6,EE,dK];refine bB (vL _ _) rfl ?_;simp;refine bB (vL _ _) rfl ?_;simp;refine bB (vL _ _) rfl ?_;simp;refine bB (vL _ _) rfl ?_;simp[tZ,xM,xL,An,D7,AN,lZ,eb,EF,rl,h,au,i1,dO];omega
    ·have aij:j=48:=by omega
     have ajg:oi b 48=eW b:=by simp[oi,eW]
     subst aij;have zn:=AB b;rw[ajg];simp[h,zn,lN,List.take_of_length_le];exact a7 rfl (RW bA (fun _=>rfl) _)
   ·simp[oi,hn,aqg b aj]
 ·simp[aqi,abd _ 32]
theorem aqe (b:List B) (n:Nat) (aH:64<=n) :eM (b.take n)=eM b:=by
 unfold eM;apply List.map_congr_left;intro t aW;have:=List.mem_range.1 aW;congr 1;rw[List.drop_take,List.take_take,Nat.min_eq_left (by omega)]
theorem aof (b:List B) (n:Nat) (aH:64<=n) :eW (b.take n)=eW b:=by unfold eW; rw[aqe b n aH]
theorem rounds_succ:∀ (k:Nat) (s:d8) (a b:List W) (x y:W),a[k]? = some x->b[k]? = some y->rounds s (a.take (k+1)) (b.take (k+1))=round (rounds s (a.take k) (b.take k)) x y
 | 0,s,a,b,x,y,aI,aj=>by
  cases a with
  | nil=>simp at aI
  | cons a Oh=>
   cases b with
   | nil=>simp at aj
   | cons b bs=>simp at aI aj; subst aI aj; simp[rounds]
 | k+1,s,a,b,x,y,aI,aj=>by
  cases a with
  | nil=>simp at aI
  | cons a Oh=>
   cases b with
   | nil=>simp at aj
   | cons b bs=>
    simp only[List.take_succ_cons,rounds];exact rounds_succ k _ Oh bs x y (by simpa using aI) (by simpa using aj)
def k1 (h:d8) (b:List B) (k:Nat) :d8:=rounds h (bQ.take k) ((eW b).take k)
theorem aaU (h:d8) (b:List B) :k1 h b 0=h:=rfl
theorem aaT (h:d8) (b:List B) (k:Nat) (aF:k<64) :k1 h b (k+1)=round (k1 h b k) (bQ.getD k 0#32) ((eW b).getD k 0#32) :=by
 have h1:bQ.length=64:=rfl;have ag:=AB b;refine rounds_succ k h bQ (eW b) _ _ ?_ ?_
 ·rw[List.getD_eq_getElem?_getD,List.getElem?_eq_getElem (by omega)]; rfl
 ·rw[List.getD_eq_getElem?_getD,List.getElem?_eq_getElem (by omega)]; rfl
theorem aaR (h:d8) (b:List B) :k1 h b 64=rounds h bQ (eW b) :=by
 have h1:bQ.length=64:=rfl;have ag:=AB b;unfold k1;rw[List.take_of_length_le (by omega),List.take_of_length_le (by omega)]
def hs (a b:List W) (k:Nat) :List W:=(List.zipWith (·+·) a b).take k++a.drop k
theorem Oa (a b:List W) :hs a b 0=a:=rfl
theorem Ew {a b:List W} (h:a.length=b.length) (k:Nat) :(hs a b k).length=a.length:=by simp[hs]; omega
theorem N8 {a b:List W} (h:a.length=b.length) {k:Nat} (aF:k<a.length) :(hs a b k)[k]? = a[k]?:=by
 unfold hs;rw[List.getElem?_append_right (by simp; omega)];have:(List.take k (List.zipWith (·+·) a b)).length=k:=by simp; omega
 rw[this,List.getElem?_drop]; simp
theorem N9 {a b:List W} (h:a.length=b.length) {k:Nat} {x y:W} (ak:a[k]? = some x) (aP:b[k]? = some y) :(hs a b k).set k (x+y)=hs a b (k+1) :=by
 have aF:=(List.getElem?_eq_some_iff.1 ak).1;unfold hs;have ar:(List.take k (List.zipWith (·+·) a b)).length=k:=by simp; omega
 have aC:(List.zipWith (·+·) a b)[k]? = some (x+y) :=by rw[List.getElem?_zipWith,ak,aP]
 rw[List.set_append_right _ _ (by omega),ar,Nat.sub_self,List.drop_eq_getElem_cons aF,List.set_cons_zero,List.take_add_one,aC];simp
set_option maxHeartbeats 8000000 in
theorem agE {h:d8} {b:List B} (aj:64<=b.length) {l:av} {bk sz:Nat} {rest:List ae} {x:ae} {K:ae->av->Prop} (ar:l[bk]? = some (.cells sz (h.l.map bA++rest))) (gE:8<=sz) (ak:fc (bY l) x (cv (some b)))
  (a8:∀ junk,K (.bP []) (l.set bk (.cells sz ((grind h b).l.map bA++rest))++junk)) :dp Tryz.prog GS 187 [.ptr bk 0 sz,x] l (c:=⟨K⟩) :=by
 apply bH Qi Zn;unfold FX LN;simp;refine jc (aog b aj) (.cons ak .nil) (SJ bA (fun _=>rfl) _) ?_;have aH:=fi ar;have e8:=AB b;have gC:(l++[bv.cells 64 ((eW b).map bA)])[bk]? = some (.cells sz (h.l.map bA++rest)) :=by rw[List.getElem?_append_left aH]; exact ar
 have ay:∀ i (y:W),i<8->h.l[i]? = some y->(h.l.map bA++rest)[i]? = some (bA y) :=fun i y aA aP=>by
  rw[List.getElem?_append_left (by simpa [d8.l] using aA),List.getElem?_map,aP]; rfl
 have il:=ay 0 h.a (by omega) rfl;have q1:=ay 1 h.b (by omega) rfl;have im:=ay 2 h.c (by omega) rfl;have sn:=ay 3 h.d (by omega) rfl;have X8:=ay 4 h.e (by omega) rfl;have amx:=ay 5 h.f (by omega) rfl;have KE:=ay 6 h.g (by omega) rfl;have amy:=ay 7 h.h (by omega) rfl;simp[lN,e8,gC,il,q1,im,sn,X8,amx,KE,amy];refine c0 64 (fun k ah l'=>ah 0=.ptr bk 0 sz/\ah 4=.ptr l.length 0 64/\ah 5=bA (k1 h b k).a/\ah 6=bA (k1 h b k).b/\ah 7=bA (k1 h b k).c/\ah 8=bA (k1 h b k).d/\ah 9=bA (k1 h b k).e/\ah 10=bA (k1 h b k).f/\ah 11=bA (k1 h b k).g/\ah 12=bA (k1 h b k).h/\ah 52=.int .i64 k ∧
  l'=l++[.cells 64 ((eW b).map bA)]) ?_ ?_
 ·rintro k ah l' aF ⟨cz,bI,bq,cx,eb,dN,ib,eP,hx,e7,S3,rfl⟩;obtain⟨ah,rfl⟩:=ack cz bI bq cx eb dN ib eP hx e7 S3;clear cz bI bq cx eb dN ib eP hx e7 S3;unfold Wi;simp;by_cases ed:(k:Int)<64
  ·have eC:IntKind.i64.wrap ((k:Int)+1)=k+1:=wrap_i64 (by omega) (by omega);have gh:k<64:=by omega
   have aW:=ao0 k gh;have fU:(eW b)[k]? = some ((eW b).getD k 0#32) :=by rw[List.getD_eq_getElem?_getD,List.getElem?_eq_getElem (by omega)]; rfl
   rw[aaT h b k gh];generalize (eW b).getD k 0#32=ji at *
   generalize bQ.getD k 0#32=iE at *
   generalize k1 h b k=s at *
   have i8:=Xh s.e 6 11 25 (by omega) (by omega) (by omega);have iF:=Xh s.a 2 13 22 (by omega) (by omega) (by omega);simp at i8 iF;simp[ed,aW,fU];refine bB i8 rfl ?_;simp[aW,fU];refine bB iF rfl ?_;simp[gh,eC];simp[round]
  ·have vb:k=64:=by omega
   subst vb;rw[aaR];obtain⟨v,ax⟩:∃ v,rounds h bQ (eW b)=v:=⟨_,rfl⟩
   rw[ax];have qe:grind h b=⟨h.a+v.a,h.b+v.b,h.c+v.c,h.d+v.d,h.e+v.e,h.f+v.f,h.g+v.g,h.h+v.h⟩:=by unfold grind; rw[ax]
   simp;have nU:h.l.length=v.l.length:=rfl;have l2:h.l.length=8:=rfl;have In:(grind h b).l=hs h.l v.l 8:=by rw[qe]; rfl
   rw[In] at a8;refine c0 8 (fun k ah l'=>ah 0=.ptr bk 0 sz/\ah 111=.aV (v.l.map bA)/\ah 112=.int .i64 k/\l'=l.set bk (.cells sz ((hs h.l v.l k).map bA++rest))++[.cells 64 ((eW b).map bA)]) ?_ ?_
   ·rintro k ah l' aF ⟨cz,SY,SZ,rfl⟩;obtain⟨ah,rfl⟩:=k5 cz SY SZ;clear cz SY SZ;unfold Wj;simp;by_cases ed:(k:Int)<8
    ·have eC:IntKind.i64.wrap ((k:Int)+1)=k+1:=wrap_i64 (by omega) (by omega);have g1:k<8:=by omega
     obtain⟨y,aP⟩:∃ y,v.l[k]? = some y:=⟨_,List.getElem?_eq_getElem (show k<v.l.length from g1)⟩
     obtain⟨z,aC⟩:∃ z,h.l[k]? = some z:=⟨_,List.getElem?_eq_getElem (show k<h.l.length from g1)⟩
     have aI:=N8 nU (k:=k) (by rw[l2]; exact g1);rw[aC] at aI;have gZ:=Ew nU k;have au:=md bA (hs h.l v.l k) k (z+y) (by rw[gZ,l2]; exact g1);rw[N9 nU aC aP] at au;have Uu:((hs h.l v.l k).map bA).length=8:=by rw[List.length_map,gZ,l2]
     have mY:bU ((hs h.l v.l k).map bA++rest) k [bA (z+y)]=(hs h.l v.l (k+1)).map bA++rest:=by
      rw[<-au];unfold bU;rw[List.take_append_of_le_length (by omega),List.drop_append_of_le_length (by simp; omega)];simp
     have rL:((hs h.l v.l k).map bA++rest)[k]? = some (bA z) :=by rw[List.getElem?_append_left (by omega),List.getElem?_map,aI]; rfl
     have rN:(l.set bk (.cells sz ((hs h.l v.l k).map bA++rest))++[bv.cells 64 ((eW b).map bA)])[bk]? = some (.cells sz ((hs h.l v.l k).map bA++rest)) :=by
      rw[List.getElem?_append_left (by simpa using aH),List.getElem?_set]; simp[aH]
     have tp:k+1<=sz:=by omega
     simp[ed,aP,rL,rN,eC,mY,g1,tp,aH,List.set_append]
    ·have g1:k=8:=by omega
     subst g1;simp;exact a8 _
   ·have ly:l.set bk (.cells sz ((hs h.l v.l 0).map bA++rest))=l:=by
     rw[Oa]; exact aok ar
    rw[ly];simp[d8.l]
 ·simp[aaU]
abbrev ll (ci:eh d7) :ae:=cO 1 (fun s=>[cv s]) ci
theorem RV (ci:eh d7) :(ll ci).closed=true:=uF (fun s=>by simp only[bV,kJ,Bool.and_self]) ci
def bytesOf (ci:List d7) :List B:=(ci.map eh.l).flatten
theorem bytesOf_take (ci:List d7) (k:Nat) (s:d7) (h:ci[k]? = some s) :bytesOf (ci.take (k+1))=bytesOf (ci.take k)++s.l:=by
 unfold bytesOf;rw[List.take_add_one,h]; simp
theorem O2 (ci:List d7) (k:Nat) :(bytesOf (ci.take k)).length<=(bytesOf ci).length:=by
 conv=>rhs; rw[<-List.take_append_drop k ci]
 unfold bytesOf;rw[List.map_append,List.flatten_append,List.length_append];omega
theorem agI {n:Nat} (aH:n<=1000000000) {l:av} {K:ae->av->Prop} (a8:∀ v j l',b0 1 l' v j []->l.length<=l'.length->(∀ b,b<l.length->l'[b]? = l[b]?)->(cS v=decide (n=0))->K v l') :dp Tryz.prog GS 155 [.aZ,.int .i64 n] l (c:=⟨K⟩) :=by
 apply bH Fw Lm;unfold Be DB;have h1:¬((n:Int)<0) :=by omega
 have bx:IntKind.i64.wrap (n:Int)=n:=wrap_i64 (by omega) (by omega);have Jj:IntKind.i64.wrap (0:Int)=0:=rfl;by_cases aO:n=0
 ·subst aO;simp;exact a8 _ 0 _ (.nil 0) (Nat.le_refl _) (fun _ _=>rfl) rfl
 have ag:(0:Int)<n:=by omega
 have aC:oF l 1 1 [.int .u8 0] .aZ (.int .i64 n)=some (.ao 1 l.length 0 n n (n*1),l++[.cells (n*1) (dd [.int .u8 0] n)]) :=by
  unfold oF hK;simp only[Int.toNat_natCast];have aD:cQ=140737488355328:=rfl;rw[if_pos ⟨by omega,by omega,by rw[aD]; omega⟩,if_neg aO,if_neg (by omega),if_pos (by rw[aD]; omega)]
 have au:fu (.ao 1) (.ao 1 l.length 0 n n (n*1)) none (some (.int .i64 0)) none=some (.ao 1 l.length 0 0 n (n*1)) :=by
  rw[vP,EM,if_pos ⟨by omega,by omega⟩];simp[aO]
 rw[Nat.mul_one] at aC au;have aq:0<n:=by omega
 simp[h1,ag,aq,bx,aC,Jj,au];refine a8 _ l.length (l++[.cells n (dd [.int .u8 0] n)]) (.ao _ 0 n n (dd [.int .u8 0] n) [] (by simp) (by rw[xR]; simp) rfl (by simp) (by omega) (by omega) rfl) (by simp) (fun b aj=>List.getElem?_append_left aj) ?_;simp[cS,aO]
def wn (ci:List d7) :d7:=if bytesOf ci=[] then none else some (bytesOf ci)
theorem aeY (ci:List d7) :(wn ci).l=bytesOf ci:=by unfold wn; split<;>simp_all
set_option maxHeartbeats 4000000 in
theorem afk (ci:List d7) (ar:(bytesOf ci).length<=1000000000) (vf:ci.length<=1000000000) :h6 Tryz.prog GS 109 [ll (some ci)] (cv (wn ci)) :=by
 refine Ak Tryz.checked.mixed b2 ?_;apply bH EX KO;unfold Bd DA;simp;have c2:∀ (k:Nat) (s:d7),ci[k]? = some s->cU (.ao 1) (ll (some ci)) (.int .i64 k)=some (.cp [cv s] 0) :=fun k s au=>by simp[ll,pa,au]
 refine c0 ci.length (fun k ah l=>ah 0=ll (some ci)/\ah 9=ll (some ci)/\ah 10=.int .i64 ci.length/\ah 11=.int .i64 k/\ah 3=.int .i64 (bytesOf (ci.take k)).length/\l=[]) ?_ ?_
 ·rintro k ah l aF ⟨cz,ib,eP,hx,bi,rfl⟩;obtain⟨ah,rfl⟩:=k6 cz bi ib eP hx;clear cz bi ib eP hx;unfold JQ;simp;by_cases h:k<ci.length
  ·obtain⟨s,au,_⟩:=cg h;have aj:=bytesOf_take ci k s au;have dO:=O2 ci (k+1);rw[aj,List.length_append] at dO;have bx:IntKind.i64.wrap (((bytesOf (ci.take k)).length:Int)+s.l.length)=((bytesOf (ci.take k)).length:Int)+s.l.length:=wrap_i64 (by omega) (by omega);have eC:IntKind.i64.wrap ((k:Int)+1)=k+1:=wrap_i64 (by omega) (by omega);have nV:¬(((bytesOf (ci.take k)).length:Int)+s.l.length<0) :=by omega
   simp[h,c2 k s au,bx,nV,eC,aj]
  ·have cY:k=ci.length:=by omega
   subst cY;simp;refine agI ar ?_;intro v j l az bw _ iB;simp;refine c0 ci.length (fun k ah l=>ah 25=ll (some ci)/\ah 26=.int .i64 ci.length/\ah 27=.int .i64 k/\∃ v j,ah 6=v/\b0 1 l v j ((bytesOf (ci.take k)).map b8)/\cS v=decide (bytesOf ci=[])) ?_ ?_
   ·rintro k ah l aF ⟨ki,kj,wI,v,j,cx,az,iB⟩;obtain⟨ah,rfl⟩:=iJ cx ki kj wI;clear cx ki kj wI;unfold JR;simp;by_cases h:k<ci.length
    ·obtain⟨s,au,_⟩:=cg h;have aj:=bytesOf_take ci k s au;have dO:=O2 ci (k+1);rw[aj,List.length_append] at dO;have eC:IntKind.i64.wrap ((k:Int)+1)=k+1:=wrap_i64 (by omega) (by omega);have aD:cQ=140737488355328:=rfl;obtain⟨bc,cJ,l',h1,ag,aq,aK,bg,bL⟩:=mu (by_:=1) az (x:=cv s) (xs:=s.l.map b8) (by simp[cv]) (fun e aw=>by obtain⟨x,_,rfl⟩:=List.mem_map.1 aw; rfl) (by omega) (by omega) (by simp; omega);simp[h,c2 k s au,h1];refine dM.cM ?_;simp[h,eC];refine⟨⟨cJ,by rw[aj,List.map_append]; exact ag⟩,?_⟩;rw[r4 bL,iB];by_cases aw:bytesOf ci=[]
     ·have aO:(bytesOf ci).length=0:=by rw[aw]; rfl
      have:s.l=[] :=List.length_eq_zero_iff.1 (by omega);simp[aw,this]
     ·simp[aw]
    ·have cY:k=ci.length:=by omega
     subst cY;simp;rw[List.take_length] at az;refine az.Ar (fun _=>rfl) _ ?_ (aeY ci);rw[iB];unfold wn;split<;>simp_all
   ·simp;refine⟨⟨j,by simpa [bytesOf] using az⟩,?_⟩;rw[iB];simp[List.length_eq_zero_iff]
 ·simp[bytesOf]
theorem afb (s:eh B) :fw Tryz.prog .eql 117 (cO 1 b8 s) .aZ=some (.bool s.isNone) :=OP (e:=5) (by kernel_rfl) 1 b8 s
theorem afc {s:eh B} (au:s.l.length<=1000000000) {l:av} {K:ae->av->Prop} (a8:∀ v j l',b0 1 l' v j (s.l.map b8)->l.length<=l'.length->(∀ b,b<l.length->l'[b]? = l[b]?)->(v=.aZ\/l.length<=j)->cS v=s.isNone->K v l') :dp Tryz.prog GS 188 [cO 1 b8 s] l (c:=⟨K⟩) :=by
 apply bH Qj Zo;unfold FY LO;simp[afb];cases s with
 | none=>
  simp;exact a8 _ 0 _ (.nil 0) (Nat.le_refl _) (fun _ _=>rfl) (.inl rfl) rfl
 | some b=>
  simp;have aD:cQ=140737488355328:=rfl;have qp:b.length<=1000000000:=au;have az:b0 1 (l++[bv.cells 0 []]) (.ao 1 l.length 0 0 0 0) l.length [] :=.ao l.length 0 0 0 [] [] (by simp) rfl rfl (by simp) (Nat.le_refl _) (by omega) rfl;obtain⟨bc,cJ,l',h1,ag,aq,aK,bg,bL⟩:=mu (by_:=1) az (x:=cO 1 b8 (some b)) (xs:=b.map b8) (by simp) (fun e aw=>by obtain⟨x,_,rfl⟩:=List.mem_map.1 aw; rfl) (by omega) (by omega) (by simp; omega);simp[h1];refine dM.cM ?_;simp;have s9:l.length+1<=l'.length:=by simpa using aq
  refine a8 _ cJ _ ag (by omega) (fun b aj=>?_) (.inr (by rcases bg with h | h<;>(try simp only[List.length_append,List.length_cons,List.length_nil] at h)<;>omega)) ?_
  ·rw[aK b (by simp; omega) (by omega),List.getElem?_append_left aj]
  ·rw[r4 bL]; rfl
structure rb where
 st:d8
 rest:d7
 n:Int
def fN (s:d8) (r:ae) (n:Int) :List ae:=s.l.map bA++[r,.int .i64 n]
def oK (m:rb) :ae:=.aV (fN m.st (cv m.rest) m.n)
def rv (m:rb) (b:d7) :rb:=
 let all:=m.rest.l++b.l
 ⟨(gv m.st all).1,if all=[] then none else some (gv m.st all).2,m.n+b.l.length⟩
theorem aeZ (a b:d7) :wn [a,b]=if a.l++b.l=[] then none else some (a.l++b.l) :=by
 have:bytesOf [a,b]=a.l++b.l:=by simp[bytesOf]
 unfold wn;rw[this]
theorem agF (h:d8) (b:List B) :grind h (b.take 64)=grind h b:=by unfold grind; rw[aof b 64 (by omega)]
theorem tQ (s:d8) (r:ae) (n:Int) :(fN s r n).length=10:=rfl
set_option maxHeartbeats 8000000 in
theorem SA (m:rb) (b:d7) (ar:m.rest.l.length+b.l.length<=1000000000) (aH:0<=m.n) (qk:m.n<=1000000000) :h6 Tryz.prog GS 159 [oK m,cv b] (oK (rv m b)) :=by
 refine Ak Tryz.checked.mixed b2 ?_;apply bH PU YZ;unfold FA Lq;have al:(ae.aV (fN m.st (cv m.rest) m.n)).cells=some (fN m.st (cv m.rest) m.n) :=rfl;have gd:(fN m.st (cv m.rest) m.n)[8]? = some (cv m.rest) :=rfl;have TL:=afk [m.rest,b] (by simp[bytesOf]; exact ar) (by simp);rw[aeZ] at TL;simp[oK,tQ,gd];refine X2 TL (.cons ?_ .nil) ?_
 ·exact Ap (es:=[[cv m.rest],[cv b]]) (rest:=[]) rfl rfl (by simp) (by simp[bV,kJ])
 obtain⟨all,eS⟩:∃ all,all=m.rest.l++b.l:=⟨_,rfl⟩
 have gZ:all.length<=1000000000:=by rw[eS]; simpa using ar
 rw[<-eS];simp;refine c0 (all.length / 64) (fun k ah l=>ah 1=cv b/\ah 2=.ptr 0 0 10/\ah 4=.ptr 1 0 10/\∃ h s f7 junk,ah 5=cv s/\l=.cells 10 (fN h (cv m.rest) m.n) ::.cells 10 f7::junk/\gv m.st all=gv h s.l/\s.l.length=all.length - 64*k/\f7.length=10/\s.isNone=decide (all=[])) ?_ ?_
 ·rintro k ah l aF ⟨aY,a6,bI,h,s,f7,junk,bq,rfl,fA,dZ,o8,UJ⟩;obtain⟨ah,rfl⟩:=iJ aY a6 bI bq;clear aY a6 bI bq;unfold Wa;have bw:db (.ao 1) (cv s)=some (.int .i64 s.l.length) :=oa _;simp[bw];by_cases HO:(64:Int)<=s.l.length
  ·cases s with
   | none=>simp at HO
   | some gX=>
   have agL:(64:Int)<=gX.length:=HO;have Tj:64<=gX.length:=by omega
   simp[agL];refine agE (h:=h) (b:=gX) Tj (l:=.cells 10 (fN h (cv m.rest) m.n) ::.cells 10 f7::junk) (bk:=0) (sz:=10) (rest:=[cv m.rest,.int .i64 m.n]) rfl (by omega) (aa1 (kJ _)) (fun atN=>?_);have e8:fu (.ao 1) (cv (some gX)) (some (.int .i64 64)) none none=some (cv (some (gX.drop 64))) :=by
    unfold cv; rw[aor (by omega) (by omega)]; rfl
   simp[e8];have asV:gX.length=all.length - 64*k:=dZ;refine⟨by omega,grind h gX,some (gX.drop 64),rfl,f7,⟨rfl,rfl⟩,?_,?_,o8,?_⟩
   ·rw[fA];show gv h gX=_;rw[yq h gX Tj,agF]; rfl
   ·simp; omega
   ·exact UJ
  ·have aS:s.l.length<64:=by omega
   have bx:IntKind.i64.wrap (m.n+(b.l.length:Int))=m.n+b.l.length:=wrap_i64 (by omega) (by omega);have fe:(fN h (cv m.rest) m.n)[9]? = some (.int .i64 m.n) :=rfl;have w0:db (.ao 1) (cv b)=some (.int .i64 b.l.length) :=oa _;simp[HO,fe,w0,bx];refine afc (by omega) ?_;intro v j l az fI gC am iB;obtain⟨l',rfl⟩:∃ l',l=.cells 10 (fN h (cv m.rest) m.n) ::.cells 10 f7::l':=by
    have gL:=gC 0 (by simp);have a1:=gC 1 (by simp);cases l with
    | nil=>simp at gL
    | cons a l=>cases l with
     | nil=>simp at a1
     | cons c l=>simp at gL a1; subst gL a1; exact⟨l,rfl⟩
   have ajm:∀ r n f3,bU (fN h r n) 9 [.int .i64 f3]=fN h r f3:=fun _ _ _=>rfl
   have ajl:∀ r n co,bU (fN h r n) 8 [co]=fN h co n:=fun _ _ _=>rfl
   have ax:=az.cells;simp[fe,ajm,ajl,ax,tQ,o8,lN];have gF:∀ r n,List.take 10 (fN h r n)=fN h r n:=fun _ _=>rfl
   rw[gF,gF];have ahX:rv m b=⟨h,if all=[] then none else some s.l,m.n+b.l.length⟩:=by
    unfold rv;rw[<-eS]
    dsimp only
    rw[fA,A8 h s.l aS]
   rw[ahX];have l4:=(az.yU (l':=.cells 10 (fN h v (m.n+(b.l.length:Int))) ::.cells 10 (fN h v (m.n+(b.l.length:Int))) ::l') (by
    rcases am with am | am
    ·exact .inl am
    ·obtain⟨q,rfl⟩:∃ q,j=q+2:=⟨j - 2,by simp at am; omega⟩
     exact .inr rfl)).Ar (fun _=>rfl) (if all=[] then none else some s.l) (by
     rw[iB,UJ]; split<;>simp_all) (by
     split
     ·rename_i aw; rw[aw] at dZ; simp at dZ; rw[dZ]; rfl
     ·rfl)
   refine .aV _ _ rfl fun i c c' qc jy=>?_
   rcases i with _ | _ | _ | _ | _ | _ | _ | _ | _ | _ | i<;>simp[fN,d8.l] at qc jy
   all_goals subst qc jy
   all_goals first | exact l4 | exact .flat _ rfl
 ·simp;exact⟨m.st,(if all=[] then none else some all),rfl,⟨[.int .u32 0,.int .u32 0,.int .u32 0,.int .u32 0,.int .u32 0,.int .u32 0,.int .u32 0,.int .u32 0,.aZ,.int .i64 0],⟨rfl,rfl⟩,by split<;>simp_all,by split<;>simp_all,rfl,by split<;>simp_all⟩⟩
def ff (b:List B) :ae:=.aV (b.map bF)
def lO (n k:Nat) :List B:=128#8::List.replicate ((119 - n % 64) % 64) 0#8++(yt (BitVec.ofNat 64 n*8#64)).take k
theorem Nw (n:Nat) :lO n 8=tail n:=rfl
theorem ab2 (n k:Nat) (x:B) (ak:(yt (BitVec.ofNat 64 n*8#64))[k]? = some x) :lO n (k+1)=lO n k++[x] :=by
 unfold lO;rw[List.take_add_one,ak]; simp
theorem DZ (n k:Nat) :(lO n k).length<=80:=by
 unfold lO;have:(yt (BitVec.ofNat 64 n*8#64)).length=8:=rfl;simp; omega
theorem OY (q:BitVec 64) (k:Nat) (aF:k<8) :(yt q)[k]? = some ((q >>> (56 - 8*k)).setWidth 8) :=by
 match k,aF with
 | 0,_=>rfl
 | 1,_=>rfl
 | 2,_=>rfl
 | 3,_=>rfl
 | 4,_=>rfl
 | 5,_=>rfl
 | 6,_=>rfl
 | 7,_=>rfl
def og (s:List W) (k:Nat) :List B:=((s.take k).map sB).flatten++List.replicate (32 - 4*k) 0#8
theorem acC (s:List W) :(s.map sB).flatten.length=4*s.length:=by
 induction s with
 | nil=>rfl
 | cons w s aM=>simp[aM,sB]; omega
theorem al2 (s:List W) (k:Nat) (aF:k<=s.length) (au:s.length=8) :(og s k).length=32:=by
 unfold og;rw[List.length_append,acC];simp; omega
theorem al3 (s:List W) (k:Nat) (w:W) (aF:s[k]? = some w) (au:s.length=8) :
  ((((og s k).set (4*k) ((w >>> 24).setWidth 8)).set (4*k+1) ((w >>> 16).setWidth 8)).set (4*k+2) ((w >>> 8).setWidth 8)).set (4*k+3) (w.setWidth 8)=og s (k+1) :=by
 have g1:=(List.getElem?_eq_some_iff.1 aF).1;unfold og;rw[List.take_add_one,aF];have cR:((s.take k).map sB).flatten.length=4*k:=by rw[acC]; simp; omega
 obtain⟨A,Tm⟩:∃ A,A=((s.take k).map sB).flatten:=⟨_,rfl⟩
 rw[<-Tm] at cR ⊢;have aD:32 - 4*k=(32 - 4*(k+1))+1+1+1+1:=by omega
 rw[aD,List.replicate_succ,List.replicate_succ,List.replicate_succ,List.replicate_succ];rw[List.set_append_right _ _ (by omega),List.set_append_right _ _ (by omega),List.set_append_right _ _ (by omega),List.set_append_right _ _ (by omega)];simp only[cR,Nat.sub_self,Nat.add_sub_cancel_left,List.set_cons_zero,List.set_cons_succ,List.map_append,List.flatten_append,<-Tm];simp[sB]
def Bz (s:d8) (r:d7) (n:Nat) :List B:=written (gv s (r.l++tail n)).1
set_option maxHeartbeats 8000000 in
theorem afO (s:d8) (r:d7) (n:Nat) (aD:r.l.length<=100000000) (aH:n<=100000000) :bT Tryz.prog GS 160 [oK ⟨s,r,n⟩] (ff (Bz s r n)) :=by
 refine cd Tryz.checked.mixed b2 ?_;apply bH PW Y1;unfold FB Lr;have fe:(fN s (cv r) n)[9]? = some (.int .i64 n) :=rfl;have al:(ae.aV (fN s (cv r) n)).cells=some (fN s (cv r) n) :=rfl;have o5:=A9 n 64 (by omega);obtain⟨q,bp⟩:∃ q,q=n % 64:=⟨_,rfl⟩
 rw[show ((64:Int).toNat)=64 from rfl,<-bp] at o5;have ato:q<64:=by rw[bp]; exact Nat.mod_lt _ (by omega)
 have i1:IntKind.i64.wrap (119 - (q:Int))=(119 - q:Nat) :=by rw[wrap_i64 (by omega) (by omega)]; omega
 have CI:=A9 (119 - q) 64 (by omega);rw[show ((64:Int).toNat)=64 from rfl] at CI;obtain⟨m,hm⟩:∃ m,m=(119 - q) % 64:=⟨_,rfl⟩
 rw[<-hm] at CI;have ate:m<64:=by rw[hm]; exact Nat.mod_lt _ (by omega)
 obtain⟨t,aW⟩:∃ t,t=119 - q:=⟨_,rfl⟩
 rw[<-aW] at i1 CI;have jW:cQ=140737488355328:=rfl;obtain⟨L,fY⟩:∃ L:av,L=[bv.cells 10 (fN s (cv r) n),bv.cells 32 (rep 32 (ae.int IntKind.u8 0)),bv.cells 1 [ae.int IntKind.u8 128]] :=⟨_,rfl⟩
 have agX:L[0]? = some (bv.cells 10 (fN s (cv r) n)) :=by rw[fY]; rfl
 have agY:L[1]? = some (bv.cells 32 (rep 32 (ae.int IntKind.u8 0))) :=by rw[fY]; rfl
 have rH:L.length=3:=by rw[fY]; rfl
 have aiP:b0 1 L (.ao 1 2 0 1 1 1) 2 [[ae.int IntKind.u8 128]] :=by
  rw[fY];exact .ao 2 1 1 1 [.int .u8 128] _ rfl rfl rfl (by simp) (Nat.le_refl _) (Nat.le_refl _) rfl
 have aiA:m<9223372036854775808:=by omega
 have dk:(List.length [[ae.int IntKind.u8 128]]+m)*1<=cQ:=by rw[jW]; simp; omega
 have aiu:=adE (n:=m) (k:=.i64) (by_:=1) (zero:=[.int .u8 0]) aiP rfl (by omega) (by omega) aiA dk;obtain⟨v,j,l,h1,az,aq,aK,bg,bL⟩:=aiu;have ax:cS v=false:=by
  rw[Bool.eq_false_iff]; intro aQ;rw[iC,bL] at aQ;cases aQ.1
 have aL:u 128#8=128:=by decide
 have aw:([[ae.int IntKind.u8 128]]++List.replicate m [ae.int IntKind.u8 0] :List (List ae))=(lO n 0).map b8:=by
  have:m=(119 - n % 64) % 64:=by rw[hm,bp]
  unfold lO;rw[<-this];simp[b8,aL]
 rw[aw] at az;have gL:=(aK 0 (by omega) (by omega)).trans agX;have a1:=(aK 1 (by omega) (by omega)).trans agY;have qg:2<=j:=by rcases bg with h | h<;>omega
 simp[oK,tQ,fe,o5,i1,CI];rw[<-fY];simp[h1];refine c0 8 (fun k ah l=>ah 1=.ptr 0 0 10/\ah 2=.ptr 1 0 32/\ah 3=du (BitVec.ofNat 64 n*8#64)/\ah 5=.int .i64 (56 - 8*(k:Int))/\∃ v j,ah 4=v/\2<=j/\cS v=false/\b0 1 l v j ((lO n k).map b8)/\l[0]? = some (bv.cells 10 (fN s (cv r) n))/\l[1]? = some (bv.cells 32 (rep 32 (ae.int IntKind.u8 0)))) ?_ ?_
 ·rintro k ah l aF ⟨aY,a6,bi,bq,v,j,bI,am,ax,az,gL,a1⟩;obtain⟨ah,rfl⟩:=k6 aY a6 bi bI bq;clear aY a6 bi bI bq;unfold Wc;obtain⟨c,al⟩:∃ c:Int,c=56 - 8*(k:Int) :=⟨_,rfl⟩
  rw[<-al];simp;by_cases g1:0<=c
  ·have wZ:k<8:=by omega
   have ak:=OY (BitVec.ofNat 64 n*8#64) k wZ;have Cd:c.toNat=56 - 8*k:=by omega
   have xi:IntKind.i64.wrap (c - 8)=56 - 8*((k:Int)+1) :=by rw[wrap_i64 (by omega) (by omega)]; omega
   have jX:=DZ n k;have kU:b0 1 (l++[bv.cells 1 [bF (((BitVec.ofNat 64 n*8#64) >>> (56 - 8*k)).setWidth 8)]]) v j ((lO n k).map b8) :=az.more _;obtain⟨bc,cJ,l',h1,ag,aq,aK,bg,bL⟩:=mu (by_:=1) kU (x:=.ao 1 l.length 0 1 1 1) (xs:=[[bF (((BitVec.ofNat 64 n*8#64) >>> (56 - 8*k)).setWidth 8)]]) (by simp[dj]) (by simp) (by omega) (by omega) (by simp; omega);have eD:j<l.length:=by
    rcases az.lt with h | h
    ·subst h; simp[cS] at ax
    ·exact h
   have afI:l'[0]? = some (bv.cells 10 (fN s (cv r) n)) :=by rw[aK 0 (by simp) (by omega),List.getElem?_append_left (fi gL)]; exact gL
   have afJ:l'[1]? = some (bv.cells 32 (rep 32 (ae.int IntKind.u8 0))) :=by
    have:=fi a1;rw[aK 1 (by simp; omega) (by omega),List.getElem?_append_left (fi a1)]; exact a1
   have gM:cS bc=false:=by rw[r4 bL,ax]; rfl
   have ev:2<=cJ:=by
    rcases bg with h | h
    ·omega
    ·have h:=Nat.le_trans (show l.length<=(l++[bv.cells 1 [bF (((BitVec.ofNat 64 n*8#64) >>> (56 - 8*k)).setWidth 8)]]).length by simp) h;omega
   simp[g1,Cd,h1];refine dM.cM ?_;simp[g1,xi];exact⟨by omega,cJ,ev,gM,by rw[ab2 n k _ ak,List.map_append]; exact ag,afI,afJ⟩
  ·have rM:k=8:=by omega
   subst rM;rw[Nw] at az;have wU:=SA ⟨s,r,n⟩ (some (tail n)) (by have:=DZ n 8; rw[Nw] at this; simp; omega) (by simp) (by simp; omega);have ak:=az.qV (fun _=>rfl) (some (tail n)) (by rw[ax]; rfl) rfl;have T1:(rv ⟨s,r,n⟩ (some (tail n))).st=(gv s (r.l++tail n)).1:=rfl;obtain⟨F,uW⟩:∃ F,F=rv ⟨s,r,n⟩ (some (tail n)) :=⟨_,rfl⟩
   rw[<-uW] at wU T1;have w1:bV [oK ⟨s,r,n⟩]=true:=by simp[bV,oK,ae.closed,fN,d8.l,kJ]
   have ahV:wG 8 0 (oK F)=some (.aV (F.st.l.map bA)) :=rfl;have l2:F.st.l.length=8:=rfl;simp[g1,gL,tQ];refine X2 wU (.cons (aa1 ?_) (.cons ak .nil)) ?_
   ·show (ae.aV (fN s (cv r) n)).closed=true;simp[ae.closed,bV,fN,d8.l,kJ]
   simp[ahV];refine c0 8 (fun k ah l=>ah 2=.ptr 1 0 32/\ah 33=.aV (F.st.l.map bA)/\ah 34=.int .i64 k/\l[1]? = some (bv.cells 32 ((og F.st.l k).map bF))) ?_ ?_
   ·rintro k ah l aF ⟨a6,S1,S2,a1⟩;obtain⟨ah,rfl⟩:=k5 a6 S1 S2;clear a6 S1 S2;obtain⟨x6,ce,rfl⟩:=ape a1;clear a1;unfold Wd;simp;by_cases g1:(k:Int)<8
    ·have ed:k<8:=by omega
     obtain⟨w,bx⟩:∃ w,F.st.l[k]? = some w:=⟨_,List.getElem?_eq_getElem (show k<F.st.l.length from ed)⟩
     have dQ:=al2 F.st.l k (by omega) l2;have nY:=al3 F.st.l k w bx l2;have mh:IntKind.i64.wrap (4*(k:Int))=(4*k:Nat) :=by rw[wrap_i64 (by omega) (by omega)]; omega
     have b5:IntKind.i64.wrap (((4*k:Nat) :Int)+1)=(4*k+1:Nat) :=by rw[wrap_i64 (by omega) (by omega)]; omega
     have w2:IntKind.i64.wrap (((4*k:Nat) :Int)+2)=(4*k+2:Nat) :=by rw[wrap_i64 (by omega) (by omega)]; omega
     have d2:IntKind.i64.wrap (((4*k:Nat) :Int)+3)=(4*k+3:Nat) :=by rw[wrap_i64 (by omega) (by omega)]; omega
     have ji:IntKind.i64.wrap ((k:Int)+1)=k+1:=wrap_i64 (by omega) (by omega);obtain⟨a,aI⟩:∃ a,a=4*k:=⟨_,rfl⟩
     rw[<-aI] at mh b5 w2 d2 nY;have s0:=md bF (og F.st.l k) a ((w >>> 24).setWidth 8) (by omega);have dx:=md bF ((og F.st.l k).set a ((w >>> 24).setWidth 8)) (a+1) ((w >>> 16).setWidth 8) (by simp; omega);have lK:=md bF (((og F.st.l k).set a ((w >>> 24).setWidth 8)).set (a+1) ((w >>> 16).setWidth 8)) (a+2) ((w >>> 8).setWidth 8) (by simp; omega);have abw:=md bF ((((og F.st.l k).set a ((w >>> 24).setWidth 8)).set (a+1) ((w >>> 16).setWidth 8)).set (a+2) ((w >>> 8).setWidth 8)) (a+3) (w.setWidth 8) (by simp; omega);rw[nY] at abw;have gb:(a:Int)<32:=by omega
     have dV:((a+1:Nat) :Int)<32:=by omega
     have dK:((a+2:Nat) :Int)<32:=by omega
     have gu:((a+3:Nat) :Int)<32:=by omega
     have uE:a+1<=32:=by omega
     have cN:a+1+1<=32:=by omega
     have dm:a+2+1<=32:=by omega
     have jn:a+3+1<=32:=by omega
     have uL:(a:Int)+1<32:=by omega
     have uM:(a:Int)+2<32:=by omega
     have Sc:(a:Int)+3<32:=by omega
     have h9:((a:Int)+1).toNat=a+1:=by omega
     have p2:((a:Int)+2).toNat=a+2:=by omega
     have Sz:((a:Int)+3).toNat=a+3:=by omega
     have vC:(0:Int)<=(a:Int)+1:=by omega
     have mb:(0:Int)<=(a:Int)+2:=by omega
     have oc:(0:Int)<=(a:Int)+3:=by omega
     simp[g1,ed,bx,mh,b5,w2,d2,ji,gb,s0,dx,lK,abw,uE,cN,dm,jn,uL,uM,Sc,h9,p2,Sz,vC,mb,oc,-List.map_set]
    ·have rM:k=8:=by omega
     subst rM;have aiS:og F.st.l 8=written F.st:=by simp[og,written,d8.l]
     rw[aiS];have xj:(written F.st).length=32:=rfl;simp[xj,lN,List.take_of_length_le];exact a7 (by unfold ff Bz; rw[T1]) (RW bF (fun _=>rfl) _)
   ·simp[a1];rw[abd .u8 8]; rfl
 ·simp;exact⟨j,qg,ax,az,gL,a1⟩
structure v7 (m:rb) (b:List B) :Prop where
 EJ:gv first b=(m.st,m.rest.l)
 n:m.n=b.length
theorem aj6 {m:rb} {b:List B} (h:v7 m b) (s:d7) :v7 (rv m s) (b++s.l) :=by
 have h1:gv first (b++s.l)=gv m.st (m.rest.l++s.l) :=by rw[OT,h.EJ]
 refine⟨?_,?_⟩
 ·rw[h1];unfold rv
  dsimp only
  split
  ·rename_i aw;rw[aw]; rfl
  ·rfl
 ·unfold rv
  dsimp only
  rw[h.n]; simp
theorem aj7 {m:rb} {b:List B} (h:v7 m b) :m.rest.l.length<64:=by
 have:=ad0 first b
 rw[h.EJ] at this;simp only at this;rw[this]; exact Nat.mod_lt _ (by omega)
theorem aj5 {m:rb} {b:List B} (h:v7 m b) :Bz m.st m.rest b.length=g6 b:=by
 unfold Bz g6;rw[OT first b,h.EJ]
def start:rb:=⟨first,none,0⟩
theorem aj8:v7 start [] :=⟨rfl,rfl⟩
theorem aoN:h6 Tryz.prog GS 158 [] (oK start) :=by
 refine Ak Tryz.checked.mixed b2 ?_;apply bH PT YY;unfold Fz Lp;simp;exact .flat _ rfl
def qy (s:d7) :Bool:=decide ((10000:Int)<s.l.length)
theorem ale (s:d7) :bT Tryz.prog GS 157 [cv s] (.bool (qy s)) :=by
 refine cd Tryz.checked.mixed b2 ?_;apply bH PS YX;unfold Fy Lo;simp[cv];exact a7 rfl rfl
theorem agj:iU Tryz.prog 157=true:=by kernel_rfl
def idx (l:List d7) :Int:=match l.findIdx? qy with | some i=>(i:Int) | none=>-1
theorem ajI {l:List d7} {k:Nat} {s:d7} (au:l[k]? = some s) (ar:qy s=true) (eE:∀ j s,j<k->l[j]? = some s->qy s=false) :idx l=k:=by
 have:l.findIdx? qy=some k:=by
  rw[List.findIdx?_eq_some_iff_getElem];obtain⟨h1,rfl⟩:=List.getElem?_eq_some_iff.1 au;refine⟨h1,ar,fun j am=>?_⟩;rw[eE j l[j] am (List.getElem?_eq_getElem (by omega))]; simp
 unfold idx; rw[this]
theorem Vn {l:List d7} (eE:∀ j s,j<l.length->l[j]? = some s->qy s=false) :idx l=-1:=by
 have:l.findIdx? qy=none:=by
  rw[List.findIdx?_eq_none_iff];intro x ak;obtain⟨j,am⟩:=List.mem_iff_getElem?.1 ak;exact eE j x (List.getElem?_eq_some_iff.1 am).1 am
 unfold idx; rw[this]
theorem Jz (ci:eh d7) (ar:ci.l.length<=1000000000) :bT Tryz.prog GS 186 [ll ci,.fn 157 [] []] (.int .i64 (idx ci.l)) :=by
 refine cd Tryz.checked.mixed b2 ?_;apply bH Qh Zm;unfold FW LM;have bw:db (.ao 1) (ll ci)=some (.int .i64 ci.l.length) :=oa _;simp[bw];refine c0 ci.l.length (fun k ah l=>ah 0=ll ci/\ah 1=.fn 157 [] []/\ah 7=.int .i64 ci.l.length/\ah 8=.int .i64 k/\∀ j s,j<k->ci.l[j]? = some s->qy s=false) ?_ (by simp);rintro k ah l aF ⟨cz,aY,eb,dN,eE⟩;obtain⟨ah,rfl⟩:=iJ cz aY eb dN;clear cz aY eb dN;unfold Wh;simp;by_cases h:k<ci.l.length
 ·obtain⟨s,au,_⟩:=cg h;have c2:cU (.ao 1) (ll ci) (.int .i64 k)=some (.cp [cv s] 0) :=by
   rw[pa]; simp[au]
  have eC:IntKind.i64.wrap ((k:Int)+1)=k+1:=wrap_i64 (by omega) (by omega);simp[h,c2];refine⟨agj,bB (ale s) (by simp[bV,kJ]) ?_⟩;cases mR:qy s with
  | true=>
   simp;rw[ajI au mR eE];exact a7 rfl rfl
  | false=>
   simp[h,eC];intro j fo am qp;rcases Nat.lt_or_ge j k with h1 | h1
   ·exact eE j fo h1 qp
   ·have:j=k:=by omega
    subst this;rw[au] at qp; cases qp; exact mR
 ·simp[h];rw[Vn (fun j s am au=>eE j s (by omega) au)];exact a7 rfl rfl
theorem afm (ci:eh d7) (ar:ci.l.length<=1000000000) :bT Tryz.prog GS 156 [ll ci,.fn 157 [] []] (.bool (decide (0<=idx ci.l))) :=by
 refine cd Tryz.checked.mixed b2 ?_;apply bH PR YW;unfold Fx Ln;simp;refine bB (Jz ci ar) (by simp[bV,ae.closed,RV]) ?_;simp;exact a7 rfl rfl
set_option maxHeartbeats 4000000 in
theorem Kw (ci:List d7) (asw:ci.length<=20) (eE:∀ s∈ci,s.l.length<=10000) :bT Tryz.prog GS 111 [ll (some ci)] (.bP [ff (g6 (bytesOf ci)),.int .i64 0]) :=by
 have tl:idx ci=-1:=Vn fun j s am au=>by
  have:=eE s (List.mem_of_getElem? au);unfold qy; simp; omega
 have bw:∀ k,(bytesOf (ci.take k)).length<=200000:=fun k=>by
  have:∀ l:List d7,(∀ s∈l,s.l.length<=10000)->(bytesOf l).length<=10000*l.length:=by
   intro l
   induction l with
   | nil=>intro _; simp[bytesOf]
   | cons s l aM=>
    intro h;have h1:=aM fun x ak=>h x (by simp[ak])
    have ag:=h s (by simp);unfold bytesOf at h1 ⊢;rw[List.map_cons,List.flatten_cons,List.length_append,List.length_cons];omega
  have h1:=this (ci.take k) fun s au=>eE s (List.mem_of_mem_take au)
  have ag:(ci.take k).length<=20:=by simp; omega
  omega
 refine cd Tryz.checked.mixed b2 ?_;apply bH Pg Ym;unfold EZ KQ;have agJ:¬(20:Int)<ci.length:=by omega
 have TP:=afm (some ci) (by simp; omega);rw[eh.JU,tl] at TP;simp[agJ];refine bB TP (by simp[bV,ae.closed,RV]) ?_;simp;refine bB aoN.x1 rfl ?_;simp[oK,tQ,lN];refine c0 ci.length (fun k ah l=>ah 2=.ptr 0 0 32/\ah 4=.ptr 1 0 10/\ah 16=ll (some ci)/\ah 17=.int .i64 ci.length/\ah 18=.int .i64 k/\∃ m,v7 m (bytesOf (ci.take k))/\l=[.cells 32 (rep 32 (.int .u8 0)),.cells 10 (fN m.st (cv m.rest) m.n)]) ?_ ?_
 ·rintro k ah l aF ⟨a6,bI,lZ,my,mz,m,hm,rfl⟩;obtain⟨ah,rfl⟩:=k6 a6 bI lZ my mz;clear a6 bI lZ my mz;unfold VU;simp;have ho:(ae.aV (fN m.st (cv m.rest) m.n)).closed=true:=by simp[ae.closed,bV,fN,d8.l,kJ]
  have gF:List.take 10 (fN m.st (cv m.rest) m.n)=fN m.st (cv m.rest) m.n:=rfl;have n1:=aj7 hm;have mT:=hm.n;have jB:=bw k;by_cases h:k<ci.length
  ·obtain⟨s,au,vo⟩:=cg h;have c2:cU (.ao 1) (ll (some ci)) (.int .i64 k)=some (.cp [cv s] 0) :=by
    rw[pa]; simp[au]
   have eC:IntKind.i64.wrap ((k:Int)+1)=k+1:=wrap_i64 (by omega) (by omega);have h1:=eE s vo;have aJ:=SA m s (by omega) (by omega) (by omega);have jC:=aj6 hm s;rw[<-bytesOf_take ci k s au] at jC;obtain⟨F,uW⟩:∃ F,F=rv m s:=⟨_,rfl⟩
   rw[<-uW] at aJ jC;simp[h,c2,tQ,gF];refine bB aJ.x1 ?_ ?_
   ·simp only[bV,ho,kJ,Bool.and_self]
   simp[oK,tQ,lN,h,eC];exact⟨F,jC,rfl⟩
  ·have cY:k=ci.length:=by omega
   subst cY;rw[List.take_length] at hm mT jB;have aw:=afO m.st m.rest (bytesOf ci).length (by omega) (by omega);rw[aj5 hm] at aw;have hp:m=⟨m.st,m.rest,((bytesOf ci).length:Int)⟩:=by rw[<-mT]
   rw[<-hp] at aw;have e8:=ud (bytesOf ci);simp[h,tQ,gF];refine bB aw ?_ ?_
   ·simp only[bV,ho,Bool.and_self]
   have d5:((g6 (bytesOf ci)).map bF).length=32:=by rw[List.length_map,e8]
   simp[ff,e8,lN,List.take_of_length_le];exact a7 rfl (by simp[ae.closed,bV,kI bF (fun _=>rfl)])
 ·simp[bytesOf];exact⟨start,aj8,rfl⟩
theorem abS (s:d7) (h:s.l.length<=10000) :bT Tryz.prog GS 73 [cv s] (.bP [ff (g6 s.l),.int .i64 0]) :=by
 have aj:bytesOf [s]=s.l:=by simp[bytesOf]
 have aG:=Kw [s] (by simp) (by simpa using h);rw[aj] at aG;refine cd Tryz.checked.mixed b2 ?_;apply bH Rl aaq;unfold GK Mw;have e8:=ud s.l;simp;refine jc aG (.cons ?_ .nil) (by simp[ae.flat,kg,ff,wC bF (fun _=>rfl)]) ?_
 ·exact Ap (es:=[[cv s]]) (rest:=[]) rfl rfl (by simp) (by simp[bV,kJ])
 simp[ff,e8,lN,List.take_of_length_le];exact a7 rfl (by simp[ae.closed,bV,kI bF (fun _=>rfl)])
theorem q4 (x:W) (n:Nat) (aO:0<n) (h:n<32) :bT Tryz.prog GS 178 [bA x,.int .i64 n] (bA (lI x n)) :=by
 refine cd Tryz.checked.mixed b2 ?_;apply bH P8 Zd;unfold FO LF;have bx:IntKind.i64.wrap (32 - (n:Int))=(32 - n:Nat) :=by rw[wrap_i64 (by omega) (by omega)]; omega
 obtain⟨m,hm⟩:∃ m,m=32 - n:=⟨_,rfl⟩
 rw[<-hm] at bx;simp[bx];exact a7 (by unfold lI; rw[hm]) rfl
def d9 (x:W) :List ae:=[bA x]
theorem afl:h6 Tryz.prog GS 179 [] (cO 1 d9 (some bQ)) :=
 vI Tryz.checked.mixed b2 (Xo _ _) ui (fuel:=100) (k:=10) (by kernel_rfl)
theorem agf:bT Tryz.prog GS 99 [] (.aV (first.l.map bA)) :=by
 refine cd Tryz.checked.mixed b2 ?_;apply bH RJ aaP;unfold G7 MP;simp;exact a7 rfl rfl
theorem aqc (b:List B) (t:Nat) (gb dV dK gu:B) (aO:b[4*t]? = some gb) (h1:b[4*t+1]? = some dV) (ag:b[4*t+2]? = some dK) (aq:b[4*t+3]? = some gu) :
  nk ((b.drop (4*t)).take 4)=((gb.setWidth 32*256#32+dV.setWidth 32)*256#32+dK.setWidth 32)*256#32+gu.setWidth 32:=by
 have h:(b.drop (4*t)).take 4=[gb,dV,dK,gu] :=by
  have ar:=(List.getElem?_eq_some_iff.1 aq).1;apply List.ext_getElem?;intro i
  match i with
  | 0=>simp[aO]
  | 1=>simp[h1]
  | 2=>simp[ag]
  | 3=>simp[aq]
  | i+4=>rw[List.getElem?_eq_none (by simp; omega),List.getElem?_eq_none (by simp)]
 rw[h];show ((((0#32 <<< 8 ||| gb.setWidth 32) <<< 8 ||| dV.setWidth 32) <<< 8 ||| dK.setWidth 32) <<< 8 ||| gu.setWidth 32)=_;rw[DQ,DQ,DQ,DQ];simp
theorem acr {l:av} {v:ae} {j:Nat} {f4:List W} (h:b0 1 l v j (f4.map d9)) (ax:cS v=false) :∃ (cap sz:Nat) (cs:List ae),v=.ao 1 j 0 f4.length cap sz/\l[j]? = some (.cells sz cs)/\∀ (i:Nat) (x:W),f4[i]? = some x->cs[i]? = some (bA x) :=by
 obtain⟨n,cap,sz,cs,h1,ag,aq,aK,bg,bL,_⟩:=h.view ax;rw[List.length_map] at aK;subst aK;refine⟨cap,sz,cs,h1,ag,fun i x ak=>?_⟩;have:=bL i (d9 x) (by rw[List.getElem?_map,ak]; rfl) 0 (by omega);simpa [d9] using this
theorem aqf (b:List B) (k:Nat) (aF:k<16) :(eM b).take (k+1)=(eM b).take k++[nk ((b.drop (4*k)).take 4)] :=by
 have:(eM b)[k]? = some (nk ((b.drop (4*k)).take 4)) :=by unfold eM; rw[List.getElem?_map,List.getElem?_range aF]; rfl
 rw[List.take_add_one,this]; rfl
theorem aqd (b:List B) :(eM b).length=16:=by simp[eM]
theorem af6 (k:Nat) (b:List B) :(hn k (eM b)).length=16+k:=by simp[uO,eM]
set_option maxHeartbeats 16000000 in
theorem agG (h:d8) (b:List B) (aj:64<=b.length) :bT Tryz.prog GS 139 [.aV (h.l.map bA),cv (some b)] (.aV ((grind h b).l.map bA)) :=by
 have jW:cQ=140737488355328:=rfl;have T7:(h.l.map bA).length=8:=rfl;refine cd Tryz.checked.mixed b2 ?_;apply bH PA YF;unfold Fi K8;simp[T7];refine c0 16 (fun k ah l=>ah 1=cv (some b)/\ah 2=.ptr 0 0 8/\ah 4=.ptr 1 0 8/\ah 6=.int .i64 k/\∃ v j f7 rest,ah 5=v/\(cS v=true->k=0)/\(v=.aZ\/2<=j)/\b0 1 l v j (((eM b).take k).map d9)/\l=.cells 8 (h.l.map bA) ::.cells 8 f7::rest/\f7.length=8) ?_ ?_
 ·rintro k ah l aF ⟨aY,a6,bI,cx,v,j,f7,rest,bq,ax,am,az,rfl,ih⟩;obtain⟨ah,rfl⟩:=k6 aY a6 bI bq cx;clear aY a6 bI bq cx;unfold VZ;by_cases Uj:(k:Int)<16
  ·have ed:k<16:=by omega
   obtain⟨a,aI⟩:∃ a,a=4*k:=⟨_,rfl⟩
   have mh:IntKind.i64.wrap (4*(k:Int))=(a:Nat) :=by rw[wrap_i64 (by omega) (by omega)]; omega
   obtain⟨bt,H4⟩:∃ x,x=a+1:=⟨_,rfl⟩
   obtain⟨bE,ahd⟩:∃ x,x=a+2:=⟨_,rfl⟩
   obtain⟨a3,ahe⟩:∃ x,x=a+3:=⟨_,rfl⟩
   have b5:IntKind.i64.wrap ((a:Int)+1)=bt:=by rw[wrap_i64 (by omega) (by omega)]; omega
   have w2:IntKind.i64.wrap ((a:Int)+2)=bE:=by rw[wrap_i64 (by omega) (by omega)]; omega
   have d2:IntKind.i64.wrap ((a:Int)+3)=a3:=by rw[wrap_i64 (by omega) (by omega)]; omega
   have ji:IntKind.i64.wrap ((k:Int)+1)=k+1:=wrap_i64 (by omega) (by omega);obtain⟨gb,jv⟩:∃ x,b[a]? = some x:=⟨_,List.getElem?_eq_getElem (by omega)⟩
   obtain⟨dV,fZ⟩:∃ x,b[bt]? = some x:=⟨_,List.getElem?_eq_getElem (by omega)⟩
   obtain⟨dK,fz⟩:∃ x,b[bE]? = some x:=⟨_,List.getElem?_eq_getElem (by omega)⟩
   obtain⟨gu,rI⟩:∃ x,b[a3]? = some x:=⟨_,List.getElem?_eq_getElem (by omega)⟩
   have c2:∀ (i:Nat) (x:B),b[i]? = some x->cU (.ao 1) (cv (some b)) (.int .i64 i)=some (.cp (b8 x) 0) :=fun i x ak=>by rw[pa]; simp[ak]
   have tB:=c2 a gb jv;have c4:=c2 bt dV fZ;have ej:=c2 bE dK fz;have gO:=c2 a3 gu rI;have Jl:=aqf b k ed;rw[aqc b k gb dV dK gu (by rw[<-aI]; exact jv) (by rw[<-aI,<-H4]; exact fZ) (by rw[<-aI,<-ahd]; exact fz) (by rw[<-aI,<-ahe]; exact rI)] at Jl;obtain⟨w,bx⟩:∃ w,w=((gb.setWidth 32*256#32+dV.setWidth 32)*256#32+dK.setWidth 32)*256#32+gu.setWidth 32:=⟨_,rfl⟩
   rw[<-bx] at Jl;have kU:b0 1 ([.cells 8 (h.l.map bA),.cells 8 f7]++(rest++[bv.cells 1 [bA w]])) v j (((eM b).take k).map d9) :=az.more [bv.cells 1 [bA w]];have jB:(((eM b).take k).map d9).length<=16:=by simp; omega
   obtain⟨bc,cJ,co,h1,ag,aq,aK⟩:=ym (by_:=4) kU am (x:=.ao 1 (rest.length+2) 0 1 1 1) (xs:=[d9 w]) (by simp[dj,d9]) (by simp[d9]) (by omega) (by omega) (by rw[jW]; simp; omega);have fX:b0 1 (.cells 8 (h.l.map bA) ::.cells 8 f7::co) bc cJ (((eM b).take (k+1)).map d9) :=by rw[Jl,List.map_append]; exact ag
   simp only[List.cons_append,List.nil_append] at h1;have gM:cS bc=false:=by rw[aK]; simp
   simp[Uj,mh,b5,w2,d2,tB,c4,ej,gO,b8];rw[<-bx];simp[h1];refine dM.cM ?_;simp[Uj,ji,ed];exact⟨gM,cJ,aq,by rw[<-List.map_take]; exact fX,ih⟩
  ·have ed:k=16:=by omega
   subst ed;have hz:cS v=false:=by
    cases Ji:cS v with
    | false=>rfl
    | true=>exact absurd (ax Ji) (by omega)
   have qg:2<=j:=by
    rcases am with h | h
    ·subst h; cases hz
    ·exact h
   have aiQ:b0 1 (.cells 8 (h.l.map bA) ::.cells 8 f7::rest) v j ((eM b).map d9) :=by
    have:(eM b).take 16=eM b:=List.take_of_length_le (by rw[aqd]; omega);rw[this] at az; exact az
   clear ax am az;simp;refine c0 48 (fun k ah l=>ah 2=.ptr 0 0 8/\ah 4=.ptr 1 0 8/\ah 7=.int .i64 (16+k:Nat)/\∃ v j f7 rest,ah 5=v/\cS v=false/\2<=j/\b0 1 l v j ((hn k (eM b)).map d9)/\l=.cells 8 (h.l.map bA) ::.cells 8 f7::rest/\f7.length=8) ?_ ?_
   ·rintro k ah l aF ⟨a6,bI,eb,v,j,f7,rest,bq,ax,am,az,rfl,ih⟩;obtain⟨ah,rfl⟩:=iJ a6 bI bq eb;clear a6 bI bq eb;unfold V0;obtain⟨t,aW⟩:∃ t,t=16+k:=⟨_,rfl⟩
    rw[<-aW];by_cases vb:(t:Int)<64
    ·have i1:IntKind.i64.wrap ((t:Int)+1)=(t+1:Nat) :=wrap_i64 (by omega) (by omega);have ar:=af6 k b;obtain⟨tD,Hj⟩:∃ i,i=t - 15:=⟨_,rfl⟩
     obtain⟨ej,b3⟩:∃ i,i=t - 2:=⟨_,rfl⟩
     obtain⟨tE,Bv⟩:∃ i,i=t - 16:=⟨_,rfl⟩
     obtain⟨hW,Hl⟩:∃ i,i=t - 7:=⟨_,rfl⟩
     have D6:IntKind.i64.wrap ((t:Int) - 15)=tD:=by rw[wrap_i64 (by omega) (by omega)]; omega
     have w2:IntKind.i64.wrap ((t:Int) - 2)=ej:=by rw[wrap_i64 (by omega) (by omega)]; omega
     have D7:IntKind.i64.wrap ((t:Int) - 16)=tE:=by rw[wrap_i64 (by omega) (by omega)]; omega
     have AN:IntKind.i64.wrap ((t:Int) - 7)=hW:=by rw[wrap_i64 (by omega) (by omega)]; omega
     obtain⟨f4,n5⟩:∃ f4,f4=hn k (eM b) :=⟨_,rfl⟩
     have vq:=Hs k (eM b);rw[<-n5] at ar az vq;have xj:f4.length=t:=by omega
     unfold ext at vq
     dsimp only at vq
     rw[xj,<-Hj,<-b3,<-Bv,<-Hl] at vq;have BJ:∀ i,i<t->f4[i]? = some (f4.getD i 0#32) :=fun i aA=>by rw[List.getD_eq_getElem?_getD,List.getElem?_eq_getElem (by omega)]; rfl
     obtain⟨x,ak⟩:∃ x,x=f4.getD tD 0#32:=⟨_,rfl⟩
     obtain⟨y,aP⟩:∃ y,y=f4.getD ej 0#32:=⟨_,rfl⟩
     obtain⟨NU,Ve⟩:∃ y,y=f4.getD tE 0#32:=⟨_,rfl⟩
     obtain⟨NV,Vf⟩:∃ y,y=f4.getD hW 0#32:=⟨_,rfl⟩
     rw[<-ak,<-aP,<-Ve,<-Vf] at vq;obtain⟨cap,sz,cs,rfl,tu,cH⟩:=acr az ax;have yu:=cH tD x (by rw[ak]; exact BJ tD (by omega));have dm:=cH ej y (by rw[aP]; exact BJ ej (by omega));have yv:=cH tE NU (by rw[Ve]; exact BJ tE (by omega));have yy:=cH hW NV (by rw[Vf]; exact BJ hW (by omega));obtain⟨w,bx⟩:∃ w,w=NU+NV+(lI x 7 ^^^ lI x 18 ^^^ x >>> 3)+(lI y 17 ^^^ lI y 19 ^^^ y >>> 10) :=⟨_,rfl⟩
     rw[<-bx] at vq;have kU:b0 1 ([.cells 8 (h.l.map bA),.cells 8 f7]++(rest++[bv.cells 1 [bA w]])) _ j (f4.map d9) :=az.more [bv.cells 1 [bA w]];obtain⟨bc,cJ,co,h1,ag,aq,aK⟩:=ym (by_:=4) kU (.inr am) (x:=.ao 1 (rest.length+2) 0 1 1 1) (xs:=[d9 w]) (by simp[dj,d9]) (by simp[d9]) (by omega) (by omega) (by rw[jW]; simp; omega);have fX:b0 1 (.cells 8 (h.l.map bA) ::.cells 8 f7::co) bc cJ ((hn (k+1) (eM b)).map d9) :=by rw[vq,List.map_append]; exact ag
     simp only[List.cons_append,List.nil_append] at h1;have gM:cS bc=false:=by rw[aK]; rfl
     obtain⟨qA,rfl⟩:∃ qA,j=qA+2:=⟨j - 2,by omega⟩
     have qi:rest[qA]? = some (.cells sz cs) :=by simpa using tu
     have ve:(rest++[bv.cells 1 [bA w]])[qA]? = some (.cells sz cs) :=by rw[List.getElem?_append_left (fi qi)]; exact qi
     have EE:tD<f4.length:=by omega
     have dK:ej<f4.length:=by omega
     have EF:tE<f4.length:=by omega
     have rl:hW<f4.length:=by omega
     have ab0:=q4 x 7 (by omega) (by omega);have abX:=q4 x 18 (by omega) (by omega);have abW:=q4 y 17 (by omega) (by omega);have abY:=q4 y 19 (by omega) (by omega);simp at ab0 abX abW abY;simp[vb,D6,w2,D7,AN,EE,dK,EF,rl,qi,yu,dm,yv,yy];refine bB ab0 rfl ?_;simp[qi,yv,yy];refine bB abX rfl ?_;simp[qi,yv,yy];refine bB abW rfl ?_;simp[qi,yv,yy];refine bB abY rfl ?_;simp[qi,yv,yy];rw[<-bx];simp[h1];refine dM.cM ?_;simp[i1];exact⟨by omega,by omega,gM,cJ,aq.resolve_left (by intro e; subst e; cases gM),fX,ih⟩
    ·have ed:k=48:=by omega
     subst ed;subst aW;have qq:hn 48 (eM b)=eW b:=rfl;rw[qq] at az;obtain⟨cap,sz,cs,rfl,tu,cH⟩:=acr az ax;obtain⟨qA,rfl⟩:∃ qA,j=qA+2:=⟨j - 2,by omega⟩
     have qi:rest[qA]? = some (.cells sz cs) :=by simpa using tu
     have e8:=AB b;rw[e8];clear az ax am tu;simp;refine bB afl.x1 rfl ?_;have l2:h.l.length=8:=rfl;simp[lN,l2];refine c0 64 (fun k ah l=>ah 2=.ptr 0 0 8/\ah 4=.ptr 1 0 8/\ah 5=.ao 1 (qA+2) 0 64 cap sz/\ah 10=cO 1 d9 (some bQ)/\ah 11=.ptr (rest.length+2) 0 8/\ah 12=.int .i64 k/\l=.cells 8 (h.l.map bA) ::.cells 8 f7::(rest++[.cells 8 ((k1 h b k).l.map bA)])) ?_ ?_
     ·rintro k ah l aF ⟨a6,bI,bq,eP,hx,e7,rfl⟩;obtain⟨ah,rfl⟩:=NK a6 bI bq eP hx e7;clear a6 bI bq eP hx e7;unfold V1;have eD:=fi qi;have ve:∀ x:bv,(rest++[x])[qA]? = some (.cells sz cs) :=fun x=>by rw[List.getElem?_append_left eD]; exact qi
      by_cases vb:(k:Int)<64
      ·have gh:k<64:=by omega
       have eC:IntKind.i64.wrap ((k:Int)+1)=(k+1:Nat) :=wrap_i64 (by omega) (by omega);have mO:bQ[k]? = some (bQ.getD k 0#32) :=by rw[List.getD_eq_getElem?_getD,List.getElem?_eq_getElem (show k<bQ.length from gh)]; rfl
       have fU:=cH k ((eW b).getD k 0#32) (by rw[List.getD_eq_getElem?_getD,List.getElem?_eq_getElem (by omega)]; rfl);rw[aaT h b k gh];obtain⟨ji,bx⟩:∃ ji,(eW b).getD k 0#32=ji:=⟨_,rfl⟩
       obtain⟨iE,Iw⟩:∃ iE,bQ.getD k 0#32=iE:=⟨_,rfl⟩
       obtain⟨s,au⟩:∃ s,k1 h b k=s:=⟨_,rfl⟩
       rw[bx] at fU ⊢;rw[Iw] at mO ⊢;rw[au];have xo:cU (.ao 1) (cO 1 d9 (some bQ)) (.int .i64 k)=some (.cp (d9 iE) 0) :=by rw[pa]; simp[mO]
       have abZ:=q4 s.e 6 (by omega) (by omega);have abU:=q4 s.e 11 (by omega) (by omega);have t25:=q4 s.e 25 (by omega) (by omega);have vR:=q4 s.a 2 (by omega) (by omega);have abV:=q4 s.a 13 (by omega) (by omega);have t22:=q4 s.a 22 (by omega) (by omega);simp at abZ abU t25 vR abV t22;have aji:s.l=[s.a,s.b,s.c,s.d,s.e,s.f,s.g,s.h] :=rfl;have UY:(round s iE ji).l=[(round s iE ji).a,(round s iE ji).b,(round s iE ji).c,(round s iE ji).d,(round s iE ji).e,(round s iE ji).f,(round s iE ji).g,(round s iE ji).h] :=rfl;simp[vb,aji,xo,d9,ve,fU];refine bB abZ rfl ?_;simp[xo,d9,ve,fU];refine bB abU rfl ?_;simp[xo,d9,ve,fU];refine bB t25 rfl ?_;simp[xo,d9,ve,fU];refine bB vR rfl ?_;simp[xo,d9,ve,fU];refine bB abV rfl ?_;simp[xo,d9,ve,fU];refine bB t22 rfl ?_;simp[lN,gh,eC];rfl
      ·have ed:k=64:=by omega
       subst ed;rw[aaR];obtain⟨v,ax⟩:∃ v,rounds h bQ (eW b)=v:=⟨_,rfl⟩
       rw[ax];have qe:grind h b=⟨h.a+v.a,h.b+v.b,h.c+v.c,h.d+v.d,h.e+v.e,h.f+v.f,h.g+v.g,h.h+v.h⟩:=by unfold grind; rw[ax]
       have nU:h.l.length=v.l.length:=rfl;have l2:h.l.length=8:=rfl;have In:(grind h b).l=hs h.l v.l 8:=by rw[qe]; rfl
       rw[In];simp;refine c0 8 (fun k ah l=>ah 2=.ptr 0 0 8/\ah 4=.ptr 1 0 8/\ah 11=.ptr (rest.length+2) 0 8/\ah 21=.int .i64 k/\l=.cells 8 ((hs h.l v.l k).map bA) ::.cells 8 f7::(rest++[.cells 8 (v.l.map bA)])) ?_ ?_
       ·rintro k ah l aF ⟨a6,bI,hx,rx,rfl⟩;obtain⟨ah,rfl⟩:=iJ a6 bI hx rx;clear a6 bI hx rx;unfold V2;by_cases g1:(k:Int)<8
        ·have rM:k<8:=by omega
         have eC:IntKind.i64.wrap ((k:Int)+1)=(k+1:Nat) :=wrap_i64 (by omega) (by omega);obtain⟨y,aP⟩:∃ y,v.l[k]? = some y:=⟨_,List.getElem?_eq_getElem (show k<v.l.length from rM)⟩
         obtain⟨z,aC⟩:∃ z,h.l[k]? = some z:=⟨_,List.getElem?_eq_getElem (show k<h.l.length from rM)⟩
         have aI:=N8 nU (k:=k) (by rw[l2]; exact rM);rw[aC] at aI;have gZ:=Ew nU k;have o6:=md bA (hs h.l v.l k) k (z+y) (by rw[gZ,l2]; exact rM);rw[N9 nU aC aP] at o6;have T5:(List.map bA (hs h.l v.l k))[k]? = some (bA z) :=by rw[List.getElem?_map,aI]; rfl
         have wZ:k<=7:=by omega
         obtain⟨A,cR⟩:∃ A,A=(hs h.l v.l k).map bA:=⟨_,rfl⟩
         have js:A.length=8:=by rw[cR,List.length_map,gZ,l2]
         rw[<-cR] at T5 o6 ⊢;obtain⟨agO,ah6⟩:=List.getElem?_eq_some_iff.1 T5;simp[g1,rM,eC,ah6,aP,o6,js,wZ]
        ·have ed:k=8:=by omega
         subst ed;have gZ:=Ew nU 8;have CS:∀ A:List ae,A.length=8->A.take 8=A:=fun A cR=>List.take_of_length_le (by omega)
         obtain⟨A,cR⟩:∃ A,A=(hs h.l v.l 8).map bA:=⟨_,rfl⟩
         have js:A.length=8:=by rw[cR,List.length_map,gZ,l2]
         have wL:bV A=true:=by rw[cR]; exact kI bA (fun _=>rfl) _
         rw[<-cR];simp[lN,ih,js,CS A js];exact a7 rfl (by simp[ae.closed,wL])
       ·simp[Oa]
     ·simp[aaU];exact List.take_of_length_le (by simp[l2])
   ·refine⟨rfl,rfl,rfl,v,j,f7,rest,rfl,hz,qg,aiQ,rfl,ih⟩
 ·simp;exact⟨0,.nil 0⟩
def pw (k:Nat) :List B:=128#8::List.replicate k 0#8
theorem amd (k:Nat) :pw (k+1)=pw k++[0#8] :=by simp[pw,List.replicate_succ']
theorem XL (k:Nat) :(pw k).length=k+1:=by simp[pw]
set_option maxHeartbeats 8000000 in
theorem anQ (n:Nat) (aH:n<=100000000) :h6 Tryz.prog GS 100 [.int .i64 n] (cv (some (tail n))) :=by
 have jW:cQ=140737488355328:=rfl;refine Ak Tryz.checked.mixed b2 ?_;apply bH O4 Yb;unfold ER KI;obtain⟨m,hm⟩:∃ m,m=(119 - n % 64) % 64:=⟨_,rfl⟩
 simp;refine c0 m (fun k ah l=>ah 0=.int .i64 n/\∃ v j,ah 3=v/\cS v=false/\b0 1 l v j ((pw k).map b8)) ?_ ?_
 ·rintro k ah l aF ⟨cz,v,j,bi,ax,az⟩;obtain⟨ah,rfl⟩:=ov cz bi;clear cz bi;unfold VP;have bw:=az.len;rw[List.length_map,XL] at bw;obtain⟨cc,tn⟩:∃ cc,cc=k+1:=⟨_,rfl⟩
  rw[<-tn] at bw;have i1:IntKind.i64.wrap ((n:Int)+(cc:Int))=(n+cc:Nat) :=wrap_i64 (by omega) (by omega);obtain⟨q,bp⟩:∃ q,q=n+cc:=⟨_,rfl⟩
  rw[<-bp] at i1;have lA:IntKind.i64.wrap ((q:Int)+8)=(q+8:Nat) :=wrap_i64 (by omega) (by omega);obtain⟨Dz,IX⟩:∃ Dz,Dz=q+8:=⟨_,rfl⟩
  rw[<-IX] at lA;have o5:=A9 Dz 64 (by omega);rw[show ((64:Int).toNat)=64 from rfl] at o5;obtain⟨x,ak⟩:∃ x,x=Dz % 64:=⟨_,rfl⟩
  rw[<-ak] at o5;simp[bw,i1,lA,o5];by_cases Vd:x=0
  ·have kp:k=m:=by omega
   subst kp;have Jb:pw k=lO n 0:=by unfold pw lO; rw[<-hm]; simp
   rw[Jb] at az;clear bw i1 lA o5;simp[Vd];refine c0 8 (fun k ah l=>ah 0=.int .i64 n/\ah 4=.int .i64 (7 - (k:Int))/\∃ v j,ah 3=v/\cS v=false/\b0 1 l v j ((lO n k).map b8)) ?_ ?_
   ·rintro k ah l aF ⟨cz,bI,v,j,bi,ax,az⟩;obtain⟨ah,rfl⟩:=k5 cz bi bI;clear cz bi bI;unfold VQ;obtain⟨c,al⟩:∃ c:Int,c=7 - (k:Int) :=⟨_,rfl⟩
    rw[<-al];by_cases g1:0<=c
    ·have wZ:k<8:=by omega
     have xi:IntKind.i64.wrap (c - 1)=7 - ((k:Int)+1) :=by rw[wrap_i64 (by omega) (by omega)]; omega
     obtain⟨d,bD⟩:∃ d,d=8*c:=⟨_,rfl⟩
     have Jk:IntKind.i64.wrap (8*c)=d:=by rw[wrap_i64 (by omega) (by omega)]; omega
     have Ie:0<=d:=by omega
     have ahK:d.toNat=56 - 8*k:=by omega
     have ak:=OY (BitVec.ofNat 64 n*8#64) k wZ;have jX:=DZ n k;obtain⟨y,aP⟩:∃ y,y=(((BitVec.ofNat 64 n*8#64) >>> (56 - 8*k)).setWidth 8) :=⟨_,rfl⟩
     rw[<-aP] at ak;have kU:b0 1 (l++[bv.cells 1 [bF y]]) v j ((lO n k).map b8) :=az.more _;obtain⟨bc,cJ,l',h1,ag,aq,aK,bg,bL⟩:=mu (by_:=1) kU (x:=.ao 1 l.length 0 1 1 1) (xs:=[[bF y]]) (by simp[dj]) (by simp) (by omega) (by omega) (by simp; omega);have gM:cS bc=false:=by rw[r4 bL,ax]; rfl
     have fX:b0 1 l' bc cJ ((lO n (k+1)).map b8) :=by rw[ab2 n k y ak,List.map_append]; exact ag
     rw[BitVec.mul_comm] at aP;simp only[bF] at h1;simp[g1,Jk,Ie,ahK];rw[<-aP];simp[h1];refine dM.cM ?_;simp[xi,wZ];exact⟨gM,cJ,fX⟩
    ·have ed:k=8:=by omega
     subst ed;simp[g1];exact az.Ar (fun _=>rfl) (some (tail n)) ax rfl
   ·simp;exact⟨ax,_,az⟩
  ·have jX:=XL k;have kU:b0 1 (l++[bv.cells 1 [bF 0#8]]) v j ((pw k).map b8) :=az.more _;obtain⟨bc,cJ,l',h1,ag,aq,aK,bg,bL⟩:=mu (by_:=1) kU (x:=.ao 1 l.length 0 1 1 1) (xs:=[[bF 0#8]]) (by simp[dj]) (by simp) (by omega) (by omega) (by simp; omega);have gM:cS bc=false:=by rw[r4 bL,ax]; rfl
   have fX:b0 1 l' bc cJ ((pw (k+1)).map b8) :=by rw[amd,List.map_append]; exact ag
   have kp:k<m:=by omega
   simp[bF] at h1;simp[Vd,h1];refine dM.cM ?_;simp[kp];exact⟨gM,cJ,fX⟩
 ·simp;exact⟨rfl,0,.ao 0 1 1 1 [.int .u8 128] _ rfl rfl rfl (by intro e aw; simp[pw] at aw; subst aw; rfl) (Nat.le_refl _) (Nat.le_refl _) rfl⟩
set_option maxHeartbeats 8000000 in
theorem anJ (h:d8) (b:List B) (aj:b.length<=100000000) :bT Tryz.prog GS 98 [.aV (h.l.map bA),cv (some b)] (.aV ((gv h b).1.l.map bA)) :=by
 refine cd Tryz.checked.mixed b2 ?_;apply bH RI aaO;unfold G6 MO;have CS:∀ A:List ae,A.length=8->A.take 8=A:=fun A cR=>List.take_of_length_le (by omega)
 have T7:∀ s:d8,(s.l.map bA).length=8:=fun s=>rfl
 obtain⟨Ef,uU⟩:∃ Ef,Ef=h.l.map bA:=⟨_,rfl⟩
 have agM:Ef.length=8:=by rw[uU]; rfl
 rw[<-uU];simp[agM];refine c0 (b.length / 64) (fun k ah l=>ah 1=cv (some b)/\ah 2=.ptr 0 0 8/\ah 4=.ptr 1 0 8/\ah 5=.int .i64 (64*k:Nat)/\∃ s f7,gv s (b.drop (64*k))=gv h b/\l=[.cells 8 (s.l.map bA),.cells 8 f7]/\f7.length=8) ?_ ?_
 ·rintro k ah l aF ⟨aY,a6,bI,bq,s,f7,au,rfl,ih⟩;obtain⟨ah,rfl⟩:=iJ aY a6 bI bq;clear aY a6 bI bq;unfold W1;obtain⟨a,aI⟩:∃ a,a=64*k:=⟨_,rfl⟩
  rw[<-aI] at au ⊢;obtain⟨bt,H4⟩:∃ bt,bt=64*(k+1) :=⟨_,rfl⟩
  rw[<-H4];obtain⟨A,cR⟩:∃ A,A=s.l.map bA:=⟨_,rfl⟩
  have js:A.length=8:=by rw[cR]; rfl
  rw[<-cR];have bx:IntKind.i64.wrap ((a:Int)+64)=bt:=by rw[wrap_i64 (by omega) (by omega)]; omega
  by_cases dO:bt<=b.length
  ·have zo:(bt:Int)<=b.length:=by omega
   have e8:fu (.ao 1) (cv (some b)) (some (.int .i64 (a:Int))) (some (.int .i64 (bt:Int))) none=some (cv (some ((b.drop a).take 64))) :=by
    unfold cv; rw[aos (by omega) (by omega) (by omega)];have:(bt:Int).toNat - (a:Int).toNat=64:=by omega
    rw[this,Int.toNat_natCast]
   have fA:64<=((b.drop a).take 64).length:=by simp; omega
   have qe:=agG s _ fA;have rL:grind s ((b.drop a).take 64)=grind s (((b.drop a).take 64)) :=rfl;rw[<-cR] at qe;have cI:gv (grind s ((b.drop a).take 64)) (b.drop bt)=gv h b:=by
    rw[<-au,yq s (b.drop a) (by simp; omega),List.drop_drop];congr 2; omega
   have gh:k<b.length / 64:=by omega
   have wL:bV A=true:=by rw[cR]; exact kI bA (fun _=>rfl) _
   obtain⟨Ee,HQ⟩:∃ Ee,Ee=(grind s ((b.drop a).take 64)).l.map bA:=⟨_,rfl⟩
   have agP:Ee.length=8:=by rw[HQ]; rfl
   rw[<-HQ] at qe;simp[bx,dO,zo,js,CS A js,e8];refine bB qe (by simp[bV,ae.closed,wL,kJ]) ?_;simp[lN,js,agP,bx,gh];exact⟨_,cI,f7,⟨HQ,rfl⟩,ih⟩
  ·have zo:¬(bt:Int)<=b.length:=by omega
   have aw:=au;rw[A8 s (b.drop a) (by simp; omega)] at aw;rw[<-aw];have wL:bV A=true:=by rw[cR]; exact kI bA (fun _=>rfl) _
   simp[bx,dO,zo,js,CS A js,lN,ih];exact a7 (by rw[cR]) (by rw[cR] at wL; simp[ae.closed,wL])
 ·exact⟨rfl,rfl,rfl,rfl,h,rep 8 (.int .u32 0),rfl,by rw[uU]; rfl,rfl⟩
def qL (s:d8) (k:Nat) :List B:=(written s).take k++List.replicate (32 - k) 0#8
theorem al4 (s:d8) (k:Nat) (aF:k<=32) :(qL s k).length=32:=by
 unfold qL;have:=Eb s;simp; omega
theorem al5 (s:d8) (k:Nat) (x:B) (ak:(written s)[k]? = some x) :(qL s k).set k x=qL s (k+1) :=by
 have aF:k<32:=(List.getElem?_eq_some_iff.1 ak).1;unfold qL;have ar:(List.take k (written s)).length=k:=by have:=Eb s; simp; omega
 rw[List.set_append_right _ _ (by omega),ar,Nat.sub_self,List.take_add_one,ak,show 32 - k=(32 - (k+1))+1 by omega,List.replicate_succ,List.set_cons_zero];simp
theorem aqj (s:d8) (k:Nat) (aF:k<32) :∃ w,s.l[k / 4]? = some w/\(written s)[k]? = some ((w >>> (24 - 8*(k % 4))).setWidth 8) :=by
 have aO:∀ w:W,w=w >>> 0:=fun w=>by simp
 obtain⟨a,b,c,d,e,f,g,h⟩:=s;have:∀ (l:List W) (k:Nat),k<4*l.length->∃ w,l[k / 4]? = some w/\(l.map sB).flatten[k]? = some ((w >>> (24 - 8*(k % 4))).setWidth 8) :=by
  intro l
  induction l with
  | nil=>intro k aF; simp at aF
  | cons w l aM=>
   intro k aF
   match k,aF with
   | 0,_=>exact⟨w,rfl,rfl⟩
   | 1,_=>exact⟨w,rfl,rfl⟩
   | 2,_=>exact⟨w,rfl,rfl⟩
   | 3,_=>refine⟨w,rfl,?_⟩; simp[sB]
   | k+4,aF=>
    obtain⟨y,h1,ag⟩:=aM k (by simp at aF; omega);refine⟨y,?_,?_⟩
    ·rw[show (k+4) / 4=k / 4+1 by omega]; exact h1
    ·rw[show (k+4) % 4=k % 4 by omega]; exact ag
 exact this _ k (by simpa [d8.l] using aF)
set_option maxHeartbeats 8000000 in
theorem anS (s:d8) :bT Tryz.prog GS 97 [.aV (s.l.map bA)] (ff (written s)) :=by
 refine cd Tryz.checked.mixed b2 ?_;apply bH RH aaN;unfold G5 MN;obtain⟨A,cR⟩:∃ A,A=s.l.map bA:=⟨_,rfl⟩
 have js:A.length=8:=by rw[cR]; rfl
 rw[<-cR];simp[js];refine c0 32 (fun k ah l=>ah 1=.ptr 0 0 8/\ah 2=.ptr 1 0 32/\ah 3=.ptr 2 0 32/\ah 4=.int .i64 k/\∃ f7,l=[.cells 8 A,.cells 32 f7,.cells 32 ((qL s k).map bF)]/\f7.length=32) ?_ ?_
 ·rintro k ah l aF ⟨aY,a6,bi,bI,f7,rfl,ih⟩;obtain⟨ah,rfl⟩:=iJ aY a6 bi bI;clear aY a6 bi bI;unfold W0;by_cases It:(k:Int)<32
  ·have gh:k<32:=by omega
   have eC:IntKind.i64.wrap ((k:Int)+1)=(k+1:Nat) :=wrap_i64 (by omega) (by omega);have IY:=EN k 4 (by omega) (by omega);have o5:=A9 k 4 (by omega);rw[show ((4:Int).toNat)=4 from rfl] at IY o5;obtain⟨w,bx,ak⟩:=aqj s k gh;obtain⟨q,bp⟩:∃ q,q=k / 4:=⟨_,rfl⟩
   obtain⟨r,aD⟩:∃ r,r=k % 4:=⟨_,rfl⟩
   rw[<-bp] at IY bx;rw[<-aD] at o5 ak;have IX:q<8:=by omega
   obtain⟨vJ,UY⟩:∃ vJ,vJ=8*r:=⟨_,rfl⟩
   have Jk:IntKind.i64.wrap (8*(r:Int))=vJ:=by rw[wrap_i64 (by omega) (by omega)]; omega
   obtain⟨tW,ajc⟩:∃ tW,tW=24 - vJ:=⟨_,rfl⟩
   have ajA:IntKind.i64.wrap (24 - (vJ:Int))=tW:=by rw[wrap_i64 (by omega) (by omega)]; omega
   have ly:=al5 s k _ ak;rw[<-UY,<-ajc] at ak ly;have dQ:=al4 s k (by omega);have o6:=md bF (qL s k) k ((w >>> tW).setWidth 8) (by rw[dQ]; exact gh);rw[ly] at o6;obtain⟨O,e3⟩:∃ O,O=(qL s k).map bF:=⟨_,rfl⟩
   have p5:O.length=32:=by rw[e3,List.length_map,dQ]
   rw[<-e3] at o6 ⊢;have agQ:A[q]? = some (bA w) :=by rw[cR,List.getElem?_map,bx]; rfl
   obtain⟨agO,agR⟩:=List.getElem?_eq_some_iff.1 agQ;have ai7:q<=7:=by omega
   have ain:k<=31:=by omega
   have ai8:(q:Int)<8:=by omega
   simp[It,gh,eC,IY,o5,Jk,ajA,js,IX,agR,p5,o6,ih,ai7,ain,ai8]
  ·have ed:k=32:=by omega
   subst ed;have az:qL s 32=written s:=by unfold qL; rw[List.take_of_length_le (by rw[Eb]; omega)]; simp
   rw[az];obtain⟨O,e3⟩:∃ O,O=(written s).map bF:=⟨_,rfl⟩
   have p5:O.length=32:=by rw[e3,List.length_map,Eb]
   have ag2:bV O=true:=by rw[e3]; exact kI bF (fun _=>rfl) _
   have aW:O.take 32=O:=List.take_of_length_le (by omega);unfold ff;rw[<-e3];simp[p5,aW,lN,ih];exact a7 rfl (by simp[ae.closed,ag2])
 ·refine⟨rfl,rfl,rfl,rfl,_,rfl,rfl⟩
set_option maxHeartbeats 8000000 in
theorem MV (s:d7) (au:s.l.length<=1000000) :bT Tryz.prog GS 67 [cv s] (ff (g6 s.l)) :=by
 have jW:cQ=140737488355328:=rfl;refine cd Tryz.checked.mixed b2 ?_;apply bH Rg aal;unfold GF Mr;simp;refine bB agf rfl ?_;have alP:b0 1 ([bv.cells 32 (rep 32 (ae.int IntKind.u8 0))]++[bv.cells 0 []]) (.ao 1 1 0 0 0 0) 1 [] :=.ao 1 0 0 0 [] _ rfl rfl rfl (by simp) (Nat.le_refl _) (Nat.le_refl _) rfl;obtain⟨v,j,r,h1,ag,aq,aK⟩:=ym (by_:=1) alP (.inr (Nat.le_refl _)) (x:=cv s) (xs:=s.l.map b8) (by unfold cv; rw[Bq,List.length_map]) (by intro e aw; obtain⟨x,_,rfl⟩:=List.mem_map.1 aw; rfl) (by omega) (by omega) (by rw[jW]; simp; omega);have ax:cS v=false:=by rw[aK]; rfl
 simp only[List.nil_append,List.singleton_append] at h1 ag;have bw:db (.ao 1) (cv s)=some (.int .i64 s.l.length) :=oa _;have jX:=anQ s.l.length (by omega);have U7:(tail s.l.length).length<=80:=by rw[<-Nw]; exact DZ _ _
 obtain⟨bc,cJ,co,cc,ch,dz,f2⟩:=ym (by_:=1) (pre:=[bv.cells 32 (rep 32 (ae.int IntKind.u8 0))]) ag aq (x:=cv (some (tail s.l.length))) (xs:=(tail s.l.length).map b8) (by unfold cv; rw[Bq,List.length_map]; rfl) (by intro e aw; obtain⟨x,_,rfl⟩:=List.mem_map.1 aw; rfl) (by omega) (by omega) (by rw[jW]; simp; omega);have gM:cS bc=false:=by rw[f2,ax]; rfl
 rw[<-List.map_append] at ch;simp only[List.singleton_append] at cc ch;have l4:=ch.qV (fun _=>rfl) (some (s.l++tail s.l.length)) gM rfl;have fA:=anJ first (s.l++tail s.l.length) (by simp; omega)
 have zG:=anS (gv first (s.l++tail s.l.length)).1;have mX:g6 s.l=written (gv first (s.l++tail s.l.length)).1:=rfl;rw[<-mX] at zG;obtain⟨F,uW⟩:∃ F,F=(gv first (s.l++tail s.l.length)).1:=⟨_,rfl⟩
 rw[<-uW] at fA zG;simp[h1];refine dM.cM ?_;simp[bw];refine bB jX.x1 rfl ?_;simp[cc];refine dM.cM ?_;simp;refine jc fA (.cons (.same _ ?_) (.cons l4 .nil)) (SJ bA (fun _=>rfl) _) ?_
 ·simp[ae.closed,kI bA (fun _=>rfl)]
 simp;refine bB zG ?_ ?_
 ·simp[bV,ae.closed,kI bA (fun _=>rfl)]
 have e8:=ud s.l;simp[ff,e8,lN,List.take_of_length_le];exact a7 rfl (by simp[ae.closed,kI bF (fun _=>rfl)])
end g9
end Go.cj

namespace Go.cj
open Go Go.Proofs Go.RowKit
set_option maxRecDepth 100000
open g9
theorem acf {e:TypeId} (aL:Tryz.prog.underlying e=some (.int .u8)) :∀ (n:Nat) {ts:List TypeId} {cs:List ae},dq Tryz.prog (List.replicate n e++ts) cs->∃ (x:List B) (cs' : List ae),cs=x.map bF++cs'/\x.length=n/\dq Tryz.prog ts cs'
 | 0,ts,cs,h=>⟨[],cs,rfl,rfl,h⟩
 | n+1,ts,cs,h=>by
  obtain⟨k,uK,rfl,h1,ag,aq⟩:=AH aL h;obtain⟨x,gW,rfl,ak,aK⟩:=acf aL n aq;have bg:(0:Int)<=k:=h1;have bL:k<=255:=ag;refine⟨BitVec.ofNat 8 k.toNat::x,gW,?_,by simp[ak],aK⟩;have:((BitVec.ofNat 8 k.toNat).toNat:Int)=k:=by
   rw[BitVec.toNat_ofNat,Nat.mod_eq_of_lt (by omega)]; omega
  simp[bF,u]; omega
theorem aci {ts:List TypeId} {cs:List ae} (h:dq Tryz.prog (27::ts) cs) :∃ (x:BitVec 64) (cs' : List ae),cs=du x::cs'/\dq Tryz.prog ts cs':=by
 obtain⟨k,uK,rfl,h1,ag,aq⟩:=AH (k:=.u64) (by kernel_rfl) h;have bg:(0:Int)<=k:=h1;have bL:k<=18446744073709551615:=ag;refine⟨BitVec.ofNat 64 k.toNat,uK,?_,aq⟩;have:((BitVec.ofNat 64 k.toNat).toNat:Int)=k:=by
  rw[BitVec.toNat_ofNat,Nat.mod_eq_of_lt (by omega)]; omega
 simp[du,u]; omega
def JL:List Int:=g9.bQ.map fun k=>(k.toNat:Int)
theorem ao1:xZ=JL.map fun k=>.int .u32 k:=by unfold xZ JL; rw[List.map_map]; rfl
theorem ak2 {W:World} (h:laidMetH Tryz.prog [("braid/digest.constants",Go.Proofs.YtboebmmklamaeaaGreatDoor.Rows.laid_braid_digest_constants)] W) :∀ g,eN W (fun _=>True) (GS g) (.pointer (some ⟨g,0,none⟩)) :=by
 intro g;unfold GS;split
 ·rename_i aj;have:=Nat.eq_of_beq_eq_true aj;subst this;rw[MakeChecks.laidMetH_plain _ _ _ (by kernel_rfl)] at h;obtain⟨cy,⟨cz,t0,lV,ash,eT,il,ah3,Jb,hz,Ie,_,_⟩,_,_⟩:=h;have a1:Tryz.prog.globalNamed "braid/digest.constants"=some 1:=by kernel_rfl
  have b3:(Tryz.prog.globals[1]?).map (·.type)=some 236:=by kernel_rfl
  obtain rfl:=Option.some.inj (a1.symm.trans ah3);obtain rfl:=Option.some.inj (b3.symm.trans Jb);rw[ao1];exact agu JL a1 hz (n:=64) (e:=25) (by kernel_rfl) (by kernel_rfl) (by kernel_rfl) Ie (by rfl)
 ·exact .bad _
end Go.cj

namespace Go.cj
open Go Go.Proofs
set_option maxRecDepth 100000
open g9
def A5:ae->Option B
 | .int .u8 (.ofNat n)=>match Nat.ble n 255 with | true=>some (BitVec.ofNat 8 n) | false=>none
 | _=>none
theorem adK {c:ae} {b:B} (h:A5 c=some b) :c=bF b:=by
 unfold A5 at h;split at h
 ·split at h
  ·rename_i n _ aH;have:=Nat.le_of_ble_eq_true aH;cases h;simp only[bF,u,BitVec.toNat_ofNat];congr 1;show (n:Int)=((n % 2 ^ 8:Nat) :Int)
   rw[Nat.mod_eq_of_lt (show n<2 ^ 8 by omega)]
  ·cases h
 ·cases h
def OV:List ae->Option (List B)
 | []=>some []
 | c::r=>match A5 c with
  | some b=>match OV r with | some l=>some (b::l) | none=>none
  | none=>none
def kt:ae->Option (List B)
 | .aV cs=>match OV cs with | some l=>(match Nat.beq l.length 32 with | true=>some l | false=>none) | none=>none
 | _=>none
def DM:List (List ae)->Option (List B)
 | []=>some []
 | [c] ::r=>match A5 c with
  | some b=>match DM r with | some l=>some (b::l) | none=>none
  | none=>none
 | _=>none
theorem abk:∀ {es:List (List ae)} {l:List B},DM es=some l->es=l.map b8
 | [],l,h=>by cases h; rfl
 | e::r,l,h=>by
  unfold DM at h;split at h
  ·rename_i a1; cases a1
  ·rename_i c co a1;cases a1;split at h
   ·rename_i b aj;split at h
    ·rename_i l' ar;cases h;rw[adK aj,abk ar]; rfl
    ·cases h
   ·cases h
  ·cases h
def ys:ae->Option d7
 | .aZ=>some none
 | .bW 1 es=>match DM es with | some l=>some (some l) | none=>none
 | _=>none
theorem EO {c:ae} {s:d7} (h:ys c=some s) :c=cv s:=by
 unfold ys at h;split at h
 ·cases h; rfl
 ·split at h
  ·rename_i l ar;cases h;rw[abk ar]; rfl
  ·cases h
 ·cases h
def abP:List ae->Option ae
 | [c]=>match ys c with
  | some s=>match Nat.ble s.l.length 10000 with | true=>some (.bP [ff (g6 s.l),.int .i64 0]) | false=>none
  | none=>none
 | _=>none
abbrev jM:FuncId × Bool × (List ae->Option ae) :=(73,false,abP)
theorem abR:rc Tryz.prog GS jM:=by
 intro args r h;refine⟨?_,fun h=>by cases h⟩;simp only[abP] at h;split at h
 ·split at h
  ·rename_i c s au;split at h
   ·rename_i aH;cases h;rw[EO au];exact abS s (Nat.le_of_ble_eq_true aH)
   ·cases h
  ·cases h
 ·cases h
def aa7:List ae->Option ae
 | [c]=>match ys c with
  | some s=>match Nat.ble s.l.length 1000000 with | true=>some (ff (g6 s.l)) | false=>none
  | none=>none
 | _=>none
abbrev As:FuncId × Bool × (List ae->Option ae) :=(67,false,aa7)
theorem DG:rc Tryz.prog GS As:=by
 intro args r h;refine⟨?_,fun h=>by cases h⟩;simp only[aa7] at h;split at h
 ·split at h
  ·rename_i c s au;split at h
   ·rename_i aH;cases h;rw[EO au];exact MV s (Nat.le_of_ble_eq_true aH)
   ·cases h
  ·cases h
 ·cases h
end Go.cj

namespace Go.cj
open Go Go.Proofs Go.Sort Go.Shelf
set_option maxRecDepth 100000
open g9
def cG:List B->List B->Int
 | [],[]=>0
 | [],_::_=>-1
 | _::_,[]=>1
 | a::kz,b::lH=>if a.toNat<b.toNat then -1 else if b.toNat<a.toNat then 1 else cG kz lH
theorem RY (a b:B) (kz lH:List B) :cG (a::kz) (b::lH)=if a.toNat<b.toNat then -1 else if b.toNat<a.toNat then 1 else cG kz lH:=rfl
theorem rr:∀ a:List B,cG a a=0
 | []=>rfl
 | a::kz=>by unfold cG; simp; exact rr kz
theorem Bo:∀ {a b:List B},cG a b=0->a=b
 | [],[],_=>rfl
 | [],_::_,h=>by simp[cG] at h
 | _::_,[],h=>by simp[cG] at h
 | a::kz,b::lH,h=>by
  unfold cG at h;split at h
  ·cases h
  ·split at h
   ·cases h
   ·have h1:a=b:=BitVec.eq_of_toNat_eq (by omega);rw[h1,Bo h]
theorem Bp:∀ a b:List B,cG b a=- cG a b
 | [],[]=>rfl
 | [],_::_=>rfl
 | _::_,[]=>rfl
 | a::kz,b::lH=>by
  unfold cG;by_cases h1:a.toNat<b.toNat
  ·simp[h1,show ¬ b.toNat<a.toNat by omega]
  ·by_cases ag:b.toNat<a.toNat
   ·simp[h1,ag]
   ·simp[h1,ag]; exact Bp kz lH
theorem RX:∀ a b:List B,cG a b=-1\/cG a b=0\/cG a b=1
 | [],[]=>by simp[cG]
 | [],_::_=>by simp[cG]
 | _::_,[]=>by simp[cG]
 | a::kz,b::lH=>by
  unfold cG;split
  ·simp
  ·split
   ·simp
   ·exact RX kz lH
theorem yF:∀ a b c:List B,cG a b<0->cG b c<0->cG a c<0
 | [],[],_,h,_=>by simp[cG] at h
 | [],_::_,[],_,h=>by simp[cG] at h
 | [],_::_,_::_,_,_=>by simp[cG]
 | _::_,[],_,h,_=>by simp[cG] at h
 | _::_,_::_,[],_,h=>by simp[cG] at h
 | a::kz,b::lH,c::anA,h1,ag=>by
  unfold cG at h1 ag ⊢;have aM:=yF kz lH anA
  repeat' split at h1
  all_goals repeat' split at ag
  all_goals repeat' split
  all_goals first | omega | (exact aM h1 ag) | (exfalso; omega) | skip
theorem aff {a b:List B} (k:Nat) (h:∀ j,j<k->a[j]? = b[j]?) (aI:k<=a.length) (aj:k<=b.length) :cG (a.drop k) (b.drop k)=cG a b:=by
 induction k with
 | zero=>simp
 | succ k aM=>
  rw[<-aM (fun j am=>h j (by omega)) (by omega) (by omega)];have h1:=h k (by omega);rw[List.drop_eq_getElem_cons (l:=a) (i:=k) (by omega),List.drop_eq_getElem_cons (l:=b) (i:=k) (by omega)];rw[List.getElem?_eq_getElem (by omega),List.getElem?_eq_getElem (by omega)] at h1;have ag:=Option.some.inj h1
  conv=>rhs; unfold cG
  rw[ag];simp
end Go.cj

namespace Go.cj
open Go Go.Proofs
set_option maxRecDepth 100000
namespace Op
open g9
abbrev Q:=BitVec 64
abbrev D:=BitVec 32
theorem NI:(u (1#64) :Int)=1:=rfl
def d9 (x:D) :List ae:=[bA x]
def pp (l:List D) :Q:=l.foldl (fun o x=>o*x.setWidth 64 % 1000000007#64) 1#64
theorem alv (l:List D) (k:Nat) (x:D) (h:l[k]? = some x) :pp (l.take (k+1))=pp (l.take k)*x.setWidth 64 % 1000000007#64:=by
 rw[List.take_add_one,h]; simp[pp,List.foldl_append]
theorem DH (x:Q) :cn .rem .u64 (u x) .u64 1000000007=some (.int .u64 (u (x % 1000000007#64))) :=wi x 1000000007#64 (by decide)
theorem J8 (l:List D) (ar:l.length<=1000) :bT Tryz.prog GS 191 [.int .u64 1000000007,cO 1 d9 (some l)] (bA ((pp l).setWidth 32)) :=by
 refine cd Tryz.checked.mixed b2 ?_;apply bH Qo Zs;unfold F1 LR;have bw:db (.ao 1) (cO 1 d9 (some l))=some (.int .i64 l.length) :=oa _;simp[bw];refine c0 l.length (fun k ah _=>ah 0=.int .u64 1000000007/\ah 5=du (pp (l.take k))/\ah 8=cO 1 d9 (some l)/\ah 9=.int .i64 l.length/\ah 10=.int .i64 k) ?_ (by simp[pp]; rfl);rintro k ah h aF ⟨cz,bq,dN,ib,eP⟩;obtain⟨ah,rfl⟩:=k6 cz bq dN ib eP;clear cz bq dN ib eP;unfold Wm;by_cases h:k<l.length
 ·obtain⟨x,ak,_⟩:=cg h;have c2:cU (.ao 1) (cO 1 d9 (some l)) (.int .i64 k)=some (.cp (d9 x) 0) :=by rw[pa]; simp[ak]
  have eC:IntKind.i64.wrap ((k:Int)+1)=(k+1:Nat) :=wrap_i64 (by omega) (by omega);have au:=alv l k x ak;simp[h,c2,d9,eC,DH];rw[<-au]
 ·have ed:k=l.length:=by omega
  subst ed;simp;exact a7 rfl rfl
def e0 (a n:Nat) :Nat:=a ^ n % 1000000007
theorem vG (a n:Nat) :e0 a n<1000000007:=Nat.mod_lt _ (by decide)
theorem XZ (a n:Nat) :e0 a n*e0 a n % 1000000007=e0 a (2*n) :=by
 unfold e0; rw[<-Nat.mul_mod,<-Nat.pow_add]; congr 2; omega
theorem XX (a n:Nat) :e0 a n*a % 1000000007=e0 a (n+1) :=by
 unfold e0; rw[Nat.mod_mul_mod,Nat.pow_succ]
def fP (a:D) (n:Nat) :D:=BitVec.ofNat 32 (e0 a.toNat n)
theorem px (a:D) (n:Nat) :(fP a n).toNat=e0 a.toNat n:=by
 have:=vG a.toNat n;unfold fP; rw[BitVec.toNat_ofNat]; exact Nat.mod_eq_of_lt (by omega)
theorem J7 (x y:D) (ak:x.toNat<1000000007) :(pp [x,y]).setWidth 32=BitVec.ofNat 32 (x.toNat*y.toNat % 1000000007) :=by
 apply BitVec.eq_of_toNat_eq;have aP:=y.isLt;have h1:x.toNat*y.toNat<1000000007*4294967296:=by
  calc x.toNat*y.toNat<=1000000007*y.toNat:=Nat.mul_le_mul_right _ (by omega)
   _<1000000007*4294967296:=Nat.mul_lt_mul_of_pos_left (by simpa using aP) (by decide)
 have ag:(1#64*x.setWidth 64 % 1000000007#64).toNat=x.toNat:=by
  rw[BitVec.one_mul,BitVec.toNat_umod,BitVec.toNat_setWidth];rw[Nat.mod_eq_of_lt (show x.toNat<2 ^ 64 by omega),show (1000000007#64).toNat=1000000007 from rfl,Nat.mod_eq_of_lt ak]
 simp only[pp,List.foldl_cons,List.foldl_nil,BitVec.toNat_setWidth,BitVec.toNat_umod,BitVec.toNat_mul,ag,BitVec.toNat_ofNat];rw[Nat.mod_eq_of_lt (show y.toNat<2 ^ 64 by omega),Nat.mod_eq_of_lt (show x.toNat*y.toNat<2 ^ 64 by omega),Nat.mod_eq_of_lt (show 1000000007<2 ^ 64 by decide)]
theorem alw (a:D) (n:Nat) :(pp [fP a n,fP a n]).setWidth 32=fP a (2*n) :=by
 rw[J7 _ _ (by rw[px]; exact vG _ _),px,XZ]; rfl
theorem mul_one (a:D) (n:Nat) :(pp [fP a n,a]).setWidth 32=fP a (n+1) :=by
 rw[J7 _ _ (by rw[px]; exact vG _ _),px,XX]; rfl
theorem Aq {l:av} {b:Nat} {x y:D} (h:l[b]? = some (.cells 2 [bA x,bA y])) :fc (bY l) (.ao 1 b 0 2 2 2) (cO 1 d9 (some [x,y])) :=by
 refine Ap (rest:=[]) (es:=[[bA x],[bA y]]) (by simpa using h) rfl (by simp) (by simp[bV,ae.closed])
theorem agl:iU Tryz.prog 196=true:=by kernel_rfl
theorem aoL {x:D} {l:av} {K:ae->av->Prop} (a8:∀ v rest,K v (.cells 1 [bA ((pp [x,x]).setWidth 32)] ::rest)) :dp Tryz.prog GS 196 [.ptr 0 0 1] (.cells 1 [bA x] ::l) (c:=⟨K⟩) :=by
 apply bH Qs Zw;unfold F5 LW;simp;refine jc (J8 [x,x] (by simp)) (.cons (.same _ rfl) (.cons (Aq (by simp)) .nil)) rfl ?_;simp;exact a8 _ _
theorem TC (n k:Nat) (aF:k<64) :n / 2 ^ (63 - k)=2*(n / 2 ^ (64 - k))+n / 2 ^ (63 - k) % 2:=by
 have:2 ^ (64 - k)=2 ^ (63 - k)*2:=by rw[<-Nat.pow_succ]; congr 1; omega
 rw[this,<-Nat.div_div_eq_div_mul]; omega
theorem Dy (a:D) (n:Q) :bT Tryz.prog GS 183 [bA a,du n] (bA (fP a n.toNat)) :=by
 refine cd Tryz.checked.mixed b2 ?_;apply bH Qe Zj;unfold FT LJ;simp;refine c0 64 (fun k ah l=>ah 0=bA a/\ah 1=du n/\ah 5=.ptr 0 0 1/\ah 6=.fn 196 [] [.ptr 0 0 1]/\ah 9=.int .i64 k/\∃ r,l=.cells 1 [bA (fP a (n.toNat / 2 ^ (64 - k)))] ::r) ?_ (by
  have:n.toNat / 2 ^ 64=0:=Nat.div_eq_of_lt n.isLt;simp[this,fP,e0]; rfl)
 rintro k ah l aF ⟨cz,aY,bq,cx,ib,r,rfl⟩;obtain⟨ah,rfl⟩:=k6 cz aY bq cx ib;clear cz aY bq cx ib;unfold Wg;by_cases h:(k:Int)<64
 ·have eC:IntKind.i64.wrap ((k:Int)+1)=(k+1:Nat) :=wrap_i64 (by omega) (by omega);have n5:IntKind.i64.wrap (63 - (k:Int))=((63 - k:Nat) :Int) :=by rw[wrap_i64 (by omega) (by omega)]; omega
  have aj:=TC n.toNat k (by omega);have mX:cn .shr .u64 (u n) .i64 ((63 - k:Nat) :Int)=some (.int .u64 (u (n >>> (63 - k)))) :=sP n .i64 (63 - k);have agK:64 - (k+1)=63 - k:=by omega
  simp[h,eC];refine⟨agl,?_⟩;simp;refine aoL fun v rest=>?_
  simp[n5,mX,alw];rw[agK];by_cases az:n.toNat / 2 ^ (63 - k) % 2=1
  ·have Ia:n >>> (63 - k) &&& 1#64=1#64:=by
    apply BitVec.eq_of_toNat_eq;rw[BitVec.toNat_and,BitVec.toNat_ushiftRight,Nat.shiftRight_eq_div_pow];show _ &&& 1=1;rw[Nat.and_one_is_mod,az]
   rw[az] at aj;have bp:fP a (2*(n.toNat / 2 ^ (64 - k))+1)=fP a (n.toNat / 2 ^ (63 - k)) :=by rw[<-aj]
   simp[Ia,NI];refine jc (J8 [fP a (2*(n.toNat / 2 ^ (64 - k))),a] (by simp)) (.cons (.same _ rfl) (.cons (Aq (by simp)) .nil)) rfl ?_;rw[mul_one,bp];simp[eC];omega
  ·have az:n.toNat / 2 ^ (63 - k) % 2=0:=by omega
   have Ia:n >>> (63 - k) &&& 1#64=0#64:=by
    apply BitVec.eq_of_toNat_eq;rw[BitVec.toNat_and,BitVec.toNat_ushiftRight,Nat.shiftRight_eq_div_pow];show _ &&& 1=0;rw[Nat.and_one_is_mod,az]
   rw[az,Nat.add_zero] at aj;simp[Ia,eC];rw[<-aj];exact⟨by omega,rfl⟩
 ·have ed:k=64:=by omega
  subst ed;simp;exact a7 rfl rfl
theorem KH (a b:Q) (aj:b≠0#64) :cn .quo .u64 (u a) .u64 (u b)=some (.int .u64 (u (a / b))) :=by
 have bK:(b.toNat:Int)≠0:=fun e=>aj (BitVec.eq_of_toNat_eq (by simpa using e))
 show (if IntKind.u64=IntKind.u64/\(b.toNat:Int)≠0 then some (ae.int .u64 (IntKind.u64.wrap ((a.toNat:Int).tdiv b.toNat))) else none)=_;rw[if_pos ⟨rfl,bK⟩,vV];congr 2;have:((a.toNat:Int).tdiv b.toNat)=((a.toNat / b.toNat:Nat) :Int) :=rfl;rw[this,BitVec.ofInt_natCast];congr 1;apply BitVec.eq_of_toNat_eq;rw[BitVec.toNat_ofNat,BitVec.toNat_udiv];exact Nat.mod_eq_of_lt (Nat.lt_of_le_of_lt (Nat.div_le_self _ _) a.isLt)
theorem X9 (x:Q) :cn .quo .u64 (u x) .u64 2=some (.int .u64 (u (x / 2#64))) :=KH x 2#64 (by decide)
theorem aa9 (x:Q) :cn .rem .u64 (u x) .u64 2=some (.int .u64 (u (x % 2#64))) :=wi x 2#64 (by decide)
theorem xx (x y:Q) (ak:x.toNat<4294967296) (aP:y.toNat<4294967296) :(x*y % 1000000007#64).toNat=x.toNat*y.toNat % 1000000007:=by
 have h1:x.toNat*y.toNat<18446744073709551616:=by
  calc x.toNat*y.toNat<=4294967295*y.toNat:=Nat.mul_le_mul_right _ (by omega)
   _<=4294967295*4294967295:=Nat.mul_le_mul_left _ (by omega)
   _<18446744073709551616:=by decide
 rw[BitVec.toNat_umod,BitVec.toNat_mul,Nat.mod_eq_of_lt (show x.toNat*y.toNat<2 ^ 64 by omega)]; rfl
theorem amw (o b m:Nat) (h:m % 2=1) :o*b % 1000000007*(b*b % 1000000007) ^ (m / 2) % 1000000007=o*b ^ m % 1000000007:=by
 have hm:m=2*(m / 2)+1:=by omega
 rw[Nat.mul_mod,Nat.mod_mod,Nat.pow_mod (b*b % 1000000007),Nat.mod_mod,<-Nat.pow_mod,<-Nat.mul_mod];congr 1;rw[Nat.mul_pow,Nat.mul_assoc,<-Nat.pow_add]
 conv=>rhs; rw[hm,Nat.pow_succ]
 rw[Nat.mul_comm b,show 2*(m / 2)=m / 2+m / 2 by omega]
theorem amv (o b m:Nat) (h:m % 2=0) :o*(b*b % 1000000007) ^ (m / 2) % 1000000007=o*b ^ m % 1000000007:=by
 have hm:m=2*(m / 2) :=by omega
 rw[Nat.mul_mod,Nat.pow_mod (b*b % 1000000007),Nat.mod_mod,<-Nat.pow_mod,<-Nat.mul_mod];congr 1;rw[Nat.mul_pow,<-Nat.pow_add]
 conv=>rhs; rw[hm]
 rw[show 2*(m / 2)=m / 2+m / 2 by omega]
theorem X1 (a n:Q) (aI:a.toNat<4294967296) :bT Tryz.prog GS 95 [du a,du n,.int .u64 1000000007] (du (BitVec.ofNat 64 (e0 a.toNat n.toNat))) :=by
 refine cd Tryz.checked.mixed b2 ?_;apply bH RF aaL;unfold G3 ML;simp;refine xu (fun m ah _=>∃ o b c:Q,c.toNat=m/\o.toNat<1000000007/\b.toNat<4294967296/\o.toNat*b.toNat ^ m % 1000000007=e0 a.toNat n.toNat/\ah 0=du b/\ah 1=du c/\ah 2=.int .u64 1000000007/\ah 7=du o) ?_ n.toNat _ _ ⟨1#64,a,n,rfl,by decide,aI,by simp[e0],by simp; rfl⟩;rintro m ah l ⟨o,b,c,al,az,aj,aG,cz,aY,a6,eb⟩;obtain⟨ah,rfl⟩:=iJ cz aY a6 eb;clear cz aY a6 eb;unfold WZ;have kr:(u c:Int)=(m:Int) :=by unfold u; rw[al]
 by_cases hm:m=0
 ·subst hm;have aO:c=0#64:=BitVec.eq_of_toNat_eq (by simpa using al);simp[aO];refine a7 ?_ rfl;rw[Nat.pow_zero,Nat.mul_one,Nat.mod_eq_of_lt az] at aG;rw[<-aG,BitVec.ofNat_toNat,BitVec.setWidth_eq]
 ·have wQ:c≠0#64:=fun e=>hm (by rw[<-al,e]; rfl)
  have aS:(0:Int)<u c:=by rw[kr]; omega
  have T8:(c / 2#64).toNat=m / 2:=by rw[BitVec.toNat_udiv,al]; rfl
  have UA:(c % 2#64).toNat=m % 2:=by rw[BitVec.toNat_umod,al]; rfl
  have b4:(b*b % 1000000007#64).toNat<4294967296:=by
   rw[xx b b aj aj]; have:=Nat.mod_lt (b.toNat*b.toNat) (show 1000000007 > 0 by decide); omega
  by_cases UM:m % 2=1
  ·have h1:c % 2#64=1#64:=BitVec.eq_of_toNat_eq (by rw[UA,UM]; rfl);simp[aS,DH,X9,aa9,h1,NI];have eI:o.toNat<4294967296:=by omega
   refine⟨m / 2,by omega,_,_,_,T8,?_,b4,?_,rfl,rfl,rfl⟩
   ·rw[xx o b eI aj]; exact Nat.mod_lt _ (by decide)
   ·rw[xx o b eI aj,xx b b aj aj,amw _ _ _ UM,aG]
  ·have h1:c % 2#64=0#64:=BitVec.eq_of_toNat_eq (by rw[UA]; simp; omega);simp[aS,DH,X9,aa9,h1,NI];refine⟨m / 2,by omega,_,_,_,T8,az,b4,?_,rfl,rfl,rfl⟩;rw[xx b b aj aj,amv _ _ _ (by omega),aG]
def fk (a:D) :Bool:=decide (0<a.toNat)&&decide (a.toNat<1000000007)&&decide (e0 a.toNat 500000003=1)
theorem JB (a:D) :bT Tryz.prog GS 151 [bA a] (.bool (fk a)) :=by
 refine cd Tryz.checked.mixed b2 ?_;apply bH PN YS;unfold Fs Li fk;have h1:((0:Int)<u a)<->0<a.toNat:=by unfold u; omega
 have ag:(u a<(1000000007:Int))<->a.toNat<1000000007:=by unfold u; omega
 by_cases aY:0<a.toNat
 ·by_cases a6:a.toNat<1000000007
  ·simp[h1,ag,aY,a6];refine bB (Dy a 500000003#64) rfl ?_;have aq:(u (fP a 500000003)=(1:Int))<->e0 a.toNat 500000003=1:=by unfold u; rw[px]; omega
   have aK:(500000003#64:Q).toNat=500000003:=rfl;rw[aK];simp[aq];exact a7 (by simp[aY,a6]) rfl
  ·simp[h1,ag,aY,a6];exact a7 rfl rfl
 ·simp[h1,aY];exact a7 rfl rfl
theorem aa6 (a:D) :bT Tryz.prog GS 64 [bA a] (.bool (fk a)) :=by
 refine cd Tryz.checked.mixed b2 ?_;apply bH Rc aai;unfold Gz Mo fk;have h1:((1:Int)<=u a)<->0<a.toNat:=by unfold u; omega
 have ag:(u a<(1000000007:Int))<->a.toNat<1000000007:=by unfold u; omega
 by_cases aY:0<a.toNat
 ·by_cases a6:a.toNat<1000000007
  ·simp[h1,ag,aY,a6];refine bB (X1 (a.setWidth 64) 500000003#64 (by rw[BitVec.toNat_setWidth]; omega)) rfl ?_;have bg:(a.setWidth 64:Q).toNat=a.toNat:=by rw[BitVec.toNat_setWidth]; omega
   have aK:(500000003#64:Q).toNat=500000003:=rfl;have bL:=vG a.toNat 500000003;have aq:(u (BitVec.ofNat 64 (e0 a.toNat 500000003))=(1:Int))<->e0 a.toNat 500000003=1:=by unfold u; rw[BitVec.toNat_ofNat,Nat.mod_eq_of_lt (by omega)]; omega
   rw[aK,bg];simp[aq];exact a7 (by simp[aY,a6]) rfl
  ·simp[h1,ag,aY,a6];exact a7 rfl rfl
 ·simp[h1,aY];exact a7 rfl rfl
def hO (a:D) :Bool:=decide (a.toNat<500000003)
theorem BC (a:D) :bT Tryz.prog GS 66 [bA a] (.bool (hO a)) :=by
 refine cd Tryz.checked.mixed b2 ?_;apply bH Rf aak;unfold GD Mq hO;have ag:(u (a.setWidth 64)<(500000003:Int))<->a.toNat<500000003:=by unfold u; rw[BitVec.toNat_setWidth]; omega
 simp[ag];exact a7 rfl rfl
@[simp] theorem ari (a b:List UInt8) :oG .eql a b=some (.bool (decide (a=b))) :=by
 by_cases h:a=b<;>simp[oG,h]
@[simp] theorem arl (a b:List UInt8) :oG .neq a b=some (.bool (!decide (a=b))) :=by
 by_cases h:a=b<;>simp[oG,h]
abbrev lW (s:List UInt8) (pos:Nat) :Nat × Nat:=Utf8.decode ⟨s.toArray⟩ pos
theorem S8 (s:List UInt8) (pos:Nat) (b:UInt8) (h:s[pos]? = some b) :(ByteArray.get! ⟨s.toArray⟩ pos)=b:=by
 show (s.toArray)[pos]! = b;obtain⟨h1,ag⟩:=List.getElem?_eq_some_iff.1 h;simp[h1,ag]
theorem afw {s:List UInt8} {pos:Nat} {b:UInt8} (h:s[pos]? = some b) (aj:b.toNat<128) :lW s pos=(b.toNat,1) :=by
 unfold lW;rw[Lib.decode_at,S8 s pos b h];unfold Lib.decodeN;rw[if_pos aj]
theorem afv {s:List UInt8} {pos:Nat} {b:UInt8} (h:s[pos]? = some b) (aj:128<=b.toNat) :128<=(lW s pos).1:=by
 unfold lW;rw[Lib.decode_at,S8 s pos b h];unfold Lib.decodeN;rw[if_neg (by omega)]
 repeat' split
 all_goals (simp only; omega)
theorem Sh (s:List UInt8) (pos:Nat) :1<=(lW s pos).2:=by
 unfold lW;rw[Lib.decode_at];unfold Lib.decodeN
 repeat' split
 all_goals simp only<;>omega
def jH (p:Nat->Bool) (s:List UInt8) :Nat->Nat->Int
 | 0,_=>-1
 | n+1,pos=>if pos<s.length then (if p (lW s pos).1 then (pos:Int) else jH p s n (pos+(lW s pos).2)) else -1
theorem JG (p:Nat->Bool) (s:List UInt8) :∀ (n pos:Nat),s.length - pos<=n->jH p s n pos=jH p s (s.length - pos) pos
 | 0,pos,h=>by rw[show s.length - pos=0 by omega]
 | n+1,pos,h=>by
  by_cases aG:pos<s.length
  ·have bx:=Sh s pos;rw[show s.length - pos=(s.length - pos - 1)+1 by omega];unfold jH;rw[if_pos aG,if_pos aG,JG p s n _ (by omega),JG p s (s.length - pos - 1) _ (by omega)]
  ·rw[show s.length - pos=0 by omega];unfold jH;rw[if_neg aG]
def lg (cP r:Nat) :Bool:=decide (r<cP)||decide (126<r)
def gl (cP:Nat) (b:UInt8) :Bool:=decide (cP<=b.toNat)&&decide (b.toNat<=126)
theorem JF (cP:Nat) (dy:cP<=128) (s:List UInt8) :∀ (n pos:Nat),s.length - pos<=n->(jH (lg cP) s n pos<0<->(s.drop pos).all (gl cP)=true)
 | 0,pos,h=>by
  rw[List.drop_eq_nil_of_le (by omega)];simp[jH]
 | n+1,pos,h=>by
  unfold jH;by_cases aG:pos<s.length
  ·rw[if_pos aG,List.drop_eq_getElem_cons aG,List.all_cons];have ez:s[pos]? = some s[pos] :=List.getElem?_eq_getElem aG;obtain⟨b,aj⟩:∃ b,b=s[pos] :=⟨_,rfl⟩
   rw[<-aj] at ez ⊢;by_cases au:b.toNat<128
   ·rw[afw ez au];simp only;have dP:gl cP b=!lg cP b.toNat:=by
     unfold gl lg;by_cases h1:b.toNat<cP<;>by_cases ag:126<b.toNat<;>simp[h1,ag]<;>omega
    cases oN:lg cP b.toNat with
    | true=>rw[dP,oN]; simp
    | false=>
     rw[dP,oN];simp only[Bool.false_eq_true,if_false,Bool.not_false,Bool.true_and];exact JF cP dy s n (pos+1) (by omega)
   ·have ay:=afv ez (by omega);have oN:lg cP (lW s pos).1=true:=by unfold lg; simp; omega
    have dP:gl cP b=false:=by unfold gl; simp; omega
    rw[oN,dP]; simp
  ·rw[if_neg aG,List.drop_eq_nil_of_le (by omega)];simp
theorem alB {s:List UInt8} {pos:Nat} {r:av} (h:pos<s.length) :sg (.iter s pos::r) (.it 0)=some (.bP [.bool true,.int .i64 pos,.int .i32 (lW s pos).1],.iter s (pos+(lW s pos).2) ::r) :=by
 unfold sg;simp only[List.getElem?_cons_zero];rw[show Nat.blt pos s.length=true from Nat.ble_eq_true_of_le h];rfl
theorem alA {s:List UInt8} {pos:Nat} {r:av} (h:¬ pos<s.length) :sg (.iter s pos::r) (.it 0)=some (.bP [.bool false],.iter s pos::r) :=by
 unfold sg;simp only[List.getElem?_cons_zero];rw[show Nat.blt pos s.length=false by cases aj:Nat.blt pos s.length with | false=>rfl | true=>exact absurd (Nat.le_of_ble_eq_true aj) h]
theorem ajM {g:FuncId} {p:Nat->Bool} (ay:iU Tryz.prog g=true) (aG:∀ r:Nat,bT Tryz.prog GS g [.int .i32 r] (.bool (p r))) (s:List UInt8) :
  bT Tryz.prog GS 162 [.str s,.fn g [] [],.bool true] (.int .i64 (jH p s s.length 0)) :=by
 refine cd Tryz.checked.mixed b2 ?_;apply bH PX Y2;unfold FC Ls;simp[xN];refine xu (fun m ah l=>∃ pos,s.length - pos=m/\jH p s m pos=jH p s s.length 0/\ah 1=.fn g [] []/\ah 2=.bool true/\ah 10=.it 0/\l=[.iter s pos]) ?_ s.length _ _ ⟨0,by simp⟩;rintro m ah l ⟨pos,hm,aA,aY,a6,eP,rfl⟩;obtain⟨ah,rfl⟩:=k5 aY a6 eP;clear aY a6 eP;unfold We;by_cases h:pos<s.length
 ·have fr:m=(m - 1)+1:=by omega
  have bx:=Sh s pos;obtain⟨R,jS⟩:∃ R,R=jH p s s.length 0:=⟨_,rfl⟩
  rw[<-jS] at aA ⊢;rw[fr] at aA;unfold jH at aA;rw[if_pos h] at aA;simp[alB h];refine⟨ay,bB (aG _) rfl ?_⟩;cases aj:p (lW s pos).1 with
  | true=>
   rw[aj] at aA;simp;exact a7 (by rw[<-aA]; simp) rfl
  | false=>
   rw[aj] at aA;simp;refine⟨s.length - (pos+(lW s pos).2),by omega,pos+(lW s pos).2,rfl,?_,by simp,by simp,by simp,by simp⟩;rw[<-aA];simp only[Bool.false_eq_true,if_false];rw[JG p s (m - 1) _ (by omega)]
 ·have ig:m=0:=by omega
  subst ig;simp[alA h];exact a7 (by rw[<-aA]; rfl) rfl
theorem abN {g:FuncId} {p:Nat->Bool} (ay:iU Tryz.prog g=true) (aG:∀ r:Nat,bT Tryz.prog GS g [.int .i32 r] (.bool (p r))) (s:List UInt8) :
  bT Tryz.prog GS 115 [.str s,.fn g [] []] (.int .i64 (jH p s s.length 0)) :=by
 refine cd Tryz.checked.mixed b2 ?_;apply bH Pj Yo;unfold E1 KS;simp;refine bB (ajM ay aG s) rfl ?_;simp;exact a7 rfl rfl
theorem akr (r:Nat) :bT Tryz.prog GS 116 [.int .i32 r] (.bool (lg 33 r)) :=by
 refine cd Tryz.checked.mixed b2 ?_;apply bH Pk Yp;unfold E2 KT lg;have h1:((r:Int)<33)<->r<33:=by omega
 have ag:((126:Int)<r)<->126<r:=by omega
 by_cases h:r<33
 ·simp[h1,h];exact a7 rfl rfl
 ·simp[h1,h,ag];exact a7 rfl rfl
theorem ao4 (r:Nat) :bT Tryz.prog GS 164 [.int .i32 r] (.bool (lg 32 r)) :=by
 refine cd Tryz.checked.mixed b2 ?_;apply bH PZ Y4;unfold FE Lu lg;have h1:((r:Int)<32)<->r<32:=by omega
 have ag:((126:Int)<r)<->126<r:=by omega
 by_cases h:r<32
 ·simp[h1,h];exact a7 rfl rfl
 ·simp[h1,h,ag];exact a7 rfl rfl
theorem agi:iU Tryz.prog 116=true:=by kernel_rfl
theorem agm:iU Tryz.prog 164=true:=by kernel_rfl
def gk (s:List UInt8) :Bool:=decide (1<=s.length)&&decide (s.length<=20)&&s.all (gl 33)
theorem JN (s:List UInt8) :bT Tryz.prog GS 82 [.str s] (.bool (gk s)) :=by
 refine cd Tryz.checked.mixed b2 ?_;apply bH Rs aax;unfold GQ MB gk;have h1:((1:Int)<=s.length)<->1<=s.length:=by omega
 have ag:((s.length:Int)<=20)<->s.length<=20:=by omega
 by_cases aY:1<=s.length
 ·by_cases a6:s.length<=20
  ·simp[h1,ag,aY,a6];refine bB (abN agi akr s) rfl ?_;have:=JF 33 (by omega) s s.length 0 (by omega);rw[List.drop_zero] at this;have aq:decide (jH (lg 33) s s.length 0<0)=s.all (gl 33) :=by
    cases aj:s.all (gl 33) with
    | true=>simpa using this.2 aj
    | false=>
     have:¬ jH (lg 33) s s.length 0<0:=fun h=>by rw[this.1 h] at aj; cases aj
     simpa using this
   simp;rw[aq];exact a7 (by simp[aY,a6]) rfl
  ·simp[h1,ag,aY,a6];exact a7 (by simp[aY,a6]) rfl
 ·simp[h1,aY];exact a7 (by simp[aY]) rfl
theorem Om {s:List UInt8} {p:UInt8->Bool} {k:Nat} {b:UInt8} (h:s[k]? = some b) :(s.take (k+1)).all p=((s.take k).all p&&p b) :=by
 rw[List.take_add_one,h]; simp[List.all_append]
theorem A1 {s:List UInt8} {p:UInt8->Bool} {k:Nat} {b:UInt8} (h:s[k]? = some b) (aG:p b=false) :s.all p=false:=by
 rw[List.all_eq_false];exact⟨b,List.mem_of_getElem? h,by simp[aG]⟩
theorem J9 (s:List UInt8) :bT Tryz.prog GS 51 [.str s] (.bool (gk s)) :=by
 refine cd Tryz.checked.mixed b2 ?_;apply bH QZ Z3;unfold Gs Mh;have h1:((s.length:Int)<1)<->¬ 1<=s.length:=by omega
 have ag:((20:Int)<s.length)<->¬ s.length<=20:=by omega
 by_cases aY:1<=s.length
 ·by_cases a6:s.length<=20
  ·simp[h1,ag,aY,a6];refine c0 s.length (fun k ah _=>ah 0=.str s/\ah 3=.int .i64 k/\(s.take k).all (gl 33)=true) ?_ (by simp);rintro k ah l aF ⟨gL,dD,eS⟩;obtain⟨ah,rfl⟩:=ov gL dD;clear gL dD;unfold WD;by_cases h:k<s.length
   ·obtain⟨b,aj,_⟩:=cg h;have eC:IntKind.i64.wrap ((k:Int)+1)=(k+1:Nat) :=wrap_i64 (by omega) (by omega);have dV:((b.toNat:Int)<33)<->¬ 33<=b.toNat:=by omega
    have dK:((126:Int)<b.toNat)<->¬ b.toNat<=126:=by omega
    have fC:vu (.str s) (.int .i64 k)=some (.int .u8 b.toNat) :=by simp[aj,hL]
    by_cases q1:33<=b.toNat
    ·by_cases im:b.toNat<=126
     ·have dP:gl 33 b=true:=by simp[gl,q1,im]
      simp[h,fC,dV,dK,q1,im,eC,Om aj,dP,-xq];simpa using eS
     ·have dP:gl 33 b=false:=by simp[gl,im]
      simp[h,fC,dV,dK,q1,im,-xq];exact a7 (by simp[gk,A1 aj dP]) rfl
    ·have dP:gl 33 b=false:=by simp[gl,q1]
     simp[h,fC,dV,q1,-xq];exact a7 (by simp[gk,A1 aj dP]) rfl
   ·have ed:k=s.length:=by omega
    subst ed;rw[List.take_length] at eS;simp;exact a7 (by simp only[gk,eS]; simp[aY,a6]) rfl
  ·simp[h1,ag,aY,a6];exact a7 (by simp[gk,a6]) rfl
 ·simp[h1,aY];exact a7 (by simp[gk,aY]) rfl
theorem amn (s:List UInt8) (ar:s.length<=1000000000) :bT Tryz.prog GS 138 [.str s] (.bool (s.all (gl 32))) :=by
 refine cd Tryz.checked.mixed b2 ?_;apply bH Pz YE;unfold Fh K7;simp;refine c0 s.length (fun k ah _=>ah 0=.str s/\ah 3=.int .i64 k/\(s.take k).all (gl 32)=true) ?_ (by simp);rintro k ah l aF ⟨gL,dD,eS⟩;obtain⟨ah,rfl⟩:=ov gL dD;clear gL dD;unfold VY;by_cases h:k<s.length
 ·obtain⟨b,aj,_⟩:=cg h;have eC:IntKind.i64.wrap ((k:Int)+1)=(k+1:Nat) :=wrap_i64 (by omega) (by omega);have dV:((b.toNat:Int)<32)<->¬ 32<=b.toNat:=by omega
  have dK:((126:Int)<b.toNat)<->¬ b.toNat<=126:=by omega
  have fC:vu (.str s) (.int .i64 k)=some (.int .u8 b.toNat) :=by simp[aj,hL]
  by_cases q1:32<=b.toNat
  ·by_cases im:b.toNat<=126
   ·have dP:gl 32 b=true:=by simp[gl,q1,im]
    simp[h,fC,dV,dK,q1,im,eC,Om aj,dP,-xq];simpa using eS
   ·have dP:gl 32 b=false:=by simp[gl,im]
    simp[h,fC,dV,dK,q1,im,-xq];exact a7 (by simp only[A1 aj dP]) rfl
  ·have dP:gl 32 b=false:=by simp[gl,q1]
   simp[h,fC,dV,q1,-xq];exact a7 (by simp only[A1 aj dP]) rfl
 ·have ed:k=s.length:=by omega
  subst ed;rw[List.take_length] at eS;simp;exact a7 (by simp only[eS]) rfl
end Op
end Go.cj

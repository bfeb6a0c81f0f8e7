/-
  SHA-256, as lists of words and bytes; the words of a block.
-/
import Derived.Test.YtboebmmklamaeaaGreatDoorVh
import Derived.LaidMore
import Derived.MakeChecks
import Derived.Lib.DecodeN
set_option linter.unusedVariables false
set_option linter.unusedSimpArgs false
set_option linter.unnecessarySimpa false
namespace Go.cn
open Go
namespace hA
abbrev W:=BitVec 32
abbrev B:=BitVec 8
def mi (x:W) (n:Nat) :W:=(x >>> n) ||| (x <<< (32 - n))
def nW (l:List B) :W:=l.foldl (fun a x=>(a <<< 8) ||| x.setWidth 32) 0#32
def part (b:List B) (k t:Nat) :W:=nW (((b.take k).drop (4*t)).take 4)
def e6 (b:List B) :List W:=(List.range 16).map fun t=>nW ((b.drop (4*t)).take 4)
def ext (w:List W) :W:=
 let t:=w.length
 let x:=w.getD (t - 15) 0#32
 let y:=w.getD (t - 2) 0#32
 w.getD (t - 16) 0#32+w.getD (t - 7) 0#32+(mi x 7 ^^^ mi x 18 ^^^ (x >>> 3))+(mi y 17 ^^^ mi y 19 ^^^ (y >>> 10))
def hR:Nat->List W->List W
 | 0,w=>w
 | n+1,w=>hR n (w++[ext w])
def ff (b:List B) :List W:=hR 48 (e6 b)
def K7 (x:W) (i j k:Nat) :W:=mi x i ^^^ mi x j ^^^ mi x k
structure eE where
 (a b c d e f g h:W)
def round (s:eE) (k w:W) :eE:=
 let p:=s.h+K7 s.e 6 11 25+((s.e &&& s.f) ^^^ (~~~s.e &&& s.g))+k+w
 let q:=K7 s.a 2 13 22+((s.a &&& s.b) ^^^ (s.a &&& s.c) ^^^ (s.b &&& s.c))
 ⟨p+q,s.a,s.b,s.c,s.d+p,s.e,s.f,s.g⟩
def rounds:eE->List W->List W->eE
 | s,k::bV,w::gC=>rounds (round s k w) bV gC
 | s,_,_=>s
def table:List Nat:=[0x428a2f98,0x71374491,0xb5c0fbcf,0xe9b5dba5,0x3956c25b,0x59f111f1,0x923f82a4,0xab1c5ed5,0xd807aa98,0x12835b01,0x243185be,0x550c7dc3,0x72be5d74,0x80deb1fe,0x9bdc06a7,0xc19bf174,0xe49b69c1,0xefbe4786,0x0fc19dc6,0x240ca1cc,0x2de92c6f,0x4a7484aa,0x5cb0a9dc,0x76f988da,0x983e5152,0xa831c66d,0xb00327c8,0xbf597fc7,0xc6e00bf3,0xd5a79147,0x06ca6351,0x14292967,0x27b70a85,0x2e1b2138,0x4d2c6dfc,0x53380d13,0x650a7354,0x766a0abb,0x81c2c92e,0x92722c85,0xa2bfe8a1,0xa81a664b,0xc24b8b70,0xc76c51a3,0xd192e819,0xd6990624,0xf40e3585,0x106aa070,0x19a4c116,0x1e376c08,0x2748774c,0x34b0bcb5,0x391c0cb3,0x4ed8aa4a,0x5b9cca4f,0x682e6ff3,0x748f82ee,0x78a5636f,0x84c87814,0x8cc70208,0x90befffa,0xa4506ceb,0xbef9a3f7,0xc67178f2]
def bV:List W:=table.map (BitVec.ofNat 32)
def grind (h:eE) (b:List B) :eE:=
 let v:=rounds h bV (ff b)
 ⟨h.a+v.a,h.b+v.b,h.c+v.c,h.d+v.d,h.e+v.e,h.f+v.f,h.g+v.g,h.h+v.h⟩
def Fz:Nat->eE->List B->eE × List B
 | 0,h,b=>(h,b)
 | n+1,h,b=>if 64<=b.length then Fz n (grind h (b.take 64)) (b.drop 64) else (h,b)
def gV (h:eE) (b:List B) :eE × List B:=Fz (b.length / 64) h b
def first:eE:=⟨0x6a09e667#32,0xbb67ae85#32,0x3c6ef372#32,0xa54ff53a#32,0x510e527f#32,0x9b05688c#32,0x1f83d9ab#32,0x5be0cd19#32⟩
def zg (n:BitVec 64) :List B:=[(n >>> 56).setWidth 8,(n >>> 48).setWidth 8,(n >>> 40).setWidth 8,(n >>> 32).setWidth 8,(n >>> 24).setWidth 8,(n >>> 16).setWidth 8,(n >>> 8).setWidth 8,(n >>> 0).setWidth 8]
def tail (n:Nat) :List B:=128#8::List.replicate ((119 - n % 64) % 64) 0#8++zg (BitVec.ofNat 64 n*8#64)
def s5 (w:W) :List B:=[(w >>> 24).setWidth 8,(w >>> 16).setWidth 8,(w >>> 8).setWidth 8,w.setWidth 8]
def eE.l (s:eE) :List W:=[s.a,s.b,s.c,s.d,s.e,s.f,s.g,s.h]
def written (s:eE) :List B:=(s.l.map s5).flatten
def hy (b:List B) :List B:=written (gV first (b++tail b.length)).1
theorem aqG (l:List B) (x:B) :nW (l++[x])=(nW l <<< 8) ||| x.setWidth 32:=by simp[nW,List.foldl_append]
theorem vh:∀ (n:Nat) (w:List W),(hR n w).length=w.length+n
 | 0,w=>rfl
 | n+1,w=>by rw[hR,vh n]; simp; omega
theorem Bs (b:List B) :(ff b).length=64:=by rw[ff,vh]; simp[e6]
theorem EU (s:eE) :(written s).length=32:=rfl
theorem sZ (b:List B) :(hy b).length=32:=rfl
theorem Ir:∀ (n:Nat) (w:List W),hR (n+1) w=hR n w++[ext (hR n w)]
 | 0,w=>rfl
 | n+1,w=>by rw[hR,Ir n (w++[ext w])]; rfl
theorem Ez (a:W) (x:B) :(a <<< 8) ||| x.setWidth 32=a*256#32+x.setWidth 32:=by
 apply BitVec.eq_of_toNat_eq;have aj:x.toNat<256:=x.isLt;have aG:=a.isLt;rw[BitVec.toNat_or,BitVec.toNat_shiftLeft,BitVec.toNat_add,BitVec.toNat_mul,BitVec.toNat_setWidth];have h1:x.toNat % 2 ^ 32=x.toNat:=Nat.mod_eq_of_lt (by omega);have ag:a.toNat <<< 8 % 2 ^ 32=(a.toNat % 2 ^ 24) <<< 8:=by rw[Nat.shiftLeft_eq,Nat.shiftLeft_eq]; omega
 have ap:=Nat.shiftLeft_add_eq_or_of_lt (b:=x.toNat) (i:=8) (by omega) (a.toNat % 2 ^ 24);rw[h1,ag,<-ap,Nat.shiftLeft_eq];have aJ:(256#32).toNat=256:=rfl;rw[aJ];omega
theorem zc (h:eE) (b:List B) (ai:64<=b.length) :gV h b=gV (grind h (b.take 64)) (b.drop 64) :=by
 have:b.length / 64=(b.drop 64).length / 64+1:=by simp; omega
 rw[gV,this,Fz,if_pos ai];rfl
theorem BX (h:eE) (b:List B) (ai:b.length<64) :gV h b=(h,b) :=by
 rw[gV,Nat.div_eq_of_lt ai]; rfl
theorem aeL (h:eE) (b:List B) :(gV h b).2.length=b.length % 64:=by
 generalize aH:b.length=n
 induction n using Nat.strongRecOn generalizing h b with
 | _ n aL=>
  rcases Nat.lt_or_ge b.length 64 with h1 | h1
  ·rw[BX h b h1,Nat.mod_eq_of_lt (by omega)]; exact aH
  ·rw[zc h b h1,aL (b.length - 64) (by omega) _ (b.drop 64) (by simp)];omega
theorem P1 (h:eE) (a b:List B) :gV h (a++b)=gV (gV h a).1 ((gV h a).2++b) :=by
 generalize aH:a.length=n
 induction n using Nat.strongRecOn generalizing h a with
 | _ n aL=>
  rcases Nat.lt_or_ge a.length 64 with h1 | h1
  ·rw[BX h a h1]
  ·rw[zc h a h1,zc h (a++b) (by simp; omega),List.take_append_of_le_length h1,List.drop_append_of_le_length h1];exact aL (a.length - 64) (by omega) _ (a.drop 64) (by simp)
end hA
end Go.cn

namespace Go.cn
open Go Go.Proofs
def yI:List ae:=hA.bV.map bE
def GS:Nat->ae:=fun g=>match Nat.beq g 1 with | true=>.cq yI 0 | false=>.bad
theorem b2:∀ g,(GS g).closed=true:=by
 intro g;unfold GS;split
 ·exact kK bE (fun _=>rfl) _
 ·rfl
@[simp]
theorem aq4:GS 1=.cq yI 0:=id rfl
theorem apD (i:Nat) (h:i<64) :yI[i]? = some (bE (hA.bV.getD i 0#32)) :=by
 have au:hA.bV.length=64:=rfl;unfold yI;rw[List.getElem?_map,List.getD_eq_getElem?_getD,List.getElem?_eq_getElem (by omega)];rfl
end Go.cn

namespace Go.cn
open Go Go.Proofs
set_option maxRecDepth 100000
namespace hA
def Od (x:W) (k:Int) :W:=(x <<< (BitVec.ofInt 64 k &&& 31#64).toNat) ||| (x >>> (32#64 - (BitVec.ofInt 64 k &&& 31#64)).toNat)
theorem wr (x:W) (n:Nat) (aT:0<n) (h:n<32) :Od x (-(n:Int))=mi x n:=by
 have h1:∀ n:Fin 32,0<n.val->(BitVec.ofInt 64 (-(n.val:Int)) &&& 31#64)=BitVec.ofNat 64 (32 - n.val) :=by decide
 have ag:=h1 ⟨n,h⟩ aT;simp only at ag;unfold Od mi;rw[ag,BitVec.or_comm];congr 2
 ·have:∀ n:Fin 32,0<n.val->(32#64 - BitVec.ofNat 64 (32 - n.val)).toNat=n.val:=by decide
  exact this ⟨n,h⟩ aT
 ·have:∀ n:Fin 32,0<n.val->(BitVec.ofNat 64 (32 - n.val)).toNat=32 - n.val:=by decide
  exact this ⟨n,h⟩ aT
theorem wq (x:W) (k:Int) :bR Tryz.prog GS 203 [bE x,.int .i64 k] (bE (Od x k)) :=by
 refine cf Tryz.checked.mixed b2 ?_;apply bH RE aax;unfold G9 M6;simp;exact a1 rfl rfl
theorem Yb (x:W) (i j k:Nat) (aA:0<i/\i<32) (am:0<j/\j<32) (hk:0<k/\k<32) :bR Tryz.prog GS 200 [bE x,.int .i64 i,.int .i64 j,.int .i64 k] (bE (K7 x i j k)) :=by
 refine cf Tryz.checked.mixed b2 ?_;apply bH RB aau;unfold G6 M3;have aH:∀ n:Nat,n<32->IntKind.i64.wrap (-(n:Int))=-(n:Int) :=fun n aH=>wrap_i64 (by omega) (by omega)
 simp[aH i aA.2];refine bC (wq x _) rfl ?_;simp[aH j am.2];refine bC (wq x _) rfl ?_;simp[aH k hk.2];refine bC (wq x _) rfl ?_;simp[wr x _ aA.1 aA.2,wr x _ am.1 am.2,wr x _ hk.1 hk.2];exact a1 rfl rfl
def cd (x:B) :List ae:=[bI x]
abbrev eD:=dk B
abbrev cE (s:eD) :ae:=cO 1 cd s
theorem lh (s:eD) :(cE s).closed=true:=u7 (fun _=>rfl) s
def nX (b:List B) (k:Nat) :List W:=((List.range 16).map fun t=>nW (((b.take k).drop (4*t)).take 4))++List.replicate 48 0#32
theorem ads (b:List B) (k:Nat) :(nX b k).length=64:=by simp[nX]
theorem aqS (b:List B) :nX b 0=List.replicate 64 0#32:=by simp[nX,nW]; rfl
theorem O8 (b:List B) (k t:Nat) (aU:t<16) :(nX b k)[t]? = some (nW (((b.take k).drop (4*t)).take 4)) :=by
 unfold nX;rw[List.getElem?_append_left (by simpa using aU),List.getElem?_map,List.getElem?_range aU];rfl
theorem aqR (b:List B) (k:Nat) (hk:k<64) (ai:k<b.length) (x:B) (aj:b[k]? = some x) :
  (nX b k).set (k / 4) ((nW (((b.take k).drop (4*(k / 4))).take 4) <<< 8) ||| x.setWidth 32)=nX b (k+1) :=by
 apply List.ext_getElem?;intro t;rw[List.getElem?_set,ads];have Wc:b.take (k+1)=b.take k++[x] :=by rw[List.take_add_one,aj]; rfl
 have bA:(b.take k).length=k:=by simp; omega
 by_cases aU:t<16
 ·rw[O8 b _ t aU,O8 b _ t aU];by_cases h:k / 4=t
  ·rw[if_pos h,if_pos (by omega),<-aqG,Wc,h];congr 2;rw[List.drop_append_of_le_length (by omega)];obtain⟨A,c2⟩:∃ A,A=List.drop (4*t) (List.take k b) :=⟨_,rfl⟩
   have jR:A.length<4:=by rw[c2]; simp; omega
   rw[<-c2,List.take_of_length_le (by omega),List.take_of_length_le (by simp; omega)]
  ·rw[if_neg h,Wc];congr 2;rcases Nat.lt_or_ge k (4*t) with h1 | h1
   ·rw[List.drop_eq_nil_of_le (by omega),List.drop_eq_nil_of_le (by simp; omega)]
   ·rw[List.drop_append_of_le_length (by omega),List.take_append_of_le_length (by simp; omega)]
 ·rw[if_neg (by omega)];unfold nX;rw[List.getElem?_append_right (by simp; omega),List.getElem?_append_right (by simp; omega)];simp
theorem aqQ (b:List B) (ai:64<=b.length) :nX b 64=e6 b++List.replicate 48 0#32:=by
 unfold nX e6;congr 1;apply List.map_congr_left;intro t aU;have:=List.mem_range.1 aU;congr 1;rw[List.drop_take,List.take_take,Nat.min_eq_left (by omega)]
def oV (b:List B) (k:Nat) :List W:=hR k (e6 b)++List.replicate (48 - k) 0#32
theorem aoJ (b:List B) (k:Nat) (hk:k<=48) :(oV b k).length=64:=by simp[oV,vh,e6]; omega
theorem Ey (b:List B) (k i:Nat) (aA:i<16+k) :(oV b k)[i]? = some ((hR k (e6 b)).getD i 0#32) :=by
 unfold oV;have au:(hR k (e6 b)).length=16+k:=by simp[vh,e6]
 rw[List.getElem?_append_left (by omega),List.getD_eq_getElem?_getD,List.getElem?_eq_getElem (by omega)];rfl
theorem aoK (b:List B) (k:Nat) (hk:k<48) :(oV b k).set (16+k) (ext (hR k (e6 b)))=oV b (k+1) :=by
 have au:(hR k (e6 b)).length=16+k:=by simp[vh,e6]
 unfold oV;rw[List.set_append_right _ _ (by omega),au,Nat.sub_self,show 48 - k=(48 - (k+1))+1 by omega,List.replicate_succ,List.set_cons_zero,Ir];simp
set_option maxHeartbeats 4000000 in
theorem aoM (b:List B) (ai:64<=b.length) :bR Tryz.prog GS 199 [cE (some b)] (.aV ((ff b).map bE)) :=by
 refine cf Tryz.checked.mixed b2 ?_;apply bH Rz aas;unfold G3 M1;have eT:fQ (.ao 1) (cE (some b)) none (some (.int .i64 64)) none=some (cE (some (b.take 64))) :=by
  unfold cE; rw[ao2 (by omega) (by omega)]; rfl
 have pt:min 64 b.length=64:=by omega
 simp[eT,pt];refine c7 64 (fun k ah l=>ah 2=.ptr 0 0 64/\ah 11=cE (some (b.take 64))/\ah 12=.int .i64 64/\ah 13=.int .i64 k/\l=[.cells 64 ((nX b k).map bE)]) ?_ ?_
 ·rintro k ah l hk ⟨a2,h6,hC,kO,rfl⟩;obtain⟨ah,rfl⟩:=jg a2 h6 hC kO;clear a2 h6 hC kO;unfold Xj;simp;by_cases h:(k:Int)<64
  ·obtain⟨x,aj⟩:∃ x,b[k]? = some x:=⟨_,List.getElem?_eq_getElem (by omega)⟩
   have AA:(b.take 64)[k]? = some x:=by rw[List.getElem?_take_of_lt (by omega)]; exact aj
   have cV:cS (.ao 1) (cE (some (b.take 64))) (.int .i64 k)=some (.cq (cd x) 0) :=by simp[cE,pB,AA]
   obtain⟨q,xM⟩:∃ q,q=k / 4:=⟨_,rfl⟩
   have bp:cr .quo .i64 (k:Int) .i64 4=some (.int .i64 (q:Int)) :=by rw[xM]; exact FB k 4 (by omega) (by omega)
   have eW:IntKind.i64.wrap ((k:Int)+1)=k+1:=wrap_i64 (by omega) (by omega);have aP:(q:Int)<64:=by omega
   have az:=O8 b k q (by omega);have ar:=mR bE (nX b k) q (((nW (((b.take k).drop (4*q)).take 4) <<< 8) ||| x.setWidth 32)) (by rw[ads]; omega);rw[xM,aqR b k (by omega) (by omega) x aj,<-xM] at ar;have du:q+1<=64:=by omega
   simp[h,cV,cd,bp,aP,az,du,eW,ar];omega
  ·have vG:k=64:=by omega
   subst vG;simp;refine c7 48 (fun j ah l=>ah 2=.ptr 0 0 64/\ah 5=.int .i64 (16+j:Nat)/\l=[.cells 64 ((oV b j).map bE)]) ?_ ?_
   ·rintro j ah l am ⟨a2,bw,rfl⟩;obtain⟨ah,rfl⟩:=o3 a2 bw;clear a2 bw;unfold Xk;obtain⟨t,aU⟩:∃ t,t=16+j:=⟨_,rfl⟩
    rw[<-aU];simp;by_cases h:(t:Int)<64
    ·have js:IntKind.i64.wrap ((t:Int)+1)=(t+1:Nat) :=wrap_i64 (by omega) (by omega);have EP:IntKind.i64.wrap ((t:Int) - 15)=(t - 15:Nat) :=by rw[wrap_i64 (by omega) (by omega)]; omega
     have w2:IntKind.i64.wrap ((t:Int) - 2)=(t - 2:Nat) :=by rw[wrap_i64 (by omega) (by omega)]; omega
     have EQ:IntKind.i64.wrap ((t:Int) - 16)=(t - 16:Nat) :=by rw[wrap_i64 (by omega) (by omega)]; omega
     have BD:IntKind.i64.wrap ((t:Int) - 7)=(t - 7:Nat) :=by rw[wrap_i64 (by omega) (by omega)]; omega
     have au:(hR j (e6 b)).length=t:=by simp[vh,e6]; omega
     have xb:=Ey b j (t - 15) (by omega);have a2:=Ey b j (t - 2) (by omega);have tC:=Ey b j (t - 16) (by omega);have dx:=Ey b j (t - 7) (by omega);have ar:=mR bE (oV b j) t (ext (hR j (e6 b))) (by rw[aoJ b j (by omega)]; omega);rw[aU,aoK b j (by omega),<-aU] at ar;unfold ext at ar;rw[au] at ar
     dsimp only at ar
     obtain⟨uc,Ii⟩:∃ i,i=t - 15:=⟨_,rfl⟩
     obtain⟨eX,b4⟩:∃ i,i=t - 2:=⟨_,rfl⟩
     obtain⟨ud,Ci⟩:∃ i,i=t - 16:=⟨_,rfl⟩
     obtain⟨jv,Ik⟩:∃ i,i=t - 7:=⟨_,rfl⟩
     rw[<-Ii] at EP xb ar;rw[<-b4] at w2 a2 ar;rw[<-Ci] at EQ tC ar;rw[<-Ik] at BD dx ar;have Fq:(uc:Int)<64:=by omega
     have dU:(eX:Int)<64:=by omega
     have Fr:(ud:Int)<64:=by omega
     have rL:(jv:Int)<64:=by omega
     have du:t+1<=64:=by omega
     generalize (hR j (e6 b)).getD uc 0#32=x at xb ar;generalize (hR j (e6 b)).getD eX 0#32=y at a2 ar;generalize (hR j (e6 b)).getD ud 0#32=O9 at tC ar;generalize (hR j (e6 b)).getD jv 0#32=Pb at dx ar;have oT:=wr x 7 (by omega) (by omega);have yt:=wr x 18 (by omega) (by omega);have ys:=wr y 17 (by omega) (by omega);have yu:=wr y 19 (by omega) (by omega);simp at oT yt ys yu;simp[h,EP,w2,xb,a2,Fq,dU];refine bC (wq _ _) rfl ?_;simp;refine bC (wq _ _) rfl ?_;simp;refine bC (wq _ _) rfl ?_;simp;refine bC (wq _ _) rfl ?_;simp[oT,yt,ys,yu,EQ,BD,tC,dx,Fr,rL,h,ar,js,du];omega
    ·have ai2:j=48:=by omega
     have aj0:oV b 48=ff b:=by simp[oV,ff]
     subst ai2;have Ai:=Bs b;rw[aj0];simp[h,Ai,mn,List.take_of_length_le];exact a1 rfl (S3 bE (fun _=>rfl) _)
   ·simp[oV,hR,aqQ b ai]
 ·simp[aqS,ab4 _ 32]
theorem aqO (b:List B) (n:Nat) (aH:64<=n) :e6 (b.take n)=e6 b:=by
 unfold e6;apply List.map_congr_left;intro t aU;have:=List.mem_range.1 aU;congr 1;rw[List.drop_take,List.take_take,Nat.min_eq_left (by omega)]
theorem aoL (b:List B) (n:Nat) (aH:64<=n) :ff (b.take n)=ff b:=by unfold ff; rw[aqO b n aH]
theorem rounds_succ:∀ (k:Nat) (s:eE) (a b:List W) (x y:W),a[k]? = some x->b[k]? = some y->rounds s (a.take (k+1)) (b.take (k+1))=round (rounds s (a.take k) (b.take k)) x y
 | 0,s,a,b,x,y,aG,ai=>by
  cases a with
  | nil=>simp at aG
  | cons a Pw=>
   cases b with
   | nil=>simp at ai
   | cons b bs=>simp at aG ai; subst aG ai; simp[rounds]
 | k+1,s,a,b,x,y,aG,ai=>by
  cases a with
  | nil=>simp at aG
  | cons a Pw=>
   cases b with
   | nil=>simp at ai
   | cons b bs=>
    simp only[List.take_succ_cons,rounds];exact rounds_succ k _ Pw bs x y (by simpa using aG) (by simpa using ai)
def lD (h:eE) (b:List B) (k:Nat) :eE:=rounds h (bV.take k) ((ff b).take k)
theorem abN (h:eE) (b:List B) :lD h b 0=h:=rfl
theorem abM (h:eE) (b:List B) (k:Nat) (hk:k<64) :lD h b (k+1)=round (lD h b k) (bV.getD k 0#32) ((ff b).getD k 0#32) :=by
 have h1:bV.length=64:=rfl;have ag:=Bs b;refine rounds_succ k h bV (ff b) _ _ ?_ ?_
 ·rw[List.getD_eq_getElem?_getD,List.getElem?_eq_getElem (by omega)]; rfl
 ·rw[List.getD_eq_getElem?_getD,List.getElem?_eq_getElem (by omega)]; rfl
theorem abK (h:eE) (b:List B) :lD h b 64=rounds h bV (ff b) :=by
 have h1:bV.length=64:=rfl;have ag:=Bs b;unfold lD;rw[List.take_of_length_le (by omega),List.take_of_length_le (by omega)]
def hZ (a b:List W) (k:Nat) :List W:=(List.zipWith (·+·) a b).take k++a.drop k
theorem Pr (a b:List W) :hZ a b 0=a:=rfl
theorem Ff {a b:List W} (h:a.length=b.length) (k:Nat) :(hZ a b k).length=a.length:=by simp[hZ]; omega
theorem Pp {a b:List W} (h:a.length=b.length) {k:Nat} (hk:k<a.length) :(hZ a b k)[k]? = a[k]?:=by
 unfold hZ;rw[List.getElem?_append_right (by simp; omega)];have:(List.take k (List.zipWith (·+·) a b)).length=k:=by simp; omega
 rw[this,List.getElem?_drop]; simp
theorem Pq {a b:List W} (h:a.length=b.length) {k:Nat} {x y:W} (aj:a[k]? = some x) (aK:b[k]? = some y) :(hZ a b k).set k (x+y)=hZ a b (k+1) :=by
 have hk:=(List.getElem?_eq_some_iff.1 aj).1;unfold hZ;have au:(List.take k (List.zipWith (·+·) a b)).length=k:=by simp; omega
 have aB:(List.zipWith (·+·) a b)[k]? = some (x+y) :=by rw[List.getElem?_zipWith,aj,aK]
 rw[List.set_append_right _ _ (by omega),au,Nat.sub_self,List.drop_eq_getElem_cons hk,List.set_cons_zero,List.take_add_one,aB];simp
set_option maxHeartbeats 8000000 in
theorem ahl {h:eE} {b:List B} (ai:64<=b.length) {l:av} {bk sz:Nat} {rest:List ae} {x:ae} {K:ae->av->Prop} (au:l[bk]? = some (.cells sz (h.l.map bE++rest))) (g4:8<=sz) (aj:fy (b3 l) x (cE (some b)))
  (a8:∀ junk,K (.bU []) (l.set bk (.cells sz ((grind h b).l.map bE++rest))++junk)) :dh Tryz.prog GS 187 [.ptr bk 0 sz,x] l (c:=⟨K⟩) :=by
 apply bH Rn aag;unfold GN MQ;simp;refine iF (aoM b ai) (.cons aj .nil) (TL bE (fun _=>rfl) _) ?_;have aH:=e9 au;have eT:=Bs b;have hD:(l++[bt.cells 64 ((ff b).map bE)])[bk]? = some (.cells sz (h.l.map bE++rest)) :=by rw[List.getElem?_append_left aH]; exact au
 have az:∀ i (y:W),i<8->h.l[i]? = some y->(h.l.map bE++rest)[i]? = some (bE y) :=fun i y aA aK=>by
  rw[List.getElem?_append_left (by simpa [eE.l] using aA),List.getElem?_map,aK]; rfl
 have g7:=az 0 h.a (by omega) rfl;have q1:=az 1 h.b (by omega) rfl;have iZ:=az 2 h.c (by omega) rfl;have nO:=az 3 h.d (by omega) rfl;have Y0:=az 4 h.e (by omega) rfl;have LJ:=az 5 h.f (by omega) rfl;have yr:=az 6 h.g (by omega) rfl;have Y1:=az 7 h.h (by omega) rfl;simp[mn,eT,hD,g7,q1,iZ,nO,Y0,LJ,yr,Y1];refine c7 64 (fun k ah l'=>ah 0=.ptr bk 0 sz/\ah 4=.ptr l.length 0 64/\ah 5=bE (lD h b k).a/\ah 6=bE (lD h b k).b/\ah 7=bE (lD h b k).c/\ah 8=bE (lD h b k).d/\ah 9=bE (lD h b k).e/\ah 10=bE (lD h b k).f/\ah 11=bE (lD h b k).g/\ah 12=bE (lD h b k).h/\ah 52=.int .i64 k ∧
  l'=l++[.cells 64 ((ff b).map bE)]) ?_ ?_
 ·rintro k ah l' hk ⟨cC,bK,bw,cl,dx,ek,g0,fB,h6,hC,T6,rfl⟩;obtain⟨ah,rfl⟩:=ac9 cC bK bw cl dx ek g0 fB h6 hC T6;clear cC bK bw cl dx ek g0 fB h6 hC T6;unfold Xc;simp;by_cases eH:(k:Int)<64
  ·have eW:IntKind.i64.wrap ((k:Int)+1)=k+1:=wrap_i64 (by omega) (by omega);have gp:k<64:=by omega
   have aU:=apD k gp;have gq:(ff b)[k]? = some ((ff b).getD k 0#32) :=by rw[List.getD_eq_getElem?_getD,List.getElem?_eq_getElem (by omega)]; rfl
   rw[abM h b k gp];generalize (ff b).getD k 0#32=jI at *
   generalize bV.getD k 0#32=lA at *
   generalize lD h b k=s at *
   have jA:=Yb s.e 6 11 25 (by omega) (by omega) (by omega);have jc:=Yb s.a 2 13 22 (by omega) (by omega) (by omega);simp at jA jc;simp[eH,aU,gq];refine bC jA rfl ?_;simp[aU,gq];refine bC jc rfl ?_;simp[gp,eW];simp[round]
  ·have vG:k=64:=by omega
   subst vG;rw[abK];obtain⟨v,ax⟩:∃ v,rounds h bV (ff b)=v:=⟨_,rfl⟩
   rw[ax];have qH:grind h b=⟨h.a+v.a,h.b+v.b,h.c+v.c,h.d+v.d,h.e+v.e,h.f+v.f,h.g+v.g,h.h+v.h⟩:=by unfold grind; rw[ax]
   simp;have km:h.l.length=v.l.length:=rfl;have mG:h.l.length=8:=rfl;have Jn:(grind h b).l=hZ h.l v.l 8:=by rw[qH]; rfl
   rw[Jn] at a8;refine c7 8 (fun k ah l'=>ah 0=.ptr bk 0 sz/\ah 111=.aV (v.l.map bE)/\ah 112=.int .i64 k/\l'=l.set bk (.cells sz ((hZ h.l v.l k).map bE++rest))++[.cells 64 ((ff b).map bE)]) ?_ ?_
   ·rintro k ah l' hk ⟨cC,T1,T2,rfl⟩;obtain⟨ah,rfl⟩:=kD cC T1 T2;clear cC T1 T2;unfold Xd;simp;by_cases eH:(k:Int)<8
    ·have eW:IntKind.i64.wrap ((k:Int)+1)=k+1:=wrap_i64 (by omega) (by omega);have ht:k<8:=by omega
     obtain⟨y,aK⟩:∃ y,v.l[k]? = some y:=⟨_,List.getElem?_eq_getElem (show k<v.l.length from ht)⟩
     obtain⟨z,aB⟩:∃ z,h.l[k]? = some z:=⟨_,List.getElem?_eq_getElem (show k<h.l.length from ht)⟩
     have aG:=Pp km (k:=k) (by rw[mG]; exact ht);rw[aB] at aG;have gy:=Ff km k;have ar:=mR bE (hZ h.l v.l k) k (z+y) (by rw[gy,mG]; exact ht);rw[Pq km aB aK] at ar;have xD:((hZ h.l v.l k).map bE).length=8:=by rw[List.length_map,gy,mG]
     have ny:bS ((hZ h.l v.l k).map bE++rest) k [bE (z+y)]=(hZ h.l v.l (k+1)).map bE++rest:=by
      rw[<-ar];unfold bS;rw[List.take_append_of_le_length (by omega),List.drop_append_of_le_length (by simp; omega)];simp
     have sg:((hZ h.l v.l k).map bE++rest)[k]? = some (bE z) :=by rw[List.getElem?_append_left (by omega),List.getElem?_map,aG]; rfl
     have sk:(l.set bk (.cells sz ((hZ h.l v.l k).map bE++rest))++[bt.cells 64 ((ff b).map bE)])[bk]? = some (.cells sz ((hZ h.l v.l k).map bE++rest)) :=by
      rw[List.getElem?_append_left (by simpa using aH),List.getElem?_set]; simp[aH]
     have tR:k+1<=sz:=by omega
     simp[eH,aK,sg,sk,eW,ny,ht,tR,aH,List.set_append]
    ·have ht:k=8:=by omega
     subst ht;simp;exact a8 _
   ·have l8:l.set bk (.cells sz ((hZ h.l v.l 0).map bE++rest))=l:=by
     rw[Pr]; exact aoQ au
    rw[l8];simp[eE.l]
 ·simp[abN]
abbrev lS (cm:dk eD) :ae:=cO 1 (fun s=>[cE s]) cm
theorem S2 (cm:dk eD) :(lS cm).closed=true:=u7 (fun s=>by simp only[bM,lh,Bool.and_self]) cm
def bytesOf (cm:List eD) :List B:=(cm.map dk.l).flatten
theorem bytesOf_take (cm:List eD) (k:Nat) (s:eD) (h:cm[k]? = some s) :bytesOf (cm.take (k+1))=bytesOf (cm.take k)++s.l:=by
 unfold bytesOf;rw[List.take_add_one,h]; simp
theorem Qa (cm:List eD) (k:Nat) :(bytesOf (cm.take k)).length<=(bytesOf cm).length:=by
 conv=>rhs; rw[<-List.take_append_drop k cm]
 unfold bytesOf;rw[List.map_append,List.flatten_append,List.length_append];omega
theorem ahp {n:Nat} (aH:n<=1000000000) {l:av} {K:ae->av->Prop} (a8:∀ v j l',bX 1 l' v j []->l.length<=l'.length->(∀ b,b<l.length->l'[b]? = l[b]?)->(cU v=decide (n=0))->K v l') :dh Tryz.prog GS 155 [.aX,.int .i64 n] l (c:=⟨K⟩) :=by
 apply bH Gi Mr;unfold B3 Ej;have h1:¬((n:Int)<0) :=by omega
 have bB:IntKind.i64.wrap (n:Int)=n:=wrap_i64 (by omega) (by omega);have Kp:IntKind.i64.wrap (0:Int)=0:=rfl;by_cases aT:n=0
 ·subst aT;simp;exact a8 _ 0 _ (.nil 0) (Nat.le_refl _) (fun _ _=>rfl) rfl
 have ag:(0:Int)<n:=by omega
 have aB:pe l 1 1 [.int .u8 0] .aX (.int .i64 n)=some (.ao 1 l.length 0 n n (n*1),l++[.cells (n*1) (dm [.int .u8 0] n)]) :=by
  unfold pe h0;simp only[Int.toNat_natCast];have aC:cT=140737488355328:=rfl;rw[if_pos ⟨by omega,by omega,by rw[aC]; omega⟩,if_neg aT,if_neg (by omega),if_pos (by rw[aC]; omega)]
 have ar:fQ (.ao 1) (.ao 1 l.length 0 n n (n*1)) none (some (.int .i64 0)) none=some (.ao 1 l.length 0 0 n (n*1)) :=by
  rw[ws,FA,if_pos ⟨by omega,by omega⟩];simp[aT]
 rw[Nat.mul_one] at aB ar;have ap:0<n:=by omega
 simp[h1,ag,ap,bB,aB,Kp,ar];refine a8 _ l.length (l++[.cells n (dm [.int .u8 0] n)]) (.ao _ 0 n n (dm [.int .u8 0] n) [] (by simp) (by rw[yy]; simp) rfl (by simp) (by omega) (by omega) rfl) (by simp) (fun b ai=>List.getElem?_append_left ai) ?_;simp[cU,aT]
def wS (cm:List eD) :eD:=if bytesOf cm=[] then none else some (bytesOf cm)
theorem afC (cm:List eD) :(wS cm).l=bytesOf cm:=by unfold wS; split<;>simp_all
set_option maxHeartbeats 4000000 in
theorem afZ (cm:List eD) (au:(bytesOf cm).length<=1000000000) (Ak:cm.length<=1000000000) :iI Tryz.prog GS 109 [lS (some cm)] (cE (wS cm)) :=by
 refine Bc Tryz.checked.mixed b2 ?_;apply bH FL LU;unfold B2 Ei;simp;have cV:∀ (k:Nat) (s:eD),cm[k]? = some s->cS (.ao 1) (lS (some cm)) (.int .i64 k)=some (.cq [cE s] 0) :=fun k s ar=>by simp[lS,pB,ar]
 refine c7 cm.length (fun k ah l=>ah 0=lS (some cm)/\ah 9=lS (some cm)/\ah 10=.int .i64 cm.length/\ah 11=.int .i64 k/\ah 3=.int .i64 (bytesOf (cm.take k)).length/\l=[]) ?_ ?_
 ·rintro k ah l hk ⟨cC,g0,fB,h6,bh,rfl⟩;obtain⟨ah,rfl⟩:=k7 cC bh g0 fB h6;clear cC bh g0 fB h6;unfold KT;simp;by_cases h:k<cm.length
  ·obtain⟨s,ar,_⟩:=ck h;have ai:=bytesOf_take cm k s ar;have du:=Qa cm (k+1);rw[ai,List.length_append] at du;have bB:IntKind.i64.wrap (((bytesOf (cm.take k)).length:Int)+s.l.length)=((bytesOf (cm.take k)).length:Int)+s.l.length:=wrap_i64 (by omega) (by omega);have eW:IntKind.i64.wrap ((k:Int)+1)=k+1:=wrap_i64 (by omega) (by omega);have oC:¬(((bytesOf (cm.take k)).length:Int)+s.l.length<0) :=by omega
   simp[h,cV k s ar,bB,oC,eW,ai]
  ·have cZ:k=cm.length:=by omega
   subst cZ;simp;refine ahp au ?_;intro v j l ay bA _ i9;simp;refine c7 cm.length (fun k ah l=>ah 25=lS (some cm)/\ah 26=.int .i64 cm.length/\ah 27=.int .i64 k/\∃ v j,ah 6=v/\bX 1 l v j ((bytesOf (cm.take k)).map cd)/\cU v=decide (bytesOf cm=[])) ?_ ?_
   ·rintro k ah l hk ⟨kP,kQ,xd,v,j,cl,ay,i9⟩;obtain⟨ah,rfl⟩:=jg cl kP kQ xd;clear cl kP kQ xd;unfold KU;simp;by_cases h:k<cm.length
    ·obtain⟨s,ar,_⟩:=ck h;have ai:=bytesOf_take cm k s ar;have du:=Qa cm (k+1);rw[ai,List.length_append] at du;have eW:IntKind.i64.wrap ((k:Int)+1)=k+1:=wrap_i64 (by omega) (by omega);have aC:cT=140737488355328:=rfl;obtain⟨bf,ct,l',h1,ag,ap,aJ,bd,bL⟩:=m5 (by_:=1) ay (x:=cE s) (xs:=s.l.map cd) (by simp[cE]) (fun e aw=>by obtain⟨x,_,rfl⟩:=List.mem_map.1 aw; rfl) (by omega) (by omega) (by simp; omega);simp[h,cV k s ar,h1];refine dK.cM ?_;simp[h,eW];refine⟨⟨ct,by rw[ai,List.map_append]; exact ag⟩,?_⟩;rw[sC bL,i9];by_cases aw:bytesOf cm=[]
     ·have aT:(bytesOf cm).length=0:=by rw[aw]; rfl
      have:s.l=[] :=List.length_eq_zero_iff.1 (by omega);simp[aw,this]
     ·simp[aw]
    ·have cZ:k=cm.length:=by omega
     subst cZ;simp;rw[List.take_length] at ay;refine ay.Bi (fun _=>rfl) _ ?_ (afC cm);rw[i9];unfold wS;split<;>simp_all
   ·simp;refine⟨⟨j,by simpa [bytesOf] using ay⟩,?_⟩;rw[i9];simp[List.length_eq_zero_iff]
 ·simp[bytesOf]
theorem afN (s:dk B) :gc Tryz.prog .eql 117 (cO 1 cd s) .aX=some (.bool s.isNone) :=Fu (e:=5) (by kernel_rfl) 1 cd s
theorem afO {s:dk B} (ar:s.l.length<=1000000000) {l:av} {K:ae->av->Prop} (a8:∀ v j l',bX 1 l' v j (s.l.map cd)->l.length<=l'.length->(∀ b,b<l.length->l'[b]? = l[b]?)->(v=.aX\/l.length<=j)->cU v=s.isNone->K v l') :dh Tryz.prog GS 188 [cO 1 cd s] l (c:=⟨K⟩) :=by
 apply bH Ro aah;unfold GO MR;simp[afN];cases s with
 | none=>
  simp;exact a8 _ 0 _ (.nil 0) (Nat.le_refl _) (fun _ _=>rfl) (.inl rfl) rfl
 | some b=>
  simp;have aC:cT=140737488355328:=rfl;have l7:b.length<=1000000000:=ar;have ay:bX 1 (l++[bt.cells 0 []]) (.ao 1 l.length 0 0 0 0) l.length [] :=.ao l.length 0 0 0 [] [] (by simp) rfl rfl (by simp) (Nat.le_refl _) (by omega) rfl;obtain⟨bf,ct,l',h1,ag,ap,aJ,bd,bL⟩:=m5 (by_:=1) ay (x:=cO 1 cd (some b)) (xs:=b.map cd) (by simp) (fun e aw=>by obtain⟨x,_,rfl⟩:=List.mem_map.1 aw; rfl) (by omega) (by omega) (by simp; omega);simp[h1];refine dK.cM ?_;simp;have tE:l.length+1<=l'.length:=by simpa using ap
  refine a8 _ ct _ ag (by omega) (fun b ai=>?_) (.inr (by rcases bd with h | h<;>(try simp only[List.length_append,List.length_cons,List.length_nil] at h)<;>omega)) ?_
  ·rw[aJ b (by simp; omega) (by omega),List.getElem?_append_left ai]
  ·rw[sC bL]; rfl
structure rD where
 st:eE
 rest:eD
 n:Int
def gk (s:eE) (r:ae) (n:Int) :List ae:=s.l.map bE++[r,.int .i64 n]
def pi (m:rD) :ae:=.aV (gk m.st (cE m.rest) m.n)
def rU (m:rD) (b:eD) :rD:=
 let all:=m.rest.l++b.l
 ⟨(gV m.st all).1,if all=[] then none else some (gV m.st all).2,m.n+b.l.length⟩
theorem afD (a b:eD) :wS [a,b]=if a.l++b.l=[] then none else some (a.l++b.l) :=by
 have:bytesOf [a,b]=a.l++b.l:=by simp[bytesOf]
 unfold wS;rw[this]
theorem ahm (h:eE) (b:List B) :grind h (b.take 64)=grind h b:=by unfold grind; rw[aoL b 64 (by omega)]
theorem ur (s:eE) (r:ae) (n:Int) :(gk s r n).length=10:=rfl
set_option maxHeartbeats 8000000 in
theorem TB (m:rD) (b:eD) (au:m.rest.l.length+b.l.length<=1000000000) (aH:0<=m.n) (pv:m.n<=1000000000) :iI Tryz.prog GS 159 [pi m,cE b] (pi (rU m b)) :=by
 refine Bc Tryz.checked.mixed b2 ?_;apply bH QZ ZR;unfold Gm Mv;have al:(ae.aV (gk m.st (cE m.rest) m.n)).cells=some (gk m.st (cE m.rest) m.n) :=rfl;have hd:(gk m.st (cE m.rest) m.n)[8]? = some (cE m.rest) :=rfl;have UM:=afZ [m.rest,b] (by simp[bytesOf]; exact au) (by simp);rw[afD] at UM;simp[pi,ur,hd];refine YU UM (.cons ?_ .nil) ?_
 ·exact Bg (es:=[[cE m.rest],[cE b]]) (rest:=[]) rfl rfl (by simp) (by simp[bM,lh])
 obtain⟨all,eG⟩:∃ all,all=m.rest.l++b.l:=⟨_,rfl⟩
 have gy:all.length<=1000000000:=by rw[eG]; simpa using au
 rw[<-eG];simp;refine c7 (all.length / 64) (fun k ah l=>ah 1=cE b/\ah 2=.ptr 0 0 10/\ah 4=.ptr 1 0 10/\∃ h s gD junk,ah 5=cE s/\l=.cells 10 (gk h (cE m.rest) m.n) ::.cells 10 gD::junk/\gV m.st all=gV h s.l/\s.l.length=all.length - 64*k/\gD.length=10/\s.isNone=decide (all=[])) ?_ ?_
 ·rintro k ah l hk ⟨aY,a2,bK,h,s,gD,junk,bw,rfl,fh,ez,sy,VF⟩;obtain⟨ah,rfl⟩:=jg aY a2 bK bw;clear aY a2 bK bw;unfold W5;have bA:c8 (.ao 1) (cE s)=some (.int .i64 s.l.length) :=oP _;simp[bA];by_cases II:(64:Int)<=s.l.length
  ·cases s with
   | none=>simp at II
   | some hp=>
   have ahs:(64:Int)<=hp.length:=II;have Um:64<=hp.length:=by omega
   simp[ahs];refine ahl (h:=h) (b:=hp) Um (l:=.cells 10 (gk h (cE m.rest) m.n) ::.cells 10 gD::junk) (bk:=0) (sz:=10) (rest:=[cE m.rest,.int .i64 m.n]) rfl (by omega) (abU (lh _)) (fun aup=>?_);have eT:fQ (.ao 1) (cE (some hp)) (some (.int .i64 64)) none none=some (cE (some (hp.drop 64))) :=by
    unfold cE; rw[aoY (by omega) (by omega)]; rfl
   simp[eT];have atu:hp.length=all.length - 64*k:=ez;refine⟨by omega,grind h hp,some (hp.drop 64),rfl,gD,⟨rfl,rfl⟩,?_,?_,sy,?_⟩
   ·rw[fh];show gV h hp=_;rw[zc h hp Um,ahm]; rfl
   ·simp; omega
   ·exact VF
  ·have aP:s.l.length<64:=by omega
   have bB:IntKind.i64.wrap (m.n+(b.l.length:Int))=m.n+b.l.length:=wrap_i64 (by omega) (by omega);have fL:(gk h (cE m.rest) m.n)[9]? = some (.int .i64 m.n) :=rfl;have sm:c8 (.ao 1) (cE b)=some (.int .i64 b.l.length) :=oP _;simp[II,fL,sm,bB];refine afO (by omega) ?_;intro v j l ay fD hD am i9;obtain⟨l',rfl⟩:∃ l',l=.cells 10 (gk h (cE m.rest) m.n) ::.cells 10 gD::l':=by
    have hc:=hD 0 (by simp);have aZ:=hD 1 (by simp);cases l with
    | nil=>simp at hc
    | cons a l=>cases l with
     | nil=>simp at aZ
     | cons c l=>simp at hc aZ; subst hc aZ; exact⟨l,rfl⟩
   have aj6:∀ r n gB,bS (gk h r n) 9 [.int .i64 gB]=gk h r gB:=fun _ _ _=>rfl
   have aj5:∀ r n cx,bS (gk h r n) 8 [cx]=gk h cx n:=fun _ _ _=>rfl
   have ax:=ay.cells;simp[fL,aj6,aj5,ax,ur,sy,mn];have hU:∀ r n,List.take 10 (gk h r n)=gk h r n:=fun _ _=>rfl
   rw[hU,hU];have aiH:rU m b=⟨h,if all=[] then none else some s.l,m.n+b.l.length⟩:=by
    unfold rU;rw[<-eG]
    dsimp only
    rw[fh,BX h s.l aP]
   rw[aiH];have j2:=(ay.zK (l':=.cells 10 (gk h v (m.n+(b.l.length:Int))) ::.cells 10 (gk h v (m.n+(b.l.length:Int))) ::l') (by
    rcases am with am | am
    ·exact .inl am
    ·obtain⟨q,rfl⟩:∃ q,j=q+2:=⟨j - 2,by simp at am; omega⟩
     exact .inr rfl)).Bi (fun _=>rfl) (if all=[] then none else some s.l) (by
     rw[i9,VF]; split<;>simp_all) (by
     split
     ·rename_i aw; rw[aw] at ez; simp at ez; rw[ez]; rfl
     ·rfl)
   refine .aV _ _ rfl fun i c c' qF jV=>?_
   rcases i with _ | _ | _ | _ | _ | _ | _ | _ | _ | _ | i<;>simp[gk,eE.l] at qF jV
   all_goals subst qF jV
   all_goals first | exact j2 | exact .flat _ rfl
 ·simp;exact⟨m.st,(if all=[] then none else some all),rfl,⟨[.int .u32 0,.int .u32 0,.int .u32 0,.int .u32 0,.int .u32 0,.int .u32 0,.int .u32 0,.int .u32 0,.aX,.int .i64 0],⟨rfl,rfl⟩,by split<;>simp_all,by split<;>simp_all,rfl,by split<;>simp_all⟩⟩
def fk (b:List B) :ae:=.aV (b.map bI)
def mo (n k:Nat) :List B:=128#8::List.replicate ((119 - n % 64) % 64) 0#8++(zg (BitVec.ofNat 64 n*8#64)).take k
theorem OM (n:Nat) :mo n 8=tail n:=rfl
theorem acQ (n k:Nat) (x:B) (aj:(zg (BitVec.ofNat 64 n*8#64))[k]? = some x) :mo n (k+1)=mo n k++[x] :=by
 unfold mo;rw[List.take_add_one,aj]; simp
theorem EI (n k:Nat) :(mo n k).length<=80:=by
 unfold mo;have:(zg (BitVec.ofNat 64 n*8#64)).length=8:=rfl;simp; omega
theorem P6 (q:BitVec 64) (k:Nat) (hk:k<8) :(zg q)[k]? = some ((q >>> (56 - 8*k)).setWidth 8) :=by
 match k,hk with
 | 0,_=>rfl
 | 1,_=>rfl
 | 2,_=>rfl
 | 3,_=>rfl
 | 4,_=>rfl
 | 5,_=>rfl
 | 6,_=>rfl
 | 7,_=>rfl
def oS (s:List W) (k:Nat) :List B:=((s.take k).map s5).flatten++List.replicate (32 - 4*k) 0#8
theorem adq (s:List W) :(s.map s5).flatten.length=4*s.length:=by
 induction s with
 | nil=>rfl
 | cons w s aL=>simp[aL,s5]; omega
theorem amE (s:List W) (k:Nat) (hk:k<=s.length) (ar:s.length=8) :(oS s k).length=32:=by
 unfold oS;rw[List.length_append,adq];simp; omega
theorem amF (s:List W) (k:Nat) (w:W) (hk:s[k]? = some w) (ar:s.length=8) :
  ((((oS s k).set (4*k) ((w >>> 24).setWidth 8)).set (4*k+1) ((w >>> 16).setWidth 8)).set (4*k+2) ((w >>> 8).setWidth 8)).set (4*k+3) (w.setWidth 8)=oS s (k+1) :=by
 have ht:=(List.getElem?_eq_some_iff.1 hk).1;unfold oS;rw[List.take_add_one,hk];have c2:((s.take k).map s5).flatten.length=4*k:=by rw[adq]; simp; omega
 obtain⟨A,Uo⟩:∃ A,A=((s.take k).map s5).flatten:=⟨_,rfl⟩
 rw[<-Uo] at c2 ⊢;have aC:32 - 4*k=(32 - 4*(k+1))+1+1+1+1:=by omega
 rw[aC,List.replicate_succ,List.replicate_succ,List.replicate_succ,List.replicate_succ];rw[List.set_append_right _ _ (by omega),List.set_append_right _ _ (by omega),List.set_append_right _ _ (by omega),List.set_append_right _ _ (by omega)];simp only[c2,Nat.sub_self,Nat.add_sub_cancel_left,List.set_cons_zero,List.set_cons_succ,List.map_append,List.flatten_append,<-Uo];simp[s5]
def Co (s:eE) (r:eD) (n:Nat) :List B:=written (gV s (r.l++tail n)).1
set_option maxHeartbeats 8000000 in
theorem agu (s:eE) (r:eD) (n:Nat) (aC:r.l.length<=100000000) (aH:n<=100000000) :bR Tryz.prog GS 160 [pi ⟨s,r,n⟩] (fk (Co s r n)) :=by
 refine cf Tryz.checked.mixed b2 ?_;apply bH Q0 ZS;unfold Gn Mw;have fL:(gk s (cE r) n)[9]? = some (.int .i64 n) :=rfl;have al:(ae.aV (gk s (cE r) n)).cells=some (gk s (cE r) n) :=rfl;have ks:=zd n 64 (by omega);obtain⟨q,bp⟩:∃ q,q=n % 64:=⟨_,rfl⟩
 rw[show ((64:Int).toNat)=64 from rfl,<-bp] at ks;have at0:q<64:=by rw[bp]; exact Nat.mod_lt _ (by omega)
 have js:IntKind.i64.wrap (119 - (q:Int))=(119 - q:Nat) :=by rw[wrap_i64 (by omega) (by omega)]; omega
 have Dr:=zd (119 - q) 64 (by omega);rw[show ((64:Int).toNat)=64 from rfl] at Dr;obtain⟨m,hm⟩:∃ m,m=(119 - q) % 64:=⟨_,rfl⟩
 rw[<-hm] at Dr;have atQ:m<64:=by rw[hm]; exact Nat.mod_lt _ (by omega)
 obtain⟨t,aU⟩:∃ t,t=119 - q:=⟨_,rfl⟩
 rw[<-aU] at js Dr;have kq:cT=140737488355328:=rfl;obtain⟨L,gx⟩:∃ L:av,L=[bt.cells 10 (gk s (cE r) n),bt.cells 32 (rep 32 (ae.int IntKind.u8 0)),bt.cells 1 [ae.int IntKind.u8 128]] :=⟨_,rfl⟩
 have ahE:L[0]? = some (bt.cells 10 (gk s (cE r) n)) :=by rw[gx]; rfl
 have ahF:L[1]? = some (bt.cells 32 (rep 32 (ae.int IntKind.u8 0))) :=by rw[gx]; rfl
 have r8:L.length=3:=by rw[gx]; rfl
 have ajx:bX 1 L (.ao 1 2 0 1 1 1) 2 [[ae.int IntKind.u8 128]] :=by
  rw[gx];exact .ao 2 1 1 1 [.int .u8 128] _ rfl rfl rfl (by simp) (Nat.le_refl _) (Nat.le_refl _) rfl
 have aji:m<9223372036854775808:=by omega
 have dy:(List.length [[ae.int IntKind.u8 128]]+m)*1<=cT:=by rw[kq]; simp; omega
 have ajc:=aer (n:=m) (k:=.i64) (by_:=1) (zero:=[.int .u8 0]) ajx rfl (by omega) (by omega) aji dy;obtain⟨v,j,l,h1,ay,ap,aJ,bd,bL⟩:=ajc;have ax:cU v=false:=by
  rw[Bool.eq_false_iff]; intro aN;rw[iW,bL] at aN;cases aN.1
 have aM:u 128#8=128:=by decide
 have aw:([[ae.int IntKind.u8 128]]++List.replicate m [ae.int IntKind.u8 0] :List (List ae))=(mo n 0).map cd:=by
  have:m=(119 - n % 64) % 64:=by rw[hm,bp]
  unfold mo;rw[<-this];simp[cd,aM]
 rw[aw] at ay;have hc:=(aJ 0 (by omega) (by omega)).trans ahE;have aZ:=(aJ 1 (by omega) (by omega)).trans ahF;have oz:2<=j:=by rcases bd with h | h<;>omega
 simp[pi,ur,fL,ks,js,Dr];rw[<-gx];simp[h1];refine c7 8 (fun k ah l=>ah 1=.ptr 0 0 10/\ah 2=.ptr 1 0 32/\ah 3=dG (BitVec.ofNat 64 n*8#64)/\ah 5=.int .i64 (56 - 8*(k:Int))/\∃ v j,ah 4=v/\2<=j/\cU v=false/\bX 1 l v j ((mo n k).map cd)/\l[0]? = some (bt.cells 10 (gk s (cE r) n))/\l[1]? = some (bt.cells 32 (rep 32 (ae.int IntKind.u8 0)))) ?_ ?_
 ·rintro k ah l hk ⟨aY,a2,bh,bw,v,j,bK,am,ax,ay,hc,aZ⟩;obtain⟨ah,rfl⟩:=k7 aY a2 bh bK bw;clear aY a2 bh bK bw;unfold W6;obtain⟨c,al⟩:∃ c:Int,c=56 - 8*(k:Int) :=⟨_,rfl⟩
  rw[<-al];simp;by_cases ht:0<=c
  ·have xC:k<8:=by omega
   have aj:=P6 (BitVec.ofNat 64 n*8#64) k xC;have sd:c.toNat=56 - 8*k:=by omega
   have xY:IntKind.i64.wrap (c - 8)=56 - 8*((k:Int)+1) :=by rw[wrap_i64 (by omega) (by omega)]; omega
   have kt:=EI n k;have mH:bX 1 (l++[bt.cells 1 [bI (((BitVec.ofNat 64 n*8#64) >>> (56 - 8*k)).setWidth 8)]]) v j ((mo n k).map cd) :=ay.more _;obtain⟨bf,ct,l',h1,ag,ap,aJ,bd,bL⟩:=m5 (by_:=1) mH (x:=.ao 1 l.length 0 1 1 1) (xs:=[[bI (((BitVec.ofNat 64 n*8#64) >>> (56 - 8*k)).setWidth 8)]]) (by simp[dv]) (by simp) (by omega) (by omega) (by simp; omega);have eR:j<l.length:=by
    rcases ay.lt with h | h
    ·subst h; simp[cU] at ax
    ·exact h
   have ago:l'[0]? = some (bt.cells 10 (gk s (cE r) n)) :=by rw[aJ 0 (by simp) (by omega),List.getElem?_append_left (e9 hc)]; exact hc
   have agp:l'[1]? = some (bt.cells 32 (rep 32 (ae.int IntKind.u8 0))) :=by
    have:=e9 aZ;rw[aJ 1 (by simp; omega) (by omega),List.getElem?_append_left (e9 aZ)]; exact aZ
   have he:cU bf=false:=by rw[sC bL,ax]; rfl
   have eo:2<=ct:=by
    rcases bd with h | h
    ·omega
    ·have h:=Nat.le_trans (show l.length<=(l++[bt.cells 1 [bI (((BitVec.ofNat 64 n*8#64) >>> (56 - 8*k)).setWidth 8)]]).length by simp) h;omega
   simp[ht,sd,h1];refine dK.cM ?_;simp[ht,xY];exact⟨by omega,ct,eo,he,by rw[acQ n k _ aj,List.map_append]; exact ag,ago,agp⟩
  ·have sj:k=8:=by omega
   subst sj;rw[OM] at ay;have xw:=TB ⟨s,r,n⟩ (some (tail n)) (by have:=EI n 8; rw[OM] at this; simp; omega) (by simp) (by simp; omega);have aj:=ay.pX (fun _=>rfl) (some (tail n)) (by rw[ax]; rfl) rfl;have U3:(rU ⟨s,r,n⟩ (some (tail n))).st=(gV s (r.l++tail n)).1:=rfl;obtain⟨F,vp⟩:∃ F,F=rU ⟨s,r,n⟩ (some (tail n)) :=⟨_,rfl⟩
   rw[<-vp] at xw U3;have xE:bM [pi ⟨s,r,n⟩]=true:=by simp[bM,pi,ae.closed,gk,eE.l,lh]
   have aiF:xa 8 0 (pi F)=some (.aV (F.st.l.map bE)) :=rfl;have mG:F.st.l.length=8:=rfl;simp[ht,hc,ur];refine YU xw (.cons (abU ?_) (.cons aj .nil)) ?_
   ·show (ae.aV (gk s (cE r) n)).closed=true;simp[ae.closed,bM,gk,eE.l,lh]
   simp[aiF];refine c7 8 (fun k ah l=>ah 2=.ptr 1 0 32/\ah 33=.aV (F.st.l.map bE)/\ah 34=.int .i64 k/\l[1]? = some (bt.cells 32 ((oS F.st.l k).map bI))) ?_ ?_
   ·rintro k ah l hk ⟨a2,T4,T5,aZ⟩;obtain⟨ah,rfl⟩:=kD a2 T4 T5;clear a2 T4 T5;obtain⟨yP,ce,rfl⟩:=apT aZ;clear aZ;unfold W7;simp;by_cases ht:(k:Int)<8
    ·have eH:k<8:=by omega
     obtain⟨w,bB⟩:∃ w,F.st.l[k]? = some w:=⟨_,List.getElem?_eq_getElem (show k<F.st.l.length from eH)⟩
     have dJ:=amE F.st.l k (by omega) mG;have oE:=amF F.st.l k w bB mG;have mU:IntKind.i64.wrap (4*(k:Int))=(4*k:Nat) :=by rw[wrap_i64 (by omega) (by omega)]; omega
     have cb:IntKind.i64.wrap (((4*k:Nat) :Int)+1)=(4*k+1:Nat) :=by rw[wrap_i64 (by omega) (by omega)]; omega
     have w2:IntKind.i64.wrap (((4*k:Nat) :Int)+2)=(4*k+2:Nat) :=by rw[wrap_i64 (by omega) (by omega)]; omega
     have eg:IntKind.i64.wrap (((4*k:Nat) :Int)+3)=(4*k+3:Nat) :=by rw[wrap_i64 (by omega) (by omega)]; omega
     have jI:IntKind.i64.wrap ((k:Int)+1)=k+1:=wrap_i64 (by omega) (by omega);obtain⟨a,aG⟩:∃ a,a=4*k:=⟨_,rfl⟩
     rw[<-aG] at mU cb w2 eg oE;have s0:=mR bI (oS F.st.l k) a ((w >>> 24).setWidth 8) (by omega);have dZ:=mR bI ((oS F.st.l k).set a ((w >>> 24).setWidth 8)) (a+1) ((w >>> 16).setWidth 8) (by simp; omega);have mQ:=mR bI (((oS F.st.l k).set a ((w >>> 24).setWidth 8)).set (a+1) ((w >>> 16).setWidth 8)) (a+2) ((w >>> 8).setWidth 8) (by simp; omega);have yB:=mR bI ((((oS F.st.l k).set a ((w >>> 24).setWidth 8)).set (a+1) ((w >>> 16).setWidth 8)).set (a+2) ((w >>> 8).setWidth 8)) (a+3) (w.setWidth 8) (by simp; omega);rw[oE] at yB;have gG:(a:Int)<32:=by omega
     have ev:((a+1:Nat) :Int)<32:=by omega
     have dU:((a+2:Nat) :Int)<32:=by omega
     have gH:((a+3:Nat) :Int)<32:=by omega
     have u6:a+1<=32:=by omega
     have cX:a+1+1<=32:=by omega
     have dB:a+2+1<=32:=by omega
     have kf:a+3+1<=32:=by omega
     have d1:(a:Int)+1<32:=by omega
     have d2:(a:Int)+2<32:=by omega
     have d3:(a:Int)+3<32:=by omega
     have f1:((a:Int)+1).toNat=a+1:=by omega
     have f2:((a:Int)+2).toNat=a+2:=by omega
     have f3:((a:Int)+3).toNat=a+3:=by omega
     have yg:(0:Int)<=(a:Int)+1:=by omega
     have nG:(0:Int)<=(a:Int)+2:=by omega
     have pS:(0:Int)<=(a:Int)+3:=by omega
     simp[ht,eH,bB,mU,cb,w2,eg,jI,gG,s0,dZ,mQ,yB,u6,cX,dB,kf,d1,d2,d3,f1,f2,f3,yg,nG,pS,-List.map_set]
    ·have sj:k=8:=by omega
     subst sj;have ajA:oS F.st.l 8=written F.st:=by simp[oS,written,eE.l]
     rw[ajA];have xZ:(written F.st).length=32:=rfl;simp[xZ,mn,List.take_of_length_le];exact a1 (by unfold fk Co; rw[U3]) (S3 bI (fun _=>rfl) _)
   ·simp[aZ];rw[ab4 .u8 8]; rfl
 ·simp;exact⟨j,oz,ax,ay,hc,aZ⟩
structure wG (m:rD) (b:List B) :Prop where
 Fx:gV first b=(m.st,m.rest.l)
 n:m.n=b.length
theorem akQ {m:rD} {b:List B} (h:wG m b) (s:eD) :wG (rU m s) (b++s.l) :=by
 have h1:gV first (b++s.l)=gV m.st (m.rest.l++s.l) :=by rw[P1,h.Fx]
 refine⟨?_,?_⟩
 ·rw[h1];unfold rU
  dsimp only
  split
  ·rename_i aw;rw[aw]; rfl
  ·rfl
 ·unfold rU
  dsimp only
  rw[h.n]; simp
theorem akR {m:rD} {b:List B} (h:wG m b) :m.rest.l.length<64:=by
 have:=aeL first b
 rw[h.Fx] at this;simp only at this;rw[this]; exact Nat.mod_lt _ (by omega)
theorem akP {m:rD} {b:List B} (h:wG m b) :Co m.st m.rest b.length=hy b:=by
 unfold Co hy;rw[P1 first b,h.Fx]
def start:rD:=⟨first,none,0⟩
theorem akS:wG start [] :=⟨rfl,rfl⟩
theorem apn:iI Tryz.prog GS 158 [] (pi start) :=by
 refine Bc Tryz.checked.mixed b2 ?_;apply bH QY ZQ;unfold Gl Mu;simp;exact .flat _ rfl
def qW (s:eD) :Bool:=decide ((10000:Int)<s.l.length)
theorem alR (s:eD) :bR Tryz.prog GS 157 [cE s] (.bool (qW s)) :=by
 refine cf Tryz.checked.mixed b2 ?_;apply bH QX ZP;unfold Gk Mt;simp[cE];exact a1 rfl rfl
theorem agZ:h5 Tryz.prog 157=true:=by kernel_rfl
def idx (l:List eD) :Int:=match l.findIdx? qW with | some i=>(i:Int) | none=>-1
theorem aku {l:List eD} {k:Nat} {s:eD} (ar:l[k]? = some s) (au:qW s=true) (eS:∀ j s,j<k->l[j]? = some s->qW s=false) :idx l=k:=by
 have:l.findIdx? qW=some k:=by
  rw[List.findIdx?_eq_some_iff_getElem];obtain⟨h1,rfl⟩:=List.getElem?_eq_some_iff.1 ar;refine⟨h1,au,fun j am=>?_⟩;rw[eS j l[j] am (List.getElem?_eq_getElem (by omega))]; simp
 unfold idx; rw[this]
theorem Wk {l:List eD} (eS:∀ j s,j<l.length->l[j]? = some s->qW s=false) :idx l=-1:=by
 have:l.findIdx? qW=none:=by
  rw[List.findIdx?_eq_none_iff];intro x aj;obtain⟨j,am⟩:=List.mem_iff_getElem?.1 aj;exact eS j x (List.getElem?_eq_some_iff.1 am).1 am
 unfold idx; rw[this]
theorem KD (cm:dk eD) (au:cm.l.length<=1000000000) :bR Tryz.prog GS 186 [lS cm,.fn 157 [] []] (.int .i64 (idx cm.l)) :=by
 refine cf Tryz.checked.mixed b2 ?_;apply bH Rm aaf;unfold GM MP;have bA:c8 (.ao 1) (lS cm)=some (.int .i64 cm.l.length) :=oP _;simp[bA];refine c7 cm.l.length (fun k ah l=>ah 0=lS cm/\ah 1=.fn 157 [] []/\ah 7=.int .i64 cm.l.length/\ah 8=.int .i64 k/\∀ j s,j<k->cm.l[j]? = some s->qW s=false) ?_ (by simp);rintro k ah l hk ⟨cC,aY,dx,ek,eS⟩;obtain⟨ah,rfl⟩:=jg cC aY dx ek;clear cC aY dx ek;unfold Xb;simp;by_cases h:k<cm.l.length
 ·obtain⟨s,ar,_⟩:=ck h;have cV:cS (.ao 1) (lS cm) (.int .i64 k)=some (.cq [cE s] 0) :=by
   rw[pB]; simp[ar]
  have eW:IntKind.i64.wrap ((k:Int)+1)=k+1:=wrap_i64 (by omega) (by omega);simp[h,cV];refine⟨agZ,bC (alR s) (by simp[bM,lh]) ?_⟩;cases kW:qW s with
  | true=>
   simp;rw[aku ar kW eS];exact a1 rfl rfl
  | false=>
   simp[h,eW];intro j eY am l7;rcases Nat.lt_or_ge j k with h1 | h1
   ·exact eS j eY h1 l7
   ·have:j=k:=by omega
    subst this;rw[ar] at l7; cases l7; exact kW
 ·simp[h];rw[Wk (fun j s am ar=>eS j s (by omega) ar)];exact a1 rfl rfl
theorem af1 (cm:dk eD) (au:cm.l.length<=1000000000) :bR Tryz.prog GS 156 [lS cm,.fn 157 [] []] (.bool (decide (0<=idx cm.l))) :=by
 refine cf Tryz.checked.mixed b2 ?_;apply bH QW ZO;unfold Gj Ms;simp;refine bC (KD cm au) (by simp[bM,ae.closed,S2]) ?_;simp;exact a1 rfl rfl
set_option maxHeartbeats 4000000 in
theorem LA (cm:List eD) (as7:cm.length<=20) (eS:∀ s∈cm,s.l.length<=10000) :bR Tryz.prog GS 111 [lS (some cm)] (.bU [fk (hy (bytesOf cm)),.int .i64 0]) :=by
 have tQ:idx cm=-1:=Wk fun j s am ar=>by
  have:=eS s (List.mem_of_getElem? ar);unfold qW; simp; omega
 have bA:∀ k,(bytesOf (cm.take k)).length<=200000:=fun k=>by
  have:∀ l:List eD,(∀ s∈l,s.l.length<=10000)->(bytesOf l).length<=10000*l.length:=by
   intro l
   induction l with
   | nil=>intro _; simp[bytesOf]
   | cons s l aL=>
    intro h;have h1:=aL fun x aj=>h x (by simp[aj])
    have ag:=h s (by simp);unfold bytesOf at h1 ⊢;rw[List.map_cons,List.flatten_cons,List.length_append,List.length_cons];omega
  have h1:=this (cm.take k) fun s ar=>eS s (List.mem_of_mem_take ar)
  have ag:(cm.take k).length<=20:=by simp; omega
  omega
 refine cf Tryz.checked.mixed b2 ?_;apply bH Qm Ze;unfold FO LX;have ahq:¬(20:Int)<cm.length:=by omega
 have UR:=af1 (some cm) (by simp; omega);rw[dk.AU,tQ] at UR;simp[ahq];refine bC UR (by simp[bM,ae.closed,S2]) ?_;simp;refine bC apn.yK rfl ?_;simp[pi,ur,mn];refine c7 cm.length (fun k ah l=>ah 2=.ptr 0 0 32/\ah 4=.ptr 1 0 10/\ah 16=lS (some cm)/\ah 17=.int .i64 cm.length/\ah 18=.int .i64 k/\∃ m,wG m (bytesOf (cm.take k))/\l=[.cells 32 (rep 32 (.int .u8 0)),.cells 10 (gk m.st (cE m.rest) m.n)]) ?_ ?_
 ·rintro k ah l hk ⟨a2,bK,tC,qu,qv,m,hm,rfl⟩;obtain⟨ah,rfl⟩:=k7 a2 bK tC qu qv;clear a2 bK tC qu qv;unfold WP;simp;have fV:(ae.aV (gk m.st (cE m.rest) m.n)).closed=true:=by simp[ae.closed,bM,gk,eE.l,lh]
  have hU:List.take 10 (gk m.st (cE m.rest) m.n)=gk m.st (cE m.rest) m.n:=rfl;have oI:=akR hm;have nq:=hm.n;have jX:=bA k;by_cases h:k<cm.length
  ·obtain⟨s,ar,jq⟩:=ck h;have cV:cS (.ao 1) (lS (some cm)) (.int .i64 k)=some (.cq [cE s] 0) :=by
    rw[pB]; simp[ar]
   have eW:IntKind.i64.wrap ((k:Int)+1)=k+1:=wrap_i64 (by omega) (by omega);have h1:=eS s jq;have aI:=TB m s (by omega) (by omega) (by omega);have jY:=akQ hm s;rw[<-bytesOf_take cm k s ar] at jY;obtain⟨F,vp⟩:∃ F,F=rU m s:=⟨_,rfl⟩
   rw[<-vp] at aI jY;simp[h,cV,ur,hU];refine bC aI.yK ?_ ?_
   ·simp only[bM,fV,lh,Bool.and_self]
   simp[pi,ur,mn,h,eW];exact⟨F,jY,rfl⟩
  ·have cZ:k=cm.length:=by omega
   subst cZ;rw[List.take_length] at hm nq jX;have aw:=agu m.st m.rest (bytesOf cm).length (by omega) (by omega);rw[akP hm] at aw;have hS:m=⟨m.st,m.rest,((bytesOf cm).length:Int)⟩:=by rw[<-nq]
   rw[<-hS] at aw;have eT:=sZ (bytesOf cm);simp[h,ur,hU];refine bC aw ?_ ?_
   ·simp only[bM,fV,Bool.and_self]
   have dI:((hy (bytesOf cm)).map bI).length=32:=by rw[List.length_map,eT]
   simp[fk,eT,mn,List.take_of_length_le];exact a1 rfl (by simp[ae.closed,bM,kK bI (fun _=>rfl)])
 ·simp[bytesOf];exact⟨start,akS,rfl⟩
theorem acM (s:eD) (h:s.l.length<=10000) :bR Tryz.prog GS 73 [cE s] (.bU [fk (hy s.l),.int .i64 0]) :=by
 have ai:bytesOf [s]=s.l:=by simp[bytesOf]
 have aE:=LA [s] (by simp) (by simpa using h);rw[ai] at aE;refine cf Tryz.checked.mixed b2 ?_;apply bH Sp abj;unfold HI NG;have eT:=sZ s.l;simp;refine iF aE (.cons ?_ .nil) (by simp[ae.flat,kM,fk,w6 bI (fun _=>rfl)]) ?_
 ·exact Bg (es:=[[cE s]]) (rest:=[]) rfl rfl (by simp) (by simp[bM,lh])
 simp[fk,eT,mn,List.take_of_length_le];exact a1 rfl (by simp[ae.closed,bM,kK bI (fun _=>rfl)])
theorem rs (x:W) (n:Nat) (aT:0<n) (h:n<32) :bR Tryz.prog GS 178 [bE x,.int .i64 n] (bE (mi x n)) :=by
 refine cf Tryz.checked.mixed b2 ?_;apply bH Rc Z4;unfold GD MI;have bB:IntKind.i64.wrap (32 - (n:Int))=(32 - n:Nat) :=by rw[wrap_i64 (by omega) (by omega)]; omega
 obtain⟨m,hm⟩:∃ m,m=32 - n:=⟨_,rfl⟩
 rw[<-hm] at bB;simp[bB];exact a1 (by unfold mi; rw[hm]) rfl
def eF (x:W) :List ae:=[bE x]
theorem af0:iI Tryz.prog GS 179 [] (cO 1 eF (some bV)) :=
 wm Tryz.checked.mixed b2 (Yj _ _) uM (fuel:=100) (k:=10) (by kernel_rfl)
theorem agW:bR Tryz.prog GS 99 [] (.aV (first.l.map bE)) :=by
 refine cf Tryz.checked.mixed b2 ?_;apply bH SO abJ;unfold H2 N2;simp;exact a1 rfl rfl
theorem aqM (b:List B) (t:Nat) (gG ev dU gH:B) (aT:b[4*t]? = some gG) (h1:b[4*t+1]? = some ev) (ag:b[4*t+2]? = some dU) (ap:b[4*t+3]? = some gH) :
  nW ((b.drop (4*t)).take 4)=((gG.setWidth 32*256#32+ev.setWidth 32)*256#32+dU.setWidth 32)*256#32+gH.setWidth 32:=by
 have h:(b.drop (4*t)).take 4=[gG,ev,dU,gH] :=by
  have au:=(List.getElem?_eq_some_iff.1 ap).1;apply List.ext_getElem?;intro i
  match i with
  | 0=>simp[aT]
  | 1=>simp[h1]
  | 2=>simp[ag]
  | 3=>simp[ap]
  | i+4=>rw[List.getElem?_eq_none (by simp; omega),List.getElem?_eq_none (by simp)]
 rw[h];show ((((0#32 <<< 8 ||| gG.setWidth 32) <<< 8 ||| ev.setWidth 32) <<< 8 ||| dU.setWidth 32) <<< 8 ||| gH.setWidth 32)=_;rw[Ez,Ez,Ez,Ez];simp
theorem adi {l:av} {v:ae} {j:Nat} {gC:List W} (h:bX 1 l v j (gC.map eF)) (ax:cU v=false) :∃ (cap sz:Nat) (cs:List ae),v=.ao 1 j 0 gC.length cap sz/\l[j]? = some (.cells sz cs)/\∀ (i:Nat) (x:W),gC[i]? = some x->cs[i]? = some (bE x) :=by
 obtain⟨n,cap,sz,cs,h1,ag,ap,aJ,bd,bL,_⟩:=h.view ax;rw[List.length_map] at aJ;subst aJ;refine⟨cap,sz,cs,h1,ag,fun i x aj=>?_⟩;have:=bL i (eF x) (by rw[List.getElem?_map,aj]; rfl) 0 (by omega);simpa [eF] using this
theorem aqP (b:List B) (k:Nat) (hk:k<16) :(e6 b).take (k+1)=(e6 b).take k++[nW ((b.drop (4*k)).take 4)] :=by
 have:(e6 b)[k]? = some (nW ((b.drop (4*k)).take 4)) :=by unfold e6; rw[List.getElem?_map,List.getElem?_range hk]; rfl
 rw[List.take_add_one,this]; rfl
theorem aqN (b:List B) :(e6 b).length=16:=by simp[e6]
theorem agL (k:Nat) (b:List B) :(hR k (e6 b)).length=16+k:=by simp[vh,e6]
set_option maxHeartbeats 16000000 in
theorem ahn (h:eE) (b:List B) (ai:64<=b.length) :bR Tryz.prog GS 139 [.aV (h.l.map bE),cE (some b)] (.aV ((grind h b).l.map bE)) :=by
 have kq:cT=140737488355328:=rfl;have U9:(h.l.map bE).length=8:=rfl;refine cf Tryz.checked.mixed b2 ?_;apply bH QG Zy;unfold F5 Me;simp[U9];refine c7 16 (fun k ah l=>ah 1=cE (some b)/\ah 2=.ptr 0 0 8/\ah 4=.ptr 1 0 8/\ah 6=.int .i64 k/\∃ v j gD rest,ah 5=v/\(cU v=true->k=0)/\(v=.aX\/2<=j)/\bX 1 l v j (((e6 b).take k).map eF)/\l=.cells 8 (h.l.map bE) ::.cells 8 gD::rest/\gD.length=8) ?_ ?_
 ·rintro k ah l hk ⟨aY,a2,bK,cl,v,j,gD,rest,bw,ax,am,ay,rfl,iU⟩;obtain⟨ah,rfl⟩:=k7 aY a2 bK bw cl;clear aY a2 bK bw cl;unfold WU;by_cases Vj:(k:Int)<16
  ·have eH:k<16:=by omega
   obtain⟨a,aG⟩:∃ a,a=4*k:=⟨_,rfl⟩
   have mU:IntKind.i64.wrap (4*(k:Int))=(a:Nat) :=by rw[wrap_i64 (by omega) (by omega)]; omega
   obtain⟨bj,I4⟩:∃ x,x=a+1:=⟨_,rfl⟩
   obtain⟨bz,ahV⟩:∃ x,x=a+2:=⟨_,rfl⟩
   obtain⟨a3,ahW⟩:∃ x,x=a+3:=⟨_,rfl⟩
   have cb:IntKind.i64.wrap ((a:Int)+1)=bj:=by rw[wrap_i64 (by omega) (by omega)]; omega
   have w2:IntKind.i64.wrap ((a:Int)+2)=bz:=by rw[wrap_i64 (by omega) (by omega)]; omega
   have eg:IntKind.i64.wrap ((a:Int)+3)=a3:=by rw[wrap_i64 (by omega) (by omega)]; omega
   have jI:IntKind.i64.wrap ((k:Int)+1)=k+1:=wrap_i64 (by omega) (by omega);obtain⟨gG,jU⟩:∃ x,b[a]? = some x:=⟨_,List.getElem?_eq_getElem (by omega)⟩
   obtain⟨ev,gA⟩:∃ x,b[bj]? = some x:=⟨_,List.getElem?_eq_getElem (by omega)⟩
   obtain⟨dU,fU⟩:∃ x,b[bz]? = some x:=⟨_,List.getElem?_eq_getElem (by omega)⟩
   obtain⟨gH,sa⟩:∃ x,b[a3]? = some x:=⟨_,List.getElem?_eq_getElem (by omega)⟩
   have cV:∀ (i:Nat) (x:B),b[i]? = some x->cS (.ao 1) (cE (some b)) (.int .i64 i)=some (.cq (cd x) 0) :=fun i x aj=>by rw[pB]; simp[aj]
   have ub:=cV a gG jU;have er:=cV bj ev gA;have eX:=cV bz dU fU;have hV:=cV a3 gH sa;have Kr:=aqP b k eH;rw[aqM b k gG ev dU gH (by rw[<-aG]; exact jU) (by rw[<-aG,<-I4]; exact gA) (by rw[<-aG,<-ahV]; exact fU) (by rw[<-aG,<-ahW]; exact sa)] at Kr;obtain⟨w,bB⟩:∃ w,w=((gG.setWidth 32*256#32+ev.setWidth 32)*256#32+dU.setWidth 32)*256#32+gH.setWidth 32:=⟨_,rfl⟩
   rw[<-bB] at Kr;have mH:bX 1 ([.cells 8 (h.l.map bE),.cells 8 gD]++(rest++[bt.cells 1 [bE w]])) v j (((e6 b).take k).map eF) :=ay.more [bt.cells 1 [bE w]];have jX:(((e6 b).take k).map eF).length<=16:=by simp; omega
   obtain⟨bf,ct,cx,h1,ag,ap,aJ⟩:=y8 (by_:=4) mH am (x:=.ao 1 (rest.length+2) 0 1 1 1) (xs:=[eF w]) (by simp[dv,eF]) (by simp[eF]) (by omega) (by omega) (by rw[kq]; simp; omega);have fT:bX 1 (.cells 8 (h.l.map bE) ::.cells 8 gD::cx) bf ct (((e6 b).take (k+1)).map eF) :=by rw[Kr,List.map_append]; exact ag
   simp only[List.cons_append,List.nil_append] at h1;have he:cU bf=false:=by rw[aJ]; simp
   simp[Vj,mU,cb,w2,eg,ub,er,eX,hV,cd];rw[<-bB];simp[h1];refine dK.cM ?_;simp[Vj,jI,eH];exact⟨he,ct,ap,by rw[<-List.map_take]; exact fT,iU⟩
  ·have eH:k=16:=by omega
   subst eH;have h9:cU v=false:=by
    cases Ko:cU v with
    | false=>rfl
    | true=>exact absurd (ax Ko) (by omega)
   have oz:2<=j:=by
    rcases am with h | h
    ·subst h; cases h9
    ·exact h
   have ajy:bX 1 (.cells 8 (h.l.map bE) ::.cells 8 gD::rest) v j ((e6 b).map eF) :=by
    have:(e6 b).take 16=e6 b:=List.take_of_length_le (by rw[aqN]; omega);rw[this] at ay; exact ay
   clear ax am ay;simp;refine c7 48 (fun k ah l=>ah 2=.ptr 0 0 8/\ah 4=.ptr 1 0 8/\ah 7=.int .i64 (16+k:Nat)/\∃ v j gD rest,ah 5=v/\cU v=false/\2<=j/\bX 1 l v j ((hR k (e6 b)).map eF)/\l=.cells 8 (h.l.map bE) ::.cells 8 gD::rest/\gD.length=8) ?_ ?_
   ·rintro k ah l hk ⟨a2,bK,dx,v,j,gD,rest,bw,ax,am,ay,rfl,iU⟩;obtain⟨ah,rfl⟩:=jg a2 bK bw dx;clear a2 bK bw dx;unfold WV;obtain⟨t,aU⟩:∃ t,t=16+k:=⟨_,rfl⟩
    rw[<-aU];by_cases vG:(t:Int)<64
    ·have js:IntKind.i64.wrap ((t:Int)+1)=(t+1:Nat) :=wrap_i64 (by omega) (by omega);have au:=agL k b;obtain⟨uc,Ii⟩:∃ i,i=t - 15:=⟨_,rfl⟩
     obtain⟨eX,b4⟩:∃ i,i=t - 2:=⟨_,rfl⟩
     obtain⟨ud,Ci⟩:∃ i,i=t - 16:=⟨_,rfl⟩
     obtain⟨jv,Ik⟩:∃ i,i=t - 7:=⟨_,rfl⟩
     have EP:IntKind.i64.wrap ((t:Int) - 15)=uc:=by rw[wrap_i64 (by omega) (by omega)]; omega
     have w2:IntKind.i64.wrap ((t:Int) - 2)=eX:=by rw[wrap_i64 (by omega) (by omega)]; omega
     have EQ:IntKind.i64.wrap ((t:Int) - 16)=ud:=by rw[wrap_i64 (by omega) (by omega)]; omega
     have BD:IntKind.i64.wrap ((t:Int) - 7)=jv:=by rw[wrap_i64 (by omega) (by omega)]; omega
     obtain⟨gC,vY⟩:∃ gC,gC=hR k (e6 b) :=⟨_,rfl⟩
     have vW:=Ir k (e6 b);rw[<-vY] at au ay vW;have xZ:gC.length=t:=by omega
     unfold ext at vW
     dsimp only at vW
     rw[xZ,<-Ii,<-b4,<-Ci,<-Ik] at vW;have Cy:∀ i,i<t->gC[i]? = some (gC.getD i 0#32) :=fun i aA=>by rw[List.getD_eq_getElem?_getD,List.getElem?_eq_getElem (by omega)]; rfl
     obtain⟨x,aj⟩:∃ x,x=gC.getD uc 0#32:=⟨_,rfl⟩
     obtain⟨y,aK⟩:∃ y,y=gC.getD eX 0#32:=⟨_,rfl⟩
     obtain⟨O9,Wa⟩:∃ y,y=gC.getD ud 0#32:=⟨_,rfl⟩
     obtain⟨Pb,Wb⟩:∃ y,y=gC.getD jv 0#32:=⟨_,rfl⟩
     rw[<-aj,<-aK,<-Wa,<-Wb] at vW;obtain⟨cap,sz,cs,rfl,tU,cp⟩:=adi ay ax;have afb:=cp uc x (by rw[aj]; exact Cy uc (by omega));have dB:=cp eX y (by rw[aK]; exact Cy eX (by omega));have zh:=cp ud O9 (by rw[Wa]; exact Cy ud (by omega));have rO:=cp jv Pb (by rw[Wb]; exact Cy jv (by omega));obtain⟨w,bB⟩:∃ w,w=O9+Pb+(mi x 7 ^^^ mi x 18 ^^^ x >>> 3)+(mi y 17 ^^^ mi y 19 ^^^ y >>> 10) :=⟨_,rfl⟩
     rw[<-bB] at vW;have mH:bX 1 ([.cells 8 (h.l.map bE),.cells 8 gD]++(rest++[bt.cells 1 [bE w]])) _ j (gC.map eF) :=ay.more [bt.cells 1 [bE w]];obtain⟨bf,ct,cx,h1,ag,ap,aJ⟩:=y8 (by_:=4) mH (.inr am) (x:=.ao 1 (rest.length+2) 0 1 1 1) (xs:=[eF w]) (by simp[dv,eF]) (by simp[eF]) (by omega) (by omega) (by rw[kq]; simp; omega);have fT:bX 1 (.cells 8 (h.l.map bE) ::.cells 8 gD::cx) bf ct ((hR (k+1) (e6 b)).map eF) :=by rw[vW,List.map_append]; exact ag
     simp only[List.cons_append,List.nil_append] at h1;have he:cU bf=false:=by rw[aJ]; rfl
     obtain⟨qY,rfl⟩:∃ qY,j=qY+2:=⟨j - 2,by omega⟩
     have qJ:rest[qY]? = some (.cells sz cs) :=by simpa using tU
     have vK:(rest++[bt.cells 1 [bE w]])[qY]? = some (.cells sz cs) :=by rw[List.getElem?_append_left (e9 qJ)]; exact qJ
     have Fq:uc<gC.length:=by omega
     have dU:eX<gC.length:=by omega
     have Fr:ud<gC.length:=by omega
     have rL:jv<gC.length:=by omega
     have t7:=rs x 7 (by omega) (by omega);have t18:=rs x 18 (by omega) (by omega);have t17:=rs y 17 (by omega) (by omega);have t19:=rs y 19 (by omega) (by omega);simp at t7 t18 t17 t19;simp[vG,EP,w2,EQ,BD,Fq,dU,Fr,rL,qJ,afb,dB,zh,rO];refine bC t7 rfl ?_;simp[qJ,zh,rO];refine bC t18 rfl ?_;simp[qJ,zh,rO];refine bC t17 rfl ?_;simp[qJ,zh,rO];refine bC t19 rfl ?_;simp[qJ,zh,rO];rw[<-bB];simp[h1];refine dK.cM ?_;simp[js];exact⟨by omega,by omega,he,ct,ap.resolve_left (by intro e; subst e; cases he),fT,iU⟩
    ·have eH:k=48:=by omega
     subst eH;subst aU;have qP:hR 48 (e6 b)=ff b:=rfl;rw[qP] at ay;obtain⟨cap,sz,cs,rfl,tU,cp⟩:=adi ay ax;obtain⟨qY,rfl⟩:∃ qY,j=qY+2:=⟨j - 2,by omega⟩
     have qJ:rest[qY]? = some (.cells sz cs) :=by simpa using tU
     have eT:=Bs b;rw[eT];clear ay ax am tU;simp;refine bC af0.yK rfl ?_;have mG:h.l.length=8:=rfl;simp[mn,mG];refine c7 64 (fun k ah l=>ah 2=.ptr 0 0 8/\ah 4=.ptr 1 0 8/\ah 5=.ao 1 (qY+2) 0 64 cap sz/\ah 10=cO 1 eF (some bV)/\ah 11=.ptr (rest.length+2) 0 8/\ah 12=.int .i64 k/\l=.cells 8 (h.l.map bE) ::.cells 8 gD::(rest++[.cells 8 ((lD h b k).l.map bE)])) ?_ ?_
     ·rintro k ah l hk ⟨a2,bK,bw,fB,h6,hC,rfl⟩;obtain⟨ah,rfl⟩:=EN a2 bK bw fB h6 hC;clear a2 bK bw fB h6 hC;unfold WW;have eR:=e9 qJ;have vK:∀ x:bt,(rest++[x])[qY]? = some (.cells sz cs) :=fun x=>by rw[List.getElem?_append_left eR]; exact qJ
      by_cases vG:(k:Int)<64
      ·have gp:k<64:=by omega
       have eW:IntKind.i64.wrap ((k:Int)+1)=(k+1:Nat) :=wrap_i64 (by omega) (by omega);have nn:bV[k]? = some (bV.getD k 0#32) :=by rw[List.getD_eq_getElem?_getD,List.getElem?_eq_getElem (show k<bV.length from gp)]; rfl
       have gq:=cp k ((ff b).getD k 0#32) (by rw[List.getD_eq_getElem?_getD,List.getElem?_eq_getElem (by omega)]; rfl);rw[abM h b k gp];obtain⟨jI,bB⟩:∃ jI,(ff b).getD k 0#32=jI:=⟨_,rfl⟩
       obtain⟨lA,Jz⟩:∃ lA,bV.getD k 0#32=lA:=⟨_,rfl⟩
       obtain⟨s,ar⟩:∃ s,lD h b k=s:=⟨_,rfl⟩
       rw[bB] at gq ⊢;rw[Jz] at nn ⊢;rw[ar];have x5:cS (.ao 1) (cO 1 eF (some bV)) (.int .i64 k)=some (.cq (eF lA) 0) :=by rw[pB]; simp[nn]
       have t6:=rs s.e 6 (by omega) (by omega);have t11:=rs s.e 11 (by omega) (by omega);have t25:=rs s.e 25 (by omega) (by omega);have t2:=rs s.a 2 (by omega) (by omega);have t13:=rs s.a 13 (by omega) (by omega);have t22:=rs s.a 22 (by omega) (by omega);simp at t6 t11 t25 t2 t13 t22;have aj2:s.l=[s.a,s.b,s.c,s.d,s.e,s.f,s.g,s.h] :=rfl;have VS:(round s lA jI).l=[(round s lA jI).a,(round s lA jI).b,(round s lA jI).c,(round s lA jI).d,(round s lA jI).e,(round s lA jI).f,(round s lA jI).g,(round s lA jI).h] :=rfl;simp[vG,aj2,x5,eF,vK,gq];refine bC t6 rfl ?_;simp[x5,eF,vK,gq];refine bC t11 rfl ?_;simp[x5,eF,vK,gq];refine bC t25 rfl ?_;simp[x5,eF,vK,gq];refine bC t2 rfl ?_;simp[x5,eF,vK,gq];refine bC t13 rfl ?_;simp[x5,eF,vK,gq];refine bC t22 rfl ?_;simp[mn,gp,eW];rfl
      ·have eH:k=64:=by omega
       subst eH;rw[abK];obtain⟨v,ax⟩:∃ v,rounds h bV (ff b)=v:=⟨_,rfl⟩
       rw[ax];have qH:grind h b=⟨h.a+v.a,h.b+v.b,h.c+v.c,h.d+v.d,h.e+v.e,h.f+v.f,h.g+v.g,h.h+v.h⟩:=by unfold grind; rw[ax]
       have km:h.l.length=v.l.length:=rfl;have mG:h.l.length=8:=rfl;have Jn:(grind h b).l=hZ h.l v.l 8:=by rw[qH]; rfl
       rw[Jn];simp;refine c7 8 (fun k ah l=>ah 2=.ptr 0 0 8/\ah 4=.ptr 1 0 8/\ah 11=.ptr (rest.length+2) 0 8/\ah 21=.int .i64 k/\l=.cells 8 ((hZ h.l v.l k).map bE) ::.cells 8 gD::(rest++[.cells 8 (v.l.map bE)])) ?_ ?_
       ·rintro k ah l hk ⟨a2,bK,h6,rX,rfl⟩;obtain⟨ah,rfl⟩:=jg a2 bK h6 rX;clear a2 bK h6 rX;unfold WX;by_cases ht:(k:Int)<8
        ·have sj:k<8:=by omega
         have eW:IntKind.i64.wrap ((k:Int)+1)=(k+1:Nat) :=wrap_i64 (by omega) (by omega);obtain⟨y,aK⟩:∃ y,v.l[k]? = some y:=⟨_,List.getElem?_eq_getElem (show k<v.l.length from sj)⟩
         obtain⟨z,aB⟩:∃ z,h.l[k]? = some z:=⟨_,List.getElem?_eq_getElem (show k<h.l.length from sj)⟩
         have aG:=Pp km (k:=k) (by rw[mG]; exact sj);rw[aB] at aG;have gy:=Ff km k;have px:=mR bE (hZ h.l v.l k) k (z+y) (by rw[gy,mG]; exact sj);rw[Pq km aB aK] at px;have U7:(List.map bE (hZ h.l v.l k))[k]? = some (bE z) :=by rw[List.getElem?_map,aG]; rfl
         have xC:k<=7:=by omega
         obtain⟨A,c2⟩:∃ A,A=(hZ h.l v.l k).map bE:=⟨_,rfl⟩
         have jR:A.length=8:=by rw[c2,List.length_map,gy,mG]
         rw[<-c2] at U7 px ⊢;obtain⟨ahv,aiP⟩:=List.getElem?_eq_some_iff.1 U7;simp[ht,sj,eW,aiP,aK,px,jR,xC]
        ·have eH:k=8:=by omega
         subst eH;have gy:=Ff km 8;have DB:∀ A:List ae,A.length=8->A.take 8=A:=fun A c2=>List.take_of_length_le (by omega)
         obtain⟨A,c2⟩:∃ A,A=(hZ h.l v.l 8).map bE:=⟨_,rfl⟩
         have jR:A.length=8:=by rw[c2,List.length_map,gy,mG]
         have xg:bM A=true:=by rw[c2]; exact kK bE (fun _=>rfl) _
         rw[<-c2];simp[mn,iU,jR,DB A jR];exact a1 rfl (by simp[ae.closed,xg])
       ·simp[Pr]
     ·simp[abN];exact List.take_of_length_le (by simp[mG])
   ·refine⟨rfl,rfl,rfl,v,j,gD,rest,rfl,h9,oz,ajy,rfl,iU⟩
 ·simp;exact⟨0,.nil 0⟩
def pU (k:Nat) :List B:=128#8::List.replicate k 0#8
theorem amO (k:Nat) :pU (k+1)=pU k++[0#8] :=by simp[pU,List.replicate_succ']
theorem YE (k:Nat) :(pU k).length=k+1:=by simp[pU]
set_option maxHeartbeats 8000000 in
theorem aoh (n:Nat) (aH:n<=100000000) :iI Tryz.prog GS 100 [.int .i64 n] (cE (some (tail n))) :=by
 have kq:cT=140737488355328:=rfl;refine Bc Tryz.checked.mixed b2 ?_;apply bH Qc Y4;unfold FF LN;obtain⟨m,hm⟩:∃ m,m=(119 - n % 64) % 64:=⟨_,rfl⟩
 simp;refine c7 m (fun k ah l=>ah 0=.int .i64 n/\∃ v j,ah 3=v/\cU v=false/\bX 1 l v j ((pU k).map cd)) ?_ ?_
 ·rintro k ah l hk ⟨cC,v,j,bh,ax,ay⟩;obtain⟨ah,rfl⟩:=o3 cC bh;clear cC bh;unfold WK;have bA:=ay.len;rw[List.length_map,YE] at bA;obtain⟨ci,Df⟩:∃ ci,ci=k+1:=⟨_,rfl⟩
  rw[<-Df] at bA;have js:IntKind.i64.wrap ((n:Int)+(ci:Int))=(n+ci:Nat) :=wrap_i64 (by omega) (by omega);obtain⟨q,bp⟩:∃ q,q=n+ci:=⟨_,rfl⟩
  rw[<-bp] at js;have l9:IntKind.i64.wrap ((q:Int)+8)=(q+8:Nat) :=wrap_i64 (by omega) (by omega);obtain⟨Eg,J3⟩:∃ Eg,Eg=q+8:=⟨_,rfl⟩
  rw[<-J3] at l9;have ks:=zd Eg 64 (by omega);rw[show ((64:Int).toNat)=64 from rfl] at ks;obtain⟨x,aj⟩:∃ x,x=Eg % 64:=⟨_,rfl⟩
  rw[<-aj] at ks;simp[bA,js,l9,ks];by_cases V9:x=0
  ·have l3:k=m:=by omega
   subst l3;have Kg:pU k=mo n 0:=by unfold pU mo; rw[<-hm]; simp
   rw[Kg] at ay;clear bA js l9 ks;simp[V9];refine c7 8 (fun k ah l=>ah 0=.int .i64 n/\ah 4=.int .i64 (7 - (k:Int))/\∃ v j,ah 3=v/\cU v=false/\bX 1 l v j ((mo n k).map cd)) ?_ ?_
   ·rintro k ah l hk ⟨cC,bK,v,j,bh,ax,ay⟩;obtain⟨ah,rfl⟩:=kD cC bh bK;clear cC bh bK;unfold WL;obtain⟨c,al⟩:∃ c:Int,c=7 - (k:Int) :=⟨_,rfl⟩
    rw[<-al];by_cases ht:0<=c
    ·have xC:k<8:=by omega
     have xY:IntKind.i64.wrap (c - 1)=7 - ((k:Int)+1) :=by rw[wrap_i64 (by omega) (by omega)]; omega
     obtain⟨d,bN⟩:∃ d,d=8*c:=⟨_,rfl⟩
     have Kq:IntKind.i64.wrap (8*c)=d:=by rw[wrap_i64 (by omega) (by omega)]; omega
     have Je:0<=d:=by omega
     have aiu:d.toNat=56 - 8*k:=by omega
     have aj:=P6 (BitVec.ofNat 64 n*8#64) k xC;have kt:=EI n k;obtain⟨y,aK⟩:∃ y,y=(((BitVec.ofNat 64 n*8#64) >>> (56 - 8*k)).setWidth 8) :=⟨_,rfl⟩
     rw[<-aK] at aj;have mH:bX 1 (l++[bt.cells 1 [bI y]]) v j ((mo n k).map cd) :=ay.more _;obtain⟨bf,ct,l',h1,ag,ap,aJ,bd,bL⟩:=m5 (by_:=1) mH (x:=.ao 1 l.length 0 1 1 1) (xs:=[[bI y]]) (by simp[dv]) (by simp) (by omega) (by omega) (by simp; omega);have he:cU bf=false:=by rw[sC bL,ax]; rfl
     have fT:bX 1 l' bf ct ((mo n (k+1)).map cd) :=by rw[acQ n k y aj,List.map_append]; exact ag
     rw[BitVec.mul_comm] at aK;simp only[bI] at h1;simp[ht,Kq,Je,aiu];rw[<-aK];simp[h1];refine dK.cM ?_;simp[xY,xC];exact⟨he,ct,fT⟩
    ·have eH:k=8:=by omega
     subst eH;simp[ht];exact ay.Bi (fun _=>rfl) (some (tail n)) ax rfl
   ·simp;exact⟨ax,_,ay⟩
  ·have kt:=YE k;have mH:bX 1 (l++[bt.cells 1 [bI 0#8]]) v j ((pU k).map cd) :=ay.more _;obtain⟨bf,ct,l',h1,ag,ap,aJ,bd,bL⟩:=m5 (by_:=1) mH (x:=.ao 1 l.length 0 1 1 1) (xs:=[[bI 0#8]]) (by simp[dv]) (by simp) (by omega) (by omega) (by simp; omega);have he:cU bf=false:=by rw[sC bL,ax]; rfl
   have fT:bX 1 l' bf ct ((pU (k+1)).map cd) :=by rw[amO,List.map_append]; exact ag
   have l3:k<m:=by omega
   simp[bI] at h1;simp[V9,h1];refine dK.cM ?_;simp[l3];exact⟨he,ct,fT⟩
 ·simp;exact⟨rfl,0,.ao 0 1 1 1 [.int .u8 128] _ rfl rfl rfl (by intro e aw; simp[pU] at aw; subst aw; rfl) (Nat.le_refl _) (Nat.le_refl _) rfl⟩
set_option maxHeartbeats 8000000 in
theorem aob (h:eE) (b:List B) (ai:b.length<=100000000) :bR Tryz.prog GS 98 [.aV (h.l.map bE),cE (some b)] (.aV ((gV h b).1.l.map bE)) :=by
 refine cf Tryz.checked.mixed b2 ?_;apply bH SN abI;unfold H1 N1;have DB:∀ A:List ae,A.length=8->A.take 8=A:=fun A c2=>List.take_of_length_le (by omega)
 have U9:∀ s:eE,(s.l.map bE).length=8:=fun s=>rfl
 obtain⟨EX,vm⟩:∃ EX,EX=h.l.map bE:=⟨_,rfl⟩
 have aht:EX.length=8:=by rw[vm]; rfl
 rw[<-vm];simp[aht];refine c7 (b.length / 64) (fun k ah l=>ah 1=cE (some b)/\ah 2=.ptr 0 0 8/\ah 4=.ptr 1 0 8/\ah 5=.int .i64 (64*k:Nat)/\∃ s gD,gV s (b.drop (64*k))=gV h b/\l=[.cells 8 (s.l.map bE),.cells 8 gD]/\gD.length=8) ?_ ?_
 ·rintro k ah l hk ⟨aY,a2,bK,bw,s,gD,ar,rfl,iU⟩;obtain⟨ah,rfl⟩:=jg aY a2 bK bw;clear aY a2 bK bw;unfold XW;obtain⟨a,aG⟩:∃ a,a=64*k:=⟨_,rfl⟩
  rw[<-aG] at ar ⊢;obtain⟨bj,I4⟩:∃ bj,bj=64*(k+1) :=⟨_,rfl⟩
  rw[<-I4];obtain⟨A,c2⟩:∃ A,A=s.l.map bE:=⟨_,rfl⟩
  have jR:A.length=8:=by rw[c2]; rfl
  rw[<-c2];have bB:IntKind.i64.wrap ((a:Int)+64)=bj:=by rw[wrap_i64 (by omega) (by omega)]; omega
  by_cases du:bj<=b.length
  ·have Aj:(bj:Int)<=b.length:=by omega
   have eT:fQ (.ao 1) (cE (some b)) (some (.int .i64 (a:Int))) (some (.int .i64 (bj:Int))) none=some (cE (some ((b.drop a).take 64))) :=by
    unfold cE; rw[aoZ (by omega) (by omega) (by omega)];have:(bj:Int).toNat - (a:Int).toNat=64:=by omega
    rw[this,Int.toNat_natCast]
   have fh:64<=((b.drop a).take 64).length:=by simp; omega
   have qH:=ahn s _ fh;have sg:grind s ((b.drop a).take 64)=grind s (((b.drop a).take 64)) :=rfl;rw[<-c2] at qH;have cK:gV (grind s ((b.drop a).take 64)) (b.drop bj)=gV h b:=by
    rw[<-ar,zc s (b.drop a) (by simp; omega),List.drop_drop];congr 2; omega
   have gp:k<b.length / 64:=by omega
   have xg:bM A=true:=by rw[c2]; exact kK bE (fun _=>rfl) _
   obtain⟨EW,IK⟩:∃ EW,EW=(grind s ((b.drop a).take 64)).l.map bE:=⟨_,rfl⟩
   have ahw:EW.length=8:=by rw[IK]; rfl
   rw[<-IK] at qH;simp[bB,du,Aj,jR,DB A jR,eT];refine bC qH (by simp[bM,ae.closed,xg,lh]) ?_;simp[mn,jR,ahw,bB,gp];exact⟨_,cK,gD,⟨IK,rfl⟩,iU⟩
  ·have Aj:¬(bj:Int)<=b.length:=by omega
   have aw:=ar;rw[BX s (b.drop a) (by simp; omega)] at aw;rw[<-aw];have xg:bM A=true:=by rw[c2]; exact kK bE (fun _=>rfl) _
   simp[bB,du,Aj,jR,DB A jR,mn,iU];exact a1 (by rw[c2]) (by rw[c2] at xg; simp[ae.closed,xg])
 ·exact⟨rfl,rfl,rfl,rfl,h,rep 8 (.int .u32 0),rfl,by rw[vm]; rfl,rfl⟩
def rb (s:eE) (k:Nat) :List B:=(written s).take k++List.replicate (32 - k) 0#8
theorem amG (s:eE) (k:Nat) (hk:k<=32) :(rb s k).length=32:=by
 unfold rb;have:=EU s;simp; omega
theorem amH (s:eE) (k:Nat) (x:B) (aj:(written s)[k]? = some x) :(rb s k).set k x=rb s (k+1) :=by
 have hk:k<32:=(List.getElem?_eq_some_iff.1 aj).1;unfold rb;have au:(List.take k (written s)).length=k:=by have:=EU s; simp; omega
 rw[List.set_append_right _ _ (by omega),au,Nat.sub_self,List.take_add_one,aj,show 32 - k=(32 - (k+1))+1 by omega,List.replicate_succ,List.set_cons_zero];simp
theorem aqT (s:eE) (k:Nat) (hk:k<32) :∃ w,s.l[k / 4]? = some w/\(written s)[k]? = some ((w >>> (24 - 8*(k % 4))).setWidth 8) :=by
 have aT:∀ w:W,w=w >>> 0:=fun w=>by simp
 obtain⟨a,b,c,d,e,f,g,h⟩:=s;have:∀ (l:List W) (k:Nat),k<4*l.length->∃ w,l[k / 4]? = some w/\(l.map s5).flatten[k]? = some ((w >>> (24 - 8*(k % 4))).setWidth 8) :=by
  intro l
  induction l with
  | nil=>intro k hk; simp at hk
  | cons w l aL=>
   intro k hk
   match k,hk with
   | 0,_=>exact⟨w,rfl,rfl⟩
   | 1,_=>exact⟨w,rfl,rfl⟩
   | 2,_=>exact⟨w,rfl,rfl⟩
   | 3,_=>refine⟨w,rfl,?_⟩; simp[s5]
   | k+4,hk=>
    obtain⟨y,h1,ag⟩:=aL k (by simp at hk; omega);refine⟨y,?_,?_⟩
    ·rw[show (k+4) / 4=k / 4+1 by omega]; exact h1
    ·rw[show (k+4) % 4=k % 4 by omega]; exact ag
 exact this _ k (by simpa [eE.l] using hk)
set_option maxHeartbeats 8000000 in
theorem aoj (s:eE) :bR Tryz.prog GS 97 [.aV (s.l.map bE)] (fk (written s)) :=by
 refine cf Tryz.checked.mixed b2 ?_;apply bH SM abH;unfold H0 N0;obtain⟨A,c2⟩:∃ A,A=s.l.map bE:=⟨_,rfl⟩
 have jR:A.length=8:=by rw[c2]; rfl
 rw[<-c2];simp[jR];refine c7 32 (fun k ah l=>ah 1=.ptr 0 0 8/\ah 2=.ptr 1 0 32/\ah 3=.ptr 2 0 32/\ah 4=.int .i64 k/\∃ gD,l=[.cells 8 A,.cells 32 gD,.cells 32 ((rb s k).map bI)]/\gD.length=32) ?_ ?_
 ·rintro k ah l hk ⟨aY,a2,bh,bK,gD,rfl,iU⟩;obtain⟨ah,rfl⟩:=jg aY a2 bh bK;clear aY a2 bh bK;unfold XV;by_cases Jw:(k:Int)<32
  ·have gp:k<32:=by omega
   have eW:IntKind.i64.wrap ((k:Int)+1)=(k+1:Nat) :=wrap_i64 (by omega) (by omega);have J4:=FB k 4 (by omega) (by omega);have ks:=zd k 4 (by omega);rw[show ((4:Int).toNat)=4 from rfl] at J4 ks;obtain⟨w,bB,aj⟩:=aqT s k gp;obtain⟨q,bp⟩:∃ q,q=k / 4:=⟨_,rfl⟩
   obtain⟨r,aC⟩:∃ r,r=k % 4:=⟨_,rfl⟩
   rw[<-bp] at J4 bB;rw[<-aC] at ks aj;have J3:q<8:=by omega
   obtain⟨wn,VS⟩:∃ wn,wn=8*r:=⟨_,rfl⟩
   have Kq:IntKind.i64.wrap (8*(r:Int))=wn:=by rw[wrap_i64 (by omega) (by omega)]; omega
   obtain⟨uy,ajW⟩:∃ uy,uy=24 - wn:=⟨_,rfl⟩
   have aki:IntKind.i64.wrap (24 - (wn:Int))=uy:=by rw[wrap_i64 (by omega) (by omega)]; omega
   have l8:=amH s k _ aj;rw[<-VS,<-ajW] at aj l8;have dJ:=amG s k (by omega);have px:=mR bI (rb s k) k ((w >>> uy).setWidth 8) (by rw[dJ]; exact gp);rw[l8] at px;obtain⟨O,fq⟩:∃ O,O=(rb s k).map bI:=⟨_,rfl⟩
   have qz:O.length=32:=by rw[fq,List.length_map,dJ]
   rw[<-fq] at px ⊢;have ahx:A[q]? = some (bE w) :=by rw[c2,List.getElem?_map,bB]; rfl
   obtain⟨ahv,ahy⟩:=List.getElem?_eq_some_iff.1 ahx;have ajQ:q<=7:=by omega
   have ai6:k<=31:=by omega
   have ajR:(q:Int)<8:=by omega
   simp[Jw,gp,eW,J4,ks,Kq,aki,jR,J3,ahy,qz,px,iU,ajQ,ai6,ajR]
  ·have eH:k=32:=by omega
   subst eH;have ay:rb s 32=written s:=by unfold rb; rw[List.take_of_length_le (by rw[EU]; omega)]; simp
   rw[ay];obtain⟨O,fq⟩:∃ O,O=(written s).map bI:=⟨_,rfl⟩
   have qz:O.length=32:=by rw[fq,List.length_map,EU]
   have ahI:bM O=true:=by rw[fq]; exact kK bI (fun _=>rfl) _
   have aU:O.take 32=O:=List.take_of_length_le (by omega);unfold fk;rw[<-fq];simp[qz,aU,mn,iU];exact a1 rfl (by simp[ae.closed,ahI])
 ·refine⟨rfl,rfl,rfl,rfl,_,rfl,rfl⟩
set_option maxHeartbeats 8000000 in
theorem N8 (s:eD) (ar:s.l.length<=1000000) :bR Tryz.prog GS 67 [cE s] (fk (hy s.l)) :=by
 have kq:cT=140737488355328:=rfl;refine cf Tryz.checked.mixed b2 ?_;apply bH Sj abe;unfold HD NB;simp;refine bC agW rfl ?_;have amr:bX 1 ([bt.cells 32 (rep 32 (ae.int IntKind.u8 0))]++[bt.cells 0 []]) (.ao 1 1 0 0 0 0) 1 [] :=.ao 1 0 0 0 [] _ rfl rfl rfl (by simp) (Nat.le_refl _) (Nat.le_refl _) rfl;obtain⟨v,j,r,h1,ag,ap,aJ⟩:=y8 (by_:=1) amr (.inr (Nat.le_refl _)) (x:=cE s) (xs:=s.l.map cd) (by unfold cE; rw[zu,List.length_map]) (by intro e aw; obtain⟨x,_,rfl⟩:=List.mem_map.1 aw; rfl) (by omega) (by omega) (by rw[kq]; simp; omega);have ax:cU v=false:=by rw[aJ]; rfl
 simp only[List.nil_append,List.singleton_append] at h1 ag;have bA:c8 (.ao 1) (cE s)=some (.int .i64 s.l.length) :=oP _;have kt:=aoh s.l.length (by omega);have V3:(tail s.l.length).length<=80:=by rw[<-OM]; exact EI _ _
 obtain⟨bf,ct,cx,ci,b6,df,g5⟩:=y8 (by_:=1) (pre:=[bt.cells 32 (rep 32 (ae.int IntKind.u8 0))]) ag ap (x:=cE (some (tail s.l.length))) (xs:=(tail s.l.length).map cd) (by unfold cE; rw[zu,List.length_map]; rfl) (by intro e aw; obtain⟨x,_,rfl⟩:=List.mem_map.1 aw; rfl) (by omega) (by omega) (by rw[kq]; simp; omega);have he:cU bf=false:=by rw[g5,ax]; rfl
 rw[<-List.map_append] at b6;simp only[List.singleton_append] at ci b6;have j2:=b6.pX (fun _=>rfl) (some (s.l++tail s.l.length)) he rfl;have fh:=aob first (s.l++tail s.l.length) (by simp; omega)
 have Az:=aoj (gV first (s.l++tail s.l.length)).1;have nx:hy s.l=written (gV first (s.l++tail s.l.length)).1:=rfl;rw[<-nx] at Az;obtain⟨F,vp⟩:∃ F,F=(gV first (s.l++tail s.l.length)).1:=⟨_,rfl⟩
 rw[<-vp] at fh Az;simp[h1];refine dK.cM ?_;simp[bA];refine bC kt.yK rfl ?_;simp[ci];refine dK.cM ?_;simp;refine iF fh (.cons (.same _ ?_) (.cons j2 .nil)) (TL bE (fun _=>rfl) _) ?_
 ·simp[ae.closed,kK bE (fun _=>rfl)]
 simp;refine bC Az ?_ ?_
 ·simp[bM,ae.closed,kK bE (fun _=>rfl)]
 have eT:=sZ s.l;simp[fk,eT,mn,List.take_of_length_le];exact a1 rfl (by simp[ae.closed,kK bI (fun _=>rfl)])
end hA
end Go.cn

namespace Go.cn
open Go Go.Proofs Go.RowKit
set_option maxRecDepth 100000
open hA
theorem ac4 {e:TypeId} (aM:Tryz.prog.underlying e=some (.int .u8)) :∀ (n:Nat) {ts:List TypeId} {cs:List ae},dE Tryz.prog (List.replicate n e++ts) cs->∃ (x:List B) (cs' : List ae),cs=x.map bI++cs'/\x.length=n/\dE Tryz.prog ts cs'
 | 0,ts,cs,h=>⟨[],cs,rfl,rfl,h⟩
 | n+1,ts,cs,h=>by
  obtain⟨k,ve,rfl,h1,ag,ap⟩:=yL aM h;obtain⟨x,ho,rfl,aj,aJ⟩:=ac4 aM n ap;have bd:(0:Int)<=k:=h1;have bL:k<=255:=ag;refine⟨BitVec.ofNat 8 k.toNat::x,ho,?_,by simp[aj],aJ⟩;have:((BitVec.ofNat 8 k.toNat).toNat:Int)=k:=by
   rw[BitVec.toNat_ofNat,Nat.mod_eq_of_lt (by omega)]; omega
  simp[bI,u]; omega
theorem ac7 {ts:List TypeId} {cs:List ae} (h:dE Tryz.prog (27::ts) cs) :∃ (x:BitVec 64) (cs' : List ae),cs=dG x::cs'/\dE Tryz.prog ts cs':=by
 obtain⟨k,ve,rfl,h1,ag,ap⟩:=yL (k:=.u64) (by kernel_rfl) h;have bd:(0:Int)<=k:=h1;have bL:k<=18446744073709551615:=ag;refine⟨BitVec.ofNat 64 k.toNat,ve,?_,ap⟩;have:((BitVec.ofNat 64 k.toNat).toNat:Int)=k:=by
  rw[BitVec.toNat_ofNat,Nat.mod_eq_of_lt (by omega)]; omega
 simp[dG,u]; omega
def KP:List Int:=hA.bV.map fun k=>(k.toNat:Int)
theorem apE:yI=KP.map fun k=>.int .u32 k:=by unfold yI KP; rw[List.map_map]; rfl
theorem alE {W:World} (h:laidMetH Tryz.prog [("braid/digest.constants",Go.Proofs.YtboebmmklamaeaaGreatDoor.Rows.laid_braid_digest_constants)] W) :∀ g,e7 W (fun _=>True) (GS g) (.pointer (some ⟨g,0,none⟩)) :=by
 intro g;unfold GS;split
 ·rename_i ai;have:=Nat.eq_of_beq_eq_true ai;subst this;rw[MakeChecks.laidMetH_plain _ _ _ (by kernel_rfl)] at h;obtain⟨cH,⟨cC,t0,mC,f0,gl,g7,aiM,Kg,h9,Je,_,_⟩,_,_⟩:=h;have aZ:Tryz.prog.globalNamed "braid/digest.constants"=some 1:=by kernel_rfl
  have b4:(Tryz.prog.globals[1]?).map (·.type)=some 236:=by kernel_rfl
  obtain rfl:=Option.some.inj (aZ.symm.trans aiM);obtain rfl:=Option.some.inj (b4.symm.trans Kg);rw[apE];exact ahc KP aZ h9 (n:=64) (e:=25) (by kernel_rfl) (by kernel_rfl) (by kernel_rfl) Je (by rfl)
 ·exact .bad _
end Go.cn

namespace Go.cn
open Go Go.Proofs
set_option maxRecDepth 100000
open hA
def BU:ae->Option B
 | .int .u8 (.ofNat n)=>match Nat.ble n 255 with | true=>some (BitVec.ofNat 8 n) | false=>none
 | _=>none
theorem aex {c:ae} {b:B} (h:BU c=some b) :c=bI b:=by
 unfold BU at h;split at h
 ·split at h
  ·rename_i n _ aH;have:=Nat.le_of_ble_eq_true aH;cases h;simp only[bI,u,BitVec.toNat_ofNat];congr 1;show (n:Int)=((n % 2 ^ 8:Nat) :Int)
   rw[Nat.mod_eq_of_lt (show n<2 ^ 8 by omega)]
  ·cases h
 ·cases h
def P3:List ae->Option (List B)
 | []=>some []
 | c::r=>match BU c with
  | some b=>match P3 r with | some l=>some (b::l) | none=>none
  | none=>none
def ib:ae->Option (List B)
 | .aV cs=>match P3 cs with | some l=>(match Nat.beq l.length 32 with | true=>some l | false=>none) | none=>none
 | _=>none
def Ew:List (List ae)->Option (List B)
 | []=>some []
 | [c] ::r=>match BU c with
  | some b=>match Ew r with | some l=>some (b::l) | none=>none
  | none=>none
 | _=>none
theorem acb:∀ {es:List (List ae)} {l:List B},Ew es=some l->es=l.map cd
 | [],l,h=>by cases h; rfl
 | e::r,l,h=>by
  unfold Ew at h;split at h
  ·rename_i aZ; cases aZ
  ·rename_i c cx aZ;cases aZ;split at h
   ·rename_i b ai;split at h
    ·rename_i l' au;cases h;rw[aex ai,acb au]; rfl
    ·cases h
   ·cases h
  ·cases h
def zf:ae->Option eD
 | .aX=>some none
 | .b0 1 es=>match Ew es with | some l=>some (some l) | none=>none
 | _=>none
theorem FC {c:ae} {s:eD} (h:zf c=some s) :c=cE s:=by
 unfold zf at h;split at h
 ·cases h; rfl
 ·split at h
  ·rename_i l au;cases h;rw[acb au]; rfl
  ·cases h
 ·cases h
def acJ:List ae->Option ae
 | [c]=>match zf c with
  | some s=>match Nat.ble s.l.length 10000 with | true=>some (.bU [fk (hy s.l),.int .i64 0]) | false=>none
  | none=>none
 | _=>none
abbrev j9:FuncId × Bool × (List ae->Option ae) :=(73,false,acJ)
theorem acL:rE Tryz.prog GS j9:=by
 intro args r h;refine⟨?_,fun h=>by cases h⟩;simp only[acJ] at h;split at h
 ·split at h
  ·rename_i c s ar;split at h
   ·rename_i aH;cases h;rw[FC ar];exact acM s (Nat.le_of_ble_eq_true aH)
   ·cases h
  ·cases h
 ·cases h
def ab0:List ae->Option ae
 | [c]=>match zf c with
  | some s=>match Nat.ble s.l.length 1000000 with | true=>some (fk (hy s.l)) | false=>none
  | none=>none
 | _=>none
abbrev Bl:FuncId × Bool × (List ae->Option ae) :=(67,false,ab0)
theorem Ep:rE Tryz.prog GS Bl:=by
 intro args r h;refine⟨?_,fun h=>by cases h⟩;simp only[ab0] at h;split at h
 ·split at h
  ·rename_i c s ar;split at h
   ·rename_i aH;cases h;rw[FC ar];exact N8 s (Nat.le_of_ble_eq_true aH)
   ·cases h
  ·cases h
 ·cases h
end Go.cn

namespace Go.cn
open Go Go.Proofs Go.Sort Go.Shelf
set_option maxRecDepth 100000
open hA
def cN:List B->List B->Int
 | [],[]=>0
 | [],_::_=>-1
 | _::_,[]=>1
 | a::k5,b::mh=>if a.toNat<b.toNat then -1 else if b.toNat<a.toNat then 1 else cN k5 mh
theorem S5 (a b:B) (k5 mh:List B) :cN (a::k5) (b::mh)=if a.toNat<b.toNat then -1 else if b.toNat<a.toNat then 1 else cN k5 mh:=rfl
theorem qo:∀ a:List B,cN a a=0
 | []=>rfl
 | a::k5=>by unfold cN; simp; exact qo k5
theorem zp:∀ {a b:List B},cN a b=0->a=b
 | [],[],_=>rfl
 | [],_::_,h=>by simp[cN] at h
 | _::_,[],h=>by simp[cN] at h
 | a::k5,b::mh,h=>by
  unfold cN at h;split at h
  ·cases h
  ·split at h
   ·cases h
   ·have h1:a=b:=BitVec.eq_of_toNat_eq (by omega);rw[h1,zp h]
theorem Cc:∀ a b:List B,cN b a=- cN a b
 | [],[]=>rfl
 | [],_::_=>rfl
 | _::_,[]=>rfl
 | a::k5,b::mh=>by
  unfold cN;by_cases h1:a.toNat<b.toNat
  ·simp[h1,show ¬ b.toNat<a.toNat by omega]
  ·by_cases ag:b.toNat<a.toNat
   ·simp[h1,ag]
   ·simp[h1,ag]; exact Cc k5 mh
theorem S4:∀ a b:List B,cN a b=-1\/cN a b=0\/cN a b=1
 | [],[]=>by simp[cN]
 | [],_::_=>by simp[cN]
 | _::_,[]=>by simp[cN]
 | a::k5,b::mh=>by
  unfold cN;split
  ·simp
  ·split
   ·simp
   ·exact S4 k5 mh
theorem zq:∀ a b c:List B,cN a b<0->cN b c<0->cN a c<0
 | [],[],_,h,_=>by simp[cN] at h
 | [],_::_,[],_,h=>by simp[cN] at h
 | [],_::_,_::_,_,_=>by simp[cN]
 | _::_,[],_,h,_=>by simp[cN] at h
 | _::_,_::_,[],_,h=>by simp[cN] at h
 | a::k5,b::mh,c::an3,h1,ag=>by
  unfold cN at h1 ag ⊢;have aL:=zq k5 mh an3
  repeat' split at h1
  all_goals repeat' split at ag
  all_goals repeat' split
  all_goals first | omega | (exact aL h1 ag) | (exfalso; omega) | skip
theorem afT {a b:List B} (k:Nat) (h:∀ j,j<k->a[j]? = b[j]?) (aG:k<=a.length) (ai:k<=b.length) :cN (a.drop k) (b.drop k)=cN a b:=by
 induction k with
 | zero=>simp
 | succ k aL=>
  rw[<-aL (fun j am=>h j (by omega)) (by omega) (by omega)];have h1:=h k (by omega);rw[List.drop_eq_getElem_cons (l:=a) (i:=k) (by omega),List.drop_eq_getElem_cons (l:=b) (i:=k) (by omega)];rw[List.getElem?_eq_getElem (by omega),List.getElem?_eq_getElem (by omega)] at h1;have ag:=Option.some.inj h1
  conv=>rhs; unfold cN
  rw[ag];simp
end Go.cn

namespace Go.cn
open Go Go.Proofs
set_option maxRecDepth 100000
namespace Op
open hA
abbrev Q:=BitVec 64
abbrev D:=BitVec 32
theorem OY:(u (1#64) :Int)=1:=rfl
def eF (x:D) :List ae:=[bE x]
def pP (l:List D) :Q:=l.foldl (fun o x=>o*x.setWidth 64 % 1000000007#64) 1#64
theorem al6 (l:List D) (k:Nat) (x:D) (h:l[k]? = some x) :pP (l.take (k+1))=pP (l.take k)*x.setWidth 64 % 1000000007#64:=by
 rw[List.take_add_one,h]; simp[pP,List.foldl_append]
theorem Er (x:Q) :cr .rem .u64 (u x) .u64 1000000007=some (.int .u64 (u (x % 1000000007#64))) :=wO x 1000000007#64 (by decide)
theorem Lb (l:List D) (au:l.length<=1000) :bR Tryz.prog GS 191 [.int .u64 1000000007,cO 1 eF (some l)] (bE ((pP l).setWidth 32)) :=by
 refine cf Tryz.checked.mixed b2 ?_;apply bH Rs aal;unfold GV MU;have bA:c8 (.ao 1) (cO 1 eF (some l))=some (.int .i64 l.length) :=oP _;simp[bA];refine c7 l.length (fun k ah _=>ah 0=.int .u64 1000000007/\ah 5=dG (pP (l.take k))/\ah 8=cO 1 eF (some l)/\ah 9=.int .i64 l.length/\ah 10=.int .i64 k) ?_ (by simp[pP]; rfl);rintro k ah h hk ⟨cC,bw,ek,g0,fB⟩;obtain⟨ah,rfl⟩:=k7 cC bw ek g0 fB;clear cC bw ek g0 fB;unfold Xg;by_cases h:k<l.length
 ·obtain⟨x,aj,_⟩:=ck h;have cV:cS (.ao 1) (cO 1 eF (some l)) (.int .i64 k)=some (.cq (eF x) 0) :=by rw[pB]; simp[aj]
  have eW:IntKind.i64.wrap ((k:Int)+1)=(k+1:Nat) :=wrap_i64 (by omega) (by omega);have ar:=al6 l k x aj;simp[h,cV,eF,eW,Er];rw[<-ar]
 ·have eH:k=l.length:=by omega
  subst eH;simp;exact a1 rfl rfl
def fm (a n:Nat) :Nat:=a ^ n % 1000000007
theorem wk (a n:Nat) :fm a n<1000000007:=Nat.mod_lt _ (by decide)
theorem YR (a n:Nat) :fm a n*fm a n % 1000000007=fm a (2*n) :=by
 unfold fm; rw[<-Nat.mul_mod,<-Nat.pow_add]; congr 2; omega
theorem YP (a n:Nat) :fm a n*a % 1000000007=fm a (n+1) :=by
 unfold fm; rw[Nat.mod_mul_mod,Nat.pow_succ]
def gm (a:D) (n:Nat) :D:=BitVec.ofNat 32 (fm a.toNat n)
theorem pV (a:D) (n:Nat) :(gm a n).toNat=fm a.toNat n:=by
 have:=wk a.toNat n;unfold gm; rw[BitVec.toNat_ofNat]; exact Nat.mod_eq_of_lt (by omega)
theorem La (x y:D) (aj:x.toNat<1000000007) :(pP [x,y]).setWidth 32=BitVec.ofNat 32 (x.toNat*y.toNat % 1000000007) :=by
 apply BitVec.eq_of_toNat_eq;have aK:=y.isLt;have h1:x.toNat*y.toNat<1000000007*4294967296:=by
  calc x.toNat*y.toNat<=1000000007*y.toNat:=Nat.mul_le_mul_right _ (by omega)
   _<1000000007*4294967296:=Nat.mul_lt_mul_of_pos_left (by simpa using aK) (by decide)
 have ag:(1#64*x.setWidth 64 % 1000000007#64).toNat=x.toNat:=by
  rw[BitVec.one_mul,BitVec.toNat_umod,BitVec.toNat_setWidth];rw[Nat.mod_eq_of_lt (show x.toNat<2 ^ 64 by omega),show (1000000007#64).toNat=1000000007 from rfl,Nat.mod_eq_of_lt aj]
 simp only[pP,List.foldl_cons,List.foldl_nil,BitVec.toNat_setWidth,BitVec.toNat_umod,BitVec.toNat_mul,ag,BitVec.toNat_ofNat];rw[Nat.mod_eq_of_lt (show y.toNat<2 ^ 64 by omega),Nat.mod_eq_of_lt (show x.toNat*y.toNat<2 ^ 64 by omega),Nat.mod_eq_of_lt (show 1000000007<2 ^ 64 by decide)]
theorem al7 (a:D) (n:Nat) :(pP [gm a n,gm a n]).setWidth 32=gm a (2*n) :=by
 rw[La _ _ (by rw[pV]; exact wk _ _),pV,YR]; rfl
theorem mul_one (a:D) (n:Nat) :(pP [gm a n,a]).setWidth 32=gm a (n+1) :=by
 rw[La _ _ (by rw[pV]; exact wk _ _),pV,YP]; rfl
theorem Bh {l:av} {b:Nat} {x y:D} (h:l[b]? = some (.cells 2 [bE x,bE y])) :fy (b3 l) (.ao 1 b 0 2 2 2) (cO 1 eF (some [x,y])) :=by
 refine Bg (rest:=[]) (es:=[[bE x],[bE y]]) (by simpa using h) rfl (by simp) (by simp[bM,ae.closed])
theorem ag1:h5 Tryz.prog 196=true:=by kernel_rfl
theorem api {x:D} {l:av} {K:ae->av->Prop} (a8:∀ v rest,K v (.cells 1 [bE ((pP [x,x]).setWidth 32)] ::rest)) :dh Tryz.prog GS 196 [.ptr 0 0 1] (.cells 1 [bE x] ::l) (c:=⟨K⟩) :=by
 apply bH Rw aap;unfold G0 MY;simp;refine iF (Lb [x,x] (by simp)) (.cons (.same _ rfl) (.cons (Bh (by simp)) .nil)) rfl ?_;simp;exact a8 _ _
theorem UC (n k:Nat) (hk:k<64) :n / 2 ^ (63 - k)=2*(n / 2 ^ (64 - k))+n / 2 ^ (63 - k) % 2:=by
 have:2 ^ (64 - k)=2 ^ (63 - k)*2:=by rw[<-Nat.pow_succ]; congr 1; omega
 rw[this,<-Nat.div_div_eq_div_mul]; omega
theorem Ef (a:D) (n:Q) :bR Tryz.prog GS 183 [bE a,dG n] (bE (gm a n.toNat)) :=by
 refine cf Tryz.checked.mixed b2 ?_;apply bH Rj aac;unfold GJ MM;simp;refine c7 64 (fun k ah l=>ah 0=bE a/\ah 1=dG n/\ah 5=.ptr 0 0 1/\ah 6=.fn 196 [] [.ptr 0 0 1]/\ah 9=.int .i64 k/\∃ r,l=.cells 1 [bE (gm a (n.toNat / 2 ^ (64 - k)))] ::r) ?_ (by
  have:n.toNat / 2 ^ 64=0:=Nat.div_eq_of_lt n.isLt;simp[this,gm,fm]; rfl)
 rintro k ah l hk ⟨cC,aY,bw,cl,g0,r,rfl⟩;obtain⟨ah,rfl⟩:=k7 cC aY bw cl g0;clear cC aY bw cl g0;unfold Xa;by_cases h:(k:Int)<64
 ·have eW:IntKind.i64.wrap ((k:Int)+1)=(k+1:Nat) :=wrap_i64 (by omega) (by omega);have vY:IntKind.i64.wrap (63 - (k:Int))=((63 - k:Nat) :Int) :=by rw[wrap_i64 (by omega) (by omega)]; omega
  have ai:=UC n.toNat k (by omega);have nx:cr .shr .u64 (u n) .i64 ((63 - k:Nat) :Int)=some (.int .u64 (u (n >>> (63 - k)))) :=rN n .i64 (63 - k);have ahr:64 - (k+1)=63 - k:=by omega
  simp[h,eW];refine⟨ag1,?_⟩;simp;refine api fun v rest=>?_
  simp[vY,nx,al7];rw[ahr];by_cases ay:n.toNat / 2 ^ (63 - k) % 2=1
  ·have Ja:n >>> (63 - k) &&& 1#64=1#64:=by
    apply BitVec.eq_of_toNat_eq;rw[BitVec.toNat_and,BitVec.toNat_ushiftRight,Nat.shiftRight_eq_div_pow];show _ &&& 1=1;rw[Nat.and_one_is_mod,ay]
   rw[ay] at ai;have bp:gm a (2*(n.toNat / 2 ^ (64 - k))+1)=gm a (n.toNat / 2 ^ (63 - k)) :=by rw[<-ai]
   simp[Ja,OY];refine iF (Lb [gm a (2*(n.toNat / 2 ^ (64 - k))),a] (by simp)) (.cons (.same _ rfl) (.cons (Bh (by simp)) .nil)) rfl ?_;rw[mul_one,bp];simp[eW];omega
  ·have ay:n.toNat / 2 ^ (63 - k) % 2=0:=by omega
   have Ja:n >>> (63 - k) &&& 1#64=0#64:=by
    apply BitVec.eq_of_toNat_eq;rw[BitVec.toNat_and,BitVec.toNat_ushiftRight,Nat.shiftRight_eq_div_pow];show _ &&& 1=0;rw[Nat.and_one_is_mod,ay]
   rw[ay,Nat.add_zero] at ai;simp[Ja,eW];rw[<-ai];exact⟨by omega,rfl⟩
 ·have eH:k=64:=by omega
  subst eH;simp;exact a1 rfl rfl
theorem LM (a b:Q) (ai:b≠0#64) :cr .quo .u64 (u a) .u64 (u b)=some (.int .u64 (u (a / b))) :=by
 have bP:(b.toNat:Int)≠0:=fun e=>ai (BitVec.eq_of_toNat_eq (by simpa using e))
 show (if IntKind.u64=IntKind.u64/\(b.toNat:Int)≠0 then some (ae.int .u64 (IntKind.u64.wrap ((a.toNat:Int).tdiv b.toNat))) else none)=_;rw[if_pos ⟨rfl,bP⟩,uV];congr 2;have:((a.toNat:Int).tdiv b.toNat)=((a.toNat / b.toNat:Nat) :Int) :=rfl;rw[this,BitVec.ofInt_natCast];congr 1;apply BitVec.eq_of_toNat_eq;rw[BitVec.toNat_ofNat,BitVec.toNat_udiv];exact Nat.mod_eq_of_lt (Nat.lt_of_le_of_lt (Nat.div_le_self _ _) a.isLt)
theorem Y2 (x:Q) :cr .quo .u64 (u x) .u64 2=some (.int .u64 (u (x / 2#64))) :=LM x 2#64 (by decide)
theorem ab2 (x:Q) :cr .rem .u64 (u x) .u64 2=some (.int .u64 (u (x % 2#64))) :=wO x 2#64 (by decide)
theorem yc (x y:Q) (aj:x.toNat<4294967296) (aK:y.toNat<4294967296) :(x*y % 1000000007#64).toNat=x.toNat*y.toNat % 1000000007:=by
 have h1:x.toNat*y.toNat<18446744073709551616:=by
  calc x.toNat*y.toNat<=4294967295*y.toNat:=Nat.mul_le_mul_right _ (by omega)
   _<=4294967295*4294967295:=Nat.mul_le_mul_left _ (by omega)
   _<18446744073709551616:=by decide
 rw[BitVec.toNat_umod,BitVec.toNat_mul,Nat.mod_eq_of_lt (show x.toNat*y.toNat<2 ^ 64 by omega)]; rfl
theorem am8 (o b m:Nat) (h:m % 2=1) :o*b % 1000000007*(b*b % 1000000007) ^ (m / 2) % 1000000007=o*b ^ m % 1000000007:=by
 have hm:m=2*(m / 2)+1:=by omega
 rw[Nat.mul_mod,Nat.mod_mod,Nat.pow_mod (b*b % 1000000007),Nat.mod_mod,<-Nat.pow_mod,<-Nat.mul_mod];congr 1;rw[Nat.mul_pow,Nat.mul_assoc,<-Nat.pow_add]
 conv=>rhs; rw[hm,Nat.pow_succ]
 rw[Nat.mul_comm b,show 2*(m / 2)=m / 2+m / 2 by omega]
theorem am7 (o b m:Nat) (h:m % 2=0) :o*(b*b % 1000000007) ^ (m / 2) % 1000000007=o*b ^ m % 1000000007:=by
 have hm:m=2*(m / 2) :=by omega
 rw[Nat.mul_mod,Nat.pow_mod (b*b % 1000000007),Nat.mod_mod,<-Nat.pow_mod,<-Nat.mul_mod];congr 1;rw[Nat.mul_pow,<-Nat.pow_add]
 conv=>rhs; rw[hm]
 rw[show 2*(m / 2)=m / 2+m / 2 by omega]
theorem YT (a n:Q) (aG:a.toNat<4294967296) :bR Tryz.prog GS 95 [dG a,dG n,.int .u64 1000000007] (dG (BitVec.ofNat 64 (fm a.toNat n.toNat))) :=by
 refine cf Tryz.checked.mixed b2 ?_;apply bH SK abF;unfold HY NY;simp;refine uo (fun m ah _=>∃ o b c:Q,c.toNat=m/\o.toNat<1000000007/\b.toNat<4294967296/\o.toNat*b.toNat ^ m % 1000000007=fm a.toNat n.toNat/\ah 0=dG b/\ah 1=dG c/\ah 2=.int .u64 1000000007/\ah 7=dG o) ?_ n.toNat _ _ ⟨1#64,a,n,rfl,by decide,aG,by simp[fm],by simp; rfl⟩;rintro m ah l ⟨o,b,c,al,ay,ai,aE,cC,aY,a2,dx⟩;obtain⟨ah,rfl⟩:=jg cC aY a2 dx;clear cC aY a2 dx;unfold XU;have j0:(u c:Int)=(m:Int) :=by unfold u; rw[al]
 by_cases hm:m=0
 ·subst hm;have aT:c=0#64:=BitVec.eq_of_toNat_eq (by simpa using al);simp[aT];refine a1 ?_ rfl;rw[Nat.pow_zero,Nat.mul_one,Nat.mod_eq_of_lt ay] at aE;rw[<-aE,BitVec.ofNat_toNat,BitVec.setWidth_eq]
 ·have xm:c≠0#64:=fun e=>hm (by rw[<-al,e]; rfl)
  have aP:(0:Int)<u c:=by rw[j0]; omega
  have Va:(c / 2#64).toNat=m / 2:=by rw[BitVec.toNat_udiv,al]; rfl
  have Vx:(c % 2#64).toNat=m % 2:=by rw[BitVec.toNat_umod,al]; rfl
  have ca:(b*b % 1000000007#64).toNat<4294967296:=by
   rw[yc b b ai ai]; have:=Nat.mod_lt (b.toNat*b.toNat) (show 1000000007 > 0 by decide); omega
  by_cases VI:m % 2=1
  ·have h1:c % 2#64=1#64:=BitVec.eq_of_toNat_eq (by rw[Vx,VI]; rfl);simp[aP,Er,Y2,ab2,h1,OY];have fj:o.toNat<4294967296:=by omega
   refine⟨m / 2,by omega,_,_,_,Va,?_,ca,?_,rfl,rfl,rfl⟩
   ·rw[yc o b fj ai]; exact Nat.mod_lt _ (by decide)
   ·rw[yc o b fj ai,yc b b ai ai,am8 _ _ _ VI,aE]
  ·have h1:c % 2#64=0#64:=BitVec.eq_of_toNat_eq (by rw[Vx]; simp; omega);simp[aP,Er,Y2,ab2,h1,OY];refine⟨m / 2,by omega,_,_,_,Va,ay,ca,?_,rfl,rfl,rfl⟩;rw[yc b b ai ai,am7 _ _ _ (by omega),aE]
def fG (a:D) :Bool:=decide (0<a.toNat)&&decide (a.toNat<1000000007)&&decide (fm a.toNat 500000003=1)
theorem KG (a:D) :bR Tryz.prog GS 151 [bE a] (.bool (fG a)) :=by
 refine cf Tryz.checked.mixed b2 ?_;apply bH QS ZK;unfold Ge Mn fG;have h1:((0:Int)<u a)<->0<a.toNat:=by unfold u; omega
 have ag:(u a<(1000000007:Int))<->a.toNat<1000000007:=by unfold u; omega
 by_cases aY:0<a.toNat
 ·by_cases a2:a.toNat<1000000007
  ·simp[h1,ag,aY,a2];refine bC (Ef a 500000003#64) rfl ?_;have ap:(u (gm a 500000003)=(1:Int))<->fm a.toNat 500000003=1:=by unfold u; rw[pV]; omega
   have aJ:(500000003#64:Q).toNat=500000003:=rfl;rw[aJ];simp[ap];exact a1 (by simp[aY,a2]) rfl
  ·simp[h1,ag,aY,a2];exact a1 rfl rfl
 ·simp[h1,aY];exact a1 rfl rfl
theorem abZ (a:D) :bR Tryz.prog GS 64 [bE a] (.bool (fG a)) :=by
 refine cf Tryz.checked.mixed b2 ?_;apply bH Sg aa9;unfold HA Ny fG;have h1:((1:Int)<=u a)<->0<a.toNat:=by unfold u; omega
 have ag:(u a<(1000000007:Int))<->a.toNat<1000000007:=by unfold u; omega
 by_cases aY:0<a.toNat
 ·by_cases a2:a.toNat<1000000007
  ·simp[h1,ag,aY,a2];refine bC (YT (a.setWidth 64) 500000003#64 (by rw[BitVec.toNat_setWidth]; omega)) rfl ?_;have bd:(a.setWidth 64:Q).toNat=a.toNat:=by rw[BitVec.toNat_setWidth]; omega
   have aJ:(500000003#64:Q).toNat=500000003:=rfl;have bL:=wk a.toNat 500000003;have ap:(u (BitVec.ofNat 64 (fm a.toNat 500000003))=(1:Int))<->fm a.toNat 500000003=1:=by unfold u; rw[BitVec.toNat_ofNat,Nat.mod_eq_of_lt (by omega)]; omega
   rw[aJ,bd];simp[ap];exact a1 (by simp[aY,a2]) rfl
  ·simp[h1,ag,aY,a2];exact a1 rfl rfl
 ·simp[h1,aY];exact a1 rfl rfl
def iu (a:D) :Bool:=decide (a.toNat<500000003)
theorem Cr (a:D) :bR Tryz.prog GS 66 [bE a] (.bool (iu a)) :=by
 refine cf Tryz.checked.mixed b2 ?_;apply bH Si abd;unfold HC NA iu;have ag:(u (a.setWidth 64)<(500000003:Int))<->a.toNat<500000003:=by unfold u; rw[BitVec.toNat_setWidth]; omega
 simp[ag];exact a1 rfl rfl
@[simp] theorem arV (a b:List UInt8) :pf .eql a b=some (.bool (decide (a=b))) :=by
 by_cases h:a=b<;>simp[pf,h]
@[simp] theorem arY (a b:List UInt8) :pf .neq a b=some (.bool (!decide (a=b))) :=by
 by_cases h:a=b<;>simp[pf,h]
abbrev mD (s:List UInt8) (pos:Nat) :Nat × Nat:=Utf8.decode ⟨s.toArray⟩ pos
theorem Ub (s:List UInt8) (pos:Nat) (b:UInt8) (h:s[pos]? = some b) :(ByteArray.get! ⟨s.toArray⟩ pos)=b:=by
 show (s.toArray)[pos]! = b;obtain⟨h1,ag⟩:=List.getElem?_eq_some_iff.1 h;simp[h1,ag]
theorem agb {s:List UInt8} {pos:Nat} {b:UInt8} (h:s[pos]? = some b) (ai:b.toNat<128) :mD s pos=(b.toNat,1) :=by
 unfold mD;rw[Lib.decode_at,Ub s pos b h];unfold Lib.decodeN;rw[if_pos ai]
theorem aga {s:List UInt8} {pos:Nat} {b:UInt8} (h:s[pos]? = some b) (ai:128<=b.toNat) :128<=(mD s pos).1:=by
 unfold mD;rw[Lib.decode_at,Ub s pos b h];unfold Lib.decodeN;rw[if_neg (by omega)]
 repeat' split
 all_goals (simp only; omega)
theorem Tj (s:List UInt8) (pos:Nat) :1<=(mD s pos).2:=by
 unfold mD;rw[Lib.decode_at];unfold Lib.decodeN
 repeat' split
 all_goals simp only<;>omega
def j4 (p:Nat->Bool) (s:List UInt8) :Nat->Nat->Int
 | 0,_=>-1
 | n+1,pos=>if pos<s.length then (if p (mD s pos).1 then (pos:Int) else j4 p s n (pos+(mD s pos).2)) else -1
theorem KL (p:Nat->Bool) (s:List UInt8) :∀ (n pos:Nat),s.length - pos<=n->j4 p s n pos=j4 p s (s.length - pos) pos
 | 0,pos,h=>by rw[show s.length - pos=0 by omega]
 | n+1,pos,h=>by
  by_cases aE:pos<s.length
  ·have bB:=Tj s pos;rw[show s.length - pos=(s.length - pos - 1)+1 by omega];unfold j4;rw[if_pos aE,if_pos aE,KL p s n _ (by omega),KL p s (s.length - pos - 1) _ (by omega)]
  ·rw[show s.length - pos=0 by omega];unfold j4;rw[if_neg aE]
def lN (cW r:Nat) :Bool:=decide (r<cW)||decide (126<r)
def gP (cW:Nat) (b:UInt8) :Bool:=decide (cW<=b.toNat)&&decide (b.toNat<=126)
theorem KK (cW:Nat) (ep:cW<=128) (s:List UInt8) :∀ (n pos:Nat),s.length - pos<=n->(j4 (lN cW) s n pos<0<->(s.drop pos).all (gP cW)=true)
 | 0,pos,h=>by
  rw[List.drop_eq_nil_of_le (by omega)];simp[j4]
 | n+1,pos,h=>by
  unfold j4;by_cases aE:pos<s.length
  ·rw[if_pos aE,List.drop_eq_getElem_cons aE,List.all_cons];have eQ:s[pos]? = some s[pos] :=List.getElem?_eq_getElem aE;obtain⟨b,ai⟩:∃ b,b=s[pos] :=⟨_,rfl⟩
   rw[<-ai] at eQ ⊢;by_cases ar:b.toNat<128
   ·rw[agb eQ ar];simp only;have eb:gP cW b=!lN cW b.toNat:=by
     unfold gP lN;by_cases h1:b.toNat<cW<;>by_cases ag:126<b.toNat<;>simp[h1,ag]<;>omega
    cases pk:lN cW b.toNat with
    | true=>rw[eb,pk]; simp
    | false=>
     rw[eb,pk];simp only[Bool.false_eq_true,if_false,Bool.not_false,Bool.true_and];exact KK cW ep s n (pos+1) (by omega)
   ·have az:=aga eQ (by omega);have pk:lN cW (mD s pos).1=true:=by unfold lN; simp; omega
    have eb:gP cW b=false:=by unfold gP; simp; omega
    rw[pk,eb]; simp
  ·rw[if_neg aE,List.drop_eq_nil_of_le (by omega)];simp
theorem amc {s:List UInt8} {pos:Nat} {r:av} (h:pos<s.length) :sM (.iter s pos::r) (.it 0)=some (.bU [.bool true,.int .i64 pos,.int .i32 (mD s pos).1],.iter s (pos+(mD s pos).2) ::r) :=by
 unfold sM;simp only[List.getElem?_cons_zero];rw[show Nat.blt pos s.length=true from Nat.ble_eq_true_of_le h];rfl
theorem amb {s:List UInt8} {pos:Nat} {r:av} (h:¬ pos<s.length) :sM (.iter s pos::r) (.it 0)=some (.bU [.bool false],.iter s pos::r) :=by
 unfold sM;simp only[List.getElem?_cons_zero];rw[show Nat.blt pos s.length=false by cases ai:Nat.blt pos s.length with | false=>rfl | true=>exact absurd (Nat.le_of_ble_eq_true ai) h]
theorem aky {g:FuncId} {p:Nat->Bool} (az:h5 Tryz.prog g=true) (aE:∀ r:Nat,bR Tryz.prog GS g [.int .i32 r] (.bool (p r))) (s:List UInt8) :
  bR Tryz.prog GS 162 [.str s,.fn g [] [],.bool true] (.int .i64 (j4 p s s.length 0)) :=by
 refine cf Tryz.checked.mixed b2 ?_;apply bH Q1 ZT;unfold Gp Mx;simp[yv];refine uo (fun m ah l=>∃ pos,s.length - pos=m/\j4 p s m pos=j4 p s s.length 0/\ah 1=.fn g [] []/\ah 2=.bool true/\ah 10=.it 0/\l=[.iter s pos]) ?_ s.length _ _ ⟨0,by simp⟩;rintro m ah l ⟨pos,hm,aA,aY,a2,fB,rfl⟩;obtain⟨ah,rfl⟩:=kD aY a2 fB;clear aY a2 fB;unfold W8;by_cases h:pos<s.length
 ·have fE:m=(m - 1)+1:=by omega
  have bB:=Tj s pos;obtain⟨R,ki⟩:∃ R,R=j4 p s s.length 0:=⟨_,rfl⟩
  rw[<-ki] at aA ⊢;rw[fE] at aA;unfold j4 at aA;rw[if_pos h] at aA;simp[amc h];refine⟨az,bC (aE _) rfl ?_⟩;cases ai:p (mD s pos).1 with
  | true=>
   rw[ai] at aA;simp;exact a1 (by rw[<-aA]; simp) rfl
  | false=>
   rw[ai] at aA;simp;refine⟨s.length - (pos+(mD s pos).2),by omega,pos+(mD s pos).2,rfl,?_,by simp,by simp,by simp,by simp⟩;rw[<-aA];simp only[Bool.false_eq_true,if_false];rw[KL p s (m - 1) _ (by omega)]
 ·have iT:m=0:=by omega
  subst iT;simp[amb h];exact a1 (by rw[<-aA]; rfl) rfl
theorem acH {g:FuncId} {p:Nat->Bool} (az:h5 Tryz.prog g=true) (aE:∀ r:Nat,bR Tryz.prog GS g [.int .i32 r] (.bool (p r))) (s:List UInt8) :
  bR Tryz.prog GS 115 [.str s,.fn g [] []] (.int .i64 (j4 p s s.length 0)) :=by
 refine cf Tryz.checked.mixed b2 ?_;apply bH Qo Zg;unfold FQ LZ;simp;refine bC (aky az aE s) rfl ?_;simp;exact a1 rfl rfl
theorem alb (r:Nat) :bR Tryz.prog GS 116 [.int .i32 r] (.bool (lN 33 r)) :=by
 refine cf Tryz.checked.mixed b2 ?_;apply bH Qp Zh;unfold FR L0 lN;have h1:((r:Int)<33)<->r<33:=by omega
 have ag:((126:Int)<r)<->126<r:=by omega
 by_cases h:r<33
 ·simp[h1,h];exact a1 rfl rfl
 ·simp[h1,h,ag];exact a1 rfl rfl
theorem apH (r:Nat) :bR Tryz.prog GS 164 [.int .i32 r] (.bool (lN 32 r)) :=by
 refine cf Tryz.checked.mixed b2 ?_;apply bH Q3 ZV;unfold Gr Mz lN;have h1:((r:Int)<32)<->r<32:=by omega
 have ag:((126:Int)<r)<->126<r:=by omega
 by_cases h:r<32
 ·simp[h1,h];exact a1 rfl rfl
 ·simp[h1,h,ag];exact a1 rfl rfl
theorem agY:h5 Tryz.prog 116=true:=by kernel_rfl
theorem ag2:h5 Tryz.prog 164=true:=by kernel_rfl
def gu (s:List UInt8) :Bool:=decide (1<=s.length)&&decide (s.length<=20)&&s.all (gP 33)
theorem KR (s:List UInt8) :bR Tryz.prog GS 82 [.str s] (.bool (gu s)) :=by
 refine cf Tryz.checked.mixed b2 ?_;apply bH Sx abr;unfold HO NM gu;have h1:((1:Int)<=s.length)<->1<=s.length:=by omega
 have ag:((s.length:Int)<=20)<->s.length<=20:=by omega
 by_cases aY:1<=s.length
 ·by_cases a2:s.length<=20
  ·simp[h1,ag,aY,a2];refine bC (acH agY alb s) rfl ?_;have:=KK 33 (by omega) s s.length 0 (by omega);rw[List.drop_zero] at this;have ap:decide (j4 (lN 33) s s.length 0<0)=s.all (gP 33) :=by
    cases ai:s.all (gP 33) with
    | true=>simpa using this.2 ai
    | false=>
     have:¬ j4 (lN 33) s s.length 0<0:=fun h=>by rw[this.1 h] at ai; cases ai
     simpa using this
   simp;rw[ap];exact a1 (by simp[aY,a2]) rfl
  ·simp[h1,ag,aY,a2];exact a1 (by simp[aY,a2]) rfl
 ·simp[h1,aY];exact a1 (by simp[aY]) rfl
theorem PA {s:List UInt8} {p:UInt8->Bool} {k:Nat} {b:UInt8} (h:s[k]? = some b) :(s.take (k+1)).all p=((s.take k).all p&&p b) :=by
 rw[List.take_add_one,h]; simp[List.all_append]
theorem BP {s:List UInt8} {p:UInt8->Bool} {k:Nat} {b:UInt8} (h:s[k]? = some b) (aE:p b=false) :s.all p=false:=by
 rw[List.all_eq_false];exact⟨b,List.mem_of_getElem? h,by simp[aE]⟩
theorem D0 (s:List UInt8) :bR Tryz.prog GS 51 [.str s] (.bool (gu s)) :=by
 refine cf Tryz.checked.mixed b2 ?_;apply bH R4 aaX;unfold Hr Nq;have h1:((s.length:Int)<1)<->¬ 1<=s.length:=by omega
 have ag:((20:Int)<s.length)<->¬ s.length<=20:=by omega
 by_cases aY:1<=s.length
 ·by_cases a2:s.length<=20
  ·simp[h1,ag,aY,a2];refine c7 s.length (fun k ah _=>ah 0=.str s/\ah 3=.int .i64 k/\(s.take k).all (gP 33)=true) ?_ (by simp);rintro k ah l hk ⟨hc,dC,eG⟩;obtain⟨ah,rfl⟩:=o3 hc dC;clear hc dC;unfold XA;by_cases h:k<s.length
   ·obtain⟨b,ai,_⟩:=ck h;have eW:IntKind.i64.wrap ((k:Int)+1)=(k+1:Nat) :=wrap_i64 (by omega) (by omega);have ev:((b.toNat:Int)<33)<->¬ 33<=b.toNat:=by omega
    have dU:((126:Int)<b.toNat)<->¬ b.toNat<=126:=by omega
    have fX:v2 (.str s) (.int .i64 k)=some (.int .u8 b.toNat) :=by simp[ai,iq]
    by_cases q1:33<=b.toNat
    ·by_cases iZ:b.toNat<=126
     ·have eb:gP 33 b=true:=by simp[gP,q1,iZ]
      simp[h,fX,ev,dU,q1,iZ,eW,PA ai,eb,-x7];simpa using eG
     ·have eb:gP 33 b=false:=by simp[gP,iZ]
      simp[h,fX,ev,dU,q1,iZ,-x7];exact a1 (by simp[gu,BP ai eb]) rfl
    ·have eb:gP 33 b=false:=by simp[gP,q1]
     simp[h,fX,ev,q1,-x7];exact a1 (by simp[gu,BP ai eb]) rfl
   ·have eH:k=s.length:=by omega
    subst eH;rw[List.take_length] at eG;simp;exact a1 (by simp only[gu,eG]; simp[aY,a2]) rfl
  ·simp[h1,ag,aY,a2];exact a1 (by simp[gu,a2]) rfl
 ·simp[h1,aY];exact a1 (by simp[gu,aY]) rfl
theorem amZ (s:List UInt8) (au:s.length<=1000000000) :bR Tryz.prog GS 138 [.str s] (.bool (s.all (gP 32))) :=by
 refine cf Tryz.checked.mixed b2 ?_;apply bH QF Zx;unfold F4 Md;simp;refine c7 s.length (fun k ah _=>ah 0=.str s/\ah 3=.int .i64 k/\(s.take k).all (gP 32)=true) ?_ (by simp);rintro k ah l hk ⟨hc,dC,eG⟩;obtain⟨ah,rfl⟩:=o3 hc dC;clear hc dC;unfold WT;by_cases h:k<s.length
 ·obtain⟨b,ai,_⟩:=ck h;have eW:IntKind.i64.wrap ((k:Int)+1)=(k+1:Nat) :=wrap_i64 (by omega) (by omega);have ev:((b.toNat:Int)<32)<->¬ 32<=b.toNat:=by omega
  have dU:((126:Int)<b.toNat)<->¬ b.toNat<=126:=by omega
  have fX:v2 (.str s) (.int .i64 k)=some (.int .u8 b.toNat) :=by simp[ai,iq]
  by_cases q1:32<=b.toNat
  ·by_cases iZ:b.toNat<=126
   ·have eb:gP 32 b=true:=by simp[gP,q1,iZ]
    simp[h,fX,ev,dU,q1,iZ,eW,PA ai,eb,-x7];simpa using eG
   ·have eb:gP 32 b=false:=by simp[gP,iZ]
    simp[h,fX,ev,dU,q1,iZ,-x7];exact a1 (by simp only[BP ai eb]) rfl
  ·have eb:gP 32 b=false:=by simp[gP,q1]
   simp[h,fX,ev,q1,-x7];exact a1 (by simp only[BP ai eb]) rfl
 ·have eH:k=s.length:=by omega
  subst eH;rw[List.take_length] at eG;simp;exact a1 (by simp only[eG]) rfl
end Op
end Go.cn

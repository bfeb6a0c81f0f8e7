/-
  The reference of SHA-256, walked: tail, blocks, written, Of.
-/
import Derived.Test.YtdjbnhgdhambnaaGreatDoorUf
import Derived.LaidMore
import Derived.MakeChecks
import Derived.Lib.DecodeN
set_option maxHeartbeats 16000000
set_option maxRecDepth 100000
set_option linter.unusedVariables false
set_option linter.unusedSimpArgs false
set_option linter.unnecessarySimpa false
namespace Go.bl
open Go Go.Proofs Go.Proofs.Tryz
namespace cu
def nI (k:Nat) :List B:=128#8::List.replicate k 0#8
theorem Uq (k:Nat) :nI (k+1)=nI k++[0#8]:=by simp[nI,List.replicate_succ']
theorem Jq (k:Nat) :(nI k).length=k+1:=by simp[nI]
theorem VX (n:Nat) (aB:n<=100000000) :nh prog GS 187 [.i6 n] (cp (some (tail n))):=by
 have aC:dk=140737488355328:=rfl;refine wY checked.mixed eG ?_;apply c0 func187 [];obtain⟨m,ar⟩:=al ((119 - n % 64) % 64);simp;refine bx m (fun k h l=>h 0=.i6 n/\∃ g o,h 3=g/\bo g=false/\aE 1 l g o ((nI k).map bY)) ?_ ?_
 ·rintro k h l hk ⟨p,g,o,t,u,j⟩;obtain⟨h,rfl⟩:=kh p t;clear p t;have z:=j.len;rw[cg,Jq] at z;obtain⟨R,aq⟩:=al (k+1);rw[<-aq] at z;have O:IntKind.i64.wrap ((n:Int)+(R:Int))=(n+R:Nat):=wrap_i64 F F;obtain⟨q,au⟩:=al (n+R);rw[<-au] at O;have P:IntKind.i64.wrap ((q:Int)+8)=(q+8:Nat):=wrap_i64 F F;obtain⟨ad,av⟩:=al (q+8);rw[<-av] at P;have B:=tp ad 64 F;rw[show ((64:Int).toNat)=64 from rfl] at B;obtain⟨x,C⟩:=al (ad % 64);rw[<-C] at B;simp[z,O,P,B];by_cases Y:x=0
  ·have I:k=m:=F;subst I;have aw:nI k=kY n 0:=by unfold nI kY;rw[<-ar];simp
   rw[aw] at j;clear z O P B;simp[Y];refine bx 8 (fun k h l=>h 0=.i6 n/\h 4=.i6 (7 - (k:Int))/\∃ g o,h 3=g/\bo g=false/\aE 1 l g o ((kY n k).map bY)) ?_ ?_
   ·rintro k h l hk ⟨p,T,g,o,t,u,j⟩;obtain⟨h,rfl⟩:=gJ p t T;clear p t T;obtain⟨c,aj⟩:=al (7 - (k:Int) :Int);rw[<-aj];by_cases X:0<=c
    ·have W:k<8:=F;have az:IntKind.i64.wrap (c - 1)=7 - ((k:Int)+1):=by rw[wrap_i64 F F];omega
     obtain⟨d,aA⟩:=al (8*c);have ay:IntKind.i64.wrap (8*c)=d:=by rw[wrap_i64 F F];omega
     have ak:0<=d:=F;have am:d.toNat=56 - 8*k:=F;have C:=Gh (BitVec.ofNat 64 n*8#64) k W;have ax:=Al n k;obtain⟨y,Q⟩:=al ((((BitVec.ofNat 64 n*8#64) >>> (56 - 8*k)).setWidth 8));rw[<-Q] at C;have J:aE 1 (l++[ao.q 1 [a7 y]]) g o ((kY n k).map bY):=j.more _;obtain⟨w,v,S,h1,D,ag,ah,ai,H⟩:=lR (by_:=1) J (x:=.Z 1 l.length 0 1 1 1) (xs:=[[a7 y]]) (by simp[cr]) V F F (by simp;omega);have K:bo w=false:=by rw[qG H,u];rfl
     have G:aE 1 S w v ((kY n (k+1)).map bY):=by rw[LI n k y C,cS];exact D
     rw[BitVec.mul_comm] at Q;simp only[a7] at h1;simp[X,ay,ak,am];rw[<-Q];simp[h1];refine bP.bm ?_;simp[az,W];exact⟨K,v,G⟩
    ·have ap:k=8:=F;subst ap;simp[X];exact j.DG (fun _=>rfl) (some (tail n)) u rfl
   ·simp;exact⟨u,_,j⟩
  ·have ax:=Jq k;have J:aE 1 (l++[ao.q 1 [a7 0#8]]) g o ((nI k).map bY):=j.more _;obtain⟨w,v,S,h1,D,ag,ah,ai,H⟩:=lR (by_:=1) J (x:=.Z 1 l.length 0 1 1 1) (xs:=[[a7 0#8]]) (by simp[cr]) V F F (by simp;omega);have K:bo w=false:=by rw[qG H,u];rfl
   have G:aE 1 S w v ((nI (k+1)).map bY):=by rw[Uq,cS];exact D
   have I:k<m:=F;simp[a7] at h1;simp[Y,h1];refine bP.bm ?_;simp[I];exact⟨K,v,G⟩
 ·simp;exact⟨rfl,0,.Z 0 1 1 1 [.int .u8 128] _ rfl rfl rfl (by intro e U;simp[nI] at U;subst U;rfl) (aN _) (aN _) rfl⟩
theorem VR (h:dO) (b:List B) (ah:b.length<=100000000) :aW 185 [.af (h.l.map bh),cp (some b)] (.af ((fT h b).1.l.map bh)):=by
 apply a8 func185 [];have K:∀ A:ag,A.length=8->A.take 8=A:=fun A g=>aH F
 have aj:∀ s:dO,(s.l.map bh).length=8:=fun s=>rfl
 obtain⟨Q,u⟩:=al (h.l.map bh);have R:Q.length=8:=by rw[u];rfl
 rw[<-u];simp[R];refine bx (b.length / 64) (fun k j l=>j 1=cp (some b)/\j 2=.ptr 0 0 8/\j 4=.ptr 1 0 8/\j 5=.i6 (64*k:Nat)/\∃ s p,fT s (b.drop (64*k))=fT h b/\l=[.q 8 (s.l.map bh),.q 8 p]/\p.length=8) ?_ ?_
 ·rintro k j l hk ⟨D,G,H,I,s,p,z,rfl,O⟩;obtain⟨j,rfl⟩:=eO D G H I;clear D G H I;obtain⟨a,T⟩:=al (64*k);rw[<-T] at z ⊢;obtain⟨nj,V⟩:=al (64*(k+1));rw[<-V];obtain⟨A,g⟩:=al (s.l.map bh);have m:A.length=8:=by rw[g];rfl
  rw[<-g];have C:IntKind.i64.wrap ((a:Int)+64)=nj:=by rw[wrap_i64 F F];omega
  by_cases ak:nj<=b.length
  ·have w:(nj:Int)<=b.length:=F;have Y:dw (.Z 1) (cp (some b)) (some (.i6 (a:Int))) (some (.i6 (nj:Int))) none=some (cp (some ((b.drop a).take 64))):=by
    unfold cp;rw[W0 F F F];have:(nj:Int).toNat - (a:Int).toNat=64:=F;rw[this,fm]
   have W:64<=((b.drop a).take 64).length:=by simp;omega
   have v:=Ri s _ W;have ai:grind s ((b.drop a).take 64)=grind s (((b.drop a).take 64)):=rfl;rw[<-g] at v;have ad:fT (grind s ((b.drop a).take 64)) (b.drop nj)=fT h b:=by
    rw[<-z,vB s (b.drop a) (by simp;omega),xG];congr 2;omega
   have X:k<b.length / 64:=F;have o:aq A=true:=by rw[g];exact jw bh (fun _=>rfl) _
   obtain⟨P,t⟩:=al ((grind s ((b.drop a).take 64)).l.map bh);have S:P.length=8:=by rw[t];rfl
   rw[<-t] at v;simp[C,w,m,K A m,Y];refine au v (by simp[aq,U.ar,o,jZ]) ?_;simp[mg,m,S,C,X];exact⟨_,ad,p,⟨t,rfl⟩,O⟩
  ·have w:¬(nj:Int)<=b.length:=F;have J:=z;rw[x9 s (b.drop a) (by simp;omega)] at J;rw[<-J];have o:aq A=true:=by rw[g];exact jw bh (fun _=>rfl) _
   simp[C,w,m,K A m,mg,O];exact aR (by rw[g]) (by rw[g] at o;simp[U.ar,o])
 ·exact⟨rfl,rfl,rfl,rfl,h,bZ 8 (.int .u32 0),rfl,by rw[u];rfl,rfl⟩
def oO (s:dO) (k:Nat) :List B:=(written s).take k++List.replicate (32 - k) 0#8
theorem Uf (s:dO) (k:Nat) (hk:k<=32) :(oO s k).length=32:=by unfold oO;have:=AA s;simp;omega
theorem Ug (s:dO) (k:Nat) (x:B) (g:(written s)[k]?=some x) :(oO s k).set k x=oO s (k+1):=by
 have hk:k<32:=(aK.1 g).1;unfold oO;have h:(List.take k (written s)).length=k:=by have:=AA s;simp;omega
 rw[o6 _ _ F,h,s9,ej,g,show 32 - k=(32 - (k+1))+1 by omega,k4,s6];simp
theorem YU (s:dO) (k:Nat) (hk:k<32) :∃ w,s.l[k / 4]?=some w/\(written s)[k]?=some ((w >>> (24 - 8*(k % 4))).setWidth 8):=by
 have o:∀ w:W,w=w >>> 0:=fun w=>V
 obtain⟨a,b,c,d,e,f,m,h⟩:=s;have:∀ (l:List W) (k:Nat),k<4*l.length->∃ w,l[k / 4]?=some w/\(l.map p0).flatten[k]?=some ((w >>> (24 - 8*(k % 4))).setWidth 8):=by
  intro l
  induction l with
  | nil=>intro k hk;simp at hk
  | cons w l j=>
   intro k hk
   match k,hk with
   | 0,_=>exact⟨w,rfl,rfl⟩
   | 1,_=>exact⟨w,rfl,rfl⟩
   | 2,_=>exact⟨w,rfl,rfl⟩
   | 3,_=>refine⟨w,rfl,?_⟩;simp[p0]
   | k+4,hk=>
    obtain⟨y,h1,g⟩:=j k (by simp at hk;omega);refine⟨y,?_,?_⟩
    ·rw[show (k+4) / 4=k / 4+1 by omega];exact h1
    ·rw[show (k+4) % 4=k % 4 by omega];exact g
 exact this _ k (by simpa [dO.l] using hk)
theorem VZ (s:dO) :aW 184 [.af (s.l.map bh)] (eo (written s)):=by
 apply a8 func184 [];obtain⟨A,j⟩:=al (s.l.map bh);have G:A.length=8:=by rw[j];rfl
 rw[<-j];simp[G];refine bx 32 (fun k h l=>h 1=.ptr 0 0 8/\h 2=.ptr 1 0 32/\h 3=.ptr 2 0 32/\h 4=.i6 k/\∃ v,l=[.q 8 A,.q 32 v,.q 32 ((oO s k).map a7)]/\v.length=32) ?_ ?_
 ·rintro k h l hk ⟨z,B,C,D,v,rfl,P⟩;obtain⟨h,rfl⟩:=eO z B C D;clear z B C D;by_cases W:(k:Int)<32
  ·have m:k<32:=F;have ap:IntKind.i64.wrap ((k:Int)+1)=(k+1:Nat):=wrap_i64 F F;have o:=By k 4 F F;have p:=tp k 4 F;rw[show ((4:Int).toNat)=4 from rfl] at o p;obtain⟨w,K,u⟩:=YU s k m;obtain⟨q,Y⟩:=al (k / 4);obtain⟨r,ah⟩:=al (k % 4);rw[<-Y] at o K;rw[<-ah] at p u;have ad:q<8:=F;obtain⟨Dy,aj⟩:=al (8*r);have ao:IntKind.i64.wrap (8*(r:Int))=Dy:=by rw[wrap_i64 F F];omega
   obtain⟨J1,ai⟩:=al (24 - Dy);have am:IntKind.i64.wrap (24 - (Dy:Int))=J1:=by rw[wrap_i64 F F];omega
   have J:=Ug s k _ u;rw[<-aj,<-ai] at u J;have I:=Uf s k F;have t:=mh a7 (oO s k) k ((w >>> J1).setWidth 8) (by rw[I];exact m);rw[J] at t;obtain⟨O,g⟩:=al ((oO s k).map a7);have H:O.length=32:=by rw[g,cg,I]
   rw[<-g] at t ⊢;have Q:A[q]?=some (bh w):=by rw[j,b1,K];rfl
   obtain⟨au,R⟩:=aK.1 Q;have av:q<=7:=F;have V:k<=31:=F;have ag:(q:Int)<8:=F;simp[W,m,ap,o,p,ao,am,G,ad,R,t,P,V,ag]
  ·have T:k=32:=F;subst T;have X:oO s 32=written s:=by unfold oO;rw[aH (by rw[AA];omega)];simp
   rw[X];obtain⟨O,g⟩:=al ((written s).map a7);have H:O.length=32:=by rw[g,cg,AA]
   have S:aq O=true:=by rw[g];exact jw a7 (fun _=>rfl) _
   have ak:O.take 32=O:=aH F;unfold eo;rw[<-g];simp[H,ak,mg,P];exact aR rfl (by simp[U.ar,S])
 ·refine⟨rfl,rfl,rfl,rfl,_,rfl,rfl⟩
theorem Ko (s:dZ) (R:s.l.length<=1000000) :aW 122 [cp s] (eo (gq s.l)):=by
 have p:dk=140737488355328:=rfl;apply a8 func122 [];simp;refine au QJ rfl ?_;have K:aE 1 ([ao.q 32 (bZ 32 (U.int IntKind.u8 0))]++[ao.q 0 []]) (.Z 1 1 0 0 0 0) 1 []:=.Z 1 0 0 0 [] _ rfl rfl rfl V (aN _) (aN _) rfl;obtain⟨O,T,r,h1,m,u,v⟩:=rK (by_:=1) K (.inr (aN _)) (x:=cp s) (xs:=s.l.map bY) (by unfold cp;rw[qA,cg]) (by intro e g;obtain⟨x,_,rfl⟩:=cC.1 g;rfl) F F (by rw[p];simp;omega);have H:bo O=false:=by rw[v];rfl
 simp only[h0,Fh] at h1 m;have z:bz (.Z 1) (cp s)=some (.i6 s.l.length):=b6 _;have G:=VX s.l.length F;have S:(tail s.l.length).length<=80:=by rw[<-Ey];exact Al _ _
 obtain⟨P,W,Y,t,j,X,J⟩:=rK (by_:=1) (pre:=[ao.q 32 (bZ 32 (U.int IntKind.u8 0))]) m u (x:=cp (some (tail s.l.length))) (xs:=(tail s.l.length).map bY) (by unfold cp;rw[qA,cg];rfl) (by intro e g;obtain⟨x,_,rfl⟩:=cC.1 g;rfl) F F (by rw[p];simp;omega);have I:bo P=false:=by rw[J,H];rfl
 rw[<-cS] at j;simp only[Fh] at t j;have B:=j.nM (fun _=>rfl) (some (s.l++tail s.l.length)) I rfl;have o:=VR first (s.l++tail s.l.length) (by simp;omega)
 have h:=VZ (fT first (s.l++tail s.l.length)).1;have C:gq s.l=written (fT first (s.l++tail s.l.length)).1:=rfl;rw[<-C] at h;obtain⟨Q,w⟩:=al ((fT first (s.l++tail s.l.length)).1);rw[<-w] at o h;simp[h1];refine bP.bm ?_;simp[z];refine au G.Ao rfl ?_;simp[t];refine bP.bm ?_;simp;refine iC o (.cons (.same _ ?_) (.cons B .nil)) (Hv bh (fun _=>rfl) _) ?_
 ·simp[U.ar,jw bh (fun _=>rfl)]
 simp;refine au h ?_ ?_
 ·simp[aq,U.ar,jw bh (fun _=>rfl)]
 have D:=oT s.l;simp[eo,D,mg,aH];exact aR rfl (by simp[U.ar,jw a7 (fun _=>rfl)])
end cu
end Go.bl
namespace Go.bl
open Go Go.Proofs Go.Proofs.Tryz Go.RowKit
open cu
theorem LY {e:aF} (g:prog.underlying e=some (.int .u8)) :∀ (n:Nat) {ts:List aF} {cs:ag},c4 prog (List.replicate n e++ts) cs->∃ (x:List B) (cs' : ag),cs=x.map a7++cs'/\x.length=n/\c4 prog ts cs'
 | 0,ts,cs,h=>⟨[],cs,rfl,rfl,h⟩
 | n+1,ts,cs,h=>by
  obtain⟨k,t,rfl,h1,m,o⟩:=nS g h;obtain⟨x,j,rfl,q,p⟩:=LY g n o;have v:(0:Int)<=k:=h1;have w:k<=255:=m;refine⟨BitVec.ofNat 8 k.toNat::x,j,?_,by simp[q],p⟩;have:((BitVec.ofNat 8 k.toNat).toNat:Int)=k:=by
   rw[fQ,eg F];omega
  simp[a7,u];omega
theorem L0 {ts:List aF} {cs:ag} (h:c4 prog (47::ts) cs) :∃ (x:BitVec 64) (cs' : ag),cs=c7 x::cs'/\c4 prog ts cs':=by
 obtain⟨k,g,rfl,h1,j,m⟩:=nS (k:=.u64) bp h;have o:(0:Int)<=k:=h1;have p:k<=18446744073709551615:=j;refine⟨BitVec.ofNat 64 k.toNat,g,?_,m⟩;have:((BitVec.ofNat 64 k.toNat).toNat:Int)=k:=by
  rw[fQ,eg F];omega
 simp[c7,u];omega
def CA:List Int:=cu.b5.map fun k=>(k.toNat:Int)
theorem XD:uN=CA.map fun k=>.int .u32 k:=by unfold uN CA;rw[iL];rfl
theorem Sg {W:aT} (h:laidMetH prog [("braid/digest.constants",Go.Proofs.YtdjbnhgdhambnaaGreatDoor.Rows.laid_braid_digest_constants)] W) :∀ g,dg W (fun _=>True) (GS g) (.pointer (some ⟨g,0,none⟩)):=by
 intro g;unfold GS;split
 ·rename_i o;have:=mo o;subst this;rw[MakeChecks.laidMetH_plain _ _ _ bp] at h;obtain⟨B,⟨w,t0,v,f0,z,C,q,t,u,p,_,_⟩,_,_⟩:=h;have j:prog.globalNamed "braid/digest.constants"=some 1:=bp;have m:(prog.globals[1]?).map (·.type)=some 333:=bp;obtain rfl:=cd (j.symm.trans q);obtain rfl:=cd (m.symm.trans t);rw[XD];exact Rb CA j u (n:=64) (e:=46) bp bp bp p (by rfl)
 ·exact .bad _
end Go.bl
namespace Go.bl
open Go Go.Proofs Go.Proofs.Tryz
open cu
def F2:U->Option B
 | .int .u8 (.ofNat n)=>match Nat.ble n 255 with | true=>some (BitVec.ofNat 8 n) | false=>none
 | _=>none
def Ge:ag->Option (List B)
 | []=>some []
 | c::r=>match F2 c with
  | some b=>match Ge r with | some l=>some (b::l) | none=>none
  | none=>none
def bd:U->Option (List B)
 | .af cs=>match Ge cs with | some l=>(match Nat.beq l.length 32 with | true=>some l | false=>none) | none=>none
 | _=>none
def KF:List (ag)->Option (List B)
 | []=>some []
 | [c] ::r=>match F2 c with
  | some b=>match KF r with | some l=>some (b::l) | none=>none
  | none=>none
 | _=>none
def OL:U->Option dZ
 | .ae=>some none
 | .bu 1 g=>match KF g with | some l=>some (some l) | none=>none
 | _=>none
def Xv:ag->Option U
 | [c]=>match OL c with
  | some s=>match Nat.ble s.l.length 10000 with | true=>some (.a1 [eo (gq s.l),.int .i64 0]) | false=>none
  | none=>none
 | _=>none
abbrev kf:cj × Bool × (ag->Option U):=(150,false,Xv)
end Go.bl
namespace Go.bl
open Go Go.Proofs Go.Proofs.Tryz Go.Sort Go.Shelf
open cu
def bQ:List B->List B->Int
 | [],[]=>0
 | [],_::_=>-1
 | _::_,[]=>1
 | a::g,b::h=>if a.toNat<b.toNat then -1 else if b.toNat<a.toNat then 1 else bQ g h
theorem GD (a b:B) (g Kf:List B) :bQ (a::g) (b::Kf)=if a.toNat<b.toNat then -1 else if b.toNat<a.toNat then 1 else bQ g Kf:=rfl
theorem lg:∀ a:List B,bQ a a=0
 | []=>rfl
 | a::g=>by unfold bQ;simp;exact lg g
theorem ou:∀ {a b:List B},bQ a b=0->a=b
 | [],[],_=>rfl
 | [],_::_,h=>by simp[bQ] at h
 | _::_,[],h=>by simp[bQ] at h
 | a::g,b::j,h=>by
  unfold bQ at h;split at h
  ·cases h
  ·split at h
   ·cases h
   ·have h1:a=b:=e2 F;rw[h1,ou h]
theorem ov:∀ a b:List B,bQ b a=- bQ a b
 | [],[]=>rfl
 | [],_::_=>rfl
 | _::_,[]=>rfl
 | a::h,b::j=>by
  unfold bQ;by_cases h1:a.toNat<b.toNat
  ·simp[h1,show ¬ b.toNat<a.toNat by omega]
  ·by_cases g:b.toNat<a.toNat
   ·simp[h1,g]
   ·simp[h1,g];exact ov h j
theorem vJ:∀ a b:List B,bQ a b=-1\/bQ a b=0\/bQ a b=1
 | [],[]=>by simp[bQ]
 | [],_::_=>by simp[bQ]
 | _::_,[]=>by simp[bQ]
 | a::g,b::h=>by
  unfold bQ;split
  ·simp
  ·split
   ·simp
   ·exact vJ g h
theorem ow:∀ a b c:List B,bQ a b<0->bQ b c<0->bQ a c<0
 | [],[],_,h,_=>by simp[bQ] at h
 | [],_::_,[],_,h=>by simp[bQ] at h
 | [],_::_,_::_,_,_=>by simp[bQ]
 | _::_,[],_,h,_=>by simp[bQ] at h
 | _::_,_::_,[],_,h=>by simp[bQ] at h
 | a::m,b::o,c::p,h1,g=>by
  unfold bQ at h1 g ⊢;have j:=ow m o p
  repeat' split at h1
  all_goals repeat' split at g
  all_goals repeat' split
  all_goals first | omega | (exact j h1 g) | (exfalso;omega) | skip
def eM (a b:List B) :Bool:=ltOf bQ a b
theorem ia (a b:List B) :eM a b=true<->bQ a b<0:=by unfold eM ltOf;simp
theorem Ew:SWO (ltOf bQ) where
 irrefl x:=by unfold ltOf;rw[lg];rfl
 trans x y g h1 oC:=by
  unfold ltOf at *
  simp only[bI] at *
  exact ow x y g h1 oC
 ntrans x y g h1 oC:=by
  unfold ltOf at *
  simp only[decide_eq_false_iff_not] at *
  intro p;have j:=ov x y;have m:=ov y g;rcases vJ x y with h | h | h
  ·omega
  ·have:=ou h;subst this;omega
  ·rcases vJ y g with h' | h' | h'
   ·omega
   ·have:=ou h';subst this;omega
   ·have:=ow g y x F F;have o:=ov x g;omega
theorem N8 (x y:List B) (h1:ltOf bQ x y=false) (g:ltOf bQ y x=false) :x=y:=by
 unfold ltOf at *
 simp only[decide_eq_false_iff_not] at *
 have e:=ov x y;exact ou F
theorem Pj {a b:List B} (k:Nat) (h:∀ j,j<k->a[j]?=b[j]?) (o:k<=a.length) (p:k<=b.length) :bQ (a.drop k) (b.drop k)=bQ a b:=by
 induction k with
 | zero=>simp
 | succ k m=>
  rw[<-m (fun j q=>h j F) F F];have h1:=h k F;rw[k2 (l:=a) (i:=k) F,k2 (l:=b) (i:=k) F];rw[bK F,bK F] at h1;have g:=cd h1
  conv=>rhs;unfold bQ
  rw[g];simp
end Go.bl
namespace Go.bl
open Go Go.Proofs Go.Proofs.Tryz
namespace Op
open cu
abbrev Q:=BitVec 64
abbrev D:=BitVec 32
theorem L1:(u (1#64) :Int)=1:=rfl
def ec (x:D) :ag:=[bh x]
def nD (l:List D) :Q:=l.foldl (fun g x=>g*x.setWidth 64 % 1000000007#64) 1#64
theorem S9 (l:List D) (k:Nat) (x:D) (h:l[k]?=some x) :nD (l.take (k+1))=nD (l.take k)*x.setWidth 64 % 1000000007#64:=by rw[ej,h];simp[nD,AU]
theorem zS (x:Q) :cx .rem .u64 (u x) .u64 1000000007=some (.int .u64 (u (x % 1000000007#64))):=tq x 1000000007#64 (by decide)
theorem CW (l:List D) (C:l.length<=1000) :aW 223 [.int .u64 1000000007,b4 1 ec (some l)] (bh ((nD l).setWidth 32)):=by
 apply a8 func223 [];have w:bz (.Z 1) (b4 1 ec (some l))=some (.i6 l.length):=b6 _;simp[w];refine bx l.length (fun k g _=>g 0=.int .u64 1000000007/\g 5=c7 (nD (l.take k))/\g 8=b4 1 ec (some l)/\g 9=.i6 l.length/\g 10=.i6 k) ?_ (by simp[nD];rfl);rintro k g h hk ⟨j,o,p,q,m⟩;obtain⟨g,rfl⟩:=gv j o p q m;clear j o p q m;by_cases h:k<l.length
 ·obtain⟨x,t,_⟩:=aP h;have u:bO (.Z 1) (b4 1 ec (some l)) (.i6 k)=some (.b7 (ec x) 0):=by rw[oD];simp[t]
  have B:IntKind.i64.wrap ((k:Int)+1)=(k+1:Nat):=wrap_i64 F F;have z:=S9 l k x t;simp[h,u,ec,B,zS];rw[<-z]
 ·have v:k=l.length:=F;subst v;simp;exact aL
def eH (a n:Nat) :Nat:=a ^ n % 1000000007
theorem sp (a n:Nat) :eH a n<1000000007:=mq _ (by decide)
theorem JF (a n:Nat) :eH a n*eH a n % 1000000007=eH a (2*n):=by unfold eH;rw[<-vb,<-rz];congr 2;omega
theorem JD (a n:Nat) :eH a n*a % 1000000007=eH a (n+1):=by unfold eH;rw[Nat.mod_mul_mod,Nat.pow_succ]
def fr (a:D) (n:Nat) :D:=BitVec.ofNat 32 (eH a.toNat n)
theorem oP (a:D) (n:Nat) :(fr a n).toNat=eH a.toNat n:=by have:=sp a.toNat n;unfold fr;rw[fQ];exact eg F
theorem CV (x y:D) (h:x.toNat<1000000007) :(nD [x,y]).setWidth 32=BitVec.ofNat 32 (x.toNat*y.toNat % 1000000007):=by
 apply e2;have j:=y.isLt;have h1:x.toNat*y.toNat<1000000007*4294967296:=by
  calc x.toNat*y.toNat<=1000000007*y.toNat:=ck _ F
   _<1000000007*4294967296:=Nat.mul_lt_mul_of_pos_left (by simpa using j) (by decide)
 have g:(1#64*x.setWidth 64 % 1000000007#64).toNat=x.toNat:=by
  rw[BitVec.one_mul,m5,fw];rw[eg (show x.toNat<2 ^ 64 by omega),show (1000000007#64).toNat=1000000007 from rfl,eg h]
 simp only[nD,xI,List.foldl_nil,fw,m5,uX,g,fQ];rw[eg (show y.toNat<2 ^ 64 by omega),eg (show x.toNat*y.toNat<2 ^ 64 by omega),eg (show 1000000007<2 ^ 64 by decide)]
theorem Ta (a:D) (n:Nat) :(nD [fr a n,fr a n]).setWidth 32=fr a (2*n):=by rw[CV _ _ (by rw[oP];exact sp _ _),oP,JF];rfl
theorem mul_one (a:D) (n:Nat) :(nD [fr a n,a]).setWidth 32=fr a (n+1):=by rw[CV _ _ (by rw[oP];exact sp _ _),oP,JD];rfl
theorem w4 {l:ad} {b:Nat} {x y:D} (h:l[b]?=some (.q 2 [bh x,bh y])) :fp (aZ l) (.Z 1 b 0 2 2 2) (b4 1 ec (some [x,y])):=by refine zP (rest:=[]) (es:=[[bh x],[bh y]]) (by simpa using h) rfl V (by simp[aq,U.ar])
theorem QS:fI prog 256=true:=bp
theorem Xj {x:D} {l:ad} {K:cA} (g:∀ v rest,K v (.q 1 [bh ((nD [x,x]).setWidth 32)] ::rest)) :cM 256 [.ptr 0 0 1] (.q 1 [bh x] ::l) K:=by apply c0 func256 [];simp;refine iC (CW [x,x] V) (.cons (.same _ rfl) (.cons (w4 V) .nil)) rfl ?_;simp;exact g _ _
theorem HR (n k:Nat) (hk:k<64) :n / 2 ^ (63 - k)=2*(n / 2 ^ (64 - k))+n / 2 ^ (63 - k) % 2:=by
 have:2 ^ (64 - k)=2 ^ (63 - k)*2:=by rw[<-Nat.pow_succ];congr 1;omega
 rw[this,<-Nat.div_div_eq_div_mul];omega
theorem Ds (a:D) (n:Q) :aW 215 [bh a,c7 n] (bh (fr a n.toNat)):=by
 apply a8 func215 [];simp;refine bx 64 (fun k g l=>g 0=bh a/\g 1=c7 n/\g 5=.ptr 0 0 1/\g 6=.fn 256 [] [.ptr 0 0 1]/\g 9=.i6 k/\∃ r,l=.q 1 [bh (fr a (n.toNat / 2 ^ (64 - k)))] ::r) ?_ (by
  have:n.toNat / 2 ^ 64=0:=qb n.isLt;simp[this,fr,eH];rfl)
 rintro k g l hk ⟨p,t,v,w,z,r,rfl⟩;obtain⟨g,rfl⟩:=gv p t v w z;clear p t v w z;by_cases h:(k:Int)<64
 ·have B:IntKind.i64.wrap ((k:Int)+1)=(k+1:Nat):=wrap_i64 F F;have J:IntKind.i64.wrap (63 - (k:Int))=((63 - k:Nat) :Int):=by rw[wrap_i64 F F];omega
  have m:=HR n.toNat k F;have I:cx .shr .u64 (u n) .i64 ((63 - k:Nat) :Int)=some (.int .u64 (u (n >>> (63 - k)))):=qr n .i64 (63 - k);have C:64 - (k+1)=63 - k:=F;simp[h];refine⟨QS,?_⟩;simp;refine Xj fun K rest=>?_
  simp[J,I,Ta];rw[C];by_cases j:n.toNat / 2 ^ (63 - k) % 2=1
  ·have o:n >>> (63 - k) &&& 1#64=1#64:=by
    apply e2;rw[AI,lE,hI];show _ &&& 1=1;rw[Nat.and_one_is_mod,j]
   rw[j] at m;have H:fr a (2*(n.toNat / 2 ^ (64 - k))+1)=fr a (n.toNat / 2 ^ (63 - k)):=by rw[<-m]
   simp[o,L1];refine iC (CW [fr a (2*(n.toNat / 2 ^ (64 - k))),a] V) (.cons (.same _ rfl) (.cons (w4 V) .nil)) rfl ?_;rw[mul_one,H];simp[B];omega
  ·have j:n.toNat / 2 ^ (63 - k) % 2=0:=F;have o:n >>> (63 - k) &&& 1#64=0#64:=by
    apply e2;rw[AI,lE,hI];show _ &&& 1=0;rw[Nat.and_one_is_mod,j]
   rw[j,na] at m;simp[o,B];rw[<-m];exact⟨F,rfl⟩
 ·have G:k=64:=F;subst G;simp;exact aL
theorem Dw (a b:Q) (g:b≠0#64) :cx .quo .u64 (u a) .u64 (u b)=some (.int .u64 (u (a / b))):=by
 have h:(b.toNat:Int)≠0:=fun e=>g (e2 (by simpa using e))
 show (if IntKind.u64=IntKind.u64/\(b.toNat:Int)≠0 then some (U.int .u64 (IntKind.u64.wrap ((a.toNat:Int).tdiv b.toNat))) else none)=_;rw[ak ⟨rfl,h⟩,uU];congr 2;have:((a.toNat:Int).tdiv b.toNat)=((a.toNat / b.toNat:Nat) :Int):=rfl;rw[this,nX];congr 1;apply e2;rw[fQ,rn];exact eg (Nat.lt_of_le_of_lt (Fk _ _) a.isLt)
theorem J0 (x:Q) :cx .quo .u64 (u x) .u64 2=some (.int .u64 (u (x / 2#64))):=Dw x 2#64 (by decide)
theorem Kr (x:Q) :cx .rem .u64 (u x) .u64 2=some (.int .u64 (u (x % 2#64))):=tq x 2#64 (by decide)
theorem ua (x y:Q) (g:x.toNat<4294967296) (h:y.toNat<4294967296) :(x*y % 1000000007#64).toNat=x.toNat*y.toNat % 1000000007:=by
 have h1:x.toNat*y.toNat<18446744073709551616:=by
  calc x.toNat*y.toNat<=4294967295*y.toNat:=ck _ F
   _<=4294967295*4294967295:=Nat.mul_le_mul_left _ F
   _<18446744073709551616:=by decide
 rw[m5,uX,eg (show x.toNat*y.toNat<2 ^ 64 by omega)];rfl
theorem U0 (o b m:Nat) (h:m % 2=1) :o*b % 1000000007*(b*b % 1000000007) ^ (m / 2) % 1000000007=o*b ^ m % 1000000007:=by
 have g:m=2*(m / 2)+1:=F;rw[vb,Nat.mod_mod,xQ (b*b % 1000000007),Nat.mod_mod,<-xQ,<-vb];congr 1;rw[Nat.mul_pow,Nat.mul_assoc,<-rz]
 conv=>rhs;rw[g,Nat.pow_succ]
 rw[Ba b,show 2*(m / 2)=m / 2+m / 2 by omega]
theorem UZ (o b m:Nat) (h:m % 2=0) :o*(b*b % 1000000007) ^ (m / 2) % 1000000007=o*b ^ m % 1000000007:=by
 have g:m=2*(m / 2):=F;rw[vb,xQ (b*b % 1000000007),Nat.mod_mod,<-xQ,<-vb];congr 1;rw[Nat.mul_pow,<-rz]
 conv=>rhs;rw[g]
 rw[show 2*(m / 2)=m / 2+m / 2 by omega]
theorem JG (a n:Q) (O:a.toNat<4294967296) :aW 225 [c7 a,c7 n,.int .u64 1000000007] (c7 (BitVec.ofNat 64 (eH a.toNat n.toNat))):=by
 apply a8 func225 [];simp;refine wx (fun g m _=>∃ j b c:Q,c.toNat=g/\j.toNat<1000000007/\b.toNat<4294967296/\j.toNat*b.toNat ^ g % 1000000007=eH a.toNat n.toNat/\m 0=c7 b/\m 1=c7 c/\m 2=.int .u64 1000000007/\m 7=c7 j) ?_ n.toNat _ _ ⟨1#64,a,n,rfl,by decide,O,by simp[eH],by simp;rfl⟩;rintro g m l ⟨j,b,c,o,H,h,p,q,t,v,w⟩;obtain⟨m,rfl⟩:=eO q t v w;clear q t v w;have P:(u c:Int)=(g:Int):=by unfold u;rw[o]
 by_cases D:g=0
 ·subst D;have K:c=0#64:=e2 (by simpa using o);simp[K];refine aR ?_ rfl;rw[Nat.pow_zero,n3,eg H] at p;rw[<-p,EX,BitVec.setWidth_eq]
 ·have R:c≠0#64:=fun e=>D (by rw[<-o,e];rfl)
  have C:(0:Int)<u c:=by rw[P];omega
  have B:(c / 2#64).toNat=g / 2:=by rw[rn,o];rfl
  have G:(c % 2#64).toNat=g % 2:=by rw[m5,o];rfl
  have z:(b*b % 1000000007#64).toNat<4294967296:=by
   rw[ua b b h h];have:=mq (b.toNat*b.toNat) (show 1000000007 > 0 by decide);omega
  by_cases J:g % 2=1
  ·have h1:c % 2#64=1#64:=e2 (by rw[G,J];rfl);simp[C,zS,J0,Kr,h1,L1];have I:j.toNat<4294967296:=F;refine⟨g / 2,F,_,_,_,B,?_,z,?_,rfl,rfl,rfl⟩
   ·rw[ua j b I h];exact mq _ (by decide)
   ·rw[ua j b I h,ua b b h h,U0 _ _ _ J,p]
  ·have h1:c % 2#64=0#64:=e2 (by rw[G];simp;omega);simp[C,zS,J0,Kr,h1];refine⟨g / 2,F,_,_,_,B,H,z,?_,rfl,rfl,rfl⟩;rw[ua b b h h,UZ _ _ _ F,p]
def e0 (a:D) :Bool:=decide (0<a.toNat)&&decide (a.toNat<1000000007)&&decide (eH a.toNat 500000003=1)
theorem Cu (a:D) :aW 169 [bh a] (.bool (e0 a)):=by
 apply a8 func169 [];unfold e0;have h1:((0:Int)<u a)<->0<a.toNat:=by unfold u;omega
 have j:(u a<(1000000007:Int))<->a.toNat<1000000007:=by unfold u;omega
 by_cases g:0<a.toNat
 ·by_cases h:a.toNat<1000000007
  ·simp[h1,j,g,h];refine au (Ds a 500000003#64) rfl ?_;have m:(u (fr a 500000003)=(1:Int))<->eH a.toNat 500000003=1:=by unfold u;rw[oP];omega
   have o:(500000003#64:Q).toNat=500000003:=rfl;rw[o];simp[m];exact aR (by simp[g,h]) rfl
  ·simp[h1,j,g,h];exact aL
 ·simp[h1,g];exact aL
theorem Kn (a:D) :aW 180 [bh a] (.bool (e0 a)):=by
 apply a8 func180 [];unfold e0;have h1:((1:Int)<=u a)<->0<a.toNat:=by unfold u;omega
 have j:(u a<(1000000007:Int))<->a.toNat<1000000007:=by unfold u;omega
 by_cases g:0<a.toNat
 ·by_cases h:a.toNat<1000000007
  ·simp[h1,j,g,h];refine au (JG (a.setWidth 64) 500000003#64 (by rw[fw];omega)) rfl ?_;have p:(a.setWidth 64:Q).toNat=a.toNat:=by rw[fw];omega
   have o:(500000003#64:Q).toNat=500000003:=rfl;have q:=sp a.toNat 500000003;have m:(u (BitVec.ofNat 64 (eH a.toNat 500000003))=(1:Int))<->eH a.toNat 500000003=1:=by unfold u;rw[fQ,eg F];omega
   rw[o,p];simp[m];exact aR (by simp[g,h]) rfl
  ·simp[h1,j,g,h];exact aL
 ·simp[h1,g];exact aL
def hv (a:D) :Bool:=decide (a.toNat<500000003)
theorem yy (a:D) :aW 182 [bh a] (.bool (hv a)):=by
 apply a8 func182 [];unfold hv;have g:(u (a.setWidth 64)<(500000003:Int))<->a.toNat<500000003:=by unfold u;rw[fw];omega
 simp[g];exact aL
@[simp] theorem Zs (a b:List UInt8) :tl .eql a b=some (.bool (decide (a=b))):=by by_cases h:a=b<;>simp[tl,h]
abbrev lh (s:List UInt8) (pos:Nat) :Nat × Nat:=Utf8.decode ⟨s.toArray⟩ pos
theorem HN (s:List UInt8) (pos:Nat) (b:UInt8) (h:s[pos]?=some b) :(ByteArray.get! ⟨s.toArray⟩ pos)=b:=by show (s.toArray)[pos]! = b;obtain⟨h1,g⟩:=aK.1 h;simp[h1,g]
theorem PU {s:List UInt8} {pos:Nat} {b:UInt8} (h:s[pos]?=some b) (g:b.toNat<128) :lh s pos=(b.toNat,1):=by unfold lh;rw[Lib.decode_at,HN s pos b h];unfold Lib.decodeN;rw[ak g]
theorem PT {s:List UInt8} {pos:Nat} {b:UInt8} (h:s[pos]?=some b) (g:128<=b.toNat) :128<=(lh s pos).1:=by
 unfold lh;rw[Lib.decode_at,HN s pos b h];unfold Lib.decodeN;rw[aj F]
 repeat' split
 all_goals (simp only;omega)
theorem G2 (s:List UInt8) (pos:Nat) :1<=(lh s pos).2:=by
 unfold lh;rw[Lib.decode_at];unfold Lib.decodeN
 repeat' split
 all_goals simp only<;>omega
def iS (p:Nat->Bool) (s:List UInt8) :Nat->Nat->Int
 | 0,_=>-1
 | n+1,pos=>if pos<s.length then (if p (lh s pos).1 then (pos:Int) else iS p s n (pos+(lh s pos).2)) else -1
theorem Cx (p:Nat->Bool) (s:List UInt8) :∀ (n pos:Nat),s.length - pos<=n->iS p s n pos=iS p s (s.length - pos) pos
 | 0,pos,h=>by rw[show s.length - pos=0 by omega]
 | n+1,pos,h=>by
  by_cases g:pos<s.length
  ·have j:=G2 s pos;rw[show s.length - pos=(s.length - pos - 1)+1 by omega];unfold iS;rw[ak g,ak g,Cx p s n _ F,Cx p s (s.length - pos - 1) _ F]
  ·rw[show s.length - pos=0 by omega];unfold iS;rw[aj g]
def kt (g r:Nat) :Bool:=decide (r<g)||decide (126<r)
def fM (g:Nat) (b:UInt8) :Bool:=decide (g<=b.toNat)&&decide (b.toNat<=126)
theorem Cw (g:Nat) (u:g<=128) (s:List UInt8) :∀ (n pos:Nat),s.length - pos<=n->(iS (kt g) s n pos<0<->(s.drop pos).all (fM g)=true)
 | 0,pos,h=>by
  rw[k3 F];simp[iS]
 | n+1,pos,h=>by
  unfold iS;by_cases o:pos<s.length
  ·rw[ak o,k2 o,E4];have p:s[pos]?=some s[pos]:=bK o;obtain⟨b,t⟩:=al (s[pos]);rw[<-t] at p ⊢;by_cases v:b.toNat<128
   ·rw[PU p v];simp only;have m:fM g b=!kt g b.toNat:=by
     unfold fM kt;by_cases h1:b.toNat<g<;>by_cases q:126<b.toNat<;>simp[h1,q]<;>omega
    cases j:kt g b.toNat with
    | true=>rw[m,j];simp
    | false=>
     rw[m,j];simp only[kj,if_false,rq,lF];exact Cw g u s n (pos+1) F
   ·have w:=PT p F;have j:kt g (lh s pos).1=true:=by unfold kt;simp;omega
    have m:fM g b=false:=by unfold fM;simp;omega
    rw[j,m];simp
  ·rw[aj o,k3 F];simp
theorem Tg {s:List UInt8} {pos:Nat} {r:ad} (h:pos<s.length) :cP (.iter s pos::r) (.it 0)=some (.a1 [.bool true,.i6 pos,.int .i32 (lh s pos).1],.iter s (pos+(lh s pos).2) ::r):=by unfold cP;simp only[hn];rw[show Nat.blt pos s.length=true from Nat.ble_eq_true_of_le h];rfl
theorem Tf {s:List UInt8} {pos:Nat} {r:ad} (h:¬ pos<s.length) :cP (.iter s pos::r) (.it 0)=some (.a1 [.bool false],.iter s pos::r):=by unfold cP;simp only[hn];rw[show Nat.blt pos s.length=false by cases g:Nat.blt pos s.length with | false=>rfl | true=>exact bW (xO g) h]
theorem Rv {g:cj} {p:Nat->Bool} (z:fI prog g=true) (D:∀ r:Nat,aW g [.int .i32 r] (.bool (p r))) (s:List UInt8) :
  aW 280 [.str s,.fn g [] [],.bool true] (.i6 (iS p s s.length 0)):=by
 apply a8 func280 [];simp[w3];refine wx (fun m o l=>∃ pos,s.length - pos=m/\iS p s m pos=iS p s s.length 0/\o 1=.fn g [] []/\o 2=.bool true/\o 10=.it 0/\l=[.iter s pos]) ?_ s.length _ _ ⟨0,V⟩;rintro m o l ⟨pos,H,j,q,u,t,rfl⟩;obtain⟨o,rfl⟩:=gJ q u t;clear q u t;by_cases h:pos<s.length
 ·have C:m=(m - 1)+1:=F;have I:=G2 s pos;obtain⟨G,w⟩:=al (iS p s s.length 0);rw[<-w] at j ⊢;rw[C] at j;unfold iS at j;rw[ak h] at j;simp[Tg h];refine⟨z,au (D _) rfl ?_⟩;cases v:p (lh s pos).1 with
  | true=>
   rw[v] at j;simp;exact aR (by rw[<-j];simp) rfl
  | false=>
   rw[v] at j;simp;refine⟨s.length - (pos+(lh s pos).2),F,pos+(lh s pos).2,rfl,?_,V,V,V,V⟩;rw[<-j];simp only[kj,if_false];rw[Cx p s (m - 1) _ F]
 ·have B:m=0:=F;subst B;simp[Tf h];exact aR (by rw[<-j];rfl) rfl
theorem Ls {g:cj} {p:Nat->Bool} (h:fI prog g=true) (j:∀ r:Nat,aW g [.int .i32 r] (.bool (p r))) (s:List UInt8) :
  aW 257 [.str s,.fn g [] []] (.i6 (iS p s s.length 0)):=by apply a8 func257 [];simp;refine au (Rv h j s) rfl ?_;simp;exact aL
theorem R4 (r:Nat) :aW 258 [.int .i32 r] (.bool (kt 33 r)):=by
 apply a8 func258 [];unfold kt;have h1:((r:Int)<33)<->r<33:=F;have g:((126:Int)<r)<->126<r:=F;by_cases h:r<33
 ·simp[h1,h];exact aL
 ·simp[h1,h,g];exact aL
theorem XE (r:Nat) :aW 282 [.int .i32 r] (.bool (kt 32 r)):=by
 apply a8 func282 [];unfold kt;have h1:((r:Int)<32)<->r<32:=F;have g:((126:Int)<r)<->126<r:=F;by_cases h:r<32
 ·simp[h1,h];exact aL
 ·simp[h1,h,g];exact aL
theorem QO:fI prog 258=true:=bp
theorem QT:fI prog 282=true:=bp
def hz (s:List UInt8) :Bool:=decide (1<=s.length)&&decide (s.length<=20)&&s.all (fM 33)
theorem CD (s:List UInt8) :aW 216 [.str s] (.bool (hz s)):=by
 apply a8 func216 [];unfold hz;have h1:((1:Int)<=s.length)<->1<=s.length:=F;have o:((s.length:Int)<=20)<->s.length<=20:=F;by_cases g:1<=s.length
 ·by_cases j:s.length<=20
  ·simp[h1,o,g,j];refine au (Ls QO R4 s) rfl ?_;have:=Cw 33 F s s.length 0 F;rw[lG] at this;have p:decide (iS (kt 33) s s.length 0<0)=s.all (fM 33):=by
    cases m:s.all (fM 33) with
    | true=>simpa using this.2 m
    | false=>
     have:¬ iS (kt 33) s s.length 0<0:=fun h=>by rw[this.1 h] at m;cases m
     simpa using this
   simp;rw[p];exact aR (by simp[g,j]) rfl
  ·simp[h1,o,g,j];exact aR V rfl
 ·simp[h1,g];exact aR V rfl
theorem FO {s:List UInt8} {p:UInt8->Bool} {k:Nat} {b:UInt8} (h:s[k]?=some b) :(s.take (k+1)).all p=((s.take k).all p&&p b):=by rw[ej,h];simp[List.all_append]
theorem x1 {s:List UInt8} {p:UInt8->Bool} {k:Nat} {b:UInt8} (h:s[k]?=some b) (g:p b=false) :s.all p=false:=by rw[List.all_eq_false];exact⟨b,cJ h,by simp[g]⟩
theorem CX (s:List UInt8) :aW 226 [.str s] (.bool (hz s)):=by
 apply a8 func226 [];have h1:((s.length:Int)<1)<->¬ 1<=s.length:=F;have C:((20:Int)<s.length)<->¬ s.length<=20:=F;by_cases g:1<=s.length
 ·by_cases m:s.length<=20
  ·simp[h1,C,g,m];refine bx s.length (fun k q _=>q 0=.str s/\q 3=.i6 k/\(s.take k).all (fM 33)=true) ?_ V;rintro k q l hk ⟨z,B,u⟩;obtain⟨q,rfl⟩:=kh z B;clear z B;by_cases h:k<s.length
   ·obtain⟨b,o,_⟩:=aP h;have G:IntKind.i64.wrap ((k:Int)+1)=(k+1:Nat):=wrap_i64 F F;have t:((b.toNat:Int)<33)<->¬ 33<=b.toNat:=F;have w:((126:Int)<b.toNat)<->¬ b.toNat<=126:=F;have v:tP (.str s) (.i6 k)=some (.int .u8 b.toNat):=by simp[o,hs]
    by_cases q1:33<=b.toNat
    ·by_cases p:b.toNat<=126
     ·have j:fM 33 b=true:=by simp[fM,q1,p]
      simp[h,v,t,w,q1,p,G,FO o,j,-tR];simpa using u
     ·have j:fM 33 b=false:=by simp[fM,p]
      simp[h,v,t,w,q1,p,-tR];exact aR (by simp[hz,x1 o j]) rfl
    ·have j:fM 33 b=false:=by simp[fM,q1]
     simp[h,v,t,q1,-tR];exact aR (by simp[hz,x1 o j]) rfl
   ·have D:k=s.length:=F;subst D;rw[e3] at u;simp;exact aR (by simp only[hz,u];simp[g,m]) rfl
  ·simp[h1,C,g,m];exact aR (by simp[hz,m]) rfl
 ·simp[h1,g];exact aR (by simp[hz,g]) rfl
theorem UJ (s:List UInt8) (C:s.length<=1000000000) :aW 264 [.str s] (.bool (s.all (fM 32))):=by
 apply a8 func264 [];simp;refine bx s.length (fun k o _=>o 0=.str s/\o 3=.i6 k/\(s.take k).all (fM 32)=true) ?_ V;rintro k o l hk ⟨v,w,q⟩;obtain⟨o,rfl⟩:=kh v w;clear v w;by_cases h:k<s.length
 ·obtain⟨b,j,_⟩:=aP h;have B:IntKind.i64.wrap ((k:Int)+1)=(k+1:Nat):=wrap_i64 F F;have p:((b.toNat:Int)<32)<->¬ 32<=b.toNat:=F;have u:((126:Int)<b.toNat)<->¬ b.toNat<=126:=F;have t:tP (.str s) (.i6 k)=some (.int .u8 b.toNat):=by simp[j,hs]
  by_cases q1:32<=b.toNat
  ·by_cases m:b.toNat<=126
   ·have g:fM 32 b=true:=by simp[fM,q1,m]
    simp[h,t,p,u,q1,m,B,FO j,g,-tR];simpa using q
   ·have g:fM 32 b=false:=by simp[fM,m]
    simp[h,t,p,u,q1,m,-tR];exact aR (by simp only[x1 j g]) rfl
  ·have g:fM 32 b=false:=by simp[fM,q1]
   simp[h,t,p,q1,-tR];exact aR (by simp only[x1 j g]) rfl
 ·have z:k=s.length:=F;subst z;rw[e3] at q;simp;exact aR (by simp only[q]) rfl
structure gU where
 kind:B
 num:Int
 bits:Q
 text:List UInt8
def dK (v:gU) :ag:=[a7 v.kind,.i6 v.num,c7 v.bits,.str v.text]
def o3:gU:=⟨0#8,0,0#64,[]⟩
def h7 (b:Q) :Nat:=b.toNat / 4503599627370496 % 2048
def mD (b:Q) :Q:=b % 4503599627370496#64
def cls (b:Q) :B:=if h7 b=2047 then (if mD b=0#64 then 4#8 else 5#8) else if h7 b=0 then (if mD b=0#64 then 1#8 else 2#8) else 3#8
def kv (b:Q) :Q:=if cls b=5#8 then 9221120237041090560#64 else b
theorem g2 (k:B) :((u k:Int)=1)<->k=1#8:=hY k 1#8
theorem jo (k:B) :((u k:Int)=2)<->k=2#8:=hY k 2#8
theorem nU (k:B) :((u k:Int)=3)<->k=3#8:=hY k 3#8
theorem re (k:B) :((u k:Int)=4)<->k=4#8:=hY k 4#8
theorem As (k:B) :((u k:Int)=5)<->k=5#8:=hY k 5#8
theorem X4 (k:B) :((u k:Int)=0)<->k=0#8:=hY k 0#8
theorem ss (k:Q) :((u k:Int)=0)<->k=0#64:=hY k 0#64
theorem Hj (b:Q) :h7 b<2048:=mq _ (by decide)
theorem N6 (n:Nat) (h:n<9223372036854775808) :cx .and .i64 (n:Int) .i64 2047=some (.i6 ((n % 2048:Nat) :Int)):=by
 show some (U.i6 (IntKind.i64.wrap ((BitVec.ofInt 64 (n:Int) &&& BitVec.ofInt 64 (2047:Int)).toNat:Int)))=_;have h1:(BitVec.ofInt 64 (n:Int) &&& BitVec.ofInt 64 (2047:Int)).toNat=n % 2048:=by
  rw[nX,AI,fQ,eg F];exact ME n 11
 have g:=mq n (show 2048 > 0 by decide);rw[h1];generalize n % 2048=q at g;rw[wrap_i64 F F]
theorem QW (b:Q) :b &&& 4503599627370495#64=mD b:=by apply e2;unfold mD;rw[AI,m5];exact ME b.toNat 52
theorem Xg (b:Q) :aW 292 [c7 b] (.a1 [.i6 (h7 b),c7 (mD b)]):=by
 apply a8 func292 [];have p:=b.isLt;have h1:IntKind.i64.wrap (u (b >>> 52))=((b.toNat / 4503599627370496:Nat) :Int):=by
  have:u (b >>> 52)=((b.toNat / 4503599627370496:Nat) :Int):=by unfold u;rw[lE,hI]
  rw[this,wrap_i64 F F]
 have g:=N6 (b.toNat / 4503599627370496) F;have m:h7 b=b.toNat / 4503599627370496 % 2048:=rfl;rw[<-m] at g;obtain⟨q,o⟩:∃ q,b.toNat / 4503599627370496=q:=⟨_,rfl⟩
 rw[o] at h1 g;have h:cx .and .u64 (u b) .u64 4503599627370495=some (c7 (mD b)):=by
  rw[F3,qR,<-QW];rfl
 have j:cx .shr .u64 (u b) .u64 52=some (.int .u64 (u (b >>> 52))):=qr b .u64 52;simp[j,h1,g,h,-F3];exact aL
theorem VV (b:Q) :aW 289 [c7 b] (.i6 (h7 b)):=by
 apply a8 func289 [];have m:=b.isLt;have h1:cx .rem .u64 (u b) .u64 9223372036854775808=some (c7 (b % 9223372036854775808#64)):=tq b 9223372036854775808#64 (by decide);have g:cx .quo .u64 (u (b % 9223372036854775808#64)) .u64 4503599627370496=some (c7 (b % 9223372036854775808#64 / 4503599627370496#64)):=Dw _ 4503599627370496#64 (by decide);have h:IntKind.i64.wrap (u (b % 9223372036854775808#64 / 4503599627370496#64))=(h7 b:Int):=by
  have:u (b % 9223372036854775808#64 / 4503599627370496#64)=(h7 b:Int):=by
   unfold u h7;rw[rn,m5];show (((b.toNat % 9223372036854775808) / 4503599627370496:Nat) :Int)=_;congr 1;omega
  have j:=Hj b;rw[this,wrap_i64 F F]
 simp[h1,g,h];exact aL
theorem VW (b:Q) :aW 290 [c7 b] (c7 (mD b)):=by apply a8 func290 [];have h1:cx .rem .u64 (u b) .u64 4503599627370496=some (c7 (mD b)):=tq b 4503599627370496#64 (by decide);simp[h1];exact aL
theorem O9 (b:Q) :aW 288 [c7 b] (a7 (cls b)):=by
 apply a8 func288 [];unfold cls;simp;refine au (Xg b) rfl ?_;have h1:((h7 b:Int)=2047)<->h7 b=2047:=F;have m:((h7 b:Int)=0)<->h7 b=0:=F;by_cases h:h7 b=2047
 ·by_cases g:mD b=0#64
  ·simp[h,g];exact aL
  ·simp[h,g,ss];exact aL
 ·by_cases j:h7 b=0
  ·by_cases g:mD b=0#64
   ·simp[g,j];exact aL
   ·simp[g,j,ss];exact aL
  ·simp[h1,h,j];exact aL
theorem VU (b:Q) :aW 283 [c7 b] (a7 (cls b)):=by
 apply a8 func283 [];unfold cls;simp;refine au (VV b) rfl ?_;simp;refine au (VW b) rfl ?_;have o:((h7 b:Int)=0)<->h7 b=0:=F;have m:((h7 b:Int)<2047)<->¬ h7 b=2047:=by have:=Hj b;omega
 by_cases j:h7 b=0
 ·by_cases g:mD b=0#64
  ·simp[g,j];exact aL
  ·simp[g,j,ss];exact aL
 ·by_cases h:h7 b=2047
  ·by_cases g:mD b=0#64
   ·simp[h,g];exact aL
   ·simp[h,g,ss];exact aL
  ·simp[m,h,j];exact aL
theorem OW (b:Q) :aW 281 [c7 b] (c7 (kv b)):=by
 apply a8 func281 [];unfold kv;simp;refine au (O9 b) rfl ?_;by_cases h:cls b=5#8
 ·simp[As,h];exact aL
 ·simp[As,h];exact aL
theorem VS (b:Q) :aW 263 [c7 b] (c7 (kv b)):=by
 apply a8 func263 [];unfold kv;simp;refine au (VU b) rfl ?_;by_cases h:cls b=5#8
 ·simp[As,h];exact aL
 ·simp[As,h];exact aL
theorem Ya (n:Int) :aW 259 [.i6 n] (.af (dK ⟨1#8,n,0#64,[]⟩)):=by apply a8 func259 [];simp;exact aL
theorem X9 (b:Q) :aW 260 [c7 b] (.af (dK ⟨2#8,0,kv b,[]⟩)):=by apply a8 func260 [];simp;refine au (OW b) rfl ?_;simp;exact aL
def oY (s:List UInt8) :gU × Int:=if s.length<=30 then (if s.all (fM 32) then (⟨3#8,0,0#64,s⟩,0) else (o3,8)) else (o3,4)
theorem Yh (s:List UInt8) :aW 261 [.str s] (.a1 [.af (dK (oY s).1),.i6 (oY s).2]):=by
 apply a8 func261 [];unfold oY;have j:((30:Int)<s.length)<->¬ s.length<=30:=F;by_cases g:s.length<=30
 ·simp[j,g];refine au (Ls QT XE s) rfl ?_;have m:=Cw 32 F s s.length 0 F;rw[lG] at m;have o:((0:Int)<=iS (kt 32) s s.length 0)<->¬ (s.all (fM 32)=true):=by rw[<-m];omega
  cases p:s.all (fM 32) with
  | true=>
   have h:¬ (0:Int)<=iS (kt 32) s s.length 0:=by rw[o,p];simp
   simp[h];exact aR (by simp[g];rfl) rfl
  | false=>
   have h:(0:Int)<=iS (kt 32) s s.length 0:=by rw[o,p];simp
   simp[h];exact aR (by simp[g];rfl) rfl
 ·simp[j,g];exact aL
def iI (v:gU) :Bool:=
 if v.kind=1#8 then decide (v.bits=0#64)&&decide (v.text=[])
 else if v.kind=2#8 then decide (v.num=0)&&decide (v.text=[])&&decide (kv v.bits=v.bits)
 else if v.kind=3#8 then decide (v.num=0)&&decide (v.bits=0#64)&&decide (v.text.length<=30)&&v.text.all (fM 32)
 else false
def j1 (b:Bool) :Int:=if b then 0 else 8
def R2:List ks:=[.i .u8,.i .i64,.i .u64,.s]
theorem Ir:mK prog 20 49=some R2:=bp
theorem Yi (a b:gU) :eb prog .eql 49 (.af (dK a)) (.af (dK b))=some (.bool (dz (dK a) (dK b))):=vA Ir bp bp rfl rfl
theorem Yj (a b:gU) :eb prog .neq 49 (.af (dK a)) (.af (dK b))=some (.bool (!dz (dK a) (dK b))):=Bt Ir bp bp rfl rfl
theorem F9 (a b:gU) :dz (dK a) (dK b)=(decide (a.kind=b.kind)&&(decide (a.num=b.num)&&(decide (a.bits=b.bits)&&decide (a.text=b.text)))):=by simp[dK,dz,U.beq]
theorem EL {v:gU} (k:v.kind=1#8) :iI v=(decide (v.bits=0#64)&&decide (v.text=[])):=by simp[iI,k]
theorem EM {v:gU} (k:v.kind=2#8) :iI v=(decide (v.num=0)&&(decide (v.bits=kv v.bits)&&decide (v.text=[]))):=by unfold iI;rw[aj (by rw[k];decide),ak k,show decide (kv v.bits=v.bits)=decide (v.bits=kv v.bits) from decide_eq_decide.2 eq_comm];cases decide (v.num=0)<;>cases decide (v.text=[])<;>cases decide (v.bits=kv v.bits)<;>rfl
theorem Md {v:gU} (k:v.kind=3#8) :iI v=(decide (v.kind=(oY v.text).1.kind)&&(decide (v.num=(oY v.text).1.num)&&(decide (v.bits=(oY v.text).1.bits)&&decide (v.text=(oY v.text).1.text)))):=by
 unfold iI oY;rw[aj (by rw[k];decide),aj (by rw[k];decide),ak k];by_cases h1:v.text.length<=30
 ·cases g:v.text.all (fM 32) with
  | true=>simp[h1,k]
  | false=>simp[h1,k,o3]
 ·simp[h1,k,o3]
theorem EN {v:gU} (g:v.kind≠1#8) (h:v.kind≠2#8) (j:v.kind≠3#8) :iI v=false:=by simp[iI,g,h,j]
theorem Mb (v:gU) :aW 217 [.af (dK v)] (.i6 (j1 (iI v))):=by
 apply a8 func217 [];have o:∀ (k:B) (n:Int) (b:Q) (m:List UInt8),eb prog .neq 49 (.af [a7 v.kind,.i6 v.num,c7 v.bits,.str v.text]) (.af [a7 k,.i6 n,c7 b,.str m])=some (.bool (!(decide (v.kind=k)&&(decide (v.num=n)&&(decide (v.bits=b)&&decide (v.text=m)))))):=fun k n b m=>by rw[<-F9 v ⟨k,n,b,m⟩];exact Yj v ⟨k,n,b,m⟩
 by_cases g:v.kind=1#8
 ·have h1:=o 1#8 v.num 0#64 [];simp only[g] at h1;unfold dK;simp[g2,g];refine au (Ya v.num) rfl ?_;unfold dK;simp[h1];rw[EL g];cases decide (v.bits=0#64)<;>cases decide (v.text=[])<;>simp[g]<;>exact aL
 ·by_cases h:v.kind=2#8
  ·have h1:=o 2#8 0 (kv v.bits) [];simp only[h] at h1;unfold dK;simp[g2,jo,h];refine au (X9 v.bits) rfl ?_;unfold dK;simp[h1];rw[EM h];cases decide (v.num=0)<;>cases decide (v.bits=kv v.bits)<;>cases decide (v.text=[])<;>simp[h]<;>exact aL
  ·by_cases j:v.kind=3#8
   ·obtain⟨w,t⟩:=al ((oY v.text).1);have h1:=o w.kind w.num w.bits w.text;have q:=Md j;rw[<-t] at q;simp only[j] at h1 q;unfold dK;simp[g2,jo,nU,j];refine au (Yh v.text) rfl ?_;rw[<-t];unfold dK;simp[h1];rw[q];cases decide (3#8=w.kind)<;>cases decide (v.num=w.num)<;>cases decide (v.bits=w.bits)<;>cases decide (v.text=w.text)<;>simp[j]<;>exact aL
   ·have h1:eb prog .neq 49 (.af [a7 v.kind,.i6 v.num,c7 v.bits,.str v.text]) (.af [.int .u8 0,.i6 0,.int .u64 0,.str []])=some (.bool (!(decide (v.kind=0#8)&&(decide (v.num=0)&&(decide (v.bits=0#64)&&decide (v.text=[])))))):=o 0#8 0 0#64 [];rw[EN g h j];unfold dK;simp[g2,jo,nU,g,h,j];by_cases p:v.kind=0#8
    ·simp only[p,n5,lF] at h1;simp[p,h1];cases decide (v.num=0)<;>cases decide (v.bits=0#64)<;>cases decide (v.text=[])<;>simp[p]<;>exact aL
    ·simp only[p,vf,rp,rq] at h1;simp[h1];exact aL
theorem VY (v:gU) :aW 227 [.af (dK v)] (.i6 (j1 (iI v))):=by
 apply a8 func227 [cR 0 11++[[12],[13],[11,13]]];by_cases o:v.kind=1#8
 ·rw[EL o];unfold dK;simp[g2,o,ss];by_cases g:v.bits=0#64<;>by_cases j:v.text=[]<;>simp[g,j]<;>exact aL
 ·by_cases p:v.kind=2#8
  ·rw[EM p];unfold dK;simp[g2,jo,p];by_cases g:v.num=0
   ·by_cases j:v.text=[]
    ·simp[g,j];refine au (VS v.bits) rfl ?_;by_cases m:v.bits=kv v.bits
     ·have t:kv v.bits=v.bits:=m.symm;simp[t];exact aR (by simp[j1,g,j]) rfl
     ·have t:¬ kv v.bits=v.bits:=fun h=>m h.symm
      simp[m,t];exact aR (by simp[j1]) rfl
    ·simp[g,j];exact aL
   ·simp[g];exact aL
  ·by_cases q:v.kind=3#8
   ·have w:iI v=(decide (v.num=0)&&decide (v.bits=0#64)&&decide (v.text.length<=30)&&v.text.all (fM 32)):=by simp[iI,q]
    have u:((v.text.length:Int)<=30)<->v.text.length<=30:=F;rw[w];unfold dK;simp[g2,jo,nU,q];by_cases g:v.num=0
    ·by_cases j:v.bits=0#64
     ·by_cases m:v.text.length<=30
      ·simp[g,j,u,m];refine au (UJ v.text F) rfl ?_;cases v.text.all (fM 32)<;>simp<;>exact aR (by simp[j1,g,j,m]) rfl
      ·simp[g,j,u,m];exact aL
     ·simp[g,j,ss];exact aL
    ·simp[g];exact aL
   ·rw[EN o p q];unfold dK;simp[g2,jo,nU,o,p,q];exact aL
structure Act where
 kind:B
 key:List UInt8
 val:gU
def e7 (a:Act) :ag:=[a7 a.kind,.str a.key,a7 a.val.kind,.i6 a.val.num,c7 a.val.bits,.str a.val.text]
def lo (v:gU) :Bool:=decide (v.kind=0#8)&&(decide (v.num=0)&&(decide (v.bits=0#64)&&decide (v.text=[])))
def iQ (a:Act) :Bool:=
 if a.kind=1#8 then decide (a.key=[])&&lo a.val
 else if a.kind=2#8\/a.kind=3#8 then hz a.key&&lo a.val
 else if a.kind=4#8 then hz a.key&&iI a.val
 else false
def mH:List ks:=[.i .u8,.s,.i .u8,.i .i64,.i .u64,.s]
theorem R7:mK prog 20 51=some mH:=bp
theorem xZ (a b:Act) :eb prog .eql 51 (.af (e7 a)) (.af (e7 b))=some (.bool (dz (e7 a) (e7 b))):=vA R7 bp bp rfl rfl
theorem NY (a:Act) (h:a.kind=1#8) :eb prog .eql 51 (.af [.int .u8 1,.str a.key,a7 a.val.kind,.i6 a.val.num,c7 a.val.bits,.str a.val.text]) (.af [.int .u8 1,.str [],.int .u8 0,.i6 0,.int .u64 0,.str []])=some (.bool (decide (a.key=[])&&lo a.val)):=by have:=xZ a ⟨1#8,[],o3⟩;simp only[e7,h] at this;refine Eq.trans this ?_;simp[dz,U.beq,lo,o3,X4,ss];congr
theorem Mc (v:gU) :eb prog .eql 49 (.af [a7 v.kind,.i6 v.num,c7 v.bits,.str v.text]) (.af [.int .u8 0,.i6 0,.int .u64 0,.str []])=some (.bool (lo v)):=by have:=Yi v o3;rw[F9] at this;exact this
theorem FK {a:Act} (k:a.kind=1#8) :iQ a=(decide (a.key=[])&&lo a.val):=by simp[iQ,k]
theorem Bk {a:Act} (k:a.kind=2#8) :iQ a=(hz a.key&&lo a.val):=by simp[iQ,k]
theorem Bl {a:Act} (k:a.kind=3#8) :iQ a=(hz a.key&&lo a.val):=by simp[iQ,k]
theorem vt {a:Act} (k:a.kind=4#8) :iQ a=(hz a.key&&iI a.val):=by simp[iQ,k]
theorem Bm {a:Act} (g:a.kind≠1#8) (h:a.kind≠2#8) (j:a.kind≠3#8) (m:a.kind≠4#8) :iQ a=false:=by simp[iQ,g,h,j,m]
theorem O5 (a:Act) :aW 170 [.af (e7 a)] (.i6 (j1 (iQ a))):=by
 apply a8 func170 [];by_cases g:a.kind=1#8
 ·have h1:=NY a g;have o:a7 (1#8)=.int .u8 1:=rfl;rw[FK g];unfold e7;simp[g,o,h1];by_cases p:a.key=[]<;>cases q:lo a.val<;>simp[p]<;>exact aL
 ·have h1:=Mc a.val;by_cases h:a.kind=2#8
  ·rw[Bk h];unfold e7;simp[g2,jo,h];refine au (CD a.key) rfl ?_;cases hz a.key with
   | true=>simp[h1];cases lo a.val<;>simp<;>exact aL
   | false=>simp;exact aL
  ·by_cases j:a.kind=3#8
   ·rw[Bl j];unfold e7;simp[g2,jo,nU,j];refine au (CD a.key) rfl ?_;cases hz a.key with
    | true=>simp[h1];cases lo a.val<;>simp<;>exact aL
    | false=>simp;exact aL
   ·by_cases m:a.kind=4#8
    ·rw[vt m];unfold e7;simp[g2,jo,nU,re,m];refine au (CD a.key) rfl ?_;cases hz a.key with
     | true=>
      simp;refine au (Mb a.val) rfl ?_;cases iI a.val<;>simp[j1]<;>exact aL
     | false=>simp;exact aL
    ·rw[Bm g h j m];unfold e7;simp[g2,jo,nU,re,g,h,j,m];exact aL
theorem VT (a:Act) :aW 181 [.af (e7 a)] (.i6 (j1 (iQ a))):=by
 apply a8 func181 [];have h1:=Mc a.val;by_cases g:a.kind=1#8
 ·rw[FK g];unfold e7;simp[g2,g,h1];by_cases o:a.key=[]<;>cases p:lo a.val<;>simp[o]<;>exact aL
 ·by_cases h:a.kind=2#8
  ·rw[Bk h];unfold e7;simp[g2,jo,h,h1];refine au (CX a.key) rfl ?_;cases hz a.key with
   | true=>simp;cases lo a.val<;>simp<;>exact aL
   | false=>simp;exact aL
  ·by_cases j:a.kind=3#8
   ·rw[Bl j];unfold e7;simp[g2,jo,nU,j,h1];refine au (CX a.key) rfl ?_;cases hz a.key with
    | true=>simp;cases lo a.val<;>simp<;>exact aL
    | false=>simp;exact aL
   ·by_cases m:a.kind=4#8
    ·rw[vt m];unfold e7;simp[g2,jo,nU,re,m,h1];refine au (CX a.key) rfl ?_;cases hz a.key with
     | true=>
      simp;refine au (VY a.val) rfl ?_;cases iI a.val<;>simp[j1]<;>exact aL
     | false=>simp;exact aL
    ·rw[Bm g h j m];unfold e7;simp[g2,jo,nU,re,g,h,j,m,h1];exact aL
end Op
def ce {alZ:Type} (z:Nat) (enc:alZ->ag) (l l1:ad) (v:U) (a:List alZ) (h:Bool) :Prop:=
 ∃ g,aE z l1 v g (a.map enc)/\l.length<=l1.length/\(∀ b,b<l.length->l1[b]?=l[b]?)/\(v=.ae\/l.length<=g)/\bo v=h
section
variable {alZ:Type} {z:Nat} {enc:alZ->ag} {l l1:ad} {v:U} {a:List alZ} {nl:Bool}
theorem ce.nil:ce z enc l l .ae ([] :List alZ) true:=⟨0,.nil 0,aN _,fun _ _=>rfl,.inl rfl,rfl⟩
theorem ce.more (h:ce z enc l l1 v a nl) (r:ad) :ce z enc l (l1++r) v a nl:=by obtain⟨p,h1,q,g,j,m⟩:=h;exact⟨p,h1.more r,by simp;omega,fun b o=>by rw[aU F];exact g b o,j,m⟩
theorem ce.len (h:ce z enc l l1 v a nl) :bz (.Z z) v=some (.i6 a.length):=by obtain⟨g,h1,_⟩:=h;rw[h1.len,cg]
theorem ce.cells (h:ce z enc l l1 v a nl) :v.cells=some [v]:=by obtain⟨g,h1,_⟩:=h;exact h1.cells
theorem ce.contents (h:ce z enc l l1 v a nl) :cr l1 z v=some ((a.map enc).flatten,a.length):=by obtain⟨g,h1,_⟩:=h;rw[h1.contents,cg]
theorem ce.le (h:ce z enc l l1 v a nl) :l.length<=l1.length:=by obtain⟨j,h1,g,_⟩:=h;exact g
theorem ce.same (h:ce z enc l l1 v a nl) :∀ b,b<l.length->l1[b]?=l[b]?:=by obtain⟨m,h1,j,g,_⟩:=h;exact g
theorem ce.oR (h:ce z enc l l1 v a nl) (j:∀ x,aq (enc x)=true) (s:bX alZ) (m:nl=s.isNone) (o:s.l=a) :fp (aZ l1) v (b4 z enc s):=by obtain⟨u,h1,p,q,t,g⟩:=h;exact h1.nM j s (by rw[g,m]) o
theorem ce.rd (h:ce z enc l l1 v a nl) (j:∀ x,aq (enc x)=true) (s:bX alZ) (m:nl=s.isNone) (o:s.l=a) :Rd l1 v (b4 z enc s):=by obtain⟨w,h1,p,t,u,g⟩:=h;exact h1.q.gG j s (by rw[g,m]) o
theorem ce.base (h:ce z enc l l1 v a nl) {l0:ad} (u:l0.length<=l.length) (p:∀ b,b<l0.length->l[b]?=l0[b]?) :ce z enc l0 l1 v a nl:=by obtain⟨q,h1,t,g,j,m⟩:=h;exact⟨q,h1,F,fun b o=>by rw[g b F];exact p b o,j.imp id F,m⟩
theorem ce.frame (h:ce z enc l l1 v a nl) {g:ad} (B:l1.length<=g.length) (j:∀ b,b<l1.length->g[b]?=l1[b]?) :ce z enc l g v a nl:=by obtain⟨m,h1,w,o,p,q⟩:=h;exact⟨m,h1.frame fun u=>j m u,F,fun b t=>by rw[j b F];exact o b t,p,q⟩
theorem ce.app (h:ce z enc l l1 v a nl) {by_:Nat} {x:U} {xs:List alZ} (K:cr l1 z x=some ((xs.map enc).flatten,xs.length)) (P:∀ y∈xs,(enc y).length=z) (w:z≠0) (H:by_≠0) (J:(a.length+xs.length)*by_<=dk) :
  ∃ g l',ea l1 z by_ v x=some (g,l')/\ce z enc l l' g (a++xs) (nl&&xs.isEmpty)/\l1.length<=l'.length:=by
 obtain⟨T,h1,R,B,j,C⟩:=h;obtain⟨g,Q,l',m,o,p,q,t,u⟩:=hN (xs:=xs.map enc) h1 (by simpa using K) (fun e I=>by obtain⟨y,O,rfl⟩:=cC.1 I;exact P y O) w H (by simpa using J);refine⟨g,l',m,⟨Q,by rw[cS];exact o,F,fun b G=>?_,?_,?_⟩,p⟩
 ·rw[q b F]
  ·exact B b G
  ·rcases j with h | h
   ·exact .inl h
   ·exact .inr F
 ·rcases t with h | ⟨D,S⟩ | h
  ·exact .inr F
  ·rcases j with h | h
   ·exact bW h D
   ·exact .inr F
  ·exact .inl h
 ·rw[u,C];simp
end
namespace Op
open cu
theorem ce.push {l l1:ad} {v:U} {a:List B} {p:Bool} (h:ce 1 bY l l1 v a p) (x:B) (t:a.length<=1000000000) :
  ∃ g l',ea (l1++[.q 1 [a7 x]]) 1 1 v (.Z 1 l1.length 0 1 1 1)=some (g,l')/\ce 1 bY l l' g (a++[x]) false:=by have o:=ds;obtain⟨g,l',j,m,_⟩:=(h.more [.q 1 [a7 x]]).app (by_:=1) (x:=.Z 1 l1.length 0 1 1 1) (xs:=[x]) (by simp[cr,bY]) (by simp[bY]) F F (by rw[o];simp;omega);exact⟨g,l',j,by simpa using m⟩
theorem vV:∀ a:List B,(a.map bY).flatten=a.map a7
 | []=>rfl
 | x::a=>by rw[di,hG,vV a];rfl
theorem ma {l:ad} {j n:Nat} {a:List B} (g:a.length=n) (m:l[j]?=some (.q n (a.map a7))) :aE 1 l (.Z 1 j 0 n n n) j (a.map bY):=by
 refine .Z j n n n (a.map a7) _ m (by simp[g]) (by simp[g]) (fun e h=>?_) (aN _) F ?_
 ·obtain⟨x,_,rfl⟩:=cC.1 h;rfl
 ·rw[aH (by simp[g]),vV]
def iY (n:Nat) :Nat:=if n<256 then 1 else if n<65536 then 2 else if n<16777216 then 3 else if n<4294967296 then 4 else if n<1099511627776 then 5 else if n<281474976710656 then 6 else if n<72057594037927936 then 7 else 8
theorem zi (n:Nat) :1<=iY n/\iY n<=8:=by unfold iY;refine⟨?_,?_⟩<;>(repeat' split)<;>omega
def jv (n i:Nat) :B:=BitVec.ofNat 8 (n >>> (8*i))
def pU (n:Nat) :Nat->List B
 | 0=>[]
 | i+1=>jv n i::pU n i
theorem Ez (n:Nat) :∀ i,(pU n i).length=i
 | 0=>rfl
 | i+1=>by simp[pU,Ez n i]
def dD (n:Nat) :List B:=if n<=247 then [BitVec.ofNat 8 n] else BitVec.ofNat 8 (247+iY n) ::pU n (iY n)
def fq (x:Nat) :Nat:=if x<1 then 0 else if x<2 then 1 else if x<4 then 2 else if x<8 then 3 else if x<16 then 4 else if x<32 then 5 else if x<64 then 6 else if x<128 then 7 else 8
def xm:List UInt8:=[0,1,2,2,3,3,3,3,4,4,4,4,4,4,4,4,5,5,5,5,5,5,5,5,5,5,5,5,5,5,5,5,6,6,6,6,6,6,6,6,6,6,6,6,6,6,6,6,6,6,6,6,6,6,6,6,6,6,6,6,6,6,6,6,7,7,7,7,7,7,7,7,7,7,7,7,7,7,7,7,7,7,7,7,7,7,7,7,7,7,7,7,7,7,7,7,7,7,7,7,7,7,7,7,7,7,7,7,7,7,7,7,7,7,7,7,7,7,7,7,7,7,7,7,7,7,7,7,8,8,8,8,8,8,8,8,8,8,8,8,8,8,8,8,8,8,8,8,8,8,8,8,8,8,8,8,8,8,8,8,8,8,8,8,8,8,8,8,8,8,8,8,8,8,8,8,8,8,8,8,8,8,8,8,8,8,8,8,8,8,8,8,8,8,8,8,8,8,8,8,8,8,8,8,8,8,8,8,8,8,8,8,8,8,8,8,8,8,8,8,8,8,8,8,8,8,8,8,8,8,8,8,8,8,8,8,8,8,8,8,8,8,8,8,8,8,8,8,8,8,8,8,8,8,8,8]
def Ex:Nat->List UInt8->Bool
 | _,[]=>true
 | i,x::r=>Nat.beq x.toNat (fq i)&&Ex (i+1) r
theorem LH:∀ (i:Nat) (l:List UInt8),Ex i l=true->∀ (j:Nat) (x:UInt8),l[j]?=some x->x.toNat=fq (i+j)
 | i,[],_,j,x,h=>by simp at h
 | i,y::r,h,j,x,g=>by
  simp only[Ex,bU] at h;cases j with
  | zero=>simp at g;subst g;exact mo h.1
  | succ j=>simp at g;rw[LH (i+1) r h.2 j x g];congr 1;omega
theorem rc (i:Nat) (h:i<256) :∃ x,xm[i]?=some x/\x.toNat=fq i:=by have j:xm.length=256:=bp;have g:=LH 0 xm bp i _ (bK F);exact⟨_,bK F,by rw[g];congr 1;omega⟩
theorem pE (x:Nat) :fq x<=8:=by unfold fq;(repeat' split)<;>omega
def h9 (n:Nat) :Nat:=
 if n<256 then fq n else if n<65536 then 8+fq (n / 256) else if n<16777216 then 16+fq (n / 65536) else if n<4294967296 then 24+fq (n / 16777216)
 else if n<1099511627776 then 32+fq (n / 4294967296) else if n<281474976710656 then 40+fq (n / 1099511627776) else if n<72057594037927936 then 48+fq (n / 281474976710656) else 56+fq (n / 72057594037927936)
theorem Sj (n:Nat) (h:1<=n) :(h9 n+7) / 8=iY n:=by
 have g:∀ x,1<=x->1<=fq x/\fq x<=8:=fun x j=>⟨by unfold fq;rw[aj F];(repeat' split)<;>omega,pE x⟩
 unfold h9 iY
 repeat' split
 ·have:=g n h;omega
 ·have:=g (n / 256) F;omega
 ·have:=g (n / 65536) F;omega
 ·have:=g (n / 16777216) F;omega
 ·have:=g (n / 4294967296) F;omega
 ·have:=g (n / 1099511627776) F;omega
 ·have:=g (n / 281474976710656) F;omega
 ·have:=g (n / 72057594037927936) F;omega
theorem Ec (x:Q) (k:Nat) :cx .shr .u64 (u x) .u64 (k:Int)=some (.int .u64 (u (x >>> k))):=qr x .u64 k
theorem qm {i:Nat} {y:UInt8} {k:UInt8->Prop} (h:xm[i]?=some y) (hk:k y) :W xm[i]? (c:=⟨k⟩):=by rw[h];exact hk
theorem Is (n:Q) :aW 220 [c7 n] (.i6 (h9 n.toNat)):=by
 apply a8 func220 [];have P:IntKind.i64.wrap 8=8:=rfl;have H:IntKind.i64.wrap 16=16:=rfl;have J:IntKind.i64.wrap 24=24:=rfl;have S:IntKind.i64.wrap 32=32:=rfl;have K:IntKind.i64.wrap 40=40:=rfl;have I:IntKind.i64.wrap 48=48:=rfl;have O:IntKind.i64.wrap 56=56:=rfl;have w:∀ x:Q,((4294967296:Int)<=u x)<->4294967296<=x.toNat:=fun x=>by unfold u;omega
 have z:∀ x:Q,((65536:Int)<=u x)<->65536<=x.toNat:=fun x=>by unfold u;omega
 have B:∀ x:Q,((256:Int)<=u x)<->256<=x.toNat:=fun x=>by unfold u;omega
 have D:∀ x:Q,cx .shr .u64 (u x) .u64 32=some (.int .u64 (u (x >>> 32))):=fun x=>Ec x 32
 have C:∀ x:Q,cx .shr .u64 (u x) .u64 16=some (.int .u64 (u (x >>> 16))):=fun x=>Ec x 16
 have G:∀ x:Q,cx .shr .u64 (u x) .u64 8=some (.int .u64 (u (x >>> 8))):=fun x=>Ec x 8
 have t32:n.toNat >>> 32=n.toNat / 4294967296:=by rw[hI]
 have t48:n.toNat >>> 48=n.toNat / 281474976710656:=by rw[hI]
 have t16:n.toNat >>> 16=n.toNat / 65536:=by rw[hI]
 have R:=n.isLt;by_cases h1:4294967296<=n.toNat
 ·by_cases v:65536<=n.toNat >>> 32
  ·by_cases t:256<=n.toNat >>> 48
   ·have m:n.toNat >>> 56 % 256=n.toNat / 72057594037927936:=by rw[hI];exact eg F
    obtain⟨y,h,g⟩:=rc (n.toNat / 72057594037927936) F;have j:=pE (n.toNat / 72057594037927936);rw[<-g] at j;have o:IntKind.i64.wrap (y.toNat:Int)=y.toNat:=wrap_i64 F F;have q:IntKind.i64.wrap (56+(y.toNat:Int))=((56+y.toNat:Nat) :Int):=by rw[wrap_i64 F F];omega
    have p:h9 n.toNat=56+y.toNat:=by unfold h9;rw[g];(repeat' split)<;>first | omega | rfl
    simp[w,z,B,D,C,G,h1,v,t];refine qm (y:=y) (by rw[m];exact h) ?_;rw[p];simp[hs,o];exact aR (by simp[I,O,q]) rfl
   ·have m:n.toNat >>> 48 % 256=n.toNat / 281474976710656:=by rw[hI];exact eg F
    obtain⟨y,h,g⟩:=rc (n.toNat / 281474976710656) F;have j:=pE (n.toNat / 281474976710656);rw[<-g] at j;have o:IntKind.i64.wrap (y.toNat:Int)=y.toNat:=wrap_i64 F F;have q:IntKind.i64.wrap (48+(y.toNat:Int))=((48+y.toNat:Nat) :Int):=by rw[wrap_i64 F F];omega
    have p:h9 n.toNat=48+y.toNat:=by unfold h9;rw[g];(repeat' split)<;>first | omega | rfl
    simp[w,z,B,D,C,h1,v,t];refine qm (y:=y) (by rw[m];exact h) ?_;rw[p];simp[hs,o];exact aR (by simp[I,q]) rfl
  ·by_cases t:256<=n.toNat >>> 32
   ·have m:n.toNat >>> 40 % 256=n.toNat / 1099511627776:=by rw[hI];exact eg F
    obtain⟨y,h,g⟩:=rc (n.toNat / 1099511627776) F;have j:=pE (n.toNat / 1099511627776);rw[<-g] at j;have o:IntKind.i64.wrap (y.toNat:Int)=y.toNat:=wrap_i64 F F;have q:IntKind.i64.wrap (40+(y.toNat:Int))=((40+y.toNat:Nat) :Int):=by rw[wrap_i64 F F];omega
    have p:h9 n.toNat=40+y.toNat:=by unfold h9;rw[g];(repeat' split)<;>first | omega | rfl
    simp[w,z,B,D,G,h1,v,t];refine qm (y:=y) (by rw[m];exact h) ?_;rw[p];simp[hs,o];exact aR (by simp[K,q]) rfl
   ·have m:n.toNat >>> 32 % 256=n.toNat / 4294967296:=by rw[hI];exact eg F
    obtain⟨y,h,g⟩:=rc (n.toNat / 4294967296) F;have j:=pE (n.toNat / 4294967296);rw[<-g] at j;have o:IntKind.i64.wrap (y.toNat:Int)=y.toNat:=wrap_i64 F F;have q:IntKind.i64.wrap (32+(y.toNat:Int))=((32+y.toNat:Nat) :Int):=by rw[wrap_i64 F F];omega
    have p:h9 n.toNat=32+y.toNat:=by unfold h9;rw[g];(repeat' split)<;>first | omega | rfl
    simp[w,z,B,D,h1,v,t];refine qm (y:=y) (by rw[m];exact h) ?_;rw[p];simp[hs,o,q];exact aR V rfl
 ·by_cases v:65536<=n.toNat
  ·by_cases t:256<=n.toNat >>> 16
   ·have m:n.toNat >>> 24 % 256=n.toNat / 16777216:=by rw[hI];exact eg F
    obtain⟨y,h,g⟩:=rc (n.toNat / 16777216) F;have j:=pE (n.toNat / 16777216);rw[<-g] at j;have o:IntKind.i64.wrap (y.toNat:Int)=y.toNat:=wrap_i64 F F;have q:IntKind.i64.wrap (24+(y.toNat:Int))=((24+y.toNat:Nat) :Int):=by rw[wrap_i64 F F];omega
    have p:h9 n.toNat=24+y.toNat:=by unfold h9;rw[g];(repeat' split)<;>first | omega | rfl
    simp[w,z,B,C,G,h1,v,t];refine qm (y:=y) (by rw[m];exact h) ?_;rw[p];simp[hs,o];exact aR (by simp[H,J,q]) rfl
   ·have m:n.toNat >>> 16 % 256=n.toNat / 65536:=by rw[hI];exact eg F
    obtain⟨y,h,g⟩:=rc (n.toNat / 65536) F;have j:=pE (n.toNat / 65536);rw[<-g] at j;have o:IntKind.i64.wrap (y.toNat:Int)=y.toNat:=wrap_i64 F F;have q:IntKind.i64.wrap (16+(y.toNat:Int))=((16+y.toNat:Nat) :Int):=by rw[wrap_i64 F F];omega
    have p:h9 n.toNat=16+y.toNat:=by unfold h9;rw[g];(repeat' split)<;>first | omega | rfl
    simp[w,z,B,C,h1,v,t];refine qm (y:=y) (by rw[m];exact h) ?_;rw[p];simp[hs,o];exact aR (by simp[H,q]) rfl
  ·by_cases t:256<=n.toNat
   ·have m:n.toNat >>> 8 % 256=n.toNat / 256:=by rw[hI];exact eg F
    obtain⟨y,h,g⟩:=rc (n.toNat / 256) F;have j:=pE (n.toNat / 256);rw[<-g] at j;have o:IntKind.i64.wrap (y.toNat:Int)=y.toNat:=wrap_i64 F F;have q:IntKind.i64.wrap (8+(y.toNat:Int))=((8+y.toNat:Nat) :Int):=by rw[wrap_i64 F F];omega
    have p:h9 n.toNat=8+y.toNat:=by unfold h9;rw[g];(repeat' split)<;>first | omega | rfl
    simp[w,z,B,G,h1,v,t];refine qm (y:=y) (by rw[m];exact h) ?_;rw[p];simp[hs,o];exact aR (by simp[P,q]) rfl
   ·have m:n.toNat % 256=n.toNat:=eg F;obtain⟨y,h,g⟩:=rc (n.toNat) F;have j:=pE (n.toNat);rw[<-g] at j;have o:IntKind.i64.wrap (y.toNat:Int)=y.toNat:=wrap_i64 F F;have q:IntKind.i64.wrap (0+(y.toNat:Int))=((0+y.toNat:Nat) :Int):=by rw[wrap_i64 F F];omega
    have p:h9 n.toNat=0+y.toNat:=by unfold h9;rw[g];(repeat' split)<;>first | omega | rfl
    simp[w,z,B,h1,v,t];refine qm (y:=y) (by rw[m];exact h) ?_;rw[p];simp[hs,o];exact aR V rfl
theorem yc (n:Q) (i:Nat) :(n >>> (8*i)).setWidth 8=jv n.toNat i:=by apply e2;unfold jv;rw[fw,lE,fQ]
def nF (n k i:Nat) :List B:=BitVec.ofNat 8 (247+k) ::(List.replicate (k - i) 0#8++pU n i)
theorem IZ (n k i:Nat) (h:i<=k) :(nF n k i).length=k+1:=by simp[nF,Ez];omega
theorem Tu (n k i:Nat) (h:i<k) :(nF n k i).set (k - i) (jv n i)=nF n k (i+1):=by
 unfold nF;obtain⟨g,j⟩:∃ g,k - i=g+1:=⟨k - i - 1,F⟩
 rw[j,xM,show k - (i+1)=g by omega,List.replicate_succ',hl];congr 1;rw[o6 _ _ V];simp[pU]
theorem YC (n:Q) {l:ad} {K:cA} (H:∀ v j l',aE 1 l' v j ((dD n.toNat).map bY)->l.length<=l'.length->(∀ b,b<l.length->l'[b]?=l[b]?)->l.length<=j->bo v=false->K v l') :
  cM 173 [c7 n] l K:=by
 apply c0 func173 [];have w:((u n:Int)<=247)<->n.toNat<=247:=by unfold u;omega
 by_cases h:n.toNat<=247
 ·have m:dD n.toNat=[n.setWidth 8]:=by
   unfold dD;rw[ak h];rfl
  simp[w,h];refine H _ l.length _ (ma (n:=1) (a:=dD n.toNat) (by rw[m];rfl) (by rw[m];simp)) V (fun b o=>aU o) (aN _) rfl
 ·have hk:=zi n.toNat
  obtain⟨k,O⟩:∃ k,iY n.toNat=k:=⟨_,rfl⟩
  have m:dD n.toNat=nF n.toNat k k:=by unfold dD nF;rw[aj h,O];simp
  have p:=Sj n.toNat F;rw[O] at p hk;obtain⟨L,I⟩:∃ L,h9 n.toNat=L:=⟨_,rfl⟩
  rw[I] at p;have ao:IntKind.i64.wrap ((L:Int)+7)=((L+7:Nat) :Int):=by rw[wrap_i64 F F];omega
  have q1:cx .quo .i64 ((L+7:Nat) :Int) .i64 8=some (.i6 (k:Int)):=by rw[By _ 8 F F];rw[show (8:Int).toNat=8 from rfl,p]
  have ap:IntKind.i64.wrap ((k:Int)+1)=((k+1:Nat) :Int):=by rw[wrap_i64 F F];omega
  have aq:IntKind.i64.wrap (247+(k:Int))=((247+k:Nat) :Int):=by rw[wrap_i64 F F];omega
  have am:mO 1 1 [.int .u8 0] l (.i6 ((k+1:Nat) :Int)) (.i6 ((k+1:Nat) :Int))=some (.Z 1 l.length 0 (k+1) (k+1) (k+1),l++[.q (k+1) ((List.replicate (k+1) 0#8).map a7)]):=by
   unfold mO;have al:=ds;simp only[];rw[ak ⟨F,F,F,by rw[al];omega⟩,w8];simp
  simp[w,h];refine au (Is n) rfl ?_;rw[I];have W:aw (List.replicate (k+1) (a7 0#8)) 0 [a7 (BitVec.ofNat 8 (247+k))]=(nF n.toNat k 0).map a7:=by
   rw[k4,Xc,Xe];simp[nF,pU]
  simp[ao,q1,ap,aq,am,-Int.natCast_add];refine bx k (fun i g P=>g 0=c7 n/\g 3=.i6 k/\g 4=.Z 1 l.length 0 (k+1) (k+1) (k+1)/\g 23=.i6 k/\g 24=.i6 i/\P=l++[.q (k+1) ((nF n.toNat k i).map a7)]) ?_ ?_
  ·rintro i g P ah ⟨z,D,G,B,C,rfl⟩;obtain⟨g,rfl⟩:=gv z D G B C;clear z D G B C;by_cases J:i<k
   ·have R:IntKind.i64.wrap ((k:Int) - i)=((k - i:Nat) :Int):=by rw[wrap_i64 F F];omega
    have S:IntKind.i64.wrap (8*(i:Int))=((8*i:Nat) :Int):=by rw[wrap_i64 F F];omega
    have ar:IntKind.i64.wrap ((i:Int)+1)=((i+1:Nat) :Int):=by rw[wrap_i64 F F];omega
    have T:cx .shr .u64 (u n) .i64 ((8*i:Nat) :Int)=some (.int .u64 (u (n >>> (8*i)))):=qr n .i64 (8*i);have U:=yc n i;have t:=mh a7 (nF n.toNat k i) (k - i) (jv n.toNat i) (by rw[IZ _ _ _ ah];omega);rw[Tu _ _ _ J] at t;obtain⟨d,X⟩:∃ d,k - i=d:=⟨_,rfl⟩
    obtain⟨e,ag⟩:∃ e,8*i=e:=⟨_,rfl⟩
    rw[X] at R t;rw[ag] at S T U;have Y:d<=k:=F;simp[J,R,S,ar,T,U,t,Y,-Int.natCast_add];omega
   ·have ai:i=k:=F;subst ai;simp;refine H _ l.length _ (ma (n:=i+1) (a:=dD n.toNat) (by rw[m,IZ _ _ _ (aN _)]) (by rw[m];simp)) V (fun b o=>aU o) (aN _) rfl
  ·simp;exact W
theorem Tk {n:Nat} (h:n<18446744073709551616) :n<256 ^ iY n:=by unfold iY;(repeat' split)<;>simp<;>omega
theorem Tl {n k:Nat} (h1:1<=n) (h:k<iY n) :256 ^ k<=n:=by have g:=(zi n).2;have hk:k=0\/k=1\/k=2\/k=3\/k=4\/k=5\/k=6\/k=7:=F;rcases hk with rfl | rfl | rfl | rfl | rfl | rfl | rfl | rfl<;>simp<;>unfold iY at h<;>(repeat' split at h)<;>omega
theorem WV {n k:Nat} (h1:1<=n) (h:n<18446744073709551616) (hk:k<=iY n) :n >>> (8*k)=0<->k=iY n:=by
 have m:2 ^ (8*k)=256 ^ k:=by rw[Nat.pow_mul]
 rw[hI,m,Nat.div_eq_zero_iff];constructor
 ·rintro (g | g)
  ·exact bW g (by have:0<256 ^ k:=Nat.pow_pos (by decide);omega)
  ·rcases fE k (iY n) with j | j
   ·have:=Tl h1 j;omega
   ·omega
 ·rintro rfl;exact .inr (Tk h)
theorem LJ (n:Nat) :∀ k,pU n k=((List.range k).map (jv n)).reverse
 | 0=>rfl
 | k+1=>by rw[pU,LJ n k,s5,cS,List.reverse_append];rfl
def mC (n k:Nat) :List B:=(List.range k).map (jv n)
theorem PW (n k:Nat) :mC n (k+1)=mC n k++[jv n k]:=by simp[mC,s5]
theorem tF (n k:Nat) :(mC n k).length=k:=by simp[mC]
theorem G6 (n k i:Nat) (h:i<k) :(mC n k)[i]?=some (jv n i):=by simp[mC,h]
theorem V0 (x:Q) :cx .rem .u64 (u x) .u64 256=some (.int .u64 (u (x % 256#64))):=tq x 256#64 (by decide)
theorem U2 (x:Q) :cx .quo .u64 (u x) .u64 256=some (.int .u64 (u (x / 256#64))):=Dw x 256#64 (by decide)
theorem Sx (n:Q) (i:Nat) :((n >>> (8*i)) % 256#64).setWidth 8=jv n.toNat i:=by rw[<-yc];apply e2;rw[fw,m5,fw];show _ % 256 % 2 ^ 8=_ % 2 ^ 8;omega
theorem Th (n:Q) (i:Nat) :(n >>> (8*i)) / 256#64=n >>> (8*(i+1)):=by apply e2;rw[rn,lE,lE,hI,hI,show 8*(i+1)=8*i+8 by omega,rz,<-Nat.div_div_eq_div_mul];rfl
theorem ce.get {l l1:ad} {v:U} {a:List B} {t:Bool} (h:ce 1 bY l l1 v a t) {k:cV} {i:Nat} {x:B} (m:a[i]?=some x) :∃ p cs o,bO (.Z 1) v (.int k (i:Int))=some p/\fN l1 p=some (cs,o)/\cs[o]?=some (a7 x):=by obtain⟨w,h,_⟩:=h;obtain⟨p,cs,o,h1,g,u,j⟩:=h.q.get (k:=k) (i:=i) (e:=bY x) (by rw[b1,m];rfl);refine⟨p,cs,o,h1,g,?_⟩;have:=ci (fun l=>l[0]?) j;simp[gy,bY] at this;exact this
theorem sR (n:Q) {l:ad} {K:cA} (o:∀ v l',ce 1 bY l l' v (dD n.toNat) false->K v l') :cM 173 [c7 n] l K:=
 YC n fun v p l' h1 g h j m=>o v l' ⟨p,h1,g,h,.inr j,m⟩
structure Nw (l:ad) (n:Q) (i:Nat) (sgZ:aS) (l1:ad) :Prop where
 kF:sgZ 0=c7 (n >>> (8*i))
 uf:∃ v,sgZ 3=v/\ce 1 bY l l1 v (mC n.toNat i) (decide (i=0))
structure Nx (l1:ad) (v:U) (n:Q) (k i:Nat) (sgZ:aS) (g:ad) :Prop where
 hP:sgZ 3=v
 kG:sgZ 5=.i6 ((k:Int) - 1 - i)
 uf:∃ w,sgZ 4=w/\ce 1 bY l1 g w (BitVec.ofNat 8 (247+k) ::((mC n.toNat k).reverse.take i)) false
theorem q0 (n:Q) {l:ad} {K:cA} (J:∀ v l',ce 1 bY l l' v (dD n.toNat) false->K v l') :
  cM 188 [c7 n] l K:=by
 apply c0 func188 [];have D:((u n:Int)<=247)<->n.toNat<=247:=by unfold u;omega
 by_cases h:n.toNat<=247
 ·have R:dD n.toNat=[n.setWidth 8]:=by
   unfold dD;rw[ak h];rfl
  simp[D,h];exact J _ _ ⟨l.length,ma (n:=1) (a:=dD n.toNat) (by rw[R];rfl) (by rw[R];simp),V,fun b t=>aU t,.inr (aN _),rfl⟩
 ·have aw:=n.isLt;have hk:=zi n.toNat
  simp[D,h];refine bx (iY n.toNat) (Nw l n) ?_ ⟨V,.ae,V,ce.nil⟩;rintro i C S U ⟨G,v,j,m⟩;obtain⟨C,rfl⟩:=kh G j;clear G j;have am:=WV (n:=n.toNat) (k:=i) F F U;have B:((0:Int)<u (n >>> (8*i)))<->¬ i=iY n.toNat:=by
   rw[<-am];unfold u;rw[lE];generalize n.toNat >>> (8*i)=q;omega
  by_cases z:i=iY n.toNat
  ·obtain⟨k,O⟩:∃ k,iY n.toNat=k:=⟨_,rfl⟩
   rw[O] at z B hk;subst z;have ag:dD n.toNat=BitVec.ofNat 8 (247+i) ::(mC n.toNat i).reverse:=by
    unfold dD;rw[aj h,O,LJ];rfl
   have P:=m.len;rw[tF] at P;have ar:IntKind.i64.wrap (247+(i:Int))=((247+i:Nat) :Int):=by rw[wrap_i64 F F];omega
   have au:IntKind.i64.wrap ((i:Int) - 1)=(i:Int) - 1:=wrap_i64 F F;have f1:(dD n.toNat)=BitVec.ofNat 8 (247+i) ::(mC n.toNat i).reverse.take i:=by rw[ag,aH (by rw[List.length_reverse,tF];omega)]
   simp[B,P,ar,au,-Int.natCast_add];refine bx i (Nx S v n i) ?_ ⟨V,V,_,V,⟨S.length,ma (n:=1) (a:=[BitVec.ofNat 8 (247+i)]) rfl V,V,fun b t=>aU t,.inr (aN _),rfl⟩⟩;rintro g C aA ay ⟨j,I,w,H,pK⟩;have ai:=m.frame pK.le pK.same;obtain⟨C,rfl⟩:=gJ j H I;clear j H I;by_cases X:g=i
   ·have Y:¬ (g:Int)<=(i:Int) - 1:=F;rw[X,<-f1] at pK;simp[Y];exact J _ _ (pK.base m.le m.same)
   ·have T:(g:Int)<=(i:Int) - 1:=F;have W:((i:Int) - 1 - g)=((i - 1 - g:Nat) :Int):=F;have av:IntKind.i64.wrap ((i:Int) - 1 - g - 1)=(i:Int) - 1 - (g+1:Nat):=by rw[wrap_i64 F F];omega
    obtain⟨aC,cs,aB,q1,ao,ap⟩:=ce.get ai (k:=.i64) (G6 n.toNat i (i - 1 - g) F);rw[<-W] at q1;have al:(mC n.toNat i).reverse[g]?=some (jv n.toNat (i - 1 - g)):=by
     rw[List.getElem?_reverse (by rw[tF];omega),tF,G6 _ _ _ F]
    have az:=tF n.toNat i;obtain⟨w',l',p,o⟩:=ce.push pK (jv n.toNat (i - 1 - g)) (by simp;omega);simp[T,q1,ao,ap,p];refine bP.bm ?_;simp[av];exact⟨F,V,V,w',V,by rw[ej,al];simpa using o⟩
  ·have ax:=tF n.toNat i;obtain⟨aq,l',p,o⟩:=ce.push m (jv n.toNat i) F;rw[<-PW] at o;have ah:cx .quo .u64 (u (n >>> (8*i))) .u64 256=some (c7 (n >>> (8*(i+1)))):=by rw[U2,Th]
   simp[B,z,V0,Sx,p];refine bP.bm ?_;simp[ah];exact⟨F,V,aq,V,by simpa using o⟩
end Op
namespace Op
open cu
def ki (n:Int) :Q:=if 0<=n then BitVec.ofNat 64 (2*n.toNat) else BitVec.ofNat 64 (2*(-(n+1)).toNat+1)
theorem YE (n:Int) (h1:-9223372036854775808<=n) (B:n<9223372036854775808) {l:ad} {K:cA} (q:∀ v l',ce 1 bY l l' v (dD (ki n).toNat) false->K v l') :
  cM 221 [.i6 n] l K:=by
 apply c0 func221 [];have o:cx .shl .u64 (u (BitVec.ofInt 64 n)) .u64 1=some (.int .u64 (u (BitVec.ofInt 64 n <<< 1))):=Gf _ .u64 1;have p:cx .shr .i64 n .u64 63=some (.i6 (if 0<=n then 0 else -1)):=by
  show (if (63:Int)<0 then none else some (U.i6 (n.fdiv (2 ^ min (63:Int).toNat 64))))=_;rw[aj F];congr 2;have:(2:Int) ^ min (63:Int).toNat 64=9223372036854775808:=by decide
  rw[this,AM _ F];split<;>omega
 have z:BitVec.ofInt 64 n <<< 1 ^^^ BitVec.ofInt 64 (if 0<=n then 0 else -1)=ki n:=by
  unfold ki;by_cases h:0<=n
  ·rw[ak h,ak h];obtain⟨m,rfl⟩:=m6 h;rw[nX,fm];have:BitVec.ofInt 64 (0:Int)=0#64:=rfl;rw[this,BitVec.xor_zero];apply e2;rw[sZ,fQ,fQ,n4];omega
  ·rw[aj h,aj h];obtain⟨m,t⟩:=m6 (show 0<=-(n+1) by omega);have w:n=-((m:Int)+1):=F;have g:BitVec.ofInt 64 (-1:Int)=BitVec.allOnes 64:=by decide
   have j:BitVec.ofInt 64 n = ~~~ BitVec.ofNat 64 m:=by
    apply e2;rw[w,AJ,EZ,fQ];omega
   have C:m<9223372036854775808:=F;rw[g,j,BitVec.xor_allOnes,t,fm];apply e2;rw[EZ,sZ,EZ,fQ,fQ,n4];omega
 simp[o,p,z];refine sR _ fun v l' h=>?_
 simp;exact q v l' h
theorem Vy (n:Int) (h1:-9223372036854775808<=n) (t:n<9223372036854775808) {l:ad} {K:cA} (j:∀ v l',ce 1 bY l l' v (dD (ki n).toNat) false->K v l') :
  cM 234 [.i6 n] l K:=by
 apply c0 func234 [];by_cases h:0<=n
 ·obtain⟨m,rfl⟩:=m6 h;have g:2#64*BitVec.ofNat 64 m=ki m:=by
   unfold ki;rw[ak h,fm];apply e2;simp only[uX,fQ];omega
  simp[g];refine q0 _ fun v l' h=>?_
  simp;exact j v l' h
 ·have q:IntKind.i64.wrap (n+1)=n+1:=wrap_i64 F F;have o:IntKind.i64.wrap (0 - (n+1))=0 - (n+1):=wrap_i64 F F;have o:IntKind.i64.wrap (-(n+1))=-(n+1):=wrap_i64 F F;have g:2#64*BitVec.ofInt 64 (-(n+1))+1#64=ki n:=by
   obtain⟨m,p⟩:=m6 (show 0<=-(n+1) by omega);unfold ki;rw[aj h,p,fm,nX];apply e2;simp only[uX,fQ,EY];omega
  simp[h,q,o,g];refine q0 _ fun v l' h=>?_
  simp;exact j v l' h
def hh (s:List B) :List B:=dD s.length++s
theorem gE (n:Nat) :(dD n).length<=9:=by
 unfold dD;have:=(zi n).2;split
 ·simp
 ·simp[Ez];omega
theorem QK (s:List B) :(s.map bY).flatten=s.map a7:=vV s
theorem GM (l:ad) (s:dZ) :cr l 1 (cp s)=some ((s.l.map bY).flatten,s.l.length):=qA l 1 bY s
theorem Mi (s:dZ) (B:s.l.length<=10000) {x:U} {l:ad} (C:cr l 1 x=some ((s.l.map bY).flatten,s.l.length)) (o:bz (.Z 1) x=some (.i6 s.l.length)) (t:∀ l',l.length<=l'.length->(∀ b,b<l.length->l'[b]?=l[b]?)->cr l' 1 x=some ((s.l.map bY).flatten,s.l.length))
  {K:cA} (m:∀ v l',ce 1 bY l l' v (hh s.l) false->K (.a1 [v,.i6 0]) l') :cM 174 [x] l K:=by
 apply c0 func174 [];have h1:¬ ((10000:Int)<s.l.length):=F;have q:=ds;simp[o,h1];refine sR _ fun v l' h=>?_
 have p:(BitVec.ofNat 64 s.l.length).toNat=s.l.length:=by rw[fQ];exact eg F
 rw[p] at h;have z:=gE s.l.length;obtain⟨w,u,g,j,_⟩:=h.app (by_:=1) (x:=x) (xs:=s.l) (t l' h.le h.same) (by simp[bY]) F F (by rw[q];omega);simp[g];refine bP.bm ?_;simp;exact m w u (by simpa [hh] using j)
theorem Kd (s:dZ) (B:s.l.length<=10000) {x:U} {l:ad} (C:cr l 1 x=some ((s.l.map bY).flatten,s.l.length)) (o:bz (.Z 1) x=some (.i6 s.l.length)) (t:∀ l',l.length<=l'.length->(∀ b,b<l.length->l'[b]?=l[b]?)->cr l' 1 x=some ((s.l.map bY).flatten,s.l.length))
  {K:cA} (m:∀ v l',ce 1 bY l l' v (hh s.l) false->K v l') :cM 198 [x] l K:=by
 apply c0 func198 [];have q:=ds;simp[o];refine q0 _ fun v l' h=>?_
 have p:(BitVec.ofNat 64 s.l.length).toNat=s.l.length:=by rw[fQ];exact eg F
 rw[p] at h;have z:=gE s.l.length;obtain⟨w,u,g,j,_⟩:=h.app (by_:=1) (x:=x) (xs:=s.l) (t l' h.le h.same) (by simp[bY]) F F (by rw[q];omega);simp[g];refine bP.bm ?_;simp;exact m w u (by simpa [hh] using j)
def am (i:List B) :ag:=i.map a7
abbrev b2:=bX (List B)
def ah (s:b2) :U:=b4 32 am s
def c6 (s:b2) :Prop:=∀ i∈s.l,i.length=32
theorem cG (i:List B) :aq (am i)=true:=jw a7 (fun _=>rfl) _
theorem bM (s:b2) :(ah s).ar=true:=ot cG s
theorem GF:∀ a b:List B,a.length=b.length->lV (a.map fun x=>UInt8.ofNat x.toNat) (b.map fun x=>UInt8.ofNat x.toNat)=bQ a b
 | [],[],_=>rfl
 | [],_::_,h=>by simp at h
 | _::_,[],h=>by simp at h
 | x::a,y::b,h=>by
  have o:=GF a b (by simpa using h);have p:=x.isLt;have q:=y.isLt;rw[GD];simp only[di,lV,o];have j:(UInt8.ofNat x.toNat=UInt8.ofNat y.toNat)<->x.toNat=y.toNat:=by
   constructor
   ·intro h;have:=ci UInt8.toNat h;simp only[Ft] at this;omega
   ·intro h;rw[h]
  have m:(UInt8.ofNat x.toNat<UInt8.ofNat y.toNat)<->x.toNat<y.toNat:=by
   rw[UInt8.lt_iff_toNat_lt];simp only[Ft];rw[eg F,eg F]
  by_cases h1:x.toNat=y.toNat
  ·rw[ak (j.2 h1),aj F,aj F]
  ·rw[aj (fun h=>h1 (j.1 h))];by_cases g:x.toNat<y.toNat
   ·rw[ak (m.2 g),ak g]
   ·rw[aj (fun h=>g (m.1 h)),aj g,ak F]
@[simp ↓] theorem abI {P:bq} {g:aY->U} {l:ad} (f:cj) (h x y:aY) :bT P g l (.bQ f h x y)=(match yS f (g h) with | true=>dt l (cmpL l (g x) (g y)) | false=>none):=id rfl
@[simp ↓] theorem aa0 (f:cj) (g x y:aY) (v:U) (l:ad) (K:cA) :ep (.bQ f g x y) v l K=K v l:=id rfl
@[simp] theorem aaq (f:cj) :yS f (.fn f [] [])=true:=A4 f
theorem Gi:∀ a:List B,jX (a.map a7)=some (a.map fun x=>UInt8.ofNat x.toNat)
 | []=>rfl
 | x::a=>by
  simp only[di,jX,Gi a,cz];simp[u]
theorem Gj (l:ad) (s:dZ) :pi l (cp s)=some (s.l.map fun x=>UInt8.ofNat x.toNat):=by
 have h:=GM l s;rw[QK] at h;cases s with
 | none=>simp[pi,b4,cr,jX]
 | some a=>
  unfold pi;simp only[b4];have g:cr l 1 (U.bu 1 (a.map bY))=some (a.map a7,a.length):=h;rw[g];exact Gi a
theorem F1 (a b:dZ) (h:a.l.length=b.l.length) :aW 202 [cp a,cp b] (.i6 (bQ a.l b.l)):=by
 refine uo checked.mixed eG ?_;apply Rc func202 [];have g:cmpL [] (cp a) (cp b)=some (.i6 (bQ a.l b.l)):=by
  unfold cmpL;rw[Gj,Gj];simp only[GF _ _ h]
 simp[g];exact aL
theorem uE {n b:Nat} (g:0<n) :dw (.arr n 1) (.ptr b 0 n) none none none=some (.Z 1 b 0 n n n):=by have:e5 n n none none none=some (0,n,n):=rfl;simp only[dw,this];rw[ak F,aj F];simp
theorem qx (a b:List B) (g:a.length=32) (h:b.length=32) :aW 162 [eo a,eo b] (.i6 (bQ a b)):=by
 apply a8 func162 [];have o:=uE (n:=32) (b:=1) F;have p:=uE (n:=32) (b:=0) F;simp[eo,g,h,o,p];have m:=F1 (some a) (some b) (by simp[g,h]);refine iC m ?_ rfl ?_
 ·exact .cons ((ma (j:=0) g rfl).nM (fun _=>rfl) (some a) rfl rfl) (.cons ((ma (j:=1) h rfl).nM (fun _=>rfl) (some b) rfl rfl) .nil)
 ·simp;exact aL
theorem w6 (a b:List B) (W:a.length=32) (X:b.length=32) :aW 189 [eo a,eo b] (.i6 (bQ a b)):=by
 apply a8 func189 [];obtain⟨A,G⟩:=al (a.map a7);obtain⟨w,I⟩:=al (b.map a7);have t:A.length=32:=by rw[G,cg,W]
 have v:w.length=32:=by rw[I,cg,X]
 unfold eo;rw[<-G,<-I];simp[t,v];refine bx 32 (fun k m l=>m 2=.ptr 0 0 32/\m 3=.ptr 1 0 32/\m 5=.i6 k/\l=[.q 32 A,.q 32 w]/\∀ j,j<k->a[j]?=b[j]?) ?_ V;rintro k m l hk ⟨Q,R,S,rfl,heq⟩;obtain⟨m,rfl⟩:=gJ Q R S;clear Q R S;have g:=Pj k heq F F;by_cases h:(k:Int)<32
 ·have K:k<32:=F;have ai:IntKind.i64.wrap ((k:Int)+1)=(k+1:Nat):=wrap_i64 F F;obtain⟨x,O,_⟩:=aP (l:=a) (k:=k) F;obtain⟨y,P,_⟩:=aP (l:=b) (k:=k) F;have T:A[k]?=some (a7 x):=by rw[G,b1,O];rfl
  have U:w[k]?=some (a7 y):=by rw[I,b1,P];rfl
  obtain⟨_,H⟩:=aK.1 T;obtain⟨_,J⟩:=aK.1 U;have Y:a.drop k=x::a.drop (k+1):=by
   obtain⟨h1,D⟩:=aK.1 O;rw[k2 h1,D]
  have ad:b.drop k=y::b.drop (k+1):=by
   obtain⟨h1,D⟩:=aK.1 P;rw[k2 h1,D]
  rw[Y,ad,GD] at g;have ao:((u x:Int)<u y)<->x.toNat<y.toNat:=by unfold u;omega
  have ap:((u y:Int)<u x)<->y.toNat<x.toNat:=by unfold u;omega
  by_cases o:x.toNat<y.toNat
  ·rw[ak o] at g;have p:x<y:=o;simp[h,K,t,v,H,J,p];exact aR (by rw[<-g]) rfl
  ·have p:¬ x<y:=o;rw[aj o] at g;by_cases z:y.toNat<x.toNat
   ·rw[ak z] at g;have C:y<x:=z;simp[h,K,t,v,H,J,p,C];exact aR (by rw[<-g]) rfl
   ·have C:¬ y<x:=z;simp[h,K,t,v,H,J,p,C,ai];intro j am;by_cases ag:j=k
    ·subst ag;rw[O,P];have:x=y:=e2 F;rw[this]
    ·exact heq j F
 ·have ah:k=32:=F;subst ah;have:bQ a b=0:=by
   rw[<-g,p8 F,p8 F];rfl
  simp;exact aR (by rw[this]) rfl
abbrev bw (l:aQ) (k:Nat) :List B:=l.getD k []
def b8 (l:aQ) :Bool:=decide (∀ k,k<l.length->1<=k->bQ (bw l (k - 1)) (bw l k)<0)
def sI (l:aQ) :Bool:=decide (∀ k,k<l.length->1<=k->¬ bQ (bw l k) (bw l (k - 1))<0)
theorem dI {l:aQ} {k:Nat} {x:List B} (h:l[k]?=some x) :bw l k=x:=by unfold bw;rw[gx,h];rfl
theorem uw {l:aQ} (h:∀ k,k<l.length->1<=k->bQ (bw l (k - 1)) (bw l k)<0) :b8 l=true:=ca h
theorem KA {l:aQ} {k:Nat} (hk:k<l.length) (h1:1<=k) (h:¬ bQ (bw l (k - 1)) (bw l k)<0) :b8 l=false:=ct fun g=>h (g k hk h1)
theorem Li {l:aQ} (h:∀ k,k<l.length->1<=k->¬ bQ (bw l k) (bw l (k - 1))<0) :sI l=true:=ca h
theorem Xl {l:aQ} {k:Nat} (hk:k<l.length) (h1:1<=k) (h:bQ (bw l k) (bw l (k - 1))<0) :sI l=false:=ct fun g=>g k hk h1 h
theorem br {x:List B} (h:x.length=32) :(am x).length=32:=by simp[am,h]
theorem DD (a:b2) (o:c6 a) (S:a.l.length<=1000000) :aW 124 [ah a] (.bool (b8 a.l)):=by
 apply a8 func124 [];simp[ah];refine bx (a.l.length - 1) (fun k t l=>t 0=b4 32 am a/\t 3=.i6 ((k+1:Nat) :Int)/\∀ g,g<k+1->g<a.l.length->1<=g->bQ (bw a.l (g - 1)) (bw a.l g)<0) ?_ ⟨V,V,fun g h1 _ m=>F⟩;rintro k t l hk ⟨u,v,q⟩;obtain⟨s,rfl⟩:=kh u v;clear u v;obtain⟨j,R⟩:=al (k+1);rw[<-R] at q ⊢;simp;refine fh (fun h=>?_) (fun h=>?_)
 ·simp only[bI] at h;have z:j<a.l.length:=F;obtain⟨x,B,C⟩:=aP (l:=a.l) (k:=k) F;obtain⟨y,D,G⟩:=aP z;have J:IntKind.i64.wrap ((j:Int) - 1)=(k:Int):=by rw[IntKind.wrap_i64];omega
  have K:=cf (k:=j) F;have H:=dI B;have I:=dI D;simp[J,B,D,br (o x C),br (o y G),aH];refine au (w6 x y (o x C) (o y G)) (by simp[aq,cG,U.ar]) ?_;by_cases w:bQ x y<0
  ·have p:¬ (0<=bQ x y):=F;simp[p,K];refine⟨F,fun g h1 m O=>?_⟩;have Q:bQ (bw a.l (g - 1)) (bw a.l g)<0:=by
    by_cases P:g=j
    ·rw[P,show j - 1=k by omega,H,I];exact w
    ·exact q g F m O
   simpa [bw] using Q
  ·have p:0<=bQ x y:=F;simp[p];refine aR (ci U.bool (KA (k:=j) z F ?_).symm) rfl;rw[show j - 1=k by omega,H,I];exact w
 ·simp[h];exact aR (ci U.bool (uw fun g h1 m=>q g (by simp at h;omega) h1 m).symm) rfl
theorem B8:fI prog 162=true:=bp
theorem RX (a:b2) (m:c6 a) (R:a.l.length<=1000000) :aW 168 [ah a,.fn 162 [] []] (.bool (sI a.l)):=by
 apply a8 func168 [];have J:IntKind.i64.wrap ((a.l.length:Int) - 1)=(a.l.length:Int) - 1:=by rw[IntKind.wrap_i64];omega
 simp[ah,J];refine bx (a.l.length - 1) (fun k p l=>p 0=b4 32 am a/\p 1=.fn 162 [] []/\p 5=.i6 ((a.l.length:Int) - 1 - k)/\∀ g,g<a.l.length->a.l.length - 1 - k<g->¬ bQ (bw a.l g) (bw a.l (g - 1))<0) ?_ ⟨V,V,V,fun g h1 z=>F⟩;rintro k p l hk ⟨u,v,w,B⟩;obtain⟨s,rfl⟩:=gJ u v w;clear u v w;simp;refine fh (fun h=>?_) (fun h=>?_)
 ·simp only[bI] at h;obtain⟨j,S⟩:∃ j,j+k+2=a.l.length:=⟨a.l.length - 2 - k,F⟩
  have K:((a.l.length:Int) - 1 - k)=((j+1:Nat) :Int):=F;rw[K];obtain⟨x,q,C⟩:=aP (l:=a.l) (k:=j+1) F;obtain⟨y,D,G⟩:=aP (l:=a.l) (k:=j) F;obtain⟨n,Q⟩:=al (j+1);rw[<-Q] at q ⊢;have t:IntKind.i64.wrap ((n:Int) - 1)=(j:Int):=by rw[IntKind.wrap_i64];omega
  have H:=dI q;have I:=dI D;simp[t,q,D,br (m x C),br (m y G),aH];refine⟨B8,au (qx x y (m x C) (m y G)) (by simp[aq,cG,U.ar]) ?_⟩;by_cases o:bQ x y<0
  ·simp[o];refine aR (ci U.bool (Xl (k:=n) F F ?_).symm) rfl;rw[show n - 1=j by omega,H,I];exact o
  ·simp[o,t];refine⟨F,F,fun g h1 z=>?_⟩;have P:¬ bQ (bw a.l g) (bw a.l (g - 1))<0:=by
    by_cases O:g=n
    ·rw[O,show n - 1=j by omega,H,I];exact o
    ·exact B g h1 F
   simpa [bw] using P
 ·simp[h];exact aR (ci U.bool (Li fun g h1 z=>B g h1 (by simp at h;omega)).symm) rfl
def tG (l:aQ) (k:Nat) :Bool:=decide (k+1<l.length)&&decide (0<=bQ (bw l k) (bw l (k+1)))
theorem Kz {l:aQ}:b8 l=true<->∀ k,k<l.length->tG l k=false:=by
 unfold b8 tG;rw[bI];constructor
 ·intro h k hk;by_cases h1:k+1<l.length
  ·have:=h (k+1) h1 F;rw[s8] at this;rw[ct (p:=0<=_) F,uY]
  ·simp[h1]
 ·intro h k hk h1;have:=h (k - 1) F;rw[show k - 1+1=k by omega] at this;rw[ca hk,lF,decide_eq_false_iff_not] at this;omega
theorem V8 (a:b2) (m:c6 a) (J:a.l.length<=1000000) (k:Nat) (hk:k<a.l.length) (x:List B) (O:x.length=32) (r:ad) {K:cA}
  (g:∀ I,K (.bool (tG a.l k)) (.q 1 [ah a] ::.q 1 [.i6 ((k+1:Nat) :Int)] ::I)) :
  cM 262 [eo x,.ptr 1 0 1,.ptr 0 0 1] (.q 1 [ah a] ::.q 1 [.i6 (k:Int)] ::r) K:=by
 apply c0 func262 [];have o:=cf (k:=k) F;obtain⟨j,p⟩:=al (k+1);rw[<-p] at o g;have C:IntKind.i64.wrap ((j:Int) - 1)=(k:Int):=by rw[IntKind.wrap_i64];omega
 unfold tG at g;rw[<-p] at g;obtain⟨y,t,u⟩:=aP hk;by_cases h:j<a.l.length
 ·obtain⟨z,v,w⟩:=aP h;have G:=dI t;have H:=dI v;rw[G,H] at g;have h' : (j:Int)<(a.l.length:Int):=F;have D:a.l[j]=z:=(aK.1 v).2;simp[eo,ah,o,C,h,h',t,D,br (m y u),br (m z w),aH];refine au (qx y z (m y u) (m z w)) (by simp[aq,cG,U.ar]) ?_;have:=g (r++[ao.q x.length (List.map a7 x)]);simpa [h,ah] using this
 ·have h' : ¬ (j:Int)<(a.l.length:Int):=F;simp[eo,ah,o,h'];have:=g (r++[ao.q x.length (List.map a7 x)]);simpa [h,ah] using this
theorem QQ:fI prog 262=true:=bp
theorem Wa (a:b2) (m:c6 a) (I:a.l.length<=1000000) {K:cA} (v:∀ n C,(n<0<->b8 a.l=true)->K (.i6 n) C) :
  cM 139 [ah a,.fn 262 [] [.ptr 1 0 1,.ptr 0 0 1]] [.q 1 [ah a],.q 1 [.i6 0]] K:=by
 apply c0 func139 [];simp[ah];refine bx a.l.length (fun k j l=>j 0=b4 32 am a/\j 1=.fn 262 [] [.ptr 1 0 1,.ptr 0 0 1]/\j 7=.i6 a.l.length/\j 8=.i6 k/\(∃ r,l=.q 1 [ah a] ::.q 1 [.i6 (k:Int)] ::r)/\∀ g,g<k->tG a.l g=false) ?_ ⟨V,V,V,V,⟨[],by simp[ah]⟩,fun g h=>F⟩;rintro k j l hk ⟨o,p,t,u,⟨r,rfl⟩,z⟩;obtain⟨s,rfl⟩:=eO o p t u;clear o p t u;simp;refine fh (fun h=>?_) (fun h=>?_)
 ·simp only[bI] at h;obtain⟨x,O,B⟩:=aP (l:=a.l) (k:=k) F;have D:=cf (k:=k) F;simp[O,br (m x B),aH];refine⟨QQ,V8 a m I k F x (m x B) r fun C=>?_⟩;cases w:tG a.l k with
  | true=>
   simp;refine v _ _ ⟨fun P=>F,fun J=>?_⟩;have:=Kz.1 J k F;rw[w] at this;cases this
  | false=>
   simp[D];refine⟨F,fun g G=>?_⟩;by_cases H:g=k
   ·subst H;exact w
   ·exact z g F
 ·simp[h];refine v _ _ ⟨fun _=>Kz.2 fun g G=>z g (by simp at h;omega),fun _=>F⟩
theorem V9 (a:b2) (p:c6 a) (t:a.l.length<=1000000) {K:cA} (o:∀ g,K (.bool (!b8 a.l)) g) :
  cM 88 [ah a,.fn 262 [] [.ptr 1 0 1,.ptr 0 0 1]] [.q 1 [ah a],.q 1 [.i6 0]] K:=by
 apply c0 func88 [];simp;refine Wa a p t fun n g j=>?_
 have e:decide (0<=n)=!b8 a.l:=by
  cases m:b8 a.l with
  | true=>have:=j.2 m;simp;omega
  | false=>
   have:¬ n<0:=fun h=>by have:=j.1 h;rw[m] at this;cases this
   simp;omega
 simp[e];exact o g
theorem Wb (a:b2) (g:c6 a) (j:a.l.length<=1000000) :aW 218 [ah a] (.bool (b8 a.l)):=by
 apply a8 func218 [];have h:(ah a).cells=some [ah a]:=by cases a<;>rfl
 simp[h];refine V9 a g j fun m=>?_
 simp;exact aL
def nC (l:aQ) :List B:=dD l.length++l.flatten
theorem Gs:∀ (x:List B),lU 1 x.length (x.map a7)=x.map bY
 | []=>rfl
 | b::r=>by
  show ((a7 b::r.map a7).take 1) ::lU 1 r.length ((a7 b::r.map a7).drop 1)=_;simp[Gs r,bY]
theorem O8 {x:List B} (h:x.length=32) :lU 1 32 (am x)=x.map bY:=by have:=Gs x;rw[h] at this;exact this
theorem Cp {l:aQ} (h:∀ x∈l,x.length=32) :l.flatten.length=l.length*32:=hw h
theorem LK {l:aQ} {k:Nat} {x:List B} (h:l[k]?=some x) :(l.take (k+1)).flatten=(l.take k).flatten++x:=by rw[ej,h];simp
theorem W2 {x:List B} (h:x.length=32) :dw (.arr 32 1) (.b7 (am x) 0) none none none=some (.bu 1 (x.map bY)):=by have:=O8 h;have g:e5 32 32 none none none=some (0,32,32):=rfl;unfold dw;simp only[g];simp[br h,this]
structure Nk (l:ad) (s:b2) (k:Nat) (sgZ:aS) (l1:ad) :Prop where
 kF:sgZ 0=b4 32 am s
 hQ:sgZ 4=.i6 k
 uf:∃ v,sgZ 3=v/\ce 1 bY l l1 v (dD s.l.length++(s.l.take k).flatten) false
theorem Vh (s:b2) (g:c6 s) (Q:s.l.length<=1000) {l:ad} {K:cA} (B:∀ v l',ce 1 bY l l' v (nC s.l) false->K v l') :
  cM 197 [ah s] l K:=by
 apply c0 func197 [];have D:=ds;have C:(BitVec.ofNat 64 s.l.length).toNat=s.l.length:=by rw[fQ];exact eg F
 have P:=gE s.l.length;simp[ah];refine q0 _ fun v l' h=>?_
 rw[C] at h;simp;refine bx s.l.length (Nk l s) ?_ ⟨by simp[ah],V,v,V,by simpa using h⟩;rintro k I R hk ⟨m,p,v,o,j⟩;obtain⟨I,rfl⟩:=gJ m o p;clear m o p;simp;refine fh (fun h=>?_) (fun h=>?_)
 ·simp only[bI] at h;obtain⟨x,q,t⟩:=aP (l:=s.l) (k:=k) F;have z:=cf (k:=k) F;have O:((s.l.take k).flatten).length<=32000:=by
   rw[Cp (fun y H=>g y (gA H)),cL];omega
  obtain⟨J,S,u,w,_⟩:=j.app (by_:=1) (x:=.bu 1 (x.map bY)) (xs:=x) (by simp[cr]) (by simp[bY]) F F (by rw[D,g x t];simp only[cF];omega);simp[q,W2 (g x t),u];refine bP.bm ?_;simp[z];exact⟨F,V,V,J,V,by rw[LK q,<-hl];exact w⟩
 ·simp[h];have G:s.l.take k=s.l:=aH (by simp at h;omega);rw[G] at j;exact B _ _ j
structure Nl (l:ad) (s:b2) (k:Nat) (sgZ:aS) (l1:ad) :Prop where
 Z6:sgZ 17=b4 32 am s
 Z7:sgZ 18=.i6 s.l.length
 Z8:sgZ 19=.i6 k
 uf:∃ v,sgZ 4=v/\ce 1 bY l l1 v (dD s.l.length++(s.l.take k).flatten) false
theorem Yz (s:b2) (g:c6 s) (X:s.l.length<=60) (I:b8 s.l=true) {l:ad} {K:cA} (G:∀ v l',ce 1 bY l l' v (nC s.l) false->K (.a1 [v,.i6 0]) l') :
  cM 171 [ah s] l K:=by
 apply c0 func171 [];have J:dk=140737488355328:=rfl;have H:(BitVec.ofNat 64 s.l.length).toNat=s.l.length:=by rw[fQ];exact eg F
 have W:=gE s.l.length;have D:¬ (60:Int)<(s.l.length:Int):=F;simp[ah,D];refine au (Wb s g F) (by have:=bM s;simp[aq];exact this) ?_;simp[I,ah];refine sR _ fun v l' h=>?_
 rw[H] at h;simp[ah];refine bx s.l.length (Nl l s) ?_ ⟨V,V,V,v,V,by simpa using h⟩;rintro k S R hk ⟨o,p,t,v,u,m⟩;obtain⟨S,rfl⟩:=eO o p t u;clear o p t u;simp;refine fh (fun h=>?_) (fun h=>?_)
 ·simp only[bI] at h;obtain⟨x,w,j⟩:=aP (l:=s.l) (k:=k) F;have C:=cf (k:=k) F;have U:((s.l.take k).flatten).length<=32000:=by
   rw[Cp (fun y Q=>g y (gA Q)),cL];omega
  obtain⟨T,Y,z,B,_⟩:=(m.more [.q 32 (am x)]).app (by_:=1) (x:=.Z 1 R.length 0 32 32 32) (xs:=x) (by simp[cr,g x j,aH,am,vV]) (by simp[bY]) F F (by rw[J,g x j];simp only[cF];omega);have O:aw (bZ 32 (.int .u8 0)) 0 (am x)=am x:=cy (by rw[br (g x j)];rfl);simp[w,br (g x j),aH,uE,O,z];refine bP.bm ?_;simp[C];exact⟨F,V,V,V,T,V,by rw[LK w,<-hl];exact B⟩
 ·simp[h];have P:s.l.take k=s.l:=aH (by simp at h;omega);rw[P] at m;exact G _ _ m
def ef (s:List UInt8) :List B:=s.map fun b=>b.toBitVec
theorem Ak (s:List UInt8) :(s.map fun b=>[hs b])=(ef s).map bY:=by unfold ef;rw[iL];rfl
theorem mX (s:List UInt8) :(ef s).length=s.length:=by simp[ef]
def lS (b:Q) (k:Nat) :List B:=(List.range k).map fun i=>jv b.toNat (7 - i)
def hi (v:gU) :List B:=v.kind::(if v.kind=1#8 then dD (ki v.num).toNat else if v.kind=2#8 then lS v.bits 8 else hh (ef v.text))
def Da (v:gU) :Prop:=-9223372036854775808<=v.num/\v.num<9223372036854775808/\v.text.length<=10000
theorem F5 (b:Q) (k:Nat) :lS b (k+1)=lS b k++[jv b.toNat (7 - k)]:=by unfold lS;rw[s5,cS];rfl
theorem I5 (l:ad) (c:ao) (x:B) :ce 1 bY l (l++[c,.q 1 [a7 x]]) (.Z 1 (l.length+1) 0 1 1 1) [x] false:=by exact⟨l.length+1,ma (n:=1) (a:=[x]) rfl V,V,fun b g=>aU g,.inr F,rfl⟩
theorem pK (l:ad) (c:ao) (x:B) :ce 1 bY (l++[c]) (l++[c,.q 1 [a7 x]]) (.Z 1 (l.length+1) 0 1 1 1) [x] false:=by have e:l++[c,.q 1 [a7 x]]=(l++[c])++[.q 1 [a7 x]]:=V;exact⟨l.length+1,ma (n:=1) (a:=[x]) rfl V,V,fun b g=>by rw[e];exact aU g,.inr V,rfl⟩
structure ML (l:ad) (v:gU) (p:Nat) (k:Nat) (sgZ:aS) (l1:ad) :Prop where
 eZ:sgZ 1=.ptr p 0 4
 hQ:sgZ 4=.i6 (7 - (k:Int))
 uf:∃ w,sgZ 3=w/\ce 1 bY (l++[.q 4 (dK v)]) l1 w (v.kind::lS v.bits k) false
theorem VF (v:gU) (al:Da v) {l:ad} {K:cA} (G:∀ w l',ce 1 bY l l' w (hi v) false->K w l') :
  cM 199 [.af (dK v)] l K:=by
 apply c0 func199 [];have Q:=ds;have D:=I5 l (.q 4 (dK v)) v.kind;obtain⟨ag,ah,ai⟩:=al;have W:rS (.str v.text)=some (.bu 1 ((ef v.text).map bY)):=by
  show some (U.bu 1 (v.text.map fun b=>[hs b]))=_;rw[Ak]
 by_cases o:v.kind=1#8
 ·have p:hi v=[v.kind]++dD (ki v.num).toNat:=by unfold hi;rw[ak o];rfl
  have z:(u v.kind:Int)=1:=(g2 v.kind).2 o;simp only[a7,z] at D;have aw:=gE (ki v.num).toNat
  simp[dK,z];refine Vy v.num ag ah fun w l' h=>?_
  obtain⟨aq,ao,j,m,_⟩:=(D.frame h.le h.same).app (by_:=1) (x:=w) (xs:=dD (ki v.num).toNat) h.contents (by simp[bY]) F F (by rw[Q];simp only[dN,hq];omega);simp[j];refine bP.bm ?_;simp;exact G _ _ (by rw[p];exact m)
 ·have z:¬ (u v.kind:Int)=1:=fun h=>o ((g2 v.kind).1 h)
  by_cases t:v.kind=2#8
  ·have B:(u v.kind:Int)=2:=(jo v.kind).2 t;have p:hi v=v.kind::lS v.bits 8:=by unfold hi;rw[aj o,ak t]
   have O:=pK l (.q 4 (dK v)) v.kind;simp only[a7,B] at O;simp[dK,B];refine bx 8 (ML l v l.length) ?_ ⟨V,V,_,V,O⟩;rintro k ap am hk ⟨H,J,w,I,C⟩;have P:am[l.length]?=some (.q 4 (dK v)):=by rw[C.same l.length V];simp
   obtain⟨ap,rfl⟩:=gJ H I J;clear H I J;by_cases X:k=8
   ·subst X;rw[<-p] at C;simp;exact G _ _ (C.base V fun b T=>aU T)
   ·obtain⟨g,av⟩:∃ g,g+k=7:=⟨7 - k,F⟩
    have em:7 - (k:Int)=(g:Int):=F;have R:IntKind.i64.wrap ((g:Int) - 1)=(g:Int) - 1:=by rw[IntKind.wrap_i64];omega
    have S:IntKind.i64.wrap (8*(g:Int))=((8*g:Nat) :Int):=by rw[IntKind.wrap_i64];omega
    have ar:cx .shr .u64 (u v.bits) .i64 ((8*g:Nat) :Int)=some (.int .u64 (u (v.bits >>> (8*g)))):=qr v.bits .i64 (8*g);have au:=yc v.bits g;have Y:(v.kind::lS v.bits k).length<=1000000000:=by simp[lS];omega
    obtain⟨w',l',j,m⟩:=ce.push C (jv v.bits.toNat g) Y;rw[em];simp[dK] at P;simp[P,S,ar,au,j,-Int.natCast_mul];refine bP.bm ?_;simp[R];exact⟨F,V,by simp;omega,w',V,by rw[F5,show 7 - k=g by omega];exact m⟩
  ·have B:¬ (u v.kind:Int)=2:=fun h=>t ((jo v.kind).1 h)
   have p:hi v=[v.kind]++hh (ef v.text):=by unfold hi;rw[aj o,aj t];rfl
   have ax:(hh (ef v.text)).length<=20000:=by
    have:=gE (ef v.text).length;unfold hh;rw[cF];have:=mX v.text;omega
   simp[dK,z,B,W];refine Kd (some (ef v.text)) (by simpa [mX] using ai) (by simp[cr]) V (fun l' _ _=>by simp[cr]) fun w l' h=>?_
   obtain⟨aq,ao,j,m,_⟩:=(D.frame h.le h.same).app (by_:=1) (x:=w) (xs:=hh (ef v.text)) h.contents (by simp[bY]) F F (by rw[Q];simp only[dN,hq];omega);simp[j];refine bP.bm ?_;simp;exact G _ _ (by rw[p];exact m)
structure MM (l:ad) (v:gU) (p:Nat) (k:Nat) (sgZ:aS) (l1:ad) :Prop where
 eZ:sgZ 1=.ptr p 0 4
 lm:sgZ 6=.i6 (8*(7 - (k:Int)))
 uf:∃ w,sgZ 5=w/\ce 1 bY (l++[.q 4 (dK v)]) l1 w (v.kind::lS v.bits k) false
theorem R5 {v:gU} (h:iI v=true) (g:¬ v.kind=1#8) (j:¬ v.kind=2#8) :v.kind=3#8:=by unfold iI at h;simp[g,j] at h;exact h.1
theorem YF (v:gU) (ar:Da v) (R:iI v=true) {l:ad} {K:cA} (H:∀ w l',ce 1 bY l l' w (hi v) false->K (.a1 [w,.i6 0]) l') :
  cM 175 [.af (dK v)] l K:=by
 apply c0 func175 [];have T:=ds;have z:=I5 l (.q 4 (dK v)) v.kind;obtain⟨ao,ap,aq⟩:=ar;have ag:rS (.str v.text)=some (.bu 1 ((ef v.text).map bY)):=by
  show some (U.bu 1 (v.text.map fun b=>[hs b]))=_;rw[Ak]
 have B:=Mb v;rw[R] at B;by_cases g:v.kind=1#8
 ·have t:hi v=[v.kind]++dD (ki v.num).toNat:=by unfold hi;rw[ak g];rfl
  have D:(u v.kind:Int)=1:=(g2 v.kind).2 g;simp only[a7,D] at z;have aB:=gE (ki v.num).toNat
  simp[dK];refine au B rfl ?_;simp[j1,D];refine YE v.num ao ap fun w l' h=>?_
  obtain⟨ay,aw,m,o,_⟩:=(z.frame h.le h.same).app (by_:=1) (x:=w) (xs:=dD (ki v.num).toNat) h.contents (by simp[bY]) F F (by rw[T];simp only[dN,hq];omega);simp[m];refine bP.bm ?_;simp;exact H _ _ (by rw[t];exact o)
 ·have D:¬ (u v.kind:Int)=1:=fun h=>g ((g2 v.kind).1 h)
  by_cases p:v.kind=2#8
  ·have G:(u v.kind:Int)=2:=(jo v.kind).2 p;have t:hi v=v.kind::lS v.bits 8:=by unfold hi;rw[aj g,ak p]
   have Q:=pK l (.q 4 (dK v)) v.kind;simp only[a7,G] at Q;simp[dK];refine au B rfl ?_;simp[j1,G];refine bx 8 (MM l v l.length) ?_ ⟨V,V,_,V,Q⟩;rintro k ax av hk ⟨J,P,w,O,C⟩;have S:av[l.length]?=some (.q 4 (dK v)):=by rw[C.same l.length V];simp
   obtain⟨ax,rfl⟩:=gJ J O P;clear J O P;by_cases ah:k=8
   ·subst ah;rw[<-t] at C;simp;exact H _ _ (C.base V fun b Y=>aU Y)
   ·obtain⟨j,aA⟩:∃ j,j+k=7:=⟨7 - k,F⟩
    obtain⟨n,am⟩:=al (8*j);have em:8*(7 - (k:Int))=(n:Int):=F;have X:IntKind.i64.wrap ((n:Int) - 8)=(n:Int) - 8:=by rw[IntKind.wrap_i64];omega
    have az:cx .shr .u64 (u v.bits) .i64 (n:Int)=some (.int .u64 (u (v.bits >>> n))):=qr v.bits .i64 n;have W:=yc v.bits j;rw[<-am] at W;have ai:(v.kind::lS v.bits k).length<=1000000000:=by simp[lS];omega
    obtain⟨w',l',m,o⟩:=ce.push C (jv v.bits.toNat j) ai;rw[em];simp[dK] at S;simp[S,az,W,m];refine bP.bm ?_;simp[X];exact⟨F,V,by simp;omega,w',V,by rw[F5,show 7 - k=j by omega];exact o⟩
  ·have G:¬ (u v.kind:Int)=2:=fun h=>p ((jo v.kind).1 h)
   have I:(u v.kind:Int)=3:=(nU v.kind).2 (R5 R g p);have t:hi v=[v.kind]++hh (ef v.text):=by unfold hi;rw[aj g,aj p];rfl
   have aC:(hh (ef v.text)).length<=20000:=by
    have:=gE (ef v.text).length;unfold hh;rw[cF];have:=mX v.text;omega
   simp only[a7,I] at z;simp[dK];refine au B rfl ?_;simp[j1,I,ag];refine Mi (some (ef v.text)) (by simpa [mX] using aq) (by simp[cr]) V (fun l' _ _=>by simp[cr]) fun w l' h=>?_
   obtain⟨ay,aw,m,o,_⟩:=(z.frame h.le h.same).app (by_:=1) (x:=w) (xs:=hh (ef v.text)) h.contents (by simp[bY]) F F (by rw[T];simp only[dN,hq];omega);simp[m];refine bP.bm ?_;simp;exact H _ _ (by rw[t];exact o)
structure aJ where
 eL:D
 ax:b2
 fa:Q
 act:Act
 e:D
 s:D
def av (o:aJ) :ag:=[bh o.eL,ah o.ax,c7 o.fa,a7 o.act.kind,.str o.act.key,a7 o.act.val.kind,.i6 o.act.val.num,c7 o.act.val.bits,.str o.act.val.text,bh o.e,bh o.s]
structure dm (o:aJ) :Prop where
 idsZ:c6 o.ax
 len:o.ax.l.length<=1000000
 val:Da o.act.val
 key:o.act.key.length<=10000
def pu (o:aJ) :Bool:=e0 o.eL&&(decide (o.fa.toNat<=1000000000000)&&(iQ o.act&&(hv o.e&&hv o.s)))
def de (o:aJ) :Int:=if 4<o.ax.l.length then 4 else if b8 o.ax.l then (if pu o then 0 else 8) else 32
theorem du (o:aJ) :aq (av o)=true:=by have:=bM o.ax;simp[av,aq,U.ar,this]
theorem J9 (o:aJ) (q:dm o) :aW 120 [.af (av o)] (.i6 (de o)):=by
 apply a8 func120 [];unfold de;have v:=bM o.ax;have p:bz (.Z 32) (ah o.ax)=_:=b6 _;have G:(ah o.ax).cells=some [ah o.ax]:=by cases o.ax<;>rfl
 obtain⟨I,H⟩:=al (ah o.ax);by_cases h1:4<o.ax.l.length
 ·have j:(4:Int)<(o.ax.l.length:Int):=F;rw[ak h1];simp[av,p,j];exact aL
 ·have j:¬ (4:Int)<(o.ax.l.length:Int):=F;rw[aj h1];simp[av,p,j];refine au (DD o.ax q.idsZ q.len) (by simp[aq,v]) ?_;cases w:b8 o.ax.l with
  | false=>
   simp;exact aL
  | true=>
   simp;refine au (Kn o.eL) rfl ?_;unfold pu;cases z:e0 o.eL with
   | false=>
    simp;exact aL
   | true=>
    have t:((1000000000000:Int)<u o.fa)<->¬ o.fa.toNat<=1000000000000:=by unfold u;omega
    by_cases g:o.fa.toNat<=1000000000000
    ·have m:¬ ((1000000000000:Int)<u o.fa):=fun h=>t.1 h g
     simp[m];refine au (VT o.act) rfl ?_;cases B:iQ o.act with
     | false=>
      simp[j1];exact aL
     | true=>
      simp[j1];refine au (yy o.e) rfl ?_;cases C:hv o.e with
      | false=>
       simp;exact aL
      | true=>
       simp;refine au (yy o.s) rfl ?_;cases D:hv o.s with
       | false=>
        simp;exact aL
       | true=>
        simp;exact aR (by rw[ak g]) rfl
    ·have m:(1000000000000:Int)<u o.fa:=t.2 g;simp[g,m];exact aL
def opHead (o:aJ) :List B:=111#8::dD o.eL.toNat
def iB (o:aJ) :List B:=
 opHead o++nC o.ax.l++dD o.fa.toNat++[o.act.kind]++(if o.act.kind=1#8 then [] else hh (ef o.act.key))++(if o.act.kind=4#8 then hi o.act.val else [])
theorem wu {l:aQ} (h:∀ x∈l,x.length=32) :(nC l).length<=9+l.length*32:=by have:=gE l.length;have g:=Cp h;unfold nC;rw[cF];omega
theorem uO (s:List B) :(hh s).length<=9+s.length:=by have:=gE s.length;unfold hh;rw[cF];omega
theorem xu (v:gU) :(hi v).length<=20+v.text.length:=by
 have h1:=gE (ki v.num).toNat
 have g:=uO (ef v.text);have h:=mX v.text;unfold hi;simp only[dN];split
 ·omega
 ·split
  ·simp[lS];omega
  ·omega
theorem Kc (o:aJ) (B:dm o) (aH:o.ax.l.length<=1000) {l:ad} {K:cA} (S:∀ w l',ce 1 bY l l' w (iB o) false->K w l') :
  cM 134 [.af (av o)] l K:=by
 apply c0 func134 [[[0],[1],[2],[5],[6],[3,6],[4,6]]];have C:=ds;have aE:=pK l (.q 11 (av o)) 111#8;have a4:=gE o.eL.toNat
 have a5:=gE o.fa.toNat
 have a6:=wu B.idsZ;have aP:(BitVec.setWidth 64 o.eL).toNat=o.eL.toNat:=by rw[fw];exact eg (by have:=o.eL.isLt;omega)
 have z:l.length<(l++[ao.q 11 (av o)]).length:=V;have t:(l++[ao.q 11 (av o)])[l.length]?=some (.q 11 (av o)):=V;simp[av];refine q0 _ fun aV a9 h1=>?_
 rw[aP] at h1;obtain⟨bg,aq,ay,H,_⟩:=(aE.frame h1.le h1.same).app (by_:=1) (x:=aV) (xs:=dD o.eL.toNat) h1.contents (by simp[bY]) F F (by rw[C];simp only[dN,hq];omega);have ag:aq[l.length]?=some (.q 11 (av o)):=by rw[H.same _ z];exact t
 have aI:l.length<aq.length:=by have:=H.le;omega
 have ah:=ag;simp[av] at ah;simp[ay];refine bP.bm ?_;simp[ah];refine Vh o.ax B.idsZ aH fun aX aR G=>?_
 obtain⟨bh,ar,az,I,_⟩:=(H.frame G.le G.same).app (by_:=1) (x:=aX) (xs:=nC o.ax.l) G.contents (by simp[bY]) F F (by rw[C];simp only[cF,dN,hq];omega);have cv:aR[l.length]?=some (.q 11 (av o)):=by rw[G.same _ aI];exact ag
 have aK:ar[l.length]?=some (.q 11 (av o)):=by rw[I.same _ z];exact t
 have a2:l.length<ar.length:=by have:=I.le;omega
 have ai:=cv;have am:=aK;simp[av] at ai am;simp[ai,az];refine bP.bm ?_;simp[am];refine q0 _ fun aY bd Q=>?_
 obtain⟨bi,aS,aA,Y,_⟩:=(I.frame Q.le Q.same).app (by_:=1) (x:=aY) (xs:=dD o.fa.toNat) Q.contents (by simp[bY]) F F (by rw[C];simp only[cF,dN,hq];omega);have aL:aS[l.length]?=some (.q 11 (av o)):=by rw[Y.same _ z];exact t
 have ap:=aL;simp[av] at ap;obtain⟨bj,au,aB,m⟩:=ce.push Y o.act.kind (by simp only[cF,dN,hq];omega);have aM:au[l.length]?=some (.q 11 (av o)):=by rw[m.same _ z];exact t
 have a3:l.length<au.length:=by have:=m.le;omega
 have W:=aM;simp[av] at W;simp[aA];refine bP.bm ?_;simp[ap,aB];refine bP.bm ?_;obtain⟨M,T⟩:=al ([111#8]++dD o.eL.toNat++nC o.ax.l++dD o.fa.toNat++[o.act.kind]);have a0:M.length<=40000:=by rw[T];simp only[cF,dN,hq];omega
 rw[<-T] at m;have g:iB o=M++(if o.act.kind=1#8 then [] else hh (ef o.act.key))++(if o.act.kind=4#8 then hi o.act.val else []):=by rw[T];rfl
 have aQ:=uO (ef o.act.key);rw[mX] at aQ;have aG:=B.key;have a7:=xu o.act.val;have a8:=B.val.2.2;have aF:rS (.str o.act.key)=some (.bu 1 ((ef o.act.key).map bY)):=by
  show some (U.bu 1 (o.act.key.map fun b=>[hs b]))=_;rw[Ak]
 by_cases p:o.act.kind=1#8
 ·have J:(u o.act.kind:Int)=1:=(g2 o.act.kind).2 p;have j:¬ o.act.kind=4#8:=by rw[p];decide
  rw[ak p,aj j,eK,eK] at g;simp[W,J];exact S _ _ (by rw[g];exact m.base V fun b v=>aU v)
 ·have J:¬ (u o.act.kind:Int)=1:=fun h=>p ((g2 o.act.kind).1 h)
  rw[aj p] at g;simp[W,J,aF];refine Kd (some (ef o.act.key)) (by simpa [mX] using aG) (by simp[cr]) V (fun l' _ _=>by simp[cr]) fun aZ fq R=>?_
  obtain⟨bk,aT,aC,D,_⟩:=(m.frame R.le R.same).app (by_:=1) (x:=aZ) (xs:=hh (ef o.act.key)) R.contents (by simp[bY]) F F (by rw[C];omega);have aO:aT[l.length]?=some (.q 11 (av o)):=by rw[D.same _ z];exact t
  have X:=aO;simp[av] at X;simp[aC];refine bP.bm ?_;simp only[rp] at D;by_cases j:o.act.kind=4#8
  ·have O:(u o.act.kind:Int)=4:=(re o.act.kind).2 j;rw[ak j] at g;simp[X,O];refine VF o.act.val B.val fun aW bb P=>?_
   obtain⟨bf,bc,aw,aD,_⟩:=(D.frame P.le P.same).app (by_:=1) (x:=aW) (xs:=hi o.act.val) P.contents (by simp[bY]) F F (by rw[C];simp only[cF];omega);simp[aw];refine bP.bm ?_;simp;exact S _ _ (by rw[g];exact aD.base V fun b v=>aU v)
  ·have O:¬ (u o.act.kind:Int)=4:=fun h=>j ((re o.act.kind).1 h)
   rw[aj j,eK] at g;simp[X,O];exact S _ _ (by rw[g];exact D.base V fun b v=>aU v)
def fZ (o:aJ) :List B:=iB o++dD o.e.toNat++dD o.s.toNat
theorem Je (o:aJ) (g:dm o) (w:o.ax.l.length<=1000) :(iB o).length<=100000:=by
 have h1:=gE o.eL.toNat
 have p:=gE o.fa.toNat
 have q:=wu g.idsZ;have h:=uO (ef o.act.key);rw[mX] at h;have t:=g.key;have u:=xu o.act.val;have v:=g.val.2.2;have j:(if o.act.kind=1#8 then [] else hh (ef o.act.key)).length<=10009:=by split<;>(try simp) ;omega
 have m:(if o.act.kind=4#8 then hi o.act.val else []).length<=10020:=by split<;>(try simp) ;omega
 unfold iB opHead;simp only[cF,dN,hq];omega
theorem U5 (o:aJ) (u:dm o) (p:o.ax.l.length<=1000) {l:ad} {K:cA} (O:∀ w l',ce 1 bY l l' w (fZ o) false->K w l') :
  cM 123 [.af (av o)] l K:=by
 apply c0 func123 [[[0]]++cR 2 4++cR 8 4++[[1,11,10,5,4],[6,11,10],[7,11,10]]];have D:=ds;have ag:=gE o.e.toNat
 have ah:=gE o.s.toNat
 have ai:=Je o u p;have S:(BitVec.setWidth 64 o.e).toNat=o.e.toNat:=by rw[fw];exact eg (by have:=o.e.isLt;omega)
 have T:(BitVec.setWidth 64 o.s).toNat=o.s.toNat:=by rw[fw];exact eg (by have:=o.s.isLt;omega)
 have t:l.length<(l++[ao.q 11 (av o)]).length:=V;have m:(l++[ao.q 11 (av o)])[l.length]?=some (.q 11 (av o)):=V;simp[av];refine Kc o u p fun al G h1=>?_
 have v:G[l.length]?=some (.q 11 (av o)):=by rw[h1.same _ t];exact m
 have Q:l.length<G.length:=by have:=h1.le;simp at this;omega
 have z:=v;simp[av] at z;simp[z];refine q0 _ fun X U g=>?_
 rw[S] at g;obtain⟨am,W,H,j,_⟩:=(h1.frame g.le g.same).app (by_:=1) (x:=X) (xs:=dD o.e.toNat) g.contents (by simp[bY]) F F (by rw[D];omega);have R:U[l.length]?=some (.q 11 (av o)):=by rw[g.same _ Q];exact v
 have cv:W[l.length]?=some (.q 11 (av o)):=by rw[j.same _ t];exact m
 have B:=R;have C:=cv;simp[av] at B C;simp[B,H];refine bP.bm ?_;simp[C];refine q0 _ fun Y aj h=>?_
 rw[T] at h;obtain⟨ap,ak,I,J,_⟩:=(j.frame h.le h.same).app (by_:=1) (x:=Y) (xs:=dD o.s.toNat) h.contents (by simp[bY]) F F (by rw[D];simp only[cF];omega);simp[I];refine bP.bm ?_;simp;exact O _ _ (J.base V fun b P=>aU P)
theorem DA (o:aJ) (j:dm o) (h:o.ax.l.length<=1000) :aW 73 [.af (av o)] (eo (gq (fZ o))):=by
 apply a8 func73 [];have v:=gE o.e.toNat
 have w:=gE o.s.toNat
 have z:=Je o j h;have m:(gq (fZ o)).length=32:=oT _;simp[av];refine U5 o j h fun B p h1=>?_
 have g:p[1]?=some (.q 32 (bZ 32 (.int .u8 0))):=by rw[h1.same 1 V];rfl
 simp;refine iC (Ko (some (fZ o)) (by simp[fZ];omega)) (.cons (h1.oR (fun _=>rfl) (some (fZ o)) rfl rfl) .nil) (by simp[U.flat,eo,tJ a7 (fun _=>rfl)]) ?_;have u:aw (bZ 32 (.int .u8 0)) 0 ((gq (fZ o)).map a7)=(gq (fZ o)).map a7:=cy (by rw[cg,m];rfl);have t:(p.set 1 (ao.q 32 ((gq (fZ o)).map a7)))[1]?=some (.q 32 ((gq (fZ o)).map a7)):=bV (aX g);simp[g,eo,m,u,t,aH];exact aR rfl (by simp[U.ar,jw a7 (fun _=>rfl)])
end Op
end Go.bl

/-
  The reference of SHA-256, walked: tail, blocks, written, Of.
-/
import Derived.Test.YtdjbnhgdhambnaaGreatDoorXf
import Derived.LaidMore
import Derived.MakeChecks
import Derived.Lib.DecodeN
set_option maxHeartbeats 16000000
set_option maxRecDepth 100000
set_option linter.unusedVariables false
set_option linter.unusedSimpArgs false
set_option linter.unnecessarySimpa false
namespace Go.bf
open Go Go.Proofs Go.Proofs.Tryz
namespace b8
def nm (k:Nat) :List B:=128#8::List.replicate k 0#8
theorem TP (k:Nat) :nm (k+1)=nm k++[0#8]:=by simp[nm,List.replicate_succ']
theorem I9 (k:Nat) :(nm k).length=k+1:=by simp[nm]
theorem Vd (n:Nat) (aB:n<=100000000) :mV prog GS 187 [.i6 n] (b9 (some (tail n))):=by
 have aC:db=140737488355328:=rfl;refine wH checked.mixed ed ?_;apply cR func187 [];obtain⟨m,ar⟩:=aq ((119 - n % 64) % 64);simp;refine bw m (fun k h l=>h 0=.i6 n/\∃ g o,h 3=g/\bq g=false/\aJ 1 l g o ((nm k).map bL)) ?_ ?_
 ·rintro k h l hk ⟨p,g,o,t,u,j⟩;obtain⟨h,rfl⟩:=jP p t;clear p t;have z:=j.len;rw[cC,I9] at z;obtain⟨R,ap⟩:=aq (k+1);rw[<-ap] at z;have O:IntKind.i64.wrap ((n:Int)+(R:Int))=(n+R:Nat):=wrap_i64 F F;obtain⟨q,au⟩:=aq (n+R);rw[<-au] at O;have P:IntKind.i64.wrap ((q:Int)+8)=(q+8:Nat):=wrap_i64 F F;obtain⟨Z,av⟩:=aq (q+8);rw[<-av] at P;have B:=th Z 64 F;rw[show ((64:Int).toNat)=64 from rfl] at B;obtain⟨x,C⟩:=aq (Z % 64);rw[<-C] at B;simp[z,O,P,B];by_cases Y:x=0
  ·have I:k=m:=F;subst I;have aw:nm k=kx n 0:=by unfold nm kx;rw[<-ar];simp
   rw[aw] at j;clear z O P B;simp[Y];refine bw 8 (fun k h l=>h 0=.i6 n/\h 4=.i6 (7 - (k:Int))/\∃ g o,h 3=g/\bq g=false/\aJ 1 l g o ((kx n k).map bL)) ?_ ?_
   ·rintro k h l hk ⟨p,T,g,o,t,u,j⟩;obtain⟨h,rfl⟩:=gj p t T;clear p t T;obtain⟨c,aj⟩:=aq (7 - (k:Int) :Int);rw[<-aj];by_cases X:0<=c
    ·have W:k<8:=F;have az:IntKind.i64.wrap (c - 1)=7 - ((k:Int)+1):=by rw[wrap_i64 F F];omega
     obtain⟨d,aA⟩:=aq (8*c);have ay:IntKind.i64.wrap (8*c)=d:=by rw[wrap_i64 F F];omega
     have ak:0<=d:=F;have al:d.toNat=56 - 8*k:=F;have C:=FM (BitVec.ofNat 64 n*8#64) k W;have ax:=zK n k;obtain⟨y,Q⟩:=aq ((((BitVec.ofNat 64 n*8#64) >>> (56 - 8*k)).setWidth 8));rw[<-Q] at C;have J:aJ 1 (l++[am.q 1 [a7 y]]) g o ((kx n k).map bL):=j.more _;obtain⟨w,v,S,h1,D,ae,ag,ai,H⟩:=lp (by_:=1) J (x:=.ad 1 l.length 0 1 1 1) (xs:=[[a7 y]]) (by simp[cD]) V F F (by simp;omega);have K:bq w=false:=by rw[qs H,u];rfl
     have G:aJ 1 S w v ((kx n (k+1)).map bL):=by rw[Lg n k y C,dk];exact D
     rw[BitVec.mul_comm] at Q;simp only[a7] at h1;simp[X,ay,ak,al];rw[<-Q];simp[h1];refine bY.bo ?_;simp[az,W];exact⟨K,v,G⟩
    ·have ao:k=8:=F;subst ao;simp[X];exact j.Da (fun _=>rfl) (some (tail n)) u rfl
   ·simp;exact⟨u,_,j⟩
  ·have ax:=I9 k;have J:aJ 1 (l++[am.q 1 [a7 0#8]]) g o ((nm k).map bL):=j.more _;obtain⟨w,v,S,h1,D,ae,ag,ai,H⟩:=lp (by_:=1) J (x:=.ad 1 l.length 0 1 1 1) (xs:=[[a7 0#8]]) (by simp[cD]) V F F (by simp;omega);have K:bq w=false:=by rw[qs H,u];rfl
   have G:aJ 1 S w v ((nm (k+1)).map bL):=by rw[TP,dk];exact D
   have I:k<m:=F;simp[a7] at h1;simp[Y,h1];refine bY.bo ?_;simp[I];exact⟨K,v,G⟩
 ·simp;exact⟨rfl,0,.ad 0 1 1 1 [.int .u8 128] _ rfl rfl rfl (by intro e U;simp[nm] at U;subst U;rfl) (aF _) (aF _) rfl⟩
theorem U7 (h:dD) (b:List B) (ae:b.length<=100000000) :aV 185 [.ah (h.l.map a1),b9 (some b)] (.ah ((fR h b).1.l.map a1)):=by
 apply a8 func185 [];have K:∀ A:ag,A.length=8->A.take 8=A:=fun A g=>aI F
 have aj:∀ s:dD,(s.l.map a1).length=8:=fun s=>rfl
 obtain⟨Q,u⟩:=aq (h.l.map a1);have R:Q.length=8:=by rw[u];rfl
 rw[<-u];simp[R];refine bw (b.length / 64) (fun k j l=>j 1=b9 (some b)/\j 2=.ptr 0 0 8/\j 4=.ptr 1 0 8/\j 5=.i6 (64*k:Nat)/\∃ s p,fR s (b.drop (64*k))=fR h b/\l=[.q 8 (s.l.map a1),.q 8 p]/\p.length=8) ?_ ?_
 ·rintro k j l hk ⟨D,G,H,I,s,p,z,rfl,O⟩;obtain⟨j,rfl⟩:=e2 D G H I;clear D G H I;obtain⟨a,T⟩:=aq (64*k);rw[<-T] at z ⊢;obtain⟨mW,V⟩:=aq (64*(k+1));rw[<-V];obtain⟨A,g⟩:=aq (s.l.map a1);have m:A.length=8:=by rw[g];rfl
  rw[<-g];have C:IntKind.i64.wrap ((a:Int)+64)=mW:=by rw[wrap_i64 F F];omega
  by_cases ak:mW<=b.length
  ·have w:(mW:Int)<=b.length:=F;have Y:dB (.ad 1) (b9 (some b)) (some (.i6 (a:Int))) (some (.i6 (mW:Int))) none=some (b9 (some ((b.drop a).take 64))):=by
    unfold b9;rw[We F F F];have:(mW:Int).toNat - (a:Int).toNat=64:=F;rw[this,fb]
   have W:64<=((b.drop a).take 64).length:=by simp;omega
   have v:=QL s _ W;have ai:grind s ((b.drop a).take 64)=grind s (((b.drop a).take 64)):=rfl;rw[<-g] at v;have Z:fR (grind s ((b.drop a).take 64)) (b.drop mW)=fR h b:=by
    rw[<-z,vm s (b.drop a) (by simp;omega),uR];congr 2;omega
   have X:k<b.length / 64:=F;have o:ar A=true:=by rw[g];exact i7 a1 (fun _=>rfl) _
   obtain⟨P,t⟩:=aq ((grind s ((b.drop a).take 64)).l.map a1);have S:P.length=8:=by rw[t];rfl
   rw[<-t] at v;simp[C,w,m,K A m,Y];refine av v (by simp[ar,U.ax,o,iL]) ?_;simp[lS,m,S,C,X];exact⟨_,Z,p,⟨t,rfl⟩,O⟩
  ·have w:¬(mW:Int)<=b.length:=F;have J:=z;rw[xQ s (b.drop a) (by simp;omega)] at J;rw[<-J];have o:ar A=true:=by rw[g];exact i7 a1 (fun _=>rfl) _
   simp[C,w,m,K A m,lS,O];exact aR (by rw[g]) (by rw[g] at o;simp[U.ax,o])
 ·exact⟨rfl,rfl,rfl,rfl,h,bO 8 (.int .u32 0),rfl,by rw[u];rfl,rfl⟩
def oj (s:dD) (k:Nat) :List B:=(written s).take k++List.replicate (32 - k) 0#8
theorem TD (s:dD) (k:Nat) (hk:k<=32) :(oj s k).length=32:=by unfold oj;have:=zX s;simp;omega
theorem TE (s:dD) (k:Nat) (x:B) (g:(written s)[k]?=some x) :(oj s k).set k x=oj s (k+1):=by
 have hk:k<32:=(aH.1 g).1;unfold oj;have h:(List.take k (written s)).length=k:=by have:=zX s;simp;omega
 rw[oF _ _ F,h,sZ,eD,g,show 32 - k=(32 - (k+1))+1 by omega,jV,xu];simp
theorem Ya (s:dD) (k:Nat) (hk:k<32) :∃ w,s.l[k / 4]?=some w/\(written s)[k]?=some ((w >>> (24 - 8*(k % 4))).setWidth 8):=by
 have o:∀ w:W,w=w >>> 0:=fun w=>V
 obtain⟨a,b,c,d,e,f,m,h⟩:=s;have:∀ (l:List W) (k:Nat),k<4*l.length->∃ w,l[k / 4]?=some w/\(l.map pL).flatten[k]?=some ((w >>> (24 - 8*(k % 4))).setWidth 8):=by
  intro l
  induction l with
  | nil=>intro k hk;simp at hk
  | cons w l j=>
   intro k hk
   match k,hk with
   | 0,_=>exact⟨w,rfl,rfl⟩
   | 1,_=>exact⟨w,rfl,rfl⟩
   | 2,_=>exact⟨w,rfl,rfl⟩
   | 3,_=>refine⟨w,rfl,?_⟩;simp[pL]
   | k+4,hk=>
    obtain⟨y,h1,g⟩:=j k (by simp at hk;omega);refine⟨y,?_,?_⟩
    ·rw[show (k+4) / 4=k / 4+1 by omega];exact h1
    ·rw[show (k+4) % 4=k % 4 by omega];exact g
 exact this _ k (by simpa [dD.l] using hk)
theorem Vf (s:dD) :aV 184 [.ah (s.l.map a1)] (et (written s)):=by
 apply a8 func184 [];obtain⟨A,j⟩:=aq (s.l.map a1);have G:A.length=8:=by rw[j];rfl
 rw[<-j];simp[G];refine bw 32 (fun k h l=>h 1=.ptr 0 0 8/\h 2=.ptr 1 0 32/\h 3=.ptr 2 0 32/\h 4=.i6 k/\∃ v,l=[.q 8 A,.q 32 v,.q 32 ((oj s k).map a7)]/\v.length=32) ?_ ?_
 ·rintro k h l hk ⟨z,B,C,D,v,rfl,P⟩;obtain⟨h,rfl⟩:=e2 z B C D;clear z B C D;by_cases W:(k:Int)<32
  ·have m:k<32:=F;have ao:IntKind.i64.wrap ((k:Int)+1)=(k+1:Nat):=wrap_i64 F F;have o:=A1 k 4 F F;have p:=th k 4 F;rw[show ((4:Int).toNat)=4 from rfl] at o p;obtain⟨w,K,u⟩:=Ya s k m;obtain⟨q,Y⟩:=aq (k / 4);obtain⟨r,ag⟩:=aq (k % 4);rw[<-Y] at o K;rw[<-ag] at p u;have Z:q<8:=F;obtain⟨C1,aj⟩:=aq (8*r);have am:IntKind.i64.wrap (8*(r:Int))=C1:=by rw[wrap_i64 F F];omega
   obtain⟨JG,ai⟩:=aq (24 - C1);have al:IntKind.i64.wrap (24 - (C1:Int))=JG:=by rw[wrap_i64 F F];omega
   have J:=TE s k _ u;rw[<-aj,<-ai] at u J;have I:=TD s k F;have t:=lT a7 (oj s k) k ((w >>> JG).setWidth 8) (by rw[I];exact m);rw[J] at t;obtain⟨O,g⟩:=aq ((oj s k).map a7);have H:O.length=32:=by rw[g,cC,I]
   rw[<-g] at t ⊢;have Q:A[q]?=some (a1 w):=by rw[j,bX,K];rfl
   obtain⟨ap,R⟩:=aH.1 Q;have au:q<=7:=F;have V:k<=31:=F;have ae:(q:Int)<8:=F;simp[W,m,ao,o,p,am,al,G,Z,R,t,P,V,ae]
  ·have T:k=32:=F;subst T;have X:oj s 32=written s:=by unfold oj;rw[aI (by rw[zX];omega)];simp
   rw[X];obtain⟨O,g⟩:=aq ((written s).map a7);have H:O.length=32:=by rw[g,cC,zX]
   have S:ar O=true:=by rw[g];exact i7 a7 (fun _=>rfl) _
   have ak:O.take 32=O:=aI F;unfold et;rw[<-g];simp[H,ak,lS,P];exact aR rfl (by simp[U.ax,S])
 ·refine⟨rfl,rfl,rfl,rfl,_,rfl,rfl⟩
theorem J2 (s:dI) (R:s.l.length<=1000000) :aV 122 [b9 s] (et (fi s.l)):=by
 have p:db=140737488355328:=rfl;apply a8 func122 [];simp;refine av Qc rfl ?_;have K:aJ 1 ([am.q 32 (bO 32 (U.int IntKind.u8 0))]++[am.q 0 []]) (.ad 1 1 0 0 0 0) 1 []:=.ad 1 0 0 0 [] _ rfl rfl rfl V (aF _) (aF _) rfl;obtain⟨O,T,r,h1,m,u,v⟩:=rr (by_:=1) K (.inr (aF _)) (x:=b9 s) (xs:=s.l.map bL) (by unfold b9;rw[qj,cC]) (by intro e g;obtain⟨x,_,rfl⟩:=cF.1 g;rfl) F F (by rw[p];simp;omega);have H:bq O=false:=by rw[v];rfl
 simp only[im,EH] at h1 m;have z:bt (.ad 1) (b9 s)=some (.i6 s.l.length):=ca _;have G:=Vd s.l.length F;have S:(tail s.l.length).length<=80:=by rw[<-D1];exact zK _ _
 obtain⟨P,W,Y,t,j,X,J⟩:=rr (by_:=1) (pre:=[am.q 32 (bO 32 (U.int IntKind.u8 0))]) m u (x:=b9 (some (tail s.l.length))) (xs:=(tail s.l.length).map bL) (by unfold b9;rw[qj,cC];rfl) (by intro e g;obtain⟨x,_,rfl⟩:=cF.1 g;rfl) F F (by rw[p];simp;omega);have I:bq P=false:=by rw[J,H];rfl
 rw[<-dk] at j;simp only[EH] at t j;have B:=j.lP (fun _=>rfl) (some (s.l++tail s.l.length)) I rfl;have o:=U7 first (s.l++tail s.l.length) (by simp;omega)
 have h:=Vf (fR first (s.l++tail s.l.length)).1;have C:fi s.l=written (fR first (s.l++tail s.l.length)).1:=rfl;rw[<-C] at h;obtain⟨Q,w⟩:=aq ((fR first (s.l++tail s.l.length)).1);rw[<-w] at o h;simp[h1];refine bY.bo ?_;simp[z];refine av G.zN rfl ?_;simp[t];refine bY.bo ?_;simp;refine g0 o (.cons (.same _ ?_) (.cons B .nil)) (G5 a1 (fun _=>rfl) _) ?_
 ·simp[U.ax,i7 a1 (fun _=>rfl)]
 simp;refine av h ?_ ?_
 ·simp[ar,U.ax,i7 a1 (fun _=>rfl)]
 have D:=jk s.l;simp[et,D,lS,aI];exact aR rfl (by simp[U.ax,i7 a7 (fun _=>rfl)])
end b8
end Go.bf
namespace Go.bf
open Go Go.Proofs Go.Proofs.Tryz Go.RowKit
open b8
theorem Lv {e:aC} (g:prog.underlying e=some (.int .u8)) :∀ (n:Nat) {ts:List aC} {cs:ag},cW prog (List.replicate n e++ts) cs->∃ (x:List B) (cs' : ag),cs=x.map a7++cs'/\x.length=n/\cW prog ts cs'
 | 0,ts,cs,h=>⟨[],cs,rfl,rfl,h⟩
 | n+1,ts,cs,h=>by
  obtain⟨k,t,rfl,h1,m,o⟩:=nu g h;obtain⟨x,j,rfl,q,p⟩:=Lv g n o;have v:(0:Int)<=k:=h1;have w:k<=255:=m;refine⟨BitVec.ofNat 8 k.toNat::x,j,?_,by simp[q],p⟩;have:((BitVec.ofNat 8 k.toNat).toNat:Int)=k:=by
   rw[e3,dH F];omega
  simp[a7,u];omega
theorem Lx {ts:List aC} {cs:ag} (h:cW prog (47::ts) cs) :∃ (x:BitVec 64) (cs' : ag),cs=cX x::cs'/\cW prog ts cs':=by
 obtain⟨k,g,rfl,h1,j,m⟩:=nu (k:=.u64) bd h;have o:(0:Int)<=k:=h1;have p:k<=18446744073709551615:=j;refine⟨BitVec.ofNat 64 k.toNat,g,?_,m⟩;have:((BitVec.ofNat 64 k.toNat).toNat:Int)=k:=by
  rw[e3,dH F];omega
 simp[cX,u];omega
def B6:List Int:=b8.bZ.map fun k=>(k.toNat:Int)
theorem WU:uA=B6.map fun k=>.int .u32 k:=by unfold uA B6;rw[oE];rfl
theorem RK {W:aO} (h:laidMetH prog [("braid/digest.constants",Go.Proofs.YtdjbnhgdhambnaaGreatDoor.Rows.laid_braid_digest_constants)] W) :∀ g,c5 W (fun _=>True) (GS g) (.pointer (some ⟨g,0,none⟩)):=by
 intro g;unfold GS;split
 ·rename_i o;have:=l7 o;subst this;rw[MakeChecks.laidMetH_plain _ _ _ bd] at h;obtain⟨B,⟨w,t0,v,f0,z,C,q,t,u,p,_,_⟩,_,_⟩:=h;have j:prog.globalNamed "braid/digest.constants"=some 1:=bd;have m:(prog.globals[1]?).map (·.type)=some 333:=bd;obtain rfl:=cd (j.symm.trans q);obtain rfl:=cd (m.symm.trans t);rw[WU];exact QF B6 j u (n:=64) (e:=46) bd bd bd p (by rfl)
 ·exact .bad _
end Go.bf
namespace Go.bf
open Go Go.Proofs Go.Proofs.Tryz
open b8
def Fx:U->Option B
 | .int .u8 (.ofNat n)=>match Nat.ble n 255 with | true=>some (BitVec.ofNat 8 n) | false=>none
 | _=>none
def FJ:ag->Option (List B)
 | []=>some []
 | c::r=>match Fx c with
  | some b=>match FJ r with | some l=>some (b::l) | none=>none
  | none=>none
def bJ:U->Option (List B)
 | .ah cs=>match FJ cs with | some l=>(match Nat.beq l.length 32 with | true=>some l | false=>none) | none=>none
 | _=>none
def Ki:List (ag)->Option (List B)
 | []=>some []
 | [c] ::r=>match Fx c with
  | some b=>match Ki r with | some l=>some (b::l) | none=>none
  | none=>none
 | _=>none
def Oe:U->Option dI
 | .af=>some none
 | .bj 1 g=>match Ki g with | some l=>some (some l) | none=>none
 | _=>none
def WL:ag->Option U
 | [c]=>match Oe c with
  | some s=>match Nat.ble s.l.length 10000 with | true=>some (.aZ [et (fi s.l),.int .i64 0]) | false=>none
  | none=>none
 | _=>none
abbrev jM:cb × Bool × (ag->Option U):=(150,false,WL)
end Go.bf
namespace Go.bf
open Go Go.Proofs Go.Proofs.Tryz Go.Sort Go.Shelf
open b8
def bD:List B->List B->Int
 | [],[]=>0
 | [],_::_=>-1
 | _::_,[]=>1
 | a::g,b::h=>if a.toNat<b.toNat then -1 else if b.toNat<a.toNat then 1 else bD g h
theorem F7 (a b:B) (g JS:List B) :bD (a::g) (b::JS)=if a.toNat<b.toNat then -1 else if b.toNat<a.toNat then 1 else bD g JS:=rfl
theorem kO:∀ a:List B,bD a a=0
 | []=>rfl
 | a::g=>by unfold bD;simp;exact kO g
theorem nW:∀ {a b:List B},bD a b=0->a=b
 | [],[],_=>rfl
 | [],_::_,h=>by simp[bD] at h
 | _::_,[],h=>by simp[bD] at h
 | a::g,b::j,h=>by
  unfold bD at h;split at h
  ·cases h
  ·split at h
   ·cases h
   ·have h1:a=b:=eC F;rw[h1,nW h]
theorem nX:∀ a b:List B,bD b a=- bD a b
 | [],[]=>rfl
 | [],_::_=>rfl
 | _::_,[]=>rfl
 | a::h,b::j=>by
  unfold bD;by_cases h1:a.toNat<b.toNat
  ·simp[h1,show ¬ b.toNat<a.toNat by omega]
  ·by_cases g:b.toNat<a.toNat
   ·simp[h1,g]
   ·simp[h1,g];exact nX h j
theorem vw:∀ a b:List B,bD a b=-1\/bD a b=0\/bD a b=1
 | [],[]=>by simp[bD]
 | [],_::_=>by simp[bD]
 | _::_,[]=>by simp[bD]
 | a::g,b::h=>by
  unfold bD;split
  ·simp
  ·split
   ·simp
   ·exact vw g h
theorem nY:∀ a b c:List B,bD a b<0->bD b c<0->bD a c<0
 | [],[],_,h,_=>by simp[bD] at h
 | [],_::_,[],_,h=>by simp[bD] at h
 | [],_::_,_::_,_,_=>by simp[bD]
 | _::_,[],_,h,_=>by simp[bD] at h
 | _::_,_::_,[],_,h=>by simp[bD] at h
 | a::m,b::o,c::p,h1,g=>by
  unfold bD at h1 g ⊢;have j:=nY m o p
  repeat' split at h1
  all_goals repeat' split at g
  all_goals repeat' split
  all_goals first | omega | (exact j h1 g) | (exfalso;omega) | skip
def eN (a b:List B) :Bool:=ltOf bD a b
theorem hO (a b:List B) :eN a b=true<->bD a b<0:=by unfold eN ltOf;simp
theorem DZ:SWO (ltOf bD) where
 irrefl x:=by unfold ltOf;rw[kO];rfl
 trans x y g h1 n2:=by
  unfold ltOf at *
  simp only[bI] at *
  exact nY x y g h1 n2
 ntrans x y g h1 n2:=by
  unfold ltOf at *
  simp only[decide_eq_false_iff_not] at *
  intro p;have j:=nX x y;have m:=nX y g;rcases vw x y with h | h | h
  ·omega
  ·have:=nW h;subst this;omega
  ·rcases vw y g with h' | h' | h'
   ·omega
   ·have:=nW h';subst this;omega
   ·have:=nY g y x F F;have o:=nX x g;omega
theorem NE (x y:List B) (h1:ltOf bD x y=false) (g:ltOf bD y x=false) :x=y:=by
 unfold ltOf at *
 simp only[decide_eq_false_iff_not] at *
 have e:=nX x y;exact nW F
theorem OP {a b:List B} (k:Nat) (h:∀ j,j<k->a[j]?=b[j]?) (o:k<=a.length) (p:k<=b.length) :bD (a.drop k) (b.drop k)=bD a b:=by
 induction k with
 | zero=>simp
 | succ k m=>
  rw[<-m (fun j q=>h j F) F F];have h1:=h k F;rw[l5 (l:=a) (i:=k) F,l5 (l:=b) (i:=k) F];rw[bC F,bC F] at h1;have g:=cd h1
  conv=>rhs;unfold bD
  rw[g];simp
end Go.bf
namespace Go.bf
open Go Go.Proofs Go.Proofs.Tryz
namespace Op
open b8
abbrev Q:=BitVec 64
abbrev D:=BitVec 32
theorem Ly:(u (1#64) :Int)=1:=rfl
def dR (x:D) :ag:=[a1 x]
def ng (l:List D) :Q:=l.foldl (fun g x=>g*x.setWidth 64 % 1000000007#64) 1#64
theorem SC (l:List D) (k:Nat) (x:D) (h:l[k]?=some x) :ng (l.take (k+1))=ng (l.take k)*x.setWidth 64 % 1000000007#64:=by rw[eD,h];simp[ng,Aj]
theorem zi (x:Q) :cn .rem .u64 (u x) .u64 1000000007=some (.int .u64 (u (x % 1000000007#64))):=ru x 1000000007#64 (by decide)
theorem Cq (l:List D) (C:l.length<=1000) :aV 223 [.int .u64 1000000007,b0 1 dR (some l)] (a1 ((ng l).setWidth 32)):=by
 apply a8 func223 [];have w:bt (.ad 1) (b0 1 dR (some l))=some (.i6 l.length):=ca _;simp[w];refine bw l.length (fun k g _=>g 0=.int .u64 1000000007/\g 5=cX (ng (l.take k))/\g 8=b0 1 dR (some l)/\g 9=.i6 l.length/\g 10=.i6 k) ?_ (by simp[ng];rfl);rintro k g h hk ⟨j,o,p,q,m⟩;obtain⟨g,rfl⟩:=gk j o p q m;clear j o p q m;by_cases h:k<l.length
 ·obtain⟨x,t,_⟩:=aQ h;have u:bF (.ad 1) (b0 1 dR (some l)) (.i6 k)=some (.bR (dR x) 0):=by rw[n4];simp[t]
  have B:IntKind.i64.wrap ((k:Int)+1)=(k+1:Nat):=wrap_i64 F F;have z:=SC l k x t;simp[h,u,dR,B,zi];rw[<-z]
 ·have v:k=l.length:=F;subst v;simp;exact aG
def eh (a n:Nat) :Nat:=a ^ n % 1000000007
theorem pw (a n:Nat) :eh a n<1000000007:=iG _ (by decide)
theorem Jl (a n:Nat) :eh a n*eh a n % 1000000007=eh a (2*n):=by unfold eh;rw[<-uY,<-rg];congr 2;omega
theorem Jk (a n:Nat) :eh a n*a % 1000000007=eh a (n+1):=by unfold eh;rw[Nat.mod_mul_mod,Nat.pow_succ]
def dK (a:D) (n:Nat) :D:=BitVec.ofNat 32 (eh a.toNat n)
theorem k4 (a:D) (n:Nat) :(dK a n).toNat=eh a.toNat n:=by have:=pw a.toNat n;unfold dK;rw[e3];exact dH F
theorem Cp (x y:D) (h:x.toNat<1000000007) :(ng [x,y]).setWidth 32=BitVec.ofNat 32 (x.toNat*y.toNat % 1000000007):=by
 apply eC;have j:=y.isLt;have h1:x.toNat*y.toNat<1000000007*4294967296:=by
  calc x.toNat*y.toNat<=1000000007*y.toNat:=cj _ F
   _<1000000007*4294967296:=Nat.mul_lt_mul_of_pos_left (by simpa using j) (by decide)
 have g:(1#64*x.setWidth 64 % 1000000007#64).toNat=x.toNat:=by
  rw[BitVec.one_mul,jR,eH];rw[dH (show x.toNat<2 ^ 64 by omega),show (1000000007#64).toNat=1000000007 from rfl,dH h]
 simp only[ng,xn,List.foldl_nil,eH,jR,sL,g,e3];rw[dH (show y.toNat<2 ^ 64 by omega),dH (show x.toNat*y.toNat<2 ^ 64 by omega),dH (show 1000000007<2 ^ 64 by decide)]
theorem SD (a:D) (n:Nat) :(ng [dK a n,dK a n]).setWidth 32=dK a (2*n):=by rw[Cp _ _ (by rw[k4];exact pw _ _),k4,Jl];rfl
theorem mul_one (a:D) (n:Nat) :(ng [dK a n,a]).setWidth 32=dK a (n+1):=by rw[Cp _ _ (by rw[k4];exact pw _ _),k4,Jk];rfl
theorem wL {l:ae} {b:Nat} {x y:D} (h:l[b]?=some (.q 2 [a1 x,a1 y])) :fm (aU l) (.ad 1 b 0 2 2 2) (b0 1 dR (some [x,y])):=by refine zg (rest:=[]) (es:=[[a1 x],[a1 y]]) (by simpa using h) rfl V (by simp[ar,U.ax])
theorem Ql:fI prog 256=true:=bd
theorem Wy {x:D} {l:ae} {K:cv} (g:∀ v rest,K v (.q 1 [a1 ((ng [x,x]).setWidth 32)] ::rest)) :cG 256 [.ptr 0 0 1] (.q 1 [a1 x] ::l) K:=by apply cR func256 [];simp;refine g0 (Cq [x,x] V) (.cons (.same _ rfl) (.cons (wL V) .nil)) rfl ?_;simp;exact g _ _
theorem Hp (n k:Nat) (hk:k<64) :n / 2 ^ (63 - k)=2*(n / 2 ^ (64 - k))+n / 2 ^ (63 - k) % 2:=by
 have:2 ^ (64 - k)=2 ^ (63 - k)*2:=by rw[<-Nat.pow_succ];congr 1;omega
 rw[this,<-Nat.div_div_eq_div_mul];omega
theorem CV (a:D) (n:Q) :aV 215 [a1 a,cX n] (a1 (dK a n.toNat)):=by
 apply a8 func215 [];simp;refine bw 64 (fun k g l=>g 0=a1 a/\g 1=cX n/\g 5=.ptr 0 0 1/\g 6=.fn 256 [] [.ptr 0 0 1]/\g 9=.i6 k/\∃ r,l=.q 1 [a1 (dK a (n.toNat / 2 ^ (64 - k)))] ::r) ?_ (by
  have:n.toNat / 2 ^ 64=0:=pV n.isLt;simp[this,dK,eh];rfl)
 rintro k g l hk ⟨p,t,v,w,z,r,rfl⟩;obtain⟨g,rfl⟩:=gk p t v w z;clear p t v w z;by_cases h:(k:Int)<64
 ·have B:IntKind.i64.wrap ((k:Int)+1)=(k+1:Nat):=wrap_i64 F F;have J:IntKind.i64.wrap (63 - (k:Int))=((63 - k:Nat) :Int):=by rw[wrap_i64 F F];omega
  have m:=Hp n.toNat k F;have I:cn .shr .u64 (u n) .i64 ((63 - k:Nat) :Int)=some (.int .u64 (u (n >>> (63 - k)))):=qb n .i64 (63 - k);have C:64 - (k+1)=63 - k:=F;simp[h];refine⟨Ql,?_⟩;simp;refine Wy fun K rest=>?_
  simp[J,I,SD];rw[C];by_cases j:n.toNat / 2 ^ (63 - k) % 2=1
  ·have o:n >>> (63 - k) &&& 1#64=1#64:=by
    apply eC;rw[Aa,lg,hp];show _ &&& 1=1;rw[Nat.and_one_is_mod,j]
   rw[j] at m;have H:dK a (2*(n.toNat / 2 ^ (64 - k))+1)=dK a (n.toNat / 2 ^ (63 - k)):=by rw[<-m]
   simp[o,Ly];refine g0 (Cq [dK a (2*(n.toNat / 2 ^ (64 - k))),a] V) (.cons (.same _ rfl) (.cons (wL V) .nil)) rfl ?_;rw[mul_one,H];simp[B];omega
  ·have j:n.toNat / 2 ^ (63 - k) % 2=0:=F;have o:n >>> (63 - k) &&& 1#64=0#64:=by
    apply eC;rw[Aa,lg,hp];show _ &&& 1=0;rw[Nat.and_one_is_mod,j]
   rw[j,nG] at m;simp[o,B];rw[<-m];exact⟨F,rfl⟩
 ·have G:k=64:=F;subst G;simp;exact aG
theorem CZ (a b:Q) (g:b≠0#64) :cn .quo .u64 (u a) .u64 (u b)=some (.int .u64 (u (a / b))):=by
 have h:(b.toNat:Int)≠0:=fun e=>g (eC (by simpa using e))
 show (if IntKind.u64=IntKind.u64/\(b.toNat:Int)≠0 then some (U.int .u64 (IntKind.u64.wrap ((a.toNat:Int).tdiv b.toNat))) else none)=_;rw[aj ⟨rfl,h⟩,uJ];congr 2;have:((a.toNat:Int).tdiv b.toNat)=((a.toNat / b.toNat:Nat) :Int):=rfl;rw[this,nz];congr 1;apply eC;rw[e3,q7];exact dH (Nat.lt_of_le_of_lt (EL _ _) a.isLt)
theorem JF (x:Q) :cn .quo .u64 (u x) .u64 2=some (.int .u64 (u (x / 2#64))):=CZ x 2#64 (by decide)
theorem J3 (x:Q) :cn .rem .u64 (u x) .u64 2=some (.int .u64 (u (x % 2#64))):=ru x 2#64 (by decide)
theorem tR (x y:Q) (g:x.toNat<4294967296) (h:y.toNat<4294967296) :(x*y % 1000000007#64).toNat=x.toNat*y.toNat % 1000000007:=by
 have h1:x.toNat*y.toNat<18446744073709551616:=by
  calc x.toNat*y.toNat<=4294967295*y.toNat:=cj _ F
   _<=4294967295*4294967295:=Nat.mul_le_mul_left _ F
   _<18446744073709551616:=by decide
 rw[jR,sL,dH (show x.toNat*y.toNat<2 ^ 64 by omega)];rfl
theorem Uj (o b m:Nat) (h:m % 2=1) :o*b % 1000000007*(b*b % 1000000007) ^ (m / 2) % 1000000007=o*b ^ m % 1000000007:=by
 have g:m=2*(m / 2)+1:=F;rw[uY,Nat.mod_mod,xA (b*b % 1000000007),Nat.mod_mod,<-xA,<-uY];congr 1;rw[Nat.mul_pow,Nat.mul_assoc,<-rg]
 conv=>rhs;rw[g,Nat.pow_succ]
 rw[xy b,show 2*(m / 2)=m / 2+m / 2 by omega]
theorem Ui (o b m:Nat) (h:m % 2=0) :o*(b*b % 1000000007) ^ (m / 2) % 1000000007=o*b ^ m % 1000000007:=by
 have g:m=2*(m / 2):=F;rw[uY,xA (b*b % 1000000007),Nat.mod_mod,<-xA,<-uY];congr 1;rw[Nat.mul_pow,<-rg]
 conv=>rhs;rw[g]
 rw[show 2*(m / 2)=m / 2+m / 2 by omega]
theorem Jm (a n:Q) (O:a.toNat<4294967296) :aV 225 [cX a,cX n,.int .u64 1000000007] (cX (BitVec.ofNat 64 (eh a.toNat n.toNat))):=by
 apply a8 func225 [];simp;refine v8 (fun g m _=>∃ j b c:Q,c.toNat=g/\j.toNat<1000000007/\b.toNat<4294967296/\j.toNat*b.toNat ^ g % 1000000007=eh a.toNat n.toNat/\m 0=cX b/\m 1=cX c/\m 2=.int .u64 1000000007/\m 7=cX j) ?_ n.toNat _ _ ⟨1#64,a,n,rfl,by decide,O,by simp[eh],by simp;rfl⟩;rintro g m l ⟨j,b,c,o,H,h,p,q,t,v,w⟩;obtain⟨m,rfl⟩:=e2 q t v w;clear q t v w;have P:(u c:Int)=(g:Int):=by unfold u;rw[o]
 by_cases D:g=0
 ·subst D;have K:c=0#64:=eC (by simpa using o);simp[K];refine aR ?_ rfl;rw[Nat.pow_zero,nH,dH H] at p;rw[<-p,Eo,BitVec.setWidth_eq]
 ·have R:c≠0#64:=fun e=>D (by rw[<-o,e];rfl)
  have C:(0:Int)<u c:=by rw[P];omega
  have B:(c / 2#64).toNat=g / 2:=by rw[q7,o];rfl
  have G:(c % 2#64).toNat=g % 2:=by rw[jR,o];rfl
  have z:(b*b % 1000000007#64).toNat<4294967296:=by
   rw[tR b b h h];have:=iG (b.toNat*b.toNat) (show 1000000007 > 0 by decide);omega
  by_cases J:g % 2=1
  ·have h1:c % 2#64=1#64:=eC (by rw[G,J];rfl);simp[C,zi,JF,J3,h1,Ly];have I:j.toNat<4294967296:=F;refine⟨g / 2,F,_,_,_,B,?_,z,?_,rfl,rfl,rfl⟩
   ·rw[tR j b I h];exact iG _ (by decide)
   ·rw[tR j b I h,tR b b h h,Uj _ _ _ J,p]
  ·have h1:c % 2#64=0#64:=eC (by rw[G];simp;omega);simp[C,zi,JF,J3,h1];refine⟨g / 2,F,_,_,_,B,H,z,?_,rfl,rfl,rfl⟩;rw[tR b b h h,Ui _ _ _ F,p]
def eE (a:D) :Bool:=decide (0<a.toNat)&&decide (a.toNat<1000000007)&&decide (eh a.toNat 500000003=1)
theorem BX (a:D) :aV 169 [a1 a] (.bool (eE a)):=by
 apply a8 func169 [];unfold eE;have h1:((0:Int)<u a)<->0<a.toNat:=by unfold u;omega
 have j:(u a<(1000000007:Int))<->a.toNat<1000000007:=by unfold u;omega
 by_cases g:0<a.toNat
 ·by_cases h:a.toNat<1000000007
  ·simp[h1,j,g,h];refine av (CV a 500000003#64) rfl ?_;have m:(u (dK a 500000003)=(1:Int))<->eh a.toNat 500000003=1:=by unfold u;rw[k4];omega
   have o:(500000003#64:Q).toNat=500000003:=rfl;rw[o];simp[m];exact aR (by simp[g,h]) rfl
  ·simp[h1,j,g,h];exact aG
 ·simp[h1,g];exact aG
theorem J1 (a:D) :aV 180 [a1 a] (.bool (eE a)):=by
 apply a8 func180 [];unfold eE;have h1:((1:Int)<=u a)<->0<a.toNat:=by unfold u;omega
 have j:(u a<(1000000007:Int))<->a.toNat<1000000007:=by unfold u;omega
 by_cases g:0<a.toNat
 ·by_cases h:a.toNat<1000000007
  ·simp[h1,j,g,h];refine av (Jm (a.setWidth 64) 500000003#64 (by rw[eH];omega)) rfl ?_;have p:(a.setWidth 64:Q).toNat=a.toNat:=by rw[eH];omega
   have o:(500000003#64:Q).toNat=500000003:=rfl;have q:=pw a.toNat 500000003;have m:(u (BitVec.ofNat 64 (eh a.toNat 500000003))=(1:Int))<->eh a.toNat 500000003=1:=by unfold u;rw[e3,dH F];omega
   rw[o,p];simp[m];exact aR (by simp[g,h]) rfl
  ·simp[h1,j,g,h];exact aG
 ·simp[h1,g];exact aG
def eL (a:D) :Bool:=decide (a.toNat<500000003)
theorem ya (a:D) :aV 182 [a1 a] (.bool (eL a)):=by
 apply a8 func182 [];unfold eL;have g:(u (a.setWidth 64)<(500000003:Int))<->a.toNat<500000003:=by unfold u;rw[eH];omega
 simp[g];exact aG
@[simp] theorem YM (a b:List UInt8) :td .eql a b=some (.bool (decide (a=b))):=by by_cases h:a=b<;>simp[td,h]
abbrev kP (s:List UInt8) (pos:Nat) :Nat × Nat:=Utf8.decode ⟨s.toArray⟩ pos
theorem Hn (s:List UInt8) (pos:Nat) (b:UInt8) (h:s[pos]?=some b) :(ByteArray.get! ⟨s.toArray⟩ pos)=b:=by show (s.toArray)[pos]! = b;obtain⟨h1,g⟩:=aH.1 h;simp[h1,g]
theorem Pn {s:List UInt8} {pos:Nat} {b:UInt8} (h:s[pos]?=some b) (g:b.toNat<128) :kP s pos=(b.toNat,1):=by unfold kP;rw[Lib.decode_at,Hn s pos b h];unfold Lib.decodeN;rw[aj g]
theorem Pm {s:List UInt8} {pos:Nat} {b:UInt8} (h:s[pos]?=some b) (g:128<=b.toNat) :128<=(kP s pos).1:=by
 unfold kP;rw[Lib.decode_at,Hn s pos b h];unfold Lib.decodeN;rw[ak F]
 repeat' split
 all_goals (simp only;omega)
theorem Gu (s:List UInt8) (pos:Nat) :1<=(kP s pos).2:=by
 unfold kP;rw[Lib.decode_at];unfold Lib.decodeN
 repeat' split
 all_goals simp only<;>omega
def iw (p:Nat->Bool) (s:List UInt8) :Nat->Nat->Int
 | 0,_=>-1
 | n+1,pos=>if pos<s.length then (if p (kP s pos).1 then (pos:Int) else iw p s n (pos+(kP s pos).2)) else -1
theorem B1 (p:Nat->Bool) (s:List UInt8) :∀ (n pos:Nat),s.length - pos<=n->iw p s n pos=iw p s (s.length - pos) pos
 | 0,pos,h=>by rw[show s.length - pos=0 by omega]
 | n+1,pos,h=>by
  by_cases g:pos<s.length
  ·have j:=Gu s pos;rw[show s.length - pos=(s.length - pos - 1)+1 by omega];unfold iw;rw[aj g,aj g,B1 p s n _ F,B1 p s (s.length - pos - 1) _ F]
  ·rw[show s.length - pos=0 by omega];unfold iw;rw[ak g]
def j1 (g r:Nat) :Bool:=decide (r<g)||decide (126<r)
def fL (g:Nat) (b:UInt8) :Bool:=decide (g<=b.toNat)&&decide (b.toNat<=126)
theorem B0 (g:Nat) (u:g<=128) (s:List UInt8) :∀ (n pos:Nat),s.length - pos<=n->(iw (j1 g) s n pos<0<->(s.drop pos).all (fL g)=true)
 | 0,pos,h=>by
  rw[jS F];simp[iw]
 | n+1,pos,h=>by
  unfold iw;by_cases o:pos<s.length
  ·rw[aj o,l5 o,Ev];have p:s[pos]?=some s[pos]:=bC o;obtain⟨b,t⟩:=aq (s[pos]);rw[<-t] at p ⊢;by_cases v:b.toNat<128
   ·rw[Pn p v];simp only;have m:fL g b=!j1 g b.toNat:=by
     unfold fL j1;by_cases h1:b.toNat<g<;>by_cases q:126<b.toNat<;>simp[h1,q]<;>omega
    cases j:j1 g b.toNat with
    | true=>rw[m,j];simp
    | false=>
     rw[m,j];simp only[kA,if_false,sO,nA];exact B0 g u s n (pos+1) F
   ·have w:=Pm p F;have j:j1 g (kP s pos).1=true:=by unfold j1;simp;omega
    have m:fL g b=false:=by unfold fL;simp;omega
    rw[j,m];simp
  ·rw[ak o,jS F];simp
theorem SL {s:List UInt8} {pos:Nat} {r:ae} (h:pos<s.length) :cL (.iter s pos::r) (.it 0)=some (.aZ [.bool true,.i6 pos,.int .i32 (kP s pos).1],.iter s (pos+(kP s pos).2) ::r):=by unfold cL;simp only[g8];rw[show Nat.blt pos s.length=true from Nat.ble_eq_true_of_le h];rfl
theorem SK {s:List UInt8} {pos:Nat} {r:ae} (h:¬ pos<s.length) :cL (.iter s pos::r) (.it 0)=some (.aZ [.bool false],.iter s pos::r):=by unfold cL;simp only[g8];rw[show Nat.blt pos s.length=false by cases g:Nat.blt pos s.length with | false=>rfl | true=>exact bK (xw g) h]
theorem QX {g:cb} {p:Nat->Bool} (z:fI prog g=true) (D:∀ r:Nat,aV g [.int .i32 r] (.bool (p r))) (s:List UInt8) :
  aV 280 [.str s,.fn g [] [],.bool true] (.i6 (iw p s s.length 0)):=by
 apply a8 func280 [];simp[wK];refine v8 (fun m o l=>∃ pos,s.length - pos=m/\iw p s m pos=iw p s s.length 0/\o 1=.fn g [] []/\o 2=.bool true/\o 10=.it 0/\l=[.iter s pos]) ?_ s.length _ _ ⟨0,V⟩;rintro m o l ⟨pos,H,j,q,u,t,rfl⟩;obtain⟨o,rfl⟩:=gj q u t;clear q u t;by_cases h:pos<s.length
 ·have C:m=(m - 1)+1:=F;have I:=Gu s pos;obtain⟨G,w⟩:=aq (iw p s s.length 0);rw[<-w] at j ⊢;rw[C] at j;unfold iw at j;rw[aj h] at j;simp[SL h];refine⟨z,av (D _) rfl ?_⟩;cases v:p (kP s pos).1 with
  | true=>
   rw[v] at j;simp;exact aR (by rw[<-j];simp) rfl
  | false=>
   rw[v] at j;simp;refine⟨s.length - (pos+(kP s pos).2),F,pos+(kP s pos).2,rfl,?_,V,V,V,V⟩;rw[<-j];simp only[kA,if_false];rw[B1 p s (m - 1) _ F]
 ·have B:m=0:=F;subst B;simp[SK h];exact aR (by rw[<-j];rfl) rfl
theorem K3 {g:cb} {p:Nat->Bool} (h:fI prog g=true) (j:∀ r:Nat,aV g [.int .i32 r] (.bool (p r))) (s:List UInt8) :
  aV 257 [.str s,.fn g [] []] (.i6 (iw p s s.length 0)):=by apply a8 func257 [];simp;refine av (QX h j s) rfl ?_;simp;exact aG
theorem Rz (r:Nat) :aV 258 [.int .i32 r] (.bool (j1 33 r)):=by
 apply a8 func258 [];unfold j1;have h1:((r:Int)<33)<->r<33:=F;have g:((126:Int)<r)<->126<r:=F;by_cases h:r<33
 ·simp[h1,h];exact aG
 ·simp[h1,h,g];exact aG
theorem WV (r:Nat) :aV 282 [.int .i32 r] (.bool (j1 32 r)):=by
 apply a8 func282 [];unfold j1;have h1:((r:Int)<32)<->r<32:=F;have g:((126:Int)<r)<->126<r:=F;by_cases h:r<32
 ·simp[h1,h];exact aG
 ·simp[h1,h,g];exact aG
theorem Qh:fI prog 258=true:=bd
theorem Qm:fI prog 282=true:=bd
def hh (s:List UInt8) :Bool:=decide (1<=s.length)&&decide (s.length<=20)&&s.all (fL 33)
theorem B8 (s:List UInt8) :aV 216 [.str s] (.bool (hh s)):=by
 apply a8 func216 [];unfold hh;have h1:((1:Int)<=s.length)<->1<=s.length:=F;have o:((s.length:Int)<=20)<->s.length<=20:=F;by_cases g:1<=s.length
 ·by_cases j:s.length<=20
  ·simp[h1,o,g,j];refine av (K3 Qh Rz s) rfl ?_;have:=B0 33 F s s.length 0 F;rw[lh] at this;have p:decide (iw (j1 33) s s.length 0<0)=s.all (fL 33):=by
    cases m:s.all (fL 33) with
    | true=>simpa using this.2 m
    | false=>
     have:¬ iw (j1 33) s s.length 0<0:=fun h=>by rw[this.1 h] at m;cases m
     simpa using this
   simp;rw[p];exact aR (by simp[g,j]) rfl
  ·simp[h1,o,g,j];exact aR V rfl
 ·simp[h1,g];exact aR V rfl
theorem Fg {s:List UInt8} {p:UInt8->Bool} {k:Nat} {b:UInt8} (h:s[k]?=some b) :(s.take (k+1)).all p=((s.take k).all p&&p b):=by rw[eD,h];simp[List.all_append]
theorem xL {s:List UInt8} {p:UInt8->Bool} {k:Nat} {b:UInt8} (h:s[k]?=some b) (g:p b=false) :s.all p=false:=by rw[List.all_eq_false];exact⟨b,cz h,by simp[g]⟩
theorem Cr (s:List UInt8) :aV 226 [.str s] (.bool (hh s)):=by
 apply a8 func226 [];have h1:((s.length:Int)<1)<->¬ 1<=s.length:=F;have C:((20:Int)<s.length)<->¬ s.length<=20:=F;by_cases g:1<=s.length
 ·by_cases m:s.length<=20
  ·simp[h1,C,g,m];refine bw s.length (fun k q _=>q 0=.str s/\q 3=.i6 k/\(s.take k).all (fL 33)=true) ?_ V;rintro k q l hk ⟨z,B,u⟩;obtain⟨q,rfl⟩:=jP z B;clear z B;by_cases h:k<s.length
   ·obtain⟨b,o,_⟩:=aQ h;have G:IntKind.i64.wrap ((k:Int)+1)=(k+1:Nat):=wrap_i64 F F;have t:((b.toNat:Int)<33)<->¬ 33<=b.toNat:=F;have w:((126:Int)<b.toNat)<->¬ b.toNat<=126:=F;have v:tG (.str s) (.i6 k)=some (.int .u8 b.toNat):=by simp[o,hb]
    by_cases q1:33<=b.toNat
    ·by_cases p:b.toNat<=126
     ·have j:fL 33 b=true:=by simp[fL,q1,p]
      simp[h,v,t,w,q1,p,G,Fg o,j,-tI];simpa using u
     ·have j:fL 33 b=false:=by simp[fL,p]
      simp[h,v,t,w,q1,p,-tI];exact aR (by simp[hh,xL o j]) rfl
    ·have j:fL 33 b=false:=by simp[fL,q1]
     simp[h,v,t,q1,-tI];exact aR (by simp[hh,xL o j]) rfl
   ·have D:k=s.length:=F;subst D;rw[fl] at u;simp;exact aR (by simp only[hh,u];simp[g,m]) rfl
  ·simp[h1,C,g,m];exact aR (by simp[hh,m]) rfl
 ·simp[h1,g];exact aR (by simp[hh,g]) rfl
theorem T5 (s:List UInt8) (C:s.length<=1000000000) :aV 264 [.str s] (.bool (s.all (fL 32))):=by
 apply a8 func264 [];simp;refine bw s.length (fun k o _=>o 0=.str s/\o 3=.i6 k/\(s.take k).all (fL 32)=true) ?_ V;rintro k o l hk ⟨v,w,q⟩;obtain⟨o,rfl⟩:=jP v w;clear v w;by_cases h:k<s.length
 ·obtain⟨b,j,_⟩:=aQ h;have B:IntKind.i64.wrap ((k:Int)+1)=(k+1:Nat):=wrap_i64 F F;have p:((b.toNat:Int)<32)<->¬ 32<=b.toNat:=F;have u:((126:Int)<b.toNat)<->¬ b.toNat<=126:=F;have t:tG (.str s) (.i6 k)=some (.int .u8 b.toNat):=by simp[j,hb]
  by_cases q1:32<=b.toNat
  ·by_cases m:b.toNat<=126
   ·have g:fL 32 b=true:=by simp[fL,q1,m]
    simp[h,t,p,u,q1,m,B,Fg j,g,-tI];simpa using q
   ·have g:fL 32 b=false:=by simp[fL,m]
    simp[h,t,p,u,q1,m,-tI];exact aR (by simp only[xL j g]) rfl
  ·have g:fL 32 b=false:=by simp[fL,q1]
   simp[h,t,p,q1,-tI];exact aR (by simp only[xL j g]) rfl
 ·have z:k=s.length:=F;subst z;rw[fl] at q;simp;exact aR (by simp only[q]) rfl
structure gL where
 kind:B
 num:Int
 bits:Q
 text:List UInt8
def dz (v:gL) :ag:=[a7 v.kind,.i6 v.num,cX v.bits,.str v.text]
def l3:gL:=⟨0#8,0,0#64,[]⟩
def hM (b:Q) :Nat:=b.toNat / 4503599627370496 % 2048
def ml (b:Q) :Q:=b % 4503599627370496#64
def cls (b:Q) :B:=if hM b=2047 then (if ml b=0#64 then 4#8 else 5#8) else if hM b=0 then (if ml b=0#64 then 1#8 else 2#8) else 3#8
def j4 (b:Q) :Q:=if cls b=5#8 then 9221120237041090560#64 else b
theorem gQ (k:B) :((u k:Int)=1)<->k=1#8:=jO k 1#8
theorem iW (k:B) :((u k:Int)=2)<->k=2#8:=jO k 2#8
theorem nw (k:B) :((u k:Int)=3)<->k=3#8:=jO k 3#8
theorem qX (k:B) :((u k:Int)=4)<->k=4#8:=jO k 4#8
theorem zP (k:B) :((u k:Int)=5)<->k=5#8:=jO k 5#8
theorem Xj (k:B) :((u k:Int)=0)<->k=0#8:=jO k 0#8
theorem sa (k:Q) :((u k:Int)=0)<->k=0#64:=jO k 0#64
theorem GN (b:Q) :hM b<2048:=iG _ (by decide)
theorem NC (n:Nat) (h:n<9223372036854775808) :cn .and .i64 (n:Int) .i64 2047=some (.i6 ((n % 2048:Nat) :Int)):=by
 show some (U.i6 (IntKind.i64.wrap ((BitVec.ofInt 64 (n:Int) &&& BitVec.ofInt 64 (2047:Int)).toNat:Int)))=_;have h1:(BitVec.ofInt 64 (n:Int) &&& BitVec.ofInt 64 (2047:Int)).toNat=n % 2048:=by
  rw[nz,Aa,e3,dH F];exact Mg n 11
 have g:=iG n (show 2048 > 0 by decide);rw[h1];generalize n % 2048=q at g;rw[wrap_i64 F F]
theorem Qo (b:Q) :b &&& 4503599627370495#64=ml b:=by apply eC;unfold ml;rw[Aa,jR];exact Mg b.toNat 52
theorem Wv (b:Q) :aV 292 [cX b] (.aZ [.i6 (hM b),cX (ml b)]):=by
 apply a8 func292 [];have p:=b.isLt;have h1:IntKind.i64.wrap (u (b >>> 52))=((b.toNat / 4503599627370496:Nat) :Int):=by
  have:u (b >>> 52)=((b.toNat / 4503599627370496:Nat) :Int):=by unfold u;rw[lg,hp]
  rw[this,wrap_i64 F F]
 have g:=NC (b.toNat / 4503599627370496) F;have m:hM b=b.toNat / 4503599627370496 % 2048:=rfl;rw[<-m] at g;obtain⟨q,o⟩:∃ q,b.toNat / 4503599627370496=q:=⟨_,rfl⟩
 rw[o] at h1 g;have h:cn .and .u64 (u b) .u64 4503599627370495=some (cX (ml b)):=by
  rw[Fy,qA,<-Qo];rfl
 have j:cn .shr .u64 (u b) .u64 52=some (.int .u64 (u (b >>> 52))):=qb b .u64 52;simp[j,h1,g,h,-Fy];exact aG
theorem Vb (b:Q) :aV 289 [cX b] (.i6 (hM b)):=by
 apply a8 func289 [];have m:=b.isLt;have h1:cn .rem .u64 (u b) .u64 9223372036854775808=some (cX (b % 9223372036854775808#64)):=ru b 9223372036854775808#64 (by decide);have g:cn .quo .u64 (u (b % 9223372036854775808#64)) .u64 4503599627370496=some (cX (b % 9223372036854775808#64 / 4503599627370496#64)):=CZ _ 4503599627370496#64 (by decide);have h:IntKind.i64.wrap (u (b % 9223372036854775808#64 / 4503599627370496#64))=(hM b:Int):=by
  have:u (b % 9223372036854775808#64 / 4503599627370496#64)=(hM b:Int):=by
   unfold u hM;rw[q7,jR];show (((b.toNat % 9223372036854775808) / 4503599627370496:Nat) :Int)=_;congr 1;omega
  have j:=GN b;rw[this,wrap_i64 F F]
 simp[h1,g,h];exact aG
theorem Vc (b:Q) :aV 290 [cX b] (cX (ml b)):=by apply a8 func290 [];have h1:cn .rem .u64 (u b) .u64 4503599627370496=some (cX (ml b)):=ru b 4503599627370496#64 (by decide);simp[h1];exact aG
theorem OI (b:Q) :aV 288 [cX b] (a7 (cls b)):=by
 apply a8 func288 [];unfold cls;simp;refine av (Wv b) rfl ?_;have h1:((hM b:Int)=2047)<->hM b=2047:=F;have m:((hM b:Int)=0)<->hM b=0:=F;by_cases h:hM b=2047
 ·by_cases g:ml b=0#64
  ·simp[h,g];exact aG
  ·simp[h,g,sa];exact aG
 ·by_cases j:hM b=0
  ·by_cases g:ml b=0#64
   ·simp[g,j];exact aG
   ·simp[g,j,sa];exact aG
  ·simp[h1,h,j];exact aG
theorem Va (b:Q) :aV 283 [cX b] (a7 (cls b)):=by
 apply a8 func283 [];unfold cls;simp;refine av (Vb b) rfl ?_;simp;refine av (Vc b) rfl ?_;have o:((hM b:Int)=0)<->hM b=0:=F;have m:((hM b:Int)<2047)<->¬ hM b=2047:=by have:=GN b;omega
 by_cases j:hM b=0
 ·by_cases g:ml b=0#64
  ·simp[g,j];exact aG
  ·simp[g,j,sa];exact aG
 ·by_cases h:hM b=2047
  ·by_cases g:ml b=0#64
   ·simp[h,g];exact aG
   ·simp[h,g,sa];exact aG
  ·simp[m,h,j];exact aG
theorem Oq (b:Q) :aV 281 [cX b] (cX (j4 b)):=by
 apply a8 func281 [];unfold j4;simp;refine av (OI b) rfl ?_;by_cases h:cls b=5#8
 ·simp[zP,h];exact aG
 ·simp[zP,h];exact aG
theorem U8 (b:Q) :aV 263 [cX b] (cX (j4 b)):=by
 apply a8 func263 [];unfold j4;simp;refine av (Va b) rfl ?_;by_cases h:cls b=5#8
 ·simp[zP,h];exact aG
 ·simp[zP,h];exact aG
theorem Xq (n:Int) :aV 259 [.i6 n] (.ah (dz ⟨1#8,n,0#64,[]⟩)):=by apply a8 func259 [];simp;exact aG
theorem Xp (b:Q) :aV 260 [cX b] (.ah (dz ⟨2#8,0,j4 b,[]⟩)):=by apply a8 func260 [];simp;refine av (Oq b) rfl ?_;simp;exact aG
def ow (s:List UInt8) :gL × Int:=if s.length<=30 then (if s.all (fL 32) then (⟨3#8,0,0#64,s⟩,0) else (l3,8)) else (l3,4)
theorem Xx (s:List UInt8) :aV 261 [.str s] (.aZ [.ah (dz (ow s).1),.i6 (ow s).2]):=by
 apply a8 func261 [];unfold ow;have j:((30:Int)<s.length)<->¬ s.length<=30:=F;by_cases g:s.length<=30
 ·simp[j,g];refine av (K3 Qm WV s) rfl ?_;have m:=B0 32 F s s.length 0 F;rw[lh] at m;have o:((0:Int)<=iw (j1 32) s s.length 0)<->¬ (s.all (fL 32)=true):=by rw[<-m];omega
  cases p:s.all (fL 32) with
  | true=>
   have h:¬ (0:Int)<=iw (j1 32) s s.length 0:=by rw[o,p];simp
   simp[h];exact aR (by simp[g];rfl) rfl
  | false=>
   have h:(0:Int)<=iw (j1 32) s s.length 0:=by rw[o,p];simp
   simp[h];exact aR (by simp[g];rfl) rfl
 ·simp[j,g];exact aG
def ii (v:gL) :Bool:=
 if v.kind=1#8 then decide (v.bits=0#64)&&decide (v.text=[])
 else if v.kind=2#8 then decide (v.num=0)&&decide (v.text=[])&&decide (j4 v.bits=v.bits)
 else if v.kind=3#8 then decide (v.num=0)&&decide (v.bits=0#64)&&decide (v.text.length<=30)&&v.text.all (fL 32)
 else false
def jy (b:Bool) :Int:=if b then 0 else 8
def Rx:List j0:=[.i .u8,.i .i64,.i .u64,.s]
theorem H4:my prog 20 49=some Rx:=bd
theorem Xy (a b:gL) :dP prog .eql 49 (.ah (dz a)) (.ah (dz b))=some (.bool (dn (dz a) (dz b))):=te H4 bd bd rfl rfl
theorem Xz (a b:gL) :dP prog .neq 49 (.ah (dz a)) (.ah (dz b))=some (.bool (!dn (dz a) (dz b))):=AV H4 bd bd rfl rfl
theorem FE (a b:gL) :dn (dz a) (dz b)=(decide (a.kind=b.kind)&&(decide (a.num=b.num)&&(decide (a.bits=b.bits)&&decide (a.text=b.text)))):=by simp[dz,dn,U.beq]
theorem Ec {v:gL} (k:v.kind=1#8) :ii v=(decide (v.bits=0#64)&&decide (v.text=[])):=by simp[ii,k]
theorem Ed {v:gL} (k:v.kind=2#8) :ii v=(decide (v.num=0)&&(decide (v.bits=j4 v.bits)&&decide (v.text=[]))):=by unfold ii;rw[ak (by rw[k];decide),aj k,show decide (j4 v.bits=v.bits)=decide (v.bits=j4 v.bits) from decide_eq_decide.2 eq_comm];cases decide (v.num=0)<;>cases decide (v.text=[])<;>cases decide (v.bits=j4 v.bits)<;>rfl
theorem LM {v:gL} (k:v.kind=3#8) :ii v=(decide (v.kind=(ow v.text).1.kind)&&(decide (v.num=(ow v.text).1.num)&&(decide (v.bits=(ow v.text).1.bits)&&decide (v.text=(ow v.text).1.text)))):=by
 unfold ii ow;rw[ak (by rw[k];decide),ak (by rw[k];decide),aj k];by_cases h1:v.text.length<=30
 ·cases g:v.text.all (fL 32) with
  | true=>simp[h1,k]
  | false=>simp[h1,k,l3]
 ·simp[h1,k,l3]
theorem Ee {v:gL} (g:v.kind≠1#8) (h:v.kind≠2#8) (j:v.kind≠3#8) :ii v=false:=by simp[ii,g,h,j]
theorem LK (v:gL) :aV 217 [.ah (dz v)] (.i6 (jy (ii v))):=by
 apply a8 func217 [];have o:∀ (k:B) (n:Int) (b:Q) (m:List UInt8),dP prog .neq 49 (.ah [a7 v.kind,.i6 v.num,cX v.bits,.str v.text]) (.ah [a7 k,.i6 n,cX b,.str m])=some (.bool (!(decide (v.kind=k)&&(decide (v.num=n)&&(decide (v.bits=b)&&decide (v.text=m)))))):=fun k n b m=>by rw[<-FE v ⟨k,n,b,m⟩];exact Xz v ⟨k,n,b,m⟩
 by_cases g:v.kind=1#8
 ·have h1:=o 1#8 v.num 0#64 [];simp only[g] at h1;unfold dz;simp[gQ,g];refine av (Xq v.num) rfl ?_;unfold dz;simp[h1];rw[Ec g];cases decide (v.bits=0#64)<;>cases decide (v.text=[])<;>simp[g]<;>exact aG
 ·by_cases h:v.kind=2#8
  ·have h1:=o 2#8 0 (j4 v.bits) [];simp only[h] at h1;unfold dz;simp[gQ,iW,h];refine av (Xp v.bits) rfl ?_;unfold dz;simp[h1];rw[Ed h];cases decide (v.num=0)<;>cases decide (v.bits=j4 v.bits)<;>cases decide (v.text=[])<;>simp[h]<;>exact aG
  ·by_cases j:v.kind=3#8
   ·obtain⟨w,t⟩:=aq ((ow v.text).1);have h1:=o w.kind w.num w.bits w.text;have q:=LM j;rw[<-t] at q;simp only[j] at h1 q;unfold dz;simp[gQ,iW,nw,j];refine av (Xx v.text) rfl ?_;rw[<-t];unfold dz;simp[h1];rw[q];cases decide (3#8=w.kind)<;>cases decide (v.num=w.num)<;>cases decide (v.bits=w.bits)<;>cases decide (v.text=w.text)<;>simp[j]<;>exact aG
   ·have h1:dP prog .neq 49 (.ah [a7 v.kind,.i6 v.num,cX v.bits,.str v.text]) (.ah [.int .u8 0,.i6 0,.int .u64 0,.str []])=some (.bool (!(decide (v.kind=0#8)&&(decide (v.num=0)&&(decide (v.bits=0#64)&&decide (v.text=[])))))):=o 0#8 0 0#64 [];rw[Ee g h j];unfold dz;simp[gQ,iW,nw,g,h,j];by_cases p:v.kind=0#8
    ·simp only[p,oH,nA] at h1;simp[p,h1];cases decide (v.num=0)<;>cases decide (v.bits=0#64)<;>cases decide (v.text=[])<;>simp[p]<;>exact aG
    ·simp only[p,u1,q8,sO] at h1;simp[h1];exact aG
theorem Ve (v:gL) :aV 227 [.ah (dz v)] (.i6 (jy (ii v))):=by
 apply a8 func227 [da 0 11++[[12],[13],[11,13]]];by_cases o:v.kind=1#8
 ·rw[Ec o];unfold dz;simp[gQ,o,sa];by_cases g:v.bits=0#64<;>by_cases j:v.text=[]<;>simp[g,j]<;>exact aG
 ·by_cases p:v.kind=2#8
  ·rw[Ed p];unfold dz;simp[gQ,iW,p];by_cases g:v.num=0
   ·by_cases j:v.text=[]
    ·simp[g,j];refine av (U8 v.bits) rfl ?_;by_cases m:v.bits=j4 v.bits
     ·have t:j4 v.bits=v.bits:=m.symm;simp[t];exact aR (by simp[jy,g,j]) rfl
     ·have t:¬ j4 v.bits=v.bits:=fun h=>m h.symm
      simp[m,t];exact aR (by simp[jy]) rfl
    ·simp[g,j];exact aG
   ·simp[g];exact aG
  ·by_cases q:v.kind=3#8
   ·have w:ii v=(decide (v.num=0)&&decide (v.bits=0#64)&&decide (v.text.length<=30)&&v.text.all (fL 32)):=by simp[ii,q]
    have u:((v.text.length:Int)<=30)<->v.text.length<=30:=F;rw[w];unfold dz;simp[gQ,iW,nw,q];by_cases g:v.num=0
    ·by_cases j:v.bits=0#64
     ·by_cases m:v.text.length<=30
      ·simp[g,j,u,m];refine av (T5 v.text F) rfl ?_;cases v.text.all (fL 32)<;>simp<;>exact aR (by simp[jy,g,j,m]) rfl
      ·simp[g,j,u,m];exact aG
     ·simp[g,j,sa];exact aG
    ·simp[g];exact aG
   ·rw[Ee o p q];unfold dz;simp[gQ,iW,nw,o,p,q];exact aG
structure Act where
 kind:B
 key:List UInt8
 val:gL
def fF (a:Act) :ag:=[a7 a.kind,.str a.key,a7 a.val.kind,.i6 a.val.num,cX a.val.bits,.str a.val.text]
def kV (v:gL) :Bool:=decide (v.kind=0#8)&&(decide (v.num=0)&&(decide (v.bits=0#64)&&decide (v.text=[])))
def hv (a:Act) :Bool:=
 if a.kind=1#8 then decide (a.key=[])&&kV a.val
 else if a.kind=2#8\/a.kind=3#8 then hh a.key&&kV a.val
 else if a.kind=4#8 then hh a.key&&ii a.val
 else false
def mv:List j0:=[.i .u8,.s,.i .u8,.i .i64,.i .u64,.s]
theorem RB:my prog 20 51=some mv:=bd
theorem xJ (a b:Act) :dP prog .eql 51 (.ah (fF a)) (.ah (fF b))=some (.bool (dn (fF a) (fF b))):=te RB bd bd rfl rfl
theorem Ns (a:Act) (h:a.kind=1#8) :dP prog .eql 51 (.ah [.int .u8 1,.str a.key,a7 a.val.kind,.i6 a.val.num,cX a.val.bits,.str a.val.text]) (.ah [.int .u8 1,.str [],.int .u8 0,.i6 0,.int .u64 0,.str []])=some (.bool (decide (a.key=[])&&kV a.val)):=by have:=xJ a ⟨1#8,[],l3⟩;simp only[fF,h] at this;refine Eq.trans this ?_;simp[dn,U.beq,kV,l3,Xj,sa];congr
theorem LL (v:gL) :dP prog .eql 49 (.ah [a7 v.kind,.i6 v.num,cX v.bits,.str v.text]) (.ah [.int .u8 0,.i6 0,.int .u64 0,.str []])=some (.bool (kV v)):=by have:=Xy v l3;rw[FE] at this;exact this
theorem Fc {a:Act} (k:a.kind=1#8) :hv a=(decide (a.key=[])&&kV a.val):=by simp[hv,k]
theorem AK {a:Act} (k:a.kind=2#8) :hv a=(hh a.key&&kV a.val):=by simp[hv,k]
theorem AL {a:Act} (k:a.kind=3#8) :hv a=(hh a.key&&kV a.val):=by simp[hv,k]
theorem ve {a:Act} (k:a.kind=4#8) :hv a=(hh a.key&&ii a.val):=by simp[hv,k]
theorem AM {a:Act} (g:a.kind≠1#8) (h:a.kind≠2#8) (j:a.kind≠3#8) (m:a.kind≠4#8) :hv a=false:=by simp[hv,g,h,j,m]
theorem OD (a:Act) :aV 170 [.ah (fF a)] (.i6 (jy (hv a))):=by
 apply a8 func170 [];by_cases g:a.kind=1#8
 ·have h1:=Ns a g;have o:a7 (1#8)=.int .u8 1:=rfl;rw[Fc g];unfold fF;simp[g,o,h1];by_cases p:a.key=[]<;>cases q:kV a.val<;>simp[p]<;>exact aG
 ·have h1:=LL a.val;by_cases h:a.kind=2#8
  ·rw[AK h];unfold fF;simp[gQ,iW,h];refine av (B8 a.key) rfl ?_;cases hh a.key with
   | true=>simp[h1];cases kV a.val<;>simp<;>exact aG
   | false=>simp;exact aG
  ·by_cases j:a.kind=3#8
   ·rw[AL j];unfold fF;simp[gQ,iW,nw,j];refine av (B8 a.key) rfl ?_;cases hh a.key with
    | true=>simp[h1];cases kV a.val<;>simp<;>exact aG
    | false=>simp;exact aG
   ·by_cases m:a.kind=4#8
    ·rw[ve m];unfold fF;simp[gQ,iW,nw,qX,m];refine av (B8 a.key) rfl ?_;cases hh a.key with
     | true=>
      simp;refine av (LK a.val) rfl ?_;cases ii a.val<;>simp[jy]<;>exact aG
     | false=>simp;exact aG
    ·rw[AM g h j m];unfold fF;simp[gQ,iW,nw,qX,g,h,j,m];exact aG
theorem U9 (a:Act) :aV 181 [.ah (fF a)] (.i6 (jy (hv a))):=by
 apply a8 func181 [];have h1:=LL a.val;by_cases g:a.kind=1#8
 ·rw[Fc g];unfold fF;simp[gQ,g,h1];by_cases o:a.key=[]<;>cases p:kV a.val<;>simp[o]<;>exact aG
 ·by_cases h:a.kind=2#8
  ·rw[AK h];unfold fF;simp[gQ,iW,h,h1];refine av (Cr a.key) rfl ?_;cases hh a.key with
   | true=>simp;cases kV a.val<;>simp<;>exact aG
   | false=>simp;exact aG
  ·by_cases j:a.kind=3#8
   ·rw[AL j];unfold fF;simp[gQ,iW,nw,j,h1];refine av (Cr a.key) rfl ?_;cases hh a.key with
    | true=>simp;cases kV a.val<;>simp<;>exact aG
    | false=>simp;exact aG
   ·by_cases m:a.kind=4#8
    ·rw[ve m];unfold fF;simp[gQ,iW,nw,qX,m,h1];refine av (Cr a.key) rfl ?_;cases hh a.key with
     | true=>
      simp;refine av (Ve a.val) rfl ?_;cases ii a.val<;>simp[jy]<;>exact aG
     | false=>simp;exact aG
    ·rw[AM g h j m];unfold fF;simp[gQ,iW,nw,qX,g,h,j,m,h1];exact aG
end Op
def b7 {alZ:Type} (z:Nat) (enc:alZ->ag) (l l1:ae) (v:U) (a:List alZ) (h:Bool) :Prop:=
 ∃ g,aJ z l1 v g (a.map enc)/\l.length<=l1.length/\(∀ b,b<l.length->l1[b]?=l[b]?)/\(v=.af\/l.length<=g)/\bq v=h
section
variable {alZ:Type} {z:Nat} {enc:alZ->ag} {l l1:ae} {v:U} {a:List alZ} {nl:Bool}
theorem b7.nil:b7 z enc l l .af ([] :List alZ) true:=⟨0,.nil 0,aF _,fun _ _=>rfl,.inl rfl,rfl⟩
theorem b7.more (h:b7 z enc l l1 v a nl) (r:ae) :b7 z enc l (l1++r) v a nl:=by obtain⟨p,h1,q,g,j,m⟩:=h;exact⟨p,h1.more r,by simp;omega,fun b o=>by rw[aS F];exact g b o,j,m⟩
theorem b7.len (h:b7 z enc l l1 v a nl) :bt (.ad z) v=some (.i6 a.length):=by obtain⟨g,h1,_⟩:=h;rw[h1.len,cC]
theorem b7.cells (h:b7 z enc l l1 v a nl) :v.cells=some [v]:=by obtain⟨g,h1,_⟩:=h;exact h1.cells
theorem b7.contents (h:b7 z enc l l1 v a nl) :cD l1 z v=some ((a.map enc).flatten,a.length):=by obtain⟨g,h1,_⟩:=h;rw[h1.contents,cC]
theorem b7.le (h:b7 z enc l l1 v a nl) :l.length<=l1.length:=by obtain⟨j,h1,g,_⟩:=h;exact g
theorem b7.same (h:b7 z enc l l1 v a nl) :∀ b,b<l.length->l1[b]?=l[b]?:=by obtain⟨m,h1,j,g,_⟩:=h;exact g
theorem b7.mH (h:b7 z enc l l1 v a nl) (j:∀ x,ar (enc x)=true) (s:bH alZ) (m:nl=s.isNone) (o:s.l=a) :fm (aU l1) v (b0 z enc s):=by obtain⟨u,h1,p,q,t,g⟩:=h;exact h1.lP j s (by rw[g,m]) o
theorem b7.rd (h:b7 z enc l l1 v a nl) (j:∀ x,ar (enc x)=true) (s:bH alZ) (m:nl=s.isNone) (o:s.l=a) :Rd l1 v (b0 z enc s):=by obtain⟨w,h1,p,t,u,g⟩:=h;exact h1.q.jg j s (by rw[g,m]) o
theorem b7.base (h:b7 z enc l l1 v a nl) {l0:ae} (u:l0.length<=l.length) (p:∀ b,b<l0.length->l[b]?=l0[b]?) :b7 z enc l0 l1 v a nl:=by obtain⟨q,h1,t,g,j,m⟩:=h;exact⟨q,h1,F,fun b o=>by rw[g b F];exact p b o,j.imp id F,m⟩
theorem b7.frame (h:b7 z enc l l1 v a nl) {g:ae} (B:l1.length<=g.length) (j:∀ b,b<l1.length->g[b]?=l1[b]?) :b7 z enc l g v a nl:=by obtain⟨m,h1,w,o,p,q⟩:=h;exact⟨m,h1.frame fun u=>j m u,F,fun b t=>by rw[j b F];exact o b t,p,q⟩
theorem b7.app (h:b7 z enc l l1 v a nl) {by_:Nat} {x:U} {xs:List alZ} (K:cD l1 z x=some ((xs.map enc).flatten,xs.length)) (P:∀ y∈xs,(enc y).length=z) (w:z≠0) (H:by_≠0) (J:(a.length+xs.length)*by_<=db) :
  ∃ g l',ep l1 z by_ v x=some (g,l')/\b7 z enc l l' g (a++xs) (nl&&xs.isEmpty)/\l1.length<=l'.length:=by
 obtain⟨T,h1,R,B,j,C⟩:=h;obtain⟨g,Q,l',m,o,p,q,t,u⟩:=i3 (xs:=xs.map enc) h1 (by simpa using K) (fun e I=>by obtain⟨y,O,rfl⟩:=cF.1 I;exact P y O) w H (by simpa using J);refine⟨g,l',m,⟨Q,by rw[dk];exact o,F,fun b G=>?_,?_,?_⟩,p⟩
 ·rw[q b F]
  ·exact B b G
  ·rcases j with h | h
   ·exact .inl h
   ·exact .inr F
 ·rcases t with h | ⟨D,S⟩ | h
  ·exact .inr F
  ·rcases j with h | h
   ·exact bK h D
   ·exact .inr F
  ·exact .inl h
 ·rw[u,C];simp
end
namespace Op
open b8
theorem b7.push {l l1:ae} {v:U} {a:List B} {p:Bool} (h:b7 1 bL l l1 v a p) (x:B) (t:a.length<=1000000000) :
  ∃ g l',ep (l1++[.q 1 [a7 x]]) 1 1 v (.ad 1 l1.length 0 1 1 1)=some (g,l')/\b7 1 bL l l' g (a++[x]) false:=by have o:=dw;obtain⟨g,l',j,m,_⟩:=(h.more [.q 1 [a7 x]]).app (by_:=1) (x:=.ad 1 l1.length 0 1 1 1) (xs:=[x]) (by simp[cD,bL]) (by simp[bL]) F F (by rw[o];simp;omega);exact⟨g,l',j,by simpa using m⟩
theorem vG:∀ a:List B,(a.map bL).flatten=a.map a7
 | []=>rfl
 | x::a=>by rw[dh,gR,vG a];rfl
theorem k2 {l:ae} {j n:Nat} {a:List B} (g:a.length=n) (m:l[j]?=some (.q n (a.map a7))) :aJ 1 l (.ad 1 j 0 n n n) j (a.map bL):=by
 refine .ad j n n n (a.map a7) _ m (by simp[g]) (by simp[g]) (fun e h=>?_) (aF _) F ?_
 ·obtain⟨x,_,rfl⟩:=cF.1 h;rfl
 ·rw[aI (by simp[g]),vG]
def iB (n:Nat) :Nat:=if n<256 then 1 else if n<65536 then 2 else if n<16777216 then 3 else if n<4294967296 then 4 else if n<1099511627776 then 5 else if n<281474976710656 then 6 else if n<72057594037927936 then 7 else 8
theorem yW (n:Nat) :1<=iB n/\iB n<=8:=by unfold iB;refine⟨?_,?_⟩<;>(repeat' split)<;>omega
def i5 (n i:Nat) :B:=BitVec.ofNat 8 (n >>> (8*i))
def pF (n:Nat) :Nat->List B
 | 0=>[]
 | i+1=>i5 n i::pF n i
theorem D2 (n:Nat) :∀ i,(pF n i).length=i
 | 0=>rfl
 | i+1=>by simp[pF,D2 n i]
def dq (n:Nat) :List B:=if n<=247 then [BitVec.ofNat 8 n] else BitVec.ofNat 8 (247+iB n) ::pF n (iB n)
def fu (x:Nat) :Nat:=if x<1 then 0 else if x<2 then 1 else if x<4 then 2 else if x<8 then 3 else if x<16 then 4 else if x<32 then 5 else if x<64 then 6 else if x<128 then 7 else 8
def w3:List UInt8:=[0,1,2,2,3,3,3,3,4,4,4,4,4,4,4,4,5,5,5,5,5,5,5,5,5,5,5,5,5,5,5,5,6,6,6,6,6,6,6,6,6,6,6,6,6,6,6,6,6,6,6,6,6,6,6,6,6,6,6,6,6,6,6,6,7,7,7,7,7,7,7,7,7,7,7,7,7,7,7,7,7,7,7,7,7,7,7,7,7,7,7,7,7,7,7,7,7,7,7,7,7,7,7,7,7,7,7,7,7,7,7,7,7,7,7,7,7,7,7,7,7,7,7,7,7,7,7,7,8,8,8,8,8,8,8,8,8,8,8,8,8,8,8,8,8,8,8,8,8,8,8,8,8,8,8,8,8,8,8,8,8,8,8,8,8,8,8,8,8,8,8,8,8,8,8,8,8,8,8,8,8,8,8,8,8,8,8,8,8,8,8,8,8,8,8,8,8,8,8,8,8,8,8,8,8,8,8,8,8,8,8,8,8,8,8,8,8,8,8,8,8,8,8,8,8,8,8,8,8,8,8,8,8,8,8,8,8,8,8,8,8,8,8,8,8,8,8,8,8,8,8,8,8,8,8,8]
def D0:Nat->List UInt8->Bool
 | _,[]=>true
 | i,x::r=>Nat.beq x.toNat (fu i)&&D0 (i+1) r
theorem Lf:∀ (i:Nat) (l:List UInt8),D0 i l=true->∀ (j:Nat) (x:UInt8),l[j]?=some x->x.toNat=fu (i+j)
 | i,[],_,j,x,h=>by simp at h
 | i,y::r,h,j,x,g=>by
  simp only[D0,bN] at h;cases j with
  | zero=>simp at g;subst g;exact l7 h.1
  | succ j=>simp at g;rw[Lf (i+1) r h.2 j x g];congr 1;omega
theorem qV (i:Nat) (h:i<256) :∃ x,w3[i]?=some x/\x.toNat=fu i:=by have j:w3.length=256:=bd;have g:=Lf 0 w3 bd i _ (bC F);exact⟨_,bC F,by rw[g];congr 1;omega⟩
theorem ph (x:Nat) :fu x<=8:=by unfold fu;(repeat' split)<;>omega
def hN (n:Nat) :Nat:=
 if n<256 then fu n else if n<65536 then 8+fu (n / 256) else if n<16777216 then 16+fu (n / 65536) else if n<4294967296 then 24+fu (n / 16777216)
 else if n<1099511627776 then 32+fu (n / 4294967296) else if n<281474976710656 then 40+fu (n / 1099511627776) else if n<72057594037927936 then 48+fu (n / 281474976710656) else 56+fu (n / 72057594037927936)
theorem RN (n:Nat) (h:1<=n) :(hN n+7) / 8=iB n:=by
 have g:∀ x,1<=x->1<=fu x/\fu x<=8:=fun x j=>⟨by unfold fu;rw[ak F];(repeat' split)<;>omega,ph x⟩
 unfold hN iB
 repeat' split
 ·have:=g n h;omega
 ·have:=g (n / 256) F;omega
 ·have:=g (n / 65536) F;omega
 ·have:=g (n / 16777216) F;omega
 ·have:=g (n / 4294967296) F;omega
 ·have:=g (n / 1099511627776) F;omega
 ·have:=g (n / 281474976710656) F;omega
 ·have:=g (n / 72057594037927936) F;omega
theorem DH (x:Q) (k:Nat) :cn .shr .u64 (u x) .u64 (k:Int)=some (.int .u64 (u (x >>> k))):=qb x .u64 k
theorem p6 {i:Nat} {y:UInt8} {k:UInt8->Prop} (h:w3[i]?=some y) (hk:k y) :W w3[i]? (c:=⟨k⟩):=by rw[h];exact hk
theorem H6 (n:Q) :aV 220 [cX n] (.i6 (hN n.toNat)):=by
 apply a8 func220 [];have P:IntKind.i64.wrap 8=8:=rfl;have H:IntKind.i64.wrap 16=16:=rfl;have J:IntKind.i64.wrap 24=24:=rfl;have S:IntKind.i64.wrap 32=32:=rfl;have K:IntKind.i64.wrap 40=40:=rfl;have I:IntKind.i64.wrap 48=48:=rfl;have O:IntKind.i64.wrap 56=56:=rfl;have w:∀ x:Q,((4294967296:Int)<=u x)<->4294967296<=x.toNat:=fun x=>by unfold u;omega
 have z:∀ x:Q,((65536:Int)<=u x)<->65536<=x.toNat:=fun x=>by unfold u;omega
 have B:∀ x:Q,((256:Int)<=u x)<->256<=x.toNat:=fun x=>by unfold u;omega
 have D:∀ x:Q,cn .shr .u64 (u x) .u64 32=some (.int .u64 (u (x >>> 32))):=fun x=>DH x 32
 have C:∀ x:Q,cn .shr .u64 (u x) .u64 16=some (.int .u64 (u (x >>> 16))):=fun x=>DH x 16
 have G:∀ x:Q,cn .shr .u64 (u x) .u64 8=some (.int .u64 (u (x >>> 8))):=fun x=>DH x 8
 have t32:n.toNat >>> 32=n.toNat / 4294967296:=by rw[hp]
 have t48:n.toNat >>> 48=n.toNat / 281474976710656:=by rw[hp]
 have t16:n.toNat >>> 16=n.toNat / 65536:=by rw[hp]
 have R:=n.isLt;by_cases h1:4294967296<=n.toNat
 ·by_cases v:65536<=n.toNat >>> 32
  ·by_cases t:256<=n.toNat >>> 48
   ·have m:n.toNat >>> 56 % 256=n.toNat / 72057594037927936:=by rw[hp];exact dH F
    obtain⟨y,h,g⟩:=qV (n.toNat / 72057594037927936) F;have j:=ph (n.toNat / 72057594037927936);rw[<-g] at j;have o:IntKind.i64.wrap (y.toNat:Int)=y.toNat:=wrap_i64 F F;have q:IntKind.i64.wrap (56+(y.toNat:Int))=((56+y.toNat:Nat) :Int):=by rw[wrap_i64 F F];omega
    have p:hN n.toNat=56+y.toNat:=by unfold hN;rw[g];(repeat' split)<;>first | omega | rfl
    simp[w,z,B,D,C,G,h1,v,t];refine p6 (y:=y) (by rw[m];exact h) ?_;rw[p];simp[hb,o];exact aR (by simp[I,O,q]) rfl
   ·have m:n.toNat >>> 48 % 256=n.toNat / 281474976710656:=by rw[hp];exact dH F
    obtain⟨y,h,g⟩:=qV (n.toNat / 281474976710656) F;have j:=ph (n.toNat / 281474976710656);rw[<-g] at j;have o:IntKind.i64.wrap (y.toNat:Int)=y.toNat:=wrap_i64 F F;have q:IntKind.i64.wrap (48+(y.toNat:Int))=((48+y.toNat:Nat) :Int):=by rw[wrap_i64 F F];omega
    have p:hN n.toNat=48+y.toNat:=by unfold hN;rw[g];(repeat' split)<;>first | omega | rfl
    simp[w,z,B,D,C,h1,v,t];refine p6 (y:=y) (by rw[m];exact h) ?_;rw[p];simp[hb,o];exact aR (by simp[I,q]) rfl
  ·by_cases t:256<=n.toNat >>> 32
   ·have m:n.toNat >>> 40 % 256=n.toNat / 1099511627776:=by rw[hp];exact dH F
    obtain⟨y,h,g⟩:=qV (n.toNat / 1099511627776) F;have j:=ph (n.toNat / 1099511627776);rw[<-g] at j;have o:IntKind.i64.wrap (y.toNat:Int)=y.toNat:=wrap_i64 F F;have q:IntKind.i64.wrap (40+(y.toNat:Int))=((40+y.toNat:Nat) :Int):=by rw[wrap_i64 F F];omega
    have p:hN n.toNat=40+y.toNat:=by unfold hN;rw[g];(repeat' split)<;>first | omega | rfl
    simp[w,z,B,D,G,h1,v,t];refine p6 (y:=y) (by rw[m];exact h) ?_;rw[p];simp[hb,o];exact aR (by simp[K,q]) rfl
   ·have m:n.toNat >>> 32 % 256=n.toNat / 4294967296:=by rw[hp];exact dH F
    obtain⟨y,h,g⟩:=qV (n.toNat / 4294967296) F;have j:=ph (n.toNat / 4294967296);rw[<-g] at j;have o:IntKind.i64.wrap (y.toNat:Int)=y.toNat:=wrap_i64 F F;have q:IntKind.i64.wrap (32+(y.toNat:Int))=((32+y.toNat:Nat) :Int):=by rw[wrap_i64 F F];omega
    have p:hN n.toNat=32+y.toNat:=by unfold hN;rw[g];(repeat' split)<;>first | omega | rfl
    simp[w,z,B,D,h1,v,t];refine p6 (y:=y) (by rw[m];exact h) ?_;rw[p];simp[hb,o,q];exact aR V rfl
 ·by_cases v:65536<=n.toNat
  ·by_cases t:256<=n.toNat >>> 16
   ·have m:n.toNat >>> 24 % 256=n.toNat / 16777216:=by rw[hp];exact dH F
    obtain⟨y,h,g⟩:=qV (n.toNat / 16777216) F;have j:=ph (n.toNat / 16777216);rw[<-g] at j;have o:IntKind.i64.wrap (y.toNat:Int)=y.toNat:=wrap_i64 F F;have q:IntKind.i64.wrap (24+(y.toNat:Int))=((24+y.toNat:Nat) :Int):=by rw[wrap_i64 F F];omega
    have p:hN n.toNat=24+y.toNat:=by unfold hN;rw[g];(repeat' split)<;>first | omega | rfl
    simp[w,z,B,C,G,h1,v,t];refine p6 (y:=y) (by rw[m];exact h) ?_;rw[p];simp[hb,o];exact aR (by simp[H,J,q]) rfl
   ·have m:n.toNat >>> 16 % 256=n.toNat / 65536:=by rw[hp];exact dH F
    obtain⟨y,h,g⟩:=qV (n.toNat / 65536) F;have j:=ph (n.toNat / 65536);rw[<-g] at j;have o:IntKind.i64.wrap (y.toNat:Int)=y.toNat:=wrap_i64 F F;have q:IntKind.i64.wrap (16+(y.toNat:Int))=((16+y.toNat:Nat) :Int):=by rw[wrap_i64 F F];omega
    have p:hN n.toNat=16+y.toNat:=by unfold hN;rw[g];(repeat' split)<;>first | omega | rfl
    simp[w,z,B,C,h1,v,t];refine p6 (y:=y) (by rw[m];exact h) ?_;rw[p];simp[hb,o];exact aR (by simp[H,q]) rfl
  ·by_cases t:256<=n.toNat
   ·have m:n.toNat >>> 8 % 256=n.toNat / 256:=by rw[hp];exact dH F
    obtain⟨y,h,g⟩:=qV (n.toNat / 256) F;have j:=ph (n.toNat / 256);rw[<-g] at j;have o:IntKind.i64.wrap (y.toNat:Int)=y.toNat:=wrap_i64 F F;have q:IntKind.i64.wrap (8+(y.toNat:Int))=((8+y.toNat:Nat) :Int):=by rw[wrap_i64 F F];omega
    have p:hN n.toNat=8+y.toNat:=by unfold hN;rw[g];(repeat' split)<;>first | omega | rfl
    simp[w,z,B,G,h1,v,t];refine p6 (y:=y) (by rw[m];exact h) ?_;rw[p];simp[hb,o];exact aR (by simp[P,q]) rfl
   ·have m:n.toNat % 256=n.toNat:=dH F;obtain⟨y,h,g⟩:=qV (n.toNat) F;have j:=ph (n.toNat);rw[<-g] at j;have o:IntKind.i64.wrap (y.toNat:Int)=y.toNat:=wrap_i64 F F;have q:IntKind.i64.wrap (0+(y.toNat:Int))=((0+y.toNat:Nat) :Int):=by rw[wrap_i64 F F];omega
    have p:hN n.toNat=0+y.toNat:=by unfold hN;rw[g];(repeat' split)<;>first | omega | rfl
    simp[w,z,B,h1,v,t];refine p6 (y:=y) (by rw[m];exact h) ?_;rw[p];simp[hb,o];exact aR V rfl
theorem xS (n:Q) (i:Nat) :(n >>> (8*i)).setWidth 8=i5 n.toNat i:=by apply eC;unfold i5;rw[eH,lg,e3]
def ni (n k i:Nat) :List B:=BitVec.ofNat 8 (247+k) ::(List.replicate (k - i) 0#8++pF n i)
theorem IC (n k i:Nat) (h:i<=k) :(ni n k i).length=k+1:=by simp[ni,D2];omega
theorem S3 (n k i:Nat) (h:i<k) :(ni n k i).set (k - i) (i5 n i)=ni n k (i+1):=by
 unfold ni;obtain⟨g,j⟩:∃ g,k - i=g+1:=⟨k - i - 1,F⟩
 rw[j,EG,show k - (i+1)=g by omega,List.replicate_succ',fc];congr 1;rw[oF _ _ V];simp[pF]
theorem XR (n:Q) {l:ae} {K:cv} (H:∀ v j l',aJ 1 l' v j ((dq n.toNat).map bL)->l.length<=l'.length->(∀ b,b<l.length->l'[b]?=l[b]?)->l.length<=j->bq v=false->K v l') :
  cG 173 [cX n] l K:=by
 apply cR func173 [];have w:((u n:Int)<=247)<->n.toNat<=247:=by unfold u;omega
 by_cases h:n.toNat<=247
 ·have m:dq n.toNat=[n.setWidth 8]:=by
   unfold dq;rw[aj h];rfl
  simp[w,h];refine H _ l.length _ (k2 (n:=1) (a:=dq n.toNat) (by rw[m];rfl) (by rw[m];simp)) V (fun b o=>aS o) (aF _) rfl
 ·have hk:=yW n.toNat
  obtain⟨k,O⟩:∃ k,iB n.toNat=k:=⟨_,rfl⟩
  have m:dq n.toNat=ni n.toNat k k:=by unfold dq ni;rw[ak h,O];simp
  have p:=RN n.toNat F;rw[O] at p hk;obtain⟨L,I⟩:∃ L,hN n.toNat=L:=⟨_,rfl⟩
  rw[I] at p;have ao:IntKind.i64.wrap ((L:Int)+7)=((L+7:Nat) :Int):=by rw[wrap_i64 F F];omega
  have q1:cn .quo .i64 ((L+7:Nat) :Int) .i64 8=some (.i6 (k:Int)):=by rw[A1 _ 8 F F];rw[show (8:Int).toNat=8 from rfl,p]
  have ap:IntKind.i64.wrap ((k:Int)+1)=((k+1:Nat) :Int):=by rw[wrap_i64 F F];omega
  have aq:IntKind.i64.wrap (247+(k:Int))=((247+k:Nat) :Int):=by rw[wrap_i64 F F];omega
  have am:lG 1 1 [.int .u8 0] l (.i6 ((k+1:Nat) :Int)) (.i6 ((k+1:Nat) :Int))=some (.ad 1 l.length 0 (k+1) (k+1) (k+1),l++[.q (k+1) ((List.replicate (k+1) 0#8).map a7)]):=by
   unfold lG;have al:=dw;simp only[];rw[aj ⟨F,F,F,by rw[al];omega⟩,wM];simp
  simp[w,h];refine av (H6 n) rfl ?_;rw[I];have W:aw (List.replicate (k+1) (a7 0#8)) 0 [a7 (BitVec.ofNat 8 (247+k))]=(ni n.toNat k 0).map a7:=by
   rw[jV,Wq,Wt];simp[ni,pF]
  simp[ao,q1,ap,aq,am,-Int.natCast_add];refine bw k (fun i g P=>g 0=cX n/\g 3=.i6 k/\g 4=.ad 1 l.length 0 (k+1) (k+1) (k+1)/\g 23=.i6 k/\g 24=.i6 i/\P=l++[.q (k+1) ((ni n.toNat k i).map a7)]) ?_ ?_
  ·rintro i g P ag ⟨z,D,G,B,C,rfl⟩;obtain⟨g,rfl⟩:=gk z D G B C;clear z D G B C;by_cases J:i<k
   ·have R:IntKind.i64.wrap ((k:Int) - i)=((k - i:Nat) :Int):=by rw[wrap_i64 F F];omega
    have S:IntKind.i64.wrap (8*(i:Int))=((8*i:Nat) :Int):=by rw[wrap_i64 F F];omega
    have ar:IntKind.i64.wrap ((i:Int)+1)=((i+1:Nat) :Int):=by rw[wrap_i64 F F];omega
    have T:cn .shr .u64 (u n) .i64 ((8*i:Nat) :Int)=some (.int .u64 (u (n >>> (8*i)))):=qb n .i64 (8*i);have U:=xS n i;have t:=lT a7 (ni n.toNat k i) (k - i) (i5 n.toNat i) (by rw[IC _ _ _ ag];omega);rw[S3 _ _ _ J] at t;obtain⟨d,X⟩:∃ d,k - i=d:=⟨_,rfl⟩
    obtain⟨e,Z⟩:∃ e,8*i=e:=⟨_,rfl⟩
    rw[X] at R t;rw[Z] at S T U;have Y:d<=k:=F;simp[J,R,S,ar,T,U,t,Y,-Int.natCast_add];omega
   ·have ai:i=k:=F;subst ai;simp;refine H _ l.length _ (k2 (n:=i+1) (a:=dq n.toNat) (by rw[m,IC _ _ _ (aF _)]) (by rw[m];simp)) V (fun b o=>aS o) (aF _) rfl
  ·simp;exact W
theorem SP {n:Nat} (h:n<18446744073709551616) :n<256 ^ iB n:=by unfold iB;(repeat' split)<;>simp<;>omega
theorem SQ {n k:Nat} (h1:1<=n) (h:k<iB n) :256 ^ k<=n:=by have g:=(yW n).2;have hk:k=0\/k=1\/k=2\/k=3\/k=4\/k=5\/k=6\/k=7:=F;rcases hk with rfl | rfl | rfl | rfl | rfl | rfl | rfl | rfl<;>simp<;>unfold iB at h<;>(repeat' split at h)<;>omega
theorem Wa {n k:Nat} (h1:1<=n) (h:n<18446744073709551616) (hk:k<=iB n) :n >>> (8*k)=0<->k=iB n:=by
 have m:2 ^ (8*k)=256 ^ k:=by rw[Nat.pow_mul]
 rw[hp,m,Nat.div_eq_zero_iff];constructor
 ·rintro (g | g)
  ·exact bK g (by have:0<256 ^ k:=Nat.pow_pos (by decide);omega)
  ·rcases fB k (iB n) with j | j
   ·have:=SQ h1 j;omega
   ·omega
 ·rintro rfl;exact .inr (SP h)
theorem Lh (n:Nat) :∀ k,pF n k=((List.range k).map (i5 n)).reverse
 | 0=>rfl
 | k+1=>by rw[pF,Lh n k,sU,dk,List.reverse_append];rfl
def mj (n k:Nat) :List B:=(List.range k).map (i5 n)
theorem Pp (n k:Nat) :mj n (k+1)=mj n k++[i5 n k]:=by simp[mj,sU]
theorem tv (n k:Nat) :(mj n k).length=k:=by simp[mj]
theorem Gy (n k i:Nat) (h:i<k) :(mj n k)[i]?=some (i5 n i):=by simp[mj,h]
theorem Vg (x:Q) :cn .rem .u64 (u x) .u64 256=some (.int .u64 (u (x % 256#64))):=ru x 256#64 (by decide)
theorem Ul (x:Q) :cn .quo .u64 (u x) .u64 256=some (.int .u64 (u (x / 256#64))):=CZ x 256#64 (by decide)
theorem R1 (n:Q) (i:Nat) :((n >>> (8*i)) % 256#64).setWidth 8=i5 n.toNat i:=by rw[<-xS];apply eC;rw[eH,jR,eH];show _ % 256 % 2 ^ 8=_ % 2 ^ 8;omega
theorem SM (n:Q) (i:Nat) :(n >>> (8*i)) / 256#64=n >>> (8*(i+1)):=by apply eC;rw[q7,lg,lg,hp,hp,show 8*(i+1)=8*i+8 by omega,rg,<-Nat.div_div_eq_div_mul];rfl
theorem b7.get {l l1:ae} {v:U} {a:List B} {t:Bool} (h:b7 1 bL l l1 v a t) {k:cQ} {i:Nat} {x:B} (m:a[i]?=some x) :∃ p cs o,bF (.ad 1) v (.int k (i:Int))=some p/\fM l1 p=some (cs,o)/\cs[o]?=some (a7 x):=by obtain⟨w,h,_⟩:=h;obtain⟨p,cs,o,h1,g,u,j⟩:=h.q.get (k:=k) (i:=i) (e:=bL x) (by rw[bX,m];rfl);refine⟨p,cs,o,h1,g,?_⟩;have:=cm (fun l=>l[0]?) j;simp[gn,bL] at this;exact this
theorem sA (n:Q) {l:ae} {K:cv} (o:∀ v l',b7 1 bL l l' v (dq n.toNat) false->K v l') :cG 173 [cX n] l K:=
 XR n fun v p l' h1 g h j m=>o v l' ⟨p,h1,g,h,.inr j,m⟩
structure M5 (l:ae) (n:Q) (i:Nat) (sgZ:aP) (l1:ae) :Prop where
 kS:sgZ 0=cX (n >>> (8*i))
 tX:∃ v,sgZ 3=v/\b7 1 bL l l1 v (mj n.toNat i) (decide (i=0))
structure M6 (l1:ae) (v:U) (n:Q) (k i:Nat) (sgZ:aP) (g:ae) :Prop where
 i9:sgZ 3=v
 ja:sgZ 5=.i6 ((k:Int) - 1 - i)
 tX:∃ w,sgZ 4=w/\b7 1 bL l1 g w (BitVec.ofNat 8 (247+k) ::((mj n.toNat k).reverse.take i)) false
theorem qL (n:Q) {l:ae} {K:cv} (J:∀ v l',b7 1 bL l l' v (dq n.toNat) false->K v l') :
  cG 188 [cX n] l K:=by
 apply cR func188 [];have D:((u n:Int)<=247)<->n.toNat<=247:=by unfold u;omega
 by_cases h:n.toNat<=247
 ·have R:dq n.toNat=[n.setWidth 8]:=by
   unfold dq;rw[aj h];rfl
  simp[D,h];exact J _ _ ⟨l.length,k2 (n:=1) (a:=dq n.toNat) (by rw[R];rfl) (by rw[R];simp),V,fun b t=>aS t,.inr (aF _),rfl⟩
 ·have aw:=n.isLt;have hk:=yW n.toNat
  simp[D,h];refine bw (iB n.toNat) (M5 l n) ?_ ⟨V,.af,V,b7.nil⟩;rintro i C S U ⟨G,v,j,m⟩;obtain⟨C,rfl⟩:=jP G j;clear G j;have am:=Wa (n:=n.toNat) (k:=i) F F U;have B:((0:Int)<u (n >>> (8*i)))<->¬ i=iB n.toNat:=by
   rw[<-am];unfold u;rw[lg];generalize n.toNat >>> (8*i)=q;omega
  by_cases z:i=iB n.toNat
  ·obtain⟨k,O⟩:∃ k,iB n.toNat=k:=⟨_,rfl⟩
   rw[O] at z B hk;subst z;have Z:dq n.toNat=BitVec.ofNat 8 (247+i) ::(mj n.toNat i).reverse:=by
    unfold dq;rw[ak h,O,Lh];rfl
   have P:=m.len;rw[tv] at P;have ar:IntKind.i64.wrap (247+(i:Int))=((247+i:Nat) :Int):=by rw[wrap_i64 F F];omega
   have au:IntKind.i64.wrap ((i:Int) - 1)=(i:Int) - 1:=wrap_i64 F F;have f1:(dq n.toNat)=BitVec.ofNat 8 (247+i) ::(mj n.toNat i).reverse.take i:=by rw[Z,aI (by rw[List.length_reverse,tv];omega)]
   simp[B,P,ar,au,-Int.natCast_add];refine bw i (M6 S v n i) ?_ ⟨V,V,_,V,⟨S.length,k2 (n:=1) (a:=[BitVec.ofNat 8 (247+i)]) rfl V,V,fun b t=>aS t,.inr (aF _),rfl⟩⟩;rintro g C aA ay ⟨j,I,w,H,po⟩;have ai:=m.frame po.le po.same;obtain⟨C,rfl⟩:=gj j H I;clear j H I;by_cases X:g=i
   ·have Y:¬ (g:Int)<=(i:Int) - 1:=F;rw[X,<-f1] at po;simp[Y];exact J _ _ (po.base m.le m.same)
   ·have T:(g:Int)<=(i:Int) - 1:=F;have W:((i:Int) - 1 - g)=((i - 1 - g:Nat) :Int):=F;have av:IntKind.i64.wrap ((i:Int) - 1 - g - 1)=(i:Int) - 1 - (g+1:Nat):=by rw[wrap_i64 F F];omega
    obtain⟨aC,cs,aB,q1,ao,ap⟩:=b7.get ai (k:=.i64) (Gy n.toNat i (i - 1 - g) F);rw[<-W] at q1;have al:(mj n.toNat i).reverse[g]?=some (i5 n.toNat (i - 1 - g)):=by
     rw[List.getElem?_reverse (by rw[tv];omega),tv,Gy _ _ _ F]
    have az:=tv n.toNat i;obtain⟨w',l',p,o⟩:=b7.push po (i5 n.toNat (i - 1 - g)) (by simp;omega);simp[T,q1,ao,ap,p];refine bY.bo ?_;simp[av];exact⟨F,V,V,w',V,by rw[eD,al];simpa using o⟩
  ·have ax:=tv n.toNat i;obtain⟨aq,l',p,o⟩:=b7.push m (i5 n.toNat i) F;rw[<-Pp] at o;have ag:cn .quo .u64 (u (n >>> (8*i))) .u64 256=some (cX (n >>> (8*(i+1)))):=by rw[Ul,SM]
   simp[B,z,Vg,R1,p];refine bY.bo ?_;simp[ag];exact⟨F,V,aq,V,by simpa using o⟩
end Op
namespace Op
open b8
def jQ (n:Int) :Q:=if 0<=n then BitVec.ofNat 64 (2*n.toNat) else BitVec.ofNat 64 (2*(-(n+1)).toNat+1)
theorem XU (n:Int) (h1:-9223372036854775808<=n) (B:n<9223372036854775808) {l:ae} {K:cv} (q:∀ v l',b7 1 bL l l' v (dq (jQ n).toNat) false->K v l') :
  cG 221 [.i6 n] l K:=by
 apply cR func221 [];have o:cn .shl .u64 (u (BitVec.ofInt 64 n)) .u64 1=some (.int .u64 (u (BitVec.ofInt 64 n <<< 1))):=FK _ .u64 1;have p:cn .shr .i64 n .u64 63=some (.i6 (if 0<=n then 0 else -1)):=by
  show (if (63:Int)<0 then none else some (U.i6 (n.fdiv (2 ^ min (63:Int).toNat 64))))=_;rw[ak F];congr 2;have:(2:Int) ^ min (63:Int).toNat 64=9223372036854775808:=by decide
  rw[this,Ad _ F];split<;>omega
 have z:BitVec.ofInt 64 n <<< 1 ^^^ BitVec.ofInt 64 (if 0<=n then 0 else -1)=jQ n:=by
  unfold jQ;by_cases h:0<=n
  ·rw[aj h,aj h];obtain⟨m,rfl⟩:=l4 h;rw[nz,fb];have:BitVec.ofInt 64 (0:Int)=0#64:=rfl;rw[this,BitVec.xor_zero];apply eC;rw[sM,e3,e3,nI];omega
  ·rw[ak h,ak h];obtain⟨m,t⟩:=l4 (show 0<=-(n+1) by omega);have w:n=-((m:Int)+1):=F;have g:BitVec.ofInt 64 (-1:Int)=BitVec.allOnes 64:=by decide
   have j:BitVec.ofInt 64 n = ~~~ BitVec.ofNat 64 m:=by
    apply eC;rw[w,Ab,Ep,e3];omega
   have C:m<9223372036854775808:=F;rw[g,j,BitVec.xor_allOnes,t,fb];apply eC;rw[Ep,sM,Ep,e3,e3,nI];omega
 simp[o,p,z];refine sA _ fun v l' h=>?_
 simp;exact q v l' h
theorem UO (n:Int) (h1:-9223372036854775808<=n) (t:n<9223372036854775808) {l:ae} {K:cv} (j:∀ v l',b7 1 bL l l' v (dq (jQ n).toNat) false->K v l') :
  cG 234 [.i6 n] l K:=by
 apply cR func234 [];by_cases h:0<=n
 ·obtain⟨m,rfl⟩:=l4 h;have g:2#64*BitVec.ofNat 64 m=jQ m:=by
   unfold jQ;rw[aj h,fb];apply eC;simp only[sL,e3];omega
  simp[g];refine qL _ fun v l' h=>?_
  simp;exact j v l' h
 ·have q:IntKind.i64.wrap (n+1)=n+1:=wrap_i64 F F;have o:IntKind.i64.wrap (0 - (n+1))=0 - (n+1):=wrap_i64 F F;have o:IntKind.i64.wrap (-(n+1))=-(n+1):=wrap_i64 F F;have g:2#64*BitVec.ofInt 64 (-(n+1))+1#64=jQ n:=by
   obtain⟨m,p⟩:=l4 (show 0<=-(n+1) by omega);unfold jQ;rw[ak h,p,fb,nz];apply eC;simp only[sL,e3,xh];omega
  simp[h,q,o,g];refine qL _ fun v l' h=>?_
  simp;exact j v l' h
def g4 (s:List B) :List B:=dq s.length++s
theorem gu (n:Nat) :(dq n).length<=9:=by
 unfold dq;have:=(yW n).2;split
 ·simp
 ·simp[D2];omega
theorem Qd (s:List B) :(s.map bL).flatten=s.map a7:=vG s
theorem Bf (l:ae) (s:dI) :cD l 1 (b9 s)=some ((s.l.map bL).flatten,s.l.length):=qj l 1 bL s
theorem LP (s:dI) (B:s.l.length<=10000) {x:U} {l:ae} (C:cD l 1 x=some ((s.l.map bL).flatten,s.l.length)) (o:bt (.ad 1) x=some (.i6 s.l.length)) (t:∀ l',l.length<=l'.length->(∀ b,b<l.length->l'[b]?=l[b]?)->cD l' 1 x=some ((s.l.map bL).flatten,s.l.length))
  {K:cv} (m:∀ v l',b7 1 bL l l' v (g4 s.l) false->K (.aZ [v,.i6 0]) l') :cG 174 [x] l K:=by
 apply cR func174 [];have h1:¬ ((10000:Int)<s.l.length):=F;have q:=dw;simp[o,h1];refine sA _ fun v l' h=>?_
 have p:(BitVec.ofNat 64 s.l.length).toNat=s.l.length:=by rw[e3];exact dH F
 rw[p] at h;have z:=gu s.l.length;obtain⟨w,u,g,j,_⟩:=h.app (by_:=1) (x:=x) (xs:=s.l) (t l' h.le h.same) (by simp[bL]) F F (by rw[q];omega);simp[g];refine bY.bo ?_;simp;exact m w u (by simpa [g4] using j)
theorem JN (s:dI) (B:s.l.length<=10000) {x:U} {l:ae} (C:cD l 1 x=some ((s.l.map bL).flatten,s.l.length)) (o:bt (.ad 1) x=some (.i6 s.l.length)) (t:∀ l',l.length<=l'.length->(∀ b,b<l.length->l'[b]?=l[b]?)->cD l' 1 x=some ((s.l.map bL).flatten,s.l.length))
  {K:cv} (m:∀ v l',b7 1 bL l l' v (g4 s.l) false->K v l') :cG 198 [x] l K:=by
 apply cR func198 [];have q:=dw;simp[o];refine qL _ fun v l' h=>?_
 have p:(BitVec.ofNat 64 s.l.length).toNat=s.l.length:=by rw[e3];exact dH F
 rw[p] at h;have z:=gu s.l.length;obtain⟨w,u,g,j,_⟩:=h.app (by_:=1) (x:=x) (xs:=s.l) (t l' h.le h.same) (by simp[bL]) F F (by rw[q];omega);simp[g];refine bY.bo ?_;simp;exact m w u (by simpa [g4] using j)
def ao (i:List B) :ag:=i.map a7
abbrev bP:=bH (List B)
def ai (s:bP) :U:=b0 32 ao s
def cU (s:bP) :Prop:=∀ i∈s.l,i.length=32
theorem cP (i:List B) :ar (ao i)=true:=i7 a7 (fun _=>rfl) _
theorem bV (s:bP) :(ai s).ax=true:=m0 cP s
theorem F8:∀ a b:List B,a.length=b.length->lv (a.map fun x=>UInt8.ofNat x.toNat) (b.map fun x=>UInt8.ofNat x.toNat)=bD a b
 | [],[],_=>rfl
 | [],_::_,h=>by simp at h
 | _::_,[],h=>by simp at h
 | x::a,y::b,h=>by
  have o:=F8 a b (by simpa using h);have p:=x.isLt;have q:=y.isLt;rw[F7];simp only[dh,lv,o];have j:(UInt8.ofNat x.toNat=UInt8.ofNat y.toNat)<->x.toNat=y.toNat:=by
   constructor
   ·intro h;have:=cm UInt8.toNat h;simp only[ET] at this;omega
   ·intro h;rw[h]
  have m:(UInt8.ofNat x.toNat<UInt8.ofNat y.toNat)<->x.toNat<y.toNat:=by
   rw[UInt8.lt_iff_toNat_lt];simp only[ET];rw[dH F,dH F]
  by_cases h1:x.toNat=y.toNat
  ·rw[aj (j.2 h1),ak F,ak F]
  ·rw[ak (fun h=>h1 (j.1 h))];by_cases g:x.toNat<y.toNat
   ·rw[aj (m.2 g),aj g]
   ·rw[ak (fun h=>g (m.1 h)),ak g,aj F]
@[simp ↓] theorem aaX {P:bg} {g:aT->U} {l:ae} (f:cb) (h x y:aT) :bG P g l (.bD f h x y)=(match yt f (g h) with | true=>dg l (cmpL l (g x) (g y)) | false=>none):=id rfl
@[simp ↓] theorem aah (f:cb) (g x y:aT) (v:U) (l:ae) (K:cv) :eg (.bD f g x y) v l K=K v l:=id rfl
@[simp] theorem ZF (f:cb) :yt f (.fn f [] [])=true:=Ar f
theorem FN:∀ a:List B,jv (a.map a7)=some (a.map fun x=>UInt8.ofNat x.toNat)
 | []=>rfl
 | x::a=>by
  simp only[dh,jv,FN a,cu];simp[u]
theorem FO (l:ae) (s:dI) :oR l (b9 s)=some (s.l.map fun x=>UInt8.ofNat x.toNat):=by
 have h:=Bf l s;rw[Qd] at h;cases s with
 | none=>simp[oR,b0,cD,jv]
 | some a=>
  unfold oR;simp only[b0];have g:cD l 1 (U.bj 1 (a.map bL))=some (a.map a7,a.length):=h;rw[g];exact FN a
theorem Fw (a b:dI) (h:a.l.length=b.l.length) :aV 202 [b9 a,b9 b] (.i6 (bD a.l b.l)):=by
 refine wI checked.mixed ed ?_;apply QG func202 [];have g:cmpL [] (b9 a) (b9 b)=some (.i6 (bD a.l b.l)):=by
  unfold cmpL;rw[FO,FO];simp only[F8 _ _ h]
 simp[g];exact aG
theorem uv {n b:Nat} (g:0<n) :dB (.arr n 1) (.ptr b 0 n) none none none=some (.ad 1 b 0 n n n):=by have:eY n n none none none=some (0,n,n):=rfl;simp only[dB,this];rw[aj F,ak F];simp
theorem qg (a b:List B) (g:a.length=32) (h:b.length=32) :aV 162 [et a,et b] (.i6 (bD a b)):=by
 apply a8 func162 [];have o:=uv (n:=32) (b:=1) F;have p:=uv (n:=32) (b:=0) F;simp[et,g,h,o,p];have m:=Fw (some a) (some b) (by simp[g,h]);refine g0 m ?_ rfl ?_
 ·exact .cons ((k2 (j:=0) g rfl).lP (fun _=>rfl) (some a) rfl rfl) (.cons ((k2 (j:=1) h rfl).lP (fun _=>rfl) (some b) rfl rfl) .nil)
 ·simp;exact aG
theorem Dd (a b:List B) (W:a.length=32) (X:b.length=32) :aV 189 [et a,et b] (.i6 (bD a b)):=by
 apply a8 func189 [];obtain⟨A,G⟩:=aq (a.map a7);obtain⟨w,I⟩:=aq (b.map a7);have t:A.length=32:=by rw[G,cC,W]
 have v:w.length=32:=by rw[I,cC,X]
 unfold et;rw[<-G,<-I];simp[t,v];refine bw 32 (fun k m l=>m 2=.ptr 0 0 32/\m 3=.ptr 1 0 32/\m 5=.i6 k/\l=[.q 32 A,.q 32 w]/\∀ j,j<k->a[j]?=b[j]?) ?_ V;rintro k m l hk ⟨Q,R,S,rfl,heq⟩;obtain⟨m,rfl⟩:=gj Q R S;clear Q R S;have g:=OP k heq F F;by_cases h:(k:Int)<32
 ·have K:k<32:=F;have ai:IntKind.i64.wrap ((k:Int)+1)=(k+1:Nat):=wrap_i64 F F;obtain⟨x,O,_⟩:=aQ (l:=a) (k:=k) F;obtain⟨y,P,_⟩:=aQ (l:=b) (k:=k) F;have T:A[k]?=some (a7 x):=by rw[G,bX,O];rfl
  have U:w[k]?=some (a7 y):=by rw[I,bX,P];rfl
  obtain⟨_,H⟩:=aH.1 T;obtain⟨_,J⟩:=aH.1 U;have Y:a.drop k=x::a.drop (k+1):=by
   obtain⟨h1,D⟩:=aH.1 O;rw[l5 h1,D]
  have Z:b.drop k=y::b.drop (k+1):=by
   obtain⟨h1,D⟩:=aH.1 P;rw[l5 h1,D]
  rw[Y,Z,F7] at g;have am:((u x:Int)<u y)<->x.toNat<y.toNat:=by unfold u;omega
  have ao:((u y:Int)<u x)<->y.toNat<x.toNat:=by unfold u;omega
  by_cases o:x.toNat<y.toNat
  ·rw[aj o] at g;have p:x<y:=o;simp[h,K,t,v,H,J,p];exact aR (by rw[<-g]) rfl
  ·have p:¬ x<y:=o;rw[ak o] at g;by_cases z:y.toNat<x.toNat
   ·rw[aj z] at g;have C:y<x:=z;simp[h,K,t,v,H,J,p,C];exact aR (by rw[<-g]) rfl
   ·have C:¬ y<x:=z;simp[h,K,t,v,H,J,p,C,ai];intro j al;by_cases ae:j=k
    ·subst ae;rw[O,P];have:x=y:=eC F;rw[this]
    ·exact heq j F
 ·have ag:k=32:=F;subst ag;have:bD a b=0:=by
   rw[<-g,pS F,pS F];rfl
  simp;exact aR (by rw[this]) rfl
abbrev bn (l:aN) (k:Nat) :List B:=l.getD k []
def bQ (l:aN) :Bool:=decide (∀ k,k<l.length->1<=k->bD (bn l (k - 1)) (bn l k)<0)
def so (l:aN) :Bool:=decide (∀ k,k<l.length->1<=k->¬ bD (bn l k) (bn l (k - 1))<0)
theorem dx {l:aN} {k:Nat} {x:List B} (h:l[k]?=some x) :bn l k=x:=by unfold bn;rw[gm,h];rfl
theorem um {l:aN} (h:∀ k,k<l.length->1<=k->bD (bn l (k - 1)) (bn l k)<0) :bQ l=true:=bW h
theorem Kc {l:aN} {k:Nat} (hk:k<l.length) (h1:1<=k) (h:¬ bD (bn l (k - 1)) (bn l k)<0) :bQ l=false:=cp fun g=>h (g k hk h1)
theorem KS {l:aN} (h:∀ k,k<l.length->1<=k->¬ bD (bn l k) (bn l (k - 1))<0) :so l=true:=bW h
theorem WA {l:aN} {k:Nat} (hk:k<l.length) (h1:1<=k) (h:bD (bn l k) (bn l (k - 1))<0) :so l=false:=cp fun g=>g k hk h1 h
theorem br {x:List B} (h:x.length=32) :(ao x).length=32:=by simp[ao,h]
theorem C7 (a:bP) (o:cU a) (S:a.l.length<=1000000) :aV 124 [ai a] (.bool (bQ a.l)):=by
 apply a8 func124 [];simp[ai];refine bw (a.l.length - 1) (fun k t l=>t 0=b0 32 ao a/\t 3=.i6 ((k+1:Nat) :Int)/\∀ g,g<k+1->g<a.l.length->1<=g->bD (bn a.l (g - 1)) (bn a.l g)<0) ?_ ⟨V,V,fun g h1 _ m=>F⟩;rintro k t l hk ⟨u,v,q⟩;obtain⟨s,rfl⟩:=jP u v;clear u v;obtain⟨j,R⟩:=aq (k+1);rw[<-R] at q ⊢;simp;refine gq (fun h=>?_) (fun h=>?_)
 ·simp only[bI] at h;have z:j<a.l.length:=F;obtain⟨x,B,C⟩:=aQ (l:=a.l) (k:=k) F;obtain⟨y,D,G⟩:=aQ z;have J:IntKind.i64.wrap ((j:Int) - 1)=(k:Int):=by rw[IntKind.wrap_i64];omega
  have K:=cl (k:=j) F;have H:=dx B;have I:=dx D;simp[J,B,D,br (o x C),br (o y G),aI];refine av (Dd x y (o x C) (o y G)) (by simp[ar,cP,U.ax]) ?_;by_cases w:bD x y<0
  ·have p:¬ (0<=bD x y):=F;simp[p,K];refine⟨F,fun g h1 m O=>?_⟩;have Q:bD (bn a.l (g - 1)) (bn a.l g)<0:=by
    by_cases P:g=j
    ·rw[P,show j - 1=k by omega,H,I];exact w
    ·exact q g F m O
   simpa [bn] using Q
  ·have p:0<=bD x y:=F;simp[p];refine aR (cm U.bool (Kc (k:=j) z F ?_).symm) rfl;rw[show j - 1=k by omega,H,I];exact w
 ·simp[h];exact aR (cm U.bool (um fun g h1 m=>q g (by simp at h;omega) h1 m).symm) rfl
theorem BB:fI prog 162=true:=bd
theorem Rq (a:bP) (m:cU a) (R:a.l.length<=1000000) :aV 168 [ai a,.fn 162 [] []] (.bool (so a.l)):=by
 apply a8 func168 [];have J:IntKind.i64.wrap ((a.l.length:Int) - 1)=(a.l.length:Int) - 1:=by rw[IntKind.wrap_i64];omega
 simp[ai,J];refine bw (a.l.length - 1) (fun k p l=>p 0=b0 32 ao a/\p 1=.fn 162 [] []/\p 5=.i6 ((a.l.length:Int) - 1 - k)/\∀ g,g<a.l.length->a.l.length - 1 - k<g->¬ bD (bn a.l g) (bn a.l (g - 1))<0) ?_ ⟨V,V,V,fun g h1 z=>F⟩;rintro k p l hk ⟨u,v,w,B⟩;obtain⟨s,rfl⟩:=gj u v w;clear u v w;simp;refine gq (fun h=>?_) (fun h=>?_)
 ·simp only[bI] at h;obtain⟨j,S⟩:∃ j,j+k+2=a.l.length:=⟨a.l.length - 2 - k,F⟩
  have K:((a.l.length:Int) - 1 - k)=((j+1:Nat) :Int):=F;rw[K];obtain⟨x,q,C⟩:=aQ (l:=a.l) (k:=j+1) F;obtain⟨y,D,G⟩:=aQ (l:=a.l) (k:=j) F;obtain⟨n,Q⟩:=aq (j+1);rw[<-Q] at q ⊢;have t:IntKind.i64.wrap ((n:Int) - 1)=(j:Int):=by rw[IntKind.wrap_i64];omega
  have H:=dx q;have I:=dx D;simp[t,q,D,br (m x C),br (m y G),aI];refine⟨BB,av (qg x y (m x C) (m y G)) (by simp[ar,cP,U.ax]) ?_⟩;by_cases o:bD x y<0
  ·simp[o];refine aR (cm U.bool (WA (k:=n) F F ?_).symm) rfl;rw[show n - 1=j by omega,H,I];exact o
  ·simp[o,t];refine⟨F,F,fun g h1 z=>?_⟩;have P:¬ bD (bn a.l g) (bn a.l (g - 1))<0:=by
    by_cases O:g=n
    ·rw[O,show n - 1=j by omega,H,I];exact o
    ·exact B g h1 F
   simpa [bn] using P
 ·simp[h];exact aR (cm U.bool (KS fun g h1 z=>B g h1 (by simp at h;omega)).symm) rfl
def tw (l:aN) (k:Nat) :Bool:=decide (k+1<l.length)&&decide (0<=bD (bn l k) (bn l (k+1)))
theorem Kb {l:aN}:bQ l=true<->∀ k,k<l.length->tw l k=false:=by
 unfold bQ tw;rw[bI];constructor
 ·intro h k hk;by_cases h1:k+1<l.length
  ·have:=h (k+1) h1 F;rw[sX] at this;rw[cp (p:=0<=_) F,uN]
  ·simp[h1]
 ·intro h k hk h1;have:=h (k - 1) F;rw[show k - 1+1=k by omega] at this;rw[bW hk,nA,decide_eq_false_iff_not] at this;omega
theorem Vp (a:bP) (m:cU a) (J:a.l.length<=1000000) (k:Nat) (hk:k<a.l.length) (x:List B) (O:x.length=32) (r:ae) {K:cv}
  (g:∀ I,K (.bool (tw a.l k)) (.q 1 [ai a] ::.q 1 [.i6 ((k+1:Nat) :Int)] ::I)) :
  cG 262 [et x,.ptr 1 0 1,.ptr 0 0 1] (.q 1 [ai a] ::.q 1 [.i6 (k:Int)] ::r) K:=by
 apply cR func262 [];have o:=cl (k:=k) F;obtain⟨j,p⟩:=aq (k+1);rw[<-p] at o g;have C:IntKind.i64.wrap ((j:Int) - 1)=(k:Int):=by rw[IntKind.wrap_i64];omega
 unfold tw at g;rw[<-p] at g;obtain⟨y,t,u⟩:=aQ hk;by_cases h:j<a.l.length
 ·obtain⟨z,v,w⟩:=aQ h;have G:=dx t;have H:=dx v;rw[G,H] at g;have h' : (j:Int)<(a.l.length:Int):=F;have D:a.l[j]=z:=(aH.1 v).2;simp[et,ai,o,C,h,h',t,D,br (m y u),br (m z w),aI];refine av (qg y z (m y u) (m z w)) (by simp[ar,cP,U.ax]) ?_;have:=g (r++[am.q x.length (List.map a7 x)]);simpa [h,ai] using this
 ·have h' : ¬ (j:Int)<(a.l.length:Int):=F;simp[et,ai,o,h'];have:=g (r++[am.q x.length (List.map a7 x)]);simpa [h,ai] using this
theorem Qj:fI prog 262=true:=bd
theorem Vr (a:bP) (m:cU a) (I:a.l.length<=1000000) {K:cv} (v:∀ n C,(n<0<->bQ a.l=true)->K (.i6 n) C) :
  cG 139 [ai a,.fn 262 [] [.ptr 1 0 1,.ptr 0 0 1]] [.q 1 [ai a],.q 1 [.i6 0]] K:=by
 apply cR func139 [];simp[ai];refine bw a.l.length (fun k j l=>j 0=b0 32 ao a/\j 1=.fn 262 [] [.ptr 1 0 1,.ptr 0 0 1]/\j 7=.i6 a.l.length/\j 8=.i6 k/\(∃ r,l=.q 1 [ai a] ::.q 1 [.i6 (k:Int)] ::r)/\∀ g,g<k->tw a.l g=false) ?_ ⟨V,V,V,V,⟨[],by simp[ai]⟩,fun g h=>F⟩;rintro k j l hk ⟨o,p,t,u,⟨r,rfl⟩,z⟩;obtain⟨s,rfl⟩:=e2 o p t u;clear o p t u;simp;refine gq (fun h=>?_) (fun h=>?_)
 ·simp only[bI] at h;obtain⟨x,O,B⟩:=aQ (l:=a.l) (k:=k) F;have D:=cl (k:=k) F;simp[O,br (m x B),aI];refine⟨Qj,Vp a m I k F x (m x B) r fun C=>?_⟩;cases w:tw a.l k with
  | true=>
   simp;refine v _ _ ⟨fun P=>F,fun J=>?_⟩;have:=Kb.1 J k F;rw[w] at this;cases this
  | false=>
   simp[D];refine⟨F,fun g G=>?_⟩;by_cases H:g=k
   ·subst H;exact w
   ·exact z g F
 ·simp[h];refine v _ _ ⟨fun _=>Kb.2 fun g G=>z g (by simp at h;omega),fun _=>F⟩
theorem Vq (a:bP) (p:cU a) (t:a.l.length<=1000000) {K:cv} (o:∀ g,K (.bool (!bQ a.l)) g) :
  cG 88 [ai a,.fn 262 [] [.ptr 1 0 1,.ptr 0 0 1]] [.q 1 [ai a],.q 1 [.i6 0]] K:=by
 apply cR func88 [];simp;refine Vr a p t fun n g j=>?_
 have e:decide (0<=n)=!bQ a.l:=by
  cases m:bQ a.l with
  | true=>have:=j.2 m;simp;omega
  | false=>
   have:¬ n<0:=fun h=>by have:=j.1 h;rw[m] at this;cases this
   simp;omega
 simp[e];exact o g
theorem Vs (a:bP) (g:cU a) (j:a.l.length<=1000000) :aV 218 [ai a] (.bool (bQ a.l)):=by
 apply a8 func218 [];have h:(ai a).cells=some [ai a]:=by cases a<;>rfl
 simp[h];refine Vq a g j fun m=>?_
 simp;exact aG
def nf (l:aN) :List B:=dq l.length++l.flatten
theorem FX:∀ (x:List B),ls 1 x.length (x.map a7)=x.map bL
 | []=>rfl
 | b::r=>by
  show ((a7 b::r.map a7).take 1) ::ls 1 r.length ((a7 b::r.map a7).drop 1)=_;simp[FX r,bL]
theorem OH {x:List B} (h:x.length=32) :ls 1 32 (ao x)=x.map bL:=by have:=FX x;rw[h] at this;exact this
theorem BS {l:aN} (h:∀ x∈l,x.length=32) :l.flatten.length=l.length*32:=hx h
theorem Li {l:aN} {k:Nat} {x:List B} (h:l[k]?=some x) :(l.take (k+1)).flatten=(l.take k).flatten++x:=by rw[eD,h];simp
theorem Wg {x:List B} (h:x.length=32) :dB (.arr 32 1) (.bR (ao x) 0) none none none=some (.bj 1 (x.map bL)):=by have:=OH h;have g:eY 32 32 none none none=some (0,32,32):=rfl;unfold dB;simp only[g];simp[br h,this]
structure MU (l:ae) (s:bP) (k:Nat) (sgZ:aP) (l1:ae) :Prop where
 kS:sgZ 0=b0 32 ao s
 kb:sgZ 4=.i6 k
 tX:∃ v,sgZ 3=v/\b7 1 bL l l1 v (dq s.l.length++(s.l.take k).flatten) false
theorem Ux (s:bP) (g:cU s) (Q:s.l.length<=1000) {l:ae} {K:cv} (B:∀ v l',b7 1 bL l l' v (nf s.l) false->K v l') :
  cG 197 [ai s] l K:=by
 apply cR func197 [];have D:=dw;have C:(BitVec.ofNat 64 s.l.length).toNat=s.l.length:=by rw[e3];exact dH F
 have P:=gu s.l.length;simp[ai];refine qL _ fun v l' h=>?_
 rw[C] at h;simp;refine bw s.l.length (MU l s) ?_ ⟨by simp[ai],V,v,V,by simpa using h⟩;rintro k I R hk ⟨m,p,v,o,j⟩;obtain⟨I,rfl⟩:=gj m o p;clear m o p;simp;refine gq (fun h=>?_) (fun h=>?_)
 ·simp only[bI] at h;obtain⟨x,q,t⟩:=aQ (l:=s.l) (k:=k) F;have z:=cl (k:=k) F;have O:((s.l.take k).flatten).length<=32000:=by
   rw[BS (fun y H=>g y (gE H)),cI];omega
  obtain⟨J,S,u,w,_⟩:=j.app (by_:=1) (x:=.bj 1 (x.map bL)) (xs:=x) (by simp[cD]) (by simp[bL]) F F (by rw[D,g x t];simp only[cg];omega);simp[q,Wg (g x t),u];refine bY.bo ?_;simp[z];exact⟨F,V,V,J,V,by rw[Li q,<-fc];exact w⟩
 ·simp[h];have G:s.l.take k=s.l:=aI (by simp at h;omega);rw[G] at j;exact B _ _ j
structure MV (l:ae) (s:bP) (k:Nat) (sgZ:aP) (l1:ae) :Prop where
 Zn:sgZ 17=b0 32 ao s
 Zo:sgZ 18=.i6 s.l.length
 Zp:sgZ 19=.i6 k
 tX:∃ v,sgZ 4=v/\b7 1 bL l l1 v (dq s.l.length++(s.l.take k).flatten) false
theorem XO (s:bP) (g:cU s) (X:s.l.length<=60) (I:bQ s.l=true) {l:ae} {K:cv} (G:∀ v l',b7 1 bL l l' v (nf s.l) false->K (.aZ [v,.i6 0]) l') :
  cG 171 [ai s] l K:=by
 apply cR func171 [];have J:db=140737488355328:=rfl;have H:(BitVec.ofNat 64 s.l.length).toNat=s.l.length:=by rw[e3];exact dH F
 have W:=gu s.l.length;have D:¬ (60:Int)<(s.l.length:Int):=F;simp[ai,D];refine av (Vs s g F) (by have:=bV s;simp[ar];exact this) ?_;simp[I,ai];refine sA _ fun v l' h=>?_
 rw[H] at h;simp[ai];refine bw s.l.length (MV l s) ?_ ⟨V,V,V,v,V,by simpa using h⟩;rintro k S R hk ⟨o,p,t,v,u,m⟩;obtain⟨S,rfl⟩:=e2 o p t u;clear o p t u;simp;refine gq (fun h=>?_) (fun h=>?_)
 ·simp only[bI] at h;obtain⟨x,w,j⟩:=aQ (l:=s.l) (k:=k) F;have C:=cl (k:=k) F;have U:((s.l.take k).flatten).length<=32000:=by
   rw[BS (fun y Q=>g y (gE Q)),cI];omega
  obtain⟨T,Y,z,B,_⟩:=(m.more [.q 32 (ao x)]).app (by_:=1) (x:=.ad 1 R.length 0 32 32 32) (xs:=x) (by simp[cD,g x j,aI,ao,vG]) (by simp[bL]) F F (by rw[J,g x j];simp only[cg];omega);have O:aw (bO 32 (.int .u8 0)) 0 (ao x)=ao x:=cH (by rw[br (g x j)];rfl);simp[w,br (g x j),aI,uv,O,z];refine bY.bo ?_;simp[C];exact⟨F,V,V,V,T,V,by rw[Li w,<-fc];exact B⟩
 ·simp[h];have P:s.l.take k=s.l:=aI (by simp at h;omega);rw[P] at m;exact G _ _ m
def dT (s:List UInt8) :List B:=s.map fun b=>b.toBitVec
theorem zJ (s:List UInt8) :(s.map fun b=>[hb b])=(dT s).map bL:=by unfold dT;rw[oE];rfl
theorem mL (s:List UInt8) :(dT s).length=s.length:=by simp[dT]
def lq (b:Q) (k:Nat) :List B:=(List.range k).map fun i=>i5 b.toNat (7 - i)
def g5 (v:gL) :List B:=v.kind::(if v.kind=1#8 then dq (jQ v.num).toNat else if v.kind=2#8 then lq v.bits 8 else g4 (dT v.text))
def y1 (v:gL) :Prop:=-9223372036854775808<=v.num/\v.num<9223372036854775808/\v.text.length<=10000
theorem FA (b:Q) (k:Nat) :lq b (k+1)=lq b k++[i5 b.toNat (7 - k)]:=by unfold lq;rw[sU,dk];rfl
theorem IJ (l:ae) (c:am) (x:B) :b7 1 bL l (l++[c,.q 1 [a7 x]]) (.ad 1 (l.length+1) 0 1 1 1) [x] false:=by exact⟨l.length+1,k2 (n:=1) (a:=[x]) rfl V,V,fun b g=>aS g,.inr F,rfl⟩
theorem po (l:ae) (c:am) (x:B) :b7 1 bL (l++[c]) (l++[c,.q 1 [a7 x]]) (.ad 1 (l.length+1) 0 1 1 1) [x] false:=by have e:l++[c,.q 1 [a7 x]]=(l++[c])++[.q 1 [a7 x]]:=V;exact⟨l.length+1,k2 (n:=1) (a:=[x]) rfl V,V,fun b g=>by rw[e];exact aS g,.inr V,rfl⟩
structure Mo (l:ae) (v:gL) (p:Nat) (k:Nat) (sgZ:aP) (l1:ae) :Prop where
 e7:sgZ 1=.ptr p 0 4
 kb:sgZ 4=.i6 (7 - (k:Int))
 tX:∃ w,sgZ 3=w/\b7 1 bL (l++[.q 4 (dz v)]) l1 w (v.kind::lq v.bits k) false
theorem UU (v:gL) (al:y1 v) {l:ae} {K:cv} (G:∀ w l',b7 1 bL l l' w (g5 v) false->K w l') :
  cG 199 [.ah (dz v)] l K:=by
 apply cR func199 [];have Q:=dw;have D:=IJ l (.q 4 (dz v)) v.kind;obtain⟨Z,ag,ai⟩:=al;have W:rB (.str v.text)=some (.bj 1 ((dT v.text).map bL)):=by
  show some (U.bj 1 (v.text.map fun b=>[hb b]))=_;rw[zJ]
 by_cases o:v.kind=1#8
 ·have p:g5 v=[v.kind]++dq (jQ v.num).toNat:=by unfold g5;rw[aj o];rfl
  have z:(u v.kind:Int)=1:=(gQ v.kind).2 o;simp only[a7,z] at D;have aw:=gu (jQ v.num).toNat
  simp[dz,z];refine UO v.num Z ag fun w l' h=>?_
  obtain⟨aq,ao,j,m,_⟩:=(D.frame h.le h.same).app (by_:=1) (x:=w) (xs:=dq (jQ v.num).toNat) h.contents (by simp[bL]) F F (by rw[Q];simp only[du,hI];omega);simp[j];refine bY.bo ?_;simp;exact G _ _ (by rw[p];exact m)
 ·have z:¬ (u v.kind:Int)=1:=fun h=>o ((gQ v.kind).1 h)
  by_cases t:v.kind=2#8
  ·have B:(u v.kind:Int)=2:=(iW v.kind).2 t;have p:g5 v=v.kind::lq v.bits 8:=by unfold g5;rw[ak o,aj t]
   have O:=po l (.q 4 (dz v)) v.kind;simp only[a7,B] at O;simp[dz,B];refine bw 8 (Mo l v l.length) ?_ ⟨V,V,_,V,O⟩;rintro k ap am hk ⟨H,J,w,I,C⟩;have P:am[l.length]?=some (.q 4 (dz v)):=by rw[C.same l.length V];simp
   obtain⟨ap,rfl⟩:=gj H I J;clear H I J;by_cases X:k=8
   ·subst X;rw[<-p] at C;simp;exact G _ _ (C.base V fun b T=>aS T)
   ·obtain⟨g,av⟩:∃ g,g+k=7:=⟨7 - k,F⟩
    have em:7 - (k:Int)=(g:Int):=F;have R:IntKind.i64.wrap ((g:Int) - 1)=(g:Int) - 1:=by rw[IntKind.wrap_i64];omega
    have S:IntKind.i64.wrap (8*(g:Int))=((8*g:Nat) :Int):=by rw[IntKind.wrap_i64];omega
    have ar:cn .shr .u64 (u v.bits) .i64 ((8*g:Nat) :Int)=some (.int .u64 (u (v.bits >>> (8*g)))):=qb v.bits .i64 (8*g);have au:=xS v.bits g;have Y:(v.kind::lq v.bits k).length<=1000000000:=by simp[lq];omega
    obtain⟨w',l',j,m⟩:=b7.push C (i5 v.bits.toNat g) Y;rw[em];simp[dz] at P;simp[P,S,ar,au,j,-Int.natCast_mul];refine bY.bo ?_;simp[R];exact⟨F,V,by simp;omega,w',V,by rw[FA,show 7 - k=g by omega];exact m⟩
  ·have B:¬ (u v.kind:Int)=2:=fun h=>t ((iW v.kind).1 h)
   have p:g5 v=[v.kind]++g4 (dT v.text):=by unfold g5;rw[ak o,ak t];rfl
   have ax:(g4 (dT v.text)).length<=20000:=by
    have:=gu (dT v.text).length;unfold g4;rw[cg];have:=mL v.text;omega
   simp[dz,z,B,W];refine JN (some (dT v.text)) (by simpa [mL] using ai) (by simp[cD]) V (fun l' _ _=>by simp[cD]) fun w l' h=>?_
   obtain⟨aq,ao,j,m,_⟩:=(D.frame h.le h.same).app (by_:=1) (x:=w) (xs:=g4 (dT v.text)) h.contents (by simp[bL]) F F (by rw[Q];simp only[du,hI];omega);simp[j];refine bY.bo ?_;simp;exact G _ _ (by rw[p];exact m)
structure Mp (l:ae) (v:gL) (p:Nat) (k:Nat) (sgZ:aP) (l1:ae) :Prop where
 e7:sgZ 1=.ptr p 0 4
 lz:sgZ 6=.i6 (8*(7 - (k:Int)))
 tX:∃ w,sgZ 5=w/\b7 1 bL (l++[.q 4 (dz v)]) l1 w (v.kind::lq v.bits k) false
theorem RA {v:gL} (h:ii v=true) (g:¬ v.kind=1#8) (j:¬ v.kind=2#8) :v.kind=3#8:=by unfold ii at h;simp[g,j] at h;exact h.1
theorem XV (v:gL) (ar:y1 v) (R:ii v=true) {l:ae} {K:cv} (H:∀ w l',b7 1 bL l l' w (g5 v) false->K (.aZ [w,.i6 0]) l') :
  cG 175 [.ah (dz v)] l K:=by
 apply cR func175 [];have T:=dw;have z:=IJ l (.q 4 (dz v)) v.kind;obtain⟨am,ao,ap⟩:=ar;have Z:rB (.str v.text)=some (.bj 1 ((dT v.text).map bL)):=by
  show some (U.bj 1 (v.text.map fun b=>[hb b]))=_;rw[zJ]
 have B:=LK v;rw[R] at B;by_cases g:v.kind=1#8
 ·have t:g5 v=[v.kind]++dq (jQ v.num).toNat:=by unfold g5;rw[aj g];rfl
  have D:(u v.kind:Int)=1:=(gQ v.kind).2 g;simp only[a7,D] at z;have aB:=gu (jQ v.num).toNat
  simp[dz];refine av B rfl ?_;simp[jy,D];refine XU v.num am ao fun w l' h=>?_
  obtain⟨ay,aw,m,o,_⟩:=(z.frame h.le h.same).app (by_:=1) (x:=w) (xs:=dq (jQ v.num).toNat) h.contents (by simp[bL]) F F (by rw[T];simp only[du,hI];omega);simp[m];refine bY.bo ?_;simp;exact H _ _ (by rw[t];exact o)
 ·have D:¬ (u v.kind:Int)=1:=fun h=>g ((gQ v.kind).1 h)
  by_cases p:v.kind=2#8
  ·have G:(u v.kind:Int)=2:=(iW v.kind).2 p;have t:g5 v=v.kind::lq v.bits 8:=by unfold g5;rw[ak g,aj p]
   have Q:=po l (.q 4 (dz v)) v.kind;simp only[a7,G] at Q;simp[dz];refine av B rfl ?_;simp[jy,G];refine bw 8 (Mp l v l.length) ?_ ⟨V,V,_,V,Q⟩;rintro k ax au hk ⟨J,P,w,O,C⟩;have S:au[l.length]?=some (.q 4 (dz v)):=by rw[C.same l.length V];simp
   obtain⟨ax,rfl⟩:=gj J O P;clear J O P;by_cases ag:k=8
   ·subst ag;rw[<-t] at C;simp;exact H _ _ (C.base V fun b Y=>aS Y)
   ·obtain⟨j,aA⟩:∃ j,j+k=7:=⟨7 - k,F⟩
    obtain⟨n,al⟩:=aq (8*j);have em:8*(7 - (k:Int))=(n:Int):=F;have X:IntKind.i64.wrap ((n:Int) - 8)=(n:Int) - 8:=by rw[IntKind.wrap_i64];omega
    have az:cn .shr .u64 (u v.bits) .i64 (n:Int)=some (.int .u64 (u (v.bits >>> n))):=qb v.bits .i64 n;have W:=xS v.bits j;rw[<-al] at W;have ai:(v.kind::lq v.bits k).length<=1000000000:=by simp[lq];omega
    obtain⟨w',l',m,o⟩:=b7.push C (i5 v.bits.toNat j) ai;rw[em];simp[dz] at S;simp[S,az,W,m];refine bY.bo ?_;simp[X];exact⟨F,V,by simp;omega,w',V,by rw[FA,show 7 - k=j by omega];exact o⟩
  ·have G:¬ (u v.kind:Int)=2:=fun h=>p ((iW v.kind).1 h)
   have I:(u v.kind:Int)=3:=(nw v.kind).2 (RA R g p);have t:g5 v=[v.kind]++g4 (dT v.text):=by unfold g5;rw[ak g,ak p];rfl
   have aC:(g4 (dT v.text)).length<=20000:=by
    have:=gu (dT v.text).length;unfold g4;rw[cg];have:=mL v.text;omega
   simp only[a7,I] at z;simp[dz];refine av B rfl ?_;simp[jy,I,Z];refine LP (some (dT v.text)) (by simpa [mL] using ap) (by simp[cD]) V (fun l' _ _=>by simp[cD]) fun w l' h=>?_
   obtain⟨ay,aw,m,o,_⟩:=(z.frame h.le h.same).app (by_:=1) (x:=w) (xs:=g4 (dT v.text)) h.contents (by simp[bL]) F F (by rw[T];simp only[du,hI];omega);simp[m];refine bY.bo ?_;simp;exact H _ _ (by rw[t];exact o)
structure aM where
 dW:D
 ay:bP
 eP:Q
 act:Act
 e:D
 s:D
def au (o:aM) :ag:=[a1 o.dW,ai o.ay,cX o.eP,a7 o.act.kind,.str o.act.key,a7 o.act.val.kind,.i6 o.act.val.num,cX o.act.val.bits,.str o.act.val.text,a1 o.e,a1 o.s]
structure dv (o:aM) :Prop where
 idsZ:cU o.ay
 len:o.ay.l.length<=1000000
 val:y1 o.act.val
 key:o.act.key.length<=10000
def mm (o:aM) :Bool:=eE o.dW&&(decide (o.eP.toNat<=1000000000000)&&(hv o.act&&(eL o.e&&eL o.s)))
def c4 (o:aM) :Int:=if 4<o.ay.l.length then 4 else if bQ o.ay.l then (if mm o then 0 else 8) else 32
theorem dN (o:aM) :ar (au o)=true:=by have:=bV o.ay;simp[au,ar,U.ax,this]
theorem C5 (o:aM) (q:dv o) :aV 120 [.ah (au o)] (.i6 (c4 o)):=by
 apply a8 func120 [];unfold c4;have v:=bV o.ay;have p:bt (.ad 32) (ai o.ay)=_:=ca _;have G:(ai o.ay).cells=some [ai o.ay]:=by cases o.ay<;>rfl
 obtain⟨I,H⟩:=aq (ai o.ay);by_cases h1:4<o.ay.l.length
 ·have j:(4:Int)<(o.ay.l.length:Int):=F;rw[aj h1];simp[au,p,j];exact aG
 ·have j:¬ (4:Int)<(o.ay.l.length:Int):=F;rw[ak h1];simp[au,p,j];refine av (C7 o.ay q.idsZ q.len) (by simp[ar,v]) ?_;cases w:bQ o.ay.l with
  | false=>
   simp;exact aG
  | true=>
   simp;refine av (J1 o.dW) rfl ?_;unfold mm;cases z:eE o.dW with
   | false=>
    simp;exact aG
   | true=>
    have t:((1000000000000:Int)<u o.eP)<->¬ o.eP.toNat<=1000000000000:=by unfold u;omega
    by_cases g:o.eP.toNat<=1000000000000
    ·have m:¬ ((1000000000000:Int)<u o.eP):=fun h=>t.1 h g
     simp[m];refine av (U9 o.act) rfl ?_;cases B:hv o.act with
     | false=>
      simp[jy];exact aG
     | true=>
      simp[jy];refine av (ya o.e) rfl ?_;cases C:eL o.e with
      | false=>
       simp;exact aG
      | true=>
       simp;refine av (ya o.s) rfl ?_;cases D:eL o.s with
       | false=>
        simp;exact aG
       | true=>
        simp;exact aR (by rw[aj g]) rfl
    ·have m:(1000000000000:Int)<u o.eP:=t.2 g;simp[g,m];exact aG
def opHead (o:aM) :List B:=111#8::dq o.dW.toNat
def ev (o:aM) :List B:=
 opHead o++nf o.ay.l++dq o.eP.toNat++[o.act.kind]++(if o.act.kind=1#8 then [] else g4 (dT o.act.key))++(if o.act.kind=4#8 then g5 o.act.val else [])
theorem v2 {l:aN} (h:∀ x∈l,x.length=32) :(nf l).length<=9+l.length*32:=by have:=gu l.length;have g:=BS h;unfold nf;rw[cg];omega
theorem uB (s:List B) :(g4 s).length<=9+s.length:=by have:=gu s.length;unfold g4;rw[cg];omega
theorem w8 (v:gL) :(g5 v).length<=20+v.text.length:=by
 have h1:=gu (jQ v.num).toNat
 have g:=uB (dT v.text);have h:=mL v.text;unfold g5;simp only[du];split
 ·omega
 ·split
  ·simp[lq];omega
  ·omega
theorem C8 (o:aM) (B:dv o) (aI:o.ay.l.length<=1000) {l:ae} {K:cv} (S:∀ w l',b7 1 bL l l' w (ev o) false->K w l') :
  cG 134 [.ah (au o)] l K:=by
 apply cR func134 [[[0],[1],[2],[5],[6],[3,6],[4,6]]];have C:=dw;have aE:=po l (.q 11 (au o)) 111#8;have a4:=gu o.dW.toNat
 have a5:=gu o.eP.toNat
 have a6:=v2 B.idsZ;have aP:(BitVec.setWidth 64 o.dW).toNat=o.dW.toNat:=by rw[eH];exact dH (by have:=o.dW.isLt;omega)
 have z:l.length<(l++[am.q 11 (au o)]).length:=V;have t:(l++[am.q 11 (au o)])[l.length]?=some (.q 11 (au o)):=V;simp[au];refine qL _ fun aV a9 h1=>?_
 rw[aP] at h1;obtain⟨bg,ap,ax,H,_⟩:=(aE.frame h1.le h1.same).app (by_:=1) (x:=aV) (xs:=dq o.dW.toNat) h1.contents (by simp[bL]) F F (by rw[C];simp only[du,hI];omega);have Z:ap[l.length]?=some (.q 11 (au o)):=by rw[H.same _ z];exact t
 have aJ:l.length<ap.length:=by have:=H.le;omega
 have ag:=Z;simp[au] at ag;simp[ax];refine bY.bo ?_;simp[ag];refine Ux o.ay B.idsZ aI fun aX aR G=>?_
 obtain⟨bh,ar,az,I,_⟩:=(H.frame G.le G.same).app (by_:=1) (x:=aX) (xs:=nf o.ay.l) G.contents (by simp[bL]) F F (by rw[C];simp only[cg,du,hI];omega);have ci:aR[l.length]?=some (.q 11 (au o)):=by rw[G.same _ aJ];exact Z
 have aK:ar[l.length]?=some (.q 11 (au o)):=by rw[I.same _ z];exact t
 have a2:l.length<ar.length:=by have:=I.le;omega
 have ai:=ci;have al:=aK;simp[au] at ai al;simp[ai,az];refine bY.bo ?_;simp[al];refine qL _ fun aY bd Q=>?_
 obtain⟨bi,aT,aA,Y,_⟩:=(I.frame Q.le Q.same).app (by_:=1) (x:=aY) (xs:=dq o.eP.toNat) Q.contents (by simp[bL]) F F (by rw[C];simp only[cg,du,hI];omega);have aL:aT[l.length]?=some (.q 11 (au o)):=by rw[Y.same _ z];exact t
 have ao:=aL;simp[au] at ao;obtain⟨bk,av,aB,m⟩:=b7.push Y o.act.kind (by simp only[cg,du,hI];omega);have aN:av[l.length]?=some (.q 11 (au o)):=by rw[m.same _ z];exact t
 have a3:l.length<av.length:=by have:=m.le;omega
 have W:=aN;simp[au] at W;simp[aA];refine bY.bo ?_;simp[ao,aB];refine bY.bo ?_;obtain⟨M,T⟩:=aq ([111#8]++dq o.dW.toNat++nf o.ay.l++dq o.eP.toNat++[o.act.kind]);have a1:M.length<=40000:=by rw[T];simp only[cg,du,hI];omega
 rw[<-T] at m;have g:ev o=M++(if o.act.kind=1#8 then [] else g4 (dT o.act.key))++(if o.act.kind=4#8 then g5 o.act.val else []):=by rw[T];rfl
 have aQ:=uB (dT o.act.key);rw[mL] at aQ;have aH:=B.key;have a7:=w8 o.act.val;have a8:=B.val.2.2;have aG:rB (.str o.act.key)=some (.bj 1 ((dT o.act.key).map bL)):=by
  show some (U.bj 1 (o.act.key.map fun b=>[hb b]))=_;rw[zJ]
 by_cases p:o.act.kind=1#8
 ·have J:(u o.act.kind:Int)=1:=(gQ o.act.kind).2 p;have j:¬ o.act.kind=4#8:=by rw[p];decide
  rw[aj p,ak j,eb,eb] at g;simp[W,J];exact S _ _ (by rw[g];exact m.base V fun b v=>aS v)
 ·have J:¬ (u o.act.kind:Int)=1:=fun h=>p ((gQ o.act.kind).1 h)
  rw[ak p] at g;simp[W,J,aG];refine JN (some (dT o.act.key)) (by simpa [mL] using aH) (by simp[cD]) V (fun l' _ _=>by simp[cD]) fun a0 fu R=>?_
  obtain⟨bl,aU,aC,D,_⟩:=(m.frame R.le R.same).app (by_:=1) (x:=a0) (xs:=g4 (dT o.act.key)) R.contents (by simp[bL]) F F (by rw[C];omega);have aO:aU[l.length]?=some (.q 11 (au o)):=by rw[D.same _ z];exact t
  have X:=aO;simp[au] at X;simp[aC];refine bY.bo ?_;simp only[q8] at D;by_cases j:o.act.kind=4#8
  ·have O:(u o.act.kind:Int)=4:=(qX o.act.kind).2 j;rw[aj j] at g;simp[X,O];refine UU o.act.val B.val fun aW bb P=>?_
   obtain⟨bf,bc,aw,aD,_⟩:=(D.frame P.le P.same).app (by_:=1) (x:=aW) (xs:=g5 o.act.val) P.contents (by simp[bL]) F F (by rw[C];simp only[cg];omega);simp[aw];refine bY.bo ?_;simp;exact S _ _ (by rw[g];exact aD.base V fun b v=>aS v)
  ·have O:¬ (u o.act.kind:Int)=4:=fun h=>j ((qX o.act.kind).1 h)
   rw[ak j,eb] at g;simp[X,O];exact S _ _ (by rw[g];exact D.base V fun b v=>aS v)
def e8 (o:aM) :List B:=ev o++dq o.e.toNat++dq o.s.toNat
theorem IV (o:aM) (g:dv o) (w:o.ay.l.length<=1000) :(ev o).length<=100000:=by
 have h1:=gu o.dW.toNat
 have p:=gu o.eP.toNat
 have q:=v2 g.idsZ;have h:=uB (dT o.act.key);rw[mL] at h;have t:=g.key;have u:=w8 o.act.val;have v:=g.val.2.2;have j:(if o.act.kind=1#8 then [] else g4 (dT o.act.key)).length<=10009:=by split<;>(try simp) ;omega
 have m:(if o.act.kind=4#8 then g5 o.act.val else []).length<=10020:=by split<;>(try simp) ;omega
 unfold ev opHead;simp only[cg,du,hI];omega
theorem Uo (o:aM) (u:dv o) (p:o.ay.l.length<=1000) {l:ae} {K:cv} (O:∀ w l',b7 1 bL l l' w (e8 o) false->K w l') :
  cG 123 [.ah (au o)] l K:=by
 apply cR func123 [[[0]]++da 2 4++da 8 4++[[1,11,10,5,4],[6,11,10],[7,11,10]]];have D:=dw;have Z:=gu o.e.toNat
 have ag:=gu o.s.toNat
 have ai:=IV o u p;have S:(BitVec.setWidth 64 o.e).toNat=o.e.toNat:=by rw[eH];exact dH (by have:=o.e.isLt;omega)
 have T:(BitVec.setWidth 64 o.s).toNat=o.s.toNat:=by rw[eH];exact dH (by have:=o.s.isLt;omega)
 have t:l.length<(l++[am.q 11 (au o)]).length:=V;have m:(l++[am.q 11 (au o)])[l.length]?=some (.q 11 (au o)):=V;simp[au];refine C8 o u p fun al G h1=>?_
 have v:G[l.length]?=some (.q 11 (au o)):=by rw[h1.same _ t];exact m
 have Q:l.length<G.length:=by have:=h1.le;simp at this;omega
 have z:=v;simp[au] at z;simp[z];refine qL _ fun X U g=>?_
 rw[S] at g;obtain⟨ao,W,H,j,_⟩:=(h1.frame g.le g.same).app (by_:=1) (x:=X) (xs:=dq o.e.toNat) g.contents (by simp[bL]) F F (by rw[D];omega);have R:U[l.length]?=some (.q 11 (au o)):=by rw[g.same _ Q];exact v
 have ci:W[l.length]?=some (.q 11 (au o)):=by rw[j.same _ t];exact m
 have B:=R;have C:=ci;simp[au] at B C;simp[B,H];refine bY.bo ?_;simp[C];refine qL _ fun Y aj h=>?_
 rw[T] at h;obtain⟨ap,ak,I,J,_⟩:=(j.frame h.le h.same).app (by_:=1) (x:=Y) (xs:=dq o.s.toNat) h.contents (by simp[bL]) F F (by rw[D];simp only[cg];omega);simp[I];refine bY.bo ?_;simp;exact O _ _ (J.base V fun b P=>aS P)
theorem C4 (o:aM) (j:dv o) (h:o.ay.l.length<=1000) :aV 73 [.ah (au o)] (et (fi (e8 o))):=by
 apply a8 func73 [];have v:=gu o.e.toNat
 have w:=gu o.s.toNat
 have z:=IV o j h;have m:(fi (e8 o)).length=32:=jk _;simp[au];refine Uo o j h fun B p h1=>?_
 have g:p[1]?=some (.q 32 (bO 32 (.int .u8 0))):=by rw[h1.same 1 V];rfl
 simp;refine g0 (J2 (some (e8 o)) (by simp[e8];omega)) (.cons (h1.mH (fun _=>rfl) (some (e8 o)) rfl rfl) .nil) (by simp[U.flat,et,tA a7 (fun _=>rfl)]) ?_;have u:aw (bO 32 (.int .u8 0)) 0 ((fi (e8 o)).map a7)=(fi (e8 o)).map a7:=cH (by rw[cC,m];rfl);have t:(p.set 1 (am.q 32 ((fi (e8 o)).map a7)))[1]?=some (.q 32 ((fi (e8 o)).map a7)):=bT (aY g);simp[g,et,m,u,t,aI];exact aR rfl (by simp[U.ax,i7 a7 (fun _=>rfl)])
end Op
end Go.bf

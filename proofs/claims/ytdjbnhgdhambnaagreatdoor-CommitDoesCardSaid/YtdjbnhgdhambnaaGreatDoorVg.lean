/-
  The reference of SHA-256, walked: tail, blocks, written, Of.
-/
import Derived.Test.YtdjbnhgdhambnaaGreatDoorVf
import Derived.LaidMore
import Derived.MakeChecks
import Derived.Lib.DecodeN
set_option maxHeartbeats 16000000
set_option maxRecDepth 100000
set_option linter.unusedVariables false
set_option linter.unusedSimpArgs false
set_option linter.unnecessarySimpa false
namespace Go.bh
open Go Go.Proofs Go.Proofs.Tryz
namespace cl
def nU (k:Nat) :List B:=128#8::List.replicate k 0#8
theorem UY (k:Nat) :nU (k+1)=nU k++[0#8]:=by simp[nU,List.replicate_succ']
theorem JN (k:Nat) :(nU k).length=k+1:=by simp[nU]
theorem Wx (n:Nat) (aB:n<=100000000) :nt prog GS 187 [.i6 n] (cn (some (tail n))):=by
 have aC:dj=140737488355328:=rfl;refine xa checked.mixed eD ?_;apply c1 func187 [];obtain⟨m,ar⟩:=al ((119 - n % 64) % 64);simp;refine bB m (fun k h l=>h 0=.i6 n/\∃ g o,h 3=g/\bq g=false/\aH 1 l g o ((nU k).map bW)) ?_ ?_
 ·rintro k h l hk ⟨p,g,o,t,u,j⟩;obtain⟨h,rfl⟩:=kk p t;clear p t;have z:=j.len;rw[ce,JN] at z;obtain⟨R,ap⟩:=al (k+1);rw[<-ap] at z;have O:IntKind.i64.wrap ((n:Int)+(R:Int))=(n+R:Nat):=wrap_i64 F F;obtain⟨q,au⟩:=al (n+R);rw[<-au] at O;have P:IntKind.i64.wrap ((q:Int)+8)=(q+8:Nat):=wrap_i64 F F;obtain⟨ae,av⟩:=al (q+8);rw[<-av] at P;have B:=tx ae 64 F;rw[show ((64:Int).toNat)=64 from rfl] at B;obtain⟨x,C⟩:=al (ae % 64);rw[<-C] at B;simp[z,O,P,B];by_cases Y:x=0
  ·have I:k=m:=F;subst I;have aw:nU k=k2 n 0:=by unfold nU k2;rw[<-ar];simp
   rw[aw] at j;clear z O P B;simp[Y];refine bB 8 (fun k h l=>h 0=.i6 n/\h 4=.i6 (7 - (k:Int))/\∃ g o,h 3=g/\bq g=false/\aH 1 l g o ((k2 n k).map bW)) ?_ ?_
   ·rintro k h l hk ⟨p,T,g,o,t,u,j⟩;obtain⟨h,rfl⟩:=gF p t T;clear p t T;obtain⟨c,aj⟩:=al (7 - (k:Int) :Int);rw[<-aj];by_cases X:0<=c
    ·have W:k<8:=F;have az:IntKind.i64.wrap (c - 1)=7 - ((k:Int)+1):=by rw[wrap_i64 F F];omega
     obtain⟨d,aA⟩:=al (8*c);have ay:IntKind.i64.wrap (8*c)=d:=by rw[wrap_i64 F F];omega
     have ak:0<=d:=F;have am:d.toNat=56 - 8*k:=F;have C:=GH (BitVec.ofNat 64 n*8#64) k W;have ax:=AJ n k;obtain⟨y,Q⟩:=al ((((BitVec.ofNat 64 n*8#64) >>> (56 - 8*k)).setWidth 8));rw[<-Q] at C;have J:aH 1 (l++[aq.q 1 [a7 y]]) g o ((k2 n k).map bW):=j.more _;obtain⟨w,v,S,h1,D,ag,ah,ai,H⟩:=lS (by_:=1) J (x:=.Z 1 l.length 0 1 1 1) (xs:=[[a7 y]]) (by simp[cq]) V F F (by simp;omega);have K:bq w=false:=by rw[qT H,u];rfl
     have G:aH 1 S w v ((k2 n (k+1)).map bW):=by rw[L5 n k y C,cV];exact D
     rw[BitVec.mul_comm] at Q;simp only[a7] at h1;simp[X,ay,ak,am];rw[<-Q];simp[h1];refine bR.bm ?_;simp[az,W];exact⟨K,v,G⟩
    ·have ao:k=8:=F;subst ao;simp[X];exact j.D3 (fun _=>rfl) (some (tail n)) u rfl
   ·simp;exact⟨u,_,j⟩
  ·have ax:=JN k;have J:aH 1 (l++[aq.q 1 [a7 0#8]]) g o ((nU k).map bW):=j.more _;obtain⟨w,v,S,h1,D,ag,ah,ai,H⟩:=lS (by_:=1) J (x:=.Z 1 l.length 0 1 1 1) (xs:=[[a7 0#8]]) (by simp[cq]) V F F (by simp;omega);have K:bq w=false:=by rw[qT H,u];rfl
   have G:aH 1 S w v ((nU (k+1)).map bW):=by rw[UY,cV];exact D
   have I:k<m:=F;simp[a7] at h1;simp[Y,h1];refine bR.bm ?_;simp[I];exact⟨K,v,G⟩
 ·simp;exact⟨rfl,0,.Z 0 1 1 1 [.int .u8 128] _ rfl rfl rfl (by intro e U;simp[nU] at U;subst U;rfl) (aN _) (aN _) rfl⟩
theorem Wr (h:dN) (b:List B) (ah:b.length<=100000000) :aU 185 [.af (h.l.map bg),cn (some b)] (.af ((fS h b).1.l.map bg)):=by
 apply a2 func185 [];have K:∀ A:ag,A.length=8->A.take 8=A:=fun A g=>aI F
 have aj:∀ s:dN,(s.l.map bg).length=8:=fun s=>rfl
 obtain⟨Q,u⟩:=al (h.l.map bg);have R:Q.length=8:=by rw[u];rfl
 rw[<-u];simp[R];refine bB (b.length / 64) (fun k j l=>j 1=cn (some b)/\j 2=.ptr 0 0 8/\j 4=.ptr 1 0 8/\j 5=.i6 (64*k:Nat)/\∃ s p,fS s (b.drop (64*k))=fS h b/\l=[.q 8 (s.l.map bg),.q 8 p]/\p.length=8) ?_ ?_
 ·rintro k j l hk ⟨D,G,H,I,s,p,z,rfl,O⟩;obtain⟨j,rfl⟩:=eO D G H I;clear D G H I;obtain⟨a,T⟩:=al (64*k);rw[<-T] at z ⊢;obtain⟨nw,V⟩:=al (64*(k+1));rw[<-V];obtain⟨A,g⟩:=al (s.l.map bg);have m:A.length=8:=by rw[g];rfl
  rw[<-g];have C:IntKind.i64.wrap ((a:Int)+64)=nw:=by rw[wrap_i64 F F];omega
  by_cases ak:nw<=b.length
  ·have w:(nw:Int)<=b.length:=F;have Y:dw (.Z 1) (cn (some b)) (some (.i6 (a:Int))) (some (.i6 (nw:Int))) none=some (cn (some ((b.drop a).take 64))):=by
    unfold cn;rw[Xv F F F];have:(nw:Int).toNat - (a:Int).toNat=64:=F;rw[this,fo]
   have W:64<=((b.drop a).take 64).length:=by simp;omega
   have v:=RI s _ W;have ai:grind s ((b.drop a).take 64)=grind s (((b.drop a).take 64)):=rfl;rw[<-g] at v;have ae:fS (grind s ((b.drop a).take 64)) (b.drop nw)=fS h b:=by
    rw[<-z,vM s (b.drop a) (by simp;omega),xT];congr 2;omega
   have X:k<b.length / 64:=F;have o:am A=true:=by rw[g];exact jy bg (fun _=>rfl) _
   obtain⟨P,t⟩:=al ((grind s ((b.drop a).take 64)).l.map bg);have S:P.length=8:=by rw[t];rfl
   rw[<-t] at v;simp[C,w,m,K A m,Y];refine au v (by simp[am,U.ar,o,j1]) ?_;simp[mj,m,S,C,X];exact⟨_,ae,p,⟨t,rfl⟩,O⟩
  ·have w:¬(nw:Int)<=b.length:=F;have J:=z;rw[yn s (b.drop a) (by simp;omega)] at J;rw[<-J];have o:am A=true:=by rw[g];exact jy bg (fun _=>rfl) _
   simp[C,w,m,K A m,mj,O];exact aP (by rw[g]) (by rw[g] at o;simp[U.ar,o])
 ·exact⟨rfl,rfl,rfl,rfl,h,bZ 8 (.int .u32 0),rfl,by rw[u];rfl,rfl⟩
def o0 (s:dN) (k:Nat) :List B:=(written s).take k++List.replicate (32 - k) 0#8
theorem UN (s:dN) (k:Nat) (hk:k<=32) :(o0 s k).length=32:=by unfold o0;have:=A0 s;simp;omega
theorem UO (s:dN) (k:Nat) (x:B) (g:(written s)[k]?=some x) :(o0 s k).set k x=o0 s (k+1):=by
 have hk:k<32:=(aL.1 g).1;unfold o0;have h:(List.take k (written s)).length=k:=by have:=A0 s;simp;omega
 rw[pk _ _ F,h,th,ei,g,show 32 - k=(32 - (k+1))+1 by omega,kr,te];simp
theorem Zs (s:dN) (k:Nat) (hk:k<32) :∃ w,s.l[k / 4]?=some w/\(written s)[k]?=some ((w >>> (24 - 8*(k % 4))).setWidth 8):=by
 have o:∀ w:W,w=w >>> 0:=fun w=>V
 obtain⟨a,b,c,d,e,f,m,h⟩:=s;have:∀ (l:List W) (k:Nat),k<4*l.length->∃ w,l[k / 4]?=some w/\(l.map qf).flatten[k]?=some ((w >>> (24 - 8*(k % 4))).setWidth 8):=by
  intro l
  induction l with
  | nil=>intro k hk;simp at hk
  | cons w l j=>
   intro k hk
   match k,hk with
   | 0,_=>exact⟨w,rfl,rfl⟩
   | 1,_=>exact⟨w,rfl,rfl⟩
   | 2,_=>exact⟨w,rfl,rfl⟩
   | 3,_=>refine⟨w,rfl,?_⟩;simp[qf]
   | k+4,hk=>
    obtain⟨y,h1,g⟩:=j k (by simp at hk;omega);refine⟨y,?_,?_⟩
    ·rw[show (k+4) / 4=k / 4+1 by omega];exact h1
    ·rw[show (k+4) % 4=k % 4 by omega];exact g
 exact this _ k (by simpa [dN.l] using hk)
theorem Wz (s:dN) :aU 184 [.af (s.l.map bg)] (eo (written s)):=by
 apply a2 func184 [];obtain⟨A,j⟩:=al (s.l.map bg);have G:A.length=8:=by rw[j];rfl
 rw[<-j];simp[G];refine bB 32 (fun k h l=>h 1=.ptr 0 0 8/\h 2=.ptr 1 0 32/\h 3=.ptr 2 0 32/\h 4=.i6 k/\∃ v,l=[.q 8 A,.q 32 v,.q 32 ((o0 s k).map a7)]/\v.length=32) ?_ ?_
 ·rintro k h l hk ⟨z,B,C,D,v,rfl,P⟩;obtain⟨h,rfl⟩:=eO z B C D;clear z B C D;by_cases W:(k:Int)<32
  ·have m:k<32:=F;have aq:IntKind.i64.wrap ((k:Int)+1)=(k+1:Nat):=wrap_i64 F F;have o:=BV k 4 F F;have p:=tx k 4 F;rw[show ((4:Int).toNat)=4 from rfl] at o p;obtain⟨w,K,u⟩:=Zs s k m;obtain⟨q,Y⟩:=al (k / 4);obtain⟨r,ah⟩:=al (k % 4);rw[<-Y] at o K;rw[<-ah] at p u;have ae:q<8:=F;obtain⟨DU,aj⟩:=al (8*r);have ap:IntKind.i64.wrap (8*(r:Int))=DU:=by rw[wrap_i64 F F];omega
   obtain⟨Ko,ai⟩:=al (24 - DU);have ao:IntKind.i64.wrap (24 - (DU:Int))=Ko:=by rw[wrap_i64 F F];omega
   have J:=UO s k _ u;rw[<-aj,<-ai] at u J;have I:=UN s k F;have t:=ml a7 (o0 s k) k ((w >>> Ko).setWidth 8) (by rw[I];exact m);rw[J] at t;obtain⟨O,g⟩:=al ((o0 s k).map a7);have H:O.length=32:=by rw[g,ce,I]
   rw[<-g] at t ⊢;have Q:A[q]?=some (bg w):=by rw[j,b0,K];rfl
   obtain⟨au,R⟩:=aL.1 Q;have av:q<=7:=F;have V:k<=31:=F;have ag:(q:Int)<8:=F;simp[W,m,aq,o,p,ap,ao,G,ae,R,t,P,V,ag]
  ·have T:k=32:=F;subst T;have X:o0 s 32=written s:=by unfold o0;rw[aI (by rw[A0];omega)];simp
   rw[X];obtain⟨O,g⟩:=al ((written s).map a7);have H:O.length=32:=by rw[g,ce,A0]
   have S:am O=true:=by rw[g];exact jy a7 (fun _=>rfl) _
   have ak:O.take 32=O:=aI F;unfold eo;rw[<-g];simp[H,ak,mj,P];exact aP rfl (by simp[U.ar,S])
 ·refine⟨rfl,rfl,rfl,rfl,_,rfl,rfl⟩
theorem KK (s:dX) (R:s.l.length<=1000000) :aU 122 [cn s] (eo (go s.l)):=by
 have p:dj=140737488355328:=rfl;apply a2 func122 [];simp;refine au Ra rfl ?_;have K:aH 1 ([aq.q 32 (bZ 32 (U.int IntKind.u8 0))]++[aq.q 0 []]) (.Z 1 1 0 0 0 0) 1 []:=.Z 1 0 0 0 [] _ rfl rfl rfl V (aN _) (aN _) rfl;obtain⟨O,T,r,h1,m,u,v⟩:=rW (by_:=1) K (.inr (aN _)) (x:=cn s) (xs:=s.l.map bW) (by unfold cn;rw[qO,ce]) (by intro e g;obtain⟨x,_,rfl⟩:=cE.1 g;rfl) F F (by rw[p];simp;omega);have H:bq O=false:=by rw[v];rfl
 simp only[h2,FE] at h1 m;have z:bD (.Z 1) (cn s)=some (.i6 s.l.length):=b9 _;have G:=Wx s.l.length F;have S:(tail s.l.length).length<=80:=by rw[<-ES];exact AJ _ _
 obtain⟨P,W,Y,t,j,X,J⟩:=rW (by_:=1) (pre:=[aq.q 32 (bZ 32 (U.int IntKind.u8 0))]) m u (x:=cn (some (tail s.l.length))) (xs:=(tail s.l.length).map bW) (by unfold cn;rw[qO,ce];rfl) (by intro e g;obtain⟨x,_,rfl⟩:=cE.1 g;rfl) F F (by rw[p];simp;omega);have I:bq P=false:=by rw[J,H];rfl
 rw[<-cV] at j;simp only[FE] at t j;have B:=j.mZ (fun _=>rfl) (some (s.l++tail s.l.length)) I rfl;have o:=Wr first (s.l++tail s.l.length) (by simp;omega)
 have h:=Wz (fS first (s.l++tail s.l.length)).1;have C:go s.l=written (fS first (s.l++tail s.l.length)).1:=rfl;rw[<-C] at h;obtain⟨Q,w⟩:=al ((fS first (s.l++tail s.l.length)).1);rw[<-w] at o h;simp[h1];refine bR.bm ?_;simp[z];refine au G.AM rfl ?_;simp[t];refine bR.bm ?_;simp;refine ig o (.cons (.same _ ?_) (.cons B .nil)) (HR bg (fun _=>rfl) _) ?_
 ·simp[U.ar,jy bg (fun _=>rfl)]
 simp;refine au h ?_ ?_
 ·simp[am,U.ar,jy bg (fun _=>rfl)]
 have D:=o7 s.l;simp[eo,D,mj,aI];exact aP rfl (by simp[U.ar,jy a7 (fun _=>rfl)])
end cl
end Go.bh
namespace Go.bh
open Go Go.Proofs Go.Proofs.Tryz Go.RowKit
open cl
theorem Mk {e:aG} (g:prog.underlying e=some (.int .u8)) :∀ (n:Nat) {ts:List aG} {cs:ag},c4 prog (List.replicate n e++ts) cs->∃ (x:List B) (cs' : ag),cs=x.map a7++cs'/\x.length=n/\c4 prog ts cs'
 | 0,ts,cs,h=>⟨[],cs,rfl,rfl,h⟩
 | n+1,ts,cs,h=>by
  obtain⟨k,t,rfl,h1,m,o⟩:=na g h;obtain⟨x,j,rfl,q,p⟩:=Mk g n o;have v:(0:Int)<=k:=h1;have w:k<=255:=m;refine⟨BitVec.ofNat 8 k.toNat::x,j,?_,by simp[q],p⟩;have:((BitVec.ofNat 8 k.toNat).toNat:Int)=k:=by
   rw[fP,ed F];omega
  simp[a7,u];omega
theorem Mm {ts:List aG} {cs:ag} (h:c4 prog (47::ts) cs) :∃ (x:BitVec 64) (cs' : ag),cs=c6 x::cs'/\c4 prog ts cs':=by
 obtain⟨k,g,rfl,h1,j,m⟩:=na (k:=.u64) bn h;have o:(0:Int)<=k:=h1;have p:k<=18446744073709551615:=j;refine⟨BitVec.ofNat 64 k.toNat,g,?_,m⟩;have:((BitVec.ofNat 64 k.toNat).toNat:Int)=k:=by
  rw[fP,ed F];omega
 simp[c6,u];omega
theorem E1 {ts:List aG} {cs:ag} (h:jb prog (3::ts) cs) :∃ (n:Int) (cs' : ag),cs=.i6 n::cs'/\IntKind.i64.min<=n/\n<=IntKind.i64.max/\jb prog ts cs':=by obtain⟨c,cs',rfl,h1,g⟩:=E0 h;obtain⟨n,p,o,m,j,q⟩:=na (k:=.i64) bn (Ys bn h1);cases o;exact⟨n,cs',rfl,m,j,g⟩
def CY:List Int:=cl.b5.map fun k=>(k.toNat:Int)
theorem Ya:uY=CY.map fun k=>.int .u32 k:=by unfold uY CY;rw[iL];rfl
theorem SH {W:aT} (h:laidMetH prog [("braid/digest.constants",Go.Proofs.YtdjbnhgdhambnaaGreatDoor.Rows.laid_braid_digest_constants)] W) :∀ g,de W (fun _=>True) (GS g) (.pointer (some ⟨g,0,none⟩)):=by
 intro g;unfold GS;split
 ·rename_i o;have:=mu o;subst this;rw[MakeChecks.laidMetH_plain _ _ _ bn] at h;obtain⟨B,⟨w,t0,v,f0,z,C,q,t,u,p,_,_⟩,_,_⟩:=h;have j:prog.globalNamed "braid/digest.constants"=some 1:=bn;have m:(prog.globals[1]?).map (·.type)=some 333:=bn;obtain rfl:=cc (j.symm.trans q);obtain rfl:=cc (m.symm.trans t);rw[Ya];exact RB CY j u (n:=64) (e:=46) bn bn bn p (by rfl)
 ·exact .bad _
end Go.bh
namespace Go.bh
open Go Go.Proofs Go.Proofs.Tryz
open cl
def Gp:U->Option B
 | .int .u8 (.ofNat n)=>match Nat.ble n 255 with | true=>some (BitVec.ofNat 8 n) | false=>none
 | _=>none
def GD:ag->Option (List B)
 | []=>some []
 | c::r=>match Gp c with
  | some b=>match GD r with | some l=>some (b::l) | none=>none
  | none=>none
def bf:U->Option (List B)
 | .af cs=>match GD cs with | some l=>(match Nat.beq l.length 32 with | true=>some l | false=>none) | none=>none
 | _=>none
def K1:List (ag)->Option (List B)
 | []=>some []
 | [c] ::r=>match Gp c with
  | some b=>match K1 r with | some l=>some (b::l) | none=>none
  | none=>none
 | _=>none
def O6:U->Option dX
 | .ad=>some none
 | .bu 1 g=>match K1 g with | some l=>some (some l) | none=>none
 | _=>none
def X2:ag->Option U
 | [c]=>match O6 c with
  | some s=>match Nat.ble s.l.length 10000 with | true=>some (.aX [eo (go s.l),.int .i64 0]) | false=>none
  | none=>none
 | _=>none
abbrev ki:cj × Bool × (ag->Option U):=(150,false,X2)
end Go.bh
namespace Go.bh
open Go Go.Proofs Go.Proofs.Tryz Go.Sort Go.Shelf
open cl
def bP:List B->List B->Int
 | [],[]=>0
 | [],_::_=>-1
 | _::_,[]=>1
 | a::g,b::h=>if a.toNat<b.toNat then -1 else if b.toNat<a.toNat then 1 else bP g h
theorem G5 (a b:B) (g KB:List B) :bP (a::g) (b::KB)=if a.toNat<b.toNat then -1 else if b.toNat<a.toNat then 1 else bP g KB:=rfl
theorem lj:∀ a:List B,bP a a=0
 | []=>rfl
 | a::g=>by unfold bP;simp;exact lj g
theorem oC:∀ {a b:List B},bP a b=0->a=b
 | [],[],_=>rfl
 | [],_::_,h=>by simp[bP] at h
 | _::_,[],h=>by simp[bP] at h
 | a::g,b::j,h=>by
  unfold bP at h;split at h
  ·cases h
  ·split at h
   ·cases h
   ·have h1:a=b:=eZ F;rw[h1,oC h]
theorem oD:∀ a b:List B,bP b a=- bP a b
 | [],[]=>rfl
 | [],_::_=>rfl
 | _::_,[]=>rfl
 | a::h,b::j=>by
  unfold bP;by_cases h1:a.toNat<b.toNat
  ·simp[h1,show ¬ b.toNat<a.toNat by omega]
  ·by_cases g:b.toNat<a.toNat
   ·simp[h1,g]
   ·simp[h1,g];exact oD h j
theorem vW:∀ a b:List B,bP a b=-1\/bP a b=0\/bP a b=1
 | [],[]=>by simp[bP]
 | [],_::_=>by simp[bP]
 | _::_,[]=>by simp[bP]
 | a::g,b::h=>by
  unfold bP;split
  ·simp
  ·split
   ·simp
   ·exact vW g h
theorem oE:∀ a b c:List B,bP a b<0->bP b c<0->bP a c<0
 | [],[],_,h,_=>by simp[bP] at h
 | [],_::_,[],_,h=>by simp[bP] at h
 | [],_::_,_::_,_,_=>by simp[bP]
 | _::_,[],_,h,_=>by simp[bP] at h
 | _::_,_::_,[],_,h=>by simp[bP] at h
 | a::m,b::o,c::p,h1,g=>by
  unfold bP at h1 g ⊢;have j:=oE m o p
  repeat' split at h1
  all_goals repeat' split at g
  all_goals repeat' split
  all_goals first | omega | (exact j h1 g) | (exfalso;omega) | skip
def eM (a b:List B) :Bool:=ltOf bP a b
theorem ib (a b:List B) :eM a b=true<->bP a b<0:=by unfold eM ltOf;simp
theorem EQ:SWO (ltOf bP) where
 irrefl x:=by unfold ltOf;rw[lj];rfl
 trans x y g h1 oL:=by
  unfold ltOf at *
  simp only[bK] at *
  exact oE x y g h1 oL
 ntrans x y g h1 oL:=by
  unfold ltOf at *
  simp only[decide_eq_false_iff_not] at *
  intro p;have j:=oD x y;have m:=oD y g;rcases vW x y with h | h | h
  ·omega
  ·have:=oC h;subst this;omega
  ·rcases vW y g with h' | h' | h'
   ·omega
   ·have:=oC h';subst this;omega
   ·have:=oE g y x F F;have o:=oD x g;omega
theorem Ow (x y:List B) (h1:ltOf bP x y=false) (g:ltOf bP y x=false) :x=y:=by
 unfold ltOf at *
 simp only[decide_eq_false_iff_not] at *
 have e:=oD x y;exact oC F
theorem PG {a b:List B} (k:Nat) (h:∀ j,j<k->a[j]?=b[j]?) (o:k<=a.length) (p:k<=b.length) :bP (a.drop k) (b.drop k)=bP a b:=by
 induction k with
 | zero=>simp
 | succ k m=>
  rw[<-m (fun j q=>h j F) F F];have h1:=h k F;rw[oc (l:=a) (i:=k) F,oc (l:=b) (i:=k) F];rw[bM F,bM F] at h1;have g:=cc h1
  conv=>rhs;unfold bP
  rw[g];simp
end Go.bh
namespace Go.bh
open Go Go.Proofs Go.Proofs.Tryz
namespace Op
open cl
abbrev Q:=BitVec 64
abbrev D:=BitVec 32
theorem Mn:(u (1#64) :Int)=1:=rfl
def eb (x:D) :ag:=[bg x]
def nO (l:List D) :Q:=l.foldl (fun g x=>g*x.setWidth 64 % 1000000007#64) 1#64
theorem Tz (l:List D) (k:Nat) (x:D) (h:l[k]?=some x) :nO (l.take (k+1))=nO (l.take k)*x.setWidth 64 % 1000000007#64:=by rw[ei,h];simp[nO,Bi]
theorem Ae (x:Q) :cz .rem .u64 (u x) .u64 1000000007=some (.int .u64 (u (x % 1000000007#64))):=tz x 1000000007#64 (by decide)
theorem Dk (l:List D) (C:l.length<=1000) :aU 223 [.int .u64 1000000007,b4 1 eb (some l)] (bg ((nO l).setWidth 32)):=by
 apply a2 func223 [];have w:bD (.Z 1) (b4 1 eb (some l))=some (.i6 l.length):=b9 _;simp[w];refine bB l.length (fun k g _=>g 0=.int .u64 1000000007/\g 5=c6 (nO (l.take k))/\g 8=b4 1 eb (some l)/\g 9=.i6 l.length/\g 10=.i6 k) ?_ (by simp[nO];rfl);rintro k g h hk ⟨j,o,p,q,m⟩;obtain⟨g,rfl⟩:=gu j o p q m;clear j o p q m;by_cases h:k<l.length
 ·obtain⟨x,t,_⟩:=aQ h;have u:bQ (.Z 1) (b4 1 eb (some l)) (.i6 k)=some (.b6 (eb x) 0):=by rw[oM];simp[t]
  have B:IntKind.i64.wrap ((k:Int)+1)=(k+1:Nat):=wrap_i64 F F;have z:=Tz l k x t;simp[h,u,eb,B,Ae];rw[<-z]
 ·have v:k=l.length:=F;subst v;simp;exact aF
def eG (a n:Nat) :Nat:=a ^ n % 1000000007
theorem sA (a n:Nat) :eG a n<1000000007:=mv _ (by decide)
theorem J2 (a n:Nat) :eG a n*eG a n % 1000000007=eG a (2*n):=by unfold eG;rw[<-vm,<-rL];congr 2;omega
theorem J0 (a n:Nat) :eG a n*a % 1000000007=eG a (n+1):=by unfold eG;rw[Nat.mod_mul_mod,Nat.pow_succ]
def ft (a:D) (n:Nat) :D:=BitVec.ofNat 32 (eG a.toNat n)
theorem o1 (a:D) (n:Nat) :(ft a n).toNat=eG a.toNat n:=by have:=sA a.toNat n;unfold ft;rw[fP];exact ed F
theorem Dj (x y:D) (h:x.toNat<1000000007) :(nO [x,y]).setWidth 32=BitVec.ofNat 32 (x.toNat*y.toNat % 1000000007):=by
 apply eZ;have j:=y.isLt;have h1:x.toNat*y.toNat<1000000007*4294967296:=by
  calc x.toNat*y.toNat<=1000000007*y.toNat:=ck _ F
   _<1000000007*4294967296:=Nat.mul_lt_mul_of_pos_left (by simpa using j) (by decide)
 have g:(1#64*x.setWidth 64 % 1000000007#64).toNat=x.toNat:=by
  rw[BitVec.one_mul,ng,fx];rw[ed (show x.toNat<2 ^ 64 by omega),show (1000000007#64).toNat=1000000007 from rfl,ed h]
 simp only[nO,xV,List.foldl_nil,fx,ng,va,g,fP];rw[ed (show y.toNat<2 ^ 64 by omega),ed (show x.toNat*y.toNat<2 ^ 64 by omega),ed (show 1000000007<2 ^ 64 by decide)]
theorem TA (a:D) (n:Nat) :(nO [ft a n,ft a n]).setWidth 32=ft a (2*n):=by rw[Dj _ _ (by rw[o1];exact sA _ _),o1,J2];rfl
theorem mul_one (a:D) (n:Nat) :(nO [ft a n,a]).setWidth 32=ft a (n+1):=by rw[Dj _ _ (by rw[o1];exact sA _ _),o1,J0];rfl
theorem xf {l:ae} {b:Nat} {x y:D} (h:l[b]?=some (.q 2 [bg x,bg y])) :fp (aZ l) (.Z 1 b 0 2 2 2) (b4 1 eb (some [x,y])):=by refine Ac (rest:=[]) (es:=[[bg x],[bg y]]) (by simpa using h) rfl V (by simp[am,U.ar])
theorem Rk:fJ prog 256=true:=bn
theorem XO {x:D} {l:ae} {K:cB} (g:∀ v rest,K v (.q 1 [bg ((nO [x,x]).setWidth 32)] ::rest)) :cM 256 [.ptr 0 0 1] (.q 1 [bg x] ::l) K:=by apply c1 func256 [];simp;refine ig (Dk [x,x] V) (.cons (.same _ rfl) (.cons (xf V) .nil)) rfl ?_;simp;exact g _ _
theorem Ic (n k:Nat) (hk:k<64) :n / 2 ^ (63 - k)=2*(n / 2 ^ (64 - k))+n / 2 ^ (63 - k) % 2:=by
 have:2 ^ (64 - k)=2 ^ (63 - k)*2:=by rw[<-Nat.pow_succ];congr 1;omega
 rw[this,<-Nat.div_div_eq_div_mul];omega
theorem DO (a:D) (n:Q) :aU 215 [bg a,c6 n] (bg (ft a n.toNat)):=by
 apply a2 func215 [];simp;refine bB 64 (fun k g l=>g 0=bg a/\g 1=c6 n/\g 5=.ptr 0 0 1/\g 6=.fn 256 [] [.ptr 0 0 1]/\g 9=.i6 k/\∃ r,l=.q 1 [bg (ft a (n.toNat / 2 ^ (64 - k)))] ::r) ?_ (by
  have:n.toNat / 2 ^ 64=0:=qq n.isLt;simp[this,ft,eG];rfl)
 rintro k g l hk ⟨p,t,v,w,z,r,rfl⟩;obtain⟨g,rfl⟩:=gu p t v w z;clear p t v w z;by_cases h:(k:Int)<64
 ·have B:IntKind.i64.wrap ((k:Int)+1)=(k+1:Nat):=wrap_i64 F F;have J:IntKind.i64.wrap (63 - (k:Int))=((63 - k:Nat) :Int):=by rw[wrap_i64 F F];omega
  have m:=Ic n.toNat k F;have I:cz .shr .u64 (u n) .i64 ((63 - k:Nat) :Int)=some (.int .u64 (u (n >>> (63 - k)))):=qG n .i64 (63 - k);have C:64 - (k+1)=63 - k:=F;simp[h];refine⟨Rk,?_⟩;simp;refine XO fun K rest=>?_
  simp[J,I,TA];rw[C];by_cases j:n.toNat / 2 ^ (63 - k) % 2=1
  ·have o:n >>> (63 - k) &&& 1#64=1#64:=by
    apply eZ;rw[A9,lG,hG];show _ &&& 1=1;rw[Nat.and_one_is_mod,j]
   rw[j] at m;have H:ft a (2*(n.toNat / 2 ^ (64 - k))+1)=ft a (n.toNat / 2 ^ (63 - k)):=by rw[<-m]
   simp[o,Mn];refine ig (Dk [ft a (2*(n.toNat / 2 ^ (64 - k))),a] V) (.cons (.same _ rfl) (.cons (xf V) .nil)) rfl ?_;rw[mul_one,H];simp[B];omega
  ·have j:n.toNat / 2 ^ (63 - k) % 2=0:=F;have o:n >>> (63 - k) &&& 1#64=0#64:=by
    apply eZ;rw[A9,lG,hG];show _ &&& 1=0;rw[Nat.and_one_is_mod,j]
   rw[j,nm] at m;simp[o,B];rw[<-m];exact⟨F,rfl⟩
 ·have G:k=64:=F;subst G;simp;exact aF
theorem DS (a b:Q) (g:b≠0#64) :cz .quo .u64 (u a) .u64 (u b)=some (.int .u64 (u (a / b))):=by
 have h:(b.toNat:Int)≠0:=fun e=>g (eZ (by simpa using e))
 show (if IntKind.u64=IntKind.u64/\(b.toNat:Int)≠0 then some (U.int .u64 (IntKind.u64.wrap ((a.toNat:Int).tdiv b.toNat))) else none)=_;rw[ak ⟨rfl,h⟩,u6];congr 2;have:((a.toNat:Int).tdiv b.toNat)=((a.toNat / b.toNat:Nat) :Int):=rfl;rw[this,oa];congr 1;apply eZ;rw[fP,rC];exact ed (Nat.lt_of_le_of_lt (FH _ _) a.isLt)
theorem Kn (x:Q) :cz .quo .u64 (u x) .u64 2=some (.int .u64 (u (x / 2#64))):=DS x 2#64 (by decide)
theorem KN (x:Q) :cz .rem .u64 (u x) .u64 2=some (.int .u64 (u (x % 2#64))):=tz x 2#64 (by decide)
theorem ul (x y:Q) (g:x.toNat<4294967296) (h:y.toNat<4294967296) :(x*y % 1000000007#64).toNat=x.toNat*y.toNat % 1000000007:=by
 have h1:x.toNat*y.toNat<18446744073709551616:=by
  calc x.toNat*y.toNat<=4294967295*y.toNat:=ck _ F
   _<=4294967295*4294967295:=Nat.mul_le_mul_left _ F
   _<18446744073709551616:=by decide
 rw[ng,va,ed (show x.toNat*y.toNat<2 ^ 64 by omega)];rfl
theorem Vy (o b m:Nat) (h:m % 2=1) :o*b % 1000000007*(b*b % 1000000007) ^ (m / 2) % 1000000007=o*b ^ m % 1000000007:=by
 have g:m=2*(m / 2)+1:=F;rw[vm,Nat.mod_mod,x4 (b*b % 1000000007),Nat.mod_mod,<-x4,<-vm];congr 1;rw[Nat.mul_pow,Nat.mul_assoc,<-rL]
 conv=>rhs;rw[g,Nat.pow_succ]
 rw[Bx b,show 2*(m / 2)=m / 2+m / 2 by omega]
theorem Vx (o b m:Nat) (h:m % 2=0) :o*(b*b % 1000000007) ^ (m / 2) % 1000000007=o*b ^ m % 1000000007:=by
 have g:m=2*(m / 2):=F;rw[vm,x4 (b*b % 1000000007),Nat.mod_mod,<-x4,<-vm];congr 1;rw[Nat.mul_pow,<-rL]
 conv=>rhs;rw[g]
 rw[show 2*(m / 2)=m / 2+m / 2 by omega]
theorem J3 (a n:Q) (O:a.toNat<4294967296) :aU 225 [c6 a,c6 n,.int .u64 1000000007] (c6 (BitVec.ofNat 64 (eG a.toNat n.toNat))):=by
 apply a2 func225 [];simp;refine wJ (fun g m _=>∃ j b c:Q,c.toNat=g/\j.toNat<1000000007/\b.toNat<4294967296/\j.toNat*b.toNat ^ g % 1000000007=eG a.toNat n.toNat/\m 0=c6 b/\m 1=c6 c/\m 2=.int .u64 1000000007/\m 7=c6 j) ?_ n.toNat _ _ ⟨1#64,a,n,rfl,by decide,O,by simp[eG],by simp;rfl⟩;rintro g m l ⟨j,b,c,o,H,h,p,q,t,v,w⟩;obtain⟨m,rfl⟩:=eO q t v w;clear q t v w;have P:(u c:Int)=(g:Int):=by unfold u;rw[o]
 by_cases D:g=0
 ·subst D;have K:c=0#64:=eZ (by simpa using o);simp[K];refine aP ?_ rfl;rw[Nat.pow_zero,oi,ed H] at p;rw[<-p,Fk,BitVec.setWidth_eq]
 ·have R:c≠0#64:=fun e=>D (by rw[<-o,e];rfl)
  have C:(0:Int)<u c:=by rw[P];omega
  have B:(c / 2#64).toNat=g / 2:=by rw[rC,o];rfl
  have G:(c % 2#64).toNat=g % 2:=by rw[ng,o];rfl
  have z:(b*b % 1000000007#64).toNat<4294967296:=by
   rw[ul b b h h];have:=mv (b.toNat*b.toNat) (show 1000000007 > 0 by decide);omega
  by_cases J:g % 2=1
  ·have h1:c % 2#64=1#64:=eZ (by rw[G,J];rfl);simp[C,Ae,Kn,KN,h1,Mn];have I:j.toNat<4294967296:=F;refine⟨g / 2,F,_,_,_,B,?_,z,?_,rfl,rfl,rfl⟩
   ·rw[ul j b I h];exact mv _ (by decide)
   ·rw[ul j b I h,ul b b h h,Vy _ _ _ J,p]
  ·have h1:c % 2#64=0#64:=eZ (by rw[G];simp;omega);simp[C,Ae,Kn,KN,h1];refine⟨g / 2,F,_,_,_,B,H,z,?_,rfl,rfl,rfl⟩;rw[ul b b h h,Vx _ _ _ F,p]
def eX (a:D) :Bool:=decide (0<a.toNat)&&decide (a.toNat<1000000007)&&decide (eG a.toNat 500000003=1)
theorem CS (a:D) :aU 169 [bg a] (.bool (eX a)):=by
 apply a2 func169 [];unfold eX;have h1:((0:Int)<u a)<->0<a.toNat:=by unfold u;omega
 have j:(u a<(1000000007:Int))<->a.toNat<1000000007:=by unfold u;omega
 by_cases g:0<a.toNat
 ·by_cases h:a.toNat<1000000007
  ·simp[h1,j,g,h];refine au (DO a 500000003#64) rfl ?_;have m:(u (ft a 500000003)=(1:Int))<->eG a.toNat 500000003=1:=by unfold u;rw[o1];omega
   have o:(500000003#64:Q).toNat=500000003:=rfl;rw[o];simp[m];exact aP (by simp[g,h]) rfl
  ·simp[h1,j,g,h];exact aF
 ·simp[h1,g];exact aF
theorem KJ (a:D) :aU 180 [bg a] (.bool (eX a)):=by
 apply a2 func180 [];unfold eX;have h1:((1:Int)<=u a)<->0<a.toNat:=by unfold u;omega
 have j:(u a<(1000000007:Int))<->a.toNat<1000000007:=by unfold u;omega
 by_cases g:0<a.toNat
 ·by_cases h:a.toNat<1000000007
  ·simp[h1,j,g,h];refine au (J3 (a.setWidth 64) 500000003#64 (by rw[fx];omega)) rfl ?_;have p:(a.setWidth 64:Q).toNat=a.toNat:=by rw[fx];omega
   have o:(500000003#64:Q).toNat=500000003:=rfl;have q:=sA a.toNat 500000003;have m:(u (BitVec.ofNat 64 (eG a.toNat 500000003))=(1:Int))<->eG a.toNat 500000003=1:=by unfold u;rw[fP,ed F];omega
   rw[o,p];simp[m];exact aP (by simp[g,h]) rfl
  ·simp[h1,j,g,h];exact aF
 ·simp[h1,g];exact aF
def hu (a:D) :Bool:=decide (a.toNat<500000003)
theorem yP (a:D) :aU 182 [bg a] (.bool (hu a)):=by
 apply a2 func182 [];unfold hu;have g:(u (a.setWidth 64)<(500000003:Int))<->a.toNat<500000003:=by unfold u;rw[fx];omega
 simp[g];exact aF
@[simp] theorem Z1 (a b:List UInt8) :tu .eql a b=some (.bool (decide (a=b))):=by by_cases h:a=b<;>simp[tu,h]
abbrev lk (s:List UInt8) (pos:Nat) :Nat × Nat:=Utf8.decode ⟨s.toArray⟩ pos
theorem H8 (s:List UInt8) (pos:Nat) (b:UInt8) (h:s[pos]?=some b) :(ByteArray.get! ⟨s.toArray⟩ pos)=b:=by show (s.toArray)[pos]! = b;obtain⟨h1,g⟩:=aL.1 h;simp[h1,g]
theorem Ql {s:List UInt8} {pos:Nat} {b:UInt8} (h:s[pos]?=some b) (g:b.toNat<128) :lk s pos=(b.toNat,1):=by unfold lk;rw[Lib.decode_at,H8 s pos b h];unfold Lib.decodeN;rw[ak g]
theorem Qk {s:List UInt8} {pos:Nat} {b:UInt8} (h:s[pos]?=some b) (g:128<=b.toNat) :128<=(lk s pos).1:=by
 unfold lk;rw[Lib.decode_at,H8 s pos b h];unfold Lib.decodeN;rw[ai F]
 repeat' split
 all_goals (simp only;omega)
theorem Hm (s:List UInt8) (pos:Nat) :1<=(lk s pos).2:=by
 unfold lk;rw[Lib.decode_at];unfold Lib.decodeN
 repeat' split
 all_goals simp only<;>omega
def iS (p:Nat->Bool) (s:List UInt8) :Nat->Nat->Int
 | 0,_=>-1
 | n+1,pos=>if pos<s.length then (if p (lk s pos).1 then (pos:Int) else iS p s n (pos+(lk s pos).2)) else -1
theorem CV (p:Nat->Bool) (s:List UInt8) :∀ (n pos:Nat),s.length - pos<=n->iS p s n pos=iS p s (s.length - pos) pos
 | 0,pos,h=>by rw[show s.length - pos=0 by omega]
 | n+1,pos,h=>by
  by_cases g:pos<s.length
  ·have j:=Hm s pos;rw[show s.length - pos=(s.length - pos - 1)+1 by omega];unfold iS;rw[ak g,ak g,CV p s n _ F,CV p s (s.length - pos - 1) _ F]
  ·rw[show s.length - pos=0 by omega];unfold iS;rw[ai g]
def kw (g r:Nat) :Bool:=decide (r<g)||decide (126<r)
def fM (g:Nat) (b:UInt8) :Bool:=decide (g<=b.toNat)&&decide (b.toNat<=126)
theorem CU (g:Nat) (u:g<=128) (s:List UInt8) :∀ (n pos:Nat),s.length - pos<=n->(iS (kw g) s n pos<0<->(s.drop pos).all (fM g)=true)
 | 0,pos,h=>by
  rw[k6 F];simp[iS]
 | n+1,pos,h=>by
  unfold iS;by_cases o:pos<s.length
  ·rw[ak o,oc o,Fs];have p:s[pos]?=some s[pos]:=bM o;obtain⟨b,t⟩:=al (s[pos]);rw[<-t] at p ⊢;by_cases v:b.toNat<128
   ·rw[Ql p v];simp only;have m:fM g b=!kw g b.toNat:=by
     unfold fM kw;by_cases h1:b.toNat<g<;>by_cases q:126<b.toNat<;>simp[h1,q]<;>omega
    cases j:kw g b.toNat with
    | true=>rw[m,j];simp
    | false=>
     rw[m,j];simp only[jq,if_false,rE,lH];exact CU g u s n (pos+1) F
   ·have w:=Qk p F;have j:kw g (lk s pos).1=true:=by unfold kw;simp;omega
    have m:fM g b=false:=by unfold fM;simp;omega
    rw[j,m];simp
  ·rw[ai o,k6 F];simp
theorem TK {s:List UInt8} {pos:Nat} {r:ae} (h:pos<s.length) :cP (.iter s pos::r) (.it 0)=some (.aX [.bool true,.i6 pos,.int .i32 (lk s pos).1],.iter s (pos+(lk s pos).2) ::r):=by unfold cP;simp only[hl];rw[show Nat.blt pos s.length=true from Nat.ble_eq_true_of_le h];rfl
theorem TJ {s:List UInt8} {pos:Nat} {r:ae} (h:¬ pos<s.length) :cP (.iter s pos::r) (.it 0)=some (.aX [.bool false],.iter s pos::r):=by unfold cP;simp only[hl];rw[show Nat.blt pos s.length=false by cases g:Nat.blt pos s.length with | false=>rfl | true=>exact bV (x2 g) h]
theorem RV {g:cj} {p:Nat->Bool} (z:fJ prog g=true) (D:∀ r:Nat,aU g [.int .i32 r] (.bool (p r))) (s:List UInt8) :
  aU 280 [.str s,.fn g [] [],.bool true] (.i6 (iS p s s.length 0)):=by
 apply a2 func280 [];simp[xe];refine wJ (fun m o l=>∃ pos,s.length - pos=m/\iS p s m pos=iS p s s.length 0/\o 1=.fn g [] []/\o 2=.bool true/\o 10=.it 0/\l=[.iter s pos]) ?_ s.length _ _ ⟨0,V⟩;rintro m o l ⟨pos,H,j,q,u,t,rfl⟩;obtain⟨o,rfl⟩:=gF q u t;clear q u t;by_cases h:pos<s.length
 ·have C:m=(m - 1)+1:=F;have I:=Hm s pos;obtain⟨G,w⟩:=al (iS p s s.length 0);rw[<-w] at j ⊢;rw[C] at j;unfold iS at j;rw[ak h] at j;simp[TK h];refine⟨z,au (D _) rfl ?_⟩;cases v:p (lk s pos).1 with
  | true=>
   rw[v] at j;simp;exact aP (by rw[<-j];simp) rfl
  | false=>
   rw[v] at j;simp;refine⟨s.length - (pos+(lk s pos).2),F,pos+(lk s pos).2,rfl,?_,V,V,V,V⟩;rw[<-j];simp only[jq,if_false];rw[CV p s (m - 1) _ F]
 ·have B:m=0:=F;subst B;simp[TJ h];exact aP (by rw[<-j];rfl) rfl
theorem LP {g:cj} {p:Nat->Bool} (h:fJ prog g=true) (j:∀ r:Nat,aU g [.int .i32 r] (.bool (p r))) (s:List UInt8) :
  aU 257 [.str s,.fn g [] []] (.i6 (iS p s s.length 0)):=by apply a2 func257 [];simp;refine au (RV h j s) rfl ?_;simp;exact aF
theorem Sv (r:Nat) :aU 258 [.int .i32 r] (.bool (kw 33 r)):=by
 apply a2 func258 [];unfold kw;have h1:((r:Int)<33)<->r<33:=F;have g:((126:Int)<r)<->126<r:=F;by_cases h:r<33
 ·simp[h1,h];exact aF
 ·simp[h1,h,g];exact aF
theorem Yb (r:Nat) :aU 282 [.int .i32 r] (.bool (kw 32 r)):=by
 apply a2 func282 [];unfold kw;have h1:((r:Int)<32)<->r<32:=F;have g:((126:Int)<r)<->126<r:=F;by_cases h:r<32
 ·simp[h1,h];exact aF
 ·simp[h1,h,g];exact aF
theorem Rg:fJ prog 258=true:=bn
theorem Rl:fJ prog 282=true:=bn
def hy (s:List UInt8) :Bool:=decide (1<=s.length)&&decide (s.length<=20)&&s.all (fM 33)
theorem C1 (s:List UInt8) :aU 216 [.str s] (.bool (hy s)):=by
 apply a2 func216 [];unfold hy;have h1:((1:Int)<=s.length)<->1<=s.length:=F;have o:((s.length:Int)<=20)<->s.length<=20:=F;by_cases g:1<=s.length
 ·by_cases j:s.length<=20
  ·simp[h1,o,g,j];refine au (LP Rg Sv s) rfl ?_;have:=CU 33 F s s.length 0 F;rw[lI] at this;have p:decide (iS (kw 33) s s.length 0<0)=s.all (fM 33):=by
    cases m:s.all (fM 33) with
    | true=>simpa using this.2 m
    | false=>
     have:¬ iS (kw 33) s s.length 0<0:=fun h=>by rw[this.1 h] at m;cases m
     simpa using this
   simp;rw[p];exact aP (by simp[g,j]) rfl
  ·simp[h1,o,g,j];exact aP V rfl
 ·simp[h1,g];exact aP V rfl
theorem Ga {s:List UInt8} {p:UInt8->Bool} {k:Nat} {b:UInt8} (h:s[k]?=some b) :(s.take (k+1)).all p=((s.take k).all p&&p b):=by rw[ei,h];simp[List.all_append]
theorem yf {s:List UInt8} {p:UInt8->Bool} {k:Nat} {b:UInt8} (h:s[k]?=some b) (g:p b=false) :s.all p=false:=by rw[List.all_eq_false];exact⟨b,cJ h,by simp[g]⟩
theorem Dl (s:List UInt8) :aU 226 [.str s] (.bool (hy s)):=by
 apply a2 func226 [];have h1:((s.length:Int)<1)<->¬ 1<=s.length:=F;have C:((20:Int)<s.length)<->¬ s.length<=20:=F;by_cases g:1<=s.length
 ·by_cases m:s.length<=20
  ·simp[h1,C,g,m];refine bB s.length (fun k q _=>q 0=.str s/\q 3=.i6 k/\(s.take k).all (fM 33)=true) ?_ V;rintro k q l hk ⟨z,B,u⟩;obtain⟨q,rfl⟩:=kk z B;clear z B;by_cases h:k<s.length
   ·obtain⟨b,o,_⟩:=aQ h;have G:IntKind.i64.wrap ((k:Int)+1)=(k+1:Nat):=wrap_i64 F F;have t:((b.toNat:Int)<33)<->¬ 33<=b.toNat:=F;have w:((126:Int)<b.toNat)<->¬ b.toNat<=126:=F;have v:tZ (.str s) (.i6 k)=some (.int .u8 b.toNat):=by simp[o,hr]
    by_cases q1:33<=b.toNat
    ·by_cases p:b.toNat<=126
     ·have j:fM 33 b=true:=by simp[fM,q1,p]
      simp[h,v,t,w,q1,p,G,Ga o,j,-ub];simpa using u
     ·have j:fM 33 b=false:=by simp[fM,p]
      simp[h,v,t,w,q1,p,-ub];exact aP (by simp[hy,yf o j]) rfl
    ·have j:fM 33 b=false:=by simp[fM,q1]
     simp[h,v,t,q1,-ub];exact aP (by simp[hy,yf o j]) rfl
   ·have D:k=s.length:=F;subst D;rw[e0] at u;simp;exact aP (by simp only[hy,u];simp[g,m]) rfl
  ·simp[h1,C,g,m];exact aP (by simp[hy,m]) rfl
 ·simp[h1,g];exact aP (by simp[hy,g]) rfl
theorem Vh (s:List UInt8) (C:s.length<=1000000000) :aU 264 [.str s] (.bool (s.all (fM 32))):=by
 apply a2 func264 [];simp;refine bB s.length (fun k o _=>o 0=.str s/\o 3=.i6 k/\(s.take k).all (fM 32)=true) ?_ V;rintro k o l hk ⟨v,w,q⟩;obtain⟨o,rfl⟩:=kk v w;clear v w;by_cases h:k<s.length
 ·obtain⟨b,j,_⟩:=aQ h;have B:IntKind.i64.wrap ((k:Int)+1)=(k+1:Nat):=wrap_i64 F F;have p:((b.toNat:Int)<32)<->¬ 32<=b.toNat:=F;have u:((126:Int)<b.toNat)<->¬ b.toNat<=126:=F;have t:tZ (.str s) (.i6 k)=some (.int .u8 b.toNat):=by simp[j,hr]
  by_cases q1:32<=b.toNat
  ·by_cases m:b.toNat<=126
   ·have g:fM 32 b=true:=by simp[fM,q1,m]
    simp[h,t,p,u,q1,m,B,Ga j,g,-ub];simpa using q
   ·have g:fM 32 b=false:=by simp[fM,m]
    simp[h,t,p,u,q1,m,-ub];exact aP (by simp only[yf j g]) rfl
  ·have g:fM 32 b=false:=by simp[fM,q1]
   simp[h,t,p,q1,-ub];exact aP (by simp only[yf j g]) rfl
 ·have z:k=s.length:=F;subst z;rw[e0] at q;simp;exact aP (by simp only[q]) rfl
structure gS where
 kind:B
 num:Int
 bits:Q
 text:List UInt8
def dJ (v:gS) :ag:=[a7 v.kind,.i6 v.num,c6 v.bits,.str v.text]
def ph:gS:=⟨0#8,0,0#64,[]⟩
def h8 (b:Q) :Nat:=b.toNat / 4503599627370496 % 2048
def mI (b:Q) :Q:=b % 4503599627370496#64
def cls (b:Q) :B:=if h8 b=2047 then (if mI b=0#64 then 4#8 else 5#8) else if h8 b=0 then (if mI b=0#64 then 1#8 else 2#8) else 3#8
def ky (b:Q) :Q:=if cls b=5#8 then 9221120237041090560#64 else b
theorem g0 (k:B) :((u k:Int)=1)<->k=1#8:=hZ k 1#8
theorem jn (k:B) :((u k:Int)=2)<->k=2#8:=hZ k 2#8
theorem n3 (k:B) :((u k:Int)=3)<->k=3#8:=hZ k 3#8
theorem rr (k:B) :((u k:Int)=4)<->k=4#8:=hZ k 4#8
theorem AR (k:B) :((u k:Int)=5)<->k=5#8:=hZ k 5#8
theorem YB (k:B) :((u k:Int)=0)<->k=0#8:=hZ k 0#8
theorem sD (k:Q) :((u k:Int)=0)<->k=0#64:=hZ k 0#64
theorem HF (b:Q) :h8 b<2048:=mv _ (by decide)
theorem Ou (n:Nat) (h:n<9223372036854775808) :cz .and .i64 (n:Int) .i64 2047=some (.i6 ((n % 2048:Nat) :Int)):=by
 show some (U.i6 (IntKind.i64.wrap ((BitVec.ofInt 64 (n:Int) &&& BitVec.ofInt 64 (2047:Int)).toNat:Int)))=_;have h1:(BitVec.ofInt 64 (n:Int) &&& BitVec.ofInt 64 (2047:Int)).toNat=n % 2048:=by
  rw[oa,A9,fP,ed F];exact M0 n 11
 have g:=mv n (show 2048 > 0 by decide);rw[h1];generalize n % 2048=q at g;rw[wrap_i64 F F]
theorem Ro (b:Q) :b &&& 4503599627370495#64=mI b:=by apply eZ;unfold mI;rw[A9,ng];exact M0 b.toNat 52
theorem XL (b:Q) :aU 292 [c6 b] (.aX [.i6 (h8 b),c6 (mI b)]):=by
 apply a2 func292 [];have p:=b.isLt;have h1:IntKind.i64.wrap (u (b >>> 52))=((b.toNat / 4503599627370496:Nat) :Int):=by
  have:u (b >>> 52)=((b.toNat / 4503599627370496:Nat) :Int):=by unfold u;rw[lG,hG]
  rw[this,wrap_i64 F F]
 have g:=Ou (b.toNat / 4503599627370496) F;have m:h8 b=b.toNat / 4503599627370496 % 2048:=rfl;rw[<-m] at g;obtain⟨q,o⟩:∃ q,b.toNat / 4503599627370496=q:=⟨_,rfl⟩
 rw[o] at h1 g;have h:cz .and .u64 (u b) .u64 4503599627370495=some (c6 (mI b)):=by
  rw[Gq,q4,<-Ro];rfl
 have j:cz .shr .u64 (u b) .u64 52=some (.int .u64 (u (b >>> 52))):=qG b .u64 52;simp[j,h1,g,h,-Gq];exact aF
theorem Wv (b:Q) :aU 289 [c6 b] (.i6 (h8 b)):=by
 apply a2 func289 [];have m:=b.isLt;have h1:cz .rem .u64 (u b) .u64 9223372036854775808=some (c6 (b % 9223372036854775808#64)):=tz b 9223372036854775808#64 (by decide);have g:cz .quo .u64 (u (b % 9223372036854775808#64)) .u64 4503599627370496=some (c6 (b % 9223372036854775808#64 / 4503599627370496#64)):=DS _ 4503599627370496#64 (by decide);have h:IntKind.i64.wrap (u (b % 9223372036854775808#64 / 4503599627370496#64))=(h8 b:Int):=by
  have:u (b % 9223372036854775808#64 / 4503599627370496#64)=(h8 b:Int):=by
   unfold u h8;rw[rC,ng];show (((b.toNat % 9223372036854775808) / 4503599627370496:Nat) :Int)=_;congr 1;omega
  have j:=HF b;rw[this,wrap_i64 F F]
 simp[h1,g,h];exact aF
theorem Ww (b:Q) :aU 290 [c6 b] (c6 (mI b)):=by apply a2 func290 [];have h1:cz .rem .u64 (u b) .u64 4503599627370496=some (c6 (mI b)):=tz b 4503599627370496#64 (by decide);simp[h1];exact aF
theorem Px (b:Q) :aU 288 [c6 b] (a7 (cls b)):=by
 apply a2 func288 [];unfold cls;simp;refine au (XL b) rfl ?_;have h1:((h8 b:Int)=2047)<->h8 b=2047:=F;have m:((h8 b:Int)=0)<->h8 b=0:=F;by_cases h:h8 b=2047
 ·by_cases g:mI b=0#64
  ·simp[h,g];exact aF
  ·simp[h,g,sD];exact aF
 ·by_cases j:h8 b=0
  ·by_cases g:mI b=0#64
   ·simp[g,j];exact aF
   ·simp[g,j,sD];exact aF
  ·simp[h1,h,j];exact aF
theorem Wu (b:Q) :aU 283 [c6 b] (a7 (cls b)):=by
 apply a2 func283 [];unfold cls;simp;refine au (Wv b) rfl ?_;simp;refine au (Ww b) rfl ?_;have o:((h8 b:Int)=0)<->h8 b=0:=F;have m:((h8 b:Int)<2047)<->¬ h8 b=2047:=by have:=HF b;omega
 by_cases j:h8 b=0
 ·by_cases g:mI b=0#64
  ·simp[g,j];exact aF
  ·simp[g,j,sD];exact aF
 ·by_cases h:h8 b=2047
  ·by_cases g:mI b=0#64
   ·simp[h,g];exact aF
   ·simp[h,g,sD];exact aF
  ·simp[m,h,j];exact aF
theorem Ph (b:Q) :aU 281 [c6 b] (c6 (ky b)):=by
 apply a2 func281 [];unfold ky;simp;refine au (Px b) rfl ?_;by_cases h:cls b=5#8
 ·simp[AR,h];exact aF
 ·simp[AR,h];exact aF
theorem Ws (b:Q) :aU 263 [c6 b] (c6 (ky b)):=by
 apply a2 func263 [];unfold ky;simp;refine au (Wu b) rfl ?_;by_cases h:cls b=5#8
 ·simp[AR,h];exact aF
 ·simp[AR,h];exact aF
theorem YH (n:Int) :aU 259 [.i6 n] (.af (dJ ⟨1#8,n,0#64,[]⟩)):=by apply a2 func259 [];simp;exact aF
theorem YG (b:Q) :aU 260 [c6 b] (.af (dJ ⟨2#8,0,ky b,[]⟩)):=by apply a2 func260 [];simp;refine au (Ph b) rfl ?_;simp;exact aF
def pc (s:List UInt8) :gS × Int:=if s.length<=30 then (if s.all (fM 32) then (⟨3#8,0,0#64,s⟩,0) else (ph,8)) else (ph,4)
theorem YO (s:List UInt8) :aU 261 [.str s] (.aX [.af (dJ (pc s).1),.i6 (pc s).2]):=by
 apply a2 func261 [];unfold pc;have j:((30:Int)<s.length)<->¬ s.length<=30:=F;by_cases g:s.length<=30
 ·simp[j,g];refine au (LP Rl Yb s) rfl ?_;have m:=CU 32 F s s.length 0 F;rw[lI] at m;have o:((0:Int)<=iS (kw 32) s s.length 0)<->¬ (s.all (fM 32)=true):=by rw[<-m];omega
  cases p:s.all (fM 32) with
  | true=>
   have h:¬ (0:Int)<=iS (kw 32) s s.length 0:=by rw[o,p];simp
   simp[h];exact aP (by simp[g];rfl) rfl
  | false=>
   have h:(0:Int)<=iS (kw 32) s s.length 0:=by rw[o,p];simp
   simp[h];exact aP (by simp[g];rfl) rfl
 ·simp[j,g];exact aF
def iI (v:gS) :Bool:=
 if v.kind=1#8 then decide (v.bits=0#64)&&decide (v.text=[])
 else if v.kind=2#8 then decide (v.num=0)&&decide (v.text=[])&&decide (ky v.bits=v.bits)
 else if v.kind=3#8 then decide (v.num=0)&&decide (v.bits=0#64)&&decide (v.text.length<=30)&&v.text.all (fM 32)
 else false
def j3 (b:Bool) :Int:=if b then 0 else 8
def St:List kv:=[.i .u8,.i .i64,.i .u64,.s]
theorem IM:mP prog 20 49=some St:=bn
theorem YP (a b:gS) :ea prog .eql 49 (.af (dJ a)) (.af (dJ b))=some (.bool (dz (dJ a) (dJ b))):=vL IM bn bn rfl rfl
theorem YQ (a b:gS) :ea prog .neq 49 (.af (dJ a)) (.af (dJ b))=some (.bool (!dz (dJ a) (dJ b))):=BQ IM bn bn rfl rfl
theorem Gw (a b:gS) :dz (dJ a) (dJ b)=(decide (a.kind=b.kind)&&(decide (a.num=b.num)&&(decide (a.bits=b.bits)&&decide (a.text=b.text)))):=by simp[dJ,dz,U.beq]
theorem E7 {v:gS} (k:v.kind=1#8) :iI v=(decide (v.bits=0#64)&&decide (v.text=[])):=by simp[iI,k]
theorem E8 {v:gS} (k:v.kind=2#8) :iI v=(decide (v.num=0)&&(decide (v.bits=ky v.bits)&&decide (v.text=[]))):=by unfold iI;rw[ai (by rw[k];decide),ak k,show decide (ky v.bits=v.bits)=decide (v.bits=ky v.bits) from decide_eq_decide.2 eq_comm];cases decide (v.num=0)<;>cases decide (v.text=[])<;>cases decide (v.bits=ky v.bits)<;>rfl
theorem Mz {v:gS} (k:v.kind=3#8) :iI v=(decide (v.kind=(pc v.text).1.kind)&&(decide (v.num=(pc v.text).1.num)&&(decide (v.bits=(pc v.text).1.bits)&&decide (v.text=(pc v.text).1.text)))):=by
 unfold iI pc;rw[ai (by rw[k];decide),ai (by rw[k];decide),ak k];by_cases h1:v.text.length<=30
 ·cases g:v.text.all (fM 32) with
  | true=>simp[h1,k]
  | false=>simp[h1,k,ph]
 ·simp[h1,k,ph]
theorem E9 {v:gS} (g:v.kind≠1#8) (h:v.kind≠2#8) (j:v.kind≠3#8) :iI v=false:=by simp[iI,g,h,j]
theorem Mx (v:gS) :aU 217 [.af (dJ v)] (.i6 (j3 (iI v))):=by
 apply a2 func217 [];have o:∀ (k:B) (n:Int) (b:Q) (m:List UInt8),ea prog .neq 49 (.af [a7 v.kind,.i6 v.num,c6 v.bits,.str v.text]) (.af [a7 k,.i6 n,c6 b,.str m])=some (.bool (!(decide (v.kind=k)&&(decide (v.num=n)&&(decide (v.bits=b)&&decide (v.text=m)))))):=fun k n b m=>by rw[<-Gw v ⟨k,n,b,m⟩];exact YQ v ⟨k,n,b,m⟩
 by_cases g:v.kind=1#8
 ·have h1:=o 1#8 v.num 0#64 [];simp only[g] at h1;unfold dJ;simp[g0,g];refine au (YH v.num) rfl ?_;unfold dJ;simp[h1];rw[E7 g];cases decide (v.bits=0#64)<;>cases decide (v.text=[])<;>simp[g]<;>exact aF
 ·by_cases h:v.kind=2#8
  ·have h1:=o 2#8 0 (ky v.bits) [];simp only[h] at h1;unfold dJ;simp[g0,jn,h];refine au (YG v.bits) rfl ?_;unfold dJ;simp[h1];rw[E8 h];cases decide (v.num=0)<;>cases decide (v.bits=ky v.bits)<;>cases decide (v.text=[])<;>simp[h]<;>exact aF
  ·by_cases j:v.kind=3#8
   ·obtain⟨w,t⟩:=al ((pc v.text).1);have h1:=o w.kind w.num w.bits w.text;have q:=Mz j;rw[<-t] at q;simp only[j] at h1 q;unfold dJ;simp[g0,jn,n3,j];refine au (YO v.text) rfl ?_;rw[<-t];unfold dJ;simp[h1];rw[q];cases decide (3#8=w.kind)<;>cases decide (v.num=w.num)<;>cases decide (v.bits=w.bits)<;>cases decide (v.text=w.text)<;>simp[j]<;>exact aF
   ·have h1:ea prog .neq 49 (.af [a7 v.kind,.i6 v.num,c6 v.bits,.str v.text]) (.af [.int .u8 0,.i6 0,.int .u64 0,.str []])=some (.bool (!(decide (v.kind=0#8)&&(decide (v.num=0)&&(decide (v.bits=0#64)&&decide (v.text=[])))))):=o 0#8 0 0#64 [];rw[E9 g h j];unfold dJ;simp[g0,jn,n3,g,h,j];by_cases p:v.kind=0#8
    ·simp only[p,ol,lH] at h1;simp[p,h1];cases decide (v.num=0)<;>cases decide (v.bits=0#64)<;>cases decide (v.text=[])<;>simp[p]<;>exact aF
    ·simp only[p,vq,rD,rE] at h1;simp[h1];exact aF
theorem Wy (v:gS) :aU 227 [.af (dJ v)] (.i6 (j3 (iI v))):=by
 apply a2 func227 [cT 0 11++[[12],[13],[11,13]]];by_cases o:v.kind=1#8
 ·rw[E7 o];unfold dJ;simp[g0,o,sD];by_cases g:v.bits=0#64<;>by_cases j:v.text=[]<;>simp[g,j]<;>exact aF
 ·by_cases p:v.kind=2#8
  ·rw[E8 p];unfold dJ;simp[g0,jn,p];by_cases g:v.num=0
   ·by_cases j:v.text=[]
    ·simp[g,j];refine au (Ws v.bits) rfl ?_;by_cases m:v.bits=ky v.bits
     ·have t:ky v.bits=v.bits:=m.symm;simp[t];exact aP (by simp[j3,g,j]) rfl
     ·have t:¬ ky v.bits=v.bits:=fun h=>m h.symm
      simp[m,t];exact aP (by simp[j3]) rfl
    ·simp[g,j];exact aF
   ·simp[g];exact aF
  ·by_cases q:v.kind=3#8
   ·have w:iI v=(decide (v.num=0)&&decide (v.bits=0#64)&&decide (v.text.length<=30)&&v.text.all (fM 32)):=by simp[iI,q]
    have u:((v.text.length:Int)<=30)<->v.text.length<=30:=F;rw[w];unfold dJ;simp[g0,jn,n3,q];by_cases g:v.num=0
    ·by_cases j:v.bits=0#64
     ·by_cases m:v.text.length<=30
      ·simp[g,j,u,m];refine au (Vh v.text F) rfl ?_;cases v.text.all (fM 32)<;>simp<;>exact aP (by simp[j3,g,j,m]) rfl
      ·simp[g,j,u,m];exact aF
     ·simp[g,j,sD];exact aF
    ·simp[g];exact aF
   ·rw[E9 o p q];unfold dJ;simp[g0,jn,n3,o,p,q];exact aF
structure Act where
 kind:B
 key:List UInt8
 val:gS
def e4 (a:Act) :ag:=[a7 a.kind,.str a.key,a7 a.val.kind,.i6 a.val.num,c6 a.val.bits,.str a.val.text]
def lq (v:gS) :Bool:=decide (v.kind=0#8)&&(decide (v.num=0)&&(decide (v.bits=0#64)&&decide (v.text=[])))
def iP (a:Act) :Bool:=
 if a.kind=1#8 then decide (a.key=[])&&lq a.val
 else if a.kind=2#8\/a.kind=3#8 then hy a.key&&lq a.val
 else if a.kind=4#8 then hy a.key&&iI a.val
 else false
def mM:List kv:=[.i .u8,.s,.i .u8,.i .i64,.i .u64,.s]
theorem Sy:mP prog 20 51=some mM:=bn
theorem yd (a b:Act) :ea prog .eql 51 (.af (e4 a)) (.af (e4 b))=some (.bool (dz (e4 a) (e4 b))):=vL Sy bn bn rfl rfl
theorem Oi (a:Act) (h:a.kind=1#8) :ea prog .eql 51 (.af [.int .u8 1,.str a.key,a7 a.val.kind,.i6 a.val.num,c6 a.val.bits,.str a.val.text]) (.af [.int .u8 1,.str [],.int .u8 0,.i6 0,.int .u64 0,.str []])=some (.bool (decide (a.key=[])&&lq a.val)):=by have:=yd a ⟨1#8,[],ph⟩;simp only[e4,h] at this;refine Eq.trans this ?_;simp[dz,U.beq,lq,ph,YB,sD];congr
theorem My (v:gS) :ea prog .eql 49 (.af [a7 v.kind,.i6 v.num,c6 v.bits,.str v.text]) (.af [.int .u8 0,.i6 0,.int .u64 0,.str []])=some (.bool (lq v)):=by have:=YP v ph;rw[Gw] at this;exact this
theorem F6 {a:Act} (k:a.kind=1#8) :iP a=(decide (a.key=[])&&lq a.val):=by simp[iP,k]
theorem BH {a:Act} (k:a.kind=2#8) :iP a=(hy a.key&&lq a.val):=by simp[iP,k]
theorem BI {a:Act} (k:a.kind=3#8) :iP a=(hy a.key&&lq a.val):=by simp[iP,k]
theorem vE {a:Act} (k:a.kind=4#8) :iP a=(hy a.key&&iI a.val):=by simp[iP,k]
theorem BJ {a:Act} (g:a.kind≠1#8) (h:a.kind≠2#8) (j:a.kind≠3#8) (m:a.kind≠4#8) :iP a=false:=by simp[iP,g,h,j,m]
theorem Pr (a:Act) :aU 170 [.af (e4 a)] (.i6 (j3 (iP a))):=by
 apply a2 func170 [];by_cases g:a.kind=1#8
 ·have h1:=Oi a g;have o:a7 (1#8)=.int .u8 1:=rfl;rw[F6 g];unfold e4;simp[g,o,h1];by_cases p:a.key=[]<;>cases q:lq a.val<;>simp[p]<;>exact aF
 ·have h1:=My a.val;by_cases h:a.kind=2#8
  ·rw[BH h];unfold e4;simp[g0,jn,h];refine au (C1 a.key) rfl ?_;cases hy a.key with
   | true=>simp[h1];cases lq a.val<;>simp<;>exact aF
   | false=>simp;exact aF
  ·by_cases j:a.kind=3#8
   ·rw[BI j];unfold e4;simp[g0,jn,n3,j];refine au (C1 a.key) rfl ?_;cases hy a.key with
    | true=>simp[h1];cases lq a.val<;>simp<;>exact aF
    | false=>simp;exact aF
   ·by_cases m:a.kind=4#8
    ·rw[vE m];unfold e4;simp[g0,jn,n3,rr,m];refine au (C1 a.key) rfl ?_;cases hy a.key with
     | true=>
      simp;refine au (Mx a.val) rfl ?_;cases iI a.val<;>simp[j3]<;>exact aF
     | false=>simp;exact aF
    ·rw[BJ g h j m];unfold e4;simp[g0,jn,n3,rr,g,h,j,m];exact aF
theorem Wt (a:Act) :aU 181 [.af (e4 a)] (.i6 (j3 (iP a))):=by
 apply a2 func181 [];have h1:=My a.val;by_cases g:a.kind=1#8
 ·rw[F6 g];unfold e4;simp[g0,g,h1];by_cases o:a.key=[]<;>cases p:lq a.val<;>simp[o]<;>exact aF
 ·by_cases h:a.kind=2#8
  ·rw[BH h];unfold e4;simp[g0,jn,h,h1];refine au (Dl a.key) rfl ?_;cases hy a.key with
   | true=>simp;cases lq a.val<;>simp<;>exact aF
   | false=>simp;exact aF
  ·by_cases j:a.kind=3#8
   ·rw[BI j];unfold e4;simp[g0,jn,n3,j,h1];refine au (Dl a.key) rfl ?_;cases hy a.key with
    | true=>simp;cases lq a.val<;>simp<;>exact aF
    | false=>simp;exact aF
   ·by_cases m:a.kind=4#8
    ·rw[vE m];unfold e4;simp[g0,jn,n3,rr,m,h1];refine au (Dl a.key) rfl ?_;cases hy a.key with
     | true=>
      simp;refine au (Wy a.val) rfl ?_;cases iI a.val<;>simp[j3]<;>exact aF
     | false=>simp;exact aF
    ·rw[BJ g h j m];unfold e4;simp[g0,jn,n3,rr,g,h,j,m,h1];exact aF
end Op
def cd {alZ:Type} (z:Nat) (enc:alZ->ag) (l l1:ae) (v:U) (a:List alZ) (h:Bool) :Prop:=
 ∃ g,aH z l1 v g (a.map enc)/\l.length<=l1.length/\(∀ b,b<l.length->l1[b]?=l[b]?)/\(v=.ad\/l.length<=g)/\bq v=h
section
variable {alZ:Type} {z:Nat} {enc:alZ->ag} {l l1:ae} {v:U} {a:List alZ} {nl:Bool}
theorem cd.nil:cd z enc l l .ad ([] :List alZ) true:=⟨0,.nil 0,aN _,fun _ _=>rfl,.inl rfl,rfl⟩
theorem cd.more (h:cd z enc l l1 v a nl) (r:ae) :cd z enc l (l1++r) v a nl:=by obtain⟨p,h1,q,g,j,m⟩:=h;exact⟨p,h1.more r,by simp;omega,fun b o=>by rw[aV F];exact g b o,j,m⟩
theorem cd.len (h:cd z enc l l1 v a nl) :bD (.Z z) v=some (.i6 a.length):=by obtain⟨g,h1,_⟩:=h;rw[h1.len,ce]
theorem cd.cells (h:cd z enc l l1 v a nl) :v.cells=some [v]:=by obtain⟨g,h1,_⟩:=h;exact h1.cells
theorem cd.contents (h:cd z enc l l1 v a nl) :cq l1 z v=some ((a.map enc).flatten,a.length):=by obtain⟨g,h1,_⟩:=h;rw[h1.contents,ce]
theorem cd.le (h:cd z enc l l1 v a nl) :l.length<=l1.length:=by obtain⟨j,h1,g,_⟩:=h;exact g
theorem cd.same (h:cd z enc l l1 v a nl) :∀ b,b<l.length->l1[b]?=l[b]?:=by obtain⟨m,h1,j,g,_⟩:=h;exact g
theorem cd.o3 (h:cd z enc l l1 v a nl) (j:∀ x,am (enc x)=true) (s:b1 alZ) (m:nl=s.isNone) (o:s.l=a) :fp (aZ l1) v (b4 z enc s):=by obtain⟨u,h1,p,q,t,g⟩:=h;exact h1.mZ j s (by rw[g,m]) o
theorem cd.rd (h:cd z enc l l1 v a nl) (j:∀ x,am (enc x)=true) (s:b1 alZ) (m:nl=s.isNone) (o:s.l=a) :Rd l1 v (b4 z enc s):=by obtain⟨w,h1,p,t,u,g⟩:=h;exact h1.q.gP j s (by rw[g,m]) o
theorem cd.base (h:cd z enc l l1 v a nl) {l0:ae} (u:l0.length<=l.length) (p:∀ b,b<l0.length->l[b]?=l0[b]?) :cd z enc l0 l1 v a nl:=by obtain⟨q,h1,t,g,j,m⟩:=h;exact⟨q,h1,F,fun b o=>by rw[g b F];exact p b o,j.imp id F,m⟩
theorem cd.frame (h:cd z enc l l1 v a nl) {g:ae} (B:l1.length<=g.length) (j:∀ b,b<l1.length->g[b]?=l1[b]?) :cd z enc l g v a nl:=by obtain⟨m,h1,w,o,p,q⟩:=h;exact⟨m,h1.frame fun u=>j m u,F,fun b t=>by rw[j b F];exact o b t,p,q⟩
theorem cd.app (h:cd z enc l l1 v a nl) {by_:Nat} {x:U} {xs:List alZ} (K:cq l1 z x=some ((xs.map enc).flatten,xs.length)) (P:∀ y∈xs,(enc y).length=z) (w:z≠0) (H:by_≠0) (J:(a.length+xs.length)*by_<=dj) :
  ∃ g l',dZ l1 z by_ v x=some (g,l')/\cd z enc l l' g (a++xs) (nl&&xs.isEmpty)/\l1.length<=l'.length:=by
 obtain⟨T,h1,R,B,j,C⟩:=h;obtain⟨g,Q,l',m,o,p,q,t,u⟩:=io (xs:=xs.map enc) h1 (by simpa using K) (fun e I=>by obtain⟨y,O,rfl⟩:=cE.1 I;exact P y O) w H (by simpa using J);refine⟨g,l',m,⟨Q,by rw[cV];exact o,F,fun b G=>?_,?_,?_⟩,p⟩
 ·rw[q b F]
  ·exact B b G
  ·rcases j with h | h
   ·exact .inl h
   ·exact .inr F
 ·rcases t with h | ⟨D,S⟩ | h
  ·exact .inr F
  ·rcases j with h | h
   ·exact bV h D
   ·exact .inr F
  ·exact .inl h
 ·rw[u,C];simp
end
namespace Op
open cl
theorem cd.push {l l1:ae} {v:U} {a:List B} {p:Bool} (h:cd 1 bW l l1 v a p) (x:B) (t:a.length<=1000000000) :
  ∃ g l',dZ (l1++[.q 1 [a7 x]]) 1 1 v (.Z 1 l1.length 0 1 1 1)=some (g,l')/\cd 1 bW l l' g (a++[x]) false:=by have o:=du;obtain⟨g,l',j,m,_⟩:=(h.more [.q 1 [a7 x]]).app (by_:=1) (x:=.Z 1 l1.length 0 1 1 1) (xs:=[x]) (by simp[cq,bW]) (by simp[bW]) F F (by rw[o];simp;omega);exact⟨g,l',j,by simpa using m⟩
theorem wd:∀ a:List B,(a.map bW).flatten=a.map a7
 | []=>rfl
 | x::a=>by rw[dg,hj,wd a];rfl
theorem md {l:ae} {j n:Nat} {a:List B} (g:a.length=n) (m:l[j]?=some (.q n (a.map a7))) :aH 1 l (.Z 1 j 0 n n n) j (a.map bW):=by
 refine .Z j n n n (a.map a7) _ m (by simp[g]) (by simp[g]) (fun e h=>?_) (aN _) F ?_
 ·obtain⟨x,_,rfl⟩:=cE.1 h;rfl
 ·rw[aI (by simp[g]),wd]
def iY (n:Nat) :Nat:=if n<256 then 1 else if n<65536 then 2 else if n<16777216 then 3 else if n<4294967296 then 4 else if n<1099511627776 then 5 else if n<281474976710656 then 6 else if n<72057594037927936 then 7 else 8
theorem zC (n:Nat) :1<=iY n/\iY n<=8:=by unfold iY;refine⟨?_,?_⟩<;>(repeat' split)<;>omega
def jx (n i:Nat) :B:=BitVec.ofNat 8 (n >>> (8*i))
def p9 (n:Nat) :Nat->List B
 | 0=>[]
 | i+1=>jx n i::p9 n i
theorem ET (n:Nat) :∀ i,(p9 n i).length=i
 | 0=>rfl
 | i+1=>by simp[p9,ET n i]
def dD (n:Nat) :List B:=if n<=247 then [BitVec.ofNat 8 n] else BitVec.ofNat 8 (247+iY n) ::p9 n (iY n)
def fq (x:Nat) :Nat:=if x<1 then 0 else if x<2 then 1 else if x<4 then 2 else if x<8 then 3 else if x<16 then 4 else if x<32 then 5 else if x<64 then 6 else if x<128 then 7 else 8
def xD:List UInt8:=[0,1,2,2,3,3,3,3,4,4,4,4,4,4,4,4,5,5,5,5,5,5,5,5,5,5,5,5,5,5,5,5,6,6,6,6,6,6,6,6,6,6,6,6,6,6,6,6,6,6,6,6,6,6,6,6,6,6,6,6,6,6,6,6,7,7,7,7,7,7,7,7,7,7,7,7,7,7,7,7,7,7,7,7,7,7,7,7,7,7,7,7,7,7,7,7,7,7,7,7,7,7,7,7,7,7,7,7,7,7,7,7,7,7,7,7,7,7,7,7,7,7,7,7,7,7,7,7,8,8,8,8,8,8,8,8,8,8,8,8,8,8,8,8,8,8,8,8,8,8,8,8,8,8,8,8,8,8,8,8,8,8,8,8,8,8,8,8,8,8,8,8,8,8,8,8,8,8,8,8,8,8,8,8,8,8,8,8,8,8,8,8,8,8,8,8,8,8,8,8,8,8,8,8,8,8,8,8,8,8,8,8,8,8,8,8,8,8,8,8,8,8,8,8,8,8,8,8,8,8,8,8,8,8,8,8,8,8,8,8,8,8,8,8,8,8,8,8,8,8,8,8,8,8,8,8]
def ER:Nat->List UInt8->Bool
 | _,[]=>true
 | i,x::r=>Nat.beq x.toNat (fq i)&&ER (i+1) r
theorem L4:∀ (i:Nat) (l:List UInt8),ER i l=true->∀ (j:Nat) (x:UInt8),l[j]?=some x->x.toNat=fq (i+j)
 | i,[],_,j,x,h=>by simp at h
 | i,y::r,h,j,x,g=>by
  simp only[ER,bU] at h;cases j with
  | zero=>simp at g;subst g;exact mu h.1
  | succ j=>simp at g;rw[L4 (i+1) r h.2 j x g];congr 1;omega
theorem rq (i:Nat) (h:i<256) :∃ x,xD[i]?=some x/\x.toNat=fq i:=by have j:xD.length=256:=bn;have g:=L4 0 xD bn i _ (bM F);exact⟨_,bM F,by rw[g];congr 1;omega⟩
theorem pS (x:Nat) :fq x<=8:=by unfold fq;(repeat' split)<;>omega
def ia (n:Nat) :Nat:=
 if n<256 then fq n else if n<65536 then 8+fq (n / 256) else if n<16777216 then 16+fq (n / 65536) else if n<4294967296 then 24+fq (n / 16777216)
 else if n<1099511627776 then 32+fq (n / 4294967296) else if n<281474976710656 then 40+fq (n / 1099511627776) else if n<72057594037927936 then 48+fq (n / 281474976710656) else 56+fq (n / 72057594037927936)
theorem SK (n:Nat) (h:1<=n) :(ia n+7) / 8=iY n:=by
 have g:∀ x,1<=x->1<=fq x/\fq x<=8:=fun x j=>⟨by unfold fq;rw[ai F];(repeat' split)<;>omega,pS x⟩
 unfold ia iY
 repeat' split
 ·have:=g n h;omega
 ·have:=g (n / 256) F;omega
 ·have:=g (n / 65536) F;omega
 ·have:=g (n / 16777216) F;omega
 ·have:=g (n / 4294967296) F;omega
 ·have:=g (n / 1099511627776) F;omega
 ·have:=g (n / 281474976710656) F;omega
 ·have:=g (n / 72057594037927936) F;omega
theorem Ey (x:Q) (k:Nat) :cz .shr .u64 (u x) .u64 (k:Int)=some (.int .u64 (u (x >>> k))):=qG x .u64 k
theorem qB {i:Nat} {y:UInt8} {k:UInt8->Prop} (h:xD[i]?=some y) (hk:k y) :W xD[i]? (c:=⟨k⟩):=by rw[h];exact hk
theorem IP (n:Q) :aU 220 [c6 n] (.i6 (ia n.toNat)):=by
 apply a2 func220 [];have P:IntKind.i64.wrap 8=8:=rfl;have H:IntKind.i64.wrap 16=16:=rfl;have J:IntKind.i64.wrap 24=24:=rfl;have S:IntKind.i64.wrap 32=32:=rfl;have K:IntKind.i64.wrap 40=40:=rfl;have I:IntKind.i64.wrap 48=48:=rfl;have O:IntKind.i64.wrap 56=56:=rfl;have w:∀ x:Q,((4294967296:Int)<=u x)<->4294967296<=x.toNat:=fun x=>by unfold u;omega
 have z:∀ x:Q,((65536:Int)<=u x)<->65536<=x.toNat:=fun x=>by unfold u;omega
 have B:∀ x:Q,((256:Int)<=u x)<->256<=x.toNat:=fun x=>by unfold u;omega
 have D:∀ x:Q,cz .shr .u64 (u x) .u64 32=some (.int .u64 (u (x >>> 32))):=fun x=>Ey x 32
 have C:∀ x:Q,cz .shr .u64 (u x) .u64 16=some (.int .u64 (u (x >>> 16))):=fun x=>Ey x 16
 have G:∀ x:Q,cz .shr .u64 (u x) .u64 8=some (.int .u64 (u (x >>> 8))):=fun x=>Ey x 8
 have t32:n.toNat >>> 32=n.toNat / 4294967296:=by rw[hG]
 have t48:n.toNat >>> 48=n.toNat / 281474976710656:=by rw[hG]
 have t16:n.toNat >>> 16=n.toNat / 65536:=by rw[hG]
 have R:=n.isLt;by_cases h1:4294967296<=n.toNat
 ·by_cases v:65536<=n.toNat >>> 32
  ·by_cases t:256<=n.toNat >>> 48
   ·have m:n.toNat >>> 56 % 256=n.toNat / 72057594037927936:=by rw[hG];exact ed F
    obtain⟨y,h,g⟩:=rq (n.toNat / 72057594037927936) F;have j:=pS (n.toNat / 72057594037927936);rw[<-g] at j;have o:IntKind.i64.wrap (y.toNat:Int)=y.toNat:=wrap_i64 F F;have q:IntKind.i64.wrap (56+(y.toNat:Int))=((56+y.toNat:Nat) :Int):=by rw[wrap_i64 F F];omega
    have p:ia n.toNat=56+y.toNat:=by unfold ia;rw[g];(repeat' split)<;>first | omega | rfl
    simp[w,z,B,D,C,G,h1,v,t];refine qB (y:=y) (by rw[m];exact h) ?_;rw[p];simp[hr,o];exact aP (by simp[I,O,q]) rfl
   ·have m:n.toNat >>> 48 % 256=n.toNat / 281474976710656:=by rw[hG];exact ed F
    obtain⟨y,h,g⟩:=rq (n.toNat / 281474976710656) F;have j:=pS (n.toNat / 281474976710656);rw[<-g] at j;have o:IntKind.i64.wrap (y.toNat:Int)=y.toNat:=wrap_i64 F F;have q:IntKind.i64.wrap (48+(y.toNat:Int))=((48+y.toNat:Nat) :Int):=by rw[wrap_i64 F F];omega
    have p:ia n.toNat=48+y.toNat:=by unfold ia;rw[g];(repeat' split)<;>first | omega | rfl
    simp[w,z,B,D,C,h1,v,t];refine qB (y:=y) (by rw[m];exact h) ?_;rw[p];simp[hr,o];exact aP (by simp[I,q]) rfl
  ·by_cases t:256<=n.toNat >>> 32
   ·have m:n.toNat >>> 40 % 256=n.toNat / 1099511627776:=by rw[hG];exact ed F
    obtain⟨y,h,g⟩:=rq (n.toNat / 1099511627776) F;have j:=pS (n.toNat / 1099511627776);rw[<-g] at j;have o:IntKind.i64.wrap (y.toNat:Int)=y.toNat:=wrap_i64 F F;have q:IntKind.i64.wrap (40+(y.toNat:Int))=((40+y.toNat:Nat) :Int):=by rw[wrap_i64 F F];omega
    have p:ia n.toNat=40+y.toNat:=by unfold ia;rw[g];(repeat' split)<;>first | omega | rfl
    simp[w,z,B,D,G,h1,v,t];refine qB (y:=y) (by rw[m];exact h) ?_;rw[p];simp[hr,o];exact aP (by simp[K,q]) rfl
   ·have m:n.toNat >>> 32 % 256=n.toNat / 4294967296:=by rw[hG];exact ed F
    obtain⟨y,h,g⟩:=rq (n.toNat / 4294967296) F;have j:=pS (n.toNat / 4294967296);rw[<-g] at j;have o:IntKind.i64.wrap (y.toNat:Int)=y.toNat:=wrap_i64 F F;have q:IntKind.i64.wrap (32+(y.toNat:Int))=((32+y.toNat:Nat) :Int):=by rw[wrap_i64 F F];omega
    have p:ia n.toNat=32+y.toNat:=by unfold ia;rw[g];(repeat' split)<;>first | omega | rfl
    simp[w,z,B,D,h1,v,t];refine qB (y:=y) (by rw[m];exact h) ?_;rw[p];simp[hr,o,q];exact aP V rfl
 ·by_cases v:65536<=n.toNat
  ·by_cases t:256<=n.toNat >>> 16
   ·have m:n.toNat >>> 24 % 256=n.toNat / 16777216:=by rw[hG];exact ed F
    obtain⟨y,h,g⟩:=rq (n.toNat / 16777216) F;have j:=pS (n.toNat / 16777216);rw[<-g] at j;have o:IntKind.i64.wrap (y.toNat:Int)=y.toNat:=wrap_i64 F F;have q:IntKind.i64.wrap (24+(y.toNat:Int))=((24+y.toNat:Nat) :Int):=by rw[wrap_i64 F F];omega
    have p:ia n.toNat=24+y.toNat:=by unfold ia;rw[g];(repeat' split)<;>first | omega | rfl
    simp[w,z,B,C,G,h1,v,t];refine qB (y:=y) (by rw[m];exact h) ?_;rw[p];simp[hr,o];exact aP (by simp[H,J,q]) rfl
   ·have m:n.toNat >>> 16 % 256=n.toNat / 65536:=by rw[hG];exact ed F
    obtain⟨y,h,g⟩:=rq (n.toNat / 65536) F;have j:=pS (n.toNat / 65536);rw[<-g] at j;have o:IntKind.i64.wrap (y.toNat:Int)=y.toNat:=wrap_i64 F F;have q:IntKind.i64.wrap (16+(y.toNat:Int))=((16+y.toNat:Nat) :Int):=by rw[wrap_i64 F F];omega
    have p:ia n.toNat=16+y.toNat:=by unfold ia;rw[g];(repeat' split)<;>first | omega | rfl
    simp[w,z,B,C,h1,v,t];refine qB (y:=y) (by rw[m];exact h) ?_;rw[p];simp[hr,o];exact aP (by simp[H,q]) rfl
  ·by_cases t:256<=n.toNat
   ·have m:n.toNat >>> 8 % 256=n.toNat / 256:=by rw[hG];exact ed F
    obtain⟨y,h,g⟩:=rq (n.toNat / 256) F;have j:=pS (n.toNat / 256);rw[<-g] at j;have o:IntKind.i64.wrap (y.toNat:Int)=y.toNat:=wrap_i64 F F;have q:IntKind.i64.wrap (8+(y.toNat:Int))=((8+y.toNat:Nat) :Int):=by rw[wrap_i64 F F];omega
    have p:ia n.toNat=8+y.toNat:=by unfold ia;rw[g];(repeat' split)<;>first | omega | rfl
    simp[w,z,B,G,h1,v,t];refine qB (y:=y) (by rw[m];exact h) ?_;rw[p];simp[hr,o];exact aP (by simp[P,q]) rfl
   ·have m:n.toNat % 256=n.toNat:=ed F;obtain⟨y,h,g⟩:=rq (n.toNat) F;have j:=pS (n.toNat);rw[<-g] at j;have o:IntKind.i64.wrap (y.toNat:Int)=y.toNat:=wrap_i64 F F;have q:IntKind.i64.wrap (0+(y.toNat:Int))=((0+y.toNat:Nat) :Int):=by rw[wrap_i64 F F];omega
    have p:ia n.toNat=0+y.toNat:=by unfold ia;rw[g];(repeat' split)<;>first | omega | rfl
    simp[w,z,B,h1,v,t];refine qB (y:=y) (by rw[m];exact h) ?_;rw[p];simp[hr,o];exact aP V rfl
theorem yq (n:Q) (i:Nat) :(n >>> (8*i)).setWidth 8=jx n.toNat i:=by apply eZ;unfold jx;rw[fx,lG,fP]
def nR (n k i:Nat) :List B:=BitVec.ofNat 8 (247+k) ::(List.replicate (k - i) 0#8++p9 n i)
theorem Jm (n k i:Nat) (h:i<=k) :(nR n k i).length=k+1:=by simp[nR,ET];omega
theorem TZ (n k i:Nat) (h:i<k) :(nR n k i).set (k - i) (jx n i)=nR n k (i+1):=by
 unfold nR;obtain⟨g,j⟩:∃ g,k - i=g+1:=⟨k - i - 1,F⟩
 rw[j,x0,show k - (i+1)=g by omega,List.replicate_succ',hi];congr 1;rw[pk _ _ V];simp[p9]
theorem Y9 (n:Q) {l:ae} {K:cB} (H:∀ v j l',aH 1 l' v j ((dD n.toNat).map bW)->l.length<=l'.length->(∀ b,b<l.length->l'[b]?=l[b]?)->l.length<=j->bq v=false->K v l') :
  cM 173 [c6 n] l K:=by
 apply c1 func173 [];have w:((u n:Int)<=247)<->n.toNat<=247:=by unfold u;omega
 by_cases h:n.toNat<=247
 ·have m:dD n.toNat=[n.setWidth 8]:=by
   unfold dD;rw[ak h];rfl
  simp[w,h];refine H _ l.length _ (md (n:=1) (a:=dD n.toNat) (by rw[m];rfl) (by rw[m];simp)) V (fun b o=>aV o) (aN _) rfl
 ·have hk:=zC n.toNat
  obtain⟨k,O⟩:∃ k,iY n.toNat=k:=⟨_,rfl⟩
  have m:dD n.toNat=nR n.toNat k k:=by unfold dD nR;rw[ai h,O];simp
  have p:=SK n.toNat F;rw[O] at p hk;obtain⟨L,I⟩:∃ L,ia n.toNat=L:=⟨_,rfl⟩
  rw[I] at p;have ao:IntKind.i64.wrap ((L:Int)+7)=((L+7:Nat) :Int):=by rw[wrap_i64 F F];omega
  have q1:cz .quo .i64 ((L+7:Nat) :Int) .i64 8=some (.i6 (k:Int)):=by rw[BV _ 8 F F];rw[show (8:Int).toNat=8 from rfl,p]
  have ap:IntKind.i64.wrap ((k:Int)+1)=((k+1:Nat) :Int):=by rw[wrap_i64 F F];omega
  have aq:IntKind.i64.wrap (247+(k:Int))=((247+k:Nat) :Int):=by rw[wrap_i64 F F];omega
  have am:l6 1 1 [.int .u8 0] l (.i6 ((k+1:Nat) :Int)) (.i6 ((k+1:Nat) :Int))=some (.Z 1 l.length 0 (k+1) (k+1) (k+1),l++[.q (k+1) ((List.replicate (k+1) 0#8).map a7)]):=by
   unfold l6;have al:=du;simp only[];rw[ak ⟨F,F,F,by rw[al];omega⟩,xl];simp
  simp[w,h];refine au (IP n) rfl ?_;rw[I];have W:av (List.replicate (k+1) (a7 0#8)) 0 [a7 (BitVec.ofNat 8 (247+k))]=(nR n.toNat k 0).map a7:=by
   rw[kr,XH,XJ];simp[nR,p9]
  simp[ao,q1,ap,aq,am,-Int.natCast_add];refine bB k (fun i g P=>g 0=c6 n/\g 3=.i6 k/\g 4=.Z 1 l.length 0 (k+1) (k+1) (k+1)/\g 23=.i6 k/\g 24=.i6 i/\P=l++[.q (k+1) ((nR n.toNat k i).map a7)]) ?_ ?_
  ·rintro i g P ah ⟨z,D,G,B,C,rfl⟩;obtain⟨g,rfl⟩:=gu z D G B C;clear z D G B C;by_cases J:i<k
   ·have R:IntKind.i64.wrap ((k:Int) - i)=((k - i:Nat) :Int):=by rw[wrap_i64 F F];omega
    have S:IntKind.i64.wrap (8*(i:Int))=((8*i:Nat) :Int):=by rw[wrap_i64 F F];omega
    have ar:IntKind.i64.wrap ((i:Int)+1)=((i+1:Nat) :Int):=by rw[wrap_i64 F F];omega
    have T:cz .shr .u64 (u n) .i64 ((8*i:Nat) :Int)=some (.int .u64 (u (n >>> (8*i)))):=qG n .i64 (8*i);have U:=yq n i;have t:=ml a7 (nR n.toNat k i) (k - i) (jx n.toNat i) (by rw[Jm _ _ _ ah];omega);rw[TZ _ _ _ J] at t;obtain⟨d,X⟩:∃ d,k - i=d:=⟨_,rfl⟩
    obtain⟨e,ag⟩:∃ e,8*i=e:=⟨_,rfl⟩
    rw[X] at R t;rw[ag] at S T U;have Y:d<=k:=F;simp[J,R,S,ar,T,U,t,Y,-Int.natCast_add];omega
   ·have aj:i=k:=F;subst aj;simp;refine H _ l.length _ (md (n:=i+1) (a:=dD n.toNat) (by rw[m,Jm _ _ _ (aN _)]) (by rw[m];simp)) V (fun b o=>aV o) (aN _) rfl
  ·simp;exact W
theorem TP {n:Nat} (h:n<18446744073709551616) :n<256 ^ iY n:=by unfold iY;(repeat' split)<;>simp<;>omega
theorem TQ {n k:Nat} (h1:1<=n) (h:k<iY n) :256 ^ k<=n:=by have g:=(zC n).2;have hk:k=0\/k=1\/k=2\/k=3\/k=4\/k=5\/k=6\/k=7:=F;rcases hk with rfl | rfl | rfl | rfl | rfl | rfl | rfl | rfl<;>simp<;>unfold iY at h<;>(repeat' split at h)<;>omega
theorem Xp {n k:Nat} (h1:1<=n) (h:n<18446744073709551616) (hk:k<=iY n) :n >>> (8*k)=0<->k=iY n:=by
 have m:2 ^ (8*k)=256 ^ k:=by rw[Nat.pow_mul]
 rw[hG,m,Nat.div_eq_zero_iff];constructor
 ·rintro (g | g)
  ·exact bV g (by have:0<256 ^ k:=Nat.pow_pos (by decide);omega)
  ·rcases fF k (iY n) with j | j
   ·have:=TQ h1 j;omega
   ·omega
 ·rintro rfl;exact .inr (TP h)
theorem L6 (n:Nat) :∀ k,p9 n k=((List.range k).map (jx n)).reverse
 | 0=>rfl
 | k+1=>by rw[p9,L6 n k,td,cV,List.reverse_append];rfl
def mH (n k:Nat) :List B:=(List.range k).map (jx n)
theorem Qn (n k:Nat) :mH n (k+1)=mH n k++[jx n k]:=by simp[mH,td]
theorem tM (n k:Nat) :(mH n k).length=k:=by simp[mH]
theorem Hq (n k i:Nat) (h:i<k) :(mH n k)[i]?=some (jx n i):=by simp[mH,h]
theorem WA (x:Q) :cz .rem .u64 (u x) .u64 256=some (.int .u64 (u (x % 256#64))):=tz x 256#64 (by decide)
theorem VA (x:Q) :cz .quo .u64 (u x) .u64 256=some (.int .u64 (u (x / 256#64))):=DS x 256#64 (by decide)
theorem SZ (n:Q) (i:Nat) :((n >>> (8*i)) % 256#64).setWidth 8=jx n.toNat i:=by rw[<-yq];apply eZ;rw[fx,ng,fx];show _ % 256 % 2 ^ 8=_ % 2 ^ 8;omega
theorem TL (n:Q) (i:Nat) :(n >>> (8*i)) / 256#64=n >>> (8*(i+1)):=by apply eZ;rw[rC,lG,lG,hG,hG,show 8*(i+1)=8*i+8 by omega,rL,<-Nat.div_div_eq_div_mul];rfl
theorem cd.get {l l1:ae} {v:U} {a:List B} {t:Bool} (h:cd 1 bW l l1 v a t) {k:cU} {i:Nat} {x:B} (m:a[i]?=some x) :∃ p cs o,bQ (.Z 1) v (.int k (i:Int))=some p/\fN l1 p=some (cs,o)/\cs[o]?=some (a7 x):=by obtain⟨w,h,_⟩:=h;obtain⟨p,cs,o,h1,g,u,j⟩:=h.q.get (k:=k) (i:=i) (e:=bW x) (by rw[b0,m];rfl);refine⟨p,cs,o,h1,g,?_⟩;have:=ch (fun l=>l[0]?) j;simp[gx,bW] at this;exact this
theorem sX (n:Q) {l:ae} {K:cB} (o:∀ v l',cd 1 bW l l' v (dD n.toNat) false->K v l') :cM 173 [c6 n] l K:=
 Y9 n fun v p l' h1 g h j m=>o v l' ⟨p,h1,g,h,.inr j,m⟩
structure NR (l:ae) (n:Q) (i:Nat) (sgZ:aS) (l1:ae) :Prop where
 kI:sgZ 0=c6 (n >>> (8*i))
 ut:∃ v,sgZ 3=v/\cd 1 bW l l1 v (mH n.toNat i) (decide (i=0))
structure NS (l1:ae) (v:U) (n:Q) (k i:Nat) (sgZ:aS) (g:ae) :Prop where
 hQ:sgZ 3=v
 kJ:sgZ 5=.i6 ((k:Int) - 1 - i)
 ut:∃ w,sgZ 4=w/\cd 1 bW l1 g w (BitVec.ofNat 8 (247+k) ::((mH n.toNat k).reverse.take i)) false
theorem rg (n:Q) {l:ae} {K:cB} (J:∀ v l',cd 1 bW l l' v (dD n.toNat) false->K v l') :
  cM 188 [c6 n] l K:=by
 apply c1 func188 [];have D:((u n:Int)<=247)<->n.toNat<=247:=by unfold u;omega
 by_cases h:n.toNat<=247
 ·have R:dD n.toNat=[n.setWidth 8]:=by
   unfold dD;rw[ak h];rfl
  simp[D,h];exact J _ _ ⟨l.length,md (n:=1) (a:=dD n.toNat) (by rw[R];rfl) (by rw[R];simp),V,fun b t=>aV t,.inr (aN _),rfl⟩
 ·have aw:=n.isLt;have hk:=zC n.toNat
  simp[D,h];refine bB (iY n.toNat) (NR l n) ?_ ⟨V,.ad,V,cd.nil⟩;rintro i C S U ⟨G,v,j,m⟩;obtain⟨C,rfl⟩:=kk G j;clear G j;have am:=Xp (n:=n.toNat) (k:=i) F F U;have B:((0:Int)<u (n >>> (8*i)))<->¬ i=iY n.toNat:=by
   rw[<-am];unfold u;rw[lG];generalize n.toNat >>> (8*i)=q;omega
  by_cases z:i=iY n.toNat
  ·obtain⟨k,O⟩:∃ k,iY n.toNat=k:=⟨_,rfl⟩
   rw[O] at z B hk;subst z;have ag:dD n.toNat=BitVec.ofNat 8 (247+i) ::(mH n.toNat i).reverse:=by
    unfold dD;rw[ai h,O,L6];rfl
   have P:=m.len;rw[tM] at P;have ar:IntKind.i64.wrap (247+(i:Int))=((247+i:Nat) :Int):=by rw[wrap_i64 F F];omega
   have au:IntKind.i64.wrap ((i:Int) - 1)=(i:Int) - 1:=wrap_i64 F F;have f1:(dD n.toNat)=BitVec.ofNat 8 (247+i) ::(mH n.toNat i).reverse.take i:=by rw[ag,aI (by rw[List.length_reverse,tM];omega)]
   simp[B,P,ar,au,-Int.natCast_add];refine bB i (NS S v n i) ?_ ⟨V,V,_,V,⟨S.length,md (n:=1) (a:=[BitVec.ofNat 8 (247+i)]) rfl V,V,fun b t=>aV t,.inr (aN _),rfl⟩⟩;rintro g C aA ay ⟨j,I,w,H,p0⟩;have aj:=m.frame p0.le p0.same;obtain⟨C,rfl⟩:=gF j H I;clear j H I;by_cases X:g=i
   ·have Y:¬ (g:Int)<=(i:Int) - 1:=F;rw[X,<-f1] at p0;simp[Y];exact J _ _ (p0.base m.le m.same)
   ·have T:(g:Int)<=(i:Int) - 1:=F;have W:((i:Int) - 1 - g)=((i - 1 - g:Nat) :Int):=F;have av:IntKind.i64.wrap ((i:Int) - 1 - g - 1)=(i:Int) - 1 - (g+1:Nat):=by rw[wrap_i64 F F];omega
    obtain⟨aC,cs,aB,q1,ao,ap⟩:=cd.get aj (k:=.i64) (Hq n.toNat i (i - 1 - g) F);rw[<-W] at q1;have al:(mH n.toNat i).reverse[g]?=some (jx n.toNat (i - 1 - g)):=by
     rw[List.getElem?_reverse (by rw[tM];omega),tM,Hq _ _ _ F]
    have az:=tM n.toNat i;obtain⟨w',l',p,o⟩:=cd.push p0 (jx n.toNat (i - 1 - g)) (by simp;omega);simp[T,q1,ao,ap,p];refine bR.bm ?_;simp[av];exact⟨F,V,V,w',V,by rw[ei,al];simpa using o⟩
  ·have ax:=tM n.toNat i;obtain⟨aq,l',p,o⟩:=cd.push m (jx n.toNat i) F;rw[<-Qn] at o;have ah:cz .quo .u64 (u (n >>> (8*i))) .u64 256=some (c6 (n >>> (8*(i+1)))):=by rw[VA,TL]
   simp[B,z,WA,SZ,p];refine bR.bm ?_;simp[ah];exact⟨F,V,aq,V,by simpa using o⟩
end Op
namespace Op
open cl
def km (n:Int) :Q:=if 0<=n then BitVec.ofNat 64 (2*n.toNat) else BitVec.ofNat 64 (2*(-(n+1)).toNat+1)
theorem Zc (n:Int) (h1:-9223372036854775808<=n) (B:n<9223372036854775808) {l:ae} {K:cB} (q:∀ v l',cd 1 bW l l' v (dD (km n).toNat) false->K v l') :
  cM 221 [.i6 n] l K:=by
 apply c1 func221 [];have o:cz .shl .u64 (u (BitVec.ofInt 64 n)) .u64 1=some (.int .u64 (u (BitVec.ofInt 64 n <<< 1))):=GF _ .u64 1;have p:cz .shr .i64 n .u64 63=some (.i6 (if 0<=n then 0 else -1)):=by
  show (if (63:Int)<0 then none else some (U.i6 (n.fdiv (2 ^ min (63:Int).toNat 64))))=_;rw[ai F];congr 2;have:(2:Int) ^ min (63:Int).toNat 64=9223372036854775808:=by decide
  rw[this,Bd _ F];split<;>omega
 have z:BitVec.ofInt 64 n <<< 1 ^^^ BitVec.ofInt 64 (if 0<=n then 0 else -1)=km n:=by
  unfold km;by_cases h:0<=n
  ·rw[ak h,ak h];obtain⟨m,rfl⟩:=nh h;rw[oa,fo];have:BitVec.ofInt 64 (0:Int)=0#64:=rfl;rw[this,BitVec.xor_zero];apply eZ;rw[s7,fP,fP,oj];omega
  ·rw[ai h,ai h];obtain⟨m,t⟩:=nh (show 0<=-(n+1) by omega);have w:n=-((m:Int)+1):=F;have g:BitVec.ofInt 64 (-1:Int)=BitVec.allOnes 64:=by decide
   have j:BitVec.ofInt 64 n = ~~~ BitVec.ofNat 64 m:=by
    apply eZ;rw[w,Ba,Fm,fP];omega
   have C:m<9223372036854775808:=F;rw[g,j,BitVec.xor_allOnes,t,fo];apply eZ;rw[Fm,s7,Fm,fP,fP,oj];omega
 simp[o,p,z];refine sX _ fun v l' h=>?_
 simp;exact q v l' h
theorem V7 (n:Int) (h1:-9223372036854775808<=n) (t:n<9223372036854775808) {l:ae} {K:cB} (j:∀ v l',cd 1 bW l l' v (dD (km n).toNat) false->K v l') :
  cM 234 [.i6 n] l K:=by
 apply c1 func234 [];by_cases h:0<=n
 ·obtain⟨m,rfl⟩:=nh h;have g:2#64*BitVec.ofNat 64 m=km m:=by
   unfold km;rw[ak h,fo];apply eZ;simp only[va,fP];omega
  simp[g];refine rg _ fun v l' h=>?_
  simp;exact j v l' h
 ·have q:IntKind.i64.wrap (n+1)=n+1:=wrap_i64 F F;have o:IntKind.i64.wrap (0 - (n+1))=0 - (n+1):=wrap_i64 F F;have o:IntKind.i64.wrap (-(n+1))=-(n+1):=wrap_i64 F F;have g:2#64*BitVec.ofInt 64 (-(n+1))+1#64=km n:=by
   obtain⟨m,p⟩:=nh (show 0<=-(n+1) by omega);unfold km;rw[ai h,p,fo,oa];apply eZ;simp only[va,fP,Fl];omega
  simp[h,q,o,g];refine rg _ fun v l' h=>?_
  simp;exact j v l' h
def hf (s:List B) :List B:=dD s.length++s
theorem gB (n:Nat) :(dD n).length<=9:=by
 unfold dD;have:=(zC n).2;split
 ·simp
 ·simp[ET];omega
theorem Rb (s:List B) :(s.map bW).flatten=s.map a7:=wd s
theorem Hd (l:ae) (s:dX) :cq l 1 (cn s)=some ((s.l.map bW).flatten,s.l.length):=qO l 1 bW s
theorem ME (s:dX) (B:s.l.length<=10000) {x:U} {l:ae} (C:cq l 1 x=some ((s.l.map bW).flatten,s.l.length)) (o:bD (.Z 1) x=some (.i6 s.l.length)) (t:∀ l',l.length<=l'.length->(∀ b,b<l.length->l'[b]?=l[b]?)->cq l' 1 x=some ((s.l.map bW).flatten,s.l.length))
  {K:cB} (m:∀ v l',cd 1 bW l l' v (hf s.l) false->K (.aX [v,.i6 0]) l') :cM 174 [x] l K:=by
 apply c1 func174 [];have h1:¬ ((10000:Int)<s.l.length):=F;have q:=du;simp[o,h1];refine sX _ fun v l' h=>?_
 have p:(BitVec.ofNat 64 s.l.length).toNat=s.l.length:=by rw[fP];exact ed F
 rw[p] at h;have z:=gB s.l.length;obtain⟨w,u,g,j,_⟩:=h.app (by_:=1) (x:=x) (xs:=s.l) (t l' h.le h.same) (by simp[bW]) F F (by rw[q];omega);simp[g];refine bR.bm ?_;simp;exact m w u (by simpa [hf] using j)
theorem Kz (s:dX) (B:s.l.length<=10000) {x:U} {l:ae} (C:cq l 1 x=some ((s.l.map bW).flatten,s.l.length)) (o:bD (.Z 1) x=some (.i6 s.l.length)) (t:∀ l',l.length<=l'.length->(∀ b,b<l.length->l'[b]?=l[b]?)->cq l' 1 x=some ((s.l.map bW).flatten,s.l.length))
  {K:cB} (m:∀ v l',cd 1 bW l l' v (hf s.l) false->K v l') :cM 198 [x] l K:=by
 apply c1 func198 [];have q:=du;simp[o];refine rg _ fun v l' h=>?_
 have p:(BitVec.ofNat 64 s.l.length).toNat=s.l.length:=by rw[fP];exact ed F
 rw[p] at h;have z:=gB s.l.length;obtain⟨w,u,g,j,_⟩:=h.app (by_:=1) (x:=x) (xs:=s.l) (t l' h.le h.same) (by simp[bW]) F F (by rw[q];omega);simp[g];refine bR.bm ?_;simp;exact m w u (by simpa [hf] using j)
def ao (i:List B) :ag:=i.map a7
abbrev b2:=b1 (List B)
def ah (s:b2) :U:=b4 32 ao s
def c5 (s:b2) :Prop:=∀ i∈s.l,i.length=32
theorem cG (i:List B) :am (ao i)=true:=jy a7 (fun _=>rfl) _
theorem bO (s:b2) :(ah s).ar=true:=pD cG s
theorem G6:∀ a b:List B,a.length=b.length->lW (a.map fun x=>UInt8.ofNat x.toNat) (b.map fun x=>UInt8.ofNat x.toNat)=bP a b
 | [],[],_=>rfl
 | [],_::_,h=>by simp at h
 | _::_,[],h=>by simp at h
 | x::a,y::b,h=>by
  have o:=G6 a b (by simpa using h);have p:=x.isLt;have q:=y.isLt;rw[G5];simp only[dg,lW,o];have j:(UInt8.ofNat x.toNat=UInt8.ofNat y.toNat)<->x.toNat=y.toNat:=by
   constructor
   ·intro h;have:=ch UInt8.toNat h;simp only[FP] at this;omega
   ·intro h;rw[h]
  have m:(UInt8.ofNat x.toNat<UInt8.ofNat y.toNat)<->x.toNat<y.toNat:=by
   rw[UInt8.lt_iff_toNat_lt];simp only[FP];rw[ed F,ed F]
  by_cases h1:x.toNat=y.toNat
  ·rw[ak (j.2 h1),ai F,ai F]
  ·rw[ai (fun h=>h1 (j.1 h))];by_cases g:x.toNat<y.toNat
   ·rw[ak (m.2 g),ak g]
   ·rw[ai (fun h=>g (m.1 h)),ai g,ak F]
@[simp ↓] theorem ack {P:bp} {g:aY->U} {l:ae} (f:cj) (h x y:aY) :bT P g l (.bP f h x y)=(match y9 f (g h) with | true=>dr l (cmpL l (g x) (g y)) | false=>none):=id rfl
@[simp ↓] theorem abD (f:cj) (g x y:aY) (v:U) (l:ae) (K:cB) :ep (.bP f g x y) v l K=K v l:=id rfl
@[simp] theorem aa1 (f:cj) :y9 f (.fn f [] [])=true:=Br f
theorem GI:∀ a:List B,jZ (a.map a7)=some (a.map fun x=>UInt8.ofNat x.toNat)
 | []=>rfl
 | x::a=>by
  simp only[dg,jZ,GI a,cA];simp[u]
theorem GJ (l:ae) (s:dX) :pz l (cn s)=some (s.l.map fun x=>UInt8.ofNat x.toNat):=by
 have h:=Hd l s;rw[Rb] at h;cases s with
 | none=>simp[pz,b4,cq,jZ]
 | some a=>
  unfold pz;simp only[b4];have g:cq l 1 (U.bu 1 (a.map bW))=some (a.map a7,a.length):=h;rw[g];exact GI a
theorem Gn (a b:dX) (h:a.l.length=b.l.length) :aU 202 [cn a,cn b] (.i6 (bP a.l b.l)):=by
 refine uB checked.mixed eD ?_;apply RC func202 [];have g:cmpL [] (cn a) (cn b)=some (.i6 (bP a.l b.l)):=by
  unfold cmpL;rw[GJ,GJ];simp only[G6 _ _ h]
 simp[g];exact aF
theorem uR {n b:Nat} (g:0<n) :dw (.arr n 1) (.ptr b 0 n) none none none=some (.Z 1 b 0 n n n):=by have:e2 n n none none none=some (0,n,n):=rfl;simp only[dw,this];rw[ak F,ai F];simp
theorem qL (a b:List B) (g:a.length=32) (h:b.length=32) :aU 162 [eo a,eo b] (.i6 (bP a b)):=by
 apply a2 func162 [];have o:=uR (n:=32) (b:=1) F;have p:=uR (n:=32) (b:=0) F;simp[eo,g,h,o,p];have m:=Gn (some a) (some b) (by simp[g,h]);refine ig m ?_ rfl ?_
 ·exact .cons ((md (j:=0) g rfl).mZ (fun _=>rfl) (some a) rfl rfl) (.cons ((md (j:=1) h rfl).mZ (fun _=>rfl) (some b) rfl rfl) .nil)
 ·simp;exact aF
theorem xj (a b:List B) (W:a.length=32) (X:b.length=32) :aU 189 [eo a,eo b] (.i6 (bP a b)):=by
 apply a2 func189 [];obtain⟨A,G⟩:=al (a.map a7);obtain⟨w,I⟩:=al (b.map a7);have t:A.length=32:=by rw[G,ce,W]
 have v:w.length=32:=by rw[I,ce,X]
 unfold eo;rw[<-G,<-I];simp[t,v];refine bB 32 (fun k m l=>m 2=.ptr 0 0 32/\m 3=.ptr 1 0 32/\m 5=.i6 k/\l=[.q 32 A,.q 32 w]/\∀ j,j<k->a[j]?=b[j]?) ?_ V;rintro k m l hk ⟨Q,R,S,rfl,heq⟩;obtain⟨m,rfl⟩:=gF Q R S;clear Q R S;have g:=PG k heq F F;by_cases h:(k:Int)<32
 ·have K:k<32:=F;have aj:IntKind.i64.wrap ((k:Int)+1)=(k+1:Nat):=wrap_i64 F F;obtain⟨x,O,_⟩:=aQ (l:=a) (k:=k) F;obtain⟨y,P,_⟩:=aQ (l:=b) (k:=k) F;have T:A[k]?=some (a7 x):=by rw[G,b0,O];rfl
  have U:w[k]?=some (a7 y):=by rw[I,b0,P];rfl
  obtain⟨_,H⟩:=aL.1 T;obtain⟨_,J⟩:=aL.1 U;have Y:a.drop k=x::a.drop (k+1):=by
   obtain⟨h1,D⟩:=aL.1 O;rw[oc h1,D]
  have ae:b.drop k=y::b.drop (k+1):=by
   obtain⟨h1,D⟩:=aL.1 P;rw[oc h1,D]
  rw[Y,ae,G5] at g;have ao:((u x:Int)<u y)<->x.toNat<y.toNat:=by unfold u;omega
  have ap:((u y:Int)<u x)<->y.toNat<x.toNat:=by unfold u;omega
  by_cases o:x.toNat<y.toNat
  ·rw[ak o] at g;have p:x<y:=o;simp[h,K,t,v,H,J,p];exact aP (by rw[<-g]) rfl
  ·have p:¬ x<y:=o;rw[ai o] at g;by_cases z:y.toNat<x.toNat
   ·rw[ak z] at g;have C:y<x:=z;simp[h,K,t,v,H,J,p,C];exact aP (by rw[<-g]) rfl
   ·have C:¬ y<x:=z;simp[h,K,t,v,H,J,p,C,aj];intro j am;by_cases ag:j=k
    ·subst ag;rw[O,P];have:x=y:=eZ F;rw[this]
    ·exact heq j F
 ·have ah:k=32:=F;subst ah;have:bP a b=0:=by
   rw[<-g,qn F,qn F];rfl
  simp;exact aP (by rw[this]) rfl
abbrev bx (l:aR) (k:Nat) :List B:=l.getD k []
def b8 (l:aR) :Bool:=decide (∀ k,k<l.length->1<=k->bP (bx l (k - 1)) (bx l k)<0)
def sP (l:aR) :Bool:=decide (∀ k,k<l.length->1<=k->¬ bP (bx l k) (bx l (k - 1))<0)
theorem dI {l:aR} {k:Nat} {x:List B} (h:l[k]?=some x) :bx l k=x:=by unfold bx;rw[gw,h];rfl
theorem uI {l:aR} (h:∀ k,k<l.length->1<=k->bP (bx l (k - 1)) (bx l k)<0) :b8 l=true:=b7 h
theorem KW {l:aR} {k:Nat} (hk:k<l.length) (h1:1<=k) (h:¬ bP (bx l (k - 1)) (bx l k)<0) :b8 l=false:=cu fun g=>h (g k hk h1)
theorem LG {l:aR} (h:∀ k,k<l.length->1<=k->¬ bP (bx l k) (bx l (k - 1))<0) :sP l=true:=b7 h
theorem XQ {l:aR} {k:Nat} (hk:k<l.length) (h1:1<=k) (h:bP (bx l k) (bx l (k - 1))<0) :sP l=false:=cu fun g=>g k hk h1 h
theorem bo {x:List B} (h:x.length=32) :(ao x).length=32:=by simp[ao,h]
theorem D0 (a:b2) (o:c5 a) (S:a.l.length<=1000000) :aU 124 [ah a] (.bool (b8 a.l)):=by
 apply a2 func124 [];simp[ah];refine bB (a.l.length - 1) (fun k t l=>t 0=b4 32 ao a/\t 3=.i6 ((k+1:Nat) :Int)/\∀ g,g<k+1->g<a.l.length->1<=g->bP (bx a.l (g - 1)) (bx a.l g)<0) ?_ ⟨V,V,fun g h1 _ m=>F⟩;rintro k t l hk ⟨u,v,q⟩;obtain⟨s,rfl⟩:=kk u v;clear u v;obtain⟨j,R⟩:=al (k+1);rw[<-R] at q ⊢;simp;refine fk (fun h=>?_) (fun h=>?_)
 ·simp only[bK] at h;have z:j<a.l.length:=F;obtain⟨x,B,C⟩:=aQ (l:=a.l) (k:=k) F;obtain⟨y,D,G⟩:=aQ z;have J:IntKind.i64.wrap ((j:Int) - 1)=(k:Int):=by rw[IntKind.wrap_i64];omega
  have K:=ci (k:=j) F;have H:=dI B;have I:=dI D;simp[J,B,D,bo (o x C),bo (o y G),aI];refine au (xj x y (o x C) (o y G)) (by simp[am,cG,U.ar]) ?_;by_cases w:bP x y<0
  ·have p:¬ (0<=bP x y):=F;simp[p,K];refine⟨F,fun g h1 m O=>?_⟩;have Q:bP (bx a.l (g - 1)) (bx a.l g)<0:=by
    by_cases P:g=j
    ·rw[P,show j - 1=k by omega,H,I];exact w
    ·exact q g F m O
   simpa [bx] using Q
  ·have p:0<=bP x y:=F;simp[p];refine aP (ch U.bool (KW (k:=j) z F ?_).symm) rfl;rw[show j - 1=k by omega,H,I];exact w
 ·simp[h];exact aP (ch U.bool (uI fun g h1 m=>q g (by simp at h;omega) h1 m).symm) rfl
theorem Cv:fJ prog 162=true:=bn
theorem Sn (a:b2) (m:c5 a) (R:a.l.length<=1000000) :aU 168 [ah a,.fn 162 [] []] (.bool (sP a.l)):=by
 apply a2 func168 [];have J:IntKind.i64.wrap ((a.l.length:Int) - 1)=(a.l.length:Int) - 1:=by rw[IntKind.wrap_i64];omega
 simp[ah,J];refine bB (a.l.length - 1) (fun k p l=>p 0=b4 32 ao a/\p 1=.fn 162 [] []/\p 5=.i6 ((a.l.length:Int) - 1 - k)/\∀ g,g<a.l.length->a.l.length - 1 - k<g->¬ bP (bx a.l g) (bx a.l (g - 1))<0) ?_ ⟨V,V,V,fun g h1 z=>F⟩;rintro k p l hk ⟨u,v,w,B⟩;obtain⟨s,rfl⟩:=gF u v w;clear u v w;simp;refine fk (fun h=>?_) (fun h=>?_)
 ·simp only[bK] at h;obtain⟨j,S⟩:∃ j,j+k+2=a.l.length:=⟨a.l.length - 2 - k,F⟩
  have K:((a.l.length:Int) - 1 - k)=((j+1:Nat) :Int):=F;rw[K];obtain⟨x,q,C⟩:=aQ (l:=a.l) (k:=j+1) F;obtain⟨y,D,G⟩:=aQ (l:=a.l) (k:=j) F;obtain⟨n,Q⟩:=al (j+1);rw[<-Q] at q ⊢;have t:IntKind.i64.wrap ((n:Int) - 1)=(j:Int):=by rw[IntKind.wrap_i64];omega
  have H:=dI q;have I:=dI D;simp[t,q,D,bo (m x C),bo (m y G),aI];refine⟨Cv,au (qL x y (m x C) (m y G)) (by simp[am,cG,U.ar]) ?_⟩;by_cases o:bP x y<0
  ·simp[o];refine aP (ch U.bool (XQ (k:=n) F F ?_).symm) rfl;rw[show n - 1=j by omega,H,I];exact o
  ·simp[o,t];refine⟨F,F,fun g h1 z=>?_⟩;have P:¬ bP (bx a.l g) (bx a.l (g - 1))<0:=by
    by_cases O:g=n
    ·rw[O,show n - 1=j by omega,H,I];exact o
    ·exact B g h1 F
   simpa [bx] using P
 ·simp[h];exact aP (ch U.bool (LG fun g h1 z=>B g h1 (by simp at h;omega)).symm) rfl
def tN (l:aR) (k:Nat) :Bool:=decide (k+1<l.length)&&decide (0<=bP (bx l k) (bx l (k+1)))
theorem KV {l:aR}:b8 l=true<->∀ k,k<l.length->tN l k=false:=by
 unfold b8 tN;rw[bK];constructor
 ·intro h k hk;by_cases h1:k+1<l.length
  ·have:=h (k+1) h1 F;rw[tg] at this;rw[cu (p:=0<=_) F,vb]
  ·simp[h1]
 ·intro h k hk h1;have:=h (k - 1) F;rw[show k - 1+1=k by omega] at this;rw[b7 hk,lH,decide_eq_false_iff_not] at this;omega
theorem WI (a:b2) (m:c5 a) (J:a.l.length<=1000000) (k:Nat) (hk:k<a.l.length) (x:List B) (O:x.length=32) (r:ae) {K:cB}
  (g:∀ I,K (.bool (tN a.l k)) (.q 1 [ah a] ::.q 1 [.i6 ((k+1:Nat) :Int)] ::I)) :
  cM 262 [eo x,.ptr 1 0 1,.ptr 0 0 1] (.q 1 [ah a] ::.q 1 [.i6 (k:Int)] ::r) K:=by
 apply c1 func262 [];have o:=ci (k:=k) F;obtain⟨j,p⟩:=al (k+1);rw[<-p] at o g;have C:IntKind.i64.wrap ((j:Int) - 1)=(k:Int):=by rw[IntKind.wrap_i64];omega
 unfold tN at g;rw[<-p] at g;obtain⟨y,t,u⟩:=aQ hk;by_cases h:j<a.l.length
 ·obtain⟨z,v,w⟩:=aQ h;have G:=dI t;have H:=dI v;rw[G,H] at g;have h' : (j:Int)<(a.l.length:Int):=F;have D:a.l[j]=z:=(aL.1 v).2;simp[eo,ah,o,C,h,h',t,D,bo (m y u),bo (m z w),aI];refine au (qL y z (m y u) (m z w)) (by simp[am,cG,U.ar]) ?_;have:=g (r++[aq.q x.length (List.map a7 x)]);simpa [h,ah] using this
 ·have h' : ¬ (j:Int)<(a.l.length:Int):=F;simp[eo,ah,o,h'];have:=g (r++[aq.q x.length (List.map a7 x)]);simpa [h,ah] using this
theorem Ri:fJ prog 262=true:=bn
theorem WK (a:b2) (m:c5 a) (I:a.l.length<=1000000) {K:cB} (v:∀ n C,(n<0<->b8 a.l=true)->K (.i6 n) C) :
  cM 139 [ah a,.fn 262 [] [.ptr 1 0 1,.ptr 0 0 1]] [.q 1 [ah a],.q 1 [.i6 0]] K:=by
 apply c1 func139 [];simp[ah];refine bB a.l.length (fun k j l=>j 0=b4 32 ao a/\j 1=.fn 262 [] [.ptr 1 0 1,.ptr 0 0 1]/\j 7=.i6 a.l.length/\j 8=.i6 k/\(∃ r,l=.q 1 [ah a] ::.q 1 [.i6 (k:Int)] ::r)/\∀ g,g<k->tN a.l g=false) ?_ ⟨V,V,V,V,⟨[],by simp[ah]⟩,fun g h=>F⟩;rintro k j l hk ⟨o,p,t,u,⟨r,rfl⟩,z⟩;obtain⟨s,rfl⟩:=eO o p t u;clear o p t u;simp;refine fk (fun h=>?_) (fun h=>?_)
 ·simp only[bK] at h;obtain⟨x,O,B⟩:=aQ (l:=a.l) (k:=k) F;have D:=ci (k:=k) F;simp[O,bo (m x B),aI];refine⟨Ri,WI a m I k F x (m x B) r fun C=>?_⟩;cases w:tN a.l k with
  | true=>
   simp;refine v _ _ ⟨fun P=>F,fun J=>?_⟩;have:=KV.1 J k F;rw[w] at this;cases this
  | false=>
   simp[D];refine⟨F,fun g G=>?_⟩;by_cases H:g=k
   ·subst H;exact w
   ·exact z g F
 ·simp[h];refine v _ _ ⟨fun _=>KV.2 fun g G=>z g (by simp at h;omega),fun _=>F⟩
theorem WJ (a:b2) (p:c5 a) (t:a.l.length<=1000000) {K:cB} (o:∀ g,K (.bool (!b8 a.l)) g) :
  cM 88 [ah a,.fn 262 [] [.ptr 1 0 1,.ptr 0 0 1]] [.q 1 [ah a],.q 1 [.i6 0]] K:=by
 apply c1 func88 [];simp;refine WK a p t fun n g j=>?_
 have e:decide (0<=n)=!b8 a.l:=by
  cases m:b8 a.l with
  | true=>have:=j.2 m;simp;omega
  | false=>
   have:¬ n<0:=fun h=>by have:=j.1 h;rw[m] at this;cases this
   simp;omega
 simp[e];exact o g
theorem WL (a:b2) (g:c5 a) (j:a.l.length<=1000000) :aU 218 [ah a] (.bool (b8 a.l)):=by
 apply a2 func218 [];have h:(ah a).cells=some [ah a]:=by cases a<;>rfl
 simp[h];refine WJ a g j fun m=>?_
 simp;exact aF
def nN (l:aR) :List B:=dD l.length++l.flatten
theorem GU:∀ (x:List B),lV 1 x.length (x.map a7)=x.map bW
 | []=>rfl
 | b::r=>by
  show ((a7 b::r.map a7).take 1) ::lV 1 r.length ((a7 b::r.map a7).drop 1)=_;simp[GU r,bW]
theorem Pu {x:List B} (h:x.length=32) :lV 1 32 (ao x)=x.map bW:=by have:=GU x;rw[h] at this;exact this
theorem CN {l:aR} (h:∀ x∈l,x.length=32) :l.flatten.length=l.length*32:=hv h
theorem L7 {l:aR} {k:Nat} {x:List B} (h:l[k]?=some x) :(l.take (k+1)).flatten=(l.take k).flatten++x:=by rw[ei,h];simp
theorem Xx {x:List B} (h:x.length=32) :dw (.arr 32 1) (.b6 (ao x) 0) none none none=some (.bu 1 (x.map bW)):=by have:=Pu h;have g:e2 32 32 none none none=some (0,32,32):=rfl;unfold dw;simp only[g];simp[bo h,this]
structure NF (l:ae) (s:b2) (k:Nat) (sgZ:aS) (l1:ae) :Prop where
 kI:sgZ 0=b4 32 ao s
 iq:sgZ 4=.i6 k
 ut:∃ v,sgZ 3=v/\cd 1 bW l l1 v (dD s.l.length++(s.l.take k).flatten) false
theorem VQ (s:b2) (g:c5 s) (Q:s.l.length<=1000) {l:ae} {K:cB} (B:∀ v l',cd 1 bW l l' v (nN s.l) false->K v l') :
  cM 197 [ah s] l K:=by
 apply c1 func197 [];have D:=du;have C:(BitVec.ofNat 64 s.l.length).toNat=s.l.length:=by rw[fP];exact ed F
 have P:=gB s.l.length;simp[ah];refine rg _ fun v l' h=>?_
 rw[C] at h;simp;refine bB s.l.length (NF l s) ?_ ⟨by simp[ah],V,v,V,by simpa using h⟩;rintro k I R hk ⟨m,p,v,o,j⟩;obtain⟨I,rfl⟩:=gF m o p;clear m o p;simp;refine fk (fun h=>?_) (fun h=>?_)
 ·simp only[bK] at h;obtain⟨x,q,t⟩:=aQ (l:=s.l) (k:=k) F;have z:=ci (k:=k) F;have O:((s.l.take k).flatten).length<=32000:=by
   rw[CN (fun y H=>g y (gy H)),cL];omega
  obtain⟨J,S,u,w,_⟩:=j.app (by_:=1) (x:=.bu 1 (x.map bW)) (xs:=x) (by simp[cq]) (by simp[bW]) F F (by rw[D,g x t];simp only[cI];omega);simp[q,Xx (g x t),u];refine bR.bm ?_;simp[z];exact⟨F,V,V,J,V,by rw[L7 q,<-hi];exact w⟩
 ·simp[h];have G:s.l.take k=s.l:=aI (by simp at h;omega);rw[G] at j;exact B _ _ j
structure NG (l:ae) (s:b2) (k:Nat) (sgZ:aS) (l1:ae) :Prop where
 aaH:sgZ 17=b4 32 ao s
 aaI:sgZ 18=.i6 s.l.length
 aaJ:sgZ 19=.i6 k
 ut:∃ v,sgZ 4=v/\cd 1 bW l l1 v (dD s.l.length++(s.l.take k).flatten) false
theorem Y6 (s:b2) (g:c5 s) (X:s.l.length<=60) (I:b8 s.l=true) {l:ae} {K:cB} (G:∀ v l',cd 1 bW l l' v (nN s.l) false->K (.aX [v,.i6 0]) l') :
  cM 171 [ah s] l K:=by
 apply c1 func171 [];have J:dj=140737488355328:=rfl;have H:(BitVec.ofNat 64 s.l.length).toNat=s.l.length:=by rw[fP];exact ed F
 have W:=gB s.l.length;have D:¬ (60:Int)<(s.l.length:Int):=F;simp[ah,D];refine au (WL s g F) (by have:=bO s;simp[am];exact this) ?_;simp[I,ah];refine sX _ fun v l' h=>?_
 rw[H] at h;simp[ah];refine bB s.l.length (NG l s) ?_ ⟨V,V,V,v,V,by simpa using h⟩;rintro k S R hk ⟨o,p,t,v,u,m⟩;obtain⟨S,rfl⟩:=eO o p t u;clear o p t u;simp;refine fk (fun h=>?_) (fun h=>?_)
 ·simp only[bK] at h;obtain⟨x,w,j⟩:=aQ (l:=s.l) (k:=k) F;have C:=ci (k:=k) F;have U:((s.l.take k).flatten).length<=32000:=by
   rw[CN (fun y Q=>g y (gy Q)),cL];omega
  obtain⟨T,Y,z,B,_⟩:=(m.more [.q 32 (ao x)]).app (by_:=1) (x:=.Z 1 R.length 0 32 32 32) (xs:=x) (by simp[cq,g x j,aI,ao,wd]) (by simp[bW]) F F (by rw[J,g x j];simp only[cI];omega);have O:av (bZ 32 (.int .u8 0)) 0 (ao x)=ao x:=cD (by rw[bo (g x j)];rfl);simp[w,bo (g x j),aI,uR,O,z];refine bR.bm ?_;simp[C];exact⟨F,V,V,V,T,V,by rw[L7 w,<-hi];exact B⟩
 ·simp[h];have P:s.l.take k=s.l:=aI (by simp at h;omega);rw[P] at m;exact G _ _ m
def ec (s:List UInt8) :List B:=s.map fun b=>b.toBitVec
theorem AI (s:List UInt8) :(s.map fun b=>[hr b])=(ec s).map bW:=by unfold ec;rw[iL];rfl
theorem m8 (s:List UInt8) :(ec s).length=s.length:=by simp[ec]
def lT (b:Q) (k:Nat) :List B:=(List.range k).map fun i=>jx b.toNat (7 - i)
def hg (v:gS) :List B:=v.kind::(if v.kind=1#8 then dD (km v.num).toNat else if v.kind=2#8 then lT v.bits 8 else hf (ec v.text))
def Dw (v:gS) :Prop:=-9223372036854775808<=v.num/\v.num<9223372036854775808/\v.text.length<=10000
theorem Gs (b:Q) (k:Nat) :lT b (k+1)=lT b k++[jx b.toNat (7 - k)]:=by unfold lT;rw[td,cV];rfl
theorem Js (l:ae) (c:aq) (x:B) :cd 1 bW l (l++[c,.q 1 [a7 x]]) (.Z 1 (l.length+1) 0 1 1 1) [x] false:=by exact⟨l.length+1,md (n:=1) (a:=[x]) rfl V,V,fun b g=>aV g,.inr F,rfl⟩
theorem p0 (l:ae) (c:aq) (x:B) :cd 1 bW (l++[c]) (l++[c,.q 1 [a7 x]]) (.Z 1 (l.length+1) 0 1 1 1) [x] false:=by have e:l++[c,.q 1 [a7 x]]=(l++[c])++[.q 1 [a7 x]]:=V;exact⟨l.length+1,md (n:=1) (a:=[x]) rfl V,V,fun b g=>by rw[e];exact aV g,.inr V,rfl⟩
structure M7 (l:ae) (v:gS) (p:Nat) (k:Nat) (sgZ:aS) (l1:ae) :Prop where
 e5:sgZ 1=.ptr p 0 4
 iq:sgZ 4=.i6 (7 - (k:Int))
 ut:∃ w,sgZ 3=w/\cd 1 bW (l++[.q 4 (dJ v)]) l1 w (v.kind::lT v.bits k) false
theorem We (v:gS) (al:Dw v) {l:ae} {K:cB} (G:∀ w l',cd 1 bW l l' w (hg v) false->K w l') :
  cM 199 [.af (dJ v)] l K:=by
 apply c1 func199 [];have Q:=du;have D:=Js l (.q 4 (dJ v)) v.kind;obtain⟨ag,ah,aj⟩:=al;have W:r5 (.str v.text)=some (.bu 1 ((ec v.text).map bW)):=by
  show some (U.bu 1 (v.text.map fun b=>[hr b]))=_;rw[AI]
 by_cases o:v.kind=1#8
 ·have p:hg v=[v.kind]++dD (km v.num).toNat:=by unfold hg;rw[ak o];rfl
  have z:(u v.kind:Int)=1:=(g0 v.kind).2 o;simp only[a7,z] at D;have aw:=gB (km v.num).toNat
  simp[dJ,z];refine V7 v.num ag ah fun w l' h=>?_
  obtain⟨aq,ao,j,m,_⟩:=(D.frame h.le h.same).app (by_:=1) (x:=w) (xs:=dD (km v.num).toNat) h.contents (by simp[bW]) F F (by rw[Q];simp only[dM,hp];omega);simp[j];refine bR.bm ?_;simp;exact G _ _ (by rw[p];exact m)
 ·have z:¬ (u v.kind:Int)=1:=fun h=>o ((g0 v.kind).1 h)
  by_cases t:v.kind=2#8
  ·have B:(u v.kind:Int)=2:=(jn v.kind).2 t;have p:hg v=v.kind::lT v.bits 8:=by unfold hg;rw[ai o,ak t]
   have O:=p0 l (.q 4 (dJ v)) v.kind;simp only[a7,B] at O;simp[dJ,B];refine bB 8 (M7 l v l.length) ?_ ⟨V,V,_,V,O⟩;rintro k ap am hk ⟨H,J,w,I,C⟩;have P:am[l.length]?=some (.q 4 (dJ v)):=by rw[C.same l.length V];simp
   obtain⟨ap,rfl⟩:=gF H I J;clear H I J;by_cases X:k=8
   ·subst X;rw[<-p] at C;simp;exact G _ _ (C.base V fun b T=>aV T)
   ·obtain⟨g,av⟩:∃ g,g+k=7:=⟨7 - k,F⟩
    have em:7 - (k:Int)=(g:Int):=F;have R:IntKind.i64.wrap ((g:Int) - 1)=(g:Int) - 1:=by rw[IntKind.wrap_i64];omega
    have S:IntKind.i64.wrap (8*(g:Int))=((8*g:Nat) :Int):=by rw[IntKind.wrap_i64];omega
    have ar:cz .shr .u64 (u v.bits) .i64 ((8*g:Nat) :Int)=some (.int .u64 (u (v.bits >>> (8*g)))):=qG v.bits .i64 (8*g);have au:=yq v.bits g;have Y:(v.kind::lT v.bits k).length<=1000000000:=by simp[lT];omega
    obtain⟨w',l',j,m⟩:=cd.push C (jx v.bits.toNat g) Y;rw[em];simp[dJ] at P;simp[P,S,ar,au,j,-Int.natCast_mul];refine bR.bm ?_;simp[R];exact⟨F,V,by simp;omega,w',V,by rw[Gs,show 7 - k=g by omega];exact m⟩
  ·have B:¬ (u v.kind:Int)=2:=fun h=>t ((jn v.kind).1 h)
   have p:hg v=[v.kind]++hf (ec v.text):=by unfold hg;rw[ai o,ai t];rfl
   have ax:(hf (ec v.text)).length<=20000:=by
    have:=gB (ec v.text).length;unfold hf;rw[cI];have:=m8 v.text;omega
   simp[dJ,z,B,W];refine Kz (some (ec v.text)) (by simpa [m8] using aj) (by simp[cq]) V (fun l' _ _=>by simp[cq]) fun w l' h=>?_
   obtain⟨aq,ao,j,m,_⟩:=(D.frame h.le h.same).app (by_:=1) (x:=w) (xs:=hf (ec v.text)) h.contents (by simp[bW]) F F (by rw[Q];simp only[dM,hp];omega);simp[j];refine bR.bm ?_;simp;exact G _ _ (by rw[p];exact m)
structure M8 (l:ae) (v:gS) (p:Nat) (k:Nat) (sgZ:aS) (l1:ae) :Prop where
 e5:sgZ 1=.ptr p 0 4
 lo:sgZ 6=.i6 (8*(7 - (k:Int)))
 ut:∃ w,sgZ 5=w/\cd 1 bW (l++[.q 4 (dJ v)]) l1 w (v.kind::lT v.bits k) false
theorem Sw {v:gS} (h:iI v=true) (g:¬ v.kind=1#8) (j:¬ v.kind=2#8) :v.kind=3#8:=by unfold iI at h;simp[g,j] at h;exact h.1
theorem Zd (v:gS) (ar:Dw v) (R:iI v=true) {l:ae} {K:cB} (H:∀ w l',cd 1 bW l l' w (hg v) false->K (.aX [w,.i6 0]) l') :
  cM 175 [.af (dJ v)] l K:=by
 apply c1 func175 [];have T:=du;have z:=Js l (.q 4 (dJ v)) v.kind;obtain⟨ao,ap,aq⟩:=ar;have ag:r5 (.str v.text)=some (.bu 1 ((ec v.text).map bW)):=by
  show some (U.bu 1 (v.text.map fun b=>[hr b]))=_;rw[AI]
 have B:=Mx v;rw[R] at B;by_cases g:v.kind=1#8
 ·have t:hg v=[v.kind]++dD (km v.num).toNat:=by unfold hg;rw[ak g];rfl
  have D:(u v.kind:Int)=1:=(g0 v.kind).2 g;simp only[a7,D] at z;have aB:=gB (km v.num).toNat
  simp[dJ];refine au B rfl ?_;simp[j3,D];refine Zc v.num ao ap fun w l' h=>?_
  obtain⟨ay,aw,m,o,_⟩:=(z.frame h.le h.same).app (by_:=1) (x:=w) (xs:=dD (km v.num).toNat) h.contents (by simp[bW]) F F (by rw[T];simp only[dM,hp];omega);simp[m];refine bR.bm ?_;simp;exact H _ _ (by rw[t];exact o)
 ·have D:¬ (u v.kind:Int)=1:=fun h=>g ((g0 v.kind).1 h)
  by_cases p:v.kind=2#8
  ·have G:(u v.kind:Int)=2:=(jn v.kind).2 p;have t:hg v=v.kind::lT v.bits 8:=by unfold hg;rw[ai g,ak p]
   have Q:=p0 l (.q 4 (dJ v)) v.kind;simp only[a7,G] at Q;simp[dJ];refine au B rfl ?_;simp[j3,G];refine bB 8 (M8 l v l.length) ?_ ⟨V,V,_,V,Q⟩;rintro k ax av hk ⟨J,P,w,O,C⟩;have S:av[l.length]?=some (.q 4 (dJ v)):=by rw[C.same l.length V];simp
   obtain⟨ax,rfl⟩:=gF J O P;clear J O P;by_cases ah:k=8
   ·subst ah;rw[<-t] at C;simp;exact H _ _ (C.base V fun b Y=>aV Y)
   ·obtain⟨j,aA⟩:∃ j,j+k=7:=⟨7 - k,F⟩
    obtain⟨n,am⟩:=al (8*j);have em:8*(7 - (k:Int))=(n:Int):=F;have X:IntKind.i64.wrap ((n:Int) - 8)=(n:Int) - 8:=by rw[IntKind.wrap_i64];omega
    have az:cz .shr .u64 (u v.bits) .i64 (n:Int)=some (.int .u64 (u (v.bits >>> n))):=qG v.bits .i64 n;have W:=yq v.bits j;rw[<-am] at W;have aj:(v.kind::lT v.bits k).length<=1000000000:=by simp[lT];omega
    obtain⟨w',l',m,o⟩:=cd.push C (jx v.bits.toNat j) aj;rw[em];simp[dJ] at S;simp[S,az,W,m];refine bR.bm ?_;simp[X];exact⟨F,V,by simp;omega,w',V,by rw[Gs,show 7 - k=j by omega];exact o⟩
  ·have G:¬ (u v.kind:Int)=2:=fun h=>p ((jn v.kind).1 h)
   have I:(u v.kind:Int)=3:=(n3 v.kind).2 (Sw R g p);have t:hg v=[v.kind]++hf (ec v.text):=by unfold hg;rw[ai g,ai p];rfl
   have aC:(hf (ec v.text)).length<=20000:=by
    have:=gB (ec v.text).length;unfold hf;rw[cI];have:=m8 v.text;omega
   simp only[a7,I] at z;simp[dJ];refine au B rfl ?_;simp[j3,I,ag];refine ME (some (ec v.text)) (by simpa [m8] using aq) (by simp[cq]) V (fun l' _ _=>by simp[cq]) fun w l' h=>?_
   obtain⟨ay,aw,m,o,_⟩:=(z.frame h.le h.same).app (by_:=1) (x:=w) (xs:=hf (ec v.text)) h.contents (by simp[bW]) F F (by rw[T];simp only[dM,hp];omega);simp[m];refine bR.bm ?_;simp;exact H _ _ (by rw[t];exact o)
structure aK where
 eL:D
 ax:b2
 e9:Q
 act:Act
 e:D
 s:D
def aw (o:aK) :ag:=[bg o.eL,ah o.ax,c6 o.e9,a7 o.act.kind,.str o.act.key,a7 o.act.val.kind,.i6 o.act.val.num,c6 o.act.val.bits,.str o.act.val.text,bg o.e,bg o.s]
structure dk (o:aK) :Prop where
 idsZ:c5 o.ax
 len:o.ax.l.length<=1000000
 val:Dw o.act.val
 key:o.act.key.length<=10000
def pI (o:aK) :Bool:=eX o.eL&&(decide (o.e9.toNat<=1000000000000)&&(iP o.act&&(hu o.e&&hu o.s)))
def dd (o:aK) :Int:=if 4<o.ax.l.length then 4 else if b8 o.ax.l then (if pI o then 0 else 8) else 32
theorem dt (o:aK) :am (aw o)=true:=by have:=bO o.ax;simp[aw,am,U.ar,this]
theorem Kv (o:aK) (q:dk o) :aU 120 [.af (aw o)] (.i6 (dd o)):=by
 apply a2 func120 [];unfold dd;have v:=bO o.ax;have p:bD (.Z 32) (ah o.ax)=_:=b9 _;have G:(ah o.ax).cells=some [ah o.ax]:=by cases o.ax<;>rfl
 obtain⟨I,H⟩:=al (ah o.ax);by_cases h1:4<o.ax.l.length
 ·have j:(4:Int)<(o.ax.l.length:Int):=F;rw[ak h1];simp[aw,p,j];exact aF
 ·have j:¬ (4:Int)<(o.ax.l.length:Int):=F;rw[ai h1];simp[aw,p,j];refine au (D0 o.ax q.idsZ q.len) (by simp[am,v]) ?_;cases w:b8 o.ax.l with
  | false=>
   simp;exact aF
  | true=>
   simp;refine au (KJ o.eL) rfl ?_;unfold pI;cases z:eX o.eL with
   | false=>
    simp;exact aF
   | true=>
    have t:((1000000000000:Int)<u o.e9)<->¬ o.e9.toNat<=1000000000000:=by unfold u;omega
    by_cases g:o.e9.toNat<=1000000000000
    ·have m:¬ ((1000000000000:Int)<u o.e9):=fun h=>t.1 h g
     simp[m];refine au (Wt o.act) rfl ?_;cases B:iP o.act with
     | false=>
      simp[j3];exact aF
     | true=>
      simp[j3];refine au (yP o.e) rfl ?_;cases C:hu o.e with
      | false=>
       simp;exact aF
      | true=>
       simp;refine au (yP o.s) rfl ?_;cases D:hu o.s with
       | false=>
        simp;exact aF
       | true=>
        simp;exact aP (by rw[ak g]) rfl
    ·have m:(1000000000000:Int)<u o.e9:=t.2 g;simp[g,m];exact aF
def opHead (o:aK) :List B:=111#8::dD o.eL.toNat
def iD (o:aK) :List B:=
 opHead o++nN o.ax.l++dD o.e9.toNat++[o.act.kind]++(if o.act.kind=1#8 then [] else hf (ec o.act.key))++(if o.act.kind=4#8 then hg o.act.val else [])
theorem wG {l:aR} (h:∀ x∈l,x.length=32) :(nN l).length<=9+l.length*32:=by have:=gB l.length;have g:=CN h;unfold nN;rw[cI];omega
theorem uZ (s:List B) :(hf s).length<=9+s.length:=by have:=gB s.length;unfold hf;rw[cI];omega
theorem xI (v:gS) :(hg v).length<=20+v.text.length:=by
 have h1:=gB (km v.num).toNat
 have g:=uZ (ec v.text);have h:=m8 v.text;unfold hg;simp only[dM];split
 ·omega
 ·split
  ·simp[lT];omega
  ·omega
theorem Ky (o:aK) (B:dk o) (aH:o.ax.l.length<=1000) {l:ae} {K:cB} (S:∀ w l',cd 1 bW l l' w (iD o) false->K w l') :
  cM 134 [.af (aw o)] l K:=by
 apply c1 func134 [[[0],[1],[2],[5],[6],[3,6],[4,6]]];have C:=du;have aE:=p0 l (.q 11 (aw o)) 111#8;have a4:=gB o.eL.toNat
 have a5:=gB o.e9.toNat
 have a6:=wG B.idsZ;have aP:(BitVec.setWidth 64 o.eL).toNat=o.eL.toNat:=by rw[fx];exact ed (by have:=o.eL.isLt;omega)
 have z:l.length<(l++[aq.q 11 (aw o)]).length:=V;have t:(l++[aq.q 11 (aw o)])[l.length]?=some (.q 11 (aw o)):=V;simp[aw];refine rg _ fun aU a9 h1=>?_
 rw[aP] at h1;obtain⟨bg,ap,ay,H,_⟩:=(aE.frame h1.le h1.same).app (by_:=1) (x:=aU) (xs:=dD o.eL.toNat) h1.contents (by simp[bW]) F F (by rw[C];simp only[dM,hp];omega);have ag:ap[l.length]?=some (.q 11 (aw o)):=by rw[H.same _ z];exact t
 have aI:l.length<ap.length:=by have:=H.le;omega
 have ah:=ag;simp[aw] at ah;simp[ay];refine bR.bm ?_;simp[ah];refine VQ o.ax B.idsZ aH fun aY aR G=>?_
 obtain⟨bh,ar,az,I,_⟩:=(H.frame G.le G.same).app (by_:=1) (x:=aY) (xs:=nN o.ax.l) G.contents (by simp[bW]) F F (by rw[C];simp only[cI,dM,hp];omega);have cv:aR[l.length]?=some (.q 11 (aw o)):=by rw[G.same _ aI];exact ag
 have aJ:ar[l.length]?=some (.q 11 (aw o)):=by rw[I.same _ z];exact t
 have a2:l.length<ar.length:=by have:=I.le;omega
 have aj:=cv;have am:=aJ;simp[aw] at aj am;simp[aj,az];refine bR.bm ?_;simp[am];refine rg _ fun aZ bd Q=>?_
 obtain⟨bi,aS,aA,Y,_⟩:=(I.frame Q.le Q.same).app (by_:=1) (x:=aZ) (xs:=dD o.e9.toNat) Q.contents (by simp[bW]) F F (by rw[C];simp only[cI,dM,hp];omega);have aL:aS[l.length]?=some (.q 11 (aw o)):=by rw[Y.same _ z];exact t
 have ao:=aL;simp[aw] at ao;obtain⟨bj,au,aB,m⟩:=cd.push Y o.act.kind (by simp only[cI,dM,hp];omega);have aM:au[l.length]?=some (.q 11 (aw o)):=by rw[m.same _ z];exact t
 have a3:l.length<au.length:=by have:=m.le;omega
 have W:=aM;simp[aw] at W;simp[aA];refine bR.bm ?_;simp[ao,aB];refine bR.bm ?_;obtain⟨M,T⟩:=al ([111#8]++dD o.eL.toNat++nN o.ax.l++dD o.e9.toNat++[o.act.kind]);have a1:M.length<=40000:=by rw[T];simp only[cI,dM,hp];omega
 rw[<-T] at m;have g:iD o=M++(if o.act.kind=1#8 then [] else hf (ec o.act.key))++(if o.act.kind=4#8 then hg o.act.val else []):=by rw[T];rfl
 have aQ:=uZ (ec o.act.key);rw[m8] at aQ;have aG:=B.key;have a7:=xI o.act.val;have a8:=B.val.2.2;have aF:r5 (.str o.act.key)=some (.bu 1 ((ec o.act.key).map bW)):=by
  show some (U.bu 1 (o.act.key.map fun b=>[hr b]))=_;rw[AI]
 by_cases p:o.act.kind=1#8
 ·have J:(u o.act.kind:Int)=1:=(g0 o.act.kind).2 p;have j:¬ o.act.kind=4#8:=by rw[p];decide
  rw[ak p,ai j,eJ,eJ] at g;simp[W,J];exact S _ _ (by rw[g];exact m.base V fun b v=>aV v)
 ·have J:¬ (u o.act.kind:Int)=1:=fun h=>p ((g0 o.act.kind).1 h)
  rw[ai p] at g;simp[W,J,aF];refine Kz (some (ec o.act.key)) (by simpa [m8] using aG) (by simp[cq]) V (fun l' _ _=>by simp[cq]) fun a0 fq R=>?_
  obtain⟨bk,aT,aC,D,_⟩:=(m.frame R.le R.same).app (by_:=1) (x:=a0) (xs:=hf (ec o.act.key)) R.contents (by simp[bW]) F F (by rw[C];omega);have aO:aT[l.length]?=some (.q 11 (aw o)):=by rw[D.same _ z];exact t
  have X:=aO;simp[aw] at X;simp[aC];refine bR.bm ?_;simp only[rD] at D;by_cases j:o.act.kind=4#8
  ·have O:(u o.act.kind:Int)=4:=(rr o.act.kind).2 j;rw[ak j] at g;simp[X,O];refine We o.act.val B.val fun aW bb P=>?_
   obtain⟨bf,bc,av,aD,_⟩:=(D.frame P.le P.same).app (by_:=1) (x:=aW) (xs:=hg o.act.val) P.contents (by simp[bW]) F F (by rw[C];simp only[cI];omega);simp[av];refine bR.bm ?_;simp;exact S _ _ (by rw[g];exact aD.base V fun b v=>aV v)
  ·have O:¬ (u o.act.kind:Int)=4:=fun h=>j ((rr o.act.kind).1 h)
   rw[ai j,eJ] at g;simp[X,O];exact S _ _ (by rw[g];exact D.base V fun b v=>aV v)
def fZ (o:aK) :List B:=iD o++dD o.e.toNat++dD o.s.toNat
theorem JB (o:aK) (g:dk o) (w:o.ax.l.length<=1000) :(iD o).length<=100000:=by
 have h1:=gB o.eL.toNat
 have p:=gB o.e9.toNat
 have q:=wG g.idsZ;have h:=uZ (ec o.act.key);rw[m8] at h;have t:=g.key;have u:=xI o.act.val;have v:=g.val.2.2;have j:(if o.act.kind=1#8 then [] else hf (ec o.act.key)).length<=10009:=by split<;>(try simp) ;omega
 have m:(if o.act.kind=4#8 then hg o.act.val else []).length<=10020:=by split<;>(try simp) ;omega
 unfold iD opHead;simp only[cI,dM,hp];omega
theorem VE (o:aK) (u:dk o) (p:o.ax.l.length<=1000) {l:ae} {K:cB} (O:∀ w l',cd 1 bW l l' w (fZ o) false->K w l') :
  cM 123 [.af (aw o)] l K:=by
 apply c1 func123 [[[0]]++cT 2 4++cT 8 4++[[1,11,10,5,4],[6,11,10],[7,11,10]]];have D:=du;have ag:=gB o.e.toNat
 have ah:=gB o.s.toNat
 have ai:=JB o u p;have S:(BitVec.setWidth 64 o.e).toNat=o.e.toNat:=by rw[fx];exact ed (by have:=o.e.isLt;omega)
 have T:(BitVec.setWidth 64 o.s).toNat=o.s.toNat:=by rw[fx];exact ed (by have:=o.s.isLt;omega)
 have t:l.length<(l++[aq.q 11 (aw o)]).length:=V;have m:(l++[aq.q 11 (aw o)])[l.length]?=some (.q 11 (aw o)):=V;simp[aw];refine Ky o u p fun al G h1=>?_
 have v:G[l.length]?=some (.q 11 (aw o)):=by rw[h1.same _ t];exact m
 have Q:l.length<G.length:=by have:=h1.le;simp at this;omega
 have z:=v;simp[aw] at z;simp[z];refine rg _ fun X U g=>?_
 rw[S] at g;obtain⟨am,W,H,j,_⟩:=(h1.frame g.le g.same).app (by_:=1) (x:=X) (xs:=dD o.e.toNat) g.contents (by simp[bW]) F F (by rw[D];omega);have R:U[l.length]?=some (.q 11 (aw o)):=by rw[g.same _ Q];exact v
 have cv:W[l.length]?=some (.q 11 (aw o)):=by rw[j.same _ t];exact m
 have B:=R;have C:=cv;simp[aw] at B C;simp[B,H];refine bR.bm ?_;simp[C];refine rg _ fun Y aj h=>?_
 rw[T] at h;obtain⟨ao,ak,I,J,_⟩:=(j.frame h.le h.same).app (by_:=1) (x:=Y) (xs:=dD o.s.toNat) h.contents (by simp[bW]) F F (by rw[D];simp only[cI];omega);simp[I];refine bR.bm ?_;simp;exact O _ _ (J.base V fun b P=>aV P)
theorem DX (o:aK) (j:dk o) (h:o.ax.l.length<=1000) :aU 73 [.af (aw o)] (eo (go (fZ o))):=by
 apply a2 func73 [];have v:=gB o.e.toNat
 have w:=gB o.s.toNat
 have z:=JB o j h;have m:(go (fZ o)).length=32:=o7 _;simp[aw];refine VE o j h fun B p h1=>?_
 have g:p[1]?=some (.q 32 (bZ 32 (.int .u8 0))):=by rw[h1.same 1 V];rfl
 simp;refine ig (KK (some (fZ o)) (by simp[fZ];omega)) (.cons (h1.o3 (fun _=>rfl) (some (fZ o)) rfl rfl) .nil) (by simp[U.flat,eo,tQ a7 (fun _=>rfl)]) ?_;have u:av (bZ 32 (.int .u8 0)) 0 ((go (fZ o)).map a7)=(go (fZ o)).map a7:=cD (by rw[ce,m];rfl);have t:(p.set 1 (aq.q 32 ((go (fZ o)).map a7)))[1]?=some (.q 32 ((go (fZ o)).map a7)):=bY (a1 g);simp[g,eo,m,u,t,aI];exact aP rfl (by simp[U.ar,jy a7 (fun _=>rfl)])
end Op
end Go.bh

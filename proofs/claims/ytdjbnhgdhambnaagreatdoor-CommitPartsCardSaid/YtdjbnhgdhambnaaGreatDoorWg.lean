/-
  The reference of SHA-256, walked: tail, blocks, written, Of.
-/
import Derived.Test.YtdjbnhgdhambnaaGreatDoorWf
import Derived.LaidMore
import Derived.MakeChecks
import Derived.Lib.DecodeN
set_option maxHeartbeats 16000000
set_option maxRecDepth 100000
set_option linter.unusedVariables false
set_option linter.unusedSimpArgs false
set_option linter.unnecessarySimpa false
namespace Go.bh
open Go Go.Proofs Go.Proofs.Tryz
namespace ca
def nF (k:Nat) :List B:=128#8::List.replicate k 0#8
theorem UZ (k:Nat) :nF (k+1)=nF k++[0#8]:=by simp[nF,List.replicate_succ']
theorem JT (k:Nat) :(nF k).length=k+1:=by simp[nF]
theorem Wr (n:Nat) (aB:n<=100000000) :nh prog GS 187 [.i6 n] (cc (some (tail n))):=by
 have aC:dk=140737488355328:=rfl;refine w3 checked.mixed ev ?_;apply cW func187 [];obtain⟨m,ar⟩:=ao ((119 - n % 64) % 64);simp;refine bz m (fun k h l=>h 0=.i6 n/\∃ g o,h 3=g/\bt g=false/\aM 1 l g o ((nF k).map bR)) ?_ ?_
 ·rintro k h l hk ⟨p,g,o,t,u,j⟩;obtain⟨h,rfl⟩:=kb p t;clear p t;have z:=j.len;rw[cx,JT] at z;obtain⟨R,aq⟩:=ao (k+1);rw[<-aq] at z;have O:IntKind.i64.wrap ((n:Int)+(R:Int))=(n+R:Nat):=wrap_i64 F F;obtain⟨q,au⟩:=ao (n+R);rw[<-au] at O;have P:IntKind.i64.wrap ((q:Int)+8)=(q+8:Nat):=wrap_i64 F F;obtain⟨Z,av⟩:=ao (q+8);rw[<-av] at P;have B:=tG Z 64 F;rw[show ((64:Int).toNat)=64 from rfl] at B;obtain⟨x,C⟩:=ao (Z % 64);rw[<-C] at B;simp[z,O,P,B];by_cases Y:x=0
  ·have I:k=m:=F;subst I;have aw:nF k=kS n 0:=by unfold nF kS;rw[<-ar];simp
   rw[aw] at j;clear z O P B;simp[Y];refine bz 8 (fun k h l=>h 0=.i6 n/\h 4=.i6 (7 - (k:Int))/\∃ g o,h 3=g/\bt g=false/\aM 1 l g o ((kS n k).map bR)) ?_ ?_
   ·rintro k h l hk ⟨p,T,g,o,t,u,j⟩;obtain⟨h,rfl⟩:=gK p t T;clear p t T;obtain⟨c,aj⟩:=ao (7 - (k:Int) :Int);rw[<-aj];by_cases X:0<=c
    ·have W:k<8:=F;have az:IntKind.i64.wrap (c - 1)=7 - ((k:Int)+1):=by rw[wrap_i64 F F];omega
     obtain⟨d,aA⟩:=ao (8*c);have ay:IntKind.i64.wrap (8*c)=d:=by rw[wrap_i64 F F];omega
     have ak:0<=d:=F;have al:d.toNat=56 - 8*k:=F;have C:=Gs (BitVec.ofNat 64 n*8#64) k W;have ax:=Ak n k;obtain⟨y,Q⟩:=ao ((((BitVec.ofNat 64 n*8#64) >>> (56 - 8*k)).setWidth 8));rw[<-Q] at C;have J:aM 1 (l++[am.q 1 [a8 y]]) g o ((kS n k).map bR):=j.more _;obtain⟨w,v,S,h1,D,ae,ag,ai,H⟩:=lM (by_:=1) J (x:=.ad 1 l.length 0 1 1 1) (xs:=[[a8 y]]) (by simp[cG]) V F F (by simp;omega);have K:bt w=false:=by rw[qL H,u];rfl
     have G:aM 1 S w v ((kS n (k+1)).map bR):=by rw[Mi n k y C,c5];exact D
     rw[BitVec.mul_comm] at Q;simp only[a8] at h1;simp[X,ay,ak,al];rw[<-Q];simp[h1];refine b2.bq ?_;simp[az,W];exact⟨K,v,G⟩
    ·have ap:k=8:=F;subst ap;simp[X];exact j.DK (fun _=>rfl) (some (tail n)) u rfl
   ·simp;exact⟨u,_,j⟩
  ·have ax:=JT k;have J:aM 1 (l++[am.q 1 [a8 0#8]]) g o ((nF k).map bR):=j.more _;obtain⟨w,v,S,h1,D,ae,ag,ai,H⟩:=lM (by_:=1) J (x:=.ad 1 l.length 0 1 1 1) (xs:=[[a8 0#8]]) (by simp[cG]) V F F (by simp;omega);have K:bt w=false:=by rw[qL H,u];rfl
   have G:aM 1 S w v ((nF (k+1)).map bR):=by rw[UZ,c5];exact D
   have I:k<m:=F;simp[a8] at h1;simp[Y,h1];refine b2.bq ?_;simp[I];exact⟨K,v,G⟩
 ·simp;exact⟨rfl,0,.ad 0 1 1 1 [.int .u8 128] _ rfl rfl rfl (by intro e U;simp[nF] at U;subst U;rfl) (aI _) (aI _) rfl⟩
theorem Wl (h:dM) (b:List B) (ae:b.length<=100000000) :aY 185 [.ah (h.l.map a7),cc (some b)] (.ah ((fZ h b).1.l.map a7)):=by
 apply bc func185 [];have K:∀ A:ag,A.length=8->A.take 8=A:=fun A g=>aL F
 have aj:∀ s:dM,(s.l.map a7).length=8:=fun s=>rfl
 obtain⟨Q,u⟩:=ao (h.l.map a7);have R:Q.length=8:=by rw[u];rfl
 rw[<-u];simp[R];refine bz (b.length / 64) (fun k j l=>j 1=cc (some b)/\j 2=.ptr 0 0 8/\j 4=.ptr 1 0 8/\j 5=.i6 (64*k:Nat)/\∃ s p,fZ s (b.drop (64*k))=fZ h b/\l=[.q 8 (s.l.map a7),.q 8 p]/\p.length=8) ?_ ?_
 ·rintro k j l hk ⟨D,G,H,I,s,p,z,rfl,O⟩;obtain⟨j,rfl⟩:=fc D G H I;clear D G H I;obtain⟨a,T⟩:=ao (64*k);rw[<-T] at z ⊢;obtain⟨ni,V⟩:=ao (64*(k+1));rw[<-V];obtain⟨A,g⟩:=ao (s.l.map a7);have m:A.length=8:=by rw[g];rfl
  rw[<-g];have C:IntKind.i64.wrap ((a:Int)+64)=ni:=by rw[wrap_i64 F F];omega
  by_cases ak:ni<=b.length
  ·have w:(ni:Int)<=b.length:=F;have Y:dK (.ad 1) (cc (some b)) (some (.i6 (a:Int))) (some (.i6 (ni:Int))) none=some (cc (some ((b.drop a).take 64))):=by
    unfold cc;rw[Xy F F F];have:(ni:Int).toNat - (a:Int).toNat=64:=F;rw[this,fA]
   have W:64<=((b.drop a).take 64).length:=by simp;omega
   have v:=RQ s _ W;have ai:grind s ((b.drop a).take 64)=grind s (((b.drop a).take 64)):=rfl;rw[<-g] at v;have Z:fZ (grind s ((b.drop a).take 64)) (b.drop ni)=fZ h b:=by
    rw[<-z,vG s (b.drop a) (by simp;omega),vd];congr 2;omega
   have X:k<b.length / 64:=F;have o:aq A=true:=by rw[g];exact jo a7 (fun _=>rfl) _
   obtain⟨P,t⟩:=ao ((grind s ((b.drop a).take 64)).l.map a7);have S:P.length=8:=by rw[t];rfl
   rw[<-t] at v;simp[C,w,m,K A m,Y];refine av v (by simp[aq,U.aw,o,i5]) ?_;simp[mb,m,S,C,X];exact⟨_,Z,p,⟨t,rfl⟩,O⟩
  ·have w:¬(ni:Int)<=b.length:=F;have J:=z;rw[yd s (b.drop a) (by simp;omega)] at J;rw[<-J];have o:aq A=true:=by rw[g];exact jo a7 (fun _=>rfl) _
   simp[C,w,m,K A m,mb,O];exact aT (by rw[g]) (by rw[g] at o;simp[U.aw,o])
 ·exact⟨rfl,rfl,rfl,rfl,h,bT 8 (.int .u32 0),rfl,by rw[u];rfl,rfl⟩
def oJ (s:dM) (k:Nat) :List B:=(written s).take k++List.replicate (32 - k) 0#8
theorem UO (s:dM) (k:Nat) (hk:k<=32) :(oJ s k).length=32:=by unfold oJ;have:=Az s;simp;omega
theorem UP (s:dM) (k:Nat) (x:B) (g:(written s)[k]?=some x) :(oJ s k).set k x=oJ s (k+1):=by
 have hk:k<32:=(aK.1 g).1;unfold oJ;have h:(List.take k (written s)).length=k:=by have:=Az s;simp;omega
 rw[o0 _ _ F,h,tk,eU,g,show 32 - k=(32 - (k+1))+1 by omega,kk,xU];simp
theorem Zy (s:dM) (k:Nat) (hk:k<32) :∃ w,s.l[k / 4]?=some w/\(written s)[k]?=some ((w >>> (24 - 8*(k % 4))).setWidth 8):=by
 have o:∀ w:W,w=w >>> 0:=fun w=>V
 obtain⟨a,b,c,d,e,f,m,h⟩:=s;have:∀ (l:List W) (k:Nat),k<4*l.length->∃ w,l[k / 4]?=some w/\(l.map p4).flatten[k]?=some ((w >>> (24 - 8*(k % 4))).setWidth 8):=by
  intro l
  induction l with
  | nil=>intro k hk;simp at hk
  | cons w l j=>
   intro k hk
   match k,hk with
   | 0,_=>exact⟨w,rfl,rfl⟩
   | 1,_=>exact⟨w,rfl,rfl⟩
   | 2,_=>exact⟨w,rfl,rfl⟩
   | 3,_=>refine⟨w,rfl,?_⟩;simp[p4]
   | k+4,hk=>
    obtain⟨y,h1,g⟩:=j k (by simp at hk;omega);refine⟨y,?_,?_⟩
    ·rw[show (k+4) / 4=k / 4+1 by omega];exact h1
    ·rw[show (k+4) % 4=k % 4 by omega];exact g
 exact this _ k (by simpa [dM.l] using hk)
theorem Wt (s:dM) :aY 184 [.ah (s.l.map a7)] (eF (written s)):=by
 apply bc func184 [];obtain⟨A,j⟩:=ao (s.l.map a7);have G:A.length=8:=by rw[j];rfl
 rw[<-j];simp[G];refine bz 32 (fun k h l=>h 1=.ptr 0 0 8/\h 2=.ptr 1 0 32/\h 3=.ptr 2 0 32/\h 4=.i6 k/\∃ v,l=[.q 8 A,.q 32 v,.q 32 ((oJ s k).map a8)]/\v.length=32) ?_ ?_
 ·rintro k h l hk ⟨z,B,C,D,v,rfl,P⟩;obtain⟨h,rfl⟩:=fc z B C D;clear z B C D;by_cases W:(k:Int)<32
  ·have m:k<32:=F;have ap:IntKind.i64.wrap ((k:Int)+1)=(k+1:Nat):=wrap_i64 F F;have o:=Bx k 4 F F;have p:=tG k 4 F;rw[show ((4:Int).toNat)=4 from rfl] at o p;obtain⟨w,K,u⟩:=Zy s k m;obtain⟨q,Y⟩:=ao (k / 4);obtain⟨r,ag⟩:=ao (k % 4);rw[<-Y] at o K;rw[<-ag] at p u;have Z:q<8:=F;obtain⟨DA,aj⟩:=ao (8*r);have am:IntKind.i64.wrap (8*(r:Int))=DA:=by rw[wrap_i64 F F];omega
   obtain⟨Ks,ai⟩:=ao (24 - DA);have al:IntKind.i64.wrap (24 - (DA:Int))=Ks:=by rw[wrap_i64 F F];omega
   have J:=UP s k _ u;rw[<-aj,<-ai] at u J;have I:=UO s k F;have t:=mc a8 (oJ s k) k ((w >>> Ks).setWidth 8) (by rw[I];exact m);rw[J] at t;obtain⟨O,g⟩:=ao ((oJ s k).map a8);have H:O.length=32:=by rw[g,cx,I]
   rw[<-g] at t ⊢;have Q:A[q]?=some (a7 w):=by rw[j,bW,K];rfl
   obtain⟨ar,R⟩:=aK.1 Q;have au:q<=7:=F;have V:k<=31:=F;have ae:(q:Int)<8:=F;simp[W,m,ap,o,p,am,al,G,Z,R,t,P,V,ae]
  ·have T:k=32:=F;subst T;have X:oJ s 32=written s:=by unfold oJ;rw[aL (by rw[Az];omega)];simp
   rw[X];obtain⟨O,g⟩:=ao ((written s).map a8);have H:O.length=32:=by rw[g,cx,Az]
   have S:aq O=true:=by rw[g];exact jo a8 (fun _=>rfl) _
   have ak:O.take 32=O:=aL F;unfold eF;rw[<-g];simp[H,ak,mb,P];exact aT rfl (by simp[U.aw,S])
 ·refine⟨rfl,rfl,rfl,rfl,_,rfl,rfl⟩
theorem KQ (s:dS) (R:s.l.length<=1000000) :aY 122 [cc s] (eF (fr s.l)):=by
 have p:dk=140737488355328:=rfl;apply bc func122 [];simp;refine av Rb rfl ?_;have K:aM 1 ([am.q 32 (bT 32 (U.int IntKind.u8 0))]++[am.q 0 []]) (.ad 1 1 0 0 0 0) 1 []:=.ad 1 0 0 0 [] _ rfl rfl rfl V (aI _) (aI _) rfl;obtain⟨O,T,r,h1,m,u,v⟩:=rN (by_:=1) K (.inr (aI _)) (x:=cc s) (xs:=s.l.map bR) (by unfold cc;rw[oj,cx]) (by intro e g;obtain⟨x,_,rfl⟩:=cy.1 g;rfl) F F (by rw[p];simp;omega);have H:bt O=false:=by rw[v];rfl
 simp only[iD,Fq] at h1 m;have z:bx (.ad 1) (cc s)=some (.i6 s.l.length):=cd _;have G:=Wr s.l.length F;have S:(tail s.l.length).length<=80:=by rw[<-EH];exact Ak _ _
 obtain⟨P,W,Y,t,j,X,J⟩:=rN (by_:=1) (pre:=[am.q 32 (bT 32 (U.int IntKind.u8 0))]) m u (x:=cc (some (tail s.l.length))) (xs:=(tail s.l.length).map bR) (by unfold cc;rw[oj,cx];rfl) (by intro e g;obtain⟨x,_,rfl⟩:=cy.1 g;rfl) F F (by rw[p];simp;omega);have I:bt P=false:=by rw[J,H];rfl
 rw[<-c5] at j;simp only[Fq] at t j;have B:=j.l8 (fun _=>rfl) (some (s.l++tail s.l.length)) I rfl;have o:=Wl first (s.l++tail s.l.length) (by simp;omega)
 have h:=Wt (fZ first (s.l++tail s.l.length)).1;have C:fr s.l=written (fZ first (s.l++tail s.l.length)).1:=rfl;rw[<-C] at h;obtain⟨Q,w⟩:=ao ((fZ first (s.l++tail s.l.length)).1);rw[<-w] at o h;simp[h1];refine b2.bq ?_;simp[z];refine av G.An rfl ?_;simp[t];refine b2.bq ?_;simp;refine hg o (.cons (.same _ ?_) (.cons B .nil)) (HG a7 (fun _=>rfl) _) ?_
 ·simp[U.aw,jo a7 (fun _=>rfl)]
 simp;refine av h ?_ ?_
 ·simp[aq,U.aw,jo a7 (fun _=>rfl)]
 have D:=jE s.l;simp[eF,D,mb,aL];exact aT rfl (by simp[U.aw,jo a8 (fun _=>rfl)])
end ca
end Go.bh
namespace Go.bh
open Go Go.Proofs Go.Proofs.Tryz Go.RowKit
open ca
theorem My {e:aC} (g:prog.underlying e=some (.int .u8)) :∀ (n:Nat) {ts:List aC} {cs:ag},c0 prog (List.replicate n e++ts) cs->∃ (x:List B) (cs' : ag),cs=x.map a8++cs'/\x.length=n/\c0 prog ts cs'
 | 0,ts,cs,h=>⟨[],cs,rfl,rfl,h⟩
 | n+1,ts,cs,h=>by
  obtain⟨k,t,rfl,h1,m,o⟩:=m4 g h;obtain⟨x,j,rfl,q,p⟩:=My g n o;have v:(0:Int)<=k:=h1;have w:k<=255:=m;refine⟨BitVec.ofNat 8 k.toNat::x,j,?_,by simp[q],p⟩;have:((BitVec.ofNat 8 k.toNat).toNat:Int)=k:=by
   rw[fe,dR F];omega
  simp[a8,u];omega
theorem MA {ts:List aC} {cs:ag} (h:c0 prog (47::ts) cs) :∃ (x:BitVec 64) (cs' : ag),cs=c1 x::cs'/\c0 prog ts cs':=by
 obtain⟨k,g,rfl,h1,j,m⟩:=m4 (k:=.u64) bg h;have o:(0:Int)<=k:=h1;have p:k<=18446744073709551615:=j;refine⟨BitVec.ofNat 64 k.toNat,g,?_,m⟩;have:((BitVec.ofNat 64 k.toNat).toNat:Int)=k:=by
  rw[fe,dR F];omega
 simp[c1,u];omega
theorem Yt {ts:List aC} {cs:ag} (h:i3 prog (3::ts) cs) :∃ (n:Int) (cs' : ag),cs=.i6 n::cs'/\IntKind.i64.min<=n/\n<=IntKind.i64.max/\i3 prog ts cs':=by obtain⟨c,cs',rfl,h1,g⟩:=EN h;obtain⟨n,p,o,m,j,q⟩:=m4 (k:=.i64) bg (Mx bg h1);cases o;exact⟨n,cs',rfl,m,j,g⟩
def CE:List Int:=ca.b3.map fun k=>(k.toNat:Int)
theorem Yf:uX=CE.map fun k=>.int .u32 k:=by unfold uX CE;rw[iU];rfl
theorem SO {W:aQ} (h:laidMetH prog [("braid/digest.constants",Go.Proofs.YtdjbnhgdhambnaaGreatDoor.Rows.laid_braid_digest_constants)] W) :∀ g,dd W (fun _=>True) (GS g) (.pointer (some ⟨g,0,none⟩)):=by
 intro g;unfold GS;split
 ·rename_i o;have:=mo o;subst this;rw[MakeChecks.laidMetH_plain _ _ _ bg] at h;obtain⟨B,⟨w,t0,v,f0,z,C,q,t,u,p,_,_⟩,_,_⟩:=h;have j:prog.globalNamed "braid/digest.constants"=some 1:=bg;have m:(prog.globals[1]?).map (·.type)=some 333:=bg;obtain rfl:=cg (j.symm.trans q);obtain rfl:=cg (m.symm.trans t);rw[Yf];exact RJ CE j u (n:=64) (e:=46) bg bg bg p (by rfl)
 ·exact .bad _
end Go.bh
namespace Go.bh
open Go Go.Proofs Go.Proofs.Tryz
open ca
def Gc:U->Option B
 | .int .u8 (.ofNat n)=>match Nat.ble n 255 with | true=>some (BitVec.ofNat 8 n) | false=>none
 | _=>none
def Gp:ag->Option (List B)
 | []=>some []
 | c::r=>match Gc c with
  | some b=>match Gp r with | some l=>some (b::l) | none=>none
  | none=>none
def bE:U->Option (List B)
 | .ah cs=>match Gp cs with | some l=>(match Nat.beq l.length 32 with | true=>some l | false=>none) | none=>none
 | _=>none
def K5:List (ag)->Option (List B)
 | []=>some []
 | [c] ::r=>match Gc c with
  | some b=>match K5 r with | some l=>some (b::l) | none=>none
  | none=>none
 | _=>none
def Ph:U->Option dS
 | .af=>some none
 | .bn 1 g=>match K5 g with | some l=>some (some l) | none=>none
 | _=>none
def X6:ag->Option U
 | [c]=>match Ph c with
  | some s=>match Nat.ble s.l.length 10000 with | true=>some (.a1 [eF (fr s.l),.int .i64 0]) | false=>none
  | none=>none
 | _=>none
abbrev j8:cf × Bool × (ag->Option U):=(150,false,X6)
end Go.bh
namespace Go.bh
open Go Go.Proofs Go.Proofs.Tryz Go.Sort Go.Shelf
open ca
def bJ:List B->List B->Int
 | [],[]=>0
 | [],_::_=>-1
 | _::_,[]=>1
 | a::g,b::h=>if a.toNat<b.toNat then -1 else if b.toNat<a.toNat then 1 else bJ g h
theorem GR (a b:B) (g KG:List B) :bJ (a::g) (b::KG)=if a.toNat<b.toNat then -1 else if b.toNat<a.toNat then 1 else bJ g KG:=rfl
theorem k8:∀ a:List B,bJ a a=0
 | []=>rfl
 | a::g=>by unfold bJ;simp;exact k8 g
theorem og:∀ {a b:List B},bJ a b=0->a=b
 | [],[],_=>rfl
 | [],_::_,h=>by simp[bJ] at h
 | _::_,[],h=>by simp[bJ] at h
 | a::g,b::j,h=>by
  unfold bJ at h;split at h
  ·cases h
  ·split at h
   ·cases h
   ·have h1:a=b:=eO F;rw[h1,og h]
theorem oh:∀ a b:List B,bJ b a=- bJ a b
 | [],[]=>rfl
 | [],_::_=>rfl
 | _::_,[]=>rfl
 | a::h,b::j=>by
  unfold bJ;by_cases h1:a.toNat<b.toNat
  ·simp[h1,show ¬ b.toNat<a.toNat by omega]
  ·by_cases g:b.toNat<a.toNat
   ·simp[h1,g]
   ·simp[h1,g];exact oh h j
theorem vO:∀ a b:List B,bJ a b=-1\/bJ a b=0\/bJ a b=1
 | [],[]=>by simp[bJ]
 | [],_::_=>by simp[bJ]
 | _::_,[]=>by simp[bJ]
 | a::g,b::h=>by
  unfold bJ;split
  ·simp
  ·split
   ·simp
   ·exact vO g h
theorem oi:∀ a b c:List B,bJ a b<0->bJ b c<0->bJ a c<0
 | [],[],_,h,_=>by simp[bJ] at h
 | [],_::_,[],_,h=>by simp[bJ] at h
 | [],_::_,_::_,_,_=>by simp[bJ]
 | _::_,[],_,h,_=>by simp[bJ] at h
 | _::_,_::_,[],_,h=>by simp[bJ] at h
 | a::m,b::o,c::p,h1,g=>by
  unfold bJ at h1 g ⊢;have j:=oi m o p
  repeat' split at h1
  all_goals repeat' split at g
  all_goals repeat' split
  all_goals first | omega | (exact j h1 g) | (exfalso;omega) | skip
def eQ (a b:List B) :Bool:=ltOf bJ a b
theorem h5 (a b:List B) :eQ a b=true<->bJ a b<0:=by unfold eQ ltOf;simp
theorem EF:SWO (ltOf bJ) where
 irrefl x:=by unfold ltOf;rw[k8];rfl
 trans x y g h1 ou:=by
  unfold ltOf at *
  simp only[bC] at *
  exact oi x y g h1 ou
 ntrans x y g h1 ou:=by
  unfold ltOf at *
  simp only[decide_eq_false_iff_not] at *
  intro p;have j:=oh x y;have m:=oh y g;rcases vO x y with h | h | h
  ·omega
  ·have:=og h;subst this;omega
  ·rcases vO y g with h' | h' | h'
   ·omega
   ·have:=og h';subst this;omega
   ·have:=oi g y x F F;have o:=oh x g;omega
theorem OH (x y:List B) (h1:ltOf bJ x y=false) (g:ltOf bJ y x=false) :x=y:=by
 unfold ltOf at *
 simp only[decide_eq_false_iff_not] at *
 have e:=oh x y;exact og F
theorem PO {a b:List B} (k:Nat) (h:∀ j,j<k->a[j]?=b[j]?) (o:k<=a.length) (p:k<=b.length) :bJ (a.drop k) (b.drop k)=bJ a b:=by
 induction k with
 | zero=>simp
 | succ k m=>
  rw[<-m (fun j q=>h j F) F F];have h1:=h k F;rw[ml (l:=a) (i:=k) F,ml (l:=b) (i:=k) F];rw[bI F,bI F] at h1;have g:=cg h1
  conv=>rhs;unfold bJ
  rw[g];simp
end Go.bh
namespace Go.bh
open Go Go.Proofs Go.Proofs.Tryz
namespace Op
open ca
abbrev Q:=BitVec 64
abbrev D:=BitVec 32
theorem MB:(u (1#64) :Int)=1:=rfl
def eh (x:D) :ag:=[a7 x]
def nA (l:List D) :Q:=l.foldl (fun g x=>g*x.setWidth 64 % 1000000007#64) 1#64
theorem TH (l:List D) (k:Nat) (x:D) (h:l[k]?=some x) :nA (l.take (k+1))=nA (l.take k)*x.setWidth 64 % 1000000007#64:=by rw[eU,h];simp[nA,AQ]
theorem zO (x:Q) :ct .rem .u64 (u x) .u64 1000000007=some (.int .u64 (u (x % 1000000007#64))):=rP x 1000000007#64 (by decide)
theorem CZ (l:List D) (C:l.length<=1000) :aY 223 [.int .u64 1000000007,b4 1 eh (some l)] (a7 ((nA l).setWidth 32)):=by
 apply bc func223 [];have w:bx (.ad 1) (b4 1 eh (some l))=some (.i6 l.length):=cd _;simp[w];refine bz l.length (fun k g _=>g 0=.int .u64 1000000007/\g 5=c1 (nA (l.take k))/\g 8=b4 1 eh (some l)/\g 9=.i6 l.length/\g 10=.i6 k) ?_ (by simp[nA];rfl);rintro k g h hk ⟨j,o,p,q,m⟩;obtain⟨g,rfl⟩:=gx j o p q m;clear j o p q m;by_cases h:k<l.length
 ·obtain⟨x,t,_⟩:=aP h;have u:bO (.ad 1) (b4 1 eh (some l)) (.i6 k)=some (.b0 (eh x) 0):=by rw[ow];simp[t]
  have B:IntKind.i64.wrap ((k:Int)+1)=(k+1:Nat):=wrap_i64 F F;have z:=TH l k x t;simp[h,u,eh,B,zO];rw[<-z]
 ·have v:k=l.length:=F;subst v;simp;exact aE
def ez (a n:Nat) :Nat:=a ^ n % 1000000007
theorem pQ (a n:Nat) :ez a n<1000000007:=iY _ (by decide)
theorem J6 (a n:Nat) :ez a n*ez a n % 1000000007=ez a (2*n):=by unfold ez;rw[<-vh,<-rD];congr 2;omega
theorem J5 (a n:Nat) :ez a n*a % 1000000007=ez a (n+1):=by unfold ez;rw[Nat.mod_mul_mod,Nat.pow_succ]
def dX (a:D) (n:Nat) :D:=BitVec.ofNat 32 (ez a.toNat n)
theorem lr (a:D) (n:Nat) :(dX a n).toNat=ez a.toNat n:=by have:=pQ a.toNat n;unfold dX;rw[fe];exact dR F
theorem CY (x y:D) (h:x.toNat<1000000007) :(nA [x,y]).setWidth 32=BitVec.ofNat 32 (x.toNat*y.toNat % 1000000007):=by
 apply eO;have j:=y.isLt;have h1:x.toNat*y.toNat<1000000007*4294967296:=by
  calc x.toNat*y.toNat<=1000000007*y.toNat:=cn _ F
   _<1000000007*4294967296:=Nat.mul_lt_mul_of_pos_left (by simpa using j) (by decide)
 have g:(1#64*x.setWidth 64 % 1000000007#64).toNat=x.toNat:=by
  rw[BitVec.one_mul,kg,eS];rw[dR (show x.toNat<2 ^ 64 by omega),show (1000000007#64).toNat=1000000007 from rfl,dR h]
 simp only[nA,xP,List.foldl_nil,eS,kg,s6,g,fe];rw[dR (show y.toNat<2 ^ 64 by omega),dR (show x.toNat*y.toNat<2 ^ 64 by omega),dR (show 1000000007<2 ^ 64 by decide)]
theorem TI (a:D) (n:Nat) :(nA [dX a n,dX a n]).setWidth 32=dX a (2*n):=by rw[CY _ _ (by rw[lr];exact pQ _ _),lr,J6];rfl
theorem mul_one (a:D) (n:Nat) :(nA [dX a n,a]).setWidth 32=dX a (n+1):=by rw[CY _ _ (by rw[lr];exact pQ _ _),lr,J5];rfl
theorem w7 {l:ae} {b:Nat} {x y:D} (h:l[b]?=some (.q 2 [a7 x,a7 y])) :fw (aX l) (.ad 1 b 0 2 2 2) (b4 1 eh (some [x,y])):=by refine zM (rest:=[]) (es:=[[a7 x],[a7 y]]) (by simpa using h) rfl V (by simp[aq,U.aw])
theorem Rl:fR prog 256=true:=bg
theorem XS {x:D} {l:ae} {K:cA} (g:∀ v rest,K v (.q 1 [a7 ((nA [x,x]).setWidth 32)] ::rest)) :cJ 256 [.ptr 0 0 1] (.q 1 [a7 x] ::l) K:=by apply cW func256 [];simp;refine hg (CZ [x,x] V) (.cons (.same _ rfl) (.cons (w7 V) .nil)) rfl ?_;simp;exact g _ _
theorem H1 (n k:Nat) (hk:k<64) :n / 2 ^ (63 - k)=2*(n / 2 ^ (64 - k))+n / 2 ^ (63 - k) % 2:=by
 have:2 ^ (64 - k)=2 ^ (63 - k)*2:=by rw[<-Nat.pow_succ];congr 1;omega
 rw[this,<-Nat.div_div_eq_div_mul];omega
theorem Dw (a:D) (n:Q) :aY 215 [a7 a,c1 n] (a7 (dX a n.toNat)):=by
 apply bc func215 [];simp;refine bz 64 (fun k g l=>g 0=a7 a/\g 1=c1 n/\g 5=.ptr 0 0 1/\g 6=.fn 256 [] [.ptr 0 0 1]/\g 9=.i6 k/\∃ r,l=.q 1 [a7 (dX a (n.toNat / 2 ^ (64 - k)))] ::r) ?_ (by
  have:n.toNat / 2 ^ 64=0:=qf n.isLt;simp[this,dX,ez];rfl)
 rintro k g l hk ⟨p,t,v,w,z,r,rfl⟩;obtain⟨g,rfl⟩:=gx p t v w z;clear p t v w z;by_cases h:(k:Int)<64
 ·have B:IntKind.i64.wrap ((k:Int)+1)=(k+1:Nat):=wrap_i64 F F;have J:IntKind.i64.wrap (63 - (k:Int))=((63 - k:Nat) :Int):=by rw[wrap_i64 F F];omega
  have m:=H1 n.toNat k F;have I:ct .shr .u64 (u n) .i64 ((63 - k:Nat) :Int)=some (.int .u64 (u (n >>> (63 - k)))):=qw n .i64 (63 - k);have C:64 - (k+1)=63 - k:=F;simp[h];refine⟨Rl,?_⟩;simp;refine XS fun K rest=>?_
  simp[J,I,TI];rw[C];by_cases j:n.toNat / 2 ^ (63 - k) % 2=1
  ·have o:n >>> (63 - k) &&& 1#64=1#64:=by
    apply eO;rw[AH,lD,hG];show _ &&& 1=1;rw[Nat.and_one_is_mod,j]
   rw[j] at m;have H:dX a (2*(n.toNat / 2 ^ (64 - k))+1)=dX a (n.toNat / 2 ^ (63 - k)):=by rw[<-m]
   simp[o,MB];refine hg (CZ [dX a (2*(n.toNat / 2 ^ (64 - k))),a] V) (.cons (.same _ rfl) (.cons (w7 V) .nil)) rfl ?_;rw[mul_one,H];simp[B];omega
  ·have j:n.toNat / 2 ^ (63 - k) % 2=0:=F;have o:n >>> (63 - k) &&& 1#64=0#64:=by
    apply eO;rw[AH,lD,hG];show _ &&& 1=0;rw[Nat.and_one_is_mod,j]
   rw[j,nW] at m;simp[o,B];rw[<-m];exact⟨F,rfl⟩
 ·have G:k=64:=F;subst G;simp;exact aE
theorem Dy (a b:Q) (g:b≠0#64) :ct .quo .u64 (u a) .u64 (u b)=some (.int .u64 (u (a / b))):=by
 have h:(b.toNat:Int)≠0:=fun e=>g (eO (by simpa using e))
 show (if IntKind.u64=IntKind.u64/\(b.toNat:Int)≠0 then some (U.int .u64 (IntKind.u64.wrap ((a.toNat:Int).tdiv b.toNat))) else none)=_;rw[aj ⟨rfl,h⟩,u5];congr 2;have:((a.toNat:Int).tdiv b.toNat)=((a.toNat / b.toNat:Nat) :Int):=rfl;rw[this,nR];congr 1;apply eO;rw[fe,rs];exact dR (Nat.lt_of_le_of_lt (Ft _ _) a.isLt)
theorem Kr (x:Q) :ct .quo .u64 (u x) .u64 2=some (.int .u64 (u (x / 2#64))):=Dy x 2#64 (by decide)
theorem KR (x:Q) :ct .rem .u64 (u x) .u64 2=some (.int .u64 (u (x % 2#64))):=rP x 2#64 (by decide)
theorem ur (x y:Q) (g:x.toNat<4294967296) (h:y.toNat<4294967296) :(x*y % 1000000007#64).toNat=x.toNat*y.toNat % 1000000007:=by
 have h1:x.toNat*y.toNat<18446744073709551616:=by
  calc x.toNat*y.toNat<=4294967295*y.toNat:=cn _ F
   _<=4294967295*4294967295:=Nat.mul_le_mul_left _ F
   _<18446744073709551616:=by decide
 rw[kg,s6,dR (show x.toNat*y.toNat<2 ^ 64 by omega)];rfl
theorem Vx (o b m:Nat) (h:m % 2=1) :o*b % 1000000007*(b*b % 1000000007) ^ (m / 2) % 1000000007=o*b ^ m % 1000000007:=by
 have g:m=2*(m / 2)+1:=F;rw[vh,Nat.mod_mod,xZ (b*b % 1000000007),Nat.mod_mod,<-xZ,<-vh];congr 1;rw[Nat.mul_pow,Nat.mul_assoc,<-rD]
 conv=>rhs;rw[g,Nat.pow_succ]
 rw[xY b,show 2*(m / 2)=m / 2+m / 2 by omega]
theorem Vw (o b m:Nat) (h:m % 2=0) :o*(b*b % 1000000007) ^ (m / 2) % 1000000007=o*b ^ m % 1000000007:=by
 have g:m=2*(m / 2):=F;rw[vh,xZ (b*b % 1000000007),Nat.mod_mod,<-xZ,<-vh];congr 1;rw[Nat.mul_pow,<-rD]
 conv=>rhs;rw[g]
 rw[show 2*(m / 2)=m / 2+m / 2 by omega]
theorem J7 (a n:Q) (O:a.toNat<4294967296) :aY 225 [c1 a,c1 n,.int .u64 1000000007] (c1 (BitVec.ofNat 64 (ez a.toNat n.toNat))):=by
 apply bc func225 [];simp;refine ww (fun g m _=>∃ j b c:Q,c.toNat=g/\j.toNat<1000000007/\b.toNat<4294967296/\j.toNat*b.toNat ^ g % 1000000007=ez a.toNat n.toNat/\m 0=c1 b/\m 1=c1 c/\m 2=.int .u64 1000000007/\m 7=c1 j) ?_ n.toNat _ _ ⟨1#64,a,n,rfl,by decide,O,by simp[ez],by simp;rfl⟩;rintro g m l ⟨j,b,c,o,H,h,p,q,t,v,w⟩;obtain⟨m,rfl⟩:=fc q t v w;clear q t v w;have P:(u c:Int)=(g:Int):=by unfold u;rw[o]
 by_cases D:g=0
 ·subst D;have K:c=0#64:=eO (by simpa using o);simp[K];refine aT ?_ rfl;rw[Nat.pow_zero,nX,dR H] at p;rw[<-p,E4,BitVec.setWidth_eq]
 ·have R:c≠0#64:=fun e=>D (by rw[<-o,e];rfl)
  have C:(0:Int)<u c:=by rw[P];omega
  have B:(c / 2#64).toNat=g / 2:=by rw[rs,o];rfl
  have G:(c % 2#64).toNat=g % 2:=by rw[kg,o];rfl
  have z:(b*b % 1000000007#64).toNat<4294967296:=by
   rw[ur b b h h];have:=iY (b.toNat*b.toNat) (show 1000000007 > 0 by decide);omega
  by_cases J:g % 2=1
  ·have h1:c % 2#64=1#64:=eO (by rw[G,J];rfl);simp[C,zO,Kr,KR,h1,MB];have I:j.toNat<4294967296:=F;refine⟨g / 2,F,_,_,_,B,?_,z,?_,rfl,rfl,rfl⟩
   ·rw[ur j b I h];exact iY _ (by decide)
   ·rw[ur j b I h,ur b b h h,Vx _ _ _ J,p]
  ·have h1:c % 2#64=0#64:=eO (by rw[G];simp;omega);simp[C,zO,Kr,KR,h1];refine⟨g / 2,F,_,_,_,B,H,z,?_,rfl,rfl,rfl⟩;rw[ur b b h h,Vw _ _ _ F,p]
def eP (a:D) :Bool:=decide (0<a.toNat)&&decide (a.toNat<1000000007)&&decide (ez a.toNat 500000003=1)
theorem Cz (a:D) :aY 169 [a7 a] (.bool (eP a)):=by
 apply bc func169 [];unfold eP;have h1:((0:Int)<u a)<->0<a.toNat:=by unfold u;omega
 have j:(u a<(1000000007:Int))<->a.toNat<1000000007:=by unfold u;omega
 by_cases g:0<a.toNat
 ·by_cases h:a.toNat<1000000007
  ·simp[h1,j,g,h];refine av (Dw a 500000003#64) rfl ?_;have m:(u (dX a 500000003)=(1:Int))<->ez a.toNat 500000003=1:=by unfold u;rw[lr];omega
   have o:(500000003#64:Q).toNat=500000003:=rfl;rw[o];simp[m];exact aT (by simp[g,h]) rfl
  ·simp[h1,j,g,h];exact aE
 ·simp[h1,g];exact aE
theorem KP (a:D) :aY 180 [a7 a] (.bool (eP a)):=by
 apply bc func180 [];unfold eP;have h1:((1:Int)<=u a)<->0<a.toNat:=by unfold u;omega
 have j:(u a<(1000000007:Int))<->a.toNat<1000000007:=by unfold u;omega
 by_cases g:0<a.toNat
 ·by_cases h:a.toNat<1000000007
  ·simp[h1,j,g,h];refine av (J7 (a.setWidth 64) 500000003#64 (by rw[eS];omega)) rfl ?_;have p:(a.setWidth 64:Q).toNat=a.toNat:=by rw[eS];omega
   have o:(500000003#64:Q).toNat=500000003:=rfl;have q:=pQ a.toNat 500000003;have m:(u (BitVec.ofNat 64 (ez a.toNat 500000003))=(1:Int))<->ez a.toNat 500000003=1:=by unfold u;rw[fe,dR F];omega
   rw[o,p];simp[m];exact aT (by simp[g,h]) rfl
  ·simp[h1,j,g,h];exact aE
 ·simp[h1,g];exact aE
def eW (a:D) :Bool:=decide (a.toNat<500000003)
theorem yy (a:D) :aY 182 [a7 a] (.bool (eW a)):=by
 apply bc func182 [];unfold eW;have g:(u (a.setWidth 64)<(500000003:Int))<->a.toNat<500000003:=by unfold u;rw[eS];omega
 simp[g];exact aE
@[simp] theorem Z8 (a b:List UInt8) :tC .eql a b=some (.bool (decide (a=b))):=by by_cases h:a=b<;>simp[tC,h]
abbrev k9 (s:List UInt8) (pos:Nat) :Nat × Nat:=Utf8.decode ⟨s.toArray⟩ pos
theorem HY (s:List UInt8) (pos:Nat) (b:UInt8) (h:s[pos]?=some b) :(ByteArray.get! ⟨s.toArray⟩ pos)=b:=by show (s.toArray)[pos]! = b;obtain⟨h1,g⟩:=aK.1 h;simp[h1,g]
theorem Qm {s:List UInt8} {pos:Nat} {b:UInt8} (h:s[pos]?=some b) (g:b.toNat<128) :k9 s pos=(b.toNat,1):=by unfold k9;rw[Lib.decode_at,HY s pos b h];unfold Lib.decodeN;rw[aj g]
theorem Ql {s:List UInt8} {pos:Nat} {b:UInt8} (h:s[pos]?=some b) (g:128<=b.toNat) :128<=(k9 s pos).1:=by
 unfold k9;rw[Lib.decode_at,HY s pos b h];unfold Lib.decodeN;rw[ak F]
 repeat' split
 all_goals (simp only;omega)
theorem Ha (s:List UInt8) (pos:Nat) :1<=(k9 s pos).2:=by
 unfold k9;rw[Lib.decode_at];unfold Lib.decodeN
 repeat' split
 all_goals simp only<;>omega
def iJ (p:Nat->Bool) (s:List UInt8) :Nat->Nat->Int
 | 0,_=>-1
 | n+1,pos=>if pos<s.length then (if p (k9 s pos).1 then (pos:Int) else iJ p s n (pos+(k9 s pos).2)) else -1
theorem CB (p:Nat->Bool) (s:List UInt8) :∀ (n pos:Nat),s.length - pos<=n->iJ p s n pos=iJ p s (s.length - pos) pos
 | 0,pos,h=>by rw[show s.length - pos=0 by omega]
 | n+1,pos,h=>by
  by_cases g:pos<s.length
  ·have j:=Ha s pos;rw[show s.length - pos=(s.length - pos - 1)+1 by omega];unfold iJ;rw[aj g,aj g,CB p s n _ F,CB p s (s.length - pos - 1) _ F]
  ·rw[show s.length - pos=0 by omega];unfold iJ;rw[ak g]
def kq (g r:Nat) :Bool:=decide (r<g)||decide (126<r)
def fU (g:Nat) (b:UInt8) :Bool:=decide (g<=b.toNat)&&decide (b.toNat<=126)
theorem CA (g:Nat) (u:g<=128) (s:List UInt8) :∀ (n pos:Nat),s.length - pos<=n->(iJ (kq g) s n pos<0<->(s.drop pos).all (fU g)=true)
 | 0,pos,h=>by
  rw[kh F];simp[iJ]
 | n+1,pos,h=>by
  unfold iJ;by_cases o:pos<s.length
  ·rw[aj o,ml o,Fa];have p:s[pos]?=some s[pos]:=bI o;obtain⟨b,t⟩:=ao (s[pos]);rw[<-t] at p ⊢;by_cases v:b.toNat<128
   ·rw[Qm p v];simp only;have m:fU g b=!kq g b.toNat:=by
     unfold fU kq;by_cases h1:b.toNat<g<;>by_cases q:126<b.toNat<;>simp[h1,q]<;>omega
    cases j:kq g b.toNat with
    | true=>rw[m,j];simp
    | false=>
     rw[m,j];simp only[jJ,if_false,s9,mj];exact CA g u s n (pos+1) F
   ·have w:=Ql p F;have j:kq g (k9 s pos).1=true:=by unfold kq;simp;omega
    have m:fU g b=false:=by unfold fU;simp;omega
    rw[j,m];simp
  ·rw[ak o,kh F];simp
theorem TR {s:List UInt8} {pos:Nat} {r:ae} (h:pos<s.length) :cK (.iter s pos::r) (.it 0)=some (.a1 [.bool true,.i6 pos,.int .i32 (k9 s pos).1],.iter s (pos+(k9 s pos).2) ::r):=by unfold cK;simp only[ho];rw[show Nat.blt pos s.length=true from Nat.ble_eq_true_of_le h];rfl
theorem TQ {s:List UInt8} {pos:Nat} {r:ae} (h:¬ pos<s.length) :cK (.iter s pos::r) (.it 0)=some (.a1 [.bool false],.iter s pos::r):=by unfold cK;simp only[ho];rw[show Nat.blt pos s.length=false by cases g:Nat.blt pos s.length with | false=>rfl | true=>exact bP (xW g) h]
theorem R2 {g:cf} {p:Nat->Bool} (z:fR prog g=true) (D:∀ r:Nat,aY g [.int .i32 r] (.bool (p r))) (s:List UInt8) :
  aY 280 [.str s,.fn g [] [],.bool true] (.i6 (iJ p s s.length 0)):=by
 apply bc func280 [];simp[w6];refine ww (fun m o l=>∃ pos,s.length - pos=m/\iJ p s m pos=iJ p s s.length 0/\o 1=.fn g [] []/\o 2=.bool true/\o 10=.it 0/\l=[.iter s pos]) ?_ s.length _ _ ⟨0,V⟩;rintro m o l ⟨pos,H,j,q,u,t,rfl⟩;obtain⟨o,rfl⟩:=gK q u t;clear q u t;by_cases h:pos<s.length
 ·have C:m=(m - 1)+1:=F;have I:=Ha s pos;obtain⟨G,w⟩:=ao (iJ p s s.length 0);rw[<-w] at j ⊢;rw[C] at j;unfold iJ at j;rw[aj h] at j;simp[TR h];refine⟨z,av (D _) rfl ?_⟩;cases v:p (k9 s pos).1 with
  | true=>
   rw[v] at j;simp;exact aT (by rw[<-j];simp) rfl
  | false=>
   rw[v] at j;simp;refine⟨s.length - (pos+(k9 s pos).2),F,pos+(k9 s pos).2,rfl,?_,V,V,V,V⟩;rw[<-j];simp only[jJ,if_false];rw[CB p s (m - 1) _ F]
 ·have B:m=0:=F;subst B;simp[TQ h];exact aT (by rw[<-j];rfl) rfl
theorem L3 {g:cf} {p:Nat->Bool} (h:fR prog g=true) (j:∀ r:Nat,aY g [.int .i32 r] (.bool (p r))) (s:List UInt8) :
  aY 257 [.str s,.fn g [] []] (.i6 (iJ p s s.length 0)):=by apply bc func257 [];simp;refine av (R2 h j s) rfl ?_;simp;exact aE
theorem SD (r:Nat) :aY 258 [.int .i32 r] (.bool (kq 33 r)):=by
 apply bc func258 [];unfold kq;have h1:((r:Int)<33)<->r<33:=F;have g:((126:Int)<r)<->126<r:=F;by_cases h:r<33
 ·simp[h1,h];exact aE
 ·simp[h1,h,g];exact aE
theorem Yg (r:Nat) :aY 282 [.int .i32 r] (.bool (kq 32 r)):=by
 apply bc func282 [];unfold kq;have h1:((r:Int)<32)<->r<32:=F;have g:((126:Int)<r)<->126<r:=F;by_cases h:r<32
 ·simp[h1,h];exact aE
 ·simp[h1,h,g];exact aE
theorem Rh:fR prog 258=true:=bg
theorem Rm:fR prog 282=true:=bg
def hA (s:List UInt8) :Bool:=decide (1<=s.length)&&decide (s.length<=20)&&s.all (fU 33)
theorem CG (s:List UInt8) :aY 216 [.str s] (.bool (hA s)):=by
 apply bc func216 [];unfold hA;have h1:((1:Int)<=s.length)<->1<=s.length:=F;have o:((s.length:Int)<=20)<->s.length<=20:=F;by_cases g:1<=s.length
 ·by_cases j:s.length<=20
  ·simp[h1,o,g,j];refine av (L3 Rh SD s) rfl ?_;have:=CA 33 F s s.length 0 F;rw[lE] at this;have p:decide (iJ (kq 33) s s.length 0<0)=s.all (fU 33):=by
    cases m:s.all (fU 33) with
    | true=>simpa using this.2 m
    | false=>
     have:¬ iJ (kq 33) s s.length 0<0:=fun h=>by rw[this.1 h] at m;cases m
     simpa using this
   simp;rw[p];exact aT (by simp[g,j]) rfl
  ·simp[h1,o,g,j];exact aT V rfl
 ·simp[h1,g];exact aT V rfl
theorem FV {s:List UInt8} {p:UInt8->Bool} {k:Nat} {b:UInt8} (h:s[k]?=some b) :(s.take (k+1)).all p=((s.take k).all p&&p b):=by rw[eU,h];simp[List.all_append]
theorem x9 {s:List UInt8} {p:UInt8->Bool} {k:Nat} {b:UInt8} (h:s[k]?=some b) (g:p b=false) :s.all p=false:=by rw[List.all_eq_false];exact⟨b,cE h,by simp[g]⟩
theorem C0 (s:List UInt8) :aY 226 [.str s] (.bool (hA s)):=by
 apply bc func226 [];have h1:((s.length:Int)<1)<->¬ 1<=s.length:=F;have C:((20:Int)<s.length)<->¬ s.length<=20:=F;by_cases g:1<=s.length
 ·by_cases m:s.length<=20
  ·simp[h1,C,g,m];refine bz s.length (fun k q _=>q 0=.str s/\q 3=.i6 k/\(s.take k).all (fU 33)=true) ?_ V;rintro k q l hk ⟨z,B,u⟩;obtain⟨q,rfl⟩:=kb z B;clear z B;by_cases h:k<s.length
   ·obtain⟨b,o,_⟩:=aP h;have G:IntKind.i64.wrap ((k:Int)+1)=(k+1:Nat):=wrap_i64 F F;have t:((b.toNat:Int)<33)<->¬ 33<=b.toNat:=F;have w:((126:Int)<b.toNat)<->¬ b.toNat<=126:=F;have v:ud (.str s) (.i6 k)=some (.int .u8 b.toNat):=by simp[o,hu]
    by_cases q1:33<=b.toNat
    ·by_cases p:b.toNat<=126
     ·have j:fU 33 b=true:=by simp[fU,q1,p]
      simp[h,v,t,w,q1,p,G,FV o,j,-ug];simpa using u
     ·have j:fU 33 b=false:=by simp[fU,p]
      simp[h,v,t,w,q1,p,-ug];exact aT (by simp[hA,x9 o j]) rfl
    ·have j:fU 33 b=false:=by simp[fU,q1]
     simp[h,v,t,q1,-ug];exact aT (by simp[hA,x9 o j]) rfl
   ·have D:k=s.length:=F;subst D;rw[fC] at u;simp;exact aT (by simp only[hA,u];simp[g,m]) rfl
  ·simp[h1,C,g,m];exact aT (by simp[hA,m]) rfl
 ·simp[h1,g];exact aT (by simp[hA,g]) rfl
theorem Vg (s:List UInt8) (C:s.length<=1000000000) :aY 264 [.str s] (.bool (s.all (fU 32))):=by
 apply bc func264 [];simp;refine bz s.length (fun k o _=>o 0=.str s/\o 3=.i6 k/\(s.take k).all (fU 32)=true) ?_ V;rintro k o l hk ⟨v,w,q⟩;obtain⟨o,rfl⟩:=kb v w;clear v w;by_cases h:k<s.length
 ·obtain⟨b,j,_⟩:=aP h;have B:IntKind.i64.wrap ((k:Int)+1)=(k+1:Nat):=wrap_i64 F F;have p:((b.toNat:Int)<32)<->¬ 32<=b.toNat:=F;have u:((126:Int)<b.toNat)<->¬ b.toNat<=126:=F;have t:ud (.str s) (.i6 k)=some (.int .u8 b.toNat):=by simp[j,hu]
  by_cases q1:32<=b.toNat
  ·by_cases m:b.toNat<=126
   ·have g:fU 32 b=true:=by simp[fU,q1,m]
    simp[h,t,p,u,q1,m,B,FV j,g,-ug];simpa using q
   ·have g:fU 32 b=false:=by simp[fU,m]
    simp[h,t,p,u,q1,m,-ug];exact aT (by simp only[x9 j g]) rfl
  ·have g:fU 32 b=false:=by simp[fU,q1]
   simp[h,t,p,q1,-ug];exact aT (by simp only[x9 j g]) rfl
 ·have z:k=s.length:=F;subst z;rw[fC] at q;simp;exact aT (by simp only[q]) rfl
structure gV where
 kind:B
 num:Int
 bits:Q
 text:List UInt8
def dI (v:gV) :ag:=[a8 v.kind,.i6 v.num,c1 v.bits,.str v.text]
def mi:gV:=⟨0#8,0,0#64,[]⟩
def h3 (b:Q) :Nat:=b.toNat / 4503599627370496 % 2048
def mD (b:Q) :Q:=b % 4503599627370496#64
def cls (b:Q) :B:=if h3 b=2047 then (if mD b=0#64 then 4#8 else 5#8) else if h3 b=0 then (if mD b=0#64 then 1#8 else 2#8) else 3#8
def ks (b:Q) :Q:=if cls b=5#8 then 9221120237041090560#64 else b
theorem g4 (k:B) :((u k:Int)=1)<->k=1#8:=ka k 1#8
theorem jf (k:B) :((u k:Int)=2)<->k=2#8:=ka k 2#8
theorem nM (k:B) :((u k:Int)=3)<->k=3#8:=ka k 3#8
theorem rh (k:B) :((u k:Int)=4)<->k=4#8:=ka k 4#8
theorem Ap (k:B) :((u k:Int)=5)<->k=5#8:=ka k 5#8
theorem YG (k:B) :((u k:Int)=0)<->k=0#8:=ka k 0#8
theorem sy (k:Q) :((u k:Int)=0)<->k=0#64:=ka k 0#64
theorem Hr (b:Q) :h3 b<2048:=iY _ (by decide)
theorem OE (n:Nat) (h:n<9223372036854775808) :ct .and .i64 (n:Int) .i64 2047=some (.i6 ((n % 2048:Nat) :Int)):=by
 show some (U.i6 (IntKind.i64.wrap ((BitVec.ofInt 64 (n:Int) &&& BitVec.ofInt 64 (2047:Int)).toNat:Int)))=_;have h1:(BitVec.ofInt 64 (n:Int) &&& BitVec.ofInt 64 (2047:Int)).toNat=n % 2048:=by
  rw[nR,AH,fe,dR F];exact Ng n 11
 have g:=iY n (show 2048 > 0 by decide);rw[h1];generalize n % 2048=q at g;rw[wrap_i64 F F]
theorem Ro (b:Q) :b &&& 4503599627370495#64=mD b:=by apply eO;unfold mD;rw[AH,kg];exact Ng b.toNat 52
theorem XP (b:Q) :aY 292 [c1 b] (.a1 [.i6 (h3 b),c1 (mD b)]):=by
 apply bc func292 [];have p:=b.isLt;have h1:IntKind.i64.wrap (u (b >>> 52))=((b.toNat / 4503599627370496:Nat) :Int):=by
  have:u (b >>> 52)=((b.toNat / 4503599627370496:Nat) :Int):=by unfold u;rw[lD,hG]
  rw[this,wrap_i64 F F]
 have g:=OE (b.toNat / 4503599627370496) F;have m:h3 b=b.toNat / 4503599627370496 % 2048:=rfl;rw[<-m] at g;obtain⟨q,o⟩:∃ q,b.toNat / 4503599627370496=q:=⟨_,rfl⟩
 rw[o] at h1 g;have h:ct .and .u64 (u b) .u64 4503599627370495=some (c1 (mD b)):=by
  rw[Gd,qS,<-Ro];rfl
 have j:ct .shr .u64 (u b) .u64 52=some (.int .u64 (u (b >>> 52))):=qw b .u64 52;simp[j,h1,g,h,-Gd];exact aE
theorem Wp (b:Q) :aY 289 [c1 b] (.i6 (h3 b)):=by
 apply bc func289 [];have m:=b.isLt;have h1:ct .rem .u64 (u b) .u64 9223372036854775808=some (c1 (b % 9223372036854775808#64)):=rP b 9223372036854775808#64 (by decide);have g:ct .quo .u64 (u (b % 9223372036854775808#64)) .u64 4503599627370496=some (c1 (b % 9223372036854775808#64 / 4503599627370496#64)):=Dy _ 4503599627370496#64 (by decide);have h:IntKind.i64.wrap (u (b % 9223372036854775808#64 / 4503599627370496#64))=(h3 b:Int):=by
  have:u (b % 9223372036854775808#64 / 4503599627370496#64)=(h3 b:Int):=by
   unfold u h3;rw[rs,kg];show (((b.toNat % 9223372036854775808) / 4503599627370496:Nat) :Int)=_;congr 1;omega
  have j:=Hr b;rw[this,wrap_i64 F F]
 simp[h1,g,h];exact aE
theorem Wq (b:Q) :aY 290 [c1 b] (c1 (mD b)):=by apply bc func290 [];have h1:ct .rem .u64 (u b) .u64 4503599627370496=some (c1 (mD b)):=rP b 4503599627370496#64 (by decide);simp[h1];exact aE
theorem PH (b:Q) :aY 288 [c1 b] (a8 (cls b)):=by
 apply bc func288 [];unfold cls;simp;refine av (XP b) rfl ?_;have h1:((h3 b:Int)=2047)<->h3 b=2047:=F;have m:((h3 b:Int)=0)<->h3 b=0:=F;by_cases h:h3 b=2047
 ·by_cases g:mD b=0#64
  ·simp[h,g];exact aE
  ·simp[h,g,sy];exact aE
 ·by_cases j:h3 b=0
  ·by_cases g:mD b=0#64
   ·simp[g,j];exact aE
   ·simp[g,j,sy];exact aE
  ·simp[h1,h,j];exact aE
theorem Wo (b:Q) :aY 283 [c1 b] (a8 (cls b)):=by
 apply bc func283 [];unfold cls;simp;refine av (Wp b) rfl ?_;simp;refine av (Wq b) rfl ?_;have o:((h3 b:Int)=0)<->h3 b=0:=F;have m:((h3 b:Int)<2047)<->¬ h3 b=2047:=by have:=Hr b;omega
 by_cases j:h3 b=0
 ·by_cases g:mD b=0#64
  ·simp[g,j];exact aE
  ·simp[g,j,sy];exact aE
 ·by_cases h:h3 b=2047
  ·by_cases g:mD b=0#64
   ·simp[h,g];exact aE
   ·simp[h,g,sy];exact aE
  ·simp[m,h,j];exact aE
theorem Ps (b:Q) :aY 281 [c1 b] (c1 (ks b)):=by
 apply bc func281 [];unfold ks;simp;refine av (PH b) rfl ?_;by_cases h:cls b=5#8
 ·simp[Ap,h];exact aE
 ·simp[Ap,h];exact aE
theorem Wm (b:Q) :aY 263 [c1 b] (c1 (ks b)):=by
 apply bc func263 [];unfold ks;simp;refine av (Wo b) rfl ?_;by_cases h:cls b=5#8
 ·simp[Ap,h];exact aE
 ·simp[Ap,h];exact aE
theorem YN (n:Int) :aY 259 [.i6 n] (.ah (dI ⟨1#8,n,0#64,[]⟩)):=by apply bc func259 [];simp;exact aE
theorem YM (b:Q) :aY 260 [c1 b] (.ah (dI ⟨2#8,0,ks b,[]⟩)):=by apply bc func260 [];simp;refine av (Ps b) rfl ?_;simp;exact aE
def oS (s:List UInt8) :gV × Int:=if s.length<=30 then (if s.all (fU 32) then (⟨3#8,0,0#64,s⟩,0) else (mi,8)) else (mi,4)
theorem YU (s:List UInt8) :aY 261 [.str s] (.a1 [.ah (dI (oS s).1),.i6 (oS s).2]):=by
 apply bc func261 [];unfold oS;have j:((30:Int)<s.length)<->¬ s.length<=30:=F;by_cases g:s.length<=30
 ·simp[j,g];refine av (L3 Rm Yg s) rfl ?_;have m:=CA 32 F s s.length 0 F;rw[lE] at m;have o:((0:Int)<=iJ (kq 32) s s.length 0)<->¬ (s.all (fU 32)=true):=by rw[<-m];omega
  cases p:s.all (fU 32) with
  | true=>
   have h:¬ (0:Int)<=iJ (kq 32) s s.length 0:=by rw[o,p];simp
   simp[h];exact aT (by simp[g];rfl) rfl
  | false=>
   have h:(0:Int)<=iJ (kq 32) s s.length 0:=by rw[o,p];simp
   simp[h];exact aT (by simp[g];rfl) rfl
 ·simp[j,g];exact aE
def iB (v:gV) :Bool:=
 if v.kind=1#8 then decide (v.bits=0#64)&&decide (v.text=[])
 else if v.kind=2#8 then decide (v.num=0)&&decide (v.text=[])&&decide (ks v.bits=v.bits)
 else if v.kind=3#8 then decide (v.num=0)&&decide (v.bits=0#64)&&decide (v.text.length<=30)&&v.text.all (fU 32)
 else false
def jT (b:Bool) :Int:=if b then 0 else 8
def SB:List kp:=[.i .u8,.i .i64,.i .u64,.s]
theorem IH:mO prog 20 49=some SB:=bg
theorem YV (a b:gV) :eb prog .eql 49 (.ah (dI a)) (.ah (dI b))=some (.bool (dn (dI a) (dI b))):=tD IH bg bg rfl rfl
theorem YW (a b:gV) :eb prog .neq 49 (.ah (dI a)) (.ah (dI b))=some (.bool (!dn (dI a) (dI b))):=Br IH bg bg rfl rfl
theorem Gj (a b:gV) :dn (dI a) (dI b)=(decide (a.kind=b.kind)&&(decide (a.num=b.num)&&(decide (a.bits=b.bits)&&decide (a.text=b.text)))):=by simp[dI,dn,U.beq]
theorem ET {v:gV} (k:v.kind=1#8) :iB v=(decide (v.bits=0#64)&&decide (v.text=[])):=by simp[iB,k]
theorem EU {v:gV} (k:v.kind=2#8) :iB v=(decide (v.num=0)&&(decide (v.bits=ks v.bits)&&decide (v.text=[]))):=by unfold iB;rw[ak (by rw[k];decide),aj k,show decide (ks v.bits=v.bits)=decide (v.bits=ks v.bits) from decide_eq_decide.2 eq_comm];cases decide (v.num=0)<;>cases decide (v.text=[])<;>cases decide (v.bits=ks v.bits)<;>rfl
theorem MN {v:gV} (k:v.kind=3#8) :iB v=(decide (v.kind=(oS v.text).1.kind)&&(decide (v.num=(oS v.text).1.num)&&(decide (v.bits=(oS v.text).1.bits)&&decide (v.text=(oS v.text).1.text)))):=by
 unfold iB oS;rw[ak (by rw[k];decide),ak (by rw[k];decide),aj k];by_cases h1:v.text.length<=30
 ·cases g:v.text.all (fU 32) with
  | true=>simp[h1,k]
  | false=>simp[h1,k,mi]
 ·simp[h1,k,mi]
theorem EV {v:gV} (g:v.kind≠1#8) (h:v.kind≠2#8) (j:v.kind≠3#8) :iB v=false:=by simp[iB,g,h,j]
theorem ML (v:gV) :aY 217 [.ah (dI v)] (.i6 (jT (iB v))):=by
 apply bc func217 [];have o:∀ (k:B) (n:Int) (b:Q) (m:List UInt8),eb prog .neq 49 (.ah [a8 v.kind,.i6 v.num,c1 v.bits,.str v.text]) (.ah [a8 k,.i6 n,c1 b,.str m])=some (.bool (!(decide (v.kind=k)&&(decide (v.num=n)&&(decide (v.bits=b)&&decide (v.text=m)))))):=fun k n b m=>by rw[<-Gj v ⟨k,n,b,m⟩];exact YW v ⟨k,n,b,m⟩
 by_cases g:v.kind=1#8
 ·have h1:=o 1#8 v.num 0#64 [];simp only[g] at h1;unfold dI;simp[g4,g];refine av (YN v.num) rfl ?_;unfold dI;simp[h1];rw[ET g];cases decide (v.bits=0#64)<;>cases decide (v.text=[])<;>simp[g]<;>exact aE
 ·by_cases h:v.kind=2#8
  ·have h1:=o 2#8 0 (ks v.bits) [];simp only[h] at h1;unfold dI;simp[g4,jf,h];refine av (YM v.bits) rfl ?_;unfold dI;simp[h1];rw[EU h];cases decide (v.num=0)<;>cases decide (v.bits=ks v.bits)<;>cases decide (v.text=[])<;>simp[h]<;>exact aE
  ·by_cases j:v.kind=3#8
   ·obtain⟨w,t⟩:=ao ((oS v.text).1);have h1:=o w.kind w.num w.bits w.text;have q:=MN j;rw[<-t] at q;simp only[j] at h1 q;unfold dI;simp[g4,jf,nM,j];refine av (YU v.text) rfl ?_;rw[<-t];unfold dI;simp[h1];rw[q];cases decide (3#8=w.kind)<;>cases decide (v.num=w.num)<;>cases decide (v.bits=w.bits)<;>cases decide (v.text=w.text)<;>simp[j]<;>exact aE
   ·have h1:eb prog .neq 49 (.ah [a8 v.kind,.i6 v.num,c1 v.bits,.str v.text]) (.ah [.int .u8 0,.i6 0,.int .u64 0,.str []])=some (.bool (!(decide (v.kind=0#8)&&(decide (v.num=0)&&(decide (v.bits=0#64)&&decide (v.text=[])))))):=o 0#8 0 0#64 [];rw[EV g h j];unfold dI;simp[g4,jf,nM,g,h,j];by_cases p:v.kind=0#8
    ·simp only[p,nZ,mj] at h1;simp[p,h1];cases decide (v.num=0)<;>cases decide (v.bits=0#64)<;>cases decide (v.text=[])<;>simp[p]<;>exact aE
    ·simp only[p,vk,ru,s9] at h1;simp[h1];exact aE
theorem Ws (v:gV) :aY 227 [.ah (dI v)] (.i6 (jT (iB v))):=by
 apply bc func227 [db 0 11++[[12],[13],[11,13]]];by_cases o:v.kind=1#8
 ·rw[ET o];unfold dI;simp[g4,o,sy];by_cases g:v.bits=0#64<;>by_cases j:v.text=[]<;>simp[g,j]<;>exact aE
 ·by_cases p:v.kind=2#8
  ·rw[EU p];unfold dI;simp[g4,jf,p];by_cases g:v.num=0
   ·by_cases j:v.text=[]
    ·simp[g,j];refine av (Wm v.bits) rfl ?_;by_cases m:v.bits=ks v.bits
     ·have t:ks v.bits=v.bits:=m.symm;simp[t];exact aT (by simp[jT,g,j]) rfl
     ·have t:¬ ks v.bits=v.bits:=fun h=>m h.symm
      simp[m,t];exact aT (by simp[jT]) rfl
    ·simp[g,j];exact aE
   ·simp[g];exact aE
  ·by_cases q:v.kind=3#8
   ·have w:iB v=(decide (v.num=0)&&decide (v.bits=0#64)&&decide (v.text.length<=30)&&v.text.all (fU 32)):=by simp[iB,q]
    have u:((v.text.length:Int)<=30)<->v.text.length<=30:=F;rw[w];unfold dI;simp[g4,jf,nM,q];by_cases g:v.num=0
    ·by_cases j:v.bits=0#64
     ·by_cases m:v.text.length<=30
      ·simp[g,j,u,m];refine av (Vg v.text F) rfl ?_;cases v.text.all (fU 32)<;>simp<;>exact aT (by simp[jT,g,j,m]) rfl
      ·simp[g,j,u,m];exact aE
     ·simp[g,j,sy];exact aE
    ·simp[g];exact aE
   ·rw[EV o p q];unfold dI;simp[g4,jf,nM,o,p,q];exact aE
structure Act where
 kind:B
 key:List UInt8
 val:gV
def e8 (a:Act) :ag:=[a8 a.kind,.str a.key,a8 a.val.kind,.i6 a.val.num,c1 a.val.bits,.str a.val.text]
def lh (v:gV) :Bool:=decide (v.kind=0#8)&&(decide (v.num=0)&&(decide (v.bits=0#64)&&decide (v.text=[])))
def hM (a:Act) :Bool:=
 if a.kind=1#8 then decide (a.key=[])&&lh a.val
 else if a.kind=2#8\/a.kind=3#8 then hA a.key&&lh a.val
 else if a.kind=4#8 then hA a.key&&iB a.val
 else false
def mL:List kp:=[.i .u8,.s,.i .u8,.i .i64,.i .u64,.s]
theorem SF:mO prog 20 51=some mL:=bg
theorem x7 (a b:Act) :eb prog .eql 51 (.ah (e8 a)) (.ah (e8 b))=some (.bool (dn (e8 a) (e8 b))):=tD SF bg bg rfl rfl
theorem Ov (a:Act) (h:a.kind=1#8) :eb prog .eql 51 (.ah [.int .u8 1,.str a.key,a8 a.val.kind,.i6 a.val.num,c1 a.val.bits,.str a.val.text]) (.ah [.int .u8 1,.str [],.int .u8 0,.i6 0,.int .u64 0,.str []])=some (.bool (decide (a.key=[])&&lh a.val)):=by have:=x7 a ⟨1#8,[],mi⟩;simp only[e8,h] at this;refine Eq.trans this ?_;simp[dn,U.beq,lh,mi,YG,sy];congr
theorem MM (v:gV) :eb prog .eql 49 (.ah [a8 v.kind,.i6 v.num,c1 v.bits,.str v.text]) (.ah [.int .u8 0,.i6 0,.int .u64 0,.str []])=some (.bool (lh v)):=by have:=YV v mi;rw[Gj] at this;exact this
theorem FS {a:Act} (k:a.kind=1#8) :hM a=(decide (a.key=[])&&lh a.val):=by simp[hM,k]
theorem Bi {a:Act} (k:a.kind=2#8) :hM a=(hA a.key&&lh a.val):=by simp[hM,k]
theorem Bj {a:Act} (k:a.kind=3#8) :hM a=(hA a.key&&lh a.val):=by simp[hM,k]
theorem vy {a:Act} (k:a.kind=4#8) :hM a=(hA a.key&&iB a.val):=by simp[hM,k]
theorem Bk {a:Act} (g:a.kind≠1#8) (h:a.kind≠2#8) (j:a.kind≠3#8) (m:a.kind≠4#8) :hM a=false:=by simp[hM,g,h,j,m]
theorem PD (a:Act) :aY 170 [.ah (e8 a)] (.i6 (jT (hM a))):=by
 apply bc func170 [];by_cases g:a.kind=1#8
 ·have h1:=Ov a g;have o:a8 (1#8)=.int .u8 1:=rfl;rw[FS g];unfold e8;simp[g,o,h1];by_cases p:a.key=[]<;>cases q:lh a.val<;>simp[p]<;>exact aE
 ·have h1:=MM a.val;by_cases h:a.kind=2#8
  ·rw[Bi h];unfold e8;simp[g4,jf,h];refine av (CG a.key) rfl ?_;cases hA a.key with
   | true=>simp[h1];cases lh a.val<;>simp<;>exact aE
   | false=>simp;exact aE
  ·by_cases j:a.kind=3#8
   ·rw[Bj j];unfold e8;simp[g4,jf,nM,j];refine av (CG a.key) rfl ?_;cases hA a.key with
    | true=>simp[h1];cases lh a.val<;>simp<;>exact aE
    | false=>simp;exact aE
   ·by_cases m:a.kind=4#8
    ·rw[vy m];unfold e8;simp[g4,jf,nM,rh,m];refine av (CG a.key) rfl ?_;cases hA a.key with
     | true=>
      simp;refine av (ML a.val) rfl ?_;cases iB a.val<;>simp[jT]<;>exact aE
     | false=>simp;exact aE
    ·rw[Bk g h j m];unfold e8;simp[g4,jf,nM,rh,g,h,j,m];exact aE
theorem Wn (a:Act) :aY 181 [.ah (e8 a)] (.i6 (jT (hM a))):=by
 apply bc func181 [];have h1:=MM a.val;by_cases g:a.kind=1#8
 ·rw[FS g];unfold e8;simp[g4,g,h1];by_cases o:a.key=[]<;>cases p:lh a.val<;>simp[o]<;>exact aE
 ·by_cases h:a.kind=2#8
  ·rw[Bi h];unfold e8;simp[g4,jf,h,h1];refine av (C0 a.key) rfl ?_;cases hA a.key with
   | true=>simp;cases lh a.val<;>simp<;>exact aE
   | false=>simp;exact aE
  ·by_cases j:a.kind=3#8
   ·rw[Bj j];unfold e8;simp[g4,jf,nM,j,h1];refine av (C0 a.key) rfl ?_;cases hA a.key with
    | true=>simp;cases lh a.val<;>simp<;>exact aE
    | false=>simp;exact aE
   ·by_cases m:a.kind=4#8
    ·rw[vy m];unfold e8;simp[g4,jf,nM,rh,m,h1];refine av (C0 a.key) rfl ?_;cases hA a.key with
     | true=>
      simp;refine av (Ws a.val) rfl ?_;cases iB a.val<;>simp[jT]<;>exact aE
     | false=>simp;exact aE
    ·rw[Bk g h j m];unfold e8;simp[g4,jf,nM,rh,g,h,j,m,h1];exact aE
end Op
def b9 {alZ:Type} (z:Nat) (enc:alZ->ag) (l l1:ae) (v:U) (a:List alZ) (h:Bool) :Prop:=
 ∃ g,aM z l1 v g (a.map enc)/\l.length<=l1.length/\(∀ b,b<l.length->l1[b]?=l[b]?)/\(v=.af\/l.length<=g)/\bt v=h
section
variable {alZ:Type} {z:Nat} {enc:alZ->ag} {l l1:ae} {v:U} {a:List alZ} {nl:Bool}
theorem b9.nil:b9 z enc l l .af ([] :List alZ) true:=⟨0,.nil 0,aI _,fun _ _=>rfl,.inl rfl,rfl⟩
theorem b9.more (h:b9 z enc l l1 v a nl) (r:ae) :b9 z enc l (l1++r) v a nl:=by obtain⟨p,h1,q,g,j,m⟩:=h;exact⟨p,h1.more r,by simp;omega,fun b o=>by rw[aV F];exact g b o,j,m⟩
theorem b9.len (h:b9 z enc l l1 v a nl) :bx (.ad z) v=some (.i6 a.length):=by obtain⟨g,h1,_⟩:=h;rw[h1.len,cx]
theorem b9.cells (h:b9 z enc l l1 v a nl) :v.cells=some [v]:=by obtain⟨g,h1,_⟩:=h;exact h1.cells
theorem b9.contents (h:b9 z enc l l1 v a nl) :cG l1 z v=some ((a.map enc).flatten,a.length):=by obtain⟨g,h1,_⟩:=h;rw[h1.contents,cx]
theorem b9.le (h:b9 z enc l l1 v a nl) :l.length<=l1.length:=by obtain⟨j,h1,g,_⟩:=h;exact g
theorem b9.same (h:b9 z enc l l1 v a nl) :∀ b,b<l.length->l1[b]?=l[b]?:=by obtain⟨m,h1,j,g,_⟩:=h;exact g
theorem b9.mV (h:b9 z enc l l1 v a nl) (j:∀ x,aq (enc x)=true) (s:bL alZ) (m:nl=s.isNone) (o:s.l=a) :fw (aX l1) v (b4 z enc s):=by obtain⟨u,h1,p,q,t,g⟩:=h;exact h1.l8 j s (by rw[g,m]) o
theorem b9.rd (h:b9 z enc l l1 v a nl) (j:∀ x,aq (enc x)=true) (s:bL alZ) (m:nl=s.isNone) (o:s.l=a) :Rd l1 v (b4 z enc s):=by obtain⟨w,h1,p,t,u,g⟩:=h;exact h1.q.jA j s (by rw[g,m]) o
theorem b9.base (h:b9 z enc l l1 v a nl) {l0:ae} (u:l0.length<=l.length) (p:∀ b,b<l0.length->l[b]?=l0[b]?) :b9 z enc l0 l1 v a nl:=by obtain⟨q,h1,t,g,j,m⟩:=h;exact⟨q,h1,F,fun b o=>by rw[g b F];exact p b o,j.imp id F,m⟩
theorem b9.frame (h:b9 z enc l l1 v a nl) {g:ae} (B:l1.length<=g.length) (j:∀ b,b<l1.length->g[b]?=l1[b]?) :b9 z enc l g v a nl:=by obtain⟨m,h1,w,o,p,q⟩:=h;exact⟨m,h1.frame fun u=>j m u,F,fun b t=>by rw[j b F];exact o b t,p,q⟩
theorem b9.app (h:b9 z enc l l1 v a nl) {by_:Nat} {x:U} {xs:List alZ} (K:cG l1 z x=some ((xs.map enc).flatten,xs.length)) (P:∀ y∈xs,(enc y).length=z) (w:z≠0) (H:by_≠0) (J:(a.length+xs.length)*by_<=dk) :
  ∃ g l',eE l1 z by_ v x=some (g,l')/\b9 z enc l l' g (a++xs) (nl&&xs.isEmpty)/\l1.length<=l'.length:=by
 obtain⟨T,h1,R,B,j,C⟩:=h;obtain⟨g,Q,l',m,o,p,q,t,u⟩:=iG (xs:=xs.map enc) h1 (by simpa using K) (fun e I=>by obtain⟨y,O,rfl⟩:=cy.1 I;exact P y O) w H (by simpa using J);refine⟨g,l',m,⟨Q,by rw[c5];exact o,F,fun b G=>?_,?_,?_⟩,p⟩
 ·rw[q b F]
  ·exact B b G
  ·rcases j with h | h
   ·exact .inl h
   ·exact .inr F
 ·rcases t with h | ⟨D,S⟩ | h
  ·exact .inr F
  ·rcases j with h | h
   ·exact bP h D
   ·exact .inr F
  ·exact .inl h
 ·rw[u,C];simp
end
namespace Op
open ca
theorem b9.push {l l1:ae} {v:U} {a:List B} {p:Bool} (h:b9 1 bR l l1 v a p) (x:B) (t:a.length<=1000000000) :
  ∃ g l',eE (l1++[.q 1 [a8 x]]) 1 1 v (.ad 1 l1.length 0 1 1 1)=some (g,l')/\b9 1 bR l l' g (a++[x]) false:=by have o:=dF;obtain⟨g,l',j,m,_⟩:=(h.more [.q 1 [a8 x]]).app (by_:=1) (x:=.ad 1 l1.length 0 1 1 1) (xs:=[x]) (by simp[cG,bR]) (by simp[bR]) F F (by rw[o];simp;omega);exact⟨g,l',j,by simpa using m⟩
theorem vY:∀ a:List B,(a.map bR).flatten=a.map a8
 | []=>rfl
 | x::a=>by rw[df,g6,vY a];rfl
theorem lp {l:ae} {j n:Nat} {a:List B} (g:a.length=n) (m:l[j]?=some (.q n (a.map a8))) :aM 1 l (.ad 1 j 0 n n n) j (a.map bR):=by
 refine .ad j n n n (a.map a8) _ m (by simp[g]) (by simp[g]) (fun e h=>?_) (aI _) F ?_
 ·obtain⟨x,_,rfl⟩:=cy.1 h;rfl
 ·rw[aL (by simp[g]),vY]
def iP (n:Nat) :Nat:=if n<256 then 1 else if n<65536 then 2 else if n<16777216 then 3 else if n<4294967296 then 4 else if n<1099511627776 then 5 else if n<281474976710656 then 6 else if n<72057594037927936 then 7 else 8
theorem zo (n:Nat) :1<=iP n/\iP n<=8:=by unfold iP;refine⟨?_,?_⟩<;>(repeat' split)<;>omega
def jn (n i:Nat) :B:=BitVec.ofNat 8 (n >>> (8*i))
def pZ (n:Nat) :Nat->List B
 | 0=>[]
 | i+1=>jn n i::pZ n i
theorem EI (n:Nat) :∀ i,(pZ n i).length=i
 | 0=>rfl
 | i+1=>by simp[pZ,EI n i]
def dB (n:Nat) :List B:=if n<=247 then [BitVec.ofNat 8 n] else BitVec.ofNat 8 (247+iP n) ::pZ n (iP n)
def fF (x:Nat) :Nat:=if x<1 then 0 else if x<2 then 1 else if x<4 then 2 else if x<8 then 3 else if x<16 then 4 else if x<32 then 5 else if x<64 then 6 else if x<128 then 7 else 8
def xt:List UInt8:=[0,1,2,2,3,3,3,3,4,4,4,4,4,4,4,4,5,5,5,5,5,5,5,5,5,5,5,5,5,5,5,5,6,6,6,6,6,6,6,6,6,6,6,6,6,6,6,6,6,6,6,6,6,6,6,6,6,6,6,6,6,6,6,6,7,7,7,7,7,7,7,7,7,7,7,7,7,7,7,7,7,7,7,7,7,7,7,7,7,7,7,7,7,7,7,7,7,7,7,7,7,7,7,7,7,7,7,7,7,7,7,7,7,7,7,7,7,7,7,7,7,7,7,7,7,7,7,7,8,8,8,8,8,8,8,8,8,8,8,8,8,8,8,8,8,8,8,8,8,8,8,8,8,8,8,8,8,8,8,8,8,8,8,8,8,8,8,8,8,8,8,8,8,8,8,8,8,8,8,8,8,8,8,8,8,8,8,8,8,8,8,8,8,8,8,8,8,8,8,8,8,8,8,8,8,8,8,8,8,8,8,8,8,8,8,8,8,8,8,8,8,8,8,8,8,8,8,8,8,8,8,8,8,8,8,8,8,8,8,8,8,8,8,8,8,8,8,8,8,8,8,8,8,8,8,8]
def EG:Nat->List UInt8->Bool
 | _,[]=>true
 | i,x::r=>Nat.beq x.toNat (fF i)&&EG (i+1) r
theorem Mh:∀ (i:Nat) (l:List UInt8),EG i l=true->∀ (j:Nat) (x:UInt8),l[j]?=some x->x.toNat=fF (i+j)
 | i,[],_,j,x,h=>by simp at h
 | i,y::r,h,j,x,g=>by
  simp only[EG,bH] at h;cases j with
  | zero=>simp at g;subst g;exact mo h.1
  | succ j=>simp at g;rw[Mh (i+1) r h.2 j x g];congr 1;omega
theorem rg (i:Nat) (h:i<256) :∃ x,xt[i]?=some x/\x.toNat=fF i:=by have j:xt.length=256:=bg;have g:=Mh 0 xt bg i _ (bI F);exact⟨_,bI F,by rw[g];congr 1;omega⟩
theorem pC (x:Nat) :fF x<=8:=by unfold fF;(repeat' split)<;>omega
def h4 (n:Nat) :Nat:=
 if n<256 then fF n else if n<65536 then 8+fF (n / 256) else if n<16777216 then 16+fF (n / 65536) else if n<4294967296 then 24+fF (n / 16777216)
 else if n<1099511627776 then 32+fF (n / 4294967296) else if n<281474976710656 then 40+fF (n / 1099511627776) else if n<72057594037927936 then 48+fF (n / 281474976710656) else 56+fF (n / 72057594037927936)
theorem SR (n:Nat) (h:1<=n) :(h4 n+7) / 8=iP n:=by
 have g:∀ x,1<=x->1<=fF x/\fF x<=8:=fun x j=>⟨by unfold fF;rw[ak F];(repeat' split)<;>omega,pC x⟩
 unfold h4 iP
 repeat' split
 ·have:=g n h;omega
 ·have:=g (n / 256) F;omega
 ·have:=g (n / 65536) F;omega
 ·have:=g (n / 16777216) F;omega
 ·have:=g (n / 4294967296) F;omega
 ·have:=g (n / 1099511627776) F;omega
 ·have:=g (n / 281474976710656) F;omega
 ·have:=g (n / 72057594037927936) F;omega
theorem En (x:Q) (k:Nat) :ct .shr .u64 (u x) .u64 (k:Int)=some (.int .u64 (u (x >>> k))):=qw x .u64 k
theorem qr {i:Nat} {y:UInt8} {k:UInt8->Prop} (h:xt[i]?=some y) (hk:k y) :W xt[i]? (c:=⟨k⟩):=by rw[h];exact hk
theorem IJ (n:Q) :aY 220 [c1 n] (.i6 (h4 n.toNat)):=by
 apply bc func220 [];have P:IntKind.i64.wrap 8=8:=rfl;have H:IntKind.i64.wrap 16=16:=rfl;have J:IntKind.i64.wrap 24=24:=rfl;have S:IntKind.i64.wrap 32=32:=rfl;have K:IntKind.i64.wrap 40=40:=rfl;have I:IntKind.i64.wrap 48=48:=rfl;have O:IntKind.i64.wrap 56=56:=rfl;have w:∀ x:Q,((4294967296:Int)<=u x)<->4294967296<=x.toNat:=fun x=>by unfold u;omega
 have z:∀ x:Q,((65536:Int)<=u x)<->65536<=x.toNat:=fun x=>by unfold u;omega
 have B:∀ x:Q,((256:Int)<=u x)<->256<=x.toNat:=fun x=>by unfold u;omega
 have D:∀ x:Q,ct .shr .u64 (u x) .u64 32=some (.int .u64 (u (x >>> 32))):=fun x=>En x 32
 have C:∀ x:Q,ct .shr .u64 (u x) .u64 16=some (.int .u64 (u (x >>> 16))):=fun x=>En x 16
 have G:∀ x:Q,ct .shr .u64 (u x) .u64 8=some (.int .u64 (u (x >>> 8))):=fun x=>En x 8
 have t32:n.toNat >>> 32=n.toNat / 4294967296:=by rw[hG]
 have t48:n.toNat >>> 48=n.toNat / 281474976710656:=by rw[hG]
 have t16:n.toNat >>> 16=n.toNat / 65536:=by rw[hG]
 have R:=n.isLt;by_cases h1:4294967296<=n.toNat
 ·by_cases v:65536<=n.toNat >>> 32
  ·by_cases t:256<=n.toNat >>> 48
   ·have m:n.toNat >>> 56 % 256=n.toNat / 72057594037927936:=by rw[hG];exact dR F
    obtain⟨y,h,g⟩:=rg (n.toNat / 72057594037927936) F;have j:=pC (n.toNat / 72057594037927936);rw[<-g] at j;have o:IntKind.i64.wrap (y.toNat:Int)=y.toNat:=wrap_i64 F F;have q:IntKind.i64.wrap (56+(y.toNat:Int))=((56+y.toNat:Nat) :Int):=by rw[wrap_i64 F F];omega
    have p:h4 n.toNat=56+y.toNat:=by unfold h4;rw[g];(repeat' split)<;>first | omega | rfl
    simp[w,z,B,D,C,G,h1,v,t];refine qr (y:=y) (by rw[m];exact h) ?_;rw[p];simp[hu,o];exact aT (by simp[I,O,q]) rfl
   ·have m:n.toNat >>> 48 % 256=n.toNat / 281474976710656:=by rw[hG];exact dR F
    obtain⟨y,h,g⟩:=rg (n.toNat / 281474976710656) F;have j:=pC (n.toNat / 281474976710656);rw[<-g] at j;have o:IntKind.i64.wrap (y.toNat:Int)=y.toNat:=wrap_i64 F F;have q:IntKind.i64.wrap (48+(y.toNat:Int))=((48+y.toNat:Nat) :Int):=by rw[wrap_i64 F F];omega
    have p:h4 n.toNat=48+y.toNat:=by unfold h4;rw[g];(repeat' split)<;>first | omega | rfl
    simp[w,z,B,D,C,h1,v,t];refine qr (y:=y) (by rw[m];exact h) ?_;rw[p];simp[hu,o];exact aT (by simp[I,q]) rfl
  ·by_cases t:256<=n.toNat >>> 32
   ·have m:n.toNat >>> 40 % 256=n.toNat / 1099511627776:=by rw[hG];exact dR F
    obtain⟨y,h,g⟩:=rg (n.toNat / 1099511627776) F;have j:=pC (n.toNat / 1099511627776);rw[<-g] at j;have o:IntKind.i64.wrap (y.toNat:Int)=y.toNat:=wrap_i64 F F;have q:IntKind.i64.wrap (40+(y.toNat:Int))=((40+y.toNat:Nat) :Int):=by rw[wrap_i64 F F];omega
    have p:h4 n.toNat=40+y.toNat:=by unfold h4;rw[g];(repeat' split)<;>first | omega | rfl
    simp[w,z,B,D,G,h1,v,t];refine qr (y:=y) (by rw[m];exact h) ?_;rw[p];simp[hu,o];exact aT (by simp[K,q]) rfl
   ·have m:n.toNat >>> 32 % 256=n.toNat / 4294967296:=by rw[hG];exact dR F
    obtain⟨y,h,g⟩:=rg (n.toNat / 4294967296) F;have j:=pC (n.toNat / 4294967296);rw[<-g] at j;have o:IntKind.i64.wrap (y.toNat:Int)=y.toNat:=wrap_i64 F F;have q:IntKind.i64.wrap (32+(y.toNat:Int))=((32+y.toNat:Nat) :Int):=by rw[wrap_i64 F F];omega
    have p:h4 n.toNat=32+y.toNat:=by unfold h4;rw[g];(repeat' split)<;>first | omega | rfl
    simp[w,z,B,D,h1,v,t];refine qr (y:=y) (by rw[m];exact h) ?_;rw[p];simp[hu,o,q];exact aT V rfl
 ·by_cases v:65536<=n.toNat
  ·by_cases t:256<=n.toNat >>> 16
   ·have m:n.toNat >>> 24 % 256=n.toNat / 16777216:=by rw[hG];exact dR F
    obtain⟨y,h,g⟩:=rg (n.toNat / 16777216) F;have j:=pC (n.toNat / 16777216);rw[<-g] at j;have o:IntKind.i64.wrap (y.toNat:Int)=y.toNat:=wrap_i64 F F;have q:IntKind.i64.wrap (24+(y.toNat:Int))=((24+y.toNat:Nat) :Int):=by rw[wrap_i64 F F];omega
    have p:h4 n.toNat=24+y.toNat:=by unfold h4;rw[g];(repeat' split)<;>first | omega | rfl
    simp[w,z,B,C,G,h1,v,t];refine qr (y:=y) (by rw[m];exact h) ?_;rw[p];simp[hu,o];exact aT (by simp[H,J,q]) rfl
   ·have m:n.toNat >>> 16 % 256=n.toNat / 65536:=by rw[hG];exact dR F
    obtain⟨y,h,g⟩:=rg (n.toNat / 65536) F;have j:=pC (n.toNat / 65536);rw[<-g] at j;have o:IntKind.i64.wrap (y.toNat:Int)=y.toNat:=wrap_i64 F F;have q:IntKind.i64.wrap (16+(y.toNat:Int))=((16+y.toNat:Nat) :Int):=by rw[wrap_i64 F F];omega
    have p:h4 n.toNat=16+y.toNat:=by unfold h4;rw[g];(repeat' split)<;>first | omega | rfl
    simp[w,z,B,C,h1,v,t];refine qr (y:=y) (by rw[m];exact h) ?_;rw[p];simp[hu,o];exact aT (by simp[H,q]) rfl
  ·by_cases t:256<=n.toNat
   ·have m:n.toNat >>> 8 % 256=n.toNat / 256:=by rw[hG];exact dR F
    obtain⟨y,h,g⟩:=rg (n.toNat / 256) F;have j:=pC (n.toNat / 256);rw[<-g] at j;have o:IntKind.i64.wrap (y.toNat:Int)=y.toNat:=wrap_i64 F F;have q:IntKind.i64.wrap (8+(y.toNat:Int))=((8+y.toNat:Nat) :Int):=by rw[wrap_i64 F F];omega
    have p:h4 n.toNat=8+y.toNat:=by unfold h4;rw[g];(repeat' split)<;>first | omega | rfl
    simp[w,z,B,G,h1,v,t];refine qr (y:=y) (by rw[m];exact h) ?_;rw[p];simp[hu,o];exact aT (by simp[P,q]) rfl
   ·have m:n.toNat % 256=n.toNat:=dR F;obtain⟨y,h,g⟩:=rg (n.toNat) F;have j:=pC (n.toNat);rw[<-g] at j;have o:IntKind.i64.wrap (y.toNat:Int)=y.toNat:=wrap_i64 F F;have q:IntKind.i64.wrap (0+(y.toNat:Int))=((0+y.toNat:Nat) :Int):=by rw[wrap_i64 F F];omega
    have p:h4 n.toNat=0+y.toNat:=by unfold h4;rw[g];(repeat' split)<;>first | omega | rfl
    simp[w,z,B,h1,v,t];refine qr (y:=y) (by rw[m];exact h) ?_;rw[p];simp[hu,o];exact aT V rfl
theorem yf (n:Q) (i:Nat) :(n >>> (8*i)).setWidth 8=jn n.toNat i:=by apply eO;unfold jn;rw[eS,lD,fe]
def nB (n k i:Nat) :List B:=BitVec.ofNat 8 (247+k) ::(List.replicate (k - i) 0#8++pZ n i)
theorem Jm (n k i:Nat) (h:i<=k) :(nB n k i).length=k+1:=by simp[nB,EI];omega
theorem T8 (n k i:Nat) (h:i<k) :(nB n k i).set (k - i) (jn n i)=nB n k (i+1):=by
 unfold nB;obtain⟨g,j⟩:∃ g,k - i=g+1:=⟨k - i - 1,F⟩
 rw[j,Fp,show k - (i+1)=g by omega,List.replicate_succ',gM];congr 1;rw[o0 _ _ V];simp[pZ]
theorem Zf (n:Q) {l:ae} {K:cA} (H:∀ v j l',aM 1 l' v j ((dB n.toNat).map bR)->l.length<=l'.length->(∀ b,b<l.length->l'[b]?=l[b]?)->l.length<=j->bt v=false->K v l') :
  cJ 173 [c1 n] l K:=by
 apply cW func173 [];have w:((u n:Int)<=247)<->n.toNat<=247:=by unfold u;omega
 by_cases h:n.toNat<=247
 ·have m:dB n.toNat=[n.setWidth 8]:=by
   unfold dB;rw[aj h];rfl
  simp[w,h];refine H _ l.length _ (lp (n:=1) (a:=dB n.toNat) (by rw[m];rfl) (by rw[m];simp)) V (fun b o=>aV o) (aI _) rfl
 ·have hk:=zo n.toNat
  obtain⟨k,O⟩:∃ k,iP n.toNat=k:=⟨_,rfl⟩
  have m:dB n.toNat=nB n.toNat k k:=by unfold dB nB;rw[ak h,O];simp
  have p:=SR n.toNat F;rw[O] at p hk;obtain⟨L,I⟩:∃ L,h4 n.toNat=L:=⟨_,rfl⟩
  rw[I] at p;have ao:IntKind.i64.wrap ((L:Int)+7)=((L+7:Nat) :Int):=by rw[wrap_i64 F F];omega
  have q1:ct .quo .i64 ((L+7:Nat) :Int) .i64 8=some (.i6 (k:Int)):=by rw[Bx _ 8 F F];rw[show (8:Int).toNat=8 from rfl,p]
  have ap:IntKind.i64.wrap ((k:Int)+1)=((k+1:Nat) :Int):=by rw[wrap_i64 F F];omega
  have aq:IntKind.i64.wrap (247+(k:Int))=((247+k:Nat) :Int):=by rw[wrap_i64 F F];omega
  have am:l2 1 1 [.int .u8 0] l (.i6 ((k+1:Nat) :Int)) (.i6 ((k+1:Nat) :Int))=some (.ad 1 l.length 0 (k+1) (k+1) (k+1),l++[.q (k+1) ((List.replicate (k+1) 0#8).map a8)]):=by
   unfold l2;have al:=dF;simp only[];rw[aj ⟨F,F,F,by rw[al];omega⟩,w9];simp
  simp[w,h];refine av (IJ n) rfl ?_;rw[I];have W:ax (List.replicate (k+1) (a8 0#8)) 0 [a8 (BitVec.ofNat 8 (247+k))]=(nB n.toNat k 0).map a8:=by
   rw[kk,XK,XN];simp[nB,pZ]
  simp[ao,q1,ap,aq,am,-Int.natCast_add];refine bz k (fun i g P=>g 0=c1 n/\g 3=.i6 k/\g 4=.ad 1 l.length 0 (k+1) (k+1) (k+1)/\g 23=.i6 k/\g 24=.i6 i/\P=l++[.q (k+1) ((nB n.toNat k i).map a8)]) ?_ ?_
  ·rintro i g P ag ⟨z,D,G,B,C,rfl⟩;obtain⟨g,rfl⟩:=gx z D G B C;clear z D G B C;by_cases J:i<k
   ·have R:IntKind.i64.wrap ((k:Int) - i)=((k - i:Nat) :Int):=by rw[wrap_i64 F F];omega
    have S:IntKind.i64.wrap (8*(i:Int))=((8*i:Nat) :Int):=by rw[wrap_i64 F F];omega
    have ar:IntKind.i64.wrap ((i:Int)+1)=((i+1:Nat) :Int):=by rw[wrap_i64 F F];omega
    have T:ct .shr .u64 (u n) .i64 ((8*i:Nat) :Int)=some (.int .u64 (u (n >>> (8*i)))):=qw n .i64 (8*i);have U:=yf n i;have t:=mc a8 (nB n.toNat k i) (k - i) (jn n.toNat i) (by rw[Jm _ _ _ ag];omega);rw[T8 _ _ _ J] at t;obtain⟨d,X⟩:∃ d,k - i=d:=⟨_,rfl⟩
    obtain⟨e,Z⟩:∃ e,8*i=e:=⟨_,rfl⟩
    rw[X] at R t;rw[Z] at S T U;have Y:d<=k:=F;simp[J,R,S,ar,T,U,t,Y,-Int.natCast_add];omega
   ·have ai:i=k:=F;subst ai;simp;refine H _ l.length _ (lp (n:=i+1) (a:=dB n.toNat) (by rw[m,Jm _ _ _ (aI _)]) (by rw[m];simp)) V (fun b o=>aV o) (aI _) rfl
  ·simp;exact W
theorem TW {n:Nat} (h:n<18446744073709551616) :n<256 ^ iP n:=by unfold iP;(repeat' split)<;>simp<;>omega
theorem TX {n k:Nat} (h1:1<=n) (h:k<iP n) :256 ^ k<=n:=by have g:=(zo n).2;have hk:k=0\/k=1\/k=2\/k=3\/k=4\/k=5\/k=6\/k=7:=F;rcases hk with rfl | rfl | rfl | rfl | rfl | rfl | rfl | rfl<;>simp<;>unfold iP at h<;>(repeat' split at h)<;>omega
theorem Xu {n k:Nat} (h1:1<=n) (h:n<18446744073709551616) (hk:k<=iP n) :n >>> (8*k)=0<->k=iP n:=by
 have m:2 ^ (8*k)=256 ^ k:=by rw[Nat.pow_mul]
 rw[hG,m,Nat.div_eq_zero_iff];constructor
 ·rintro (g | g)
  ·exact bP g (by have:0<256 ^ k:=Nat.pow_pos (by decide);omega)
  ·rcases fN k (iP n) with j | j
   ·have:=TX h1 j;omega
   ·omega
 ·rintro rfl;exact .inr (TW h)
theorem Mj (n:Nat) :∀ k,pZ n k=((List.range k).map (jn n)).reverse
 | 0=>rfl
 | k+1=>by rw[pZ,Mj n k,tg,c5,List.reverse_append];rfl
def mC (n k:Nat) :List B:=(List.range k).map (jn n)
theorem Qo (n k:Nat) :mC n (k+1)=mC n k++[jn n k]:=by simp[mC,tg]
theorem tR (n k:Nat) :(mC n k).length=k:=by simp[mC]
theorem He (n k i:Nat) (h:i<k) :(mC n k)[i]?=some (jn n i):=by simp[mC,h]
theorem Ww (x:Q) :ct .rem .u64 (u x) .u64 256=some (.int .u64 (u (x % 256#64))):=rP x 256#64 (by decide)
theorem Vz (x:Q) :ct .quo .u64 (u x) .u64 256=some (.int .u64 (u (x / 256#64))):=Dy x 256#64 (by decide)
theorem S7 (n:Q) (i:Nat) :((n >>> (8*i)) % 256#64).setWidth 8=jn n.toNat i:=by rw[<-yf];apply eO;rw[eS,kg,eS];show _ % 256 % 2 ^ 8=_ % 2 ^ 8;omega
theorem TT (n:Q) (i:Nat) :(n >>> (8*i)) / 256#64=n >>> (8*(i+1)):=by apply eO;rw[rs,lD,lD,hG,hG,show 8*(i+1)=8*i+8 by omega,rD,<-Nat.div_div_eq_div_mul];rfl
theorem b9.get {l l1:ae} {v:U} {a:List B} {t:Bool} (h:b9 1 bR l l1 v a t) {k:cV} {i:Nat} {x:B} (m:a[i]?=some x) :∃ p cs o,bO (.ad 1) v (.int k (i:Int))=some p/\fV l1 p=some (cs,o)/\cs[o]?=some (a8 x):=by obtain⟨w,h,_⟩:=h;obtain⟨p,cs,o,h1,g,u,j⟩:=h.q.get (k:=k) (i:=i) (e:=bR x) (by rw[bW,m];rfl);refine⟨p,cs,o,h1,g,?_⟩;have:=ch (fun l=>l[0]?) j;simp[gB,bR] at this;exact this
theorem sW (n:Q) {l:ae} {K:cA} (o:∀ v l',b9 1 bR l l' v (dB n.toNat) false->K v l') :cJ 173 [c1 n] l K:=
 Zf n fun v p l' h1 g h j m=>o v l' ⟨p,h1,g,h,.inr j,m⟩
structure N6 (l:ae) (n:Q) (i:Nat) (sgZ:aR) (l1:ae) :Prop where
 lf:sgZ 0=c1 (n >>> (8*i))
 uw:∃ v,sgZ 3=v/\b9 1 bR l l1 v (mC n.toNat i) (decide (i=0))
structure N7 (l1:ae) (v:U) (n:Q) (k i:Nat) (sgZ:aR) (g:ae) :Prop where
 jq:sgZ 3=v
 kA:sgZ 5=.i6 ((k:Int) - 1 - i)
 uw:∃ w,sgZ 4=w/\b9 1 bR l1 g w (BitVec.ofNat 8 (247+k) ::((mC n.toNat k).reverse.take i)) false
theorem q4 (n:Q) {l:ae} {K:cA} (J:∀ v l',b9 1 bR l l' v (dB n.toNat) false->K v l') :
  cJ 188 [c1 n] l K:=by
 apply cW func188 [];have D:((u n:Int)<=247)<->n.toNat<=247:=by unfold u;omega
 by_cases h:n.toNat<=247
 ·have R:dB n.toNat=[n.setWidth 8]:=by
   unfold dB;rw[aj h];rfl
  simp[D,h];exact J _ _ ⟨l.length,lp (n:=1) (a:=dB n.toNat) (by rw[R];rfl) (by rw[R];simp),V,fun b t=>aV t,.inr (aI _),rfl⟩
 ·have aw:=n.isLt;have hk:=zo n.toNat
  simp[D,h];refine bz (iP n.toNat) (N6 l n) ?_ ⟨V,.af,V,b9.nil⟩;rintro i C S U ⟨G,v,j,m⟩;obtain⟨C,rfl⟩:=kb G j;clear G j;have am:=Xu (n:=n.toNat) (k:=i) F F U;have B:((0:Int)<u (n >>> (8*i)))<->¬ i=iP n.toNat:=by
   rw[<-am];unfold u;rw[lD];generalize n.toNat >>> (8*i)=q;omega
  by_cases z:i=iP n.toNat
  ·obtain⟨k,O⟩:∃ k,iP n.toNat=k:=⟨_,rfl⟩
   rw[O] at z B hk;subst z;have Z:dB n.toNat=BitVec.ofNat 8 (247+i) ::(mC n.toNat i).reverse:=by
    unfold dB;rw[ak h,O,Mj];rfl
   have P:=m.len;rw[tR] at P;have ar:IntKind.i64.wrap (247+(i:Int))=((247+i:Nat) :Int):=by rw[wrap_i64 F F];omega
   have au:IntKind.i64.wrap ((i:Int) - 1)=(i:Int) - 1:=wrap_i64 F F;have f1:(dB n.toNat)=BitVec.ofNat 8 (247+i) ::(mC n.toNat i).reverse.take i:=by rw[Z,aL (by rw[List.length_reverse,tR];omega)]
   simp[B,P,ar,au,-Int.natCast_add];refine bz i (N7 S v n i) ?_ ⟨V,V,_,V,⟨S.length,lp (n:=1) (a:=[BitVec.ofNat 8 (247+i)]) rfl V,V,fun b t=>aV t,.inr (aI _),rfl⟩⟩;rintro g C aA ay ⟨j,I,w,H,pK⟩;have ai:=m.frame pK.le pK.same;obtain⟨C,rfl⟩:=gK j H I;clear j H I;by_cases X:g=i
   ·have Y:¬ (g:Int)<=(i:Int) - 1:=F;rw[X,<-f1] at pK;simp[Y];exact J _ _ (pK.base m.le m.same)
   ·have T:(g:Int)<=(i:Int) - 1:=F;have W:((i:Int) - 1 - g)=((i - 1 - g:Nat) :Int):=F;have av:IntKind.i64.wrap ((i:Int) - 1 - g - 1)=(i:Int) - 1 - (g+1:Nat):=by rw[wrap_i64 F F];omega
    obtain⟨aC,cs,aB,q1,ao,ap⟩:=b9.get ai (k:=.i64) (He n.toNat i (i - 1 - g) F);rw[<-W] at q1;have al:(mC n.toNat i).reverse[g]?=some (jn n.toNat (i - 1 - g)):=by
     rw[List.getElem?_reverse (by rw[tR];omega),tR,He _ _ _ F]
    have az:=tR n.toNat i;obtain⟨w',l',p,o⟩:=b9.push pK (jn n.toNat (i - 1 - g)) (by simp;omega);simp[T,q1,ao,ap,p];refine b2.bq ?_;simp[av];exact⟨F,V,V,w',V,by rw[eU,al];simpa using o⟩
  ·have ax:=tR n.toNat i;obtain⟨aq,l',p,o⟩:=b9.push m (jn n.toNat i) F;rw[<-Qo] at o;have ag:ct .quo .u64 (u (n >>> (8*i))) .u64 256=some (c1 (n >>> (8*(i+1)))):=by rw[Vz,TT]
   simp[B,z,Ww,S7,p];refine b2.bq ?_;simp[ag];exact⟨F,V,aq,V,by simpa using o⟩
end Op
namespace Op
open ca
def kf (n:Int) :Q:=if 0<=n then BitVec.ofNat 64 (2*n.toNat) else BitVec.ofNat 64 (2*(-(n+1)).toNat+1)
theorem Zi (n:Int) (h1:-9223372036854775808<=n) (B:n<9223372036854775808) {l:ae} {K:cA} (q:∀ v l',b9 1 bR l l' v (dB (kf n).toNat) false->K v l') :
  cJ 221 [.i6 n] l K:=by
 apply cW func221 [];have o:ct .shl .u64 (u (BitVec.ofInt 64 n)) .u64 1=some (.int .u64 (u (BitVec.ofInt 64 n <<< 1))):=Gq _ .u64 1;have p:ct .shr .i64 n .u64 63=some (.i6 (if 0<=n then 0 else -1)):=by
  show (if (63:Int)<0 then none else some (U.i6 (n.fdiv (2 ^ min (63:Int).toNat 64))))=_;rw[ak F];congr 2;have:(2:Int) ^ min (63:Int).toNat 64=9223372036854775808:=by decide
  rw[this,AK _ F];split<;>omega
 have z:BitVec.ofInt 64 n <<< 1 ^^^ BitVec.ofInt 64 (if 0<=n then 0 else -1)=kf n:=by
  unfold kf;by_cases h:0<=n
  ·rw[aj h,aj h];obtain⟨m,rfl⟩:=m8 h;rw[nR,fA];have:BitVec.ofInt 64 (0:Int)=0#64:=rfl;rw[this,BitVec.xor_zero];apply eO;rw[s7,fe,fe,nY];omega
  ·rw[ak h,ak h];obtain⟨m,t⟩:=m8 (show 0<=-(n+1) by omega);have w:n=-((m:Int)+1):=F;have g:BitVec.ofInt 64 (-1:Int)=BitVec.allOnes 64:=by decide
   have j:BitVec.ofInt 64 n = ~~~ BitVec.ofNat 64 m:=by
    apply eO;rw[w,AI,E5,fe];omega
   have C:m<9223372036854775808:=F;rw[g,j,BitVec.xor_allOnes,t,fA];apply eO;rw[E5,s7,E5,fe,fe,nY];omega
 simp[o,p,z];refine sW _ fun v l' h=>?_
 simp;exact q v l' h
theorem V2 (n:Int) (h1:-9223372036854775808<=n) (t:n<9223372036854775808) {l:ae} {K:cA} (j:∀ v l',b9 1 bR l l' v (dB (kf n).toNat) false->K v l') :
  cJ 234 [.i6 n] l K:=by
 apply cW func234 [];by_cases h:0<=n
 ·obtain⟨m,rfl⟩:=m8 h;have g:2#64*BitVec.ofNat 64 m=kf m:=by
   unfold kf;rw[aj h,fA];apply eO;simp only[s6,fe];omega
  simp[g];refine q4 _ fun v l' h=>?_
  simp;exact j v l' h
 ·have q:IntKind.i64.wrap (n+1)=n+1:=wrap_i64 F F;have o:IntKind.i64.wrap (0 - (n+1))=0 - (n+1):=wrap_i64 F F;have o:IntKind.i64.wrap (-(n+1))=-(n+1):=wrap_i64 F F;have g:2#64*BitVec.ofInt 64 (-(n+1))+1#64=kf n:=by
   obtain⟨m,p⟩:=m8 (show 0<=-(n+1) by omega);unfold kf;rw[ak h,p,fA,nR];apply eO;simp only[s6,fe,xK];omega
  simp[h,q,o,g];refine q4 _ fun v l' h=>?_
  simp;exact j v l' h
def hj (s:List B) :List B:=dB s.length++s
theorem gD (n:Nat) :(dB n).length<=9:=by
 unfold dB;have:=(zo n).2;split
 ·simp
 ·simp[EI];omega
theorem Rc (s:List B) :(s.map bR).flatten=s.map a8:=vY s
theorem BN (l:ae) (s:dS) :cG l 1 (cc s)=some ((s.l.map bR).flatten,s.l.length):=oj l 1 bR s
theorem MR (s:dS) (B:s.l.length<=10000) {x:U} {l:ae} (C:cG l 1 x=some ((s.l.map bR).flatten,s.l.length)) (o:bx (.ad 1) x=some (.i6 s.l.length)) (t:∀ l',l.length<=l'.length->(∀ b,b<l.length->l'[b]?=l[b]?)->cG l' 1 x=some ((s.l.map bR).flatten,s.l.length))
  {K:cA} (m:∀ v l',b9 1 bR l l' v (hj s.l) false->K (.a1 [v,.i6 0]) l') :cJ 174 [x] l K:=by
 apply cW func174 [];have h1:¬ ((10000:Int)<s.l.length):=F;have q:=dF;simp[o,h1];refine sW _ fun v l' h=>?_
 have p:(BitVec.ofNat 64 s.l.length).toNat=s.l.length:=by rw[fe];exact dR F
 rw[p] at h;have z:=gD s.l.length;obtain⟨w,u,g,j,_⟩:=h.app (by_:=1) (x:=x) (xs:=s.l) (t l' h.le h.same) (by simp[bR]) F F (by rw[q];omega);simp[g];refine b2.bq ?_;simp;exact m w u (by simpa [hj] using j)
theorem KB (s:dS) (B:s.l.length<=10000) {x:U} {l:ae} (C:cG l 1 x=some ((s.l.map bR).flatten,s.l.length)) (o:bx (.ad 1) x=some (.i6 s.l.length)) (t:∀ l',l.length<=l'.length->(∀ b,b<l.length->l'[b]?=l[b]?)->cG l' 1 x=some ((s.l.map bR).flatten,s.l.length))
  {K:cA} (m:∀ v l',b9 1 bR l l' v (hj s.l) false->K v l') :cJ 198 [x] l K:=by
 apply cW func198 [];have q:=dF;simp[o];refine q4 _ fun v l' h=>?_
 have p:(BitVec.ofNat 64 s.l.length).toNat=s.l.length:=by rw[fe];exact dR F
 rw[p] at h;have z:=gD s.l.length;obtain⟨w,u,g,j,_⟩:=h.app (by_:=1) (x:=x) (xs:=s.l) (t l' h.le h.same) (by simp[bR]) F F (by rw[q];omega);simp[g];refine b2.bq ?_;simp;exact m w u (by simpa [hj] using j)
def ar (i:List B) :ag:=i.map a8
abbrev bV:=bL (List B)
def ai (s:bV) :U:=b4 32 ar s
def cT (s:bV) :Prop:=∀ i∈s.l,i.length=32
theorem c4 (i:List B) :aq (ar i)=true:=jo a8 (fun _=>rfl) _
theorem bU (s:bV) :(ai s).aw=true:=lQ c4 s
theorem GU:∀ a b:List B,a.length=b.length->lR (a.map fun x=>UInt8.ofNat x.toNat) (b.map fun x=>UInt8.ofNat x.toNat)=bJ a b
 | [],[],_=>rfl
 | [],_::_,h=>by simp at h
 | _::_,[],h=>by simp at h
 | x::a,y::b,h=>by
  have o:=GU a b (by simpa using h);have p:=x.isLt;have q:=y.isLt;rw[GR];simp only[df,lR,o];have j:(UInt8.ofNat x.toNat=UInt8.ofNat y.toNat)<->x.toNat=y.toNat:=by
   constructor
   ·intro h;have:=ch UInt8.toNat h;simp only[FB] at this;omega
   ·intro h;rw[h]
  have m:(UInt8.ofNat x.toNat<UInt8.ofNat y.toNat)<->x.toNat<y.toNat:=by
   rw[UInt8.lt_iff_toNat_lt];simp only[FB];rw[dR F,dR F]
  by_cases h1:x.toNat=y.toNat
  ·rw[aj (j.2 h1),ak F,ak F]
  ·rw[ak (fun h=>h1 (j.1 h))];by_cases g:x.toNat<y.toNat
   ·rw[aj (m.2 g),aj g]
   ·rw[ak (fun h=>g (m.1 h)),ak g,aj F]
@[simp ↓] theorem acm {P:bj} {g:aW->U} {l:ae} (f:cf) (h x y:aW) :bM P g l (.bJ f h x y)=(match yT f (g h) with | true=>du l (cmpL l (g x) (g y)) | false=>none):=id rfl
@[simp ↓] theorem abF (f:cf) (g x y:aW) (v:U) (l:ae) (K:cA) :ey (.bJ f g x y) v l K=K v l:=id rfl
@[simp] theorem aa3 (f:cf) :yT f (.fn f [] [])=true:=A1 f
theorem Gt:∀ a:List B,jQ (a.map a8)=some (a.map fun x=>UInt8.ofNat x.toNat)
 | []=>rfl
 | x::a=>by
  simp only[df,jQ,Gt a,cz];simp[u]
theorem Gu (l:ae) (s:dS) :pa l (cc s)=some (s.l.map fun x=>UInt8.ofNat x.toNat):=by
 have h:=BN l s;rw[Rc] at h;cases s with
 | none=>simp[pa,b4,cG,jQ]
 | some a=>
  unfold pa;simp only[b4];have g:cG l 1 (U.bn 1 (a.map bR))=some (a.map a8,a.length):=h;rw[g];exact Gt a
theorem Gb (a b:dS) (h:a.l.length=b.l.length) :aY 202 [cc a,cc b] (.i6 (bJ a.l b.l)):=by
 refine w4 checked.mixed ev ?_;apply RK func202 [];have g:cmpL [] (cc a) (cc b)=some (.i6 (bJ a.l b.l)):=by
  unfold cmpL;rw[Gu,Gu];simp only[GU _ _ h]
 simp[g];exact aE
theorem uR {n b:Nat} (g:0<n) :dK (.arr n 1) (.ptr b 0 n) none none none=some (.ad 1 b 0 n n n):=by have:e6 n n none none none=some (0,n,n):=rfl;simp only[dK,this];rw[aj F,ak F];simp
theorem qC (a b:List B) (g:a.length=32) (h:b.length=32) :aY 162 [eF a,eF b] (.i6 (bJ a b)):=by
 apply bc func162 [];have o:=uR (n:=32) (b:=1) F;have p:=uR (n:=32) (b:=0) F;simp[eF,g,h,o,p];have m:=Gb (some a) (some b) (by simp[g,h]);refine hg m ?_ rfl ?_
 ·exact .cons ((lp (j:=0) g rfl).l8 (fun _=>rfl) (some a) rfl rfl) (.cons ((lp (j:=1) h rfl).l8 (fun _=>rfl) (some b) rfl rfl) .nil)
 ·simp;exact aE
theorem DN (a b:List B) (W:a.length=32) (X:b.length=32) :aY 189 [eF a,eF b] (.i6 (bJ a b)):=by
 apply bc func189 [];obtain⟨A,G⟩:=ao (a.map a8);obtain⟨w,I⟩:=ao (b.map a8);have t:A.length=32:=by rw[G,cx,W]
 have v:w.length=32:=by rw[I,cx,X]
 unfold eF;rw[<-G,<-I];simp[t,v];refine bz 32 (fun k m l=>m 2=.ptr 0 0 32/\m 3=.ptr 1 0 32/\m 5=.i6 k/\l=[.q 32 A,.q 32 w]/\∀ j,j<k->a[j]?=b[j]?) ?_ V;rintro k m l hk ⟨Q,R,S,rfl,heq⟩;obtain⟨m,rfl⟩:=gK Q R S;clear Q R S;have g:=PO k heq F F;by_cases h:(k:Int)<32
 ·have K:k<32:=F;have ai:IntKind.i64.wrap ((k:Int)+1)=(k+1:Nat):=wrap_i64 F F;obtain⟨x,O,_⟩:=aP (l:=a) (k:=k) F;obtain⟨y,P,_⟩:=aP (l:=b) (k:=k) F;have T:A[k]?=some (a8 x):=by rw[G,bW,O];rfl
  have U:w[k]?=some (a8 y):=by rw[I,bW,P];rfl
  obtain⟨_,H⟩:=aK.1 T;obtain⟨_,J⟩:=aK.1 U;have Y:a.drop k=x::a.drop (k+1):=by
   obtain⟨h1,D⟩:=aK.1 O;rw[ml h1,D]
  have Z:b.drop k=y::b.drop (k+1):=by
   obtain⟨h1,D⟩:=aK.1 P;rw[ml h1,D]
  rw[Y,Z,GR] at g;have am:((u x:Int)<u y)<->x.toNat<y.toNat:=by unfold u;omega
  have ap:((u y:Int)<u x)<->y.toNat<x.toNat:=by unfold u;omega
  by_cases o:x.toNat<y.toNat
  ·rw[aj o] at g;have p:x<y:=o;simp[h,K,t,v,H,J,p];exact aT (by rw[<-g]) rfl
  ·have p:¬ x<y:=o;rw[ak o] at g;by_cases z:y.toNat<x.toNat
   ·rw[aj z] at g;have C:y<x:=z;simp[h,K,t,v,H,J,p,C];exact aT (by rw[<-g]) rfl
   ·have C:¬ y<x:=z;simp[h,K,t,v,H,J,p,C,ai];intro j al;by_cases ae:j=k
    ·subst ae;rw[O,P];have:x=y:=eO F;rw[this]
    ·exact heq j F
 ·have ag:k=32:=F;subst ag;have:bJ a b=0:=by
   rw[<-g,qc F,qc F];rfl
  simp;exact aT (by rw[this]) rfl
abbrev bo (l:aO) (k:Nat) :List B:=l.getD k []
def bX (l:aO) :Bool:=decide (∀ k,k<l.length->1<=k->bJ (bo l (k - 1)) (bo l k)<0)
def sN (l:aO) :Bool:=decide (∀ k,k<l.length->1<=k->¬ bJ (bo l k) (bo l (k - 1))<0)
theorem dG {l:aO} {k:Nat} {x:List B} (h:l[k]?=some x) :bo l k=x:=by unfold bo;rw[gA,h];rfl
theorem uM {l:aO} (h:∀ k,k<l.length->1<=k->bJ (bo l (k - 1)) (bo l k)<0) :bX l=true:=bY h
theorem KZ {l:aO} {k:Nat} (hk:k<l.length) (h1:1<=k) (h:¬ bJ (bo l (k - 1)) (bo l k)<0) :bX l=false:=cC fun g=>h (g k hk h1)
theorem LS {l:aO} (h:∀ k,k<l.length->1<=k->¬ bJ (bo l k) (bo l (k - 1))<0) :sN l=true:=bY h
theorem XU {l:aO} {k:Nat} (hk:k<l.length) (h1:1<=k) (h:bJ (bo l k) (bo l (k - 1))<0) :sN l=false:=cC fun g=>g k hk h1 h
theorem bu {x:List B} (h:x.length=32) :(ar x).length=32:=by simp[ar,h]
theorem DG (a:bV) (o:cT a) (S:a.l.length<=1000000) :aY 124 [ai a] (.bool (bX a.l)):=by
 apply bc func124 [];simp[ai];refine bz (a.l.length - 1) (fun k t l=>t 0=b4 32 ar a/\t 3=.i6 ((k+1:Nat) :Int)/\∀ g,g<k+1->g<a.l.length->1<=g->bJ (bo a.l (g - 1)) (bo a.l g)<0) ?_ ⟨V,V,fun g h1 _ m=>F⟩;rintro k t l hk ⟨u,v,q⟩;obtain⟨s,rfl⟩:=kb u v;clear u v;obtain⟨j,R⟩:=ao (k+1);rw[<-R] at q ⊢;simp;refine gp (fun h=>?_) (fun h=>?_)
 ·simp only[bC] at h;have z:j<a.l.length:=F;obtain⟨x,B,C⟩:=aP (l:=a.l) (k:=k) F;obtain⟨y,D,G⟩:=aP z;have J:IntKind.i64.wrap ((j:Int) - 1)=(k:Int):=by rw[IntKind.wrap_i64];omega
  have K:=cq (k:=j) F;have H:=dG B;have I:=dG D;simp[J,B,D,bu (o x C),bu (o y G),aL];refine av (DN x y (o x C) (o y G)) (by simp[aq,c4,U.aw]) ?_;by_cases w:bJ x y<0
  ·have p:¬ (0<=bJ x y):=F;simp[p,K];refine⟨F,fun g h1 m O=>?_⟩;have Q:bJ (bo a.l (g - 1)) (bo a.l g)<0:=by
    by_cases P:g=j
    ·rw[P,show j - 1=k by omega,H,I];exact w
    ·exact q g F m O
   simpa [bo] using Q
  ·have p:0<=bJ x y:=F;simp[p];refine aT (ch U.bool (KZ (k:=j) z F ?_).symm) rfl;rw[show j - 1=k by omega,H,I];exact w
 ·simp[h];exact aT (ch U.bool (uM fun g h1 m=>q g (by simp at h;omega) h1 m).symm) rfl
theorem Cc:fR prog 162=true:=bg
theorem Sv (a:bV) (m:cT a) (R:a.l.length<=1000000) :aY 168 [ai a,.fn 162 [] []] (.bool (sN a.l)):=by
 apply bc func168 [];have J:IntKind.i64.wrap ((a.l.length:Int) - 1)=(a.l.length:Int) - 1:=by rw[IntKind.wrap_i64];omega
 simp[ai,J];refine bz (a.l.length - 1) (fun k p l=>p 0=b4 32 ar a/\p 1=.fn 162 [] []/\p 5=.i6 ((a.l.length:Int) - 1 - k)/\∀ g,g<a.l.length->a.l.length - 1 - k<g->¬ bJ (bo a.l g) (bo a.l (g - 1))<0) ?_ ⟨V,V,V,fun g h1 z=>F⟩;rintro k p l hk ⟨u,v,w,B⟩;obtain⟨s,rfl⟩:=gK u v w;clear u v w;simp;refine gp (fun h=>?_) (fun h=>?_)
 ·simp only[bC] at h;obtain⟨j,S⟩:∃ j,j+k+2=a.l.length:=⟨a.l.length - 2 - k,F⟩
  have K:((a.l.length:Int) - 1 - k)=((j+1:Nat) :Int):=F;rw[K];obtain⟨x,q,C⟩:=aP (l:=a.l) (k:=j+1) F;obtain⟨y,D,G⟩:=aP (l:=a.l) (k:=j) F;obtain⟨n,Q⟩:=ao (j+1);rw[<-Q] at q ⊢;have t:IntKind.i64.wrap ((n:Int) - 1)=(j:Int):=by rw[IntKind.wrap_i64];omega
  have H:=dG q;have I:=dG D;simp[t,q,D,bu (m x C),bu (m y G),aL];refine⟨Cc,av (qC x y (m x C) (m y G)) (by simp[aq,c4,U.aw]) ?_⟩;by_cases o:bJ x y<0
  ·simp[o];refine aT (ch U.bool (XU (k:=n) F F ?_).symm) rfl;rw[show n - 1=j by omega,H,I];exact o
  ·simp[o,t];refine⟨F,F,fun g h1 z=>?_⟩;have P:¬ bJ (bo a.l g) (bo a.l (g - 1))<0:=by
    by_cases O:g=n
    ·rw[O,show n - 1=j by omega,H,I];exact o
    ·exact B g h1 F
   simpa [bo] using P
 ·simp[h];exact aT (ch U.bool (LS fun g h1 z=>B g h1 (by simp at h;omega)).symm) rfl
def tS (l:aO) (k:Nat) :Bool:=decide (k+1<l.length)&&decide (0<=bJ (bo l k) (bo l (k+1)))
theorem KY {l:aO}:bX l=true<->∀ k,k<l.length->tS l k=false:=by
 unfold bX tS;rw[bC];constructor
 ·intro h k hk;by_cases h1:k+1<l.length
  ·have:=h (k+1) h1 F;rw[ti] at this;rw[cC (p:=0<=_) F,u9]
  ·simp[h1]
 ·intro h k hk h1;have:=h (k - 1) F;rw[show k - 1+1=k by omega] at this;rw[bY hk,mj,decide_eq_false_iff_not] at this;omega
theorem WF (a:bV) (m:cT a) (J:a.l.length<=1000000) (k:Nat) (hk:k<a.l.length) (x:List B) (O:x.length=32) (r:ae) {K:cA}
  (g:∀ I,K (.bool (tS a.l k)) (.q 1 [ai a] ::.q 1 [.i6 ((k+1:Nat) :Int)] ::I)) :
  cJ 262 [eF x,.ptr 1 0 1,.ptr 0 0 1] (.q 1 [ai a] ::.q 1 [.i6 (k:Int)] ::r) K:=by
 apply cW func262 [];have o:=cq (k:=k) F;obtain⟨j,p⟩:=ao (k+1);rw[<-p] at o g;have C:IntKind.i64.wrap ((j:Int) - 1)=(k:Int):=by rw[IntKind.wrap_i64];omega
 unfold tS at g;rw[<-p] at g;obtain⟨y,t,u⟩:=aP hk;by_cases h:j<a.l.length
 ·obtain⟨z,v,w⟩:=aP h;have G:=dG t;have H:=dG v;rw[G,H] at g;have h' : (j:Int)<(a.l.length:Int):=F;have D:a.l[j]=z:=(aK.1 v).2;simp[eF,ai,o,C,h,h',t,D,bu (m y u),bu (m z w),aL];refine av (qC y z (m y u) (m z w)) (by simp[aq,c4,U.aw]) ?_;have:=g (r++[am.q x.length (List.map a8 x)]);simpa [h,ai] using this
 ·have h' : ¬ (j:Int)<(a.l.length:Int):=F;simp[eF,ai,o,h'];have:=g (r++[am.q x.length (List.map a8 x)]);simpa [h,ai] using this
theorem Rj:fR prog 262=true:=bg
theorem WH (a:bV) (m:cT a) (I:a.l.length<=1000000) {K:cA} (v:∀ n C,(n<0<->bX a.l=true)->K (.i6 n) C) :
  cJ 139 [ai a,.fn 262 [] [.ptr 1 0 1,.ptr 0 0 1]] [.q 1 [ai a],.q 1 [.i6 0]] K:=by
 apply cW func139 [];simp[ai];refine bz a.l.length (fun k j l=>j 0=b4 32 ar a/\j 1=.fn 262 [] [.ptr 1 0 1,.ptr 0 0 1]/\j 7=.i6 a.l.length/\j 8=.i6 k/\(∃ r,l=.q 1 [ai a] ::.q 1 [.i6 (k:Int)] ::r)/\∀ g,g<k->tS a.l g=false) ?_ ⟨V,V,V,V,⟨[],by simp[ai]⟩,fun g h=>F⟩;rintro k j l hk ⟨o,p,t,u,⟨r,rfl⟩,z⟩;obtain⟨s,rfl⟩:=fc o p t u;clear o p t u;simp;refine gp (fun h=>?_) (fun h=>?_)
 ·simp only[bC] at h;obtain⟨x,O,B⟩:=aP (l:=a.l) (k:=k) F;have D:=cq (k:=k) F;simp[O,bu (m x B),aL];refine⟨Rj,WF a m I k F x (m x B) r fun C=>?_⟩;cases w:tS a.l k with
  | true=>
   simp;refine v _ _ ⟨fun P=>F,fun J=>?_⟩;have:=KY.1 J k F;rw[w] at this;cases this
  | false=>
   simp[D];refine⟨F,fun g G=>?_⟩;by_cases H:g=k
   ·subst H;exact w
   ·exact z g F
 ·simp[h];refine v _ _ ⟨fun _=>KY.2 fun g G=>z g (by simp at h;omega),fun _=>F⟩
theorem WG (a:bV) (p:cT a) (t:a.l.length<=1000000) {K:cA} (o:∀ g,K (.bool (!bX a.l)) g) :
  cJ 88 [ai a,.fn 262 [] [.ptr 1 0 1,.ptr 0 0 1]] [.q 1 [ai a],.q 1 [.i6 0]] K:=by
 apply cW func88 [];simp;refine WH a p t fun n g j=>?_
 have e:decide (0<=n)=!bX a.l:=by
  cases m:bX a.l with
  | true=>have:=j.2 m;simp;omega
  | false=>
   have:¬ n<0:=fun h=>by have:=j.1 h;rw[m] at this;cases this
   simp;omega
 simp[e];exact o g
theorem WI (a:bV) (g:cT a) (j:a.l.length<=1000000) :aY 218 [ai a] (.bool (bX a.l)):=by
 apply bc func218 [];have h:(ai a).cells=some [ai a]:=by cases a<;>rfl
 simp[h];refine WG a g j fun m=>?_
 simp;exact aE
def nz (l:aO) :List B:=dB l.length++l.flatten
theorem GF:∀ (x:List B),lP 1 x.length (x.map a8)=x.map bR
 | []=>rfl
 | b::r=>by
  show ((a8 b::r.map a8).take 1) ::lP 1 r.length ((a8 b::r.map a8).drop 1)=_;simp[GF r,bR]
theorem PG {x:List B} (h:x.length=32) :lP 1 32 (ar x)=x.map bR:=by have:=GF x;rw[h] at this;exact this
theorem Cu {l:aO} (h:∀ x∈l,x.length=32) :l.flatten.length=l.length*32:=hO h
theorem Mk {l:aO} {k:Nat} {x:List B} (h:l[k]?=some x) :(l.take (k+1)).flatten=(l.take k).flatten++x:=by rw[eU,h];simp
theorem XA {x:List B} (h:x.length=32) :dK (.arr 32 1) (.b0 (ar x) 0) none none none=some (.bn 1 (x.map bR)):=by have:=PG h;have g:e6 32 32 none none none=some (0,32,32):=rfl;unfold dK;simp only[g];simp[bu h,this]
structure NU (l:ae) (s:bV) (k:Nat) (sgZ:aR) (l1:ae) :Prop where
 lf:sgZ 0=b4 32 ar s
 kz:sgZ 4=.i6 k
 uw:∃ v,sgZ 3=v/\b9 1 bR l l1 v (dB s.l.length++(s.l.take k).flatten) false
theorem VL (s:bV) (g:cT s) (Q:s.l.length<=1000) {l:ae} {K:cA} (B:∀ v l',b9 1 bR l l' v (nz s.l) false->K v l') :
  cJ 197 [ai s] l K:=by
 apply cW func197 [];have D:=dF;have C:(BitVec.ofNat 64 s.l.length).toNat=s.l.length:=by rw[fe];exact dR F
 have P:=gD s.l.length;simp[ai];refine q4 _ fun v l' h=>?_
 rw[C] at h;simp;refine bz s.l.length (NU l s) ?_ ⟨by simp[ai],V,v,V,by simpa using h⟩;rintro k I R hk ⟨m,p,v,o,j⟩;obtain⟨I,rfl⟩:=gK m o p;clear m o p;simp;refine gp (fun h=>?_) (fun h=>?_)
 ·simp only[bC] at h;obtain⟨x,q,t⟩:=aP (l:=s.l) (k:=k) F;have z:=cq (k:=k) F;have O:((s.l.take k).flatten).length<=32000:=by
   rw[Cu (fun y H=>g y (gh H)),cO];omega
  obtain⟨J,S,u,w,_⟩:=j.app (by_:=1) (x:=.bn 1 (x.map bR)) (xs:=x) (by simp[cG]) (by simp[bR]) F F (by rw[D,g x t];simp only[cr];omega);simp[q,XA (g x t),u];refine b2.bq ?_;simp[z];exact⟨F,V,V,J,V,by rw[Mk q,<-gM];exact w⟩
 ·simp[h];have G:s.l.take k=s.l:=aL (by simp at h;omega);rw[G] at j;exact B _ _ j
structure NV (l:ae) (s:bV) (k:Nat) (sgZ:aR) (l1:ae) :Prop where
 aaM:sgZ 17=b4 32 ar s
 aaN:sgZ 18=.i6 s.l.length
 Rx:sgZ 19=.i6 k
 uw:∃ v,sgZ 4=v/\b9 1 bR l l1 v (dB s.l.length++(s.l.take k).flatten) false
theorem Zc (s:bV) (g:cT s) (X:s.l.length<=60) (I:bX s.l=true) {l:ae} {K:cA} (G:∀ v l',b9 1 bR l l' v (nz s.l) false->K (.a1 [v,.i6 0]) l') :
  cJ 171 [ai s] l K:=by
 apply cW func171 [];have J:dk=140737488355328:=rfl;have H:(BitVec.ofNat 64 s.l.length).toNat=s.l.length:=by rw[fe];exact dR F
 have W:=gD s.l.length;have D:¬ (60:Int)<(s.l.length:Int):=F;simp[ai,D];refine av (WI s g F) (by have:=bU s;simp[aq];exact this) ?_;simp[I,ai];refine sW _ fun v l' h=>?_
 rw[H] at h;simp[ai];refine bz s.l.length (NV l s) ?_ ⟨V,V,V,v,V,by simpa using h⟩;rintro k S R hk ⟨o,p,t,v,u,m⟩;obtain⟨S,rfl⟩:=fc o p t u;clear o p t u;simp;refine gp (fun h=>?_) (fun h=>?_)
 ·simp only[bC] at h;obtain⟨x,w,j⟩:=aP (l:=s.l) (k:=k) F;have C:=cq (k:=k) F;have U:((s.l.take k).flatten).length<=32000:=by
   rw[Cu (fun y Q=>g y (gh Q)),cO];omega
  obtain⟨T,Y,z,B,_⟩:=(m.more [.q 32 (ar x)]).app (by_:=1) (x:=.ad 1 R.length 0 32 32 32) (xs:=x) (by simp[cG,g x j,aL,ar,vY]) (by simp[bR]) F F (by rw[J,g x j];simp only[cr];omega);have O:ax (bT 32 (.int .u8 0)) 0 (ar x)=ar x:=cI (by rw[bu (g x j)];rfl);simp[w,bu (g x j),aL,uR,O,z];refine b2.bq ?_;simp[C];exact⟨F,V,V,V,T,V,by rw[Mk w,<-gM];exact B⟩
 ·simp[h];have P:s.l.take k=s.l:=aL (by simp at h;omega);rw[P] at m;exact G _ _ m
def ej (s:List UInt8) :List B:=s.map fun b=>b.toBitVec
theorem Aj (s:List UInt8) :(s.map fun b=>[hu b])=(ej s).map bR:=by unfold ej;rw[iU];rfl
theorem m3 (s:List UInt8) :(ej s).length=s.length:=by simp[ej]
def lN (b:Q) (k:Nat) :List B:=(List.range k).map fun i=>jn b.toNat (7 - i)
def hl (v:gV) :List B:=v.kind::(if v.kind=1#8 then dB (kf v.num).toNat else if v.kind=2#8 then lN v.bits 8 else hj (ej v.text))
def zs (v:gV) :Prop:=-9223372036854775808<=v.num/\v.num<9223372036854775808/\v.text.length<=10000
theorem Gf (b:Q) (k:Nat) :lN b (k+1)=lN b k++[jn b.toNat (7 - k)]:=by unfold lN;rw[tg,c5];rfl
theorem Jt (l:ae) (c:am) (x:B) :b9 1 bR l (l++[c,.q 1 [a8 x]]) (.ad 1 (l.length+1) 0 1 1 1) [x] false:=by exact⟨l.length+1,lp (n:=1) (a:=[x]) rfl V,V,fun b g=>aV g,.inr F,rfl⟩
theorem pK (l:ae) (c:am) (x:B) :b9 1 bR (l++[c]) (l++[c,.q 1 [a8 x]]) (.ad 1 (l.length+1) 0 1 1 1) [x] false:=by have e:l++[c,.q 1 [a8 x]]=(l++[c])++[.q 1 [a8 x]]:=V;exact⟨l.length+1,lp (n:=1) (a:=[x]) rfl V,V,fun b g=>by rw[e];exact aV g,.inr V,rfl⟩
structure No (l:ae) (v:gV) (p:Nat) (k:Nat) (sgZ:aR) (l1:ae) :Prop where
 fp:sgZ 1=.ptr p 0 4
 kz:sgZ 4=.i6 (7 - (k:Int))
 uw:∃ w,sgZ 3=w/\b9 1 bR (l++[.q 4 (dI v)]) l1 w (v.kind::lN v.bits k) false
theorem V8 (v:gV) (al:zs v) {l:ae} {K:cA} (G:∀ w l',b9 1 bR l l' w (hl v) false->K w l') :
  cJ 199 [.ah (dI v)] l K:=by
 apply cW func199 [];have Q:=dF;have D:=Jt l (.q 4 (dI v)) v.kind;obtain⟨Z,ag,ai⟩:=al;have W:rW (.str v.text)=some (.bn 1 ((ej v.text).map bR)):=by
  show some (U.bn 1 (v.text.map fun b=>[hu b]))=_;rw[Aj]
 by_cases o:v.kind=1#8
 ·have p:hl v=[v.kind]++dB (kf v.num).toNat:=by unfold hl;rw[aj o];rfl
  have z:(u v.kind:Int)=1:=(g4 v.kind).2 o;simp only[a8,z] at D;have aw:=gD (kf v.num).toNat
  simp[dI,z];refine V2 v.num Z ag fun w l' h=>?_
  obtain⟨aq,ao,j,m,_⟩:=(D.frame h.le h.same).app (by_:=1) (x:=w) (xs:=dB (kf v.num).toNat) h.contents (by simp[bR]) F F (by rw[Q];simp only[dE,hq];omega);simp[j];refine b2.bq ?_;simp;exact G _ _ (by rw[p];exact m)
 ·have z:¬ (u v.kind:Int)=1:=fun h=>o ((g4 v.kind).1 h)
  by_cases t:v.kind=2#8
  ·have B:(u v.kind:Int)=2:=(jf v.kind).2 t;have p:hl v=v.kind::lN v.bits 8:=by unfold hl;rw[ak o,aj t]
   have O:=pK l (.q 4 (dI v)) v.kind;simp only[a8,B] at O;simp[dI,B];refine bz 8 (No l v l.length) ?_ ⟨V,V,_,V,O⟩;rintro k ap am hk ⟨H,J,w,I,C⟩;have P:am[l.length]?=some (.q 4 (dI v)):=by rw[C.same l.length V];simp
   obtain⟨ap,rfl⟩:=gK H I J;clear H I J;by_cases X:k=8
   ·subst X;rw[<-p] at C;simp;exact G _ _ (C.base V fun b T=>aV T)
   ·obtain⟨g,av⟩:∃ g,g+k=7:=⟨7 - k,F⟩
    have em:7 - (k:Int)=(g:Int):=F;have R:IntKind.i64.wrap ((g:Int) - 1)=(g:Int) - 1:=by rw[IntKind.wrap_i64];omega
    have S:IntKind.i64.wrap (8*(g:Int))=((8*g:Nat) :Int):=by rw[IntKind.wrap_i64];omega
    have ar:ct .shr .u64 (u v.bits) .i64 ((8*g:Nat) :Int)=some (.int .u64 (u (v.bits >>> (8*g)))):=qw v.bits .i64 (8*g);have au:=yf v.bits g;have Y:(v.kind::lN v.bits k).length<=1000000000:=by simp[lN];omega
    obtain⟨w',l',j,m⟩:=b9.push C (jn v.bits.toNat g) Y;rw[em];simp[dI] at P;simp[P,S,ar,au,j,-Int.natCast_mul];refine b2.bq ?_;simp[R];exact⟨F,V,by simp;omega,w',V,by rw[Gf,show 7 - k=g by omega];exact m⟩
  ·have B:¬ (u v.kind:Int)=2:=fun h=>t ((jf v.kind).1 h)
   have p:hl v=[v.kind]++hj (ej v.text):=by unfold hl;rw[ak o,ak t];rfl
   have ax:(hj (ej v.text)).length<=20000:=by
    have:=gD (ej v.text).length;unfold hj;rw[cr];have:=m3 v.text;omega
   simp[dI,z,B,W];refine KB (some (ej v.text)) (by simpa [m3] using ai) (by simp[cG]) V (fun l' _ _=>by simp[cG]) fun w l' h=>?_
   obtain⟨aq,ao,j,m,_⟩:=(D.frame h.le h.same).app (by_:=1) (x:=w) (xs:=hj (ej v.text)) h.contents (by simp[bR]) F F (by rw[Q];simp only[dE,hq];omega);simp[j];refine b2.bq ?_;simp;exact G _ _ (by rw[p];exact m)
structure Np (l:ae) (v:gV) (p:Nat) (k:Nat) (sgZ:aR) (l1:ae) :Prop where
 fp:sgZ 1=.ptr p 0 4
 nw:sgZ 6=.i6 (8*(7 - (k:Int)))
 uw:∃ w,sgZ 5=w/\b9 1 bR (l++[.q 4 (dI v)]) l1 w (v.kind::lN v.bits k) false
theorem SE {v:gV} (h:iB v=true) (g:¬ v.kind=1#8) (j:¬ v.kind=2#8) :v.kind=3#8:=by unfold iB at h;simp[g,j] at h;exact h.1
theorem Zj (v:gV) (ar:zs v) (R:iB v=true) {l:ae} {K:cA} (H:∀ w l',b9 1 bR l l' w (hl v) false->K (.a1 [w,.i6 0]) l') :
  cJ 175 [.ah (dI v)] l K:=by
 apply cW func175 [];have T:=dF;have z:=Jt l (.q 4 (dI v)) v.kind;obtain⟨am,ap,aq⟩:=ar;have Z:rW (.str v.text)=some (.bn 1 ((ej v.text).map bR)):=by
  show some (U.bn 1 (v.text.map fun b=>[hu b]))=_;rw[Aj]
 have B:=ML v;rw[R] at B;by_cases g:v.kind=1#8
 ·have t:hl v=[v.kind]++dB (kf v.num).toNat:=by unfold hl;rw[aj g];rfl
  have D:(u v.kind:Int)=1:=(g4 v.kind).2 g;simp only[a8,D] at z;have aB:=gD (kf v.num).toNat
  simp[dI];refine av B rfl ?_;simp[jT,D];refine Zi v.num am ap fun w l' h=>?_
  obtain⟨ay,aw,m,o,_⟩:=(z.frame h.le h.same).app (by_:=1) (x:=w) (xs:=dB (kf v.num).toNat) h.contents (by simp[bR]) F F (by rw[T];simp only[dE,hq];omega);simp[m];refine b2.bq ?_;simp;exact H _ _ (by rw[t];exact o)
 ·have D:¬ (u v.kind:Int)=1:=fun h=>g ((g4 v.kind).1 h)
  by_cases p:v.kind=2#8
  ·have G:(u v.kind:Int)=2:=(jf v.kind).2 p;have t:hl v=v.kind::lN v.bits 8:=by unfold hl;rw[ak g,aj p]
   have Q:=pK l (.q 4 (dI v)) v.kind;simp only[a8,G] at Q;simp[dI];refine av B rfl ?_;simp[jT,G];refine bz 8 (Np l v l.length) ?_ ⟨V,V,_,V,Q⟩;rintro k ax au hk ⟨J,P,w,O,C⟩;have S:au[l.length]?=some (.q 4 (dI v)):=by rw[C.same l.length V];simp
   obtain⟨ax,rfl⟩:=gK J O P;clear J O P;by_cases ag:k=8
   ·subst ag;rw[<-t] at C;simp;exact H _ _ (C.base V fun b Y=>aV Y)
   ·obtain⟨j,aA⟩:∃ j,j+k=7:=⟨7 - k,F⟩
    obtain⟨n,al⟩:=ao (8*j);have em:8*(7 - (k:Int))=(n:Int):=F;have X:IntKind.i64.wrap ((n:Int) - 8)=(n:Int) - 8:=by rw[IntKind.wrap_i64];omega
    have az:ct .shr .u64 (u v.bits) .i64 (n:Int)=some (.int .u64 (u (v.bits >>> n))):=qw v.bits .i64 n;have W:=yf v.bits j;rw[<-al] at W;have ai:(v.kind::lN v.bits k).length<=1000000000:=by simp[lN];omega
    obtain⟨w',l',m,o⟩:=b9.push C (jn v.bits.toNat j) ai;rw[em];simp[dI] at S;simp[S,az,W,m];refine b2.bq ?_;simp[X];exact⟨F,V,by simp;omega,w',V,by rw[Gf,show 7 - k=j by omega];exact o⟩
  ·have G:¬ (u v.kind:Int)=2:=fun h=>p ((jf v.kind).1 h)
   have I:(u v.kind:Int)=3:=(nM v.kind).2 (SE R g p);have t:hl v=[v.kind]++hj (ej v.text):=by unfold hl;rw[ak g,ak p];rfl
   have aC:(hj (ej v.text)).length<=20000:=by
    have:=gD (ej v.text).length;unfold hj;rw[cr];have:=m3 v.text;omega
   simp only[a8,I] at z;simp[dI];refine av B rfl ?_;simp[jT,I,Z];refine MR (some (ej v.text)) (by simpa [m3] using aq) (by simp[cG]) V (fun l' _ _=>by simp[cG]) fun w l' h=>?_
   obtain⟨ay,aw,m,o,_⟩:=(z.frame h.le h.same).app (by_:=1) (x:=w) (xs:=hj (ej v.text)) h.contents (by simp[bR]) F F (by rw[T];simp only[dE,hq];omega);simp[m];refine b2.bq ?_;simp;exact H _ _ (by rw[t];exact o)
structure aG where
 en:D
 ay:bV
 eZ:Q
 act:Act
 e:D
 s:D
def au (o:aG) :ag:=[a7 o.en,ai o.ay,c1 o.eZ,a8 o.act.kind,.str o.act.key,a8 o.act.val.kind,.i6 o.act.val.num,c1 o.act.val.bits,.str o.act.val.text,a7 o.e,a7 o.s]
structure dz (o:aG) :Prop where
 idsZ:cT o.ay
 len:o.ay.l.length<=1000000
 val:zs o.act.val
 key:o.act.key.length<=10000
def mE (o:aG) :Bool:=eP o.en&&(decide (o.eZ.toNat<=1000000000000)&&(hM o.act&&(eW o.e&&eW o.s)))
def c3 (o:aG) :Int:=if 4<o.ay.l.length then 4 else if bX o.ay.l then (if mE o then 0 else 8) else 32
theorem dV (o:aG) :aq (au o)=true:=by have:=bU o.ay;simp[au,aq,U.aw,this]
theorem DE (o:aG) (q:dz o) :aY 120 [.ah (au o)] (.i6 (c3 o)):=by
 apply bc func120 [];unfold c3;have v:=bU o.ay;have p:bx (.ad 32) (ai o.ay)=_:=cd _;have G:(ai o.ay).cells=some [ai o.ay]:=by cases o.ay<;>rfl
 obtain⟨I,H⟩:=ao (ai o.ay);by_cases h1:4<o.ay.l.length
 ·have j:(4:Int)<(o.ay.l.length:Int):=F;rw[aj h1];simp[au,p,j];exact aE
 ·have j:¬ (4:Int)<(o.ay.l.length:Int):=F;rw[ak h1];simp[au,p,j];refine av (DG o.ay q.idsZ q.len) (by simp[aq,v]) ?_;cases w:bX o.ay.l with
  | false=>
   simp;exact aE
  | true=>
   simp;refine av (KP o.en) rfl ?_;unfold mE;cases z:eP o.en with
   | false=>
    simp;exact aE
   | true=>
    have t:((1000000000000:Int)<u o.eZ)<->¬ o.eZ.toNat<=1000000000000:=by unfold u;omega
    by_cases g:o.eZ.toNat<=1000000000000
    ·have m:¬ ((1000000000000:Int)<u o.eZ):=fun h=>t.1 h g
     simp[m];refine av (Wn o.act) rfl ?_;cases B:hM o.act with
     | false=>
      simp[jT];exact aE
     | true=>
      simp[jT];refine av (yy o.e) rfl ?_;cases C:eW o.e with
      | false=>
       simp;exact aE
      | true=>
       simp;refine av (yy o.s) rfl ?_;cases D:eW o.s with
       | false=>
        simp;exact aE
       | true=>
        simp;exact aT (by rw[aj g]) rfl
    ·have m:(1000000000000:Int)<u o.eZ:=t.2 g;simp[g,m];exact aE
def opHead (o:aG) :List B:=111#8::dB o.en.toNat
def eH (o:aG) :List B:=
 opHead o++nz o.ay.l++dB o.eZ.toNat++[o.act.kind]++(if o.act.kind=1#8 then [] else hj (ej o.act.key))++(if o.act.kind=4#8 then hl o.act.val else [])
theorem ws {l:aO} (h:∀ x∈l,x.length=32) :(nz l).length<=9+l.length*32:=by have:=gD l.length;have g:=Cu h;unfold nz;rw[cr];omega
theorem uY (s:List B) :(hj s).length<=9+s.length:=by have:=gD s.length;unfold hj;rw[cr];omega
theorem xy (v:gV) :(hl v).length<=20+v.text.length:=by
 have h1:=gD (kf v.num).toNat
 have g:=uY (ej v.text);have h:=m3 v.text;unfold hl;simp only[dE];split
 ·omega
 ·split
  ·simp[lN];omega
  ·omega
theorem DI (o:aG) (B:dz o) (aJ:o.ay.l.length<=1000) {l:ae} {K:cA} (S:∀ w l',b9 1 bR l l' w (eH o) false->K w l') :
  cJ 134 [.ah (au o)] l K:=by
 apply cW func134 [[[0],[1],[2],[5],[6],[3,6],[4,6]]];have C:=dF;have aE:=pK l (.q 11 (au o)) 111#8;have a4:=gD o.en.toNat
 have a5:=gD o.eZ.toNat
 have a6:=ws B.idsZ;have aP:(BitVec.setWidth 64 o.en).toNat=o.en.toNat:=by rw[eS];exact dR (by have:=o.en.isLt;omega)
 have z:l.length<(l++[am.q 11 (au o)]).length:=V;have t:(l++[am.q 11 (au o)])[l.length]?=some (.q 11 (au o)):=V;simp[au];refine q4 _ fun aU a9 h1=>?_
 rw[aP] at h1;obtain⟨bg,aq,ax,H,_⟩:=(aE.frame h1.le h1.same).app (by_:=1) (x:=aU) (xs:=dB o.en.toNat) h1.contents (by simp[bR]) F F (by rw[C];simp only[dE,hq];omega);have Z:aq[l.length]?=some (.q 11 (au o)):=by rw[H.same _ z];exact t
 have aK:l.length<aq.length:=by have:=H.le;omega
 have ag:=Z;simp[au] at ag;simp[ax];refine b2.bq ?_;simp[ag];refine VL o.ay B.idsZ aJ fun aX aR G=>?_
 obtain⟨bh,ar,az,I,_⟩:=(H.frame G.le G.same).app (by_:=1) (x:=aX) (xs:=nz o.ay.l) G.contents (by simp[bR]) F F (by rw[C];simp only[cr,dE,hq];omega);have cm:aR[l.length]?=some (.q 11 (au o)):=by rw[G.same _ aK];exact Z
 have aL:ar[l.length]?=some (.q 11 (au o)):=by rw[I.same _ z];exact t
 have a2:l.length<ar.length:=by have:=I.le;omega
 have ai:=cm;have al:=aL;simp[au] at ai al;simp[ai,az];refine b2.bq ?_;simp[al];refine q4 _ fun aY bd Q=>?_
 obtain⟨bi,aS,aA,Y,_⟩:=(I.frame Q.le Q.same).app (by_:=1) (x:=aY) (xs:=dB o.eZ.toNat) Q.contents (by simp[bR]) F F (by rw[C];simp only[cr,dE,hq];omega);have aM:aS[l.length]?=some (.q 11 (au o)):=by rw[Y.same _ z];exact t
 have ap:=aM;simp[au] at ap;obtain⟨bj,av,aB,m⟩:=b9.push Y o.act.kind (by simp only[cr,dE,hq];omega);have aN:av[l.length]?=some (.q 11 (au o)):=by rw[m.same _ z];exact t
 have a3:l.length<av.length:=by have:=m.le;omega
 have W:=aN;simp[au] at W;simp[aA];refine b2.bq ?_;simp[ap,aB];refine b2.bq ?_;obtain⟨M,T⟩:=ao ([111#8]++dB o.en.toNat++nz o.ay.l++dB o.eZ.toNat++[o.act.kind]);have a0:M.length<=40000:=by rw[T];simp only[cr,dE,hq];omega
 rw[<-T] at m;have g:eH o=M++(if o.act.kind=1#8 then [] else hj (ej o.act.key))++(if o.act.kind=4#8 then hl o.act.val else []):=by rw[T];rfl
 have aQ:=uY (ej o.act.key);rw[m3] at aQ;have aH:=B.key;have a7:=xy o.act.val;have a8:=B.val.2.2;have aF:rW (.str o.act.key)=some (.bn 1 ((ej o.act.key).map bR)):=by
  show some (U.bn 1 (o.act.key.map fun b=>[hu b]))=_;rw[Aj]
 by_cases p:o.act.kind=1#8
 ·have J:(u o.act.kind:Int)=1:=(g4 o.act.kind).2 p;have j:¬ o.act.kind=4#8:=by rw[p];decide
  rw[aj p,ak j,eT,eT] at g;simp[W,J];exact S _ _ (by rw[g];exact m.base V fun b v=>aV v)
 ·have J:¬ (u o.act.kind:Int)=1:=fun h=>p ((g4 o.act.kind).1 h)
  rw[ak p] at g;simp[W,J,aF];refine KB (some (ej o.act.key)) (by simpa [m3] using aH) (by simp[cG]) V (fun l' _ _=>by simp[cG]) fun aZ fF R=>?_
  obtain⟨bk,aT,aC,D,_⟩:=(m.frame R.le R.same).app (by_:=1) (x:=aZ) (xs:=hj (ej o.act.key)) R.contents (by simp[bR]) F F (by rw[C];omega);have aO:aT[l.length]?=some (.q 11 (au o)):=by rw[D.same _ z];exact t
  have X:=aO;simp[au] at X;simp[aC];refine b2.bq ?_;simp only[ru] at D;by_cases j:o.act.kind=4#8
  ·have O:(u o.act.kind:Int)=4:=(rh o.act.kind).2 j;rw[aj j] at g;simp[X,O];refine V8 o.act.val B.val fun aW bb P=>?_
   obtain⟨bf,bc,aw,aD,_⟩:=(D.frame P.le P.same).app (by_:=1) (x:=aW) (xs:=hl o.act.val) P.contents (by simp[bR]) F F (by rw[C];simp only[cr];omega);simp[aw];refine b2.bq ?_;simp;exact S _ _ (by rw[g];exact aD.base V fun b v=>aV v)
  ·have O:¬ (u o.act.kind:Int)=4:=fun h=>j ((rh o.act.kind).1 h)
   rw[ak j,eT] at g;simp[X,O];exact S _ _ (by rw[g];exact D.base V fun b v=>aV v)
def fj (o:aG) :List B:=eH o++dB o.e.toNat++dB o.s.toNat
theorem JG (o:aG) (g:dz o) (w:o.ay.l.length<=1000) :(eH o).length<=100000:=by
 have h1:=gD o.en.toNat
 have p:=gD o.eZ.toNat
 have q:=ws g.idsZ;have h:=uY (ej o.act.key);rw[m3] at h;have t:=g.key;have u:=xy o.act.val;have v:=g.val.2.2;have j:(if o.act.kind=1#8 then [] else hj (ej o.act.key)).length<=10009:=by split<;>(try simp) ;omega
 have m:(if o.act.kind=4#8 then hl o.act.val else []).length<=10020:=by split<;>(try simp) ;omega
 unfold eH opHead;simp only[cr,dE,hq];omega
theorem VC (o:aG) (u:dz o) (p:o.ay.l.length<=1000) {l:ae} {K:cA} (O:∀ w l',b9 1 bR l l' w (fj o) false->K w l') :
  cJ 123 [.ah (au o)] l K:=by
 apply cW func123 [[[0]]++db 2 4++db 8 4++[[1,11,10,5,4],[6,11,10],[7,11,10]]];have D:=dF;have Z:=gD o.e.toNat
 have ag:=gD o.s.toNat
 have ai:=JG o u p;have S:(BitVec.setWidth 64 o.e).toNat=o.e.toNat:=by rw[eS];exact dR (by have:=o.e.isLt;omega)
 have T:(BitVec.setWidth 64 o.s).toNat=o.s.toNat:=by rw[eS];exact dR (by have:=o.s.isLt;omega)
 have t:l.length<(l++[am.q 11 (au o)]).length:=V;have m:(l++[am.q 11 (au o)])[l.length]?=some (.q 11 (au o)):=V;simp[au];refine DI o u p fun al G h1=>?_
 have v:G[l.length]?=some (.q 11 (au o)):=by rw[h1.same _ t];exact m
 have Q:l.length<G.length:=by have:=h1.le;simp at this;omega
 have z:=v;simp[au] at z;simp[z];refine q4 _ fun X U g=>?_
 rw[S] at g;obtain⟨ao,W,H,j,_⟩:=(h1.frame g.le g.same).app (by_:=1) (x:=X) (xs:=dB o.e.toNat) g.contents (by simp[bR]) F F (by rw[D];omega);have R:U[l.length]?=some (.q 11 (au o)):=by rw[g.same _ Q];exact v
 have cm:W[l.length]?=some (.q 11 (au o)):=by rw[j.same _ t];exact m
 have B:=R;have C:=cm;simp[au] at B C;simp[B,H];refine b2.bq ?_;simp[C];refine q4 _ fun Y aj h=>?_
 rw[T] at h;obtain⟨ap,ak,I,J,_⟩:=(j.frame h.le h.same).app (by_:=1) (x:=Y) (xs:=dB o.s.toNat) h.contents (by simp[bR]) F F (by rw[D];simp only[cr];omega);simp[I];refine b2.bq ?_;simp;exact O _ _ (J.base V fun b P=>aV P)
theorem DD (o:aG) (j:dz o) (h:o.ay.l.length<=1000) :aY 73 [.ah (au o)] (eF (fr (fj o))):=by
 apply bc func73 [];have v:=gD o.e.toNat
 have w:=gD o.s.toNat
 have z:=JG o j h;have m:(fr (fj o)).length=32:=jE _;simp[au];refine VC o j h fun B p h1=>?_
 have g:p[1]?=some (.q 32 (bT 32 (.int .u8 0))):=by rw[h1.same 1 V];rfl
 simp;refine hg (KQ (some (fj o)) (by simp[fj];omega)) (.cons (h1.mV (fun _=>rfl) (some (fj o)) rfl rfl) .nil) (by simp[U.flat,eF,tW a8 (fun _=>rfl)]) ?_;have u:ax (bT 32 (.int .u8 0)) 0 ((fr (fj o)).map a8)=(fr (fj o)).map a8:=cI (by rw[cx,m];rfl);have t:(p.set 1 (am.q 32 ((fr (fj o)).map a8)))[1]?=some (.q 32 ((fr (fj o)).map a8)):=b1 (a2 g);simp[g,eF,m,u,t,aL];exact aT rfl (by simp[U.aw,jo a8 (fun _=>rfl)])
end Op
end Go.bh

/-
  The reference of SHA-256, walked: tail, blocks, written, Of.
-/
import Derived.Test.YtginfboibgolaaaGreatDoorRg
import Derived.LaidMore
import Derived.MakeChecks
import Derived.Lib.DecodeN
set_option linter.unusedVariables false
set_option linter.unusedSimpArgs false
set_option linter.unnecessarySimpa false
namespace Go.bJ
open Go Go.Proofs
set_option maxRecDepth 100000
namespace eX
def qI (k:Nat) :List B:=128#8::List.replicate k 0#8
theorem afN (k:Nat) :qI (k+1)=qI k++[0#8] :=by simp[qI,List.replicate_succ']
theorem TT (k:Nat) :(qI k).length=k+1:=by simp[qI]
set_option maxHeartbeats 8000000 in
theorem agT (n:Nat) (aD:n<=100000000) :nI Tryz.prog GS 120 [.int .i64 n] (bX (some (tail n))) :=by
 have kK:cx=140737488355328:=rfl;refine CQ Tryz.checked.mixed bp ?_;apply bb Tryz.func120 [];obtain⟨m,hm⟩:∃ m,m=(119 - n % 64) % 64:=⟨_,rfl⟩
 simp;refine cE m (fun k ae l=>ae 0=.int .i64 n/\∃ v j,ae 3=v/\cq v=false/\bG 1 l v j ((qI k).map bN)) ?_ ?_
 ·rintro k ae l hk ⟨b9,v,j,aW,ao,aq⟩;obtain⟨ae,rfl⟩:=nA b9 aW;clear b9 aW;have bc:=aq.len;rw[aqS,TT] at bc;obtain⟨bL,Ff⟩:∃ bL,bL=k+1:=⟨_,rfl⟩
  rw[<-Ff] at bc;have jH:IntKind.i64.wrap ((n:Int)+(bL:Int))=(n+bL:Nat) :=wrap_i64 (by omega) (by omega);obtain⟨q,bm⟩:∃ q,q=n+bL:=⟨_,rfl⟩
  rw[<-bm] at jH;have mP:IntKind.i64.wrap ((q:Int)+8)=(q+8:Nat) :=wrap_i64 (by omega) (by omega);obtain⟨Gk,JT⟩:∃ Gk,Gk=q+8:=⟨_,rfl⟩
  rw[<-JT] at mP;have qj:=DN Gk 64 (by omega);rw[show ((64:Int).toNat)=64 from rfl] at qj;obtain⟨x,ag⟩:∃ x,x=Gk % 64:=⟨_,rfl⟩
  rw[<-ag] at qj;simp[bc,jH,mP,qj];by_cases Ca:x=0
  ·have mG:k=m:=by omega
   subst mG;have J7:qI k=mZ n 0:=by unfold qI mZ; rw[<-hm]; simp
   rw[J7] at aq;clear bc jH mP qj;simp[Ca];refine cE 8 (fun k ae l=>ae 0=.int .i64 n/\ae 4=.int .i64 (7 - (k:Int))/\∃ v j,ae 3=v/\cq v=false/\bG 1 l v j ((mZ n k).map bN)) ?_ ?_
   ·rintro k ae l hk ⟨b9,bd,v,j,aW,ao,aq⟩;obtain⟨ae,rfl⟩:=lB b9 aW bd;clear b9 aW bd;obtain⟨c,ah⟩:∃ c:Int,c=7 - (k:Int) :=⟨_,rfl⟩
    rw[<-ah];by_cases hy:0<=c
    ·have y7:k<8:=by omega
     have zq:IntKind.i64.wrap (c - 1)=7 - ((k:Int)+1) :=by rw[wrap_i64 (by omega) (by omega)]; omega
     obtain⟨d,br⟩:∃ d,d=8*c:=⟨_,rfl⟩
     have Kf:IntKind.i64.wrap (8*c)=d:=by rw[wrap_i64 (by omega) (by omega)]; omega
     have Ji:0<=d:=by omega
     have abg:d.toNat=56 - 8*k:=by omega
     have ag:=NQ (BitVec.ofNat 64 n*8#64) k y7;have jG:=GN n k;obtain⟨y,aG⟩:∃ y,y=(((BitVec.ofNat 64 n*8#64) >>> (56 - 8*k)).setWidth 8) :=⟨_,rfl⟩
     rw[<-aG] at ag;have lT:bG 1 (l++[bg.cells 1 [a6 y]]) v j ((mZ n k).map bN) :=aq.more _;obtain⟨a8,cP,l',h1,ad,aj,aC,aZ,bx⟩:=nK (by_:=1) lT (x:=.ar 1 l.length 0 1 1 1) (xs:=[[a6 y]]) (by simp[c8]) (by simp) (by omega) (by omega) (by simp; omega);have ih:cq a8=false:=by rw[u5 bx,ao]; rfl
     have gD:bG 1 l' a8 cP ((mZ n (k+1)).map bN) :=by rw[Vm n k y ag,aqV]; exact ad
     rw[BitVec.mul_comm] at aG;simp only[a6] at h1;simp[hy,Kf,Ji,abg];rw[<-aG];simp[h1];refine dq.cr ?_;simp[zq,y7];exact⟨ih,cP,gD⟩
    ·have et:k=8:=by omega
     subst et;simp[hy];exact aq.CW (fun _=>rfl) (some (tail n)) ao rfl
   ·simp;exact⟨ao,_,aq⟩
  ·have jG:=TT k;have lT:bG 1 (l++[bg.cells 1 [a6 0#8]]) v j ((qI k).map bN) :=aq.more _;obtain⟨a8,cP,l',h1,ad,aj,aC,aZ,bx⟩:=nK (by_:=1) lT (x:=.ar 1 l.length 0 1 1 1) (xs:=[[a6 0#8]]) (by simp[c8]) (by simp) (by omega) (by omega) (by simp; omega);have ih:cq a8=false:=by rw[u5 bx,ao]; rfl
   have gD:bG 1 l' a8 cP ((qI (k+1)).map bN) :=by rw[afN,aqV]; exact ad
   have mG:k<m:=by omega
   simp[a6] at h1;simp[Ca,h1];refine dq.cr ?_;simp[mG];exact⟨ih,cP,gD⟩
 ·simp;exact⟨rfl,0,.ar 0 1 1 1 [.int .u8 128] _ rfl rfl rfl (by intro e ap; simp[qI] at ap; subst ap; rfl) (aqv _) (aqv _) rfl⟩
set_option maxHeartbeats 8000000 in
theorem agM (h:c0) (b:List B) (af:b.length<=100000000) :bi Tryz.prog GS 118 [.aI (h.l.map bq),bX (some b)] (.aI ((g0 h b).1.l.map bq)) :=by
 refine bt Tryz.checked.mixed bp ?_;apply bb Tryz.func118 [];have FA:∀ A:List U,A.length=8->A.take 8=A:=fun A cT=>aqs (by omega)
 have Rs:∀ s:c0,(s.l.map bq).length=8:=fun s=>rfl
 obtain⟨G8,Bk⟩:∃ G8,G8=h.l.map bq:=⟨_,rfl⟩
 have Z6:G8.length=8:=by rw[Bk]; rfl
 rw[<-Bk];simp[Z6];refine cE (b.length / 64) (fun k ae l=>ae 1=bX (some b)/\ae 2=.ptr 0 0 8/\ae 4=.ptr 1 0 8/\ae 5=.int .i64 (64*k:Nat)/\∃ s gJ,g0 s (b.drop (64*k))=g0 h b/\l=[.cells 8 (s.l.map bq),.cells 8 gJ]/\gJ.length=8) ?_ ?_
 ·rintro k ae l hk ⟨aF,aQ,bd,bh,s,gJ,al,rfl,i2⟩;obtain⟨ae,rfl⟩:=iq aF aQ bd bh;clear aF aQ bd bh;obtain⟨a,az⟩:∃ a,a=64*k:=⟨_,rfl⟩
  rw[<-az] at al ⊢;obtain⟨a7,I9⟩:∃ a7,a7=64*(k+1) :=⟨_,rfl⟩
  rw[<-I9];obtain⟨A,cT⟩:∃ A,A=s.l.map bq:=⟨_,rfl⟩
  have j7:A.length=8:=by rw[cT]; rfl
  rw[<-cT];have hw:IntKind.i64.wrap ((a:Int)+64)=a7:=by rw[wrap_i64 (by omega) (by omega)]; omega
  by_cases eu:a7<=b.length
  ·have BP:(a7:Int)<=b.length:=by omega
   have eV:gb (.ar 1) (bX (some b)) (some (.int .i64 (a:Int))) (some (.int .i64 (a7:Int))) none=some (bX (some ((b.drop a).take 64))) :=by
    unfold bX; rw[ahK (by omega) (by omega) (by omega)];have:(a7:Int).toNat - (a:Int).toNat=64:=by omega
    rw[this,arG]
   have fV:64<=((b.drop a).take 64).length:=by simp; omega
   have wP:=Z0 s _ fV;have o9:grind s ((b.drop a).take 64)=grind s (((b.drop a).take 64)) :=rfl;rw[<-cT] at wP;have b4:g0 (grind s ((b.drop a).take 64)) (b.drop a7)=g0 h b:=by
    rw[<-al,AD s (b.drop a) (by simp; omega),as2];congr 2; omega
   have gv:k<b.length / 64:=by omega
   have yQ:aV A=true:=by rw[cT]; exact kZ bq (fun _=>rfl) _
   obtain⟨G7,IM⟩:∃ G7,G7=(grind s ((b.drop a).take 64)).l.map bq:=⟨_,rfl⟩
   have aad:G7.length=8:=by rw[IM]; rfl
   rw[<-IM] at wP;simp[hw,eu,BP,j7,FA A j7,eV];refine aU wP (by simp[aV,U.closed,yQ,hW]) ?_;simp[mY,j7,aad,hw,gv];exact⟨_,b4,gJ,⟨IM,rfl⟩,i2⟩
  ·have BP:¬(a7:Int)<=b.length:=by omega
   have ap:=al;rw[DM s (b.drop a) (by simp; omega)] at ap;rw[<-ap];have yQ:aV A=true:=by rw[cT]; exact kZ bq (fun _=>rfl) _
   simp[hw,eu,BP,j7,FA A j7,mY,i2];exact aH (by rw[cT]) (by rw[cT] at yQ; simp[U.closed,yQ])
 ·exact⟨rfl,rfl,rfl,rfl,h,rep 8 (.int .u32 0),rfl,by rw[Bk]; rfl,rfl⟩
def rM (s:c0) (k:Nat) :List B:=(written s).take k++List.replicate (32 - k) 0#8
theorem afD (s:c0) (k:Nat) (hk:k<=32) :(rM s k).length=32:=by
 unfold rM;have:=G2 s;simp; omega
theorem afE (s:c0) (k:Nat) (x:B) (ag:(written s)[k]? = some x) :(rM s k).set k x=rM s (k+1) :=by
 have hk:k<32:=(aqr.1 ag).1;unfold rM;have ak:(List.take k (written s)).length=k:=by have:=G2 s; simp; omega
 rw[aq9 _ _ (by omega),ak,ass,aqN,ag,show 32 - k=(32 - (k+1))+1 by omega,arq,asm];simp
theorem ajI (s:c0) (k:Nat) (hk:k<32) :∃ w,s.l[k / 4]? = some w/\(written s)[k]? = some ((w >>> (24 - 8*(k % 4))).setWidth 8) :=by
 have aE:∀ w:W,w=w >>> 0:=fun w=>by simp
 obtain⟨a,b,c,d,e,f,g,h⟩:=s;have:∀ (l:List W) (k:Nat),k<4*l.length->∃ w,l[k / 4]? = some w/\(l.map tO).flatten[k]? = some ((w >>> (24 - 8*(k % 4))).setWidth 8) :=by
  intro l
  induction l with
  | nil=>intro k hk; simp at hk
  | cons w l aJ=>
   intro k hk
   match k,hk with
   | 0,_=>exact⟨w,rfl,rfl⟩
   | 1,_=>exact⟨w,rfl,rfl⟩
   | 2,_=>exact⟨w,rfl,rfl⟩
   | 3,_=>refine⟨w,rfl,?_⟩; simp[tO]
   | k+4,hk=>
    obtain⟨y,h1,ad⟩:=aJ k (by simp at hk; omega);refine⟨y,?_,?_⟩
    ·rw[show (k+4) / 4=k / 4+1 by omega]; exact h1
    ·rw[show (k+4) % 4=k % 4 by omega]; exact ad
 exact this _ k (by simpa [c0.l] using hk)
set_option maxHeartbeats 8000000 in
theorem agV (s:c0) :bi Tryz.prog GS 117 [.aI (s.l.map bq)] (fJ (written s)) :=by
 refine bt Tryz.checked.mixed bp ?_;apply bb Tryz.func117 [];obtain⟨A,cT⟩:∃ A,A=s.l.map bq:=⟨_,rfl⟩
 have j7:A.length=8:=by rw[cT]; rfl
 rw[<-cT];simp[j7];refine cE 32 (fun k ae l=>ae 1=.ptr 0 0 8/\ae 2=.ptr 1 0 32/\ae 3=.ptr 2 0 32/\ae 4=.int .i64 k/\∃ gJ,l=[.cells 8 A,.cells 32 gJ,.cells 32 ((rM s k).map a6)]/\gJ.length=32) ?_ ?_
 ·rintro k ae l hk ⟨aF,aQ,aW,bd,gJ,rfl,i2⟩;obtain⟨ae,rfl⟩:=iq aF aQ aW bd;clear aF aQ aW bd;by_cases Jw:(k:Int)<32
  ·have gv:k<32:=by omega
   have eQ:IntKind.i64.wrap ((k:Int)+1)=(k+1:Nat) :=wrap_i64 (by omega) (by omega);have JU:=HP k 4 (by omega) (by omega);have qj:=DN k 4 (by omega);rw[show ((4:Int).toNat)=4 from rfl] at JU qj;obtain⟨w,hw,ag⟩:=ajI s k gv;obtain⟨q,bm⟩:∃ q,q=k / 4:=⟨_,rfl⟩
   obtain⟨r,ay⟩:∃ r,r=k % 4:=⟨_,rfl⟩
   rw[<-bm] at JU hw;rw[<-ay] at qj ag;have JT:q<8:=by omega
   obtain⟨xL,Se⟩:∃ xL,xL=8*r:=⟨_,rfl⟩
   have Kf:IntKind.i64.wrap (8*(r:Int))=xL:=by rw[wrap_i64 (by omega) (by omega)]; omega
   obtain⟨Gl,acN⟩:∃ Gl,Gl=24 - xL:=⟨_,rfl⟩
   have adg:IntKind.i64.wrap (24 - (xL:Int))=Gl:=by rw[wrap_i64 (by omega) (by omega)]; omega
   have lj:=afE s k _ ag;rw[<-Se,<-acN] at ag lj;have ds:=afD s k (by omega);have qn:=ny a6 (rM s k) k ((w >>> Gl).setWidth 8) (by rw[ds]; exact gv);rw[lj] at qn;obtain⟨O,fh⟩:∃ O,O=(rM s k).map a6:=⟨_,rfl⟩
   have rg:O.length=32:=by rw[fh,aqS,ds]
   rw[<-fh] at qn ⊢;have aae:A[q]? = some (bq w) :=by rw[cT,aqx,hw]; rfl
   obtain⟨aac,aaf⟩:=aqr.1 aae;have acK:q<=7:=by omega
   have abU:k<=31:=by omega
   have acL:(q:Int)<8:=by omega
   simp[Jw,gv,eQ,JU,qj,Kf,adg,j7,JT,aaf,rg,qn,i2,acK,abU,acL]
  ·have et:k=32:=by omega
   subst et;have aq:rM s 32=written s:=by unfold rM; rw[aqs (by rw[G2]; omega)]; simp
   rw[aq];obtain⟨O,fh⟩:∃ O,O=(written s).map a6:=⟨_,rfl⟩
   have rg:O.length=32:=by rw[fh,aqS,G2]
   have aaw:aV O=true:=by rw[fh]; exact kZ a6 (fun _=>rfl) _
   have aP:O.take 32=O:=aqs (by omega);unfold fJ;rw[<-fh];simp[rg,aP,mY,i2];exact aH rfl (by simp[U.closed,aaw])
 ·refine⟨rfl,rfl,rfl,rfl,_,rfl,rfl⟩
set_option maxHeartbeats 8000000 in
theorem UC (s:dD) (al:s.l.length<=1000000) :bi Tryz.prog GS 74 [bX s] (fJ (ia s.l)) :=by
 have kK:cx=140737488355328:=rfl;refine bt Tryz.checked.mixed bp ?_;apply bb Tryz.func74 [];simp;refine aU Zt rfl ?_;have afs:bG 1 ([bg.cells 32 (rep 32 (U.int IntKind.u8 0))]++[bg.cells 0 []]) (.ar 1 1 0 0 0 0) 1 [] :=.ar 1 0 0 0 [] _ rfl rfl rfl (by simp) (aqv _) (aqv _) rfl;obtain⟨v,j,r,h1,ad,aj,aC⟩:=yk (by_:=1) afs (.inr (aqv _)) (x:=bX s) (xs:=s.l.map bN) (by unfold bX; rw[wi,aqS]) (by intro e ap; obtain⟨x,_,rfl⟩:=aqR.1 ap; rfl) (by omega) (by omega) (by rw[kK]; simp; omega);have ao:cq v=false:=by rw[aC]; rfl
 simp only[aru,asS] at h1 ad;have bc:cL (.ar 1) (bX s)=some (.int .i64 s.l.length) :=nt _;have jG:=agT s.l.length (by omega);have Sp:(tail s.l.length).length<=80:=by rw[<-Mi]; exact GN _ _
 obtain⟨a8,cP,cC,bL,bz,cO,dn⟩:=yk (by_:=1) (pre:=[bg.cells 32 (rep 32 (U.int IntKind.u8 0))]) ad aj (x:=bX (some (tail s.l.length))) (xs:=(tail s.l.length).map bN) (by unfold bX; rw[wi,aqS]; rfl) (by intro e ap; obtain⟨x,_,rfl⟩:=aqR.1 ap; rfl) (by omega) (by omega) (by rw[kK]; simp; omega);have ih:cq a8=false:=by rw[dn,ao]; rfl
 rw[<-aqV] at bz;simp only[asS] at bL bz;have iF:=bz.mT (fun _=>rfl) (some (s.l++tail s.l.length)) ih rfl;have fV:=agM first (s.l++tail s.l.length) (by simp; omega)
 have B9:=agV (g0 first (s.l++tail s.l.length)).1;have od:ia s.l=written (g0 first (s.l++tail s.l.length)).1:=rfl;rw[<-od] at B9;obtain⟨F,wz⟩:∃ F,F=(g0 first (s.l++tail s.l.length)).1:=⟨_,rfl⟩
 rw[<-wz] at fV B9;simp[h1];refine dq.cr ?_;simp[bc];refine aU jG.GQ rfl ?_;simp[bL];refine dq.cr ?_;simp;refine il fV (.cons (.same _ ?_) (.cons iF .nil)) (PQ bq (fun _=>rfl) _) ?_
 ·simp[U.closed,kZ bq (fun _=>rfl)]
 simp;refine aU B9 ?_ ?_
 ·simp[aV,U.closed,kZ bq (fun _=>rfl)]
 have eV:=vH s.l;simp[fJ,eV,mY,aqs];exact aH rfl (by simp[U.closed,kZ a6 (fun _=>rfl)])
end eX

end Go.bJ

namespace Go.bJ
open Go Go.Proofs Go.RowKit
set_option maxRecDepth 100000
open eX
theorem Mq {e:TypeId} (aK:Tryz.prog.underlying e=some (.int .u8)) :∀ (n:Nat) {ts:List TypeId} {cs:List U},cG Tryz.prog (List.replicate n e++ts) cs->∃ (x:List B) (cs' : List U),cs=x.map a6++cs'/\x.length=n/\cG Tryz.prog ts cs'
 | 0,ts,cs,h=>⟨[],cs,rfl,rfl,h⟩
 | n+1,ts,cs,h=>by
  obtain⟨k,sA,rfl,h1,ad,aj⟩:=vM aK h;obtain⟨x,hq,rfl,ag,aC⟩:=Mq aK n aj;have aZ:(0:Int)<=k:=h1;have bx:k<=255:=ad;refine⟨BitVec.ofNat 8 k.toNat::x,hq,?_,by simp[ag],aC⟩;have:((BitVec.ofNat 8 k.toNat).toNat:Int)=k:=by
   rw[aqK,aqC (by omega)]; omega
  simp[a6,u]; omega
theorem GR {ts:List TypeId} {cs:List U} (h:cG Tryz.prog (23::ts) cs) :∃ (x:BitVec 64) (cs' : List U),cs=cD x::cs'/\cG Tryz.prog ts cs':=by
 obtain⟨k,sA,rfl,h1,ad,aj⟩:=vM (k:=.u64) (by kernel_rfl) h;have aZ:(0:Int)<=k:=h1;have bx:k<=18446744073709551615:=ad;refine⟨BitVec.ofNat 64 k.toNat,sA,?_,aj⟩;have:((BitVec.ofNat 64 k.toNat).toNat:Int)=k:=by
  rw[aqK,aqC (by omega)]; omega
 simp[cD,u]; omega
def KD:List Int:=eX.bE.map fun k=>(k.toNat:Int)
theorem aip:Ab=KD.map fun k=>.int .u32 k:=by unfold Ab KD; rw[asv]; rfl
theorem aem {W:World} (h:laidMetH Tryz.prog [("braid/digest.constants",Go.Proofs.YtginfboibgolaaaGreatDoor.Rows.laid_braid_digest_constants)] W) :∀ g,e3 W (fun _=>True) (GS g) (.pointer (some ⟨g,0,none⟩)) :=by
 intro g;unfold GS;split
 ·rename_i af;have:=arl af;subst this;rw[MakeChecks.laidMetH_plain _ _ _ (by kernel_rfl)] at h;obtain⟨ck,⟨b9,t0,m5,f0,gp,eO,aby,J7,ii,Ji,_,_⟩,_,_⟩:=h;have aR:Tryz.prog.globalNamed "braid/digest.constants"=some 1:=by kernel_rfl
  have bI:(Tryz.prog.globals[1]?).map (·.type)=some 352:=by kernel_rfl
  obtain rfl:=Option.some.inj (aR.symm.trans aby);obtain rfl:=Option.some.inj (bI.symm.trans J7);rw[aip];exact ZN KD aR ii (n:=64) (e:=45) (by kernel_rfl) (by kernel_rfl) (by kernel_rfl) Ji (by rfl)
 ·exact .bad _
end Go.bJ

namespace Go.bJ
open Go Go.Proofs
set_option maxRecDepth 100000
open eX
def Nz:U->Option B
 | .int .u8 (.ofNat n)=>match Nat.ble n 255 with | true=>some (BitVec.ofNat 8 n) | false=>none
 | _=>none
def NM:List U->Option (List B)
 | []=>some []
 | c::r=>match Nz c with
  | some b=>match NM r with | some l=>some (b::l) | none=>none
  | none=>none
def lm:U->Option (List B)
 | .aI cs=>match NM cs with | some l=>(match Nat.beq l.length 32 with | true=>some l | false=>none) | none=>none
 | _=>none
def UO:List (List U)->Option (List B)
 | []=>some []
 | [c] ::r=>match Nz c with
  | some b=>match UO r with | some l=>some (b::l) | none=>none
  | none=>none
 | _=>none
def XF:U->Option dD
 | .aX=>some none
 | .b0 1 es=>match UO es with | some l=>some (some l) | none=>none
 | _=>none
def aig:List U->Option U
 | [c]=>match XF c with
  | some s=>match Nat.ble s.l.length 10000 with | true=>some (.bu [fJ (ia s.l),.int .i64 0]) | false=>none
  | none=>none
 | _=>none
abbrev l4:FuncId × Bool × (List U->Option U) :=(145,false,aig)
end Go.bJ

namespace Go.bJ
open Go Go.Proofs Go.Sort Go.Shelf
set_option maxRecDepth 100000
open eX
def cd:List B->List B->Int
 | [],[]=>0
 | [],_::_=>-1
 | _::_,[]=>1
 | a::lA,b::js=>if a.toNat<b.toNat then -1 else if b.toNat<a.toNat then 1 else cd lA js
theorem O5 (a b:B) (lA js:List B) :cd (a::lA) (b::js)=if a.toNat<b.toNat then -1 else if b.toNat<a.toNat then 1 else cd lA js:=rfl
theorem sy:∀ a:List B,cd a a=0
 | []=>rfl
 | a::lA=>by unfold cd; simp; exact sy lA
theorem D0:∀ {a b:List B},cd a b=0->a=b
 | [],[],_=>rfl
 | [],_::_,h=>by simp[cd] at h
 | _::_,[],h=>by simp[cd] at h
 | a::lA,b::js,h=>by
  unfold cd at h;split at h
  ·cases h
  ·split at h
   ·cases h
   ·have h1:a=b:=aqE (by omega);rw[h1,D0 h]
theorem D1:∀ a b:List B,cd b a=- cd a b
 | [],[]=>rfl
 | [],_::_=>rfl
 | _::_,[]=>rfl
 | a::lA,b::js=>by
  unfold cd;by_cases h1:a.toNat<b.toNat
  ·simp[h1,show ¬ b.toNat<a.toNat by omega]
  ·by_cases ad:b.toNat<a.toNat
   ·simp[h1,ad]
   ·simp[h1,ad]; exact D1 lA js
theorem O4:∀ a b:List B,cd a b=-1\/cd a b=0\/cd a b=1
 | [],[]=>by simp[cd]
 | [],_::_=>by simp[cd]
 | _::_,[]=>by simp[cd]
 | a::lA,b::js=>by
  unfold cd;split
  ·simp
  ·split
   ·simp
   ·exact O4 lA js
theorem AW:∀ a b c:List B,cd a b<0->cd b c<0->cd a c<0
 | [],[],_,h,_=>by simp[cd] at h
 | [],_::_,[],_,h=>by simp[cd] at h
 | [],_::_,_::_,_,_=>by simp[cd]
 | _::_,[],_,h,_=>by simp[cd] at h
 | _::_,_::_,[],_,h=>by simp[cd] at h
 | a::lA,b::js,c::agF,h1,ad=>by
  unfold cd at h1 ad ⊢;have aJ:=AW lA js agF
  repeat' split at h1
  all_goals repeat' split at ad
  all_goals repeat' split
  all_goals first | omega | (exact aJ h1 ad) | (exfalso; omega) | skip
def FS (a b:List B) :Bool:=ltOf cd a b
theorem Yf {a b:List B} (k:Nat) (h:∀ j,j<k->a[j]? = b[j]?) (az:k<=a.length) (af:k<=b.length) :cd (a.drop k) (b.drop k)=cd a b:=by
 induction k with
 | zero=>simp
 | succ k aJ=>
  rw[<-aJ (fun j ai=>h j (by omega)) (by omega) (by omega)];have h1:=h k (by omega);rw[arm (l:=a) (i:=k) (by omega),arm (l:=b) (i:=k) (by omega)];rw[aqu (by omega),aqu (by omega)] at h1;have ad:=Option.some.inj h1
  conv=>rhs; unfold cd
  rw[ad];simp
end Go.bJ

namespace Go.bJ
open Go Go.Proofs
set_option maxRecDepth 100000
namespace Op
open eX
abbrev Q:=BitVec 64
abbrev D:=BitVec 32
theorem Mv:(u (1#64) :Int)=1:=rfl
def eg (x:D) :List U:=[bq x]
def qD (l:List D) :Q:=l.foldl (fun o x=>o*x.setWidth 64 % 1000000007#64) 1#64
theorem ae0 (l:List D) (k:Nat) (x:D) (h:l[k]? = some x) :qD (l.take (k+1))=qD (l.take k)*x.setWidth 64 % 1000000007#64:=by
 rw[aqN,h]; simp[qD,asK]
theorem Gs (x:Q) :b8 .rem .u64 (u x) .u64 1000000007=some (.int .u64 (u (x % 1000000007#64))) :=yo x 1000000007#64 (by decide)
theorem KZ (l:List D) (ak:l.length<=1000) :bi Tryz.prog GS 250 [.int .u64 1000000007,cy 1 eg (some l)] (bq ((qD l).setWidth 32)) :=by
 refine bt Tryz.checked.mixed bp ?_;apply bb Tryz.func250 [];have bc:cL (.ar 1) (cy 1 eg (some l))=some (.int .i64 l.length) :=nt _;simp[bc];refine cE l.length (fun k ae _=>ae 0=.int .u64 1000000007/\ae 5=cD (qD (l.take k))/\ae 8=cy 1 eg (some l)/\ae 9=.int .i64 l.length/\ae 10=.int .i64 k) ?_ (by simp[qD]; rfl);rintro k ae h hk ⟨b9,bh,eS,hb,gP⟩;obtain⟨ae,rfl⟩:=lC b9 bh eS hb gP;clear b9 bh eS hb gP;by_cases h:k<l.length
 ·obtain⟨x,ag,_⟩:=bW h;have cg:cv (.ar 1) (cy 1 eg (some l)) (.int .i64 k)=some (.b5 (eg x) 0) :=by rw[rB]; simp[ag]
  have eQ:IntKind.i64.wrap ((k:Int)+1)=(k+1:Nat) :=wrap_i64 (by omega) (by omega);have al:=ae0 l k x ag;simp[h,cg,eg,eQ,Gs];rw[<-al]
 ·have et:k=l.length:=by omega
  subst et;simp;exact aH rfl rfl
def fb (a n:Nat) :Nat:=a ^ n % 1000000007
theorem xI (a n:Nat) :fb a n<1000000007:=asn _ (by decide)
theorem T6 (a n:Nat) :fb a n*fb a n % 1000000007=fb a (2*n) :=by
 unfold fb; rw[<-asN,<-as4]; congr 2; omega
theorem T4 (a n:Nat) :fb a n*a % 1000000007=fb a (n+1) :=by
 unfold fb; rw[Nat.mod_mul_mod,Nat.pow_succ]
def gy (a:D) (n:Nat) :D:=BitVec.ofNat 32 (fb a.toNat n)
theorem rR (a:D) (n:Nat) :(gy a n).toNat=fb a.toNat n:=by
 have:=xI a.toNat n;unfold gy; rw[aqK]; exact aqC (by omega)
theorem KY (x y:D) (ag:x.toNat<1000000007) :(qD [x,y]).setWidth 32=BitVec.ofNat 32 (x.toNat*y.toNat % 1000000007) :=by
 apply aqE;have aG:=y.isLt;have h1:x.toNat*y.toNat<1000000007*4294967296:=by
  calc x.toNat*y.toNat<=1000000007*y.toNat:=aqz _ (by omega)
   _<1000000007*4294967296:=Nat.mul_lt_mul_of_pos_left (by simpa using aG) (by decide)
 have ad:(1#64*x.setWidth 64 % 1000000007#64).toNat=x.toNat:=by
  rw[BitVec.one_mul,arH,aqF];rw[aqC (show x.toNat<2 ^ 64 by omega),show (1000000007#64).toNat=1000000007 from rfl,aqC ag]
 simp only[qD,atw,List.foldl_nil,aqF,arH,asd,ad,aqK];rw[aqC (show y.toNat<2 ^ 64 by omega),aqC (show x.toNat*y.toNat<2 ^ 64 by omega),aqC (show 1000000007<2 ^ 64 by decide)]
theorem ae1 (a:D) (n:Nat) :(qD [gy a n,gy a n]).setWidth 32=gy a (2*n) :=by
 rw[KY _ _ (by rw[rR]; exact xI _ _),rR,T6]; rfl
theorem mul_one (a:D) (n:Nat) :(qD [gy a n,a]).setWidth 32=gy a (n+1) :=by
 rw[KY _ _ (by rw[rR]; exact xI _ _),rR,T4]; rfl
theorem CV {l:am} {b:Nat} {x y:D} (h:l[b]? = some (.cells 2 [bq x,bq y])) :ft (bK l) (.ar 1 b 0 2 2 2) (cy 1 eg (some [x,y])) :=by
 refine CU (rest:=[]) (es:=[[bq x],[bq y]]) (by simpa using h) rfl (by simp) (by simp[aV,U.closed])
theorem ZA:ht Tryz.prog 269=true:=by kernel_rfl
theorem ah4 {x:D} {l:am} {K:U->am->Prop} (aS:∀ v rest,K v (.cells 1 [bq ((qD [x,x]).setWidth 32)] ::rest)) :c2 Tryz.prog GS 269 [.ptr 0 0 1] (.cells 1 [bq x] ::l) (c:=⟨K⟩) :=by
 apply bb Tryz.func269 [];simp;refine il (KZ [x,x] (by simp)) (.cons (.same _ rfl) (.cons (CV (by simp)) .nil)) rfl ?_;simp;exact aS _ _
theorem QV (n k:Nat) (hk:k<64) :n / 2 ^ (63 - k)=2*(n / 2 ^ (64 - k))+n / 2 ^ (63 - k) % 2:=by
 have:2 ^ (64 - k)=2 ^ (63 - k)*2:=by rw[<-Nat.pow_succ]; congr 1; omega
 rw[this,<-Nat.div_div_eq_div_mul]; omega
theorem Ln (a:D) (n:Q) :bi Tryz.prog GS 247 [bq a,cD n] (bq (gy a n.toNat)) :=by
 refine bt Tryz.checked.mixed bp ?_;apply bb Tryz.func247 [];simp;refine cE 64 (fun k ae l=>ae 0=bq a/\ae 1=cD n/\ae 5=.ptr 0 0 1/\ae 6=.fn 269 [] [.ptr 0 0 1]/\ae 9=.int .i64 k/\∃ r,l=.cells 1 [bq (gy a (n.toNat / 2 ^ (64 - k)))] ::r) ?_ (by
  have:n.toNat / 2 ^ 64=0:=atq n.isLt;simp[this,gy,fb]; rfl)
 rintro k ae l hk ⟨b9,aF,bh,cc,hb,r,rfl⟩;obtain⟨ae,rfl⟩:=lC b9 aF bh cc hb;clear b9 aF bh cc hb;by_cases h:(k:Int)<64
 ·have eQ:IntKind.i64.wrap ((k:Int)+1)=(k+1:Nat) :=wrap_i64 (by omega) (by omega);have xe:IntKind.i64.wrap (63 - (k:Int))=((63 - k:Nat) :Int) :=by rw[wrap_i64 (by omega) (by omega)]; omega
  have af:=QV n.toNat k (by omega);have od:b8 .shr .u64 (u n) .i64 ((63 - k:Nat) :Int)=some (.int .u64 (u (n >>> (63 - k)))) :=sq n .i64 (63 - k);have Z4:64 - (k+1)=63 - k:=by omega
  simp[h,eQ];refine⟨ZA,?_⟩;simp;refine ah4 fun v rest=>?_
  simp[xe,od,ae1];rw[Z4];by_cases aq:n.toNat / 2 ^ (63 - k) % 2=1
  ·have Jg:n >>> (63 - k) &&& 1#64=1#64:=by
    apply aqE;rw[asP,arc,aqO];show _ &&& 1=1;rw[Nat.and_one_is_mod,aq]
   rw[aq] at af;have bm:gy a (2*(n.toNat / 2 ^ (64 - k))+1)=gy a (n.toNat / 2 ^ (63 - k)) :=by rw[<-af]
   simp[Jg,Mv];refine il (KZ [gy a (2*(n.toNat / 2 ^ (64 - k))),a] (by simp)) (.cons (.same _ rfl) (.cons (CV (by simp)) .nil)) rfl ?_;rw[mul_one,bm];simp[eQ];omega
  ·have aq:n.toNat / 2 ^ (63 - k) % 2=0:=by omega
   have Jg:n >>> (63 - k) &&& 1#64=0#64:=by
    apply aqE;rw[asP,arc,aqO];show _ &&& 1=0;rw[Nat.and_one_is_mod,aq]
   rw[aq,asU] at af;simp[Jg,eQ];rw[<-af];exact⟨by omega,rfl⟩
 ·have et:k=64:=by omega
  subst et;simp;exact aH rfl rfl
theorem Ls (a b:Q) (af:b≠0#64) :b8 .quo .u64 (u a) .u64 (u b)=some (.int .u64 (u (a / b))) :=by
 have bH:(b.toNat:Int)≠0:=fun e=>af (aqE (by simpa using e))
 show (if IntKind.u64=IntKind.u64/\(b.toNat:Int)≠0 then some (U.int .u64 (IntKind.u64.wrap ((a.toNat:Int).tdiv b.toNat))) else none)=_;rw[if_pos ⟨rfl,bH⟩,vU];congr 2;have:((a.toNat:Int).tdiv b.toNat)=((a.toNat / b.toNat:Nat) :Int) :=rfl;rw[this,arT];congr 1;apply aqE;rw[aqK,arU];exact aqC (Nat.lt_of_le_of_lt (Nat.div_le_self _ _) a.isLt)
theorem Ug (x:Q) :b8 .quo .u64 (u x) .u64 2=some (.int .u64 (u (x / 2#64))) :=Ls x 2#64 (by decide)
theorem UE (x:Q) :b8 .rem .u64 (u x) .u64 2=some (.int .u64 (u (x % 2#64))) :=yo x 2#64 (by decide)
theorem zI (x y:Q) (ag:x.toNat<4294967296) (aG:y.toNat<4294967296) :(x*y % 1000000007#64).toNat=x.toNat*y.toNat % 1000000007:=by
 have h1:x.toNat*y.toNat<18446744073709551616:=by
  calc x.toNat*y.toNat<=4294967295*y.toNat:=aqz _ (by omega)
   _<=4294967295*4294967295:=Nat.mul_le_mul_left _ (by omega)
   _<18446744073709551616:=by decide
 rw[arH,asd,aqC (show x.toNat*y.toNat<2 ^ 64 by omega)]; rfl
theorem af9 (o b m:Nat) (h:m % 2=1) :o*b % 1000000007*(b*b % 1000000007) ^ (m / 2) % 1000000007=o*b ^ m % 1000000007:=by
 have hm:m=2*(m / 2)+1:=by omega
 rw[asN,Nat.mod_mod,as5 (b*b % 1000000007),Nat.mod_mod,<-as5,<-asN];congr 1;rw[Nat.mul_pow,Nat.mul_assoc,<-as4]
 conv=>rhs; rw[hm,Nat.pow_succ]
 rw[ato b,show 2*(m / 2)=m / 2+m / 2 by omega]
theorem af8 (o b m:Nat) (h:m % 2=0) :o*(b*b % 1000000007) ^ (m / 2) % 1000000007=o*b ^ m % 1000000007:=by
 have hm:m=2*(m / 2) :=by omega
 rw[asN,as5 (b*b % 1000000007),Nat.mod_mod,<-as5,<-asN];congr 1;rw[Nat.mul_pow,<-as4]
 conv=>rhs; rw[hm]
 rw[show 2*(m / 2)=m / 2+m / 2 by omega]
theorem T7 (a n:Q) (az:a.toNat<4294967296) :bi Tryz.prog GS 222 [cD a,cD n,.int .u64 1000000007] (cD (BitVec.ofNat 64 (fb a.toNat n.toNat))) :=by
 refine bt Tryz.checked.mixed bp ?_;apply bb Tryz.func222 [];simp;refine zF (fun m ae _=>∃ o b c:Q,c.toNat=m/\o.toNat<1000000007/\b.toNat<4294967296/\o.toNat*b.toNat ^ m % 1000000007=fb a.toNat n.toNat/\ae 0=cD b/\ae 1=cD c/\ae 2=.int .u64 1000000007/\ae 7=cD o) ?_ n.toNat _ _ ⟨1#64,a,n,rfl,by decide,az,by simp[fb],by simp; rfl⟩;rintro m ae l ⟨o,b,c,ah,aq,af,aB,b9,aF,aQ,eR⟩;obtain⟨ae,rfl⟩:=iq b9 aF aQ eR;clear b9 aF aQ eR;have ke:(u c:Int)=(m:Int) :=by unfold u; rw[ah]
 by_cases hm:m=0
 ·subst hm;have aE:c=0#64:=aqE (by simpa using ah);simp[aE];refine aH ?_ rfl;rw[Nat.pow_zero,arS,aqC aq] at aB;rw[<-aB,BitVec.ofNat_toNat,BitVec.setWidth_eq]
 ·have yW:c≠0#64:=fun e=>hm (by rw[<-ah,e]; rfl)
  have aL:(0:Int)<u c:=by rw[ke]; omega
  have Rt:(c / 2#64).toNat=m / 2:=by rw[arU,ah]; rfl
  have RS:(c % 2#64).toNat=m % 2:=by rw[arH,ah]; rfl
  have bO:(b*b % 1000000007#64).toNat<4294967296:=by
   rw[zI b b af af]; have:=asn (b.toNat*b.toNat) (show 1000000007 > 0 by decide); omega
  by_cases R3:m % 2=1
  ·have h1:c % 2#64=1#64:=aqE (by rw[RS,R3]; rfl);simp[aL,Gs,Ug,UE,h1,Mv];have ed:o.toNat<4294967296:=by omega
   refine⟨m / 2,by omega,_,_,_,Rt,?_,bO,?_,rfl,rfl,rfl⟩
   ·rw[zI o b ed af]; exact asn _ (by decide)
   ·rw[zI o b ed af,zI b b af af,af9 _ _ _ R3,aB]
  ·have h1:c % 2#64=0#64:=aqE (by rw[RS]; simp; omega);simp[aL,Gs,Ug,UE,h1,Mv];refine⟨m / 2,by omega,_,_,_,Rt,aq,bO,?_,rfl,rfl,rfl⟩;rw[zI b b af af,af8 _ _ _ (by omega),aB]
def fK (a:D) :Bool:=decide (0<a.toNat)&&decide (a.toNat<1000000007)&&decide (fb a.toNat 500000003=1)
theorem Kt (a:D) :bi Tryz.prog GS 206 [bq a] (.bool (fK a)) :=by
 refine bt Tryz.checked.mixed bp ?_;apply bb Tryz.func206 [];unfold fK;have h1:((0:Int)<u a)<->0<a.toNat:=by unfold u; omega
 have ad:(u a<(1000000007:Int))<->a.toNat<1000000007:=by unfold u; omega
 by_cases aF:0<a.toNat
 ·by_cases aQ:a.toNat<1000000007
  ·simp[h1,ad,aF,aQ];refine aU (Ln a 500000003#64) rfl ?_;have aj:(u (gy a 500000003)=(1:Int))<->fb a.toNat 500000003=1:=by unfold u; rw[rR]; omega
   have aC:(500000003#64:Q).toNat=500000003:=rfl;rw[aC];simp[aj];exact aH (by simp[aF,aQ]) rfl
  ·simp[h1,ad,aF,aQ];exact aH rfl rfl
 ·simp[h1,aF];exact aH rfl rfl
theorem UB (a:D) :bi Tryz.prog GS 165 [bq a] (.bool (fK a)) :=by
 refine bt Tryz.checked.mixed bp ?_;apply bb Tryz.func165 [];unfold fK;have h1:((1:Int)<=u a)<->0<a.toNat:=by unfold u; omega
 have ad:(u a<(1000000007:Int))<->a.toNat<1000000007:=by unfold u; omega
 by_cases aF:0<a.toNat
 ·by_cases aQ:a.toNat<1000000007
  ·simp[h1,ad,aF,aQ];refine aU (T7 (a.setWidth 64) 500000003#64 (by rw[aqF]; omega)) rfl ?_;have aZ:(a.setWidth 64:Q).toNat=a.toNat:=by rw[aqF]; omega
   have aC:(500000003#64:Q).toNat=500000003:=rfl;have bx:=xI a.toNat 500000003;have aj:(u (BitVec.ofNat 64 (fb a.toNat 500000003))=(1:Int))<->fb a.toNat 500000003=1:=by unfold u; rw[aqK,aqC (by omega)]; omega
   rw[aC,aZ];simp[aj];exact aH (by simp[aF,aQ]) rfl
  ·simp[h1,ad,aF,aQ];exact aH rfl rfl
 ·simp[h1,aF];exact aH rfl rfl
def iy (a:D) :Bool:=decide (a.toNat<500000003)
theorem Ee (a:D) :bi Tryz.prog GS 166 [bq a] (.bool (iy a)) :=by
 refine bt Tryz.checked.mixed bp ?_;apply bb Tryz.func166 [];unfold iy;have ad:(u (a.setWidth 64)<(500000003:Int))<->a.toNat<500000003:=by unfold u; rw[aqF]; omega
 simp[ad];exact aH rfl rfl
@[simp] theorem akP (a b:List UInt8) :oR .eql a b=some (.bool (decide (a=b))) :=by
 by_cases h:a=b<;>simp[oR,h]
@[simp] theorem akS (a b:List UInt8) :oR .neq a b=some (.bool (!decide (a=b))) :=by
 by_cases h:a=b<;>simp[oR,h]
abbrev m6 (s:List UInt8) (pos:Nat) :Nat × Nat:=Utf8.decode ⟨s.toArray⟩ pos
theorem Qg (s:List UInt8) (pos:Nat) (b:UInt8) (h:s[pos]? = some b) :(ByteArray.get! ⟨s.toArray⟩ pos)=b:=by
 show (s.toArray)[pos]! = b;obtain⟨h1,ad⟩:=aqr.1 h;simp[h1,ad]
theorem Yy {s:List UInt8} {pos:Nat} {b:UInt8} (h:s[pos]? = some b) (af:b.toNat<128) :m6 s pos=(b.toNat,1) :=by
 unfold m6;rw[Lib.decode_at,Qg s pos b h];unfold Lib.decodeN;rw[if_pos af]
theorem Yx {s:List UInt8} {pos:Nat} {b:UInt8} (h:s[pos]? = some b) (af:128<=b.toNat) :128<=(m6 s pos).1:=by
 unfold m6;rw[Lib.decode_at,Qg s pos b h];unfold Lib.decodeN;rw[if_neg (by omega)]
 repeat' split
 all_goals (simp only; omega)
theorem Pp (s:List UInt8) (pos:Nat) :1<=(m6 s pos).2:=by
 unfold m6;rw[Lib.decode_at];unfold Lib.decodeN
 repeat' split
 all_goals simp only<;>omega
def kk (p:Nat->Bool) (s:List UInt8) :Nat->Nat->Int
 | 0,_=>-1
 | n+1,pos=>if pos<s.length then (if p (m6 s pos).1 then (pos:Int) else kk p s n (pos+(m6 s pos).2)) else -1
theorem Kx (p:Nat->Bool) (s:List UInt8) :∀ (n pos:Nat),s.length - pos<=n->kk p s n pos=kk p s (s.length - pos) pos
 | 0,pos,h=>by rw[show s.length - pos=0 by omega]
 | n+1,pos,h=>by
  by_cases aB:pos<s.length
  ·have hw:=Pp s pos;rw[show s.length - pos=(s.length - pos - 1)+1 by omega];unfold kk;rw[if_pos aB,if_pos aB,Kx p s n _ (by omega),Kx p s (s.length - pos - 1) _ (by omega)]
  ·rw[show s.length - pos=0 by omega];unfold kk;rw[if_neg aB]
def mj (cB r:Nat) :Bool:=decide (r<cB)||decide (126<r)
def gT (cB:Nat) (b:UInt8) :Bool:=decide (cB<=b.toNat)&&decide (b.toNat<=126)
theorem Kw (cB:Nat) (dL:cB<=128) (s:List UInt8) :∀ (n pos:Nat),s.length - pos<=n->(kk (mj cB) s n pos<0<->(s.drop pos).all (gT cB)=true)
 | 0,pos,h=>by
  rw[aq7 (by omega)];simp[kk]
 | n+1,pos,h=>by
  unfold kk;by_cases aB:pos<s.length
  ·rw[if_pos aB,arm aB,atD];have eM:s[pos]? = some s[pos] :=aqu aB;obtain⟨b,af⟩:∃ b,b=s[pos] :=⟨_,rfl⟩
   rw[<-af] at eM ⊢;by_cases al:b.toNat<128
   ·rw[Yy eM al];simp only;have dN:gT cB b=!mj cB b.toNat:=by
     unfold gT mj;by_cases h1:b.toNat<cB<;>by_cases ad:126<b.toNat<;>simp[h1,ad]<;>omega
    cases p2:mj cB b.toNat with
    | true=>rw[dN,p2]; simp
    | false=>
     rw[dN,p2];simp only[arM,if_false,Bool.not_false,art];exact Kw cB dL s n (pos+1) (by omega)
   ·have au:=Yx eM (by omega);have p2:mj cB (m6 s pos).1=true:=by unfold mj; simp; omega
    have dN:gT cB b=false:=by unfold gT; simp; omega
    rw[p2,dN]; simp
  ·rw[if_neg aB,aq7 (by omega)];simp
theorem afa {s:List UInt8} {pos:Nat} {r:am} (h:pos<s.length) :tn (.iter s pos::r) (.it 0)=some (.bu [.bool true,.int .i64 pos,.int .i32 (m6 s pos).1],.iter s (pos+(m6 s pos).2) ::r) :=by
 unfold tn;simp only[aqQ];rw[show Nat.blt pos s.length=true from Nat.ble_eq_true_of_le h];rfl
theorem ae9 {s:List UInt8} {pos:Nat} {r:am} (h:¬ pos<s.length) :tn (.iter s pos::r) (.it 0)=some (.bu [.bool false],.iter s pos::r) :=by
 unfold tn;simp only[aqQ];rw[show Nat.blt pos s.length=false by cases af:Nat.blt pos s.length with | false=>rfl | true=>exact absurd (asa af) h]
theorem adv {g:FuncId} {p:Nat->Bool} (au:ht Tryz.prog g=true) (aB:∀ r:Nat,bi Tryz.prog GS g [.int .i32 r] (.bool (p r))) (s:List UInt8) :
  bi Tryz.prog GS 228 [.str s,.fn g [] [],.bool true] (.int .i64 (kk p s s.length 0)) :=by
 refine bt Tryz.checked.mixed bp ?_;apply bb Tryz.func228 [];simp[zV];refine zF (fun m ae l=>∃ pos,s.length - pos=m/\kk p s m pos=kk p s s.length 0/\ae 1=.fn g [] []/\ae 2=.bool true/\ae 10=.it 0/\l=[.iter s pos]) ?_ s.length _ _ ⟨0,by simp⟩;rintro m ae l ⟨pos,hm,ax,aF,aQ,gP,rfl⟩;obtain⟨ae,rfl⟩:=lB aF aQ gP;clear aF aQ gP;by_cases h:pos<s.length
 ·have fQ:m=(m - 1)+1:=by omega
  have hw:=Pp s pos;obtain⟨R,hK⟩:∃ R,R=kk p s s.length 0:=⟨_,rfl⟩
  rw[<-hK] at ax ⊢;rw[fQ] at ax;unfold kk at ax;rw[if_pos h] at ax;simp[afa h];refine⟨au,aU (aB _) rfl ?_⟩;cases af:p (m6 s pos).1 with
  | true=>
   rw[af] at ax;simp;exact aH (by rw[<-ax]; simp) rfl
  | false=>
   rw[af] at ax;simp;refine⟨s.length - (pos+(m6 s pos).2),by omega,pos+(m6 s pos).2,rfl,?_,by simp,by simp,by simp,by simp⟩;rw[<-ax];simp only[arM,if_false];rw[Kx p s (m - 1) _ (by omega)]
 ·have lf:m=0:=by omega
  subst lf;simp[ae9 h];exact aH (by rw[<-ax]; rfl) rfl
theorem Vh {g:FuncId} {p:Nat->Bool} (au:ht Tryz.prog g=true) (aB:∀ r:Nat,bi Tryz.prog GS g [.int .i32 r] (.bool (p r))) (s:List UInt8) :
  bi Tryz.prog GS 175 [.str s,.fn g [] []] (.int .i64 (kk p s s.length 0)) :=by
 refine bt Tryz.checked.mixed bp ?_;apply bb Tryz.func175 [];simp;refine aU (adv au aB s) rfl ?_;simp;exact aH rfl rfl
theorem ad5 (r:Nat) :bi Tryz.prog GS 176 [.int .i32 r] (.bool (mj 33 r)) :=by
 refine bt Tryz.checked.mixed bp ?_;apply bb Tryz.func176 [];unfold mj;have h1:((r:Int)<33)<->r<33:=by omega
 have ad:((126:Int)<r)<->126<r:=by omega
 by_cases h:r<33
 ·simp[h1,h];exact aH rfl rfl
 ·simp[h1,h,ad];exact aH rfl rfl
theorem ait (r:Nat) :bi Tryz.prog GS 230 [.int .i32 r] (.bool (mj 32 r)) :=by
 refine bt Tryz.checked.mixed bp ?_;apply bb Tryz.func230 [];unfold mj;have h1:((r:Int)<32)<->r<32:=by omega
 have ad:((126:Int)<r)<->126<r:=by omega
 by_cases h:r<32
 ·simp[h1,h];exact aH rfl rfl
 ·simp[h1,h,ad];exact aH rfl rfl
theorem Zx:ht Tryz.prog 176=true:=by kernel_rfl
theorem ZB:ht Tryz.prog 230=true:=by kernel_rfl
def fE (s:List UInt8) :Bool:=decide (1<=s.length)&&decide (s.length<=20)&&s.all (gT 33)
theorem KG (s:List UInt8) :bi Tryz.prog GS 122 [.str s] (.bool (fE s)) :=by
 refine bt Tryz.checked.mixed bp ?_;apply bb Tryz.func122 [];unfold fE;have h1:((1:Int)<=s.length)<->1<=s.length:=by omega
 have ad:((s.length:Int)<=20)<->s.length<=20:=by omega
 by_cases aF:1<=s.length
 ·by_cases aQ:s.length<=20
  ·simp[h1,ad,aF,aQ];refine aU (Vh Zx ad5 s) rfl ?_;have:=Kw 33 (by omega) s s.length 0 (by omega);rw[ary] at this;have aj:decide (kk (mj 33) s s.length 0<0)=s.all (gT 33) :=by
    cases af:s.all (gT 33) with
    | true=>simpa using this.2 af
    | false=>
     have:¬ kk (mj 33) s s.length 0<0:=fun h=>by rw[this.1 h] at af; cases af
     simpa using this
   simp;rw[aj];exact aH (by simp[aF,aQ]) rfl
  ·simp[h1,ad,aF,aQ];exact aH (by simp[aF,aQ]) rfl
 ·simp[h1,aF];exact aH (by simp[aF]) rfl
theorem Nf {s:List UInt8} {p:UInt8->Bool} {k:Nat} {b:UInt8} (h:s[k]? = some b) :(s.take (k+1)).all p=((s.take k).all p&&p b) :=by
 rw[aqN,h]; simp[List.all_append]
theorem DC {s:List UInt8} {p:UInt8->Bool} {k:Nat} {b:UInt8} (h:s[k]? = some b) (aB:p b=false) :s.all p=false:=by
 rw[List.all_eq_false];exact⟨b,aqI h,by simp[aB]⟩
theorem K0 (s:List UInt8) :bi Tryz.prog GS 105 [.str s] (.bool (fE s)) :=by
 refine bt Tryz.checked.mixed bp ?_;apply bb Tryz.func105 [];have h1:((s.length:Int)<1)<->¬ 1<=s.length:=by omega
 have ad:((20:Int)<s.length)<->¬ s.length<=20:=by omega
 by_cases aF:1<=s.length
 ·by_cases aQ:s.length<=20
  ·simp[h1,ad,aF,aQ];refine cE s.length (fun k ae _=>ae 0=.str s/\ae 3=.int .i64 k/\(s.take k).all (gT 33)=true) ?_ (by simp);rintro k ae l hk ⟨eL,dJ,eT⟩;obtain⟨ae,rfl⟩:=nA eL dJ;clear eL dJ;by_cases h:k<s.length
   ·obtain⟨b,af,_⟩:=bW h;have eQ:IntKind.i64.wrap ((k:Int)+1)=(k+1:Nat) :=wrap_i64 (by omega) (by omega);have dU:((b.toNat:Int)<33)<->¬ 33<=b.toNat:=by omega
    have dw:((126:Int)<b.toNat)<->¬ b.toNat<=126:=by omega
    have fm:xg (.str s) (.int .i64 k)=some (.int .u8 b.toNat) :=by simp[af,iw]
    by_cases q1:33<=b.toNat
    ·by_cases fZ:b.toNat<=126
     ·have dN:gT 33 b=true:=by simp[gT,q1,fZ]
      simp[h,fm,dU,dw,q1,fZ,eQ,Nf af,dN,-zz];simpa using eT
     ·have dN:gT 33 b=false:=by simp[gT,fZ]
      simp[h,fm,dU,dw,q1,fZ,-zz];exact aH (by simp[fE,DC af dN]) rfl
    ·have dN:gT 33 b=false:=by simp[gT,q1]
     simp[h,fm,dU,q1,-zz];exact aH (by simp[fE,DC af dN]) rfl
   ·have et:k=s.length:=by omega
    subst et;rw[aq0] at eT;simp;exact aH (by simp only[fE,eT]; simp[aF,aQ]) rfl
  ·simp[h1,ad,aF,aQ];exact aH (by simp[fE,aQ]) rfl
 ·simp[h1,aF];exact aH (by simp[fE,aF]) rfl
theorem afY (s:List UInt8) (ak:s.length<=1000000000) :bi Tryz.prog GS 161 [.str s] (.bool (s.all (gT 32))) :=by
 refine bt Tryz.checked.mixed bp ?_;apply bb Tryz.func161 [];simp;refine cE s.length (fun k ae _=>ae 0=.str s/\ae 3=.int .i64 k/\(s.take k).all (gT 32)=true) ?_ (by simp);rintro k ae l hk ⟨eL,dJ,eT⟩;obtain⟨ae,rfl⟩:=nA eL dJ;clear eL dJ;by_cases h:k<s.length
 ·obtain⟨b,af,_⟩:=bW h;have eQ:IntKind.i64.wrap ((k:Int)+1)=(k+1:Nat) :=wrap_i64 (by omega) (by omega);have dU:((b.toNat:Int)<32)<->¬ 32<=b.toNat:=by omega
  have dw:((126:Int)<b.toNat)<->¬ b.toNat<=126:=by omega
  have fm:xg (.str s) (.int .i64 k)=some (.int .u8 b.toNat) :=by simp[af,iw]
  by_cases q1:32<=b.toNat
  ·by_cases fZ:b.toNat<=126
   ·have dN:gT 32 b=true:=by simp[gT,q1,fZ]
    simp[h,fm,dU,dw,q1,fZ,eQ,Nf af,dN,-zz];simpa using eT
   ·have dN:gT 32 b=false:=by simp[gT,fZ]
    simp[h,fm,dU,dw,q1,fZ,-zz];exact aH (by simp only[DC af dN]) rfl
  ·have dN:gT 32 b=false:=by simp[gT,q1]
   simp[h,fm,dU,q1,-zz];exact aH (by simp only[DC af dN]) rfl
 ·have et:k=s.length:=by omega
  subst et;rw[aq0] at eT;simp;exact aH (by simp only[eT]) rfl
structure fA where
 kind:B
 num:Int
 bits:Q
 text:List UInt8
def cn (v:fA) :List U:=[a6 v.kind,.int .i64 v.num,cD v.bits,.str v.text]
def hR:fA:=⟨0#8,0,0#64,[]⟩
def ji (b:Q) :Nat:=b.toNat / 4503599627370496 % 2048
def o1 (b:Q) :Q:=b % 4503599627370496#64
def cls (b:Q) :B:=if ji b=2047 then (if o1 b=0#64 then 4#8 else 5#8) else if ji b=0 then (if o1 b=0#64 then 1#8 else 2#8) else 3#8
def mn (b:Q) :Q:=if cls b=5#8 then 9221120237041090560#64 else b
theorem fq (k:B) :((u k:Int)=1)<->k=1#8:=oD k 1#8
theorem fT (k:B) :((u k:Int)=2)<->k=2#8:=oD k 2#8
theorem ip (k:B) :((u k:Int)=3)<->k=3#8:=oD k 3#8
theorem l5 (k:B) :((u k:Int)=4)<->k=4#8:=oD k 4#8
theorem x1 (k:B) :((u k:Int)=5)<->k=5#8:=oD k 5#8
theorem VB (k:B) :((u k:Int)=0)<->k=0#8:=oD k 0#8
theorem tw (k:Q) :((u k:Int)=0)<->k=0#64:=oD k 0#64
theorem PD (b:Q) :ji b<2048:=asn _ (by decide)
theorem WW (n:Nat) (h:n<9223372036854775808) :b8 .and .i64 (n:Int) .i64 2047=some (.int .i64 ((n % 2048:Nat) :Int)) :=by
 show some (U.int .i64 (IntKind.i64.wrap ((BitVec.ofInt 64 (n:Int) &&& BitVec.ofInt 64 (2047:Int)).toNat:Int)))=_;have h1:(BitVec.ofInt 64 (n:Int) &&& BitVec.ofInt 64 (2047:Int)).toNat=n % 2048:=by
  rw[arT,asP,aqK,aqC (by omega)];exact asZ n 11
 have ad:=asn n (show 2048 > 0 by decide);rw[h1];generalize n % 2048=q at ad;rw[wrap_i64 (by omega) (by omega)]
theorem ZE (b:Q) :b &&& 4503599627370495#64=o1 b:=by
 apply aqE;unfold o1;rw[asP,arH];exact asZ b.toNat 52
theorem ah2 (b:Q) :bi Tryz.prog GS 274 [cD b] (.bu [.int .i64 (ji b),cD (o1 b)]) :=by
 refine bt Tryz.checked.mixed bp ?_;apply bb Tryz.func274 [];have af:=b.isLt;have h1:IntKind.i64.wrap (u (b >>> 52))=((b.toNat / 4503599627370496:Nat) :Int) :=by
  have:u (b >>> 52)=((b.toNat / 4503599627370496:Nat) :Int) :=by unfold u; rw[arc,aqO]
  rw[this,wrap_i64 (by omega) (by omega)]
 have ad:=WW (b.toNat / 4503599627370496) (by omega);have ap:ji b=b.toNat / 4503599627370496 % 2048:=rfl;rw[<-ap] at ad;obtain⟨q,bm⟩:∃ q,b.toNat / 4503599627370496=q:=⟨_,rfl⟩
 rw[bm] at h1 ad;have aj:b8 .and .u64 (u b) .u64 4503599627370495=some (cD (o1 b)) :=by
  rw[NA,lu,<-ZE]; rfl
 have aC:b8 .shr .u64 (u b) .u64 52=some (.int .u64 (u (b >>> 52))) :=sq b .u64 52;simp[aC,h1,ad,aj,-NA];exact aH rfl rfl
theorem agR (b:Q) :bi Tryz.prog GS 259 [cD b] (.int .i64 (ji b)) :=by
 refine bt Tryz.checked.mixed bp ?_;apply bb Tryz.func259 [];have af:=b.isLt;have h1:b8 .rem .u64 (u b) .u64 9223372036854775808=some (cD (b % 9223372036854775808#64)) :=yo b 9223372036854775808#64 (by decide);have ad:b8 .quo .u64 (u (b % 9223372036854775808#64)) .u64 4503599627370496=some (cD (b % 9223372036854775808#64 / 4503599627370496#64)) :=Ls _ 4503599627370496#64 (by decide);have aj:IntKind.i64.wrap (u (b % 9223372036854775808#64 / 4503599627370496#64))=(ji b:Int) :=by
  have:u (b % 9223372036854775808#64 / 4503599627370496#64)=(ji b:Int) :=by
   unfold u ji;rw[arU,arH];show (((b.toNat % 9223372036854775808) / 4503599627370496:Nat) :Int)=_;congr 1;omega
  have aC:=PD b;rw[this,wrap_i64 (by omega) (by omega)]
 simp[h1,ad,aj];exact aH rfl rfl
theorem agS (b:Q) :bi Tryz.prog GS 260 [cD b] (cD (o1 b)) :=by
 refine bt Tryz.checked.mixed bp ?_;apply bb Tryz.func260 [];have h1:b8 .rem .u64 (u b) .u64 4503599627370496=some (cD (o1 b)) :=yo b 4503599627370496#64 (by decide);simp[h1];exact aH rfl rfl
theorem X6 (b:Q) :bi Tryz.prog GS 261 [cD b] (a6 (cls b)) :=by
 refine bt Tryz.checked.mixed bp ?_;apply bb Tryz.func261 [];unfold cls;simp;refine aU (ah2 b) rfl ?_;have h1:((ji b:Int)=2047)<->ji b=2047:=by omega
 have ad:((ji b:Int)=0)<->ji b=0:=by omega
 by_cases aF:ji b=2047
 ·by_cases aQ:o1 b=0#64
  ·simp[h1,aF,aQ];exact aH rfl rfl
  ·simp[h1,aF,aQ,tw];exact aH rfl rfl
 ·by_cases aW:ji b=0
  ·by_cases aQ:o1 b=0#64
   ·simp[h1,ad,aF,aQ,aW];exact aH rfl rfl
   ·simp[h1,ad,aF,aQ,aW,tw];exact aH rfl rfl
  ·simp[h1,ad,aF,aW];exact aH rfl rfl
theorem agP (b:Q) :bi Tryz.prog GS 220 [cD b] (a6 (cls b)) :=by
 refine bt Tryz.checked.mixed bp ?_;apply bb Tryz.func220 [];unfold cls;simp;refine aU (agR b) rfl ?_;simp;refine aU (agS b) rfl ?_;have ad:((ji b:Int)=0)<->ji b=0:=by omega
 have aj:((ji b:Int)<2047)<->¬ ji b=2047:=by have:=PD b; omega
 by_cases aW:ji b=0
 ·by_cases aQ:o1 b=0#64
  ·simp[ad,aQ,aW];exact aH rfl rfl
  ·simp[ad,aQ,aW,tw];exact aH rfl rfl
 ·by_cases aF:ji b=2047
  ·by_cases aQ:o1 b=0#64
   ·simp[ad,aj,aF,aQ];exact aH rfl rfl
   ·simp[ad,aj,aF,aQ,tw];exact aH rfl rfl
  ·simp[ad,aj,aF,aW];exact aH rfl rfl
theorem XO (b:Q) :bi Tryz.prog GS 229 [cD b] (cD (mn b)) :=by
 refine bt Tryz.checked.mixed bp ?_;apply bb Tryz.func229 [];unfold mn;simp;refine aU (X6 b) rfl ?_;by_cases h:cls b=5#8
 ·simp[x1,h];exact aH rfl rfl
 ·simp[x1,h];exact aH rfl rfl
theorem agN (b:Q) :bi Tryz.prog GS 160 [cD b] (cD (mn b)) :=by
 refine bt Tryz.checked.mixed bp ?_;apply bb Tryz.func160 [];unfold mn;simp;refine aU (agP b) rfl ?_;by_cases h:cls b=5#8
 ·simp[x1,h];exact aH rfl rfl
 ·simp[x1,h];exact aH rfl rfl
theorem ai0 (n:Int) :bi Tryz.prog GS 177 [.int .i64 n] (.aI (cn ⟨1#8,n,0#64,[]⟩)) :=by
 refine bt Tryz.checked.mixed bp ?_;apply bb Tryz.func177 [];simp;exact aH rfl rfl
theorem aiZ (b:Q) :bi Tryz.prog GS 178 [cD b] (.aI (cn ⟨2#8,0,mn b,[]⟩)) :=by
 refine bt Tryz.checked.mixed bp ?_;apply bb Tryz.func178 [];simp;refine aU (XO b) rfl ?_;simp;exact aH rfl rfl
def r3 (s:List UInt8) :fA × Int:=if s.length<=30 then (if s.all (gT 32) then (⟨3#8,0,0#64,s⟩,0) else (hR,8)) else (hR,4)
theorem ai1 (s:List UInt8) :bi Tryz.prog GS 179 [.str s] (.bu [.aI (cn (r3 s).1),.int .i64 (r3 s).2]) :=by
 refine bt Tryz.checked.mixed bp ?_;apply bb Tryz.func179 [];unfold r3;have ad:((30:Int)<s.length)<->¬ s.length<=30:=by omega
 by_cases aQ:s.length<=30
 ·simp[ad,aQ];refine aU (Vh ZB ait s) rfl ?_;have aj:=Kw 32 (by omega) s s.length 0 (by omega);rw[ary] at aj;have aC:((0:Int)<=kk (mj 32) s s.length 0)<->¬ (s.all (gT 32)=true) :=by rw[<-aj]; omega
  cases af:s.all (gT 32) with
  | true=>
   have aZ:¬ (0:Int)<=kk (mj 32) s s.length 0:=by rw[aC,af]; simp
   simp[aZ];exact aH (by simp[aQ]; rfl) rfl
  | false=>
   have aZ:(0:Int)<=kk (mj 32) s s.length 0:=by rw[aC,af]; simp
   simp[aZ];exact aH (by simp[aQ]; rfl) rfl
 ·simp[ad,aQ];exact aH rfl rfl
def i9 (v:fA) :Bool:=
 if v.kind=1#8 then decide (v.bits=0#64)&&decide (v.text=[])
 else if v.kind=2#8 then decide (v.num=0)&&decide (v.text=[])&&decide (mn v.bits=v.bits)
 else if v.kind=3#8 then decide (v.num=0)&&decide (v.bits=0#64)&&decide (v.text.length<=30)&&v.text.all (gT 32)
 else false
def eh (b:Bool) :Int:=if b then 0 else 8
def ad0:List lH:=[.i .u8,.i .i64,.i .u64,.s]
theorem S5:qw Tryz.prog 20 25=some ad0:=by kernel_rfl
theorem VJ (a b:fA) :fG Tryz.prog .eql 25 (.aI (cn a)) (.aI (cn b))=some (.bool (eo (cn a) (cn b))) :=DK S5 (by kernel_rfl) (by kernel_rfl) rfl rfl
theorem ai2 (a b:fA) :fG Tryz.prog .neq 25 (.aI (cn a)) (.aI (cn b))=some (.bool (!eo (cn a) (cn b))) :=NI S5 (by kernel_rfl) (by kernel_rfl) rfl rfl
theorem HK (a b:fA) :eo (cn a) (cn b)=(decide (a.kind=b.kind)&&(decide (a.num=b.num)&&(decide (a.bits=b.bits)&&decide (a.text=b.text)))) :=by
 simp[cn,eo,U.beq]
theorem MA {v:fA} (k:v.kind=1#8) :i9 v=(decide (v.bits=0#64)&&decide (v.text=[])) :=by simp[i9,k]
theorem MB {v:fA} (k:v.kind=2#8) :i9 v=(decide (v.num=0)&&(decide (v.bits=mn v.bits)&&decide (v.text=[]))) :=by
 unfold i9;rw[if_neg (by rw[k]; decide),if_pos k,show decide (mn v.bits=v.bits)=decide (v.bits=mn v.bits) from decide_eq_decide.2 eq_comm];cases decide (v.num=0)<;>cases decide (v.text=[])<;>cases decide (v.bits=mn v.bits)<;>rfl
theorem VK {v:fA} (k:v.kind=3#8) :i9 v=(decide (v.kind=(r3 v.text).1.kind)&&(decide (v.num=(r3 v.text).1.num)&&(decide (v.bits=(r3 v.text).1.bits)&&decide (v.text=(r3 v.text).1.text)))) :=by
 unfold i9 r3;rw[if_neg (by rw[k]; decide),if_neg (by rw[k]; decide),if_pos k];by_cases h1:v.text.length<=30
 ·cases ad:v.text.all (gT 32) with
  | true=>simp[h1,k]
  | false=>simp[h1,k,hR]
 ·simp[h1,k,hR]
theorem MC {v:fA} (bL:v.kind≠1#8) (bz:v.kind≠2#8) (cO:v.kind≠3#8) :i9 v=false:=by simp[i9,bL,bz,cO]
theorem My (v:fA) :bi Tryz.prog GS 123 [.aI (cn v)] (.int .i64 (eh (i9 v))) :=by
 refine bt Tryz.checked.mixed bp ?_;apply bb Tryz.func123 [];have av:∀ (k:B) (n:Int) (b:Q) (t:List UInt8),fG Tryz.prog .neq 25 (.aI [a6 v.kind,.int .i64 v.num,cD v.bits,.str v.text]) (.aI [a6 k,.int .i64 n,cD b,.str t])=some (.bool (!(decide (v.kind=k)&&(decide (v.num=n)&&(decide (v.bits=b)&&decide (v.text=t)))))) :=fun k n b t=>by rw[<-HK v ⟨k,n,b,t⟩]; exact ai2 v ⟨k,n,b,t⟩
 by_cases bL:v.kind=1#8
 ·have h1:=av 1#8 v.num 0#64 [];simp only[bL] at h1;unfold cn;simp[fq,bL];refine aU (ai0 v.num) rfl ?_;unfold cn;simp[h1];rw[MA bL];cases decide (v.bits=0#64)<;>cases decide (v.text=[])<;>simp[bL]<;>exact aH rfl rfl
 ·by_cases bz:v.kind=2#8
  ·have h1:=av 2#8 0 (mn v.bits) [];simp only[bz] at h1;unfold cn;simp[fq,fT,bz];refine aU (aiZ v.bits) rfl ?_;unfold cn;simp[h1];rw[MB bz];cases decide (v.num=0)<;>cases decide (v.bits=mn v.bits)<;>cases decide (v.text=[])<;>simp[bz]<;>exact aH rfl rfl
  ·by_cases cO:v.kind=3#8
   ·obtain⟨w,hw⟩:∃ w,w=(r3 v.text).1:=⟨_,rfl⟩
    have h1:=av w.kind w.num w.bits w.text;have aj:=VK cO;rw[<-hw] at aj;simp only[cO] at h1 aj;unfold cn;simp[fq,fT,ip,cO];refine aU (ai1 v.text) rfl ?_;rw[<-hw];unfold cn;simp[h1];rw[aj];cases decide (3#8=w.kind)<;>cases decide (v.num=w.num)<;>cases decide (v.bits=w.bits)<;>cases decide (v.text=w.text)<;>simp[cO]<;>exact aH rfl rfl
   ·have h1:fG Tryz.prog .neq 25 (.aI [a6 v.kind,.int .i64 v.num,cD v.bits,.str v.text]) (.aI [.int .u8 0,.int .i64 0,.int .u64 0,.str []])=some (.bool (!(decide (v.kind=0#8)&&(decide (v.num=0)&&(decide (v.bits=0#64)&&decide (v.text=[])))))) :=av 0#8 0 0#64 [];rw[MC bL bz cO];unfold cn;simp[fq,fT,ip,bL,bz,cO];by_cases hC:v.kind=0#8
    ·simp only[hC,decide_true,art] at h1;simp[hC,h1];cases decide (v.num=0)<;>cases decide (v.bits=0#64)<;>cases decide (v.text=[])<;>simp[hC]<;>exact aH rfl rfl
    ·simp only[hC,decide_false,ar4,Bool.not_false] at h1;simp[h1];exact aH rfl rfl
theorem agU (v:fA) :bi Tryz.prog GS 106 [.aI (cn v)] (.int .i64 (eh (i9 v))) :=by
 refine bt Tryz.checked.mixed bp ?_;apply bb Tryz.func106 [[[0],[1],[2],[3],[4],[5],[6],[7],[8],[9],[10],[12],[13],[11,13]]];by_cases bL:v.kind=1#8
 ·rw[MA bL];unfold cn;simp[fq,bL,tw];by_cases aF:v.bits=0#64<;>by_cases aQ:v.text=[]<;>simp[aF,aQ,tw]<;>exact aH rfl rfl
 ·by_cases bz:v.kind=2#8
  ·rw[MB bz];unfold cn;simp[fq,fT,bz];by_cases aF:v.num=0
   ·by_cases aQ:v.text=[]
    ·simp[aF,aQ];refine aU (agN v.bits) rfl ?_;by_cases aW:v.bits=mn v.bits
     ·have bd:mn v.bits=v.bits:=aW.symm;simp[bd];exact aH (by simp[eh,aF,aQ,bd]) rfl
     ·have bd:¬ mn v.bits=v.bits:=fun h=>aW h.symm
      simp[aW,bd];exact aH (by simp[eh,aW]) rfl
    ·simp[aF,aQ];exact aH rfl rfl
   ·simp[aF];exact aH rfl rfl
  ·by_cases cO:v.kind=3#8
   ·have ao:i9 v=(decide (v.num=0)&&decide (v.bits=0#64)&&decide (v.text.length<=30)&&v.text.all (gT 32)) :=by simp[i9,cO]
    have ad:((v.text.length:Int)<=30)<->v.text.length<=30:=by omega
    rw[ao];unfold cn;simp[fq,fT,ip,cO,tw];by_cases aF:v.num=0
    ·by_cases aQ:v.bits=0#64
     ·by_cases aW:v.text.length<=30
      ·simp[aF,aQ,ad,aW];refine aU (afY v.text (by omega)) rfl ?_;cases v.text.all (gT 32)<;>simp<;>exact aH (by simp[eh,aF,aQ,aW]) rfl
      ·simp[aF,aQ,ad,aW];exact aH rfl rfl
     ·simp[aF,aQ,tw];exact aH rfl rfl
    ·simp[aF];exact aH rfl rfl
   ·rw[MC bL bz cO];unfold cn;simp[fq,fT,ip,bL,bz,cO];exact aH rfl rfl
structure Act where
 kind:B
 key:List UInt8
 val:fA
def ix (a:Act) :List U:=[a6 a.kind,.str a.key,a6 a.val.kind,.int .i64 a.val.num,cD a.val.bits,.str a.val.text]
def ki (v:fA) :Bool:=decide (v.kind=0#8)&&(decide (v.num=0)&&(decide (v.bits=0#64)&&decide (v.text=[])))
def hU (a:Act) :Bool:=
 if a.kind=1#8 then decide (a.key=[])&&ki a.val
 else if a.kind=2#8\/a.kind=3#8 then fE a.key&&ki a.val
 else if a.kind=4#8 then fE a.key&&i9 a.val
 else false
def vc:List lH:=[.i .u8,.s,.i .u8,.i .i64,.i .u64,.s]
theorem aeb:qw Tryz.prog 20 27=some vc:=by kernel_rfl
theorem M2 (a b:Act) :fG Tryz.prog .eql 27 (.aI (ix a)) (.aI (ix b))=some (.bool (eo (ix a) (ix b))) :=DK aeb (by kernel_rfl) (by kernel_rfl) rfl rfl
theorem WJ (a:Act) (h:a.kind=1#8) :fG Tryz.prog .eql 27 (.aI [.int .u8 1,.str a.key,a6 a.val.kind,.int .i64 a.val.num,cD a.val.bits,.str a.val.text]) (.aI [.int .u8 1,.str [],.int .u8 0,.int .i64 0,.int .u64 0,.str []])=some (.bool (decide (a.key=[])&&ki a.val)) :=by
 have:=M2 a ⟨1#8,[],hR⟩;simp only[ix,h] at this;refine Eq.trans this ?_;simp[eo,U.beq,ki,hR,VB,tw];congr
theorem Mz (v:fA) :fG Tryz.prog .eql 25 (.aI [a6 v.kind,.int .i64 v.num,cD v.bits,.str v.text]) (.aI [.int .u8 0,.int .i64 0,.int .u64 0,.str []])=some (.bool (ki v)) :=by
 have:=VJ v hR;rw[HK] at this;exact this
theorem M6 {a:Act} (k:a.kind=1#8) :hU a=(decide (a.key=[])&&ki a.val) :=by simp[hU,k]
theorem Aw {a:Act} (k:a.kind=2#8) :hU a=(fE a.key&&ki a.val) :=by simp[hU,k]
theorem Dz {a:Act} (k:a.kind=3#8) :hU a=(fE a.key&&ki a.val) :=by simp[hU,k]
theorem Ax {a:Act} (k:a.kind=4#8) :hU a=(fE a.key&&i9 a.val) :=by simp[hU,k]
theorem Hu {a:Act} (bL:a.kind≠1#8) (bz:a.kind≠2#8) (cO:a.kind≠3#8) (dn:a.kind≠4#8) :hU a=false:=by simp[hU,bL,bz,cO,dn]
theorem AN (a:Act) :bi Tryz.prog GS 77 [.aI (ix a)] (.int .i64 (eh (hU a))) :=by
 refine bt Tryz.checked.mixed bp ?_;apply bb Tryz.func77 [];by_cases bL:a.kind=1#8
 ·have h1:=WJ a bL;have aR:a6 (1#8)=.int .u8 1:=rfl;rw[M6 bL];unfold ix;simp[fq,bL,aR,h1];by_cases aF:a.key=[]<;>cases aQ:ki a.val<;>simp[aF,aQ]<;>exact aH rfl rfl
 ·have h1:=Mz a.val;by_cases bz:a.kind=2#8
  ·rw[Aw bz];unfold ix;simp[fq,fT,ip,bL,bz];refine aU (KG a.key) rfl ?_;cases fE a.key with
   | true=>simp[h1]; cases ki a.val<;>simp<;>exact aH rfl rfl
   | false=>simp; exact aH rfl rfl
  ·by_cases cO:a.kind=3#8
   ·rw[Dz cO];unfold ix;simp[fq,fT,ip,bL,cO];refine aU (KG a.key) rfl ?_;cases fE a.key with
    | true=>simp[h1]; cases ki a.val<;>simp<;>exact aH rfl rfl
    | false=>simp; exact aH rfl rfl
   ·by_cases dn:a.kind=4#8
    ·rw[Ax dn];unfold ix;simp[fq,fT,ip,l5,dn];refine aU (KG a.key) rfl ?_;cases fE a.key with
     | true=>
      simp;refine aU (My a.val) rfl ?_;cases i9 a.val<;>simp[eh]<;>exact aH rfl rfl
     | false=>simp; exact aH rfl rfl
    ·rw[Hu bL bz cO dn];unfold ix;simp[fq,fT,ip,l5,bL,bz,cO,dn];exact aH rfl rfl
theorem agO (a:Act) :bi Tryz.prog GS 68 [.aI (ix a)] (.int .i64 (eh (hU a))) :=by
 refine bt Tryz.checked.mixed bp ?_;apply bb Tryz.func68 [];have h1:=Mz a.val;by_cases bL:a.kind=1#8
 ·rw[M6 bL];unfold ix;simp[fq,bL,h1];by_cases aF:a.key=[]<;>cases aQ:ki a.val<;>simp[aF,aQ]<;>exact aH rfl rfl
 ·by_cases bz:a.kind=2#8
  ·rw[Aw bz];unfold ix;simp[fq,fT,ip,bL,bz,h1];refine aU (K0 a.key) rfl ?_;cases fE a.key with
   | true=>simp; cases ki a.val<;>simp<;>exact aH rfl rfl
   | false=>simp; exact aH rfl rfl
  ·by_cases cO:a.kind=3#8
   ·rw[Dz cO];unfold ix;simp[fq,fT,ip,bL,cO,h1];refine aU (K0 a.key) rfl ?_;cases fE a.key with
    | true=>simp; cases ki a.val<;>simp<;>exact aH rfl rfl
    | false=>simp; exact aH rfl rfl
   ·by_cases dn:a.kind=4#8
    ·rw[Ax dn];unfold ix;simp[fq,fT,ip,l5,dn,h1];refine aU (K0 a.key) rfl ?_;cases fE a.key with
     | true=>
      simp;refine aU (agU a.val) rfl ?_;cases i9 a.val<;>simp[eh]<;>exact aH rfl rfl
     | false=>simp; exact aH rfl rfl
    ·rw[Hu bL bz cO dn];unfold ix;simp[fq,fT,ip,l5,bL,bz,cO,dn,h1];exact aH rfl rfl
end Op

end Go.bJ

namespace Go.bJ
open Go Go.Proofs
set_option maxRecDepth 100000
def b7 {α:Type} (z:Nat) (enc:α->List U) (l l1:am) (v:U) (a:List α) (fo:Bool) :Prop:=
 ∃ j,bG z l1 v j (a.map enc)/\l.length<=l1.length/\(∀ b,b<l.length->l1[b]? = l[b]?)/\(v=.aX\/l.length<=j)/\cq v=fo
section
variable {α:Type} {z:Nat} {enc:α->List U} {l l1:am} {v:U} {a:List α} {fo:Bool}
theorem b7.nil:b7 z enc l l .aX ([] :List α) true:=⟨0,.nil 0,aqv _,fun _ _=>rfl,.inl rfl,rfl⟩
theorem b7.more (h:b7 z enc l l1 v a fo) (r:am) :b7 z enc l (l1++r) v a fo:=by
 obtain⟨j,h1,ad,aj,aC,aZ⟩:=h;exact⟨j,h1.more r,by simp; omega,fun b af=>by rw[aqt (by omega)]; exact aj b af,aC,aZ⟩
theorem b7.len (h:b7 z enc l l1 v a fo) :cL (.ar z) v=some (.int .i64 a.length) :=by
 obtain⟨j,h1,_⟩:=h;rw[h1.len,aqS]
theorem b7.cells (h:b7 z enc l l1 v a fo) :v.cells=some [v] :=by
 obtain⟨j,h1,_⟩:=h;exact h1.cells
theorem b7.contents (h:b7 z enc l l1 v a fo) :c8 l1 z v=some ((a.map enc).flatten,a.length) :=by
 obtain⟨j,h1,_⟩:=h;rw[h1.contents,aqS]
theorem b7.le (h:b7 z enc l l1 v a fo) :l.length<=l1.length:=by obtain⟨j,h1,ad,_⟩:=h; exact ad
theorem b7.same (h:b7 z enc l l1 v a fo) :∀ b,b<l.length->l1[b]? = l[b]?:=by obtain⟨j,h1,ad,aj,_⟩:=h; exact aj
theorem b7.rT (h:b7 z enc l l1 v a fo) (aA:∀ x,aV (enc x)=true) (s:ez α) (al:fo=s.isNone) (ag:s.l=a) :ft (bK l1) v (cy z enc s) :=by
 obtain⟨j,h1,ad,aj,aC,aZ⟩:=h;exact h1.mT aA s (by rw[aZ,al]) ag
theorem b7.rd (h:b7 z enc l l1 v a fo) (aA:∀ x,aV (enc x)=true) (s:ez α) (al:fo=s.isNone) (ag:s.l=a) :Rd l1 v (cy z enc s) :=by
 obtain⟨j,h1,ad,aj,aC,aZ⟩:=h;exact h1.q.xO aA s (by rw[aZ,al]) ag
theorem b7.Gq (h:b7 z enc l l1 v a fo) (aA:∀ x,k0 (enc x)=true) (s:ez α) (al:fo=s.isNone) (ag:s.l=a) :j0 l1 v (cy z enc s) :=by
 obtain⟨j,h1,ad,aj,aC,aZ⟩:=h;exact h1.CW aA s (by rw[aZ,al]) ag
theorem b7.base (h:b7 z enc l l1 v a fo) {c1:am} (ak:c1.length<=l.length) (al:∀ b,b<c1.length->l[b]? = c1[b]?) :b7 z enc c1 l1 v a fo:=by
 obtain⟨j,h1,ad,aj,aC,aZ⟩:=h;exact⟨j,h1,by omega,fun b af=>by rw[aj b (by omega)]; exact al b af,aC.imp id (by omega),aZ⟩
theorem b7.frame (h:b7 z enc l l1 v a fo) {bZ:am} (ak:l1.length<=bZ.length) (al:∀ b,b<l1.length->bZ[b]? = l1[b]?) :b7 z enc l bZ v a fo:=by
 obtain⟨j,h1,ad,aj,aC,aZ⟩:=h;exact⟨j,h1.frame fun ai=>al j ai,by omega,fun b af=>by rw[al b (by omega)]; exact aj b af,aC,aZ⟩
theorem b7.app (h:b7 z enc l l1 v a fo) {by_:Nat} {x:U} {xs:List α} (ag:c8 l1 z x=some ((xs.map enc).flatten,xs.length)) (av:∀ y∈xs,(enc y).length=z) (aE:z≠0) (dz:by_≠0) (du:(a.length+xs.length)*by_<=cx) :
  ∃ a8 l',iR l1 z by_ v x=some (a8,l')/\b7 z enc l l' a8 (a++xs) (fo&&xs.isEmpty)/\l1.length<=l'.length:=by
 obtain⟨j,h1,ad,aj,aC,aZ⟩:=h;obtain⟨a8,cP,l',aF,aQ,aW,bd,bh,cc⟩:=Hz (xs:=xs.map enc) h1 (by simpa using ag) (fun e ap=>by obtain⟨y,aG,rfl⟩:=aqR.1 ap; exact av y aG) aE dz (by simpa using du);refine⟨a8,l',aF,⟨cP,by rw[aqV]; exact aQ,by omega,fun b af=>?_,?_,?_⟩,aW⟩
 ·rw[bd b (by omega)]
  ·exact aj b af
  ·rcases aC with h | h
   ·exact .inl h
   ·exact .inr (by omega)
 ·rcases bh with h | ⟨bx,de⟩ | h
  ·exact .inr (by omega)
  ·rcases aC with h | h
   ·exact absurd h bx
   ·exact .inr (by omega)
  ·exact .inl h
 ·rw[cc,aZ]; simp
end

namespace Op
open eX
theorem b7.push {l l1:am} {v:U} {a:List B} {fo:Bool} (h:b7 1 bN l l1 v a fo) (x:B) (du:a.length<=1000000000) :
  ∃ a8 l',iR (l1++[.cells 1 [a6 x]]) 1 1 v (.ar 1 l1.length 0 1 1 1)=some (a8,l')/\b7 1 bN l l' a8 (a++[x]) false:=by
 have ay:cx=140737488355328:=rfl;obtain⟨a8,l',aF,aQ,_⟩:=(h.more [.cells 1 [a6 x]]).app (by_:=1) (x:=.ar 1 l1.length 0 1 1 1) (xs:=[x]) (by simp[c8,bN]) (by simp[bN]) (by omega) (by omega) (by rw[ay]; simp; omega);exact⟨a8,l',aF,by simpa using aQ⟩
theorem wn:∀ a:List B,(a.map bN).flatten=a.map a6
 | []=>rfl
 | x::a=>by rw[aqP,aro,wn a]; rfl
theorem oo {l:am} {j n:Nat} {a:List B} (az:a.length=n) (ai:l[j]? = some (.cells n (a.map a6))) :bG 1 l (.ar 1 j 0 n n n) j (a.map bN) :=by
 refine .ar j n n n (a.map a6) _ ai (by simp[az]) (by simp[az]) (fun e ap=>?_) (aqv _) (by omega) ?_
 ·obtain⟨x,_,rfl⟩:=aqR.1 ap; rfl
 ·rw[aqs (by simp[az]),wn]
def kr (n:Nat) :Nat:=if n<256 then 1 else if n<65536 then 2 else if n<16777216 then 3 else if n<4294967296 then 4 else if n<1099511627776 then 5 else if n<281474976710656 then 6 else if n<72057594037927936 then 7 else 8
theorem F3 (n:Nat) :1<=kr n/\kr n<=8:=by unfold kr; refine⟨?_,?_⟩<;>(repeat' split)<;>omega
def kX (n i:Nat) :B:=BitVec.ofNat 8 (n >>> (8*i))
def tG (n:Nat) :Nat->List B
 | 0=>[]
 | i+1=>kX n i::tG n i
theorem Mj (n:Nat) :∀ i,(tG n i).length=i
 | 0=>rfl
 | i+1=>by simp[tG,Mj n i]
def dR (n:Nat) :List B:=if n<=247 then [BitVec.ofNat 8 n] else BitVec.ofNat 8 (247+kr n) ::tG n (kr n)
def kO (x:Nat) :Nat:=if x<1 then 0 else if x<2 then 1 else if x<4 then 2 else if x<8 then 3 else if x<16 then 4 else if x<32 then 5 else if x<64 then 6 else if x<128 then 7 else 8
def Dd:List UInt8:=[0,1,2,2,3,3,3,3,4,4,4,4,4,4,4,4,5,5,5,5,5,5,5,5,5,5,5,5,5,5,5,5,6,6,6,6,6,6,6,6,6,6,6,6,6,6,6,6,6,6,6,6,6,6,6,6,6,6,6,6,6,6,6,6,7,7,7,7,7,7,7,7,7,7,7,7,7,7,7,7,7,7,7,7,7,7,7,7,7,7,7,7,7,7,7,7,7,7,7,7,7,7,7,7,7,7,7,7,7,7,7,7,7,7,7,7,7,7,7,7,7,7,7,7,7,7,7,7,8,8,8,8,8,8,8,8,8,8,8,8,8,8,8,8,8,8,8,8,8,8,8,8,8,8,8,8,8,8,8,8,8,8,8,8,8,8,8,8,8,8,8,8,8,8,8,8,8,8,8,8,8,8,8,8,8,8,8,8,8,8,8,8,8,8,8,8,8,8,8,8,8,8,8,8,8,8,8,8,8,8,8,8,8,8,8,8,8,8,8,8,8,8,8,8,8,8,8,8,8,8,8,8,8,8,8,8,8,8,8,8,8,8,8,8,8,8,8,8,8,8,8,8,8,8,8,8]
def Mh:Nat->List UInt8->Bool
 | _,[]=>true
 | i,x::r=>Nat.beq x.toNat (kO i)&&Mh (i+1) r
theorem Vl:∀ (i:Nat) (l:List UInt8),Mh i l=true->∀ (j:Nat) (x:UInt8),l[j]? = some x->x.toNat=kO (i+j)
 | i,[],_,j,x,h=>by simp at h
 | i,y::r,h,j,x,ag=>by
  simp only[Mh,aqw] at h;cases j with
  | zero=>simp at ag; subst ag; exact arl h.1
  | succ j=>simp at ag; rw[Vl (i+1) r h.2 j x ag]; congr 1; omega
theorem vK (i:Nat) (h:i<256) :∃ x,Dd[i]? = some x/\x.toNat=kO i:=by
 have ak:Dd.length=256:=by kernel_rfl
 have au:=Vl 0 Dd (by kernel_rfl) i _ (aqu (by omega));exact⟨_,aqu (by omega),by rw[au]; congr 1; omega⟩
theorem th (x:Nat) :kO x<=8:=by unfold kO; (repeat' split)<;>omega
def i4 (n:Nat) :Nat:=
 if n<256 then kO n else if n<65536 then 8+kO (n / 256) else if n<16777216 then 16+kO (n / 65536) else if n<4294967296 then 24+kO (n / 16777216)
 else if n<1099511627776 then 32+kO (n / 4294967296) else if n<281474976710656 then 40+kO (n / 1099511627776) else if n<72057594037927936 then 48+kO (n / 281474976710656) else 56+kO (n / 72057594037927936)
theorem aer (n:Nat) (h:1<=n) :(i4 n+7) / 8=kr n:=by
 have ak:∀ x,1<=x->1<=kO x/\kO x<=8:=fun x ag=>⟨by unfold kO; rw[if_neg (by omega)]; (repeat' split)<;>omega,th x⟩
 unfold i4 kr
 repeat' split
 ·have:=ak n h; omega
 ·have:=ak (n / 256) (by omega); omega
 ·have:=ak (n / 65536) (by omega); omega
 ·have:=ak (n / 16777216) (by omega); omega
 ·have:=ak (n / 4294967296) (by omega); omega
 ·have:=ak (n / 1099511627776) (by omega); omega
 ·have:=ak (n / 281474976710656) (by omega); omega
 ·have:=ak (n / 72057594037927936) (by omega); omega
theorem L2 (x:Q) (k:Nat) :b8 .shr .u64 (u x) .u64 (k:Int)=some (.int .u64 (u (x >>> k))) :=sq x .u64 k
theorem tV {i:Nat} {y:UInt8} {k:UInt8->Prop} (h:Dd[i]? = some y) (hk:k y) :W Dd[i]? (c:=⟨k⟩) :=by rw[h]; exact hk
set_option maxHeartbeats 4000000 in
theorem Tc (n:Q) :bi Tryz.prog GS 208 [cD n] (.int .i64 (i4 n.toNat)) :=by
 refine bt Tryz.checked.mixed bp ?_;apply bb Tryz.func208 [];have jU:IntKind.i64.wrap 8=8:=rfl;have vO:IntKind.i64.wrap 16=16:=rfl;have vP:IntKind.i64.wrap 24=24:=rfl;have vQ:IntKind.i64.wrap 32=32:=rfl;have vR:IntKind.i64.wrap 40=40:=rfl;have vS:IntKind.i64.wrap 48=48:=rfl;have vT:IntKind.i64.wrap 56=56:=rfl;have ci:∀ x:Q,((4294967296:Int)<=u x)<->4294967296<=x.toNat:=fun x=>by unfold u; omega
 have dd:∀ x:Q,((65536:Int)<=u x)<->65536<=x.toNat:=fun x=>by unfold u; omega
 have j4:∀ x:Q,((256:Int)<=u x)<->256<=x.toNat:=fun x=>by unfold u; omega
 have vD:∀ x:Q,b8 .shr .u64 (u x) .u64 32=some (.int .u64 (u (x >>> 32))) :=fun x=>L2 x 32
 have vC:∀ x:Q,b8 .shr .u64 (u x) .u64 16=some (.int .u64 (u (x >>> 16))) :=fun x=>L2 x 16
 have vE:∀ x:Q,b8 .shr .u64 (u x) .u64 8=some (.int .u64 (u (x >>> 8))) :=fun x=>L2 x 8
 have t32:n.toNat >>> 32=n.toNat / 4294967296:=by rw[aqO]
 have t48:n.toNat >>> 48=n.toNat / 281474976710656:=by rw[aqO]
 have t16:n.toNat >>> 16=n.toNat / 65536:=by rw[aqO]
 have aaY:=n.isLt;by_cases h1:4294967296<=n.toNat
 ·by_cases ad:65536<=n.toNat >>> 32
  ·by_cases aj:256<=n.toNat >>> 48
   ·have eO:n.toNat >>> 56 % 256=n.toNat / 72057594037927936:=by rw[aqO]; exact aqC (by omega)
    obtain⟨y,aF,aQ⟩:=vK (n.toNat / 72057594037927936) (by omega);have aW:=th (n.toNat / 72057594037927936);rw[<-aQ] at aW;have bS:IntKind.i64.wrap (y.toNat:Int)=y.toNat:=wrap_i64 (by omega) (by omega);have w2:IntKind.i64.wrap (56+(y.toNat:Int))=((56+y.toNat:Nat) :Int) :=by rw[wrap_i64 (by omega) (by omega)]; omega
    have dT:i4 n.toNat=56+y.toNat:=by unfold i4; rw[aQ]; (repeat' split)<;>first | omega | rfl
    simp[ci,dd,j4,vD,vC,vE,h1,ad,aj];refine tV (y:=y) (by rw[eO]; exact aF) ?_;rw[dT];simp[iw,bS,w2];exact aH (by simp[jU,vO,vP,vQ,vR,vS,vT,w2]) rfl
   ·have eO:n.toNat >>> 48 % 256=n.toNat / 281474976710656:=by rw[aqO]; exact aqC (by omega)
    obtain⟨y,aF,aQ⟩:=vK (n.toNat / 281474976710656) (by omega);have aW:=th (n.toNat / 281474976710656);rw[<-aQ] at aW;have bS:IntKind.i64.wrap (y.toNat:Int)=y.toNat:=wrap_i64 (by omega) (by omega);have w2:IntKind.i64.wrap (48+(y.toNat:Int))=((48+y.toNat:Nat) :Int) :=by rw[wrap_i64 (by omega) (by omega)]; omega
    have dT:i4 n.toNat=48+y.toNat:=by unfold i4; rw[aQ]; (repeat' split)<;>first | omega | rfl
    simp[ci,dd,j4,vD,vC,vE,h1,ad,aj];refine tV (y:=y) (by rw[eO]; exact aF) ?_;rw[dT];simp[iw,bS,w2];exact aH (by simp[jU,vO,vP,vQ,vR,vS,vT,w2]) rfl
  ·by_cases aj:256<=n.toNat >>> 32
   ·have eO:n.toNat >>> 40 % 256=n.toNat / 1099511627776:=by rw[aqO]; exact aqC (by omega)
    obtain⟨y,aF,aQ⟩:=vK (n.toNat / 1099511627776) (by omega);have aW:=th (n.toNat / 1099511627776);rw[<-aQ] at aW;have bS:IntKind.i64.wrap (y.toNat:Int)=y.toNat:=wrap_i64 (by omega) (by omega);have w2:IntKind.i64.wrap (40+(y.toNat:Int))=((40+y.toNat:Nat) :Int) :=by rw[wrap_i64 (by omega) (by omega)]; omega
    have dT:i4 n.toNat=40+y.toNat:=by unfold i4; rw[aQ]; (repeat' split)<;>first | omega | rfl
    simp[ci,dd,j4,vD,vC,vE,h1,ad,aj];refine tV (y:=y) (by rw[eO]; exact aF) ?_;rw[dT];simp[iw,bS,w2];exact aH (by simp[jU,vO,vP,vQ,vR,vS,vT,w2]) rfl
   ·have eO:n.toNat >>> 32 % 256=n.toNat / 4294967296:=by rw[aqO]; exact aqC (by omega)
    obtain⟨y,aF,aQ⟩:=vK (n.toNat / 4294967296) (by omega);have aW:=th (n.toNat / 4294967296);rw[<-aQ] at aW;have bS:IntKind.i64.wrap (y.toNat:Int)=y.toNat:=wrap_i64 (by omega) (by omega);have w2:IntKind.i64.wrap (32+(y.toNat:Int))=((32+y.toNat:Nat) :Int) :=by rw[wrap_i64 (by omega) (by omega)]; omega
    have dT:i4 n.toNat=32+y.toNat:=by unfold i4; rw[aQ]; (repeat' split)<;>first | omega | rfl
    simp[ci,dd,j4,vD,vC,vE,h1,ad,aj];refine tV (y:=y) (by rw[eO]; exact aF) ?_;rw[dT];simp[iw,bS,w2];exact aH (by simp[jU,vO,vP,vQ,vR,vS,vT,w2]) rfl
 ·by_cases ad:65536<=n.toNat
  ·by_cases aj:256<=n.toNat >>> 16
   ·have eO:n.toNat >>> 24 % 256=n.toNat / 16777216:=by rw[aqO]; exact aqC (by omega)
    obtain⟨y,aF,aQ⟩:=vK (n.toNat / 16777216) (by omega);have aW:=th (n.toNat / 16777216);rw[<-aQ] at aW;have bS:IntKind.i64.wrap (y.toNat:Int)=y.toNat:=wrap_i64 (by omega) (by omega);have w2:IntKind.i64.wrap (24+(y.toNat:Int))=((24+y.toNat:Nat) :Int) :=by rw[wrap_i64 (by omega) (by omega)]; omega
    have dT:i4 n.toNat=24+y.toNat:=by unfold i4; rw[aQ]; (repeat' split)<;>first | omega | rfl
    simp[ci,dd,j4,vD,vC,vE,h1,ad,aj];refine tV (y:=y) (by rw[eO]; exact aF) ?_;rw[dT];simp[iw,bS,w2];exact aH (by simp[jU,vO,vP,vQ,vR,vS,vT,w2]) rfl
   ·have eO:n.toNat >>> 16 % 256=n.toNat / 65536:=by rw[aqO]; exact aqC (by omega)
    obtain⟨y,aF,aQ⟩:=vK (n.toNat / 65536) (by omega);have aW:=th (n.toNat / 65536);rw[<-aQ] at aW;have bS:IntKind.i64.wrap (y.toNat:Int)=y.toNat:=wrap_i64 (by omega) (by omega);have w2:IntKind.i64.wrap (16+(y.toNat:Int))=((16+y.toNat:Nat) :Int) :=by rw[wrap_i64 (by omega) (by omega)]; omega
    have dT:i4 n.toNat=16+y.toNat:=by unfold i4; rw[aQ]; (repeat' split)<;>first | omega | rfl
    simp[ci,dd,j4,vD,vC,vE,h1,ad,aj];refine tV (y:=y) (by rw[eO]; exact aF) ?_;rw[dT];simp[iw,bS,w2];exact aH (by simp[jU,vO,vP,vQ,vR,vS,vT,w2]) rfl
  ·by_cases aj:256<=n.toNat
   ·have eO:n.toNat >>> 8 % 256=n.toNat / 256:=by rw[aqO]; exact aqC (by omega)
    obtain⟨y,aF,aQ⟩:=vK (n.toNat / 256) (by omega);have aW:=th (n.toNat / 256);rw[<-aQ] at aW;have bS:IntKind.i64.wrap (y.toNat:Int)=y.toNat:=wrap_i64 (by omega) (by omega);have w2:IntKind.i64.wrap (8+(y.toNat:Int))=((8+y.toNat:Nat) :Int) :=by rw[wrap_i64 (by omega) (by omega)]; omega
    have dT:i4 n.toNat=8+y.toNat:=by unfold i4; rw[aQ]; (repeat' split)<;>first | omega | rfl
    simp[ci,dd,j4,vD,vC,vE,h1,ad,aj];refine tV (y:=y) (by rw[eO]; exact aF) ?_;rw[dT];simp[iw,bS,w2];exact aH (by simp[jU,vO,vP,vQ,vR,vS,vT,w2]) rfl
   ·have eO:n.toNat % 256=n.toNat:=aqC (by omega);obtain⟨y,aF,aQ⟩:=vK (n.toNat) (by omega);have aW:=th (n.toNat);rw[<-aQ] at aW;have bS:IntKind.i64.wrap (y.toNat:Int)=y.toNat:=wrap_i64 (by omega) (by omega);have w2:IntKind.i64.wrap (0+(y.toNat:Int))=((0+y.toNat:Nat) :Int) :=by rw[wrap_i64 (by omega) (by omega)]; omega
    have dT:i4 n.toNat=0+y.toNat:=by unfold i4; rw[aQ]; (repeat' split)<;>first | omega | rfl
    simp[ci,dd,j4,vD,vC,vE,h1,ad,aj];refine tV (y:=y) (by rw[eO]; exact aF) ?_;rw[dT];simp[iw,bS,w2];exact aH (by simp[jU,vO,vP,vQ,vR,vS,vT,w2]) rfl
theorem DP (n:Q) (i:Nat) :(n >>> (8*i)).setWidth 8=kX n.toNat i:=by
 apply aqE;unfold kX;rw[aqF,arc,aqK]
theorem ahx (l:am) (c d:bg) :(l++[c]).set l.length d=l++[d] :=by rw[aq9 _ _ (aqv _)]; simp
def qF (n k i:Nat) :List B:=BitVec.ofNat 8 (247+k) ::(List.replicate (k - i) 0#8++tG n i)
theorem Tz (n k i:Nat) (h:i<=k) :(qF n k i).length=k+1:=by simp[qF,Mj]; omega
theorem afl (n k i:Nat) (h:i<k) :(qF n k i).set (k - i) (kX n i)=qF n k (i+1) :=by
 unfold qF;obtain⟨m,hm⟩:∃ m,k - i=m+1:=⟨k - i - 1,by omega⟩
 rw[hm,ata,show k - (i+1)=m by omega,List.replicate_succ',aq4];congr 1;rw[aq9 _ _ (by simp)];simp[tG]
theorem ajr (n:Q) {l:am} {K:U->am->Prop} (aS:∀ v j l',bG 1 l' v j ((dR n.toNat).map bN)->l.length<=l'.length->(∀ b,b<l.length->l'[b]? = l[b]?)->l.length<=j->cq v=false->K v l') :
  c2 Tryz.prog GS 144 [cD n] l (c:=⟨K⟩) :=by
 apply bb Tryz.func144 [];have ci:((u n:Int)<=247)<->n.toNat<=247:=by unfold u; omega
 by_cases h:n.toNat<=247
 ·have rr:dR n.toNat=[n.setWidth 8] :=by
   unfold dR; rw[if_pos h]; rfl
  simp[ci,h];refine aS _ l.length _ (oo (n:=1) (a:=dR n.toNat) (by rw[rr]; rfl) (by rw[rr]; simp)) (by simp) (fun b af=>aqt af) (aqv _) rfl
 ·have hk:=F3 n.toNat
  obtain⟨k,n3⟩:∃ k,kr n.toNat=k:=⟨_,rfl⟩
  have rr:dR n.toNat=qF n.toNat k k:=by unfold dR qF; rw[if_neg h,n3]; simp
  have BN:=aer n.toNat (by omega)
  rw[n3] at BN hk;obtain⟨L,ec⟩:∃ L,i4 n.toNat=L:=⟨_,rfl⟩
  rw[ec] at BN;have bS:IntKind.i64.wrap ((L:Int)+7)=((L+7:Nat) :Int) :=by rw[wrap_i64 (by omega) (by omega)]; omega
  have q1:b8 .quo .i64 ((L+7:Nat) :Int) .i64 8=some (.int .i64 (k:Int)) :=by rw[HP _ 8 (by omega) (by omega)]; rw[show (8:Int).toNat=8 from rfl,BN]
  have w2:IntKind.i64.wrap ((k:Int)+1)=((k+1:Nat) :Int) :=by rw[wrap_i64 (by omega) (by omega)]; omega
  have dT:IntKind.i64.wrap (247+(k:Int))=((247+k:Nat) :Int) :=by rw[wrap_i64 (by omega) (by omega)]; omega
  have lq:qC 1 1 [.int .u8 0] l (.int .i64 ((k+1:Nat) :Int)) (.int .i64 ((k+1:Nat) :Int))=some (.ar 1 l.length 0 (k+1) (k+1) (k+1),l++[.cells (k+1) ((List.replicate (k+1) 0#8).map a6)]) :=by
   unfold qC;have ay:cx=140737488355328:=rfl;simp only[];rw[if_pos ⟨by omega,by omega,by omega,by rw[ay]; omega⟩,Gt];simp
  simp[ci,h];refine aU (Tc n) rfl ?_;rw[ec];have eL:bn (List.replicate (k+1) (a6 0#8)) 0 [a6 (BitVec.ofNat 8 (247+k))]=(qF n.toNat k 0).map a6:=by
   rw[arq,ahZ,ah1]; simp[qF,tG]
  simp[bS,q1,w2,dT,lq,-Int.natCast_add];refine cE k (fun i ae l1=>ae 0=cD n/\ae 3=.int .i64 k/\ae 4=.ar 1 l.length 0 (k+1) (k+1) (k+1)/\ae 23=.int .i64 k/\ae 24=.int .i64 i/\l1=l++[.cells (k+1) ((qF n.toNat k i).map a6)]) ?_ ?_
  ·rintro i ae l1 ax ⟨b9,aW,bd,yM,lN,rfl⟩;obtain⟨ae,rfl⟩:=lC b9 aW bd yM lN;clear b9 aW bd yM lN;by_cases mF:i<k
   ·have hP:IntKind.i64.wrap ((k:Int) - i)=((k - i:Nat) :Int) :=by rw[wrap_i64 (by omega) (by omega)]; omega
    have jb:IntKind.i64.wrap (8*(i:Int))=((8*i:Nat) :Int) :=by rw[wrap_i64 (by omega) (by omega)]; omega
    have Ak:IntKind.i64.wrap ((i:Int)+1)=((i+1:Nat) :Int) :=by rw[wrap_i64 (by omega) (by omega)]; omega
    have l7:b8 .shr .u64 (u n) .i64 ((8*i:Nat) :Int)=some (.int .u64 (u (n >>> (8*i)))) :=sq n .i64 (8*i);have qN:=DP n i;have Do:=ny a6 (qF n.toNat k i) (k - i) (kX n.toNat i) (by rw[Tz _ _ _ ax]; omega);rw[afl _ _ _ mF] at Do;obtain⟨d,br⟩:∃ d,k - i=d:=⟨_,rfl⟩
    obtain⟨e,ap⟩:∃ e,8*i=e:=⟨_,rfl⟩
    rw[br] at hP Do;rw[ap] at jb l7 qN;have y0:d<=k:=by omega
    simp[mF,hP,jb,Ak,l7,qN,Do,y0,-Int.natCast_add,ahx];omega
   ·have fP:i=k:=by omega
    subst fP;simp;refine aS _ l.length _ (oo (n:=i+1) (a:=dR n.toNat) (by rw[rr,Tz _ _ _ (aqv _)]) (by rw[rr]; simp)) (by simp) (fun b af=>aqt af) (aqv _) rfl
  ·simp;exact eL
theorem aff {n:Nat} (h:n<18446744073709551616) :n<256 ^ kr n:=by
 unfold kr; (repeat' split)<;>simp<;>omega
theorem afg {n k:Nat} (h1:1<=n) (h:k<kr n) :256 ^ k<=n:=by
 have eb:=(F3 n).2;have hk:k=0\/k=1\/k=2\/k=3\/k=4\/k=5\/k=6\/k=7:=by omega
 rcases hk with rfl | rfl | rfl | rfl | rfl | rfl | rfl | rfl<;>simp<;>unfold kr at h<;>(repeat' split at h)<;>omega
theorem ahG {n k:Nat} (h1:1<=n) (h:n<18446744073709551616) (hk:k<=kr n) :n >>> (8*k)=0<->k=kr n:=by
 have aB:2 ^ (8*k)=256 ^ k:=by rw[Nat.pow_mul]
 rw[aqO,aB,Nat.div_eq_zero_iff];constructor
 ·rintro (ad | ad)
  ·exact absurd ad (by have:0<256 ^ k:=Nat.pow_pos (by decide); omega)
  ·rcases arC k (kr n) with aj | aj
   ·have:=afg h1 aj; omega
   ·omega
 ·rintro rfl;exact .inr (aff h)
theorem Vn (n:Nat) :∀ k,tG n k=((List.range k).map (kX n)).reverse
 | 0=>rfl
 | k+1=>by rw[tG,Vn n k,arQ,aqV,List.reverse_append]; rfl
def oY (n k:Nat) :List B:=(List.range k).map (kX n)
theorem Yz (n k:Nat) :oY n (k+1)=oY n k++[kX n k] :=by simp[oY,arQ]
theorem yD (n k:Nat) :(oY n k).length=k:=by simp[oY]
theorem Pq (n k i:Nat) (h:i<k) :(oY n k)[i]? = some (kX n i) :=by simp[oY,h]
theorem agX (x:Q) :b8 .rem .u64 (u x) .u64 256=some (.int .u64 (u (x % 256#64))) :=yo x 256#64 (by decide)
theorem agi (x:Q) :b8 .quo .u64 (u x) .u64 256=some (.int .u64 (u (x / 256#64))) :=Ls x 256#64 (by decide)
theorem aeG (n:Q) (i:Nat) :((n >>> (8*i)) % 256#64).setWidth 8=kX n.toNat i:=by
 rw[<-DP];apply aqE;rw[aqF,arH,aqF];show _ % 256 % 2 ^ 8=_ % 2 ^ 8;omega
theorem afb (n:Q) (i:Nat) :(n >>> (8*i)) / 256#64=n >>> (8*(i+1)) :=by
 apply aqE;rw[arU,arc,arc,aqO,aqO,show 8*(i+1)=8*i+8 by omega,as4,<-Nat.div_div_eq_div_mul]; rfl
theorem b7.get {l l1:am} {v:U} {a:List B} {fo:Bool} (h:b7 1 bN l l1 v a fo) {k:IntKind} {i:Nat} {x:B} (ag:a[i]? = some x) :∃ p cs o,cv (.ar 1) v (.int k (i:Int))=some p/\dY l1 p=some (cs,o)/\cs[o]? = some (a6 x) :=by
 obtain⟨j,h,_⟩:=h;obtain⟨p,cs,o,h1,ad,aj,aC⟩:=h.q.get (k:=k) (i:=i) (e:=bN x) (by rw[aqx,ag]; rfl);refine⟨p,cs,o,h1,ad,?_⟩;have:=congrArg (fun l=>l[0]?) aC;simp[asH,aq3,bN] at this;exact this
theorem x3 (n:Q) {l:am} {K:U->am->Prop} (aS:∀ v l',b7 1 bN l l' v (dR n.toNat) false->K v l') :c2 Tryz.prog GS 144 [cD n] l (c:=⟨K⟩) :=
 ajr n fun v j l' h1 ad aj aC aZ=>aS v l' ⟨j,h1,ad,aj,.inr aC,aZ⟩
structure Ws (l:am) (n:Q) (i:Nat) (ae:a2) (l1:am) :Prop where
 b9:ae 0=cD (n >>> (8*i))
 nv:∃ v,ae 3=v/\b7 1 bN l l1 v (oY n.toNat i) (decide (i=0))
structure Wt (l1:am) (v:U) (n:Q) (k i:Nat) (ae:a2) (bZ:am) :Prop where
 aW:ae 3=v
 bh:ae 5=.int .i64 ((k:Int) - 1 - i)
 nv:∃ w,ae 4=w/\b7 1 bN l1 bZ w (BitVec.ofNat 8 (247+k) ::((oY n.toNat k).reverse.take i)) false
theorem vx (n:Q) {l:am} {K:U->am->Prop} (aS:∀ v l',b7 1 bN l l' v (dR n.toNat) false->K v l') :
  c2 Tryz.prog GS 121 [cD n] l (c:=⟨K⟩) :=by
 apply bb Tryz.func121 [];have ci:((u n:Int)<=247)<->n.toNat<=247:=by unfold u; omega
 by_cases h:n.toNat<=247
 ·have rr:dR n.toNat=[n.setWidth 8] :=by
   unfold dR; rw[if_pos h]; rfl
  simp[ci,h];exact aS _ _ ⟨l.length,oo (n:=1) (a:=dR n.toNat) (by rw[rr]; rfl) (by rw[rr]; simp),by simp,fun b af=>aqt af,.inr (aqv _),rfl⟩
 ·have aaY:=n.isLt;have hk:=F3 n.toNat
  simp[ci,h];refine cE (kr n.toNat) (Ws l n) ?_ ⟨by simp,.aX,by simp,b7.nil⟩;rintro i ae l1 ax ⟨b9,v,aW,ed⟩;obtain⟨ae,rfl⟩:=nA b9 aW;clear b9 aW;have av:=ahG (n:=n.toNat) (k:=i) (by omega) (by omega) ax;have ke:((0:Int)<u (n >>> (8*i)))<->¬ i=kr n.toNat:=by
   rw[<-av]; unfold u; rw[arc]; generalize n.toNat >>> (8*i)=q; omega
  by_cases mF:i=kr n.toNat
  ·obtain⟨k,n3⟩:∃ k,kr n.toNat=k:=⟨_,rfl⟩
   rw[n3] at mF ke hk;subst mF;have acn:dR n.toNat=BitVec.ofNat 8 (247+i) ::(oY n.toNat i).reverse:=by
    unfold dR; rw[if_neg h,n3,Vn]; rfl
   have bc:=ed.len;rw[yD] at bc;have bS:IntKind.i64.wrap (247+(i:Int))=((247+i:Nat) :Int) :=by rw[wrap_i64 (by omega) (by omega)]; omega
   have w2:IntKind.i64.wrap ((i:Int) - 1)=(i:Int) - 1:=wrap_i64 (by omega) (by omega);have f1:(dR n.toNat)=BitVec.ofNat 8 (247+i) ::(oY n.toNat i).reverse.take i:=by rw[acn,aqs (by rw[List.length_reverse,yD]; omega)]
   simp[ke,bc,bS,w2,-Int.natCast_add];refine cE i (Wt l1 v n i) ?_ ⟨by simp,by simp,_,by simp,⟨l1.length,oo (n:=1) (a:=[BitVec.ofNat 8 (247+i)]) rfl (by simp),by simp,fun b af=>aqt af,.inr (aqv _),rfl⟩⟩;rintro j ae bZ ai ⟨aW,bh,w,bd,tp⟩;have pk:=ed.frame tp.le tp.same;obtain⟨ae,rfl⟩:=lB aW bd bh;clear aW bd bh;by_cases ni:j=i
   ·have lR:¬ (j:Int)<=(i:Int) - 1:=by omega
    rw[ni,<-f1] at tp;simp[lR];exact aS _ _ (tp.base ed.le ed.same)
   ·have y5:(j:Int)<=(i:Int) - 1:=by omega
    have uM:((i:Int) - 1 - j)=((i - 1 - j:Nat) :Int) :=by omega
    have dT:IntKind.i64.wrap ((i:Int) - 1 - j - 1)=(i:Int) - 1 - (j+1:Nat) :=by rw[wrap_i64 (by omega) (by omega)]; omega
    obtain⟨p,cs,o,q1,fZ,pt⟩:=b7.get pk (k:=.i64) (Pq n.toNat i (i - 1 - j) (by omega));rw[<-uM] at q1;have ag:(oY n.toNat i).reverse[j]? = some (kX n.toNat (i - 1 - j)) :=by
     rw[List.getElem?_reverse (by rw[yD]; omega),yD,Pq _ _ _ (by omega)]
    have Fh:=yD n.toNat i;obtain⟨w',l',a7,bl⟩:=b7.push tp (kX n.toNat (i - 1 - j)) (by simp; omega);simp[y5,q1,fZ,pt,a7];refine dq.cr ?_;simp[dT];exact⟨by omega,by simp,by simp,w',by simp,by rw[aqN,ag]; simpa using bl⟩
  ·have wK:=yD n.toNat i;obtain⟨a8,l',a7,bl⟩:=b7.push ed (kX n.toNat i) (by omega);rw[<-Yz] at bl;have bm:b8 .quo .u64 (u (n >>> (8*i))) .u64 256=some (cD (n >>> (8*(i+1)))) :=by rw[agi,afb]
   simp[ke,mF,agX,bm,aeG,a7];refine dq.cr ?_;simp[bm];exact⟨by omega,by simp,a8,by simp,by simpa using bl⟩
end Op

end Go.bJ

namespace Go.bJ
open Go Go.Proofs
set_option maxRecDepth 100000
namespace Op
open eX
def ma (n:Int) :Q:=if 0<=n then BitVec.ofNat 64 (2*n.toNat) else BitVec.ofNat 64 (2*(-(n+1)).toNat+1)
theorem ajv (n:Int) (h1:-9223372036854775808<=n) (ad:n<9223372036854775808) {l:am} {K:U->am->Prop} (aS:∀ v l',b7 1 bN l l' v (dR (ma n).toNat) false->K v l') :
  c2 Tryz.prog GS 248 [.int .i64 n] l (c:=⟨K⟩) :=by
 apply bb Tryz.func248 [];have aR:b8 .shl .u64 (u (BitVec.ofInt 64 n)) .u64 1=some (.int .u64 (u (BitVec.ofInt 64 n <<< 1))) :=NN _ .u64 1;have bI:b8 .shr .i64 n .u64 63=some (.int .i64 (if 0<=n then 0 else -1)) :=by
  show (if (63:Int)<0 then none else some (U.int .i64 (n.fdiv (2 ^ min (63:Int).toNat 64))))=_;rw[if_neg (by omega)];congr 2;have:(2:Int) ^ min (63:Int).toNat 64=9223372036854775808:=by decide
  rw[this,Int.fdiv_eq_ediv_of_nonneg _ (by omega)];split<;>omega
 have av:BitVec.ofInt 64 n <<< 1 ^^^ BitVec.ofInt 64 (if 0<=n then 0 else -1)=ma n:=by
  unfold ma;by_cases h:0<=n
  ·rw[if_pos h,if_pos h];obtain⟨m,rfl⟩:=ar6 h;rw[arT,arG];have:BitVec.ofInt 64 (0:Int)=0#64:=rfl;rw[this,BitVec.xor_zero];apply aqE;rw[asp,aqK,aqK,ar1];omega
  ·rw[if_neg h,if_neg h];obtain⟨m,hm⟩:=ar6 (show 0<=-(n+1) by omega);have aD:n=-((m:Int)+1) :=by omega
   have a7:BitVec.ofInt 64 (-1:Int)=BitVec.allOnes 64:=by decide
   have bl:BitVec.ofInt 64 n = ~~~ BitVec.ofNat 64 m:=by
    apply aqE;rw[aD,BitVec.toNat_ofInt,atr,aqK];omega
   have jo:m<9223372036854775808:=by omega
   rw[a7,bl,BitVec.xor_allOnes,hm,arG];apply aqE;rw[atr,asp,atr,aqK,aqK,ar1];omega
 simp[aR,bI,av];refine x3 _ fun v l' h=>?_
 simp;exact aS v l' h
theorem agz (n:Int) (h1:-9223372036854775808<=n) (ad:n<9223372036854775808) {l:am} {K:U->am->Prop} (aS:∀ v l',b7 1 bN l l' v (dR (ma n).toNat) false->K v l') :
  c2 Tryz.prog GS 225 [.int .i64 n] l (c:=⟨K⟩) :=by
 apply bb Tryz.func225 [];by_cases h:0<=n
 ·obtain⟨m,rfl⟩:=ar6 h;have av:2#64*BitVec.ofNat 64 m=ma m:=by
   unfold ma; rw[if_pos h,arG];apply aqE;simp only[asd,aqK];omega
  simp[av];refine vx _ fun v l' h=>?_
  simp;exact aS v l' h
 ·have bS:IntKind.i64.wrap (n+1)=n+1:=wrap_i64 (by omega) (by omega);have w2:IntKind.i64.wrap (0 - (n+1))=0 - (n+1) :=wrap_i64 (by omega) (by omega);have w2:IntKind.i64.wrap (-(n+1))=-(n+1) :=wrap_i64 (by omega) (by omega);have av:2#64*BitVec.ofInt 64 (-(n+1))+1#64=ma n:=by
   obtain⟨m,hm⟩:=ar6 (show 0<=-(n+1) by omega);unfold ma; rw[if_neg h,hm,arG,arT];apply aqE;simp only[asd,aqK,atp];omega
  simp[h,bS,w2,av];refine vx _ fun v l' h=>?_
  simp;exact aS v l' h
def io (s:List B) :List B:=dR s.length++s
theorem hD (n:Nat) :(dR n).length<=9:=by
 unfold dR;have:=(F3 n).2;split
 ·simp
 ·simp[Mj]; omega
theorem Zu (s:List B) :(s.map bN).flatten=s.map a6:=wn s
theorem Pk (l:am) (s:dD) :c8 l 1 (bX s)=some ((s.l.map bN).flatten,s.l.length) :=wi l 1 bN s
theorem VP (s:dD) (al:s.l.length<=10000) {x:U} {l:am} (ag:c8 l 1 x=some ((s.l.map bN).flatten,s.l.length)) (bc:cL (.ar 1) x=some (.int .i64 s.l.length)) (b4:∀ l',l.length<=l'.length->(∀ b,b<l.length->l'[b]? = l[b]?)->c8 l' 1 x=some ((s.l.map bN).flatten,s.l.length))
  {K:U->am->Prop} (aS:∀ v l',b7 1 bN l l' v (io s.l) false->K (.bu [v,.int .i64 0]) l') :c2 Tryz.prog GS 197 [x] l (c:=⟨K⟩) :=by
 apply bb Tryz.func197 [];have h1:¬ ((10000:Int)<s.l.length) :=by omega
 have ay:cx=140737488355328:=rfl;simp[bc,h1];refine x3 _ fun v l' h=>?_
 have aD:(BitVec.ofNat 64 s.l.length).toNat=s.l.length:=by rw[aqK]; exact aqC (by omega)
 rw[aD] at h;have lh:=hD s.l.length;obtain⟨a8,bZ,a7,bl,_⟩:=h.app (by_:=1) (x:=x) (xs:=s.l) (b4 l' h.le h.same) (by simp[bN]) (by omega) (by omega) (by rw[ay]; omega);simp[a7];refine dq.cr ?_;simp;exact aS a8 bZ (by simpa [io] using bl)
theorem Us (s:dD) (al:s.l.length<=10000) {x:U} {l:am} (ag:c8 l 1 x=some ((s.l.map bN).flatten,s.l.length)) (bc:cL (.ar 1) x=some (.int .i64 s.l.length)) (b4:∀ l',l.length<=l'.length->(∀ b,b<l.length->l'[b]? = l[b]?)->c8 l' 1 x=some ((s.l.map bN).flatten,s.l.length))
  {K:U->am->Prop} (aS:∀ v l',b7 1 bN l l' v (io s.l) false->K v l') :c2 Tryz.prog GS 172 [x] l (c:=⟨K⟩) :=by
 apply bb Tryz.func172 [];have ay:cx=140737488355328:=rfl;simp[bc];refine vx _ fun v l' h=>?_
 have aD:(BitVec.ofNat 64 s.l.length).toNat=s.l.length:=by rw[aqK]; exact aqC (by omega)
 rw[aD] at h;have lh:=hD s.l.length;obtain⟨a8,bZ,a7,bl,_⟩:=h.app (by_:=1) (x:=x) (xs:=s.l) (b4 l' h.le h.same) (by simp[bN]) (by omega) (by omega) (by rw[ay]; omega);simp[a7];refine dq.cr ?_;simp;exact aS a8 bZ (by simpa [io] using bl)
def aY (i:List B) :List U:=i.map a6
abbrev eI:=ez (List B)
def aT (s:eI) :U:=cy 32 aY s
def g7 (s:eI) :Prop:=∀ i∈s.l,i.length=32
theorem hX (i:List B) :aV (aY i)=true:=kZ a6 (fun _=>rfl) _
theorem gC (s:eI) :(aT s).closed=true:=uk hX s
theorem O6:∀ a b:List B,a.length=b.length->m4 (a.map fun x=>UInt8.ofNat x.toNat) (b.map fun x=>UInt8.ofNat x.toNat)=cd a b
 | [],[],_=>rfl
 | [],_::_,h=>by simp at h
 | _::_,[],h=>by simp at h
 | x::a,y::b,h=>by
  have aJ:=O6 a b (by simpa using h);have ag:=x.isLt;have aG:=y.isLt;rw[O5];simp only[aqP,m4,aJ];have aR:(UInt8.ofNat x.toNat=UInt8.ofNat y.toNat)<->x.toNat=y.toNat:=by
   constructor
   ·intro h;have:=congrArg UInt8.toNat h;simp only[atc] at this;omega
   ·intro h; rw[h]
  have bI:(UInt8.ofNat x.toNat<UInt8.ofNat y.toNat)<->x.toNat<y.toNat:=by
   rw[UInt8.lt_iff_toNat_lt]; simp only[atc];rw[aqC (by omega),aqC (by omega)]
  by_cases h1:x.toNat=y.toNat
  ·rw[if_pos (aR.2 h1),if_neg (by omega),if_neg (by omega)]
  ·rw[if_neg (fun h=>h1 (aR.1 h))];by_cases ad:x.toNat<y.toNat
   ·rw[if_pos (bI.2 ad),if_pos ad]
   ·rw[if_neg (fun h=>ad (bI.1 h)),if_neg ad,if_pos (by omega)]
@[simp ↓] theorem aoD {P:Program} {aw:Operand->U} {l:am} (f:FuncId) (q9 x y:Operand) :bF P aw l (.cd f q9 x y)=(match Ck f (aw q9) with | true=>da l (cmpL l (aw x) (aw y)) | false=>none) :=id rfl
@[simp ↓] theorem anL (f:FuncId) (q9 x y:Operand) (v:U) (l:am) (K:U->am->Prop) :dP (.cd f q9 x y) v l K=K v l:=id rfl
@[simp] theorem amZ (f:FuncId) :Ck f (.fn f [] [])=true:=atl f
theorem NS:∀ a:List B,kY (a.map a6)=some (a.map fun x=>UInt8.ofNat x.toNat)
 | []=>rfl
 | x::a=>by
  simp only[aqP,kY,NS a,aqy];simp[u]
theorem NT (l:am) (s:dD) :nM l (bX s)=some (s.l.map fun x=>UInt8.ofNat x.toNat) :=by
 have h:=Pk l s;rw[Zu] at h;cases s with
 | none=>simp[nM,cy,c8,kY]
 | some a=>
  unfold nM;simp only[cy];have ad:c8 l 1 (U.b0 1 (a.map bN))=some (a.map a6,a.length) :=h;rw[ad];exact NS a
theorem DG (a b:dD) (h:a.l.length=b.l.length) :bi Tryz.prog GS 138 [bX a,bX b] (.int .i64 (cd a.l b.l)) :=by
 refine bt Tryz.checked.mixed bp ?_;apply ZP Tryz.func138 [];have ah:cmpL [] (bX a) (bX b)=some (.int .i64 (cd a.l b.l)) :=by
  unfold cmpL;rw[NT,NT];simp only[O6 _ _ h]
 simp[ah];exact aH rfl rfl
theorem Da {n b:Nat} (dL:0<n) :gb (.arr n 1) (.ptr b 0 n) none none none=some (.ar 1 b 0 n n n) :=by
 have:gh n n none none none=some (0,n,n) :=rfl;simp only[gb,this];rw[if_pos (by omega),if_neg (by omega)];simp
theorem yy (a b:List B) (az:a.length=32) (af:b.length=32) :bi Tryz.prog GS 204 [fJ a,fJ b] (.int .i64 (cd a b)) :=by
 refine bt Tryz.checked.mixed bp ?_;apply bb Tryz.func204 [];have al:=Da (n:=32) (b:=1) (by omega);have B5:=Da (n:=32) (b:=0) (by omega);simp[fJ,az,af,al,B5];have ah:=DG (some a) (some b) (by simp[az,af]);refine il ah ?_ rfl ?_
 ·exact .cons ((oo (j:=0) az rfl).mT (fun _=>rfl) (some a) rfl rfl) (.cons ((oo (j:=1) af rfl).mT (fun _=>rfl) (some b) rfl rfl) .nil)
 ·simp;exact aH rfl rfl
theorem agQ (a b:List B) (az:a.length=32) (af:b.length=32) :bi Tryz.prog GS 107 [fJ a,fJ b] (.int .i64 (cd a b)) :=by
 refine bt Tryz.checked.mixed bp ?_;apply bb Tryz.func107 [];obtain⟨A,cT⟩:∃ A,A=a.map a6:=⟨_,rfl⟩
 obtain⟨C,sO⟩:∃ C,C=b.map a6:=⟨_,rfl⟩
 have j7:A.length=32:=by rw[cT,aqS,az]
 have EA:C.length=32:=by rw[sO,aqS,af]
 unfold fJ;rw[<-cT,<-sO];simp[j7,EA];refine cE 32 (fun k ae l=>ae 2=.ptr 0 0 32/\ae 3=.ptr 1 0 32/\ae 5=.int .i64 k/\l=[.cells 32 A,.cells 32 C]/\∀ j,j<k->a[j]? = b[j]?) ?_ (by simp);rintro k ae l hk ⟨aQ,aW,bh,rfl,heq⟩;obtain⟨ae,rfl⟩:=lB aQ aW bh;clear aQ aW bh;have wL:=Yf k heq (by omega) (by omega);by_cases h:(k:Int)<32
 ·have gv:k<32:=by omega
  have eQ:IntKind.i64.wrap ((k:Int)+1)=(k+1:Nat) :=wrap_i64 (by omega) (by omega);obtain⟨x,ag,_⟩:=bW (l:=a) (k:=k) (by omega);obtain⟨y,aG,_⟩:=bW (l:=b) (k:=k) (by omega);have Z9:A[k]? = some (a6 x) :=by rw[cT,aqx,ag]; rfl
  have aal:C[k]? = some (a6 y) :=by rw[sO,aqx,aG]; rfl
  obtain⟨_,IP⟩:=aqr.1 Z9;obtain⟨_,IR⟩:=aqr.1 aal;have Jk:a.drop k=x::a.drop (k+1) :=by
   obtain⟨h1,ad⟩:=aqr.1 ag;rw[arm h1,ad]
  have abb:b.drop k=y::b.drop (k+1) :=by
   obtain⟨h1,ad⟩:=aqr.1 aG;rw[arm h1,ad]
  rw[Jk,abb,O5] at wL;have tL:((u x:Int)<u y)<->x.toNat<y.toNat:=by unfold u; omega
  have tM:((u y:Int)<u x)<->y.toNat<x.toNat:=by unfold u; omega
  by_cases ci:x.toNat<y.toNat
  ·rw[if_pos ci] at wL;have DQ:x<y:=ci;simp[h,gv,j7,EA,IP,IR,DQ];exact aH (by rw[<-wL]) rfl
  ·have DQ:¬ x<y:=ci;rw[if_neg ci] at wL;by_cases dd:y.toNat<x.toNat
   ·rw[if_pos dd] at wL;have HS:y<x:=dd;simp[h,gv,j7,EA,IP,IR,DQ,HS];exact aH (by rw[<-wL]) rfl
   ·have HS:¬ y<x:=dd;simp[h,gv,j7,EA,IP,IR,DQ,HS,eQ];intro j ai;by_cases h5:j=k
    ·subst h5;rw[ag,aG];have:x=y:=aqE (by omega);rw[this]
    ·exact heq j (by omega)
 ·have et:k=32:=by omega
  subst et;have:cd a b=0:=by
   rw[<-wL,arx (by omega),arx (by omega)]; rfl
  simp;exact aH (by rw[this]) rfl
abbrev bU (l:List (List B)) (k:Nat) :List B:=l.getD k []
def eB (l:List (List B)) :Bool:=decide (∀ k,k<l.length->1<=k->cd (bU l (k - 1)) (bU l k)<0)
def xW (l:List (List B)) :Bool:=decide (∀ k,k<l.length->1<=k->¬ cd (bU l k) (bU l (k - 1))<0)
theorem gG {l:List (List B)} {k:Nat} {x:List B} (h:l[k]? = some x) :bU l k=x:=by
 unfold bU; rw[aqD,h]; rfl
theorem LG {l:List (List B)} (h:∀ k,k<l.length->1<=k->cd (bU l (k - 1)) (bU l k)<0) :eB l=true:=decide_eq_true h
theorem UN {l:List (List B)} {k:Nat} (hk:k<l.length) (h1:1<=k) (h:¬ cd (bU l (k - 1)) (bU l k)<0) :eB l=false:=decide_eq_false fun aM=>h (aM k hk h1)
theorem U8 {l:List (List B)} (h:∀ k,k<l.length->1<=k->¬ cd (bU l k) (bU l (k - 1))<0) :xW l=true:=decide_eq_true h
theorem ah6 {l:List (List B)} {k:Nat} (hk:k<l.length) (h1:1<=k) (h:cd (bU l k) (bU l (k - 1))<0) :xW l=false:=decide_eq_false fun aM=>aM k hk h1 h
theorem dk {x:List B} (h:x.length=32) :(aY x).length=32:=by simp[aY,h]
theorem Uq (a:eI) (az:g7 a) (ak:a.l.length<=1000000) :bi Tryz.prog GS 69 [aT a] (.bool (eB a.l)) :=by
 refine bt Tryz.checked.mixed bp ?_;apply bb Tryz.func69 [];simp[aT];refine cE (a.l.length - 1) (fun k ae l=>ae 0=cy 32 aY a/\ae 3=.int .i64 ((k+1:Nat) :Int)/\∀ j,j<k+1->j<a.l.length->1<=j->cd (bU a.l (j - 1)) (bU a.l j)<0) ?_ ⟨by simp[aT],by simp,fun j h1 _ ad=>by omega⟩;rintro k ae l hk ⟨b9,aW,al⟩;obtain⟨s,rfl⟩:=nA b9 aW;clear b9 aW;obtain⟨m,hm⟩:∃ m,m=k+1:=⟨_,rfl⟩
 rw[<-hm] at al ⊢;simp;refine lY (fun h=>?_) (fun h=>?_)
 ·simp only[decide_eq_true_eq] at h;have aL:m<a.l.length:=by omega
  obtain⟨x,ag,dm⟩:=bW (l:=a.l) (k:=k) (by omega);obtain⟨y,aG,dg⟩:=bW aL;have aR:IntKind.i64.wrap ((m:Int) - 1)=(k:Int) :=by rw[IntKind.wrap_i64]; omega
  have bI:IntKind.i64.wrap ((m:Int)+1)=((m+1:Nat) :Int) :=by rw[IntKind.wrap_i64]; omega
  have fR:=gG ag;have oh:=gG aG;simp[aR,ag,aG,dk (az x dm),dk (az y dg),aqs];refine aU (agQ x y (az x dm) (az y dg)) (by simp[aV,hX,U.closed,fJ]) ?_;by_cases ah:cd x y<0
  ·have e8:¬ (0<=cd x y) :=by omega
   simp[e8,bI];refine⟨by omega,fun j h1 ad aj=>?_⟩;have e4:cd (bU a.l (j - 1)) (bU a.l j)<0:=by
    by_cases ai:j=m
    ·rw[ai,show m - 1=k by omega,fR,oh]; exact ah
    ·exact al j (by omega) ad aj
   simpa [bU] using e4
  ·have e8:0<=cd x y:=by omega
   simp[e8];refine aH (congrArg U.bool (UN (k:=m) aL (by omega) ?_).symm) rfl;rw[show m - 1=k by omega,fR,oh];exact ah
 ·simp[h];exact aH (congrArg U.bool (LG fun j h1 ad=>al j (by simp at h; omega) h1 ad).symm) rfl
theorem It:ht Tryz.prog 204=true:=by kernel_rfl
theorem adU (a:eI) (az:g7 a) (ak:a.l.length<=1000000) :bi Tryz.prog GS 203 [aT a,.fn 204 [] []] (.bool (xW a.l)) :=by
 refine bt Tryz.checked.mixed bp ?_;apply bb Tryz.func203 [];have eL:IntKind.i64.wrap ((a.l.length:Int) - 1)=(a.l.length:Int) - 1:=by rw[IntKind.wrap_i64]; omega
 simp[aT,eL];refine cE (a.l.length - 1) (fun k ae l=>ae 0=cy 32 aY a/\ae 1=.fn 204 [] []/\ae 5=.int .i64 ((a.l.length:Int) - 1 - k)/\∀ j,j<a.l.length->a.l.length - 1 - k<j->¬ cd (bU a.l j) (bU a.l (j - 1))<0) ?_ ⟨by simp[aT],by simp,by simp,fun j h1 ad=>by omega⟩;rintro k ae l hk ⟨b9,aF,bh,al⟩;obtain⟨s,rfl⟩:=lB b9 aF bh;clear b9 aF bh;simp;refine lY (fun h=>?_) (fun h=>?_)
 ·simp only[decide_eq_true_eq] at h;obtain⟨m,hm⟩:∃ m,m+k+2=a.l.length:=⟨a.l.length - 2 - k,by omega⟩
  have aR:((a.l.length:Int) - 1 - k)=((m+1:Nat) :Int) :=by omega
  rw[aR];obtain⟨x,ag,dm⟩:=bW (l:=a.l) (k:=m+1) (by omega);obtain⟨y,aG,dg⟩:=bW (l:=a.l) (k:=m) (by omega);obtain⟨n,aD⟩:∃ n,n=m+1:=⟨_,rfl⟩
  rw[<-aD] at ag ⊢;have bI:IntKind.i64.wrap ((n:Int) - 1)=(m:Int) :=by rw[IntKind.wrap_i64]; omega
  have fR:=gG ag;have oh:=gG aG;simp[bI,ag,aG,dk (az x dm),dk (az y dg),aqs];refine⟨It,aU (yy x y (az x dm) (az y dg)) (by simp[aV,hX,U.closed,fJ]) ?_⟩;by_cases ah:cd x y<0
  ·simp[ah];refine aH (congrArg U.bool (ah6 (k:=n) (by omega) (by omega) ?_).symm) rfl;rw[show n - 1=m by omega,fR,oh];exact ah
  ·simp[ah,bI];refine⟨by omega,by omega,fun j h1 ad=>?_⟩;have e4:¬ cd (bU a.l j) (bU a.l (j - 1))<0:=by
    by_cases ai:j=n
    ·rw[ai,show n - 1=m by omega,fR,oh]; exact ah
    ·exact al j h1 (by omega)
   simpa [bU] using e4
 ·simp[h];exact aH (congrArg U.bool (U8 fun j h1 ad=>al j h1 (by simp at h; omega)).symm) rfl
def yE (l:List (List B)) (k:Nat) :Bool:=decide (k+1<l.length)&&decide (0<=cd (bU l k) (bU l (k+1)))
theorem UM {l:List (List B)}:eB l=true<->∀ k,k<l.length->yE l k=false:=by
 unfold eB yE;rw[decide_eq_true_eq];constructor
 ·intro h k hk;by_cases h1:k+1<l.length
  ·have:=h (k+1) h1 (by omega);rw[aso] at this;rw[decide_eq_false (p:=0<=_) (by omega),Bool.and_false]
  ·simp[h1]
 ·intro h k hk h1;have:=h (k - 1) (by omega);rw[show k - 1+1=k by omega] at this;rw[decide_eq_true hk,art,decide_eq_false_iff_not] at this;omega
theorem ag3 (a:eI) (az:g7 a) (ak:a.l.length<=1000000) (k:Nat) (hk:k<a.l.length) (x:List B) (ag:x.length=32) (r:am) {K:U->am->Prop}
  (aS:∀ cC,K (.bool (yE a.l k)) (.cells 1 [aT a] ::.cells 1 [.int .i64 ((k+1:Nat) :Int)] ::cC)) :
  c2 Tryz.prog GS 257 [fJ x,.ptr 1 0 1,.ptr 0 0 1] (.cells 1 [aT a] ::.cells 1 [.int .i64 (k:Int)] ::r) (c:=⟨K⟩) :=by
 apply bb Tryz.func257 [];have aR:IntKind.i64.wrap ((k:Int)+1)=((k+1:Nat) :Int) :=by rw[IntKind.wrap_i64]; omega
 obtain⟨m,hm⟩:∃ m,m=k+1:=⟨_,rfl⟩
 rw[<-hm] at aR aS;have bI:IntKind.i64.wrap ((m:Int) - 1)=(k:Int) :=by rw[IntKind.wrap_i64]; omega
 unfold yE at aS;rw[<-hm] at aS;obtain⟨y,aG,dg⟩:=bW hk;by_cases h:m<a.l.length
 ·obtain⟨z,av,SC⟩:=bW h;have oh:=gG aG;have adX:=gG av;rw[oh,adX] at aS;have h' : (m:Int)<(a.l.length:Int) :=by omega
  have uZ:a.l[m]=z:=(aqr.1 av).2;simp[fJ,aT,aR,bI,h,h',aG,uZ,dk (az y dg),dk (az z SC),aqs];refine aU (yy y z (az y dg) (az z SC)) (by simp[aV,hX,U.closed,fJ]) ?_;have:=aS (r++[bg.cells x.length (List.map a6 x)]);simpa [h,aT] using this
 ·have h' : ¬ (m:Int)<(a.l.length:Int) :=by omega
  simp[fJ,aT,aR,bI,h,h'];have:=aS (r++[bg.cells x.length (List.map a6 x)]);simpa [h,aT] using this
theorem Zz:ht Tryz.prog 257=true:=by kernel_rfl
theorem ag5 (a:eI) (az:g7 a) (ak:a.l.length<=1000000) {K:U->am->Prop} (aS:∀ n cC,(n<0<->eB a.l=true)->K (.int .i64 n) cC) :
  c2 Tryz.prog GS 273 [aT a,.fn 257 [] [.ptr 1 0 1,.ptr 0 0 1]] [.cells 1 [aT a],.cells 1 [.int .i64 0]] (c:=⟨K⟩) :=by
 apply bb Tryz.func273 [];simp[aT];refine cE a.l.length (fun k ae l=>ae 0=cy 32 aY a/\ae 1=.fn 257 [] [.ptr 1 0 1,.ptr 0 0 1]/\ae 7=.int .i64 a.l.length/\ae 8=.int .i64 k/\(∃ r,l=.cells 1 [aT a] ::.cells 1 [.int .i64 (k:Int)] ::r)/\∀ j,j<k->yE a.l j=false) ?_ ⟨by simp[aT],by simp,by simp,by simp,⟨[],by simp[aT]⟩,fun j h=>by omega⟩;rintro k ae l hk ⟨b9,aF,eR,eS,⟨r,rfl⟩,al⟩;obtain⟨s,rfl⟩:=iq b9 aF eR eS;clear b9 aF eR eS;simp;refine lY (fun h=>?_) (fun h=>?_)
 ·simp only[decide_eq_true_eq] at h;obtain⟨x,ag,dm⟩:=bW (l:=a.l) (k:=k) (by omega);have aR:IntKind.i64.wrap ((k:Int)+1)=((k+1:Nat) :Int) :=by rw[IntKind.wrap_i64]; omega
  simp[ag,dk (az x dm),aqs];refine⟨Zz,ag3 a az ak k (by omega) x (az x dm) r fun cC=>?_⟩;cases br:yE a.l k with
  | true=>
   simp;refine aS _ _ ⟨fun aD=>by omega,fun ay=>?_⟩;have:=UM.1 ay k (by omega);rw[br] at this; cases this
  | false=>
   simp[aR];refine⟨by omega,fun j ai=>?_⟩;by_cases h5:j=k
   ·subst h5; exact br
   ·exact al j (by omega)
 ·simp[h];refine aS _ _ ⟨fun _=>UM.2 fun j ai=>al j (by simp at h; omega),fun _=>by omega⟩
theorem ag4 (a:eI) (az:g7 a) (ak:a.l.length<=1000000) {K:U->am->Prop} (aS:∀ cC,K (.bool (!eB a.l)) cC) :
  c2 Tryz.prog GS 256 [aT a,.fn 257 [] [.ptr 1 0 1,.ptr 0 0 1]] [.cells 1 [aT a],.cells 1 [.int .i64 0]] (c:=⟨K⟩) :=by
 apply bb Tryz.func256 [];simp;refine ag5 a az ak fun n cC aD=>?_
 have e:decide (0<=n)=!eB a.l:=by
  cases ay:eB a.l with
  | true=>have:=aD.2 ay; simp; omega
  | false=>
   have:¬ n<0:=fun h=>by have:=aD.1 h; rw[ay] at this; cases this
   simp; omega
 simp[e];exact aS cC
theorem ag6 (a:eI) (az:g7 a) (ak:a.l.length<=1000000) :bi Tryz.prog GS 216 [aT a] (.bool (eB a.l)) :=by
 refine bt Tryz.checked.mixed bp ?_;apply bb Tryz.func216 [];have ah:(aT a).cells=some [aT a] :=by cases a<;>rfl
 simp[ah];refine ag4 a az ak fun cC=>?_
 simp;exact aH rfl rfl
def qy (l:List (List B)) :List B:=dR l.length++l.flatten
theorem OY:∀ (x:List B),mq 1 x.length (x.map a6)=x.map bN
 | []=>rfl
 | b::r=>by
  show ((a6 b::r.map a6).take 1) ::mq 1 r.length ((a6 b::r.map a6).drop 1)=_;simp[OY r,bN]
theorem X5 {x:List B} (h:x.length=32) :mq 1 32 (aY x)=x.map bN:=by
 have:=OY x;rw[h] at this;exact this
theorem Ki {l:List (List B)} (h:∀ x∈l,x.length=32) :l.flatten.length=l.length*32:=m9 h
theorem Vo {l:List (List B)} {k:Nat} {x:List B} (h:l[k]? = some x) :(l.take (k+1)).flatten=(l.take k).flatten++x:=by
 rw[aqN,h]; simp
theorem ahM {x:List B} (h:x.length=32) :gb (.arr 32 1) (.b5 (aY x) 0) none none none=some (.b0 1 (x.map bN)) :=by
 have:=X5 h;have af:gh 32 32 none none none=some (0,32,32) :=rfl;unfold gb;simp only[af];simp[dk h,this]
structure Wo (l:am) (s:eI) (k:Nat) (ae:a2) (l1:am) :Prop where
 b9:ae 0=cy 32 aY s
 bd:ae 4=.int .i64 k
 nv:∃ v,ae 3=v/\b7 1 bN l l1 v (dR s.l.length++(s.l.take k).flatten) false
theorem ags (s:eI) (aq:g7 s) (al:s.l.length<=1000) {l:am} {K:U->am->Prop} (aS:∀ v l',b7 1 bN l l' v (qy s.l) false->K v l') :
  c2 Tryz.prog GS 171 [aT s] l (c:=⟨K⟩) :=by
 apply bb Tryz.func171 [];have ay:cx=140737488355328:=rfl;have aD:(BitVec.ofNat 64 s.l.length).toNat=s.l.length:=by rw[aqK]; exact aqC (by omega)
 have lh:=hD s.l.length;simp[aT];refine vx _ fun v l' h=>?_
 rw[aD] at h;simp;refine cE s.l.length (Wo l s) ?_ ⟨by simp[aT],by simp,v,by simp,by simpa using h⟩;rintro k ae l1 hk ⟨b9,bd,v,aW,ed⟩;obtain⟨ae,rfl⟩:=lB b9 aW bd;clear b9 aW bd;simp;refine lY (fun h=>?_) (fun h=>?_)
 ·simp only[decide_eq_true_eq] at h;obtain⟨x,ag,dm⟩:=bW (l:=s.l) (k:=k) (by omega);have aR:IntKind.i64.wrap ((k:Int)+1)=((k+1:Nat) :Int) :=by rw[IntKind.wrap_i64]; omega
  have fj:((s.l.take k).flatten).length<=32000:=by
   rw[Ki (fun y aG=>aq y (ard aG)),aqM]; omega
  obtain⟨a8,bZ,a7,bl,_⟩:=ed.app (by_:=1) (x:=.b0 1 (x.map bN)) (xs:=x) (by simp[c8]) (by simp[bN]) (by omega) (by omega) (by rw[ay,aq x dm]; simp only[aqA]; omega);simp[ag,dk (aq x dm),aqs,ahM (aq x dm),a7];refine dq.cr ?_;simp[aR];exact⟨by omega,by simp,by simp,a8,by simp,by rw[Vo ag,<-aq4]; exact bl⟩
 ·simp[h];have aP:s.l.take k=s.l:=aqs (by simp at h; omega);rw[aP] at ed;exact aS _ _ ed
structure Wp (l:am) (s:eI) (k:Nat) (ae:a2) (l1:am) :Prop where
 nQ:ae 17=cy 32 aY s
 sE:ae 18=.int .i64 s.l.length
 sF:ae 19=.int .i64 k
 nv:∃ v,ae 4=v/\b7 1 bN l l1 v (dR s.l.length++(s.l.take k).flatten) false
theorem ajm (s:eI) (aq:g7 s) (al:s.l.length<=60) (ay:eB s.l=true) {l:am} {K:U->am->Prop} (aS:∀ v l',b7 1 bN l l' v (qy s.l) false->K (.bu [v,.int .i64 0]) l') :
  c2 Tryz.prog GS 196 [aT s] l (c:=⟨K⟩) :=by
 apply bb Tryz.func196 [];have acO:cx=140737488355328:=rfl;have aD:(BitVec.ofNat 64 s.l.length).toNat=s.l.length:=by rw[aqK]; exact aqC (by omega)
 have lh:=hD s.l.length;have pZ:¬ (60:Int)<(s.l.length:Int) :=by omega
 simp[aT,pZ];refine aU (ag6 s aq (by omega)) (by have:=gC s; simp[aV]; exact this) ?_;simp[ay,aT];refine x3 _ fun v l' h=>?_
 rw[aD] at h;simp[aT];refine cE s.l.length (Wp l s) ?_ ⟨by simp[aT],by simp,by simp,v,by simp,by simpa using h⟩;rintro k ae l1 hk ⟨nQ,sE,sF,v,bd,ed⟩;obtain⟨ae,rfl⟩:=iq nQ sE sF bd;clear nQ sE sF bd;simp;refine lY (fun h=>?_) (fun h=>?_)
 ·simp only[decide_eq_true_eq] at h;obtain⟨x,ag,dm⟩:=bW (l:=s.l) (k:=k) (by omega);have aR:IntKind.i64.wrap ((k:Int)+1)=((k+1:Nat) :Int) :=by rw[IntKind.wrap_i64]; omega
  have fj:((s.l.take k).flatten).length<=32000:=by
   rw[Ki (fun y aG=>aq y (ard aG)),aqM]; omega
  obtain⟨a8,bZ,a7,bl,_⟩:=(ed.more [.cells 32 (aY x)]).app (by_:=1) (x:=.ar 1 l1.length 0 32 32 32) (xs:=x) (by simp[c8,aq x dm,dk (aq x dm),aqs,aY,wn]) (by simp[bN]) (by omega) (by omega) (by rw[acO,aq x dm]; simp only[aqA]; omega);have ig:bn (rep 32 (.int .u8 0)) 0 (aY x)=aY x:=eC (by rw[dk (aq x dm)]; rfl);simp[ag,dk (aq x dm),aqs,Da,ig,a7];refine dq.cr ?_;simp[aR];exact⟨by omega,by simp,by simp,by simp,a8,by simp,by rw[Vo ag,<-aq4]; exact bl⟩
 ·simp[h];have aP:s.l.take k=s.l:=aqs (by simp at h; omega);rw[aP] at ed;exact aS _ _ ed
def e7 (s:List UInt8) :List B:=s.map fun b=>b.toBitVec
theorem GM (s:List UInt8) :(s.map fun b=>[iw b])=(e7 s).map bN:=by
 unfold e7;rw[asv];rfl
theorem px (s:List UInt8) :(e7 s).length=s.length:=by simp[e7]
def nL (b:Q) (k:Nat) :List B:=(List.range k).map fun i=>kX b.toNat (7 - i)
def ir (v:fA) :List B:=v.kind::(if v.kind=1#8 then dR (ma v.num).toNat else if v.kind=2#8 then nL v.bits 8 else io (e7 v.text))
def CG (v:fA) :Prop:=-9223372036854775808<=v.num/\v.num<9223372036854775808/\v.text.length<=10000
theorem ND (b:Q) (k:Nat) :nL b (k+1)=nL b k++[kX b.toNat (7 - k)] :=by
 unfold nL; rw[arQ,aqV]; rfl
theorem TA (l:am) (c:bg) (x:B) :b7 1 bN l (l++[c,.cells 1 [a6 x]]) (.ar 1 (l.length+1) 0 1 1 1) [x] false:=by
 exact⟨l.length+1,oo (n:=1) (a:=[x]) rfl (by simp),by simp,fun b af=>aqt af,.inr (by omega),rfl⟩
theorem tp (l:am) (c:bg) (x:B) :b7 1 bN (l++[c]) (l++[c,.cells 1 [a6 x]]) (.ar 1 (l.length+1) 0 1 1 1) [x] false:=by
 have e:l++[c,.cells 1 [a6 x]]=(l++[c])++[.cells 1 [a6 x]] :=by simp
 exact⟨l.length+1,oo (n:=1) (a:=[x]) rfl (by simp),by simp,fun b af=>by rw[e]; exact aqt af,.inr (by simp),rfl⟩
structure V7 (l:am) (v:fA) (p:Nat) (k:Nat) (ae:a2) (l1:am) :Prop where
 aF:ae 1=.ptr p 0 4
 bd:ae 4=.int .i64 (7 - (k:Int))
 nv:∃ w,ae 3=w/\b7 1 bN (l++[.cells 4 (cn v)]) l1 w (v.kind::nL v.bits k) false
theorem agC (v:fA) (ao:CG v) {l:am} {K:U->am->Prop} (aS:∀ w l',b7 1 bN l l' w (ir v) false->K w l') :
  c2 Tryz.prog GS 173 [.aI (cn v)] l (c:=⟨K⟩) :=by
 apply bb Tryz.func173 [];have ay:cx=140737488355328:=rfl;have aE:=TA l (.cells 4 (cn v)) v.kind;obtain⟨s2,qg,aP⟩:=ao;have ah:ut (.str v.text)=some (.b0 1 ((e7 v.text).map bN)) :=by
  show some (U.b0 1 (v.text.map fun b=>[iw b]))=_;rw[GM]
 by_cases ci:v.kind=1#8
 ·have mN:ir v=[v.kind]++dR (ma v.num).toNat:=by unfold ir; rw[if_pos ci]; rfl
  have aR:(u v.kind:Int)=1:=(fq v.kind).2 ci;simp only[a6,aR] at aE;have lh:=hD (ma v.num).toNat
  simp[cn,aR];refine agz v.num s2 qg fun w l' h=>?_
  obtain⟨a8,bZ,a7,bl,_⟩:=(aE.frame h.le h.same).app (by_:=1) (x:=w) (xs:=dR (ma v.num).toNat) h.contents (by simp[bN]) (by omega) (by omega) (by rw[ay]; simp only[aqH,aq5]; omega);simp[a7];refine dq.cr ?_;simp;exact aS _ _ (by rw[mN]; exact bl)
 ·have aR:¬ (u v.kind:Int)=1:=fun h=>ci ((fq v.kind).1 h)
  by_cases dd:v.kind=2#8
  ·have bI:(u v.kind:Int)=2:=(fT v.kind).2 dd;have mN:ir v=v.kind::nL v.bits 8:=by unfold ir; rw[if_neg ci,if_pos dd]
   have ad:=tp l (.cells 4 (cn v)) v.kind;simp only[a6,bI] at ad;simp[cn,bI];refine cE 8 (V7 l v l.length) ?_ ⟨by simp,by simp,_,by simp,ad⟩;rintro k ae l1 hk ⟨aF,bd,w,aW,ed⟩;have aB:l1[l.length]? = some (.cells 4 (cn v)) :=by rw[ed.same l.length (by simp)]; simp
   obtain⟨ae,rfl⟩:=lB aF aW bd;clear aF aW bd;by_cases hy:k=8
   ·subst hy;rw[<-mN] at ed;simp;exact aS _ _ (ed.base (by simp) fun b af=>aqt af)
   ·obtain⟨m,hm⟩:∃ m,m+k=7:=⟨7 - k,by omega⟩
    have em:7 - (k:Int)=(m:Int) :=by omega
    have Ii:IntKind.i64.wrap ((m:Int) - 1)=(m:Int) - 1:=by rw[IntKind.wrap_i64]; omega
    have YT:IntKind.i64.wrap (8*(m:Int))=((8*m:Nat) :Int) :=by rw[IntKind.wrap_i64]; omega
    have l7:b8 .shr .u64 (u v.bits) .i64 ((8*m:Nat) :Int)=some (.int .u64 (u (v.bits >>> (8*m)))) :=sq v.bits .i64 (8*m);have qN:=DP v.bits m;have bc:(v.kind::nL v.bits k).length<=1000000000:=by simp[nL]; omega
    obtain⟨w',l',a7,bl⟩:=b7.push ed (kX v.bits.toNat m) bc;rw[em];simp[cn] at aB;simp[aB,YT,l7,qN,a7,-Int.natCast_mul];refine dq.cr ?_;simp[Ii];exact⟨by omega,by simp,by simp; omega,w',by simp,by rw[ND,show 7 - k=m by omega]; exact bl⟩
  ·have bI:¬ (u v.kind:Int)=2:=fun h=>dd ((fT v.kind).1 h)
   have mN:ir v=[v.kind]++io (e7 v.text) :=by unfold ir; rw[if_neg ci,if_neg dd]; rfl
   have jG:(io (e7 v.text)).length<=20000:=by
    have:=hD (e7 v.text).length;unfold io;rw[aqA];have:=px v.text;omega
   simp[cn,aR,bI,ah];refine Us (some (e7 v.text)) (by simpa [px] using aP) (by simp[c8]) (by simp) (fun l' _ _=>by simp[c8]) fun w l' h=>?_
   obtain⟨a8,bZ,a7,bl,_⟩:=(aE.frame h.le h.same).app (by_:=1) (x:=w) (xs:=io (e7 v.text)) h.contents (by simp[bN]) (by omega) (by omega) (by rw[ay]; simp only[aqH,aq5]; omega);simp[a7];refine dq.cr ?_;simp;exact aS _ _ (by rw[mN]; exact bl)
structure V8 (l:am) (v:fA) (p:Nat) (k:Nat) (ae:a2) (l1:am) :Prop where
 aF:ae 1=.ptr p 0 4
 cc:ae 6=.int .i64 (8*(7 - (k:Int)))
 nv:∃ w,ae 5=w/\b7 1 bN (l++[.cells 4 (cn v)]) l1 w (v.kind::nL v.bits k) false
theorem aea {v:fA} (h:i9 v=true) (ci:¬ v.kind=1#8) (dd:¬ v.kind=2#8) :v.kind=3#8:=by
 unfold i9 at h;simp[ci,dd] at h;exact h.1
theorem ajw (v:fA) (ao:CG v) (dN:i9 v=true) {l:am} {K:U->am->Prop} (aS:∀ w l',b7 1 bN l l' w (ir v) false->K (.bu [w,.int .i64 0]) l') :
  c2 Tryz.prog GS 198 [.aI (cn v)] l (c:=⟨K⟩) :=by
 apply bb Tryz.func198 [];have ay:cx=140737488355328:=rfl;have aE:=TA l (.cells 4 (cn v)) v.kind;obtain⟨s2,qg,aP⟩:=ao;have ah:ut (.str v.text)=some (.b0 1 ((e7 v.text).map bN)) :=by
  show some (U.b0 1 (v.text.map fun b=>[iw b]))=_;rw[GM]
 have cz:=My v;rw[dN] at cz;by_cases ci:v.kind=1#8
 ·have mN:ir v=[v.kind]++dR (ma v.num).toNat:=by unfold ir; rw[if_pos ci]; rfl
  have aR:(u v.kind:Int)=1:=(fq v.kind).2 ci;simp only[a6,aR] at aE;have lh:=hD (ma v.num).toNat
  simp[cn];refine aU cz rfl ?_;simp[eh,aR];refine ajv v.num s2 qg fun w l' h=>?_
  obtain⟨a8,bZ,a7,bl,_⟩:=(aE.frame h.le h.same).app (by_:=1) (x:=w) (xs:=dR (ma v.num).toNat) h.contents (by simp[bN]) (by omega) (by omega) (by rw[ay]; simp only[aqH,aq5]; omega);simp[a7];refine dq.cr ?_;simp;exact aS _ _ (by rw[mN]; exact bl)
 ·have aR:¬ (u v.kind:Int)=1:=fun h=>ci ((fq v.kind).1 h)
  by_cases dd:v.kind=2#8
  ·have bI:(u v.kind:Int)=2:=(fT v.kind).2 dd;have mN:ir v=v.kind::nL v.bits 8:=by unfold ir; rw[if_neg ci,if_pos dd]
   have ad:=tp l (.cells 4 (cn v)) v.kind;simp only[a6,bI] at ad;simp[cn];refine aU cz rfl ?_;simp[eh,bI];refine cE 8 (V8 l v l.length) ?_ ⟨by simp,by simp,_,by simp,ad⟩;rintro k ae l1 hk ⟨aF,cc,w,bh,ed⟩;have aB:l1[l.length]? = some (.cells 4 (cn v)) :=by rw[ed.same l.length (by simp)]; simp
   obtain⟨ae,rfl⟩:=lB aF bh cc;clear aF bh cc;by_cases hy:k=8
   ·subst hy;rw[<-mN] at ed;simp;exact aS _ _ (ed.base (by simp) fun b af=>aqt af)
   ·obtain⟨m,hm⟩:∃ m,m+k=7:=⟨7 - k,by omega⟩
    obtain⟨n,aD⟩:∃ n,n=8*m:=⟨_,rfl⟩
    have em:8*(7 - (k:Int))=(n:Int) :=by omega
    have Ii:IntKind.i64.wrap ((n:Int) - 8)=(n:Int) - 8:=by rw[IntKind.wrap_i64]; omega
    have l7:b8 .shr .u64 (u v.bits) .i64 (n:Int)=some (.int .u64 (u (v.bits >>> n))) :=sq v.bits .i64 n;have qN:=DP v.bits m;rw[<-aD] at qN;have bc:(v.kind::nL v.bits k).length<=1000000000:=by simp[nL]; omega
    obtain⟨w',l',a7,bl⟩:=b7.push ed (kX v.bits.toNat m) bc;rw[em];simp[cn] at aB;simp[aB,l7,qN,a7];refine dq.cr ?_;simp[Ii];exact⟨by omega,by simp,by simp; omega,w',by simp,by rw[ND,show 7 - k=m by omega]; exact bl⟩
  ·have bI:¬ (u v.kind:Int)=2:=fun h=>dd ((fT v.kind).1 h)
   have dJ:(u v.kind:Int)=3:=(ip v.kind).2 (aea dN ci dd);have mN:ir v=[v.kind]++io (e7 v.text) :=by unfold ir; rw[if_neg ci,if_neg dd]; rfl
   have jG:(io (e7 v.text)).length<=20000:=by
    have:=hD (e7 v.text).length;unfold io;rw[aqA];have:=px v.text;omega
   simp only[a6,dJ] at aE;simp[cn];refine aU cz rfl ?_;simp[eh,dJ,ah];refine VP (some (e7 v.text)) (by simpa [px] using aP) (by simp[c8]) (by simp) (fun l' _ _=>by simp[c8]) fun w l' h=>?_
   obtain⟨a8,bZ,a7,bl,_⟩:=(aE.frame h.le h.same).app (by_:=1) (x:=w) (xs:=io (e7 v.text)) h.contents (by simp[bN]) (by omega) (by omega) (by rw[ay]; simp only[aqH,aq5]; omega);simp[a7];refine dq.cr ?_;simp;exact aS _ _ (by rw[mN]; exact bl)
structure bA where
 gM:D
 bo:eI
 cX:Q
 act:Act
 e:D
 s:D
def bj (o:bA) :List U:=[bq o.gM,aT o.bo,cD o.cX,a6 o.act.kind,.str o.act.key,a6 o.act.val.kind,.int .i64 o.act.val.num,cD o.act.val.bits,.str o.act.val.text,bq o.e,bq o.s]
structure lG (o:bA) :Prop where
 ids:g7 o.bo
 len:o.bo.l.length<=1000000
 val:CG o.act.val
 key:o.act.key.length<=10000
def rb (o:bA) :Bool:=fK o.gM&&(decide (o.cX.toNat<=1000000000000)&&(hU o.act&&(iy o.e&&iy o.s)))
def fY (o:bA) :Int:=if 4<o.bo.l.length then 4 else if eB o.bo.l then (if rb o then 0 else 8) else 32
theorem pR (o:bA) :aV (bj o)=true:=by
 have:=gC o.bo;simp[bj,aV,U.closed,this]
theorem agu (o:bA) (aq:lG o) :bi Tryz.prog GS 113 [.aI (bj o)] (.int .i64 (fY o)) :=by
 refine bt Tryz.checked.mixed bp ?_;apply bb Tryz.func113 [];unfold fY;have di:=gC o.bo;have bc:cL (.ar 32) (aT o.bo)=some (.int .i64 o.bo.l.length) :=by simp[aT]
 have iB:(aT o.bo).cells=some [aT o.bo] :=by cases o.bo<;>rfl
 obtain⟨p,aB⟩:∃ p,p=aT o.bo:=⟨_,rfl⟩
 by_cases h1:4<o.bo.l.length
 ·have dK:(4:Int)<(o.bo.l.length:Int) :=by omega
  rw[if_pos h1];simp[bj,bc,dK];exact aH rfl rfl
 ·have dK:¬ (4:Int)<(o.bo.l.length:Int) :=by omega
  rw[if_neg h1];simp[bj,bc,dK];refine aU (Uq o.bo aq.ids aq.len) (by simp[aV,di]) ?_;cases ad:eB o.bo.l with
  | false=>
   simp;exact aH rfl rfl
  | true=>
   simp;refine aU (UB o.gM) rfl ?_;unfold rb;cases aj:fK o.gM with
   | false=>
    simp;exact aH rfl rfl
   | true=>
    have b4:((1000000000000:Int)<u o.cX)<->¬ o.cX.toNat<=1000000000000:=by unfold u; omega
    by_cases aC:o.cX.toNat<=1000000000000
    ·have pY:¬ ((1000000000000:Int)<u o.cX) :=fun h=>b4.1 h aC
     simp[aC,pY];refine aU (agO o.act) rfl ?_;cases aZ:hU o.act with
     | false=>
      simp[eh];exact aH rfl rfl
     | true=>
      simp[eh];refine aU (Ee o.e) rfl ?_;cases bx:iy o.e with
      | false=>
       simp;exact aH rfl rfl
      | true=>
       simp;refine aU (Ee o.s) rfl ?_;cases de:iy o.s with
       | false=>
        simp;exact aH rfl rfl
       | true=>
        simp;exact aH (by rw[if_pos aC]) rfl
    ·have pY:(1000000000000:Int)<u o.cX:=b4.2 aC;simp[aC,pY];exact aH rfl rfl
end Op

end Go.bJ

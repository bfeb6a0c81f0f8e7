/-
  The reference of SHA-256, walked: Ground.
-/
import Derived.Test.YtobphgccoalchaaGreatDoorOg
import Derived.LaidMore
import Derived.MakeChecks
import Derived.Lib.DecodeN
set_option linter.unusedVariables false
set_option linter.unusedSimpArgs false
set_option linter.unnecessarySimpa false
namespace Go.cb
open Go Go.Proofs
set_option maxRecDepth 100000
namespace g3
theorem Y5 {l:ao} {v:U} {j:Nat} {ha:List W} (h:bG 1 l v j (ha.map eV)) (aq:cx v=false) :∃ (cap sz:Nat) (cs:List U),v=.au 1 j 0 ha.length cap sz/\l[j]? = some (.cells sz cs)/\∀ (i:Nat) (x:W),ha[i]? = some x->cs[i]? = some (bA x) :=by
 obtain⟨n,cap,sz,cs,h1,ad,aj,aF,aU,bt,_⟩:=h.view aq;rw[auh] at aF;subst aF;refine⟨cap,sz,cs,h1,ad,fun i x af=>?_⟩;have:=bt i (eV x) (by rw[at0,af]; rfl) 0 (by omega);simpa [eV] using this
theorem ane (b:List B) (k:Nat) (hk:k<16) :(fC b).take (k+1)=(fC b).take k++[pG ((b.drop (4*k)).take 4)] :=by
 have:(fC b)[k]? = some (pG ((b.drop (4*k)).take 4)) :=by unfold fC; rw[at0,auw hk]; rfl
 rw[aud,this]; rfl
theorem anb (b:List B) :(fC b).length=16:=by simp[fC]
theorem acr (k:Nat) (b:List B) :(iE k (fC b)).length=16+k:=by simp[xQ,fC]
set_option maxHeartbeats 16000000 in
theorem ads (h:cp) (b:List B) (ag:64<=b.length) :bw Tryz.prog GS 174 [.aJ (h.l.map bA),cH (some b)] (.aJ ((grind h b).l.map bA)) :=by
 have lH:cK=140737488355328:=rfl;have Ub:(h.l.map bA).length=8:=rfl;refine bK Tryz.checked.mixed bB ?_;apply bm Tryz.func174 [[],[],[[0],[1],[2],[3],[4],[5],[6],[7],[8],[9],[10],[11],[12],[14],[17],[18],[21],[23],[26],[27],[13,10,5],[15,10,5],[16],[19],[20],[22,10,5],[24,10,5],[25]],[],[[0],[1],[2],[4],[7],[11],[12],[13],[14],[15],[16],[17],[18],[20],[21],[22],[23],[25],[26],[27],[28],[3,28,23,1],[5,28,23,1],[6],[8,28,23,1],[9],[10],[19],[24]]];simp[Ub];refine cF 16 (fun k ae l=>ae 1=cH (some b)/\ae 2=.ptr 0 0 8/\ae 4=.ptr 1 0 8/\ae 6=.int .i64 k/\∃ v j hb rest,ae 5=v/\(cx v=true->k=0)/\(v=.aW\/2<=j)/\bG 1 l v j (((fC b).take k).map eV)/\l=.cells 8 (h.l.map bA) ::.cells 8 hb::rest/\hb.length=8) ?_ ?_
 ·rintro k ae l hk ⟨aM,aT,bD,cd,v,j,hb,rest,bh,aq,ai,ap,rfl,jQ⟩;obtain⟨ae,rfl⟩:=lk aM aT bD bh cd;clear aM aT bD bh cd;by_cases Um:(k:Int)<16
  ·have e2:k<16:=by omega
   obtain⟨a,ax⟩:∃ a,a=4*k:=⟨_,rfl⟩
   have ll:IntKind.i64.wrap (4*(k:Int))=(a:Nat) :=by rw[wrap_i64 (by omega) (by omega)]; omega
   obtain⟨aX,Ky⟩:∃ x,x=a+1:=⟨_,rfl⟩
   obtain⟨a6,ad4⟩:∃ x,x=a+2:=⟨_,rfl⟩
   obtain⟨a3,ad5⟩:∃ x,x=a+3:=⟨_,rfl⟩
   have b1:IntKind.i64.wrap ((a:Int)+1)=aX:=by rw[wrap_i64 (by omega) (by omega)]; omega
   have w2:IntKind.i64.wrap ((a:Int)+2)=a6:=by rw[wrap_i64 (by omega) (by omega)]; omega
   have ei:IntKind.i64.wrap ((a:Int)+3)=a3:=by rw[wrap_i64 (by omega) (by omega)]; omega
   have kT:IntKind.i64.wrap ((k:Int)+1)=k+1:=wrap_i64 (by omega) (by omega);obtain⟨hf,k1⟩:∃ x,b[a]? = some x:=⟨_,atX (by omega)⟩
   obtain⟨dW,gM⟩:∃ x,b[aX]? = some x:=⟨_,atX (by omega)⟩
   obtain⟨dB,fT⟩:∃ x,b[a6]? = some x:=⟨_,atX (by omega)⟩
   obtain⟨gg,rj⟩:∃ x,b[a3]? = some x:=⟨_,atX (by omega)⟩
   have bW:∀ (i:Nat) (x:B),b[i]? = some x->cg (.au 1) (cH (some b)) (.int .i64 i)=some (.b3 (cc x) 0) :=fun i x af=>by rw[rF]; simp[af]
   have wC:=bW a hf k1;have ej:=bW aX dW gM;have eZ:=bW a6 dB fT;have hP:=bW a3 gg rj;have LS:=ane b k e2;rw[ana b k hf dW dB gg (by rw[<-ax]; exact k1) (by rw[<-ax,<-Ky]; exact gM) (by rw[<-ax,<-ad4]; exact fT) (by rw[<-ax,<-ad5]; exact rj)] at LS;obtain⟨w,hw⟩:∃ w,w=((hf.setWidth 32*256#32+dW.setWidth 32)*256#32+dB.setWidth 32)*256#32+gg.setWidth 32:=⟨_,rfl⟩
   rw[<-hw] at LS;have lE:bG 1 ([.cells 8 (h.l.map bA),.cells 8 hb]++(rest++[a2.cells 1 [bA w]])) v j (((fC b).take k).map eV) :=ap.more [a2.cells 1 [bA w]];have ik:(((fC b).take k).map eV).length<=16:=by simp; omega
   obtain⟨aY,bM,ct,h1,ad,aj,aF⟩:=xD (by_:=4) lE ai (x:=.au 1 (rest.length+2) 0 1 1 1) (xs:=[eV w]) (by simp[dM,eV]) (by simp[eV]) (by omega) (by omega) (by rw[lH]; simp; omega);have gE:bG 1 (.cells 8 (h.l.map bA) ::.cells 8 hb::ct) aY bM (((fC b).take (k+1)).map eV) :=by rw[LS,auq]; exact ad
   simp only[au5,auT] at h1;have gl:cx aY=false:=by rw[aF]; simp
   simp[Um,ll,b1,w2,ei,wC,ej,eZ,hP,cc];rw[<-hw];simp[h1];refine dT.cy ?_;simp[Um,kT,e2];exact⟨gl,bM,aj,by rw[<-axd]; exact gE,jQ⟩
  ·have e2:k=16:=by omega
   subst e2;have iH:cx v=false:=by
    cases LP:cx v with
    | false=>rfl
    | true=>exact absurd (aq LP) (by omega)
   have jo:2<=j:=by
    rcases ai with h | h
    ·subst h; cases iH
    ·exact h
   have afS:bG 1 (.cells 8 (h.l.map bA) ::.cells 8 hb::rest) v j ((fC b).map eV) :=by
    have:(fC b).take 16=fC b:=atT (by rw[anb]; omega);rw[this] at ap; exact ap
   clear aq ai ap;simp;refine cF 48 (fun k ae l=>ae 2=.ptr 0 0 8/\ae 4=.ptr 1 0 8/\ae 7=.int .i64 (16+k:Nat)/\∃ v j hb rest,ae 5=v/\cx v=false/\2<=j/\bG 1 l v j ((iE k (fC b)).map eV)/\l=.cells 8 (h.l.map bA) ::.cells 8 hb::rest/\hb.length=8) ?_ ?_
   ·rintro k ae l hk ⟨aT,bD,dC,v,j,hb,rest,bh,aq,ai,ap,rfl,jQ⟩;obtain⟨ae,rfl⟩:=iw aT bD bh dC;clear aT bD bh dC;obtain⟨t,aH⟩:∃ t,t=16+k:=⟨_,rfl⟩
    rw[<-aH];by_cases yk:(t:Int)<64
    ·have jP:IntKind.i64.wrap ((t:Int)+1)=(t+1:Nat) :=wrap_i64 (by omega) (by omega);have al:=acr k b;obtain⟨wD,Jz⟩:∃ i,i=t - 15:=⟨_,rfl⟩
     obtain⟨eZ,bF⟩:∃ i,i=t - 2:=⟨_,rfl⟩
     obtain⟨wE,Fq⟩:∃ i,i=t - 16:=⟨_,rfl⟩
     obtain⟨jz,JA⟩:∃ i,i=t - 7:=⟨_,rfl⟩
     have Im:IntKind.i64.wrap ((t:Int) - 15)=wD:=by rw[wrap_i64 (by omega) (by omega)]; omega
     have w2:IntKind.i64.wrap ((t:Int) - 2)=eZ:=by rw[wrap_i64 (by omega) (by omega)]; omega
     have In:IntKind.i64.wrap ((t:Int) - 16)=wE:=by rw[wrap_i64 (by omega) (by omega)]; omega
     have EF:IntKind.i64.wrap ((t:Int) - 7)=jz:=by rw[wrap_i64 (by omega) (by omega)]; omega
     obtain⟨ha,yG⟩:∃ ha,ha=iE k (fC b) :=⟨_,rfl⟩
     have yD:=JI k (fC b);rw[<-yG] at al ap yD;have wz:ha.length=t:=by omega
     unfold ext at yD
     dsimp only at yD
     rw[wz,<-Jz,<-bF,<-Fq,<-JA] at yD;have xV:∀ i,i<t->ha[i]? = some (ha.getD i 0#32) :=fun i av=>by rw[aug,atX (by omega)]; rfl
     obtain⟨x,af⟩:∃ x,x=ha.getD wD 0#32:=⟨_,rfl⟩
     obtain⟨y,aA⟩:∃ y,y=ha.getD eZ 0#32:=⟨_,rfl⟩
     obtain⟨Oz,Vf⟩:∃ y,y=ha.getD wE 0#32:=⟨_,rfl⟩
     obtain⟨OA,Vg⟩:∃ y,y=ha.getD jz 0#32:=⟨_,rfl⟩
     rw[<-af,<-aA,<-Vf,<-Vg] at yD;obtain⟨cap,sz,cs,rfl,wr,ci⟩:=Y5 ap aq;have aa1:=ci wD x (by rw[af]; exact xV wD (by omega));have dv:=ci eZ y (by rw[aA]; exact xV eZ (by omega));have B2:=ci wE Oz (by rw[Vf]; exact xV wE (by omega));have B3:=ci jz OA (by rw[Vg]; exact xV jz (by omega));obtain⟨w,hw⟩:∃ w,w=Oz+OA+(nS x 7 ^^^ nS x 18 ^^^ x >>> 3)+(nS y 17 ^^^ nS y 19 ^^^ y >>> 10) :=⟨_,rfl⟩
     rw[<-hw] at yD;have lE:bG 1 ([.cells 8 (h.l.map bA),.cells 8 hb]++(rest++[a2.cells 1 [bA w]])) _ j (ha.map eV) :=ap.more [a2.cells 1 [bA w]];obtain⟨aY,bM,ct,h1,ad,aj,aF⟩:=xD (by_:=4) lE (.inr ai) (x:=.au 1 (rest.length+2) 0 1 1 1) (xs:=[eV w]) (by simp[dM,eV]) (by simp[eV]) (by omega) (by omega) (by rw[lH]; simp; omega);have gE:bG 1 (.cells 8 (h.l.map bA) ::.cells 8 hb::ct) aY bM ((iE (k+1) (fC b)).map eV) :=by rw[yD,auq]; exact ad
     simp only[au5,auT] at h1;have gl:cx aY=false:=by rw[aF]; rfl
     obtain⟨mW,rfl⟩:∃ mW,j=mW+2:=⟨j - 2,by omega⟩
     have sO:rest[mW]? = some (.cells sz cs) :=by simpa using wr
     have yo:(rest++[a2.cells 1 [bA w]])[mW]? = some (.cells sz cs) :=by rw[atV (e1 sO)]; exact sO
     have I2:wD<ha.length:=by omega
     have dB:eZ<ha.length:=by omega
     have I3:wE<ha.length:=by omega
     have tS:jz<ha.length:=by omega
     have t7:=tC x 7 (by omega) (by omega);have t18:=tC x 18 (by omega) (by omega);have t17:=tC y 17 (by omega) (by omega);have t19:=tC y 19 (by omega) (by omega);simp at t7 t18 t17 t19;simp[yk,Im,w2,In,EF,I2,dB,I3,tS,sO,aa1,dv,B2,B3];refine a1 t7 rfl ?_;simp[sO,B2,B3];refine a1 t18 rfl ?_;simp[sO,B2,B3];refine a1 t17 rfl ?_;simp[sO,B2,B3];refine a1 t19 rfl ?_;simp[sO,B2,B3];rw[<-hw];simp[h1];refine dT.cy ?_;simp[jP];exact⟨by omega,by omega,gl,bM,aj.resolve_left (by intro e; subst e; cases gl),gE,jQ⟩
    ·have e2:k=48:=by omega
     subst e2;subst aH;have sU:iE 48 (fC b)=fH b:=rfl;rw[sU] at ap;obtain⟨cap,sz,cs,rfl,wr,ci⟩:=Y5 ap aq;obtain⟨mW,rfl⟩:∃ mW,j=mW+2:=⟨j - 2,by omega⟩
     have sO:rest[mW]? = some (.cells sz cs) :=by simpa using wr
     have ec:=El b;rw[ec];clear ap aq ai wr;simp;refine a1 abA.Ex rfl ?_;have oj:h.l.length=8:=rfl;simp[nX,oj];refine cF 64 (fun k ae l=>ae 2=.ptr 0 0 8/\ae 4=.ptr 1 0 8/\ae 5=.au 1 (mW+2) 0 64 cap sz/\ae 10=cI 1 eV (some bP)/\ae 11=.ptr (rest.length+2) 0 8/\ae 12=.int .i64 k/\l=.cells 8 (h.l.map bA) ::.cells 8 hb::(rest++[.cells 8 ((m4 h b k).l.map bA)])) ?_ ?_
     ·rintro k ae l hk ⟨aT,bD,bh,fS,h2,fx,rfl⟩;obtain⟨ae,rfl⟩:=zi aT bD bh fS h2 fx;clear aT bD bh fS h2 fx;have eX:=e1 sO;have yo:∀ x:a2,(rest++[x])[mW]? = some (.cells sz cs) :=fun x=>by rw[atV eX]; exact sO
      by_cases yk:(k:Int)<64
      ·have hl:k<64:=by omega
       have fo:IntKind.i64.wrap ((k:Int)+1)=(k+1:Nat) :=wrap_i64 (by omega) (by omega);have pb:bP[k]? = some (bP.getD k 0#32) :=by rw[aug,atX (show k<bP.length from hl)]; rfl
       have g1:=ci k ((fH b).getD k 0#32) (by rw[aug,atX (by omega)]; rfl);rw[Xo h b k hl];obtain⟨kT,hw⟩:∃ kT,(fH b).getD k 0#32=kT:=⟨_,rfl⟩
       obtain⟨mX,K5⟩:∃ mX,bP.getD k 0#32=mX:=⟨_,rfl⟩
       obtain⟨s,ak⟩:∃ s,m4 h b k=s:=⟨_,rfl⟩
       rw[hw] at g1 ⊢;rw[K5] at pb ⊢;rw[ak];have AM:cg (.au 1) (cI 1 eV (some bP)) (.int .i64 k)=some (.b3 (eV mX) 0) :=by rw[rF]; simp[pb]
       have t6:=tC s.e 6 (by omega) (by omega);have t11:=tC s.e 11 (by omega) (by omega);have t25:=tC s.e 25 (by omega) (by omega);have t2:=tC s.a 2 (by omega) (by omega);have t13:=tC s.a 13 (by omega) (by omega);have t22:=tC s.a 22 (by omega) (by omega);simp at t6 t11 t25 t2 t13 t22;have agr:s.l=[s.a,s.b,s.c,s.d,s.e,s.f,s.g,s.h] :=rfl;have UX:(round s mX kT).l=[(round s mX kT).a,(round s mX kT).b,(round s mX kT).c,(round s mX kT).d,(round s mX kT).e,(round s mX kT).f,(round s mX kT).g,(round s mX kT).h] :=rfl;simp[yk,agr,AM,eV,yo,g1];refine a1 t6 rfl ?_;simp[AM,eV,yo,g1];refine a1 t11 rfl ?_;simp[AM,eV,yo,g1];refine a1 t25 rfl ?_;simp[AM,eV,yo,g1];refine a1 t2 rfl ?_;simp[AM,eV,yo,g1];refine a1 t13 rfl ?_;simp[AM,eV,yo,g1];refine a1 t22 rfl ?_;simp[nX,hl,fo];rfl
      ·have e2:k=64:=by omega
       subst e2;rw[Xm];obtain⟨v,aq⟩:∃ v,rounds h bP (fH b)=v:=⟨_,rfl⟩
       rw[aq];have yi:grind h b=⟨h.a+v.a,h.b+v.b,h.c+v.c,h.d+v.d,h.e+v.e,h.f+v.f,h.g+v.g,h.h+v.h⟩:=by unfold grind; rw[aq]
       have lC:h.l.length=v.l.length:=rfl;have oj:h.l.length=8:=rfl;have KS:(grind h b).l=iN h.l v.l 8:=by rw[yi]; rfl
       rw[KS];simp;refine cF 8 (fun k ae l=>ae 2=.ptr 0 0 8/\ae 4=.ptr 1 0 8/\ae 11=.ptr (rest.length+2) 0 8/\ae 21=.int .i64 k/\l=.cells 8 ((iN h.l v.l k).map bA) ::.cells 8 hb::(rest++[.cells 8 (v.l.map bA)])) ?_ ?_
       ·rintro k ae l hk ⟨aT,bD,h2,ug,rfl⟩;obtain⟨ae,rfl⟩:=iw aT bD h2 ug;clear aT bD h2 ug;by_cases h5:(k:Int)<8
        ·have ux:k<8:=by omega
         have fo:IntKind.i64.wrap ((k:Int)+1)=(k+1:Nat) :=wrap_i64 (by omega) (by omega);obtain⟨y,aA⟩:∃ y,v.l[k]? = some y:=⟨_,atX (show k<v.l.length from ux)⟩
         obtain⟨z,aw⟩:∃ z,h.l[k]? = some z:=⟨_,atX (show k<h.l.length from ux)⟩
         have ax:=OM lC (k:=k) (by rw[oj]; exact ux);rw[aw] at ax;have gG:=IM lC k;have rA:=oE bA (iN h.l v.l k) k (z+y) (by rw[gG,oj]; exact ux);rw[ON lC aw aA] at rA;have T9:(List.map bA (iN h.l v.l k))[k]? = some (bA z) :=by rw[at0,ax]; rfl
         have Ap:k<=7:=by omega
         obtain⟨A,cL⟩:∃ A,A=(iN h.l v.l k).map bA:=⟨_,rfl⟩
         have iV:A.length=8:=by rw[cL,auh,gG,oj]
         rw[<-cL] at T9 rA ⊢;obtain⟨adC,ae3⟩:=atU.1 T9;simp[h5,ux,fo,ae3,aA,rA,iV,Ap]
        ·have e2:k=8:=by omega
         subst e2;have gG:=IM lC 8;have GU:∀ A:List U,A.length=8->A.take 8=A:=fun A cL=>atT (by omega)
         obtain⟨A,cL⟩:∃ A,A=(iN h.l v.l 8).map bA:=⟨_,rfl⟩
         have iV:A.length=8:=by rw[cL,auh,gG,oj]
         have oZ:bg A=true:=by rw[cL]; exact lr bA (fun _=>rfl) _
         rw[<-cL];simp[nX,jQ,iV,GU A iV];exact aK rfl (by simp[U.closed,oZ])
       ·simp[OO]
     ·simp[Xp];exact atT (by simp[oj])
   ·refine⟨rfl,rfl,rfl,v,j,hb,rest,rfl,iH,jo,afS,rfl,jQ⟩
 ·simp;exact⟨0,.nil 0⟩
def rW (k:Nat) :List B:=128#8::List.replicate k 0#8
theorem ai9 (k:Nat) :rW (k+1)=rW k++[0#8] :=by simp[rW,List.replicate_succ']
theorem WO (k:Nat) :(rW k).length=k+1:=by simp[rW]
set_option maxHeartbeats 8000000 in
theorem akf (n:Nat) (aC:n<=100000000) :jI Tryz.prog GS 126 [.int .i64 n] (cH (some (tail n))) :=by
 have lH:cK=140737488355328:=rfl;refine A8 Tryz.checked.mixed bB ?_;apply bm Tryz.func126 [];obtain⟨m,hm⟩:∃ m,m=(119 - n % 64) % 64:=⟨_,rfl⟩
 simp;refine cF m (fun k ae l=>ae 0=.int .i64 n/\∃ v j,ae 3=v/\cx v=false/\bG 1 l v j ((rW k).map cc)) ?_ ?_
 ·rintro k ae l hk ⟨ca,v,j,a7,aq,ap⟩;obtain⟨ae,rfl⟩:=pE ca a7;clear ca a7;have bl:=ap.len;rw[auh,WO] at bl;obtain⟨b6,Gs⟩:∃ b6,b6=k+1:=⟨_,rfl⟩
  rw[<-Gs] at bl;have jP:IntKind.i64.wrap ((n:Int)+(b6:Int))=(n+b6:Nat) :=wrap_i64 (by omega) (by omega);obtain⟨q,aZ⟩:∃ q,q=n+b6:=⟨_,rfl⟩
  rw[<-aZ] at jP;have mq:IntKind.i64.wrap ((q:Int)+8)=(q+8:Nat) :=wrap_i64 (by omega) (by omega);obtain⟨HO,Lx⟩:∃ HO,HO=q+8:=⟨_,rfl⟩
  rw[<-Lx] at mq;have lJ:=BX HO 64 (by omega);rw[show ((64:Int).toNat)=64 from rfl] at lJ;obtain⟨x,af⟩:∃ x,x=HO % 64:=⟨_,rfl⟩
  rw[<-af] at lJ;simp[bl,jP,mq,lJ];by_cases wA:x=0
  ·have nE:k=m:=by omega
   subst nE;have LI:rW k=nY n 0:=by unfold rW nY; rw[<-hm]; simp
   rw[LI] at ap;clear bl jP mq lJ;simp[wA];refine cF 8 (fun k ae l=>ae 0=.int .i64 n/\ae 4=.int .i64 (7 - (k:Int))/\∃ v j,ae 3=v/\cx v=false/\bG 1 l v j ((nY n k).map cc)) ?_ ?_
   ·rintro k ae l hk ⟨ca,bD,v,j,a7,aq,ap⟩;obtain⟨ae,rfl⟩:=kQ ca a7 bD;clear ca a7 bD;obtain⟨c,ah⟩:∃ c:Int,c=7 - (k:Int) :=⟨_,rfl⟩
    rw[<-ah];by_cases h5:0<=c
    ·have Ap:k<8:=by omega
     have AH:IntKind.i64.wrap (c - 1)=7 - ((k:Int)+1) :=by rw[wrap_i64 (by omega) (by omega)]; omega
     obtain⟨d,bH⟩:∃ d,d=8*c:=⟨_,rfl⟩
     have LR:IntKind.i64.wrap (8*c)=d:=by rw[wrap_i64 (by omega) (by omega)]; omega
     have KJ:0<=d:=by omega
     have wj:d.toNat=56 - 8*k:=by omega
     have af:=Px (BitVec.ofNat 64 n*8#64) k Ap;have lL:=Ic n k;obtain⟨y,aA⟩:∃ y,y=(((BitVec.ofNat 64 n*8#64) >>> (56 - 8*k)).setWidth 8) :=⟨_,rfl⟩
     rw[<-aA] at af;have lE:bG 1 (l++[a2.cells 1 [bC y]]) v j ((nY n k).map cc) :=ap.more _;obtain⟨aY,bM,l',h1,ad,aj,aF,aU,bt⟩:=oP (by_:=1) lE (x:=.au 1 l.length 0 1 1 1) (xs:=[[bC y]]) (by simp[dM]) (by simp) (by omega) (by omega) (by simp; omega);have gl:cx aY=false:=by rw[uL bt,aq]; rfl
     have gE:bG 1 l' aY bM ((nY n (k+1)).map cc) :=by rw[YD n k y af,auq]; exact ad
     rw[BitVec.mul_comm] at aA;simp only[bC] at h1;simp[h5,LR,KJ,wj];rw[<-aA];simp[h1];refine dT.cy ?_;simp[AH,Ap];exact⟨gl,bM,gE⟩
    ·have e2:k=8:=by omega
     subst e2;simp[h5];exact ap.Ed (fun _=>rfl) (some (tail n)) aq rfl
   ·simp;exact⟨aq,_,ap⟩
  ·have lL:=WO k;have lE:bG 1 (l++[a2.cells 1 [bC 0#8]]) v j ((rW k).map cc) :=ap.more _;obtain⟨aY,bM,l',h1,ad,aj,aF,aU,bt⟩:=oP (by_:=1) lE (x:=.au 1 l.length 0 1 1 1) (xs:=[[bC 0#8]]) (by simp[dM]) (by simp) (by omega) (by omega) (by simp; omega);have gl:cx aY=false:=by rw[uL bt,aq]; rfl
   have gE:bG 1 l' aY bM ((rW (k+1)).map cc) :=by rw[ai9,auq]; exact ad
   have nE:k<m:=by omega
   simp[bC] at h1;simp[wA,h1];refine dT.cy ?_;simp[nE];exact⟨gl,bM,gE⟩
 ·simp;exact⟨rfl,0,.au 0 1 1 1 [.int .u8 128] _ rfl rfl rfl (by intro e am; simp[rW] at am; subst am; rfl) (atW _) (atW _) rfl⟩
set_option maxHeartbeats 8000000 in
theorem aj9 (h:cp) (b:List B) (ag:b.length<=100000000) :bw Tryz.prog GS 124 [.aJ (h.l.map bA),cH (some b)] (.aJ ((hy h b).1.l.map bA)) :=by
 refine bK Tryz.checked.mixed bB ?_;apply bm Tryz.func124 [];have GU:∀ A:List U,A.length=8->A.take 8=A:=fun A cL=>atT (by omega)
 have Ub:∀ s:cp,(s.l.map bA).length=8:=fun s=>rfl
 obtain⟨Iu,xX⟩:∃ Iu,Iu=h.l.map bA:=⟨_,rfl⟩
 have ady:Iu.length=8:=by rw[xX]; rfl
 rw[<-xX];simp[ady];refine cF (b.length / 64) (fun k ae l=>ae 1=cH (some b)/\ae 2=.ptr 0 0 8/\ae 4=.ptr 1 0 8/\ae 5=.int .i64 (64*k:Nat)/\∃ s hb,hy s (b.drop (64*k))=hy h b/\l=[.cells 8 (s.l.map bA),.cells 8 hb]/\hb.length=8) ?_ ?_
 ·rintro k ae l hk ⟨aM,aT,bD,bh,s,hb,ak,rfl,jQ⟩;obtain⟨ae,rfl⟩:=iw aM aT bD bh;clear aM aT bD bh;obtain⟨a,ax⟩:∃ a,a=64*k:=⟨_,rfl⟩
  rw[<-ax] at ak ⊢;obtain⟨aX,Ky⟩:∃ aX,aX=64*(k+1) :=⟨_,rfl⟩
  rw[<-Ky];obtain⟨A,cL⟩:∃ A,A=s.l.map bA:=⟨_,rfl⟩
  have iV:A.length=8:=by rw[cL]; rfl
  rw[<-cL];have hw:IntKind.i64.wrap ((a:Int)+64)=aX:=by rw[wrap_i64 (by omega) (by omega)]; omega
  by_cases dR:aX<=b.length
  ·have C4:(aX:Int)<=b.length:=by omega
   have ec:gq (.au 1) (cH (some b)) (some (.int .i64 (a:Int))) (some (.int .i64 (aX:Int))) none=some (cH (some ((b.drop a).take 64))) :=by
    unfold cH; rw[ak2 (by omega) (by omega) (by omega)];have:(aX:Int).toNat - (a:Int).toNat=64:=by omega
    rw[this,au0]
   have fb:64<=((b.drop a).take 64).length:=by simp; omega
   have yi:=ads s _ fb;have nD:grind s ((b.drop a).take 64)=grind s (((b.drop a).take 64)) :=rfl;rw[<-cL] at yi;have ch:hy (grind s ((b.drop a).take 64)) (b.drop aX)=hy h b:=by
    rw[<-ak,BW s (b.drop a) (by simp; omega),awD];congr 2; omega
   have hl:k<b.length / 64:=by omega
   have oZ:bg A=true:=by rw[cL]; exact lr bA (fun _=>rfl) _
   obtain⟨It,Kc⟩:∃ It,It=(grind s ((b.drop a).take 64)).l.map bA:=⟨_,rfl⟩
   have adD:It.length=8:=by rw[Kc]; rfl
   rw[<-Kc] at yi;simp[hw,dR,C4,iV,GU A iV,ec];refine a1 yi (by simp[bg,U.closed,oZ,mH]) ?_;simp[nX,iV,adD,hw,hl];exact⟨_,ch,hb,⟨Kc,rfl⟩,jQ⟩
  ·have C4:¬(aX:Int)<=b.length:=by omega
   have am:=ak;rw[E6 s (b.drop a) (by simp; omega)] at am;rw[<-am];have oZ:bg A=true:=by rw[cL]; exact lr bA (fun _=>rfl) _
   simp[hw,dR,C4,iV,GU A iV,nX,jQ];exact aK (by rw[cL]) (by rw[cL] at oZ; simp[U.closed,oZ])
 ·exact⟨rfl,rfl,rfl,rfl,h,rep 8 (.int .u32 0),rfl,by rw[xX]; rfl,rfl⟩
def th (s:cp) (k:Nat) :List B:=(written s).take k++List.replicate (32 - k) 0#8
theorem ai0 (s:cp) (k:Nat) (hk:k<=32) :(th s k).length=32:=by
 unfold th;have:=Ir s;simp; omega
theorem ai1 (s:cp) (k:Nat) (x:B) (af:(written s)[k]? = some x) :(th s k).set k x=th s (k+1) :=by
 have hk:k<32:=(atU.1 af).1;unfold th;have al:(List.take k (written s)).length=k:=by have:=Ir s; simp; omega
 rw[auA _ _ (by omega),al,avY,aud,af,show 32 - k=(32 - (k+1))+1 by omega,auY,avU];simp
theorem ani (s:cp) (k:Nat) (hk:k<32) :∃ w,s.l[k / 4]? = some w/\(written s)[k]? = some ((w >>> (24 - 8*(k % 4))).setWidth 8) :=by
 have aE:∀ w:W,w=w >>> 0:=fun w=>by simp
 obtain⟨a,b,c,d,e,f,g,h⟩:=s;have:∀ (l:List W) (k:Nat),k<4*l.length->∃ w,l[k / 4]? = some w/\(l.map vg).flatten[k]? = some ((w >>> (24 - 8*(k % 4))).setWidth 8) :=by
  intro l
  induction l with
  | nil=>intro k hk; simp at hk
  | cons w l aI=>
   intro k hk
   match k,hk with
   | 0,_=>exact⟨w,rfl,rfl⟩
   | 1,_=>exact⟨w,rfl,rfl⟩
   | 2,_=>exact⟨w,rfl,rfl⟩
   | 3,_=>refine⟨w,rfl,?_⟩; simp[vg]
   | k+4,hk=>
    obtain⟨y,h1,ad⟩:=aI k (by simp at hk; omega);refine⟨y,?_,?_⟩
    ·rw[show (k+4) / 4=k / 4+1 by omega]; exact h1
    ·rw[show (k+4) % 4=k % 4 by omega]; exact ad
 exact this _ k (by simpa [cp.l] using hk)
set_option maxHeartbeats 8000000 in
theorem akg (s:cp) :bw Tryz.prog GS 123 [.aJ (s.l.map bA)] (fz (written s)) :=by
 refine bK Tryz.checked.mixed bB ?_;apply bm Tryz.func123 [];obtain⟨A,cL⟩:∃ A,A=s.l.map bA:=⟨_,rfl⟩
 have iV:A.length=8:=by rw[cL]; rfl
 rw[<-cL];simp[iV];refine cF 32 (fun k ae l=>ae 1=.ptr 0 0 8/\ae 2=.ptr 1 0 32/\ae 3=.ptr 2 0 32/\ae 4=.int .i64 k/\∃ hb,l=[.cells 8 A,.cells 32 hb,.cells 32 ((th s k).map bC)]/\hb.length=32) ?_ ?_
 ·rintro k ae l hk ⟨aM,aT,a7,bD,hb,rfl,jQ⟩;obtain⟨ae,rfl⟩:=iw aM aT a7 bD;clear aM aT a7 bD;by_cases K2:(k:Int)<32
  ·have hl:k<32:=by omega
   have fo:IntKind.i64.wrap ((k:Int)+1)=(k+1:Nat) :=wrap_i64 (by omega) (by omega);have Ly:=Jb k 4 (by omega) (by omega);have lJ:=BX k 4 (by omega);rw[show ((4:Int).toNat)=4 from rfl] at Ly lJ;obtain⟨w,hw,af⟩:=ani s k hl;obtain⟨q,aZ⟩:∃ q,q=k / 4:=⟨_,rfl⟩
   obtain⟨r,az⟩:∃ r,r=k % 4:=⟨_,rfl⟩
   rw[<-aZ] at Ly hw;rw[<-az] at lJ af;have Lx:q<8:=by omega
   obtain⟨y5,UX⟩:∃ y5,y5=8*r:=⟨_,rfl⟩
   have LR:IntKind.i64.wrap (8*(r:Int))=y5:=by rw[wrap_i64 (by omega) (by omega)]; omega
   obtain⟨HQ,agm⟩:∃ HQ,HQ=24 - y5:=⟨_,rfl⟩
   have agK:IntKind.i64.wrap (24 - (y5:Int))=HQ:=by rw[wrap_i64 (by omega) (by omega)]; omega
   have mn:=ai1 s k _ af;rw[<-UX,<-agm] at af mn;have cl:=ai0 s k (by omega);have rA:=oE bC (th s k) k ((w >>> HQ).setWidth 8) (by rw[cl]; exact hl);rw[mn] at rA;obtain⟨O,dX⟩:∃ O,O=(th s k).map bC:=⟨_,rfl⟩
   have sG:O.length=32:=by rw[dX,auh,cl]
   rw[<-dX] at rA ⊢;have adE:A[q]? = some (bA w) :=by rw[cL,at0,hw]; rfl
   obtain⟨adC,adF⟩:=atU.1 adE;have agf:q<=7:=by omega
   have afm:k<=31:=by omega
   have agh:(q:Int)<8:=by omega
   simp[K2,hl,fo,Ly,lJ,LR,agK,iV,Lx,adF,sG,rA,jQ,agf,afm,agh]
  ·have e2:k=32:=by omega
   subst e2;have ap:th s 32=written s:=by unfold th; rw[atT (by rw[Ir]; omega)]; simp
   rw[ap];obtain⟨O,dX⟩:∃ O,O=(written s).map bC:=⟨_,rfl⟩
   have sG:O.length=32:=by rw[dX,auh,Ir]
   have adT:bg O=true:=by rw[dX]; exact lr bC (fun _=>rfl) _
   have aH:O.take 32=O:=atT (by omega);unfold fz;rw[<-dX];simp[sG,aH,nX,jQ];exact aK rfl (by simp[U.closed,adT])
 ·refine⟨rfl,rfl,rfl,rfl,_,rfl,rfl⟩
set_option maxHeartbeats 8000000 in
theorem Nh (s:e0) (ak:s.l.length<=1000000) :bw Tryz.prog GS 77 [cH s] (fz (ic s.l)) :=by
 have lH:cK=140737488355328:=rfl;refine bK Tryz.checked.mixed bB ?_;apply bm Tryz.func77 [];simp;refine a1 acM rfl ?_;have aiN:bG 1 ([a2.cells 32 (rep 32 (U.int IntKind.u8 0))]++[a2.cells 0 []]) (.au 1 1 0 0 0 0) 1 [] :=.au 1 0 0 0 [] _ rfl rfl rfl (by simp) (atW _) (atW _) rfl;obtain⟨v,j,r,h1,ad,aj,aF⟩:=xD (by_:=1) aiN (.inr (atW _)) (x:=cH s) (xs:=s.l.map cc) (by unfold cH; rw[zM,auh]) (by intro e am; obtain⟨x,_,rfl⟩:=auo.1 am; rfl) (by omega) (by omega) (by rw[lH]; simp; omega);have aq:cx v=false:=by rw[aF]; rfl
 simp only[auT,List.singleton_append] at h1 ad;have bl:cz (.au 1) (cH s)=some (.int .i64 s.l.length) :=qB _;have lL:=akf s.l.length (by omega);have GX:(tail s.l.length).length<=80:=by rw[<-N7]; exact Ic _ _
 obtain⟨aY,bM,ct,b6,bJ,c0,di⟩:=xD (by_:=1) (pre:=[a2.cells 32 (rep 32 (U.int IntKind.u8 0))]) ad aj (x:=cH (some (tail s.l.length))) (xs:=(tail s.l.length).map cc) (by unfold cH; rw[zM,auh]; rfl) (by intro e am; obtain⟨x,_,rfl⟩:=auo.1 am; rfl) (by omega) (by omega) (by rw[lH]; simp; omega);have gl:cx aY=false:=by rw[di,aq]; rfl
 rw[<-auq] at bJ;simp only[List.singleton_append] at b6 bJ;have k6:=bJ.m6 (fun _=>rfl) (some (s.l++tail s.l.length)) gl rfl;have fb:=aj9 first (s.l++tail s.l.length) (by simp; omega)
 have Dn:=akg (hy first (s.l++tail s.l.length)).1;have pk:ic s.l=written (hy first (s.l++tail s.l.length)).1:=rfl;rw[<-pk] at Dn;obtain⟨F,o0⟩:∃ F,F=(hy first (s.l++tail s.l.length)).1:=⟨_,rfl⟩
 rw[<-o0] at fb Dn;simp[h1];refine dT.cy ?_;simp[bl];refine a1 lL.Ex rfl ?_;simp[b6];refine dT.cy ?_;simp;refine ia fb (.cons (.same _ ?_) (.cons k6 .nil)) (SB bA (fun _=>rfl) _) ?_
 ·simp[U.closed,lr bA (fun _=>rfl)]
 simp;refine a1 Dn ?_ ?_
 ·simp[bg,U.closed,lr bA (fun _=>rfl)]
 have ec:=va s.l;simp[fz,ec,nX,atT];exact aK rfl (by simp[U.closed,lr bC (fun _=>rfl)])
end g3

end Go.cb

namespace Go.cb
open Go Go.Proofs Go.RowKit
set_option maxRecDepth 100000
open g3
theorem YT {e:TypeId} (aL:Tryz.prog.underlying e=some (.int .u8)) :∀ (n:Nat) {ts:List TypeId} {cs:List U},ea Tryz.prog (List.replicate n e++ts) cs->∃ (x:List B) (cs' : List U),cs=x.map bC++cs'/\x.length=n/\ea Tryz.prog ts cs'
 | 0,ts,cs,h=>⟨[],cs,rfl,rfl,h⟩
 | n+1,ts,cs,h=>by
  obtain⟨k,xK,rfl,h1,ad,aj⟩:=Bq aL h;obtain⟨x,hB,rfl,af,aF⟩:=YT aL n aj;have aU:(0:Int)<=k:=h1;have bt:k<=255:=ad;refine⟨BitVec.ofNat 8 k.toNat::x,hB,?_,by simp[af],aF⟩;have:((BitVec.ofNat 8 k.toNat).toNat:Int)=k:=by
   rw[auc,at7 (by omega)]; omega
  simp[bC,u]; omega
theorem YW {ts:List TypeId} {cs:List U} (h:ea Tryz.prog (40::ts) cs) :∃ (x:BitVec 64) (cs' : List U),cs=da x::cs'/\ea Tryz.prog ts cs':=by
 obtain⟨k,xK,rfl,h1,ad,aj⟩:=Bq (k:=.u64) (by kernel_rfl) h;have aU:(0:Int)<=k:=h1;have bt:k<=18446744073709551615:=ad;refine⟨BitVec.ofNat 64 k.toNat,xK,?_,aj⟩;have:((BitVec.ofNat 64 k.toNat).toNat:Int)=k:=by
  rw[auc,at7 (by omega)]; omega
 simp[da,u]; omega
def Mk:List Int:=g3.bP.map fun k=>(k.toNat:Int)
theorem alS:Bo=Mk.map fun k=>.int .u32 k:=by unfold Bo Mk; rw[avF]; rfl
theorem ahX {W:World} (h:laidMetH Tryz.prog [("braid/digest.constants",Go.Proofs.YtobphgccoalchaaGreatDoor.Rows.laid_braid_digest_constants)] W) :∀ g,fD W (fun _=>True) (GS g) (.pointer (some ⟨g,0,none⟩)) :=by
 intro g;unfold GS;split
 ·rename_i ag;have:=auP ag;subst this;rw[MakeChecks.laidMetH_plain _ _ _ (by kernel_rfl)] at h;obtain⟨cJ,⟨ca,t0,n9,f0,gf,eh,aeZ,LI,iH,KJ,_,_⟩,_,_⟩:=h;have aQ:Tryz.prog.globalNamed "braid/digest.constants"=some 1:=by kernel_rfl
  have bF:(Tryz.prog.globals[1]?).map (·.type)=some 302:=by kernel_rfl
  obtain rfl:=Option.some.inj (aQ.symm.trans aeZ);obtain rfl:=Option.some.inj (bF.symm.trans LI);rw[alS];exact adf Mk aQ iH (n:=64) (e:=76) (by kernel_rfl) (by kernel_rfl) (by kernel_rfl) KJ (by rfl)
 ·exact .bad _
end Go.cb

namespace Go.cb
open Go Go.Proofs
set_option maxRecDepth 100000
open g3
def E1:U->Option B
 | .int .u8 (.ofNat n)=>match Nat.ble n 255 with | true=>some (BitVec.ofNat 8 n) | false=>none
 | _=>none
theorem aav {c:U} {b:B} (h:E1 c=some b) :c=bC b:=by
 unfold E1 at h;split at h
 ·split at h
  ·rename_i n _ aC;have:=auX aC;cases h;simp only[bC,u,auc];congr 1;show (n:Int)=((n % 2 ^ 8:Nat) :Int)
   rw[at7 (show n<2 ^ 8 by omega)]
  ·cases h
 ·cases h
def Pu:List U->Option (List B)
 | []=>some []
 | c::r=>match E1 c with
  | some b=>match Pu r with | some l=>some (b::l) | none=>none
  | none=>none
def dZ:U->Option (List B)
 | .aJ cs=>match Pu cs with | some l=>(match Nat.beq l.length 32 with | true=>some l | false=>none) | none=>none
 | _=>none
def H2:List (List U)->Option (List B)
 | []=>some []
 | [c] ::r=>match E1 c with
  | some b=>match H2 r with | some l=>some (b::l) | none=>none
  | none=>none
 | _=>none
theorem XS:∀ {es:List (List U)} {l:List B},H2 es=some l->es=l.map cc
 | [],l,h=>by cases h; rfl
 | e::r,l,h=>by
  unfold H2 at h;split at h
  ·rename_i aQ; cases aQ
  ·rename_i c ct aQ;cases aQ;split at h
   ·rename_i b ag;split at h
    ·rename_i l' al;cases h;rw[aav ag,XS al]; rfl
    ·cases h
   ·cases h
  ·cases h
def B0:U->Option e0
 | .aW=>some none
 | .bR 1 es=>match H2 es with | some l=>some (some l) | none=>none
 | _=>none
theorem Jc {c:U} {s:e0} (h:B0 c=some s) :c=cH s:=by
 unfold B0 at h;split at h
 ·cases h; rfl
 ·split at h
  ·rename_i l al;cases h;rw[XS al]; rfl
  ·cases h
 ·cases h
def Yv:List U->Option U
 | [c]=>match B0 c with
  | some s=>match Nat.ble s.l.length 10000 with | true=>some (.bE [fz (ic s.l),.int .i64 0]) | false=>none
  | none=>none
 | _=>none
abbrev lg:FuncId × Bool × (List U->Option U) :=(145,false,Yv)
theorem Yx:tK Tryz.prog GS lg:=by
 intro args r h;refine⟨?_,fun h=>by cases h⟩;simp only[Yv] at h;split at h
 ·split at h
  ·rename_i c s ak;split at h
   ·rename_i aC;cases h;rw[Jc ak];exact Yy s (auX aC)
   ·cases h
  ·cases h
 ·cases h
def XE:List U->Option U
 | [c]=>match B0 c with
  | some s=>match Nat.ble s.l.length 1000000 with | true=>some (fz (ic s.l)) | false=>none
  | none=>none
 | _=>none
abbrev Be:FuncId × Bool × (List U->Option U) :=(77,false,XE)
theorem Ee:tK Tryz.prog GS Be:=by
 intro args r h;refine⟨?_,fun h=>by cases h⟩;simp only[XE] at h;split at h
 ·split at h
  ·rename_i c s ak;split at h
   ·rename_i aC;cases h;rw[Jc ak];exact Nh s (auX aC)
   ·cases h
  ·cases h
 ·cases h
end Go.cb

namespace Go.cb
open Go Go.Proofs Go.Sort Go.Shelf
set_option maxRecDepth 100000
open g3
def cq:List B->List B->Int
 | [],[]=>0
 | [],_::_=>-1
 | _::_,[]=>1
 | a::mz,b::nQ=>if a.toNat<b.toNat then -1 else if b.toNat<a.toNat then 1 else cq mz nQ
theorem RN (a b:B) (mz nQ:List B) :cq (a::mz) (b::nQ)=if a.toNat<b.toNat then -1 else if b.toNat<a.toNat then 1 else cq mz nQ:=rfl
theorem oU:∀ a:List B,cq a a=0
 | []=>rfl
 | a::mz=>by unfold cq; simp; exact oU mz
theorem su:∀ {a b:List B},cq a b=0->a=b
 | [],[],_=>rfl
 | [],_::_,h=>by simp[cq] at h
 | _::_,[],h=>by simp[cq] at h
 | a::mz,b::nQ,h=>by
  unfold cq at h;split at h
  ·cases h
  ·split at h
   ·cases h
   ·have h1:a=b:=aua (by omega);rw[h1,su h]
theorem q5:∀ a b:List B,cq b a=- cq a b
 | [],[]=>rfl
 | [],_::_=>rfl
 | _::_,[]=>rfl
 | a::mz,b::nQ=>by
  unfold cq;by_cases h1:a.toNat<b.toNat
  ·simp[h1,show ¬ b.toNat<a.toNat by omega]
  ·by_cases ad:b.toNat<a.toNat
   ·simp[h1,ad]
   ·simp[h1,ad]; exact q5 mz nQ
theorem Cb:∀ a b:List B,cq a b=-1\/cq a b=0\/cq a b=1
 | [],[]=>by simp[cq]
 | [],_::_=>by simp[cq]
 | _::_,[]=>by simp[cq]
 | a::mz,b::nQ=>by
  unfold cq;split
  ·simp
  ·split
   ·simp
   ·exact Cb mz nQ
theorem ua:∀ a b c:List B,cq a b<0->cq b c<0->cq a c<0
 | [],[],_,h,_=>by simp[cq] at h
 | [],_::_,[],_,h=>by simp[cq] at h
 | [],_::_,_::_,_,_=>by simp[cq]
 | _::_,[],_,h,_=>by simp[cq] at h
 | _::_,_::_,[],_,h=>by simp[cq] at h
 | a::mz,b::nQ,c::aj3,h1,ad=>by
  unfold cq at h1 ad ⊢;have aI:=ua mz nQ aj3
  repeat' split at h1
  all_goals repeat' split at ad
  all_goals repeat' split
  all_goals first | omega | (exact aI h1 ad) | (exfalso; omega) | skip
def iq (a b:List B) :Bool:=ltOf cq a b
theorem wO (a b:List B) :iq a b=true<->cq a b<0:=by unfold iq ltOf; simp
theorem N5:SWO (ltOf cq) where
 irrefl x:=by unfold ltOf; rw[oU]; rfl
 trans x y z h1 ad:=by
  unfold ltOf at *
  simp only[decide_eq_true_eq] at *
  exact ua x y z h1 ad
 ntrans x y z h1 ad:=by
  unfold ltOf at *
  simp only[decide_eq_false_iff_not] at *
  intro aj;have aQ:=q5 x y;have bF:=q5 y z;rcases Cb x y with h | h | h
  ·omega
  ·have:=su h; subst this; omega
  ·rcases Cb y z with h' | h' | h'
   ·omega
   ·have:=su h'; subst this; omega
   ·have:=ua z y x (by omega) (by omega);have dn:=q5 x z;omega
theorem aaj (x y:List B) (h1:ltOf cq x y=false) (ad:ltOf cq y x=false) :x=y:=by
 unfold ltOf at *
 simp only[decide_eq_false_iff_not] at *
 have e:=q5 x y;exact su (by omega)
theorem abt {a b:List B} (k:Nat) (h:∀ j,j<k->a[j]? = b[j]?) (ax:k<=a.length) (ag:k<=b.length) :cq (a.drop k) (b.drop k)=cq a b:=by
 induction k with
 | zero=>simp
 | succ k aI=>
  rw[<-aI (fun j ai=>h j (by omega)) (by omega) (by omega)];have h1:=h k (by omega);rw[auU (l:=a) (i:=k) (by omega),auU (l:=b) (i:=k) (by omega)];rw[atX (by omega),atX (by omega)] at h1;have ad:=Option.some.inj h1
  conv=>rhs; unfold cq
  rw[ad];simp
end Go.cb

namespace Go.cb
open Go Go.Proofs
set_option maxRecDepth 100000
namespace Op
open g3
abbrev Q:=BitVec 64
abbrev D:=BitVec 32
theorem Oj:(u (1#64) :Int)=1:=rfl
def eV (x:D) :List U:=[bA x]
def rS (l:List D) :Q:=l.foldl (fun o x=>o*x.setWidth 64 % 1000000007#64) 1#64
theorem ait (l:List D) (k:Nat) (x:D) (h:l[k]? = some x) :rS (l.take (k+1))=rS (l.take k)*x.setWidth 64 % 1000000007#64:=by
 rw[aud,h]; simp[rS,awj]
theorem HV (x:Q) :cu .rem .u64 (u x) .u64 1000000007=some (.int .u64 (u (x % 1000000007#64))) :=zE x 1000000007#64 (by decide)
theorem MD (l:List D) (al:l.length<=1000) :bw Tryz.prog GS 245 [.int .u64 1000000007,cI 1 eV (some l)] (bA ((rS l).setWidth 32)) :=by
 refine bK Tryz.checked.mixed bB ?_;apply bm Tryz.func245 [];have bl:cz (.au 1) (cI 1 eV (some l))=some (.int .i64 l.length) :=qB _;simp[bl];refine cF l.length (fun k ae _=>ae 0=.int .u64 1000000007/\ae 5=da (rS (l.take k))/\ae 8=cI 1 eV (some l)/\ae 9=.int .i64 l.length/\ae 10=.int .i64 k) ?_ (by simp[rS]; rfl);rintro k ae h hk ⟨ca,bh,dw,gL,fS⟩;obtain⟨ae,rfl⟩:=lk ca bh dw gL fS;clear ca bh dw gL fS;by_cases h:k<l.length
 ·obtain⟨x,af,_⟩:=bx h;have bW:cg (.au 1) (cI 1 eV (some l)) (.int .i64 k)=some (.b3 (eV x) 0) :=by rw[rF]; simp[af]
  have fo:IntKind.i64.wrap ((k:Int)+1)=(k+1:Nat) :=wrap_i64 (by omega) (by omega);have ak:=ait l k x af;simp[h,bW,eV,fo,HV];rw[<-ak]
 ·have e2:k=l.length:=by omega
  subst e2;simp;exact aK rfl rfl
def fN (a n:Nat) :Nat:=a ^ n % 1000000007
theorem y3 (a n:Nat) :fN a n<1000000007:=avL _ (by decide)
theorem W5 (a n:Nat) :fN a n*fN a n % 1000000007=fN a (2*n) :=by
 unfold fN; rw[<-awn,<-awE]; congr 2; omega
theorem W3 (a n:Nat) :fN a n*a % 1000000007=fN a (n+1) :=by
 unfold fN; rw[Nat.mod_mul_mod,Nat.pow_succ]
def gW (a:D) (n:Nat) :D:=BitVec.ofNat 32 (fN a.toNat n)
theorem rX (a:D) (n:Nat) :(gW a n).toNat=fN a.toNat n:=by
 have:=y3 a.toNat n;unfold gW; rw[auc]; exact at7 (by omega)
theorem MC (x y:D) (af:x.toNat<1000000007) :(rS [x,y]).setWidth 32=BitVec.ofNat 32 (x.toNat*y.toNat % 1000000007) :=by
 apply aua;have aA:=y.isLt;have h1:x.toNat*y.toNat<1000000007*4294967296:=by
  calc x.toNat*y.toNat<=1000000007*y.toNat:=at2 _ (by omega)
   _<1000000007*4294967296:=Nat.mul_lt_mul_of_pos_left (by simpa using aA) (by decide)
 have ad:(1#64*x.setWidth 64 % 1000000007#64).toNat=x.toNat:=by
  rw[BitVec.one_mul,avc,aub];rw[at7 (show x.toNat<2 ^ 64 by omega),show (1000000007#64).toNat=1000000007 from rfl,at7 af]
 simp only[rS,aw5,List.foldl_nil,aub,avc,avM,ad,auc];rw[at7 (show y.toNat<2 ^ 64 by omega),at7 (show x.toNat*y.toNat<2 ^ 64 by omega),at7 (show 1000000007<2 ^ 64 by decide)]
theorem aiu (a:D) (n:Nat) :(rS [gW a n,gW a n]).setWidth 32=gW a (2*n) :=by
 rw[MC _ _ (by rw[rX]; exact y3 _ _),rX,W5]; rfl
theorem mul_one (a:D) (n:Nat) :(rS [gW a n,a]).setWidth 32=gW a (n+1) :=by
 rw[MC _ _ (by rw[rX]; exact y3 _ _),rX,W3]; rfl
theorem Ec {l:ao} {b:Nat} {x y:D} (h:l[b]? = some (.cells 2 [bA x,bA y])) :fX (bU l) (.au 1 b 0 2 2 2) (cI 1 eV (some [x,y])) :=by
 refine Eb (rest:=[]) (es:=[[bA x],[bA y]]) (by simpa using h) rfl (by simp) (by simp[bg,U.closed])
theorem acT:hE Tryz.prog 260=true:=by kernel_rfl
theorem alr {x:D} {l:ao} {K:U->ao->Prop} (aV:∀ v rest,K v (.cells 1 [bA ((rS [x,x]).setWidth 32)] ::rest)) :cY Tryz.prog GS 260 [.ptr 0 0 1] (.cells 1 [bA x] ::l) (c:=⟨K⟩) :=by
 apply bm Tryz.func260 [];simp;refine ia (MD [x,x] (by simp)) (.cons (.same _ rfl) (.cons (Ec (by simp)) .nil)) rfl ?_;simp;exact aV _ _
theorem TF (n k:Nat) (hk:k<64) :n / 2 ^ (63 - k)=2*(n / 2 ^ (64 - k))+n / 2 ^ (63 - k) % 2:=by
 have:2 ^ (64 - k)=2 ^ (63 - k)*2:=by rw[<-Nat.pow_succ]; congr 1; omega
 rw[this,<-Nat.div_div_eq_div_mul]; omega
theorem HM (a:D) (n:Q) :bw Tryz.prog GS 241 [bA a,da n] (bA (gW a n.toNat)) :=by
 refine bK Tryz.checked.mixed bB ?_;apply bm Tryz.func241 [];simp;refine cF 64 (fun k ae l=>ae 0=bA a/\ae 1=da n/\ae 5=.ptr 0 0 1/\ae 6=.fn 260 [] [.ptr 0 0 1]/\ae 9=.int .i64 k/\∃ r,l=.cells 1 [bA (gW a (n.toNat / 2 ^ (64 - k)))] ::r) ?_ (by
  have:n.toNat / 2 ^ 64=0:=awV n.isLt;simp[this,gW,fN]; rfl)
 rintro k ae l hk ⟨ca,aM,bh,cd,gL,r,rfl⟩;obtain⟨ae,rfl⟩:=lk ca aM bh cd gL;clear ca aM bh cd gL;by_cases h:(k:Int)<64
 ·have fo:IntKind.i64.wrap ((k:Int)+1)=(k+1:Nat) :=wrap_i64 (by omega) (by omega);have yG:IntKind.i64.wrap (63 - (k:Int))=((63 - k:Nat) :Int) :=by rw[wrap_i64 (by omega) (by omega)]; omega
  have ag:=TF n.toNat k (by omega);have pk:cu .shr .u64 (u n) .i64 ((63 - k:Nat) :Int)=some (.int .u64 (u (n >>> (63 - k)))) :=tU n .i64 (63 - k);have adw:64 - (k+1)=63 - k:=by omega
  simp[h,fo];refine⟨acT,?_⟩;simp;refine alr fun v rest=>?_
  simp[yG,pk,aiu];rw[adw];by_cases ap:n.toNat / 2 ^ (63 - k) % 2=1
  ·have KF:n >>> (63 - k) &&& 1#64=1#64:=by
    apply aua;rw[awp,auL,auk];show _ &&& 1=1;rw[Nat.and_one_is_mod,ap]
   rw[ap] at ag;have aZ:gW a (2*(n.toNat / 2 ^ (64 - k))+1)=gW a (n.toNat / 2 ^ (63 - k)) :=by rw[<-ag]
   simp[KF,Oj];refine ia (MD [gW a (2*(n.toNat / 2 ^ (64 - k))),a] (by simp)) (.cons (.same _ rfl) (.cons (Ec (by simp)) .nil)) rfl ?_;rw[mul_one,aZ];simp[fo];omega
  ·have ap:n.toNat / 2 ^ (63 - k) % 2=0:=by omega
   have KF:n >>> (63 - k) &&& 1#64=0#64:=by
    apply aua;rw[awp,auL,auk];show _ &&& 1=0;rw[Nat.and_one_is_mod,ap]
   rw[ap,awt] at ag;simp[KF,fo];rw[<-ag];exact⟨by omega,rfl⟩
 ·have e2:k=64:=by omega
  subst e2;simp;exact aK rfl rfl
theorem M9 (a b:Q) (ag:b≠0#64) :cu .quo .u64 (u a) .u64 (u b)=some (.int .u64 (u (a / b))) :=by
 have bL:(b.toNat:Int)≠0:=fun e=>ag (aua (by simpa using e))
 show (if IntKind.u64=IntKind.u64/\(b.toNat:Int)≠0 then some (U.int .u64 (IntKind.u64.wrap ((a.toNat:Int).tdiv b.toNat))) else none)=_;rw[if_pos ⟨rfl,bL⟩,vh];congr 2;have:((a.toNat:Int).tdiv b.toNat)=((a.toNat / b.toNat:Nat) :Int) :=rfl;rw[this,avh];congr 1;apply aua;rw[auc,avq];exact at7 (Nat.lt_of_le_of_lt (Nat.div_le_self _ _) a.isLt)
theorem Xi (x:Q) :cu .quo .u64 (u x) .u64 2=some (.int .u64 (u (x / 2#64))) :=M9 x 2#64 (by decide)
theorem XI (x:Q) :cu .rem .u64 (u x) .u64 2=some (.int .u64 (u (x % 2#64))) :=zE x 2#64 (by decide)
theorem AX (x y:Q) (af:x.toNat<4294967296) (aA:y.toNat<4294967296) :(x*y % 1000000007#64).toNat=x.toNat*y.toNat % 1000000007:=by
 have h1:x.toNat*y.toNat<18446744073709551616:=by
  calc x.toNat*y.toNat<=4294967295*y.toNat:=at2 _ (by omega)
   _<=4294967295*4294967295:=Nat.mul_le_mul_left _ (by omega)
   _<18446744073709551616:=by decide
 rw[avc,avM,at7 (show x.toNat*y.toNat<2 ^ 64 by omega)]; rfl
theorem ajv (o b m:Nat) (h:m % 2=1) :o*b % 1000000007*(b*b % 1000000007) ^ (m / 2) % 1000000007=o*b ^ m % 1000000007:=by
 have hm:m=2*(m / 2)+1:=by omega
 rw[awn,Nat.mod_mod,awF (b*b % 1000000007),Nat.mod_mod,<-awF,<-awn];congr 1;rw[Nat.mul_pow,Nat.mul_assoc,<-awE]
 conv=>rhs; rw[hm,Nat.pow_succ]
 rw[awT b,show 2*(m / 2)=m / 2+m / 2 by omega]
theorem aju (o b m:Nat) (h:m % 2=0) :o*(b*b % 1000000007) ^ (m / 2) % 1000000007=o*b ^ m % 1000000007:=by
 have hm:m=2*(m / 2) :=by omega
 rw[awn,awF (b*b % 1000000007),Nat.mod_mod,<-awF,<-awn];congr 1;rw[Nat.mul_pow,<-awE]
 conv=>rhs; rw[hm]
 rw[show 2*(m / 2)=m / 2+m / 2 by omega]
theorem W7 (a n:Q) (ax:a.toNat<4294967296) :bw Tryz.prog GS 175 [da a,da n,.int .u64 1000000007] (da (BitVec.ofNat 64 (fN a.toNat n.toNat))) :=by
 refine bK Tryz.checked.mixed bB ?_;apply bm Tryz.func175 [];simp;refine uS (fun m ae _=>∃ o b c:Q,c.toNat=m/\o.toNat<1000000007/\b.toNat<4294967296/\o.toNat*b.toNat ^ m % 1000000007=fN a.toNat n.toNat/\ae 0=da b/\ae 1=da c/\ae 2=.int .u64 1000000007/\ae 7=da o) ?_ n.toNat _ _ ⟨1#64,a,n,rfl,by decide,ax,by simp[fN],by simp; rfl⟩;rintro m ae l ⟨o,b,c,ah,ap,ag,ay,ca,aM,aT,dC⟩;obtain⟨ae,rfl⟩:=iw ca aM aT dC;clear ca aM aT dC;have jr:(u c:Int)=(m:Int) :=by unfold u; rw[ah]
 by_cases hm:m=0
 ·subst hm;have aE:c=0#64:=aua (by simpa using ah);simp[aE];refine aK ?_ rfl;rw[Nat.pow_zero,avo,at7 ap] at ay;rw[<-ay,BitVec.ofNat_toNat,BitVec.setWidth_eq]
 ·have Ad:c≠0#64:=fun e=>hm (by rw[<-ah,e]; rfl)
  have aN:(0:Int)<u c:=by rw[jr]; omega
  have Uc:(c / 2#64).toNat=m / 2:=by rw[avq,ah]; rfl
  have UC:(c % 2#64).toNat=m % 2:=by rw[avc,ah]; rfl
  have b7:(b*b % 1000000007#64).toNat<4294967296:=by
   rw[AX b b ag ag]; have:=avL (b.toNat*b.toNat) (show 1000000007 > 0 by decide); omega
  by_cases UN:m % 2=1
  ·have h1:c % 2#64=1#64:=aua (by rw[UC,UN]; rfl);simp[aN,HV,Xi,XI,h1,Oj];have eY:o.toNat<4294967296:=by omega
   refine⟨m / 2,by omega,_,_,_,Uc,?_,b7,?_,rfl,rfl,rfl⟩
   ·rw[AX o b eY ag]; exact avL _ (by decide)
   ·rw[AX o b eY ag,AX b b ag ag,ajv _ _ _ UN,ay]
  ·have h1:c % 2#64=0#64:=aua (by rw[UC]; simp; omega);simp[aN,HV,Xi,XI,h1,Oj];refine⟨m / 2,by omega,_,_,_,Uc,ap,b7,?_,rfl,rfl,rfl⟩;rw[AX b b ag ag,aju _ _ _ (by omega),ay]
def gm (a:D) :Bool:=decide (0<a.toNat)&&decide (a.toNat<1000000007)&&decide (fN a.toNat 500000003=1)
theorem Mc (a:D) :bw Tryz.prog GS 199 [bA a] (.bool (gm a)) :=by
 refine bK Tryz.checked.mixed bB ?_;apply bm Tryz.func199 [];unfold gm;have h1:((0:Int)<u a)<->0<a.toNat:=by unfold u; omega
 have ad:(u a<(1000000007:Int))<->a.toNat<1000000007:=by unfold u; omega
 by_cases aM:0<a.toNat
 ·by_cases aT:a.toNat<1000000007
  ·simp[h1,ad,aM,aT];refine a1 (HM a 500000003#64) rfl ?_;have aj:(u (gW a 500000003)=(1:Int))<->fN a.toNat 500000003=1:=by unfold u; rw[rX]; omega
   have aF:(500000003#64:Q).toNat=500000003:=rfl;rw[aF];simp[aj];exact aK (by simp[aM,aT]) rfl
  ·simp[h1,ad,aM,aT];exact aK rfl rfl
 ·simp[h1,aM];exact aK rfl rfl
theorem XD (a:D) :bw Tryz.prog GS 128 [bA a] (.bool (gm a)) :=by
 refine bK Tryz.checked.mixed bB ?_;apply bm Tryz.func128 [];unfold gm;have h1:((1:Int)<=u a)<->0<a.toNat:=by unfold u; omega
 have ad:(u a<(1000000007:Int))<->a.toNat<1000000007:=by unfold u; omega
 by_cases aM:0<a.toNat
 ·by_cases aT:a.toNat<1000000007
  ·simp[h1,ad,aM,aT];refine a1 (W7 (a.setWidth 64) 500000003#64 (by rw[aub]; omega)) rfl ?_;have aU:(a.setWidth 64:Q).toNat=a.toNat:=by rw[aub]; omega
   have aF:(500000003#64:Q).toNat=500000003:=rfl;have bt:=y3 a.toNat 500000003;have aj:(u (BitVec.ofNat 64 (fN a.toNat 500000003))=(1:Int))<->fN a.toNat 500000003=1:=by unfold u; rw[auc,at7 (by omega)]; omega
   rw[aF,aU];simp[aj];exact aK (by simp[aM,aT]) rfl
  ·simp[h1,ad,aM,aT];exact aK rfl rfl
 ·simp[h1,aM];exact aK rfl rfl
def ji (a:D) :Bool:=decide (a.toNat<500000003)
theorem Fz (a:D) :bw Tryz.prog GS 130 [bA a] (.bool (ji a)) :=by
 refine bK Tryz.checked.mixed bB ?_;apply bm Tryz.func130 [];unfold ji;have ad:(u (a.setWidth 64)<(500000003:Int))<->a.toNat<500000003:=by unfold u; rw[aub]; omega
 simp[ad];exact aK rfl rfl
@[simp] theorem aop (a b:List UInt8) :oR .eql a b=some (.bool (decide (a=b))) :=by
 by_cases h:a=b<;>simp[oR,h]
@[simp] theorem aos (a b:List UInt8) :oR .neq a b=some (.bool (!decide (a=b))) :=by
 by_cases h:a=b<;>simp[oR,h]
abbrev oa (s:List UInt8) (pos:Nat) :Nat × Nat:=Utf8.decode ⟨s.toArray⟩ pos
theorem S5 (s:List UInt8) (pos:Nat) (b:UInt8) (h:s[pos]? = some b) :(ByteArray.get! ⟨s.toArray⟩ pos)=b:=by
 show (s.toArray)[pos]! = b;obtain⟨h1,ad⟩:=atU.1 h;simp[h1,ad]
theorem abM {s:List UInt8} {pos:Nat} {b:UInt8} (h:s[pos]? = some b) (ag:b.toNat<128) :oa s pos=(b.toNat,1) :=by
 unfold oa;rw[Lib.decode_at,S5 s pos b h];unfold Lib.decodeN;rw[if_pos ag]
theorem abL {s:List UInt8} {pos:Nat} {b:UInt8} (h:s[pos]? = some b) (ag:128<=b.toNat) :128<=(oa s pos).1:=by
 unfold oa;rw[Lib.decode_at,S5 s pos b h];unfold Lib.decodeN;rw[if_neg (by omega)]
 repeat' split
 all_goals (simp only; omega)
theorem R3 (s:List UInt8) (pos:Nat) :1<=(oa s pos).2:=by
 unfold oa;rw[Lib.decode_at];unfold Lib.decodeN
 repeat' split
 all_goals simp only<;>omega
def k7 (p:Nat->Bool) (s:List UInt8) :Nat->Nat->Int
 | 0,_=>-1
 | n+1,pos=>if pos<s.length then (if p (oa s pos).1 then (pos:Int) else k7 p s n (pos+(oa s pos).2)) else -1
theorem Mg (p:Nat->Bool) (s:List UInt8) :∀ (n pos:Nat),s.length - pos<=n->k7 p s n pos=k7 p s (s.length - pos) pos
 | 0,pos,h=>by rw[show s.length - pos=0 by omega]
 | n+1,pos,h=>by
  by_cases ay:pos<s.length
  ·have hw:=R3 s pos;rw[show s.length - pos=(s.length - pos - 1)+1 by omega];unfold k7;rw[if_pos ay,if_pos ay,Mg p s n _ (by omega),Mg p s (s.length - pos - 1) _ (by omega)]
  ·rw[show s.length - pos=0 by omega];unfold k7;rw[if_neg ay]
def nk (cV r:Nat) :Bool:=decide (r<cV)||decide (126<r)
def hr (cV:Nat) (b:UInt8) :Bool:=decide (cV<=b.toNat)&&decide (b.toNat<=126)
theorem Mf (cV:Nat) (eC:cV<=128) (s:List UInt8) :∀ (n pos:Nat),s.length - pos<=n->(k7 (nk cV) s n pos<0<->(s.drop pos).all (hr cV)=true)
 | 0,pos,h=>by
  rw[auB (by omega)];simp[k7]
 | n+1,pos,h=>by
  unfold k7;by_cases ay:pos<s.length
  ·rw[if_pos ay,auU ay,axc];have dU:s[pos]? = some s[pos] :=atX ay;obtain⟨b,ag⟩:∃ b,b=s[pos] :=⟨_,rfl⟩
   rw[<-ag] at dU ⊢;by_cases ak:b.toNat<128
   ·rw[abM dU ak];simp only;have df:hr cV b=!nk cV b.toNat:=by
     unfold hr nk;by_cases h1:b.toNat<cV<;>by_cases ad:126<b.toNat<;>simp[h1,ad]<;>omega
    cases oh:nk cV b.toNat with
    | true=>rw[df,oh]; simp
    | false=>
     rw[df,oh];simp only[avg,if_false,Bool.not_false,auQ];exact Mf cV eC s n (pos+1) (by omega)
   ·have ar:=abL dU (by omega);have oh:nk cV (oa s pos).1=true:=by unfold nk; simp; omega
    have df:hr cV b=false:=by unfold hr; simp; omega
    rw[oh,df]; simp
  ·rw[if_neg ay,auB (by omega)];simp
theorem aiA {s:List UInt8} {pos:Nat} {r:ao} (h:pos<s.length) :uX (.iter s pos::r) (.it 0)=some (.bE [.bool true,.int .i64 pos,.int .i32 (oa s pos).1],.iter s (pos+(oa s pos).2) ::r) :=by
 unfold uX;simp only[aul];rw[show Nat.blt pos s.length=true from Nat.ble_eq_true_of_le h];rfl
theorem aiz {s:List UInt8} {pos:Nat} {r:ao} (h:¬ pos<s.length) :uX (.iter s pos::r) (.it 0)=some (.bE [.bool false],.iter s pos::r) :=by
 unfold uX;simp only[aul];rw[show Nat.blt pos s.length=false by cases ag:Nat.blt pos s.length with | false=>rfl | true=>exact absurd (auX ag) h]
theorem agY {g:FuncId} {p:Nat->Bool} (ar:hE Tryz.prog g=true) (ay:∀ r:Nat,bw Tryz.prog GS g [.int .i32 r] (.bool (p r))) (s:List UInt8) :
  bw Tryz.prog GS 251 [.str s,.fn g [] [],.bool true] (.int .i64 (k7 p s s.length 0)) :=by
 refine bK Tryz.checked.mixed bB ?_;apply bm Tryz.func251 [];simp[Bb];refine uS (fun m ae l=>∃ pos,s.length - pos=m/\k7 p s m pos=k7 p s s.length 0/\ae 1=.fn g [] []/\ae 2=.bool true/\ae 10=.it 0/\l=[.iter s pos]) ?_ s.length _ _ ⟨0,by simp⟩;rintro m ae l ⟨pos,hm,av,aM,aT,fS,rfl⟩;obtain⟨ae,rfl⟩:=kQ aM aT fS;clear aM aT fS;by_cases h:pos<s.length
 ·have gb:m=(m - 1)+1:=by omega
  have hw:=R3 s pos;obtain⟨R,gF⟩:∃ R,R=k7 p s s.length 0:=⟨_,rfl⟩
  rw[<-gF] at av ⊢;rw[gb] at av;unfold k7 at av;rw[if_pos h] at av;simp[aiA h];refine⟨ar,a1 (ay _) rfl ?_⟩;cases ag:p (oa s pos).1 with
  | true=>
   rw[ag] at av;simp;exact aK (by rw[<-av]; simp) rfl
  | false=>
   rw[ag] at av;simp;refine⟨s.length - (pos+(oa s pos).2),by omega,pos+(oa s pos).2,rfl,?_,by simp,by simp,by simp,by simp⟩;rw[<-av];simp only[avg,if_false];rw[Mg p s (m - 1) _ (by omega)]
 ·have jO:m=0:=by omega
  subst jO;simp[aiz h];exact aK (by rw[<-av]; rfl) rfl
theorem Yt {g:FuncId} {p:Nat->Bool} (ar:hE Tryz.prog g=true) (ay:∀ r:Nat,bw Tryz.prog GS g [.int .i32 r] (.bool (p r))) (s:List UInt8) :
  bw Tryz.prog GS 218 [.str s,.fn g [] []] (.int .i64 (k7 p s s.length 0)) :=by
 refine bK Tryz.checked.mixed bB ?_;apply bm Tryz.func218 [];simp;refine a1 (agY ar ay s) rfl ?_;simp;exact aK rfl rfl
theorem ahJ (r:Nat) :bw Tryz.prog GS 219 [.int .i32 r] (.bool (nk 33 r)) :=by
 refine bK Tryz.checked.mixed bB ?_;apply bm Tryz.func219 [];unfold nk;have h1:((r:Int)<33)<->r<33:=by omega
 have ad:((126:Int)<r)<->126<r:=by omega
 by_cases h:r<33
 ·simp[h1,h];exact aK rfl rfl
 ·simp[h1,h,ad];exact aK rfl rfl
theorem alV (r:Nat) :bw Tryz.prog GS 221 [.int .i32 r] (.bool (nk 32 r)) :=by
 refine bK Tryz.checked.mixed bB ?_;apply bm Tryz.func221 [];unfold nk;have h1:((r:Int)<32)<->r<32:=by omega
 have ad:((126:Int)<r)<->126<r:=by omega
 by_cases h:r<32
 ·simp[h1,h];exact aK rfl rfl
 ·simp[h1,h,ad];exact aK rfl rfl
theorem acP:hE Tryz.prog 219=true:=by kernel_rfl
theorem acU:hE Tryz.prog 221=true:=by kernel_rfl
def gA (s:List UInt8) :Bool:=decide (1<=s.length)&&decide (s.length<=20)&&s.all (hr 33)
theorem Mn (s:List UInt8) :bw Tryz.prog GS 157 [.str s] (.bool (gA s)) :=by
 refine bK Tryz.checked.mixed bB ?_;apply bm Tryz.func157 [];unfold gA;have h1:((1:Int)<=s.length)<->1<=s.length:=by omega
 have ad:((s.length:Int)<=20)<->s.length<=20:=by omega
 by_cases aM:1<=s.length
 ·by_cases aT:s.length<=20
  ·simp[h1,ad,aM,aT];refine a1 (Yt acP ahJ s) rfl ?_;have:=Mf 33 (by omega) s s.length 0 (by omega);rw[au3] at this;have aj:decide (k7 (nk 33) s s.length 0<0)=s.all (hr 33) :=by
    cases ag:s.all (hr 33) with
    | true=>simpa using this.2 ag
    | false=>
     have:¬ k7 (nk 33) s s.length 0<0:=fun h=>by rw[this.1 h] at ag; cases ag
     simpa using this
   simp;rw[aj];exact aK (by simp[aM,aT]) rfl
  ·simp[h1,ad,aM,aT];exact aK (by simp[aM,aT]) rfl
 ·simp[h1,aM];exact aK (by simp[aM]) rfl
theorem OY {s:List UInt8} {p:UInt8->Bool} {k:Nat} {b:UInt8} (h:s[k]? = some b) :(s.take (k+1)).all p=((s.take k).all p&&p b) :=by
 rw[aud,h]; simp[List.all_append]
theorem EU {s:List UInt8} {p:UInt8->Bool} {k:Nat} {b:UInt8} (h:s[k]? = some b) (ay:p b=false) :s.all p=false:=by
 rw[List.all_eq_false];exact⟨b,at3 h,by simp[ay]⟩
theorem DQ (s:List UInt8) :bw Tryz.prog GS 108 [.str s] (.bool (gA s)) :=by
 refine bK Tryz.checked.mixed bB ?_;apply bm Tryz.func108 [];have h1:((s.length:Int)<1)<->¬ 1<=s.length:=by omega
 have ad:((20:Int)<s.length)<->¬ s.length<=20:=by omega
 by_cases aM:1<=s.length
 ·by_cases aT:s.length<=20
  ·simp[h1,ad,aM,aT];refine cF s.length (fun k ae _=>ae 0=.str s/\ae 3=.int .i64 k/\(s.take k).all (hr 33)=true) ?_ (by simp);rintro k ae l hk ⟨hM,dn,eH⟩;obtain⟨ae,rfl⟩:=pE hM dn;clear hM dn;by_cases h:k<s.length
   ·obtain⟨b,ag,_⟩:=bx h;have fo:IntKind.i64.wrap ((k:Int)+1)=(k+1:Nat) :=wrap_i64 (by omega) (by omega);have dW:((b.toNat:Int)<33)<->¬ 33<=b.toNat:=by omega
    have dB:((126:Int)<b.toNat)<->¬ b.toNat<=126:=by omega
    have fJ:yI (.str s) (.int .i64 k)=some (.int .u8 b.toNat) :=by simp[ag,jf]
    by_cases q1:33<=b.toNat
    ·by_cases ff:b.toNat<=126
     ·have df:hr 33 b=true:=by simp[hr,q1,ff]
      simp[h,fJ,dW,dB,q1,ff,fo,OY ag,df,-AQ];simpa using eH
     ·have df:hr 33 b=false:=by simp[hr,ff]
      simp[h,fJ,dW,dB,q1,ff,-AQ];exact aK (by simp[gA,EU ag df]) rfl
    ·have df:hr 33 b=false:=by simp[hr,q1]
     simp[h,fJ,dW,q1,-AQ];exact aK (by simp[gA,EU ag df]) rfl
   ·have e2:k=s.length:=by omega
    subst e2;rw[aun] at eH;simp;exact aK (by simp only[gA,eH]; simp[aM,aT]) rfl
  ·simp[h1,ad,aM,aT];exact aK (by simp[gA,aT]) rfl
 ·simp[h1,aM];exact aK (by simp[gA,aM]) rfl
theorem ajl (s:List UInt8) (al:s.length<=1000000000) :bw Tryz.prog GS 163 [.str s] (.bool (s.all (hr 32))) :=by
 refine bK Tryz.checked.mixed bB ?_;apply bm Tryz.func163 [];simp;refine cF s.length (fun k ae _=>ae 0=.str s/\ae 3=.int .i64 k/\(s.take k).all (hr 32)=true) ?_ (by simp);rintro k ae l hk ⟨hM,dn,eH⟩;obtain⟨ae,rfl⟩:=pE hM dn;clear hM dn;by_cases h:k<s.length
 ·obtain⟨b,ag,_⟩:=bx h;have fo:IntKind.i64.wrap ((k:Int)+1)=(k+1:Nat) :=wrap_i64 (by omega) (by omega);have dW:((b.toNat:Int)<32)<->¬ 32<=b.toNat:=by omega
  have dB:((126:Int)<b.toNat)<->¬ b.toNat<=126:=by omega
  have fJ:yI (.str s) (.int .i64 k)=some (.int .u8 b.toNat) :=by simp[ag,jf]
  by_cases q1:32<=b.toNat
  ·by_cases ff:b.toNat<=126
   ·have df:hr 32 b=true:=by simp[hr,q1,ff]
    simp[h,fJ,dW,dB,q1,ff,fo,OY ag,df,-AQ];simpa using eH
   ·have df:hr 32 b=false:=by simp[hr,ff]
    simp[h,fJ,dW,dB,q1,ff,-AQ];exact aK (by simp only[EU ag df]) rfl
  ·have df:hr 32 b=false:=by simp[hr,q1]
   simp[h,fJ,dW,q1,-AQ];exact aK (by simp only[EU ag df]) rfl
 ·have e2:k=s.length:=by omega
  subst e2;rw[aun] at eH;simp;exact aK (by simp only[eH]) rfl
structure hK where
 kind:B
 num:Int
 bits:Q
 text:List UInt8
def dP (v:hK) :List U:=[bC v.kind,.int .i64 v.num,da v.bits,.str v.text]
def oH:hK:=⟨0#8,0,0#64,[]⟩
def j5 (b:Q) :Nat:=b.toNat / 4503599627370496 % 2048
def p2 (b:Q) :Q:=b % 4503599627370496#64
def cls (b:Q) :B:=if j5 b=2047 then (if p2 b=0#64 then 4#8 else 5#8) else if j5 b=0 then (if p2 b=0#64 then 1#8 else 2#8) else 3#8
def np (b:Q) :Q:=if cls b=5#8 then 9221120237041090560#64 else b
theorem iv (k:B) :((u k:Int)=1)<->k=1#8:=r4 k 1#8
theorem lX (k:B) :((u k:Int)=2)<->k=2#8:=r4 k 2#8
theorem pD (k:B) :((u k:Int)=3)<->k=3#8:=r4 k 3#8
theorem xk (k:B) :((u k:Int)=4)<->k=4#8:=r4 k 4#8
theorem Ih (k:B) :((u k:Int)=5)<->k=5#8:=r4 k 5#8
theorem amm (k:B) :((u k:Int)=0)<->k=0#8:=r4 k 0#8
theorem u2 (k:Q) :((u k:Int)=0)<->k=0#64:=r4 k 0#64
theorem Sn (b:Q) :j5 b<2048:=avL _ (by decide)
theorem aag (n:Nat) (h:n<9223372036854775808) :cu .and .i64 (n:Int) .i64 2047=some (.int .i64 ((n % 2048:Nat) :Int)) :=by
 show some (U.int .i64 (IntKind.i64.wrap ((BitVec.ofInt 64 (n:Int) &&& BitVec.ofInt 64 (2047:Int)).toNat:Int)))=_;have h1:(BitVec.ofInt 64 (n:Int) &&& BitVec.ofInt 64 (2047:Int)).toNat=n % 2048:=by
  rw[avh,awp,auc,at7 (by omega)];exact awx n 11
 have ad:=avL n (show 2048 > 0 by decide);rw[h1];generalize n % 2048=q at ad;rw[wrap_i64 (by omega) (by omega)]
theorem ac5 (b:Q) :b &&& 4503599627370495#64=p2 b:=by
 apply aua;unfold p2;rw[awp,avc];exact awx b.toNat 52
theorem alp (b:Q) :bw Tryz.prog GS 264 [da b] (.bE [.int .i64 (j5 b),da (p2 b)]) :=by
 refine bK Tryz.checked.mixed bB ?_;apply bm Tryz.func264 [];have ag:=b.isLt;have h1:IntKind.i64.wrap (u (b >>> 52))=((b.toNat / 4503599627370496:Nat) :Int) :=by
  have:u (b >>> 52)=((b.toNat / 4503599627370496:Nat) :Int) :=by unfold u; rw[auL,auk]
  rw[this,wrap_i64 (by omega) (by omega)]
 have ad:=aag (b.toNat / 4503599627370496) (by omega);have am:j5 b=b.toNat / 4503599627370496 % 2048:=rfl;rw[<-am] at ad;obtain⟨q,aZ⟩:∃ q,b.toNat / 4503599627370496=q:=⟨_,rfl⟩
 rw[aZ] at h1 ad;have aj:cu .and .u64 (u b) .u64 4503599627370495=some (da (p2 b)) :=by
  rw[Ph,mx,<-ac5]; rfl
 have aF:cu .shr .u64 (u b) .u64 52=some (.int .u64 (u (b >>> 52))) :=tU b .u64 52;simp[aF,h1,ad,aj,-Ph];exact aK rfl rfl
theorem akd (b:Q) :bw Tryz.prog GS 253 [da b] (.int .i64 (j5 b)) :=by
 refine bK Tryz.checked.mixed bB ?_;apply bm Tryz.func253 [];have ag:=b.isLt;have h1:cu .rem .u64 (u b) .u64 9223372036854775808=some (da (b % 9223372036854775808#64)) :=zE b 9223372036854775808#64 (by decide);have ad:cu .quo .u64 (u (b % 9223372036854775808#64)) .u64 4503599627370496=some (da (b % 9223372036854775808#64 / 4503599627370496#64)) :=M9 _ 4503599627370496#64 (by decide);have aj:IntKind.i64.wrap (u (b % 9223372036854775808#64 / 4503599627370496#64))=(j5 b:Int) :=by
  have:u (b % 9223372036854775808#64 / 4503599627370496#64)=(j5 b:Int) :=by
   unfold u j5;rw[avq,avc];show (((b.toNat % 9223372036854775808) / 4503599627370496:Nat) :Int)=_;congr 1;omega
  have aF:=Sn b;rw[this,wrap_i64 (by omega) (by omega)]
 simp[h1,ad,aj];exact aK rfl rfl
theorem ake (b:Q) :bw Tryz.prog GS 254 [da b] (da (p2 b)) :=by
 refine bK Tryz.checked.mixed bB ?_;apply bm Tryz.func254 [];have h1:cu .rem .u64 (u b) .u64 4503599627370496=some (da (p2 b)) :=zE b 4503599627370496#64 (by decide);simp[h1];exact aK rfl rfl
theorem abk (b:Q) :bw Tryz.prog GS 252 [da b] (bC (cls b)) :=by
 refine bK Tryz.checked.mixed bB ?_;apply bm Tryz.func252 [];unfold cls;simp;refine a1 (alp b) rfl ?_;have h1:((j5 b:Int)=2047)<->j5 b=2047:=by omega
 have ad:((j5 b:Int)=0)<->j5 b=0:=by omega
 by_cases aM:j5 b=2047
 ·by_cases aT:p2 b=0#64
  ·simp[h1,aM,aT];exact aK rfl rfl
  ·simp[h1,aM,aT,u2];exact aK rfl rfl
 ·by_cases a7:j5 b=0
  ·by_cases aT:p2 b=0#64
   ·simp[h1,ad,aM,aT,a7];exact aK rfl rfl
   ·simp[h1,ad,aM,aT,a7,u2];exact aK rfl rfl
  ·simp[h1,ad,aM,a7];exact aK rfl rfl
theorem akc (b:Q) :bw Tryz.prog GS 222 [da b] (bC (cls b)) :=by
 refine bK Tryz.checked.mixed bB ?_;apply bm Tryz.func222 [];unfold cls;simp;refine a1 (akd b) rfl ?_;simp;refine a1 (ake b) rfl ?_;have ad:((j5 b:Int)=0)<->j5 b=0:=by omega
 have aj:((j5 b:Int)<2047)<->¬ j5 b=2047:=by have:=Sn b; omega
 by_cases a7:j5 b=0
 ·by_cases aT:p2 b=0#64
  ·simp[ad,aT,a7];exact aK rfl rfl
  ·simp[ad,aT,a7,u2];exact aK rfl rfl
 ·by_cases aM:j5 b=2047
  ·by_cases aT:p2 b=0#64
   ·simp[ad,aj,aM,aT];exact aK rfl rfl
   ·simp[ad,aj,aM,aT,u2];exact aK rfl rfl
  ·simp[ad,aj,aM,a7];exact aK rfl rfl
theorem aa5 (b:Q) :bw Tryz.prog GS 220 [da b] (da (np b)) :=by
 refine bK Tryz.checked.mixed bB ?_;apply bm Tryz.func220 [];unfold np;simp;refine a1 (abk b) rfl ?_;by_cases h:cls b=5#8
 ·simp[Ih,h];exact aK rfl rfl
 ·simp[Ih,h];exact aK rfl rfl
theorem aka (b:Q) :bw Tryz.prog GS 162 [da b] (da (np b)) :=by
 refine bK Tryz.checked.mixed bB ?_;apply bm Tryz.func162 [];unfold np;simp;refine a1 (akc b) rfl ?_;by_cases h:cls b=5#8
 ·simp[Ih,h];exact aK rfl rfl
 ·simp[Ih,h];exact aK rfl rfl
theorem ams (n:Int) :bw Tryz.prog GS 158 [.int .i64 n] (.aJ (dP ⟨1#8,n,0#64,[]⟩)) :=by
 refine bK Tryz.checked.mixed bB ?_;apply bm Tryz.func158 [];simp;exact aK rfl rfl
theorem amr (b:Q) :bw Tryz.prog GS 159 [da b] (.aJ (dP ⟨2#8,0,np b,[]⟩)) :=by
 refine bK Tryz.checked.mixed bB ?_;apply bm Tryz.func159 [];simp;refine a1 (aa5 b) rfl ?_;simp;exact aK rfl rfl
def tA (s:List UInt8) :hK × Int:=if s.length<=30 then (if s.all (hr 32) then (⟨3#8,0,0#64,s⟩,0) else (oH,8)) else (oH,4)
theorem amt (s:List UInt8) :bw Tryz.prog GS 160 [.str s] (.bE [.aJ (dP (tA s).1),.int .i64 (tA s).2]) :=by
 refine bK Tryz.checked.mixed bB ?_;apply bm Tryz.func160 [];unfold tA;have ad:((30:Int)<s.length)<->¬ s.length<=30:=by omega
 by_cases aT:s.length<=30
 ·simp[ad,aT];refine a1 (Yt acU alV s) rfl ?_;have aj:=Mf 32 (by omega) s s.length 0 (by omega);rw[au3] at aj;have aF:((0:Int)<=k7 (nk 32) s s.length 0)<->¬ (s.all (hr 32)=true) :=by rw[<-aj]; omega
  cases ag:s.all (hr 32) with
  | true=>
   have aU:¬ (0:Int)<=k7 (nk 32) s s.length 0:=by rw[aF,ag]; simp
   simp[aU];exact aK (by simp[aT]; rfl) rfl
  | false=>
   have aU:(0:Int)<=k7 (nk 32) s s.length 0:=by rw[aF,ag]; simp
   simp[aU];exact aK (by simp[aT]; rfl) rfl
 ·simp[ad,aT];exact aK rfl rfl
def jG (v:hK) :Bool:=
 if v.kind=1#8 then decide (v.bits=0#64)&&decide (v.text=[])
 else if v.kind=2#8 then decide (v.num=0)&&decide (v.text=[])&&decide (np v.bits=v.bits)
 else if v.kind=3#8 then decide (v.num=0)&&decide (v.bits=0#64)&&decide (v.text.length<=30)&&v.text.all (hr 32)
 else false
def gD (b:Bool) :Int:=if b then 0 else 8
def ahz:List l2:=[.i .u8,.i .i64,.i .u64,.s]
theorem VV:rL Tryz.prog 20 42=some ahz:=by kernel_rfl
theorem amu (a b:hK) :gv Tryz.prog .eql 42 (.aJ (dP a)) (.aJ (dP b))=some (.bool (fu (dP a) (dP b))) :=I6 VV (by kernel_rfl) (by kernel_rfl) rfl rfl
theorem amv (a b:hK) :gv Tryz.prog .neq 42 (.aJ (dP a)) (.aJ (dP b))=some (.bool (!fu (dP a) (dP b))) :=E4 VV (by kernel_rfl) (by kernel_rfl) rfl rfl
theorem Pp (a b:hK) :fu (dP a) (dP b)=(decide (a.kind=b.kind)&&(decide (a.num=b.num)&&(decide (a.bits=b.bits)&&decide (a.text=b.text)))) :=by
 simp[dP,fu,U.beq]
theorem On {v:hK} (k:v.kind=1#8) :jG v=(decide (v.bits=0#64)&&decide (v.text=[])) :=by simp[jG,k]
theorem Oo {v:hK} (k:v.kind=2#8) :jG v=(decide (v.num=0)&&(decide (v.bits=np v.bits)&&decide (v.text=[]))) :=by
 unfold jG;rw[if_neg (by rw[k]; decide),if_pos k,show decide (np v.bits=v.bits)=decide (v.bits=np v.bits) from decide_eq_decide.2 eq_comm];cases decide (v.num=0)<;>cases decide (v.text=[])<;>cases decide (v.bits=np v.bits)<;>rfl
theorem Y4 {v:hK} (k:v.kind=3#8) :jG v=(decide (v.kind=(tA v.text).1.kind)&&(decide (v.num=(tA v.text).1.num)&&(decide (v.bits=(tA v.text).1.bits)&&decide (v.text=(tA v.text).1.text)))) :=by
 unfold jG tA;rw[if_neg (by rw[k]; decide),if_neg (by rw[k]; decide),if_pos k];by_cases h1:v.text.length<=30
 ·cases ad:v.text.all (hr 32) with
  | true=>simp[h1,k]
  | false=>simp[h1,k,oH]
 ·simp[h1,k,oH]
theorem Oq {v:hK} (b6:v.kind≠1#8) (bJ:v.kind≠2#8) (c0:v.kind≠3#8) :jG v=false:=by simp[jG,b6,bJ,c0]
theorem Om (v:hK) :bw Tryz.prog GS 105 [.aJ (dP v)] (.int .i64 (gD (jG v))) :=by
 refine bK Tryz.checked.mixed bB ?_;apply bm Tryz.func105 [];have aw:∀ (k:B) (n:Int) (b:Q) (t:List UInt8),gv Tryz.prog .neq 42 (.aJ [bC v.kind,.int .i64 v.num,da v.bits,.str v.text]) (.aJ [bC k,.int .i64 n,da b,.str t])=some (.bool (!(decide (v.kind=k)&&(decide (v.num=n)&&(decide (v.bits=b)&&decide (v.text=t)))))) :=fun k n b t=>by rw[<-Pp v ⟨k,n,b,t⟩]; exact amv v ⟨k,n,b,t⟩
 by_cases b6:v.kind=1#8
 ·have h1:=aw 1#8 v.num 0#64 [];simp only[b6] at h1;unfold dP;simp[iv,b6];refine a1 (ams v.num) rfl ?_;unfold dP;simp[h1];rw[On b6];cases decide (v.bits=0#64)<;>cases decide (v.text=[])<;>simp[b6]<;>exact aK rfl rfl
 ·by_cases bJ:v.kind=2#8
  ·have h1:=aw 2#8 0 (np v.bits) [];simp only[bJ] at h1;unfold dP;simp[iv,lX,bJ];refine a1 (amr v.bits) rfl ?_;unfold dP;simp[h1];rw[Oo bJ];cases decide (v.num=0)<;>cases decide (v.bits=np v.bits)<;>cases decide (v.text=[])<;>simp[bJ]<;>exact aK rfl rfl
  ·by_cases c0:v.kind=3#8
   ·obtain⟨w,hw⟩:∃ w,w=(tA v.text).1:=⟨_,rfl⟩
    have h1:=aw w.kind w.num w.bits w.text;have aj:=Y4 c0;rw[<-hw] at aj;simp only[c0] at h1 aj;unfold dP;simp[iv,lX,pD,c0];refine a1 (amt v.text) rfl ?_;rw[<-hw];unfold dP;simp[h1];rw[aj];cases decide (3#8=w.kind)<;>cases decide (v.num=w.num)<;>cases decide (v.bits=w.bits)<;>cases decide (v.text=w.text)<;>simp[c0]<;>exact aK rfl rfl
   ·have h1:gv Tryz.prog .neq 42 (.aJ [bC v.kind,.int .i64 v.num,da v.bits,.str v.text]) (.aJ [.int .u8 0,.int .i64 0,.int .u64 0,.str []])=some (.bool (!(decide (v.kind=0#8)&&(decide (v.num=0)&&(decide (v.bits=0#64)&&decide (v.text=[])))))) :=aw 0#8 0 0#64 [];rw[Oq b6 bJ c0];unfold dP;simp[iv,lX,pD,b6,bJ,c0];by_cases gT:v.kind=0#8
    ·simp only[gT,decide_true,auQ] at h1;simp[gT,h1];cases decide (v.num=0)<;>cases decide (v.bits=0#64)<;>cases decide (v.text=[])<;>simp[gT]<;>exact aK rfl rfl
    ·simp only[gT,decide_false,auV,Bool.not_false] at h1;simp[h1];exact aK rfl rfl
theorem XF (v:hK) :bw Tryz.prog GS 110 [.aJ (dP v)] (.int .i64 (gD (jG v))) :=by
 refine bK Tryz.checked.mixed bB ?_;apply bm Tryz.func110 [[[0],[1],[2],[3],[4],[5],[6],[7],[8],[9],[10],[12],[13],[11,13]]];by_cases b6:v.kind=1#8
 ·rw[On b6];unfold dP;simp[iv,b6,u2];by_cases aM:v.bits=0#64<;>by_cases aT:v.text=[]<;>simp[aM,aT,u2]<;>exact aK rfl rfl
 ·by_cases bJ:v.kind=2#8
  ·rw[Oo bJ];unfold dP;simp[iv,lX,bJ];by_cases aM:v.num=0
   ·by_cases aT:v.text=[]
    ·simp[aM,aT];refine a1 (aka v.bits) rfl ?_;by_cases a7:v.bits=np v.bits
     ·have bD:np v.bits=v.bits:=a7.symm;simp[bD];exact aK (by simp[gD,aM,aT,bD]) rfl
     ·have bD:¬ np v.bits=v.bits:=fun h=>a7 h.symm
      simp[a7,bD];exact aK (by simp[gD,a7]) rfl
    ·simp[aM,aT];exact aK rfl rfl
   ·simp[aM];exact aK rfl rfl
  ·by_cases c0:v.kind=3#8
   ·have aq:jG v=(decide (v.num=0)&&decide (v.bits=0#64)&&decide (v.text.length<=30)&&v.text.all (hr 32)) :=by simp[jG,c0]
    have ad:((v.text.length:Int)<=30)<->v.text.length<=30:=by omega
    rw[aq];unfold dP;simp[iv,lX,pD,c0,u2];by_cases aM:v.num=0
    ·by_cases aT:v.bits=0#64
     ·by_cases a7:v.text.length<=30
      ·simp[aM,aT,ad,a7];refine a1 (ajl v.text (by omega)) rfl ?_;cases v.text.all (hr 32)<;>simp<;>exact aK (by simp[gD,aM,aT,a7]) rfl
      ·simp[aM,aT,ad,a7];exact aK rfl rfl
     ·simp[aM,aT,u2];exact aK rfl rfl
    ·simp[aM];exact aK rfl rfl
   ·rw[Oq b6 bJ c0];unfold dP;simp[iv,lX,pD,b6,bJ,c0];exact aK rfl rfl
structure Act where
 kind:B
 key:List UInt8
 val:hK
def lv (a:Act) :List U:=[bC a.kind,.str a.key,bC a.val.kind,.int .i64 a.val.num,da a.val.bits,.str a.val.text]
def nN (v:hK) :Bool:=decide (v.kind=0#8)&&(decide (v.num=0)&&(decide (v.bits=0#64)&&decide (v.text=[])))
def j1 (a:Act) :Bool:=
 if a.kind=1#8 then decide (a.key=[])&&nN a.val
 else if a.kind=2#8\/a.kind=3#8 then gA a.key&&nN a.val
 else if a.kind=4#8 then gA a.key&&jG a.val
 else false
def qz:List l2:=[.i .u8,.s,.i .u8,.i .i64,.i .u64,.s]
theorem ahN:rL Tryz.prog 20 78=some qz:=by kernel_rfl
theorem Z1 (a b:Act) :gv Tryz.prog .eql 78 (.aJ (lv a)) (.aJ (lv b))=some (.bool (fu (lv a) (lv b))) :=I6 ahN (by kernel_rfl) (by kernel_rfl) rfl rfl
theorem Z2 (a:Act) (h:a.kind=1#8) :gv Tryz.prog .eql 78 (.aJ [.int .u8 1,.str a.key,bC a.val.kind,.int .i64 a.val.num,da a.val.bits,.str a.val.text]) (.aJ [.int .u8 1,.str [],.int .u8 0,.int .i64 0,.int .u64 0,.str []])=some (.bool (decide (a.key=[])&&nN a.val)) :=by
 have:=Z1 a ⟨1#8,[],oH⟩;simp only[lv,h] at this;refine Eq.trans this ?_;simp[fu,U.beq,nN,oH,amm,u2];congr
theorem Y3 (v:hK) :gv Tryz.prog .eql 42 (.aJ [bC v.kind,.int .i64 v.num,da v.bits,.str v.text]) (.aJ [.int .u8 0,.int .i64 0,.int .u64 0,.str []])=some (.bool (nN v)) :=by
 have:=amu v oH;rw[Pp] at this;exact this
theorem OP {a:Act} (k:a.kind=1#8) :j1 a=(decide (a.key=[])&&nN a.val) :=by simp[j1,k]
theorem BP {a:Act} (k:a.kind=2#8) :j1 a=(gA a.key&&nN a.val) :=by simp[j1,k]
theorem IP {a:Act} (k:a.kind=3#8) :j1 a=(gA a.key&&nN a.val) :=by simp[j1,k]
theorem BQ {a:Act} (k:a.kind=4#8) :j1 a=(gA a.key&&jG a.val) :=by simp[j1,k]
theorem IQ {a:Act} (b6:a.kind≠1#8) (bJ:a.kind≠2#8) (c0:a.kind≠3#8) (di:a.kind≠4#8) :j1 a=false:=by simp[j1,b6,bJ,c0,di]
theorem Jo (a:Act) :bw Tryz.prog GS 104 [.aJ (lv a)] (.int .i64 (gD (j1 a))) :=by
 refine bK Tryz.checked.mixed bB ?_;apply bm Tryz.func104 [];by_cases b6:a.kind=1#8
 ·have h1:=Z2 a b6;have aQ:bC (1#8)=.int .u8 1:=rfl;rw[OP b6];unfold lv;simp[iv,b6,aQ,h1];by_cases aM:a.key=[]<;>cases aT:nN a.val<;>simp[aM,aT]<;>exact aK rfl rfl
 ·have h1:=Y3 a.val;by_cases bJ:a.kind=2#8
  ·rw[BP bJ];unfold lv;simp[iv,lX,pD,b6,bJ];refine a1 (Mn a.key) rfl ?_;cases gA a.key with
   | true=>simp[h1]; cases nN a.val<;>simp<;>exact aK rfl rfl
   | false=>simp; exact aK rfl rfl
  ·by_cases c0:a.kind=3#8
   ·rw[IP c0];unfold lv;simp[iv,lX,pD,b6,c0];refine a1 (Mn a.key) rfl ?_;cases gA a.key with
    | true=>simp[h1]; cases nN a.val<;>simp<;>exact aK rfl rfl
    | false=>simp; exact aK rfl rfl
   ·by_cases di:a.kind=4#8
    ·rw[BQ di];unfold lv;simp[iv,lX,pD,xk,di];refine a1 (Mn a.key) rfl ?_;cases gA a.key with
     | true=>
      simp;refine a1 (Om a.val) rfl ?_;cases jG a.val<;>simp[gD]<;>exact aK rfl rfl
     | false=>simp; exact aK rfl rfl
    ·rw[IQ b6 bJ c0 di];unfold lv;simp[iv,lX,pD,xk,b6,bJ,c0,di];exact aK rfl rfl
theorem akb (a:Act) :bw Tryz.prog GS 129 [.aJ (lv a)] (.int .i64 (gD (j1 a))) :=by
 refine bK Tryz.checked.mixed bB ?_;apply bm Tryz.func129 [];have h1:=Y3 a.val;by_cases b6:a.kind=1#8
 ·rw[OP b6];unfold lv;simp[iv,b6,h1];by_cases aM:a.key=[]<;>cases aT:nN a.val<;>simp[aM,aT]<;>exact aK rfl rfl
 ·by_cases bJ:a.kind=2#8
  ·rw[BP bJ];unfold lv;simp[iv,lX,pD,b6,bJ,h1];refine a1 (DQ a.key) rfl ?_;cases gA a.key with
   | true=>simp; cases nN a.val<;>simp<;>exact aK rfl rfl
   | false=>simp; exact aK rfl rfl
  ·by_cases c0:a.kind=3#8
   ·rw[IP c0];unfold lv;simp[iv,lX,pD,b6,c0,h1];refine a1 (DQ a.key) rfl ?_;cases gA a.key with
    | true=>simp; cases nN a.val<;>simp<;>exact aK rfl rfl
    | false=>simp; exact aK rfl rfl
   ·by_cases di:a.kind=4#8
    ·rw[BQ di];unfold lv;simp[iv,lX,pD,xk,di,h1];refine a1 (DQ a.key) rfl ?_;cases gA a.key with
     | true=>
      simp;refine a1 (XF a.val) rfl ?_;cases jG a.val<;>simp[gD]<;>exact aK rfl rfl
     | false=>simp; exact aK rfl rfl
    ·rw[IQ b6 bJ c0 di];unfold lv;simp[iv,lX,pD,xk,b6,bJ,c0,di,h1];exact aK rfl rfl
end Op

end Go.cb

namespace Go.cb
open Go Go.Proofs
set_option maxRecDepth 100000
def cn {α:Type} (z:Nat) (enc:α->List U) (l l1:ao) (v:U) (a:List α) (g2:Bool) :Prop:=
 ∃ j,bG z l1 v j (a.map enc)/\l.length<=l1.length/\(∀ b,b<l.length->l1[b]? = l[b]?)/\(v=.aW\/l.length<=j)/\cx v=g2
section
variable {α:Type} {z:Nat} {enc:α->List U} {l l1:ao} {v:U} {a:List α} {g2:Bool}
theorem cn.nil:cn z enc l l .aW ([] :List α) true:=⟨0,.nil 0,atW _,fun _ _=>rfl,.inl rfl,rfl⟩
theorem cn.more (h:cn z enc l l1 v a g2) (r:ao) :cn z enc l (l1++r) v a g2:=by
 obtain⟨j,h1,ad,aj,aF,aU⟩:=h;exact⟨j,h1.more r,by simp; omega,fun b ag=>by rw[atV (by omega)]; exact aj b ag,aF,aU⟩
theorem cn.len (h:cn z enc l l1 v a g2) :cz (.au z) v=some (.int .i64 a.length) :=by
 obtain⟨j,h1,_⟩:=h;rw[h1.len,auh]
theorem cn.cells (h:cn z enc l l1 v a g2) :v.cells=some [v] :=by
 obtain⟨j,h1,_⟩:=h;exact h1.cells
theorem cn.contents (h:cn z enc l l1 v a g2) :dM l1 z v=some ((a.map enc).flatten,a.length) :=by
 obtain⟨j,h1,_⟩:=h;rw[h1.contents,auh]
theorem cn.le (h:cn z enc l l1 v a g2) :l.length<=l1.length:=by obtain⟨j,h1,ad,_⟩:=h; exact ad
theorem cn.same (h:cn z enc l l1 v a g2) :∀ b,b<l.length->l1[b]? = l[b]?:=by obtain⟨j,h1,ad,aj,_⟩:=h; exact aj
theorem cn.rZ (h:cn z enc l l1 v a g2) (aD:∀ x,bg (enc x)=true) (s:c6 α) (ak:g2=s.isNone) (af:s.l=a) :fX (bU l1) v (cI z enc s) :=by
 obtain⟨j,h1,ad,aj,aF,aU⟩:=h;exact h1.m6 aD s (by rw[aU,ak]) af
theorem cn.rd (h:cn z enc l l1 v a g2) (aD:∀ x,bg (enc x)=true) (s:c6 α) (ak:g2=s.isNone) (af:s.l=a) :Rd l1 v (cI z enc s) :=by
 obtain⟨j,h1,ad,aj,aF,aU⟩:=h;exact h1.q.oA aD s (by rw[aU,ak]) af
theorem cn.HT (h:cn z enc l l1 v a g2) (aD:∀ x,l7 (enc x)=true) (s:c6 α) (ak:g2=s.isNone) (af:s.l=a) :kp l1 v (cI z enc s) :=by
 obtain⟨j,h1,ad,aj,aF,aU⟩:=h;exact h1.Ed aD s (by rw[aU,ak]) af
theorem cn.base (h:cn z enc l l1 v a g2) {eE:ao} (al:eE.length<=l.length) (ak:∀ b,b<eE.length->l[b]? = eE[b]?) :cn z enc eE l1 v a g2:=by
 obtain⟨j,h1,ad,aj,aF,aU⟩:=h;exact⟨j,h1,by omega,fun b ag=>by rw[aj b (by omega)]; exact ak b ag,aF.imp id (by omega),aU⟩
theorem cn.frame (h:cn z enc l l1 v a g2) {bX:ao} (al:l1.length<=bX.length) (ak:∀ b,b<l1.length->bX[b]? = l1[b]?) :cn z enc l bX v a g2:=by
 obtain⟨j,h1,ad,aj,aF,aU⟩:=h;exact⟨j,h1.frame fun ai=>ak j ai,by omega,fun b ag=>by rw[ak b (by omega)]; exact aj b ag,aF,aU⟩
theorem cn.app (h:cn z enc l l1 v a g2) {by_:Nat} {x:U} {xs:List α} (af:dM l1 z x=some ((xs.map enc).flatten,xs.length)) (aw:∀ y∈xs,(enc y).length=z) (aE:z≠0) (ep:by_≠0) (dN:(a.length+xs.length)*by_<=cK) :
  ∃ aY l',iP l1 z by_ v x=some (aY,l')/\cn z enc l l' aY (a++xs) (g2&&xs.isEmpty)/\l1.length<=l'.length:=by
 obtain⟨j,h1,ad,aj,aF,aU⟩:=h;obtain⟨aY,bM,l',aM,aT,a7,bD,bh,cd⟩:=O4 (xs:=xs.map enc) h1 (by simpa using af) (fun e am=>by obtain⟨y,aA,rfl⟩:=auo.1 am; exact aw y aA) aE ep (by simpa using dN);refine⟨aY,l',aM,⟨bM,by rw[auq]; exact aT,by omega,fun b ag=>?_,?_,?_⟩,a7⟩
 ·rw[bD b (by omega)]
  ·exact aj b ag
  ·rcases aF with h | h
   ·exact .inl h
   ·exact .inr (by omega)
 ·rcases bh with h | ⟨bt,c8⟩ | h
  ·exact .inr (by omega)
  ·rcases aF with h | h
   ·exact absurd h bt
   ·exact .inr (by omega)
  ·exact .inl h
 ·rw[cd,aU]; simp
end

namespace Op
open g3
theorem cn.push {l l1:ao} {v:U} {a:List B} {g2:Bool} (h:cn 1 cc l l1 v a g2) (x:B) (dN:a.length<=1000000000) :
  ∃ aY l',iP (l1++[.cells 1 [bC x]]) 1 1 v (.au 1 l1.length 0 1 1 1)=some (aY,l')/\cn 1 cc l l' aY (a++[x]) false:=by
 have az:cK=140737488355328:=rfl;obtain⟨aY,l',aM,aT,_⟩:=(h.more [.cells 1 [bC x]]).app (by_:=1) (x:=.au 1 l1.length 0 1 1 1) (xs:=[x]) (by simp[dM,cc]) (by simp[cc]) (by omega) (by omega) (by rw[az]; simp; omega);exact⟨aY,l',aM,by simpa using aT⟩
theorem xN:∀ a:List B,(a.map cc).flatten=a.map bC
 | []=>rfl
 | x::a=>by rw[aus,auW,xN a]; rfl
theorem ps {l:ao} {j n:Nat} {a:List B} (ax:a.length=n) (ai:l[j]? = some (.cells n (a.map bC))) :bG 1 l (.au 1 j 0 n n n) j (a.map cc) :=by
 refine .au j n n n (a.map bC) _ ai (by simp[ax]) (by simp[ax]) (fun e am=>?_) (atW _) (by omega) ?_
 ·obtain⟨x,_,rfl⟩:=auo.1 am; rfl
 ·rw[atT (by simp[ax]),xN]
def lb (n:Nat) :Nat:=if n<256 then 1 else if n<65536 then 2 else if n<16777216 then 3 else if n<4294967296 then 4 else if n<1099511627776 then 5 else if n<281474976710656 then 6 else if n<72057594037927936 then 7 else 8
theorem Hu (n:Nat) :1<=lb n/\lb n<=8:=by unfold lb; refine⟨?_,?_⟩<;>(repeat' split)<;>omega
def l4 (n i:Nat) :B:=BitVec.ofNat 8 (n >>> (8*i))
def vd (n:Nat) :Nat->List B
 | 0=>[]
 | i+1=>l4 n i::vd n i
theorem N8 (n:Nat) :∀ i,(vd n i).length=i
 | 0=>rfl
 | i+1=>by simp[vd,N8 n i]
def eJ (n:Nat) :List B:=if n<=247 then [BitVec.ofNat 8 n] else BitVec.ofNat 8 (247+lb n) ::vd n (lb n)
def lQ (x:Nat) :Nat:=if x<1 then 0 else if x<2 then 1 else if x<4 then 2 else if x<8 then 3 else if x<16 then 4 else if x<32 then 5 else if x<64 then 6 else if x<128 then 7 else 8
def Ev:List UInt8:=[0,1,2,2,3,3,3,3,4,4,4,4,4,4,4,4,5,5,5,5,5,5,5,5,5,5,5,5,5,5,5,5,6,6,6,6,6,6,6,6,6,6,6,6,6,6,6,6,6,6,6,6,6,6,6,6,6,6,6,6,6,6,6,6,7,7,7,7,7,7,7,7,7,7,7,7,7,7,7,7,7,7,7,7,7,7,7,7,7,7,7,7,7,7,7,7,7,7,7,7,7,7,7,7,7,7,7,7,7,7,7,7,7,7,7,7,7,7,7,7,7,7,7,7,7,7,7,7,8,8,8,8,8,8,8,8,8,8,8,8,8,8,8,8,8,8,8,8,8,8,8,8,8,8,8,8,8,8,8,8,8,8,8,8,8,8,8,8,8,8,8,8,8,8,8,8,8,8,8,8,8,8,8,8,8,8,8,8,8,8,8,8,8,8,8,8,8,8,8,8,8,8,8,8,8,8,8,8,8,8,8,8,8,8,8,8,8,8,8,8,8,8,8,8,8,8,8,8,8,8,8,8,8,8,8,8,8,8,8,8,8,8,8,8,8,8,8,8,8,8,8,8,8,8,8,8]
def N6:Nat->List UInt8->Bool
 | _,[]=>true
 | i,x::r=>Nat.beq x.toNat (lQ i)&&N6 (i+1) r
theorem YC:∀ (i:Nat) (l:List UInt8),N6 i l=true->∀ (j:Nat) (x:UInt8),l[j]? = some x->x.toNat=lQ (i+j)
 | i,[],_,j,x,h=>by simp at h
 | i,y::r,h,j,x,af=>by
  simp only[N6,atY] at h;cases j with
  | zero=>simp at af; subst af; exact auP h.1
  | succ j=>simp at af; rw[YC (i+1) r h.2 j x af]; congr 1; omega
theorem xi (i:Nat) (h:i<256) :∃ x,Ev[i]? = some x/\x.toNat=lQ i:=by
 have al:Ev.length=256:=by kernel_rfl
 have ar:=YC 0 Ev (by kernel_rfl) i _ (atX (by omega));exact⟨_,atX (by omega),by rw[ar]; congr 1; omega⟩
theorem uO (x:Nat) :lQ x<=8:=by unfold lQ; (repeat' split)<;>omega
def jS (n:Nat) :Nat:=
 if n<256 then lQ n else if n<65536 then 8+lQ (n / 256) else if n<16777216 then 16+lQ (n / 65536) else if n<4294967296 then 24+lQ (n / 16777216)
 else if n<1099511627776 then 32+lQ (n / 4294967296) else if n<281474976710656 then 40+lQ (n / 1099511627776) else if n<72057594037927936 then 48+lQ (n / 281474976710656) else 56+lQ (n / 72057594037927936)
theorem ah3 (n:Nat) (h:1<=n) :(jS n+7) / 8=lb n:=by
 have al:∀ x,1<=x->1<=lQ x/\lQ x<=8:=fun x af=>⟨by unfold lQ; rw[if_neg (by omega)]; (repeat' split)<;>omega,uO x⟩
 unfold jS lb
 repeat' split
 ·have:=al n h; omega
 ·have:=al (n / 256) (by omega); omega
 ·have:=al (n / 65536) (by omega); omega
 ·have:=al (n / 16777216) (by omega); omega
 ·have:=al (n / 4294967296) (by omega); omega
 ·have:=al (n / 1099511627776) (by omega); omega
 ·have:=al (n / 281474976710656) (by omega); omega
 ·have:=al (n / 72057594037927936) (by omega); omega
theorem NN (x:Q) (k:Nat) :cu .shr .u64 (u x) .u64 (k:Int)=some (.int .u64 (u (x >>> k))) :=tU x .u64 k
theorem vu {i:Nat} {y:UInt8} {k:UInt8->Prop} (h:Ev[i]? = some y) (hk:k y) :W Ev[i]? (c:=⟨k⟩) :=by rw[h]; exact hk
set_option maxHeartbeats 4000000 in
theorem VY (n:Q) :bw Tryz.prog GS 189 [da n] (.int .i64 (jS n.toNat)) :=by
 refine bK Tryz.checked.mixed bB ?_;apply bm Tryz.func189 [];have kR:IntKind.i64.wrap 8=8:=rfl;have xl:IntKind.i64.wrap 16=16:=rfl;have xm:IntKind.i64.wrap 24=24:=rfl;have xn:IntKind.i64.wrap 32=32:=rfl;have xo:IntKind.i64.wrap 40=40:=rfl;have xp:IntKind.i64.wrap 48=48:=rfl;have xq:IntKind.i64.wrap 56=56:=rfl;have cW:∀ x:Q,((4294967296:Int)<=u x)<->4294967296<=x.toNat:=fun x=>by unfold u; omega
 have dv:∀ x:Q,((65536:Int)<=u x)<->65536<=x.toNat:=fun x=>by unfold u; omega
 have j3:∀ x:Q,((256:Int)<=u x)<->256<=x.toNat:=fun x=>by unfold u; omega
 have xa:∀ x:Q,cu .shr .u64 (u x) .u64 32=some (.int .u64 (u (x >>> 32))) :=fun x=>NN x 32
 have w9:∀ x:Q,cu .shr .u64 (u x) .u64 16=some (.int .u64 (u (x >>> 16))) :=fun x=>NN x 16
 have xb:∀ x:Q,cu .shr .u64 (u x) .u64 8=some (.int .u64 (u (x >>> 8))) :=fun x=>NN x 8
 have t32:n.toNat >>> 32=n.toNat / 4294967296:=by rw[auk]
 have t48:n.toNat >>> 48=n.toNat / 281474976710656:=by rw[auk]
 have t16:n.toNat >>> 16=n.toNat / 65536:=by rw[auk]
 have aeq:=n.isLt;by_cases h1:4294967296<=n.toNat
 ·by_cases ad:65536<=n.toNat >>> 32
  ·by_cases aj:256<=n.toNat >>> 48
   ·have eh:n.toNat >>> 56 % 256=n.toNat / 72057594037927936:=by rw[auk]; exact at7 (by omega)
    obtain⟨y,aM,aT⟩:=xi (n.toNat / 72057594037927936) (by omega);have a7:=uO (n.toNat / 72057594037927936);rw[<-aT] at a7;have b1:IntKind.i64.wrap (y.toNat:Int)=y.toNat:=wrap_i64 (by omega) (by omega);have w2:IntKind.i64.wrap (56+(y.toNat:Int))=((56+y.toNat:Nat) :Int) :=by rw[wrap_i64 (by omega) (by omega)]; omega
    have ei:jS n.toNat=56+y.toNat:=by unfold jS; rw[aT]; (repeat' split)<;>first | omega | rfl
    simp[cW,dv,j3,xa,w9,xb,h1,ad,aj];refine vu (y:=y) (by rw[eh]; exact aM) ?_;rw[ei];simp[jf,b1,w2];exact aK (by simp[kR,xl,xm,xn,xo,xp,xq,w2]) rfl
   ·have eh:n.toNat >>> 48 % 256=n.toNat / 281474976710656:=by rw[auk]; exact at7 (by omega)
    obtain⟨y,aM,aT⟩:=xi (n.toNat / 281474976710656) (by omega);have a7:=uO (n.toNat / 281474976710656);rw[<-aT] at a7;have b1:IntKind.i64.wrap (y.toNat:Int)=y.toNat:=wrap_i64 (by omega) (by omega);have w2:IntKind.i64.wrap (48+(y.toNat:Int))=((48+y.toNat:Nat) :Int) :=by rw[wrap_i64 (by omega) (by omega)]; omega
    have ei:jS n.toNat=48+y.toNat:=by unfold jS; rw[aT]; (repeat' split)<;>first | omega | rfl
    simp[cW,dv,j3,xa,w9,xb,h1,ad,aj];refine vu (y:=y) (by rw[eh]; exact aM) ?_;rw[ei];simp[jf,b1,w2];exact aK (by simp[kR,xl,xm,xn,xo,xp,xq,w2]) rfl
  ·by_cases aj:256<=n.toNat >>> 32
   ·have eh:n.toNat >>> 40 % 256=n.toNat / 1099511627776:=by rw[auk]; exact at7 (by omega)
    obtain⟨y,aM,aT⟩:=xi (n.toNat / 1099511627776) (by omega);have a7:=uO (n.toNat / 1099511627776);rw[<-aT] at a7;have b1:IntKind.i64.wrap (y.toNat:Int)=y.toNat:=wrap_i64 (by omega) (by omega);have w2:IntKind.i64.wrap (40+(y.toNat:Int))=((40+y.toNat:Nat) :Int) :=by rw[wrap_i64 (by omega) (by omega)]; omega
    have ei:jS n.toNat=40+y.toNat:=by unfold jS; rw[aT]; (repeat' split)<;>first | omega | rfl
    simp[cW,dv,j3,xa,w9,xb,h1,ad,aj];refine vu (y:=y) (by rw[eh]; exact aM) ?_;rw[ei];simp[jf,b1,w2];exact aK (by simp[kR,xl,xm,xn,xo,xp,xq,w2]) rfl
   ·have eh:n.toNat >>> 32 % 256=n.toNat / 4294967296:=by rw[auk]; exact at7 (by omega)
    obtain⟨y,aM,aT⟩:=xi (n.toNat / 4294967296) (by omega);have a7:=uO (n.toNat / 4294967296);rw[<-aT] at a7;have b1:IntKind.i64.wrap (y.toNat:Int)=y.toNat:=wrap_i64 (by omega) (by omega);have w2:IntKind.i64.wrap (32+(y.toNat:Int))=((32+y.toNat:Nat) :Int) :=by rw[wrap_i64 (by omega) (by omega)]; omega
    have ei:jS n.toNat=32+y.toNat:=by unfold jS; rw[aT]; (repeat' split)<;>first | omega | rfl
    simp[cW,dv,j3,xa,w9,xb,h1,ad,aj];refine vu (y:=y) (by rw[eh]; exact aM) ?_;rw[ei];simp[jf,b1,w2];exact aK (by simp[kR,xl,xm,xn,xo,xp,xq,w2]) rfl
 ·by_cases ad:65536<=n.toNat
  ·by_cases aj:256<=n.toNat >>> 16
   ·have eh:n.toNat >>> 24 % 256=n.toNat / 16777216:=by rw[auk]; exact at7 (by omega)
    obtain⟨y,aM,aT⟩:=xi (n.toNat / 16777216) (by omega);have a7:=uO (n.toNat / 16777216);rw[<-aT] at a7;have b1:IntKind.i64.wrap (y.toNat:Int)=y.toNat:=wrap_i64 (by omega) (by omega);have w2:IntKind.i64.wrap (24+(y.toNat:Int))=((24+y.toNat:Nat) :Int) :=by rw[wrap_i64 (by omega) (by omega)]; omega
    have ei:jS n.toNat=24+y.toNat:=by unfold jS; rw[aT]; (repeat' split)<;>first | omega | rfl
    simp[cW,dv,j3,xa,w9,xb,h1,ad,aj];refine vu (y:=y) (by rw[eh]; exact aM) ?_;rw[ei];simp[jf,b1,w2];exact aK (by simp[kR,xl,xm,xn,xo,xp,xq,w2]) rfl
   ·have eh:n.toNat >>> 16 % 256=n.toNat / 65536:=by rw[auk]; exact at7 (by omega)
    obtain⟨y,aM,aT⟩:=xi (n.toNat / 65536) (by omega);have a7:=uO (n.toNat / 65536);rw[<-aT] at a7;have b1:IntKind.i64.wrap (y.toNat:Int)=y.toNat:=wrap_i64 (by omega) (by omega);have w2:IntKind.i64.wrap (16+(y.toNat:Int))=((16+y.toNat:Nat) :Int) :=by rw[wrap_i64 (by omega) (by omega)]; omega
    have ei:jS n.toNat=16+y.toNat:=by unfold jS; rw[aT]; (repeat' split)<;>first | omega | rfl
    simp[cW,dv,j3,xa,w9,xb,h1,ad,aj];refine vu (y:=y) (by rw[eh]; exact aM) ?_;rw[ei];simp[jf,b1,w2];exact aK (by simp[kR,xl,xm,xn,xo,xp,xq,w2]) rfl
  ·by_cases aj:256<=n.toNat
   ·have eh:n.toNat >>> 8 % 256=n.toNat / 256:=by rw[auk]; exact at7 (by omega)
    obtain⟨y,aM,aT⟩:=xi (n.toNat / 256) (by omega);have a7:=uO (n.toNat / 256);rw[<-aT] at a7;have b1:IntKind.i64.wrap (y.toNat:Int)=y.toNat:=wrap_i64 (by omega) (by omega);have w2:IntKind.i64.wrap (8+(y.toNat:Int))=((8+y.toNat:Nat) :Int) :=by rw[wrap_i64 (by omega) (by omega)]; omega
    have ei:jS n.toNat=8+y.toNat:=by unfold jS; rw[aT]; (repeat' split)<;>first | omega | rfl
    simp[cW,dv,j3,xa,w9,xb,h1,ad,aj];refine vu (y:=y) (by rw[eh]; exact aM) ?_;rw[ei];simp[jf,b1,w2];exact aK (by simp[kR,xl,xm,xn,xo,xp,xq,w2]) rfl
   ·have eh:n.toNat % 256=n.toNat:=at7 (by omega);obtain⟨y,aM,aT⟩:=xi (n.toNat) (by omega);have a7:=uO (n.toNat);rw[<-aT] at a7;have b1:IntKind.i64.wrap (y.toNat:Int)=y.toNat:=wrap_i64 (by omega) (by omega);have w2:IntKind.i64.wrap (0+(y.toNat:Int))=((0+y.toNat:Nat) :Int) :=by rw[wrap_i64 (by omega) (by omega)]; omega
    have ei:jS n.toNat=0+y.toNat:=by unfold jS; rw[aT]; (repeat' split)<;>first | omega | rfl
    simp[cW,dv,j3,xa,w9,xb,h1,ad,aj];refine vu (y:=y) (by rw[eh]; exact aM) ?_;rw[ei];simp[jf,b1,w2];exact aK (by simp[kR,xl,xm,xn,xo,xp,xq,w2]) rfl
theorem E8 (n:Q) (i:Nat) :(n >>> (8*i)).setWidth 8=l4 n.toNat i:=by
 apply aua;unfold l4;rw[aub,auL,auc]
theorem akR (l:ao) (c d:a2) :(l++[c]).set l.length d=l++[d] :=by rw[auA _ _ (atW _)]; simp
def rT (n k i:Nat) :List B:=BitVec.ofNat 8 (247+k) ::(List.replicate (k - i) 0#8++vd n i)
theorem Wu (n k i:Nat) (h:i<=k) :(rT n k i).length=k+1:=by simp[rT,N8]; omega
theorem aiH (n k i:Nat) (h:i<k) :(rT n k i).set (k - i) (l4 n i)=rT n k (i+1) :=by
 unfold rT;obtain⟨m,hm⟩:∃ m,k - i=m+1:=⟨k - i - 1,by omega⟩
 rw[hm,awJ,show k - (i+1)=m by omega,List.replicate_succ',aut];congr 1;rw[auA _ _ (by simp)];simp[vd]
theorem amQ (n:Q) {l:ao} {K:U->ao->Prop} (aV:∀ v j l',bG 1 l' v j ((eJ n.toNat).map cc)->l.length<=l'.length->(∀ b,b<l.length->l'[b]? = l[b]?)->l.length<=j->cx v=false->K v l') :
  cY Tryz.prog GS 195 [da n] l (c:=⟨K⟩) :=by
 apply bm Tryz.func195 [];have cW:((u n:Int)<=247)<->n.toNat<=247:=by unfold u; omega
 by_cases h:n.toNat<=247
 ·have wu:eJ n.toNat=[n.setWidth 8] :=by
   unfold eJ; rw[if_pos h]; rfl
  simp[cW,h];refine aV _ l.length _ (ps (n:=1) (a:=eJ n.toNat) (by rw[wu]; rfl) (by rw[wu]; simp)) (by simp) (fun b ag=>atV ag) (atW _) rfl
 ·have hk:=Hu n.toNat
  obtain⟨k,pb⟩:∃ k,lb n.toNat=k:=⟨_,rfl⟩
  have wu:eJ n.toNat=rT n.toNat k k:=by unfold eJ rT; rw[if_neg h,pb]; simp
  have C3:=ah3 n.toNat (by omega)
  rw[pb] at C3 hk;obtain⟨L,e6⟩:∃ L,jS n.toNat=L:=⟨_,rfl⟩
  rw[e6] at C3;have b1:IntKind.i64.wrap ((L:Int)+7)=((L+7:Nat) :Int) :=by rw[wrap_i64 (by omega) (by omega)]; omega
  have q1:cu .quo .i64 ((L+7:Nat) :Int) .i64 8=some (.int .i64 (k:Int)) :=by rw[Jb _ 8 (by omega) (by omega)]; rw[show (8:Int).toNat=8 from rfl,C3]
  have w2:IntKind.i64.wrap ((k:Int)+1)=((k+1:Nat) :Int) :=by rw[wrap_i64 (by omega) (by omega)]; omega
  have ei:IntKind.i64.wrap (247+(k:Int))=((247+k:Nat) :Int) :=by rw[wrap_i64 (by omega) (by omega)]; omega
  have kL:rR 1 1 [.int .u8 0] l (.int .i64 ((k+1:Nat) :Int)) (.int .i64 ((k+1:Nat) :Int))=some (.au 1 l.length 0 (k+1) (k+1) (k+1),l++[.cells (k+1) ((List.replicate (k+1) 0#8).map bC)]) :=by
   unfold rR;have az:cK=140737488355328:=rfl;simp only[];rw[if_pos ⟨by omega,by omega,by omega,by rw[az]; omega⟩,HY];simp
  simp[cW,h];refine a1 (VY n) rfl ?_;rw[e6];have hM:bu (List.replicate (k+1) (bC 0#8)) 0 [bC (BitVec.ofNat 8 (247+k))]=(rT n.toNat k 0).map bC:=by
   rw[auY,alm,alo]; simp[rT,vd]
  simp[b1,q1,w2,ei,kL,-Int.natCast_add];refine cF k (fun i ae l1=>ae 0=da n/\ae 3=.int .i64 k/\ae 4=.au 1 l.length 0 (k+1) (k+1) (k+1)/\ae 23=.int .i64 k/\ae 24=.int .i64 i/\l1=l++[.cells (k+1) ((rT n.toNat k i).map bC)]) ?_ ?_
  ·rintro i ae l1 av ⟨ca,a7,bD,z1,mJ,rfl⟩;obtain⟨ae,rfl⟩:=lk ca a7 bD z1 mJ;clear ca a7 bD z1 mJ;by_cases mh:i<k
   ·have jH:IntKind.i64.wrap ((k:Int) - i)=((k - i:Nat) :Int) :=by rw[wrap_i64 (by omega) (by omega)]; omega
    have lm:IntKind.i64.wrap (8*(i:Int))=((8*i:Nat) :Int) :=by rw[wrap_i64 (by omega) (by omega)]; omega
    have Bx:IntKind.i64.wrap ((i:Int)+1)=((i+1:Nat) :Int) :=by rw[wrap_i64 (by omega) (by omega)]; omega
    have qT:cu .shr .u64 (u n) .i64 ((8*i:Nat) :Int)=some (.int .u64 (u (n >>> (8*i)))) :=tU n .i64 (8*i);have r6:=E8 n i;have By:=oE bC (rT n.toNat k i) (k - i) (l4 n.toNat i) (by rw[Wu _ _ _ av]; omega);rw[aiH _ _ _ mh] at By;obtain⟨d,bH⟩:∃ d,k - i=d:=⟨_,rfl⟩
    obtain⟨e,am⟩:∃ e,8*i=e:=⟨_,rfl⟩
    rw[bH] at jH By;rw[am] at lm qT r6;have Aj:d<=k:=by omega
    simp[mh,jH,lm,Bx,qT,r6,By,Aj,-Int.natCast_add,akR];omega
   ·have gw:i=k:=by omega
    subst gw;simp;refine aV _ l.length _ (ps (n:=i+1) (a:=eJ n.toNat) (by rw[wu,Wu _ _ _ (atW _)]) (by rw[wu]; simp)) (by simp) (fun b ag=>atV ag) (atW _) rfl
  ·simp;exact hM
theorem aiD {n:Nat} (h:n<18446744073709551616) :n<256 ^ lb n:=by
 unfold lb; (repeat' split)<;>simp<;>omega
theorem aiE {n k:Nat} (h1:1<=n) (h:k<lb n) :256 ^ k<=n:=by
 have ed:=(Hu n).2;have hk:k=0\/k=1\/k=2\/k=3\/k=4\/k=5\/k=6\/k=7:=by omega
 rcases hk with rfl | rfl | rfl | rfl | rfl | rfl | rfl | rfl<;>simp<;>unfold lb at h<;>(repeat' split at h)<;>omega
theorem akY {n k:Nat} (h1:1<=n) (h:n<18446744073709551616) (hk:k<=lb n) :n >>> (8*k)=0<->k=lb n:=by
 have ay:2 ^ (8*k)=256 ^ k:=by rw[Nat.pow_mul]
 rw[auk,ay,Nat.div_eq_zero_iff];constructor
 ·rintro (ad | ad)
  ·exact absurd ad (by have:0<256 ^ k:=Nat.pow_pos (by decide); omega)
  ·rcases au9 k (lb n) with aj | aj
   ·have:=aiE h1 aj; omega
   ·omega
 ·rintro rfl;exact .inr (aiD h)
theorem YE (n:Nat) :∀ k,vd n k=((List.range k).map (l4 n)).reverse
 | 0=>rfl
 | k+1=>by rw[vd,YE n k,avr,auq,List.reverse_append]; rfl
def pZ (n k:Nat) :List B:=(List.range k).map (l4 n)
theorem abN (n k:Nat) :pZ n (k+1)=pZ n k++[l4 n k] :=by simp[pZ,avr]
theorem zR (n k:Nat) :(pZ n k).length=k:=by simp[pZ]
theorem R6 (n k i:Nat) (h:i<k) :(pZ n k)[i]? = some (l4 n i) :=by simp[pZ,h]
theorem akk (x:Q) :cu .rem .u64 (u x) .u64 256=some (.int .u64 (u (x % 256#64))) :=zE x 256#64 (by decide)
theorem ajz (x:Q) :cu .quo .u64 (u x) .u64 256=some (.int .u64 (u (x / 256#64))) :=M9 x 256#64 (by decide)
theorem aig (n:Q) (i:Nat) :((n >>> (8*i)) % 256#64).setWidth 8=l4 n.toNat i:=by
 rw[<-E8];apply aua;rw[aub,avc,aub];show _ % 256 % 2 ^ 8=_ % 2 ^ 8;omega
theorem aiB (n:Q) (i:Nat) :(n >>> (8*i)) / 256#64=n >>> (8*(i+1)) :=by
 apply aua;rw[avq,auL,auL,auk,auk,show 8*(i+1)=8*i+8 by omega,awE,<-Nat.div_div_eq_div_mul]; rfl
theorem cn.get {l l1:ao} {v:U} {a:List B} {g2:Bool} (h:cn 1 cc l l1 v a g2) {k:IntKind} {i:Nat} {x:B} (af:a[i]? = some x) :∃ p cs o,cg (.au 1) v (.int k (i:Int))=some p/\eM l1 p=some (cs,o)/\cs[o]? = some (bC x) :=by
 obtain⟨j,h,_⟩:=h;obtain⟨p,cs,o,h1,ad,aj,aF⟩:=h.q.get (k:=k) (i:=i) (e:=cc x) (by rw[at0,af]; rfl);refine⟨p,cs,o,h1,ad,?_⟩;have:=congrArg (fun l=>l[0]?) aF;simp[List.getElem?_take,auC,cc] at this;exact this
theorem zj (n:Q) {l:ao} {K:U->ao->Prop} (aV:∀ v l',cn 1 cc l l' v (eJ n.toNat) false->K v l') :cY Tryz.prog GS 195 [da n] l (c:=⟨K⟩) :=
 amQ n fun v j l' h1 ad aj aF aU=>aV v l' ⟨j,h1,ad,aj,.inr aF,aU⟩
structure ZJ (l:ao) (n:Q) (i:Nat) (ae:a8) (l1:ao) :Prop where
 ca:ae 0=da (n >>> (8*i))
 td:∃ v,ae 3=v/\cn 1 cc l l1 v (pZ n.toNat i) (decide (i=0))
structure ZK (l1:ao) (v:U) (n:Q) (k i:Nat) (ae:a8) (bX:ao) :Prop where
 a7:ae 3=v
 bh:ae 5=.int .i64 ((k:Int) - 1 - i)
 td:∃ w,ae 4=w/\cn 1 cc l1 bX w (BitVec.ofNat 8 (247+k) ::((pZ n.toNat k).reverse.take i)) false
theorem w3 (n:Q) {l:ao} {K:U->ao->Prop} (aV:∀ v l',cn 1 cc l l' v (eJ n.toNat) false->K v l') :
  cY Tryz.prog GS 127 [da n] l (c:=⟨K⟩) :=by
 apply bm Tryz.func127 [];have cW:((u n:Int)<=247)<->n.toNat<=247:=by unfold u; omega
 by_cases h:n.toNat<=247
 ·have wu:eJ n.toNat=[n.setWidth 8] :=by
   unfold eJ; rw[if_pos h]; rfl
  simp[cW,h];exact aV _ _ ⟨l.length,ps (n:=1) (a:=eJ n.toNat) (by rw[wu]; rfl) (by rw[wu]; simp),by simp,fun b ag=>atV ag,.inr (atW _),rfl⟩
 ·have aeq:=n.isLt;have hk:=Hu n.toNat
  simp[cW,h];refine cF (lb n.toNat) (ZJ l n) ?_ ⟨by simp,.aW,by simp,cn.nil⟩;rintro i ae l1 av ⟨ca,v,a7,eY⟩;obtain⟨ae,rfl⟩:=pE ca a7;clear ca a7;have aw:=akY (n:=n.toNat) (k:=i) (by omega) (by omega) av;have jr:((0:Int)<u (n >>> (8*i)))<->¬ i=lb n.toNat:=by
   rw[<-aw]; unfold u; rw[auL]; generalize n.toNat >>> (8*i)=q; omega
  by_cases mh:i=lb n.toNat
  ·obtain⟨k,pb⟩:∃ k,lb n.toNat=k:=⟨_,rfl⟩
   rw[pb] at mh jr hk;subst mh;have afO:eJ n.toNat=BitVec.ofNat 8 (247+i) ::(pZ n.toNat i).reverse:=by
    unfold eJ; rw[if_neg h,pb,YE]; rfl
   have bl:=eY.len;rw[zR] at bl;have b1:IntKind.i64.wrap (247+(i:Int))=((247+i:Nat) :Int) :=by rw[wrap_i64 (by omega) (by omega)]; omega
   have w2:IntKind.i64.wrap ((i:Int) - 1)=(i:Int) - 1:=wrap_i64 (by omega) (by omega);have f1:(eJ n.toNat)=BitVec.ofNat 8 (247+i) ::(pZ n.toNat i).reverse.take i:=by rw[afO,atT (by rw[List.length_reverse,zR]; omega)]
   simp[jr,bl,b1,w2,-Int.natCast_add];refine cF i (ZK l1 v n i) ?_ ⟨by simp,by simp,_,by simp,⟨l1.length,ps (n:=1) (a:=[BitVec.ofNat 8 (247+i)]) rfl (by simp),by simp,fun b ag=>atV ag,.inr (atW _),rfl⟩⟩;rintro j ae bX ai ⟨a7,bh,w,bD,uZ⟩;have qy:=eY.frame uZ.le uZ.same;obtain⟨ae,rfl⟩:=kQ a7 bD bh;clear a7 bD bh;by_cases oi:j=i
   ·have qn:¬ (j:Int)<=(i:Int) - 1:=by omega
    rw[oi,<-f1] at uZ;simp[qn];exact aV _ _ (uZ.base eY.le eY.same)
   ·have qh:(j:Int)<=(i:Int) - 1:=by omega
    have wm:((i:Int) - 1 - j)=((i - 1 - j:Nat) :Int) :=by omega
    have ei:IntKind.i64.wrap ((i:Int) - 1 - j - 1)=(i:Int) - 1 - (j+1:Nat) :=by rw[wrap_i64 (by omega) (by omega)]; omega
    obtain⟨p,cs,o,q1,ff,iJ⟩:=cn.get qy (k:=.i64) (R6 n.toNat i (i - 1 - j) (by omega));rw[<-wm] at q1;have af:(pZ n.toNat i).reverse[j]? = some (l4 n.toNat (i - 1 - j)) :=by
     rw[List.getElem?_reverse (by rw[zR]; omega),zR,R6 _ _ _ (by omega)]
    have wo:=zR n.toNat i;obtain⟨w',l',aX,a6⟩:=cn.push uZ (l4 n.toNat (i - 1 - j)) (by simp; omega);simp[qh,q1,ff,iJ,aX];refine dT.cy ?_;simp[ei];exact⟨by omega,by simp,by simp,w',by simp,by rw[aud,af]; simpa using a6⟩
  ·have yc:=zR n.toNat i;obtain⟨aY,l',aX,a6⟩:=cn.push eY (l4 n.toNat i) (by omega);rw[<-abN] at a6;have aZ:cu .quo .u64 (u (n >>> (8*i))) .u64 256=some (da (n >>> (8*(i+1)))) :=by rw[ajz,aiB]
   simp[jr,mh,akk,aZ,aig,aX];refine dT.cy ?_;simp[aZ];exact⟨by omega,by simp,aY,by simp,by simpa using a6⟩
end Op

end Go.cb

namespace Go.cb
open Go Go.Proofs
set_option maxRecDepth 100000
namespace Op
open g3
def nb (n:Int) :Q:=if 0<=n then BitVec.ofNat 64 (2*n.toNat) else BitVec.ofNat 64 (2*(-(n+1)).toNat+1)
theorem amV (n:Int) (h1:-9223372036854775808<=n) (ad:n<9223372036854775808) {l:ao} {K:U->ao->Prop} (aV:∀ v l',cn 1 cc l l' v (eJ (nb n).toNat) false->K v l') :
  cY Tryz.prog GS 243 [.int .i64 n] l (c:=⟨K⟩) :=by
 apply bm Tryz.func243 [];have aQ:cu .shl .u64 (u (BitVec.ofInt 64 n)) .u64 1=some (.int .u64 (u (BitVec.ofInt 64 n <<< 1))) :=Pv _ .u64 1;have bF:cu .shr .i64 n .u64 63=some (.int .i64 (if 0<=n then 0 else -1)) :=by
  show (if (63:Int)<0 then none else some (U.int .i64 (n.fdiv (2 ^ min (63:Int).toNat 64))))=_;rw[if_neg (by omega)];congr 2;have:(2:Int) ^ min (63:Int).toNat 64=9223372036854775808:=by decide
  rw[this,Int.fdiv_eq_ediv_of_nonneg _ (by omega)];split<;>omega
 have aw:BitVec.ofInt 64 n <<< 1 ^^^ BitVec.ofInt 64 (if 0<=n then 0 else -1)=nb n:=by
  unfold nb;by_cases h:0<=n
  ·rw[if_pos h,if_pos h];obtain⟨m,rfl⟩:=avp h;rw[avh,au0];have:BitVec.ofInt 64 (0:Int)=0#64:=rfl;rw[this,BitVec.xor_zero];apply aua;rw[avW,auc,auc,avz];omega
  ·rw[if_neg h,if_neg h];obtain⟨m,hm⟩:=avp (show 0<=-(n+1) by omega);have aC:n=-((m:Int)+1) :=by omega
   have aX:BitVec.ofInt 64 (-1:Int)=BitVec.allOnes 64:=by decide
   have a6:BitVec.ofInt 64 n = ~~~ BitVec.ofNat 64 m:=by
    apply aua;rw[aC,BitVec.toNat_ofInt,awW,auc];omega
   have kf:m<9223372036854775808:=by omega
   rw[aX,a6,BitVec.xor_allOnes,hm,au0];apply aua;rw[awW,avW,awW,auc,auc,avz];omega
 simp[aQ,bF,aw];refine zj _ fun v l' h=>?_
 simp;exact aV v l' h
theorem ajT (n:Int) (h1:-9223372036854775808<=n) (ad:n<9223372036854775808) {l:ao} {K:U->ao->Prop} (aV:∀ v l',cn 1 cc l l' v (eJ (nb n).toNat) false->K v l') :
  cY Tryz.prog GS 225 [.int .i64 n] l (c:=⟨K⟩) :=by
 apply bm Tryz.func225 [];by_cases h:0<=n
 ·obtain⟨m,rfl⟩:=avp h;have aw:2#64*BitVec.ofNat 64 m=nb m:=by
   unfold nb; rw[if_pos h,au0];apply aua;simp only[avM,auc];omega
  simp[aw];refine w3 _ fun v l' h=>?_
  simp;exact aV v l' h
 ·have b1:IntKind.i64.wrap (n+1)=n+1:=wrap_i64 (by omega) (by omega);have w2:IntKind.i64.wrap (0 - (n+1))=0 - (n+1) :=wrap_i64 (by omega) (by omega);have w2:IntKind.i64.wrap (-(n+1))=-(n+1) :=wrap_i64 (by omega) (by omega);have aw:2#64*BitVec.ofInt 64 (-(n+1))+1#64=nb n:=by
   obtain⟨m,hm⟩:=avp (show 0<=-(n+1) by omega);unfold nb; rw[if_neg h,hm,au0,avh];apply aua;simp only[avM,auc,awU];omega
  simp[h,b1,w2,aw];refine w3 _ fun v l' h=>?_
  simp;exact aV v l' h
def i9 (s:List B) :List B:=eJ s.length++s
theorem h9 (n:Nat) :(eJ n).length<=9:=by
 unfold eJ;have:=(Hu n).2;split
 ·simp
 ·simp[N8]; omega
theorem acN (s:List B) :(s.map cc).flatten=s.map bC:=xN s
theorem RZ (l:ao) (s:e0) :dM l 1 (cH s)=some ((s.l.map cc).flatten,s.l.length) :=zM l 1 cc s
theorem Y9 (s:e0) (ak:s.l.length<=10000) {x:U} {l:ao} (af:dM l 1 x=some ((s.l.map cc).flatten,s.l.length)) (bl:cz (.au 1) x=some (.int .i64 s.l.length)) (ch:∀ l',l.length<=l'.length->(∀ b,b<l.length->l'[b]? = l[b]?)->dM l' 1 x=some ((s.l.map cc).flatten,s.l.length))
  {K:U->ao->Prop} (aV:∀ v l',cn 1 cc l l' v (i9 s.l) false->K (.bE [v,.int .i64 0]) l') :cY Tryz.prog GS 201 [x] l (c:=⟨K⟩) :=by
 apply bm Tryz.func201 [];have h1:¬ ((10000:Int)<s.l.length) :=by omega
 have az:cK=140737488355328:=rfl;simp[bl,h1];refine zj _ fun v l' h=>?_
 have aC:(BitVec.ofNat 64 s.l.length).toNat=s.l.length:=by rw[auc]; exact at7 (by omega)
 rw[aC] at h;have nH:=h9 s.l.length;obtain⟨aY,bX,aX,a6,_⟩:=h.app (by_:=1) (x:=x) (xs:=s.l) (ch l' h.le h.same) (by simp[cc]) (by omega) (by omega) (by rw[az]; omega);simp[aX];refine dT.cy ?_;simp;exact aV aY bX (by simpa [i9] using a6)
theorem Xu (s:e0) (ak:s.l.length<=10000) {x:U} {l:ao} (af:dM l 1 x=some ((s.l.map cc).flatten,s.l.length)) (bl:cz (.au 1) x=some (.int .i64 s.l.length)) (ch:∀ l',l.length<=l'.length->(∀ b,b<l.length->l'[b]? = l[b]?)->dM l' 1 x=some ((s.l.map cc).flatten,s.l.length))
  {K:U->ao->Prop} (aV:∀ v l',cn 1 cc l l' v (i9 s.l) false->K v l') :cY Tryz.prog GS 172 [x] l (c:=⟨K⟩) :=by
 apply bm Tryz.func172 [];have az:cK=140737488355328:=rfl;simp[bl];refine w3 _ fun v l' h=>?_
 have aC:(BitVec.ofNat 64 s.l.length).toNat=s.l.length:=by rw[auc]; exact at7 (by omega)
 rw[aC] at h;have nH:=h9 s.l.length;obtain⟨aY,bX,aX,a6,_⟩:=h.app (by_:=1) (x:=x) (xs:=s.l) (ch l' h.le h.same) (by simp[cc]) (by omega) (by omega) (by rw[az]; omega);simp[aX];refine dT.cy ?_;simp;exact aV aY bX (by simpa [i9] using a6)
def aS (i:List B) :List U:=i.map bC
abbrev ez:=c6 (List B)
def aR (s:ez) :U:=cI 32 aS s
def fU (s:ez) :Prop:=∀ i∈s.l,i.length=32
theorem fE (i:List B) :bg (aS i)=true:=lr bC (fun _=>rfl) _
theorem e5 (s:ez) :(aR s).closed=true:=vK fE s
theorem RO:∀ a b:List B,a.length=b.length->n5 (a.map fun x=>UInt8.ofNat x.toNat) (b.map fun x=>UInt8.ofNat x.toNat)=cq a b
 | [],[],_=>rfl
 | [],_::_,h=>by simp at h
 | _::_,[],h=>by simp at h
 | x::a,y::b,h=>by
  have aI:=RO a b (by simpa using h);have af:=x.isLt;have aA:=y.isLt;rw[RN];simp only[aus,n5,aI];have aQ:(UInt8.ofNat x.toNat=UInt8.ofNat y.toNat)<->x.toNat=y.toNat:=by
   constructor
   ·intro h;have:=congrArg UInt8.toNat h;simp only[UInt8.toNat_ofNat'] at this;omega
   ·intro h; rw[h]
  have bF:(UInt8.ofNat x.toNat<UInt8.ofNat y.toNat)<->x.toNat<y.toNat:=by
   rw[UInt8.lt_iff_toNat_lt]; simp only[UInt8.toNat_ofNat'];rw[at7 (by omega),at7 (by omega)]
  by_cases h1:x.toNat=y.toNat
  ·rw[if_pos (aQ.2 h1),if_neg (by omega),if_neg (by omega)]
  ·rw[if_neg (fun h=>h1 (aQ.1 h))];by_cases ad:x.toNat<y.toNat
   ·rw[if_pos (bF.2 ad),if_pos ad]
   ·rw[if_neg (fun h=>ad (bF.1 h)),if_neg ad,if_pos (by omega)]
@[simp ↓] theorem asb {P:Program} {aB:Operand->U} {l:ao} (f:FuncId) (sx x y:Operand) :bQ P aB l (.cq f sx x y)=(match Dx f (aB sx) with | true=>dI l (cmpL l (aB x) (aB y)) | false=>none) :=id rfl
@[simp ↓] theorem arj (f:FuncId) (sx x y:Operand) (v:U) (l:ao) (K:U->ao->Prop) :eI (.cq f sx x y) v l K=K v l:=id rfl
@[simp] theorem aqx (f:FuncId) :Dx f (.fn f [] [])=true:=awQ f
theorem Py:∀ a:List B,nl (a.map bC)=some (a.map fun x=>UInt8.ofNat x.toNat)
 | []=>rfl
 | x::a=>by
  simp only[aus,nl,Py a,at1];simp[u]
theorem Pz (l:ao) (s:e0) :oS l (cH s)=some (s.l.map fun x=>UInt8.ofNat x.toNat) :=by
 have h:=RZ l s;rw[acN] at h;cases s with
 | none=>simp[oS,cI,dM,nl]
 | some a=>
  unfold oS;simp only[cI];have ad:dM l 1 (U.bR 1 (a.map cc))=some (a.map bC,a.length) :=h;rw[ad];exact Py a
theorem E0 (a b:e0) (h:a.l.length=b.l.length) :bw Tryz.prog GS 106 [cH a,cH b] (.int .i64 (cq a.l b.l)) :=by
 refine bK Tryz.checked.mixed bB ?_;apply adi Tryz.func106 [];have ah:cmpL [] (cH a) (cH b)=some (.int .i64 (cq a.l b.l)) :=by
  unfold cmpL;rw[Pz,Pz];simp only[RO _ _ h]
 simp[ah];exact aK rfl rfl
theorem Eo {n b:Nat} (eC:0<n) :gq (.arr n 1) (.ptr b 0 n) none none none=some (.au 1 b 0 n n n) :=by
 have:gK n n none none none=some (0,n,n) :=rfl;simp only[gq,this];rw[if_pos (by omega),if_neg (by omega)];simp
theorem zL (a b:List B) (ax:a.length=32) (ag:b.length=32) :bw Tryz.prog GS 149 [fz a,fz b] (.int .i64 (cq a b)) :=by
 refine bK Tryz.checked.mixed bB ?_;apply bm Tryz.func149 [];have ak:=Eo (n:=32) (b:=1) (by omega);have Dj:=Eo (n:=32) (b:=0) (by omega);simp[fz,ax,ag,ak,Dj];have ah:=E0 (some a) (some b) (by simp[ax,ag]);refine ia ah ?_ rfl ?_
 ·exact .cons ((ps (j:=0) ax rfl).m6 (fun _=>rfl) (some a) rfl rfl) (.cons ((ps (j:=1) ag rfl).m6 (fun _=>rfl) (some b) rfl rfl) .nil)
 ·simp;exact aK rfl rfl
theorem XC (a b:List B) (ax:a.length=32) (ag:b.length=32) :bw Tryz.prog GS 107 [fz a,fz b] (.int .i64 (cq a b)) :=by
 refine bK Tryz.checked.mixed bB ?_;apply bm Tryz.func107 [];obtain⟨A,cL⟩:∃ A,A=a.map bC:=⟨_,rfl⟩
 obtain⟨C,j8⟩:∃ C,C=b.map bC:=⟨_,rfl⟩
 have iV:A.length=32:=by rw[cL,auh,ax]
 have nx:C.length=32:=by rw[j8,auh,ag]
 unfold fz;rw[<-cL,<-j8];simp[iV,nx];refine cF 32 (fun k ae l=>ae 2=.ptr 0 0 32/\ae 3=.ptr 1 0 32/\ae 5=.int .i64 k/\l=[.cells 32 A,.cells 32 C]/\∀ j,j<k->a[j]? = b[j]?) ?_ (by simp);rintro k ae l hk ⟨aT,a7,bh,rfl,heq⟩;obtain⟨ae,rfl⟩:=kQ aT a7 bh;clear aT a7 bh;have ye:=abt k heq (by omega) (by omega);by_cases h:(k:Int)<32
 ·have hl:k<32:=by omega
  have fo:IntKind.i64.wrap ((k:Int)+1)=(k+1:Nat) :=wrap_i64 (by omega) (by omega);obtain⟨x,af,_⟩:=bx (l:=a) (k:=k) (by omega);obtain⟨y,aA,_⟩:=bx (l:=b) (k:=k) (by omega);have adB:A[k]? = some (bC x) :=by rw[cL,at0,af]; rfl
  have adH:C[k]? = some (bC y) :=by rw[j8,at0,aA]; rfl
  obtain⟨_,Kd⟩:=atU.1 adB;obtain⟨_,Kh⟩:=atU.1 adH;have KL:a.drop k=x::a.drop (k+1) :=by
   obtain⟨h1,ad⟩:=atU.1 af;rw[auU h1,ad]
  have aeG:b.drop k=y::b.drop (k+1) :=by
   obtain⟨h1,ad⟩:=atU.1 aA;rw[auU h1,ad]
  rw[KL,aeG,RN] at ye;have iu:((u x:Int)<u y)<->x.toNat<y.toNat:=by unfold u; omega
  have kn:((u y:Int)<u x)<->y.toNat<x.toNat:=by unfold u; omega
  by_cases cW:x.toNat<y.toNat
  ·rw[if_pos cW] at ye;have E9:x<y:=cW;simp[h,hl,iV,nx,Kd,Kh,E9];exact aK (by rw[<-ye]) rfl
  ·have E9:¬ x<y:=cW;rw[if_neg cW] at ye;by_cases dv:y.toNat<x.toNat
   ·rw[if_pos dv] at ye;have Jf:y<x:=dv;simp[h,hl,iV,nx,Kd,Kh,E9,Jf];exact aK (by rw[<-ye]) rfl
   ·have Jf:¬ y<x:=dv;simp[h,hl,iV,nx,Kd,Kh,E9,Jf,fo];intro j ai;by_cases fk:j=k
    ·subst fk;rw[af,aA];have:x=y:=aua (by omega);rw[this]
    ·exact heq j (by omega)
 ·have e2:k=32:=by omega
  subst e2;have:cq a b=0:=by
   rw[<-ye,au2 (by omega),au2 (by omega)]; rfl
  simp;exact aK (by rw[this]) rfl
abbrev b2 (l:List (List B)) (k:Nat) :List B:=l.getD k []
def dO (l:List (List B)) :Bool:=decide (∀ k,k<l.length->1<=k->cq (b2 l (k - 1)) (b2 l k)<0)
def zb (l:List (List B)) :Bool:=decide (∀ k,k<l.length->1<=k->¬ cq (b2 l k) (b2 l (k - 1))<0)
theorem fK {l:List (List B)} {k:Nat} {x:List B} (h:l[k]? = some x) :b2 l k=x:=by
 unfold b2; rw[aug,h]; rfl
theorem Np {l:List (List B)} (h:∀ k,k<l.length->1<=k->cq (b2 l (k - 1)) (b2 l k)<0) :dO l=true:=decide_eq_true h
theorem XQ {l:List (List B)} {k:Nat} (hk:k<l.length) (h1:1<=k) (h:¬ cq (b2 l (k - 1)) (b2 l k)<0) :dO l=false:=decide_eq_false fun aG=>h (aG k hk h1)
theorem Yk {l:List (List B)} (h:∀ k,k<l.length->1<=k->¬ cq (b2 l k) (b2 l (k - 1))<0) :zb l=true:=decide_eq_true h
theorem alt {l:List (List B)} {k:Nat} (hk:k<l.length) (h1:1<=k) (h:cq (b2 l k) (b2 l (k - 1))<0) :zb l=false:=decide_eq_false fun aG=>aG k hk h1 h
theorem cM {x:List B} (h:x.length=32) :(aS x).length=32:=by simp[aS,h]
theorem Nc (a:ez) (ax:fU a) (al:a.l.length<=1000000) :bw Tryz.prog GS 61 [aR a] (.bool (dO a.l)) :=by
 refine bK Tryz.checked.mixed bB ?_;apply bm Tryz.func61 [];simp[aR];refine cF (a.l.length - 1) (fun k ae l=>ae 0=cI 32 aS a/\ae 3=.int .i64 ((k+1:Nat) :Int)/\∀ j,j<k+1->j<a.l.length->1<=j->cq (b2 a.l (j - 1)) (b2 a.l j)<0) ?_ ⟨by simp[aR],by simp,fun j h1 _ ad=>by omega⟩;rintro k ae l hk ⟨ca,a7,ak⟩;obtain⟨s,rfl⟩:=pE ca a7;clear ca a7;obtain⟨m,hm⟩:∃ m,m=k+1:=⟨_,rfl⟩
 rw[<-hm] at ak ⊢;simp;refine ip (fun h=>?_) (fun h=>?_)
 ·simp only[decide_eq_true_eq] at h;have aN:m<a.l.length:=by omega
  obtain⟨x,af,cC⟩:=bx (l:=a.l) (k:=k) (by omega);obtain⟨y,aA,cm⟩:=bx aN;have aQ:IntKind.i64.wrap ((m:Int) - 1)=(k:Int) :=by rw[IntKind.wrap_i64]; omega
  have bF:IntKind.i64.wrap ((m:Int)+1)=((m+1:Nat) :Int) :=by rw[IntKind.wrap_i64]; omega
  have io:=fK af;have s5:=fK aA;simp[aQ,af,aA,cM (ax x cC),cM (ax y cm),atT];refine a1 (XC x y (ax x cC) (ax y cm)) (by simp[bg,fE,U.closed,fz]) ?_;by_cases ah:cq x y<0
  ·have eW:¬ (0<=cq x y) :=by omega
   simp[eW,bF];refine⟨by omega,fun j h1 ad aj=>?_⟩;have eB:cq (b2 a.l (j - 1)) (b2 a.l j)<0:=by
    by_cases ai:j=m
    ·rw[ai,show m - 1=k by omega,io,s5]; exact ah
    ·exact ak j (by omega) ad aj
   simpa [b2] using eB
  ·have eW:0<=cq x y:=by omega
   simp[eW];refine aK (congrArg U.bool (XQ (k:=m) aN (by omega) ?_).symm) rfl;rw[show m - 1=k by omega,io,s5];exact ah
 ·simp[h];exact aK (congrArg U.bool (Np fun j h1 ad=>ak j (by simp at h; omega) h1 ad).symm) rfl
theorem JO:hE Tryz.prog 149=true:=by kernel_rfl
theorem aht (a:ez) (ax:fU a) (al:a.l.length<=1000000) :bw Tryz.prog GS 197 [aR a,.fn 149 [] []] (.bool (zb a.l)) :=by
 refine bK Tryz.checked.mixed bB ?_;apply bm Tryz.func197 [];have hM:IntKind.i64.wrap ((a.l.length:Int) - 1)=(a.l.length:Int) - 1:=by rw[IntKind.wrap_i64]; omega
 simp[aR,hM];refine cF (a.l.length - 1) (fun k ae l=>ae 0=cI 32 aS a/\ae 1=.fn 149 [] []/\ae 5=.int .i64 ((a.l.length:Int) - 1 - k)/\∀ j,j<a.l.length->a.l.length - 1 - k<j->¬ cq (b2 a.l j) (b2 a.l (j - 1))<0) ?_ ⟨by simp[aR],by simp,by simp,fun j h1 ad=>by omega⟩;rintro k ae l hk ⟨ca,aM,bh,ak⟩;obtain⟨s,rfl⟩:=kQ ca aM bh;clear ca aM bh;simp;refine ip (fun h=>?_) (fun h=>?_)
 ·simp only[decide_eq_true_eq] at h;obtain⟨m,hm⟩:∃ m,m+k+2=a.l.length:=⟨a.l.length - 2 - k,by omega⟩
  have aQ:((a.l.length:Int) - 1 - k)=((m+1:Nat) :Int) :=by omega
  rw[aQ];obtain⟨x,af,cC⟩:=bx (l:=a.l) (k:=m+1) (by omega);obtain⟨y,aA,cm⟩:=bx (l:=a.l) (k:=m) (by omega);obtain⟨n,aC⟩:∃ n,n=m+1:=⟨_,rfl⟩
  rw[<-aC] at af ⊢;have bF:IntKind.i64.wrap ((n:Int) - 1)=(m:Int) :=by rw[IntKind.wrap_i64]; omega
  have io:=fK af;have s5:=fK aA;simp[bF,af,aA,cM (ax x cC),cM (ax y cm),atT];refine⟨JO,a1 (zL x y (ax x cC) (ax y cm)) (by simp[bg,fE,U.closed,fz]) ?_⟩;by_cases ah:cq x y<0
  ·simp[ah];refine aK (congrArg U.bool (alt (k:=n) (by omega) (by omega) ?_).symm) rfl;rw[show n - 1=m by omega,io,s5];exact ah
  ·simp[ah,bF];refine⟨by omega,by omega,fun j h1 ad=>?_⟩;have eB:¬ cq (b2 a.l j) (b2 a.l (j - 1))<0:=by
    by_cases ai:j=n
    ·rw[ai,show n - 1=m by omega,io,s5]; exact ah
    ·exact ak j h1 (by omega)
   simpa [b2] using eB
 ·simp[h];exact aK (congrArg U.bool (Yk fun j h1 ad=>ak j h1 (by simp at h; omega)).symm) rfl
def zS (l:List (List B)) (k:Nat) :Bool:=decide (k+1<l.length)&&decide (0<=cq (b2 l k) (b2 l (k+1)))
theorem XP {l:List (List B)}:dO l=true<->∀ k,k<l.length->zS l k=false:=by
 unfold dO zS;rw[decide_eq_true_eq];constructor
 ·intro h k hk;by_cases h1:k+1<l.length
  ·have:=h (k+1) h1 (by omega);rw[avB] at this;rw[decide_eq_false (p:=0<=_) (by omega),Bool.and_false]
  ·simp[h1]
 ·intro h k hk h1;have:=h (k - 1) (by omega);rw[show k - 1+1=k by omega] at this;rw[decide_eq_true hk,auQ,decide_eq_false_iff_not] at this;omega
theorem akt (a:ez) (ax:fU a) (al:a.l.length<=1000000) (k:Nat) (hk:k<a.l.length) (x:List B) (af:x.length=32) (r:ao) {K:U->ao->Prop}
  (aV:∀ ct,K (.bool (zS a.l k)) (.cells 1 [aR a] ::.cells 1 [.int .i64 ((k+1:Nat) :Int)] ::ct)) :
  cY Tryz.prog GS 261 [fz x,.ptr 1 0 1,.ptr 0 0 1] (.cells 1 [aR a] ::.cells 1 [.int .i64 (k:Int)] ::r) (c:=⟨K⟩) :=by
 apply bm Tryz.func261 [];have aQ:IntKind.i64.wrap ((k:Int)+1)=((k+1:Nat) :Int) :=by rw[IntKind.wrap_i64]; omega
 obtain⟨m,hm⟩:∃ m,m=k+1:=⟨_,rfl⟩
 rw[<-hm] at aQ aV;have bF:IntKind.i64.wrap ((m:Int) - 1)=(k:Int) :=by rw[IntKind.wrap_i64]; omega
 unfold zS at aV;rw[<-hm] at aV;obtain⟨y,aA,cm⟩:=bx hk;by_cases h:m<a.l.length
 ·obtain⟨z,aw,sZ⟩:=bx h;have s5:=fK aA;have ahw:=fK aw;rw[s5,ahw] at aV;have h' : (m:Int)<(a.l.length:Int) :=by omega
  have wB:a.l[m]=z:=(atU.1 aw).2;simp[fz,aR,aQ,bF,h,h',aA,wB,cM (ax y cm),cM (ax z sZ),atT];refine a1 (zL y z (ax y cm) (ax z sZ)) (by simp[bg,fE,U.closed,fz]) ?_;have:=aV (r++[a2.cells x.length (List.map bC x)]);simpa [h,aR] using this
 ·have h' : ¬ (m:Int)<(a.l.length:Int) :=by omega
  simp[fz,aR,aQ,bF,h,h'];have:=aV (r++[a2.cells x.length (List.map bC x)]);simpa [h,aR] using this
theorem acS:hE Tryz.prog 261=true:=by kernel_rfl
theorem akv (a:ez) (ax:fU a) (al:a.l.length<=1000000) {K:U->ao->Prop} (aV:∀ n ct,(n<0<->dO a.l=true)->K (.int .i64 n) ct) :
  cY Tryz.prog GS 117 [aR a,.fn 261 [] [.ptr 1 0 1,.ptr 0 0 1]] [.cells 1 [aR a],.cells 1 [.int .i64 0]] (c:=⟨K⟩) :=by
 apply bm Tryz.func117 [];simp[aR];refine cF a.l.length (fun k ae l=>ae 0=cI 32 aS a/\ae 1=.fn 261 [] [.ptr 1 0 1,.ptr 0 0 1]/\ae 7=.int .i64 a.l.length/\ae 8=.int .i64 k/\(∃ r,l=.cells 1 [aR a] ::.cells 1 [.int .i64 (k:Int)] ::r)/\∀ j,j<k->zS a.l j=false) ?_ ⟨by simp[aR],by simp,by simp,by simp,⟨[],by simp[aR]⟩,fun j h=>by omega⟩;rintro k ae l hk ⟨ca,aM,dC,dw,⟨r,rfl⟩,ak⟩;obtain⟨s,rfl⟩:=iw ca aM dC dw;clear ca aM dC dw;simp;refine ip (fun h=>?_) (fun h=>?_)
 ·simp only[decide_eq_true_eq] at h;obtain⟨x,af,cC⟩:=bx (l:=a.l) (k:=k) (by omega);have aQ:IntKind.i64.wrap ((k:Int)+1)=((k+1:Nat) :Int) :=by rw[IntKind.wrap_i64]; omega
  simp[af,cM (ax x cC),atT];refine⟨acS,akt a ax al k (by omega) x (ax x cC) r fun ct=>?_⟩;cases bH:zS a.l k with
  | true=>
   simp;refine aV _ _ ⟨fun aC=>by omega,fun az=>?_⟩;have:=XP.1 az k (by omega);rw[bH] at this; cases this
  | false=>
   simp[aQ];refine⟨by omega,fun j ai=>?_⟩;by_cases fk:j=k
   ·subst fk; exact bH
   ·exact ak j (by omega)
 ·simp[h];refine aV _ _ ⟨fun _=>XP.2 fun j ai=>ak j (by simp at h; omega),fun _=>by omega⟩
theorem aku (a:ez) (ax:fU a) (al:a.l.length<=1000000) {K:U->ao->Prop} (aV:∀ ct,K (.bool (!dO a.l)) ct) :
  cY Tryz.prog GS 71 [aR a,.fn 261 [] [.ptr 1 0 1,.ptr 0 0 1]] [.cells 1 [aR a],.cells 1 [.int .i64 0]] (c:=⟨K⟩) :=by
 apply bm Tryz.func71 [];simp;refine akv a ax al fun n ct aC=>?_
 have e:decide (0<=n)=!dO a.l:=by
  cases az:dO a.l with
  | true=>have:=aC.2 az; simp; omega
  | false=>
   have:¬ n<0:=fun h=>by have:=aC.1 h; rw[az] at this; cases this
   simp; omega
 simp[e];exact aV ct
theorem akw (a:ez) (ax:fU a) (al:a.l.length<=1000000) :bw Tryz.prog GS 242 [aR a] (.bool (dO a.l)) :=by
 refine bK Tryz.checked.mixed bB ?_;apply bm Tryz.func242 [];have ah:(aR a).cells=some [aR a] :=by cases a<;>rfl
 simp[ah];refine aku a ax al fun ct=>?_
 simp;exact aK rfl rfl
end Op

end Go.cb

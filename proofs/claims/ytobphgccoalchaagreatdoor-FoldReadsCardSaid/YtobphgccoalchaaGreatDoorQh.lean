/-
  The reference of SHA-256, walked: Ground.
-/
import Derived.Test.YtobphgccoalchaaGreatDoorQg
import Derived.LaidMore
import Derived.MakeChecks
import Derived.Lib.DecodeN
set_option linter.unusedVariables false
set_option linter.unusedSimpArgs false
set_option linter.unnecessarySimpa false
namespace Go.b2
open Go Go.Proofs
set_option maxRecDepth 100000
namespace gh
theorem Yo {l:am} {v:U} {j:Nat} {g0:List W} (h:bJ 1 l v j (g0.map eF)) (aq:cD v=false) :∃ (cap sz:Nat) (cs:List U),v=.au 1 j 0 g0.length cap sz/\l[j]? = some (.cells sz cs)/\∀ (i:Nat) (x:W),g0[i]? = some x->cs[i]? = some (br x) :=by
 obtain⟨n,cap,sz,cs,h1,ad,aj,aF,aW,bt,_⟩:=h.view aq;rw[atU] at aF;subst aF;refine⟨cap,sz,cs,h1,ad,fun i x af=>?_⟩;have:=bt i (eF x) (by rw[atw,af]; rfl) 0 (by omega);simpa [eF] using this
theorem amA (b:List B) (k:Nat) (hk:k<16) :(fh b).take (k+1)=(fh b).take k++[pi ((b.drop (4*k)).take 4)] :=by
 have:(fh b)[k]? = some (pi ((b.drop (4*k)).take 4)) :=by unfold fh; rw[atw,at3 hk]; rfl
 rw[atJ,this]; rfl
theorem amy (b:List B) :(fh b).length=16:=by simp[fh]
theorem abH (k:Nat) (b:List B) :(ip k (fh b)).length=16+k:=by simp[xl,fh]
set_option maxHeartbeats 16000000 in
theorem acC (h:ck) (b:List B) (ag:64<=b.length) :bw Tryz.prog GS 174 [.aM (h.l.map br),cB (some b)] (.aM ((grind h b).l.map br)) :=by
 have k6:ct=140737488355328:=rfl;have TC:(h.l.map br).length=8:=rfl;refine bP Tryz.checked.mixed bC ?_;apply bj Tryz.func174 [[],[],[[0],[1],[2],[3],[4],[5],[6],[7],[8],[9],[10],[11],[12],[14],[17],[18],[21],[23],[26],[27],[13,10,5],[15,10,5],[16],[19],[20],[22,10,5],[24,10,5],[25]],[],[[0],[1],[2],[4],[7],[11],[12],[13],[14],[15],[16],[17],[18],[20],[21],[22],[23],[25],[26],[27],[28],[3,28,23,1],[5,28,23,1],[6],[8,28,23,1],[9],[10],[19],[24]]];simp[TC];refine cF 16 (fun k ae l=>ae 1=cB (some b)/\ae 2=.ptr 0 0 8/\ae 4=.ptr 1 0 8/\ae 6=.int .i64 k/\∃ v j g1 rest,ae 5=v/\(cD v=true->k=0)/\(v=.a1\/2<=j)/\bJ 1 l v j (((fh b).take k).map eF)/\l=.cells 8 (h.l.map br) ::.cells 8 g1::rest/\g1.length=8) ?_ ?_
 ·rintro k ae l hk ⟨aL,aT,bu,ch,v,j,g1,rest,bc,aq,ai,ap,rfl,jp⟩;obtain⟨ae,rfl⟩:=kU aL aT bu bc ch;clear aL aT bu bc ch;by_cases TP:(k:Int)<16
  ·have eK:k<16:=by omega
   obtain⟨a,aB⟩:∃ a,a=4*k:=⟨_,rfl⟩
   have mE:IntKind.i64.wrap (4*(k:Int))=(a:Nat) :=by rw[wrap_i64 (by omega) (by omega)]; omega
   obtain⟨aS,JX⟩:∃ x,x=a+1:=⟨_,rfl⟩
   obtain⟨aX,adm⟩:∃ x,x=a+2:=⟨_,rfl⟩
   obtain⟨a3,adn⟩:∃ x,x=a+3:=⟨_,rfl⟩
   have bW:IntKind.i64.wrap ((a:Int)+1)=aS:=by rw[wrap_i64 (by omega) (by omega)]; omega
   have w2:IntKind.i64.wrap ((a:Int)+2)=aX:=by rw[wrap_i64 (by omega) (by omega)]; omega
   have ef:IntKind.i64.wrap ((a:Int)+3)=a3:=by rw[wrap_i64 (by omega) (by omega)]; omega
   have kt:IntKind.i64.wrap ((k:Int)+1)=k+1:=wrap_i64 (by omega) (by omega);obtain⟨g4,jg⟩:∃ x,b[a]? = some x:=⟨_,atu (by omega)⟩
   obtain⟨dM,fk⟩:∃ x,b[aS]? = some x:=⟨_,atu (by omega)⟩
   obtain⟨dy,e9⟩:∃ x,b[aX]? = some x:=⟨_,atu (by omega)⟩
   obtain⟨gL,mc⟩:∃ x,b[a3]? = some x:=⟨_,atu (by omega)⟩
   have cc:∀ (i:Nat) (x:B),b[i]? = some x->cj (.au 1) (cB (some b)) (.int .i64 i)=some (.b6 (b7 x) 0) :=fun i x af=>by rw[ra]; simp[af]
   have v1:=cc a g4 jg;have c6:=cc aS dM fk;have eH:=cc aX dy e9;have hx:=cc a3 gL mc;have Le:=amA b k eK;rw[amx b k g4 dM dy gL (by rw[<-aB]; exact jg) (by rw[<-aB,<-JX]; exact fk) (by rw[<-aB,<-adm]; exact e9) (by rw[<-aB,<-adn]; exact mc)] at Le;obtain⟨w,hw⟩:∃ w,w=((g4.setWidth 32*256#32+dM.setWidth 32)*256#32+dy.setWidth 32)*256#32+gL.setWidth 32:=⟨_,rfl⟩
   rw[<-hw] at Le;have mi:bJ 1 ([.cells 8 (h.l.map br),.cells 8 g1]++(rest++[a2.cells 1 [br w]])) v j (((fh b).take k).map eF) :=ap.more [a2.cells 1 [br w]];have h9:(((fh b).take k).map eF).length<=16:=by simp; omega
   obtain⟨aY,bX,cr,h1,ad,aj,aF⟩:=Bo (by_:=4) mi ai (x:=.au 1 (rest.length+2) 0 1 1 1) (xs:=[eF w]) (by simp[dp,eF]) (by simp[eF]) (by omega) (by omega) (by rw[k6]; simp; omega);have gS:bJ 1 (.cells 8 (h.l.map br) ::.cells 8 g1::cr) aY bX (((fh b).take (k+1)).map eF) :=by rw[Le,atX]; exact ad
   simp only[auM,auB] at h1;have hu:cD aY=false:=by rw[aF]; simp
   simp[TP,mE,bW,w2,ef,v1,c6,eH,hx,b7];rw[<-hw];simp[h1];refine c0.cq ?_;simp[TP,kt,eK];exact⟨hu,bX,aj,by rw[<-awG]; exact gS,jp⟩
  ·have eK:k=16:=by omega
   subst eK;have iC:cD v=false:=by
    cases Lb:cD v with
    | false=>rfl
    | true=>exact absurd (aq Lb) (by omega)
   have jO:2<=j:=by
    rcases ai with h | h
    ·subst h; cases iC
    ·exact h
   have ae4:bJ 1 (.cells 8 (h.l.map br) ::.cells 8 g1::rest) v j ((fh b).map eF) :=by
    have:(fh b).take 16=fh b:=atr (by rw[amy]; omega);rw[this] at ap; exact ap
   clear aq ai ap;simp;refine cF 48 (fun k ae l=>ae 2=.ptr 0 0 8/\ae 4=.ptr 1 0 8/\ae 7=.int .i64 (16+k:Nat)/\∃ v j g1 rest,ae 5=v/\cD v=false/\2<=j/\bJ 1 l v j ((ip k (fh b)).map eF)/\l=.cells 8 (h.l.map br) ::.cells 8 g1::rest/\g1.length=8) ?_ ?_
   ·rintro k ae l hk ⟨aT,bu,ei,v,j,g1,rest,bc,aq,ai,ap,rfl,jp⟩;obtain⟨ae,rfl⟩:=iv aT bu bc ei;clear aT bu bc ei;obtain⟨t,aI⟩:∃ t,t=16+k:=⟨_,rfl⟩
    rw[<-aI];by_cases xQ:(t:Int)<64
    ·have jo:IntKind.i64.wrap ((t:Int)+1)=(t+1:Nat) :=wrap_i64 (by omega) (by omega);have ak:=abH k b;obtain⟨v2,I2⟩:∃ i,i=t - 15:=⟨_,rfl⟩
     obtain⟨eH,bF⟩:∃ i,i=t - 2:=⟨_,rfl⟩
     obtain⟨v6,EK⟩:∃ i,i=t - 16:=⟨_,rfl⟩
     obtain⟨i1,I3⟩:∃ i,i=t - 7:=⟨_,rfl⟩
     have HM:IntKind.i64.wrap ((t:Int) - 15)=v2:=by rw[wrap_i64 (by omega) (by omega)]; omega
     have w2:IntKind.i64.wrap ((t:Int) - 2)=eH:=by rw[wrap_i64 (by omega) (by omega)]; omega
     have HN:IntKind.i64.wrap ((t:Int) - 16)=v6:=by rw[wrap_i64 (by omega) (by omega)]; omega
     have D8:IntKind.i64.wrap ((t:Int) - 7)=i1:=by rw[wrap_i64 (by omega) (by omega)]; omega
     obtain⟨g0,ye⟩:∃ g0,g0=ip k (fh b) :=⟨_,rfl⟩
     have ya:=Jb k (fh b);rw[<-ye] at ak ap ya;have vY:g0.length=t:=by omega
     unfold ext at ya
     dsimp only at ya
     rw[vY,<-I2,<-bF,<-EK,<-I3] at ya;have xq:∀ i,i<t->g0[i]? = some (g0.getD i 0#32) :=fun i av=>by rw[atE,atu (by omega)]; rfl
     obtain⟨x,af⟩:∃ x,x=g0.getD v2 0#32:=⟨_,rfl⟩
     obtain⟨y,az⟩:∃ y,y=g0.getD eH 0#32:=⟨_,rfl⟩
     obtain⟨NR,UF⟩:∃ y,y=g0.getD v6 0#32:=⟨_,rfl⟩
     obtain⟨NS,UG⟩:∃ y,y=g0.getD i1 0#32:=⟨_,rfl⟩
     rw[<-af,<-az,<-UF,<-UG] at ya;obtain⟨cap,sz,cs,rfl,vP,ce⟩:=Yo ap aq;have aai:=ce v2 x (by rw[af]; exact xq v2 (by omega));have cy:=ce eH y (by rw[az]; exact xq eH (by omega));have Bz:=ce v6 NR (by rw[UF]; exact xq v6 (by omega));have BA:=ce i1 NS (by rw[UG]; exact xq i1 (by omega));obtain⟨w,hw⟩:∃ w,w=NR+NS+(nv x 7 ^^^ nv x 18 ^^^ x >>> 3)+(nv y 17 ^^^ nv y 19 ^^^ y >>> 10) :=⟨_,rfl⟩
     rw[<-hw] at ya;have mi:bJ 1 ([.cells 8 (h.l.map br),.cells 8 g1]++(rest++[a2.cells 1 [br w]])) _ j (g0.map eF) :=ap.more [a2.cells 1 [br w]];obtain⟨aY,bX,cr,h1,ad,aj,aF⟩:=Bo (by_:=4) mi (.inr ai) (x:=.au 1 (rest.length+2) 0 1 1 1) (xs:=[eF w]) (by simp[dp,eF]) (by simp[eF]) (by omega) (by omega) (by rw[k6]; simp; omega);have gS:bJ 1 (.cells 8 (h.l.map br) ::.cells 8 g1::cr) aY bX ((ip (k+1) (fh b)).map eF) :=by rw[ya,atX]; exact ad
     simp only[auM,auB] at h1;have hu:cD aY=false:=by rw[aF]; rfl
     obtain⟨sI,rfl⟩:∃ sI,j=sI+2:=⟨j - 2,by omega⟩
     have sp:rest[sI]? = some (.cells sz cs) :=by simpa using vP
     have xU:(rest++[a2.cells 1 [br w]])[sI]? = some (.cells sz cs) :=by rw[ats (fc sp)]; exact sp
     have Iq:v2<g0.length:=by omega
     have dy:eH<g0.length:=by omega
     have Ir:v6<g0.length:=by omega
     have tw:i1<g0.length:=by omega
     have t7:=tc x 7 (by omega) (by omega);have t18:=tc x 18 (by omega) (by omega);have t17:=tc y 17 (by omega) (by omega);have t19:=tc y 19 (by omega) (by omega);simp at t7 t18 t17 t19;simp[xQ,HM,w2,HN,D8,Iq,dy,Ir,tw,sp,aai,cy,Bz,BA];refine bf t7 rfl ?_;simp[sp,Bz,BA];refine bf t18 rfl ?_;simp[sp,Bz,BA];refine bf t17 rfl ?_;simp[sp,Bz,BA];refine bf t19 rfl ?_;simp[sp,Bz,BA];rw[<-hw];simp[h1];refine c0.cq ?_;simp[jo];exact⟨by omega,by omega,hu,bX,aj.resolve_left (by intro e; subst e; cases hu),gS,jp⟩
    ·have eK:k=48:=by omega
     subst eK;subst aI;have sv:ip 48 (fh b)=fo b:=rfl;rw[sv] at ap;obtain⟨cap,sz,cs,rfl,vP,ce⟩:=Yo ap aq;obtain⟨sI,rfl⟩:∃ sI,j=sI+2:=⟨j - 2,by omega⟩
     have sp:rest[sI]? = some (.cells sz cs) :=by simpa using vP
     have e4:=DR b;rw[e4];clear ap aq ai vP;simp;refine bf aaO.D0 rfl ?_;have nT:h.l.length=8:=rfl;simp[nz,nT];refine cF 64 (fun k ae l=>ae 2=.ptr 0 0 8/\ae 4=.ptr 1 0 8/\ae 5=.au 1 (sI+2) 0 64 cap sz/\ae 10=cK 1 eF (some bN)/\ae 11=.ptr (rest.length+2) 0 8/\ae 12=.int .i64 k/\l=.cells 8 (h.l.map br) ::.cells 8 g1::(rest++[.cells 8 ((mA h b k).l.map br)])) ?_ ?_
     ·rintro k ae l hk ⟨aT,bu,bc,gc,hQ,fA,rfl⟩;obtain⟨ae,rfl⟩:=AZ aT bu bc gc hQ fA;clear aT bu bc gc hQ fA;have eO:=fc sp;have xU:∀ x:a2,(rest++[x])[sI]? = some (.cells sz cs) :=fun x=>by rw[ats eO]; exact sp
      by_cases xQ:(k:Int)<64
      ·have gW:k<64:=by omega
       have e5:IntKind.i64.wrap ((k:Int)+1)=(k+1:Nat) :=wrap_i64 (by omega) (by omega);have oM:bN[k]? = some (bN.getD k 0#32) :=by rw[atE,atu (show k<bN.length from gW)]; rfl
       have gO:=ce k ((fo b).getD k 0#32) (by rw[atE,atu (by omega)]; rfl);rw[WK h b k gW];obtain⟨kt,hw⟩:∃ kt,(fo b).getD k 0#32=kt:=⟨_,rfl⟩
       obtain⟨mr,Kr⟩:∃ mr,bN.getD k 0#32=mr:=⟨_,rfl⟩
       obtain⟨s,al⟩:∃ s,mA h b k=s:=⟨_,rfl⟩
       rw[hw] at gO ⊢;rw[Kr] at oM ⊢;rw[al];have Al:cj (.au 1) (cK 1 eF (some bN)) (.int .i64 k)=some (.b6 (eF mr) 0) :=by rw[ra]; simp[oM]
       have t6:=tc s.e 6 (by omega) (by omega);have t11:=tc s.e 11 (by omega) (by omega);have t25:=tc s.e 25 (by omega) (by omega);have t2:=tc s.a 2 (by omega) (by omega);have t13:=tc s.a 13 (by omega) (by omega);have t22:=tc s.a 22 (by omega) (by omega);simp at t6 t11 t25 t2 t13 t22;have afB:s.l=[s.a,s.b,s.c,s.d,s.e,s.f,s.g,s.h] :=rfl;have Us:(round s mr kt).l=[(round s mr kt).a,(round s mr kt).b,(round s mr kt).c,(round s mr kt).d,(round s mr kt).e,(round s mr kt).f,(round s mr kt).g,(round s mr kt).h] :=rfl;simp[xQ,afB,Al,eF,xU,gO];refine bf t6 rfl ?_;simp[Al,eF,xU,gO];refine bf t11 rfl ?_;simp[Al,eF,xU,gO];refine bf t25 rfl ?_;simp[Al,eF,xU,gO];refine bf t2 rfl ?_;simp[Al,eF,xU,gO];refine bf t13 rfl ?_;simp[Al,eF,xU,gO];refine bf t22 rfl ?_;simp[nz,gW,e5];rfl
      ·have eK:k=64:=by omega
       subst eK;rw[WI];obtain⟨v,aq⟩:∃ v,rounds h bN (fo b)=v:=⟨_,rfl⟩
       rw[aq];have xO:grind h b=⟨h.a+v.a,h.b+v.b,h.c+v.c,h.d+v.d,h.e+v.e,h.f+v.f,h.g+v.g,h.h+v.h⟩:=by unfold grind; rw[aq]
       have k3:h.l.length=v.l.length:=rfl;have nT:h.l.length=8:=rfl;have Kg:(grind h b).l=ix h.l v.l 8:=by rw[xO]; rfl
       rw[Kg];simp;refine cF 8 (fun k ae l=>ae 2=.ptr 0 0 8/\ae 4=.ptr 1 0 8/\ae 11=.ptr (rest.length+2) 0 8/\ae 21=.int .i64 k/\l=.cells 8 ((ix h.l v.l k).map br) ::.cells 8 g1::(rest++[.cells 8 (v.l.map br)])) ?_ ?_
       ·rintro k ae l hk ⟨aT,bu,hQ,tK,rfl⟩;obtain⟨ae,rfl⟩:=iv aT bu hQ tK;clear aT bu hQ tK;by_cases hT:(k:Int)<8
        ·have tX:k<8:=by omega
         have e5:IntKind.i64.wrap ((k:Int)+1)=(k+1:Nat) :=wrap_i64 (by omega) (by omega);obtain⟨y,az⟩:∃ y,v.l[k]? = some y:=⟨_,atu (show k<v.l.length from tX)⟩
         obtain⟨z,aw⟩:∃ z,h.l[k]? = some z:=⟨_,atu (show k<h.l.length from tX)⟩
         have aB:=N6 k3 (k:=k) (by rw[nT]; exact tX);rw[aw] at aB;have gU:=Ic k3 k;have q5:=oa br (ix h.l v.l k) k (z+y) (by rw[gU,nT]; exact tX);rw[N7 k3 aw az] at q5;have TA:(List.map br (ix h.l v.l k))[k]? = some (br z) :=by rw[atw,aB]; rfl
         have zU:k<=7:=by omega
         obtain⟨A,cz⟩:∃ A,A=(ix h.l v.l k).map br:=⟨_,rfl⟩
         have kB:A.length=8:=by rw[cz,atU,gU,nT]
         rw[<-cz] at TA q5 ⊢;obtain⟨acO,aei⟩:=atq.1 TA;simp[hT,tX,e5,aei,az,q5,kB,zU]
        ·have eK:k=8:=by omega
         subst eK;have gU:=Ic k3 8;have Gi:∀ A:List U,A.length=8->A.take 8=A:=fun A cz=>atr (by omega)
         obtain⟨A,cz⟩:∃ A,A=(ix h.l v.l 8).map br:=⟨_,rfl⟩
         have kB:A.length=8:=by rw[cz,atU,gU,nT]
         have zE:bm A=true:=by rw[cz]; exact l6 br (fun _=>rfl) _
         rw[<-cz];simp[nz,jp,kB,Gi A kB];exact aP rfl (by simp[U.closed,zE])
       ·simp[N8]
     ·simp[WL];exact atr (by simp[nT])
   ·refine⟨rfl,rfl,rfl,v,j,g1,rest,rfl,iC,jO,ae4,rfl,jp⟩
 ·simp;exact⟨0,.nil 0⟩
def rv (k:Nat) :List B:=128#8::List.replicate k 0#8
theorem air (k:Nat) :rv (k+1)=rv k++[0#8] :=by simp[rv,List.replicate_succ']
theorem Wf (k:Nat) :(rv k).length=k+1:=by simp[rv]
set_option maxHeartbeats 8000000 in
theorem ajB (n:Nat) (aC:n<=100000000) :ja Tryz.prog GS 126 [.int .i64 n] (cB (some (tail n))) :=by
 have k6:ct=140737488355328:=rfl;refine AG Tryz.checked.mixed bC ?_;apply bj Tryz.func126 [];obtain⟨m,hm⟩:∃ m,m=(119 - n % 64) % 64:=⟨_,rfl⟩
 simp;refine cF m (fun k ae l=>ae 0=.int .i64 n/\∃ v j,ae 3=v/\cD v=false/\bJ 1 l v j ((rv k).map b7)) ?_ ?_
 ·rintro k ae l hk ⟨b8,v,j,a8,aq,ap⟩;obtain⟨ae,rfl⟩:=qu b8 a8;clear b8 a8;have bh:=ap.len;rw[atU,Wf] at bh;obtain⟨b9,vM⟩:∃ b9,b9=k+1:=⟨_,rfl⟩
  rw[<-vM] at bh;have jo:IntKind.i64.wrap ((n:Int)+(b9:Int))=(n+b9:Nat) :=wrap_i64 (by omega) (by omega);obtain⟨q,aZ⟩:∃ q,q=n+b9:=⟨_,rfl⟩
  rw[<-aZ] at jo;have lO:IntKind.i64.wrap ((q:Int)+8)=(q+8:Nat) :=wrap_i64 (by omega) (by omega);obtain⟨Hh,KP⟩:∃ Hh,Hh=q+8:=⟨_,rfl⟩
  rw[<-KP] at lO;have k7:=Bv Hh 64 (by omega);rw[show ((64:Int).toNat)=64 from rfl] at k7;obtain⟨x,af⟩:∃ x,x=Hh % 64:=⟨_,rfl⟩
  rw[<-af] at k7;simp[bh,jo,lO,k7];by_cases vZ:x=0
  ·have m9:k=m:=by omega
   subst m9;have K2:rv k=nA n 0:=by unfold rv nA; rw[<-hm]; simp
   rw[K2] at ap;clear bh jo lO k7;simp[vZ];refine cF 8 (fun k ae l=>ae 0=.int .i64 n/\ae 4=.int .i64 (7 - (k:Int))/\∃ v j,ae 3=v/\cD v=false/\bJ 1 l v j ((nA n k).map b7)) ?_ ?_
   ·rintro k ae l hk ⟨b8,bu,v,j,a8,aq,ap⟩;obtain⟨ae,rfl⟩:=kq b8 a8 bu;clear b8 a8 bu;obtain⟨c,ah⟩:∃ c:Int,c=7 - (k:Int) :=⟨_,rfl⟩
    rw[<-ah];by_cases hT:0<=c
    ·have zU:k<8:=by omega
     have Af:IntKind.i64.wrap (c - 1)=7 - ((k:Int)+1) :=by rw[wrap_i64 (by omega) (by omega)]; omega
     obtain⟨d,bq⟩:∃ d,d=8*c:=⟨_,rfl⟩
     have Ld:IntKind.i64.wrap (8*c)=d:=by rw[wrap_i64 (by omega) (by omega)]; omega
     have J8:0<=d:=by omega
     have FK:d.toNat=56 - 8*k:=by omega
     have af:=OW (BitVec.ofNat 64 n*8#64) k zU;have la:=HH n k;obtain⟨y,az⟩:∃ y,y=(((BitVec.ofNat 64 n*8#64) >>> (56 - 8*k)).setWidth 8) :=⟨_,rfl⟩
     rw[<-az] at af;have mi:bJ 1 (l++[a2.cells 1 [bB y]]) v j ((nA n k).map b7) :=ap.more _;obtain⟨aY,bX,l',h1,ad,aj,aF,aW,bt⟩:=ou (by_:=1) mi (x:=.au 1 l.length 0 1 1 1) (xs:=[[bB y]]) (by simp[dp]) (by simp) (by omega) (by omega) (by simp; omega);have hu:cD aY=false:=by rw[uq bt,aq]; rfl
     have gS:bJ 1 l' aY bX ((nA n (k+1)).map b7) :=by rw[XT n k y af,atX]; exact ad
     rw[BitVec.mul_comm] at az;simp only[bB] at h1;simp[hT,Ld,J8,FK];rw[<-az];simp[h1];refine c0.cq ?_;simp[Af,zU];exact⟨hu,bX,gS⟩
    ·have eK:k=8:=by omega
     subst eK;simp[hT];exact ap.DJ (fun _=>rfl) (some (tail n)) aq rfl
   ·simp;exact⟨aq,_,ap⟩
  ·have la:=Wf k;have mi:bJ 1 (l++[a2.cells 1 [bB 0#8]]) v j ((rv k).map b7) :=ap.more _;obtain⟨aY,bX,l',h1,ad,aj,aF,aW,bt⟩:=ou (by_:=1) mi (x:=.au 1 l.length 0 1 1 1) (xs:=[[bB 0#8]]) (by simp[dp]) (by simp) (by omega) (by omega) (by simp; omega);have hu:cD aY=false:=by rw[uq bt,aq]; rfl
   have gS:bJ 1 l' aY bX ((rv (k+1)).map b7) :=by rw[air,atX]; exact ad
   have m9:k<m:=by omega
   simp[bB] at h1;simp[vZ,h1];refine c0.cq ?_;simp[m9];exact⟨hu,bX,gS⟩
 ·simp;exact⟨rfl,0,.au 0 1 1 1 [.int .u8 128] _ rfl rfl rfl (by intro e ao; simp[rv] at ao; subst ao; rfl) (att _) (att _) rfl⟩
set_option maxHeartbeats 8000000 in
theorem aju (h:ck) (b:List B) (ag:b.length<=100000000) :bw Tryz.prog GS 124 [.aM (h.l.map br),cB (some b)] (.aM ((hg h b).1.l.map br)) :=by
 refine bP Tryz.checked.mixed bC ?_;apply bj Tryz.func124 [];have Gi:∀ A:List U,A.length=8->A.take 8=A:=fun A cz=>atr (by omega)
 have TC:∀ s:ck,(s.l.map br).length=8:=fun s=>rfl
 obtain⟨HV,xu⟩:∃ HV,HV=h.l.map br:=⟨_,rfl⟩
 have acI:HV.length=8:=by rw[xu]; rfl
 rw[<-xu];simp[acI];refine cF (b.length / 64) (fun k ae l=>ae 1=cB (some b)/\ae 2=.ptr 0 0 8/\ae 4=.ptr 1 0 8/\ae 5=.int .i64 (64*k:Nat)/\∃ s g1,hg s (b.drop (64*k))=hg h b/\l=[.cells 8 (s.l.map br),.cells 8 g1]/\g1.length=8) ?_ ?_
 ·rintro k ae l hk ⟨aL,aT,bu,bc,s,g1,al,rfl,jp⟩;obtain⟨ae,rfl⟩:=iv aL aT bu bc;clear aL aT bu bc;obtain⟨a,aB⟩:∃ a,a=64*k:=⟨_,rfl⟩
  rw[<-aB] at al ⊢;obtain⟨aS,JX⟩:∃ aS,aS=64*(k+1) :=⟨_,rfl⟩
  rw[<-JX];obtain⟨A,cz⟩:∃ A,A=s.l.map br:=⟨_,rfl⟩
  have kB:A.length=8:=by rw[cz]; rfl
  rw[<-cz];have hw:IntKind.i64.wrap ((a:Int)+64)=aS:=by rw[wrap_i64 (by omega) (by omega)]; omega
  by_cases dO:aS<=b.length
  ·have CE:(aS:Int)<=b.length:=by omega
   have e4:gg (.au 1) (cB (some b)) (some (.int .i64 (a:Int))) (some (.int .i64 (aS:Int))) none=some (cB (some ((b.drop a).take 64))) :=by
    unfold cB; rw[akn (by omega) (by omega) (by omega)];have:(aS:Int).toNat - (a:Int).toNat=64:=by omega
    rw[this,auq]
   have fB:64<=((b.drop a).take 64).length:=by simp; omega
   have xO:=acC s _ fB;have pT:grind s ((b.drop a).take 64)=grind s (((b.drop a).take 64)) :=rfl;rw[<-cz] at xO;have cw:hg (grind s ((b.drop a).take 64)) (b.drop aS)=hg h b:=by
    rw[<-al,Bu s (b.drop a) (by simp; omega),av5];congr 2; omega
   have gW:k<b.length / 64:=by omega
   have zE:bm A=true:=by rw[cz]; exact l6 br (fun _=>rfl) _
   obtain⟨HU,Jx⟩:∃ HU,HU=(grind s ((b.drop a).take 64)).l.map br:=⟨_,rfl⟩
   have acP:HU.length=8:=by rw[Jx]; rfl
   rw[<-Jx] at xO;simp[hw,dO,CE,kB,Gi A kB,e4];refine bf xO (by simp[bm,U.closed,zE,l7]) ?_;simp[nz,kB,acP,hw,gW];exact⟨_,cw,g1,⟨Jx,rfl⟩,jp⟩
  ·have CE:¬(aS:Int)<=b.length:=by omega
   have ao:=al;rw[Et s (b.drop a) (by simp; omega)] at ao;rw[<-ao];have zE:bm A=true:=by rw[cz]; exact l6 br (fun _=>rfl) _
   simp[hw,dO,CE,kB,Gi A kB,nz,jp];exact aP (by rw[cz]) (by rw[cz] at zE; simp[U.closed,zE])
 ·exact⟨rfl,rfl,rfl,rfl,h,rep 8 (.int .u32 0),rfl,by rw[xu]; rfl,rfl⟩
def sU (s:ck) (k:Nat) :List B:=(written s).take k++List.replicate (32 - k) 0#8
theorem aii (s:ck) (k:Nat) (hk:k<=32) :(sU s k).length=32:=by
 unfold sU;have:=HS s;simp; omega
theorem aij (s:ck) (k:Nat) (x:B) (af:(written s)[k]? = some x) :(sU s k).set k x=sU s (k+1) :=by
 have hk:k<32:=(atq.1 af).1;unfold sU;have ak:(List.take k (written s)).length=k:=by have:=HS s; simp; omega
 rw[at8 _ _ (by omega),ak,avt,atJ,af,show 32 - k=(32 - (k+1))+1 by omega,aus,avn];simp
theorem amE (s:ck) (k:Nat) (hk:k<32) :∃ w,s.l[k / 4]? = some w/\(written s)[k]? = some ((w >>> (24 - 8*(k % 4))).setWidth 8) :=by
 have aE:∀ w:W,w=w >>> 0:=fun w=>by simp
 obtain⟨a,b,c,d,e,f,g,h⟩:=s;have:∀ (l:List W) (k:Nat),k<4*l.length->∃ w,l[k / 4]? = some w/\(l.map uU).flatten[k]? = some ((w >>> (24 - 8*(k % 4))).setWidth 8) :=by
  intro l
  induction l with
  | nil=>intro k hk; simp at hk
  | cons w l aH=>
   intro k hk
   match k,hk with
   | 0,_=>exact⟨w,rfl,rfl⟩
   | 1,_=>exact⟨w,rfl,rfl⟩
   | 2,_=>exact⟨w,rfl,rfl⟩
   | 3,_=>refine⟨w,rfl,?_⟩; simp[uU]
   | k+4,hk=>
    obtain⟨y,h1,ad⟩:=aH k (by simp at hk; omega);refine⟨y,?_,?_⟩
    ·rw[show (k+4) / 4=k / 4+1 by omega]; exact h1
    ·rw[show (k+4) % 4=k % 4 by omega]; exact ad
 exact this _ k (by simpa [ck.l] using hk)
set_option maxHeartbeats 8000000 in
theorem ajD (s:ck) :bw Tryz.prog GS 123 [.aM (s.l.map br)] (fM (written s)) :=by
 refine bP Tryz.checked.mixed bC ?_;apply bj Tryz.func123 [];obtain⟨A,cz⟩:∃ A,A=s.l.map br:=⟨_,rfl⟩
 have kB:A.length=8:=by rw[cz]; rfl
 rw[<-cz];simp[kB];refine cF 32 (fun k ae l=>ae 1=.ptr 0 0 8/\ae 2=.ptr 1 0 32/\ae 3=.ptr 2 0 32/\ae 4=.int .i64 k/\∃ g1,l=[.cells 8 A,.cells 32 g1,.cells 32 ((sU s k).map bB)]/\g1.length=32) ?_ ?_
 ·rintro k ae l hk ⟨aL,aT,a8,bu,g1,rfl,jp⟩;obtain⟨ae,rfl⟩:=iv aL aT a8 bu;clear aL aT a8 bu;by_cases Ko:(k:Int)<32
  ·have gW:k<32:=by omega
   have e5:IntKind.i64.wrap ((k:Int)+1)=(k+1:Nat) :=wrap_i64 (by omega) (by omega);have KQ:=Iz k 4 (by omega) (by omega);have k7:=Bv k 4 (by omega);rw[show ((4:Int).toNat)=4 from rfl] at KQ k7;obtain⟨w,hw,af⟩:=amE s k gW;obtain⟨q,aZ⟩:∃ q,q=k / 4:=⟨_,rfl⟩
   obtain⟨r,ax⟩:∃ r,r=k % 4:=⟨_,rfl⟩
   rw[<-aZ] at KQ hw;rw[<-ax] at k7 af;have KP:q<8:=by omega
   obtain⟨yC,Us⟩:∃ yC,yC=8*r:=⟨_,rfl⟩
   have Ld:IntKind.i64.wrap (8*(r:Int))=yC:=by rw[wrap_i64 (by omega) (by omega)]; omega
   obtain⟨Hj,afu⟩:∃ Hj,Hj=24 - yC:=⟨_,rfl⟩
   have afS:IntKind.i64.wrap (24 - (yC:Int))=Hj:=by rw[wrap_i64 (by omega) (by omega)]; omega
   have lN:=aij s k _ af;rw[<-Us,<-afu] at af lN;have di:=aii s k (by omega);have q5:=oa bB (sU s k) k ((w >>> Hj).setWidth 8) (by rw[di]; exact gW);rw[lN] at q5;obtain⟨O,eS⟩:∃ O,O=(sU s k).map bB:=⟨_,rfl⟩
   have sf:O.length=32:=by rw[eS,atU,di]
   rw[<-eS] at q5 ⊢;have acQ:A[q]? = some (br w) :=by rw[cz,atw,hw]; rfl
   obtain⟨acO,acR⟩:=atq.1 acQ;have afo:q<=7:=by omega
   have aeC:k<=31:=by omega
   have afp:(q:Int)<8:=by omega
   simp[Ko,gW,e5,KQ,k7,Ld,afS,kB,KP,acR,sf,q5,jp,afo,aeC,afp]
  ·have eK:k=32:=by omega
   subst eK;have ap:sU s 32=written s:=by unfold sU; rw[atr (by rw[HS]; omega)]; simp
   rw[ap];obtain⟨O,eS⟩:∃ O,O=(written s).map bB:=⟨_,rfl⟩
   have sf:O.length=32:=by rw[eS,atU,HS]
   have ada:bm O=true:=by rw[eS]; exact l6 bB (fun _=>rfl) _
   have aI:O.take 32=O:=atr (by omega);unfold fM;rw[<-eS];simp[sf,aI,nz,jp];exact aP rfl (by simp[U.closed,ada])
 ·refine⟨rfl,rfl,rfl,rfl,_,rfl,rfl⟩
set_option maxHeartbeats 8000000 in
theorem ME (s:eI) (al:s.l.length<=1000000) :bw Tryz.prog GS 77 [cB s] (fM (h2 s.l)) :=by
 have k6:ct=140737488355328:=rfl;refine bP Tryz.checked.mixed bC ?_;apply bj Tryz.func77 [];simp;refine bf abU rfl ?_;have ah2:bJ 1 ([a2.cells 32 (rep 32 (U.int IntKind.u8 0))]++[a2.cells 0 []]) (.au 1 1 0 0 0 0) 1 [] :=.au 1 0 0 0 [] _ rfl rfl rfl (by simp) (att _) (att _) rfl;obtain⟨v,j,r,h1,ad,aj,aF⟩:=Bo (by_:=1) ah2 (.inr (att _)) (x:=cB s) (xs:=s.l.map b7) (by unfold cB; rw[BM,atU]) (by intro e ao; obtain⟨x,_,rfl⟩:=atV.1 ao; rfl) (by omega) (by omega) (by rw[k6]; simp; omega);have aq:cD v=false:=by rw[aF]; rfl
 simp only[auB,List.singleton_append] at h1 ad;have bh:cP (.au 1) (cB s)=some (.int .i64 s.l.length) :=qc _;have la:=ajB s.l.length (by omega);have Gj:(tail s.l.length).length<=80:=by rw[<-No]; exact HH _ _
 obtain⟨aY,bX,cr,b9,b0,dK,dP⟩:=Bo (by_:=1) (pre:=[a2.cells 32 (rep 32 (U.int IntKind.u8 0))]) ad aj (x:=cB (some (tail s.l.length))) (xs:=(tail s.l.length).map b7) (by unfold cB; rw[BM,atU]; rfl) (by intro e ao; obtain⟨x,_,rfl⟩:=atV.1 ao; rfl) (by omega) (by omega) (by rw[k6]; simp; omega);have hu:cD aY=false:=by rw[dP,aq]; rfl
 rw[<-atX] at b0;simp only[List.singleton_append] at b9 b0;have kJ:=b0.nr (fun _=>rfl) (some (s.l++tail s.l.length)) hu rfl;have fB:=aju first (s.l++tail s.l.length) (by simp; omega)
 have CU:=ajD (hg first (s.l++tail s.l.length)).1;have oW:h2 s.l=written (hg first (s.l++tail s.l.length)).1:=rfl;rw[<-oW] at CU;obtain⟨F,xx⟩:∃ F,F=(hg first (s.l++tail s.l.length)).1:=⟨_,rfl⟩
 rw[<-xx] at fB CU;simp[h1];refine c0.cq ?_;simp[bh];refine bf la.D0 rfl ?_;simp[b9];refine c0.cq ?_;simp;refine ie fB (.cons (.same _ ?_) (.cons kJ .nil)) (RY br (fun _=>rfl) _) ?_
 ·simp[U.closed,l6 br (fun _=>rfl)]
 simp;refine bf CU ?_ ?_
 ·simp[bm,U.closed,l6 br (fun _=>rfl)]
 have e4:=wL s.l;simp[fM,e4,nz,atr];exact aP rfl (by simp[U.closed,l6 bB (fun _=>rfl)])
end gh

end Go.b2

namespace Go.b2
open Go Go.Proofs Go.RowKit
set_option maxRecDepth 100000
open gh
theorem X8 {e:TypeId} (aJ:Tryz.prog.underlying e=some (.int .u8)) :∀ (n:Nat) {ts:List TypeId} {cs:List U},dL Tryz.prog (List.replicate n e++ts) cs->∃ (x:List B) (cs' : List U),cs=x.map bB++cs'/\x.length=n/\dL Tryz.prog ts cs'
 | 0,ts,cs,h=>⟨[],cs,rfl,rfl,h⟩
 | n+1,ts,cs,h=>by
  obtain⟨k,xf,rfl,h1,ad,aj⟩:=D1 aJ h;obtain⟨x,hL,rfl,af,aF⟩:=X8 aJ n aj;have aW:(0:Int)<=k:=h1;have bt:k<=255:=ad;refine⟨BitVec.ofNat 8 k.toNat::x,hL,?_,by simp[af],aF⟩;have:((BitVec.ofNat 8 k.toNat).toNat:Int)=k:=by
   rw[atK,atD (by omega)]; omega
  simp[bB,u]; omega
theorem Yb {ts:List TypeId} {cs:List U} (h:dL Tryz.prog (40::ts) cs) :∃ (x:BitVec 64) (cs' : List U),cs=c4 x::cs'/\dL Tryz.prog ts cs':=by
 obtain⟨k,xf,rfl,h1,ad,aj⟩:=D1 (k:=.u64) (by kernel_rfl) h;have aW:(0:Int)<=k:=h1;have bt:k<=18446744073709551615:=ad;refine⟨BitVec.ofNat 64 k.toNat,xf,?_,aj⟩;have:((BitVec.ofNat 64 k.toNat).toNat:Int)=k:=by
  rw[atK,atD (by omega)]; omega
 simp[c4,u]; omega
def LF:List Int:=gh.bN.map fun k=>(k.toNat:Int)
theorem ak7:AW=LF.map fun k=>.int .u32 k:=by unfold AW LF; rw[avw]; rfl
theorem ahd {W:World} (h:laidMetH Tryz.prog [("braid/digest.constants",Go.Proofs.YtobphgccoalchaaGreatDoor.Rows.laid_braid_digest_constants)] W) :∀ g,fi W (fun _=>True) (GS g) (.pointer (some ⟨g,0,none⟩)) :=by
 intro g;unfold GS;split
 ·rename_i ag;have:=auj ag;subst this;rw[MakeChecks.laidMetH_plain _ _ _ (by kernel_rfl)] at h;obtain⟨cE,⟨b8,t0,nK,f0,fU,dH,aef,K2,iC,J8,_,_⟩,_,_⟩:=h;have aQ:Tryz.prog.globalNamed "braid/digest.constants"=some 1:=by kernel_rfl
  have bF:(Tryz.prog.globals[1]?).map (·.type)=some 302:=by kernel_rfl
  obtain rfl:=Option.some.inj (aQ.symm.trans aef);obtain rfl:=Option.some.inj (bF.symm.trans K2);rw[ak7];exact acm LF aQ iC (n:=64) (e:=76) (by kernel_rfl) (by kernel_rfl) (by kernel_rfl) J8 (by rfl)
 ·exact .bad _
end Go.b2

namespace Go.b2
open Go Go.Proofs
set_option maxRecDepth 100000
open gh
def Ep:U->Option B
 | .int .u8 (.ofNat n)=>match Nat.ble n 255 with | true=>some (BitVec.ofNat 8 n) | false=>none
 | _=>none
theorem ZK {c:U} {b:B} (h:Ep c=some b) :c=bB b:=by
 unfold Ep at h;split at h
 ·split at h
  ·rename_i n _ aC;have:=aur aC;cases h;simp only[bB,u,atK];congr 1;show (n:Int)=((n % 2 ^ 8:Nat) :Int)
   rw[atD (show n<2 ^ 8 by omega)]
  ·cases h
 ·cases h
def OT:List U->Option (List B)
 | []=>some []
 | c::r=>match Ep c with
  | some b=>match OT r with | some l=>some (b::l) | none=>none
  | none=>none
def jQ:U->Option (List B)
 | .aM cs=>match OT cs with | some l=>(match Nat.beq l.length 32 with | true=>some l | false=>none) | none=>none
 | _=>none
def Hv:List (List U)->Option (List B)
 | []=>some []
 | [c] ::r=>match Ep c with
  | some b=>match Hv r with | some l=>some (b::l) | none=>none
  | none=>none
 | _=>none
theorem Xd:∀ {es:List (List U)} {l:List B},Hv es=some l->es=l.map b7
 | [],l,h=>by cases h; rfl
 | e::r,l,h=>by
  unfold Hv at h;split at h
  ·rename_i aQ; cases aQ
  ·rename_i c cr aQ;cases aQ;split at h
   ·rename_i b ag;split at h
    ·rename_i l' ak;cases h;rw[ZK ag,Xd ak]; rfl
    ·cases h
   ·cases h
  ·cases h
def Bx:U->Option eI
 | .a1=>some none
 | .bD 1 es=>match Hv es with | some l=>some (some l) | none=>none
 | _=>none
theorem IA {c:U} {s:eI} (h:Bx c=some s) :c=cB s:=by
 unfold Bx at h;split at h
 ·cases h; rfl
 ·split at h
  ·rename_i l ak;cases h;rw[Xd ak]; rfl
  ·cases h
 ·cases h
def XM:List U->Option U
 | [c]=>match Bx c with
  | some s=>match Nat.ble s.l.length 10000 with | true=>some (.bG [fM (h2 s.l),.int .i64 0]) | false=>none
  | none=>none
 | _=>none
abbrev kS:FuncId × Bool × (List U->Option U) :=(145,false,XM)
theorem XO:tl Tryz.prog GS kS:=by
 intro args r h;refine⟨?_,fun h=>by cases h⟩;simp only[XM] at h;split at h
 ·split at h
  ·rename_i c s al;split at h
   ·rename_i aC;cases h;rw[IA al];exact XP s (aur aC)
   ·cases h
  ·cases h
 ·cases h
def W0:List U->Option U
 | [c]=>match Bx c with
  | some s=>match Nat.ble s.l.length 1000000 with | true=>some (fM (h2 s.l)) | false=>none
  | none=>none
 | _=>none
abbrev AM:FuncId × Bool × (List U->Option U) :=(77,false,W0)
theorem DK:tl Tryz.prog GS AM:=by
 intro args r h;refine⟨?_,fun h=>by cases h⟩;simp only[W0] at h;split at h
 ·split at h
  ·rename_i c s al;split at h
   ·rename_i aC;cases h;rw[IA al];exact ME s (aur aC)
   ·cases h
  ·cases h
 ·cases h
end Go.b2

namespace Go.b2
open Go Go.Proofs Go.Sort Go.Shelf
set_option maxRecDepth 100000
open gh
def cl:List B->List B->Int
 | [],[]=>0
 | [],_::_=>-1
 | _::_,[]=>1
 | a::lU,b::nq=>if a.toNat<b.toNat then -1 else if b.toNat<a.toNat then 1 else cl lU nq
theorem Re (a b:B) (lU nq:List B) :cl (a::lU) (b::nq)=if a.toNat<b.toNat then -1 else if b.toNat<a.toNat then 1 else cl lU nq:=rfl
theorem qH:∀ a:List B,cl a a=0
 | []=>rfl
 | a::lU=>by unfold cl; simp; exact qH lU
theorem zk:∀ {a b:List B},cl a b=0->a=b
 | [],[],_=>rfl
 | [],_::_,h=>by simp[cl] at h
 | _::_,[],h=>by simp[cl] at h
 | a::lU,b::nq,h=>by
  unfold cl at h;split at h
  ·cases h
  ·split at h
   ·cases h
   ·have h1:a=b:=atH (by omega);rw[h1,zk h]
theorem xb:∀ a b:List B,cl b a=- cl a b
 | [],[]=>rfl
 | [],_::_=>rfl
 | _::_,[]=>rfl
 | a::lU,b::nq=>by
  unfold cl;by_cases h1:a.toNat<b.toNat
  ·simp[h1,show ¬ b.toNat<a.toNat by omega]
  ·by_cases ad:b.toNat<a.toNat
   ·simp[h1,ad]
   ·simp[h1,ad]; exact xb lU nq
theorem IM:∀ a b:List B,cl a b=-1\/cl a b=0\/cl a b=1
 | [],[]=>by simp[cl]
 | [],_::_=>by simp[cl]
 | _::_,[]=>by simp[cl]
 | a::lU,b::nq=>by
  unfold cl;split
  ·simp
  ·split
   ·simp
   ·exact IM lU nq
theorem xc:∀ a b c:List B,cl a b<0->cl b c<0->cl a c<0
 | [],[],_,h,_=>by simp[cl] at h
 | [],_::_,[],_,h=>by simp[cl] at h
 | [],_::_,_::_,_,_=>by simp[cl]
 | _::_,[],_,h,_=>by simp[cl] at h
 | _::_,_::_,[],_,h=>by simp[cl] at h
 | a::lU,b::nq,c::ajn,h1,ad=>by
  unfold cl at h1 ad ⊢;have aH:=xc lU nq ajn
  repeat' split at h1
  all_goals repeat' split at ad
  all_goals repeat' split
  all_goals first | omega | (exact aH h1 ad) | (exfalso; omega) | skip
def ib (a b:List B) :Bool:=ltOf cl a b
theorem wk (a b:List B) :ib a b=true<->cl a b<0:=by unfold ib ltOf; simp
theorem aaF {a b:List B} (k:Nat) (h:∀ j,j<k->a[j]? = b[j]?) (aB:k<=a.length) (ag:k<=b.length) :cl (a.drop k) (b.drop k)=cl a b:=by
 induction k with
 | zero=>simp
 | succ k aH=>
  rw[<-aH (fun j ai=>h j (by omega)) (by omega) (by omega)];have h1:=h k (by omega);rw[auo (l:=a) (i:=k) (by omega),auo (l:=b) (i:=k) (by omega)];rw[atu (by omega),atu (by omega)] at h1;have ad:=Option.some.inj h1
  conv=>rhs; unfold cl
  rw[ad];simp
end Go.b2

namespace Go.b2
open Go Go.Proofs
set_option maxRecDepth 100000
namespace Op
open gh
abbrev Q:=BitVec 64
abbrev D:=BitVec 32
theorem ND:(u (1#64) :Int)=1:=rfl
def eF (x:D) :List U:=[br x]
def rr (l:List D) :Q:=l.foldl (fun o x=>o*x.setWidth 64 % 1000000007#64) 1#64
theorem ahI (l:List D) (k:Nat) (x:D) (h:l[k]? = some x) :rr (l.take (k+1))=rr (l.take k)*x.setWidth 64 % 1000000007#64:=by
 rw[atJ,h]; simp[rr,avN]
theorem Ho (x:Q) :cm .rem .u64 (u x) .u64 1000000007=some (.int .u64 (u (x % 1000000007#64))) :=zb x 1000000007#64 (by decide)
theorem L2 (l:List D) (ak:l.length<=1000) :bw Tryz.prog GS 245 [.int .u64 1000000007,cK 1 eF (some l)] (br ((rr l).setWidth 32)) :=by
 refine bP Tryz.checked.mixed bC ?_;apply bj Tryz.func245 [];have bh:cP (.au 1) (cK 1 eF (some l))=some (.int .i64 l.length) :=qc _;simp[bh];refine cF l.length (fun k ae _=>ae 0=.int .u64 1000000007/\ae 5=c4 (rr (l.take k))/\ae 8=cK 1 eF (some l)/\ae 9=.int .i64 l.length/\ae 10=.int .i64 k) ?_ (by simp[rr]; rfl);rintro k ae h hk ⟨b8,bc,eu,hn,gc⟩;obtain⟨ae,rfl⟩:=kU b8 bc eu hn gc;clear b8 bc eu hn gc;by_cases h:k<l.length
 ·obtain⟨x,af,_⟩:=bA h;have cc:cj (.au 1) (cK 1 eF (some l)) (.int .i64 k)=some (.b6 (eF x) 0) :=by rw[ra]; simp[af]
  have e5:IntKind.i64.wrap ((k:Int)+1)=(k+1:Nat) :=wrap_i64 (by omega) (by omega);have al:=ahI l k x af;simp[h,cc,eF,e5,Ho];rw[<-al]
 ·have eK:k=l.length:=by omega
  subst eK;simp;exact aP rfl rfl
def fv (a n:Nat) :Nat:=a ^ n % 1000000007
theorem yz (a n:Nat) :fv a n<1000000007:=ave _ (by decide)
theorem Wu (a n:Nat) :fv a n*fv a n % 1000000007=fv a (2*n) :=by
 unfold fv; rw[<-avR,<-av6]; congr 2; omega
theorem Ws (a n:Nat) :fv a n*a % 1000000007=fv a (n+1) :=by
 unfold fv; rw[Nat.mod_mul_mod,Nat.pow_succ]
def gF (a:D) (n:Nat) :D:=BitVec.ofNat 32 (fv a.toNat n)
theorem rx (a:D) (n:Nat) :(gF a n).toNat=fv a.toNat n:=by
 have:=yz a.toNat n;unfold gF; rw[atK]; exact atD (by omega)
theorem L1 (x y:D) (af:x.toNat<1000000007) :(rr [x,y]).setWidth 32=BitVec.ofNat 32 (x.toNat*y.toNat % 1000000007) :=by
 apply atH;have az:=y.isLt;have h1:x.toNat*y.toNat<1000000007*4294967296:=by
  calc x.toNat*y.toNat<=1000000007*y.toNat:=aty _ (by omega)
   _<1000000007*4294967296:=Nat.mul_lt_mul_of_pos_left (by simpa using az) (by decide)
 have ad:(1#64*x.setWidth 64 % 1000000007#64).toNat=x.toNat:=by
  rw[BitVec.one_mul,auC,atI];rw[atD (show x.toNat<2 ^ 64 by omega),show (1000000007#64).toNat=1000000007 from rfl,atD af]
 simp only[rr,awy,List.foldl_nil,atI,auC,avf,ad,atK];rw[atD (show y.toNat<2 ^ 64 by omega),atD (show x.toNat*y.toNat<2 ^ 64 by omega),atD (show 1000000007<2 ^ 64 by decide)]
theorem ahJ (a:D) (n:Nat) :(rr [gF a n,gF a n]).setWidth 32=gF a (2*n) :=by
 rw[L1 _ _ (by rw[rx]; exact yz _ _),rx,Wu]; rfl
theorem mul_one (a:D) (n:Nat) :(rr [gF a n,a]).setWidth 32=gF a (n+1) :=by
 rw[L1 _ _ (by rw[rx]; exact yz _ _),rx,Ws]; rfl
theorem DI {l:am} {b:Nat} {x y:D} (h:l[b]? = some (.cells 2 [br x,br y])) :fH (bU l) (.au 1 b 0 2 2 2) (cK 1 eF (some [x,y])) :=by
 refine DH (rest:=[]) (es:=[[br x],[br y]]) (by simpa using h) rfl (by simp) (by simp[bm,U.closed])
theorem ab0:je Tryz.prog 260=true:=by kernel_rfl
theorem akJ {x:D} {l:am} {K:U->am->Prop} (aV:∀ v rest,K v (.cells 1 [br ((rr [x,x]).setWidth 32)] ::rest)) :c7 Tryz.prog GS 260 [.ptr 0 0 1] (.cells 1 [br x] ::l) (c:=⟨K⟩) :=by
 apply bj Tryz.func260 [];simp;refine ie (L2 [x,x] (by simp)) (.cons (.same _ rfl) (.cons (DI (by simp)) .nil)) rfl ?_;simp;exact aV _ _
theorem S7 (n k:Nat) (hk:k<64) :n / 2 ^ (63 - k)=2*(n / 2 ^ (64 - k))+n / 2 ^ (63 - k) % 2:=by
 have:2 ^ (64 - k)=2 ^ (63 - k)*2:=by rw[<-Nat.pow_succ]; congr 1; omega
 rw[this,<-Nat.div_div_eq_div_mul]; omega
theorem Hg (a:D) (n:Q) :bw Tryz.prog GS 241 [br a,c4 n] (br (gF a n.toNat)) :=by
 refine bP Tryz.checked.mixed bC ?_;apply bj Tryz.func241 [];simp;refine cF 64 (fun k ae l=>ae 0=br a/\ae 1=c4 n/\ae 5=.ptr 0 0 1/\ae 6=.fn 260 [] [.ptr 0 0 1]/\ae 9=.int .i64 k/\∃ r,l=.cells 1 [br (gF a (n.toNat / 2 ^ (64 - k)))] ::r) ?_ (by
  have:n.toNat / 2 ^ 64=0:=awp n.isLt;simp[this,gF,fv]; rfl)
 rintro k ae l hk ⟨b8,aL,bc,ch,hn,r,rfl⟩;obtain⟨ae,rfl⟩:=kU b8 aL bc ch hn;clear b8 aL bc ch hn;by_cases h:(k:Int)<64
 ·have e5:IntKind.i64.wrap ((k:Int)+1)=(k+1:Nat) :=wrap_i64 (by omega) (by omega);have ye:IntKind.i64.wrap (63 - (k:Int))=((63 - k:Nat) :Int) :=by rw[wrap_i64 (by omega) (by omega)]; omega
  have ag:=S7 n.toNat k (by omega);have oW:cm .shr .u64 (u n) .i64 ((63 - k:Nat) :Int)=some (.int .u64 (u (n >>> (63 - k)))) :=tz n .i64 (63 - k);have acG:64 - (k+1)=63 - k:=by omega
  simp[h,e5];refine⟨ab0,?_⟩;simp;refine akJ fun v rest=>?_
  simp[ye,oW,ahJ];rw[acG];by_cases ap:n.toNat / 2 ^ (63 - k) % 2=1
  ·have J4:n >>> (63 - k) &&& 1#64=1#64:=by
    apply atH;rw[avT,auf,atR];show _ &&& 1=1;rw[Nat.and_one_is_mod,ap]
   rw[ap] at ag;have aZ:gF a (2*(n.toNat / 2 ^ (64 - k))+1)=gF a (n.toNat / 2 ^ (63 - k)) :=by rw[<-ag]
   simp[J4,ND];refine ie (L2 [gF a (2*(n.toNat / 2 ^ (64 - k))),a] (by simp)) (.cons (.same _ rfl) (.cons (DI (by simp)) .nil)) rfl ?_;rw[mul_one,aZ];simp[e5];omega
  ·have ap:n.toNat / 2 ^ (63 - k) % 2=0:=by omega
   have J4:n >>> (63 - k) &&& 1#64=0#64:=by
    apply atH;rw[avT,auf,atR];show _ &&& 1=0;rw[Nat.and_one_is_mod,ap]
   rw[ap,avY] at ag;simp[J4,e5];rw[<-ag];exact⟨by omega,rfl⟩
 ·have eK:k=64:=by omega
  subst eK;simp;exact aP rfl rfl
theorem Mx (a b:Q) (ag:b≠0#64) :cm .quo .u64 (u a) .u64 (u b)=some (.int .u64 (u (a / b))) :=by
 have bH:(b.toNat:Int)≠0:=fun e=>ag (atH (by simpa using e))
 show (if IntKind.u64=IntKind.u64/\(b.toNat:Int)≠0 then some (U.int .u64 (IntKind.u64.wrap ((a.toNat:Int).tdiv b.toNat))) else none)=_;rw[if_pos ⟨rfl,bH⟩,wX];congr 2;have:((a.toNat:Int).tdiv b.toNat)=((a.toNat / b.toNat:Nat) :Int) :=rfl;rw[this,auX];congr 1;apply atH;rw[atK,auZ];exact atD (Nat.lt_of_le_of_lt (Nat.div_le_self _ _) a.isLt)
theorem WE (x:Q) :cm .quo .u64 (u x) .u64 2=some (.int .u64 (u (x / 2#64))) :=Mx x 2#64 (by decide)
theorem W3 (x:Q) :cm .rem .u64 (u x) .u64 2=some (.int .u64 (u (x % 2#64))) :=zb x 2#64 (by decide)
theorem As (x y:Q) (af:x.toNat<4294967296) (az:y.toNat<4294967296) :(x*y % 1000000007#64).toNat=x.toNat*y.toNat % 1000000007:=by
 have h1:x.toNat*y.toNat<18446744073709551616:=by
  calc x.toNat*y.toNat<=4294967295*y.toNat:=aty _ (by omega)
   _<=4294967295*4294967295:=Nat.mul_le_mul_left _ (by omega)
   _<18446744073709551616:=by decide
 rw[auC,avf,atD (show x.toNat*y.toNat<2 ^ 64 by omega)]; rfl
theorem aiS (o b m:Nat) (h:m % 2=1) :o*b % 1000000007*(b*b % 1000000007) ^ (m / 2) % 1000000007=o*b ^ m % 1000000007:=by
 have hm:m=2*(m / 2)+1:=by omega
 rw[avR,Nat.mod_mod,av7 (b*b % 1000000007),Nat.mod_mod,<-av7,<-avR];congr 1;rw[Nat.mul_pow,Nat.mul_assoc,<-av6]
 conv=>rhs; rw[hm,Nat.pow_succ]
 rw[awn b,show 2*(m / 2)=m / 2+m / 2 by omega]
theorem aiR (o b m:Nat) (h:m % 2=0) :o*(b*b % 1000000007) ^ (m / 2) % 1000000007=o*b ^ m % 1000000007:=by
 have hm:m=2*(m / 2) :=by omega
 rw[avR,av7 (b*b % 1000000007),Nat.mod_mod,<-av7,<-avR];congr 1;rw[Nat.mul_pow,<-av6]
 conv=>rhs; rw[hm]
 rw[show 2*(m / 2)=m / 2+m / 2 by omega]
theorem Ww (a n:Q) (aB:a.toNat<4294967296) :bw Tryz.prog GS 175 [c4 a,c4 n,.int .u64 1000000007] (c4 (BitVec.ofNat 64 (fv a.toNat n.toNat))) :=by
 refine bP Tryz.checked.mixed bC ?_;apply bj Tryz.func175 [];simp;refine wj (fun m ae _=>∃ o b c:Q,c.toNat=m/\o.toNat<1000000007/\b.toNat<4294967296/\o.toNat*b.toNat ^ m % 1000000007=fv a.toNat n.toNat/\ae 0=c4 b/\ae 1=c4 c/\ae 2=.int .u64 1000000007/\ae 7=c4 o) ?_ n.toNat _ _ ⟨1#64,a,n,rfl,by decide,aB,by simp[fv],by simp; rfl⟩;rintro m ae l ⟨o,b,c,ah,ap,ag,ay,b8,aL,aT,ei⟩;obtain⟨ae,rfl⟩:=iv b8 aL aT ei;clear b8 aL aT ei;have kH:(u c:Int)=(m:Int) :=by unfold u; rw[ah]
 by_cases hm:m=0
 ·subst hm;have aE:c=0#64:=atH (by simpa using ah);simp[aE];refine aP ?_ rfl;rw[Nat.pow_zero,auW,atD ap] at ay;rw[<-ay,BitVec.ofNat_toNat,BitVec.setWidth_eq]
 ·have zL:c≠0#64:=fun e=>hm (by rw[<-ah,e]; rfl)
  have aK:(0:Int)<u c:=by rw[kH]; omega
  have TD:(c / 2#64).toNat=m / 2:=by rw[auZ,ah]; rfl
  have T7:(c % 2#64).toNat=m % 2:=by rw[auC,ah]; rfl
  have b1:(b*b % 1000000007#64).toNat<4294967296:=by
   rw[As b b ag ag]; have:=ave (b.toNat*b.toNat) (show 1000000007 > 0 by decide); omega
  by_cases Ui:m % 2=1
  ·have h1:c % 2#64=1#64:=atH (by rw[T7,Ui]; rfl);simp[aK,Ho,WE,W3,h1,ND];have en:o.toNat<4294967296:=by omega
   refine⟨m / 2,by omega,_,_,_,TD,?_,b1,?_,rfl,rfl,rfl⟩
   ·rw[As o b en ag]; exact ave _ (by decide)
   ·rw[As o b en ag,As b b ag ag,aiS _ _ _ Ui,ay]
  ·have h1:c % 2#64=0#64:=atH (by rw[T7]; simp; omega);simp[aK,Ho,WE,W3,h1,ND];refine⟨m / 2,by omega,_,_,_,TD,ap,b1,?_,rfl,rfl,rfl⟩;rw[As b b ag ag,aiR _ _ _ (by omega),ay]
def fX (a:D) :Bool:=decide (0<a.toNat)&&decide (a.toNat<1000000007)&&decide (fv a.toNat 500000003=1)
theorem Lu (a:D) :bw Tryz.prog GS 199 [br a] (.bool (fX a)) :=by
 refine bP Tryz.checked.mixed bC ?_;apply bj Tryz.func199 [];unfold fX;have h1:((0:Int)<u a)<->0<a.toNat:=by unfold u; omega
 have ad:(u a<(1000000007:Int))<->a.toNat<1000000007:=by unfold u; omega
 by_cases aL:0<a.toNat
 ·by_cases aT:a.toNat<1000000007
  ·simp[h1,ad,aL,aT];refine bf (Hg a 500000003#64) rfl ?_;have aj:(u (gF a 500000003)=(1:Int))<->fv a.toNat 500000003=1:=by unfold u; rw[rx]; omega
   have aF:(500000003#64:Q).toNat=500000003:=rfl;rw[aF];simp[aj];exact aP (by simp[aL,aT]) rfl
  ·simp[h1,ad,aL,aT];exact aP rfl rfl
 ·simp[h1,aL];exact aP rfl rfl
theorem WZ (a:D) :bw Tryz.prog GS 128 [br a] (.bool (fX a)) :=by
 refine bP Tryz.checked.mixed bC ?_;apply bj Tryz.func128 [];unfold fX;have h1:((1:Int)<=u a)<->0<a.toNat:=by unfold u; omega
 have ad:(u a<(1000000007:Int))<->a.toNat<1000000007:=by unfold u; omega
 by_cases aL:0<a.toNat
 ·by_cases aT:a.toNat<1000000007
  ·simp[h1,ad,aL,aT];refine bf (Ww (a.setWidth 64) 500000003#64 (by rw[atI]; omega)) rfl ?_;have aW:(a.setWidth 64:Q).toNat=a.toNat:=by rw[atI]; omega
   have aF:(500000003#64:Q).toNat=500000003:=rfl;have bt:=yz a.toNat 500000003;have aj:(u (BitVec.ofNat 64 (fv a.toNat 500000003))=(1:Int))<->fv a.toNat 500000003=1:=by unfold u; rw[atK,atD (by omega)]; omega
   rw[aF,aW];simp[aj];exact aP (by simp[aL,aT]) rfl
  ·simp[h1,ad,aL,aT];exact aP rfl rfl
 ·simp[h1,aL];exact aP rfl rfl
def iR (a:D) :Bool:=decide (a.toNat<500000003)
theorem ES (a:D) :bw Tryz.prog GS 130 [br a] (.bool (iR a)) :=by
 refine bP Tryz.checked.mixed bC ?_;apply bj Tryz.func130 [];unfold iR;have ad:(u (a.setWidth 64)<(500000003:Int))<->a.toNat<500000003:=by unfold u; rw[atI]; omega
 simp[ad];exact aP rfl rfl
@[simp] theorem anO (a b:List UInt8) :pu .eql a b=some (.bool (decide (a=b))) :=by
 by_cases h:a=b<;>simp[pu,h]
@[simp] theorem anR (a b:List UInt8) :pu .neq a b=some (.bool (!decide (a=b))) :=by
 by_cases h:a=b<;>simp[pu,h]
abbrev nL (s:List UInt8) (pos:Nat) :Nat × Nat:=Utf8.decode ⟨s.toArray⟩ pos
theorem Sp (s:List UInt8) (pos:Nat) (b:UInt8) (h:s[pos]? = some b) :(ByteArray.get! ⟨s.toArray⟩ pos)=b:=by
 show (s.toArray)[pos]! = b;obtain⟨h1,ad⟩:=atq.1 h;simp[h1,ad]
theorem aaZ {s:List UInt8} {pos:Nat} {b:UInt8} (h:s[pos]? = some b) (ag:b.toNat<128) :nL s pos=(b.toNat,1) :=by
 unfold nL;rw[Lib.decode_at,Sp s pos b h];unfold Lib.decodeN;rw[if_pos ag]
theorem aaY {s:List UInt8} {pos:Nat} {b:UInt8} (h:s[pos]? = some b) (ag:128<=b.toNat) :128<=(nL s pos).1:=by
 unfold nL;rw[Lib.decode_at,Sp s pos b h];unfold Lib.decodeN;rw[if_neg (by omega)]
 repeat' split
 all_goals (simp only; omega)
theorem Rv (s:List UInt8) (pos:Nat) :1<=(nL s pos).2:=by
 unfold nL;rw[Lib.decode_at];unfold Lib.decodeN
 repeat' split
 all_goals simp only<;>omega
def kK (p:Nat->Bool) (s:List UInt8) :Nat->Nat->Int
 | 0,_=>-1
 | n+1,pos=>if pos<s.length then (if p (nL s pos).1 then (pos:Int) else kK p s n (pos+(nL s pos).2)) else -1
theorem Lx (p:Nat->Bool) (s:List UInt8) :∀ (n pos:Nat),s.length - pos<=n->kK p s n pos=kK p s (s.length - pos) pos
 | 0,pos,h=>by rw[show s.length - pos=0 by omega]
 | n+1,pos,h=>by
  by_cases ay:pos<s.length
  ·have hw:=Rv s pos;rw[show s.length - pos=(s.length - pos - 1)+1 by omega];unfold kK;rw[if_pos ay,if_pos ay,Lx p s n _ (by omega),Lx p s (s.length - pos - 1) _ (by omega)]
  ·rw[show s.length - pos=0 by omega];unfold kK;rw[if_neg ay]
def mO (cN r:Nat) :Bool:=decide (r<cN)||decide (126<r)
def ha (cN:Nat) (b:UInt8) :Bool:=decide (cN<=b.toNat)&&decide (b.toNat<=126)
theorem Lw (cN:Nat) (ew:cN<=128) (s:List UInt8) :∀ (n pos:Nat),s.length - pos<=n->(kK (mO cN) s n pos<0<->(s.drop pos).all (ha cN)=true)
 | 0,pos,h=>by
  rw[at9 (by omega)];simp[kK]
 | n+1,pos,h=>by
  unfold kK;by_cases ay:pos<s.length
  ·rw[if_pos ay,auo ay,awF];have eY:s[pos]? = some s[pos] :=atu ay;obtain⟨b,ag⟩:∃ b,b=s[pos] :=⟨_,rfl⟩
   rw[<-ag] at eY ⊢;by_cases al:b.toNat<128
   ·rw[aaZ eY al];simp only;have dG:ha cN b=!mO cN b.toNat:=by
     unfold ha mO;by_cases h1:b.toNat<cN<;>by_cases ad:126<b.toNat<;>simp[h1,ad]<;>omega
    cases qR:mO cN b.toNat with
    | true=>rw[dG,qR]; simp
    | false=>
     rw[dG,qR];simp only[auL,if_false,Bool.not_false,auu];exact Lw cN ew s n (pos+1) (by omega)
   ·have ar:=aaY eY (by omega);have qR:mO cN (nL s pos).1=true:=by unfold mO; simp; omega
    have dG:ha cN b=false:=by unfold ha; simp; omega
    rw[qR,dG]; simp
  ·rw[if_neg ay,at9 (by omega)];simp
theorem ahP {s:List UInt8} {pos:Nat} {r:am} (h:pos<s.length) :uC (.iter s pos::r) (.it 0)=some (.bG [.bool true,.int .i64 pos,.int .i32 (nL s pos).1],.iter s (pos+(nL s pos).2) ::r) :=by
 unfold uC;simp only[atT];rw[show Nat.blt pos s.length=true from Nat.ble_eq_true_of_le h];rfl
theorem ahO {s:List UInt8} {pos:Nat} {r:am} (h:¬ pos<s.length) :uC (.iter s pos::r) (.it 0)=some (.bG [.bool false],.iter s pos::r) :=by
 unfold uC;simp only[atT];rw[show Nat.blt pos s.length=false by cases ag:Nat.blt pos s.length with | false=>rfl | true=>exact absurd (aur ag) h]
theorem af8 {g:FuncId} {p:Nat->Bool} (ar:je Tryz.prog g=true) (ay:∀ r:Nat,bw Tryz.prog GS g [.int .i32 r] (.bool (p r))) (s:List UInt8) :
  bw Tryz.prog GS 251 [.str s,.fn g [] [],.bool true] (.int .i64 (kK p s s.length 0)) :=by
 refine bP Tryz.checked.mixed bC ?_;apply bj Tryz.func251 [];simp[AJ];refine wj (fun m ae l=>∃ pos,s.length - pos=m/\kK p s m pos=kK p s s.length 0/\ae 1=.fn g [] []/\ae 2=.bool true/\ae 10=.it 0/\l=[.iter s pos]) ?_ s.length _ _ ⟨0,by simp⟩;rintro m ae l ⟨pos,hm,av,aL,aT,gc,rfl⟩;obtain⟨ae,rfl⟩:=kq aL aT gc;clear aL aT gc;by_cases h:pos<s.length
 ·have fD:m=(m - 1)+1:=by omega
  have hw:=Rv s pos;obtain⟨R,gT⟩:∃ R,R=kK p s s.length 0:=⟨_,rfl⟩
  rw[<-gT] at av ⊢;rw[fD] at av;unfold kK at av;rw[if_pos h] at av;simp[ahP h];refine⟨ar,bf (ay _) rfl ?_⟩;cases ag:p (nL s pos).1 with
  | true=>
   rw[ag] at av;simp;exact aP (by rw[<-av]; simp) rfl
  | false=>
   rw[ag] at av;simp;refine⟨s.length - (pos+(nL s pos).2),by omega,pos+(nL s pos).2,rfl,?_,by simp,by simp,by simp,by simp⟩;rw[<-av];simp only[auL,if_false];rw[Lx p s (m - 1) _ (by omega)]
 ·have jk:m=0:=by omega
  subst jk;simp[ahO h];exact aP (by rw[<-av]; rfl) rfl
theorem XK {g:FuncId} {p:Nat->Bool} (ar:je Tryz.prog g=true) (ay:∀ r:Nat,bw Tryz.prog GS g [.int .i32 r] (.bool (p r))) (s:List UInt8) :
  bw Tryz.prog GS 218 [.str s,.fn g [] []] (.int .i64 (kK p s s.length 0)) :=by
 refine bP Tryz.checked.mixed bC ?_;apply bj Tryz.func218 [];simp;refine bf (af8 ar ay s) rfl ?_;simp;exact aP rfl rfl
theorem agV (r:Nat) :bw Tryz.prog GS 219 [.int .i32 r] (.bool (mO 33 r)) :=by
 refine bP Tryz.checked.mixed bC ?_;apply bj Tryz.func219 [];unfold mO;have h1:((r:Int)<33)<->r<33:=by omega
 have ad:((126:Int)<r)<->126<r:=by omega
 by_cases h:r<33
 ·simp[h1,h];exact aP rfl rfl
 ·simp[h1,h,ad];exact aP rfl rfl
theorem ala (r:Nat) :bw Tryz.prog GS 221 [.int .i32 r] (.bool (mO 32 r)) :=by
 refine bP Tryz.checked.mixed bC ?_;apply bj Tryz.func221 [];unfold mO;have h1:((r:Int)<32)<->r<32:=by omega
 have ad:((126:Int)<r)<->126<r:=by omega
 by_cases h:r<32
 ·simp[h1,h];exact aP rfl rfl
 ·simp[h1,h,ad];exact aP rfl rfl
theorem abX:je Tryz.prog 219=true:=by kernel_rfl
theorem ab1:je Tryz.prog 221=true:=by kernel_rfl
def gP (s:List UInt8) :Bool:=decide (1<=s.length)&&decide (s.length<=20)&&s.all (ha 33)
theorem LI (s:List UInt8) :bw Tryz.prog GS 157 [.str s] (.bool (gP s)) :=by
 refine bP Tryz.checked.mixed bC ?_;apply bj Tryz.func157 [];unfold gP;have h1:((1:Int)<=s.length)<->1<=s.length:=by omega
 have ad:((s.length:Int)<=20)<->s.length<=20:=by omega
 by_cases aL:1<=s.length
 ·by_cases aT:s.length<=20
  ·simp[h1,ad,aL,aT];refine bf (XK abX agV s) rfl ?_;have:=Lw 33 (by omega) s s.length 0 (by omega);rw[auv] at this;have aj:decide (kK (mO 33) s s.length 0<0)=s.all (ha 33) :=by
    cases ag:s.all (ha 33) with
    | true=>simpa using this.2 ag
    | false=>
     have:¬ kK (mO 33) s s.length 0<0:=fun h=>by rw[this.1 h] at ag; cases ag
     simpa using this
   simp;rw[aj];exact aP (by simp[aL,aT]) rfl
  ·simp[h1,ad,aL,aT];exact aP (by simp[aL,aT]) rfl
 ·simp[h1,aL];exact aP (by simp[aL]) rfl
theorem Oi {s:List UInt8} {p:UInt8->Bool} {k:Nat} {b:UInt8} (h:s[k]? = some b) :(s.take (k+1)).all p=((s.take k).all p&&p b) :=by
 rw[atJ,h]; simp[List.all_append]
theorem Ej {s:List UInt8} {p:UInt8->Bool} {k:Nat} {b:UInt8} (h:s[k]? = some b) (ay:p b=false) :s.all p=false:=by
 rw[List.all_eq_false];exact⟨b,atz h,by simp[ay]⟩
theorem L3 (s:List UInt8) :bw Tryz.prog GS 108 [.str s] (.bool (gP s)) :=by
 refine bP Tryz.checked.mixed bC ?_;apply bj Tryz.func108 [];have h1:((s.length:Int)<1)<->¬ 1<=s.length:=by omega
 have ad:((20:Int)<s.length)<->¬ s.length<=20:=by omega
 by_cases aL:1<=s.length
 ·by_cases aT:s.length<=20
  ·simp[h1,ad,aL,aT];refine cF s.length (fun k ae _=>ae 0=.str s/\ae 3=.int .i64 k/\(s.take k).all (ha 33)=true) ?_ (by simp);rintro k ae l hk ⟨gw,dz,eC⟩;obtain⟨ae,rfl⟩:=qu gw dz;clear gw dz;by_cases h:k<s.length
   ·obtain⟨b,ag,_⟩:=bA h;have e5:IntKind.i64.wrap ((k:Int)+1)=(k+1:Nat) :=wrap_i64 (by omega) (by omega);have dM:((b.toNat:Int)<33)<->¬ 33<=b.toNat:=by omega
    have dy:((126:Int)<b.toNat)<->¬ b.toNat<=126:=by omega
    have fa:yf (.str s) (.int .i64 k)=some (.int .u8 b.toNat) :=by simp[ag,iO]
    by_cases q1:33<=b.toNat
    ·by_cases gn:b.toNat<=126
     ·have dG:ha 33 b=true:=by simp[ha,q1,gn]
      simp[h,fa,dM,dy,q1,gn,e5,Oi ag,dG,-An];simpa using eC
     ·have dG:ha 33 b=false:=by simp[ha,gn]
      simp[h,fa,dM,dy,q1,gn,-An];exact aP (by simp[gP,Ej ag dG]) rfl
    ·have dG:ha 33 b=false:=by simp[ha,q1]
     simp[h,fa,dM,q1,-An];exact aP (by simp[gP,Ej ag dG]) rfl
   ·have eK:k=s.length:=by omega
    subst eK;rw[atW] at eC;simp;exact aP (by simp only[gP,eC]; simp[aL,aT]) rfl
  ·simp[h1,ad,aL,aT];exact aP (by simp[gP,aT]) rfl
 ·simp[h1,aL];exact aP (by simp[gP,aL]) rfl
theorem aiF (s:List UInt8) (ak:s.length<=1000000000) :bw Tryz.prog GS 163 [.str s] (.bool (s.all (ha 32))) :=by
 refine bP Tryz.checked.mixed bC ?_;apply bj Tryz.func163 [];simp;refine cF s.length (fun k ae _=>ae 0=.str s/\ae 3=.int .i64 k/\(s.take k).all (ha 32)=true) ?_ (by simp);rintro k ae l hk ⟨gw,dz,eC⟩;obtain⟨ae,rfl⟩:=qu gw dz;clear gw dz;by_cases h:k<s.length
 ·obtain⟨b,ag,_⟩:=bA h;have e5:IntKind.i64.wrap ((k:Int)+1)=(k+1:Nat) :=wrap_i64 (by omega) (by omega);have dM:((b.toNat:Int)<32)<->¬ 32<=b.toNat:=by omega
  have dy:((126:Int)<b.toNat)<->¬ b.toNat<=126:=by omega
  have fa:yf (.str s) (.int .i64 k)=some (.int .u8 b.toNat) :=by simp[ag,iO]
  by_cases q1:32<=b.toNat
  ·by_cases gn:b.toNat<=126
   ·have dG:ha 32 b=true:=by simp[ha,q1,gn]
    simp[h,fa,dM,dy,q1,gn,e5,Oi ag,dG,-An];simpa using eC
   ·have dG:ha 32 b=false:=by simp[ha,gn]
    simp[h,fa,dM,dy,q1,gn,-An];exact aP (by simp only[Ej ag dG]) rfl
  ·have dG:ha 32 b=false:=by simp[ha,q1]
   simp[h,fa,dM,q1,-An];exact aP (by simp only[Ej ag dG]) rfl
 ·have eK:k=s.length:=by omega
  subst eK;rw[atW] at eC;simp;exact aP (by simp only[eC]) rfl
structure gK where
 kind:B
 num:Int
 bits:Q
 text:List UInt8
def cW (v:gK) :List U:=[bB v.kind,.int .i64 v.num,c4 v.bits,.str v.text]
def ij:gK:=⟨0#8,0,0#64,[]⟩
def jJ (b:Q) :Nat:=b.toNat / 4503599627370496 % 2048
def pH (b:Q) :Q:=b % 4503599627370496#64
def cls (b:Q) :B:=if jJ b=2047 then (if pH b=0#64 then 4#8 else 5#8) else if jJ b=0 then (if pH b=0#64 then 1#8 else 2#8) else 3#8
def mS (b:Q) :Q:=if cls b=5#8 then 9221120237041090560#64 else b
theorem ih (k:B) :((u k:Int)=1)<->k=1#8:=rH k 1#8
theorem lp (k:B) :((u k:Int)=2)<->k=2#8:=rH k 2#8
theorem pf (k:B) :((u k:Int)=3)<->k=3#8:=rH k 3#8
theorem wQ (k:B) :((u k:Int)=4)<->k=4#8:=rH k 4#8
theorem HJ (k:B) :((u k:Int)=5)<->k=5#8:=rH k 5#8
theorem alH (k:B) :((u k:Int)=0)<->k=0#8:=rH k 0#8
theorem uJ (k:Q) :((u k:Int)=0)<->k=0#64:=rH k 0#64
theorem RL (b:Q) :jJ b<2048:=ave _ (by decide)
theorem Zv (n:Nat) (h:n<9223372036854775808) :cm .and .i64 (n:Int) .i64 2047=some (.int .i64 ((n % 2048:Nat) :Int)) :=by
 show some (U.int .i64 (IntKind.i64.wrap ((BitVec.ofInt 64 (n:Int) &&& BitVec.ofInt 64 (2047:Int)).toNat:Int)))=_;have h1:(BitVec.ofInt 64 (n:Int) &&& BitVec.ofInt 64 (2047:Int)).toNat=n % 2048:=by
  rw[auX,avT,atK,atD (by omega)];exact av2 n 11
 have ad:=ave n (show 2048 > 0 by decide);rw[h1];generalize n % 2048=q at ad;rw[wrap_i64 (by omega) (by omega)]
theorem acf (b:Q) :b &&& 4503599627370495#64=pH b:=by
 apply atH;unfold pH;rw[avT,auC];exact av2 b.toNat 52
theorem akH (b:Q) :bw Tryz.prog GS 264 [c4 b] (.bG [.int .i64 (jJ b),c4 (pH b)]) :=by
 refine bP Tryz.checked.mixed bC ?_;apply bj Tryz.func264 [];have ag:=b.isLt;have h1:IntKind.i64.wrap (u (b >>> 52))=((b.toNat / 4503599627370496:Nat) :Int) :=by
  have:u (b >>> 52)=((b.toNat / 4503599627370496:Nat) :Int) :=by unfold u; rw[auf,atR]
  rw[this,wrap_i64 (by omega) (by omega)]
 have ad:=Zv (b.toNat / 4503599627370496) (by omega);have ao:jJ b=b.toNat / 4503599627370496 % 2048:=rfl;rw[<-ao] at ad;obtain⟨q,aZ⟩:∃ q,b.toNat / 4503599627370496=q:=⟨_,rfl⟩
 rw[aZ] at h1 ad;have aj:cm .and .u64 (u b) .u64 4503599627370495=some (c4 (pH b)) :=by
  rw[OE,lS,<-acf]; rfl
 have aF:cm .shr .u64 (u b) .u64 52=some (.int .u64 (u (b >>> 52))) :=tz b .u64 52;simp[aF,h1,ad,aj,-OE];exact aP rfl rfl
theorem ajz (b:Q) :bw Tryz.prog GS 253 [c4 b] (.int .i64 (jJ b)) :=by
 refine bP Tryz.checked.mixed bC ?_;apply bj Tryz.func253 [];have ag:=b.isLt;have h1:cm .rem .u64 (u b) .u64 9223372036854775808=some (c4 (b % 9223372036854775808#64)) :=zb b 9223372036854775808#64 (by decide);have ad:cm .quo .u64 (u (b % 9223372036854775808#64)) .u64 4503599627370496=some (c4 (b % 9223372036854775808#64 / 4503599627370496#64)) :=Mx _ 4503599627370496#64 (by decide);have aj:IntKind.i64.wrap (u (b % 9223372036854775808#64 / 4503599627370496#64))=(jJ b:Int) :=by
  have:u (b % 9223372036854775808#64 / 4503599627370496#64)=(jJ b:Int) :=by
   unfold u jJ;rw[auZ,auC];show (((b.toNat % 9223372036854775808) / 4503599627370496:Nat) :Int)=_;congr 1;omega
  have aF:=RL b;rw[this,wrap_i64 (by omega) (by omega)]
 simp[h1,ad,aj];exact aP rfl rfl
theorem ajA (b:Q) :bw Tryz.prog GS 254 [c4 b] (c4 (pH b)) :=by
 refine bP Tryz.checked.mixed bC ?_;apply bj Tryz.func254 [];have h1:cm .rem .u64 (u b) .u64 4503599627370496=some (c4 (pH b)) :=zb b 4503599627370496#64 (by decide);simp[h1];exact aP rfl rfl
theorem aay (b:Q) :bw Tryz.prog GS 252 [c4 b] (bB (cls b)) :=by
 refine bP Tryz.checked.mixed bC ?_;apply bj Tryz.func252 [];unfold cls;simp;refine bf (akH b) rfl ?_;have h1:((jJ b:Int)=2047)<->jJ b=2047:=by omega
 have ad:((jJ b:Int)=0)<->jJ b=0:=by omega
 by_cases aL:jJ b=2047
 ·by_cases aT:pH b=0#64
  ·simp[h1,aL,aT];exact aP rfl rfl
  ·simp[h1,aL,aT,uJ];exact aP rfl rfl
 ·by_cases a8:jJ b=0
  ·by_cases aT:pH b=0#64
   ·simp[h1,ad,aL,aT,a8];exact aP rfl rfl
   ·simp[h1,ad,aL,aT,a8,uJ];exact aP rfl rfl
  ·simp[h1,ad,aL,a8];exact aP rfl rfl
theorem ajx (b:Q) :bw Tryz.prog GS 222 [c4 b] (bB (cls b)) :=by
 refine bP Tryz.checked.mixed bC ?_;apply bj Tryz.func222 [];unfold cls;simp;refine bf (ajz b) rfl ?_;simp;refine bf (ajA b) rfl ?_;have ad:((jJ b:Int)=0)<->jJ b=0:=by omega
 have aj:((jJ b:Int)<2047)<->¬ jJ b=2047:=by have:=RL b; omega
 by_cases a8:jJ b=0
 ·by_cases aT:pH b=0#64
  ·simp[ad,aT,a8];exact aP rfl rfl
  ·simp[ad,aT,a8,uJ];exact aP rfl rfl
 ·by_cases aL:jJ b=2047
  ·by_cases aT:pH b=0#64
   ·simp[ad,aj,aL,aT];exact aP rfl rfl
   ·simp[ad,aj,aL,aT,uJ];exact aP rfl rfl
  ·simp[ad,aj,aL,a8];exact aP rfl rfl
theorem aam (b:Q) :bw Tryz.prog GS 220 [c4 b] (c4 (mS b)) :=by
 refine bP Tryz.checked.mixed bC ?_;apply bj Tryz.func220 [];unfold mS;simp;refine bf (aay b) rfl ?_;by_cases h:cls b=5#8
 ·simp[HJ,h];exact aP rfl rfl
 ·simp[HJ,h];exact aP rfl rfl
theorem ajv (b:Q) :bw Tryz.prog GS 162 [c4 b] (c4 (mS b)) :=by
 refine bP Tryz.checked.mixed bC ?_;apply bj Tryz.func162 [];unfold mS;simp;refine bf (ajx b) rfl ?_;by_cases h:cls b=5#8
 ·simp[HJ,h];exact aP rfl rfl
 ·simp[HJ,h];exact aP rfl rfl
theorem alP (n:Int) :bw Tryz.prog GS 158 [.int .i64 n] (.aM (cW ⟨1#8,n,0#64,[]⟩)) :=by
 refine bP Tryz.checked.mixed bC ?_;apply bj Tryz.func158 [];simp;exact aP rfl rfl
theorem alO (b:Q) :bw Tryz.prog GS 159 [c4 b] (.aM (cW ⟨2#8,0,mS b,[]⟩)) :=by
 refine bP Tryz.checked.mixed bC ?_;apply bj Tryz.func159 [];simp;refine bf (aam b) rfl ?_;simp;exact aP rfl rfl
def ta (s:List UInt8) :gK × Int:=if s.length<=30 then (if s.all (ha 32) then (⟨3#8,0,0#64,s⟩,0) else (ij,8)) else (ij,4)
theorem alQ (s:List UInt8) :bw Tryz.prog GS 160 [.str s] (.bG [.aM (cW (ta s).1),.int .i64 (ta s).2]) :=by
 refine bP Tryz.checked.mixed bC ?_;apply bj Tryz.func160 [];unfold ta;have ad:((30:Int)<s.length)<->¬ s.length<=30:=by omega
 by_cases aT:s.length<=30
 ·simp[ad,aT];refine bf (XK ab1 ala s) rfl ?_;have aj:=Lw 32 (by omega) s s.length 0 (by omega);rw[auv] at aj;have aF:((0:Int)<=kK (mO 32) s s.length 0)<->¬ (s.all (ha 32)=true) :=by rw[<-aj]; omega
  cases ag:s.all (ha 32) with
  | true=>
   have aW:¬ (0:Int)<=kK (mO 32) s s.length 0:=by rw[aF,ag]; simp
   simp[aW];exact aP (by simp[aT]; rfl) rfl
  | false=>
   have aW:(0:Int)<=kK (mO 32) s s.length 0:=by rw[aF,ag]; simp
   simp[aW];exact aP (by simp[aT]; rfl) rfl
 ·simp[ad,aT];exact aP rfl rfl
def jx (v:gK) :Bool:=
 if v.kind=1#8 then decide (v.bits=0#64)&&decide (v.text=[])
 else if v.kind=2#8 then decide (v.num=0)&&decide (v.text=[])&&decide (mS v.bits=v.bits)
 else if v.kind=3#8 then decide (v.num=0)&&decide (v.bits=0#64)&&decide (v.text.length<=30)&&v.text.all (ha 32)
 else false
def hO (b:Bool) :Int:=if b then 0 else 8
def agL:List lv:=[.i .u8,.i .i64,.i .u64,.s]
theorem Vo:rg Tryz.prog 20 42=some agL:=by kernel_rfl
theorem alR (a b:gK) :gi Tryz.prog .eql 42 (.aM (cW a)) (.aM (cW b))=some (.bool (eU (cW a) (cW b))) :=Iu Vo (by kernel_rfl) (by kernel_rfl) rfl rfl
theorem NH (a b:gK) :gi Tryz.prog .neq 42 (.aM (cW a)) (.aM (cW b))=some (.bool (!eU (cW a) (cW b))) :=Er Vo (by kernel_rfl) (by kernel_rfl) rfl rfl
theorem OM (a b:gK) :eU (cW a) (cW b)=(decide (a.kind=b.kind)&&(decide (a.num=b.num)&&(decide (a.bits=b.bits)&&decide (a.text=b.text)))) :=by
 simp[cW,eU,U.beq]
theorem NI {v:gK} (k:v.kind=1#8) :jx v=(decide (v.bits=0#64)&&decide (v.text=[])) :=by simp[jx,k]
theorem NJ {v:gK} (k:v.kind=2#8) :jx v=(decide (v.num=0)&&(decide (v.bits=mS v.bits)&&decide (v.text=[]))) :=by
 unfold jx;rw[if_neg (by rw[k]; decide),if_pos k,show decide (mS v.bits=v.bits)=decide (v.bits=mS v.bits) from decide_eq_decide.2 eq_comm];cases decide (v.num=0)<;>cases decide (v.text=[])<;>cases decide (v.bits=mS v.bits)<;>rfl
theorem Yn {v:gK} (k:v.kind=3#8) :jx v=(decide (v.kind=(ta v.text).1.kind)&&(decide (v.num=(ta v.text).1.num)&&(decide (v.bits=(ta v.text).1.bits)&&decide (v.text=(ta v.text).1.text)))) :=by
 unfold jx ta;rw[if_neg (by rw[k]; decide),if_neg (by rw[k]; decide),if_pos k];by_cases h1:v.text.length<=30
 ·cases ad:v.text.all (ha 32) with
  | true=>simp[h1,k]
  | false=>simp[h1,k,ij]
 ·simp[h1,k,ij]
theorem NK {v:gK} (b9:v.kind≠1#8) (b0:v.kind≠2#8) (dK:v.kind≠3#8) :jx v=false:=by simp[jx,b9,b0,dK]
theorem NG (v:gK) :bw Tryz.prog GS 105 [.aM (cW v)] (.int .i64 (hO (jx v))) :=by
 refine bP Tryz.checked.mixed bC ?_;apply bj Tryz.func105 [];have aw:∀ (k:B) (n:Int) (b:Q) (t:List UInt8),gi Tryz.prog .neq 42 (.aM [bB v.kind,.int .i64 v.num,c4 v.bits,.str v.text]) (.aM [bB k,.int .i64 n,c4 b,.str t])=some (.bool (!(decide (v.kind=k)&&(decide (v.num=n)&&(decide (v.bits=b)&&decide (v.text=t)))))) :=fun k n b t=>by rw[<-OM v ⟨k,n,b,t⟩]; exact NH v ⟨k,n,b,t⟩
 by_cases b9:v.kind=1#8
 ·have h1:=aw 1#8 v.num 0#64 [];simp only[b9] at h1;unfold cW;simp[ih,b9];refine bf (alP v.num) rfl ?_;unfold cW;simp[h1];rw[NI b9];cases decide (v.bits=0#64)<;>cases decide (v.text=[])<;>simp[b9]<;>exact aP rfl rfl
 ·by_cases b0:v.kind=2#8
  ·have h1:=aw 2#8 0 (mS v.bits) [];simp only[b0] at h1;unfold cW;simp[ih,lp,b0];refine bf (alO v.bits) rfl ?_;unfold cW;simp[h1];rw[NJ b0];cases decide (v.num=0)<;>cases decide (v.bits=mS v.bits)<;>cases decide (v.text=[])<;>simp[b0]<;>exact aP rfl rfl
  ·by_cases dK:v.kind=3#8
   ·obtain⟨w,hw⟩:∃ w,w=(ta v.text).1:=⟨_,rfl⟩
    have h1:=aw w.kind w.num w.bits w.text;have aj:=Yn dK;rw[<-hw] at aj;simp only[dK] at h1 aj;unfold cW;simp[ih,lp,pf,dK];refine bf (alQ v.text) rfl ?_;rw[<-hw];unfold cW;simp[h1];rw[aj];cases decide (3#8=w.kind)<;>cases decide (v.num=w.num)<;>cases decide (v.bits=w.bits)<;>cases decide (v.text=w.text)<;>simp[dK]<;>exact aP rfl rfl
   ·have h1:gi Tryz.prog .neq 42 (.aM [bB v.kind,.int .i64 v.num,c4 v.bits,.str v.text]) (.aM [.int .u8 0,.int .i64 0,.int .u64 0,.str []])=some (.bool (!(decide (v.kind=0#8)&&(decide (v.num=0)&&(decide (v.bits=0#64)&&decide (v.text=[])))))) :=aw 0#8 0 0#64 [];rw[NK b9 b0 dK];unfold cW;simp[ih,lp,pf,b9,b0,dK];by_cases i4:v.kind=0#8
    ·simp only[i4,decide_true,auu] at h1;simp[i4,h1];cases decide (v.num=0)<;>cases decide (v.bits=0#64)<;>cases decide (v.text=[])<;>simp[i4]<;>exact aP rfl rfl
    ·simp only[i4,decide_false,au8,Bool.not_false] at h1;simp[h1];exact aP rfl rfl
theorem ajC (v:gK) :bw Tryz.prog GS 110 [.aM (cW v)] (.int .i64 (hO (jx v))) :=by
 refine bP Tryz.checked.mixed bC ?_;apply bj Tryz.func110 [[[0],[1],[2],[3],[4],[5],[6],[7],[8],[9],[10],[12],[13],[11,13]]];by_cases b9:v.kind=1#8
 ·rw[NI b9];unfold cW;simp[ih,b9,uJ];by_cases aL:v.bits=0#64<;>by_cases aT:v.text=[]<;>simp[aL,aT,uJ]<;>exact aP rfl rfl
 ·by_cases b0:v.kind=2#8
  ·rw[NJ b0];unfold cW;simp[ih,lp,b0];by_cases aL:v.num=0
   ·by_cases aT:v.text=[]
    ·simp[aL,aT];refine bf (ajv v.bits) rfl ?_;by_cases a8:v.bits=mS v.bits
     ·have bu:mS v.bits=v.bits:=a8.symm;simp[bu];exact aP (by simp[hO,aL,aT,bu]) rfl
     ·have bu:¬ mS v.bits=v.bits:=fun h=>a8 h.symm
      simp[a8,bu];exact aP (by simp[hO,a8]) rfl
    ·simp[aL,aT];exact aP rfl rfl
   ·simp[aL];exact aP rfl rfl
  ·by_cases dK:v.kind=3#8
   ·have aq:jx v=(decide (v.num=0)&&decide (v.bits=0#64)&&decide (v.text.length<=30)&&v.text.all (ha 32)) :=by simp[jx,dK]
    have ad:((v.text.length:Int)<=30)<->v.text.length<=30:=by omega
    rw[aq];unfold cW;simp[ih,lp,pf,dK,uJ];by_cases aL:v.num=0
    ·by_cases aT:v.bits=0#64
     ·by_cases a8:v.text.length<=30
      ·simp[aL,aT,ad,a8];refine bf (aiF v.text (by omega)) rfl ?_;cases v.text.all (ha 32)<;>simp<;>exact aP (by simp[hO,aL,aT,a8]) rfl
      ·simp[aL,aT,ad,a8];exact aP rfl rfl
     ·simp[aL,aT,uJ];exact aP rfl rfl
    ·simp[aL];exact aP rfl rfl
   ·rw[NK b9 b0 dK];unfold cW;simp[ih,lp,pf,b9,b0,dK];exact aP rfl rfl
structure Act where
 kind:B
 key:List UInt8
 val:gK
def kX (a:Act) :List U:=[bB a.kind,.str a.key,bB a.val.kind,.int .i64 a.val.num,c4 a.val.bits,.str a.val.text]
def nm (v:gK) :Bool:=decide (v.kind=0#8)&&(decide (v.num=0)&&(decide (v.bits=0#64)&&decide (v.text=[])))
def jF (a:Act) :Bool:=
 if a.kind=1#8 then decide (a.key=[])&&nm a.val
 else if a.kind=2#8\/a.kind=3#8 then gP a.key&&nm a.val
 else if a.kind=4#8 then gP a.key&&jx a.val
 else false
def p9:List lv:=[.i .u8,.s,.i .u8,.i .i64,.i .u64,.s]
theorem ag3:rg Tryz.prog 20 78=some p9:=by kernel_rfl
theorem Zi (a b:Act) :gi Tryz.prog .eql 78 (.aM (kX a)) (.aM (kX b))=some (.bool (eU (kX a) (kX b))) :=Iu ag3 (by kernel_rfl) (by kernel_rfl) rfl rfl
theorem Zj (a:Act) (h:a.kind=1#8) :gi Tryz.prog .eql 78 (.aM [.int .u8 1,.str a.key,bB a.val.kind,.int .i64 a.val.num,c4 a.val.bits,.str a.val.text]) (.aM [.int .u8 1,.str [],.int .u8 0,.int .i64 0,.int .u64 0,.str []])=some (.bool (decide (a.key=[])&&nm a.val)) :=by
 have:=Zi a ⟨1#8,[],ij⟩;simp only[kX,h] at this;refine Eq.trans this ?_;simp[eU,U.beq,nm,ij,alH,uJ];congr
theorem Ym (v:gK) :gi Tryz.prog .eql 42 (.aM [bB v.kind,.int .i64 v.num,c4 v.bits,.str v.text]) (.aM [.int .u8 0,.int .i64 0,.int .u64 0,.str []])=some (.bool (nm v)) :=by
 have:=alR v ij;rw[OM] at this;exact this
theorem N9 {a:Act} (k:a.kind=1#8) :jF a=(decide (a.key=[])&&nm a.val) :=by simp[jF,k]
theorem Bm {a:Act} (k:a.kind=2#8) :jF a=(gP a.key&&nm a.val) :=by simp[jF,k]
theorem Ie {a:Act} (k:a.kind=3#8) :jF a=(gP a.key&&nm a.val) :=by simp[jF,k]
theorem Bn {a:Act} (k:a.kind=4#8) :jF a=(gP a.key&&jx a.val) :=by simp[jF,k]
theorem Ig {a:Act} (b9:a.kind≠1#8) (b0:a.kind≠2#8) (dK:a.kind≠3#8) (dP:a.kind≠4#8) :jF a=false:=by simp[jF,b9,b0,dK,dP]
theorem IJ (a:Act) :bw Tryz.prog GS 104 [.aM (kX a)] (.int .i64 (hO (jF a))) :=by
 refine bP Tryz.checked.mixed bC ?_;apply bj Tryz.func104 [];by_cases b9:a.kind=1#8
 ·have h1:=Zj a b9;have aQ:bB (1#8)=.int .u8 1:=rfl;rw[N9 b9];unfold kX;simp[ih,b9,aQ,h1];by_cases aL:a.key=[]<;>cases aT:nm a.val<;>simp[aL,aT]<;>exact aP rfl rfl
 ·have h1:=Ym a.val;by_cases b0:a.kind=2#8
  ·rw[Bm b0];unfold kX;simp[ih,lp,pf,b9,b0];refine bf (LI a.key) rfl ?_;cases gP a.key with
   | true=>simp[h1]; cases nm a.val<;>simp<;>exact aP rfl rfl
   | false=>simp; exact aP rfl rfl
  ·by_cases dK:a.kind=3#8
   ·rw[Ie dK];unfold kX;simp[ih,lp,pf,b9,dK];refine bf (LI a.key) rfl ?_;cases gP a.key with
    | true=>simp[h1]; cases nm a.val<;>simp<;>exact aP rfl rfl
    | false=>simp; exact aP rfl rfl
   ·by_cases dP:a.kind=4#8
    ·rw[Bn dP];unfold kX;simp[ih,lp,pf,wQ,dP];refine bf (LI a.key) rfl ?_;cases gP a.key with
     | true=>
      simp;refine bf (NG a.val) rfl ?_;cases jx a.val<;>simp[hO]<;>exact aP rfl rfl
     | false=>simp; exact aP rfl rfl
    ·rw[Ig b9 b0 dK dP];unfold kX;simp[ih,lp,pf,wQ,b9,b0,dK,dP];exact aP rfl rfl
theorem ajw (a:Act) :bw Tryz.prog GS 129 [.aM (kX a)] (.int .i64 (hO (jF a))) :=by
 refine bP Tryz.checked.mixed bC ?_;apply bj Tryz.func129 [];have h1:=Ym a.val;by_cases b9:a.kind=1#8
 ·rw[N9 b9];unfold kX;simp[ih,b9,h1];by_cases aL:a.key=[]<;>cases aT:nm a.val<;>simp[aL,aT]<;>exact aP rfl rfl
 ·by_cases b0:a.kind=2#8
  ·rw[Bm b0];unfold kX;simp[ih,lp,pf,b9,b0,h1];refine bf (L3 a.key) rfl ?_;cases gP a.key with
   | true=>simp; cases nm a.val<;>simp<;>exact aP rfl rfl
   | false=>simp; exact aP rfl rfl
  ·by_cases dK:a.kind=3#8
   ·rw[Ie dK];unfold kX;simp[ih,lp,pf,b9,dK,h1];refine bf (L3 a.key) rfl ?_;cases gP a.key with
    | true=>simp; cases nm a.val<;>simp<;>exact aP rfl rfl
    | false=>simp; exact aP rfl rfl
   ·by_cases dP:a.kind=4#8
    ·rw[Bn dP];unfold kX;simp[ih,lp,pf,wQ,dP,h1];refine bf (L3 a.key) rfl ?_;cases gP a.key with
     | true=>
      simp;refine bf (ajC a.val) rfl ?_;cases jx a.val<;>simp[hO]<;>exact aP rfl rfl
     | false=>simp; exact aP rfl rfl
    ·rw[Ig b9 b0 dK dP];unfold kX;simp[ih,lp,pf,wQ,b9,b0,dK,dP,h1];exact aP rfl rfl
end Op

end Go.b2

namespace Go.b2
open Go Go.Proofs
set_option maxRecDepth 100000
def cf {α:Type} (z:Nat) (enc:α->List U) (l l1:am) (v:U) (a:List α) (fT:Bool) :Prop:=
 ∃ j,bJ z l1 v j (a.map enc)/\l.length<=l1.length/\(∀ b,b<l.length->l1[b]? = l[b]?)/\(v=.a1\/l.length<=j)/\cD v=fT
section
variable {α:Type} {z:Nat} {enc:α->List U} {l l1:am} {v:U} {a:List α} {fT:Bool}
theorem cf.nil:cf z enc l l .a1 ([] :List α) true:=⟨0,.nil 0,att _,fun _ _=>rfl,.inl rfl,rfl⟩
theorem cf.more (h:cf z enc l l1 v a fT) (r:am) :cf z enc l (l1++r) v a fT:=by
 obtain⟨j,h1,ad,aj,aF,aW⟩:=h;exact⟨j,h1.more r,by simp; omega,fun b ag=>by rw[ats (by omega)]; exact aj b ag,aF,aW⟩
theorem cf.len (h:cf z enc l l1 v a fT) :cP (.au z) v=some (.int .i64 a.length) :=by
 obtain⟨j,h1,_⟩:=h;rw[h1.len,atU]
theorem cf.cells (h:cf z enc l l1 v a fT) :v.cells=some [v] :=by
 obtain⟨j,h1,_⟩:=h;exact h1.cells
theorem cf.contents (h:cf z enc l l1 v a fT) :dp l1 z v=some ((a.map enc).flatten,a.length) :=by
 obtain⟨j,h1,_⟩:=h;rw[h1.contents,atU]
theorem cf.le (h:cf z enc l l1 v a fT) :l.length<=l1.length:=by obtain⟨j,h1,ad,_⟩:=h; exact ad
theorem cf.same (h:cf z enc l l1 v a fT) :∀ b,b<l.length->l1[b]? = l[b]?:=by obtain⟨j,h1,ad,aj,_⟩:=h; exact aj
theorem cf.rz (h:cf z enc l l1 v a fT) (aD:∀ x,bm (enc x)=true) (s:dR α) (al:fT=s.isNone) (af:s.l=a) :fH (bU l1) v (cK z enc s) :=by
 obtain⟨j,h1,ad,aj,aF,aW⟩:=h;exact h1.nr aD s (by rw[aW,al]) af
theorem cf.rd (h:cf z enc l l1 v a fT) (aD:∀ x,bm (enc x)=true) (s:dR α) (al:fT=s.isNone) (af:s.l=a) :Rd l1 v (cK z enc s) :=by
 obtain⟨j,h1,ad,aj,aF,aW⟩:=h;exact h1.q.yD aD s (by rw[aW,al]) af
theorem cf.Hl (h:cf z enc l l1 v a fT) (aD:∀ x,lz (enc x)=true) (s:dR α) (al:fT=s.isNone) (af:s.l=a) :jV l1 v (cK z enc s) :=by
 obtain⟨j,h1,ad,aj,aF,aW⟩:=h;exact h1.DJ aD s (by rw[aW,al]) af
theorem cf.base (h:cf z enc l l1 v a fT) {dT:am} (ak:dT.length<=l.length) (al:∀ b,b<dT.length->l[b]? = dT[b]?) :cf z enc dT l1 v a fT:=by
 obtain⟨j,h1,ad,aj,aF,aW⟩:=h;exact⟨j,h1,by omega,fun b ag=>by rw[aj b (by omega)]; exact al b ag,aF.imp id (by omega),aW⟩
theorem cf.frame (h:cf z enc l l1 v a fT) {b5:am} (ak:l1.length<=b5.length) (al:∀ b,b<l1.length->b5[b]? = l1[b]?) :cf z enc l b5 v a fT:=by
 obtain⟨j,h1,ad,aj,aF,aW⟩:=h;exact⟨j,h1.frame fun ai=>al j ai,by omega,fun b ag=>by rw[al b (by omega)]; exact aj b ag,aF,aW⟩
theorem cf.app (h:cf z enc l l1 v a fT) {by_:Nat} {x:U} {xs:List α} (af:dp l1 z x=some ((xs.map enc).flatten,xs.length)) (aw:∀ y∈xs,(enc y).length=z) (aE:z≠0) (dD:by_≠0) (df:(a.length+xs.length)*by_<=ct) :
  ∃ aY l',fz l1 z by_ v x=some (aY,l')/\cf z enc l l' aY (a++xs) (fT&&xs.isEmpty)/\l1.length<=l'.length:=by
 obtain⟨j,h1,ad,aj,aF,aW⟩:=h;obtain⟨aY,bX,l',aL,aT,a8,bu,bc,ch⟩:=Ot (xs:=xs.map enc) h1 (by simpa using af) (fun e ao=>by obtain⟨y,az,rfl⟩:=atV.1 ao; exact aw y az) aE dD (by simpa using df);refine⟨aY,l',aL,⟨bX,by rw[atX]; exact aT,by omega,fun b ag=>?_,?_,?_⟩,a8⟩
 ·rw[bu b (by omega)]
  ·exact aj b ag
  ·rcases aF with h | h
   ·exact .inl h
   ·exact .inr (by omega)
 ·rcases bc with h | ⟨bt,dq⟩ | h
  ·exact .inr (by omega)
  ·rcases aF with h | h
   ·exact absurd h bt
   ·exact .inr (by omega)
  ·exact .inl h
 ·rw[ch,aW]; simp
end

namespace Op
open gh
theorem cf.push {l l1:am} {v:U} {a:List B} {fT:Bool} (h:cf 1 b7 l l1 v a fT) (x:B) (df:a.length<=1000000000) :
  ∃ aY l',fz (l1++[.cells 1 [bB x]]) 1 1 v (.au 1 l1.length 0 1 1 1)=some (aY,l')/\cf 1 b7 l l' aY (a++[x]) false:=by
 have ax:ct=140737488355328:=rfl;obtain⟨aY,l',aL,aT,_⟩:=(h.more [.cells 1 [bB x]]).app (by_:=1) (x:=.au 1 l1.length 0 1 1 1) (xs:=[x]) (by simp[dp,b7]) (by simp[b7]) (by omega) (by omega) (by rw[ax]; simp; omega);exact⟨aY,l',aL,by simpa using aT⟩
theorem xi:∀ a:List B,(a.map b7).flatten=a.map bB
 | []=>rfl
 | x::a=>by rw[atY,aup,xi a]; rfl
theorem o5 {l:am} {j n:Nat} {a:List B} (aB:a.length=n) (ai:l[j]? = some (.cells n (a.map bB))) :bJ 1 l (.au 1 j 0 n n n) j (a.map b7) :=by
 refine .au j n n n (a.map bB) _ ai (by simp[aB]) (by simp[aB]) (fun e ao=>?_) (att _) (by omega) ?_
 ·obtain⟨x,_,rfl⟩:=atV.1 ao; rfl
 ·rw[atr (by simp[aB]),xi]
def kN (n:Nat) :Nat:=if n<256 then 1 else if n<65536 then 2 else if n<16777216 then 3 else if n<4294967296 then 4 else if n<1099511627776 then 5 else if n<281474976710656 then 6 else if n<72057594037927936 then 7 else 8
theorem GZ (n:Nat) :1<=kN n/\kN n<=8:=by unfold kN; refine⟨?_,?_⟩<;>(repeat' split)<;>omega
def lx (n i:Nat) :B:=BitVec.ofNat 8 (n >>> (8*i))
def uR (n:Nat) :Nat->List B
 | 0=>[]
 | i+1=>lx n i::uR n i
theorem Np (n:Nat) :∀ i,(uR n i).length=i
 | 0=>rfl
 | i+1=>by simp[uR,Np n i]
def et (n:Nat) :List B:=if n<=247 then [BitVec.ofNat 8 n] else BitVec.ofNat 8 (247+kN n) ::uR n (kN n)
def lg (x:Nat) :Nat:=if x<1 then 0 else if x<2 then 1 else if x<4 then 2 else if x<8 then 3 else if x<16 then 4 else if x<32 then 5 else if x<64 then 6 else if x<128 then 7 else 8
def DY:List UInt8:=[0,1,2,2,3,3,3,3,4,4,4,4,4,4,4,4,5,5,5,5,5,5,5,5,5,5,5,5,5,5,5,5,6,6,6,6,6,6,6,6,6,6,6,6,6,6,6,6,6,6,6,6,6,6,6,6,6,6,6,6,6,6,6,6,7,7,7,7,7,7,7,7,7,7,7,7,7,7,7,7,7,7,7,7,7,7,7,7,7,7,7,7,7,7,7,7,7,7,7,7,7,7,7,7,7,7,7,7,7,7,7,7,7,7,7,7,7,7,7,7,7,7,7,7,7,7,7,7,8,8,8,8,8,8,8,8,8,8,8,8,8,8,8,8,8,8,8,8,8,8,8,8,8,8,8,8,8,8,8,8,8,8,8,8,8,8,8,8,8,8,8,8,8,8,8,8,8,8,8,8,8,8,8,8,8,8,8,8,8,8,8,8,8,8,8,8,8,8,8,8,8,8,8,8,8,8,8,8,8,8,8,8,8,8,8,8,8,8,8,8,8,8,8,8,8,8,8,8,8,8,8,8,8,8,8,8,8,8,8,8,8,8,8,8,8,8,8,8,8,8,8,8,8,8,8,8]
def Nn:Nat->List UInt8->Bool
 | _,[]=>true
 | i,x::r=>Nat.beq x.toNat (lg i)&&Nn (i+1) r
theorem XS:∀ (i:Nat) (l:List UInt8),Nn i l=true->∀ (j:Nat) (x:UInt8),l[j]? = some x->x.toNat=lg (i+j)
 | i,[],_,j,x,h=>by simp at h
 | i,y::r,h,j,x,af=>by
  simp only[Nn,atv] at h;cases j with
  | zero=>simp at af; subst af; exact auj h.1
  | succ j=>simp at af; rw[XS (i+1) r h.2 j x af]; congr 1; omega
theorem wO (i:Nat) (h:i<256) :∃ x,DY[i]? = some x/\x.toNat=lg i:=by
 have ak:DY.length=256:=by kernel_rfl
 have ar:=XS 0 DY (by kernel_rfl) i _ (atu (by omega));exact⟨_,atu (by omega),by rw[ar]; congr 1; omega⟩
theorem uu (x:Nat) :lg x<=8:=by unfold lg; (repeat' split)<;>omega
def jr (n:Nat) :Nat:=
 if n<256 then lg n else if n<65536 then 8+lg (n / 256) else if n<16777216 then 16+lg (n / 65536) else if n<4294967296 then 24+lg (n / 16777216)
 else if n<1099511627776 then 32+lg (n / 4294967296) else if n<281474976710656 then 40+lg (n / 1099511627776) else if n<72057594037927936 then 48+lg (n / 281474976710656) else 56+lg (n / 72057594037927936)
theorem ahi (n:Nat) (h:1<=n) :(jr n+7) / 8=kN n:=by
 have ak:∀ x,1<=x->1<=lg x/\lg x<=8:=fun x af=>⟨by unfold lg; rw[if_neg (by omega)]; (repeat' split)<;>omega,uu x⟩
 unfold jr kN
 repeat' split
 ·have:=ak n h; omega
 ·have:=ak (n / 256) (by omega); omega
 ·have:=ak (n / 65536) (by omega); omega
 ·have:=ak (n / 16777216) (by omega); omega
 ·have:=ak (n / 4294967296) (by omega); omega
 ·have:=ak (n / 1099511627776) (by omega); omega
 ·have:=ak (n / 281474976710656) (by omega); omega
 ·have:=ak (n / 72057594037927936) (by omega); omega
theorem M5 (x:Q) (k:Nat) :cm .shr .u64 (u x) .u64 (k:Int)=some (.int .u64 (u (x >>> k))) :=tz x .u64 k
theorem u3 {i:Nat} {y:UInt8} {k:UInt8->Prop} (h:DY[i]? = some y) (hk:k y) :W DY[i]? (c:=⟨k⟩) :=by rw[h]; exact hk
set_option maxHeartbeats 4000000 in
theorem Vt (n:Q) :bw Tryz.prog GS 189 [c4 n] (.int .i64 (jr n.toNat)) :=by
 refine bP Tryz.checked.mixed bC ?_;apply bj Tryz.func189 [];have kr:IntKind.i64.wrap 8=8:=rfl;have wR:IntKind.i64.wrap 16=16:=rfl;have wS:IntKind.i64.wrap 24=24:=rfl;have wT:IntKind.i64.wrap 32=32:=rfl;have wU:IntKind.i64.wrap 40=40:=rfl;have wV:IntKind.i64.wrap 48=48:=rfl;have wW:IntKind.i64.wrap 56=56:=rfl;have ca:∀ x:Q,((4294967296:Int)<=u x)<->4294967296<=x.toNat:=fun x=>by unfold u; omega
 have cy:∀ x:Q,((65536:Int)<=u x)<->65536<=x.toNat:=fun x=>by unfold u; omega
 have eV:∀ x:Q,((256:Int)<=u x)<->256<=x.toNat:=fun x=>by unfold u; omega
 have wG:∀ x:Q,cm .shr .u64 (u x) .u64 32=some (.int .u64 (u (x >>> 32))) :=fun x=>M5 x 32
 have wF:∀ x:Q,cm .shr .u64 (u x) .u64 16=some (.int .u64 (u (x >>> 16))) :=fun x=>M5 x 16
 have wH:∀ x:Q,cm .shr .u64 (u x) .u64 8=some (.int .u64 (u (x >>> 8))) :=fun x=>M5 x 8
 have t32:n.toNat >>> 32=n.toNat / 4294967296:=by rw[atR]
 have t48:n.toNat >>> 48=n.toNat / 281474976710656:=by rw[atR]
 have t16:n.toNat >>> 16=n.toNat / 65536:=by rw[atR]
 have adK:=n.isLt;by_cases h1:4294967296<=n.toNat
 ·by_cases ad:65536<=n.toNat >>> 32
  ·by_cases aj:256<=n.toNat >>> 48
   ·have dH:n.toNat >>> 56 % 256=n.toNat / 72057594037927936:=by rw[atR]; exact atD (by omega)
    obtain⟨y,aL,aT⟩:=wO (n.toNat / 72057594037927936) (by omega);have a8:=uu (n.toNat / 72057594037927936);rw[<-aT] at a8;have bW:IntKind.i64.wrap (y.toNat:Int)=y.toNat:=wrap_i64 (by omega) (by omega);have w2:IntKind.i64.wrap (56+(y.toNat:Int))=((56+y.toNat:Nat) :Int) :=by rw[wrap_i64 (by omega) (by omega)]; omega
    have ef:jr n.toNat=56+y.toNat:=by unfold jr; rw[aT]; (repeat' split)<;>first | omega | rfl
    simp[ca,cy,eV,wG,wF,wH,h1,ad,aj];refine u3 (y:=y) (by rw[dH]; exact aL) ?_;rw[ef];simp[iO,bW,w2];exact aP (by simp[kr,wR,wS,wT,wU,wV,wW,w2]) rfl
   ·have dH:n.toNat >>> 48 % 256=n.toNat / 281474976710656:=by rw[atR]; exact atD (by omega)
    obtain⟨y,aL,aT⟩:=wO (n.toNat / 281474976710656) (by omega);have a8:=uu (n.toNat / 281474976710656);rw[<-aT] at a8;have bW:IntKind.i64.wrap (y.toNat:Int)=y.toNat:=wrap_i64 (by omega) (by omega);have w2:IntKind.i64.wrap (48+(y.toNat:Int))=((48+y.toNat:Nat) :Int) :=by rw[wrap_i64 (by omega) (by omega)]; omega
    have ef:jr n.toNat=48+y.toNat:=by unfold jr; rw[aT]; (repeat' split)<;>first | omega | rfl
    simp[ca,cy,eV,wG,wF,wH,h1,ad,aj];refine u3 (y:=y) (by rw[dH]; exact aL) ?_;rw[ef];simp[iO,bW,w2];exact aP (by simp[kr,wR,wS,wT,wU,wV,wW,w2]) rfl
  ·by_cases aj:256<=n.toNat >>> 32
   ·have dH:n.toNat >>> 40 % 256=n.toNat / 1099511627776:=by rw[atR]; exact atD (by omega)
    obtain⟨y,aL,aT⟩:=wO (n.toNat / 1099511627776) (by omega);have a8:=uu (n.toNat / 1099511627776);rw[<-aT] at a8;have bW:IntKind.i64.wrap (y.toNat:Int)=y.toNat:=wrap_i64 (by omega) (by omega);have w2:IntKind.i64.wrap (40+(y.toNat:Int))=((40+y.toNat:Nat) :Int) :=by rw[wrap_i64 (by omega) (by omega)]; omega
    have ef:jr n.toNat=40+y.toNat:=by unfold jr; rw[aT]; (repeat' split)<;>first | omega | rfl
    simp[ca,cy,eV,wG,wF,wH,h1,ad,aj];refine u3 (y:=y) (by rw[dH]; exact aL) ?_;rw[ef];simp[iO,bW,w2];exact aP (by simp[kr,wR,wS,wT,wU,wV,wW,w2]) rfl
   ·have dH:n.toNat >>> 32 % 256=n.toNat / 4294967296:=by rw[atR]; exact atD (by omega)
    obtain⟨y,aL,aT⟩:=wO (n.toNat / 4294967296) (by omega);have a8:=uu (n.toNat / 4294967296);rw[<-aT] at a8;have bW:IntKind.i64.wrap (y.toNat:Int)=y.toNat:=wrap_i64 (by omega) (by omega);have w2:IntKind.i64.wrap (32+(y.toNat:Int))=((32+y.toNat:Nat) :Int) :=by rw[wrap_i64 (by omega) (by omega)]; omega
    have ef:jr n.toNat=32+y.toNat:=by unfold jr; rw[aT]; (repeat' split)<;>first | omega | rfl
    simp[ca,cy,eV,wG,wF,wH,h1,ad,aj];refine u3 (y:=y) (by rw[dH]; exact aL) ?_;rw[ef];simp[iO,bW,w2];exact aP (by simp[kr,wR,wS,wT,wU,wV,wW,w2]) rfl
 ·by_cases ad:65536<=n.toNat
  ·by_cases aj:256<=n.toNat >>> 16
   ·have dH:n.toNat >>> 24 % 256=n.toNat / 16777216:=by rw[atR]; exact atD (by omega)
    obtain⟨y,aL,aT⟩:=wO (n.toNat / 16777216) (by omega);have a8:=uu (n.toNat / 16777216);rw[<-aT] at a8;have bW:IntKind.i64.wrap (y.toNat:Int)=y.toNat:=wrap_i64 (by omega) (by omega);have w2:IntKind.i64.wrap (24+(y.toNat:Int))=((24+y.toNat:Nat) :Int) :=by rw[wrap_i64 (by omega) (by omega)]; omega
    have ef:jr n.toNat=24+y.toNat:=by unfold jr; rw[aT]; (repeat' split)<;>first | omega | rfl
    simp[ca,cy,eV,wG,wF,wH,h1,ad,aj];refine u3 (y:=y) (by rw[dH]; exact aL) ?_;rw[ef];simp[iO,bW,w2];exact aP (by simp[kr,wR,wS,wT,wU,wV,wW,w2]) rfl
   ·have dH:n.toNat >>> 16 % 256=n.toNat / 65536:=by rw[atR]; exact atD (by omega)
    obtain⟨y,aL,aT⟩:=wO (n.toNat / 65536) (by omega);have a8:=uu (n.toNat / 65536);rw[<-aT] at a8;have bW:IntKind.i64.wrap (y.toNat:Int)=y.toNat:=wrap_i64 (by omega) (by omega);have w2:IntKind.i64.wrap (16+(y.toNat:Int))=((16+y.toNat:Nat) :Int) :=by rw[wrap_i64 (by omega) (by omega)]; omega
    have ef:jr n.toNat=16+y.toNat:=by unfold jr; rw[aT]; (repeat' split)<;>first | omega | rfl
    simp[ca,cy,eV,wG,wF,wH,h1,ad,aj];refine u3 (y:=y) (by rw[dH]; exact aL) ?_;rw[ef];simp[iO,bW,w2];exact aP (by simp[kr,wR,wS,wT,wU,wV,wW,w2]) rfl
  ·by_cases aj:256<=n.toNat
   ·have dH:n.toNat >>> 8 % 256=n.toNat / 256:=by rw[atR]; exact atD (by omega)
    obtain⟨y,aL,aT⟩:=wO (n.toNat / 256) (by omega);have a8:=uu (n.toNat / 256);rw[<-aT] at a8;have bW:IntKind.i64.wrap (y.toNat:Int)=y.toNat:=wrap_i64 (by omega) (by omega);have w2:IntKind.i64.wrap (8+(y.toNat:Int))=((8+y.toNat:Nat) :Int) :=by rw[wrap_i64 (by omega) (by omega)]; omega
    have ef:jr n.toNat=8+y.toNat:=by unfold jr; rw[aT]; (repeat' split)<;>first | omega | rfl
    simp[ca,cy,eV,wG,wF,wH,h1,ad,aj];refine u3 (y:=y) (by rw[dH]; exact aL) ?_;rw[ef];simp[iO,bW,w2];exact aP (by simp[kr,wR,wS,wT,wU,wV,wW,w2]) rfl
   ·have dH:n.toNat % 256=n.toNat:=atD (by omega);obtain⟨y,aL,aT⟩:=wO (n.toNat) (by omega);have a8:=uu (n.toNat);rw[<-aT] at a8;have bW:IntKind.i64.wrap (y.toNat:Int)=y.toNat:=wrap_i64 (by omega) (by omega);have w2:IntKind.i64.wrap (0+(y.toNat:Int))=((0+y.toNat:Nat) :Int) :=by rw[wrap_i64 (by omega) (by omega)]; omega
    have ef:jr n.toNat=0+y.toNat:=by unfold jr; rw[aT]; (repeat' split)<;>first | omega | rfl
    simp[ca,cy,eV,wG,wF,wH,h1,ad,aj];refine u3 (y:=y) (by rw[dH]; exact aL) ?_;rw[ef];simp[iO,bW,w2];exact aP (by simp[kr,wR,wS,wT,wU,wV,wW,w2]) rfl
theorem Ev (n:Q) (i:Nat) :(n >>> (8*i)).setWidth 8=lx n.toNat i:=by
 apply atH;unfold lx;rw[atI,auf,atK]
theorem aka (l:am) (c d:a2) :(l++[c]).set l.length d=l++[d] :=by rw[at8 _ _ (att _)]; simp
def rs (n k i:Nat) :List B:=BitVec.ofNat 8 (247+k) ::(List.replicate (k - i) 0#8++uR n i)
theorem VX (n k i:Nat) (h:i<=k) :(rs n k i).length=k+1:=by simp[rs,Np]; omega
theorem ahW (n k i:Nat) (h:i<k) :(rs n k i).set (k - i) (lx n i)=rs n k (i+1) :=by
 unfold rs;obtain⟨m,hm⟩:∃ m,k - i=m+1:=⟨k - i - 1,by omega⟩
 rw[hm,avo,show k - (i+1)=m by omega,List.replicate_succ',at1];congr 1;rw[at8 _ _ (by simp)];simp[uR]
theorem amf (n:Q) {l:am} {K:U->am->Prop} (aV:∀ v j l',bJ 1 l' v j ((et n.toNat).map b7)->l.length<=l'.length->(∀ b,b<l.length->l'[b]? = l[b]?)->l.length<=j->cD v=false->K v l') :
  c7 Tryz.prog GS 195 [c4 n] l (c:=⟨K⟩) :=by
 apply bj Tryz.func195 [];have ca:((u n:Int)<=247)<->n.toNat<=247:=by unfold u; omega
 by_cases h:n.toNat<=247
 ·have vR:et n.toNat=[n.setWidth 8] :=by
   unfold et; rw[if_pos h]; rfl
  simp[ca,h];refine aV _ l.length _ (o5 (n:=1) (a:=et n.toNat) (by rw[vR]; rfl) (by rw[vR]; simp)) (by simp) (fun b ag=>ats ag) (att _) rfl
 ·have hk:=GZ n.toNat
  obtain⟨k,oM⟩:∃ k,kN n.toNat=k:=⟨_,rfl⟩
  have vR:et n.toNat=rs n.toNat k k:=by unfold et rs; rw[if_neg h,oM]; simp
  have CD:=ahi n.toNat (by omega)
  rw[oM] at CD hk;obtain⟨L,fJ⟩:∃ L,jr n.toNat=L:=⟨_,rfl⟩
  rw[fJ] at CD;have bW:IntKind.i64.wrap ((L:Int)+7)=((L+7:Nat) :Int) :=by rw[wrap_i64 (by omega) (by omega)]; omega
  have q1:cm .quo .i64 ((L+7:Nat) :Int) .i64 8=some (.int .i64 (k:Int)) :=by rw[Iz _ 8 (by omega) (by omega)]; rw[show (8:Int).toNat=8 from rfl,CD]
  have w2:IntKind.i64.wrap ((k:Int)+1)=((k+1:Nat) :Int) :=by rw[wrap_i64 (by omega) (by omega)]; omega
  have ef:IntKind.i64.wrap (247+(k:Int))=((247+k:Nat) :Int) :=by rw[wrap_i64 (by omega) (by omega)]; omega
  have gm:rq 1 1 [.int .u8 0] l (.int .i64 ((k+1:Nat) :Int)) (.int .i64 ((k+1:Nat) :Int))=some (.au 1 l.length 0 (k+1) (k+1) (k+1),l++[.cells (k+1) ((List.replicate (k+1) 0#8).map bB)]) :=by
   unfold rq;have ax:ct=140737488355328:=rfl;simp only[];rw[if_pos ⟨by omega,by omega,by omega,by rw[ax]; omega⟩,Hr];simp
  simp[ca,h];refine bf (Vt n) rfl ?_;rw[fJ];have gw:bz (List.replicate (k+1) (bB 0#8)) 0 [bB (BitVec.ofNat 8 (247+k))]=(rs n.toNat k 0).map bB:=by
   rw[aus,akE,akG]; simp[rs,uR]
  simp[bW,q1,w2,ef,gm,-Int.natCast_add];refine cF k (fun i ae l1=>ae 0=c4 n/\ae 3=.int .i64 k/\ae 4=.au 1 l.length 0 (k+1) (k+1) (k+1)/\ae 23=.int .i64 k/\ae 24=.int .i64 i/\l1=l++[.cells (k+1) ((rs n.toNat k i).map bB)]) ?_ ?_
  ·rintro i ae l1 av ⟨b8,a8,bu,zA,mb,rfl⟩;obtain⟨ae,rfl⟩:=kU b8 a8 bu zA mb;clear b8 a8 bu zA mb;by_cases kE:i<k
   ·have ii:IntKind.i64.wrap ((k:Int) - i)=((k - i:Nat) :Int) :=by rw[wrap_i64 (by omega) (by omega)]; omega
    have jA:IntKind.i64.wrap (8*(i:Int))=((8*i:Nat) :Int) :=by rw[wrap_i64 (by omega) (by omega)]; omega
    have A5:IntKind.i64.wrap ((i:Int)+1)=((i+1:Nat) :Int) :=by rw[wrap_i64 (by omega) (by omega)]; omega
    have mG:cm .shr .u64 (u n) .i64 ((8*i:Nat) :Int)=some (.int .u64 (u (n >>> (8*i)))) :=tz n .i64 (8*i);have rJ:=Ev n i;have A6:=oa bB (rs n.toNat k i) (k - i) (lx n.toNat i) (by rw[VX _ _ _ av]; omega);rw[ahW _ _ _ kE] at A6;obtain⟨d,bq⟩:∃ d,k - i=d:=⟨_,rfl⟩
    obtain⟨e,ao⟩:∃ e,8*i=e:=⟨_,rfl⟩
    rw[bq] at ii A6;rw[ao] at jA mG rJ;have zO:d<=k:=by omega
    simp[kE,ii,jA,A5,mG,rJ,A6,zO,-Int.natCast_add,aka];omega
   ·have fC:i=k:=by omega
    subst fC;simp;refine aV _ l.length _ (o5 (n:=i+1) (a:=et n.toNat) (by rw[vR,VX _ _ _ (att _)]) (by rw[vR]; simp)) (by simp) (fun b ag=>ats ag) (att _) rfl
  ·simp;exact gw
theorem ahS {n:Nat} (h:n<18446744073709551616) :n<256 ^ kN n:=by
 unfold kN; (repeat' split)<;>simp<;>omega
theorem ahT {n k:Nat} (h1:1<=n) (h:k<kN n) :256 ^ k<=n:=by
 have eA:=(GZ n).2;have hk:k=0\/k=1\/k=2\/k=3\/k=4\/k=5\/k=6\/k=7:=by omega
 rcases hk with rfl | rfl | rfl | rfl | rfl | rfl | rfl | rfl<;>simp<;>unfold kN at h<;>(repeat' split at h)<;>omega
theorem akj {n k:Nat} (h1:1<=n) (h:n<18446744073709551616) (hk:k<=kN n) :n >>> (8*k)=0<->k=kN n:=by
 have ay:2 ^ (8*k)=256 ^ k:=by rw[Nat.pow_mul]
 rw[atR,ay,Nat.div_eq_zero_iff];constructor
 ·rintro (ad | ad)
  ·exact absurd ad (by have:0<256 ^ k:=Nat.pow_pos (by decide); omega)
  ·rcases auA k (kN n) with aj | aj
   ·have:=ahT h1 aj; omega
   ·omega
 ·rintro rfl;exact .inr (ahS h)
theorem XU (n:Nat) :∀ k,uR n k=((List.range k).map (lx n)).reverse
 | 0=>rfl
 | k+1=>by rw[uR,XU n k,auK,atX,List.reverse_append]; rfl
def pE (n k:Nat) :List B:=(List.range k).map (lx n)
theorem aa0 (n k:Nat) :pE n (k+1)=pE n k++[lx n k] :=by simp[pE,auK]
theorem zq (n k:Nat) :(pE n k).length=k:=by simp[pE]
theorem Rw (n k i:Nat) (h:i<k) :(pE n k)[i]? = some (lx n i) :=by simp[pE,h]
theorem ajH (x:Q) :cm .rem .u64 (u x) .u64 256=some (.int .u64 (u (x % 256#64))) :=zb x 256#64 (by decide)
theorem aiW (x:Q) :cm .quo .u64 (u x) .u64 256=some (.int .u64 (u (x / 256#64))) :=Mx x 256#64 (by decide)
theorem ahu (n:Q) (i:Nat) :((n >>> (8*i)) % 256#64).setWidth 8=lx n.toNat i:=by
 rw[<-Ev];apply atH;rw[atI,auC,atI];show _ % 256 % 2 ^ 8=_ % 2 ^ 8;omega
theorem ahQ (n:Q) (i:Nat) :(n >>> (8*i)) / 256#64=n >>> (8*(i+1)) :=by
 apply atH;rw[auZ,auf,auf,atR,atR,show 8*(i+1)=8*i+8 by omega,av6,<-Nat.div_div_eq_div_mul]; rfl
theorem cf.get {l l1:am} {v:U} {a:List B} {fT:Bool} (h:cf 1 b7 l l1 v a fT) {k:IntKind} {i:Nat} {x:B} (af:a[i]? = some x) :∃ p cs o,cj (.au 1) v (.int k (i:Int))=some p/\eo l1 p=some (cs,o)/\cs[o]? = some (bB x) :=by
 obtain⟨j,h,_⟩:=h;obtain⟨p,cs,o,h1,ad,aj,aF⟩:=h.q.get (k:=k) (i:=i) (e:=b7 x) (by rw[atw,af]; rfl);refine⟨p,cs,o,h1,ad,?_⟩;have:=congrArg (fun l=>l[0]?) aF;simp[avK,at6,b7] at this;exact this
theorem yS (n:Q) {l:am} {K:U->am->Prop} (aV:∀ v l',cf 1 b7 l l' v (et n.toNat) false->K v l') :c7 Tryz.prog GS 195 [c4 n] l (c:=⟨K⟩) :=
 amf n fun v j l' h1 ad aj aF aW=>aV v l' ⟨j,h1,ad,aj,.inr aF,aW⟩
structure Y3 (l:am) (n:Q) (i:Nat) (ae:a7) (l1:am) :Prop where
 b8:ae 0=c4 (n >>> (8*i))
 sQ:∃ v,ae 3=v/\cf 1 b7 l l1 v (pE n.toNat i) (decide (i=0))
structure Y4 (l1:am) (v:U) (n:Q) (k i:Nat) (ae:a7) (b5:am) :Prop where
 a8:ae 3=v
 bc:ae 5=.int .i64 ((k:Int) - 1 - i)
 sQ:∃ w,ae 4=w/\cf 1 b7 l1 b5 w (BitVec.ofNat 8 (247+k) ::((pE n.toNat k).reverse.take i)) false
theorem wz (n:Q) {l:am} {K:U->am->Prop} (aV:∀ v l',cf 1 b7 l l' v (et n.toNat) false->K v l') :
  c7 Tryz.prog GS 127 [c4 n] l (c:=⟨K⟩) :=by
 apply bj Tryz.func127 [];have ca:((u n:Int)<=247)<->n.toNat<=247:=by unfold u; omega
 by_cases h:n.toNat<=247
 ·have vR:et n.toNat=[n.setWidth 8] :=by
   unfold et; rw[if_pos h]; rfl
  simp[ca,h];exact aV _ _ ⟨l.length,o5 (n:=1) (a:=et n.toNat) (by rw[vR]; rfl) (by rw[vR]; simp),by simp,fun b ag=>ats ag,.inr (att _),rfl⟩
 ·have adK:=n.isLt;have hk:=GZ n.toNat
  simp[ca,h];refine cF (kN n.toNat) (Y3 l n) ?_ ⟨by simp,.a1,by simp,cf.nil⟩;rintro i ae l1 av ⟨b8,v,a8,en⟩;obtain⟨ae,rfl⟩:=qu b8 a8;clear b8 a8;have aw:=akj (n:=n.toNat) (k:=i) (by omega) (by omega) av;have kH:((0:Int)<u (n >>> (8*i)))<->¬ i=kN n.toNat:=by
   rw[<-aw]; unfold u; rw[auf]; generalize n.toNat >>> (8*i)=q; omega
  by_cases kE:i=kN n.toNat
  ·obtain⟨k,oM⟩:∃ k,kN n.toNat=k:=⟨_,rfl⟩
   rw[oM] at kE kH hk;subst kE;have ae0:et n.toNat=BitVec.ofNat 8 (247+i) ::(pE n.toNat i).reverse:=by
    unfold et; rw[if_neg h,oM,XU]; rfl
   have bh:=en.len;rw[zq] at bh;have bW:IntKind.i64.wrap (247+(i:Int))=((247+i:Nat) :Int) :=by rw[wrap_i64 (by omega) (by omega)]; omega
   have w2:IntKind.i64.wrap ((i:Int) - 1)=(i:Int) - 1:=wrap_i64 (by omega) (by omega);have f1:(et n.toNat)=BitVec.ofNat 8 (247+i) ::(pE n.toNat i).reverse.take i:=by rw[ae0,atr (by rw[List.length_reverse,zq]; omega)]
   simp[kH,bh,bW,w2,-Int.natCast_add];refine cF i (Y4 l1 v n i) ?_ ⟨by simp,by simp,_,by simp,⟨l1.length,o5 (n:=1) (a:=[BitVec.ofNat 8 (247+i)]) rfl (by simp),by simp,fun b ag=>ats ag,.inr (att _),rfl⟩⟩;rintro j ae b5 ai ⟨a8,bc,w,bu,uE⟩;have p7:=en.frame uE.le uE.same;obtain⟨ae,rfl⟩:=kq a8 bu bc;clear a8 bu bc;by_cases nS:j=i
   ·have pW:¬ (j:Int)<=(i:Int) - 1:=by omega
    rw[nS,<-f1] at uE;simp[pW];exact aV _ _ (uE.base en.le en.same)
   ·have zT:(j:Int)<=(i:Int) - 1:=by omega
    have vK:((i:Int) - 1 - j)=((i - 1 - j:Nat) :Int) :=by omega
    have ef:IntKind.i64.wrap ((i:Int) - 1 - j - 1)=(i:Int) - 1 - (j+1:Nat) :=by rw[wrap_i64 (by omega) (by omega)]; omega
    obtain⟨p,cs,o,q1,gn,kP⟩:=cf.get p7 (k:=.i64) (Rw n.toNat i (i - 1 - j) (by omega));rw[<-vK] at q1;have af:(pE n.toNat i).reverse[j]? = some (lx n.toNat (i - 1 - j)) :=by
     rw[List.getElem?_reverse (by rw[zq]; omega),zq,Rw _ _ _ (by omega)]
    have vO:=zq n.toNat i;obtain⟨w',l',aS,aX⟩:=cf.push uE (lx n.toNat (i - 1 - j)) (by simp; omega);simp[zT,q1,gn,kP,aS];refine c0.cq ?_;simp[ef];exact⟨by omega,by simp,by simp,w',by simp,by rw[atJ,af]; simpa using aX⟩
  ·have xI:=zq n.toNat i;obtain⟨aY,l',aS,aX⟩:=cf.push en (lx n.toNat i) (by omega);rw[<-aa0] at aX;have aZ:cm .quo .u64 (u (n >>> (8*i))) .u64 256=some (c4 (n >>> (8*(i+1)))) :=by rw[aiW,ahQ]
   simp[kH,kE,ajH,aZ,ahu,aS];refine c0.cq ?_;simp[aZ];exact⟨by omega,by simp,aY,by simp,by simpa using aX⟩
end Op

end Go.b2

namespace Go.b2
open Go Go.Proofs
set_option maxRecDepth 100000
namespace Op
open gh
def mH (n:Int) :Q:=if 0<=n then BitVec.ofNat 64 (2*n.toNat) else BitVec.ofNat 64 (2*(-(n+1)).toNat+1)
theorem amk (n:Int) (h1:-9223372036854775808<=n) (ad:n<9223372036854775808) {l:am} {K:U->am->Prop} (aV:∀ v l',cf 1 b7 l l' v (et (mH n).toNat) false->K v l') :
  c7 Tryz.prog GS 243 [.int .i64 n] l (c:=⟨K⟩) :=by
 apply bj Tryz.func243 [];have aQ:cm .shl .u64 (u (BitVec.ofInt 64 n)) .u64 1=some (.int .u64 (u (BitVec.ofInt 64 n <<< 1))) :=OU _ .u64 1;have bF:cm .shr .i64 n .u64 63=some (.int .i64 (if 0<=n then 0 else -1)) :=by
  show (if (63:Int)<0 then none else some (U.int .i64 (n.fdiv (2 ^ min (63:Int).toNat 64))))=_;rw[if_neg (by omega)];congr 2;have:(2:Int) ^ min (63:Int).toNat 64=9223372036854775808:=by decide
  rw[this,Int.fdiv_eq_ediv_of_nonneg _ (by omega)];split<;>omega
 have aw:BitVec.ofInt 64 n <<< 1 ^^^ BitVec.ofInt 64 (if 0<=n then 0 else -1)=mH n:=by
  unfold mH;by_cases h:0<=n
  ·rw[if_pos h,if_pos h];obtain⟨m,rfl⟩:=auY h;rw[auX,auq];have:BitVec.ofInt 64 (0:Int)=0#64:=rfl;rw[this,BitVec.xor_zero];apply atH;rw[avr,atK,atK,au6];omega
  ·rw[if_neg h,if_neg h];obtain⟨m,hm⟩:=auY (show 0<=-(n+1) by omega);have aC:n=-((m:Int)+1) :=by omega
   have aS:BitVec.ofInt 64 (-1:Int)=BitVec.allOnes 64:=by decide
   have aX:BitVec.ofInt 64 n = ~~~ BitVec.ofNat 64 m:=by
    apply atH;rw[aC,BitVec.toNat_ofInt,awq,atK];omega
   have iY:m<9223372036854775808:=by omega
   rw[aS,aX,BitVec.xor_allOnes,hm,auq];apply atH;rw[awq,avr,awq,atK,atK,au6];omega
 simp[aQ,bF,aw];refine yS _ fun v l' h=>?_
 simp;exact aV v l' h
theorem ajh (n:Int) (h1:-9223372036854775808<=n) (ad:n<9223372036854775808) {l:am} {K:U->am->Prop} (aV:∀ v l',cf 1 b7 l l' v (et (mH n).toNat) false->K v l') :
  c7 Tryz.prog GS 225 [.int .i64 n] l (c:=⟨K⟩) :=by
 apply bj Tryz.func225 [];by_cases h:0<=n
 ·obtain⟨m,rfl⟩:=auY h;have aw:2#64*BitVec.ofNat 64 m=mH m:=by
   unfold mH; rw[if_pos h,auq];apply atH;simp only[avf,atK];omega
  simp[aw];refine wz _ fun v l' h=>?_
  simp;exact aV v l' h
 ·have bW:IntKind.i64.wrap (n+1)=n+1:=wrap_i64 (by omega) (by omega);have w2:IntKind.i64.wrap (0 - (n+1))=0 - (n+1) :=wrap_i64 (by omega) (by omega);have w2:IntKind.i64.wrap (-(n+1))=-(n+1) :=wrap_i64 (by omega) (by omega);have aw:2#64*BitVec.ofInt 64 (-(n+1))+1#64=mH n:=by
   obtain⟨m,hm⟩:=auY (show 0<=-(n+1) by omega);unfold mH; rw[if_neg h,hm,auq,auX];apply atH;simp only[avf,atK,awo];omega
  simp[h,bW,w2,aw];refine wz _ fun v l' h=>?_
  simp;exact aV v l' h
def iI (s:List B) :List B:=et s.length++s
theorem hZ (n:Nat) :(et n).length<=9:=by
 unfold et;have:=(GZ n).2;split
 ·simp
 ·simp[Np]; omega
theorem abV (s:List B) :(s.map b7).flatten=s.map bB:=xi s
theorem Rq (l:am) (s:eI) :dp l 1 (cB s)=some ((s.l.map b7).flatten,s.l.length) :=BM l 1 b7 s
theorem Yr (s:eI) (al:s.l.length<=10000) {x:U} {l:am} (af:dp l 1 x=some ((s.l.map b7).flatten,s.l.length)) (bh:cP (.au 1) x=some (.int .i64 s.l.length)) (cw:∀ l',l.length<=l'.length->(∀ b,b<l.length->l'[b]? = l[b]?)->dp l' 1 x=some ((s.l.map b7).flatten,s.l.length))
  {K:U->am->Prop} (aV:∀ v l',cf 1 b7 l l' v (iI s.l) false->K (.bG [v,.int .i64 0]) l') :c7 Tryz.prog GS 201 [x] l (c:=⟨K⟩) :=by
 apply bj Tryz.func201 [];have h1:¬ ((10000:Int)<s.l.length) :=by omega
 have ax:ct=140737488355328:=rfl;simp[bh,h1];refine yS _ fun v l' h=>?_
 have aC:(BitVec.ofNat 64 s.l.length).toNat=s.l.length:=by rw[atK]; exact atD (by omega)
 rw[aC] at h;have nf:=hZ s.l.length;obtain⟨aY,b5,aS,aX,_⟩:=h.app (by_:=1) (x:=x) (xs:=s.l) (cw l' h.le h.same) (by simp[b7]) (by omega) (by omega) (by rw[ax]; omega);simp[aS];refine c0.cq ?_;simp;exact aV aY b5 (by simpa [iI] using aX)
theorem WQ (s:eI) (al:s.l.length<=10000) {x:U} {l:am} (af:dp l 1 x=some ((s.l.map b7).flatten,s.l.length)) (bh:cP (.au 1) x=some (.int .i64 s.l.length)) (cw:∀ l',l.length<=l'.length->(∀ b,b<l.length->l'[b]? = l[b]?)->dp l' 1 x=some ((s.l.map b7).flatten,s.l.length))
  {K:U->am->Prop} (aV:∀ v l',cf 1 b7 l l' v (iI s.l) false->K v l') :c7 Tryz.prog GS 172 [x] l (c:=⟨K⟩) :=by
 apply bj Tryz.func172 [];have ax:ct=140737488355328:=rfl;simp[bh];refine wz _ fun v l' h=>?_
 have aC:(BitVec.ofNat 64 s.l.length).toNat=s.l.length:=by rw[atK]; exact atD (by omega)
 rw[aC] at h;have nf:=hZ s.l.length;obtain⟨aY,b5,aS,aX,_⟩:=h.app (by_:=1) (x:=x) (xs:=s.l) (cw l' h.le h.same) (by simp[b7]) (by omega) (by omega) (by rw[ax]; omega);simp[aS];refine c0.cq ?_;simp;exact aV aY b5 (by simpa [iI] using aX)
def aR (i:List B) :List U:=i.map bB
abbrev fq:=dR (List B)
def aU (s:fq) :U:=cK 32 aR s
def h0 (s:fq) :Prop:=∀ i∈s.l,i.length=32
theorem g6 (i:List B) :bm (aR i)=true:=l6 bB (fun _=>rfl) _
theorem gM (s:fq) :(aU s).closed=true:=vj g6 s
theorem Rf:∀ a b:List B,a.length=b.length->nI (a.map fun x=>UInt8.ofNat x.toNat) (b.map fun x=>UInt8.ofNat x.toNat)=cl a b
 | [],[],_=>rfl
 | [],_::_,h=>by simp at h
 | _::_,[],h=>by simp at h
 | x::a,y::b,h=>by
  have aH:=Rf a b (by simpa using h);have af:=x.isLt;have az:=y.isLt;rw[Re];simp only[atY,nI,aH];have aQ:(UInt8.ofNat x.toNat=UInt8.ofNat y.toNat)<->x.toNat=y.toNat:=by
   constructor
   ·intro h;have:=congrArg UInt8.toNat h;simp only[UInt8.toNat_ofNat'] at this;omega
   ·intro h; rw[h]
  have bF:(UInt8.ofNat x.toNat<UInt8.ofNat y.toNat)<->x.toNat<y.toNat:=by
   rw[UInt8.lt_iff_toNat_lt]; simp only[UInt8.toNat_ofNat'];rw[atD (by omega),atD (by omega)]
  by_cases h1:x.toNat=y.toNat
  ·rw[if_pos (aQ.2 h1),if_neg (by omega),if_neg (by omega)]
  ·rw[if_neg (fun h=>h1 (aQ.1 h))];by_cases ad:x.toNat<y.toNat
   ·rw[if_pos (bF.2 ad),if_pos ad]
   ·rw[if_neg (fun h=>ad (bF.1 h)),if_neg ad,if_pos (by omega)]
@[simp ↓] theorem arH {P:Program} {aA:Operand->U} {l:am} (f:FuncId) (r7 x y:Operand) :bO P aA l (.cl f r7 x y)=(match C5 f (aA r7) with | true=>dv l (cmpL l (aA x) (aA y)) | false=>none) :=id rfl
@[simp ↓] theorem aqN (f:FuncId) (r7 x y:Operand) (v:U) (l:am) (K:U->am->Prop) :er (.cl f r7 x y) v l K=K v l:=id rfl
@[simp] theorem ap2 (f:FuncId) :C5 f (.fn f [] [])=true:=awj f
theorem OX:∀ a:List B,mP (a.map bB)=some (a.map fun x=>UInt8.ofNat x.toNat)
 | []=>rfl
 | x::a=>by
  simp only[atY,mP,OX a,atA];simp[u]
theorem OY (l:am) (s:eI) :ow l (cB s)=some (s.l.map fun x=>UInt8.ofNat x.toNat) :=by
 have h:=Rq l s;rw[abV] at h;cases s with
 | none=>simp[ow,cK,dp,mP]
 | some a=>
  unfold ow;simp only[cK];have ad:dp l 1 (U.bD 1 (a.map b7))=some (a.map bB,a.length) :=h;rw[ad];exact OX a
theorem Eo (a b:eI) (h:a.l.length=b.l.length) :bw Tryz.prog GS 106 [cB a,cB b] (.int .i64 (cl a.l b.l)) :=by
 refine bP Tryz.checked.mixed bC ?_;apply acp Tryz.func106 [];have ah:cmpL [] (cB a) (cB b)=some (.int .i64 (cl a.l b.l)) :=by
  unfold cmpL;rw[OY,OY];simp only[Rf _ _ h]
 simp[ah];exact aP rfl rfl
theorem DU {n b:Nat} (ew:0<n) :gg (.arr n 1) (.ptr b 0 n) none none none=some (.au 1 b 0 n n n) :=by
 have:gv n n none none none=some (0,n,n) :=rfl;simp only[gg,this];rw[if_pos (by omega),if_neg (by omega)];simp
theorem zl (a b:List B) (aB:a.length=32) (ag:b.length=32) :bw Tryz.prog GS 149 [fM a,fM b] (.int .i64 (cl a b)) :=by
 refine bP Tryz.checked.mixed bC ?_;apply bj Tryz.func149 [];have al:=DU (n:=32) (b:=1) (by omega);have CQ:=DU (n:=32) (b:=0) (by omega);simp[fM,aB,ag,al,CQ];have ah:=Eo (some a) (some b) (by simp[aB,ag]);refine ie ah ?_ rfl ?_
 ·exact .cons ((o5 (j:=0) aB rfl).nr (fun _=>rfl) (some a) rfl rfl) (.cons ((o5 (j:=1) ag rfl).nr (fun _=>rfl) (some b) rfl rfl) .nil)
 ·simp;exact aP rfl rfl
theorem ajy (a b:List B) (aB:a.length=32) (ag:b.length=32) :bw Tryz.prog GS 107 [fM a,fM b] (.int .i64 (cl a b)) :=by
 refine bP Tryz.checked.mixed bC ?_;apply bj Tryz.func107 [];obtain⟨A,cz⟩:∃ A,A=a.map bB:=⟨_,rfl⟩
 obtain⟨C,nQ⟩:∃ C,C=b.map bB:=⟨_,rfl⟩
 have kB:A.length=32:=by rw[cz,atU,aB]
 have Fh:C.length=32:=by rw[nQ,atU,ag]
 unfold fM;rw[<-cz,<-nQ];simp[kB,Fh];refine cF 32 (fun k ae l=>ae 2=.ptr 0 0 32/\ae 3=.ptr 1 0 32/\ae 5=.int .i64 k/\l=[.cells 32 A,.cells 32 C]/\∀ j,j<k->a[j]? = b[j]?) ?_ (by simp);rintro k ae l hk ⟨aT,a8,bc,rfl,heq⟩;obtain⟨ae,rfl⟩:=kq aT a8 bc;clear aT a8 bc;have xK:=aaF k heq (by omega) (by omega);by_cases h:(k:Int)<32
 ·have gW:k<32:=by omega
  have e5:IntKind.i64.wrap ((k:Int)+1)=(k+1:Nat) :=wrap_i64 (by omega) (by omega);obtain⟨x,af,_⟩:=bA (l:=a) (k:=k) (by omega);obtain⟨y,az,_⟩:=bA (l:=b) (k:=k) (by omega);have acN:A[k]? = some (bB x) :=by rw[cz,atw,af]; rfl
  have acV:C[k]? = some (bB y) :=by rw[nQ,atw,az]; rfl
  obtain⟨_,Jz⟩:=atq.1 acN;obtain⟨_,JD⟩:=atq.1 acV;have Ka:a.drop k=x::a.drop (k+1) :=by
   obtain⟨h1,ad⟩:=atq.1 af;rw[auo h1,ad]
  have adW:b.drop k=y::b.drop (k+1) :=by
   obtain⟨h1,ad⟩:=atq.1 az;rw[auo h1,ad]
  rw[Ka,adW,Re] at xK;have ig:((u x:Int)<u y)<->x.toNat<y.toNat:=by unfold u; omega
  have jU:((u y:Int)<u x)<->y.toNat<x.toNat:=by unfold u; omega
  by_cases ca:x.toNat<y.toNat
  ·rw[if_pos ca] at xK;have Ew:x<y:=ca;simp[h,gW,kB,Fh,Jz,JD,Ew];exact aP (by rw[<-xK]) rfl
  ·have Ew:¬ x<y:=ca;rw[if_neg ca] at xK;by_cases cy:y.toNat<x.toNat
   ·rw[if_pos cy] at xK;have ID:y<x:=cy;simp[h,gW,kB,Fh,Jz,JD,Ew,ID];exact aP (by rw[<-xK]) rfl
   ·have ID:¬ y<x:=cy;simp[h,gW,kB,Fh,Jz,JD,Ew,ID,e5];intro j ai;by_cases fQ:j=k
    ·subst fQ;rw[af,az];have:x=y:=atH (by omega);rw[this]
    ·exact heq j (by omega)
 ·have eK:k=32:=by omega
  subst eK;have:cl a b=0:=by
   rw[<-xK,auN (by omega),auN (by omega)]; rfl
  simp;exact aP (by rw[this]) rfl
abbrev bV (l:List (List B)) (k:Nat) :List B:=l.getD k []
def dN (l:List (List B)) :Bool:=decide (∀ k,k<l.length->1<=k->cl (bV l (k - 1)) (bV l k)<0)
def yL (l:List (List B)) :Bool:=decide (∀ k,k<l.length->1<=k->¬ cl (bV l k) (bV l (k - 1))<0)
theorem fr {l:List (List B)} {k:Nat} {x:List B} (h:l[k]? = some x) :bV l k=x:=by
 unfold bV; rw[atE,h]; rfl
theorem MM {l:List (List B)} (h:∀ k,k<l.length->1<=k->cl (bV l (k - 1)) (bV l k)<0) :dN l=true:=decide_eq_true h
theorem Xb {l:List (List B)} {k:Nat} (hk:k<l.length) (h1:1<=k) (h:¬ cl (bV l (k - 1)) (bV l k)<0) :dN l=false:=decide_eq_false fun aG=>h (aG k hk h1)
theorem XB {l:List (List B)} (h:∀ k,k<l.length->1<=k->¬ cl (bV l k) (bV l (k - 1))<0) :yL l=true:=decide_eq_true h
theorem akK {l:List (List B)} {k:Nat} (hk:k<l.length) (h1:1<=k) (h:cl (bV l k) (bV l (k - 1))<0) :yL l=false:=decide_eq_false fun aG=>aG k hk h1 h
theorem cQ {x:List B} (h:x.length=32) :(aR x).length=32:=by simp[aR,h]
theorem WO (a:fq) (aB:h0 a) (ak:a.l.length<=1000000) :bw Tryz.prog GS 61 [aU a] (.bool (dN a.l)) :=by
 refine bP Tryz.checked.mixed bC ?_;apply bj Tryz.func61 [];simp[aU];refine cF (a.l.length - 1) (fun k ae l=>ae 0=cK 32 aR a/\ae 3=.int .i64 ((k+1:Nat) :Int)/\∀ j,j<k+1->j<a.l.length->1<=j->cl (bV a.l (j - 1)) (bV a.l j)<0) ?_ ⟨by simp[aU],by simp,fun j h1 _ ad=>by omega⟩;rintro k ae l hk ⟨b8,a8,al⟩;obtain⟨s,rfl⟩:=qu b8 a8;clear b8 a8;obtain⟨m,hm⟩:∃ m,m=k+1:=⟨_,rfl⟩
 rw[<-hm] at al ⊢;simp;refine kk (fun h=>?_) (fun h=>?_)
 ·simp only[decide_eq_true_eq] at h;have aK:m<a.l.length:=by omega
  obtain⟨x,af,cX⟩:=bA (l:=a.l) (k:=k) (by omega);obtain⟨y,az,cO⟩:=bA aK;have aQ:IntKind.i64.wrap ((m:Int) - 1)=(k:Int) :=by rw[IntKind.wrap_i64]; omega
  have bF:IntKind.i64.wrap ((m:Int)+1)=((m+1:Nat) :Int) :=by rw[IntKind.wrap_i64]; omega
  have gd:=fr af;have o0:=fr az;simp[aQ,af,az,cQ (aB x cX),cQ (aB y cO),atr];refine bf (ajy x y (aB x cX) (aB y cO)) (by simp[bm,g6,U.closed,fM]) ?_;by_cases ah:cl x y<0
  ·have e3:¬ (0<=cl x y) :=by omega
   simp[e3,bF];refine⟨by omega,fun j h1 ad aj=>?_⟩;have ej:cl (bV a.l (j - 1)) (bV a.l j)<0:=by
    by_cases ai:j=m
    ·rw[ai,show m - 1=k by omega,gd,o0]; exact ah
    ·exact al j (by omega) ad aj
   simpa [bV] using ej
  ·have e3:0<=cl x y:=by omega
   simp[e3];refine aP (congrArg U.bool (Xb (k:=m) aK (by omega) ?_).symm) rfl;rw[show m - 1=k by omega,gd,o0];exact ah
 ·simp[h];exact aP (congrArg U.bool (MM fun j h1 ad=>al j (by simp at h; omega) h1 ad).symm) rfl
theorem Jf:je Tryz.prog 149=true:=by kernel_rfl
theorem agD (a:fq) (aB:h0 a) (ak:a.l.length<=1000000) :bw Tryz.prog GS 197 [aU a,.fn 149 [] []] (.bool (yL a.l)) :=by
 refine bP Tryz.checked.mixed bC ?_;apply bj Tryz.func197 [];have gw:IntKind.i64.wrap ((a.l.length:Int) - 1)=(a.l.length:Int) - 1:=by rw[IntKind.wrap_i64]; omega
 simp[aU,gw];refine cF (a.l.length - 1) (fun k ae l=>ae 0=cK 32 aR a/\ae 1=.fn 149 [] []/\ae 5=.int .i64 ((a.l.length:Int) - 1 - k)/\∀ j,j<a.l.length->a.l.length - 1 - k<j->¬ cl (bV a.l j) (bV a.l (j - 1))<0) ?_ ⟨by simp[aU],by simp,by simp,fun j h1 ad=>by omega⟩;rintro k ae l hk ⟨b8,aL,bc,al⟩;obtain⟨s,rfl⟩:=kq b8 aL bc;clear b8 aL bc;simp;refine kk (fun h=>?_) (fun h=>?_)
 ·simp only[decide_eq_true_eq] at h;obtain⟨m,hm⟩:∃ m,m+k+2=a.l.length:=⟨a.l.length - 2 - k,by omega⟩
  have aQ:((a.l.length:Int) - 1 - k)=((m+1:Nat) :Int) :=by omega
  rw[aQ];obtain⟨x,af,cX⟩:=bA (l:=a.l) (k:=m+1) (by omega);obtain⟨y,az,cO⟩:=bA (l:=a.l) (k:=m) (by omega);obtain⟨n,aC⟩:∃ n,n=m+1:=⟨_,rfl⟩
  rw[<-aC] at af ⊢;have bF:IntKind.i64.wrap ((n:Int) - 1)=(m:Int) :=by rw[IntKind.wrap_i64]; omega
  have gd:=fr af;have o0:=fr az;simp[bF,af,az,cQ (aB x cX),cQ (aB y cO),atr];refine⟨Jf,bf (zl x y (aB x cX) (aB y cO)) (by simp[bm,g6,U.closed,fM]) ?_⟩;by_cases ah:cl x y<0
  ·simp[ah];refine aP (congrArg U.bool (akK (k:=n) (by omega) (by omega) ?_).symm) rfl;rw[show n - 1=m by omega,gd,o0];exact ah
  ·simp[ah,bF];refine⟨by omega,by omega,fun j h1 ad=>?_⟩;have ej:¬ cl (bV a.l j) (bV a.l (j - 1))<0:=by
    by_cases ai:j=n
    ·rw[ai,show n - 1=m by omega,gd,o0]; exact ah
    ·exact al j h1 (by omega)
   simpa [bV] using ej
 ·simp[h];exact aP (congrArg U.bool (XB fun j h1 ad=>al j h1 (by simp at h; omega)).symm) rfl
def zs (l:List (List B)) (k:Nat) :Bool:=decide (k+1<l.length)&&decide (0<=cl (bV l k) (bV l (k+1)))
theorem Xa {l:List (List B)}:dN l=true<->∀ k,k<l.length->zs l k=false:=by
 unfold dN zs;rw[decide_eq_true_eq];constructor
 ·intro h k hk;by_cases h1:k+1<l.length
  ·have:=h (k+1) h1 (by omega);rw[avp] at this;rw[decide_eq_false (p:=0<=_) (by omega),Bool.and_false]
  ·simp[h1]
 ·intro h k hk h1;have:=h (k - 1) (by omega);rw[show k - 1+1=k by omega] at this;rw[decide_eq_true hk,auu,decide_eq_false_iff_not] at this;omega
theorem ajQ (a:fq) (aB:h0 a) (ak:a.l.length<=1000000) (k:Nat) (hk:k<a.l.length) (x:List B) (af:x.length=32) (r:am) {K:U->am->Prop}
  (aV:∀ cr,K (.bool (zs a.l k)) (.cells 1 [aU a] ::.cells 1 [.int .i64 ((k+1:Nat) :Int)] ::cr)) :
  c7 Tryz.prog GS 261 [fM x,.ptr 1 0 1,.ptr 0 0 1] (.cells 1 [aU a] ::.cells 1 [.int .i64 (k:Int)] ::r) (c:=⟨K⟩) :=by
 apply bj Tryz.func261 [];have aQ:IntKind.i64.wrap ((k:Int)+1)=((k+1:Nat) :Int) :=by rw[IntKind.wrap_i64]; omega
 obtain⟨m,hm⟩:∃ m,m=k+1:=⟨_,rfl⟩
 rw[<-hm] at aQ aV;have bF:IntKind.i64.wrap ((m:Int) - 1)=(k:Int) :=by rw[IntKind.wrap_i64]; omega
 unfold zs at aV;rw[<-hm] at aV;obtain⟨y,az,cO⟩:=bA hk;by_cases h:m<a.l.length
 ·obtain⟨z,aw,sD⟩:=bA h;have o0:=fr az;have agF:=fr aw;rw[o0,agF] at aV;have h' : (m:Int)<(a.l.length:Int) :=by omega
  have p8:a.l[m]=z:=(atq.1 aw).2;simp[fM,aU,aQ,bF,h,h',az,p8,cQ (aB y cO),cQ (aB z sD),atr];refine bf (zl y z (aB y cO) (aB z sD)) (by simp[bm,g6,U.closed,fM]) ?_;have:=aV (r++[a2.cells x.length (List.map bB x)]);simpa [h,aU] using this
 ·have h' : ¬ (m:Int)<(a.l.length:Int) :=by omega
  simp[fM,aU,aQ,bF,h,h'];have:=aV (r++[a2.cells x.length (List.map bB x)]);simpa [h,aU] using this
theorem abZ:je Tryz.prog 261=true:=by kernel_rfl
theorem ajS (a:fq) (aB:h0 a) (ak:a.l.length<=1000000) {K:U->am->Prop} (aV:∀ n cr,(n<0<->dN a.l=true)->K (.int .i64 n) cr) :
  c7 Tryz.prog GS 117 [aU a,.fn 261 [] [.ptr 1 0 1,.ptr 0 0 1]] [.cells 1 [aU a],.cells 1 [.int .i64 0]] (c:=⟨K⟩) :=by
 apply bj Tryz.func117 [];simp[aU];refine cF a.l.length (fun k ae l=>ae 0=cK 32 aR a/\ae 1=.fn 261 [] [.ptr 1 0 1,.ptr 0 0 1]/\ae 7=.int .i64 a.l.length/\ae 8=.int .i64 k/\(∃ r,l=.cells 1 [aU a] ::.cells 1 [.int .i64 (k:Int)] ::r)/\∀ j,j<k->zs a.l j=false) ?_ ⟨by simp[aU],by simp,by simp,by simp,⟨[],by simp[aU]⟩,fun j h=>by omega⟩;rintro k ae l hk ⟨b8,aL,ei,eu,⟨r,rfl⟩,al⟩;obtain⟨s,rfl⟩:=iv b8 aL ei eu;clear b8 aL ei eu;simp;refine kk (fun h=>?_) (fun h=>?_)
 ·simp only[decide_eq_true_eq] at h;obtain⟨x,af,cX⟩:=bA (l:=a.l) (k:=k) (by omega);have aQ:IntKind.i64.wrap ((k:Int)+1)=((k+1:Nat) :Int) :=by rw[IntKind.wrap_i64]; omega
  simp[af,cQ (aB x cX),atr];refine⟨abZ,ajQ a aB ak k (by omega) x (aB x cX) r fun cr=>?_⟩;cases bq:zs a.l k with
  | true=>
   simp;refine aV _ _ ⟨fun aC=>by omega,fun ax=>?_⟩;have:=Xa.1 ax k (by omega);rw[bq] at this; cases this
  | false=>
   simp[aQ];refine⟨by omega,fun j ai=>?_⟩;by_cases fQ:j=k
   ·subst fQ; exact bq
   ·exact al j (by omega)
 ·simp[h];refine aV _ _ ⟨fun _=>Xa.2 fun j ai=>al j (by simp at h; omega),fun _=>by omega⟩
theorem ajR (a:fq) (aB:h0 a) (ak:a.l.length<=1000000) {K:U->am->Prop} (aV:∀ cr,K (.bool (!dN a.l)) cr) :
  c7 Tryz.prog GS 71 [aU a,.fn 261 [] [.ptr 1 0 1,.ptr 0 0 1]] [.cells 1 [aU a],.cells 1 [.int .i64 0]] (c:=⟨K⟩) :=by
 apply bj Tryz.func71 [];simp;refine ajS a aB ak fun n cr aC=>?_
 have e:decide (0<=n)=!dN a.l:=by
  cases ax:dN a.l with
  | true=>have:=aC.2 ax; simp; omega
  | false=>
   have:¬ n<0:=fun h=>by have:=aC.1 h; rw[ax] at this; cases this
   simp; omega
 simp[e];exact aV cr
theorem ajT (a:fq) (aB:h0 a) (ak:a.l.length<=1000000) :bw Tryz.prog GS 242 [aU a] (.bool (dN a.l)) :=by
 refine bP Tryz.checked.mixed bC ?_;apply bj Tryz.func242 [];have ah:(aU a).cells=some [aU a] :=by cases a<;>rfl
 simp[ah];refine ajR a aB ak fun cr=>?_
 simp;exact aP rfl rfl
end Op

end Go.b2

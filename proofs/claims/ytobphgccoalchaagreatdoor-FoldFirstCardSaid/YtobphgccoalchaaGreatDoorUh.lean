/-
  The reference of SHA-256, walked: Ground.
-/
import Derived.Test.YtobphgccoalchaaGreatDoorUg
import Derived.LaidMore
import Derived.MakeChecks
import Derived.Lib.DecodeN
set_option linter.unusedVariables false
set_option linter.unusedSimpArgs false
set_option linter.unnecessarySimpa false
namespace Go.cb
open Go Go.Proofs
set_option maxRecDepth 100000
namespace gT
theorem aat {l:am} {v:U} {j:Nat} {hn:List W} (h:bH 1 l v j (hn.map e5)) (au:cw v=false) :∃ (cap sz:Nat) (cs:List U),v=.ar 1 j 0 hn.length cap sz/\l[j]? = some (.cells sz cs)/\∀ (i:Nat) (x:W),hn[i]? = some x->cs[i]? = some (bD x) :=by
 obtain⟨n,cap,sz,cs,h1,ad,aj,aE,aX,bw,_⟩:=h.view au;rw[av8] at aE;subst aE;refine⟨cap,sz,cs,h1,ad,fun i x af=>?_⟩;have:=bw i (e5 x) (by rw[avV,af]; rfl) 0 (by omega);simpa [e5] using this
theorem ao9 (b:List B) (k:Nat) (hk:k<16) :(fO b).take (k+1)=(fO b).take k++[p4 ((b.drop (4*k)).take 4)] :=by
 have:(fO b)[k]? = some (p4 ((b.drop (4*k)).take 4)) :=by unfold fO; rw[avV,awr hk]; rfl
 rw[av7,this]; rfl
theorem ao7 (b:List B) :(fO b).length=16:=by simp[fO]
theorem adV (k:Nat) (b:List B) :(iS k (fO b)).length=16+k:=by simp[yn,fO]
set_option maxHeartbeats 16000000 in
theorem aeQ (h:cp) (b:List B) (ag:64<=b.length) :bz Tryz.prog GS 174 [.aH (h.l.map bD),cS (some b)] (.aH ((grind h b).l.map bD)) :=by
 have l9:cy=140737488355328:=rfl;have Vq:(h.l.map bD).length=8:=rfl;refine bL Tryz.checked.mixed bE ?_;apply bp Tryz.func174 [[],[],[[0],[1],[2],[3],[4],[5],[6],[7],[8],[9],[10],[11],[12],[14],[17],[18],[21],[23],[26],[27],[13,10,5],[15,10,5],[16],[19],[20],[22,10,5],[24,10,5],[25]],[],[[0],[1],[2],[4],[7],[11],[12],[13],[14],[15],[16],[17],[18],[20],[21],[22],[23],[25],[26],[27],[28],[3,28,23,1],[5,28,23,1],[6],[8,28,23,1],[9],[10],[19],[24]]];simp[Vq];refine cI 16 (fun k ae l=>ae 1=cS (some b)/\ae 2=.ptr 0 0 8/\ae 4=.ptr 1 0 8/\ae 6=.int .i64 k/\∃ v j ho rest,ae 5=v/\(cw v=true->k=0)/\(v=.aT\/2<=j)/\bH 1 l v j (((fO b).take k).map e5)/\l=.cells 8 (h.l.map bD) ::.cells 8 ho::rest/\ho.length=8) ?_ ?_
 ·rintro k ae l hk ⟨aP,aU,bA,b8,v,j,ho,rest,bi,au,ai,ap,rfl,ka⟩;obtain⟨ae,rfl⟩:=lj aP aU bA bi b8;clear aP aU bA bi b8;by_cases VB:(k:Int)<16
  ·have fe:k<16:=by omega
   obtain⟨a,aA⟩:∃ a,a=4*k:=⟨_,rfl⟩
   have kk:IntKind.i64.wrap (4*(k:Int))=(a:Nat) :=by rw[wrap_i64 (by omega) (by omega)]; omega
   obtain⟨aV,Lw⟩:∃ x,x=a+1:=⟨_,rfl⟩
   obtain⟨a1,afJ⟩:∃ x,x=a+2:=⟨_,rfl⟩
   obtain⟨a3,afK⟩:∃ x,x=a+3:=⟨_,rfl⟩
   have b2:IntKind.i64.wrap ((a:Int)+1)=aV:=by rw[wrap_i64 (by omega) (by omega)]; omega
   have w2:IntKind.i64.wrap ((a:Int)+2)=a1:=by rw[wrap_i64 (by omega) (by omega)]; omega
   have eh:IntKind.i64.wrap ((a:Int)+3)=a3:=by rw[wrap_i64 (by omega) (by omega)]; omega
   have lm:IntKind.i64.wrap ((k:Int)+1)=k+1:=wrap_i64 (by omega) (by omega);obtain⟨hr,j5⟩:∃ x,b[a]? = some x:=⟨_,avS (by omega)⟩
   obtain⟨de,gY⟩:∃ x,b[aV]? = some x:=⟨_,avS (by omega)⟩
   obtain⟨df,gb⟩:∃ x,b[a1]? = some x:=⟨_,avS (by omega)⟩
   obtain⟨fw,rL⟩:∃ x,b[a3]? = some x:=⟨_,avS (by omega)⟩
   have bN:∀ (i:Nat) (x:B),b[i]? = some x->ck (.ar 1) (cS (some b)) (.int .i64 i)=some (.b3 (ch x) 0) :=fun i x af=>by rw[r1]; simp[af]
   have xa:=bN a hr j5;have ev:=bN aV de gY;have e9:=bN a1 df gb;have h7:=bN a3 fw rL;have MU:=ao9 b k fe;rw[ao6 b k hr de df fw (by rw[<-aA]; exact j5) (by rw[<-aA,<-Lw]; exact gY) (by rw[<-aA,<-afJ]; exact gb) (by rw[<-aA,<-afK]; exact rL)] at MU;obtain⟨w,hw⟩:∃ w,w=((hr.setWidth 32*256#32+de.setWidth 32)*256#32+df.setWidth 32)*256#32+fw.setWidth 32:=⟨_,rfl⟩
   rw[<-hw] at MU;have l6:bH 1 ([.cells 8 (h.l.map bD),.cells 8 ho]++(rest++[a7.cells 1 [bD w]])) v j (((fO b).take k).map e5) :=ap.more [a7.cells 1 [bD w]];have hS:(((fO b).take k).map e5).length<=16:=by simp; omega
   obtain⟨aZ,bl,ct,h1,ad,aj,aE⟩:=ux (by_:=4) l6 ai (x:=.ar 1 (rest.length+2) 0 1 1 1) (xs:=[e5 w]) (by simp[dE,e5]) (by simp[e5]) (by omega) (by omega) (by rw[l9]; simp; omega);have gP:bH 1 (.cells 8 (h.l.map bD) ::.cells 8 ho::ct) aZ bl (((fO b).take (k+1)).map e5) :=by rw[MU,awm]; exact ad
   simp only[awN,awI] at h1;have fi:cw aZ=false:=by rw[aE]; simp
   simp[VB,kk,b2,w2,eh,xa,ev,e9,h7,ch];rw[<-hw];simp[h1];refine dp.cx ?_;simp[VB,lm,fe];exact⟨fi,bl,aj,by rw[<-ax6]; exact gP,ka⟩
  ·have fe:k=16:=by omega
   subst fe;have iU:cw v=false:=by
    cases MR:cw v with
    | false=>rfl
    | true=>exact absurd (au MR) (by omega)
   have jJ:2<=j:=by
    rcases ai with h | h
    ·subst h; cases iU
    ·exact h
   have ahx:bH 1 (.cells 8 (h.l.map bD) ::.cells 8 ho::rest) v j ((fO b).map e5) :=by
    have:(fO b).take 16=fO b:=avO (by rw[ao7]; omega);rw[this] at ap; exact ap
   clear au ai ap;simp;refine cI 48 (fun k ae l=>ae 2=.ptr 0 0 8/\ae 4=.ptr 1 0 8/\ae 7=.int .i64 (16+k:Nat)/\∃ v j ho rest,ae 5=v/\cw v=false/\2<=j/\bH 1 l v j ((iS k (fO b)).map e5)/\l=.cells 8 (h.l.map bD) ::.cells 8 ho::rest/\ho.length=8) ?_ ?_
   ·rintro k ae l hk ⟨aU,bA,dk,v,j,ho,rest,bi,au,ai,ap,rfl,ka⟩;obtain⟨ae,rfl⟩:=i0 aU bA bi dk;clear aU bA bi dk;obtain⟨t,aI⟩:∃ t,t=16+k:=⟨_,rfl⟩
    rw[<-aI];by_cases yQ:(t:Int)<64
    ·have j9:IntKind.i64.wrap ((t:Int)+1)=(t+1:Nat) :=wrap_i64 (by omega) (by omega);have al:=adV k b;obtain⟨xb,Kx⟩:∃ i,i=t - 15:=⟨_,rfl⟩
     obtain⟨e9,bJ⟩:∃ i,i=t - 2:=⟨_,rfl⟩
     obtain⟨xc,Gc⟩:∃ i,i=t - 16:=⟨_,rfl⟩
     obtain⟨jO,Ky⟩:∃ i,i=t - 7:=⟨_,rfl⟩
     have Jm:IntKind.i64.wrap ((t:Int) - 15)=xb:=by rw[wrap_i64 (by omega) (by omega)]; omega
     have w2:IntKind.i64.wrap ((t:Int) - 2)=e9:=by rw[wrap_i64 (by omega) (by omega)]; omega
     have Jn:IntKind.i64.wrap ((t:Int) - 16)=xc:=by rw[wrap_i64 (by omega) (by omega)]; omega
     have Fv:IntKind.i64.wrap ((t:Int) - 7)=jO:=by rw[wrap_i64 (by omega) (by omega)]; omega
     obtain⟨hn,zc⟩:∃ hn,hn=iS k (fO b) :=⟨_,rfl⟩
     have y8:=KG k (fO b);rw[<-zc] at al ap y8;have w7:hn.length=t:=by omega
     unfold ext at y8
     dsimp only at y8
     rw[w7,<-Kx,<-bJ,<-Gc,<-Ky] at y8;have ys:∀ i,i<t->hn[i]? = some (hn.getD i 0#32) :=fun i av=>by rw[awe,avS (by omega)]; rfl
     obtain⟨x,af⟩:∃ x,x=hn.getD xb 0#32:=⟨_,rfl⟩
     obtain⟨y,ax⟩:∃ y,y=hn.getD e9 0#32:=⟨_,rfl⟩
     obtain⟨PG,Wv⟩:∃ y,y=hn.getD xc 0#32:=⟨_,rfl⟩
     obtain⟨PH,Ww⟩:∃ y,y=hn.getD jO 0#32:=⟨_,rfl⟩
     rw[<-af,<-ax,<-Wv,<-Ww] at y8;obtain⟨cap,sz,cs,rfl,wZ,cd⟩:=aat ap au;have acy:=cd xb x (by rw[af]; exact ys xb (by omega));have dJ:=cd e9 y (by rw[ax]; exact ys e9 (by omega));have CE:=cd xc PG (by rw[Wv]; exact ys xc (by omega));have CG:=cd jO PH (by rw[Ww]; exact ys jO (by omega));obtain⟨w,hw⟩:∃ w,w=PG+PH+(oy x 7 ^^^ oy x 18 ^^^ x >>> 3)+(oy y 17 ^^^ oy y 19 ^^^ y >>> 10) :=⟨_,rfl⟩
     rw[<-hw] at y8;have l6:bH 1 ([.cells 8 (h.l.map bD),.cells 8 ho]++(rest++[a7.cells 1 [bD w]])) _ j (hn.map e5) :=ap.more [a7.cells 1 [bD w]];obtain⟨aZ,bl,ct,h1,ad,aj,aE⟩:=ux (by_:=4) l6 (.inr ai) (x:=.ar 1 (rest.length+2) 0 1 1 1) (xs:=[e5 w]) (by simp[dE,e5]) (by simp[e5]) (by omega) (by omega) (by rw[l9]; simp; omega);have gP:bH 1 (.cells 8 (h.l.map bD) ::.cells 8 ho::ct) aZ bl ((iS (k+1) (fO b)).map e5) :=by rw[y8,awm]; exact ad
     simp only[awN,awI] at h1;have fi:cw aZ=false:=by rw[aE]; rfl
     obtain⟨kb,rfl⟩:∃ kb,j=kb+2:=⟨j - 2,by omega⟩
     have ti:rest[kb]? = some (.cells sz cs) :=by simpa using wZ
     have yU:(rest++[a7.cells 1 [bD w]])[kb]? = some (.cells sz cs) :=by rw[avQ (eu ti)]; exact ti
     have JY:xb<hn.length:=by omega
     have df:e9<hn.length:=by omega
     have JZ:xc<hn.length:=by omega
     have uy:jO<hn.length:=by omega
     have t7:=uf x 7 (by omega) (by omega);have t18:=uf x 18 (by omega) (by omega);have t17:=uf y 17 (by omega) (by omega);have t19:=uf y 19 (by omega) (by omega);simp at t7 t18 t17 t19;simp[yQ,Jm,w2,Jn,Fv,JY,df,JZ,uy,ti,acy,dJ,CE,CG];refine a6 t7 rfl ?_;simp[ti,CE,CG];refine a6 t18 rfl ?_;simp[ti,CE,CG];refine a6 t17 rfl ?_;simp[ti,CE,CG];refine a6 t19 rfl ?_;simp[ti,CE,CG];rw[<-hw];simp[h1];refine dp.cx ?_;simp[j9];exact⟨by omega,by omega,fi,bl,aj.resolve_left (by intro e; subst e; cases fi),gP,ka⟩
    ·have fe:k=48:=by omega
     subst fe;subst aI;have tp:iS 48 (fO b)=fT b:=rfl;rw[tp] at ap;obtain⟨cap,sz,cs,rfl,wZ,cd⟩:=aat ap au;obtain⟨kb,rfl⟩:∃ kb,j=kb+2:=⟨j - 2,by omega⟩
     have ti:rest[kb]? = some (.cells sz cs) :=by simpa using wZ
     have ef:=Fa b;rw[ef];clear ap au ai wZ;simp;refine a6 ac6.Fm rfl ?_;have oV:h.l.length=8:=rfl;simp[oD,oV];refine cI 64 (fun k ae l=>ae 2=.ptr 0 0 8/\ae 4=.ptr 1 0 8/\ae 5=.ar 1 (kb+2) 0 64 cap sz/\ae 10=cB 1 e5 (some bT)/\ae 11=.ptr (rest.length+2) 0 8/\ae 12=.int .i64 k/\l=.cells 8 (h.l.map bD) ::.cells 8 ho::(rest++[.cells 8 ((ny h b k).l.map bD)])) ?_ ?_
     ·rintro k ae l hk ⟨aU,bA,bi,fI,ip,gX,rfl⟩;obtain⟨ae,rfl⟩:=vP aU bA bi fI ip gX;clear aU bA bi fI ip gX;have e7:=eu ti;have yU:∀ x:a7,(rest++[x])[kb]? = some (.cells sz cs) :=fun x=>by rw[avQ e7]; exact ti
      by_cases yQ:(k:Int)<64
      ·have gj:k<64:=by omega
       have fB:IntKind.i64.wrap ((k:Int)+1)=(k+1:Nat) :=wrap_i64 (by omega) (by omega);have pC:bT[k]? = some (bT.getD k 0#32) :=by rw[awe,avS (show k<bT.length from gj)]; rfl
       have ha:=cd k ((fT b).getD k 0#32) (by rw[awe,avS (by omega)]; rfl);rw[YG h b k gj];obtain⟨lm,hw⟩:∃ lm,(fT b).getD k 0#32=lm:=⟨_,rfl⟩
       obtain⟨nt,L8⟩:∃ nt,bT.getD k 0#32=nt:=⟨_,rfl⟩
       obtain⟨s,ak⟩:∃ s,ny h b k=s:=⟨_,rfl⟩
       rw[hw] at ha ⊢;rw[L8] at pC ⊢;rw[ak];have Bs:ck (.ar 1) (cB 1 e5 (some bT)) (.int .i64 k)=some (.b3 (e5 nt) 0) :=by rw[r1]; simp[pC]
       have t6:=uf s.e 6 (by omega) (by omega);have t11:=uf s.e 11 (by omega) (by omega);have t25:=uf s.e 25 (by omega) (by omega);have t2:=uf s.a 2 (by omega) (by omega);have t13:=uf s.a 13 (by omega) (by omega);have t22:=uf s.a 22 (by omega) (by omega);simp at t6 t11 t25 t2 t13 t22;have ah5:s.l=[s.a,s.b,s.c,s.d,s.e,s.f,s.g,s.h] :=rfl;have We:(round s nt lm).l=[(round s nt lm).a,(round s nt lm).b,(round s nt lm).c,(round s nt lm).d,(round s nt lm).e,(round s nt lm).f,(round s nt lm).g,(round s nt lm).h] :=rfl;simp[yQ,ah5,Bs,e5,yU,ha];refine a6 t6 rfl ?_;simp[Bs,e5,yU,ha];refine a6 t11 rfl ?_;simp[Bs,e5,yU,ha];refine a6 t25 rfl ?_;simp[Bs,e5,yU,ha];refine a6 t2 rfl ?_;simp[Bs,e5,yU,ha];refine a6 t13 rfl ?_;simp[Bs,e5,yU,ha];refine a6 t22 rfl ?_;simp[oD,gj,fB];rfl
      ·have fe:k=64:=by omega
       subst fe;rw[YF];obtain⟨v,au⟩:∃ v,rounds h bT (fT b)=v:=⟨_,rfl⟩
       rw[au];have yO:grind h b=⟨h.a+v.a,h.b+v.b,h.c+v.c,h.d+v.d,h.e+v.e,h.f+v.f,h.g+v.g,h.h+v.h⟩:=by unfold grind; rw[au]
       have l2:h.l.length=v.l.length:=rfl;have oV:h.l.length=8:=rfl;have LU:(grind h b).l=i3 h.l v.l 8:=by rw[yO]; rfl
       rw[LU];simp;refine cI 8 (fun k ae l=>ae 2=.ptr 0 0 8/\ae 4=.ptr 1 0 8/\ae 11=.ptr (rest.length+2) 0 8/\ae 21=.int .i64 k/\l=.cells 8 ((i3 h.l v.l k).map bD) ::.cells 8 ho::(rest++[.cells 8 (v.l.map bD)])) ?_ ?_
       ·rintro k ae l hk ⟨aU,bA,ip,uL,rfl⟩;obtain⟨ae,rfl⟩:=i0 aU bA ip uL;clear aU bA ip uL;by_cases iu:(k:Int)<8
        ·have u7:k<8:=by omega
         have fB:IntKind.i64.wrap ((k:Int)+1)=(k+1:Nat) :=wrap_i64 (by omega) (by omega);obtain⟨y,ax⟩:∃ y,v.l[k]? = some y:=⟨_,avS (show k<v.l.length from u7)⟩
         obtain⟨z,aw⟩:∃ z,h.l[k]? = some z:=⟨_,avS (show k<h.l.length from u7)⟩
         have aA:=PW l2 (k:=k) (by rw[oV]; exact u7);rw[aw] at aA;have gB:=JM l2 k;have rX:=pa bD (i3 h.l v.l k) k (z+y) (by rw[gB,oV]; exact u7);rw[PX l2 aw ax] at rX;have Vo:(List.map bD (i3 h.l v.l k))[k]? = some (bD z) :=by rw[avV,aA]; rfl
         have A4:k<=7:=by omega
         obtain⟨A,cN⟩:∃ A,A=(i3 h.l v.l k).map bD:=⟨_,rfl⟩
         have j3:A.length=8:=by rw[cN,av8,gB,oV]
         rw[<-cN] at Vo rX ⊢;obtain⟨ae0,agH⟩:=avP.1 Vo;simp[iu,u7,fB,agH,ax,rX,j3,A4]
        ·have fe:k=8:=by omega
         subst fe;have gB:=JM l2 8;have HN:∀ A:List U,A.length=8->A.take 8=A:=fun A cN=>avO (by omega)
         obtain⟨A,cN⟩:∃ A,A=(i3 h.l v.l 8).map bD:=⟨_,rfl⟩
         have j3:A.length=8:=by rw[cN,av8,gB,oV]
         have uT:bd A=true:=by rw[cN]; exact lS bD (fun _=>rfl) _
         rw[<-cN];simp[oD,ka,j3,HN A j3];exact aL rfl (by simp[U.closed,uT])
       ·simp[PY]
     ·simp[YH];exact avO (by simp[oV])
   ·refine⟨rfl,rfl,rfl,v,j,ho,rest,rfl,iU,jJ,ahx,rfl,ka⟩
 ·simp;exact⟨0,.nil 0⟩
def sm (k:Nat) :List B:=128#8::List.replicate k 0#8
theorem akW (k:Nat) :sm (k+1)=sm k++[0#8] :=by simp[sm,List.replicate_succ']
theorem X5 (k:Nat) :(sm k).length=k+1:=by simp[sm]
set_option maxHeartbeats 8000000 in
theorem al7 (n:Nat) (aC:n<=100000000) :jZ Tryz.prog GS 126 [.int .i64 n] (cS (some (tail n))) :=by
 have l9:cy=140737488355328:=rfl;refine BL Tryz.checked.mixed bE ?_;apply bp Tryz.func126 [];obtain⟨m,hm⟩:∃ m,m=(119 - n % 64) % 64:=⟨_,rfl⟩
 simp;refine cI m (fun k ae l=>ae 0=.int .i64 n/\∃ v j,ae 3=v/\cw v=false/\bH 1 l v j ((sm k).map ch)) ?_ ?_
 ·rintro k ae l hk ⟨cf,v,j,a8,au,ap⟩;obtain⟨ae,rfl⟩:=p2 cf a8;clear cf a8;have bn:=ap.len;rw[av8,X5] at bn;obtain⟨ce,Hq⟩:∃ ce,ce=k+1:=⟨_,rfl⟩
  rw[<-Hq] at bn;have j9:IntKind.i64.wrap ((n:Int)+(ce:Int))=(n+ce:Nat) :=wrap_i64 (by omega) (by omega);obtain⟨q,aW⟩:∃ q,q=n+ce:=⟨_,rfl⟩
  rw[<-aW] at j9;have mV:IntKind.i64.wrap ((q:Int)+8)=(q+8:Nat) :=wrap_i64 (by omega) (by omega);obtain⟨II,MB⟩:∃ II,II=q+8:=⟨_,rfl⟩
  rw[<-MB] at mV;have k0:=CA II 64 (by omega);rw[show ((64:Int).toNat)=64 from rfl] at k0;obtain⟨x,af⟩:∃ x,x=II % 64:=⟨_,rfl⟩
  rw[<-af] at k0;simp[bn,j9,mV,k0];by_cases w8:x=0
  ·have lw:k=m:=by omega
   subst lw;have MK:sm k=oE n 0:=by unfold sm oE; rw[<-hm]; simp
   rw[MK] at ap;clear bn j9 mV k0;simp[w8];refine cI 8 (fun k ae l=>ae 0=.int .i64 n/\ae 4=.int .i64 (7 - (k:Int))/\∃ v j,ae 3=v/\cw v=false/\bH 1 l v j ((oE n k).map ch)) ?_ ?_
   ·rintro k ae l hk ⟨cf,bA,v,j,a8,au,ap⟩;obtain⟨ae,rfl⟩:=kj cf a8 bA;clear cf a8 bA;obtain⟨c,ah⟩:∃ c:Int,c=7 - (k:Int) :=⟨_,rfl⟩
    rw[<-ah];by_cases iu:0<=c
    ·have A4:k<8:=by omega
     have Bm:IntKind.i64.wrap (c - 1)=7 - ((k:Int)+1) :=by rw[wrap_i64 (by omega) (by omega)]; omega
     obtain⟨d,bC⟩:∃ d,d=8*c:=⟨_,rfl⟩
     have MT:IntKind.i64.wrap (8*c)=d:=by rw[wrap_i64 (by omega) (by omega)]; omega
     have LK:0<=d:=by omega
     have wU:d.toNat=56 - 8*k:=by omega
     have af:=QG (BitVec.ofNat 64 n*8#64) k A4;have md:=Jc n k;obtain⟨y,ax⟩:∃ y,y=(((BitVec.ofNat 64 n*8#64) >>> (56 - 8*k)).setWidth 8) :=⟨_,rfl⟩
     rw[<-ax] at af;have l6:bH 1 (l++[a7.cells 1 [bF y]]) v j ((oE n k).map ch) :=ap.more _;obtain⟨aZ,bl,l',h1,ad,aj,aE,aX,bw⟩:=pl (by_:=1) l6 (x:=.ar 1 l.length 0 1 1 1) (xs:=[[bF y]]) (by simp[dE]) (by simp) (by omega) (by omega) (by simp; omega);have fi:cw aZ=false:=by rw[vk bw,au]; rfl
     have gP:bH 1 l' aZ bl ((oE n (k+1)).map ch) :=by rw[Z0 n k y af,awm]; exact ad
     rw[BitVec.mul_comm] at ax;simp only[bF] at h1;simp[iu,MT,LK,wU];rw[<-ax];simp[h1];refine dp.cx ?_;simp[Bm,A4];exact⟨fi,bl,gP⟩
    ·have fe:k=8:=by omega
     subst fe;simp[iu];exact ap.E1 (fun _=>rfl) (some (tail n)) au rfl
   ·simp;exact⟨au,_,ap⟩
  ·have md:=X5 k;have l6:bH 1 (l++[a7.cells 1 [bF 0#8]]) v j ((sm k).map ch) :=ap.more _;obtain⟨aZ,bl,l',h1,ad,aj,aE,aX,bw⟩:=pl (by_:=1) l6 (x:=.ar 1 l.length 0 1 1 1) (xs:=[[bF 0#8]]) (by simp[dE]) (by simp) (by omega) (by omega) (by simp; omega);have fi:cw aZ=false:=by rw[vk bw,au]; rfl
   have gP:bH 1 l' aZ bl ((sm (k+1)).map ch) :=by rw[akW,awm]; exact ad
   have lw:k<m:=by omega
   simp[bF] at h1;simp[w8,h1];refine dp.cx ?_;simp[lw];exact⟨fi,bl,gP⟩
 ·simp;exact⟨rfl,0,.ar 0 1 1 1 [.int .u8 128] _ rfl rfl rfl (by intro e ao; simp[sm] at ao; subst ao; rfl) (avR _) (avR _) rfl⟩
set_option maxHeartbeats 8000000 in
theorem al1 (h:cp) (b:List B) (ag:b.length<=100000000) :bz Tryz.prog GS 124 [.aH (h.l.map bD),cS (some b)] (.aH ((hK h b).1.l.map bD)) :=by
 refine bL Tryz.checked.mixed bE ?_;apply bp Tryz.func124 [];have HN:∀ A:List U,A.length=8->A.take 8=A:=fun A cN=>avO (by omega)
 have Vq:∀ s:cp,(s.l.map bD).length=8:=fun s=>rfl
 obtain⟨Jv,yv⟩:∃ Jv,Jv=h.l.map bD:=⟨_,rfl⟩
 have aeW:Jv.length=8:=by rw[yv]; rfl
 rw[<-yv];simp[aeW];refine cI (b.length / 64) (fun k ae l=>ae 1=cS (some b)/\ae 2=.ptr 0 0 8/\ae 4=.ptr 1 0 8/\ae 5=.int .i64 (64*k:Nat)/\∃ s ho,hK s (b.drop (64*k))=hK h b/\l=[.cells 8 (s.l.map bD),.cells 8 ho]/\ho.length=8) ?_ ?_
 ·rintro k ae l hk ⟨aP,aU,bA,bi,s,ho,ak,rfl,ka⟩;obtain⟨ae,rfl⟩:=i0 aP aU bA bi;clear aP aU bA bi;obtain⟨a,aA⟩:∃ a,a=64*k:=⟨_,rfl⟩
  rw[<-aA] at ak ⊢;obtain⟨aV,Lw⟩:∃ aV,aV=64*(k+1) :=⟨_,rfl⟩
  rw[<-Lw];obtain⟨A,cN⟩:∃ A,A=s.l.map bD:=⟨_,rfl⟩
  have j3:A.length=8:=by rw[cN]; rfl
  rw[<-cN];have hw:IntKind.i64.wrap ((a:Int)+64)=aV:=by rw[wrap_i64 (by omega) (by omega)]; omega
  by_cases dw:aV<=b.length
  ·have DN:(aV:Int)<=b.length:=by omega
   have ef:fG (.ar 1) (cS (some b)) (some (.int .i64 (a:Int))) (some (.int .i64 (aV:Int))) none=some (cS (some ((b.drop a).take 64))) :=by
    unfold cS; rw[amU (by omega) (by omega) (by omega)];have:(aV:Int).toNat - (a:Int).toNat=64:=by omega
    rw[this,awZ]
   have eU:64<=((b.drop a).take 64).length:=by simp; omega
   have yO:=aeQ s _ eU;have l0:grind s ((b.drop a).take 64)=grind s (((b.drop a).take 64)) :=rfl;rw[<-cN] at yO;have ci:hK (grind s ((b.drop a).take 64)) (b.drop aV)=hK h b:=by
    rw[<-ak,Cz s (b.drop a) (by simp; omega),ayA];congr 2; omega
   have gj:k<b.length / 64:=by omega
   have uT:bd A=true:=by rw[cN]; exact lS bD (fun _=>rfl) _
   obtain⟨Ju,K8⟩:∃ Ju,Ju=(grind s ((b.drop a).take 64)).l.map bD:=⟨_,rfl⟩
   have ae1:Ju.length=8:=by rw[K8]; rfl
   rw[<-K8] at yO;simp[hw,dw,DN,j3,HN A j3,ef];refine a6 yO (by simp[bd,U.closed,uT,m9]) ?_;simp[oD,j3,ae1,hw,gj];exact⟨_,ci,ho,⟨K8,rfl⟩,ka⟩
  ·have DN:¬(aV:Int)<=b.length:=by omega
   have ao:=ak;rw[FV s (b.drop a) (by simp; omega)] at ao;rw[<-ao];have uT:bd A=true:=by rw[cN]; exact lS bD (fun _=>rfl) _
   simp[hw,dw,DN,j3,HN A j3,oD,ka];exact aL (by rw[cN]) (by rw[cN] at uT; simp[U.closed,uT])
 ·exact⟨rfl,rfl,rfl,rfl,h,rep 8 (.int .u32 0),rfl,by rw[yv]; rfl,rfl⟩
def tK (s:cp) (k:Nat) :List B:=(written s).take k++List.replicate (32 - k) 0#8
theorem akO (s:cp) (k:Nat) (hk:k<=32) :(tK s k).length=32:=by
 unfold tK;have:=Js s;simp; omega
theorem akP (s:cp) (k:Nat) (x:B) (af:(written s)[k]? = some x) :(tK s k).set k x=tK s (k+1) :=by
 have hk:k<32:=(avP.1 af).1;unfold tK;have al:(List.take k (written s)).length=k:=by have:=Js s; simp; omega
 rw[awz _ _ (by omega),al,axX,av7,af,show 32 - k=(32 - (k+1))+1 by omega,awV,axy];simp
theorem apd (s:cp) (k:Nat) (hk:k<32) :∃ w,s.l[k / 4]? = some w/\(written s)[k]? = some ((w >>> (24 - 8*(k % 4))).setWidth 8) :=by
 have aD:∀ w:W,w=w >>> 0:=fun w=>by simp
 obtain⟨a,b,c,d,e,f,g,h⟩:=s;have:∀ (l:List W) (k:Nat),k<4*l.length->∃ w,l[k / 4]? = some w/\(l.map vQ).flatten[k]? = some ((w >>> (24 - 8*(k % 4))).setWidth 8) :=by
  intro l
  induction l with
  | nil=>intro k hk; simp at hk
  | cons w l aJ=>
   intro k hk
   match k,hk with
   | 0,_=>exact⟨w,rfl,rfl⟩
   | 1,_=>exact⟨w,rfl,rfl⟩
   | 2,_=>exact⟨w,rfl,rfl⟩
   | 3,_=>refine⟨w,rfl,?_⟩; simp[vQ]
   | k+4,hk=>
    obtain⟨y,h1,ad⟩:=aJ k (by simp at hk; omega);refine⟨y,?_,?_⟩
    ·rw[show (k+4) / 4=k / 4+1 by omega]; exact h1
    ·rw[show (k+4) % 4=k % 4 by omega]; exact ad
 exact this _ k (by simpa [cp.l] using hk)
set_option maxHeartbeats 8000000 in
theorem al8 (s:cp) :bz Tryz.prog GS 123 [.aH (s.l.map bD)] (fF (written s)) :=by
 refine bL Tryz.checked.mixed bE ?_;apply bp Tryz.func123 [];obtain⟨A,cN⟩:∃ A,A=s.l.map bD:=⟨_,rfl⟩
 have j3:A.length=8:=by rw[cN]; rfl
 rw[<-cN];simp[j3];refine cI 32 (fun k ae l=>ae 1=.ptr 0 0 8/\ae 2=.ptr 1 0 32/\ae 3=.ptr 2 0 32/\ae 4=.int .i64 k/\∃ ho,l=[.cells 8 A,.cells 32 ho,.cells 32 ((tK s k).map bF)]/\ho.length=32) ?_ ?_
 ·rintro k ae l hk ⟨aP,aU,a8,bA,ho,rfl,ka⟩;obtain⟨ae,rfl⟩:=i0 aP aU a8 bA;clear aP aU a8 bA;by_cases L4:(k:Int)<32
  ·have gj:k<32:=by omega
   have fB:IntKind.i64.wrap ((k:Int)+1)=(k+1:Nat) :=wrap_i64 (by omega) (by omega);have MC:=J7 k 4 (by omega) (by omega);have k0:=CA k 4 (by omega);rw[show ((4:Int).toNat)=4 from rfl] at MC k0;obtain⟨w,hw,af⟩:=apd s k gj;obtain⟨q,aW⟩:∃ q,q=k / 4:=⟨_,rfl⟩
   obtain⟨r,az⟩:∃ r,r=k % 4:=⟨_,rfl⟩
   rw[<-aW] at MC hw;rw[<-az] at k0 af;have MB:q<8:=by omega
   obtain⟨zF,We⟩:∃ zF,zF=8*r:=⟨_,rfl⟩
   have MT:IntKind.i64.wrap (8*(r:Int))=zF:=by rw[wrap_i64 (by omega) (by omega)]; omega
   obtain⟨IK,ah0⟩:∃ IK,IK=24 - zF:=⟨_,rfl⟩
   have ais:IntKind.i64.wrap (24 - (zF:Int))=IK:=by rw[wrap_i64 (by omega) (by omega)]; omega
   have mS:=akP s k _ af;rw[<-We,<-ah0] at af mS;have bY:=akO s k (by omega);have rX:=pa bF (tK s k) k ((w >>> IK).setWidth 8) (by rw[bY]; exact gj);rw[mS] at rX;obtain⟨O,du⟩:∃ O,O=(tK s k).map bF:=⟨_,rfl⟩
   have n2:O.length=32:=by rw[du,av8,bY]
   rw[<-du] at rX ⊢;have ae2:A[q]? = some (bD w) :=by rw[cN,avV,hw]; rfl
   obtain⟨ae0,ae3⟩:=avP.1 ae2;have ahU:q<=7:=by omega
   have ag0:k<=31:=by omega
   have ahV:(q:Int)<8:=by omega
   simp[L4,gj,fB,MC,k0,MT,ais,j3,MB,ae3,n2,rX,ka,ahU,ag0,ahV]
  ·have fe:k=32:=by omega
   subst fe;have ap:tK s 32=written s:=by unfold tK; rw[avO (by rw[Js]; omega)]; simp
   rw[ap];obtain⟨O,du⟩:∃ O,O=(written s).map bF:=⟨_,rfl⟩
   have n2:O.length=32:=by rw[du,av8,Js]
   have afx:bd O=true:=by rw[du]; exact lS bF (fun _=>rfl) _
   have aI:O.take 32=O:=avO (by omega);unfold fF;rw[<-du];simp[n2,aI,oD,ka];exact aL rfl (by simp[U.closed,afx])
 ·refine⟨rfl,rfl,rfl,rfl,_,rfl,rfl⟩
set_option maxHeartbeats 8000000 in
theorem Oo (s:fa) (ak:s.l.length<=1000000) :bz Tryz.prog GS 77 [cS s] (fF (ie s.l)) :=by
 have l9:cy=140737488355328:=rfl;refine bL Tryz.checked.mixed bE ?_;apply bp Tryz.func77 [];simp;refine a6 aed rfl ?_;have akv:bH 1 ([a7.cells 32 (rep 32 (U.int IntKind.u8 0))]++[a7.cells 0 []]) (.ar 1 1 0 0 0 0) 1 [] :=.ar 1 0 0 0 [] _ rfl rfl rfl (by simp) (avR _) (avR _) rfl;obtain⟨v,j,r,h1,ad,aj,aE⟩:=ux (by_:=1) akv (.inr (avR _)) (x:=cS s) (xs:=s.l.map ch) (by unfold cS; rw[uG,av8]) (by intro e ao; obtain⟨x,_,rfl⟩:=awf.1 ao; rfl) (by omega) (by omega) (by rw[l9]; simp; omega);have au:cw v=false:=by rw[aE]; rfl
 simp only[awI,List.singleton_append] at h1 ad;have bn:cK (.ar 1) (cS s)=some (.int .i64 s.l.length) :=q0 _;have md:=al7 s.l.length (by omega);have HP:(tail s.l.length).length<=80:=by rw[<-Pg]; exact Jc _ _
 obtain⟨aZ,bl,ct,ce,bP,dn,dG⟩:=ux (by_:=1) (pre:=[a7.cells 32 (rep 32 (U.int IntKind.u8 0))]) ad aj (x:=cS (some (tail s.l.length))) (xs:=(tail s.l.length).map ch) (by unfold cS; rw[uG,av8]; rfl) (by intro e ao; obtain⟨x,_,rfl⟩:=awf.1 ao; rfl) (by omega) (by omega) (by rw[l9]; simp; omega);have fi:cw aZ=false:=by rw[dG,au]; rfl
 rw[<-awm] at bP;simp only[List.singleton_append] at ce bP;have kD:=bP.nA (fun _=>rfl) (some (s.l++tail s.l.length)) fi rfl;have eU:=al1 first (s.l++tail s.l.length) (by simp; omega)
 have D8:=al8 (hK first (s.l++tail s.l.length)).1;have mT:ie s.l=written (hK first (s.l++tail s.l.length)).1:=rfl;rw[<-mT] at D8;obtain⟨F,h3⟩:∃ F,F=(hK first (s.l++tail s.l.length)).1:=⟨_,rfl⟩
 rw[<-h3] at eU D8;simp[h1];refine dp.cx ?_;simp[bn];refine a6 md.Fm rfl ?_;simp[ce];refine dp.cx ?_;simp;refine iB eU (.cons (.same _ ?_) (.cons kD .nil)) (TP bD (fun _=>rfl) _) ?_
 ·simp[U.closed,lS bD (fun _=>rfl)]
 simp;refine a6 D8 ?_ ?_
 ·simp[bd,U.closed,lS bD (fun _=>rfl)]
 have ef:=vJ s.l;simp[fF,ef,oD,avO];exact aL rfl (by simp[U.closed,lS bF (fun _=>rfl)])
end gT

end Go.cb

namespace Go.cb
open Go Go.Proofs Go.RowKit
set_option maxRecDepth 100000
open gT
theorem aah {e:TypeId} (aN:Tryz.prog.underlying e=some (.int .u8)) :∀ (n:Nat) {ts:List TypeId} {cs:List U},eo Tryz.prog (List.replicate n e++ts) cs->∃ (x:List B) (cs' : List U),cs=x.map bF++cs'/\x.length=n/\eo Tryz.prog ts cs'
 | 0,ts,cs,h=>⟨[],cs,rfl,rfl,h⟩
 | n+1,ts,cs,h=>by
  obtain⟨k,wD,rfl,h1,ad,aj⟩:=zP aN h;obtain⟨x,hN,rfl,af,aE⟩:=aah aN n aj;have aX:(0:Int)<=k:=h1;have bw:k<=255:=ad;refine⟨BitVec.ofNat 8 k.toNat::x,hN,?_,by simp[af],aE⟩;have:((BitVec.ofNat 8 k.toNat).toNat:Int)=k:=by
   rw[awc,av4 (by omega)]; omega
  simp[bF,u]; omega
theorem aak {ts:List TypeId} {cs:List U} (h:eo Tryz.prog (40::ts) cs) :∃ (x:BitVec 64) (cs' : List U),cs=dq x::cs'/\eo Tryz.prog ts cs':=by
 obtain⟨k,wD,rfl,h1,ad,aj⟩:=zP (k:=.u64) (by kernel_rfl) h;have aX:(0:Int)<=k:=h1;have bw:k<=18446744073709551615:=ad;refine⟨BitVec.ofNat 64 k.toNat,wD,?_,aj⟩;have:((BitVec.ofNat 64 k.toNat).toNat:Int)=k:=by
  rw[awc,av4 (by omega)]; omega
 simp[dq,u]; omega
theorem an8 {ts:List TypeId} {cs:List U} (h:lR Tryz.prog (3::ts) cs) :∃ (n:Int) (cs' : List U),cs=.int .i64 n::cs'/\IntKind.i64.min<=n/\n<=IntKind.i64.max/\lR Tryz.prog ts cs':=by
 obtain⟨c,cs',rfl,h1,ad⟩:=Pr h;obtain⟨n,wD,ak,al,av,aj⟩:=zP (k:=.i64) (by kernel_rfl) (aag (by kernel_rfl) h1);cases ak;exact⟨n,cs',rfl,al,av,ad⟩
def No:List Int:=gT.bT.map fun k=>(k.toNat:Int)
theorem anN:B4=No.map fun k=>.int .u32 k:=by unfold B4 No; rw[axD]; rfl
theorem ajF {W:World} (h:laidMetH Tryz.prog [("braid/digest.constants",Go.Proofs.YtobphgccoalchaaGreatDoor.Rows.laid_braid_digest_constants)] W) :∀ g,fP W (fun _=>True) (GS g) (.pointer (some ⟨g,0,none⟩)) :=by
 intro g;unfold GS;split
 ·rename_i ag;have:=awK ag;subst this;rw[MakeChecks.laidMetH_plain _ _ _ (by kernel_rfl)] at h;obtain⟨cU,⟨cf,t0,oO,f0,gw,dV,agD,MK,iU,LK,_,_⟩,_,_⟩:=h;have aR:Tryz.prog.globalNamed "braid/digest.constants"=some 1:=by kernel_rfl
  have bJ:(Tryz.prog.globals[1]?).map (·.type)=some 302:=by kernel_rfl
  obtain rfl:=Option.some.inj (aR.symm.trans agD);obtain rfl:=Option.some.inj (bJ.symm.trans MK);rw[anN];exact aeD No aR iU (n:=64) (e:=76) (by kernel_rfl) (by kernel_rfl) (by kernel_rfl) LK (by rfl)
 ·exact .bad _
end Go.cb

namespace Go.cb
open Go Go.Proofs
set_option maxRecDepth 100000
open gT
def FQ:U->Option B
 | .int .u8 (.ofNat n)=>match Nat.ble n 255 with | true=>some (BitVec.ofNat 8 n) | false=>none
 | _=>none
theorem ab0 {c:U} {b:B} (h:FQ c=some b) :c=bF b:=by
 unfold FQ at h;split at h
 ·split at h
  ·rename_i n _ aC;have:=awU aC;cases h;simp only[bF,u,awc];congr 1;show (n:Int)=((n % 2 ^ 8:Nat) :Int)
   rw[av4 (show n<2 ^ 8 by omega)]
  ·cases h
 ·cases h
def QD:List U->Option (List B)
 | []=>some []
 | c::r=>match FQ c with
  | some b=>match QD r with | some l=>some (b::l) | none=>none
  | none=>none
def cH:U->Option (List B)
 | .aH cs=>match QD cs with | some l=>(match Nat.beq l.length 32 with | true=>some l | false=>none) | none=>none
 | _=>none
def I2:List (List U)->Option (List B)
 | []=>some []
 | [c] ::r=>match FQ c with
  | some b=>match I2 r with | some l=>some (b::l) | none=>none
  | none=>none
 | _=>none
theorem Zd:∀ {es:List (List U)} {l:List B},I2 es=some l->es=l.map ch
 | [],l,h=>by cases h; rfl
 | e::r,l,h=>by
  unfold I2 at h;split at h
  ·rename_i aR; cases aR
  ·rename_i c ct aR;cases aR;split at h
   ·rename_i b ag;split at h
    ·rename_i l' al;cases h;rw[ab0 ag,Zd al]; rfl
    ·cases h
   ·cases h
  ·cases h
def CC:U->Option fa
 | .aT=>some none
 | .bQ 1 es=>match I2 es with | some l=>some (some l) | none=>none
 | _=>none
theorem J8 {c:U} {s:fa} (h:CC c=some s) :c=cS s:=by
 unfold CC at h;split at h
 ·cases h; rfl
 ·split at h
  ·rename_i l al;cases h;rw[Zd al]; rfl
  ·cases h
 ·cases h
def ZR:List U->Option U
 | [c]=>match CC c with
  | some s=>match Nat.ble s.l.length 10000 with | true=>some (.bG [fF (ie s.l),.int .i64 0]) | false=>none
  | none=>none
 | _=>none
abbrev lL:FuncId × Bool × (List U->Option U) :=(145,false,ZR)
theorem ZT:uo Tryz.prog GS lL:=by
 intro args r h;refine⟨?_,fun h=>by cases h⟩;simp only[ZR] at h;split at h
 ·split at h
  ·rename_i c s ak;split at h
   ·rename_i aC;cases h;rw[J8 ak];exact ZU s (awU aC)
   ·cases h
  ·cases h
 ·cases h
def YY:List U->Option U
 | [c]=>match CC c with
  | some s=>match Nat.ble s.l.length 1000000 with | true=>some (fF (ie s.l)) | false=>none
  | none=>none
 | _=>none
abbrev BR:FuncId × Bool × (List U->Option U) :=(77,false,YY)
theorem E2:uo Tryz.prog GS BR:=by
 intro args r h;refine⟨?_,fun h=>by cases h⟩;simp only[YY] at h;split at h
 ·split at h
  ·rename_i c s ak;split at h
   ·rename_i aC;cases h;rw[J8 ak];exact Oo s (awU aC)
   ·cases h
  ·cases h
 ·cases h
end Go.cb

namespace Go.cb
open Go Go.Proofs Go.Sort Go.Shelf
set_option maxRecDepth 100000
open gT
def cj:List B->List B->Int
 | [],[]=>0
 | [],_::_=>-1
 | _::_,[]=>1
 | a::m2,b::ov=>if a.toNat<b.toNat then -1 else if b.toNat<a.toNat then 1 else cj m2 ov
theorem SZ (a b:B) (m2 ov:List B) :cj (a::m2) (b::ov)=if a.toNat<b.toNat then -1 else if b.toNat<a.toNat then 1 else cj m2 ov:=rfl
theorem pq:∀ a:List B,cj a a=0
 | []=>rfl
 | a::m2=>by unfold cj; simp; exact pq m2
theorem sX:∀ {a b:List B},cj a b=0->a=b
 | [],[],_=>rfl
 | [],_::_,h=>by simp[cj] at h
 | _::_,[],h=>by simp[cj] at h
 | a::m2,b::ov,h=>by
  unfold cj at h;split at h
  ·cases h
  ·split at h
   ·cases h
   ·have h1:a=b:=av6 (by omega);rw[h1,sX h]
theorem rA:∀ a b:List B,cj b a=- cj a b
 | [],[]=>rfl
 | [],_::_=>rfl
 | _::_,[]=>rfl
 | a::m2,b::ov=>by
  unfold cj;by_cases h1:a.toNat<b.toNat
  ·simp[h1,show ¬ b.toNat<a.toNat by omega]
  ·by_cases ad:b.toNat<a.toNat
   ·simp[h1,ad]
   ·simp[h1,ad]; exact rA m2 ov
theorem CN:∀ a b:List B,cj a b=-1\/cj a b=0\/cj a b=1
 | [],[]=>by simp[cj]
 | [],_::_=>by simp[cj]
 | _::_,[]=>by simp[cj]
 | a::m2,b::ov=>by
  unfold cj;split
  ·simp
  ·split
   ·simp
   ·exact CN m2 ov
theorem uF:∀ a b c:List B,cj a b<0->cj b c<0->cj a c<0
 | [],[],_,h,_=>by simp[cj] at h
 | [],_::_,[],_,h=>by simp[cj] at h
 | [],_::_,_::_,_,_=>by simp[cj]
 | _::_,[],_,h,_=>by simp[cj] at h
 | _::_,_::_,[],_,h=>by simp[cj] at h
 | a::m2,b::ov,c::alT,h1,ad=>by
  unfold cj at h1 ad ⊢;have aJ:=uF m2 ov alT
  repeat' split at h1
  all_goals repeat' split at ad
  all_goals repeat' split
  all_goals first | omega | (exact aJ h1 ad) | (exfalso; omega) | skip
def hz (a b:List B) :Bool:=ltOf cj a b
theorem sb (a b:List B) :hz a b=true<->cj a b<0:=by unfold hz ltOf; simp
theorem Pe:SWO (ltOf cj) where
 irrefl x:=by unfold ltOf; rw[pq]; rfl
 trans x y z h1 ad:=by
  unfold ltOf at *
  simp only[decide_eq_true_eq] at *
  exact uF x y z h1 ad
 ntrans x y z h1 ad:=by
  unfold ltOf at *
  simp only[decide_eq_false_iff_not] at *
  intro aj;have aR:=rA x y;have bJ:=rA y z;rcases CN x y with h | h | h
  ·omega
  ·have:=sX h; subst this; omega
  ·rcases CN y z with h' | h' | h'
   ·omega
   ·have:=sX h'; subst this; omega
   ·have:=uF z y x (by omega) (by omega);have dF:=rA x z;omega
theorem abM (x y:List B) (h1:ltOf cj x y=false) (ad:ltOf cj y x=false) :x=y:=by
 unfold ltOf at *
 simp only[decide_eq_false_iff_not] at *
 have e:=rA x y;exact sX (by omega)
theorem acZ {a b:List B} (k:Nat) (h:∀ j,j<k->a[j]? = b[j]?) (aA:k<=a.length) (ag:k<=b.length) :cj (a.drop k) (b.drop k)=cj a b:=by
 induction k with
 | zero=>simp
 | succ k aJ=>
  rw[<-aJ (fun j ai=>h j (by omega)) (by omega) (by omega)];have h1:=h k (by omega);rw[awS (l:=a) (i:=k) (by omega),awS (l:=b) (i:=k) (by omega)];rw[avS (by omega),avS (by omega)] at h1;have ad:=Option.some.inj h1
  conv=>rhs; unfold cj
  rw[ad];simp
end Go.cb

namespace Go.cb
open Go Go.Proofs
set_option maxRecDepth 100000
namespace Op
open gT
abbrev Q:=BitVec 64
abbrev D:=BitVec 32
theorem Pu:(u (1#64) :Int)=1:=rfl
def e5 (x:D) :List U:=[bD x]
def sg (l:List D) :Q:=l.foldl (fun o x=>o*x.setWidth 64 % 1000000007#64) 1#64
theorem akb (l:List D) (k:Nat) (x:D) (h:l[k]? = some x) :sg (l.take (k+1))=sg (l.take k)*x.setWidth 64 % 1000000007#64:=by
 rw[av7,h]; simp[sg,ayi]
theorem IU (x:Q) :cD .rem .u64 (u x) .u64 1000000007=some (.int .u64 (u (x % 1000000007#64))) :=Ai x 1000000007#64 (by decide)
theorem NI (l:List D) (al:l.length<=1000) :bz Tryz.prog GS 245 [.int .u64 1000000007,cB 1 e5 (some l)] (bD ((sg l).setWidth 32)) :=by
 refine bL Tryz.checked.mixed bE ?_;apply bp Tryz.func245 [];have bn:cK (.ar 1) (cB 1 e5 (some l))=some (.int .i64 l.length) :=q0 _;simp[bn];refine cI l.length (fun k ae _=>ae 0=.int .u64 1000000007/\ae 5=dq (sg (l.take k))/\ae 8=cB 1 e5 (some l)/\ae 9=.int .i64 l.length/\ae 10=.int .i64 k) ?_ (by simp[sg]; rfl);rintro k ae h hk ⟨cf,bi,dj,gJ,fI⟩;obtain⟨ae,rfl⟩:=lj cf bi dj gJ fI;clear cf bi dj gJ fI;by_cases h:k<l.length
 ·obtain⟨x,af,_⟩:=bx h;have bN:ck (.ar 1) (cB 1 e5 (some l)) (.int .i64 k)=some (.b3 (e5 x) 0) :=by rw[r1]; simp[af]
  have fB:IntKind.i64.wrap ((k:Int)+1)=(k+1:Nat) :=wrap_i64 (by omega) (by omega);have ak:=akb l k x af;simp[h,bN,e5,fB,IU];rw[<-ak]
 ·have fe:k=l.length:=by omega
  subst fe;simp;exact aL rfl rfl
def fX (a n:Nat) :Nat:=a ^ n % 1000000007
theorem zD (a n:Nat) :fX a n<1000000007:=axK _ (by decide)
theorem Yn (a n:Nat) :fX a n*fX a n % 1000000007=fX a (2*n) :=by
 unfold fX; rw[<-ayl,<-ayB]; congr 2; omega
theorem Yl (a n:Nat) :fX a n*a % 1000000007=fX a (n+1) :=by
 unfold fX; rw[Nat.mod_mul_mod,Nat.pow_succ]
def g6 (a:D) (n:Nat) :D:=BitVec.ofNat 32 (fX a.toNat n)
theorem sn (a:D) (n:Nat) :(g6 a n).toNat=fX a.toNat n:=by
 have:=zD a.toNat n;unfold g6; rw[awc]; exact av4 (by omega)
theorem NH (x y:D) (af:x.toNat<1000000007) :(sg [x,y]).setWidth 32=BitVec.ofNat 32 (x.toNat*y.toNat % 1000000007) :=by
 apply av6;have ax:=y.isLt;have h1:x.toNat*y.toNat<1000000007*4294967296:=by
  calc x.toNat*y.toNat<=1000000007*y.toNat:=avX _ (by omega)
   _<1000000007*4294967296:=Nat.mul_lt_mul_of_pos_left (by simpa using ax) (by decide)
 have ad:(1#64*x.setWidth 64 % 1000000007#64).toNat=x.toNat:=by
  rw[BitVec.one_mul,aw8,av9];rw[av4 (show x.toNat<2 ^ 64 by omega),show (1000000007#64).toNat=1000000007 from rfl,av4 af]
 simp only[sg,ay1,List.foldl_nil,av9,aw8,axM,ad,awc];rw[av4 (show y.toNat<2 ^ 64 by omega),av4 (show x.toNat*y.toNat<2 ^ 64 by omega),av4 (show 1000000007<2 ^ 64 by decide)]
theorem akc (a:D) (n:Nat) :(sg [g6 a n,g6 a n]).setWidth 32=g6 a (2*n) :=by
 rw[NH _ _ (by rw[sn]; exact zD _ _),sn,Yn]; rfl
theorem mul_one (a:D) (n:Nat) :(sg [g6 a n,a]).setWidth 32=g6 a (n+1) :=by
 rw[NH _ _ (by rw[sn]; exact zD _ _),sn,Yl]; rfl
theorem E0 {l:am} {b:Nat} {x y:D} (h:l[b]? = some (.cells 2 [bD x,bD y])) :gh (bW l) (.ar 1 b 0 2 2 2) (cB 1 e5 (some [x,y])) :=by
 refine EZ (rest:=[]) (es:=[[bD x],[bD y]]) (by simpa using h) rfl (by simp) (by simp[bd,U.closed])
theorem aek:hQ Tryz.prog 260=true:=by kernel_rfl
theorem anj {x:D} {l:am} {K:U->am->Prop} (aY:∀ v rest,K v (.cells 1 [bD ((sg [x,x]).setWidth 32)] ::rest)) :c7 Tryz.prog GS 260 [.ptr 0 0 1] (.cells 1 [bD x] ::l) (c:=⟨K⟩) :=by
 apply bp Tryz.func260 [];simp;refine iB (NI [x,x] (by simp)) (.cons (.same _ rfl) (.cons (E0 (by simp)) .nil)) rfl ?_;simp;exact aY _ _
theorem UV (n k:Nat) (hk:k<64) :n / 2 ^ (63 - k)=2*(n / 2 ^ (64 - k))+n / 2 ^ (63 - k) % 2:=by
 have:2 ^ (64 - k)=2 ^ (63 - k)*2:=by rw[<-Nat.pow_succ]; congr 1; omega
 rw[this,<-Nat.div_div_eq_div_mul]; omega
theorem IG (a:D) (n:Q) :bz Tryz.prog GS 241 [bD a,dq n] (bD (g6 a n.toNat)) :=by
 refine bL Tryz.checked.mixed bE ?_;apply bp Tryz.func241 [];simp;refine cI 64 (fun k ae l=>ae 0=bD a/\ae 1=dq n/\ae 5=.ptr 0 0 1/\ae 6=.fn 260 [] [.ptr 0 0 1]/\ae 9=.int .i64 k/\∃ r,l=.cells 1 [bD (g6 a (n.toNat / 2 ^ (64 - k)))] ::r) ?_ (by
  have:n.toNat / 2 ^ 64=0:=ayR n.isLt;simp[this,g6,fX]; rfl)
 rintro k ae l hk ⟨cf,aP,bi,b8,gJ,r,rfl⟩;obtain⟨ae,rfl⟩:=lj cf aP bi b8 gJ;clear cf aP bi b8 gJ;by_cases h:(k:Int)<64
 ·have fB:IntKind.i64.wrap ((k:Int)+1)=(k+1:Nat) :=wrap_i64 (by omega) (by omega);have zc:IntKind.i64.wrap (63 - (k:Int))=((63 - k:Nat) :Int) :=by rw[wrap_i64 (by omega) (by omega)]; omega
  have ag:=UV n.toNat k (by omega);have mT:cD .shr .u64 (u n) .i64 ((63 - k:Nat) :Int)=some (.int .u64 (u (n >>> (63 - k)))) :=uA n .i64 (63 - k);have aeU:64 - (k+1)=63 - k:=by omega
  simp[h,fB];refine⟨aek,?_⟩;simp;refine anj fun v rest=>?_
  simp[zc,mT,akc];rw[aeU];by_cases ap:n.toNat / 2 ^ (63 - k) % 2=1
  ·have LG:n >>> (63 - k) &&& 1#64=1#64:=by
    apply av6;rw[ayn,awH,awj];show _ &&& 1=1;rw[Nat.and_one_is_mod,ap]
   rw[ap] at ag;have aW:g6 a (2*(n.toNat / 2 ^ (64 - k))+1)=g6 a (n.toNat / 2 ^ (63 - k)) :=by rw[<-ag]
   simp[LG,Pu];refine iB (NI [g6 a (2*(n.toNat / 2 ^ (64 - k))),a] (by simp)) (.cons (.same _ rfl) (.cons (E0 (by simp)) .nil)) rfl ?_;rw[mul_one,aW];simp[fB];omega
  ·have ap:n.toNat / 2 ^ (63 - k) % 2=0:=by omega
   have LG:n >>> (63 - k) &&& 1#64=0#64:=by
    apply av6;rw[ayn,awH,awj];show _ &&& 1=0;rw[Nat.and_one_is_mod,ap]
   rw[ap,ayd] at ag;simp[LG,fB];rw[<-ag];exact⟨by omega,rfl⟩
 ·have fe:k=64:=by omega
  subst fe;simp;exact aL rfl rfl
theorem Of (a b:Q) (ag:b≠0#64) :cD .quo .u64 (u a) .u64 (u b)=some (.int .u64 (u (a / b))) :=by
 have bO:(b.toNat:Int)≠0:=fun e=>ag (av6 (by simpa using e))
 show (if IntKind.u64=IntKind.u64/\(b.toNat:Int)≠0 then some (U.int .u64 (IntKind.u64.wrap ((a.toNat:Int).tdiv b.toNat))) else none)=_;rw[if_pos ⟨rfl,bO⟩,vR];congr 2;have:((a.toNat:Int).tdiv b.toNat)=((a.toNat / b.toNat:Nat) :Int) :=rfl;rw[this,axh];congr 1;apply av6;rw[awc,axp];exact av4 (Nat.lt_of_le_of_lt (Nat.div_le_self _ _) a.isLt)
theorem YB (x:Q) :cD .quo .u64 (u x) .u64 2=some (.int .u64 (u (x / 2#64))) :=Of x 2#64 (by decide)
theorem Y2 (x:Q) :cD .rem .u64 (u x) .u64 2=some (.int .u64 (u (x % 2#64))) :=Ai x 2#64 (by decide)
theorem Bz (x y:Q) (af:x.toNat<4294967296) (ax:y.toNat<4294967296) :(x*y % 1000000007#64).toNat=x.toNat*y.toNat % 1000000007:=by
 have h1:x.toNat*y.toNat<18446744073709551616:=by
  calc x.toNat*y.toNat<=4294967295*y.toNat:=avX _ (by omega)
   _<=4294967295*4294967295:=Nat.mul_le_mul_left _ (by omega)
   _<18446744073709551616:=by decide
 rw[aw8,axM,av4 (show x.toNat*y.toNat<2 ^ 64 by omega)]; rfl
theorem alj (o b m:Nat) (h:m % 2=1) :o*b % 1000000007*(b*b % 1000000007) ^ (m / 2) % 1000000007=o*b ^ m % 1000000007:=by
 have hm:m=2*(m / 2)+1:=by omega
 rw[ayl,Nat.mod_mod,ayC (b*b % 1000000007),Nat.mod_mod,<-ayC,<-ayl];congr 1;rw[Nat.mul_pow,Nat.mul_assoc,<-ayB]
 conv=>rhs; rw[hm,Nat.pow_succ]
 rw[ayP b,show 2*(m / 2)=m / 2+m / 2 by omega]
theorem ali (o b m:Nat) (h:m % 2=0) :o*(b*b % 1000000007) ^ (m / 2) % 1000000007=o*b ^ m % 1000000007:=by
 have hm:m=2*(m / 2) :=by omega
 rw[ayl,ayC (b*b % 1000000007),Nat.mod_mod,<-ayC,<-ayl];congr 1;rw[Nat.mul_pow,<-ayB]
 conv=>rhs; rw[hm]
 rw[show 2*(m / 2)=m / 2+m / 2 by omega]
theorem Yp (a n:Q) (aA:a.toNat<4294967296) :bz Tryz.prog GS 175 [dq a,dq n,.int .u64 1000000007] (dq (BitVec.ofNat 64 (fX a.toNat n.toNat))) :=by
 refine bL Tryz.checked.mixed bE ?_;apply bp Tryz.func175 [];simp;refine vr (fun m ae _=>∃ o b c:Q,c.toNat=m/\o.toNat<1000000007/\b.toNat<4294967296/\o.toNat*b.toNat ^ m % 1000000007=fX a.toNat n.toNat/\ae 0=dq b/\ae 1=dq c/\ae 2=.int .u64 1000000007/\ae 7=dq o) ?_ n.toNat _ _ ⟨1#64,a,n,rfl,by decide,aA,by simp[fX],by simp; rfl⟩;rintro m ae l ⟨o,b,c,ah,ap,ag,ay,cf,aP,aU,dk⟩;obtain⟨ae,rfl⟩:=i0 cf aP aU dk;clear cf aP aU dk;have jL:(u c:Int)=(m:Int) :=by unfold u; rw[ah]
 by_cases hm:m=0
 ·subst hm;have aD:c=0#64:=av6 (by simpa using ah);simp[aD];refine aL ?_ rfl;rw[Nat.pow_zero,axn,av4 ap] at ay;rw[<-ay,BitVec.ofNat_toNat,BitVec.setWidth_eq]
 ·have AP:c≠0#64:=fun e=>hm (by rw[<-ah,e]; rfl)
  have aM:(0:Int)<u c:=by rw[jL]; omega
  have Vr:(c / 2#64).toNat=m / 2:=by rw[axp,ah]; rfl
  have VT:(c % 2#64).toNat=m % 2:=by rw[aw8,ah]; rfl
  have b9:(b*b % 1000000007#64).toNat<4294967296:=by
   rw[Bz b b ag ag]; have:=axK (b.toNat*b.toNat) (show 1000000007 > 0 by decide); omega
  by_cases V4:m % 2=1
  ·have h1:c % 2#64=1#64:=av6 (by rw[VT,V4]; rfl);simp[aM,IU,YB,Y2,h1,Pu];have e8:o.toNat<4294967296:=by omega
   refine⟨m / 2,by omega,_,_,_,Vr,?_,b9,?_,rfl,rfl,rfl⟩
   ·rw[Bz o b e8 ag]; exact axK _ (by decide)
   ·rw[Bz o b e8 ag,Bz b b ag ag,alj _ _ _ V4,ay]
  ·have h1:c % 2#64=0#64:=av6 (by rw[VT]; simp; omega);simp[aM,IU,YB,Y2,h1,Pu];refine⟨m / 2,by omega,_,_,_,Vr,ap,b9,?_,rfl,rfl,rfl⟩;rw[Bz b b ag ag,ali _ _ _ (by omega),ay]
def gD (a:D) :Bool:=decide (0<a.toNat)&&decide (a.toNat<1000000007)&&decide (fX a.toNat 500000003=1)
theorem Nd (a:D) :bz Tryz.prog GS 199 [bD a] (.bool (gD a)) :=by
 refine bL Tryz.checked.mixed bE ?_;apply bp Tryz.func199 [];unfold gD;have h1:((0:Int)<u a)<->0<a.toNat:=by unfold u; omega
 have ad:(u a<(1000000007:Int))<->a.toNat<1000000007:=by unfold u; omega
 by_cases aP:0<a.toNat
 ·by_cases aU:a.toNat<1000000007
  ·simp[h1,ad,aP,aU];refine a6 (IG a 500000003#64) rfl ?_;have aj:(u (g6 a 500000003)=(1:Int))<->fX a.toNat 500000003=1:=by unfold u; rw[sn]; omega
   have aE:(500000003#64:Q).toNat=500000003:=rfl;rw[aE];simp[aj];exact aL (by simp[aP,aU]) rfl
  ·simp[h1,ad,aP,aU];exact aL rfl rfl
 ·simp[h1,aP];exact aL rfl rfl
theorem YX (a:D) :bz Tryz.prog GS 128 [bD a] (.bool (gD a)) :=by
 refine bL Tryz.checked.mixed bE ?_;apply bp Tryz.func128 [];unfold gD;have h1:((1:Int)<=u a)<->0<a.toNat:=by unfold u; omega
 have ad:(u a<(1000000007:Int))<->a.toNat<1000000007:=by unfold u; omega
 by_cases aP:0<a.toNat
 ·by_cases aU:a.toNat<1000000007
  ·simp[h1,ad,aP,aU];refine a6 (Yp (a.setWidth 64) 500000003#64 (by rw[av9]; omega)) rfl ?_;have aX:(a.setWidth 64:Q).toNat=a.toNat:=by rw[av9]; omega
   have aE:(500000003#64:Q).toNat=500000003:=rfl;have bw:=zD a.toNat 500000003;have aj:(u (BitVec.ofNat 64 (fX a.toNat 500000003))=(1:Int))<->fX a.toNat 500000003=1:=by unfold u; rw[awc,av4 (by omega)]; omega
   rw[aE,aX];simp[aj];exact aL (by simp[aP,aU]) rfl
  ·simp[h1,ad,aP,aU];exact aL rfl rfl
 ·simp[h1,aP];exact aL rfl rfl
def jA (a:D) :Bool:=decide (a.toNat<500000003)
theorem Gl (a:D) :bz Tryz.prog GS 130 [bD a] (.bool (jA a)) :=by
 refine bL Tryz.checked.mixed bE ?_;apply bp Tryz.func130 [];unfold jA;have ad:(u (a.setWidth 64)<(500000003:Int))<->a.toNat<500000003:=by unfold u; rw[av9]; omega
 simp[ad];exact aL rfl rfl
@[simp] theorem aqj (a b:List UInt8) :pn .eql a b=some (.bool (decide (a=b))) :=by
 by_cases h:a=b<;>simp[pn,h]
@[simp] theorem aqm (a b:List UInt8) :pn .neq a b=some (.bool (!decide (a=b))) :=by
 by_cases h:a=b<;>simp[pn,h]
abbrev oP (s:List UInt8) (pos:Nat) :Nat × Nat:=Utf8.decode ⟨s.toArray⟩ pos
theorem Uk (s:List UInt8) (pos:Nat) (b:UInt8) (h:s[pos]? = some b) :(ByteArray.get! ⟨s.toArray⟩ pos)=b:=by
 show (s.toArray)[pos]! = b;obtain⟨h1,ad⟩:=avP.1 h;simp[h1,ad]
theorem adj {s:List UInt8} {pos:Nat} {b:UInt8} (h:s[pos]? = some b) (ag:b.toNat<128) :oP s pos=(b.toNat,1) :=by
 unfold oP;rw[Lib.decode_at,Uk s pos b h];unfold Lib.decodeN;rw[if_pos ag]
theorem adi {s:List UInt8} {pos:Nat} {b:UInt8} (h:s[pos]? = some b) (ag:128<=b.toNat) :128<=(oP s pos).1:=by
 unfold oP;rw[Lib.decode_at,Uk s pos b h];unfold Lib.decodeN;rw[if_neg (by omega)]
 repeat' split
 all_goals (simp only; omega)
theorem Tf (s:List UInt8) (pos:Nat) :1<=(oP s pos).2:=by
 unfold oP;rw[Lib.decode_at];unfold Lib.decodeN
 repeat' split
 all_goals simp only<;>omega
def lA (p:Nat->Bool) (s:List UInt8) :Nat->Nat->Int
 | 0,_=>-1
 | n+1,pos=>if pos<s.length then (if p (oP s pos).1 then (pos:Int) else lA p s n (pos+(oP s pos).2)) else -1
theorem Ni (p:Nat->Bool) (s:List UInt8) :∀ (n pos:Nat),s.length - pos<=n->lA p s n pos=lA p s (s.length - pos) pos
 | 0,pos,h=>by rw[show s.length - pos=0 by omega]
 | n+1,pos,h=>by
  by_cases ay:pos<s.length
  ·have hw:=Tf s pos;rw[show s.length - pos=(s.length - pos - 1)+1 by omega];unfold lA;rw[if_pos ay,if_pos ay,Ni p s n _ (by omega),Ni p s (s.length - pos - 1) _ (by omega)]
  ·rw[show s.length - pos=0 by omega];unfold lA;rw[if_neg ay]
def nP (cV r:Nat) :Bool:=decide (r<cV)||decide (126<r)
def hB (cV:Nat) (b:UInt8) :Bool:=decide (cV<=b.toNat)&&decide (b.toNat<=126)
theorem Nh (cV:Nat) (dL:cV<=128) (s:List UInt8) :∀ (n pos:Nat),s.length - pos<=n->(lA (nP cV) s n pos<0<->(s.drop pos).all (hB cV)=true)
 | 0,pos,h=>by
  rw[awB (by omega)];simp[lA]
 | n+1,pos,h=>by
  unfold lA;by_cases ay:pos<s.length
  ·rw[if_pos ay,awS ay,ay9];have ed:s[pos]? = some s[pos] :=avS ay;obtain⟨b,ag⟩:∃ b,b=s[pos] :=⟨_,rfl⟩
   rw[<-ag] at ed ⊢;by_cases ak:b.toNat<128
   ·rw[adj ed ak];simp only;have c1:hB cV b=!nP cV b.toNat:=by
     unfold hB nP;by_cases h1:b.toNat<cV<;>by_cases ad:126<b.toNat<;>simp[h1,ad]<;>omega
    cases oS:nP cV b.toNat with
    | true=>rw[c1,oS]; simp
    | false=>
     rw[c1,oS];simp only[axf,if_false,Bool.not_false,awL];exact Nh cV dL s n (pos+1) (by omega)
   ·have aq:=adi ed (by omega);have oS:nP cV (oP s pos).1=true:=by unfold nP; simp; omega
    have c1:hB cV b=false:=by unfold hB; simp; omega
    rw[oS,c1]; simp
  ·rw[if_neg ay,awB (by omega)];simp
theorem aki {s:List UInt8} {pos:Nat} {r:am} (h:pos<s.length) :vx (.iter s pos::r) (.it 0)=some (.bG [.bool true,.int .i64 pos,.int .i32 (oP s pos).1],.iter s (pos+(oP s pos).2) ::r) :=by
 unfold vx;simp only[awk];rw[show Nat.blt pos s.length=true from Nat.ble_eq_true_of_le h];rfl
theorem akh {s:List UInt8} {pos:Nat} {r:am} (h:¬ pos<s.length) :vx (.iter s pos::r) (.it 0)=some (.bG [.bool false],.iter s pos::r) :=by
 unfold vx;simp only[awk];rw[show Nat.blt pos s.length=false by cases ag:Nat.blt pos s.length with | false=>rfl | true=>exact absurd (awU ag) h]
theorem aiG {g:FuncId} {p:Nat->Bool} (aq:hQ Tryz.prog g=true) (ay:∀ r:Nat,bz Tryz.prog GS g [.int .i32 r] (.bool (p r))) (s:List UInt8) :
  bz Tryz.prog GS 251 [.str s,.fn g [] [],.bool true] (.int .i64 (lA p s s.length 0)) :=by
 refine bL Tryz.checked.mixed bE ?_;apply bp Tryz.func251 [];simp[BO];refine vr (fun m ae l=>∃ pos,s.length - pos=m/\lA p s m pos=lA p s s.length 0/\ae 1=.fn g [] []/\ae 2=.bool true/\ae 10=.it 0/\l=[.iter s pos]) ?_ s.length _ _ ⟨0,by simp⟩;rintro m ae l ⟨pos,hm,av,aP,aU,fI,rfl⟩;obtain⟨ae,rfl⟩:=kj aP aU fI;clear aP aU fI;by_cases h:pos<s.length
 ·have go:m=(m - 1)+1:=by omega
  have hw:=Tf s pos;obtain⟨R,gA⟩:∃ R,R=lA p s s.length 0:=⟨_,rfl⟩
  rw[<-gA] at av ⊢;rw[go] at av;unfold lA at av;rw[if_pos h] at av;simp[aki h];refine⟨aq,a6 (ay _) rfl ?_⟩;cases ag:p (oP s pos).1 with
  | true=>
   rw[ag] at av;simp;exact aL (by rw[<-av]; simp) rfl
  | false=>
   rw[ag] at av;simp;refine⟨s.length - (pos+(oP s pos).2),by omega,pos+(oP s pos).2,rfl,?_,by simp,by simp,by simp,by simp⟩;rw[<-av];simp only[axf,if_false];rw[Ni p s (m - 1) _ (by omega)]
 ·have je:m=0:=by omega
  subst je;simp[akh h];exact aL (by rw[<-av]; rfl) rfl
theorem ZO {g:FuncId} {p:Nat->Bool} (aq:hQ Tryz.prog g=true) (ay:∀ r:Nat,bz Tryz.prog GS g [.int .i32 r] (.bool (p r))) (s:List UInt8) :
  bz Tryz.prog GS 218 [.str s,.fn g [] []] (.int .i64 (lA p s s.length 0)) :=by
 refine bL Tryz.checked.mixed bE ?_;apply bp Tryz.func218 [];simp;refine a6 (aiG aq ay s) rfl ?_;simp;exact aL rfl rfl
theorem ajr (r:Nat) :bz Tryz.prog GS 219 [.int .i32 r] (.bool (nP 33 r)) :=by
 refine bL Tryz.checked.mixed bE ?_;apply bp Tryz.func219 [];unfold nP;have h1:((r:Int)<33)<->r<33:=by omega
 have ad:((126:Int)<r)<->126<r:=by omega
 by_cases h:r<33
 ·simp[h1,h];exact aL rfl rfl
 ·simp[h1,h,ad];exact aL rfl rfl
theorem anQ (r:Nat) :bz Tryz.prog GS 221 [.int .i32 r] (.bool (nP 32 r)) :=by
 refine bL Tryz.checked.mixed bE ?_;apply bp Tryz.func221 [];unfold nP;have h1:((r:Int)<32)<->r<32:=by omega
 have ad:((126:Int)<r)<->126<r:=by omega
 by_cases h:r<32
 ·simp[h1,h];exact aL rfl rfl
 ·simp[h1,h,ad];exact aL rfl rfl
theorem aeg:hQ Tryz.prog 219=true:=by kernel_rfl
theorem ael:hQ Tryz.prog 221=true:=by kernel_rfl
def gM (s:List UInt8) :Bool:=decide (1<=s.length)&&decide (s.length<=20)&&s.all (hB 33)
theorem Nr (s:List UInt8) :bz Tryz.prog GS 157 [.str s] (.bool (gM s)) :=by
 refine bL Tryz.checked.mixed bE ?_;apply bp Tryz.func157 [];unfold gM;have h1:((1:Int)<=s.length)<->1<=s.length:=by omega
 have ad:((s.length:Int)<=20)<->s.length<=20:=by omega
 by_cases aP:1<=s.length
 ·by_cases aU:s.length<=20
  ·simp[h1,ad,aP,aU];refine a6 (ZO aeg ajr s) rfl ?_;have:=Nh 33 (by omega) s s.length 0 (by omega);rw[aw2] at this;have aj:decide (lA (nP 33) s s.length 0<0)=s.all (hB 33) :=by
    cases ag:s.all (hB 33) with
    | true=>simpa using this.2 ag
    | false=>
     have:¬ lA (nP 33) s s.length 0<0:=fun h=>by rw[this.1 h] at ag; cases ag
     simpa using this
   simp;rw[aj];exact aL (by simp[aP,aU]) rfl
  ·simp[h1,ad,aP,aU];exact aL (by simp[aP,aU]) rfl
 ·simp[h1,aP];exact aL (by simp[aP]) rfl
theorem P7 {s:List UInt8} {p:UInt8->Bool} {k:Nat} {b:UInt8} (h:s[k]? = some b) :(s.take (k+1)).all p=((s.take k).all p&&p b) :=by
 rw[av7,h]; simp[List.all_append]
theorem FJ {s:List UInt8} {p:UInt8->Bool} {k:Nat} {b:UInt8} (h:s[k]? = some b) (ay:p b=false) :s.all p=false:=by
 rw[List.all_eq_false];exact⟨b,avY h,by simp[ay]⟩
theorem EC (s:List UInt8) :bz Tryz.prog GS 108 [.str s] (.bool (gM s)) :=by
 refine bL Tryz.checked.mixed bE ?_;apply bp Tryz.func108 [];have h1:((s.length:Int)<1)<->¬ 1<=s.length:=by omega
 have ad:((20:Int)<s.length)<->¬ s.length<=20:=by omega
 by_cases aP:1<=s.length
 ·by_cases aU:s.length<=20
  ·simp[h1,ad,aP,aU];refine cI s.length (fun k ae _=>ae 0=.str s/\ae 3=.int .i64 k/\(s.take k).all (hB 33)=true) ?_ (by simp);rintro k ae l hk ⟨h2,dF,eQ⟩;obtain⟨ae,rfl⟩:=p2 h2 dF;clear h2 dF;by_cases h:k<s.length
   ·obtain⟨b,ag,_⟩:=bx h;have fB:IntKind.i64.wrap ((k:Int)+1)=(k+1:Nat) :=wrap_i64 (by omega) (by omega);have de:((b.toNat:Int)<33)<->¬ 33<=b.toNat:=by omega
    have df:((126:Int)<b.toNat)<->¬ b.toNat<=126:=by omega
    have fJ:ze (.str s) (.int .i64 k)=some (.int .u8 b.toNat) :=by simp[ag,jx]
    by_cases q1:33<=b.toNat
    ·by_cases ft:b.toNat<=126
     ·have c1:hB 33 b=true:=by simp[hB,q1,ft]
      simp[h,fJ,de,df,q1,ft,fB,P7 ag,c1,-Bv];simpa using eQ
     ·have c1:hB 33 b=false:=by simp[hB,ft]
      simp[h,fJ,de,df,q1,ft,-Bv];exact aL (by simp[gM,FJ ag c1]) rfl
    ·have c1:hB 33 b=false:=by simp[hB,q1]
     simp[h,fJ,de,q1,-Bv];exact aL (by simp[gM,FJ ag c1]) rfl
   ·have fe:k=s.length:=by omega
    subst fe;rw[awi] at eQ;simp;exact aL (by simp only[gM,eQ]; simp[aP,aU]) rfl
  ·simp[h1,ad,aP,aU];exact aL (by simp[gM,aU]) rfl
 ·simp[h1,aP];exact aL (by simp[gM,aP]) rfl
theorem ak7 (s:List UInt8) (al:s.length<=1000000000) :bz Tryz.prog GS 163 [.str s] (.bool (s.all (hB 32))) :=by
 refine bL Tryz.checked.mixed bE ?_;apply bp Tryz.func163 [];simp;refine cI s.length (fun k ae _=>ae 0=.str s/\ae 3=.int .i64 k/\(s.take k).all (hB 32)=true) ?_ (by simp);rintro k ae l hk ⟨h2,dF,eQ⟩;obtain⟨ae,rfl⟩:=p2 h2 dF;clear h2 dF;by_cases h:k<s.length
 ·obtain⟨b,ag,_⟩:=bx h;have fB:IntKind.i64.wrap ((k:Int)+1)=(k+1:Nat) :=wrap_i64 (by omega) (by omega);have de:((b.toNat:Int)<32)<->¬ 32<=b.toNat:=by omega
  have df:((126:Int)<b.toNat)<->¬ b.toNat<=126:=by omega
  have fJ:ze (.str s) (.int .i64 k)=some (.int .u8 b.toNat) :=by simp[ag,jx]
  by_cases q1:32<=b.toNat
  ·by_cases ft:b.toNat<=126
   ·have c1:hB 32 b=true:=by simp[hB,q1,ft]
    simp[h,fJ,de,df,q1,ft,fB,P7 ag,c1,-Bv];simpa using eQ
   ·have c1:hB 32 b=false:=by simp[hB,ft]
    simp[h,fJ,de,df,q1,ft,-Bv];exact aL (by simp only[FJ ag c1]) rfl
  ·have c1:hB 32 b=false:=by simp[hB,q1]
   simp[h,fJ,de,q1,-Bv];exact aL (by simp only[FJ ag c1]) rfl
 ·have fe:k=s.length:=by omega
  subst fe;rw[awi] at eQ;simp;exact aL (by simp only[eQ]) rfl
structure hY where
 kind:B
 num:Int
 bits:Q
 text:List UInt8
def eb (v:hY) :List U:=[bF v.kind,.int .i64 v.num,dq v.bits,.str v.text]
def pd:hY:=⟨0#8,0,0#64,[]⟩
def kv (b:Q) :Nat:=b.toNat / 4503599627370496 % 2048
def qo (b:Q) :Q:=b % 4503599627370496#64
def cls (b:Q) :B:=if kv b=2047 then (if qo b=0#64 then 4#8 else 5#8) else if kv b=0 then (if qo b=0#64 then 1#8 else 2#8) else 3#8
def nT (b:Q) :Q:=if cls b=5#8 then 9221120237041090560#64 else b
theorem iL (k:B) :((u k:Int)=1)<->k=1#8:=sw k 1#8
theorem mu (k:B) :((u k:Int)=2)<->k=2#8:=sw k 2#8
theorem p1 (k:B) :((u k:Int)=3)<->k=3#8:=sw k 3#8
theorem xT (k:B) :((u k:Int)=4)<->k=4#8:=sw k 4#8
theorem Jh (k:B) :((u k:Int)=5)<->k=5#8:=sw k 5#8
theorem aoj (k:B) :((u k:Int)=0)<->k=0#8:=sw k 0#8
theorem vC (k:Q) :((u k:Int)=0)<->k=0#64:=sw k 0#64
theorem Tz (b:Q) :kv b<2048:=axK _ (by decide)
theorem abJ (n:Nat) (h:n<9223372036854775808) :cD .and .i64 (n:Int) .i64 2047=some (.int .i64 ((n % 2048:Nat) :Int)) :=by
 show some (U.int .i64 (IntKind.i64.wrap ((BitVec.ofInt 64 (n:Int) &&& BitVec.ofInt 64 (2047:Int)).toNat:Int)))=_;have h1:(BitVec.ofInt 64 (n:Int) &&& BitVec.ofInt 64 (2047:Int)).toNat=n % 2048:=by
  rw[axh,ayn,awc,av4 (by omega)];exact ayu n 11
 have ad:=axK n (show 2048 > 0 by decide);rw[h1];generalize n % 2048=q at ad;rw[wrap_i64 (by omega) (by omega)]
theorem aeu (b:Q) :b &&& 4503599627370495#64=qo b:=by
 apply av6;unfold qo;rw[ayn,aw8];exact ayu b.toNat 52
theorem anh (b:Q) :bz Tryz.prog GS 264 [dq b] (.bG [.int .i64 (kv b),dq (qo b)]) :=by
 refine bL Tryz.checked.mixed bE ?_;apply bp Tryz.func264 [];have ag:=b.isLt;have h1:IntKind.i64.wrap (u (b >>> 52))=((b.toNat / 4503599627370496:Nat) :Int) :=by
  have:u (b >>> 52)=((b.toNat / 4503599627370496:Nat) :Int) :=by unfold u; rw[awH,awj]
  rw[this,wrap_i64 (by omega) (by omega)]
 have ad:=abJ (b.toNat / 4503599627370496) (by omega);have ao:kv b=b.toNat / 4503599627370496 % 2048:=rfl;rw[<-ao] at ad;obtain⟨q,aW⟩:∃ q,b.toNat / 4503599627370496=q:=⟨_,rfl⟩
 rw[aW] at h1 ad;have aj:cD .and .u64 (u b) .u64 4503599627370495=some (dq (qo b)) :=by
  rw[Qr,m0,<-aeu]; rfl
 have aE:cD .shr .u64 (u b) .u64 52=some (.int .u64 (u (b >>> 52))) :=uA b .u64 52;simp[aE,h1,ad,aj,-Qr];exact aL rfl rfl
theorem al5 (b:Q) :bz Tryz.prog GS 253 [dq b] (.int .i64 (kv b)) :=by
 refine bL Tryz.checked.mixed bE ?_;apply bp Tryz.func253 [];have ag:=b.isLt;have h1:cD .rem .u64 (u b) .u64 9223372036854775808=some (dq (b % 9223372036854775808#64)) :=Ai b 9223372036854775808#64 (by decide);have ad:cD .quo .u64 (u (b % 9223372036854775808#64)) .u64 4503599627370496=some (dq (b % 9223372036854775808#64 / 4503599627370496#64)) :=Of _ 4503599627370496#64 (by decide);have aj:IntKind.i64.wrap (u (b % 9223372036854775808#64 / 4503599627370496#64))=(kv b:Int) :=by
  have:u (b % 9223372036854775808#64 / 4503599627370496#64)=(kv b:Int) :=by
   unfold u kv;rw[axp,aw8];show (((b.toNat % 9223372036854775808) / 4503599627370496:Nat) :Int)=_;congr 1;omega
  have aE:=Tz b;rw[this,wrap_i64 (by omega) (by omega)]
 simp[h1,ad,aj];exact aL rfl rfl
theorem al6 (b:Q) :bz Tryz.prog GS 254 [dq b] (dq (qo b)) :=by
 refine bL Tryz.checked.mixed bE ?_;apply bp Tryz.func254 [];have h1:cD .rem .u64 (u b) .u64 4503599627370496=some (dq (qo b)) :=Ai b 4503599627370496#64 (by decide);simp[h1];exact aL rfl rfl
theorem acP (b:Q) :bz Tryz.prog GS 252 [dq b] (bF (cls b)) :=by
 refine bL Tryz.checked.mixed bE ?_;apply bp Tryz.func252 [];unfold cls;simp;refine a6 (anh b) rfl ?_;have h1:((kv b:Int)=2047)<->kv b=2047:=by omega
 have ad:((kv b:Int)=0)<->kv b=0:=by omega
 by_cases aP:kv b=2047
 ·by_cases aU:qo b=0#64
  ·simp[h1,aP,aU];exact aL rfl rfl
  ·simp[h1,aP,aU,vC];exact aL rfl rfl
 ·by_cases a8:kv b=0
  ·by_cases aU:qo b=0#64
   ·simp[h1,ad,aP,aU,a8];exact aL rfl rfl
   ·simp[h1,ad,aP,aU,a8,vC];exact aL rfl rfl
  ·simp[h1,ad,aP,a8];exact aL rfl rfl
theorem al4 (b:Q) :bz Tryz.prog GS 222 [dq b] (bF (cls b)) :=by
 refine bL Tryz.checked.mixed bE ?_;apply bp Tryz.func222 [];unfold cls;simp;refine a6 (al5 b) rfl ?_;simp;refine a6 (al6 b) rfl ?_;have ad:((kv b:Int)=0)<->kv b=0:=by omega
 have aj:((kv b:Int)<2047)<->¬ kv b=2047:=by have:=Tz b; omega
 by_cases a8:kv b=0
 ·by_cases aU:qo b=0#64
  ·simp[ad,aU,a8];exact aL rfl rfl
  ·simp[ad,aU,a8,vC];exact aL rfl rfl
 ·by_cases aP:kv b=2047
  ·by_cases aU:qo b=0#64
   ·simp[ad,aj,aP,aU];exact aL rfl rfl
   ·simp[ad,aj,aP,aU,vC];exact aL rfl rfl
  ·simp[ad,aj,aP,a8];exact aL rfl rfl
theorem acC (b:Q) :bz Tryz.prog GS 220 [dq b] (dq (nT b)) :=by
 refine bL Tryz.checked.mixed bE ?_;apply bp Tryz.func220 [];unfold nT;simp;refine a6 (acP b) rfl ?_;by_cases h:cls b=5#8
 ·simp[Jh,h];exact aL rfl rfl
 ·simp[Jh,h];exact aL rfl rfl
theorem al2 (b:Q) :bz Tryz.prog GS 162 [dq b] (dq (nT b)) :=by
 refine bL Tryz.checked.mixed bE ?_;apply bp Tryz.func162 [];unfold nT;simp;refine a6 (al4 b) rfl ?_;by_cases h:cls b=5#8
 ·simp[Jh,h];exact aL rfl rfl
 ·simp[Jh,h];exact aL rfl rfl
theorem aop (n:Int) :bz Tryz.prog GS 158 [.int .i64 n] (.aH (eb ⟨1#8,n,0#64,[]⟩)) :=by
 refine bL Tryz.checked.mixed bE ?_;apply bp Tryz.func158 [];simp;exact aL rfl rfl
theorem aoo (b:Q) :bz Tryz.prog GS 159 [dq b] (.aH (eb ⟨2#8,0,nT b,[]⟩)) :=by
 refine bL Tryz.checked.mixed bE ?_;apply bp Tryz.func159 [];simp;refine a6 (acC b) rfl ?_;simp;exact aL rfl rfl
def uc (s:List UInt8) :hY × Int:=if s.length<=30 then (if s.all (hB 32) then (⟨3#8,0,0#64,s⟩,0) else (pd,8)) else (pd,4)
theorem aoq (s:List UInt8) :bz Tryz.prog GS 160 [.str s] (.bG [.aH (eb (uc s).1),.int .i64 (uc s).2]) :=by
 refine bL Tryz.checked.mixed bE ?_;apply bp Tryz.func160 [];unfold uc;have ad:((30:Int)<s.length)<->¬ s.length<=30:=by omega
 by_cases aU:s.length<=30
 ·simp[ad,aU];refine a6 (ZO ael anQ s) rfl ?_;have aj:=Nh 32 (by omega) s s.length 0 (by omega);rw[aw2] at aj;have aE:((0:Int)<=lA (nP 32) s s.length 0)<->¬ (s.all (hB 32)=true) :=by rw[<-aj]; omega
  cases ag:s.all (hB 32) with
  | true=>
   have aX:¬ (0:Int)<=lA (nP 32) s s.length 0:=by rw[aE,ag]; simp
   simp[aX];exact aL (by simp[aU]; rfl) rfl
  | false=>
   have aX:(0:Int)<=lA (nP 32) s s.length 0:=by rw[aE,ag]; simp
   simp[aX];exact aL (by simp[aU]; rfl) rfl
 ·simp[ad,aU];exact aL rfl rfl
def jX (v:hY) :Bool:=
 if v.kind=1#8 then decide (v.bits=0#64)&&decide (v.text=[])
 else if v.kind=2#8 then decide (v.num=0)&&decide (v.text=[])&&decide (nT v.bits=v.bits)
 else if v.kind=3#8 then decide (v.num=0)&&decide (v.bits=0#64)&&decide (v.text.length<=30)&&v.text.all (hB 32)
 else false
def gI (b:Bool) :Int:=if b then 0 else 8
def ajh:List mx:=[.i .u8,.i .i64,.i .u64,.s]
theorem Xe:r7 Tryz.prog 20 42=some ajh:=by kernel_rfl
theorem aor (a b:hY) :gH Tryz.prog .eql 42 (.aH (eb a)) (.aH (eb b))=some (.bool (fD (eb a) (eb b))) :=J2 Xe (by kernel_rfl) (by kernel_rfl) rfl rfl
theorem aos (a b:hY) :gH Tryz.prog .neq 42 (.aH (eb a)) (.aH (eb b))=some (.bool (!fD (eb a) (eb b))) :=FT Xe (by kernel_rfl) (by kernel_rfl) rfl rfl
theorem Qy (a b:hY) :fD (eb a) (eb b)=(decide (a.kind=b.kind)&&(decide (a.num=b.num)&&(decide (a.bits=b.bits)&&decide (a.text=b.text)))) :=by
 simp[eb,fD,U.beq]
theorem Px {v:hY} (k:v.kind=1#8) :jX v=(decide (v.bits=0#64)&&decide (v.text=[])) :=by simp[jX,k]
theorem Py {v:hY} (k:v.kind=2#8) :jX v=(decide (v.num=0)&&(decide (v.bits=nT v.bits)&&decide (v.text=[]))) :=by
 unfold jX;rw[if_neg (by rw[k]; decide),if_pos k,show decide (nT v.bits=v.bits)=decide (v.bits=nT v.bits) from decide_eq_decide.2 eq_comm];cases decide (v.num=0)<;>cases decide (v.text=[])<;>cases decide (v.bits=nT v.bits)<;>rfl
theorem aas {v:hY} (k:v.kind=3#8) :jX v=(decide (v.kind=(uc v.text).1.kind)&&(decide (v.num=(uc v.text).1.num)&&(decide (v.bits=(uc v.text).1.bits)&&decide (v.text=(uc v.text).1.text)))) :=by
 unfold jX uc;rw[if_neg (by rw[k]; decide),if_neg (by rw[k]; decide),if_pos k];by_cases h1:v.text.length<=30
 ·cases ad:v.text.all (hB 32) with
  | true=>simp[h1,k]
  | false=>simp[h1,k,pd]
 ·simp[h1,k,pd]
theorem Pz {v:hY} (ce:v.kind≠1#8) (bP:v.kind≠2#8) (dn:v.kind≠3#8) :jX v=false:=by simp[jX,ce,bP,dn]
theorem Pw (v:hY) :bz Tryz.prog GS 105 [.aH (eb v)] (.int .i64 (gI (jX v))) :=by
 refine bL Tryz.checked.mixed bE ?_;apply bp Tryz.func105 [];have aw:∀ (k:B) (n:Int) (b:Q) (t:List UInt8),gH Tryz.prog .neq 42 (.aH [bF v.kind,.int .i64 v.num,dq v.bits,.str v.text]) (.aH [bF k,.int .i64 n,dq b,.str t])=some (.bool (!(decide (v.kind=k)&&(decide (v.num=n)&&(decide (v.bits=b)&&decide (v.text=t)))))) :=fun k n b t=>by rw[<-Qy v ⟨k,n,b,t⟩]; exact aos v ⟨k,n,b,t⟩
 by_cases ce:v.kind=1#8
 ·have h1:=aw 1#8 v.num 0#64 [];simp only[ce] at h1;unfold eb;simp[iL,ce];refine a6 (aop v.num) rfl ?_;unfold eb;simp[h1];rw[Px ce];cases decide (v.bits=0#64)<;>cases decide (v.text=[])<;>simp[ce]<;>exact aL rfl rfl
 ·by_cases bP:v.kind=2#8
  ·have h1:=aw 2#8 0 (nT v.bits) [];simp only[bP] at h1;unfold eb;simp[iL,mu,bP];refine a6 (aoo v.bits) rfl ?_;unfold eb;simp[h1];rw[Py bP];cases decide (v.num=0)<;>cases decide (v.bits=nT v.bits)<;>cases decide (v.text=[])<;>simp[bP]<;>exact aL rfl rfl
  ·by_cases dn:v.kind=3#8
   ·obtain⟨w,hw⟩:∃ w,w=(uc v.text).1:=⟨_,rfl⟩
    have h1:=aw w.kind w.num w.bits w.text;have aj:=aas dn;rw[<-hw] at aj;simp only[dn] at h1 aj;unfold eb;simp[iL,mu,p1,dn];refine a6 (aoq v.text) rfl ?_;rw[<-hw];unfold eb;simp[h1];rw[aj];cases decide (3#8=w.kind)<;>cases decide (v.num=w.num)<;>cases decide (v.bits=w.bits)<;>cases decide (v.text=w.text)<;>simp[dn]<;>exact aL rfl rfl
   ·have h1:gH Tryz.prog .neq 42 (.aH [bF v.kind,.int .i64 v.num,dq v.bits,.str v.text]) (.aH [.int .u8 0,.int .i64 0,.int .u64 0,.str []])=some (.bool (!(decide (v.kind=0#8)&&(decide (v.num=0)&&(decide (v.bits=0#64)&&decide (v.text=[])))))) :=aw 0#8 0 0#64 [];rw[Pz ce bP dn];unfold eb;simp[iL,mu,p1,ce,bP,dn];by_cases g3:v.kind=0#8
    ·simp only[g3,decide_true,awL] at h1;simp[g3,h1];cases decide (v.num=0)<;>cases decide (v.bits=0#64)<;>cases decide (v.text=[])<;>simp[g3]<;>exact aL rfl rfl
    ·simp only[g3,decide_false,awR,Bool.not_false] at h1;simp[h1];exact aL rfl rfl
theorem YZ (v:hY) :bz Tryz.prog GS 110 [.aH (eb v)] (.int .i64 (gI (jX v))) :=by
 refine bL Tryz.checked.mixed bE ?_;apply bp Tryz.func110 [[[0],[1],[2],[3],[4],[5],[6],[7],[8],[9],[10],[12],[13],[11,13]]];by_cases ce:v.kind=1#8
 ·rw[Px ce];unfold eb;simp[iL,ce,vC];by_cases aP:v.bits=0#64<;>by_cases aU:v.text=[]<;>simp[aP,aU,vC]<;>exact aL rfl rfl
 ·by_cases bP:v.kind=2#8
  ·rw[Py bP];unfold eb;simp[iL,mu,bP];by_cases aP:v.num=0
   ·by_cases aU:v.text=[]
    ·simp[aP,aU];refine a6 (al2 v.bits) rfl ?_;by_cases a8:v.bits=nT v.bits
     ·have bA:nT v.bits=v.bits:=a8.symm;simp[bA];exact aL (by simp[gI,aP,aU,bA]) rfl
     ·have bA:¬ nT v.bits=v.bits:=fun h=>a8 h.symm
      simp[a8,bA];exact aL (by simp[gI,a8]) rfl
    ·simp[aP,aU];exact aL rfl rfl
   ·simp[aP];exact aL rfl rfl
  ·by_cases dn:v.kind=3#8
   ·have au:jX v=(decide (v.num=0)&&decide (v.bits=0#64)&&decide (v.text.length<=30)&&v.text.all (hB 32)) :=by simp[jX,dn]
    have ad:((v.text.length:Int)<=30)<->v.text.length<=30:=by omega
    rw[au];unfold eb;simp[iL,mu,p1,dn,vC];by_cases aP:v.num=0
    ·by_cases aU:v.bits=0#64
     ·by_cases a8:v.text.length<=30
      ·simp[aP,aU,ad,a8];refine a6 (ak7 v.text (by omega)) rfl ?_;cases v.text.all (hB 32)<;>simp<;>exact aL (by simp[gI,aP,aU,a8]) rfl
      ·simp[aP,aU,ad,a8];exact aL rfl rfl
     ·simp[aP,aU,vC];exact aL rfl rfl
    ·simp[aP];exact aL rfl rfl
   ·rw[Pz ce bP dn];unfold eb;simp[iL,mu,p1,ce,bP,dn];exact aL rfl rfl
structure Act where
 kind:B
 key:List UInt8
 val:hY
def lT (a:Act) :List U:=[bF a.kind,.str a.key,bF a.val.kind,.int .i64 a.val.num,dq a.val.bits,.str a.val.text]
def oq (v:hY) :Bool:=decide (v.kind=0#8)&&(decide (v.num=0)&&(decide (v.bits=0#64)&&decide (v.text=[])))
def kr (a:Act) :Bool:=
 if a.kind=1#8 then decide (a.key=[])&&oq a.val
 else if a.kind=2#8\/a.kind=3#8 then gM a.key&&oq a.val
 else if a.kind=4#8 then gM a.key&&jX a.val
 else false
def qY:List mx:=[.i .u8,.s,.i .u8,.i .i64,.i .u64,.s]
theorem ajv:r7 Tryz.prog 20 78=some qY:=by kernel_rfl
theorem abw (a b:Act) :gH Tryz.prog .eql 78 (.aH (lT a)) (.aH (lT b))=some (.bool (fD (lT a) (lT b))) :=J2 ajv (by kernel_rfl) (by kernel_rfl) rfl rfl
theorem abx (a:Act) (h:a.kind=1#8) :gH Tryz.prog .eql 78 (.aH [.int .u8 1,.str a.key,bF a.val.kind,.int .i64 a.val.num,dq a.val.bits,.str a.val.text]) (.aH [.int .u8 1,.str [],.int .u8 0,.int .i64 0,.int .u64 0,.str []])=some (.bool (decide (a.key=[])&&oq a.val)) :=by
 have:=abw a ⟨1#8,[],pd⟩;simp only[lT,h] at this;refine Eq.trans this ?_;simp[fD,U.beq,oq,pd,aoj,vC];congr
theorem aar (v:hY) :gH Tryz.prog .eql 42 (.aH [bF v.kind,.int .i64 v.num,dq v.bits,.str v.text]) (.aH [.int .u8 0,.int .i64 0,.int .u64 0,.str []])=some (.bool (oq v)) :=by
 have:=aor v pd;rw[Qy] at this;exact this
theorem PZ {a:Act} (k:a.kind=1#8) :kr a=(decide (a.key=[])&&oq a.val) :=by simp[kr,k]
theorem Cs {a:Act} (k:a.kind=2#8) :kr a=(gM a.key&&oq a.val) :=by simp[kr,k]
theorem JN {a:Act} (k:a.kind=3#8) :kr a=(gM a.key&&oq a.val) :=by simp[kr,k]
theorem Ct {a:Act} (k:a.kind=4#8) :kr a=(gM a.key&&jX a.val) :=by simp[kr,k]
theorem JO {a:Act} (ce:a.kind≠1#8) (bP:a.kind≠2#8) (dn:a.kind≠3#8) (dG:a.kind≠4#8) :kr a=false:=by simp[kr,ce,bP,dn,dG]
theorem Kj (a:Act) :bz Tryz.prog GS 104 [.aH (lT a)] (.int .i64 (gI (kr a))) :=by
 refine bL Tryz.checked.mixed bE ?_;apply bp Tryz.func104 [];by_cases ce:a.kind=1#8
 ·have h1:=abx a ce;have aR:bF (1#8)=.int .u8 1:=rfl;rw[PZ ce];unfold lT;simp[iL,ce,aR,h1];by_cases aP:a.key=[]<;>cases aU:oq a.val<;>simp[aP,aU]<;>exact aL rfl rfl
 ·have h1:=aar a.val;by_cases bP:a.kind=2#8
  ·rw[Cs bP];unfold lT;simp[iL,mu,p1,ce,bP];refine a6 (Nr a.key) rfl ?_;cases gM a.key with
   | true=>simp[h1]; cases oq a.val<;>simp<;>exact aL rfl rfl
   | false=>simp; exact aL rfl rfl
  ·by_cases dn:a.kind=3#8
   ·rw[JN dn];unfold lT;simp[iL,mu,p1,ce,dn];refine a6 (Nr a.key) rfl ?_;cases gM a.key with
    | true=>simp[h1]; cases oq a.val<;>simp<;>exact aL rfl rfl
    | false=>simp; exact aL rfl rfl
   ·by_cases dG:a.kind=4#8
    ·rw[Ct dG];unfold lT;simp[iL,mu,p1,xT,dG];refine a6 (Nr a.key) rfl ?_;cases gM a.key with
     | true=>
      simp;refine a6 (Pw a.val) rfl ?_;cases jX a.val<;>simp[gI]<;>exact aL rfl rfl
     | false=>simp; exact aL rfl rfl
    ·rw[JO ce bP dn dG];unfold lT;simp[iL,mu,p1,xT,ce,bP,dn,dG];exact aL rfl rfl
theorem al3 (a:Act) :bz Tryz.prog GS 129 [.aH (lT a)] (.int .i64 (gI (kr a))) :=by
 refine bL Tryz.checked.mixed bE ?_;apply bp Tryz.func129 [];have h1:=aar a.val;by_cases ce:a.kind=1#8
 ·rw[PZ ce];unfold lT;simp[iL,ce,h1];by_cases aP:a.key=[]<;>cases aU:oq a.val<;>simp[aP,aU]<;>exact aL rfl rfl
 ·by_cases bP:a.kind=2#8
  ·rw[Cs bP];unfold lT;simp[iL,mu,p1,ce,bP,h1];refine a6 (EC a.key) rfl ?_;cases gM a.key with
   | true=>simp; cases oq a.val<;>simp<;>exact aL rfl rfl
   | false=>simp; exact aL rfl rfl
  ·by_cases dn:a.kind=3#8
   ·rw[JN dn];unfold lT;simp[iL,mu,p1,ce,dn,h1];refine a6 (EC a.key) rfl ?_;cases gM a.key with
    | true=>simp; cases oq a.val<;>simp<;>exact aL rfl rfl
    | false=>simp; exact aL rfl rfl
   ·by_cases dG:a.kind=4#8
    ·rw[Ct dG];unfold lT;simp[iL,mu,p1,xT,dG,h1];refine a6 (EC a.key) rfl ?_;cases gM a.key with
     | true=>
      simp;refine a6 (YZ a.val) rfl ?_;cases jX a.val<;>simp[gI]<;>exact aL rfl rfl
     | false=>simp; exact aL rfl rfl
    ·rw[JO ce bP dn dG];unfold lT;simp[iL,mu,p1,xT,ce,bP,dn,dG,h1];exact aL rfl rfl
end Op

end Go.cb

namespace Go.cb
open Go Go.Proofs
set_option maxRecDepth 100000
def cu {α:Type} (z:Nat) (enc:α->List U) (l l1:am) (v:U) (a:List α) (hd:Bool) :Prop:=
 ∃ j,bH z l1 v j (a.map enc)/\l.length<=l1.length/\(∀ b,b<l.length->l1[b]? = l[b]?)/\(v=.aT\/l.length<=j)/\cw v=hd
section
variable {α:Type} {z:Nat} {enc:α->List U} {l l1:am} {v:U} {a:List α} {hd:Bool}
theorem cu.nil:cu z enc l l .aT ([] :List α) true:=⟨0,.nil 0,avR _,fun _ _=>rfl,.inl rfl,rfl⟩
theorem cu.more (h:cu z enc l l1 v a hd) (r:am) :cu z enc l (l1++r) v a hd:=by
 obtain⟨j,h1,ad,aj,aE,aX⟩:=h;exact⟨j,h1.more r,by simp; omega,fun b ag=>by rw[avQ (by omega)]; exact aj b ag,aE,aX⟩
theorem cu.len (h:cu z enc l l1 v a hd) :cK (.ar z) v=some (.int .i64 a.length) :=by
 obtain⟨j,h1,_⟩:=h;rw[h1.len,av8]
theorem cu.cells (h:cu z enc l l1 v a hd) :v.cells=some [v] :=by
 obtain⟨j,h1,_⟩:=h;exact h1.cells
theorem cu.contents (h:cu z enc l l1 v a hd) :dE l1 z v=some ((a.map enc).flatten,a.length) :=by
 obtain⟨j,h1,_⟩:=h;rw[h1.contents,av8]
theorem cu.le (h:cu z enc l l1 v a hd) :l.length<=l1.length:=by obtain⟨j,h1,ad,_⟩:=h; exact ad
theorem cu.same (h:cu z enc l l1 v a hd) :∀ b,b<l.length->l1[b]? = l[b]?:=by obtain⟨j,h1,ad,aj,_⟩:=h; exact aj
theorem cu.sq (h:cu z enc l l1 v a hd) (aF:∀ x,bd (enc x)=true) (s:cQ α) (ak:hd=s.isNone) (af:s.l=a) :gh (bW l1) v (cB z enc s) :=by
 obtain⟨j,h1,ad,aj,aE,aX⟩:=h;exact h1.nA aF s (by rw[aX,ak]) af
theorem cu.rd (h:cu z enc l l1 v a hd) (aF:∀ x,bd (enc x)=true) (s:cQ α) (ak:hd=s.isNone) (af:s.l=a) :Rd l1 v (cB z enc s) :=by
 obtain⟨j,h1,ad,aj,aE,aX⟩:=h;exact h1.q.ow aF s (by rw[aX,ak]) af
theorem cu.IP (h:cu z enc l l1 v a hd) (aF:∀ x,mB (enc x)=true) (s:cQ α) (ak:hd=s.isNone) (af:s.l=a) :kM l1 v (cB z enc s) :=by
 obtain⟨j,h1,ad,aj,aE,aX⟩:=h;exact h1.E1 aF s (by rw[aX,ak]) af
theorem cu.base (h:cu z enc l l1 v a hd) {eL:am} (al:eL.length<=l.length) (ak:∀ b,b<eL.length->l[b]? = eL[b]?) :cu z enc eL l1 v a hd:=by
 obtain⟨j,h1,ad,aj,aE,aX⟩:=h;exact⟨j,h1,by omega,fun b ag=>by rw[aj b (by omega)]; exact ak b ag,aE.imp id (by omega),aX⟩
theorem cu.frame (h:cu z enc l l1 v a hd) {b1:am} (al:l1.length<=b1.length) (ak:∀ b,b<l1.length->b1[b]? = l1[b]?) :cu z enc l b1 v a hd:=by
 obtain⟨j,h1,ad,aj,aE,aX⟩:=h;exact⟨j,h1.frame fun ai=>ak j ai,by omega,fun b ag=>by rw[ak b (by omega)]; exact aj b ag,aE,aX⟩
theorem cu.app (h:cu z enc l l1 v a hd) {by_:Nat} {x:U} {xs:List α} (af:dE l1 z x=some ((xs.map enc).flatten,xs.length)) (aw:∀ y∈xs,(enc y).length=z) (aD:z≠0) (ea:by_≠0) (dA:(a.length+xs.length)*by_<=cy) :
  ∃ aZ l',gx l1 z by_ v x=some (aZ,l')/\cu z enc l l' aZ (a++xs) (hd&&xs.isEmpty)/\l1.length<=l'.length:=by
 obtain⟨j,h1,ad,aj,aE,aX⟩:=h;obtain⟨aZ,bl,l',aP,aU,a8,bA,bi,b8⟩:=Qd (xs:=xs.map enc) h1 (by simpa using af) (fun e ao=>by obtain⟨y,ax,rfl⟩:=awf.1 ao; exact aw y ax) aD ea (by simpa using dA);refine⟨aZ,l',aP,⟨bl,by rw[awm]; exact aU,by omega,fun b ag=>?_,?_,?_⟩,a8⟩
 ·rw[bA b (by omega)]
  ·exact aj b ag
  ·rcases aE with h | h
   ·exact .inl h
   ·exact .inr (by omega)
 ·rcases bi with h | ⟨bw,c5⟩ | h
  ·exact .inr (by omega)
  ·rcases aE with h | h
   ·exact absurd h bw
   ·exact .inr (by omega)
  ·exact .inl h
 ·rw[b8,aX]; simp
end

namespace Op
open gT
theorem cu.push {l l1:am} {v:U} {a:List B} {hd:Bool} (h:cu 1 ch l l1 v a hd) (x:B) (dA:a.length<=1000000000) :
  ∃ aZ l',gx (l1++[.cells 1 [bF x]]) 1 1 v (.ar 1 l1.length 0 1 1 1)=some (aZ,l')/\cu 1 ch l l' aZ (a++[x]) false:=by
 have az:cy=140737488355328:=rfl;obtain⟨aZ,l',aP,aU,_⟩:=(h.more [.cells 1 [bF x]]).app (by_:=1) (x:=.ar 1 l1.length 0 1 1 1) (xs:=[x]) (by simp[dE,ch]) (by simp[ch]) (by omega) (by omega) (by rw[az]; simp; omega);exact⟨aZ,l',aP,by simpa using aU⟩
theorem yk:∀ a:List B,(a.map ch).flatten=a.map bF
 | []=>rfl
 | x::a=>by rw[awn,awT,yk a]; rfl
theorem pQ {l:am} {j n:Nat} {a:List B} (aA:a.length=n) (ai:l[j]? = some (.cells n (a.map bF))) :bH 1 l (.ar 1 j 0 n n n) j (a.map ch) :=by
 refine .ar j n n n (a.map bF) _ ai (by simp[aA]) (by simp[aA]) (fun e ao=>?_) (avR _) (by omega) ?_
 ·obtain⟨x,_,rfl⟩:=awf.1 ao; rfl
 ·rw[avO (by simp[aA]),yk]
def lE (n:Nat) :Nat:=if n<256 then 1 else if n<65536 then 2 else if n<16777216 then 3 else if n<4294967296 then 4 else if n<1099511627776 then 5 else if n<281474976710656 then 6 else if n<72057594037927936 then 7 else 8
theorem Io (n:Nat) :1<=lE n/\lE n<=8:=by unfold lE; refine⟨?_,?_⟩<;>(repeat' split)<;>omega
def my (n i:Nat) :B:=BitVec.ofNat 8 (n >>> (8*i))
def vM (n:Nat) :Nat->List B
 | 0=>[]
 | i+1=>my n i::vM n i
theorem Ph (n:Nat) :∀ i,(vM n i).length=i
 | 0=>rfl
 | i+1=>by simp[vM,Ph n i]
def eS (n:Nat) :List B:=if n<=247 then [BitVec.ofNat 8 n] else BitVec.ofNat 8 (247+lE n) ::vM n (lE n)
def mi (x:Nat) :Nat:=if x<1 then 0 else if x<2 then 1 else if x<4 then 2 else if x<8 then 3 else if x<16 then 4 else if x<32 then 5 else if x<64 then 6 else if x<128 then 7 else 8
def Fk:List UInt8:=[0,1,2,2,3,3,3,3,4,4,4,4,4,4,4,4,5,5,5,5,5,5,5,5,5,5,5,5,5,5,5,5,6,6,6,6,6,6,6,6,6,6,6,6,6,6,6,6,6,6,6,6,6,6,6,6,6,6,6,6,6,6,6,6,7,7,7,7,7,7,7,7,7,7,7,7,7,7,7,7,7,7,7,7,7,7,7,7,7,7,7,7,7,7,7,7,7,7,7,7,7,7,7,7,7,7,7,7,7,7,7,7,7,7,7,7,7,7,7,7,7,7,7,7,7,7,7,7,8,8,8,8,8,8,8,8,8,8,8,8,8,8,8,8,8,8,8,8,8,8,8,8,8,8,8,8,8,8,8,8,8,8,8,8,8,8,8,8,8,8,8,8,8,8,8,8,8,8,8,8,8,8,8,8,8,8,8,8,8,8,8,8,8,8,8,8,8,8,8,8,8,8,8,8,8,8,8,8,8,8,8,8,8,8,8,8,8,8,8,8,8,8,8,8,8,8,8,8,8,8,8,8,8,8,8,8,8,8,8,8,8,8,8,8,8,8,8,8,8,8,8,8,8,8,8,8]
def Pf:Nat->List UInt8->Bool
 | _,[]=>true
 | i,x::r=>Nat.beq x.toNat (mi i)&&Pf (i+1) r
theorem ZZ:∀ (i:Nat) (l:List UInt8),Pf i l=true->∀ (j:Nat) (x:UInt8),l[j]? = some x->x.toNat=mi (i+j)
 | i,[],_,j,x,h=>by simp at h
 | i,y::r,h,j,x,af=>by
  simp only[Pf,avU] at h;cases j with
  | zero=>simp at af; subst af; exact awK h.1
  | succ j=>simp at af; rw[ZZ (i+1) r h.2 j x af]; congr 1; omega
theorem xR (i:Nat) (h:i<256) :∃ x,Fk[i]? = some x/\x.toNat=mi i:=by
 have al:Fk.length=256:=by kernel_rfl
 have aq:=ZZ 0 Fk (by kernel_rfl) i _ (avS (by omega));exact⟨_,avS (by omega),by rw[aq]; congr 1; omega⟩
theorem vn (x:Nat) :mi x<=8:=by unfold mi; (repeat' split)<;>omega
def ke (n:Nat) :Nat:=
 if n<256 then mi n else if n<65536 then 8+mi (n / 256) else if n<16777216 then 16+mi (n / 65536) else if n<4294967296 then 24+mi (n / 16777216)
 else if n<1099511627776 then 32+mi (n / 4294967296) else if n<281474976710656 then 40+mi (n / 1099511627776) else if n<72057594037927936 then 48+mi (n / 281474976710656) else 56+mi (n / 72057594037927936)
theorem ajL (n:Nat) (h:1<=n) :(ke n+7) / 8=lE n:=by
 have al:∀ x,1<=x->1<=mi x/\mi x<=8:=fun x af=>⟨by unfold mi; rw[if_neg (by omega)]; (repeat' split)<;>omega,vn x⟩
 unfold ke lE
 repeat' split
 ·have:=al n h; omega
 ·have:=al (n / 256) (by omega); omega
 ·have:=al (n / 65536) (by omega); omega
 ·have:=al (n / 16777216) (by omega); omega
 ·have:=al (n / 4294967296) (by omega); omega
 ·have:=al (n / 1099511627776) (by omega); omega
 ·have:=al (n / 281474976710656) (by omega); omega
 ·have:=al (n / 72057594037927936) (by omega); omega
theorem OV (x:Q) (k:Nat) :cD .shr .u64 (u x) .u64 (k:Int)=some (.int .u64 (u (x >>> k))) :=uA x .u64 k
theorem v6 {i:Nat} {y:UInt8} {k:UInt8->Prop} (h:Fk[i]? = some y) (hk:k y) :W Fk[i]? (c:=⟨k⟩) :=by rw[h]; exact hk
set_option maxHeartbeats 4000000 in
theorem Xh (n:Q) :bz Tryz.prog GS 189 [dq n] (.int .i64 (ke n.toNat)) :=by
 refine bL Tryz.checked.mixed bE ?_;apply bp Tryz.func189 [];have lk:IntKind.i64.wrap 8=8:=rfl;have xU:IntKind.i64.wrap 16=16:=rfl;have xV:IntKind.i64.wrap 24=24:=rfl;have xW:IntKind.i64.wrap 32=32:=rfl;have xX:IntKind.i64.wrap 40=40:=rfl;have xY:IntKind.i64.wrap 48=48:=rfl;have xZ:IntKind.i64.wrap 56=56:=rfl;have cZ:∀ x:Q,((4294967296:Int)<=u x)<->4294967296<=x.toNat:=fun x=>by unfold u; omega
 have dJ:∀ x:Q,((65536:Int)<=u x)<->65536<=x.toNat:=fun x=>by unfold u; omega
 have iQ:∀ x:Q,((256:Int)<=u x)<->256<=x.toNat:=fun x=>by unfold u; omega
 have xK:∀ x:Q,cD .shr .u64 (u x) .u64 32=some (.int .u64 (u (x >>> 32))) :=fun x=>OV x 32
 have xJ:∀ x:Q,cD .shr .u64 (u x) .u64 16=some (.int .u64 (u (x >>> 16))) :=fun x=>OV x 16
 have xL:∀ x:Q,cD .shr .u64 (u x) .u64 8=some (.int .u64 (u (x >>> 8))) :=fun x=>OV x 8
 have t32:n.toNat >>> 32=n.toNat / 4294967296:=by rw[awj]
 have t48:n.toNat >>> 48=n.toNat / 281474976710656:=by rw[awj]
 have t16:n.toNat >>> 16=n.toNat / 65536:=by rw[awj]
 have af5:=n.isLt;by_cases h1:4294967296<=n.toNat
 ·by_cases ad:65536<=n.toNat >>> 32
  ·by_cases aj:256<=n.toNat >>> 48
   ·have dV:n.toNat >>> 56 % 256=n.toNat / 72057594037927936:=by rw[awj]; exact av4 (by omega)
    obtain⟨y,aP,aU⟩:=xR (n.toNat / 72057594037927936) (by omega);have a8:=vn (n.toNat / 72057594037927936);rw[<-aU] at a8;have b2:IntKind.i64.wrap (y.toNat:Int)=y.toNat:=wrap_i64 (by omega) (by omega);have w2:IntKind.i64.wrap (56+(y.toNat:Int))=((56+y.toNat:Nat) :Int) :=by rw[wrap_i64 (by omega) (by omega)]; omega
    have eh:ke n.toNat=56+y.toNat:=by unfold ke; rw[aU]; (repeat' split)<;>first | omega | rfl
    simp[cZ,dJ,iQ,xK,xJ,xL,h1,ad,aj];refine v6 (y:=y) (by rw[dV]; exact aP) ?_;rw[eh];simp[jx,b2,w2];exact aL (by simp[lk,xU,xV,xW,xX,xY,xZ,w2]) rfl
   ·have dV:n.toNat >>> 48 % 256=n.toNat / 281474976710656:=by rw[awj]; exact av4 (by omega)
    obtain⟨y,aP,aU⟩:=xR (n.toNat / 281474976710656) (by omega);have a8:=vn (n.toNat / 281474976710656);rw[<-aU] at a8;have b2:IntKind.i64.wrap (y.toNat:Int)=y.toNat:=wrap_i64 (by omega) (by omega);have w2:IntKind.i64.wrap (48+(y.toNat:Int))=((48+y.toNat:Nat) :Int) :=by rw[wrap_i64 (by omega) (by omega)]; omega
    have eh:ke n.toNat=48+y.toNat:=by unfold ke; rw[aU]; (repeat' split)<;>first | omega | rfl
    simp[cZ,dJ,iQ,xK,xJ,xL,h1,ad,aj];refine v6 (y:=y) (by rw[dV]; exact aP) ?_;rw[eh];simp[jx,b2,w2];exact aL (by simp[lk,xU,xV,xW,xX,xY,xZ,w2]) rfl
  ·by_cases aj:256<=n.toNat >>> 32
   ·have dV:n.toNat >>> 40 % 256=n.toNat / 1099511627776:=by rw[awj]; exact av4 (by omega)
    obtain⟨y,aP,aU⟩:=xR (n.toNat / 1099511627776) (by omega);have a8:=vn (n.toNat / 1099511627776);rw[<-aU] at a8;have b2:IntKind.i64.wrap (y.toNat:Int)=y.toNat:=wrap_i64 (by omega) (by omega);have w2:IntKind.i64.wrap (40+(y.toNat:Int))=((40+y.toNat:Nat) :Int) :=by rw[wrap_i64 (by omega) (by omega)]; omega
    have eh:ke n.toNat=40+y.toNat:=by unfold ke; rw[aU]; (repeat' split)<;>first | omega | rfl
    simp[cZ,dJ,iQ,xK,xJ,xL,h1,ad,aj];refine v6 (y:=y) (by rw[dV]; exact aP) ?_;rw[eh];simp[jx,b2,w2];exact aL (by simp[lk,xU,xV,xW,xX,xY,xZ,w2]) rfl
   ·have dV:n.toNat >>> 32 % 256=n.toNat / 4294967296:=by rw[awj]; exact av4 (by omega)
    obtain⟨y,aP,aU⟩:=xR (n.toNat / 4294967296) (by omega);have a8:=vn (n.toNat / 4294967296);rw[<-aU] at a8;have b2:IntKind.i64.wrap (y.toNat:Int)=y.toNat:=wrap_i64 (by omega) (by omega);have w2:IntKind.i64.wrap (32+(y.toNat:Int))=((32+y.toNat:Nat) :Int) :=by rw[wrap_i64 (by omega) (by omega)]; omega
    have eh:ke n.toNat=32+y.toNat:=by unfold ke; rw[aU]; (repeat' split)<;>first | omega | rfl
    simp[cZ,dJ,iQ,xK,xJ,xL,h1,ad,aj];refine v6 (y:=y) (by rw[dV]; exact aP) ?_;rw[eh];simp[jx,b2,w2];exact aL (by simp[lk,xU,xV,xW,xX,xY,xZ,w2]) rfl
 ·by_cases ad:65536<=n.toNat
  ·by_cases aj:256<=n.toNat >>> 16
   ·have dV:n.toNat >>> 24 % 256=n.toNat / 16777216:=by rw[awj]; exact av4 (by omega)
    obtain⟨y,aP,aU⟩:=xR (n.toNat / 16777216) (by omega);have a8:=vn (n.toNat / 16777216);rw[<-aU] at a8;have b2:IntKind.i64.wrap (y.toNat:Int)=y.toNat:=wrap_i64 (by omega) (by omega);have w2:IntKind.i64.wrap (24+(y.toNat:Int))=((24+y.toNat:Nat) :Int) :=by rw[wrap_i64 (by omega) (by omega)]; omega
    have eh:ke n.toNat=24+y.toNat:=by unfold ke; rw[aU]; (repeat' split)<;>first | omega | rfl
    simp[cZ,dJ,iQ,xK,xJ,xL,h1,ad,aj];refine v6 (y:=y) (by rw[dV]; exact aP) ?_;rw[eh];simp[jx,b2,w2];exact aL (by simp[lk,xU,xV,xW,xX,xY,xZ,w2]) rfl
   ·have dV:n.toNat >>> 16 % 256=n.toNat / 65536:=by rw[awj]; exact av4 (by omega)
    obtain⟨y,aP,aU⟩:=xR (n.toNat / 65536) (by omega);have a8:=vn (n.toNat / 65536);rw[<-aU] at a8;have b2:IntKind.i64.wrap (y.toNat:Int)=y.toNat:=wrap_i64 (by omega) (by omega);have w2:IntKind.i64.wrap (16+(y.toNat:Int))=((16+y.toNat:Nat) :Int) :=by rw[wrap_i64 (by omega) (by omega)]; omega
    have eh:ke n.toNat=16+y.toNat:=by unfold ke; rw[aU]; (repeat' split)<;>first | omega | rfl
    simp[cZ,dJ,iQ,xK,xJ,xL,h1,ad,aj];refine v6 (y:=y) (by rw[dV]; exact aP) ?_;rw[eh];simp[jx,b2,w2];exact aL (by simp[lk,xU,xV,xW,xX,xY,xZ,w2]) rfl
  ·by_cases aj:256<=n.toNat
   ·have dV:n.toNat >>> 8 % 256=n.toNat / 256:=by rw[awj]; exact av4 (by omega)
    obtain⟨y,aP,aU⟩:=xR (n.toNat / 256) (by omega);have a8:=vn (n.toNat / 256);rw[<-aU] at a8;have b2:IntKind.i64.wrap (y.toNat:Int)=y.toNat:=wrap_i64 (by omega) (by omega);have w2:IntKind.i64.wrap (8+(y.toNat:Int))=((8+y.toNat:Nat) :Int) :=by rw[wrap_i64 (by omega) (by omega)]; omega
    have eh:ke n.toNat=8+y.toNat:=by unfold ke; rw[aU]; (repeat' split)<;>first | omega | rfl
    simp[cZ,dJ,iQ,xK,xJ,xL,h1,ad,aj];refine v6 (y:=y) (by rw[dV]; exact aP) ?_;rw[eh];simp[jx,b2,w2];exact aL (by simp[lk,xU,xV,xW,xX,xY,xZ,w2]) rfl
   ·have dV:n.toNat % 256=n.toNat:=av4 (by omega);obtain⟨y,aP,aU⟩:=xR (n.toNat) (by omega);have a8:=vn (n.toNat);rw[<-aU] at a8;have b2:IntKind.i64.wrap (y.toNat:Int)=y.toNat:=wrap_i64 (by omega) (by omega);have w2:IntKind.i64.wrap (0+(y.toNat:Int))=((0+y.toNat:Nat) :Int) :=by rw[wrap_i64 (by omega) (by omega)]; omega
    have eh:ke n.toNat=0+y.toNat:=by unfold ke; rw[aU]; (repeat' split)<;>first | omega | rfl
    simp[cZ,dJ,iQ,xK,xJ,xL,h1,ad,aj];refine v6 (y:=y) (by rw[dV]; exact aP) ?_;rw[eh];simp[jx,b2,w2];exact aL (by simp[lk,xU,xV,xW,xX,xY,xZ,w2]) rfl
theorem FX (n:Q) (i:Nat) :(n >>> (8*i)).setWidth 8=my n.toNat i:=by
 apply av6;unfold my;rw[av9,awH,awc]
theorem amJ (l:am) (c d:a7) :(l++[c]).set l.length d=l++[d] :=by rw[awz _ _ (avR _)]; simp
def sh (n k i:Nat) :List B:=BitVec.ofNat 8 (247+k) ::(List.replicate (k - i) 0#8++vM n i)
theorem XN (n k i:Nat) (h:i<=k) :(sh n k i).length=k+1:=by simp[sh,Ph]; omega
theorem akp (n k i:Nat) (h:i<k) :(sh n k i).set (k - i) (my n i)=sh n k (i+1) :=by
 unfold sh;obtain⟨m,hm⟩:∃ m,k - i=m+1:=⟨k - i - 1,by omega⟩
 rw[hm,axU,show k - (i+1)=m by omega,List.replicate_succ',awo];congr 1;rw[awz _ _ (by simp)];simp[vM]
theorem aoN (n:Q) {l:am} {K:U->am->Prop} (aY:∀ v j l',bH 1 l' v j ((eS n.toNat).map ch)->l.length<=l'.length->(∀ b,b<l.length->l'[b]? = l[b]?)->l.length<=j->cw v=false->K v l') :
  c7 Tryz.prog GS 195 [dq n] l (c:=⟨K⟩) :=by
 apply bp Tryz.func195 [];have cZ:((u n:Int)<=247)<->n.toNat<=247:=by unfold u; omega
 by_cases h:n.toNat<=247
 ·have w3:eS n.toNat=[n.setWidth 8] :=by
   unfold eS; rw[if_pos h]; rfl
  simp[cZ,h];refine aY _ l.length _ (pQ (n:=1) (a:=eS n.toNat) (by rw[w3]; rfl) (by rw[w3]; simp)) (by simp) (fun b ag=>avQ ag) (avR _) rfl
 ·have hk:=Io n.toNat
  obtain⟨k,pC⟩:∃ k,lE n.toNat=k:=⟨_,rfl⟩
  have w3:eS n.toNat=sh n.toNat k k:=by unfold eS sh; rw[if_neg h,pC]; simp
  have DM:=ajL n.toNat (by omega)
  rw[pC] at DM hk;obtain⟨L,eT⟩:∃ L,ke n.toNat=L:=⟨_,rfl⟩
  rw[eT] at DM;have b2:IntKind.i64.wrap ((L:Int)+7)=((L+7:Nat) :Int) :=by rw[wrap_i64 (by omega) (by omega)]; omega
  have q1:cD .quo .i64 ((L+7:Nat) :Int) .i64 8=some (.int .i64 (k:Int)) :=by rw[J7 _ 8 (by omega) (by omega)]; rw[show (8:Int).toNat=8 from rfl,DM]
  have w2:IntKind.i64.wrap ((k:Int)+1)=((k+1:Nat) :Int) :=by rw[wrap_i64 (by omega) (by omega)]; omega
  have eh:IntKind.i64.wrap (247+(k:Int))=((247+k:Nat) :Int) :=by rw[wrap_i64 (by omega) (by omega)]; omega
  have kE:sf 1 1 [.int .u8 0] l (.int .i64 ((k+1:Nat) :Int)) (.int .i64 ((k+1:Nat) :Int))=some (.ar 1 l.length 0 (k+1) (k+1) (k+1),l++[.cells (k+1) ((List.replicate (k+1) 0#8).map bF)]) :=by
   unfold sf;have az:cy=140737488355328:=rfl;simp only[];rw[if_pos ⟨by omega,by omega,by omega,by rw[az]; omega⟩,IX];simp
  simp[cZ,h];refine a6 (Xh n) rfl ?_;rw[eT];have h2:bt (List.replicate (k+1) (bF 0#8)) 0 [bF (BitVec.ofNat 8 (247+k))]=(sh n.toNat k 0).map bF:=by
   rw[awV,ane,ang]; simp[sh,vM]
  simp[b2,q1,w2,eh,kE,-Int.natCast_add];refine cI k (fun i ae l1=>ae 0=dq n/\ae 3=.int .i64 k/\ae 4=.ar 1 l.length 0 (k+1) (k+1) (k+1)/\ae 23=.int .i64 k/\ae 24=.int .i64 i/\l1=l++[.cells (k+1) ((sh n.toNat k i).map bF)]) ?_ ?_
  ·rintro i ae l1 av ⟨cf,a8,bA,AF,nd,rfl⟩;obtain⟨ae,rfl⟩:=lj cf a8 bA AF nd;clear cf a8 bA AF nd;by_cases mN:i<k
   ·have jY:IntKind.i64.wrap ((k:Int) - i)=((k - i:Nat) :Int) :=by rw[wrap_i64 (by omega) (by omega)]; omega
    have lN:IntKind.i64.wrap (8*(i:Int))=((8*i:Nat) :Int) :=by rw[wrap_i64 (by omega) (by omega)]; omega
    have Ca:IntKind.i64.wrap ((i:Int)+1)=((i+1:Nat) :Int) :=by rw[wrap_i64 (by omega) (by omega)]; omega
    have rk:cD .shr .u64 (u n) .i64 ((8*i:Nat) :Int)=some (.int .u64 (u (n >>> (8*i)))) :=uA n .i64 (8*i);have sy:=FX n i;have Cb:=pa bF (sh n.toNat k i) (k - i) (my n.toNat i) (by rw[XN _ _ _ av]; omega);rw[akp _ _ _ mN] at Cb;obtain⟨d,bC⟩:∃ d,k - i=d:=⟨_,rfl⟩
    obtain⟨e,ao⟩:∃ e,8*i=e:=⟨_,rfl⟩
    rw[bC] at jY Cb;rw[ao] at lN rk sy;have AX:d<=k:=by omega
    simp[mN,jY,lN,Ca,rk,sy,Cb,AX,-Int.natCast_add,amJ];omega
   ·have fq:i=k:=by omega
    subst fq;simp;refine aY _ l.length _ (pQ (n:=i+1) (a:=eS n.toNat) (by rw[w3,XN _ _ _ (avR _)]) (by rw[w3]; simp)) (by simp) (fun b ag=>avQ ag) (avR _) rfl
  ·simp;exact h2
theorem akl {n:Nat} (h:n<18446744073709551616) :n<256 ^ lE n:=by
 unfold lE; (repeat' split)<;>simp<;>omega
theorem akm {n k:Nat} (h1:1<=n) (h:k<lE n) :256 ^ k<=n:=by
 have dZ:=(Io n).2;have hk:k=0\/k=1\/k=2\/k=3\/k=4\/k=5\/k=6\/k=7:=by omega
 rcases hk with rfl | rfl | rfl | rfl | rfl | rfl | rfl | rfl<;>simp<;>unfold lE at h<;>(repeat' split at h)<;>omega
theorem amR {n k:Nat} (h1:1<=n) (h:n<18446744073709551616) (hk:k<=lE n) :n >>> (8*k)=0<->k=lE n:=by
 have ay:2 ^ (8*k)=256 ^ k:=by rw[Nat.pow_mul]
 rw[awj,ay,Nat.div_eq_zero_iff];constructor
 ·rintro (ad | ad)
  ·exact absurd ad (by have:0<256 ^ k:=Nat.pow_pos (by decide); omega)
  ·rcases aw6 k (lE n) with aj | aj
   ·have:=akm h1 aj; omega
   ·omega
 ·rintro rfl;exact .inr (akl h)
theorem Z1 (n:Nat) :∀ k,vM n k=((List.range k).map (my n)).reverse
 | 0=>rfl
 | k+1=>by rw[vM,Z1 n k,axq,awm,List.reverse_append]; rfl
def ql (n k:Nat) :List B:=(List.range k).map (my n)
theorem adk (n k:Nat) :ql n (k+1)=ql n k++[my n k] :=by simp[ql,axq]
theorem Aw (n k:Nat) :(ql n k).length=k:=by simp[ql]
theorem Ti (n k i:Nat) (h:i<k) :(ql n k)[i]? = some (my n i) :=by simp[ql,h]
theorem amc (x:Q) :cD .rem .u64 (u x) .u64 256=some (.int .u64 (u (x % 256#64))) :=Ai x 256#64 (by decide)
theorem alo (x:Q) :cD .quo .u64 (u x) .u64 256=some (.int .u64 (u (x / 256#64))) :=Of x 256#64 (by decide)
theorem ajY (n:Q) (i:Nat) :((n >>> (8*i)) % 256#64).setWidth 8=my n.toNat i:=by
 rw[<-FX];apply av6;rw[av9,aw8,av9];show _ % 256 % 2 ^ 8=_ % 2 ^ 8;omega
theorem akj (n:Q) (i:Nat) :(n >>> (8*i)) / 256#64=n >>> (8*(i+1)) :=by
 apply av6;rw[axp,awH,awH,awj,awj,show 8*(i+1)=8*i+8 by omega,ayB,<-Nat.div_div_eq_div_mul]; rfl
theorem cu.get {l l1:am} {v:U} {a:List B} {hd:Bool} (h:cu 1 ch l l1 v a hd) {k:IntKind} {i:Nat} {x:B} (af:a[i]? = some x) :∃ p cs o,ck (.ar 1) v (.int k (i:Int))=some p/\eW l1 p=some (cs,o)/\cs[o]? = some (bF x) :=by
 obtain⟨j,h,_⟩:=h;obtain⟨p,cs,o,h1,ad,aj,aE⟩:=h.q.get (k:=k) (i:=i) (e:=ch x) (by rw[avV,af]; rfl);refine⟨p,cs,o,h1,ad,?_⟩;have:=congrArg (fun l=>l[0]?) aE;simp[List.getElem?_take,awv,ch] at this;exact this
theorem zU (n:Q) {l:am} {K:U->am->Prop} (aY:∀ v l',cu 1 ch l l' v (eS n.toNat) false->K v l') :c7 Tryz.prog GS 195 [dq n] l (c:=⟨K⟩) :=
 aoN n fun v j l' h1 ad aj aE aX=>aY v l' ⟨j,h1,ad,aj,.inr aE,aX⟩
structure abd (l:am) (n:Q) (i:Nat) (ae:bg) (l1:am) :Prop where
 cf:ae 0=dq (n >>> (8*i))
 tH:∃ v,ae 3=v/\cu 1 ch l l1 v (ql n.toNat i) (decide (i=0))
structure abe (l1:am) (v:U) (n:Q) (k i:Nat) (ae:bg) (b1:am) :Prop where
 a8:ae 3=v
 bi:ae 5=.int .i64 ((k:Int) - 1 - i)
 tH:∃ w,ae 4=w/\cu 1 ch l1 b1 w (BitVec.ofNat 8 (247+k) ::((ql n.toNat k).reverse.take i)) false
theorem xC (n:Q) {l:am} {K:U->am->Prop} (aY:∀ v l',cu 1 ch l l' v (eS n.toNat) false->K v l') :
  c7 Tryz.prog GS 127 [dq n] l (c:=⟨K⟩) :=by
 apply bp Tryz.func127 [];have cZ:((u n:Int)<=247)<->n.toNat<=247:=by unfold u; omega
 by_cases h:n.toNat<=247
 ·have w3:eS n.toNat=[n.setWidth 8] :=by
   unfold eS; rw[if_pos h]; rfl
  simp[cZ,h];exact aY _ _ ⟨l.length,pQ (n:=1) (a:=eS n.toNat) (by rw[w3]; rfl) (by rw[w3]; simp),by simp,fun b ag=>avQ ag,.inr (avR _),rfl⟩
 ·have af5:=n.isLt;have hk:=Io n.toNat
  simp[cZ,h];refine cI (lE n.toNat) (abd l n) ?_ ⟨by simp,.aT,by simp,cu.nil⟩;rintro i ae l1 av ⟨cf,v,a8,e8⟩;obtain⟨ae,rfl⟩:=p2 cf a8;clear cf a8;have aw:=amR (n:=n.toNat) (k:=i) (by omega) (by omega) av;have jL:((0:Int)<u (n >>> (8*i)))<->¬ i=lE n.toNat:=by
   rw[<-aw]; unfold u; rw[awH]; generalize n.toNat >>> (8*i)=q; omega
  by_cases mN:i=lE n.toNat
  ·obtain⟨k,pC⟩:∃ k,lE n.toNat=k:=⟨_,rfl⟩
   rw[pC] at mN jL hk;subst mN;have aht:eS n.toNat=BitVec.ofNat 8 (247+i) ::(ql n.toNat i).reverse:=by
    unfold eS; rw[if_neg h,pC,Z1]; rfl
   have bn:=e8.len;rw[Aw] at bn;have b2:IntKind.i64.wrap (247+(i:Int))=((247+i:Nat) :Int) :=by rw[wrap_i64 (by omega) (by omega)]; omega
   have w2:IntKind.i64.wrap ((i:Int) - 1)=(i:Int) - 1:=wrap_i64 (by omega) (by omega);have f1:(eS n.toNat)=BitVec.ofNat 8 (247+i) ::(ql n.toNat i).reverse.take i:=by rw[aht,avO (by rw[List.length_reverse,Aw]; omega)]
   simp[jL,bn,b2,w2,-Int.natCast_add];refine cI i (abe l1 v n i) ?_ ⟨by simp,by simp,_,by simp,⟨l1.length,pQ (n:=1) (a:=[BitVec.ofNat 8 (247+i)]) rfl (by simp),by simp,fun b ag=>avQ ag,.inr (avR _),rfl⟩⟩;rintro j ae b1 ai ⟨a8,bi,w,bA,vz⟩;have qU:=e8.frame vz.le vz.same;obtain⟨ae,rfl⟩:=kj a8 bA bi;clear a8 bA bi;by_cases oU:j=i
   ·have oh:¬ (j:Int)<=(i:Int) - 1:=by omega
    rw[oU,<-f1] at vz;simp[oh];exact aY _ _ (vz.base e8.le e8.same)
   ·have qE:(j:Int)<=(i:Int) - 1:=by omega
    have wW:((i:Int) - 1 - j)=((i - 1 - j:Nat) :Int) :=by omega
    have eh:IntKind.i64.wrap ((i:Int) - 1 - j - 1)=(i:Int) - 1 - (j+1:Nat) :=by rw[wrap_i64 (by omega) (by omega)]; omega
    obtain⟨p,cs,o,q1,ft,iY⟩:=cu.get qU (k:=.i64) (Ti n.toNat i (i - 1 - j) (by omega));rw[<-wW] at q1;have af:(ql n.toNat i).reverse[j]? = some (my n.toNat (i - 1 - j)) :=by
     rw[List.getElem?_reverse (by rw[Aw]; omega),Aw,Ti _ _ _ (by omega)]
    have wY:=Aw n.toNat i;obtain⟨w',l',aV,a1⟩:=cu.push vz (my n.toNat (i - 1 - j)) (by simp; omega);simp[qE,q1,ft,iY,aV];refine dp.cx ?_;simp[eh];exact⟨by omega,by simp,by simp,w',by simp,by rw[av7,af]; simpa using a1⟩
  ·have tf:=Aw n.toNat i;obtain⟨aZ,l',aV,a1⟩:=cu.push e8 (my n.toNat i) (by omega);rw[<-adk] at a1;have aW:cD .quo .u64 (u (n >>> (8*i))) .u64 256=some (dq (n >>> (8*(i+1)))) :=by rw[alo,akj]
   simp[jL,mN,amc,aW,ajY,aV];refine dp.cx ?_;simp[aW];exact⟨by omega,by simp,aZ,by simp,by simpa using a1⟩
end Op

end Go.cb

namespace Go.cb
open Go Go.Proofs
set_option maxRecDepth 100000
namespace Op
open gT
def nG (n:Int) :Q:=if 0<=n then BitVec.ofNat 64 (2*n.toNat) else BitVec.ofNat 64 (2*(-(n+1)).toNat+1)
theorem aoS (n:Int) (h1:-9223372036854775808<=n) (ad:n<9223372036854775808) {l:am} {K:U->am->Prop} (aY:∀ v l',cu 1 ch l l' v (eS (nG n).toNat) false->K v l') :
  c7 Tryz.prog GS 243 [.int .i64 n] l (c:=⟨K⟩) :=by
 apply bp Tryz.func243 [];have aR:cD .shl .u64 (u (BitVec.ofInt 64 n)) .u64 1=some (.int .u64 (u (BitVec.ofInt 64 n <<< 1))) :=QE _ .u64 1;have bJ:cD .shr .i64 n .u64 63=some (.int .i64 (if 0<=n then 0 else -1)) :=by
  show (if (63:Int)<0 then none else some (U.int .i64 (n.fdiv (2 ^ min (63:Int).toNat 64))))=_;rw[if_neg (by omega)];congr 2;have:(2:Int) ^ min (63:Int).toNat 64=9223372036854775808:=by decide
  rw[this,Int.fdiv_eq_ediv_of_nonneg _ (by omega)];split<;>omega
 have aw:BitVec.ofInt 64 n <<< 1 ^^^ BitVec.ofInt 64 (if 0<=n then 0 else -1)=nG n:=by
  unfold nG;by_cases h:0<=n
  ·rw[if_pos h,if_pos h];obtain⟨m,rfl⟩:=axg h;rw[axh,awZ];have:BitVec.ofInt 64 (0:Int)=0#64:=rfl;rw[this,BitVec.xor_zero];apply av6;rw[axV,awc,awc,axw];omega
  ·rw[if_neg h,if_neg h];obtain⟨m,hm⟩:=axg (show 0<=-(n+1) by omega);have aC:n=-((m:Int)+1) :=by omega
   have aV:BitVec.ofInt 64 (-1:Int)=BitVec.allOnes 64:=by decide
   have a1:BitVec.ofInt 64 n = ~~~ BitVec.ofNat 64 m:=by
    apply av6;rw[aC,BitVec.toNat_ofInt,ayS,awc];omega
   have kB:m<9223372036854775808:=by omega
   rw[aV,a1,BitVec.xor_allOnes,hm,awZ];apply av6;rw[ayS,axV,ayS,awc,awc,axw];omega
 simp[aR,bJ,aw];refine zU _ fun v l' h=>?_
 simp;exact aY v l' h
theorem alI (n:Int) (h1:-9223372036854775808<=n) (ad:n<9223372036854775808) {l:am} {K:U->am->Prop} (aY:∀ v l',cu 1 ch l l' v (eS (nG n).toNat) false->K v l') :
  c7 Tryz.prog GS 225 [.int .i64 n] l (c:=⟨K⟩) :=by
 apply bp Tryz.func225 [];by_cases h:0<=n
 ·obtain⟨m,rfl⟩:=axg h;have aw:2#64*BitVec.ofNat 64 m=nG m:=by
   unfold nG; rw[if_pos h,awZ];apply av6;simp only[axM,awc];omega
  simp[aw];refine xC _ fun v l' h=>?_
  simp;exact aY v l' h
 ·have b2:IntKind.i64.wrap (n+1)=n+1:=wrap_i64 (by omega) (by omega);have w2:IntKind.i64.wrap (0 - (n+1))=0 - (n+1) :=wrap_i64 (by omega) (by omega);have w2:IntKind.i64.wrap (-(n+1))=-(n+1) :=wrap_i64 (by omega) (by omega);have aw:2#64*BitVec.ofInt 64 (-(n+1))+1#64=nG n:=by
   obtain⟨m,hm⟩:=axg (show 0<=-(n+1) by omega);unfold nG; rw[if_neg h,hm,awZ,axh];apply av6;simp only[axM,awc,ayQ];omega
  simp[h,b2,w2,aw];refine xC _ fun v l' h=>?_
  simp;exact aY v l' h
def jt (s:List B) :List B:=eS s.length++s
theorem iy (n:Nat) :(eS n).length<=9:=by
 unfold eS;have:=(Io n).2;split
 ·simp
 ·simp[Ph]; omega
theorem aee (s:List B) :(s.map ch).flatten=s.map bF:=yk s
theorem Tb (l:am) (s:fa) :dE l 1 (cS s)=some ((s.l.map ch).flatten,s.l.length) :=uG l 1 ch s
theorem aax (s:fa) (ak:s.l.length<=10000) {x:U} {l:am} (af:dE l 1 x=some ((s.l.map ch).flatten,s.l.length)) (bn:cK (.ar 1) x=some (.int .i64 s.l.length)) (ci:∀ l',l.length<=l'.length->(∀ b,b<l.length->l'[b]? = l[b]?)->dE l' 1 x=some ((s.l.map ch).flatten,s.l.length))
  {K:U->am->Prop} (aY:∀ v l',cu 1 ch l l' v (jt s.l) false->K (.bG [v,.int .i64 0]) l') :c7 Tryz.prog GS 201 [x] l (c:=⟨K⟩) :=by
 apply bp Tryz.func201 [];have h1:¬ ((10000:Int)<s.l.length) :=by omega
 have az:cy=140737488355328:=rfl;simp[bn,h1];refine zU _ fun v l' h=>?_
 have aC:(BitVec.ofNat 64 s.l.length).toNat=s.l.length:=by rw[awc]; exact av4 (by omega)
 rw[aC] at h;have l5:=iy s.l.length;obtain⟨aZ,b1,aV,a1,_⟩:=h.app (by_:=1) (x:=x) (xs:=s.l) (ci l' h.le h.same) (by simp[ch]) (by omega) (by omega) (by rw[az]; omega);simp[aV];refine dp.cx ?_;simp;exact aY aZ b1 (by simpa [jt] using a1)
theorem YO (s:fa) (ak:s.l.length<=10000) {x:U} {l:am} (af:dE l 1 x=some ((s.l.map ch).flatten,s.l.length)) (bn:cK (.ar 1) x=some (.int .i64 s.l.length)) (ci:∀ l',l.length<=l'.length->(∀ b,b<l.length->l'[b]? = l[b]?)->dE l' 1 x=some ((s.l.map ch).flatten,s.l.length))
  {K:U->am->Prop} (aY:∀ v l',cu 1 ch l l' v (jt s.l) false->K v l') :c7 Tryz.prog GS 172 [x] l (c:=⟨K⟩) :=by
 apply bp Tryz.func172 [];have az:cy=140737488355328:=rfl;simp[bn];refine xC _ fun v l' h=>?_
 have aC:(BitVec.ofNat 64 s.l.length).toNat=s.l.length:=by rw[awc]; exact av4 (by omega)
 rw[aC] at h;have l5:=iy s.l.length;obtain⟨aZ,b1,aV,a1,_⟩:=h.app (by_:=1) (x:=x) (xs:=s.l) (ci l' h.le h.same) (by simp[ch]) (by omega) (by omega) (by rw[az]; omega);simp[aV];refine dp.cx ?_;simp;exact aY aZ b1 (by simpa [jt] using a1)
def aO (i:List B) :List U:=i.map bF
abbrev ez:=cQ (List B)
def aK (s:ez) :U:=cB 32 aO s
def gv (s:ez) :Prop:=∀ i∈s.l,i.length=32
theorem e4 (i:List B) :bd (aO i)=true:=lS bF (fun _=>rfl) _
theorem eK (s:ez) :(aK s).closed=true:=ws e4 s
theorem S0:∀ a b:List B,a.length=b.length->oN (a.map fun x=>UInt8.ofNat x.toNat) (b.map fun x=>UInt8.ofNat x.toNat)=cj a b
 | [],[],_=>rfl
 | [],_::_,h=>by simp at h
 | _::_,[],h=>by simp at h
 | x::a,y::b,h=>by
  have aJ:=S0 a b (by simpa using h);have af:=x.isLt;have ax:=y.isLt;rw[SZ];simp only[awn,oN,aJ];have aR:(UInt8.ofNat x.toNat=UInt8.ofNat y.toNat)<->x.toNat=y.toNat:=by
   constructor
   ·intro h;have:=congrArg UInt8.toNat h;simp only[UInt8.toNat_ofNat'] at this;omega
   ·intro h; rw[h]
  have bJ:(UInt8.ofNat x.toNat<UInt8.ofNat y.toNat)<->x.toNat<y.toNat:=by
   rw[UInt8.lt_iff_toNat_lt]; simp only[UInt8.toNat_ofNat'];rw[av4 (by omega),av4 (by omega)]
  by_cases h1:x.toNat=y.toNat
  ·rw[if_pos (aR.2 h1),if_neg (by omega),if_neg (by omega)]
  ·rw[if_neg (fun h=>h1 (aR.1 h))];by_cases ad:x.toNat<y.toNat
   ·rw[if_pos (bJ.2 ad),if_pos ad]
   ·rw[if_neg (fun h=>ad (bJ.1 h)),if_neg ad,if_pos (by omega)]
@[simp ↓] theorem at8 {P:Program} {aB:Operand->U} {l:am} (f:FuncId) (s3 x y:Operand) :bU P aB l (.cj f s3 x y)=(match Ei f (aB s3) with | true=>dU l (cmpL l (aB x) (aB y)) | false=>none) :=id rfl
@[simp ↓] theorem ath (f:FuncId) (s3 x y:Operand) (v:U) (l:am) (K:U->am->Prop) :eR (.cj f s3 x y) v l K=K v l:=id rfl
@[simp] theorem asx (f:FuncId) :Ei f (.fn f [] [])=true:=ayM f
theorem QH:∀ a:List B,nQ (a.map bF)=some (a.map fun x=>UInt8.ofNat x.toNat)
 | []=>rfl
 | x::a=>by
  simp only[awn,nQ,QH a,avZ];simp[u]
theorem QI (l:am) (s:fa) :po l (cS s)=some (s.l.map fun x=>UInt8.ofNat x.toNat) :=by
 have h:=Tb l s;rw[aee] at h;cases s with
 | none=>simp[po,cB,dE,nQ]
 | some a=>
  unfold po;simp only[cB];have ad:dE l 1 (U.bQ 1 (a.map ch))=some (a.map bF,a.length) :=h;rw[ad];exact QH a
theorem FP (a b:fa) (h:a.l.length=b.l.length) :bz Tryz.prog GS 106 [cS a,cS b] (.int .i64 (cj a.l b.l)) :=by
 refine bL Tryz.checked.mixed bE ?_;apply aeG Tryz.func106 [];have ah:cmpL [] (cS a) (cS b)=some (.int .i64 (cj a.l b.l)) :=by
  unfold cmpL;rw[QI,QI];simp only[S0 _ _ h]
 simp[ah];exact aL rfl rfl
theorem Fe {n b:Nat} (dL:0<n) :fG (.arr n 1) (.ptr b 0 n) none none none=some (.ar 1 b 0 n n n) :=by
 have:gW n n none none none=some (0,n,n) :=rfl;simp only[fG,this];rw[if_pos (by omega),if_neg (by omega)];simp
theorem Aq (a b:List B) (aA:a.length=32) (ag:b.length=32) :bz Tryz.prog GS 149 [fF a,fF b] (.int .i64 (cj a b)) :=by
 refine bL Tryz.checked.mixed bE ?_;apply bp Tryz.func149 [];have ak:=Fe (n:=32) (b:=1) (by omega);have D3:=Fe (n:=32) (b:=0) (by omega);simp[fF,aA,ag,ak,D3];have ah:=FP (some a) (some b) (by simp[aA,ag]);refine iB ah ?_ rfl ?_
 ·exact .cons ((pQ (j:=0) aA rfl).nA (fun _=>rfl) (some a) rfl rfl) (.cons ((pQ (j:=1) ag rfl).nA (fun _=>rfl) (some b) rfl rfl) .nil)
 ·simp;exact aL rfl rfl
theorem IR (a b:List B) (aA:a.length=32) (ag:b.length=32) :bz Tryz.prog GS 107 [fF a,fF b] (.int .i64 (cj a b)) :=by
 refine bL Tryz.checked.mixed bE ?_;apply bp Tryz.func107 [];obtain⟨A,cN⟩:∃ A,A=a.map bF:=⟨_,rfl⟩
 obtain⟨C,nf⟩:∃ C,C=b.map bF:=⟨_,rfl⟩
 have j3:A.length=32:=by rw[cN,av8,aA]
 have oR:C.length=32:=by rw[nf,av8,ag]
 unfold fF;rw[<-cN,<-nf];simp[j3,oR];refine cI 32 (fun k ae l=>ae 2=.ptr 0 0 32/\ae 3=.ptr 1 0 32/\ae 5=.int .i64 k/\l=[.cells 32 A,.cells 32 C]/\∀ j,j<k->a[j]? = b[j]?) ?_ (by simp);rintro k ae l hk ⟨aU,a8,bi,rfl,heq⟩;obtain⟨ae,rfl⟩:=kj aU a8 bi;clear aU a8 bi;have yK:=acZ k heq (by omega) (by omega);by_cases h:(k:Int)<32
 ·have gj:k<32:=by omega
  have fB:IntKind.i64.wrap ((k:Int)+1)=(k+1:Nat) :=wrap_i64 (by omega) (by omega);obtain⟨x,af,_⟩:=bx (l:=a) (k:=k) (by omega);obtain⟨y,ax,_⟩:=bx (l:=b) (k:=k) (by omega);have aeZ:A[k]? = some (bF x) :=by rw[cN,avV,af]; rfl
  have ae8:C[k]? = some (bF y) :=by rw[nf,avV,ax]; rfl
  obtain⟨_,La⟩:=avP.1 aeZ;obtain⟨_,Le⟩:=avP.1 ae8;have LM:a.drop k=x::a.drop (k+1) :=by
   obtain⟨h1,ad⟩:=avP.1 af;rw[awS h1,ad]
  have agk:b.drop k=y::b.drop (k+1) :=by
   obtain⟨h1,ad⟩:=avP.1 ax;rw[awS h1,ad]
  rw[LM,agk,SZ] at yK;have iK:((u x:Int)<u y)<->x.toNat<y.toNat:=by unfold u; omega
  have kJ:((u y:Int)<u x)<->y.toNat<x.toNat:=by unfold u; omega
  by_cases cZ:x.toNat<y.toNat
  ·rw[if_pos cZ] at yK;have FY:x<y:=cZ;simp[h,gj,j3,oR,La,Le,FY];exact aL (by rw[<-yK]) rfl
  ·have FY:¬ x<y:=cZ;rw[if_neg cZ] at yK;by_cases dJ:y.toNat<x.toNat
   ·rw[if_pos dJ] at yK;have Kb:y<x:=dJ;simp[h,gj,j3,oR,La,Le,FY,Kb];exact aL (by rw[<-yK]) rfl
   ·have Kb:¬ y<x:=dJ;simp[h,gj,j3,oR,La,Le,FY,Kb,fB];intro j ai;by_cases gc:j=k
    ·subst gc;rw[af,ax];have:x=y:=av6 (by omega);rw[this]
    ·exact heq j (by omega)
 ·have fe:k=32:=by omega
  subst fe;have:cj a b=0:=by
   rw[<-yK,aw1 (by omega),aw1 (by omega)]; rfl
  simp;exact aL (by rw[this]) rfl
abbrev b0 (l:List (List B)) (k:Nat) :List B:=l.getD k []
def c9 (l:List (List B)) :Bool:=decide (∀ k,k<l.length->1<=k->cj (b0 l (k - 1)) (b0 l k)<0)
def zK (l:List (List B)) :Bool:=decide (∀ k,k<l.length->1<=k->¬ cj (b0 l k) (b0 l (k - 1))<0)
theorem fL {l:List (List B)} {k:Nat} {x:List B} (h:l[k]? = some x) :b0 l k=x:=by
 unfold b0; rw[awe,h]; rfl
theorem Ox {l:List (List B)} (h:∀ k,k<l.length->1<=k->cj (b0 l (k - 1)) (b0 l k)<0) :c9 l=true:=decide_eq_true h
theorem Za {l:List (List B)} {k:Nat} (hk:k<l.length) (h1:1<=k) (h:¬ cj (b0 l (k - 1)) (b0 l k)<0) :c9 l=false:=decide_eq_false fun aG=>h (aG k hk h1)
theorem ZF {l:List (List B)} (h:∀ k,k<l.length->1<=k->¬ cj (b0 l k) (b0 l (k - 1))<0) :zK l=true:=decide_eq_true h
theorem anl {l:List (List B)} {k:Nat} (hk:k<l.length) (h1:1<=k) (h:cj (b0 l k) (b0 l (k - 1))<0) :zK l=false:=decide_eq_false fun aG=>aG k hk h1 h
theorem cC {x:List B} (h:x.length=32) :(aO x).length=32:=by simp[aO,h]
theorem Oj (a:ez) (aA:gv a) (al:a.l.length<=1000000) :bz Tryz.prog GS 61 [aK a] (.bool (c9 a.l)) :=by
 refine bL Tryz.checked.mixed bE ?_;apply bp Tryz.func61 [];simp[aK];refine cI (a.l.length - 1) (fun k ae l=>ae 0=cB 32 aO a/\ae 3=.int .i64 ((k+1:Nat) :Int)/\∀ j,j<k+1->j<a.l.length->1<=j->cj (b0 a.l (j - 1)) (b0 a.l j)<0) ?_ ⟨by simp[aK],by simp,fun j h1 _ ad=>by omega⟩;rintro k ae l hk ⟨cf,a8,ak⟩;obtain⟨s,rfl⟩:=p2 cf a8;clear cf a8;obtain⟨m,hm⟩:∃ m,m=k+1:=⟨_,rfl⟩
 rw[<-hm] at ak ⊢;simp;refine jo (fun h=>?_) (fun h=>?_)
 ·simp only[decide_eq_true_eq] at h;have aM:m<a.l.length:=by omega
  obtain⟨x,af,cE⟩:=bx (l:=a.l) (k:=k) (by omega);obtain⟨y,ax,cr⟩:=bx aM;have aR:IntKind.i64.wrap ((m:Int) - 1)=(k:Int) :=by rw[IntKind.wrap_i64]; omega
  have bJ:IntKind.i64.wrap ((m:Int)+1)=((m+1:Nat) :Int) :=by rw[IntKind.wrap_i64]; omega
  have hc:=fL af;have pJ:=fL ax;simp[aR,af,ax,cC (aA x cE),cC (aA y cr),avO];refine a6 (IR x y (aA x cE) (aA y cr)) (by simp[bd,e4,U.closed,fF]) ?_;by_cases ah:cj x y<0
  ·have ei:¬ (0<=cj x y) :=by omega
   simp[ei,bJ];refine⟨by omega,fun j h1 ad aj=>?_⟩;have dv:cj (b0 a.l (j - 1)) (b0 a.l j)<0:=by
    by_cases ai:j=m
    ·rw[ai,show m - 1=k by omega,hc,pJ]; exact ah
    ·exact ak j (by omega) ad aj
   simpa [b0] using dv
  ·have ei:0<=cj x y:=by omega
   simp[ei];refine aL (congrArg U.bool (Za (k:=m) aM (by omega) ?_).symm) rfl;rw[show m - 1=k by omega,hc,pJ];exact ah
 ·simp[h];exact aL (congrArg U.bool (Ox fun j h1 ad=>ak j (by simp at h; omega) h1 ad).symm) rfl
theorem KL:hQ Tryz.prog 149=true:=by kernel_rfl
theorem ajb (a:ez) (aA:gv a) (al:a.l.length<=1000000) :bz Tryz.prog GS 197 [aK a,.fn 149 [] []] (.bool (zK a.l)) :=by
 refine bL Tryz.checked.mixed bE ?_;apply bp Tryz.func197 [];have h2:IntKind.i64.wrap ((a.l.length:Int) - 1)=(a.l.length:Int) - 1:=by rw[IntKind.wrap_i64]; omega
 simp[aK,h2];refine cI (a.l.length - 1) (fun k ae l=>ae 0=cB 32 aO a/\ae 1=.fn 149 [] []/\ae 5=.int .i64 ((a.l.length:Int) - 1 - k)/\∀ j,j<a.l.length->a.l.length - 1 - k<j->¬ cj (b0 a.l j) (b0 a.l (j - 1))<0) ?_ ⟨by simp[aK],by simp,by simp,fun j h1 ad=>by omega⟩;rintro k ae l hk ⟨cf,aP,bi,ak⟩;obtain⟨s,rfl⟩:=kj cf aP bi;clear cf aP bi;simp;refine jo (fun h=>?_) (fun h=>?_)
 ·simp only[decide_eq_true_eq] at h;obtain⟨m,hm⟩:∃ m,m+k+2=a.l.length:=⟨a.l.length - 2 - k,by omega⟩
  have aR:((a.l.length:Int) - 1 - k)=((m+1:Nat) :Int) :=by omega
  rw[aR];obtain⟨x,af,cE⟩:=bx (l:=a.l) (k:=m+1) (by omega);obtain⟨y,ax,cr⟩:=bx (l:=a.l) (k:=m) (by omega);obtain⟨n,aC⟩:∃ n,n=m+1:=⟨_,rfl⟩
  rw[<-aC] at af ⊢;have bJ:IntKind.i64.wrap ((n:Int) - 1)=(m:Int) :=by rw[IntKind.wrap_i64]; omega
  have hc:=fL af;have pJ:=fL ax;simp[bJ,af,ax,cC (aA x cE),cC (aA y cr),avO];refine⟨KL,a6 (Aq x y (aA x cE) (aA y cr)) (by simp[bd,e4,U.closed,fF]) ?_⟩;by_cases ah:cj x y<0
  ·simp[ah];refine aL (congrArg U.bool (anl (k:=n) (by omega) (by omega) ?_).symm) rfl;rw[show n - 1=m by omega,hc,pJ];exact ah
  ·simp[ah,bJ];refine⟨by omega,by omega,fun j h1 ad=>?_⟩;have dv:¬ cj (b0 a.l j) (b0 a.l (j - 1))<0:=by
    by_cases ai:j=n
    ·rw[ai,show n - 1=m by omega,hc,pJ]; exact ah
    ·exact ak j h1 (by omega)
   simpa [b0] using dv
 ·simp[h];exact aL (congrArg U.bool (ZF fun j h1 ad=>ak j h1 (by simp at h; omega)).symm) rfl
def Ax (l:List (List B)) (k:Nat) :Bool:=decide (k+1<l.length)&&decide (0<=cj (b0 l k) (b0 l (k+1)))
theorem Y9 {l:List (List B)}:c9 l=true<->∀ k,k<l.length->Ax l k=false:=by
 unfold c9 Ax;rw[decide_eq_true_eq];constructor
 ·intro h k hk;by_cases h1:k+1<l.length
  ·have:=h (k+1) h1 (by omega);rw[axz] at this;rw[decide_eq_false (p:=0<=_) (by omega),ay5]
  ·simp[h1]
 ·intro h k hk h1;have:=h (k - 1) (by omega);rw[show k - 1+1=k by omega] at this;rw[decide_eq_true hk,awL,decide_eq_false_iff_not] at this;omega
theorem aml (a:ez) (aA:gv a) (al:a.l.length<=1000000) (k:Nat) (hk:k<a.l.length) (x:List B) (af:x.length=32) (r:am) {K:U->am->Prop}
  (aY:∀ ct,K (.bool (Ax a.l k)) (.cells 1 [aK a] ::.cells 1 [.int .i64 ((k+1:Nat) :Int)] ::ct)) :
  c7 Tryz.prog GS 261 [fF x,.ptr 1 0 1,.ptr 0 0 1] (.cells 1 [aK a] ::.cells 1 [.int .i64 (k:Int)] ::r) (c:=⟨K⟩) :=by
 apply bp Tryz.func261 [];have aR:IntKind.i64.wrap ((k:Int)+1)=((k+1:Nat) :Int) :=by rw[IntKind.wrap_i64]; omega
 obtain⟨m,hm⟩:∃ m,m=k+1:=⟨_,rfl⟩
 rw[<-hm] at aR aY;have bJ:IntKind.i64.wrap ((m:Int) - 1)=(k:Int) :=by rw[IntKind.wrap_i64]; omega
 unfold Ax at aY;rw[<-hm] at aY;obtain⟨y,ax,cr⟩:=bx hk;by_cases h:m<a.l.length
 ·obtain⟨z,aw,qX⟩:=bx h;have pJ:=fL ax;have aje:=fL aw;rw[pJ,aje] at aY;have h' : (m:Int)<(a.l.length:Int) :=by omega
  have w9:a.l[m]=z:=(avP.1 aw).2;simp[fF,aK,aR,bJ,h,h',ax,w9,cC (aA y cr),cC (aA z qX),avO];refine a6 (Aq y z (aA y cr) (aA z qX)) (by simp[bd,e4,U.closed,fF]) ?_;have:=aY (r++[a7.cells x.length (List.map bF x)]);simpa [h,aK] using this
 ·have h' : ¬ (m:Int)<(a.l.length:Int) :=by omega
  simp[fF,aK,aR,bJ,h,h'];have:=aY (r++[a7.cells x.length (List.map bF x)]);simpa [h,aK] using this
theorem aej:hQ Tryz.prog 261=true:=by kernel_rfl
theorem amn (a:ez) (aA:gv a) (al:a.l.length<=1000000) {K:U->am->Prop} (aY:∀ n ct,(n<0<->c9 a.l=true)->K (.int .i64 n) ct) :
  c7 Tryz.prog GS 117 [aK a,.fn 261 [] [.ptr 1 0 1,.ptr 0 0 1]] [.cells 1 [aK a],.cells 1 [.int .i64 0]] (c:=⟨K⟩) :=by
 apply bp Tryz.func117 [];simp[aK];refine cI a.l.length (fun k ae l=>ae 0=cB 32 aO a/\ae 1=.fn 261 [] [.ptr 1 0 1,.ptr 0 0 1]/\ae 7=.int .i64 a.l.length/\ae 8=.int .i64 k/\(∃ r,l=.cells 1 [aK a] ::.cells 1 [.int .i64 (k:Int)] ::r)/\∀ j,j<k->Ax a.l j=false) ?_ ⟨by simp[aK],by simp,by simp,by simp,⟨[],by simp[aK]⟩,fun j h=>by omega⟩;rintro k ae l hk ⟨cf,aP,dk,dj,⟨r,rfl⟩,ak⟩;obtain⟨s,rfl⟩:=i0 cf aP dk dj;clear cf aP dk dj;simp;refine jo (fun h=>?_) (fun h=>?_)
 ·simp only[decide_eq_true_eq] at h;obtain⟨x,af,cE⟩:=bx (l:=a.l) (k:=k) (by omega);have aR:IntKind.i64.wrap ((k:Int)+1)=((k+1:Nat) :Int) :=by rw[IntKind.wrap_i64]; omega
  simp[af,cC (aA x cE),avO];refine⟨aej,aml a aA al k (by omega) x (aA x cE) r fun ct=>?_⟩;cases bC:Ax a.l k with
  | true=>
   simp;refine aY _ _ ⟨fun aC=>by omega,fun az=>?_⟩;have:=Y9.1 az k (by omega);rw[bC] at this; cases this
  | false=>
   simp[aR];refine⟨by omega,fun j ai=>?_⟩;by_cases gc:j=k
   ·subst gc; exact bC
   ·exact ak j (by omega)
 ·simp[h];refine aY _ _ ⟨fun _=>Y9.2 fun j ai=>ak j (by simp at h; omega),fun _=>by omega⟩
theorem amm (a:ez) (aA:gv a) (al:a.l.length<=1000000) {K:U->am->Prop} (aY:∀ ct,K (.bool (!c9 a.l)) ct) :
  c7 Tryz.prog GS 71 [aK a,.fn 261 [] [.ptr 1 0 1,.ptr 0 0 1]] [.cells 1 [aK a],.cells 1 [.int .i64 0]] (c:=⟨K⟩) :=by
 apply bp Tryz.func71 [];simp;refine amn a aA al fun n ct aC=>?_
 have e:decide (0<=n)=!c9 a.l:=by
  cases az:c9 a.l with
  | true=>have:=aC.2 az; simp; omega
  | false=>
   have:¬ n<0:=fun h=>by have:=aC.1 h; rw[az] at this; cases this
   simp; omega
 simp[e];exact aY ct
theorem amo (a:ez) (aA:gv a) (al:a.l.length<=1000000) :bz Tryz.prog GS 242 [aK a] (.bool (c9 a.l)) :=by
 refine bL Tryz.checked.mixed bE ?_;apply bp Tryz.func242 [];have ah:(aK a).cells=some [aK a] :=by cases a<;>rfl
 simp[ah];refine amm a aA al fun ct=>?_
 simp;exact aL rfl rfl
end Op

end Go.cb

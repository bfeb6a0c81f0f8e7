/-
  A state with one more operation, in the program.
-/
import Derived.Test.YtobphgccoalchaaGreatDoorDm
set_option linter.unusedVariables false
set_option linter.unusedSimpArgs false
set_option linter.unnecessarySimpa false
namespace Go.ct
open Go Go.Proofs
set_option maxRecDepth 100000
namespace Op
open hK
def fc:cG:=⟨0,none,none,none⟩
abbrev io (o:bJ) (h:List B) :Bool:=!decide (h∈o.bN.l)
def Co (s:cG) (o:bJ) (x:List B) :List (List B) :=pz (s.b4.l.filter (io o)++[x])
noncomputable def BN (s:cG) (o:bJ) (x:List B) (b:eN) :cG × Int:=
 if (gq s.set o b).2=0 then (if (iw s.cY o).2=0 then (⟨s.er+1,(gq s.set o b).1,(iw s.cY o).1,some (Co s o x)⟩,0) else (fc,(iw s.cY o).2)) else (fc,(gq s.set o b).2)
noncomputable def se (s:cG) (g:cR) (x:List B) :cG × Int:=
 if x∈g.ids.l then (if x∈s.b4.l then (fc,14) else if s.er=60 then (fc,18) else BN s (si g x).1 x (hn (mX g (r9 g.ids.l x)))) else (fc,6)
theorem pO (s:cG) (e:Int) :(ad.b5 [.aM (ed s),.int .i64 e]).closed=true:=by have:=oU s; simp[ad.closed,a7,this]
abbrev ys (s:cG) (g:cR) (O X:List ad) (A:e7) (R:gI) (v:ad) :aw:=
 [.cells 4 [.int .i64 s.er,cE s.set,cJ s.cY,bc s.b4],.cells 2 [bc g.ids,c8 g.ops],.cells 32 X,.cells 4 [.int .i64 0,.aK,.aK,.aK],.cells 11 O,.cells 4 [.int .i64 (s.er+1),cE A,cJ R,v]]
structure adI (s:cG) (g:cR) (o:bJ) (O X:List ad) (A:e7) (R:gI) (k:Nat) (ah:bB) (l:aw) :Prop where
 bC:ah 5=.ptr 2 0 32
 cv:ah 6=.ptr 3 0 4
 et:ah 8=.ptr 4 0 11
 g1:ah 12=.ptr 5 0 4
 I5:ah 70=bc s.b4
 I6:ah 71=.int .i64 s.b4.l.length
 I7:ah 72=.int .i64 k
 ex:∃ v j rest,l=ys s g O X A R v++rest/\bW 32 l v j (((s.b4.l.take k).filter (io o)).map a1)/\(v=.aK\/6<=j)/\cX v=((s.b4.l.take k).filter (io o)).isEmpty
set_option maxHeartbeats 8000000 in
theorem aju (s:cG) (ap:kL s) (iZ:0<=s.er) (l7:s.er<=60) (aR:s.b4.l.length<=60) (g:cR) (aA:ib g) (aG:gR g=0) (x:List B) (al:x.length=32) :
  bE Tryz.prog GS 53 [.aM (ed s),de g,.aM (a1 x)] (.b5 [.aM (ed (se s g x).1),.int .i64 (se s g x).2]) :=by
 refine bS Tryz.checked.mixed bP ?_;apply bw aht asb;unfold Q9 aa2;have aC:c4=140737488355328:=rfl;have V:=AL aG;have dY:=eZ g.ids;have cQ:=ml g.ops;have eu:=fK x;have bm:=c3 al;have q7:=eZ s.b4;have lB:=lv s.set;have gw:=lu s.cY;have eK:=aiN g aA aG x al;have ea:=Nr s.b4 ap.b4 ap.yg x al;by_cases hm:x∈g.ids.l
 ·obtain⟨i,aB⟩:=aCY.1 hm;obtain⟨o,ax,e2⟩:=bV (l:=g.ops.l) (k:=i) (by rw[<-V.len]; exact (aCJ.1 aB).1);have qf:=aA.ops o e2;have zD:=aeg g aA V aG x i aB;have jd:se s g x=if x∈s.b4.l then (fc,14) else if s.er=60 then (fc,18) else BN s o x (hn (mX g i)) :=by
   unfold se; rw[if_pos hm,zs V aB ax,w4 V.eH aB]
  rw[zs V aB ax] at eK;obtain⟨b,ai⟩:∃ b,b=hn (mX g i) :=⟨_,rfl⟩
  rw[jd,<-ai];have oo:gx b:=fun p aF=>by rw[ai,jH] at aF; exact aA.ids p (N1 aF)
  have fo:b.l.length<=1000000:=by rw[ai,jH]; have:=N0 g i; have:=aA.li; omega
  rw[<-ai] at zD;have p1:=eZ b;have lA:=avT s.set o b ap.set ap.ls qf oo fo;have tZ:=av6 s.cY o ap.cY ap.sR qf;have cH:(bn o).length=11:=rfl;have iJ:=i6 o;have ju:∀ h,(bn o)[1]'h=bc o.bN:=fun _=>rfl
  obtain⟨X,ce⟩:∃ X,X=a1 x:=⟨_,rfl⟩
  obtain⟨O,eO⟩:∃ O,O=bn o:=⟨_,rfl⟩
  rw[<-ce] at eu bm eK ea zD ⊢;rw[<-eO] at eK cH iJ lA tZ ju;have ng:bO [ad.int .u32 0,.aK,.int .u64 0,.int .u8 0,.str [],.int .u8 0,.int .i64 0,.int .u64 0,.str [],.int .u32 0,.int .u32 0] 0 O=O:=fM (by rw[cH]; rfl);unfold de dK at eK zD;simp[ed,de,dK,bm,aCI];refine a8 eK (by simp[a7,ad.closed,dY,cQ,eu]) ?_;simp[cH,ng,bm,aCI];refine a8 ea (by simp[a7,ad.closed,q7,eu]) ?_;by_cases h1:x∈s.b4.l
  ·simp[h1];exact aJ rfl rfl
  ·by_cases ag:s.er=60
   ·simp[h1,ag];exact aJ rfl rfl
   ·have a2:IntKind.i64.wrap (s.er+1)=s.er+1:=by rw[IntKind.wrap_i64]; omega
    simp[h1,ag,bm,aCI];refine a8 zD (by simp[a7,ad.closed,dY,cQ,eu]) ?_;simp[a2,cH,bO,aCI];obtain⟨A,c9⟩:∃ A,A=gq s.set o b:=⟨_,rfl⟩
    obtain⟨R,fR⟩:∃ R,R=iw s.cY o:=⟨_,rfl⟩
    have rb:BN s o x b=if A.2=0 then (if R.2=0 then (⟨s.er+1,A.1,R.1,some (Co s o x)⟩,0) else (fc,R.2)) else (fc,A.2) :=by unfold BN; rw[c9,fR]
    rw[if_neg h1,if_neg ag,rb];rw[<-c9] at lA;rw[<-fR] at tZ;refine a8 lA (by simp[a7,ad.closed,lB,iJ,p1]) ?_;have m2:=It A.1;have zA:=vc R.1;by_cases aq:A.2=0
    ·simp[aq,m2,cH,bO,aCI];refine a8 tZ (by simp[a7,ad.closed,gw,iJ]) ?_;by_cases aH:R.2=0
     ·simp[aH,zA,cH,bO,aCI];have mB:c1 (.av 32) (bc s.b4)=some (.int .i64 s.b4.l.length) :=by simp[bc]
      have JA:bO (rep 32 (ad.int .u8 0)) 0 X=X:=fM (by rw[bm]; rfl);simp[mB];refine c2 s.b4.l.length (adI s g o O X A.1 R.1) ?_ ?_
      ·rintro k ah l hk ⟨bC,cv,et,g1,I5,I6,I7,v,j,rest,rfl,fU,am,ij⟩;obtain⟨ah,rfl⟩:=ac2 bC cv et g1 I5 I6 I7;clear bC cv et g1 I5 I6 I7;unfold W3;simp;refine im (fun h=>?_) (fun h=>?_)
       ·simp only[decide_eq_true_eq] at h;obtain⟨y,aE,b6⟩:=bV (l:=s.b4.l) (k:=k) (by omega);have b7:IntKind.i64.wrap ((k:Int)+1)=((k+1:Nat) :Int) :=by rw[IntKind.wrap_i64]; omega
        have bZ:cC (.av 32) (bc s.b4) (.int .i64 (k:Int))=some (.cm (a1 y) 0) :=by simp[bc,aE]
        have vP:=ap.b4 y b6;have b8:=c3 vP;have h3:=fK y;have jv:=Nr o.bN qf.ids qf.len y vP;have JM:=eZ o.bN;have cL:s.b4.l.take (k+1)=s.b4.l.take k++[y] :=by rw[aC4,aE]; rfl
        obtain⟨Y,dB⟩:∃ Y,Y=a1 y:=⟨_,rfl⟩
        rw[<-dB] at bZ b8 h3 jv;have Fm:bO (rep 32 (ad.int .u8 0)) 0 Y=Y:=fM (by rw[b8]; rfl);simp[bZ,b8,Fm,cH,ju,aCI];refine a8 jv (by simp[a7,ad.closed,JM,h3]) ?_;by_cases bd:y∈o.bN.l
        ·simp[bd,b7];have aL:(s.b4.l.take (k+1)).filter (io o)=(s.b4.l.take k).filter (io o) :=by rw[cL,aEe]; simp[bd]
         refine⟨h,by simp,by simp,by simp,by simp,by simp,by simp,by simp,v,j,rest++[.cells 32 Y],rfl,?_,am,by rw[aL]; exact ij⟩;have dq:=fU.more [bp.cells 32 Y];rw[aDa] at dq;rw[aL]; exact dq
        ·have aL:(s.b4.l.take (k+1)).filter (io o)=(s.b4.l.take k).filter (io o)++[y] :=by rw[cL,aEe]; simp[bd]
         have e1:((s.b4.l.take k).filter (io o)).length<=60:=aD2 (aEa _ _) (by rw[aCX]; omega);obtain⟨bl,cx,dU,br,bI,a3,a4⟩:=r1 (by_:=32) (pre:=ys s g O X A.1 R.1 v) (rest:=rest++[.cells 32 Y,.cells 32 Y]) (by rw[<-aDa]; exact fU.more _) am (x:=.av 32 (rest.length+1+1+1+1+1+1+1) 0 1 1 32) (xs:=[Y])
          (by simp[dL,b8,aCI]) (by simp[b8]) (by omega) (by omega) (by rw[aC]; simp; omega)
         simp only[ys,aDG,aDq] at br;have ik:=bI.cells;simp[bd,b8,Fm,aCI,br];refine dx.c6 ?_;simp[ik,bO,b7];have gE:cX bl=false:=by rw[a4]; simp
         have J4:6<=cx:=by
          rcases a3 with h | h
          ·rw[h] at gE; cases gE
          ·simpa using h
         refine⟨h,by simp,by simp,by simp,by simp,by simp,by simp,by simp,bl,cx,dU,rfl,?_,.inr J4,by rw[aL,gE]; simp⟩;rw[aL,aDe,aDc,aEB,<-dB];refine bI.nF (.inr ?_);obtain⟨kk,rfl⟩:∃ kk,cx=kk+6:=⟨cx - 6,by omega⟩
         rfl
       ·have gV:k=s.b4.l.length:=by simp at h; omega
        rw[gV,aDi] at fU ij;have e1:(s.b4.l.filter (io o)).length<=60:=aD2 (aEa _ _) aR;obtain⟨bl,cx,dU,br,bI,a3,a4⟩:=r1 (by_:=32) (pre:=ys s g O X A.1 R.1 v) (rest:=rest++[.cells 32 X]) (by rw[<-aDa]; exact fU.more _) am (x:=.av 32 (rest.length+1+1+1+1+1+1) 0 1 1 32) (xs:=[X])
         (by simp[dL,bm,aCI]) (by simp[bm]) (by omega) (by omega) (by rw[aC]; simp; omega)
        simp only[ys,aDG,aDq] at br;have ik:=bI.cells;simp[h,bm,JA,aCI,br];refine dx.c6 ?_;simp[ik,bO];have gE:cX bl=false:=by rw[a4]; simp
        have J4:6<=cx:=by
         rcases a3 with h | h
         ·rw[h] at gE; cases gE
         ·simpa using h
        have a5:bW 32 (ys s g O X A.1 R.1 bl++dU) bl cx ((s.b4.l.filter (io o)++[x]).map a1) :=by
         rw[aDe,aDc,aEB,<-ce];refine bI.nF (.inr ?_);obtain⟨kk,rfl⟩:∃ kk,cx=kk+6:=⟨cx - 6,by omega⟩
         rfl
        refine ajS (xs:=s.b4.l.filter (io o)++[x]) (fun z az=>?_) (by rw[aCS]; simp; omega) (by simp) a5 (fun l' dE dA iD=>?_)
        ·rcases aDr.1 az with e | e
         ·exact ap.b4 z (aEd.1 e).1
         ·rw[aDm.1 e]; exact al
        have DE:l'[5]? = some (.cells 4 [.int .i64 (s.er+1),cE A.1,cJ R.1,bl]) :=by rw[dA 5 (by omega)]; rfl
        have ji:l'[3]? = some (.cells 4 [.int .i64 0,.aK,.aK,.aK]) :=by rw[dA 3 (by omega)]; rfl
        have sw:4<=l'.length:=by rw[dE]; simp
        have wv:∀ y:bp,(l'.set 3 y)[3]? = some y:=fun y=>aC3 (by omega)
        simp[DE,ji,wv,bO];rw[if_pos aq,if_pos aH];refine qD (.aM _ _ rfl fun m c c' ak fD=>?_) (aJ rfl rfl);rcases m with _ | _ | _ | _ | m
        ·simp[ed] at ak fD; subst ak fD; exact .same _ rfl
        ·simp[ed] at ak fD; subst ak fD; exact .same _ (lv _)
        ·simp[ed] at ak fD; subst ak fD; exact .same _ (lu _)
        ·simp[ed] at ak fD; subst ak fD;have kQ:bW 32 (l'.set 3 (.cells 4 [.int .i64 (s.er+1),cE A.1,cJ R.1,bl])) bl cx ((Co s o x).map a1) :=iD.nF (.inr (aCU (by omega)));exact kQ.q.mP fK (some (Co s o x)) gE rfl
        ·simp at ak
      ·refine⟨by simp,by simp,by simp,by simp,by simp,by simp,by simp,.aK,0,[],by simp[ys],.nil 0,.inl rfl,rfl⟩
     ·simp[aH,zA,cH,bO,aCI];exact aJ (by rw[if_pos aq]; rfl) (by rw[if_pos aq]; exact pO fc _)
    ·simp[aq,m2];exact aJ rfl (pO fc _)
 ·have sv:si g x=(HL,6) :=by unfold si; rw[if_neg hm]
  have jd:se s g x=(fc,6) :=by unfold se; rw[if_neg hm]
  rw[sv] at eK;rw[jd];obtain⟨X,ce⟩:∃ X,X=a1 x:=⟨_,rfl⟩
  rw[<-ce] at eu bm eK ⊢;unfold de dK at eK;simp[ed,de,dK,bm,aCI];refine a8 eK (by simp[a7,ad.closed,dY,cQ,eu]) ?_;have az:bn HL=[ad.int .u32 0,.aK,.int .u64 0,.int .u8 0,.str [],.int .u8 0,.int .i64 0,.int .u64 0,.str [],.int .u32 0,.int .u32 0] :=rfl;simp[az,bO];exact aJ rfl rfl
theorem Ht {s:cG} (h:iz s=0) :(0<=s.er/\s.er<=60/\s.b4.l.length<=60)/\iA s.set.l=0/\ix s.cY.l=0/\eH s.b4.l=true:=by
 unfold iz gT E4 vo at h;split at h
 ·rename_i h1;simp only[aCQ,decide_eq_true_eq] at h1;obtain⟨⟨a,b,c,d⟩,e,f,g⟩:=h1;exact⟨⟨a,b,by omega⟩,e,f,g⟩
 ·cases h
noncomputable def oi (s:cG) (g:cR) (x:List B) :cG × Int:=if iz s=0 then (if gR g=0 then se s g x else (fc,gR g)) else (fc,iz s)
theorem avX (s:cG) (ap:kL s) (g:cR) (aA:ib g) (x:List B) (al:x.length=32) :
  bE Tryz.prog GS 20 [.aM (ed s),de g,.aM (a1 x)] (.b5 [.aM (ed (oi s g x).1),.int .i64 (oi s g x).2]) :=by
 refine bS Tryz.checked.mixed bP ?_;apply bw agw arb;unfold P4 ZW;have dY:=eZ g.ids;have cQ:=ml g.ops;have eu:=fK x;have bm:=c3 al;have bT:=oU s;have cU:=Nt s ap;have jw:=Np g aA;obtain⟨S,gU⟩:∃ S,S=ed s:=⟨_,rfl⟩
 have kA:S.length=4:=by rw[gU]; rfl
 by_cases aG:iz s=0
 ·by_cases h1:gR g=0
  ·have jd:oi s g x=se s g x:=by unfold oi; rw[if_pos aG,if_pos h1]
   obtain⟨⟨br,bI,a3⟩,_⟩:=Ht aG;have lA:=aju s ap br bI a3 g aA h1 x al;rw[jd];obtain⟨F,nH⟩:∃ F,F=ed (se s g x).1:=⟨_,rfl⟩
   have B6:F.length=4:=by rw[nH]; rfl
   have Jl:a7 F=true:=by rw[nH]; exact oU _
   obtain⟨X,ce⟩:∃ X,X=a1 x:=⟨_,rfl⟩
   rw[<-gU] at cU lA bT ⊢;rw[<-ce] at bm eu lA ⊢;rw[<-nH] at lA ⊢;have KE:bO [ad.int .i64 0,.aK,.aK,.aK] 0 F=F:=fM (by rw[B6]; rfl);unfold de dK at jw lA;simp[de,dK,kA,bm,aCI];refine a8 cU (by simp[a7,ad.closed,bT]) ?_;simp[aG];refine a8 jw (by simp[a7,ad.closed,dY,cQ]) ?_;simp[h1,kA,bm,aCI];refine a8 lA (by simp[a7,ad.closed,bT,dY,cQ,eu]) ?_;simp[B6,KE,aCI];exact aJ rfl (by simp[ad.closed,a7,Jl])
  ·have jd:oi s g x=(fc,gR g) :=by unfold oi; rw[if_pos aG,if_neg h1]
   rw[jd];obtain⟨X,ce⟩:∃ X,X=a1 x:=⟨_,rfl⟩
   rw[<-gU] at cU bT ⊢;rw[<-ce] at bm eu ⊢;unfold de dK at jw;simp[de,dK,kA,bm,aCI];refine a8 cU (by simp[a7,ad.closed,bT]) ?_;simp[aG];refine a8 jw (by simp[a7,ad.closed,dY,cQ]) ?_;simp[h1];exact aJ rfl (pO fc _)
 ·have jd:oi s g x=(fc,iz s) :=by unfold oi; rw[if_neg aG]
  rw[jd];obtain⟨X,ce⟩:∃ X,X=a1 x:=⟨_,rfl⟩
  rw[<-gU] at cU bT ⊢;rw[<-ce] at bm eu ⊢;simp[de,dK,kA,bm,aCI];refine a8 cU (by simp[a7,ad.closed,bT]) ?_;simp[aG];exact aJ rfl (pO fc _)
structure adX (a:eN) (o:bJ) (X:List ad) (k:Nat) (ah:bB) (l:aw) :Prop where
 cd:ah 0=bc a
 bL:ah 4=.ptr 0 0 11
 bC:ah 5=.ptr 1 0 32
 et:ah 8=.int .i64 k
 ex:∃ v j rest,l=.cells 11 (bn o) ::.cells 32 X::rest/\ah 7=v/\bW 32 l v j (((a.l.take k).filter (io o)).map a1)/\(v=.aK\/2<=j)/\cX v=((a.l.take k).filter (io o)).isEmpty
def p5 (l:List (List B)) (o:bJ) (x:List B) :List (List B) :=A0 (l.filter (io o)++[x])
set_option maxHeartbeats 4000000 in
theorem asW (a:eN) (aD:gx a) (ar:a.l.length<=60) (aI:a.l.Nodup) (o:bJ) (ax:ic o) (x:List B) (al:x.length=32) (ki:x∉a.l) :
  bE Tryz.prog GS 103 [bc a,.aM (bn o),.aM (a1 x)] (bc (some (p5 a.l o x))) :=by
 refine bS Tryz.checked.mixed bP ?_;apply bw ae4 apK;unfold OJ YF;have aC:c4=140737488355328:=rfl;have ht:c1 (.av 32) (bc a)=some (.int .i64 a.l.length) :=by simp[bc]
 have bm:=c3 al;have cH:(bn o).length=11:=rfl;have ju:∀ h,(bn o)[1]'h=bc o.bN:=fun _=>rfl
 have JM:=eZ o.bN;obtain⟨X,ce⟩:∃ X,X=a1 x:=⟨_,rfl⟩
 rw[<-ce] at bm ⊢;have JA:bO (rep 32 (ad.int .u8 0)) 0 X=X:=fM (by rw[bm]; rfl);simp[bm,cH,aCI];refine c2 a.l.length (adX a o X) ?_ ⟨by simp,by simp,by simp,by simp,.aK,0,[],by simp,by simp,.nil 0,.inl rfl,rfl⟩;rintro k ah l hk ⟨cd,bL,bC,et,v,j,rest,rfl,eU,fU,am,ij⟩;obtain⟨ah,rfl⟩:=mR cd bL bC eU et;clear cd bL bC eU et;unfold VW;obtain⟨O,eO⟩:∃ O,O=bn o:=⟨_,rfl⟩
 rw[<-eO] at cH ju fU ⊢;simp[ht];refine im (fun h=>?_) (fun h=>?_)
 ·simp only[decide_eq_true_eq] at h;obtain⟨y,aE,b6⟩:=bV (l:=a.l) (k:=k) (by omega);have b7:IntKind.i64.wrap ((k:Int)+1)=((k+1:Nat) :Int) :=by rw[IntKind.wrap_i64]; omega
  have bZ:cC (.av 32) (bc a) (.int .i64 (k:Int))=some (.cm (a1 y) 0) :=by simp[bc,aE]
  have vP:=aD y b6;have b8:=c3 vP;have h3:=fK y;have jv:=Hb o.bN ax.ids ax.len y vP;have cL:a.l.take (k+1)=a.l.take k++[y] :=by rw[aC4,aE]; rfl
  obtain⟨Y,dB⟩:∃ Y,Y=a1 y:=⟨_,rfl⟩
  rw[<-dB] at bZ b8 h3 jv;have Fm:bO (rep 32 (ad.int .u8 0)) 0 Y=Y:=fM (by rw[b8]; rfl);simp[bZ,b8,cH,ju,aCI];refine a8 jv (by simp[a7,ad.closed,JM,h3]) ?_;by_cases bd:y∈o.bN.l
  ·simp[bd,b7];have aL:(a.l.take (k+1)).filter (io o)=(a.l.take k).filter (io o) :=by rw[cL,aEe]; simp[bd]
   exact⟨h,by simp,by simp,by simp,by simp,v,j,rest,by rw[eO],by simp,by rw[aL]; exact fU,am,by rw[aL]; exact ij⟩
  ·have aL:(a.l.take (k+1)).filter (io o)=(a.l.take k).filter (io o)++[y] :=by rw[cL,aEe]; simp[bd]
   have e1:((a.l.take k).filter (io o)).length<=60:=aD2 (aEa _ _) (by rw[aCX]; omega);obtain⟨bl,cx,dU,br,bI,a3,a4⟩:=r1 (by_:=32) (pre:=[.cells 11 O,.cells 32 X]) (rest:=rest++[.cells 32 Y]) (fU.more _) am (x:=.av 32 (rest.length+1+1) 0 1 1 32) (xs:=[Y])
    (by simp[dL,b8,aCI]) (by simp[b8]) (by omega) (by omega) (by rw[aC]; simp; omega)
   simp only[aDG,aDq] at br;simp[bd,bZ,b8,Fm,aCI,br];refine dx.c6 ?_;simp[b7];have gE:cX bl=false:=by rw[a4]; simp
   refine⟨h,by simp,by simp,by simp,by simp,bl,cx,dU,by rw[eO],by simp,?_,by simpa using a3,by rw[aL,gE]; simp⟩;rw[aL,aDe,aDc,aEB,<-dB];exact bI
 ·have gV:k=a.l.length:=by simp at h; omega
  rw[gV,aDi] at fU ij;have e1:(a.l.filter (io o)).length<=60:=aD2 (aEa _ _) ar;obtain⟨bl,cx,dU,br,bI,a3,a4⟩:=r1 (by_:=32) (pre:=[.cells 11 O,.cells 32 X]) (rest:=rest++[.cells 32 X]) (fU.more _) am (x:=.av 32 (rest.length+1+1) 0 1 1 32) (xs:=[X])
   (by simp[dL,bm,aCI]) (by simp[bm]) (by omega) (by omega) (by rw[aC]; simp; omega)
  simp only[aDG,aDq] at br;have gE:cX bl=false:=by rw[a4]; simp
  have a5:bW 32 (bp.cells 11 O::.cells 32 X::dU) bl cx ((a.l.filter (io o)++[x]).map a1) :=by
   rw[aDe,aDc,aEB,<-ce]; exact bI
  have vL:=atf (some (a.l.filter (io o)++[x])) (fun z az=>by
   rcases aDr.1 az with e | e
   ·exact aD z (aEd.1 e).1
   ·rw[aDm.1 e]; exact al) (by simp; omega) (by
   show (a.l.filter (io o)++[x]).Nodup;refine aEx.2 ⟨aI.sublist aFz,by simp,fun p aF q bD=>?_⟩;rw[aDm.1 bD];exact fun e=>ki (by rw[<-e]; exact (aEd.1 aF).1))
  have au:ad.cr 32 ((a.l.filter (io o)++[x]).map a1)=bc (some (a.l.filter (io o)++[x])) :=rfl;simp[h,bm,JA,aCI,br];refine dx.zo a5 gE ?_;rw[au];simp;refine a8 vL (by simp[a7,eZ]) ?_;simp;exact aJ rfl (eZ _)
noncomputable def BO (s:cG) (o:bJ) (x:List B) (b:eN) :cG × Int:=
 if (jo s.set o b).2=0 then (if (i4 s.cY o).2=0 then (⟨s.er+1,(jo s.set o b).1,(i4 s.cY o).1,some (p5 s.b4.l o x)⟩,0) else (fc,(i4 s.cY o).2)) else (fc,(jo s.set o b).2)
noncomputable def sf (s:cG) (g:cR) (x:List B) :cG × Int:=
 if x∈g.ids.l then (if x∈s.b4.l then (fc,14) else if s.er=60 then (fc,18) else BO s (si g x).1 x (hn (oQ g (r9 g.ids.l x)))) else (fc,6)
theorem aca {l:List (List B)} (h:eH l=true) :l.Nodup:=by
 refine aFO.2 fun i j aB am jx e=>?_
 have:=sJ h i j l[i] (aCM aB) (by rw[e]; exact aCM am);omega
set_option maxHeartbeats 8000000 in
theorem ats (s:cG) (ap:kL s) (iZ:0<=s.er) (l7:s.er<=60) (aR:s.b4.l.length<=60) (aI:s.b4.l.Nodup) (g:cR) (aA:ib g) (aG:gR g=0) (x:List B) (al:x.length=32) :
  bE Tryz.prog GS 54 [.aM (ed s),de g,.aM (a1 x)] (.b5 [.aM (ed (sf s g x).1),.int .i64 (sf s g x).2]) :=by
 refine bS Tryz.checked.mixed bP ?_;apply bw ahu asc;unfold Ra aa3;have V:=AL aG;have dY:=eZ g.ids;have cQ:=ml g.ops;have eu:=fK x;have bm:=c3 al;have q7:=eZ s.b4;have lB:=lv s.set;have gw:=lu s.cY;have e9:=Mf g.ids aA.ids aA.li x al;have ea:=Hb s.b4 ap.b4 ap.yg x al;by_cases hm:x∈g.ids.l
 ·obtain⟨i,aB⟩:=aCY.1 hm;obtain⟨o,ax,e2⟩:=bV (l:=g.ops.l) (k:=i) (by rw[<-V.len]; exact (aCJ.1 aB).1);have qf:=aA.ops o e2;have gN:=abN g aA (sJ V.eH) aB ax;obtain⟨xo,Fo⟩:=NN g aA V aB;have jd:sf s g x=if x∈s.b4.l then (fc,14) else if s.er=60 then (fc,18) else BO s o x (hn (oQ g i)) :=by
   unfold sf; rw[if_pos hm,zs V aB ax,w4 V.eH aB]
  have FR:¬ (g3 x g.ids.l 0<0) :=by have:=(vV x g.ids.l 0).2 hm; omega
  obtain⟨b,ai⟩:∃ b,b=hn (oQ g i) :=⟨_,rfl⟩
  rw[jd,<-ai];have oo:gx b:=fun p aF=>by rw[ai,jH] at aF; exact aA.ids p (xo.sub p aF)
  have fo:b.l.length<=1000000:=by rw[ai,jH]; have:=xo.len; have:=aA.li; omega
  rw[<-ai] at Fo;have p1:=eZ b;have lA:=asO s.set o b ap.set ap.ls qf oo fo;have tZ:=as5 s.cY o ap.cY ap.sR qf;have cH:(bn o).length=11:=rfl;have iJ:=i6 o;by_cases h1:x∈s.b4.l
  ·rw[if_pos h1];obtain⟨X,ce⟩:∃ X,X=a1 x:=⟨_,rfl⟩
   rw[<-ce] at eu bm e9 ea ⊢;simp[ed,de,dK,bm,aCI];refine a8 e9 (by simp[a7,ad.closed,dY,eu]) ?_;simp[FR,bm,aCI];refine a8 ea (by simp[a7,ad.closed,q7,eu]) ?_;simp[h1];exact aJ rfl (pO fc _)
  ·have Ct:=asW s.b4 ap.b4 aR aI o qf x al h1;obtain⟨X,ce⟩:∃ X,X=a1 x:=⟨_,rfl⟩
   obtain⟨O,eO⟩:∃ O,O=bn o:=⟨_,rfl⟩
   rw[<-ce] at eu bm e9 ea Fo gN Ct ⊢;rw[<-eO] at cH iJ lA tZ gN Ct;have ng:bO [ad.int .u32 0,.aK,.int .u64 0,.int .u8 0,.str [],.int .u8 0,.int .i64 0,.int .u64 0,.str [],.int .u32 0,.int .u32 0] 0 O=O:=fM (by rw[cH]; rfl);unfold de dK at Fo gN;simp[ed,de,dK,bm,aCI];refine a8 e9 (by simp[a7,ad.closed,dY,eu]) ?_;simp[FR,bm,aCI];refine a8 ea (by simp[a7,ad.closed,q7,eu]) ?_;rw[if_neg h1];by_cases ag:s.er=60
   ·simp[h1,ag];exact aJ rfl (pO fc _)
   ·have a2:IntKind.i64.wrap (s.er+1)=s.er+1:=by rw[IntKind.wrap_i64]; omega
    rw[if_neg ag];simp[h1,ag,bm,aCI];refine a8 gN (by simp[a7,ad.closed,dY,cQ,eu]) ?_;simp[cH,ng,bm,aCI];refine a8 Fo (by simp[a7,ad.closed,dY,cQ,eu]) ?_;obtain⟨A,c9⟩:∃ A,A=jo s.set o b:=⟨_,rfl⟩
    obtain⟨R,fR⟩:∃ R,R=i4 s.cY o:=⟨_,rfl⟩
    have rb:BO s o x b=if A.2=0 then (if R.2=0 then (⟨s.er+1,A.1,R.1,some (p5 s.b4.l o x)⟩,0) else (fc,R.2)) else (fc,A.2) :=by unfold BO; rw[c9,fR]
    rw[rb];rw[<-c9] at lA;rw[<-fR] at tZ;have m2:=It A.1;have zA:=vc R.1;have ayG:=lv A.1;have ayH:=lu R.1;have ak2:=Is (some (p5 s.b4.l o x));simp[cH,bm,aCI];refine a8 lA (by simp[a7,ad.closed,lB,iJ,p1]) ?_;by_cases aq:A.2=0
    ·rw[if_pos aq];simp[aq,m2,cH,bm,aCI];refine a8 tZ (by simp[a7,ad.closed,gw,iJ]) ?_;by_cases aH:R.2=0
     ·rw[if_pos aH];simp[aH,m2,zA,cH,bm,a2,aCI];refine a8 Ct (by simp[a7,ad.closed,q7,iJ,eu]) ?_;simp[m2,zA,ak2,bO];exact aJ rfl (pO _ _)
     ·rw[if_neg aH];simp[aH,zA];exact aJ rfl (pO fc _)
    ·rw[if_neg aq];simp[aq,m2];exact aJ rfl (pO fc _)
 ·have jd:sf s g x=(fc,6) :=by unfold sf; rw[if_neg hm]
  rw[jd];have FR:g3 x g.ids.l 0<0:=Decidable.byContradiction fun h=>hm ((vV x g.ids.l 0).1 (by omega))
  obtain⟨X,ce⟩:∃ X,X=a1 x:=⟨_,rfl⟩
  rw[<-ce] at eu bm e9 ⊢;simp[ed,de,dK,bm,aCI];refine a8 e9 (by simp[a7,ad.closed,dY,eu]) ?_;simp[FR];exact aJ rfl (pO fc _)
noncomputable def oW (s:cG) (g:cR) (x:List B) :cG × Int:=if iz s=0 then (if gR g=0 then sf s g x else (fc,gR g)) else (fc,iz s)
theorem asT (s:cG) (ap:kL s) (g:cR) (aA:ib g) (x:List B) (al:x.length=32) :
  bE Tryz.prog GS 21 [.aM (ed s),de g,.aM (a1 x)] (.b5 [.aM (ed (oW s g x).1),.int .i64 (oW s g x).2]) :=by
 refine bS Tryz.checked.mixed bP ?_;apply bw agz arf;unfold Qd Z5;have dY:=eZ g.ids;have cQ:=ml g.ops;have eu:=fK x;have bm:=c3 al;have bT:=oU s;have cU:=Ml s ap;have jw:=asS g aA;obtain⟨S,gU⟩:∃ S,S=ed s:=⟨_,rfl⟩
 have kA:S.length=4:=by rw[gU]; rfl
 by_cases aG:iz s=0
 ·by_cases h1:gR g=0
  ·have jd:oW s g x=sf s g x:=by unfold oW; rw[if_pos aG,if_pos h1]
   obtain⟨⟨br,bI,a3⟩,_,_,a4⟩:=Ht aG;have lA:=ats s ap br bI a3 (aca a4) g aA h1 x al;rw[jd];obtain⟨F,nH⟩:∃ F,F=ed (sf s g x).1:=⟨_,rfl⟩
   have B6:F.length=4:=by rw[nH]; rfl
   have Jl:a7 F=true:=by rw[nH]; exact oU _
   obtain⟨X,ce⟩:∃ X,X=a1 x:=⟨_,rfl⟩
   rw[<-gU] at cU lA bT ⊢;rw[<-ce] at bm eu lA ⊢;rw[<-nH] at lA ⊢;have KE:bO [ad.int .i64 0,.aK,.aK,.aK] 0 F=F:=fM (by rw[B6]; rfl);unfold de dK at jw lA;simp[de,dK,kA,bm,aCI];refine a8 cU (by simp[a7,ad.closed,bT]) ?_;simp[aG];refine a8 jw (by simp[a7,ad.closed,dY,cQ]) ?_;simp[h1,kA,bm,aCI];refine a8 lA (by simp[a7,ad.closed,bT,dY,cQ,eu]) ?_;simp[B6,KE,aCI];exact aJ rfl (by simp[ad.closed,a7,Jl])
  ·have jd:oW s g x=(fc,gR g) :=by unfold oW; rw[if_pos aG,if_neg h1]
   rw[jd];obtain⟨X,ce⟩:∃ X,X=a1 x:=⟨_,rfl⟩
   rw[<-gU] at cU bT ⊢;rw[<-ce] at bm eu ⊢;unfold de dK at jw;simp[de,dK,kA,bm,aCI];refine a8 cU (by simp[a7,ad.closed,bT]) ?_;simp[aG];refine a8 jw (by simp[a7,ad.closed,dY,cQ]) ?_;simp[h1];refine a8 jw (by simp[a7,ad.closed,dY,cQ]) ?_;simp;exact aJ rfl (pO fc _)
 ·have jd:oW s g x=(fc,iz s) :=by unfold oW; rw[if_neg aG]
  rw[jd];obtain⟨X,ce⟩:∃ X,X=a1 x:=⟨_,rfl⟩
  rw[<-gU] at cU bT ⊢;rw[<-ce] at bm eu ⊢;simp[de,dK,kA,bm,aCI];refine a8 cU (by simp[a7,ad.closed,bT]) ?_;simp[aG,kA,aCI];refine a8 cU (by simp[a7,ad.closed,bT]) ?_;simp;exact aJ rfl (pO fc _)
theorem Xs (a:List B) :gl a a=false:=by
 cases h:gl a a with
 | false=>rfl
 | true=>rw[yh,pP] at h; omega
theorem GC (a b c:List B) (h1:gl a b=true) (ag:gl b c=true) :gl a c=true:=(yh _ _).2 (vf a b c ((yh _ _).1 h1) ((yh _ _).1 ag))
theorem LA (a b:List B) (b2:a≠b) (h:gl a b=false) :gl b a=true:=by
 rw[yh,r8];rcases Bz a b with h1 | h1 | h1
 ·rw[(yh a b).2 (by omega)] at h; cases h
 ·exact absurd (r7 h1) b2
 ·omega
theorem auv (l:List (List B)) :(pz l).Pairwise fun a b=>gl b a=false:=by
 unfold pz;have h:=List.pairwise_mergeSort (le:=fun x y:List B=>!gl y x) (fun a b c h1 ag=>by
  simp only[aET] at h1 ag ⊢;cases aq:gl c a with
  | false=>rfl
  | true=>
   by_cases eP:a=b
   ·subst eP; rw[aq] at ag; cases ag
   ·have aH:=LA b a (fun e=>eP e.symm) h1;have bd:=GC _ _ _ aq aH;rw[bd] at ag; cases ag) (fun a b=>by
  cases h1:gl a b with
  | false=>simp
  | true=>
   cases ag:gl b a with
   | false=>simp
   | true=>have:=GC _ _ _ h1 ag; rw[Xs] at this; cases this) l
 exact h.imp fun {a b} eP=>by simpa using eP
theorem auM {l:List (List B)} (aI:l.Nodup) :pz l=A0 l:=by
 have aF:(pz l).Perm l:=List.mergeSort_perm l _;have xY:(pz l).Nodup:=aF.nodup_iff.2 aI;have ap:(pz l).Pairwise fun a b=>gl a b=true:=by
  refine List.Pairwise.imp (R:=fun a b=>gl b a=false/\a≠b) (fun {a b} h=>LA b a (fun e=>h.2 e.symm) h.1) ?_;exact List.pairwise_and_iff.2 ⟨auv l,xY⟩
 exact acz Xs GC ap (acx GC LA aI (aCL _)) fun y=>by rw[auw,AZ (aCL _),aDi]
theorem aen (s:e7) (o:bJ) {b c:eN} (h:∀ p,p∈b.l<->p∈c.l) (ai:b.l.length<=60) (ak:c.l.length<=60) :gq s o b=gq s o c:=by
 have ap:lR o b=lR o c:=by
  funext t; unfold lR; rw[decide_eq_decide.2 (h t.id)]
 unfold gq;rw[if_neg (show ¬ 60<b.l.length by omega),if_neg (show ¬ 60<c.l.length by omega),ap]
theorem aem (s:e7) (o:bJ) (b:eN) :(gq (some s.l) o b).1.l=(jo s o b).1.l/\(gq (some s.l) o b).2=(jo s o b).2:=aer (some s.l) o b
theorem atp (s:gI) (o:bJ) :(iw (some s.l) o).1.l=(i4 s o).1.l/\(iw (some s.l) o).2=(i4 s o).2:=atr (some s.l) o
theorem atq (s:gI) (o:bJ) (ap:hS s.l) (ar:s.l.length<=100) (ax:ic o) :hS (iw s o).1.l/\(iw s o).1.l.length<=1000000:=by
 have aG:hS (dX.l (none:gI))/\(dX.l (none:gI)).length<=1000000:=⟨fun t aQ=>(by cases aQ),by simp⟩
 unfold iw;split
 ·split
  ·split
   ·exact aG
   ·rw[Hk];unfold hT;split
    ·have:=aud (x:=fG o (db o)) ap ⟨Ar o,ax.val⟩;exact⟨this.1,by omega⟩
    ·exact⟨ap,by omega⟩
  ·exact aG
 ·exact aG
theorem nm:kL fc:=⟨fun t aQ=>(by cases aQ),fun t aQ=>(by cases aQ),fun t aQ=>(by cases aQ),by simp[fc],by simp[fc],by simp[fc]⟩
theorem ajt (s:cG) (ap:kL s) (aC:s.cY.l.length<=100) (g:cR) (aA:ib g) (x:List B) (al:x.length=32) :
  (kL (oi (h9 s) (iT g) x).1/\kL (oW s g x).1)/\py (oi (h9 s) (iT g) x).1 (oW s g x).1=true/\(oi (h9 s) (iT g) x).2=(oW s g x).2:=by
 have xk:py fc fc=true:=by simp[py]
 unfold oi oW;rw[show iz (h9 s)=iz s from rfl,RQ];by_cases aG:iz s=0
 ·rw[if_pos aG,if_pos aG];obtain⟨⟨v0,ft,aR⟩,_,_,tY⟩:=Ht aG;by_cases h1:gR g=0
  ·rw[if_pos h1,if_pos h1];have V:=AL h1;have ad1:=AL (g:=iT g) (by rw[RQ]; exact h1);unfold se sf;rw[show (iT g).ids.l=g.ids.l from rfl];by_cases hm:x∈g.ids.l
   ·rw[if_pos hm,if_pos hm];obtain⟨i,aB⟩:=aCY.1 hm;obtain⟨o,ax,e2⟩:=bV (l:=g.ops.l) (k:=i) (by rw[<-V.len]; exact (aCJ.1 aB).1);have ev:(iT g).ops.l[i]? = some (hU o) :=by rw[yJ,aCO,ax]; rfl
    have qf:=aA.ops o e2;rw[zs V aB ax,zs ad1 aB ev,w4 V.eH aB,aef];rw[show (h9 s).b4.l=s.b4.l from rfl,show (h9 s).er=s.er from rfl];by_cases ag:x∈s.b4.l
    ·rw[if_pos ag,if_pos ag]; exact⟨⟨nm,nm⟩,xk,rfl⟩
    ·rw[if_neg ag,if_neg ag];by_cases aq:s.er=60
     ·rw[if_pos aq,if_pos aq]; exact⟨⟨nm,nm⟩,xk,rfl⟩
     ·rw[if_neg aq,if_neg aq];obtain⟨xo,_⟩:=NN g aA V aB;have i9:g.ids.l.length<=60:=by rw[V.len]; exact V.n60
      have zG:gq (some s.set.l) o (hn (mX g i))=gq (some s.set.l) o (hn (oQ g i)) :=aen _ _ (fun p=>by
       rw[jH,jH];constructor
       ·intro h;obtain⟨j,am⟩:=aCY.1 (N1 h);exact (xo.mem j p am).2 ((N2 (sJ V.eH) am).1 h)
       ·intro h;obtain⟨j,am⟩:=aCY.1 (xo.sub p h);exact (N2 (sJ V.eH) am).2 ((xo.mem j p am).1 h)) (by rw[jH]; have:=N0 g i; omega) (by rw[jH]; have:=xo.len; omega)
      obtain⟨b,ai⟩:∃ b,b=hn (oQ g i) :=⟨_,rfl⟩
      obtain⟨c,ak⟩:∃ c,c=hn (mX g i) :=⟨_,rfl⟩
      rw[<-ai,<-ak] at zG;simp only[<-ai,<-ak];have JQ:(s.b4.l.filter (io o)++[x]).Nodup:=by
       refine aEx.2 ⟨(aca tY).sublist aFz,by simp,fun p aF q bD=>?_⟩;rw[aDm.1 bD];exact fun e=>ag (by rw[<-e]; exact (aEd.1 aF).1)
      have Ct:Co (h9 s) (hU o) x=p5 s.b4.l o x:=auM JQ;have E7:gq (h9 s).set (hU o) c=gq (some s.set.l) o b:=zG;have E8:=aem s.set o b;have aky:iw (h9 s).cY (hU o)=iw (some s.cY.l) o:=rfl;have Fh:=atp s.cY o;unfold BN BO;rw[E7,aky,Ct,E8.2,Fh.2];by_cases aH:(jo s.set o b).2=0
      ·rw[if_pos aH,if_pos aH];by_cases bd:(i4 s.cY o).2=0
       ·rw[if_pos bd,if_pos bd];have cn:=aeo (some s.set.l) o b ap.set ap.ls;have cc:=atq (some s.cY.l) o ap.cY aC qf;have dP:gx (some (p5 s.b4.l o x)) :=fun z az=>by
         have j1:z∈A0 (s.b4.l.filter (io o)++[x]) :=az;rw[AZ (aCL _),aDi] at j1;rcases aDr.1 j1 with e | e
         ·exact ap.b4 z (aEd.1 e).1
         ·rw[aDm.1 e]; exact al
        have ew:(dX.l (some (p5 s.b4.l o x))).length<=1000000:=by
         show (A0 _).length<=_;rw[ML (aCL _),aCS];have:=aEa (io o) s.b4.l;simp; omega
        refine⟨⟨⟨cn.1,cc.1,dP,cn.2,cc.2,ew⟩,⟨by show gY (jo s.set o b).1.l; rw[<-E8.1]; exact cn.1,by show hS (i4 s.cY o).1.l; rw[<-Fh.1]; exact cc.1,dP,by show (jo s.set o b).1.l.length<=_; rw[<-E8.1]; exact cn.2,by show (i4 s.cY o).1.l.length<=_; rw[<-Fh.1]; exact cc.2,ew⟩⟩,?_,rfl⟩;unfold py;simp only[E8.1,Fh.1,decide_true,aEn];show (decide (s.er+1=s.er+1)&&true)=true;simp
       ·rw[if_neg bd,if_neg bd]; exact⟨⟨nm,nm⟩,xk,rfl⟩
      ·rw[if_neg aH,if_neg aH]; exact⟨⟨nm,nm⟩,xk,rfl⟩
   ·rw[if_neg hm,if_neg hm]; exact⟨⟨nm,nm⟩,xk,rfl⟩
  ·rw[if_neg h1,if_neg h1]; exact⟨⟨nm,nm⟩,xk,rfl⟩
 ·rw[if_neg aG,if_neg aG]; exact⟨⟨nm,nm⟩,xk,rfl⟩
theorem atA (s:cG) (k:List UInt8) :AV (h9 s) k=wq s k:=by
 unfold AV wq;rw[show iz (h9 s)=iz s from rfl];by_cases aG:iz s=0
 ·obtain⟨_,aQ,_,_⟩:=Ht aG;rw[if_pos aG,if_pos aG,show (h9 s).set.l=s.set.l from rfl,show (h9 s).cY.l=s.cY.l from rfl,akK,ajY];unfold JG;rw[decide_eq_true aQ,aDL]
 ·rw[if_neg aG,if_neg aG]
structure H3 (r:cq) :Prop where
 id:r.id.length=32
 lM:-9223372036854775808<=r.val.num
 nl:r.val.num<9223372036854775808
theorem avs {ts:List TypeId} {cs:List ad} (h:ec Tryz.prog (50::ts) cs) :∃ (r:cq) (cs' : List ad),cs=bU r++cs'/\H3 r/\ec Tryz.prog ts cs':=by
 have h1:=tc (fs:=[9,42,40,48]) (by kernel_rfl) h;obtain⟨s,_,rfl,ag⟩:=D7 (by kernel_rfl) h1;obtain⟨v,_,rfl,ay,aq⟩:=ac0 ag;obtain⟨n,_,rfl,aH⟩:=Nb aq;obtain⟨x,cs',rfl,al,bd⟩:=M8 aH;exact⟨⟨s,v,n,x⟩,cs',by simp[bU,a1],⟨al,ay.1,ay.2⟩,bd⟩
structure Ei (s:cG) :Prop where
 set:gY s.set.l
 cY:∀ r∈s.cY.l,H3 r
 b4:gx s.b4
theorem acX {ts:List TypeId} {cs:List ad} (h:kO Tryz.prog (36::ts) cs) :∃ (s:cG) (cs' : List ad),cs=.aM (ed s) ::cs'/\Ei s/\kO Tryz.prog ts cs':=by
 obtain⟨c,cs',rfl,h1,ag⟩:=HA h;obtain⟨cs,rfl,aq⟩:=M6 (by kernel_rfl) h1;have aH:=tc (fs:=[3,31,34,22]) (by kernel_rfl) aq;obtain⟨n,_,rfl,_,_,bd⟩:=A7 (k:=.i64) (by kernel_rfl) aH;have bM:=tc (fs:=[29]) (by kernel_rfl) bd;obtain⟨t,_,rfl,_,aQ,dq⟩:=HB (e:=53) (z:=33) (enc:=b3) (Q:=fun t=>t.id.length=32) (by kernel_rfl) (by kernel_rfl) (fun r aC=>by
  obtain⟨x,_,rfl,al,aq⟩:=avu aC;rw[yK aq,aDl];exact⟨x,rfl,al⟩) bM
 have fl:=tc (fs:=[32]) (by kernel_rfl) dq;obtain⟨r,_,rfl,_,aC,fC⟩:=HB (e:=50) (z:=38) (enc:=bU) (Q:=H3) (by kernel_rfl) (by kernel_rfl) (fun r aC=>by
  obtain⟨x,_,rfl,al,aq⟩:=avs aC;rw[yK aq,aDl];exact⟨x,rfl,al⟩) fl
 obtain⟨i,_,rfl,aB,mr⟩:=M9 fC;rw[yK mr];exact⟨⟨n,t,r,i⟩,cs',rfl,⟨aQ,aC,aB⟩,ag⟩
theorem XU {s:cG} (h:Ei s) (aA:zw s=false) :kL s/\s.cY.l.length<=100:=by
 unfold zw at aA;simp only[aEH,decide_eq_false_iff_not] at aA;obtain⟨h1,ag,aq⟩:=aA;have cn:=aj5 h1;have cc:=aj4 ag;exact⟨⟨h.set,fun r aC=>⟨(h.cY r aC).id,(h.cY r aC).lM,(h.cY r aC).nl,by have:=(cc.2 r aC).2; omega⟩,h.b4,by omega,by omega,by omega⟩,cc.1⟩
theorem aco (s:cG) :py s (h9 s)=true/\py (h9 s) s=true:=by unfold py h9; simp
theorem at5 (g:cR) :yB (iT g) g=true:=by
 unfold yB;rw[yJ];simp only[show (iT g).ids.l=g.ids.l from rfl,decide_true,aCZ,aDL,decide_eq_true_eq];intro k hk;obtain⟨o,ax,_⟩:=bV hk;rw[Dv ax,Dv (o:=hU o) (by rw[aCO,ax]; rfl)];unfold yC;simp[hU,j9,fJ,ad.beq]
theorem avH (v:g7) :gu Tryz.prog .eql 42 (.aM (c7 v)) (.aM (c7 v))=some (.bool true) :=by
 rw[yY Ls (by kernel_rfl) (by kernel_rfl) rfl rfl];simp[c7,fJ,ad.beq]
set_option maxHeartbeats 16000000 in
theorem ajL (s t:cG) (ts:Ei s) (M5:Ei t) (g:cR) (au7:H1 g) (x:List B) (al:x.length=32) (k:List UInt8) :
  dS Tryz.prog GS 4 [.aM (ed s),.aM (ed t),de g,.aM (a1 x),.str k] [] (c:=⟨fun r _=>r=.bool true⟩) :=by
 apply bw ahp ar7;unfold ie qC;have dY:=eZ g.ids;have cQ:=ml g.ops;have eu:=fK x;have bm:=c3 al;have gs:=abO s ts.set fun r aC=>(ts.cY r aC).id
 have gt:=abO t M5.set fun r aC=>(M5.cY r aC).id
 have xi:=asU g;have bT:=oU s;have lB:=oU t;obtain⟨S,gU⟩:∃ S,S=ed s:=⟨_,rfl⟩
 obtain⟨T,dH⟩:∃ T,T=ed t:=⟨_,rfl⟩
 have kA:S.length=4:=by rw[gU]; rfl
 have kV:T.length=4:=by rw[dH]; rfl
 rw[<-gU] at gs bT ⊢;rw[<-dH] at gt lB ⊢;unfold de dK at xi;simp[de,dK,kA,kV,bm,aCI];refine a8 gs (by simp[a7,ad.closed,bT]) ?_;cases h1:zw s with
 | true=>simp
 | false=>
  simp[kV,aCI];refine a8 gt (by simp[a7,ad.closed,lB]) ?_;cases ag:zw t with
  | true=>simp
  | false=>
   simp;refine a8 xi (by simp[a7,ad.closed,dY,cQ]) ?_;cases aq:vp g with
   | true=>simp
   | false=>
    by_cases aH:100<k.length
    ·have lX:(100:Int)<(k.length:Int) :=by omega
     simp[aH,lX]
    ·have lX:¬ (100:Int)<(k.length:Int) :=by omega
     obtain⟨os,amQ⟩:=XU ts h1;obtain⟨gA,_⟩:=XU M5 ag;have Dp:=ao6 au7 aq;have l6:=ath s os;have Ve:=atj g Dp;obtain⟨⟨ao2,rD⟩,eP,zM⟩:=ajt s os amQ g Dp x al;have Do:=avh os;have XO:=avf Dp;have c9:=avX (h9 s) Do (iT g) XO x al;have oj:=asT s os g Dp x al;have fR:=av8 (h9 s) Do k;have xv:=as8 s os k;rw[atA] at fR;have cU:=Nt (h9 s) Do;have gw:=Ml s os;rw[show iz (h9 s)=iz s from rfl] at cU;have fu:=Hd fc fc nm nm;have Ff:py fc fc=true:=by simp[py]
     rw[Ff] at fu;have JD:=Hd _ _ ao2 rD;rw[eP] at JD;have Vb:=ade s t os gA;have Vc:=Hd s t os gA;have x6:=ade s (h9 s) os Do;have rn:=Hd (h9 s) s Do os;rw[(aco s).1] at x6;rw[(aco s).2] at rn;have Cr:=ata (iT g) g XO Dp;rw[at5] at Cr;have pj:=avH (wq s k).2.1;rw[<-zM] at oj;obtain⟨e,au⟩:∃ e,e=(oi (h9 s) (iT g) x).2:=⟨_,rfl⟩
     obtain⟨A,xp⟩:∃ A,A=ed (oi (h9 s) (iT g) x).1:=⟨_,rfl⟩
     obtain⟨C,E9⟩:∃ C,C=ed (oW s g x).1:=⟨_,rfl⟩
     obtain⟨W,xC⟩:∃ W,W=ed (h9 s) :=⟨_,rfl⟩
     obtain⟨V,Cc⟩:∃ V,V=c7 (wq s k).2.1:=⟨_,rfl⟩
     obtain⟨X,ce⟩:∃ X,X=a1 x:=⟨_,rfl⟩
     have ka:A.length=4:=by rw[xp]; rfl
     have xq:C.length=4:=by rw[E9]; rfl
     have vv:W.length=4:=by rw[xC]; rfl
     have kW:V.length=4:=by rw[Cc]; rfl
     have m2:a7 A=true:=by rw[xp]; exact oU _
     have akm:a7 C=true:=by rw[E9]; exact oU _
     have Cd:a7 W=true:=by rw[xC]; exact oU _
     have TC:a7 V=true:=by rw[Cc]; simp[c7,a7,ad.closed]
     rw[<-au,<-xp,<-xC,<-ce] at c9;rw[<-au,<-E9,<-gU,<-ce] at oj;rw[<-xC,<-Cc] at fR;rw[<-gU,<-Cc] at xv;rw[<-Cc] at pj;rw[<-xC] at cU;rw[<-gU] at gw;rw[<-xp,<-E9] at JD;rw[<-gU,<-dH] at Vb Vc;rw[<-gU,<-xC] at x6 rn;rw[<-gU,<-xC] at l6;rw[<-ce] at bm eu ⊢;have TW:=eZ (iT g).ids;have TY:=ml (iT g).ops;unfold de dK at c9 oj Cr Ve;have hx:∀ Z:List ad,Z.length=4->bO [ad.int .i64 0,.aK,.aK,.aK] 0 Z=Z:=fun Z az=>fM (by rw[az]; rfl)
     have F9:bO [ad.int .u8 0,.int .i64 0,.int .u64 0,.str []] 0 V=V:=fM (by rw[kW]; rfl);simp[aH,lX,kA,aCI];refine a8 l6 (by simp[a7,ad.closed,bT]) ?_;simp;refine a8 Ve (by simp[a7,ad.closed,dY,cQ]) ?_;simp[vv,hx,bO,bm,aCI];refine a8 c9 (by simp[a7,ad.closed,Cd,TW,TY,eu]) ?_;simp[ka,vv,hx,kA,bm,aCI];refine a8 oj (by simp[a7,ad.closed,bT,dY,cQ,eu]) ?_;simp[xq,vv,hx,aCI];refine a8 fR (by simp[a7,ad.closed,Cd]) ?_;simp[kW,F9,kA,aCI];refine a8 xv (by simp[a7,ad.closed,bT]) ?_;simp[kW,F9,aCI];have Fu:∀ a:Bool,gu Tryz.prog .eql 4 (.bool a) (.bool a)=some (.bool true) :=fun a=>by cases a<;>kernel_rfl
     have az:ed fc=[.int .i64 0,.aK,.aK,.aK] :=rfl;have pf:=atg;rw[show (⟨0,none,none,none⟩:cG)=fc from rfl,az] at pf;rw[az] at fu;refine a8 pf rfl ?_;simp;refine a8 fu rfl ?_;simp[vv,kA,aCI];refine a8 cU (by simp[a7,ad.closed,Cd]) ?_;simp[kA,vv,aCI];refine a8 gw (by simp[a7,ad.closed,bT]) ?_;simp[ka,xq,aCI];refine a8 JD (by simp[a7,ad.closed,m2,akm]) ?_;simp[Fu,kW,pj,kA,kV,aCI];refine a8 Vb (by simp[a7,ad.closed,bT,lB]) ?_;simp[kA,kV,aCI];refine a8 Vc (by simp[a7,ad.closed,bT,lB]) ?_;simp[Fu,kA,vv,aCI];refine a8 x6 (by simp[a7,ad.closed,bT,Cd]) ?_;simp[kA,vv,aCI];refine a8 rn (by simp[a7,ad.closed,bT,Cd]) ?_;simp;refine a8 Cr (by simp[a7,ad.closed,dY,cQ,TW,TY]) ?_;simp
end Op

end Go.ct

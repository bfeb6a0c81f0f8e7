/-
  Sets of tags that are maps of one's own.
-/
import Derived.Test.YtginfboibgolaaaGreatDoorRk
set_option linter.unusedVariables false
set_option linter.unusedSimpArgs false
set_option linter.unnecessarySimpa false
namespace Go.bJ
open Go Go.Proofs
set_option maxRecDepth 100000
namespace Op
open eX
theorem Xd (t:bQ) :U.beq (.aI (eF t)) (.aI (eF t))=true:=by
 show eo (.str t.key::aY t.id) (.str t.key::aY t.id)=true;have h:=HJ t.id;unfold aY;simp[eo,U.beq,h]
theorem Is {t:bQ} (h:t.id.length=32) :kn Tryz.prog 152 (.aI (eF t))=true:=by
 have h1:qv Tryz.prog 8 152=true:=by kernel_rfl
 have ad:dE Tryz.prog 152=some true:=by kernel_rfl
 have aj:cf Tryz.prog 152=some 33:=by kernel_rfl
 have aC:(eF t).all rQ=true:=by
  rw[ari];intro c ah;rcases arI.1 ah with h | h
  ·rw[h]; rfl
  ·obtain⟨b,_,rfl⟩:=aqR.1 h; rfl
 show (qv Tryz.prog 8 152&&(match dE Tryz.prog 152,cf Tryz.prog 152 with | some true,some m=>Nat.beq (eF t).length m | _,_=>false)&&(eF t).all rQ)=true;rw[h1,ad,aj,aC,yF h];rfl
theorem Y4 {a b:bQ} (az:a.id.length=32) (af:b.id.length=32) :ea Tryz.prog 10000 152 (.aI (eF a)) (.aI (eF b))=some (decide (a=b)) :=by
 rw[<-Xb az af];obtain⟨x,y,o0,m7,sC⟩:=(Ec (P:=Tryz.prog) 20 10000 (by omega) 152 FH aed).2 _ _ (TD az) (TD af);have ad:dE Tryz.prog 152=some true:=by kernel_rfl
 simp only[j1,ad,Option.some.injEq] at o0 m7;subst o0; subst m7;exact sC
inductive pH:List (U × U × Nat)->List bQ->Prop
 | nil:pH [] []
 | cons {es:List (U × U × Nat)} {bE:List bQ} {k:bQ} (n:Nat) (hk:k.id.length=32) (h:pH es bE) :pH ((.aI (eF k),.bool true,n) ::es) (k::bE)
theorem pH.snoc {es:List (U × U × Nat)} {bE:List bQ} (h:pH es bE) {k:bQ} (hk:k.id.length=32) (n:Nat) :pH (es++[(.aI (eF k),.bool true,n)]) (bE++[k]) :=by
 induction h with
 | nil=>exact .cons n hk .nil
 | cons m et h aJ=>exact .cons m et aJ
theorem pH.modify {es:List (U × U × Nat)} {bE:List bQ} (h:pH es bE) :∀ {i:Nat} {k:bQ},bE[i]? = some k->pH (es.modify i fun e=>(.aI (eF k),.bool true,e.2.2)) bE:=by
 induction h with
 | nil=>intro i k h; simp at h
 | cons n hk h aJ=>
  intro i k ax;cases i with
  | zero=>simp at ax; subst ax; exact .cons n hk h
  | succ i=>exact .cons n hk (aJ (by simpa using ax))
theorem Eh {x:bQ} (ag:x.id.length=32) {es:List (U × U × Nat)} {bE:List bQ} (h:pH es bE) :∀ c,(x∈bE->∃ i,bE[i]? = some x/\iW Tryz.prog 152 (.aI (eF x)) es c=some (some (c+i,.bool true)))/\(x∉bE->iW Tryz.prog 152 (.aI (eF x)) es c=some none) :=by
 induction h with
 | nil=>intro c; exact⟨fun h=>by simp at h,fun _=>rfl⟩
 | @cons es bE k n hk h aJ=>
  intro c;unfold iW;rw[Is hk];simp only;rw[Y4 ag hk];by_cases ap:x=k
  ·subst ap;simp only[decide_true,Xd];exact⟨fun _=>⟨0,by simp⟩,fun h=>absurd (by simp) h⟩
  ·simp only[ap,decide_false];obtain⟨h1,ad⟩:=aJ (c+1);refine⟨fun hm=>?_,fun h=>ad (fun h'=>h (by simp[h']))⟩;obtain⟨i,ax,aA⟩:=h1 (by simpa [ap] using hm);exact⟨i+1,by simpa using ax,by rw[aA,show c+1+i=c+(i+1) by omega]⟩
structure mf (l:am) (j:Nat) (M:bQ->Prop) :Prop where
 e:∃ es dZ bE,l[j]? = some (.map es dZ)/\pH es bE/\∀ x,x∈bE<->M x
open Classical in
theorem mf.look {l:am} {j:Nat} {M:bQ->Prop} (h:mf l j M) {x:bQ} (ag:x.id.length=32) :vi Tryz.prog l 152 (.bool false) false (.mp j) (.aI (eF x))=some (.bool (decide (M x))) :=by
 obtain⟨es,dZ,bE,h1,ad,aC⟩:=h.e;have aj:rG l (.mp j)=some es:=by simp[rG,h1]
 unfold vi;rw[aj];simp only[Is ag];by_cases hm:x∈bE
 ·obtain⟨i,_,aA⟩:=(Eh ag ad 0).1 hm;rw[aA];simp[(aC x).1 hm]
 ·rw[(Eh ag ad 0).2 hm];have:¬ M x:=fun aM=>hm ((aC x).2 aM)
  simp[this]
theorem mf.put {l:am} {j:Nat} {M:bQ->Prop} (h:mf l j M) {x:bQ} (ag:x.id.length=32) :∃ c,rH Tryz.prog l 152 (.mp j) (.aI (eF x)) (.bool true)=some (l.set j c)/\(∀ l' : am,l'[j]? = some c->mf l' j (fun y=>M y\/y=x)) :=by
 obtain⟨es,dZ,bE,h1,ad,aC⟩:=h.e;unfold rH;simp only[h1,Is ag];by_cases hm:x∈bE
 ·obtain⟨i,ax,aA⟩:=(Eh ag ad 0).1 hm;rw[aA];rw[arD];refine⟨_,rfl,fun l' cN=>⟨_,_,bE,cN,ad.modify ax,fun y=>?_⟩⟩;rw[aC y];exact⟨.inl,fun aM=>aM.elim id fun e=>by rw[e]; exact (aC x).1 hm⟩
 ·rw[(Eh ag ad 0).2 hm];refine⟨_,rfl,fun l' cN=>⟨_,_,_,cN,ad.snoc ag dZ,fun y=>?_⟩⟩;rw[arz,aq6,aC y]
theorem mf.frame {l l' : am} {j:Nat} {M:bQ->Prop} (h:mf l j M) (ai:l'[j]? = l[j]?) :mf l' j M:=by
 obtain⟨es,dZ,bE,h1,ad,aC⟩:=h.e;exact⟨es,dZ,bE,by rw[ai,h1],ad,aC⟩
theorem mf.lt {l:am} {j:Nat} {M:bQ->Prop} (h:mf l j M) :j<l.length:=by
 obtain⟨es,dZ,bE,h1,ad⟩:=h.e;exact (aqr.1 h1).1
theorem afH (l:am) :mf (l++[.map [] 0]) l.length (fun _=>False) :=⟨[],0,[],by simp,.nil,fun x=>by simp⟩
theorem mf.iff {l:am} {j:Nat} {M N:bQ->Prop} (h:mf l j M) (aM:∀ x,M x<->N x) :mf l j N:=by
 obtain⟨es,dZ,bE,h1,ad,aC⟩:=h.e;exact⟨es,dZ,bE,h1,ad,fun x=>(aC x).trans (aM x)⟩
def oM (g:bM) (m:Nat) (t:bQ) :Prop:=∃ k o,k<m/\g.ops.l[k]? = some o/\o.act.kind=3#8/\o.act.key=t.key/\t.id∈kV g k
def Ao (g:bM) (m:Nat) (key:List UInt8) (L:List (List B)) (t:bQ) :Prop:=oM g m t\/(key=t.key/\t.id∈L)
theorem ZQ {g:bM} {m:Nat} {o:bA} (aq:g.ops.l[m]? = some o) (hk:¬ o.act.kind=3#8) (t:bQ) :oM g m t<->oM g (m+1) t:=by
 constructor
 ·rintro⟨k,cW,h1,ad⟩; exact⟨k,cW,by omega,ad⟩
 ·rintro⟨k,cW,h1,ad,aj,aC⟩;by_cases mG:k=m
  ·subst mG; rw[aq] at ad; obtain rfl:=Option.some.inj ad; exact absurd aj hk
  ·exact⟨k,cW,by omega,ad,aj,aC⟩
theorem ZR {g:bM} {m:Nat} {o:bA} (aq:g.ops.l[m]? = some o) (hk:o.act.kind=3#8) (t:bQ) :Ao g m o.act.key (kV g m) t<->oM g (m+1) t:=by
 constructor
 ·rintro (⟨k,cW,h1,ad⟩ | ⟨h1,ad⟩)
  ·exact⟨k,cW,by omega,ad⟩
  ·exact⟨m,o,by omega,aq,hk,h1,ad⟩
 ·rintro⟨k,cW,h1,ad,aj,aC,aZ⟩;by_cases mG:k=m
  ·subst mG; rw[aq] at ad; obtain rfl:=Option.some.inj ad; exact .inr ⟨aC,aZ⟩
  ·exact .inl ⟨k,cW,by omega,ad,aj,aC,aZ⟩
theorem ZS {g:bM} {m:Nat} {key:List UInt8} {L:List (List B)} {k:Nat} {x:List B} (ag:L[k]? = some x) (t:bQ) :(Ao g m key (L.take k) t\/t=⟨key,x⟩)<->Ao g m key (L.take (k+1)) t:=by
 unfold Ao;rw[aqN,ag,arz];simp only[Option.toList_some,aq6];constructor
 ·rintro ((h | ⟨h1,ad⟩) | h)
  ·exact .inl h
  ·exact .inr ⟨h1,.inl ad⟩
  ·subst h; exact .inr ⟨rfl,.inr rfl⟩
 ·rintro (h | ⟨h1,ad | ad⟩)
  ·exact .inl (.inl h)
  ·exact .inl (.inr ⟨h1,ad⟩)
  ·right; cases t; simp_all
open Classical in
noncomputable def hF (g:bM) (m:Nat) :List bQ:=(List.range m).flatMap fun k=>match g.ops.l[k]?,g.ids.l[k]? with
 | some o,some x=>if o.act.kind=2#8/\¬ oM g g.ops.l.length ⟨o.act.key,x⟩ then [⟨o.act.key,x⟩] else []
 | _,_=>[]
open Classical in
theorem Hw {g:bM} {m:Nat} {o:bA} {x:List B} (aq:g.ops.l[m]? = some o) (ag:g.ids.l[m]? = some x) :hF g (m+1)=hF g m++(if o.act.kind=2#8/\¬ oM g g.ops.l.length ⟨o.act.key,x⟩ then [⟨o.act.key,x⟩] else []) :=by
 unfold hF;rw[arQ,arX];simp[aq,ag]
theorem Hv {g:bM} {t:bQ}:∀ {m:Nat},t∈hF g m<->∃ k o x,k<m/\g.ops.l[k]? = some o/\g.ids.l[k]? = some x/\o.act.kind=2#8/\¬ oM g g.ops.l.length ⟨o.act.key,x⟩/\t=⟨o.act.key,x⟩:=by
 intro m;unfold hF;rw[atn];constructor
 ·rintro⟨k,hk,aP⟩;rw[aqZ] at hk;cases aq:g.ops.l[k]? with
  | none=>simp[aq] at aP
  | some o=>
   cases ag:g.ids.l[k]? with
   | none=>simp[aq,ag] at aP
   | some x=>
    simp only[aq,ag] at aP;split at aP
    ·rename_i aM;rw[aq6] at aP;exact⟨k,o,x,hk,aq,ag,aM.1,aM.2,aP⟩
    ·simp at aP
 ·rintro⟨k,o,x,hk,aq,ag,h1,ad,aj⟩;refine⟨k,aqZ.2 hk,?_⟩;simp only[aq,ag];rw[if_pos ⟨h1,ad⟩,aq6];exact aj
theorem DA (g:bM) :∀ m,(hF g m).length<=m
 | 0=>by simp[hF]
 | m+1=>by
  have aJ:=DA g m;cases aq:g.ops.l[m]? with
  | none=>unfold hF at *; rw[arQ,arX]; simp[aq] at *; omega
  | some o=>
   cases ag:g.ids.l[m]? with
   | none=>unfold hF at *; rw[arQ,arX]; simp[aq,ag] at *; omega
   | some x=>
    rw[Hw aq ag,aqA];split<;>simp<;>omega
theorem Nb {g:bM} (au:hS g) (m:Nat) :rL (hF g m) :=fun t aP=>by
 obtain⟨k,o,x,_,_,ag,_,_,aj⟩:=Hv.1 aP;rw[aj]; exact au.ids x (aqI ag)
structure kR (g:bM) (M:bQ->Prop) (l:am) :Prop where
 gp:l[0]? = some (.cells 2 [aT g.ids,b1 g.ops])
 ly:l[1]? = some (.cells 1 [.aX])
 m:mf l 2 M
theorem kR.lt {g:bM} {M:bQ->Prop} {l:am} (h:kR g M l) :3<=l.length:=h.m.lt
theorem kR.frame {g:bM} {M:bQ->Prop} {l l' : am} (h:kR g M l) (aA:∀ b,b<3->l'[b]? = l[b]?) :kR g M l':=
 ⟨(aA 0 (by omega)).trans h.gp,(aA 1 (by omega)).trans h.ly,h.m.frame (aA 2 (by omega))⟩
theorem kR.more {g:bM} {M:bQ->Prop} {l:am} (h:kR g M l) (x:am) :kR g M (l++x) :=h.frame fun b af=>aqt (by have:=h.lt; omega)
theorem kR.iff {g:bM} {M N:bQ->Prop} {l:am} (h:kR g M l) (aM:∀ x,M x<->N x) :kR g N l:=⟨h.gp,h.ly,h.m.iff aM⟩
structure Wu (g:bM) (k:Nat) (ae:a2) (l:am) :Prop where
 aF:ae 1=.ptr 0 0 2
 aQ:ae 2=.ptr 1 0 1
 aW:ae 3=.int .i64 0
 bh:ae 5=.mp 2
 lN:ae 24=b1 g.ops
 jB:ae 25=.int .i64 g.ops.l.length
 k2:ae 26=.int .i64 k
 h:kR g (oM g k) l
structure Ww (g:bM) (i:Nat) (o:bA) (b:Nat) (k:Nat) (ae:a2) (l:am) :Prop where
 aF:ae 1=.ptr 0 0 2
 aQ:ae 2=.ptr 1 0 1
 aW:ae 3=.int .i64 0
 bh:ae 5=.mp 2
 eR:ae 7=.ptr b 0 11
 lN:ae 24=b1 g.ops
 jB:ae 25=.int .i64 g.ops.l.length
 k2:ae 26=.int .i64 i
 sH:ae 45=aT (i8 (kV g i))
 sI:ae 46=.int .i64 (kV g i).length
 sJ:ae 47=.int .i64 k
 h:kR g (Ao g i o.act.key ((kV g i).take k)) l
 gZ:3<=b
 af:l[b]? = some (.cells 11 (bj o))
structure Wv (g:bM) (b:Nat) (k:Nat) (ae:a2) (l:am) :Prop where
 aF:ae 1=.ptr 0 0 2
 aQ:ae 2=.ptr 1 0 1
 aW:ae 3=.int .i64 0
 bh:ae 5=.mp 2
 hI:ae 12=.ptr b 0 1
 IA:ae 60=b1 g.ops
 IB:ae 61=.int .i64 g.ops.l.length
 IC:ae 62=.int .i64 k
 h:kR g (oM g g.ops.l.length) l
 gZ:3<=b
 fB:∃ v j,l[b]? = some (.cells 1 [v])/\bG 33 l v j ((hF g k).map eF)/\cq v=(hF g k).isEmpty/\(v=.aX\/b<j)
noncomputable def lw (g:bM) :kz:=if fv g=0 then GK (kP (hF g g.ops.l.length)) else none
set_option maxHeartbeats 8000000 in
theorem ajs (g:bM) (au:hS g) :bi Tryz.prog GS 83 [c3 g] (.bu [.aI [ha (lw g)],.int .i64 (fv g)]) :=by
 refine bt Tryz.checked.mixed bp ?_;apply bb Tryz.func83 [];have ay:cx=140737488355328:=rfl;have er:=gC g.ids;have c7:=mr g.ops;have cz:=GZ g au;unfold c3 dB at cz;have dL:cL (.ar 11) (b1 g.ops)=some (.int .i64 g.ops.l.length) :=by simp[b1]
 simp[c3,dB];refine aU cz (by simp[aV,U.closed,er,c7]) ?_;by_cases aE:fv g=0
 ·have V:=tt aE;have aci:=V.n60;have kg:=V.len;have aap:kR g (fun _=>False) [bg.cells 2 [aT g.ids,b1 g.ops],.cells 1 [.aX],.map [] 0] :=⟨rfl,rfl,afH [bg.cells 2 [aT g.ids,b1 g.ops],.cells 1 [.aX]]⟩
  simp[aE,dL];refine cE g.ops.l.length (Wu g) ?_ ⟨by simp,by simp,by simp,by simp,by simp,by simp,by simp,aap.iff fun x=>⟨fun h=>h.elim,fun ⟨k,_,hk,_⟩=>by omega⟩⟩;rintro k ae l hk ⟨aF,aQ,aW,bh,lN,jB,k2,hH⟩;obtain⟨ae,rfl⟩:=VE aF aQ aW bh lN jB k2;clear aF aQ aW bh lN jB k2;by_cases cI:k<g.ops.l.length
  ·obtain⟨x,ag,dm⟩:=bW (l:=g.ids.l) (k:=k) (by omega);obtain⟨o,aq,ef⟩:=bW cI;have qo:=au.ids x dm;have bB:=dk qo;have aR:IntKind.i64.wrap ((k:Int)+1)=((k+1:Nat) :Int) :=by rw[IntKind.wrap_i64]; omega
   have kH:cv (.ar 32) (aT g.ids) (.int .i64 (k:Int))=some (.b5 (aY x) 0) :=by simp[aT,ag]
   have cg:cv (.ar 11) (b1 g.ops) (.int .i64 (k:Int))=some (.b5 (bj o) 0) :=by simp[b1,aq]
   have ds:(bj o).length=11:=rfl;have nT:∀ h,(bj o)[3]'h=a6 o.act.kind:=fun _=>rfl
   have nU:∀ h,(bj o)[4]'h=.str o.act.key:=fun _=>rfl
   have kD:=hX x;have qb:=YP o;have Bs:=WV g au V aE x k ag;unfold c3 dB at Bs;obtain⟨O,fh⟩:∃ O,O=bj o:=⟨_,rfl⟩
   obtain⟨Y,gQ⟩:∃ Y,Y=aY x:=⟨_,rfl⟩
   rw[<-fh] at cg ds nT nU;rw[<-gQ] at kH bB kD Bs;obtain⟨Z,h0⟩:∃ Z,Z=[U.int .u32 0,.aX,.int .u64 0,.int .u8 0,.str [],.int .u8 0,.int .i64 0,.int .u64 0,.str [],.int .u32 0,.int .u32 0] :=⟨_,rfl⟩
   have hc:Z.length=11:=by rw[h0]; rfl
   have oe:bn Z 0 O=O:=eC (by rw[ds,hc]);have ED:=hH.more [.cells 11 O];have qf:∀ y z:bg,(l++[y]).set l.length z=l++[z] :=fun y z=>by rw[aq9 _ _ (aqv _)]; simp
   have eO:=ED.gp;have lz:∀ (X:am) h,(l++X)[0]'h=.cells 2 [aT g.ids,b1 g.ops] :=fun X h=>by
    have:=(hH.more X).gp; rw[aqr] at this; exact this.2
   have Bp:O.take 11=O:=aqs (by omega);by_cases cO:o.act.kind=3#8
   ·have KB:=qb.2 cO;simp[cI,cg,ds,<-h0,hc,oe,qf,Bp,nT,nU,KB,lz,kH,bB,aqs];refine aU Bs (by simp[aV,U.closed,er,c7,kD]) ?_;have BO:cL (.ar 32) (aT (i8 (kV g k)))=some (.int .i64 (kV g k).length) :=by simp[aT,kv]
    have fO:=WT g k;simp[BO];refine cE (kV g k).length (Ww g k o l.length) ?_ ⟨by simp,by simp,by simp,by simp,by simp,by simp,by simp,by simp,by simp,by simp,by simp,ED.iff fun t=>⟨.inl,fun h=>h.elim id fun h=>by simp at h⟩,hH.lt,by rw[<-fh]; simp⟩;obtain⟨b,ka⟩:∃ b,b=l.length:=⟨_,rfl⟩
    rw[<-ka];clear hH ED qf eO lz;rintro q ae l bm ⟨aF,aQ,aW,bh,eR,lN,jB,k2,sH,sI,sJ,hH,gZ,af⟩;obtain⟨ae,rfl⟩:=VD aF aQ aW bh eR lN jB k2 sH sI sJ;clear aF aQ aW bh eR lN jB k2 sH sI sJ;by_cases mK:q<(kV g k).length
    ·obtain⟨y,aG,dg⟩:=bW mK;have Sy:=au.ids y (WU dg);have df:=dk Sy;have f1:IntKind.i64.wrap ((q:Int)+1)=((q+1:Nat) :Int) :=by rw[IntKind.wrap_i64]; omega
     have Rw:cv (.ar 32) (aT (i8 (kV g k))) (.int .i64 (q:Int))=some (.b5 (aY y) 0) :=by simp[aT,kv,aG]
     have rj:eF ⟨o.act.key,y⟩=.str o.act.key::aY y:=rfl;have fQ:=(hH.more [.cells 32 (aY y)]).m;obtain⟨c,lU,s4⟩:=fQ.put (x:=⟨o.act.key,y⟩) Sy;rw[rj] at lU;rw[<-fh] at af;have fV:b<l.length:=(aqr.1 af).1;obtain⟨W,dr⟩:∃ W,W=aY y:=⟨_,rfl⟩
     rw[<-dr] at df Rw rj lU fQ;have J4:bn (rep 32 (.int .u8 0)) 0 W=W:=eC (by rw[df]; rfl);have qf:∀ y z:bg,(l++[y]).set l.length z=l++[z] :=fun y z=>by rw[aq9 _ _ (aqv _)]; simp
     have bO:∀ X:am,(l++X)[b]? = some (.cells 11 O) :=fun X=>by rw[aqt fV]; exact af
     simp[mK,Rw,df,J4,qf,aqs,bO,nU,ds,lU,f1];have i1:∀ a,a≠2->((l++[bg.cells 32 W]).set 2 c)[a]? = (l++[bg.cells 32 W])[a]?:=fun a az=>aqG (Ne.symm az)
     have yS:=hH.more [.cells 32 W];refine⟨by simp,by simp,by simp,by simp,by simp,by simp,by simp,by simp,by simp,by simp,by simp,⟨(i1 0 (by omega)).trans yS.gp,(i1 1 (by omega)).trans yS.ly,?_⟩,gZ,?_⟩
     ·refine (s4 _ (aqL (by have:=yS.lt; omega))).iff (ZS aG)
     ·rw[i1 b (by omega),<-fh]; exact bO _
    ·have w8:q=(kV g k).length:=by omega
     subst w8;rw[aq0] at hH;simp[mK,aR];exact⟨cI,by simp,by simp,by simp,by simp,by simp,by simp,by simp,hH.iff (ZR aq cO)⟩
   ·have KB:¬ (u o.act.kind:Int)=3:=fun h=>cO (qb.1 h)
    simp[cI,cg,ds,<-h0,hc,oe,qf,Bp,nT,nU,KB,aR];exact⟨by simp,by simp,by simp,by simp,by simp,by simp,by simp,ED.iff (ZQ aq cO)⟩
  ·have gv:k=g.ops.l.length:=by omega
   subst gv;have lz:∀ (X:am) h,(l++X)[0]'h=.cells 2 [aT g.ids,b1 g.ops] :=fun X h=>by
    have:=(hH.more X).gp; rw[aqr] at this; exact this.2
   simp[cI,lz,dL];refine cE g.ops.l.length (Wv g l.length) ?_ ⟨by simp,by simp,by simp,by simp,by simp,by simp,by simp,by simp,hH.more _,hH.lt,.aX,l.length+1,by simp,by simpa [hF] using bG.nil _,by simp[hF,cq],.inl rfl⟩;obtain⟨b,ka⟩:∃ b,b=l.length:=⟨_,rfl⟩
   rw[<-ka];clear hH lz ka;rintro i ae l ax ⟨aF,aQ,aW,bh,hI,IA,IB,IC,hH,gZ,v,j,af,iE,uS,ai⟩;obtain⟨ae,rfl⟩:=VF aF aQ aW bh hI IA IB IC;clear aF aQ aW bh hI IA IB IC;have fV:b<l.length:=(aqr.1 af).1;have lz:∀ (X:am) h,(l++X)[0]'h=.cells 2 [aT g.ids,b1 g.ops] :=fun X h=>by
    have:=(hH.more X).gp; rw[aqr] at this; exact this.2
   by_cases fk:i<g.ops.l.length
   ·obtain⟨x,ag,dm⟩:=bW (l:=g.ids.l) (k:=i) (by omega);obtain⟨o,aq,ef⟩:=bW fk;have qo:=au.ids x dm;have bB:=dk qo;have aR:IntKind.i64.wrap ((i:Int)+1)=((i+1:Nat) :Int) :=by rw[IntKind.wrap_i64]; omega
    have kH:cv (.ar 32) (aT g.ids) (.int .i64 (i:Int))=some (.b5 (aY x) 0) :=by simp[aT,ag]
    have cg:cv (.ar 11) (b1 g.ops) (.int .i64 (i:Int))=some (.b5 (bj o) 0) :=by simp[b1,aq]
    have ds:(bj o).length=11:=rfl;have nT:∀ h,(bj o)[3]'h=a6 o.act.kind:=fun _=>rfl
    have nU:∀ h,(bj o)[4]'h=.str o.act.key:=fun _=>rfl
    have qb:=YO o;have rj:eF ⟨o.act.key,x⟩=.str o.act.key::aY x:=rfl;have mC:(eF ⟨o.act.key,x⟩).length=33:=yF qo;have fO:=Hw aq ag;obtain⟨O,fh⟩:∃ O,O=bj o:=⟨_,rfl⟩
    obtain⟨Y,gQ⟩:∃ Y,Y=aY x:=⟨_,rfl⟩
    obtain⟨T,dt⟩:∃ T,T=eF ⟨o.act.key,x⟩:=⟨_,rfl⟩
    rw[<-fh] at cg ds nT nU;rw[<-gQ] at kH bB rj;have i0:=(hH.more [bg.cells 11 O,.cells 33 T]).m.look (x:=⟨o.act.key,x⟩) qo;rw[<-dt] at rj mC i0;obtain⟨Z,h0⟩:∃ Z,Z=[U.int .u32 0,.aX,.int .u64 0,.int .u8 0,.str [],.int .u8 0,.int .i64 0,.int .u64 0,.str [],.int .u32 0,.int .u32 0] :=⟨_,rfl⟩
    have hc:Z.length=11:=by rw[h0]; rfl
    have oe:bn Z 0 O=O:=eC (by rw[ds,hc]);have Sl:bn (rep 32 (.int .u8 0)) 0 Y=Y:=eC (by rw[bB]; rfl);have xa:bn (U.str [] ::rep 32 (.int .u8 0)) 0 T=T:=L4 mC;have Bp:O.take 11=O:=aqs (by omega);have QL:T.take 33=T:=aqs (by omega);have qf:∀ y z:bg,(l++[y]).set l.length z=l++[z] :=fun y z=>by rw[aq9 _ _ (aqv _)]; simp
    have RP:∀ y z w:bg,(l++[w,y]).set (l.length+1) z=l++[w,z] :=fun y z w=>by rw[aq9 _ _ (by omega)]; simp
    have bO:∀ X:am,(l++X)[b]? = some (.cells 1 [v]) :=fun X=>by rw[aqt fV]; exact af
    by_cases bz:o.act.kind=2#8
    ·have KA:=qb.2 bz;simp[fk,cg,ds,<-h0,hc,oe,qf,Bp,nT,nU,KA,lz,kH,bB,aqs,Sl,<-rj,mC,xa,RP,i0];by_cases hm:oM g g.ops.l.length ⟨o.act.key,x⟩
     ·rw[if_neg (fun h=>h.2 hm),aqW] at fO;simp[hm,aR];exact⟨fk,by simp,by simp,by simp,by simp,by simp,by simp,by simp,by simp,hH.more _,gZ,v,j,bO _,by rw[fO]; exact iE.more _,by rw[fO]; exact uS,ai⟩
     ·rw[if_pos ⟨bz,hm⟩] at fO;obtain⟨dQ,qc⟩:∃ dQ,dQ=l++[bg.cells 11 O,bg.cells 33 T,bg.cells 33 T] :=⟨_,rfl⟩
      have amB:dQ.length=l.length+3:=by rw[qc]; simp
      have aaJ:=DA g i;have acs:bG 33 dQ v j ((hF g i).map eF) :=by rw[qc]; exact iE.more _
      obtain⟨a8,cP,l',tL,tM,VA,Mw,Ae,aiS⟩:=Hz (by_:=48) acs (x:=.ar 33 (l.length+2) 0 1 1 33) (xs:=[T]) (by rw[qc]; simp[c8,mC,QL]) (by simp[mC]) (by omega) (by omega) (by simp; omega);have ih:cq a8=false:=by rw[aiS]; simp
      have mO:=tM.cells;have aaq:kR g (oM g g.ops.l.length) dQ:=by rw[qc]; exact hH.more _
      have sR:dQ[b]? = some (.cells 1 [v]) :=by rw[qc]; exact bO _
      have bH:l'[b]? = some (.cells 1 [v]) :=by rw[Mw b (by omega) (ai.imp_right (by omega))]; exact sR
      rw[qc] at tL;simp[hm,bO,mC,QL,xa,tL,aqs];refine dq.cr ?_;simp[mO,bH,aR];have bY:∀ a,a≠b->(l'.set b (.cells 1 [a8]))[a]? = l'[a]?:=fun a az=>aqG (Ne.symm az)
      refine⟨fk,by simp,by simp,by simp,by simp,by simp,by simp,by simp,by simp,aaq.frame fun a az=>?_,gZ,a8,cP,aqL (by omega),?_,by rw[ih,fO]; simp,?_⟩
      ·rw[bY a (by omega),Mw a (by omega) (ai.imp_right (by omega))]
      ·have abQ:cP≠b:=by
        rcases Ae with h | ⟨h1,ad⟩ | h
        ·omega
        ·have:=ai.resolve_left h1; omega
        ·rw[h] at ih; cases ih
       rw[fO,aqV];have:bG 33 (l'.set b (.cells 1 [a8])) a8 cP ((hF g i).map eF++[T]) :=tM.frame fun _=>bY cP abQ
       rw[dt] at this;exact this
      ·right;rcases Ae with h | ⟨h1,ad⟩ | h
       ·omega
       ·have:=ai.resolve_left h1; omega
       ·rw[h] at ih; cases ih
    ·have KA:¬ (u o.act.kind:Int)=2:=fun h=>bz (qb.1 h)
     simp[fk,cg,ds,<-h0,hc,oe,qf,Bp,nT,nU,KA,lz,kH,bB,aqs,Sl,<-rj,mC,xa,RP,aR];rw[if_neg (fun h=>bz h.1),aqW] at fO;exact⟨by simp,by simp,by simp,by simp,by simp,by simp,by simp,by simp,hH.more _,gZ,v,j,bO _,by rw[fO]; exact iE.more _,by rw[fO]; exact uS,ai⟩
   ·have fl:i=g.ops.l.length:=by omega
    subst fl;have aaJ:=DA g g.ops.l.length;simp[fk,af];refine aiE (Nb au _) (by omega) uS iE (fun l' h1 ad aj=>?_);have bH:l'[b]? = some (.cells 1 [v]) :=by rw[ad b (ai.imp_right (by omega))]; exact af
    have yS:kR g (oM g g.ops.l.length) l':=hH.frame fun a az=>ad a (ai.imp_right (by omega))
    have ly:=yS.ly;have qc:=yS.lt;have mO:=aj.cells;have cQ:∀ (y:bg),(l'.set 1 y)[1]? = some y:=fun y=>aqL (by omega)
    simp[bH,ly,cQ];refine Gr (Uy ?_) (aH (by rw[aE]) rfl);unfold lw;rw[if_pos aE];have aC:bG 33 (l'.set 1 (.cells 1 [v])) v j ((kP (hF g g.ops.l.length)).map eF) :=by
     rcases ai with e | e
     ·subst e;have:=aj.q.vn;rw[this]; exact .nil _
     ·exact aj.frame fun _=>aqG (by omega)
    exact aC.q.xO (fun x=>H1 x) (GK (kP (hF g g.ops.l.length))) (by
     rw[uS,aij];have:=U4 (hF g g.ops.l.length);cases aZ:kP (hF g g.ops.l.length)<;>cases bx:hF g g.ops.l.length<;>simp_all) (Mf _)
 ·simp[aE];refine aH ?_ ?_
  ·unfold lw; rw[if_neg aE]; rfl
  ·simp[U.closed,aV,yw]
theorem ad7 {g:bM} (V:pJ g) {k:Nat} {o:bA} (aq:g.ops.l[k]? = some o) (bz:o.act.kind=2#8) :fE o.act.key=true:=by
 obtain⟨y,aG,_⟩:=bW (l:=g.ids.l) (k:=k) (by rw[V.len]; exact (aqr.1 aq).1);have h1:=PB (Dj (V.ID k o y aq aG).1);rw[Aw bz,aqw] at h1;exact h1.1
theorem WM {g:bM} (V:pJ g) {m:Nat} {key:List UInt8} {x:List B} (ag:g.ids.l[m]? = some x) :(⟨key,x⟩:bQ)∉hF g m:=fun h=>by
 obtain⟨k,o,y,h1,_,aj,_,_,bx⟩:=Hv.1 h;have:x=y:=congrArg bQ.id bx;subst this;have:=u4 V.eB k m x aj ag;omega
theorem Na {g:bM} (V:pJ g) :∀ {m:Nat},m<=g.ops.l.length->(hF g m).Nodup
 | 0,_=>by simp[hF]
 | m+1,hm=>by
  have aJ:=Na V (m:=m) (by omega);obtain⟨o,aq,_⟩:=bW (l:=g.ops.l) (k:=m) (by omega);obtain⟨x,ag,_⟩:=bW (l:=g.ids.l) (k:=m) (by rw[V.len]; omega);rw[Hw aq ag];split
  ·rw[ati];refine⟨aJ,by simp,fun a az b af e=>?_⟩;rw[aq6] at af;subst e;rw[af] at az;exact WM V ag az
  ·simpa using aJ
theorem afy {g:bM} (au:hS g) :rL (lw g).l/\(lw g).l.length<=g.ops.l.length:=by
 unfold lw;by_cases aE:fv g=0
 ·rw[if_pos aE,Mf];refine⟨fun t aP=>Nb au _ t ((U5 _ _).1 aP),?_⟩;rw[U4]; exact DA g _
 ·rw[if_neg aE]; exact⟨fun t aP=>(by cases aP),arE _⟩
noncomputable def ei (g:bM) :c0:=if fv g=0 then ⟨g.ops.l.length,lw g,lv g,jV g⟩ else L7
set_option maxHeartbeats 4000000 in
theorem aji (g:bM) (au:hS g) :bi Tryz.prog GS 41 [c3 g] (.bu [.aI (mw (ei g)),.int .i64 (fv g)]) :=by
 refine bt Tryz.checked.mixed bp ?_;apply bb Tryz.func41 [];have er:=gC g.ids;have c7:=mr g.ops;have dL:cL (.ar 11) (b1 g.ops)=some (.int .i64 g.ops.l.length) :=by simp[b1]
 have h1:=ajs g au;have ad:=aju g au;have aj:=ajk g au;have ci:=XZ (lw g);have dd:=OT (lv g);have j4:=XY (jV g);unfold c3 dB at h1 ad aj;simp[c3,dB];refine aU h1 (by simp[aV,U.closed,er,c7]) ?_;by_cases aE:fv g=0
 ·have aA:ei g=⟨g.ops.l.length,lw g,lv g,jV g⟩:=by unfold ei; rw[if_pos aE]
  rw[aA];simp[aE,ci,dL,bn];refine aU ad (by simp[aV,U.closed,er,c7]) ?_;simp[dd,bn];refine aU aj (by simp[aV,U.closed,er,c7]) ?_;simp[j4,bn];exact aH (by rw[aE]; rfl) (O3 _ _)
 ·have aA:ei g=L7:=by unfold ei; rw[if_neg aE]
  rw[aA];simp[aE,ci];exact aH rfl (O3 L7 _)
end Op

end Go.bJ

namespace Go.bJ
open Go Go.Proofs
set_option maxRecDepth 100000
namespace tR
open eX Op
theorem nO:(U.int .u8 0::(rep 32 (U.int .u8 0)++[U.int .i64 0,.bool false,.int .u8 0,.int .i64 0,.int .u64 0,.str [],.aX,.int .i64 0]))=rep 33 (U.int .u8 0)++[U.int .i64 0,.bool false,.int .u8 0,.int .i64 0,.int .u64 0,.str [],.aX,.int .i64 0] :=rfl
theorem nP:(U.int .u8 0::U.aX::U.int .u8 0::U.str [] ::U.int .u8 0::U.int .i64 0::U.int .u64 0::U.str [] ::U.int .u64 0::U.str [] ::U.int .u8 0::U.int .i64 0::U.aX::U.int .i64 0::(rep 33 (U.int .u8 0)++[U.int .i64 0,.bool false,.int .u8 0,.int .i64 0,.int .u64 0,.str [],.aX,.int .i64 0]))=[U.int .u8 0,.aX,.int .u8 0,.str [],.int .u8 0,.int .i64 0,.int .u64 0,.str [],.int .u64 0,.str [],.int .u8 0,.int .i64 0,.aX,.int .i64 0]++rep 33 (U.int .u8 0)++[U.int .i64 0,.bool false,.int .u8 0,.int .i64 0,.int .u64 0,.str [],.aX,.int .i64 0] :=rfl
structure Call where
 kind:B
 bytes:dD
 act:Op.Act
 cX:Q
 key:List UInt8
def gi (c:Call) :List U:=[a6 c.kind,bX c.bytes,a6 c.act.kind,.str c.act.key,a6 c.act.val.kind,.int .i64 c.act.val.num,cD c.act.val.bits,.str c.act.val.text,cD c.cX,.str c.key]
def vV:Op.Act:=⟨0#8,[],hR⟩
theorem sx (c:Call) :(U.aI (gi c)).closed=true:=by simp[U.closed,gi,aV,hW]
def q5 (c:Call) :Call:=⟨c.kind,if c.kind=1#8 then c.bytes else none,if c.kind=2#8 then c.act else vV,if c.kind=2#8 then c.cX else 0#64,if c.kind=3#8 then c.key else []⟩
set_option maxHeartbeats 4000000 in
theorem X7 (c:Call) :bi Tryz.prog GS 79 [.aI (gi c)] (.aI (gi (q5 c))) :=by
 refine bt Tryz.checked.mixed bp ?_;apply bb Tryz.func79 [[[0],[1],[2],[3],[4],[5,3]]];unfold gi;have ah:=hW c.bytes;by_cases bL:c.kind=1#8
 ·simp[fq,bL,q5,vV,hR];exact aH rfl (by simp[U.closed,aV,ah])
 ·by_cases bz:c.kind=2#8
  ·simp[fq,fT,bz,q5];exact aH rfl rfl
  ·by_cases cO:c.kind=3#8
   ·simp[fq,fT,ip,cO,q5,vV,hR];exact aH rfl rfl
   ·simp[fq,fT,ip,bL,bz,cO,q5,vV,hR];exact aH rfl rfl
def r2 (s:List B) :List UInt8:=s.map fun x=>UInt8.ofNat x.toNat
theorem Vg:∀ {a b:List B},r2 a=r2 b->a=b
 | [],[],_=>rfl
 | [],_::_,h=>by simp[r2] at h
 | _::_,[],h=>by simp[r2] at h
 | x::a,y::b,h=>by
  simp only[r2,aqP,List.cons.injEq] at h;have h1:=congrArg UInt8.toNat h.1;simp only[atc] at h1;have ag:=x.isLt;have aG:=y.isLt;rw[Vg (a:=a) (b:=b) h.2,aqE (x:=x) (y:=y) (by omega)]
theorem aic (a b:List B) :(r2 a=r2 b)<->a=b:=⟨Vg,fun h=>by rw[h]⟩
theorem NR:∀ a:List B,kY (a.map a6)=some (r2 a)
 | []=>rfl
 | x::a=>by
  simp only[aqP,kY,NR a,aqy];simp[u,r2]
theorem PO:∀ a:List B,(a.map bN).flatten=a.map a6
 | []=>rfl
 | x::a=>by rw[aqP,aro,PO a]; rfl
theorem XU (l:am) (s:dD) :q4 l (bX s)=some (.str (r2 s.l)) :=by
 cases s with
 | none=>rfl
 | some a=>
  have h:c8 l 1 (bX (some a))=some (a.map a6,a.length) :=by
   have:=wi l 1 bN (some a);rw[this]; simp[PO]
  simp only[cy] at h ⊢;unfold q4;simp only[h,NR];rfl
theorem HH (a b:dD) :bi Tryz.prog GS 104 [bX a,bX b] (.bool (decide (a.l=b.l))) :=by
 refine bt Tryz.checked.mixed bp ?_;apply bb Tryz.func104 [];simp[XU,aic];exact aH rfl rfl
def v8 (a b:Op.Act) :Bool:=eo (ix a) (ix b)
theorem WK (a b:Op.Act) :v8 a b=(decide (a.kind=b.kind)&&(decide (a.key=b.key)&&(decide (a.val.kind=b.val.kind)&&(decide (a.val.num=b.val.num)&&(decide (a.val.bits=b.val.bits)&&decide (a.val.text=b.val.text)))))) :=by
 simp[v8,ix,eo,U.beq]
theorem M7 (a:Op.Act) :v8 a a=true:=by simp[WK]
theorem WL (a b:Op.Act) :fG Tryz.prog .eql 27 (.aI [a6 a.kind,.str a.key,a6 a.val.kind,.int .i64 a.val.num,cD a.val.bits,.str a.val.text]) (.aI [a6 b.kind,.str b.key,a6 b.val.kind,.int .i64 b.val.num,cD b.val.bits,.str b.val.text])=some (.bool (v8 a b)) :=M2 a b
def xU (a b:Call) :Bool:=decide (a.kind=b.kind)&&(decide (a.bytes.l=b.bytes.l)&&(v8 a.act b.act&&(decide (a.cX=b.cX)&&decide (a.key=b.key))))
set_option maxHeartbeats 4000000 in
theorem ahq (a b:Call) :bi Tryz.prog GS 78 [.aI (gi a),.aI (gi b)] (.bool (xU a b)) :=by
 refine bt Tryz.checked.mixed bp ?_;apply bb Tryz.func78 [];unfold gi xU;have h1:=WL a.act b.act;by_cases aF:a.kind=b.kind
 ·simp[aF];refine aU (HH a.bytes b.bytes) (by simp[aV,hW]) ?_;by_cases aQ:a.bytes.l=b.bytes.l
  ·simp[aQ,h1];cases v8 a.act b.act with
   | true=>
    by_cases aW:a.cX=b.cX
    ·simp[aW];exact aH (by simp[aF,aQ,aW]) rfl
    ·simp[aW];exact aH (by simp[aF,aQ,aW]) rfl
   | false=>
    simp;exact aH rfl rfl
  ·simp[aQ];exact aH rfl rfl
 ·simp[aF];exact aH rfl rfl
def DH (c:Call) :Bool:=(decide (c.bytes.l=[])||decide (c.kind=1#8))&&(((v8 c.act vV&&decide (c.cX=0#64))||decide (c.kind=2#8))&&(decide (c.key=[])||decide (c.kind=3#8)))
def Cx (c:Call) :Bool:=decide (1<=c.kind.toNat)&&decide (c.kind.toNat<=6)
def iV (c:Call) :Bool:=Cx c&&(DH c&&(decide (c.bytes.l.length<=2000)&&(decide (c.cX.toNat<=1000000000000)&&((!decide (c.kind=3#8)||fE c.key)&&(!decide (c.kind=2#8)||hU c.act)))))
theorem ahp (c:Call) :xU c (q5 c)=DH c:=by
 unfold xU DH q5;by_cases bL:c.kind=1#8
 ·simp[bL,as3]
 ·by_cases bz:c.kind=2#8
  ·simp[bz,M7]
  ·by_cases cO:c.kind=3#8
   ·simp[cO]
   ·simp[bL,bz,cO,as3]
def KE (k:B) (s:List UInt8)   : Op.Act:=⟨k,s,hR⟩
theorem adV:ki hR=true:=rfl
theorem ad4 (s:List UInt8) :hU (KE 3#8 s)=fE s:=by rw[Dz rfl]; simp[KE,adV]
theorem Y9 (b:Bool) :(eh b=0)<->b=true:=by cases b<;>simp[eh]
theorem X2 (s:List UInt8) :bi Tryz.prog GS 76 [.str s] (.bool (fE s)) :=by
 refine bt Tryz.checked.mixed bp ?_;apply bb Tryz.func76 [];simp;refine aU (AN (KE 3#8 s)) rfl ?_;rw[ad4];simp;exact aH (by cases fE s<;>simp[eh]) rfl
theorem Zv:ht Tryz.prog 76=true:=by kernel_rfl
theorem KI (c:Call) :((u c.kind:Int)<1)<->¬ 1<=c.kind.toNat:=by unfold u; omega
theorem S2 (c:Call) :((6:Int)<u c.kind)<->¬ c.kind.toNat<=6:=by unfold u; omega
theorem GH (c:Call) :((1000000000000:Int)<u c.cX)<->¬ c.cX.toNat<=1000000000000:=by unfold u; omega
set_option maxHeartbeats 8000000 in
theorem OW (c:Call) :bi Tryz.prog GS 32 [.aI (gi c)] (.int .i64 (eh (iV c))) :=by
 refine bt Tryz.checked.mixed bp ?_;apply bb Tryz.func32 [[[0],[1],[2],[3],[4],[5],[6],[7],[8],[9],[10],[11,9]]];have di:=X7 c;have qm:=ahq c (q5 c);rw[ahp] at qm;have ng:=sx c;have iY:=sx (q5 c);have bc:cL (.ar 1) (bX c.bytes)=some (.int .i64 c.bytes.l.length) :=nt _;have fC:((2000:Int)<c.bytes.l.length)<->¬ c.bytes.l.length<=2000:=by omega
 obtain⟨E,dV⟩:∃ E,E=U.aI (gi (q5 c)) :=⟨_,rfl⟩
 rw[<-dV] at di qm iY;by_cases aF:1<=c.kind.toNat
 ·by_cases aQ:c.kind.toNat<=6
  ·have hk:Cx c=true:=by simp[Cx,aF,aQ]
   unfold gi at di qm ng ⊢;simp[KI,S2,aF,aQ];refine aU di (by simpa [aV] using ng) ?_;simp;refine aU qm (by simpa [aV,iY] using ng) ?_;cases af:DH c with
   | false=>
    simp;exact aH (by simp[iV,hk,af,eh]) rfl
   | true=>
    by_cases aW:c.bytes.l.length<=2000
    ·by_cases bd:c.cX.toNat<=1000000000000
     ·have By:iV c=((!decide (c.kind=3#8)||fE c.key)&&(!decide (c.kind=2#8)||hU c.act)) :=by simp[iV,hk,af,aW,bd]
      rw[By];by_cases cO:c.kind=3#8
      ·have bz:¬ c.kind=2#8:=by rw[cO]; decide
       simp[bc,fC,aW,GH,bd,ip,fT,cO];refine⟨Zv,aU (X2 c.key) rfl ?_⟩;cases fE c.key<;>simp<;>exact aH (by simp[eh,cO]) rfl
      ·by_cases bz:c.kind=2#8
       ·simp[bc,fC,aW,GH,bd,ip,fT,bz];refine aU (AN c.act) rfl ?_;cases hU c.act<;>simp[eh]<;>exact aH (by simp[eh,bz]) rfl
       ·simp[bc,fC,aW,GH,bd,ip,fT,cO,bz];exact aH (by simp[eh,bz,cO]) rfl
     ·simp[bc,fC,aW,GH,bd];exact aH (by simp[iV,bd,eh]) rfl
    ·simp[bc,fC,aW];exact aH (by simp[iV,aW,eh]) rfl
  ·have hk:iV c=false:=by simp[iV,Cx,aQ]
   rw[hk];unfold gi;simp[KI,S2,aF,aQ];exact aH rfl rfl
 ·have hk:iV c=false:=by simp[iV,Cx,aF]
  rw[hk];unfold gi;simp[KI,aF];exact aH rfl rfl
open eX Op
structure kw where
 verdict:B
 id:List B
 version:Int
 td:Bool
 val:fA
 cl:eI
 sub:Int
def fx (a:kw) :List U:=a6 a.verdict::(a.id.map a6++[.int .i64 a.version,.bool a.td,a6 a.val.kind,.int .i64 a.val.num,cD a.val.bits,.str a.val.text,aT a.cl,.int .i64 a.sub])
structure gL where
 call:Call
 at_:B
 base:Int
 bytes:dD
 m0:Int
 dj:kw
def dx (o:gL) :List U:=gi o.call++([a6 o.at_,.int .i64 o.base,bX o.bytes,.int .i64 o.m0]++fx o.dj)
def lx (a:kw) :Prop:=a.id.length=32/\g7 a.cl
theorem zC {a:kw} (h:lx a) :(fx a).length=41:=by simp[fx,h.1]
theorem H0 (a:kw) :aV (fx a)=true:=by
 have h:=kZ a6 (fun _=>rfl) a.id;have ad:∀ (x y:List U),aV x=true->aV y=true->aV (x++y)=true:=by
  intro x
  induction x with
  | nil=>intro y _ aG; exact aG
  | cons c x aJ=>intro y ag aG; simp only[aV,aqw,arw] at ag ⊢; exact⟨ag.1,aJ y ag.2 aG⟩
 unfold fx;simp only[aV,U.closed,art];exact ad _ _ h (by simp[aV,U.closed,gC])
theorem nN (o:gL) :(U.aI (dx o)).closed=true:=by
 have h:=H0 o.dj;have ad:=sx o.call;simp only[U.closed] at ad ⊢;unfold dx gi at *
 simp only[aV,U.closed,hW,arw,aru,h,ar5,art]
structure OF (L:List U) (o:gL) :Prop where
 len:L.length=55
 gB:∃ h:0<L.length,L[0]'h=a6 o.call.kind
 ci:∃ h:1<L.length,L[1]'h=bX o.call.bytes
 j4:∃ h:3<L.length,L[3]'h=.str o.call.act.key
 yq:∃ h:9<L.length,L[9]'h=.str o.call.key
 AG:∃ h:10<L.length,L[10]'h=a6 o.at_
 oT:∃ h:11<L.length,L[11]'h=.int .i64 o.base
 sr:∃ h:12<L.length,L[12]'h=bX o.bytes
 wb:∃ h:13<L.length,L[13]'h=.int .i64 o.m0
 AJ:∃ h:53<L.length,L[53]'h=aT o.dj.cl
 t55:L.take 55=L
 t10:L.take 10=gi o.call
 t41:(L.drop 14).take 41=fx o.dj
 oV:aV L=true
theorem KL {o:gL} (h:lx o.dj) :(dx o).length=55:=by simp[dx,gi,zC h]
theorem mi {L:List U} {i:Nat} {c:U} (h:L[i]? = some c) :∃ h:i<L.length,L[i]'h=c:=aqr.1 h
theorem jO {o:gL} (h:lx o.dj) :OF (dx o) o:=by
 have ak:=KL h;refine⟨ak,mi rfl,mi rfl,mi rfl,mi rfl,mi rfl,mi rfl,mi rfl,mi rfl,mi ?_,aqs (by omega),rfl,?_,nN o⟩
 ·show (fx o.dj)[39]? = _;unfold fx;rw[show (39:Nat)=38+1 from rfl,aq2,aqB (by simp[h.1])];simp[h.1]
 ·show (fx o.dj).take 41=_;exact aqs (by have:=zC h; omega)
def FJ (k:B) :U:=if k=1#8 then .fD 179 (.aI []) else if k=5#8 then .fD 219 (.aI []) else if k=6#8 then .fD 220 (.aI []) else .fD 180 (.aI [])
theorem VC (k:B) :((u k:Int)=6)<->k=6#8:=oD k 6#8
theorem S3 (c:Call) :bi Tryz.prog GS 89 [.aI (gi c)] (FJ c.kind) :=by
 refine bt Tryz.checked.mixed bp ?_;apply bb Tryz.func89 [];unfold gi FJ
 try simp only[nO,nP]
 by_cases bL:c.kind=1#8
 ·simp[fq,bL];exact aH rfl rfl
 ·by_cases g6:c.kind=5#8
  ·simp[fq,x1,g6];exact aH rfl rfl
  ·by_cases vb:c.kind=6#8
   ·simp[fq,x1,VC,vb];exact aH rfl rfl
   ·simp[fq,x1,VC,bL,g6,vb];exact aH rfl rfl
def Iq (k:B) :B:=if k=1#8 then 2#8 else if k=5#8 then 3#8 else if k=6#8 then 4#8 else 1#8
def zJ (o:gL) :B:=if o.at_=4#8 then 6#8 else if o.at_=3#8 then 5#8 else if o.at_=2#8 then 2#8 else Iq o.call.kind
theorem aeQ:qA Tryz.prog 179 "braid/calls.first"=some 296:=by kernel_rfl
theorem aeO:qA Tryz.prog 180 "braid/calls.first"=some 297:=by kernel_rfl
theorem aeR:qA Tryz.prog 219 "braid/calls.first"=some 298:=by kernel_rfl
theorem aeN:qA Tryz.prog 220 "braid/calls.first"=some 299:=by kernel_rfl
theorem Zi:ht Tryz.prog 296=true:=by kernel_rfl
theorem Zh:ht Tryz.prog 297=true:=by kernel_rfl
theorem Zj:ht Tryz.prog 298=true:=by kernel_rfl
theorem Zg:ht Tryz.prog 299=true:=by kernel_rfl
theorem af7:bi Tryz.prog GS 296 [.aI []] (a6 2#8) :=by
 refine bt Tryz.checked.mixed bp ?_;apply bb Tryz.func296 [];simp;exact aH rfl rfl
theorem FN:bi Tryz.prog GS 297 [.aI []] (a6 1#8) :=by
 refine bt Tryz.checked.mixed bp ?_;apply bb Tryz.func297 [];simp;exact aH rfl rfl
theorem aie:bi Tryz.prog GS 298 [.aI []] (a6 3#8) :=by
 refine bt Tryz.checked.mixed bp ?_;apply bb Tryz.func298 [];simp;exact aH rfl rfl
theorem Ya:bi Tryz.prog GS 299 [.aI []] (a6 4#8) :=by
 refine bt Tryz.checked.mixed bp ?_;apply bb Tryz.func299 [];simp;exact aH rfl rfl
theorem ae4 (o:gL) (aq:lx o.dj) :bi Tryz.prog GS 47 [.aI (dx o)] (a6 (zJ o)) :=by
 refine bt Tryz.checked.mixed bp ?_;apply bb Tryz.func47 [];unfold zJ
 try simp only[nO,nP]
 have qb:=S3 o.call;have cF:=sx o.call;have F:=jO aq;obtain⟨L,ec⟩:∃ L,L=dx o:=⟨_,rfl⟩
 rw[<-ec] at F ⊢;obtain⟨ak,_,_,_,_,⟨_,AG⟩,_,_,_,_,_,t10,_,oV⟩:=F;by_cases dn:o.at_=4#8
 ·simp[ak,AG,l5,dn];exact aH rfl rfl
 ·by_cases cO:o.at_=3#8
  ·simp[ak,AG,l5,ip,cO];exact aH rfl rfl
  ·by_cases bz:o.at_=2#8
   ·simp[ak,AG,l5,ip,fT,bz];exact aH rfl rfl
   ·simp[ak,AG,t10,l5,ip,fT,bz,cO,dn];refine aU qb (by simpa [aV] using cF) ?_;unfold FJ Iq;by_cases u6:o.call.kind=1#8
    ·simp[u6,aeQ];refine⟨Zi,aU af7 rfl ?_⟩;simp;exact aH (by simp[bz,cO,dn,u6]) rfl
    ·by_cases hN:o.call.kind=5#8
     ·simp[hN,aeR];refine⟨Zj,aU aie rfl ?_⟩;simp;exact aH (by simp[bz,cO,dn,u6,hN]) rfl
     ·by_cases km:o.call.kind=6#8
      ·simp[km,aeN];refine⟨Zg,aU Ya rfl ?_⟩;simp;exact aH (by simp[bz,cO,dn,u6,hN,km]) rfl
      ·simp[u6,hN,km,aeO];refine⟨Zh,aU FN rfl ?_⟩;simp;exact aH (by simp[bz,cO,dn,u6,hN,km]) rfl
def jA (o:gL) :Bool:=decide (o.base=0)&&(decide (o.m0=-1)&&decide (o.bytes.l=o.call.bytes.l))
theorem ZG (o:gL) (aq:lx o.dj) :bi Tryz.prog GS 62 [.aI (dx o)] (.bool (jA o)) :=by
 refine bt Tryz.checked.mixed bp ?_;apply bb Tryz.func62 [];unfold jA
 try simp only[nO,nP]
 have F:=jO aq;obtain⟨L,ec⟩:∃ L,L=dx o:=⟨_,rfl⟩
 rw[<-ec] at F ⊢;obtain⟨ak,_,⟨_,ci⟩,_,_,_,⟨_,oT⟩,⟨_,sr⟩,⟨_,wb⟩,_,_,_,_,oV⟩:=F;by_cases aF:o.base=0
 ·by_cases aQ:o.m0=-1
  ·simp[ak,oT,wb,sr,ci,aF,aQ];refine aU (HH o.bytes o.call.bytes) (by simp[aV,hW]) ?_;simp;exact aH (by simp[aF,aQ]) rfl
  ·simp[ak,oT,wb,aF,aQ];exact aH (by simp[aF,aQ]) rfl
 ·simp[ak,oT,aF];exact aH (by simp[aF]) rfl
def zX (o:gL) :Bool:=if o.call.kind=1#8 then decide (o.base=0)&&decide (o.bytes.l=o.call.bytes.l) else decide (o.call.kind=2#8)&&(decide (0<=o.base)&&decide (o.bytes.l.length<=2000))
theorem agL (o:gL) (aq:lx o.dj) :bi Tryz.prog GS 63 [.aI (dx o)] (.bool (zX o)) :=by
 refine bt Tryz.checked.mixed bp ?_;apply bb Tryz.func63 [];unfold zX
 try simp only[nO,nP]
 have F:=jO aq;have qb:=S3 o.call;have cF:=sx o.call;have bc:cL (.ar 1) (bX o.bytes)=some (.int .i64 o.bytes.l.length) :=nt _;have fC:((o.bytes.l.length:Int)<=2000)<->o.bytes.l.length<=2000:=by omega
 obtain⟨L,ec⟩:∃ L,L=dx o:=⟨_,rfl⟩
 rw[<-ec] at F ⊢;obtain⟨ak,⟨_,gB⟩,⟨_,ci⟩,_,_,_,⟨_,oT⟩,⟨_,sr⟩,⟨_,wb⟩,_,_,t10,_,oV⟩:=F;simp[ak,t10];refine aU qb (by simpa [aV] using cF) ?_;unfold FJ;have kq:Nat.beq 179 179=true:=rfl;by_cases bL:o.call.kind=1#8
 ·by_cases aF:o.base=0
  ·simp[bL,oB,ak,oT,sr,ci,aF];refine aU (HH o.bytes o.call.bytes) (by simp[aV,hW]) ?_;simp;exact aH (by simp[aF,bL]) rfl
  ·simp[bL,oB,ak,oT,aF];exact aH (by simp[aF,bL]) rfl
 ·by_cases bz:o.call.kind=2#8
  ·by_cases aF:0<=o.base
   ·simp[bz,oB,ak,gB,fT,oT,sr,aF,bc,fC];exact aH (by simp[aF,bz]) rfl
   ·simp[bz,oB,ak,gB,fT,oT,aF];exact aH (by simp[aF,bz]) rfl
  ·by_cases g6:o.call.kind=5#8
   ·simp[g6,oB];exact aH (by simp[g6]) rfl
   ·by_cases vb:o.call.kind=6#8
    ·simp[vb,oB];exact aH (by simp[vb]) rfl
    ·simp[bL,bz,g6,vb,oB,ak,gB,fT];exact aH (by simp[bL,bz]) rfl
def z1 (n:Int) :Bool:=decide (0<=n)&&decide (n<=1000000000)
theorem NG:∀ a b:List B,a.length=b.length->eo (a.map a6) (b.map a6)=decide (a=b)
 | [],[],_=>rfl
 | [],_::_,h=>by simp at h
 | _::_,[],h=>by simp at h
 | x::a,y::b,h=>by
  have aJ:=NG a b (by simpa using h);simp only[aqP,eo,aJ,U.beq,decide_true,art];by_cases h1:x=y
  ·by_cases ad:a=b<;>simp[h1,ad]
  ·have:¬ u x=u y:=fun h=>h1 ((oD x y).1 h)
   simp[h1]
theorem K7:∀ a:List B,hi (List.replicate a.length (.i .u8)) (a.map a6)=true
 | []=>rfl
 | x::a=>by
  rw[aqH,arq,aqP];simp only[hi,K7 a,De,decide_true,ar5]
theorem aec:qw Tryz.prog 20 31=some (List.replicate 32 (.i .u8)) :=by kernel_rfl
theorem adp {a b:List B} (az:a.length=32) (af:b.length=32) :fG Tryz.prog .eql 31 (.aI (a.map a6)) (.aI (b.map a6))=some (.bool (decide (a=b))) :=by
 rw[DK aec (by kernel_rfl) (by kernel_rfl) (by have:=K7 a; rwa [az] at this) (by have:=K7 b; rwa [af] at this),NG a b (by omega)]
def tP:List B:=List.replicate 32 0#8
theorem ajP:rep 32 (.int .u8 0)=tP.map a6:=rfl
structure V4 (M:List U) (a:kw) :Prop where
 len:M.length=41
 gB:∃ h:0<M.length,M[0]'h=a6 a.verdict
 ss:∃ h:33<M.length,M[33]'h=.int .i64 a.version
 AI:∃ h:34<M.length,M[34]'h=.bool a.td
 HT:∃ h:39<M.length,M[39]'h=aT a.cl
 HU:∃ h:40<M.length,M[40]'h=.int .i64 a.sub
 t1:M.tail.take 32=a.id.map a6
 t35:(M.drop 35).take 4=cn a.val
 t41:M.take 41=M
 oV:aV M=true
theorem Eo {a:kw} (h:lx a) (j:Nat) :(fx a)[33+j]? = ([U.int .i64 a.version,.bool a.td,a6 a.val.kind,.int .i64 a.val.num,cD a.val.bits,.str a.val.text,aT a.cl,.int .i64 a.sub] :List U)[j]?:=by
 unfold fx;rw[show 33+j=(32+j)+1 by omega,aq2,aqB (by simp[h.1])];simp[h.1]
theorem wa {a:kw} (h:lx a) :V4 (fx a) a:=by
 have ak:=zC h;refine⟨ak,mi rfl,mi (Eo h 0),mi (Eo h 1),mi (Eo h 6),mi (Eo h 7),?_,?_,aqs (by omega),H0 a⟩
 ·unfold fx;rw[List.tail_cons,aqT (by simp[h.1]),aqs (by simp[h.1])]
 ·unfold fx;rw[show (35:Nat)=34+1 from rfl,asA,List.drop_append,arx (by simp[h.1])];simp[h.1,cn]
def xx (a:kw) :Bool:=decide (a.verdict=0#8)&&(decide (a.id=tP)&&(decide (a.version=0)&&(!a.td&&(ki a.val&&(decide (a.cl.l=[])&&decide (a.sub=0))))))
theorem Tb (s:eI) :((s.l.length:Int)=0)<->s.l=[] :=by rw[<-arf]; omega
open eX Op
def xG (o:gL) (Em:Bool) :Bool:=
 if o.at_=1#8 then Em
 else if o.at_=2#8 then decide (o.call.kind=2#8)&&(zX o&&decide (o.m0=-1))
 else if o.at_=3#8 then zX o&&z1 o.m0
 else if o.at_=4#8 then Em||(zX o&&(decide (o.m0=-1)||z1 o.m0))
 else false
def oE (o:gL) (Em:Bool) :Bool:=iV o.call&&(xG o Em&&(decide (o.at_=4#8)||xx o.dj))
def Wm:gf:=fun _ _ _=>False
theorem LS {P:Program} {G:Nat->U} {a b:fr} {ae:a2} {l:am} {K:gf} (Q:a2->am->Prop) (h1:run P G a ae l (mQ Q Wm)) (ad:∀ ae l,Q ae l->run P G b ae l K) :run P G (.seq a b) ae l K:=by
 rw[Gy];refine C3 (fun e ae l h=>?_) h1;cases e with
 | normal=>exact ad ae l h
 | exit i=>cases h
 | ret=>cases h
theorem LP {P:Program} {G:Nat->U} {a b c:fr} {ae:a2} {l:am} {K:gf} (h:run P G (.seq (.seq a b) c) ae l K) :run P G (.seq a (.seq b c)) ae l K:=by
 rw[Gy,Gy] at h;rw[Gy];refine C3 (fun e ae l h=>?_) h;cases e with
 | normal=>exact h
 | exit i=>exact h
 | ret=>exact h
set_option maxHeartbeats 8000000 in
theorem ai3 (o:gL) (aq:lx o.dj) :bi Tryz.prog GS 21 [.aI (dx o)] (.int .i64 (eh (oE o (jA o)))) :=by
 refine bt Tryz.checked.mixed bp ?_;apply bb Tryz.func21 []
 try simp only[nO,nP]
 have F:=jO aq;have G:=wa aq;have h3:=nN o;have cz:=OW o.call;have cF:=sx o.call;have g5:=ZG o aq;have iF:=agL o aq;have BS:xx o.dj=(decide (o.dj.verdict=0#8)&&(decide (o.dj.id=tP)&&(decide (o.dj.version=0)&&(!o.dj.td&&(ki o.dj.val&&(decide (o.dj.cl.l=[])&&decide (o.dj.sub=0))))))) :=rfl;have hv:=adp aq.1 (show tP.length=32 from rfl);have xd:=Mz o.dj.val;have E6:cn o.dj.val=[a6 o.dj.val.kind,.int .i64 o.dj.val.num,cD o.dj.val.bits,.str o.dj.val.text] :=rfl;rw[<-E6] at xd;have bc:cL (.ar 32) (aT o.dj.cl)=some (.int .i64 o.dj.cl.l.length) :=nt _;obtain⟨V,j9⟩:∃ V,V=cn o.dj.val:=⟨_,rfl⟩
 obtain⟨I,p0⟩:∃ I,I=o.dj.id.map a6:=⟨_,rfl⟩
 obtain⟨Z,h0⟩:∃ Z,Z=tP.map a6:=⟨_,rfl⟩
 obtain⟨M,hJ⟩:∃ M,M=fx o.dj:=⟨_,rfl⟩
 obtain⟨C,sO⟩:∃ C,C=gi o.call:=⟨_,rfl⟩
 obtain⟨L,ec⟩:∃ L,L=dx o:=⟨_,rfl⟩
 rw[<-sO] at cz cF;rw[<-ec] at F h3 g5 iF ⊢;rw[<-hJ] at G;obtain⟨ak,⟨_,hC⟩,_,_,_,⟨_,xi⟩,_,_,⟨_,FG⟩,_,t55,t10,t41,oV⟩:=F;obtain⟨pN,⟨_,gB⟩,⟨_,ss⟩,⟨_,AI⟩,⟨_,HT⟩,⟨_,HU⟩,t1,t35,ap9,akh⟩:=G;rw[<-hJ] at t41;rw[<-sO] at t10;rw[<-p0] at t1 hv;rw[<-j9] at t35 xd;rw[<-h0] at hv;rw[ajP,<-h0];have qM:=VB o.dj.verdict;have nf:aV [U.aI L]=true:=by simpa [aV] using h3
 have aak:aV [U.aI C]=true:=by simpa [aV] using cF
 have ig:bn (rep 33 (U.int .u8 0)++[.int .i64 0,.bool false,.int .u8 0,.int .i64 0,.int .u64 0,.str [],.aX,.int .i64 0]) 0 M=M:=eC (by simp[pN]);refine LP (LS (fun ae l=>ae 1=.ptr 0 0 55/\ae 3=.bool (z1 o.m0)/\l=[.cells 55 L]) ?_ ?_)
 ·by_cases Vs:0<=o.m0
  ·simp[ak,FG,Vs,z1]
  ·simp[ak,FG,Vs,z1]
 rintro ae l ⟨aF,aW,rfl⟩;obtain⟨ae,rfl⟩:=nA aF aW;clear aF aW;refine LP (LS (fun ae l=>ae 1=.ptr 0 0 55/\ae 4=.bool (iV o.call&&xG o (jA o))/\l=[.cells 55 L]) ?_ ?_)
 ·simp[ak,t10];refine aU cz aak ?_;unfold xG;obtain⟨js,Sg⟩:∃ js,js=zX o:=⟨_,rfl⟩
  obtain⟨Ip,Rj⟩:∃ Ip,Ip=jA o:=⟨_,rfl⟩
  obtain⟨LZ,w9⟩:∃ LZ,LZ=z1 o.m0:=⟨_,rfl⟩
  obtain⟨iU,yZ⟩:∃ iU,iU=iV o.call:=⟨_,rfl⟩
  rw[<-Sg,<-Rj,<-w9,<-yZ];rw[<-Sg] at iF;rw[<-Rj] at g5;have eL:(eh iU=0)=(iU=true) :=propext (Y9 iU);by_cases a7:o.at_=1#8
  ·simp[eL,ak,t55,xi,fq,a7];cases iU with
   | false=>simp[a7]
   | true=>
    simp[a7,ak,t55];refine aU g5 nf ?_;simp[a7]
  ·by_cases bl:o.at_=2#8
   ·simp[eL,ak,t55,xi,hC,fq,fT,bl];cases iU with
    | false=>simp[bl]
    | true=>
     by_cases bz:o.call.kind=2#8
     ·simp[bl,bz,ak,hC,fT,t55];refine aU iF nf ?_;cases js<;>simp[bl,ak,FG,bz]
     ·simp[bl,bz,ak,hC,fT]
   ·by_cases a3:o.at_=3#8
    ·simp[eL,ak,t55,xi,fq,fT,ip,a3];cases iU with
     | false=>simp[a3]
     | true=>
      simp[a3,ak,t55];refine aU iF nf ?_;cases js<;>simp[a3]
    ·by_cases a4:o.at_=4#8
     ·simp[eL,ak,t55,xi,fq,fT,ip,l5,a4];cases iU with
      | false=>simp[a4]
      | true=>
       simp[a4,ak,t55];refine aU g5 nf ?_;cases Ip with
       | true=>simp[a4]
       | false=>
        simp[a4,ak,t55];refine aU iF nf ?_;cases js with
        | false=>simp[a4]
        | true=>cases LZ<;>simp[a4,ak,FG]
     ·simp[eL,ak,xi,fq,fT,ip,l5,a7,bl,a3,a4]
 rintro ae l ⟨aF,bd,rfl⟩;obtain⟨ae,rfl⟩:=nA aF bd;clear aF bd;unfold oE;obtain⟨nv,ed⟩:∃ nv,nv=(iV o.call&&xG o (jA o)) :=⟨_,rfl⟩
 have ao:(iV o.call&&(xG o (jA o)&&(decide (o.at_=4#8)||xx o.dj)))=(nv&&(decide (o.at_=4#8)||xx o.dj)) :=by rw[ed,as3]
 rw[<-ed,ao];refine LP (LS (fun ae l=>ae 1=.ptr 0 0 55/\ae 4=.bool nv/\ae 6=.bool (xx o.dj)/\∃ r,l=.cells 55 L::r) ?_ ?_)
 ·rw[BS];by_cases aF:o.dj.verdict=0#8
  ·by_cases aQ:o.dj.id=tP
   ·by_cases aW:o.dj.version=0
    ·cases bd:o.dj.td with
     | false=>
      cases bh:ki o.dj.val with
      | true=>
       by_cases cc:o.dj.cl.l=[]
       ·simp[ak,t41,pN,ig,gB,ss,AI,HT,HU,t1,t35,hv,xd,bc,Tb,qM,aF,aQ,aW,bd,bh,cc]
       ·simp[ak,t41,pN,ig,gB,ss,AI,HT,HU,t1,t35,hv,xd,bc,Tb,qM,aF,aQ,aW,bd,bh,cc]
      | false=>
       simp[ak,t41,pN,ig,gB,ss,AI,t1,t35,hv,xd,qM,aF,aQ,aW,bd,bh]
     | true=>
      simp[ak,t41,pN,ig,gB,ss,AI,t1,hv,qM,aF,aQ,aW,bd]
    ·simp[ak,t41,pN,ig,gB,ss,t1,hv,qM,aF,aQ,aW]
   ·simp[ak,t41,pN,ig,gB,t1,hv,qM,aF,aQ]
  ·simp[ak,t41,pN,ig,gB,qM,aF]
 ·rintro ae l ⟨aF,bd,cc,r,rfl⟩;obtain⟨ae,rfl⟩:=lB aF bd cc;clear aF bd cc;obtain⟨K2,rr⟩:∃ K2,K2=xx o.dj:=⟨_,rfl⟩
  rw[<-rr];cases nv with
  | false=>
   simp;exact aH rfl rfl
  | true=>
   by_cases a4:o.at_=4#8
   ·simp[ak,xi,l5,a4];exact aH rfl rfl
   ·cases K2<;>simp[ak,xi,l5,a4]<;>exact aH rfl rfl
open eX Op
@[simp] theorem ak6 (s:eI) :(aT s).cells=some [aT s] :=OV s
theorem apy (a:List B) :U.b0 1 (a.map bN)=bX (some a) :=rfl
theorem afd (s:dD) :fG Tryz.prog .eql 22 (bX s) .aX=some (.bool s.isNone) :=DJ (e:=5) (by kernel_rfl) 1 bN s
theorem afe (s:eI) :fG Tryz.prog .eql 32 (aT s) .aX=some (.bool s.isNone) :=DJ (e:=31) (by kernel_rfl) 32 aY s
theorem WZ {l:am} {b:Nat} (s:dD) (al:s.l.length<=1000000000) (af:l[b]? = some (.cells 0 [])) :
  iR l 1 1 (.ar 1 b 0 0 0 0) (bX s)=some (.ar 1 b 0 s.l.length s.l.length (s.l.length*1),l.set b (.cells (s.l.length*1) (s.l.map bN).flatten)) :=by
 have ay:cx=140737488355328:=rfl;exact Nl af (wi l 1 bN s) (by simp) (by omega) (by omega) (by rw[ay]; omega)
theorem W0 {l:am} {b:Nat} (s:eI) (al:s.l.length<=1000000000) (af:l[b]? = some (.cells 0 [])) :
  iR l 32 32 (.ar 32 b 0 0 0 0) (aT s)=some (.ar 32 b 0 s.l.length s.l.length (s.l.length*32),l.set b (.cells (s.l.length*32) (s.l.map aY).flatten)) :=by
 have ay:cx=140737488355328:=rfl;exact Nl af (wi l 32 aY s) (by simp) (by omega) (by omega) (by rw[ay]; omega)
theorem ZH {l:am} {b:Nat} {a:List B} {K:U->am->Prop} (aL:b<l.length) (h:K (bX (some a)) ((l.set b (.cells (a.length*1) (a.map bN).flatten)).set b .dead)) :
  dq (.ar 1 b 0 a.length a.length (a.length*1)) (l.set b (.cells (a.length*1) (a.map bN).flatten)) (c:=⟨K⟩) :=
 dq.P0 a.length (aqL aL) (by simp) (fun e ap=>by obtain⟨x,_,rfl⟩:=aqR.1 ap; rfl) h
theorem ZI {l:am} {b:Nat} {a:List (List B)} {K:U->am->Prop} (az:∀ i∈a,i.length=32) (aL:b<l.length) (h:K (aT (some a)) ((l.set b (.cells (a.length*32) (a.map aY).flatten)).set b .dead)) :
  dq (.ar 32 b 0 a.length a.length (a.length*32)) (l.set b (.cells (a.length*32) (a.map aY).flatten)) (c:=⟨K⟩) :=
 dq.P0 a.length (aqL aL) (by simp) (fun e ap=>by obtain⟨x,ag,rfl⟩:=aqR.1 ap; simp[aY,az x ag]) h
theorem Ny (s:dD) (al:s.l.length<=1000000000) :bi Tryz.prog GS 55 [bX s] (bX s) :=by
 refine bt Tryz.checked.mixed bp ?_;apply bb Tryz.func55 [];have az:=WZ (l:=[bg.cells 0 []]) (b:=0) s al rfl;simp[afd];cases s with
 | none=>
  simp;exact aH rfl rfl
 | some a=>
  simp at az ⊢;simp[az];have:=@ZH [bg.cells 0 []] 0 a;simp at this;refine this ?_;simp;exact aH rfl (hW (some a))
theorem SF (s:eI) (aq:g7 s) (al:s.l.length<=1000000000) :bi Tryz.prog GS 52 [aT s] (aT s) :=by
 refine bt Tryz.checked.mixed bp ?_;apply bb Tryz.func52 [];have az:=W0 (l:=[bg.cells 0 []]) (b:=0) s al rfl;simp[afe];cases s with
 | none=>
  simp;exact aH rfl rfl
 | some a=>
  simp at az ⊢;simp[az];have:=fun K h1 ad=>@ZI [bg.cells 0 []] 0 a K (fun i ax=>aq i ax) h1 ad
  simp at this;refine this _ ?_;simp;exact aH rfl (gC (some a))
theorem L6 {L:List U} {k:Nat} {c:U} (h:L[k]? = some c) :bn L k [c]=L:=by
 obtain⟨h1,ad⟩:=aqr.1 h;unfold bn;simp only[aqH,aq5,arD];rw[<-ad,aq4,asS,<-arm h1,aq8]
def vr (o:gL) :Prop:=lx o.dj/\o.call.bytes.l.length<=2500/\o.bytes.l.length<=2500/\o.dj.cl.l.length<=60
def oJ:kw:=⟨0#8,tP,0,false,hR,none,0⟩
def l9:gL:=⟨⟨0#8,none,vV,0#64,[]⟩,0#8,0,none,0,oJ⟩
theorem z55:([U.int .u8 0,.aX,.int .u8 0,.str [],.int .u8 0,.int .i64 0,.int .u64 0,.str [],.int .u64 0,.str [],.int .u8 0,.int .i64 0,.aX,.int .i64 0]++rep 33 (.int .u8 0)++[.int .i64 0,.bool false,.int .u8 0,.int .i64 0,.int .u64 0,.str [],.aX,.int .i64 0])=dx l9:=rfl
theorem G4:(rep 33 (U.int .u8 0)++[.int .i64 0,.bool false,.int .u8 0,.int .i64 0,.int .u64 0,.str [],.aX,.int .i64 0])=fx oJ:=rfl
theorem tq:lx oJ:=⟨rfl,fun i h=>by cases h⟩
theorem Dq:(dx l9).length=55:=KL tq
set_option maxHeartbeats 4000000 in
theorem HZ (o:gL) (aq:vr o) :bi Tryz.prog GS 54 [.aI (dx o)] (.aI (dx o)) :=by
 refine bt Tryz.checked.mixed bp ?_;apply bb Tryz.func54 [[[0],[1],[2],[4],[5],[7],[8],[9],[3,9,5],[11],[12],[6,9],[10]]]
 try simp only[nO,nP]
 have F:=jO aq.1;have h3:=nN o;rw[z55];have hc:=Dq;obtain⟨Z,h0⟩:∃ Z,Z=dx l9:=⟨_,rfl⟩
 rw[<-h0] at hc ⊢;obtain⟨L,ec⟩:∃ L,L=dx o:=⟨_,rfl⟩
 rw[<-ec] at F h3 ⊢;obtain⟨ak,_,⟨q1,ci⟩,_,_,_,_,⟨aga,sr⟩,_,⟨agd,AJ⟩,t55,_,_,oV⟩:=F;have cQ:=L6 (aqr.2 ⟨q1,ci⟩);have ahe:=L6 (aqr.2 ⟨aga,sr⟩);have ahg:=L6 (aqr.2 ⟨agd,AJ⟩);have gF:bn Z 0 L=L:=eC (by omega);simp[ak,hc,ci,sr,AJ];refine aU (Ny o.call.bytes (by have:=aq.2.1; omega)) (by simp[aV,hW]) ?_;simp[ak,sr,AJ];refine aU (Ny o.bytes (by have:=aq.2.2.1; omega)) (by simp[aV,hW]) ?_;simp[ak,AJ];refine aU (SF o.dj.cl aq.1.2 (by have:=aq.2.2.2; omega)) (by simp[aV,gC]) ?_;simp[ak,hc,cQ,ahe,ahg,gF,t55];exact aH rfl h3
theorem af4 (o:gL) (k:B) :bn (dx o) 10 [a6 k]=dx { o with at_:=k }:=rfl
def so (o:gL) (need:B) (v:Bool) :Int:=if v then (if zJ o=need then 0 else 36) else 8
theorem HD (o:gL) (need:B) (aq:lx o.dj) :bi Tryz.prog GS 49 [.aI (dx o),a6 need] (.int .i64 (so o need (oE o (jA o)))) :=by
 refine bt Tryz.checked.mixed bp ?_;apply bb Tryz.func49 [];unfold so
 try simp only[nO,nP]
 have F:=jO aq;have ao:=ai3 o aq;have aD:=ae4 o aq;have h3:=nN o;obtain⟨gc,mN⟩:∃ gc,gc=oE o (jA o) :=⟨_,rfl⟩
 rw[<-mN] at ao ⊢;obtain⟨L,ec⟩:∃ L,L=dx o:=⟨_,rfl⟩
 rw[<-ec] at F ao aD h3 ⊢;obtain⟨ak,_,_,_,_,_,_,_,_,_,t55,_,_,oV⟩:=F;have nf:aV [U.aI L]=true:=by simpa [aV] using h3
 simp[ak,t55];refine aU ao nf ?_;cases gc with
 | false=>
  simp[eh];exact aH rfl rfl
 | true=>
  simp[eh,ak,t55];refine aU aD nf ?_;by_cases h:zJ o=need
  ·simp[h];exact aH (by simp[h]) rfl
  ·simp[h];exact aH (by simp[h]) rfl
def gY (o:gL) (a:kw) :gL:={ o with at_:=4#8,dj:=a }
theorem af5 (o:gL) (a:kw) (h:lx o.dj) (ad:lx a) :bn (dx { o with at_:=4#8 }) 14 (fx a)=dx (gY o a) :=by
 have gen:∀ X Y M:List U,X.length=14->Y.length=41->M.length=41->bn (X++Y) 14 M=X++M:=fun X Y M ag aG hm=>by
  unfold bn;rw[aqT (by omega),aqs (by omega),arx (by rw[aqA]; omega),aqW]
 show bn (gi o.call++([a6 (4#8),.int .i64 o.base,bX o.bytes,.int .i64 o.m0]++fx o.dj)) 14 (fx a)=gi o.call++([a6 (4#8),.int .i64 o.base,bX o.bytes,.int .i64 o.m0]++fx a)
 rw[<-aq4,<-aq4];exact gen _ _ _ rfl (zC h) (zC ad)
set_option maxHeartbeats 4000000 in
theorem Ng (o:gL) (a:kw) (aq:vr o) (az:lx a) :bi Tryz.prog GS 51 [.aI (dx o),.aI (fx a)] (.bu [.aI (dx (gY o a)),.int .i64 0]) :=by
 refine bt Tryz.checked.mixed bp ?_;apply bb Tryz.func51 [[[0],[1],[2,0]]]
 try simp only[nO,nP]
 rw[z55];have hc:=Dq;obtain⟨Z,h0⟩:∃ Z,Z=dx l9:=⟨_,rfl⟩
 rw[<-h0] at hc ⊢;have MT:=jO aq.1;have oL:=jO (o:=gY o a) az;have Am:=KL (o:={ o with at_:=4#8 }) aq.1;have A:=wa az;have cz:=HZ o aq;have h3:=nN o;have rk:=nN (gY o a);have cQ:=af4 o 4#8;have g8:=af5 o a aq.1 az;obtain⟨M,hJ⟩:∃ M,M=fx a:=⟨_,rfl⟩
 obtain⟨Hc,eL⟩:∃ L,L=dx o:=⟨_,rfl⟩
 obtain⟨aj4,aR⟩:∃ L,L=dx { o with at_:=4#8 }:=⟨_,rfl⟩
 obtain⟨jZ,bI⟩:∃ L,L=dx (gY o a) :=⟨_,rfl⟩
 rw[<-hJ] at A g8 ⊢;rw[<-eL] at MT cz h3 cQ ⊢;rw[<-aR] at Am cQ g8;rw[<-bI] at oL g8 rk ⊢;obtain⟨c1,_,_,_,_,_,_,_,_,_,t0,_⟩:=MT;obtain⟨bZ,_,_,_,_,_,_,_,_,_,t2,_⟩:=oL;obtain⟨vh,_,_,_,_,_,_,_,xZ,xr⟩:=A;have pl:bn Hc 0 Hc=Hc:=eC rfl;have jq:bn Z 0 jZ=jZ:=eC (by omega);have YN:a6 (4#8)=.int .u8 4:=rfl;rw[YN] at cQ;simp[c1,vh,hc,t0];refine aU cz (by simpa [aV] using h3) ?_;simp[c1,vh,xZ,pl,cQ,Am,g8,bZ,t2,hc,jq];exact aH rfl (by simpa [U.closed,aV] using rk)
open eX Op
def ej (c:Call) :gL:=⟨c,1#8,0,c.bytes,-1,oJ⟩
theorem Xm (c:Call) :kW (dx l9) [(0,10,.aI (gi c)),(10,1,.int .u8 1),(12,1,bX c.bytes),(13,1,.int .i64 (-1))]=some (dx (ej c)) :=by
 have af:(bX c.bytes).cells=some [bX c.bytes] :=OV _;simp only[pP,OU,AL,af,arF,AC];rfl
set_option maxHeartbeats 4000000 in
theorem OL (c:Call) (ah:c.bytes.l.length<=2500) :bi Tryz.prog GS 28 [.aI (gi c)] (.bu [.aI (dx (if iV c then ej c else l9)),.int .i64 (eh (iV c))]) :=by
 refine bt Tryz.checked.mixed bp ?_;apply bb Tryz.func28 []
 try simp only[nO,nP]
 rw[z55];have kC:=Xm c;have QS:=jO (o:=l9) tq;have xf:=nN l9;have F:=jO (o:=ej c) tq;have w1:=nN (ej c);have cz:=OW c;have cF:=sx c;have mD:=HZ (ej c) ⟨tq,ah,ah,by show 0<=60; omega⟩;have Ez:(gi c).length=10:=rfl;have Bl:(gi c)[1]? = some (bX c.bytes) :=rfl;have IU:(gi c).take 10=gi c:=rfl;obtain⟨h1,Qw⟩:=aqr.1 Bl;clear Bl;obtain⟨iU,yZ⟩:∃ iU,iU=iV c:=⟨_,rfl⟩
 rw[<-yZ] at cz ⊢;obtain⟨Z,h0⟩:∃ Z,Z=dx l9:=⟨_,rfl⟩
 obtain⟨N,eP⟩:∃ N,N=dx (ej c) :=⟨_,rfl⟩
 rw[<-h0] at QS kC xf ⊢;rw[<-eP] at F kC w1 mD;obtain⟨C,sO⟩:∃ C,C=gi c:=⟨_,rfl⟩
 have aaj:∃ h:1<C.length,C[1]'h=bX c.bytes:=by rw[sO]; exact⟨h1,Qw⟩
 clear Qw;rw[<-sO] at kC cz cF Ez IU ⊢;obtain⟨_,ci⟩:=aaj;obtain⟨G5,_,_,_,_,_,_,_,_,_,ajQ,_⟩:=QS;obtain⟨fo,_,_,_,_,_,_,_,_,_,afm,_⟩:=F;have qk:bn Z 0 Z=Z:=eC rfl;have ql:bn Z 0 N=N:=eC (by omega);simp[Ez,G5,IU];refine aU cz (by simpa [aV] using cF) ?_;cases iU with
 | false=>
  simp[eh,Ez,G5,ajQ,qk];show Rd _ _ (.bu [.aI (dx l9),.int .i64 8]);rw[<-h0];exact aH rfl (by simpa [U.closed,aV] using xf)
 | true=>
  simp[eh,Ez,G5,ci,IU,kC,-pP];refine aU mD (by simpa [aV] using w1) ?_;simp[G5,fo,afm,ql];show Rd _ _ (.bu [.aI (dx (ej c)),.int .i64 0]);rw[<-eP];exact aH rfl (by simpa [U.closed,aV] using w1)
theorem G6:(fx oJ).length=41:=zC tq
open eX Op
def MD (a b:fA) :Bool:=eo (cn a) (cn b)
theorem VL (a:fA) :MD a a=true:=by unfold MD; rw[HK]; simp
def LY (a b:kw) :Bool:=decide (a.verdict=b.verdict)&&(decide (a.id=b.id)&&(decide (a.version=b.version)&&((a.td == b.td)&&(MD a.val b.val&&(decide (a.sub=b.sub)&&decide (a.cl.l=b.cl.l))))))
def C6 (a b:gL) :Bool:=xU a.call b.call&&(decide (a.at_=b.at_)&&(decide (a.base=b.base)&&(decide (a.bytes.l=b.bytes.l)&&(decide (a.m0=b.m0)&&LY a.dj b.dj))))
theorem ahk (a:kw) :LY a a=true:=by simp[LY,VL]
theorem ahl (c:Call) :xU c c=true:=by simp[xU,M7]
theorem aho (o:gL) :C6 o o=true:=by simp[C6,ahk,ahl]
end tR

end Go.bJ

namespace Go.bJ
open Go Go.Proofs Go.RowKit
set_option maxRecDepth 100000
namespace tR
open eX Op
theorem vN {P:Program} {t:TypeId} {ts:List TypeId} {cs:List U} (aK:P.underlying t=some .string) (h:cG P (t::ts) cs) :∃ s cs',cs=.str s::cs'/\cG P ts cs':=by
 cases h
 case str s cs' al og h=>exact⟨_,_,rfl,h⟩
 all_goals (exfalso; simp_all; done)
theorem tK {ts:List TypeId} {cs:List U} (h:cG Tryz.prog (5::ts) cs) :∃ (x:B) (cs' : List U),cs=a6 x::cs'/\cG Tryz.prog ts cs':=by
 obtain⟨k,sA,rfl,h1,ad,aj⟩:=vM (k:=.u8) (by kernel_rfl) h;have aZ:(0:Int)<=k:=h1;have bx:k<=255:=ad;refine⟨BitVec.ofNat 8 k.toNat,sA,?_,aj⟩;have:((BitVec.ofNat 8 k.toNat).toNat:Int)=k:=by
  rw[aqK,aqC (by omega)]; omega
 simp[a6,u]; omega
theorem aiO {ts:List TypeId} {cs:List U} (h:cG Tryz.prog (22::ts) cs) :∃ (s:dD) (cs' : List U),cs=bX s::cs'/\cG Tryz.prog ts cs':=by
 obtain⟨s,cs',rfl,_,_,ad⟩:=Df (e:=5) (z:=1) (enc:=bN) (Q:=fun _=>True) (by kernel_rfl) (by kernel_rfl) (fun r ay=>by
  obtain⟨x,cs',rfl,aj⟩:=tK ay;rw[Ad aj];exact⟨x,rfl,trivial⟩) h
 exact⟨s,cs',rfl,ad⟩
theorem Mr {ts:List TypeId} {cs:List U} (h:cG Tryz.prog (31::ts) cs) :∃ (x:List B) (cs' : List U),cs=x.map a6++cs'/\x.length=32/\cG Tryz.prog ts cs':=by
 have h1:=Vz (e:=5) (n:=32) (by kernel_rfl) h;exact Mq (by kernel_rfl) 32 h1
theorem Ms {ts:List TypeId} {cs:List U} (h:cG Tryz.prog (32::ts) cs) :∃ (s:eI) (cs' : List U),cs=aT s::cs'/\g7 s/\cG Tryz.prog ts cs':=by
 obtain⟨s,cs',rfl,_,h1,ad⟩:=Df (e:=31) (z:=32) (enc:=aY) (Q:=fun x=>x.length=32) (by kernel_rfl) (by kernel_rfl) (fun r ay=>by
  obtain⟨x,cs',rfl,ag,aj⟩:=Mr ay;rw[Ad aj,aqW];exact⟨x,rfl,ag⟩) h
 exact⟨s,cs',rfl,h1,ad⟩
theorem Mu {ts:List TypeId} {cs:List U} (h:cG Tryz.prog (25::ts) cs) :∃ (v:fA) (cs' : List U),cs=[a6 v.kind,.int .i64 v.num,cD v.bits,.str v.text]++cs'/\cG Tryz.prog ts cs':=by
 have h1:=tJ (fs:=[5,2,23,9]) (by kernel_rfl) h;obtain⟨k,_,rfl,ad⟩:=tK h1;obtain⟨n,_,rfl,_,_,aj⟩:=vM (k:=.i64) (by kernel_rfl) ad;obtain⟨b,_,rfl,aC⟩:=GR aj;obtain⟨s,_,rfl,aZ⟩:=vN (by kernel_rfl) aC;exact⟨⟨k,n,b,s⟩,_,rfl,aZ⟩
theorem aiM {ts:List TypeId} {cs:List U} (h:cG Tryz.prog (27::ts) cs) :∃ (a:Op.Act) (cs' : List U),cs=[a6 a.kind,.str a.key,a6 a.val.kind,.int .i64 a.val.num,cD a.val.bits,.str a.val.text]++cs'/\cG Tryz.prog ts cs':=by
 have h1:=tJ (fs:=[5,9,25]) (by kernel_rfl) h;obtain⟨k,_,rfl,ad⟩:=tK h1;obtain⟨s,_,rfl,aj⟩:=vN (by kernel_rfl) ad;obtain⟨v,_,rfl,aC⟩:=Mu aj;exact⟨⟨k,s,v⟩,_,rfl,aC⟩
end tR

end Go.bJ

namespace Go.bJ
open Go Go.Proofs
set_option maxRecDepth 100000
namespace tR
open eX Op
def ku (n:Int) (b:Bool) (v:fA) :kw:=⟨0#8,tP,n,b,v,none,0⟩
def kF (n:Int) (h:eI) :kw:=⟨0#8,tP,n,false,hR,h,0⟩
theorem zP (n:Int) (b:Bool) (v:fA) :lx (ku n b v) :=⟨rfl,fun i h=>by cases h⟩
theorem zO (n:Int) {h:eI} (aq:g7 h) :lx (kF n h) :=⟨rfl,aq⟩
theorem Xo (n:Int) (b:Bool) (v:fA) :kW (fx oJ) [(33,1,.int .i64 n),(34,1,.bool b),(35,4,.aI (cn v))]=some (fx (ku n b v)) :=by
 unfold cn;simp only[pP,OU,AL,X0,arF,AC];rfl
theorem Xl (n:Int) (h:eI) :kW (fx oJ) [(33,1,.int .i64 n),(39,1,aT h)]=some (fx (kF n h)) :=by
 have ah:(aT h).cells=some [aT h] :=by cases h<;>rfl
 simp only[pP,AL,ah,arF,AC];rfl
set_option maxHeartbeats 4000000 in
theorem aez (o:gL) (aq:vr o) (hk:o.call.kind=4#8) (s:Op.c0) (al:Aq s) (dV:tE s=0) (az:so o 1#8 (oE o (jA o))=0) (w:Int) :
  bi Tryz.prog GS 13 [.aI (dx o),.aI (mw s),.int .u32 w] (.bu [.aI (dx (gY o (kF s.dA s.cl))),.int .i64 0]) :=by
 refine bt Tryz.checked.mixed bp ?_;apply bb Tryz.func13 [[[0],[1],[2],[3],[4],[5,2,0]],[[0],[1],[2],[4],[3,1],[5,1]]]
 try simp only[nO,nP]
 rw[z55,G4];have F:=jO aq.1;have oL:=jO (o:=gY o (kF s.dA s.cl)) (zO _ al.cl);have hc:=Dq;have fO:=G6;have has:=HD o 1#8 aq.1;have cz:=MG s al;have h3:=nN o;have rk:=nN (gY o (kF s.dA s.cl));have b4:=AV s;have er:=gC s.cl;have mD:=SF s.cl al.cl (by have:=al.Te; omega);have sQ:=Ng o (kF s.dA s.cl) aq (zO _ al.cl);have af:=Xl s.dA s.cl;have A:=wa (a:=kF s.dA s.cl) (zO _ al.cl);rw[az] at has;rw[dV] at cz;obtain⟨Z,h0⟩:∃ Z,Z=dx l9:=⟨_,rfl⟩
 obtain⟨yj,wG⟩:∃ Z,Z=fx oJ:=⟨_,rfl⟩
 obtain⟨M,hJ⟩:∃ M,M=fx (kF s.dA s.cl) :=⟨_,rfl⟩
 obtain⟨L,eL⟩:∃ L,L=dx o:=⟨_,rfl⟩
 obtain⟨jZ,bI⟩:∃ L,L=dx (gY o (kF s.dA s.cl)) :=⟨_,rfl⟩
 rw[<-h0] at hc ⊢;rw[<-wG] at fO af ⊢;rw[<-hJ] at A af sQ;rw[<-eL] at F has h3 sQ ⊢;rw[<-bI] at oL rk sQ ⊢;obtain⟨c1,gB,_,_,_,_,_,_,_,_,t0,_⟩:=F;obtain⟨bZ,_,_,_,_,_,_,_,_,_,t2,_⟩:=oL;obtain⟨vh,_,_,_,_,_,_,_,xZ,xr⟩:=A;have jq:bn Z 0 jZ=jZ:=eC (by omega);have nf:aV [U.aI L,a6 1#8]=true:=by simpa [aV,U.closed] using h3
 obtain⟨_,gB⟩:=gB;rw[hk] at gB;unfold mw at cz b4 ⊢;have J0:aV [U.aI [U.int .i64 s.dA,ha s.set,gj s.jt,aT s.cl]]=true:=by simpa [aV,U.closed] using b4
 simp[c1,hc,t0];refine aU has nf ?_;simp;refine aU cz J0 ?_;have ada:(u (4#8:B) :Int)=4:=rfl;simp[c1,gB,t0,ada];refine aU mD (by simp[aV,er]) ?_;simp[af,c1,t0,-pP];refine aU sQ (by simp[aV,U.closed] at h3 xr ⊢; exact⟨h3,xr⟩) ?_;simp[hc,bZ,t2,jq];exact aH rfl (by simpa [U.closed,aV] using rk)
set_option maxHeartbeats 4000000 in
theorem aeA (o:gL) (aq:vr o) (hk:o.call.kind=3#8) (s:Op.c0) (al:Aq s) (dV:tE s=0) (az:so o 1#8 (oE o (jA o))=0) (w:Int) :
  bi Tryz.prog GS 13 [.aI (dx o),.aI (mw s),.int .u32 w] (.bu [.aI (dx (gY o (ku s.dA (ow s o.call.key).1 (ow s o.call.key).2.1))),.int .i64 0]) :=by
 refine bt Tryz.checked.mixed bp ?_;apply bb Tryz.func13 [[[0],[1],[2],[3],[4],[5,2,0]],[[0],[1],[2],[4],[3,1],[5,1]]]
 try simp only[nO,nP]
 rw[z55,G4];have iF:=VS s al o.call.key;obtain⟨b,bO⟩:∃ b,b=(ow s o.call.key).1:=⟨_,rfl⟩
 obtain⟨v,zp⟩:∃ v,v=(ow s o.call.key).2.1:=⟨_,rfl⟩
 obtain⟨e,abl⟩:∃ e,e=(ow s o.call.key).2.2:=⟨_,rfl⟩
 rw[<-bO,<-zp];rw[<-bO,<-zp,<-abl] at iF;have F:=jO aq.1;have oL:=jO (o:=gY o (ku s.dA b v)) (zP _ _ _);have hc:=Dq;have fO:=G6;have has:=HD o 1#8 aq.1;have cz:=MG s al;have h3:=nN o;have rk:=nN (gY o (ku s.dA b v));have b4:=AV s;have sQ:=Ng o (ku s.dA b v) aq (zP _ _ _);have af:=Xo s.dA b v;have A:=wa (a:=ku s.dA b v) (zP _ _ _);rw[az] at has;rw[dV] at cz;obtain⟨Z,h0⟩:∃ Z,Z=dx l9:=⟨_,rfl⟩
 obtain⟨yj,wG⟩:∃ Z,Z=fx oJ:=⟨_,rfl⟩
 obtain⟨M,hJ⟩:∃ M,M=fx (ku s.dA b v) :=⟨_,rfl⟩
 obtain⟨L,eL⟩:∃ L,L=dx o:=⟨_,rfl⟩
 obtain⟨jZ,bI⟩:∃ L,L=dx (gY o (ku s.dA b v)) :=⟨_,rfl⟩
 rw[<-h0] at hc ⊢;rw[<-wG] at fO af ⊢;rw[<-hJ] at A af sQ;rw[<-eL] at F has h3 sQ ⊢;rw[<-bI] at oL rk sQ ⊢;obtain⟨c1,gB,_,_,_,_,_,_,_,_,t0,_⟩:=F;obtain⟨bZ,_,_,_,_,_,_,_,_,_,t2,_⟩:=oL;obtain⟨vh,_,_,_,_,_,_,_,xZ,xr⟩:=A;have jq:bn Z 0 jZ=jZ:=eC (by omega);have nf:aV [U.aI L,a6 1#8]=true:=by simpa [aV,U.closed] using h3
 obtain⟨_,gB⟩:=gB;rw[hk] at gB;unfold mw at cz b4 iF ⊢;unfold cn at iF af;have J0:aV [U.aI [U.int .i64 s.dA,ha s.set,gj s.jt,aT s.cl]]=true:=by simpa [aV,U.closed] using b4
 have ac0:aV [U.aI [U.int .i64 s.dA,ha s.set,gj s.jt,aT s.cl],.str o.call.key]=true:=by simpa [aV,U.closed] using b4
 have yq:∃ h:9<L.length,L[9]'h=.str o.call.key:=by rw[eL]; exact mi rfl
 obtain⟨_,yq⟩:=yq;simp[c1,hc,t0];refine aU has nf ?_;simp;refine aU cz J0 ?_;have ac9:(u (3#8:B) :Int)=3:=rfl;simp[c1,gB,t0,yq,ac9];refine aU iF ac0 ?_;simp[c1,t0,bn,af,-pP];refine aU sQ (by simp[aV,U.closed] at h3 xr ⊢; exact⟨h3,xr⟩) ?_;simp[hc,bZ,t2,jq];exact aH rfl (by simpa [U.closed,aV] using rk)
set_option maxHeartbeats 4000000 in
theorem UL (o:gL) (aq:vr o) (az:so o 6#8 (oE o (jA o))=0) :bi Tryz.prog GS 19 [.aI (dx o)] (.bu [.aI (fx o.dj),.int .i64 0]) :=by
 refine bt Tryz.checked.mixed bp ?_;apply bb Tryz.func19 []
 try simp only[nO,nP]
 rw[G4];have F:=jO aq.1;have fO:=G6;have has:=HD o 6#8 aq.1;have h3:=nN o;have mD:=HZ o aq;have A:=wa aq.1;have yY:=H0 o.dj;have zi:(dx o).drop 14=fx o.dj:=rfl;rw[az] at has;obtain⟨yj,wG⟩:∃ Z,Z=fx oJ:=⟨_,rfl⟩
 obtain⟨M,hJ⟩:∃ M,M=fx o.dj:=⟨_,rfl⟩
 obtain⟨L,eL⟩:∃ L,L=dx o:=⟨_,rfl⟩
 rw[<-wG] at fO ⊢;rw[<-hJ] at A yY zi ⊢;rw[<-eL] at F has h3 mD zi ⊢;obtain⟨c1,_,_,_,_,_,_,_,_,_,t0,_⟩:=F;obtain⟨vh,_,_,_,_,_,_,_,xZ,xr⟩:=A;have jq:bn yj 0 M=M:=eC (by omega);have nf:aV [U.aI L,a6 6#8]=true:=by simpa [aV,U.closed] using h3
 simp[c1,fO,t0];refine aU has nf ?_;simp[c1,t0];refine aU mD (by simpa [aV] using h3) ?_;simp[c1,zi,vh,xZ,fO,jq];exact aH rfl (by simpa [U.closed,aV] using yY)
end tR

end Go.bJ

namespace Go.bJ
open Go Go.Proofs
set_option maxRecDepth 100000
namespace Op
open eX
def jN (g:bM) :Nat->List (List B)
 | 0=>[]
 | k+1=>jN g k++(mS g.ops.l k).bo.l
theorem K4 {g:bM} {x:List B}:∀ {k:Nat},x∈jN g k<->∃ j,j<k/\x∈(mS g.ops.l j).bo.l
 | 0=>⟨fun h=>(by cases h),fun ⟨j,ai,_⟩=>by omega⟩
 | k+1=>by
  show x∈jN g k++_<->_;rw[arz,K4];constructor
  ·rintro (⟨j,h1,ad⟩ | h)
   ·exact⟨j,by omega,ad⟩
   ·exact⟨k,by omega,h⟩
  ·rintro⟨j,h1,ad⟩;by_cases e:j=k
   ·subst e; exact .inr ad
   ·exact .inl ⟨j,by omega,ad⟩
theorem T8 {g:bM} (V:pJ g) {k:Nat} {o:bA} (aq:g.ops.l[k]? = some o) :o.bo.l.length<=4:=by
 obtain⟨x,ag,_⟩:=bW (l:=g.ids.l) (k:=k) (by rw[V.len]; exact (aqr.1 aq).1);exact xC (Dj (V.ID k o x aq ag).1)
theorem K3 {g:bM} (V:pJ g) :∀ {k:Nat},k<=g.ops.l.length->(jN g k).length<=4*k
 | 0,_=>by simp[jN]
 | k+1,hk=>by
  obtain⟨o,aq,_⟩:=bW (l:=g.ops.l) (k:=k) (by omega);have:=K3 V (k:=k) (by omega);have aC:=T8 V aq;show (jN g k++(mS g.ops.l k).bo.l).length<=_;rw[aqA,xB aq]; omega
theorem afh {g:bM} (au:hS g) {k:Nat} (hk:k<=g.ops.l.length) :g7 (i8 (jN g k)) :=fun x ag=>by
 rw[kv,K4] at ag;obtain⟨j,ai,ag⟩:=ag;obtain⟨o,aq,ef⟩:=bW (l:=g.ops.l) (k:=j) (by omega);rw[xB aq] at ag;exact (au.ops o ef).ids x ag
structure WD (g:bM) (k:Nat) (ae:a2) (l:am) :Prop where
 aF:ae 1=.ptr 0 0 2
 bd:ae 4=.aX
 bh:ae 5=.int .i64 k
 fB:∃ v j rest,l=.cells 2 [aT g.ids,b1 g.ops] ::rest/\ae 3=v/\bG 32 l v j ((jN g k).map aY)/\(v=.aX\/1<=j)/\cq v=(jN g k).isEmpty
structure WE (g:bM) (w:U) (i3:Nat) (k:Nat) (ae:a2) (l:am) :Prop where
 aF:ae 1=.ptr 0 0 2
 aW:ae 3=w
 cc:ae 6=.int .i64 k
 fB:∃ v j rest,l=.cells 2 [aT g.ids,b1 g.ops] ::rest/\ae 4=v/\bG 32 l v j (((g.ids.l.take k).filter (lb g)).map aY)/\(v=.aX\/1<=j)/\cq v=((g.ids.l.take k).filter (lb g)).isEmpty/\bG 32 l w i3 ((jN g g.ops.l.length).map aY)/\(v=.aX\/w=.aX\/j≠i3)
set_option maxHeartbeats 8000000 in
theorem agB (g:bM) (au:hS g) (aE:fv g=0) :bi Tryz.prog GS 86 [c3 g] (aT (i8 (la g))) :=by
 refine bt Tryz.checked.mixed bp ?_;apply bb Tryz.func86 [];have ay:cx=140737488355328:=rfl;have V:=tt aE;have aci:=V.n60;have kg:=V.len;have dL:cL (.ar 11) (b1 g.ops)=some (.int .i64 g.ops.l.length) :=by simp[b1]
 have hz:cL (.ar 32) (aT g.ids)=some (.int .i64 g.ids.l.length) :=by simp[aT]
 simp[c3,dB];refine cE g.ops.l.length (WD g) ?_ ⟨by simp,by simp,by simp,.aX,0,[],rfl,by simp,.nil 0,.inl rfl,rfl⟩;rintro k ae l hk ⟨aF,bd,bh,v,j,rest,rfl,aW,iE,ai,hd⟩;obtain⟨ae,rfl⟩:=iq aF aW bd bh;clear aF aW bd bh;have aR:IntKind.i64.wrap ((k:Int)+1)=((k+1:Nat) :Int) :=by rw[IntKind.wrap_i64]; omega
 by_cases cI:k<g.ops.l.length
 ·obtain⟨o,aq,ef⟩:=bW cI;have uT:=au.ops o ef;have cg:cv (.ar 11) (b1 g.ops) (.int .i64 (k:Int))=some (.b5 (bj o) 0) :=by simp[b1,aq]
  have ds:(bj o).length=11:=rfl;have k5:∀ h,(bj o)[1]'h=aT o.bo:=fun _=>rfl
  have lh:=K3 V hk;have aC:=T8 V aq;have b4:jN g (k+1)=jN g k++o.bo.l:=by show jN g k++(mS g.ops.l k).bo.l=_; rw[xB aq]
  obtain⟨a8,cP,cC,a7,bl,a3,a4⟩:=yk (by_:=32) (pre:=[.cells 2 [aT g.ids,b1 g.ops]]) (rest:=rest) iE ai (x:=aT o.bo) (xs:=o.bo.l.map aY)
   (by simp[aT]) (fun e ap=>by obtain⟨y,aG,rfl⟩:=aqR.1 ap; exact dk (uT.ids y aG)) (by omega) (by omega) (by rw[ay]; simp; omega)
  simp only[arw,aru] at a7;obtain⟨O,fh⟩:∃ O,O=bj o:=⟨_,rfl⟩
  rw[<-fh] at cg ds;simp only[<-fh] at k5;simp[dL,cI,cg,ds,k5,a7];refine dq.cr ?_;simp[aR];refine⟨cI,by simp,by simp,by simp,a8,cP,cC,rfl,by simp,?_,by simpa using a3,?_⟩
  ·rw[b4,aqV]; exact bl
  ·rw[a4,hd,b4];cases jN g k<;>cases o.bo.l<;>simp
 ·have gv:k=g.ops.l.length:=by omega
  subst gv;clear hk cI aR;simp[dL];refine cE g.ids.l.length (WE g v j) ?_ ⟨by simp,by simp,by simp,.aX,0,rest,rfl,by simp,.nil 0,.inl rfl,rfl,iE,.inl rfl⟩;rintro k ae l hk ⟨aF,aW,cc,ff,u6,UK,rfl,bd,Fl,y6,JF,BZ,bY⟩;obtain⟨ae,rfl⟩:=iq aF aW bd cc;clear aF aW bd cc;have aR:IntKind.i64.wrap ((k:Int)+1)=((k+1:Nat) :Int) :=by rw[IntKind.wrap_i64]; omega
  by_cases cI:k<g.ids.l.length
  ·obtain⟨x,ag,dm⟩:=bW cI;have qo:=au.ids x dm;have bB:=dk qo;have np:=hX x;have cg:cv (.ar 32) (aT g.ids) (.int .i64 (k:Int))=some (.b5 (aY x) 0) :=by simp[aT,ag]
   have lh:=K3 V (aqv g.ops.l.length);have fi:=Um (i8 (jN g g.ops.l.length)) (afh au (aqv _)) (by rw[kv]; omega) x qo;rw[kv] at fi;have iF:=BZ.q.mT hX (i8 (jN g g.ops.l.length)) (by rw[xX]; exact hd) (kv _);have lR:=xh x (jN g g.ops.l.length) 0;have b4:g.ids.l.take (k+1)=g.ids.l.take k++[x] :=by rw[aqN,ag]; rfl
   have BI:lb g x=true<->x∉jN g g.ops.l.length:=by
    unfold lb uy;rw[decide_eq_true_eq,K4];exact⟨fun h ⟨j,ai,ag⟩=>h j ai ag,fun h j ai ag=>h ⟨j,ai,ag⟩⟩
   obtain⟨fR,fm⟩:∃ fR,fR=kj x (jN g g.ops.l.length) 0:=⟨_,rfl⟩
   obtain⟨X,dy⟩:∃ X,X=aY x:=⟨_,rfl⟩
   rw[<-fm] at fi lR;rw[<-dy] at fi cg bB np;have QQ:X.take 32=X:=aqs (by omega);have mL:bn (rep 32 (.int .u8 0)) 0 X=X:=eC (by rw[bB]; rfl);simp[hz,cI,cg,bB,QQ];refine il fi (.cons iF (.cons (.same _ (by simp[U.closed,np])) .nil)) rfl ?_;by_cases hm:x∈jN g g.ops.l.length
   ·have aL:¬ fR<0:=by have:=lR.2 hm; omega
    have aA:lb g x=false:=by
     cases h:lb g x with
     | false=>rfl
     | true=>exact absurd hm (BI.1 h)
    have fj:(g.ids.l.take (k+1)).filter (lb g)=(g.ids.l.take k).filter (lb g) :=by rw[b4,asI]; simp[aA]
    simp[aL,aR];exact⟨cI,by simp,by simp,by simp,ff,u6,UK,rfl,by simp,by rw[fj]; exact Fl,y6,by rw[fj]; exact JF,BZ,bY⟩
   ·have aL:fR<0:=by
     have:¬ 0<=fR:=fun h=>hm (lR.1 h)
     omega
    have aA:=BI.2 hm;have fj:(g.ids.l.take (k+1)).filter (lb g)=(g.ids.l.take k).filter (lb g)++[x] :=by rw[b4,asI]; simp[aA]
    have eu:((g.ids.l.take k).filter (lb g)).length<=1000000:=ar8 (asw _ _) (by rw[aqM]; omega);obtain⟨a8,cP,l',a7,bl,a3,a4,a5,Hs⟩:=Hz (by_:=32) (x:=.ar 32 (UK.length+1) 0 1 1 32) (xs:=[X]) (Fl.more [bg.cells 32 X]) (by simp[c8,bB,aqs]) (by simp[bB]) (by omega) (by omega) (by rw[ay]; simp; omega);have ih:cq a8=false:=by rw[Hs]; simp
    have zo:a8≠.aX:=fun e=>by rw[e] at ih; cases ih
    have f0:l'[0]? = some (.cells 2 [aT g.ids,b1 g.ops]) :=by
     rw[a4 0 (by simp) (by rcases y6 with e | e; exact .inl e; exact .inr (by omega))]; rfl
    obtain⟨cC,rfl⟩:∃ cC,l'=.cells 2 [aT g.ids,b1 g.ops] ::cC:=by
     cases l' with
     | nil=>simp at f0
     | cons c r=>simp at f0; subst f0; exact⟨r,rfl⟩
    have tW:=a7;simp at tW;simp[aL,cg,bB,QQ,mL,tW];refine dq.cr ?_;simp[aR];refine⟨cI,by simp,by simp,by simp,a8,cP,cC,rfl,by simp,?_,?_,by rw[fj,ih]; simp,?_,?_⟩
    ·rw[fj,aqV,aqP,asY,<-dy]; exact bl
    ·right;rcases a5 with e | ⟨aR,bI⟩ | e
     ·simp at e; omega
     ·rw[bI]; exact y6.resolve_left aR
     ·exact absurd e zo
    ·refine BZ.wu ?_;rcases BZ.lt with e | e
     ·exact .inl e
     ·by_cases hw:v=.aX
      ·exact .inl hw
      ·right;rw[a4 j (by simp at e ⊢; omega) (by rcases bY with q | q | q; exact .inl q; exact absurd q hw; exact .inr fun e=>q e.symm)];exact aqt e
    ·by_cases hw:v=.aX
     ·exact .inr (.inl hw)
     ·refine .inr (.inr fun e=>?_);have ad:=BZ.lt.resolve_left hw;rcases a5 with q | ⟨q1,fZ⟩ | q
      ·simp at q ad; omega
      ·rcases bY with p | p | p
       ·exact q1 p
       ·exact hw p
       ·exact p (by omega)
      ·exact zo q
  ·have gv:k=g.ids.l.length:=by omega
   rw[gv,aq0] at Fl JF;simp[hz,cI];exact Fl.q.xO hX (i8 (la g)) (by rw[JF,xX]; rfl) (kv _)
theorem agj (g:bM) (au:hS g) :bi Tryz.prog GS 42 [c3 g] (.bu [aT (jV g),.int .i64 (fv g)]) :=by
 refine bt Tryz.checked.mixed bp ?_;apply bb Tryz.func42 [];have er:=gC g.ids;have c7:=mr g.ops;have cz:=Up g au;unfold c3 dB at cz;unfold jV;simp[c3,dB];refine aU cz (by simp[aV,U.closed,er,c7]) ?_;by_cases aE:fv g=0
 ·have aP:=agB g au aE;unfold c3 dB at aP;simp[aE];refine aU aP (by simp[aV,U.closed,er,c7]) ?_;simp;have ah:=gC (i8 (la g));exact aH (by rw[aE,if_pos rfl]) (by rw[aE,if_pos rfl]; simp[U.closed,aV,ah])
 ·simp[aE];exact aH rfl rfl
theorem TM (ids:List (List B)) (ops:List bA) :∀ k,(ev ids ops k).length<=k
 | 0=>aqv _
 | k+1=>by
  have aJ:=TM ids ops k;cases h:iO ids ops (ev ids ops k) with
  | none=>rw[xE h]; omega
  | some i=>rw[xF h,aqA]; simp; omega
theorem Lb (ids:List (List B)) (ops:List bA) :∀ k,∀ j∈ev ids ops (k+1),∀ p∈dX ops j,p∈(ev ids ops k).map (bU ids)
 | 0,j,ai,p,aB=>by
  cases h:iO ids ops (ev ids ops 0) with
  | none=>rw[xE h] at ai; cases ai
  | some i=>
   rw[xF h] at ai;have:j=i:=by simpa [ev] using ai
   subst this;exact (F4 h).2.2 p aB
 | k+1,j,ai,p,aB=>by
  have zi:∀ q,q∈(ev ids ops k).map (bU ids)->q∈(ev ids ops (k+1)).map (bU ids) :=fun q bm=>by
   cases h:iO ids ops (ev ids ops k) with
   | none=>rw[xE h]; exact bm
   | some i=>rw[xF h,aqV]; exact List.mem_append_left _ bm
  cases h:iO ids ops (ev ids ops (k+1)) with
  | none=>
   rw[xE h] at ai;exact zi p (Lb ids ops k j ai p aB)
  | some i=>
   rw[xF h] at ai;rcases arz.1 ai with ai | ai
   ·exact zi p (Lb ids ops k j ai p aB)
   ·rw[aq6] at ai;subst ai;exact (F4 h).2.2 p aB
theorem aa8 {g:bM} (aE:fv g=0) (aD:0<g.ops.l.length) :0<(la g).length:=by
 have V:=tt aE;have ai:=u4 V.eB;have bc:=(Ld V.len ai).2 V.all;obtain⟨m,hm⟩:∃ m,g.ops.l.length=m+1:=⟨g.ops.l.length - 1,by omega⟩
 unfold qG at bc;rw[hm] at bc;have eu:=TM g.ids.l g.ops.l m;cases ag:iO g.ids.l g.ops.l (ev g.ids.l g.ops.l m) with
 | none=>rw[xE ag] at bc; omega
 | some i=>
  obtain⟨a7,bl,a3⟩:=F4 ag;obtain⟨kq,pn,qE⟩:=xD g.ids.l g.ops.l V.len ai (m+1);have eT:∀ j,j<g.ops.l.length->j∈ev g.ids.l g.ops.l (m+1) :=K5 kq (by omega) fun j ai=>(qE j ai).1
  obtain⟨x,ta,dm⟩:=bW (l:=g.ids.l) (k:=i) (by have:=V.len; omega);have kI:x∈la g:=by
   unfold la lb uy;rw[asl,decide_eq_true_eq];refine⟨dm,fun j eN aB=>?_⟩;obtain⟨o,aq,_⟩:=bW eN;rw[xB aq] at aB;have:=Lb g.ids.l g.ops.l m j (eT j eN) x (by rw[xJ aq]; exact aB);obtain⟨t,aP,iG⟩:=aqR.1 this;have jG:t<g.ids.l.length:=by
    have:=((xD g.ids.l g.ops.l V.len ai m).2.2 t aP).1;have:=V.len; omega
   obtain⟨y,aG,_⟩:=bW jG;rw[gG aG] at iG;subst iG;exact bl (by rw[ai i t y ta aG]; exact aP)
  exact List.length_pos_of_mem kI
theorem ZC {g:bM} (au:hS g) (aE:fv g=0) :Aq (ei g)/\tE (ei g)=0:=by
 have V:=tt aE;have h1:=afy au;have ad:=Lq au V (aqv _);have aD:=V.n60;have ak:=V.len;have eL:(lw g).l=kP (hF g g.ops.l.length) :=by unfold lw; rw[if_pos aE,Mf]
 have aR:(lv g).l=jR g g.ops.l.length:=by unfold lv; rw[if_pos aE,kv]
 have bI:(jV g).l=la g:=by unfold jV; rw[if_pos aE,kv]
 have amw:(la g).length<=g.ids.l.length:=asw _ _;have aA:ei g=⟨g.ops.l.length,lw g,lv g,jV g⟩:=by unfold ei; rw[if_pos aE]
 rw[aA];refine⟨⟨h1.1,by show l0 (lv g).l; rw[aR]; exact ad.2.1,fun z av=>au.ids z ?_,by have:=h1.2; show (lw g).l.length<=_; omega,by show (lv g).l.length<=_; rw[aR]; have:=ad.2.2; omega,by show (jV g).l.length<=_; rw[bI]; omega⟩,?_⟩
 ·have uZ:z∈(jV g).l:=av;rw[bI] at uZ; exact (asl.1 uZ).1
 ·have aF:wx (lw g).l=true:=by
   rw[eL,ZW];refine⟨fun t aP=>?_,ahT (Na V (aqv _))⟩;rw[U5] at aP;obtain⟨k,o,x,_,dw,_,kA,_,DF⟩:=Hv.1 aP;rw[DF]; exact ad7 V dw kA
  have aQ:py (lw g).l=0:=by
   unfold py;rw[if_neg (by have:=h1.2; omega),if_pos aF]
  have aW:ox (lv g).l=0:=by
   unfold ox;rw[aR,if_neg (by have:=ad.2.2; omega),if_pos ad.1]
  have bd:eB (la g)=true:=by
   refine LG fun k hk h1=>?_
   have al:(la g).Pairwise fun a b=>cd a b<0:=by
    refine List.Pairwise.sublist (l₂:=g.ids.l) List.filter_sublist (ars.2 fun i j ax ai hx=>?_);exact xQ V.eB hx (aqu ax) (aqu ai)
   have ly:=aqu hk;have qH:=aqu (l:=la g) (i:=k - 1) (by omega);rw[gG ly,gG qH];exact (ars.1 al) (k - 1) k (by omega) hk (by omega)
  have bh:yP ⟨g.ops.l.length,lw g,lv g,jV g⟩=true:=by
   unfold yP;simp only[bI];have a7:(0:Int)<=(g.ops.l.length:Int) :=by omega
   have bl:(g.ops.l.length:Int)<=60:=by omega
   have a3:((la g).length:Int)<=(g.ops.l.length:Int) :=by omega
   rw[decide_eq_true a7,decide_eq_true bl,decide_eq_true a3];by_cases av:g.ops.l.length=0
   ·have:¬ (0:Int)<(g.ops.l.length:Int) :=by omega
    simp[this];exact .inr (arf.1 av)
   ·have:=aa8 aE (by omega);have bY:¬ (la g).length=0:=by omega
    have ack:la g≠[] :=fun e=>bY (by rw[e]; rfl)
    simp[ack]
  unfold tE IG;rw[bh];show eh (true&&(decide (py (lw g).l=0)&&(decide (ox (lv g).l=0)&&eB (jV g).l)))=0;rw[aQ,aW,bI,bd]; rfl
end Op

end Go.bJ

namespace Go.bJ
open Go Go.Proofs
set_option maxRecDepth 100000
namespace tR
open eX Op
theorem ahj (a b:eI) (az:g7 a) (af:g7 b) (ak:a.l.length<=1000000) :bi Tryz.prog GS 43 [aT a,aT b] (.bool (decide (a.l=b.l))) :=by
 refine bt Tryz.checked.mixed bp ?_;apply bb Tryz.func43 [];simp[aT];by_cases h1:a.l.length=b.l.length
 ·have dK:((a.l.length:Int)=b.l.length) :=by omega
  simp[h1];refine cE a.l.length (fun k ae l=>ae 0=cy 32 aY a/\ae 1=cy 32 aY b/\ae 5=.int .i64 k/\∀ j,j<k->a.l[j]? = b.l[j]?) ?_ (by simp[aT]);rintro k ae l hk ⟨b9,aF,bh,al⟩;obtain⟨s,rfl⟩:=lB b9 aF bh;clear b9 aF bh;simp;refine lY (fun h=>?_) (fun h=>?_)
  ·simp only[decide_eq_true_eq] at h;obtain⟨x,ag,dm⟩:=bW h;obtain⟨y,aG,dg⟩:=bW (l:=b.l) (k:=k) (by omega);have aR:IntKind.i64.wrap ((k:Int)+1)=((k+1:Nat) :Int) :=by rw[IntKind.wrap_i64]; omega
   simp[ag,aG,dk (az x dm),dk (af y dg),aqs,FE (az x dm) (af y dg)];by_cases ap:x=y
   ·simp[ap,aR];refine⟨by omega,fun j ai=>?_⟩;by_cases h5:j=k
    ·subst h5; rw[ag,aG,ap]
    ·exact al j (by omega)
   ·simp[ap];refine aH (congrArg U.bool (decide_eq_false fun h2=>ap ?_).symm) rfl;rw[h2,aG] at ag; exact (Option.some.inj ag).symm
  ·simp[h];have lP:k=a.l.length:=by simp at h; omega
   refine aH (congrArg U.bool (decide_eq_true ?_).symm) rfl;apply arp;intro j;by_cases ai:j<a.l.length
   ·exact al j (by omega)
   ·rw[aqJ (by omega),aqJ (by omega)]
 ·have dK:¬ ((a.l.length:Int)=b.l.length) :=by omega
  simp[h1,dK];exact aH (by rw[decide_eq_false (fun h2=>h1 (by rw[h2]))]) rfl
def m2:Call:=⟨4#8,none,vV,0#64,[]⟩
def ml (key:List UInt8) :Call:=⟨3#8,none,vV,0#64,key⟩
theorem HX:iV m2=true:=by decide
theorem Xk:kW [U.int .u8 0,.aX,.int .u8 0,.str [],.int .u8 0,.int .i64 0,.int .u64 0,.str [],.int .u64 0,.str []] [(0,1,.int .u8 4)]=some (gi m2) :=by
 simp only[pP,AL,arF,AC];rfl
theorem Xn (key:List UInt8) :kW [U.int .u8 0,.aX,.int .u8 0,.str [],.int .u8 0,.int .i64 0,.int .u64 0,.str [],.int .u64 0,.str []] [(0,1,.int .u8 3),(9,1,.str key)]=some (gi (ml key)) :=by
 simp only[pP,AL,X1,arF,AC];rfl
theorem TC (c:Call) (h:c.bytes.l.length<=2500) :vr (ej c) :=⟨tq,h,h,by show 0<=60; omega⟩
theorem afj:xx oJ=true:=by decide
theorem Nv {c:Call} (h:iV c=true) (hk:c.kind=3#8\/c.kind=4#8) :so (ej c) 1#8 (oE (ej c) (jA (ej c)))=0:=by
 have aA:jA (ej c)=true:=by unfold jA ej; simp
 have ao:oE (ej c) (jA (ej c))=true:=by
  unfold oE xG;rw[aA,show (ej c).call=c from rfl,h,show (ej c).at_=1#8 from rfl,show (ej c).dj=oJ from rfl,afj];simp
 unfold so;rw[ao];have aD:zJ (ej c)=1#8:=by
  unfold zJ Iq;rw[show (ej c).call=c from rfl,show (ej c).at_=1#8 from rfl];rcases hk with hk | hk<;>rw[hk]<;>decide
 rw[aD]; rfl
theorem Nw {c:Call} (h:iV c=true) (a:kw) :so (gY (ej c) a) 6#8 (oE (gY (ej c) a) (jA (gY (ej c) a)))=0:=by
 have aA:jA (gY (ej c) a)=true:=by unfold jA gY ej; simp
 have ao:oE (gY (ej c) a) (jA (gY (ej c) a))=true:=by
  unfold oE xG;rw[aA,show (gY (ej c) a).call=c from rfl,h,show (gY (ej c) a).at_=4#8 from rfl];simp
 unfold so;rw[ao];rfl
set_option maxHeartbeats 16000000 in
theorem XK (fO:bi Tryz.prog GS 25 [] (.bool true)) (g:bM) (aiu:Hp g) (key:List UInt8) :
  c2 Tryz.prog GS 7 [c3 g,.str key] [] (c:=⟨fun r _=>r=.bool true⟩) :=by
 apply bb Tryz.func7 []
 try simp only[nO,nP]
 rw[z55,G4];have er:=gC g.ids;have c7:=mr g.ops;have ww:=agn g;have dL:cL (.ar 11) (b1 g.ops)=some (.int .i64 g.ops.l.length) :=by simp[b1]
 have hc:=Dq;have Jb:=G6;have Q0:=Xk;have Q1:=Xn key;obtain⟨Z,h0⟩:∃ Z,Z=dx l9:=⟨_,rfl⟩
 obtain⟨yj,wG⟩:∃ Z,Z=fx oJ:=⟨_,rfl⟩
 rw[<-h0] at hc ⊢;rw[<-wG] at Jb ⊢;unfold c3 dB at ww;simp[c3,dB];refine aU fO rfl ?_;simp;refine aU ww (by simp[aV,U.closed,er,c7]) ?_;cases aj:uB g with
 | true=>simp
 | false=>
  have F9:=afz aiu aj;have cz:=Up g F9;unfold c3 dB at cz;simp;refine aU cz (by simp[aV,U.closed,er,c7]) ?_;by_cases aE:fv g=0
  ·by_cases aC:40<g.ops.l.length
   ·have pY:(40:Int)<(g.ops.l.length:Int) :=by omega
    simp[aE,dL,aC,pY]
   ·have pY:¬ (40:Int)<(g.ops.l.length:Int) :=by omega
    by_cases aZ:100<key.length
    ·have IJ:(100:Int)<(key.length:Int) :=by omega
     simp[aE,dL,aC,pY,aZ,IJ]
    ·have IJ:¬ (100:Int)<(key.length:Int) :=by omega
     obtain⟨os,dV⟩:=ZC F9 aE;have cT:=aji g F9;have nd:=agj g F9;rw[aE] at cT nd;have Ss:(ei g).dA=(g.ops.l.length:Int) :=by unfold ei; rw[if_pos aE]
     have BI:(ei g).cl=jV g:=by unfold ei; rw[if_pos aE]
     have BV:=os.cl;have yT:=VS (ei g) os key;have aay:(ow (ei g) key).2.2=0:=by unfold ow; rw[if_pos dV]
     rw[aay] at yT;have rf:=OL m2 (by show 0<=2500; omega);rw[HX] at rf;have wA:=aez (ej m2) (TC _ (by show 0<=2500; omega)) rfl (ei g) os dV (Nv HX (.inr rfl)) 1;have aft:vr (gY (ej m2) (kF (ei g).dA (ei g).cl)) :=⟨zO _ BV,by show 0<=2500; omega,by show 0<=2500; omega,by
      show (ei g).cl.l.length<=60;rw[BI]; unfold jV; rw[if_pos aE,kv];have:=asw (lb g) g.ids.l;have:=(tt aE).len;have:=(tt aE).n60;unfold la; omega⟩
     have Bo:=UL _ aft (Nw HX _);have jC:=ahj (ei g).cl (ei g).cl BV BV os.Te;rw[decide_eq_true rfl] at jC;have QE:=OL (ml key) (by show 0<=2500; omega);have Am:=jO (o:=ej m2) tq;have oL:=jO (o:=gY (ej m2) (kF (ei g).dA (ei g).cl)) (zO _ BV);have G9:=wa (a:=kF (ei g).dA (ei g).cl) (zO _ BV);have aam:(if (true:Bool)=true then ej m2 else l9)=ej m2:=rfl;rw[aam] at rf;have Z7:(gY (ej m2) (kF (ei g).dA (ei g).cl)).dj=kF (ei g).dA (ei g).cl:=rfl;rw[Z7] at Bo;have Q8:=gC (ei g).cl;obtain⟨H,hH⟩:∃ H,H=(ei g).cl:=⟨_,rfl⟩
     rw[<-BI,<-hH] at nd;rw[<-hH] at jC wA Bo oL G9 Q8;obtain⟨W,dr⟩:∃ W,W=mw (ei g) :=⟨_,rfl⟩
     have wF:W.length=4:=by rw[dr]; rfl
     have EM:aV W=true:=by rw[dr]; exact AV _
     have EN:W.take 4=W:=aqs (by omega);have J4:bn [U.int .i64 0,.aX,.aX,.aX] 0 W=W:=eC (by rw[wF]; rfl);obtain⟨Wb,Bl⟩:∃ C,C=gi m2:=⟨_,rfl⟩
     obtain⟨Wc,Qx⟩:∃ C,C=gi (ml key) :=⟨_,rfl⟩
     have aah:aV Wb=true:=by have:=sx m2; rw[Bl]; simpa [U.closed] using this
     have aai:aV Wc=true:=by have:=sx (ml key); rw[Qx]; simpa [U.closed] using this
     obtain⟨Hd,k5⟩:∃ O,O=dx (ej m2) :=⟨_,rfl⟩
     obtain⟨MY,EG⟩:∃ O,O=dx (gY (ej m2) (kF (ei g).dA H)) :=⟨_,rfl⟩
     obtain⟨Du,aat⟩:∃ O,O=fx (kF (ei g).dA H) :=⟨_,rfl⟩
     rw[<-Bl] at Q0 rf;rw[<-Qx] at Q1 QE;rw[<-k5] at rf wA Am;rw[<-EG] at wA Bo oL;rw[<-aat] at Bo G9;rw[<-dr] at cT wA yT;unfold c3 dB at cT nd;obtain⟨l1,_,_,_,_,_,_,_,_,_,t1,_,_,bL⟩:=Am;obtain⟨bZ,_,_,_,_,_,_,_,_,_,t2,_,_,bz⟩:=oL;obtain⟨vh,_,⟨_,KQ⟩,_,⟨_,KR⟩,_,_,_,xZ,zB⟩:=G9;have aiY:(kF (ei g).dA H).version=(g.ops.l.length:Int) :=Ss;have v39:(kF (ei g).dA H).cl=H:=rfl;rw[aiY] at KQ;rw[v39] at KR;have aeK:Du[33]? = some (.int .i64 g.ops.l.length) :=aqr.2 ⟨_,KQ⟩;have aeL:Du[39]? = some (aT H) :=aqr.2 ⟨_,KR⟩;have cQ:bn Z 0 Hd=Hd:=eC (by omega);have g8:bn Hd 0 MY=MY:=eC (by omega);have rX:bn yj 0 Du=Du:=eC (by omega);simp[aE,dL,aC,pY,aZ,IJ];refine aU cT (by simp[aV,U.closed,er,c7]) ?_;simp[wF,J4];refine aU nd (by simp[aV,U.closed,er,c7]) ?_;simp[Q0,-pP];refine aU rf (by simp[aV,U.closed,aah]) ?_;simp[hc,l1,cQ,t1,wF,EN];refine aU wA (by simp[aV,U.closed,bL,EM]) ?_;simp[l1,bZ,g8,t2];refine aU Bo (by simp[aV,U.closed,bz]) ?_;simp[eh,Jb,vh,rX,KR,aeL];refine aU jC (by simp[aV,Q8]) ?_;simp[eh,KQ,aeK,dL,Q1,-pP];refine aU QE (by simp[aV,U.closed,aai]) ?_;cases yZ:iV (ml key) with
     | false=>
      have An:=jO (o:=l9) tq;rw[<-h0] at An;obtain⟨dQ,_,_,_,_,_,_,_,_,_,t3,_,_,cO⟩:=An;have LW:bn Z 0 Z=Z:=eC rfl;simp[eh,<-h0,hc,LW,wF,EN];refine aU yT (by simp[aV,U.closed,EM]) ?_;simp[cn,bn]
     | true=>
      have o2:=aeA (ej (ml key)) (TC _ (by show 0<=2500; omega)) rfl (ei g) os dV (Nv yZ (.inl rfl)) 1;rw[show (ej (ml key)).call.key=key from rfl] at o2;obtain⟨b,af⟩:∃ b,b=(ow (ei g) key).1:=⟨_,rfl⟩
      obtain⟨v,ao⟩:∃ v,v=(ow (ei g) key).2.1:=⟨_,rfl⟩
      rw[<-af,<-ao] at o2 yT;have afu:vr (gY (ej (ml key)) (ku (ei g).dA b v)) :=⟨zP _ _ _,by show 0<=2500; omega,by show 0<=2500; omega,by show 0<=60; omega⟩
      have EH:=UL _ afu (Nw yZ _);rw[show (gY (ej (ml key)) (ku (ei g).dA b v)).dj=ku (ei g).dA b v from rfl] at EH;have An:=jO (o:=ej (ml key)) tq;have MU:=jO (o:=gY (ej (ml key)) (ku (ei g).dA b v)) (zP _ _ _);have MQ:=wa (a:=ku (ei g).dA b v) (zP _ _ _);obtain⟨He,nT⟩:∃ O,O=dx (ej (ml key)) :=⟨_,rfl⟩
      obtain⟨MZ,nU⟩:∃ O,O=dx (gY (ej (ml key)) (ku (ei g).dA b v)) :=⟨_,rfl⟩
      obtain⟨Dv,aau⟩:∃ O,O=fx (ku (ei g).dA b v) :=⟨_,rfl⟩
      rw[show (if (true:Bool)=true then ej (ml key) else l9)=ej (ml key) from rfl];rw[<-nT] at o2 An ⊢;rw[<-nU] at o2 EH MU;rw[<-aau] at EH MQ;rw[<-dr] at o2;obtain⟨dQ,_,_,_,_,_,_,_,_,_,t3,_,_,cO⟩:=An;obtain⟨oi,_,_,_,_,_,_,_,_,_,t4,_,_,dn⟩:=MU;obtain⟨aew,_,⟨_,n33⟩,⟨_,n34⟩,_,_,_,n35,ap5,aoi⟩:=MQ;rw[show (ku (ei g).dA b v).version=(g.ops.l.length:Int) from Ss] at n33;rw[show (ku (ei g).dA b v).td=b from rfl] at n34;rw[show (ku (ei g).dA b v).val=v from rfl] at n35;have ae2:Dv[33]? = some (.int .i64 g.ops.l.length) :=aqr.2 ⟨_,n33⟩;have ae3:Dv[34]? = some (.bool b) :=aqr.2 ⟨_,n34⟩;have LW:bn Z 0 He=He:=eC (by omega);have ahf:bn He 0 MZ=MZ:=eC (by omega);have ahh:bn yj 0 Dv=Dv:=eC (by omega);have nn:=VJ v v;rw[show eo (cn v) (cn v)=true from VL v] at nn;have p1:(cn v).length=4:=rfl;have QN:(cn v).take 4=cn v:=rfl;have rh:bn [U.int .u8 0,.int .i64 0,.int .u64 0,.str []] 0 (cn v)=cn v:=eC rfl;have aaS:fG Tryz.prog .eql 4 (.bool b) (.bool b)=some (.bool true) :=by cases b<;>kernel_rfl
      obtain⟨V,j9⟩:∃ V,V=cn v:=⟨_,rfl⟩
      rw[<-j9] at yT n35 nn p1 QN rh;simp[eh,hc,dQ,LW,wF,EN];refine aU yT (by simp[aV,U.closed,EM]) ?_;simp[p1,rh,dQ,t3,wF,EN];refine aU o2 (by simp[aV,U.closed,cO,EM]) ?_;simp[dQ,oi,ahf,t4];refine aU EH (by simp[aV,U.closed,dn]) ?_;simp[Jb,aew,ahh,n34,n35,n33,ae2,ae3,p1,QN,aaS,nn,dL]
  ·simp[aE]
end tR

end Go.bJ

namespace Go.bJ
open Go Go.Proofs
set_option maxRecDepth 1000000
set_option maxHeartbeats 8000000
theorem ad1:c2 Tryz.prog GS 25 [] [] (c:=⟨fun r _=>r=.bool true⟩) :=
 XI (TL (x9.mem (WP))) ais (orc:=Gb []) (fuel:=100000) (k:=60) (by kernel_rfl)
theorem WO:bi Tryz.prog GS 25 [] (.bool true) :=
 bt Tryz.checked.mixed bp (by
  obtain⟨r,l,h1,ad,aj⟩:=ad1;exact⟨r,l,h1,ad,aH aj rfl⟩)
end Go.bJ

/-
  Registers: what an operation sets, put into a row of one's own; walked.
-/
import Derived.Test.YtobphgccoalchaaGreatDoorQk
import Derived.Test.YtobphgccoalchaaGreatDoorRows
import Derived.Shelf.SlSortCmp.WholeK
import Derived.Shelf.SlGeneric
set_option linter.unusedVariables false
set_option linter.unusedSimpArgs false
set_option linter.unnecessarySimpa false
namespace Go.b2
open Go Go.Proofs
set_option maxRecDepth 100000
namespace Op
open gh
theorem EY {l:List bR} (h:ju l) :((l.map cd).flatten).length=l.length*38:=by
 rw[l9 (z:=38) (fun e ao=>by obtain⟨y,az,rfl⟩:=atV.1 ao; exact iQ (h y az).id),atU]
theorem aip {l:am} {b n:Nat} {a:List bR} (aB:ju a) (aC:a.length=n) (ag:l[b]? = some (.cells (n*38) (a.map cd).flatten)) :bJ 38 l (.au 38 b 0 n n (n*38)) b (a.map cd) :=by
 have fL:=EY aB;refine .au b n n (n*38) _ _ ag (by rw[fL,aC]) (by simp[aC]) (fun e ao=>?_) (att _) (att _) ?_
 ·obtain⟨y,az,rfl⟩:=atV.1 ao; exact iQ (aB y az).id
 ·rw[atr (by rw[fL,aC]; omega)]
structure jC (l:am) (v:U) (j:Nat) (xs:List bR) :Prop where
 o:bJ 38 l v j (xs.map cd)
 v:v=.a1\/v=.au 38 j 0 xs.length xs.length (xs.length*38)
theorem jC.nil (l:am) (j:Nat) :jC l .a1 j [] :=⟨.nil j,.inl rfl⟩
theorem jC.frame {l l' : am} {v:U} {j:Nat} {xs:List bR} (h:jC l v j xs) (aD:v=.a1\/l'[j]? = l[j]?) :jC l' v j xs:=⟨h.o.vx aD,h.v⟩
theorem jC.full {l:am} {j:Nat} {xs:List bR} (ap:ju xs) (ag:l[j]? = some (.cells (xs.length*38) (xs.map cd).flatten)) :jC l (.au 38 j 0 xs.length xs.length (xs.length*38)) j xs:=⟨aip ap rfl ag,.inr rfl⟩
theorem jC.block {l:am} {v:U} {j:Nat} {xs:List bR} (h:jC l v j xs) (aq:v≠.a1) :v=.au 38 j 0 xs.length xs.length (xs.length*38)/\l[j]? = some (.cells (xs.length*38) (xs.map cd).flatten) :=by
 have p7:=h.v.resolve_left aq;refine⟨p7,?_⟩;have ap:=h.o;rw[p7] at ap;generalize ao:U.au 38 j 0 xs.length xs.length (xs.length*38)=w at ap;generalize iW:xs.map cd=es at ap;cases ap with
 | nil=>cases ao
 | au agG n cap sz cs es ag ak aC aw ah cS ce=>
  injection ao with _ aQ _ bF dz j0
  rw[ag,<-j0,<-ce,atr (by rw[ak,<-j0,<-bF]; omega)]
def Nl (v:U) (xs:List bR) :jW:=match cD v with | true=>none | false=>some xs
theorem jC.ak1 {l:am} {v:U} {j:Nat} {xs:List bR} (h:jC l v j xs) :(Nl v xs).l=xs:=by
 rcases h.v with aq | aq
 ·have:=h.o;rw[aq] at this;have af:=this.q.uD;rw[aux] at af;rw[aq,af]; rfl
 ·rw[aq]; rfl
theorem jC.rd {l:am} {v:U} {j:Nat} {xs:List bR} (h:jC l v j xs) :fH (bU l) v (dA (Nl v xs)) :=by
 rcases h.v with aq | aq
 ·rw[aq]; exact .same _ rfl
 ·have:=h.o.nr (fun x=>zj x) (some xs) (by rw[aq]; rfl) rfl;rw[aq] at this ⊢;exact this
theorem agk {l:am} {b bv n i:Nat} {a:List bR} {x:bR} (aB:ju a) (af:y3 x) (aC:a.length=n) (ag:l[b]? = some (.cells (n*38) (a.map cd).flatten)) (iU:l[bv]? = some (.cells 38 (cd x))) (bx:bv≠b) (av:i<=n) (nV:n<=1000000)
  {K:U->am->Prop} (aV:K (.au 38 l.length 0 (n+1) (n+1) ((n+1)*38)) (l.set b .dead++[.cells ((n+1)*38) ((kg a i x).map cd).flatten])) :
  c7 Tryz.prog GS 138 [.au 38 b 0 n n (n*38),.int .i64 i,.au 38 bv 0 1 1 38] l (c:=⟨K⟩) :=by
 have fB:=fc ag;have al:=UT (P:=Tryz.prog) (G:=GS) (h:=bU l) Lt (by kernel_rfl) (by kernel_rfl) (show jc Tryz.prog 50=some 96 by kernel_rfl) (by omega) (by omega) (by kernel_rfl) (b:=b) (bv:=bv) (len:=n) (cap:=n) (i:=i) (lX.2 ag) (lX.2 iU) bx av (att _) (by unfold ct; omega);rw[y1,oo _ fB,lY,avS (by omega)] at al;refine⟨_,_,.ext al,by simp,?_⟩;have fL:=EY aB;have bF:a.map cd=(a.take i).map cd++(a.drop i).map cd:=by rw[<-atX,auc]
 have K4:((a.take i).map cd).flatten.length=i*38:=by
  rw[EY (fun t aI=>aB t (at0 aI)),atN,auJ (by omega)]
 have Cs:((a.drop i).map cd).flatten.length=(n - i)*38:=by
  rw[EY (fun t aI=>aB t (avc aI)),auw,aC]
 have cC:mo 38 (a.map cd).flatten (cd x) i n=((kg a i x).map cd).flatten:=by
  unfold mo kg;have h1:((a.map cd).flatten).take (i*38)=((a.take i).map cd).flatten:=by
   rw[bF,aul,atS (by omega),atr (by omega)]
  have ad:((a.map cd).flatten).drop (i*38)=((a.drop i).map cd).flatten:=by
   rw[bF,aul,aum (by omega),auN (by omega),auB]
  have aj:(((a.drop i).map cd).flatten).take ((n - i)*38)=((a.drop i).map cd).flatten:=atr (by omega);have aF:((a.map cd).flatten).drop ((n+1)*38)=[] :=auN (by rw[fL,aC]; omega);rw[h1,ad,aj,aF,atZ];simp
 rw[cC];exact aV
theorem agj {l:am} {bv:Nat} {x:bR} (iU:l[bv]? = some (.cells 38 (cd x))) {K:U->am->Prop} (aV:K (.au 38 l.length 0 1 1 38) (l++[.cells 38 (cd x)])) :
  c7 Tryz.prog GS 138 [.a1,.int .i64 0,.au 38 bv 0 1 1 38] l (c:=⟨K⟩) :=by
 have al:=US (P:=Tryz.prog) (G:=GS) (h:=bU l) Lt (by kernel_rfl) (by kernel_rfl) (show jc Tryz.prog 50=some 96 by kernel_rfl) (by omega) (by omega) (by kernel_rfl) (bv:=bv) (lX.2 iU) (by unfold ct; omega);rw[y1,lY] at al;exact⟨_,_,.ext al,by simp,aV⟩
theorem Rk (l:List bR) (x:List UInt8) :eJ l x<=l.length:=by unfold eJ; exact (avX _).length_le
def kQ (l:List bR) (x:bR) :List bR:=if hP l x.key=true then (if qb x.c3 x.id (mC l (eJ l x.key)).c3 (mC l (eJ l x.key)).id=true then l.set (eJ l x.key) x else l) else kg l (eJ l x.key) x
def hD (o:bp) (x:List B) :bR:=⟨o.act.key,o.act.val,o.c3,x⟩
def gG (l:List bR) (o:bp) (x:List B) :List bR:=if o.act.kind=4#8 then kQ l (hD o x) else l
theorem abi (o:bp) :((u o.act.kind:Int)=4)<->o.act.kind=4#8:=rH o.act.kind 4#8
theorem UQ {l:List bR} {i:Nat} {x:bR} (h:ju l) (af:y3 x) :ju (kg l i x) :=fun t aI=>by
 rcases Gs.1 aI with e | e
 ·rw[e]; exact af
 ·exact h t e
theorem Xs {l:List bR} {x:bR} (h:ju l) (af:y3 x) :ju (kQ l x)/\(kQ l x).length<=l.length+1:=by
 unfold kQ;split
 ·split
  ·refine⟨fun t aI=>?_,by simp⟩;rcases auU aI with e | e
   ·exact h t e
   ·rw[e]; exact af
  ·exact⟨h,by omega⟩
 ·exact⟨UQ h af,by rw[Lr]; omega⟩
set_option maxHeartbeats 8000000 in
theorem aiP (o:bp) (ap:Ay o.act.val) (x:List B) (af:x.length=32) {xs:List bR} (dG:ju xs) (aC:xs.length<=1000000) (hm:GX xs o.act.key) {l:am} {v:U} {j:Nat} (h:jC l v j xs) {K:U->am->Prop}
  (aV:∀ aY l' bX,jC l' aY bX (gG xs o x)->((v≠.a1/\bX=j)\/l.length<=bX\/aY=.a1)->l.length<=l'.length->(∀ b,b<l.length->(v=.a1\/b≠j)->l'[b]? = l[b]?)->(cD aY=true->cD v=true/\o.act.kind≠4#8)->(o.act.kind≠4#8->aY=v)->K aY l') :
  c7 Tryz.prog GS 87 [v,.aM (bl o),.aM (aR x)] l (c:=⟨K⟩) :=by
 apply bj Tryz.func87 [];have bn:=cQ af;have di:(bl o).length=11:=rfl;have qO:∀ h,(bl o)[3]'h=bB o.act.kind:=fun _=>rfl
 have qP:∀ h,(bl o)[4]'h=.str o.act.key:=fun _=>rfl
 have SO:∀ h,(bl o)[2]'h=c4 o.c3:=fun _=>rfl
 have SP:((bl o).drop 5).take 4=cW o.act.val:=rfl;have sg:(cW o.act.val).length=4:=rfl;have TQ:=abi o;obtain⟨O,eS⟩:∃ O,O=bl o:=⟨_,rfl⟩
 obtain⟨X,cT⟩:∃ X,X=aR x:=⟨_,rfl⟩
 rw[<-eS] at di qO qP SO SP ⊢;rw[<-cT] at bn ⊢;obtain⟨L,fJ⟩:∃ L,L=l++[a2.cells 11 O,a2.cells 32 X] :=⟨_,rfl⟩
 have m0:L.length=l.length+2:=by rw[fJ]; simp
 have JJ:∀ b,b<l.length->L[b]? = l[b]?:=fun b ag=>by rw[fJ,ats ag]
 have dH:L[l.length]? = some (.cells 11 O) :=by rw[fJ,atC (att _)]; simp
 have q1:L[l.length+1]? = some (.cells 32 X) :=by rw[fJ,atC (by omega)]; simp
 have ai:v=.a1\/j<l.length:=h.o.lt;by_cases dP:o.act.kind=4#8
 ·have LC:=TQ.2 dP;have lM:gG xs o x=kQ xs (hD o x) :=by unfold gG; rw[if_pos dP]
  have KE:y3 (hD o x) :=⟨af,ap⟩
  have SX:cd (hD o x)=.str o.act.key::bB o.act.val.kind::.int .i64 o.act.val.num::c4 o.act.val.bits::.str o.act.val.text::c4 o.c3::X:=by rw[cT]; rfl
  have m3:=iQ af (r:=hD o x);have SS:∀ h,(cd (hD o x))[0]'h=.str o.act.key:=fun _=>rfl
  have oX:bz (rep 32 (.int .u8 0)) 0 X=X:=fE (by rw[bn]; rfl);have x8:=XA m3;have al:=h.ak1;obtain⟨s,jl⟩:∃ s,s=Nl v xs:=⟨_,rfl⟩
  rw[<-jl] at al;have qW:=RU s (by rw[al]; exact dG) (by rw[al]; exact aC) o.act.key (by rw[al]; exact hm);rw[al] at qW;have Tg:=zj (hD o x);obtain⟨T,ci⟩:∃ T,T=cd (hD o x) :=⟨_,rfl⟩
  rw[<-ci] at SX m3 SS x8 Tg;obtain⟨rU,Cg⟩:∃ rU,rU=L++[a2.cells 38 T] :=⟨_,rfl⟩
  have JH:rU.length=l.length+3:=by rw[Cg]; simp[m0]
  have Fl:∀ b,b<l.length->rU[b]? = l[b]?:=fun b ag=>by rw[Cg,ats (by omega)]; exact JJ b ag
  have ad:jC rU v j xs:=h.frame (ai.imp_right fun ai=>Fl j ai);have Uu:=ad.rd;rw[<-jl] at Uu;have gn:rU[l.length+2]? = some (.cells 38 T) :=by rw[Cg,atC (by omega),m0]; simp
  have b8:∀ h,L[l.length]'h=.cells 11 O:=fun h=>(atq.1 dH).2
  have aL:∀ h,L[l.length+1]'h=.cells 32 X:=fun h=>(atq.1 q1).2
  have aT:∀ h,rU[l.length+2]'h=.cells 38 T:=fun h=>(atq.1 gn).2
  have lN:∀ y:a2,(L++[y]).set (l.length+2) (.cells 38 T)=rU:=fun y=>by rw[Cg,at8 _ _ (by omega),m0]; simp
  have aiT:∀ y:a2,(L++[y])[l.length+2]? = some y:=fun y=>by rw[atC (by omega),m0]; simp
  simp[di,bn,qO,qP,SO,SP,cW,LC,<-fJ,dH,q1,m0,atr,oX,<-SX,m3,x8,lN,aiT,gn,SS,b8,aL,aT];rw[<-Cg];refine ie qW (.cons Uu (.cons (.same _ rfl) (.cons (.same _ rfl) .nil))) rfl ?_;have dE:=Rk xs o.act.key;obtain⟨jH,fK⟩:∃ a,a=eJ xs o.act.key:=⟨_,rfl⟩
  have uh:kQ xs (hD o x)=if hP xs o.act.key=true then (if qb o.c3 x (mC xs jH).c3 (mC xs jH).id=true then xs.set jH (hD o x) else xs) else kg xs jH (hD o x) :=by rw[fK]; rfl
  rw[<-fK] at dE ⊢;cases aD:hP xs o.act.key with
  | false=>
   rw[aD,if_neg (by simp)] at uh;obtain⟨w1,Fk⟩:∃ w1,w1=rU++[a2.cells 38 T] :=⟨_,rfl⟩
   have ao7:w1.length=l.length+4:=by rw[Fk]; simp[JH]
   have JK:∀ b,b<l.length->w1[b]? = l[b]?:=fun b ag=>by rw[Fk,ats (by omega)]; exact Fl b ag
   have kP:w1[l.length+3]? = some (.cells 38 T) :=by rw[Fk,atC (by omega),JH]; simp
   simp[JH,gn,aT,m3,x8,atr,<-Fk];by_cases aq:v=.a1
   ·have vZ:xs=[] :=by
     have:=h.o;rw[aq] at this;have:=this.q.uD
     rwa [aux] at this
    have S4:jH=0:=by rw[vZ] at dE; simp at dE; exact dE
    rw[aq,S4];refine agj (x:=hD o x) (by rw[kP,ci]) ?_;simp;have p0:gG xs o x=[hD o x] :=by rw[lM,uh,vZ,S4]; rfl
    refine aV _ _ w1.length ?_ (.inr (.inl (by omega))) (by simp; omega) (fun b ag _=>by rw[ats (by omega)]; exact JK b ag) (fun aG=>by cases aG) (fun aG=>absurd dP aG);rw[p0];exact jC.full (xs:=[hD o x]) (fun t aI=>by rw[atM] at aI; rw[aI]; exact KE) (by simp)
   ·obtain⟨p7,ag⟩:=h.block aq;have eO:=ai.resolve_left aq;rw[p7];refine agk (a:=xs) (x:=hD o x) dG KE rfl (by rw[JK j eO]; exact ag) (by rw[kP,ci]) (by omega) dE aC ?_;simp;refine aV _ _ w1.length ?_ (.inr (.inl (by omega))) (by simp; omega) (fun b ag iT=>by rw[ats (by simp; omega),atF (fun e=>(iT.resolve_left aq) e.symm)]; exact JK b ag) (fun aG=>by cases aG) (fun aG=>absurd dP aG);rw[lM,uh];have bh:(kg xs jH (hD o x)).length=xs.length+1:=Lr _ _ _;rw[<-bh];exact jC.full (UQ dG KE) (by rw[atC (by simp)]; simp)
  | true=>
   rw[aD,if_pos rfl] at uh;have sn:=aD;unfold hP at sn;rw[atv,decide_eq_true_eq,<-fK] at sn;obtain⟨y,az,cO⟩:=bA sn.1;have CW:mC xs jH=y:=mD az;rw[CW] at uh;have aq:v≠.a1:=fun aq=>by
    have:=h.o;rw[aq] at this;have:=this.q.uD;rw[aux] at this;rw[this] at az; simp at az
   have cx:=iQ (dG y cO).id;have nR:=zj y;obtain⟨p,c,q,aS,aX,a3,a4⟩:=ad.o.q.get (k:=.i64) (i:=jH) (e:=cd y) (by rw[atw,az]; rfl);have aK:=ame (hD o x) y af (dG y cO).id;rw[<-ci] at aK;obtain⟨Y,ev⟩:∃ Y,Y=cd y:=⟨_,rfl⟩
   rw[<-ev] at a4 aK cx nR;simp[gn,aT,m3,atr,aS,aX,a3,a4];refine bf aK (by simp[bm,U.closed,Tg,nR]) ?_;have lH:qb (hD o x).c3 (hD o x).id y.c3 y.id=qb o.c3 x y.c3 y.id:=rfl;rw[lH];cases nU:qb o.c3 x y.c3 y.id with
   | false=>
    rw[nU,if_neg (by simp)] at uh;simp;refine aV v rU j (by rw[lM,uh]; exact ad) (.inl ⟨aq,rfl⟩) (by omega) (fun b ag _=>Fl b ag) (fun aG=>absurd (i3.1 aG) aq) (fun aG=>absurd dP aG)
   | true=>
    rw[nU,if_pos rfl] at uh;obtain⟨bI,l',dM,dy,gL,lw,tv⟩:=G9 (X:=.aM (cd (hD o x))) rfl ad.o (fun y az=>iQ (dG y az).id) sn.1 (by rw[<-ci]; exact m3);rw[aS] at dM;obtain rfl:=Option.some.inj dM;rw[<-ci] at dy;simp[gn,aT,m3,atr,aS,dy];refine aV v l' j ?_ (.inl ⟨aq,rfl⟩) (by omega) (fun b ag iT=>by rw[tv b (iT.resolve_left aq)]; exact Fl b ag) (fun aG=>absurd (i3.1 aG) aq) (fun aG=>absurd dP aG);rw[lM,uh];refine⟨gL,.inr ?_⟩;rw[avE];exact h.v.resolve_left aq
 ·have LC:¬ (u o.act.kind:Int)=4:=fun aG=>dP (TQ.1 aG)
  simp[di,bn,qO,LC,<-fJ,dH];have lM:gG xs o x=xs:=by unfold gG; rw[if_neg dP]
  refine aV v L j (by rw[lM]; exact h.frame (ai.imp_right fun ai=>JJ j ai)) ?_ (by omega) (fun b ag _=>JJ b ag) (fun aG=>⟨aG,dP⟩) (fun _=>rfl);by_cases aq:v=.a1
  ·exact .inr (.inr aq)
  ·exact .inl ⟨aq,rfl⟩
theorem zg (s:jW) :(dA s).cells=some [dA s] :=by cases s<;>rfl
theorem Jq {l:List bR} (h:lm l=0) :l.length<=60/\kZ l=true:=by
 unfold lm at h;split at h
 ·cases h
 ·split at h
  ·rename_i h1 ad; exact⟨by omega,ad⟩
  ·cases h
theorem Ss {l:List bR} (h:kZ l=true) {i:Nat} {a b:bR} (aB:l[i]? = some a) (ag:l[i+1]? = some b) :e7 a.key b.key=true:=by
 have h1:=(of_decide_eq_true h) (i+1) (atq.1 ag).1;unfold tP at h1;rw[avp,mD aB,mD ag,atv] at h1;simpa using h1.2
theorem vA {l:List bR} (h:kZ l=true) :∀ {d i:Nat} {a b:bR},l[i]? = some a->l[i+d+1]? = some b->e7 a.key b.key=true
 | 0,i,a,b,aB,ag=>Ss h aB ag
 | d+1,i,a,b,aB,ag=>by
  obtain⟨c,ah,_⟩:=bA (l:=l) (k:=i+d+1) (by have:=(atq.1 ag).1; omega);exact AP (vA h aB ah) (Ss h ah ag)
theorem Jr {l:List bR} (h:kZ l=true) (x:List UInt8) :GX l x:=by
 intro i j a b ho aB ag aK;by_cases ao:i=j
 ·subst ao; rw[aB] at ag; cases ag; exact aK
 ·exact AP (vA h (d:=j - i - 1) aB (by rw[show i+(j - i - 1)+1=j by omega]; exact ag)) aK
def wC (s:jW) (o:bp) :jW:=if s.isNone=true/\o.act.kind≠4#8 then none else some (gG s.l o (jQ o))
theorem ML (s:jW) (o:bp) :(wC s o).l=gG s.l o (jQ o) :=by
 unfold wC;split
 ·rename_i h;cases s with
  | some a=>cases h.1
  | none=>unfold gG; rw[if_neg h.2]
 ·rfl
def DG (s:jW) (o:bp) :jW × Int:=
 if lm s.l=0 then (if fY o=0 then (if 60<(gG s.l o (jQ o)).length then (none,18) else (wC s o,0)) else (none,8)) else (none,lm s.l)
def nP (l:List bR) (k:List UInt8) :gK × Int:=if lm l=0 then (if hP l k=true then ((mC l (eJ l k)).val,0) else (ij,6)) else (ij,lm l)
theorem amh (s:jW) (al:ju s.l) (e4:s.l.length<=1000000) (k:List UInt8) :bw Tryz.prog GS 45 [.aM [dA s],.str k] (.bG [.aM (cW (nP s.l k).1),.int .i64 (nP s.l k).2]) :=by
 refine bP Tryz.checked.mixed bC ?_;apply bj Tryz.func45 [];have ce:=tD s;have dr:=Yt s al e4;have m7:=zg s;by_cases aE:lm s.l=0
 ·have xW:=Jr (Jq aE).2 k;have qW:=RU s al e4 k xW;simp[m7];refine bf dr (by simp[bm,U.closed,ce]) ?_;simp[aE];refine bf qW (by simp[bm,U.closed,ce]) ?_;cases aD:hP s.l k with
  | false=>
   have ar:nP s.l k=(ij,6) :=by unfold nP; rw[if_pos aE,if_neg (by rw[aD]; simp)]
   rw[ar];simp;exact aP rfl rfl
  | true=>
   have sn:=aD;unfold hP at sn;rw[atv,decide_eq_true_eq] at sn;obtain⟨y,az,cO⟩:=bA sn.1;have ar:nP s.l k=(y.val,0) :=by unfold nP; rw[if_pos aE,if_pos aD,mD az]
   rw[ar];have cc:cj (.au 38) (dA s) (.int .i64 (eJ s.l k:Int))=some (.b6 (cd y) 0) :=by simp[dA,az]
   have cx:=iQ (al y cO).id;have JW:((cd y).tail).take 4=cW y.val:=rfl;have nj:bm (cW y.val)=true:=by simp[cW,bm,U.closed]
   have sg:(cW y.val).length=4:=rfl;obtain⟨Y,ev⟩:∃ Y,Y=cd y:=⟨_,rfl⟩
   obtain⟨V,m4⟩:∃ V,V=cW y.val:=⟨_,rfl⟩
   rw[<-ev] at cc cx JW;rw[<-m4] at JW nj sg ⊢;have KZ:bz [U.int .u8 0,.int .i64 0,.int .u64 0,.str []] 0 V=V:=fE (by rw[sg]; rfl);simp[cc,cx,JW,sg,KZ,atr];exact aP rfl (by simp[U.closed,bm,nj])
 ·have ar:nP s.l k=(ij,lm s.l) :=by unfold nP; rw[if_neg aE]
  rw[ar];simp[m7];refine bf dr (by simp[bm,U.closed,ce]) ?_;simp[aE];exact aP rfl rfl
def lh (a b:bR) :Bool:=e7 a.key b.key
theorem aas {l:am} {p:U} {x:List U × Nat} (h:eo l p=some x) :mT p 0=some p:=by
 cases p<;>first | rfl | (exfalso; simp[eo] at h)
structure ana (l:am) (a:List bR) (x:bR) (m:Nat) (ae:a7) (l1:am) :Prop where
 ex:∃ (i:Nat) (v:U),i=m/\i<=a.length/\ae 5=v/\ae 6=.int .i64 (i:Int)/\cf 38 cd l l1 v (kg a i x) false/\n5 lh a x i=n5 lh a x a.length
def E6 (l:List bR) (k:List UInt8) :gK × Int:=if lm l=0 then (if 0<=hW k (l.map bR.key) 0 then ((mC l (hW k (l.map bR.key) 0).toNat).val,0) else (ij,6)) else (ij,lm l)
theorem UX {α:Type} [DecidableEq α] {x:α} {l:List α} (h:0<=hW x l 0) :∃ i:Nat,hW x l 0=(i:Int)/\l[i]? = some x:=by
 have hm:=(yh x l 0).1 h;have:∃ i:Nat,l[i]? = some x/\∀ (j:Nat) (z:α),j<i->l[j]? = some z->z≠x:=by
  clear h
  induction l with
  | nil=>cases hm
  | cons y r aH=>
   by_cases az:y=x
   ·exact⟨0,by simp[az],fun j z ai=>by omega⟩
   ·obtain⟨i,h1,ad⟩:=aH (by simpa [Ne.symm az] using hm);refine⟨i+1,by simpa using h1,fun j z ai aw=>?_⟩;rcases j with _ | j
    ·simp at aw; rw[<-aw]; exact az
    ·exact ad j z (by omega) (by simpa using aw)
 obtain⟨i,h1,ad⟩:=this;exact⟨i,by have:=yg (n:=0) h1 ad rfl; simpa using this,h1⟩
theorem IU {l:List bR} {x:List UInt8} {t:Nat} {y:bR} (aI:t<eJ l x) (az:l[t]? = some y) :e7 y.key x=true:=by
 have aQ:l.takeWhile (fun t=>e7 t.key x)=l.take (eJ l x) :=aww.1 (avX _);have hm:y∈l.take (eJ l x) :=atx.2 ⟨t,by rw[atP aI]; exact az⟩;rw[<-aQ] at hm;have:=List.all_takeWhile (l:=l) (p:=fun t=>e7 t.key x);exact aue.1 this y hm
theorem IR:∀ {l:List bR} {x:List UInt8} {y:bR},l[eJ l x]? = some y->e7 y.key x=false
 | [],x,y,h=>by simp at h
 | a::l,x,y,h=>by
  unfold eJ at h;rw[au1] at h;cases aB:e7 a.key x with
  | false=>
   rw[aB] at h;simp at h;rw[<-h]; exact aB
  | true=>
   rw[aB] at h;simp at h;exact IR (l:=l) (by unfold eJ; exact h)
theorem acv {l:List bR} (h:kZ l=true) {x:List UInt8} {t:Nat} {y:bR} (aI:eJ l x<=t) (az:l[t]? = some y) :e7 y.key x=false:=by
 obtain⟨z,aw,_⟩:=bA (l:=l) (k:=eJ l x) (by have:=(atq.1 az).1; omega);have h1:=IR aw;cases ad:e7 y.key x with
 | false=>rfl
 | true=>rw[Jr h x _ _ _ _ aI aw az ad] at h1; cases h1
theorem E2 {l:List bR} (h:kZ l=true) (x:List UInt8) :(hP l x=true/\hW x (l.map bR.key) 0=(eJ l x:Int))\/(hP l x=false/\¬ 0<=hW x (l.map bR.key) 0) :=by
 cases aD:hP l x with
 | true=>
  left;refine⟨rfl,?_⟩;unfold hP at aD;rw[atv,decide_eq_true_eq,decide_eq_true_eq] at aD;obtain⟨y,az,_⟩:=bA aD.1;have iD:y.key=x:=by rw[<-aD.2,mD az]
  have:=yg (x:=x) (l:=l.map bR.key) (k:=eJ l x) (n:=0) (y:=x) (by rw[atw,az]; exact congrArg some iD) (fun j z ai aw lf=>by
   rw[atw] at aw;cases jO:l[j]? with
   | none=>rw[jO] at aw; cases aw
   | some w=>
    rw[jO] at aw;have hw:w.key=z:=Option.some.inj aw;have:=IU ai jO;rw[hw,lf,ql] at this; cases this) rfl
  simpa using this
 | false=>
  right;refine⟨rfl,fun aE=>?_⟩;obtain⟨i,TF,kE⟩:=UX aE;rw[atw] at kE;cases jO:l[i]? with
  | none=>rw[jO] at kE; cases kE
  | some w=>
   rw[jO] at kE;have hw:w.key=x:=Option.some.inj kE;have du:=(atq.1 jO).1;by_cases aem:i<eJ l x
   ·have:=IU aem jO;rw[hw,ql] at this; cases this
   ·by_cases aen:i=eJ l x
    ·unfold hP at aD;rw[<-aen,mD jO,hw,decide_eq_true du] at aD;simp at aD
    ·obtain⟨z,aw,_⟩:=bA (l:=l) (k:=eJ l x) (by omega);have h1:=IR aw;have ad:=vA h (d:=i - eJ l x - 1) aw (by rw[show eJ l x+(i - eJ l x - 1)+1=i by omega]; exact jO);rw[hw,h1] at ad; cases ad
theorem Sq (l:List bR) (k:List UInt8) :nP l k=E6 l k:=by
 unfold nP E6;by_cases aE:lm l=0
 ·rw[if_pos aE,if_pos aE];rcases E2 (Jq aE).2 k with ⟨h1,ad⟩ | ⟨h1,ad⟩
  ·rw[if_pos h1,if_pos (by rw[ad]; omega),ad,auq]
  ·rw[if_neg (by rw[h1]; simp),if_neg ad]
 ·rw[if_neg aE,if_neg aE]
theorem aiA {l:List bR} (h:kZ l=true) {x:bR} (aC:hP l x.key=false) :n5 lh l x l.length=eJ l x.key:=by
 have ah:=Rk l x.key;have key:∀ k,eJ l x.key<=k->k<=l.length->n5 lh l x k=eJ l x.key:=by
  intro k
  induction k with
  | zero=>
   intro h1 _;have:eJ l x.key=0:=by omega
   rw[this]; rfl
  | succ k aH=>
   intro h1 ad;obtain⟨y,az,_⟩:=bA (l:=l) (k:=k) (by omega);rw[Wp az];by_cases hk:eJ l x.key=k+1
   ·have aj:=IU (l:=l) (x:=x.key) (t:=k) (by omega) az;have aF:lh x y=false:=by
     unfold lh;cases aW:e7 x.key y.key with
     | false=>rfl
     | true=>have:=AP aj aW; rw[ql] at this; cases this
    rw[aF,if_neg (by simp)]; exact hk.symm
   ·have aj:=acv h (x:=x.key) (t:=k) (by omega) az;have aF:lh x y=true:=by
     unfold lh;cases aW:e7 x.key y.key with
     | true=>rfl
     | false=>
      exfalso;have ao:y.key=x.key:=by
       have aS:¬ y.key<x.key:=(M2 _ _).1 aj;have aX:¬ x.key<y.key:=(M2 _ _).1 aW;exact awv (awB.1 aX) (awB.1 aS)
      rcases E2 h x.key with ⟨bt,_⟩ | ⟨_,dq⟩
      ·rw[aC] at bt; cases bt
      ·exact dq ((yh x.key (l.map bR.key) 0).2 (by rw[<-ao]; exact auS (atz az)))
    rw[aF,if_pos rfl];exact aH (by omega) (by omega)
 exact key l.length ah (att _)
structure ck where
 dB:Int
 set:gq
 bQ:jW
 bM:fq
def fP (s:ck) :List U:=[.int .i64 s.dB,eh s.set,dA s.bQ,aU s.bM]
structure lr (s:ck) :Prop where
 set:mv s.set.l
 bQ:ju s.bQ.l
 bM:h0 s.bM
 ls:s.set.l.length<=1000000
 n1:s.bQ.l.length<=1000000
 rj:s.bM.l.length<=1000000
theorem IK (s:ck) :bm (fP s)=true:=by simp[fP,bm,U.closed,qG,tD,gM]
theorem abJ (a b:List B) (aB:a.length=32) (ag:b.length=32) :bw Tryz.prog GS 60 [.aM (aR a),.aM (aR b)] (.int .i64 (cl a b)) :=by
 refine bP Tryz.checked.mixed bC ?_;apply bj Tryz.func60 [];have al:=DU (n:=32) (b:=1) (by omega);have CQ:=DU (n:=32) (b:=0) (by omega);simp[aR,aB,ag,al,CQ];have ah:=Eo (some a) (some b) (by simp[aB,ag]);refine ie ah ?_ rfl ?_
 ·exact .cons ((o5 (j:=0) aB rfl).nr (fun _=>rfl) (some a) rfl rfl) (.cons ((o5 (j:=1) ag rfl).nr (fun _=>rfl) (some b) rfl rfl) .nil)
 ·simp;exact aP rfl rfl
def xr (s:ck) :Bool:=decide (0<=s.dB)&&(decide (s.dB<=60)&&(decide ((s.bM.l.length:Int)<=s.dB)&&!(decide (s.bM.l.length=0)&&decide (0<s.dB))))
def zD (s:ck) :Bool:=xr s&&(decide (jw s.set.l=0)&&(decide (lm s.bQ.l=0)&&dN s.bM.l))
def ob (s:ck) :Int:=hO (zD s)
set_option maxHeartbeats 8000000 in
theorem aml (s:ck) (ap:lr s) :bw Tryz.prog GS 25 [.aM (fP s)] (.int .i64 (ob s)) :=by
 refine bP Tryz.checked.mixed bC ?_;apply bj Tryz.func25 [];unfold ob zD;have zW:cP (.au 32) (aU s.bM)=some (.int .i64 s.bM.l.length) :=by simp[aU]
 have FJ:=qG s.set;have m7:=tD s.bQ;cases ar:xr s with
 | false=>
  rw[au8];simp[fP];unfold xr at ar;by_cases h1:s.dB<0
  ·simp[zW,h1];exact aP rfl rfl
  ·by_cases ad:60<s.dB
   ·simp[zW,h1,ad];exact aP rfl rfl
   ·by_cases aj:s.dB<(s.bM.l.length:Int)
    ·simp[zW,h1,ad,aj];exact aP rfl rfl
    ·have aF:s.bM.l.length=0:=by
      by_cases h:s.bM.l.length=0
      ·exact h
      ·exfalso; simp[h,h1,ad,aj] at ar; try omega
     have aW:0<s.dB:=by simp[aF,h1,ad] at ar; omega
     simp[zW,h1,ad,aj,aF,aW];exact aP rfl rfl
 | true=>
  unfold xr at ar;simp only[atv,decide_eq_true_eq,auP,Bool.and_eq_false_iff,decide_eq_false_iff_not] at ar;obtain⟨aL,aT,a8,bu⟩:=ar;have h1:¬ s.dB<0:=by omega
  have ad:¬ 60<s.dB:=by omega
  have aj:¬ s.dB<(s.bM.l.length:Int) :=by omega
  have aC:(decide ((s.bM.l.length:Int)=0)&&decide (0<s.dB))=false:=by
   rcases bu with h | h
   ·rw[decide_eq_false (by omega)]; rfl
   ·rw[decide_eq_false h,Bool.and_false]
  rw[auu];have ci:=Yu s.set ap.set ap.ls;have gT:=Yt s.bQ ap.bQ ap.n1;obtain⟨N,fj⟩:∃ N:Int,N=s.bM.l.length:=⟨_,rfl⟩
  rw[<-fj] at zW aj aC;by_cases aF:N=0<;>by_cases bt:0<s.dB
  ·rw[decide_eq_true aF,decide_eq_true bt] at aC; cases aC
  all_goals
   simp[fP,zW,h1,ad,aj,aF,bt];refine bf ci (by simp[bm,U.closed,FJ]) ?_;by_cases dq:jw s.set.l=0
   ·simp[dq];refine bf gT (by simp[bm,U.closed,m7]) ?_;by_cases eA:lm s.bQ.l=0
    ·simp[eA];refine cF (s.bM.l.length - 1) (fun k ae l=>(∃ r,l=.cells 4 [.int .i64 s.dB,eh s.set,dA s.bQ,aU s.bM] ::r)/\ae 1=.ptr 0 0 4/\ae 3=.int .i64 N/\ae 4=.int .i64 ((k+1:Nat) :Int)/\∀ j,j<k+1->j<s.bM.l.length->1<=j->cl (bV s.bM.l (j - 1)) (bV s.bM.l j)<0) ?_ ⟨by simp,by simp,by simp[aF],by simp,fun j h1 _ ad=>by omega⟩;rintro k ae l hk ⟨⟨r,rfl⟩,aL,a8,bu,al⟩;obtain⟨ae,rfl⟩:=kq aL a8 bu;clear aL a8 bu;obtain⟨m,hm⟩:∃ m,m=k+1:=⟨_,rfl⟩
     rw[<-hm] at al ⊢;simp;refine kk (fun h=>?_) (fun h=>?_)
     ·simp only[decide_eq_true_eq] at h;have aK:m<s.bM.l.length:=by omega
      obtain⟨x,af,cX⟩:=bA (l:=s.bM.l) (k:=k) (by omega);obtain⟨y,az,cO⟩:=bA aK;have aQ:IntKind.i64.wrap ((m:Int) - 1)=(k:Int) :=by rw[IntKind.wrap_i64]; omega
      have bF:IntKind.i64.wrap ((m:Int)+1)=((m+1:Nat) :Int) :=by rw[IntKind.wrap_i64]; omega
      have gd:=fr af;have o0:=fr az;have cc:cj (.au 32) (aU s.bM) (.int .i64 (k:Int))=some (.b6 (aR x) 0) :=by simp[aU,af]
      have ji:cj (.au 32) (aU s.bM) (.int .i64 (m:Int))=some (.b6 (aR y) 0) :=by simp[aU,az]
      simp[aQ,cc,ji,cQ (ap.bM x cX),cQ (ap.bM y cO),atr];refine bf (abJ x y (ap.bM x cX) (ap.bM y cO)) (by simp[bm,g6,U.closed,fM]) ?_;by_cases ah:cl x y<0
      ·have e3:¬ (0<=cl x y) :=by omega
       simp[e3,bF];refine⟨by omega,fun j h1 ad aj=>?_⟩;by_cases ai:j=m
       ·show cl (bV s.bM.l (j - 1)) (bV s.bM.l j)<0;rw[ai,show m - 1=k by omega,gd,o0]; exact ah
       ·exact al j (by omega) ad aj
      ·have e3:0<=cl x y:=by omega
       simp[e3];refine aP (by rw[show dN s.bM.l=false from decide_eq_false fun aG=>by have:=aG m aK (by omega); rw[show m - 1=k by omega,gd,o0] at this; omega,dq,eA]; rfl) rfl
     ·simp[h];have dO:s.bM.l.length<=m:=by simp at h; omega
      refine aP (by rw[show dN s.bM.l=true from decide_eq_true fun j h1 ad=>al j (by omega) h1 ad,dq,eA]; rfl) rfl
    ·simp[eA];exact aP rfl rfl
   ·simp[dq];exact aP rfl rfl
theorem abx (a b:gq) (aB:mv a.l) (ag:mv b.l) (ak:a.l.length<=1000000) :bw Tryz.prog GS 46 [eh a,eh b] (.bool (decide (a.l=b.l))) :=by
 refine bP Tryz.checked.mixed bC ?_;apply bj Tryz.func46 [];have nU:cP (.au 33) (eh a)=some (.int .i64 a.l.length) :=by simp[eh]
 have lH:cP (.au 33) (eh b)=some (.int .i64 b.l.length) :=by simp[eh]
 by_cases h1:a.l.length=b.l.length
 ·have dC:((a.l.length:Int)=b.l.length) :=by omega
  simp[nU,lH,h1];refine cF a.l.length (fun k ae l=>ae 0=eh a/\ae 1=eh b/\ae 12=.int .i64 a.l.length/\ae 13=.int .i64 k/\∀ j,j<k->a.l[j]? = b.l[j]?) ?_ (by simp[h1]);rintro k ae l hk ⟨b8,aL,fA,h8,al⟩;obtain⟨s,rfl⟩:=iv b8 aL fA h8;clear b8 aL fA h8;simp;refine kk (fun h=>?_) (fun h=>?_)
  ·simp only[decide_eq_true_eq] at h;obtain⟨x,af,cX⟩:=bA h;obtain⟨y,az,cO⟩:=bA (l:=b.l) (k:=k) (by omega);have aQ:IntKind.i64.wrap ((k:Int)+1)=((k+1:Nat) :Int) :=by rw[IntKind.wrap_i64]; omega
   have cc:cj (.au 33) (eh a) (.int .i64 (k:Int))=some (.b6 (c5 x) 0) :=by simp[eh,af]
   have ji:cj (.au 33) (eh b) (.int .i64 (k:Int))=some (.b6 (c5 y) 0) :=by simp[eh,az]
   have bn:=nN (aB x cX);have cx:=nN (ag y cO);have bx:=ak3 (aB x cX) (ag y cO);obtain⟨X,cT⟩:∃ X,X=c5 x:=⟨_,rfl⟩
   obtain⟨Y,ev⟩:∃ Y,Y=c5 y:=⟨_,rfl⟩
   rw[<-cT] at cc bn bx;rw[<-ev] at ji cx bx;simp[cc,ji,bn,cx,atr,bx];by_cases ao:x=y
   ·simp[ao,aQ];refine⟨by omega,fun j ai=>?_⟩;by_cases fQ:j=k
    ·subst fQ; rw[af,az,ao]
    ·exact al j (by omega)
   ·simp[ao];refine aP (congrArg U.bool (decide_eq_false fun e2=>ao ?_).symm) rfl;rw[e2,az] at af; exact (Option.some.inj af).symm
  ·simp[h];have jj:k=a.l.length:=by simp at h; omega
   refine aP (congrArg U.bool (decide_eq_true ?_).symm) rfl;apply auk;intro j;by_cases ai:j<a.l.length
   ·exact al j (by omega)
   ·rw[atG (by omega),atG (by omega)]
 ·have dC:¬ ((a.l.length:Int)=b.l.length) :=by omega
  simp[nU,lH,h1,dC];exact aP (by rw[decide_eq_false (fun e2=>h1 (by rw[e2]))]) rfl
theorem abv (a b:jW) (aB:ju a.l) (ag:ju b.l) (ak:a.l.length<=1000000) :bw Tryz.prog GS 47 [dA a,dA b] (.bool (decide (a.l=b.l))) :=by
 refine bP Tryz.checked.mixed bC ?_;apply bj Tryz.func47 [];have nU:cP (.au 38) (dA a)=some (.int .i64 a.l.length) :=by simp[dA]
 have lH:cP (.au 38) (dA b)=some (.int .i64 b.l.length) :=by simp[dA]
 by_cases h1:a.l.length=b.l.length
 ·have dC:((a.l.length:Int)=b.l.length) :=by omega
  simp[nU,lH,h1];refine cF a.l.length (fun k ae l=>ae 0=dA a/\ae 1=dA b/\ae 12=.int .i64 a.l.length/\ae 13=.int .i64 k/\∀ j,j<k->a.l[j]? = b.l[j]?) ?_ (by simp[h1]);rintro k ae l hk ⟨b8,aL,fA,h8,al⟩;obtain⟨s,rfl⟩:=iv b8 aL fA h8;clear b8 aL fA h8;simp;refine kk (fun h=>?_) (fun h=>?_)
  ·simp only[decide_eq_true_eq] at h;obtain⟨x,af,cX⟩:=bA h;obtain⟨y,az,cO⟩:=bA (l:=b.l) (k:=k) (by omega);have aQ:IntKind.i64.wrap ((k:Int)+1)=((k+1:Nat) :Int) :=by rw[IntKind.wrap_i64]; omega
   have cc:cj (.au 38) (dA a) (.int .i64 (k:Int))=some (.b6 (cd x) 0) :=by simp[dA,af]
   have ji:cj (.au 38) (dA b) (.int .i64 (k:Int))=some (.b6 (cd y) 0) :=by simp[dA,az]
   have bn:=iQ (aB x cX).id;have cx:=iQ (ag y cO).id;have bx:=ai8 (aB x cX).id (ag y cO).id;obtain⟨X,cT⟩:∃ X,X=cd x:=⟨_,rfl⟩
   obtain⟨Y,ev⟩:∃ Y,Y=cd y:=⟨_,rfl⟩
   rw[<-cT] at cc bn bx;rw[<-ev] at ji cx bx;simp[cc,ji,bn,cx,atr,bx];by_cases ao:x=y
   ·simp[ao,aQ];refine⟨by omega,fun j ai=>?_⟩;by_cases fQ:j=k
    ·subst fQ; rw[af,az,ao]
    ·exact al j (by omega)
   ·simp[ao];refine aP (congrArg U.bool (decide_eq_false fun e2=>ao ?_).symm) rfl;rw[e2,az] at af; exact (Option.some.inj af).symm
  ·simp[h];have jj:k=a.l.length:=by simp at h; omega
   refine aP (congrArg U.bool (decide_eq_true ?_).symm) rfl;apply auk;intro j;by_cases ai:j<a.l.length
   ·exact al j (by omega)
   ·rw[atG (by omega),atG (by omega)]
 ·have dC:¬ ((a.l.length:Int)=b.l.length) :=by omega
  simp[nU,lH,h1,dC];exact aP (by rw[decide_eq_false (fun e2=>h1 (by rw[e2]))]) rfl
theorem abu (a b:fq) (aB:h0 a) (ag:h0 b) (ak:a.l.length<=1000000) :bw Tryz.prog GS 48 [aU a,aU b] (.bool (decide (a.l=b.l))) :=by
 refine bP Tryz.checked.mixed bC ?_;apply bj Tryz.func48 [];have nU:cP (.au 32) (aU a)=some (.int .i64 a.l.length) :=by simp[aU]
 have lH:cP (.au 32) (aU b)=some (.int .i64 b.l.length) :=by simp[aU]
 by_cases h1:a.l.length=b.l.length
 ·have dC:((a.l.length:Int)=b.l.length) :=by omega
  simp[nU,lH,h1];refine cF a.l.length (fun k ae l=>ae 0=aU a/\ae 1=aU b/\ae 12=.int .i64 a.l.length/\ae 13=.int .i64 k/\∀ j,j<k->a.l[j]? = b.l[j]?) ?_ (by simp[h1]);rintro k ae l hk ⟨b8,aL,fA,h8,al⟩;obtain⟨s,rfl⟩:=iv b8 aL fA h8;clear b8 aL fA h8;simp;refine kk (fun h=>?_) (fun h=>?_)
  ·simp only[decide_eq_true_eq] at h;obtain⟨x,af,cX⟩:=bA h;obtain⟨y,az,cO⟩:=bA (l:=b.l) (k:=k) (by omega);have aQ:IntKind.i64.wrap ((k:Int)+1)=((k+1:Nat) :Int) :=by rw[IntKind.wrap_i64]; omega
   have cc:cj (.au 32) (aU a) (.int .i64 (k:Int))=some (.b6 (aR x) 0) :=by simp[aU,af]
   have ji:cj (.au 32) (aU b) (.int .i64 (k:Int))=some (.b6 (aR y) 0) :=by simp[aU,az]
   have bn:=cQ (aB x cX);have cx:=cQ (ag y cO);have bx:=Gq (aB x cX) (ag y cO);obtain⟨X,cT⟩:∃ X,X=aR x:=⟨_,rfl⟩
   obtain⟨Y,ev⟩:∃ Y,Y=aR y:=⟨_,rfl⟩
   rw[<-cT] at cc bn bx;rw[<-ev] at ji cx bx;simp[cc,ji,bn,cx,atr,bx];by_cases ao:x=y
   ·simp[ao,aQ];refine⟨by omega,fun j ai=>?_⟩;by_cases fQ:j=k
    ·subst fQ; rw[af,az,ao]
    ·exact al j (by omega)
   ·simp[ao];refine aP (congrArg U.bool (decide_eq_false fun e2=>ao ?_).symm) rfl;rw[e2,az] at af; exact (Option.some.inj af).symm
  ·simp[h];have jj:k=a.l.length:=by simp at h; omega
   refine aP (congrArg U.bool (decide_eq_true ?_).symm) rfl;apply auk;intro j;by_cases ai:j<a.l.length
   ·exact al j (by omega)
   ·rw[atG (by omega),atG (by omega)]
 ·have dC:¬ ((a.l.length:Int)=b.l.length) :=by omega
  simp[nU,lH,h1,dC];exact aP (by rw[decide_eq_false (fun e2=>h1 (by rw[e2]))]) rfl
def rC (a b:ck) :Bool:=decide (a.dB=b.dB)&&(decide (a.set.l=b.set.l)&&(decide (a.bQ.l=b.bQ.l)&&decide (a.bM.l=b.bM.l)))
theorem D9 (a b:ck) (aB:lr a) (ag:lr b) :bw Tryz.prog GS 17 [.aM (fP a),.aM (fP b)] (.bool (rC a b)) :=by
 refine bP Tryz.checked.mixed bC ?_;apply bj Tryz.func17 [];unfold rC;have ca:=qG a.set;have cy:=qG b.set;have eV:=tD a.bQ;have e1:=tD b.bQ;have iP:=gM a.bM;have h6:=gM b.bM;by_cases h1:a.dB=b.dB
 ·simp[fP,h1];refine bf (abx a.set b.set aB.set ag.set aB.ls) (by simp[bm,U.closed,ca,cy]) ?_;by_cases ad:a.set.l=b.set.l
  ·simp[ad];refine bf (abv a.bQ b.bQ aB.bQ ag.bQ aB.n1) (by simp[bm,U.closed,eV,e1]) ?_;by_cases aj:a.bQ.l=b.bQ.l
   ·simp[aj];refine bf (abu a.bM b.bM aB.bM ag.bM aB.rj) (by simp[bm,U.closed,iP,h6]) ?_;simp;exact aP (by simp[h1,ad,aj]) rfl
   ·simp[aj];exact aP rfl rfl
  ·simp[ad];exact aP rfl rfl
 ·simp[fP,h1];exact aP rfl rfl
end Op

end Go.b2

namespace Go.b2
open Go Go.Proofs Go.Sort Go.Shelf
set_option maxRecDepth 100000
namespace Op
open gh
def uO (l:List (List B)) :List (List B) :=l.mergeSort fun x y=>!ib y x
theorem akt (l:List (List B)) (y:List B) :y∈uO l<->y∈l:=by unfold uO; exact List.mem_mergeSort
abbrev Na (l:List (List B)) :List (List B) :=n9 ib l l.length
structure amS (a:List (List B)) (k:Nat) (ae:a7) (l:am) :Prop where
 bu:ae 4=.int .i64 k
 ex:∃ v,ae 3=v/\cf 32 aR [] l v (n9 ib a k++a.drop k) false
structure amQ (t:List (List B)) (x:List B) (i:Nat) (m:Nat) (ae:a7) (l:am) :Prop where
 bu:ae 4=.int .i64 i
 ex:∃ (k:Nat) (v:U),k=m/\k<=i/\ae 3=v/\ae 5=.int .i64 k/\cf 32 aR [] l v (kg t k x) false/\n5 ib t x k=n5 ib t x i
end Op

end Go.b2

namespace Go.b2
open Go Go.Proofs
set_option maxRecDepth 100000
namespace Op
open gh
def s3 (s:ck) (k:List UInt8) :Bool × gK × Int:=if ob s=0 then (zI s.set.l k,(nP s.bQ.l k).1,0) else (false,ij,ob s)
theorem BC (s:fq) :(aU s).cells=some [aU s] :=by cases s<;>rfl
theorem amj (s:ck) (ap:lr s) (k:List UInt8) :bw Tryz.prog GS 13 [.aM (fP s),.str k] (.bG [.bool (s3 s k).1,.aM (cW (s3 s k).2.1),.int .i64 (s3 s k).2.2]) :=by
 refine bP Tryz.checked.mixed bC ?_;apply bj Tryz.func13 [];unfold s3;have ce:=IK s;have dr:=aml s ap;have FJ:=qG s.set;have m7:=tD s.bQ;have aG:=al7 s.set ap.set ap.ls k;have ar:=amh s.bQ ap.bQ ap.n1 k;unfold fP at dr ce;obtain⟨V,m4⟩:∃ V,V=cW (nP s.bQ.l k).1:=⟨_,rfl⟩
 have apc:bm V=true:=by rw[m4]; simp[cW,bm,U.closed]
 have sg:V.length=4:=by rw[m4]; rfl
 rw[<-m4] at ar;have KZ:bz [U.int .u8 0,.int .i64 0,.int .u64 0,.str []] 0 V=V:=fE (by rw[sg]; rfl);have afG:bz V 0 V=V:=fE rfl;simp[fP];refine bf dr (by simpa [bm,U.closed] using ce) ?_;by_cases aE:ob s=0
 ·simp[aE];refine bf aG (by simp[bm,U.closed,FJ]) ?_;simp;refine bf ar (by simp[bm,U.closed,m7]) ?_;simp[sg,KZ,afG,atr];refine aP (by rw[m4,if_pos aE]) (by rw[if_pos aE]; simp[U.closed,bm,cW])
 ·simp[aE];exact aP rfl rfl
theorem pt {α:Type} {enc:α->List U} {z by_:Nat} (l:am) (b:Nat) (jg:l[b]? = some (.cells 0 [])) (s:dR α) (h:∀ x∈s.l,(enc x).length=z) (aE:z≠0) (ag:by_≠0) (ax:s.l.length*by_<=ct) :
  fz l z by_ (.au z b 0 0 0 0) (cK z enc s)=some (.au z b 0 s.l.length s.l.length (s.l.length*z),l.set b (.cells (s.l.length*z) (s.l.map enc).flatten)) :=by
 have fL:=E0 h;unfold fz;rw[BM];simp only[];unfold h4;by_cases aw:s.l.length=0
 ·have aE:s.l=[] :=aug.1 aw;rw[aE];obtain⟨fB,adD⟩:=atq.1 jg;have:l.set b (.cells 0 [])=l:=by rw[<-adD,List.set_getElem_self]
  simp[this]
 ·rw[if_neg aw,if_neg (by omega)];have bx:¬ s.l=[] :=fun h=>aw (by rw[h]; rfl)
  simp[ax,aE,aw,bx,jg]
def td (s:ck) :ck:=⟨s.dB,some s.set.l,some s.bQ.l,some s.bM.l⟩
theorem alq {s:ck} (h:lr s) :lr (td s) :=⟨h.set,h.bQ,h.bM,h.ls,h.n1,h.rj⟩
set_option maxHeartbeats 4000000 in
theorem ajj (s:ck) (ap:lr s) :bw Tryz.prog GS 16 [.aM (fP s)] (.aM (fP (td s))) :=by
 refine bP Tryz.checked.mixed bC ?_;apply bj Tryz.func16 [[[0],[1],[2],[3],[4],[5],[8],[9],[10],[11],[14],[15],[16],[6,16,14,11,8,1],[7],[12,16,14,1],[13],[17,1]]];have ax:ct=140737488355328:=rfl;have hI:∀ x∈s.set.l,(c5 x).length=33:=fun x af=>nN (ap.set x af)
 have fO:∀ x∈s.bQ.l,(cd x).length=38:=fun x af=>iQ (ap.bQ x af).id
 have z3:∀ x∈s.bM.l,(aR x).length=32:=fun x af=>cQ (ap.bM x af)
 have l1:=ap.ls;have b5:=ap.n1;have dU:=ap.rj;obtain⟨A,cz⟩:∃ A,A=a2.cells 4 (fP s) :=⟨_,rfl⟩
 obtain⟨C,nQ⟩:∃ C,C=a2.cells 4 [U.int .i64 0,.a1,.a1,.a1] :=⟨_,rfl⟩
 have aS:=pt (enc:=c5) (by_:=48) [A,C,.cells 0 [],.cells 0 [],.cells 0 []] 2 rfl s.set hI (by omega) (by omega) (by rw[ax]; omega);have aX:=pt (enc:=cd) (by_:=96) [A,C,.dead,.cells 0 [],.cells 0 []] 3 rfl s.bQ fO (by omega) (by omega) (by rw[ax]; omega);have a3:=pt (enc:=aR) (by_:=32) [A,C,.dead,.dead,.cells 0 []] 4 rfl s.bM z3 (by omega) (by omega) (by rw[ax]; omega);have aQ:U.bD 33 (s.set.l.map c5)=eh (some s.set.l) :=rfl;have bF:U.bD 38 (s.bQ.l.map cd)=dA (some s.bQ.l) :=rfl;have dz:U.bD 32 (s.bM.l.map aR)=aU (some s.bM.l) :=rfl;have gm:=BD (some s.set.l);have hr:=zg (some s.bQ.l);have rn:=BC (some s.bM.l);rw[cz,nQ] at aS aX a3;unfold fP at aS aX a3;change fz _ _ _ _ (eh s.set)=_ at aS;change fz _ _ _ _ (dA s.bQ)=_ at aX;change fz _ _ _ _ (aU s.bM)=_ at a3;simp[fP,aS];refine c0.r8 (by exact mx hI rfl rfl) rfl ?_;simp[aQ,gm,aX];refine c0.r8 (by exact mx fO rfl rfl) rfl ?_;simp[bF,hr,a3];refine c0.r8 (by exact mx z3 rfl rfl) rfl ?_;simp[dz,rn,bz];exact aP rfl (show (U.aM (fP (td s))).closed=true by have:=IK (td s); simpa [U.closed] using this)
def amK:bp:=⟨0,none,0,⟨0,[],ij⟩,0,0⟩
def E5 (g:bg) (x:List B) :bp × Int:=if x∈g.ids.l then (mw g.ops.l (tE g.ids.l x),0) else (amK,6)
theorem Jp {g:bg} (V:kv g) {i:Nat} {x:List B} {o:bp} (av:g.ids.l[i]? = some x) (ap:g.ops.l[i]? = some o) :E5 g x=(o,0) :=by
 unfold E5;rw[if_pos (atz av),EF V.dN av,sR ap]
def kR:ck:=⟨0,none,none,none⟩
abbrev wd (o:bp) (h:List B) :Bool:=!decide (h∈o.bo.l)
def Cr (s:ck) (o:bp) (x:List B) :List (List B) :=uO (s.bM.l.filter (wd o)++[x])
noncomputable def RM (s:ck) (o:bp) (x:List B) (b:fq) :ck × Int:=
 if (rX s.set o b).2=0 then (if (DG s.bQ o).2=0 then (⟨s.dB+1,(rX s.set o b).1,(DG s.bQ o).1,some (Cr s o x)⟩,0) else (kR,(DG s.bQ o).2)) else (kR,(rX s.set o b).2)
noncomputable def ET (s:ck) (g:bg) (x:List B) :ck × Int:=
 if x∈g.ids.l then (if x∈s.bM.l then (kR,14) else if s.dB=60 then (kR,18) else RM s (E5 g x).1 x (fp (jG g (tE g.ids.l x)))) else (kR,6)
theorem Rc (s:ck) (e:Int) :(U.bG [.aM (fP s),.int .i64 e]).closed=true:=by have:=IK s; simp[U.closed,bm,this]
abbrev aiC (s:ck) (g:bg) (O X:List U) (A:gq) (R:jW) (v:U) :am:=
 [.cells 4 [.int .i64 s.dB,eh s.set,dA s.bQ,aU s.bM],.cells 2 [aU g.ids,b4 g.ops],.cells 32 X,.cells 4 [.int .i64 0,.a1,.a1,.a1],.cells 11 O,.cells 4 [.int .i64 (s.dB+1),eh A,dA R,v]]
structure amP (s:ck) (g:bg) (o:bp) (O X:List U) (A:gq) (R:jW) (k:Nat) (ae:a7) (l:am) :Prop where
 bc:ae 5=.ptr 2 0 32
 ch:ae 6=.ptr 3 0 4
 eu:ae 8=.ptr 4 0 11
 fA:ae 12=.ptr 5 0 4
 aoY:ae 70=aU s.bM
 aoZ:ae 71=.int .i64 s.bM.l.length
 ao0:ae 72=.int .i64 k
 ex:∃ v j rest,l=aiC s g O X A R v++rest/\bJ 32 l v j (((s.bM.l.take k).filter (wd o)).map aR)/\(v=.a1\/6<=j)/\cD v=((s.bM.l.take k).filter (wd o)).isEmpty
theorem Nb {s:ck} (h:ob s=0) :(0<=s.dB/\s.dB<=60/\s.bM.l.length<=60)/\jw s.set.l=0/\lm s.bQ.l=0/\dN s.bM.l=true:=by
 unfold ob hO zD xr at h;split at h
 ·rename_i h1;simp only[atv,decide_eq_true_eq] at h1;obtain⟨⟨a,b,c,d⟩,e,f,g⟩:=h1;exact⟨⟨a,b,by omega⟩,e,f,g⟩
 ·cases h
structure am0 (a:fq) (o:bp) (X:List U) (k:Nat) (ae:a7) (l:am) :Prop where
 b8:ae 0=aU a
 bu:ae 4=.ptr 0 0 11
 bc:ae 5=.ptr 1 0 32
 eu:ae 8=.int .i64 k
 ex:∃ v j rest,l=.cells 11 (bl o) ::.cells 32 X::rest/\ae 7=v/\bJ 32 l v j (((a.l.take k).filter (wd o)).map aR)/\(v=.a1\/2<=j)/\cD v=((a.l.take k).filter (wd o)).isEmpty
def Cq (l:List (List B)) (o:bp) (x:List B) :List (List B) :=Na (l.filter (wd o)++[x])
theorem GJ (a:List B) :ib a a=false:=by
 cases h:ib a a with
 | false=>rfl
 | true=>rw[wk,qH] at h; omega
theorem Ap (a b c:List B) (h1:ib a b=true) (ad:ib b c=true) :ib a c=true:=(wk _ _).2 (xc a b c ((wk _ _).1 h1) ((wk _ _).1 ad))
theorem GK (a b:List B) (bx:a≠b) (h:ib a b=false) :ib b a=true:=by
 rw[wk,xb];rcases IM a b with h1 | h1 | h1
 ·rw[(wk a b).2 (by omega)] at h; cases h
 ·exact absurd (zk h1) bx
 ·omega
theorem aks (l:List (List B)) :(uO l).Pairwise fun a b=>ib b a=false:=by
 unfold uO;have h:=awx (le:=fun x y:List B=>!ib y x) (fun a b c h1 ad=>by
  simp only[auP] at h1 ad ⊢;cases aj:ib c a with
  | false=>rfl
  | true=>
   by_cases e2:a=b
   ·subst e2; rw[aj] at ad; cases ad
   ·have aF:=GK b a (fun e=>e2 e.symm) h1;have aW:=Ap _ _ _ aj aF;rw[aW] at ad; cases ad) (fun a b=>by
  cases h1:ib a b with
  | false=>simp
  | true=>
   cases ad:ib b a with
   | false=>simp
   | true=>have:=Ap _ _ _ h1 ad; rw[GJ] at this; cases this) l
 exact h.imp fun {a b} e2=>by simpa using e2
theorem akL {l:List (List B)} (aC:l.Nodup) :uO l=Na l:=by
 have ay:(uO l).Perm l:=List.mergeSort_perm l _;have pV:(uO l).Nodup:=ay.nodup_iff.2 aC;have al:(uO l).Pairwise fun a b=>ib a b=true:=by
  refine List.Pairwise.imp (R:=fun a b=>ib b a=false/\a≠b) (fun {a b} h=>GK b a (fun e=>h.2 e.symm) h.1) ?_;exact List.pairwise_and_iff.2 ⟨aks l,pV⟩
 exact DV GJ Ap al (M7 Ap GK aC (att _)) fun y=>by rw[akt,HB (att _),atW]
theorem Zz (s:gq) (o:bp) {b c:fq} (h:∀ p,p∈b.l<->p∈c.l) (ag:b.l.length<=60) (ah:c.l.length<=60) :rX s o b=rX s o c:=by
 have al:s8 o b=s8 o c:=by
  funext t; unfold s8; rw[decide_eq_decide.2 (h t.id)]
 unfold rX;rw[if_neg (show ¬ 60<b.l.length by omega),if_neg (show ¬ 60<c.l.length by omega),al]
theorem aid:lr kR:=⟨fun t aI=>(by cases aI),fun t aI=>(by cases aI),fun t aI=>(by cases aI),by simp[kR],by simp[kR],by simp[kR]⟩
structure Zg (r:bR) :Prop where
 id:r.id.length=32
 lj:-9223372036854775808<=r.val.num
 n2:r.val.num<9223372036854775808
structure am4 (s:ck) :Prop where
 set:mv s.set.l
 bQ:∀ r∈s.bQ.l,Zg r
 bM:h0 s.bM
theorem ahw (a b:bR) (bx:a.key≠b.key) (h:lh a b=false) :lh b a=true:=by
 unfold lh at h ⊢;rw[M2] at h;rw[s6];have ad:b.key<=a.key:=h;exact Decidable.byContradiction fun aj=>bx (awv (show a.key<=b.key from aj) ad)
theorem VC (a b c:bR) (h1:lh a b=true) (ad:lh b c=true) :lh a c=true:=AP h1 ad
theorem B9 (l:List bR) :kZ l=true<->(∀ t∈l,nt t=true)/\l.Pairwise fun a b=>lh a b=true:=by
 constructor
 ·intro h;refine⟨fun t aI=>?_,aui.2 fun i j av ai ho=>?_⟩
  ·obtain⟨k,hk⟩:=atx.1 aI;have h1:=(of_decide_eq_true h) k (atq.1 hk).1;unfold tP at h1;rw[mD hk,atv] at h1;exact h1.1
  ·exact vA h (d:=j - i - 1) (atu av) (by rw[show i+(j - i - 1)+1=j by omega]; exact atu ai)
 ·rintro⟨h1,ad⟩;refine St fun k hk=>?_
  unfold tP;have az:=atu hk;rw[mD az,h1 _ (avy hk),auu];by_cases xP:k=0
  ·simp[xP]
  ·have af:=atu (l:=l) (i:=k - 1) (by omega);have:=(aui.1 ad) (k - 1) k (by omega) hk (by omega);unfold lh at this;rw[mD af,this]; simp
theorem Sv {l:List bR} {x:bR} (ar:kZ l=true) (af:nt x=true) :kZ (kQ l x)=true:=by
 obtain⟨h1,ad⟩:=(B9 l).1 ar;unfold kQ;cases aD:hP l x.key with
 | true=>
  rw[if_pos rfl];split
  ·unfold hP at aD;rw[atv,decide_eq_true_eq,decide_eq_true_eq] at aD;obtain⟨ah,hk⟩:=aD;have az:=atu ah;rw[mD az] at hk;refine (B9 _).2 ⟨fun t aI=>?_,aui.2 fun i j av ai ho=>?_⟩
   ·rcases auU aI with e | e
    ·exact h1 t e
    ·rw[e]; exact af
   ·rw[avE] at av ai;have aj:=(aui.1 ad) i j av ai ho;have zV:∀ (t:Nat) (aI:t<l.length),((l.set (eJ l x.key) x)[t]'(by rw[avE]; exact aI)).key=(l[t]'aI).key:=fun t aI=>by
     rw[List.getElem_set];split
     ·rename_i e; subst e; exact hk.symm
     ·rfl
    unfold lh at aj ⊢;rw[zV i av,zV j ai]; exact aj
  ·exact ar
 | false=>
  rw[if_neg (by simp)];have ay:=aiA ar aD;rw[<-ay];refine (B9 _).2 ⟨fun t aI=>?_,UU VC ad fun y az kb=>ahw x y (fun e=>?_) kb⟩
  ·rcases Gs.1 aI with e | e
   ·rw[e]; exact af
   ·exact h1 t e
  ·rcases E2 ar x.key with ⟨aj,_⟩ | ⟨_,aj⟩
   ·rw[aj] at aD; cases aD
   ·exact aj ((yh x.key (l.map bR.key) 0).2 (by rw[e]; exact auS az))
theorem W9 {g:bg} (V:kv g) {k:Nat} {o:bp} {x:List B} (ap:g.ops.l[k]? = some o) (af:g.ids.l[k]? = some x) (dP:o.act.kind=4#8) :nt (hD o x)=true:=by
 have h1:=(V.kY k o x ap af).1;have ad:fY o=0:=by
  unfold qv at h1;split at h1
  ·assumption
  ·rename_i h; exact absurd h1 h
 unfold fY at ad;split at ad
 ·cases ad
 ·split at ad
  ·split at ad
   ·rename_i _ _ aj;unfold sb at aj;simp only[atv,decide_eq_true_eq] at aj;obtain⟨_,aF,aW,_⟩:=aj;unfold jF at aW;rw[dP] at aW;simp only[atv] at aW;unfold nt hD DW;simp only[atv,decide_eq_true_eq];simp at aW;exact⟨aW.1,aW.2,aF⟩
   ·cases ad
  ·cases ad
def gZ (g:bg) :Nat->List bR
 | 0=>[]
 | k+1=>gG (gZ g k) (mw g.ops.l k) (bV g.ids.l k)
theorem WD {g:bg} {k:Nat} {o:bp} {x:List B} (ap:g.ops.l[k]? = some o) (af:g.ids.l[k]? = some x) :gZ g (k+1)=gG (gZ g k) o x:=by
 show gG (gZ g k) (mw g.ops.l k) (bV g.ids.l k)=_;rw[sR ap,fr af]
theorem DC {g:bg} (ar:fG g) (V:kv g) :∀ {k:Nat},k<=g.ops.l.length->kZ (gZ g k)=true/\ju (gZ g k)/\(gZ g k).length<=k
 | 0,_=>⟨rfl,fun t aI=>(by cases aI),att _⟩
 | k+1,hk=>by
  obtain⟨h1,ad,aj⟩:=DC ar V (k:=k) (by omega);obtain⟨o,ap,dZ⟩:=bA (l:=g.ops.l) (k:=k) (by omega);obtain⟨x,af,cX⟩:=bA (l:=g.ids.l) (k:=k) (by rw[V.len]; omega);rw[WD ap af];unfold gG;by_cases dP:o.act.kind=4#8
  ·rw[if_pos dP];have:=Xs (x:=hD o x) ad ⟨ar.ids x cX,(ar.ops o dZ).val⟩;exact⟨Sv h1 (W9 V ap af dP),this.1,by omega⟩
  ·rw[if_neg dP]; exact⟨h1,ad,by omega⟩
structure YY (g:bg) (k:Nat) (ae:a7) (l:am) :Prop where
 aL:ae 1=.ptr 0 0 2
 aT:ae 2=.ptr 1 0 1
 bc:ae 5=.ptr 2 0 1
 ox:ae 15=b4 g.ops
 mZ:ae 16=.int .i64 g.ops.l.length
 nO:ae 17=.int .i64 k
 dH:l[0]? = some (.cells 2 [aU g.ids,b4 g.ops])
 q1:l[1]? = some (.cells 1 [.a1])
 ex:∃ v j,l[2]? = some (.cells 1 [v])/\jC l v j (gZ g k)/\(v=.a1\/3<=j)/\cD v=(gZ g k).isEmpty
def mu (g:bg) :jW:=if eW g=0 then fp (gZ g g.ops.l.length) else none
set_option maxHeartbeats 8000000 in
theorem ami (g:bg) (ar:fG g) :bw Tryz.prog GS 42 [db g] (.bG [.aM [dA (mu g)],.int .i64 (eW g)]) :=by
 refine bP Tryz.checked.mixed bC ?_;apply bj Tryz.func42 [];have eN:=gM g.ids;have dj:=mU g.ops;have dr:=HP g ar;have aeL:=ar.cN;have ew:cP (.au 11) (b4 g.ops)=some (.int .i64 g.ops.l.length) :=by simp[b4]
 unfold db dS at dr;simp[db,dS];refine bf dr (by simp[bm,U.closed,eN,dj]) ?_;by_cases aE:eW g=0
 ·have V:=qh aE;simp[aE,ew];refine cF g.ops.l.length (YY g) ?_ ⟨by simp,by simp,by simp,by simp,by simp,by simp,by simp,by simp,.a1,0,by simp,jC.nil _ 0,.inl rfl,rfl⟩;rintro k ae l hk ⟨aL,aT,bc,ox,mZ,nO,dH,q1,v,j,gn,CK,ai,hU⟩;obtain⟨ae,rfl⟩:=AZ aL aT bc ox mZ nO;clear aL aT bc ox mZ nO;simp;refine kk (fun h=>?_) (fun h=>?_)
  ·simp only[decide_eq_true_eq] at h;obtain⟨o,ap,dZ⟩:=bA (l:=g.ops.l) (k:=k) (by omega);obtain⟨x,af,cX⟩:=bA (l:=g.ids.l) (k:=k) (by rw[V.len]; omega);have zZ:=ar.ops o dZ;have um:=ar.ids x cX;have bF:IntKind.i64.wrap ((k:Int)+1)=((k+1:Nat) :Int) :=by rw[IntKind.wrap_i64]; omega
   have cc:cj (.au 11) (b4 g.ops) (.int .i64 (k:Int))=some (.b6 (bl o) 0) :=by simp[b4,ap]
   have ji:cj (.au 32) (aU g.ids) (.int .i64 (k:Int))=some (.b6 (aR x) 0) :=by simp[aU,af]
   have di:(bl o).length=11:=rfl;have bn:=cQ um;obtain⟨b9,b0,dK⟩:=DC ar V (k:=k) (by omega);have cw:gZ g (k+1)=gG (gZ g k) o x:=WD ap af;have oN:3<=l.length:=by have:=(atq.1 gn).1; omega
   have afb:jC (l++[.cells 11 (bl o)]) v j (gZ g k) :=CK.frame (by
    by_cases aq:v=.a1
    ·exact .inl aq
    ·obtain⟨_,ag⟩:=CK.block aq;exact .inr (ats (atq.1 ag).1))
   have lM:=fun (K:U->am->Prop)=>aiP o zZ.val x um b0 (by have:=ar.cN; omega) (Jr b9 o.act.key) afb (K:=K)
   have uG:∀ c:a2,(l++[c])[2]? = some (.cells 1 [v]) :=fun c=>by rw[ats (by omega)]; exact gn
   have fU:∀ c:a2,(l++[c])[0]? = some (.cells 2 [aU g.ids,b4 g.ops]) :=fun c=>by rw[ats (by omega)]; exact dH
   have np:∀ c:a2,(l++[c])[1]? = some (.cells 1 [.a1]) :=fun c=>by rw[ats (by omega)]; exact q1
   have Hc:∀ c:a2,(l++[c])[l.length]? = some c:=fun c=>awd
   obtain⟨O,eS⟩:∃ O,O=bl o:=⟨_,rfl⟩
   obtain⟨X,cT⟩:∃ X,X=aR x:=⟨_,rfl⟩
   rw[<-eS] at cc di;rw[<-cT] at ji bn;simp only[<-eS,<-cT] at lM;have k9:bz [U.int .u32 0,.a1,.int .u64 0,.int .u8 0,.str [],.int .u8 0,.int .i64 0,.int .u64 0,.str [],.int .u32 0,.int .u32 0] 0 O=O:=fE (by rw[di]; rfl);have ait:∀ (c:a2) (h:0<(l++[c]).length),(l++[c])[0]'h=.cells 2 [aU g.ids,b4 g.ops] :=fun c h=>(atq.1 (fU c)).2
   simp[cc,ji,di,bn,k9,fU,ait,uG,Hc,atr];refine lM _ (fun aY l' bX ec fg pa ry AI yB=>?_);simp at pa;have j6:∀ b,b<3->v=.a1\/b≠j:=fun b ag=>ai.imp id fun h=>by omega
   have t0:l'[0]? = some (.cells 2 [aU g.ids,b4 g.ops]) :=by rw[ry 0 (by simp) (j6 0 (by omega)),fU]
   have t1:l'[1]? = some (.cells 1 [.a1]) :=by rw[ry 1 (by simp; omega) (j6 1 (by omega)),np]
   have t2:l'[2]? = some (.cells 1 [v]) :=by rw[ry 2 (by simp; omega) (j6 2 (by omega)),uG]
   have nj:=ec.o.cells;have hE:∀ y:a2,(l'.set 2 y)[2]? = some y:=fun y=>atO (by omega)
   have ej:aY=.a1\/3<=bX:=by
    rcases fg with h | h | h
    ·right; rw[h.2]; exact ai.resolve_left h.1
    ·right; simp at h; omega
    ·exact .inl h
   simp[t2,nj,bF];refine⟨h,by simp,by simp,by simp,by simp,by simp,by simp,by rw[atF (by omega)]; exact t0,by rw[atF (by omega)]; exact t1,aY,bX,hE _,?_,ej,?_⟩
   ·rw[cw];exact ec.frame (ej.imp id fun h=>atF (by omega))
   ·rw[cw];by_cases dP:o.act.kind=4#8
    ·have eX:cD aY=false:=by
      cases eA:cD aY with
      | false=>rfl
      | true=>exact absurd dP (AI eA).2
     have lC:(gG (gZ g k) o x).isEmpty=false:=by
      cases eA:(gG (gZ g k) o x).isEmpty with
      | false=>rfl
      | true=>
       rw[awt] at eA;exfalso;unfold gG at eA;rw[if_pos dP] at eA;unfold kQ at eA;split at eA
       ·rename_i aD;unfold hP at aD;rw[atv,decide_eq_true_eq] at aD;have q2:0<(gZ g k).length:=by omega
        split at eA
        ·have:=congrArg List.length eA; rw[avE,at7] at this; omega
        ·rw[eA] at q2; simp at q2
       ·have:=congrArg List.length eA; rw[Lr] at this; simp at this
     rw[eX,lC]
    ·have tR:gG (gZ g k) o x=gZ g k:=by unfold gG; rw[if_neg dP]
     rw[yB dP,tR]; exact hU
  ·have jj:k=g.ops.l.length:=by simp at h; omega
   rw[jj] at CK hU;have oN:3<=l.length:=by have:=(atq.1 gn).1; omega
   have c9:∀ y:a2,(l.set 1 y)[1]? = some y:=fun y=>atO (by omega)
   have nj:=CK.o.cells;simp[h,q1,gn,nj,c9];refine Hn (WW ?_) (aP (by rw[aE]) rfl);have iB:bJ 38 (l.set 1 (.cells 1 [v])) v j ((gZ g g.ops.l.length).map cd) :=CK.o.vx (ai.imp id fun h=>atF (by omega));exact iB.q.yD (fun x=>zj x) (mu g) (by unfold mu; rw[if_pos aE,uQ]; exact hU) (by unfold mu; rw[if_pos aE,gQ])
 ·have tW:mu g=none:=by unfold mu; rw[if_neg aE]
  rw[tW];simp[aE];exact aP rfl rfl
def nu (g:bg) (k:Nat) :bR:=hD (mw g.ops.l k) (bV g.ids.l k)
def i5 (a b:bR) :Bool:=qb a.c3 a.id b.c3 b.id
theorem LO (a b:bR) :i5 a b=true<->b.c3.toNat<a.c3.toNat\/(a.c3.toNat=b.c3.toNat/\cl b.id a.id<0) :=by
 unfold i5 qb;rw[avm,decide_eq_true_eq,atv,decide_eq_true_eq,decide_eq_true_eq];have h1:a.c3=b.c3<->a.c3.toNat=b.c3.toNat:=⟨fun h=>by rw[h],atH⟩
 have ad:0<cl a.id b.id<->cl b.id a.id<0:=by rw[xb a.id b.id]; omega
 rw[h1,ad]
theorem VE {a b c:bR} (h1:i5 a b=true) (ad:i5 b c=true) :i5 a c=true:=by
 rw[LO] at h1 ad ⊢;rcases h1 with h1 | ⟨h1,aj⟩<;>rcases ad with ad | ⟨ad,aF⟩
 ·left; omega
 ·left; omega
 ·left; omega
 ·right; exact⟨by omega,xc _ _ _ aF aj⟩
theorem GL (a:bR) :i5 a a=false:=by
 cases h:i5 a a with
 | false=>rfl
 | true=>rw[LO,qH] at h; omega
theorem VD {a b:bR} (bx:a.id≠b.id) (h:i5 a b=false) :i5 b a=true:=by
 have h1:¬ i5 a b=true:=by rw[h]; simp
 rw[LO] at h1 ⊢;by_cases ad:a.c3.toNat<b.c3.toNat
 ·exact .inl ad
 ·right;have aj:¬ b.c3.toNat<a.c3.toNat:=fun e=>h1 (.inl e)
  refine⟨by omega,?_⟩;have aF:¬ cl b.id a.id<0:=fun e=>h1 (.inr ⟨by omega,e⟩)
  have aW:=xb b.id a.id;have bt:cl b.id a.id≠0:=fun e=>bx (zk e).symm
  omega
def wK (g:bg) (j:Nat) :Prop:=(mw g.ops.l j).act.kind=4#8
def w3 (g:bg) (k:Nat) (r:bR) :Prop:=∃ j,j<k/\wK g j/\r=nu g j/\∀ m,m<k->wK g m->(nu g m).key=r.key->i5 (nu g m) r=false
theorem ajM {g:bg} (V:kv g) {i j:Nat} (av:i<g.ops.l.length) (ai:j<g.ops.l.length) (h:(nu g i).id=(nu g j).id) :i=j:=by
 obtain⟨x,af,_⟩:=bA (l:=g.ids.l) (k:=i) (by rw[V.len]; omega);obtain⟨y,az,_⟩:=bA (l:=g.ids.l) (k:=j) (by rw[V.len]; omega);unfold nu hD at h;rw[fr af,fr az] at h;have ad:x=y:=h;subst ad;exact nl V.dN i j x af az
theorem aiO {g:bg} {k:Nat} (h:wK g k) :gZ g (k+1)=kQ (gZ g k) (nu g k) :=by
 show gG (gZ g k) (mw g.ops.l k) (bV g.ids.l k)=_;unfold gG;exact if_pos h
theorem aiN {g:bg} {k:Nat} (h:¬ wK g k) :gZ g (k+1)=gZ g k:=by
 show gG (gZ g k) (mw g.ops.l k) (bV g.ids.l k)=_;unfold gG;exact if_neg h
theorem zC {l:List bR} (h:kZ l=true) {a b:bR} (aB:a∈l) (ag:b∈l) (hk:a.key=b.key) :a=b:=by
 obtain⟨i,av⟩:=atx.1 aB;obtain⟨j,ai⟩:=atx.1 ag;rcases auz i j with h1 | h1 | h1
 ·have:=vA h (d:=j - i - 1) av (by rw[show i+(j - i - 1)+1=j by omega]; exact ai);rw[hk,ql] at this; cases this
 ·subst h1; rw[av] at ai; exact Option.some.inj ai
 ·have:=vA h (d:=i - j - 1) ai (by rw[show j+(i - j - 1)+1=i by omega]; exact av);rw[hk,ql] at this; cases this
theorem Xr {l:List bR} (ar:kZ l=true) (x r:bR) :
  (∀ y∈l,y.key=x.key->i5 x y=true->(r∈kQ l x<->r=x\/(r∈l/\r.key≠x.key))) ∧
  (∀ y∈l,y.key=x.key->i5 x y=false->kQ l x=l) ∧
  ((∀ y∈l,y.key≠x.key)->(r∈kQ l x<->r=x\/r∈l)) :=by
 have FQ:∀ y∈l,y.key=x.key->hP l x.key=true/\mC l (eJ l x.key)=y/\l[eJ l x.key]? = some y:=fun y az hk=>by
  rcases E2 ar x.key with ⟨h1,_⟩ | ⟨_,h1⟩
  ·refine⟨h1,?_⟩;unfold hP at h1;rw[atv,decide_eq_true_eq,decide_eq_true_eq] at h1;obtain⟨z,aw,sD⟩:=bA h1.1;have aj:=mD aw;rw[aj] at h1;have:=zC ar sD az (by rw[h1.2,hk]);subst this;exact⟨aj,aw⟩
  ·exact absurd ((yh x.key (l.map bR.key) 0).2 (by rw[<-hk]; exact auS az)) h1
 refine⟨fun y az hk ak=>?_,fun y az hk ak=>?_,fun dF=>?_⟩
 ·obtain⟨h1,ad,aj⟩:=FQ y az hk;unfold kQ;rw[if_pos h1,ad,if_pos (show qb x.c3 x.id y.c3 y.id=true from ak)];have aK:=(atq.1 aj).1;constructor
  ·intro h;obtain⟨i,av⟩:=atx.1 h;by_cases e:eJ l x.key=i
   ·rw[<-e,atO aK] at av; exact .inl (Option.some.inj av).symm
   ·rw[atF e] at av;refine .inr ⟨atz av,fun hp=>e ?_⟩;have:=zC ar (atz av) az (by rw[hp,hk]);subst this;rcases auz (eJ l x.key) i with q | q | q
    ·have:=vA ar (d:=i - eJ l x.key - 1) aj (by rw[show eJ l x.key+(i - eJ l x.key - 1)+1=i by omega]; exact av);rw[ql] at this; cases this
    ·exact q
    ·have:=vA ar (d:=eJ l x.key - i - 1) av (by rw[show i+(eJ l x.key - i - 1)+1=eJ l x.key by omega]; exact aj);rw[ql] at this; cases this
  ·rintro (rfl | ⟨h,hp⟩)
   ·exact atx.2 ⟨_,atO aK⟩
   ·obtain⟨i,av⟩:=atx.1 h;refine atx.2 ⟨i,?_⟩;rw[atF (fun e=>by subst e; rw[aj] at av; obtain rfl:=Option.some.inj av; exact hp hk)];exact av
 ·obtain⟨h1,ad,aj⟩:=FQ y az hk;have aF:¬ qb x.c3 x.id y.c3 y.id=true:=by unfold i5 at ak; rw[ak]; simp
  unfold kQ;rw[if_pos h1,ad,if_neg aF]
 ·have h1:hP l x.key=false:=by
   cases ad:hP l x.key with
   | false=>rfl
   | true=>
    unfold hP at ad;rw[atv,decide_eq_true_eq,decide_eq_true_eq] at ad;obtain⟨z,aw,sD⟩:=bA ad.1;rw[mD aw] at ad;exact absurd ad.2 (dF z sD)
  unfold kQ;rw[if_neg (by rw[h1]; simp),Gs]
theorem WC {g:bg} (ar:fG g) (V:kv g) :∀ {k:Nat},k<=g.ops.l.length->(∀ r,r∈gZ g k<->w3 g k r)/\(∀ m,m<k->wK g m->∃ r∈gZ g k,r.key=(nu g m).key)
 | 0,_=>⟨fun r=>⟨fun h=>(by cases h),fun ⟨j,ai,_⟩=>by omega⟩,fun m hm=>by omega⟩
 | k+1,hk=>by
  obtain⟨c2,hy⟩:=WC ar V (k:=k) (by omega);have me:=(DC ar V (k:=k) (by omega)).1;by_cases al:wK g k
  ·rw[aiO al];obtain⟨x,af⟩:∃ x,x=nu g k:=⟨_,rfl⟩
   rw[<-af];have jm:=fun r=>Xr me x r
   have xJ:∀ {r},w3 g k r->(nu g k).key≠r.key\/i5 (nu g k) r=false->w3 g (k+1) r:=fun {r} ⟨j,ai,h1,ad,aj⟩ h=>⟨j,by omega,h1,ad,fun m hm jP aZ=>by
    by_cases e:m=k
    ·rw[e] at aZ ⊢; exact h.resolve_left fun aC=>aC aZ
    ·exact aj m (by omega) jP aZ⟩
   have yc:∀ {r},w3 g (k+1) r->r=x\/w3 g k r:=fun {r} ⟨j,ai,h1,ad,aj⟩=>by
    by_cases e:j=k
    ·subst e; left; rw[ad,af]
    ·exact .inr ⟨j,by omega,h1,ad,fun m hm jP hk=>aj m (by omega) jP hk⟩
   have h9:∀ {r},w3 g (k+1) r->x.key=r.key->i5 x r=false:=fun {r} ⟨j,ai,h1,ad,aj⟩ hk=>by rw[af]; exact aj k (by omega) al (by rw[<-af]; exact hk)
   by_cases pR:∃ y∈gZ g k,y.key=x.key
   ·obtain⟨y,az,iD⟩:=pR;have cx:=(c2 y).1 az;cases ak:i5 x y with
    | true=>
     refine⟨fun r=>?_,fun m hm jP=>?_⟩
     ·rw[(jm r).1 y az iD ak];constructor
      ·rintro (rfl | ⟨h,hp⟩)
       ·refine⟨k,by omega,al,af,fun m hm jP hk=>?_⟩;by_cases e:m=k
        ·subst e; rw[<-af]; exact GL _
        ·cases eX:i5 (nu g m) r with
         | false=>rfl
         | true=>
          obtain⟨j,ai,h1,ad,aj⟩:=cx;have:=aj m (by omega) jP (by rw[hk,iD]);rw[VE eX ak] at this; cases this
       ·exact xJ ((c2 r).1 h) (.inl (by rw[<-af]; exact fun e=>hp e.symm))
      ·intro h;rcases yc h with e | e
       ·exact .inl e
       ·refine .inr ⟨(c2 r).2 e,fun hp=>?_⟩;have h1:=h9 h hp.symm;rw[zC me ((c2 r).2 e) az (by rw[hp,iD]),ak] at h1; cases h1
     ·by_cases e:(nu g m).key=x.key
      ·exact⟨x,((jm x).1 y az iD ak).2 (.inl rfl),e.symm⟩
      ·obtain⟨r,ax,hp⟩:=hy m (avL (by omega) fun q=>e (by rw[q,af])) jP;exact⟨r,((jm r).1 y az iD ak).2 (.inr ⟨ax,by rw[hp]; exact e⟩),hp⟩
    | false=>
     rw[(jm x).2.1 y az iD ak];refine⟨fun r=>⟨fun h=>xJ ((c2 r).1 h) ?_,fun h=>?_⟩,fun m hm jP=>?_⟩
     ·by_cases hp:r.key=x.key
      ·right;rw[zC me h az (by rw[hp,iD]),<-af]; exact ak
      ·exact .inl (by rw[<-af]; exact fun e=>hp e.symm)
     ·rcases yc h with e | e
      ·exfalso;subst e;obtain⟨j,ai,h1,ad,aj⟩:=cx;obtain⟨bX,_,_,_,aF⟩:=h;have aW:=aF j (by omega) h1 (by rw[<-ad]; exact iD);rw[<-ad] at aW;by_cases gV:y.id=r.id
       ·rw[ad,af] at gV;have:=ajM V (by omega) (by omega) gV;omega
       ·have:=VD gV aW;rw[ak] at this; cases this
      ·exact (c2 r).2 e
     ·by_cases e:m=k
      ·subst e; exact⟨y,az,by rw[<-af]; exact iD⟩
      ·exact hy m (by omega) jP
   ·have dF:∀ y∈gZ g k,y.key≠x.key:=fun y az e=>pR ⟨y,az,e⟩
    refine⟨fun r=>?_,fun m hm jP=>?_⟩
    ·rw[(jm r).2.2 dF];constructor
     ·rintro (rfl | h)
      ·refine⟨k,by omega,al,af,fun m hm jP hk=>?_⟩;by_cases e:m=k
       ·subst e; rw[<-af]; exact GL _
       ·obtain⟨q,aZ,vV⟩:=hy m (by omega) jP;exact absurd (by rw[vV,hk]) (dF q aZ)
      ·exact xJ ((c2 r).1 h) (.inl (by rw[<-af]; exact fun e=>dF r h e.symm))
     ·intro h;rcases yc h with e | e
      ·exact .inl e
      ·exact .inr ((c2 r).2 e)
    ·by_cases e:m=k
     ·subst e; exact⟨x,((jm x).2.2 dF).2 (.inl rfl),by rw[af]⟩
     ·obtain⟨r,ax,hp⟩:=hy m (by omega) jP;exact⟨r,((jm r).2.2 dF).2 (.inr ax),hp⟩
  ·rw[aiN al];refine⟨fun r=>?_,fun m hm jP=>hy m (avL (by omega) fun e=>al (by rw[<-e]; exact jP)) jP⟩;rw[c2];constructor
   ·rintro⟨j,ai,h1,ad,aj⟩;exact⟨j,by omega,h1,ad,fun m hm jP hk=>aj m (avL (by omega) fun e=>al (by rw[<-e]; exact jP)) jP hk⟩
   ·rintro⟨j,ai,h1,ad,aj⟩;exact⟨j,avL (by omega) fun e=>al (by rw[<-e]; exact h1),h1,ad,fun m hm jP hk=>aj m (by omega) jP hk⟩
def xn (g:bg) (x:List B) (m:Nat) :Bool:=decide (∀ j,j<m->x∉(mw g.ops.l j).bo.l)
theorem acg (g:bg) (x:List B) (m:Nat) :xn g x (m+1)=(xn g x m&&!decide (x∈(mw g.ops.l m).bo.l)) :=by
 unfold xn;rw[Bool.eq_iff_iff,atv,decide_eq_true_eq,decide_eq_true_eq,auP,decide_eq_false_iff_not];constructor
 ·intro h; exact⟨fun j ai=>h j (by omega),h m (by omega)⟩
 ·rintro⟨h1,ad⟩ j ai;by_cases e:j=m
  ·rw[e]; exact ad
  ·exact h1 j (by omega)
abbrev zP (g:bg) (x:List B) :Bool:=xn g x g.ops.l.length
def zN (g:bg) :List (List B) :=g.ids.l.filter (zP g)
structure Y1 (g:bg) (dT:am) (w:U) (seen:List Bool) (k:Nat) (ae:a7) (l:am) :Prop where
 aL:ae 1=w
 aT:ae 2=.ptr dT.length 0 2
 eu:ae 8=.int .i64 seen.length
 hn:ae 9=.int .i64 k
 ex:∃ v,ae 5=v/\cf 32 aR (dT++[.cells 2 [aU g.ids,b4 g.ops]]) l v (js g.ids.l seen k) (js g.ids.l seen k).isEmpty
set_option maxHeartbeats 4000000 in
theorem ahD (g:bg) (ar:fG g) {dT:am} {w:U} {kj:Nat} {seen:List Bool} (al:seen.length=g.ids.l.length) (hw:bJ 1 dT w kj (seen.map h7)) (aeB:kj<dT.length) {K:U->am->Prop}
  (aV:∀ v l',cf 32 aR dT l' v (js g.ids.l seen seen.length) (js g.ids.l seen seen.length).isEmpty->K v l') :
  c7 Tryz.prog GS 89 [db g,w] dT (c:=⟨K⟩) :=by
 apply bj Tryz.func89 [];have ax:ct=140737488355328:=rfl;have gN:=ar.li;have e4:cP (.au 1) w=some (.int .i64 seen.length) :=by have:=hw.len; simpa using this
 simp[db,dS,e4];refine cF seen.length (Y1 g dT w seen) ?_ ⟨by simp,by simp,by simp,by simp,.a1,by simp,cf.nil⟩;rintro k ae l hk ⟨aL,aT,eu,hn,v,bc,en⟩;obtain⟨ae,rfl⟩:=kU aL aT bc eu hn;clear aL aT bc eu hn;have dH:l[dT.length]? = some (.cells 2 [aU g.ids,b4 g.ops]) :=by rw[en.same _ (by simp)]; simp
 have vY:bJ 1 l w kj (seen.map h7) :=hw.vx (.inr (by rw[en.same _ (by simp; omega),ats aeB]));by_cases cI:k<seen.length
 ·obtain⟨b,ag,_⟩:=bA cI;obtain⟨x,af,cX⟩:=bA (l:=g.ids.l) (k:=k) (by omega);have aQ:IntKind.i64.wrap ((k:Int)+1)=((k+1:Nat) :Int) :=by rw[IntKind.wrap_i64]; omega
  obtain⟨p,cs,o,ii,jA,A5,mG⟩:=vY.q.get (k:=.i64) (i:=k) (e:=h7 b) (by rw[atw,ag]; rfl);have rJ:cs[o]? = some (.bool b) :=by
   have ad:((cs.drop o).take 1)[0]? = (h7 b)[0]?:=by rw[mG]
   rw[atP (by omega)] at ad;simpa [h7] using ad
  have ji:cj (.au 32) (aU g.ids) (.int .i64 (k:Int))=some (.b6 (aR x) 0) :=by simp[aU,af]
  have x7:seen.getD k false=b:=by rw[atE,ag]; rfl
  have bn:=cQ (ar.ids x cX);have lL:=GU g.ids.l seen k;have p5:=GV g.ids.l seen k;have fO:=aas jA;rw[x7] at p5;cases b with
  | false=>
   simp at p5;simp[cI,ii,jA,rJ,fO,aQ];exact⟨by simp,by simp,by simp,by simp,v,by simp,by rw[p5]; exact en⟩
  | true=>
   rw[if_pos rfl,fr af] at p5;obtain⟨aY,Vr,aS,ae9,h6⟩:=L7 (by_:=32) (en.more [a2.cells 32 (aR x)]) x (b:=l.length) (by simp) bn (by omega) (by omega) (by rw[ax]; omega);obtain⟨X,cT⟩:∃ X,X=aR x:=⟨_,rfl⟩
   rw[<-cT] at ji bn aS;have oX:bz (rep 32 (.int .u8 0)) 0 X=X:=fE (by rw[bn]; rfl);simp[cI,ii,jA,rJ,fO,dH,ji,bn,oX,atr,aS];refine c0.cq ?_;simp[cI,aQ];exact⟨by simp,by simp,by simp,by simp,aY,by simp,by rw[p5,show (js g.ids.l seen k++[x]).isEmpty=false by simp]; exact ae9⟩
 ·have oL:k=seen.length:=by omega
  subst oL;simp[cI];exact aV _ _ (en.base (by simp) (fun b ag=>ats ag))
def qM (n k:Nat) :List Bool:=(List.range n).map fun i=>decide (i<k)
theorem abO (n k:Nat) :(qM n k).length=n:=by simp[qM]
theorem abQ (n:Nat) :qM n 0=List.replicate n false:=by
 apply auk ; intro i;unfold qM;by_cases h:i<n
 ·rw[atw,at3 h,List.getElem?_replicate,if_pos h]; simp
 ·rw[atG (by simp; omega),atG (by simp; omega)]
theorem abP {n k:Nat} (h:k<n) :(qM n k).set k true=qM n (k+1) :=by
 apply auk ; intro i;unfold qM;by_cases av:i<n
 ·by_cases e:k=i
  ·subst e;rw[atO (by simp; omega),atw,at3 av]; simp
  ·rw[atF e,atw,atw,at3 av];simp; omega
 ·rw[atG (by simp; omega),atG (by simp; omega)]
def k1 (g:bg) (q m:Nat) :List Bool:=(List.range g.ids.l.length).map fun i=>xn g (bV g.ids.l i) q&&!decide (bV g.ids.l i∈(mw g.ops.l q).bo.l.take m)
theorem J9 (g:bg) (q m:Nat) :(k1 g q m).length=g.ids.l.length:=by simp[k1]
theorem adU (g:bg) :qM g.ids.l.length g.ids.l.length=k1 g 0 0:=by
 unfold qM k1;refine au0 fun i av=>?_
 rw[at4] at av;rw[decide_eq_true av];simp[xn]
theorem adS (g:bg) (q:Nat) :k1 g q (mw g.ops.l q).bo.l.length=k1 g (q+1) 0:=by
 unfold k1;refine au0 fun i av=>?_
 rw[atW,acg]; simp
theorem adT {g:bg} (ai:iw g.ids.l) {q m i:Nat} {p:List B} (ay:(mw g.ops.l q).bo.l[m]? = some p) (av:g.ids.l[i]? = some p) :(k1 g q m).set i false=k1 g q (m+1) :=by
 have du:=(atq.1 av).1;apply auk ; intro t;unfold k1;have cw:(mw g.ops.l q).bo.l.take (m+1)=(mw g.ops.l q).bo.l.take m++[p] :=by rw[atJ,ay]; rfl
 by_cases aI:t<g.ids.l.length
 ·obtain⟨y,az,_⟩:=bA aI;by_cases e:i=t
  ·subst e;rw[atO (by simp; omega),atw,at3 aI,cw]; simp[av]
  ·rw[atF e,atw,atw,at3 aI,cw];have bx:y≠p:=fun h=>e (by subst h; exact ai i t y av az)
   simp[az,bx]
 ·rw[atG (by simp; omega),atG (by simp; omega)]
theorem VN (g:bg) :∀ k,k<=g.ids.l.length->js g.ids.l (k1 g g.ops.l.length 0) k=(g.ids.l.take k).filter (zP g)
 | 0,_=>rfl
 | k+1,hk=>by
  obtain⟨x,af,_⟩:=bA (l:=g.ids.l) (k:=k) (by omega);have h1:(k1 g g.ops.l.length 0).getD k false=zP g x:=by
   rw[atE];unfold k1;rw[atw,at3 (by omega)];simp[fr af,af]
  rw[GV,VN g k (by omega),h1,fr af,atJ,af,List.filter_append];cases h:zP g x<;>simp[h]
structure rW (g:bg) (ft b:Nat) (S:List Bool) (l:am) :Prop where
 dH:l[0]? = some (.cells 2 [aU g.ids,b4 g.ops])
 p:mK l ft g.ids.l
 w:bJ 1 l (.au 1 b 0 g.ids.l.length g.ids.l.length g.ids.l.length) b (S.map h7)
 ag:b<l.length
 hm:ft<b
 aE:0<ft
theorem rW.more {g:bg} {ft b:Nat} {S:List Bool} {l:am} (h:rW g ft b S l) (c:a2) :rW g ft b S (l++[c]) :=
 ⟨by rw[ats (by have:=h.ag; omega)]; exact h.dH,h.p.frame (ats h.p.lt),h.w.more _,by have:=h.ag; simp; omega,h.hm,h.aE⟩
theorem rW.set {g:bg} {ft b:Nat} {S:List Bool} {l:am} (h:rW g ft b S l) {i:Nat} {v:Bool} (av:i<S.length) :
  ∃ p l',cj (.au 1) (.au 1 b 0 g.ids.l.length g.ids.l.length g.ids.l.length) (.int .i64 (i:Int))=some p/\jT 1 l p (.bool v)=some l'/\rW g ft b (S.set i v) l':=by
 obtain⟨p,l',aS,aX,a3,a4,a5⟩:=G9 (enc:=h7) (x:=v) (X:=.bool v) rfl h.w (fun _ _=>rfl) av rfl;have h1:=h.hm;have ad:=h.aE;exact⟨p,l',aS,aX,by rw[a5 0 (by omega)]; exact h.dH,h.p.frame (a5 ft (by omega)),a3,by rw[a4]; exact h.ag,h.hm,h.aE⟩
def mF (g:bg) :fq:=if eW g=0 then fp (zN g) else none
set_option maxHeartbeats 8000000 in
theorem al8 (g:bg) (ar:fG g) :bw Tryz.prog GS 43 [db g] (.bG [aU (mF g),.int .i64 (eW g)]) :=by
 refine bP Tryz.checked.mixed bC ?_;apply bj Tryz.func43 [];have ax:ct=140737488355328:=rfl;have eN:=gM g.ids;have dj:=mU g.ops;have aeL:=ar.cN;have apC:=ar.li;have dr:=HP g ar;have ew:cP (.au 11) (b4 g.ops)=some (.int .i64 g.ops.l.length) :=by simp[b4]
 have gN:cP (.au 32) (aU g.ids)=some (.int .i64 g.ids.l.length) :=by simp[aU]
 unfold db dS at dr;simp[db,dS];refine bf dr (by simp[bm,U.closed,eN,dj]) ?_;by_cases aE:eW g=0
 ·have V:=qh aE;have dY:=nl V.dN;simp[aE];refine Wl g ar dY ?_;intro ft l1 lD vL iB oO;have dH:l1[0]? = some (a2.cells 2 [aU g.ids,b4 g.ops]) :=by rw[iB 0 (by simp)]; rfl
  obtain⟨aS,aX⟩:=Dj (z:=1) (by_:=1) (n:=g.ids.l.length) (k:=.i64) (k':=.i64) (zero:=[U.bool false]) (l:=l1) rfl (by omega) (by rw[ax]; omega);obtain⟨N,fj⟩:∃ N,N=g.ids.l.length:=⟨_,rfl⟩
  simp only[auW] at aS aX;have dt:rW g ft l1.length (qM g.ids.l.length 0) (l1++[.cells g.ids.l.length (dk [.bool false] g.ids.l.length)]) :=by
   have h1:l1.length ≥ 1:=by simp at oO; omega
   refine⟨by rw[ats (by omega)]; exact dH,lD.frame (ats lD.lt),?_,by simp,lD.lt,by simp at vL; omega⟩;rw[abQ,awc]; exact aX
  simp[dH,gN,aS];obtain⟨b,ag⟩:∃ b,b=l1.length:=⟨_,rfl⟩
  rw[<-ag] at dt ⊢;refine cF g.ids.l.length (fun k ae l=>ae 1=.ptr 0 0 2/\ae 5=.mp ft/\ae 6=.au 1 b 0 g.ids.l.length g.ids.l.length g.ids.l.length/\ae 24=.int .i64 g.ids.l.length/\ae 25=.int .i64 k/\rW g ft b (qM g.ids.l.length k) l) ?_ ⟨by simp,by simp,by simp,by simp,by simp,dt⟩;clear dt aS aX dH iB lD;rintro k ae l hk ⟨aL,bc,ch,mb,j2,dt⟩;obtain⟨ae,rfl⟩:=kU aL bc ch mb j2;clear aL bc ch mb j2;simp;refine kk (fun h=>?_) (fun h=>?_)
  ·simp only[decide_eq_true_eq] at h;have aQ:IntKind.i64.wrap ((k:Int)+1)=((k+1:Nat) :Int) :=by rw[IntKind.wrap_i64]; omega
   obtain⟨p,l',c9,hE,qk⟩:=dt.set (i:=k) (v:=true) (by rw[abO]; omega);rw[abP (by omega)] at qk;simp[c9,hE,aQ];exact⟨by omega,qk⟩
  ·have jj:k=g.ids.l.length:=by simp at h; omega
   rw[jj,adU] at dt;have dH:=dt.dH;simp[h,dH,ew];refine cF g.ops.l.length (fun q ae l=>ae 1=.ptr 0 0 2/\ae 5=.mp ft/\ae 6=.au 1 b 0 g.ids.l.length g.ids.l.length g.ids.l.length/\ae 33=b4 g.ops/\ae 34=.int .i64 g.ops.l.length/\ae 35=.int .i64 q/\rW g ft b (k1 g q 0) l) ?_ ⟨by simp,by simp,by simp,by simp,by simp,by simp,dt⟩;clear dt dH;rintro q ae l aZ ⟨aL,bc,ch,vy,vz,B5,dt⟩;obtain⟨ae,rfl⟩:=AZ aL bc ch vy vz B5;clear aL bc ch vy vz B5;simp;refine kk (fun ad=>?_) (fun ad=>?_)
   ·simp only[decide_eq_true_eq] at ad;obtain⟨o,ap,dZ⟩:=bA (l:=g.ops.l) (k:=q) (by omega);have zZ:=ar.ops o dZ;have aQ:IntKind.i64.wrap ((q:Int)+1)=((q+1:Nat) :Int) :=by rw[IntKind.wrap_i64]; omega
    have cc:cj (.au 11) (b4 g.ops) (.int .i64 (q:Int))=some (.b6 (bl o) 0) :=by simp[b4,ap]
    have di:(bl o).length=11:=rfl;have jL:∀ h,(bl o)[1]'h=aU o.bo:=fun _=>rfl
    have nb:cP (.au 32) (aU o.bo)=some (.int .i64 o.bo.l.length) :=by simp[aU]
    obtain⟨O,eS⟩:∃ O,O=bl o:=⟨_,rfl⟩
    rw[<-eS] at cc di jL;have k9:bz [U.int .u32 0,.a1,.int .u64 0,.int .u8 0,.str [],.int .u8 0,.int .i64 0,.int .u64 0,.str [],.int .u32 0,.int .u32 0] 0 O=O:=fE (by rw[di]; rfl);have Hc:∀ c:a2,(l++[c])[l.length]? = some c:=fun c=>awd
    simp[cc,di,jL,k9,nb,Hc,atr];refine cF o.bo.l.length (fun m ae l=>ae 1=.ptr 0 0 2/\ae 5=.mp ft/\ae 6=.au 1 b 0 g.ids.l.length g.ids.l.length g.ids.l.length/\ae 33=b4 g.ops/\ae 34=.int .i64 g.ops.l.length/\ae 35=.int .i64 q/\ae 40=aU o.bo/\ae 41=.int .i64 o.bo.l.length/\ae 42=.int .i64 m/\rW g ft b (k1 g q m) l) ?_ ⟨by simp,by simp,by simp,by simp,by simp,by simp,by simp,by simp,by simp,dt.more _⟩;clear dt Hc;rintro m ae l hm ⟨aL,bc,ch,vy,vz,B5,Sg,Sh,Si,dt⟩;obtain⟨ae,rfl⟩:=alM aL bc ch vy vz B5 Sg Sh Si;clear aL bc ch vy vz B5 Sg Sh Si;simp;refine kk (fun aj=>?_) (fun aj=>?_)
    ·simp only[decide_eq_true_eq] at aj;obtain⟨p,ay,oS⟩:=bA (l:=o.bo.l) (k:=m) (by omega);have mj:=zZ.ids p oS;have gy:=cQ mj;have apP:=zZ.len;have bF:IntKind.i64.wrap ((m:Int)+1)=((m+1:Nat) :Int) :=by rw[IntKind.wrap_i64]; omega
     obtain⟨i,av⟩:=atx.1 (V.G6 o dZ p oS);have du:=(atq.1 av).1;have hS:cj (.au 32) (aU o.bo) (.int .i64 (m:Int))=some (.b6 (aR p) 0) :=by simp[aU,ay]
     have Fs:=dt.more (.cells 32 (aR p));have h9:=Fs.p.look dY mj av;obtain⟨asq,l',c9,hE,qk⟩:=Fs.set (i:=i) (v:=false) (by rw[J9]; omega);rw[adT dY (by rw[sR ap]; exact ay) av] at qk;obtain⟨P,lD⟩:∃ P,P=aR p:=⟨_,rfl⟩
     rw[<-lD] at hS gy h9 hE;have afF:bz (rep 32 (U.int .u8 0)) 0 P=P:=fE (by rw[gy]; rfl);simp[hS,gy,afF,h9,c9,hE,bF,atr];exact⟨by omega,qk⟩
    ·have iY:m=o.bo.l.length:=by simp at aj; omega
     have mh:=adS g q;rw[sR ap] at mh;rw[iY,mh] at dt;simp[aj,aQ];exact⟨by omega,dt⟩
   ·have afm:q=g.ops.l.length:=by simp at ad; omega
    rw[afm] at dt;have dH:=dt.dH;simp[ad,dH];have hw:=dt.w;refine ahD g ar (seen:=k1 g g.ops.l.length 0) (J9 _ _ _) hw dt.ag (fun v l' en=>?_);simp;have vQ:js g.ids.l (k1 g g.ops.l.length 0) (k1 g g.ops.l.length 0).length=zN g:=by
     rw[J9,VN g _ (att _),atW]; rfl
    rw[vQ] at en;refine Hn ?_ (aP (by rw[aE]) rfl);exact en.rd g6 (mF g) (by unfold mF; rw[if_pos aE,uQ]) (by unfold mF; rw[if_pos aE,gQ])
 ·have tW:mF g=none:=by unfold mF; rw[if_neg aE]
  rw[tW];simp[aE];exact aP rfl rfl
end Op

end Go.b2

namespace Go.Proofs
open Go.Shelf
set_option maxRecDepth 100000
def Tryz.akx:Go.Shelf.Ren:=⟨fun | 6=>85 | 15=>135 | 14=>134 | 28=>188 | 29=>189 | 20=>180 | 21=>181 | 22=>182 | 23=>183 | 24=>184 | 25=>185 | 26=>186 | 27=>187 | 46=>228 | 47=>229 | 48=>230 | 49=>231 | 50=>232 | 57=>255 | n=>n,fun | 22=>29 | 24=>53 | 25=>142 | 3=>3 | 39=>194 | 0=>0 | 53=>76 | 55=>40 | 4=>4 | 46=>234 | 45=>233 | 50=>152 | 5=>5 | 9=>9 | 66=>269 | 70=>273 | 76=>291 | 77=>292 | n=>n,fun | n=>n⟩
theorem Tryz.akw:Go.Proofs.SlLaysF0.n6 Tryz.prog Tryz.akx where
 mixed:=by kernel_rfl
 f6:=⟨ "slices.SortFunc[[]braid/api.Tag,braid/api.Tag]",by decide,Tryz.func85.trans (congrArg some (by kernel_rfl))⟩
 f14:=⟨ "slices.pdqsortCmpFunc[braid/api.Tag]",by decide,Tryz.func134.trans (congrArg some (by kernel_rfl))⟩
 f15:=Tryz.func135.trans (congrArg some (by kernel_rfl))
 f20:=⟨ "slices.insertionSortCmpFunc[braid/api.Tag]",by decide,Tryz.func180.trans (congrArg some (by kernel_rfl))⟩
 f21:=⟨ "slices.heapSortCmpFunc[braid/api.Tag]",by decide,Tryz.func181.trans (congrArg some (by kernel_rfl))⟩
 f22:=⟨ "slices.breakPatternsCmpFunc[braid/api.Tag]",by decide,Tryz.func182.trans (congrArg some (by kernel_rfl))⟩
 f23:=⟨ "slices.choosePivotCmpFunc[braid/api.Tag]",by decide,Tryz.func183.trans (congrArg some (by kernel_rfl))⟩
 f24:=⟨ "slices.reverseRangeCmpFunc[braid/api.Tag]",by decide,Tryz.func184.trans (congrArg some (by kernel_rfl))⟩
 f25:=⟨ "slices.partialInsertionSortCmpFunc[braid/api.Tag]",by decide,Tryz.func185.trans (congrArg some (by kernel_rfl))⟩
 f26:=⟨ "slices.partitionEqualCmpFunc[braid/api.Tag]",by decide,Tryz.func186.trans (congrArg some (by kernel_rfl))⟩
 f27:=⟨ "slices.partitionCmpFunc[braid/api.Tag]",by decide,Tryz.func187.trans (congrArg some (by kernel_rfl))⟩
 f28:=Tryz.func188.trans (congrArg some (by kernel_rfl))
 f29:=Tryz.func189.trans (congrArg some (by kernel_rfl))
 f46:=⟨ "slices.siftDownCmpFunc[braid/api.Tag]",by decide,Tryz.func228.trans (congrArg some (by kernel_rfl))⟩
 f47:=Tryz.func229.trans (congrArg some (by kernel_rfl))
 f48:=Tryz.func230.trans (congrArg some (by kernel_rfl))
 f49:=⟨ "slices.medianAdjacentCmpFunc[braid/api.Tag]",by decide,Tryz.func231.trans (congrArg some (by kernel_rfl))⟩
 f50:=⟨ "slices.medianCmpFunc[braid/api.Tag]",by decide,Tryz.func232.trans (congrArg some (by kernel_rfl))⟩
 f57:=⟨ "slices.order2CmpFunc[braid/api.Tag]",by decide,Tryz.func255.trans (congrArg some (by kernel_rfl))⟩
 t0:=Tryz.underlying0
 a0:=Tryz.isAgg0
 z0:=Tryz.sizeOf0
 v0:=Tryz.zeroValue0
 t3:=Tryz.underlying3
 a3:=Tryz.isAgg3
 z3:=Tryz.sizeOf3
 v3:=Tryz.zeroValue3
 t4:=Tryz.underlying4
 a4:=Tryz.isAgg4
 z4:=Tryz.sizeOf4
 v4:=Tryz.zeroValue4
 t5:=Tryz.underlying5
 a5:=Tryz.isAgg5
 z5:=Tryz.sizeOf5
 v5:=Tryz.zeroValue5
 t9:=Tryz.underlying9
 a9:=Tryz.isAgg9
 z9:=Tryz.sizeOf9
 v9:=Tryz.zeroValue9
 t22:=Tryz.underlying29
 a22:=Tryz.isAgg29
 z22:=Tryz.sizeOf29
 v22:=Tryz.zeroValue29
 t25:=Tryz.underlying142
 a25:=Tryz.isAgg142
 z25:=Tryz.sizeOf142
 v25:=Tryz.zeroValue142
 t39:=Tryz.underlying194
 a39:=Tryz.isAgg194
 z39:=Tryz.sizeOf194
 v39:=Tryz.zeroValue194
 t45:=Tryz.underlying233
 a45:=Tryz.isAgg233
 z45:=Tryz.sizeOf233
 v45:=Tryz.zeroValue233
 t46:=Tryz.underlying234
 a46:=Tryz.isAgg234
 z46:=Tryz.sizeOf234
 v46:=Tryz.zeroValue234
 t50:=Tryz.underlying152
 a50:=Tryz.isAgg152
 z50:=Tryz.sizeOf152
 v50:=Tryz.zeroValue152
 t53:=Tryz.underlying76
 a53:=Tryz.isAgg76
 z53:=Tryz.sizeOf76
 v53:=Tryz.zeroValue76
 t55:=Tryz.underlying40
 a55:=Tryz.isAgg40
 z55:=Tryz.sizeOf40
 v55:=Tryz.zeroValue40
 t66:=Tryz.underlying269
 a66:=Tryz.isAgg269
 z66:=Tryz.sizeOf269
 v66:=Tryz.zeroValue269
 t70:=Tryz.underlying273
 a70:=Tryz.isAgg273
 z70:=Tryz.sizeOf273
 v70:=Tryz.zeroValue273
 t76:=Tryz.underlying291
 a76:=Tryz.isAgg291
 z76:=Tryz.sizeOf291
 v76:=Tryz.zeroValue291
 t77:=Tryz.underlying292
 a77:=Tryz.isAgg292
 z77:=Tryz.sizeOf292
 v77:=Tryz.zeroValue292
end Go.Proofs

namespace Go.b2
open Go Go.Proofs Go.Sort Go.Shelf
set_option maxRecDepth 100000
namespace Op
open gh
abbrev u1:={t:bd // t.id.length=32}
instance:Inhabited u1:=⟨⟨⟨[],List.replicate 32 0#8⟩,by simp⟩⟩
def BV (x:u1) :List U:=c5 x.1
def vl (x y:u1) :Int:=kz x.1 y.1
theorem uy (a b:bd) :ltOf kz a b=eP a b:=by
 unfold ltOf;cases h:eP a b with
 | true=>exact decide_eq_true ((IP a b).2 h)
 | false=>exact decide_eq_false fun aG=>by rw[(IP a b).1 aG] at h; cases h
theorem XR:SWO (ltOf vl) where
 irrefl x:=by show ltOf kz x.1 x.1=false; rw[uy]; exact yn _
 trans x y z:=by
  show ltOf kz x.1 y.1=true->ltOf kz y.1 z.1=true->ltOf kz x.1 z.1=true;rw[uy,uy,uy]; exact rm
 ntrans x y z:=by
  show ltOf kz x.1 y.1=false->ltOf kz y.1 z.1=false->ltOf kz x.1 z.1=false;rw[uy,uy,uy];intro h1 ad;cases aj:eP x.1 z.1 with
  | false=>rfl
  | true=>
   by_cases aQ:x.1=y.1
   ·rw[aQ] at aj; rw[aj] at ad; cases ad
   ·by_cases bF:y.1=z.1
    ·rw[bF] at h1; rw[aj] at h1; cases h1
    ·have:=rm (rm aj (yo ad bF)) (yo h1 aQ);rw[yn] at this; cases this
theorem Zw (x y:u1) (h1:ltOf vl x y=false) (ad:ltOf vl y x=false) :x=y:=by
 have dC:ltOf kz x.1 y.1=false:=h1;have gS:ltOf kz y.1 x.1=false:=ad;rw[uy] at dC gS;by_cases e:x.1=y.1
 ·exact Subtype.ext e
 ·rw[yo dC e] at gS; cases gS
theorem RC (x:u1) :(BV x).length=33:=nN x.2
theorem abm (x:u1) :∀ c∈BV x,AE c=true:=fun c ah=>by
 rcases aub.1 ah with h | h
 ·rw[h]; rfl
 ·obtain⟨b,_,rfl⟩:=atV.1 h; rfl
theorem aku {g:Nat} (abk:∀ args w,(callFunc g args).run Tryz.prog w=.ok (.enter g args) w) :H6 Tryz.prog 85 g 33 (fun x=>(BV x).map valOf) vl:=
 fun blk off cap d w tU hH hblk hq=>
  AnyQ.slices_SortFunc Tryz.akw 33 (by intro w; exact Tryz.isAgg53 w) (by intro w; exact Tryz.sizeOf53 w) _ (fun x=>by rw[atU,RC]) (fun x v aq=>by obtain⟨c,_,rfl⟩:=atV.1 aq; exact NL c) vl XR g #[] blk off cap d w abk tU hH hblk hq
def lV (l:List bd) :List bd:=l.mergeSort fun x y=>!eP y x
theorem XX:∀ {xs:List bd},mv xs->∃ a6:List u1,a6.map (·.1)=xs
 | [],_=>⟨[],rfl⟩
 | x::xs,h=>by
  obtain⟨a6,az⟩:=XX (xs:=xs) fun i av=>h i (by simp[av])
  exact⟨⟨x,h x (by simp)⟩::a6,by simp[az]⟩
theorem akA (a6:List u1) :(sorted vl a6).map (·.1)=lV (a6.map (·.1)) :=by
 unfold sorted lV;rw[List.map_mergeSort];intro a _ b _;show (!ltOf kz b.1 a.1)=(!eP b.1 a.1)
 rw[uy]
theorem aiV {z:Nat} {l l' : am} {v:U} {j:Nat} {es ds:List (List U)} (h:bJ z l v j es) (h' : dQ z l' v j ds) :bJ z l' v j ds:=by
 cases h with
 | nil j=>have:=h'.uD; subst this; exact .nil j
 | au j n cap sz cs es ag ak aC aw ah cS ce=>
  generalize aq:U.au z j 0 n cap sz=w at h';cases h' with
  | nil=>cases aq
  | au agG asn n2 anX as3 hL zt e9 gX nV ke kD apk adR=>
   injection aq with _ aQ bF dz j0 BR
   subst bF dz j0 BR;exact .au j n cap sz hL _ e9 gX nV ke kD (by omega) (by simpa using adR)
theorem ZJ (n:Q) :bw Tryz.prog GS 135 [c4 n] (.int .i64 (jr n.toNat)) :=by
 refine bP Tryz.checked.mixed bC ?_;apply bj Tryz.func135 [];have h:=Vt n;simp;refine bf h rfl ?_;simp;exact aP rfl rfl
theorem alc (f:U) (aD:f.closed=true) :bw Tryz.prog GS 180 [.a1,.int .i64 0,.int .i64 0,f] (.bG []) :=by
 refine bP Tryz.checked.mixed bC ?_;apply bj Tryz.func180 [];have bW:IntKind.i64.wrap 1=1:=by decide
 simp;refine cF 0 (fun _ ae l=>ae 2=.int .i64 0/\ae 8=.int .i64 1) ?_ ⟨by simp,by simp[bW]⟩;rintro k ae l hk ⟨aT,eu⟩;simp[aT,eu];exact aP rfl rfl
theorem alh (n:Int) (f:U) (aD:f.closed=true) :bw Tryz.prog GS 134 [.a1,.int .i64 0,.int .i64 0,.int .i64 n,f] (.bG []) :=by
 refine bP Tryz.checked.mixed bC ?_;apply bj Tryz.func134 [];have h:=alc f aD;have mE:IntKind.i64.wrap 0=0:=by decide
 simp;refine cF 0 (fun _ ae l=>ae 0=.a1/\ae 1=.int .i64 0/\ae 2=.int .i64 0/\ae 4=f) ?_ ⟨by simp,by simp,by simp,by simp⟩;rintro k ae l hk ⟨b8,aL,aT,bu⟩;simp[b8,aL,aT,bu,mE];refine bf h (by simp[bm,U.closed,aD]) ?_;simp;exact aP rfl rfl
theorem alp:bw Tryz.prog GS 85 [.a1,.fn 86 [] []] (.bG []) :=by
 refine bP Tryz.checked.mixed bC ?_;apply bj Tryz.func85 [];have h:=ZJ 0;have ad:=alh (jr (0:Q).toNat) (.fn 86 [] []) rfl;simp;refine bf h rfl ?_;simp;refine bf ad rfl ?_;simp;exact aP rfl rfl
theorem alo {l:am} {v:U} {j:Nat} {xs:List bd} (af:mv xs) (ak:xs.length<=1000000) (aC:cD v=xs.isEmpty) (h:bJ 33 l v j (xs.map c5)) {K:U->am->Prop}
  (aV:∀ l',l'.length=l.length->(∀ b,v=.a1\/b≠j->l'[b]? = l[b]?)->bJ 33 l' v j ((lV xs).map c5)->K (.bG []) l') :c7 Tryz.prog GS 85 [v,.fn 86 [] []] l (c:=⟨K⟩) :=by
 by_cases hU:xs=[]
 ·subst hU;have K8:v=.a1:=i3.1 (by rw[aC]; rfl);subst K8;exact bf alp rfl (aV l rfl (fun _ _=>rfl) (by simpa [lV] using bJ.nil j))
 ·obtain⟨a6,az⟩:=XX af;have ao:a6.map BV=xs.map c5:=by rw[<-az,avw]; rfl
  have al:(sorted vl a6).map BV=(lV xs).map c5:=by rw[<-az,<-akA,avw]; rfl
  have cx:a6.length=xs.length:=by rw[<-az]; simp
  have K8:v≠.a1:=fun aq=>by subst aq; rw[show cD .a1=true from rfl] at aC; exact hU (by simpa using aC.symm)
  rw[<-ao] at h;exact akv vl (aku (by intro args w; exact enters_of Tryz.func86 (by kernel_rfl) rfl args w)) XR Zw RC abm (fun x y=>Ri x.1 y.1 x.2 y.2) h.q (by omega) (fun ub=>absurd (by rw[<-az,ub]; rfl) hU)
   (fun l' h1 ad aj=>aV l' h1 (fun b ag=>ad b (ag.resolve_left K8)) (by rw[<-al]; exact aiV h aj))
theorem Xy (l:List bd) (y:bd) :y∈lV l<->y∈l:=by unfold lV; exact List.mem_mergeSort
theorem Xx (l:List bd) :(lV l).length=l.length:=by unfold lV; exact List.length_mergeSort l
theorem aky {l:List bd} (aC:l.Nodup) :(lV l).Pairwise fun a b=>eP a b=true:=by
 have h1:(lV l).Pairwise fun a b=>(!eP b a)=true:=by
  unfold lV;refine awx (fun a b c h1 ad=>?_) (fun a b=>?_) l
  ·simp only[auP] at *
   cases aj:eP c a with
   | false=>rfl
   | true=>
    by_cases aQ:b=c
    ·rw[aQ] at h1; rw[aj] at h1; cases h1
    ·by_cases bF:a=b
     ·rw[bF] at aj; rw[aj] at ad; cases ad
     ·have:=rm (rm aj (yo h1 (Ne.symm bF))) (yo ad (Ne.symm aQ));rw[yn] at this; cases this
  ·cases h:eP b a with
   | false=>rfl
   | true=>
    cases ad:eP a b with
    | false=>rfl
    | true=>have:=rm h ad; rw[yn] at this; cases this
 have ad:(lV l).Nodup:=(List.mergeSort_perm l _).nodup_iff.2 aC;refine (h1.and ad).imp fun {a b} h=>?_
 have aj:eP b a=false:=by simpa using h.1
 exact yo aj (Ne.symm h.2)
end Op

end Go.b2

namespace Go.b2
open Go Go.Proofs
set_option maxRecDepth 100000
namespace Op
open gh
theorem ZQ (t:bd) :U.beq (.aM (c5 t)) (.aM (c5 t))=true:=by
 show eU (.str t.key::aR t.id) (.str t.key::aR t.id)=true;have h:=It t.id;unfold aR;simp[eU,U.beq,h]
theorem Je {t:bd} (h:t.id.length=32) :kL Tryz.prog 53 (.aM (c5 t))=true:=by
 have h1:rf Tryz.prog 8 53=true:=by kernel_rfl
 have ad:dW Tryz.prog 53=some true:=by kernel_rfl
 have aj:cv Tryz.prog 53=some 33:=by kernel_rfl
 have aF:(c5 t).all sY=true:=by
  rw[aue];intro c ah;rcases aub.1 ah with h | h
  ·rw[h]; rfl
  ·obtain⟨b,_,rfl⟩:=atV.1 h; rfl
 show (rf Tryz.prog 8 53&&(match dW Tryz.prog 53,cv Tryz.prog 53 with | some true,some m=>Nat.beq (c5 t).length m | _,_=>false)&&(c5 t).all sY)=true;rw[h1,ad,aj,aF,nN h];rfl
theorem abz {a b:bd} (aB:a.id.length=32) (ag:b.id.length=32) :ez Tryz.prog 10000 53 (.aM (c5 a)) (.aM (c5 b))=some (decide (a=b)) :=by
 rw[<-OL aB ag];obtain⟨x,y,pG,nM,tI⟩:=(EQ (P:=Tryz.prog) 20 10000 (by omega) 53 Gv Vn).2 _ _ (G4 aB) (G4 ag);have ad:dW Tryz.prog 53=some true:=by kernel_rfl
 simp only[kw,ad,Option.some.injEq] at pG nM;subst pG; subst nM;exact tI
inductive qy:List (U × U × Nat)->List bd->Prop
 | nil:qy [] []
 | cons {es:List (U × U × Nat)} {bN:List bd} {k:bd} (n:Nat) (hk:k.id.length=32) (h:qy es bN) :qy ((.aM (c5 k),.bool true,n) ::es) (k::bN)
theorem qy.snoc {es:List (U × U × Nat)} {bN:List bd} (h:qy es bN) {k:bd} (hk:k.id.length=32) (n:Nat) :qy (es++[(.aM (c5 k),.bool true,n)]) (bN++[k]) :=by
 induction h with
 | nil=>exact .cons n hk .nil
 | cons m eK h aH=>exact .cons m eK aH
theorem qy.modify {es:List (U × U × Nat)} {bN:List bd} (h:qy es bN) :∀ {i:Nat} {k:bd},bN[i]? = some k->qy (es.modify i fun e=>(.aM (c5 k),.bool true,e.2.2)) bN:=by
 induction h with
 | nil=>intro i k h; simp at h
 | cons n hk h aH=>
  intro i k av;cases i with
  | zero=>simp at av; subst av; exact .cons n hk h
  | succ i=>exact .cons n hk (aH (by simpa using av))
theorem EW {x:bd} (af:x.id.length=32) {es:List (U × U × Nat)} {bN:List bd} (h:qy es bN) :∀ c,(x∈bN->∃ i,bN[i]? = some x/\jd Tryz.prog 53 (.aM (c5 x)) es c=some (some (c+i,.bool true)))/\(x∉bN->jd Tryz.prog 53 (.aM (c5 x)) es c=some none) :=by
 induction h with
 | nil=>intro c; exact⟨fun h=>by simp at h,fun _=>rfl⟩
 | @cons es bN k n hk h aH=>
  intro c;unfold jd;rw[Je hk];simp only;rw[abz af hk];by_cases ao:x=k
  ·subst ao;simp only[decide_true,ZQ];exact⟨fun _=>⟨0,by simp⟩,fun h=>absurd (by simp) h⟩
  ·simp only[ao,decide_false];obtain⟨h1,ad⟩:=aH (c+1);refine⟨fun hm=>?_,fun h=>ad (fun h'=>h (by simp[h']))⟩;obtain⟨i,av,aD⟩:=h1 (by simpa [ao] using hm);exact⟨i+1,by simpa using av,by rw[aD,show c+1+i=c+(i+1) by omega]⟩
structure mL (l:am) (j:Nat) (M:bd->Prop) :Prop where
 e:∃ es ey bN,l[j]? = some (.map es ey)/\qy es bN/\∀ x,x∈bN<->M x
open Classical in
theorem mL.look {l:am} {j:Nat} {M:bd->Prop} (h:mL l j M) {x:bd} (af:x.id.length=32) :wi Tryz.prog l 53 (.bool false) false (.mp j) (.aM (c5 x))=some (.bool (decide (M x))) :=by
 obtain⟨es,ey,bN,h1,ad,aF⟩:=h.e;have aj:sL l (.mp j)=some es:=by simp[sL,h1]
 unfold wi;rw[aj];simp only[Je af];by_cases hm:x∈bN
 ·obtain⟨i,_,aD⟩:=(EW af ad 0).1 hm;rw[aD];simp[(aF x).1 hm]
 ·rw[(EW af ad 0).2 hm];have:¬ M x:=fun aG=>hm ((aF x).2 aG)
  simp[this]
theorem mL.put {l:am} {j:Nat} {M:bd->Prop} (h:mL l j M) {x:bd} (af:x.id.length=32) :∃ c,sM Tryz.prog l 53 (.mp j) (.aM (c5 x)) (.bool true)=some (l.set j c)/\(∀ l' : am,l'[j]? = some c->mL l' j (fun y=>M y\/y=x)) :=by
 obtain⟨es,ey,bN,h1,ad,aF⟩:=h.e;unfold sM;simp only[h1,Je af];by_cases hm:x∈bN
 ·obtain⟨i,av,aD⟩:=(EW af ad 0).1 hm;rw[aD];rw[auF];refine⟨_,rfl,fun l' c1=>⟨_,_,bN,c1,ad.modify av,fun y=>?_⟩⟩;rw[aF y];exact⟨.inl,fun aG=>aG.elim id fun e=>by rw[e]; exact (aF x).1 hm⟩
 ·rw[(EW af ad 0).2 hm];refine⟨_,rfl,fun l' c1=>⟨_,_,_,c1,ad.snoc af ey,fun y=>?_⟩⟩;rw[atQ,atM,aF y]
theorem mL.frame {l l' : am} {j:Nat} {M:bd->Prop} (h:mL l j M) (ai:l'[j]? = l[j]?) :mL l' j M:=by
 obtain⟨es,ey,bN,h1,ad,aF⟩:=h.e;exact⟨es,ey,bN,by rw[ai,h1],ad,aF⟩
theorem mL.lt {l:am} {j:Nat} {M:bd->Prop} (h:mL l j M) :j<l.length:=by
 obtain⟨es,ey,bN,h1,ad⟩:=h.e;exact (atq.1 h1).1
theorem ain (l:am) :mL (l++[.map [] 0]) l.length (fun _=>False) :=⟨[],0,[],by simp,.nil,fun x=>by simp⟩
theorem mL.iff {l:am} {j:Nat} {M N:bd->Prop} (h:mL l j M) (aG:∀ x,M x<->N x) :mL l j N:=by
 obtain⟨es,ey,bN,h1,ad,aF⟩:=h.e;exact⟨es,ey,bN,h1,ad,fun x=>(aF x).trans (aG x)⟩
def ol (g:bg) (m:Nat) (t:bd) :Prop:=∃ k o,k<m/\g.ops.l[k]? = some o/\o.act.kind=3#8/\o.act.key=t.key/\t.id∈jG g k
def Bc (g:bg) (m:Nat) (key:List UInt8) (L:List (List B)) (t:bd) :Prop:=ol g m t\/(key=t.key/\t.id∈L)
theorem acq {g:bg} {m:Nat} {o:bp} (ap:g.ops.l[m]? = some o) (hk:¬ o.act.kind=3#8) (t:bd) :ol g m t<->ol g (m+1) t:=by
 constructor
 ·rintro⟨k,cJ,h1,ad⟩; exact⟨k,cJ,by omega,ad⟩
 ·rintro⟨k,cJ,h1,ad,aj,aF⟩;by_cases m9:k=m
  ·subst m9; rw[ap] at ad; obtain rfl:=Option.some.inj ad; exact absurd aj hk
  ·exact⟨k,cJ,by omega,ad,aj,aF⟩
theorem acr {g:bg} {m:Nat} {o:bp} (ap:g.ops.l[m]? = some o) (hk:o.act.kind=3#8) (t:bd) :Bc g m o.act.key (jG g m) t<->ol g (m+1) t:=by
 constructor
 ·rintro (⟨k,cJ,h1,ad⟩ | ⟨h1,ad⟩)
  ·exact⟨k,cJ,by omega,ad⟩
  ·exact⟨m,o,by omega,ap,hk,h1,ad⟩
 ·rintro⟨k,cJ,h1,ad,aj,aF,aW⟩;by_cases m9:k=m
  ·subst m9; rw[ap] at ad; obtain rfl:=Option.some.inj ad; exact .inr ⟨aF,aW⟩
  ·exact .inl ⟨k,cJ,by omega,ad,aj,aF,aW⟩
theorem acs {g:bg} {m:Nat} {key:List UInt8} {L:List (List B)} {k:Nat} {x:List B} (af:L[k]? = some x) (t:bd) :(Bc g m key (L.take k) t\/t=⟨key,x⟩)<->Bc g m key (L.take (k+1)) t:=by
 unfold Bc;rw[atJ,af,atQ];simp only[Option.toList_some,atM];constructor
 ·rintro ((h | ⟨h1,ad⟩) | h)
  ·exact .inl h
  ·exact .inr ⟨h1,.inl ad⟩
  ·subst h; exact .inr ⟨rfl,.inr rfl⟩
 ·rintro (h | ⟨h1,ad | ad⟩)
  ·exact .inl (.inl h)
  ·exact .inl (.inr ⟨h1,ad⟩)
  ·right; cases t; simp_all
open Classical in
noncomputable def il (g:bg) (m:Nat) :List bd:=(List.range m).flatMap fun k=>match g.ops.l[k]?,g.ids.l[k]? with
 | some o,some x=>if o.act.kind=2#8/\¬ ol g g.ops.l.length ⟨o.act.key,x⟩ then [⟨o.act.key,x⟩] else []
 | _,_=>[]
open Classical in
theorem Ii {g:bg} {m:Nat} {o:bp} {x:List B} (ap:g.ops.l[m]? = some o) (af:g.ids.l[m]? = some x) :il g (m+1)=il g m++(if o.act.kind=2#8/\¬ ol g g.ops.l.length ⟨o.act.key,x⟩ then [⟨o.act.key,x⟩] else []) :=by
 unfold il;rw[auK,auR];simp[ap,af]
theorem Ih {g:bg} {t:bd}:∀ {m:Nat},t∈il g m<->∃ k o x,k<m/\g.ops.l[k]? = some o/\g.ids.l[k]? = some x/\o.act.kind=2#8/\¬ ol g g.ops.l.length ⟨o.act.key,x⟩/\t=⟨o.act.key,x⟩:=by
 intro m;unfold il;rw[awm];constructor
 ·rintro⟨k,hk,aI⟩;rw[at4] at hk;cases ap:g.ops.l[k]? with
  | none=>simp[ap] at aI
  | some o=>
   cases af:g.ids.l[k]? with
   | none=>simp[ap,af] at aI
   | some x=>
    simp only[ap,af] at aI;split at aI
    ·rename_i aG;rw[atM] at aI;exact⟨k,o,x,hk,ap,af,aG.1,aG.2,aI⟩
    ·simp at aI
 ·rintro⟨k,o,x,hk,ap,af,h1,ad,aj⟩;refine⟨k,at4.2 hk,?_⟩;simp only[ap,af];rw[if_pos ⟨h1,ad⟩,atM];exact aj
theorem Eh (g:bg) :∀ m,(il g m).length<=m
 | 0=>by simp[il]
 | m+1=>by
  have aH:=Eh g m;cases ap:g.ops.l[m]? with
  | none=>unfold il at *; rw[auK,auR]; simp[ap] at *; omega
  | some o=>
   cases af:g.ids.l[m]? with
   | none=>unfold il at *; rw[auK,auR]; simp[ap,af] at *; omega
   | some x=>
    rw[Ii ap af,atB];split<;>simp<;>omega
theorem Od {g:bg} (ar:fG g) (m:Nat) :mv (il g m) :=fun t aI=>by
 obtain⟨k,o,x,_,_,af,_,_,aj⟩:=Ih.1 aI;rw[aj]; exact ar.ids x (atz af)
structure lq (g:bg) (M:bd->Prop) (l:am) :Prop where
 fU:l[0]? = some (.cells 2 [aU g.ids,b4 g.ops])
 np:l[1]? = some (.cells 1 [.a1])
 m:mL l 2 M
theorem lq.lt {g:bg} {M:bd->Prop} {l:am} (h:lq g M l) :3<=l.length:=h.m.lt
theorem lq.frame {g:bg} {M:bd->Prop} {l l' : am} (h:lq g M l) (aD:∀ b,b<3->l'[b]? = l[b]?) :lq g M l':=
 ⟨(aD 0 (by omega)).trans h.fU,(aD 1 (by omega)).trans h.np,h.m.frame (aD 2 (by omega))⟩
theorem lq.more {g:bg} {M:bd->Prop} {l:am} (h:lq g M l) (x:am) :lq g M (l++x) :=h.frame fun b ag=>ats (by have:=h.lt; omega)
theorem lq.iff {g:bg} {M N:bd->Prop} {l:am} (h:lq g M l) (aG:∀ x,M x<->N x) :lq g N l:=⟨h.fU,h.np,h.m.iff aG⟩
structure Y5 (g:bg) (k:Nat) (ae:a7) (l:am) :Prop where
 aL:ae 1=.ptr 0 0 2
 aT:ae 2=.ptr 1 0 1
 a8:ae 3=.int .i64 0
 bc:ae 5=.mp 2
 mb:ae 24=b4 g.ops
 j2:ae 25=.int .i64 g.ops.l.length
 lB:ae 26=.int .i64 k
 h:lq g (ol g k) l
structure Y7 (g:bg) (i:Nat) (o:bp) (b:Nat) (k:Nat) (ae:a7) (l:am) :Prop where
 aL:ae 1=.ptr 0 0 2
 aT:ae 2=.ptr 1 0 1
 a8:ae 3=.int .i64 0
 bc:ae 5=.mp 2
 ei:ae 7=.ptr b 0 11
 mb:ae 24=b4 g.ops
 j2:ae 25=.int .i64 g.ops.l.length
 lB:ae 26=.int .i64 i
 tL:ae 45=aU (fp (jG g i))
 tM:ae 46=.int .i64 (jG g i).length
 tN:ae 47=.int .i64 k
 h:lq g (Bc g i o.act.key ((jG g i).take k)) l
 gL:3<=b
 ag:l[b]? = some (.cells 11 (bl o))
structure Y6 (g:bg) (b:Nat) (k:Nat) (ae:a7) (l:am) :Prop where
 aL:ae 1=.ptr 0 0 2
 aT:ae 2=.ptr 1 0 1
 a8:ae 3=.int .i64 0
 bc:ae 5=.mp 2
 fA:ae 12=.ptr b 0 1
 Jm:ae 60=b4 g.ops
 Jn:ae 61=.int .i64 g.ops.l.length
 Jo:ae 62=.int .i64 k
 h:lq g (ol g g.ops.l.length) l
 gL:3<=b
 ex:∃ v j,l[b]? = some (.cells 1 [v])/\bJ 33 l v j ((il g k).map c5)/\cD v=(il g k).isEmpty/\(v=.a1\/b<j)
noncomputable def qg (g:bg) :gq:=if eW g=0 then HF (lV (il g g.ops.l.length)) else none
set_option maxHeartbeats 8000000 in
theorem amg (g:bg) (ar:fG g) :bw Tryz.prog GS 41 [db g] (.bG [.aM [eh (qg g)],.int .i64 (eW g)]) :=by
 refine bP Tryz.checked.mixed bC ?_;apply bj Tryz.func41 [];have ax:ct=140737488355328:=rfl;have eN:=gM g.ids;have dj:=mU g.ops;have dr:=HP g ar;unfold db dS at dr;have ew:cP (.au 11) (b4 g.ops)=some (.int .i64 g.ops.l.length) :=by simp[b4]
 simp[db,dS];refine bf dr (by simp[bm,U.closed,eN,dj]) ?_;by_cases aE:eW g=0
 ·have V:=qh aE;have F0:=V.n60;have jn:=V.len;have ac4:lq g (fun _=>False) [a2.cells 2 [aU g.ids,b4 g.ops],.cells 1 [.a1],.map [] 0] :=⟨rfl,rfl,ain [a2.cells 2 [aU g.ids,b4 g.ops],.cells 1 [.a1]]⟩
  simp[aE,ew];refine cF g.ops.l.length (Y5 g) ?_ ⟨by simp,by simp,by simp,by simp,by simp,by simp,by simp,ac4.iff fun x=>⟨fun h=>h.elim,fun ⟨k,_,hk,_⟩=>by omega⟩⟩;rintro k ae l hk ⟨aL,aT,a8,bc,mb,j2,lB,hH⟩;obtain⟨ae,rfl⟩:=Yg aL aT a8 bc mb j2 lB;clear aL aT a8 bc mb j2 lB;by_cases cI:k<g.ops.l.length
  ·obtain⟨x,af,cX⟩:=bA (l:=g.ids.l) (k:=k) (by omega);obtain⟨o,ap,dZ⟩:=bA cI;have nk:=ar.ids x cX;have bn:=cQ nk;have aQ:IntKind.i64.wrap ((k:Int)+1)=((k+1:Nat) :Int) :=by rw[IntKind.wrap_i64]; omega
   have hS:cj (.au 32) (aU g.ids) (.int .i64 (k:Int))=some (.b6 (aR x) 0) :=by simp[aU,af]
   have cc:cj (.au 11) (b4 g.ops) (.int .i64 (k:Int))=some (.b6 (bl o) 0) :=by simp[b4,ap]
   have di:(bl o).length=11:=rfl;have qO:∀ h,(bl o)[3]'h=bB o.act.kind:=fun _=>rfl
   have qP:∀ h,(bl o)[4]'h=.str o.act.key:=fun _=>rfl
   have iA:=g6 x;have xR:=abh o;have Ck:=Zu g ar V aE x k af;unfold db dS at Ck;obtain⟨O,eS⟩:∃ O,O=bl o:=⟨_,rfl⟩
   obtain⟨Y,ev⟩:∃ Y,Y=aR x:=⟨_,rfl⟩
   rw[<-eS] at cc di qO qP;rw[<-ev] at hS bn iA Ck;obtain⟨Z,sj⟩:∃ Z,Z=[U.int .u32 0,.a1,.int .u64 0,.int .u8 0,.str [],.int .u8 0,.int .i64 0,.int .u64 0,.str [],.int .u32 0,.int .u32 0] :=⟨_,rfl⟩
   have qQ:Z.length=11:=by rw[sj]; rfl
   have k9:bz Z 0 O=O:=fE (by rw[di,qQ]);have Fj:=hH.more [.cells 11 O];have lJ:∀ y z:a2,(l++[y]).set l.length z=l++[z] :=fun y z=>by rw[at8 _ _ (att _)]; simp
   have dH:=Fj.fU;have lT:∀ (X:am) h,(l++X)[0]'h=.cells 2 [aU g.ids,b4 g.ops] :=fun X h=>by
    have:=(hH.more X).fU; rw[atq] at this; exact this.2
   have Ch:O.take 11=O:=atr (by omega);by_cases dK:o.act.kind=3#8
   ·have LB:=xR.2 dK;simp[cI,cc,di,<-sj,qQ,k9,lJ,Ch,qO,qP,LB,lT,hS,bn,atr];refine bf Ck (by simp[bm,U.closed,eN,dj,iA]) ?_;have nU:cP (.au 32) (aU (fp (jG g k)))=some (.int .i64 (jG g k).length) :=by simp[aU,gQ]
    have gU:=Oj g k;simp[nU];refine cF (jG g k).length (Y7 g k o l.length) ?_ ⟨by simp,by simp,by simp,by simp,by simp,by simp,by simp,by simp,by simp,by simp,by simp,Fj.iff fun t=>⟨.inl,fun h=>h.elim id fun h=>by simp at h⟩,hH.lt,by rw[<-eS]; simp⟩;obtain⟨b,jg⟩:∃ b,b=l.length:=⟨_,rfl⟩
    rw[<-jg];clear hH Fj lJ dH lT;rintro q ae l aZ ⟨aL,aT,a8,bc,ei,mb,j2,lB,tL,tM,tN,hH,gL,ag⟩;obtain⟨ae,rfl⟩:=Yf aL aT a8 bc ei mb j2 lB tL tM tN;clear aL aT a8 bc ei mb j2 lB tL tM tN;by_cases k5:q<(jG g k).length
    ·obtain⟨y,az,cO⟩:=bA k5;have q7:=ar.ids y (Ol cO);have cx:=cQ q7;have f1:IntKind.i64.wrap ((q:Int)+1)=((q+1:Nat) :Int) :=by rw[IntKind.wrap_i64]; omega
     have Cz:cj (.au 32) (aU (fp (jG g k))) (.int .i64 (q:Int))=some (.b6 (aR y) 0) :=by simp[aU,gQ,az]
     have si:c5 ⟨o.act.key,y⟩=.str o.act.key::aR y:=rfl;have fD:=(hH.more [.cells 32 (aR y)]).m;obtain⟨c,lM,nd⟩:=fD.put (x:=⟨o.act.key,y⟩) q7;rw[si] at lM;rw[<-eS] at ag;have fB:b<l.length:=(atq.1 ag).1;obtain⟨W,dt⟩:∃ W,W=aR y:=⟨_,rfl⟩
     rw[<-dt] at cx Cz si lM fD;have afH:bz (rep 32 (.int .u8 0)) 0 W=W:=fE (by rw[cx]; rfl);have lJ:∀ y z:a2,(l++[y]).set l.length z=l++[z] :=fun y z=>by rw[at8 _ _ (att _)]; simp
     have b1:∀ X:am,(l++X)[b]? = some (.cells 11 O) :=fun X=>by rw[ats fB]; exact ag
     simp[k5,Cz,cx,afH,lJ,atr,b1,qP,di,lM,f1];have jl:∀ a,a≠2->((l++[a2.cells 32 W]).set 2 c)[a]? = (l++[a2.cells 32 W])[a]?:=fun a aB=>atF (Ne.symm aB)
     have zH:=hH.more [.cells 32 W];refine⟨by simp,by simp,by simp,by simp,by simp,by simp,by simp,by simp,by simp,by simp,by simp,⟨(jl 0 (by omega)).trans zH.fU,(jl 1 (by omega)).trans zH.np,?_⟩,gL,?_⟩
     ·refine (nd _ (atO (by have:=zH.lt; omega))).iff (acs az)
     ·rw[jl b (by omega),<-eS]; exact b1 _
    ·have uf:q=(jG g k).length:=by omega
     subst uf;rw[atW] at hH;simp[k5,aQ];exact⟨cI,by simp,by simp,by simp,by simp,by simp,by simp,by simp,hH.iff (acr ap dK)⟩
   ·have LB:¬ (u o.act.kind:Int)=3:=fun h=>dK (xR.1 h)
    simp[cI,cc,di,<-sj,qQ,k9,lJ,Ch,qO,qP,LB,aQ];exact⟨by simp,by simp,by simp,by simp,by simp,by simp,by simp,Fj.iff (acq ap dK)⟩
  ·have gW:k=g.ops.l.length:=by omega
   subst gW;have lT:∀ (X:am) h,(l++X)[0]'h=.cells 2 [aU g.ids,b4 g.ops] :=fun X h=>by
    have:=(hH.more X).fU; rw[atq] at this; exact this.2
   simp[cI,lT,ew];refine cF g.ops.l.length (Y6 g l.length) ?_ ⟨by simp,by simp,by simp,by simp,by simp,by simp,by simp,by simp,hH.more _,hH.lt,.a1,l.length+1,by simp,by simpa [il] using bJ.nil _,by simp[il,cD],.inl rfl⟩;obtain⟨b,jg⟩:∃ b,b=l.length:=⟨_,rfl⟩
   rw[<-jg];clear hH lT jg;rintro i ae l av ⟨aL,aT,a8,bc,fA,Jm,Jn,Jo,hH,gL,v,j,ag,j7,vS,ai⟩;obtain⟨ae,rfl⟩:=Yh aL aT a8 bc fA Jm Jn Jo;clear aL aT a8 bc fA Jm Jn Jo;have fB:b<l.length:=(atq.1 ag).1;have lT:∀ (X:am) h,(l++X)[0]'h=.cells 2 [aU g.ids,b4 g.ops] :=fun X h=>by
    have:=(hH.more X).fU; rw[atq] at this; exact this.2
   by_cases du:i<g.ops.l.length
   ·obtain⟨x,af,cX⟩:=bA (l:=g.ids.l) (k:=i) (by omega);obtain⟨o,ap,dZ⟩:=bA du;have nk:=ar.ids x cX;have bn:=cQ nk;have aQ:IntKind.i64.wrap ((i:Int)+1)=((i+1:Nat) :Int) :=by rw[IntKind.wrap_i64]; omega
    have hS:cj (.au 32) (aU g.ids) (.int .i64 (i:Int))=some (.b6 (aR x) 0) :=by simp[aU,af]
    have cc:cj (.au 11) (b4 g.ops) (.int .i64 (i:Int))=some (.b6 (bl o) 0) :=by simp[b4,ap]
    have di:(bl o).length=11:=rfl;have qO:∀ h,(bl o)[3]'h=bB o.act.kind:=fun _=>rfl
    have qP:∀ h,(bl o)[4]'h=.str o.act.key:=fun _=>rfl
    have xR:=abg o;have si:c5 ⟨o.act.key,x⟩=.str o.act.key::aR x:=rfl;have m3:(c5 ⟨o.act.key,x⟩).length=33:=nN nk;have gU:=Ii ap af;obtain⟨O,eS⟩:∃ O,O=bl o:=⟨_,rfl⟩
    obtain⟨Y,ev⟩:∃ Y,Y=aR x:=⟨_,rfl⟩
    obtain⟨T,ci⟩:∃ T,T=c5 ⟨o.act.key,x⟩:=⟨_,rfl⟩
    rw[<-eS] at cc di qO qP;rw[<-ev] at hS bn si;have h9:=(hH.more [a2.cells 11 O,.cells 33 T]).m.look (x:=⟨o.act.key,x⟩) nk;rw[<-ci] at si m3 h9;obtain⟨Z,sj⟩:∃ Z,Z=[U.int .u32 0,.a1,.int .u64 0,.int .u8 0,.str [],.int .u8 0,.int .i64 0,.int .u64 0,.str [],.int .u32 0,.int .u32 0] :=⟨_,rfl⟩
    have qQ:Z.length=11:=by rw[sj]; rfl
    have k9:bz Z 0 O=O:=fE (by rw[di,qQ]);have oY:bz (rep 32 (.int .u8 0)) 0 Y=Y:=fE (by rw[bn]; rfl);have x8:bz (U.str [] ::rep 32 (.int .u8 0)) 0 T=T:=M8 m3;have Ch:O.take 11=O:=atr (by omega);have SV:T.take 33=T:=atr (by omega);have lJ:∀ y z:a2,(l++[y]).set l.length z=l++[z] :=fun y z=>by rw[at8 _ _ (att _)]; simp
    have T3:∀ y z w:a2,(l++[w,y]).set (l.length+1) z=l++[w,z] :=fun y z w=>by rw[at8 _ _ (by omega)]; simp
    have b1:∀ X:am,(l++X)[b]? = some (.cells 1 [v]) :=fun X=>by rw[ats fB]; exact ag
    by_cases b0:o.act.kind=2#8
    ·have LA:=xR.2 b0;simp[du,cc,di,<-sj,qQ,k9,lJ,Ch,qO,qP,LA,lT,hS,bn,atr,oY,<-si,m3,x8,T3,h9];by_cases hm:ol g g.ops.l.length ⟨o.act.key,x⟩
     ·rw[if_neg (fun h=>h.2 hm),atZ] at gU;simp[hm,aQ];exact⟨du,by simp,by simp,by simp,by simp,by simp,by simp,by simp,by simp,hH.more _,gL,v,j,b1 _,by rw[gU]; exact j7.more _,by rw[gU]; exact vS,ai⟩
     ·rw[if_pos ⟨b0,hm⟩] at gU;obtain⟨dU,oN⟩:∃ dU,dU=l++[a2.cells 11 O,a2.cells 33 T,a2.cells 33 T] :=⟨_,rfl⟩
      have apA:dU.length=l.length+3:=by rw[oN]; simp
      have adp:=Eh g i;have ae5:bJ 33 dU v j ((il g i).map c5) :=by rw[oN]; exact j7.more _
      obtain⟨aY,bX,l',ig,jU,qr,D3,AY,alG⟩:=Ot (by_:=48) ae5 (x:=.au 33 (l.length+2) 0 1 1 33) (xs:=[T]) (by rw[oN]; simp[dp,m3,SV]) (by simp[m3]) (by omega) (by omega) (by simp; omega);have hu:cD aY=false:=by rw[alG]; simp
      have nj:=jU.cells;have ac5:lq g (ol g g.ops.l.length) dU:=by rw[oN]; exact hH.more _
      have mc:dU[b]? = some (.cells 1 [v]) :=by rw[oN]; exact b1 _
      have bH:l'[b]? = some (.cells 1 [v]) :=by rw[D3 b (by omega) (ai.imp_right (by omega))]; exact mc
      rw[oN] at ig;simp[hm,b1,m3,SV,x8,ig,atr];refine c0.cq ?_;simp[nj,bH,aQ];have bx:∀ a,a≠b->(l'.set b (.cells 1 [aY]))[a]? = l'[a]?:=fun a aB=>atF (Ne.symm aB)
      refine⟨du,by simp,by simp,by simp,by simp,by simp,by simp,by simp,by simp,ac5.frame fun a aB=>?_,gL,aY,bX,atO (by omega),?_,by rw[hu,gU]; simp,?_⟩
      ·rw[bx a (by omega),D3 a (by omega) (ai.imp_right (by omega))]
      ·have Km:bX≠b:=by
        rcases AY with h | ⟨h1,ad⟩ | h
        ·omega
        ·have:=ai.resolve_left h1; omega
        ·rw[h] at hu; cases hu
       rw[gU,atX];have:bJ 33 (l'.set b (.cells 1 [aY])) aY bX ((il g i).map c5++[T]) :=jU.frame fun _=>bx bX Km
       rw[ci] at this;exact this
      ·right;rcases AY with h | ⟨h1,ad⟩ | h
       ·omega
       ·have:=ai.resolve_left h1; omega
       ·rw[h] at hu; cases hu
    ·have LA:¬ (u o.act.kind:Int)=2:=fun h=>b0 (xR.1 h)
     simp[du,cc,di,<-sj,qQ,k9,lJ,Ch,qO,qP,LA,lT,hS,bn,atr,oY,<-si,m3,x8,T3,aQ];rw[if_neg (fun h=>b0 h.1),atZ] at gU;exact⟨by simp,by simp,by simp,by simp,by simp,by simp,by simp,by simp,hH.more _,gL,v,j,b1 _,by rw[gU]; exact j7.more _,by rw[gU]; exact vS,ai⟩
   ·have eG:i=g.ops.l.length:=by omega
    subst eG;have adp:=Eh g g.ops.l.length;simp[du,ag];refine alo (Od ar _) (by omega) vS j7 (fun l' h1 ad aj=>?_);have bH:l'[b]? = some (.cells 1 [v]) :=by rw[ad b (ai.imp_right (by omega))]; exact ag
    have zH:lq g (ol g g.ops.l.length) l':=hH.frame fun a aB=>ad a (ai.imp_right (by omega))
    have np:=zH.np;have oN:=zH.lt;have nj:=aj.cells;have c9:∀ (y:a2),(l'.set 1 y)[1]? = some y:=fun y=>atO (by omega)
    simp[bH,np,c9];refine Hn (WW ?_) (aP (by rw[aE]) rfl);unfold qg;rw[if_pos aE];have aF:bJ 33 (l'.set 1 (.cells 1 [v])) v j ((lV (il g g.ops.l.length)).map c5) :=by
     rcases ai with e | e
     ·subst e;have:=aj.q.uD;rw[this]; exact .nil _
     ·exact aj.frame fun _=>atF (by omega)
    exact aF.q.yD (fun x=>IL x) (HF (lV (il g g.ops.l.length))) (by
     rw[vS,ak0];have:=Xx (il g g.ops.l.length);cases aW:lV (il g g.ops.l.length)<;>cases bt:il g g.ops.l.length<;>simp_all) (Nk _)
 ·simp[aE];refine aP ?_ ?_
  ·unfold qg; rw[if_neg aE]; rfl
  ·simp[U.closed,bm,qG]
theorem agX {g:bg} (V:kv g) {k:Nat} {o:bp} (ap:g.ops.l[k]? = some o) (b0:o.act.kind=2#8) :gP o.act.key=true:=by
 obtain⟨y,az,_⟩:=bA (l:=g.ids.l) (k:=k) (by rw[V.len]; exact (atq.1 ap).1);have h1:=RI (A0 (V.kY k o y ap az).1);rw[Bm b0,atv] at h1;exact h1.1
theorem Zm {g:bg} (V:kv g) {m:Nat} {key:List UInt8} {x:List B} (af:g.ids.l[m]? = some x) :(⟨key,x⟩:bd)∉il g m:=fun h=>by
 obtain⟨k,o,y,h1,_,aj,_,_,bt⟩:=Ih.1 h;have:x=y:=congrArg bd.id bt;subst this;have:=nl V.dN k m x aj af;omega
theorem Oc {g:bg} (V:kv g) :∀ {m:Nat},m<=g.ops.l.length->(il g m).Nodup
 | 0,_=>by simp[il]
 | m+1,hm=>by
  have aH:=Oc V (m:=m) (by omega);obtain⟨o,ap,_⟩:=bA (l:=g.ops.l) (k:=m) (by omega);obtain⟨x,af,_⟩:=bA (l:=g.ids.l) (k:=m) (by rw[V.len]; omega);rw[Ii ap af];split
  ·rw[auD];refine⟨aH,by simp,fun a aB b ag e=>?_⟩;rw[atM] at ag;subst e;rw[ag] at aB;exact Zm V af aB
  ·simpa using aH
theorem aia {g:bg} (ar:fG g) :mv (qg g).l/\(qg g).l.length<=g.ops.l.length:=by
 unfold qg;by_cases aE:eW g=0
 ·rw[if_pos aE,Nk];refine⟨fun t aI=>Od ar _ t ((Xy _ _).1 aI),?_⟩;rw[Xx]; exact Eh g _
 ·rw[if_neg aE]; exact⟨fun t aI=>(by cases aI),auy _⟩
noncomputable def ma (g:bg) :ck:=if eW g=0 then ⟨g.ops.l.length,qg g,mu g,mF g⟩ else kR
set_option maxHeartbeats 4000000 in
theorem al6 (g:bg) (ar:fG g) :bw Tryz.prog GS 12 [db g] (.bG [.aM (fP (ma g)),.int .i64 (eW g)]) :=by
 refine bP Tryz.checked.mixed bC ?_;apply bj Tryz.func12 [];have eN:=gM g.ids;have dj:=mU g.ops;have ew:cP (.au 11) (b4 g.ops)=some (.int .i64 g.ops.l.length) :=by simp[b4]
 have h1:=amg g ar;have ad:=ami g ar;have aj:=al8 g ar;have ca:=BD (qg g);have cy:=zg (mu g);have eV:=BC (mF g);unfold db dS at h1 ad aj;simp[db,dS];refine bf h1 (by simp[bm,U.closed,eN,dj]) ?_;by_cases aE:eW g=0
 ·have aD:ma g=⟨g.ops.l.length,qg g,mu g,mF g⟩:=by unfold ma; rw[if_pos aE]
  rw[aD];simp[aE,ca,ew,bz];refine bf ad (by simp[bm,U.closed,eN,dj]) ?_;simp[cy,bz];refine bf aj (by simp[bm,U.closed,eN,dj]) ?_;simp[eV,bz];exact aP (by rw[aE]; rfl) (Rc _ _)
 ·have aD:ma g=kR:=by unfold ma; rw[if_neg aE]
  rw[aD];simp[aE,ca];exact aP rfl (Rc kR _)
def yx (g:bg) (l:List (List B)) (i:Nat) :Bool:=decide (bV l i∈g.ids.l)&&(!decide (bV l i∈l.take i)&&l4 (l.take i) (E5 g (bV l i)).1.bo.l)
structure N4 (s:ck) (k:Nat) :Prop where
 ok:lr s
 dB:s.dB=(k:Int)
 ak:s.bM.l.length<=k
 aC:s.bM.l.Nodup
 rA:s.bQ.l.length<=k
def y0 (l l' : am) :Prop:=l.length<=l'.length/\∀ b,b<l.length->l'[b]? = l[b]?
theorem y0.refl (l:am) :y0 l l:=⟨att _,fun _ _=>rfl⟩
theorem y0.trans {l m n:am} (h:y0 l m) (ad:y0 m n) :y0 l n:=⟨auV h.1 ad.1,fun b ag=>by rw[ad.2 b (avJ ag h.1),h.2 b ag]⟩
theorem yJ (s t:ck) :rC s t=true<->s.dB=t.dB/\s.set.l=t.set.l/\s.bQ.l=t.bQ.l/\s.bM.l=t.bM.l:=by
 unfold rC;simp only[atv,decide_eq_true_eq]
noncomputable def rB (g:bg) (l:List (List B)) :Nat->ck × Int
 | 0=>(kR,0)
 | k+1=>if (rB g l k).2=0 then (if yx g l k=true then ET (rB g l k).1 g (bV l k) else (kR,32)) else rB g l k
noncomputable def R3 (g:bg) (l:List (List B)) :ck × Int:=if eW g=0 then (if l.length=g.ids.l.length then rB g l l.length else (kR,32)) else (kR,eW g)
structure am1 (g:bg) (s:fq) (k:Nat) (ae:a7) (l:am) :Prop where
 aT:ae 2=.ptr 0 0 2
 a8:ae 3=.ptr 1 0 1
 bu:ae 4=.ptr 2 0 4
 ei:ae 7=.ptr 3 0 4
 xo:ae 27=aU s
 aoV:ae 28=.int .i64 s.l.length
 aoW:ae 29=.int .i64 k
 dH:l[0]? = some (.cells 2 [aU g.ids,b4 g.ops])
 q1:l[1]? = some (.cells 1 [aU s])
 gn:l[2]? = some (.cells 4 [.int .i64 0,.a1,.a1,.a1])
 kP:l[3]? = some (.cells 4 (fP (rB g s.l k).1))
 ao:(rB g s.l k).2=0
 cw:N4 (rB g s.l k).1 k
noncomputable def NN (g:bg) (key:List UInt8) :Nat->Bool
 | 0=>false
 | m+1=>NN g key m||(match g.ops.l[m]?,g.ids.l[m]? with | some o,some x=>decide (o.act.kind=2#8)&&(decide (o.act.key=key)&&!B8 g (jY g) key x g.ops.l.length) | _,_=>false)
structure anb (g:bg) (key:List UInt8) (T:gq) (K:pn) (al:Bool) (k:Nat) (ae:a7) (l:am) :Prop where
 aL:ae 1=.str key
 aT:ae 2=.ptr 0 0 2
 bc:ae 5=.bool true
 eu:ae 8=.bool al
 gc:ae 10=qK K
 fA:ae 12=.bool false
 E3:ae 14=.int .i64 k
 sQ:∃ v,ae 13=v/\cf 1 RB [.cells 2 [aU g.ids,b4 g.ops],.cells 1 [eh T]] l v ((List.range k).map (jY g)) (decide (k=0))
structure anc (g:bg) (key:List UInt8) (K:pn) (al:Bool) (v:U) (L:am) (k:Nat) (ae:a7) (l:am) :Prop where
 aL:ae 1=.str key
 aT:ae 2=.ptr 0 0 2
 bc:ae 5=.bool true
 eu:ae 8=.bool al
 gc:ae 10=qK K
 fA:ae 12=.bool (NN g key k)
 h8:ae 13=v
 ox:ae 15=.int .i64 k
 e:l=L
structure ane (g:bg) (key:List UInt8) (K:pn) (al:Bool) (v:U) (L:am) (i:Nat) (x:List B) (k:Nat) (ae:a7) (l:am) :Prop where
 aL:ae 1=.str key
 aT:ae 2=.ptr 0 0 2
 bc:ae 5=.bool true
 eu:ae 8=.bool al
 gc:ae 10=qK K
 fA:ae 12=.bool (NN g key i)
 h8:ae 13=v
 ox:ae 15=.int .i64 i
 mZ:ae 16=.bool (!B8 g (jY g) key x k)
 nO:ae 17=.int .i64 k
 e:l=L
structure anf (key:List UInt8) (K:pn) (al w:Bool) (L:am) (k:Nat) (ae:a7) (l:am) :Prop where
 aL:ae 1=.str key
 bc:ae 5=.bool true
 eu:ae 8=.bool al
 gc:ae 10=qK K
 fA:ae 12=.bool w
 r9:ae 18=.bool (decide (key∈K.l.take k))
 sa:ae 19=.int .i64 k
 e:l=L
end Op

end Go.b2

/-
  Indices (shards). The graph of an index, in the reference.
-/
import Derived.Test.YtidejmkknleijaaGreatDoorFk
set_option linter.unusedVariables false
set_option linter.unusedSimpArgs false
set_option linter.unnecessarySimpa false
namespace Go.bY
open Go Go.Proofs
set_option maxRecDepth 100000
namespace Op
open hl
theorem hL.Uw {l:ao} {cj b2:U} {eX eY n:Nat} {ids:List (List B)} {ops:List bp} (h:hL l cj b2 eX eY n ids ops) {X:List U} {x:List B} (cM:X=a1 x) (ag:X.length=32) {c:Nat} (ah:l[c]? = some (.cells 32 X)) (aC:n<=l.length) (al:ids.length<=1000000) :
  ∃ a3 cn l',gT l 32 32 cj (.aq 32 c 0 1 1 32)=some (a3,l')/\hL l' a3 b2 cn eY n (ids++[x]) ops/\l.length<=l'.length/\(∀ b,b<l.length->cj=.aH\/b≠eX->l'[b]? = l[b]?)/\(l.length<=cn\/(cj≠.aH/\cn=eX)) :=by
 have ay:ct=140737488355328:=rfl;obtain⟨a3,cn,l',a2,bd,b4,e0,gB,ho⟩:=xd (by_:=32) (x:=.aq 32 c 0 1 1 32) (xs:=[X]) h.iv (by simp[ds,ah,ag,as1]) (by simp[ag]) (by omega) (by omega) (by rw[ay]; simp; omega);have fr:cD a3=false:=by rw[ho]; simp
 have ja:a3≠.aH:=fun e=>by rw[e] at fr; cases fr
 have fp:n<=cn:=by
  rcases gB with e | ⟨aQ,bx⟩ | e
  ·omega
  ·rw[bx]; exact h.cX.resolve_left aQ
  ·exact absurd e ja
 refine⟨a3,cn,l',a2,⟨?_,?_,by rw[fr]; simp,h.p5,.inr fp,h.dC,?_⟩,b4,e0,?_⟩
 ·rw[atn,atr,auq,<-cM]; exact bd
 ·refine h.gP.lA ?_;rcases h.gP.lt with e | e
  ·exact .inl e
  ·by_cases fX:b2=.aH
   ·exact .inl fX
   ·refine .inr (e0 _ e ?_);rcases h.ne with q | q | q
    ·exact .inl q
    ·exact absurd q fX
    ·exact .inr fun e=>q e.symm
 ·by_cases fX:b2=.aH
  ·exact .inr (.inl fX)
  ·refine .inr (.inr fun e=>?_);have ae:=h.gP.lt.resolve_left fX;rcases gB with q | ⟨q1,db⟩ | q
   ·omega
   ·rcases h.ne with p | p | p
    ·exact q1 p
    ·exact fX p
    ·exact p (by omega)
   ·exact ja q
 ·rcases gB with e | ⟨aQ,bx⟩ | e
  ·exact .inl e
  ·exact .inr ⟨aQ,bx⟩
  ·exact absurd e ja
theorem hL.VV {l:ao} {cj b2:U} {eX eY n:Nat} {ids:List (List B)} {ops:List bp} (h:hL l cj b2 eX eY n ids ops) {O:List U} {o:bp} (eD:O=a9 o) {c:Nat} (ah:l[c]? = some (.cells 11 O)) (aC:n<=l.length) (al:ops.length<=1000000) :
  ∃ a3 cn l',gT l 11 112 b2 (.aq 11 c 0 1 1 11)=some (a3,l')/\hL l' cj a3 eX cn n ids (ops++[o])/\l.length<=l'.length/\(∀ b,b<l.length->b2=.aH\/b≠eY->l'[b]? = l[b]?) :=by
 have ay:ct=140737488355328:=rfl;have ag:O.length=11:=by rw[eD]; rfl
 obtain⟨a3,cn,l',a2,bd,b4,e0,gB,ho⟩:=xd (by_:=112) (x:=.aq 11 c 0 1 1 11) (xs:=[O]) h.gP (by simp[ds,ah,ag,as1]) (by simp[ag]) (by omega) (by omega) (by rw[ay]; simp; omega);have fr:cD a3=false:=by rw[ho]; simp
 have ja:a3≠.aH:=fun e=>by rw[e] at fr; cases fr
 have fp:n<=cn:=by
  rcases gB with e | ⟨aQ,bx⟩ | e
  ·omega
  ·rw[bx]; exact h.dC.resolve_left aQ
  ·exact absurd e ja
 refine⟨a3,cn,l',a2,⟨?_,?_,h.kh,by rw[fr]; simp,h.cX,.inr fp,?_⟩,b4,e0⟩
 ·refine h.iv.lA ?_;rcases h.iv.lt with e | e
  ·exact .inl e
  ·by_cases fX:cj=.aH
   ·exact .inl fX
   ·refine .inr (e0 _ e ?_);rcases h.ne with q | q | q
    ·exact absurd q fX
    ·exact .inl q
    ·exact .inr q
 ·rw[atn,atr,auq,<-eD]; exact bd
 ·by_cases fX:cj=.aH
  ·exact .inl fX
  ·refine .inr (.inr fun e=>?_);have ae:=h.iv.lt.resolve_left fX;rcases gB with q | ⟨q1,db⟩ | q
   ·omega
   ·rcases h.ne with p | p | p
    ·exact fX p
    ·exact q1 p
    ·exact p (by omega)
   ·exact ja q
structure en where
 parts:c3 bt
 dq:dr
 dW:Int
def j6 (s:c3 bt) :U:=cA 2 bX s
def dD (s:en) :List U:=[j6 s.parts,aD s.dq,.int .i64 s.dW]
structure mY (s:en) :Prop where
 parts:∀ g∈s.parts.l,g8 g/\g.ids.l.length<=100/\g.ops.l.length<=100
 wb:s.parts.l.length<=10
 dq:eu s.dq
 MF:s.dq.l.length<=1000000
theorem zk (s:c3 bt) :(j6 s).closed=true:=BR zj s
theorem BQ (s:en) :a5 (dD s)=true:=by simp[dD,a5,U.closed,zk,dw]
def kV (p:bt) (x:List B) :Option bp:=if 0<=he x p.ids.l 0/\he x p.ids.l 0<(p.ops.l.length:Int) then p.ops.l[(he x p.ids.l 0).toNat]? else none
def gW (l:List bt) (k:Nat) :bt:=l.getD k ⟨none,none⟩
theorem hR {l:List bt} {k:Nat} {g:bt} (h:l[k]? = some g) :gW l k=g:=by unfold gW; rw[atf,h]; rfl
def ii (ps:List bt) (x:List B) :Nat->List (List B × bp)
 | 0=>[]
 | k+1=>ii ps x k++match kV (gW ps k) x with | some o=>[(x,o)] | none=>[]
def jE (ps:List bt) (ids:List (List B)) :Nat->List (List B × bp)
 | 0=>[]
 | i+1=>jE ps ids i++ii ps (bT ids i) ps.length
def i5 (ps:List bt) :Nat->List (List B)
 | 0=>[]
 | k+1=>i5 ps k++(gW ps k).ids.l
def hi (s:en) :List (List B) :=A7 (i5 s.parts.l s.parts.l.length)
def e8 (s:en) :List (List B × bp) :=jE s.parts.l (hi s) (hi s).length
def e7 (s:en) :bt:=gi (eL (e8 s))
theorem I3 {ps:List bt} {x:List B}:∀ {k:Nat},k<=ps.length->(x∈i5 ps k<->∃ j p,j<k/\ps[j]? = some p/\x∈p.ids.l)
 | 0,_=>⟨fun h=>(by cases h),fun ⟨j,p,ai,_⟩=>by omega⟩
 | k+1,ar=>by
  obtain⟨p,av,_⟩:=bP (l:=ps) (k:=k) (by omega);show x∈i5 ps k++(gW ps k).ids.l<->_;rw[atU,I3 (by omega),hR av];constructor
  ·rintro (⟨j,q,ad,ae⟩ | h)
   ·exact⟨j,q,by omega,ae⟩
   ·exact⟨k,p,by omega,av,h⟩
  ·rintro⟨j,q,ad,ae,aj⟩;by_cases e:j=k
   ·subst e; rw[av] at ae; obtain rfl:=Option.some.inj ae; exact .inr aj
   ·exact .inl ⟨j,q,by omega,ae,aj⟩
theorem E8 {s:en} (h:mY s) :∀ {k:Nat},k<=s.parts.l.length->(i5 s.parts.l k).length<=100*k
 | 0,_=>by simp[i5]
 | k+1,ar=>by
  obtain⟨p,av,g0⟩:=bP (l:=s.parts.l) (k:=k) (by omega);have:=E8 h (k:=k) (by omega);have ae:=(h.parts p g0).2.1;show (i5 s.parts.l k++(gW s.parts.l k).ids.l).length<=_;rw[as8,hR av]; omega
theorem OI {s:en} (h:mY s) {k:Nat} (ar:k<=s.parts.l.length) :eu (dk (i5 s.parts.l k)) :=fun x ag=>by
 rw[ey,I3 ar] at ag;obtain⟨j,p,_,av,ag⟩:=ag;exact (h.parts p (ata av)).1.ids x ag
theorem Yx {s:en} (h:mY s) :(hi s).length<=1000:=by
 unfold hi A7;have ad:=ND (l:=i5 s.parts.l s.parts.l.length) (k:=(i5 s.parts.l s.parts.l.length).length);have ae:=E8 h (as3 s.parts.l.length);have aj:=h.wb;omega
theorem Yy {s:en} (h:mY s) :eu (dk (hi s)) :=fun x ag=>by
 rw[ey] at ag;unfold hi at ag;rw[XC] at ag;exact OI h (as3 _) x (by rw[ey]; exact ag)
theorem ZD {p:bt} {x:List B} {o:bp} (h:kV p x=some o) :o∈p.ops.l:=by
 unfold kV at h;split at h
 ·exact ata h
 ·cases h
theorem Ix {ps:List bt} {x:List B} {q:List B × bp}:∀ {k:Nat},k<=ps.length->(q∈ii ps x k<->∃ j p,j<k/\ps[j]? = some p/\kV p x=some q.2/\q.1=x)
 | 0,_=>⟨fun h=>(by cases h),fun ⟨j,p,ai,_⟩=>by omega⟩
 | k+1,ar=>by
  obtain⟨p,av,_⟩:=bP (l:=ps) (k:=k) (by omega);show q∈ii ps x k++(match kV (gW ps k) x with | some o=>[(x,o)] | none=>[])<->_;rw[atU,Ix (by omega),hR av];constructor
  ·rintro (⟨j,r,ad,ae⟩ | h)
   ·exact⟨j,r,by omega,ae⟩
   ·cases aB:kV p x with
    | none=>rw[aB] at h; cases h
    | some o=>
     rw[aB] at h;rw[atX.1 h];exact⟨k,p,by omega,av,aB,rfl⟩
  ·rintro⟨j,r,ad,ae,aj,aF⟩;by_cases e:j=k
   ·subst e; rw[av] at ae; obtain rfl:=Option.some.inj ae;right; rw[aj]; simp[<-aF]
   ·exact .inl ⟨j,r,by omega,ae,aj,aF⟩
theorem Iw {ps:List bt} {ids:List (List B)} {q:List B × bp}:∀ {i:Nat},i<=ids.length->(q∈jE ps ids i<->∃ a,a<i/\ids[a]? = some q.1/\∃ p∈ps,kV p q.1=some q.2)
 | 0,_=>⟨fun h=>(by cases h),fun ⟨j,ai,_⟩=>by omega⟩
 | i+1,az=>by
  obtain⟨x,ag,_⟩:=bP (l:=ids) (k:=i) (by omega);show q∈jE ps ids i++ii ps (bT ids i) ps.length<->_;rw[atU,Iw (by omega),fB ag,Ix (as3 _)];constructor
  ·rintro (⟨a,ad,ae⟩ | ⟨j,p,ad,ae,aj,aF⟩)
   ·exact⟨a,by omega,ae⟩
   ·exact⟨i,by omega,by rw[aF]; exact ag,p,ata ae,by rw[aF]; exact aj⟩
  ·rintro⟨a,ad,ae,p,aj,aF⟩;by_cases e:a=i
   ·subst e;rw[ag] at ae;have a6:=Option.some.inj ae;obtain⟨j,ai⟩:=atc.1 aj;exact .inr ⟨j,p,(as0.1 ai).1,ai,by rw[a6]; exact aF,a6.symm⟩
   ·exact .inl ⟨a,by omega,ae,p,aj,aF⟩
theorem YF {ps:List bt} {x:List B}:∀ {k:Nat},(ii ps x k).length<=k
 | 0=>by simp[ii]
 | k+1=>by
  have:=YF (ps:=ps) (x:=x) (k:=k);show (ii ps x k++(match kV (gW ps k) x with | some o=>[(x,o)] | none=>[])).length<=_;rw[as8];split<;>simp<;>omega
theorem YD {ps:List bt} {ids:List (List B)}:∀ {i:Nat},(jE ps ids i).length<=ps.length*i
 | 0=>by simp[jE]
 | i+1=>by
  have ad:=YD (ps:=ps) (ids:=ids) (i:=i);have ae:=YF (ps:=ps) (x:=bT ids i) (k:=ps.length);show (jE ps ids i++ii ps (bT ids i) ps.length).length<=_;rw[as8,Nat.mul_succ]; omega
theorem amw {s:en} (h:mY s) :(e8 s).length<=10000:=by
 have ad:=YD (ps:=s.parts.l) (ids:=hi s) (i:=(hi s).length);have ae:=Yx h;have aj:s.parts.l.length*(hi s).length<=10*1000:=Nat.mul_le_mul h.wb ae;unfold e8; omega
theorem EN {s:en} (h:mY s) :g8 (eL (e8 s)) :=by
 have hm:∀ q∈e8 s,q.1.length=32/\i3 q.2:=fun q bj=>by
  obtain⟨a,ad,ae,p,aj,aF⟩:=(Iw (as3 _)).1 bj;exact⟨Yy h q.1 (by rw[ey]; exact ata ae),(h.parts p aj).1.ops _ (ZD aF)⟩
 exact J1 (fun q bj=>(hm q bj).1) (fun q bj=>(hm q bj).2) (by have:=amw h; omega)
theorem yj (s:c3 bt) :cv (.aq 2) (j6 s)=some (.int .i64 s.l.length) :=by simp[j6]
theorem so {s:c3 bt} {k:Nat} {g:bt} (h:s.l[k]? = some g) :cN (.aq 2) (j6 s) (.int .i64 (k:Int))=some (.bK (bX g) 0) :=by simp[j6,h]
theorem aiJ {α:Type} {z:Nat} {enc:α->List U} {l:ao} {v:U} {j:Nat} {xs:List α} (s:c3 α) (h:bO z l v j (xs.map enc)) (aC:cD v=s.isNone) (ak:s.l=xs) {f:FuncId} {K:U->ao->Prop}
  (ah:∀ bo,bo.length=l.length->(∀ b,v=.aH\/b≠j->bo[b]? = l[b]?)->dh Tryz.prog GS f [cA z enc s] bo (c:=⟨K⟩)) :dh Tryz.prog GS f [v] l (c:=⟨K⟩) :=by
 obtain⟨l1,bL,c7,aQ,f1⟩:=HM s h aC ak;refine Fo Tryz.checked.mixed bl (args2:=[cA z enc s]) bL (by omega) rfl (fun j c b5 ad ae=>?_) (ah l1 aQ f1);obtain⟨rfl,rfl⟩:=zJ ad;obtain⟨_,rfl⟩:=zJ ae;exact c7
structure Zm (s:en) (k:Nat) (σ:a8) (l:ao) :Prop where
 aO:σ 1=.ptr 0 0 3
 aT:σ 2=.ptr 1 0 2
 bi:σ 4=.int .i64 k
 ex:∃ v j rest,l=.cells 3 (dD s) ::.cells 2 [.aH,.aH] ::rest/\σ 3=v/\bO 32 l v j ((i5 s.parts.l k).map a1)/\(v=.aH\/2<=j)/\cD v=(i5 s.parts.l k).isEmpty
structure Oy (s:en) (b:Nat) (i m:Nat) (out:List (List B × bp)) (σ:a8) (l:ao) :Prop where
 aO:σ 1=.ptr 0 0 3
 aT:σ 2=.ptr 1 0 2
 aZ:σ 3=aD (dk (hi s))
 bm:σ 5=.ptr b 0 2
 cw:σ 6=.int .i64 i
 cE:l[0]? = some (.cells 3 (dD s))
 q1:l[1]? = some (.cells 2 [.aH,.aH])
 ex:∃ cj b2 eX eY,l[b]? = some (.cells 2 [cj,b2])/\hL l cj b2 eX eY (b+1) (out.map (·.1)) (out.map (·.2))/\out.length<=m
set_option maxHeartbeats 16000000 in
theorem WP (s:en) (ak:mY s) :bA Tryz.prog GS 50 [.aG (dD s)] (c4 (e7 s)) :=by
 refine bW Tryz.checked.mixed bl ?_;apply bq Tryz.func50 [[],[[0],[1],[2],[3],[4],[5],[6],[8],[9],[10],[11],[12],[13],[14],[15],[16],[17],[18],[19],[7,19,18,15,11,9],[21],[20]]];have ay:ct=140737488355328:=rfl;have gO:=yj s.parts;have TS:=ak.wb;have bS:(dD s).length=3:=rfl;have fH:∀ h,(dD s)[0]'h=j6 s.parts:=fun _=>rfl
 simp[bS];refine cB s.parts.l.length (Zm s) ?_ ⟨by simp,by simp,by simp,.aH,0,[],rfl,by simp,.nil 0,.inl rfl,rfl⟩;rintro k σ l ar ⟨aO,aT,bi,v,j,rest,rfl,aZ,kF,ai,ip⟩;obtain⟨σ,rfl⟩:=i2 aO aT aZ bi;clear aO aT aZ bi;have aQ:IntKind.i64.wrap ((k:Int)+1)=((k+1:Nat) :Int) :=by rw[IntKind.wrap_i64]; omega
 by_cases bB:k<s.parts.l.length
 ·obtain⟨p,av,g0⟩:=bP bB;have h8:=(ak.parts p g0).1;have gZ:=(ak.parts p g0).2.1;have bZ:=so av;have hT:=E8 ak (auC bB);have b3:i5 s.parts.l (k+1)=i5 s.parts.l k++p.ids.l:=by show i5 s.parts.l k++(gW s.parts.l k).ids.l=_; rw[hR av]
  have iz:∀ h,(bX p)[0]'h=aD p.ids:=fun _=>rfl
  have jv:(bX p).length=2:=rfl;obtain⟨a3,cn,cx,a2,bd,b4,e0⟩:=xe (by_:=32) (pre:=[.cells 3 (dD s),.cells 2 [.aH,.aH]]) (rest:=rest) kF ai (x:=aD p.ids) (xs:=p.ids.l.map a1)
   (by simp[aD]) (fun e am=>by obtain⟨y,aJ,rfl⟩:=atx.1 am; exact de (h8.ids y aJ)) (by omega) (by omega) (by rw[ay]; simp; omega)
  simp only[atV,at1] at a2;simp[bS,fH,gO,bB,bZ,iz,jv,a2];refine c8.cb ?_;simp[aQ];refine⟨bB,by simp,by simp,by simp,a3,cn,cx,rfl,by simp,?_,by simpa using b4,?_⟩
  ·rw[b3,atn]; exact bd
  ·rw[e0,ip,b3];cases i5 s.parts.l k<;>cases p.ids.l<;>simp
 ·have e5:k=s.parts.l.length:=by omega
  subst e5;clear ar bB aQ;have hT:=E8 ak (as3 s.parts.l.length);have pZ:=ajG (dk (i5 s.parts.l s.parts.l.length)) (OI ak (as3 _)) (by rw[ey]; omega);rw[ey] at pZ;change bA _ _ _ _ (aD (dk (hi s))) at pZ;have qR:=dw (dk (i5 s.parts.l s.parts.l.length));have dS:=Yx ak;have ob:=Yy ak;simp[bS,fH,gO];refine aiJ (dk (i5 s.parts.l s.parts.l.length)) kF (by rw[sP]; exact ip) (ey _) (fun bo bx f2=>?_);have jX:bo[0]? = some (.cells 3 (dD s)) :=by rw[f2 0 (by rcases ai with e | e; exact .inl e; exact .inr (by omega))]; rfl
  have iK:bo[1]? = some (.cells 2 [.aH,.aH]) :=by rw[f2 1 (by rcases ai with e | e; exact .inl e; exact .inr (by omega))]; rfl
  have dX:2<=bo.length:=by rw[bx]; simp
  clear f2 kF ai ip;refine a4 pZ (by simp[a5]; exact qR) ?_;simp;obtain⟨b,af⟩:∃ b,b=bo.length:=⟨_,rfl⟩
  have aoV:2<=b:=by omega
  have cT:cv (.aq 32) (aD (dk (hi s)))=some (.int .i64 (hi s).length) :=by simp[aD,ey]
  refine cB (hi s).length (fun i σ l=>Oy s b i (10*i) (jE s.parts.l (hi s) i) σ l/\b<l.length) ?_ ⟨⟨by simp,by simp,by simp,by simp[af],by simp,by rw[as2 (by omega)]; exact jX,by rw[as2 (by omega)]; exact iK,.aH,.aH,0,0,by rw[af]; simp,by simpa [jE] using MK _ _,by simp[jE]⟩,by simp[af]⟩;rintro i σ l az ⟨⟨aO,aT,aZ,bm,cw,cE,q1,cj,b2,eX,eY,sI,iY,dF⟩,fV⟩;obtain⟨σ,rfl⟩:=lo aO aT aZ bm cw;clear aO aT aZ bm cw;have aQ:IntKind.i64.wrap ((i:Int)+1)=((i+1:Nat) :Int) :=by rw[IntKind.wrap_i64]; omega
  by_cases KK:i<(hi s).length
  ·obtain⟨x,ag,dp⟩:=bP KK;have fY:=ob x (by rw[ey]; exact dp);have bn:=de fY;have fK:=gK x;have dP:cN (.aq 32) (aD (dk (hi s))) (.int .i64 (i:Int))=some (.bK (a1 x) 0) :=by simp[aD,ey,ag]
   obtain⟨X,cM⟩:∃ X,X=a1 x:=⟨_,rfl⟩
   have Kk:X=a1 x:=cM;rw[<-cM] at bn fK dP;have hp:X.take 32=X:=as1 (by omega);have iE:bg (rep 32 (.int .u8 0)) 0 X=X:=hu (by rw[bn]; rfl);simp[cT,KK];refine cB s.parts.l.length (fun k σ l=>(Oy s b i (10*i+k) (jE s.parts.l (hi s) i++ii s.parts.l x k) σ l/\σ 7=.int .i64 k)/\b<l.length) ?_ ⟨⟨⟨by simp,by simp,by simp,by simp,by simp,cE,q1,cj,b2,eX,eY,sI,by simpa [ii] using iY,by simpa [ii] using dF⟩,by simp⟩,fV⟩;clear iY dF sI cE q1 fV;rintro k σ l ar ⟨⟨⟨aO,aT,aZ,bm,cw,cE,q1,cj,b2,eX,eY,sI,iY,dF⟩,fe⟩,fV⟩;obtain⟨σ,rfl⟩:=wL aO aT aZ bm cw fe;clear aO aT aZ bm cw fe;have bx:IntKind.i64.wrap ((k:Int)+1)=((k+1:Nat) :Int) :=by rw[IntKind.wrap_i64]; omega
   by_cases bB:k<s.parts.l.length
   ·obtain⟨p,av,g0⟩:=bP bB;obtain⟨h8,Lf,Lg⟩:=ak.parts p g0;have bZ:=so av;have iz:∀ h,(bX p)[0]'h=aD p.ids:=fun _=>rfl
    have l6:∀ h,(bX p)[1]'h=bC p.ops:=fun _=>rfl
    have jv:(bX p).length=2:=rfl;have mG:=dw p.ids;have cV:cv (.aq 11) (bC p.ops)=some (.int .i64 p.ops.l.length) :=by simp[bC]
    have eE:=AV p.ids h8.ids h8.li x fY;have b3:ii s.parts.l x (k+1)=ii s.parts.l x k++match kV p x with | some o=>[(x,o)] | none=>[] :=by
     show ii s.parts.l x k++(match kV (gW s.parts.l k) x with | some o=>[(x,o)] | none=>[])=_;rw[hR av]
    have F4:kV p x=if 0<=he x p.ids.l 0/\he x p.ids.l 0<(p.ops.l.length:Int) then p.ops.l[(he x p.ids.l 0).toNat]? else none:=rfl
    obtain⟨eP,aef⟩:∃ eP,eP=he x p.ids.l 0:=⟨_,rfl⟩
    rw[<-aef] at eE F4;rw[<-cM] at eE;have Vu:0<l.length:=cp cE;simp[cE,bS,fH,gO,bB,bZ,iz,l6,jv,dP,bn,hp];refine a4 eE (by simp[a5,U.closed,mG,fK]) ?_;by_cases cZ:0<=eP/\eP<(p.ops.l.length:Int)
    ·obtain⟨ad,ae⟩:=cZ;obtain⟨a,rfl⟩:=at4 ad;have go:a<p.ops.l.length:=by omega
     obtain⟨o,au,eF⟩:=bP go;rw[if_pos ⟨ad,ae⟩,atD,au] at F4;rw[F4] at b3;have hc:cN (.aq 11) (bC p.ops) (.int .i64 (a:Int))=some (.bK (a9 o) 0) :=by simp[bC,au]
     have oe:(a9 o).length=11:=rfl;obtain⟨O,eD⟩:∃ O,O=a9 o:=⟨_,rfl⟩
     rw[<-eD] at hc oe;have FT:O.take 11=O:=as1 (by omega);have q9:bg [U.int .u32 0,.aH,.int .u64 0,.int .u8 0,.str [],.int .u8 0,.int .i64 0,.int .u64 0,.str [],.int .u32 0,.int .u32 0] 0 O=O:=hu (by rw[oe]; rfl);have aoL:l.length<=1000000000000\/True:=.inr trivial;have gQ:∀ m:ao,(l++m)[0]? = some (.cells 3 (dD s)) :=fun m=>by rw[as2 Vu]; exact cE
     have ams:∀ (m:ao) (h:0<(l++m).length),(l++m)[0]'h=.cells 3 (dD s) :=fun m h=>(as0.1 (gQ m)).2
     have amo:∀ m:ao,(l++m)[b]? = some (.cells 2 [cj,b2]) :=fun m=>by rw[as2 fV]; exact sI
     have ac8:b+1<=(l++[aY.cells 32 X,.cells 11 O]).length:=by simp; omega
     have K9:hL (l++[aY.cells 32 X,.cells 11 O]) cj b2 eX eY (b+1) ((jE s.parts.l (hi s) i++ii s.parts.l x k).map (·.1)) ((jE s.parts.l (hi s) i++ii s.parts.l x k).map (·.2)) :=iY.frame fun c _ ah=>as2 ah
     have kb:(jE s.parts.l (hi s) i++ii s.parts.l x k).length<=1000000:=by omega
     obtain⟨ow,vV,l1,a2,bd,b4,e0,gB⟩:=K9.Uw (c:=l.length) Kk bn (by simp) ac8 (by rw[ate]; exact kb);have bU:=iY.iv.lt;have f:∀ c,c<l.length->cj=.aH\/c≠eX->l1[c]? = l[c]?:=fun c ah vD=>by rw[e0 c (by simp; omega) vD,as2 ah]
     have B7:l1[l.length+1]? = some (.cells 11 O) :=by
      rw[e0 (l.length+1) (by simp) (by rcases bU with e | e; exact .inl e; exact .inr (by omega))]; simp
     have gd:cj=.aH\/b+1<=eX:=iY.cX;have f0:l1[0]? = some (.cells 3 (dD s)) :=by rw[f 0 Vu (by rcases gd with e | e; exact .inl e; exact .inr (by omega))]; exact cE
     have f1:l1[1]? = some (.cells 2 [.aH,.aH]) :=by rw[f 1 (cp q1) (by rcases gd with e | e; exact .inl e; exact .inr (by omega))]; exact q1
     have JS:l1[b]? = some (.cells 2 [cj,b2]) :=by rw[f b fV (by rcases gd with e | e; exact .inl e; exact .inr (by omega))]; exact sI
     have adh:=cp JS;obtain⟨rF,ye,bo,b0,b5,ik,gJ⟩:=bd.VV (c:=l.length+1) eD B7 (by omega) (by rw[ate]; exact kb);have dX:b2=.aH\/b+1<=eY:=iY.dC;have ce:bo[0]? = some (.cells 3 (dD s)) :=by rw[gJ 0 (cp f0) (by rcases dX with e | e; exact .inl e; exact .inr (by omega))]; exact f0
     have aO:bo[1]? = some (.cells 2 [.aH,.aH]) :=by rw[gJ 1 (cp f1) (by rcases dX with e | e; exact .inl e; exact .inr (by omega))]; exact f1
     have Sg:bo[b]? = some (.cells 2 [cj,b2]) :=by rw[gJ b adh (by rcases dX with e | e; exact .inl e; exact .inr (by omega))]; exact JS
     have adi:=cp Sg;have gs:∀ y:aY,(bo.set b y)[b]? = some y:=fun y=>atj adi
     simp[cE,sI,gQ,ams,amo,bS,fH,bZ,iz,l6,jv,cV,ad,ae,go,dP,bn,hp,iE,hc,oe,FT,q9,a2];refine c8.cb ?_;have acE:(bX p)[1]? = some (bC p.ops) :=rfl;simp[f0,JS,B7,bS,fH,b0,oe,FT,acE];refine c8.cb ?_;have eQ:=yv bd.iv;have eG:=yv b5.gP;simp[Sg,gs,eQ,eG,bg,bx];have Ua:jE s.parts.l (hi s) i++ii s.parts.l x (k+1)=(jE s.parts.l (hi s) i++ii s.parts.l x k)++[(x,o)] :=by rw[b3,atK]
     have aeY:∀ y:aY,hL (bo.set b y) ow rF vV ye (b+1) ((jE s.parts.l (hi s) i++ii s.parts.l x (k+1)).map (·.1)) ((jE s.parts.l (hi s) i++ii s.parts.l x (k+1)).map (·.2)) :=fun y=>by
      have hm:∀ Z:List (List B × bp),(Z++[(x,o)]).map (·.1)=Z.map (·.1)++[x]/\(Z++[(x,o)]).map (·.2)=Z.map (·.2)++[o] :=fun Z=>⟨by rw[atn]; rfl,by rw[atn]; rfl⟩
      rw[Ua,(hm _).1,(hm _).2];exact b5.frame fun c ah _=>ato (Nat.ne_of_lt ah)
     exact⟨bB,⟨by simp,by simp,by simp,by simp,by simp,by rw[ato (by omega)]; exact ce,by rw[ato (by omega)]; exact aO,ow,rF,vV,ye,gs _,aeY _,by rw[Ua,as8,List.length_singleton]; omega⟩,by omega⟩
    ·have cU:kV p x=none:=by rw[F4,if_neg cZ]
     rw[cU,atB] at b3;have xK:(decide (0<=eP)&&decide (eP<(p.ops.l.length:Int)))=false:=by
      cases h:(decide (0<=eP)&&decide (eP<(p.ops.l.length:Int))) with
      | false=>rfl
      | true=>rw[as7,decide_eq_true_eq,decide_eq_true_eq] at h; exact absurd h cZ
     by_cases ad:0<=eP
     ·have ae:¬ eP<(p.ops.l.length:Int) :=fun h=>cZ ⟨ad,h⟩
      simp[cE,bS,fH,bZ,iz,l6,jv,cV,ad,ae,bx];exact⟨bB,⟨by simp,by simp,by simp,by simp,by simp,cE,q1,cj,b2,eX,eY,sI,by rw[b3]; exact iY,by rw[b3]; omega⟩,fV⟩
     ·simp[ad,bx];exact⟨bB,⟨by simp,by simp,by simp,by simp,by simp,cE,q1,cj,b2,eX,eY,sI,by rw[b3]; exact iY,by rw[b3]; omega⟩,fV⟩
   ·have e5:k=s.parts.l.length:=by omega
    subst e5;have vJ:jE s.parts.l (hi s) (i+1)=jE s.parts.l (hi s) i++ii s.parts.l x s.parts.l.length:=by
     show jE s.parts.l (hi s) i++ii s.parts.l (bT (hi s) i) s.parts.l.length=_;rw[fB ag]
    simp[cE,bS,fH,gO,aQ];exact⟨KK,⟨by simp,by simp,by simp,by simp,by simp,cE,q1,cj,b2,eX,eY,sI,by rw[vJ]; exact iY,by rw[vJ]; omega⟩,fV⟩
  ·have cZ:i=(hi s).length:=by omega
   subst cZ;have si:=WO _ (EN ak);change bA _ _ _ _ (c4 (e7 s)) at si;have eQ:=nU (e7 s).ids;have eG:=u6 (e7 s).ops;have b0:=dw (e7 s).ids;have b5:=lz (e7 s).ops;have ik:=dw (dk ((e8 s).map (·.1)));have gJ:=lz (dk ((e8 s).map (·.2)));unfold c4 bX at si;simp[cT,sI];refine iY.call fun gg c7 dU=>?_
   have cQ:gg[1]? = some (.cells 2 [.aH,.aH]) :=by rw[dU 1 (by omega)]; exact q1
   have yE:=cp cQ;have gs:∀ y:aY,(gg.set 1 y)[1]? = some y:=fun y=>atj yE
   refine a4 si (by simp[a5,U.closed]; exact⟨ik,gJ⟩) ?_;simp[cQ,gs,eQ,eG,bg];exact aP rfl (show (U.aG [aD (e7 s).ids,bC (e7 s).ops]).closed=true by simp[U.closed,a5,b0,b5])
theorem aiK {α:Type} {z:Nat} {enc:α->List U} {l:ao} {a v:U} {j:Nat} {xs:List α} (s:c3 α) (h:bO z l v j (xs.map enc)) (aC:cD v=s.isNone) (ak:s.l=xs) {f:FuncId} {K:U->ao->Prop}
  (ah:∀ bo,bo.length=l.length->(∀ b,v=.aH\/b≠j->bo[b]? = l[b]?)->dh Tryz.prog GS f [a,cA z enc s] bo (c:=⟨K⟩)) :dh Tryz.prog GS f [a,v] l (c:=⟨K⟩) :=by
 obtain⟨l1,bL,c7,aQ,f1⟩:=HM s h aC ak;refine Fo Tryz.checked.mixed bl (args2:=[a,cA z enc s]) bL (by omega) rfl (fun j c b5 ad ae=>?_) (ah l1 aQ f1);rcases pI ad with ⟨rfl,rfl⟩ | ⟨rfl,rfl⟩
 ·rcases pI ae with ⟨_,rfl⟩ | ⟨h,_⟩
  ·exact .same _
  ·omega
 ·rcases pI ae with ⟨h,_⟩ | ⟨_,rfl⟩
  ·omega
  ·exact c7
def num (x:List B) (n:Nat) :Nat:=(x.getD 0 0).toNat % n
def mR (g:bt) (n i:Nat) :List (List B) :=g.ids.l.filter fun x=>decide (num x n=i)
def ld (g:bt) (n:Nat) :Nat->List bt
 | 0=>[]
 | i+1=>ld g n i++[jC g (mR g n i)]
theorem uh (g:bt) (n:Nat) :∀ i,(ld g n i).length=i
 | 0=>rfl
 | i+1=>by show (ld g n i++_).length=_; rw[as8,uh g n i]; rfl
theorem Hz (g:bt) (n:Nat) :∀ {i k:Nat},k<i->(ld g n i)[k]? = some (jC g (mR g n k))
 | i+1,k,ar=>by
  show (ld g n i++_)[k]? = _;by_cases h:k<i
  ·rw[as2 (by rw[uh]; exact h)]; exact Hz g n h
  ·have:k=i:=by omega
   subst this;rw[atl (by rw[uh]; exact as3 _),uh]; simp
def ot (g:bt) (n:Nat) :en:=⟨some (ld g n n),dk (hU g),g.ids.l.length⟩
theorem VM {x:List B} (ag:x.length=32) :∃ b r,x=b::r/\num x=fun n=>b.toNat % n:=by
 cases x with
 | nil=>cases ag
 | cons b r=>exact⟨b,r,rfl,rfl⟩
theorem V6 {z by_:Nat} {l:ao} {w:U} {fS n c:Nat} {es:List (List U)} {X:List U} (h:bO z l w fS es) (af:w=.aH\/n<=fS) (aC:n<=l.length) (ah:l[c]? = some (.cells z X)) (cM:X.length=z) (aI:z≠0) (dI:by_≠0) (dy:(es.length+1)*by_<=ct) :
  ∃ w' su l',gT l z by_ w (.aq z c 0 1 1 z)=some (w',l')/\bO z l' w' su (es++[X])/\cD w'=false/\n<=su/\l.length<=l'.length/\(∀ b,b<l.length->w=.aH\/b≠fS->l'[b]? = l[b]?)/\(l.length<=su\/(w≠.aH/\su=fS)) :=by
 obtain⟨a3,cn,l',a2,bd,b4,e0,gB,ho⟩:=xd (by_:=by_) (x:=.aq z c 0 1 1 z) (xs:=[X]) h (by simp[ds,ah,cM,as1]) (by simp[cM]) aI dI (by simpa using dy);have fr:cD a3=false:=by rw[ho]; simp
 have ja:a3≠.aH:=fun e=>by rw[e] at fr; cases fr
 refine⟨a3,cn,l',a2,bd,fr,?_,b4,e0,?_⟩
 ·rcases gB with e | ⟨aQ,bx⟩ | e
  ·omega
  ·rw[bx]; exact af.resolve_left aQ
  ·exact absurd e ja
 ·rcases gB with e | ⟨aQ,bx⟩ | e
  ·exact .inl e
  ·exact .inr ⟨aQ,bx⟩
  ·exact absurd e ja
theorem aiN {z:Nat} {l l' : ao} {w v:U} {fS su j:Nat} {es:List (List U)} (o:bO z l v j es) (ne:w=.aH\/v=.aH\/fS≠j) (ep:∀ b,b<l.length->w=.aH\/b≠fS->l'[b]? = l[b]?) (abS:l.length<=su\/(w≠.aH/\su=fS)) :bO z l' v j es/\(v=.aH\/su≠j) :=by
 by_cases ap:v=.aH
 ·refine⟨?_,.inl ap⟩;subst ap;have:=o.q.MG;subst this;exact .nil _
 ·have ai:=o.lt.resolve_left ap;have vD:w=.aH\/j≠fS:=by
   rcases ne with q | q | q
   ·exact .inl q
   ·exact absurd q ap
   ·exact .inr fun e=>q e.symm
  refine⟨o.lA (.inr (ep j ai vD)),.inr fun e=>?_⟩;rcases abS with q | ⟨q1,db⟩
  ·omega
  ·rcases vD with p | p
   ·exact q1 p
   ·exact p (by omega)
structure Y8 (g:bt) (n i:Nat) (σ:a8) (l:ao) :Prop where
 aO:σ 1=.int .i64 n
 aT:σ 2=.ptr 0 0 2
 bi:σ 4=.ptr 1 0 3
 bm:σ 5=.ptr 2 0 3
 cw:σ 6=.int .i64 i
 ex:∃ v j rest,l=.cells 2 [aD g.ids,bC g.ops] ::.cells 3 [.aH,.aH,.int .i64 0] ::.cells 3 [v,aD (dk (hU g)),.int .i64 g.ids.l.length] ::rest/\bO 2 l v j ((ld g n i).map bX)/\(v=.aH\/3<=j)/\cD v=(ld g n i).isEmpty
structure Y9 (g:bt) (n i:Nat) (v:U) (j:Nat) (k:Nat) (σ:a8) (l:ao) :Prop where
 aO:σ 1=.int .i64 n
 aT:σ 2=.ptr 0 0 2
 bi:σ 4=.ptr 1 0 3
 bm:σ 5=.ptr 2 0 3
 cw:σ 6=.int .i64 i
 gc:σ 8=.int .i64 k
 ex:∃ w fS rest,l=.cells 2 [aD g.ids,bC g.ops] ::.cells 3 [.aH,.aH,.int .i64 0] ::.cells 3 [v,aD (dk (hU g)),.int .i64 g.ids.l.length] ::rest/\bO 2 l v j ((ld g n i).map bX)/\σ 7=w ∧
  bO 32 l w fS (((g.ids.l.take k).filter fun x=>decide (num x n=i)).map a1)/\(w=.aH\/3<=fS)/\cD w=((g.ids.l.take k).filter fun x=>decide (num x n=i)).isEmpty/\(w=.aH\/v=.aH\/fS≠j)
set_option maxHeartbeats 16000000 in
theorem ajs (g:bt) (aw:g8 g) (aI:hz g=0) (n:Nat) (sb:1<=n) (tN:n<=100) :bA Tryz.prog GS 92 [c4 g,.int .i64 n] (.aG (dD (ot g n))) :=by
 refine bW Tryz.checked.mixed bl ?_;apply bq Tryz.func92 [[[0],[2],[3],[4],[6],[1,6,3],[5]],[[0],[1],[2],[3],[4,1]]];have ay:ct=140737488355328:=rfl;have V:=AL aI;have K4:=V.n60;have jQ:=V.len;have fW:=dw g.ids;have eg:=lz g.ops;have cT:cv (.aq 32) (aD g.ids)=some (.int .i64 g.ids.l.length) :=by simp[aD]
 have Ud:=ajI g aw aI;have ahP:=nU (dk (hU g));unfold c4 bX at Ud;simp[c4,bX,cT];refine a4 Ud (by simp[a5,U.closed,fW,eg]) ?_;simp[ahP,bg];refine cB n (Y8 g n) ?_ ⟨by simp,by simp,by simp,by simp,by simp,.aH,0,[],rfl,.nil 0,.inl rfl,rfl⟩;rintro i σ l az ⟨aO,aT,bi,bm,cw,v,j,rest,rfl,kF,ai,ip⟩;obtain⟨σ,rfl⟩:=lo aO aT bi bm cw;clear aO aT bi bm cw;have aQ:IntKind.i64.wrap ((i:Int)+1)=((i+1:Nat) :Int) :=by rw[IntKind.wrap_i64]; omega
 by_cases cZ:i<n
 ·simp[cZ];refine cB g.ids.l.length (Y9 g n i v j) ?_ ⟨by simp,by simp,by simp,by simp,by simp,by simp,.aH,0,rest,rfl,kF,by simp,.nil 0,.inl rfl,rfl,.inl rfl⟩;clear kF;rintro k σ l ar ⟨aO,aT,bi,bm,cw,gc,w,fS,rest,rfl,kF,fe,aW,z4,Ab,bV⟩;obtain⟨σ,rfl⟩:=Yf aO aT bi bm cw fe gc;clear aO aT bi bm cw fe gc;have bx:IntKind.i64.wrap ((k:Int)+1)=((k+1:Nat) :Int) :=by rw[IntKind.wrap_i64]; omega
  by_cases bB:k<g.ids.l.length
  ·obtain⟨x,ag,dp⟩:=bP bB;have fY:=aw.ids x dp;have bn:=de fY;have bZ:cN (.aq 32) (aD g.ids) (.int .i64 (k:Int))=some (.bK (a1 x) 0) :=by simp[aD,ag]
   have b3:g.ids.l.take (k+1)=g.ids.l.take k++[x] :=by rw[atu,ag]; rfl
   obtain⟨nS,r,G8,tO⟩:=VM fY;have CC:∀ h,(a1 x)[0]'h=bz nS:=fun h=>by subst G8; rfl
   have Kt:nS.toNat<256:=nS.isLt;have re:IntKind.i64.wrap (u nS)=(nS.toNat:Int) :=by unfold u; rw[IntKind.wrap_i64]; omega
   have zW:=y8 nS.toNat (n:Int) (by omega)
   rw[atD] at zW;obtain⟨X,cM⟩:∃ X,X=a1 x:=⟨_,rfl⟩
   rw[<-cM] at bn bZ;simp only[<-cM] at CC;have hp:X.take 32=X:=as1 (by omega);have iE:bg (rep 32 (.int .u8 0)) 0 X=X:=hu (by rw[bn]; rfl);have bj:((nS.toNat:Int) % (n:Int)=(i:Int))<->num x n=i:=by
    rw[tO,<-Int.natCast_emod];exact⟨fun h=>Int.ofNat.inj h,fun h=>by rw[<-h]⟩
   have eW:((g.ids.l.take k).filter fun x=>decide (num x n=i)).length<=1000000:=atR (aul _ _) (by rw[ati]; omega);by_cases xZ:num x n=i
   ·have vJ:(g.ids.l.take (k+1)).filter (fun x=>decide (num x n=i))=(g.ids.l.take k).filter (fun x=>decide (num x n=i))++[x] :=by rw[b3,auv]; simp[xZ]
    obtain⟨w',su,l',a2,bd,b4,e0,gB,ho,E3⟩:=V6 (by_:=32) (n:=3) (c:=rest.length+1+1+1) (aW.more [aY.cells 32 X]) z4 (by simp) (by simp) bn (by omega) (by omega) (by rw[ay]; simp; omega);obtain⟨cX,dC⟩:=aiN (kF.more [aY.cells 32 X]) bV ho E3;have ep:∀ b,b<3->l'[b]? = (aY.cells 2 [aD g.ids,bC g.ops] ::aY.cells 3 [.aH,.aH,.int .i64 0] ::aY.cells 3 [v,aD (dk (hU g)),.int .i64 g.ids.l.length] ::rest)[b]?:=fun b af=>by
     rw[ho b (by simp; omega) (by rcases z4 with e | e; exact .inl e; exact .inr (by omega)),as2 (by simp; omega)]
    obtain⟨cx,rfl⟩:=uz (ep 0 (by omega)) (ep 1 (by omega)) (ep 2 (by omega));simp only[atV] at a2;simp[cT,bB,bZ,bn,CC,re,zW,bj,xZ,hp,iE,a2];refine c8.cb ?_;simp[bx];refine⟨bB,by simp,by simp,by simp,by simp,by simp,by simp,w',su,cx,rfl,cX,by simp,?_,.inr e0,by rw[vJ,b4]; simp,?_⟩
    ·rw[vJ,atn,atr,auq,<-cM]; exact bd
    ·exact .inr dC
   ·have vJ:(g.ids.l.take (k+1)).filter (fun x=>decide (num x n=i))=(g.ids.l.take k).filter (fun x=>decide (num x n=i)) :=by rw[b3,auv]; simp[xZ]
    simp[cT,bB,bZ,bn,CC,re,zW,bj,xZ,bx];exact⟨by simp,by simp,by simp,by simp,by simp,by simp,w,fS,rest,rfl,kF,by simp,by rw[vJ]; exact aW,z4,by rw[vJ]; exact Ab,bV⟩
  ·have e5:k=g.ids.l.length:=by omega
   subst e5;rw[aty] at aW Ab;change bO 32 _ w fS ((mR g n i).map a1) at aW;change cD w=(mR g n i).isEmpty at Ab;have tQ:=ajw g aw (by omega) (dk (mR g n i)) (fun x ag=>by rw[ey] at ag; exact aw.ids x (at6.1 ag).1) (by rw[ey]; have:=aul (fun x=>decide (num x n=i)) g.ids.l; unfold mR; omega) (by omega);rw[ey] at tQ;have ff:=dw (dk (mR g n i));have b3:ld g n (i+1)=ld g n i++[jC g (mR g n i)] :=rfl;have kC:=uh g n i;unfold c4 bX at tQ;obtain⟨Q,kx⟩:∃ Q,Q=bX (jC g (mR g n i)) :=⟨_,rfl⟩
   have Kh:Q.length=2:=by rw[kx]; rfl
   have acS:Q.take 2=Q:=as1 (by omega);have acR:bg [U.aH,.aH] 0 Q=Q:=hu (by rw[Kh]; rfl);change bA _ _ _ _ (.aG (bX (jC g (mR g n i)))) at tQ;rw[<-kx] at tQ;simp[cT];refine aiK (dk (mR g n i)) aW (by rw[sP]; exact Ab) (ey _) (fun bo f1 f2=>?_);have ae2:bO 2 bo v j ((ld g n i).map bX) :=kF.lA (by
    rcases bV with q | q | q
    ·exact .inr (f2 j (.inl q))
    ·exact .inl q
    ·exact .inr (f2 j (.inr fun e=>q e.symm)))
   have ep:∀ b,b<3->bo[b]? = (aY.cells 2 [aD g.ids,bC g.ops] ::aY.cells 3 [.aH,.aH,.int .i64 0] ::aY.cells 3 [v,aD (dk (hU g)),.int .i64 g.ids.l.length] ::rest)[b]?:=fun b af=>f2 b (by rcases z4 with e | e; exact .inl e; exact .inr (by omega))
   obtain⟨dU,rfl⟩:=uz (ep 0 (by omega)) (ep 1 (by omega)) (ep 2 (by omega));refine a4 tQ (by simp[a5,U.closed,fW,eg]; exact ff) ?_;obtain⟨a3,cn,l',a2,bd,b4,e0,gB,ho,E3⟩:=V6 (by_:=48) (n:=3) (c:=dU.length+1+1+1) (ae2.more [aY.cells 2 Q]) ai (by simp) (by simp) Kh (by omega) (by omega) (by rw[ay]; simp; omega);have JX:∀ b,b<3->l'[b]? = (aY.cells 2 [aD g.ids,bC g.ops] ::aY.cells 3 [.aH,.aH,.int .i64 0] ::aY.cells 3 [v,aD (dk (hU g)),.int .i64 g.ids.l.length] ::dU)[b]?:=fun b af=>by
    rw[ho b (by simp; omega) (by rcases ai with e | e; exact .inl e; exact .inr (by omega)),as2 (by simp; omega)]
   obtain⟨qb,rfl⟩:=uz (JX 0 (by omega)) (JX 1 (by omega)) (JX 2 (by omega));simp only[atV] at a2;simp[Kh,acS,acR,a2];refine c8.cb ?_;have rc:=yv bd;simp[rc,bg,aQ];refine⟨cZ,by simp,by simp,by simp,by simp,by simp,a3,cn,qb,rfl,?_,.inr e0,by rw[b4,b3]; simp⟩;rw[b3,atn,atr,auq,<-kx];refine bd.lA (.inr ?_);obtain⟨jS,rfl⟩:∃ jS,cn=jS+3:=⟨cn - 3,by omega⟩
   rfl
 ·have ad8:i=n:=by omega
  subst ad8;simp;have mM:jo (aY.cells 2 [aD g.ids,bC g.ops] ::aY.cells 3 [v,aD (dk (hU g)),.int .i64 g.ids.l.length] ::aY.cells 3 [v,aD (dk (hU g)),.int .i64 g.ids.l.length] ::rest) v (j6 (some (ld g i i))) :=by
   refine (kF.lA (l':=aY.cells 2 [aD g.ids,bC g.ops] ::aY.cells 3 [v,aD (dk (hU g)),.int .i64 g.ids.l.length] ::aY.cells 3 [v,aD (dk (hU g)),.int .i64 g.ids.l.length] ::rest) ?_).q.AZ zj (some (ld g i i)) ?_ rfl
   ·rcases ai with h | h
    ·exact .inl h
    ·right;obtain⟨jS,rfl⟩:∃ jS,j=jS+3:=⟨j - 3,by omega⟩
     rfl
   ·rw[ip];have:=uh g i i;cases hm:ld g i i with
    | nil=>rw[hm] at this; simp at this; omega
    | cons=>rfl
  have pL:=dw (dk (hU g));refine .aG _ _ rfl fun j c c' ah ef=>?_
  rcases j with _ | _ | _ | j
  ·simp[dD,ot] at ah ef; subst ah ef; exact mM
  ·simp[dD,ot] at ah ef; subst ah ef; exact .same _ pL
  ·simp[dD,ot] at ah ef; subst ah ef; exact .same _ rfl
  ·simp at ah
structure EZ (s:en) :Prop where
 parts:∀ g∈s.parts.l,g8 g
 wb:s.parts.l.length<=1000000
 dq:eu s.dq
 MF:s.dq.l.length<=1000000
theorem mY.w {s:en} (h:mY s) :EZ s:=⟨fun g aw=>(h.parts g aw).1,by have:=h.wb; omega,h.dq,h.MF⟩
def pa (a b:en) :Bool:=decide (a.parts.l.length=b.parts.l.length)&&(decide (a.dW=b.dW)&&(decide (a.dq.l=b.dq.l)&&decide (∀ k,k<a.parts.l.length->rB (gW a.parts.l k) (gW b.parts.l k)=true)))
theorem yF (a b:en) :pa a b=true<->a.parts.l.length=b.parts.l.length/\a.dW=b.dW/\a.dq.l=b.dq.l/\∀ k,k<a.parts.l.length->rB (gW a.parts.l k) (gW b.parts.l k)=true:=by
 unfold pa;simp only[as7,decide_eq_true_eq]
set_option maxHeartbeats 8000000 in
theorem ajB (a b:en) (aB:EZ a) (af:EZ b) :bA Tryz.prog GS 52 [.aG (dD a),.aG (dD b)] (.bool (pa a b)) :=by
 refine bW Tryz.checked.mixed bl ?_;apply bq Tryz.func52 [];have np:=yj a.parts;have jN:=yj b.parts;have mG:=zk a.parts;have ao1:=zk b.parts;have pL:=dw a.dq;have k3:=dw b.dq;have hV:=Ia a.dq b.dq aB.dq af.dq aB.MF;by_cases ad:a.parts.l.length=b.parts.l.length
 ·by_cases ae:a.dW=b.dW
  ·by_cases aj:a.dq.l=b.dq.l
   ·simp[dD,np,jN,ad,ae];refine a4 hV (by simp[a5,U.closed,pL,k3]) ?_;simp[aj];refine cB a.parts.l.length (fun k σ l=>l=[.cells 3 [j6 a.parts,aD a.dq,.int .i64 a.dW],.cells 3 [j6 b.parts,aD b.dq,.int .i64 b.dW]]/\σ 2=.ptr 0 0 3/\σ 3=.ptr 1 0 3/\σ 5=.int .i64 k/\∀ j,j<k->rB (gW a.parts.l j) (gW b.parts.l j)=true) ?_ ⟨by simp[ae],by simp,by simp,by simp,fun j ai=>by omega⟩;rintro k σ l ar ⟨rfl,aT,aZ,bm,ak⟩;obtain⟨σ,rfl⟩:=ln aT aZ bm;clear aT aZ bm;have aQ:IntKind.i64.wrap ((k:Int)+1)=((k+1:Nat) :Int) :=by rw[IntKind.wrap_i64]; have:=aB.wb; omega
    by_cases bB:k<a.parts.l.length
    ·obtain⟨p,av,g0⟩:=bP bB;obtain⟨q,bj,afg⟩:=bP (l:=b.parts.l) (k:=k) (by omega);have bZ:=so av;have hc:=so bj;have G1:=ajz p q (aB.parts p g0) (af.parts q afg);have aeo:k<b.parts.l.length:=by omega
     have jv:(bX p).length=2:=rfl;have Sw:(bX q).length=2:=rfl;have Ct:=zj p;have Sv:=zj q;have k4:=hR av;have Th:=hR bj;change bA _ _ _ [.aG (bX p),.aG (bX q)] _ at G1;obtain⟨sY,l6⟩:∃ sY,sY=bX p:=⟨_,rfl⟩
     obtain⟨EV,acF⟩:∃ EV,EV=bX q:=⟨_,rfl⟩
     rw[<-l6] at bZ G1 jv Ct;rw[<-acF] at hc G1 Sw Sv;have t1:sY.take 2=sY:=as1 (by omega);have t2:EV.take 2=EV:=as1 (by omega);simp[np,jN,bB,aeo,bZ,hc,jv,Sw,t1,t2];refine a4 G1 (by simp[a5,U.closed,Ct,Sv]) ?_;cases kf:rB p q with
     | true=>
      simp[aQ];refine⟨bB,fun j ai=>?_⟩;by_cases gG:j=k
      ·subst gG; rw[k4,Th]; exact kf
      ·exact ak j (by omega)
     | false=>
      have aE:pa a b=false:=auF.2 fun h=>by
       have:=((yF a b).1 h).2.2.2 k bB;rw[k4,Th,kf] at this; cases this
      simp;exact aP (congrArg U.bool aE.symm) rfl
    ·have e5:k=a.parts.l.length:=by omega
     subst e5;have aV:pa a b=true:=(yF a b).2 ⟨ad,ae,aj,ak⟩;simp[np];exact aP (congrArg U.bool aV.symm) rfl
   ·have aE:pa a b=false:=auF.2 fun h=>aj ((yF a b).1 h).2.2.1
    simp[dD,np,jN,ad,ae];refine a4 hV (by simp[a5,U.closed,pL,k3]) ?_;simp[aj];exact aP (congrArg U.bool aE.symm) rfl
  ·have aE:pa a b=false:=auF.2 fun h=>ae ((yF a b).1 h).2.1
   simp[dD,np,jN,ad,ae];exact aP (congrArg U.bool aE.symm) rfl
 ·have aE:pa a b=false:=auF.2 fun h=>ad ((yF a b).1 h).1
  have dH:¬ (a.parts.l.length:Int)=b.parts.l.length:=by omega
  simp[dD,np,jN,ad,dH];exact aP (congrArg U.bool aE.symm) rfl
theorem aiT {g:bt} (aw:g8 g) (L:List (List B)) :g8 (jC g L) :=by
 unfold jC;refine X8 (J1 (fun p av=>aw.ids _ (HS (atw (at6.1 av).1)).1) (fun p av=>aw.ops _ (HS (atw (at6.1 av).1)).2) ?_);have ad:=Ws (g:=g) (L:=L) (k:=(jj g).length);have ae:(jj g).length<=g.ids.l.length:=by unfold jj; rw[List.length_zip]; omega
 have:=aw.li;omega
theorem ahC {g:bt} (aw:g8 g) {n:Nat} (aC:n<=1000) :EZ (ot g n) :=by
 refine⟨fun p av=>?_,?_,fun x ag=>?_,?_⟩
 ·have ir:p∈ld g n n:=av;obtain⟨k,ar⟩:=atc.1 ir;have bB:=(as0.1 ar).1;rw[uh] at bB;rw[Hz g n bB] at ar;obtain rfl:=Option.some.inj ar;exact aiT aw _
 ·show (ld g n n).length<=_;rw[uh]; omega
 ·have sk:x∈(dk (hU g)).l:=ag;rw[ey] at sk;exact aw.ids x (at6.1 sk).1
 ·show (dk (hU g)).l.length<=_;rw[ey];have:=aul (lH g) g.ids.l;have:=aw.li;unfold hU; omega
theorem Yz {s:en} (h:mY s) :g8 (e7 s) :=X8 (EN h)
noncomputable def nH (s:en) :Int:=if 1<=s.parts.l.length/\s.parts.l.length<=4 then (if hz (e7 s)=0/\pa s (ot (e7 s) s.parts.l.length)=true then 0 else 8) else 8
set_option maxHeartbeats 8000000 in
theorem ajD (s:en) (ak:mY s) :bA Tryz.prog GS 58 [.aG (dD s)] (.int .i64 (nH s)) :=by
 refine bW Tryz.checked.mixed bl ?_;apply bq Tryz.func58 [[[0],[1],[2],[3],[4],[5],[6],[7],[8],[9,4]]];have gO:=yj s.parts;have bS:(dD s).length=3:=rfl;have fH:∀ h,(dD s)[0]'h=j6 s.parts:=fun _=>rfl
 have ha:=BQ s;have hb:(dD s).take 3=dD s:=rfl;by_cases ad:1<=s.parts.l.length
 ·by_cases aF:s.parts.l.length<=4
  ·have cP:¬ (s.parts.l.length:Int)<1:=by omega
   have fR:¬ (4:Int)<(s.parts.l.length:Int) :=by omega
   have LP:¬ 4<s.parts.l.length:=by omega
   have aW:=WP s ak;have wh:=Yz ak;have e2:=ajk (e7 s) wh;have eQ:=nU (e7 s).ids;have eG:=u6 (e7 s).ops;have b0:=dw (e7 s).ids;have b5:=lz (e7 s).ops;unfold c4 bX at aW e2;have c6:nH s=if hz (e7 s)=0/\pa s (ot (e7 s) s.parts.l.length)=true then 0 else 8:=by unfold nH; rw[if_pos ⟨ad,aF⟩]
   simp[bS,fH,hb,gO,cP,fR,LP];refine a4 aW (by simp[a5,U.closed,ha]) ?_;simp[bg];refine a4 e2 (by simp[a5,U.closed,b0,b5]) ?_;by_cases aI:hz (e7 s)=0
   ·have hm:=ajs (e7 s) wh aI s.parts.l.length ad (by omega);have kf:=ajB s (ot (e7 s) s.parts.l.length) ak.w (ahC wh (by omega));have acN:=BQ (ot (e7 s) s.parts.l.length);unfold c4 bX at hm;simp[aI,bS,fH,hb,gO];refine a4 hm (by simp[a5,U.closed,b0,b5]) ?_;simp[bS,hb];refine a4 kf (by simp[a5,U.closed,ha,acN]) ?_;cases af:pa s (ot (e7 s) s.parts.l.length) with
    | true=>
     rw[af,if_pos ⟨aI,rfl⟩] at c6;rw[c6];simp;exact aP rfl rfl
    | false=>
     rw[af,if_neg (by simp)] at c6;rw[c6];simp;exact aP rfl rfl
   ·rw[if_neg (fun h=>aI h.1)] at c6;rw[c6];simp[aI];exact aP rfl rfl
  ·have c6:nH s=8:=by unfold nH; rw[if_neg (fun h=>aF h.2)]
   have cP:¬ (s.parts.l.length:Int)<1:=by omega
   have fR:(4:Int)<(s.parts.l.length:Int) :=by omega
   have LP:4<s.parts.l.length:=by omega
   rw[c6];simp[bS,fH,gO,cP,fR,LP];exact aP rfl rfl
 ·have c6:nH s=8:=by unfold nH; rw[if_neg (fun h=>ad h.1)]
  have cP:(s.parts.l.length:Int)<1:=by omega
  rw[c6];simp[bS,fH,gO,cP];exact aP rfl rfl
structure fk where
 cap:Int
 dR:en
 order:dr
def dJ (s:fk) :List U:=[.int .i64 s.cap,j6 s.dR.parts,aD s.dR.dq,.int .i64 s.dR.dW,aD s.order]
structure uJ (s:fk) :Prop where
 dR:mY s.dR
 order:eu s.order
 no:s.order.l.length<=1000
theorem xh (s:fk) :a5 (dJ s)=true:=by simp[dJ,a5,U.closed,zk,dw]
def o3 (g:bt) (l:List (List B)) (i:Nat) :Bool:=decide (bT l i∈g.ids.l)&&(!decide (bT l i∈l.take i)&&mr (l.take i) (eR g.ops.l (he (bT l i) g.ids.l 0).toNat))
def ru (g:bt) (l:List (List B)) :Bool:=decide (∀ i,i<l.length->o3 g l i=true)
noncomputable def hI (s:fk) :Int:=if 1<=s.cap/\s.cap<=40/\nH s.dR=0/\s.dR.dW<=s.cap/\(s.order.l.length:Int)=s.dR.dW then (if ru (e7 s.dR) s.order.l=true then 0 else 8) else 8
theorem Xs {s:en} (h:nH s=0) :1<=s.parts.l.length/\s.parts.l.length<=4/\hz (e7 s)=0/\pa s (ot (e7 s) s.parts.l.length)=true:=by
 unfold nH at h;split at h
 ·rename_i ad;split at h
  ·rename_i ae; exact⟨ad.1,ad.2,ae⟩
  ·cases h
 ·cases h
theorem agz {x:List B} {l:List (List B)} {i:Nat} (az:l[i]? = some x) :he x l 0<(i:Int)<->x∈l.take i:=by
 obtain⟨n,aC,ag,xW⟩:∃ n:Nat,he x l 0=(n:Int)/\l[n]? = some x/\∀ (j:Nat) (y:List B),j<n->l[j]? = some y->y≠x:=by
  have key:∀ (m:Nat),l[m]? = some x->∃ n:Nat,l[n]? = some x/\∀ (j:Nat) (y:List B),j<n->l[j]? = some y->y≠x:=by
   intro m
   induction m using Nat.strongRecOn with
   | _ m aS=>
    intro hm;by_cases h:∃ j,j<m/\l[j]? = some x
    ·obtain⟨j,ai,Gx⟩:=h;exact aS j ai Gx
    ·exact⟨m,hm,fun j y ai aJ e=>h ⟨j,ai,by rw[aJ,e]⟩⟩
  obtain⟨n,ad,ae⟩:=key i az;exact⟨n,by have:=DG (n:=0) ad ae; simpa using this,ad,ae⟩
 rw[aC];constructor
 ·intro h;have h' : n<i:=by omega
  exact atc.2 ⟨n,by rw[atp h']; exact ag⟩
 ·intro h;obtain⟨k,ar⟩:=atc.1 h;have bB:=(as0.1 ar).1;rw[ati] at bB;rw[atp (by omega)] at ar;by_cases e:n<=k
  ·omega
  ·exact absurd rfl (xW k x (by omega) ar)
theorem Hh {l:List (List B)} (ai:nO l) {i:Nat} {x:List B} (az:l[i]? = some x) :he x l 0=(i:Int) :=by
 have:=DG (n:=0) az (fun j y jw aJ e=>by rw[e] at aJ; have:=ai j i x aJ az; omega);simpa using this
theorem Hf (a:dr) {k:Nat} (h:k<=a.l.length) :fF (.aq 32) (aD a) none (some (.int .i64 (k:Int))) none=some (aD (gw a k)) :=XW h
set_option maxHeartbeats 16000000 in
theorem ajH (s:fk) (ak:uJ s) :bA Tryz.prog GS 31 [.aG (dJ s)] (.int .i64 (hI s)) :=by
 refine bW Tryz.checked.mixed bl ?_;apply bq Tryz.func31 [[],[[0],[1],[2],[3],[4],[5],[6],[7],[8],[9],[11],[10]]];have cV:cv (.aq 32) (aD s.order)=some (.int .i64 s.order.l.length) :=by simp[aD]
 have tA:=ajD s.dR ak.dR;have xF:=zk s.dR.parts;have xE:=dw s.dR.dq;have eg:=dw s.order;have cU:=ak.no;unfold dD at tA;by_cases ad:1<=s.cap
 ·by_cases ae:s.cap<=40
  ·have cP:¬ s.cap<1:=by omega
   have dT:¬ (40:Int)<s.cap:=by omega
   by_cases aj:nH s.dR=0
   ·by_cases aF:s.dR.dW<=s.cap
    ·have fR:¬ s.cap<s.dR.dW:=by omega
     by_cases a6:(s.order.l.length:Int)=s.dR.dW
     ·obtain⟨_,_,aI,_⟩:=Xs aj;have V:=AL aI;have wh:=Yz ak.dR;have jQ:=V.len;have K4:=V.n60;have aW:=WP s.dR ak.dR;have c6:hI s=if ru (e7 s.dR) s.order.l=true then 0 else 8:=by unfold hI; rw[if_pos ⟨ad,ae,aj,aF,a6⟩]
      have h5:∀ i,i<s.order.l.length->o3 (e7 s.dR) s.order.l i=false->hI s=8:=fun i az aE=>by
       rw[c6,if_neg];unfold ru;rw[decide_eq_true_eq];intro h;have:=h i az;rw[aE] at this; cases this
      have eQ:=nU (e7 s.dR).ids;have eG:=u6 (e7 s.dR).ops;have b0:=dw (e7 s.dR).ids;unfold c4 bX dD at aW;obtain⟨g,aw⟩:∃ g,g=e7 s.dR:=⟨_,rfl⟩
      rw[<-aw] at aW wh jQ K4 eQ eG b0 h5 V c6 aI;simp[dJ,cP,dT];refine a4 tA (by simp[a5,U.closed,xF,xE]) ?_;simp[aj,fR,cV,a6];refine a4 aW (by simp[a5,U.closed,xF,xE]) ?_;simp[bg];refine cB s.order.l.length (fun k σ l=>l=[.cells 5 [.int .i64 s.cap,j6 s.dR.parts,aD s.dR.dq,.int .i64 s.dR.dW,aD s.order],.cells 2 [aD g.ids,bC g.ops]]/\σ 1=.ptr 0 0 5/\σ 3=.ptr 1 0 2/\σ 4=.int .i64 k/\∀ j,j<k->o3 g s.order.l j=true) ?_ ⟨rfl,by simp,by simp,by simp,fun j ai=>by omega⟩;rintro k σ l ar ⟨rfl,aO,aZ,bi,jL⟩;obtain⟨σ,rfl⟩:=ln aO aZ bi;clear aO aZ bi;have aQ:IntKind.i64.wrap ((k:Int)+1)=((k+1:Nat) :Int) :=by rw[IntKind.wrap_i64]; omega
      by_cases bB:k<s.order.l.length
      ·obtain⟨x,ag,dp⟩:=bP bB;have fY:=ak.order x dp;have bn:=de fY;have fK:=gK x;have bZ:cN (.aq 32) (aD s.order) (.int .i64 (k:Int))=some (.bK (a1 x) 0) :=by simp[aD,ag]
       have eE:=AV g.ids wh.ids wh.li x fY;have Kq:=AV s.order ak.order (by omega) x fY;have hit:=agz ag;have c0:o3 g s.order.l k=(decide (x∈g.ids.l)&&(!decide (x∈s.order.l.take k)&&mr (s.order.l.take k) (eR g.ops.l (he x g.ids.l 0).toNat))) :=by unfold o3; rw[fB ag]
       have jO:=vU x g.ids.l 0;obtain⟨L5,aee⟩:∃ L5,L5=he x s.order.l 0:=⟨_,rfl⟩
       rw[<-aee] at Kq hit;by_cases hm:x∈g.ids.l
       ·obtain⟨a,aB⟩:=atc.1 hm;have Kp:=Hh (vS V.dA) aB;obtain⟨o,au,eF⟩:=bP (l:=g.ops.l) (k:=a) (by rw[<-jQ]; exact (as0.1 aB).1);have mL:=wh.ops o eF;rw[Kp] at eE c0;rw[decide_eq_true hm,atD,AQ au,aus] at c0;have hT:=(as0.1 aB).1;have ob:cN (.aq 11) (bC g.ops) (.int .i64 (a:Int))=some (.bK (a9 o) 0) :=by simp[bC,au]
        have dF:(a9 o).length=11:=rfl;have n1:∀ h,(a9 o)[1]'h=aD o.bh:=fun _=>rfl
        have mG:=dw o.bh;have bS:=Hf s.order (k:=k) (by omega);have GM:eu (gw s.order k) :=fun z ax=>ak.order z (by rw[ll] at ax; exact atw ax)
        have dL:=M4 (gw s.order k) GM (by rw[ll,ati]; omega) o.bh mL.ids mL.len;rw[ll] at dL;have CN:=dw (gw s.order k);have sd:¬ (a:Int)<0:=by omega
        obtain⟨X,cM⟩:∃ X,X=a1 x:=⟨_,rfl⟩
        obtain⟨O,eD⟩:∃ O,O=a9 o:=⟨_,rfl⟩
        rw[<-cM] at bZ bn fK eE Kq;rw[<-eD] at ob dF;simp only[<-eD] at n1;have hp:X.take 32=X:=as1 (by omega);simp[cV,bB,bZ,bn,hp];refine a4 eE (by simp[a5,U.closed,b0,fK]) ?_;simp[sd,bZ,bn,hp];refine a4 Kq (by simp[a5,U.closed,eg,fK]) ?_;by_cases bu:x∈s.order.l.take k
        ·have oL:=hit.2 bu;rw[decide_eq_true bu] at c0;have:=h5 k bB (by rw[c0]; simp);simp[oL];exact aP (by rw[this]) rfl
        ·have oL:¬ L5<(k:Int) :=fun h=>bu (hit.1 h)
         rw[decide_eq_false bu] at c0;simp[oL,bS,ob,dF,n1];refine a4 dL (by simp[a5,U.closed,CN,mG]) ?_;cases cL:mr (s.order.l.take k) o.bh.l with
         | true=>
          rw[cL] at c0;simp[aQ];refine⟨bB,fun j ai=>?_⟩;by_cases gG:j=k
          ·rw[gG,c0]; rfl
          ·exact jL j (by omega)
         | false=>
          rw[cL] at c0;have:=h5 k bB (by rw[c0]; rfl);simp;exact aP (by rw[this]) rfl
       ·have aC:he x g.ids.l 0<0:=by
         have:¬ 0<=he x g.ids.l 0:=fun h=>hm (jO.1 h)
         omega
        rw[decide_eq_false hm,avl] at c0;have:=h5 k bB c0;obtain⟨X,cM⟩:∃ X,X=a1 x:=⟨_,rfl⟩
        rw[<-cM] at bZ bn fK eE;have hp:X.take 32=X:=as1 (by omega);simp[cV,bB,bZ,bn,hp];refine a4 eE (by simp[a5,U.closed,b0,fK]) ?_;simp[aC];exact aP (by rw[this]) rfl
      ·have e5:k=s.order.l.length:=by omega
       subst e5;have:ru g s.order.l=true:=by unfold ru; exact decide_eq_true jL
       rw[this,if_pos rfl] at c6;rw[c6];simp[cV];exact aP rfl rfl
     ·have c6:hI s=8:=by unfold hI; rw[if_neg (fun h=>a6 h.2.2.2.2)]
      rw[c6];simp[dJ,cP,dT];refine a4 tA (by simp[a5,U.closed,xF,xE]) ?_;simp[aj,fR,cV,a6];exact aP rfl rfl
    ·have c6:hI s=8:=by unfold hI; rw[if_neg (fun h=>aF h.2.2.2.1)]
     have fR:s.cap<s.dR.dW:=by omega
     rw[c6];simp[dJ,cP,dT];refine a4 tA (by simp[a5,U.closed,xF,xE]) ?_;simp[aj,fR];exact aP rfl rfl
   ·have c6:hI s=8:=by unfold hI; rw[if_neg (fun h=>aj h.2.2.1)]
    rw[c6];simp[dJ,cP,dT];refine a4 tA (by simp[a5,U.closed,xF,xE]) ?_;simp[aj];exact aP rfl rfl
  ·have c6:hI s=8:=by unfold hI; rw[if_neg (fun h=>ae h.2.1)]
   have cP:¬ s.cap<1:=by omega
   have dT:(40:Int)<s.cap:=by omega
   rw[c6];simp[dJ,cP,dT];exact aP rfl rfl
 ·have c6:hI s=8:=by unfold hI; rw[if_neg (fun h=>ad h.1)]
  have cP:s.cap<1:=by omega
  rw[c6];simp[dJ,cP];exact aP rfl rfl
def s9 (p:bt) :Bool:=decide (16<p.ops.l.length)||(decide (16<p.ids.l.length)||tm p)
def pJ (s:en) :Bool:=(s.parts.l.take 7).any s9||(decide (6<s.parts.l.length)||decide (60<s.dq.l.length))
def zL (s:fk) :Bool:=pJ s.dR||decide (70<s.order.l.length)
set_option maxHeartbeats 8000000 in
theorem ajn (s:en) :bA Tryz.prog GS 57 [.aG (dD s)] (.bool (pJ s)) :=by
 refine bW Tryz.checked.mixed bl ?_;apply bq Tryz.func57 [];have gO:=yj s.parts;have bS:(dD s).length=3:=rfl;have fH:∀ h,(dD s)[0]'h=j6 s.parts:=fun _=>rfl
 have Ki:∀ h,(dD s)[1]'h=aD s.dq:=fun _=>rfl
 have aet:cv (.aq 32) (aD s.dq)=some (.int .i64 s.dq.l.length) :=by simp[aD]
 simp[bS];obtain⟨n,aC⟩:∃ n,n=min s.parts.l.length 7:=⟨_,rfl⟩
 refine cB n (fun k σ l=>l=[.cells 3 (dD s)]/\σ 1=.ptr 0 0 3/\σ 3=.int .i64 k/\∀ j,j<k->s9 (gW s.parts.l j)=false) ?_ ⟨rfl,by simp,by simp,fun j ai=>by omega⟩;rintro k σ l ar ⟨rfl,aO,aZ,jL⟩;obtain⟨σ,rfl⟩:=qm aO aZ;clear aO aZ;have aQ:IntKind.i64.wrap ((k:Int)+1)=((k+1:Nat) :Int) :=by rw[IntKind.wrap_i64]; omega
 by_cases bB:k<s.parts.l.length
 ·by_cases Gz:k<=6
  ·have CZ:(k:Int)<=6:=by omega
   obtain⟨p,av,g0⟩:=bP bB;have bZ:=so av;have k5:=ajl p;have k4:=hR av;have jv:(bX p).length=2:=rfl;have iz:∀ h,(bX p)[0]'h=aD p.ids:=fun _=>rfl
   have l6:∀ h,(bX p)[1]'h=bC p.ops:=fun _=>rfl
   have Ct:=zj p;have cV:cv (.aq 11) (bC p.ops)=some (.int .i64 p.ops.l.length) :=by simp[bC]
   have cT:cv (.aq 32) (aD p.ids)=some (.int .i64 p.ids.l.length) :=by simp[aD]
   change bA _ _ _ [.aG (bX p)] _ at k5;have h5:s9 p=true->pJ s=true:=fun h=>by
    unfold pJ;rw[auM.2 ⟨p,atc.2 ⟨k,by rw[atp (by omega)]; exact av⟩,h⟩]; rfl
   obtain⟨sY,St⟩:∃ sY,sY=bX p:=⟨_,rfl⟩
   rw[<-St] at bZ k5 jv Ct;simp only[<-St] at iz l6;have tt:sY.take 2=sY:=as1 (by omega);by_cases ad:16<p.ops.l.length
   ·have dH:(16:Int)<(p.ops.l.length:Int) :=by omega
    have:=h5 (by unfold s9; rw[decide_eq_true ad]; rfl);simp[bS,fH,gO,bB,Gz,CZ,bZ,jv,l6,cV,ad,dH];exact aP (by rw[this]) rfl
   ·have dH:¬ (16:Int)<(p.ops.l.length:Int) :=by omega
    by_cases ae:16<p.ids.l.length
    ·have go:(16:Int)<(p.ids.l.length:Int) :=by omega
     have:=h5 (by unfold s9; rw[decide_eq_true ae]; simp);simp[bS,fH,gO,bB,Gz,CZ,bZ,jv,iz,l6,cV,cT,ad,dH,ae,go];exact aP (by rw[this]) rfl
    ·have go:¬ (16:Int)<(p.ids.l.length:Int) :=by omega
     simp[bS,fH,gO,bB,Gz,CZ,bZ,jv,iz,l6,cV,cT,ad,dH,ae,go,tt];refine a4 k5 (by simp[a5,U.closed,Ct]) ?_;cases aj:tm p with
     | true=>
      have:=h5 (by unfold s9; rw[aj]; simp);simp;exact aP (by rw[this]) rfl
     | false=>
      simp[aQ];refine⟨by omega,fun j ai=>?_⟩;by_cases gG:j=k
      ·rw[gG,k4]; unfold s9; rw[decide_eq_false ad,decide_eq_false ae,aj]; rfl
      ·exact jL j (by omega)
  ·have CZ:¬ (k:Int)<=6:=by omega
   have cL:6<s.parts.l.length:=by omega
   have qO:(6:Int)<(s.parts.l.length:Int) :=by omega
   have:pJ s=true:=by unfold pJ; rw[decide_eq_true cL]; simp
   simp[bS,fH,gO,bB,Gz,CZ,cL,qO];exact aP (by rw[this]) rfl
 ·have cU:(s.parts.l.take 7).any s9=false:=auF.2 fun h=>by
   obtain⟨q,bj,af⟩:=auM.1 h;obtain⟨j,ai⟩:=atc.1 (atw bj);have:=jL j (by have:=(as0.1 ai).1; omega);rw[hR ai,af] at this; cases this
  by_cases cL:6<s.parts.l.length
  ·have qO:(6:Int)<(s.parts.l.length:Int) :=by omega
   have:pJ s=true:=by unfold pJ; rw[decide_eq_true cL]; simp
   simp[bS,fH,gO,bB,cL,qO];exact aP (by rw[this]) rfl
  ·have qO:¬ (6:Int)<(s.parts.l.length:Int) :=by omega
   have:pJ s=decide (60<s.dq.l.length) :=by unfold pJ; rw[cU,decide_eq_false cL]; rfl
   have bj:decide ((60:Int)<(s.dq.l.length:Int))=decide (60<s.dq.l.length) :=decide_eq_decide.2 (by omega);simp[bS,fH,Ki,gO,aet,bB,cL,qO,bj];exact aP (by rw[this]) rfl
theorem ajo (s:fk) :bA Tryz.prog GS 30 [.aG (dJ s)] (.bool (zL s)) :=by
 refine bW Tryz.checked.mixed bl ?_;apply bq Tryz.func30 [];have k5:=ajn s.dR;have cV:cv (.aq 32) (aD s.order)=some (.int .i64 s.order.l.length) :=by simp[aD]
 have xF:=zk s.dR.parts;have xE:=dw s.dR.dq;have bj:decide ((70:Int)<(s.order.l.length:Int))=decide (70<s.order.l.length) :=decide_eq_decide.2 (by omega);unfold dD at k5;simp[dJ];refine a4 k5 (by simp[a5,U.closed,xF,xE]) ?_;unfold zL;cases h:pJ s.dR with
 | true=>
  simp;exact aP rfl rfl
 | false=>
  simp[cV,bj];exact aP (by simp) rfl
structure amT (s:en) (k:Nat) (σ:a8) (l:ao) :Prop where
 aO:σ 1=.ptr 0 0 3
 aT:σ 2=.ptr 1 0 3
 aZ:σ 3=.ptr 3 0 3
 bi:σ 4=.int .i64 k
 ex:∃ v j rest,l=.cells 3 [j6 s.parts,aD s.dq,.int .i64 s.dW] ::.cells 3 [.aH,.aH,.int .i64 0] ::.dead::.cells 3 [v,aD (some s.dq.l),.int .i64 s.dW] ::rest/\bO 2 l v j (((s.parts.l.take k).map gi).map bX)/\(v=.aH\/4<=j)/\cD v=(s.parts.l.take k).isEmpty
theorem aic (x:List B) (ag:x.length=32) (n:Nat) (ad:1<=n) (ae:n<=100) :bA Tryz.prog GS 164 [.aG (a1 x),.int .i64 n] (.int .i64 (num x n)) :=by
 refine bW Tryz.checked.mixed bl ?_;apply bq Tryz.func164 [];have bn:=de ag;obtain⟨nS,r,G8,tO⟩:=VM ag;have CC:∀ h,(a1 x)[0]'h=bz nS:=fun h=>by subst G8; rfl
 have Kt:nS.toNat<256:=nS.isLt;have re:IntKind.i64.wrap (u nS)=(nS.toNat:Int) :=by unfold u; rw[IntKind.wrap_i64]; omega
 have zW:=y8 nS.toNat (n:Int) (by omega)
 rw[atD] at zW;have vC:¬ n=0:=by omega
 simp[bn,CC,bz,zf,re,zW];refine aP ?_ rfl;rw[tO];simp
theorem aiD (n i:Nat) (ad:1<=n) (ae:n<=100) {l:ao} {m4 Fe:Nat} (aC:l[m4]? = some (.cells 1 [.int .i64 (n:Int)])) (az:l[Fe]? = some (.cells 1 [.int .i64 (i:Int)])) (xs:List (List B)) (ag:∀ p∈xs,p.length=32) :
  EU 175 [.ptr m4 0 1,.ptr Fe 0 1] l xs (fun p=>!decide (num p n=i)) :=by
 intro p av l1 am K aU;apply bq Tryz.func175 [[[0],[1],[3],[2,3]]];have h8:=ag p av;have gZ:=de h8;have Le:=gK p;have q1:l1[m4]? = some (.cells 1 [.int .i64 (n:Int)]) :=by rw[am.2 _ (cp aC)]; exact aC
 have db:l1[Fe]? = some (.cells 1 [.int .i64 (i:Int)]) :=by rw[am.2 _ (cp az)]; exact az
 have aO:∀ c:aY,(l1++[c])[m4]? = some (.cells 1 [.int .i64 (n:Int)]) :=fun c=>by rw[as2 (cp q1)]; exact q1
 have aT:∀ c:aY,(l1++[c])[Fe]? = some (.cells 1 [.int .i64 (i:Int)]) :=fun c=>by rw[as2 (cp db)]; exact db
 have aeO:=aic p h8 n ad ae;simp[aO,aT,gZ,as1];refine a4 aeO (by simp[a5,U.closed,Le]) ?_;have c6:decide (((num p n:Nat) :Int)=(i:Int))=decide (num p n=i) :=by
  by_cases h:num p n=i
  ·simp[h]
  ·have:¬ ((num p n:Nat) :Int)=(i:Int) :=by omega
   simp[h]; exact this
 simp[q1,db,aO,aT,c6];have:=aU (l1++[aY.cells 32 (a1 p)]) ⟨by simp,fun b af=>as2 af⟩;exact this
theorem Uy (s:dr) (au:eu s) (ak:s.l.length<=1000000) :bA Tryz.prog GS 61 [aD s] (aD s) :=by
 refine bW Tryz.checked.mixed bl ?_;refine Ux s au ak fun v l' h=>?_
 exact h.rd gK s rfl rfl
theorem VI (s:c3 bp) :gD Tryz.prog .eql 45 (bC s) .aH=some (.bool s.isNone) :=Jh (e:=94) (by kernel_rfl) 11 a9 s
theorem RS (l:List bp) :(l.map a9).flatten.length=l.length*11:=xt (z:=11) (enc:=a9) (fun _ _=>rfl)
theorem aaC (s:c3 bp) (ak:s.l.length<=1000000) {l:ao} {K:U->ao->Prop} (aI:s=none->K .aH l)
  (ad:∀ a,s=some a->K (.aq 11 l.length 0 a.length a.length (a.length*11)) (l++[.cells (a.length*11) (a.map a9).flatten])) :
  dh Tryz.prog GS 121 [bC s] l (c:=⟨K⟩) :=by
 apply bq Tryz.func121 [];have ay:ct=140737488355328:=rfl;cases s with
 | none=>
  simp[VI];exact aI rfl
 | some a=>
  simp at ak;have eW:=RS a;have lE:gT (l++[aY.cells 0 []]) 11 112 (.aq 11 l.length 0 0 0 0) (bC (some a))=some (.aq 11 l.length 0 a.length a.length (a.length*11),l++[.cells (a.length*11) (a.map a9).flatten]) :=by
   unfold gT bC;rw[vh];simp only[c3.AA];unfold jq;by_cases ax:a.length=0
   ·have:a=[] :=atI.1 ax;subst this;simp
   ·rw[if_neg ax,if_neg (by omega)];simp[ay];exact⟨by omega,fun h=>by simp[h]⟩
  simp[VI,lE];refine c8.cb ?_;simp;exact ad a rfl
theorem ajP {l:ao} {a b c9 bc:U} (ad:jo l a c9) (ae:jo l b bc) :jo l (.aG [a,b]) (.aG [c9,bc]) :=by
 refine .aG _ _ rfl fun j x Oc ag sk=>?_
 rcases pI ag with ⟨rfl,rfl⟩ | ⟨rfl,rfl⟩
 ·rcases pI sk with ⟨_,rfl⟩ | ⟨h,_⟩
  ·exact ad
  ·omega
 ·rcases pI sk with ⟨h,_⟩ | ⟨_,rfl⟩
  ·omega
  ·exact ae
theorem aiA (o:bp) :bg (a9 o) 1 [aD o.bh]=a9 o:=by
 unfold bg a9; simp
set_option maxHeartbeats 4000000 in
theorem ak8 (g:bt) (aw:g8 g) :bA Tryz.prog GS 125 [c4 g] (c4 g) :=by
 refine bW Tryz.checked.mixed bl ?_;apply bq Tryz.func125 [[[0],[1],[3],[4],[7],[2,7,4],[5,7],[6]],[[0],[1],[2],[3],[4],[5],[6],[7],[8],[9,1]]];have fW:=dw g.ids;have eg:=lz g.ops;have ew:=Uy g.ids aw.ids aw.li;have Mx:=nU g.ids;simp[c4,bX];refine a4 ew (by simp[a5,U.closed,fW]) ?_;simp;refine aaC g.ops aw.cG (fun aC=>?_) (fun a aB=>?_)
 ·simp[Mx,bg];refine cB 0 (fun k σ l=>l=[aY.cells 2 [aD g.ids,bC g.ops],aY.cells 2 [.aH,.aH],aY.cells 2 [aD g.ids,.aH]]/\σ 2=.ptr 1 0 2/\σ 3=.ptr 2 0 2/\σ 14=.int .i64 0/\σ 15=.int .i64 k) ?_ ⟨rfl,by simp,by simp,by simp,by simp⟩;rintro k σ l ar ⟨rfl,aT,aZ,Cc,th⟩;obtain⟨σ,rfl⟩:=i2 aT aZ Cc th;clear aT aZ Cc th;have:k=0:=by omega
  subst this;simp[Mx,bg,aC];have:c4 g=.aG [aD g.ids,.aH] :=by unfold c4 bX; rw[aC]; rfl
  exact aP this.symm (te g)
 ·simp[Mx,bg];have hT:a.length<=1000000:=by have:=aw.cG; rw[aB] at this; exact this
  have F2:∀ o∈a,i3 o:=fun o au=>aw.ops o (by rw[aB]; exact au)
  have eW:=RS a;have ax:∀ e∈a.map a9,e.length=11:=fun e am=>by obtain⟨y,_,rfl⟩:=atx.1 am; rfl
  refine cB a.length (fun k σ l=>l=[aY.cells 2 [aD g.ids,bC g.ops],aY.cells 2 [.aH,.aH],aY.cells 2 [aD g.ids,U.aq 11 3 0 a.length a.length (a.length*11)],aY.cells (a.length*11) (a.map a9).flatten]/\σ 2=.ptr 1 0 2/\σ 3=.ptr 2 0 2/\σ 14=.int .i64 a.length/\σ 15=.int .i64 k) ?_ ⟨rfl,by simp,by simp,by simp,by simp⟩;rintro k σ l ar ⟨rfl,aT,aZ,Cc,th⟩;obtain⟨σ,rfl⟩:=i2 aT aZ Cc th;clear aT aZ Cc th;have aQ:IntKind.i64.wrap ((k:Int)+1)=((k+1:Nat) :Int) :=by rw[IntKind.wrap_i64]; omega
  by_cases bB:k<a.length
  ·obtain⟨o,au,eF⟩:=bP bB;have mL:=F2 o eF;have mG:=dw o.bh;have adr:=Uy o.bh mL.ids mL.len;have K0:(a.map a9)[k]? = some (a9 o) :=by rw[as5,au]; rfl
   have KC:(a.map a9).flatten[k*11+1]? = some (aD o.bh) :=zA ax K0 (by omega);have q8:bg (a.map a9).flatten (k*11+1) [aD o.bh]=(a.map a9).flatten:=by
    rw[abU ax K0 (show 1+[aD o.bh].length<=11 by simp)];rw[aiA o];congr 1;exact atO fun j=>by
     by_cases e:k=j
     ·subst e; rw[atj (by simpa using bB),K0]
     ·rw[ato e]
   have mp:=nU o.bh;simp[bB,KC];refine a4 adr (by simp[a5,mG]) ?_;simp[q8,mp,aQ];exact⟨bB,by omega,bB⟩
  ·have e5:k=a.length:=by omega
   subst e5;simp[bg];exact ajP (.same _ fW) ((Ea (enc:=a9) (z:=11) (b:=3) (n:=a.length) (a:=a) (fun _ _=>rfl) rfl (by rfl)).q.AZ l3 g.ops (by rw[aB]; rfl) (by rw[aB]; rfl))
def fC (bG:List Nat) (i:Nat) :Nat:=bG.getD i 0
theorem HD {bG:List Nat} {i n:Nat} (h:bG[i]? = some n) :fC bG i=n:=by unfold fC; rw[atf,h]; rfl
theorem D1 {bG:List Nat} {i j n:Nat} (ai:j<bG.length) :fC (bG.set j n) i=if i=j then n else fC bG i:=by
 by_cases h:i=j
 ·subst h; rw[if_pos rfl]; exact HD (atj ai)
 ·rw[if_neg h]; unfold fC; rw[atf,atf,ato (fun e=>h e.symm)]
def qf:List Nat->Nat
 | []=>0
 | a::l=>a+qf l
theorem XR:∀ {l:List Nat} {j:Nat},j<l.length->qf (l.set j (fC l j+1))=qf l+1
 | a::l,0,_=>by show (a+1)+qf l=a+qf l+1; omega
 | a::l,j+1,h=>by
  have:=XR (l:=l) (j:=j) (by simpa using h);show a+qf (l.set j (fC l j+1))=a+qf l+1;omega
theorem XQ {c:Nat}:∀ {l:List Nat},(∀ i,i<l.length->fC l i<=c)->qf l<=c*l.length
 | [],_=>by simp[qf]
 | a::l,h=>by
  have ad:=XQ (c:=c) (l:=l) fun i az=>h (i+1) (by simpa using az)
  have ae:a<=c:=h 0 (by simp);show a+qf l<=c*(l.length+1)
  rw[Nat.mul_succ]; omega
theorem ala (n:Nat) :qf (List.replicate n 0)=0:=by
 induction n with
 | zero=>rfl
 | succ n aS=>rw[atP]; show 0+_=0; omega
theorem VN (n i:Nat) :fC (List.replicate n 0) i=0:=by
 unfold fC; rw[atf,avX]; split<;>rfl
def h2 (ps:List bt) (bG:List Nat) (i:Nat) :List B:=bT (gW ps i).ids.l (fC bG i)
def me (ps:List bt) (bG:List Nat) (i:Nat) (r:Option Nat) :Option Nat:=
 if fC bG i<(gW ps i).ids.l.length then (match r with | none=>some i | some j=>if ca (h2 ps bG i) (h2 ps bG j)<0 then some i else some j) else r
def ny (ps:List bt) (bG:List Nat) :Nat->Option Nat
 | 0=>none
 | i+1=>me ps bG i (ny ps bG i)
theorem Vt (ps:List bt) (bG:List Nat) (i:Nat) (r:Option Nat) :(¬ fC bG i<(gW ps i).ids.l.length/\me ps bG i r=r)\/(fC bG i<(gW ps i).ids.l.length/\((r=none/\me ps bG i r=some i)\/∃ j,r=some j/\((ca (h2 ps bG i) (h2 ps bG j)<0/\me ps bG i r=some i)\/(¬ ca (h2 ps bG i) (h2 ps bG j)<0/\me ps bG i r=some j)))) :=by
 unfold me;by_cases h:fC bG i<(gW ps i).ids.l.length
 ·rw[if_pos h];right; refine⟨h,?_⟩;cases r with
  | none=>exact .inl ⟨rfl,rfl⟩
  | some j=>
   right; refine⟨j,rfl,?_⟩;by_cases ae:ca (h2 ps bG i) (h2 ps bG j)<0
   ·left; exact⟨ae,by simp[ae]⟩
   ·right; exact⟨ae,by simp[ae]⟩
 ·rw[if_neg h]; exact .inl ⟨h,rfl⟩
theorem Mq {ps:List bt} {bG:List Nat}:∀ {k:Nat},ny ps bG k=none->∀ i,i<k->¬ fC bG i<(gW ps i).ids.l.length
 | 0,_,i,az=>by omega
 | k+1,h,i,az=>by
  change me ps bG k (ny ps bG k)=none at h;rcases Vt ps bG k (ny ps bG k) with ⟨ad,ae⟩ | ⟨_,⟨_,ae⟩ | ⟨j,_,⟨_,ae⟩ | ⟨_,ae⟩⟩⟩
  ·by_cases e:i=k
   ·subst e; exact ad
   ·exact Mq (by rw[<-ae]; exact h) i (by omega)
  all_goals rw[ae] at h; cases h
theorem AE {ps:List bt} {bG:List Nat}:∀ {k j:Nat},ny ps bG k=some j->j<k/\fC bG j<(gW ps j).ids.l.length/\∀ i,i<k->fC bG i<(gW ps i).ids.l.length->ca (h2 ps bG j) (h2 ps bG i)<=0
 | 0,j,h=>by cases h
 | k+1,j,h=>by
  change me ps bG k (ny ps bG k)=some j at h;rcases Vt ps bG k (ny ps bG k) with ⟨ad,ae⟩ | ⟨ad,⟨aj,ae⟩ | ⟨m,aj,⟨aF,ae⟩ | ⟨aF,ae⟩⟩⟩
  ·rw[ae] at h;obtain⟨a,b,c⟩:=AE h;exact⟨by omega,b,fun i az al=>by
    by_cases e:i=k
    ·subst e; exact absurd al ad
    ·exact c i (by omega) al⟩
  ·rw[ae] at h; obtain rfl:=Option.some.inj h;exact⟨by omega,ad,fun i az al=>by
    by_cases e:i=k
    ·subst e; rw[qE]; exact Int.le_refl _
    ·exact absurd al (Mq aj i (by omega))⟩
  ·rw[ae] at h; obtain rfl:=Option.some.inj h;obtain⟨a,b,c⟩:=AE aj;exact⟨by omega,ad,fun i az al=>by
    by_cases e:i=k
    ·subst e; rw[qE]; exact Int.le_refl _
    ·have ah:=c i (by omega) al;by_cases ax:ca (h2 ps bG m) (h2 ps bG i)=0
     ·rw[<-zl ax]; omega
     ·have:=zm _ _ _ aF (show ca (h2 ps bG m) (h2 ps bG i)<0 by omega);omega⟩
  ·rw[ae] at h; obtain rfl:=Option.some.inj h;obtain⟨a,b,c⟩:=AE aj;exact⟨by omega,b,fun i az al=>by
    by_cases e:i=k
    ·subst e; have:=BS (h2 ps bG i) (h2 ps bG m); omega
    ·exact c i (by omega) al⟩
structure uL (ps:List bt) :Prop where
 len:∀ p∈ps,p.ids.l.length=p.ops.l.length
 dA:∀ p∈ps,dA p.ids.l=true
 Rs:∀ (i j:Nat) (x:List B) (p q:bt),ps[i]? = some p->ps[j]? = some q->x∈p.ids.l->x∈q.ids.l->i=j
structure w3 (ps:List bt) (bG:List Nat) (O:List (List B × bp)) :Prop where
 nl:bG.length=ps.length
 le:∀ (i:Nat) (p:bt),ps[i]? = some p->fC bG i<=p.ids.l.length
 Xy:O.Pairwise fun a b=>ib a.1 b.1=true
 VC:∀ q,q∈O<->∃ (i:Nat) (p:bt) (a:Nat),ps[i]? = some p/\a<fC bG i/\p.ids.l[a]? = some q.1/\p.ops.l[a]? = some q.2
 az:∀ q∈O,∀ (i:Nat) (p:bt) (a:Nat) (x:List B),ps[i]? = some p->fC bG i<=a->p.ids.l[a]? = some x->ib q.1 x=true
 fG:qf bG=O.length
theorem ahO (ps:List bt) :w3 ps (List.replicate ps.length 0) [] :=
 ⟨by simp,fun i p _=>by rw[VN]; exact auc _,.nil,fun q=>⟨fun h=>(by cases h),fun ⟨i,p,a,_,h,_⟩=>by rw[VN] at h; omega⟩,fun q bj=>(by cases bj),by rw[ala]; rfl⟩
theorem ahM {ps:List bt} {bG:List Nat} {O:List (List B × bp)} (h:w3 ps bG O) {c:Nat} (ah:∀ p∈ps,p.ids.l.length<=c) :O.length<=c*ps.length:=by
 rw[<-h.fG,<-h.nl];refine XQ fun i az=>?_
 obtain⟨p,av,g0⟩:=bP (l:=ps) (k:=i) (by rw[<-h.nl]; exact az);exact atR (h.le i p av) (ah p g0)
theorem ahN {ps:List bt} (W:uL ps) {bG:List Nat} {O:List (List B × bp)} (h:w3 ps bG O) {j:Nat} (ai:ny ps bG ps.length=some j) {p:bt} (av:ps[j]? = some p) {x:List B} {o:bp} (ag:p.ids.l[fC bG j]? = some x) (au:p.ops.l[fC bG j]? = some o) :
  w3 ps (bG.set j (fC bG j+1)) (O++[(x,o)]) :=by
 obtain⟨ad,ae,aj⟩:=AE ai;have g0:=ata av;have eO:j<bG.length:=by rw[h.nl]; exact ad
 rw[hR av] at ae;have mF:h2 ps bG j=x:=by unfold h2; rw[hR av,fB ag]
 have Gk:∀ i,i<ps.length->fC bG i<=fC (bG.set j (fC bG j+1)) i:=fun i _=>by rw[D1 eO]; split<;>simp_all
 refine⟨by rw[List.length_set]; exact h.nl,fun i q bj=>?_,?_,fun q=>?_,fun q bj i r a y ay aB aJ=>?_,?_⟩
 ·rw[D1 eO];split
  ·rename_i e; subst e; rw[av] at bj; obtain rfl:=Option.some.inj bj; omega
  ·exact h.le i q bj
 ·rw[avy];refine⟨h.Xy,avY _ _,fun a aB b af=>?_⟩;rw[atX.1 af];exact h.az a aB j p _ x av (as3 _) ag
 ·rw[atU,h.VC,atX];constructor
  ·rintro (⟨i,r,a,q1,db,gh⟩ | e)
   ·exact⟨i,r,a,q1,auB db (Gk i (as0.1 q1).1),gh⟩
   ·subst e; exact⟨j,p,fC bG j,av,by rw[D1 eO,if_pos rfl]; omega,ag,au⟩
  ·rintro⟨i,r,a,q1,db,gh,ur⟩;rw[D1 eO] at db;split at db
   ·rename_i e; subst e;rw[av] at q1; obtain rfl:=Option.some.inj q1;by_cases e:a=fC bG i
    ·right;rw[e,ag] at gh; rw[e,au] at ur;rw[Option.some.inj gh,Option.some.inj ur]
    ·exact .inl ⟨i,p,a,av,by omega,gh,ur⟩
   ·exact .inl ⟨i,r,a,q1,db,gh,ur⟩
 ·have vz:fC bG i<=a:=atR (Gk i (as0.1 ay).1) aB;rcases atU.1 bj with bj | bj
  ·exact h.az q bj i r a y ay vz aJ
  ·rw[atX.1 bj];by_cases e:i=j
   ·subst e;rw[av] at ay; obtain rfl:=Option.some.inj ay;rw[D1 eO,if_pos rfl] at aB;exact (nz _ _).2 (qc (W.dA p g0) (show fC bG i<a by omega) ag aJ)
   ·have vH:=ata ay;have hT:=(as0.1 aJ).1;obtain⟨z,ax,Aq⟩:=bP (l:=r.ids.l) (k:=fC bG i) (by omega);have aF:=aj i (as0.1 ay).1 (by rw[hR ay]; omega);have fW:h2 ps bG i=z:=by unfold h2; rw[hR ay,fB ax]
    rw[mF,fW] at aF;have bV:ca x z≠0:=fun fm=>e (by
     have:=zl fm;subst this;exact W.Rs i j x r p ay av Aq (ata ag))
    have aK:ib x z=true:=(nz _ _).2 (by omega);by_cases qH:a=fC bG i
    ·rw[qH,ax] at aJ; rw[<-Option.some.inj aJ]; exact aK
    ·exact Ht _ _ _ aK ((nz _ _).2 (qc (W.dA r vH) (show fC bG i<a by omega) ax aJ))
 ·rw[XR eO,h.fG,as8]; rfl
theorem ahK {ps:List bt} {bG:List Nat} {O:List (List B × bp)} (h:w3 ps bG O) (aC:ny ps bG ps.length=none) (q:List B × bp) :q∈O<->∃ p∈ps,∃ a:Nat,p.ids.l[a]? = some q.1/\p.ops.l[a]? = some q.2:=by
 rw[h.VC];constructor
 ·rintro⟨i,p,a,ad,_,ae,aj⟩; exact⟨p,ata ad,a,ae,aj⟩
 ·rintro⟨p,av,a,ae,aj⟩;obtain⟨i,az⟩:=atc.1 av;have:=Mq aC i (as0.1 az).1;rw[hR az] at this;have:=(as0.1 ae).1;exact⟨i,p,a,az,by omega,ae,aj⟩
theorem Wr {l m:List (List B × bp)} (al:l.Pairwise fun a b=>ib a.1 b.1=true) (hm:m.Pairwise fun a b=>ib a.1 b.1=true) (h:∀ q,q∈l<->q∈m) :l=m:=
 Xz (lt:=fun a b:List B × bp=>ib a.1 b.1) (fun a=>ahs a.1) (fun a b c=>Ht a.1 b.1 c.1) al hm h
theorem O1 {p:bt} (al:p.ids.l.length=p.ops.l.length) (ay:dA p.ids.l=true) {x:List B} {o:bp}:kV p x=some o<->∃ a:Nat,p.ids.l[a]? = some x/\p.ops.l[a]? = some o:=by
 constructor
 ·intro h;unfold kV at h;split at h
  ·rename_i ah;obtain⟨a,aB⟩:=atc.1 ((vU x p.ids.l 0).1 ah.1);rw[Hh (vS ay) aB,atD] at h;exact⟨a,aB,h⟩
  ·cases h
 ·rintro⟨a,aB,au⟩;unfold kV;have:=(as0.1 au).1;rw[Hh (vS ay) aB,if_pos ⟨by omega,by omega⟩,atD]; exact au
theorem O0 {p:bt} {x:List B} {o:bp} (h:kV p x=some o) :x∈p.ids.l:=by
 unfold kV at h;split at h
 ·rename_i ah; exact (vU x p.ids.l 0).1 ah.1
 ·cases h
theorem YG {ps:List bt} (W:uL ps) {x:List B}:∀ {k:Nat},k<=ps.length->(ii ps x k).Pairwise fun a b=>ib a.1 b.1=true
 | 0,_=>.nil
 | k+1,ar=>by
  obtain⟨p,av,_⟩:=bP (l:=ps) (k:=k) (by omega);have aS:=YG W (x:=x) (k:=k) (by omega);show (ii ps x k++(match kV (gW ps k) x with | some o=>[(x,o)] | none=>[])).Pairwise _;rw[hR av];cases aB:kV p x with
  | none=>simpa using aS
  | some o=>
   have:ii ps x k=[] :=List.eq_nil_iff_forall_not_mem.2 fun q bj=>by
    obtain⟨j,r,ad,ae,aj,aF⟩:=(Ix (by omega)).1 bj;have:=W.Rs j k x r p ae av (O0 aj) (O0 aB);omega
   rw[this];exact avY _ _
theorem YE {ps:List bt} (W:uL ps) {ids:List (List B)} (ay:dA ids=true) :∀ {i:Nat},i<=ids.length->(jE ps ids i).Pairwise fun a b=>ib a.1 b.1=true
 | 0,_=>.nil
 | i+1,az=>by
  obtain⟨x,ag,_⟩:=bP (l:=ids) (k:=i) (by omega);show (jE ps ids i++ii ps (bT ids i) ps.length).Pairwise _;rw[fB ag,avy];refine⟨YE W ay (by omega),YG W (as3 _),fun a aB b af=>?_⟩;obtain⟨m,ad,ae,_⟩:=(Iw (by omega)).1 aB;obtain⟨j,p,_,_,_,aF⟩:=(Ix (as3 _)).1 af;rw[aF];exact (nz _ _).2 (qc ay ad ae ag)
theorem YA {s:en} (W:uL s.parts.l) :(e8 s).Pairwise fun a b=>ib a.1 b.1=true:=YE W (ak1 _) (as3 _)
theorem N8 {s:en} (W:uL s.parts.l) (q:List B × bp) :q∈e8 s<->∃ p∈s.parts.l,∃ a:Nat,p.ids.l[a]? = some q.1/\p.ops.l[a]? = some q.2:=by
 unfold e8;rw[Iw (as3 _)];constructor
 ·rintro⟨a,_,_,p,av,h⟩;exact⟨p,av,(O1 (W.len p av) (W.dA p av)).1 h⟩
 ·rintro⟨p,av,a,ad,ae⟩;have:q.1∈hi s:=by
   unfold hi;obtain⟨j,ai⟩:=atc.1 av;rw[XC,I3 (as3 _)];exact⟨j,p,(as0.1 ai).1,ai,ata ad⟩
  obtain⟨m,hm⟩:=atc.1 this;exact⟨m,(as0.1 hm).1,hm,p,av,(O1 (W.len p av) (W.dA p av)).2 ⟨a,ad,ae⟩⟩
theorem ahL {s:en} (W:uL s.parts.l) {bG:List Nat} {O:List (List B × bp)} (h:w3 s.parts.l bG O) (aC:ny s.parts.l bG s.parts.l.length=none) :O=e8 s:=
 Wr h.Xy (YA W) fun q=>by rw[ahK h aC,N8 W]
def wV (ps:List bt) :Bool:=decide (∀ p∈ps,p.ids.l.length=p.ops.l.length/\dA p.ids.l=true)
theorem Bk {ps:List bt}:wV ps=true<->∀ p∈ps,p.ids.l.length=p.ops.l.length/\dA p.ids.l=true:=decide_eq_true_iff
def wa (ps:List bt) :Bool:=decide (∀ i,i<ps.length->∀ x∈(gW ps i).ids.l,num x ps.length=i)
theorem VJ {ps:List bt} (h:wa ps=true) (i j:Nat) (x:List B) (p q:bt) (av:ps[i]? = some p) (bj:ps[j]? = some q) (ag:x∈p.ids.l) (aJ:x∈q.ids.l) :i=j:=by
 unfold wa at h;rw[decide_eq_true_eq] at h;have ad:=h i (as0.1 av).1 x (by rw[hR av]; exact ag);have ae:=h j (as0.1 bj).1 x (by rw[hR bj]; exact aJ);omega
theorem yb {s:dr} {k:Nat} {x:List B} (h:s.l[k]? = some x) :cN (.aq 32) (aD s) (.int .i64 (k:Int))=some (.bK (a1 x) 0) :=by simp[aD,h]
theorem Uu {s:c3 bp} {k:Nat} {x:bp} (h:s.l[k]? = some x) :cN (.aq 11) (bC s) (.int .i64 (k:Int))=some (.bK (a9 x) 0) :=by simp[bC,h]
theorem ahr {ps:List bt} {bG:List Nat} {i:Nat} {r:Option Nat} (h:¬ fC bG i<(gW ps i).ids.l.length) :me ps bG i r=r:=by unfold me; rw[if_neg h]
theorem aho {ps:List bt} {bG:List Nat} {i:Nat} (h:fC bG i<(gW ps i).ids.l.length) :me ps bG i none=some i:=by unfold me; rw[if_pos h]
theorem ahq {ps:List bt} {bG:List Nat} {i j:Nat} (h:fC bG i<(gW ps i).ids.l.length) (ae:ca (h2 ps bG i) (h2 ps bG j)<0) :me ps bG i (some j)=some i:=by unfold me; rw[if_pos h]; simp[ae]
theorem ahp {ps:List bt} {bG:List Nat} {i j:Nat} (h:fC bG i<(gW ps i).ids.l.length) (ae:¬ ca (h2 ps bG i) (h2 ps bG j)<0) :me ps bG i (some j)=some j:=by unfold me; rw[if_pos h]; simp[ae]
def DV:Option Nat->Int
 | none=>-1
 | some j=>j
def m9 (bG:List Nat) :List U:=bG.map fun (n:Nat)=>U.int .i64 (n:Int)
structure Bs (s:en) (bL w2:U) (bG:List Nat) (l:ao) :Prop where
 cE:l[0]? = some (.cells 3 (dD s))
 q1:l[1]? = some (.cells 2 [.aH,.aH])
 db:l[2]? = some (.cells 2 [bL,w2])
 gh:l[3]? = some (.cells s.parts.l.length (m9 bG))
structure EY (s:en) (σ:a8) :Prop where
 aO:σ 1=.ptr 0 0 3
 aT:σ 2=.ptr 1 0 2
 aZ:σ 3=.bool false
 bi:σ 4=.ptr 2 0 2
 bm:σ 5=.aq 1 3 0 s.parts.l.length s.parts.l.length s.parts.l.length
def yo (s:en) :U:=if wV s.parts.l=true then .bv [c4 (eL (e8 s)),.bool true] else .bv [c4 ⟨none,none⟩,.bool false]
set_option maxHeartbeats 16000000 in
theorem ahI (s:en) (ak:mY s) (bb:∀ (i j:Nat) (x:List B) (p q:bt),s.parts.l[i]? = some p->s.parts.l[j]? = some q->x∈p.ids.l->x∈q.ids.l->i=j) :bA Tryz.prog GS 176 [.aG (dD s)] (yo s) :=by
 refine bW Tryz.checked.mixed bl ?_;apply bq Tryz.func176 [[],[],[[0],[1],[2],[3],[4],[5],[6],[7],[8],[9],[10],[11],[12],[13],[14],[16],[17],[18],[19],[20],[21],[22],[23],[24],[25],[26],[27],[28],[29],[30],[15,30,29,27,23,19,17],[32],[31]]];have ay:ct=140737488355328:=rfl;have gO:=yj s.parts;have TS:=ak.wb;have bS:(dD s).length=3:=rfl;have fH:∀ h,(dD s)[0]'h=j6 s.parts:=fun _=>rfl
 obtain⟨a2,bd⟩:=DW (z:=1) (by_:=8) (n:=s.parts.l.length) (k:=.i64) (k':=.i64) (zero:=[U.int .i64 0]) (l:=[.cells 3 (dD s),.cells 2 [.aH,.aH],.cells 2 [.aH,.aH]]) rfl (by omega) (by rw[ay]; omega);simp only[aux] at a2 bd;simp[bS,fH,gO] at a2 ⊢;simp[a2,fH,bS,gO];have T7:dx [U.int .i64 0] s.parts.l.length=m9 (List.replicate s.parts.l.length 0) :=by
  rw[El]; unfold m9; rw[avj];generalize s.parts.l.length=n
  induction n with
  | zero=>rfl
  | succ n aS=>rw[atP,atP,atW,aS]; rfl
 rw[T7];have h5:wV s.parts.l=false->yo s=.bv [.aG [.aH,.aH],.bool false] :=fun h=>by unfold yo; rw[h]; rfl
 refine cB s.parts.l.length (fun i σ l=>EY s σ/\σ 17=j6 s.parts/\σ 18=.int .i64 s.parts.l.length/\σ 19=.int .i64 i/\Bs s .aH .aH (List.replicate s.parts.l.length 0) l/\∀ (j:Nat) (p:bt),j<i->s.parts.l[j]? = some p->p.ids.l.length=p.ops.l.length/\dA p.ids.l=true) ?_ ⟨⟨by simp,by simp,by simp,by simp,by simp⟩,by simp,by simp,by simp,⟨rfl,rfl,rfl,rfl⟩,fun j _ ai=>by omega⟩;rintro i σ l az ⟨⟨aO,aT,aZ,bi,bm⟩,pF,pG,pH,hC,jL⟩;obtain⟨σ,rfl⟩:=Yg aO aT aZ bi bm pF pG pH;clear aO aT aZ bi bm pF pG pH;have aQ:IntKind.i64.wrap ((i:Int)+1)=((i+1:Nat) :Int) :=by rw[IntKind.wrap_i64]; omega
 by_cases dS:i<s.parts.l.length
 ·obtain⟨p,av,g0⟩:=bP dS;obtain⟨h8,Lf,Lg⟩:=ak.parts p g0;have bZ:=so av;have iz:∀ h,(bX p)[0]'h=aD p.ids:=fun _=>rfl
  have l6:∀ h,(bX p)[1]'h=bC p.ops:=fun _=>rfl
  have jv:(bX p).length=2:=rfl;have tt:(bX p).take 2=bX p:=rfl;have cT:cv (.aq 32) (aD p.ids)=some (.int .i64 p.ids.l.length) :=by simp[aD]
  have cV:cv (.aq 11) (bC p.ops)=some (.int .i64 p.ops.l.length) :=by simp[bC]
  have w2:∀ ly:aY,(l++[ly])[2]? = some (.cells 2 [.aH,.aH]) :=fun ly=>by rw[as2 (cp hC.db)]; exact hC.db
  have bL:∀ ly:aY,(l++[ly])[1]? = some (.cells 2 [.aH,.aH]) :=fun ly=>by rw[as2 (cp hC.q1)]; exact hC.q1
  have gQ:(l++[aY.cells 2 (bX p)])[l.length]? = some (.cells 2 (bX p)) :=au0;have acM:∀ c:aY,Bs s .aH .aH (List.replicate s.parts.l.length 0) (l++[c]) :=fun c=>⟨by rw[as2 (cp hC.cE)]; exact hC.cE,bL c,w2 c,by rw[as2 (cp hC.gh)]; exact hC.gh⟩
  have cQ:∀ c c' : aY,((l++[c]).set 1 c')[1]? = some c':=fun c c'=>atj (by rw[as8]; have:=cp hC.q1; omega)
  have x6:bg [U.aH,.aH] 0 (bX p)=bX p:=hu rfl;simp[dS,bZ,iz,l6,jv,tt,x6,cT,cV];by_cases ad:p.ids.l.length=p.ops.l.length
  ·simp[ad];obtain⟨L,eV⟩:∃ L,L=l++[aY.cells 2 (bX p)] :=⟨_,rfl⟩
   have Cx:=acM (aY.cells 2 (bX p));have Yr:=bL (aY.cells 2 (bX p));have Ys:=w2 (aY.cells 2 (bX p));have yE:=cQ (aY.cells 2 (bX p));rw[<-eV] at Cx gQ Yr Ys yE ⊢;refine cB p.ids.l.length (fun m σ l'=>l'=L/\EY s σ/\σ 7=.ptr l.length 0 2/\σ 8=.int .i64 (m+1:Nat)/\σ 17=j6 s.parts/\σ 18=.int .i64 s.parts.l.length/\σ 19=.int .i64 i/\∀ k,k<p.ids.l.length->1<=k->k<m+1->ca (bT p.ids.l (k - 1)) (bT p.ids.l k)<0) ?_ ⟨rfl,⟨by simp,by simp,by simp,by simp,by simp⟩,by simp,by simp,by simp,by simp,by simp,fun k _ _ _=>by omega⟩;rintro m σ l' hm ⟨rfl,⟨aO,aT,aZ,bi,bm⟩,fe,gc,pF,pG,pH,Uf⟩;obtain⟨σ,rfl⟩:=alN aO aT aZ bi bm fe gc pF pG pH;clear aO aT aZ bi bm fe gc pF pG pH;have bx:IntKind.i64.wrap (((m+1:Nat) :Int)+1)=((m+1+1:Nat) :Int) :=by rw[IntKind.wrap_i64]; omega
   have fc:IntKind.i64.wrap (((m+1:Nat) :Int) - 1)=(m:Int) :=by rw[IntKind.wrap_i64]; omega
   by_cases kC:m+1<p.ids.l.length
   ·obtain⟨x,ag,dp⟩:=bP (l:=p.ids.l) (k:=m) (by omega);obtain⟨y,aJ,er⟩:=bP (l:=p.ids.l) (k:=m+1) (by omega);have C6:((m+1:Nat) :Int)<p.ids.l.length:=by omega
    have fY:=h8.ids x dp;have vM:=h8.ids y er;have bn:=de fY;have fA:=de vM;have fK:=gK x;have kI:=gK y;have dP:cN (.aq 32) (aD p.ids) (.int .i64 (m:Int))=some (.bK (a1 x) 0) :=by simp[aD,ag]
    have nm:=yb aJ;have ff:=vc x y fY vM;change bA Tryz.prog GS _ [.aG (a1 x),.aG (a1 y)] _ at ff;obtain⟨X,cM⟩:∃ X,X=a1 x:=⟨_,rfl⟩
    obtain⟨Y,gX⟩:∃ Y,Y=a1 y:=⟨_,rfl⟩
    rw[<-cM] at bn fK dP ff;rw[<-gX] at fA kI nm ff;obtain⟨M,iV⟩:∃ M:Int,M=((m+1:Nat) :Int) :=⟨_,rfl⟩
    rw[<-iV] at bx fc C6 nm ⊢;simp[gQ,jv,iz,cT,C6,fc,dP,nm,bn,fA,as1];refine a4 ff (by simp[a5,U.closed,fK,kI]) ?_;by_cases aK:ca x y<0
    ·have:¬ 0<=ca x y:=by omega
     simp[this,bx];refine⟨by omega,⟨by simp,by simp,by simp,by simp,by simp⟩,fun k ad ae aj=>?_⟩;by_cases ar:k=m+1
     ·subst ar; rw[show m+1 - 1=m by omega,ag,aJ]; exact aK
     ·exact Uf k ad ae (by omega)
    ·have aI:0<=ca x y:=by omega
     have aW:wV s.parts.l=false:=decide_eq_false fun h=>aK (by
      have:=qc (h p g0).2 (show m<m+1 by omega) ag aJ;exact this)
     rw[h5 aW];simp[aI,Ys,Yr,yE,bg];exact aP rfl rfl
   ·have C6:¬ ((m+1:Nat) :Int)<p.ids.l.length:=by omega
    obtain⟨M,iV⟩:∃ M:Int,M=((m+1:Nat) :Int) :=⟨_,rfl⟩
    rw[<-iV] at bx fc C6 ⊢;simp[gQ,jv,iz,cT,C6,aQ];refine⟨dS,⟨by simp,by simp,by simp,by simp,by simp⟩,Cx,fun j q ai bj=>?_⟩;by_cases jw:j=i
    ·subst jw;rw[av] at bj; obtain rfl:=Option.some.inj bj;exact⟨ad,H5 fun k ad ae=>Uf k ad ae (by omega)⟩
    ·exact jL j q (by omega) bj
  ·have aW:wV s.parts.l=false:=decide_eq_false fun h=>ad (h p g0).1
   have dH:¬ (p.ids.l.length:Int)=p.ops.l.length:=by omega
   rw[h5 aW];simp[ad,dH,w2,bL,cQ,bg];exact aP rfl rfl
 ·have cZ:i=s.parts.l.length:=by omega
  subst cZ;have aW:wV s.parts.l=true:=Bk.2 fun p av=>by
   obtain⟨j,ai⟩:=atc.1 av;exact jL j p (as0.1 ai).1 ai
  have W:uL s.parts.l:=⟨fun p av=>(Bk.1 aW p av).1,fun p av=>(Bk.1 aW p av).2,bb⟩
  have sa:yo s=.bv [c4 (eL (e8 s)),.bool true] :=by unfold yo; rw[aW]; rfl
  rw[sa];clear jL h5 sa az dS aQ bd a2 T7;simp;refine cB 100000 (fun k σ l=>EY s σ/\∃ bG O bL w2 eX eY,Bs s bL w2 bG l/\hL l bL w2 eX eY 4 (O.map (·.1)) (O.map (·.2))/\w3 s.parts.l bG O/\O.length=k) ?_ ⟨⟨by simp,by simp,by simp,by simp,by simp⟩,List.replicate s.parts.l.length 0,[],.aH,.aH,0,0,hC,by simpa using MK _ 4,ahO _,rfl⟩;clear hC;rintro k σ l ar ⟨⟨aO,aT,aZ,bi,bm⟩,bG,O,bL,w2,eX,eY,hC,iY,iV,aen⟩;obtain⟨σ,rfl⟩:=lo aO aT aZ bi bm;clear aO aT aZ bi bm;have oO:O.length<=1000:=by have:=ahM iV (c:=100) (fun p av=>(ak.parts p av).2.1); omega
  have cE:=hC.cE;simp[cE,bS,fH,gO];refine cB s.parts.l.length (fun i σ l=>EY s σ/\σ 9=.int .i64 (DV (ny s.parts.l bG i))/\σ 54=j6 s.parts/\σ 55=.int .i64 s.parts.l.length/\σ 56=.int .i64 i/\Bs s bL w2 bG l/\hL l bL w2 eX eY 4 (O.map (·.1)) (O.map (·.2))) ?_ ⟨⟨by simp,by simp,by simp,by simp,by simp⟩,by simp; rfl,by simp,by simp,by simp,hC,iY⟩;clear hC iY cE;rintro i σ l az ⟨⟨aO,aT,aZ,bi,bm⟩,h3,Ci,Cj,Se,hC,iY⟩;obtain⟨σ,rfl⟩:=Yh aO aT aZ bi bm h3 Ci Cj Se;clear aO aT aZ bi bm h3 Ci Cj Se;have aQ:IntKind.i64.wrap ((i:Int)+1)=((i+1:Nat) :Int) :=by rw[IntKind.wrap_i64]; omega
  by_cases dS:i<s.parts.l.length
  ·obtain⟨p,av,g0⟩:=bP dS;obtain⟨h8,Lf,Lg⟩:=ak.parts p g0;have bZ:=so av;have iz:∀ h,(bX p)[0]'h=aD p.ids:=fun _=>rfl
   have l6:∀ h,(bX p)[1]'h=bC p.ops:=fun _=>rfl
   have jv:(bX p).length=2:=rfl;have tt:(bX p).take 2=bX p:=rfl;have cT:cv (.aq 32) (aD p.ids)=some (.int .i64 p.ids.l.length) :=by simp[aD]
   have x6:bg [U.aH,.aH] 0 (bX p)=bX p:=hu rfl;obtain⟨L,eV⟩:∃ L,L=l++[aY.cells 2 (bX p)] :=⟨_,rfl⟩
   have wp:L[l.length]? = some (.cells 2 (bX p)) :=by rw[eV]; exact au0
   have zQ:Bs s bL w2 bG L:=by
    rw[eV];exact⟨by rw[as2 (cp hC.cE)]; exact hC.cE,by rw[as2 (cp hC.q1)]; exact hC.q1,by rw[as2 (cp hC.db)]; exact hC.db,by rw[as2 (cp hC.gh)]; exact hC.gh⟩
   have oe:hL L bL w2 eX eY 4 (O.map (·.1)) (O.map (·.2)) :=by rw[eV]; exact iY.frame fun b _ af=>as2 af
   have kD:=iV.nl;obtain⟨a,aB⟩:∃ a,bG[i]? = some a:=⟨_,as4 (by rw[kD]; exact dS)⟩
   have sd:=HD aB;have dY:=iV.le i p av;rw[sd] at dY;have KB:(m9 bG)[i]? = some (.int .i64 (a:Int)) :=by unfold m9; rw[as5,aB]; rfl
   have gh:=zQ.gh;have k4:=hR av;have k9:ny s.parts.l bG (i+1)=me s.parts.l bG i (ny s.parts.l bG i) :=rfl;by_cases hT:a<p.ids.l.length
   ·have CE:fC bG i<(gW s.parts.l i).ids.l.length:=by rw[sd,k4]; exact hT
    obtain⟨x,ag,dp⟩:=bP hT;have ni:h2 s.parts.l bG i=x:=by unfold h2; rw[k4,sd,fB ag]
    cases aU:ny s.parts.l bG i with
    | none=>
     rw[aU,aho CE] at k9;have ap:DV none=-1:=rfl;rw[ap];simp[dS,bZ,jv,tt,x6,<-eV,wp,gh,iz,cT,KB,hT,aQ];exact⟨⟨by simp,by simp,by simp,by simp,by simp⟩,by rw[k9]; rfl,zQ,oe⟩
    | some j=>
     rw[aU] at k9;obtain⟨b0,b5,ik⟩:=AE aU;obtain⟨r,ay,vH⟩:=bP (l:=s.parts.l) (k:=j) (by omega);have k5:=hR ay;rw[k5] at b5;obtain⟨y,aJ,er⟩:=bP b5;have n9:h2 s.parts.l bG j=y:=by unfold h2; rw[k5]; exact fB aJ
     obtain⟨b,af⟩:∃ b,bG[j]? = some b:=⟨_,as4 (by rw[kD]; omega)⟩
     have pU:=HD af;rw[pU] at aJ;have CP:(m9 bG)[j]? = some (.int .i64 (b:Int)) :=by unfold m9; rw[as5,af]; rfl
     have hc:=so ay;have Cy:(bX r)[0]? = some (aD r.ids) :=rfl;have fY:=h8.ids x dp;have vM:=(ak.parts r vH).1.ids y er;have bn:=de fY;have fA:=de vM;have fK:=gK x;have kI:=gK y;have dP:=yb ag;have nm:=yb aJ;have ff:=vc x y fY vM;change bA Tryz.prog GS _ [.aG (a1 x),.aG (a1 y)] _ at ff;obtain⟨X,cM⟩:∃ X,X=a1 x:=⟨_,rfl⟩
     obtain⟨Y,gX⟩:∃ Y,Y=a1 y:=⟨_,rfl⟩
     rw[<-cM] at bn fK dP ff;rw[<-gX] at fA kI nm ff;have ap:DV (some j)=(j:Int) :=rfl;rw[ap];have xP:¬ (j:Int)<0:=by omega
     have cE:=zQ.cE;have eO:j<s.parts.l.length:=by omega
     simp[dS,bZ,jv,tt,x6,<-eV,wp,gh,iz,cT,KB,hT,xP,dP,nm,cE,bS,fH,hc,Cy,CP,bn,fA,as1];refine⟨eO,a4 ff (by simp[a5,U.closed,fK,kI]) ?_⟩;by_cases aK:ca x y<0
     ·rw[ahq CE (by rw[ni,n9]; exact aK)] at k9;simp[aK,aQ];exact⟨dS,⟨by simp,by simp,by simp,by simp,by simp⟩,by rw[k9]; rfl,zQ,oe⟩
     ·rw[ahp CE (by rw[ni,n9]; exact aK)] at k9;simp[aK,aQ];exact⟨dS,⟨by simp,by simp,by simp,by simp,by simp⟩,by rw[k9]; rfl,zQ,oe⟩
   ·have CE:¬ fC bG i<(gW s.parts.l i).ids.l.length:=by rw[sd,k4]; exact hT
    rw[ahr CE] at k9;simp[dS,bZ,jv,tt,x6,<-eV,wp,gh,iz,cT,KB,hT,aQ];exact⟨⟨by simp,by simp,by simp,by simp,by simp⟩,by rw[k9],zQ,oe⟩
  ·have cZ:i=s.parts.l.length:=by omega
   subst cZ;clear az dS aQ;cases aU:ny s.parts.l bG s.parts.l.length with
   | none=>
    have eD:=ahL W iV aU;have ap:DV none=-1:=rfl;rw[ap];have iC:g8 (eL (e8 s)) :=EN ak;have si:=ak8 _ iC;have k3:=te (eL (e8 s));have db:=hC.db;unfold c4 bX eL at si k3;subst eD;simp[db];refine iY.call fun bo iK jh=>?_
    have c7:bo[1]? = some (.cells 2 [.aH,.aH]) :=by rw[jh 1 (by omega)]; exact hC.q1
    have dU:∀ c:aY,(bo.set 1 c)[1]? = some c:=fun c=>atj (cp c7)
    refine a4 si (by simp[a5,k3]) ?_;have eQ:=nU (dk ((e8 s).map (·.1)));have eG:=u6 (dk ((e8 s).map (·.2)));simp[c7,dU,eQ,eG,bg];exact aP rfl (by simp[U.closed,a5]; exact te _)
   | some j=>
    obtain⟨b0,b5,ik⟩:=AE aU;obtain⟨r,ay,vH⟩:=bP b0;have k5:=hR ay;rw[k5] at b5;obtain⟨afj,apt,apu⟩:=ak.parts r vH;have q5:=W.len r vH;obtain⟨x,ag,dp⟩:=bP b5;obtain⟨o,au,eF⟩:=bP (l:=r.ops.l) (k:=fC bG j) (by omega);have Cx:=ahN W iV aU ay ag au;obtain⟨b,af⟩:∃ b,bG[j]? = some b:=⟨_,as4 (by rw[iV.nl]; omega)⟩
    have pU:=HD af;rw[pU] at ag au Cx b5;have CP:(m9 bG)[j]? = some (.int .i64 (b:Int)) :=by unfold m9; rw[as5,af]; rfl
    have hc:=so ay;have Cy:(bX r)[0]? = some (aD r.ids) :=rfl;have SF:(bX r)[1]? = some (bC r.ops) :=rfl;have fY:=afj.ids x dp;have bn:=de fY;have dP:=yb ag;have ob:=Uu au;have oe:(a9 o).length=11:=rfl;have ap:DV (some j)=(j:Int) :=rfl;rw[ap];have xP:¬ (j:Int)<0:=by omega
    have eO:j<s.parts.l.length:=b0;obtain⟨X,cM⟩:∃ X,X=a1 x:=⟨_,rfl⟩
    obtain⟨Y,gX⟩:∃ Y,Y=a9 o:=⟨_,rfl⟩
    have Kk:=cM;rw[<-cM] at bn dP;rw[<-gX] at oe ob;have hp:X.take 32=X:=as1 (by omega);have F0:Y.take 11=Y:=as1 (by omega);have iE:bg (rep 32 (.int .u8 0)) 0 X=X:=hu (by rw[bn]; rfl);have q9:bg [U.int .u32 0,.aH,.int .u64 0,.int .u8 0,.str [],.int .u8 0,.int .i64 0,.int .u64 0,.str [],.int .u32 0,.int .u32 0] 0 Y=Y:=hu (by rw[oe]; rfl);have cE:=hC.cE;have db:=hC.db;have gh:=hC.gh;have gg:=cp gh;have pq:∀ (m:ao) (i:Nat) (c:aY),l[i]? = some c->(l++m)[i]? = some c:=fun m i c h=>by rw[as2 (cp h)]; exact h
    have lZ:∀ m:ao,(l++m)[0]? = some (.cells 3 (dD s)) :=fun m=>pq m 0 _ cE
    have fU:∀ m:ao,(l++m)[2]? = some (.cells 2 [bL,w2]) :=fun m=>pq m 2 _ db
    have uG:∀ m:ao,(l++m)[3]? = some (.cells s.parts.l.length (m9 bG)) :=fun m=>pq m 3 _ gh
    have amO:∀ (m:ao) (h:0<(l++m).length),(l++m)[0]'h=.cells 3 (dD s) :=fun m h=>(as0.1 (lZ m)).2
    have K9:hL (l++[aY.cells 32 X,.cells 11 Y]) bL w2 eX eY 4 (O.map (·.1)) (O.map (·.2)) :=iY.frame fun c _ ah=>as2 ah
    obtain⟨ow,vV,l1,a2,bd,b4,e0,gB⟩:=K9.Uw (c:=l.length) Kk bn (by simp) (by simp; omega) (by rw[ate]; omega);simp[cE,bS,fH,xP,hc,Cy,SF,db,gh,lZ,amO,fU,uG,CP,eO,dP,bn,hp,iE,ob,oe,F0,q9,a2];have bU:=iY.iv.lt;have gd:bL=.aH\/4<=eX:=iY.cX;have dX:w2=.aH\/4<=eY:=iY.dC;have f:∀ (c:Nat) (y:aY),c<4->l[c]? = some y->l1[c]? = some y:=fun c y ah aJ=>by
     rw[e0 c (by have:=cp aJ; simp; omega) (by rcases gd with e | e; exact .inl e; exact .inr (by omega)),as2 (cp aJ)]; exact aJ
    have B7:l1[l.length+1]? = some (.cells 11 Y) :=by
     rw[e0 (l.length+1) (by simp) (by rcases bU with e | e; exact .inl e; exact .inr (by omega))]; simp
    have hD:=cp (f 3 _ (by omega) gh);obtain⟨rF,ye,bo,d1,d2,d3,d4⟩:=bd.VV (c:=l.length+1) gX B7 (by omega) (by rw[ate]; omega);have g:∀ (c:Nat) (y:aY),c<4->l[c]? = some y->bo[c]? = some y:=fun c y ah aJ=>by
     rw[d4 c (cp (f c y ah aJ)) (by rcases dX with e | e; exact .inl e; exact .inr (by omega))]; exact f c y ah aJ
    have qa:=g 0 _ (by omega) cE;have c7:=g 1 _ (by omega) hC.q1;have dU:=g 2 _ (by omega) db;have qb:=g 3 _ (by omega) gh;have f2:=f 2 _ (by omega) db;have f0:=f 0 _ (by omega) cE;have f3:=f 3 _ (by omega) gh;have iX:=cp qb;refine c8.cb ?_;simp[f0,f2,f3,B7,bS,fH,d1,oe,F0];refine⟨⟨CP,SF⟩,c8.cb ?_⟩;have eQ:=yv bd.iv;have eG:=yv d2.gP;have ie:∀ c:aY,(bo.set 2 c)[2]? = some c:=fun c=>atj (by omega)
    have akn:∀ c:aY,(bo.set 2 c)[3]? = some (.cells s.parts.l.length (m9 bG)) :=fun c=>by rw[ato (by omega)]; exact qb
    have fV:b<r.ids.l.length:=b5;have bx:IntKind.i64.wrap ((b:Int)+1)=(b:Int)+1:=by rw[IntKind.wrap_i64]; omega
    have jM:j<bG.length:=by rw[iV.nl]; omega
    have q8:bg (m9 bG) j [U.int .i64 ((b:Int)+1)]=m9 (bG.set j (b+1)) :=by
     rw[XA (by unfold m9; simpa using jM)];unfold m9; rw[List.map_set]; rfl
    have akT:bg [bL,w2] 0 [ow]=[ow,w2] :=by simp
    have akU:bg [ow,w2] 1 [rF]=[ow,rF] :=by simp
    have kC:(O.map (·.1))++[x]=(O++[(x,o)]).map (·.1) :=by rw[atn]; rfl
    have K3:(O.map (·.2))++[o]=(O++[(x,o)]).map (·.2) :=by rw[atn]; rfl
    rw[kC,K3] at d2;simp[dU,ie,akn,eQ,eG,akT,akU,CP,bx,q8];refine⟨eO,by omega,by omega,⟨by simp,by simp,by simp,by simp,by simp⟩,bG.set j (b+1),O++[(x,o)],ow,rF,⟨?_,?_,?_,?_⟩,⟨vV,ye,?_⟩,Cx,by rw[as8,aen]; rfl⟩
    ·rw[ato (by omega),ato (by omega)]; exact qa
    ·rw[ato (by omega),ato (by omega)]; exact c7
    ·rw[ato (by omega)]; exact ie _
    ·exact atj (by simp; omega)
    ·exact d2.frame fun c ah _=>by rw[ato (by omega),ato (by omega)]
theorem abw (a b:dr) (aB:eu a) (af:eu b) (al:a.l.length<=1000000) :bA Tryz.prog GS 178 [aD a,aD b] (.bool (decide (a.l=b.l))) :=by
 refine bW Tryz.checked.mixed bl ?_;apply bq Tryz.func178 [];have np:cv (.aq 32) (aD a)=some (.int .i64 a.l.length) :=by simp[aD]
 have jN:cv (.aq 32) (aD b)=some (.int .i64 b.l.length) :=by simp[aD]
 by_cases ad:a.l.length=b.l.length
 ·have dH:((a.l.length:Int)=b.l.length) :=by omega
  simp[np,jN,ad];refine cB a.l.length (fun k σ l=>σ 0=aD a/\σ 1=aD b/\σ 12=.int .i64 a.l.length/\σ 13=.int .i64 k/\∀ j,j<k->a.l[j]? = b.l[j]?) ?_ (by simp[ad]);rintro k σ l ar ⟨ce,aO,lB,lC,ak⟩;obtain⟨σ,rfl⟩:=i2 ce aO lB lC;clear ce aO lB lC;simp;refine oX (fun h=>?_) (fun h=>?_)
  ·simp only[decide_eq_true_eq] at h;obtain⟨x,ag,dp⟩:=bP h;obtain⟨y,aJ,er⟩:=bP (l:=b.l) (k:=k) (by omega);have aQ:IntKind.i64.wrap ((k:Int)+1)=((k+1:Nat) :Int) :=by rw[IntKind.wrap_i64]; omega
   have bZ:cN (.aq 32) (aD a) (.int .i64 (k:Int))=some (.bK (a1 x) 0) :=by simp[aD,ag]
   have hc:cN (.aq 32) (aD b) (.int .i64 (k:Int))=some (.bK (a1 y) 0) :=by simp[aD,aJ]
   have bn:=de (aB x dp);have fA:=de (af y er);have bV:=yc (aB x dp) (af y er);obtain⟨X,cM⟩:∃ X,X=a1 x:=⟨_,rfl⟩
   obtain⟨Y,gX⟩:∃ Y,Y=a1 y:=⟨_,rfl⟩
   rw[<-cM] at bZ bn bV;rw[<-gX] at hc fA bV;simp[bZ,hc,bn,fA,as1,bV];by_cases am:x=y
   ·simp[am,aQ];refine⟨by omega,fun j ai=>?_⟩;by_cases gG:j=k
    ·subst gG; rw[ag,aJ,am]
    ·exact ak j (by omega)
   ·simp[am];refine aP (congrArg U.bool (decide_eq_false fun gY=>am ?_).symm) rfl;rw[gY,aJ] at ag; exact (Option.some.inj ag).symm
  ·simp[h];have qV:k=a.l.length:=by simp at h; omega
   refine aP (congrArg U.bool (decide_eq_true ?_).symm) rfl;apply atO;intro j;by_cases ai:j<a.l.length
   ·exact ak j (by omega)
   ·rw[atd (by omega),atd (by omega)]
 ·have dH:¬ ((a.l.length:Int)=b.l.length) :=by omega
  simp[np,jN,ad,dH];exact aP (by rw[decide_eq_false (fun gY=>ad (by rw[gY]))]) rfl
structure mo (s:en) :Prop where
 kh:1<=s.parts.l.length
 rq:s.parts.l.length<=4
 AH:wa s.parts.l=true
 wf:wV s.parts.l=true
 fb:hz (eL (e8 s))=0
 EK:s.dW=((e8 s).length:Int)
 bb:hU (eL (e8 s))=s.dq.l
noncomputable def uE (s:en) :Bool:=@decide (mo s) (Classical.propDecidable _)
theorem amu {s:en} (h:mo s) :uE s=true:=@decide_eq_true _ (Classical.propDecidable _) h
theorem amt {s:en} (h:¬ mo s) :uE s=false:=@decide_eq_false _ (Classical.propDecidable _) h
noncomputable def uF (s:en) :U:=.bv [c4 (if uE s=true then eL (e8 s) else ⟨none,none⟩),.int .i64 (if uE s=true then 0 else 8)]
theorem wW {s:en} (h:¬ mo s) :uF s=.bv [.aG [.aH,.aH],.int .i64 8] :=by unfold uF; rw[amt h]; rfl
theorem YB {s:en} (h:mo s) :uF s=.bv [c4 (eL (e8 s)),.int .i64 0] :=by unfold uF; rw[amu h]; rfl
theorem FN (l:List (List B × bp)) :(eL l).ids.l.length=l.length:=by unfold eL; simp only[ey]; rw[ate]
set_option maxHeartbeats 16000000 in
theorem amn (s:en) (ak:mY s) :bA Tryz.prog GS 134 [.aG (dD s)] (uF s) :=by
 refine bW Tryz.checked.mixed bl ?_;apply bq Tryz.func134 [];have gO:=yj s.parts;have TS:=ak.wb;have bS:(dD s).length=3:=rfl;have hb:(dD s).take 3=dD s:=rfl;have fH:∀ h,(dD s)[0]'h=j6 s.parts:=fun _=>rfl
 have Ki:(dD s)[1]? = some (aD s.dq) :=rfl;have zR:(dD s)[2]? = some (.int .i64 s.dW) :=rfl;have ju:∀ h,(dD s)[1]'h=aD s.dq:=fun _=>rfl
 have zO:∀ h,(dD s)[2]'h=.int .i64 s.dW:=fun _=>rfl
 have ha:=BQ s;by_cases ad:1<=s.parts.l.length
 ·by_cases aF:s.parts.l.length<=4
  ·have cP:¬ (s.parts.l.length:Int)<1:=by omega
   have fR:¬ (4:Int)<(s.parts.l.length:Int) :=by omega
   simp[bS,fH,gO,bg,cP,fR];refine cB s.parts.l.length (fun i σ l=>σ 1=.ptr 0 0 3/\σ 2=.ptr 1 0 2/\σ 4=.ptr 2 0 1/\σ 22=j6 s.parts/\σ 23=.int .i64 s.parts.l.length/\σ 24=.int .i64 i/\l[0]? = some (.cells 3 (dD s))/\l[1]? = some (.cells 2 [.aH,.aH])/\l[2]? = some (.cells 1 [.int .i64 s.parts.l.length])/\∀ (j:Nat) (p:bt),j<i->s.parts.l[j]? = some p->∀ x∈p.ids.l,num x s.parts.l.length=j) ?_ ⟨by simp,by simp,by simp,by simp,by simp,by simp,rfl,rfl,rfl,fun j _ ai=>by omega⟩;rintro i σ l az ⟨aO,aT,bi,zE,tj,vn,cE,q1,db,jL⟩;obtain⟨σ,rfl⟩:=wL aO aT bi zE tj vn;clear aO aT bi zE tj vn;have aQ:IntKind.i64.wrap ((i:Int)+1)=((i+1:Nat) :Int) :=by rw[IntKind.wrap_i64]; omega
   by_cases dS:i<s.parts.l.length
   ·obtain⟨p,av,g0⟩:=bP dS;obtain⟨h8,Lf,Lg⟩:=ak.parts p g0;have bZ:=so av;have iz:∀ h,(bX p)[0]'h=aD p.ids:=fun _=>rfl
    have jv:(bX p).length=2:=rfl;have tt:(bX p).take 2=bX p:=rfl;have x6:bg [U.aH,.aH] 0 (bX p)=bX p:=hu rfl;have iX:=cp db;obtain⟨L,eV⟩:∃ L,L=l++[aY.cells 1 [.int .i64 (i:Int)],aY.cells 2 (bX p)] :=⟨_,rfl⟩
    have pq:∀ (k:Nat) (c:aY),l[k]? = some c->L[k]? = some c:=fun k c h=>by rw[eV,as2 (cp h)]; exact h
    have amx:L[l.length]? = some (.cells 1 [.int .i64 (i:Int)]) :=by rw[eV]; simp
    have wp:L[l.length+1]? = some (.cells 2 (bX p)) :=by rw[eV]; simp
    have iB:=aiD s.parts.l.length i ad (by omega) (pq 2 _ db) amx p.ids.l h8.ids;simp[dS,bZ,jv,tt,x6,<-eV,wp,iz];refine Rl p.ids h8.ids h8.li (by kernel_rfl) iB fun bo am=>?_
    have iP:=am.2 1 (cp (pq 1 _ q1));cases SP:p.ids.l.any fun x=>!decide (num x s.parts.l.length=i) with
    | true=>
     obtain⟨x,ag,Uo⟩:=auM.1 SP;have cU:¬ mo s:=fun h=>by
      have aC:=h.AH;unfold wa at aC;rw[decide_eq_true_eq] at aC;have:=aC i dS x (by rw[hR av]; exact ag);rw[this] at Uo; simp at Uo
     rw[wW cU];have gA:bo[1]? = some (.cells 2 [.aH,.aH]) :=by rw[iP]; exact pq 1 _ q1
     have fU:∀ c:aY,(bo.set 1 c)[1]? = some c:=fun c=>atj (cp gA)
     simp[gA,fU,bg];exact aP rfl rfl
    | false=>
     simp[aQ];refine⟨dS,?_,?_,?_,fun j q ai bj x ag=>?_⟩
     ·rw[am.2 0 (cp (pq 0 _ cE))]; exact pq 0 _ cE
     ·rw[iP]; exact pq 1 _ q1
     ·rw[am.2 2 (cp (pq 2 _ db))]; exact pq 2 _ db
     ·by_cases jw:j=i
      ·subst jw;rw[av] at bj; obtain rfl:=Option.some.inj bj;have:=List.any_eq_false.1 SP x ag;simpa using this
      ·exact jL j q (by omega) bj x ag
   ·have cZ:i=s.parts.l.length:=by omega
    subst cZ;have se:wa s.parts.l=true:=by
     unfold wa;rw[decide_eq_true_eq];intro j ai x ag;obtain⟨p,av,_⟩:=bP ai;exact jL j p ai av x (by rw[hR av] at ag; exact ag)
    have aeE:=ahI s ak (VJ se);clear jL dS az aQ;simp[cE,bS,hb];refine a4 aeE (by simp[a5,U.closed,ha]) ?_;have fh:=cp db;cases aW:wV s.parts.l with
    | false=>
     have cU:¬ mo s:=fun h=>by have:=h.wf; rw[aW] at this; cases this
     rw[wW cU];unfold yo;rw[aW];have gA:∀ c:aY,(l++[c])[1]? = some (.cells 2 [.aH,.aH]) :=fun c=>by rw[as2 (cp q1)]; exact q1
     have fU:∀ c c' : aY,((l++[c]).set 1 c')[1]? = some c':=fun c c'=>atj (cp (gA c))
     have eQ:(aD none).cells=some [aD none] :=rfl;have eG:(bC none).cells=some [bC none] :=rfl;simp[c4,bX,bg,eQ,eG,gA,fU];exact aP rfl rfl
    | true=>
     have iC:g8 (eL (e8 s)) :=EN ak;have e2:=Yu _ iC;have Gt:=ame _ iC;obtain⟨g,aw⟩:∃ g,g=eL (e8 s) :=⟨_,rfl⟩
     have tG:g.ids.l.length=(e8 s).length:=by rw[aw]; exact FN _
     unfold yo;rw[aW,if_pos rfl];rw[<-aw] at iC e2 Gt ⊢;have gA:∀ c:aY,(l++[c])[1]? = some (.cells 2 [.aH,.aH]) :=fun c=>by rw[as2 (cp q1)]; exact q1
     have lZ:∀ c:aY,(l++[c])[0]? = some (.cells 3 (dD s)) :=fun c=>by rw[as2 (cp cE)]; exact cE
     have fU:∀ c c' : aY,((l++[c]).set 1 c')[1]? = some c':=fun c c'=>atj (cp (gA c))
     have eQ:=nU g.ids;have eG:=u6 g.ops;have fW:=dw g.ids;have eg:=lz g.ops;have cT:cv (.aq 32) (aD g.ids)=some (.int .i64 g.ids.l.length) :=by simp[aD]
     unfold c4 bX at e2 Gt;simp[c4,bX,bg,eQ,eG,lZ,gA];refine a4 e2 (by simp[a5,U.closed,fW,eg]) ?_;by_cases aI:hz g=0
     ·have ES:∀ (c:aY) (h:0<(l++[c]).length),(l++[c])[0]'h=.cells 3 (dD s) :=fun c h=>(as0.1 (lZ c)).2
      by_cases ap:s.dW=(g.ids.l.length:Int)
      ·have vK:aD (wU g)=aD (dk (hU g)) :=by unfold wU; rw[if_pos aI]
       have heq:=abw (dk (hU g)) s.dq (fun x ag=>by rw[ey] at ag; exact iC.ids x ((at6.1 ag).1)) ak.dq (by rw[ey]; exact atR (aul _ _) iC.li);rw[ey] at heq;have pL:=dw (dk (hU g));have cY:=dw s.dq;rw[vK,aI] at Gt;simp[aI,lZ,ES,bS,zR,zO,cT,ap];refine a4 Gt (by simp[a5,U.closed,fW,eg]) ?_;simp[lZ,ES,bS,Ki,ju];refine a4 heq (by simp[a5,pL,cY]) ?_;by_cases aR:hU g=s.dq.l
       ·have LM:mo s:=⟨ad,aF,se,aW,by rw[<-aw]; exact aI,by rw[ap,tG],by rw[<-aw]; exact aR⟩
        rw[YB LM,<-aw];simp[aR,gA,fU,bg];exact aP rfl (by simp[U.closed,a5]; exact te g)
       ·have cU:¬ mo s:=fun h=>aR (by rw[aw]; exact h.bb)
        rw[wW cU];simp[aR,gA,fU,bg];exact aP rfl rfl
      ·have cU:¬ mo s:=fun h=>ap (by rw[h.EK,tG])
       rw[wW cU];simp[aI,lZ,gA,fU,ES,bS,zR,zO,cT,ap,bg];exact aP rfl rfl
     ·have cU:¬ mo s:=fun h=>aI (by rw[aw]; exact h.fb)
      rw[wW cU];simp[aI,gA,fU,bg];exact aP rfl rfl
  ·have cP:¬ (s.parts.l.length:Int)<1:=by omega
   have fR:(4:Int)<(s.parts.l.length:Int) :=by omega
   rw[wW fun h=>aF h.rq];simp[bS,fH,gO,bg,cP,fR];exact aP rfl rfl
 ·have cP:(s.parts.l.length:Int)<1:=by omega
  rw[wW fun h=>ad h.kh];simp[bS,fH,gO,bg,cP];exact aP rfl rfl
theorem Wp (ops:List bp) (i:Nat) :eR (ops.map gj) i=eR ops i:=by
 unfold eR;rw[as5];cases ops[i]?<;>rfl
theorem wH (g:bt) :(gi g).ops.l=g.ops.l.map gj:=ey _
theorem aaj (ids:List (List B)) (ops:List bp) (out:List Nat) :pv ids (ops.map gj) out=pv ids ops out:=by
 funext i;unfold pv;rw[Wp]
theorem VO (ids:List (List B)) (ops:List bp) (out:List Nat) :jU ids (ops.map gj) out=jU ids ops out:=by unfold jU; rw[aaj,ate]
theorem V0 (ids:List (List B)) (ops:List bp) :∀ k,fT ids (ops.map gj) k=fT ids ops k
 | 0=>rfl
 | k+1=>by
  have aS:=V0 ids ops k;cases h:jU ids ops (fT ids ops k) with
  | none=>rw[HL h,HL (by rw[aS,VO]; exact h),aS]
  | some i=>rw[D8 h,D8 (by rw[aS,VO]; exact h),aS]
theorem akI (ids:List (List B)) (ops:List bp) :nI ids (ops.map gj)=nI ids ops:=by
 have ad:wi ids (ops.map gj)=wi ids ops:=by
  unfold wi;rw[decide_eq_decide];constructor
  ·intro h o au; exact h (gj o) (au6 au)
  ·intro h o au;obtain⟨dt,dE,rfl⟩:=atx.1 au;exact h dt dE
 have ae:o4 ids (ops.map gj)=o4 ids ops:=by unfold o4; rw[V0,ate]
 unfold nI;rw[ad,ae,ate]
theorem ach (g:bt) (k:Nat) :mB (gi g) k=mB g k:=by
 unfold mB;rw[wH,as5];rw[show (gi g).ids.l=g.ids.l from rfl];cases g.ops.l[k]?<;>cases g.ids.l[k]?<;>rfl
theorem aau (g:bt) :hz (gi g)=hz g:=by
 have ad:xw (gi g)=xw g:=by
  unfold xw;rw[decide_eq_decide,wH,ate];simp only[ach]
 unfold hz;rw[ad,wH,akI,ate];rfl
theorem ai4 (l:List (List B × bp)) :jj (gi (eL l))=l.map fun q=>(q.1,gj q.2) :=by
 unfold jj;rw[wH];unfold eL gi;simp only[ey,c3.AA]
 induction l with
 | nil=>rfl
 | cons a l aS=>simp only[atr,List.zip_cons_cons,aS]
theorem ab4 (g:bt) (x:List B) (m:Nat) :pE (gi g) x m=pE g x m:=by
 unfold pE;rw[decide_eq_decide];have h:∀ j,(jV (gi g).ops.l j).bh.l=(jV g.ops.l j).bh.l:=fun j=>by
  unfold jV;rw[wH,atf,atf,as5];cases g.ops.l[j]?<;>rfl
 constructor
 ·intro aR j ai; rw[<-h]; exact aR j ai
 ·intro aR j ai; rw[h]; exact aR j ai
theorem S5 (g:bt) :hU (gi g)=hU g:=by
 unfold hU;have h:∀ x,lH (gi g) x=lH g x:=fun x=>by
  show pE (gi g) x (gi g).ops.l.length=pE g x g.ops.l.length;rw[ab4,wH,ate]
 rw[funext h]; rfl
theorem aku (o:bp) :wy o (gj (gj o))=true:=by
 unfold wy gj; simp[j5,fx,U.beq]
def rz (l:List (List B × bp)) (n k:Nat) :List (List B × bp) :=(l.map fun q=>(q.1,gj q.2)).filter fun q=>decide (num q.1 n=k)
theorem aiS (l:List (List B × bp)) (n k:Nat) :jC (gi (eL l)) (mR (gi (eL l)) n k)=gi (eL (rz l n k)) :=by
 unfold jC lj rz;rw[aty,ai4];congr 2;refine List.filter_congr fun q bj=>?_
 rw[decide_eq_decide];unfold mR;rw[at6,decide_eq_true_eq];constructor
 ·exact fun h=>h.2
 ·intro h;refine⟨?_,h⟩;show q.1∈(gi (eL l)).ids.l;obtain⟨dQ,k7,rfl⟩:=atx.1 bj;unfold gi eL;simp only[ey,c3.AA];exact au6 k7
theorem Wm (l:List (List B × bp)) (n k:Nat) :(jC (gi (eL l)) (mR (gi (eL l)) n k)).ids.l=(rz l n k).map (·.1)/\(jC (gi (eL l)) (mR (gi (eL l)) n k)).ops.l=((rz l n k).map (·.2)).map gj:=by
 rw[aiS,wH];refine⟨?_,?_⟩
 ·unfold gi eL; simp only[ey,c3.AA]
 ·unfold eL; simp only[ey]
theorem Wn {l:List (List B × bp)} {n k:Nat} {q:List B × bp}:q∈rz l n k<->∃ dQ∈l,q=(dQ.1,gj dQ.2)/\num q.1 n=k:=by
 unfold rz;rw[at6,atx,decide_eq_true_eq];constructor
 ·rintro⟨⟨dQ,ad,rfl⟩,ae⟩; exact⟨dQ,ad,rfl,ae⟩
 ·rintro⟨dQ,ad,rfl,ae⟩; exact⟨⟨dQ,ad,rfl⟩,ae⟩
theorem Wo {l:List (List B × bp)} (h:l.Pairwise fun a b=>ib a.1 b.1=true) (n k:Nat) :(rz l n k).Pairwise fun a b=>ib a.1 b.1=true:=by
 unfold rz;have ae:(l.map fun q=>(q.1,gj q.2)).Pairwise fun a b=>ib a.1 b.1=true:=by rw[auY]; exact h
 exact ae.sublist List.filter_sublist
theorem EM (s:en) :e7 s=gi (eL (e8 s)) :=rfl
theorem Q5 (s:en) :hz (e7 s)=hz (eL (e8 s)) :=aau _
theorem akG {s:en} (h:mo s) :nH s=0:=by
 have W:uL s.parts.l:=⟨fun p av=>(Bk.1 h.wf p av).1,fun p av=>(Bk.1 h.wf p av).2,VJ h.AH⟩
 have se:=h.AH;unfold wa at se;rw[decide_eq_true_eq] at se;have kf:pa s (ot (e7 s) s.parts.l.length)=true:=by
  rw[yF];have GJ:(ot (e7 s) s.parts.l.length).parts.l=ld (e7 s) s.parts.l.length s.parts.l.length:=rfl;refine⟨by rw[GJ,uh],?_,?_,fun k ar=>?_⟩
  ·show s.dW=((e7 s).ids.l.length:Int)
   rw[h.EK]; congr 1; exact (FN (e8 s)).symm
  ·show s.dq.l=(dk (hU (e7 s))).l;rw[ey,EM,S5]; exact h.bb.symm
  ·rw[GJ,hR (Hz _ _ ar)];obtain⟨p,av,g0⟩:=bP ar;rw[hR av];obtain⟨aQ,bx⟩:=Wm (e8 s) s.parts.l.length k;rw[<-EM] at aQ bx;have tO:=se k ar;rw[hR av] at tO;have gZ:=W.len p g0;have x4:(jj p).map (fun q=>(q.1,gj q.2))=rz (e8 s) s.parts.l.length k:=by
    refine Wr ?_ (Wo (YA W) _ _) fun q=>?_
    ·rw[auY];have ae:=Nf (W.dA p g0);have aj:(jj p).map (·.1)=p.ids.l:=by unfold jj; rw[List.map_fst_zip (by omega)]
     rw[<-aj,auY] at ae;exact ae
    ·rw[Wn,atx];constructor
     ·rintro⟨dQ,k7,rfl⟩;obtain⟨a,aB⟩:=atc.1 k7;unfold jj at aB;rw[auw] at aB;exact⟨dQ,(N8 W dQ).2 ⟨p,g0,a,aB.1,aB.2⟩,rfl,tO dQ.1 (ata aB.1)⟩
     ·rintro⟨dQ,k7,rfl,aC⟩;obtain⟨r,ay,a,aB,af⟩:=(N8 W dQ).1 k7;obtain⟨j,ai⟩:=atc.1 ay;have:=se j (as0.1 ai).1 dQ.1 (by rw[hR ai]; exact ata aB);have gG:j=k:=by rw[<-this]; exact aC
      subst gG;rw[av] at ai; obtain rfl:=Option.some.inj ai;exact⟨dQ,ata (show (jj p)[a]? = some dQ by unfold jj; rw[auw]; exact⟨aB,af⟩),rfl⟩
   rw[<-x4] at aQ bx;have cP:((jj p).map fun q=>(q.1,gj q.2)).map (·.1)=p.ids.l:=by
    rw[auJ]; unfold jj; exact List.map_fst_zip (by omega)
   have dT:((jj p).map fun q=>(q.1,gj q.2)).map (·.2)=p.ops.l.map gj:=by
    rw[auJ];have:(jj p).map (·.2)=p.ops.l:=by unfold jj; exact List.map_snd_zip (by omega)
    rw[<-this,auJ]; rfl
   rw[cP] at aQ;rw[dT] at bx;unfold rB;rw[aQ,bx];simp only[ate,decide_true,aus,decide_eq_true_eq];intro j ai;obtain⟨o,au,_⟩:=bP ai;rw[ul au,ul (o:=gj (gj o)) (by rw[as5,as5,au]; rfl)];exact aku o
 unfold nH;rw[if_pos ⟨h.kh,h.rq⟩,if_pos ⟨by rw[Q5]; exact h.fb,kf⟩]
theorem amv {s:en} (h:nH s=0) :mo s:=by
 obtain⟨ad,aF,aI,kf⟩:=Xs h;obtain⟨_,db,gh,ur⟩:=(yF _ _).1 kf;have V:=AL aI;have GJ:(ot (e7 s) s.parts.l.length).parts.l=ld (e7 s) s.parts.l.length s.parts.l.length:=rfl;have key:∀ (k:Nat) (p:bt),s.parts.l[k]? = some p->p.ids.l=(rz (e8 s) s.parts.l.length k).map (·.1)/\p.ops.l.length=(rz (e8 s) s.parts.l.length k).length:=fun k p av=>by
  have ar:=(as0.1 av).1;have:=ur k ar;rw[GJ,hR (Hz _ _ ar),hR av] at this;unfold rB at this;simp only[as7,decide_eq_true_eq] at this;obtain⟨aQ,bx⟩:=Wm (e8 s) s.parts.l.length k;exact⟨by rw[this.1]; exact aQ,by rw[this.2.1,show (jC (e7 s) (mR (e7 s) s.parts.l.length k)).ops.l=_ from bx,ate,ate]⟩
 have pZ:(e8 s).Pairwise fun a b=>ib a.1 b.1=true:=by
  have ae:=Nf V.dA;have:(e7 s).ids.l=(e8 s).map (·.1) :=by rw[EM]; unfold gi eL; simp only[ey,c3.AA]
  rw[this,auY] at ae;exact ae
 refine⟨ad,aF,?_,?_,by rw[<-Q5]; exact aI,?_,?_⟩
 ·unfold wa;rw[decide_eq_true_eq];intro i az x ag;obtain⟨p,av,_⟩:=bP az;rw[hR av,(key i p av).1] at ag;obtain⟨q,bj,rfl⟩:=atx.1 ag;obtain⟨_,_,_,aC⟩:=Wn.1 bj;exact aC
 ·refine Bk.2 fun p av=>?_
  obtain⟨k,ar⟩:=atc.1 av;obtain⟨aQ,bx⟩:=key k p ar;refine⟨by rw[aQ,bx,ate],V8 ?_⟩;rw[aQ,auY];exact Wo pZ _ _
 ·rw[db];show ((e7 s).ids.l.length:Int)=_;congr 1; exact FN (e8 s)
 ·have:s.dq.l=(dk (hU (e7 s))).l:=gh;rw[this,ey,EM,S5]
theorem Xr (s:en) :nH s=0<->mo s:=⟨amv,akG⟩
theorem aaD (s:en) :(uF s).closed=true:=by
 unfold uF;have:=te (if uE s=true then eL (e8 s) else ⟨none,none⟩);simp[U.closed,a5,this]
theorem ama (s:en) (ak:mY s) :bA Tryz.prog GS 95 [.aG (dD s)] (uF s) :=by
 refine bW Tryz.checked.mixed bl ?_;apply bq Tryz.func95 [];have bS:(dD s).length=3:=rfl;have hb:(dD s).take 3=dD s:=rfl;have ha:=BQ s;have aW:=amn s ak;have kz:=aaD s;have LK:uF s=.bv [.aG [aD (if uE s=true then eL (e8 s) else ⟨none,none⟩).ids,bC (if uE s=true then eL (e8 s) else ⟨none,none⟩).ops],.int .i64 (if uE s=true then 0 else 8)] :=rfl;rw[LK] at aW kz ⊢;obtain⟨g,aw⟩:∃ g,g=if uE s=true then eL (e8 s) else ⟨none,none⟩:=⟨_,rfl⟩
 rw[<-aw] at aW kz ⊢;have eQ:=nU g.ids;have eG:=u6 g.ops;simp[bS,hb];refine a4 aW (by simp[a5,U.closed,ha]) ?_;simp[eQ,eG,bg];exact aP rfl kz
theorem aix (g:bt) (l:List (List B)) (i:Nat) :o3 (gi g) l i=o3 g l i:=by
 unfold o3;rw[wH,Wp]; rfl
theorem V2 (g:bt) (l:List (List B)) :ru (gi g) l=ru g l:=by
 unfold ru;simp only[aix]
theorem ak5 (s:fk) :hI s=0\/hI s=8:=by
 unfold hI;split
 ·split
  ·exact .inl rfl
  ·exact .inr rfl
 ·exact .inr rfl
structure rS (s:fk) :Prop where
 b0:1<=s.cap
 aae:s.cap<=40
 dR:mo s.dR
 EK:s.dR.dW<=s.cap
 le:(s.order.l.length:Int)=s.dR.dW
 ord:ru (eL (e8 s.dR)) s.order.l=true
theorem XG (s:fk) :hI s=0<->rS s:=by
 unfold hI;constructor
 ·intro h;split at h
  ·rename_i ad;split at h
   ·rename_i ae;exact⟨ad.1,ad.2.1,(Xr _).1 ad.2.2.1,ad.2.2.2.1,ad.2.2.2.2,by rw[<-V2]; exact ae⟩
   ·cases h
  ·cases h
 ·rintro⟨a2,bd,b4,e0,gB,ho⟩;rw[if_pos ⟨a2,bd,(Xr _).2 b4,e0,gB⟩,if_pos (by rw[EM,V2]; exact ho)]
noncomputable def yG (s:fk) :bt:=if hI s=0 then eL (e8 s.dR) else ⟨none,none⟩
noncomputable def uw (s:fk) :U:=.bv [c4 (yG s),.int .i64 (hI s)]
theorem A6 {s:fk} (h:¬ rS s) :uw s=.bv [.aG [.aH,.aH],.int .i64 8] :=by
 have aI:¬ hI s=0:=fun e=>h ((XG s).1 e)
 unfold uw yG;rw[if_neg aI,(ak5 s).resolve_left aI]; rfl
theorem akE {s:fk} (h:rS s) :uw s=.bv [c4 (eL (e8 s.dR)),.int .i64 0] :=by
 have aI:hI s=0:=(XG s).2 h;unfold uw yG;rw[if_pos aI,aI]
theorem abm (e:dr) (am:eu e) (al:e.l.length<=1000000) {l:ao} {be:Nat} (ad:l[be]? = some (.cells 1 [aD e])) (xs:List (List B)) (ag:∀ p∈xs,p.length=32) :
  EU 98 [.ptr be 0 1] l xs (fun p=>!decide (p∈e.l)) :=by
 intro p av l1 c6 K aU;apply bq Tryz.func98 [];have h8:=ag p av;have gZ:=de h8;have Le:=gK p;have q1:l1[be]? = some (.cells 1 [aD e]) :=by rw[c6.2 _ (cp ad)]; exact ad
 have aO:∀ c:aY,(l1++[c])[be]? = some (.cells 1 [aD e]) :=fun c=>by rw[as2 (cp q1)]; exact q1
 have CN:=dw e;have cZ:=It e am al p h8;simp[aO,gZ,as1];refine a4 cZ (by simp[a5,U.closed,CN,Le]) ?_;simp;exact aU _ ⟨by simp,fun b af=>as2 af⟩
theorem ZW (n k:Nat) (h:k<=n) :gV n n none (some (.int .i64 (k:Int))) (some (.int .i64 (k:Int)))=some (0,k,k) :=by
 have af:ku (.int .i64 (k:Int)) n=some k:=by
  show (if 0<=(k:Int)/\(k:Int)<=(n:Int) then some (k:Int).toNat else none)=some k;rw[if_pos ⟨by omega,by omega⟩]; simp
 have dX:ku (.int .i64 (k:Int)) k=some k:=by
  show (if 0<=(k:Int)/\(k:Int)<=(k:Int) then some (k:Int).toNat else none)=some k;rw[if_pos ⟨by omega,by omega⟩]; simp
 unfold gV;simp only[af,dX]
theorem alc {α:Type} {z:Nat} {enc:α->List U} {s:c3 α} {k:Nat} (h:k<=s.l.length) :fF (.aq z) (cA z enc s) none (some (.int .i64 (k:Int))) (some (.int .i64 (k:Int)))=some (cA z enc (gw s k)) :=by
 cases s with
 | none=>
  have:k=0:=by simpa using h
  subst this; rfl
 | some a=>
  have ar:k<=a.length:=h;simp only[fF,cA,if_true,ate,ZW _ _ ar,as9,auf,avh,gw,avp]
end Op

end Go.bY

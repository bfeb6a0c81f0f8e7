/-
  Indices (shards). The graph of an index, in the reference.
-/
import Derived.Test.YtidejmkknleijaaGreatDoorHk
set_option linter.unusedVariables false
set_option linter.unusedSimpArgs false
set_option linter.unnecessarySimpa false
namespace Go.bV
open Go Go.Proofs
set_option maxRecDepth 100000
namespace Op
open hp
theorem h6.W4 {l:ap} {cu b4:U} {e8 e9 n:Nat} {ids:List (List B)} {ops:List bu} (h:h6 l cu b4 e8 e9 n ids ops) {X:List U} {x:List B} (cW:X=a5 x) (ag:X.length=32) {c:Nat} (ah:l[c]? = some (.cells 32 X)) (aC:n<=l.length) (al:ids.length<=1000000) :
  ∃ v' cg l',gK l 32 32 cu (.aq 32 c 0 1 1 32)=some (v',l')/\h6 l' v' b4 cg e9 n (ids++[x]) ops/\l.length<=l'.length/\(∀ b,b<l.length->cu=.aG\/b≠e8->l'[b]? = l[b]?)/\(l.length<=cg\/(cu≠.aG/\cg=e8)) :=by
 have az:ci=140737488355328:=rfl;obtain⟨v',cg,l',a8,bh,b6,eW,gn,hH⟩:=yO (by_:=32) (x:=.aq 32 c 0 1 1 32) (xs:=[X]) h.jo (by simp[de,ah,ag,awR]) (by simp[ag]) (by omega) (by omega) (by rw[az]; simp; omega);have fD:cz v'=false:=by rw[hH]; simp
 have jz:v'≠.aG:=fun e=>by rw[e] at fD; cases fD
 have fl:n<=cg:=by
  rcases gn with e | ⟨aS,bt⟩ | e
  ·omega
  ·rw[bt]; exact h.cT.resolve_left aS
  ·exact absurd e jz
 refine⟨v',cg,l',a8,⟨?_,?_,by rw[fD]; simp,h.rj,.inr fl,h.dw,?_⟩,b6,eW,?_⟩
 ·rw[axc,axk,ayj,<-cW]; exact bh
 ·refine h.hB.jS ?_;rcases h.hB.lt with e | e
  ·exact .inl e
  ·by_cases fH:b4=.aG
   ·exact .inl fH
   ·refine .inr (eW _ e ?_);rcases h.ne with q | q | q
    ·exact .inl q
    ·exact absurd q fH
    ·exact .inr fun e=>q e.symm
 ·by_cases fH:b4=.aG
  ·exact .inr (.inl fH)
  ·refine .inr (.inr fun e=>?_);have ae:=h.hB.lt.resolve_left fH;rcases gn with q | ⟨q1,dn⟩ | q
   ·omega
   ·rcases h.ne with p | p | p
    ·exact q1 p
    ·exact fH p
    ·exact p (by omega)
   ·exact jz q
 ·rcases gn with e | ⟨aS,bt⟩ | e
  ·exact .inl e
  ·exact .inr ⟨aS,bt⟩
  ·exact absurd e jz
theorem h6.Yw {l:ap} {cu b4:U} {e8 e9 n:Nat} {ids:List (List B)} {ops:List bu} (h:h6 l cu b4 e8 e9 n ids ops) {O:List U} {o:bu} (eO:O=bd o) {c:Nat} (ah:l[c]? = some (.cells 11 O)) (aC:n<=l.length) (al:ops.length<=1000000) :
  ∃ v' cg l',gK l 11 112 b4 (.aq 11 c 0 1 1 11)=some (v',l')/\h6 l' cu v' e8 cg n ids (ops++[o])/\l.length<=l'.length/\(∀ b,b<l.length->b4=.aG\/b≠e9->l'[b]? = l[b]?) :=by
 have az:ci=140737488355328:=rfl;have ag:O.length=11:=by rw[eO]; rfl
 obtain⟨v',cg,l',a8,bh,b6,eW,gn,hH⟩:=yO (by_:=112) (x:=.aq 11 c 0 1 1 11) (xs:=[O]) h.hB (by simp[de,ah,ag,awR]) (by simp[ag]) (by omega) (by omega) (by rw[az]; simp; omega);have fD:cz v'=false:=by rw[hH]; simp
 have jz:v'≠.aG:=fun e=>by rw[e] at fD; cases fD
 have fl:n<=cg:=by
  rcases gn with e | ⟨aS,bt⟩ | e
  ·omega
  ·rw[bt]; exact h.dw.resolve_left aS
  ·exact absurd e jz
 refine⟨v',cg,l',a8,⟨?_,?_,h.jn,by rw[fD]; simp,h.cT,.inr fl,?_⟩,b6,eW⟩
 ·refine h.jo.jS ?_;rcases h.jo.lt with e | e
  ·exact .inl e
  ·by_cases fH:cu=.aG
   ·exact .inl fH
   ·refine .inr (eW _ e ?_);rcases h.ne with q | q | q
    ·exact absurd q fH
    ·exact .inl q
    ·exact .inr q
 ·rw[axc,axk,ayj,<-eO]; exact bh
 ·by_cases fH:cu=.aG
  ·exact .inl fH
  ·refine .inr (.inr fun e=>?_);have ae:=h.jo.lt.resolve_left fH;rcases gn with q | ⟨q1,dn⟩ | q
   ·omega
   ·rcases h.ne with p | p | p
    ·exact fH p
    ·exact q1 p
    ·exact p (by omega)
   ·exact jz q
structure eE where
 parts:b8 bz
 dF:dk
 a3:Int
def kI (s:b8 bz) :U:=cc 2 b3 s
def dS (s:eE) :List U:=[kI s.parts,aA s.dF,.int .i64 s.a3]
structure nO (s:eE) :Prop where
 parts:∀ g∈s.parts.l,ho g/\g.ids.l.length<=100/\g.ops.l.length<=100
 xS:s.parts.l.length<=10
 dF:ds s.dF
 OU:s.dF.l.length<=1000000
theorem A1 (s:b8 bz) :(kI s).closed=true:=uT A0 s
theorem DB (s:eE) :a4 (dS s)=true:=by simp[dS,a4,U.closed,A1,dd]
def lH (p:bz) (x:List B) :Option bu:=if 0<=hy x p.ids.l 0/\hy x p.ids.l 0<(p.ops.l.length:Int) then p.ops.l[(hy x p.ids.l 0).toNat]? else none
def hd (l:List bz) (k:Nat) :bz:=l.getD k ⟨none,none⟩
theorem ia {l:List bz} {k:Nat} {g:bz} (h:l[k]? = some g) :hd l k=g:=by unfold hd; rw[aw7,h]; rfl
def iF (ps:List bz) (x:List B) :Nat->List (List B × bu)
 | 0=>[]
 | k+1=>iF ps x k++match lH (hd ps k) x with | some o=>[(x,o)] | none=>[]
def j9 (ps:List bz) (ids:List (List B)) :Nat->List (List B × bu)
 | 0=>[]
 | i+1=>j9 ps ids i++iF ps (b2 ids i) ps.length
def ju (ps:List bz) :Nat->List (List B)
 | 0=>[]
 | k+1=>ju ps k++(hd ps k).ids.l
def hD (s:eE) :List (List B) :=CO (ju s.parts.l s.parts.l.length)
def fi (s:eE) :List (List B × bu) :=j9 s.parts.l (hD s) (hD s).length
def fh (s:eE) :bz:=gG (eX (fi s))
theorem K8 {ps:List bz} {x:List B}:∀ {k:Nat},k<=ps.length->(x∈ju ps k<->∃ j p,j<k/\ps[j]? = some p/\x∈p.ids.l)
 | 0,_=>⟨fun h=>(by cases h),fun ⟨j,p,ai,_⟩=>by omega⟩
 | k+1,ar=>by
  obtain⟨p,au,_⟩:=bJ (l:=ps) (k:=k) (by omega);show x∈ju ps k++(hd ps k).ids.l<->_;rw[axN,K8 (by omega),ia au];constructor
  ·rintro (⟨j,q,ad,ae⟩ | h)
   ·exact⟨j,q,by omega,ae⟩
   ·exact⟨k,p,by omega,au,h⟩
  ·rintro⟨j,q,ad,ae,aj⟩;by_cases e:j=k
   ·subst e; rw[au] at ae; obtain rfl:=Option.some.inj ae; exact .inr aj
   ·exact .inl ⟨j,q,by omega,ae,aj⟩
theorem Hc {s:eE} (h:nO s) :∀ {k:Nat},k<=s.parts.l.length->(ju s.parts.l k).length<=100*k
 | 0,_=>by simp[ju]
 | k+1,ar=>by
  obtain⟨p,au,hg⟩:=bJ (l:=s.parts.l) (k:=k) (by omega);have:=Hc h (k:=k) (by omega);have ae:=(h.parts p hg).2.1;show (ju s.parts.l k++(hd s.parts.l k).ids.l).length<=_;rw[awW,ia au]; omega
theorem Q6 {s:eE} (h:nO s) {k:Nat} (ar:k<=s.parts.l.length) :ds (dz (ju s.parts.l k)) :=fun x ag=>by
 rw[eI,K8 ar] at ag;obtain⟨j,p,_,au,ag⟩:=ag;exact (h.parts p (awY au)).1.ids x ag
theorem abm {s:eE} (h:nO s) :(hD s).length<=1000:=by
 unfold hD CO;have ad:=P4 (l:=ju s.parts.l s.parts.l.length) (k:=(ju s.parts.l s.parts.l.length).length);have ae:=Hc h (awU s.parts.l.length);have aj:=h.xS;omega
theorem abn {s:eE} (h:nO s) :ds (dz (hD s)) :=fun x ag=>by
 rw[eI] at ag;unfold hD at ag;rw[aak] at ag;exact Q6 h (awU _) x (by rw[eI]; exact ag)
theorem acw {p:bz} {x:List B} {o:bu} (h:lH p x=some o) :o∈p.ops.l:=by
 unfold lH at h;split at h
 ·exact awY h
 ·cases h
theorem KK {ps:List bz} {x:List B} {q:List B × bu}:∀ {k:Nat},k<=ps.length->(q∈iF ps x k<->∃ j p,j<k/\ps[j]? = some p/\lH p x=some q.2/\q.1=x)
 | 0,_=>⟨fun h=>(by cases h),fun ⟨j,p,ai,_⟩=>by omega⟩
 | k+1,ar=>by
  obtain⟨p,au,_⟩:=bJ (l:=ps) (k:=k) (by omega);show q∈iF ps x k++(match lH (hd ps k) x with | some o=>[(x,o)] | none=>[])<->_;rw[axN,KK (by omega),ia au];constructor
  ·rintro (⟨j,r,ad,ae⟩ | h)
   ·exact⟨j,r,by omega,ae⟩
   ·cases aE:lH p x with
    | none=>rw[aE] at h; cases h
    | some o=>
     rw[aE] at h;rw[axQ.1 h];exact⟨k,p,by omega,au,aE,rfl⟩
  ·rintro⟨j,r,ad,ae,aj,aD⟩;by_cases e:j=k
   ·subst e; rw[au] at ae; obtain rfl:=Option.some.inj ae;right; rw[aj]; simp[<-aD]
   ·exact .inl ⟨j,r,by omega,ae,aj,aD⟩
theorem KJ {ps:List bz} {ids:List (List B)} {q:List B × bu}:∀ {i:Nat},i<=ids.length->(q∈j9 ps ids i<->∃ a,a<i/\ids[a]? = some q.1/\∃ p∈ps,lH p q.1=some q.2)
 | 0,_=>⟨fun h=>(by cases h),fun ⟨j,ai,_⟩=>by omega⟩
 | i+1,ay=>by
  obtain⟨x,ag,_⟩:=bJ (l:=ids) (k:=i) (by omega);show q∈j9 ps ids i++iF ps (b2 ids i) ps.length<->_;rw[axN,KJ (by omega),gu ag,KK (awU _)];constructor
  ·rintro (⟨a,ad,ae⟩ | ⟨j,p,ad,ae,aj,aD⟩)
   ·exact⟨a,by omega,ae⟩
   ·exact⟨i,by omega,by rw[aD]; exact ag,p,awY ae,by rw[aD]; exact aj⟩
  ·rintro⟨a,ad,ae,p,aj,aD⟩;by_cases e:a=i
   ·subst e;rw[ag] at ae;have a2:=Option.some.inj ae;obtain⟨j,ai⟩:=aw3.1 aj;exact .inr ⟨j,p,(awQ.1 ai).1,ai,by rw[a2]; exact aD,a2.symm⟩
   ·exact .inl ⟨a,by omega,ae,p,aj,aD⟩
theorem abu {ps:List bz} {x:List B}:∀ {k:Nat},(iF ps x k).length<=k
 | 0=>by simp[iF]
 | k+1=>by
  have:=abu (ps:=ps) (x:=x) (k:=k);show (iF ps x k++(match lH (hd ps k) x with | some o=>[(x,o)] | none=>[])).length<=_;rw[awW];split<;>simp<;>omega
theorem abs {ps:List bz} {ids:List (List B)}:∀ {i:Nat},(j9 ps ids i).length<=ps.length*i
 | 0=>by simp[j9]
 | i+1=>by
  have ad:=abs (ps:=ps) (ids:=ids) (i:=i);have ae:=abu (ps:=ps) (x:=b2 ids i) (k:=ps.length);show (j9 ps ids i++iF ps (b2 ids i) ps.length).length<=_;rw[awW,Nat.mul_succ]; omega
theorem aqm {s:eE} (h:nO s) :(fi s).length<=10000:=by
 have ad:=abs (ps:=s.parts.l) (ids:=hD s) (i:=(hD s).length);have ae:=abm h;have aj:s.parts.l.length*(hD s).length<=10*1000:=Nat.mul_le_mul h.xS ae;unfold fi; omega
theorem GL {s:eE} (h:nO s) :ho (eX (fi s)) :=by
 have hm:∀ q∈fi s,q.1.length=32/\jr q.2:=fun q aN=>by
  obtain⟨a,ad,ae,p,aj,aD⟩:=(KJ (awU _)).1 aN;exact⟨abn h q.1 (by rw[eI]; exact awY ae),(h.parts p aj).1.ops _ (acw aD)⟩
 exact Mb (fun q aN=>(hm q aN).1) (fun q aN=>(hm q aN).2) (by have:=aqm h; omega)
theorem zU (s:b8 bz) :cp (.aq 2) (kI s)=some (.int .i64 s.l.length) :=by simp[kI]
theorem tR {s:b8 bz} {k:Nat} {g:bz} (h:s.l[k]? = some g) :cN (.aq 2) (kI s) (.int .i64 (k:Int))=some (.bM (b3 g) 0) :=by simp[kI,h]
theorem al3 {α:Type} {z:Nat} {enc:α->List U} {l:ap} {v:U} {j:Nat} {xs:List α} (s:b8 α) (h:bL z l v j (xs.map enc)) (aC:cz v=s.isNone) (ak:s.l=xs) {f:FuncId} {K:U->ap->Prop}
  (ah:∀ br,br.length=l.length->(∀ b,v=.aG\/b≠j->br[b]? = l[b]?)->c5 Tryz.prog GS f [cc z enc s] br (c:=⟨K⟩)) :c5 Tryz.prog GS f [v] l (c:=⟨K⟩) :=by
 obtain⟨l1,bO,da,aS,f1⟩:=F1 s h aC ak;refine Dx Tryz.checked.mixed bj (args2:=[cc z enc s]) bO (by omega) rfl (fun j c b7 ad ae=>?_) (ah l1 aS f1);obtain⟨rfl,rfl⟩:=Bp ad;obtain⟨_,rfl⟩:=Bp ae;exact da
structure acf (s:eE) (k:Nat) (σ:bc) (l:ap) :Prop where
 aK:σ 1=.ptr 0 0 3
 aW:σ 2=.ptr 1 0 2
 bi:σ 4=.int .i64 k
 ex:∃ v j rest,l=.cells 3 (dS s) ::.cells 2 [.aG,.aG] ::rest/\σ 3=v/\bL 32 l v j ((ju s.parts.l k).map a5)/\(v=.aG\/2<=j)/\cz v=(ju s.parts.l k).isEmpty
structure QW (s:eE) (b:Nat) (i m:Nat) (out:List (List B × bu)) (σ:bc) (l:ap) :Prop where
 aK:σ 1=.ptr 0 0 3
 aW:σ 2=.ptr 1 0 2
 a6:σ 3=aA (dz (hD s))
 bm:σ 5=.ptr b 0 2
 cD:σ 6=.int .i64 i
 cI:l[0]? = some (.cells 3 (dS s))
 q1:l[1]? = some (.cells 2 [.aG,.aG])
 ex:∃ cu b4 e8 e9,l[b]? = some (.cells 2 [cu,b4])/\h6 l cu b4 e8 e9 (b+1) (out.map (·.1)) (out.map (·.2))/\out.length<=m
set_option maxHeartbeats 16000000 in
theorem Zs (s:eE) (ak:nO s) :bw Tryz.prog GS 50 [.aH (dS s)] (df (fh s)) :=by
 refine bQ Tryz.checked.mixed bj ?_;apply bn Tryz.func50 [[],[[0],[1],[2],[3],[4],[5],[6],[8],[9],[10],[11],[12],[13],[14],[15],[16],[17],[18],[19],[7,19,18,15,11,9],[21],[20]]];have az:ci=140737488355328:=rfl;have g7:=zU s.parts;have Wm:=ak.xS;have bW:(dS s).length=3:=rfl;have fU:∀ h,(dS s)[0]'h=kI s.parts:=fun _=>rfl
 simp[bW];refine cl s.parts.l.length (acf s) ?_ ⟨by simp,by simp,by simp,.aG,0,[],rfl,by simp,.nil 0,.inl rfl,rfl⟩;rintro k σ l ar ⟨aK,aW,bi,v,j,rest,rfl,a6,gC,ai,gM⟩;obtain⟨σ,rfl⟩:=ij aK aW a6 bi;clear aK aW a6 bi;have aS:IntKind.i64.wrap ((k:Int)+1)=((k+1:Nat) :Int) :=by rw[IntKind.wrap_i64]; omega
 by_cases bD:k<s.parts.l.length
 ·obtain⟨p,au,hg⟩:=bJ bD;have iw:=(ak.parts p hg).1;have fv:=(ak.parts p hg).2.1;have bT:=tR au;have ic:=Hc ak (ayz bD);have bE:ju s.parts.l (k+1)=ju s.parts.l k++p.ids.l:=by show ju s.parts.l k++(hd s.parts.l k).ids.l=_; rw[ia au]
  have lM:∀ h,(b3 p)[0]'h=aA p.ids:=fun _=>rfl
  have jV:(b3 p).length=2:=rfl;obtain⟨v',cg,r',a8,bh,b6,eW⟩:=wz (by_:=32) (pre:=[.cells 3 (dS s),.cells 2 [.aG,.aG]]) (rest:=rest) gC ai (x:=aA p.ids) (xs:=p.ids.l.map a5)
   (by simp[aA]) (fun e am=>by obtain⟨y,aI,rfl⟩:=axi.1 am; exact dq (iw.ids y aI)) (by omega) (by omega) (by rw[az]; simp; omega)
  simp only[axK,axT] at a8;simp[bW,fU,g7,bD,bT,lM,jV,a8];refine cU.b1 ?_;simp[aS];refine⟨bD,by simp,by simp,by simp,v',cg,r',rfl,by simp,?_,by simpa using b6,?_⟩
  ·rw[bE,axc]; exact bh
  ·rw[eW,gM,bE];cases ju s.parts.l k<;>cases p.ids.l<;>simp
 ·have e6:k=s.parts.l.length:=by omega
  subst e6;clear ar bD aS;have ic:=Hc ak (awU s.parts.l.length);have j0:=ang (dz (ju s.parts.l s.parts.l.length)) (Q6 ak (awU _)) (by rw[eI]; omega);rw[eI] at j0;change bw _ _ _ _ (aA (dz (hD s))) at j0;have r8:=dd (dz (ju s.parts.l s.parts.l.length));have ec:=abm ak;have o8:=abn ak;simp[bW,fU,g7];refine al3 (dz (ju s.parts.l s.parts.l.length)) gC (by rw[ur]; exact gM) (eI _) (fun br bt f2=>?_);have kx:br[0]? = some (.cells 3 (dS s)) :=by rw[f2 0 (by rcases ai with e | e; exact .inl e; exact .inr (by omega))]; rfl
  have iA:br[1]? = some (.cells 2 [.aG,.aG]) :=by rw[f2 1 (by rcases ai with e | e; exact .inl e; exact .inr (by omega))]; rfl
  have ej:2<=br.length:=by rw[bt]; simp
  clear f2 gC ai gM;refine a7 j0 (by simp[a4]; exact r8) ?_;simp;obtain⟨b,af⟩:∃ b,b=br.length:=⟨_,rfl⟩
  have asO:2<=b:=by omega
  have dO:cp (.aq 32) (aA (dz (hD s)))=some (.int .i64 (hD s).length) :=by simp[aA,eI]
  refine cl (hD s).length (fun i σ l=>QW s b i (10*i) (j9 s.parts.l (hD s) i) σ l/\b<l.length) ?_ ⟨⟨by simp,by simp,by simp,by simp[af],by simp,by rw[awS (by omega)]; exact kx,by rw[awS (by omega)]; exact iA,.aG,.aG,0,0,by rw[af]; simp,by simpa [j9] using OZ _ _,by simp[j9]⟩,by simp[af]⟩;rintro i σ l ay ⟨⟨aK,aW,a6,bm,cD,cI,q1,cu,b4,e8,e9,uh,jl,dP⟩,gq⟩;obtain⟨σ,rfl⟩:=k1 aK aW a6 bm cD;clear aK aW a6 bm cD;have aS:IntKind.i64.wrap ((i:Int)+1)=((i+1:Nat) :Int) :=by rw[IntKind.wrap_i64]; omega
  by_cases MS:i<(hD s).length
  ·obtain⟨x,ag,c3⟩:=bJ MS;have e7:=o8 x (by rw[eI]; exact c3);have bp:=dq e7;have fW:=g2 x;have ed:cN (.aq 32) (aA (dz (hD s))) (.int .i64 (i:Int))=some (.bM (a5 x) 0) :=by simp[aA,eI,ag]
   obtain⟨X,cW⟩:∃ X,X=a5 x:=⟨_,rfl⟩
   have Mu:X=a5 x:=cW;rw[<-cW] at bp fW ed;have hJ:X.take 32=X:=awR (by omega);have iU:bf (rep 32 (.int .u8 0)) 0 X=X:=gw (by rw[bp]; rfl);simp[dO,MS];refine cl s.parts.l.length (fun k σ l=>(QW s b i (10*i+k) (j9 s.parts.l (hD s) i++iF s.parts.l x k) σ l/\σ 7=.int .i64 k)/\b<l.length) ?_ ⟨⟨⟨by simp,by simp,by simp,by simp,by simp,cI,q1,cu,b4,e8,e9,uh,by simpa [iF] using jl,by simpa [iF] using dP⟩,by simp⟩,gq⟩;clear jl dP uh cI q1 gq;rintro k σ l ar ⟨⟨⟨aK,aW,a6,bm,cD,cI,q1,cu,b4,e8,e9,uh,jl,dP⟩,ei⟩,gq⟩;obtain⟨σ,rfl⟩:=we aK aW a6 bm cD ei;clear aK aW a6 bm cD ei;have bt:IntKind.i64.wrap ((k:Int)+1)=((k+1:Nat) :Int) :=by rw[IntKind.wrap_i64]; omega
   by_cases bD:k<s.parts.l.length
   ·obtain⟨p,au,hg⟩:=bJ bD;obtain⟨iw,Ns,tI⟩:=ak.parts p hg;have bT:=tR au;have lM:∀ h,(b3 p)[0]'h=aA p.ids:=fun _=>rfl
    have pL:∀ h,(b3 p)[1]'h=bF p.ops:=fun _=>rfl
    have jV:(b3 p).length=2:=rfl;have nr:=dd p.ids;have cG:cp (.aq 11) (bF p.ops)=some (.int .i64 p.ops.l.length) :=by simp[bF]
    have eP:=CB p.ids iw.ids iw.li x e7;have bE:iF s.parts.l x (k+1)=iF s.parts.l x k++match lH p x with | some o=>[(x,o)] | none=>[] :=by
     show iF s.parts.l x k++(match lH (hd s.parts.l k) x with | some o=>[(x,o)] | none=>[])=_;rw[ia au]
    have H9:lH p x=if 0<=hy x p.ids.l 0/\hy x p.ids.l 0<(p.ops.l.length:Int) then p.ops.l[(hy x p.ids.l 0).toNat]? else none:=rfl
    obtain⟨eZ,ahi⟩:∃ eZ,eZ=hy x p.ids.l 0:=⟨_,rfl⟩
    rw[<-ahi] at eP H9;rw[<-cW] at eP;have X3:0<l.length:=cd cI;simp[cI,bW,fU,g7,bD,bT,lM,pL,jV,ed,bp,hJ];refine a7 eP (by simp[a4,U.closed,nr,fW]) ?_;by_cases c7:0<=eZ/\eZ<(p.ops.l.length:Int)
    ·obtain⟨ad,ae⟩:=c7;obtain⟨a,rfl⟩:=axY ad;have e5:a<p.ops.l.length:=by omega
     obtain⟨o,av,eQ⟩:=bJ e5;rw[if_pos ⟨ad,ae⟩,axq,av] at H9;rw[H9] at bE;have hv:cN (.aq 11) (bF p.ops) (.int .i64 (a:Int))=some (.bM (bd o) 0) :=by simp[bF,av]
     have pb:(bd o).length=11:=rfl;obtain⟨O,eO⟩:∃ O,O=bd o:=⟨_,rfl⟩
     rw[<-eO] at hv pb;have HY:O.take 11=O:=awR (by omega);have so:bf [U.int .u32 0,.aG,.int .u64 0,.int .u8 0,.str [],.int .u8 0,.int .i64 0,.int .u64 0,.str [],.int .u32 0,.int .u32 0] 0 O=O:=gw (by rw[pb]; rfl);have asD:l.length<=1000000000000\/True:=.inr trivial;have g9:∀ m:ap,(l++m)[0]? = some (.cells 3 (dS s)) :=fun m=>by rw[awS X3]; exact cI
     have aqi:∀ (m:ap) (h:0<(l++m).length),(l++m)[0]'h=.cells 3 (dS s) :=fun m h=>(awQ.1 (g9 m)).2
     have aqe:∀ m:ap,(l++m)[b]? = some (.cells 2 [cu,b4]) :=fun m=>by rw[awS gq]; exact uh
     have agb:b+1<=(l++[aV.cells 32 X,.cells 11 O]).length:=by simp; omega
     have Nl:h6 (l++[aV.cells 32 X,.cells 11 O]) cu b4 e8 e9 (b+1) ((j9 s.parts.l (hD s) i++iF s.parts.l x k).map (·.1)) ((j9 s.parts.l (hD s) i++iF s.parts.l x k).map (·.2)) :=jl.frame fun c _ ah=>awS ah
     have jY:(j9 s.parts.l (hD s) i++iF s.parts.l x k).length<=1000000:=by omega
     obtain⟨pt,xA,l1,a8,bh,b6,eW,gn⟩:=Nl.W4 (c:=l.length) Mu bp (by simp) agb (by rw[aw1]; exact jY);have bZ:=jl.jo.lt;have f:∀ c,c<l.length->cu=.aG\/c≠e8->l1[c]? = l[c]?:=fun c ah xj=>by rw[eW c (by simp; omega) xj,awS ah]
     have DS:l1[l.length+1]? = some (.cells 11 O) :=by
      rw[eW (l.length+1) (by simp) (by rcases bZ with e | e; exact .inl e; exact .inr (by omega))]; simp
     have gB:cu=.aG\/b+1<=e8:=jl.cT;have f0:l1[0]? = some (.cells 3 (dS s)) :=by rw[f 0 X3 (by rcases gB with e | e; exact .inl e; exact .inr (by omega))]; exact cI
     have f1:l1[1]? = some (.cells 2 [.aG,.aG]) :=by rw[f 1 (cd q1) (by rcases gB with e | e; exact .inl e; exact .inr (by omega))]; exact q1
     have L1:l1[b]? = some (.cells 2 [cu,b4]) :=by rw[f b gq (by rcases gB with e | e; exact .inl e; exact .inr (by omega))]; exact uh
     have agk:=cd L1;obtain⟨sW,zO,br,bS,b7,hR,go⟩:=bh.Yw (c:=l.length+1) eO DS (by omega) (by rw[aw1]; exact jY);have ej:b4=.aG\/b+1<=e9:=jl.dw;have ck:br[0]? = some (.cells 3 (dS s)) :=by rw[go 0 (cd f0) (by rcases ej with e | e; exact .inl e; exact .inr (by omega))]; exact f0
     have aK:br[1]? = some (.cells 2 [.aG,.aG]) :=by rw[go 1 (cd f1) (by rcases ej with e | e; exact .inl e; exact .inr (by omega))]; exact f1
     have UL:br[b]? = some (.cells 2 [cu,b4]) :=by rw[go b agk (by rcases ej with e | e; exact .inl e; exact .inr (by omega))]; exact L1
     have agl:=cd UL;have gs:∀ y:aV,(br.set b y)[b]? = some y:=fun y=>axb agl
     simp[cI,uh,g9,aqi,aqe,bW,fU,bT,lM,pL,jV,cG,ad,ae,e5,ed,bp,hJ,iU,hv,pb,HY,so,a8];refine cU.b1 ?_;have afH:(b3 p)[1]? = some (bF p.ops) :=rfl;simp[f0,L1,DS,bW,fU,bS,pb,HY,afH];refine cU.b1 ?_;have e0:=z6 bh.jo;have eR:=z6 b7.hB;simp[UL,gs,e0,eR,bf,bt];have WH:j9 s.parts.l (hD s) i++iF s.parts.l x (k+1)=(j9 s.parts.l (hD s) i++iF s.parts.l x k)++[(x,o)] :=by rw[bE,axH]
     have ahY:∀ y:aV,h6 (br.set b y) pt sW xA zO (b+1) ((j9 s.parts.l (hD s) i++iF s.parts.l x (k+1)).map (·.1)) ((j9 s.parts.l (hD s) i++iF s.parts.l x (k+1)).map (·.2)) :=fun y=>by
      have hm:∀ Z:List (List B × bu),(Z++[(x,o)]).map (·.1)=Z.map (·.1)++[x]/\(Z++[(x,o)]).map (·.2)=Z.map (·.2)++[o] :=fun Z=>⟨by rw[axc]; rfl,by rw[axc]; rfl⟩
      rw[WH,(hm _).1,(hm _).2];exact b7.frame fun c ah _=>axg (Nat.ne_of_lt ah)
     exact⟨bD,⟨by simp,by simp,by simp,by simp,by simp,by rw[axg (by omega)]; exact ck,by rw[axg (by omega)]; exact aK,pt,sW,xA,zO,gs _,ahY _,by rw[WH,awW,List.length_singleton]; omega⟩,by omega⟩
    ·have cR:lH p x=none:=by rw[H9,if_neg c7]
     rw[cR,axr] at bE;have tz:(decide (0<=eZ)&&decide (eZ<(p.ops.l.length:Int)))=false:=by
      cases h:(decide (0<=eZ)&&decide (eZ<(p.ops.l.length:Int))) with
      | false=>rfl
      | true=>rw[awZ,decide_eq_true_eq,decide_eq_true_eq] at h; exact absurd h c7
     by_cases ad:0<=eZ
     ·have ae:¬ eZ<(p.ops.l.length:Int) :=fun h=>c7 ⟨ad,h⟩
      simp[cI,bW,fU,bT,lM,pL,jV,cG,ad,ae,bt];exact⟨bD,⟨by simp,by simp,by simp,by simp,by simp,cI,q1,cu,b4,e8,e9,uh,by rw[bE]; exact jl,by rw[bE]; omega⟩,gq⟩
     ·simp[ad,bt];exact⟨bD,⟨by simp,by simp,by simp,by simp,by simp,cI,q1,cu,b4,e8,e9,uh,by rw[bE]; exact jl,by rw[bE]; omega⟩,gq⟩
   ·have e6:k=s.parts.l.length:=by omega
    subst e6;have tL:j9 s.parts.l (hD s) (i+1)=j9 s.parts.l (hD s) i++iF s.parts.l x s.parts.l.length:=by
     show j9 s.parts.l (hD s) i++iF s.parts.l (b2 (hD s) i) s.parts.l.length=_;rw[gu ag]
    simp[cI,bW,fU,g7,aS];exact⟨MS,⟨by simp,by simp,by simp,by simp,by simp,cI,q1,cu,b4,e8,e9,uh,by rw[tL]; exact jl,by rw[tL]; omega⟩,gq⟩
  ·have c7:i=(hD s).length:=by omega
   subst c7;have tM:=Zr _ (GL ak);change bw _ _ _ _ (df (fh s)) at tM;have e0:=nf (fh s).ids;have eR:=wL (fh s).ops;have bS:=dd (fh s).ids;have b7:=mc (fh s).ops;have hR:=dd (dz ((fi s).map (·.1)));have go:=mc (dz ((fi s).map (·.2)));unfold df b3 at tM;simp[dO,uh];refine jl.call fun gE da dj=>?_
   have c0:gE[1]? = some (.cells 2 [.aG,.aG]) :=by rw[dj 1 (by omega)]; exact q1
   have Ah:=cd c0;have gs:∀ y:aV,(gE.set 1 y)[1]? = some y:=fun y=>axb Ah
   refine a7 tM (by simp[a4,U.closed]; exact⟨hR,go⟩) ?_;simp[c0,gs,e0,eR,bf];exact aU rfl (show (U.aH [aA (fh s).ids,bF (fh s).ops]).closed=true by simp[U.closed,a4,bS,b7])
theorem al4 {α:Type} {z:Nat} {enc:α->List U} {l:ap} {a v:U} {j:Nat} {xs:List α} (s:b8 α) (h:bL z l v j (xs.map enc)) (aC:cz v=s.isNone) (ak:s.l=xs) {f:FuncId} {K:U->ap->Prop}
  (ah:∀ br,br.length=l.length->(∀ b,v=.aG\/b≠j->br[b]? = l[b]?)->c5 Tryz.prog GS f [a,cc z enc s] br (c:=⟨K⟩)) :c5 Tryz.prog GS f [a,v] l (c:=⟨K⟩) :=by
 obtain⟨l1,bO,da,aS,f1⟩:=F1 s h aC ak;refine Dx Tryz.checked.mixed bj (args2:=[a,cc z enc s]) bO (by omega) rfl (fun j c b7 ad ae=>?_) (ah l1 aS f1);rcases qT ad with ⟨rfl,rfl⟩ | ⟨rfl,rfl⟩
 ·rcases qT ae with ⟨_,rfl⟩ | ⟨h,_⟩
  ·exact .same _
  ·omega
 ·rcases qT ae with ⟨h,_⟩ | ⟨_,rfl⟩
  ·omega
  ·exact da
def num (x:List B) (n:Nat) :Nat:=(x.getD 0 0).toNat % n
def nG (g:bz) (n i:Nat) :List (List B) :=g.ids.l.filter fun x=>decide (num x n=i)
def lW (g:bz) (n:Nat) :Nat->List bz
 | 0=>[]
 | i+1=>lW g n i++[j6 g (nG g n i)]
theorem vT (g:bz) (n:Nat) :∀ i,(lW g n i).length=i
 | 0=>rfl
 | i+1=>by show (lW g n i++_).length=_; rw[awW,vT g n i]; rfl
theorem JE (g:bz) (n:Nat) :∀ {i k:Nat},k<i->(lW g n i)[k]? = some (j6 g (nG g n k))
 | i+1,k,ar=>by
  show (lW g n i++_)[k]? = _;by_cases h:k<i
  ·rw[awS (by rw[vT]; exact h)]; exact JE g n h
  ·have:k=i:=by omega
   subst this;rw[aw6 (by rw[vT]; exact awU _),vT]; simp
def pm (g:bz) (n:Nat) :eE:=⟨some (lW g n n),dz (ie g),g.ids.l.length⟩
theorem Yl {x:List B} (ag:x.length=32) :∃ b r,x=b::r/\num x=fun n=>b.toNat % n:=by
 cases x with
 | nil=>cases ag
 | cons b r=>exact⟨b,r,rfl,rfl⟩
theorem YI {z by_:Nat} {l:ap} {w:U} {fE n c:Nat} {es:List (List U)} {X:List U} (h:bL z l w fE es) (af:w=.aG\/n<=fE) (aC:n<=l.length) (ah:l[c]? = some (.cells z X)) (cW:X.length=z) (aJ:z≠0) (dM:by_≠0) (dC:(es.length+1)*by_<=ci) :
  ∃ w' tW l',gK l z by_ w (.aq z c 0 1 1 z)=some (w',l')/\bL z l' w' tW (es++[X])/\cz w'=false/\n<=tW/\l.length<=l'.length/\(∀ b,b<l.length->w=.aG\/b≠fE->l'[b]? = l[b]?)/\(l.length<=tW\/(w≠.aG/\tW=fE)) :=by
 obtain⟨v',cg,l',a8,bh,b6,eW,gn,hH⟩:=yO (by_:=by_) (x:=.aq z c 0 1 1 z) (xs:=[X]) h (by simp[de,ah,cW,awR]) (by simp[cW]) aJ dM (by simpa using dC);have fD:cz v'=false:=by rw[hH]; simp
 have jz:v'≠.aG:=fun e=>by rw[e] at fD; cases fD
 refine⟨v',cg,l',a8,bh,fD,?_,b6,eW,?_⟩
 ·rcases gn with e | ⟨aS,bt⟩ | e
  ·omega
  ·rw[bt]; exact af.resolve_left aS
  ·exact absurd e jz
 ·rcases gn with e | ⟨aS,bt⟩ | e
  ·exact .inl e
  ·exact .inr ⟨aS,bt⟩
  ·exact absurd e jz
theorem al8 {z:Nat} {l l' : ap} {w v:U} {fE tW j:Nat} {es:List (List U)} (o:bL z l v j es) (ne:w=.aG\/v=.aG\/fE≠j) (iq:∀ b,b<l.length->w=.aG\/b≠fE->l'[b]? = l[b]?) (aeU:l.length<=tW\/(w≠.aG/\tW=fE)) :bL z l' v j es/\(v=.aG\/tW≠j) :=by
 by_cases ao:v=.aG
 ·refine⟨?_,.inl ao⟩;subst ao;have:=o.q.OV;subst this;exact .nil _
 ·have ai:=o.lt.resolve_left ao;have xj:w=.aG\/j≠fE:=by
   rcases ne with q | q | q
   ·exact .inl q
   ·exact absurd q ao
   ·exact .inr fun e=>q e.symm
  refine⟨o.jS (.inr (iq j ai xj)),.inr fun e=>?_⟩;rcases aeU with q | ⟨q1,dn⟩
  ·omega
  ·rcases xj with p | p
   ·exact q1 p
   ·exact p (by omega)
structure abZ (g:bz) (n i:Nat) (σ:bc) (l:ap) :Prop where
 aK:σ 1=.int .i64 n
 aW:σ 2=.ptr 0 0 2
 bi:σ 4=.ptr 1 0 3
 bm:σ 5=.ptr 2 0 3
 cD:σ 6=.int .i64 i
 ex:∃ v j rest,l=.cells 2 [aA g.ids,bF g.ops] ::.cells 3 [.aG,.aG,.int .i64 0] ::.cells 3 [v,aA (dz (ie g)),.int .i64 g.ids.l.length] ::rest/\bL 2 l v j ((lW g n i).map b3)/\(v=.aG\/3<=j)/\cz v=(lW g n i).isEmpty
structure ab0 (g:bz) (n i:Nat) (v:U) (j:Nat) (k:Nat) (σ:bc) (l:ap) :Prop where
 aK:σ 1=.int .i64 n
 aW:σ 2=.ptr 0 0 2
 bi:σ 4=.ptr 1 0 3
 bm:σ 5=.ptr 2 0 3
 cD:σ 6=.int .i64 i
 fT:σ 8=.int .i64 k
 ex:∃ w fE rest,l=.cells 2 [aA g.ids,bF g.ops] ::.cells 3 [.aG,.aG,.int .i64 0] ::.cells 3 [v,aA (dz (ie g)),.int .i64 g.ids.l.length] ::rest/\bL 2 l v j ((lW g n i).map b3)/\σ 7=w ∧
  bL 32 l w fE (((g.ids.l.take k).filter fun x=>decide (num x n=i)).map a5)/\(w=.aG\/3<=fE)/\cz w=((g.ids.l.take k).filter fun x=>decide (num x n=i)).isEmpty/\(w=.aG\/v=.aG\/fE≠j)
set_option maxHeartbeats 16000000 in
theorem am1 (g:bz) (ax:ho g) (aJ:hS g=0) (n:Nat) (pS:1<=n) (vt:n<=100) :bw Tryz.prog GS 92 [df g,.int .i64 n] (.aH (dS (pm g n))) :=by
 refine bQ Tryz.checked.mixed bj ?_;apply bn Tryz.func92 [[[0],[2],[3],[4],[6],[1,6,3],[5]],[[0],[1],[2],[3],[4,1]]];have az:ci=140737488355328:=rfl;have V:=Ct aJ;have Nc:=V.n60;have kp:=V.len;have fF:=dd g.ids;have ez:=mc g.ops;have dO:cp (.aq 32) (aA g.ids)=some (.int .i64 g.ids.l.length) :=by simp[aA]
 have WK:=ani g ax aJ;have akZ:=nf (dz (ie g));unfold df b3 at WK;simp[df,b3,dO];refine a7 WK (by simp[a4,U.closed,fF,ez]) ?_;simp[akZ,bf];refine cl n (abZ g n) ?_ ⟨by simp,by simp,by simp,by simp,by simp,.aG,0,[],rfl,.nil 0,.inl rfl,rfl⟩;rintro i σ l ay ⟨aK,aW,bi,bm,cD,v,j,rest,rfl,gC,ai,gM⟩;obtain⟨σ,rfl⟩:=k1 aK aW bi bm cD;clear aK aW bi bm cD;have aS:IntKind.i64.wrap ((i:Int)+1)=((i+1:Nat) :Int) :=by rw[IntKind.wrap_i64]; omega
 by_cases c7:i<n
 ·simp[c7];refine cl g.ids.l.length (ab0 g n i v j) ?_ ⟨by simp,by simp,by simp,by simp,by simp,by simp,.aG,0,rest,rfl,gC,by simp,.nil 0,.inl rfl,rfl,.inl rfl⟩;clear gC;rintro k σ l ar ⟨aK,aW,bi,bm,cD,fT,w,fE,rest,rfl,gC,ei,aP,BL,BS,bY⟩;obtain⟨σ,rfl⟩:=Qr aK aW bi bm cD ei fT;clear aK aW bi bm cD ei fT;have bt:IntKind.i64.wrap ((k:Int)+1)=((k+1:Nat) :Int) :=by rw[IntKind.wrap_i64]; omega
  by_cases bD:k<g.ids.l.length
  ·obtain⟨x,ag,c3⟩:=bJ bD;have e7:=ax.ids x c3;have bp:=dq e7;have bT:cN (.aq 32) (aA g.ids) (.int .i64 (k:Int))=some (.bM (a5 x) 0) :=by simp[aA,ag]
   have bE:g.ids.l.take (k+1)=g.ids.l.take k++[x] :=by rw[axe,ag]; rfl
   obtain⟨oU,r,Jf,oj⟩:=Yl e7;have Em:∀ h,(a5 x)[0]'h=bC oU:=fun h=>by subst Jf; rfl
   have Eu:oU.toNat<256:=oU.isLt;have sq:IntKind.i64.wrap (u oU)=(oU.toNat:Int) :=by unfold u; rw[IntKind.wrap_i64]; omega
   have BC:=AP oU.toNat (n:Int) (by omega)
   rw[axq] at BC;obtain⟨X,cW⟩:∃ X,X=a5 x:=⟨_,rfl⟩
   rw[<-cW] at bp bT;simp only[<-cW] at Em;have hJ:X.take 32=X:=awR (by omega);have iU:bf (rep 32 (.int .u8 0)) 0 X=X:=gw (by rw[bp]; rfl);have aN:((oU.toNat:Int) % (n:Int)=(i:Int))<->num x n=i:=by
    rw[oj,<-Int.natCast_emod];exact⟨fun h=>Int.ofNat.inj h,fun h=>by rw[<-h]⟩
   have hu:((g.ids.l.take k).filter fun x=>decide (num x n=i)).length<=1000000:=axy (ax7 _ _) (by rw[axd]; omega);by_cases zu:num x n=i
   ·have tL:(g.ids.l.take (k+1)).filter (fun x=>decide (num x n=i))=(g.ids.l.take k).filter (fun x=>decide (num x n=i))++[x] :=by rw[bE,ax9]; simp[zu]
    obtain⟨w',tW,l',a8,bh,b6,eW,gn,hH,G8⟩:=YI (by_:=32) (n:=3) (c:=rest.length+1+1+1) (aP.more [aV.cells 32 X]) BL (by simp) (by simp) bp (by omega) (by omega) (by rw[az]; simp; omega);obtain⟨cT,dw⟩:=al8 (gC.more [aV.cells 32 X]) bY hH G8;have iq:∀ b,b<3->l'[b]? = (aV.cells 2 [aA g.ids,bF g.ops] ::aV.cells 3 [.aG,.aG,.int .i64 0] ::aV.cells 3 [v,aA (dz (ie g)),.int .i64 g.ids.l.length] ::rest)[b]?:=fun b af=>by
     rw[hH b (by simp; omega) (by rcases BL with e | e; exact .inl e; exact .inr (by omega)),awS (by simp; omega)]
    obtain⟨r',rfl⟩:=wc (iq 0 (by omega)) (iq 1 (by omega)) (iq 2 (by omega));simp only[axK] at a8;simp[dO,bD,bT,bp,Em,sq,BC,aN,zu,hJ,iU,a8];refine cU.b1 ?_;simp[bt];refine⟨bD,by simp,by simp,by simp,by simp,by simp,by simp,w',tW,r',rfl,cT,by simp,?_,.inr eW,by rw[tL,b6]; simp,?_⟩
    ·rw[tL,axc,axk,ayj,<-cW]; exact bh
    ·exact .inr dw
   ·have tL:(g.ids.l.take (k+1)).filter (fun x=>decide (num x n=i))=(g.ids.l.take k).filter (fun x=>decide (num x n=i)) :=by rw[bE,ax9]; simp[zu]
    simp[dO,bD,bT,bp,Em,sq,BC,aN,zu,bt];exact⟨by simp,by simp,by simp,by simp,by simp,by simp,w,fE,rest,rfl,gC,by simp,by rw[tL]; exact aP,BL,by rw[tL]; exact BS,bY⟩
  ·have e6:k=g.ids.l.length:=by omega
   subst e6;rw[axo] at aP BS;change bL 32 _ w fE ((nG g n i).map a5) at aP;change cz w=(nG g n i).isEmpty at BS;have pV:=am5 g ax (by omega) (dz (nG g n i)) (fun x ag=>by rw[eI] at ag; exact ax.ids x (ax0.1 ag).1) (by rw[eI]; have:=ax7 (fun x=>decide (num x n=i)) g.ids.l; unfold nG; omega) (by omega);rw[eI] at pV;have ft:=dd (dz (nG g n i));have bE:lW g n (i+1)=lW g n i++[j6 g (nG g n i)] :=rfl;have kP:=vT g n i;unfold df b3 at pV;obtain⟨Q,jf⟩:∃ Q,Q=b3 (j6 g (nG g n i)) :=⟨_,rfl⟩
   have n4:Q.length=2:=by rw[jf]; rfl
   have afV:Q.take 2=Q:=awR (by omega);have afU:bf [U.aG,.aG] 0 Q=Q:=gw (by rw[n4]; rfl);change bw _ _ _ _ (.aH (b3 (j6 g (nG g n i)))) at pV;rw[<-jf] at pV;simp[dO];refine al4 (dz (nG g n i)) aP (by rw[ur]; exact BS) (eI _) (fun br f1 f2=>?_);have zy:bL 2 br v j ((lW g n i).map b3) :=gC.jS (by
    rcases bY with q | q | q
    ·exact .inr (f2 j (.inl q))
    ·exact .inl q
    ·exact .inr (f2 j (.inr fun e=>q e.symm)))
   have iq:∀ b,b<3->br[b]? = (aV.cells 2 [aA g.ids,bF g.ops] ::aV.cells 3 [.aG,.aG,.int .i64 0] ::aV.cells 3 [v,aA (dz (ie g)),.int .i64 g.ids.l.length] ::rest)[b]?:=fun b af=>f2 b (by rcases BL with e | e; exact .inl e; exact .inr (by omega))
   obtain⟨dj,rfl⟩:=wc (iq 0 (by omega)) (iq 1 (by omega)) (iq 2 (by omega));refine a7 pV (by simp[a4,U.closed,fF,ez]; exact ft) ?_;obtain⟨v',cg,l',a8,bh,b6,eW,gn,hH,G8⟩:=YI (by_:=48) (n:=3) (c:=dj.length+1+1+1) (zy.more [aV.cells 2 Q]) ai (by simp) (by simp) n4 (by omega) (by omega) (by rw[az]; simp; omega);have L6:∀ b,b<3->l'[b]? = (aV.cells 2 [aA g.ids,bF g.ops] ::aV.cells 3 [.aG,.aG,.int .i64 0] ::aV.cells 3 [v,aA (dz (ie g)),.int .i64 g.ids.l.length] ::dj)[b]?:=fun b af=>by
    rw[hH b (by simp; omega) (by rcases ai with e | e; exact .inl e; exact .inr (by omega)),awS (by simp; omega)]
   obtain⟨rs,rfl⟩:=wc (L6 0 (by omega)) (L6 1 (by omega)) (L6 2 (by omega));simp only[axK] at a8;simp[n4,afV,afU,a8];refine cU.b1 ?_;have p0:=z6 bh;simp[p0,bf,aS];refine⟨c7,by simp,by simp,by simp,by simp,by simp,v',cg,rs,rfl,?_,.inr eW,by rw[b6,bE]; simp⟩;rw[bE,axc,axk,ayj,<-jf];refine bh.jS (.inr ?_);obtain⟨gD,rfl⟩:∃ gD,cg=gD+3:=⟨cg - 3,by omega⟩
   rfl
 ·have aha:i=n:=by omega
  subst aha;simp;have mn:eK (aV.cells 2 [aA g.ids,bF g.ops] ::aV.cells 3 [v,aA (dz (ie g)),.int .i64 g.ids.l.length] ::aV.cells 3 [v,aA (dz (ie g)),.int .i64 g.ids.l.length] ::rest) v (kI (some (lW g i i))) :=by
   refine (gC.jS (l':=aV.cells 2 [aA g.ids,bF g.ops] ::aV.cells 3 [v,aA (dz (ie g)),.int .i64 g.ids.l.length] ::aV.cells 3 [v,aA (dz (ie g)),.int .i64 g.ids.l.length] ::rest) ?_).q.Ac A0 (some (lW g i i)) ?_ rfl
   ·rcases ai with h | h
    ·exact .inl h
    ·right;obtain⟨gD,rfl⟩:∃ gD,j=gD+3:=⟨j - 3,by omega⟩
     rfl
   ·rw[gM];have:=vT g i i;cases hm:lW g i i with
    | nil=>rw[hm] at this; simp at this; omega
    | cons=>rfl
  have qW:=dd (dz (ie g));refine .aH _ _ rfl fun j c c' ah cP=>?_
  rcases j with _ | _ | _ | j
  ·simp[dS,pm] at ah cP; subst ah cP; exact mn
  ·simp[dS,pm] at ah cP; subst ah cP; exact .same _ qW
  ·simp[dS,pm] at ah cP; subst ah cP; exact .same _ rfl
  ·simp at ah
structure G3 (s:eE) :Prop where
 parts:∀ g∈s.parts.l,ho g
 xS:s.parts.l.length<=1000000
 dF:ds s.dF
 OU:s.dF.l.length<=1000000
theorem nO.w {s:eE} (h:nO s) :G3 s:=⟨fun g ax=>(h.parts g ax).1,by have:=h.xS; omega,h.dF,h.OU⟩
def qh (a b:eE) :Bool:=decide (a.parts.l.length=b.parts.l.length)&&(decide (a.a3=b.a3)&&(decide (a.dF.l=b.dF.l)&&decide (∀ k,k<a.parts.l.length->sS (hd a.parts.l k) (hd b.parts.l k)=true)))
theorem Ai (a b:eE) :qh a b=true<->a.parts.l.length=b.parts.l.length/\a.a3=b.a3/\a.dF.l=b.dF.l/\∀ k,k<a.parts.l.length->sS (hd a.parts.l k) (hd b.parts.l k)=true:=by
 unfold qh;simp only[awZ,decide_eq_true_eq]
set_option maxHeartbeats 8000000 in
theorem ana (a b:eE) (aE:G3 a) (af:G3 b) :bw Tryz.prog GS 52 [.aH (dS a),.aH (dS b)] (.bool (qh a b)) :=by
 refine bQ Tryz.checked.mixed bj ?_;apply bn Tryz.func52 [];have oe:=zU a.parts;have kj:=zU b.parts;have nr:=A1 a.parts;have asU:=A1 b.parts;have qW:=dd a.dF;have lQ:=dd b.dF;have kN:=PT a.dF b.dF aE.dF af.dF aE.OU;by_cases ad:a.parts.l.length=b.parts.l.length
 ·by_cases ae:a.a3=b.a3
  ·by_cases aj:a.dF.l=b.dF.l
   ·simp[dS,oe,kj,ad,ae];refine a7 kN (by simp[a4,U.closed,qW,lQ]) ?_;simp[aj];refine cl a.parts.l.length (fun k σ l=>l=[.cells 3 [kI a.parts,aA a.dF,.int .i64 a.a3],.cells 3 [kI b.parts,aA b.dF,.int .i64 b.a3]]/\σ 2=.ptr 0 0 3/\σ 3=.ptr 1 0 3/\σ 5=.int .i64 k/\∀ j,j<k->sS (hd a.parts.l j) (hd b.parts.l j)=true) ?_ ⟨by simp[ae],by simp,by simp,by simp,fun j ai=>by omega⟩;rintro k σ l ar ⟨rfl,aW,a6,bm,ak⟩;obtain⟨σ,rfl⟩:=lC aW a6 bm;clear aW a6 bm;have aS:IntKind.i64.wrap ((k:Int)+1)=((k+1:Nat) :Int) :=by rw[IntKind.wrap_i64]; have:=aE.xS; omega
    by_cases bD:k<a.parts.l.length
    ·obtain⟨p,au,hg⟩:=bJ bD;obtain⟨q,aN,sj⟩:=bJ (l:=b.parts.l) (k:=k) (by omega);have bT:=tR au;have hv:=tR aN;have I8:=am8 p q (aE.parts p hg) (af.parts q sj);have ahq:k<b.parts.l.length:=by omega
     have jV:(b3 p).length=2:=rfl;have U1:(b3 q).length=2:=rfl;have Ee:=A0 p;have U0:=A0 q;have lR:=ia au;have VL:=ia aN;change bw _ _ _ [.aH (b3 p),.aH (b3 q)] _ at I8;obtain⟨uB,pL⟩:∃ uB,uB=b3 p:=⟨_,rfl⟩
     obtain⟨GY,afI⟩:∃ GY,GY=b3 q:=⟨_,rfl⟩
     rw[<-pL] at bT I8 jV Ee;rw[<-afI] at hv I8 U1 U0;have t1:uB.take 2=uB:=awR (by omega);have t2:GY.take 2=GY:=awR (by omega);simp[oe,kj,bD,ahq,bT,hv,jV,U1,t1,t2];refine a7 I8 (by simp[a4,U.closed,Ee,U0]) ?_;cases kR:sS p q with
     | true=>
      simp[aS];refine⟨bD,fun j ai=>?_⟩;by_cases fu:j=k
      ·subst fu; rw[lR,VL]; exact kR
      ·exact ak j (by omega)
     | false=>
      have aF:qh a b=false:=ayF.2 fun h=>by
       have:=((Ai a b).1 h).2.2.2 k bD;rw[lR,VL,kR] at this; cases this
      simp;exact aU (congrArg U.bool aF.symm) rfl
    ·have e6:k=a.parts.l.length:=by omega
     subst e6;have aX:qh a b=true:=(Ai a b).2 ⟨ad,ae,aj,ak⟩;simp[oe];exact aU (congrArg U.bool aX.symm) rfl
   ·have aF:qh a b=false:=ayF.2 fun h=>aj ((Ai a b).1 h).2.2.1
    simp[dS,oe,kj,ad,ae];refine a7 kN (by simp[a4,U.closed,qW,lQ]) ?_;simp[aj];exact aU (congrArg U.bool aF.symm) rfl
  ·have aF:qh a b=false:=ayF.2 fun h=>ae ((Ai a b).1 h).2.1
   simp[dS,oe,kj,ad,ae];exact aU (congrArg U.bool aF.symm) rfl
 ·have aF:qh a b=false:=ayF.2 fun h=>ad ((Ai a b).1 h).1
  have dX:¬ (a.parts.l.length:Int)=b.parts.l.length:=by omega
  simp[dS,oe,kj,ad,dX];exact aU (congrArg U.bool aF.symm) rfl
theorem ame {g:bz} (ax:ho g) (L:List (List B)) :ho (j6 g L) :=by
 unfold j6;refine aaW (Mb (fun p au=>ax.ids _ (JZ (axp (ax0.1 au).1)).1) (fun p au=>ax.ops _ (JZ (axp (ax0.1 au).1)).2) ?_);have ad:=Y5 (g:=g) (L:=L) (k:=(jH g).length);have ae:(jH g).length<=g.ids.l.length:=by unfold jH; rw[List.length_zip]; omega
 have:=ax.li;omega
theorem akM {g:bz} (ax:ho g) {n:Nat} (aC:n<=1000) :G3 (pm g n) :=by
 refine⟨fun p au=>?_,?_,fun x ag=>?_,?_⟩
 ·have iL:p∈lW g n n:=au;obtain⟨k,ar⟩:=aw3.1 iL;have bD:=(awQ.1 ar).1;rw[vT] at bD;rw[JE g n bD] at ar;obtain rfl:=Option.some.inj ar;exact ame ax _
 ·show (lW g n n).length<=_;rw[vT]; omega
 ·have mU:x∈(dz (ie g)).l:=ag;rw[eI] at mU;exact ax.ids x (ax0.1 mU).1
 ·show (dz (ie g)).l.length<=_;rw[eI];have:=ax7 (mi g) g.ids.l;have:=ax.li;unfold ie; omega
theorem abo {s:eE} (h:nO s) :ho (fh s) :=aaW (GL h)
noncomputable def oG (s:eE) :Int:=if 1<=s.parts.l.length/\s.parts.l.length<=4 then (if hS (fh s)=0/\qh s (pm (fh s) s.parts.l.length)=true then 0 else 8) else 8
set_option maxHeartbeats 8000000 in
theorem anc (s:eE) (ak:nO s) :bw Tryz.prog GS 58 [.aH (dS s)] (.int .i64 (oG s)) :=by
 refine bQ Tryz.checked.mixed bj ?_;apply bn Tryz.func58 [[[0],[1],[2],[3],[4],[5],[6],[7],[8],[9,4]]];have g7:=zU s.parts;have bW:(dS s).length=3:=rfl;have fU:∀ h,(dS s)[0]'h=kI s.parts:=fun _=>rfl
 have ib:=DB s;have iI:(dS s).take 3=dS s:=rfl;by_cases ad:1<=s.parts.l.length
 ·by_cases aD:s.parts.l.length<=4
  ·have cX:¬ (s.parts.l.length:Int)<1:=by omega
   have gj:¬ (4:Int)<(s.parts.l.length:Int) :=by omega
   have NZ:¬ 4<s.parts.l.length:=by omega
   have aP:=Zs s ak;have xX:=abo ak;have fc:=amT (fh s) xX;have e0:=nf (fh s).ids;have eR:=wL (fh s).ops;have bS:=dd (fh s).ids;have b7:=mc (fh s).ops;unfold df b3 at aP fc;have dh:oG s=if hS (fh s)=0/\qh s (pm (fh s) s.parts.l.length)=true then 0 else 8:=by unfold oG; rw[if_pos ⟨ad,aD⟩]
   simp[bW,fU,iI,g7,cX,gj,NZ];refine a7 aP (by simp[a4,U.closed,ib]) ?_;simp[bf];refine a7 fc (by simp[a4,U.closed,bS,b7]) ?_;by_cases aJ:hS (fh s)=0
   ·have hm:=am1 (fh s) xX aJ s.parts.l.length ad (by omega);have kR:=ana s (pm (fh s) s.parts.l.length) ak.w (akM xX (by omega));have Mo:=DB (pm (fh s) s.parts.l.length);unfold df b3 at hm;simp[aJ,bW,fU,iI,g7];refine a7 hm (by simp[a4,U.closed,bS,b7]) ?_;simp[bW,iI];refine a7 kR (by simp[a4,U.closed,ib,Mo]) ?_;cases af:qh s (pm (fh s) s.parts.l.length) with
    | true=>
     rw[af,if_pos ⟨aJ,rfl⟩] at dh;rw[dh];simp;exact aU rfl rfl
    | false=>
     rw[af,if_neg (by simp)] at dh;rw[dh];simp;exact aU rfl rfl
   ·rw[if_neg (fun h=>aJ h.1)] at dh;rw[dh];simp[aJ];exact aU rfl rfl
  ·have dh:oG s=8:=by unfold oG; rw[if_neg (fun h=>aD h.2)]
   have cX:¬ (s.parts.l.length:Int)<1:=by omega
   have gj:(4:Int)<(s.parts.l.length:Int) :=by omega
   have NZ:4<s.parts.l.length:=by omega
   rw[dh];simp[bW,fU,g7,cX,gj,NZ];exact aU rfl rfl
 ·have dh:oG s=8:=by unfold oG; rw[if_neg (fun h=>ad h.1)]
  have cX:(s.parts.l.length:Int)<1:=by omega
  rw[dh];simp[bW,fU,g7,cX];exact aU rfl rfl
structure gd where
 cap:Int
 ef:eE
 order:dk
def dL (s:gd) :List U:=[.int .i64 s.cap,kI s.ef.parts,aA s.ef.dF,.int .i64 s.ef.a3,aA s.order]
structure uF (s:gd) :Prop where
 ef:nO s.ef
 order:ds s.order
 no:s.order.l.length<=1000
theorem yS (s:gd) :a4 (dL s)=true:=by simp[dL,a4,U.closed,A1,dd]
def p8 (g:bz) (l:List (List B)) (i:Nat) :Bool:=decide (b2 l i∈g.ids.l)&&(!decide (b2 l i∈l.take i)&&na (l.take i) (e1 g.ops.l (hy (b2 l i) g.ids.l 0).toNat))
def sJ (g:bz) (l:List (List B)) :Bool:=decide (∀ i,i<l.length->p8 g l i=true)
noncomputable def g8 (s:gd) :Int:=if 1<=s.cap/\s.cap<=40/\oG s.ef=0/\s.ef.a3<=s.cap/\(s.order.l.length:Int)=s.ef.a3 then (if sJ (fh s.ef) s.order.l=true then 0 else 8) else 8
theorem aac {s:eE} (h:oG s=0) :1<=s.parts.l.length/\s.parts.l.length<=4/\hS (fh s)=0/\qh s (pm (fh s) s.parts.l.length)=true:=by
 unfold oG at h;split at h
 ·rename_i ad;split at h
  ·rename_i ae; exact⟨ad.1,ad.2,ae⟩
  ·cases h
 ·cases h
theorem ajB {x:List B} {l:List (List B)} {i:Nat} (ay:l[i]? = some x) :hy x l 0<(i:Int)<->x∈l.take i:=by
 obtain⟨n,aC,ag,zs⟩:∃ n:Nat,hy x l 0=(n:Int)/\l[n]? = some x/\∀ (j:Nat) (y:List B),j<n->l[j]? = some y->y≠x:=by
  have key:∀ (m:Nat),l[m]? = some x->∃ n:Nat,l[n]? = some x/\∀ (j:Nat) (y:List B),j<n->l[j]? = some y->y≠x:=by
   intro m
   induction m using Nat.strongRecOn with
   | _ m aR=>
    intro hm;by_cases h:∃ j,j<m/\l[j]? = some x
    ·obtain⟨j,ai,IG⟩:=h;exact aR j ai IG
    ·exact⟨m,hm,fun j y ai aI e=>h ⟨j,ai,by rw[aI,e]⟩⟩
  obtain⟨n,ad,ae⟩:=key i ay;exact⟨n,by have:=Fv (n:=0) ad ae; simpa using this,ad,ae⟩
 rw[aC];constructor
 ·intro h;have h' : n<i:=by omega
  exact aw3.2 ⟨n,by rw[axm h']; exact ag⟩
 ·intro h;obtain⟨k,ar⟩:=aw3.1 h;have bD:=(awQ.1 ar).1;rw[axd] at bD;rw[axm (by omega)] at ar;by_cases e:n<=k
  ·omega
  ·exact absurd rfl (zs k x (by omega) ar)
theorem Jn {l:List (List B)} (ai:oO l) {i:Nat} {x:List B} (ay:l[i]? = some x) :hy x l 0=(i:Int) :=by
 have:=Fv (n:=0) ay (fun j y jW aI e=>by rw[e] at aI; have:=ai j i x aI ay; omega);simpa using this
theorem aiY (a:dk) {k:Nat} (h:k<=a.l.length) :fm (.aq 32) (aA a) none (some (.int .i64 (k:Int))) none=some (aA (kz a k)) :=aaF h
set_option maxHeartbeats 16000000 in
theorem anh (s:gd) (ak:uF s) :bw Tryz.prog GS 31 [.aH (dL s)] (.int .i64 (g8 s)) :=by
 refine bQ Tryz.checked.mixed bj ?_;apply bn Tryz.func31 [[],[[0],[1],[2],[3],[4],[5],[6],[7],[8],[9],[11],[10]]];have cG:cp (.aq 32) (aA s.order)=some (.int .i64 s.order.l.length) :=by simp[aA]
 have n5:=anc s.ef ak.ef;have zb:=A1 s.ef.parts;have za:=dd s.ef.dF;have ez:=dd s.order;have cR:=ak.no;unfold dS at n5;by_cases ad:1<=s.cap
 ·by_cases ae:s.cap<=40
  ·have cX:¬ s.cap<1:=by omega
   have dY:¬ (40:Int)<s.cap:=by omega
   by_cases aj:oG s.ef=0
   ·by_cases aD:s.ef.a3<=s.cap
    ·have gj:¬ s.cap<s.ef.a3:=by omega
     by_cases a2:(s.order.l.length:Int)=s.ef.a3
     ·obtain⟨_,_,aJ,_⟩:=aac aj;have V:=Ct aJ;have xX:=abo ak.ef;have kp:=V.len;have Nc:=V.n60;have aP:=Zs s.ef ak.ef;have dh:g8 s=if sJ (fh s.ef) s.order.l=true then 0 else 8:=by unfold g8; rw[if_pos ⟨ad,ae,aj,aD,a2⟩]
      have hK:∀ i,i<s.order.l.length->p8 (fh s.ef) s.order.l i=false->g8 s=8:=fun i ay aF=>by
       rw[dh,if_neg];unfold sJ;rw[decide_eq_true_eq];intro h;have:=h i ay;rw[aF] at this; cases this
      have e0:=nf (fh s.ef).ids;have eR:=wL (fh s.ef).ops;have bS:=dd (fh s.ef).ids;unfold df b3 dS at aP;obtain⟨g,ax⟩:∃ g,g=fh s.ef:=⟨_,rfl⟩
      rw[<-ax] at aP xX kp Nc e0 eR bS hK V dh aJ;simp[dL,cX,dY];refine a7 n5 (by simp[a4,U.closed,zb,za]) ?_;simp[aj,gj,cG,a2];refine a7 aP (by simp[a4,U.closed,zb,za]) ?_;simp[bf];refine cl s.order.l.length (fun k σ l=>l=[.cells 5 [.int .i64 s.cap,kI s.ef.parts,aA s.ef.dF,.int .i64 s.ef.a3,aA s.order],.cells 2 [aA g.ids,bF g.ops]]/\σ 1=.ptr 0 0 5/\σ 3=.ptr 1 0 2/\σ 4=.int .i64 k/\∀ j,j<k->p8 g s.order.l j=true) ?_ ⟨rfl,by simp,by simp,by simp,fun j ai=>by omega⟩;rintro k σ l ar ⟨rfl,aK,a6,bi,jj⟩;obtain⟨σ,rfl⟩:=lC aK a6 bi;clear aK a6 bi;have aS:IntKind.i64.wrap ((k:Int)+1)=((k+1:Nat) :Int) :=by rw[IntKind.wrap_i64]; omega
      by_cases bD:k<s.order.l.length
      ·obtain⟨x,ag,c3⟩:=bJ bD;have e7:=ak.order x c3;have bp:=dq e7;have fW:=g2 x;have bT:cN (.aq 32) (aA s.order) (.int .i64 (k:Int))=some (.bM (a5 x) 0) :=by simp[aA,ag]
       have eP:=CB g.ids xX.ids xX.li x e7;have MA:=CB s.order ak.order (by omega) x e7;have hit:=ajB ag;have cM:p8 g s.order.l k=(decide (x∈g.ids.l)&&(!decide (x∈s.order.l.take k)&&na (s.order.l.take k) (e1 g.ops.l (hy x g.ids.l 0).toNat))) :=by unfold p8; rw[gu ag]
       have kk:=xy x g.ids.l 0;obtain⟨Of,ahh⟩:∃ Of,Of=hy x s.order.l 0:=⟨_,rfl⟩
       rw[<-ahh] at MA hit;by_cases hm:x∈g.ids.l
       ·obtain⟨a,aE⟩:=aw3.1 hm;have Mz:=Jn (xx V.dR) aE;obtain⟨o,av,eQ⟩:=bJ (l:=g.ops.l) (k:=a) (by rw[<-kp]; exact (awQ.1 aE).1);have nx:=xX.ops o eQ;rw[Mz] at eP cM;rw[decide_eq_true hm,axq,Cy av,ayn] at cM;have ic:=(awQ.1 aE).1;have o8:cN (.aq 11) (bF g.ops) (.int .i64 (a:Int))=some (.bM (bd o) 0) :=by simp[bF,av]
        have dP:(bd o).length=11:=rfl;have o3:∀ h,(bd o)[1]'h=aA o.bo:=fun _=>rfl
        have nr:=dd o.bo;have bW:=aiY s.order (k:=k) (by omega);have IY:ds (kz s.order k) :=fun z aw=>ak.order z (by rw[us] at aw; exact axp aw)
        have dE:=Ps (kz s.order k) IY (by rw[us,axd]; omega) o.bo nx.ids nx.len;rw[us] at dE;have Ez:=dd (kz s.order k);have tF:¬ (a:Int)<0:=by omega
        obtain⟨X,cW⟩:∃ X,X=a5 x:=⟨_,rfl⟩
        obtain⟨O,eO⟩:∃ O,O=bd o:=⟨_,rfl⟩
        rw[<-cW] at bT bp fW eP MA;rw[<-eO] at o8 dP;simp only[<-eO] at o3;have hJ:X.take 32=X:=awR (by omega);simp[cG,bD,bT,bp,hJ];refine a7 eP (by simp[a4,U.closed,bS,fW]) ?_;simp[tF,bT,bp,hJ];refine a7 MA (by simp[a4,U.closed,ez,fW]) ?_;by_cases bv:x∈s.order.l.take k
        ·have pJ:=hit.2 bv;rw[decide_eq_true bv] at cM;have:=hK k bD (by rw[cM]; simp);simp[pJ];exact aU (by rw[this]) rfl
        ·have pJ:¬ Of<(k:Int) :=fun h=>bv (hit.1 h)
         rw[decide_eq_false bv] at cM;simp[pJ,bW,o8,dP,o3];refine a7 dE (by simp[a4,U.closed,Ez,nr]) ?_;cases dr:na (s.order.l.take k) o.bo.l with
         | true=>
          rw[dr] at cM;simp[aS];refine⟨bD,fun j ai=>?_⟩;by_cases fu:j=k
          ·rw[fu,cM]; rfl
          ·exact jj j (by omega)
         | false=>
          rw[dr] at cM;have:=hK k bD (by rw[cM]; rfl);simp;exact aU (by rw[this]) rfl
       ·have aC:hy x g.ids.l 0<0:=by
         have:¬ 0<=hy x g.ids.l 0:=fun h=>hm (kk.1 h)
         omega
        rw[decide_eq_false hm,azf] at cM;have:=hK k bD cM;obtain⟨X,cW⟩:∃ X,X=a5 x:=⟨_,rfl⟩
        rw[<-cW] at bT bp fW eP;have hJ:X.take 32=X:=awR (by omega);simp[cG,bD,bT,bp,hJ];refine a7 eP (by simp[a4,U.closed,bS,fW]) ?_;simp[aC];exact aU (by rw[this]) rfl
      ·have e6:k=s.order.l.length:=by omega
       subst e6;have:sJ g s.order.l=true:=by unfold sJ; exact decide_eq_true jj
       rw[this,if_pos rfl] at dh;rw[dh];simp[cG];exact aU rfl rfl
     ·have dh:g8 s=8:=by unfold g8; rw[if_neg (fun h=>a2 h.2.2.2.2)]
      rw[dh];simp[dL,cX,dY];refine a7 n5 (by simp[a4,U.closed,zb,za]) ?_;simp[aj,gj,cG,a2];exact aU rfl rfl
    ·have dh:g8 s=8:=by unfold g8; rw[if_neg (fun h=>aD h.2.2.2.1)]
     have gj:s.cap<s.ef.a3:=by omega
     rw[dh];simp[dL,cX,dY];refine a7 n5 (by simp[a4,U.closed,zb,za]) ?_;simp[aj,gj];exact aU rfl rfl
   ·have dh:g8 s=8:=by unfold g8; rw[if_neg (fun h=>aj h.2.2.1)]
    rw[dh];simp[dL,cX,dY];refine a7 n5 (by simp[a4,U.closed,zb,za]) ?_;simp[aj];exact aU rfl rfl
  ·have dh:g8 s=8:=by unfold g8; rw[if_neg (fun h=>ae h.2.1)]
   have cX:¬ s.cap<1:=by omega
   have dY:(40:Int)<s.cap:=by omega
   rw[dh];simp[dL,cX,dY];exact aU rfl rfl
 ·have dh:g8 s=8:=by unfold g8; rw[if_neg (fun h=>ad h.1)]
  have cX:s.cap<1:=by omega
  rw[dh];simp[dL,cX];exact aU rfl rfl
def uM (p:bz) :Bool:=decide (16<p.ops.l.length)||(decide (16<p.ids.l.length)||u5 p)
def qU (s:eE) :Bool:=(s.parts.l.take 7).any uM||(decide (6<s.parts.l.length)||decide (60<s.dF.l.length))
def D5 (s:gd) :Bool:=qU s.ef||decide (70<s.order.l.length)
set_option maxHeartbeats 8000000 in
theorem amW (s:eE) :bw Tryz.prog GS 57 [.aH (dS s)] (.bool (qU s)) :=by
 refine bQ Tryz.checked.mixed bj ?_;apply bn Tryz.func57 [];have g7:=zU s.parts;have bW:(dS s).length=3:=rfl;have fU:∀ h,(dS s)[0]'h=kI s.parts:=fun _=>rfl
 have Ms:∀ h,(dS s)[1]'h=aA s.dF:=fun _=>rfl
 have ahv:cp (.aq 32) (aA s.dF)=some (.int .i64 s.dF.l.length) :=by simp[aA]
 simp[bW];obtain⟨n,aC⟩:∃ n,n=min s.parts.l.length 7:=⟨_,rfl⟩
 refine cl n (fun k σ l=>l=[.cells 3 (dS s)]/\σ 1=.ptr 0 0 3/\σ 3=.int .i64 k/\∀ j,j<k->uM (hd s.parts.l j)=false) ?_ ⟨rfl,by simp,by simp,fun j ai=>by omega⟩;rintro k σ l ar ⟨rfl,aK,a6,jj⟩;obtain⟨σ,rfl⟩:=rD aK a6;clear aK a6;have aS:IntKind.i64.wrap ((k:Int)+1)=((k+1:Nat) :Int) :=by rw[IntKind.wrap_i64]; omega
 by_cases bD:k<s.parts.l.length
 ·by_cases II:k<=6
  ·have EM:(k:Int)<=6:=by omega
   obtain⟨p,au,hg⟩:=bJ bD;have bT:=tR au;have hX:=amU p;have lR:=ia au;have jV:(b3 p).length=2:=rfl;have lM:∀ h,(b3 p)[0]'h=aA p.ids:=fun _=>rfl
   have pL:∀ h,(b3 p)[1]'h=bF p.ops:=fun _=>rfl
   have Ee:=A0 p;have cG:cp (.aq 11) (bF p.ops)=some (.int .i64 p.ops.l.length) :=by simp[bF]
   have dO:cp (.aq 32) (aA p.ids)=some (.int .i64 p.ids.l.length) :=by simp[aA]
   change bw _ _ _ [.aH (b3 p)] _ at hX;have hK:uM p=true->qU s=true:=fun h=>by
    unfold qU;rw[ayJ.2 ⟨p,aw3.2 ⟨k,by rw[axm (by omega)]; exact au⟩,h⟩]; rfl
   obtain⟨uB,UY⟩:∃ uB,uB=b3 p:=⟨_,rfl⟩
   rw[<-UY] at bT hX jV Ee;simp only[<-UY] at lM pL;have vb:uB.take 2=uB:=awR (by omega);by_cases ad:16<p.ops.l.length
   ·have dX:(16:Int)<(p.ops.l.length:Int) :=by omega
    have:=hK (by unfold uM; rw[decide_eq_true ad]; rfl);simp[bW,fU,g7,bD,II,EM,bT,jV,pL,cG,ad,dX];exact aU (by rw[this]) rfl
   ·have dX:¬ (16:Int)<(p.ops.l.length:Int) :=by omega
    by_cases ae:16<p.ids.l.length
    ·have e5:(16:Int)<(p.ids.l.length:Int) :=by omega
     have:=hK (by unfold uM; rw[decide_eq_true ae]; simp);simp[bW,fU,g7,bD,II,EM,bT,jV,lM,pL,cG,dO,ad,dX,ae,e5];exact aU (by rw[this]) rfl
    ·have e5:¬ (16:Int)<(p.ids.l.length:Int) :=by omega
     simp[bW,fU,g7,bD,II,EM,bT,jV,lM,pL,cG,dO,ad,dX,ae,e5,vb];refine a7 hX (by simp[a4,U.closed,Ee]) ?_;cases aj:u5 p with
     | true=>
      have:=hK (by unfold uM; rw[aj]; simp);simp;exact aU (by rw[this]) rfl
     | false=>
      simp[aS];refine⟨by omega,fun j ai=>?_⟩;by_cases fu:j=k
      ·rw[fu,lR]; unfold uM; rw[decide_eq_false ad,decide_eq_false ae,aj]; rfl
      ·exact jj j (by omega)
  ·have EM:¬ (k:Int)<=6:=by omega
   have dr:6<s.parts.l.length:=by omega
   have r5:(6:Int)<(s.parts.l.length:Int) :=by omega
   have:qU s=true:=by unfold qU; rw[decide_eq_true dr]; simp
   simp[bW,fU,g7,bD,II,EM,dr,r5];exact aU (by rw[this]) rfl
 ·have cR:(s.parts.l.take 7).any uM=false:=ayF.2 fun h=>by
   obtain⟨q,aN,af⟩:=ayJ.1 h;obtain⟨j,ai⟩:=aw3.1 (axp aN);have:=jj j (by have:=(awQ.1 ai).1; omega);rw[ia ai,af] at this; cases this
  by_cases dr:6<s.parts.l.length
  ·have r5:(6:Int)<(s.parts.l.length:Int) :=by omega
   have:qU s=true:=by unfold qU; rw[decide_eq_true dr]; simp
   simp[bW,fU,g7,bD,dr,r5];exact aU (by rw[this]) rfl
  ·have r5:¬ (6:Int)<(s.parts.l.length:Int) :=by omega
   have:qU s=decide (60<s.dF.l.length) :=by unfold qU; rw[cR,decide_eq_false dr]; rfl
   have aN:decide ((60:Int)<(s.dF.l.length:Int))=decide (60<s.dF.l.length) :=decide_eq_decide.2 (by omega);simp[bW,fU,Ms,g7,ahv,bD,dr,r5,aN];exact aU (by rw[this]) rfl
theorem amX (s:gd) :bw Tryz.prog GS 30 [.aH (dL s)] (.bool (D5 s)) :=by
 refine bQ Tryz.checked.mixed bj ?_;apply bn Tryz.func30 [];have hX:=amW s.ef;have cG:cp (.aq 32) (aA s.order)=some (.int .i64 s.order.l.length) :=by simp[aA]
 have zb:=A1 s.ef.parts;have za:=dd s.ef.dF;have aN:decide ((70:Int)<(s.order.l.length:Int))=decide (70<s.order.l.length) :=decide_eq_decide.2 (by omega);unfold dS at hX;simp[dL];refine a7 hX (by simp[a4,U.closed,zb,za]) ?_;unfold D5;cases h:qU s.ef with
 | true=>
  simp;exact aU rfl rfl
 | false=>
  simp[cG,aN];exact aU (by simp) rfl
structure aqJ (s:eE) (k:Nat) (σ:bc) (l:ap) :Prop where
 aK:σ 1=.ptr 0 0 3
 aW:σ 2=.ptr 1 0 3
 a6:σ 3=.ptr 3 0 3
 bi:σ 4=.int .i64 k
 ex:∃ v j rest,l=.cells 3 [kI s.parts,aA s.dF,.int .i64 s.a3] ::.cells 3 [.aG,.aG,.int .i64 0] ::.dead::.cells 3 [v,aA (some s.dF.l),.int .i64 s.a3] ::rest/\bL 2 l v j (((s.parts.l.take k).map gG).map b3)/\(v=.aG\/4<=j)/\cz v=(s.parts.l.take k).isEmpty
theorem alt (x:List B) (ag:x.length=32) (n:Nat) (ad:1<=n) (ae:n<=100) :bw Tryz.prog GS 164 [.aH (a5 x),.int .i64 n] (.int .i64 (num x n)) :=by
 refine bQ Tryz.checked.mixed bj ?_;apply bn Tryz.func164 [];have bp:=dq ag;obtain⟨oU,r,Jf,oj⟩:=Yl ag;have Em:∀ h,(a5 x)[0]'h=bC oU:=fun h=>by subst Jf; rfl
 have Eu:oU.toNat<256:=oU.isLt;have sq:IntKind.i64.wrap (u oU)=(oU.toNat:Int) :=by unfold u; rw[IntKind.wrap_i64]; omega
 have BC:=AP oU.toNat (n:Int) (by omega)
 rw[axq] at BC;have xi:¬ n=0:=by omega
 simp[bp,Em,bC,AY,sq,BC];refine aU ?_ rfl;rw[oj];simp
theorem alX (n i:Nat) (ad:1<=n) (ae:n<=100) {l:ap} {nU Hi:Nat} (aC:l[nU]? = some (.cells 1 [.int .i64 (n:Int)])) (ay:l[Hi]? = some (.cells 1 [.int .i64 (i:Int)])) (xs:List (List B)) (ag:∀ p∈xs,p.length=32) :
  GX 175 [.ptr nU 0 1,.ptr Hi 0 1] l xs (fun p=>!decide (num p n=i)) :=by
 intro p au l1 am K aY;apply bn Tryz.func175 [[[0],[1],[3],[2,3]]];have iw:=ag p au;have fv:=dq iw;have Nr:=g2 p;have q1:l1[nU]? = some (.cells 1 [.int .i64 (n:Int)]) :=by rw[am.2 _ (cd aC)]; exact aC
 have dn:l1[Hi]? = some (.cells 1 [.int .i64 (i:Int)]) :=by rw[am.2 _ (cd ay)]; exact ay
 have aK:∀ c:aV,(l1++[c])[nU]? = some (.cells 1 [.int .i64 (n:Int)]) :=fun c=>by rw[awS (cd q1)]; exact q1
 have aW:∀ c:aV,(l1++[c])[Hi]? = some (.cells 1 [.int .i64 (i:Int)]) :=fun c=>by rw[awS (cd dn)]; exact dn
 have ahQ:=alt p iw n ad ae;simp[aK,aW,fv,awR];refine a7 ahQ (by simp[a4,U.closed,Nr]) ?_;have dh:decide (((num p n:Nat) :Int)=(i:Int))=decide (num p n=i) :=by
  by_cases h:num p n=i
  ·simp[h]
  ·have:¬ ((num p n:Nat) :Int)=(i:Int) :=by omega
   simp[h]; exact this
 simp[q1,dn,aK,aW,dh];have:=aY (l1++[aV.cells 32 (a5 p)]) ⟨by simp,fun b af=>awS af⟩;exact this
theorem N3 (s:dk) (av:ds s) (ak:s.l.length<=1000000) :bw Tryz.prog GS 61 [aA s] (aA s) :=by
 refine bQ Tryz.checked.mixed bj ?_;refine W5 s av ak fun v l' h=>?_
 exact h.rd g2 s rfl rfl
theorem Yh (s:b8 bu) :fz Tryz.prog .eql 45 (bF s) .aG=some (.bool s.isNone) :=Do (e:=94) (by kernel_rfl) 11 bd s
theorem Uk (l:List bu) :(l.map bd).flatten.length=l.length*11:=w4 (z:=11) (enc:=bd) (fun _ _=>rfl)
theorem adD (s:b8 bu) (ak:s.l.length<=1000000) {l:ap} {K:U->ap->Prop} (aJ:s=none->K .aG l)
  (ad:∀ a,s=some a->K (.aq 11 l.length 0 a.length a.length (a.length*11)) (l++[.cells (a.length*11) (a.map bd).flatten])) :
  c5 Tryz.prog GS 121 [bF s] l (c:=⟨K⟩) :=by
 apply bn Tryz.func121 [];have az:ci=140737488355328:=rfl;cases s with
 | none=>
  simp[Yh];exact aJ rfl
 | some a=>
  simp at ak;have hu:=Uk a;have md:gK (l++[aV.cells 0 []]) 11 112 (.aq 11 l.length 0 0 0 0) (bF (some a))=some (.aq 11 l.length 0 a.length a.length (a.length*11),l++[.cells (a.length*11) (a.map bd).flatten]) :=by
   unfold gK bF;rw[wV];simp only[b8.xG];unfold ja;by_cases aw:a.length=0
   ·have:a=[] :=axF.1 aw;subst this;simp
   ·rw[if_neg aw,if_neg (by omega)];simp[az];exact⟨by omega,fun h=>by simp[h]⟩
  simp[Yh,md];refine cU.b1 ?_;simp;exact ad a rfl
theorem anp {l:ap} {a b cV aZ:U} (ad:eK l a cV) (ae:eK l b aZ) :eK l (.aH [a,b]) (.aH [cV,aZ]) :=by
 refine .aH _ _ rfl fun j x GO ag mU=>?_
 rcases qT ag with ⟨rfl,rfl⟩ | ⟨rfl,rfl⟩
 ·rcases qT mU with ⟨_,rfl⟩ | ⟨h,_⟩
  ·exact ad
  ·omega
 ·rcases qT mU with ⟨h,_⟩ | ⟨_,rfl⟩
  ·omega
  ·exact ae
theorem alU (o:bu) :bf (bd o) 1 [aA o.bo]=bd o:=by
 unfold bf bd; simp
set_option maxHeartbeats 4000000 in
theorem aoT (g:bz) (ax:ho g) :bw Tryz.prog GS 125 [df g] (df g) :=by
 refine bQ Tryz.checked.mixed bj ?_;apply bn Tryz.func125 [[[0],[1],[3],[4],[7],[2,7,4],[5,7],[6]],[[0],[1],[2],[3],[4],[5],[6],[7],[8],[9,1]]];have fF:=dd g.ids;have ez:=mc g.ops;have eb:=N3 g.ids ax.ids ax.li;have OL:=nf g.ids;simp[df,b3];refine a7 eb (by simp[a4,U.closed,fF]) ?_;simp;refine adD g.ops ax.cK (fun aC=>?_) (fun a aE=>?_)
 ·simp[OL,bf];refine cl 0 (fun k σ l=>l=[aV.cells 2 [aA g.ids,bF g.ops],aV.cells 2 [.aG,.aG],aV.cells 2 [aA g.ids,.aG]]/\σ 2=.ptr 1 0 2/\σ 3=.ptr 2 0 2/\σ 14=.int .i64 0/\σ 15=.int .i64 k) ?_ ⟨rfl,by simp,by simp,by simp,by simp⟩;rintro k σ l ar ⟨rfl,aW,a6,uX,qP⟩;obtain⟨σ,rfl⟩:=ij aW a6 uX qP;clear aW a6 uX qP;have:k=0:=by omega
  subst this;simp[OL,bf,aC];have:df g=.aH [aA g.ids,.aG] :=by unfold df b3; rw[aC]; rfl
  exact aU this.symm (uS g)
 ·simp[OL,bf];have ic:a.length<=1000000:=by have:=ax.cK; rw[aE] at this; exact this
  have H7:∀ o∈a,jr o:=fun o av=>ax.ops o (by rw[aE]; exact av)
  have hu:=Uk a;have aw:∀ e∈a.map bd,e.length=11:=fun e am=>by obtain⟨y,_,rfl⟩:=axi.1 am; rfl
  refine cl a.length (fun k σ l=>l=[aV.cells 2 [aA g.ids,bF g.ops],aV.cells 2 [.aG,.aG],aV.cells 2 [aA g.ids,U.aq 11 3 0 a.length a.length (a.length*11)],aV.cells (a.length*11) (a.map bd).flatten]/\σ 2=.ptr 1 0 2/\σ 3=.ptr 2 0 2/\σ 14=.int .i64 a.length/\σ 15=.int .i64 k) ?_ ⟨rfl,by simp,by simp,by simp,by simp⟩;rintro k σ l ar ⟨rfl,aW,a6,uX,qP⟩;obtain⟨σ,rfl⟩:=ij aW a6 uX qP;clear aW a6 uX qP;have aS:IntKind.i64.wrap ((k:Int)+1)=((k+1:Nat) :Int) :=by rw[IntKind.wrap_i64]; omega
  by_cases bD:k<a.length
  ·obtain⟨o,av,eQ⟩:=bJ bD;have nx:=H7 o eQ;have nr:=dd o.bo;have agu:=N3 o.bo nx.ids nx.len;have M9:(a.map bd)[k]? = some (bd o) :=by rw[awV,av]; rfl
   have ML:(a.map bd).flatten[k*11+1]? = some (aA o.bo) :=nm aw M9 (by omega);have ll:bf (a.map bd).flatten (k*11+1) [aA o.bo]=(a.map bd).flatten:=by
    rw[HN aw M9 (show 1+[aA o.bo].length<=11 by simp)];rw[alU o];congr 1;exact axE fun j=>by
     by_cases e:k=j
     ·subst e; rw[axb (by simpa using bD),M9]
     ·rw[axg e]
   have mp:=nf o.bo;simp[bD,ML];refine a7 agu (by simp[a4,nr]) ?_;simp[ll,mp,aS];exact⟨bD,by omega,bD⟩
  ·have e6:k=a.length:=by omega
   subst e6;simp[bf];exact anp (.same _ fF) ((F0 (enc:=bd) (z:=11) (b:=3) (n:=a.length) (a:=a) (fun _ _=>rfl) rfl (by rfl)).q.Ac mK g.ops (by rw[aE]; rfl) (by rw[aE]; rfl))
def fP (a9:List Nat) (i:Nat) :Nat:=a9.getD i 0
theorem JI {a9:List Nat} {i n:Nat} (h:a9[i]? = some n) :fP a9 i=n:=by unfold fP; rw[aw7,h]; rfl
theorem FQ {a9:List Nat} {i j n:Nat} (ai:j<a9.length) :fP (a9.set j n) i=if i=j then n else fP a9 i:=by
 by_cases h:i=j
 ·subst h; rw[if_pos rfl]; exact JI (axb ai)
 ·rw[if_neg h]; unfold fP; rw[aw7,aw7,axg (fun e=>h e.symm)]
def ry:List Nat->Nat
 | []=>0
 | a::l=>a+ry l
theorem aaB:∀ {l:List Nat} {j:Nat},j<l.length->ry (l.set j (fP l j+1))=ry l+1
 | a::l,0,_=>by show (a+1)+ry l=a+ry l+1; omega
 | a::l,j+1,h=>by
  have:=aaB (l:=l) (j:=j) (by simpa using h);show a+ry (l.set j (fP l j+1))=a+ry l+1;omega
theorem aaA {c:Nat}:∀ {l:List Nat},(∀ i,i<l.length->fP l i<=c)->ry l<=c*l.length
 | [],_=>by simp[ry]
 | a::l,h=>by
  have ad:=aaA (c:=c) (l:=l) fun i ay=>h (i+1) (by simpa using ay)
  have ae:a<=c:=h 0 (by simp);show a+ry l<=c*(l.length+1)
  rw[Nat.mul_succ]; omega
theorem aoX (n:Nat) :ry (List.replicate n 0)=0:=by
 induction n with
 | zero=>rfl
 | succ n aR=>rw[axJ]; show 0+_=0; omega
theorem Ym (n i:Nat) :fP (List.replicate n 0) i=0:=by
 unfold fP; rw[aw7,azO]; split<;>rfl
def ip (ps:List bz) (a9:List Nat) (i:Nat) :List B:=b2 (hd ps i).ids.l (fP a9 i)
def mX (ps:List bz) (a9:List Nat) (i:Nat) (r:Option Nat) :Option Nat:=
 if fP a9 i<(hd ps i).ids.l.length then (match r with | none=>some i | some j=>if cj (ip ps a9 i) (ip ps a9 j)<0 then some i else some j) else r
def ou (ps:List bz) (a9:List Nat) :Nat->Option Nat
 | 0=>none
 | i+1=>mX ps a9 i (ou ps a9 i)
theorem X2 (ps:List bz) (a9:List Nat) (i:Nat) (r:Option Nat) :(¬ fP a9 i<(hd ps i).ids.l.length/\mX ps a9 i r=r)\/(fP a9 i<(hd ps i).ids.l.length/\((r=none/\mX ps a9 i r=some i)\/∃ j,r=some j/\((cj (ip ps a9 i) (ip ps a9 j)<0/\mX ps a9 i r=some i)\/(¬ cj (ip ps a9 i) (ip ps a9 j)<0/\mX ps a9 i r=some j)))) :=by
 unfold mX;by_cases h:fP a9 i<(hd ps i).ids.l.length
 ·rw[if_pos h];right; refine⟨h,?_⟩;cases r with
  | none=>exact .inl ⟨rfl,rfl⟩
  | some j=>
   right; refine⟨j,rfl,?_⟩;by_cases ae:cj (ip ps a9 i) (ip ps a9 j)<0
   ·left; exact⟨ae,by simp[ae]⟩
   ·right; exact⟨ae,by simp[ae]⟩
 ·rw[if_neg h]; exact .inl ⟨h,rfl⟩
theorem OD {ps:List bz} {a9:List Nat}:∀ {k:Nat},ou ps a9 k=none->∀ i,i<k->¬ fP a9 i<(hd ps i).ids.l.length
 | 0,_,i,ay=>by omega
 | k+1,h,i,ay=>by
  change mX ps a9 k (ou ps a9 k)=none at h;rcases X2 ps a9 k (ou ps a9 k) with ⟨ad,ae⟩ | ⟨_,⟨_,ae⟩ | ⟨j,_,⟨_,ae⟩ | ⟨_,ae⟩⟩⟩
  ·by_cases e:i=k
   ·subst e; exact ad
   ·exact OD (by rw[<-ae]; exact h) i (by omega)
  all_goals rw[ae] at h; cases h
theorem Cm {ps:List bz} {a9:List Nat}:∀ {k j:Nat},ou ps a9 k=some j->j<k/\fP a9 j<(hd ps j).ids.l.length/\∀ i,i<k->fP a9 i<(hd ps i).ids.l.length->cj (ip ps a9 j) (ip ps a9 i)<=0
 | 0,j,h=>by cases h
 | k+1,j,h=>by
  change mX ps a9 k (ou ps a9 k)=some j at h;rcases X2 ps a9 k (ou ps a9 k) with ⟨ad,ae⟩ | ⟨ad,⟨aj,ae⟩ | ⟨m,aj,⟨aD,ae⟩ | ⟨aD,ae⟩⟩⟩
  ·rw[ae] at h;obtain⟨a,b,c⟩:=Cm h;exact⟨by omega,b,fun i ay al=>by
    by_cases e:i=k
    ·subst e; exact absurd al ad
    ·exact c i (by omega) al⟩
  ·rw[ae] at h; obtain rfl:=Option.some.inj h;exact⟨by omega,ad,fun i ay al=>by
    by_cases e:i=k
    ·subst e; rw[rZ]; exact Int.le_refl _
    ·exact absurd al (OD aj i (by omega))⟩
  ·rw[ae] at h; obtain rfl:=Option.some.inj h;obtain⟨a,b,c⟩:=Cm aj;exact⟨by omega,ad,fun i ay al=>by
    by_cases e:i=k
    ·subst e; rw[rZ]; exact Int.le_refl _
    ·have ah:=c i (by omega) al;by_cases aw:cj (ip ps a9 m) (ip ps a9 i)=0
     ·rw[<-A2 aw]; omega
     ·have:=A3 _ _ _ aD (show cj (ip ps a9 m) (ip ps a9 i)<0 by omega);omega⟩
  ·rw[ae] at h; obtain rfl:=Option.some.inj h;obtain⟨a,b,c⟩:=Cm aj;exact⟨by omega,b,fun i ay al=>by
    by_cases e:i=k
    ·subst e; have:=DC (ip ps a9 i) (ip ps a9 m); omega
    ·exact c i (by omega) al⟩
structure wn (ps:List bz) :Prop where
 len:∀ p∈ps,p.ids.l.length=p.ops.l.length
 dR:∀ p∈ps,dR p.ids.l=true
 TU:∀ (i j:Nat) (x:List B) (p q:bz),ps[i]? = some p->ps[j]? = some q->x∈p.ids.l->x∈q.ids.l->i=j
structure yF (ps:List bz) (a9:List Nat) (O:List (List B × bu)) :Prop where
 nl:a9.length=ps.length
 le:∀ (i:Nat) (p:bz),ps[i]? = some p->fP a9 i<=p.ids.l.length
 aag:O.Pairwise fun a b=>iz a.1 b.1=true
 Yb:∀ q,q∈O<->∃ (i:Nat) (p:bz) (a:Nat),ps[i]? = some p/\a<fP a9 i/\p.ids.l[a]? = some q.1/\p.ops.l[a]? = some q.2
 ay:∀ q∈O,∀ (i:Nat) (p:bz) (a:Nat) (x:List B),ps[i]? = some p->fP a9 i<=a->p.ids.l[a]? = some x->iz q.1 x=true
 fS:ry a9=O.length
theorem akY (ps:List bz) :yF ps (List.replicate ps.length 0) [] :=
 ⟨by simp,fun i p _=>by rw[Ym]; exact ax2 _,.nil,fun q=>⟨fun h=>(by cases h),fun ⟨i,p,a,_,h,_⟩=>by rw[Ym] at h; omega⟩,fun q aN=>(by cases aN),by rw[aoX]; rfl⟩
theorem akW {ps:List bz} {a9:List Nat} {O:List (List B × bu)} (h:yF ps a9 O) {c:Nat} (ah:∀ p∈ps,p.ids.l.length<=c) :O.length<=c*ps.length:=by
 rw[<-h.fS,<-h.nl];refine aaA fun i ay=>?_
 obtain⟨p,au,hg⟩:=bJ (l:=ps) (k:=i) (by rw[<-h.nl]; exact ay);exact axy (h.le i p au) (ah p hg)
theorem akX {ps:List bz} (W:wn ps) {a9:List Nat} {O:List (List B × bu)} (h:yF ps a9 O) {j:Nat} (ai:ou ps a9 ps.length=some j) {p:bz} (au:ps[j]? = some p) {x:List B} {o:bu} (ag:p.ids.l[fP a9 j]? = some x) (av:p.ops.l[fP a9 j]? = some o) :
  yF ps (a9.set j (fP a9 j+1)) (O++[(x,o)]) :=by
 obtain⟨ad,ae,aj⟩:=Cm ai;have hg:=awY au;have et:j<a9.length:=by rw[h.nl]; exact ad
 rw[ia au] at ae;have nq:ip ps a9 j=x:=by unfold ip; rw[ia au,gu ag]
 have Is:∀ i,i<ps.length->fP a9 i<=fP (a9.set j (fP a9 j+1)) i:=fun i _=>by rw[FQ et]; split<;>simp_all
 refine⟨by rw[azR]; exact h.nl,fun i q aN=>?_,?_,fun q=>?_,fun q aN i r a y az aE aI=>?_,?_⟩
 ·rw[FQ et];split
  ·rename_i e; subst e; rw[au] at aN; obtain rfl:=Option.some.inj aN; omega
  ·exact h.le i q aN
 ·rw[azq];refine⟨h.aag,azP _ _,fun a aE b af=>?_⟩;rw[axQ.1 af];exact h.ay a aE j p _ x au (awU _) ag
 ·rw[axN,h.Yb,axQ];constructor
  ·rintro (⟨i,r,a,q1,dn,gF⟩ | e)
   ·exact⟨i,r,a,q1,ayy dn (Is i (awQ.1 q1).1),gF⟩
   ·subst e; exact⟨j,p,fP a9 j,au,by rw[FQ et,if_pos rfl]; omega,ag,av⟩
  ·rintro⟨i,r,a,q1,dn,gF,v2⟩;rw[FQ et] at dn;split at dn
   ·rename_i e; subst e;rw[au] at q1; obtain rfl:=Option.some.inj q1;by_cases e:a=fP a9 i
    ·right;rw[e,ag] at gF; rw[e,av] at v2;rw[Option.some.inj gF,Option.some.inj v2]
    ·exact .inl ⟨i,p,a,au,by omega,gF,v2⟩
   ·exact .inl ⟨i,r,a,q1,dn,gF,v2⟩
 ·have vk:fP a9 i<=a:=axy (Is i (awQ.1 az).1) aE;rcases axN.1 aN with aN | aN
  ·exact h.ay q aN i r a y az vk aI
  ·rw[axQ.1 aN];by_cases e:i=j
   ·subst e;rw[au] at az; obtain rfl:=Option.some.inj az;rw[FQ et,if_pos rfl] at aE;exact (ov _ _).2 (ru (W.dR p hg) (show fP a9 i<a by omega) ag aI)
   ·have xm:=awY az;have ic:=(awQ.1 aI).1;obtain⟨z,aw,Ca⟩:=bJ (l:=r.ids.l) (k:=fP a9 i) (by omega);have aD:=aj i (awQ.1 az).1 (by rw[ia az]; omega);have fF:ip ps a9 i=z:=by unfold ip; rw[ia az,gu aw]
    rw[nq,fF] at aD;have bY:cj x z≠0:=fun fA=>e (by
     have:=A2 fA;subst this;exact W.TU i j x r p az au Ca (awY ag))
    have aL:iz x z=true:=(ov _ _).2 (by omega);by_cases r1:a=fP a9 i
    ·rw[r1,aw] at aI; rw[<-Option.some.inj aI]; exact aL
    ·exact Jz _ _ _ aL ((ov _ _).2 (ru (W.dR r xm) (show fP a9 i<a by omega) aw aI))
 ·rw[aaB et,h.fS,awW]; rfl
theorem akU {ps:List bz} {a9:List Nat} {O:List (List B × bu)} (h:yF ps a9 O) (aC:ou ps a9 ps.length=none) (q:List B × bu) :q∈O<->∃ p∈ps,∃ a:Nat,p.ids.l[a]? = some q.1/\p.ops.l[a]? = some q.2:=by
 rw[h.Yb];constructor
 ·rintro⟨i,p,a,ad,_,ae,aj⟩; exact⟨p,awY ad,a,ae,aj⟩
 ·rintro⟨p,au,a,ae,aj⟩;obtain⟨i,ay⟩:=aw3.1 au;have:=OD aC i (awQ.1 ay).1;rw[ia ay] at this;have:=(awQ.1 ae).1;exact⟨i,p,a,ay,by omega,ae,aj⟩
theorem Y4 {l m:List (List B × bu)} (al:l.Pairwise fun a b=>iz a.1 b.1=true) (hm:m.Pairwise fun a b=>iz a.1 b.1=true) (h:∀ q,q∈l<->q∈m) :l=m:=
 aah (lt:=fun a b:List B × bu=>iz a.1 b.1) (fun a=>akz a.1) (fun a b c=>Jz a.1 b.1 c.1) al hm h
theorem Ro {p:bz} (al:p.ids.l.length=p.ops.l.length) (az:dR p.ids.l=true) {x:List B} {o:bu}:lH p x=some o<->∃ a:Nat,p.ids.l[a]? = some x/\p.ops.l[a]? = some o:=by
 constructor
 ·intro h;unfold lH at h;split at h
  ·rename_i ah;obtain⟨a,aE⟩:=aw3.1 ((xy x p.ids.l 0).1 ah.1);rw[Jn (xx az) aE,axq] at h;exact⟨a,aE,h⟩
  ·cases h
 ·rintro⟨a,aE,av⟩;unfold lH;have:=(awQ.1 av).1;rw[Jn (xx az) aE,if_pos ⟨by omega,by omega⟩,axq]; exact av
theorem Rn {p:bz} {x:List B} {o:bu} (h:lH p x=some o) :x∈p.ids.l:=by
 unfold lH at h;split at h
 ·rename_i ah; exact (xy x p.ids.l 0).1 ah.1
 ·cases h
theorem abv {ps:List bz} (W:wn ps) {x:List B}:∀ {k:Nat},k<=ps.length->(iF ps x k).Pairwise fun a b=>iz a.1 b.1=true
 | 0,_=>.nil
 | k+1,ar=>by
  obtain⟨p,au,_⟩:=bJ (l:=ps) (k:=k) (by omega);have aR:=abv W (x:=x) (k:=k) (by omega);show (iF ps x k++(match lH (hd ps k) x with | some o=>[(x,o)] | none=>[])).Pairwise _;rw[ia au];cases aE:lH p x with
  | none=>simpa using aR
  | some o=>
   have:iF ps x k=[] :=List.eq_nil_iff_forall_not_mem.2 fun q aN=>by
    obtain⟨j,r,ad,ae,aj,aD⟩:=(KK (by omega)).1 aN;have:=W.TU j k x r p ae au (Rn aj) (Rn aE);omega
   rw[this];exact azP _ _
theorem abt {ps:List bz} (W:wn ps) {ids:List (List B)} (az:dR ids=true) :∀ {i:Nat},i<=ids.length->(j9 ps ids i).Pairwise fun a b=>iz a.1 b.1=true
 | 0,_=>.nil
 | i+1,ay=>by
  obtain⟨x,ag,_⟩:=bJ (l:=ids) (k:=i) (by omega);show (j9 ps ids i++iF ps (b2 ids i) ps.length).Pairwise _;rw[gu ag,azq];refine⟨abt W az (by omega),abv W (awU _),fun a aE b af=>?_⟩;obtain⟨m,ad,ae,_⟩:=(KJ (by omega)).1 aE;obtain⟨j,p,_,_,_,aD⟩:=(KK (awU _)).1 af;rw[aD];exact (ov _ _).2 (ru az ad ae ag)
theorem abp {s:eE} (W:wn s.parts.l) :(fi s).Pairwise fun a b=>iz a.1 b.1=true:=abt W (aoL _) (awU _)
theorem Qz {s:eE} (W:wn s.parts.l) (q:List B × bu) :q∈fi s<->∃ p∈s.parts.l,∃ a:Nat,p.ids.l[a]? = some q.1/\p.ops.l[a]? = some q.2:=by
 unfold fi;rw[KJ (awU _)];constructor
 ·rintro⟨a,_,_,p,au,h⟩;exact⟨p,au,(Ro (W.len p au) (W.dR p au)).1 h⟩
 ·rintro⟨p,au,a,ad,ae⟩;have:q.1∈hD s:=by
   unfold hD;obtain⟨j,ai⟩:=aw3.1 au;rw[aak,K8 (awU _)];exact⟨j,p,(awQ.1 ai).1,ai,awY ad⟩
  obtain⟨m,hm⟩:=aw3.1 this;exact⟨m,(awQ.1 hm).1,hm,p,au,(Ro (W.len p au) (W.dR p au)).2 ⟨a,ad,ae⟩⟩
theorem akV {s:eE} (W:wn s.parts.l) {a9:List Nat} {O:List (List B × bu)} (h:yF s.parts.l a9 O) (aC:ou s.parts.l a9 s.parts.l.length=none) :O=fi s:=
 Y4 h.aag (abp W) fun q=>by rw[akU h aC,Qz W]
def yy (ps:List bz) :Bool:=decide (∀ p∈ps,p.ids.l.length=p.ops.l.length/\dR p.ids.l=true)
theorem C3 {ps:List bz}:yy ps=true<->∀ p∈ps,p.ids.l.length=p.ops.l.length/\dR p.ids.l=true:=decide_eq_true_iff
def xR (ps:List bz) :Bool:=decide (∀ i,i<ps.length->∀ x∈(hd ps i).ids.l,num x ps.length=i)
theorem Yi {ps:List bz} (h:xR ps=true) (i j:Nat) (x:List B) (p q:bz) (au:ps[i]? = some p) (aN:ps[j]? = some q) (ag:x∈p.ids.l) (aI:x∈q.ids.l) :i=j:=by
 unfold xR at h;rw[decide_eq_true_eq] at h;have ad:=h i (awQ.1 au).1 x (by rw[ia au]; exact ag);have ae:=h j (awQ.1 aN).1 x (by rw[ia aN]; exact aI);omega
theorem zL {s:dk} {k:Nat} {x:List B} (h:s.l[k]? = some x) :cN (.aq 32) (aA s) (.int .i64 (k:Int))=some (.bM (a5 x) 0) :=by simp[aA,h]
theorem W1 {s:b8 bu} {k:Nat} {x:bu} (h:s.l[k]? = some x) :cN (.aq 11) (bF s) (.int .i64 (k:Int))=some (.bM (bd x) 0) :=by simp[bF,h]
theorem aky {ps:List bz} {a9:List Nat} {i:Nat} {r:Option Nat} (h:¬ fP a9 i<(hd ps i).ids.l.length) :mX ps a9 i r=r:=by unfold mX; rw[if_neg h]
theorem akv {ps:List bz} {a9:List Nat} {i:Nat} (h:fP a9 i<(hd ps i).ids.l.length) :mX ps a9 i none=some i:=by unfold mX; rw[if_pos h]
theorem akx {ps:List bz} {a9:List Nat} {i j:Nat} (h:fP a9 i<(hd ps i).ids.l.length) (ae:cj (ip ps a9 i) (ip ps a9 j)<0) :mX ps a9 i (some j)=some i:=by unfold mX; rw[if_pos h]; simp[ae]
theorem akw {ps:List bz} {a9:List Nat} {i j:Nat} (h:fP a9 i<(hd ps i).ids.l.length) (ae:¬ cj (ip ps a9 i) (ip ps a9 j)<0) :mX ps a9 i (some j)=some j:=by unfold mX; rw[if_pos h]; simp[ae]
def FK:Option Nat->Int
 | none=>-1
 | some j=>j
def nZ (a9:List Nat) :List U:=a9.map fun (n:Nat)=>U.int .i64 (n:Int)
structure C9 (s:eE) (bO w2:U) (a9:List Nat) (l:ap) :Prop where
 cI:l[0]? = some (.cells 3 (dS s))
 q1:l[1]? = some (.cells 2 [.aG,.aG])
 dn:l[2]? = some (.cells 2 [bO,w2])
 gF:l[3]? = some (.cells s.parts.l.length (nZ a9))
structure G1 (s:eE) (σ:bc) :Prop where
 aK:σ 1=.ptr 0 0 3
 aW:σ 2=.ptr 1 0 2
 a6:σ 3=.bool false
 bi:σ 4=.ptr 2 0 2
 bm:σ 5=.aq 1 3 0 s.parts.l.length s.parts.l.length s.parts.l.length
def zZ (s:eE) :U:=if yy s.parts.l=true then .bq [df (eX (fi s)),.bool true] else .bq [df ⟨none,none⟩,.bool false]
set_option maxHeartbeats 16000000 in
theorem akS (s:eE) (ak:nO s) (bg:∀ (i j:Nat) (x:List B) (p q:bz),s.parts.l[i]? = some p->s.parts.l[j]? = some q->x∈p.ids.l->x∈q.ids.l->i=j) :bw Tryz.prog GS 176 [.aH (dS s)] (zZ s) :=by
 refine bQ Tryz.checked.mixed bj ?_;apply bn Tryz.func176 [[],[],[[0],[1],[2],[3],[4],[5],[6],[7],[8],[9],[10],[11],[12],[13],[14],[16],[17],[18],[19],[20],[21],[22],[23],[24],[25],[26],[27],[28],[29],[30],[15,30,29,27,23,19,17],[32],[31]]];have az:ci=140737488355328:=rfl;have g7:=zU s.parts;have Wm:=ak.xS;have bW:(dS s).length=3:=rfl;have fU:∀ h,(dS s)[0]'h=kI s.parts:=fun _=>rfl
 obtain⟨a8,bh⟩:=FL (z:=1) (by_:=8) (n:=s.parts.l.length) (k:=.i64) (k':=.i64) (zero:=[U.int .i64 0]) (l:=[.cells 3 (dS s),.cells 2 [.aG,.aG],.cells 2 [.aG,.aG]]) rfl (by omega) (by rw[az]; omega);simp only[ayt] at a8 bh;simp[bW,fU,g7] at a8 ⊢;simp[a8,fU,bW,g7];have WD:dH [U.int .i64 0] s.parts.l.length=nZ (List.replicate s.parts.l.length 0) :=by
  rw[Gc]; unfold nZ; rw[azd];generalize s.parts.l.length=n
  induction n with
  | zero=>rfl
  | succ n aR=>rw[axJ,axJ,axD,aR]; rfl
 rw[WD];have hK:yy s.parts.l=false->zZ s=.bq [.aH [.aG,.aG],.bool false] :=fun h=>by unfold zZ; rw[h]; rfl
 refine cl s.parts.l.length (fun i σ l=>G1 s σ/\σ 17=kI s.parts/\σ 18=.int .i64 s.parts.l.length/\σ 19=.int .i64 i/\C9 s .aG .aG (List.replicate s.parts.l.length 0) l/\∀ (j:Nat) (p:bz),j<i->s.parts.l[j]? = some p->p.ids.l.length=p.ops.l.length/\dR p.ids.l=true) ?_ ⟨⟨by simp,by simp,by simp,by simp,by simp⟩,by simp,by simp,by simp,⟨rfl,rfl,rfl,rfl⟩,fun j _ ai=>by omega⟩;rintro i σ l ay ⟨⟨aK,aW,a6,bi,bm⟩,qQ,qR,qS,hW,jj⟩;obtain⟨σ,rfl⟩:=Kz aK aW a6 bi bm qQ qR qS;clear aK aW a6 bi bm qQ qR qS;have aS:IntKind.i64.wrap ((i:Int)+1)=((i+1:Nat) :Int) :=by rw[IntKind.wrap_i64]; omega
 by_cases ec:i<s.parts.l.length
 ·obtain⟨p,au,hg⟩:=bJ ec;obtain⟨iw,Ns,tI⟩:=ak.parts p hg;have bT:=tR au;have lM:∀ h,(b3 p)[0]'h=aA p.ids:=fun _=>rfl
  have pL:∀ h,(b3 p)[1]'h=bF p.ops:=fun _=>rfl
  have jV:(b3 p).length=2:=rfl;have vb:(b3 p).take 2=b3 p:=rfl;have dO:cp (.aq 32) (aA p.ids)=some (.int .i64 p.ids.l.length) :=by simp[aA]
  have cG:cp (.aq 11) (bF p.ops)=some (.int .i64 p.ops.l.length) :=by simp[bF]
  have w2:∀ mb:aV,(l++[mb])[2]? = some (.cells 2 [.aG,.aG]) :=fun mb=>by rw[awS (cd hW.dn)]; exact hW.dn
  have bO:∀ mb:aV,(l++[mb])[1]? = some (.cells 2 [.aG,.aG]) :=fun mb=>by rw[awS (cd hW.q1)]; exact hW.q1
  have g9:(l++[aV.cells 2 (b3 p)])[l.length]? = some (.cells 2 (b3 p)) :=ayB;have afQ:∀ c:aV,C9 s .aG .aG (List.replicate s.parts.l.length 0) (l++[c]) :=fun c=>⟨by rw[awS (cd hW.cI)]; exact hW.cI,bO c,w2 c,by rw[awS (cd hW.gF)]; exact hW.gF⟩
  have c0:∀ c c' : aV,((l++[c]).set 1 c')[1]? = some c':=fun c c'=>axb (by rw[awW]; have:=cd hW.q1; omega)
  have zE:bf [U.aG,.aG] 0 (b3 p)=b3 p:=gw rfl;simp[ec,bT,lM,pL,jV,vb,zE,dO,cG];by_cases ad:p.ids.l.length=p.ops.l.length
  ·simp[ad];obtain⟨L,eN⟩:∃ L,L=l++[aV.cells 2 (b3 p)] :=⟨_,rfl⟩
   have Eh:=afQ (aV.cells 2 (b3 p));have abg:=bO (aV.cells 2 (b3 p));have abh:=w2 (aV.cells 2 (b3 p));have Ah:=c0 (aV.cells 2 (b3 p));rw[<-eN] at Eh g9 abg abh Ah ⊢;refine cl p.ids.l.length (fun m σ l'=>l'=L/\G1 s σ/\σ 7=.ptr l.length 0 2/\σ 8=.int .i64 (m+1:Nat)/\σ 17=kI s.parts/\σ 18=.int .i64 s.parts.l.length/\σ 19=.int .i64 i/\∀ k,k<p.ids.l.length->1<=k->k<m+1->cj (b2 p.ids.l (k - 1)) (b2 p.ids.l k)<0) ?_ ⟨rfl,⟨by simp,by simp,by simp,by simp,by simp⟩,by simp,by simp,by simp,by simp,by simp,fun k _ _ _=>by omega⟩;rintro m σ l' hm ⟨rfl,⟨aK,aW,a6,bi,bm⟩,ei,fT,qQ,qR,qS,WM⟩;obtain⟨σ,rfl⟩:=apD aK aW a6 bi bm ei fT qQ qR qS;clear aK aW a6 bi bm ei fT qQ qR qS;have bt:IntKind.i64.wrap (((m+1:Nat) :Int)+1)=((m+1+1:Nat) :Int) :=by rw[IntKind.wrap_i64]; omega
   have er:IntKind.i64.wrap (((m+1:Nat) :Int) - 1)=(m:Int) :=by rw[IntKind.wrap_i64]; omega
   by_cases kP:m+1<p.ids.l.length
   ·obtain⟨x,ag,c3⟩:=bJ (l:=p.ids.l) (k:=m) (by omega);obtain⟨y,aI,en⟩:=bJ (l:=p.ids.l) (k:=m+1) (by omega);have EU:((m+1:Nat) :Int)<p.ids.l.length:=by omega
    have e7:=iw.ids x c3;have xq:=iw.ids y en;have bp:=dq e7;have fI:=dq xq;have fW:=g2 x;have lp:=g2 y;have ed:cN (.aq 32) (aA p.ids) (.int .i64 (m:Int))=some (.bM (a5 x) 0) :=by simp[aA,ag]
    have oc:=zL aI;have ft:=wQ x y e7 xq;change bw Tryz.prog GS _ [.aH (a5 x),.aH (a5 y)] _ at ft;obtain⟨X,cW⟩:∃ X,X=a5 x:=⟨_,rfl⟩
    obtain⟨Y,he⟩:∃ Y,Y=a5 y:=⟨_,rfl⟩
    rw[<-cW] at bp fW ed ft;rw[<-he] at fI lp oc ft;obtain⟨M,je⟩:∃ M:Int,M=((m+1:Nat) :Int) :=⟨_,rfl⟩
    rw[<-je] at bt er EU oc ⊢;simp[g9,jV,lM,dO,EU,er,ed,oc,bp,fI,awR];refine a7 ft (by simp[a4,U.closed,fW,lp]) ?_;by_cases aL:cj x y<0
    ·have:¬ 0<=cj x y:=by omega
     simp[this,bt];refine⟨by omega,⟨by simp,by simp,by simp,by simp,by simp⟩,fun k ad ae aj=>?_⟩;by_cases ar:k=m+1
     ·subst ar; rw[show m+1 - 1=m by omega,ag,aI]; exact aL
     ·exact WM k ad ae (by omega)
    ·have aJ:0<=cj x y:=by omega
     have aP:yy s.parts.l=false:=decide_eq_false fun h=>aL (by
      have:=ru (h p hg).2 (show m<m+1 by omega) ag aI;exact this)
     rw[hK aP];simp[aJ,abh,abg,Ah,bf];exact aU rfl rfl
   ·have EU:¬ ((m+1:Nat) :Int)<p.ids.l.length:=by omega
    obtain⟨M,je⟩:∃ M:Int,M=((m+1:Nat) :Int) :=⟨_,rfl⟩
    rw[<-je] at bt er EU ⊢;simp[g9,jV,lM,dO,EU,aS];refine⟨ec,⟨by simp,by simp,by simp,by simp,by simp⟩,Eh,fun j q ai aN=>?_⟩;by_cases jW:j=i
    ·subst jW;rw[au] at aN; obtain rfl:=Option.some.inj aN;exact⟨ad,Ke fun k ad ae=>WM k ad ae (by omega)⟩
    ·exact jj j q (by omega) aN
  ·have aP:yy s.parts.l=false:=decide_eq_false fun h=>ad (h p hg).1
   have dX:¬ (p.ids.l.length:Int)=p.ops.l.length:=by omega
   rw[hK aP];simp[ad,dX,w2,bO,c0,bf];exact aU rfl rfl
 ·have c7:i=s.parts.l.length:=by omega
  subst c7;have aP:yy s.parts.l=true:=C3.2 fun p au=>by
   obtain⟨j,ai⟩:=aw3.1 au;exact jj j p (awQ.1 ai).1 ai
  have W:wn s.parts.l:=⟨fun p au=>(C3.1 aP p au).1,fun p au=>(C3.1 aP p au).2,bg⟩
  have tE:zZ s=.bq [df (eX (fi s)),.bool true] :=by unfold zZ; rw[aP]; rfl
  rw[tE];clear jj hK tE ay ec aS bh a8 WD;simp;refine cl 100000 (fun k σ l=>G1 s σ/\∃ a9 O bO w2 e8 e9,C9 s bO w2 a9 l/\h6 l bO w2 e8 e9 4 (O.map (·.1)) (O.map (·.2))/\yF s.parts.l a9 O/\O.length=k) ?_ ⟨⟨by simp,by simp,by simp,by simp,by simp⟩,List.replicate s.parts.l.length 0,[],.aG,.aG,0,0,hW,by simpa using OZ _ 4,akY _,rfl⟩;clear hW;rintro k σ l ar ⟨⟨aK,aW,a6,bi,bm⟩,a9,O,bO,w2,e8,e9,hW,jl,je,ahp⟩;obtain⟨σ,rfl⟩:=k1 aK aW a6 bi bm;clear aK aW a6 bi bm;have pM:O.length<=1000:=by have:=akW je (c:=100) (fun p au=>(ak.parts p au).2.1); omega
  have cI:=hW.cI;simp[cI,bW,fU,g7];refine cl s.parts.l.length (fun i σ l=>G1 s σ/\σ 9=.int .i64 (FK (ou s.parts.l a9 i))/\σ 54=kI s.parts/\σ 55=.int .i64 s.parts.l.length/\σ 56=.int .i64 i/\C9 s bO w2 a9 l/\h6 l bO w2 e8 e9 4 (O.map (·.1)) (O.map (·.2))) ?_ ⟨⟨by simp,by simp,by simp,by simp,by simp⟩,by simp; rfl,by simp,by simp,by simp,hW,jl⟩;clear hW jl cI;rintro i σ l ay ⟨⟨aK,aW,a6,bi,bm⟩,g4,D1,D2,UG,hW,jl⟩;obtain⟨σ,rfl⟩:=aa3 aK aW a6 bi bm g4 D1 D2 UG;clear aK aW a6 bi bm g4 D1 D2 UG;have aS:IntKind.i64.wrap ((i:Int)+1)=((i+1:Nat) :Int) :=by rw[IntKind.wrap_i64]; omega
  by_cases ec:i<s.parts.l.length
  ·obtain⟨p,au,hg⟩:=bJ ec;obtain⟨iw,Ns,tI⟩:=ak.parts p hg;have bT:=tR au;have lM:∀ h,(b3 p)[0]'h=aA p.ids:=fun _=>rfl
   have pL:∀ h,(b3 p)[1]'h=bF p.ops:=fun _=>rfl
   have jV:(b3 p).length=2:=rfl;have vb:(b3 p).take 2=b3 p:=rfl;have dO:cp (.aq 32) (aA p.ids)=some (.int .i64 p.ids.l.length) :=by simp[aA]
   have zE:bf [U.aG,.aG] 0 (b3 p)=b3 p:=gw rfl;obtain⟨L,eN⟩:∃ L,L=l++[aV.cells 2 (b3 p)] :=⟨_,rfl⟩
   have wp:L[l.length]? = some (.cells 2 (b3 p)) :=by rw[eN]; exact ayB
   have Bu:C9 s bO w2 a9 L:=by
    rw[eN];exact⟨by rw[awS (cd hW.cI)]; exact hW.cI,by rw[awS (cd hW.q1)]; exact hW.q1,by rw[awS (cd hW.dn)]; exact hW.dn,by rw[awS (cd hW.gF)]; exact hW.gF⟩
   have pb:h6 L bO w2 e8 e9 4 (O.map (·.1)) (O.map (·.2)) :=by rw[eN]; exact jl.frame fun b _ af=>awS af
   have km:=je.nl;obtain⟨a,aE⟩:∃ a,a9[i]? = some a:=⟨_,awT (by rw[km]; exact ec)⟩
   have tF:=JI aE;have dN:=je.le i p au;rw[tF] at dN;have MK:(nZ a9)[i]? = some (.int .i64 (a:Int)) :=by unfold nZ; rw[awV,aE]; rfl
   have gF:=Bu.gF;have lR:=ia au;have kn:ou s.parts.l a9 (i+1)=mX s.parts.l a9 i (ou s.parts.l a9 i) :=rfl;by_cases ic:a<p.ids.l.length
   ·have Eo:fP a9 i<(hd s.parts.l i).ids.l.length:=by rw[tF,lR]; exact ic
    obtain⟨x,ag,c3⟩:=bJ ic;have n9:ip s.parts.l a9 i=x:=by unfold ip; rw[lR,tF,gu ag]
    cases aY:ou s.parts.l a9 i with
    | none=>
     rw[aY,akv Eo] at kn;have ao:FK none=-1:=rfl;rw[ao];simp[ec,bT,jV,vb,zE,<-eN,wp,gF,lM,dO,MK,ic,aS];exact⟨⟨by simp,by simp,by simp,by simp,by simp⟩,by rw[kn]; rfl,Bu,pb⟩
    | some j=>
     rw[aY] at kn;obtain⟨bS,b7,hR⟩:=Cm aY;obtain⟨r,az,xm⟩:=bJ (l:=s.parts.l) (k:=j) (by omega);have hX:=ia az;rw[hX] at b7;obtain⟨y,aI,en⟩:=bJ b7;have o6:ip s.parts.l a9 j=y:=by unfold ip; rw[hX]; exact gu aI
     obtain⟨b,af⟩:∃ b,a9[j]? = some b:=⟨_,awT (by rw[km]; omega)⟩
     have q7:=JI af;rw[q7] at aI;have EB:(nZ a9)[j]? = some (.int .i64 (b:Int)) :=by unfold nZ; rw[awV,af]; rfl
     have hv:=tR az;have Ei:(b3 r)[0]? = some (aA r.ids) :=rfl;have e7:=iw.ids x c3;have xq:=(ak.parts r xm).1.ids y en;have bp:=dq e7;have fI:=dq xq;have fW:=g2 x;have lp:=g2 y;have ed:=zL ag;have oc:=zL aI;have ft:=wQ x y e7 xq;change bw Tryz.prog GS _ [.aH (a5 x),.aH (a5 y)] _ at ft;obtain⟨X,cW⟩:∃ X,X=a5 x:=⟨_,rfl⟩
     obtain⟨Y,he⟩:∃ Y,Y=a5 y:=⟨_,rfl⟩
     rw[<-cW] at bp fW ed ft;rw[<-he] at fI lp oc ft;have ao:FK (some j)=(j:Int) :=rfl;rw[ao];have zk:¬ (j:Int)<0:=by omega
     have cI:=Bu.cI;have et:j<s.parts.l.length:=by omega
     simp[ec,bT,jV,vb,zE,<-eN,wp,gF,lM,dO,MK,ic,zk,ed,oc,cI,bW,fU,hv,Ei,EB,bp,fI,awR];refine⟨et,a7 ft (by simp[a4,U.closed,fW,lp]) ?_⟩;by_cases aL:cj x y<0
     ·rw[akx Eo (by rw[n9,o6]; exact aL)] at kn;simp[aL,aS];exact⟨ec,⟨by simp,by simp,by simp,by simp,by simp⟩,by rw[kn]; rfl,Bu,pb⟩
     ·rw[akw Eo (by rw[n9,o6]; exact aL)] at kn;simp[aL,aS];exact⟨ec,⟨by simp,by simp,by simp,by simp,by simp⟩,by rw[kn]; rfl,Bu,pb⟩
   ·have Eo:¬ fP a9 i<(hd s.parts.l i).ids.l.length:=by rw[tF,lR]; exact ic
    rw[aky Eo] at kn;simp[ec,bT,jV,vb,zE,<-eN,wp,gF,lM,dO,MK,ic,aS];exact⟨⟨by simp,by simp,by simp,by simp,by simp⟩,by rw[kn],Bu,pb⟩
  ·have c7:i=s.parts.l.length:=by omega
   subst c7;clear ay ec aS;cases aY:ou s.parts.l a9 s.parts.l.length with
   | none=>
    have eO:=akV W je aY;have ao:FK none=-1:=rfl;rw[ao];have ig:ho (eX (fi s)) :=GL ak;have tM:=aoT _ ig;have lQ:=uS (eX (fi s));have dn:=hW.dn;unfold df b3 eX at tM lQ;subst eO;simp[dn];refine jl.call fun br iA i0=>?_
    have da:br[1]? = some (.cells 2 [.aG,.aG]) :=by rw[i0 1 (by omega)]; exact hW.q1
    have dj:∀ c:aV,(br.set 1 c)[1]? = some c:=fun c=>axb (cd da)
    refine a7 tM (by simp[a4,lQ]) ?_;have e0:=nf (dz ((fi s).map (·.1)));have eR:=wL (dz ((fi s).map (·.2)));simp[da,dj,e0,eR,bf];exact aU rfl (by simp[U.closed,a4]; exact uS _)
   | some j=>
    obtain⟨bS,b7,hR⟩:=Cm aY;obtain⟨r,az,xm⟩:=bJ bS;have hX:=ia az;rw[hX] at b7;obtain⟨aig,atl,atm⟩:=ak.parts r xm;have ra:=W.len r xm;obtain⟨x,ag,c3⟩:=bJ b7;obtain⟨o,av,eQ⟩:=bJ (l:=r.ops.l) (k:=fP a9 j) (by omega);have Eh:=akX W je aY az ag av;obtain⟨b,af⟩:∃ b,a9[j]? = some b:=⟨_,awT (by rw[je.nl]; omega)⟩
    have q7:=JI af;rw[q7] at ag av Eh b7;have EB:(nZ a9)[j]? = some (.int .i64 (b:Int)) :=by unfold nZ; rw[awV,af]; rfl
    have hv:=tR az;have Ei:(b3 r)[0]? = some (aA r.ids) :=rfl;have Va:(b3 r)[1]? = some (bF r.ops) :=rfl;have e7:=aig.ids x c3;have bp:=dq e7;have ed:=zL ag;have o8:=W1 av;have pb:(bd o).length=11:=rfl;have ao:FK (some j)=(j:Int) :=rfl;rw[ao];have zk:¬ (j:Int)<0:=by omega
    have et:j<s.parts.l.length:=bS;obtain⟨X,cW⟩:∃ X,X=a5 x:=⟨_,rfl⟩
    obtain⟨Y,he⟩:∃ Y,Y=bd o:=⟨_,rfl⟩
    have Mu:=cW;rw[<-cW] at bp ed;rw[<-he] at pb o8;have hJ:X.take 32=X:=awR (by omega);have H5:Y.take 11=Y:=awR (by omega);have iU:bf (rep 32 (.int .u8 0)) 0 X=X:=gw (by rw[bp]; rfl);have so:bf [U.int .u32 0,.aG,.int .u64 0,.int .u8 0,.str [],.int .u8 0,.int .i64 0,.int .u64 0,.str [],.int .u32 0,.int .u32 0] 0 Y=Y:=gw (by rw[pb]; rfl);have cI:=hW.cI;have dn:=hW.dn;have gF:=hW.gF;have gE:=cd gF;have qz:∀ (m:ap) (i:Nat) (c:aV),l[i]? = some c->(l++m)[i]? = some c:=fun m i c h=>by rw[awS (cd h)]; exact h
    have mH:∀ m:ap,(l++m)[0]? = some (.cells 3 (dS s)) :=fun m=>qz m 0 _ cI
    have gy:∀ m:ap,(l++m)[2]? = some (.cells 2 [bO,w2]) :=fun m=>qz m 2 _ dn
    have yA:∀ m:ap,(l++m)[3]? = some (.cells s.parts.l.length (nZ a9)) :=fun m=>qz m 3 _ gF
    have aqD:∀ (m:ap) (h:0<(l++m).length),(l++m)[0]'h=.cells 3 (dS s) :=fun m h=>(awQ.1 (mH m)).2
    have Nl:h6 (l++[aV.cells 32 X,.cells 11 Y]) bO w2 e8 e9 4 (O.map (·.1)) (O.map (·.2)) :=jl.frame fun c _ ah=>awS ah
    obtain⟨pt,xA,l1,a8,bh,b6,eW,gn⟩:=Nl.W4 (c:=l.length) Mu bp (by simp) (by simp; omega) (by rw[aw1]; omega);simp[cI,bW,fU,zk,hv,Ei,Va,dn,gF,mH,aqD,gy,yA,EB,et,ed,bp,hJ,iU,o8,pb,H5,so,a8];have bZ:=jl.jo.lt;have gB:bO=.aG\/4<=e8:=jl.cT;have ej:w2=.aG\/4<=e9:=jl.dw;have f:∀ (c:Nat) (y:aV),c<4->l[c]? = some y->l1[c]? = some y:=fun c y ah aI=>by
     rw[eW c (by have:=cd aI; simp; omega) (by rcases gB with e | e; exact .inl e; exact .inr (by omega)),awS (cd aI)]; exact aI
    have DS:l1[l.length+1]? = some (.cells 11 Y) :=by
     rw[eW (l.length+1) (by simp) (by rcases bZ with e | e; exact .inl e; exact .inr (by omega))]; simp
    have hY:=cd (f 3 _ (by omega) gF);obtain⟨sW,zO,br,d1,d2,d3,d4⟩:=bh.Yw (c:=l.length+1) he DS (by omega) (by rw[aw1]; omega);have g:∀ (c:Nat) (y:aV),c<4->l[c]? = some y->br[c]? = some y:=fun c y ah aI=>by
     rw[d4 c (cd (f c y ah aI)) (by rcases ej with e | e; exact .inl e; exact .inr (by omega))]; exact f c y ah aI
    have ox:=g 0 _ (by omega) cI;have da:=g 1 _ (by omega) hW.q1;have dj:=g 2 _ (by omega) dn;have rs:=g 3 _ (by omega) gF;have f2:=f 2 _ (by omega) dn;have f0:=f 0 _ (by omega) cI;have f3:=f 3 _ (by omega) gF;have jk:=cd rs;refine cU.b1 ?_;simp[f0,f2,f3,DS,bW,fU,d1,pb,H5];refine⟨⟨EB,Va⟩,cU.b1 ?_⟩;have e0:=z6 bh.jo;have eR:=z6 d2.hB;have iC:∀ c:aV,(br.set 2 c)[2]? = some c:=fun c=>axb (by omega)
    have an3:∀ c:aV,(br.set 2 c)[3]? = some (.cells s.parts.l.length (nZ a9)) :=fun c=>by rw[axg (by omega)]; exact rs
    have gq:b<r.ids.l.length:=b7;have bt:IntKind.i64.wrap ((b:Int)+1)=(b:Int)+1:=by rw[IntKind.wrap_i64]; omega
    have ki:j<a9.length:=by rw[je.nl]; omega
    have ll:bf (nZ a9) j [U.int .i64 ((b:Int)+1)]=nZ (a9.set j (b+1)) :=by
     rw[aai (by unfold nZ; simpa using ki)];unfold nZ; rw[List.map_set]; rfl
    have aoD:bf [bO,w2] 0 [pt]=[pt,w2] :=by simp
    have aoE:bf [pt,w2] 1 [sW]=[pt,sW] :=by simp
    have kP:(O.map (·.1))++[x]=(O++[(x,o)]).map (·.1) :=by rw[axc]; rfl
    have Nb:(O.map (·.2))++[o]=(O++[(x,o)]).map (·.2) :=by rw[axc]; rfl
    rw[kP,Nb] at d2;simp[dj,iC,an3,e0,eR,aoD,aoE,EB,bt,ll];refine⟨et,by omega,by omega,⟨by simp,by simp,by simp,by simp,by simp⟩,a9.set j (b+1),O++[(x,o)],pt,sW,⟨?_,?_,?_,?_⟩,⟨xA,zO,?_⟩,Eh,by rw[awW,ahp]; rfl⟩
    ·rw[axg (by omega),axg (by omega)]; exact ox
    ·rw[axg (by omega),axg (by omega)]; exact da
    ·rw[axg (by omega)]; exact iC _
    ·exact axb (by simp; omega)
    ·exact d2.frame fun c ah _=>by rw[axg (by omega),axg (by omega)]
theorem aey (a b:dk) (aE:ds a) (af:ds b) (al:a.l.length<=1000000) :bw Tryz.prog GS 178 [aA a,aA b] (.bool (decide (a.l=b.l))) :=by
 refine bQ Tryz.checked.mixed bj ?_;apply bn Tryz.func178 [];have oe:cp (.aq 32) (aA a)=some (.int .i64 a.l.length) :=by simp[aA]
 have kj:cp (.aq 32) (aA b)=some (.int .i64 b.l.length) :=by simp[aA]
 by_cases ad:a.l.length=b.l.length
 ·have dX:((a.l.length:Int)=b.l.length) :=by omega
  simp[oe,kj,ad];refine cl a.l.length (fun k σ l=>σ 0=aA a/\σ 1=aA b/\σ 12=.int .i64 a.l.length/\σ 13=.int .i64 k/\∀ j,j<k->a.l[j]? = b.l[j]?) ?_ (by simp[ad]);rintro k σ l ar ⟨ck,aK,kL,kM,ak⟩;obtain⟨σ,rfl⟩:=ij ck aK kL kM;clear ck aK kL kM;simp;refine nE (fun h=>?_) (fun h=>?_)
  ·simp only[decide_eq_true_eq] at h;obtain⟨x,ag,c3⟩:=bJ h;obtain⟨y,aI,en⟩:=bJ (l:=b.l) (k:=k) (by omega);have aS:IntKind.i64.wrap ((k:Int)+1)=((k+1:Nat) :Int) :=by rw[IntKind.wrap_i64]; omega
   have bT:cN (.aq 32) (aA a) (.int .i64 (k:Int))=some (.bM (a5 x) 0) :=by simp[aA,ag]
   have hv:cN (.aq 32) (aA b) (.int .i64 (k:Int))=some (.bM (a5 y) 0) :=by simp[aA,aI]
   have bp:=dq (aE x c3);have fI:=dq (af y en);have bY:=zM (aE x c3) (af y en);obtain⟨X,cW⟩:∃ X,X=a5 x:=⟨_,rfl⟩
   obtain⟨Y,he⟩:∃ Y,Y=a5 y:=⟨_,rfl⟩
   rw[<-cW] at bT bp bY;rw[<-he] at hv fI bY;simp[bT,hv,bp,fI,awR,bY];by_cases am:x=y
   ·simp[am,aS];refine⟨by omega,fun j ai=>?_⟩;by_cases fu:j=k
    ·subst fu; rw[ag,aI,am]
    ·exact ak j (by omega)
   ·simp[am];refine aU (congrArg U.bool (decide_eq_false fun gA=>am ?_).symm) rfl;rw[gA,aI] at ag; exact (Option.some.inj ag).symm
  ·simp[h];have se:k=a.l.length:=by simp at h; omega
   refine aU (congrArg U.bool (decide_eq_true ?_).symm) rfl;apply axE;intro j;by_cases ai:j<a.l.length
   ·exact ak j (by omega)
   ·rw[aw5 (by omega),aw5 (by omega)]
 ·have dX:¬ ((a.l.length:Int)=b.l.length) :=by omega
  simp[oe,kj,ad,dX];exact aU (by rw[decide_eq_false (fun gA=>ad (by rw[gA]))]) rfl
structure m8 (s:eE) :Prop where
 jn:1<=s.parts.l.length
 sF:s.parts.l.length<=4
 Cp:xR s.parts.l=true
 wf:yy s.parts.l=true
 fq:hS (eX (fi s))=0
 GI:s.a3=((fi s).length:Int)
 bg:ie (eX (fi s))=s.dF.l
noncomputable def wh (s:eE) :Bool:=@decide (m8 s) (Classical.propDecidable _)
theorem aqk {s:eE} (h:m8 s) :wh s=true:=@decide_eq_true _ (Classical.propDecidable _) h
theorem aqj {s:eE} (h:¬ m8 s) :wh s=false:=@decide_eq_false _ (Classical.propDecidable _) h
noncomputable def wi (s:eE) :U:=.bq [df (if wh s=true then eX (fi s) else ⟨none,none⟩),.int .i64 (if wh s=true then 0 else 8)]
theorem yz {s:eE} (h:¬ m8 s) :wi s=.bq [.aH [.aG,.aG],.int .i64 8] :=by unfold wi; rw[aqj h]; rfl
theorem abq {s:eE} (h:m8 s) :wi s=.bq [df (eX (fi s)),.int .i64 0] :=by unfold wi; rw[aqk h]; rfl
theorem HS (l:List (List B × bu)) :(eX l).ids.l.length=l.length:=by unfold eX; simp only[eI]; rw[aw1]
set_option maxHeartbeats 16000000 in
theorem aqd (s:eE) (ak:nO s) :bw Tryz.prog GS 134 [.aH (dS s)] (wi s) :=by
 refine bQ Tryz.checked.mixed bj ?_;apply bn Tryz.func134 [];have g7:=zU s.parts;have Wm:=ak.xS;have bW:(dS s).length=3:=rfl;have iI:(dS s).take 3=dS s:=rfl;have fU:∀ h,(dS s)[0]'h=kI s.parts:=fun _=>rfl
 have Ms:(dS s)[1]? = some (aA s.dF) :=rfl;have Bw:(dS s)[2]? = some (.int .i64 s.a3) :=rfl;have pK:∀ h,(dS s)[1]'h=aA s.dF:=fun _=>rfl
 have Bt:∀ h,(dS s)[2]'h=.int .i64 s.a3:=fun _=>rfl
 have ib:=DB s;by_cases ad:1<=s.parts.l.length
 ·by_cases aD:s.parts.l.length<=4
  ·have cX:¬ (s.parts.l.length:Int)<1:=by omega
   have gj:¬ (4:Int)<(s.parts.l.length:Int) :=by omega
   simp[bW,fU,g7,bf,cX,gj];refine cl s.parts.l.length (fun i σ l=>σ 1=.ptr 0 0 3/\σ 2=.ptr 1 0 2/\σ 4=.ptr 2 0 1/\σ 22=kI s.parts/\σ 23=.int .i64 s.parts.l.length/\σ 24=.int .i64 i/\l[0]? = some (.cells 3 (dS s))/\l[1]? = some (.cells 2 [.aG,.aG])/\l[2]? = some (.cells 1 [.int .i64 s.parts.l.length])/\∀ (j:Nat) (p:bz),j<i->s.parts.l[j]? = some p->∀ x∈p.ids.l,num x s.parts.l.length=j) ?_ ⟨by simp,by simp,by simp,by simp,by simp,by simp,rfl,rfl,rfl,fun j _ ai=>by omega⟩;rintro i σ l ay ⟨aK,aW,bi,Bk,uZ,w5,cI,q1,dn,jj⟩;obtain⟨σ,rfl⟩:=we aK aW bi Bk uZ w5;clear aK aW bi Bk uZ w5;have aS:IntKind.i64.wrap ((i:Int)+1)=((i+1:Nat) :Int) :=by rw[IntKind.wrap_i64]; omega
   by_cases ec:i<s.parts.l.length
   ·obtain⟨p,au,hg⟩:=bJ ec;obtain⟨iw,Ns,tI⟩:=ak.parts p hg;have bT:=tR au;have lM:∀ h,(b3 p)[0]'h=aA p.ids:=fun _=>rfl
    have jV:(b3 p).length=2:=rfl;have vb:(b3 p).take 2=b3 p:=rfl;have zE:bf [U.aG,.aG] 0 (b3 p)=b3 p:=gw rfl;have jk:=cd dn;obtain⟨L,eN⟩:∃ L,L=l++[aV.cells 1 [.int .i64 (i:Int)],aV.cells 2 (b3 p)] :=⟨_,rfl⟩
    have qz:∀ (k:Nat) (c:aV),l[k]? = some c->L[k]? = some c:=fun k c h=>by rw[eN,awS (cd h)]; exact h
    have aqn:L[l.length]? = some (.cells 1 [.int .i64 (i:Int)]) :=by rw[eN]; simp
    have wp:L[l.length+1]? = some (.cells 2 (b3 p)) :=by rw[eN]; simp
    have iR:=alX s.parts.l.length i ad (by omega) (qz 2 _ dn) aqn p.ids.l iw.ids;simp[ec,bT,jV,vb,zE,<-eN,wp,lM];refine TM p.ids iw.ids iw.li (by kernel_rfl) iR fun br am=>?_
    have jq:=am.2 1 (cd (qz 1 _ q1));cases Vk:p.ids.l.any fun x=>!decide (num x s.parts.l.length=i) with
    | true=>
     obtain⟨x,ag,WV⟩:=ayJ.1 Vk;have cR:¬ m8 s:=fun h=>by
      have aC:=h.Cp;unfold xR at aC;rw[decide_eq_true_eq] at aC;have:=aC i ec x (by rw[ia au]; exact ag);rw[this] at WV; simp at WV
     rw[yz cR];have g1:br[1]? = some (.cells 2 [.aG,.aG]) :=by rw[jq]; exact qz 1 _ q1
     have gy:∀ c:aV,(br.set 1 c)[1]? = some c:=fun c=>axb (cd g1)
     simp[g1,gy,bf];exact aU rfl rfl
    | false=>
     simp[aS];refine⟨ec,?_,?_,?_,fun j q ai aN x ag=>?_⟩
     ·rw[am.2 0 (cd (qz 0 _ cI))]; exact qz 0 _ cI
     ·rw[jq]; exact qz 1 _ q1
     ·rw[am.2 2 (cd (qz 2 _ dn))]; exact qz 2 _ dn
     ·by_cases jW:j=i
      ·subst jW;rw[au] at aN; obtain rfl:=Option.some.inj aN;have:=List.any_eq_false.1 Vk x ag;simpa using this
      ·exact jj j q (by omega) aN x ag
   ·have c7:i=s.parts.l.length:=by omega
    subst c7;have tG:xR s.parts.l=true:=by
     unfold xR;rw[decide_eq_true_eq];intro j ai x ag;obtain⟨p,au,_⟩:=bJ ai;exact jj j p ai au x (by rw[ia au] at ag; exact ag)
    have ahG:=akS s ak (Yi tG);clear jj ec ay aS;simp[cI,bW,iI];refine a7 ahG (by simp[a4,U.closed,ib]) ?_;have fw:=cd dn;cases aP:yy s.parts.l with
    | false=>
     have cR:¬ m8 s:=fun h=>by have:=h.wf; rw[aP] at this; cases this
     rw[yz cR];unfold zZ;rw[aP];have g1:∀ c:aV,(l++[c])[1]? = some (.cells 2 [.aG,.aG]) :=fun c=>by rw[awS (cd q1)]; exact q1
     have gy:∀ c c' : aV,((l++[c]).set 1 c')[1]? = some c':=fun c c'=>axb (cd (g1 c))
     have e0:(aA none).cells=some [aA none] :=rfl;have eR:(bF none).cells=some [bF none] :=rfl;simp[df,b3,bf,e0,eR,g1,gy];exact aU rfl rfl
    | true=>
     have ig:ho (eX (fi s)) :=GL ak;have fc:=abj _ ig;have IB:=ap4 _ ig;obtain⟨g,ax⟩:∃ g,g=eX (fi s) :=⟨_,rfl⟩
     have vl:g.ids.l.length=(fi s).length:=by rw[ax]; exact HS _
     unfold zZ;rw[aP,if_pos rfl];rw[<-ax] at ig fc IB ⊢;have g1:∀ c:aV,(l++[c])[1]? = some (.cells 2 [.aG,.aG]) :=fun c=>by rw[awS (cd q1)]; exact q1
     have mH:∀ c:aV,(l++[c])[0]? = some (.cells 3 (dS s)) :=fun c=>by rw[awS (cd cI)]; exact cI
     have gy:∀ c c' : aV,((l++[c]).set 1 c')[1]? = some c':=fun c c'=>axb (cd (g1 c))
     have e0:=nf g.ids;have eR:=wL g.ops;have fF:=dd g.ids;have ez:=mc g.ops;have dO:cp (.aq 32) (aA g.ids)=some (.int .i64 g.ids.l.length) :=by simp[aA]
     unfold df b3 at fc IB;simp[df,b3,bf,e0,eR,mH,g1];refine a7 fc (by simp[a4,U.closed,fF,ez]) ?_;by_cases aJ:hS g=0
     ·have GU:∀ (c:aV) (h:0<(l++[c]).length),(l++[c])[0]'h=.cells 3 (dS s) :=fun c h=>(awQ.1 (mH c)).2
      by_cases ao:s.a3=(g.ids.l.length:Int)
      ·have xo:aA (yx g)=aA (dz (ie g)) :=by unfold yx; rw[if_pos aJ]
       have heq:=aey (dz (ie g)) s.dF (fun x ag=>by rw[eI] at ag; exact ig.ids x ((ax0.1 ag).1)) ak.dF (by rw[eI]; exact axy (ax7 _ _) ig.li);rw[eI] at heq;have qW:=dd (dz (ie g));have c6:=dd s.dF;rw[xo,aJ] at IB;simp[aJ,mH,GU,bW,Bw,Bt,dO,ao];refine a7 IB (by simp[a4,U.closed,fF,ez]) ?_;simp[mH,GU,bW,Ms,pK];refine a7 heq (by simp[a4,qW,c6]) ?_;by_cases aT:ie g=s.dF.l
       ·have NV:m8 s:=⟨ad,aD,tG,aP,by rw[<-ax]; exact aJ,by rw[ao,vl],by rw[<-ax]; exact aT⟩
        rw[abq NV,<-ax];simp[aT,g1,gy,bf];exact aU rfl (by simp[U.closed,a4]; exact uS g)
       ·have cR:¬ m8 s:=fun h=>aT (by rw[ax]; exact h.bg)
        rw[yz cR];simp[aT,g1,gy,bf];exact aU rfl rfl
      ·have cR:¬ m8 s:=fun h=>ao (by rw[h.GI,vl])
       rw[yz cR];simp[aJ,mH,g1,gy,GU,bW,Bw,Bt,dO,ao,bf];exact aU rfl rfl
     ·have cR:¬ m8 s:=fun h=>aJ (by rw[ax]; exact h.fq)
      rw[yz cR];simp[aJ,g1,gy,bf];exact aU rfl rfl
  ·have cX:¬ (s.parts.l.length:Int)<1:=by omega
   have gj:(4:Int)<(s.parts.l.length:Int) :=by omega
   rw[yz fun h=>aD h.sF];simp[bW,fU,g7,bf,cX,gj];exact aU rfl rfl
 ·have cX:(s.parts.l.length:Int)<1:=by omega
  rw[yz fun h=>ad h.jn];simp[bW,fU,g7,bf,cX];exact aU rfl rfl
theorem Y2 (ops:List bu) (i:Nat) :e1 (ops.map gH) i=e1 ops i:=by
 unfold e1;rw[awV];cases ops[i]?<;>rfl
theorem ym (g:bz) :(gG g).ops.l=g.ops.l.map gH:=eI _
theorem adg (ids:List (List B)) (ops:List bu) (out:List Nat) :qF ids (ops.map gH) out=qF ids ops out:=by
 funext i;unfold qF;rw[Y2]
theorem Yn (ids:List (List B)) (ops:List bu) (out:List Nat) :ku ids (ops.map gH) out=ku ids ops out:=by unfold ku; rw[adg,aw1]
theorem YB (ids:List (List B)) (ops:List bu) :∀ k,gk ids (ops.map gH) k=gk ids ops k
 | 0=>rfl
 | k+1=>by
  have aR:=YB ids ops k;cases h:ku ids ops (gk ids ops k) with
  | none=>rw[JS h,JS (by rw[aR,Yn]; exact h),aR]
  | some i=>rw[FY h,FY (by rw[aR,Yn]; exact h),aR]
theorem aos (ids:List (List B)) (ops:List bu) :oH ids (ops.map gH)=oH ids ops:=by
 have ad:xY ids (ops.map gH)=xY ids ops:=by
  unfold xY;rw[decide_eq_decide];constructor
  ·intro h o av; exact h (gH o) (ay3 av)
  ·intro h o av;obtain⟨dG,dT,rfl⟩:=axi.1 av;exact h dG dT
 have ae:p9 ids (ops.map gH)=p9 ids ops:=by unfold p9; rw[YB,aw1]
 unfold oH;rw[ad,ae,aw1]
theorem afj (g:bz) (k:Nat) :nn (gG g) k=nn g k:=by
 unfold nn;rw[ym,awV];rw[show (gG g).ids.l=g.ids.l from rfl];cases g.ops.l[k]?<;>cases g.ids.l[k]?<;>rfl
theorem ads (g:bz) :hS (gG g)=hS g:=by
 have ad:y4 (gG g)=y4 g:=by
  unfold y4;rw[decide_eq_decide,ym,aw1];simp only[afj]
 unfold hS;rw[ad,ym,aos,aw1];rfl
theorem amt (l:List (List B × bu)) :jH (gG (eX l))=l.map fun q=>(q.1,gH q.2) :=by
 unfold jH;rw[ym];unfold eX gG;simp only[eI,b8.xG]
 induction l with
 | nil=>rfl
 | cons a l aR=>simp only[axk,List.zip_cons_cons,aR]
theorem ae6 (g:bz) (x:List B) (m:Nat) :qO (gG g) x m=qO g x m:=by
 unfold qO;rw[decide_eq_decide];have h:∀ j,(kv (gG g).ops.l j).bo.l=(kv g.ops.l j).bo.l:=fun j=>by
  unfold kv;rw[ym,aw7,aw7,awV];cases g.ops.l[j]?<;>rfl
 constructor
 ·intro aT j ai; rw[<-h]; exact aT j ai
 ·intro aT j ai; rw[h]; exact aT j ai
theorem VA (g:bz) :ie (gG g)=ie g:=by
 unfold ie;have h:∀ x,mi (gG g) x=mi g x:=fun x=>by
  show qO (gG g) x (gG g).ops.l.length=qO g x g.ops.l.length;rw[ae6,ym,aw1]
 rw[funext h]; rfl
theorem aoe (o:bu) :yb o (gH (gH o))=true:=by
 unfold yb gH; simp[kH,fN,U.beq]
def sO (l:List (List B × bu)) (n k:Nat) :List (List B × bu) :=(l.map fun q=>(q.1,gH q.2)).filter fun q=>decide (num q.1 n=k)
theorem amd (l:List (List B × bu)) (n k:Nat) :j6 (gG (eX l)) (nG (gG (eX l)) n k)=gG (eX (sO l n k)) :=by
 unfold j6 l0 sO;rw[axo,amt];congr 2;refine List.filter_congr fun q aN=>?_
 rw[decide_eq_decide];unfold nG;rw[ax0,decide_eq_true_eq];constructor
 ·exact fun h=>h.2
 ·intro h;refine⟨?_,h⟩;show q.1∈(gG (eX l)).ids.l;obtain⟨q',gN,rfl⟩:=axi.1 aN;unfold gG eX;simp only[eI,b8.xG];exact ay3 gN
theorem YZ (l:List (List B × bu)) (n k:Nat) :(j6 (gG (eX l)) (nG (gG (eX l)) n k)).ids.l=(sO l n k).map (·.1)/\(j6 (gG (eX l)) (nG (gG (eX l)) n k)).ops.l=((sO l n k).map (·.2)).map gH:=by
 rw[amd,ym];refine⟨?_,?_⟩
 ·unfold gG eX; simp only[eI,b8.xG]
 ·unfold eX; simp only[eI]
theorem Y0 {l:List (List B × bu)} {n k:Nat} {q:List B × bu}:q∈sO l n k<->∃ q'∈l,q=(q'.1,gH q'.2)/\num q.1 n=k:=by
 unfold sO;rw[ax0,axi,decide_eq_true_eq];constructor
 ·rintro⟨⟨q',ad,rfl⟩,ae⟩; exact⟨q',ad,rfl,ae⟩
 ·rintro⟨q',ad,rfl,ae⟩; exact⟨⟨q',ad,rfl⟩,ae⟩
theorem Y1 {l:List (List B × bu)} (h:l.Pairwise fun a b=>iz a.1 b.1=true) (n k:Nat) :(sO l n k).Pairwise fun a b=>iz a.1 b.1=true:=by
 unfold sO;have ae:(l.map fun q=>(q.1,gH q.2)).Pairwise fun a b=>iz a.1 b.1=true:=by rw[ayT]; exact h
 exact ae.sublist List.filter_sublist
theorem GK (s:eE) :fh s=gG (eX (fi s)) :=rfl
theorem Ts (s:eE) :hS (fh s)=hS (eX (fi s)) :=ads _
theorem aoq {s:eE} (h:m8 s) :oG s=0:=by
 have W:wn s.parts.l:=⟨fun p au=>(C3.1 h.wf p au).1,fun p au=>(C3.1 h.wf p au).2,Yi h.Cp⟩
 have tG:=h.Cp;unfold xR at tG;rw[decide_eq_true_eq] at tG;have kR:qh s (pm (fh s) s.parts.l.length)=true:=by
  rw[Ai];have IU:(pm (fh s) s.parts.l.length).parts.l=lW (fh s) s.parts.l.length s.parts.l.length:=rfl;refine⟨by rw[IU,vT],?_,?_,fun k ar=>?_⟩
  ·show s.a3=((fh s).ids.l.length:Int)
   rw[h.GI]; congr 1; exact (HS (fi s)).symm
  ·show s.dF.l=(dz (ie (fh s))).l;rw[eI,GK,VA]; exact h.bg.symm
  ·rw[IU,ia (JE _ _ ar)];obtain⟨p,au,hg⟩:=bJ ar;rw[ia au];obtain⟨aS,bt⟩:=YZ (fi s) s.parts.l.length k;rw[<-GK] at aS bt;have oj:=tG k ar;rw[ia au] at oj;have fv:=W.len p hg;have zC:(jH p).map (fun q=>(q.1,gH q.2))=sO (fi s) s.parts.l.length k:=by
    refine Y4 ?_ (Y1 (abp W) _ _) fun q=>?_
    ·rw[ayT];have ae:=PE (W.dR p hg);have aj:(jH p).map (·.1)=p.ids.l:=by unfold jH; rw[List.map_fst_zip (by omega)]
     rw[<-aj,ayT] at ae;exact ae
    ·rw[Y0,axi];constructor
     ·rintro⟨q',gN,rfl⟩;obtain⟨a,aE⟩:=aw3.1 gN;unfold jH at aE;rw[ayr] at aE;exact⟨q',(Qz W q').2 ⟨p,hg,a,aE.1,aE.2⟩,rfl,oj q'.1 (awY aE.1)⟩
     ·rintro⟨q',gN,rfl,aC⟩;obtain⟨r,az,a,aE,af⟩:=(Qz W q').1 gN;obtain⟨j,ai⟩:=aw3.1 az;have:=tG j (awQ.1 ai).1 q'.1 (by rw[ia ai]; exact awY aE);have fu:j=k:=by rw[<-this]; exact aC
      subst fu;rw[au] at ai; obtain rfl:=Option.some.inj ai;exact⟨q',awY (show (jH p)[a]? = some q' by unfold jH; rw[ayr]; exact⟨aE,af⟩),rfl⟩
   rw[<-zC] at aS bt;have cX:((jH p).map fun q=>(q.1,gH q.2)).map (·.1)=p.ids.l:=by
    rw[ayv]; unfold jH; exact List.map_fst_zip (by omega)
   have dY:((jH p).map fun q=>(q.1,gH q.2)).map (·.2)=p.ops.l.map gH:=by
    rw[ayv];have:(jH p).map (·.2)=p.ops.l:=by unfold jH; exact List.map_snd_zip (by omega)
    rw[<-this,ayv]; rfl
   rw[cX] at aS;rw[dY] at bt;unfold sS;rw[aS,bt];simp only[aw1,decide_true,ayn,decide_eq_true_eq];intro j ai;obtain⟨o,av,_⟩:=bJ ai;rw[vX av,vX (o:=gH (gH o)) (by rw[awV,awV,av]; rfl)];exact aoe o
 unfold oG;rw[if_pos ⟨h.jn,h.sF⟩,if_pos ⟨by rw[Ts]; exact h.fq,kR⟩]
theorem aql {s:eE} (h:oG s=0) :m8 s:=by
 obtain⟨ad,aD,aJ,kR⟩:=aac h;obtain⟨_,dn,gF,v2⟩:=(Ai _ _).1 kR;have V:=Ct aJ;have IU:(pm (fh s) s.parts.l.length).parts.l=lW (fh s) s.parts.l.length s.parts.l.length:=rfl;have key:∀ (k:Nat) (p:bz),s.parts.l[k]? = some p->p.ids.l=(sO (fi s) s.parts.l.length k).map (·.1)/\p.ops.l.length=(sO (fi s) s.parts.l.length k).length:=fun k p au=>by
  have ar:=(awQ.1 au).1;have:=v2 k ar;rw[IU,ia (JE _ _ ar),ia au] at this;unfold sS at this;simp only[awZ,decide_eq_true_eq] at this;obtain⟨aS,bt⟩:=YZ (fi s) s.parts.l.length k;exact⟨by rw[this.1]; exact aS,by rw[this.2.1,show (j6 (fh s) (nG (fh s) s.parts.l.length k)).ops.l=_ from bt,aw1,aw1]⟩
 have j0:(fi s).Pairwise fun a b=>iz a.1 b.1=true:=by
  have ae:=PE V.dR;have:(fh s).ids.l=(fi s).map (·.1) :=by rw[GK]; unfold gG eX; simp only[eI,b8.xG]
  rw[this,ayT] at ae;exact ae
 refine⟨ad,aD,?_,?_,by rw[<-Ts]; exact aJ,?_,?_⟩
 ·unfold xR;rw[decide_eq_true_eq];intro i ay x ag;obtain⟨p,au,_⟩:=bJ ay;rw[ia au,(key i p au).1] at ag;obtain⟨q,aN,rfl⟩:=axi.1 ag;obtain⟨_,_,_,aC⟩:=Y0.1 aN;exact aC
 ·refine C3.2 fun p au=>?_
  obtain⟨k,ar⟩:=aw3.1 au;obtain⟨aS,bt⟩:=key k p ar;refine⟨by rw[aS,bt,aw1],YK ?_⟩;rw[aS,ayT];exact Y1 j0 _ _
 ·rw[dn];show ((fh s).ids.l.length:Int)=_;congr 1; exact HS (fi s)
 ·have:s.dF.l=(dz (ie (fh s))).l:=gF;rw[this,eI,GK,VA]
theorem Z9 (s:eE) :oG s=0<->m8 s:=⟨aql,aoq⟩
theorem adF (s:eE) :(wi s).closed=true:=by
 unfold wi;have:=uS (if wh s=true then eX (fi s) else ⟨none,none⟩);simp[U.closed,a4,this]
theorem ap0 (s:eE) (ak:nO s) :bw Tryz.prog GS 95 [.aH (dS s)] (wi s) :=by
 refine bQ Tryz.checked.mixed bj ?_;apply bn Tryz.func95 [];have bW:(dS s).length=3:=rfl;have iI:(dS s).take 3=dS s:=rfl;have ib:=DB s;have aP:=aqd s ak;have lf:=adF s;have zI:wi s=.bq [.aH [aA (if wh s=true then eX (fi s) else ⟨none,none⟩).ids,bF (if wh s=true then eX (fi s) else ⟨none,none⟩).ops],.int .i64 (if wh s=true then 0 else 8)] :=rfl;rw[zI] at aP lf ⊢;obtain⟨g,ax⟩:∃ g,g=if wh s=true then eX (fi s) else ⟨none,none⟩:=⟨_,rfl⟩
 rw[<-ax] at aP lf ⊢;have e0:=nf g.ids;have eR:=wL g.ops;simp[bW,iI];refine a7 aP (by simp[a4,U.closed,ib]) ?_;simp[e0,eR,bf];exact aU rfl lf
theorem alR (g:bz) (l:List (List B)) (i:Nat) :p8 (gG g) l i=p8 g l i:=by
 unfold p8;rw[ym,Y2]; rfl
theorem YD (g:bz) (l:List (List B)) :sJ (gG g) l=sJ g l:=by
 unfold sJ;simp only[alR]
theorem aoQ (s:gd) :g8 s=0\/g8 s=8:=by
 unfold g8;split
 ·split
  ·exact .inl rfl
  ·exact .inr rfl
 ·exact .inr rfl
structure tc (s:gd) :Prop where
 bS:1<=s.cap
 ac9:s.cap<=40
 ef:m8 s.ef
 GI:s.ef.a3<=s.cap
 le:(s.order.l.length:Int)=s.ef.a3
 ord:sJ (eX (fi s.ef)) s.order.l=true
theorem aaq (s:gd) :g8 s=0<->tc s:=by
 unfold g8;constructor
 ·intro h;split at h
  ·rename_i ad;split at h
   ·rename_i ae;exact⟨ad.1,ad.2.1,(Z9 _).1 ad.2.2.1,ad.2.2.2.1,ad.2.2.2.2,by rw[<-YD]; exact ae⟩
   ·cases h
  ·cases h
 ·rintro⟨a8,bh,b6,eW,gn,hH⟩;rw[if_pos ⟨a8,bh,(Z9 _).2 b6,eW,gn⟩,if_pos (by rw[GK,YD]; exact hH)]
noncomputable def Ak (s:gd) :bz:=if g8 s=0 then eX (fi s.ef) else ⟨none,none⟩
noncomputable def v8 (s:gd) :U:=.bq [df (Ak s),.int .i64 (g8 s)]
theorem CN {s:gd} (h:¬ tc s) :v8 s=.bq [.aH [.aG,.aG],.int .i64 8] :=by
 have aJ:¬ g8 s=0:=fun e=>h ((aaq s).1 e)
 unfold v8 Ak;rw[if_neg aJ,(aoQ s).resolve_left aJ]; rfl
theorem aoo {s:gd} (h:tc s) :v8 s=.bq [df (eX (fi s.ef)),.int .i64 0] :=by
 have aJ:g8 s=0:=(aaq s).2 h;unfold v8 Ak;rw[if_pos aJ,aJ]
theorem aen (e:dk) (am:ds e) (al:e.l.length<=1000000) {l:ap} {be:Nat} (ad:l[be]? = some (.cells 1 [aA e])) (xs:List (List B)) (ag:∀ p∈xs,p.length=32) :
  GX 98 [.ptr be 0 1] l xs (fun p=>!decide (p∈e.l)) :=by
 intro p au l1 dh K aY;apply bn Tryz.func98 [];have iw:=ag p au;have fv:=dq iw;have Nr:=g2 p;have q1:l1[be]? = some (.cells 1 [aA e]) :=by rw[dh.2 _ (cd ad)]; exact ad
 have aK:∀ c:aV,(l1++[c])[be]? = some (.cells 1 [aA e]) :=fun c=>by rw[awS (cd q1)]; exact q1
 have Ez:=dd e;have c7:=KG e am al p iw;simp[aK,fv,awR];refine a7 c7 (by simp[a4,U.closed,Ez,Nr]) ?_;simp;exact aY _ ⟨by simp,fun b af=>awS af⟩
theorem acT (n k:Nat) (h:k<=n) :hc n n none (some (.int .i64 (k:Int))) (some (.int .i64 (k:Int)))=some (0,k,k) :=by
 have af:k6 (.int .i64 (k:Int)) n=some k:=by
  show (if 0<=(k:Int)/\(k:Int)<=(n:Int) then some (k:Int).toNat else none)=some k;rw[if_pos ⟨by omega,by omega⟩]; simp
 have ej:k6 (.int .i64 (k:Int)) k=some k:=by
  show (if 0<=(k:Int)/\(k:Int)<=(k:Int) then some (k:Int).toNat else none)=some k;rw[if_pos ⟨by omega,by omega⟩]; simp
 unfold hc;simp only[af,ej]
theorem aoZ {α:Type} {z:Nat} {enc:α->List U} {s:b8 α} {k:Nat} (h:k<=s.l.length) :fm (.aq z) (cc z enc s) none (some (.int .i64 (k:Int))) (some (.int .i64 (k:Int)))=some (cc z enc (kz s k)) :=by
 cases s with
 | none=>
  have:k=0:=by simpa using h
  subst this; rfl
 | some a=>
  have ar:k<=a.length:=h;simp only[fm,cc,if_true,aw1,acT _ _ ar,aw0,ax5,azc,kz,ay1]
end Op

end Go.bV

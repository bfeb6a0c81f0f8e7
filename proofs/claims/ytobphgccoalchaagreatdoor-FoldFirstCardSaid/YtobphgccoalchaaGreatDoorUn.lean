/-
  An operation put into a graph, in the reference, walked.
-/
import Derived.Test.YtobphgccoalchaaGreatDoorUm
set_option linter.unusedVariables false
set_option linter.unusedSimpArgs false
set_option linter.unnecessarySimpa false
namespace Go.cb
open Go Go.Proofs
set_option maxRecDepth 100000
namespace Op
open gT
section
variable {α:Type} {z:Nat} {enc:α->List U}
def ub (s:cQ α) (k:Nat) :cQ α:=match s with | none=>none | some a=>some (a.take k)
def vL (s:cQ α) (k:Nat) :cQ α:=match s with | none=>none | some a=>some (a.drop k)
theorem B0 (s:cQ α) (k:Nat) :(ub s k).l=s.l.take k:=by cases s<;>simp[ub]
theorem ZV (s:cQ α) (k:Nat) :(vL s k).l=s.l.drop k:=by cases s<;>simp[vL]
theorem Pd {s:cQ α} {k:Nat} (h:k<=s.l.length) :fG (.ar z) (cB z enc s) none (some (.int .i64 (k:Int))) none=some (cB z enc (ub s k)) :=by
 cases s with
 | none=>
  have:k=0:=by simpa using h
  subst this; rfl
 | some a=>exact OX (z:=z) (enc:=enc) (l:=a) (k:=.i64) (i:=(k:Int)) (by omega) (by have:k<=a.length:=h; omega)
theorem ZW {s:cQ α} {k:Nat} (h:k<=s.l.length) :fG (.ar z) (cB z enc s) (some (.int .i64 (k:Int))) none none=some (cB z enc (vL s k)) :=by
 cases s with
 | none=>
  have:k=0:=by simpa using h
  subst this; rfl
 | some a=>exact Zx (z:=z) (enc:=enc) (l:=a) (k:=.i64) (i:=(k:Int)) (by omega) (by have:k<=a.length:=h; omega)
theorem Yy {by_:Nat} {l:am} {b c k:Nat} {s:cQ α} {x:α} (ag:l[b]? = some (.cells 0 [])) (ah:l[c]? = some (.cells z (enc x))) (u0:b≠c) (hk:k<=s.l.length) (ak:∀ y∈s.l,(enc y).length=z) (af:(enc x).length=z) (aD:z≠0) (ea:by_≠0) (dA:(s.l.length+1)*by_<=cy) :
  gx l z by_ (.ar z b 0 0 0 0) (cB z enc (ub s k))=some (.ar z b 0 k k (k*z),l.set b (.cells (k*z) ((s.l.take k).map enc).flatten)) ∧
  gx (l.set b (.cells (k*z) ((s.l.take k).map enc).flatten)) z by_ (.ar z b 0 k k (k*z)) (.ar z c 0 1 1 z)=some (.ar z b 0 (k+1) (k+1) ((k+1)*z),l.set b (.cells ((k+1)*z) ((s.l.take k++[x]).map enc).flatten)) ∧
  gx (l.set b (.cells ((k+1)*z) ((s.l.take k++[x]).map enc).flatten)) z by_ (.ar z b 0 (k+1) (k+1) ((k+1)*z)) (cB z enc (vL s k)) =
   some (.ar z b 0 (fj s.l k x).length (fj s.l k x).length ((fj s.l k x).length*z),l.set b (.cells ((fj s.l k x).length*z) ((fj s.l k x).map enc).flatten)) :=by
 have eU:=eu ag;have cq:(s.l.take k).length=k:=by rw[av1]; omega
 have MW:∀ y∈s.l.take k,(enc y).length=z:=fun y ax=>ak y (awh ax)
 have dw:k*by_<=cy:=axc (avX _ (by omega)) dA;have Hs:(k+1)*by_<=cy:=axc (avX _ (by omega)) dA;refine⟨?_,?_,?_⟩
 ·have:=abR (enc:=enc) (by_:=by_) l b ag (ub s k) (by rw[B0]; exact MW) aD ea (by rw[B0,cq]; exact dw);rw[B0,cq] at this;exact this
 ·have:=Qh (l:=l.set b (.cells (k*z) ((s.l.take k).map enc).flatten)) (z:=z) (by_:=by_) (b:=b) (n:=k) (m:=1) (sz:=k*z) (es:=(s.l.take k).map enc) (xs:=[enc x]) (x:=.ar z c 0 1 1 z)
   (av3 eU) (by simp[dE,av0 u0,ah,af,avO]) (by rw[av8,cq]) rfl rfl (fun e ao=>by obtain⟨y,ax,rfl⟩:=awf.1 ao; exact MW y ax) aD ea Hs
  rw[this,List.set_set];simp
 ·have tf:(vL s k).l.length=s.l.length - k:=by rw[ZV,awW]
  have aC:k+1+(s.l.length - k)=(fj s.l k x).length:=by rw[o0]; omega
  have:=Qh (l:=l.set b (.cells ((k+1)*z) ((s.l.take k++[x]).map enc).flatten)) (z:=z) (by_:=by_) (b:=b) (n:=k+1) (m:=s.l.length - k) (sz:=(k+1)*z) (es:=(s.l.take k++[x]).map enc) (xs:=(vL s k).l.map enc) (x:=cB z enc (vL s k))
   (av3 eU) (by rw[uG,tf]) (by rw[av8,avW,cq]; rfl) (by rw[av8,tf]) rfl (fun e ao=>by
    obtain⟨y,ax,rfl⟩:=awf.1 ao;rcases awl.1 ax with h | h
    ·exact MW y h
    ·rw[awd.1 h]; exact af) aD ea (by rw[aC,o0]; exact dA)
  rw[this,List.set_set,aC,ZV,<-awm];unfold fj;simp
end
def so (g:bc) (x:List B) (o:bm) :bc:=m4 ⟨some (fj g.ids.l (hf g.ids.l x) x),some (fj g.ops.l (hf g.ids.l x) o)⟩
theorem Km (l:List (List B)) (x:List B) :hf l x<=l.length:=by unfold hf; exact (List.takeWhile_sublist _).length_le
theorem Kn {x:List B}:∀ {l:List (List B)} {k:Nat} {y:List B},k<hf l x->l[k]? = some y->cj y x<0
 | [],k,y,_,h=>by simp at h
 | a::l,k,y,hk,h=>by
  unfold hf at hk;rw[aw7] at hk;by_cases aA:cj a x<0
  ·cases k with
   | zero=>simp at h; subst h; exact aA
   | succ k=>
    rw[decide_eq_true aA] at hk;simp at hk h;exact Kn (l:=l) (by unfold hf; exact hk) h
  ·rw[decide_eq_false aA] at hk; simp at hk
theorem Kl {x:List B}:∀ {l:List (List B)} {y:List B},l[hf l x]? = some y->¬ cj y x<0
 | [],y,h=>by simp at h
 | a::l,y,h=>by
  unfold hf at h;rw[aw7] at h;by_cases aA:cj a x<0
  ·rw[decide_eq_true aA] at h;simp at h;exact Kl (l:=l) (by unfold hf; exact h)
  ·rw[decide_eq_false aA] at h; simp at h; subst h; exact aA
set_option maxHeartbeats 8000000 in
theorem alF (g:bc) (aq:et g) (al:g.ids.l.length=g.ops.l.length) (aC:g.ids.l.length<1000) (x:List B) (af:x.length=32) (o:bm) (ap:hX o) :
  bz Tryz.prog GS 76 [cl g,.aH (aO x),.aH (a2 o)] (cl (so g x o)) :=by
 refine bL Tryz.checked.mixed bE ?_;apply bp Tryz.func76 [[],[[0],[1],[2],[3],[4],[6],[7],[9],[10],[11],[12],[5,10,7,6],[8,10]],[[0],[1],[2],[3],[4],[6],[7],[9],[10],[11],[12],[5,10,7,6],[8,10]]];have az:cy=140737488355328:=rfl;have bf:=cC af;have gL:=e4 x;have bY:(a2 o).length=11:=rfl;have va:=i6 o;have dh:=eK g.ids;have fE:cK (.ar 32) (aK g.ids)=some (.int .i64 g.ids.l.length) :=by simp[aK]
 obtain⟨X,cv⟩:∃ X,X=aO x:=⟨_,rfl⟩
 obtain⟨O,du⟩:∃ O,O=a2 o:=⟨_,rfl⟩
 have j8:bt (rep 32 (.int .u8 0)) 0 X=X:=eM (by rw[cv,bf]; rfl);have qu:X.length=32:=by rw[cv]; exact bf
 have n2:O.length=11:=by rw[du]; rfl
 have uY:X.take 32=X:=avO (by omega);have UI:O.take 11=O:=avO (by omega);have hg:bt [U.int .u32 0,.aT,.int .u64 0,.int .u8 0,.str [],.int .u8 0,.int .i64 0,.int .u64 0,.str [],.int .u32 0,.int .u32 0] 0 O=O:=eM (by rw[n2]; rfl);have UP:bd X=true:=by rw[cv]; exact gL
 simp[cl,cP,<-cv,<-du,qu,n2];obtain⟨c,ah⟩:∃ c,c=hf g.ids.l x:=⟨_,rfl⟩
 have ej:c<=g.ids.l.length:=by rw[ah]; exact Km _ _
 refine cI c (fun k ae l=>l=[.cells 2 [aK g.ids,bB g.ops],.cells 32 X,.cells 11 O,.cells 2 [.aT,.aT],.cells 2 [.aT,.aT]]/\ae 3=.ptr 0 0 2/\ae 4=.ptr 1 0 32/\ae 5=.ptr 2 0 11/\ae 6=.ptr 3 0 2/\ae 7=.ptr 4 0 2/\ae 8=.int .i64 k) ?_ ⟨rfl,by simp,by simp,by simp,by simp,by simp,by simp⟩;rintro k ae l hk ⟨rfl,a8,bA,bi,b8,dk,dj⟩;obtain⟨ae,rfl⟩:=vP a8 bA bi b8 dk dj;clear a8 bA bi b8 dk dj;have aR:IntKind.i64.wrap ((k:Int)+1)=((k+1:Nat) :Int) :=by rw[IntKind.wrap_i64]; omega
 by_cases L7:k<c
 ·obtain⟨y,ax,cr⟩:=bx (l:=g.ids.l) (k:=k) (by omega);have aM:cj y x<0:=Kn (by rw[<-ah]; exact L7) ax;have gj:k<g.ids.l.length:=by omega
  have mW:=aq.ids y cr;have cg:=cC mW;have k4:=e4 y;have fp:=IR y x mW af;have bN:ck (.ar 32) (aK g.ids) (.int .i64 (k:Int))=some (.b3 (aO y) 0) :=by simp[aK,ax]
  change bz Tryz.prog GS _ [.aH (aO y),.aH (aO x)] _ at fp;rw[<-cv] at fp;obtain⟨Y,eD⟩:∃ Y,Y=aO y:=⟨_,rfl⟩
  rw[<-eD] at bN cg k4 fp;simp[fE,gj,bN,cg,qu,avO];refine a6 fp (by simp[bd,U.closed,UP,k4]) ?_;simp[aM,aR];exact L7
 ·have VG:k=c:=by omega
  have qW:∀ y∈g.ids.l,(aO y).length=32:=fun y ax=>cC (aq.ids y ax)
  have iH:∀ y∈g.ops.l,(a2 y).length=11:=fun y ax=>rfl
  have dL:=aq.cV;have t1:fG (.ar 32) (aK g.ids) none (some (.int .i64 (k:Int))) none=some (aK (ub g.ids k)) :=Pd (by omega);have t2:fG (.ar 32) (aK g.ids) (some (.int .i64 (k:Int))) none none=some (aK (vL g.ids k)) :=ZW (by omega);have t3:fG (.ar 11) (bB g.ops) none (some (.int .i64 (k:Int))) none=some (bB (ub g.ops k)) :=Pd (by omega);have t4:fG (.ar 11) (bB g.ops) (some (.int .i64 (k:Int))) none none=some (bB (vL g.ops k)) :=ZW (by omega);obtain⟨I,mI⟩:∃ I,I=fj g.ids.l k x:=⟨_,rfl⟩
  obtain⟨J,GM⟩:∃ J,J=fj g.ops.l k o:=⟨_,rfl⟩
  obtain⟨PN,afd⟩:∃ PN,PN=((g.ids.l.take k).map aO).flatten:=⟨_,rfl⟩
  obtain⟨PO,Li⟩:∃ PO,PO=((g.ids.l.take k++[x]).map aO).flatten:=⟨_,rfl⟩
  obtain⟨PP,afe⟩:∃ PP,PP=((g.ops.l.take k).map a2).flatten:=⟨_,rfl⟩
  obtain⟨PQ,aff⟩:∃ PQ,PQ=((g.ops.l.take k++[o]).map a2).flatten:=⟨_,rfl⟩
  obtain⟨lG,sl,BI⟩:=Yy (enc:=aO) (z:=32) (by_:=32) (l:=[.cells 2 [aK g.ids,bB g.ops],.cells 32 X,.cells 11 O,.cells 2 [.aT,.aT],.cells 2 [.aT,.aT],.cells 0 [],.cells 32 X]) (b:=5) (c:=6) (k:=k) (s:=g.ids) (x:=x) rfl (by rw[cv]; rfl) (by omega) (by omega) qW bf (by omega) (by omega) (by rw[az]; omega);obtain⟨Iz,EP,zA⟩:=Yy (enc:=a2) (z:=11) (by_:=112) (l:=[.cells 2 [aK g.ids,bB g.ops],.cells 32 X,.cells 11 O,.cells 2 [.aT,.aT],.cells 2 [aK (some I),.aT],.dead,.cells 32 X,.cells 0 [],.cells 11 O]) (b:=7) (c:=8) (k:=k) (s:=g.ops) (x:=o) rfl (by rw[du]; rfl) (by omega) (by omega) iH bY (by omega) (by omega) (by rw[az]; omega);change gx _ _ _ _ (aK _)=_ at lG BI;change gx _ _ _ _ (bB _)=_ at Iz zA;simp only[<-mI,<-afd,<-Li,axU,axy] at lG sl BI;simp only[<-GM,<-afe,<-aff,axU,axy] at Iz EP zA;have afo:∀ y∈I,(aO y).length=32:=fun y ax=>by
   rw[mI,tw] at ax;rcases ax with h | h
   ·rw[h]; exact bf
   ·exact qW y h
  have afs:∀ y∈J,(a2 y).length=11:=fun y ax=>rfl
  have afl:U.bQ 32 (I.map aO)=aK (some I) :=rfl;have afp:U.bQ 11 (J.map a2)=bB (some J) :=rfl;have afm:=An (some I);have afq:(bB (some J)).cells=some [bB (some J)] :=rfl;have afn:=eK (some I);have afr:=i7 (some J);have uX:=An (m4 ⟨some I,some J⟩).ids;have Dt:(bB (m4 ⟨some I,some J⟩).ops).cells=some [bB (m4 ⟨some I,some J⟩).ops] :=by cases (m4 ⟨some I,some J⟩).ops<;>rfl
  have n4:=eK (m4 ⟨some I,some J⟩).ids;have afD:=i7 (m4 ⟨some I,some J⟩).ops;have aky:et ⟨some I,some J⟩:=by
   refine⟨fun y ax=>?_,fun q aW=>?_,?_,?_⟩
   ·have WA:y∈I:=ax;rw[mI,tw] at WA;rcases WA with h | h
    ·rw[h]; exact af
    ·exact aq.ids y h
   ·have nn:q∈J:=aW;rw[GM,tw] at nn;rcases nn with h | h
    ·rw[h]; exact ap
    ·exact aq.ops q h
   ·show I.length<=_; rw[mI,o0]; omega
   ·show J.length<=_; rw[GM,o0]; omega
  have D6:=alN ⟨some I,some J⟩ aky;unfold cl cP at D6;have Bd:so g x o=m4 ⟨some I,some J⟩:=by unfold so; rw[mI,GM,VG,ah]
  by_cases gj:k<g.ids.l.length
  all_goals first
   | (
     obtain⟨y,ax,cr⟩:=bx gj;have aM:¬ cj y x<0:=Kl (by rw[<-ah,<-VG]; exact ax);have mW:=aq.ids y cr;have cg:=cC mW;have k4:=e4 y;have fp:=IR y x mW af;have bN:ck (.ar 32) (aK g.ids) (.int .i64 (k:Int))=some (.b3 (aO y) 0) :=by simp[aK,ax]
     change bz Tryz.prog GS _ [.aH (aO y),.aH (aO x)] _ at fp;rw[<-cv] at fp;obtain⟨Y,eD⟩:∃ Y,Y=aO y:=⟨_,rfl⟩
     rw[<-eD] at bN cg k4 fp;simp[fE,gj,bN,cg,qu,avO];refine a6 fp (by simp[bd,U.closed,UP,k4]) ?_;simp[aM,t1,t2,qu,j8,avO,lG])
   | simp[fE,gj,t1,t2,qu,j8,avO,lG]
  all_goals
   refine dp.cx ?_;simp[t1,t2,qu,uY,j8,sl];refine dp.cx ?_;simp[BI];refine dp.Db (by exact EN afo rfl rfl) rfl ?_;simp[afl,afm,t3,t4,n2,UI,hg,Iz];refine dp.cx ?_;simp[t3,t4,n2,UI,hg,EP];refine dp.cx ?_;simp[zA];refine dp.Db (by exact EN afs rfl rfl) rfl ?_;simp[afp,afq,bt];refine a6 D6 (by simp[bd,U.closed,afn,afr]) ?_;simp[cP,uX,Dt,bt];rw[Bd];exact aL rfl (show (U.aH [aK (m4 ⟨some I,some J⟩).ids,bB (m4 ⟨some I,some J⟩).ops]).closed=true by simp[U.closed,bd,n4,afD])
theorem WN {α:Type} {l:List α} {i k:Nat} {x:α} (hk:i<k) (av:i<=l.length) :(fj l i x)[k]? = l[k - 1]?:=by
 unfold fj;rw[av2 (by rw[av1]; omega),av1,awQ av];obtain⟨d,rfl⟩:∃ d,k=i+d+1:=⟨k - i - 1,by omega⟩
 rw[show i+d+1 - i=d+1 by omega,awx,awv];rfl
structure z8 (l:List bm) (g:bc) :Prop where
 ok:et g
 len:g.ids.l.length=l.length
 Nv:g.ops.l.length=l.length
 nv:∀ (j:Nat) (x:List B),g.ids.l[j]? = some x->∃ o∈l,g.ops.l[j]? = some (jW o)/\x=cH o
 all:∀ o∈l,cH o∈g.ids.l
 c9:c9 g.ids.l=true
theorem ak8:z8 [] ⟨none,none⟩:=⟨⟨fun x h=>(by cases h),fun x h=>(by cases h),by simp,by simp⟩,rfl,rfl,fun j x h=>by simp at h,fun o h=>(by cases h),by unfold Op.c9; exact decide_eq_true fun k hk=>by simp at hk⟩
theorem amj {l:List (List B)} {x:List B} (h:c9 l=true) (af:x∉l) :c9 (fj l (hf l x) x)=true:=by
 have ay:=Zb h;have dw:=Km l x;refine X6 ?_;unfold fj;have aM:∀ y∈l.take (hf l x),hz y x=true:=fun y ax=>by
  obtain⟨k,hk⟩:=avT.1 ax;have cq:=(avP.1 hk).1;rw[av1] at cq;rw[awb (by omega)] at hk;exact (sb _ _).2 (Kn (by omega) hk)
 have l0:∀ y∈l.drop (hf l x),hz x y=true:=fun y ax=>by
  have cr:=axo ax;obtain⟨k,hk⟩:=avT.1 ax;rw[awv] at hk;obtain⟨z,aw,qX⟩:=bx (l:=l) (k:=hf l x) (by have:=(avP.1 hk).1; omega);have h1:hz x z=true:=Ey z x (fun e=>af (by rw[<-e]; exact qX)) (by
   cases ad:hz z x with
   | false=>rfl
   | true=>exact absurd ((sb _ _).1 ad) (Kl aw))
  by_cases pB:k=0
  ·subst pB; rw[ayd,aw] at hk; obtain rfl:=Option.some.inj hk; exact h1
  ·exact xn _ _ _ h1 ((sb _ _).2 (xH h (show hf l x<hf l x+k by omega) aw hk))
 rw[axL];refine⟨ay.sublist (axI _ _),axE.2 ⟨l0,ay.sublist (List.drop_sublist _ _)⟩,fun a aA b ag=>?_⟩;rcases awA.1 ag with e | e
 ·rw[e]; exact aM a aA
 ·exact xn _ _ _ (aM a aA) (l0 b e)
theorem ak9 {l:List bm} {g:bc} (h:z8 l g) {o:bm} (ap:hX o) (aC:∀ q∈l,cH q≠cH o) (al:l.length<1000) :z8 (l++[o]) (so g (cH o) o) :=by
 have af:cH o∉g.ids.l:=fun hm=>by
  obtain⟨j,ai⟩:=avT.1 hm;obtain⟨q,aW,_,e⟩:=h.nv j _ ai;exact aC q aW e.symm
 have dw:=Km g.ids.l (cH o);have bn:=h.len;have ar5:=h.Nv;have DH:(so g (cH o) o).ids.l=fj g.ids.l (hf g.ids.l (cH o)) (cH o) :=rfl;have Mp:(so g (cH o) o).ops.l=(fj g.ops.l (hf g.ids.l (cH o)) o).map jW:=by unfold so m4; exact ew _
 obtain⟨c,ah⟩:∃ c,c=hf g.ids.l (cH o) :=⟨_,rfl⟩
 rw[<-ah] at DH Mp dw;refine⟨?_,?_,?_,fun j x ai=>?_,fun q aW=>?_,?_⟩
 ·unfold so;rw[<-ah];refine an4 ⟨fun y ax=>?_,fun q aW=>?_,?_,?_⟩
  ·rcases tw.1 (show y∈fj _ _ _ from ax) with e | e
   ·rw[e]; exact Ee o
   ·exact h.ok.ids y e
  ·rcases tw.1 (show q∈fj _ _ _ from aW) with e | e
   ·rw[e]; exact ap
   ·exact h.ok.ops q e
  ·show (fj _ _ _).length<=_; rw[o0]; omega
  ·show (fj _ _ _).length<=_; rw[o0]; omega
 ·rw[DH,o0,avW]; simp; omega
 ·rw[Mp,av8,o0,avW]; simp; omega
 ·rw[DH] at ai;rw[Mp,avV];rcases awY j c with e | e | e
  ·rw[WO e dw] at ai;rw[WO e (by omega)];obtain⟨q,aW,h1,ad⟩:=h.nv j x ai;exact⟨q,axA _ aW,by rw[h1]; rfl,ad⟩
  ·subst e;rw[WM dw] at ai;rw[WM (by omega)];exact⟨o,by simp,rfl,(Option.some.inj ai).symm⟩
  ·rw[WN e dw] at ai;rw[WN e (by omega)];obtain⟨q,aW,h1,ad⟩:=h.nv (j - 1) x ai;exact⟨q,axA _ aW,by rw[h1]; rfl,ad⟩
 ·rw[DH,tw];rcases awl.1 aW with e | e
  ·exact .inr (h.all q e)
  ·rw[awd.1 e]; exact .inl rfl
 ·rw[DH,ah]; exact amj h.c9 af
def lF (l:List bm) :Nat->bc
 | 0=>⟨none,none⟩
 | k+1=>so (lF l k) (cH (lc l k)) (lc l k)
theorem XP {l:List bm} {k:Nat} {o:bm} (h:l[k]? = some o) :lF l (k+1)=so (lF l k) (cH o) o:=by
 show so _ (cH (lc l k)) (lc l k)=_;rw[sk h]
theorem NP {l:List bm} (al:l.length<1000) (ap:∀ o∈l,hX o) (bC:l.Pairwise fun a b=>cH a≠cH b) :∀ {k:Nat},k<=l.length->z8 (l.take k) (lF l k)
 | 0,_=>ak8
 | k+1,hk=>by
  have aJ:=NP al ap bC (k:=k) (by omega);obtain⟨o,c1,dd⟩:=bx (l:=l) (k:=k) (by omega);have e:l.take (k+1)=l.take k++[o] :=by rw[av7,c1]; rfl
  rw[XP c1,e];refine ak9 aJ (ap o dd) (fun q aW=>?_) (by rw[av1]; omega);obtain⟨i,av⟩:=avT.1 aW;have c3:=(avP.1 av).1;rw[av1] at c3;rw[awb (by omega)] at av;obtain⟨h1,ad⟩:=avP.1 av;obtain⟨aj,aE⟩:=avP.1 c1;have:=aww.1 bC i k h1 aj (by omega);rw[ad,aE] at this; exact this
structure abf (l:cQ bm) (k:Nat) (ae:bg) (h:am) :Prop where
 cf:ae 0=bB l
 aU:ae 2=.ptr 0 0 2
 bi:ae 5=.ptr 1 0 2
 b8:ae 6=.int .i64 k
 ex:∃ m,h=.cells 2 [.aT,.aT] ::.cells 2 (cP (lF l.l k)) ::m
set_option maxHeartbeats 8000000 in
theorem alA (l:cQ bm) (al:l.l.length<=60) (ap:∀ o∈l.l,hX o) (au:∀ o∈l.l,oG o=0) (bC:l.l.Pairwise fun a b=>cH a≠cH b) (ak:nD (lF l.l l.l.length).ids.l (lF l.l l.l.length).ops.l=0) :
  bz Tryz.prog GS 32 [bB l] (.bG [cl (lF l.l l.l.length),.int .i64 0]) :=by
 refine bL Tryz.checked.mixed bE ?_;apply bp Tryz.func32 [];have dL:cK (.ar 11) (bB l)=some (.int .i64 l.l.length) :=by simp[bB]
 have j2:¬ (60:Int)<(l.l.length:Int) :=by omega
 have GF:¬ 60<l.l.length:=by omega
 simp[dL,j2,GF];refine cI l.l.length (fun k ae h=>h=[.cells 2 [.aT,.aT]]/\ae 0=bB l/\ae 2=.ptr 0 0 2/\ae 4=.int .i64 k) ?_ ⟨rfl,by simp,by simp,by simp⟩;rintro k ae h hk ⟨rfl,cf,aU,bA⟩;obtain⟨ae,rfl⟩:=kj cf aU bA;clear cf aU bA;have aR:IntKind.i64.wrap ((k:Int)+1)=((k+1:Nat) :Int) :=by rw[IntKind.wrap_i64]; omega
 by_cases cq:k<l.l.length
 ·obtain⟨o,c1,dd⟩:=bx cq;have bN:ck (.ar 11) (bB l) (.int .i64 (k:Int))=some (.b3 (a2 o) 0) :=by simp[bB,c1]
  have oZ:=YP o (ap o dd);rw[au o dd] at oZ;have bY:(a2 o).length=11:=rfl;have va:=i6 o;obtain⟨O,du⟩:∃ O,O=a2 o:=⟨_,rfl⟩
  rw[<-du] at bN oZ bY va;simp[dL,cq,bN,bY,avO];refine a6 oZ (by simp[bd,U.closed,va]) ?_;simp[aR];exact cq
 ·simp[dL,cq];refine cI l.l.length (abf l) ?_ ⟨by simp,by simp,by simp,by simp,[],rfl⟩;clear hk cq aR;rintro k ae h hk ⟨cf,aU,bi,b8,m,rfl⟩;obtain⟨ae,rfl⟩:=i0 cf aU bi b8;clear cf aU bi b8;have aR:IntKind.i64.wrap ((k:Int)+1)=((k+1:Nat) :Int) :=by rw[IntKind.wrap_i64]; omega
  have ay:=NP (by omega) ap bC (k:=k) hk;have gq:=ay.len;have jf:=ay.Nv;rw[av1,awQ hk] at gq jf;have dh:=eK (lF l.l k).ids;have cz:=i7 (lF l.l k).ops;by_cases cq:k<l.l.length
  ·obtain⟨o,c1,dd⟩:=bx cq;have bN:ck (.ar 11) (bB l) (.int .i64 (k:Int))=some (.b3 (a2 o) 0) :=by simp[bB,c1]
   have aD:=zS (au o dd);have kY:=YJ o (ap o dd) (by have:=zy aD; omega);have e1:cH o=ie (iA o) :=by unfold cH; rw[if_pos aD]
   rw[<-e1] at kY;change bz Tryz.prog GS 33 [.aH (a2 o)] (.aH (aO (cH o))) at kY;have ji:=Ee o;have fA:=Oh (lF l.l k).ids ay.ok.ids ay.ok.li (cH o) ji;have dM:cH o∉(lF l.l k).ids.l:=fun hm=>by
    obtain⟨j,ai⟩:=avT.1 hm;obtain⟨q,aW,_,e⟩:=ay.nv j _ ai;obtain⟨i,av⟩:=avT.1 aW;have c3:=(avP.1 av).1;rw[av1] at c3;rw[awb (by omega)] at av;obtain⟨h1,ad⟩:=avP.1 av;obtain⟨aj,aE⟩:=avP.1 c1;have:=aww.1 bC i k h1 aj (by omega);rw[ad,aE] at this; exact this e.symm
   have oh:¬ 0<=iJ (cH o) (lF l.l k).ids.l 0:=fun h=>dM ((xe _ _ _).1 h)
   have ix:=alF (lF l.l k) ay.ok (by omega) (by omega) (cH o) ji o (ap o dd);rw[<-XP c1] at ix;have bY:(a2 o).length=11:=rfl;have va:=i6 o;have bf:=cC ji;have gL:=e4 (cH o);obtain⟨O,du⟩:∃ O,O=a2 o:=⟨_,rfl⟩
   obtain⟨X,cv⟩:∃ X,X=aO (cH o) :=⟨_,rfl⟩
   obtain⟨hc,fJ⟩:∃ hc,hc=iJ (cH o) (lF l.l k).ids.l 0:=⟨_,rfl⟩
   rw[<-du] at bN kY bY va ix;rw[<-cv] at kY fA ix bf gL;rw[<-fJ] at fA oh;have j8:bt (rep 32 (.int .u8 0)) 0 X=X:=eM (by rw[bf]; rfl);have uY:X.take 32=X:=avO (by omega);unfold cl cP at ix;simp[cP,dL,cq,bN,bY,bf,j8,uY,avO];refine a6 kY (by simp[bd,U.closed,va]) ?_;simp[j8,bf,uY];refine a6 fA (by simp[bd,U.closed,dh,gL]) ?_;simp[oh,bf,uY,bN,bY,avO];refine a6 ix (by simp[bd,U.closed,dh,cz,gL,va]) ?_;simp[bt,aR];exact⟨cq,by simp,by simp,by simp,by simp,m++[_],by simp[cP]; rfl⟩
  ·have gj:k=l.l.length:=by omega
   subst gj;have mT:=YL (lF l.l l.l.length) ay.ok (by omega);rw[ak] at mT;unfold cl cP at mT;simp[dL,cP];refine a6 mT (by simp[bd,U.closed,dh,cz]) ?_;simp[bt];exact aL rfl (show (U.bG [.aH [aK (lF l.l l.l.length).ids,bB (lF l.l l.l.length).ops],.int .i64 0]).closed=true by simp[U.closed,bd,dh,cz])
def iX (g:bc) (D:List (List B)) :List bm:=D.map fun x=>(mF g x).1
theorem xv {g:bc} (V:iE g) {x:List B} (af:x∈g.ids.l) :∃ (j:Nat) (o:bm),g.ids.l[j]? = some x/\g.ops.l[j]? = some o/\(mF g x).1=o/\cH o=x/\o∈g.ops.l:=by
 obtain⟨j,ai⟩:=avT.1 af;obtain⟨o,ap,dd⟩:=bx (l:=g.ops.l) (k:=j) (by rw[<-V.len]; exact (avP.1 ai).1);exact⟨j,o,ai,ap,by rw[rG V ai ap],(V.jC j o x ap ai).2,dd⟩
theorem akH {g:bc} (aq:et g) (V:iE g) {D:List (List B)} (bM:gU g D) :(∀ o∈iX g D,hX o)/\(∀ o∈iX g D,oG o=0)/\(iX g D).Pairwise (fun a b=>cH a≠cH b) :=by
 refine⟨fun o ap=>?_,fun o ap=>?_,?_⟩
 ·obtain⟨x,af,rfl⟩:=awf.1 ap;obtain⟨j,o,h1,ad,aj,aE,aX⟩:=xv V (bM.sub x af);rw[aj]; exact aq.ops o aX
 ·obtain⟨x,af,rfl⟩:=awf.1 ap;obtain⟨j,o,h1,ad,aj,aE,aX⟩:=xv V (bM.sub x af);rw[aj]; exact (V.jC j o x ad h1).1
 ·unfold iX;rw[List.pairwise_map];refine List.Pairwise.imp_of_mem (R:=fun a b=>a≠b) (fun {a b} aA ag fo=>?_) bM.hA;obtain⟨_,o,_,_,aj,aE,_⟩:=xv V (bM.sub a aA);obtain⟨_,q,_,_,aX,bw,_⟩:=xv V (bM.sub b ag);rw[aj,aX,aE,bw]; exact fo
structure ut (g p:bc) (D:List (List B)) :Prop where
 mem:∀ x,x∈p.ids.l<->x∈D
 nv:∀ (bl:Nat) (x:List B),p.ids.l[bl]? = some x->∃ (j:Nat) (o:bm),g.ids.l[j]? = some x/\g.ops.l[j]? = some o/\p.ops.l[bl]? = some (jW o)
theorem ZQ {g:bc} (V:iE g) {D:List (List B)} (bM:gU g D) {p:bc} (h:z8 (iX g D) p) :ut g p D:=by
 refine⟨fun x=>⟨fun af=>?_,fun af=>?_⟩,fun bl x af=>?_⟩
 ·obtain⟨j,ai⟩:=avT.1 af;obtain⟨q,aW,_,e⟩:=h.nv j x ai;obtain⟨y,ax,rfl⟩:=awf.1 aW;obtain⟨_,o,_,_,aj,aE,_⟩:=xv V (bM.sub y ax);rw[e,aj,aE]; exact ax
 ·obtain⟨_,o,_,_,aj,aE,_⟩:=xv V (bM.sub x af);have:=h.all (mF g x).1 (axj af);rw[aj,aE] at this; exact this
 ·obtain⟨q,aW,h1,e⟩:=h.nv bl x af;obtain⟨y,ax,rfl⟩:=awf.1 aW;obtain⟨j,o,ad,aj,aE,aX,_⟩:=xv V (bM.sub y ax);rw[aE,aX] at e;subst e;exact⟨j,o,ad,aj,by rw[h1,aE]⟩
theorem ut.cT {g p:bc} {D:List (List B)} (ai:hW g.ids.l) (h:ut g p D) {j bl:Nat} {x:List B} (h1:g.ids.l[j]? = some x) (ad:p.ids.l[bl]? = some x) :Op.cT p.ops.l bl=Op.cT g.ops.l j:=by
 obtain⟨i,o,aV,a1,a3⟩:=h.nv bl x ad;rw[ai j i x h1 aV,lI a1,lI a3]; rfl
theorem ut.loc {g p:bc} {D:List (List B)} (ai:hW g.ids.l) (h:ut g p D) {x:List B} (af:x∈D) {j:Nat} {o:bm} (h1:g.ids.l[j]? = some x) (ad:g.ops.l[j]? = some o) :∃ bl:Nat,p.ids.l[bl]? = some x/\p.ops.l[bl]? = some (jW o) :=by
 obtain⟨bl,dv⟩:=avT.1 ((h.mem x).2 af);obtain⟨i,q,aV,a1,a3⟩:=h.nv bl x dv;have:=ai j i x h1 aV;subst this;rw[ad] at a1; obtain rfl:=Option.some.inj a1;exact⟨bl,dv,a3⟩
theorem tO {g:bc} (aq:et g) (aD:ep g=0) {D:List (List B)} (bM:gU g D) {p:bc} (h:z8 (iX g D) p) :ep p=0/\gU p D/\D.length=p.ids.l.length/\nD p.ids.l p.ops.l=0:=by
 have V:=mn aD;have dz:=jP V.c9;have dQ:=ZQ V bM h;have kS:p.ids.l.length=D.length:=by rw[h.len]; unfold iX; rw[av8]
 have bY:p.ops.l.length=p.ids.l.length:=by rw[h.Nv,h.len]
 have arz:=Je bM;have w1:=V.n60;have jh:=V.len;have GY:gU p D:=by
  refine⟨bM.hA,fun x af=>(dQ.mem x).2 af,fun i x bl av dv q aW=>?_⟩;obtain⟨j,ai⟩:=avT.1 (bM.sub x (avY av));rw[dQ.cT dz ai dv] at aW;exact bM.pre i x j av ai q aW
 have jI:∀ i,i<D.length->∀ x bl,D[i]? = some x->p.ids.l[bl]? = some x->pg p.ids.l p.ops.l bl:=by
  intro i
  induction i using Nat.strongRecOn with
  | _ i aJ=>
   intro av x bl af dv;refine .mk bl (avP.1 dv).1 (fun q aW=>(dQ.mem q).2 (awh (GY.pre i x bl af dv q aW))) fun q aW t aI=>?_
   obtain⟨a,aA⟩:=avT.1 (GY.pre i x bl af dv q aW);have gB:=(avP.1 aA).1;rw[av1] at gB;rw[awb (by omega)] at aA;exact aJ a (by omega) (by omega) q t aA aI
 have Wn:nD p.ids.l p.ops.l=0:=by
  unfold nD;rw[if_pos h.c9,if_pos,if_pos]
  ·refine (NU bY.symm (jP h.c9)).2 fun i av=>?_
   obtain⟨x,af,cE⟩:=bx (l:=p.ids.l) (k:=i) (by omega);obtain⟨a,aA⟩:=avT.1 ((dQ.mem x).1 cE);exact jI a (avP.1 aA).1 x i aA af
  ·unfold BG ks;rw[decide_eq_true_eq];intro o ap;rw[decide_eq_true_eq];intro q aW;obtain⟨bl,dv⟩:=avT.1 ap;obtain⟨x,af,cE⟩:=bx (l:=p.ids.l) (k:=bl) (by rw[<-bY]; exact (avP.1 dv).1);obtain⟨a,aA⟩:=avT.1 ((dQ.mem x).1 cE);exact (dQ.mem q).2 (awh (GY.pre a x bl aA af q (by rw[lI dv]; exact aW)))
 refine⟨?_,GY,kS.symm,Wn⟩;unfold ep;rw[if_neg (by omega),if_pos bY.symm,if_pos,Wn];rw[yt];intro k hk;obtain⟨cO,en,_⟩:=bx hk;obtain⟨x,af,_⟩:=bx (l:=p.ids.l) (k:=k) (by omega);obtain⟨j,o,aV,a1,a3⟩:=dQ.nv k x af;rw[en] at a3;obtain rfl:=Option.some.inj a3;obtain⟨h1,ad⟩:=V.jC j o x a1 aV;rw[Dh en af,decide_eq_true (show oG (jW o)=0 from h1),decide_eq_true (show cH (jW o)=x from ad)]; rfl
theorem alV {g p:bc} {D:List (List B)} (ai:hW g.ids.l) (dQ:ut g p D) (bM:gU g D) {L:List (List B)} (eT:∀ q∈L,q∈D) :∀ {i:Nat} {x:List B},ii g.ids.l g.ops.l L i->g.ids.l[i]? = some x->x∈D/\∀ fU,p.ids.l[fU]? = some x->ii p.ids.l p.ops.l L fU:=by
 intro i x h
 induction h generalizing x with
 | start q j aW u6=>
  intro af;rw[u6] at af; obtain rfl:=Option.some.inj af;exact⟨eT q aW,fun fU fq=>.start q fU aW fq⟩
 | step t q j h aW u6 aJ=>
  intro af;rw[u6] at af; obtain rfl:=Option.some.inj af;have aI:∃ y,g.ids.l[t]? = some y:=by
   cases h with
   | start y _ _ ax=>exact⟨y,ax⟩
   | step _ y _ _ _ ax=>exact⟨y,ax⟩
  obtain⟨y,ax⟩:=aI;obtain⟨HR,qV⟩:=aJ ax;refine⟨Pp bM HR ax aW,fun fU fq=>?_⟩;obtain⟨gf,y9⟩:=avT.1 ((dQ.mem y).2 HR);exact .step gf q fU (qV gf y9) (by rw[dQ.cT ai ax y9]; exact aW) fq
theorem alW {g p:bc} {D:List (List B)} (ai:hW g.ids.l) (dQ:ut g p D) {L:List (List B)}:∀ {fU:Nat} {x:List B},ii p.ids.l p.ops.l L fU->p.ids.l[fU]? = some x->∀ i,g.ids.l[i]? = some x->ii g.ids.l g.ops.l L i:=by
 intro fU x h
 induction h generalizing x with
 | start q j aW u6=>
  intro af i av;rw[u6] at af; obtain rfl:=Option.some.inj af;exact .start q i aW av
 | step t q j h aW u6 aJ=>
  intro af i av;rw[u6] at af; obtain rfl:=Option.some.inj af;have aI:∃ y,p.ids.l[t]? = some y:=by
   cases h with
   | start y _ _ ax=>exact⟨y,ax⟩
   | step _ y _ _ _ ax=>exact⟨y,ax⟩
  obtain⟨y,ax⟩:=aI;obtain⟨a,o,h1,ad,aj⟩:=dQ.nv t y ax;exact .step a q i (aJ ax a h1) (by rw[<-dQ.cT ai h1 ax]; exact aW) av
theorem PV {g p:bc} (aq:et g) (ay:et p) (V:iE g) (x9:iE p) {D:List (List B)} (dQ:ut g p D) (bM:gU g D) {j bl:Nat} {x:List B} (h1:g.ids.l[j]? = some x) (ad:p.ids.l[bl]? = some x) (y:List B) :y∈ik g j<->y∈ik p bl:=by
 have dz:=jP V.c9;have cN:=(v8 g aq V h1).1;have pu:=(v8 p ay x9 ad).1;have Bp:x∈D:=(dQ.mem x).1 (avY ad);have eT:∀ q∈Op.cT g.ops.l j,q∈D:=fun q aW=>Pp bM Bp h1 aW
 constructor
 ·intro h;obtain⟨i,av⟩:=avT.1 (cN.sub y h);obtain⟨HR,az⟩:=alV dz dQ bM eT ((cN.mem i y av).1 h) av;obtain⟨fU,fq⟩:=avT.1 ((dQ.mem y).2 HR);refine (pu.mem fU y fq).2 ?_;rw[dQ.cT dz h1 ad]; exact az fU fq
 ·intro h;obtain⟨fU,fq⟩:=avT.1 (pu.sub y h);have az:=(pu.mem fU y fq).1 h;rw[dQ.cT dz h1 ad] at az;obtain⟨i,o,aj,_⟩:=dQ.nv fU y fq;exact (cN.mem i y aj).2 (alW dz dQ az fq i aj)
theorem aes {g p:bc} (aq:et g) (ay:et p) (V:iE g) (x9:iE p) {D:List (List B)} (dQ:ut g p D) (bM:gU g D) {s:cp} (h:kL p D s) :kL g D s:=by
 have dz:=jP V.c9;have asi:=jP x9.c9;have AM:∀ t,x1 p D t<->x1 g D t:=fun t=>by
  constructor
  ·rintro⟨bl,cO,x,aV,a1,a3,a4,a5⟩;obtain⟨j,o,de,df,fw⟩:=dQ.nv bl x a1;rw[a3] at fw; obtain rfl:=Option.some.inj fw;exact⟨j,o,x,aV,de,df,a4,a5⟩
  ·rintro⟨j,o,x,aV,a1,a3,a4,a5⟩;obtain⟨bl,de,df⟩:=dQ.loc dz aV a1 a3;exact⟨bl,jW o,x,aV,de,df,a4,a5⟩
 have k0:∀ t,Aa p D t<->Aa g D t:=fun t=>by
  constructor
  ·rintro⟨bl,cO,x,aV,a1,a3,a4,a5,rv⟩;obtain⟨j,o,de,df,fw⟩:=dQ.nv bl x a1;rw[a3] at fw; obtain rfl:=Option.some.inj fw;exact⟨j,o,x,aV,de,df,a4,a5,(PV aq ay V x9 dQ bM de a1 _).2 rv⟩
  ·rintro⟨j,o,x,aV,a1,a3,a4,a5,rv⟩;obtain⟨bl,de,df⟩:=dQ.loc dz aV a1 a3;exact⟨bl,jW o,x,aV,de,df,a4,a5,(PV aq ay V x9 dQ bM a1 de _).1 rv⟩
 refine⟨h.c6,⟨h.set.ok,h.set.jC,h.set.len,fun t=>?_⟩,I0 (fun r=>?_) h.c8,h.E5,h.nC,h.ak,fun x=>?_⟩
 ·rw[h.set.mem t,awi,AM,k0]
 ·constructor
  ·rintro⟨bl,cO,x,aV,a1,a3,a4,a5⟩;obtain⟨j,o,de,df,fw⟩:=dQ.nv bl x a1;rw[a3] at fw; obtain rfl:=Option.some.inj fw;exact⟨j,o,x,aV,de,df,a4,a5⟩
  ·rintro⟨j,o,x,aV,a1,a3,a4,a5⟩;obtain⟨bl,de,df⟩:=dQ.loc dz aV a1 a3;exact⟨bl,jW o,x,aV,de,df,a4,a5⟩
 ·rw[h.hm x];unfold FC;constructor
  ·rintro⟨aV,a1⟩;refine⟨aV,fun y ax j ai aW=>?_⟩;obtain⟨bl,dv⟩:=avT.1 ((dQ.mem y).2 ax);exact a1 y ax bl dv (by rw[dQ.cT dz ai dv]; exact aW)
  ·rintro⟨aV,a1⟩;refine⟨aV,fun y ax bl dv aW=>?_⟩;obtain⟨j,o,de,_⟩:=dQ.nv bl y dv;exact a1 y ax j de (by rw[<-dQ.cT dz de dv]; exact aW)
theorem aet {g:bc} {D:List (List B)} {s t:cp} (e:q8 s t=true) (h:kL g D s) :kL g D t:=by
 obtain⟨h1,ad,aj,aE⟩:=(BU s t).1 e;refine⟨by rw[<-h1]; exact h.c6,⟨by rw[<-ad]; exact h.set.ok,by rw[<-ad]; exact h.set.jC,by rw[<-ad]; exact h.set.len,by rw[<-ad]; exact h.set.mem⟩,by rw[<-aj]; exact h.c8,by rw[<-aj]; exact h.E5,by rw[<-aj]; exact h.nC,by rw[<-aE]; exact h.ak,by rw[<-aE]; exact h.hm⟩
theorem Jf {g:bc} {D:List (List B)} (h:gU g D) (k:Nat) :gU g (D.take k) :=by
 refine⟨h.hA.sublist (axI _ _),fun x af=>h.sub x (awh af),fun i x j av ai p ay=>?_⟩;have c3:=(avP.1 av).1;rw[av1] at c3;rw[awb (by omega)] at av;rw[axd,awQ (by omega)];exact h.pre i x j av ai p ay
theorem akI (g:bc) (D:List (List B)) (k:Nat) :(iX g D).take k=iX g (D.take k) :=by unfold iX; rw[ax6]
theorem anE {α:Type} {l:List α} (h:l≠[]) :dH l=some l:=by cases l with | nil=>exact absurd rfl h | cons=>rfl
theorem adL {j:Nat} (h:1<=j) :∃ t,j=t+1:=⟨j - 1,by omega⟩
structure aa1 (g:bc) (D:List (List B)) (m:Nat) (k:Nat) (ae:bg) (l:am) :Prop where
 aU:ae 2=.int .i64 m
 a8:ae 3=.ptr 0 0 2
 dk:ae 7=.bool true
 dj:ae 8=aK (dH D)
 fI:ae 10=.int .i64 k
 ex:∃ v rest,l=.cells 2 [aK g.ids,bB g.ops] ::rest/\ae 9=v/\((k<m/\∃ j,bH 11 l v j (((iX g D).take k).map a2)/\(v=.aT\/1<=j)/\cw v=((iX g D).take k).isEmpty)\/(k=m/\v=bB (dH (iX g (D.take m)))))
structure aa2 (g:bc) (D:List (List B)) (b k:Nat) (ae:bg) (l:am) :Prop where
 a8:ae 3=.ptr 0 0 2
 dk:ae 7=.bool true
 dj:ae 8=aK (dH D)
 kx:ae 13=.ptr b 0 4
 lU:ae 17=.int .i64 k
 ag:0<b
 dV:l[0]? = some (.cells 2 [aK g.ids,bB g.ops])
 ex:∃ s,l[b]? = some (.cells 4 (fb s))/\kL g (D.take k) s
set_option maxHeartbeats 16000000 in
theorem aem (gB:bz Tryz.prog GS 9 [] (.bool true)) (g:bc) (anR:JI g) (N5:cQ Int) (n:Int) :
  c7 Tryz.prog GS 7 [cl g,sZ N5,.int .i64 n] [] (c:=⟨fun r _=>r=.bool true⟩) :=by
 apply bp Tryz.func7 [[],[[0],[1],[2],[3],[8],[4,8],[5],[6],[7]],[[0],[1],[2],[3],[4],[5],[10],[6,10],[7],[8],[9]]];have az:cy=140737488355328:=rfl;have dh:=eK g.ids;have cz:=i7 g.ops;have jF:=acX N5;have ys:=alt g;have Hr:cK (.ar 32) (aK g.ids)=some (.int .i64 g.ids.l.length) :=by simp[aK]
 unfold cl cP at ys;simp[cl,cP];refine a6 gB rfl ?_;simp;refine a6 ys (by simp[bd,U.closed,dh,cz]) ?_;cases aj:wM g with
 | true=>simp
 | false=>
  have m1:=akE anR aj;have c0:=als g m1;unfold cl cP at c0;simp;refine a6 c0 (by simp[bd,U.closed,dh,cz]) ?_;by_cases aD:ep g=0
  ·by_cases og:n<0
   ·simp[aD,og]
   ·by_cases l5:(g.ids.l.length:Int)<n
    ·simp[aD,og,Hr,l5]
    ·obtain⟨m,rfl⟩:=axg (by omega:0<=n);have l3:m<=g.ids.l.length:=by omega
     have V:=mn aD;have w1:=V.n60;have jh:=V.len;have dz:=jP V.c9;obtain⟨D,bM,al,jD⟩:=akK g m1 V N5;have arO:=eK (dH D);unfold cl cP at jD;have VJ:cK (.ar 32) (aK (dH D))=some (.int .i64 D.length) :=by simp[aK,ew]
     simp[aD,og,Hr,l5];refine a6 jD (by simp[bd,U.closed,dh,cz,jF]) ?_;simp;refine cI m (aa1 g D m) ?_ ⟨by simp,by simp,by simp,by simp,by simp,.aT,[],rfl,by simp,?_⟩
     ·rintro k ae l hk ⟨aU,a8,dk,dj,fI,v,rest,rfl,gJ,Mr⟩;obtain⟨ae,rfl⟩:=vP aU a8 dk dj gJ fI;clear aU a8 dk dj gJ fI;have aR:IntKind.i64.wrap ((k:Int)+1)=((k+1:Nat) :Int) :=by rw[IntKind.wrap_i64]; omega
      by_cases lw:k<m
      ·obtain⟨_,j,gK,ai,gQ⟩:=Mr.resolve_right (by omega);obtain⟨x,af,cE⟩:=bx (l:=D) (k:=k) (by omega);obtain⟨Nl,o,de,df,fw,m7,sR⟩:=xv V (bM.sub x cE);have ji:=m1.ids x (bM.sub x cE);have gk:=YK g m1 dz de df;have bN:ck (.ar 32) (aK (dH D)) (.int .i64 (k:Int))=some (.b3 (aO x) 0) :=by simp[aK,ew,af]
       have bY:(a2 o).length=11:=rfl;have va:=i6 o;have bf:=cC ji;have gL:=e4 x;have hb:(iX g D).take (k+1)=(iX g D).take k++[o] :=by
        rw[av7];unfold iX;rw[avV,af,avZ,fw]; rfl
       obtain⟨O,du⟩:∃ O,O=a2 o:=⟨_,rfl⟩
       obtain⟨X,cv⟩:∃ X,X=aO x:=⟨_,rfl⟩
       rw[<-du] at gk bY va;rw[<-cv] at gk bN bf gL;have uY:X.take 32=X:=avO (by omega);have hg:bt [U.int .u32 0,.aT,.int .u64 0,.int .u8 0,.str [],.int .u8 0,.int .i64 0,.int .u64 0,.str [],.int .u32 0,.int .u32 0] 0 O=O:=eM (by rw[bY]; rfl);unfold cl cP at gk;have aM:((iX g D).take k).length<=60:=by rw[av1]; omega
       obtain⟨aZ,bl,ct,aV,a1,a3,a4⟩:=ux (by_:=112) (pre:=[.cells 2 [aK g.ids,bB g.ops]]) (rest:=rest++[.cells 11 O]) (gK.more _) ai (x:=.ar 11 (rest.length+1) 0 1 1 11) (xs:=[O])
        (by simp[dE,bY,avO]) (by simp[bY]) (by omega) (by omega) (by rw[az]; simp; omega)
       simp only[awN,awI] at aV;have yb:bH 11 (.cells 2 [aK g.ids,bB g.ops] ::ct) aZ bl (((iX g D).take (k+1)).map a2) :=by
        rw[hb,awm,awn,ax0,<-du]; exact a1
       have fi:cw aZ=false:=by rw[a4]; simp
       simp[lw,bN,bf,uY];refine a6 gk (by simp[bd,U.closed,dh,cz,gL]) ?_;simp[bY,hg,aV];by_cases VO:k+1=m
       ·have A3:1<=bl:=by
         rcases a3 with h | h
         ·rw[h] at fi; cases fi
         ·simpa using h
        obtain⟨t,rfl⟩:=adL A3;refine dp.Db yb fi ?_;simp[aR];refine⟨lw,by simp,by simp,by simp,by simp,by simp,_,_,rfl,by simp; rfl,.inr ⟨VO,?_⟩⟩;rw[<-akI,<-VO,anE (by rw[hb]; simp)];show _=U.bQ 11 _;rw[ax6]
       ·refine dp.cx ?_;simp[aR];exact⟨lw,by simp,by simp,by simp,by simp,by simp,aZ,_,rfl,by simp,.inl ⟨by omega,bl,yb,by simpa using a3,by rw[fi,hb]; simp⟩⟩
      ·have ag4:k=m:=by omega
       subst ag4;obtain⟨_,rfl⟩:=Mr.resolve_left (by omega);have Dv:=Jf bM k;obtain⟨b2,w2,eh⟩:=akH m1 V Dv;have hS:(D.take k).length=k:=by rw[av1]; omega
       have bY:(iX g (D.take k)).length=k:=by unfold iX; rw[av8]; exact hS
       have Dr:=NP (l:=iX g (D.take k)) (by omega) b2 eh (avR _);rw[awi] at Dr;obtain⟨i1,kK,sB,Cc⟩:=tO m1 aD Dv Dr;have kY:=alA (dH (iX g (D.take k))) (by rw[ew]; omega) (by rw[ew]; exact b2) (by rw[ew]; exact w2) (by rw[ew]; exact eh) (by rw[ew]; exact Cc);rw[ew] at kY;obtain⟨p,ay⟩:∃ p,p=lF (iX g (D.take k)) (iX g (D.take k)).length:=⟨_,rfl⟩
       rw[<-ay] at kY Dr i1 kK sB Cc;have zz:=Dr.ok;have x9:=mn i1;have dQ:=ZQ V Dv Dr;have rV:=eK p.ids;have jf:=i7 p.ops;have dL:=i7 (dH (iX g (D.take k)));have kE:=An p.ids;have kf:(bB p.ops).cells=some [bB p.ops] :=by cases p.ops<;>rfl
       have cN:=aay p zz;rw[i1] at cN;have akw:=TW zz;obtain⟨s,oj,ol⟩:=amr zz i1 kK sB;have ci:=T2 zz i1 kK sB ol;have GV:=aoR p zz (ub (dH D) k) (fun z aw=>m1.ids z (Dv.sub z (by rw[B0,ew] at aw; exact aw))) (by rw[B0,ew]; omega);rw[B0,ew,oj] at GV;have ef:fG (.ar 32) (aK (dH D)) none (some (.int .i64 (k:Int))) none=some (aK (ub (dH D) k)) :=Pd (by rw[ew]; omega);have Hb:=eK (ub (dH D) k);have EE:=(ol.st zz kK (by omega)).ok;have gl:=YM (kQ p) s akw EE;rw[Zq ci] at gl;have h3:=aes m1 zz V x9 dQ Dv (aet ci ol);have aio:(kQ p).c6=(k:Int) :=by rw[h3.c6,hS]
       have jg:∀ Z:List U,Z.length=4->bt [U.int .i64 0,.aT,.aT,.aT] 0 Z=Z:=fun Z aw=>eM (by rw[aw]; rfl)
       have AJ:(fb (kQ p))[0]? = some (.int .i64 (kQ p).c6) :=rfl;have cZ:=sW (kQ p);have dJ:=sW s;obtain⟨A,AK⟩:∃ A,A=fb (kQ p) :=⟨_,rfl⟩
       obtain⟨C,Ld⟩:∃ C,C=fb s:=⟨_,rfl⟩
       rw[<-AK] at cN gl cZ AJ;rw[<-Ld] at gl dJ;simp only[<-Ld] at GV;have j3:A.length=4:=by rw[AK]; rfl
       have oR:C.length=4:=by rw[Ld]; rfl
       have ae4:A.take 4=A:=avO (by omega);have ae9:C.take 4=C:=avO (by omega);rw[aio] at AJ;unfold cl cP at kY cN GV;simp;refine a6 kY (by simp[bd,U.closed,dL]) ?_;simp[bt];refine a6 cN (by simp[bd,U.closed,rV,jf]) ?_;simp[j3,jg,ef];refine a6 GV (by simp[bd,U.closed,rV,jf,Hb]) ?_;simp[oR,jg,j3,ae4,ae9];refine a6 gl (by simp[bd,U.closed,cZ,dJ]) ?_;simp[AJ];have Uy:kL g (D.take (k+0)) (kQ p) :=h3;refine cI (D.length - k) (fun d=>aa2 g D (rest.length+1+1) (k+d)) ?_ ⟨by simp,by simp,by simp,by simp,by simp,by omega,by simp,kQ p,by rw[<-AK]; simp,Uy⟩;clear Mr Uy h3;rintro d ae l bC ⟨a8,dk,dj,kx,lU,ag,dV,s,vD,h3⟩;obtain⟨ae,rfl⟩:=lj a8 dk dj kx lU;clear a8 dk dj kx lU;obtain⟨i,av⟩:∃ i,i=k+d:=⟨_,rfl⟩
       rw[<-av] at h3 ⊢;obtain⟨b,LC⟩:∃ b,b=rest.length+1+1:=⟨_,rfl⟩
       rw[<-LC] at ag vD ⊢;have aR:IntKind.i64.wrap ((i:Int)+1)=((i+1:Nat) :Int) :=by rw[IntKind.wrap_i64]; omega
       by_cases e1:i<D.length
       ·obtain⟨x,af,cE⟩:=bx e1;have ji:=m1.ids x (bM.sub x cE);have bN:ck (.ar 32) (aK (dH D)) (.int .i64 (i:Int))=some (.b3 (aO x) 0) :=by simp[aK,ew,af]
        have bf:=cC ji;have gL:=e4 x;have hb:D.take (i+1)=D.take i++[x] :=by rw[av7,af]; rfl
        have uX:=Jf bM (i+1);rw[hb] at uX;obtain⟨eH,oj,ol⟩:=T4 m1 aD uX h3;have Du:=Jf bM i;have fE:(D.take i).length=i:=by rw[av1]; omega
        have ag9:(D.take i++[x]).length=i+1:=by rw[avW,fE]; rfl
        have EE:=(h3.st m1 Du (by omega)).ok;have akz:=(ol.st m1 uX (by omega)).ok;have e6:=T3 Du (by omega) h3;have uU:=T3 uX (by omega) ol;have iG:=aoI s EE g m1 x ji;have kz:s2 s g x=(eH,0) :=by unfold s2; rw[if_pos e6,if_pos aD,oj]
        rw[kz] at iG;have c0:=alK eH akz;rw[uU] at c0;have fi:eH.c6=((i+1:Nat) :Int) :=by rw[ol.c6,ag9]
        have Lb:(fb eH)[0]? = some (.int .i64 eH.c6) :=rfl;rw[fi] at Lb;have iQ:=sW s;have h0:=sW eH;obtain⟨oI,Dn⟩:∃ oI,oI=fb s:=⟨_,rfl⟩
        obtain⟨nH,yw⟩:∃ nH,nH=fb eH:=⟨_,rfl⟩
        obtain⟨X,cv⟩:∃ X,X=aO x:=⟨_,rfl⟩
        rw[<-Dn] at vD iQ iG;simp only[<-yw] at iG;rw[<-yw] at c0 Lb h0;rw[<-cv] at bN bf gL iG;have GG:oI.length=4:=by rw[Dn]; rfl
        have GI:nH.length=4:=by rw[yw]; rfl
        have K9:oI.take 4=oI:=avO (by omega);have ae5:∀ h:0<nH.length,nH[0]'h=.int .i64 ((i:Int)+1) :=fun h=>(avP.1 Lb).2.trans (by rw[show ((i+1:Nat) :Int)=(i:Int)+1 by omega])
        have GJ:nH.take 4=nH:=avO (by omega);have uY:X.take 32=X:=avO (by omega);have aid:bt oI 0 nH=nH:=eM (by omega);unfold cl cP at iG;have kk:∀ c:a7,(l++[c])[0]? = some (.cells 2 [aK g.ids,bB g.ops]) :=fun c=>by rw[avQ (eu dV)]; exact dV
        have Jq:∀ c:a7,(l++[c])[b]? = some (.cells 4 oI) :=fun c=>by rw[avQ (eu vD)]; exact vD
        simp[VJ,e1,dV,vD,kk,Jq,GG,K9,bN,bf,uY];refine a6 iG (by simp[bd,U.closed,iQ,dh,cz,gL]) ?_;simp[GI,jg,ae5,aR,GJ];refine a6 c0 (by simp[bd,U.closed,h0]) ?_;simp[GI,GJ,Jq,aid,GG];have eU:=eu vD;have Li:kL g (D.take (i+1)) eH:=by rw[hb]; exact ol
        refine⟨by omega,?_⟩;rw[show k+(d+1)=i+1 by omega];exact⟨by simp,by simp,by simp,by simp,by simp[aR],ag,by rw[av0 (by omega)]; exact kk _,eH,by rw[<-yw]; exact av3 (by simp; omega),Li⟩
       ·have h4:i=D.length:=by omega
        have Du:=Jf bM i;have fE:(D.take i).length=D.length:=by rw[av1]; omega
        have EE:=(h3.st m1 Du (by omega)).ok;have aia:=T2 m1 aD Du (by omega) h3;have GH:=aay g m1;rw[aD] at GH;have akx:=TW m1;have mc:=YM s (kQ g) EE akx;rw[aia] at mc;have iQ:=sW s;have h0:=sW (kQ g);obtain⟨oI,Dn⟩:∃ oI,oI=fb s:=⟨_,rfl⟩
        obtain⟨nH,yw⟩:∃ nH,nH=fb (kQ g) :=⟨_,rfl⟩
        rw[<-Dn] at vD iQ mc;rw[<-yw] at GH mc h0;have GG:oI.length=4:=by rw[Dn]; rfl
        have GI:nH.length=4:=by rw[yw]; rfl
        have K9:oI.take 4=oI:=avO (by omega);have GJ:nH.take 4=nH:=avO (by omega);have Jq:∀ c:a7,(l++[c])[b]? = some (.cells 4 oI) :=fun c=>by rw[avQ (eu vD)]; exact vD
        unfold cl cP at GH;simp[VJ,e1,dV];refine a6 GH (by simp[bd,U.closed,dh,cz]) ?_;simp[GI,jg,Jq,GG,K9,GJ];refine a6 mc (by simp[bd,U.closed,iQ,h0]) ?_;simp
     ·by_cases je:m=0
      ·subst je; exact .inr ⟨rfl,rfl⟩
      ·exact .inl ⟨by omega,0,by simpa using bH.nil 0,.inl rfl,rfl⟩
  ·simp[aD]
end Op

end Go.cb

namespace Go.cb
open Go Go.Proofs
set_option maxRecDepth 1000000
set_option maxHeartbeats 8000000
abbrev WY:List U:=[]
abbrev W4:U:=.bQ 11 [[.int .u32 (1024)]++[.bQ 32 []]++[.int .u64 (0)]++[.int .u8 2]++[.str [107]]++[.int .u8 0]++[nr (0)]++[.int .u64 (0)]++[.str []]++[.int .u32 (129255048)]++[.int .u32 (399478955)],[.int .u32 (1024)]++[.bQ 32 []]++[.int .u64 (0)]++[.int .u8 4]++[.str [107]]++[.int .u8 1]++[nr (7)]++[.int .u64 (0)]++[.str []]++[.int .u32 (245198832)]++[.int .u32 (480132016)],[.int .u32 (1024)]++[.bQ 32 [dt [139,155,127,40,157,97,234,61,221,237,220,81,93,150,154,229,203,104,132,176,229,187,23,160,167,158,35,130,160,158,225,157],dt [198,167,169,49,131,208,119,134,47,60,235,0,68,166,241,20,47,240,141,206,85,173,27,225,253,102,77,118,55,125,153,21]]]++[.int .u64 (0)]++[.int .u8 3]++[.str [107]]++[.int .u8 0]++[nr (0)]++[.int .u64 (0)]++[.str []]++[.int .u32 (182053779)]++[.int .u32 (1858103)]]
theorem aji:jZ Tryz.prog GS 31 WY W4:=
 BM (P:=Tryz.prog) Tryz.checked.mixed bE (xx (oJ.mem (oL E2 (yc)))) zN (orc:=tI [BR]) (fuel:=100000) (k:=60) (by kernel_rfl)
abbrev WZ:List U:=[.aH ([.int .u32 (1024)]++[.bQ 32 []]++[.int .u64 (0)]++[.int .u8 2]++[.str [107]]++[.int .u8 0]++[nr (0)]++[.int .u64 (0)]++[.str []]++[.int .u32 (129255048)]++[.int .u32 (399478955)])]
abbrev W5:U:=nr (0)
theorem ajj:jZ Tryz.prog GS 39 WZ W5:=
 BM (P:=Tryz.prog) Tryz.checked.mixed bE (xx (oJ.mem (oL E2 (yc)))) zN (orc:=tI [BR]) (fuel:=100000) (k:=60) (by kernel_rfl)
abbrev W0:List U:=[.aH ([.int .u32 (1024)]++[.bQ 32 []]++[.int .u64 (0)]++[.int .u8 4]++[.str [107]]++[.int .u8 1]++[nr (7)]++[.int .u64 (0)]++[.str []]++[.int .u32 (245198832)]++[.int .u32 (480132016)])]
abbrev W6:U:=nr (0)
theorem ajk:jZ Tryz.prog GS 39 W0 W6:=
 BM (P:=Tryz.prog) Tryz.checked.mixed bE (xx (oJ.mem (oL E2 (yc)))) zN (orc:=tI [BR]) (fuel:=100000) (k:=60) (by kernel_rfl)
abbrev W1:List U:=[.aH ([.int .u32 (1024)]++[.bQ 32 [dt [139,155,127,40,157,97,234,61,221,237,220,81,93,150,154,229,203,104,132,176,229,187,23,160,167,158,35,130,160,158,225,157],dt [198,167,169,49,131,208,119,134,47,60,235,0,68,166,241,20,47,240,141,206,85,173,27,225,253,102,77,118,55,125,153,21]]]++[.int .u64 (0)]++[.int .u8 3]++[.str [107]]++[.int .u8 0]++[nr (0)]++[.int .u64 (0)]++[.str []]++[.int .u32 (182053779)]++[.int .u32 (1858103)])]
abbrev W7:U:=nr (0)
theorem ajl:jZ Tryz.prog GS 39 W1 W7:=
 BM (P:=Tryz.prog) Tryz.checked.mixed bE (xx (oJ.mem (oL E2 (yc)))) zN (orc:=tI [BR]) (fuel:=100000) (k:=60) (by kernel_rfl)
abbrev W2:List U:=[.aH ([.bQ 32 [dt [139,155,127,40,157,97,234,61,221,237,220,81,93,150,154,229,203,104,132,176,229,187,23,160,167,158,35,130,160,158,225,157],dt [198,167,169,49,131,208,119,134,47,60,235,0,68,166,241,20,47,240,141,206,85,173,27,225,253,102,77,118,55,125,153,21]]]++[.bQ 11 [[.int .u32 (1024)]++[.bQ 32 []]++[.int .u64 (0)]++[.int .u8 2]++[.str [107]]++[.int .u8 0]++[nr (0)]++[.int .u64 (0)]++[.str []]++[.int .u32 (129255048)]++[.int .u32 (399478955)],[.int .u32 (1024)]++[.bQ 32 []]++[.int .u64 (0)]++[.int .u8 4]++[.str [107]]++[.int .u8 1]++[nr (7)]++[.int .u64 (0)]++[.str []]++[.int .u32 (245198832)]++[.int .u32 (480132016)]]])]
abbrev W8:U:=nr (0)
theorem ajm:jZ Tryz.prog GS 52 W2 W8:=
 BM (P:=Tryz.prog) Tryz.checked.mixed bE (xx (oJ.mem (oL Yb (oL ZT (oL Yo (yc)))))) zN (orc:=tI [N3,lL,N9]) (fuel:=100000) (k:=60) (by kernel_rfl)
abbrev W3:List U:=[.aH ([.bQ 32 [dt [19,192,83,140,11,154,95,228,143,182,229,182,185,39,203,208,159,174,42,110,68,131,221,11,111,210,177,169,5,229,204,24],dt [139,155,127,40,157,97,234,61,221,237,220,81,93,150,154,229,203,104,132,176,229,187,23,160,167,158,35,130,160,158,225,157],dt [198,167,169,49,131,208,119,134,47,60,235,0,68,166,241,20,47,240,141,206,85,173,27,225,253,102,77,118,55,125,153,21]]]++[.bQ 11 [[.int .u32 (1024)]++[.bQ 32 [dt [139,155,127,40,157,97,234,61,221,237,220,81,93,150,154,229,203,104,132,176,229,187,23,160,167,158,35,130,160,158,225,157],dt [198,167,169,49,131,208,119,134,47,60,235,0,68,166,241,20,47,240,141,206,85,173,27,225,253,102,77,118,55,125,153,21]]]++[.int .u64 (0)]++[.int .u8 3]++[.str [107]]++[.int .u8 0]++[nr (0)]++[.int .u64 (0)]++[.str []]++[.int .u32 (182053779)]++[.int .u32 (1858103)],[.int .u32 (1024)]++[.bQ 32 []]++[.int .u64 (0)]++[.int .u8 2]++[.str [107]]++[.int .u8 0]++[nr (0)]++[.int .u64 (0)]++[.str []]++[.int .u32 (129255048)]++[.int .u32 (399478955)],[.int .u32 (1024)]++[.bQ 32 []]++[.int .u64 (0)]++[.int .u8 4]++[.str [107]]++[.int .u8 1]++[nr (7)]++[.int .u64 (0)]++[.str []]++[.int .u32 (245198832)]++[.int .u32 (480132016)]]])]
abbrev W9:U:=nr (0)
theorem ajn:jZ Tryz.prog GS 52 W3 W9:=
 BM (P:=Tryz.prog) Tryz.checked.mixed bE (xx (oJ.mem (oL Yb (oL ZT (oL Yo (yc)))))) zN (orc:=tI [N3,lL,N9]) (fuel:=100000) (k:=60) (by kernel_rfl)
theorem ajo:c7 Tryz.prog GS 9 [] [] (c:=⟨fun r _=>r=.bool true⟩) :=
 acz (xx (oJ.mem (oL E2 (oL (IB (Ad ajm (Ad ajn (JR)))) (oL (IB (Ad ajj (Ad ajk (Ad ajl (JR))))) (oL (IB (Ad aji (JR))) (yc))))))) zN (orc:=tI [BR,(52,true,BJ [(W2,W8),(W3,W9)]),(39,true,BJ [(WZ,W5),(W0,W6),(W1,W7)]),(31,true,BJ [(WY,W4)])]) (fuel:=100000) (k:=60) (by kernel_rfl)
theorem abE:bz Tryz.prog GS 9 [] (.bool true) :=
 bL Tryz.checked.mixed bE (by
  obtain⟨r,l,h1,ad,aj⟩:=ajo;exact⟨r,l,h1,ad,aL aj rfl⟩)
end Go.cb

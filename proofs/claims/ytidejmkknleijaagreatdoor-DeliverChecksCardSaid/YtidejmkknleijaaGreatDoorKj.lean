/-
  Graphs: what a search from a list of ids marks (plain).
-/
import Derived.Test.YtidejmkknleijaaGreatDoorKi
set_option linter.unusedVariables false
set_option linter.unusedSimpArgs false
set_option linter.unnecessarySimpa false
namespace Go.ca
open Go Go.Proofs
set_option maxRecDepth 100000
namespace Op
open hN
inductive uW (ids:List (List B)) (ops:List bl) (L:List (List B)) :Nat->Prop
 | start (p:List B) (j:Nat) (av:p∈L) (aj:ids[j]? = some p) :uW ids ops L j
 | step (i:Nat) (p:List B) (j:Nat) (h:uW ids ops L i) (av:p∈eC ops i) (aj:ids[j]? = some p) :uW ids ops L j
theorem uW.mono {ids:List (List B)} {ops:List bl} {L J7:List (List B)} (ak:∀ p∈L,p∈J7) {i:Nat} (h:uW ids ops L i) :uW ids ops J7 i:=by
 induction h with
 | start p j av aj=>exact .start p j (ak p av) aj
 | step i p j _ av aj aQ=>exact .step i p j aQ av aj
structure aeg (ids:List (List B)) (ops:List bl) (L:List (List B)) (S yJ:List Bool) :Prop where
 len:yJ.length=S.length
 mono:∀ (i:Nat),S[i]? = some true->yJ[i]? = some true
 st:∀ p∈L,∀ (j:Nat),ids[j]? = some p->yJ[j]? = some true
 new:∀ (i:Nat),yJ[i]? = some true->S[i]? = some true\/(uW ids ops L i/\∀ p∈eC ops i,∀ (j:Nat),ids[j]? = some p->yJ[j]? = some true)
theorem To {l:ap} {p:U} {x:List U × Nat} (h:gW l p=some x) :mO p 0=some p:=by
 cases p<;>first | rfl | (exfalso; simp[gW] at h)
theorem IV {l:ap} {a b ey bc:U} (ad:ii l a ey) (af:ii l b bc) :ii l (.bu [a,b]) (.bu [ey,bc]) :=by
 refine .bu _ _ rfl fun j x JT ai qG=>?_
 rcases j with _ | _ | j
 ·simp at ai qG; subst ai qG; exact ad
 ·simp at ai qG; subst ai qG; exact af
 ·simp at ai
def oo (g:bo) (x:List B) (m:Nat) :Bool:=decide (∀ j,j<m->x∉(i2 g.ops.l j).bd.l)
theorem US (g:bo) (x:List B) (m:Nat) :oo g x (m+1)=(oo g x m&&!decide (x∈(i2 g.ops.l m).bd.l)) :=by
 unfold oo;rw[amt,akh,decide_eq_true_eq,decide_eq_true_eq,alX,decide_eq_false_iff_not];constructor
 ·intro h; exact⟨fun j aj=>h j (by omega),h m (by omega)⟩
 ·rintro⟨ad,af⟩ j aj;by_cases e:j=m
  ·rw[e]; exact af
  ·exact ad j (by omega)
abbrev kB (g:bo) (x:List B) :Bool:=oo g x g.ops.l.length
def he (g:bo) :List (List B) :=g.ids.l.filter (kB g)
structure Sc (g:bo) (e2:ap) (w:U) (seen:List Bool) (k:Nat) (ae:a7) (l:ap) :Prop where
 aN:ae 1=w
 aT:ae 2=.ptr e2.length 0 2
 fB:ae 8=.int .i64 seen.length
 gR:ae 9=.int .i64 k
 iM:∃ v,ae 5=v/\cz 32 aX (e2++[.cells 2 [az g.ids,bw g.ops]]) l v (oQ g.ids.l seen k) (oQ g.ids.l seen k).isEmpty
set_option maxHeartbeats 4000000 in
theorem Zs (g:bo) (aA:fq g) {e2:ap} {w:U} {fm:Nat} {seen:List Bool} (ak:seen.length=g.ids.l.length) (aV:bJ 1 e2 w fm (seen.map mQ)) (xy:fm<e2.length) {K:U->ap->Prop}
  (bj:∀ v l',cz 32 aX e2 l' v (oQ g.ids.l seen seen.length) (oQ g.ids.l seen seen.length).isEmpty->K v l') :
  dg Tryz.prog GS 206 [cG g,w] e2 (c:=⟨K⟩) :=by
 apply bf Tryz.func206 [];have ay:cF=140737488355328:=rfl;have cv:=aA.li;have bq:ch (.ar 1) w=some (.int .i64 seen.length) :=by have:=aV.len; simpa using this
 simp[cG,bI,bq];refine cm seen.length (Sc g e2 w seen) ?_ ⟨by simp,by simp,by simp,by simp,.aK,by simp,cz.nil⟩;rintro k ae l ax ⟨aN,aT,fB,gR,v,bg,eY⟩;obtain⟨ae,rfl⟩:=kq aN aT bg fB gR;clear aN aT bg fB gR;have cy:l[e2.length]? = some (.cells 2 [az g.ids,bw g.ops]) :=by rw[eY.same _ (by simp)]; simp
 have pL:bJ 1 l w fm (seen.map mQ) :=aV.jt (.inr (by rw[eY.same _ (by simp; omega),aj8 xy]));by_cases br:k<seen.length
 ·obtain⟨b,ag,_⟩:=bF br;obtain⟨x,ai,c7⟩:=bF (l:=g.ids.l) (k:=k) (by omega);have aS:IntKind.i64.wrap ((k:Int)+1)=((k+1:Nat) :Int) :=by rw[IntKind.wrap_i64]; omega
  obtain⟨p,cs,o,iF,jW,yD,o7⟩:=pL.q.get (k:=.i64) (i:=k) (e:=mQ b) (by rw[akd,ag]; rfl);have p7:cs[o]? = some (.bool b) :=by
   have af:((cs.drop o).take 1)[0]? = (mQ b)[0]?:=by rw[o7]
   rw[aku (by omega)] at af;simpa [mQ] using af
  have gJ:cN (.ar 32) (az g.ids) (.int .i64 (k:Int))=some (.cg (aX x) 0) :=by simp[az,ai]
  have XP:seen.getD k false=b:=by rw[ako,ag]; rfl
  have bm:=cP (aA.ids x c7);have jA:=OP g.ids.l seen k;have Ag:=Ih g.ids.l seen k;have fb:=To jW;rw[XP] at Ag;cases b with
  | false=>
   simp at Ag;simp[br,iF,jW,p7,fb,aS];exact⟨by simp,by simp,by simp,by simp,v,by simp,by rw[Ag]; exact eY⟩
  | true=>
   rw[if_pos rfl,fF ai] at Ag;obtain⟨a4,OA,a2,Xm,BX⟩:=Z0 (by_:=32) (eY.more [aU.cells 32 (aX x)]) x (b:=l.length) (by simp) bm (by omega) (by omega) (by rw[ay]; omega);obtain⟨X,cL⟩:∃ X,X=aX x:=⟨_,rfl⟩
   rw[<-cL] at gJ bm a2;have hU:bi (rep 32 (.int .u8 0)) 0 X=X:=gl (by rw[bm]; rfl);simp[br,iF,jW,p7,fb,cy,gJ,bm,hU,aj9,a2];refine cM.cc ?_;simp[br,aS];exact⟨by simp,by simp,by simp,by simp,a4,by simp,by rw[Ag,show (oQ g.ids.l seen k++[x]).isEmpty=false by simp]; exact Xm⟩
 ·have mY:k=seen.length:=by omega
  subst mY;simp[br];exact bj _ _ (eY.base (by simp) (fun b ag=>aj8 ag))
def pj (n k:Nat) :List Bool:=(List.range n).map fun i=>decide (i<k)
theorem UA (n k:Nat) :(pj n k).length=n:=by simp[pj]
theorem UC (n:Nat) :pj n 0=List.replicate n false:=by
 apply akY ; intro i;unfold pj;by_cases h:i<n
 ·rw[akd,akL h,ane,if_pos h]; simp
 ·rw[akp (by simp; omega),akp (by simp; omega)]
theorem UB {n k:Nat} (h:k<n) :(pj n k).set k true=pj n (k+1) :=by
 apply akY ; intro i;unfold pj;by_cases aB:i<n
 ·by_cases e:k=i
  ·subst e;rw[akm (by simp; omega),akd,akL aB]; simp
  ·rw[akl e,akd,akd,akL aB];simp; omega
 ·rw[akp (by simp; omega),akp (by simp; omega)]
def kA (g:bo) (q m:Nat) :List Bool:=(List.range g.ids.l.length).map fun i=>oo g (bQ g.ids.l i) q&&!decide (bQ g.ids.l i∈(i2 g.ops.l q).bd.l.take m)
theorem Gx (g:bo) (q m:Nat) :(kA g q m).length=g.ids.l.length:=by simp[kA]
theorem VZ (g:bo) :pj g.ids.l.length g.ids.l.length=kA g 0 0:=by
 unfold pj kA;refine alD fun i aB=>?_
 rw[akM] at aB;rw[decide_eq_true aB];simp[oo]
theorem VX (g:bo) (q:Nat) :kA g q (i2 g.ops.l q).bd.l.length=kA g (q+1) 0:=by
 unfold kA;refine alD fun i aB=>?_
 rw[akE,US]; simp
theorem VY {g:bo} (aj:mI g.ids.l) {q m i:Nat} {p:List B} (av:(i2 g.ops.l q).bd.l[m]? = some p) (aB:g.ids.l[i]? = some p) :(kA g q m).set i false=kA g q (m+1) :=by
 have eb:=(aj7.1 aB).1;apply akY ; intro t;unfold kA;have bY:(i2 g.ops.l q).bd.l.take (m+1)=(i2 g.ops.l q).bd.l.take m++[p] :=by rw[akC,av]; rfl
 by_cases a3:t<g.ids.l.length
 ·obtain⟨y,aL,_⟩:=bF a3;by_cases e:i=t
  ·subst e;rw[akm (by simp; omega),akd,akL a3,bY]; simp[aB]
  ·rw[akl e,akd,akd,akL a3,bY];have bW:y≠p:=fun h=>e (by subst h; exact aj i t y aB aL)
   simp[aL,bW]
 ·rw[akp (by simp; omega),akp (by simp; omega)]
theorem OO (g:bo) :∀ k,k<=g.ids.l.length->oQ g.ids.l (kA g g.ops.l.length 0) k=(g.ids.l.take k).filter (kB g)
 | 0,_=>rfl
 | k+1,ax=>by
  obtain⟨x,ai,_⟩:=bF (l:=g.ids.l) (k:=k) (by omega);have ad:(kA g g.ops.l.length 0).getD k false=kB g x:=by
   rw[ako];unfold kA;rw[akd,akL (by omega)];simp[fF ai,ai]
  rw[Ih,OO g k (by omega),ad,fF ai,akC,ai,alK];cases h:kB g x<;>simp[h]
structure qi (g:bo) (kO b:Nat) (S:List Bool) (l:ap) :Prop where
 cy:l[0]? = some (.cells 2 [az g.ids,bw g.ops])
 p:mK l kO g.ids.l
 w:bJ 1 l (.ar 1 b 0 g.ids.l.length g.ids.l.length g.ids.l.length) b (S.map mQ)
 ag:b<l.length
 hm:kO<b
 aF:0<kO
theorem qi.more {g:bo} {kO b:Nat} {S:List Bool} {l:ap} (h:qi g kO b S l) (c:aU) :qi g kO b S (l++[c]) :=
 ⟨by rw[aj8 (by have:=h.ag; omega)]; exact h.cy,h.p.frame (aj8 h.p.lt),h.w.more _,by have:=h.ag; simp; omega,h.hm,h.aF⟩
theorem qi.set {g:bo} {kO b:Nat} {S:List Bool} {l:ap} (h:qi g kO b S l) {i:Nat} {v:Bool} (aB:i<S.length) :
  ∃ p l',cN (.ar 1) (.ar 1 b 0 g.ids.l.length g.ids.l.length g.ids.l.length) (.int .i64 (i:Int))=some p/\ld 1 l p (.bool v)=some l'/\qi g kO b (S.set i v) l':=by
 obtain⟨p,l',a2,bb,cr,dY,gF⟩:=Pf (enc:=mQ) (x:=v) (X:=.bool v) rfl h.w (fun _ _=>rfl) aB rfl;have ad:=h.hm;have af:=h.aF;exact⟨p,l',a2,bb,by rw[gF 0 (by omega)]; exact h.cy,h.p.frame (gF kO (by omega)),cr,by rw[dY]; exact h.ag,h.hm,h.aF⟩
def uJ (g:bo) :eE:=if g1 g=0 then cV (he g) else none
set_option maxHeartbeats 8000000 in
theorem adD (g:bo) (aA:fq g) :bn Tryz.prog GS 177 [cG g] (.bu [az (uJ g),.int .i64 (g1 g)]) :=by
 refine bD Tryz.checked.mixed bx ?_;apply bf Tryz.func177 [];have ay:cF=140737488355328:=rfl;have fK:=cW g.ids;have ea:=jb g.ops;have ago:=aA.cE;have agl:=aA.li;have ff:=Rz g aA;have cA:ch (.ar 11) (bw g.ops)=some (.int .i64 g.ops.l.length) :=by simp[bw]
 have cv:ch (.ar 32) (az g.ids)=some (.int .i64 g.ids.l.length) :=by simp[az]
 unfold cG bI at ff;simp[cG,bI];refine aY ff (by simp[a1,U.closed,fK,ea]) ?_;by_cases aF:g1 g=0
 ·have V:=tX aF;have py:=tE V.dk;simp[aF];refine aau g aA py ?_;intro kO l1 kX xx hQ xC;have cy:l1[0]? = some (aU.cells 2 [az g.ids,bw g.ops]) :=by rw[hQ 0 (by simp)]; rfl
  obtain⟨a2,bb⟩:=AM (z:=1) (by_:=1) (n:=g.ids.l.length) (k:=.i64) (k':=.i64) (zero:=[U.bool false]) (l:=l1) rfl (by omega) (by rw[ay]; omega);obtain⟨N,fC⟩:∃ N,N=g.ids.l.length:=⟨_,rfl⟩
  simp only[alM] at a2 bb;have eu:qi g kO l1.length (pj g.ids.l.length 0) (l1++[.cells g.ids.l.length (dz [.bool false] g.ids.l.length)]) :=by
   have ad:l1.length ≥ 1:=by simp at xC; omega
   refine⟨by rw[aj8 (by omega)]; exact cy,kX.frame (aj8 kX.lt),?_,by simp,kX.lt,by simp at xx; omega⟩;rw[UC,amz]; exact bb
  simp[cy,cv,a2];obtain⟨b,ag⟩:∃ b,b=l1.length:=⟨_,rfl⟩
  rw[<-ag] at eu ⊢;refine cm g.ids.l.length (fun k ae l=>ae 1=.ptr 0 0 2/\ae 5=.mp kO/\ae 6=.ar 1 b 0 g.ids.l.length g.ids.l.length g.ids.l.length/\ae 24=.int .i64 g.ids.l.length/\ae 25=.int .i64 k/\qi g kO b (pj g.ids.l.length k) l) ?_ ⟨by simp,by simp,by simp,by simp,by simp,eu⟩;clear eu a2 bb cy hQ kX;rintro k ae l ax ⟨aN,bg,cq,s5,rv,eu⟩;obtain⟨ae,rfl⟩:=kq aN bg cq s5 rv;clear aN bg cq s5 rv;simp;refine nD (fun h=>?_) (fun h=>?_)
  ·simp only[decide_eq_true_eq] at h;have aS:IntKind.i64.wrap ((k:Int)+1)=((k+1:Nat) :Int) :=by rw[IntKind.wrap_i64]; omega
   obtain⟨p,l',fP,i4,uk⟩:=eu.set (i:=k) (v:=true) (by rw[UA]; omega);rw[UB (by omega)] at uk;simp[fP,i4,aS];exact⟨by omega,uk⟩
  ·have pz:k=g.ids.l.length:=by simp at h; omega
   rw[pz,VZ] at eu;have cy:=eu.cy;simp[h,cy,cA];refine cm g.ops.l.length (fun q ae l=>ae 1=.ptr 0 0 2/\ae 5=.mp kO/\ae 6=.ar 1 b 0 g.ids.l.length g.ids.l.length g.ids.l.length/\ae 33=bw g.ops/\ae 34=.int .i64 g.ops.l.length/\ae 35=.int .i64 q/\qi g kO b (kA g q 0) l) ?_ ⟨by simp,by simp,by simp,by simp,by simp,by simp,eu⟩;clear eu cy;rintro q ae l a8 ⟨aN,bg,cq,pk,pl,zo,eu⟩;obtain⟨ae,rfl⟩:=uA aN bg cq pk pl zo;clear aN bg cq pk pl zo;simp;refine nD (fun af=>?_) (fun af=>?_)
   ·simp only[decide_eq_true_eq] at af;obtain⟨o,au,ec⟩:=bF (l:=g.ops.l) (k:=q) (by omega);have lC:=aA.ops o ec;have aS:IntKind.i64.wrap ((q:Int)+1)=((q+1:Nat) :Int) :=by rw[IntKind.wrap_i64]; omega
    have bU:cN (.ar 11) (bw g.ops) (.int .i64 (q:Int))=some (.cg (a5 o) 0) :=by simp[bw,au]
    have dF:(a5 o).length=11:=rfl;have mR:∀ h,(a5 o)[1]'h=az o.bd:=fun _=>rfl
    have fD:ch (.ar 32) (az o.bd)=some (.int .i64 o.bd.l.length) :=by simp[az]
    obtain⟨O,en⟩:∃ O,O=a5 o:=⟨_,rfl⟩
    rw[<-en] at bU dF mR;have nA:bi [U.int .u32 0,.aK,.int .u64 0,.int .u8 0,.str [],.int .u8 0,.int .i64 0,.int .u64 0,.str [],.int .u32 0,.int .u32 0] 0 O=O:=gl (by rw[dF]; rfl);have Ps:∀ c:aU,(l++[c])[l.length]? = some c:=fun c=>alS
    simp[bU,dF,mR,nA,fD,Ps,aj9];refine cm o.bd.l.length (fun m ae l=>ae 1=.ptr 0 0 2/\ae 5=.mp kO/\ae 6=.ar 1 b 0 g.ids.l.length g.ids.l.length g.ids.l.length/\ae 33=bw g.ops/\ae 34=.int .i64 g.ops.l.length/\ae 35=.int .i64 q/\ae 40=az o.bd/\ae 41=.int .i64 o.bd.l.length/\ae 42=.int .i64 m/\qi g kO b (kA g q m) l) ?_ ⟨by simp,by simp,by simp,by simp,by simp,by simp,by simp,by simp,by simp,eu.more _⟩;clear eu Ps;rintro m ae l hm ⟨aN,bg,cq,pk,pl,zo,w9,xa,LZ,eu⟩;obtain⟨ae,rfl⟩:=Ro aN bg cq pk pl zo w9 xa LZ;clear aN bg cq pk pl zo w9 xa LZ;simp;refine nD (fun al=>?_) (fun al=>?_)
    ·simp only[decide_eq_true_eq] at al;obtain⟨p,av,fE⟩:=bF (l:=o.bd.l) (k:=m) (by omega);have iu:=lC.ids p fE;have gT:=cP iu;have agy:=lC.len;have bv:IntKind.i64.wrap ((m:Int)+1)=((m+1:Nat) :Int) :=by rw[IntKind.wrap_i64]; omega
     obtain⟨i,aB⟩:=akj.1 (V.Z6 o ec p fE);have eb:=(aj7.1 aB).1;have zV:cN (.ar 32) (az o.bd) (.int .i64 (m:Int))=some (.cg (aX p) 0) :=by simp[az,av]
     have Cy:=eu.more (.cells 32 (aX p));have vM:=Cy.p.look py iu aB;obtain⟨ai2,l',fP,i4,uk⟩:=Cy.set (i:=i) (v:=false) (by rw[Gx]; omega);rw[VY py (by rw[nJ au]; exact av) aB] at uk;obtain⟨P,kX⟩:∃ P,P=aX p:=⟨_,rfl⟩
     rw[<-kX] at zV gT vM i4;have XW:bi (rep 32 (U.int .u8 0)) 0 P=P:=gl (by rw[gT]; rfl);simp[zV,gT,XW,vM,fP,i4,bv,aj9];exact⟨by omega,uk⟩
    ·have g3:m=o.bd.l.length:=by simp at al; omega
     have jf:=VX g q;rw[nJ au] at jf;rw[g3,jf] at eu;simp[al,aS];exact⟨by omega,eu⟩
   ·have XB:q=g.ops.l.length:=by simp at af; omega
    rw[XB] at eu;have cy:=eu.cy;simp[af,cy];have aV:=eu.w;refine Zs g aA (seen:=kA g g.ops.l.length 0) (Gx _ _ _) aV eu.ag (fun v l' eY=>?_);simp;have G0:oQ g.ids.l (kA g g.ops.l.length 0) (kA g g.ops.l.length 0).length=he g:=by
     rw[Gx,OO g _ (akb _),akE]; rfl
    rw[G0] at eY;refine IV ?_ (aJ (by rw[aF]) rfl);exact eY.rd fU (uJ g) (by unfold uJ; rw[if_pos aF,nS]) (by unfold uJ; rw[if_pos aF,dm])
 ·have Wh:uJ g=none:=by unfold uJ; rw[if_neg aF]
  rw[Wh];simp[aF];exact aJ rfl rfl
def n2 (l l' : ap) :Prop:=l.length<=l'.length/\∀ b,b<l.length->l'[b]? = l[b]?
theorem n2.refl (l:ap) :n2 l l:=⟨akb _,fun _ _=>rfl⟩
theorem n2.trans {l m n:ap} (h:n2 l m) (af:n2 m n) :n2 l n:=⟨akV h.1 af.1,fun b ag=>by rw[af.2 b (alv ag h.1),h.2 b ag]⟩
def By (f:FuncId) (sT:List U) (l:ap) (xs:List (List B)) (c:List B->Bool) :Prop:=
 ∀ p∈xs,∀ l1,n2 l l1->∀ K:U->ap->Prop,(∀ bt,n2 l1 bt->K (.bool (c p)) bt)->dg Tryz.prog GS f (.aH (aX p) ::sT) l1 (c:=⟨K⟩)
theorem Ym (s:eE) (ak:eh s) (bq:s.l.length<=1000000) {f:FuncId} {sT:List U} {c:List B->Bool} (aI:j2 Tryz.prog f=true) {l:ap} (h:By f sT l s.l c) {K:U->ap->Prop}
  (bj:∀ (n:Int) l',n2 l l'->(0<=n<->s.l.any c=true)->K (.int .i64 n) l') :dg Tryz.prog GS 101 [az s,.fn f [] sT] l (c:=⟨K⟩) :=by
 apply bf Tryz.func101 [];have vN:ch (.ar 32) (az s)=some (.int .i64 s.l.length) :=by simp[az]
 simp[vN];refine cm s.l.length (fun k ae l1=>ae 0=az s/\ae 1=.fn f [] sT/\ae 7=.int .i64 s.l.length/\ae 8=.int .i64 k/\n2 l l1/\∀ j y,j<k->s.l[j]? = some y->c y=false) ?_ ⟨by simp,by simp,by simp,by simp,n2.refl _,fun j _ aj=>by omega⟩;rintro k ae l1 ax ⟨cp,aN,ez,fB,ao,cH⟩;obtain⟨ae,rfl⟩:=h1 cp aN ez fB;clear cp aN ez fB;simp;refine nD (fun af=>?_) (fun af=>?_)
 ·simp only[decide_eq_true_eq] at af;obtain⟨x,ai,c7⟩:=bF (l:=s.l) (k:=k) (by omega);have bm:=cP (ak x c7);have aS:IntKind.i64.wrap ((k:Int)+1)=((k+1:Nat) :Int) :=by rw[IntKind.wrap_i64]; omega
  have bU:cN (.ar 32) (az s) (.int .i64 (k:Int))=some (.cg (aX x) 0) :=by simp[az,ai]
  have xq:=h x c7 l1 ao;obtain⟨X,cL⟩:∃ X,X=aX x:=⟨_,rfl⟩
  rw[<-cL] at bU bm xq;simp[bU,bm,aj9];refine⟨aI,xq _ fun bt rH=>?_⟩;cases ah:c x with
  | true=>
   simp;exact bj _ _ (ao.trans rH) ⟨fun _=>al4.2 ⟨x,c7,ah⟩,fun _=>by omega⟩
  | false=>
   simp[aS];refine⟨af,ao.trans rH,fun j y aj aL=>?_⟩;by_cases fX:j=k
   ·rw[fX,ai] at aL; obtain rfl:=Option.some.inj aL; exact ah
   ·exact cH j y (by omega) aL
 ·simp[af];have pz:k=s.l.length:=by simp at af; omega
  refine bj _ _ ao ⟨fun h=>by omega,fun h=>?_⟩;obtain⟨y,aL,jE⟩:=al4.1 h;obtain⟨j,aj⟩:=akj.1 aL;rw[cH j y (by rw[pz]; exact (aj7.1 aj).1) aj] at jE; cases jE
theorem Le (s:eE) (ak:eh s) (bq:s.l.length<=1000000) {f:FuncId} {sT:List U} {c:List B->Bool} (aI:j2 Tryz.prog f=true) {l:ap} (h:By f sT l s.l c) {K:U->ap->Prop}
  (bj:∀ l',n2 l l'->K (.bool (s.l.any c)) l') :dg Tryz.prog GS 97 [az s,.fn f [] sT] l (c:=⟨K⟩) :=by
 apply bf Tryz.func97 [];simp;refine Ym s ak bq aI h fun n l' ao aD=>?_
 simp;have:decide (0<=n)=s.l.any c:=by
  rw[amt,decide_eq_true_eq]; exact aD
 rw[this];exact bj _ ao
end Op

end Go.ca

namespace Go.ca
open Go Go.Proofs
set_option maxRecDepth 100000
theorem Tf {P:Program} {G:Nat->U} {f:FuncId} {args args2:List U} {h af h' : aW} {r:U} (ah:yF P G f args2 af r h') (hL:lT h af) (am:args2.length=args.length)
  (aq:∀ (j:Nat) (c ce:U),args[j]? = some c->args2[j]? = some ce->lQ h af c ce) :yF P G f args h r h':=by
 intro R B w μ vs rel g hv kL;refine (ah R B w μ vs (hL.rel rel) (g.ext (hL.ext w μ)) (by omega) (fun j ce v aj fk=>?_)).mono ?_
 ·have ev:=(aj7.1 aj).1;obtain⟨c,lx⟩:∃ c,args[j]? = some c:=⟨_,aka (by omega)⟩
  exact hL.nV rel (aq j c ce lx aj) (kL j c v lx fk)
 ·rintro e w' ⟨v,μ',rfl,aS,e8,Ai⟩;exact⟨v,μ',rfl,(hL.ext w μ).trans aS,e8,Ai⟩
theorem BZ {P:Program} {G:Nat->U} (k4:P.follows .mixedOrders=true) (ky:∀ g,(G g).closed=true) {f:FuncId} {args args2:List U} {l bt:ap} {K:U->ap->Prop} (hL:lT (bM l) (bM bt)) (er:l.length<=bt.length) (am:args2.length=args.length)
  (aq:∀ (j:Nat) (c ce:U),args[j]? = some c->args2[j]? = some ce->lQ (bM l) (bM bt) c ce) (h:dg P G f args2 bt (c:=⟨K⟩)) :dg P G f args l (c:=⟨K⟩) :=by
 obtain⟨r,l',CP,C3,ax⟩:=h;exact⟨r,l',.ext (Tf (QN k4 ky CP) hL am aq),akV er C3,ax⟩
namespace Op
theorem D7 {α:Type} {z:Nat} {enc:α->List U} {l:ap} {v:U} {j:Nat} {xs:List α} (s:cT α) (h:bJ z l v j (xs.map enc)) (aD:cw v=s.isNone) (ak:s.l=xs) :
  ∃ bt,lT (bM l) (bM bt)/\lQ (bM l) (bM bt) v (ct z enc s)/\bt.length=l.length/\∀ b,(v=.aK\/b≠j)->bt[b]? = l[b]?:=by
 cases s with
 | none=>
  have aq:v=.aK:=jH.1 (by rw[aD]; rfl);subst aq;exact⟨l,⟨rfl,fun b=>.inl rfl⟩,.same _,rfl,fun b _=>rfl⟩
 | some a=>
  have aq:cw v=false:=by rw[aD]; rfl
  have rW:a=xs:=ak;obtain⟨ad,af⟩:=aaj h aq;refine⟨l.set j .dead,ad,by rw[rW]; exact af,by simp,fun b ag=>?_⟩;rcases ag with e | e
  ·rw[e] at aq; cases aq
  ·exact akl (Ne.symm e)
end Op

end Go.ca

namespace Go.ca
open Go Go.Proofs
set_option maxRecDepth 100000
namespace Op
open hN
theorem BK {α:Type} {enc:α->List U} {z by_:Nat} (l:ap) (b:Nat) (qt:l[b]? = some (.cells 0 [])) (s:cT α) (h:∀ x∈s.l,(enc x).length=z) (aF:z≠0) (ag:by_≠0) (ay:s.l.length*by_<=cF) :
  fS l z by_ (.ar z b 0 0 0 0) (ct z enc s)=some (.ar z b 0 s.l.length s.l.length (s.l.length*z),l.set b (.cells (s.l.length*z) (s.l.map enc).flatten)) :=by
 have gI:=vm h;unfold fS;rw[s1];simp only[];unfold i8;by_cases aw:s.l.length=0
 ·have aF:s.l=[] :=akH.1 aw;rw[aF];obtain⟨fu,Gq⟩:=aj7.1 qt;have:l.set b (.cells 0 [])=l:=by rw[<-Gq,List.set_getElem_self]
  simp[this]
 ·rw[if_neg aw,if_neg (by omega)];have bW:¬ s.l=[] :=fun h=>aw (by rw[h]; rfl)
  simp[ay,aF,aw,bW,qt]
theorem Zj (a:List B) :hy a a=false:=by
 cases h:hy a a with
 | false=>rfl
 | true=>rw[mn,pf] at h; omega
theorem DK (a b c:List B) (ad:hy a b=true) (af:hy b c=true) :hy a c=true:=(mn _ _).2 (wS a b c ((mn _ _).1 ad) ((mn _ _).1 af))
theorem Zk (a b:List B) (bW:a≠b) (h:hy a b=false) :hy b a=true:=by
 rw[mn,y4];rcases K5 a b with ad | ad | ad
 ·rw[(mn a b).2 (by omega)] at h; cases h
 ·exact absurd (wR ad) bW
 ·omega
theorem I0 {l:List (List B)} (h:dk l=true) :l.Pairwise fun a b=>hy a b=true:=
 ams.2 fun i j aB aj ma=>(mn _ _).2 (oW h ma (aka aB) (aka aj))
theorem Pj {l:List (List B)} (h:l.Pairwise fun a b=>hy a b=true) :dk l=true:=El fun k ax ad=>by
 have af:=aka ax;have al:=aka (l:=l) (i:=k - 1) (by omega);rw[fF af,fF al];exact (mn _ _).1 ((ams.1 h) (k - 1) k (by omega) ax (by omega))
section
variable {α:Type} {z:Nat} {enc:α->List U}
def ic (s:cT α) (k:Nat) :cT α:=match s with | none=>none | some a=>some (a.take k)
def iA (s:cT α) (k:Nat) :cT α:=match s with | none=>none | some a=>some (a.drop k)
theorem lM (s:cT α) (k:Nat) :(ic s k).l=s.l.take k:=by cases s<;>simp[ic]
theorem nR (s:cT α) (k:Nat) :(iA s k).l=s.l.drop k:=by cases s<;>simp[iA]
theorem Q5 {s:cT α} {k:Nat} (h:k<=s.l.length) :e3 (.ar z) (ct z enc s) none (some (.int .i64 (k:Int))) none=some (ct z enc (ic s k)) :=by
 cases s with
 | none=>
  have:k=0:=by simpa using h
  subst this; rfl
 | some a=>exact QJ (z:=z) (enc:=enc) (l:=a) (k:=.i64) (i:=(k:Int)) (by omega) (by have:k<=a.length:=h; omega)
theorem Ex {s:cT α} {k:Nat} (h:k<=s.l.length) :e3 (.ar z) (ct z enc s) (some (.int .i64 (k:Int))) none none=some (ct z enc (iA s k)) :=by
 cases s with
 | none=>
  have:k=0:=by simpa using h
  subst this; rfl
 | some a=>exact QH (z:=z) (enc:=enc) (l:=a) (k:=.i64) (i:=(k:Int)) (by omega) (by have:k<=a.length:=h; omega)
theorem aaC {by_:Nat} {l:ap} {b c k:Nat} {s:cT α} {x:α} (ag:l[b]? = some (.cells 0 [])) (ah:l[c]? = some (.cells z (enc x))) (VK:b≠c) (ax:k<=s.l.length) (ak:∀ y∈s.l,(enc y).length=z) (ai:(enc x).length=z) (aF:z≠0) (ep:by_≠0) (ed:(s.l.length+1)*by_<=cF) :
  fS l z by_ (.ar z b 0 0 0 0) (ct z enc (ic s k))=some (.ar z b 0 k k (k*z),l.set b (.cells (k*z) ((s.l.take k).map enc).flatten)) ∧
  fS (l.set b (.cells (k*z) ((s.l.take k).map enc).flatten)) z by_ (.ar z b 0 k k (k*z)) (.ar z c 0 1 1 z)=some (.ar z b 0 (k+1) (k+1) ((k+1)*z),l.set b (.cells ((k+1)*z) ((s.l.take k++[x]).map enc).flatten)) ∧
  fS (l.set b (.cells ((k+1)*z) ((s.l.take k++[x]).map enc).flatten)) z by_ (.ar z b 0 (k+1) (k+1) ((k+1)*z)) (ct z enc (iA s k)) =
   some (.ar z b 0 (mi s.l k x).length (mi s.l k x).length ((mi s.l k x).length*z),l.set b (.cells ((mi s.l k x).length*z) ((mi s.l k x).map enc).flatten)) :=by
 have fu:=b9 ag;have br:(s.l.take k).length=k:=by rw[akB]; omega
 have HC:∀ y∈s.l.take k,(enc y).length=z:=fun y aL=>ak y (akD aL)
 have er:k*by_<=cF:=akV (akc _ (by omega)) ed;have Nj:(k+1)*by_<=cF:=akV (akc _ (by omega)) ed;refine⟨?_,?_,?_⟩
 ·have:=BK (enc:=enc) (by_:=by_) l b ag (ic s k) (by rw[lM]; exact HC) aF ep (by rw[lM,br]; exact er);rw[lM,br] at this;exact this
 ·have:=Kr (l:=l.set b (.cells (k*z) ((s.l.take k).map enc).flatten)) (z:=z) (by_:=by_) (b:=b) (n:=k) (m:=1) (sz:=k*z) (es:=(s.l.take k).map enc) (xs:=[enc x]) (x:=.ar z c 0 1 1 z)
   (akm fu) (by simp[dd,akl VK,ah,ai,aj9]) (by rw[aki,br]) rfl rfl (fun e ao=>by obtain⟨y,aL,rfl⟩:=akz.1 ao; exact HC y aL) aF ep Nj
  rw[this,List.set_set];simp
 ·have db:(iA s k).l.length=s.l.length - k:=by rw[nR,alk]
  have aD:k+1+(s.l.length - k)=(mi s.l k x).length:=by rw[Dv]; omega
  have:=Kr (l:=l.set b (.cells ((k+1)*z) ((s.l.take k++[x]).map enc).flatten)) (z:=z) (by_:=by_) (b:=b) (n:=k+1) (m:=s.l.length - k) (sz:=(k+1)*z) (es:=(s.l.take k++[x]).map enc) (xs:=(iA s k).l.map enc) (x:=ct z enc (iA s k))
   (akm fu) (by rw[s1,db]) (by rw[aki,akf,br]; rfl) (by rw[aki,db]) rfl (fun e ao=>by
    obtain⟨y,aL,rfl⟩:=akz.1 ao;rcases ak5.1 aL with h | h
    ·exact HC y h
    ·rw[alg.1 h]; exact ai) aF ep (by rw[aD,Dv]; exact ed)
  rw[this,List.set_set,aD,nR,<-aks];unfold mi;simp
end
theorem K9 (l:List (List B)) (x:List B) :im l x<=l.length:=by unfold im; exact (List.takeWhile_sublist _).length_le
theorem Fy {x:List B}:∀ {l:List (List B)} {k:Nat} {y:List B},k<im l x->l[k]? = some y->b6 y x<0
 | [],k,y,_,h=>by simp at h
 | a::l,k,y,ax,h=>by
  unfold im at ax;rw[amq] at ax;by_cases aC:b6 a x<0
  ·cases k with
   | zero=>simp at h; subst h; exact aC
   | succ k=>
    rw[decide_eq_true aC] at ax;simp at ax h;exact Fy (l:=l) (by unfold im; exact ax) h
  ·rw[decide_eq_false aC] at ax; simp at ax
theorem Fx {x:List B}:∀ {l:List (List B)} {y:List B},l[im l x]? = some y->¬ b6 y x<0
 | [],y,h=>by simp at h
 | a::l,y,h=>by
  unfold im at h;rw[amq] at h;by_cases aC:b6 a x<0
  ·rw[decide_eq_true aC] at h;simp at h;exact Fx (l:=l) (by unfold im; exact h)
  ·rw[decide_eq_false aC] at h; simp at h; subst h; exact aC
theorem abJ {l:List (List B)} {x:List B} (h:dk l=true) (ai:x∉l) :dk (mi l (im l x) x)=true:=by
 have av:=I0 h;have er:=K9 l x;refine Pj ?_;unfold mi;have aO:∀ y∈l.take (im l x),hy y x=true:=fun y aL=>by
  obtain⟨k,ax⟩:=akj.1 aL;have br:=(aj7.1 ax).1;rw[akB] at br;rw[aku (by omega)] at ax;exact (mn _ _).2 (Fy (by omega) ax)
 have qv:∀ y∈l.drop (im l x),hy x y=true:=fun y aL=>by
  have dP:=alw aL;obtain⟨k,ax⟩:=akj.1 aL;rw[akG] at ax;obtain⟨z,aw,xT⟩:=bF (l:=l) (k:=im l x) (by have:=(aj7.1 ax).1; omega);have ad:hy x z=true:=Zk z x (fun e=>ai (by rw[<-e]; exact xT)) (by
   cases af:hy z x with
   | false=>rfl
   | true=>exact absurd ((mn _ _).1 af) (Fx aw))
  by_cases zX:k=0
  ·subst zX; rw[amw,aw] at ax; obtain rfl:=Option.some.inj ax; exact ad
  ·exact DK _ _ _ ad ((mn _ _).2 (oW h (show im l x<im l x+k by omega) aw ax))
 rw[amN];refine⟨av.sublist (am0 _ _),amZ.2 ⟨qv,av.sublist (List.drop_sublist _ _)⟩,fun a aC b ag=>?_⟩;rcases alr.1 ag with e | e
 ·rw[e]; exact aO a aC
 ·exact DK _ _ _ (aO a aC) (qv b e)
def lG (l:List (List B)) (x:List B) :List (List B) :=if l[im l x]? = some x then l else mi l (im l x) x
def mA (l:List (List B)) :Nat->List (List B)
 | 0=>[]
 | k+1=>lG (mA l k) (bQ l k)
def yn (l:List (List B)) :List (List B) :=mA l l.length
theorem Yp {l:List (List B)} {x y:List B}:y∈lG l x<->y=x\/y∈l:=by
 unfold lG;split
 ·rename_i h;exact⟨.inr,fun af=>af.elim (fun e=>by rw[e]; exact ake h) id⟩
 ·exact Ok
theorem Yo (l:List (List B)) (x:List B) :(lG l x).length<=l.length+1:=by
 unfold lG;split
 ·omega
 ·rw[Dv]; omega
theorem TF {l:List (List B)} (h:dk l=true) {x:List B} (ai:x∈l) :l[im l x]? = some x:=by
 obtain⟨k,ax⟩:=akj.1 ai;rw[Fw h ax]; exact ax
theorem Yq {l:List (List B)} (h:dk l=true) (x:List B) :dk (lG l x)=true:=by
 unfold lG;split
 ·exact h
 ·rename_i af;exact abJ h fun ai=>af (TF h ai)
theorem Jl {l:List (List B)} {y:List B}:∀ {k:Nat},k<=l.length->(y∈mA l k<->y∈l.take k)
 | 0,_=>by simp[mA]
 | k+1,ax=>by
  obtain⟨x,ai,_⟩:=bF (l:=l) (k:=k) (by omega);show y∈lG _ _<->_;rw[Yp,Jl (by omega),akC,ai,fF ai,ak5];simp; exact or_comm
theorem Jk {l:List (List B)}:∀ {k:Nat},(mA l k).length<=k
 | 0=>by simp[mA]
 | k+1=>akV (Yo _ _) (by have:=Jk (l:=l) (k:=k); omega)
theorem QR {l:List (List B)}:∀ {k:Nat},dk (mA l k)=true
 | 0=>by unfold mA dk; exact decide_eq_true fun k ax=>by simp at ax
 | k+1=>Yq QR _
theorem QQ {l:List (List B)} {y:List B}:y∈yn l<->y∈l:=by unfold yn; rw[Jl (akb _),akE]
theorem acE (l:List (List B)) :dk (yn l)=true:=QR
theorem Q4 {α:Type} {l:List α} (h:l≠[]) :cV l=some l:=by cases l with | nil=>exact absurd rfl h | cons=>rfl
set_option maxHeartbeats 8000000 in
theorem aa7 (s:eE) (ak:eh s) (am:s.l.length<=1000000) :bn Tryz.prog GS 79 [az s] (az (cV (yn s.l))) :=by
 refine bD Tryz.checked.mixed bx ?_;apply bf Tryz.func79 [[],[],[[0],[1],[2],[3],[5],[6],[7],[8],[9],[11],[12],[13],[4,9,8],[10]]];have ay:cF=140737488355328:=rfl;have vN:ch (.ar 32) (az s)=some (.int .i64 s.l.length) :=by simp[az]
 simp;refine cm s.l.length (fun k ae l=>ae 0=az s/\ae 3=az (cV (mA s.l k))/\ae 4=.int .i64 k) ?_ ⟨by simp,by simp[mA]; rfl,by simp⟩;rintro k ae l ax ⟨cp,aZ,a9⟩;obtain⟨ae,rfl⟩:=jT cp aZ a9;clear cp aZ a9;have aS:IntKind.i64.wrap ((k:Int)+1)=((k+1:Nat) :Int) :=by rw[IntKind.wrap_i64]; omega
 by_cases br:k<s.l.length
 ·obtain⟨x,ai,c7⟩:=bF br;have eU:=ak x c7;have bm:=cP eU;have eZ:=fU x;have bU:cN (.ar 32) (az s) (.int .i64 (k:Int))=some (.cg (aX x) 0) :=by simp[az,ai]
  have en:∀ y∈mA s.l k,y.length=32:=fun y aL=>ak y (akD ((Jl (ali br)).1 aL))
  have nu:=Jk (l:=s.l) (k:=k);have jf:mA s.l (k+1)=lG (mA s.l k) x:=by show lG _ (bQ s.l k)=_; rw[fF ai]
  obtain⟨O,Gc⟩:∃ O,O=cV (mA s.l k) :=⟨_,rfl⟩
  have Mp:O.l=mA s.l k:=by rw[Gc,dm]
  have Vs:cV O.l=O:=by rw[Mp,Gc]
  rw[<-Mp] at en nu jf;have cA:ch (.ar 32) (az O)=some (.int .i64 O.l.length) :=by simp[az]
  obtain⟨c,ah⟩:∃ c,c=im O.l x:=⟨_,rfl⟩
  have eQ:c<=O.l.length:=by rw[ah]; exact K9 _ _
  have Of:∀ (j:Nat) (y:List B),O.l[j]? = some y->cN (.ar 32) (az O) (.int .i64 (j:Int))=some (.cg (aX y) 0) :=fun j y aL=>by simp[az,aL]
  obtain⟨X,cL⟩:∃ X,X=aX x:=⟨_,rfl⟩
  rw[<-cL] at bm eZ bU;have gh:X.take 32=X:=aj9 (by omega);rw[<-Gc];simp[vN,br];refine cm c (fun j ae l'=>l'=l/\ae 0=az s/\ae 3=az O/\ae 4=.int .i64 k/\ae 5=.int .i64 j) ?_ ⟨rfl,by simp,by simp,by simp,by simp⟩;rintro j ae l' aj ⟨rfl,cp,aZ,a9,bg⟩;obtain⟨ae,rfl⟩:=h1 cp aZ a9 bg;clear cp aZ a9 bg;have bv:IntKind.i64.wrap ((j:Int)+1)=((j+1:Nat) :Int) :=by rw[IntKind.wrap_i64]; omega
  by_cases M8:j<c
  ·obtain⟨y,aL,dP⟩:=bF (l:=O.l) (k:=j) (by omega);have aO:b6 y x<0:=Fy (by rw[<-ah]; exact M8) aL;have ev:j<O.l.length:=by omega
   have eV:=cP (en y dP);have jE:=fU y;have eS:=IX y x (en y dP) eU;change bn Tryz.prog GS _ [.aH (aX y),.aH (aX x)] _ at eS;have gJ:=Of j y aL;rw[<-cL] at eS;obtain⟨Y,gi⟩:∃ Y,Y=aX y:=⟨_,rfl⟩
   rw[<-gi] at gJ eV jE eS;simp[cA,ev,gJ,eV,bU,bm,gh,aj9];refine aY eS (by simp[a1,U.closed,eZ,jE]) ?_;simp[aO,bv];exact M8
  ·have CZ:j=c:=by omega
   have t1:e3 (.ar 32) (az O) none (some (.int .i64 (j:Int))) none=some (az (ic O j)) :=Q5 (by omega);have t2:e3 (.ar 32) (az O) (some (.int .i64 (j:Int))) none none=some (az (iA O j)) :=Ex (by omega);obtain⟨I,l5⟩:∃ I,I=mi O.l j x:=⟨_,rfl⟩
   obtain⟨J2,Vj⟩:∃ J2,J2=((O.l.take j).map aX).flatten:=⟨_,rfl⟩
   obtain⟨J3,Vk⟩:∃ J3,J3=((O.l.take j++[x]).map aX).flatten:=⟨_,rfl⟩
   have oN:∀ y∈O.l,(aX y).length=32:=fun y aL=>cP (en y aL)
   obtain⟨pZ,si,yc⟩:=aaC (enc:=aX) (z:=32) (by_:=32) (l:=l'++[.cells 0 [],.cells 32 X]) (b:=l'.length) (c:=l'.length+1) (k:=j) (s:=O) (x:=x) (by simp) (by rw[cL]; simp) (by omega) (by omega) oN (by rw[<-cL]; exact bm) (by omega) (by omega) (by rw[ay]; omega);change fS _ _ _ _ (az _)=_ at pZ yc;have kf:∀ c:aU,(l'++[aU.cells 0 [],.cells 32 X]).set l'.length c=l'++[c,.cells 32 X] :=fun c=>by simp
   simp only[<-l5,<-Vj,<-Vk,kf] at pZ si yc;have Mj:∀ y∈I,(aX y).length=32:=fun y aL=>by
    rw[l5,Ok] at aL;rcases aL with h | h
    ·rw[h,<-cL]; exact bm
    ·exact oN y h
   have Mi:I≠[] :=fun h=>by have:=congrArg List.length h; rw[l5,Dv] at this; simp at this
   have Ct:U.b1 32 (I.map aX)=az (some I) :=rfl;have hU:bi (rep 32 (.int .u8 0)) 0 X=X:=gl (by rw[bm]; rfl);by_cases ev:j<O.l.length
   ·obtain⟨y,aL,dP⟩:=bF ev;have aO:¬ b6 y x<0:=Fx (by rw[<-ah,<-CZ]; exact aL);have eV:=cP (en y dP);have jE:=fU y;have eS:=IX y x (en y dP) eU;change bn Tryz.prog GS _ [.aH (aX y),.aH (aX x)] _ at eS;have gJ:=Of j y aL;have bW:=tD (en y dP) eU;have iY:¬ (j:Int)=O.l.length:=by omega
    have zW:¬ j=O.l.length:=by omega
    rw[<-cL] at eS bW;obtain⟨Y,gi⟩:∃ Y,Y=aX y:=⟨_,rfl⟩
    rw[<-gi] at gJ eV jE eS bW;simp[cA,ev,gJ,eV,bU,bm,gh,aj9];refine aY eS (by simp[a1,U.closed,eZ,jE]) ?_;by_cases Ap:y=x
    ·have qD:lG O.l x=O.l:=by unfold lG; rw[<-ah,<-CZ,aL,Ap,if_pos rfl]
     have jz:¬ b6 x x<0:=by rw[Ap] at aO; exact aO
     have pB:fT Tryz.prog .neq 61 (.aH Y) (.aH X)=some (.bool false) :=by rw[bW,decide_eq_true Ap]; rfl
     simp[aO,jz,cA,iY,zW,gJ,eV,bU,bm,gh,aj9,pB,aS];exact⟨br,by rw[jf,qD,Vs]⟩
    ·have GN:lG O.l x=I:=by unfold lG; rw[<-ah,<-CZ,aL,if_neg (fun h=>Ap (Option.some.inj h)),l5]
     have pB:fT Tryz.prog .neq 61 (.aH Y) (.aH X)=some (.bool true) :=by rw[bW,decide_eq_false Ap]; rfl
     simp[aO,cA,iY,zW,gJ,eV,bU,bm,gh,aj9,pB,t1,t2,hU,pZ];refine cM.cc ?_;simp[si,t2,bm,gh];refine cM.cc ?_;simp[yc];refine cM.vo (by exact sg Mj rfl (by simp)) rfl ?_;simp[Ct,aS];exact⟨br,by rw[jf,GN,Q4 Mi]⟩
   ·have iY:(j:Int)=O.l.length:=by omega
    have zW:j=O.l.length:=by omega
    have GN:lG O.l x=I:=by unfold lG; rw[<-ah,<-CZ,if_neg,l5]; rw[akp (by omega)]; simp
    rw[zW] at t1 t2 pZ si yc;simp[cA,ev,zW,bU,bm,gh,aj9,t1,t2,hU,pZ];refine cM.cc ?_;simp[si,t2,bm,gh];refine cM.cc ?_;simp[yc];refine cM.vo (by exact sg Mj rfl (by simp)) rfl ?_;simp[Ct,aS];exact⟨br,by rw[jf,GN,Q4 Mi]⟩
 ·have dR:k=s.l.length:=by omega
  subst dR;simp[vN];exact aJ rfl (cW _)
structure gE (l:ap) (cd bP:U) (dW ef n:Nat) (ids:List (List B)) (ops:List bl) :Prop where
 ix:bJ 32 l cd dW (ids.map aX)
 hl:bJ 11 l bP ef (ops.map a5)
 hk:cw cd=ids.isEmpty
 jL:cw bP=ops.isEmpty
 dn:cd=.aK\/n<=dW
 dc:bP=.aK\/n<=ef
 ne:cd=.aK\/bP=.aK\/dW≠ef
theorem D1 (l:ap) (n:Nat) :gE l .aK .aK 0 0 n [] [] :=⟨.nil 0,.nil 0,rfl,rfl,.inl rfl,.inl rfl,.inl rfl⟩
theorem gE.frame {l l' : ap} {cd bP:U} {dW ef n:Nat} {ids:List (List B)} {ops:List bl} (h:gE l cd bP dW ef n ids ops) (aI:∀ b,n<=b->b<l.length->l'[b]? = l[b]?) :gE l' cd bP dW ef n ids ops:=by
 refine⟨h.ix.jt ?_,h.hl.jt ?_,h.hk,h.jL,h.dn,h.dc,h.ne⟩
 ·rcases h.dn with e | e
  ·exact .inl e
  ·rcases h.ix.lt with bv | bv
   ·exact .inl bv
   ·exact .inr (aI _ e bv)
 ·rcases h.dc with e | e
  ·exact .inl e
  ·rcases h.hl.lt with bv | bv
   ·exact .inl bv
   ·exact .inr (aI _ e bv)
theorem gE.ids {l:ap} {cd bP:U} {dW ef n:Nat} {ids:List (List B)} {ops:List bl} (h:gE l cd bP dW ef n ids ops) {X:List U} {x:List B} (cL:X=aX x) (ai:X.length=32) (aD:n<=l.length) (am:ids.length<=1000000) :
  ∃ a4 cb l',fS (l++[.cells 32 X]) 32 32 cd (.ar 32 l.length 0 1 1 32)=some (a4,l')/\gE l' a4 bP cb ef n (ids++[x]) ops/\l.length+1<=l'.length/\∀ b,b<n->l'[b]? = l[b]?:=by
 have ay:cF=140737488355328:=rfl;obtain⟨a4,cb,l',a2,bb,cr,dY,gF,jq⟩:=u4 (by_:=32) (x:=.ar 32 l.length 0 1 1 32) (xs:=[X]) (h.ix.more [aU.cells 32 X]) (by simp[dd,ai,aj9]) (by simp[ai]) (by omega) (by omega) (by rw[ay]; simp; omega);have e1:cw a4=false:=by rw[jq]; simp
 have kK:a4≠.aK:=fun e=>by rw[e] at e1; cases e1
 have hg:(l++[aU.cells 32 X]).length=l.length+1:=by simp
 have eX:n<=cb:=by
  rcases gF with e | ⟨aS,bv⟩ | e
  ·omega
  ·rw[bv]; exact h.dn.resolve_left aS
  ·exact absurd e kK
 have hQ:∀ b,b<l.length->cd=.aK\/b≠dW->l'[b]? = l[b]?:=fun b ag tl=>by
  rw[dY b (by omega) tl,aj8 ag]
 refine⟨a4,cb,l',a2,⟨?_,?_,by rw[e1]; simp,h.jL,.inr eX,h.dc,?_⟩,by omega,fun b ag=>?_⟩
 ·rw[aks,akx,alA,<-cL]; exact bb
 ·refine h.hl.jt ?_;rcases h.hl.lt with e | e
  ·exact .inl e
  ·by_cases gM:bP=.aK
   ·exact .inl gM
   ·refine .inr (hQ _ e ?_);rcases h.ne with q | q | q
    ·exact .inl q
    ·exact absurd q gM
    ·exact .inr fun e=>q e.symm
 ·by_cases gM:bP=.aK
  ·exact .inr (.inl gM)
  ·refine .inr (.inr fun e=>?_);have af:=h.hl.lt.resolve_left gM;rcases gF with q | ⟨q1,cS⟩ | q
   ·omega
   ·rcases h.ne with p | p | p
    ·exact q1 p
    ·exact gM p
    ·exact p (by omega)
   ·exact kK q
 ·refine hQ b (by omega) ?_;rcases h.dn with e | e
  ·exact .inl e
  ·exact .inr (by omega)
theorem gE.ops {l:ap} {cd bP:U} {dW ef n:Nat} {ids:List (List B)} {ops:List bl} (h:gE l cd bP dW ef n ids ops) {O:List U} {o:bl} (en:O=a5 o) (aD:n<=l.length) (am:ops.length<=1000000) :
  ∃ a4 cb l',fS (l++[.cells 11 O]) 11 112 bP (.ar 11 l.length 0 1 1 11)=some (a4,l')/\gE l' cd a4 dW cb n ids (ops++[o])/\l.length+1<=l'.length/\∀ b,b<n->l'[b]? = l[b]?:=by
 have ay:cF=140737488355328:=rfl;have ai:O.length=11:=by rw[en]; rfl
 obtain⟨a4,cb,l',a2,bb,cr,dY,gF,jq⟩:=u4 (by_:=112) (x:=.ar 11 l.length 0 1 1 11) (xs:=[O]) (h.hl.more [aU.cells 11 O]) (by simp[dd,ai,aj9]) (by simp[ai]) (by omega) (by omega) (by rw[ay]; simp; omega);have e1:cw a4=false:=by rw[jq]; simp
 have kK:a4≠.aK:=fun e=>by rw[e] at e1; cases e1
 have hg:(l++[aU.cells 11 O]).length=l.length+1:=by simp
 have eX:n<=cb:=by
  rcases gF with e | ⟨aS,bv⟩ | e
  ·omega
  ·rw[bv]; exact h.dc.resolve_left aS
  ·exact absurd e kK
 have hQ:∀ b,b<l.length->bP=.aK\/b≠ef->l'[b]? = l[b]?:=fun b ag tl=>by
  rw[dY b (by omega) tl,aj8 ag]
 refine⟨a4,cb,l',a2,⟨?_,?_,h.hk,by rw[e1]; simp,h.dn,.inr eX,?_⟩,by omega,fun b ag=>?_⟩
 ·refine h.ix.jt ?_;rcases h.ix.lt with e | e
  ·exact .inl e
  ·by_cases gM:cd=.aK
   ·exact .inl gM
   ·refine .inr (hQ _ e ?_);rcases h.ne with q | q | q
    ·exact absurd q gM
    ·exact .inl q
    ·exact .inr q
 ·rw[aks,akx,alA,<-en]; exact bb
 ·by_cases gM:cd=.aK
  ·exact .inl gM
  ·refine .inr (.inr fun e=>?_);have af:=h.ix.lt.resolve_left gM;rcases gF with q | ⟨q1,cS⟩ | q
   ·omega
   ·rcases h.ne with p | p | p
    ·exact gM p
    ·exact q1 p
    ·exact p (by omega)
   ·exact kK q
 ·refine hQ b (by omega) ?_;rcases h.dc with e | e
  ·exact .inl e
  ·exact .inr (by omega)
theorem oU {z:Nat} {l:ap} {v:U} {j:Nat} {es:List (List U)} (h:bJ z l v j es) :v.cells=some [v] :=by cases h<;>rfl
theorem js (s:eE) :(az s).cells=some [az s] :=by cases s<;>rfl
theorem nk (s:cT bl) :(bw s).cells=some [bw s] :=by cases s<;>rfl
theorem ow {α:Type} {a b c:α} {j:Nat} (h:[a,b][j]? = some c) :(j=0/\c=a)\/(j=1/\c=b) :=by
 match j,h with
 | 0,h=>left; simpa using h.symm
 | 1,h=>right; simpa using h.symm
 | j+2,h=>simp at h
theorem xd {α:Type} {a c:α} {j:Nat} (h:[a][j]? = some c) :j=0/\c=a:=by
 match j,h with
 | 0,h=>simpa using h.symm
 | j+1,h=>simp at h
theorem gE.call {l:ap} {cd bP:U} {dW ef n:Nat} {ids:List (List B)} {ops:List bl} (h:gE l cd bP dW ef n ids ops) {f:FuncId} {K:U->ap->Prop}
  (ah:∀ bt,bt.length=l.length->(∀ b,b<n->bt[b]? = l[b]?)->dg Tryz.prog GS f [.aH [az (cV ids),bw (cV ops)]] bt (c:=⟨K⟩)) :dg Tryz.prog GS f [.aH [cd,bP]] l (c:=⟨K⟩) :=by
 obtain⟨l1,bV,e8,aS,f1⟩:=D7 (cV ids) h.ix (by rw[nS]; exact h.hk) (dm _);have hl:bJ 11 l1 bP ef (ops.map a5) :=by
  refine h.hl.jt ?_;by_cases gM:bP=.aK
  ·exact .inl gM
  ·refine .inr (f1 _ ?_);rcases h.ne with q | q | q
   ·exact .inl q
   ·exact absurd q gM
   ·exact .inr fun e=>q e.symm
 obtain⟨bt,w2,dU,bv,f2⟩:=D7 (cV ops) hl (by rw[nS]; exact h.jL) (dm _);refine BZ Tryz.checked.mixed bx (args2:=[.aH [az (cV ids),bP]]) bV (by omega) rfl (fun j c ce ad af=>?_) (BZ Tryz.checked.mixed bx (args2:=[.aH [az (cV ids),bw (cV ops)]]) w2 (by omega) rfl (fun j c ce ad af=>?_) (ah bt (by omega) fun b ag=>?_))
 ·obtain⟨rfl,rfl⟩:=xd ad;obtain⟨_,rfl⟩:=xd af;refine .aH _ _ rfl fun j c c' ad af=>?_
  rcases ow ad with ⟨rfl,rfl⟩ | ⟨rfl,rfl⟩
  ·rcases ow af with ⟨_,rfl⟩ | ⟨h,_⟩
   ·exact e8
   ·omega
  ·rcases ow af with ⟨h,_⟩ | ⟨_,rfl⟩
   ·omega
   ·exact .same _
 ·obtain⟨rfl,rfl⟩:=xd ad;obtain⟨_,rfl⟩:=xd af;refine .aH _ _ rfl fun j c c' ad af=>?_
  rcases ow ad with ⟨rfl,rfl⟩ | ⟨rfl,rfl⟩
  ·rcases ow af with ⟨_,rfl⟩ | ⟨h,_⟩
   ·exact .same _
   ·omega
  ·rcases ow af with ⟨h,_⟩ | ⟨_,rfl⟩
   ·omega
   ·exact dU
 ·rw[f2 b ?_,f1 b ?_]
  ·rcases h.dn with e | e
   ·exact .inl e
   ·exact .inr (by omega)
  ·rcases h.dc with e | e
   ·exact .inl e
   ·exact .inr (by omega)
def g6 (g:bo) :List (List B × bl) :=g.ids.l.zip g.ops.l
def gB (g:bo) (L:List (List B)) (k:Nat) :List (List B × bl) :=((g6 g).take k).filter fun p=>decide (p.1∈L)
def c2 (l:List (List B × bl)) :bo:=⟨cV (l.map (·.1)),cV (l.map (·.2))⟩
def gV (g:bo) (L:List (List B)) :bo:=dL (c2 (gB g L (g6 g).length))
theorem PF {g:bo} {L:List (List B)} {k:Nat} {x:List B} {o:bl} (ai:g.ids.l[k]? = some x) (au:g.ops.l[k]? = some o) :gB g L (k+1)=gB g L k++if x∈L then [(x,o)] else [] :=by
 have av:(g6 g)[k]? = some (x,o) :=by unfold g6; rw[alL]; exact⟨ai,au⟩
 unfold gB;rw[akC,av,alK];by_cases h:x∈L<;>simp[h]
theorem IE {g:bo} {L:List (List B)} {k:Nat}:(gB g L k).length<=k:=akV (aln _ _) (by rw[akB]; omega)
theorem ye {g:bo} {p:List B × bl} (h:p∈g6 g) :p.1∈g.ids.l/\p.2∈g.ops.l:=by
 obtain⟨k,ax⟩:=akj.1 h;unfold g6 at ax;rw[alL] at ax;exact⟨ake ax.1,ake ax.2⟩
theorem zx {l:List (List B × bl)} (ad:∀ p∈l,p.1.length=32) (af:∀ p∈l,ih p.2) (am:l.length<=1000000) :fq (c2 l) :=by
 refine⟨fun x ai=>?_,fun o au=>?_,?_,?_⟩
 ·unfold c2 at ai; simp only[dm] at ai;obtain⟨p,av,rfl⟩:=akz.1 ai;exact ad p av
 ·unfold c2 at au; simp only[dm] at au;obtain⟨p,av,rfl⟩:=akz.1 au;exact af p av
 ·unfold c2; simp only[dm]; rw[aki]; exact am
 ·unfold c2; simp only[dm]; rw[aki]; exact am
structure Sj (g:bo) (L:eE) (k:Nat) (ae:a7) (l:ap) :Prop where
 aN:ae 1=az L
 aT:ae 2=.ptr 0 0 2
 a9:ae 4=.ptr 1 0 2
 bg:ae 5=.ptr 2 0 2
 cq:ae 6=.int .i64 k
 iM:∃ cd bP dW ef rest,l=.cells 2 [az g.ids,bw g.ops] ::.cells 2 [.aK,.aK] ::.cells 2 [cd,bP] ::rest/\gE l cd bP dW ef 3 ((gB g L.l k).map (·.1)) ((gB g L.l k).map (·.2))
set_option maxHeartbeats 8000000 in
theorem PY (g:bo) (aA:fq g) (bC:g.ids.l.length=g.ops.l.length) (L:eE) (dO:eh L) (pp:L.l.length<=1000000) (aD:g.ids.l.length<=100000) :bn Tryz.prog GS 49 [cG g,az L] (cG (gV g L.l)) :=by
 refine bD Tryz.checked.mixed bx ?_;apply bf Tryz.func49 [];have fK:=cW g.ids;have ea:=jb g.ops;have VQ:=cW L;have cv:ch (.ar 32) (az g.ids)=some (.int .i64 g.ids.l.length) :=by simp[az]
 simp[cG,bI];refine cm g.ids.l.length (Sj g L) ?_ ⟨by simp,by simp,by simp,by simp,by simp,.aK,.aK,0,0,[],rfl,by simpa [gB] using D1 _ 3⟩;rintro k ae l ax ⟨aN,aT,a9,bg,cq,cd,bP,dW,ef,rest,rfl,gK⟩;obtain⟨ae,rfl⟩:=kq aN aT a9 bg cq;clear aN aT a9 bg cq;have aS:IntKind.i64.wrap ((k:Int)+1)=((k+1:Nat) :Int) :=by rw[IntKind.wrap_i64]; omega
 have gT:=IE (g:=g) (L:=L.l) (k:=k);by_cases br:k<g.ids.l.length
 ·obtain⟨x,ai,c7⟩:=bF br;obtain⟨o,au,ec⟩:=bF (l:=g.ops.l) (k:=k) (by omega);have eU:=aA.ids x c7;have bm:=cP eU;have eZ:=fU x;have dF:(a5 o).length=11:=rfl;have bU:cN (.ar 32) (az g.ids) (.int .i64 (k:Int))=some (.cg (aX x) 0) :=by simp[az,ai]
  have gJ:cN (.ar 11) (bw g.ops) (.int .i64 (k:Int))=some (.cg (a5 o) 0) :=by simp[bw,au]
  have eo:=yg L dO pp x eU;have iv:=PF (L:=L.l) ai au;have iZ:=tG x L.l 0;obtain⟨ew,de⟩:∃ ew,ew=gN x L.l 0:=⟨_,rfl⟩
  obtain⟨X,cL⟩:∃ X,X=aX x:=⟨_,rfl⟩
  obtain⟨O,en⟩:∃ O,O=a5 o:=⟨_,rfl⟩
  rw[<-de] at eo iZ;rw[<-cL] at eo bm eZ bU;rw[<-en] at gJ dF;have gh:X.take 32=X:=aj9 (by omega);have Cv:O.take 11=O:=aj9 (by omega);have hU:bi (rep 32 (.int .u8 0)) 0 X=X:=gl (by rw[bm]; rfl);have nA:bi [U.int .u32 0,.aK,.int .u64 0,.int .u8 0,.str [],.int .u8 0,.int .i64 0,.int .u64 0,.str [],.int .u32 0,.int .u32 0] 0 O=O:=gl (by rw[dF]; rfl);simp[cv,br,bU,bm,gh];refine aY eo (by simp[a1,U.closed,VQ,eZ]) ?_;by_cases hm:x∈L.l
  ·have aF:0<=ew:=iZ.2 hm;rw[if_pos hm] at iv;obtain⟨iC,pP,l',a2,bb,cr,dY⟩:=gK.ids cL bm (by simp) (by rw[aki]; omega);obtain⟨e8,rfl⟩:=sr (dY 0 (by omega)) (dY 1 (by omega)) (dY 2 (by omega));simp at a2;have Xn:gE (.cells 2 [az g.ids,bw g.ops] ::.cells 2 [.aK,.aK] ::.cells 2 [iC,bP] ::e8) iC bP pP ef 3 ((gB g L.l k).map (·.1)++[x]) ((gB g L.l k).map (·.2)) :=bb.frame fun b ag _=>by
    match b,ag with
    | b+3,_=>rfl
   obtain⟨mD,r3,bt,b5,ce,il,fH⟩:=Xn.ops en (by simp) (by rw[aki]; omega);obtain⟨dU,rfl⟩:=sr (fH 0 (by omega)) (fH 1 (by omega)) (fH 2 (by omega));simp at b5;have Xo:gE (.cells 2 [az g.ids,bw g.ops] ::.cells 2 [.aK,.aK] ::.cells 2 [iC,mD] ::dU) iC mD pP r3 3 ((gB g L.l k).map (·.1)++[x]) ((gB g L.l k).map (·.2)++[o]) :=ce.frame fun b ag _=>by
    match b,ag with
    | b+3,_=>rfl
   simp[aF,bU,bm,gh,hU,a2];refine cM.cc ?_;simp[oU bb.ix,bi,gJ,dF,Cv,nA,b5];refine cM.cc ?_;simp[oU ce.hl,bi,aS];exact⟨br,by simp,by simp,by simp,by simp,by simp,iC,mD,pP,r3,dU,rfl,by rw[iv,aks,aks]; exact Xo⟩
  ·have aF:¬ 0<=ew:=fun h=>hm (iZ.1 h)
   rw[if_neg hm,akQ] at iv;simp[aF,aS];exact⟨br,by simp,by simp,by simp,by simp,by simp,cd,bP,dW,ef,rest,rfl,by rw[iv]; exact gK⟩
 ·have dR:k=g.ids.l.length:=by omega
  subst dR;have xK:(g6 g).length=g.ids.l.length:=by unfold g6; rw[anj]; omega
  have Wq:fq (c2 (gB g L.l g.ids.l.length)) :=zx (fun p av=>aA.ids _ (ye (akD (ak0.1 av).1)).1) (fun p av=>aA.ops _ (ye (akD (ak0.1 av).1)).2) (by omega);have jC:=IP _ Wq;have NP:gV g L.l=dL (c2 (gB g L.l g.ids.l.length)) :=by unfold gV; rw[xK]
  rw[<-NP] at jC;have dJ:=js (gV g L.l).ids;have dy:(bw (gV g L.l).ops).cells=some [bw (gV g L.l).ops] :=by cases (gV g L.l).ops<;>rfl
  have b5:=cW (gV g L.l).ids;have ce:=jb (gV g L.l).ops;have il:=cW (cV ((gB g L.l g.ids.l.length).map (·.1)));have fH:=jb (cV ((gB g L.l g.ids.l.length).map (·.2)));unfold cG bI at jC;simp[cv];refine gK.call fun bt q1 cS=>?_
  obtain⟨dU,rfl⟩:=sr (cS 0 (by omega)) (cS 1 (by omega)) (cS 2 (by omega));refine aY jC (by simp[a1,U.closed,il,fH]) ?_;simp[bi];exact aJ rfl (show (U.aH [az (gV g L.l).ids,bw (gV g L.l).ops]).closed=true by simp[U.closed,a1,b5,ce])
def jO (g:bo) :Nat->List (List B)
 | 0=>[]
 | k+1=>jO g k++(i2 g.ops.l k).bd.l
theorem Ip {g:bo} {x:List B}:∀ {k:Nat},x∈jO g k<->∃ j,j<k/\x∈(i2 g.ops.l j).bd.l
 | 0=>⟨fun h=>(by cases h),fun ⟨j,aj,_⟩=>by omega⟩
 | k+1=>by
  show x∈jO g k++_<->_;rw[ak5,Ip];constructor
  ·rintro (⟨j,ad,af⟩ | h)
   ·exact⟨j,by omega,af⟩
   ·exact⟨k,by omega,h⟩
  ·rintro⟨j,ad,af⟩;by_cases e:j=k
   ·subst e; exact .inr af
   ·exact .inl ⟨j,by omega,af⟩
theorem PB {g:bo} (V:EV g) {k:Nat} {o:bl} (au:g.ops.l[k]? = some o) :o.bd.l.length<=4:=by
 obtain⟨x,ai,_⟩:=bF (l:=g.ids.l) (k:=k) (by rw[V.len]; exact (aj7.1 au).1);exact wd (EF (V.U1 k o x au ai).1)
theorem Io {g:bo} (V:EV g) :∀ {k:Nat},k<=g.ops.l.length->(jO g k).length<=4*k
 | 0,_=>by simp[jO]
 | k+1,ax=>by
  obtain⟨o,au,_⟩:=bF (l:=g.ops.l) (k:=k) (by omega);have:=Io V (k:=k) (by omega);have aG:=PB V au;show (jO g k++(i2 g.ops.l k).bd.l).length<=_;rw[akf,nJ au]; omega
theorem ZO {g:bo} (aA:fq g) {k:Nat} (ax:k<=g.ops.l.length) :eh (cV (jO g k)) :=fun x ai=>by
 rw[dm,Ip] at ai;obtain⟨j,aj,ai⟩:=ai;obtain⟨o,au,ec⟩:=bF (l:=g.ops.l) (k:=j) (by omega);rw[nJ au] at ai;exact (aA.ops o ec).ids x ai
structure Sm (g:bo) (k:Nat) (ae:a7) (l:ap) :Prop where
 aN:ae 1=.ptr 0 0 2
 a9:ae 4=.aK
 bg:ae 5=.int .i64 k
 iM:∃ v j rest,l=.cells 2 [az g.ids,bw g.ops] ::rest/\ae 3=v/\bJ 32 l v j ((jO g k).map aX)/\(v=.aK\/1<=j)/\cw v=(jO g k).isEmpty
structure Sn (g:bo) (w:U) (fm:Nat) (k:Nat) (ae:a7) (l:ap) :Prop where
 aN:ae 1=.ptr 0 0 2
 aZ:ae 3=w
 cq:ae 6=.int .i64 k
 iM:∃ v j rest,l=.cells 2 [az g.ids,bw g.ops] ::rest/\ae 4=v/\bJ 32 l v j (((g.ids.l.take k).filter (kB g)).map aX)/\(v=.aK\/1<=j)/\cw v=((g.ids.l.take k).filter (kB g)).isEmpty/\bJ 32 l w fm ((jO g g.ops.l.length).map aX)/\(v=.aK\/w=.aK\/j≠fm)
set_option maxHeartbeats 8000000 in
theorem aa9 (g:bo) (aA:fq g) (aF:g1 g=0) :bn Tryz.prog GS 133 [cG g] (az (cV (he g))) :=by
 refine bD Tryz.checked.mixed bx ?_;apply bf Tryz.func133 [];have ay:cF=140737488355328:=rfl;have V:=tX aF;have xF:=V.n60;have pJ:=V.len;have cA:ch (.ar 11) (bw g.ops)=some (.int .i64 g.ops.l.length) :=by simp[bw]
 have cv:ch (.ar 32) (az g.ids)=some (.int .i64 g.ids.l.length) :=by simp[az]
 simp[cG,bI];refine cm g.ops.l.length (Sm g) ?_ ⟨by simp,by simp,by simp,.aK,0,[],rfl,by simp,.nil 0,.inl rfl,rfl⟩;rintro k ae l ax ⟨aN,a9,bg,v,j,rest,rfl,aZ,ir,aj,hS⟩;obtain⟨ae,rfl⟩:=h1 aN aZ a9 bg;clear aN aZ a9 bg;have aS:IntKind.i64.wrap ((k:Int)+1)=((k+1:Nat) :Int) :=by rw[IntKind.wrap_i64]; omega
 by_cases br:k<g.ops.l.length
 ·obtain⟨o,au,ec⟩:=bF br;have lC:=aA.ops o ec;have bU:cN (.ar 11) (bw g.ops) (.int .i64 (k:Int))=some (.cg (a5 o) 0) :=by simp[bw,au]
  have dF:(a5 o).length=11:=rfl;have mR:∀ h,(a5 o)[1]'h=az o.bd:=fun _=>rfl
  have jB:=Io V ax;have aG:=PB V au;have bY:jO g (k+1)=jO g k++o.bd.l:=by show jO g k++(i2 g.ops.l k).bd.l=_; rw[nJ au]
  obtain⟨a4,cb,dT,a2,bb,cr,dY⟩:=u5 (by_:=32) (pre:=[.cells 2 [az g.ids,bw g.ops]]) (rest:=rest) ir aj (x:=az o.bd) (xs:=o.bd.l.map aX)
   (by simp[az]) (fun e ao=>by obtain⟨y,aL,rfl⟩:=akz.1 ao; exact cP (lC.ids y aL)) (by omega) (by omega) (by rw[ay]; simp; omega)
  simp only[ak6,ald] at a2;obtain⟨O,en⟩:∃ O,O=a5 o:=⟨_,rfl⟩
  rw[<-en] at bU dF;simp only[<-en] at mR;simp[cA,br,bU,dF,mR,a2];refine cM.cc ?_;simp[aS];refine⟨br,by simp,by simp,by simp,a4,cb,dT,rfl,by simp,?_,by simpa using cr,?_⟩
  ·rw[bY,aks]; exact bb
  ·rw[dY,hS,bY];cases jO g k<;>cases o.bd.l<;>simp
 ·have dR:k=g.ops.l.length:=by omega
  subst dR;clear ax br aS;simp[cA];refine cm g.ids.l.length (Sn g v j) ?_ ⟨by simp,by simp,by simp,.aK,0,rest,rfl,by simp,.nil 0,.inl rfl,rfl,ir,.inl rfl⟩;rintro k ae l ax ⟨aN,aZ,cq,cd,dW,Qk,rfl,a9,Dd,GO,G2,z9,bW⟩;obtain⟨ae,rfl⟩:=h1 aN aZ a9 cq;clear aN aZ a9 cq;have aS:IntKind.i64.wrap ((k:Int)+1)=((k+1:Nat) :Int) :=by rw[IntKind.wrap_i64]; omega
  by_cases br:k<g.ids.l.length
  ·obtain⟨x,ai,c7⟩:=bF br;have eU:=aA.ids x c7;have bm:=cP eU;have eZ:=fU x;have bU:cN (.ar 32) (az g.ids) (.int .i64 (k:Int))=some (.cg (aX x) 0) :=by simp[az,ai]
   have jB:=Io V (akb g.ops.l.length);have eo:=yg (cV (jO g g.ops.l.length)) (ZO aA (akb _)) (by rw[dm]; omega) x eU;rw[dm] at eo;have kF:=z9.q.ug fU (cV (jO g g.ops.l.length)) (by rw[nS]; exact hS) (dm _);have iZ:=tG x (jO g g.ops.l.length) 0;have bY:g.ids.l.take (k+1)=g.ids.l.take k++[x] :=by rw[akC,ai]; rfl
   have M3:kB g x=true<->x∉jO g g.ops.l.length:=by
    unfold kB oo;rw[decide_eq_true_eq,Ip];exact⟨fun h ⟨j,aj,ai⟩=>h j aj ai,fun h j aj ai=>h ⟨j,aj,ai⟩⟩
   obtain⟨ew,de⟩:∃ ew,ew=gN x (jO g g.ops.l.length) 0:=⟨_,rfl⟩
   obtain⟨X,cL⟩:∃ X,X=aX x:=⟨_,rfl⟩
   rw[<-de] at eo iZ;rw[<-cL] at eo bU bm eZ;have gh:X.take 32=X:=aj9 (by omega);have hU:bi (rep 32 (.int .u8 0)) 0 X=X:=gl (by rw[bm]; rfl);simp[cv,br,bU,bm,gh];refine kQ eo (.cons kF (.cons (.same _ (by simp[U.closed,eZ])) .nil)) rfl ?_;by_cases hm:x∈jO g g.ops.l.length
   ·have aO:¬ ew<0:=by have:=iZ.2 hm; omega
    have aI:kB g x=false:=by
     cases h:kB g x with
     | false=>rfl
     | true=>exact absurd hm (M3.1 h)
    have gI:(g.ids.l.take (k+1)).filter (kB g)=(g.ids.l.take k).filter (kB g) :=by rw[bY,alK]; simp[aI]
    simp[aO,aS];exact⟨br,by simp,by simp,by simp,cd,dW,Qk,rfl,by simp,by rw[gI]; exact Dd,GO,by rw[gI]; exact G2,z9,bW⟩
   ·have aO:ew<0:=by
     have:¬ 0<=ew:=fun h=>hm (iZ.1 h)
     omega
    have aI:=M3.2 hm;have gI:(g.ids.l.take (k+1)).filter (kB g)=(g.ids.l.take k).filter (kB g)++[x] :=by rw[bY,alK]; simp[aI]
    have er:((g.ids.l.take k).filter (kB g)).length<=1000000:=akV (aln _ _) (by rw[akB]; omega);obtain⟨a4,cb,l',a2,bb,cr,dY,gF,jq⟩:=u4 (by_:=32) (x:=.ar 32 (Qk.length+1) 0 1 1 32) (xs:=[X]) (Dd.more [aU.cells 32 X]) (by simp[dd,bm,aj9]) (by simp[bm]) (by omega) (by omega) (by rw[ay]; simp; omega);have e1:cw a4=false:=by rw[jq]; simp
    have kK:a4≠.aK:=fun e=>by rw[e] at e1; cases e1
    have f0:l'[0]? = some (.cells 2 [az g.ids,bw g.ops]) :=by
     rw[dY 0 (by simp) (by rcases GO with e | e; exact .inl e; exact .inr (by omega))]; rfl
    obtain⟨dT,rfl⟩:∃ dT,l'=.cells 2 [az g.ids,bw g.ops] ::dT:=by
     cases l' with
     | nil=>simp at f0
     | cons c r=>simp at f0; subst f0; exact⟨r,rfl⟩
    have sH:=a2;simp at sH;simp[aO,bU,bm,gh,hU,sH];refine cM.cc ?_;simp[aS];refine⟨br,by simp,by simp,by simp,a4,cb,dT,rfl,by simp,?_,?_,by rw[gI,e1]; simp,?_,?_⟩
    ·rw[gI,aks,akx,alA,<-cL]; exact bb
    ·right;rcases gF with e | ⟨aS,bv⟩ | e
     ·simp at e; omega
     ·rw[bv]; exact GO.resolve_left aS
     ·exact absurd e kK
    ·refine z9.jt ?_;rcases z9.lt with e | e
     ·exact .inl e
     ·by_cases aV:v=.aK
      ·exact .inl aV
      ·right;rw[dY j (by simp at e ⊢; omega) (by rcases bW with q | q | q; exact .inl q; exact absurd q aV; exact .inr fun e=>q e.symm)];exact aj8 e
    ·by_cases aV:v=.aK
     ·exact .inr (.inl aV)
     ·refine .inr (.inr fun e=>?_);have af:=z9.lt.resolve_left aV;rcases gF with q | ⟨q1,cS⟩ | q
      ·simp at q af; omega
      ·rcases bW with p | p | p
       ·exact q1 p
       ·exact aV p
       ·exact p (by omega)
      ·exact kK q
  ·have dR:k=g.ids.l.length:=by omega
   rw[dR,akE] at Dd G2;simp[cv,br];exact Dd.q.q4 fU (cV (he g)) (by rw[G2,nS]; rfl) (dm _)
theorem gE.Og {l:ap} {cd bP:U} {dW ef n:Nat} {ids:List (List B)} {ops:List bl} (h:gE l cd bP dW ef n ids ops) {X:List U} {x:List B} (cL:X=aX x) (ai:X.length=32) {c:Nat} (ah:l[c]? = some (.cells 32 X)) (aD:n<=l.length) (am:ids.length<=1000000) :
  ∃ a4 cb l',fS l 32 32 cd (.ar 32 c 0 1 1 32)=some (a4,l')/\gE l' a4 bP cb ef n (ids++[x]) ops/\l.length<=l'.length/\(∀ b,b<l.length->cd=.aK\/b≠dW->l'[b]? = l[b]?)/\(l.length<=cb\/(cd≠.aK/\cb=dW)) :=by
 have ay:cF=140737488355328:=rfl;obtain⟨a4,cb,l',a2,bb,cr,dY,gF,jq⟩:=u4 (by_:=32) (x:=.ar 32 c 0 1 1 32) (xs:=[X]) h.ix (by simp[dd,ah,ai,aj9]) (by simp[ai]) (by omega) (by omega) (by rw[ay]; simp; omega);have e1:cw a4=false:=by rw[jq]; simp
 have kK:a4≠.aK:=fun e=>by rw[e] at e1; cases e1
 have eX:n<=cb:=by
  rcases gF with e | ⟨aS,bv⟩ | e
  ·omega
  ·rw[bv]; exact h.dn.resolve_left aS
  ·exact absurd e kK
 refine⟨a4,cb,l',a2,⟨?_,?_,by rw[e1]; simp,h.jL,.inr eX,h.dc,?_⟩,cr,dY,?_⟩
 ·rw[aks,akx,alA,<-cL]; exact bb
 ·refine h.hl.jt ?_;rcases h.hl.lt with e | e
  ·exact .inl e
  ·by_cases gM:bP=.aK
   ·exact .inl gM
   ·refine .inr (dY _ e ?_);rcases h.ne with q | q | q
    ·exact .inl q
    ·exact absurd q gM
    ·exact .inr fun e=>q e.symm
 ·by_cases gM:bP=.aK
  ·exact .inr (.inl gM)
  ·refine .inr (.inr fun e=>?_);have af:=h.hl.lt.resolve_left gM;rcases gF with q | ⟨q1,cS⟩ | q
   ·omega
   ·rcases h.ne with p | p | p
    ·exact q1 p
    ·exact gM p
    ·exact p (by omega)
   ·exact kK q
 ·rcases gF with e | ⟨aS,bv⟩ | e
  ·exact .inl e
  ·exact .inr ⟨aS,bv⟩
  ·exact absurd e kK
theorem gE.O7 {l:ap} {cd bP:U} {dW ef n:Nat} {ids:List (List B)} {ops:List bl} (h:gE l cd bP dW ef n ids ops) {O:List U} {o:bl} (en:O=a5 o) {c:Nat} (ah:l[c]? = some (.cells 11 O)) (aD:n<=l.length) (am:ops.length<=1000000) :
  ∃ a4 cb l',fS l 11 112 bP (.ar 11 c 0 1 1 11)=some (a4,l')/\gE l' cd a4 dW cb n ids (ops++[o])/\l.length<=l'.length/\(∀ b,b<l.length->bP=.aK\/b≠ef->l'[b]? = l[b]?) :=by
 have ay:cF=140737488355328:=rfl;have ai:O.length=11:=by rw[en]; rfl
 obtain⟨a4,cb,l',a2,bb,cr,dY,gF,jq⟩:=u4 (by_:=112) (x:=.ar 11 c 0 1 1 11) (xs:=[O]) h.hl (by simp[dd,ah,ai,aj9]) (by simp[ai]) (by omega) (by omega) (by rw[ay]; simp; omega);have e1:cw a4=false:=by rw[jq]; simp
 have kK:a4≠.aK:=fun e=>by rw[e] at e1; cases e1
 have eX:n<=cb:=by
  rcases gF with e | ⟨aS,bv⟩ | e
  ·omega
  ·rw[bv]; exact h.dc.resolve_left aS
  ·exact absurd e kK
 refine⟨a4,cb,l',a2,⟨?_,?_,h.hk,by rw[e1]; simp,h.dn,.inr eX,?_⟩,cr,dY⟩
 ·refine h.ix.jt ?_;rcases h.ix.lt with e | e
  ·exact .inl e
  ·by_cases gM:cd=.aK
   ·exact .inl gM
   ·refine .inr (dY _ e ?_);rcases h.ne with q | q | q
    ·exact absurd q gM
    ·exact .inl q
    ·exact .inr q
 ·rw[aks,akx,alA,<-en]; exact bb
 ·by_cases gM:cd=.aK
  ·exact .inl gM
  ·refine .inr (.inr fun e=>?_);have af:=h.ix.lt.resolve_left gM;rcases gF with q | ⟨q1,cS⟩ | q
   ·omega
   ·rcases h.ne with p | p | p
    ·exact gM p
    ·exact q1 p
    ·exact p (by omega)
   ·exact kK q
structure dH where
 parts:cT bo
 cZ:eE
 fa:Int
def hs (s:cT bo) :U:=ct 2 bI s
def cY (s:dH) :List U:=[hs s.parts,az s.cZ,.int .i64 s.fa]
structure kT (s:dH) :Prop where
 parts:∀ g∈s.parts.l,fq g/\g.ids.l.length<=100/\g.ops.l.length<=100
 qV:s.parts.l.length<=10
 cZ:eh s.cZ
 AO:s.cZ.l.length<=1000000
theorem rn (s:cT bo) :(hs s).closed=true:=y3 sV s
theorem wO (s:dH) :a1 (cY s)=true:=by simp[cY,a1,U.closed,rn,cW]
def jZ (p:bo) (x:List B) :Option bl:=if 0<=gN x p.ids.l 0/\gN x p.ids.l 0<(p.ops.l.length:Int) then p.ops.l[(gN x p.ids.l 0).toNat]? else none
def gv (l:List bo) (k:Nat) :bo:=l.getD k ⟨none,none⟩
theorem gS {l:List bo} {k:Nat} {g:bo} (h:l[k]? = some g) :gv l k=g:=by unfold gv; rw[ako,h]; rfl
def hB (ps:List bo) (x:List B) :Nat->List (List B × bl)
 | 0=>[]
 | k+1=>hB ps x k++match jZ (gv ps k) x with | some o=>[(x,o)] | none=>[]
def iW (ps:List bo) (ids:List (List B)) :Nat->List (List B × bl)
 | 0=>[]
 | i+1=>iW ps ids i++hB ps (bQ ids i) ps.length
def ik (ps:List bo) :Nat->List (List B)
 | 0=>[]
 | k+1=>ik ps k++(gv ps k).ids.l
def gQ (s:dH) :List (List B) :=yn (ik s.parts.l s.parts.l.length)
def dX (s:dH) :List (List B × bl) :=iW s.parts.l (gQ s) (gQ s).length
def dA (s:dH) :bo:=dL (c2 (dX s))
theorem Fb {ps:List bo} {x:List B}:∀ {k:Nat},k<=ps.length->(x∈ik ps k<->∃ j p,j<k/\ps[j]? = some p/\x∈p.ids.l)
 | 0,_=>⟨fun h=>(by cases h),fun ⟨j,p,aj,_⟩=>by omega⟩
 | k+1,ax=>by
  obtain⟨p,av,_⟩:=bF (l:=ps) (k:=k) (by omega);show x∈ik ps k++(gv ps k).ids.l<->_;rw[ak5,Fb (by omega),gS av];constructor
  ·rintro (⟨j,q,ad,af⟩ | h)
   ·exact⟨j,q,by omega,af⟩
   ·exact⟨k,p,by omega,av,h⟩
  ·rintro⟨j,q,ad,af,al⟩;by_cases e:j=k
   ·subst e; rw[av] at af; obtain rfl:=Option.some.inj af; exact .inr al
   ·exact .inl ⟨j,q,by omega,af,al⟩
theorem BH {s:dH} (h:kT s) :∀ {k:Nat},k<=s.parts.l.length->(ik s.parts.l k).length<=100*k
 | 0,_=>by simp[ik]
 | k+1,ax=>by
  obtain⟨p,av,fE⟩:=bF (l:=s.parts.l) (k:=k) (by omega);have:=BH h (k:=k) (by omega);have af:=(h.parts p fE).2.1;show (ik s.parts.l k++(gv s.parts.l k).ids.l).length<=_;rw[akf,gS av]; omega
theorem Kj {s:dH} (h:kT s) {k:Nat} (ax:k<=s.parts.l.length) :eh (cV (ik s.parts.l k)) :=fun x ai=>by
 rw[dm,Fb ax] at ai;obtain⟨j,p,_,av,ai⟩:=ai;exact (h.parts p (ake av)).1.ids x ai
theorem RD {s:dH} (h:kT s) :(gQ s).length<=1000:=by
 unfold gQ yn;have ad:=Jk (l:=ik s.parts.l s.parts.l.length) (k:=(ik s.parts.l s.parts.l.length).length);have af:=BH h (akb s.parts.l.length);have al:=h.qV;omega
theorem RE {s:dH} (h:kT s) :eh (cV (gQ s)) :=fun x ai=>by
 rw[dm] at ai;unfold gQ at ai;rw[QQ] at ai;exact Kj h (akb _) x (by rw[dm]; exact ai)
theorem SD {p:bo} {x:List B} {o:bl} (h:jZ p x=some o) :o∈p.ops.l:=by
 unfold jZ at h;split at h
 ·exact ake h
 ·cases h
theorem EN {ps:List bo} {x:List B} {q:List B × bl}:∀ {k:Nat},k<=ps.length->(q∈hB ps x k<->∃ j p,j<k/\ps[j]? = some p/\jZ p x=some q.2/\q.1=x)
 | 0,_=>⟨fun h=>(by cases h),fun ⟨j,p,aj,_⟩=>by omega⟩
 | k+1,ax=>by
  obtain⟨p,av,_⟩:=bF (l:=ps) (k:=k) (by omega);show q∈hB ps x k++(match jZ (gv ps k) x with | some o=>[(x,o)] | none=>[])<->_;rw[ak5,EN (by omega),gS av];constructor
  ·rintro (⟨j,r,ad,af⟩ | h)
   ·exact⟨j,r,by omega,af⟩
   ·cases aC:jZ p x with
    | none=>rw[aC] at h; cases h
    | some o=>
     rw[aC] at h;rw[alg.1 h];exact⟨k,p,by omega,av,aC,rfl⟩
  ·rintro⟨j,r,ad,af,al,aG⟩;by_cases e:j=k
   ·subst e; rw[av] at af; obtain rfl:=Option.some.inj af;right; rw[al]; simp[<-aG]
   ·exact .inl ⟨j,r,by omega,af,al,aG⟩
theorem EM {ps:List bo} {ids:List (List B)} {q:List B × bl}:∀ {i:Nat},i<=ids.length->(q∈iW ps ids i<->∃ a,a<i/\ids[a]? = some q.1/\∃ p∈ps,jZ p q.1=some q.2)
 | 0,_=>⟨fun h=>(by cases h),fun ⟨j,aj,_⟩=>by omega⟩
 | i+1,aB=>by
  obtain⟨x,ai,_⟩:=bF (l:=ids) (k:=i) (by omega);show q∈iW ps ids i++hB ps (bQ ids i) ps.length<->_;rw[ak5,EM (by omega),fF ai,EN (akb _)];constructor
  ·rintro (⟨a,ad,af⟩ | ⟨j,p,ad,af,al,aG⟩)
   ·exact⟨a,by omega,af⟩
   ·exact⟨i,by omega,by rw[aG]; exact ai,p,ake af,by rw[aG]; exact al⟩
  ·rintro⟨a,ad,af,p,al,aG⟩;by_cases e:a=i
   ·subst e;rw[ai] at af;have a6:=Option.some.inj af;obtain⟨j,aj⟩:=akj.1 al;exact .inr ⟨j,p,(aj7.1 aj).1,aj,by rw[a6]; exact aG,a6.symm⟩
   ·exact .inl ⟨a,by omega,af,p,al,aG⟩
theorem RK {ps:List bo} {x:List B}:∀ {k:Nat},(hB ps x k).length<=k
 | 0=>by simp[hB]
 | k+1=>by
  have:=RK (ps:=ps) (x:=x) (k:=k);show (hB ps x k++(match jZ (gv ps k) x with | some o=>[(x,o)] | none=>[])).length<=_;rw[akf];split<;>simp<;>omega
theorem RI {ps:List bo} {ids:List (List B)}:∀ {i:Nat},(iW ps ids i).length<=ps.length*i
 | 0=>by simp[iW]
 | i+1=>by
  have ad:=RI (ps:=ps) (ids:=ids) (i:=i);have af:=RK (ps:=ps) (x:=bQ ids i) (k:=ps.length);show (iW ps ids i++hB ps (bQ ids i) ps.length).length<=_;rw[akf,Nat.mul_succ]; omega
theorem JO {s:dH} (h:kT s) :(dX s).length<=10000:=by
 have ad:=RI (ps:=s.parts.l) (ids:=gQ s) (i:=(gQ s).length);have af:=RD h;have al:s.parts.l.length*(gQ s).length<=10*1000:=Nat.mul_le_mul h.qV af;unfold dX; omega
theorem uL {s:dH} (h:kT s) :fq (c2 (dX s)) :=by
 have hm:∀ q∈dX s,q.1.length=32/\ih q.2:=fun q a8=>by
  obtain⟨a,ad,af,p,al,aG⟩:=(EM (akb _)).1 a8;exact⟨RE h q.1 (by rw[dm]; exact ake af),(h.parts p al).1.ops _ (SD aG)⟩
 exact zx (fun q a8=>(hm q a8).1) (fun q a8=>(hm q a8).2) (by have:=JO h; omega)
theorem tL (s:cT bo) :ch (.ar 2) (hs s)=some (.int .i64 s.l.length) :=by simp[hs]
theorem pO {s:cT bo} {k:Nat} {g:bo} (h:s.l[k]? = some g) :cN (.ar 2) (hs s) (.int .i64 (k:Int))=some (.cg (bI g) 0) :=by simp[hs,h]
theorem aaf {α:Type} {z:Nat} {enc:α->List U} {l:ap} {v:U} {j:Nat} {xs:List α} (s:cT α) (h:bJ z l v j (xs.map enc)) (aD:cw v=s.isNone) (ak:s.l=xs) {f:FuncId} {K:U->ap->Prop}
  (ah:∀ bt,bt.length=l.length->(∀ b,v=.aK\/b≠j->bt[b]? = l[b]?)->dg Tryz.prog GS f [ct z enc s] bt (c:=⟨K⟩)) :dg Tryz.prog GS f [v] l (c:=⟨K⟩) :=by
 obtain⟨l1,bV,e8,aS,f1⟩:=D7 s h aD ak;refine BZ Tryz.checked.mixed bx (args2:=[ct z enc s]) bV (by omega) rfl (fun j c ce ad af=>?_) (ah l1 aS f1);obtain⟨rfl,rfl⟩:=xd ad;obtain⟨_,rfl⟩:=xd af;exact e8
structure Sq (s:dH) (k:Nat) (ae:a7) (l:ap) :Prop where
 aN:ae 1=.ptr 0 0 3
 aT:ae 2=.ptr 1 0 2
 a9:ae 4=.int .i64 k
 iM:∃ v j rest,l=.cells 3 (cY s) ::.cells 2 [.aK,.aK] ::rest/\ae 3=v/\bJ 32 l v j ((ik s.parts.l k).map aX)/\(v=.aK\/2<=j)/\cw v=(ik s.parts.l k).isEmpty
structure Ka (s:dH) (b:Nat) (i m:Nat) (out:List (List B × bl)) (ae:a7) (l:ap) :Prop where
 aN:ae 1=.ptr 0 0 3
 aT:ae 2=.ptr 1 0 2
 aZ:ae 3=az (cV (gQ s))
 bg:ae 5=.ptr b 0 2
 cq:ae 6=.int .i64 i
 cy:l[0]? = some (.cells 3 (cY s))
 q1:l[1]? = some (.cells 2 [.aK,.aK])
 iM:∃ cd bP dW ef,l[b]? = some (.cells 2 [cd,bP])/\gE l cd bP dW ef (b+1) (out.map (·.1)) (out.map (·.2))/\out.length<=m
set_option maxHeartbeats 16000000 in
theorem IQ (s:dH) (ak:kT s) :bn Tryz.prog GS 50 [.aH (cY s)] (cG (dA s)) :=by
 refine bD Tryz.checked.mixed bx ?_;apply bf Tryz.func50 [[],[[0],[1],[2],[3],[4],[5],[6],[8],[9],[10],[11],[12],[13],[14],[15],[16],[17],[18],[19],[7,19,18,15,11,9],[21],[20]]];have ay:cF=140737488355328:=rfl;have fD:=tL s.parts;have G3:=ak.qV;have bq:(cY s).length=3:=rfl;have fr:∀ h,(cY s)[0]'h=hs s.parts:=fun _=>rfl
 simp[bq];refine cm s.parts.l.length (Sq s) ?_ ⟨by simp,by simp,by simp,.aK,0,[],rfl,by simp,.nil 0,.inl rfl,rfl⟩;rintro k ae l ax ⟨aN,aT,a9,v,j,rest,rfl,aZ,ir,aj,hS⟩;obtain⟨ae,rfl⟩:=h1 aN aT aZ a9;clear aN aT aZ a9;have aS:IntKind.i64.wrap ((k:Int)+1)=((k+1:Nat) :Int) :=by rw[IntKind.wrap_i64]; omega
 by_cases br:k<s.parts.l.length
 ·obtain⟨p,av,fE⟩:=bF br;have iu:=(ak.parts p fE).1;have gT:=(ak.parts p fE).2.1;have bU:=pO av;have hd:=BH ak (ali br);have bY:ik s.parts.l (k+1)=ik s.parts.l k++p.ids.l:=by show ik s.parts.l k++(gv s.parts.l k).ids.l=_; rw[gS av]
  have j6:∀ h,(bI p)[0]'h=az p.ids:=fun _=>rfl
  have hO:(bI p).length=2:=rfl;obtain⟨a4,cb,dT,a2,bb,cr,dY⟩:=u5 (by_:=32) (pre:=[.cells 3 (cY s),.cells 2 [.aK,.aK]]) (rest:=rest) ir aj (x:=az p.ids) (xs:=p.ids.l.map aX)
   (by simp[az]) (fun e ao=>by obtain⟨y,aL,rfl⟩:=akz.1 ao; exact cP (iu.ids y aL)) (by omega) (by omega) (by rw[ay]; simp; omega)
  simp only[ak6,ald] at a2;simp[bq,fr,fD,br,bU,j6,hO,a2];refine cM.cc ?_;simp[aS];refine⟨br,by simp,by simp,by simp,a4,cb,dT,rfl,by simp,?_,by simpa using cr,?_⟩
  ·rw[bY,aks]; exact bb
  ·rw[dY,hS,bY];cases ik s.parts.l k<;>cases p.ids.l<;>simp
 ·have dR:k=s.parts.l.length:=by omega
  subst dR;clear ax br aS;have hd:=BH ak (akb s.parts.l.length);have oM:=aa7 (cV (ik s.parts.l s.parts.l.length)) (Kj ak (akb _)) (by rw[dm]; omega);rw[dm] at oM;change bn _ _ _ _ (az (cV (gQ s))) at oM;have pt:=cW (cV (ik s.parts.l s.parts.l.length));have eb:=RD ak;have k3:=RE ak;simp[bq,fr,fD];refine aaf (cV (ik s.parts.l s.parts.l.length)) ir (by rw[nS]; exact hS) (dm _) (fun bt bv f2=>?_);have i3:bt[0]? = some (.cells 3 (cY s)) :=by rw[f2 0 (by rcases aj with e | e; exact .inl e; exact .inr (by omega))]; rfl
  have pZ:bt[1]? = some (.cells 2 [.aK,.aK]) :=by rw[f2 1 (by rcases aj with e | e; exact .inl e; exact .inr (by omega))]; rfl
  have ft:2<=bt.length:=by rw[bv]; simp
  clear f2 ir aj hS;refine aY oM (by simp[a1]; exact pt) ?_;simp;obtain⟨b,ag⟩:∃ b,b=bt.length:=⟨_,rfl⟩
  have af6:2<=b:=by omega
  have cv:ch (.ar 32) (az (cV (gQ s)))=some (.int .i64 (gQ s).length) :=by simp[az,dm]
  refine cm (gQ s).length (fun i ae l=>Ka s b i (10*i) (iW s.parts.l (gQ s) i) ae l/\b<l.length) ?_ ⟨⟨by simp,by simp,by simp,by simp[ag],by simp,by rw[aj8 (by omega)]; exact i3,by rw[aj8 (by omega)]; exact pZ,.aK,.aK,0,0,by rw[ag]; simp,by simpa [iW] using D1 _ _,by simp[iW]⟩,by simp[ag]⟩;rintro i ae l aB ⟨⟨aN,aT,aZ,bg,cq,cy,q1,cd,bP,dW,ef,q2,gK,dF⟩,fu⟩;obtain⟨ae,rfl⟩:=kq aN aT aZ bg cq;clear aN aT aZ bg cq;have aS:IntKind.i64.wrap ((i:Int)+1)=((i+1:Nat) :Int) :=by rw[IntKind.wrap_i64]; omega
  by_cases GM:i<(gQ s).length
  ·obtain⟨x,ai,c7⟩:=bF GM;have eU:=k3 x (by rw[dm]; exact c7);have bm:=cP eU;have eZ:=fU x;have de:cN (.ar 32) (az (cV (gQ s))) (.int .i64 (i:Int))=some (.cg (aX x) 0) :=by simp[az,dm,ai]
   obtain⟨X,cL⟩:∃ X,X=aX x:=⟨_,rfl⟩
   have Gi:X=aX x:=cL;rw[<-cL] at bm eZ de;have gh:X.take 32=X:=aj9 (by omega);have hU:bi (rep 32 (.int .u8 0)) 0 X=X:=gl (by rw[bm]; rfl);simp[cv,GM];refine cm s.parts.l.length (fun k ae l=>(Ka s b i (10*i+k) (iW s.parts.l (gQ s) i++hB s.parts.l x k) ae l/\ae 7=.int .i64 k)/\b<l.length) ?_ ⟨⟨⟨by simp,by simp,by simp,by simp,by simp,cy,q1,cd,bP,dW,ef,q2,by simpa [hB] using gK,by simpa [hB] using dF⟩,by simp⟩,fu⟩;clear gK dF q2 cy q1 fu;rintro k ae l ax ⟨⟨⟨aN,aT,aZ,bg,cq,cy,q1,cd,bP,dW,ef,q2,gK,dF⟩,ez⟩,fu⟩;obtain⟨ae,rfl⟩:=uA aN aT aZ bg cq ez;clear aN aT aZ bg cq ez;have bv:IntKind.i64.wrap ((k:Int)+1)=((k+1:Nat) :Int) :=by rw[IntKind.wrap_i64]; omega
   by_cases br:k<s.parts.l.length
   ·obtain⟨p,av,fE⟩:=bF br;obtain⟨iu,Hc,Hd⟩:=ak.parts p fE;have bU:=pO av;have j6:∀ h,(bI p)[0]'h=az p.ids:=fun _=>rfl
    have l4:∀ h,(bI p)[1]'h=bw p.ops:=fun _=>rfl
    have hO:(bI p).length=2:=rfl;have kz:=cW p.ids;have cA:ch (.ar 11) (bw p.ops)=some (.int .i64 p.ops.l.length) :=by simp[bw]
    have eo:=yg p.ids iu.ids iu.li x eU;have bY:hB s.parts.l x (k+1)=hB s.parts.l x k++match jZ p x with | some o=>[(x,o)] | none=>[] :=by
     show hB s.parts.l x k++(match jZ (gv s.parts.l k) x with | some o=>[(x,o)] | none=>[])=_;rw[gS av]
    have CB:jZ p x=if 0<=gN x p.ids.l 0/\gN x p.ids.l 0<(p.ops.l.length:Int) then p.ops.l[(gN x p.ids.l 0).toNat]? else none:=rfl
    obtain⟨ew,WF⟩:∃ ew,ew=gN x p.ids.l 0:=⟨_,rfl⟩
    rw[<-WF] at eo CB;rw[<-cL] at eo;have OG:0<l.length:=b9 cy;simp[cy,bq,fr,fD,br,bU,j6,l4,hO,de,bm,gh];refine aY eo (by simp[a1,U.closed,kz,eZ]) ?_;by_cases dj:0<=ew/\ew<(p.ops.l.length:Int)
    ·obtain⟨ad,af⟩:=dj;obtain⟨a,rfl⟩:=akF ad;have fI:a<p.ops.l.length:=by omega
     obtain⟨o,au,ec⟩:=bF fI;rw[if_pos ⟨ad,af⟩,akr,au] at CB;rw[CB] at bY;have gJ:cN (.ar 11) (bw p.ops) (.int .i64 (a:Int))=some (.cg (a5 o) 0) :=by simp[bw,au]
     have k5:(a5 o).length=11:=rfl;obtain⟨O,en⟩:∃ O,O=a5 o:=⟨_,rfl⟩
     rw[<-en] at gJ k5;have Cv:O.take 11=O:=aj9 (by omega);have nA:bi [U.int .u32 0,.aK,.int .u64 0,.int .u8 0,.str [],.int .u8 0,.int .i64 0,.int .u64 0,.str [],.int .u32 0,.int .u32 0] 0 O=O:=gl (by rw[k5]; rfl);have afZ:l.length<=1000000000000\/True:=.inr trivial;have h2:∀ m:ap,(l++m)[0]? = some (.cells 3 (cY s)) :=fun m=>by rw[aj8 OG]; exact cy
     have adQ:∀ (m:ap) (h:0<(l++m).length),(l++m)[0]'h=.cells 3 (cY s) :=fun m h=>(aj7.1 (h2 m)).2
     have RB:∀ m:ap,(l++m)[b]? = some (.cells 2 [cd,bP]) :=fun m=>by rw[aj8 fu]; exact q2
     have VJ:b+1<=(l++[aU.cells 32 X,.cells 11 O]).length:=by simp; omega
     have G6:gE (l++[aU.cells 32 X,.cells 11 O]) cd bP dW ef (b+1) ((iW s.parts.l (gQ s) i++hB s.parts.l x k).map (·.1)) ((iW s.parts.l (gQ s) i++hB s.parts.l x k).map (·.2)) :=gK.frame fun c _ ah=>aj8 ah
     have jh:(iW s.parts.l (gQ s) i++hB s.parts.l x k).length<=1000000:=by omega
     obtain⟨iC,pP,l1,a2,bb,cr,dY,gF⟩:=G6.Og (c:=l.length) Gi bm (by simp) VJ (by rw[aki]; exact jh);have b4:=gK.ix.lt;have f:∀ c,c<l.length->cd=.aK\/c≠dW->l1[c]? = l[c]?:=fun c ah tl=>by rw[dY c (by simp; omega) tl,aj8 ah]
     have zj:l1[l.length+1]? = some (.cells 11 O) :=by
      rw[dY (l.length+1) (by simp) (by rcases b4 with e | e; exact .inl e; exact .inr (by omega))]; simp
     have hF:cd=.aK\/b+1<=dW:=gK.dn;have f0:l1[0]? = some (.cells 3 (cY s)) :=by rw[f 0 OG (by rcases hF with e | e; exact .inl e; exact .inr (by omega))]; exact cy
     have f1:l1[1]? = some (.cells 2 [.aK,.aK]) :=by rw[f 1 (b9 q1) (by rcases hF with e | e; exact .inl e; exact .inr (by omega))]; exact q1
     have FR:l1[b]? = some (.cells 2 [cd,bP]) :=by rw[f b fu (by rcases hF with e | e; exact .inl e; exact .inr (by omega))]; exact q2
     have VN:=b9 FR;obtain⟨mD,r3,bt,b5,ce,il,fH⟩:=bb.O7 (c:=l.length+1) en zj (by omega) (by rw[aki]; exact jh);have ft:bP=.aK\/b+1<=ef:=gK.dc;have cp:bt[0]? = some (.cells 3 (cY s)) :=by rw[fH 0 (b9 f0) (by rcases ft with e | e; exact .inl e; exact .inr (by omega))]; exact f0
     have aN:bt[1]? = some (.cells 2 [.aK,.aK]) :=by rw[fH 1 (b9 f1) (by rcases ft with e | e; exact .inl e; exact .inr (by omega))]; exact f1
     have L5:bt[b]? = some (.cells 2 [cd,bP]) :=by rw[fH b VN (by rcases ft with e | e; exact .inl e; exact .inr (by omega))]; exact FR
     have VO:=b9 L5;have gs:∀ y:aU,(bt.set b y)[b]? = some y:=fun y=>akm VO
     simp[cy,q2,h2,adQ,RB,bq,fr,bU,j6,l4,hO,cA,ad,af,fI,de,bm,gh,hU,gJ,k5,Cv,nA,a2];refine cM.cc ?_;have Vl:(bI p)[1]? = some (bw p.ops) :=rfl;simp[f0,FR,zj,bq,fr,b5,k5,Cv,Vl];refine cM.cc ?_;have dJ:=oU bb.ix;have dy:=oU ce.hl;simp[L5,gs,dJ,dy,bi,bv];have NV:iW s.parts.l (gQ s) i++hB s.parts.l x (k+1)=(iW s.parts.l (gQ s) i++hB s.parts.l x k)++[(x,o)] :=by rw[bY,akU]
     have Xp:∀ y:aU,gE (bt.set b y) iC mD pP r3 (b+1) ((iW s.parts.l (gQ s) i++hB s.parts.l x (k+1)).map (·.1)) ((iW s.parts.l (gQ s) i++hB s.parts.l x (k+1)).map (·.2)) :=fun y=>by
      have hm:∀ Z:List (List B × bl),(Z++[(x,o)]).map (·.1)=Z.map (·.1)++[x]/\(Z++[(x,o)]).map (·.2)=Z.map (·.2)++[o] :=fun Z=>⟨by rw[aks]; rfl,by rw[aks]; rfl⟩
      rw[NV,(hm _).1,(hm _).2];exact ce.frame fun c ah _=>akl (Nat.ne_of_lt ah)
     exact⟨br,⟨by simp,by simp,by simp,by simp,by simp,by rw[akl (by omega)]; exact cp,by rw[akl (by omega)]; exact aN,iC,mD,pP,r3,gs _,Xp _,by rw[NV,akf,List.length_singleton]; omega⟩,by omega⟩
    ·have cH:jZ p x=none:=by rw[CB,if_neg dj]
     rw[cH,akQ] at bY;have GF:(decide (0<=ew)&&decide (ew<(p.ops.l.length:Int)))=false:=by
      cases h:(decide (0<=ew)&&decide (ew<(p.ops.l.length:Int))) with
      | false=>rfl
      | true=>rw[akh,decide_eq_true_eq,decide_eq_true_eq] at h; exact absurd h dj
     by_cases ad:0<=ew
     ·have af:¬ ew<(p.ops.l.length:Int) :=fun h=>dj ⟨ad,h⟩
      simp[cy,bq,fr,bU,j6,l4,hO,cA,ad,af,bv];exact⟨br,⟨by simp,by simp,by simp,by simp,by simp,cy,q1,cd,bP,dW,ef,q2,by rw[bY]; exact gK,by rw[bY]; omega⟩,fu⟩
     ·simp[ad,bv];exact⟨br,⟨by simp,by simp,by simp,by simp,by simp,cy,q1,cd,bP,dW,ef,q2,by rw[bY]; exact gK,by rw[bY]; omega⟩,fu⟩
   ·have dR:k=s.parts.l.length:=by omega
    subst dR;have tu:iW s.parts.l (gQ s) (i+1)=iW s.parts.l (gQ s) i++hB s.parts.l x s.parts.l.length:=by
     show iW s.parts.l (gQ s) i++hB s.parts.l (bQ (gQ s) i) s.parts.l.length=_;rw[fF ai]
    simp[cy,bq,fr,fD,aS];exact⟨GM,⟨by simp,by simp,by simp,by simp,by simp,cy,q1,cd,bP,dW,ef,q2,by rw[tu]; exact gK,by rw[tu]; omega⟩,fu⟩
  ·have dj:i=(gQ s).length:=by omega
   subst dj;have jC:=IP _ (uL ak);change bn _ _ _ _ (cG (dA s)) at jC;have dJ:=js (dA s).ids;have dy:=nk (dA s).ops;have b5:=cW (dA s).ids;have ce:=jb (dA s).ops;have il:=cW (cV ((dX s).map (·.1)));have fH:=jb (cV ((dX s).map (·.2)));unfold cG bI at jC;simp[cv,q2];refine gK.call fun fZ e8 dU=>?_
   have fP:fZ[1]? = some (.cells 2 [.aK,.aK]) :=by rw[dU 1 (by omega)]; exact q1
   have wk:=b9 fP;have gs:∀ y:aU,(fZ.set 1 y)[1]? = some y:=fun y=>akm wk
   refine aY jC (by simp[a1,U.closed]; exact⟨il,fH⟩) ?_;simp[fP,gs,dJ,dy,bi];exact aJ rfl (show (U.aH [az (dA s).ids,bw (dA s).ops]).closed=true by simp[U.closed,a1,b5,ce])
theorem aag {α:Type} {z:Nat} {enc:α->List U} {l:ap} {a v:U} {j:Nat} {xs:List α} (s:cT α) (h:bJ z l v j (xs.map enc)) (aD:cw v=s.isNone) (ak:s.l=xs) {f:FuncId} {K:U->ap->Prop}
  (ah:∀ bt,bt.length=l.length->(∀ b,v=.aK\/b≠j->bt[b]? = l[b]?)->dg Tryz.prog GS f [a,ct z enc s] bt (c:=⟨K⟩)) :dg Tryz.prog GS f [a,v] l (c:=⟨K⟩) :=by
 obtain⟨l1,bV,e8,aS,f1⟩:=D7 s h aD ak;refine BZ Tryz.checked.mixed bx (args2:=[a,ct z enc s]) bV (by omega) rfl (fun j c ce ad af=>?_) (ah l1 aS f1);rcases ow ad with ⟨rfl,rfl⟩ | ⟨rfl,rfl⟩
 ·rcases ow af with ⟨_,rfl⟩ | ⟨h,_⟩
  ·exact .same _
  ·omega
 ·rcases ow af with ⟨h,_⟩ | ⟨_,rfl⟩
  ·omega
  ·exact e8
def num (x:List B) (n:Nat) :Nat:=(x.getD 0 0).toNat % n
def lI (g:bo) (n i:Nat) :List (List B) :=g.ids.l.filter fun x=>decide (num x n=i)
def kk (g:bo) (n:Nat) :Nat->List bo
 | 0=>[]
 | i+1=>kk g n i++[gV g (lI g n i)]
theorem sa (g:bo) (n:Nat) :∀ i,(kk g n i).length=i
 | 0=>rfl
 | i+1=>by show (kk g n i++_).length=_; rw[akf,sa g n i]; rfl
theorem DO (g:bo) (n:Nat) :∀ {i k:Nat},k<i->(kk g n i)[k]? = some (gV g (lI g n k))
 | i+1,k,ax=>by
  show (kk g n i++_)[k]? = _;by_cases h:k<i
  ·rw[aj8 (by rw[sa]; exact h)]; exact DO g n h
  ·have:k=i:=by omega
   subst this;rw[akt (by rw[sa]; exact akb _),sa]; simp
def m7 (g:bo) (n:Nat) :dH:=⟨some (kk g n n),cV (he g),g.ids.l.length⟩
theorem OZ {x:List B} (ai:x.length=32) :∃ b r,x=b::r/\num x=fun n=>b.toNat % n:=by
 cases x with
 | nil=>cases ai
 | cons b r=>exact⟨b,r,rfl,rfl⟩
theorem Ix {z by_:Nat} {l:ap} {w:U} {fm n c:Nat} {es:List (List U)} {X:List U} (h:bJ z l w fm es) (ag:w=.aK\/n<=fm) (aD:n<=l.length) (ah:l[c]? = some (.cells z X)) (cL:X.length=z) (aF:z≠0) (ep:by_≠0) (ed:(es.length+1)*by_<=cF) :
  ∃ w' qN l',fS l z by_ w (.ar z c 0 1 1 z)=some (w',l')/\bJ z l' w' qN (es++[X])/\cw w'=false/\n<=qN/\l.length<=l'.length/\(∀ b,b<l.length->w=.aK\/b≠fm->l'[b]? = l[b]?)/\(l.length<=qN\/(w≠.aK/\qN=fm)) :=by
 obtain⟨a4,cb,l',a2,bb,cr,dY,gF,jq⟩:=u4 (by_:=by_) (x:=.ar z c 0 1 1 z) (xs:=[X]) h (by simp[dd,ah,cL,aj9]) (by simp[cL]) aF ep (by simpa using ed);have e1:cw a4=false:=by rw[jq]; simp
 have kK:a4≠.aK:=fun e=>by rw[e] at e1; cases e1
 refine⟨a4,cb,l',a2,bb,e1,?_,cr,dY,?_⟩
 ·rcases gF with e | ⟨aS,bv⟩ | e
  ·omega
  ·rw[bv]; exact ag.resolve_left aS
  ·exact absurd e kK
 ·rcases gF with e | ⟨aS,bv⟩ | e
  ·exact .inl e
  ·exact .inr ⟨aS,bv⟩
  ·exact absurd e kK
theorem aai {z:Nat} {l l' : ap} {w v:U} {fm qN j:Nat} {es:List (List U)} (o:bJ z l v j es) (ne:w=.aK\/v=.aK\/fm≠j) (dw:∀ b,b<l.length->w=.aK\/b≠fm->l'[b]? = l[b]?) (UH:l.length<=qN\/(w≠.aK/\qN=fm)) :bJ z l' v j es/\(v=.aK\/qN≠j) :=by
 by_cases aq:v=.aK
 ·refine⟨?_,.inl aq⟩;subst aq;have:=o.q.In;subst this;exact .nil _
 ·have aj:=o.lt.resolve_left aq;have tl:w=.aK\/j≠fm:=by
   rcases ne with q | q | q
   ·exact .inl q
   ·exact absurd q aq
   ·exact .inr fun e=>q e.symm
  refine⟨o.jt (.inr (dw j aj tl)),.inr fun e=>?_⟩;rcases UH with q | ⟨q1,cS⟩
  ·omega
  ·rcases tl with p | p
   ·exact q1 p
   ·exact p (by omega)
structure Sa (g:bo) (n i:Nat) (ae:a7) (l:ap) :Prop where
 aN:ae 1=.int .i64 n
 aT:ae 2=.ptr 0 0 2
 a9:ae 4=.ptr 1 0 3
 bg:ae 5=.ptr 2 0 3
 cq:ae 6=.int .i64 i
 iM:∃ v j rest,l=.cells 2 [az g.ids,bw g.ops] ::.cells 3 [.aK,.aK,.int .i64 0] ::.cells 3 [v,az (cV (he g)),.int .i64 g.ids.l.length] ::rest/\bJ 2 l v j ((kk g n i).map bI)/\(v=.aK\/3<=j)/\cw v=(kk g n i).isEmpty
structure Sb (g:bo) (n i:Nat) (v:U) (j:Nat) (k:Nat) (ae:a7) (l:ap) :Prop where
 aN:ae 1=.int .i64 n
 aT:ae 2=.ptr 0 0 2
 a9:ae 4=.ptr 1 0 3
 bg:ae 5=.ptr 2 0 3
 cq:ae 6=.int .i64 i
 fB:ae 8=.int .i64 k
 iM:∃ w fm rest,l=.cells 2 [az g.ids,bw g.ops] ::.cells 3 [.aK,.aK,.int .i64 0] ::.cells 3 [v,az (cV (he g)),.int .i64 g.ids.l.length] ::rest/\bJ 2 l v j ((kk g n i).map bI)/\ae 7=w ∧
  bJ 32 l w fm (((g.ids.l.take k).filter fun x=>decide (num x n=i)).map aX)/\(w=.aK\/3<=fm)/\cw w=((g.ids.l.take k).filter fun x=>decide (num x n=i)).isEmpty/\(w=.aK\/v=.aK\/fm≠j)
set_option maxHeartbeats 16000000 in
theorem aaU (g:bo) (aA:fq g) (aF:g1 g=0) (n:Nat) (qz:1<=n) (rQ:n<=100) :bn Tryz.prog GS 92 [cG g,.int .i64 n] (.aH (cY (m7 g n))) :=by
 refine bD Tryz.checked.mixed bx ?_;apply bf Tryz.func92 [[[0],[2],[3],[4],[6],[1,6,3],[5]],[[0],[1],[2],[3],[4,1]]];have ay:cF=140737488355328:=rfl;have V:=tX aF;have xF:=V.n60;have pJ:=V.len;have fK:=cW g.ids;have ea:=jb g.ops;have cv:ch (.ar 32) (az g.ids)=some (.int .i64 g.ids.l.length) :=by simp[az]
 have NZ:=aa9 g aA aF;have ZA:=js (cV (he g));unfold cG bI at NZ;simp[cG,bI,cv];refine aY NZ (by simp[a1,U.closed,fK,ea]) ?_;simp[ZA,bi];refine cm n (Sa g n) ?_ ⟨by simp,by simp,by simp,by simp,by simp,.aK,0,[],rfl,.nil 0,.inl rfl,rfl⟩;rintro i ae l aB ⟨aN,aT,a9,bg,cq,v,j,rest,rfl,ir,aj,hS⟩;obtain⟨ae,rfl⟩:=kq aN aT a9 bg cq;clear aN aT a9 bg cq;have aS:IntKind.i64.wrap ((i:Int)+1)=((i+1:Nat) :Int) :=by rw[IntKind.wrap_i64]; omega
 by_cases dj:i<n
 ·simp[dj];refine cm g.ids.l.length (Sb g n i v j) ?_ ⟨by simp,by simp,by simp,by simp,by simp,by simp,.aK,0,rest,rfl,ir,by simp,.nil 0,.inl rfl,rfl,.inl rfl⟩;clear ir;rintro k ae l ax ⟨aN,aT,a9,bg,cq,fB,w,fm,rest,rfl,ir,ez,aV,xy,oI,bW⟩;obtain⟨ae,rfl⟩:=JG aN aT a9 bg cq ez fB;clear aN aT a9 bg cq ez fB;have bv:IntKind.i64.wrap ((k:Int)+1)=((k+1:Nat) :Int) :=by rw[IntKind.wrap_i64]; omega
  by_cases br:k<g.ids.l.length
  ·obtain⟨x,ai,c7⟩:=bF br;have eU:=aA.ids x c7;have bm:=cP eU;have bU:cN (.ar 32) (az g.ids) (.int .i64 (k:Int))=some (.cg (aX x) 0) :=by simp[az,ai]
   have bY:g.ids.l.take (k+1)=g.ids.l.take k++[x] :=by rw[akC,ai]; rfl
   obtain⟨mM,r,Dq,rS⟩:=OZ eU;have zH:∀ h,(aX x)[0]'h=bz mM:=fun h=>by subst Dq; rfl
   have Gt:mM.toNat<256:=mM.isLt;have pK:IntKind.i64.wrap (u mM)=(mM.toNat:Int) :=by unfold u; rw[IntKind.wrap_i64]; omega
   have xp:=wF mM.toNat (n:Int) (by omega)
   rw[akr] at xp;obtain⟨X,cL⟩:∃ X,X=aX x:=⟨_,rfl⟩
   rw[<-cL] at bm bU;simp only[<-cL] at zH;have gh:X.take 32=X:=aj9 (by omega);have hU:bi (rep 32 (.int .u8 0)) 0 X=X:=gl (by rw[bm]; rfl);have a8:((mM.toNat:Int) % (n:Int)=(i:Int))<->num x n=i:=by
    rw[rS,<-Int.natCast_emod];exact⟨fun h=>Int.ofNat.inj h,fun h=>by rw[<-h]⟩
   have gI:((g.ids.l.take k).filter fun x=>decide (num x n=i)).length<=1000000:=akV (aln _ _) (by rw[akB]; omega);by_cases tk:num x n=i
   ·have tu:(g.ids.l.take (k+1)).filter (fun x=>decide (num x n=i))=(g.ids.l.take k).filter (fun x=>decide (num x n=i))++[x] :=by rw[bY,alK]; simp[tk]
    obtain⟨w',qN,l',a2,bb,cr,dY,gF,jq,BF⟩:=Ix (by_:=32) (n:=3) (c:=rest.length+1+1+1) (aV.more [aU.cells 32 X]) xy (by simp) (by simp) bm (by omega) (by omega) (by rw[ay]; simp; omega);obtain⟨dn,dc⟩:=aai (ir.more [aU.cells 32 X]) bW jq BF;have dw:∀ b,b<3->l'[b]? = (aU.cells 2 [az g.ids,bw g.ops] ::aU.cells 3 [.aK,.aK,.int .i64 0] ::aU.cells 3 [v,az (cV (he g)),.int .i64 g.ids.l.length] ::rest)[b]?:=fun b ag=>by
     rw[jq b (by simp; omega) (by rcases xy with e | e; exact .inl e; exact .inr (by omega)),aj8 (by simp; omega)]
    obtain⟨dT,rfl⟩:=sr (dw 0 (by omega)) (dw 1 (by omega)) (dw 2 (by omega));simp only[ak6] at a2;simp[cv,br,bU,bm,zH,pK,xp,a8,tk,gh,hU,a2];refine cM.cc ?_;simp[bv];refine⟨br,by simp,by simp,by simp,by simp,by simp,by simp,w',qN,dT,rfl,dn,by simp,?_,.inr dY,by rw[tu,cr]; simp,?_⟩
    ·rw[tu,aks,akx,alA,<-cL]; exact bb
    ·exact .inr dc
   ·have tu:(g.ids.l.take (k+1)).filter (fun x=>decide (num x n=i))=(g.ids.l.take k).filter (fun x=>decide (num x n=i)) :=by rw[bY,alK]; simp[tk]
    simp[cv,br,bU,bm,zH,pK,xp,a8,tk,bv];exact⟨by simp,by simp,by simp,by simp,by simp,by simp,w,fm,rest,rfl,ir,by simp,by rw[tu]; exact aV,xy,by rw[tu]; exact oI,bW⟩
  ·have dR:k=g.ids.l.length:=by omega
   subst dR;rw[akE] at aV oI;change bJ 32 _ w fm ((lI g n i).map aX) at aV;change cw w=(lI g n i).isEmpty at oI;have nx:=PY g aA (by omega) (cV (lI g n i)) (fun x ai=>by rw[dm] at ai; exact aA.ids x (ak0.1 ai).1) (by rw[dm]; have:=aln (fun x=>decide (num x n=i)) g.ids.l; unfold lI; omega) (by omega);rw[dm] at nx;have eS:=cW (cV (lI g n i));have bY:kk g n (i+1)=kk g n i++[gV g (lI g n i)] :=rfl;have jA:=sa g n i;unfold cG bI at nx;obtain⟨Q,qr⟩:∃ Q,Q=bI (gV g (lI g n i)) :=⟨_,rfl⟩
   have vx:Q.length=2:=by rw[qr]; rfl
   have Ge:Q.take 2=Q:=aj9 (by omega);have Gd:bi [U.aK,.aK] 0 Q=Q:=gl (by rw[vx]; rfl);change bn _ _ _ _ (.aH (bI (gV g (lI g n i)))) at nx;rw[<-qr] at nx;simp[cv];refine aag (cV (lI g n i)) aV (by rw[nS]; exact oI) (dm _) (fun bt f1 f2=>?_);have Xt:bJ 2 bt v j ((kk g n i).map bI) :=ir.jt (by
    rcases bW with q | q | q
    ·exact .inr (f2 j (.inl q))
    ·exact .inl q
    ·exact .inr (f2 j (.inr fun e=>q e.symm)))
   have dw:∀ b,b<3->bt[b]? = (aU.cells 2 [az g.ids,bw g.ops] ::aU.cells 3 [.aK,.aK,.int .i64 0] ::aU.cells 3 [v,az (cV (he g)),.int .i64 g.ids.l.length] ::rest)[b]?:=fun b ag=>f2 b (by rcases xy with e | e; exact .inl e; exact .inr (by omega))
   obtain⟨dU,rfl⟩:=sr (dw 0 (by omega)) (dw 1 (by omega)) (dw 2 (by omega));refine aY nx (by simp[a1,U.closed,fK,ea]; exact eS) ?_;obtain⟨a4,cb,l',a2,bb,cr,dY,gF,jq,BF⟩:=Ix (by_:=48) (n:=3) (c:=dU.length+1+1+1) (Xt.more [aU.cells 2 Q]) aj (by simp) (by simp) vx (by omega) (by omega) (by rw[ay]; simp; omega);have FV:∀ b,b<3->l'[b]? = (aU.cells 2 [az g.ids,bw g.ops] ::aU.cells 3 [.aK,.aK,.int .i64 0] ::aU.cells 3 [v,az (cV (he g)),.int .i64 g.ids.l.length] ::dU)[b]?:=fun b ag=>by
    rw[jq b (by simp; omega) (by rcases aj with e | e; exact .inl e; exact .inr (by omega)),aj8 (by simp; omega)]
   obtain⟨lb,rfl⟩:=sr (FV 0 (by omega)) (FV 1 (by omega)) (FV 2 (by omega));simp only[ak6] at a2;simp[vx,Ge,Gd,a2];refine cM.cc ?_;have tv:=oU bb;simp[tv,bi,aS];refine⟨dj,by simp,by simp,by simp,by simp,by simp,a4,cb,lb,rfl,?_,.inr dY,by rw[cr,bY]; simp⟩;rw[bY,aks,akx,alA,<-qr];refine bb.jt (.inr ?_);obtain⟨hw,rfl⟩:∃ hw,cb=hw+3:=⟨cb - 3,by omega⟩
   rfl
 ·have Wy:i=n:=by omega
  subst Wy;simp;have kF:ii (aU.cells 2 [az g.ids,bw g.ops] ::aU.cells 3 [v,az (cV (he g)),.int .i64 g.ids.l.length] ::aU.cells 3 [v,az (cV (he g)),.int .i64 g.ids.l.length] ::rest) v (hs (some (kk g i i))) :=by
   refine (ir.jt (l':=aU.cells 2 [az g.ids,bw g.ops] ::aU.cells 3 [v,az (cV (he g)),.int .i64 g.ids.l.length] ::aU.cells 3 [v,az (cV (he g)),.int .i64 g.ids.l.length] ::rest) ?_).q.q4 sV (some (kk g i i)) ?_ rfl
   ·rcases aj with h | h
    ·exact .inl h
    ·right;obtain⟨hw,rfl⟩:∃ hw,j=hw+3:=⟨j - 3,by omega⟩
     rfl
   ·rw[hS];have:=sa g i i;cases hm:kk g i i with
    | nil=>rw[hm] at this; simp at this; omega
    | cons=>rfl
  have mU:=cW (cV (he g));refine .aH _ _ rfl fun j c c' ah eP=>?_
  rcases j with _ | _ | _ | j
  ·simp[cY,m7] at ah eP; subst ah eP; exact kF
  ·simp[cY,m7] at ah eP; subst ah eP; exact .same _ mU
  ·simp[cY,m7] at ah eP; subst ah eP; exact .same _ rfl
  ·simp at ah
structure uU (s:dH) :Prop where
 parts:∀ g∈s.parts.l,fq g
 qV:s.parts.l.length<=1000000
 cZ:eh s.cZ
 AO:s.cZ.l.length<=1000000
theorem kT.w {s:dH} (h:kT s) :uU s:=⟨fun g aA=>(h.parts g aA).1,by have:=h.qV; omega,h.cZ,h.AO⟩
def lK (a b:dH) :Bool:=decide (a.parts.l.length=b.parts.l.length)&&(decide (a.fa=b.fa)&&(decide (a.cZ.l=b.cZ.l)&&decide (∀ k,k<a.parts.l.length->kR (gv a.parts.l k) (gv b.parts.l k)=true)))
theorem uo (a b:dH) :lK a b=true<->a.parts.l.length=b.parts.l.length/\a.fa=b.fa/\a.cZ.l=b.cZ.l/\∀ k,k<a.parts.l.length->kR (gv a.parts.l k) (gv b.parts.l k)=true:=by
 unfold lK;simp only[akh,decide_eq_true_eq]
set_option maxHeartbeats 8000000 in
theorem P1 (a b:dH) (aC:uU a) (ag:uU b) :bn Tryz.prog GS 52 [.aH (cY a),.aH (cY b)] (.bool (lK a b)) :=by
 refine bD Tryz.checked.mixed bx ?_;apply bf Tryz.func52 [];have mc:=tL a.parts;have kD:=tL b.parts;have kz:=rn a.parts;have aga:=rn b.parts;have mU:=cW a.cZ;have j8:=cW b.cZ;have jx:=yl a.cZ b.cZ aC.cZ ag.cZ aC.AO;by_cases ad:a.parts.l.length=b.parts.l.length
 ·by_cases af:a.fa=b.fa
  ·by_cases al:a.cZ.l=b.cZ.l
   ·simp[cY,mc,kD,ad,af];refine aY jx (by simp[a1,U.closed,mU,j8]) ?_;simp[al];refine cm a.parts.l.length (fun k ae l=>l=[.cells 3 [hs a.parts,az a.cZ,.int .i64 a.fa],.cells 3 [hs b.parts,az b.cZ,.int .i64 b.fa]]/\ae 2=.ptr 0 0 3/\ae 3=.ptr 1 0 3/\ae 5=.int .i64 k/\∀ j,j<k->kR (gv a.parts.l j) (gv b.parts.l j)=true) ?_ ⟨by simp[af],by simp,by simp,by simp,fun j aj=>by omega⟩;rintro k ae l ax ⟨rfl,aT,aZ,bg,ak⟩;obtain⟨ae,rfl⟩:=jT aT aZ bg;clear aT aZ bg;have aS:IntKind.i64.wrap ((k:Int)+1)=((k+1:Nat) :Int) :=by rw[IntKind.wrap_i64]; have:=aC.qV; omega
    by_cases br:k<a.parts.l.length
    ·obtain⟨p,av,fE⟩:=bF br;obtain⟨q,a8,XG⟩:=bF (l:=b.parts.l) (k:=k) (by omega);have bU:=pO av;have gJ:=pO a8;have tt:=P0 p q (aC.parts p fE) (ag.parts q XG);have WO:k<b.parts.l.length:=by omega
     have hO:(bI p).length=2:=rfl;have Mh:(bI q).length=2:=rfl;have s9:=sV p;have Cs:=sV q;have j9:=gS av;have MW:=gS a8;change bn _ _ _ [.aH (bI p),.aH (bI q)] _ at tt;obtain⟨mG,l4⟩:∃ mG,mG=bI p:=⟨_,rfl⟩
     obtain⟨Bz,Vm⟩:∃ Bz,Bz=bI q:=⟨_,rfl⟩
     rw[<-l4] at bU tt hO s9;rw[<-Vm] at gJ tt Mh Cs;have t1:mG.take 2=mG:=aj9 (by omega);have t2:Bz.take 2=Bz:=aj9 (by omega);simp[mc,kD,br,WO,bU,gJ,hO,Mh,t1,t2];refine aY tt (by simp[a1,U.closed,s9,Cs]) ?_;cases ji:kR p q with
     | true=>
      simp[aS];refine⟨br,fun j aj=>?_⟩;by_cases fX:j=k
      ·subst fX; rw[j9,MW]; exact ji
      ·exact ak j (by omega)
     | false=>
      have aI:lK a b=false:=alY.2 fun h=>by
       have:=((uo a b).1 h).2.2.2 k br;rw[j9,MW,ji] at this; cases this
      simp;exact aJ (congrArg U.bool aI.symm) rfl
    ·have dR:k=a.parts.l.length:=by omega
     subst dR;have a3:lK a b=true:=(uo a b).2 ⟨ad,af,al,ak⟩;simp[mc];exact aJ (congrArg U.bool a3.symm) rfl
   ·have aI:lK a b=false:=alY.2 fun h=>al ((uo a b).1 h).2.2.1
    simp[cY,mc,kD,ad,af];refine aY jx (by simp[a1,U.closed,mU,j8]) ?_;simp[al];exact aJ (congrArg U.bool aI.symm) rfl
  ·have aI:lK a b=false:=alY.2 fun h=>af ((uo a b).1 h).2.1
   simp[cY,mc,kD,ad,af];exact aJ (congrArg U.bool aI.symm) rfl
 ·have aI:lK a b=false:=alY.2 fun h=>ad ((uo a b).1 h).1
  have dD:¬ (a.parts.l.length:Int)=b.parts.l.length:=by omega
  simp[cY,mc,kD,ad,dD];exact aJ (congrArg U.bool aI.symm) rfl
theorem aao {g:bo} (aA:fq g) (L:List (List B)) :fq (gV g L) :=by
 unfold gV;refine EC (zx (fun p av=>aA.ids _ (ye (akD (ak0.1 av).1)).1) (fun p av=>aA.ops _ (ye (akD (ak0.1 av).1)).2) ?_);have ad:=IE (g:=g) (L:=L) (k:=(g6 g).length);have af:(g6 g).length<=g.ids.l.length:=by unfold g6; rw[anj]; omega
 have:=aA.li;omega
theorem Zo {g:bo} (aA:fq g) {n:Nat} (aD:n<=1000) :uU (m7 g n) :=by
 refine⟨fun p av=>?_,?_,fun x ai=>?_,?_⟩
 ·have i0:p∈kk g n n:=av;obtain⟨k,ax⟩:=akj.1 i0;have br:=(aj7.1 ax).1;rw[sa] at br;rw[DO g n br] at ax;obtain rfl:=Option.some.inj ax;exact aao aA _
 ·show (kk g n n).length<=_;rw[sa]; omega
 ·have qG:x∈(cV (he g)).l:=ai;rw[dm] at qG;exact aA.ids x (ak0.1 qG).1
 ·show (cV (he g)).l.length<=_;rw[dm];have:=aln (kB g) g.ids.l;have:=aA.li;unfold he; omega
theorem JN {s:dH} (h:kT s) :fq (dA s) :=EC (uL h)
noncomputable def mx (s:dH) :Int:=if 1<=s.parts.l.length/\s.parts.l.length<=4 then (if g1 (dA s)=0/\lK s (m7 (dA s) s.parts.l.length)=true then 0 else 8) else 8
set_option maxHeartbeats 8000000 in
theorem aa4 (s:dH) (ak:kT s) :bn Tryz.prog GS 58 [.aH (cY s)] (.int .i64 (mx s)) :=by
 refine bD Tryz.checked.mixed bx ?_;apply bf Tryz.func58 [[[0],[1],[2],[3],[4],[5],[6],[7],[8],[9,4]]];have fD:=tL s.parts;have bq:(cY s).length=3:=rfl;have fr:∀ h,(cY s)[0]'h=hs s.parts:=fun _=>rfl
 have dp:=wO s;have di:(cY s).take 3=cY s:=rfl;by_cases ad:1<=s.parts.l.length
 ·by_cases aG:s.parts.l.length<=4
  ·have cK:¬ (s.parts.l.length:Int)<1:=by omega
   have fl:¬ (4:Int)<(s.parts.l.length:Int) :=by omega
   have HD:¬ 4<s.parts.l.length:=by omega
   have aV:=IQ s ak;have qW:=JN ak;have ff:=aaJ (dA s) qW;have dJ:=js (dA s).ids;have dy:=nk (dA s).ops;have b5:=cW (dA s).ids;have ce:=jb (dA s).ops;unfold cG bI at aV ff;have c5:mx s=if g1 (dA s)=0/\lK s (m7 (dA s) s.parts.l.length)=true then 0 else 8:=by unfold mx; rw[if_pos ⟨ad,aG⟩]
   simp[bq,fr,di,fD,cK,fl,HD];refine aY aV (by simp[a1,U.closed,dp]) ?_;simp[bi];refine aY ff (by simp[a1,U.closed,b5,ce]) ?_;by_cases aF:g1 (dA s)=0
   ·have hm:=aaU (dA s) qW aF s.parts.l.length ad (by omega);have ji:=P1 s (m7 (dA s) s.parts.l.length) ak.w (Zo qW (by omega));have Vr:=wO (m7 (dA s) s.parts.l.length);unfold cG bI at hm;simp[aF,bq,fr,di,fD];refine aY hm (by simp[a1,U.closed,b5,ce]) ?_;simp[bq,di];refine aY ji (by simp[a1,U.closed,dp,Vr]) ?_;cases ag:lK s (m7 (dA s) s.parts.l.length) with
    | true=>
     rw[ag,if_pos ⟨aF,rfl⟩] at c5;rw[c5];simp;exact aJ rfl rfl
    | false=>
     rw[ag,if_neg (by simp)] at c5;rw[c5];simp;exact aJ rfl rfl
   ·rw[if_neg (fun h=>aF h.1)] at c5;rw[c5];simp[aF];exact aJ rfl rfl
  ·have c5:mx s=8:=by unfold mx; rw[if_neg (fun h=>aG h.2)]
   have cK:¬ (s.parts.l.length:Int)<1:=by omega
   have fl:(4:Int)<(s.parts.l.length:Int) :=by omega
   have HD:4<s.parts.l.length:=by omega
   rw[c5];simp[bq,fr,fD,cK,fl,HD];exact aJ rfl rfl
 ·have c5:mx s=8:=by unfold mx; rw[if_neg (fun h=>ad h.1)]
  have cK:(s.parts.l.length:Int)<1:=by omega
  rw[c5];simp[bq,fr,fD,cK];exact aJ rfl rfl
structure dC where
 cap:Int
 bR:dH
 order:eE
def bE (s:dC) :List U:=[.int .i64 s.cap,hs s.bR.parts,az s.bR.cZ,.int .i64 s.bR.fa,az s.order]
structure mJ (s:dC) :Prop where
 bR:kT s.bR
 order:eh s.order
 no:s.order.l.length<=1000
theorem j0 (s:dC) :a1 (bE s)=true:=by simp[bE,a1,U.closed,rn,cW]
def nI (g:bo) (l:List (List B)) (i:Nat) :Bool:=decide (bQ l i∈g.ids.l)&&(!decide (bQ l i∈l.take i)&&ll (l.take i) (eC g.ops.l (gN (bQ l i) g.ids.l 0).toNat))
def pX (g:bo) (l:List (List B)) :Bool:=decide (∀ i,i<l.length->nI g l i=true)
noncomputable def gm (s:dC) :Int:=if 1<=s.cap/\s.cap<=40/\mx s.bR=0/\s.bR.fa<=s.cap/\(s.order.l.length:Int)=s.bR.fa then (if pX (dA s.bR) s.order.l=true then 0 else 8) else 8
theorem QF {s:dH} (h:mx s=0) :1<=s.parts.l.length/\s.parts.l.length<=4/\g1 (dA s)=0/\lK s (m7 (dA s) s.parts.l.length)=true:=by
 unfold mx at h;split at h
 ·rename_i ad;split at h
  ·rename_i af; exact⟨ad.1,ad.2,af⟩
  ·cases h
 ·cases h
theorem YC {x:List B} {l:List (List B)} {i:Nat} (aB:l[i]? = some x) :gN x l 0<(i:Int)<->x∈l.take i:=by
 obtain⟨n,aD,ai,vO⟩:∃ n:Nat,gN x l 0=(n:Int)/\l[n]? = some x/\∀ (j:Nat) (y:List B),j<n->l[j]? = some y->y≠x:=by
  have key:∀ (m:Nat),l[m]? = some x->∃ n:Nat,l[n]? = some x/\∀ (j:Nat) (y:List B),j<n->l[j]? = some y->y≠x:=by
   intro m
   induction m using Nat.strongRecOn with
   | _ m aQ=>
    intro hm;by_cases h:∃ j,j<m/\l[j]? = some x
    ·obtain⟨j,aj,C0⟩:=h;exact aQ j aj C0
    ·exact⟨m,hm,fun j y aj aL e=>h ⟨j,aj,by rw[aL,e]⟩⟩
  obtain⟨n,ad,af⟩:=key i aB;exact⟨n,by have:=Ax (n:=0) ad af; simpa using this,ad,af⟩
 rw[aD];constructor
 ·intro h;have h' : n<i:=by omega
  exact akj.2 ⟨n,by rw[aku h']; exact ai⟩
 ·intro h;obtain⟨k,ax⟩:=akj.1 h;have br:=(aj7.1 ax).1;rw[akB] at br;rw[aku (by omega)] at ax;by_cases e:n<=k
  ·omega
  ·exact absurd rfl (vO k x (by omega) ax)
theorem DB {l:List (List B)} (aj:mI l) {i:Nat} {x:List B} (aB:l[i]? = some x) :gN x l 0=(i:Int) :=by
 have:=Ax (n:=0) aB (fun j y h7 aL e=>by rw[e] at aL; have:=aj j i x aL aB; omega);simpa using this
theorem HJ (a:eE) {k:Nat} (h:k<=a.l.length) :e3 (.ar 32) (az a) none (some (.int .i64 (k:Int))) none=some (az (ic a k)) :=Q5 h
set_option maxHeartbeats 16000000 in
theorem aa8 (s:dC) (ak:mJ s) :bn Tryz.prog GS 31 [.aH (bE s)] (.int .i64 (gm s)) :=by
 refine bD Tryz.checked.mixed bx ?_;apply bf Tryz.func31 [[],[[0],[1],[2],[3],[4],[5],[6],[7],[8],[9],[11],[10]]];have cA:ch (.ar 32) (az s.order)=some (.int .i64 s.order.l.length) :=by simp[az]
 have rF:=aa4 s.bR ak.bR;have pr:=rn s.bR.parts;have rE:=cW s.bR.cZ;have ea:=cW s.order;have cH:=ak.no;unfold cY at rF;by_cases ad:1<=s.cap
 ·by_cases af:s.cap<=40
  ·have cK:¬ s.cap<1:=by omega
   have dx:¬ (40:Int)<s.cap:=by omega
   by_cases al:mx s.bR=0
   ·by_cases aG:s.bR.fa<=s.cap
    ·have fl:¬ s.cap<s.bR.fa:=by omega
     by_cases a6:(s.order.l.length:Int)=s.bR.fa
     ·obtain⟨_,_,aF,_⟩:=QF al;have V:=tX aF;have qW:=JN ak.bR;have pJ:=V.len;have xF:=V.n60;have aV:=IQ s.bR ak.bR;have c5:gm s=if pX (dA s.bR) s.order.l=true then 0 else 8:=by unfold gm; rw[if_pos ⟨ad,af,al,aG,a6⟩]
      have hu:∀ i,i<s.order.l.length->nI (dA s.bR) s.order.l i=false->gm s=8:=fun i aB aI=>by
       rw[c5,if_neg];unfold pX;rw[decide_eq_true_eq];intro h;have:=h i aB;rw[aI] at this; cases this
      have dJ:=js (dA s.bR).ids;have dy:=nk (dA s.bR).ops;have b5:=cW (dA s.bR).ids;unfold cG bI cY at aV;obtain⟨g,aA⟩:∃ g,g=dA s.bR:=⟨_,rfl⟩
      rw[<-aA] at aV qW pJ xF dJ dy b5 hu V c5 aF;simp[bE,cK,dx];refine aY rF (by simp[a1,U.closed,pr,rE]) ?_;simp[al,fl,cA,a6];refine aY aV (by simp[a1,U.closed,pr,rE]) ?_;simp[bi];refine cm s.order.l.length (fun k ae l=>l=[.cells 5 [.int .i64 s.cap,hs s.bR.parts,az s.bR.cZ,.int .i64 s.bR.fa,az s.order],.cells 2 [az g.ids,bw g.ops]]/\ae 1=.ptr 0 0 5/\ae 3=.ptr 1 0 2/\ae 4=.int .i64 k/\∀ j,j<k->nI g s.order.l j=true) ?_ ⟨rfl,by simp,by simp,by simp,fun j aj=>by omega⟩;rintro k ae l ax ⟨rfl,aN,aZ,a9,hG⟩;obtain⟨ae,rfl⟩:=jT aN aZ a9;clear aN aZ a9;have aS:IntKind.i64.wrap ((k:Int)+1)=((k+1:Nat) :Int) :=by rw[IntKind.wrap_i64]; omega
      by_cases br:k<s.order.l.length
      ·obtain⟨x,ai,c7⟩:=bF br;have eU:=ak.order x c7;have bm:=cP eU;have eZ:=fU x;have bU:cN (.ar 32) (az s.order) (.int .i64 (k:Int))=some (.cg (aX x) 0) :=by simp[az,ai]
       have eo:=yg g.ids qW.ids qW.li x eU;have Gn:=yg s.order ak.order (by omega) x eU;have hit:=YC ai;have c0:nI g s.order.l k=(decide (x∈g.ids.l)&&(!decide (x∈s.order.l.take k)&&ll (s.order.l.take k) (eC g.ops.l (gN x g.ids.l 0).toNat))) :=by unfold nI; rw[fF ai]
       have iZ:=tG x g.ids.l 0;obtain⟨HT,WE⟩:∃ HT,HT=gN x s.order.l 0:=⟨_,rfl⟩
       rw[<-WE] at Gn hit;by_cases hm:x∈g.ids.l
       ·obtain⟨a,aC⟩:=akj.1 hm;have Gm:=DB (tE V.dk) aC;obtain⟨o,au,ec⟩:=bF (l:=g.ops.l) (k:=a) (by rw[<-pJ]; exact (aj7.1 aC).1);have lC:=qW.ops o ec;rw[Gm] at eo c0;rw[decide_eq_true hm,akr,yd au,alx] at c0;have hd:=(aj7.1 aC).1;have k3:cN (.ar 11) (bw g.ops) (.int .i64 (a:Int))=some (.cg (a5 o) 0) :=by simp[bw,au]
        have dF:(a5 o).length=11:=rfl;have mR:∀ h,(a5 o)[1]'h=az o.bd:=fun _=>rfl
        have kz:=cW o.bd;have bq:=HJ s.order (k:=k) (by omega);have Db:eh (ic s.order k) :=fun z aw=>ak.order z (by rw[lM] at aw; exact akD aw)
        have eA:=IK (ic s.order k) Db (by rw[lM,akB]; omega) o.bd lC.ids lC.len;rw[lM] at eA;have vz:=cW (ic s.order k);have qA:¬ (a:Int)<0:=by omega
        obtain⟨X,cL⟩:∃ X,X=aX x:=⟨_,rfl⟩
        obtain⟨O,en⟩:∃ O,O=a5 o:=⟨_,rfl⟩
        rw[<-cL] at bU bm eZ eo Gn;rw[<-en] at k3 dF;simp only[<-en] at mR;have gh:X.take 32=X:=aj9 (by omega);simp[cA,br,bU,bm,gh];refine aY eo (by simp[a1,U.closed,b5,eZ]) ?_;simp[qA,bU,bm,gh];refine aY Gn (by simp[a1,U.closed,ea,eZ]) ?_;by_cases bK:x∈s.order.l.take k
        ·have s8:=hit.2 bK;rw[decide_eq_true bK] at c0;have:=hu k br (by rw[c0]; simp);simp[s8];exact aJ (by rw[this]) rfl
        ·have s8:¬ HT<(k:Int) :=fun h=>bK (hit.1 h)
         rw[decide_eq_false bK] at c0;simp[s8,bq,k3,dF,mR];refine aY eA (by simp[a1,U.closed,vz,kz]) ?_;cases c9:ll (s.order.l.take k) o.bd.l with
         | true=>
          rw[c9] at c0;simp[aS];refine⟨br,fun j aj=>?_⟩;by_cases fX:j=k
          ·rw[fX,c0]; rfl
          ·exact hG j (by omega)
         | false=>
          rw[c9] at c0;have:=hu k br (by rw[c0]; rfl);simp;exact aJ (by rw[this]) rfl
       ·have aD:gN x g.ids.l 0<0:=by
         have:¬ 0<=gN x g.ids.l 0:=fun h=>hm (iZ.1 h)
         omega
        rw[decide_eq_false hm,alJ] at c0;have:=hu k br c0;obtain⟨X,cL⟩:∃ X,X=aX x:=⟨_,rfl⟩
        rw[<-cL] at bU bm eZ eo;have gh:X.take 32=X:=aj9 (by omega);simp[cA,br,bU,bm,gh];refine aY eo (by simp[a1,U.closed,b5,eZ]) ?_;simp[aD];exact aJ (by rw[this]) rfl
      ·have dR:k=s.order.l.length:=by omega
       subst dR;have:pX g s.order.l=true:=by unfold pX; exact decide_eq_true hG
       rw[this,if_pos rfl] at c5;rw[c5];simp[cA];exact aJ rfl rfl
     ·have c5:gm s=8:=by unfold gm; rw[if_neg (fun h=>a6 h.2.2.2.2)]
      rw[c5];simp[bE,cK,dx];refine aY rF (by simp[a1,U.closed,pr,rE]) ?_;simp[al,fl,cA,a6];exact aJ rfl rfl
    ·have c5:gm s=8:=by unfold gm; rw[if_neg (fun h=>aG h.2.2.2.1)]
     have fl:s.cap<s.bR.fa:=by omega
     rw[c5];simp[bE,cK,dx];refine aY rF (by simp[a1,U.closed,pr,rE]) ?_;simp[al,fl];exact aJ rfl rfl
   ·have c5:gm s=8:=by unfold gm; rw[if_neg (fun h=>al h.2.2.1)]
    rw[c5];simp[bE,cK,dx];refine aY rF (by simp[a1,U.closed,pr,rE]) ?_;simp[al];exact aJ rfl rfl
  ·have c5:gm s=8:=by unfold gm; rw[if_neg (fun h=>af h.2.1)]
   have cK:¬ s.cap<1:=by omega
   have dx:(40:Int)<s.cap:=by omega
   rw[c5];simp[bE,cK,dx];exact aJ rfl rfl
 ·have c5:gm s=8:=by unfold gm; rw[if_neg (fun h=>ad h.1)]
  have cK:s.cap<1:=by omega
  rw[c5];simp[bE,cK];exact aJ rfl rfl
end Op

end Go.ca

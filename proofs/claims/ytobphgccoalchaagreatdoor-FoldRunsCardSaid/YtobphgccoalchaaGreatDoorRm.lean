/-
  The heads of a graph, in the reference, walked.
-/
import Derived.Test.YtobphgccoalchaaGreatDoorRl
import Derived.Test.YtobphgccoalchaaGreatDoorRows
import Derived.Shelf.SlSortCmp.WholeK
import Derived.Shelf.SlGeneric
set_option linter.unusedVariables false
set_option linter.unusedSimpArgs false
set_option linter.unnecessarySimpa false
namespace Go.cf
open Go Go.Proofs
set_option maxRecDepth 100000
namespace Op
open gZ
def sQ (g:bc) (x:List B) (m:Nat) :Bool:=decide (∀ j,j<m->x∉(iU g.ops.l j).br.l)
theorem Q4 (g:bc) (x:List B) (m:Nat) :sQ g x (m+1)=(sQ g x m&&!decide (x∈(iU g.ops.l m).br.l)) :=by
 unfold sQ;rw[auc,ar3,decide_eq_true_eq,decide_eq_true_eq,atp,decide_eq_false_iff_not];constructor
 ·intro h; exact⟨fun j aj=>h j (by omega),h m (by omega)⟩
 ·rintro⟨h1,ae⟩ j aj;by_cases e:j=m
  ·rw[e]; exact ae
  ·exact h1 j (by omega)
abbrev qv (g:bc) (x:List B) :Bool:=sQ g x g.ops.l.length
def uF (g:bc) :List (List B) :=g.ids.l.filter (qv g)
set_option maxHeartbeats 8000000 in
theorem ahD (g:bc) (ar:ei g) :bx Tryz.prog GS 67 [cn g] (aN (dW (uF g))) :=by
 refine bH Tryz.checked.mixed bD ?_;apply bm Tryz.func67 [];have aA:cK=140737488355328:=rfl;have Lu:=ar.c0;have Lq:=ar.li;have dv:cz (.au 11) (bM g.ops)=some (.int .i64 g.ops.l.length) :=by simp[bM]
 have g5:cz (.au 32) (aN g.ids)=some (.int .i64 g.ids.l.length) :=by simp[aN]
 simp[cn,cV];refine cw g.ids.l.length (fun k af l=>af 1=.ptr 0 0 2/\af 4=.int .i64 k/\∃ v j rest,l=.cells 2 [aN g.ids,bM g.ops] ::rest/\af 3=v/\bB 32 l v j (((g.ids.l.take k).filter (qv g)).map aQ)/\(v=.aV\/1<=j)/\cx v=((g.ids.l.take k).filter (qv g)).isEmpty) ?_ ⟨by simp,by simp,.aV,0,[],rfl,by simp,.nil 0,.inl rfl,rfl⟩;rintro k af l hk ⟨aL,bp,v,j,rest,rfl,a7,e4,aj,gx⟩;obtain⟨af,rfl⟩:=kb aL a7 bp;clear aL a7 bp;simp[g5];refine g8 (fun h=>?_) (fun h=>?_)
 ·simp only[decide_eq_true_eq] at h;obtain⟨x,ai,cE⟩:=bu (l:=g.ids.l) (k:=k) (by omega);have iD:=ar.ids x cE;have a2:=cA iD;have fI:=eP x;have bE:IntKind.i64.wrap ((k:Int)+1)=((k+1:Nat) :Int) :=by rw[IntKind.wrap_i64]; omega
  have jw:cd (.au 32) (aN g.ids) (.int .i64 (k:Int))=some (.b0 (aQ x) 0) :=by simp[aN,ai]
  have b1:g.ids.l.take (k+1)=g.ids.l.take k++[x] :=by rw[ash,ai]; rfl
  obtain⟨X,b3⟩:∃ X,X=aQ x:=⟨_,rfl⟩
  rw[<-b3] at jw a2 fI;refine cw g.ops.l.length (fun m af l=>l=aY.cells 2 [aN g.ids,bM g.ops] ::rest/\af 1=.ptr 0 0 2/\af 3=v/\af 4=.int .i64 k/\af 5=.bool (sQ g x m)/\af 6=.int .i64 m) ?_ ⟨by simp,by simp,by simp,by simp,by simp[sQ],by simp⟩;rintro m af l hm ⟨rfl,aL,a7,bp,bf,bT⟩;obtain⟨af,rfl⟩:=ky aL a7 bp bf bT;clear aL a7 bp bf bT;simp[dv];refine g8 (fun ae=>?_) (fun ae=>?_)
  ·simp only[decide_eq_true_eq] at ae;obtain⟨o,aq,ds⟩:=bu (l:=g.ops.l) (k:=m) (by omega);have hZ:=ar.ops o ds;have c4:IntKind.i64.wrap ((m:Int)+1)=((m+1:Nat) :Int) :=by rw[IntKind.wrap_i64]; omega
   have yz:cd (.au 11) (bM g.ops) (.int .i64 (m:Int))=some (.b0 (a1 o) 0) :=by simp[bM,aq]
   have bO:(a1 o).length=11:=rfl;have gC:∀ h,(a1 o)[1]'h=aN o.br:=fun _=>rfl
   have ix:=eb o.br;have cZ:=zl o.br hZ.ids hZ.len x iD;have km:=Q4 g x m;rw[oR aq] at km;obtain⟨O,dn⟩:∃ O,O=a1 o:=⟨_,rfl⟩
   rw[<-dn] at yz bO gC;rw[<-b3] at cZ;cases aD:sQ g x m with
   | true=>
    rw[aD,asM] at km;simp[yz,jw,bO,gC,a2,arX];refine aW cZ (by simp[aZ,ad.closed,ix,fI]) ?_;simp[c4];exact⟨ae,by rw[km]; simp⟩
   | false=>
    rw[aD,asN] at km;simp[c4];exact⟨ae,by rw[km]⟩
  ·have i6:m=g.ops.l.length:=by simp at ae; omega
   simp[ae];rw[i6];have CY:bt (rep 32 (ad.int .u8 0)) 0 X=X:=ek (by rw[a2]; rfl);cases aD:sQ g x g.ops.l.length with
   | true=>
    have eo:(g.ids.l.take (k+1)).filter (qv g)=(g.ids.l.take k).filter (qv g)++[x] :=by rw[b1,atl]; simp[aD]
    have dT:((g.ids.l.take k).filter (qv g)).length<=1000000:=ati (atc _ _) (by rw[asc]; omega);obtain⟨a8,bK,dI,aX,bg,a3,a4⟩:=sH (by_:=32) (pre:=[.cells 2 [aN g.ids,bM g.ops]]) (rest:=rest++[.cells 32 X]) (e4.more _) aj (x:=.au 32 (rest.length+1) 0 1 1 32) (xs:=[X])
     (by simp[dA,a2,arX]) (by simp[a2]) (by omega) (by omega) (by rw[aA]; simp; omega)
    simp only[as5,asO] at aX;simp[jw,a2,CY,arX,aX];refine dt.cy ?_;simp[bE];have fH:cx a8=false:=by rw[a4]; simp
    refine⟨h,bK,?_,by simpa using a3,by rw[eo,fH]; simp⟩;rw[eo,asv,ast,atQ,<-b3];exact bg
   | false=>
    have eo:(g.ids.l.take (k+1)).filter (qv g)=(g.ids.l.take k).filter (qv g) :=by rw[b1,atl]; simp[aD]
    simp[bE];exact⟨h,j,by rw[eo]; exact e4,aj,by rw[eo]; exact gx⟩
 ·have fR:k=g.ids.l.length:=by simp at h; omega
  rw[fR,asx] at e4 gx;simp[h];exact e4.q.lZ eP (dW (uF g)) (by rw[gx,xv]; rfl) (fM _)
structure XV (g:bc) (eL:ap) (w:ad) (seen:List Bool) (k:Nat) (af:bi) (l:ap) :Prop where
 aL:af 1=w
 aT:af 2=.ptr eL.length 0 2
 de:af 8=.int .i64 seen.length
 fP:af 9=.int .i64 k
 ex:∃ v,af 5=v/\cj 32 aQ (eL++[.cells 2 [aN g.ids,bM g.ops]]) l v (kt g.ids.l seen k) (kt g.ids.l seen k).isEmpty
set_option maxHeartbeats 4000000 in
theorem agj (g:bc) (ar:ei g) {eL:ap} {w:ad} {lS:Nat} {seen:List Bool} (ak:seen.length=g.ids.l.length) (hw:bB 1 eL w lS (seen.map iK)) (adt:lS<eL.length) {K:ad->ap->Prop}
  (bl:∀ v l',cj 32 aQ eL l' v (kt g.ids.l seen seen.length) (kt g.ids.l seen seen.length).isEmpty->K v l') :
  dr Tryz.prog GS 89 [cn g,w] eL (c:=⟨K⟩) :=by
 apply bm Tryz.func89 [];have aA:cK=140737488355328:=rfl;have g5:=ar.li;have db:cz (.au 1) w=some (.int .i64 seen.length) :=by have:=hw.len; simpa using this
 simp[cn,cV,db];refine cw seen.length (XV g eL w seen) ?_ ⟨by simp,by simp,by simp,by simp,.aV,by simp,cj.nil⟩;rintro k af l hk ⟨aL,aT,de,fP,v,bf,c1⟩;obtain⟨af,rfl⟩:=ky aL aT bf de fP;clear aL aT bf de fP;have dK:l[eL.length]? = some (.cells 2 [aN g.ids,bM g.ops]) :=by rw[c1.same _ (by simp)]; simp
 have wR:bB 1 l w lS (seen.map iK) :=hw.nT (.inr (by rw[c1.same _ (by simp; omega),arZ adt]));by_cases cH:k<seen.length
 ·obtain⟨b,ag,_⟩:=bu cH;obtain⟨x,ai,cE⟩:=bu (l:=g.ids.l) (k:=k) (by omega);have aR:IntKind.i64.wrap ((k:Int)+1)=((k+1:Nat) :Int) :=by rw[IntKind.wrap_i64]; omega
  obtain⟨p,cs,o,gg,gI,pZ,kg⟩:=wR.q.get (k:=.i64) (i:=k) (e:=iK b) (by rw[ar5,ag]; rfl);have ri:cs[o]? = some (.bool b) :=by
   have ae:((cs.drop o).take 1)[0]? = (iK b)[0]?:=by rw[kg]
   rw[asf (by omega)] at ae;simpa [iK] using ae
  have jw:cd (.au 32) (aN g.ids) (.int .i64 (k:Int))=some (.b0 (aQ x) 0) :=by simp[aN,ai]
  have yV:seen.getD k false=b:=by rw[asq,ag]; rfl
  have a2:=cA (ar.ids x cE);have mZ:=HU g.ids.l seen k;have qO:=HV g.ids.l seen k;have h4:=JG gI;rw[yV] at qO;cases b with
  | false=>
   simp at qO;simp[cH,gg,gI,ri,h4,aR];exact⟨by simp,by simp,by simp,by simp,v,by simp,by rw[qO]; exact c1⟩
  | true=>
   rw[if_pos rfl,fJ ai] at qO;obtain⟨a8,Ua,aX,ad3,Cj⟩:=M1 (by_:=32) (c1.more [aY.cells 32 (aQ x)]) x (b:=l.length) (by simp) a2 (by omega) (by omega) (by rw[aA]; omega);obtain⟨X,b3⟩:∃ X,X=aQ x:=⟨_,rfl⟩
   rw[<-b3] at jw a2 aX;have m0:bt (rep 32 (.int .u8 0)) 0 X=X:=ek (by rw[a2]; rfl);simp[cH,gg,gI,ri,h4,dK,jw,a2,m0,arX,aX];refine dt.cy ?_;simp[cH,aR];exact⟨by simp,by simp,by simp,by simp,a8,by simp,by rw[qO,show (kt g.ids.l seen k++[x]).isEmpty=false by simp]; exact ad3⟩
 ·have mg:k=seen.length:=by omega
  subst mg;simp[cH];exact bl _ _ (c1.base (by simp) (fun b ag=>arZ ag))
def ry (n k:Nat) :List Bool:=(List.range n).map fun i=>decide (i<k)
theorem aaP (n k:Nat) :(ry n k).length=n:=by simp[ry]
theorem aaR (n:Nat) :ry n 0=List.replicate n false:=by
 apply asY ; intro i;unfold ry;by_cases h:i<n
 ·rw[ar5,asI h,List.getElem?_replicate,if_pos h]; simp
 ·rw[ase (by simp; omega),ase (by simp; omega)]
theorem aaQ {n k:Nat} (h:k<n) :(ry n k).set k true=ry n (k+1) :=by
 apply asY ; intro i;unfold ry;by_cases ax:i<n
 ·by_cases e:k=i
  ·subst e;rw[ar9 (by simp; omega),ar5,asI ax]; simp
  ·rw[ar7 e,ar5,ar5,asI ax];simp; omega
 ·rw[ase (by simp; omega),ase (by simp; omega)]
def me (g:bc) (q m:Nat) :List Bool:=(List.range g.ids.l.length).map fun i=>sQ g (b2 g.ids.l i) q&&!decide (b2 g.ids.l i∈(iU g.ops.l q).br.l.take m)
theorem K5 (g:bc) (q m:Nat) :(me g q m).length=g.ids.l.length:=by simp[me]
theorem acL (g:bc) :ry g.ids.l.length g.ids.l.length=me g 0 0:=by
 unfold ry me;refine atF fun i ax=>?_
 rw[asJ] at ax;rw[decide_eq_true ax];simp[sQ]
theorem acJ (g:bc) (q:Nat) :me g q (iU g.ops.l q).br.l.length=me g (q+1) 0:=by
 unfold me;refine atF fun i ax=>?_
 rw[asx,Q4]; simp
theorem acK {g:bc} (aj:jj g.ids.l) {q m i:Nat} {p:List B} (aC:(iU g.ops.l q).br.l[m]? = some p) (ax:g.ids.l[i]? = some p) :(me g q m).set i false=me g q (m+1) :=by
 have cY:=(arY.1 ax).1;apply asY ; intro t;unfold me;have b1:(iU g.ops.l q).br.l.take (m+1)=(iU g.ops.l q).br.l.take m++[p] :=by rw[ash,aC]; rfl
 by_cases aJ:t<g.ids.l.length
 ·obtain⟨y,ay,_⟩:=bu aJ;by_cases e:i=t
  ·subst e;rw[ar9 (by simp; omega),ar5,asI aJ,b1]; simp[ax]
  ·rw[ar7 e,ar5,ar5,asI aJ,b1];have bU:y≠p:=fun h=>e (by subst h; exact aj i t y ax ay)
   simp[ay,bU]
 ·rw[ase (by simp; omega),ase (by simp; omega)]
theorem Uo (g:bc) :∀ k,k<=g.ids.l.length->kt g.ids.l (me g g.ops.l.length 0) k=(g.ids.l.take k).filter (qv g)
 | 0,_=>rfl
 | k+1,hk=>by
  obtain⟨x,ai,_⟩:=bu (l:=g.ids.l) (k:=k) (by omega);have h1:(me g g.ops.l.length 0).getD k false=qv g x:=by
   rw[asq];unfold me;rw[ar5,asI (by omega)];simp[fJ ai,ai]
  rw[HV,Uo g k (by omega),h1,fJ ai,ash,ai,atl];cases h:qv g x<;>simp[h]
structure sF (g:bc) (fV b:Nat) (S:List Bool) (l:ap) :Prop where
 dK:l[0]? = some (.cells 2 [aN g.ids,bM g.ops])
 p:nH l fV g.ids.l
 w:bB 1 l (.au 1 b 0 g.ids.l.length g.ids.l.length g.ids.l.length) b (S.map iK)
 ag:b<l.length
 hm:fV<b
 aB:0<fV
theorem sF.more {g:bc} {fV b:Nat} {S:List Bool} {l:ap} (h:sF g fV b S l) (c:aY) :sF g fV b S (l++[c]) :=
 ⟨by rw[arZ (by have:=h.ag; omega)]; exact h.dK,h.p.frame (arZ h.p.lt),h.w.more _,by have:=h.ag; simp; omega,h.hm,h.aB⟩
theorem sF.set {g:bc} {fV b:Nat} {S:List Bool} {l:ap} (h:sF g fV b S l) {i:Nat} {v:Bool} (ax:i<S.length) :
  ∃ p l',cd (.au 1) (.au 1 b 0 g.ids.l.length g.ids.l.length g.ids.l.length) (.int .i64 (i:Int))=some p/\kw 1 l p (.bool v)=some l'/\sF g fV b (S.set i v) l':=by
 obtain⟨p,l',aX,bg,a3,a4,a5⟩:=zf (enc:=iK) (x:=v) (X:=.bool v) rfl h.w (fun _ _=>rfl) ax rfl;have h1:=h.hm;have ae:=h.aB;exact⟨p,l',aX,bg,by rw[a5 0 (by omega)]; exact h.dK,h.p.frame (a5 fV (by omega)),a3,by rw[a4]; exact h.ag,h.hm,h.aB⟩
def o0 (g:bc) :dM:=if dm g=0 then dW (uF g) else none
set_option maxHeartbeats 8000000 in
theorem akP (g:bc) (ar:ei g) :bx Tryz.prog GS 43 [cn g] (.bJ [aN (o0 g),.int .i64 (dm g)]) :=by
 refine bH Tryz.checked.mixed bD ?_;apply bm Tryz.func43 [];have aA:cK=140737488355328:=rfl;have cJ:=eb g.ids;have b6:=jo g.ops;have Lu:=ar.c0;have Lq:=ar.li;have cO:=BR g ar;have dv:cz (.au 11) (bM g.ops)=some (.int .i64 g.ops.l.length) :=by simp[bM]
 have g5:cz (.au 32) (aN g.ids)=some (.int .i64 g.ids.l.length) :=by simp[aN]
 unfold cn cV at cO;simp[cn,cV];refine aW cO (by simp[aZ,ad.closed,cJ,b6]) ?_;by_cases aB:dm g=0
 ·have V:=kX aB;have e2:=m3 V.ea;simp[aB];refine U8 g ar e2 ?_;intro fV l1 mS wB k8 px;have dK:l1[0]? = some (aY.cells 2 [aN g.ids,bM g.ops]) :=by rw[k8 0 (by simp)]; rfl
  obtain⟨aX,bg⟩:=D1 (z:=1) (by_:=1) (n:=g.ids.l.length) (k:=.i64) (k':=.i64) (zero:=[ad.bool false]) (l:=l1) rfl (by omega) (by rw[aA]; omega);obtain⟨N,fQ⟩:∃ N,N=g.ids.l.length:=⟨_,rfl⟩
  simp only[atC] at aX bg;have dN:sF g fV l1.length (ry g.ids.l.length 0) (l1++[.cells g.ids.l.length (dZ [.bool false] g.ids.l.length)]) :=by
   have h1:l1.length ≥ 1:=by simp at px; omega
   refine⟨by rw[arZ (by omega)]; exact dK,mS.frame (arZ mS.lt),?_,by simp,mS.lt,by simp at wB; omega⟩;rw[aaR,au6]; exact bg
  simp[dK,g5,aX];obtain⟨b,ag⟩:∃ b,b=l1.length:=⟨_,rfl⟩
  rw[<-ag] at dN ⊢;refine cw g.ids.l.length (fun k af l=>af 1=.ptr 0 0 2/\af 5=.mp fV/\af 6=.au 1 b 0 g.ids.l.length g.ids.l.length g.ids.l.length/\af 24=.int .i64 g.ids.l.length/\af 25=.int .i64 k/\sF g fV b (ry g.ids.l.length k) l) ?_ ⟨by simp,by simp,by simp,by simp,by simp,dN⟩;clear dN aX bg dK k8 mS;rintro k af l hk ⟨aL,bf,bT,nl,k6,dN⟩;obtain⟨af,rfl⟩:=ky aL bf bT nl k6;clear aL bf bT nl k6;simp;refine g8 (fun h=>?_) (fun h=>?_)
  ·simp only[decide_eq_true_eq] at h;have aR:IntKind.i64.wrap ((k:Int)+1)=((k+1:Nat) :Int) :=by rw[IntKind.wrap_i64]; omega
   obtain⟨p,l',fZ,ho,oV⟩:=dN.set (i:=k) (v:=true) (by rw[aaP]; omega);rw[aaQ (by omega)] at oV;simp[fZ,ho,aR];exact⟨by omega,oV⟩
  ·have fR:k=g.ids.l.length:=by simp at h; omega
   rw[fR,acL] at dN;have dK:=dN.dK;simp[h,dK,dv];refine cw g.ops.l.length (fun q af l=>af 1=.ptr 0 0 2/\af 5=.mp fV/\af 6=.au 1 b 0 g.ids.l.length g.ids.l.length g.ids.l.length/\af 33=bM g.ops/\af 34=.int .i64 g.ops.l.length/\af 35=.int .i64 q/\sF g fV b (me g q 0) l) ?_ ⟨by simp,by simp,by simp,by simp,by simp,by simp,dN⟩;clear dN dK;rintro q af l bd ⟨aL,bf,bT,wa,wb,CL,dN⟩;obtain⟨af,rfl⟩:=vp aL bf bT wa wb CL;clear aL bf bT wa wb CL;simp;refine g8 (fun ae=>?_) (fun ae=>?_)
   ·simp only[decide_eq_true_eq] at ae;obtain⟨o,aq,ds⟩:=bu (l:=g.ops.l) (k:=q) (by omega);have hZ:=ar.ops o ds;have aR:IntKind.i64.wrap ((q:Int)+1)=((q+1:Nat) :Int) :=by rw[IntKind.wrap_i64]; omega
    have bG:cd (.au 11) (bM g.ops) (.int .i64 (q:Int))=some (.b0 (a1 o) 0) :=by simp[bM,aq]
    have bO:(a1 o).length=11:=rfl;have gC:∀ h,(a1 o)[1]'h=aN o.br:=fun _=>rfl
    have n1:cz (.au 32) (aN o.br)=some (.int .i64 o.br.l.length) :=by simp[aN]
    obtain⟨O,dn⟩:∃ O,O=a1 o:=⟨_,rfl⟩
    rw[<-dn] at bG bO gC;have hs:bt [ad.int .u32 0,.aV,.int .u64 0,.int .u8 0,.str [],.int .u8 0,.int .i64 0,.int .u64 0,.str [],.int .u32 0,.int .u32 0] 0 O=O:=ek (by rw[bO]; rfl);have Ie:∀ c:aY,(l++[c])[l.length]? = some c:=fun c=>aul
    simp[bG,bO,gC,hs,n1,Ie,arX];refine cw o.br.l.length (fun m af l=>af 1=.ptr 0 0 2/\af 5=.mp fV/\af 6=.au 1 b 0 g.ids.l.length g.ids.l.length g.ids.l.length/\af 33=bM g.ops/\af 34=.int .i64 g.ops.l.length/\af 35=.int .i64 q/\af 40=aN o.br/\af 41=.int .i64 o.br.l.length/\af 42=.int .i64 m/\sF g fV b (me g q m) l) ?_ ⟨by simp,by simp,by simp,by simp,by simp,by simp,by simp,by simp,by simp,dN.more _⟩;clear dN Ie;rintro m af l hm ⟨aL,bf,bT,wa,wb,CL,Rc,Re,Rf,dN⟩;obtain⟨af,rfl⟩:=Xb aL bf bT wa wb CL Rc Re Rf;clear aL bf bT wa wb CL Rc Re Rf;simp;refine g8 (fun al=>?_) (fun al=>?_)
    ·simp only[decide_eq_true_eq] at al;obtain⟨p,aC,pz⟩:=bu (l:=o.br.l) (k:=m) (by omega);have iN:=hZ.ids p pz;have gL:=cA iN;have aop:=hZ.len;have bE:IntKind.i64.wrap ((m:Int)+1)=((m+1:Nat) :Int) :=by rw[IntKind.wrap_i64]; omega
     obtain⟨i,ax⟩:=ar6.1 (V.H7 o ds p pz);have cY:=(arY.1 ax).1;have hM:cd (.au 32) (aN o.br) (.int .i64 (m:Int))=some (.b0 (aQ p) 0) :=by simp[aN,aC]
     have Gi:=dN.more (.cells 32 (aQ p));have jy:=Gi.p.look e2 iN ax;obtain⟨ahc,l',fZ,ho,oV⟩:=Gi.set (i:=i) (v:=false) (by rw[K5]; omega);rw[acK e2 (by rw[oR aq]; exact aC) ax] at oV;obtain⟨P,mS⟩:∃ P,P=aQ p:=⟨_,rfl⟩
     rw[<-mS] at hM gL jy ho;have aey:bt (rep 32 (ad.int .u8 0)) 0 P=P:=ek (by rw[gL]; rfl);simp[hM,gL,aey,jy,fZ,ho,bE,arX];exact⟨by omega,oV⟩
    ·have i6:m=o.br.l.length:=by simp at al; omega
     have hg:=acJ g q;rw[oR aq] at hg;rw[i6,hg] at dN;simp[al,aR];exact⟨by omega,dN⟩
   ·have aeh:q=g.ops.l.length:=by simp at ae; omega
    rw[aeh] at dN;have dK:=dN.dK;simp[ae,dK];have hw:=dN.w;refine agj g ar (seen:=me g g.ops.l.length 0) (K5 _ _ _) hw dN.ag (fun v l' c1=>?_);simp;have wE:kt g.ids.l (me g g.ops.l.length 0) (me g g.ops.l.length 0).length=uF g:=by
     rw[K5,Uo g _ (ar0 _),asx]; rfl
    rw[wE] at c1;refine oT ?_ (aK (by rw[aB]) rfl);exact c1.rd eP (o0 g) (by unfold o0; rw[if_pos aB,xv]) (by unfold o0; rw[if_pos aB,fM])
 ·have lL:o0 g=none:=by unfold o0; rw[if_neg aB]
  rw[lL];simp[aB];exact aK rfl rfl
end Op

end Go.cf

namespace Go.Proofs
open Go.Shelf
set_option maxRecDepth 100000
def Tryz.aji:Go.Shelf.Ren:=⟨fun | 6=>85 | 15=>135 | 14=>134 | 28=>188 | 29=>189 | 20=>180 | 21=>181 | 22=>182 | 23=>183 | 24=>184 | 25=>185 | 26=>186 | 27=>187 | 46=>228 | 47=>229 | 48=>230 | 49=>231 | 50=>232 | 57=>255 | n=>n,fun | 22=>29 | 24=>53 | 25=>142 | 3=>3 | 39=>194 | 0=>0 | 53=>76 | 55=>40 | 4=>4 | 46=>234 | 45=>233 | 50=>152 | 5=>5 | 9=>9 | 66=>269 | 70=>273 | 76=>291 | 77=>292 | n=>n,fun | n=>n⟩
theorem Tryz.ajh:Go.Proofs.SlLaysF0.n6 Tryz.prog Tryz.aji where
 mixed:=by kernel_rfl
 f6:=⟨ "slices.SortFunc[[]braid/api.Tag,braid/api.Tag]",by decide,Tryz.func85.trans (congrArg some (by kernel_rfl))⟩
 f14:=⟨ "slices.pdqsortCmpFunc[braid/api.Tag]",by decide,Tryz.func134.trans (congrArg some (by kernel_rfl))⟩
 f15:=Tryz.func135.trans (congrArg some (by kernel_rfl))
 f20:=⟨ "slices.insertionSortCmpFunc[braid/api.Tag]",by decide,Tryz.func180.trans (congrArg some (by kernel_rfl))⟩
 f21:=⟨ "slices.heapSortCmpFunc[braid/api.Tag]",by decide,Tryz.func181.trans (congrArg some (by kernel_rfl))⟩
 f22:=⟨ "slices.breakPatternsCmpFunc[braid/api.Tag]",by decide,Tryz.func182.trans (congrArg some (by kernel_rfl))⟩
 f23:=⟨ "slices.choosePivotCmpFunc[braid/api.Tag]",by decide,Tryz.func183.trans (congrArg some (by kernel_rfl))⟩
 f24:=⟨ "slices.reverseRangeCmpFunc[braid/api.Tag]",by decide,Tryz.func184.trans (congrArg some (by kernel_rfl))⟩
 f25:=⟨ "slices.partialInsertionSortCmpFunc[braid/api.Tag]",by decide,Tryz.func185.trans (congrArg some (by kernel_rfl))⟩
 f26:=⟨ "slices.partitionEqualCmpFunc[braid/api.Tag]",by decide,Tryz.func186.trans (congrArg some (by kernel_rfl))⟩
 f27:=⟨ "slices.partitionCmpFunc[braid/api.Tag]",by decide,Tryz.func187.trans (congrArg some (by kernel_rfl))⟩
 f28:=Tryz.func188.trans (congrArg some (by kernel_rfl))
 f29:=Tryz.func189.trans (congrArg some (by kernel_rfl))
 f46:=⟨ "slices.siftDownCmpFunc[braid/api.Tag]",by decide,Tryz.func228.trans (congrArg some (by kernel_rfl))⟩
 f47:=Tryz.func229.trans (congrArg some (by kernel_rfl))
 f48:=Tryz.func230.trans (congrArg some (by kernel_rfl))
 f49:=⟨ "slices.medianAdjacentCmpFunc[braid/api.Tag]",by decide,Tryz.func231.trans (congrArg some (by kernel_rfl))⟩
 f50:=⟨ "slices.medianCmpFunc[braid/api.Tag]",by decide,Tryz.func232.trans (congrArg some (by kernel_rfl))⟩
 f57:=⟨ "slices.order2CmpFunc[braid/api.Tag]",by decide,Tryz.func255.trans (congrArg some (by kernel_rfl))⟩
 t0:=Tryz.underlying0
 a0:=Tryz.isAgg0
 z0:=Tryz.sizeOf0
 v0:=Tryz.zeroValue0
 t3:=Tryz.underlying3
 a3:=Tryz.isAgg3
 z3:=Tryz.sizeOf3
 v3:=Tryz.zeroValue3
 t4:=Tryz.underlying4
 a4:=Tryz.isAgg4
 z4:=Tryz.sizeOf4
 v4:=Tryz.zeroValue4
 t5:=Tryz.underlying5
 a5:=Tryz.isAgg5
 z5:=Tryz.sizeOf5
 v5:=Tryz.zeroValue5
 t9:=Tryz.underlying9
 a9:=Tryz.isAgg9
 z9:=Tryz.sizeOf9
 v9:=Tryz.zeroValue9
 t22:=Tryz.underlying29
 a22:=Tryz.isAgg29
 z22:=Tryz.sizeOf29
 v22:=Tryz.zeroValue29
 t25:=Tryz.underlying142
 a25:=Tryz.isAgg142
 z25:=Tryz.sizeOf142
 v25:=Tryz.zeroValue142
 t39:=Tryz.underlying194
 a39:=Tryz.isAgg194
 z39:=Tryz.sizeOf194
 v39:=Tryz.zeroValue194
 t45:=Tryz.underlying233
 a45:=Tryz.isAgg233
 z45:=Tryz.sizeOf233
 v45:=Tryz.zeroValue233
 t46:=Tryz.underlying234
 a46:=Tryz.isAgg234
 z46:=Tryz.sizeOf234
 v46:=Tryz.zeroValue234
 t50:=Tryz.underlying152
 a50:=Tryz.isAgg152
 z50:=Tryz.sizeOf152
 v50:=Tryz.zeroValue152
 t53:=Tryz.underlying76
 a53:=Tryz.isAgg76
 z53:=Tryz.sizeOf76
 v53:=Tryz.zeroValue76
 t55:=Tryz.underlying40
 a55:=Tryz.isAgg40
 z55:=Tryz.sizeOf40
 v55:=Tryz.zeroValue40
 t66:=Tryz.underlying269
 a66:=Tryz.isAgg269
 z66:=Tryz.sizeOf269
 v66:=Tryz.zeroValue269
 t70:=Tryz.underlying273
 a70:=Tryz.isAgg273
 z70:=Tryz.sizeOf273
 v70:=Tryz.zeroValue273
 t76:=Tryz.underlying291
 a76:=Tryz.isAgg291
 z76:=Tryz.sizeOf291
 v76:=Tryz.zeroValue291
 t77:=Tryz.underlying292
 a77:=Tryz.isAgg292
 z77:=Tryz.sizeOf292
 v77:=Tryz.zeroValue292
end Go.Proofs

namespace Go.cf
open Go Go.Proofs Go.Sort Go.Shelf
set_option maxRecDepth 100000
namespace Op
open gZ
abbrev vA:={t:bj // t.id.length=32}
instance:Inhabited vA:=⟨⟨⟨[],List.replicate 32 0#8⟩,by simp⟩⟩
def CG (x:vA) :List ad:=bF x.1
def vS (x y:vA) :Int:=jT x.1 y.1
theorem u3 (a b:bj) :ltOf jT a b=eM a b:=by
 unfold ltOf;cases h:eM a b with
 | true=>exact decide_eq_true ((Fr a b).2 h)
 | false=>exact decide_eq_false fun aH=>by rw[(Fr a b).1 aH] at h; cases h
theorem WO:SWO (ltOf vS) where
 irrefl x:=by show ltOf jT x.1 x.1=false; rw[u3]; exact za _
 trans x y z:=by
  show ltOf jT x.1 y.1=true->ltOf jT y.1 z.1=true->ltOf jT x.1 z.1=true;rw[u3,u3,u3]; exact sa
 ntrans x y z:=by
  show ltOf jT x.1 y.1=false->ltOf jT y.1 z.1=false->ltOf jT x.1 z.1=false;rw[u3,u3,u3];intro h1 ae;cases al:eM x.1 z.1 with
  | false=>rfl
  | true=>
   by_cases aR:x.1=y.1
   ·rw[aR] at al; rw[al] at ae; cases ae
   ·by_cases bE:y.1=z.1
    ·rw[bE] at h1; rw[al] at h1; cases h1
    ·have:=sa (sa al (zb ae bE)) (zb h1 aR);rw[za] at this; cases this
theorem Yw (x y:vA) (h1:ltOf vS x y=false) (ae:ltOf vS y x=false) :x=y:=by
 have c3:ltOf jT x.1 y.1=false:=h1;have gh:ltOf jT y.1 x.1=false:=ae;rw[u3] at c3 gh;by_cases e:x.1=y.1
 ·exact Subtype.ext e
 ·rw[zb c3 e] at gh; cases gh
theorem Qr (x:vA) :(CG x).length=33:=iL x.2
theorem aaj (x:vA) :∀ c∈CG x,zg c=true:=fun c ah=>by
 rcases as0.1 ah with h | h
 ·rw[h]; rfl
 ·obtain⟨b,_,rfl⟩:=asr.1 h; rfl
theorem ajg {g:Nat} (J0:∀ args w,(callFunc g args).run Tryz.prog w=.ok (.enter g args) w) :EZ Tryz.prog 85 g 33 (fun x=>(CG x).map valOf) vS:=
 fun blk off cap d w rJ hH hblk ht=>
  AnyQ.slices_SortFunc Tryz.ajh 33 (by intro w; exact Tryz.isAgg53 w) (by intro w; exact Tryz.sizeOf53 w) _ (fun x=>by rw[asi,Qr]) (fun x v aw=>by obtain⟨c,_,rfl⟩:=asr.1 aw; exact IM c) vS WO g #[] blk off cap d w J0 rJ hH hblk ht
def nd (l:List bj) :List bj:=l.mergeSort fun x y=>!eM y x
theorem WU:∀ {xs:List bj},gW xs->∃ bh:List vA,bh.map (·.1)=xs
 | [],_=>⟨[],rfl⟩
 | x::xs,h=>by
  obtain⟨bh,ay⟩:=WU (xs:=xs) fun i ax=>h i (by simp[ax])
  exact⟨⟨x,h x (by simp)⟩::bh,by simp[ay]⟩
theorem ajm (bh:List vA) :(sorted vS bh).map (·.1)=nd (bh.map (·.1)) :=by
 unfold sorted nd;rw[List.map_mergeSort];intro a _ b _;show (!ltOf jT b.1 a.1)=(!eM b.1 a.1)
 rw[u3]
theorem aht {z:Nat} {l l' : ap} {v:ad} {j:Nat} {es dH:List (List ad)} (h:bB z l v j es) (h' : ez z l' v j dH) :bB z l' v j dH:=by
 cases h with
 | nil j=>have:=h'.qX; subst this; exact .nil j
 | au j n cap sz cs es ag am aF av ah c9 cb=>
  generalize aw:ad.au z j 0 n cap sz=w at h';cases h' with
  | nil=>cases aw
  | au TZ agQ ny Zl ajO hW x5 fm gk oM jA md acD K2=>
   injection aw with _ aR bE c4 jr CC
   subst bE c4 jr CC;exact .au j n cap sz hW _ fm gk oM jA md (by omega) (by simpa using K2)
theorem YJ (n:Q) :bx Tryz.prog GS 135 [cU n] (.int .i64 (ks n.toNat)) :=by
 refine bH Tryz.checked.mixed bD ?_;apply bm Tryz.func135 [];have h:=Uc n;simp;refine aW h rfl ?_;simp;exact aK rfl rfl
theorem ajX (f:ad) (aD:f.closed=true) :bx Tryz.prog GS 180 [.aV,.int .i64 0,.int .i64 0,f] (.bJ []) :=by
 refine bH Tryz.checked.mixed bD ?_;apply bm Tryz.func180 [];have bX:IntKind.i64.wrap 1=1:=by decide
 simp;refine cw 0 (fun _ af l=>af 2=.int .i64 0/\af 8=.int .i64 1) ?_ ⟨by simp,by simp[bX]⟩;rintro k af l hk ⟨aT,de⟩;simp[aT,de];exact aK rfl rfl
theorem aj4 (n:Int) (f:ad) (aD:f.closed=true) :bx Tryz.prog GS 134 [.aV,.int .i64 0,.int .i64 0,.int .i64 n,f] (.bJ []) :=by
 refine bH Tryz.checked.mixed bD ?_;apply bm Tryz.func134 [];have h:=ajX f aD;have l3:IntKind.i64.wrap 0=0:=by decide
 simp;refine cw 0 (fun _ af l=>af 0=.aV/\af 1=.int .i64 0/\af 2=.int .i64 0/\af 4=f) ?_ ⟨by simp,by simp,by simp,by simp⟩;rintro k af l hk ⟨cg,aL,aT,bp⟩;simp[cg,aL,aT,bp,l3];refine aW h (by simp[aZ,ad.closed,aD]) ?_;simp;exact aK rfl rfl
theorem akb:bx Tryz.prog GS 85 [.aV,.fn 86 [] []] (.bJ []) :=by
 refine bH Tryz.checked.mixed bD ?_;apply bm Tryz.func85 [];have h:=YJ 0;have ae:=aj4 (ks (0:Q).toNat) (.fn 86 [] []) rfl;simp;refine aW h rfl ?_;simp;refine aW ae rfl ?_;simp;exact aK rfl rfl
theorem aka {l:ap} {v:ad} {j:Nat} {xs:List bj} (ai:gW xs) (am:xs.length<=1000000) (aF:cx v=xs.isEmpty) (h:bB 33 l v j (xs.map bF)) {K:ad->ap->Prop}
  (bl:∀ l',l'.length=l.length->(∀ b,v=.aV\/b≠j->l'[b]? = l[b]?)->bB 33 l' v j ((nd xs).map bF)->K (.bJ []) l') :dr Tryz.prog GS 85 [v,.fn 86 [] []] l (c:=⟨K⟩) :=by
 by_cases gx:xs=[]
 ·subst gx;have wP:v=.aV:=jC.1 (by rw[aF]; rfl);subst wP;exact aW akb rfl (bl l rfl (fun _ _=>rfl) (by simpa [nd] using bB.nil j))
 ·obtain⟨bh,ay⟩:=WU ai;have ao:bh.map CG=xs.map bF:=by rw[<-ay,atV]; rfl
  have ak:(sorted vS bh).map CG=(nd xs).map bF:=by rw[<-ay,<-ajm,atV]; rfl
  have b4:bh.length=xs.length:=by rw[<-ay]; simp
  have wP:v≠.aV:=fun aw=>by subst aw; rw[show cx .aV=true from rfl] at aF; exact gx (by simpa using aF.symm)
  rw[<-ao] at h;exact Ww vS (ajg (by intro args w; exact enters_of Tryz.func86 (by kernel_rfl) rfl args w)) WO Yw Qr aaj (fun x y=>JJ x.1 y.1 x.2 y.2) h.q (by omega) (fun rU=>absurd (by rw[<-ay,rU]; rfl) gx)
   (fun l' h1 ae al=>bl l' h1 (fun b ag=>ae b (ag.resolve_left wP)) (by rw[<-ak]; exact aht h al))
theorem Wy (l:List bj) (y:bj) :y∈nd l<->y∈l:=by unfold nd; exact List.mem_mergeSort
theorem Wx (l:List bj) :(nd l).length=l.length:=by unfold nd; exact List.length_mergeSort l
theorem ajj {l:List bj} (aF:l.Nodup) :(nd l).Pairwise fun a b=>eM a b=true:=by
 have h1:(nd l).Pairwise fun a b=>(!eM b a)=true:=by
  unfold nd;refine avq (fun a b c h1 ae=>?_) (fun a b=>?_) l
  ·simp only[atp] at *
   cases al:eM c a with
   | false=>rfl
   | true=>
    by_cases aR:b=c
    ·rw[aR] at h1; rw[al] at h1; cases h1
    ·by_cases bE:a=b
     ·rw[bE] at al; rw[al] at ae; cases ae
     ·have:=sa (sa al (zb h1 (Ne.symm bE))) (zb ae (Ne.symm aR));rw[za] at this; cases this
  ·cases h:eM b a with
   | false=>rfl
   | true=>
    cases ae:eM a b with
    | false=>rfl
    | true=>have:=sa h ae; rw[za] at this; cases this
 have ae:(nd l).Nodup:=(auY l _).nodup_iff.2 aF;refine (h1.and ae).imp fun {a b} h=>?_
 have al:eM b a=false:=by simpa using h.1
 exact zb al (Ne.symm h.2)
end Op

end Go.cf

namespace Go.cf
open Go Go.Proofs
set_option maxRecDepth 100000
namespace Op
open gZ
theorem YP (t:bj) :ad.beq (.aI (bF t)) (.aI (bF t))=true:=by
 show fk (.str t.key::aQ t.id) (.str t.key::aQ t.id)=true;have h:=Ju t.id;unfold aQ;simp[fk,ad.beq,h]
theorem J9 {t:bj} (h:t.id.length=32) :nx Tryz.prog 53 (.aI (bF t))=true:=by
 have h1:r3 Tryz.prog 8 53=true:=by kernel_rfl
 have ae:eA Tryz.prog 53=some true:=by kernel_rfl
 have al:cG Tryz.prog 53=some 33:=by kernel_rfl
 have aE:(bF t).all tD=true:=by
  rw[asZ];intro c ah;rcases as0.1 ah with h | h
  ·rw[h]; rfl
  ·obtain⟨b,_,rfl⟩:=asr.1 h; rfl
 show (r3 Tryz.prog 8 53&&(match eA Tryz.prog 53,cG Tryz.prog 53 with | some true,some m=>Nat.beq (bF t).length m | _,_=>false)&&(bF t).all tD)=true;rw[h1,ae,al,aE,iL h];rfl
theorem aau {a b:bj} (az:a.id.length=32) (ag:b.id.length=32) :eW Tryz.prog 10000 53 (.aI (bF a)) (.aI (bF b))=some (decide (a=b)) :=by
 rw[<-Jv az ag];obtain⟨x,y,qg,oC,uq⟩:=(FF (P:=Tryz.prog) 20 10000 (by omega) 53 HD MG).2 _ _ (Bu az) (Bu ag);have ae:eA Tryz.prog 53=some true:=by kernel_rfl
 simp only[lA,ae,Option.some.injEq] at qg oC;subst qg; subst oC;exact uq
inductive rj:List (ad × ad × Nat)->List bj->Prop
 | nil:rj [] []
 | cons {es:List (ad × ad × Nat)} {bW:List bj} {k:bj} (n:Nat) (hk:k.id.length=32) (h:rj es bW) :rj ((.aI (bF k),.bool true,n) ::es) (k::bW)
theorem rj.snoc {es:List (ad × ad × Nat)} {bW:List bj} (h:rj es bW) {k:bj} (hk:k.id.length=32) (n:Nat) :rj (es++[(.aI (bF k),.bool true,n)]) (bW++[k]) :=by
 induction h with
 | nil=>exact .cons n hk .nil
 | cons m e9 h aO=>exact .cons m e9 aO
theorem rj.modify {es:List (ad × ad × Nat)} {bW:List bj} (h:rj es bW) :∀ {i:Nat} {k:bj},bW[i]? = some k->rj (es.modify i fun e=>(.aI (bF k),.bool true,e.2.2)) bW:=by
 induction h with
 | nil=>intro i k h; simp at h
 | cons n hk h aO=>
  intro i k ax;cases i with
  | zero=>simp at ax; subst ax; exact .cons n hk h
  | succ i=>exact .cons n hk (aO (by simpa using ax))
theorem FN {x:bj} (ai:x.id.length=32) {es:List (ad × ad × Nat)} {bW:List bj} (h:rj es bW) :∀ c,(x∈bW->∃ i,bW[i]? = some x/\lF Tryz.prog 53 (.aI (bF x)) es c=some (some (c+i,.bool true)))/\(x∉bW->lF Tryz.prog 53 (.aI (bF x)) es c=some none) :=by
 induction h with
 | nil=>intro c; exact⟨fun h=>by simp at h,fun _=>rfl⟩
 | @cons es bW k n hk h aO=>
  intro c;unfold lF;rw[J9 hk];simp only;rw[aau ai hk];by_cases ao:x=k
  ·subst ao;simp only[decide_true,YP];exact⟨fun _=>⟨0,by simp⟩,fun h=>absurd (by simp) h⟩
  ·simp only[ao,decide_false];obtain⟨h1,ae⟩:=aO (c+1);refine⟨fun hm=>?_,fun h=>ae (fun h'=>h (by simp[h']))⟩;obtain⟨i,ax,aD⟩:=h1 (by simpa [ao] using hm);exact⟨i+1,by simpa using ax,by rw[aD,show c+1+i=c+(i+1) by omega]⟩
structure nI (l:ap) (j:Nat) (M:bj->Prop) :Prop where
 e:∃ es fl bW,l[j]? = some (.map es fl)/\rj es bW/\∀ x,x∈bW<->M x
open Classical in
theorem nI.look {l:ap} {j:Nat} {M:bj->Prop} (h:nI l j M) {x:bj} (ai:x.id.length=32) :y8 Tryz.prog l 53 (.bool false) false (.mp j) (.aI (bF x))=some (.bool (decide (M x))) :=by
 obtain⟨es,fl,bW,h1,ae,aE⟩:=h.e;have al:tv l (.mp j)=some es:=by simp[tv,h1]
 unfold y8;rw[al];simp only[J9 ai];by_cases hm:x∈bW
 ·obtain⟨i,_,aD⟩:=(FN ai ae 0).1 hm;rw[aD];simp[(aE x).1 hm]
 ·rw[(FN ai ae 0).2 hm];have:¬ M x:=fun aH=>hm ((aE x).2 aH)
  simp[this]
theorem nI.put {l:ap} {j:Nat} {M:bj->Prop} (h:nI l j M) {x:bj} (ai:x.id.length=32) :∃ c,u4 Tryz.prog l 53 (.mp j) (.aI (bF x)) (.bool true)=some (l.set j c)/\(∀ l' : ap,l'[j]? = some c->nI l' j (fun y=>M y\/y=x)) :=by
 obtain⟨es,fl,bW,h1,ae,aE⟩:=h.e;unfold u4;simp only[h1,J9 ai];by_cases hm:x∈bW
 ·obtain⟨i,ax,aD⟩:=(FN ai ae 0).1 hm;rw[aD];rw[as8];refine⟨_,rfl,fun l' dp=>⟨_,_,bW,dp,ae.modify ax,fun y=>?_⟩⟩;rw[aE y];exact⟨.inl,fun aH=>aH.elim id fun e=>by rw[e]; exact (aE x).1 hm⟩
 ·rw[(FN ai ae 0).2 hm];refine⟨_,rfl,fun l' dp=>⟨_,_,_,dp,ae.snoc ai fl,fun y=>?_⟩⟩;rw[asu,asl,aE y]
theorem nI.frame {l l' : ap} {j:Nat} {M:bj->Prop} (h:nI l j M) (aj:l'[j]? = l[j]?) :nI l' j M:=by
 obtain⟨es,fl,bW,h1,ae,aE⟩:=h.e;exact⟨es,fl,bW,by rw[aj,h1],ae,aE⟩
theorem nI.lt {l:ap} {j:Nat} {M:bj->Prop} (h:nI l j M) :j<l.length:=by
 obtain⟨es,fl,bW,h1,ae⟩:=h.e;exact (arY.1 h1).1
theorem ag1 (l:ap) :nI (l++[.map [] 0]) l.length (fun _=>False) :=⟨[],0,[],by simp,.nil,fun x=>by simp⟩
theorem nI.iff {l:ap} {j:Nat} {M N:bj->Prop} (h:nI l j M) (aH:∀ x,M x<->N x) :nI l j N:=by
 obtain⟨es,fl,bW,h1,ae,aE⟩:=h.e;exact⟨es,fl,bW,h1,ae,fun x=>(aE x).trans (aH x)⟩
def ot (g:bc) (m:Nat) (t:bj) :Prop:=∃ k o,k<m/\g.ops.l[k]? = some o/\o.act.kind=3#8/\o.act.key=t.key/\t.id∈i0 g k
def B0 (g:bc) (m:Nat) (key:List UInt8) (L:List (List B)) (t:bj) :Prop:=ot g m t\/(key=t.key/\t.id∈L)
theorem abt {g:bc} {m:Nat} {o:bq} (aq:g.ops.l[m]? = some o) (hk:¬ o.act.kind=3#8) (t:bj) :ot g m t<->ot g (m+1) t:=by
 constructor
 ·rintro⟨k,ck,h1,ae⟩; exact⟨k,ck,by omega,ae⟩
 ·rintro⟨k,ck,h1,ae,al,aE⟩;by_cases mX:k=m
  ·subst mX; rw[aq] at ae; obtain rfl:=Option.some.inj ae; exact absurd al hk
  ·exact⟨k,ck,by omega,ae,al,aE⟩
theorem abu {g:bc} {m:Nat} {o:bq} (aq:g.ops.l[m]? = some o) (hk:o.act.kind=3#8) (t:bj) :B0 g m o.act.key (i0 g m) t<->ot g (m+1) t:=by
 constructor
 ·rintro (⟨k,ck,h1,ae⟩ | ⟨h1,ae⟩)
  ·exact⟨k,ck,by omega,ae⟩
  ·exact⟨m,o,by omega,aq,hk,h1,ae⟩
 ·rintro⟨k,ck,h1,ae,al,aE,aU⟩;by_cases mX:k=m
  ·subst mX; rw[aq] at ae; obtain rfl:=Option.some.inj ae; exact .inr ⟨aE,aU⟩
  ·exact .inl ⟨k,ck,by omega,ae,al,aE,aU⟩
theorem abv {g:bc} {m:Nat} {key:List UInt8} {L:List (List B)} {k:Nat} {x:List B} (ai:L[k]? = some x) (t:bj) :(B0 g m key (L.take k) t\/t=⟨key,x⟩)<->B0 g m key (L.take (k+1)) t:=by
 unfold B0;rw[ash,ai,asu];simp only[Option.toList_some,asl];constructor
 ·rintro ((h | ⟨h1,ae⟩) | h)
  ·exact .inl h
  ·exact .inr ⟨h1,.inl ae⟩
  ·subst h; exact .inr ⟨rfl,.inr rfl⟩
 ·rintro (h | ⟨h1,ae | ae⟩)
  ·exact .inl (.inl h)
  ·exact .inl (.inr ⟨h1,ae⟩)
  ·right; cases t; simp_all
open Classical in
noncomputable def im (g:bc) (m:Nat) :List bj:=(List.range m).flatMap fun k=>match g.ops.l[k]?,g.ids.l[k]? with
 | some o,some x=>if o.act.kind=2#8/\¬ ot g g.ops.l.length ⟨o.act.key,x⟩ then [⟨o.act.key,x⟩] else []
 | _,_=>[]
open Classical in
theorem E3 {g:bc} {m:Nat} {o:bq} {x:List B} (aq:g.ops.l[m]? = some o) (ai:g.ids.l[m]? = some x) :im g (m+1)=im g m++(if o.act.kind=2#8/\¬ ot g g.ops.l.length ⟨o.act.key,x⟩ then [⟨o.act.key,x⟩] else []) :=by
 unfold im;rw[atA,atS];simp[aq,ai]
theorem Pe {g:bc} {t:bj}:∀ {m:Nat},t∈im g m<->∃ k o x,k<m/\g.ops.l[k]? = some o/\g.ids.l[k]? = some x/\o.act.kind=2#8/\¬ ot g g.ops.l.length ⟨o.act.key,x⟩/\t=⟨o.act.key,x⟩:=by
 intro m;unfold im;rw[avf];constructor
 ·rintro⟨k,hk,aJ⟩;rw[asJ] at hk;cases aq:g.ops.l[k]? with
  | none=>simp[aq] at aJ
  | some o=>
   cases ai:g.ids.l[k]? with
   | none=>simp[aq,ai] at aJ
   | some x=>
    simp only[aq,ai] at aJ;split at aJ
    ·rename_i aH;rw[asl] at aJ;exact⟨k,o,x,hk,aq,ai,aH.1,aH.2,aJ⟩
    ·simp at aJ
 ·rintro⟨k,o,x,hk,aq,ai,h1,ae,al⟩;refine⟨k,asJ.2 hk,?_⟩;simp only[aq,ai];rw[if_pos ⟨h1,ae⟩,asl];exact al
theorem E2 (g:bc) :∀ m,(im g m).length<=m
 | 0=>by simp[im]
 | m+1=>by
  have aO:=E2 g m;cases aq:g.ops.l[m]? with
  | none=>unfold im at *; rw[atA,atS]; simp[aq] at *; omega
  | some o=>
   cases ai:g.ids.l[m]? with
   | none=>unfold im at *; rw[atA,atS]; simp[aq,ai] at *; omega
   | some x=>
    rw[E3 aq ai,asa];split<;>simp<;>omega
theorem Ph {g:bc} (ar:ei g) (m:Nat) :gW (im g m) :=fun t aJ=>by
 obtain⟨k,o,x,_,_,ai,_,_,al⟩:=Pe.1 aJ;rw[al]; exact ar.ids x (ar4 ai)
structure mE (g:bc) (M:bj->Prop) (l:ap) :Prop where
 fh:l[0]? = some (.cells 2 [aN g.ids,bM g.ops])
 lV:l[1]? = some (.cells 1 [.aV])
 m:nI l 2 M
theorem mE.lt {g:bc} {M:bj->Prop} {l:ap} (h:mE g M l) :3<=l.length:=h.m.lt
theorem mE.frame {g:bc} {M:bj->Prop} {l l' : ap} (h:mE g M l) (aD:∀ b,b<3->l'[b]? = l[b]?) :mE g M l':=
 ⟨(aD 0 (by omega)).trans h.fh,(aD 1 (by omega)).trans h.lV,h.m.frame (aD 2 (by omega))⟩
theorem mE.more {g:bc} {M:bj->Prop} {l:ap} (h:mE g M l) (x:ap) :mE g M (l++x) :=h.frame fun b ag=>arZ (by have:=h.lt; omega)
theorem mE.iff {g:bc} {M N:bj->Prop} {l:ap} (h:mE g M l) (aH:∀ x,M x<->N x) :mE g N l:=⟨h.fh,h.lV,h.m.iff aH⟩
structure X2 (g:bc) (k:Nat) (af:bi) (l:ap) :Prop where
 aL:af 1=.ptr 0 0 2
 aT:af 2=.ptr 1 0 1
 a7:af 3=.int .i64 0
 bf:af 5=.mp 2
 nl:af 24=bM g.ops
 k6:af 25=.int .i64 g.ops.l.length
 mP:af 26=.int .i64 k
 h:mE g (ot g k) l
structure X4 (g:bc) (i:Nat) (o:bq) (b:Nat) (k:Nat) (af:bi) (l:ap) :Prop where
 aL:af 1=.ptr 0 0 2
 aT:af 2=.ptr 1 0 1
 a7:af 3=.int .i64 0
 bf:af 5=.mp 2
 dh:af 7=.ptr b 0 11
 nl:af 24=bM g.ops
 k6:af 25=.int .i64 g.ops.l.length
 mP:af 26=.int .i64 i
 uu:af 45=aN (dW (i0 g i))
 uv:af 46=.int .i64 (i0 g i).length
 uw:af 47=.int .i64 k
 h:mE g (B0 g i o.act.key ((i0 g i).take k)) l
 gA:3<=b
 ag:l[b]? = some (.cells 11 (a1 o))
structure X3 (g:bc) (b:Nat) (k:Nat) (af:bi) (l:ap) :Prop where
 aL:af 1=.ptr 0 0 2
 aT:af 2=.ptr 1 0 1
 a7:af 3=.int .i64 0
 bf:af 5=.mp 2
 g2:af 12=.ptr b 0 1
 Ki:af 60=bM g.ops
 Kj:af 61=.int .i64 g.ops.l.length
 Kk:af 62=.int .i64 k
 h:mE g (ot g g.ops.l.length) l
 gA:3<=b
 ex:∃ v j,l[b]? = some (.cells 1 [v])/\bB 33 l v j ((im g k).map bF)/\cx v=(im g k).isEmpty/\(v=.aV\/b<j)
noncomputable def qZ (g:bc) :eO:=if dm g=0 then zu (nd (im g g.ops.l.length)) else none
set_option maxHeartbeats 8000000 in
theorem akU (g:bc) (ar:ei g) :bx Tryz.prog GS 41 [cn g] (.bJ [.aI [dd (qZ g)],.int .i64 (dm g)]) :=by
 refine bH Tryz.checked.mixed bD ?_;apply bm Tryz.func41 [];have aA:cK=140737488355328:=rfl;have cJ:=eb g.ids;have b6:=jo g.ops;have cO:=BR g ar;unfold cn cV at cO;have dv:cz (.au 11) (bM g.ops)=some (.int .i64 g.ops.l.length) :=by simp[bM]
 simp[cn,cV];refine aW cO (by simp[aZ,ad.closed,cJ,b6]) ?_;by_cases aB:dm g=0
 ·have V:=kX aB;have yH:=V.n60;have kS:=V.len;have abV:mE g (fun _=>False) [aY.cells 2 [aN g.ids,bM g.ops],.cells 1 [.aV],.map [] 0] :=⟨rfl,rfl,ag1 [aY.cells 2 [aN g.ids,bM g.ops],.cells 1 [.aV]]⟩
  simp[aB,dv];refine cw g.ops.l.length (X2 g) ?_ ⟨by simp,by simp,by simp,by simp,by simp,by simp,by simp,abV.iff fun x=>⟨fun h=>h.elim,fun ⟨k,_,hk,_⟩=>by omega⟩⟩;rintro k af l hk ⟨aL,aT,a7,bf,nl,k6,mP,hH⟩;obtain⟨af,rfl⟩:=EK aL aT a7 bf nl k6 mP;clear aL aT a7 bf nl k6 mP;by_cases cH:k<g.ops.l.length
  ·obtain⟨x,ai,cE⟩:=bu (l:=g.ids.l) (k:=k) (by omega);obtain⟨o,aq,ds⟩:=bu cH;have mr:=ar.ids x cE;have a2:=cA mr;have aR:IntKind.i64.wrap ((k:Int)+1)=((k+1:Nat) :Int) :=by rw[IntKind.wrap_i64]; omega
   have hM:cd (.au 32) (aN g.ids) (.int .i64 (k:Int))=some (.b0 (aQ x) 0) :=by simp[aN,ai]
   have bG:cd (.au 11) (bM g.ops) (.int .i64 (k:Int))=some (.b0 (a1 o) 0) :=by simp[bM,aq]
   have bO:(a1 o).length=11:=rfl;have jv:∀ h,(a1 o)[3]'h=bA o.act.kind:=fun _=>rfl
   have mb:∀ h,(a1 o)[4]'h=.str o.act.key:=fun _=>rfl
   have eF:=eP x;have rR:=vZ o;have s3:=Pn g ar V aB x k ai;unfold cn cV at s3;obtain⟨O,dn⟩:∃ O,O=a1 o:=⟨_,rfl⟩
   obtain⟨Y,dC⟩:∃ Y,Y=aQ x:=⟨_,rfl⟩
   rw[<-dn] at bG bO jv mb;rw[<-dC] at hM a2 eF s3;obtain⟨Z,s2⟩:∃ Z,Z=[ad.int .u32 0,.aV,.int .u64 0,.int .u8 0,.str [],.int .u8 0,.int .i64 0,.int .u64 0,.str [],.int .u32 0,.int .u32 0] :=⟨_,rfl⟩
   have rD:Z.length=11:=by rw[s2]; rfl
   have hs:bt Z 0 O=O:=ek (by rw[bO,rD]);have Ga:=hH.more [.cells 11 O];have gl:∀ y z:aY,(l++[y]).set l.length z=l++[z] :=fun y z=>by rw[asy _ _ (ar0 _)]; simp
   have dK:=Ga.fh;have lY:∀ (X:ap) h,(l++X)[0]'h=.cells 2 [aN g.ids,bM g.ops] :=fun X h=>by
    have:=(hH.more X).fh; rw[arY] at this; exact this.2
   have CX:O.take 11=O:=arX (by omega);by_cases cS:o.act.kind=3#8
   ·have kU:=rR.2 cS;simp[cH,bG,bO,<-s2,rD,hs,gl,CX,jv,mb,kU,lY,hM,a2,arX];refine aW s3 (by simp[aZ,ad.closed,cJ,b6,eF]) ?_;have jx:cz (.au 32) (aN (dW (i0 g k)))=some (.int .i64 (i0 g k).length) :=by simp[aN,fM]
    have hf:=E7 g k;simp[jx];refine cw (i0 g k).length (X4 g k o l.length) ?_ ⟨by simp,by simp,by simp,by simp,by simp,by simp,by simp,by simp,by simp,by simp,by simp,Ga.iff fun t=>⟨.inl,fun h=>h.elim id fun h=>by simp at h⟩,hH.lt,by rw[<-dn]; simp⟩;obtain⟨b,lJ⟩:∃ b,b=l.length:=⟨_,rfl⟩
    rw[<-lJ];clear hH Ga gl dK lY;rintro q af l bd ⟨aL,aT,a7,bf,dh,nl,k6,mP,uu,uv,uw,hH,gA,ag⟩;obtain⟨af,rfl⟩:=W9 aL aT a7 bf dh nl k6 mP uu uv uw;clear aL aT a7 bf dh nl k6 mP uu uv uw;by_cases j0:q<(i0 g k).length
    ·obtain⟨y,ay,ch⟩:=bu j0;have TD:=ar.ids y (E8 ch);have b4:=cA TD;have f1:IntKind.i64.wrap ((q:Int)+1)=((q+1:Nat) :Int) :=by rw[IntKind.wrap_i64]; omega
     have Sv:cd (.au 32) (aN (dW (i0 g k))) (.int .i64 (q:Int))=some (.b0 (aQ y) 0) :=by simp[aN,fM,ay]
     have oG:bF ⟨o.act.key,y⟩=.str o.act.key::aQ y:=rfl;have gw:=(hH.more [.cells 32 (aQ y)]).m;obtain⟨c,iB,mi⟩:=gw.put (x:=⟨o.act.key,y⟩) TD;rw[oG] at iB;rw[<-dn] at ag;have eC:b<l.length:=(arY.1 ag).1;obtain⟨W,dN⟩:∃ W,W=aQ y:=⟨_,rfl⟩
     rw[<-dN] at b4 Sv oG iB gw;have aez:bt (rep 32 (.int .u8 0)) 0 W=W:=ek (by rw[b4]; rfl);have gl:∀ y z:aY,(l++[y]).set l.length z=l++[z] :=fun y z=>by rw[asy _ _ (ar0 _)]; simp
     have ca:∀ X:ap,(l++X)[b]? = some (.cells 11 O) :=fun X=>by rw[arZ eC]; exact ag
     simp[j0,Sv,b4,aez,gl,arX,ca,mb,bO,iB,f1];have ia:∀ a,a≠2->((l++[aY.cells 32 W]).set 2 c)[a]? = (l++[aY.cells 32 W])[a]?:=fun a az=>ar7 (Ne.symm az)
     have Ap:=hH.more [.cells 32 W];refine⟨by simp,by simp,by simp,by simp,by simp,by simp,by simp,by simp,by simp,by simp,by simp,⟨(ia 0 (by omega)).trans Ap.fh,(ia 1 (by omega)).trans Ap.lV,?_⟩,gA,?_⟩
     ·refine (mi _ (ar9 (by have:=Ap.lt; omega))).iff (abv ay)
     ·rw[ia b (by omega),<-dn]; exact ca _
    ·have yR:q=(i0 g k).length:=by omega
     subst yR;rw[asx] at hH;simp[j0,aR];exact⟨cH,by simp,by simp,by simp,by simp,by simp,by simp,by simp,hH.iff (abu aq cS)⟩
   ·have kU:¬ (u o.act.kind:Int)=3:=fun h=>cS (rR.1 h)
    simp[cH,bG,bO,<-s2,rD,hs,gl,CX,jv,mb,kU,aR];exact⟨by simp,by simp,by simp,by simp,by simp,by simp,by simp,Ga.iff (abt aq cS)⟩
  ·have g4:k=g.ops.l.length:=by omega
   subst g4;have lY:∀ (X:ap) h,(l++X)[0]'h=.cells 2 [aN g.ids,bM g.ops] :=fun X h=>by
    have:=(hH.more X).fh; rw[arY] at this; exact this.2
   simp[cH,lY,dv];refine cw g.ops.l.length (X3 g l.length) ?_ ⟨by simp,by simp,by simp,by simp,by simp,by simp,by simp,by simp,hH.more _,hH.lt,.aV,l.length+1,by simp,by simpa [im] using bB.nil _,by simp[im,cx],.inl rfl⟩;obtain⟨b,lJ⟩:∃ b,b=l.length:=⟨_,rfl⟩
   rw[<-lJ];clear hH lY lJ;rintro i af l ax ⟨aL,aT,a7,bf,g2,Ki,Kj,Kk,hH,gA,v,j,ag,e4,wH,aj⟩;obtain⟨af,rfl⟩:=Xa aL aT a7 bf g2 Ki Kj Kk;clear aL aT a7 bf g2 Ki Kj Kk;have eC:b<l.length:=(arY.1 ag).1;have lY:∀ (X:ap) h,(l++X)[0]'h=.cells 2 [aN g.ids,bM g.ops] :=fun X h=>by
    have:=(hH.more X).fh; rw[arY] at this; exact this.2
   by_cases cY:i<g.ops.l.length
   ·obtain⟨x,ai,cE⟩:=bu (l:=g.ids.l) (k:=i) (by omega);obtain⟨o,aq,ds⟩:=bu cY;have mr:=ar.ids x cE;have a2:=cA mr;have aR:IntKind.i64.wrap ((i:Int)+1)=((i+1:Nat) :Int) :=by rw[IntKind.wrap_i64]; omega
    have hM:cd (.au 32) (aN g.ids) (.int .i64 (i:Int))=some (.b0 (aQ x) 0) :=by simp[aN,ai]
    have bG:cd (.au 11) (bM g.ops) (.int .i64 (i:Int))=some (.b0 (a1 o) 0) :=by simp[bM,aq]
    have bO:(a1 o).length=11:=rfl;have jv:∀ h,(a1 o)[3]'h=bA o.act.kind:=fun _=>rfl
    have mb:∀ h,(a1 o)[4]'h=.str o.act.key:=fun _=>rfl
    have rR:=vY o;have oG:bF ⟨o.act.key,x⟩=.str o.act.key::aQ x:=rfl;have hL:(bF ⟨o.act.key,x⟩).length=33:=iL mr;have hf:=E3 aq ai;obtain⟨O,dn⟩:∃ O,O=a1 o:=⟨_,rfl⟩
    obtain⟨Y,dC⟩:∃ Y,Y=aQ x:=⟨_,rfl⟩
    obtain⟨T,cM⟩:∃ T,T=bF ⟨o.act.key,x⟩:=⟨_,rfl⟩
    rw[<-dn] at bG bO jv mb;rw[<-dC] at hM a2 oG;have jy:=(hH.more [aY.cells 11 O,.cells 33 T]).m.look (x:=⟨o.act.key,x⟩) mr;rw[<-cM] at oG hL jy;obtain⟨Z,s2⟩:∃ Z,Z=[ad.int .u32 0,.aV,.int .u64 0,.int .u8 0,.str [],.int .u8 0,.int .i64 0,.int .u64 0,.str [],.int .u32 0,.int .u32 0] :=⟨_,rfl⟩
    have rD:Z.length=11:=by rw[s2]; rfl
    have hs:bt Z 0 O=O:=ek (by rw[bO,rD]);have yW:bt (rep 32 (.int .u8 0)) 0 Y=Y:=ek (by rw[a2]; rfl);have pD:bt (ad.str [] ::rep 32 (.int .u8 0)) 0 T=T:=zs hL;have CX:O.take 11=O:=arX (by omega);have RL:T.take 33=T:=arX (by omega);have gl:∀ y z:aY,(l++[y]).set l.length z=l++[z] :=fun y z=>by rw[asy _ _ (ar0 _)]; simp
    have SR:∀ y z w:aY,(l++[w,y]).set (l.length+1) z=l++[w,z] :=fun y z w=>by rw[asy _ _ (by omega)]; simp
    have ca:∀ X:ap,(l++X)[b]? = some (.cells 1 [v]) :=fun X=>by rw[arZ eC]; exact ag
    by_cases bI:o.act.kind=2#8
    ·have kT:=rR.2 bI;simp[cY,bG,bO,<-s2,rD,hs,gl,CX,jv,mb,kT,lY,hM,a2,arX,yW,<-oG,hL,pD,SR,jy];by_cases hm:ot g g.ops.l.length ⟨o.act.key,x⟩
     ·rw[if_neg (fun h=>h.2 hm),asD] at hf;simp[hm,aR];exact⟨cY,by simp,by simp,by simp,by simp,by simp,by simp,by simp,by simp,hH.more _,gA,v,j,ca _,by rw[hf]; exact e4.more _,by rw[hf]; exact wH,aj⟩
     ·rw[if_pos ⟨bI,hm⟩] at hf;obtain⟨ew,pv⟩:∃ ew,ew=l++[aY.cells 11 O,aY.cells 33 T,aY.cells 33 T] :=⟨_,rfl⟩
      have an8:ew.length=l.length+3:=by rw[pv]; simp
      have ace:=E2 g i;have adZ:bB 33 ew v j ((im g i).map bF) :=by rw[pv]; exact e4.more _
      obtain⟨a8,bK,l',jf,kx,EI,EJ,BP,akp⟩:=zN (by_:=48) adZ (x:=.au 33 (l.length+2) 0 1 1 33) (xs:=[T]) (by rw[pv]; simp[dA,hL,RL]) (by simp[hL]) (by omega) (by omega) (by simp; omega);have fH:cx a8=false:=by rw[akp]; simp
      have iC:=kx.cells;have abW:mE g (ot g g.ops.l.length) ew:=by rw[pv]; exact hH.more _
      have rE:ew[b]? = some (.cells 1 [v]) :=by rw[pv]; exact ca _
      have bS:l'[b]? = some (.cells 1 [v]) :=by rw[EJ b (by omega) (aj.imp_right (by omega))]; exact rE
      rw[pv] at jf;simp[hm,ca,hL,RL,pD,jf,arX];refine dt.cy ?_;simp[iC,bS,aR];have bU:∀ a,a≠b->(l'.set b (.cells 1 [a8]))[a]? = l'[a]?:=fun a az=>ar7 (Ne.symm az)
      refine⟨cY,by simp,by simp,by simp,by simp,by simp,by simp,by simp,by simp,abW.frame fun a az=>?_,gA,a8,bK,ar9 (by omega),?_,by rw[fH,hf]; simp,?_⟩
      ·rw[bU a (by omega),EJ a (by omega) (aj.imp_right (by omega))]
      ·have AJ:bK≠b:=by
        rcases BP with h | ⟨h1,ae⟩ | h
        ·omega
        ·have:=aj.resolve_left h1; omega
        ·rw[h] at fH; cases fH
       rw[hf,asv];have:bB 33 (l'.set b (.cells 1 [a8])) a8 bK ((im g i).map bF++[T]) :=kx.frame fun _=>bU bK AJ
       rw[cM] at this;exact this
      ·right;rcases BP with h | ⟨h1,ae⟩ | h
       ·omega
       ·have:=aj.resolve_left h1; omega
       ·rw[h] at fH; cases fH
    ·have kT:¬ (u o.act.kind:Int)=2:=fun h=>bI (rR.1 h)
     simp[cY,bG,bO,<-s2,rD,hs,gl,CX,jv,mb,kT,lY,hM,a2,arX,yW,<-oG,hL,pD,SR,aR];rw[if_neg (fun h=>bI h.1),asD] at hf;exact⟨by simp,by simp,by simp,by simp,by simp,by simp,by simp,by simp,hH.more _,gA,v,j,ca _,by rw[hf]; exact e4.more _,by rw[hf]; exact wH,aj⟩
   ·have cZ:i=g.ops.l.length:=by omega
    subst cZ;have ace:=E2 g g.ops.l.length;simp[cY,ag];refine aka (Ph ar _) (by omega) wH e4 (fun l' h1 ae al=>?_);have bS:l'[b]? = some (.cells 1 [v]) :=by rw[ae b (aj.imp_right (by omega))]; exact ag
    have Ap:mE g (ot g g.ops.l.length) l':=hH.frame fun a az=>ae a (aj.imp_right (by omega))
    have lV:=Ap.lV;have pv:=Ap.lt;have iC:=al.cells;have fZ:∀ (y:aY),(l'.set 1 y)[1]? = some y:=fun y=>ar9 (by omega)
    simp[bS,lV,fZ];refine oT (q4 ?_) (aK (by rw[aB]) rfl);unfold qZ;rw[if_pos aB];have aE:bB 33 (l'.set 1 (.cells 1 [v])) v j ((nd (im g g.ops.l.length)).map bF) :=by
     rcases aj with e | e
     ·subst e;have:=al.q.qX;rw[this]; exact .nil _
     ·exact al.frame fun _=>ar7 (by omega)
    exact aE.q.lZ (fun x=>k4 x) (zu (nd (im g g.ops.l.length))) (by
     rw[wH,WN];have:=Wx (im g g.ops.l.length);cases aU:nd (im g g.ops.l.length)<;>cases bz:im g g.ops.l.length<;>simp_all) (BK _)
 ·simp[aB];refine aK ?_ ?_
  ·unfold qZ; rw[if_neg aB]; rfl
  ·simp[ad.closed,aZ,oz]
theorem Ro {g:bc} (ar:ei g) (V:kB g) {key:List UInt8} {x:List B} (ai:x∈g.ids.l) :∀ {m:Nat},m<=g.ops.l.length->(qj g (eu g) key x m=true<->ot g m ⟨key,x⟩)
 | 0,_=>by
  constructor
  ·intro h; cases h
  ·rintro⟨k,_,hk,_⟩; omega
 | m+1,hm=>by
  have aO:=Ro ar V ai (key:=key) (m:=m) (by omega);obtain⟨o,aq,_⟩:=bu (l:=g.ops.l) (k:=m) (by omega);obtain⟨y,ay,_⟩:=bu (l:=g.ids.l) (k:=m) (by rw[V.len]; omega);obtain⟨j,aj⟩:=ar6.1 ai;have cv:=(vE g ar V ay).1;have h1:x∈eu g m<->x∈i0 g m:=(cv.mem j x aj).trans (Ca (m3 V.ea) aj).symm;rw[Rn aq,atZ,aO,ar3,decide_eq_true_eq,h1];unfold tJ;rw[ar3,decide_eq_true_eq,decide_eq_true_eq];constructor
  ·rintro (⟨k,ck,aX,bg⟩ | ⟨⟨aX,bg⟩,a3⟩)
   ·exact⟨k,ck,by omega,bg⟩
   ·exact⟨m,o,by omega,aq,aX,bg,a3⟩
  ·rintro⟨k,ck,aX,bg,a3,a4,a5⟩;by_cases mX:k=m
   ·subst mX; rw[aq] at bg; obtain rfl:=Option.some.inj bg; exact .inr ⟨⟨a3,a4⟩,a5⟩
   ·exact .inl ⟨k,ck,by omega,bg,a3,a4,a5⟩
theorem T7 {g:bc} (V:kB g) {k:Nat} {o:bq} (aq:g.ops.l[k]? = some o) (bI:o.act.kind=2#8) :gN o.act.key=true:=by
 obtain⟨y,ay,_⟩:=bu (l:=g.ids.l) (k:=k) (by rw[V.len]; exact (arY.1 aq).1);have h1:=Qy (BQ (V.oE k o y aq ay).1);rw[B8 bI,ar3] at h1;exact h1.1
theorem Pf {g:bc} (V:kB g) {m:Nat} {key:List UInt8} {x:List B} (ai:g.ids.l[m]? = some x) :(⟨key,x⟩:bj)∉im g m:=fun h=>by
 obtain⟨k,o,y,h1,_,al,_,_,bz⟩:=Pe.1 h;have:x=y:=congrArg bj.id bz;subst this;have:=m3 V.ea k m x al ai;omega
theorem Pg {g:bc} (V:kB g) :∀ {m:Nat},m<=g.ops.l.length->(im g m).Nodup
 | 0,_=>by simp[im]
 | m+1,hm=>by
  have aO:=Pg V (m:=m) (by omega);obtain⟨o,aq,_⟩:=bu (l:=g.ops.l) (k:=m) (by omega);obtain⟨x,ai,_⟩:=bu (l:=g.ids.l) (k:=m) (by rw[V.len]; omega);rw[E3 aq ai];split
  ·rw[ath];refine⟨aO,by simp,fun a az b ag e=>?_⟩;rw[asl] at ag;subst e;rw[ag] at az;exact Pf V ai az
  ·simpa using aO
theorem UG {g:bc} (ar:ei g) (V:kB g) :∀ {m:Nat},m<=g.ops.l.length->l8 (gQ g (eu g) m).l=true/\∀ t,t∈(gQ g (eu g) m).l<->t∈im g m
 | 0,_=>⟨rfl,fun t=>by simp[gQ,im]⟩
 | m+1,hm=>by
  obtain⟨h1,ae⟩:=UG ar V (m:=m) (by omega);obtain⟨o,aq,_⟩:=bu (l:=g.ops.l) (k:=m) (by omega);obtain⟨x,ai,cE⟩:=bu (l:=g.ids.l) (k:=m) (by rw[V.len]; omega);have Sk:=Ro ar V (key:=o.act.key) cE (ar0 g.ops.l.length);rw[M3 aq ai,E3 aq ai];by_cases ah:o.act.kind=2#8/\¬ ot g g.ops.l.length ⟨o.act.key,x⟩
  ·have ak:ol g (eu g) o x=true:=by
    unfold ol;rw[ar3,decide_eq_true_eq,atp];exact⟨ah.1,au9.2 fun h=>ah.2 (Sk.1 h)⟩
   rw[if_pos ak,if_pos ah];have aF:(⟨o.act.key,x⟩:bj)∉(gQ g (eu g) m).l:=fun h=>Pf V ai ((ae _).1 h)
   have aC:lX (gQ g (eu g) m).l ⟨o.act.key,x⟩=gf (gQ g (eu g) m).l (jp (gQ g (eu g) m).l ⟨o.act.key,x⟩) ⟨o.act.key,x⟩:=by unfold lX; rw[No h1 aF]
   rw[dg.tt,aC];refine⟨Rq h1 aF (T7 V aq ah.1),fun t=>?_⟩;rw[TN,ae t,asu,asl,Or.comm]
  ·have ak:¬ ol g (eu g) o x=true:=by
    intro h;unfold ol at h;rw[ar3,decide_eq_true_eq,atp] at h;exact ah ⟨h.1,fun aH=>by rw[Sk.2 aH] at h; cases h.2⟩
   rw[if_neg ak,if_neg ah,asD];exact⟨h1,ae⟩
theorem agP {g:bc} (ar:ei g) :(qZ g).l=(xa g).l:=by
 unfold qZ xa;by_cases aB:dm g=0
 ·have V:=kX aB;rw[if_pos aB,if_pos aB,BK];obtain⟨h1,ae⟩:=UG ar V (ar0 _);exact ID (lt:=eM) za (fun a b c h1 ae=>sa h1 ae) (ajj (Pg V (ar0 _))) ((CO _).1 h1).2 (fun t=>by rw[Wy,ae])
 ·rw[if_neg aB,if_neg aB]
theorem agO {g:bc} (ar:ei g) :gW (qZ g).l/\(qZ g).l.length<=g.ops.l.length:=by
 unfold qZ;by_cases aB:dm g=0
 ·rw[if_pos aB,BK];refine⟨fun t aJ=>Ph ar _ t ((Wy _ _).1 aJ),?_⟩;rw[Wx]; exact E2 g _
 ·rw[if_neg aB]; exact⟨fun t aJ=>(by cases aJ),ato _⟩
noncomputable def sP (g:bc) :ct:=if dm g=0 then ⟨g.ops.l.length,qZ g,od g,o0 g⟩ else c7
noncomputable def v8 (g:bc) :ct:=if dm g=0 then ⟨g.ops.l.length,xa g,u9 g,dW (uF g)⟩ else c7
set_option maxHeartbeats 4000000 in
theorem akO (g:bc) (ar:ei g) :bx Tryz.prog GS 12 [cn g] (.bJ [.aI (fr (sP g)),.int .i64 (dm g)]) :=by
 refine bH Tryz.checked.mixed bD ?_;apply bm Tryz.func12 [];have cJ:=eb g.ids;have b6:=jo g.ops;have dv:cz (.au 11) (bM g.ops)=some (.int .i64 g.ops.l.length) :=by simp[bM]
 have h1:=akU g ar;have ae:=akX g ar;have al:=akP g ar;have cm:=z1 (qZ g);have dk:=vQ (od g);have kH:=Cl (o0 g);unfold cn cV at h1 ae al;simp[cn,cV];refine aW h1 (by simp[aZ,ad.closed,cJ,b6]) ?_;by_cases aB:dm g=0
 ·have aD:sP g=⟨g.ops.l.length,qZ g,od g,o0 g⟩:=by unfold sP; rw[if_pos aB]
  rw[aD];simp[aB,cm,dv,bt];refine aW ae (by simp[aZ,ad.closed,cJ,b6]) ?_;simp[dk,bt];refine aW al (by simp[aZ,ad.closed,cJ,b6]) ?_;simp[kH,bt];exact aK (by rw[aB]; rfl) (kJ _ _)
 ·have aD:sP g=c7:=by unfold sP; rw[if_neg aB]
  rw[aD];simp[aB,cm];exact aK rfl (kJ c7 _)
set_option maxHeartbeats 4000000 in
theorem ahA (g:bc) (ar:ei g) :bx Tryz.prog GS 28 [cn g] (.bJ [.aI (fr (v8 g)),.int .i64 (dm g)]) :=by
 refine bH Tryz.checked.mixed bD ?_;apply bm Tryz.func28 [[[0],[1],[2],[3],[4],[5],[6,4,3,1]]];have cJ:=eb g.ids;have b6:=jo g.ops;have dv:cz (.au 11) (bM g.ops)=some (.int .i64 g.ops.l.length) :=by simp[bM]
 have cO:=In g ar;have h1:=ahL g ar;have ae:=ahQ g ar;have al:=ahD g ar;have cm:=z1 (xa g);have dk:=vQ (u9 g);have kH:=Cl (dW (uF g));unfold cn cV at cO h1 ae al;simp[cn,cV];refine aW cO (by simp[aZ,ad.closed,cJ,b6]) ?_;by_cases aB:dm g=0
 ·have aD:v8 g=⟨g.ops.l.length,xa g,u9 g,dW (uF g)⟩:=by unfold v8; rw[if_pos aB]
  rw[aD];simp[aB];refine aW h1 (by simp[aZ,ad.closed,cJ,b6]) ?_;simp[cm];refine aW ae (by simp[aZ,ad.closed,cJ,b6]) ?_;simp[dk,cm,dv];refine aW al (by simp[aZ,ad.closed,cJ,b6]) ?_;simp[cm,dk,kH,dv,bt];exact aK (by rw[aB]; rfl) (kJ _ _)
 ·have aD:v8 g=c7:=by unfold v8; rw[if_neg aB]
  rw[aD];simp[aB];refine aW cO (by simp[aZ,ad.closed,cJ,b6]) ?_;simp;exact aK rfl (kJ c7 _)
theorem QY {g:bc} (ar:ei g) :kv (sP g) (v8 g)=true:=by
 unfold sP v8;by_cases aB:dm g=0
 ·rw[if_pos aB,if_pos aB];unfold kv o0;simp only[agP ar,agN ar,if_pos aB,decide_true,atK]
 ·rw[if_neg aB,if_neg aB]; simp[kv]
def hi (g:bc) (l:List (List B)) (i:Nat) :Bool:=decide (b2 l i∈g.ids.l)&&(!decide (b2 l i∈l.take i)&&mH (l.take i) (nU g (b2 l i)).1.br.l)
def oa (g:bc) (l:List (List B)) :Bool:=decide (l.length=g.ids.l.length)&&decide (∀ i,i<l.length->hi g l i=true)
theorem Mh (a:List (List B)) {k:Nat} (h:k<=a.length) :gS (.au 32) (aN (some a)) none (some (.int .i64 (k:Int))) none=some (aN (some (a.take k))) :=by
 exact Wu (z:=32) (enc:=aQ) (l:=a) (k:=.i64) (i:=(k:Int)) (by omega) (by omega)
theorem aft {g:bc} {l:List (List B)} {k:Nat} (hk:k<l.length) (h:hi g l k=false) :oa g l=false:=by
 unfold oa;rw[decide_eq_false (p:=∀ i,i<l.length->hi g l i=true) fun aH=>by rw[aH k hk] at h; cases h]; simp
theorem TX {g:bc} {l:List (List B)} (h1:l.length=g.ids.l.length) (h:∀ j,j<l.length->hi g l j=true) :oa g l=true:=by
 unfold oa; rw[decide_eq_true h1,decide_eq_true h]; rfl
set_option maxHeartbeats 8000000 in
theorem ahG (g:bc) (ar:ei g) (aB:dm g=0) (s:dM) (ak:fo s) (db:s.l.length<=1000000) :bx Tryz.prog GS 72 [cn g,aN s] (.bool (oa g s.l)) :=by
 refine bH Tryz.checked.mixed bD ?_;apply bm Tryz.func72 [];have V:=kX aB;have Lq:=ar.li;have cJ:=eb g.ids;have b6:=jo g.ops;have g5:cz (.au 32) (aN g.ids)=some (.int .i64 g.ids.l.length) :=by simp[aN]
 have gl:cz (.au 32) (aN s)=some (.int .i64 s.l.length) :=by simp[aN]
 by_cases h1:s.l.length=g.ids.l.length
 ·have c3:(s.l.length:Int)=g.ids.l.length:=by omega
  simp[cn,cV,g5,gl,h1,c3];refine cw s.l.length (fun k af l=>l=[.cells 2 [aN g.ids,bM g.ops]]/\af 1=aN s/\af 2=.ptr 0 0 2/\af 5=.int .i64 k/\∀ j,j<k->hi g s.l j=true) ?_ (by simp);rintro k af l hk ⟨rfl,aL,aT,bf,ay⟩;obtain⟨af,rfl⟩:=kb aL aT bf;clear aL aT bf;simp[gl];refine g8 (fun h=>?_) (fun h=>?_)
  ·simp only[decide_eq_true_eq] at h;cases s with
   | none=>simp at h
   | some a=>
    simp only[dg.tt] at *
    obtain⟨x,ai,cE⟩:=bu (l:=a) (k:=k) h;have iD:=ak x cE;have a2:=cA iD;have fI:=eP x;have aR:IntKind.i64.wrap ((k:Int)+1)=((k+1:Nat) :Int) :=by rw[IntKind.wrap_i64]; omega
    have bG:cd (.au 32) (aN (some a)) (.int .i64 (k:Int))=some (.b0 (aQ x) 0) :=by simp[aN,ai]
    have Hd:=Mh a (k:=k) (by omega);have rM:=eb (some (a.take k));have G0:fo (some (a.take k)) :=fun z av=>ak z (asz av)
    have mh:(dg.l (some (a.take k))).length<=1000000:=by show (a.take k).length<=_; rw[asc]; omega
    have eB:=Im g.ids ar.ids ar.li x iD;have cZ:=zl (some (a.take k)) G0 mh x iD;have da:hi g a k=(decide (x∈g.ids.l)&&(!decide (x∈a.take k)&&mH (a.take k) (nU g x).1.br.l)) :=by unfold hi; rw[fJ ai]
    have mc:hi g a k=false->oa g a=false:=aft h;by_cases hm:x∈g.ids.l
    ·obtain⟨i,ax⟩:=ar6.1 hm;obtain⟨o,aq,ds⟩:=bu (l:=g.ops.l) (k:=i) (by rw[<-V.len]; exact (arY.1 ax).1);have hZ:=ar.ops o ds;have fC:=Ny g ar (m3 V.ea) ax aq;have fg:=Nv (some (a.take k)) G0 mh o.br hZ.ids hZ.len;rw[rA V ax aq,decide_eq_true hm,asM] at da;have wA:¬ (hv x g.ids.l 0<0) :=by have:=(r2 x g.ids.l 0).2 hm; omega
     have ix:=eb o.br;have bO:(a1 o).length=11:=rfl;have gC:∀ h,(a1 o)[1]'h=aN o.br:=fun _=>rfl
     obtain⟨X,b3⟩:∃ X,X=aQ x:=⟨_,rfl⟩
     obtain⟨O,dn⟩:∃ O,O=a1 o:=⟨_,rfl⟩
     rw[<-b3] at bG a2 fI eB cZ fC;rw[<-dn] at fC bO gC;unfold cn cV at fC;simp only[dg.tt] at cZ fg;simp[bG,a2,arX];refine aW eB (by simp[aZ,ad.closed,cJ,fI]) ?_;simp[wA,bG,a2,Hd,arX];refine aW cZ (by simp[aZ,ad.closed,rM,fI]) ?_;by_cases al:x∈a.take k
     ·rw[decide_eq_true al] at da;have aD:=mc da;simp[al];exact aK (congrArg ad.bool aD.symm) rfl
     ·rw[decide_eq_false al] at da;simp[al,bG,a2,Hd,arX];refine aW fC (by simp[aZ,ad.closed,cJ,b6,fI]) ?_;simp[bO,gC];refine aW fg (by simp[aZ,ad.closed,rM,ix]) ?_;cases aE:mH (a.take k) o.br.l with
      | true=>
       rw[aE] at da;simp[aR];refine⟨h,fun j aj=>?_⟩;by_cases fB:j=k
       ·rw[fB,da]; rfl
       ·exact ay j (by omega)
      | false=>
       rw[aE] at da;have aD:=mc da;simp;exact aK (congrArg ad.bool aD.symm) rfl
    ·rw[decide_eq_false hm,asN] at da;have aD:=mc da;have wA:hv x g.ids.l 0<0:=Decidable.byContradiction fun h=>hm ((r2 x g.ids.l 0).1 (by omega))
     obtain⟨X,b3⟩:∃ X,X=aQ x:=⟨_,rfl⟩
     rw[<-b3] at bG a2 fI eB;simp[bG,a2,arX];refine aW eB (by simp[aZ,ad.closed,cJ,fI]) ?_;simp[wA];exact aK (congrArg ad.bool aD.symm) rfl
  ·simp[h];have fR:k=s.l.length:=by simp at h; omega
   rw[fR] at ay;exact aK (congrArg ad.bool (TX h1 ay).symm) rfl
 ·have c3:¬ (s.l.length:Int)=g.ids.l.length:=by omega
  simp[cn,cV,g5,gl,c3];exact aK (by unfold oa; rw[decide_eq_false h1]; rfl) rfl
structure ou (s:ct) (k:Nat) :Prop where
 ok:sD s
 eU:s.eU=(k:Int)
 am:s.cP.l.length<=k
 aF:s.cP.l.Nodup
 pQ:s.dG.l.length<=k
theorem Od:ou c7 0:=⟨D6,rfl,by simp[c7],List.Pairwise.nil,by simp[c7]⟩
theorem ajw {l:List (List B)} (h:l.Nodup) :(xt l).Nodup:=by rw[<-Oc h]; exact (auY l _).nodup_iff.2 h
theorem ah3 (s:gp) (o:bq) :(hB s o).1.l.length<=s.l.length+1:=by
 rw[<-(Ip s o).1];unfold iG;split
 ·split
  ·split
   ·simp
   ·rw[xl];unfold eS;split
    ·unfold jd;split
     ·split
      ·simp
      ·omega
     ·rw[ti]; omega
    ·omega
  ·simp
 ·simp
theorem QB {s:ct} {k:Nat} (ak:ou s k) (hk:k<60) {g:bc} (ar:ei g) (aB:dm g=0) {x:List B} (ai:x.length=32) (ao:(js s g x).2=0) :ou (js s g x).1 (k+1) :=by
 have V:=kX aB;unfold js at ao ⊢;by_cases hm:x∈g.ids.l
 ·rw[if_pos hm] at ao ⊢;obtain⟨i,ax⟩:=ar6.1 hm;obtain⟨o,aq,ds⟩:=bu (l:=g.ops.l) (k:=i) (by rw[<-V.len]; exact (arY.1 ax).1);have hZ:=ar.ops o ds;rw[rA V ax aq] at ao ⊢;by_cases h1:x∈s.cP.l
  ·rw[if_pos h1] at ao; cases ao
  ·rw[if_neg h1] at ao ⊢;by_cases ae:s.eU=60
   ·rw[if_pos ae] at ao; cases ao
   ·rw[if_neg ae] at ao ⊢;unfold v7 at ao ⊢;obtain⟨b,ag⟩:∃ b,b=dW (eu g (ru g.ids.l x)) :=⟨_,rfl⟩
    rw[<-ag] at ao ⊢;by_cases al:(io s.set o b).2=0
    ·rw[if_pos al] at ao ⊢;by_cases aE:(hB s.dG o).2=0
     ·rw[if_pos aE] at ao ⊢;have ww:(s.cP.l.filter (hx o)++[x]).Nodup:=by
       refine ath.2 ⟨ak.aF.sublist atT,by simp,fun p aC q bd=>?_⟩;rw[asl.1 bd];exact fun e=>h1 (by rw[<-e]; exact (as6.1 aC).1)
      have ce:=YC s.set o b ak.ok.set ak.ok.ls;have bI:=ah4 s.dG o ak.ok.dG (by have:=ak.pQ; omega) hZ;have jD:(qt s.cP.l o x).length<=k+1:=by
       show (xt _).length<=_;rw[N9 (ar0 _),asa];have:=atc (hx o) s.cP.l;have:=ak.am;simp; omega
      refine⟨⟨?_,?_,?_,?_,?_,?_⟩,?_,jD,ajw ww,?_⟩
      ·show gW (io s.set o b).1.l; rw[<-(Jm s.set o b).1]; exact ce.1
      ·show hj (hB s.dG o).1.l; rw[<-(Ip s.dG o).1]; exact bI.1
      ·intro z av;have jA:z∈xt (s.cP.l.filter (hx o)++[x]) :=av;rw[zq (ar0 _),asx] at jA;rcases asu.1 jA with e | e
       ·exact ak.ok.cP z (as6.1 e).1
       ·rw[asl.1 e]; exact ai
      ·show (io s.set o b).1.l.length<=_; rw[<-(Jm s.set o b).1]; exact ce.2
      ·show (hB s.dG o).1.l.length<=_; rw[<-(Ip s.dG o).1]; exact bI.2
      ·show (qt s.cP.l o x).length<=_; omega
      ·show s.eU+1=_; rw[ak.eU]; omega
      ·have:=ah3 s.dG o;have:=ak.pQ;show (hB s.dG o).1.l.length<=_; omega
     ·rw[if_neg aE] at ao; exact absurd ao aE
    ·rw[if_neg al] at ao; exact absurd ao al
 ·rw[if_neg hm] at ao; cases ao
theorem aaI {s:ct} {g:bc} {x:List B} (ao:(js s g x).2≠0) :(js s g x).1=c7:=by
 unfold js at ao ⊢;split
 ·rename_i hm;rw[if_pos hm] at ao;split
  ·rfl
  ·rename_i h1;rw[if_neg h1] at ao;split
   ·rfl
   ·rename_i ae;rw[if_neg ae] at ao;unfold v7 at ao ⊢;split
    ·rename_i al;rw[if_pos al] at ao;split
     ·rename_i aE;rw[if_pos aE] at ao; exact absurd rfl ao
     ·rfl
    ·rfl
 ·rfl
noncomputable def jc (g:bc) (l:List (List B)) :Nat->ct × Int
 | 0=>(c7,0)
 | k+1=>if (jc g l k).2=0 then js (jc g l k).1 g (b2 l k) else jc g l k
theorem V8 {g:bc} {l:List (List B)} {k:Nat} (h:(jc g l k).2≠0) :∀ d,jc g l (k+d)=jc g l k
 | 0=>rfl
 | d+1=>by
  have aO:=V8 h d;have e:jc g l (k+(d+1))=if (jc g l (k+d)).2=0 then js (jc g l (k+d)).1 g (b2 l (k+d)) else jc g l (k+d) :=rfl
  rw[e,aO,if_neg h]
noncomputable def nS (g:bc) (l:List (List B)) :ct × Int:=if dm g=0 then (if oa g l=true then jc g l l.length else (c7,32)) else (c7,dm g)
set_option maxHeartbeats 8000000 in
theorem ahS (g:bc) (ar:ei g) (s:dM) (ak:fo s) (db:s.l.length<=1000000) :bx Tryz.prog GS 30 [cn g,aN s] (.bJ [.aI (fr (nS g s.l).1),.int .i64 (nS g s.l).2]) :=by
 refine bH Tryz.checked.mixed bD ?_;apply bm Tryz.func30 [[[0],[1],[2],[3],[4],[5],[10],[6,10],[7],[8],[9]]];have cJ:=eb g.ids;have b6:=jo g.ops;have cb:=eb s;have cO:=In g ar;have gl:cz (.au 32) (aN s)=some (.int .i64 s.l.length) :=by simp[aN]
 unfold cn cV at cO;simp[cn,cV];refine aW cO (by simp[aZ,ad.closed,cJ,b6]) ?_;by_cases aB:dm g=0
 ·have yy:=ahG g ar aB s ak db;have V:=kX aB;unfold cn cV at yy;simp[aB];refine aW yy (by simp[aZ,ad.closed,cJ,b6,cb]) ?_;cases h1:oa g s.l with
  | false=>
   have aD:nS g s.l=(c7,32) :=by unfold nS; rw[if_pos aB,if_neg (by rw[h1]; simp)]
   rw[aD];simp;exact aK rfl (kJ c7 _)
  | true=>
   have aD:nS g s.l=jc g s.l s.l.length:=by unfold nS; rw[if_pos aB,if_pos h1]
   have yH:s.l.length<=60:=by
    unfold oa at h1;rw[ar3,decide_eq_true_eq] at h1;rw[h1.1,V.len]; exact V.n60
   rw[aD];simp;refine cw s.l.length (fun k af l=>af 1=aN s/\af 2=.ptr 0 0 2/\af 4=.ptr 1 0 4/\af 6=.ptr 2 0 4/\af 7=.int .i64 k/\((jc g s.l k).2=0/\ou (jc g s.l k).1 k)/\∃ rest,l=.cells 2 [aN g.ids,bM g.ops] ::.cells 4 [.int .i64 0,.aV,.aV,.aV] ::.cells 4 (fr (jc g s.l k).1) ::rest) ?_ ⟨by simp,by simp,by simp,by simp,by simp,⟨rfl,Od⟩,[],rfl⟩;rintro k af l hk ⟨aL,aT,bp,bT,dh,⟨ao,b1⟩,rest,rfl⟩;obtain⟨af,rfl⟩:=ky aL aT bp bT dh;clear aL aT bp bT dh;simp[gl];refine g8 (fun h=>?_) (fun h=>?_)
   ·simp only[decide_eq_true_eq] at h;obtain⟨x,ai,cE⟩:=bu (l:=s.l) (k:=k) (by omega);have iD:=ak x cE;have a2:=cA iD;have fI:=eP x;have aR:IntKind.i64.wrap ((k:Int)+1)=((k+1:Nat) :Int) :=by rw[IntKind.wrap_i64]; omega
    have bG:cd (.au 32) (aN s) (.int .i64 (k:Int))=some (.b0 (aQ x) 0) :=by simp[aN,ai]
    obtain⟨S,i4⟩:∃ S,S=jc g s.l k:=⟨_,rfl⟩
    rw[<-i4] at ao b1;have hg:jc g s.l (k+1)=js S.1 g x:=by show (if _ then _ else _)=_; rw[<-i4,if_pos ao,fJ ai]
    have mU:=ah5 S.1 b1.ok (by rw[b1.eU]; omega) (by rw[b1.eU]; omega) (by have:=b1.am; omega) b1.aF g ar aB x iD;obtain⟨F,lG⟩:∃ F,F=js S.1 g x:=⟨_,rfl⟩
    rw[<-lG] at mU hg;obtain⟨C,iw⟩:∃ C,C=fr S.1:=⟨_,rfl⟩
    obtain⟨D,gc⟩:∃ D,D=fr F.1:=⟨_,rfl⟩
    obtain⟨X,b3⟩:∃ X,X=aQ x:=⟨_,rfl⟩
    have kM:C.length=4:=by rw[iw]; rfl
    have gU:D.length=4:=by rw[gc]; rfl
    have CU:aZ C=true:=by rw[iw]; exact xV _
    rw[<-iw,<-gc,<-b3] at mU;rw[<-b3] at bG a2 fI;rw[<-i4,<-iw];unfold cn cV at mU;have mo:bt [ad.int .i64 0,.aV,.aV,.aV] 0 D=D:=ek (by rw[gU]; rfl);have wN:bt C 0 D=D:=ek (by rw[gU,kM]);simp[bG,a2,kM,arX];refine aW mU (by simp[aZ,ad.closed,CU,cJ,b6,fI]) ?_;by_cases aU:F.2=0
    ·simp[aU,gU,mo,wN,aR,arX];rw[hg];exact⟨h,⟨aU,by rw[lG]; exact QB b1 (by omega) ar aB iD (by rw[<-lG]; exact aU)⟩,gc⟩
    ·simp[aU,gU,mo];have Dz:=V8 (g:=g) (l:=s.l) (k:=k+1) (by rw[hg]; exact aU) (s.l.length - (k+1));rw[show k+1+(s.l.length - (k+1))=s.l.length by omega,hg] at Dz;have Kz:F.1=c7:=by rw[lG]; exact aaI (by rw[<-lG]; exact aU)
     rw[Dz,Kz];exact aK rfl (kJ c7 _)
   ·have fR:k=s.l.length:=by simp at h; omega
    obtain⟨C,iw⟩:∃ C,C=fr (jc g s.l k).1:=⟨_,rfl⟩
    have kM:C.length=4:=by rw[iw]; rfl
    have wN:bt [ad.int .i64 0,.aV,.aV,.aV] 0 C=C:=ek (by rw[kM]; rfl);rw[<-iw];simp[h,kM,wN,arX];rw[fR] at ao iw;exact aK (by rw[iw,ao]) (kJ _ _)
 ·have aD:nS g s.l=(c7,dm g) :=by unfold nS; rw[if_neg aB]
  rw[aD];simp[aB];refine aW cO (by simp[aZ,ad.closed,cJ,b6]) ?_;simp;exact aK rfl (kJ c7 _)
def p0 (l l' : ap) :Prop:=l.length<=l'.length/\∀ b,b<l.length->l'[b]? = l[b]?
theorem p0.refl (l:ap) :p0 l l:=⟨ar0 _,fun _ _=>rfl⟩
theorem p0.trans {l m n:ap} (h:p0 l m) (ae:p0 m n) :p0 l n:=⟨ati h.1 ae.1,fun b ag=>by rw[ae.2 b (atB ag h.1),h.2 b ag]⟩
def I4 (f:FuncId) (vP:List ad) (l:ap) (xs:List (List B)) (c:List B->Bool) :Prop:=
 ∀ p∈xs,∀ l1,p0 l l1->∀ K:ad->ap->Prop,(∀ bQ,p0 l1 bQ->K (.bool (c p)) bQ)->dr Tryz.prog GS f (.aI (aQ p) ::vP) l1 (c:=⟨K⟩)
theorem afT (a:List (List B)) (i:Nat) (ax:i<=a.length) (az:∀ z∈a,z.length=32) (hf:a.length<=1000000) {l:ap} {bo Fa:Nat} (h1:l[bo]? = some (.cells 1 [aN (some a)])) (ae:l[Fa]? = some (.cells 1 [.int .i64 (i:Int)])) (xs:List (List B)) (ai:∀ p∈xs,p.length=32) :
  I4 69 [.ptr bo 0 1,.ptr Fa 0 1] l xs (fun p=>!decide (p∈a.take i)) :=by
 intro p aC l1 ao K bl;apply bm Tryz.func69 [];have iN:=ai p aC;have gL:=cA iN;have LL:=eP p;have q1:l1[bo]? = some (.cells 1 [aN (some a)]) :=by rw[ao.2 _ (e7 h1)]; exact h1
 have dE:l1[Fa]? = some (.cells 1 [.int .i64 (i:Int)]) :=by rw[ao.2 _ (e7 ae)]; exact ae
 have aL:∀ c:aY,(l1++[c])[bo]? = some (.cells 1 [aN (some a)]) :=fun c=>by rw[arZ (e7 q1)]; exact q1
 have aT:∀ c:aY,(l1++[c])[Fa]? = some (.cells 1 [.int .i64 (i:Int)]) :=fun c=>by rw[arZ (e7 dE)]; exact dE
 have rM:=eb (some (a.take i));have db:=Mh a ax;have cZ:=ER (some (a.take i)) (fun z av=>az z (asz av)) (by show (a.take i).length<=_; rw[asc]; omega) p iN;simp[aL,aT,db,gL,arX];refine aW cZ (by simp[aZ,ad.closed,rM,LL]) ?_;simp;exact bl _ ⟨by simp,fun b ag=>arZ ag⟩
theorem ae2 (s:dM) (ak:fo s) (db:s.l.length<=1000000) {f:FuncId} {vP:List ad} {c:List B->Bool} (aD:iv Tryz.prog f=true) {l:ap} (h:I4 f vP l s.l c) {K:ad->ap->Prop}
  (bl:∀ (n:Int) l',p0 l l'->(0<=n<->s.l.any c=true)->K (.int .i64 n) l') :dr Tryz.prog GS 117 [aN s,.fn f [] vP] l (c:=⟨K⟩) :=by
 apply bm Tryz.func117 [];have gl:cz (.au 32) (aN s)=some (.int .i64 s.l.length) :=by simp[aN]
 simp[gl];refine cw s.l.length (fun k af l1=>af 0=aN s/\af 1=.fn f [] vP/\af 7=.int .i64 s.l.length/\af 8=.int .i64 k/\p0 l l1/\∀ j y,j<k->s.l[j]? = some y->c y=false) ?_ ⟨by simp,by simp,by simp,by simp,p0.refl _,fun j _ aj=>by omega⟩;rintro k af l1 hk ⟨cg,aL,dh,de,ao,dY⟩;obtain⟨af,rfl⟩:=jh cg aL dh de;clear cg aL dh de;simp;refine g8 (fun ae=>?_) (fun ae=>?_)
 ·simp only[decide_eq_true_eq] at ae;obtain⟨x,ai,cE⟩:=bu (l:=s.l) (k:=k) (by omega);have a2:=cA (ak x cE);have aR:IntKind.i64.wrap ((k:Int)+1)=((k+1:Nat) :Int) :=by rw[IntKind.wrap_i64]; omega
  have bG:cd (.au 32) (aN s) (.int .i64 (k:Int))=some (.b0 (aQ x) 0) :=by simp[aN,ai]
  have hr:=h x cE l1 ao;obtain⟨X,b3⟩:∃ X,X=aQ x:=⟨_,rfl⟩
  rw[<-b3] at bG a2 hr;simp[bG,a2,arX];refine⟨aD,hr _ fun bQ nq=>?_⟩;cases ah:c x with
  | true=>
   simp;exact bl _ _ (ao.trans nq) ⟨fun _=>avo.2 ⟨x,cE,ah⟩,fun _=>by omega⟩
  | false=>
   simp[aR];refine⟨ae,ao.trans nq,fun j y aj ay=>?_⟩;by_cases fB:j=k
   ·rw[fB,ai] at ay; obtain rfl:=Option.some.inj ay; exact ah
   ·exact dY j y (by omega) ay
 ·simp[ae];have fR:k=s.l.length:=by simp at ae; omega
  refine bl _ _ ao ⟨fun h=>by omega,fun h=>?_⟩;obtain⟨y,ay,kq⟩:=avo.1 h;obtain⟨j,aj⟩:=ar6.1 ay;rw[dY j y (by rw[fR]; exact (arY.1 aj).1) aj] at kq; cases kq
theorem ZO (s:dM) (ak:fo s) (db:s.l.length<=1000000) {f:FuncId} {vP:List ad} {c:List B->Bool} (aD:iv Tryz.prog f=true) {l:ap} (h:I4 f vP l s.l c) {K:ad->ap->Prop}
  (bl:∀ l',p0 l l'->K (.bool (s.l.any c)) l') :dr Tryz.prog GS 71 [aN s,.fn f [] vP] l (c:=⟨K⟩) :=by
 apply bm Tryz.func71 [];simp;refine ae2 s ak db aD h fun n l' ao aF=>?_
 simp;have:decide (0<=n)=s.l.any c:=by
  rw[auc,decide_eq_true_eq]; exact aF
 rw[this];exact bl _ ao
theorem BF (s t:ct) :kv s t=true<->s.eU=t.eU/\s.set.l=t.set.l/\s.dG.l=t.dG.l/\s.cP.l=t.cP.l:=by
 unfold kv;simp only[ar3,decide_eq_true_eq]
theorem YB {s t:eO} (h:s.l=t.l) (o:bq) (b:dM) :io s o b=io t o b:=by rw[<-Pr s,<-Pr t,h]
theorem ah2 {s t:gp} (h:s.l=t.l) (o:bq) :hB s o=hB t o:=by rw[<-VM s,<-VM t,h]
theorem aaH {s t:ct} (h:kv s t=true) (g:bc) (x:List B) :js s g x=js t g x:=by
 obtain⟨h1,ae,al,aE⟩:=(BF s t).1 h;unfold js v7;rw[h1,aE,YB ae,ah2 al]
theorem ajB {s t:ct} {k:Nat} (h:kv s t=true) (ak:ou s k) :ou t k:=by
 obtain⟨h1,ae,al,aE⟩:=(BF s t).1 h;refine⟨⟨by rw[<-ae]; exact ak.ok.set,by rw[<-al]; exact ak.ok.dG,fun z av=>ak.ok.cP z (by rw[aE]; exact av),by rw[<-ae]; exact ak.ok.ls,by rw[<-al]; exact ak.ok.DW,by rw[<-aE]; exact ak.ok.DT⟩,by rw[<-h1]; exact ak.eU,by rw[<-aE]; exact ak.am,by rw[<-aE]; exact ak.aF,by rw[<-al]; exact ak.pQ⟩
theorem QC {s:ct} {k:Nat} (ak:ou s k) {g:bc} (ar:ei g) (aB:dm g=0) {x:List B} (ai:x.length=32) :
  kv (jV s g x).1 (js s g x).1=true/\(jV s g x).2=(js s g x).2:=by
 have wg:kv c7 c7=true:=by simp[kv]
 have V:=kX aB;unfold jV js;by_cases hm:x∈g.ids.l
 ·rw[if_pos hm,if_pos hm];obtain⟨i,ax⟩:=ar6.1 hm;obtain⟨o,aq,ds⟩:=bu (l:=g.ops.l) (k:=i) (by rw[<-V.len]; exact (arY.1 ax).1);rw[rA V ax aq,vU V.ea ax];by_cases ae:x∈s.cP.l
  ·rw[if_pos ae,if_pos ae]; exact⟨wg,rfl⟩
  ·rw[if_neg ae,if_neg ae];by_cases al:s.eU=60
   ·rw[if_pos al,if_pos al]; exact⟨wg,rfl⟩
   ·rw[if_neg al,if_neg al];obtain⟨qm,_⟩:=vE g ar V ax;have iM:g.ids.l.length<=60:=by rw[V.len]; exact V.n60
    have ym:gb s.set o (dW (i0 g i))=gb s.set o (dW (eu g i)) :=Ps _ _ (fun p=>by
     rw[fM,fM];constructor
     ·intro h;obtain⟨j,aj⟩:=ar6.1 (E8 h);exact (qm.mem j p aj).2 ((Ca (m3 V.ea) aj).1 h)
     ·intro h;obtain⟨j,aj⟩:=ar6.1 (qm.sub p h);exact (Ca (m3 V.ea) aj).2 ((qm.mem j p aj).1 h)) (by rw[fM]; have:=E7 g i; omega) (by rw[fM]; have:=qm.len; omega)
    have ww:(s.cP.l.filter (hx o)++[x]).Nodup:=by
     refine ath.2 ⟨ak.aF.sublist atT,by simp,fun p aC q bd=>?_⟩;rw[asl.1 bd];exact fun e=>ae (by rw[<-e]; exact (as6.1 aC).1)
    have wy:uG s o x=qt s.cP.l o x:=Oc ww;have cv:=Jm s.set o (dW (eu g i));have gu:=Ip s.dG o;unfold x7 v7;rw[ym,wy,cv.2,gu.2];by_cases aE:(io s.set o (dW (eu g i))).2=0
    ·rw[if_pos aE,if_pos aE];by_cases aU:(hB s.dG o).2=0
     ·rw[if_pos aU,if_pos aU];exact⟨(BF _ _).2 ⟨rfl,cv.1,gu.1,rfl⟩,rfl⟩
     ·rw[if_neg aU,if_neg aU]; exact⟨wg,rfl⟩
    ·rw[if_neg aE,if_neg aE]; exact⟨wg,rfl⟩
 ·rw[if_neg hm,if_neg hm]; exact⟨wg,rfl⟩
theorem aiP {s t:ct} (h:kv s t=true) :kv t s=true:=by
 obtain⟨h1,ae,al,aE⟩:=(BF s t).1 h;exact (BF t s).2 ⟨h1.symm,ae.symm,al.symm,aE.symm⟩
theorem QD {s:ct} {k:Nat} (ak:ou s k) (hk:k<60) {g:bc} (ar:ei g) (aB:dm g=0) {x:List B} (ai:x.length=32) (ao:(jV s g x).2=0) :ou (jV s g x).1 (k+1) :=by
 obtain⟨h1,ae⟩:=QC ak ar aB ai;exact ajB (aiP h1) (QB ak hk ar aB ai (by rw[<-ae]; exact ao))
noncomputable def eT (g:bc) (l:List (List B)) :Nat->ct × Int
 | 0=>(c7,0)
 | k+1=>if (eT g l k).2=0 then (if hi g l k=true then jV (eT g l k).1 g (b2 l k) else (c7,32)) else eT g l k
theorem Iv {g:bc} {l:List (List B)} {k:Nat} (h:(eT g l k).2≠0) :∀ d,eT g l (k+d)=eT g l k
 | 0=>rfl
 | d+1=>by
  have aO:=Iv h d;have e:eT g l (k+(d+1))=if (eT g l (k+d)).2=0 then (if hi g l (k+d)=true then jV (eT g l (k+d)).1 g (b2 l (k+d)) else (c7,32)) else eT g l (k+d) :=rfl
  rw[e,aO,if_neg h]
theorem aaJ {s:ct} {g:bc} {x:List B} (ao:(jV s g x).2≠0) :(jV s g x).1=c7:=by
 unfold jV at ao ⊢;split
 ·rename_i hm;rw[if_pos hm] at ao;split
  ·rfl
  ·rename_i h1;rw[if_neg h1] at ao;split
   ·rfl
   ·rename_i ae;rw[if_neg ae] at ao;unfold x7 at ao ⊢;split
    ·rename_i al;rw[if_pos al] at ao;split
     ·rename_i aE;rw[if_pos aE] at ao; exact absurd rfl ao
     ·rfl
    ·rfl
 ·rfl
noncomputable def l6 (g:bc) (l:List (List B)) :ct × Int:=if dm g=0 then (if l.length=g.ids.l.length then eT g l l.length else (c7,32)) else (c7,dm g)
theorem aa1:iv Tryz.prog 69=true:=by kernel_rfl
structure Ya (g:bc) (s:dM) (k:Nat) (af:bi) (l:ap) :Prop where
 aT:af 2=.ptr 0 0 2
 a7:af 3=.ptr 1 0 1
 bp:af 4=.ptr 2 0 4
 dh:af 7=.ptr 3 0 4
 sU:af 27=aN s
 Kd:af 28=.int .i64 s.l.length
 Ke:af 29=.int .i64 k
 dK:l[0]? = some (.cells 2 [aN g.ids,bM g.ops])
 q1:l[1]? = some (.cells 1 [aN s])
 dE:l[2]? = some (.cells 4 [.int .i64 0,.aV,.aV,.aV])
 hn:l[3]? = some (.cells 4 (fr (eT g s.l k).1))
 ao:(eT g s.l k).2=0
 b1:ou (eT g s.l k).1 k
set_option maxHeartbeats 8000000 in
theorem akY (g:bc) (ar:ei g) (s:dM) (ak:fo s) (db:s.l.length<=1000000) :bx Tryz.prog GS 29 [cn g,aN s] (.bJ [.aI (fr (l6 g s.l).1),.int .i64 (l6 g s.l).2]) :=by
 refine bH Tryz.checked.mixed bD ?_;apply bm Tryz.func29 [];have cJ:=eb g.ids;have b6:=jo g.ops;have cb:=eb s;have Lq:=ar.li;have cO:=BR g ar;have gl:cz (.au 32) (aN s)=some (.int .i64 s.l.length) :=by simp[aN]
 have g5:cz (.au 32) (aN g.ids)=some (.int .i64 g.ids.l.length) :=by simp[aN]
 have gV:=Cl s;unfold cn cV at cO;simp[cn,cV,gV];refine aW cO (by simp[aZ,ad.closed,cJ,b6]) ?_;by_cases aB:dm g=0
 ·have V:=kX aB;by_cases h1:s.l.length=g.ids.l.length
  ·have c3:(s.l.length:Int)=g.ids.l.length:=by omega
   have aD:l6 g s.l=eT g s.l s.l.length:=by unfold l6; rw[if_pos aB,if_pos h1]
   have mi:=ahX;rw[show fr (⟨0,none,none,none⟩:ct)=[.int .i64 0,.aV,.aV,.aV] from rfl] at mi;have yH:s.l.length<=60:=by rw[h1,V.len]; exact V.n60
   rw[aD];simp[aB,gl,g5,c3];refine aW mi rfl ?_;simp[gl,bt];refine cw s.l.length (Ya g s) ?_ ⟨by simp,by simp,by simp,by simp,by simp,by simp[c3],by simp,by simp,by simp,by simp,by simp[eT]; rfl,rfl,Od⟩;rintro k af l hk ⟨aT,a7,bp,dh,sU,Kd,Ke,dK,q1,dE,hn,ao,b1⟩;obtain⟨af,rfl⟩:=EK aT a7 bp dh sU Kd Ke;clear aT a7 bp dh sU Kd Ke;simp;refine g8 (fun h=>?_) (fun h=>?_)
   ·simp only[decide_eq_true_eq] at h;cases s with
    | none=>simp at h
    | some a=>
     have adv:k<a.length:=h;have aof:a.length<=60:=yH;obtain⟨x,ai,cE⟩:=bu (l:=a) (k:=k) h;have iD:=ak x cE;have a2:=cA iD;have fI:=eP x;have hf:a.length<=1000000:=db;have aR:IntKind.i64.wrap ((k:Int)+1)=((k+1:Nat) :Int) :=by rw[IntKind.wrap_i64]; omega
     have bG:cd (.au 32) (aN (some a)) (.int .i64 (k:Int))=some (.b0 (aQ x) 0) :=by simp[aN,ai]
     have ec:=Qj g ar aB x iD;have qA:4<=l.length:=by have:=e7 hn; omega
     have Hd:=Mh a (k:=k) (by omega);obtain⟨X,b3⟩:∃ X,X=aQ x:=⟨_,rfl⟩
     rw[<-b3] at bG a2 fI ec;have m0:bt (rep 32 (ad.int .u8 0)) 0 X=X:=ek (by rw[a2]; rfl);unfold cn cV at ec;obtain⟨L,dS⟩:∃ L,L=l++[aY.cells 1 [.int .i64 (k:Int)],.cells 32 X] :=⟨_,rfl⟩
     have mR:L.length=l.length+2:=by rw[dS]; simp
     have lY:L[0]? = some (.cells 2 [aN g.ids,bM g.ops]) :=by rw[dS,arZ (by omega)]; exact dK
     have fz:L[1]? = some (.cells 1 [aN (some a)]) :=by rw[dS,arZ (by omega)]; exact q1
     have fp:L[2]? = some (.cells 4 [.int .i64 0,.aV,.aV,.aV]) :=by rw[dS,arZ (by omega)]; exact dE
     have ku:L[3]? = some (.cells 4 (fr (eT g a k).1)) :=by rw[dS,arZ (by omega)]; exact hn
     have aiA:L[l.length]? = some (.cells 1 [.int .i64 (k:Int)]) :=by rw[dS]; simp
     have tL:L[l.length+1]? = some (.cells 32 X) :=by rw[dS]; simp
     have l3:∀ c d:aY,(l++[c,d])[0]? = some (.cells 2 [aN g.ids,bM g.ops]) :=fun c d=>by rw[arZ (by omega)]; exact dK
     have ak8:∀ (c d:aY) (h:0<(l++[c,d]).length),(l++[c,d])[0]'h=.cells 2 [aN g.ids,bM g.ops] :=fun c d h=>(arY.1 (l3 c d)).2
     simp[bG,a2,m0,l3,ak8,arX];rw[<-dS];refine aW ec (by simp[aZ,ad.closed,cJ,b6,fI]) ?_;have eh:∀ c:aY,(L++[c])[1]? = some (.cells 1 [aN (some a)]) :=fun c=>by rw[arZ (by omega)]; exact fz
     have dz:∀ c:aY,(L++[c])[2]? = some (.cells 4 [.int .i64 0,.aV,.aV,.aV]) :=fun c=>by rw[arZ (by omega)]; exact fp
     have EO:∀ c:aY,(L++[c])[l.length]? = some (.cells 1 [.int .i64 (k:Int)]) :=fun c=>by rw[arZ (by omega)]; exact aiA
     have EP:∀ c:aY,(L++[c])[l.length+1]? = some (.cells 32 X) :=fun c=>by rw[arZ (by omega)]; exact tL
     have IP:∀ c:aY,(L++[c])[L.length]? = some c:=fun c=>aul
     have da:hi g a k=(decide (x∈g.ids.l)&&(!decide (x∈a.take k)&&mH (a.take k) (nU g x).1.br.l)) :=by unfold hi; rw[fJ ai]
     obtain⟨S,i4⟩:∃ S,S=eT g a k:=⟨_,rfl⟩
     have gd:(eT g a k).2=0:=ao;have rZ:ou (eT g a k).1 k:=b1;rw[<-i4] at gd rZ ku;have hg:eT g a (k+1)=if hi g a k=true then jV S.1 g x else (c7,32) :=by show (if _ then _ else _)=_; rw[<-i4,if_pos gd,fJ ai]
     have mc:hi g a k=false->eT g a a.length=(c7,32) :=fun e=>by
      rw[e,if_neg (by simp)] at hg;have:=Iv (g:=g) (l:=a) (k:=k+1) (by rw[hg]; simp) (a.length - (k+1));rw[show k+1+(a.length - (k+1))=a.length by omega,hg] at this;exact this
     have KV:hi g a k=false->∀ zK:ap,Rd zK (.bJ [.aI [.int .i64 0,.aV,.aV,.aV],.int .i64 32]) (.bJ [.aI (fr (eT g (dg.l (some a)) (dg.l (some a)).length).1),.int .i64 (eT g (dg.l (some a)) (dg.l (some a)).length).2]) :=fun e zK=>by
      have:=mc e;show Rd zK _ (.bJ [.aI (fr (eT g a a.length).1),.int .i64 (eT g a a.length).2]);rw[this];exact aK rfl (kJ c7 _)
     have Xi:∀ c y:aY,((L++[c]).set 2 y)[2]? = some y:=fun c y=>ar9 (by simp; omega)
     by_cases hm:x∈g.ids.l
     ·obtain⟨i,ax⟩:=ar6.1 hm;obtain⟨o,aq,ds⟩:=bu (l:=g.ops.l) (k:=i) (by rw[<-V.len]; exact (arY.1 ax).1);have hZ:=ar.ops o ds;rw[rA V ax aq,decide_eq_true hm,asM] at da;rw[rA V ax aq];have bO:(a1 o).length=11:=rfl;have gC:∀ h,(a1 o)[1]'h=aN o.br:=fun _=>rfl
      obtain⟨O,dn⟩:∃ O,O=a1 o:=⟨_,rfl⟩
      simp only[<-dn];rw[<-dn] at bO gC;have hs:bt [ad.int .u32 0,.aV,.int .u64 0,.int .u8 0,.str [],.int .u8 0,.int .i64 0,.int .u64 0,.str [],.int .u32 0,.int .u32 0] 0 O=O:=ek (by rw[bO]; rfl);have G0:fo (some (a.take k)) :=fun z av=>ak z (asz av)
      have rM:=eb (some (a.take k));have cZ:=ER (some (a.take k)) G0 (by show (a.take k).length<=_; rw[asc]; omega) x iD;rw[<-b3] at cZ;simp only[dg.tt] at cZ;simp[bO,hs,eh,dz,EO,EP,IP,Hd,a2,arX];refine aW cZ (by simp[aZ,ad.closed,rM,fI]) ?_;by_cases al:x∈a.take k
      ·rw[decide_eq_true al] at da;simp[al,eh,dz,EO,EP,IP,Xi];exact KV da _
      ·rw[decide_eq_false al] at da;have adA:=afT a k (by omega) (fun z av=>ak z av) hf (eh (.cells 11 O)) (EO (.cells 11 O)) o.br.l (fun p aC=>hZ.ids p aC);simp[al,bO,gC,eh,dz,EO,EP,IP,arX];refine ZO o.br hZ.ids hZ.len aa1 adA (fun bQ nq=>?_);have ach:(o.br.l.any fun p=>!decide (p∈a.take k))=!mH (a.take k) o.br.l:=by
        unfold mH;rw[auc,avo,atp,decide_eq_false_iff_not];constructor
        ·rintro⟨p,aC,bd⟩ aH;rw[decide_eq_true (aH p aC)] at bd; cases bd
        ·intro aH;refine Decidable.byContradiction fun aF=>aH fun p aC=>Decidable.byContradiction fun bd=>aF ⟨p,aC,by rw[decide_eq_false bd]; rfl⟩
       rw[ach];have anB:(L++[aY.cells 11 O]).length=L.length+1:=by simp
       have EU:bQ[0]? = some (.cells 2 [aN g.ids,bM g.ops]) :=by rw[nq.2 0 (by omega),arZ (by omega)]; exact lY
       have hp:bQ[1]? = some (.cells 1 [aN (some a)]) :=by rw[nq.2 1 (by omega)]; exact eh _
       have ji:bQ[2]? = some (.cells 4 [.int .i64 0,.aV,.aV,.aV]) :=by rw[nq.2 2 (by omega)]; exact dz _
       have o1:bQ[3]? = some (.cells 4 (fr S.1)) :=by rw[nq.2 3 (by omega),arZ (by omega)]; exact ku
       have als:bQ[l.length+1]? = some (.cells 32 X) :=by rw[nq.2 _ (by omega)]; exact EP _
       have gk:4<=bQ.length:=by have:=nq.1; omega
       have Xu:∀ y:aY,(bQ.set 2 y)[2]? = some y:=fun y=>ar9 (by omega)
       have alq:∀ y:aY,(bQ.set 3 y)[3]? = some y:=fun y=>ar9 (by omega)
       cases aE:mH (a.take k) o.br.l with
       | false=>
        rw[aE] at da;simp[ji,Xu];exact KV da _
       | true=>
        rw[aE] at da;have ad5:hi g a k=true:=by rw[da]; rfl
        rw[ad5,if_pos rfl] at hg;have mU:=aaK S.1 rZ.ok (by rw[rZ.eU]; omega) (by rw[rZ.eU]; omega) (by have:=rZ.am; omega) g ar aB x iD;obtain⟨F,lG⟩:∃ F,F=jV S.1 g x:=⟨_,rfl⟩
        rw[<-lG] at mU hg;obtain⟨C,iw⟩:∃ C,C=fr S.1:=⟨_,rfl⟩
        obtain⟨D,gc⟩:∃ D,D=fr F.1:=⟨_,rfl⟩
        have kM:C.length=4:=by rw[iw]; rfl
        have gU:D.length=4:=by rw[gc]; rfl
        have CU:aZ C=true:=by rw[iw]; exact xV _
        rw[<-iw,<-gc,<-b3] at mU;rw[<-iw] at o1;unfold cn cV at mU;have wN:bt C 0 D=D:=ek (by rw[gU,kM]);simp[EU,o1,als,kM,a2,arX];refine aW mU (by simp[aZ,ad.closed,CU,cJ,b6,fI]) ?_;by_cases aU:F.2=0
        ·simp[aU,o1,gU,kM,wN,aR,arX];refine⟨adv,by simp,by simp,by simp,by simp,by simp,by simp,by simp,?_,?_,?_,?_,?_,?_⟩
         ·rw[ar7 (by omega)]; exact EU
         ·rw[ar7 (by omega)]; exact hp
         ·rw[ar7 (by omega)]; exact ji
         ·show _=some (aY.cells 4 (fr (eT g a (k+1)).1));rw[hg,<-gc]; exact alq _
         ·show (eT g a (k+1)).2=0;rw[hg]; exact aU
         ·show ou (eT g a (k+1)).1 (k+1);rw[hg,lG]; exact QD rZ (by omega) ar aB iD (by rw[<-lG]; exact aU)
        ·have alr:∀ y z:aY,((bQ.set 3 z).set 2 y)[2]? = some y:=fun y z=>ar9 (by simp; omega)
         simp[aU,ji,o1,Xu,alr,gU,kM,wN,arX];have Dz:=Iv (g:=g) (l:=a) (k:=k+1) (by rw[hg]; exact aU) (a.length - (k+1));rw[show k+1+(a.length - (k+1))=a.length by omega,hg] at Dz;have Kz:F.1=c7:=by rw[lG]; exact aaJ (by rw[<-lG]; exact aU)
         show Rd _ _ (.bJ [.aI (fr (eT g a a.length).1),.int .i64 (eT g a a.length).2]);rw[Dz,Kz];exact aK rfl (kJ c7 _)
     ·rw[decide_eq_false hm,asN] at da;have qx:nU g x=(BX,6) :=by unfold nU; rw[if_neg hm]
      rw[qx];have av:a1 BX=[ad.int .u32 0,.aV,.int .u64 0,.int .u8 0,.str [],.int .u8 0,.int .i64 0,.int .u64 0,.str [],.int .u32 0,.int .u32 0] :=rfl;have rO:=mc da;simp only[av];simp[bt,eh,dz,EO,EP,IP,Xi];exact KV da _
   ·have fR:k=s.l.length:=by simp at h; omega
    obtain⟨C,iw⟩:∃ C,C=fr (eT g s.l k).1:=⟨_,rfl⟩
    have kM:C.length=4:=by rw[iw]; rfl
    have wN:bt [ad.int .i64 0,.aV,.aV,.aV] 0 C=C:=ek (by rw[kM]; rfl);have qA:4<=l.length:=by have:=e7 hn; omega
    have ho:∀ y:aY,(l.set 2 y)[2]? = some y:=fun y=>ar9 (by omega)
    rw[<-iw] at hn;simp[h,hn,dE,ho,kM,wN,arX];rw[fR] at ao iw;exact aK (by rw[iw,ao]) (kJ _ _)
  ·have c3:¬ (s.l.length:Int)=g.ids.l.length:=by omega
   have aD:l6 g s.l=(c7,32) :=by unfold l6; rw[if_pos aB,if_neg h1]
   rw[aD];simp[aB,gl,g5,c3];exact aK rfl (kJ c7 _)
 ·have aD:l6 g s.l=(c7,dm g) :=by unfold l6; rw[if_neg aB]
  rw[aD];simp[aB];exact aK rfl (kJ c7 _)
theorem Wa {g:bc} (ar:ei g) (aB:dm g=0) {l:List (List B)} (am:l.length<=60) (ai:∀ z∈l,z.length=32) :∀ {k:Nat},k<=l.length->(∀ i,i<k->hi g l i=true)->
  (kv (eT g l k).1 (jc g l k).1=true/\(eT g l k).2=(jc g l k).2)/\((eT g l k).2=0->ou (eT g l k).1 k)
 | 0,_,_=>⟨⟨by simp[eT,jc,kv],rfl⟩,fun _=>Od⟩
 | k+1,hk,aq=>by
  obtain⟨⟨eg,eK⟩,hO⟩:=Wa ar aB am ai (k:=k) (by omega) fun i ax=>aq i (by omega)
  obtain⟨x,DD,cE⟩:=bu (l:=l) (k:=k) (by omega);have Fy:eT g l (k+1)=if (eT g l k).2=0 then (if hi g l k=true then jV (eT g l k).1 g (b2 l k) else (c7,32)) else eT g l k:=rfl
  have Fx:jc g l (k+1)=if (jc g l k).2=0 then js (jc g l k).1 g (b2 l k) else jc g l k:=rfl
  by_cases h1:(eT g l k).2=0
  ·have ak:=hO h1;rw[if_pos h1,if_pos (aq k (by omega)),fJ DD] at Fy;rw[if_pos (by rw[<-eK]; exact h1),fJ DD,<-aaH eg] at Fx;rw[Fy,Fx];exact⟨QC ak ar aB (ai x cE),fun ao=>QD ak (by omega) ar aB (ai x cE) ao⟩
  ·rw[if_neg h1] at Fy;rw[if_neg (by rw[<-eK]; exact h1)] at Fx;rw[Fy,Fx];exact⟨⟨eg,eK⟩,fun ao=>absurd ao h1⟩
theorem NY {g:bc} (ar:ei g) {l:List (List B)} (ai:∀ z∈l,z.length=32) (h:dm g=0->oa g l=true\/l.length≠g.ids.l.length) :
  kv (l6 g l).1 (nS g l).1=true/\(l6 g l).2=(nS g l).2:=by
 have wg:kv c7 c7=true:=by simp[kv]
 unfold l6 nS;by_cases aB:dm g=0
 ·rw[if_pos aB,if_pos aB];have V:=kX aB;rcases h aB with h1 | h1
  ·have ae:=h1;unfold oa at ae;rw[ar3,decide_eq_true_eq,decide_eq_true_eq] at ae;rw[if_pos ae.1,if_pos h1];exact (Wa ar aB (by rw[ae.1,V.len]; exact V.n60) ai (ar0 _) ae.2).1
  ·have ae:¬ oa g l=true:=fun e=>by
    unfold oa at e;rw[ar3,decide_eq_true_eq] at e;exact h1 e.1
   rw[if_neg h1,if_neg ae]; exact⟨wg,rfl⟩
 ·rw[if_neg aB,if_neg aB]; exact⟨wg,rfl⟩
noncomputable def OO (g:bc) (key:List UInt8) :Nat->Bool
 | 0=>false
 | m+1=>OO g key m||(match g.ops.l[m]?,g.ids.l[m]? with | some o,some x=>decide (o.act.kind=2#8)&&(decide (o.act.key=key)&&!qj g (eu g) key x g.ops.l.length) | _,_=>false)
structure alK (g:bc) (key:List UInt8) (T:eO) (K:B2) (ak:Bool) (k:Nat) (af:bi) (l:ap) :Prop where
 aL:af 1=.str key
 aT:af 2=.ptr 0 0 2
 bf:af 5=.bool true
 de:af 8=.bool ak
 ft:af 10=FD K
 g2:af 12=.bool false
 abm:af 14=.int .i64 k
 tx:∃ v,af 13=v/\cj 1 Ad [.cells 2 [aN g.ids,bM g.ops],.cells 1 [dd T]] l v ((List.range k).map (eu g)) (decide (k=0))
structure alL (g:bc) (key:List UInt8) (K:B2) (ak:Bool) (v:ad) (L:ap) (k:Nat) (af:bi) (l:ap) :Prop where
 aL:af 1=.str key
 aT:af 2=.ptr 0 0 2
 bf:af 5=.bool true
 de:af 8=.bool ak
 ft:af 10=FD K
 g2:af 12=.bool (OO g key k)
 mO:af 13=v
 sR:af 15=.int .i64 k
 e:l=L
structure alM (g:bc) (key:List UInt8) (K:B2) (ak:Bool) (v:ad) (L:ap) (i:Nat) (x:List B) (k:Nat) (af:bi) (l:ap) :Prop where
 aL:af 1=.str key
 aT:af 2=.ptr 0 0 2
 bf:af 5=.bool true
 de:af 8=.bool ak
 ft:af 10=FD K
 g2:af 12=.bool (OO g key i)
 mO:af 13=v
 sR:af 15=.int .i64 i
 qi:af 16=.bool (!qj g (eu g) key x k)
 oD:af 17=.int .i64 k
 e:l=L
structure alN (key:List UInt8) (K:B2) (ak w:Bool) (L:ap) (k:Nat) (af:bi) (l:ap) :Prop where
 aL:af 1=.str key
 bf:af 5=.bool true
 de:af 8=.bool ak
 ft:af 10=FD K
 g2:af 12=.bool w
 sS:af 18=.bool (decide (key∈K.l.take k))
 sT:af 19=.int .i64 k
 e:l=L
structure pa (g:bc) (out:List (List B)) :Prop where
 jG:out.Nodup
 sub:∀ x∈out,x∈g.ids.l
 pre:∀ (i:Nat) (x:List B) (j:Nat),out[i]? = some x->g.ids.l[j]? = some x->∀ p∈dB g.ops.l j,p∈out.take i
theorem ajZ (g:bc) :pa g [] :=⟨avx,fun x h=>by simp at h,fun i x j h=>by simp at h⟩
theorem aj2 {g:bc} (e2:jj g.ids.l) {out:List (List B)} (h:pa g out) {j:Nat} {x:List B} (ai:g.ids.l[j]? = some x) (aF:x∉out) (aC:∀ p∈dB g.ops.l j,p∈out) :pa g (out++[x]) :=by
 refine⟨?_,fun y ay=>?_,fun i y t ax aJ p uL=>?_⟩
 ·rw[ath];exact⟨h.jG,by simp,fun a az b ag e=>by rw[asl] at ag; subst e; rw[ag] at az; exact aF az⟩
 ·rw[asu,asl] at ay;rcases ay with ay | ay
  ·exact h.sub y ay
  ·rw[ay]; exact ar4 ai
 ·by_cases cY:i<out.length
  ·rw[arZ cY] at ax;rw[asm (by omega)];exact h.pre i y t ax aJ p uL
  ·have Dc:i=out.length:=by
    have:=(arY.1 ax).1;simp at this; omega
   subst Dc;rw[ar8 (ar0 _)] at ax;simp at ax;subst ax;rw[e2 t j x aJ ai] at uL;rw[asm (ar0 _),asx];exact aC p uL
theorem WW {g:bc} {out:List (List B)} (h:pa g out) :out.length<=g.ids.l.length:=EB h.jG h.sub
def JF (g:bc) (out:List (List B)) :Nat->List (List B)
 | 0=>[]
 | k+1=>JF g out k++(match g.ids.l[k]? with | some x=>if x∉out/\∀ p∈dB g.ops.l k,p∈out then [x] else [] | none=>[])
def aah (n:Int) :List ad:=[.int .i64 n]
def Qq (s:dg Int) :ad:=cL 1 aah s
structure alD (g:bc) (s:dg Int) (m:Nat) (af:bi) (l:ap) :Prop where
 aL:af 1=Qq s
 aT:af 2=.ptr 0 0 2
 ex:∃ out v,af 5=v/\cj 32 aQ [.cells 2 [aN g.ids,bM g.ops]] l v out out.isEmpty/\pa g out/\m=g.ids.l.length - out.length
structure alC (g:bc) (s:dg Int) (L:ap) (v:ad) (out:List (List B)) (k:Nat) (af:bi) (l:ap) :Prop where
 aL:af 1=Qq s
 aT:af 2=.ptr 0 0 2
 bf:af 5=v
 dh:af 7=.int .i64 k
 ex:∃ w,af 6=w/\cj 32 aQ L l w (JF g out k) (JF g out k).isEmpty
theorem Yu {g:bc} {out:List (List B)} (h:pa g out) {i m:Nat} {y:List B} (ax:out[i]? = some y) (hm:g.ids.l[m]? = some y) :∀ {j:Nat},jP g.ids.l g.ops.l (dB g.ops.l m) j->∀ x,g.ids.l[j]? = some x->x∈out.take i:=by
 intro j aA
 induction aA with
 | start p j aC aj=>
  intro x ai;rw[aj] at ai; obtain rfl:=Option.some.inj ai;exact h.pre i y m ax hm p aC
 | step j2 p j aA aC aj aO=>
  intro x ai;rw[aj] at ai; obtain rfl:=Option.some.inj ai;have bd:∃ q,g.ids.l[j2]? = some q:=by
   cases aA with
   | start bZ _ gy ep=>exact⟨bZ,ep⟩
   | step Me bZ _ lb gy ep=>exact⟨bZ,ep⟩
  obtain⟨q,bd⟩:=bd;have aem:=aO q bd;obtain⟨a,az⟩:=ar6.1 aem;have hf:=(arY.1 az).1;rw[asc] at hf;rw[asf (by omega)] at az;have:=h.pre a q j2 az bd p aC;exact asz (by rw[aty]; rw[asR (by omega)]; exact this:p∈(out.take i).take a)
def BZ (g:bc) (D:List (List B)) (t:bj) :Prop:=∃ (j:Nat) (o:bq) (x:List B),x∈D/\g.ids.l[j]? = some x/\g.ops.l[j]? = some o/\o.act.kind=2#8/\t=⟨o.act.key,x⟩
def I9 (g:bc) (D:List (List B)) (t:bj) :Prop:=∃ (j:Nat) (o:bq) (x:List B),x∈D/\g.ids.l[j]? = some x/\g.ops.l[j]? = some o/\o.act.kind=3#8/\o.act.key=t.key/\t.id∈eu g j
structure zM (g:bc) (out:List (List B)) (k:Nat) (s:eO) :Prop where
 ok:gW s.l
 oE:l8 s.l=true
 len:s.l.length<=k
 mem:∀ t,t∈s.l<->BZ g (out.take k) t/\¬ I9 g (out.take k) t
theorem ajz (g:bc) (out:List (List B)) :zM g out 0 none:=
 ⟨fun t h=>(by cases h),rfl,ar0 _,fun t=>⟨fun h=>(by cases h),fun ⟨⟨j,o,x,ai,_⟩,_⟩=>by simp at ai⟩⟩
theorem Bl {out:List (List B)} {k:Nat} {x y:List B} (hk:out[k]? = some x) :y∈out.take (k+1)<->y∈out.take k\/y=x:=by
 rw[ash,hk,asu]; simp
theorem agB {out:List (List B)} (aF:out.Nodup) {k:Nat} {x:List B} (hk:out[k]? = some x) :x∉out.take k:=fun h=>by
 obtain⟨a,az⟩:=ar6.1 h;have hf:=(arY.1 az).1;rw[asc] at hf;rw[asf (by omega)] at az;obtain⟨h1,ae⟩:=arY.1 hk;obtain⟨al,aE⟩:=arY.1 az;exact atk.1 aF a k al h1 (by omega) (aE.trans ae.symm)
theorem Yo {g:bc} (e2:jj g.ids.l) {out:List (List B)} {k j:Nat} {x:List B} {o:bq} (hk:out[k]? = some x) (ai:g.ids.l[j]? = some x) (aq:g.ops.l[j]? = some o) (t:bj) :BZ g (out.take (k+1)) t<->BZ g (out.take k) t\/(o.act.kind=2#8/\t=⟨o.act.key,x⟩) :=by
 constructor
 ·rintro⟨bK,ck,kf,h1,ae,al,aE,aU⟩;rcases (Bl hk).1 h1 with h | h
  ·exact .inl ⟨bK,ck,kf,h,ae,al,aE,aU⟩
  ·subst h;have:=e2 bK j kf ae ai;subst this;rw[aq] at al; obtain rfl:=Option.some.inj al;exact .inr ⟨aE,aU⟩
 ·rintro (⟨bK,ck,kf,h1,ae⟩ | ⟨h1,ae⟩)
  ·exact⟨bK,ck,kf,(Bl hk).2 (.inl h1),ae⟩
  ·exact⟨j,o,x,(Bl hk).2 (.inr rfl),ai,aq,h1,ae⟩
theorem aim {g:bc} (e2:jj g.ids.l) {out:List (List B)} {k j:Nat} {x:List B} {o:bq} (hk:out[k]? = some x) (ai:g.ids.l[j]? = some x) (aq:g.ops.l[j]? = some o) (t:bj) :I9 g (out.take (k+1)) t<->I9 g (out.take k) t\/(o.act.kind=3#8/\o.act.key=t.key/\t.id∈eu g j) :=by
 constructor
 ·rintro⟨bK,ck,kf,h1,ae,al,aE,aU⟩;rcases (Bl hk).1 h1 with h | h
  ·exact .inl ⟨bK,ck,kf,h,ae,al,aE,aU⟩
  ·subst h;have:=e2 bK j kf ae ai;subst this;rw[aq] at al; obtain rfl:=Option.some.inj al;exact .inr ⟨aE,aU⟩
 ·rintro (⟨bK,ck,kf,h1,ae⟩ | ⟨h1,ae⟩)
  ·exact⟨bK,ck,kf,(Bl hk).2 (.inl h1),ae⟩
  ·exact⟨j,o,x,(Bl hk).2 (.inr rfl),ai,aq,h1,ae⟩
theorem ajA {g:bc} (ar:ei g) (V:kB g) {out:List (List B)} (cM:pa g out) {k j:Nat} {x:List B} {o:bq} {s:eO} (ak:zM g out k s) (hk:out[k]? = some x) (ai:g.ids.l[j]? = some x) (aq:g.ops.l[j]? = some o) :
  ∃ q6,gb s o (dW (eu g j))=(q6,0)/\zM g out (k+1) q6:=by
 have e2:=m3 V.ea;have cH:=(arY.1 hk).1;have yH:=V.n60;have kS:=V.len;have bO:=WW cM;have db:=ak.len;have aB:lr s.l=0:=aaz (by omega) ak.oE;obtain⟨aw,fv⟩:=V.oE j o x aq ai;have h1:=BQ aw;obtain⟨F6,_⟩:=vE g ar V ai;have ae:¬ 60<(dW (eu g j)).l.length:=by rw[fM]; have:=F6.len; omega
 have Gl:=Yo e2 hk ai aq;have n5:=aim e2 hk ai aq;have TB:=agB cM.jG hk;have mr:=ar.ids x (ar4 ai);unfold gb;rw[if_pos aB,if_pos h1,if_neg ae];by_cases bI:o.act.kind=2#8
 ·rw[if_pos bI,fv];have mi:(⟨o.act.key,x⟩:bj)∉s.l:=fun h=>by
   obtain⟨⟨bK,ck,kf,aX,bg,a3,a4,a5⟩,_⟩:=(ak.mem _).1 h;have:x=kf:=congrArg bj.id a5;rw[<-this] at aX;exact TB aX
  have aD:¬ rz s.l ⟨o.act.key,x⟩=true:=fun h=>mi ((Q1 ak.oE).1 h)
  refine⟨some (gf s.l (jp s.l ⟨o.act.key,x⟩) ⟨o.act.key,x⟩),by unfold nL; rw[if_neg aD,if_neg (by omega)],DL ak.ok mr,Rq ak.oE mi (T7 V aq bI),by rw[dg.tt,DK]; omega,fun t=>?_⟩;rw[dg.tt,TN,ak.mem t,Gl t,n5 t];have cS:¬ o.act.kind=3#8:=fun h=>by rw[bI] at h; cases h
  constructor
  ·rintro (h | ⟨aX,bg⟩)
   ·subst h;refine⟨.inr ⟨bI,rfl⟩,fun aH=>?_⟩;rcases aH with ⟨bK,ck,y,dx,di,gA,mI,p6,zP⟩ | aH
    ·obtain⟨i,ax⟩:=ar6.1 dx;have cY:=(arY.1 ax).1;rw[asc] at cY;rw[asf (by omega)] at ax;have aA:=((vE g ar V di).1.mem j x ai).1 zP;have:=Yu cM ax di aA x ai;exact TB (asz (by rw[aty,asR (by omega)]; exact this:x∈(out.take k).take i))
    ·exact cS aH.1
   ·exact⟨.inl aX,fun aH=>aH.elim bg fun aH=>cS aH.1⟩
  ·rintro⟨aX | aX,bg⟩
   ·exact .inr ⟨aX,fun aH=>bg (.inl aH)⟩
   ·exact .inl aX.2
 ·rw[if_neg bI];have RT:∀ t,BZ g (out.take (k+1)) t<->BZ g (out.take k) t:=fun t=>by
   rw[Gl t]; exact⟨fun h=>h.elim id fun h=>absurd h.1 bI,.inl⟩
  by_cases cS:o.act.kind=3#8
  ·rw[if_pos cS];have AZ:(Om (fun l=>l.filter fun t=>!jK o (dW (eu g j)) t) s).l=s.l.filter fun t=>!jK o (dW (eu g j)) t:=by cases s<;>rfl
   refine⟨_,rfl,?_,?_,?_,fun t=>?_⟩
   ·rw[AZ]; exact fun t aJ=>ak.ok t (as6.1 aJ).1
   ·rw[AZ]; exact abA ak.oE
   ·rw[AZ]; have:=atc (fun t=>!jK o (dW (eu g j)) t) s.l; omega
   ·rw[AZ,as6,ak.mem t,RT t,n5 t];have b1:(!jK o (dW (eu g j)) t)=true<->¬ (t.key=o.act.key/\t.id∈eu g j) :=by
     unfold jK;rw[fM];simp;exact⟨fun h az=>h.elim (fun h=>absurd az h) id,fun h=>Classical.or_iff_not_imp_left.2 fun h'=>h (Classical.not_not.1 h')⟩
    rw[b1];constructor
    ·rintro⟨⟨aX,bg⟩,a3⟩;exact⟨aX,fun aH=>aH.elim bg fun aH=>a3 ⟨aH.2.1.symm,aH.2.2⟩⟩
    ·rintro⟨aX,bg⟩;exact⟨⟨aX,fun aH=>bg (.inl aH)⟩,fun aH=>bg (.inr ⟨cS,aH.1.symm,aH.2⟩)⟩
  ·rw[if_neg cS];refine⟨_,rfl,ak.ok,ak.oE,by omega,fun t=>?_⟩;rw[ak.mem t,RT t,n5 t];exact⟨fun ⟨aX,bg⟩=>⟨aX,fun aH=>aH.elim bg fun aH=>cS aH.1⟩,fun ⟨aX,bg⟩=>⟨aX,fun aH=>bg (.inl aH)⟩⟩
end Op

end Go.cf

/-
  Operations applied in any order, each one behind its predecessors: the state behind them (plain).
-/
import Derived.Test.YtobphgccoalchaaGreatDoorRm
set_option linter.unusedVariables false
set_option linter.unusedSimpArgs false
set_option linter.unnecessarySimpa false
namespace Go.cf
open Go Go.Proofs
set_option maxRecDepth 100000
namespace Op
open gZ
def xM (C:bP->Prop) (r:bP) :Prop:=C r/\∀ q,C q->q.key=r.key->jF q r=false
structure vz (C:bP->Prop) (l:List bP) :Prop where
 oE:l7 l=true
 mem:∀ r,r∈l<->xM C r
 all:∀ q,C q->∃ r∈l,r.key=q.key
theorem NJ {C D:bP->Prop} {l:List bP} (h:∀ r,C r<->D r) (am:vz C l) :vz D l:=by
 have:C=D:=funext fun r=>propext (h r)
 rw[<-this]; exact am
theorem ais:vz (fun _=>False) [] :=⟨rfl,fun r=>⟨fun h=>(by cases h),fun h=>h.1.elim⟩,fun q h=>h.elim⟩
theorem ait {C:bP->Prop} {l:List bP} {x:bP} (h:vz C l) (ai:jJ x=true) (fv:∀ q,C q->q.id≠x.id) :vz (fun r=>C r\/r=x) (jd l x) :=by
 have lM:=h.oE;have dq:=h.mem;have ic:=h.all;have gD:=fun r=>Wq lM x r
 have yq:∀ {r},xM C r->x.key≠r.key\/jF x r=false->xM (fun r=>C r\/r=x) r:=fun {r} ⟨h1,al⟩ h=>⟨.inl h1,fun q bd hk=>by
  rcases bd with bd | rfl
  ·exact al q bd hk
  ·exact h.resolve_left fun aF=>aF hk⟩
 have yZ:∀ {r},xM (fun r=>C r\/r=x) r->r=x\/xM C r:=fun {r} ⟨h1,al⟩=>by
  rcases h1 with h1 | h1
  ·exact .inr ⟨h1,fun q bd hk=>al q (.inl bd) hk⟩
  ·exact .inl h1
 have jy:∀ {r},xM (fun r=>C r\/r=x) r->x.key=r.key->jF x r=false:=fun {r} h hk=>h.2 x (.inr rfl) hk
 suffices aH:(∀ r,r∈jd l x<->xM (fun r=>C r\/r=x) r)/\(∀ q,(C q\/q=x)->∃ r∈jd l x,r.key=q.key) from ⟨Rs lM ai,aH.1,aH.2⟩
 by_cases qw:∃ y∈l,y.key=x.key
 ·obtain⟨y,ay,iR⟩:=qw;have b4:=(dq y).1 ay;cases am:jF x y with
  | true=>
   refine⟨fun r=>?_,fun q bd=>?_⟩
   ·rw[(gD r).1 y ay iR am];constructor
    ·rintro (e | ⟨h,h2⟩)
     ·refine⟨.inr e,fun q bd hk=>?_⟩;rw[e] at hk ⊢;rcases bd with bd | bd
      ·cases ev:jF q x with
       | false=>rfl
       | true=>
        have:=b4.2 q bd (by rw[hk,iR]);rw[Uh ev am] at this; cases this
      ·rw[bd]; exact HO _
     ·exact yq ((dq r).1 h) (.inl fun e=>h2 e.symm)
    ·intro h;rcases yZ h with e | e
     ·exact .inl e
     ·refine .inr ⟨(dq r).2 e,fun h2=>?_⟩;have h1:=jy h h2.symm;rw[Am lM ((dq r).2 e) ay (by rw[h2,iR]),am] at h1; cases h1
   ·by_cases e:q.key=x.key
    ·exact⟨x,((gD x).1 y ay iR am).2 (.inl rfl),e.symm⟩
    ·obtain⟨r,aA,h2⟩:=ic q (bd.resolve_right fun h=>e (by rw[h]));exact⟨r,((gD r).1 y ay iR am).2 (.inr ⟨aA,by rw[h2]; exact e⟩),h2⟩
  | false=>
   rw[(gD x).2.1 y ay iR am];refine⟨fun r=>⟨fun h=>yq ((dq r).1 h) ?_,fun h=>?_⟩,fun q bd=>?_⟩
   ·by_cases h2:r.key=x.key
    ·right;rw[Am lM h ay (by rw[h2,iR])]; exact am
    ·exact .inl fun e=>h2 e.symm
   ·rcases yZ h with e | e
    ·exfalso;have aU:=h.2 y (.inl b4.1) (by rw[e]; exact iR);rw[e] at aU;have:=MO (fv y b4.1) aU;rw[am] at this; cases this
    ·exact (dq r).2 e
   ·rcases bd with bd | bd
    ·exact ic q bd
    ·exact⟨y,ay,by rw[bd]; exact iR⟩
 ·have dY:∀ y∈l,y.key≠x.key:=fun y ay e=>qw ⟨y,ay,e⟩
  refine⟨fun r=>?_,fun q bd=>?_⟩
  ·rw[(gD r).2.2 dY];constructor
   ·rintro (e | h)
    ·refine⟨.inr e,fun q bd hk=>?_⟩;rw[e] at hk ⊢;rcases bd with bd | bd
     ·obtain⟨p,aC,yQ⟩:=ic q bd;exact absurd (by rw[yQ,hk]) (dY p aC)
     ·rw[bd]; exact HO _
    ·exact yq ((dq r).1 h) (.inl fun e=>dY r h e.symm)
   ·intro h;rcases yZ h with e | e
    ·exact .inl e
    ·exact .inr ((dq r).2 e)
  ·rcases bd with bd | bd
   ·obtain⟨r,aA,h2⟩:=ic q bd;exact⟨r,((gD r).2.2 dY).2 (.inr aA),h2⟩
   ·exact⟨x,((gD x).2.2 dY).2 (.inl rfl),by rw[bd]⟩
def EW (g:bc) (D:List (List B)) (r:bP) :Prop:=∃ (j:Nat) (o:bq) (x:List B),x∈D/\g.ids.l[j]? = some x/\g.ops.l[j]? = some o/\o.act.kind=4#8/\r=c6 o x
def O0 (g:bc) (D:List (List B)) (x:List B) :Prop:=x∈D/\∀ y∈D,∀ j,g.ids.l[j]? = some y->x∉dB g.ops.l j
theorem ajy {g:bc} {a b:List (List B)} {k:Nat} {s:eO} (h:a.take k=b.take k) (ak:zM g a k s) :zM g b k s:=⟨ak.ok,ak.oE,ak.len,by rw[<-h]; exact ak.mem⟩
structure sx (g:bc) (D:List (List B)) (s:ct) :Prop where
 eU:s.eU=(D.length:Int)
 set:zM g D D.length s.set
 dG:vz (EW g D) s.dG.l
 NL:hj s.dG.l
 pQ:s.dG.l.length<=D.length
 ak:s.cP.l.Pairwise fun a b=>fK a b=true
 hm:∀ x,x∈s.cP.l<->O0 g D x
theorem abg (g:bc) :sx g [] c7:=
 ⟨rfl,ajz g [],NJ (fun r=>⟨fun h=>h.elim,fun ⟨j,o,x,h,_⟩=>by simp at h⟩) ais,fun r h=>(by cases h),ar0 _,List.Pairwise.nil,fun x=>⟨fun h=>(by cases h),fun h=>(by cases h.1)⟩⟩
theorem agb {l:List (List B)} (h:l.Pairwise fun a b=>fK a b=true) :l.Nodup:=h.imp fun {a b} h e=>by subst e; rw[ML] at h; cases h
theorem sx.aF {g:bc} {D:List (List B)} {s:ct} (h:sx g D s) :s.cP.l.Nodup:=agb h.ak
theorem sx.am {g:bc} {D:List (List B)} {s:ct} (h:sx g D s) :s.cP.l.length<=D.length:=EB h.aF fun x ai=>((h.hm x).1 ai).1
theorem sx.st {g:bc} (ar:ei g) {D:List (List B)} (cM:pa g D) {s:ct} (h:sx g D s) (gc:D.length<=1000000) :ou s D.length:=by
 have h1:=h.am;have ae:=h.set.len;have al:=h.pQ;exact⟨⟨h.set.ok,h.NL,fun x ai=>ar.ids x (cM.sub x ((h.hm x).1 ai).1),by omega,by omega,by omega⟩,h.eU,h1,h.aF,h.pQ⟩
theorem aj1 {g:bc} {D:List (List B)} {x:List B} (h:pa g (D++[x])) :pa g D:=by
 refine⟨(ath.1 h.jG).1,fun y ay=>h.sub y (auq _ ay),fun i y j ax aj p aC=>?_⟩;have cY:=(arY.1 ax).1;have:=h.pre i y j (by rw[arZ cY]; exact ax) aj p aC
 rwa [asm (by omega)] at this
theorem aj0 {g:bc} {D:List (List B)} (h:pa g D) {y:List B} (ay:y∈D) {j:Nat} (aj:g.ids.l[j]? = some y) {p:List B} (aC:p∈dB g.ops.l j) :p∈D:=by
 obtain⟨i,ax⟩:=ar6.1 ay;exact asz (h.pre i y j ax aj p aC)
theorem aik {l:List bP} (h:l.length<=60) (ar:l7 l=true) :mB l=0:=by
 unfold mB;rw[if_neg (by omega),if_pos ar]
theorem abh {g:bc} (ar:ei g) (aB:dm g=0) {D:List (List B)} {x:List B} (cM:pa g (D++[x])) {s:ct} (h:sx g D s) :∃ q6,jV s g x=(q6,0)/\sx g (D++[x]) q6:=by
 have V:=kX aB;have e2:=m3 V.ea;have tb:(D++[x])[D.length]? = some x:=by simp
 obtain⟨j,ai⟩:=ar6.1 (cM.sub x (by simp));have hm:=ar4 ai;have mr:=ar.ids x hm;obtain⟨o,aq,ds⟩:=bu (l:=g.ops.l) (k:=j) (by rw[<-V.len]; exact (arY.1 ai).1);have ab7:=aj1 cM;have bn:=WW cM;rw[asa,List.length_singleton] at bn;have yH:=V.n60;have kS:=V.len;have Hl:x∉D:=fun aH=>(ath.1 cM.jG).2.2 x aH x (by simp) rfl
 have TA:x∉s.cP.l:=fun aH=>Hl ((h.hm x).1 aH).1
 obtain⟨aw,fv⟩:=V.oE j o x aq ai;have fC:=BQ aw;have aea:∀ p∈o.br.l,p∈D:=fun p aC=>by
  have:=cM.pre D.length x j tb ai p (by rw[q2 aq]; exact aC)
  rwa [List.take_left] at this
 obtain⟨fZ,rY,i4⟩:=ajA ar V cM (ajy (by rw[List.take_left,asx]) h.set) tb ai aq;obtain⟨qm,_⟩:=vE g ar V ai;have iM:g.ids.l.length<=60:=by omega
 have ym:gb s.set o (dW (i0 g j))=gb s.set o (dW (eu g j)) :=Ps _ _ (fun p=>by
  rw[fM,fM];constructor
  ·intro h;obtain⟨bK,aj⟩:=ar6.1 (E8 h);exact (qm.mem bK p aj).2 ((Ca e2 aj).1 h)
  ·intro h;obtain⟨bK,aj⟩:=ar6.1 (qm.sub p h);exact (Ca e2 aj).2 ((qm.mem bK p aj).1 h)) (by rw[fM]; have:=E7 g j; omega) (by rw[fM]; have:=qm.len; omega)
 have mn:=h.pQ;have iB:eS s.dG.l o x=eS s.dG.l o x:=rfl;have LP:(eS s.dG.l o x).length<=D.length+1/\hj (eS s.dG.l o x)/\vz (EW g (D++[x])) (eS s.dG.l o x) :=by
  have jY:∀ r,EW g (D++[x]) r<->EW g D r\/(o.act.kind=4#8/\r=c6 o x) :=fun r=>by
   constructor
   ·rintro⟨bK,ck,kf,aX,bg,a3,a4,a5⟩;rw[asu,asl] at aX;rcases aX with aX | aX
    ·exact .inl ⟨bK,ck,kf,aX,bg,a3,a4,a5⟩
    ·subst aX;have:=e2 bK j kf bg ai;subst this;rw[aq] at a3; obtain rfl:=Option.some.inj a3;exact .inr ⟨a4,a5⟩
   ·rintro (⟨bK,ck,kf,aX,bg⟩ | ⟨aX,bg⟩)
    ·exact⟨bK,ck,kf,auq _ aX,bg⟩
    ·exact⟨j,o,x,by simp,ai,aq,aX,bg⟩
  unfold eS;by_cases c5:o.act.kind=4#8
  ·rw[if_pos c5];have:=N6 (x:=c6 o x) h.NL ⟨mr,(ar.ops o ds).val⟩;refine⟨by omega,this.1,NJ (fun r=>?_) (ait h.dG (V4 V aq ai c5) fun q ⟨bK,ck,kf,aX,bg,a3,a4,a5⟩ e=>?_)⟩
   ·rw[jY r]; exact⟨fun h=>h.imp id fun h=>⟨c5,h⟩,fun h=>h.imp id fun h=>h.2⟩
   ·rw[a5] at e;have bE:kf=x:=e;rw[bE] at aX; exact Hl aX
  ·rw[if_neg c5];exact⟨by omega,h.NL,NJ (fun r=>by rw[jY r]; exact⟨.inl,fun h=>h.elim id fun h=>absurd h.1 c5⟩) h.dG⟩
 have aA:iG s.dG o=(oU s.dG o,0) :=by
  unfold iG;rw[if_pos (aik (by omega) h.dG.oE),if_pos fC,fv,if_neg (by omega)]
 have ww:(s.cP.l.filter (hx o)++[x]).Nodup:=by
  refine ath.2 ⟨h.aF.sublist atT,by simp,fun p aC q bd=>?_⟩;rw[asl.1 bd];exact fun e=>TA (by rw[<-e]; exact (as6.1 aC).1)
 have wy:uG s o x=xt (s.cP.l.filter (hx o)++[x]) :=Oc ww;refine⟨⟨s.eU+1,fZ,oU s.dG o,some (uG s o x)⟩,?_,?_,?_,?_,?_,?_,?_,?_⟩
 ·unfold jV;have aw:=h.eU;rw[if_pos hm,if_neg TA,if_neg (by omega),rA V ai aq,vU V.ea ai];unfold x7;rw[ym,rY,aA,if_pos rfl,if_pos rfl]
 ·show s.eU+1=_;rw[h.eU,asa]; rfl
 ·rw[asa]; exact i4
 ·show vz _ (oU s.dG o).l;rw[xl,fv]; exact LP.2.2
 ·show hj (oU s.dG o).l;rw[xl,fv]; exact LP.2.1
 ·show (oU s.dG o).l.length<=_;rw[xl,fv,asa]; exact LP.1
 ·show (uG s o x).Pairwise _;rw[wy]; exact Oa DX HN ww (ar0 _)
 ·intro y;show y∈uG s o x<->_;rw[wy,zq (ar0 _),asx,asu,as6,asl,h.hm y,atp,decide_eq_false_iff_not];unfold O0;constructor
  ·rintro (⟨⟨aX,bg⟩,a3⟩ | rfl)
   ·refine⟨auq _ aX,fun z av bK aj=>?_⟩;rw[asu,asl] at av;rcases av with av | av
    ·exact bg z av bK aj
    ·subst av;rw[e2 bK j z aj ai,q2 aq]; exact a3
   ·refine⟨by simp,fun z av bK aj aC=>?_⟩;rw[asu,asl] at av;rcases av with av | av
    ·exact Hl (aj0 ab7 av aj aC)
    ·subst av;rw[e2 bK j z aj ai,q2 aq] at aC;exact Hl (aea z aC)
  ·rintro⟨aX,bg⟩;rw[asu,asl] at aX;rcases aX with aX | aX
   ·exact .inl ⟨⟨aX,fun z av=>bg z (auq _ av)⟩,by rw[<-q2 aq]; exact bg x (by simp) j ai⟩
   ·exact .inr aX
theorem OA {g:bc} (aB:dm g=0) {l:List (List B)}:∀ {k:Nat},k<=l.length->(∀ i,i<k->hi g l i=true)->pa g (l.take k)
 | 0,_,_=>ajZ g
 | k+1,hk,aq=>by
  have V:=kX aB;have aO:=OA aB (k:=k) (by omega) fun i ax=>aq i (by omega)
  obtain⟨x,ai,cE⟩:=bu (l:=l) (k:=k) (by omega);have h1:=aq k (by omega);unfold hi mH at h1;rw[fJ ai,ar3,ar3,atp,decide_eq_true_eq,decide_eq_false_iff_not,decide_eq_true_eq] at h1;obtain⟨ae,al,aE⟩:=h1;obtain⟨j,aj⟩:=ar6.1 ae;obtain⟨o,G1,_⟩:=bu (l:=g.ops.l) (k:=j) (by rw[<-V.len]; exact (arY.1 aj).1);rw[rA V aj G1] at aE;rw[ash,ai];exact aj2 (m3 V.ea) aO aj al (by rw[q2 G1]; exact aE)
theorem NK {g:bc} (ar:ei g) (aB:dm g=0) {l:List (List B)}:∀ {k:Nat},k<=l.length->(∀ i,i<k->hi g l i=true)->∃ s,eT g l k=(s,0)/\sx g (l.take k) s
 | 0,_,_=>⟨c7,rfl,abg g⟩
 | k+1,hk,aq=>by
  obtain⟨s,h1,ae⟩:=NK ar aB (k:=k) (by omega) fun i ax=>aq i (by omega)
  obtain⟨x,ai,cE⟩:=bu (l:=l) (k:=k) (by omega);have cM:=OA aB hk aq;have e:l.take (k+1)=l.take k++[x] :=by rw[ash,ai]; rfl
  rw[e] at cM ⊢;obtain⟨q6,al,aE⟩:=abh ar aB cM ae;refine⟨q6,?_,aE⟩;show (if (eT g l k).2=0 then (if hi g l k=true then jV (eT g l k).1 g (b2 l k) else (c7,32)) else eT g l k)=_;rw[h1,if_pos rfl,if_pos (aq k (by omega)),fJ ai]; exact al
theorem V9 {g:bc} (ar:ei g) (aB:dm g=0) {l:List (List B)} (h:¬ ∀ i,i<l.length->hi g l i=true) :eT g l l.length=(c7,32) :=by
 have yE:∀ n,(∃ k,k<n/\hi g l k=false)->∃ k,k<n/\hi g l k=false/\∀ i,i<k->hi g l i=true:=by
  intro n
  induction n with
  | zero=>rintro⟨k,hk,_⟩; omega
  | succ n aO=>
   rintro⟨k,hk,ag⟩;by_cases ao:∃ k,k<n/\hi g l k=false
   ·obtain⟨k,h1,ae⟩:=aO ao;exact⟨k,by omega,ae⟩
   ·refine⟨k,hk,ag,fun i ax=>?_⟩;cases ev:hi g l i with
    | true=>rfl
    | false=>exact absurd ⟨i,by omega,ev⟩ ao
 obtain⟨k,hk,ag,ac9⟩:=yE l.length (Classical.byContradiction fun aF=>h fun i ax=>by
  cases ev:hi g l i with
  | true=>rfl
  | false=>exact absurd ⟨i,ax,ev⟩ aF)
 obtain⟨s,h1,ae⟩:=NK ar aB (by omega:k<=l.length) ac9;have e:eT g l (k+1)=(c7,32) :=by
  show (if (eT g l k).2=0 then (if hi g l k=true then jV (eT g l k).1 g (b2 l k) else (c7,32)) else eT g l k)=_;rw[h1,if_pos rfl,ag,if_neg (by simp)]
 have:=Iv (g:=g) (l:=l) (k:=k+1) (by rw[e]; simp) (l.length - (k+1));rw[show k+1+(l.length - (k+1))=l.length by omega,e] at this;exact this
theorem aa7 {g:bc} (ar:ei g) {l:List (List B)} (ai:∀ z∈l,z.length=32) :kv (l6 g l).1 (nS g l).1=true/\(l6 g l).2=(nS g l).2:=by
 by_cases aB:dm g=0
 ·by_cases am:l.length=g.ids.l.length
  ·by_cases aq:oa g l=true
   ·exact NY ar ai fun _=>.inl aq
   ·have ae:¬ ∀ i,i<l.length->hi g l i=true:=fun h=>aq (TX am h)
    unfold l6 nS;rw[if_pos aB,if_pos aB,if_pos am,if_neg aq,V9 ar aB ae];exact⟨by simp[kv],rfl⟩
  ·exact NY ar ai fun _=>.inr am
 ·exact NY ar ai fun h=>absurd h aB
theorem UJ {s t:ct} (h:kv s t=true) (ak:sD s) :sD t:=by
 obtain⟨h1,ae,al,aE⟩:=(BF s t).1 h;exact⟨by rw[<-ae]; exact ak.set,by rw[<-al]; exact ak.dG,fun z av=>ak.cP z (by rw[aE]; exact av),by rw[<-ae]; exact ak.ls,by rw[<-al]; exact ak.DW,by rw[<-aE]; exact ak.DT⟩
theorem aa8 {g:bc} (ar:ei g) :sD (sP g) :=by
 unfold sP;by_cases aB:dm g=0
 ·have V:=kX aB;have h1:=agO ar;have ae:=Ei ar V (ar0 _);have aF:=V.n60;have am:=V.len;have aR:(od g).l=hA g g.ops.l.length:=by unfold od; rw[if_pos aB,fM]
  have bE:(o0 g).l=uF g:=by unfold o0; rw[if_pos aB,fM]
  rw[if_pos aB];refine⟨h1.1,by show hj (od g).l; rw[aR]; exact ae.2.1,fun z av=>ar.ids z ?_,by have:=h1.2; show (qZ g).l.length<=_; omega,by show (od g).l.length<=_; rw[aR]; have:=ae.2.2; omega,?_⟩
  ·have qR:z∈(o0 g).l:=av;rw[bE] at qR; exact (as6.1 qR).1
  ·show (o0 g).l.length<=_;rw[bE];have:=atc (qv g) g.ids.l;unfold uF; omega
 ·rw[if_neg aB]; exact D6
theorem aa6 {g:bc} (ar:ei g) (l:List (List B)) :sD (l6 g l).1:=by
 unfold l6;by_cases aB:dm g=0
 ·rw[if_pos aB];by_cases am:l.length=g.ids.l.length
  ·rw[if_pos am];by_cases aq:∀ i,i<l.length->hi g l i=true
   ·obtain⟨s,h1,ae⟩:=NK ar aB (ar0 l.length) aq;have cM:=OA aB (ar0 l.length) aq;rw[h1];have V:=kX aB;have:=V.n60;have:=V.len;rw[asx] at ae cM;exact (ae.st ar cM (by omega)).ok
   ·rw[V9 ar aB aq]; exact D6
  ·rw[if_neg am]; exact D6
 ·rw[if_neg aB]; exact D6
set_option maxHeartbeats 16000000 in
theorem aa9 (g:bc) (ajW:Jf g) (s:dM) (ak:fo s) :
  dr Tryz.prog GS 5 [cn g,aN s] [] (c:=⟨fun r _=>r=.bool true⟩) :=by
 apply bm Tryz.func5 [];have cJ:=eb g.ids;have b6:=jo g.ops;have cb:=eb s;have yb:=ahB g;have gl:cz (.au 32) (aN s)=some (.int .i64 s.l.length) :=by simp[aN]
 unfold cn cV at yb;simp[cn,cV];refine aW yb (by simp[aZ,ad.closed,cJ,b6]) ?_;cases al:we g with
 | true=>simp
 | false=>
  by_cases aE:70<s.l.length
  ·have sW:(70:Int)<(s.l.length:Int) :=by omega
   simp[gl,aE,sW]
  ·have sW:¬ (70:Int)<(s.l.length:Int) :=by omega
   have va:=agR ajW al;have cv:=akO g va;have pk:=ahA g va;have iw:=akY g va s ak (by omega);have gc:=ahS g va s ak (by omega);obtain⟨q1,dE⟩:=aa7 va (l:=s.l) ak;rw[<-dE] at gc;have UA:=aa8 va;have agJ:=UJ (QY va) UA;have UB:=aa6 va s.l;have agK:=UJ q1 UB;have fu:=VI _ _ UA agJ;rw[QY va] at fu;have nY:=VI _ _ UB agK;rw[q1] at nY;obtain⟨e,ao⟩:∃ e,e=dm g:=⟨_,rfl⟩
   obtain⟨f,aD⟩:∃ f,f=(l6 g s.l).2:=⟨_,rfl⟩
   obtain⟨A,ye⟩:∃ A,A=fr (sP g) :=⟨_,rfl⟩
   obtain⟨D,F7⟩:∃ D,D=fr (v8 g) :=⟨_,rfl⟩
   obtain⟨C,F8⟩:∃ C,C=fr (l6 g s.l).1:=⟨_,rfl⟩
   obtain⟨E,Ao⟩:∃ E,E=fr (nS g s.l).1:=⟨_,rfl⟩
   have hK:A.length=4:=by rw[ye]; rfl
   have RB:D.length=4:=by rw[F7]; rfl
   have kM:C.length=4:=by rw[F8]; rfl
   have gU:E.length=4:=by rw[Ao]; rfl
   have nm:aZ A=true:=by rw[ye]; exact xV _
   have abQ:aZ D=true:=by rw[F7]; exact xV _
   have CU:aZ C=true:=by rw[F8]; exact xV _
   have An:aZ E=true:=by rw[Ao]; exact xV _
   rw[<-ao,<-ye] at cv;rw[<-ao,<-F7] at pk;rw[<-aD,<-F8] at iw;rw[<-aD,<-Ao] at gc;rw[<-ye,<-F7] at fu;rw[<-F8,<-Ao] at nY;unfold cn cV at cv pk iw gc;have hN:∀ Z:List ad,Z.length=4->bt [ad.int .i64 0,.aV,.aV,.aV] 0 Z=Z:=fun Z av=>ek (by rw[av]; rfl)
   have anM:∀ a:Bool,gq Tryz.prog .eql 4 (.bool a) (.bool a)=some (.bool true) :=fun a=>by cases a<;>kernel_rfl
   simp[gl,aE,sW];refine aW cv (by simp[aZ,ad.closed,cJ,b6]) ?_;simp[hK,hN];refine aW pk (by simp[aZ,ad.closed,cJ,b6]) ?_;simp[RB,hN];refine aW iw (by simp[aZ,ad.closed,cJ,b6,cb]) ?_;simp[kM,hN];refine aW gc (by simp[aZ,ad.closed,cJ,b6,cb]) ?_;simp[gU,hN,hK,RB,arX];refine aW fu (by simp[aZ,ad.closed,nm,abQ]) ?_;simp[kM,gU,arX];refine aW nY (by simp[aZ,ad.closed,CU,An]) ?_;simp
end Op

end Go.cf

/-
  Graphs: who waits for whom, so far (plain).
-/
import Derived.Test.YtboebmmklamaeaaGreatDoorWk
import Derived.Sort.Walk0
set_option linter.unusedVariables false
set_option linter.unusedSimpArgs false
set_option linter.unnecessarySimpa false
namespace Go.cj
open Go Go.Proofs
set_option maxRecDepth 100000
namespace Op
open g9
def uH (ids:List (List B)) (ops:List bS) (m q a k:Nat) :Nat:=if k<m then (df ops k).count (cb ids a) else if k=m then ((df ops m).take q).count (cb ids a) else 0
structure sF (ids:List (List B)) (ops:List bS) (m q:Nat) (cm:List (List Nat)) :Prop where
 len:cm.length=ops.length
 cnt:∀ (a:Nat) (row:List Nat),cm[a]? = some row->∀ k,row.count k=uH ids ops m q a k
 Aw:∀ (a:Nat) (row:List Nat),cm[a]? = some row->row.length<=5*m+q
theorem amg (ids:List (List B)) (ops:List bS) :sF ids ops 0 0 (List.replicate ops.length []) :=by
 refine⟨by simp,fun a row h k=>?_,fun a row h=>?_⟩
 ·have:=List.eq_of_mem_replicate (List.mem_of_getElem? h);subst this;simp[uH]
 ·have:=List.eq_of_mem_replicate (List.mem_of_getElem? h);subst this;simp
theorem amh {ids:List (List B)} {ops:List bS} (am:iL ids) (ar:ids.length=ops.length) {m q a:Nat} {cm:List (List Nat)} {row:List Nat} {p:List B} (h:sF ids ops m q cm) (aG:(df ops m)[q]? = some p) (aI:ids[a]? = some p) (aD:cm[a]? = some row) :
  sF ids ops m (q+1) (cm.set a (row++[m])) :=by
 have gZ:=(List.getElem?_eq_some_iff.1 aD).1;have tg:=(List.getElem?_eq_some_iff.1 aI).1;have gF:(df ops m).take (q+1)=(df ops m).take q++[p] :=by rw[List.take_add_one,aG]; rfl
 refine⟨by simp[h.len],fun x t6 ak k=>?_,fun x t6 ak=>?_⟩
 ·by_cases i2:x=a
  ·subst i2;rw[List.getElem?_set_self gZ] at ak;obtain rfl:=Option.some.inj ak;rw[List.count_append,h.cnt x row aD k];unfold uH;by_cases h1:k<m
   ·rw[if_pos h1,if_pos h1,List.count_singleton];have:(m == k)=false:=by rw[beq_eq_false_iff_ne]; omega
    simp[this]
   ·rw[if_neg h1,if_neg h1];by_cases ag:k=m
    ·subst ag;rw[if_pos rfl,if_pos rfl,gF,List.count_append,hq aI]; simp
    ·rw[if_neg ag,if_neg ag,List.count_singleton];have:(m == k)=false:=by rw[beq_eq_false_iff_ne]; omega
     simp[this]
  ·rw[List.getElem?_set_ne (Ne.symm i2)] at ak;rw[h.cnt x t6 ak k];unfold uH;by_cases h1:k<m
   ·rw[if_pos h1,if_pos h1]
   ·rw[if_neg h1,if_neg h1];by_cases ag:k=m
    ·subst ag;rw[if_pos rfl,if_pos rfl,gF,List.count_append,List.count_singleton];have bJ:x<ids.length:=by rw[ar,<-h.len]; exact (List.getElem?_eq_some_iff.1 ak).1
     have:(p == cb ids x)=false:=by
      rw[beq_eq_false_iff_ne];intro e;rw[<-hq aI] at e;exact i2 (OD am tg bJ e).symm
     rw[this]; simp
    ·rw[if_neg ag,if_neg ag]
 ·by_cases i2:x=a
  ·subst i2;rw[List.getElem?_set_self gZ] at ak;obtain rfl:=Option.some.inj ak;have:=h.Aw x row aD;simp; omega
  ·rw[List.getElem?_set_ne (Ne.symm i2)] at ak;have:=h.Aw x t6 ak;omega
theorem amf {ids:List (List B)} {ops:List bS} {m:Nat} {cm:List (List Nat)} (h:sF ids ops m (df ops m).length cm) (aK:(df ops m).length<=4) :sF ids ops (m+1) 0 cm:=by
 refine⟨h.len,fun a row aD k=>?_,fun a row aD=>by have:=h.Aw a row aD; omega⟩;rw[h.cnt a row aD k];unfold uH;by_cases h1:k<m
 ·rw[if_pos h1,if_pos (by omega)]
 ·rw[if_neg h1];by_cases ag:k=m
  ·subst ag;rw[if_pos rfl,if_pos (by omega),List.take_length]
  ·rw[if_neg ag,if_neg (by omega)];by_cases aq:k=m+1
   ·rw[if_pos aq]; simp
   ·rw[if_neg aq]
theorem ame {ids:List (List B)} {ops:List bS} {cm:List (List Nat)} (h:sF ids ops ops.length 0 cm) :Eh ids ops cm:=by
 refine⟨h.len,fun a row aD k aF=>?_,fun a row aD k aF=>?_⟩
 ·rw[h.cnt a row aD k]; unfold uH; rw[if_pos aF]
 ·have h1:0<row.count k:=List.count_pos_iff.2 aF;rw[h.cnt a row aD k] at h1;unfold uH at h1;by_cases ag:k<ops.length
  ·exact ag
  ·rw[if_neg ag] at h1;split at h1<;>simp at h1
def eg (ops:List bS) (m:Nat) :List Int:=(List.range ops.length).map fun k=>if k<m then ((df ops k).length:Int) else 0
def hE (ops:List bS) (m:Nat) :List Nat:=(List.range m).filter fun k=>(df ops k).isEmpty
theorem acH (ops:List bS) (m:Nat) :(eg ops m).length=ops.length:=by simp[eg]
theorem Ec {ops:List bS} {m k:Nat} (h:k<ops.length) :(eg ops m)[k]? = some (if k<m then ((df ops k).length:Int) else 0) :=by
 unfold eg; rw[List.getElem?_map,List.getElem?_range h]; rfl
theorem aql {ops:List bS} {m:Nat} (h:m<ops.length) :(eg ops m).set m ((df ops m).length:Int)=eg ops (m+1) :=by
 apply List.ext_getElem?;intro j;by_cases am:j<ops.length
 ·rw[Ec am,List.getElem?_set];by_cases Uz:m=j
  ·subst Uz;rw[if_pos rfl,if_pos (by rw[acH]; exact am),if_pos (by omega)]
  ·rw[if_neg Uz,Ec am];by_cases h1:j<m
   ·rw[if_pos h1,if_pos (by omega)]
   ·rw[if_neg h1,if_neg (by omega)]
 ·rw[List.getElem?_eq_none (by simp[eg]; omega),List.getElem?_eq_none (by simp[eg]; omega)]
theorem aqk (ops:List bS) :eg ops ops.length=(List.range ops.length).map fun k=>((df ops k).length:Int) :=by
 unfold eg;apply List.map_congr_left;intro k aF;rw[if_pos (List.mem_range.1 aF)]
theorem aqm (ops:List bS) :eg ops 0=List.replicate ops.length 0:=by
 apply List.ext_getElem?;intro j;by_cases am:j<ops.length
 ·rw[Ec am]; simp[am]
 ·rw[List.getElem?_eq_none (by simp[eg]; omega),List.getElem?_eq_none (by simp; omega)]
theorem aa4 (ops:List bS) (m:Nat) :hE ops (m+1)=hE ops m++(if (df ops m).isEmpty then [m] else []) :=by
 unfold hE;rw[List.range_succ,List.filter_append];congr 1;by_cases h:(df ops m).isEmpty=true
 ·simp[h]
 ·simp[h]
def iw (n:Int) :ae:=.int .i64 n
theorem aoG {l:List ae} {i:Nat} {x:ae} (h:i<l.length) :bU l i [x]=l.set i x:=by
 have:=md (fun c:ae=>c) l i x h;simpa using this
def cE (g:b9) (wl:List Int) (vs:List ae) (rest:av) :av:=.cells 2 [bl g.ids,cw g.ops] ::.cells g.ops.l.length (wl.map iw) ::.cells g.ops.l.length vs::rest
theorem Nz {l:av} {a b c:bv} (aO:l[0]? = some a) (h1:l[1]? = some b) (ag:l[2]? = some c) :∃ r,l=a::b::c::r:=by
 match l,aO,h1,ag with
 | en::bu::c'::r,aO,h1,ag=>
  simp at aO h1 ag;subst aO h1 ag;exact⟨r,rfl⟩
theorem w5 {g:b9} {w w' : List Int} {vs D5:List ae} {r:av}:∀ {b:Nat},3<=b->(cE g w vs r)[b]? = (cE g w' D5 r)[b]?
 | 0,h=>by omega
 | 1,h=>by omega
 | 2,h=>by omega
 | b+3,_=>rfl
theorem IL {g:b9} {w:List Int} {vs:List ae} {r x:av} {b:Nat} (h:b<(cE g w vs r).length) :(cE g w vs (r++x))[b]? = (cE g w vs r)[b]?:=by
 show ((cE g w vs r)++x)[b]? = _;exact List.getElem?_append_left h
structure adf (g:b9) (m q:Nat) (dh:ae) (l:av) :Prop where
 ex:∃ (vs:List ae) (cm:List (List Nat)) (c5:Nat->Nat) (gj:Nat) (rest:av),l=cE g (eg g.ops.l m) vs rest/\jO l vs cm c5/\sF g.ids.l g.ops.l m q cm/\b0 1 l dh gj ((hE g.ops.l m).map gA) ∧
  cS dh=(hE g.ops.l m).isEmpty/\(hE g.ops.l m=[]\/(3<=gj/\mr cm c5 gj))
structure ade (g:b9) (m q:Nat) (dh:ae) (b:Nat) (O:List ae) (l:av) :Prop where
 ex:∃ (vs:List ae) (cm:List (List Nat)) (c5:Nat->Nat) (gj:Nat) (rest:av),l=cE g (eg g.ops.l m) vs rest/\jO l vs cm c5/\sF g.ids.l g.ops.l m q cm/\b0 1 l dh gj ((hE g.ops.l m).map gA) ∧
  cS dh=(hE g.ops.l m).isEmpty/\(hE g.ops.l m=[]\/(3<=gj/\mr cm c5 gj))/\l[b]? = some (.cells 11 O)/\3<=b/\mr cm c5 b
theorem xI {cm:List (List Nat)} {l:av} {vs:List ae} {c5:Nat->Nat} {c:Nat} (fj:jO l vs cm c5) (al:c<3) :mr cm c5 c:=fun a row aD b7=>by
 have aI:a<vs.length:=by rw[fj.mg]; exact (List.getElem?_eq_some_iff.1 aD).1
 have:=(fj.own a vs[a] row (List.getElem?_eq_getElem aI) aD).2.2.resolve_left b7;omega
theorem Ad {cm:List (List Nat)} {l:av} {vs:List ae} {c5:Nat->Nat} {c:Nat} (fj:jO l vs cm c5) (al:l.length<=c) :mr cm c5 c:=fun a row aD b7=>by
 have:=fj.lt aD b7;omega
structure pP (g:b9) (vs:List ae) (cm:List (List Nat)) (c5:Nat->Nat) (W:List Int) (R:List Nat) (dh:ae) (rest:av) :Prop where
 ex:∃ gj,jO (cE g W vs rest) vs cm c5/\b0 1 (cE g W vs rest) dh gj (R.map gA)/\cS dh=R.isEmpty/\(R=[]\/(3<=gj/\mr cm c5 gj))
theorem pP.setW {g:b9} {vs:List ae} {cm:List (List Nat)} {c5:Nat->Nat} {W ri:List Int} {R:List Nat} {dh:ae} {rest:av} (h:pP g vs cm c5 W R dh rest) :pP g vs cm c5 ri R dh rest:=by
 obtain⟨gj,fj,jS,ju,km⟩:=h;refine⟨⟨gj,fj.frame fun b aj ⟨a,su,h1,ag,aq⟩=>w5 (Nat.le_of_not_lt fun h=>xI fj h a su h1 ag aq),?_,ju,km⟩⟩;by_cases b7:R=[]
 ·subst b7;rw[iC.1 ju];exact .nil _
 ·exact jS.frame fun _=>w5 (km.resolve_left b7).1
theorem pP.push {g:b9} {vs:List ae} {cm:List (List Nat)} {c5:Nat->Nat} {W:List Int} {R:List Nat} {dh:ae} {rest:av} (h:pP g vs cm c5 W R dh rest) (m:Nat) (dk:(R.length+1)*8<=cQ) :
  ∃ bc e9,iR (cE g W vs (rest++[.cells 1 [.int .i64 (m:Int)]])) 1 8 dh (.ao 1 (rest.length+3) 0 1 1 1)=some (bc,cE g W vs e9)/\pP g vs cm c5 W (R++[m]) bc e9:=by
 obtain⟨gj,tc,B1,ju,km⟩:=h;obtain⟨gi,J1,k7,h5⟩:∃ gi,b0 1 (cE g W vs (rest++[.cells 1 [.int .i64 (m:Int)]])) dh gi (R.map gA)/\3<=gi/\mr cm c5 gi:=by
  by_cases b7:R=[]
  ·subst b7;rw[iC.1 ju];exact⟨(cE g W vs (rest++[.cells 1 [.int .i64 (m:Int)]])).length,.nil _,by simp[cE],Ad tc (by simp[cE])⟩
  ·exact⟨gj,B1.more _,(km.resolve_left b7).1,(km.resolve_left b7).2⟩
 obtain⟨pC,JH,ce,aY,a6,bi,bI,bq,cx⟩:=mu (by_:=8) J1 (x:=.ao 1 (rest.length+3) 0 1 1 1) (xs:=[gA m]) (by simp[dj,cE,gA]) (by simp[gA]) (by omega) (by omega) (by simpa using dk);have Iz:(cE g W vs (rest++[.cells 1 [.int .i64 (m:Int)]])).length=rest.length+4:=by simp[cE]
 have CB:(cE g W vs rest).length=rest.length+3:=by simp[cE]
 obtain⟨e9,rfl⟩:∃ r,ce=cE g W vs r:=Nz ((bI 0 (by omega) (by omega)).trans rfl) ((bI 1 (by omega) (by omega)).trans rfl) ((bI 2 (by omega) (by omega)).trans rfl);have Jf:cS pC=false:=by
  cases aQ:cS pC with
  | true=>have:=(cx.1 (iC.1 aQ)).2; cases this
  | false=>rfl
 refine⟨pC,e9,aY,⟨⟨JH,?_,?_,?_,.inr ⟨?_,?_⟩⟩⟩⟩
 ·exact tc.frame fun b aj ⟨a,su,h1,ag,aq⟩=>(bI b (by omega) (fun e=>h5 a su h1 ag (by omega))).trans (IL aj)
 ·rw[List.map_append]; exact a6
 ·rw[Jf]; simp
 ·rcases bq with e | e<;>omega
 ·rcases bq with e | e
  ·rw[e]; exact h5
  ·exact Ad tc (by omega)
set_option maxHeartbeats 8000000 in
theorem aol (g:b9) (ay:gT g) (ar:g.ids.l.length=g.ops.l.length) (oL:g.ops.l.length<=60) (aK:∀ o∈g.ops.l,o.bO.l.length<=4) :bT Tryz.prog GS 86 [dv g] (.int .i64 (oj g.ids.l g.ops.l)) :=by
 refine cd Tryz.checked.mixed b2 ?_;apply bH Rw aaB;unfold GX MF;have jW:cQ=140737488355328:=rfl;have e4:=hM g.ids;have ds:=nE g.ops;have mJ:=Bm g;have dy:db (.ao 11) (cw g.ops)=some (.int .i64 g.ops.l.length) :=by simp[cw]
 have hT:db (.ao 32) (bl g.ids)=some (.int .i64 g.ops.l.length) :=by simp[bl,ar]
 simp[dv,ea];refine c0 (g.ops.l.length - 1) (fun k ah l=>l=[.cells 2 [bl g.ids,cw g.ops]]/\ah 1=.ptr 0 0 2/\ah 3=.int .i64 ((k+1:Nat) :Int)/\∀ j,j<k+1->j<g.ids.l.length->1<=j->cG (cb g.ids.l (j - 1)) (cb g.ids.l j)<0) ?_ ⟨by simp,by simp,by simp,fun j h1 _ ag=>by omega⟩;rintro k ah l aF ⟨rfl,aY,bi,au⟩;obtain⟨ah,rfl⟩:=ov aY bi;clear aY bi;obtain⟨m,hm⟩:∃ m,m=k+1:=⟨_,rfl⟩
 rw[<-hm] at au ⊢;unfold WR;by_cases aS:m<g.ops.l.length
 ·obtain⟨x,ak,d0⟩:=cg (l:=g.ids.l) (k:=k) (by omega);obtain⟨y,aP,eA⟩:=cg (l:=g.ids.l) (k:=m) (by omega);have a1:IntKind.i64.wrap ((m:Int) - 1)=(k:Int) :=by rw[IntKind.wrap_i64]; omega
  have b3:IntKind.i64.wrap ((m:Int)+1)=((m+1:Nat) :Int) :=by rw[IntKind.wrap_i64]; omega
  have he:=hq ak;have qz:=hq aP;have fC:cU (.ao 32) (bl g.ids) (.int .i64 (k:Int))=some (.cp (bb x) 0) :=by simp[bl,ak]
  have tm:cU (.ao 32) (bl g.ids) (.int .i64 (m:Int))=some (.cp (bb y) 0) :=by simp[bl,aP]
  have bJ:=dr (ay.ids x d0);have eJ:=dr (ay.ids y eA);have ho:=wq x y (ay.ids x d0) (ay.ids y eA);unfold ff at ho;change bT Tryz.prog GS 121 [.aV (bb x),.aV (bb y)] _ at ho;have g0:=ha x;have oS:=ha y;obtain⟨X,ei⟩:∃ X,X=bb x:=⟨_,rfl⟩
  obtain⟨Y,gf⟩:∃ Y,Y=bb y:=⟨_,rfl⟩
  rw[<-ei] at fC bJ ho g0;rw[<-gf] at tm eJ ho oS;simp[hT,aS,a1,fC,tm,bJ,eJ,List.take_of_length_le];refine bB ho (by simp[bV,ae.closed,g0,oS]) ?_;by_cases al:cG x y<0
  ·have eY:¬ (0<=cG x y) :=by omega
   simp[eY,b3];refine⟨by omega,fun j h1 ag aq=>?_⟩;have ev:cG (cb g.ids.l (j - 1)) (cb g.ids.l j)<0:=by
    by_cases am:j=m
    ·rw[am,show m - 1=k by omega,he,qz]; exact al
    ·exact au j (by omega) ag aq
   simpa [cb] using ev
  ·have eY:0<=cG x y:=by omega
   simp[eY];refine a7 (congrArg (ae.int .i64) ?_) rfl;have eE:eV g.ids.l=false:=abi (k:=m) (by omega) (by omega) (by rw[show m - 1=k by omega,he,qz]; exact al);unfold oj;rw[eE]; rfl
 ·have aD:eV g.ids.l=true:=abj fun j h1 ag=>au j (by omega) h1 ag
  have am:=tG aD;obtain⟨bt,_⟩:=Di (z:=1) (by_:=8) (n:=g.ops.l.length) (k:=.i64) (k':=.i64) (zero:=[ae.int .i64 0]) (l:=[bv.cells 2 [bl g.ids,cw g.ops]]) rfl (by omega) (by rw[jW]; omega);obtain⟨bE,_⟩:=Di (z:=1) (by_:=24) (n:=g.ops.l.length) (k:=.i64) (k':=.i64) (zero:=[ae.aZ]) (l:=[bv.cells 2 [bl g.ids,cw g.ops],bv.cells g.ops.l.length (List.replicate g.ops.l.length (ae.int .i64 0))]) rfl (by omega) (by rw[jW]; omega);simp only[Nat.mul_one,MX (α:=Nat)] at bt bE;simp[hT,dy,aS,bt,bE];refine c0 g.ops.l.length (fun m ah l=>ah 1=.ptr 0 0 2/\ah 4=.ao 1 1 0 g.ops.l.length g.ops.l.length g.ops.l.length/\ah 5=.ao 1 2 0 g.ops.l.length g.ops.l.length g.ops.l.length/\ah 45=cw g.ops/\ah 46=.int .i64 g.ops.l.length/\ah 47=.int .i64 m ∧
   adf g m 0 (ah 6) l/\∀ i,i<m->rk g.ids.l (df g.ops.l i)=true) ?_ ?_
  ·rintro m ah l hm ⟨aY,bI,bq,ry,rz,rA,kM,eS⟩;obtain⟨dh,cx⟩:∃ v,ah 6=v:=⟨_,rfl⟩
   rw[cx] at kM;obtain⟨ah,rfl⟩:=NL aY bI bq cx ry rz rA;clear aY bI bq cx ry rz rA;unfold WT;by_cases mT:m<g.ops.l.length
   ·obtain⟨o,az,eF⟩:=cg mT;have a1:IntKind.i64.wrap ((m:Int)+1)=((m+1:Nat) :Int) :=by rw[IntKind.wrap_i64]; omega
    have c2:cU (.ao 11) (cw g.ops) (.int .i64 (m:Int))=some (.cp (bz o) 0) :=by simp[cw,az]
    have o2:=ay.ops o eF;have gD:=aK o eF;have o3:df g.ops.l m=o.bO.l:=vH az;have mQ:db (.ao 32) (bl o.bO)=some (.int .i64 o.bO.l.length) :=by simp[bl]
    have p5:(bz o).length=11:=rfl;have lr:∀ h:1<(bz o).length,(bz o)[1]'h=bl o.bO:=fun _=>rfl
    obtain⟨O,e3⟩:∃ O,O=bz o:=⟨_,rfl⟩
    rw[<-e3] at c2 p5 lr;have l5:bU [ae.int .u32 0,.aZ,.int .u64 0,.int .u8 0,.str [],.int .u8 0,.int .i64 0,.int .u64 0,.str [],.int .u32 0,.int .u32 0] 0 O=O:=h3 (by rw[p5]; rfl);simp[mT,c2,p5,lr,mQ,l5,List.take_of_length_le];obtain⟨wg,B4⟩:∃ wg,wg=l.length:=⟨_,rfl⟩
    rw[<-B4];refine c0 o.bO.l.length (fun q ah l=>ah 1=.ptr 0 0 2/\ah 4=.ao 1 1 0 g.ops.l.length g.ops.l.length g.ops.l.length/\ah 5=.ao 1 2 0 g.ops.l.length g.ops.l.length g.ops.l.length/\ah 6=dh/\ah 7=.int .i64 m/\ah 8=.ptr wg 0 11/\ah 45=cw g.ops/\ah 46=.int .i64 g.ops.l.length/\ah 47=.int .i64 m ∧
     ah 53=bl o.bO/\ah 54=.int .i64 o.bO.l.length/\ah 55=.int .i64 q/\ade g m q dh wg O l/\∀ (j:Nat) (p:List B),j<q->o.bO.l[j]? = some p->p∈g.ids.l) ?_ ?_
    ·rintro q ah l bp ⟨aY,bI,bq,cx,eb,dN,ry,rz,rA,S4,S5,S6,rE,UV⟩;obtain⟨ah,rfl⟩:=apw aY bI bq cx eb dN ry rz rA S4 S5 S6;clear aY bI bq cx eb dN ry rz rA S4 S5 S6;obtain⟨vs,cm,c5,gj,rest,rfl,fj,ls,jS,ju,km,aj,rI,qb⟩:=rE;unfold WS;by_cases o4:q<o.bO.l.length
     ·obtain⟨p,aG,qo⟩:=cg o4;have b3:IntKind.i64.wrap ((q:Int)+1)=((q+1:Nat) :Int) :=by rw[IntKind.wrap_i64]; omega
      have hc:cU (.ao 32) (bl o.bO) (.int .i64 (q:Int))=some (.cp (bb p) 0) :=by simp[bl,aG]
      have UR:=o2.ids p qo;have bJ:=dr UR;have g0:=ha p;have wU:=age g ay aD p UR;unfold dv ea at wU mJ;obtain⟨X,ei⟩:∃ X,X=bb p:=⟨_,rfl⟩
      rw[<-ei] at hc bJ g0 wU;have rW:bU (rep 32 (.int .u8 0)) 0 X=X:=h3 (by rw[bJ]; rfl);simp[cE,o4,hc,bJ,rW,List.take_of_length_le];refine bB wU (by simp[bV,ae.closed,g0,e4,ds]) ?_;by_cases tz:p∈g.ids.l
      ·obtain⟨nz,fy⟩:=List.mem_iff_getElem?.1 tz;have ahA:=R3 aD fy;have asJ:=(List.getElem?_eq_some_iff.1 fy).1;have asK:nz<g.ops.l.length:=by omega
       have jG:vs.length=g.ops.l.length:=by rw[fj.mg,ls.len]
       obtain⟨g8,xf,_⟩:=cg (l:=vs) (k:=nz) (by omega);obtain⟨row,cA,_⟩:=cg (l:=cm) (k:=nz) (by rw[ls.len]; omega);obtain⟨l1,fI⟩:∃ l1,l1=cE g (eg g.ops.l m) vs (rest++[.cells 32 X,.cells 1 [.int .i64 (m:Int)]]) :=⟨_,rfl⟩
       have BW:jO l1 vs cm c5:=by rw[fI]; exact fj.more _
       have Iy:l1.length=rest.length+5:=by rw[fI]; simp[cE]
       have n1:=ls.Aw nz row cA;obtain⟨bc,ce,zU,aY,a6,bi,bI,bq⟩:=BW.app (b:=rest.length+4) (k:=m) xf cA (by rw[fI]; simp[cE]) (by omega) (by rw[jW]; omega);have il:=bq 0 (by omega) (xI BW (by omega));have q1:=bq 1 (by omega) (xI BW (by omega));have im:=bq 2 (by omega) (xI BW (by omega));obtain⟨e9,rfl⟩:∃ r,ce=cE g (eg g.ops.l m) vs r:=Nz (il.1.trans (by rw[fI]; rfl)) (q1.1.trans (by rw[fI]; rfl)) (im.1.trans (by rw[fI]; rfl));have Cu:cU (.ao 1) (.ao 1 2 0 g.ops.l.length g.ops.l.length g.ops.l.length) (.int .i64 (nz:Int))=some (.ptr 2 nz g.ops.l.length) :=by
        simp only[cU];rw[if_pos ⟨trivial,by omega,by omega⟩];simp
       rw[fI] at aY;unfold cE at aY;simp[tz,ahA,Cu,xf,aY];refine dM.cM ?_;have ajr:bU vs nz [bc]=vs.set nz bc:=aoG (by omega);simp[cE,bI,Cu,ajr,jG];have jz:∀ c,3<=c->c<(cE g (eg g.ops.l m) vs rest).length->mr cm c5 c->(cE g (eg g.ops.l m) (vs.set nz bc) e9)[c]? = (cE g (eg g.ops.l m) vs rest)[c]?/\mr (cm.set nz (row++[m])) zU c:=by
        intro c aq dZ az;obtain⟨cc,ch⟩:=bq c (by simp[cE] at dZ; omega) az;exact⟨(w5 aq).trans (cc.trans (by rw[fI]; exact IL dZ)),ch⟩
       have Is:hE g.ops.l m≠[]->gj<(cE g (eg g.ops.l m) vs rest).length:=fun b7=>by
        rcases jS.lt with h | h
        ·rw[h] at ju;cases fY:hE g.ops.l m with
         | nil=>exact absurd fY b7
         | cons=>rw[fY] at ju; cases ju
        ·exact h
       have fA:=(List.getElem?_eq_some_iff.1 aj).1;obtain⟨h9,p2⟩:=jz wg rI fA qb;refine⟨by omega,o4,by rw[IntKind.wrap_i64]; omega,⟨⟨vs.set nz bc,cm.set nz (row++[m]),zU,gj,e9,rfl,?_,amh am ar ls (by rw[o3]; exact aG) fy cA,?_,ju,?_,h9.trans aj,rI,p2⟩⟩,fun j bX ev fD=>?_⟩
       ·exact a6.frame fun b aj ⟨a,su,h1,ag,aq⟩=>by
         have aK:3<=b:=Nat.le_of_not_lt fun h=>xI a6 h a su h1 ag aq
         exact w5 aK
       ·by_cases b7:hE g.ops.l m=[]
        ·rw[b7] at ju jS ⊢;rw[iC.1 ju];exact .nil _
        ·obtain⟨h1,ag⟩:=km.resolve_left b7;exact jS.frame fun h=>(jz gj h1 (Is b7) ag).1
       ·by_cases b7:hE g.ops.l m=[]
        ·exact .inl b7
        ·obtain⟨h1,ag⟩:=km.resolve_left b7;exact .inr ⟨h1,(jz gj h1 (Is b7) ag).2⟩
       ·by_cases aim:j=q
        ·subst aim; rw[aG] at fD; obtain rfl:=Option.some.inj fD; exact tz
        ·exact UV j bX (by omega) fD
      ·simp[tz];refine a7 (congrArg (ae.int .i64) ?_) rfl;have eE:¬ Ab g.ids.l g.ops.l=true:=fun h=>by
        have:=of_decide_eq_true h o eF;exact tz (of_decide_eq_true this p qo)
       unfold oj;rw[if_pos aD,if_neg eE]
     ·have n0:q=o.bO.l.length:=by omega
      rw[n0] at ls;rw[<-o3] at ls;have Tu:=amf ls (by rw[o3]; exact gD);have jG:vs.length=g.ops.l.length:=by rw[fj.mg,ls.len]
      have U0:d1 (cE g (eg g.ops.l m) vs rest) (.ptr wg 1 11)=some (O,1) :=by simp only[d1,aj]; rfl
      have zi:cU (.ao 1) (.ao 1 1 0 g.ops.l.length g.ops.l.length g.ops.l.length) (.int .i64 (m:Int))=some (.ptr 1 m g.ops.l.length) :=by
       simp only[cU];rw[if_pos ⟨trivial,by omega,by omega⟩];simp
      have I9:je 1 (cE g (eg g.ops.l m) vs rest) (.ptr 1 m g.ops.l.length) (.int .i64 o.bO.l.length)=some (cE g (eg g.ops.l (m+1)) vs rest) :=by
       have h1:(cE g (eg g.ops.l m) vs rest)[1]? = some (.cells g.ops.l.length ((eg g.ops.l m).map iw)) :=rfl;simp only[je,ae.cells,h1];rw[if_pos (by simp; omega)];have ag:bU ((eg g.ops.l m).map iw) m [ae.int .i64 o.bO.l.length]=(eg g.ops.l (m+1)).map iw:=by
        rw[<-aql mT,o3];exact md iw (eg g.ops.l m) m _ (by rw[acH]; exact mT)
       rw[ag]; rfl
      have zz:d1 (cE g (eg g.ops.l (m+1)) vs rest) (.ptr 1 m g.ops.l.length)=some ((eg g.ops.l (m+1)).map iw,m) :=by
       have h1:(cE g (eg g.ops.l (m+1)) vs rest)[1]? = some (.cells g.ops.l.length ((eg g.ops.l (m+1)).map iw)) :=rfl;simp only[d1,h1]; simp
      have Cr:((eg g.ops.l (m+1)).map iw)[m]? = some (.int .i64 o.bO.l.length) :=by
       rw[List.getElem?_map,Ec mT,if_pos (by omega),o3]; rfl
      have as2:∀ h:m<((eg g.ops.l (m+1)).map iw).length,((eg g.ops.l (m+1)).map iw)[m]'h=.int .i64 o.bO.l.length:=fun h=>(List.getElem?_eq_some_iff.1 Cr).2
      have Tt:O[1]? = some (bl o.bO) :=by rw[List.getElem?_eq_getElem (by rw[p5]; omega),lr]
      have tc:jO (cE g (eg g.ops.l (m+1)) vs rest) vs cm c5:=fj.frame fun b aj ⟨a,su,h1,ag,aq⟩=>w5 (Nat.le_of_not_lt fun h=>xI fj h a su h1 ag aq)
      have B1:b0 1 (cE g (eg g.ops.l (m+1)) vs rest) dh gj ((hE g.ops.l m).map gA) :=by
       by_cases b7:hE g.ops.l m=[]
       ·rw[b7] at ju ⊢;rw[iC.1 ju];exact .nil _
       ·exact jS.frame fun _=>w5 (km.resolve_left b7).1
      have B2:∀ i,i<m+1->rk g.ids.l (df g.ops.l i)=true:=fun i aA=>by
       by_cases aif:i=m
       ·subst aif;rw[o3];refine decide_eq_true fun p aG=>?_
        obtain⟨j,ev⟩:=List.mem_iff_getElem?.1 aG;exact UV j p (by rw[n0]; exact (List.getElem?_eq_some_iff.1 ev).1) ev
       ·exact eS i (by omega)
      by_cases aC:o.bO.l.length=0
      ·have aix:db (.ao 32) (bl o.bO)=some (.int .i64 0) :=by rw[mQ,aC]; rfl
       have ajp:je 1 (cE g (eg g.ops.l m) vs rest) (.ptr 1 m g.ops.l.length) (.int .i64 0)=some (cE g (eg g.ops.l (m+1)) vs rest) :=by rw[aC] at I9; exact I9
       have ah4:((eg g.ops.l (m+1)).map iw)[m]? = some (.int .i64 0) :=by rw[aC] at Cr; exact Cr
       have n2:hE g.ops.l (m+1)=hE g.ops.l m++[m] :=by
        rw[aa4,o3,List.length_eq_zero_iff.1 aC]; rfl
       obtain⟨gi,J1,k7,h5⟩:∃ gi,b0 1 (cE g (eg g.ops.l (m+1)) vs (rest++[.cells 1 [.int .i64 (m:Int)]])) dh gi ((hE g.ops.l m).map gA)/\3<=gi/\mr cm c5 gi:=by
        by_cases b7:hE g.ops.l m=[]
        ·rw[b7] at ju ⊢;rw[iC.1 ju];exact⟨(cE g (eg g.ops.l (m+1)) vs (rest++[.cells 1 [.int .i64 (m:Int)]])).length,.nil _,by simp[cE],Ad tc (by simp[cE])⟩
        ·exact⟨gj,B1.more _,(km.resolve_left b7).1,(km.resolve_left b7).2⟩
       have n1:(hE g.ops.l m).length<=m:=by
        have:=List.length_filter_le (fun k=>(df g.ops.l k).isEmpty) (List.range m);simpa [hE] using this
       obtain⟨pC,JH,ce,aY,a6,bi,bI,bq,cx⟩:=mu (by_:=8) J1 (x:=.ao 1 (rest.length+3) 0 1 1 1) (xs:=[gA m]) (by simp[dj,cE,gA]) (by simp[gA]) (by omega) (by omega) (by rw[jW]; simp; omega);have Iz:(cE g (eg g.ops.l (m+1)) vs (rest++[.cells 1 [.int .i64 (m:Int)]])).length=rest.length+4:=by simp[cE]
       obtain⟨e9,rfl⟩:∃ r,ce=cE g (eg g.ops.l (m+1)) vs r:=Nz ((bI 0 (by omega) (by omega)).trans rfl) ((bI 1 (by omega) (by omega)).trans rfl) ((bI 2 (by omega) (by omega)).trans rfl);have IU:cE g (eg g.ops.l (m+1)) vs rest++[bv.cells 1 [.int .i64 (m:Int)]]=cE g (eg g.ops.l (m+1)) vs (rest++[.cells 1 [.int .i64 (m:Int)]]) :=rfl;have CB:(cE g (eg g.ops.l (m+1)) vs rest).length=rest.length+3:=by simp[cE]
       simp[o4,U0,Tt,aix,zi,ajp,zz,ah4,IU,CB,aY];refine dM.cM ?_;simp;have Jf:cS pC=false:=by
        cases aQ:cS pC with
        | true=>have:=(cx.1 (iC.1 aQ)).2; cases this
        | false=>rfl
       refine⟨mT,by rw[IntKind.wrap_i64]; omega,⟨⟨vs,cm,c5,JH,e9,rfl,?_,Tu,?_,?_,.inr ⟨?_,?_⟩⟩⟩,B2⟩
       ·exact tc.frame fun b aj ⟨a,su,h1,ag,aq⟩=>(bI b (by omega) (fun e=>h5 a su h1 ag (by omega))).trans (IL aj)
       ·rw[n2,List.map_append]; exact a6
       ·rw[Jf,n2]; simp
       ·rcases bq with e | e<;>omega
       ·rcases bq with e | e
        ·rw[e]; exact h5
        ·exact Ad tc (by omega)
      ·have n2:hE g.ops.l (m+1)=hE g.ops.l m:=by
        rw[aa4,o3];have:o.bO.l.isEmpty=false:=by cases fY:o.bO.l with | nil=>rw[fY] at aC; exact absurd rfl aC | cons=>rfl
        rw[this]; simp
       simp[o4,U0,Tt,mQ,zi,I9,zz,Cr,aC];exact⟨mT,by rw[IntKind.wrap_i64]; omega,⟨⟨vs,cm,c5,gj,rest,rfl,tc,Tu,by rw[n2]; exact B1,by rw[n2]; exact ju,by rw[n2]; exact km⟩⟩,B2⟩
    ·simp;obtain⟨vs,cm,c5,gj,rest,rfl,fj,ls,jS,ju,km⟩:=kM;refine⟨⟨vs,cm,c5,gj,rest++[.cells 11 O],rfl,fj.more _,ls,jS.more _,ju,km,by rw[B4,List.getElem?_append_right (Nat.le_refl _)]; simp,by rw[B4]; simp[cE],Ad fj (by rw[B4]; exact Nat.le_refl _)⟩⟩
   ·have hp:m=g.ops.l.length:=by omega
    subst hp;obtain⟨vs,cm,c5,akg,anV,rfl,Ts,ls,ag5,ag7,ag6⟩:=kM;have HS:=ame ls;have jG:vs.length=g.ops.l.length:=by rw[Ts.mg,ls.len]
    have f1:Ab g.ids.l g.ops.l=true:=decide_eq_true fun o eF=>by
     obtain⟨j,ev⟩:=List.mem_iff_getElem?.1 eF;have:=eS j (List.getElem?_eq_some_iff.1 ev).1
     rwa [vH ev] at this
    have Tq:=akC (ids:=g.ids.l) (ops:=g.ops.l) ar;rw[<-aqk] at Tq;have ag8:pP g vs cm c5 (eg g.ops.l g.ops.l.length) (hE g.ops.l g.ops.l.length) dh anV:=⟨⟨akg,Ts,ag5,ag7,ag6⟩⟩
    simp;refine c0 g.ops.l.length (fun d ah l=>ah 1=.ptr 0 0 2/\ah 4=.ao 1 1 0 g.ops.l.length g.ops.l.length g.ops.l.length/\ah 5=.ao 1 2 0 g.ops.l.length g.ops.l.length g.ops.l.length/\ah 13=.int .i64 d ∧
     ∃ W R rest,l=cE g W vs rest/\pP g vs cm c5 W R (ah 6) rest/\pO g.ids.l g.ops.l [] d 0 R W) ?_ ?_
    ·rintro d ah l bD ⟨aY,bI,bq,hb,W,R,rest,rfl,kM,a8⟩;obtain⟨dh,cx⟩:∃ v,ah 6=v:=⟨_,rfl⟩
     rw[cx] at kM;obtain⟨ah,rfl⟩:=k6 aY bI bq cx hb;clear aY bI bq cx hb;unfold WV;have HY:db (.ao 1) dh=some (.int .i64 R.length) :=by obtain⟨gj,_,jS,_⟩:=kM; have:=jS.len; simpa using this
     have ju:R.length<=g.ops.l.length:=by
      have:=sw (b:=List.range g.ops.l.length) a8.j3 fun x ak=>List.mem_range.2 (a8.mC x ak).1
      simpa using this
     by_cases Ch:d<R.length
     ·obtain⟨a,aI,ahh⟩:=cg Ch;have ahi:=(a8.mC a ahh).1;have a1:IntKind.i64.wrap ((d:Int)+1)=((d+1:Nat) :Int) :=by rw[IntKind.wrap_i64]; omega
      obtain⟨row,cA,_⟩:=cg (l:=cm) (k:=a) (by rw[ls.len]; exact ahi);obtain⟨g8,xf,_⟩:=cg (l:=vs) (k:=a) (by omega);obtain⟨gj,fj,jS,Tv,km⟩:=kM;obtain⟨Kp,yx,x7,dV,dK,gu,lf⟩:=jS.q.get (k:=.i64) (i:=d) (e:=gA a) (by rw[List.getElem?_map,aI]; rfl);have we:=one_cell (c:=.int .i64 (a:Int)) lf;have Cu:cU (.ao 1) (.ao 1 2 0 g.ops.l.length g.ops.l.length g.ops.l.length) (.int .i64 (a:Int))=some (.ptr 2 a g.ops.l.length) :=by
       simp only[cU];rw[if_pos ⟨trivial,by omega,by omega⟩];simp
      have zA:∀ ri j5,d1 (cE g ri vs j5) (.ptr 2 a g.ops.l.length)=some (vs,a) :=fun ri j5=>by
       have h1:(cE g ri vs j5)[2]? = some (.cells g.ops.l.length vs) :=rfl;simp only[d1,h1]; simp
      have Jh:=(fj.own a g8 row xf cA).1;have ajx:db (.ao 1) g8=some (.int .i64 row.length) :=by have:=Jh.len; simpa using this
      have n1:=ls.Aw a row cA;simp[HY,Ch,dV,dK,we,Cu,zA,xf,ajx];refine c0 row.length (fun j ah l=>ah 1=.ptr 0 0 2/\ah 4=.ao 1 1 0 g.ops.l.length g.ops.l.length g.ops.l.length/\ah 5=.ao 1 2 0 g.ops.l.length g.ops.l.length g.ops.l.length/\ah 13=.int .i64 d/\ah 106=g8/\ah 107=.int .i64 row.length/\ah 108=.int .i64 j ∧
       ∃ W R rest,l=cE g W vs rest/\pP g vs cm c5 W R (ah 6) rest/\pO g.ids.l g.ops.l row d j R W/\R[d]? = some a) ?_ ?_
      ·rintro j ah l Is ⟨aY,bI,bq,hb,SU,SV,SX,W,R,rest,rfl,kM,a8,aI⟩;obtain⟨dh,cx⟩:∃ v,ah 6=v:=⟨_,rfl⟩
       rw[cx] at kM;obtain⟨ah,rfl⟩:=D3 aY bI bq cx hb SU SV SX;clear aY bI bq cx hb SU SV SX;unfold WU;by_cases eD:j<row.length
       ·obtain⟨k,aF,kp⟩:=cg eD;have gh:=HS.lt a row cA k kp;obtain⟨x,ak,xl,atr,y3⟩:=akD ar am HS a8 aI cA aF;have ats:(df g.ops.l k).length<=4:=by
         obtain⟨cC,dw,UN⟩:=cg gh;rw[vH dw]; exact aK cC UN
        have a1:IntKind.i64.wrap ((j:Int)+1)=((j+1:Nat) :Int) :=by rw[IntKind.wrap_i64]; omega
        have b3:IntKind.i64.wrap (x - 1)=x - 1:=by rw[IntKind.wrap_i64]; omega
        obtain⟨gj,fj,jS,Tv,km⟩:=id kM;have Jh:=(fj.own a g8 row xf cA).1;obtain⟨Kp,yx,x7,dV,dK,gu,lf⟩:=Jh.q.get (k:=.i64) (i:=j) (e:=gA k) (by rw[List.getElem?_map,aF]; rfl);have we:=one_cell (c:=.int .i64 (k:Int)) lf;have zi:cU (.ao 1) (.ao 1 1 0 g.ops.l.length g.ops.l.length g.ops.l.length) (.int .i64 (k:Int))=some (.ptr 1 k g.ops.l.length) :=by
         simp only[cU];rw[if_pos ⟨trivial,by omega,by omega⟩];simp
        have asI:=a8.wl;have zz:d1 (cE g W vs rest) (.ptr 1 k g.ops.l.length)=some (W.map iw,k) :=by
         have h1:(cE g W vs rest)[1]? = some (.cells g.ops.l.length (W.map iw)) :=rfl;simp only[d1,h1]; simp
        have ez:(W.map iw)[k]? = some (.int .i64 x) :=by rw[List.getElem?_map,ak]; rfl
        have cI:je 1 (cE g W vs rest) (.ptr 1 k g.ops.l.length) (.int .i64 (x - 1))=some (cE g (W.set k (x - 1)) vs rest) :=by
         have h1:(cE g W vs rest)[1]? = some (.cells g.ops.l.length (W.map iw)) :=rfl;simp only[je,ae.cells,h1];rw[if_pos (by simp; omega)];have ag:bU (W.map iw) k [ae.int .i64 (x - 1)]=(W.set k (x - 1)).map iw:=md iw W k _ (by omega);rw[ag]; rfl
        have zA:d1 (cE g (W.set k (x - 1)) vs rest) (.ptr 1 k g.ops.l.length)=some ((W.set k (x - 1)).map iw,k) :=by
         have h1:(cE g (W.set k (x - 1)) vs rest)[1]? = some (.cells g.ops.l.length ((W.set k (x - 1)).map iw)) :=rfl;simp only[d1,h1]; simp
        have Cq:((W.set k (x - 1)).map iw)[k]? = some (.int .i64 (x - 1)) :=by rw[List.getElem?_map,List.getElem?_set_self (by omega)]; rfl
        have HZ:pP g vs cm c5 (W.set k (x - 1)) R dh rest:=kM.setW;obtain⟨hJ,ahb⟩:∃ hJ,hJ=W.set k (x - 1) :=⟨_,rfl⟩
        rw[<-ahb] at cI zA Cq HZ y3;by_cases aC:x - 1=0
        ·rw[if_pos aC] at y3;have dD:IntKind.i64.wrap (x - 1)=0:=by rw[b3]; exact aC
         rw[aC] at cI Cq;have asE:R.length<=g.ops.l.length:=by
          have:=sw (b:=List.range g.ops.l.length) a8.j3 fun x ak=>List.mem_range.2 (a8.mC x ak).1
          simpa using this
         obtain⟨bc,e9,pv,Dt⟩:=HZ.push k (by rw[jW]; omega);have IU:cE g hJ vs rest++[bv.cells 1 [.int .i64 (k:Int)]]=cE g hJ vs (rest++[.cells 1 [.int .i64 (k:Int)]]) :=rfl;have CB:(cE g hJ vs rest).length=rest.length+3:=by simp[cE]
         simp[eD,dV,dK,we,zi,zz,ez,dD,cI,zA,Cq,IU,CB,pv];refine dM.cM ?_;simp[eD,a1];exact⟨hJ,R++[k],e9,rfl,Dt,y3,by rw[List.getElem?_append_left (List.getElem?_eq_some_iff.1 aI).1]; exact aI⟩
        ·rw[if_neg aC] at y3;simp[eD,dV,dK,we,zi,zz,ez,b3,cI,zA,Cq,aC,a1];exact⟨hJ,R,rest,rfl,HZ,y3,aI⟩
       ·have ail:j=row.length:=by omega
        subst ail;simp[eD];exact⟨by omega,by rw[IntKind.wrap_i64]; omega,W,R,rest,rfl,kM,akA HS a8 aI cA⟩
      ·simp;exact⟨W,R,rest,rfl,⟨⟨gj,fj,jS,Tv,km⟩⟩,akB a8,aI⟩
     ·have ahH:d=R.length:=by have:=a8.dl; omega
      subst ahH;obtain⟨k7,h5⟩:=akz ar am a8;by_cases mS:R.length<g.ops.l.length
      ·simp[HY,Ch,cE,dy,mS];refine a7 (congrArg (ae.int .i64) ?_) rfl;unfold oj;rw[if_pos aD,if_pos f1,if_neg (fun h=>by have:=h5.2 h; omega)]
      ·simp[HY,Ch,cE,dy,mS];refine a7 (congrArg (ae.int .i64) ?_) rfl;unfold oj;rw[if_pos aD,if_pos f1,if_pos (h5.1 (by omega))]
    ·simp;exact⟨_,_,_,rfl,ag8,Tq⟩
  ·simp;refine⟨⟨List.replicate g.ops.l.length .aZ,List.replicate g.ops.l.length [],fun _=>0,0,[],?_,⟨by simp,fun a v row ax ajf=>?_,fun a b kz lH _ aI _ IE _=>?_⟩,amg _ _,.nil _,rfl,.inl rfl⟩⟩
   ·unfold cE; rw[aqm,List.map_replicate]; rfl
   ·have h1:=List.eq_of_mem_replicate (List.mem_of_getElem? ax);have ag:=List.eq_of_mem_replicate (List.mem_of_getElem? ajf);subst h1 ag;exact⟨.nil _,rfl,.inl rfl⟩
   ·exact absurd (List.eq_of_mem_replicate (List.mem_of_getElem? aI)) IE
set_option maxHeartbeats 4000000 in
theorem acw (g:b9) (ay:gT g) :bT Tryz.prog GS 55 [dv g] (.int .i64 (gK g)) :=by
 refine cd Tryz.checked.mixed b2 ?_;apply bH Q3 Z7;unfold Gu Mj;have e4:=hM g.ids;have ds:=nE g.ops;have mJ:=Bm g;have dy:db (.ao 11) (cw g.ops)=some (.int .i64 g.ops.l.length) :=by simp[cw]
 have hT:db (.ao 32) (bl g.ids)=some (.int .i64 g.ids.l.length) :=by simp[bl]
 have bw:=ay.cP;by_cases oL:60<(g.ops.l.length:Int)
 ·simp[dv,ea,dy,oL];refine a7 (congrArg (ae.int .i64) ?_) rfl;unfold gK; rw[if_pos (by omega)]
 by_cases ar:g.ids.l.length=g.ops.l.length
 ·have c1:(g.ids.l.length:Int)=(g.ops.l.length:Int) :=by omega
  simp[dv,ea,dy,hT,oL,c1];refine c0 g.ops.l.length (fun k ah l=>(∃ rest,l=.cells 2 [bl g.ids,cw g.ops] ::rest)/\ah 1=.ptr 0 0 2/\ah 19=cw g.ops/\ah 20=.int .i64 g.ops.l.length/\ah 21=.int .i64 k/\∀ j,j<k->mE g j=true) ?_ (by simp);rintro k ah l aF ⟨⟨rest,rfl⟩,aY,mA,S0,rx,au⟩;obtain⟨ah,rfl⟩:=iJ aY mA S0 rx;clear aY mA S0 rx;unfold WE;by_cases cY:k<g.ops.l.length
  ·obtain⟨o,az,eF⟩:=cg cY;obtain⟨x,ak,d0⟩:=cg (l:=g.ids.l) (k:=k) (by omega);have iY:=BN az ak;have a1:IntKind.i64.wrap ((k:Int)+1)=((k+1:Nat) :Int) :=by rw[IntKind.wrap_i64]; omega
   have c2:cU (.ao 11) (cw g.ops) (.int .i64 (k:Int))=some (.cp (bz o) 0) :=by simp[cw,az]
   have va:cU (.ao 32) (bl g.ids) (.int .i64 (k:Int))=some (.cp (bb x) 0) :=by simp[bl,ak]
   have ax:=ap2 o (ay.ops o eF);have jU:=apS o (ay.ops o eF);change bT Tryz.prog GS 38 [.aV (bz o)] (.bP [.aV (bb (kt o)),.int .i64 (fV o)]) at jU;have oR:=nD o;have bJ:=dr (ay.ids x d0);have y2:=dr (Jr o);have dQ:(bz o).length=11:=rfl;have heq:=Jq (Jr o) (ay.ids x d0);have oN:¬ mE g k=true->gK g=8:=fun h=>by
    unfold gK;rw[if_neg (by omega),if_pos ar,if_neg fun aQ=>h ((wJ g).1 aQ k cY)]
   obtain⟨O,e3⟩:∃ O,O=bz o:=⟨_,rfl⟩
   obtain⟨X,ei⟩:∃ X,X=bb x:=⟨_,rfl⟩
   obtain⟨I,rG⟩:∃ I,I=bb (kt o) :=⟨_,rfl⟩
   rw[<-e3] at c2 ax jU oR dQ;rw[<-ei] at va bJ heq;rw[<-rG] at jU heq y2;have l5:bU [ae.int .u32 0,.aZ,.int .u64 0,.int .u8 0,.str [],.int .u8 0,.int .i64 0,.int .u64 0,.str [],.int .u32 0,.int .u32 0] 0 O=O:=h3 (by rw[dQ]; rfl);have I7:bU (rep 32 (.int .u8 0)) 0 I=I:=h3 (by rw[y2]; rfl);simp[cY,c2,dQ,l5,List.take_of_length_le];refine bB jU (by simp[bV,ae.closed,oR]) ?_;by_cases aO:fV o=0
   ·by_cases fC:kt o=x
    ·simp[aO,y2,I7,va,bJ,heq,fC,dQ,List.take_of_length_le];refine bB ax (by simp[bV,ae.closed,oR]) ?_;by_cases qr:pD o=0
     ·simp[qr,cY,a1];intro j am;by_cases hS:j=k
      ·subst hS; rw[iY]; simp[qr,fC]
      ·exact au j (by omega)
     ·have aj:¬ mE g k=true:=fun h=>by rw[iY] at h; simp[qr] at h
      simp[qr];exact a7 (congrArg (ae.int .i64) (oN aj).symm) rfl
    ·have aj:¬ mE g k=true:=fun h=>by rw[iY] at h; simp[fC] at h
     simp[aO,y2,I7,va,bJ,heq,fC,dQ,List.take_of_length_le];exact a7 (congrArg (ae.int .i64) (oN aj).symm) rfl
   ·have aj:¬ mE g k=true:=fun h=>by
     rw[iY,Bool.and_eq_true,decide_eq_true_eq] at h;exact aO (D4 h.1)
    simp[aO,y2,I7,va,bJ,heq,dQ,List.take_of_length_le];exact a7 (congrArg (ae.int .i64) (oN aj).symm) rfl
  ·have oZ:k=g.ops.l.length:=by omega
   have eS:BM g=true:=(wJ g).2 fun j am=>au j (by omega)
   have aK:∀ o∈g.ops.l,o.bO.l.length<=4:=fun o eF=>by
    obtain⟨j,am⟩:=List.mem_iff_getElem?.1 eF;obtain⟨x,ak,_⟩:=cg (l:=g.ids.l) (k:=j) (by have:=(List.getElem?_eq_some_iff.1 am).1; omega);have h1:=(wJ g).1 eS j (List.getElem?_eq_some_iff.1 am).1;rw[BN am ak,Bool.and_eq_true,decide_eq_true_eq] at h1;exact xH (D4 h1.1)
   have mX:=aol g ay ar (by omega) aK;unfold dv ea at mX mJ;simp[cY];refine bB mX (by simp[bV,mJ]) ?_;simp;refine a7 (congrArg (ae.int .i64) ?_) rfl;unfold gK;rw[if_neg (by omega),if_pos ar,if_pos eS]
 ·have c1:¬ (g.ids.l.length:Int)=(g.ops.l.length:Int) :=by omega
  simp[dv,ea,dy,hT,oL,c1];refine a7 (congrArg (ae.int .i64) ?_) rfl;unfold gK; rw[if_neg (by omega),if_neg ar]
def rD (o:bS) :Bool:=decide (20<o.bO.l.length)||(decide (100<o.act.key.length)||decide (100<o.act.val.text.length))
theorem anj (o:bS) :bT Tryz.prog GS 53 [.aV (bz o)] (.bool (rD o)) :=by
 refine cd Tryz.checked.mixed b2 ?_;apply bH Q1 Z5;unfold Gt Mi rD;have mQ:db (.ao 32) (bl o.bO)=some (.int .i64 o.bO.l.length) :=by simp[bl]
 by_cases h1:20<o.bO.l.length
 ·have er:(20:Int)<(o.bO.l.length:Int) :=by omega
  simp[bz,mQ,h1,er];exact a7 rfl rfl
 ·have er:¬ (20:Int)<(o.bO.l.length:Int) :=by omega
  by_cases ag:100<o.act.key.length
  ·have fX:(100:Int)<(o.act.key.length:Int) :=by omega
   simp[bz,mQ,h1,er,ag,fX];exact a7 rfl rfl
  ·have fX:¬ (100:Int)<(o.act.key.length:Int) :=by omega
   simp[bz,mQ,h1,er,ag,fX];refine a7 (congrArg ae.bool ?_) rfl;by_cases aq:100<o.act.val.text.length
   ·have s9:(100:Int)<(o.act.val.text.length:Int) :=by omega
    simp[aq,s9]
   ·have s9:¬ (100:Int)<(o.act.val.text.length:Int) :=by omega
    simp[aq,s9]
def s8 (g:b9) :Bool:=decide (∃ o∈g.ops.l.take 71,rD o=true)||(decide (16<g.ops.l.length/\g.ops.l.length<=60)||(decide (70<g.ops.l.length)||decide (70<g.ids.l.length)))
theorem ani (g:b9) :bT Tryz.prog GS 22 [dv g] (.bool (s8 g)) :=by
 refine cd Tryz.checked.mixed b2 ?_;apply bH QB ZF;unfold Ge L4;have dy:db (.ao 11) (cw g.ops)=some (.int .i64 g.ops.l.length) :=by simp[cw]
 have hT:db (.ao 32) (bl g.ids)=some (.int .i64 g.ids.l.length) :=by simp[bl]
 simp[dv,ea];refine c0 (min g.ops.l.length 71) (fun k ah l=>l=[.cells 2 [bl g.ids,cw g.ops]]/\ah 1=.ptr 0 0 2/\ah 3=.int .i64 k/\∀ (j:Nat) (o:bS),j<k->g.ops.l[j]? = some o->rD o=false) ?_ (by simp);rintro k ah l aF ⟨rfl,aY,bi,au⟩;obtain⟨ah,rfl⟩:=ov aY bi;clear aY bi;unfold Ws;by_cases cY:k<g.ops.l.length
 ·by_cases Ul:k<=70
  ·obtain⟨o,az,eF⟩:=cg cY;have a1:IntKind.i64.wrap ((k:Int)+1)=((k+1:Nat) :Int) :=by rw[IntKind.wrap_i64]; omega
   have c2:cU (.ao 11) (cw g.ops) (.int .i64 (k:Int))=some (.cp (bz o) 0) :=by simp[cw,az]
   have ax:=anj o;have oR:=nD o;have dQ:(bz o).length=11:=rfl;have Iu:(k:Int)<=70:=by omega
   have kp:k<min g.ops.l.length 71:=by omega
   obtain⟨O,e3⟩:∃ O,O=bz o:=⟨_,rfl⟩
   rw[<-e3] at c2 ax oR dQ;simp[dy,cY,Ul,Iu,c2,dQ,List.take_of_length_le];refine bB ax (by simp[bV,ae.closed,oR]) ?_;by_cases mM:rD o=true
   ·simp[mM];refine a7 (congrArg ae.bool ?_) rfl;unfold s8;rw[decide_eq_true ⟨o,List.mem_of_getElem? (i:=k) (by rw[List.getElem?_take_of_lt (by omega)]; exact az),mM⟩]; rfl
   ·rw[Bool.not_eq_true] at mM;simp[mM,a1];refine⟨by omega,fun j cC am dw=>?_⟩;by_cases hS:j=k
    ·subst hS; rw[az] at dw; obtain rfl:=Option.some.inj dw; exact mM
    ·exact au j cC (by omega) dw
  ·have Iu:¬ (k:Int)<=70:=by omega
   have aH:¬ ∃ o∈g.ops.l.take 71,rD o=true:=fun ⟨o,eF,mM⟩=>by
    obtain⟨j,am⟩:=List.mem_iff_getElem?.1 eF;have eD:=(List.getElem?_eq_some_iff.1 am).1;rw[List.length_take] at eD;rw[List.getElem?_take_of_lt (by omega)] at am;rw[au j o (by omega) am] at mM; cases mM
   have bt:(16:Int)<(g.ops.l.length:Int) :=by omega
   have bE:¬ (g.ops.l.length:Int)<=60:=by omega
   have a3:(70:Int)<(g.ops.l.length:Int) :=by omega
   simp[dy,hT,cY,Ul,Iu,bt,bE,a3];refine a7 (congrArg ae.bool ?_) rfl;unfold s8;simp[show 70<g.ops.l.length by omega]
 ·have aH:¬ ∃ o∈g.ops.l.take 71,rD o=true:=fun ⟨o,eF,mM⟩=>by
   obtain⟨j,am⟩:=List.mem_iff_getElem?.1 eF;have eD:=(List.getElem?_eq_some_iff.1 am).1;rw[List.length_take] at eD;rw[List.getElem?_take_of_lt (by omega)] at am;rw[au j o (by omega) am] at mM; cases mM
  have Im:s8 g=(decide (16<g.ops.l.length/\g.ops.l.length<=60)||(decide (70<g.ops.l.length)||decide (70<g.ids.l.length))) :=by
   unfold s8; rw[decide_eq_false aH]; rfl
  rw[Im];have uL:decide ((16:Int)<(g.ops.l.length:Int))=decide (16<g.ops.l.length) :=by rw[decide_eq_decide]; omega
  have uM:decide ((g.ops.l.length:Int)<=60)=decide (g.ops.l.length<=60) :=by rw[decide_eq_decide]; omega
  have Sc:decide ((70:Int)<(g.ops.l.length:Int))=decide (70<g.ops.l.length) :=by rw[decide_eq_decide]; omega
  have Sd:decide ((70:Int)<(g.ids.l.length:Int))=decide (70<g.ids.l.length) :=by rw[decide_eq_decide]; omega
  by_cases bt:16<g.ops.l.length
  ·have uD:(16:Int)<(g.ops.l.length:Int) :=by omega
   by_cases bE:g.ops.l.length<=60
   ·have AY:(g.ops.l.length:Int)<=60:=by omega
    simp[dy,hT,cY,bt,uD,bE,AY];exact a7 rfl rfl
   ·have AY:¬ (g.ops.l.length:Int)<=60:=by omega
    by_cases a3:70<g.ops.l.length
    ·have yh:(70:Int)<(g.ops.l.length:Int) :=by omega
     simp[dy,hT,cY,bt,uD,bE,AY,a3,yh];exact a7 rfl rfl
    ·have yh:¬ (70:Int)<(g.ops.l.length:Int) :=by omega
     simp[dy,hT,cY,bt,uD,bE,AY,a3,yh];exact a7 (congrArg ae.bool Sd) rfl
  ·have uD:¬ (16:Int)<(g.ops.l.length:Int) :=by omega
   have a3:¬ 70<g.ops.l.length:=by omega
   have yh:¬ (70:Int)<(g.ops.l.length:Int) :=by omega
   simp[dy,hT,cY,bt,uD,a3,yh];exact a7 (congrArg ae.bool Sd) rfl
structure mq (g:b9) :Prop where
 n60:g.ops.l.length<=60
 len:g.ids.l.length=g.ops.l.length
 agA:∀ (k:Nat) (o:bS) (x:List B),g.ops.l[k]? = some o->g.ids.l[k]? = some x->pD o=0/\kt o=x
 eV:eV g.ids.l=true
 Kh:∀ o∈g.ops.l,∀ p∈o.bO.l,p∈g.ids.l
 all:∀ i,i<g.ops.l.length->oA g.ids.l g.ops.l i
theorem xF {g:b9} (h:gK g=0) :mq g:=by
 unfold gK at h;split at h
 ·cases h
 ·rename_i oL;split at h
  ·rename_i ar;split at h
   ·rename_i iY;unfold oj at h;split at h
    ·rename_i aD;split at h
     ·rename_i f1;split at h
      ·rename_i lx;refine⟨by omega,ar,fun k o x az ak=>?_,aD,fun o eF p aG=>?_,(XG ar (tG aD)).1 lx⟩
       ·have:=(wJ g).1 iY k (List.getElem?_eq_some_iff.1 az).1;rw[BN az ak,Bool.and_eq_true,decide_eq_true_eq,decide_eq_true_eq] at this;exact this
       ·exact of_decide_eq_true (of_decide_eq_true f1 o eF) p aG
      ·cases h
     ·cases h
    ·cases h
   ·cases h
  ·cases h
def C9 (g:b9) (x:List B) :Int:=if gK g=0 then (if x∈g.ids.l then (uI g.ids.l x:Int) else 0) else 0
def C8 (g:b9) (x:List B) :Int:=if gK g=0 then (if x∈g.ids.l then 0 else 6) else gK g
set_option maxHeartbeats 2000000 in
theorem alf (g:b9) (ay:gT g) (x:List B) (ak:x.length=32) :bT Tryz.prog GS 87 [dv g,.aV (bb x)] (.bP [.int .i64 (C9 g x),.int .i64 (C8 g x)]) :=by
 refine cd Tryz.checked.mixed b2 ?_;apply bH Rx aaC;unfold GY MG C9 C8;have e4:=hM g.ids;have ds:=nE g.ops;have dU:=acw g ay;have g0:=ha x;have bJ:=dr ak;unfold dv ea at dU;by_cases aO:gK g=0
 ·have V:=xF aO;have au:=aby g.ids ay.ids ay.li x ak V.eV;obtain⟨X,ei⟩:∃ X,X=bb x:=⟨_,rfl⟩
  rw[<-ei] at au g0 bJ ⊢;rw[aO] at dU;simp[dv,ea,bJ,List.take_of_length_le];refine bB dU (by simp[bV,ae.closed,e4,ds]) ?_;simp[bJ,List.take_of_length_le];refine bB au (by simp[bV,ae.closed,e4,g0]) ?_;by_cases hm:x∈g.ids.l
  ·simp[hm,aO];exact a7 rfl rfl
  ·simp[hm,aO];exact a7 rfl rfl
 ·obtain⟨X,ei⟩:∃ X,X=bb x:=⟨_,rfl⟩
  rw[<-ei] at g0 bJ ⊢;simp[dv,ea,bJ,List.take_of_length_le];refine bB dU (by simp[bV,ae.closed,e4,ds]) ?_;simp[aO];exact a7 rfl rfl
def lD (ids:List (List B)) (seen:List Bool) (k:Nat) :List (List B) :=(List.range k).flatMap fun i=>if seen.getD i false=true then [cb ids i] else []
theorem Xj (ids:List (List B)) (seen:List Bool) (k:Nat) :lD ids seen (k+1)=lD ids seen k++(if seen.getD k false=true then [cb ids k] else []) :=by
 unfold lD; rw[List.range_succ,List.flatMap_append]; simp
theorem J5 (ids:List (List B)) (seen:List Bool) :∀ k,(lD ids seen k).length<=k
 | 0=>by simp[lD]
 | k+1=>by
  have:=J5 ids seen k;rw[Xj,List.length_append];split<;>simp<;>omega
theorem Xi {ids:List (List B)} {seen:List Bool} {x:List B}:∀ {k:Nat},x∈lD ids seen k<->∃ i,i<k/\seen.getD i false=true/\cb ids i=x:=by
 intro k;unfold lD;rw[List.mem_flatMap];constructor
 ·rintro⟨i,aA,ak⟩;split at ak
  ·rename_i au;rw[List.mem_singleton] at ak;exact⟨i,List.mem_range.1 aA,au,ak.symm⟩
  ·cases ak
 ·rintro⟨i,aA,au,ak⟩;exact⟨i,List.mem_range.2 aA,by rw[if_pos au,ak]; simp⟩
set_option maxHeartbeats 2000000 in
theorem alr (g:b9) (ay:gT g) (seen:eh Bool) (au:seen.l.length=g.ids.l.length) :bT Tryz.prog GS 88 [dv g,cO 1 jp seen] (bl (g7 (lD g.ids.l seen.l seen.l.length))) :=by
 refine cd Tryz.checked.mixed b2 ?_;apply bH Ry aaD;unfold GZ MH;have aD:cQ=140737488355328:=rfl;have hT:=ay.li;have e8:db (.ao 1) (cO 1 jp seen)=some (.int .i64 seen.l.length) :=oa _;simp[dv,ea,e8];refine c0 seen.l.length (fun k ah l=>ah 1=cO 1 jp seen/\ah 2=.ptr 0 0 2/\ah 8=.int .i64 seen.l.length/\ah 9=.int .i64 k/\∃ j rest,l=.cells 2 [bl g.ids,cw g.ops] ::rest ∧
  b0 32 l (ah 5) j ((lD g.ids.l seen.l k).map bb)/\(ah 5=.aZ\/1<=j)/\cS (ah 5)=(lD g.ids.l seen.l k).isEmpty) ?_ ?_
 ·rintro k ah l aF ⟨aY,a6,dN,ib,j,rest,rfl,iZ,am,iB⟩;obtain⟨v,bq⟩:∃ v,ah 5=v:=⟨_,rfl⟩
  rw[bq] at iZ am iB;obtain⟨ah,rfl⟩:=k6 aY a6 bq dN ib;clear aY a6 bq dN ib;unfold WW;by_cases cY:k<seen.l.length
  ·obtain⟨b,aj,_⟩:=cg cY;obtain⟨x,ak,d0⟩:=cg (l:=g.ids.l) (k:=k) (by omega);have a1:IntKind.i64.wrap ((k:Int)+1)=((k+1:Nat) :Int) :=by rw[IntKind.wrap_i64]; omega
   have c2:cU (.ao 1) (cO 1 jp seen) (.int .i64 (k:Int))=some (.cp [.bool b] 0) :=by rw[pa]; simp[aj,jp]
   have zj:cU (.ao 32) (bl g.ids) (.int .i64 (k:Int))=some (.cp (bb x) 0) :=by simp[bl,ak]
   have I5:seen.l.getD k false=b:=by rw[List.getD_eq_getElem?_getD,aj]; rfl
   have bJ:=dr (ay.ids x d0);have kT:=J5 g.ids.l seen.l k;have xc:=Xj g.ids.l seen.l k;rw[I5] at xc;cases b with
   | false=>
    simp at xc;simp[cY,c2,a1];rw[xc];exact⟨j,iZ,am,iB⟩
   | true=>
    rw[if_pos rfl,hq ak] at xc;obtain⟨bc,cJ,co,bt,bE,a3,a4⟩:=ym (by_:=32) (pre:=[.cells 2 [bl g.ids,cw g.ops]]) (rest:=rest++[.cells 32 (bb x)]) (iZ.more _) am (x:=.ao 32 (rest.length+1) 0 1 1 32) (xs:=[bb x])
     (by simp[dj,bJ,List.take_of_length_le]) (by simp[bJ]) (by omega) (by omega) (by rw[aD]; simp; omega)
    have cA:(lD g.ids.l seen.l (k+1)).map bb=(lD g.ids.l seen.l k).map bb++[bb x] :=by rw[xc]; simp
    obtain⟨X,ei⟩:∃ X,X=bb x:=⟨_,rfl⟩
    rw[<-ei] at zj bJ bt bE cA;have rW:bU (rep 32 (.int .u8 0)) 0 X=X:=h3 (by rw[bJ]; rfl);simp only[List.cons_append,List.nil_append] at bt;simp[cY,c2,zj,bJ,rW,List.take_of_length_le,bt];refine dM.cM ?_;simp[cY,a1];refine⟨cJ,by rw[cA]; exact bE,by simpa using a3,by rw[a4,xc]; simp⟩
  ·have oZ:k=seen.l.length:=by omega
   subst oZ;simp[cY];exact iZ.q.xQ (fun x=>ha x) (g7 _) (by rw[iB,AF]) (kB _)
 ·have aO:lD g.ids.l seen.l 0=[] :=rfl;simp[aO];exact⟨⟨0,.nil 0⟩,rfl⟩
theorem EH:∀ l:List B,eO (l.map bF) (l.map bF)=true
 | []=>rfl
 | x::l=>by
  have h1:ae.beq (bF x) (bF x)=true:=by simp[bF,ae.beq]
  show (ae.beq (bF x) (bF x)&&eO (l.map bF) (l.map bF))=true;rw[h1,EH l]; rfl
theorem adP (x:List B) :ae.beq (.aV (bb x)) (.aV (bb x))=true:=EH x
theorem Hv {x:List B} (h:x.length=32) :jI Tryz.prog 71 (.aV (bb x))=true:=by
 have h1:pf Tryz.prog 8 71=true:=by kernel_rfl
 have ag:dC Tryz.prog 71=some true:=by kernel_rfl
 have aq:cr Tryz.prog 71=some 32:=by kernel_rfl
 have aK:(x.map bF).all qP=true:=by rw[List.all_eq_true]; intro c al; obtain⟨b,_,rfl⟩:=List.mem_map.1 al; rfl
 show (pf Tryz.prog 8 71&&(match dC Tryz.prog 71,cr Tryz.prog 71 with | some true,some m=>Nat.beq (x.map bF).length m | _,_=>false)&&(x.map bF).all qP)=true;rw[h1,ag,aq,aK,List.length_map,h];rfl
theorem Xe:∀ {a b:List B},a.map (fun x=>u x)=b.map (fun x=>u x)<->a=b
 | [],[]=>by simp
 | [],_::_=>by simp
 | _::_,[]=>by simp
 | x::a,y::b=>by
  rw[List.map_cons,List.map_cons,List.cons.injEq,List.cons.injEq,Xe (a:=a) (b:=b)];simp
theorem afW {a b:List B} (aI:a.length=32) (aj:b.length=32) {D:Nat}:dT Tryz.prog (D+2) 71 (.aV (bb a)) (.aV (bb b))=some (decide (a=b)) :=by
 have h:=afY (P:=Tryz.prog) (t:=71) (e:=5) (k:=.u8) (n:=32) (by kernel_rfl) (by kernel_rfl) (by kernel_rfl) (by kernel_rfl) (x:=a.map fun x=>u x) (y:=b.map fun x=>u x) (by simp[aI]) (by simp[aj]) (D:=D);rw[List.map_map,List.map_map] at h;unfold bb;rw[show a.map bF=a.map (ae.int .u8 ∘ fun x=>u x) from rfl,show b.map bF=b.map (ae.int .u8 ∘ fun x=>u x) from rfl,h];simp only[Xe]
inductive pL:Nat->List (ae × ae × Nat)->List (List B)->Prop
 | nil (b:Nat) :pL b [] []
 | cons {b:Nat} {es:List (ae × ae × Nat)} {bQ:List (List B)} {k:List B} (n:Nat) (aF:k.length=32) (h:pL (b+1) es bQ) :pL b ((.aV (bb k),.int .i64 (b:Int),n) ::es) (k::bQ)
theorem pL.len {b:Nat} {es:List (ae × ae × Nat)} {bQ:List (List B)} (h:pL b es bQ) :es.length=bQ.length:=by induction h<;>simp_all
theorem pL.snoc {b:Nat} {es:List (ae × ae × Nat)} {bQ:List (List B)} (h:pL b es bQ) {k:List B} (aF:k.length=32) (n:Nat) :pL b (es++[(.aV (bb k),.int .i64 ((b+bQ.length:Nat) :Int),n)]) (bQ++[k]) :=by
 induction h with
 | nil b=>exact .cons n aF (.nil _)
 | @cons b es bQ k' m ed h aM=>
  refine .cons m ed ?_;rw[show b+1+bQ.length=b+(k'::bQ).length by simp; omega] at aM;exact aM
theorem SE {x:List B} (ak:x.length=32) {b:Nat} {es:List (ae × ae × Nat)} {bQ:List (List B)} (h:pL b es bQ) :∀ c,(∀ i,bQ[i]? = some x->(∀ j,j<i->bQ[j]?≠some x)->ia Tryz.prog 71 (.aV (bb x)) es c=some (some (c+i,.int .i64 ((b+i:Nat) :Int))))/\(x∉bQ->ia Tryz.prog 71 (.aV (bb x)) es c=some none) :=by
 induction h with
 | nil b=>intro c; exact⟨fun i h=>by simp at h,fun _=>rfl⟩
 | @cons b es bQ k n aF h aM=>
  intro c;unfold ia;rw[Hv aF];simp only;rw[show dT Tryz.prog 10000 71 (.aV (bb x)) (.aV (bb k))=some (decide (x=k)) from afW ak aF (D:=9998)];by_cases aw:x=k
  ·subst aw;simp only[decide_true,adP];refine⟨fun i aA eE=>?_,fun h=>absurd (by simp) h⟩;cases i with
   | zero=>rfl
   | succ i=>exact absurd rfl (eE 0 (by omega))
  ·simp only[aw,decide_false];obtain⟨h1,ag⟩:=aM (c+1);refine⟨fun i aA eE=>?_,fun h=>ag (fun h'=>h (by simp[h']))⟩;cases i with
   | zero=>simp at aA; exact absurd aA.symm aw
   | succ i=>
    rw[h1 i (by simpa using aA) (fun j am=>by have:=eE (j+1) (by omega); simpa using this)];rw[show c+1+i=c+(i+1) by omega,show b+1+i=b+(i+1) by omega]
structure lR (l:av) (j:Nat) (bQ:List (List B)) :Prop where
 e:∃ es dX,l[j]? = some (.map es dX)/\pL 0 es bQ
theorem lR.look {l:av} {j:Nat} {bQ:List (List B)} (h:lR l j bQ) (am:iL bQ) {x:List B} (ak:x.length=32) {i:Nat} (aA:bQ[i]? = some x) :tO Tryz.prog l 71 (.int .i64 0) false (.mp j) (.aV (bb x))=some (.int .i64 (i:Int)) :=by
 obtain⟨es,dX,h1,ag⟩:=h.e;have aq:qE l (.mp j)=some es:=by simp[qE,h1]
 unfold tO;rw[aq];simp only[Hv ak];rw[(SE ak ag 0).1 i aA (fun t aW aQ=>by have:=am t i x aQ aA; omega)];simp
theorem lR.put {l:av} {j:Nat} {bQ:List (List B)} (h:lR l j bQ) {x:List B} (ak:x.length=32) (aH:x∉bQ) :∃ c,qF Tryz.prog l 71 (.mp j) (.aV (bb x)) (.int .i64 (bQ.length:Int))=some (l.set j c)/\(∀ l' : av,l'[j]? = some c->lR l' j (bQ++[x])) :=by
 obtain⟨es,dX,h1,ag⟩:=h.e;unfold qF;simp only[h1,Hv ak,(SE ak ag 0).2 aH];exact⟨_,rfl,fun l' c1=>⟨_,_,c1,by have:=ag.snoc ak dX; rw[Nat.zero_add] at this; exact this⟩⟩
theorem lR.frame {l l' : av} {j:Nat} {bQ:List (List B)} (h:lR l j bQ) (am:l'[j]? = l[j]?) :lR l' j bQ:=by
 obtain⟨es,dX,h1,ag⟩:=h.e;exact⟨es,dX,by rw[am,h1],ag⟩
theorem lR.lt {l:av} {j:Nat} {bQ:List (List B)} (h:lR l j bQ) :j<l.length:=by
 obtain⟨es,dX,h1,ag⟩:=h.e;exact (List.getElem?_eq_some_iff.1 h1).1
theorem aln {P:Program} {aB:Operand->ae} {l:av} {o:Operand} {k:IntKind} {n:Int} (h:aB o=.int k n) :bR P aB l (.pn (some o))=some (.mp l.length,l++[.map [] 0]) :=by
 show (match asInt (aB o) with | some _=>some (ae.mp l.length,l++[bv.map [] 0]) | none=>none)=_;rw[h]; rfl
set_option maxHeartbeats 2000000 in
theorem ami (g:b9) (ay:gT g) (am:iL g.ids.l) {l:av} {K:ae->av->Prop} (a8:∀ j l',lR l' j g.ids.l->l.length<=j->(∀ c,c<l.length->l'[c]? = l[c]?)->l.length<=l'.length->K (.mp j) l') :
  dp Tryz.prog GS 124 [dv g] l (c:=⟨K⟩) :=by
 apply bH Ps Yx;unfold Fa K1;have hT:=ay.li;have e8:db (.ao 32) (bl g.ids)=some (.int .i64 g.ids.l.length) :=by simp[bl]
 simp[dv,ea,e8];rw[aln (k:=.i64) (n:=g.ids.l.length) (by simp)];simp[e8];refine c0 g.ids.l.length (fun k ah l'=>ah 3=.mp (l.length+1)/\ah 11=bl g.ids/\ah 12=.int .i64 g.ids.l.length/\ah 13=.int .i64 k/\lR l' (l.length+1) (g.ids.l.take k)/\(∀ c,c<l.length->l'[c]? = l[c]?)) ?_ ?_
 ·rintro k ah l' aF ⟨bi,hx,e7,hb,p6,jz⟩;obtain⟨ah,rfl⟩:=iJ bi hx e7 hb;clear bi hx e7 hb;unfold VW;by_cases cY:k<g.ids.l.length
  ·obtain⟨x,ak,d0⟩:=cg cY;have a1:IntKind.i64.wrap ((k:Int)+1)=((k+1:Nat) :Int) :=by rw[IntKind.wrap_i64]; omega
   have zj:cU (.ao 32) (bl g.ids) (.int .i64 (k:Int))=some (.cp (bb x) 0) :=by simp[bl,ak]
   have m0:=ay.ids x d0;have bJ:=dr m0;have cI:g.ids.l.take (k+1)=g.ids.l.take k++[x] :=by rw[List.take_add_one,ak]; rfl
   have eE:x∉g.ids.l.take k:=fun hm=>by
    obtain⟨t,aW⟩:=List.mem_iff_getElem?.1 hm;have jX:=(List.getElem?_eq_some_iff.1 aW).1;rw[List.length_take] at jX;rw[List.getElem?_take_of_lt (by omega)] at aW;have:=am t k x aW ak; omega
   have aS:=p6.lt;have ag3:lR (l'++[.cells 32 (bb x)]) (l.length+1) (g.ids.l.take k) :=p6.frame (List.getElem?_append_left aS);obtain⟨c,cN,dm⟩:=ag3.put m0 eE;have jB:(g.ids.l.take k).length=k:=by rw[List.length_take]; omega
   rw[jB] at cN;obtain⟨X,ei⟩:∃ X,X=bb x:=⟨_,rfl⟩
   rw[<-ei] at zj bJ cN;have rW:bU (rep 32 (.int .u8 0)) 0 X=X:=h3 (by rw[bJ]; rfl);simp[cY,zj,bJ,rW,List.take_of_length_le,cN,a1];refine⟨?_,fun c' eY=>?_⟩
   ·rw[cI];exact dm _ (by rw[List.getElem?_set_self (by simp; omega)])
   ·rw[List.getElem?_set_ne (by omega),List.getElem?_append_left (by omega)];exact jz c' eY
  ·have oZ:k=g.ids.l.length:=by omega
   rw[oZ,List.take_length] at p6;simp[cY];exact a8 _ _ p6 (by omega) jz (by have:=p6.lt; omega)
 ·simp;refine⟨⟨[],0,by simp,.nil 0⟩,fun c al=>by rw[List.getElem?_append_left al]⟩
inductive h7 (ids:List (List B)) (ops:List bS) (L:List (List B)) :Nat->Prop
 | start (p:List B) (j:Nat) (aG:p∈L) (am:ids[j]? = some p) :h7 ids ops L j
 | step (i:Nat) (p:List B) (j:Nat) (h:h7 ids ops L i) (aG:p∈df ops i) (am:ids[j]? = some p) :h7 ids ops L j
theorem h7.mono {ids:List (List B)} {ops:List bS} {L N4:List (List B)} (au:∀ p∈L,p∈N4) {i:Nat} (h:h7 ids ops L i) :h7 ids ops N4 i:=by
 induction h with
 | start p j aG am=>exact .start p j (au p aG) am
 | step i p j _ aG am aM=>exact .step i p j aM aG am
theorem h7.under {ids:List (List B)} {ops:List bS} {L:List (List B)} {i:Nat} (aA:h7 ids ops L i) {j:Nat} (h:h7 ids ops (df ops i) j) :h7 ids ops L j:=by
 induction h with
 | start p j aG am=>exact .step i p j aA aG am
 | step i3 p j _ aG am aM=>exact .step i3 p j aM aG am
structure nw (ids:List (List B)) (ops:List bS) (L:List (List B)) (S gU:List Bool) :Prop where
 len:gU.length=S.length
 mono:∀ (i:Nat),S[i]? = some true->gU[i]? = some true
 st:∀ p∈L,∀ (j:Nat),ids[j]? = some p->gU[j]? = some true
 new:∀ (i:Nat),gU[i]? = some true->S[i]? = some true\/(h7 ids ops L i/\∀ p∈df ops i,∀ (j:Nat),ids[j]? = some p->gU[j]? = some true)
theorem acs (ids:List (List B)) (ops:List bS) (S:List Bool) :nw ids ops [] S S:=⟨rfl,fun _ h=>h,fun p aG=>by simp at aG,fun _ h=>.inl h⟩
theorem acu {ids:List (List B)} {ops:List bS} {L:List (List B)} {p:List B} {S N5 ir:List Bool} (h1:nw ids ops L S N5) (ag:nw ids ops [p] N5 ir) :nw ids ops (L++[p]) S ir:=by
 refine⟨ag.len.trans h1.len,fun i h=>ag.mono i (h1.mono i h),fun q bp j am=>?_,fun i h=>?_⟩
 ·rw[List.mem_append] at bp;rcases bp with bp | bp
  ·exact ag.mono j (h1.st q bp j am)
  ·exact ag.st q bp j am
 ·rcases ag.new i h with aq | ⟨aq,aK⟩
  ·rcases h1.new i aq with bg | ⟨bg,bL⟩
   ·exact .inl bg
   ·exact .inr ⟨bg.mono fun q bp=>by simp[bp],fun q bp j am=>ag.mono j (bL q bp j am)⟩
  ·exact .inr ⟨aq.mono fun q bp=>by simp at bp; simp[bp],aK⟩
theorem apK {ids:List (List B)} {ops:List bS} (gg:iL ids) {p:List B} {i:Nat} {S:List Bool} (aA:ids[i]? = some p) (au:S[i]? = some true) :nw ids ops [p] S S:=by
 refine⟨rfl,fun _ h=>h,fun q bp j am=>?_,fun _ h=>.inl h⟩;rw[List.mem_singleton] at bp;subst bp;rw[gg j i q am aA];exact au
theorem apL {ids:List (List B)} {ops:List bS} (gg:iL ids) {p:List B} {i:Nat} {S ir:List Bool} (aA:ids[i]? = some p) (ar:i<S.length) (h:nw ids ops (df ops i) (S.set i true) ir) :nw ids ops [p] S ir:=by
 have hit:ir[i]? = some true:=h.mono i (List.getElem?_set_self ar);have U1:h7 ids ops [p] i:=.start p i (by simp) aA;refine⟨by rw[h.len]; simp,fun j am=>h.mono j ?_,fun q bp j am=>?_,fun j am=>?_⟩
 ·by_cases iA:i=j
  ·subst iA; exact List.getElem?_set_self ar
  ·rw[List.getElem?_set_ne iA]; exact am
 ·rw[List.mem_singleton] at bp;subst bp;rw[gg j i q am aA];exact hit
 ·rcases h.new j am with h1 | ⟨h1,ag⟩
  ·by_cases iA:i=j
   ·subst iA;exact .inr ⟨U1,fun q bp t aW=>h.st q bp t aW⟩
   ·rw[List.getElem?_set_ne iA] at h1;exact .inl h1
  ·exact .inr ⟨U1.under h1,ag⟩
theorem apJ {ids:List (List B)} {ops:List bS} {L:List (List B)} {n:Nat} {S:List Bool} (h:nw ids ops L (List.replicate n false) S) (i:Nat) :S[i]? = some true<->h7 ids ops L i:=by
 have eE:∀ (j:Nat),(List.replicate n false)[j]?≠some true:=fun j am=>by
  have:=List.eq_of_mem_replicate (List.mem_of_getElem? am);cases this
 constructor
 ·intro aA;rcases h.new i aA with h1 | ⟨h1,_⟩
  ·exact absurd h1 (eE i)
  ·exact h1
 ·intro aA
  induction aA with
  | start p j aG am=>exact h.st p aG j am
  | step i p j _ aG am aM=>
   rcases h.new i aM with h1 | ⟨_,ag⟩
   ·exact absurd h1 (eE i)
   ·exact ag p aG j am
structure mo (g:b9) (ey jm jl iS fM iD:Nat) (S:List Bool) (l:av) :Prop where
 a:l[ey]? = some (.cells 1 [.mp iD])
 s:l[jm]? = some (.cells 1 [.ao 1 fM 0 g.ids.l.length g.ids.l.length g.ids.l.length])
 BH:l[jl]? = some (.cells 2 [bl g.ids,cw g.ops])
 v:l[iS]? = some (.cells 1 [.fn 125 [] [.ptr ey 0 1,.ptr jm 0 1,.ptr jl 0 2,.ptr iS 0 1]])
 m:lR l iD g.ids.l
 r:l[fM]? = some (.cells g.ids.l.length (S.map ae.bool))
 n:S.length=g.ids.l.length
 ne:fM≠ey/\fM≠jm/\fM≠jl/\fM≠iS/\fM≠iD
theorem mo.frame {g:b9} {ey jm jl iS fM iD:Nat} {S:List Bool} {l l' : av} (h:mo g ey jm jl iS fM iD S l) (aJ:∀ c,c<l.length->l'[c]? = l[c]?) :mo g ey jm jl iS fM iD S l':=by
 have lt:∀ {c:Nat} {x:bv},l[c]? = some x->c<l.length:=fun h=>(List.getElem?_eq_some_iff.1 h).1
 exact⟨(aJ _ (lt h.a)).trans h.a,(aJ _ (lt h.s)).trans h.s,(aJ _ (lt h.BH)).trans h.BH,(aJ _ (lt h.v)).trans h.v,h.m.frame (aJ _ h.m.lt),(aJ _ (lt h.r)).trans h.r,h.n,h.ne⟩
theorem mo.more {g:b9} {ey jm jl iS fM iD:Nat} {S:List Bool} {l:av} (h:mo g ey jm jl iS fM iD S l) (x:av) :mo g ey jm jl iS fM iD S (l++x) :=h.frame fun c al=>List.getElem?_append_left al
theorem mo.set {g:b9} {ey jm jl iS fM iD:Nat} {S:List Bool} {l:av} (h:mo g ey jm jl iS fM iD S l) (i:Nat) :mo g ey jm jl iS fM iD (S.set i true) (l.set fM (.cells g.ids.l.length ((S.set i true).map ae.bool))) :=by
 obtain⟨lE,qH,sf,pq,j2⟩:=h.ne;have ar:fM<l.length:=(List.getElem?_eq_some_iff.1 h.r).1;exact⟨by rw[List.getElem?_set_ne lE]; exact h.a,by rw[List.getElem?_set_ne qH]; exact h.s,by rw[List.getElem?_set_ne sf]; exact h.BH,by rw[List.getElem?_set_ne pq]; exact h.v,h.m.frame (List.getElem?_set_ne j2),List.getElem?_set_self ar,by simpa using h.n,h.ne⟩
theorem SN:iU Tryz.prog 125=true:=by kernel_rfl
set_option maxHeartbeats 4000000 in
theorem apE (g:b9) (ay:gT g) (V:mq g) (ey jm jl iS fM iD:Nat) :∀ (m:Nat) (S:List Bool) (l:av) (p:List B) (i:Nat) (K:ae->av->Prop),S.count false<=m->mo g ey jm jl iS fM iD S l->g.ids.l[i]? = some p->
  (∀ l' gU,nw g.ids.l g.ops.l [p] S gU->mo g ey jm jl iS fM iD gU l'->(∀ c,c<l.length->c≠fM->l'[c]? = l[c]?)->l.length<=l'.length->gU.count false<=S.count false->K (.bP []) l')->
  dp Tryz.prog GS 125 [.aV (bb p),.ptr ey 0 1,.ptr jm 0 1,.ptr jl 0 2,.ptr iS 0 1] l (c:=⟨K⟩) :=by
 have gg:=tG V.eV;intro m
 induction m using Nat.strongRecOn with
 | _ m aM=>
  intro S l p i K hm te aA a8;apply bH Pt Yy;unfold Fb K2;have qo:=List.mem_of_getElem? aA;have vl:=ay.ids p qo;have d5:=(List.getElem?_eq_some_iff.1 aA).1;have jB:=(te.more [.cells 32 (bb p)]).m.look gg vl aA;have bJ:=dr vl;obtain⟨X,ei⟩:∃ X,X=bb p:=⟨_,rfl⟩
  rw[<-ei] at jB bJ ⊢;have uZ:=te.more [.cells 32 X];obtain⟨l1,fI⟩:∃ l1,l1=l++[bv.cells 32 X] :=⟨_,rfl⟩
  rw[<-fI] at uZ jB;have ahz:l1[l.length]? = some (.cells 32 X) :=by rw[fI]; simp
  have d6:d1 l1 (.ptr ey 0 1)=some ([.mp iD],0) :=by simp only[d1,uZ.a]; simp
  have e9:d1 l1 (.ptr jm 0 1)=some ([.ao 1 fM 0 g.ids.l.length g.ids.l.length g.ids.l.length],0) :=by simp only[d1,uZ.s]; simp
  have tX:d1 l1 (.ptr l.length 0 32)=some (X,0) :=by simp only[d1,ahz]; simp
  have tY:d1 l1 (.ptr fM i g.ids.l.length)=some (S.map ae.bool,i) :=by simp only[d1,uZ.r]; simp
  have T9:cU (.ao 1) (.ao 1 fM 0 g.ids.l.length g.ids.l.length g.ids.l.length) (.int .i64 (i:Int))=some (.ptr fM i g.ids.l.length) :=by
   simp only[cU];rw[if_pos ⟨trivial,by omega,by omega⟩];simp
  obtain⟨b,aj,_⟩:=cg (l:=S) (k:=i) (by rw[te.n]; exact d5);have as0:(S.map ae.bool)[i]? = some (.bool b) :=by rw[List.getElem?_map,aj]; rfl
  have Iy:l1.length=l.length+1:=by rw[fI]; simp
  have T0:∀ c,c<l.length->c≠fM->l1[c]? = l[c]?:=fun c al _=>by rw[fI,List.getElem?_append_left al]
  cases b with
  | true=>
   simp[bJ,<-fI,d6,e9,tX,jB,T9,tY,aj,List.take_of_length_le];exact a8 l1 S (apK gg aA aj) uZ T0 (by omega) (Nat.le_refl _)
  | false=>
   have cI:je 1 l1 (.ptr fM i g.ids.l.length) (.bool true)=some (l1.set fM (.cells g.ids.l.length ((S.set i true).map ae.bool))) :=by
    simp only[je,ae.cells,uZ.r];rw[if_pos (by simp; omega)];have ag:bU (S.map ae.bool) i [ae.bool true]=(S.set i true).map ae.bool:=md ae.bool S i true (by rw[te.n]; exact d5);rw[ag]
   have H1:=uZ.set i;obtain⟨ce,gC⟩:∃ ce,ce=l1.set fM (.cells g.ids.l.length ((S.set i true).map ae.bool)) :=⟨_,rfl⟩
   rw[<-gC] at cI H1;have qQ:d1 ce (.ptr jl 1 2)=some ([bl g.ids,cw g.ops],1) :=by simp only[d1,H1.BH]; simp
   obtain⟨o,az,eF⟩:=cg (l:=g.ops.l) (k:=i) (by rw[<-V.len]; exact d5);have c2:cU (.ao 11) (cw g.ops) (.int .i64 (i:Int))=some (.cp (bz o) 0) :=by simp[cw,az]
   have p5:(bz o).length=11:=rfl;have lr:(bz o)[1]? = some (bl o.bO) :=rfl;have o2:=ay.ops o eF;have gD:=o2.len;have mQ:db (.ao 32) (bl o.bO)=some (.int .i64 o.bO.l.length) :=by simp[bl]
   obtain⟨O,e3⟩:∃ O,O=bz o:=⟨_,rfl⟩
   rw[<-e3] at c2 p5 lr;have ah0:∀ c,c<l.length->c≠fM->ce[c]? = l[c]?:=fun c al b7=>by rw[gC,List.getElem?_set_ne (Ne.symm b7)]; exact T0 c al b7
   have Iz:l.length<=ce.length:=by rw[gC]; simp; omega
   have asU:(S.set i true).count false+1<=S.count false:=by
    have aie:i<S.length:=by rw[te.n]; exact d5
    have rL:S[i]=false:=(List.getElem?_eq_some_iff.1 aj).2;have kr:0<S.count false:=List.count_pos_iff.2 (List.mem_of_getElem? aj);rw[List.count_set aie,rL];simp; omega
   simp[bJ,<-fI,d6,e9,tX,jB,T9,tY,aj,List.take_of_length_le,cI,qQ,c2,lr,mQ];refine c0 o.bO.l.length (fun q ah l'=>ah 4=.ptr iS 0 1/\ah 24=bl o.bO/\ah 25=.int .i64 o.bO.l.length/\ah 26=.int .i64 q/\∃ gU,nw g.ids.l g.ops.l (o.bO.l.take q) (S.set i true) gU/\mo g ey jm jl iS fM iD gU l' ∧
    (∀ c,c<l.length->c≠fM->l'[c]? = l[c]?)/\l.length<=l'.length/\gU.count false<=(S.set i true).count false) ?_ ?_
   ·rintro q ah l' bp ⟨bI,mB,ki,kj,gU,u1,uY,jz,o0,asW⟩;obtain⟨ah,rfl⟩:=iJ bI mB ki kj;clear bI mB ki kj;unfold VX;by_cases fJ:q<o.bO.l.length
    ·obtain⟨bX,fD,zx⟩:=cg fJ;obtain⟨j,am⟩:=List.mem_iff_getElem?.1 (V.Kh o eF bX zx);have a1:IntKind.i64.wrap ((q:Int)+1)=((q+1:Nat) :Int) :=by rw[IntKind.wrap_i64]; omega
     have hc:cU (.ao 32) (bl o.bO) (.int .i64 (q:Int))=some (.cp (bb bX) 0) :=by simp[bl,fD]
     have r1:=dr ((ay.ops o eF).ids bX zx);have u0:=uY.more [.cells 32 (bb bX)];have tZ:d1 (l'++[bv.cells 32 (bb bX)]) (.ptr iS 0 1)=some ([.fn 125 [] [.ptr ey 0 1,.ptr jm 0 1,.ptr jl 0 2,.ptr iS 0 1]],0) :=by simp only[d1,u0.v]; simp
     have kN:=aM (m - 1) (by omega) gU (l'++[bv.cells 32 (bb bX)]) bX j;obtain⟨rj,H2⟩:∃ rj,rj=bb bX:=⟨_,rfl⟩
     rw[<-H2] at hc r1 u0 tZ kN;have rW:bU (rep 32 (.int .u8 0)) 0 rj=rj:=h3 (by rw[r1]; rfl);simp[fJ,hc,r1,rW,List.take_of_length_le,tZ];refine⟨SN,kN _ (by omega) u0 am ?_⟩;intro ek En b5 w2 d2 pE uu;simp[fJ,a1];refine⟨En,?_,w2,fun c al b7=>?_,by simp at pE; omega,by omega⟩
     ·rw[List.take_add_one,fD];exact acu u1 b5
     ·rw[d2 c (by simp; omega) b7,List.getElem?_append_left (by omega)];exact jz c al b7
    ·have n0:q=o.bO.l.length:=by omega
     rw[n0,List.take_length] at u1;simp[fJ];exact a8 l' gU (apL gg aA (by rw[te.n]; exact d5) (by rw[vH az]; exact u1)) uY jz o0 (by omega)
   ·simp;exact⟨S.set i true,acs _ _ _,H1,ah0,Iz,Nat.le_refl _⟩
open Classical in
noncomputable def nb (g:b9) (L:List (List B)) :List Bool:=(List.range g.ids.l.length).map fun i=>decide (h7 g.ids.l g.ops.l L i)
theorem MS (g:b9) (L:List (List B)) :(nb g L).length=g.ids.l.length:=by simp[nb]
open Classical in
theorem anB {g:b9} {L:List (List B)} {S:List Bool} (h:nw g.ids.l g.ops.l L (List.replicate g.ids.l.length false) S) :S=nb g L:=by
 have bw:S.length=g.ids.l.length:=by rw[h.len]; simp
 apply List.ext_getElem?;intro i;by_cases aA:i<g.ids.l.length
 ·have h1:=apJ h i;obtain⟨b,aj,_⟩:=cg (l:=S) (k:=i) (by omega);rw[aj] at h1 ⊢;unfold nb;rw[List.getElem?_map,List.getElem?_range aA];simp only[Option.map_some,Option.some.injEq] at h1 ⊢;cases b with
  | true=>exact (decide_eq_true (h1.1 rfl)).symm
  | false=>exact (decide_eq_false fun aQ=>by have:=h1.2 aQ; cases this).symm
 ·rw[List.getElem?_eq_none (by omega),List.getElem?_eq_none (by rw[MS]; omega)]
set_option maxHeartbeats 4000000 in
theorem MU (g:b9) (ay:gT g) (V:mq g) (L:fS) (fY:ik L) (rH:L.l.length<=1000000) (ec:∀ p∈L.l,p∈g.ids.l) :bT Tryz.prog GS 89 [dv g,bl L] (cO 1 jp (some (nb g L.l))) :=by
 refine cd Tryz.checked.mixed b2 ?_;apply bH Rz aaE;unfold G0 MI;have aD:cQ=140737488355328:=rfl;have hT:=ay.li;have ais:db (.ao 32) (bl L)=some (.int .i64 L.l.length) :=by simp[bl]
 have air:db (.ao 32) (bl g.ids)=some (.int .i64 g.ids.l.length) :=by simp[bl]
 have gg:=tG V.eV;simp[dv,ea];refine ami g ay gg ?_;intro iD l1 p6 wY jz o0;obtain⟨d6,rfl⟩:∃ r,l1=bv.cells 2 [bl g.ids,cw g.ops] ::r:=Aa ((jz 0 (by simp)).trans rfl);obtain⟨bt,_⟩:=Di (z:=1) (by_:=1) (n:=g.ids.l.length) (k:=.i64) (k':=.i64) (zero:=[ae.bool false]) (l:=(bv.cells 2 [bl g.ids,cw g.ops] ::d6)++[bv.cells 1 [.mp iD]]) rfl (by omega) (by rw[aD]; omega);simp only[Nat.mul_one,MX (α:=Nat),List.cons_append] at bt;simp[air,ais,bt];obtain⟨ey,TE⟩:∃ ey,ey=d6.length+1:=⟨_,rfl⟩
 have q1:d6.length+1+1=ey+1:=by omega
 have im:d6.length+2+1=ey+2:=by omega
 have sn:d6.length+3+1=ey+3:=by omega
 rw[q1,show ey+1+1=ey+2 from rfl,sn,<-TE];have Uh:=p6.lt;simp at Uh wY;refine c0 L.l.length (fun q ah l'=>ah 6=.ptr (ey+2) 0 1/\ah 7=.ptr (ey+3) 0 1/\ah 17=bl L/\ah 18=.int .i64 L.l.length/\ah 19=.int .i64 q/\∃ gU,nw g.ids.l g.ops.l (L.l.take q) (List.replicate g.ids.l.length false) gU/\mo g ey (ey+2) 0 (ey+3) (ey+1) iD gU l') ?_ ?_
 ·rintro q ah l' bp ⟨cx,eb,my,mz,mA,gU,u1,uY⟩;obtain⟨ah,rfl⟩:=k6 cx eb my mz mA;clear cx eb my mz mA;unfold WX;by_cases fJ:q<L.l.length
  ·obtain⟨bX,fD,zx⟩:=cg fJ;obtain⟨j,am⟩:=List.mem_iff_getElem?.1 (ec bX zx);have a1:IntKind.i64.wrap ((q:Int)+1)=((q+1:Nat) :Int) :=by rw[IntKind.wrap_i64]; omega
   have hc:cU (.ao 32) (bl L) (.int .i64 (q:Int))=some (.cp (bb bX) 0) :=by simp[bl,fD]
   have r1:=dr (fY bX zx);have u0:=uY.more [.cells 32 (bb bX)];have tZ:d1 (l'++[bv.cells 32 (bb bX)]) (.ptr (ey+3) 0 1)=some ([.fn 125 [] [.ptr ey 0 1,.ptr (ey+2) 0 1,.ptr 0 0 2,.ptr (ey+3) 0 1]],0) :=by simp only[d1,u0.v]; simp
   have kN:=apE g ay V ey (ey+2) 0 (ey+3) (ey+1) iD (gU.count false) gU (l'++[bv.cells 32 (bb bX)]) bX j;obtain⟨rj,H2⟩:∃ rj,rj=bb bX:=⟨_,rfl⟩
   rw[<-H2] at hc r1 u0 tZ kN;have rW:bU (rep 32 (.int .u8 0)) 0 rj=rj:=h3 (by rw[r1]; rfl);simp[fJ,hc,r1,rW,List.take_of_length_le,tZ];refine⟨SN,kN _ (Nat.le_refl _) u0 am ?_⟩;intro ek En b5 w2 d2 pE uu;simp[fJ,a1];exact⟨En,by rw[List.take_add_one,fD]; exact acu u1 b5,w2⟩
  ·have n0:q=L.l.length:=by omega
   rw[n0,List.take_length] at u1;have kM:=anB u1;have vJ:d1 l' (.ptr (ey+2) 0 1)=some ([.ao 1 (ey+1) 0 g.ids.l.length g.ids.l.length g.ids.l.length],0) :=by simp only[d1,uY.s]; simp
   simp[fJ,vJ];rw[<-kM];have fT:(gU.map jp).flatten=gU.map ae.bool:=by
    have:∀ t:List Bool,(t.map jp).flatten=t.map ae.bool:=fun t=>by induction t with | nil=>rfl | cons b t aM=>simp[jp,aM]
    exact this gU
   have iZ:b0 1 l' (.ao 1 (ey+1) 0 g.ids.l.length g.ids.l.length (g.ids.l.length*1)) (ey+1) (gU.map jp) :=al9 (fun _ _=>rfl) uY.n (by rw[Nat.mul_one,fT]; exact uY.r);rw[Nat.mul_one] at iZ;exact iZ.q.xQ (fun _=>rfl) (some gU) rfl rfl
 ·simp;refine⟨List.replicate g.ids.l.length false,acs _ _ _,?_⟩;subst TE;refine⟨by simp,by simp,by simp,by simp,p6.frame (by rw[<-List.cons_append]; exact List.getElem?_append_left (by simpa using Uh)),by simp,by simp,by omega⟩
noncomputable def iQ (g:b9) (i:Nat) :List (List B) :=lD g.ids.l (nb g (df g.ops.l i)) g.ids.l.length
set_option maxHeartbeats 2000000 in
theorem adA (g:b9) (ay:gT g) (V:mq g) (aO:gK g=0) (x:List B) (i:Nat) (aA:g.ids.l[i]? = some x) :bT Tryz.prog GS 56 [dv g,.aV (bb x)] (.bP [bl (g7 (iQ g i)),.int .i64 0]) :=by
 refine cd Tryz.checked.mixed b2 ?_;apply bH Q4 Z8;unfold Gv Mk;have d0:=List.mem_of_getElem? aA;have ak:=ay.ids x d0;have e4:=hM g.ids;have ds:=nE g.ops;have jB:=alf g ay x ak;have o0:C9 g x=i:=by unfold C9; rw[if_pos aO,if_pos d0,R3 V.eV aA]
 have dO:C8 g x=0:=by unfold C8; rw[if_pos aO,if_pos d0]
 rw[o0,dO] at jB;have g0:=ha x;have bJ:=dr ak;have d5:=(List.getElem?_eq_some_iff.1 aA).1;obtain⟨o,az,eF⟩:=cg (l:=g.ops.l) (k:=i) (by rw[<-V.len]; exact d5);have c2:cU (.ao 11) (cw g.ops) (.int .i64 (i:Int))=some (.cp (bz o) 0) :=by simp[cw,az]
 have lr:(bz o)[1]? = some (bl o.bO) :=rfl;have I0:=MU g ay V o.bO (ay.ops o eF).ids (ay.ops o eF).len (V.Kh o eF);have w3:=alr g ay (some (nb g o.bO.l)) (by simp[MS]);have y6:iQ g i=lD g.ids.l (nb g o.bO.l) (nb g o.bO.l).length:=by unfold iQ; rw[vH az,MS]
 have TS:(cO 1 jp (some (nb g o.bO.l))).closed=true:=uF (fun _=>rfl) _;have th:=hM o.bO;obtain⟨X,ei⟩:∃ X,X=bb x:=⟨_,rfl⟩
 obtain⟨O,e3⟩:∃ O,O=bz o:=⟨_,rfl⟩
 obtain⟨M,lq⟩:∃ M,M=cO 1 jp (some (nb g o.bO.l)) :=⟨_,rfl⟩
 rw[<-ei] at jB g0 bJ ⊢;rw[<-e3] at c2 lr;rw[<-lq] at I0 w3 TS;rw[eh.JU,<-y6] at w3;unfold dv ea at jB I0 w3;simp[dv,ea,bJ,List.take_of_length_le];refine bB jB (by simp[bV,ae.closed,e4,ds,g0]) ?_;simp[c2,lr];refine bB I0 (by simp[bV,ae.closed,e4,ds,th]) ?_;simp;refine bB w3 (by simp[bV,ae.closed,e4,ds,TS]) ?_;simp;exact a7 rfl (by simp[ae.closed,bV,hM])
theorem ake {l:List (List B)} (am:iL l) {i:Nat} {x:List B} (aA:l[i]? = some x) :lC x l 0=(i:Int) :=by
 have:=C0 (n:=0) aA (fun t z aW aC kY=>by subst kY; have:=am t i z aC aA; omega) rfl;simpa using this
theorem anp (g:b9) (ay:gT g) (am:iL g.ids.l) {i:Nat} {x:List B} {o:bS} (aA:g.ids.l[i]? = some x) (az:g.ops.l[i]? = some o) :bT Tryz.prog GS 35 [dv g,.aV (bb x)] (.aV (bz o)) :=by
 refine cd Tryz.checked.mixed b2 ?_;apply bH QL ZP;unfold Gl Ma;have ak:=ay.ids x (List.mem_of_getElem? aA);have e4:=hM g.ids;have g0:=ha x;have bJ:=dr ak;have fy:=aaS g.ids ay.ids ay.li x ak;rw[ake am aA] at fy;have d5:=(List.getElem?_eq_some_iff.1 az).1;have dy:db (.ao 11) (cw g.ops)=some (.int .i64 g.ops.l.length) :=by simp[cw]
 have c2:cU (.ao 11) (cw g.ops) (.int .i64 (i:Int))=some (.cp (bz o) 0) :=by simp[cw,az]
 have dQ:(bz o).length=11:=rfl;have ds:=nD o;have h1:¬ (i:Int)<0:=by omega
 have ag:¬ (g.ops.l.length:Int)<=(i:Int) :=by omega
 obtain⟨X,ei⟩:∃ X,X=bb x:=⟨_,rfl⟩
 obtain⟨O,e3⟩:∃ O,O=bz o:=⟨_,rfl⟩
 rw[<-ei] at fy g0 bJ ⊢;rw[<-e3] at c2 dQ ds ⊢;have l5:bU [ae.int .u32 0,.aZ,.int .u64 0,.int .u8 0,.str [],.int .u8 0,.int .i64 0,.int .u64 0,.str [],.int .u32 0,.int .u32 0] 0 O=O:=h3 (by rw[dQ]; rfl);simp[dv,ea,bJ,List.take_of_length_le];refine bB fy (by simp[bV,ae.closed,e4,g0]) ?_;simp[h1,ag,d5,dy,c2,dQ,l5,List.take_of_length_le];exact a7 rfl (by simp[ae.closed,ds])
structure yg (ids:List (List B)) (ops:List bS) (i:Nat) (x:List B) (out next:List (List B)) :Prop where
 j3:out.Nodup
 k2:∀ p∈out,∃ j,ids[j]? = some p/\h7 ids ops (df ops i) j
 ps:∀ q∈next,q=x\/q∈out
 pV:∀ q,(q=x\/q∈out)->q∉next->∀ (j:Nat),ids[j]? = some q->∀ p∈df ops j,p∈out
theorem ap6 {ids:List (List B)} {ops:List bS} {i:Nat} {x:List B}:yg ids ops i x [] [x] :=
 ⟨List.nodup_nil,fun p aG=>by simp at aG,fun q bp=>by simp at bp; exact .inl bp,fun q bp aH=>by
  rcases bp with rfl | bp
  ·exact absurd (by simp) aH
  ·cases bp⟩
theorem ap4 {ids:List (List B)} {ops:List bS} {i:Nat} {x:List B} {out:List (List B)} (aA:ids[i]? = some x) (h:yg ids ops i x out []) (j:Nat) (p:List B) (am:ids[j]? = some p) (gg:iL ids) :p∈out<->h7 ids ops (df ops i) j:=by
 constructor
 ·intro aG;obtain⟨cJ,ev,aD⟩:=h.k2 p aG;rw[gg j cJ p am ev];exact aD
 ·intro aD;have:∀ {t:Nat},h7 ids ops (df ops i) t->∀ q,ids[t]? = some q->q∈out:=by
   intro t aW
   induction aW with
   | start p j aG am=>
    intro q bp;rw[am] at bp;obtain rfl:=Option.some.inj bp;exact h.pV x (.inl rfl) (by simp) i aA p aG
   | step i3 p j aD aG am aM=>
    intro q bp;rw[am] at bp;obtain rfl:=Option.some.inj bp;have d5:∃ y,ids[i3]? = some y:=by
     cases aD with
     | start bX _ fD ev=>exact⟨bX,ev⟩
     | step Vk bX _ jD fD ev=>exact⟨bX,ev⟩
    obtain⟨y,aP⟩:=d5;exact h.pV y (.inr (aM y aP)) (by simp) i3 aP p aG
  exact this aD p am
structure sJ (ids:List (List B)) (ops:List bS) (i:Nat) (x:List B) (q:List B) (j k:Nat) (out next:List (List B)) :Prop where
 j3:out.Nodup
 k2:∀ p∈out,∃ t,ids[t]? = some p/\h7 ids ops (df ops i) t
 KF:q=x\/q∈out
 ps:∀ r∈next,r=x\/r∈out
 pV:∀ r,(r=x\/r∈out)->r∉next->r≠q->∀ (t:Nat),ids[t]? = some r->∀ p∈df ops t,p∈out
 KB:∀ p∈(df ops j).take k,p∈out
theorem aqa {ids:List (List B)} {ops:List bS} {i:Nat} {x q:List B} {j:Nat} {out next:List (List B)} (h:yg ids ops i x out (q::next)) :sJ ids ops i x q j 0 out next:=
 ⟨h.j3,h.k2,h.ps q (by simp),fun r aD=>h.ps r (by simp[aD]),fun r aD aH b7=>h.pV r aD (by simp[aH,b7]),fun p aG=>by simp at aG⟩
theorem ap8 {ids:List (List B)} {ops:List bS} (gg:iL ids) {i:Nat} {x q:List B} {j:Nat} {out next:List (List B)} (bp:ids[j]? = some q) (h:sJ ids ops i x q j (df ops j).length out next) :yg ids ops i x out next:=by
 refine⟨h.j3,h.k2,h.ps,fun r aD aH t aW p aG=>?_⟩;by_cases U3:r=q
 ·subst U3;rw[gg t j r aW bp] at aG;exact h.KB p (by rw[List.take_length]; exact aG)
 ·exact h.pV r aD aH U3 t aW p aG
theorem ap9 {ids:List (List B)} {ops:List bS} {i:Nat} {x q:List B} {j k:Nat} {out next:List (List B)} {p:List B} (h:sJ ids ops i x q j k out next) (aG:(df ops j)[k]? = some p) (az:p∈out) :sJ ids ops i x q j (k+1) out next:=by
 refine⟨h.j3,h.k2,h.KF,h.ps,h.pV,fun r aD=>?_⟩;rw[List.take_add_one,aG,List.mem_append] at aD;rcases aD with aD | aD
 ·exact h.KB r aD
 ·simp at aD; subst aD; exact az
theorem acD {ids:List (List B)} {ops:List bS} (gg:iL ids) {i:Nat} {x q:List B} {j k:Nat} {out next:List (List B)} {p:List B} {t:Nat} (h:sJ ids ops i x q j k out next) (aA:ids[i]? = some x) (bp:ids[j]? = some q) (aG:(df ops j)[k]? = some p) (aW:ids[t]? = some p) (az:p∉out) :
  sJ ids ops i x q j (k+1) (out++[p]) (next++[p]) :=by
 have qo:=List.mem_of_getElem? aG;refine⟨?_,fun r aD=>?_,h.KF.imp_right fun aQ=>by simp[aQ],fun r aD=>?_,fun r aD aH b7 u aL bX fD=>?_,fun r aD=>?_⟩
 ·rw[List.nodup_append];refine⟨h.j3,by simp,fun a aI b aj e=>?_⟩;rw[List.mem_singleton] at aj;subst e;rw[aj] at aI;exact az aI
 ·rw[List.mem_append,List.mem_singleton] at aD;rcases aD with aD | rfl
  ·exact h.k2 r aD
  ·refine⟨t,aW,?_⟩;rcases h.KF with ajb | aja
   ·subst ajb;rw[gg j i q bp aA] at qo;exact .start r t qo aW
   ·obtain⟨cJ,ev,jD⟩:=h.k2 q aja;rw[gg cJ j q ev bp] at jD;exact .step j r t jD qo aW
 ·rw[List.mem_append,List.mem_singleton] at aD;rcases aD with aD | rfl
  ·exact (h.ps r aD).imp_right fun aQ=>by simp[aQ]
  ·exact .inr (by simp)
 ·have aje:r≠p:=fun e=>aH (by simp[e])
  have jD:r=x\/r∈out:=aD.imp_right fun aQ=>by
   rw[List.mem_append,List.mem_singleton] at aQ;exact aQ.resolve_right aje
  have:=h.pV r jD (fun aQ=>aH (by simp[aQ])) b7 u aL bX fD;simp[this]
 ·rw[List.take_add_one,aG,List.mem_append] at aD;rcases aD with aD | aD
  ·have:=h.KB r aD; simp[this]
  ·simp at aD; simp[aD]
theorem Ns:∀ {a b:List (List B)},a.Nodup->(∀ x∈a,x∈b)->a.length<=b.length
 | [],_,_,_=>Nat.zero_le _
 | x::a,b,aH,au=>by
  rw[List.nodup_cons] at aH;have ak:=au x (by simp);have aM:=Ns (b:=b.erase x) aH.2 (fun y aP=>(List.mem_erase_of_ne (fun e=>aH.1 (by rw[<-e]; exact aP))).2 (au y (by simp[aP])));rw[List.length_erase_of_mem ak] at aM;have:=List.length_pos_of_mem ak;simp; omega
structure mj (pre:av) (v5 dh:ae) (out next:List (List B)) (b:Nat) (rest:av) :Prop where
 ex:∃ fL gi,dB 32 (pre++rest) v5 fL (out.map bb)/\dB 32 (pre++rest) dh gi (next.map bb)/\(v5=.aZ\/(pre.length<=fL/\fL≠gi/\fL≠b))/\pre.length<=gi/\gi≠b/\cS v5=out.isEmpty/\cS dh=false
theorem mj.amt {pre:av} {v5 dh:ae} {out next:List (List B)} {b:Nat} {rest:av} (h:mj pre v5 dh out next b rest) (aj:b<(pre++rest).length) {p:List B} (aG:p.length=32) (dk:(out.length+1)*32<=cQ) :
  ∃ bc co,iR (pre++(rest++[.cells 32 (bb p)])) 32 32 v5 (.ao 32 (pre.length+rest.length) 0 1 1 32)=some (bc,pre++co)/\mj pre bc dh (out++[p]) next b co/\(pre++co)[b]? = (pre++rest)[b]?/\b<(pre++co).length:=by
 obtain⟨fL,gi,hD,m4,bg,bL,uT,j2,n6⟩:=h;have gD:=dr aG;have hm:pre++(rest++[bv.cells 32 (bb p)])=(pre++rest)++[bv.cells 32 (bb p)] :=by rw[List.append_assoc]
 have Kb:dB 32 (pre++(rest++[bv.cells 32 (bb p)])) v5 fL (out.map bb) :=by rw[hm]; exact hD.more _
 have Kc:dB 32 (pre++(rest++[bv.cells 32 (bb p)])) dh gi (next.map bb) :=by rw[hm]; exact m4.more _
 obtain⟨bc,cJ,co,aY,a6,bi,bI,bq,cx⟩:=Oq (by_:=32) Kb (bg.imp_right fun h=>h.1) (x:=.ao 32 (pre.length+rest.length) 0 1 1 32) (xs:=[bb p]) (by
  have:(pre++(rest++[bv.cells 32 (bb p)]))[pre.length+rest.length]? = some (.cells 32 (bb p)) :=by
   rw[hm,List.getElem?_append_right (by simp)]; simp
  simp only[dj,this];simp[gD,List.take_of_length_le]) (by simp[gD]) (by omega) (by omega) (by simpa using dk)
 have gM:cS bc=false:=by rw[bI]; simp
 have b7:bc≠.aZ:=fun e=>by rw[e] at gM; cases gM
 have o0:(pre++(rest++[bv.cells 32 (bb p)])).length=(pre++rest).length+1:=by simp; omega
 have as7:gi<(pre++rest).length:=by
  rcases m4.lt with e | e
  ·rw[e] at n6; cases n6
  ·exact e
 have f6:v5=.aZ\/gi≠fL:=bg.imp_right fun h=>Ne.symm h.2.1
 have af8:v5=.aZ\/b≠fL:=bg.imp_right fun h=>Ne.symm h.2.2
 have KE:=bq gi (by omega) f6;have Am:=bq b (by omega) af8;have az:(pre++(rest++[bv.cells 32 (bb p)]))[b]? = (pre++rest)[b]?:=by rw[hm,List.getElem?_append_left aj]
 refine⟨bc,co,aY,⟨⟨cJ,gi,by rw[List.map_append]; exact a6,Kc.yU (.inr KE),.inr ⟨bi.resolve_left b7,?_,?_⟩,bL,uT,by rw[gM]; simp,n6⟩⟩,Am.trans az,?_⟩
 ·rcases cx.resolve_left b7 with ⟨a1,b3⟩ | e
  ·rw[b3]; exact (bg.resolve_left a1).2.1
  ·omega
 ·rcases cx.resolve_left b7 with ⟨a1,b3⟩ | e
  ·rw[b3]; exact (bg.resolve_left a1).2.2
  ·omega
 ·have:=Am.trans az;have fe:(pre++rest)[b]?≠none:=by rw[List.getElem?_eq_getElem aj]; simp
  rw[<-this] at fe;exact Nat.lt_of_not_le fun h=>fe (List.getElem?_eq_none h)
theorem mj.amu {pre:av} {v5 dh:ae} {out next:List (List B)} {b:Nat} {rest:av} (h:mj pre v5 dh out next b rest) (aj:b<(pre++rest).length) {p:List B} (aG:p.length=32) (dk:(next.length+1)*32<=cQ) :
  ∃ bc co,iR (pre++(rest++[.cells 32 (bb p)])) 32 32 dh (.ao 32 (pre.length+rest.length) 0 1 1 32)=some (bc,pre++co)/\mj pre v5 bc out (next++[p]) b co/\(pre++co)[b]? = (pre++rest)[b]?/\b<(pre++co).length:=by
 obtain⟨fL,gi,hD,m4,bg,bL,uT,j2,n6⟩:=h;have gD:=dr aG;have hm:pre++(rest++[bv.cells 32 (bb p)])=(pre++rest)++[bv.cells 32 (bb p)] :=by rw[List.append_assoc]
 have Kb:dB 32 (pre++(rest++[bv.cells 32 (bb p)])) v5 fL (out.map bb) :=by rw[hm]; exact hD.more _
 have Kc:dB 32 (pre++(rest++[bv.cells 32 (bb p)])) dh gi (next.map bb) :=by rw[hm]; exact m4.more _
 obtain⟨bc,cJ,co,aY,a6,bi,bI,bq,cx⟩:=Oq (by_:=32) Kc (.inr bL) (x:=.ao 32 (pre.length+rest.length) 0 1 1 32) (xs:=[bb p]) (by
  have:(pre++(rest++[bv.cells 32 (bb p)]))[pre.length+rest.length]? = some (.cells 32 (bb p)) :=by
   rw[hm,List.getElem?_append_right (by simp)]; simp
  simp only[dj,this];simp[gD,List.take_of_length_le]) (by simp[gD]) (by omega) (by omega) (by simpa using dk)
 have gM:cS bc=false:=by rw[bI]; simp
 have b7:bc≠.aZ:=fun e=>by rw[e] at gM; cases gM
 have o0:(pre++(rest++[bv.cells 32 (bb p)])).length=(pre++rest).length+1:=by simp; omega
 have Am:=bq b (by omega) (.inr (Ne.symm uT));have az:(pre++(rest++[bv.cells 32 (bb p)]))[b]? = (pre++rest)[b]?:=by rw[hm,List.getElem?_append_left aj]
 have Ug:cJ=gi\/(pre++rest).length+1<=cJ:=(cx.resolve_left b7).imp (fun h=>h.2) (fun h=>by omega);refine⟨bc,co,aY,⟨⟨fL,cJ,?_,by rw[List.map_append]; exact a6,?_,bi.resolve_left b7,?_,j2,gM⟩⟩,Am.trans az,?_⟩
 ·rcases bg with e | ⟨a1,b3,dD⟩
  ·subst e;rw[hD.xA]; exact .nil _
  ·refine Kb.yU ?_;rcases hD.lt with e | e
   ·exact .inl e
   ·exact .inr (bq fL (by omega) (.inr b3))
 ·rcases bg with e | ⟨a1,b3,dD⟩
  ·exact .inl e
  ·rcases hD.lt with e | e
   ·exact .inl e
   ·refine .inr ⟨a1,?_,dD⟩;rcases Ug with h | h<;>omega
 ·rcases Ug with h | h<;>omega
 ·have:=Am.trans az;have fe:(pre++rest)[b]?≠none:=by rw[List.getElem?_eq_getElem aj]; simp
  rw[<-this] at fe;exact Nat.lt_of_not_le fun h=>fe (List.getElem?_eq_none h)
theorem mj.ap7 {pre:av} {v5 dh:ae} {out next:List (List B)} {b:Nat} {rest:av} (h:mj pre v5 dh out next b rest) (aG:1<=pre.length) :mj pre v5 dh out next 0 rest:=by
 obtain⟨fL,gi,hD,m4,bg,bL,uT,j2,n6⟩:=h;exact⟨⟨fL,gi,hD,m4,bg.imp_right fun h=>⟨h.1,h.2.1,by omega⟩,bL,by omega,j2,n6⟩⟩
theorem acB {ids:List (List B)} {ops:List bS} {i:Nat} {x q:List B} {j k:Nat} {out next:List (List B)} (h:sJ ids ops i x q j k out next) :out.length<=ids.length:=Ns h.j3 fun p aG=>by
 obtain⟨t,aW,_⟩:=h.k2 p aG;exact List.mem_of_getElem? aW
structure acN (g:b9) (pre:av) (o:bS) (b m i:Nat) (x q:List B) (j:Nat) (k:Nat) (ah:bj) (l:av) :Prop where
 a6:ah 2=.ptr 0 0 2
 eb:ah 7=.ptr b 0 11
 dN:ah 8=.int .i64 k
 ex:∃ out next rest,l=pre++rest/\mj pre (ah 5) (ah 6) out next b rest/\(pre++rest)[b]? = some (.cells 11 (bz o))/\sJ g.ids.l g.ops.l i x q j k out next/\2*(g.ids.l.length - out.length)+next.length+1<=m
structure acO (g:b9) (pre:av) (i:Nat) (x:List B) (m:Nat) (ah:bj) (l:av) :Prop where
 a6:ah 2=.ptr 0 0 2
 ex:∃ out next rest,l=pre++rest/\mj pre (ah 5) (ah 6) out next 0 rest/\yg g.ids.l g.ops.l i x out next/\m=2*(g.ids.l.length - out.length)+next.length
 le:m<=1000
set_option maxHeartbeats 8000000 in
theorem adp (g:b9) (ay:gT g) (V:mq g) {i:Nat} {x:List B} (aA:g.ids.l[i]? = some x) :
  dp Tryz.prog GS 29 [dv g,.aV (bb x)] [] (c:=⟨fun r l=>∃ out,(∀ (j:Nat) (p:List B),g.ids.l[j]? = some p->(p∈out<->h7 g.ids.l g.ops.l (df g.ops.l i) j))/\(∀ p∈out,p∈g.ids.l)/\out.length<=g.ids.l.length/\Rd l r (bl (g7 out))⟩) :=by
 apply bH QG ZK;unfold Gh L6;have aD:cQ=140737488355328:=rfl;have hT:=ay.li;have gg:=tG V.eV;have ak:=ay.ids x (List.mem_of_getElem? aA);have bJ:=dr ak;have e4:=hM g.ids;have ds:=nE g.ops;have UD:=V.n60;have bw:=V.len;obtain⟨pre,CF⟩:∃ pre,pre=[bv.cells 2 [bl g.ids,cw g.ops],bv.cells 32 (bb x)] :=⟨_,rfl⟩
 have qn:pre.length=2:=by rw[CF]; rfl
 have kV:∀ rest,d1 (pre++rest) (.ptr 0 0 2)=some ([bl g.ids,cw g.ops],0) :=fun rest=>by rw[CF]; simp
 have uU:mj pre .aZ (.ao 32 2 0 1 1 32) [] [x] 0 [.cells 32 (bb x)] :=by
  refine⟨⟨0,2,.nil 0,?_,.inl rfl,by omega,by omega,rfl,rfl⟩⟩;refine b0.q (.ao 2 1 1 32 (bb x) _ (by rw[CF]; rfl) bJ rfl (fun e aw=>by simp at aw; rw[aw]; exact bJ) (Nat.le_refl _) (by omega) ?_);rw[List.take_of_length_le (by rw[bJ]; omega)]; simp
 have ajo:bU (rep 32 (.int .u8 0)) 0 (bb x)=bb x:=h3 (by rw[bJ]; rfl);simp[dv,ea,bJ,ajo,List.take_of_length_le];refine xu (acO g pre i x) ?_ (2*g.ids.l.length+1) _ _ ?_
 ·rintro m ah l ⟨a6,⟨out,next,rest,rfl,cR,eR,hm⟩,fr⟩;obtain⟨v5,bq⟩:∃ v,ah 5=v:=⟨_,rfl⟩
  obtain⟨dh,cx⟩:∃ v,ah 6=v:=⟨_,rfl⟩
  rw[bq,cx] at cR;obtain⟨ah,rfl⟩:=k5 a6 bq cx;clear a6 bq cx;unfold Wy;obtain⟨fL,gi,hD,m4,bg,bL,uT,j2,n6⟩:=id cR.ex;have Up:db (.ao 32) dh=some (.int .i64 next.length) :=by have:=m4.len; simpa using this
  cases next with
  | nil=>
   simp[Up];refine⟨out,fun j p am=>ap4 aA eR j p am gg,fun p aG=>?_,?_,?_⟩
   ·obtain⟨t,aW,_⟩:=eR.k2 p aG;exact List.mem_of_getElem? aW
   ·exact Ns eR.j3 fun p aG=>by
     obtain⟨t,aW,_⟩:=eR.k2 p aG;exact List.mem_of_getElem? aW
   ·exact hD.xQ (fun x=>ha x) (g7 out) (by rw[j2,AF]) (kB _)
  | cons q ps=>
   have UX:q∈g.ids.l:=by
    rcases eR.ps q (by simp) with e | e
    ·rw[e]; exact List.mem_of_getElem? aA
    ·obtain⟨t,aW,_⟩:=eR.k2 q e; exact List.mem_of_getElem? aW
   obtain⟨j,am⟩:=List.mem_iff_getElem?.1 UX;have eD:=(List.getElem?_eq_some_iff.1 am).1;obtain⟨o,az,eF⟩:=cg (l:=g.ops.l) (k:=j) (by rw[<-V.len]; exact eD);have ai6:=ay.ids q UX;have fJ:=dr ai6;have f1:=anp g ay gg am az;have dQ:(bz o).length=11:=rfl;have lr:(bz o)[1]? = some (bl o.bO) :=rfl;have o2:=ay.ops o eF;have atm:=o2.len;have mQ:db (.ao 32) (bl o.bO)=some (.int .i64 o.bO.l.length) :=by simp[bl]
   have o3:df g.ops.l j=o.bO.l:=vH az;obtain⟨Kp,yx,x7,bt,bE,a3,a4⟩:=m4.get (k:=.i64) (i:=0) (e:=bb q) (by simp);obtain⟨pC,dV,dK,gu⟩:=m4.from n6 (k:=.i64) (i:=1) (by simp);have uD:cU (.ao 32) dh (.int .i64 0)=some Kp:=bt;have adI:fu (.ao 32) dh (some (.int .i64 1)) none none=some pC:=dV;obtain⟨O,e3⟩:∃ O,O=bz o:=⟨_,rfl⟩
   obtain⟨Q,ag4⟩:∃ Q,Q=bb q:=⟨_,rfl⟩
   have TR:=ha q;rw[<-e3] at f1 dQ lr;rw[<-ag4] at a4 f1 TR fJ;unfold dv ea at f1;obtain⟨b,aj⟩:∃ b,b=pre.length+rest.length:=⟨_,rfl⟩
   have fA:(pre++rest).length=b:=by rw[aj]; simp
   obtain⟨Z,p9⟩:∃ Z,Z=[ae.int .u32 0,.aZ,.int .u64 0,.int .u8 0,.str [],.int .u8 0,.int .i64 0,.int .u64 0,.str [],.int .u32 0,.int .u32 0] :=⟨_,rfl⟩
   have oM:Z.length=11:=by rw[p9]; rfl
   have l5:bU Z 0 O=O:=h3 (by rw[dQ,oM]);have dY:∀ y,(pre++(rest++[y]))[b]? = some y:=fun y=>by rw[aj,<-List.append_assoc,List.getElem?_append_right (by simp)]; simp
   have nO:∀ y z:bv,(pre++(rest++[y])).set b z=pre++(rest++[z]) :=fun y z=>by rw[aj,<-List.append_assoc,List.set_append_right _ _ (by simp)]; simp
   have cI:je 11 (pre++(rest++[bv.cells 11 Z])) (.ptr b 0 11) (.aV O)=some (pre++(rest++[bv.cells 11 O])) :=by
    simp only[abK,dY,RP,Option.bind_some,aoP];rw[if_pos (by simp[dQ]),nO,l5]
   simp[Up,kV,uD,bE,a3,a4,fJ,List.take_of_length_le,<-p9,<-aj,oM];refine bB f1 (by simp[bV,ae.closed,e4,ds,TR]) ?_;have CP:=cI;simp only[abK,RP,Option.bind_some] at CP;have as6:gi<b:=by
    rcases m4.lt with e | e
    ·rw[e] at n6; cases n6
    ·rw[fA] at e; exact e
   have Tk:mj pre v5 pC out ps b (rest++[bv.cells 11 O]) :=by
    refine⟨⟨fL,gi,?_,?_,?_,bL,by omega,j2,gu⟩⟩
    ·rw[<-List.append_assoc]; exact hD.more _
    ·rw[<-List.append_assoc];have:dB 32 (pre++rest) pC gi (ps.map bb) :=by simpa using dK
     exact this.more _
    ·rcases bg with e | ⟨a1,b3,dD⟩
     ·exact .inl e
     ·rcases hD.lt with e | e
      ·exact .inl e
      ·exact .inr ⟨a1,b3,by rw[fA] at e; omega⟩
   simp[fA,dY,CP,adI,oM,<-aj,nO,l5,dQ];refine c0 o.bO.l.length (acN g pre o b m i x q j) ?_ ⟨by simp,by simp,by simp,out,ps,_,rfl,by simpa using Tk,by rw[<-e3]; exact dY _,aqa eR,by simp at hm; omega⟩;clear cR eR hm hD m4 bg bL uT j2 n6 Tk;rintro k ah l aF ⟨a6,eb,dN,out,next,rest,rfl,cR,qb,tf,ai3⟩;obtain⟨v5,bq⟩:∃ v,ah 5=v:=⟨_,rfl⟩
   obtain⟨dh,cx⟩:∃ v,ah 6=v:=⟨_,rfl⟩
   rw[bq,cx] at cR;obtain⟨ah,rfl⟩:=k6 a6 bq cx eb dN;clear a6 bq cx eb dN;unfold Wx;rw[<-e3] at qb;have asQ:=qb;by_cases cY:k<o.bO.l.length
   ·obtain⟨p,aG,qo⟩:=cg cY;have tz:=V.Kh o eF p qo;obtain⟨t,aW⟩:=List.mem_iff_getElem?.1 tz;have vl:=ay.ids p tz;have gD:=dr vl;have a1:IntKind.i64.wrap ((k:Int)+1)=((k+1:Nat) :Int) :=by rw[IntKind.wrap_i64]; omega
    have hc:cU (.ao 32) (bl o.bO) (.int .i64 (k:Int))=some (.cp (bb p) 0) :=by simp[bl,aG]
    obtain⟨fL,gi,hD,m4,bg,bL,uT,j2,n6⟩:=id cR.ex;have l4:=hD.qV (enc:=bb) (xs:=out) (fun x=>ha x) (g7 out) (by rw[j2,AF]) (kB _);have ath:=acB tf;have dP:ik (g7 out) :=fun y aP=>by
     rw[kB] at aP;obtain⟨u,aL,_⟩:=tf.k2 y aP;exact ay.ids y (List.mem_of_getElem? aL)
    have ec:=aaV (g7 out) dP (by rw[kB]; omega) p vl;rw[kB] at ec;have th:=ha p;have IQ:(df g.ops.l j)[k]? = some p:=by rw[o3]; exact aG
    obtain⟨Y,gf⟩:∃ Y,Y=bb p:=⟨_,rfl⟩
    rw[<-gf] at ec hc gD th;have zC:bU (rep 32 (.int .u8 0)) 0 Y=Y:=h3 (by rw[gD]; rfl);simp[mQ,qb,lr,cY,hc,gD,List.take_of_length_le];refine jc ec (.cons l4 (.cons (.same _ (by simp[ae.closed,th])) .nil)) rfl ?_;by_cases o2:p∈out
    ·simp[o2,a1];exact⟨cY,by simp,by simp,by simp,out,next,rest,rfl,by simpa using cR,by rw[<-e3]; exact qb,ap9 tf IQ o2,ai3⟩
    ·have ahs:b<(pre++rest).length:=(List.getElem?_eq_some_iff.1 qb).1;have ati:out.length+1<=g.ids.l.length:=acB (acD gg tf aA am IQ aW o2) |> fun h=>by simpa using h
     obtain⟨awT,tX,me,nh,AJ,AK⟩:=cR.amt ahs vl (by rw[aD]; omega);obtain⟨pC,tY,b5,w2,d2,pE⟩:=nh.amu AK vl (by rw[aD]; omega);have TH:(pre++tX)[b]? = some (.cells 11 O) :=by rw[AJ]; exact qb
     have ahu:(pre++tY)[b]? = some (.cells 11 O) :=by rw[d2]; exact TH
     rw[<-gf] at me b5;simp[o2,qb,lr,hc,gD,zC,List.take_of_length_le,me];refine dM.cM ?_;simp[TH,lr,hc,gD,zC,List.take_of_length_le,b5];refine dM.cM ?_;simp[a1];exact⟨cY,by simp,by simp,by simp,out++[p],next++[p],tY,rfl,by simpa using w2,by rw[<-e3]; exact ahu,acD gg tf aA am IQ aW o2,by simp; omega⟩
   ·simp[mQ,qb,lr,cY];have aiq:k=(df g.ops.l j).length:=by rw[o3]; omega
    rw[aiq] at tf;exact⟨_,by omega,by simp,⟨out,next,rest,rfl,by simpa using cR.ap7 (by omega),ap8 gg am tf,rfl⟩,by omega⟩
 ·exact⟨by simp,⟨[],[x],[.cells 32 (bb x)],by rw[CF]; rfl,by simpa using uU,ap6,by simp⟩,by omega⟩
structure br where
 key:List UInt8
 id:List B
 deriving DecidableEq
def ep (t:br) :List ae:=.str t.key::bb t.id
abbrev jQ:=eh br
def hv (s:jQ) :ae:=cO 33 ep s
def pt (l:List br) :Prop:=∀ t∈l,t.id.length=32
theorem wy {t:br} (h:t.id.length=32) :(ep t).length=33:=by simp[ep,dr h]
theorem Hb (t:br) :bV (ep t)=true:=by simp[ep,bV,ae.closed,ha]
theorem Bn (s:jQ) :(hv s).closed=true:=uF Hb s
abbrev k3 (a b:List UInt8) :Bool:=Go.Op.bytesLess a b
theorem vO (a b:List UInt8) :k3 a b=true<->a<b:=by unfold k3; rw[Go.Proofs.bytesLess_eq]; simp
@[simp] theorem ark (a b:List UInt8) :oG .lss a b=some (.bool (k3 a b)) :=id rfl
@[simp] theorem arj (a b:List UInt8) :oG .gtr a b=some (.bool (!(k3 a b||decide (a=b)))) :=by
 by_cases h:a=b<;>simp[oG,h]
def yH (a b:List UInt8) :Int:=if k3 a b then -1 else if a=b then 0 else 1
theorem Xq (a:List UInt8) :bT Tryz.prog GS 112 [.str a] (.bool false) :=by
 refine cd Tryz.checked.mixed b2 ?_;apply bH Ph Yn;unfold E0 KR;simp;exact a7 rfl rfl
theorem afg (a b:List UInt8) :bT Tryz.prog GS 75 [.str a,.str b] (.int .i64 (yH a b)) :=by
 refine cd Tryz.checked.mixed b2 ?_;apply bH Rn aas;unfold GM My yH;simp;refine bB (Xq a) rfl ?_;simp;refine bB (Xq b) rfl ?_;cases h1:k3 a b with
 | true=>
  simp[h1];exact a7 rfl rfl
 | false=>
  by_cases ag:a=b
  ·subst ag;simp[h1];exact a7 rfl rfl
  ·simp[h1,ag];exact a7 rfl rfl
def Dq (a b:Int) :Int:=if a=0 then b else a
theorem anE {l:av} {b:Nat} {x y:Int} (h:l[b]? = some (.cells 2 [.int .i64 x,.int .i64 y])) :fc (bY l) (.ao 1 b 0 2 2 2) (.bW 1 [[.int .i64 x],[.int .i64 y]]) :=by
 refine Ap (rest:=[]) (es:=[[.int .i64 x],[.int .i64 y]]) (by simpa using h) rfl (by simp) (by simp[bV,ae.closed])
theorem alW (x y:Int) :bT Tryz.prog GS 74 [.bW 1 [[.int .i64 x],[.int .i64 y]]] (.int .i64 (Dq x y)) :=by
 refine cd Tryz.checked.mixed b2 ?_;apply bH Rm aar;unfold GL Mx Dq;simp;obtain⟨X,ei⟩:∃ X,X=ae.bW 1 [[.int .i64 x],[.int .i64 y]] :=⟨_,rfl⟩
 rw[<-ei];refine c0 2 (fun k ah l=>ah 3=.int .i64 0/\ah 6=X/\ah 7=.int .i64 2/\ah 8=.int .i64 k/\(1<=k->x=0)/\(2<=k->y=0)) ?_ (by simp[ei]);rintro k ah l aF ⟨bi,cx,eb,dN,h1,ag⟩;obtain⟨ah,rfl⟩:=iJ bi cx eb dN;clear bi cx eb dN;unfold WO;rcases k with _ | _ | k
 ·by_cases ak:x=0
  ·simp[ei,ak]; exact rfl
  ·simp[ei,ak]; exact a7 rfl rfl
 ·have ak:=h1 (by omega);by_cases aP:y=0
  ·simp[ei,ak,aP]; exact rfl
  ·simp[ei,ak,aP]; exact a7 rfl rfl
 ·obtain rfl:k=0:=by omega
  have ak:=h1 (by omega);have aP:=ag (by omega);simp[ei,ak,aP]; exact a7 rfl rfl
def jo (a b:br) :Int:=Dq (yH a.key b.key) (cG a.id b.id)
def el (a b:br) :Bool:=if a.key=b.key then decide (cG a.id b.id<0) else k3 a.key b.key
theorem XJ {l:av} {j:Nat} {c:ae} {a:List B} (aI:a.length=32) (am:l[j]? = some (.cells 33 (c::bb a))) :dB 1 l (.ao 1 j 1 32 32 33) j (a.map b8) :=by
 refine .ao j 1 32 32 33 (c::bb a) _ am (by simp[bb,aI]) (by simp[aI]) (fun e aw=>?_) (Nat.le_refl _) (by omega) ?_
 ·obtain⟨x,_,rfl⟩:=List.mem_map.1 aw; rfl
 ·simp only[List.drop_succ_cons,List.drop_zero];rw[List.take_of_length_le (by simp[bb,aI]),ww]; rfl
theorem R1 (a b:br) (aI:a.id.length=32) (aj:b.id.length=32) :bT Tryz.prog GS 41 [.aV (ep a),.aV (ep b)] (.int .i64 (jo a b)) :=by
 refine cd Tryz.checked.mixed b2 ?_;apply bH QQ ZU;unfold Gn Md jo;have h1:=dr aI;have ag:=dr aj;simp[ep,h1,ag];refine bB (afg _ _) rfl ?_;have al:=OG (some a.id) (some b.id) (by simp[aI,aj]);simp;refine jc al ?_ rfl ?_
 ·exact .cons ((XJ (j:=0) (c:=.str a.key) aI rfl).qV (fun _=>rfl) (some a.id) rfl rfl) (.cons ((XJ (j:=1) (c:=.str b.key) aj rfl).qV (fun _=>rfl) (some b.id) rfl rfl) .nil)
 ·simp;refine jc (alW (yH a.key b.key) (cG a.id b.id)) (.cons (anE (by simp)) .nil) rfl ?_;simp;exact a7 rfl rfl
abbrev nr:=eh (List UInt8)
def hN (k:List UInt8) :List ae:=[.str k]
def lY (s:nr) :ae:=cO 1 hN s
theorem RU (s:nr) :(lY s).closed=true:=uF (fun _=>rfl) s
theorem apV (s:nr) (ar:s.l.length<=1000000) (x:List UInt8) :bT Tryz.prog GS 81 [lY s,.str x] (.int .i64 (lC x s.l 0)) :=by
 refine cd Tryz.checked.mixed b2 ?_;apply bH Rr aaw;unfold GO MA;simp[lY];refine c0 s.l.length (fun k ah l=>ah 0=cO 1 hN s/\ah 1=.str x/\ah 7=.int .i64 s.l.length/\ah 8=.int .i64 k/\∀ (j:Nat) (z:List UInt8),j<k->s.l[j]? = some z->z≠x) ?_ (by simp[lY]);rintro k ah l aF ⟨cz,aY,eb,dN,au⟩;obtain⟨ah,rfl⟩:=iJ cz aY eb dN;clear cz aY eb dN;unfold WP;simp;refine qB (fun h=>?_) (fun h=>?_)
 ·simp only[decide_eq_true_eq] at h;obtain⟨y,aP,eA⟩:=cg (l:=s.l) (k:=k) (by omega);have a1:IntKind.i64.wrap ((k:Int)+1)=((k+1:Nat) :Int) :=by rw[IntKind.wrap_i64]; omega
  by_cases aw:x=y
  ·have fC:=C0 (n:=0) aP au aw.symm;simp[aP,hN,aw];exact a7 (by rw[<-aw,fC]; simp) rfl
  ·simp[aP,hN,aw,a1];refine⟨by omega,fun j z am aC=>?_⟩;by_cases hS:j=k
   ·subst hS; rw[aP] at aC; obtain rfl:=Option.some.inj aC; exact fun h=>aw h.symm
   ·exact au j z (by omega) aC
 ·simp[h];have nS:k=s.l.length:=by simp at h; omega
  exact a7 (by rw[JE fun j z aC=>au j z (by rw[nS]; exact (List.getElem?_eq_some_iff.1 aC).1) aC]) rfl
theorem apU (s:nr) (ar:s.l.length<=1000000) (x:List UInt8) :bT Tryz.prog GS 47 [lY s,.str x] (.bool (decide (x∈s.l))) :=by
 refine cd Tryz.checked.mixed b2 ?_;apply bH QV ZZ;unfold Gp Me;simp;refine bB (apV s ar x) (by have:=RU s; simp_all [bV,ae.closed]) ?_;simp;exact a7 (congrArg ae.bool (by simp only[JD])) rfl
def nN (l:List br) (k:List UInt8) :Bool:=decide (k∈l.map br.key)
theorem ahj {l:List br} {k:List UInt8} {t:br} (h:t∈l) (aF:t.key=k) :nN l k=true:=decide_eq_true (by rw[<-aF]; exact List.mem_map_of_mem h)
theorem Hc (a b:br) :(jo a b<0)<->el a b=true:=by
 unfold jo yH Dq el;by_cases h:a.key=b.key
 ·have aA:k3 b.key b.key=false:=by
   cases aj:k3 b.key b.key with
   | false=>rfl
   | true=>exact absurd ((vO _ _).1 aj) (List.lt_irrefl _)
  simp[h,aA]
 ·cases aj:k3 a.key b.key with
  | true=>simp[h]
  | false=>simp[h]
def nf (l:List br) (k:Nat) :br:=l.getD k ⟨[],[]⟩
theorem om {l:List br} {k:Nat} {x:br} (h:l[k]? = some x) :nf l k=x:=by
 unfold nf; rw[List.getD_eq_getElem?_getD,h]; rfl
def rB (l:List br) (k:Nat) :Bool:=gk (nf l k).key&&(decide (k=0)||el (nf l (k - 1)) (nf l k))
def kL (l:List br) :Bool:=decide (∀ k,k<l.length->rB l k=true)
def k4 (l:List br) :Int:=if 60<l.length then 4 else if kL l then 0 else 8
theorem Tc {l:List br} (h:∀ k,k<l.length->rB l k=true) :kL l=true:=decide_eq_true h
theorem Tb {l:List br} {k:Nat} (aF:k<l.length) (h:rB l k=false) :kL l=false:=decide_eq_false fun aQ=>by rw[aQ k aF] at h; cases h
theorem adr (k:List UInt8) :iO ⟨2#8,k,pH⟩=gk k:=by
 rw[yi rfl];have:lB pH=true:=by decide
 simp[this]
theorem Nk {E:List ae} (h:E.length=33) :bU (ae.str [] ::rep 32 (.int .u8 0)) 0 E=E:=h3 (by rw[h]; rfl)
theorem apZ (s:jQ) (az:pt s.l) (ar:s.l.length<=1000000) :bT Tryz.prog GS 18 [.aV [hv s]] (.int .i64 (k4 s.l)) :=by
 refine cd Tryz.checked.mixed b2 ?_;apply bH Ql Zq;unfold FP xM k4;have bw:db (.ao 33) (hv s)=some (.int .i64 s.l.length) :=by simp[hv]
 by_cases h1:60<s.l.length
 ·have er:(60:Int)<(s.l.length:Int) :=by omega
  simp[bw,er];exact a7 (by rw[if_pos h1]) rfl
 ·have er:¬ (60:Int)<(s.l.length:Int) :=by omega
  simp[bw,er];refine c0 s.l.length (fun k ah l=>(∃ r,l=.cells 1 [hv s] ::r)/\ah 1=.ptr 0 0 1/\ah 10=hv s/\ah 11=.int .i64 s.l.length/\ah 12=.int .i64 k/\∀ j,j<k->rB s.l j=true) ?_ (by simp);rintro k ah l aF ⟨⟨r,rfl⟩,aY,eP,hx,e7,au⟩;obtain⟨ah,rfl⟩:=iJ aY eP hx e7;clear aY eP hx e7;unfold Wk;simp;refine qB (fun h=>?_) (fun h=>?_)
  ·simp only[decide_eq_true_eq] at h;obtain⟨y,aP,eA⟩:=cg (l:=s.l) (k:=k) (by omega);have eJ:=wy (az y eA);have a1:IntKind.i64.wrap ((k:Int)+1)=((k+1:Nat) :Int) :=by rw[IntKind.wrap_i64]; omega
   have b3:1<=k->IntKind.i64.wrap ((k:Int) - 1)=((k - 1:Nat) :Int) :=fun h=>by rw[IntKind.wrap_i64]; omega
   have TA:=RQ ⟨2#8,y.key,pH⟩;rw[adr] at TA;have iY:rB s.l k=(gk y.key&&(decide (k=0)||el (nf s.l (k - 1)) y)) :=by unfold rB; rw[om aP]
   have mY:=Nk eJ;obtain⟨E,eQ⟩:∃ E,E=bb y.id:=⟨_,rfl⟩
   have wM:ep y=.str y.key::E:=by rw[eQ]; rfl
   have rF:E.length=32:=by rw[eQ]; exact dr (az y eA)
   have agU:bV E=true:=by rw[eQ]; exact ha _
   rw[wM] at eJ mY;simp[hv,aP,wM,rF,mY,List.take_of_length_le];refine bB TA rfl ?_;cases bg:gk y.key with
   | false=>
    rw[bg,Bool.false_and] at iY;simp[jr];exact a7 (by rw[if_neg h1,Tb h iY]; rfl) rfl
   | true=>
    rw[bg,Bool.true_and] at iY;rcases k with _ | k
    ·simp[jr,a1];exact⟨by omega,rfl,by rw[IntKind.wrap_i64]; omega,by rw[iY]; rfl⟩
    ·obtain⟨x,ak,d0⟩:=cg (l:=s.l) (k:=k) (by omega);have bJ:=wy (az x d0);have dD:IntKind.i64.wrap (k:Int)=(k:Int) :=by rw[IntKind.wrap_i64]; omega
     have kr:(0:Int)<(k:Int)+1:=by omega
     have ho:=R1 x y (az x d0) (az y eA);rw[wM] at ho;simp only[Nat.add_sub_cancel,om ak,Nat.add_eq_zero_iff,Nat.one_ne_zero,and_false,decide_false,Bool.false_or] at iY;simp[jr,kr,ak,bJ,dD,rF,List.take_of_length_le];refine bB ho (by simp[bV,ae.closed,agU,Hb]) ?_;have Cd:=Hc x y;by_cases bL:jo x y<0
     ·rw[Cd.1 bL] at iY;have tb:¬ (0:Int)<=jo x y:=by omega
      simp[tb,a1];refine⟨by omega,rfl,by rw[IntKind.wrap_i64]; omega,fun j am=>?_⟩;by_cases hS:j=k+1
      ·rw[hS,iY]
      ·exact au j (by omega)
     ·have tb:(0:Int)<=jo x y:=by omega
      have et:el x y=false:=by
       cases gd:el x y with
       | false=>rfl
       | true=>exact absurd (Cd.2 gd) bL
      rw[et] at iY;simp[tb];exact a7 (by rw[if_neg h1,Tb h iY]; rfl) rfl
  ·simp[h];have nS:k=s.l.length:=by simp at h; omega
   exact a7 (by rw[if_neg h1,if_pos (Tc fun j am=>au j (by omega))]) rfl
abbrev g4 (l:List (List UInt8)) (k:Nat) :List UInt8:=l.getD k []
def nF (l:List (List UInt8)) (m:Nat) :List (List UInt8) :=(List.range m).flatMap fun k=>if k=0\/g4 l k≠g4 l (k - 1) then [g4 l k] else []
def p0 (l:List (List UInt8)) :List (List UInt8) :=nF l l.length
theorem yJ (l:List (List UInt8)) (m:Nat) :nF l (m+1)=nF l m++(if m=0\/g4 l m≠g4 l (m - 1) then [g4 l m] else []) :=by
 unfold nF; rw[List.range_succ,List.flatMap_append]; simp
theorem Se (l:List (List UInt8)) :∀ m,(nF l m).length<=m
 | 0=>by simp[nF]
 | m+1=>by
  have:=Se l m;rw[yJ,List.length_append];split<;>simp<;>omega
theorem Bt {l:List (List UInt8)}:∀ {m},m<=l.length->(∀ k,1<=k->k<m->g4 l k≠g4 l (k - 1))->nF l m=l.take m
 | 0,_,_=>by simp[nF]
 | m+1,hm,h=>by
  rw[yJ,Bt (by omega) (fun k h1 ag=>h k h1 (by omega)),List.take_add_one,if_pos (by
   by_cases aO:m=0
   ·exact .inl aO
   ·exact .inr (h m (by omega) (by omega)))]
  congr 1;unfold g4;rw[List.getD_eq_getElem?_getD,List.getElem?_eq_getElem (by omega)];rfl
theorem VO {a:List (List UInt8)} {k:Nat} (h:k<a.length) :(a.map hN)[k]? = some (hN (g4 a k)) :=by
 rw[List.getElem?_map];unfold g4;rw[List.getD_eq_getElem?_getD,List.getElem?_eq_getElem h];rfl
theorem Vr {a:List (List UInt8)} {k:Nat} (h:k<a.length) :g4 a k∈a:=by
 unfold g4;rw[List.getD_eq_getElem?_getD,List.getElem?_eq_getElem h];exact List.getElem_mem h
structure acY (l:av) (v:ae) (xs:List (List UInt8)) (k:Nat) (ah:bj) (l1:av) :Prop where
 cz:ah 0=v
 bi:ah 3=.int .i64 ((k+1:Nat) :Int)
 ar:l1=l
 au:∀ j,1<=j->j<k+1->g4 xs j≠g4 xs (j - 1)
structure acX (l:av) (v dt:ae) (j:Nat) (xs:List (List UInt8)) (m i:Nat) (ah:bj) (ce:av) :Prop where
 cz:ah 0=v
 bI:ah 4=dt
 bq:ah 5=.int .i64 ((i+1:Nat) :Int)
 ex:∃ (k:Nat) (bd:List (List UInt8)),ah 3=.int .i64 (k:Int)/\b0 1 ce v j (bd.map hN)/\bd.length=xs.length/\(∀ y∈bd,y.length=y.length)/\bd.take k=nF xs (m+i+1)/\k<=m+i/\(∀ t,m+i<=t->g4 bd t=g4 xs t)/\ce.length=l.length/\∀ b,b≠j->ce[b]? = l[b]?
theorem Vs {l:av} {v:ae} {j:Nat} {bd:List (List UInt8)} (h:dB 1 l v j (bd.map hN)) {k:Nat} (aF:k<bd.length) :
  ∃ p cs o,cU (.ao 1) v (.int .i64 (k:Int))=some p/\d1 l p=some (cs,o)/\cs[o]? = some (.str (g4 bd k)) :=by
 obtain⟨p,cs,o,h1,ag,aq,aK⟩:=h.get (k:=.i64) (VO aF);refine⟨p,cs,o,h1,ag,?_⟩;have:=congrArg (fun l=>l[0]?) aK;simp only[List.getElem?_take,List.getElem?_drop,hN] at this;simpa using this
theorem Vt {l:av} {v:ae} {j m:Nat} {bd:List (List UInt8)} (h:dB 1 l v j ((bd.map hN).drop m)) {k:Nat} (aF:m+k<bd.length) :
  ∃ p cs o,cU (.ao 1) v (.int .i64 (k:Int))=some p/\d1 l p=some (cs,o)/\cs[o]? = some (.str (g4 bd (m+k))) :=by
 obtain⟨p,cs,o,h1,ag,aq,aK⟩:=h.get (k:=.i64) (i:=k) (e:=hN (g4 bd (m+k))) (by rw[List.getElem?_drop]; exact VO aF);refine⟨p,cs,o,h1,ag,?_⟩;have:=congrArg (fun l=>l[0]?) aK;simp only[List.getElem?_take,List.getElem?_drop,hN] at this;simpa using this
theorem afi {eB l:av} {v:ae} {xs:List (List UInt8)} {fg:Bool} (h:cl 1 hN eB l v xs fg) (ak:∀ x∈xs,x.length=x.length) (aH:xs.length<=1000000) {K:ae->av->Prop} (a8:∀ r l',cl 1 hN eB l' r (p0 xs) fg->K r l') :
  dp Tryz.prog GS 49 [v] l (c:=⟨K⟩) :=by
 apply bH QX Z1;unfold Gq Mf;have bw:=h.len;by_cases ag:xs.length<2
 ·have fX:(xs.length:Int)<2:=by omega
  have qd:p0 xs=xs:=by
   unfold p0;rw[Bt (Nat.le_refl _) (fun k h1 aq=>by omega),List.take_length]
  simp[bw,fX];exact a8 _ _ (by rw[qd]; exact h)
 ·have fX:¬ (xs.length:Int)<2:=by omega
  simp[bw,fX];refine c0 (xs.length - 1) (acY l v xs) ?_ ⟨by simp,by simp,rfl,fun j h1 aq=>by omega⟩;rintro k ah l1 aF ⟨cz,bi,rfl,au⟩;obtain⟨ah,rfl⟩:=ov cz bi;clear cz bi;obtain⟨m,hm⟩:∃ m,m=k+1:=⟨_,rfl⟩
  rw[<-hm] at au ⊢;unfold WB;by_cases aS:m<xs.length
  ·have a1:IntKind.i64.wrap ((m:Int) - 1)=(k:Int) :=by rw[IntKind.wrap_i64]; omega
   have b3:IntKind.i64.wrap ((m:Int)+1)=((m+1:Nat) :Int) :=by rw[IntKind.wrap_i64]; omega
   have hU:(m:Int)<(xs.length:Int) :=by omega
   obtain⟨j,az,kU⟩:=h;obtain⟨pv,cN,vC,bt,bE,a4⟩:=Vs az.q aS;obtain⟨Dt,dm,mb,dV,dK,lf⟩:=Vs az.q (k:=k) (by omega);obtain⟨X,ei⟩:∃ X,X=g4 xs m:=⟨_,rfl⟩
   obtain⟨Y,gf⟩:∃ Y,Y=g4 xs k:=⟨_,rfl⟩
   rw[<-ei] at a4;rw[<-gf] at lf;by_cases aw:X=Y
   ·have oW:decide (X=Y)=true:=decide_eq_true aw;have ax:cS v=false:=by
     cases tw:cS v with
     | false=>rfl
     | true=>
      have:=iC.1 tw;subst this;have:=az.q.xA;rw[List.map_eq_nil_iff] at this;rw[this] at aS; simp at aS
    obtain⟨dt,dx,lK,_⟩:=az.q.from ax (k:=.i64) (i:=m) (by simp; omega);have aO:nF xs m=xs.take m:=Bt (by omega) au;have h1:nF xs (m+1)=xs.take m:=by rw[yJ,if_neg (fun h=>h.elim (fun aO=>by omega) (fun ag=>ag (by rw[<-ei,show m - 1=k by omega,<-gf]; exact aw))),aO,List.append_nil]
    simp[bw,hU,a1,bt,bE,a4,dV,dK,lf,aw,dx];refine c0 (xs.length - m - 1) (acX l1 v dt j xs m) ?_ ⟨by simp,by simp,by simp,m,xs,by simp,az,rfl,ak,h1.symm,by omega,fun t _=>rfl,rfl,fun b _=>rfl⟩;rintro i ah ce aA ⟨cz,bI,bq,q,bd,bi,bp,eJ,qu,gF,xa,mW,vf,jz⟩;obtain⟨ah,rfl⟩:=iJ cz bi bI bq;clear cz bi bI bq;obtain⟨c4,Ip⟩:∃ c4,c4=i+1:=⟨_,rfl⟩
    rw[<-Ip];unfold WA;obtain⟨apx,AA,vN,_⟩:=bp.q.from ax (k:=.i64) (i:=m) (by simp; omega);rw[dx] at AA;obtain rfl:=Option.some.inj AA;have gC:=vN.len;rw[List.length_drop,List.length_map,eJ] at gC;by_cases mS:c4<xs.length - m
    ·have rP:(c4:Int)<((xs.length - m:Nat) :Int) :=by omega
     have b5:IntKind.i64.wrap ((c4:Int) - 1)=(i:Int) :=by rw[IntKind.wrap_i64]; omega
     have w2:IntKind.i64.wrap ((c4:Int)+1)=((c4+1:Nat) :Int) :=by rw[IntKind.wrap_i64]; omega
     have d2:IntKind.i64.wrap ((q:Int)+1)=((q+1:Nat) :Int) :=by rw[IntKind.wrap_i64]; omega
     obtain⟨amb,jn,oc,h4,j8,mi⟩:=Vt vN (k:=c4) (by omega);obtain⟨amc,iv,od,jj,lP,vZ⟩:=Vt vN (k:=i) (by omega);have o8:=qu _ (Vr (a:=bd) (k:=m+c4) (by omega));have jZ:=qu _ (Vr (a:=bd) (k:=m+i) (by omega));have rU:=mW (m+c4) (by omega);have rV:=mW (m+i) (by omega);have bD:=yJ xs (m+c4);rw[show m+c4 - 1=m+i by omega] at bD;obtain⟨kG,H3⟩:∃ X,X=g4 bd (m+c4) :=⟨_,rfl⟩
     obtain⟨uC,y5⟩:∃ Y,Y=g4 bd (m+i) :=⟨_,rfl⟩
     rw[<-H3] at mi o8 rU;rw[<-y5] at vZ rV;rw[<-rU,<-rV] at bD;rw[show m+i+1=m+c4 by omega] at gF;by_cases mK:kG=uC
     ·have rT:decide (kG=uC)=true:=decide_eq_true mK;rw[if_neg (fun h=>h.elim (fun aO=>by omega) (fun ag=>ag mK)),List.append_nil] at bD;simp[gC,rP,b5,h4,j8,mi,jj,lP,vZ,mK,w2];exact⟨by omega,by simp,by simp,by simp,q,bd,by simp,bp,eJ,qu,by rw[bD]; exact gF,by omega,fun t aW=>mW t (by omega),vf,jz⟩
     ·have rT:decide (kG=uC)=false:=decide_eq_false mK;rw[if_pos (.inr mK)] at bD;obtain⟨Ko,ek,k7,h5,z3,z4,z5⟩:=XI (X:=.str kG) rfl bp (fun _ _=>rfl) (k:=q) (x:=kG) (by omega) rfl;simp[gC,rP,b5,h4,j8,mi,jj,lP,vZ,mK,w2,d2,k7,h5];have NB:(bd.take q).length=q:=by rw[List.length_take]; omega
      have lz:(bd.set q kG).take (q+1)=bd.take q++[kG] :=by
       rw[List.set_eq_take_append_cons_drop,if_pos (by omega),List.take_append,NB,List.take_of_length_le (by omega),show q+1 - q=1 by omega]; simp
      refine⟨by omega,by simp,by simp,by simp,q+1,bd.set q kG,by simp,z3,by simp[eJ],fun y aP=>?_,by rw[lz,bD,gF],by omega,fun t aW=>?_,by omega,fun b aj=>(z5 b aj).trans (jz b aj)⟩
      ·rcases List.mem_or_eq_of_mem_set aP with h | h
       ·exact qu _ h
       ·rw[h]
      ·have:=mW t (by omega);unfold g4 at this ⊢;rw[List.getD_eq_getElem?_getD,List.getElem?_set_ne (by omega),<-List.getD_eq_getElem?_getD];exact this
    ·have rP:¬ (c4:Int)<((xs.length - m:Nat) :Int) :=by omega
     obtain⟨v3,ek,r,k7,h5,z3,z4,z5,aqo,NZ⟩:=al6 (z:=1) (zr:=[.str []]) rfl bp (k:=q) (by omega);simp[gC,rP,k7,h5,z3];obtain⟨aY,a6,bi,bI⟩:=kU;have zl:eB.length<=j:=bi.resolve_left (fun h=>by rw[h] at ax; cases ax);have ze:m+i+1=xs.length:=by omega
     rw[ze] at gF;refine a8 _ _ ⟨j,by unfold p0; rw[<-gF]; exact z4,by omega,fun b aj=>?_,.inr zl,by rw[z5,<-bI,ax]⟩;rw[NZ b (by omega),jz b (by omega)];exact a6 b aj
   ·have oW:decide (X=Y)=false:=decide_eq_false aw;simp[bw,hU,a1,bt,bE,a4,dV,dK,lf,aw,b3];refine⟨by omega,by simp,by simp[hm],rfl,fun t h1 ag=>?_⟩;by_cases aW:t=m
    ·rw[aW,<-ei,show m - 1=k by omega,<-gf]; exact aw
    ·exact au t h1 (by omega)
  ·have hU:¬ (m:Int)<(xs.length:Int) :=by omega
   have qd:p0 xs=xs:=by
    unfold p0;rw[Bt (Nat.le_refl _) (fun k h1 aq=>au k h1 (by omega)),List.take_length]
   simp[bw,hU];exact a8 _ _ (by rw[qd]; exact h)
theorem aa3 {l:av} {a b en bu:ae} (h1:Rd l a en) (ag:Rd l b bu) :Rd l (.bP [a,b]) (.bP [en,bu]) :=by
 refine .bP _ _ rfl fun j x Ed ak rZ=>?_
 rcases j with _ | _ | j
 ·simp at ak rZ; subst ak rZ; exact h1
 ·simp at ak rZ; subst ak rZ; exact ag
 ·simp at ak
theorem anH {l:av} {a en:ae} (h1:Rd l a en) :Rd l (.aV [a]) (.aV [en]) :=by
 refine .aV _ _ rfl fun j x Ed ak rZ=>?_
 rcases j with _ | j
 ·simp at ak rZ; subst ak rZ; exact h1
 ·simp at ak
theorem ams {l l1:av} {v:ae} {a:List (List UInt8)} {fg:Bool} (h:cl 1 hN l l1 v a fg) (x:List UInt8) (dk:a.length<=1000000000) :
  ∃ bc l',iR (l1++[.cells 1 [.str x]]) 1 16 v (.ao 1 l1.length 0 1 1 1)=some (bc,l')/\cl 1 hN l l' bc (a++[x]) false:=by
 have aD:cQ=140737488355328:=rfl;obtain⟨bc,l',aY,a6,_⟩:=(h.more [.cells 1 [.str x]]).app (by_:=16) (x:=.ao 1 l1.length 0 1 1 1) (xs:=[x]) (by simp[dj,hN]) (by simp[hN]) (by omega) (by omega) (by rw[aD]; simp; omega);exact⟨bc,l',aY,by simpa using a6⟩
def x3 (l:List br) :nr:=if l=[] then none else some (p0 (l.map br.key))
theorem aku (l:List br) (k:Nat) :((l.map br.key).take k).length<=l.length:=by simp; omega
structure ac1 (s:jQ) (k:Nat) (ah:bj) (l:av) :Prop where
 uQ:ah 14=hv s
 lp:ah 15=.int .i64 s.l.length
 lZ:ah 16=.int .i64 k
 qJ:∃ v,ah 5=v/\cl 1 hN [.cells 1 [hv s]] l v ((s.l.map br.key).take k) (decide (k=0))
def pg (l:List br) :nr:=if k4 l=0 then x3 l else none
theorem acx (s:jQ) (az:pt s.l) (ar:s.l.length<=1000000) :bT Tryz.prog GS 15 [.aV [hv s]] (.bP [lY (pg s.l),.int .i64 (k4 s.l)]) :=by
 refine cd Tryz.checked.mixed b2 ?_;apply bH PV Y0;unfold yu Lg pg;have bw:db (.ao 33) (hv s)=some (.int .i64 s.l.length) :=by simp[hv]
 have dZ:=Bn s;have dU:=apZ s az ar;simp;refine bB dU (by simp[bV,ae.closed,dZ]) ?_;by_cases aO:k4 s.l=0
 ·simp[aO,bw];refine c0 s.l.length (ac1 s) ?_ ⟨by simp,by simp,by simp,.aZ,by simp,by simpa using cl.nil⟩;rintro k ah l aF ⟨uQ,lp,lZ,v,bq,eI⟩;obtain⟨ah,rfl⟩:=iJ bq uQ lp lZ;clear bq uQ lp lZ;unfold Wb;simp;refine qB (fun h=>?_) (fun h=>?_)
  ·simp only[decide_eq_true_eq] at h;obtain⟨y,aP,eA⟩:=cg (l:=s.l) (k:=k) (by omega);have eJ:=wy (az y eA);have a1:IntKind.i64.wrap ((k:Int)+1)=((k+1:Nat) :Int) :=by rw[IntKind.wrap_i64]; omega
   have mY:=Nk eJ;obtain⟨E,eQ⟩:∃ E,E=bb y.id:=⟨_,rfl⟩
   have wM:ep y=.str y.key::E:=by rw[eQ]; rfl
   have rF:E.length=32:=by rw[eQ]; exact dr (az y eA)
   rw[wM] at eJ mY;have cY:=aku s.l k;obtain⟨bc,l',bt,bE⟩:=ams (eI.more [.cells 33 (.str y.key::E)]) y.key (by omega);have lz:(s.l.map br.key).take (k+1)=(s.l.map br.key).take k++[y.key] :=by rw[List.take_add_one,List.getElem?_map,aP]; rfl
   simp at bt;simp[hv,aP,wM,rF,mY,bt,List.take_of_length_le];refine dM.cM ?_;simp[a1];refine⟨by omega,by simp[hv],by simp,by simp,bc,by simp,by rw[lz]; simpa using bE⟩
  ·simp[h];have nS:k=s.l.length:=by simp at h; omega
   have aW:(s.l.map br.key).take k=s.l.map br.key:=List.take_of_length_le (by simp[nS]);rw[aW] at eI;refine afi eI (fun _ _=>rfl) (by simp; omega) fun r ce ag=>?_
   simp;rw[if_pos aO,aO];refine aa3 (ag.rd (fun _=>rfl) (x3 s.l) ?_ ?_) (.same _ rfl)
   ·rw[nS]; unfold x3;cases e8:s.l with
    | nil=>rfl
    | cons a r=>simp
   ·unfold x3;split
    ·rename_i aw; rw[aw]; rfl
    ·rfl
 ·simp[aO];exact a7 (by simp[lY,cO]) rfl
def u2 (l:List br) (k:List UInt8) :Bool:=decide (k∈(pg l).l)
theorem aft (l:List (List UInt8)) :(p0 l).length<=l.length:=Se l _
theorem VK (l:List br) :(pg l).l.length<=l.length:=by
 have:=aft (l.map br.key);unfold pg x3;split
 ·split
  ·simp
  ·simpa using this
 ·simp
theorem apR (s:jQ) (az:pt s.l) (ar:s.l.length<=1000000) (x:List UInt8) :bT Tryz.prog GS 13 [.aV [hv s],.str x] (.bP [.bool (u2 s.l x),.int .i64 (k4 s.l)]) :=by
 refine cd Tryz.checked.mixed b2 ?_;apply bH PB YG;unfold Fc K3 u2;have dZ:=Bn s;have Uo:=RU (pg s.l);have cY:=VK s.l;simp;refine bB (acx s az ar) (by simp[bV,ae.closed,dZ]) ?_;simp;refine bB (apU (pg s.l) (by omega) x) (by simp[bV,ae.closed,Uo]) ?_;simp;exact a7 rfl rfl
def H7 (l:List br) (k:List UInt8) :Bool:=decide (k4 l=0)&&nN l k
def qR (l:List br) (m:Nat) :List (List UInt8) :=(List.range m).flatMap fun k=>if nN (l.take k) (nf l k).key then [] else [(nf l k).key]
theorem aaW (l:List br) (m:Nat) :qR l (m+1)=qR l m++(if nN (l.take m) (nf l m).key then [] else [(nf l m).key]) :=by
 unfold qR; rw[List.range_succ,List.flatMap_append]; simp
def MQ (l:List br) :nr:=if l=[] then none else some (qR l l.length)
def JP (l:List br) :nr:=if k4 l=0 then MQ l else none
structure aqw (s:jQ) (k:Nat) (ah:bj) (l:av) :Prop where
 aY:ah 1=.ptr 0 0 1
 bq:ah 5=.int .i64 k
 qJ:∃ v,ah 4=v/\cl 1 hN [.cells 1 [hv s]] l v (qR s.l k) (decide (k=0))
def C2:List kE:=.s::List.replicate 32 (.i .u8)
theorem aky:qC Tryz.prog 20 77=some C2:=by kernel_rfl
theorem Xy {t:br} (h:t.id.length=32) :hf C2 (ep t)=true:=by
 unfold C2 ep;have:=xE t.id;rw[h] at this;simp only[hf,D1,Bool.true_and];exact this
theorem adO {a b:br} (aI:a.id.length=32) (aj:b.id.length=32) :eO (ep a) (ep b)=decide (a=b) :=by
 unfold ep bb;simp only[eO,ae.beq];rw[A6 a.id b.id (by omega)];cases a; cases b;simp only[br.mk.injEq];rename_i cc c4 ch ej;by_cases h1:cc=ch<;>by_cases ag:c4=ej<;>simp[h1,ag]
end Op
end Go.cj

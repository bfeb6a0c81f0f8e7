/-
  Graphs: who waits for whom, so far (plain).
-/
import Derived.Test.YtboebmmklamaeaaGreatDoorVk
import Derived.Sort.Walk0
import Derived.Shelf.Spec.SlicesInsertGrow
set_option linter.unusedVariables false
set_option linter.unusedSimpArgs false
set_option linter.unnecessarySimpa false
namespace Go.cn
open Go Go.Proofs
set_option maxRecDepth 100000
namespace Op
open hA
def vb (ids:List (List B)) (ops:List bQ) (m q a k:Nat) :Nat:=if k<m then (c5 ops k).count (ch ids a) else if k=m then ((c5 ops m).take q).count (ch ids a) else 0
structure s8 (ids:List (List B)) (ops:List bQ) (m q:Nat) (cv:List (List Nat)) :Prop where
 len:cv.length=ops.length
 cnt:∀ (a:Nat) (row:List Nat),cv[a]? = some row->∀ k,row.count k=vb ids ops m q a k
 Bo:∀ (a:Nat) (row:List Nat),cv[a]? = some row->row.length<=5*m+q
theorem amR (ids:List (List B)) (ops:List bQ) :s8 ids ops 0 0 (List.replicate ops.length []) :=by
 refine⟨by simp,fun a row h k=>?_,fun a row h=>?_⟩
 ·have:=List.eq_of_mem_replicate (List.mem_of_getElem? h);subst this;simp[vb]
 ·have:=List.eq_of_mem_replicate (List.mem_of_getElem? h);subst this;simp
theorem amS {ids:List (List B)} {ops:List bQ} (am:im ids) (au:ids.length=ops.length) {m q a:Nat} {cv:List (List Nat)} {row:List Nat} {p:List B} (h:s8 ids ops m q cv) (aE:(c5 ops m)[q]? = some p) (aG:ids[a]? = some p) (aC:cv[a]? = some row) :
  s8 ids ops m (q+1) (cv.set a (row++[m])) :=by
 have gy:=(List.getElem?_eq_some_iff.1 aC).1;have tL:=(List.getElem?_eq_some_iff.1 aG).1;have hU:(c5 ops m).take (q+1)=(c5 ops m).take q++[p] :=by rw[List.take_add_one,aE]; rfl
 refine⟨by simp[h.len],fun x uC aj k=>?_,fun x uC aj=>?_⟩
 ·by_cases jt:x=a
  ·subst jt;rw[List.getElem?_set_self gy] at aj;obtain rfl:=Option.some.inj aj;rw[List.count_append,h.cnt x row aC k];unfold vb;by_cases h1:k<m
   ·rw[if_pos h1,if_pos h1,List.count_singleton];have:(m == k)=false:=by rw[beq_eq_false_iff_ne]; omega
    simp[this]
   ·rw[if_neg h1,if_neg h1];by_cases ag:k=m
    ·subst ag;rw[if_pos rfl,if_pos rfl,hU,List.count_append,hW aG]; simp
    ·rw[if_neg ag,if_neg ag,List.count_singleton];have:(m == k)=false:=by rw[beq_eq_false_iff_ne]; omega
     simp[this]
  ·rw[List.getElem?_set_ne (Ne.symm jt)] at aj;rw[h.cnt x uC aj k];unfold vb;by_cases h1:k<m
   ·rw[if_pos h1,if_pos h1]
   ·rw[if_neg h1,if_neg h1];by_cases ag:k=m
    ·subst ag;rw[if_pos rfl,if_pos rfl,hU,List.count_append,List.count_singleton];have bF:x<ids.length:=by rw[au,<-h.len]; exact (List.getElem?_eq_some_iff.1 aj).1
     have:(p == ch ids x)=false:=by
      rw[beq_eq_false_iff_ne];intro e;rw[<-hW aG] at e;exact jt (PP am tL bF e).symm
     rw[this]; simp
    ·rw[if_neg ag,if_neg ag]
 ·by_cases jt:x=a
  ·subst jt;rw[List.getElem?_set_self gy] at aj;obtain rfl:=Option.some.inj aj;have:=h.Bo x row aC;simp; omega
  ·rw[List.getElem?_set_ne (Ne.symm jt)] at aj;have:=h.Bo x uC aj;omega
theorem amQ {ids:List (List B)} {ops:List bQ} {m:Nat} {cv:List (List Nat)} (h:s8 ids ops m (c5 ops m).length cv) (aJ:(c5 ops m).length<=4) :s8 ids ops (m+1) 0 cv:=by
 refine⟨h.len,fun a row aC k=>?_,fun a row aC=>by have:=h.Bo a row aC; omega⟩;rw[h.cnt a row aC k];unfold vb;by_cases h1:k<m
 ·rw[if_pos h1,if_pos (by omega)]
 ·rw[if_neg h1];by_cases ag:k=m
  ·subst ag;rw[if_pos rfl,if_pos (by omega),List.take_length]
  ·rw[if_neg ag,if_neg (by omega)];by_cases ap:k=m+1
   ·rw[if_pos ap]; simp
   ·rw[if_neg ap]
theorem amP {ids:List (List B)} {ops:List bQ} {cv:List (List Nat)} (h:s8 ids ops ops.length 0 cv) :EZ ids ops cv:=by
 refine⟨h.len,fun a row aC k hk=>?_,fun a row aC k hk=>?_⟩
 ·rw[h.cnt a row aC k]; unfold vb; rw[if_pos hk]
 ·have h1:0<row.count k:=List.count_pos_iff.2 hk;rw[h.cnt a row aC k] at h1;unfold vb at h1;by_cases ag:k<ops.length
  ·exact ag
  ·rw[if_neg ag] at h1;split at h1<;>simp at h1
def eJ (ops:List bQ) (m:Nat) :List Int:=(List.range ops.length).map fun k=>if k<m then ((c5 ops k).length:Int) else 0
def ih (ops:List bQ) (m:Nat) :List Nat:=(List.range m).filter fun k=>(c5 ops k).isEmpty
theorem adv (ops:List bQ) (m:Nat) :(eJ ops m).length=ops.length:=by simp[eJ]
theorem EV {ops:List bQ} {m k:Nat} (h:k<ops.length) :(eJ ops m)[k]? = some (if k<m then ((c5 ops k).length:Int) else 0) :=by
 unfold eJ; rw[List.getElem?_map,List.getElem?_range h]; rfl
theorem aqV {ops:List bQ} {m:Nat} (h:m<ops.length) :(eJ ops m).set m ((c5 ops m).length:Int)=eJ ops (m+1) :=by
 apply List.ext_getElem?;intro j;by_cases am:j<ops.length
 ·rw[EV am,List.getElem?_set];by_cases Vw:m=j
  ·subst Vw;rw[if_pos rfl,if_pos (by rw[adv]; exact am),if_pos (by omega)]
  ·rw[if_neg Vw,EV am];by_cases h1:j<m
   ·rw[if_pos h1,if_pos (by omega)]
   ·rw[if_neg h1,if_neg (by omega)]
 ·rw[List.getElem?_eq_none (by simp[eJ]; omega),List.getElem?_eq_none (by simp[eJ]; omega)]
theorem aqU (ops:List bQ) :eJ ops ops.length=(List.range ops.length).map fun k=>((c5 ops k).length:Int) :=by
 unfold eJ;apply List.map_congr_left;intro k hk;rw[if_pos (List.mem_range.1 hk)]
theorem aqW (ops:List bQ) :eJ ops 0=List.replicate ops.length 0:=by
 apply List.ext_getElem?;intro j;by_cases am:j<ops.length
 ·rw[EV am]; simp[am]
 ·rw[List.getElem?_eq_none (by simp[eJ]; omega),List.getElem?_eq_none (by simp; omega)]
theorem abW (ops:List bQ) (m:Nat) :ih ops (m+1)=ih ops m++(if (c5 ops m).isEmpty then [m] else []) :=by
 unfold ih;rw[List.range_succ,List.filter_append];congr 1;by_cases h:(c5 ops m).isEmpty=true
 ·simp[h]
 ·simp[h]
def i5 (n:Int) :ae:=.int .i64 n
theorem apd {l:List ae} {i:Nat} {x:ae} (h:i<l.length) :bS l i [x]=l.set i x:=by
 have:=mR (fun c:ae=>c) l i x h;simpa using this
def cL (g:b1) (wl:List Int) (vs:List ae) (rest:av) :av:=.cells 2 [bc g.ids,cA g.ops] ::.cells g.ops.l.length (wl.map i5) ::.cells g.ops.l.length vs::rest
theorem OP {l:av} {a b c:bt} (aT:l[0]? = some a) (h1:l[1]? = some b) (ag:l[2]? = some c) :∃ r,l=a::b::c::r:=by
 match l,aT,h1,ag with
 | eL::bx::c'::r,aT,h1,ag=>
  simp at aT h1 ag;subst aT h1 ag;exact⟨r,rfl⟩
theorem xH {g:b1} {w w' : List Int} {vs EO:List ae} {r:av}:∀ {b:Nat},3<=b->(cL g w vs r)[b]? = (cL g w' EO r)[b]?
 | 0,h=>by omega
 | 1,h=>by omega
 | 2,h=>by omega
 | b+3,_=>rfl
theorem JV {g:b1} {w:List Int} {vs:List ae} {r x:av} {b:Nat} (h:b<(cL g w vs r).length) :(cL g w vs (r++x))[b]? = (cL g w vs r)[b]?:=by
 show ((cL g w vs r)++x)[b]? = _;exact List.getElem?_append_left h
structure ad5 (g:b1) (m q:Nat) (dA:ae) (l:av) :Prop where
 ex:∃ (vs:List ae) (cv:List (List Nat)) (da:Nat->Nat) (gO:Nat) (rest:av),l=cL g (eJ g.ops.l m) vs rest/\kb l vs cv da/\s8 g.ids.l g.ops.l m q cv/\bX 1 l dA gO ((ih g.ops.l m).map gY) ∧
  cU dA=(ih g.ops.l m).isEmpty/\(ih g.ops.l m=[]\/(3<=gO/\m2 cv da gO))
structure ad4 (g:b1) (m q:Nat) (dA:ae) (b:Nat) (O:List ae) (l:av) :Prop where
 ex:∃ (vs:List ae) (cv:List (List Nat)) (da:Nat->Nat) (gO:Nat) (rest:av),l=cL g (eJ g.ops.l m) vs rest/\kb l vs cv da/\s8 g.ids.l g.ops.l m q cv/\bX 1 l dA gO ((ih g.ops.l m).map gY) ∧
  cU dA=(ih g.ops.l m).isEmpty/\(ih g.ops.l m=[]\/(3<=gO/\m2 cv da gO))/\l[b]? = some (.cells 11 O)/\3<=b/\m2 cv da b
theorem yo {cv:List (List Nat)} {l:av} {vs:List ae} {da:Nat->Nat} {c:Nat} (fu:kb l vs cv da) (al:c<3) :m2 cv da c:=fun a row aC bY=>by
 have aG:a<vs.length:=by rw[fu.mT]; exact (List.getElem?_eq_some_iff.1 aC).1
 have:=(fu.own a vs[a] row (List.getElem?_eq_getElem aG) aC).2.2.resolve_left bY;omega
theorem A5 {cv:List (List Nat)} {l:av} {vs:List ae} {da:Nat->Nat} {c:Nat} (fu:kb l vs cv da) (al:l.length<=c) :m2 cv da c:=fun a row aC bY=>by
 have:=fu.lt aC bY;omega
structure qf (g:b1) (vs:List ae) (cv:List (List Nat)) (da:Nat->Nat) (W:List Int) (R:List Nat) (dA:ae) (rest:av) :Prop where
 ex:∃ gO,kb (cL g W vs rest) vs cv da/\bX 1 (cL g W vs rest) dA gO (R.map gY)/\cU dA=R.isEmpty/\(R=[]\/(3<=gO/\m2 cv da gO))
theorem qf.setW {g:b1} {vs:List ae} {cv:List (List Nat)} {da:Nat->Nat} {W rJ:List Int} {R:List Nat} {dA:ae} {rest:av} (h:qf g vs cv da W R dA rest) :qf g vs cv da rJ R dA rest:=by
 obtain⟨gO,fu,ki,jT,kR⟩:=h;refine⟨⟨gO,fu.frame fun b ai ⟨a,sY,h1,ag,ap⟩=>xH (Nat.le_of_not_lt fun h=>yo fu h a sY h1 ag ap),?_,jT,kR⟩⟩;by_cases bY:R=[]
 ·subst bY;rw[iW.1 jT];exact .nil _
 ·exact ki.frame fun _=>xH (kR.resolve_left bY).1
theorem qf.push {g:b1} {vs:List ae} {cv:List (List Nat)} {da:Nat->Nat} {W:List Int} {R:List Nat} {dA:ae} {rest:av} (h:qf g vs cv da W R dA rest) (m:Nat) (dy:(R.length+1)*8<=cT) :
  ∃ bf fw,iL (cL g W vs (rest++[.cells 1 [.int .i64 (m:Int)]])) 1 8 dA (.ao 1 (rest.length+3) 0 1 1 1)=some (bf,cL g W vs fw)/\qf g vs cv da W (R++[m]) bf fw:=by
 obtain⟨gO,tH,CN,jT,kR⟩:=h;obtain⟨gN,K4,lH,iH⟩:∃ gN,bX 1 (cL g W vs (rest++[.cells 1 [.int .i64 (m:Int)]])) dA gN (R.map gY)/\3<=gN/\m2 cv da gN:=by
  by_cases bY:R=[]
  ·subst bY;rw[iW.1 jT];exact⟨(cL g W vs (rest++[.cells 1 [.int .i64 (m:Int)]])).length,.nil _,by simp[cL],A5 tH (by simp[cL])⟩
  ·exact⟨gO,CN.more _,(kR.resolve_left bY).1,(kR.resolve_left bY).2⟩
 obtain⟨p2,KM,ce,aY,a2,bh,bK,bw,cl⟩:=m5 (by_:=8) K4 (x:=.ao 1 (rest.length+3) 0 1 1 1) (xs:=[gY m]) (by simp[dv,cL,gY]) (by simp[gY]) (by omega) (by omega) (by simpa using dy);have JD:(cL g W vs (rest++[.cells 1 [.int .i64 (m:Int)]])).length=rest.length+4:=by simp[cL]
 have Dh:(cL g W vs rest).length=rest.length+3:=by simp[cL]
 obtain⟨fw,rfl⟩:∃ r,ce=cL g W vs r:=OP ((bK 0 (by omega) (by omega)).trans rfl) ((bK 1 (by omega) (by omega)).trans rfl) ((bK 2 (by omega) (by omega)).trans rfl);have Kl:cU p2=false:=by
  cases aN:cU p2 with
  | true=>have:=(cl.1 (iW.1 aN)).2; cases this
  | false=>rfl
 refine⟨p2,fw,aY,⟨⟨KM,?_,?_,?_,.inr ⟨?_,?_⟩⟩⟩⟩
 ·exact tH.frame fun b ai ⟨a,sY,h1,ag,ap⟩=>(bK b (by omega) (fun e=>iH a sY h1 ag (by omega))).trans (JV ai)
 ·rw[List.map_append]; exact a2
 ·rw[Kl]; simp
 ·rcases bw with e | e<;>omega
 ·rcases bw with e | e
  ·rw[e]; exact iH
  ·exact A5 tH (by omega)
set_option maxHeartbeats 8000000 in
theorem aoR (g:b1) (az:hY g) (au:g.ids.l.length=g.ops.l.length) (lW:g.ops.l.length<=60) (aJ:∀ o∈g.ops.l,o.bO.l.length<=4) :bR Tryz.prog GS 86 [dw g] (.int .i64 (oW g.ids.l g.ops.l)) :=by
 refine cf Tryz.checked.mixed b2 ?_;apply bH SB abv;unfold HS NR;have kq:cT=140737488355328:=rfl;have fc:=hb g.ids;have dp:=oh g.ops;have ni:=Cb g;have ep:c8 (.ao 11) (cA g.ops)=some (.int .i64 g.ops.l.length) :=by simp[cA]
 have gM:c8 (.ao 32) (bc g.ids)=some (.int .i64 g.ops.l.length) :=by simp[bc,au]
 simp[dw,ew];refine c7 (g.ops.l.length - 1) (fun k ah l=>l=[.cells 2 [bc g.ids,cA g.ops]]/\ah 1=.ptr 0 0 2/\ah 3=.int .i64 ((k+1:Nat) :Int)/\∀ j,j<k+1->j<g.ids.l.length->1<=j->cN (ch g.ids.l (j - 1)) (ch g.ids.l j)<0) ?_ ⟨by simp,by simp,by simp,fun j h1 _ ag=>by omega⟩;rintro k ah l hk ⟨rfl,aY,bh,ar⟩;obtain⟨ah,rfl⟩:=o3 aY bh;clear aY bh;obtain⟨m,hm⟩:∃ m,m=k+1:=⟨_,rfl⟩
 rw[<-hm] at ar ⊢;unfold XM;by_cases aP:m<g.ops.l.length
 ·obtain⟨x,aj,dF⟩:=ck (l:=g.ids.l) (k:=k) (by omega);obtain⟨y,aK,dg⟩:=ck (l:=g.ids.l) (k:=m) (by omega);have aZ:IntKind.i64.wrap ((m:Int) - 1)=(k:Int) :=by rw[IntKind.wrap_i64]; omega
  have b4:IntKind.i64.wrap ((m:Int)+1)=((m+1:Nat) :Int) :=by rw[IntKind.wrap_i64]; omega
  have hF:=hW aj;have qX:=hW aK;have fX:cS (.ao 32) (bc g.ids) (.int .i64 (k:Int))=some (.cq (a7 x) 0) :=by simp[bc,aj]
  have Ah:cS (.ao 32) (bc g.ids) (.int .i64 (m:Int))=some (.cq (a7 y) 0) :=by simp[bc,aK]
  have bF:=dd (az.ids x dF);have ds:=dd (az.ids y dg);have fV:=wV x y (az.ids x dF) (az.ids y dg);unfold fk at fV;change bR Tryz.prog GS 121 [.aV (a7 x),.aV (a7 y)] _ at fV;have gK:=gf x;have kT:=gf y;obtain⟨X,dN⟩:∃ X,X=a7 x:=⟨_,rfl⟩
  obtain⟨Y,fb⟩:∃ Y,Y=a7 y:=⟨_,rfl⟩
  rw[<-dN] at fX bF fV gK;rw[<-fb] at Ah ds fV kT;simp[gM,aP,aZ,fX,Ah,bF,ds,List.take_of_length_le];refine bC fV (by simp[bM,ae.closed,gK,kT]) ?_;by_cases al:cN x y<0
  ·have fi:¬ (0<=cN x y) :=by omega
   simp[fi,b4];refine⟨by omega,fun j h1 ag ap=>?_⟩;have eo:cN (ch g.ids.l (j - 1)) (ch g.ids.l j)<0:=by
    by_cases am:j=m
    ·rw[am,show m - 1=k by omega,hF,qX]; exact al
    ·exact ar j (by omega) ag ap
   simpa [ch] using eo
  ·have fi:0<=cN x y:=by omega
   simp[fi];refine a1 (congrArg (ae.int .i64) ?_) rfl;have eS:eU g.ids.l=false:=ab9 (k:=m) (by omega) (by omega) (by rw[show m - 1=k by omega,hF,qX]; exact al);unfold oW;rw[eS]; rfl
 ·have aC:eU g.ids.l=true:=aca fun j h1 ag=>ar j (by omega) h1 ag
  have am:=oM aC;obtain⟨bj,_⟩:=DY (z:=1) (by_:=8) (n:=g.ops.l.length) (k:=.i64) (k':=.i64) (zero:=[ae.int .i64 0]) (l:=[bt.cells 2 [bc g.ids,cA g.ops]]) rfl (by omega) (by rw[kq]; omega);obtain⟨bz,_⟩:=DY (z:=1) (by_:=24) (n:=g.ops.l.length) (k:=.i64) (k':=.i64) (zero:=[ae.aX]) (l:=[bt.cells 2 [bc g.ids,cA g.ops],bt.cells g.ops.l.length (List.replicate g.ops.l.length (ae.int .i64 0))]) rfl (by omega) (by rw[kq]; omega);simp only[Nat.mul_one,Oa (α:=Nat)] at bj bz;simp[gM,ep,aP,bj,bz];refine c7 g.ops.l.length (fun m ah l=>ah 1=.ptr 0 0 2/\ah 4=.ao 1 1 0 g.ops.l.length g.ops.l.length g.ops.l.length/\ah 5=.ao 1 2 0 g.ops.l.length g.ops.l.length g.ops.l.length/\ah 45=cA g.ops/\ah 46=.int .i64 g.ops.l.length/\ah 47=.int .i64 m ∧
   ad5 g m 0 (ah 6) l/\∀ i,i<m->m4 g.ids.l (c5 g.ops.l i)=true) ?_ ?_
  ·rintro m ah l hm ⟨aY,bK,bw,rY,rZ,r0,lm,eG⟩;obtain⟨dA,cl⟩:∃ v,ah 6=v:=⟨_,rfl⟩
   rw[cl] at lm;obtain⟨ah,rfl⟩:=O0 aY bK bw cl rY rZ r0;clear aY bK bw cl rY rZ r0;unfold XO;by_cases nq:m<g.ops.l.length
   ·obtain⟨o,ay,eK⟩:=ck nq;have aZ:IntKind.i64.wrap ((m:Int)+1)=((m+1:Nat) :Int) :=by rw[IntKind.wrap_i64]; omega
    have cV:cS (.ao 11) (cA g.ops) (.int .i64 (m:Int))=some (.cq (bD o) 0) :=by simp[cA,ay]
    have nt:=az.ops o eK;have g3:=aJ o eK;have nu:c5 g.ops.l m=o.bO.l:=uv ay;have np:c8 (.ao 32) (bc o.bO)=some (.int .i64 o.bO.l.length) :=by simp[bc]
    have qz:(bD o).length=11:=rfl;have kh:∀ h:1<(bD o).length,(bD o)[1]'h=bc o.bO:=fun _=>rfl
    obtain⟨O,fq⟩:∃ O,O=bD o:=⟨_,rfl⟩
    rw[<-fq] at cV qz kh;have mJ:bS [ae.int .u32 0,.aX,.int .u64 0,.int .u8 0,.str [],.int .u8 0,.int .i64 0,.int .u64 0,.str [],.int .u32 0,.int .u32 0] 0 O=O:=g8 (by rw[qz]; rfl);simp[nq,cV,qz,kh,np,mJ,List.take_of_length_le];obtain⟨wM,CS⟩:∃ wM,wM=l.length:=⟨_,rfl⟩
    rw[<-CS];refine c7 o.bO.l.length (fun q ah l=>ah 1=.ptr 0 0 2/\ah 4=.ao 1 1 0 g.ops.l.length g.ops.l.length g.ops.l.length/\ah 5=.ao 1 2 0 g.ops.l.length g.ops.l.length g.ops.l.length/\ah 6=dA/\ah 7=.int .i64 m/\ah 8=.ptr wM 0 11/\ah 45=cA g.ops/\ah 46=.int .i64 g.ops.l.length/\ah 47=.int .i64 m ∧
     ah 53=bc o.bO/\ah 54=.int .i64 o.bO.l.length/\ah 55=.int .i64 q/\ad4 g m q dA wM O l/\∀ (j:Nat) (p:List B),j<q->o.bO.l[j]? = some p->p∈g.ids.l) ?_ ?_
    ·rintro q ah l bp ⟨aY,bK,bw,cl,dx,ek,rY,rZ,r0,T7,T8,T9,r3,vU⟩;obtain⟨ah,rfl⟩:=ap9 aY bK bw cl dx ek rY rZ r0 T7 T8 T9;clear aY bK bw cl dx ek rY rZ r0 T7 T8 T9;obtain⟨vs,cv,da,gO,rest,rfl,fu,lY,ki,jT,kR,ai,sa,qE⟩:=r3;unfold XN;by_cases sp:q<o.bO.l.length
     ·obtain⟨p,aE,qO⟩:=ck sp;have b4:IntKind.i64.wrap ((q:Int)+1)=((q+1:Nat) :Int) :=by rw[IntKind.wrap_i64]; omega
      have hs:cS (.ao 32) (bc o.bO) (.int .i64 (q:Int))=some (.cq (a7 p) 0) :=by simp[bc,aE]
      have VM:=nt.ids p qO;have bF:=dd VM;have gK:=gf p;have xw:=agV g az aC p VM;unfold dw ew at xw ni;obtain⟨X,dN⟩:∃ X,X=a7 p:=⟨_,rfl⟩
      rw[<-dN] at hs bF gK xw;have sr:bS (rep 32 (.int .u8 0)) 0 X=X:=g8 (by rw[bF]; rfl);simp[cL,sp,hs,bF,sr,List.take_of_length_le];refine bC xw (by simp[bM,ae.closed,gK,fc,dp]) ?_;by_cases tZ:p∈g.ids.l
      ·obtain⟨ob,fC⟩:=List.mem_iff_getElem?.1 tZ;have aij:=S9 aC fC;have ati:=(List.getElem?_eq_some_iff.1 fC).1;have atj:ob<g.ops.l.length:=by omega
       have ja:vs.length=g.ops.l.length:=by rw[fu.mT,lY.len]
       obtain⟨hz,xV,_⟩:=ck (l:=vs) (k:=ob) (by omega);obtain⟨row,cF,_⟩:=ck (l:=cv) (k:=ob) (by rw[lY.len]; omega);obtain⟨l1,fD⟩:∃ l1,l1=cL g (eJ g.ops.l m) vs (rest++[.cells 32 X,.cells 1 [.int .i64 (m:Int)]]) :=⟨_,rfl⟩
       have CL:kb l1 vs cv da:=by rw[fD]; exact fu.more _
       have JB:l1.length=rest.length+5:=by rw[fD]; simp[cL]
       have oI:=lY.Bo ob row cF;obtain⟨bf,ce,AO,aY,a2,bh,bK,bw⟩:=CL.app (b:=rest.length+4) (k:=m) xV cF (by rw[fD]; simp[cL]) (by omega) (by rw[kq]; omega);have g7:=bw 0 (by omega) (yo CL (by omega));have q1:=bw 1 (by omega) (yo CL (by omega));have iZ:=bw 2 (by omega) (yo CL (by omega));obtain⟨fw,rfl⟩:∃ r,ce=cL g (eJ g.ops.l m) vs r:=OP (g7.1.trans (by rw[fD]; rfl)) (q1.1.trans (by rw[fD]; rfl)) (iZ.1.trans (by rw[fD]; rfl));have Db:cS (.ao 1) (.ao 1 2 0 g.ops.l.length g.ops.l.length g.ops.l.length) (.int .i64 (ob:Int))=some (.ptr 2 ob g.ops.l.length) :=by
        simp only[cS];rw[if_pos ⟨trivial,by omega,by omega⟩];simp
       rw[fD] at aY;unfold cL at aY;simp[tZ,aij,Db,xV,aY];refine dK.cM ?_;have xS:bS vs ob [bf]=vs.set ob bf:=apd (by omega);simp[cL,bK,Db,xS,ja];have l2:∀ c,3<=c->c<(cL g (eJ g.ops.l m) vs rest).length->m2 cv da c->(cL g (eJ g.ops.l m) (vs.set ob bf) fw)[c]? = (cL g (eJ g.ops.l m) vs rest)[c]?/\m2 (cv.set ob (row++[m])) AO c:=by
        intro c ap ez ay;obtain⟨ci,b6⟩:=bw c (by simp[cL] at ez; omega) ay;exact⟨(xH ap).trans (ci.trans (by rw[fD]; exact JV ez)),b6⟩
       have Jv:ih g.ops.l m≠[]->gO<(cL g (eJ g.ops.l m) vs rest).length:=fun bY=>by
        rcases ki.lt with h | h
        ·rw[h] at jT;cases gx:ih g.ops.l m with
         | nil=>exact absurd gx bY
         | cons=>rw[gx] at jT; cases jT
        ·exact h
       have fh:=(List.getElem?_eq_some_iff.1 ai).1;obtain⟨f1,f2⟩:=l2 wM sa fh qE;refine⟨by omega,sp,by rw[IntKind.wrap_i64]; omega,⟨⟨vs.set ob bf,cv.set ob (row++[m]),AO,gO,fw,rfl,?_,amS am au lY (by rw[nu]; exact aE) fC cF,?_,jT,?_,f1.trans ai,sa,f2⟩⟩,fun j bZ eo fF=>?_⟩
       ·exact a2.frame fun b ai ⟨a,sY,h1,ag,ap⟩=>by
         have aJ:3<=b:=Nat.le_of_not_lt fun h=>yo a2 h a sY h1 ag ap
         exact xH aJ
       ·by_cases bY:ih g.ops.l m=[]
        ·rw[bY] at jT ki ⊢;rw[iW.1 jT];exact .nil _
        ·obtain⟨h1,ag⟩:=kR.resolve_left bY;exact ki.frame fun h=>(l2 gO h1 (Jv bY) ag).1
       ·by_cases bY:ih g.ops.l m=[]
        ·exact .inl bY
        ·obtain⟨h1,ag⟩:=kR.resolve_left bY;exact .inr ⟨h1,(l2 gO h1 (Jv bY) ag).2⟩
       ·by_cases ai5:j=q
        ·subst ai5; rw[aE] at fF; obtain rfl:=Option.some.inj fF; exact tZ
        ·exact vU j bZ (by omega) fF
      ·simp[tZ];refine a1 (congrArg (ae.int .i64) ?_) rfl;have eS:¬ A3 g.ids.l g.ops.l=true:=fun h=>by
        have:=of_decide_eq_true h o eK;exact tZ (of_decide_eq_true this p qO)
       unfold oW;rw[if_pos aC,if_neg eS]
     ·have oH:q=o.bO.l.length:=by omega
      rw[oH] at lY;rw[<-nu] at lY;have Uv:=amQ lY (by rw[nu]; exact g3);have ja:vs.length=g.ops.l.length:=by rw[fu.mT,lY.len]
      have VU:eC (cL g (eJ g.ops.l m) vs rest) (.ptr wM 1 11)=some (O,1) :=by simp only[eC,ai]; rfl
      have Ae:cS (.ao 1) (.ao 1 1 0 g.ops.l.length g.ops.l.length g.ops.l.length) (.int .i64 (m:Int))=some (.ptr 1 m g.ops.l.length) :=by
       simp only[cS];rw[if_pos ⟨trivial,by omega,by omega⟩];simp
      have Ke:jF 1 (cL g (eJ g.ops.l m) vs rest) (.ptr 1 m g.ops.l.length) (.int .i64 o.bO.l.length)=some (cL g (eJ g.ops.l (m+1)) vs rest) :=by
       have h1:(cL g (eJ g.ops.l m) vs rest)[1]? = some (.cells g.ops.l.length ((eJ g.ops.l m).map i5)) :=rfl;simp only[jF,ae.cells,h1];rw[if_pos (by simp; omega)];have ag:bS ((eJ g.ops.l m).map i5) m [ae.int .i64 o.bO.l.length]=(eJ g.ops.l (m+1)).map i5:=by
        rw[<-aqV nq,nu];exact mR i5 (eJ g.ops.l m) m _ (by rw[adv]; exact nq)
       rw[ag]; rfl
      have Ar:eC (cL g (eJ g.ops.l (m+1)) vs rest) (.ptr 1 m g.ops.l.length)=some ((eJ g.ops.l (m+1)).map i5,m) :=by
       have h1:(cL g (eJ g.ops.l (m+1)) vs rest)[1]? = some (.cells g.ops.l.length ((eJ g.ops.l (m+1)).map i5)) :=rfl;simp only[eC,h1]; simp
      have Da:((eJ g.ops.l (m+1)).map i5)[m]? = some (.int .i64 o.bO.l.length) :=by
       rw[List.getElem?_map,EV nq,if_pos (by omega),nu]; rfl
      have atC:∀ h:m<((eJ g.ops.l (m+1)).map i5).length,((eJ g.ops.l (m+1)).map i5)[m]'h=.int .i64 o.bO.l.length:=fun h=>(List.getElem?_eq_some_iff.1 Da).2
      have Uu:O[1]? = some (bc o.bO) :=by rw[List.getElem?_eq_getElem (by rw[qz]; omega),kh]
      have tH:kb (cL g (eJ g.ops.l (m+1)) vs rest) vs cv da:=fu.frame fun b ai ⟨a,sY,h1,ag,ap⟩=>xH (Nat.le_of_not_lt fun h=>yo fu h a sY h1 ag ap)
      have CN:bX 1 (cL g (eJ g.ops.l (m+1)) vs rest) dA gO ((ih g.ops.l m).map gY) :=by
       by_cases bY:ih g.ops.l m=[]
       ·rw[bY] at jT ⊢;rw[iW.1 jT];exact .nil _
       ·exact ki.frame fun _=>xH (kR.resolve_left bY).1
      have CQ:∀ i,i<m+1->m4 g.ids.l (c5 g.ops.l i)=true:=fun i aA=>by
       by_cases aiY:i=m
       ·subst aiY;rw[nu];refine decide_eq_true fun p aE=>?_
        obtain⟨j,eo⟩:=List.mem_iff_getElem?.1 aE;exact vU j p (by rw[oH]; exact (List.getElem?_eq_some_iff.1 eo).1) eo
       ·exact eG i (by omega)
      by_cases aB:o.bO.l.length=0
      ·have ajf:c8 (.ao 32) (bc o.bO)=some (.int .i64 0) :=by rw[np,aB]; rfl
       have aj8:jF 1 (cL g (eJ g.ops.l m) vs rest) (.ptr 1 m g.ops.l.length) (.int .i64 0)=some (cL g (eJ g.ops.l (m+1)) vs rest) :=by rw[aB] at Ke; exact Ke
       have aiN:((eJ g.ops.l (m+1)).map i5)[m]? = some (.int .i64 0) :=by rw[aB] at Da; exact Da
       have oJ:ih g.ops.l (m+1)=ih g.ops.l m++[m] :=by
        rw[abW,nu,List.length_eq_zero_iff.1 aB]; rfl
       obtain⟨gN,K4,lH,iH⟩:∃ gN,bX 1 (cL g (eJ g.ops.l (m+1)) vs (rest++[.cells 1 [.int .i64 (m:Int)]])) dA gN ((ih g.ops.l m).map gY)/\3<=gN/\m2 cv da gN:=by
        by_cases bY:ih g.ops.l m=[]
        ·rw[bY] at jT ⊢;rw[iW.1 jT];exact⟨(cL g (eJ g.ops.l (m+1)) vs (rest++[.cells 1 [.int .i64 (m:Int)]])).length,.nil _,by simp[cL],A5 tH (by simp[cL])⟩
        ·exact⟨gO,CN.more _,(kR.resolve_left bY).1,(kR.resolve_left bY).2⟩
       have oI:(ih g.ops.l m).length<=m:=by
        have:=List.length_filter_le (fun k=>(c5 g.ops.l k).isEmpty) (List.range m);simpa [ih] using this
       obtain⟨p2,KM,ce,aY,a2,bh,bK,bw,cl⟩:=m5 (by_:=8) K4 (x:=.ao 1 (rest.length+3) 0 1 1 1) (xs:=[gY m]) (by simp[dv,cL,gY]) (by simp[gY]) (by omega) (by omega) (by rw[kq]; simp; omega);have JD:(cL g (eJ g.ops.l (m+1)) vs (rest++[.cells 1 [.int .i64 (m:Int)]])).length=rest.length+4:=by simp[cL]
       obtain⟨fw,rfl⟩:∃ r,ce=cL g (eJ g.ops.l (m+1)) vs r:=OP ((bK 0 (by omega) (by omega)).trans rfl) ((bK 1 (by omega) (by omega)).trans rfl) ((bK 2 (by omega) (by omega)).trans rfl);have J0:cL g (eJ g.ops.l (m+1)) vs rest++[bt.cells 1 [.int .i64 (m:Int)]]=cL g (eJ g.ops.l (m+1)) vs (rest++[.cells 1 [.int .i64 (m:Int)]]) :=rfl;have Dh:(cL g (eJ g.ops.l (m+1)) vs rest).length=rest.length+3:=by simp[cL]
       simp[sp,VU,Uu,ajf,Ae,aj8,Ar,aiN,J0,Dh,aY];refine dK.cM ?_;simp;have Kl:cU p2=false:=by
        cases aN:cU p2 with
        | true=>have:=(cl.1 (iW.1 aN)).2; cases this
        | false=>rfl
       refine⟨nq,by rw[IntKind.wrap_i64]; omega,⟨⟨vs,cv,da,KM,fw,rfl,?_,Uv,?_,?_,.inr ⟨?_,?_⟩⟩⟩,CQ⟩
       ·exact tH.frame fun b ai ⟨a,sY,h1,ag,ap⟩=>(bK b (by omega) (fun e=>iH a sY h1 ag (by omega))).trans (JV ai)
       ·rw[oJ,List.map_append]; exact a2
       ·rw[Kl,oJ]; simp
       ·rcases bw with e | e<;>omega
       ·rcases bw with e | e
        ·rw[e]; exact iH
        ·exact A5 tH (by omega)
      ·have oJ:ih g.ops.l (m+1)=ih g.ops.l m:=by
        rw[abW,nu];have:o.bO.l.isEmpty=false:=by cases gx:o.bO.l with | nil=>rw[gx] at aB; exact absurd rfl aB | cons=>rfl
        rw[this]; simp
       simp[sp,VU,Uu,np,Ae,Ke,Ar,Da,aB];exact⟨nq,by rw[IntKind.wrap_i64]; omega,⟨⟨vs,cv,da,gO,rest,rfl,tH,Uv,by rw[oJ]; exact CN,by rw[oJ]; exact jT,by rw[oJ]; exact kR⟩⟩,CQ⟩
    ·simp;obtain⟨vs,cv,da,gO,rest,rfl,fu,lY,ki,jT,kR⟩:=lm;refine⟨⟨vs,cv,da,gO,rest++[.cells 11 O],rfl,fu.more _,lY,ki.more _,jT,kR,by rw[CS,List.getElem?_append_right (Nat.le_refl _)]; simp,by rw[CS]; simp[cL],A5 fu (by rw[CS]; exact Nat.le_refl _)⟩⟩
   ·have hS:m=g.ops.l.length:=by omega
    subst hS;obtain⟨vs,cv,da,ak0,aoo,rfl,Ut,lY,ahL,ahN,ahM⟩:=lm;have IM:=amP lY;have ja:vs.length=g.ops.l.length:=by rw[Ut.mT,lY.len]
    have fO:A3 g.ids.l g.ops.l=true:=decide_eq_true fun o eK=>by
     obtain⟨j,eo⟩:=List.mem_iff_getElem?.1 eK;have:=eG j (List.getElem?_eq_some_iff.1 eo).1
     rwa [uv eo] at this
    have Ur:=ali (ids:=g.ids.l) (ops:=g.ops.l) au;rw[<-aqU] at Ur;have ahO:qf g vs cv da (eJ g.ops.l g.ops.l.length) (ih g.ops.l g.ops.l.length) dA aoo:=⟨⟨ak0,Ut,ahL,ahN,ahM⟩⟩
    simp;refine c7 g.ops.l.length (fun d ah l=>ah 1=.ptr 0 0 2/\ah 4=.ao 1 1 0 g.ops.l.length g.ops.l.length g.ops.l.length/\ah 5=.ao 1 2 0 g.ops.l.length g.ops.l.length g.ops.l.length/\ah 13=.int .i64 d ∧
     ∃ W R rest,l=cL g W vs rest/\qf g vs cv da W R (ah 6) rest/\qe g.ids.l g.ops.l [] d 0 R W) ?_ ?_
    ·rintro d ah l bN ⟨aY,bK,bw,kO,W,R,rest,rfl,lm,a8⟩;obtain⟨dA,cl⟩:∃ v,ah 6=v:=⟨_,rfl⟩
     rw[cl] at lm;obtain⟨ah,rfl⟩:=k7 aY bK bw cl kO;clear aY bK bw cl kO;unfold XQ;have IY:c8 (.ao 1) dA=some (.int .i64 R.length) :=by obtain⟨gO,_,ki,_⟩:=lm; have:=ki.len; simpa using this
     have jT:R.length<=g.ops.l.length:=by
      have:=s1 (b:=List.range g.ops.l.length) a8.iB fun x aj=>List.mem_range.2 (a8.nb x aj).1
      simpa using this
     by_cases C3:d<R.length
     ·obtain⟨a,aG,ahZ⟩:=ck C3;have ah0:=(a8.nb a ahZ).1;have aZ:IntKind.i64.wrap ((d:Int)+1)=((d+1:Nat) :Int) :=by rw[IntKind.wrap_i64]; omega
      obtain⟨row,cF,_⟩:=ck (l:=cv) (k:=a) (by rw[lY.len]; exact ah0);obtain⟨hz,xV,_⟩:=ck (l:=vs) (k:=a) (by omega);obtain⟨gO,fu,ki,Uw,kR⟩:=lm;obtain⟨Lr,zi,yQ,ev,dU,gH,oc⟩:=ki.q.get (k:=.i64) (i:=d) (e:=gY a) (by rw[List.getElem?_map,aG]; rfl);have u5:=one_cell (c:=.int .i64 (a:Int)) oc;have Db:cS (.ao 1) (.ao 1 2 0 g.ops.l.length g.ops.l.length g.ops.l.length) (.int .i64 (a:Int))=some (.ptr 2 a g.ops.l.length) :=by
       simp only[cS];rw[if_pos ⟨trivial,by omega,by omega⟩];simp
      have As:∀ rJ kA,eC (cL g rJ vs kA) (.ptr 2 a g.ops.l.length)=some (vs,a) :=fun rJ kA=>by
       have h1:(cL g rJ vs kA)[2]? = some (.cells g.ops.l.length vs) :=rfl;simp only[eC,h1]; simp
      have Kn:=(fu.own a hz row xV cF).1;have akf:c8 (.ao 1) hz=some (.int .i64 row.length) :=by have:=Kn.len; simpa using this
      have oI:=lY.Bo a row cF;simp[IY,C3,ev,dU,u5,Db,As,xV,akf];refine c7 row.length (fun j ah l=>ah 1=.ptr 0 0 2/\ah 4=.ao 1 1 0 g.ops.l.length g.ops.l.length g.ops.l.length/\ah 5=.ao 1 2 0 g.ops.l.length g.ops.l.length g.ops.l.length/\ah 13=.int .i64 d/\ah 106=hz/\ah 107=.int .i64 row.length/\ah 108=.int .i64 j ∧
       ∃ W R rest,l=cL g W vs rest/\qf g vs cv da W R (ah 6) rest/\qe g.ids.l g.ops.l row d j R W/\R[d]? = some a) ?_ ?_
      ·rintro j ah l Jv ⟨aY,bK,bw,kO,TY,TZ,T0,W,R,rest,rfl,lm,a8,aG⟩;obtain⟨dA,cl⟩:∃ v,ah 6=v:=⟨_,rfl⟩
       rw[cl] at lm;obtain⟨ah,rfl⟩:=ada aY bK bw cl kO TY TZ T0;clear aY bK bw cl kO TY TZ T0;unfold XP;by_cases eR:j<row.length
       ·obtain⟨k,hk,l3⟩:=ck eR;have gp:=IM.lt a row cF k l3;obtain⟨x,aj,x1,at4,zU⟩:=alj au am IM a8 aG cF hk;have at5:(c5 g.ops.l k).length<=4:=by
         obtain⟨c0,dX,ajE⟩:=ck gp;rw[uv dX]; exact aJ c0 ajE
        have aZ:IntKind.i64.wrap ((j:Int)+1)=((j+1:Nat) :Int) :=by rw[IntKind.wrap_i64]; omega
        have b4:IntKind.i64.wrap (x - 1)=x - 1:=by rw[IntKind.wrap_i64]; omega
        obtain⟨gO,fu,ki,Uw,kR⟩:=id lm;have Kn:=(fu.own a hz row xV cF).1;obtain⟨Lr,zi,yQ,ev,dU,gH,oc⟩:=Kn.q.get (k:=.i64) (i:=j) (e:=gY k) (by rw[List.getElem?_map,hk]; rfl);have u5:=one_cell (c:=.int .i64 (k:Int)) oc;have Ae:cS (.ao 1) (.ao 1 1 0 g.ops.l.length g.ops.l.length g.ops.l.length) (.int .i64 (k:Int))=some (.ptr 1 k g.ops.l.length) :=by
         simp only[cS];rw[if_pos ⟨trivial,by omega,by omega⟩];simp
        have ath:=a8.wl;have Ar:eC (cL g W vs rest) (.ptr 1 k g.ops.l.length)=some (W.map i5,k) :=by
         have h1:(cL g W vs rest)[1]? = some (.cells g.ops.l.length (W.map i5)) :=rfl;simp only[eC,h1]; simp
        have eQ:(W.map i5)[k]? = some (.int .i64 x) :=by rw[List.getElem?_map,aj]; rfl
        have cK:jF 1 (cL g W vs rest) (.ptr 1 k g.ops.l.length) (.int .i64 (x - 1))=some (cL g (W.set k (x - 1)) vs rest) :=by
         have h1:(cL g W vs rest)[1]? = some (.cells g.ops.l.length (W.map i5)) :=rfl;simp only[jF,ae.cells,h1];rw[if_pos (by simp; omega)];have ag:bS (W.map i5) k [ae.int .i64 (x - 1)]=(W.set k (x - 1)).map i5:=mR i5 W k _ (by omega);rw[ag]; rfl
        have As:eC (cL g (W.set k (x - 1)) vs rest) (.ptr 1 k g.ops.l.length)=some ((W.set k (x - 1)).map i5,k) :=by
         have h1:(cL g (W.set k (x - 1)) vs rest)[1]? = some (.cells g.ops.l.length ((W.set k (x - 1)).map i5)) :=rfl;simp only[eC,h1]; simp
        have C9:((W.set k (x - 1)).map i5)[k]? = some (.int .i64 (x - 1)) :=by rw[List.getElem?_map,List.getElem?_set_self (by omega)]; rfl
        have IZ:qf g vs cv da (W.set k (x - 1)) R dA rest:=lm.setW;obtain⟨ip,ahS⟩:∃ ip,ip=W.set k (x - 1) :=⟨_,rfl⟩
        rw[<-ahS] at cK As C9 IZ zU;by_cases aB:x - 1=0
        ·rw[if_pos aB] at zU;have dC:IntKind.i64.wrap (x - 1)=0:=by rw[b4]; exact aB
         rw[aB] at cK C9;have atd:R.length<=g.ops.l.length:=by
          have:=s1 (b:=List.range g.ops.l.length) a8.iB fun x aj=>List.mem_range.2 (a8.nb x aj).1
          simpa using this
         obtain⟨bf,fw,rf,Lq⟩:=IZ.push k (by rw[kq]; omega);have J0:cL g ip vs rest++[bt.cells 1 [.int .i64 (k:Int)]]=cL g ip vs (rest++[.cells 1 [.int .i64 (k:Int)]]) :=rfl;have Dh:(cL g ip vs rest).length=rest.length+3:=by simp[cL]
         simp[eR,ev,dU,u5,Ae,Ar,eQ,dC,cK,As,C9,J0,Dh,rf];refine dK.cM ?_;simp[eR,aZ];exact⟨ip,R++[k],fw,rfl,Lq,zU,by rw[List.getElem?_append_left (List.getElem?_eq_some_iff.1 aG).1]; exact aG⟩
        ·rw[if_neg aB] at zU;simp[eR,ev,dU,u5,Ae,Ar,eQ,b4,cK,As,C9,aB,aZ];exact⟨ip,R,rest,rfl,IZ,zU,aG⟩
       ·have ai4:j=row.length:=by omega
        subst ai4;simp[eR];exact⟨by omega,by rw[IntKind.wrap_i64]; omega,W,R,rest,rfl,lm,alg IM a8 aG cF⟩
      ·simp;exact⟨W,R,rest,rfl,⟨⟨gO,fu,ki,Uw,kR⟩⟩,alh a8,aG⟩
     ·have air:d=R.length:=by have:=a8.dl; omega
      subst air;obtain⟨lH,iH⟩:=alf au am a8;by_cases oB:R.length<g.ops.l.length
      ·simp[IY,C3,cL,ep,oB];refine a1 (congrArg (ae.int .i64) ?_) rfl;unfold oW;rw[if_pos aC,if_pos fO,if_neg (fun h=>by have:=iH.2 h; omega)]
      ·simp[IY,C3,cL,ep,oB];refine a1 (congrArg (ae.int .i64) ?_) rfl;unfold oW;rw[if_pos aC,if_pos fO,if_pos (iH.1 (by omega))]
    ·simp;exact⟨_,_,_,rfl,ahO,Ur⟩
  ·simp;refine⟨⟨List.replicate g.ops.l.length .aX,List.replicate g.ops.l.length [],fun _=>0,0,[],?_,⟨by simp,fun a v row ax ajZ=>?_,fun a b k5 mh _ aG _ JK _=>?_⟩,amR _ _,.nil _,rfl,.inl rfl⟩⟩
   ·unfold cL; rw[aqW,List.map_replicate]; rfl
   ·have h1:=List.eq_of_mem_replicate (List.mem_of_getElem? ax);have ag:=List.eq_of_mem_replicate (List.mem_of_getElem? ajZ);subst h1 ag;exact⟨.nil _,rfl,.inl rfl⟩
   ·exact absurd (List.eq_of_mem_replicate (List.mem_of_getElem? aG)) JK
set_option maxHeartbeats 4000000 in
theorem adm (g:b1) (az:hY g) :bR Tryz.prog GS 55 [dw g] (.int .i64 (hB g)) :=by
 refine cf Tryz.checked.mixed b2 ?_;apply bH R8 aa1;unfold Hu Nt;have fc:=hb g.ids;have dp:=oh g.ops;have ni:=Cb g;have ep:c8 (.ao 11) (cA g.ops)=some (.int .i64 g.ops.l.length) :=by simp[cA]
 have gM:c8 (.ao 32) (bc g.ids)=some (.int .i64 g.ids.l.length) :=by simp[bc]
 have bA:=az.cW;by_cases lW:60<(g.ops.l.length:Int)
 ·simp[dw,ew,ep,lW];refine a1 (congrArg (ae.int .i64) ?_) rfl;unfold hB; rw[if_pos (by omega)]
 by_cases au:g.ids.l.length=g.ops.l.length
 ·have c6:(g.ids.l.length:Int)=(g.ops.l.length:Int) :=by omega
  simp[dw,ew,ep,gM,lW,c6];refine c7 g.ops.l.length (fun k ah l=>(∃ rest,l=.cells 2 [bc g.ids,cA g.ops] ::rest)/\ah 1=.ptr 0 0 2/\ah 19=cA g.ops/\ah 20=.int .i64 g.ops.l.length/\ah 21=.int .i64 k/\∀ j,j<k->nd g j=true) ?_ (by simp);rintro k ah l hk ⟨⟨rest,rfl⟩,aY,qw,T3,rX,ar⟩;obtain⟨ah,rfl⟩:=jg aY qw T3 rX;clear aY qw T3 rX;unfold XB;by_cases cZ:k<g.ops.l.length
  ·obtain⟨o,ay,eK⟩:=ck cZ;obtain⟨x,aj,dF⟩:=ck (l:=g.ids.l) (k:=k) (by omega);have gL:=CC ay aj;have aZ:IntKind.i64.wrap ((k:Int)+1)=((k+1:Nat) :Int) :=by rw[IntKind.wrap_i64]; omega
   have cV:cS (.ao 11) (cA g.ops) (.int .i64 (k:Int))=some (.cq (bD o) 0) :=by simp[cA,ay]
   have vF:cS (.ao 32) (bc g.ids) (.int .i64 (k:Int))=some (.cq (a7 x) 0) :=by simp[bc,aj]
   have ax:=aqD o (az.ops o eK);have hr:=adn o (az.ops o eK);change bR Tryz.prog GS 38 [.aV (bD o)] (.bU [.aV (a7 (ib o)),.int .i64 (fY o)]) at hr;have po:=mz o;have bF:=dd (az.ids x dF);have zT:=dd (Kv o);have dJ:(bD o).length=11:=rfl;have heq:=Ku (Kv o) (az.ids x dF);have pk:¬ nd g k=true->hB g=8:=fun h=>by
    unfold hB;rw[if_neg (by omega),if_pos au,if_neg fun aN=>h ((xe g).1 aN k cZ)]
   obtain⟨O,fq⟩:∃ O,O=bD o:=⟨_,rfl⟩
   obtain⟨X,dN⟩:∃ X,X=a7 x:=⟨_,rfl⟩
   obtain⟨I,r7⟩:∃ I,I=a7 (ib o) :=⟨_,rfl⟩
   rw[<-fq] at cV ax hr po dJ;rw[<-dN] at vF bF heq;rw[<-r7] at hr heq zT;have mJ:bS [ae.int .u32 0,.aX,.int .u64 0,.int .u8 0,.str [],.int .u8 0,.int .i64 0,.int .u64 0,.str [],.int .u32 0,.int .u32 0] 0 O=O:=g8 (by rw[dJ]; rfl);have Kc:bS (rep 32 (.int .u8 0)) 0 I=I:=g8 (by rw[zT]; rfl);simp[cZ,cV,dJ,mJ,List.take_of_length_le];refine bC hr (by simp[bM,ae.closed,po]) ?_;by_cases aT:fY o=0
   ·by_cases fX:ib o=x
    ·simp[aT,zT,Kc,vF,bF,heq,fX,dJ,List.take_of_length_le];refine bC ax (by simp[bM,ae.closed,po]) ?_;by_cases qQ:p4 o=0
     ·simp[qQ,cZ,aZ];intro j am;by_cases g2:j=k
      ·subst g2; rw[gL]; simp[qQ,fX]
      ·exact ar j (by omega)
     ·have ai:¬ nd g k=true:=fun h=>by rw[gL] at h; simp[qQ] at h
      simp[qQ];exact a1 (congrArg (ae.int .i64) (pk ai).symm) rfl
    ·have ai:¬ nd g k=true:=fun h=>by rw[gL] at h; simp[fX] at h
     simp[aT,zT,Kc,vF,bF,heq,fX,dJ,List.take_of_length_le];exact a1 (congrArg (ae.int .i64) (pk ai).symm) rfl
   ·have ai:¬ nd g k=true:=fun h=>by
     rw[gL,Bool.and_eq_true,decide_eq_true_eq] at h;exact aT (BC h.1)
    simp[aT,zT,Kc,vF,bF,heq,dJ,List.take_of_length_le];exact a1 (congrArg (ae.int .i64) (pk ai).symm) rfl
  ·have ps:k=g.ops.l.length:=by omega
   have eG:CB g=true:=(xe g).2 fun j am=>ar j (by omega)
   have aJ:∀ o∈g.ops.l,o.bO.l.length<=4:=fun o eK=>by
    obtain⟨j,am⟩:=List.mem_iff_getElem?.1 eK;obtain⟨x,aj,_⟩:=ck (l:=g.ids.l) (k:=j) (by have:=(List.getElem?_eq_some_iff.1 am).1; omega);have h1:=(xe g).1 eG j (List.getElem?_eq_some_iff.1 am).1;rw[CC am aj,Bool.and_eq_true,decide_eq_true_eq] at h1;exact ym (BC h1.1)
   have nx:=aoR g az au (by omega) aJ;unfold dw ew at nx ni;simp[cZ];refine bC nx (by simp[bM,ni]) ?_;simp;refine a1 (congrArg (ae.int .i64) ?_) rfl;unfold hB;rw[if_neg (by omega),if_pos au,if_pos eG]
 ·have c6:¬ (g.ids.l.length:Int)=(g.ops.l.length:Int) :=by omega
  simp[dw,ew,ep,gM,lW,c6];refine a1 (congrArg (ae.int .i64) ?_) rfl;unfold hB; rw[if_neg (by omega),if_neg au]
def r2 (o:bQ) :Bool:=decide (20<o.bO.l.length)||(decide (100<o.act.key.length)||decide (100<o.act.val.text.length))
theorem anL (o:bQ) :bR Tryz.prog GS 53 [.aV (bD o)] (.bool (r2 o)) :=by
 refine cf Tryz.checked.mixed b2 ?_;apply bH R6 aaZ;unfold Ht Ns r2;have np:c8 (.ao 32) (bc o.bO)=some (.int .i64 o.bO.l.length) :=by simp[bc]
 by_cases h1:20<o.bO.l.length
 ·have dH:(20:Int)<(o.bO.l.length:Int) :=by omega
  simp[bD,np,h1,dH];exact a1 rfl rfl
 ·have dH:¬ (20:Int)<(o.bO.l.length:Int) :=by omega
  by_cases ag:100<o.act.key.length
  ·have fT:(100:Int)<(o.act.key.length:Int) :=by omega
   simp[bD,np,h1,dH,ag,fT];exact a1 rfl rfl
  ·have fT:¬ (100:Int)<(o.act.key.length:Int) :=by omega
   simp[bD,np,h1,dH,ag,fT];refine a1 (congrArg ae.bool ?_) rfl;by_cases ap:100<o.act.val.text.length
   ·have tE:(100:Int)<(o.act.val.text.length:Int) :=by omega
    simp[ap,tE]
   ·have tE:¬ (100:Int)<(o.act.val.text.length:Int) :=by omega
    simp[ap,tE]
def tD (g:b1) :Bool:=decide (∃ o∈g.ops.l.take 71,r2 o=true)||(decide (16<g.ops.l.length/\g.ops.l.length<=60)||(decide (70<g.ops.l.length)||decide (70<g.ids.l.length)))
theorem anK (g:b1) :bR Tryz.prog GS 22 [dw g] (.bool (tD g)) :=by
 refine cf Tryz.checked.mixed b2 ?_;apply bH RG aaz;unfold Ha M7;have ep:c8 (.ao 11) (cA g.ops)=some (.int .i64 g.ops.l.length) :=by simp[cA]
 have gM:c8 (.ao 32) (bc g.ids)=some (.int .i64 g.ids.l.length) :=by simp[bc]
 simp[dw,ew];refine c7 (min g.ops.l.length 71) (fun k ah l=>l=[.cells 2 [bc g.ids,cA g.ops]]/\ah 1=.ptr 0 0 2/\ah 3=.int .i64 k/\∀ (j:Nat) (o:bQ),j<k->g.ops.l[j]? = some o->r2 o=false) ?_ (by simp);rintro k ah l hk ⟨rfl,aY,bh,ar⟩;obtain⟨ah,rfl⟩:=o3 aY bh;clear aY bh;unfold Xo;by_cases cZ:k<g.ops.l.length
 ·by_cases Vk:k<=70
  ·obtain⟨o,ay,eK⟩:=ck cZ;have aZ:IntKind.i64.wrap ((k:Int)+1)=((k+1:Nat) :Int) :=by rw[IntKind.wrap_i64]; omega
   have cV:cS (.ao 11) (cA g.ops) (.int .i64 (k:Int))=some (.cq (bD o) 0) :=by simp[cA,ay]
   have ax:=anL o;have po:=mz o;have dJ:(bD o).length=11:=rfl;have Jx:(k:Int)<=70:=by omega
   have l3:k<min g.ops.l.length 71:=by omega
   obtain⟨O,fq⟩:∃ O,O=bD o:=⟨_,rfl⟩
   rw[<-fq] at cV ax po dJ;simp[ep,cZ,Vk,Jx,cV,dJ,List.take_of_length_le];refine bC ax (by simp[bM,ae.closed,po]) ?_;by_cases nk:r2 o=true
   ·simp[nk];refine a1 (congrArg ae.bool ?_) rfl;unfold tD;rw[decide_eq_true ⟨o,List.mem_of_getElem? (i:=k) (by rw[List.getElem?_take_of_lt (by omega)]; exact ay),nk⟩]; rfl
   ·rw[Bool.not_eq_true] at nk;simp[nk,aZ];refine⟨by omega,fun j c0 am dX=>?_⟩;by_cases g2:j=k
    ·subst g2; rw[ay] at dX; obtain rfl:=Option.some.inj dX; exact nk
    ·exact ar j c0 (by omega) dX
  ·have Jx:¬ (k:Int)<=70:=by omega
   have aH:¬ ∃ o∈g.ops.l.take 71,r2 o=true:=fun ⟨o,eK,nk⟩=>by
    obtain⟨j,am⟩:=List.mem_iff_getElem?.1 eK;have eR:=(List.getElem?_eq_some_iff.1 am).1;rw[List.length_take] at eR;rw[List.getElem?_take_of_lt (by omega)] at am;rw[ar j o (by omega) am] at nk; cases nk
   have bj:(16:Int)<(g.ops.l.length:Int) :=by omega
   have bz:¬ (g.ops.l.length:Int)<=60:=by omega
   have a3:(70:Int)<(g.ops.l.length:Int) :=by omega
   simp[ep,gM,cZ,Vk,Jx,bj,bz,a3];refine a1 (congrArg ae.bool ?_) rfl;unfold tD;simp[show 70<g.ops.l.length by omega]
 ·have aH:¬ ∃ o∈g.ops.l.take 71,r2 o=true:=fun ⟨o,eK,nk⟩=>by
   obtain⟨j,am⟩:=List.mem_iff_getElem?.1 eK;have eR:=(List.getElem?_eq_some_iff.1 am).1;rw[List.length_take] at eR;rw[List.getElem?_take_of_lt (by omega)] at am;rw[ar j o (by omega) am] at nk; cases nk
  have Jm:tD g=(decide (16<g.ops.l.length/\g.ops.l.length<=60)||(decide (70<g.ops.l.length)||decide (70<g.ids.l.length))) :=by
   unfold tD; rw[decide_eq_false aH]; rfl
  rw[Jm];have d1:decide ((16:Int)<(g.ops.l.length:Int))=decide (16<g.ops.l.length) :=by rw[decide_eq_decide]; omega
  have d2:decide ((g.ops.l.length:Int)<=60)=decide (g.ops.l.length<=60) :=by rw[decide_eq_decide]; omega
  have d3:decide ((70:Int)<(g.ops.l.length:Int))=decide (70<g.ops.l.length) :=by rw[decide_eq_decide]; omega
  have d4:decide ((70:Int)<(g.ids.l.length:Int))=decide (70<g.ids.l.length) :=by rw[decide_eq_decide]; omega
  by_cases bj:16<g.ops.l.length
  ·have pc:(16:Int)<(g.ops.l.length:Int) :=by omega
   by_cases bz:g.ops.l.length<=60
   ·have BM:(g.ops.l.length:Int)<=60:=by omega
    simp[ep,gM,cZ,bj,pc,bz,BM];exact a1 rfl rfl
   ·have BM:¬ (g.ops.l.length:Int)<=60:=by omega
    by_cases a3:70<g.ops.l.length
    ·have y3:(70:Int)<(g.ops.l.length:Int) :=by omega
     simp[ep,gM,cZ,bj,pc,bz,BM,a3,y3];exact a1 rfl rfl
    ·have y3:¬ (70:Int)<(g.ops.l.length:Int) :=by omega
     simp[ep,gM,cZ,bj,pc,bz,BM,a3,y3];exact a1 (congrArg ae.bool d4) rfl
  ·have pc:¬ (16:Int)<(g.ops.l.length:Int) :=by omega
   have a3:¬ 70<g.ops.l.length:=by omega
   have y3:¬ (70:Int)<(g.ops.l.length:Int) :=by omega
   simp[ep,gM,cZ,bj,pc,a3,y3];exact a1 (congrArg ae.bool d4) rfl
structure mw (g:b1) :Prop where
 n60:g.ops.l.length<=60
 len:g.ids.l.length=g.ops.l.length
 qx:∀ (k:Nat) (o:bQ) (x:List B),g.ops.l[k]? = some o->g.ids.l[k]? = some x->p4 o=0/\ib o=x
 eU:eU g.ids.l=true
 Li:∀ o∈g.ops.l,∀ p∈o.bO.l,p∈g.ids.l
 all:∀ i,i<g.ops.l.length->n0 g.ids.l g.ops.l i
theorem D7 {g:b1} (h:hB g=0) :mw g:=by
 unfold hB at h;split at h
 ·cases h
 ·rename_i lW;split at h
  ·rename_i au;split at h
   ·rename_i gL;unfold oW at h;split at h
    ·rename_i aC;split at h
     ·rename_i fO;split at h
      ·rename_i kn;refine⟨by omega,au,fun k o x ay aj=>?_,aC,fun o eK p aE=>?_,(Yy au (oM aC)).1 kn⟩
       ·have:=(xe g).1 gL k (List.getElem?_eq_some_iff.1 ay).1;rw[CC ay aj,Bool.and_eq_true,decide_eq_true_eq,decide_eq_true_eq] at this;exact this
       ·exact of_decide_eq_true (of_decide_eq_true fO o eK) p aE
      ·cases h
     ·cases h
    ·cases h
   ·cases h
  ·cases h
def DP (g:b1) (x:List B) :Int:=if hB g=0 then (if x∈g.ids.l then (vc g.ids.l x:Int) else 0) else 0
def DO (g:b1) (x:List B) :Int:=if hB g=0 then (if x∈g.ids.l then 0 else 6) else hB g
set_option maxHeartbeats 2000000 in
theorem alS (g:b1) (az:hY g) (x:List B) (aj:x.length=32) :bR Tryz.prog GS 87 [dw g,.aV (a7 x)] (.bU [.int .i64 (DP g x),.int .i64 (DO g x)]) :=by
 refine cf Tryz.checked.mixed b2 ?_;apply bH SC abw;unfold HT NS DP DO;have fc:=hb g.ids;have dp:=oh g.ops;have dW:=adm g az;have gK:=gf x;have bF:=dd aj;unfold dw ew at dW;by_cases aT:hB g=0
 ·have V:=D7 aT;have ar:=acp g.ids az.ids az.li x aj V.eU;obtain⟨X,dN⟩:∃ X,X=a7 x:=⟨_,rfl⟩
  rw[<-dN] at ar gK bF ⊢;rw[aT] at dW;simp[dw,ew,bF,List.take_of_length_le];refine bC dW (by simp[bM,ae.closed,fc,dp]) ?_;simp[bF,List.take_of_length_le];refine bC ar (by simp[bM,ae.closed,fc,gK]) ?_;by_cases hm:x∈g.ids.l
  ·simp[hm,aT];exact a1 rfl rfl
  ·simp[hm,aT];exact a1 rfl rfl
 ·obtain⟨X,dN⟩:∃ X,X=a7 x:=⟨_,rfl⟩
  rw[<-dN] at gK bF ⊢;simp[dw,ew,bF,List.take_of_length_le];refine bC dW (by simp[bM,ae.closed,fc,dp]) ?_;simp[aT];exact a1 rfl rfl
def md (ids:List (List B)) (seen:List Bool) (k:Nat) :List (List B) :=(List.range k).flatMap fun i=>if seen.getD i false=true then [ch ids i] else []
theorem Yd (ids:List (List B)) (seen:List Bool) (k:Nat) :md ids seen (k+1)=md ids seen k++(if seen.getD k false=true then [ch ids k] else []) :=by
 unfold md; rw[List.range_succ,List.flatMap_append]; simp
theorem K8 (ids:List (List B)) (seen:List Bool) :∀ k,(md ids seen k).length<=k
 | 0=>by simp[md]
 | k+1=>by
  have:=K8 ids seen k;rw[Yd,List.length_append];split<;>simp<;>omega
theorem Yc {ids:List (List B)} {seen:List Bool} {x:List B}:∀ {k:Nat},x∈md ids seen k<->∃ i,i<k/\seen.getD i false=true/\ch ids i=x:=by
 intro k;unfold md;rw[List.mem_flatMap];constructor
 ·rintro⟨i,aA,aj⟩;split at aj
  ·rename_i ar;rw[List.mem_singleton] at aj;exact⟨i,List.mem_range.1 aA,ar,aj.symm⟩
  ·cases aj
 ·rintro⟨i,aA,ar,aj⟩;exact⟨i,List.mem_range.2 aA,by rw[if_pos ar,aj]; simp⟩
set_option maxHeartbeats 2000000 in
theorem al3 (g:b1) (az:hY g) (seen:dk Bool) (ar:seen.l.length=g.ids.l.length) :bR Tryz.prog GS 88 [dw g,cO 1 jO seen] (bc (e4 (md g.ids.l seen.l seen.l.length))) :=by
 refine cf Tryz.checked.mixed b2 ?_;apply bH SD abx;unfold HU NT;have aC:cT=140737488355328:=rfl;have gM:=az.li;have eT:c8 (.ao 1) (cO 1 jO seen)=some (.int .i64 seen.l.length) :=oP _;simp[dw,ew,eT];refine c7 seen.l.length (fun k ah l=>ah 1=cO 1 jO seen/\ah 2=.ptr 0 0 2/\ah 8=.int .i64 seen.l.length/\ah 9=.int .i64 k/\∃ j rest,l=.cells 2 [bc g.ids,cA g.ops] ::rest ∧
  bX 32 l (ah 5) j ((md g.ids.l seen.l k).map a7)/\(ah 5=.aX\/1<=j)/\cU (ah 5)=(md g.ids.l seen.l k).isEmpty) ?_ ?_
 ·rintro k ah l hk ⟨aY,a2,ek,g0,j,rest,rfl,h8,am,i9⟩;obtain⟨v,bw⟩:∃ v,ah 5=v:=⟨_,rfl⟩
  rw[bw] at h8 am i9;obtain⟨ah,rfl⟩:=k7 aY a2 bw ek g0;clear aY a2 bw ek g0;unfold XR;by_cases cZ:k<seen.l.length
  ·obtain⟨b,ai,_⟩:=ck cZ;obtain⟨x,aj,dF⟩:=ck (l:=g.ids.l) (k:=k) (by omega);have aZ:IntKind.i64.wrap ((k:Int)+1)=((k+1:Nat) :Int) :=by rw[IntKind.wrap_i64]; omega
   have cV:cS (.ao 1) (cO 1 jO seen) (.int .i64 (k:Int))=some (.cq [.bool b] 0) :=by rw[pB]; simp[ai,jO]
   have tP:cS (.ao 32) (bc g.ids) (.int .i64 (k:Int))=some (.cq (a7 x) 0) :=by simp[bc,aj]
   have Kb:seen.l.getD k false=b:=by rw[List.getD_eq_getElem?_getD,ai]; rfl
   have bF:=dd (az.ids x dF);have lv:=K8 g.ids.l seen.l k;have xR:=Yd g.ids.l seen.l k;rw[Kb] at xR;cases b with
   | false=>
    simp at xR;simp[cZ,cV,aZ];rw[xR];exact⟨j,h8,am,i9⟩
   | true=>
    rw[if_pos rfl,hW aj] at xR;obtain⟨bf,ct,cx,bj,bz,a3,a4⟩:=y8 (by_:=32) (pre:=[.cells 2 [bc g.ids,cA g.ops]]) (rest:=rest++[.cells 32 (a7 x)]) (h8.more _) am (x:=.ao 32 (rest.length+1) 0 1 1 32) (xs:=[a7 x])
     (by simp[dv,bF,List.take_of_length_le]) (by simp[bF]) (by omega) (by omega) (by rw[aC]; simp; omega)
    have cF:(md g.ids.l seen.l (k+1)).map a7=(md g.ids.l seen.l k).map a7++[a7 x] :=by rw[xR]; simp
    obtain⟨X,dN⟩:∃ X,X=a7 x:=⟨_,rfl⟩
    rw[<-dN] at tP bF bj bz cF;have sr:bS (rep 32 (.int .u8 0)) 0 X=X:=g8 (by rw[bF]; rfl);simp only[List.cons_append,List.nil_append] at bj;simp[cZ,cV,tP,bF,sr,List.take_of_length_le,bj];refine dK.cM ?_;simp[cZ,aZ];refine⟨ct,by rw[cF]; exact bz,by simpa using a3,by rw[a4,xR]; simp⟩
  ·have ps:k=seen.l.length:=by omega
   subst ps;simp[cZ];exact h8.q.rl (fun x=>gf x) (e4 _) (by rw[i9,wv]) (hJ _)
 ·have aT:md g.ids.l seen.l 0=[] :=rfl;simp[aT];exact⟨⟨0,.nil 0⟩,rfl⟩
theorem Ft:∀ l:List B,e8 (l.map bI) (l.map bI)=true
 | []=>rfl
 | x::l=>by
  have h1:ae.beq (bI x) (bI x)=true:=by simp[bI,ae.beq]
  show (ae.beq (bI x) (bI x)&&e8 (l.map bI) (l.map bI))=true;rw[h1,Ft l]; rfl
theorem aeB (x:List B) :ae.beq (.aV (a7 x)) (.aV (a7 x))=true:=Ft x
theorem It {x:List B} (h:x.length=32) :j5 Tryz.prog 71 (.aV (a7 x))=true:=by
 have h1:pH Tryz.prog 8 71=true:=by kernel_rfl
 have ag:dM Tryz.prog 71=some true:=by kernel_rfl
 have ap:cz Tryz.prog 71=some 32:=by kernel_rfl
 have aJ:(x.map bI).all rh=true:=by rw[List.all_eq_true]; intro c al; obtain⟨b,_,rfl⟩:=List.mem_map.1 al; rfl
 show (pH Tryz.prog 8 71&&(match dM Tryz.prog 71,cz Tryz.prog 71 with | some true,some m=>Nat.beq (x.map bI).length m | _,_=>false)&&(x.map bI).all rh)=true;rw[h1,ag,ap,aJ,List.length_map,h];rfl
theorem X9:∀ {a b:List B},a.map (fun x=>u x)=b.map (fun x=>u x)<->a=b
 | [],[]=>by simp
 | [],_::_=>by simp
 | _::_,[]=>by simp
 | x::a,y::b=>by
  rw[List.map_cons,List.map_cons,List.cons.injEq,List.cons.injEq,X9 (a:=a) (b:=b)];simp
theorem agC {a b:List B} (aG:a.length=32) (ai:b.length=32) {D:Nat}:ej Tryz.prog (D+2) 71 (.aV (a7 a)) (.aV (a7 b))=some (decide (a=b)) :=by
 have h:=agE (P:=Tryz.prog) (t:=71) (e:=5) (k:=.u8) (n:=32) (by kernel_rfl) (by kernel_rfl) (by kernel_rfl) (by kernel_rfl) (x:=a.map fun x=>u x) (y:=b.map fun x=>u x) (by simp[aG]) (by simp[ai]) (D:=D);rw[List.map_map,List.map_map] at h;unfold a7;rw[show a.map bI=a.map (ae.int .u8 ∘ fun x=>u x) from rfl,show b.map bI=b.map (ae.int .u8 ∘ fun x=>u x) from rfl,h];simp only[X9]
inductive qb:Nat->List (ae × ae × Nat)->List (List B)->Prop
 | nil (b:Nat) :qb b [] []
 | cons {b:Nat} {es:List (ae × ae × Nat)} {bV:List (List B)} {k:List B} (n:Nat) (hk:k.length=32) (h:qb (b+1) es bV) :qb b ((.aV (a7 k),.int .i64 (b:Int),n) ::es) (k::bV)
theorem qb.len {b:Nat} {es:List (ae × ae × Nat)} {bV:List (List B)} (h:qb b es bV) :es.length=bV.length:=by induction h<;>simp_all
theorem qb.snoc {b:Nat} {es:List (ae × ae × Nat)} {bV:List (List B)} (h:qb b es bV) {k:List B} (hk:k.length=32) (n:Nat) :qb b (es++[(.aV (a7 k),.int .i64 ((b+bV.length:Nat) :Int),n)]) (bV++[k]) :=by
 induction h with
 | nil b=>exact .cons n hk (.nil _)
 | @cons b es bV k' m eH h aL=>
  refine .cons m eH ?_;rw[show b+1+bV.length=b+(k'::bV).length by simp; omega] at aL;exact aL
theorem TG {x:List B} (aj:x.length=32) {b:Nat} {es:List (ae × ae × Nat)} {bV:List (List B)} (h:qb b es bV) :∀ c,(∀ i,bV[i]? = some x->(∀ j,j<i->bV[j]?≠some x)->iQ Tryz.prog 71 (.aV (a7 x)) es c=some (some (c+i,.int .i64 ((b+i:Nat) :Int))))/\(x∉bV->iQ Tryz.prog 71 (.aV (a7 x)) es c=some none) :=by
 induction h with
 | nil b=>intro c; exact⟨fun i h=>by simp at h,fun _=>rfl⟩
 | @cons b es bV k n hk h aL=>
  intro c;unfold iQ;rw[It hk];simp only;rw[show ej Tryz.prog 10000 71 (.aV (a7 x)) (.aV (a7 k))=some (decide (x=k)) from agC aj hk (D:=9998)];by_cases aw:x=k
  ·subst aw;simp only[decide_true,aeB];refine⟨fun i aA eS=>?_,fun h=>absurd (by simp) h⟩;cases i with
   | zero=>rfl
   | succ i=>exact absurd rfl (eS 0 (by omega))
  ·simp only[aw,decide_false];obtain⟨h1,ag⟩:=aL (c+1);refine⟨fun i aA eS=>?_,fun h=>ag (fun h'=>h (by simp[h']))⟩;cases i with
   | zero=>simp at aA; exact absurd aA.symm aw
   | succ i=>
    rw[h1 i (by simpa using aA) (fun j am=>by have:=eS (j+1) (by omega); simpa using this)];rw[show c+1+i=c+(i+1) by omega,show b+1+i=b+(i+1) by omega]
structure mx (l:av) (j:Nat) (bV:List (List B)) :Prop where
 e:∃ es ei,l[j]? = some (.map es ei)/\qb 0 es bV
theorem mx.look {l:av} {j:Nat} {bV:List (List B)} (h:mx l j bV) (am:im bV) {x:List B} (aj:x.length=32) {i:Nat} (aA:bV[i]? = some x) :um Tryz.prog l 71 (.int .i64 0) false (.mp j) (.aV (a7 x))=some (.int .i64 (i:Int)) :=by
 obtain⟨es,ei,h1,ag⟩:=h.e;have ap:q2 l (.mp j)=some es:=by simp[q2,h1]
 unfold um;rw[ap];simp only[It aj];rw[(TG aj ag 0).1 i aA (fun t aU aN=>by have:=am t i x aN aA; omega)];simp
theorem mx.put {l:av} {j:Nat} {bV:List (List B)} (h:mx l j bV) {x:List B} (aj:x.length=32) (aH:x∉bV) :∃ c,q3 Tryz.prog l 71 (.mp j) (.aV (a7 x)) (.int .i64 (bV.length:Int))=some (l.set j c)/\(∀ l' : av,l'[j]? = some c->mx l' j (bV++[x])) :=by
 obtain⟨es,ei,h1,ag⟩:=h.e;unfold q3;simp only[h1,It aj,(TG aj ag 0).2 aH];exact⟨_,rfl,fun l' c6=>⟨_,_,c6,by have:=ag.snoc aj ei; rw[Nat.zero_add] at this; exact this⟩⟩
theorem mx.frame {l l' : av} {j:Nat} {bV:List (List B)} (h:mx l j bV) (am:l'[j]? = l[j]?) :mx l' j bV:=by
 obtain⟨es,ei,h1,ag⟩:=h.e;exact⟨es,ei,by rw[am,h1],ag⟩
theorem mx.lt {l:av} {j:Nat} {bV:List (List B)} (h:mx l j bV) :j<l.length:=by
 obtain⟨es,ei,h1,ag⟩:=h.e;exact (List.getElem?_eq_some_iff.1 h1).1
theorem alZ {P:Program} {aD:Operand->ae} {l:av} {o:Operand} {k:IntKind} {n:Int} (h:aD o=.int k n) :bW P aD l (.pN (some o))=some (.mp l.length,l++[.map [] 0]) :=by
 show (match asInt (aD o) with | some _=>some (ae.mp l.length,l++[bt.map [] 0]) | none=>none)=_;rw[h]; rfl
set_option maxHeartbeats 2000000 in
theorem amT (g:b1) (az:hY g) (am:im g.ids.l) {l:av} {K:ae->av->Prop} (a8:∀ j l',mx l' j g.ids.l->l.length<=j->(∀ c,c<l.length->l'[c]? = l[c]?)->l.length<=l'.length->K (.mp j) l') :
  dh Tryz.prog GS 124 [dw g] l (c:=⟨K⟩) :=by
 apply bH Qy Zq;unfold FZ L8;have gM:=az.li;have eT:c8 (.ao 32) (bc g.ids)=some (.int .i64 g.ids.l.length) :=by simp[bc]
 simp[dw,ew,eT];rw[alZ (k:=.i64) (n:=g.ids.l.length) (by simp)];simp[eT];refine c7 g.ids.l.length (fun k ah l'=>ah 3=.mp (l.length+1)/\ah 11=bc g.ids/\ah 12=.int .i64 g.ids.l.length/\ah 13=.int .i64 k/\mx l' (l.length+1) (g.ids.l.take k)/\(∀ c,c<l.length->l'[c]? = l[c]?)) ?_ ?_
 ·rintro k ah l' hk ⟨bh,h6,hC,kO,qA,l2⟩;obtain⟨ah,rfl⟩:=jg bh h6 hC kO;clear bh h6 hC kO;unfold WR;by_cases cZ:k<g.ids.l.length
  ·obtain⟨x,aj,dF⟩:=ck cZ;have aZ:IntKind.i64.wrap ((k:Int)+1)=((k+1:Nat) :Int) :=by rw[IntKind.wrap_i64]; omega
   have tP:cS (.ao 32) (bc g.ids) (.int .i64 (k:Int))=some (.cq (a7 x) 0) :=by simp[bc,aj]
   have ma:=az.ids x dF;have bF:=dd ma;have cK:g.ids.l.take (k+1)=g.ids.l.take k++[x] :=by rw[List.take_add_one,aj]; rfl
   have eS:x∉g.ids.l.take k:=fun hm=>by
    obtain⟨t,aU⟩:=List.mem_iff_getElem?.1 hm;have kt:=(List.getElem?_eq_some_iff.1 aU).1;rw[List.length_take] at kt;rw[List.getElem?_take_of_lt (by omega)] at aU;have:=am t k x aU aj; omega
   have aP:=qA.lt;have ahJ:mx (l'++[.cells 32 (a7 x)]) (l.length+1) (g.ids.l.take k) :=qA.frame (List.getElem?_append_left aP);obtain⟨c,cX,dB⟩:=ahJ.put ma eS;have jX:(g.ids.l.take k).length=k:=by rw[List.length_take]; omega
   rw[jX] at cX;obtain⟨X,dN⟩:∃ X,X=a7 x:=⟨_,rfl⟩
   rw[<-dN] at tP bF cX;have sr:bS (rep 32 (.int .u8 0)) 0 X=X:=g8 (by rw[bF]; rfl);simp[cZ,tP,bF,sr,List.take_of_length_le,cX,aZ];refine⟨?_,fun c' fi=>?_⟩
   ·rw[cK];exact dB _ (by rw[List.getElem?_set_self (by simp; omega)])
   ·rw[List.getElem?_set_ne (by omega),List.getElem?_append_left (by omega)];exact l2 c' fi
  ·have ps:k=g.ids.l.length:=by omega
   rw[ps,List.take_length] at qA;simp[cZ];exact a8 _ _ qA (by omega) l2 (by have:=qA.lt; omega)
 ·simp;refine⟨⟨[],0,by simp,.nil 0⟩,fun c al=>by rw[List.getElem?_append_left al]⟩
inductive io (ids:List (List B)) (ops:List bQ) (L:List (List B)) :Nat->Prop
 | start (p:List B) (j:Nat) (aE:p∈L) (am:ids[j]? = some p) :io ids ops L j
 | step (i:Nat) (p:List B) (j:Nat) (h:io ids ops L i) (aE:p∈c5 ops i) (am:ids[j]? = some p) :io ids ops L j
theorem io.mono {ids:List (List B)} {ops:List bQ} {L Pl:List (List B)} (ar:∀ p∈L,p∈Pl) {i:Nat} (h:io ids ops L i) :io ids ops Pl i:=by
 induction h with
 | start p j aE am=>exact .start p j (ar p aE) am
 | step i p j _ aE am aL=>exact .step i p j aL aE am
theorem io.under {ids:List (List B)} {ops:List bQ} {L:List (List B)} {i:Nat} (aA:io ids ops L i) {j:Nat} (h:io ids ops (c5 ops i) j) :io ids ops L j:=by
 induction h with
 | start p j aE am=>exact .step i p j aA aE am
 | step iz p j _ aE am aL=>exact .step iz p j aL aE am
structure n5 (ids:List (List B)) (ops:List bQ) (L:List (List B)) (S hl:List Bool) :Prop where
 len:hl.length=S.length
 mono:∀ (i:Nat),S[i]? = some true->hl[i]? = some true
 st:∀ p∈L,∀ (j:Nat),ids[j]? = some p->hl[j]? = some true
 new:∀ (i:Nat),hl[i]? = some true->S[i]? = some true\/(io ids ops L i/\∀ p∈c5 ops i,∀ (j:Nat),ids[j]? = some p->hl[j]? = some true)
theorem adj (ids:List (List B)) (ops:List bQ) (S:List Bool) :n5 ids ops [] S S:=⟨rfl,fun _ h=>h,fun p aE=>by simp at aE,fun _ h=>.inl h⟩
theorem adk {ids:List (List B)} {ops:List bQ} {L:List (List B)} {p:List B} {S Pm i3:List Bool} (h1:n5 ids ops L S Pm) (ag:n5 ids ops [p] Pm i3) :n5 ids ops (L++[p]) S i3:=by
 refine⟨ag.len.trans h1.len,fun i h=>ag.mono i (h1.mono i h),fun q bp j am=>?_,fun i h=>?_⟩
 ·rw[List.mem_append] at bp;rcases bp with bp | bp
  ·exact ag.mono j (h1.st q bp j am)
  ·exact ag.st q bp j am
 ·rcases ag.new i h with ap | ⟨ap,aJ⟩
  ·rcases h1.new i ap with bd | ⟨bd,bL⟩
   ·exact .inl bd
   ·exact .inr ⟨bd.mono fun q bp=>by simp[bp],fun q bp j am=>ag.mono j (bL q bp j am)⟩
  ·exact .inr ⟨ap.mono fun q bp=>by simp at bp; simp[bp],aJ⟩
theorem aqm {ids:List (List B)} {ops:List bQ} (eV:im ids) {p:List B} {i:Nat} {S:List Bool} (aA:ids[i]? = some p) (ar:S[i]? = some true) :n5 ids ops [p] S S:=by
 refine⟨rfl,fun _ h=>h,fun q bp j am=>?_,fun _ h=>.inl h⟩;rw[List.mem_singleton] at bp;subst bp;rw[eV j i q am aA];exact ar
theorem aqn {ids:List (List B)} {ops:List bQ} (eV:im ids) {p:List B} {i:Nat} {S i3:List Bool} (aA:ids[i]? = some p) (au:i<S.length) (h:n5 ids ops (c5 ops i) (S.set i true) i3) :n5 ids ops [p] S i3:=by
 have hit:i3[i]? = some true:=h.mono i (List.getElem?_set_self au);have VV:io ids ops [p] i:=.start p i (by simp) aA;refine⟨by rw[h.len]; simp,fun j am=>h.mono j ?_,fun q bp j am=>?_,fun j am=>?_⟩
 ·by_cases iy:i=j
  ·subst iy; exact List.getElem?_set_self au
  ·rw[List.getElem?_set_ne iy]; exact am
 ·rw[List.mem_singleton] at bp;subst bp;rw[eV j i q am aA];exact hit
 ·rcases h.new j am with h1 | ⟨h1,ag⟩
  ·by_cases iy:i=j
   ·subst iy;exact .inr ⟨VV,fun q bp t aU=>h.st q bp t aU⟩
   ·rw[List.getElem?_set_ne iy] at h1;exact .inl h1
  ·exact .inr ⟨VV.under h1,ag⟩
theorem aql {ids:List (List B)} {ops:List bQ} {L:List (List B)} {n:Nat} {S:List Bool} (h:n5 ids ops L (List.replicate n false) S) (i:Nat) :S[i]? = some true<->io ids ops L i:=by
 have eS:∀ (j:Nat),(List.replicate n false)[j]?≠some true:=fun j am=>by
  have:=List.eq_of_mem_replicate (List.mem_of_getElem? am);cases this
 constructor
 ·intro aA;rcases h.new i aA with h1 | ⟨h1,_⟩
  ·exact absurd h1 (eS i)
  ·exact h1
 ·intro aA
  induction aA with
  | start p j aE am=>exact h.st p aE j am
  | step i p j _ aE am aL=>
   rcases h.new i aL with h1 | ⟨_,ag⟩
   ·exact absurd h1 (eS i)
   ·exact ag p aE j am
structure m1 (g:b1) (eP jN jM jl gi jb:Nat) (S:List Bool) (l:av) :Prop where
 a:l[eP]? = some (.cells 1 [.mp jb])
 s:l[jN]? = some (.cells 1 [.ao 1 gi 0 g.ids.l.length g.ids.l.length g.ids.l.length])
 Cw:l[jM]? = some (.cells 2 [bc g.ids,cA g.ops])
 v:l[jl]? = some (.cells 1 [.fn 125 [] [.ptr eP 0 1,.ptr jN 0 1,.ptr jM 0 2,.ptr jl 0 1]])
 m:mx l jb g.ids.l
 r:l[gi]? = some (.cells g.ids.l.length (S.map ae.bool))
 n:S.length=g.ids.l.length
 ne:gi≠eP/\gi≠jN/\gi≠jM/\gi≠jl/\gi≠jb
theorem m1.frame {g:b1} {eP jN jM jl gi jb:Nat} {S:List Bool} {l l' : av} (h:m1 g eP jN jM jl gi jb S l) (aI:∀ c,c<l.length->l'[c]? = l[c]?) :m1 g eP jN jM jl gi jb S l':=by
 have lt:∀ {c:Nat} {x:bt},l[c]? = some x->c<l.length:=fun h=>(List.getElem?_eq_some_iff.1 h).1
 exact⟨(aI _ (lt h.a)).trans h.a,(aI _ (lt h.s)).trans h.s,(aI _ (lt h.Cw)).trans h.Cw,(aI _ (lt h.v)).trans h.v,h.m.frame (aI _ h.m.lt),(aI _ (lt h.r)).trans h.r,h.n,h.ne⟩
theorem m1.more {g:b1} {eP jN jM jl gi jb:Nat} {S:List Bool} {l:av} (h:m1 g eP jN jM jl gi jb S l) (x:av) :m1 g eP jN jM jl gi jb S (l++x) :=h.frame fun c al=>List.getElem?_append_left al
theorem m1.set {g:b1} {eP jN jM jl gi jb:Nat} {S:List Bool} {l:av} (h:m1 g eP jN jM jl gi jb S l) (i:Nat) :m1 g eP jN jM jl gi jb (S.set i true) (l.set gi (.cells g.ids.l.length ((S.set i true).map ae.bool))) :=by
 obtain⟨me,q5,sL,q6,ky⟩:=h.ne;have au:gi<l.length:=(List.getElem?_eq_some_iff.1 h.r).1;exact⟨by rw[List.getElem?_set_ne me]; exact h.a,by rw[List.getElem?_set_ne q5]; exact h.s,by rw[List.getElem?_set_ne sL]; exact h.Cw,by rw[List.getElem?_set_ne q6]; exact h.v,h.m.frame (List.getElem?_set_ne ky),List.getElem?_set_self au,by simpa using h.n,h.ne⟩
theorem TS:h5 Tryz.prog 125=true:=by kernel_rfl
set_option maxHeartbeats 4000000 in
theorem aqg (g:b1) (az:hY g) (V:mw g) (eP jN jM jl gi jb:Nat) :∀ (m:Nat) (S:List Bool) (l:av) (p:List B) (i:Nat) (K:ae->av->Prop),S.count false<=m->m1 g eP jN jM jl gi jb S l->g.ids.l[i]? = some p->
  (∀ l' hl,n5 g.ids.l g.ops.l [p] S hl->m1 g eP jN jM jl gi jb hl l'->(∀ c,c<l.length->c≠gi->l'[c]? = l[c]?)->l.length<=l'.length->hl.count false<=S.count false->K (.bU []) l')->
  dh Tryz.prog GS 125 [.aV (a7 p),.ptr eP 0 1,.ptr jN 0 1,.ptr jM 0 2,.ptr jl 0 1] l (c:=⟨K⟩) :=by
 have eV:=oM V.eU;intro m
 induction m using Nat.strongRecOn with
 | _ m aL=>
  intro S l p i K hm tJ aA a8;apply bH Qz Zr;unfold F0 L9;have qO:=List.mem_of_getElem? aA;have vS:=az.ids p qO;have dI:=(List.getElem?_eq_some_iff.1 aA).1;have jX:=(tJ.more [.cells 32 (a7 p)]).m.look eV vS aA;have bF:=dd vS;obtain⟨X,dN⟩:∃ X,X=a7 p:=⟨_,rfl⟩
  rw[<-dN] at jX bF ⊢;have vu:=tJ.more [.cells 32 X];obtain⟨l1,fD⟩:∃ l1,l1=l++[bt.cells 32 X] :=⟨_,rfl⟩
  rw[<-fD] at vu jX;have aig:l1[l.length]? = some (.cells 32 X) :=by rw[fD]; simp
  have eB:eC l1 (.ptr eP 0 1)=some ([.mp jb],0) :=by simp only[eC,vu.a]; simp
  have fw:eC l1 (.ptr jN 0 1)=some ([.ao 1 gi 0 g.ids.l.length g.ids.l.length g.ids.l.length],0) :=by simp only[eC,vu.s]; simp
  have Ek:eC l1 (.ptr l.length 0 32)=some (X,0) :=by simp only[eC,aig]; simp
  have uz:eC l1 (.ptr gi i g.ids.l.length)=some (S.map ae.bool,i) :=by simp only[eC,vu.r]; simp
  have Vb:cS (.ao 1) (.ao 1 gi 0 g.ids.l.length g.ids.l.length g.ids.l.length) (.int .i64 (i:Int))=some (.ptr gi i g.ids.l.length) :=by
   simp only[cS];rw[if_pos ⟨trivial,by omega,by omega⟩];simp
  obtain⟨b,ai,_⟩:=ck (l:=S) (k:=i) (by rw[tJ.n]; exact dI);have atA:(S.map ae.bool)[i]? = some (.bool b) :=by rw[List.getElem?_map,ai]; rfl
  have JB:l1.length=l.length+1:=by rw[fD]; simp
  have U2:∀ c,c<l.length->c≠gi->l1[c]? = l[c]?:=fun c al _=>by rw[fD,List.getElem?_append_left al]
  cases b with
  | true=>
   simp[bF,<-fD,eB,fw,Ek,jX,Vb,uz,ai,List.take_of_length_le];exact a8 l1 S (aqm eV aA ai) vu U2 (by omega) (Nat.le_refl _)
  | false=>
   have cK:jF 1 l1 (.ptr gi i g.ids.l.length) (.bool true)=some (l1.set gi (.cells g.ids.l.length ((S.set i true).map ae.bool))) :=by
    simp only[jF,ae.cells,vu.r];rw[if_pos (by simp; omega)];have ag:bS (S.map ae.bool) i [ae.bool true]=(S.set i true).map ae.bool:=mR ae.bool S i true (by rw[tJ.n]; exact dI);rw[ag]
   have I1:=vu.set i;obtain⟨ce,hD⟩:∃ ce,ce=l1.set gi (.cells g.ids.l.length ((S.set i true).map ae.bool)) :=⟨_,rfl⟩
   rw[<-hD] at cK I1;have ri:eC ce (.ptr jM 1 2)=some ([bc g.ids,cA g.ops],1) :=by simp only[eC,I1.Cw]; simp
   obtain⟨o,ay,eK⟩:=ck (l:=g.ops.l) (k:=i) (by rw[<-V.len]; exact dI);have cV:cS (.ao 11) (cA g.ops) (.int .i64 (i:Int))=some (.cq (bD o) 0) :=by simp[cA,ay]
   have qz:(bD o).length=11:=rfl;have kh:(bD o)[1]? = some (bc o.bO) :=rfl;have nt:=az.ops o eK;have g3:=nt.len;have np:c8 (.ao 32) (bc o.bO)=some (.int .i64 o.bO.l.length) :=by simp[bc]
   obtain⟨O,fq⟩:∃ O,O=bD o:=⟨_,rfl⟩
   rw[<-fq] at cV qz kh;have aiJ:∀ c,c<l.length->c≠gi->ce[c]? = l[c]?:=fun c al bY=>by rw[hD,List.getElem?_set_ne (Ne.symm bY)]; exact U2 c al bY
   have JD:l.length<=ce.length:=by rw[hD]; simp; omega
   have att:(S.set i true).count false+1<=S.count false:=by
    have aiX:i<S.length:=by rw[tJ.n]; exact dI
    have sg:S[i]=false:=(List.getElem?_eq_some_iff.1 ai).2;have j0:0<S.count false:=List.count_pos_iff.2 (List.mem_of_getElem? ai);rw[List.count_set aiX,sg];simp; omega
   simp[bF,<-fD,eB,fw,Ek,jX,Vb,uz,ai,List.take_of_length_le,cK,ri,cV,kh,np];refine c7 o.bO.l.length (fun q ah l'=>ah 4=.ptr jl 0 1/\ah 24=bc o.bO/\ah 25=.int .i64 o.bO.l.length/\ah 26=.int .i64 q/\∃ hl,n5 g.ids.l g.ops.l (o.bO.l.take q) (S.set i true) hl/\m1 g eP jN jM jl gi jb hl l' ∧
    (∀ c,c<l.length->c≠gi->l'[c]? = l[c]?)/\l.length<=l'.length/\hl.count false<=(S.set i true).count false) ?_ ?_
   ·rintro q ah l' bp ⟨bK,na,kP,kQ,hl,vw,vt,l2,pt,atw⟩;obtain⟨ah,rfl⟩:=jg bK na kP kQ;clear bK na kP kQ;unfold WS;by_cases kp:q<o.bO.l.length
    ·obtain⟨bZ,fF,Ap⟩:=ck kp;obtain⟨j,am⟩:=List.mem_iff_getElem?.1 (V.Li o eK bZ Ap);have aZ:IntKind.i64.wrap ((q:Int)+1)=((q+1:Nat) :Int) :=by rw[IntKind.wrap_i64]; omega
     have hs:cS (.ao 32) (bc o.bO) (.int .i64 (q:Int))=some (.cq (a7 bZ) 0) :=by simp[bc,fF]
     have sw:=dd ((az.ops o eK).ids bZ Ap);have vv:=vt.more [.cells 32 (a7 bZ)];have oT:eC (l'++[bt.cells 32 (a7 bZ)]) (.ptr jl 0 1)=some ([.fn 125 [] [.ptr eP 0 1,.ptr jN 0 1,.ptr jM 0 2,.ptr jl 0 1]],0) :=by simp only[eC,vv.v]; simp
     have ln:=aL (m - 1) (by omega) hl (l'++[bt.cells 32 (a7 bZ)]) bZ j;obtain⟨rK,I2⟩:∃ rK,rK=a7 bZ:=⟨_,rfl⟩
     rw[<-I2] at hs sw vv oT ln;have sr:bS (rep 32 (.int .u8 0)) 0 rK=rK:=g8 (by rw[sw]; rfl);simp[kp,hs,sw,sr,List.take_of_length_le,oT];refine⟨TS,ln _ (by omega) vv am ?_⟩;intro eO E6 cb w2 eg nV rv;simp[kp,aZ];refine⟨E6,?_,w2,fun c al bY=>?_,by simp at nV; omega,by omega⟩
     ·rw[List.take_add_one,fF];exact adk vw cb
     ·rw[eg c (by simp; omega) bY,List.getElem?_append_left (by omega)];exact l2 c al bY
    ·have oH:q=o.bO.l.length:=by omega
     rw[oH,List.take_length] at vw;simp[kp];exact a8 l' hl (aqn eV aA (by rw[tJ.n]; exact dI) (by rw[uv ay]; exact vw)) vt l2 pt (by omega)
   ·simp;exact⟨S.set i true,adj _ _ _,I1,aiJ,JD,Nat.le_refl _⟩
open Classical in
noncomputable def nP (g:b1) (L:List (List B)) :List Bool:=(List.range g.ids.l.length).map fun i=>decide (io g.ids.l g.ops.l L i)
theorem N5 (g:b1) (L:List (List B)) :(nP g L).length=g.ids.l.length:=by simp[nP]
open Classical in
theorem an4 {g:b1} {L:List (List B)} {S:List Bool} (h:n5 g.ids.l g.ops.l L (List.replicate g.ids.l.length false) S) :S=nP g L:=by
 have bA:S.length=g.ids.l.length:=by rw[h.len]; simp
 apply List.ext_getElem?;intro i;by_cases aA:i<g.ids.l.length
 ·have h1:=aql h i;obtain⟨b,ai,_⟩:=ck (l:=S) (k:=i) (by omega);rw[ai] at h1 ⊢;unfold nP;rw[List.getElem?_map,List.getElem?_range aA];simp only[Option.map_some,Option.some.injEq] at h1 ⊢;cases b with
  | true=>exact (decide_eq_true (h1.1 rfl)).symm
  | false=>exact (decide_eq_false fun aN=>by have:=h1.2 aN; cases this).symm
 ·rw[List.getElem?_eq_none (by omega),List.getElem?_eq_none (by rw[N5]; omega)]
set_option maxHeartbeats 4000000 in
theorem N7 (g:b1) (az:hY g) (V:mw g) (L:fz) (gx:hx L) (r8:L.l.length<=1000000) (eA:∀ p∈L.l,p∈g.ids.l) :bR Tryz.prog GS 89 [dw g,bc L] (cO 1 jO (some (nP g L.l))) :=by
 refine cf Tryz.checked.mixed b2 ?_;apply bH SE aby;unfold HV NU;have aC:cT=140737488355328:=rfl;have gM:=az.li;have aja:c8 (.ao 32) (bc L)=some (.int .i64 L.l.length) :=by simp[bc]
 have JC:c8 (.ao 32) (bc g.ids)=some (.int .i64 g.ids.l.length) :=by simp[bc]
 have eV:=oM V.eU;simp[dw,ew];refine amT g az eV ?_;intro jb l1 qA xB l2 pt;obtain⟨eB,rfl⟩:∃ r,l1=bt.cells 2 [bc g.ids,cA g.ops] ::r:=A2 ((l2 0 (by simp)).trans rfl);obtain⟨bj,_⟩:=DY (z:=1) (by_:=1) (n:=g.ids.l.length) (k:=.i64) (k':=.i64) (zero:=[ae.bool false]) (l:=(bt.cells 2 [bc g.ids,cA g.ops] ::eB)++[bt.cells 1 [.mp jb]]) rfl (by omega) (by rw[aC]; omega);simp only[Nat.mul_one,Oa (α:=Nat),List.cons_append] at bj;simp[JC,aja,bj];obtain⟨eP,UE⟩:∃ eP,eP=eB.length+1:=⟨_,rfl⟩
 have q1:eB.length+1+1=eP+1:=by omega
 have iZ:eB.length+2+1=eP+2:=by omega
 have nO:eB.length+3+1=eP+3:=by omega
 rw[q1,show eP+1+1=eP+2 from rfl,nO,<-UE];have Vh:=qA.lt;simp at Vh xB;refine c7 L.l.length (fun q ah l'=>ah 6=.ptr (eP+2) 0 1/\ah 7=.ptr (eP+3) 0 1/\ah 17=bc L/\ah 18=.int .i64 L.l.length/\ah 19=.int .i64 q/\∃ hl,n5 g.ids.l g.ops.l (L.l.take q) (List.replicate g.ids.l.length false) hl/\m1 g eP (eP+2) 0 (eP+3) (eP+1) jb hl l') ?_ ?_
 ·rintro q ah l' bp ⟨cl,dx,qu,qv,qw,hl,vw,vt⟩;obtain⟨ah,rfl⟩:=k7 cl dx qu qv qw;clear cl dx qu qv qw;unfold XS;by_cases kp:q<L.l.length
  ·obtain⟨bZ,fF,Ap⟩:=ck kp;obtain⟨j,am⟩:=List.mem_iff_getElem?.1 (eA bZ Ap);have aZ:IntKind.i64.wrap ((q:Int)+1)=((q+1:Nat) :Int) :=by rw[IntKind.wrap_i64]; omega
   have hs:cS (.ao 32) (bc L) (.int .i64 (q:Int))=some (.cq (a7 bZ) 0) :=by simp[bc,fF]
   have sw:=dd (gx bZ Ap);have vv:=vt.more [.cells 32 (a7 bZ)];have oT:eC (l'++[bt.cells 32 (a7 bZ)]) (.ptr (eP+3) 0 1)=some ([.fn 125 [] [.ptr eP 0 1,.ptr (eP+2) 0 1,.ptr 0 0 2,.ptr (eP+3) 0 1]],0) :=by simp only[eC,vv.v]; simp
   have ln:=aqg g az V eP (eP+2) 0 (eP+3) (eP+1) jb (hl.count false) hl (l'++[bt.cells 32 (a7 bZ)]) bZ j;obtain⟨rK,I2⟩:∃ rK,rK=a7 bZ:=⟨_,rfl⟩
   rw[<-I2] at hs sw vv oT ln;have sr:bS (rep 32 (.int .u8 0)) 0 rK=rK:=g8 (by rw[sw]; rfl);simp[kp,hs,sw,sr,List.take_of_length_le,oT];refine⟨TS,ln _ (Nat.le_refl _) vv am ?_⟩;intro eO E6 cb w2 eg nV rv;simp[kp,aZ];exact⟨E6,by rw[List.take_add_one,fF]; exact adk vw cb,w2⟩
  ·have oH:q=L.l.length:=by omega
   rw[oH,List.take_length] at vw;have lm:=an4 vw;have wn:eC l' (.ptr (eP+2) 0 1)=some ([.ao 1 (eP+1) 0 g.ids.l.length g.ids.l.length g.ids.l.length],0) :=by simp only[eC,vt.s]; simp
   simp[kp,wn];rw[<-lm];have fv:(hl.map jO).flatten=hl.map ae.bool:=by
    have:∀ t:List Bool,(t.map jO).flatten=t.map ae.bool:=fun t=>by induction t with | nil=>rfl | cons b t aL=>simp[jO,aL]
    exact this hl
   have h8:bX 1 l' (.ao 1 (eP+1) 0 g.ids.l.length g.ids.l.length (g.ids.l.length*1)) (eP+1) (hl.map jO) :=amM (fun _ _=>rfl) vt.n (by rw[Nat.mul_one,fv]; exact vt.r);rw[Nat.mul_one] at h8;exact h8.q.rl (fun _=>rfl) (some hl) rfl rfl
 ·simp;refine⟨List.replicate g.ids.l.length false,adj _ _ _,?_⟩;subst UE;refine⟨by simp,by simp,by simp,by simp,qA.frame (by rw[<-List.cons_append]; exact List.getElem?_append_left (by simpa using Vh)),by simp,by simp,by omega⟩
noncomputable def jK (g:b1) (i:Nat) :List (List B) :=md g.ids.l (nP g (c5 g.ops.l i)) g.ids.l.length
set_option maxHeartbeats 2000000 in
theorem aen (g:b1) (az:hY g) (V:mw g) (aT:hB g=0) (x:List B) (i:Nat) (aA:g.ids.l[i]? = some x) :bR Tryz.prog GS 56 [dw g,.aV (a7 x)] (.bU [bc (e4 (jK g i)),.int .i64 0]) :=by
 refine cf Tryz.checked.mixed b2 ?_;apply bH R9 aa2;unfold Hv Nu;have dF:=List.mem_of_getElem? aA;have aj:=az.ids x dF;have fc:=hb g.ids;have dp:=oh g.ops;have jX:=alS g az x aj;have pt:DP g x=i:=by unfold DP; rw[if_pos aT,if_pos dF,S9 V.eU aA]
 have du:DO g x=0:=by unfold DO; rw[if_pos aT,if_pos dF]
 rw[pt,du] at jX;have gK:=gf x;have bF:=dd aj;have dI:=(List.getElem?_eq_some_iff.1 aA).1;obtain⟨o,ay,eK⟩:=ck (l:=g.ops.l) (k:=i) (by rw[<-V.len]; exact dI);have cV:cS (.ao 11) (cA g.ops) (.int .i64 (i:Int))=some (.cq (bD o) 0) :=by simp[cA,ay]
 have kh:(bD o)[1]? = some (bc o.bO) :=rfl;have Aq:=N7 g az V o.bO (az.ops o eK).ids (az.ops o eK).len (V.Li o eK);have xF:=al3 g az (some (nP g o.bO.l)) (by simp[N5]);have zY:jK g i=md g.ids.l (nP g o.bO.l) (nP g o.bO.l).length:=by unfold jK; rw[uv ay,N5]
 have UU:(cO 1 jO (some (nP g o.bO.l))).closed=true:=u7 (fun _=>rfl) _;have qG:=hb o.bO;obtain⟨X,dN⟩:∃ X,X=a7 x:=⟨_,rfl⟩
 obtain⟨O,fq⟩:∃ O,O=bD o:=⟨_,rfl⟩
 obtain⟨M,lX⟩:∃ M,M=cO 1 jO (some (nP g o.bO.l)) :=⟨_,rfl⟩
 rw[<-dN] at jX gK bF ⊢;rw[<-fq] at cV kh;rw[<-lX] at Aq xF UU;rw[dk.AU,<-zY] at xF;unfold dw ew at jX Aq xF;simp[dw,ew,bF,List.take_of_length_le];refine bC jX (by simp[bM,ae.closed,fc,dp,gK]) ?_;simp[cV,kh];refine bC Aq (by simp[bM,ae.closed,fc,dp,qG]) ?_;simp;refine bC xF (by simp[bM,ae.closed,fc,dp,UU]) ?_;simp;exact a1 rfl (by simp[ae.closed,bM,hb])
theorem akY {l:List (List B)} (am:im l) {i:Nat} {x:List B} (aA:l[i]? = some x) :mc x l 0=(i:Int) :=by
 have:=DI (n:=0) aA (fun t z aU aB ly=>by subst ly; have:=am t i z aB aA; omega) rfl;simpa using this
theorem abP (g:b1) (az:hY g) (am:im g.ids.l) {i:Nat} {x:List B} {o:bQ} (aA:g.ids.l[i]? = some x) (ay:g.ops.l[i]? = some o) :bR Tryz.prog GS 35 [dw g,.aV (a7 x)] (.aV (bD o)) :=by
 refine cf Tryz.checked.mixed b2 ?_;apply bH RR aaK;unfold Hi Nf;have aj:=az.ids x (List.mem_of_getElem? aA);have fc:=hb g.ids;have gK:=gf x;have bF:=dd aj;have fC:=abL g.ids az.ids az.li x aj;rw[akY am aA] at fC;have dI:=(List.getElem?_eq_some_iff.1 ay).1;have ep:c8 (.ao 11) (cA g.ops)=some (.int .i64 g.ops.l.length) :=by simp[cA]
 have cV:cS (.ao 11) (cA g.ops) (.int .i64 (i:Int))=some (.cq (bD o) 0) :=by simp[cA,ay]
 have dJ:(bD o).length=11:=rfl;have dp:=mz o;have h1:¬ (i:Int)<0:=by omega
 have ag:¬ (g.ops.l.length:Int)<=(i:Int) :=by omega
 obtain⟨X,dN⟩:∃ X,X=a7 x:=⟨_,rfl⟩
 obtain⟨O,fq⟩:∃ O,O=bD o:=⟨_,rfl⟩
 rw[<-dN] at fC gK bF ⊢;rw[<-fq] at cV dJ dp ⊢;have mJ:bS [ae.int .u32 0,.aX,.int .u64 0,.int .u8 0,.str [],.int .u8 0,.int .i64 0,.int .u64 0,.str [],.int .u32 0,.int .u32 0] 0 O=O:=g8 (by rw[dJ]; rfl);simp[dw,ew,bF,List.take_of_length_le];refine bC fC (by simp[bM,ae.closed,fc,gK]) ?_;simp[h1,ag,dI,ep,cV,dJ,mJ,List.take_of_length_le];exact a1 rfl (by simp[ae.closed,dp])
structure y2 (ids:List (List B)) (ops:List bQ) (i:Nat) (x:List B) (out next:List (List B)) :Prop where
 iB:out.Nodup
 lE:∀ p∈out,∃ j,ids[j]? = some p/\io ids ops (c5 ops i) j
 pR:∀ q∈next,q=x\/q∈out
 ql:∀ q,(q=x\/q∈out)->q∉next->∀ (j:Nat),ids[j]? = some q->∀ p∈c5 ops j,p∈out
theorem aqH {ids:List (List B)} {ops:List bQ} {i:Nat} {x:List B}:y2 ids ops i x [] [x] :=
 ⟨List.nodup_nil,fun p aE=>by simp at aE,fun q bp=>by simp at bp; exact .inl bp,fun q bp aH=>by
  rcases bp with rfl | bp
  ·exact absurd (by simp) aH
  ·cases bp⟩
theorem aqF {ids:List (List B)} {ops:List bQ} {i:Nat} {x:List B} {out:List (List B)} (aA:ids[i]? = some x) (h:y2 ids ops i x out []) (j:Nat) (p:List B) (am:ids[j]? = some p) (eV:im ids) :p∈out<->io ids ops (c5 ops i) j:=by
 constructor
 ·intro aE;obtain⟨ct,eo,aC⟩:=h.lE p aE;rw[eV j ct p am eo];exact aC
 ·intro aC;have:∀ {t:Nat},io ids ops (c5 ops i) t->∀ q,ids[t]? = some q->q∈out:=by
   intro t aU
   induction aU with
   | start p j aE am=>
    intro q bp;rw[am] at bp;obtain rfl:=Option.some.inj bp;exact h.ql x (.inl rfl) (by simp) i aA p aE
   | step iz p j aC aE am aL=>
    intro q bp;rw[am] at bp;obtain rfl:=Option.some.inj bp;have dI:∃ y,ids[iz]? = some y:=by
     cases aC with
     | start bZ _ fF eo=>exact⟨bZ,eo⟩
     | step Kt bZ _ jp fF eo=>exact⟨bZ,eo⟩
    obtain⟨y,aK⟩:=dI;exact h.ql y (.inr (aL y aK)) (by simp) iz aK p aE
  exact this aC p am
structure tc (ids:List (List B)) (ops:List bQ) (i:Nat) (x:List B) (q:List B) (j k:Nat) (out next:List (List B)) :Prop where
 iB:out.Nodup
 lE:∀ p∈out,∃ t,ids[t]? = some p/\io ids ops (c5 ops i) t
 LK:q=x\/q∈out
 pR:∀ r∈next,r=x\/r∈out
 ql:∀ r,(r=x\/r∈out)->r∉next->r≠q->∀ (t:Nat),ids[t]? = some r->∀ p∈c5 ops t,p∈out
 LG:∀ p∈(c5 ops j).take k,p∈out
theorem aqL {ids:List (List B)} {ops:List bQ} {i:Nat} {x q:List B} {j:Nat} {out next:List (List B)} (h:y2 ids ops i x out (q::next)) :tc ids ops i x q j 0 out next:=
 ⟨h.iB,h.lE,h.pR q (by simp),fun r aC=>h.pR r (by simp[aC]),fun r aC aH bY=>h.ql r aC (by simp[aH,bY]),fun p aE=>by simp at aE⟩
theorem aqJ {ids:List (List B)} {ops:List bQ} (eV:im ids) {i:Nat} {x q:List B} {j:Nat} {out next:List (List B)} (bp:ids[j]? = some q) (h:tc ids ops i x q j (c5 ops j).length out next) :y2 ids ops i x out next:=by
 refine⟨h.iB,h.lE,h.pR,fun r aC aH t aU p aE=>?_⟩;by_cases VX:r=q
 ·subst VX;rw[eV t j r aU bp] at aE;exact h.LG p (by rw[List.take_length]; exact aE)
 ·exact h.ql r aC aH VX t aU p aE
theorem aqK {ids:List (List B)} {ops:List bQ} {i:Nat} {x q:List B} {j k:Nat} {out next:List (List B)} {p:List B} (h:tc ids ops i x q j k out next) (aE:(c5 ops j)[k]? = some p) (ay:p∈out) :tc ids ops i x q j (k+1) out next:=by
 refine⟨h.iB,h.lE,h.LK,h.pR,h.ql,fun r aC=>?_⟩;rw[List.take_add_one,aE,List.mem_append] at aC;rcases aC with aC | aC
 ·exact h.LG r aC
 ·simp at aC; subst aC; exact ay
theorem adr {ids:List (List B)} {ops:List bQ} (eV:im ids) {i:Nat} {x q:List B} {j k:Nat} {out next:List (List B)} {p:List B} {t:Nat} (h:tc ids ops i x q j k out next) (aA:ids[i]? = some x) (bp:ids[j]? = some q) (aE:(c5 ops j)[k]? = some p) (aU:ids[t]? = some p) (ay:p∉out) :
  tc ids ops i x q j (k+1) (out++[p]) (next++[p]) :=by
 have qO:=List.mem_of_getElem? aE;refine⟨?_,fun r aC=>?_,h.LK.imp_right fun aN=>by simp[aN],fun r aC=>?_,fun r aC aH bY u aM bZ fF=>?_,fun r aC=>?_⟩
 ·rw[List.nodup_append];refine⟨h.iB,by simp,fun a aG b ai e=>?_⟩;rw[List.mem_singleton] at ai;subst e;rw[ai] at aG;exact ay aG
 ·rw[List.mem_append,List.mem_singleton] at aC;rcases aC with aC | rfl
  ·exact h.lE r aC
  ·refine⟨t,aU,?_⟩;rcases h.LK with ajV | ajU
   ·subst ajV;rw[eV j i q bp aA] at qO;exact .start r t qO aU
   ·obtain⟨ct,eo,jp⟩:=h.lE q ajU;rw[eV ct j q eo bp] at jp;exact .step j r t jp qO aU
 ·rw[List.mem_append,List.mem_singleton] at aC;rcases aC with aC | rfl
  ·exact (h.pR r aC).imp_right fun aN=>by simp[aN]
  ·exact .inr (by simp)
 ·have ajY:r≠p:=fun e=>aH (by simp[e])
  have jp:r=x\/r∈out:=aC.imp_right fun aN=>by
   rw[List.mem_append,List.mem_singleton] at aN;exact aN.resolve_right ajY
  have:=h.ql r jp (fun aN=>aH (by simp[aN])) bY u aM bZ fF;simp[this]
 ·rw[List.take_add_one,aE,List.mem_append] at aC;rcases aC with aC | aC
  ·have:=h.LG r aC; simp[this]
  ·simp at aC; simp[aC]
theorem yE:∀ {a b:List (List B)},a.Nodup->(∀ x∈a,x∈b)->a.length<=b.length
 | [],_,_,_=>Nat.zero_le _
 | x::a,b,aH,ar=>by
  rw[List.nodup_cons] at aH;have aj:=ar x (by simp);have aL:=yE (b:=b.erase x) aH.2 (fun y aK=>(List.mem_erase_of_ne (fun e=>aH.1 (by rw[<-e]; exact aK))).2 (ar y (by simp[aK])));rw[List.length_erase_of_mem aj] at aL;have:=List.length_pos_of_mem aj;simp; omega
structure mV (pre:av) (v5 dA:ae) (out next:List (List B)) (b:Nat) (rest:av) :Prop where
 ex:∃ gh gN,ea 32 (pre++rest) v5 gh (out.map a7)/\ea 32 (pre++rest) dA gN (next.map a7)/\(v5=.aX\/(pre.length<=gh/\gh≠gN/\gh≠b))/\pre.length<=gN/\gN≠b/\cU v5=out.isEmpty/\cU dA=false
theorem mV.am4 {pre:av} {v5 dA:ae} {out next:List (List B)} {b:Nat} {rest:av} (h:mV pre v5 dA out next b rest) (ai:b<(pre++rest).length) {p:List B} (aE:p.length=32) (dy:(out.length+1)*32<=cT) :
  ∃ bf cx,iL (pre++(rest++[.cells 32 (a7 p)])) 32 32 v5 (.ao 32 (pre.length+rest.length) 0 1 1 32)=some (bf,pre++cx)/\mV pre bf dA (out++[p]) next b cx/\(pre++cx)[b]? = (pre++rest)[b]?/\b<(pre++cx).length:=by
 obtain⟨gh,gN,ig,nH,bd,bL,vl,ky,n6⟩:=h;have g3:=dd aE;have hm:pre++(rest++[bt.cells 32 (a7 p)])=(pre++rest)++[bt.cells 32 (a7 p)] :=by rw[List.append_assoc]
 have Le:ea 32 (pre++(rest++[bt.cells 32 (a7 p)])) v5 gh (out.map a7) :=by rw[hm]; exact ig.more _
 have Lf:ea 32 (pre++(rest++[bt.cells 32 (a7 p)])) dA gN (next.map a7) :=by rw[hm]; exact nH.more _
 obtain⟨bf,ct,cx,aY,a2,bh,bK,bw,cl⟩:=PE (by_:=32) Le (bd.imp_right fun h=>h.1) (x:=.ao 32 (pre.length+rest.length) 0 1 1 32) (xs:=[a7 p]) (by
  have:(pre++(rest++[bt.cells 32 (a7 p)]))[pre.length+rest.length]? = some (.cells 32 (a7 p)) :=by
   rw[hm,List.getElem?_append_right (by simp)]; simp
  simp only[dv,this];simp[g3,List.take_of_length_le]) (by simp[g3]) (by omega) (by omega) (by simpa using dy)
 have he:cU bf=false:=by rw[bK]; simp
 have bY:bf≠.aX:=fun e=>by rw[e] at he; cases he
 have pt:(pre++(rest++[bt.cells 32 (a7 p)])).length=(pre++rest).length+1:=by simp; omega
 have atH:gN<(pre++rest).length:=by
  rcases nH.lt with e | e
  ·rw[e] at n6; cases n6
  ·exact e
 have f6:v5=.aX\/gN≠gh:=bd.imp_right fun h=>Ne.symm h.2.1
 have agN:v5=.aX\/b≠gh:=bd.imp_right fun h=>Ne.symm h.2.2
 have yr:=bw gN (by omega) f6;have Be:=bw b (by omega) agN;have ay:(pre++(rest++[bt.cells 32 (a7 p)]))[b]? = (pre++rest)[b]?:=by rw[hm,List.getElem?_append_left ai]
 refine⟨bf,cx,aY,⟨⟨ct,gN,by rw[List.map_append]; exact a2,Lf.zK (.inr yr),.inr ⟨bh.resolve_left bY,?_,?_⟩,bL,vl,by rw[he]; simp,n6⟩⟩,Be.trans ay,?_⟩
 ·rcases cl.resolve_left bY with ⟨aZ,b4⟩ | e
  ·rw[b4]; exact (bd.resolve_left aZ).2.1
  ·omega
 ·rcases cl.resolve_left bY with ⟨aZ,b4⟩ | e
  ·rw[b4]; exact (bd.resolve_left aZ).2.2
  ·omega
 ·have:=Be.trans ay;have fL:(pre++rest)[b]?≠none:=by rw[List.getElem?_eq_getElem ai]; simp
  rw[<-this] at fL;exact Nat.lt_of_not_le fun h=>fL (List.getElem?_eq_none h)
theorem mV.am5 {pre:av} {v5 dA:ae} {out next:List (List B)} {b:Nat} {rest:av} (h:mV pre v5 dA out next b rest) (ai:b<(pre++rest).length) {p:List B} (aE:p.length=32) (dy:(next.length+1)*32<=cT) :
  ∃ bf cx,iL (pre++(rest++[.cells 32 (a7 p)])) 32 32 dA (.ao 32 (pre.length+rest.length) 0 1 1 32)=some (bf,pre++cx)/\mV pre v5 bf out (next++[p]) b cx/\(pre++cx)[b]? = (pre++rest)[b]?/\b<(pre++cx).length:=by
 obtain⟨gh,gN,ig,nH,bd,bL,vl,ky,n6⟩:=h;have g3:=dd aE;have hm:pre++(rest++[bt.cells 32 (a7 p)])=(pre++rest)++[bt.cells 32 (a7 p)] :=by rw[List.append_assoc]
 have Le:ea 32 (pre++(rest++[bt.cells 32 (a7 p)])) v5 gh (out.map a7) :=by rw[hm]; exact ig.more _
 have Lf:ea 32 (pre++(rest++[bt.cells 32 (a7 p)])) dA gN (next.map a7) :=by rw[hm]; exact nH.more _
 obtain⟨bf,ct,cx,aY,a2,bh,bK,bw,cl⟩:=PE (by_:=32) Lf (.inr bL) (x:=.ao 32 (pre.length+rest.length) 0 1 1 32) (xs:=[a7 p]) (by
  have:(pre++(rest++[bt.cells 32 (a7 p)]))[pre.length+rest.length]? = some (.cells 32 (a7 p)) :=by
   rw[hm,List.getElem?_append_right (by simp)]; simp
  simp only[dv,this];simp[g3,List.take_of_length_le]) (by simp[g3]) (by omega) (by omega) (by simpa using dy)
 have he:cU bf=false:=by rw[bK]; simp
 have bY:bf≠.aX:=fun e=>by rw[e] at he; cases he
 have pt:(pre++(rest++[bt.cells 32 (a7 p)])).length=(pre++rest).length+1:=by simp; omega
 have Be:=bw b (by omega) (.inr (Ne.symm vl));have ay:(pre++(rest++[bt.cells 32 (a7 p)]))[b]? = (pre++rest)[b]?:=by rw[hm,List.getElem?_append_left ai]
 have Vg:ct=gN\/(pre++rest).length+1<=ct:=(cl.resolve_left bY).imp (fun h=>h.2) (fun h=>by omega);refine⟨bf,cx,aY,⟨⟨gh,ct,?_,by rw[List.map_append]; exact a2,?_,bh.resolve_left bY,?_,ky,he⟩⟩,Be.trans ay,?_⟩
 ·rcases bd with e | ⟨aZ,b4,dC⟩
  ·subst e;rw[ig.ye]; exact .nil _
  ·refine Le.zK ?_;rcases ig.lt with e | e
   ·exact .inl e
   ·exact .inr (bw gh (by omega) (.inr b4))
 ·rcases bd with e | ⟨aZ,b4,dC⟩
  ·exact .inl e
  ·rcases ig.lt with e | e
   ·exact .inl e
   ·refine .inr ⟨aZ,?_,dC⟩;rcases Vg with h | h<;>omega
 ·rcases Vg with h | h<;>omega
 ·have:=Be.trans ay;have fL:(pre++rest)[b]?≠none:=by rw[List.getElem?_eq_getElem ai]; simp
  rw[<-this] at fL;exact Nat.lt_of_not_le fun h=>fL (List.getElem?_eq_none h)
theorem mV.aqI {pre:av} {v5 dA:ae} {out next:List (List B)} {b:Nat} {rest:av} (h:mV pre v5 dA out next b rest) (aE:1<=pre.length) :mV pre v5 dA out next 0 rest:=by
 obtain⟨gh,gN,ig,nH,bd,bL,vl,ky,n6⟩:=h;exact⟨⟨gh,gN,ig,nH,bd.imp_right fun h=>⟨h.1,h.2.1,by omega⟩,bL,by omega,ky,n6⟩⟩
theorem adp {ids:List (List B)} {ops:List bQ} {i:Nat} {x q:List B} {j k:Nat} {out next:List (List B)} (h:tc ids ops i x q j k out next) :out.length<=ids.length:=yE h.iB fun p aE=>by
 obtain⟨t,aU,_⟩:=h.lE p aE;exact List.mem_of_getElem? aU
structure adB (g:b1) (pre:av) (o:bQ) (b m i:Nat) (x q:List B) (j:Nat) (k:Nat) (ah:bi) (l:av) :Prop where
 a2:ah 2=.ptr 0 0 2
 dx:ah 7=.ptr b 0 11
 ek:ah 8=.int .i64 k
 ex:∃ out next rest,l=pre++rest/\mV pre (ah 5) (ah 6) out next b rest/\(pre++rest)[b]? = some (.cells 11 (bD o))/\tc g.ids.l g.ops.l i x q j k out next/\2*(g.ids.l.length - out.length)+next.length+1<=m
structure adC (g:b1) (pre:av) (i:Nat) (x:List B) (m:Nat) (ah:bi) (l:av) :Prop where
 a2:ah 2=.ptr 0 0 2
 ex:∃ out next rest,l=pre++rest/\mV pre (ah 5) (ah 6) out next 0 rest/\y2 g.ids.l g.ops.l i x out next/\m=2*(g.ids.l.length - out.length)+next.length
 le:m<=1000
set_option maxHeartbeats 8000000 in
theorem aea (g:b1) (az:hY g) (V:mw g) {i:Nat} {x:List B} (aA:g.ids.l[i]? = some x) :
  dh Tryz.prog GS 29 [dw g,.aV (a7 x)] [] (c:=⟨fun r l=>∃ out,(∀ (j:Nat) (p:List B),g.ids.l[j]? = some p->(p∈out<->io g.ids.l g.ops.l (c5 g.ops.l i) j))/\(∀ p∈out,p∈g.ids.l)/\out.length<=g.ids.l.length/\Rd l r (bc (e4 out))⟩) :=by
 apply bH RL aaE;unfold Hd M9;have aC:cT=140737488355328:=rfl;have gM:=az.li;have eV:=oM V.eU;have aj:=az.ids x (List.mem_of_getElem? aA);have bF:=dd aj;have fc:=hb g.ids;have dp:=oh g.ops;have Dk:=V.n60;have bA:=V.len;obtain⟨pre,Do⟩:∃ pre,pre=[bt.cells 2 [bc g.ids,cA g.ops],bt.cells 32 (a7 x)] :=⟨_,rfl⟩
 have qN:pre.length=2:=by rw[Do]; rfl
 have kr:∀ rest,eC (pre++rest) (.ptr 0 0 2)=some ([bc g.ids,cA g.ops],0) :=fun rest=>by rw[Do]; simp
 have vm:mV pre .aX (.ao 32 2 0 1 1 32) [] [x] 0 [.cells 32 (a7 x)] :=by
  refine⟨⟨0,2,.nil 0,?_,.inl rfl,by omega,by omega,rfl,rfl⟩⟩;refine bX.q (.ao 2 1 1 32 (a7 x) _ (by rw[Do]; rfl) bF rfl (fun e aw=>by simp at aw; rw[aw]; exact bF) (Nat.le_refl _) (by omega) ?_);rw[List.take_of_length_le (by rw[bF]; omega)]; simp
 have xQ:bS (rep 32 (.int .u8 0)) 0 (a7 x)=a7 x:=g8 (by rw[bF]; rfl);simp[dw,ew,bF,xQ,List.take_of_length_le];refine uo (adC g pre i x) ?_ (2*g.ids.l.length+1) _ _ ?_
 ·rintro m ah l ⟨a2,⟨out,next,rest,rfl,c2,fa,hm⟩,fE⟩;obtain⟨v5,bw⟩:∃ v,ah 5=v:=⟨_,rfl⟩
  obtain⟨dA,cl⟩:∃ v,ah 6=v:=⟨_,rfl⟩
  rw[bw,cl] at c2;obtain⟨ah,rfl⟩:=kD a2 bw cl;clear a2 bw cl;unfold Xu;obtain⟨gh,gN,ig,nH,bd,bL,vl,ky,n6⟩:=id c2.ex;have Vn:c8 (.ao 32) dA=some (.int .i64 next.length) :=by have:=nH.len; simpa using this
  cases next with
  | nil=>
   simp[Vn];refine⟨out,fun j p am=>aqF aA fa j p am eV,fun p aE=>?_,?_,?_⟩
   ·obtain⟨t,aU,_⟩:=fa.lE p aE;exact List.mem_of_getElem? aU
   ·exact yE fa.iB fun p aE=>by
     obtain⟨t,aU,_⟩:=fa.lE p aE;exact List.mem_of_getElem? aU
   ·exact ig.rl (fun x=>gf x) (e4 out) (by rw[ky,wv]) (hJ _)
  | cons q pR=>
   have VR:q∈g.ids.l:=by
    rcases fa.pR q (by simp) with e | e
    ·rw[e]; exact List.mem_of_getElem? aA
    ·obtain⟨t,aU,_⟩:=fa.lE q e; exact List.mem_of_getElem? aU
   obtain⟨j,am⟩:=List.mem_iff_getElem?.1 VR;have eR:=(List.getElem?_eq_some_iff.1 am).1;obtain⟨o,ay,eK⟩:=ck (l:=g.ops.l) (k:=j) (by rw[<-V.len]; exact eR);have ajP:=az.ids q VR;have kp:=dd ajP;have fO:=abP g az eV am ay;have dJ:(bD o).length=11:=rfl;have kh:(bD o)[1]? = some (bc o.bO) :=rfl;have nt:=az.ops o eK;have atY:=nt.len;have np:c8 (.ao 32) (bc o.bO)=some (.int .i64 o.bO.l.length) :=by simp[bc]
   have nu:c5 g.ops.l j=o.bO.l:=uv ay;obtain⟨Lr,zi,yQ,bj,bz,a3,a4⟩:=nH.get (k:=.i64) (i:=0) (e:=a7 q) (by simp);obtain⟨p2,ev,dU,gH⟩:=nH.from n6 (k:=.i64) (i:=1) (by simp);have pc:cS (.ao 32) dA (.int .i64 0)=some Lr:=bj;have aev:fQ (.ao 32) dA (some (.int .i64 1)) none none=some p2:=ev;obtain⟨O,fq⟩:∃ O,O=bD o:=⟨_,rfl⟩
   obtain⟨Q,ahK⟩:∃ Q,Q=a7 q:=⟨_,rfl⟩
   have UT:=gf q;rw[<-fq] at fO dJ kh;rw[<-ahK] at a4 fO UT kp;unfold dw ew at fO;obtain⟨b,ai⟩:∃ b,b=pre.length+rest.length:=⟨_,rfl⟩
   have fh:(pre++rest).length=b:=by rw[ai]; simp
   obtain⟨Z,qD⟩:∃ Z,Z=[ae.int .u32 0,.aX,.int .u64 0,.int .u8 0,.str [],.int .u8 0,.int .i64 0,.int .u64 0,.str [],.int .u32 0,.int .u32 0] :=⟨_,rfl⟩
   have pj:Z.length=11:=by rw[qD]; rfl
   have mJ:bS Z 0 O=O:=g8 (by rw[dJ,pj]);have en:∀ y,(pre++(rest++[y]))[b]? = some y:=fun y=>by rw[ai,<-List.append_assoc,List.getElem?_append_right (by simp)]; simp
   have ov:∀ y z:bt,(pre++(rest++[y])).set b z=pre++(rest++[z]) :=fun y z=>by rw[ai,<-List.append_assoc,List.set_append_right _ _ (by simp)]; simp
   have cK:jF 11 (pre++(rest++[bt.cells 11 Z])) (.ptr b 0 11) (.aV O)=some (pre++(rest++[bt.cells 11 O])) :=by
    simp only[acE,en,SX,Option.bind_some,apr];rw[if_pos (by simp[dJ]),ov,mJ]
   simp[Vn,kr,pc,bz,a3,a4,kp,List.take_of_length_le,<-qD,<-ai,pj];refine bC fO (by simp[bM,ae.closed,fc,dp,UT]) ?_;have Dy:=cK;simp only[acE,SX,Option.bind_some] at Dy;have atG:gN<b:=by
    rcases nH.lt with e | e
    ·rw[e] at n6; cases n6
    ·rw[fh] at e; exact e
   have Un:mV pre v5 p2 out pR b (rest++[bt.cells 11 O]) :=by
    refine⟨⟨gh,gN,?_,?_,?_,bL,by omega,ky,gH⟩⟩
    ·rw[<-List.append_assoc]; exact ig.more _
    ·rw[<-List.append_assoc];have:ea 32 (pre++rest) p2 gN (pR.map a7) :=by simpa using dU
     exact this.more _
    ·rcases bd with e | ⟨aZ,b4,dC⟩
     ·exact .inl e
     ·rcases ig.lt with e | e
      ·exact .inl e
      ·exact .inr ⟨aZ,b4,by rw[fh] at e; omega⟩
   simp[fh,en,Dy,aev,pj,<-ai,ov,mJ,dJ];refine c7 o.bO.l.length (adB g pre o b m i x q j) ?_ ⟨by simp,by simp,by simp,out,pR,_,rfl,by simpa using Un,by rw[<-fq]; exact en _,aqL fa,by simp at hm; omega⟩;clear c2 fa hm ig nH bd bL vl ky n6 Un;rintro k ah l hk ⟨a2,dx,ek,out,next,rest,rfl,c2,qE,tK,ajM⟩;obtain⟨v5,bw⟩:∃ v,ah 5=v:=⟨_,rfl⟩
   obtain⟨dA,cl⟩:∃ v,ah 6=v:=⟨_,rfl⟩
   rw[bw,cl] at c2;obtain⟨ah,rfl⟩:=k7 a2 bw cl dx ek;clear a2 bw cl dx ek;unfold Xt;rw[<-fq] at qE;have atp:=qE;by_cases cZ:k<o.bO.l.length
   ·obtain⟨p,aE,qO⟩:=ck cZ;have tZ:=V.Li o eK p qO;obtain⟨t,aU⟩:=List.mem_iff_getElem?.1 tZ;have vS:=az.ids p tZ;have g3:=dd vS;have aZ:IntKind.i64.wrap ((k:Int)+1)=((k+1:Nat) :Int) :=by rw[IntKind.wrap_i64]; omega
    have hs:cS (.ao 32) (bc o.bO) (.int .i64 (k:Int))=some (.cq (a7 p) 0) :=by simp[bc,aE]
    obtain⟨gh,gN,ig,nH,bd,bL,vl,ky,n6⟩:=id c2.ex;have j2:=ig.pX (enc:=a7) (xs:=out) (fun x=>gf x) (e4 out) (by rw[ky,wv]) (hJ _);have atT:=adp tK;have eb:hx (e4 out) :=fun y aK=>by
     rw[hJ] at aK;obtain⟨u,aM,_⟩:=tK.lE y aK;exact az.ids y (List.mem_of_getElem? aM)
    have eA:=abO (e4 out) eb (by rw[hJ]; omega) p vS;rw[hJ] at eA;have qG:=gf p;have JY:(c5 g.ops.l j)[k]? = some p:=by rw[nu]; exact aE
    obtain⟨Y,fb⟩:∃ Y,Y=a7 p:=⟨_,rfl⟩
    rw[<-fb] at eA hs g3 qG;have nz:bS (rep 32 (.int .u8 0)) 0 Y=Y:=g8 (by rw[g3]; rfl);simp[np,qE,kh,cZ,hs,g3,List.take_of_length_le];refine iF eA (.cons j2 (.cons (.same _ (by simp[ae.closed,qG])) .nil)) rfl ?_;by_cases nt:p∈out
    ·simp[nt,aZ];exact⟨cZ,by simp,by simp,by simp,out,next,rest,rfl,by simpa using c2,by rw[<-fq]; exact qE,aqK tK JY nt,ajM⟩
    ·have ah9:b<(pre++rest).length:=(List.getElem?_eq_some_iff.1 qE).1;have atU:out.length+1<=g.ids.l.length:=adp (adr eV tK aA am JY aU nt) |> fun h=>by simpa using h
     obtain⟨axt,Ek,hK,jf,o0,By⟩:=c2.am4 ah9 vS (by rw[aC]; omega);obtain⟨p2,uz,cb,w2,eg,nV⟩:=jf.am5 By vS (by rw[aC]; omega);have UI:(pre++Ek)[b]? = some (.cells 11 O) :=by rw[o0]; exact qE
     have aib:(pre++uz)[b]? = some (.cells 11 O) :=by rw[eg]; exact UI
     rw[<-fb] at hK cb;simp[nt,qE,kh,hs,g3,nz,List.take_of_length_le,hK];refine dK.cM ?_;simp[UI,kh,hs,g3,nz,List.take_of_length_le,cb];refine dK.cM ?_;simp[aZ];exact⟨cZ,by simp,by simp,by simp,out++[p],next++[p],uz,rfl,by simpa using w2,by rw[<-fq]; exact aib,adr eV tK aA am JY aU nt,by simp; omega⟩
   ·simp[np,qE,kh,cZ];have ai9:k=(c5 g.ops.l j).length:=by rw[nu]; omega
    rw[ai9] at tK;exact⟨_,by omega,by simp,⟨out,next,rest,rfl,by simpa using c2.aqI (by omega),aqJ eV am tK,rfl⟩,by omega⟩
 ·exact⟨by simp,⟨[],[x],[.cells 32 (a7 x)],by rw[Do]; rfl,by simpa using vm,aqH,by simp⟩,by omega⟩
structure bn where
 key:List UInt8
 id:List B
 deriving DecidableEq
def b9 (t:bn) :List ae:=.str t.key::a7 t.id
abbrev fK:=dk bn
def dV (s:fK) :ae:=cO 33 b9 s
def iE (l:List bn) :Prop:=∀ t∈l,t.id.length=32
theorem kL {t:bn} (h:t.id.length=32) :(b9 t).length=33:=by simp[b9,dd h]
theorem m9 (t:bn) :bM (b9 t)=true:=by simp[b9,bM,ae.closed,gf]
theorem wU (s:fK) :(dV s).closed=true:=u7 m9 s
abbrev lF (a b:List UInt8) :Bool:=Go.Op.bytesLess a b
theorem uG (a b:List UInt8) :lF a b=true<->a<b:=by unfold lF; rw[Go.Proofs.bytesLess_eq]; simp
@[simp] theorem arX (a b:List UInt8) :pf .lss a b=some (.bool (lF a b)) :=id rfl
@[simp] theorem arW (a b:List UInt8) :pf .gtr a b=some (.bool (!(lF a b||decide (a=b)))) :=by
 by_cases h:a=b<;>simp[pf,h]
def va (a b:List UInt8) :Int:=if lF a b then -1 else if a=b then 0 else 1
theorem Yl (a:List UInt8) :bR Tryz.prog GS 112 [.str a] (.bool false) :=by
 refine cf Tryz.checked.mixed b2 ?_;apply bH Qn Zf;unfold FP LY;simp;exact a1 rfl rfl
theorem afU (a b:List UInt8) :bR Tryz.prog GS 75 [.str a,.str b] (.int .i64 (va a b)) :=by
 refine cf Tryz.checked.mixed b2 ?_;apply bH Sr abl;unfold HK NI va;simp;refine bC (Yl a) rfl ?_;simp;refine bC (Yl b) rfl ?_;cases h1:lF a b with
 | true=>
  simp[h1];exact a1 rfl rfl
 | false=>
  by_cases ag:a=b
  ·subst ag;simp[h1];exact a1 rfl rfl
  ·simp[h1,ag];exact a1 rfl rfl
def yn (a b:Int) :Int:=if a=0 then b else a
theorem an7 {l:av} {b:Nat} {x y:Int} (h:l[b]? = some (.cells 2 [.int .i64 x,.int .i64 y])) :fy (b3 l) (.ao 1 b 0 2 2 2) (.b0 1 [[.int .i64 x],[.int .i64 y]]) :=by
 refine Bg (rest:=[]) (es:=[[.int .i64 x],[.int .i64 y]]) (by simpa using h) rfl (by simp) (by simp[bM,ae.closed])
theorem amx (x y:Int) :bR Tryz.prog GS 74 [.b0 1 [[.int .i64 x],[.int .i64 y]]] (.int .i64 (yn x y)) :=by
 refine cf Tryz.checked.mixed b2 ?_;apply bH Sq abk;unfold HJ NH yn;simp;obtain⟨X,dN⟩:∃ X,X=ae.b0 1 [[.int .i64 x],[.int .i64 y]] :=⟨_,rfl⟩
 rw[<-dN];refine c7 2 (fun k ah l=>ah 3=.int .i64 0/\ah 6=X/\ah 7=.int .i64 2/\ah 8=.int .i64 k/\(1<=k->x=0)/\(2<=k->y=0)) ?_ (by simp[dN]);rintro k ah l hk ⟨bh,cl,dx,ek,h1,ag⟩;obtain⟨ah,rfl⟩:=jg bh cl dx ek;clear bh cl dx ek;unfold XH;rcases k with _ | _ | k
 ·by_cases aj:x=0
  ·simp[dN,aj]; exact rfl
  ·simp[dN,aj]; exact a1 rfl rfl
 ·have aj:=h1 (by omega);by_cases aK:y=0
  ·simp[dN,aj,aK]; exact rfl
  ·simp[dN,aj,aK]; exact a1 rfl rfl
 ·obtain rfl:k=0:=by omega
  have aj:=h1 (by omega);have aK:=ag (by omega);simp[dN,aj,aK]; exact a1 rfl rfl
def ir (a b:bn) :Int:=yn (va a.key b.key) (cN a.id b.id)
def et (a b:bn) :Bool:=if a.key=b.key then decide (cN a.id b.id<0) else lF a.key b.key
theorem YB {l:av} {j:Nat} {c:ae} {a:List B} (aG:a.length=32) (am:l[j]? = some (.cells 33 (c::a7 a))) :ea 1 l (.ao 1 j 1 32 32 33) j (a.map cd) :=by
 refine .ao j 1 32 32 33 (c::a7 a) _ am (by simp[a7,aG]) (by simp[aG]) (fun e aw=>?_) (Nat.le_refl _) (by omega) ?_
 ·obtain⟨x,_,rfl⟩:=List.mem_map.1 aw; rfl
 ·simp only[List.drop_succ_cons,List.drop_zero];rw[List.take_of_length_le (by simp[a7,aG]),w1]; rfl
theorem H9 (a b:bn) (aG:a.id.length=32) (ai:b.id.length=32) :bR Tryz.prog GS 41 [.aV (b9 a),.aV (b9 b)] (.int .i64 (ir a b)) :=by
 refine cf Tryz.checked.mixed b2 ?_;apply bH RW aaP;unfold Hm Nk ir;have h1:=dd aG;have ag:=dd ai;simp[b9,h1,ag];refine bC (afU _ _) rfl ?_;have al:=PQ (some a.id) (some b.id) (by simp[aG,ai]);simp;refine iF al ?_ rfl ?_
 ·exact .cons ((YB (j:=0) (c:=.str a.key) aG rfl).pX (fun _=>rfl) (some a.id) rfl rfl) (.cons ((YB (j:=1) (c:=.str b.key) ai rfl).pX (fun _=>rfl) (some b.id) rfl rfl) .nil)
 ·simp;refine iF (amx (va a.key b.key) (cN a.id b.id)) (.cons (an7 (by simp)) .nil) rfl ?_;simp;exact a1 rfl rfl
theorem alN (a b:bn) (aG:a.id.length=32) (ai:b.id.length=32) :bR Tryz.prog GS 52 [.aV (b9 a),.aV (b9 b)] (.bool (et a b)) :=by
 refine cf Tryz.checked.mixed b2 ?_;apply bH R5 aaY;unfold Hs Nr et;have h1:=dd aG;have ag:=dd ai;have al:=abY a.id b.id aG ai;by_cases hk:a.key=b.key
 ·simp[b9,h1,ag,hk,List.take_of_length_le];refine bC al (by have:=gf a.id; have:=gf b.id; simp_all [bM,ae.closed,fk,a7]) ?_;simp;exact a1 (by rw[if_pos hk]) rfl
 ·simp[b9,h1,ag,hk];exact a1 rfl rfl
abbrev yV:=dk (List UInt8)
def Cj (k:List UInt8) :List ae:=[.str k]
def Cn (s:yV) :ae:=cO 1 Cj s
def ah1 (l:List bn) (k:List UInt8) :Bool:=decide (k∈l.map bn.key)
theorem Cd (a b:bn) :(ir a b<0)<->et a b=true:=by
 unfold ir va yn et;by_cases h:a.key=b.key
 ·have aA:lF b.key b.key=false:=by
   cases ai:lF b.key b.key with
   | false=>rfl
   | true=>exact absurd ((uG _ _).1 ai) (List.lt_irrefl _)
  simp[h,aA]
 ·cases ai:lF a.key b.key with
  | true=>simp[h]
  | false=>simp[h]
def nR (l:List bn) (k:Nat) :bn:=l.getD k ⟨[],[]⟩
theorem mq {l:List bn} {k:Nat} {x:bn} (h:l[k]? = some x) :nR l k=x:=by
 unfold nR; rw[List.getD_eq_getElem?_getD,h]; rfl
def oq (l:List bn) (k:Nat) :Bool:=gu (nR l k).key&&(decide (k=0)||et (nR l (k - 1)) (nR l k))
def ll (l:List bn) :Bool:=decide (∀ k,k<l.length->oq l k=true)
def mS (l:List bn) :Int:=if 60<l.length then 4 else if ll l then 0 else 8
theorem IF {l:List bn} (h:∀ k,k<l.length->oq l k=true) :ll l=true:=decide_eq_true h
theorem CD {l:List bn} {k:Nat} (hk:k<l.length) (h:oq l k=false) :ll l=false:=decide_eq_false fun aN=>by rw[aN k hk] at h; cases h
theorem aec (k:List UInt8) :jk ⟨2#8,k,p7⟩=gu k:=by
 rw[y5 rfl];have:mb p7=true:=by decide
 simp[this]
theorem EB {E:List ae} (h:E.length=33) :bS (ae.str [] ::rep 32 (.int .u8 0)) 0 E=E:=g8 (by rw[h]; rfl)
theorem aqA (s:fK) (ay:iE s.l) (au:s.l.length<=1000000) :bR Tryz.prog GS 18 [.aV [dV s]] (.int .i64 (mS s.l)) :=by
 refine cf Tryz.checked.mixed b2 ?_;apply bH Rq aaj;unfold GF yt mS;have bA:c8 (.ao 33) (dV s)=some (.int .i64 s.l.length) :=by simp[dV]
 by_cases h1:60<s.l.length
 ·have dH:(60:Int)<(s.l.length:Int) :=by omega
  simp[bA,dH];exact a1 (by rw[if_pos h1]) rfl
 ·have dH:¬ (60:Int)<(s.l.length:Int) :=by omega
  simp[bA,dH];refine c7 s.l.length (fun k ah l=>(∃ r,l=.cells 1 [dV s] ::r)/\ah 1=.ptr 0 0 1/\ah 10=dV s/\ah 11=.int .i64 s.l.length/\ah 12=.int .i64 k/\∀ j,j<k->oq s.l j=true) ?_ (by simp);rintro k ah l hk ⟨⟨r,rfl⟩,aY,fB,h6,hC,ar⟩;obtain⟨ah,rfl⟩:=jg aY fB h6 hC;clear aY fB h6 hC;unfold Xe;simp;refine oO (fun h=>?_) (fun h=>?_)
  ·simp only[decide_eq_true_eq] at h;obtain⟨y,aK,dg⟩:=ck (l:=s.l) (k:=k) (by omega);have ds:=kL (ay y dg);have aZ:IntKind.i64.wrap ((k:Int)+1)=((k+1:Nat) :Int) :=by rw[IntKind.wrap_i64]; omega
   have b4:1<=k->IntKind.i64.wrap ((k:Int) - 1)=((k - 1:Nat) :Int) :=fun h=>by rw[IntKind.wrap_i64]; omega
   have CO:=SY ⟨2#8,y.key,p7⟩;rw[aec] at CO;have gL:oq s.l k=(gu y.key&&(decide (k=0)||et (nR s.l (k - 1)) y)) :=by unfold oq; rw[mq aK]
   have ny:=EB ds;obtain⟨E,e1⟩:∃ E,E=a7 y.id:=⟨_,rfl⟩
   have vo:b9 y=.str y.key::E:=by rw[e1]; rfl
   have r6:E.length=32:=by rw[e1]; exact dd (ay y dg)
   have IU:bM E=true:=by rw[e1]; exact gf _
   rw[vo] at ds ny;simp[dV,aK,vo,r6,ny,List.take_of_length_le];refine bC CO rfl ?_;cases bd:gu y.key with
   | false=>
    rw[bd,Bool.false_and] at gL;simp[jQ];exact a1 (by rw[if_neg h1,CD h gL]; rfl) rfl
   | true=>
    rw[bd,Bool.true_and] at gL;rcases k with _ | k
    ·simp[jQ,aZ];exact⟨by omega,rfl,by rw[IntKind.wrap_i64]; omega,by rw[gL]; rfl⟩
    ·obtain⟨x,aj,dF⟩:=ck (l:=s.l) (k:=k) (by omega);have bF:=kL (ay x dF);have dC:IntKind.i64.wrap (k:Int)=(k:Int) :=by rw[IntKind.wrap_i64]; omega
     have j0:(0:Int)<(k:Int)+1:=by omega
     have fV:=H9 x y (ay x dF) (ay y dg);rw[vo] at fV;simp only[Nat.add_sub_cancel,mq aj,Nat.add_eq_zero_iff,Nat.one_ne_zero,and_false,decide_false,Bool.false_or] at gL;simp[jQ,j0,aj,bF,dC,r6,List.take_of_length_le];refine bC fV (by simp[bM,ae.closed,IU,m9]) ?_;have sd:=Cd x y;by_cases bL:ir x y<0
     ·rw[sd.1 bL] at gL;have tG:¬ (0:Int)<=ir x y:=by omega
      simp[tG,aZ];refine⟨by omega,rfl,by rw[IntKind.wrap_i64]; omega,fun j am=>?_⟩;by_cases g2:j=k+1
      ·rw[g2,gL]
      ·exact ar j (by omega)
     ·have tG:(0:Int)<=ir x y:=by omega
      have eN:et x y=false:=by
       cases hd:et x y with
       | false=>rfl
       | true=>exact absurd (sd.2 hd) bL
      rw[eN] at gL;simp[tG];exact a1 (by rw[if_neg h1,CD h gL]; rfl) rfl
  ·simp[h];have nm:k=s.l.length:=by simp at h; omega
   exact a1 (by rw[if_neg h1,if_pos (IF fun j am=>ar j (by omega))]) rfl
abbrev v6 (l:List (List UInt8)) (k:Nat) :List UInt8:=l.getD k []
def af8 (l:List (List UInt8)) (m:Nat) :List (List UInt8) :=(List.range m).flatMap fun k=>if k=0\/v6 l k≠v6 l (k - 1) then [v6 l k] else []
structure aq2 (l:av) (v:ae) (xs:List (List UInt8)) (k:Nat) (ah:bi) (l1:av) :Prop where
 cC:ah 0=v
 bh:ah 3=.int .i64 ((k+1:Nat) :Int)
 au:l1=l
 ar:∀ j,1<=j->j<k+1->v6 xs j≠v6 xs (j - 1)
structure aq1 (l:av) (v ef:ae) (j:Nat) (xs:List (List UInt8)) (m i:Nat) (ah:bi) (ce:av) :Prop where
 cC:ah 0=v
 bK:ah 4=ef
 bw:ah 5=.int .i64 ((i+1:Nat) :Int)
 ex:∃ (k:Nat) (bl:List (List UInt8)),ah 3=.int .i64 (k:Int)/\bX 1 ce v j (bl.map Cj)/\bl.length=xs.length/\(∀ y∈bl,y.length=y.length)/\bl.take k=af8 xs (m+i+1)/\k<=m+i/\(∀ t,m+i<=t->v6 bl t=v6 xs t)/\ce.length=l.length/\∀ b,b≠j->ce[b]? = l[b]?
theorem Bk {l:av} {a b eL bx:ae} (h1:Rd l a eL) (ag:Rd l b bx) :Rd l (.bU [a,b]) (.bU [eL,bx]) :=by
 refine .bU _ _ rfl fun j x mr aj vZ=>?_
 rcases j with _ | _ | j
 ·simp at aj vZ; subst aj vZ; exact h1
 ·simp at aj vZ; subst aj vZ; exact ag
 ·simp at aj
theorem Bj {l:av} {a eL:ae} (h1:Rd l a eL) :Rd l (.aV [a]) (.aV [eL]) :=by
 refine .aV _ _ rfl fun j x mr aj vZ=>?_
 rcases j with _ | j
 ·simp at aj vZ; subst aj vZ; exact h1
 ·simp at aj
structure aq5 (s:fK) (k:Nat) (ah:bi) (l:av) :Prop where
 ag7:ah 14=dV s
 xb:ah 15=.int .i64 s.l.length
 tC:ah 16=.int .i64 k
 q8:∃ v,ah 5=v/\cw 1 Cj [.cells 1 [dV s]] l v ((s.l.map bn.key).take k) (decide (k=0))
theorem anZ (s:fK) (ay:iE s.l) (au:s.l.length<=1000000) :bR Tryz.prog GS 19 [.aV [dV s]] (.int .i64 (mS s.l)) :=by
 refine cf Tryz.checked.mixed b2 ?_;apply bH RA aat
 unfold GR yu mS;have bA:c8 (.ao 33) (dV s)=some (.int .i64 s.l.length) :=by simp[dV]
 by_cases h1:60<s.l.length
 ·have dH:(60:Int)<(s.l.length:Int) :=by omega
  simp[bA,dH];exact a1 (by rw[if_pos h1]) rfl
 ·have dH:¬ (60:Int)<(s.l.length:Int) :=by omega
  simp[bA,dH];refine c7 s.l.length (fun k ah l=>l=[.cells 1 [dV s]]/\ah 1=.ptr 0 0 1/\ah 3=.int .i64 k/\∀ j,j<k->oq s.l j=true) ?_ (by simp);rintro k ah l hk ⟨rfl,aY,bh,ar⟩;obtain⟨ah,rfl⟩:=o3 aY bh;clear aY bh;unfold Xl;simp[bA];refine oO (fun h=>?_) (fun h=>?_)
  ·simp only[decide_eq_true_eq] at h;obtain⟨y,aK,dg⟩:=ck (l:=s.l) (k:=k) (by omega);have ds:=kL (ay y dg);have aZ:IntKind.i64.wrap ((k:Int)+1)=((k+1:Nat) :Int) :=by rw[IntKind.wrap_i64]; omega
   have CO:=D0 y.key;have gL:oq s.l k=(gu y.key&&(decide (k=0)||et (nR s.l (k - 1)) y)) :=by unfold oq; rw[mq aK]
   obtain⟨E,e1⟩:∃ E,E=a7 y.id:=⟨_,rfl⟩
   have vo:b9 y=.str y.key::E:=by rw[e1]; rfl
   have r6:E.length=32:=by rw[e1]; exact dd (ay y dg)
   have IU:bM E=true:=by rw[e1]; exact gf _
   simp[dV,aK,vo];refine bC CO rfl ?_;cases bd:gu y.key with
   | false=>
    rw[bd,Bool.false_and] at gL;simp;exact a1 (by rw[if_neg h1,CD h gL]; rfl) rfl
   | true=>
    rw[bd,Bool.true_and] at gL;rcases k with _ | k
    ·simp[aZ,dV]
     and_intros<;>first | omega | rfl | (rw[IntKind.wrap_i64]; omega) | (rw[gL]; rfl)
    ·obtain⟨x,aj,dF⟩:=ck (l:=s.l) (k:=k) (by omega);have bF:=kL (ay x dF);have dC:IntKind.i64.wrap (k:Int)=(k:Int) :=by rw[IntKind.wrap_i64]; omega
     have j0:(0:Int)<(k:Int)+1:=by omega
     have fV:=alN x y (ay x dF) (ay y dg);rw[vo] at fV;simp only[Nat.add_sub_cancel,mq aj,Nat.add_eq_zero_iff,Nat.one_ne_zero,and_false,decide_false,Bool.false_or] at gL;simp[j0,aj,aK,vo,bF,dC,r6,List.take_of_length_le];refine⟨by omega,?_⟩;refine bC fV (by simp[bM,ae.closed,IU,m9]) ?_;cases bL:et x y with
     | true=>
      rw[bL] at gL;simp[aZ];refine⟨by omega,rfl,by rw[IntKind.wrap_i64]; omega,fun j am=>?_⟩;by_cases g2:j=k+1
      ·rw[g2,gL]
      ·exact ar j (by omega)
     | false=>
      rw[bL] at gL;simp;exact a1 (by rw[if_neg h1,CD h gL]; rfl) rfl
  ·simp[h];have nm:k=s.l.length:=by simp at h; omega
   exact a1 (by rw[if_neg h1,if_pos (IF fun j am=>ar j (by omega))]) rfl
def anO (l:List bn) (m:Nat) :List (List UInt8) :=(List.range m).flatMap fun k=>if ah1 (l.take k) (nR l k).key then [] else [(nR l k).key]
structure aq6 (s:fK) (k:Nat) (ah:bi) (l:av) :Prop where
 aY:ah 1=.ptr 0 0 1
 bw:ah 5=.int .i64 k
 q8:∃ v,ah 4=v/\cw 1 Cj [.cells 1 [dV s]] l v (anO s.l k) (decide (k=0))
def DJ:List lc:=.s::List.replicate 32 (.i .u8)
theorem WI:qZ Tryz.prog 20 77=some DJ:=by kernel_rfl
theorem D6 {t:bn} (h:t.id.length=32) :hG DJ (b9 t)=true:=by
 unfold DJ b9;have:=yk t.id;rw[h] at this;simp only[hG,EK,Bool.true_and];exact this
theorem PX {a b:bn} (aG:a.id.length=32) (ai:b.id.length=32) :e8 (b9 a) (b9 b)=decide (a=b) :=by
 unfold b9 a7;simp only[e8,ae.beq];rw[BV a.id b.id (by omega)];cases a; cases b;simp only[bn.mk.injEq];rename_i ci er b6 eX;by_cases h1:ci=b6<;>by_cases ag:er=eX<;>simp[h1,ag]
theorem apA {a b:bn} (aG:a.id.length=32) (ai:b.id.length=32) :gc Tryz.prog .neq 77 (.aV (b9 a)) (.aV (b9 b))=some (.bool (!decide (a=b))) :=by
 rw[Fw WI (by kernel_rfl) (by kernel_rfl) (D6 aG) (D6 ai),PX aG ai]
theorem aoI (a b:fK) (aG:iE a.l) (ai:iE b.l) (au:a.l.length<=1000000) :bR Tryz.prog GS 20 [.aV [dV a],.aV [dV b]] (.bool (decide (a.l=b.l))) :=by
 refine cf Tryz.checked.mixed b2 ?_;apply bH RF aay;unfold G5 M2;have xD:c8 (.ao 33) (dV a)=some (.int .i64 a.l.length) :=by simp[dV]
 have sm:c8 (.ao 33) (dV b)=some (.int .i64 b.l.length) :=by simp[dV]
 by_cases h1:a.l.length=b.l.length
 ·have dH:((a.l.length:Int)=b.l.length) :=by omega
  simp[xD,sm,h1];refine c7 a.l.length (fun k ah l=>l=[.cells 1 [dV a],.cells 1 [dV b]]/\ah 2=.ptr 0 0 1/\ah 3=.ptr 1 0 1/\ah 5=.int .i64 k/\∀ j,j<k->a.l[j]? = b.l[j]?) ?_ (by simp);rintro k ah l hk ⟨rfl,a2,bh,bw,ar⟩;obtain⟨s,rfl⟩:=kD a2 bh bw;clear a2 bh bw;unfold Xn;simp[xD];refine oO (fun h=>?_) (fun h=>?_)
  ·simp only[decide_eq_true_eq] at h;obtain⟨x,aj,dF⟩:=ck h;obtain⟨y,aK,dg⟩:=ck (l:=b.l) (k:=k) (by omega);have aZ:IntKind.i64.wrap ((k:Int)+1)=((k+1:Nat) :Int) :=by rw[IntKind.wrap_i64]; omega
   have cV:cS (.ao 33) (dV a) (.int .i64 (k:Int))=some (.cq (b9 x) 0) :=by simp[dV,aj]
   have tP:cS (.ao 33) (dV b) (.int .i64 (k:Int))=some (.cq (b9 y) 0) :=by simp[dV,aK]
   have bF:=kL (aG x dF);have ds:=kL (ai y dg);have bY:=apA (aG x dF) (ai y dg);obtain⟨X,dN⟩:∃ X,X=b9 x:=⟨_,rfl⟩
   obtain⟨Y,fb⟩:∃ Y,Y=b9 y:=⟨_,rfl⟩
   rw[<-dN] at cV bF bY;rw[<-fb] at tP ds bY;simp[cV,tP,bF,ds,List.take_of_length_le,bY];by_cases aw:x=y
   ·simp[aw,aZ];refine⟨by omega,fun j am=>?_⟩;by_cases g2:j=k
    ·subst g2; rw[aj,aK,aw]
    ·exact ar j (by omega)
   ·simp[aw];refine a1 (congrArg ae.bool (decide_eq_false fun fM=>aw ?_).symm) rfl;rw[fM,aK] at aj; exact (Option.some.inj aj).symm
  ·simp[h];have nm:k=a.l.length:=by simp at h; omega
   refine a1 (congrArg ae.bool (decide_eq_true ?_).symm) rfl;apply List.ext_getElem?;intro j;by_cases am:j<a.l.length
   ·exact ar j (by omega)
   ·rw[List.getElem?_eq_none (by omega),List.getElem?_eq_none (by omega)]
 ·have dH:¬ ((a.l.length:Int)=b.l.length) :=by omega
  simp[xD,sm,h1,dH];exact a1 (by rw[decide_eq_false (fun fM=>h1 (by rw[fM]))]) rfl
end Op
end Go.cn

namespace Go.cn
open Go Go.Proofs Go.Shelf Go.RowKit Go.Lib
set_option maxRecDepth 100000
set_option maxHeartbeats 4000000
theorem akK (base:Option Addr) (n c e5 gU jh:Nat) (r:Value) (w w' : World) (aH:n<=c) (qy:n<=4611686018427387904) (i9:base=none->n=0/\c=0)
  (hv:(Builtin.append_ #[22,22] 22 #[.slice base n c,.slice (some ⟨gU,jh,none⟩) 1 e5]).run Tryz.prog w=.ok r w') :
  Calls Tryz.prog 42 #[.slice base n c,.int .i64 n,.slice (some ⟨gU,jh,none⟩) 1 e5] w fun e w2=>e=.returned r/\w2=w':=by
 have OX:=Tryz.underlying22;have mixed:=Tryz.checked.mixed
 go_enter Tryz.func42,Tryz.ntmps42
 cases base with
 | none=>
  obtain⟨aT,h1⟩:=i9 rfl;subst aT h1
  go_wp2_with (at_builtin; refine Lib.wpList_append_run _ rfl _ _ _ _ rfl _ _ rfl rfl _ _ hv ?_)
  go_ret
  exact⟨rfl,rfl⟩
 | some a=>
  obtain⟨ab,arn,arp⟩:=a
  go_wp2_with (at_builtin; refine Lib.wpList_append_run _ rfl _ _ _ _ rfl _ _ rfl rfl _ _ hv ?_)
  all_goals (go_ret; exact⟨rfl,rfl⟩)
theorem akN (b off n c i gU jh e5:Nat) (ci b6:Value) (w kH ip:World) (EG fg:TypeId) (uj x8:Nat) (aA:i<n) (dy:n+1<=c) (qy:n<=4611686018427387904) (nA:gU≠b)
  (Ka:w.shape? gU=some (EG,uj)) (Kb:w.shape? b=some (fg,x8)) (ai7:x8≠0) (Ji:w.frozen? ⟨gU,jh,none⟩=false) (Ab:w.frozen? ⟨gU,uj,none⟩=false)
  (tM:(Builtin.copy_ #[22,22] 3 #[.slice (some ⟨b,off+(i+1)*33,none⟩) (n - i) (c - (i+1)),.slice (some ⟨b,off+i*33,none⟩) (n+1 - i) (c - i)]).run Tryz.prog w.drew=.ok ci kH)
  (tN:(Builtin.copy_ #[22,22] 3 #[.slice (some ⟨b,off+i*33,none⟩) (n+1 - i) (c - i),.slice (some ⟨gU,jh,none⟩) 1 e5]).run Tryz.prog kH=.ok b6 ip) :
  Calls Tryz.prog 42 #[.slice (some ⟨b,off,none⟩) n c,.int .i64 i,.slice (some ⟨gU,jh,none⟩) 1 e5] w fun e w2=>e=.returned (.slice (some ⟨b,off,none⟩) (n+1) c)/\w2=ip:=by
 have OX:=Tryz.underlying22;have z0:∀ w,(Go.sizeOf 77).run Tryz.prog w=.ok 33 w:=fun w=>fr (by kernel_rfl)
 have mixed:=Tryz.checked.mixed;have JT:∀ KY tl,(callFunc 77 #[.slice (some ⟨gU,jh,none⟩) 1 e5,.slice (some ⟨b,off+(i+1)*33,none⟩) KY tl]).run Tryz.prog w=.ok (.value (.bool false)) w:=fun KY tl=>by
  rw[run_callFunc_extern Tryz.func77 (by kernel_rfl) (by kernel_rfl) (by kernel_rfl) (e:=Extern.SlicesOverlaps.overlaps #[22,22] #[4]) (by kernel_rfl),
   Lib.run_overlaps_apart w 22 4 77 OX 33 z0 ⟨gU,jh,none⟩ ⟨b,off+(i+1)*33,none⟩ 1 e5 KY tl nA EG fg uj x8 Ka Kb ai7 Ji Ab]
  rfl
 have kY:¬ ((i:Int)=(n:Int)) :=by omega
 have js:IntKind.i64.wrap ((i:Int)+1)=(i:Int)+1:=by rw[IntKind.wrap_i64]; omega
 have l9:IntKind.i64.wrap ((n:Int)+1)=(n:Int)+1:=by rw[IntKind.wrap_i64]; omega
 have gA:(0:Int)<=(i:Int)+1:=by omega
 have eA:i<=n:=by omega
 have V3:((i:Int)+1).toNat=i+1:=by omega
 have fU:¬ (c=i+1) :=by omega
 have sa:(i:Int)<=(n:Int)+1:=by omega
 have atk:¬ (c=i) :=by omega
 have atm:¬ ((c:Int)<(n:Int)+1) :=by omega
 go_enter Tryz.func42,Tryz.ntmps42
 go_wp2_with (simp only[JT])
 go_region_law_o (refine step_copy_runI rfl _ _ 22 22 rfl _ _ (by simp[Act.eval,Act.put]) (by simp[Act.eval,Act.put]) tM ?_)
 go_wp2_with (at_builtin; refine wpList_copy_runI _ rfl _ _ 22 22 rfl _ _ rfl rfl tN ?_)
 go_ret
 exact⟨rfl,rfl⟩
theorem akL (b off n c i gU jh e5 N G:Nat) (ci b6:Value) (w y1 kH ip:World) (aA:i<n) (JL:n<=c) (dy:c<n+1) (jS:n+1<=G) (qy:n<=4611686018427387904)
  (ou:(Builtin.append_ #[22,3] 22 #[.slice (some ⟨b,off,none⟩) i c,.int .i64 ((n:Int)+1 - (i:Int))]).run Tryz.prog w=.ok (.slice (some ⟨N,0,none⟩) (n+1) G) y1)
  (tM:(Builtin.copy_ #[22,22] 3 #[.slice (some ⟨N,i*33,none⟩) (n+1 - i) (G - i),.slice (some ⟨gU,jh,none⟩) 1 e5]).run Tryz.prog y1=.ok ci kH)
  (tN:(Builtin.copy_ #[22,22] 3 #[.slice (some ⟨N,(i+1)*33,none⟩) (n - i) (G - (i+1)),.slice (some ⟨b,off+i*33,none⟩) (n - i) (c - i)]).run Tryz.prog kH.drew=.ok b6 ip) :
  Calls Tryz.prog 42 #[.slice (some ⟨b,off,none⟩) n c,.int .i64 i,.slice (some ⟨gU,jh,none⟩) 1 e5] w fun e w2=>e=.returned (.slice (some ⟨N,0,none⟩) (n+1) G)/\w2=ip:=by
 have OX:=Tryz.underlying22;have z0:∀ w,(Go.sizeOf 77).run Tryz.prog w=.ok 33 w:=fun w=>fr (by kernel_rfl)
 have mixed:=Tryz.checked.mixed;have kY:¬ ((i:Int)=(n:Int)) :=by omega
 have js:IntKind.i64.wrap ((i:Int)+1)=(i:Int)+1:=by rw[IntKind.wrap_i64]; omega
 have l9:IntKind.i64.wrap ((n:Int)+1)=(n:Int)+1:=by rw[IntKind.wrap_i64]; omega
 have at3:IntKind.i64.wrap ((n:Int)+1 - (i:Int))=(n:Int)+1 - (i:Int) :=by rw[IntKind.wrap_i64]; omega
 have gA:(0:Int)<=(i:Int)+1:=by omega
 have eA:i<=n:=by omega
 have V3:((i:Int)+1).toNat=i+1:=by omega
 have atb:¬ (G=i) :=by omega
 have atc:¬ (G=i+1) :=by omega
 have fc:¬ (c=i) :=by omega
 have Wg:(c:Int)<(n:Int)+1:=by omega
 have sa:(i:Int)<=(n:Int) :=by omega
 have atn:(i:Int)<=(c:Int) :=by omega
 go_enter Tryz.func42,Tryz.ntmps42
 go_wp2_with (first
  | (at_builtin; refine Lib.wpList_append_run _ rfl _ _ _ _ rfl _ _ rfl rfl _ _ ou ?_)
  | (at_builtin; refine wpList_copy_runI _ rfl _ _ 22 22 rfl _ _ rfl rfl tM ?_))
 go_region_law_o (refine step_copy_runI rfl _ _ 22 22 rfl _ _ (by simp[Act.eval,Act.put]) (by simp[Act.eval,Act.put]) tN ?_)
 go_wp2
 go_ret
 exact⟨rfl,rfl⟩
theorem KF:BJ Tryz.prog 42 22 3 77 33:=
 ⟨Tryz.underlying22,Tryz.underlying3,akK,akN,akL⟩
theorem akD {G:Nat->ae} (args:List ae) (h:aQ) (r:ae) (h' : aQ) (aj:sB 33 48 args h=some (r,h')) :rz Tryz.prog G 42 args h r h':=
 akE KF (by kernel_rfl) (by kernel_rfl) (by kernel_rfl) (by omega) (by omega) (by kernel_rfl) args h r h' aj
def KE (f:FuncId) :Option (Nat × Nat) :=match Nat.beq f 42 with | true=>some (33,48) | false=>none
theorem akC (f:FuncId) (z by_:Nat) (h:KE f=some (z,by_)) (args:List ae) (aE:aQ) (r:ae) (fF:aQ) (aj:sB z by_ args aE=some (r,fF)) :rz Tryz.prog GS f args aE r fF:=by
 unfold KE at h;split at h
 ·rename_i ai;have aI:=Nat.eq_of_beq_eq_true ai;subst aI;cases h;exact akD args aE r fF aj
 cases h
instance aua:o9 Tryz.prog GS:=⟨KE,akC⟩
end Go.cn

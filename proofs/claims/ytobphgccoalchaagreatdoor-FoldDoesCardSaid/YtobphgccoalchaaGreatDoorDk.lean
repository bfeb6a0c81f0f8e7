/-
  Rows of one's own in a row: lists of numbers, each in a block of its own.
-/
import Derived.Test.YtobphgccoalchaaGreatDoorDj
import Derived.Sort.Walk0
set_option linter.unusedVariables false
set_option linter.unusedSimpArgs false
set_option linter.unnecessarySimpa false
namespace Go.ct
open Go Go.Proofs
set_option maxRecDepth 100000
namespace Op
open hK
structure lT (l:aw) (vs:List ad) (cS:List (List Nat)) (en:Nat->Nat) :Prop where
 oI:vs.length=cS.length
 own:∀ (a:Nat) (v:ad) (row:List Nat),vs[a]? = some v->cS[a]? = some row->bW 1 l v (en a) (row.map h2)/\cX v=row.isEmpty/\(row=[]\/3<=en a)
 apart:∀ (a b:Nat) (mN nX:List Nat),a≠b->cS[a]? = some mN->cS[b]? = some nX->mN≠[]->nX≠[]->en a≠en b
def oP (cS:List (List Nat)) (en:Nat->Nat) (b:Nat) :Prop:=∀ (a:Nat) (row:List Nat),cS[a]? = some row->row≠[]->en a≠b
theorem lT.lt {l:aw} {vs:List ad} {cS:List (List Nat)} {en:Nat->Nat} (h:lT l vs cS en) {a:Nat} {row:List Nat} (aC:cS[a]? = some row) (b2:row≠[]) :en a<l.length:=by
 have aD:a<vs.length:=by rw[h.oI]; exact (aCJ.1 aC).1
 obtain⟨o,n,_⟩:=h.own a vs[a] row (aCM aD) aC;rcases o.lt with h1 | h1
 ·rw[h1] at n;cases row with
  | nil=>exact absurd rfl b2
  | cons=>cases n
 ·exact h1
theorem lT.frame {l l' : aw} {vs:List ad} {cS:List (List Nat)} {en:Nat->Nat} (h:lT l vs cS en) (aL:∀ b,b<l.length->(∃ a row,cS[a]? = some row/\row≠[]/\en a=b)->l'[b]? = l[b]?) :lT l' vs cS en:=by
 refine⟨h.oI,fun a v row ay aC=>?_,h.apart⟩;obtain⟨o,n,t⟩:=h.own a v row ay aC;refine⟨?_,n,t⟩;by_cases b2:row=[]
 ·subst b2;have:=jB.1 n;subst this;exact .nil _
 ·exact o.frame fun ar=>aL _ ar ⟨a,row,aC,b2,rfl⟩
theorem lT.more {l:aw} {vs:List ad} {cS:List (List Nat)} {en:Nat->Nat} (h:lT l vs cS en) (x:aw) :lT (l++x) vs cS en:=h.frame fun b ai _=>aCK ai
theorem lT.app {l:aw} {vs:List ad} {cS:List (List Nat)} {en:Nat->Nat} (h:lT l vs cS en) {a k b:Nat} {v:ad} {row:List Nat} (ay:vs[a]? = some v) (aC:cS[a]? = some row) (ai:l[b]? = some (.cells 1 [.int .i64 (k:Int)])) (aq:3<=l.length) (eb:(row.length+1)*8<=c4) :
  ∃ bl l' De,g8 l 1 8 v (.av 1 b 0 1 1 1)=some (bl,l')/\lT l' (vs.set a bl) (cS.set a (row++[k])) De/\l.length<=l'.length/\bl.cells=some [bl] ∧
   ∀ c,c<l.length->oP cS en c->l'[c]? = l[c]?/\oP (cS.set a (row++[k])) De c:=by
 obtain⟨o,n,t⟩:=h.own a v row ay aC;have om:a<cS.length:=(aCJ.1 aC).1;obtain⟨j,XS,mH,Li,VF⟩:∃ j,bW 1 l v j (row.map h2)/\3<=j/\(∀ fA uE,fA≠a->cS[fA]? = some uE->uE≠[]->en fA≠j)/\∀ c,c<l.length->oP cS en c->j≠c:=by
  by_cases b2:row=[]
  ·subst b2;have:=jB.1 n;subst this;exact⟨l.length,.nil _,aq,fun fA uE _ lH tX=>by have:=h.lt lH tX; omega,fun c ak _=>by omega⟩
  ·exact⟨en a,o,t.resolve_left b2,fun fA uE UK lH tX=>h.apart fA a uE row UK lH aC tX b2,fun c _ ax=>ax a row aC b2⟩
 obtain⟨bl,cx,l',aW,bg,bj,bL,bC,cv⟩:=oR (by_:=8) XS (x:=.av 1 b 0 1 1 1) (xs:=[h2 k]) (by simp[dL,ai,h2]) (by simp[h2]) (by omega) (by omega) (by simpa using eb);have gE:cX bl=false:=by
  cases aR:cX bl with
  | true=>have:=(cv.1 (jB.1 aR)).2; cases this
  | false=>rfl
 refine⟨bl,l',fun x=>if x=a then cx else en x,aW,⟨by simp[h.oI],fun x w MD hw lH=>?_,fun x y ws acm ni al aE pg Km=>?_⟩,bj,bg.cells,fun c ak ax=>⟨bL c ak (fun e=>VF c ak ax e.symm),fun x ws al pg=>?_⟩⟩
 ·by_cases ki:x=a
  ·subst ki;rw[aC3 (by rw[h.oI]; exact om)] at hw;rw[aC3 om] at lH;obtain rfl:=Option.some.inj hw;obtain rfl:=Option.some.inj lH;simp only[if_true];refine⟨by rw[aDe]; exact bg,by rw[gE]; simp,.inr ?_⟩;rcases bC with e | e<;>omega
  ·rw[aCU (Ne.symm ki)] at hw lH;simp only[if_neg ki];obtain⟨eh,hE,gP⟩:=h.own x w MD hw lH;refine⟨?_,hE,gP⟩;by_cases b2:MD=[]
   ·subst b2;have:=jB.1 hE;subst this;exact .nil _
   ·exact eh.frame fun ar=>bL _ ar (Li x MD ki lH b2)
 ·by_cases ki:x=a
  ·subst ki;rw[aCU ni] at aE;simp only[if_true,if_neg (Ne.symm ni)];have:=h.lt aE Km;have:=Li y acm (Ne.symm ni) aE Km;rcases bC with e | e<;>omega
  ·rw[aCU (Ne.symm ki)] at al;simp only[if_neg ki];by_cases ya:y=a
   ·subst ya;simp only[if_true];have:=h.lt al pg;have:=Li x ws ki al pg;rcases bC with e | e<;>omega
   ·rw[aCU (Ne.symm ya)] at aE;simp only[if_neg ya];exact h.apart x y ws acm ni al aE pg Km
 ·by_cases ki:x=a
  ·subst ki;simp only[if_true];have:=VF c ak ax;rcases bC with e | e<;>omega
  ·rw[aCU (Ne.symm ki)] at al;simp only[if_neg ki];exact ax x ws al pg
def w3 (ids:List (List B)) (ops:List bJ) (m q a k:Nat) :Nat:=if k<m then (dR ops k).count (cw ids a) else if k=m then ((dR ops m).take q).count (cw ids a) else 0
structure uW (ids:List (List B)) (ops:List bJ) (m q:Nat) (cS:List (List Nat)) :Prop where
 len:cS.length=ops.length
 cnt:∀ (a:Nat) (row:List Nat),cS[a]? = some row->∀ k,row.count k=w3 ids ops m q a k
 DP:∀ (a:Nat) (row:List Nat),cS[a]? = some row->row.length<=5*m+q
theorem apj (ids:List (List B)) (ops:List bJ) :uW ids ops 0 0 (List.replicate ops.length []) :=by
 refine⟨by simp,fun a row h k=>?_,fun a row h=>?_⟩
 ·have:=aD9 (aCP h);subst this;simp[w3]
 ·have:=aD9 (aCP h);subst this;simp
theorem apk {ids:List (List B)} {ops:List bJ} (am:kK ids) (ar:ids.length=ops.length) {m q a:Nat} {cS:List (List Nat)} {row:List Nat} {p:List B} (h:uW ids ops m q cS) (aF:(dR ops m)[q]? = some p) (aD:ids[a]? = some p) (aC:cS[a]? = some row) :
  uW ids ops m (q+1) (cS.set a (row++[m])) :=by
 have om:=(aCJ.1 aC).1;have vy:=(aCJ.1 aD).1;have hC:(dR ops m).take (q+1)=(dR ops m).take q++[p] :=by rw[aC4,aF]; rfl
 refine⟨by simp[h.len],fun x ws al k=>?_,fun x ws al=>?_⟩
 ·by_cases ki:x=a
  ·subst ki;rw[aC3 om] at al;obtain rfl:=Option.some.inj al;rw[aEU,h.cnt x row aC k];unfold w3;by_cases h1:k<m
   ·rw[if_pos h1,if_pos h1,aE4];have:(m == k)=false:=by rw[beq_eq_false_iff_ne]; omega
    simp[this]
   ·rw[if_neg h1,if_neg h1];by_cases ag:k=m
    ·subst ag;rw[if_pos rfl,if_pos rfl,hC,aEU,iO aD]; simp
    ·rw[if_neg ag,if_neg ag,aE4];have:(m == k)=false:=by rw[beq_eq_false_iff_ne]; omega
     simp[this]
  ·rw[aCU (Ne.symm ki)] at al;rw[h.cnt x ws al k];unfold w3;by_cases h1:k<m
   ·rw[if_pos h1,if_pos h1]
   ·rw[if_neg h1,if_neg h1];by_cases ag:k=m
    ·subst ag;rw[if_pos rfl,if_pos rfl,hC,aEU,aE4];have bm:x<ids.length:=by rw[ar,<-h.len]; exact (aCJ.1 al).1
     have:(p == cw ids x)=false:=by
      rw[beq_eq_false_iff_ne];intro e;rw[<-iO aD] at e;exact ki (Oe am vy bm e).symm
     rw[this]; simp
    ·rw[if_neg ag,if_neg ag]
 ·by_cases ki:x=a
  ·subst ki;rw[aC3 om] at al;obtain rfl:=Option.some.inj al;have:=h.DP x row aC;simp; omega
  ·rw[aCU (Ne.symm ki)] at al;have:=h.DP x ws al;omega
theorem api {ids:List (List B)} {ops:List bJ} {m:Nat} {cS:List (List Nat)} (h:uW ids ops m (dR ops m).length cS) (aH:(dR ops m).length<=4) :uW ids ops (m+1) 0 cS:=by
 refine⟨h.len,fun a row aC k=>?_,fun a row aC=>by have:=h.DP a row aC; omega⟩;rw[h.cnt a row aC k];unfold w3;by_cases h1:k<m
 ·rw[if_pos h1,if_pos (by omega)]
 ·rw[if_neg h1];by_cases ag:k=m
  ·subst ag;rw[if_pos rfl,if_pos (by omega),aDi]
  ·rw[if_neg ag,if_neg (by omega)];by_cases aq:k=m+1
   ·rw[if_pos aq]; simp
   ·rw[if_neg aq]
theorem aph {ids:List (List B)} {ops:List bJ} {cS:List (List Nat)} (h:uW ids ops ops.length 0 cS) :HP ids ops cS:=by
 refine⟨h.len,fun a row aC k hk=>?_,fun a row aC k hk=>?_⟩
 ·rw[h.cnt a row aC k]; unfold w3; rw[if_pos hk]
 ·have h1:0<row.count k:=aFC.2 hk;rw[h.cnt a row aC k] at h1;unfold w3 at h1;by_cases ag:k<ops.length
  ·exact ag
  ·rw[if_neg ag] at h1;split at h1<;>simp at h1
def fx (ops:List bJ) (m:Nat) :List Int:=(List.range ops.length).map fun k=>if k<m then ((dR ops k).length:Int) else 0
def jF (ops:List bJ) (m:Nat) :List Nat:=(List.range m).filter fun k=>(dR ops k).isEmpty
theorem adl (ops:List bJ) (m:Nat) :(fx ops m).length=ops.length:=by simp[fx]
theorem HK {ops:List bJ} {m k:Nat} (h:k<ops.length) :(fx ops m)[k]? = some (if k<m then ((dR ops k).length:Int) else 0) :=by
 unfold fx; rw[aCO,aDN h]; rfl
theorem awu {ops:List bJ} {m:Nat} (h:m<ops.length) :(fx ops m).set m ((dR ops m).length:Int)=fx ops (m+1) :=by
 apply aDF;intro j;by_cases am:j<ops.length
 ·rw[HK am,aEg];by_cases UG:m=j
  ·subst UG;rw[if_pos rfl,if_pos (by rw[adl]; exact am),if_pos (by omega)]
  ·rw[if_neg UG,HK am];by_cases h1:j<m
   ·rw[if_pos h1,if_pos (by omega)]
   ·rw[if_neg h1,if_neg (by omega)]
 ·rw[aC0 (by simp[fx]; omega),aC0 (by simp[fx]; omega)]
theorem awt (ops:List bJ) :fx ops ops.length=(List.range ops.length).map fun k=>((dR ops k).length:Int) :=by
 unfold fx;apply aEy;intro k hk;rw[if_pos (aDw.1 hk)]
theorem awv (ops:List bJ) :fx ops 0=List.replicate ops.length 0:=by
 apply aDF;intro j;by_cases am:j<ops.length
 ·rw[HK am]; simp[am]
 ·rw[aC0 (by simp[fx]; omega),aC0 (by simp; omega)]
theorem abW (ops:List bJ) (m:Nat) :jF ops (m+1)=jF ops m++(if (dR ops m).isEmpty then [m] else []) :=by
 unfold jF;rw[aEw,aEe];congr 1;by_cases h:(dR ops m).isEmpty=true
 ·simp[h]
 ·simp[h]
def kx (n:Int) :ad:=.int .i64 n
theorem auG {l:List ad} {i:Nat} {x:ad} (h:i<l.length) :bO l i [x]=l.set i x:=by
 have:=oG (fun c:ad=>c) l i x h;simpa using this
def df (g:cR) (wl:List Int) (vs:List ad) (rest:aw) :aw:=.cells 2 [bc g.ids,c8 g.ops] ::.cells g.ops.l.length (wl.map kx) ::.cells g.ops.l.length vs::rest
theorem M1 {l:aw} {a b c:bp} (aG:l[0]? = some a) (h1:l[1]? = some b) (ag:l[2]? = some c) :∃ r,l=a::b::c::r:=by
 match l,aG,h1,ag with
 | fA::bK::c'::r,aG,h1,ag=>
  simp at aG h1 ag;subst aG h1 ag;exact⟨r,rfl⟩
theorem zZ {g:cR} {w w' : List Int} {vs HD:List ad} {r:aw}:∀ {b:Nat},3<=b->(df g w vs r)[b]? = (df g w' HD r)[b]?
 | 0,h=>by omega
 | 1,h=>by omega
 | 2,h=>by omega
 | b+3,_=>rfl
theorem Kr {g:cR} {w:List Int} {vs:List ad} {r x:aw} {b:Nat} (h:b<(df g w vs r).length) :(df g w vs (r++x))[b]? = (df g w vs r)[b]?:=by
 show ((df g w vs r)++x)[b]? = _;exact aCK h
structure adZ (g:cR) (m q:Nat) (eA:ad) (l:aw) :Prop where
 ex:∃ (vs:List ad) (cS:List (List Nat)) (en:Nat->Nat) (hQ:Nat) (rest:aw),l=df g (fx g.ops.l m) vs rest/\lT l vs cS en/\uW g.ids.l g.ops.l m q cS/\bW 1 l eA hQ ((jF g.ops.l m).map h2) ∧
  cX eA=(jF g.ops.l m).isEmpty/\(jF g.ops.l m=[]\/(3<=hQ/\oP cS en hQ))
structure adY (g:cR) (m q:Nat) (eA:ad) (b:Nat) (O:List ad) (l:aw) :Prop where
 ex:∃ (vs:List ad) (cS:List (List Nat)) (en:Nat->Nat) (hQ:Nat) (rest:aw),l=df g (fx g.ops.l m) vs rest/\lT l vs cS en/\uW g.ids.l g.ops.l m q cS/\bW 1 l eA hQ ((jF g.ops.l m).map h2) ∧
  cX eA=(jF g.ops.l m).isEmpty/\(jF g.ops.l m=[]\/(3<=hQ/\oP cS en hQ))/\l[b]? = some (.cells 11 O)/\3<=b/\oP cS en b
theorem AN {cS:List (List Nat)} {l:aw} {vs:List ad} {en:Nat->Nat} {c:Nat} (fu:lT l vs cS en) (ak:c<3) :oP cS en c:=fun a row aC b2=>by
 have aD:a<vs.length:=by rw[fu.oI]; exact (aCJ.1 aC).1
 have:=(fu.own a vs[a] row (aCM aD) aC).2.2.resolve_left b2;omega
theorem Dy {cS:List (List Nat)} {l:aw} {vs:List ad} {en:Nat->Nat} {c:Nat} (fu:lT l vs cS en) (ak:l.length<=c) :oP cS en c:=fun a row aC b2=>by
 have:=fu.lt aC b2;omega
structure rZ (g:cR) (vs:List ad) (cS:List (List Nat)) (en:Nat->Nat) (W:List Int) (R:List Nat) (eA:ad) (rest:aw) :Prop where
 ex:∃ hQ,lT (df g W vs rest) vs cS en/\bW 1 (df g W vs rest) eA hQ (R.map h2)/\cX eA=R.isEmpty/\(R=[]\/(3<=hQ/\oP cS en hQ))
theorem rZ.setW {g:cR} {vs:List ad} {cS:List (List Nat)} {en:Nat->Nat} {W tm:List Int} {R:List Nat} {eA:ad} {rest:aw} (h:rZ g vs cS en W R eA rest) :rZ g vs cS en tm R eA rest:=by
 obtain⟨hQ,fu,fR,lz,mw⟩:=h;refine⟨⟨hQ,fu.frame fun b ai ⟨a,uF,h1,ag,aq⟩=>zZ (aFo fun h=>AN fu h a uF h1 ag aq),?_,lz,mw⟩⟩;by_cases b2:R=[]
 ·subst b2;rw[jB.1 lz];exact .nil _
 ·exact fR.frame fun _=>zZ (mw.resolve_left b2).1
theorem rZ.push {g:cR} {vs:List ad} {cS:List (List Nat)} {en:Nat->Nat} {W:List Int} {R:List Nat} {eA:ad} {rest:aw} (h:rZ g vs cS en W R eA rest) (m:Nat) (eb:(R.length+1)*8<=c4) :
  ∃ bl gg,g8 (df g W vs (rest++[.cells 1 [.int .i64 (m:Int)]])) 1 8 eA (.av 1 (rest.length+3) 0 1 1 1)=some (bl,df g W vs gg)/\rZ g vs cS en W (R++[m]) bl gg:=by
 obtain⟨hQ,vt,Fk,lz,mw⟩:=h;obtain⟨hP,LG,iB,hq⟩:∃ hP,bW 1 (df g W vs (rest++[.cells 1 [.int .i64 (m:Int)]])) eA hP (R.map h2)/\3<=hP/\oP cS en hP:=by
  by_cases b2:R=[]
  ·subst b2;rw[jB.1 lz];exact⟨(df g W vs (rest++[.cells 1 [.int .i64 (m:Int)]])).length,.nil _,by simp[df],Dy vt (by simp[df])⟩
  ·exact⟨hQ,Fk.more _,(mw.resolve_left b2).1,(mw.resolve_left b2).2⟩
 obtain⟨rM,Lh,cf,aW,bg,bj,bL,bC,cv⟩:=oR (by_:=8) LG (x:=.av 1 (rest.length+3) 0 1 1 1) (xs:=[h2 m]) (by simp[dL,df,h2]) (by simp[h2]) (by omega) (by omega) (by simpa using eb);have Kd:(df g W vs (rest++[.cells 1 [.int .i64 (m:Int)]])).length=rest.length+4:=by simp[df]
 have FT:(df g W vs rest).length=rest.length+3:=by simp[df]
 obtain⟨gg,rfl⟩:∃ r,cf=df g W vs r:=M1 ((bL 0 (by omega) (by omega)).trans rfl) ((bL 1 (by omega) (by omega)).trans rfl) ((bL 2 (by omega) (by omega)).trans rfl);have KN:cX rM=false:=by
  cases aR:cX rM with
  | true=>have:=(cv.1 (jB.1 aR)).2; cases this
  | false=>rfl
 refine⟨rM,gg,aW,⟨⟨Lh,?_,?_,?_,.inr ⟨?_,?_⟩⟩⟩⟩
 ·exact vt.frame fun b ai ⟨a,uF,h1,ag,aq⟩=>(bL b (by omega) (fun e=>hq a uF h1 ag (by omega))).trans (Kr ai)
 ·rw[aDe]; exact bg
 ·rw[KN]; simp
 ·rcases bC with e | e<;>omega
 ·rcases bC with e | e
  ·rw[e]; exact hq
  ·exact Dy vt (by omega)
set_option maxHeartbeats 8000000 in
theorem aui (g:cR) (aA:ib g) (ar:g.ids.l.length=g.ops.l.length) (i9:g.ops.l.length<=60) (aH:∀ o∈g.ops.l,o.bN.l.length<=4) :bE Tryz.prog GS 96 [de g] (.int .i64 (n1 g.ids.l g.ops.l)) :=by
 refine bS Tryz.checked.mixed bP ?_;apply bw ah3 asL;unfold RJ abD;have l3:c4=140737488355328:=rfl;have dY:=eZ g.ids;have cQ:=ml g.ops;have jw:=EF g;have fY:c1 (.av 11) (c8 g.ops)=some (.int .i64 g.ops.l.length) :=by simp[c8]
 have jY:c1 (.av 32) (bc g.ids)=some (.int .i64 g.ops.l.length) :=by simp[bc,ar]
 simp[de,dK];refine c2 (g.ops.l.length - 1) (fun k ah l=>l=[.cells 2 [bc g.ids,c8 g.ops]]/\ah 1=.ptr 0 0 2/\ah 3=.int .i64 ((k+1:Nat) :Int)/\∀ j,j<k+1->j<g.ids.l.length->1<=j->cI (cw g.ids.l (j - 1)) (cw g.ids.l j)<0) ?_ ⟨by simp,by simp,by simp,fun j h1 _ ag=>by omega⟩;rintro k ah l hk ⟨rfl,aW,bj,ap⟩;obtain⟨ah,rfl⟩:=lS aW bj;clear aW bj;obtain⟨m,hm⟩:∃ m,m=k+1:=⟨_,rfl⟩
 rw[<-hm] at ap ⊢;unfold Xl;by_cases aP:m<g.ops.l.length
 ·obtain⟨x,al,dT⟩:=bV (l:=g.ids.l) (k:=k) (by omega);obtain⟨y,aE,b6⟩:=bV (l:=g.ids.l) (k:=m) (by omega);have a2:IntKind.i64.wrap ((m:Int) - 1)=(k:Int) :=by rw[IntKind.wrap_i64]; omega
  have b7:IntKind.i64.wrap ((m:Int)+1)=((m+1:Nat) :Int) :=by rw[IntKind.wrap_i64]; omega
  have h7:=iO al;have pl:=iO aE;have fO:cC (.av 32) (bc g.ids) (.int .i64 (k:Int))=some (.cm (a1 x) 0) :=by simp[bc,al]
  have Cw:cC (.av 32) (bc g.ids) (.int .i64 (m:Int))=some (.cm (a1 y) 0) :=by simp[bc,aE]
  have bm:=c3 (aA.ids x dT);have b8:=c3 (aA.ids y b6);have hs:=y9 x y (aA.ids x dT) (aA.ids y b6);unfold fL at hs;change bE Tryz.prog GS 149 [.aM (a1 x),.aM (a1 y)] _ at hs;have eu:=fK x;have h3:=fK y;obtain⟨X,ce⟩:∃ X,X=a1 x:=⟨_,rfl⟩
  obtain⟨Y,dB⟩:∃ Y,Y=a1 y:=⟨_,rfl⟩
  rw[<-ce] at fO bm hs eu;rw[<-dB] at Cw b8 hs h3;simp[jY,aP,a2,fO,Cw,bm,b8,aCI];refine a8 hs (by simp[a7,ad.closed,eu,h3]) ?_;by_cases ak:cI x y<0
  ·have fD:¬ (0<=cI x y) :=by omega
   simp[fD,b7];refine⟨by omega,fun j h1 ag aq=>?_⟩;have fp:cI (cw g.ids.l (j - 1)) (cw g.ids.l j)<0:=by
    by_cases am:j=m
    ·rw[am,show m - 1=k by omega,h7,pl]; exact ak
    ·exact ap j (by omega) ag aq
   simpa [cw] using fp
  ·have fD:0<=cI x y:=by omega
   simp[fD];refine aJ (congrArg (ad.int .i64) ?_) rfl;have fT:eH g.ids.l=false:=ab9 (k:=m) (by omega) (by omega) (by rw[show m - 1=k by omega,h7,pl]; exact ak);unfold n1;rw[fT]; rfl
 ·have aC:eH g.ids.l=true:=acb fun j h1 ag=>ap j (by omega) h1 ag
  have am:=sJ aC;obtain⟨br,_⟩:=GJ (z:=1) (by_:=8) (n:=g.ops.l.length) (k:=.i64) (k':=.i64) (zero:=[ad.int .i64 0]) (l:=[bp.cells 2 [bc g.ids,c8 g.ops]]) rfl (by omega) (by rw[l3]; omega);obtain⟨bI,_⟩:=GJ (z:=1) (by_:=24) (n:=g.ops.l.length) (k:=.i64) (k':=.i64) (zero:=[ad.aK]) (l:=[bp.cells 2 [bc g.ids,c8 g.ops],bp.cells g.ops.l.length (List.replicate g.ops.l.length (ad.int .i64 0))]) rfl (by omega) (by rw[l3]; omega);simp only[aEk,Mr (α:=Nat)] at br bI;simp[jY,fY,aP,br,bI];refine c2 g.ops.l.length (fun m ah l=>ah 1=.ptr 0 0 2/\ah 4=.av 1 1 0 g.ops.l.length g.ops.l.length g.ops.l.length/\ah 5=.av 1 2 0 g.ops.l.length g.ops.l.length g.ops.l.length/\ah 45=c8 g.ops/\ah 46=.int .i64 g.ops.l.length/\ah 47=.int .i64 m ∧
   adZ g m 0 (ah 6) l/\∀ i,i<m->tp g.ids.l (dR g.ops.l i)=true) ?_ ?_
  ·rintro m ah l hm ⟨aW,bL,bC,BU,BV,BW,gU,fS⟩;obtain⟨eA,cv⟩:∃ v,ah 6=v:=⟨_,rfl⟩
   rw[cv] at gU;obtain⟨ah,rfl⟩:=ac2 aW bL bC cv BU BV BW;clear aW bL bC cv BU BV BW;unfold Xn;by_cases pe:m<g.ops.l.length
   ·obtain⟨o,ax,e2⟩:=bV pe;have a2:IntKind.i64.wrap ((m:Int)+1)=((m+1:Nat) :Int) :=by rw[IntKind.wrap_i64]; omega
    have bZ:cC (.av 11) (c8 g.ops) (.int .i64 (m:Int))=some (.cm (bn o) 0) :=by simp[c8,ax]
    have k1:=aA.ops o e2;have hu:=aH o e2;have rk:dR g.ops.l m=o.bN.l:=yr ax;have pc:c1 (.av 32) (bc o.bN)=some (.int .i64 o.bN.l.length) :=by simp[bc]
    have sn:(bn o).length=11:=rfl;have ju:∀ h:1<(bn o).length,(bn o)[1]'h=bc o.bN:=fun _=>rfl
    obtain⟨O,eO⟩:∃ O,O=bn o:=⟨_,rfl⟩
    rw[<-eO] at bZ sn ju;have ng:bO [ad.int .u32 0,.aK,.int .u64 0,.int .u8 0,.str [],.int .u8 0,.int .i64 0,.int .u64 0,.str [],.int .u32 0,.int .u32 0] 0 O=O:=fM (by rw[sn]; rfl);simp[pe,bZ,sn,ju,pc,ng,aCI];obtain⟨yX,Fr⟩:∃ yX,yX=l.length:=⟨_,rfl⟩
    rw[<-Fr];refine c2 o.bN.l.length (fun q ah l=>ah 1=.ptr 0 0 2/\ah 4=.av 1 1 0 g.ops.l.length g.ops.l.length g.ops.l.length/\ah 5=.av 1 2 0 g.ops.l.length g.ops.l.length g.ops.l.length/\ah 6=eA/\ah 7=.int .i64 m/\ah 8=.ptr yX 0 11/\ah 45=c8 g.ops/\ah 46=.int .i64 g.ops.l.length/\ah 47=.int .i64 m ∧
     ah 53=bc o.bN/\ah 54=.int .i64 o.bN.l.length/\ah 55=.int .i64 q/\adY g m q eA yX O l/\∀ (j:Nat) (p:List B),j<q->o.bN.l[j]? = some p->p∈g.ids.l) ?_ ?_
    ·rintro q ah l bD ⟨aW,bL,bC,cv,eU,et,BU,BV,BW,S9,Ta,Tb,oj,l2⟩;obtain⟨ah,rfl⟩:=avz aW bL bC cv eU et BU BV BW S9 Ta Tb;clear aW bL bC cv eU et BU BV BW S9 Ta Tb;obtain⟨vs,cS,en,hQ,rest,rfl,fu,nJ,fR,lz,mw,ai,tP,oo⟩:=oj;unfold Xm;by_cases CR:q<o.bN.l.length
     ·obtain⟨p,aF,qj⟩:=bV CR;have b7:IntKind.i64.wrap ((q:Int)+1)=((q+1:Nat) :Int) :=by rw[IntKind.wrap_i64]; omega
      have o8:cC (.av 32) (bc o.bN) (.int .i64 (q:Int))=some (.cm (a1 p) 0) :=by simp[bc,aF]
      have UV:=k1.ids p qj;have bm:=c3 UV;have eu:=fK p;have zO:=SH g aA aC p UV;unfold de dK at zO jw;obtain⟨X,ce⟩:∃ X,X=a1 p:=⟨_,rfl⟩
      rw[<-ce] at o8 bm eu zO;have rm:bO (rep 32 (.int .u8 0)) 0 X=X:=fM (by rw[bm]; rfl);simp[df,CR,o8,bm,rm,aCI];refine a8 zO (by simp[a7,ad.closed,eu,dY,cQ]) ?_;by_cases vI:p∈g.ids.l
      ·obtain⟨kw,e9⟩:=aCY.1 vI;have ak5:=w4 aC e9;have ayz:=(aCJ.1 e9).1;have ayA:kw<g.ops.l.length:=by omega
       have mD:vs.length=g.ops.l.length:=by rw[fu.oI,nJ.len]
       obtain⟨iU,Ae,_⟩:=bV (l:=vs) (k:=kw) (by omega);obtain⟨row,cW,_⟩:=bV (l:=cS) (k:=kw) (by rw[nJ.len]; omega);obtain⟨l1,gW⟩:∃ l1,l1=df g (fx g.ops.l m) vs (rest++[.cells 32 X,.cells 1 [.int .i64 (m:Int)]]) :=⟨_,rfl⟩
       have Fg:lT l1 vs cS en:=by rw[gW]; exact fu.more _
       have Kb:l1.length=rest.length+5:=by rw[gW]; simp[df]
       have mC:=nJ.DP kw row cW;obtain⟨bl,cf,De,aW,bg,bj,bL,bC⟩:=Fg.app (b:=rest.length+4) (k:=m) Ae cW (by rw[gW]; simp[df]) (by omega) (by rw[l3]; omega);have gB:=bC 0 (by omega) (AN Fg (by omega));have q1:=bC 1 (by omega) (AN Fg (by omega));have fh:=bC 2 (by omega) (AN Fg (by omega));obtain⟨gg,rfl⟩:∃ r,cf=df g (fx g.ops.l m) vs r:=M1 (gB.1.trans (by rw[gW]; rfl)) (q1.1.trans (by rw[gW]; rfl)) (fh.1.trans (by rw[gW]; rfl));have FN:cC (.av 1) (.av 1 2 0 g.ops.l.length g.ops.l.length g.ops.l.length) (.int .i64 (kw:Int))=some (.ptr 2 kw g.ops.l.length) :=by
        simp only[cC];rw[if_pos ⟨trivial,by omega,by omega⟩];simp
       rw[gW] at aW;unfold df at aW;simp[vI,ak5,FN,Ae,aW];refine dx.c6 ?_;have F9:bO vs kw [bl]=vs.set kw bl:=auG (by omega);simp[df,bL,FN,F9,mD];have lD:∀ c,3<=c->c<(df g (fx g.ops.l m) vs rest).length->oP cS en c->(df g (fx g.ops.l m) (vs.set kw bl) gg)[c]? = (df g (fx g.ops.l m) vs rest)[c]?/\oP (cS.set kw (row++[m])) De c:=by
        intro c aq eB ax;obtain⟨cn,cc⟩:=bC c (by simp[df] at eB; omega) ax;exact⟨(zZ aq).trans (cn.trans (by rw[gW]; exact Kr eB)),cc⟩
       have J5:jF g.ops.l m≠[]->hQ<(df g (fx g.ops.l m) vs rest).length:=fun b2=>by
        rcases fR.lt with h | h
        ·rw[h] at lz;cases e0:jF g.ops.l m with
         | nil=>exact absurd e0 b2
         | cons=>rw[e0] at lz; cases lz
        ·exact h
       have fo:=(aCJ.1 ai).1;obtain⟨f1,f2⟩:=lD yX tP fo oo;refine⟨by omega,CR,by rw[IntKind.wrap_i64]; omega,⟨⟨vs.set kw bl,cS.set kw (row++[m]),De,hQ,gg,rfl,?_,apk am ar nJ (by rw[rk]; exact aF) e9 cW,?_,lz,?_,f1.trans ai,tP,f2⟩⟩,fun j ch fp gX=>?_⟩
       ·exact bg.frame fun b ai ⟨a,uF,h1,ag,aq⟩=>by
         have aH:3<=b:=aFo fun h=>AN bg h a uF h1 ag aq
         exact zZ aH
       ·by_cases b2:jF g.ops.l m=[]
        ·rw[b2] at lz fR ⊢;rw[jB.1 lz];exact .nil _
        ·obtain⟨h1,ag⟩:=mw.resolve_left b2;exact fR.frame fun h=>(lD hQ h1 (J5 b2) ag).1
       ·by_cases b2:jF g.ops.l m=[]
        ·exact .inl b2
        ·obtain⟨h1,ag⟩:=mw.resolve_left b2;exact .inr ⟨h1,(lD hQ h1 (J5 b2) ag).2⟩
       ·by_cases alO:j=q
        ·subst alO; rw[aF] at gX; obtain rfl:=Option.some.inj gX; exact vI
        ·exact l2 j ch (by omega) gX
      ·simp[vI];refine aJ (congrArg (ad.int .i64) ?_) rfl;have fT:¬ wd g.ids.l g.ops.l=true:=fun h=>by
        have:=of_decide_eq_true h o e2;exact vI (of_decide_eq_true this p qj)
       unfold n1;rw[if_pos aC,if_neg fT]
     ·have qk:q=o.bN.l.length:=by omega
      rw[qk] at nJ;rw[<-rk] at nJ;have Tv:=api nJ (by rw[rk]; exact hu);have mD:vs.length=g.ops.l.length:=by rw[fu.oI,nJ.len]
      have U4:e4 (df g (fx g.ops.l m) vs rest) (.ptr yX 1 11)=some (O,1) :=by simp only[e4,ai]; rfl
      have Cu:cC (.av 1) (.av 1 1 0 g.ops.l.length g.ops.l.length g.ops.l.length) (.int .i64 (m:Int))=some (.ptr 1 m g.ops.l.length) :=by
       simp only[cC];rw[if_pos ⟨trivial,by omega,by omega⟩];simp
      have KG:kI 1 (df g (fx g.ops.l m) vs rest) (.ptr 1 m g.ops.l.length) (.int .i64 o.bN.l.length)=some (df g (fx g.ops.l (m+1)) vs rest) :=by
       have h1:(df g (fx g.ops.l m) vs rest)[1]? = some (.cells g.ops.l.length ((fx g.ops.l m).map kx)) :=rfl;simp only[kI,ad.cells,h1];rw[if_pos (by simp; omega)];have ag:bO ((fx g.ops.l m).map kx) m [ad.int .i64 o.bN.l.length]=(fx g.ops.l (m+1)).map kx:=by
        rw[<-awu pe,rk];exact oG kx (fx g.ops.l m) m _ (by rw[adl]; exact pe)
       rw[ag]; rfl
      have CT:e4 (df g (fx g.ops.l (m+1)) vs rest) (.ptr 1 m g.ops.l.length)=some ((fx g.ops.l (m+1)).map kx,m) :=by
       have h1:(df g (fx g.ops.l (m+1)) vs rest)[1]? = some (.cells g.ops.l.length ((fx g.ops.l (m+1)).map kx)) :=rfl;simp only[e4,h1]; simp
      have FL:((fx g.ops.l (m+1)).map kx)[m]? = some (.int .i64 o.bN.l.length) :=by
       rw[aCO,HK pe,if_pos (by omega),rk]; rfl
      have ayR:∀ h:m<((fx g.ops.l (m+1)).map kx).length,((fx g.ops.l (m+1)).map kx)[m]'h=.int .i64 o.bN.l.length:=fun h=>(aCJ.1 FL).2
      have Tu:O[1]? = some (bc o.bN) :=by rw[aCM (by rw[sn]; omega),ju]
      have vt:lT (df g (fx g.ops.l (m+1)) vs rest) vs cS en:=fu.frame fun b ai ⟨a,uF,h1,ag,aq⟩=>zZ (aFo fun h=>AN fu h a uF h1 ag aq)
      have Fk:bW 1 (df g (fx g.ops.l (m+1)) vs rest) eA hQ ((jF g.ops.l m).map h2) :=by
       by_cases b2:jF g.ops.l m=[]
       ·rw[b2] at lz ⊢;rw[jB.1 lz];exact .nil _
       ·exact fR.frame fun _=>zZ (mw.resolve_left b2).1
      have Fp:∀ i,i<m+1->tp g.ids.l (dR g.ops.l i)=true:=fun i aB=>by
       by_cases alG:i=m
       ·subst alG;rw[rk];refine decide_eq_true fun p aF=>?_
        obtain⟨j,fp⟩:=aCY.1 aF;exact l2 j p (by rw[qk]; exact (aCJ.1 fp).1) fp
       ·exact fS i (by omega)
      by_cases az:o.bN.l.length=0
      ·have alY:c1 (.av 32) (bc o.bN)=some (.int .i64 0) :=by rw[pc,az]; rfl
       have amR:kI 1 (df g (fx g.ops.l m) vs rest) (.ptr 1 m g.ops.l.length) (.int .i64 0)=some (df g (fx g.ops.l (m+1)) vs rest) :=by rw[az] at KG; exact KG
       have alw:((fx g.ops.l (m+1)).map kx)[m]? = some (.int .i64 0) :=by rw[az] at FL; exact FL
       have ql:jF g.ops.l (m+1)=jF g.ops.l m++[m] :=by
        rw[abW,rk,aDk.1 az]; rfl
       obtain⟨hP,LG,iB,hq⟩:∃ hP,bW 1 (df g (fx g.ops.l (m+1)) vs (rest++[.cells 1 [.int .i64 (m:Int)]])) eA hP ((jF g.ops.l m).map h2)/\3<=hP/\oP cS en hP:=by
        by_cases b2:jF g.ops.l m=[]
        ·rw[b2] at lz ⊢;rw[jB.1 lz];exact⟨(df g (fx g.ops.l (m+1)) vs (rest++[.cells 1 [.int .i64 (m:Int)]])).length,.nil _,by simp[df],Dy vt (by simp[df])⟩
        ·exact⟨hQ,Fk.more _,(mw.resolve_left b2).1,(mw.resolve_left b2).2⟩
       have mC:(jF g.ops.l m).length<=m:=by
        have:=aEa (fun k=>(dR g.ops.l k).isEmpty) (List.range m);simpa [jF] using this
       obtain⟨rM,Lh,cf,aW,bg,bj,bL,bC,cv⟩:=oR (by_:=8) LG (x:=.av 1 (rest.length+3) 0 1 1 1) (xs:=[h2 m]) (by simp[dL,df,h2]) (by simp[h2]) (by omega) (by omega) (by rw[l3]; simp; omega);have Kd:(df g (fx g.ops.l (m+1)) vs (rest++[.cells 1 [.int .i64 (m:Int)]])).length=rest.length+4:=by simp[df]
       obtain⟨gg,rfl⟩:∃ r,cf=df g (fx g.ops.l (m+1)) vs r:=M1 ((bL 0 (by omega) (by omega)).trans rfl) ((bL 1 (by omega) (by omega)).trans rfl) ((bL 2 (by omega) (by omega)).trans rfl);have Kv:df g (fx g.ops.l (m+1)) vs rest++[bp.cells 1 [.int .i64 (m:Int)]]=df g (fx g.ops.l (m+1)) vs (rest++[.cells 1 [.int .i64 (m:Int)]]) :=rfl;have FT:(df g (fx g.ops.l (m+1)) vs rest).length=rest.length+3:=by simp[df]
       simp[CR,U4,Tu,alY,Cu,amR,CT,alw,Kv,FT,aW];refine dx.c6 ?_;simp;have KN:cX rM=false:=by
        cases aR:cX rM with
        | true=>have:=(cv.1 (jB.1 aR)).2; cases this
        | false=>rfl
       refine⟨pe,by rw[IntKind.wrap_i64]; omega,⟨⟨vs,cS,en,Lh,gg,rfl,?_,Tv,?_,?_,.inr ⟨?_,?_⟩⟩⟩,Fp⟩
       ·exact vt.frame fun b ai ⟨a,uF,h1,ag,aq⟩=>(bL b (by omega) (fun e=>hq a uF h1 ag (by omega))).trans (Kr ai)
       ·rw[ql,aDe]; exact bg
       ·rw[KN,ql]; simp
       ·rcases bC with e | e<;>omega
       ·rcases bC with e | e
        ·rw[e]; exact hq
        ·exact Dy vt (by omega)
      ·have ql:jF g.ops.l (m+1)=jF g.ops.l m:=by
        rw[abW,rk];have:o.bN.l.isEmpty=false:=by cases e0:o.bN.l with | nil=>rw[e0] at az; exact absurd rfl az | cons=>rfl
        rw[this]; simp
       simp[CR,U4,Tu,pc,Cu,KG,CT,FL,az];exact⟨pe,by rw[IntKind.wrap_i64]; omega,⟨⟨vs,cS,en,hQ,rest,rfl,vt,Tv,by rw[ql]; exact Fk,by rw[ql]; exact lz,by rw[ql]; exact mw⟩⟩,Fp⟩
    ·simp;obtain⟨vs,cS,en,hQ,rest,rfl,fu,nJ,fR,lz,mw⟩:=gU;refine⟨⟨vs,cS,en,hQ,rest++[.cells 11 O],rfl,fu.more _,nJ,fR.more _,lz,mw,by rw[Fr,aCT (aCL _)]; simp,by rw[Fr]; simp[df],Dy fu (by rw[Fr]; exact aCL _)⟩⟩
   ·have jf:m=g.ops.l.length:=by omega
    subst jf;obtain⟨vs,cS,en,anP,atM,rfl,Ff,nJ,mv,akA,akz⟩:=gU;have Ji:=aph nJ;have mD:vs.length=g.ops.l.length:=by rw[Ff.oI,nJ.len]
    have gN:wd g.ids.l g.ops.l=true:=decide_eq_true fun o e2=>by
     obtain⟨j,fp⟩:=aCY.1 e2;have:=fS j (aCJ.1 fp).1
     rwa [yr fp] at this
    have Ts:=an7 (ids:=g.ids.l) (ops:=g.ops.l) ar;rw[<-awt] at Ts;have akB:rZ g vs cS en (fx g.ops.l g.ops.l.length) (jF g.ops.l g.ops.l.length) eA atM:=⟨⟨anP,Ff,mv,akA,akz⟩⟩
    simp;refine c2 g.ops.l.length (fun d ah l=>ah 1=.ptr 0 0 2/\ah 4=.av 1 1 0 g.ops.l.length g.ops.l.length g.ops.l.length/\ah 5=.av 1 2 0 g.ops.l.length g.ops.l.length g.ops.l.length/\ah 13=.int .i64 d ∧
     ∃ W R rest,l=df g W vs rest/\rZ g vs cS en W R (ah 6) rest/\rX g.ids.l g.ops.l [] d 0 R W) ?_ ?_
    ·rintro d ah l bX ⟨aW,bL,bC,jt,W,R,rest,rfl,gU,bA⟩;obtain⟨eA,cv⟩:∃ v,ah 6=v:=⟨_,rfl⟩
     rw[cv] at gU;obtain⟨ah,rfl⟩:=mR aW bL bC cv jt;clear aW bL bC cv jt;unfold Xp;have Jt:c1 (.av 1) eA=some (.int .i64 R.length) :=by obtain⟨hQ,_,fR,_⟩:=gU; have:=fR.len; simpa using this
     have lz:R.length<=g.ops.l.length:=by
      have:=uJ (b:=List.range g.ops.l.length) bA.md fun x al=>aDw.2 (bA.oX x al).1
      simpa using this
     by_cases p5:d<R.length
     ·obtain⟨a,aD,TI⟩:=bV p5;have akI:=(bA.oX a TI).1;have a2:IntKind.i64.wrap ((d:Int)+1)=((d+1:Nat) :Int) :=by rw[IntKind.wrap_i64]; omega
      obtain⟨row,cW,_⟩:=bV (l:=cS) (k:=a) (by rw[nJ.len]; exact akI);obtain⟨iU,Ae,_⟩:=bV (l:=vs) (k:=a) (by omega);obtain⟨hQ,fu,fR,Tw,mw⟩:=gU;obtain⟨L0,y2,Bd,dE,dA,iD,kQ⟩:=fR.q.get (k:=.i64) (i:=d) (e:=h2 a) (by rw[aCO,aD]; rfl);have qS:=one_cell (c:=.int .i64 (a:Int)) kQ;have FN:cC (.av 1) (.av 1 2 0 g.ops.l.length g.ops.l.length g.ops.l.length) (.int .i64 (a:Int))=some (.ptr 2 a g.ops.l.length) :=by
       simp only[cC];rw[if_pos ⟨trivial,by omega,by omega⟩];simp
      have CU:∀ tm me,e4 (df g tm vs me) (.ptr 2 a g.ops.l.length)=some (vs,a) :=fun tm me=>by
       have h1:(df g tm vs me)[2]? = some (.cells g.ops.l.length vs) :=rfl;simp only[e4,h1]; simp
      have KO:=(fu.own a iU row Ae cW).1;have amY:c1 (.av 1) iU=some (.int .i64 row.length) :=by have:=KO.len; simpa using this
      have mC:=nJ.DP a row cW;simp[Jt,p5,dE,dA,qS,FN,CU,Ae,amY];refine c2 row.length (fun j ah l=>ah 1=.ptr 0 0 2/\ah 4=.av 1 1 0 g.ops.l.length g.ops.l.length g.ops.l.length/\ah 5=.av 1 2 0 g.ops.l.length g.ops.l.length g.ops.l.length/\ah 13=.int .i64 d/\ah 106=iU/\ah 107=.int .i64 row.length/\ah 108=.int .i64 j ∧
       ∃ W R rest,l=df g W vs rest/\rZ g vs cS en W R (ah 6) rest/\rX g.ids.l g.ops.l row d j R W/\R[d]? = some a) ?_ ?_
      ·rintro j ah l J5 ⟨aW,bL,bC,jt,S0,S1,S2,W,R,rest,rfl,gU,bA,aD⟩;obtain⟨eA,cv⟩:∃ v,ah 6=v:=⟨_,rfl⟩
       rw[cv] at gU;obtain⟨ah,rfl⟩:=avA aW bL bC cv jt S0 S1 S2;clear aW bL bC cv jt S0 S1 S2;unfold Xo;by_cases eW:j<row.length
       ·obtain⟨k,hk,rf⟩:=bV eW;have iM:=Ji.lt a row cW k rf;obtain⟨x,al,Ak,azg,B8⟩:=an8 ar am Ji bA aD cW hk;have azh:(dR g.ops.l k).length<=4:=by
         obtain⟨eh,ev,amn⟩:=bV iM;rw[yr ev]; exact aH eh amn
        have a2:IntKind.i64.wrap ((j:Int)+1)=((j+1:Nat) :Int) :=by rw[IntKind.wrap_i64]; omega
        have b7:IntKind.i64.wrap (x - 1)=x - 1:=by rw[IntKind.wrap_i64]; omega
        obtain⟨hQ,fu,fR,Tw,mw⟩:=id gU;have KO:=(fu.own a iU row Ae cW).1;obtain⟨L0,y2,Bd,dE,dA,iD,kQ⟩:=KO.q.get (k:=.i64) (i:=j) (e:=h2 k) (by rw[aCO,hk]; rfl);have qS:=one_cell (c:=.int .i64 (k:Int)) kQ;have Cu:cC (.av 1) (.av 1 1 0 g.ops.l.length g.ops.l.length g.ops.l.length) (.int .i64 (k:Int))=some (.ptr 1 k g.ops.l.length) :=by
         simp only[cC];rw[if_pos ⟨trivial,by omega,by omega⟩];simp
        have vv:=bA.wl;have CT:e4 (df g W vs rest) (.ptr 1 k g.ops.l.length)=some (W.map kx,k) :=by
         have h1:(df g W vs rest)[1]? = some (.cells g.ops.l.length (W.map kx)) :=rfl;simp only[e4,h1]; simp
        have eK:(W.map kx)[k]? = some (.int .i64 x) :=by rw[aCO,al]; rfl
        have cL:kI 1 (df g W vs rest) (.ptr 1 k g.ops.l.length) (.int .i64 (x - 1))=some (df g (W.set k (x - 1)) vs rest) :=by
         have h1:(df g W vs rest)[1]? = some (.cells g.ops.l.length (W.map kx)) :=rfl;simp only[kI,ad.cells,h1];rw[if_pos (by simp; omega)];have ag:bO (W.map kx) k [ad.int .i64 (x - 1)]=(W.set k (x - 1)).map kx:=oG kx W k _ (by omega);rw[ag]; rfl
        have CU:e4 (df g (W.set k (x - 1)) vs rest) (.ptr 1 k g.ops.l.length)=some ((W.set k (x - 1)).map kx,k) :=by
         have h1:(df g (W.set k (x - 1)) vs rest)[1]? = some (.cells g.ops.l.length ((W.set k (x - 1)).map kx)) :=rfl;simp only[e4,h1]; simp
        have FK:((W.set k (x - 1)).map kx)[k]? = some (.int .i64 (x - 1)) :=by rw[aCO,aC3 (by omega)]; rfl
        have Ju:rZ g vs cS en (W.set k (x - 1)) R eA rest:=gU.setW;obtain⟨hY,akD⟩:∃ hY,hY=W.set k (x - 1) :=⟨_,rfl⟩
        rw[<-akD] at cL CU FK Ju B8;by_cases az:x - 1=0
        ·rw[if_pos az] at B8;have dG:IntKind.i64.wrap (x - 1)=0:=by rw[b7]; exact az
         rw[az] at cL FK;have ayu:R.length<=g.ops.l.length:=by
          have:=uJ (b:=List.range g.ops.l.length) bA.md fun x al=>aDw.2 (bA.oX x al).1
          simpa using this
         obtain⟨bl,gg,ux,uy⟩:=Ju.push k (by rw[l3]; omega);have Kv:df g hY vs rest++[bp.cells 1 [.int .i64 (k:Int)]]=df g hY vs (rest++[.cells 1 [.int .i64 (k:Int)]]) :=rfl;have FT:(df g hY vs rest).length=rest.length+3:=by simp[df]
         simp[eW,dE,dA,qS,Cu,CT,eK,dG,cL,CU,FK,Kv,FT,ux];refine dx.c6 ?_;simp[eW,a2];exact⟨hY,R++[k],gg,rfl,uy,B8,by rw[aCK (aCJ.1 aD).1]; exact aD⟩
        ·rw[if_neg az] at B8;simp[eW,dE,dA,qS,Cu,CT,eK,b7,cL,CU,FK,az,a2];exact⟨hY,R,rest,rfl,Ju,B8,aD⟩
       ·have alN:j=row.length:=by omega
        subst alN;simp[eW];exact⟨by omega,by rw[IntKind.wrap_i64]; omega,W,R,rest,rfl,gU,an5 Ji bA aD cW⟩
      ·simp;exact⟨W,R,rest,rfl,⟨⟨hQ,fu,fR,Tw,mw⟩⟩,an6 bA,aD⟩
     ·have alc:d=R.length:=by have:=bA.dl; omega
      subst alc;obtain⟨iB,hq⟩:=an4 ar am bA;by_cases pd:R.length<g.ops.l.length
      ·simp[Jt,p5,df,fY,pd];refine aJ (congrArg (ad.int .i64) ?_) rfl;unfold n1;rw[if_pos aC,if_pos gN,if_neg (fun h=>by have:=hq.2 h; omega)]
      ·simp[Jt,p5,df,fY,pd];refine aJ (congrArg (ad.int .i64) ?_) rfl;unfold n1;rw[if_pos aC,if_pos gN,if_pos (hq.1 (by omega))]
    ·simp;exact⟨_,_,_,rfl,akB,Ts⟩
  ·simp;refine⟨⟨List.replicate g.ops.l.length .aK,List.replicate g.ops.l.length [],fun _=>0,0,[],?_,⟨by simp,fun a v row ay amG=>?_,fun a b mN nX _ aD _ Kj _=>?_⟩,apj _ _,.nil _,rfl,.inl rfl⟩⟩
   ·unfold df; rw[awv,List.map_replicate]; rfl
   ·have h1:=aD9 (aCP ay);have ag:=aD9 (aCP amG);subst h1 ag;exact⟨.nil _,rfl,.inl rfl⟩
   ·exact absurd (aD9 (aCP aD)) Kj
set_option maxHeartbeats 4000000 in
theorem Np (g:cR) (aA:ib g) :bE Tryz.prog GS 52 [de g] (.int .i64 (gR g)) :=by
 refine bS Tryz.checked.mixed bP ?_;apply bw ahs asa;unfold Q8 aa1;have dY:=eZ g.ids;have cQ:=ml g.ops;have jw:=EF g;have fY:c1 (.av 11) (c8 g.ops)=some (.int .i64 g.ops.l.length) :=by simp[c8]
 have jY:c1 (.av 32) (bc g.ids)=some (.int .i64 g.ids.l.length) :=by simp[bc]
 have bu:=aA.dn;by_cases i9:60<(g.ops.l.length:Int)
 ·simp[de,dK,fY,i9];refine aJ (congrArg (ad.int .i64) ?_) rfl;unfold gR; rw[if_pos (by omega)]
 by_cases ar:g.ids.l.length=g.ops.l.length
 ·have dN:(g.ids.l.length:Int)=(g.ops.l.length:Int) :=by omega
  simp[de,dK,fY,jY,i9,dN];refine c2 g.ops.l.length (fun k ah l=>(∃ rest,l=.cells 2 [bc g.ids,c8 g.ops] ::rest)/\ah 1=.ptr 0 0 2/\ah 19=c8 g.ops/\ah 20=.int .i64 g.ops.l.length/\ah 21=.int .i64 k/\∀ j,j<k->m1 g j=true) ?_ (by simp);rintro k ah l hk ⟨⟨rest,rfl⟩,aW,tF,S5,tG,ap⟩;obtain⟨ah,rfl⟩:=hW aW tF S5 tG;clear aW tF S5 tG;unfold W2;by_cases dt:k<g.ops.l.length
  ·obtain⟨o,ax,e2⟩:=bV dt;obtain⟨x,al,dT⟩:=bV (l:=g.ids.l) (k:=k) (by omega);have eC:=E3 ax al;have a2:IntKind.i64.wrap ((k:Int)+1)=((k+1:Nat) :Int) :=by rw[IntKind.wrap_i64]; omega
   have bZ:cC (.av 11) (c8 g.ops) (.int .i64 (k:Int))=some (.cm (bn o) 0) :=by simp[c8,ax]
   have xP:cC (.av 32) (bc g.ids) (.int .i64 (k:Int))=some (.cm (a1 x) 0) :=by simp[bc,al]
   have ay:=awc o (aA.ops o e2);have iK:=Nq o (aA.ops o e2);change bE Tryz.prog GS 94 [.aM (bn o)] (.b5 [.aM (a1 (db o)),.int .i64 (fZ o)]) at iK;have oq:=i6 o;have bm:=c3 (aA.ids x dT);have B7:=c3 (KU o);have cH:(bn o).length=11:=rfl;have heq:=C9 (KU o) (aA.ids x dT);have q4:¬ m1 g k=true->gR g=8:=fun h=>by
    unfold gR;rw[if_neg (by omega),if_pos ar,if_neg fun aR=>h ((zt g).1 aR k dt)]
   obtain⟨O,eO⟩:∃ O,O=bn o:=⟨_,rfl⟩
   obtain⟨X,ce⟩:∃ X,X=a1 x:=⟨_,rfl⟩
   obtain⟨I,q3⟩:∃ I,I=a1 (db o) :=⟨_,rfl⟩
   rw[<-eO] at bZ ay iK oq cH;rw[<-ce] at xP bm heq;rw[<-q3] at iK heq B7;have ng:bO [ad.int .u32 0,.aK,.int .u64 0,.int .u8 0,.str [],.int .u8 0,.int .i64 0,.int .u64 0,.str [],.int .u32 0,.int .u32 0] 0 O=O:=fM (by rw[cH]; rfl);have KF:bO (rep 32 (.int .u8 0)) 0 I=I:=fM (by rw[B7]; rfl);simp[dt,bZ,cH,ng,aCI];refine a8 iK (by simp[a7,ad.closed,oq]) ?_;by_cases aG:fZ o=0
   ·by_cases fO:db o=x
    ·simp[aG,B7,KF,xP,bm,heq,fO,cH,aCI];refine a8 ay (by simp[a7,ad.closed,oq]) ?_;by_cases pj:rO o=0
     ·simp[pj,dt,a2];intro j am;by_cases eL:j=k
      ·subst eL; rw[eC]; simp[pj,fO]
      ·exact ap j (by omega)
     ·have ai:¬ m1 g k=true:=fun h=>by rw[eC] at h; simp[pj] at h
      simp[pj];exact aJ (congrArg (ad.int .i64) (q4 ai).symm) rfl
    ·have ai:¬ m1 g k=true:=fun h=>by rw[eC] at h; simp[fO] at h
     simp[aG,B7,KF,xP,bm,heq,fO,cH,aCI];exact aJ (congrArg (ad.int .i64) (q4 ai).symm) rfl
   ·have ai:¬ m1 g k=true:=fun h=>by
     rw[eC,aCQ,decide_eq_true_eq] at h;exact aG (Nn h.1)
    simp[aG,B7,KF,xP,bm,heq,cH,aCI];exact aJ (congrArg (ad.int .i64) (q4 ai).symm) rfl
  ·have lE:k=g.ops.l.length:=by omega
   have fS:xj g=true:=(zt g).2 fun j am=>ap j (by omega)
   have aH:∀ o∈g.ops.l,o.bN.l.length<=4:=fun o e2=>by
    obtain⟨j,am⟩:=aCY.1 e2;obtain⟨x,al,_⟩:=bV (l:=g.ids.l) (k:=j) (by have:=(aCJ.1 am).1; omega);have h1:=(zt g).1 fS j (aCJ.1 am).1;rw[E3 am al,aCQ,decide_eq_true_eq] at h1;exact wc (Nn h1.1)
   have pi:=aui g aA ar (by omega) aH;unfold de dK at pi jw;simp[dt];refine a8 pi (by simp[a7,jw]) ?_;simp;refine aJ (congrArg (ad.int .i64) ?_) rfl;unfold gR;rw[if_neg (by omega),if_pos ar,if_pos fS]
 ·have dN:¬ (g.ids.l.length:Int)=(g.ops.l.length:Int) :=by omega
  simp[de,dK,fY,jY,i9,dN];refine aJ (congrArg (ad.int .i64) ?_) rfl;unfold gR; rw[if_neg (by omega),if_neg ar]
def tK (o:bJ) :Bool:=decide (20<o.bN.l.length)||(decide (100<o.act.key.length)||decide (100<o.act.val.text.length))
theorem asV (o:bJ) :bE Tryz.prog GS 38 [.aM (bn o)] (.bool (tK o)) :=by
 refine bS Tryz.checked.mixed bP ?_;apply bw ahg arY;unfold QX aaQ tK;have pc:c1 (.av 32) (bc o.bN)=some (.int .i64 o.bN.l.length) :=by simp[bc]
 by_cases h1:20<o.bN.l.length
 ·have du:(20:Int)<(o.bN.l.length:Int) :=by omega
  simp[bn,pc,h1,du];exact aJ rfl rfl
 ·have du:¬ (20:Int)<(o.bN.l.length:Int) :=by omega
  by_cases ag:100<o.act.key.length
  ·have eV:(100:Int)<(o.act.key.length:Int) :=by omega
   simp[bn,pc,h1,du,ag,eV];exact aJ rfl rfl
  ·have eV:¬ (100:Int)<(o.act.key.length:Int) :=by omega
   simp[bn,pc,h1,du,ag,eV];refine aJ (congrArg ad.bool ?_) rfl;by_cases aq:100<o.act.val.text.length
   ·have mu:(100:Int)<(o.act.val.text.length:Int) :=by omega
    simp[aq,mu]
   ·have mu:¬ (100:Int)<(o.act.val.text.length:Int) :=by omega
    simp[aq,mu]
def vp (g:cR) :Bool:=decide (∃ o∈g.ops.l.take 71,tK o=true)||(decide (16<g.ops.l.length/\g.ops.l.length<=60)||(decide (70<g.ops.l.length)||decide (70<g.ids.l.length)))
theorem asU (g:cR) :bE Tryz.prog GS 10 [de g] (.bool (vp g)) :=by
 refine bS Tryz.checked.mixed bP ?_;apply bw afb apR;unfold OE YB;have fY:c1 (.av 11) (c8 g.ops)=some (.int .i64 g.ops.l.length) :=by simp[c8]
 have jY:c1 (.av 32) (bc g.ids)=some (.int .i64 g.ids.l.length) :=by simp[bc]
 simp[de,dK];refine c2 (min g.ops.l.length 71) (fun k ah l=>l=[.cells 2 [bc g.ids,c8 g.ops]]/\ah 1=.ptr 0 0 2/\ah 3=.int .i64 k/\∀ (j:Nat) (o:bJ),j<k->g.ops.l[j]? = some o->tK o=false) ?_ (by simp);rintro k ah l hk ⟨rfl,aW,bj,ap⟩;obtain⟨ah,rfl⟩:=lS aW bj;clear aW bj;unfold VZ;by_cases dt:k<g.ops.l.length
 ·by_cases Ur:k<=70
  ·obtain⟨o,ax,e2⟩:=bV dt;have a2:IntKind.i64.wrap ((k:Int)+1)=((k+1:Nat) :Int) :=by rw[IntKind.wrap_i64]; omega
   have bZ:cC (.av 11) (c8 g.ops) (.int .i64 (k:Int))=some (.cm (bn o) 0) :=by simp[c8,ax]
   have ay:=asV o;have oq:=i6 o;have cH:(bn o).length=11:=rfl;have J7:(k:Int)<=70:=by omega
   have rf:k<min g.ops.l.length 71:=by omega
   obtain⟨O,eO⟩:∃ O,O=bn o:=⟨_,rfl⟩
   rw[<-eO] at bZ ay oq cH;simp[fY,dt,Ur,J7,bZ,cH,aCI];refine a8 ay (by simp[a7,ad.closed,oq]) ?_;by_cases o7:tK o=true
   ·simp[o7];refine aJ (congrArg ad.bool ?_) rfl;unfold vp;rw[decide_eq_true ⟨o,aCP (i:=k) (by rw[aCW (by omega)]; exact ax),o7⟩]; rfl
   ·rw[aE3] at o7;simp[o7,a2];refine⟨by omega,fun j eh am ev=>?_⟩;by_cases eL:j=k
    ·subst eL; rw[ax] at ev; obtain rfl:=Option.some.inj ev; exact o7
    ·exact ap j eh (by omega) ev
  ·have J7:¬ (k:Int)<=70:=by omega
   have aI:¬ ∃ o∈g.ops.l.take 71,tK o=true:=fun ⟨o,e2,o7⟩=>by
    obtain⟨j,am⟩:=aCY.1 e2;have eW:=(aCJ.1 am).1;rw[aCX] at eW;rw[aCW (by omega)] at am;rw[ap j o (by omega) am] at o7; cases o7
   have br:(16:Int)<(g.ops.l.length:Int) :=by omega
   have bI:¬ (g.ops.l.length:Int)<=60:=by omega
   have a3:(70:Int)<(g.ops.l.length:Int) :=by omega
   simp[fY,jY,dt,Ur,J7,br,bI,a3];refine aJ (congrArg ad.bool ?_) rfl;unfold vp;simp[show 70<g.ops.l.length by omega]
 ·have aI:¬ ∃ o∈g.ops.l.take 71,tK o=true:=fun ⟨o,e2,o7⟩=>by
   obtain⟨j,am⟩:=aCY.1 e2;have eW:=(aCJ.1 am).1;rw[aCX] at eW;rw[aCW (by omega)] at am;rw[ap j o (by omega) am] at o7; cases o7
  have Cr:vp g=(decide (16<g.ops.l.length/\g.ops.l.length<=60)||(decide (70<g.ops.l.length)||decide (70<g.ids.l.length))) :=by
   unfold vp; rw[decide_eq_false aI]; rfl
  rw[Cr];have d1:decide ((16:Int)<(g.ops.l.length:Int))=decide (16<g.ops.l.length) :=by rw[decide_eq_decide]; omega
  have d2:decide ((g.ops.l.length:Int)<=60)=decide (g.ops.l.length<=60) :=by rw[decide_eq_decide]; omega
  have d3:decide ((70:Int)<(g.ops.l.length:Int))=decide (70<g.ops.l.length) :=by rw[decide_eq_decide]; omega
  have d4:decide ((70:Int)<(g.ids.l.length:Int))=decide (70<g.ids.l.length) :=by rw[decide_eq_decide]; omega
  by_cases br:16<g.ops.l.length
  ·have wX:(16:Int)<(g.ops.l.length:Int) :=by omega
   by_cases bI:g.ops.l.length<=60
   ·have Ek:(g.ops.l.length:Int)<=60:=by omega
    simp[fY,jY,dt,br,wX,bI,Ek];exact aJ rfl rfl
   ·have Ek:¬ (g.ops.l.length:Int)<=60:=by omega
    by_cases a3:70<g.ops.l.length
    ·have Bk:(70:Int)<(g.ops.l.length:Int) :=by omega
     simp[fY,jY,dt,br,wX,bI,Ek,a3,Bk];exact aJ rfl rfl
    ·have Bk:¬ (70:Int)<(g.ops.l.length:Int) :=by omega
     simp[fY,jY,dt,br,wX,bI,Ek,a3,Bk];exact aJ (congrArg ad.bool d4) rfl
  ·have wX:¬ (16:Int)<(g.ops.l.length:Int) :=by omega
   have a3:¬ 70<g.ops.l.length:=by omega
   have Bk:¬ (70:Int)<(g.ops.l.length:Int) :=by omega
   simp[fY,jY,dt,br,wX,a3,Bk];exact aJ (congrArg ad.bool d4) rfl
def hU (o:bJ) :bJ:={ o with bN:=some o.bN.l }
theorem avg {o:bJ} (h:ic o) :ic (hU o) :=⟨h.ids,h.len,h.val,h.key⟩
theorem atk (o:bJ) (ax:ic o) :bE Tryz.prog GS 51 [.aM (bn o)] (.aM (bn (hU o))) :=by
 refine bS Tryz.checked.mixed bP ?_;apply bw ahr ar9;unfold Q7 aa0;have aC:c4=140737488355328:=rfl;have ar:=ax.len;have az:∀ x∈o.bN.l,(a1 x).length=32:=fun x al=>c3 (ax.ids x al)
 have jb:=N5 (enc:=a1) (by_:=32) [bp.cells 11 (bn o),bp.cells 11 [.int .u32 0,.aK,.int .u64 0,.int .u8 0,.str [],.int .u8 0,.int .i64 0,.int .u64 0,.str [],.int .u32 0,.int .u32 0]] o.bN az (by omega) (by omega) (by rw[aC]; omega);have hm:∀ x:eN,(bc x).cells=some [bc x] :=fun x=>by cases x<;>rfl
 have iJ:=eZ (some o.bN.l);simp only[bn,bc,aC6,aDx,aDG,aDq] at jb;simp[bn,bc,jb];refine dx.zo (by exact AO az rfl rfl) rfl ?_;have au:ad.cr 32 (o.bN.l.map a1)=bc (some o.bN.l) :=rfl;simp[au,hm,bO];exact aJ rfl (show (ad.aM (bn (hU o))).closed=true by have:=i6 (hU o); simpa [ad.closed] using this)
def iT (g:cR) :cR:=⟨some g.ids.l,hn (g.ops.l.map hU)⟩
theorem avf {g:cR} (h:ib g) :ib (iT g) :=by
 refine⟨h.ids,fun o ax=>?_,h.li,?_⟩
 ·unfold iT at ax;simp only[jH] at ax;obtain⟨eh,ev,rfl⟩:=aC9.1 ax;exact avg (h.ops eh ev)
 ·unfold iT; simp only[jH]; simpa using h.dn
set_option maxHeartbeats 4000000 in
theorem atj (g:cR) (aA:ib g) :bE Tryz.prog GS 19 [de g] (de (iT g)) :=by
 refine bS Tryz.checked.mixed bP ?_;apply bw agn aq2;unfold PV DI;have aC:c4=140737488355328:=rfl;have fY:c1 (.av 11) (c8 g.ops)=some (.int .i64 g.ops.l.length) :=by simp[c8]
 have bu:=aA.dn;have jY:=aA.li;have az:∀ x∈g.ids.l,(a1 x).length=32:=fun x al=>c3 (aA.ids x al)
 have jb:=N5 (enc:=a1) (by_:=32) [bp.cells 2 (dK g),bp.cells 2 [.aK,.aK]] g.ids az (by omega) (by omega) (by rw[aC]; omega);have hm:∀ x:eN,(bc x).cells=some [bc x] :=fun x=>by cases x<;>rfl
 have dY:=eZ (some g.ids.l);simp only[dK,bc,aC6,aDx,aDG,aDq] at jb;simp[de,dK,bc,jb];refine dx.zo (by exact AO az rfl rfl) rfl ?_;have au:ad.cr 32 (g.ids.l.map a1)=bc (some g.ids.l) :=rfl;simp[au,hm,bO];refine c2 g.ops.l.length (fun k ah l=>ah 1=.ptr 0 0 2/\ah 2=.ptr 1 0 2/\ah 3=.ptr 3 0 2/\ah 4=.int .i64 k/\∃ v j rest,l=.cells 2 [bc g.ids,c8 g.ops] ::.cells 2 [.aK,.aK] ::.dead::.cells 2 [bc (some g.ids.l),v] ::rest ∧
  bW 11 l v j (((g.ops.l.take k).map hU).map bn)/\(v=.aK\/4<=j)/\cX v=(g.ops.l.take k).isEmpty) ?_ ?_
 ·rintro k ah l hk ⟨aW,bg,bj,bL,v,j,rest,rfl,fU,am,ij⟩;obtain⟨ah,rfl⟩:=hW aW bg bj bL;clear aW bg bj bL;unfold WA;by_cases dt:k<g.ops.l.length
  ·obtain⟨o,ax,e2⟩:=bV dt;have a2:IntKind.i64.wrap ((k:Int)+1)=((k+1:Nat) :Int) :=by rw[IntKind.wrap_i64]; omega
   have bZ:cC (.av 11) (c8 g.ops) (.int .i64 (k:Int))=some (.cm (bn o) 0) :=by simp[c8,ax]
   have ay:=atk o (aA.ops o e2);have oq:=i6 o;have cH:(bn o).length=11:=rfl;have CM:(bn (hU o)).length=11:=rfl;have cL:g.ops.l.take (k+1)=g.ops.l.take k++[o] :=by rw[aC4,ax]; rfl
   obtain⟨bl,cx,dU,br,bI,a3,a4⟩:=r1 (by_:=112) (pre:=[.cells 2 [bc g.ids,c8 g.ops],.cells 2 [.aK,.aK],.dead,.cells 2 [bc (some g.ids.l),v]]) (rest:=rest++[.cells 11 (bn (hU o))]) (fU.more _) am (x:=.av 11 (rest.length+1+1+1+1) 0 1 1 11) (xs:=[bn (hU o)])
    (by simp[dL,CM,aCI]) (by simp[CM]) (by omega) (by omega) (by rw[aC]; simp; omega)
   obtain⟨O,eO⟩:∃ O,O=bn o:=⟨_,rfl⟩
   obtain⟨T,dH⟩:∃ T,T=bn (hU o) :=⟨_,rfl⟩
   rw[<-eO] at bZ ay oq cH;rw[<-dH] at ay CM br bI;have amK:bO [ad.int .u32 0,.aK,.int .u64 0,.int .u8 0,.str [],.int .u8 0,.int .i64 0,.int .u64 0,.str [],.int .u32 0,.int .u32 0] 0 T=T:=fM (by rw[CM]; rfl);have ik:=bI.cells;simp only[aDG,aDq] at br;simp[fY,dt,bZ,cH,aCI];refine a8 ay (by simp[a7,ad.closed,oq]) ?_;simp[CM,amK,br];refine dx.c6 ?_;simp[ik,bO,a2];have cW:List.take (k+1) (List.map (bn ∘ hU) g.ops.l)=((g.ops.l.take k).map hU).map bn++[T] :=by rw[<-aFI,cL]; simp[dH]
   have gE:cX bl=false:=by rw[a4]; simp
   have alL:4<=cx:=by
    rcases a3 with h | h
    ·rw[h] at gE; cases gE
    ·simpa using h
   refine⟨dt,cx,?_,.inr alL,by rw[gE,cL]; simp⟩;rw[cW];refine bI.nF (.inr ?_);obtain⟨kk,rfl⟩:∃ kk,cx=kk+4:=⟨cx - 4,by omega⟩
   rfl
  ·have lE:k=g.ops.l.length:=by omega
   simp[fY,dt];rw[lE,aDi] at fU ij;have nf:Rd (bp.cells 2 [bc g.ids,c8 g.ops] ::bp.cells 2 [bc (some g.ids.l),v] ::bp.dead::bp.cells 2 [bc (some g.ids.l),v] ::rest) v (c8 (hn (g.ops.l.map hU))) :=by
    refine (fU.nF (l':=bp.cells 2 [bc g.ids,c8 g.ops] ::bp.cells 2 [bc (some g.ids.l),v] ::bp.dead::bp.cells 2 [bc (some g.ids.l),v] ::rest) ?_).q.mP (fun x=>i6 x) (hn (g.ops.l.map hU)) (by rw[ij,A3]; simp) (jH _);rcases am with h | h
    ·exact .inl h
    ·right;obtain⟨kk,rfl⟩:∃ kk,j=kk+4:=⟨j - 4,by omega⟩
     rfl
   refine .aM _ _ rfl fun j c c' ak fD=>?_
   rcases j with _ | _ | j
   ·simp[de,dK,iT] at ak fD; subst ak fD; exact .same _ dY
   ·simp[de,dK,iT] at ak fD; subst ak fD; exact nf
   ·simp at ak
 ·simp;exact⟨.aK,⟨rfl,rfl⟩,0,.nil 0,.inl rfl,rfl⟩
def yC (a b:bJ) :Bool:=decide (a.g9=b.g9)&&(decide (a.bN.l=b.bN.l)&&(decide (a.dj=b.dj)&&(fJ (j9 a.act) (j9 b.act)&&(decide (a.e=b.e)&&decide (a.s=b.s)))))
theorem an3:qw Tryz.prog 20 80=some [.i .u32,.i .u32] :=by kernel_rfl
theorem at2 (a b c d:D) :gu Tryz.prog .eql 80 (.aM [bR a,bR b]) (.aM [bR c,bR d])=some (.bool (decide (a=c)&&decide (b=d))) :=by
 rw[yY an3 (by kernel_rfl) (by kernel_rfl) rfl rfl];simp[fJ,ad.beq]
theorem atb (a b:bJ) (aD:ic a) (ai:ic b) :bE Tryz.prog GS 64 [.aM (bn a),.aM (bn b)] (.bool (yC a b)) :=by
 refine bS Tryz.checked.mixed bP ?_;apply bw ahE asn;unfold Rl abf yC;have xF:=eZ a.bN;have p1:=eZ b.bN;have J1:=MG a.bN b.bN aD.ids ai.ids aD.len;have vx:=NM a.act b.act;have amL:=at2 a.e a.s b.e b.s;have TI:(bc a.bN).cells=some [bc a.bN] :=by cases a.bN<;>rfl
 have ayD:(bc b.bN).cells=some [bc b.bN] :=by cases b.bN<;>rfl
 unfold j9 at vx ⊢;simp[bn];by_cases h1:a.g9=b.g9
 ·simp[h1];refine a8 J1 (by simp[a7,xF,p1]) ?_;by_cases ag:a.bN.l=b.bN.l
  ·by_cases aq:a.dj=b.dj
   ·cases aH:fJ [bQ a.act.kind,.str a.act.key,bQ a.act.val.kind,.int .i64 a.act.val.num,dm a.act.val.bits,.str a.act.val.text] [bQ b.act.kind,.str b.act.key,bQ b.act.val.kind,.int .i64 b.act.val.num,dm b.act.val.bits,.str b.act.val.text] with
    | false=>
     rw[aH] at vx;simp[h1,ag,aq,vx];exact aJ rfl rfl
    | true=>
     rw[aH] at vx;simp[h1,ag,aq,vx,amL];exact aJ rfl rfl
   ·simp[h1,ag,aq];exact aJ rfl rfl
  ·simp[h1,ag];exact aJ rfl rfl
 ·simp[h1];exact aJ rfl rfl
def uv (l:List bJ) (k:Nat) :bJ:=l.getD k ⟨0,none,0,⟨0,[],⟨0,0,0,[]⟩⟩,0,0⟩
theorem Dv {l:List bJ} {k:Nat} {o:bJ} (h:l[k]? = some o) :uv l k=o:=by unfold uv; rw[aC2,h]; rfl
def yB (a b:cR) :Bool:=decide (a.ids.l=b.ids.l)&&(decide (a.ops.l.length=b.ops.l.length)&&decide (∀ k,k<a.ops.l.length->yC (uv a.ops.l k) (uv b.ops.l k)=true))
theorem ata (a b:cR) (aD:ib a) (ai:ib b) :bE Tryz.prog GS 27 [de a,de b] (.bool (yB a b)) :=by
 refine bS Tryz.checked.mixed bP ?_;apply bw ahc arU;unfold QT aaM;have xF:=eZ a.ids;have p1:=eZ b.ids;have J1:=MG a.ids b.ids aD.ids ai.ids aD.li;have ht:c1 (.av 11) (c8 a.ops)=some (.int .i64 a.ops.l.length) :=by simp[c8]
 have iX:c1 (.av 11) (c8 b.ops)=some (.int .i64 b.ops.l.length) :=by simp[c8]
 have bu:=aD.dn;simp[de,dK];refine a8 J1 (by simp[a7,xF,p1]) ?_;by_cases h1:a.ids.l=b.ids.l
 ·by_cases ag:a.ops.l.length=b.ops.l.length
  ·have eV:(a.ops.l.length:Int)=(b.ops.l.length:Int) :=by omega
   simp[h1,ht,iX,ag,eV];refine c2 a.ops.l.length (fun k ah l=>l=[.cells 2 [bc a.ids,c8 a.ops],.cells 2 [bc b.ids,c8 b.ops]]/\ah 2=.ptr 0 0 2/\ah 3=.ptr 1 0 2/\ah 5=.int .i64 k/\∀ j,j<k->yC (uv a.ops.l j) (uv b.ops.l j)=true) ?_ (by simp);rintro k ah l hk ⟨rfl,bg,bj,bC,ap⟩;obtain⟨ah,rfl⟩:=jJ bg bj bC;clear bg bj bC;unfold WU;by_cases dt:k<a.ops.l.length
   ·obtain⟨o,ax,e2⟩:=bV dt;obtain⟨p,aF,qj⟩:=bV (l:=b.ops.l) (k:=k) (by omega);have a2:IntKind.i64.wrap ((k:Int)+1)=((k+1:Nat) :Int) :=by rw[IntKind.wrap_i64]; omega
    have bZ:cC (.av 11) (c8 a.ops) (.int .i64 (k:Int))=some (.cm (bn o) 0) :=by simp[c8,ax]
    have je:cC (.av 11) (c8 b.ops) (.int .i64 (k:Int))=some (.cm (bn p) 0) :=by simp[c8,aF]
    have ay:=atb o p (aD.ops o e2) (ai.ops p qj);have cQ:=i6 o;have iJ:=i6 p;have cH:(bn o).length=11:=rfl;have hu:(bn p).length=11:=rfl;have TJ:=Dv ax;have FB:=Dv aF;obtain⟨O,eO⟩:∃ O,O=bn o:=⟨_,rfl⟩
    obtain⟨Q,xv⟩:∃ Q,Q=bn p:=⟨_,rfl⟩
    rw[<-eO,<-xv] at ay;rw[<-eO] at bZ cQ cH;rw[<-xv] at je iJ hu;simp[ht,dt,bZ,je,cH,hu,aCI];refine a8 ay (by simp[a7,ad.closed,cQ,iJ]) ?_;by_cases jZ:yC o p=true
    ·simp[jZ,dt,a2];intro j am;by_cases eL:j=k
     ·subst eL; rw[TJ,FB]; exact jZ
     ·exact ap j (by omega)
    ·rw[aE3] at jZ;simp[jZ];refine aJ (congrArg ad.bool ?_) rfl;unfold yB;rw[decide_eq_false (fun h:∀ k,k<a.ops.l.length->yC (uv a.ops.l k) (uv b.ops.l k)=true=>by
      have:=h k dt;rw[TJ,FB,jZ] at this;cases this)]
     simp
   ·have lE:k=a.ops.l.length:=by omega
    simp[ht,dt];refine aJ (congrArg ad.bool ?_) rfl;unfold yB;rw[decide_eq_true h1,decide_eq_true ag,decide_eq_true fun j am=>ap j (by omega)]; rfl
  ·have eV:¬ (a.ops.l.length:Int)=(b.ops.l.length:Int) :=by omega
   simp[h1,ht,iX,ag,eV];refine aJ (congrArg ad.bool ?_) rfl;unfold yB; rw[decide_eq_false ag]; simp
 ·simp[h1];refine aJ (congrArg ad.bool ?_) rfl;unfold yB; rw[decide_eq_false h1]; simp
structure uV (g:cR) :Prop where
 n60:g.ops.l.length<=60
 len:g.ids.l.length=g.ops.l.length
 aym:∀ (k:Nat) (o:bJ) (x:List B),g.ops.l[k]? = some o->g.ids.l[k]? = some x->rO o=0/\db o=x
 eH:eH g.ids.l=true
 LR:∀ o∈g.ops.l,∀ p∈o.bN.l,p∈g.ids.l
 all:∀ i,i<g.ops.l.length->qN g.ids.l g.ops.l i
theorem AL {g:cR} (h:gR g=0) :uV g:=by
 unfold gR at h;split at h
 ·cases h
 ·rename_i i9;split at h
  ·rename_i ar;split at h
   ·rename_i eC;unfold n1 at h;split at h
    ·rename_i aC;split at h
     ·rename_i gN;split at h
      ·rename_i nP;refine⟨by omega,ar,fun k o x ax al=>?_,aC,fun o e2 p aF=>?_,(X4 ar (sJ aC)).1 nP⟩
       ·have:=(zt g).1 eC k (aCJ.1 ax).1;rw[E3 ax al,aCQ,decide_eq_true_eq,decide_eq_true_eq] at this;exact this
       ·exact of_decide_eq_true (of_decide_eq_true gN o e2) p aF
      ·cases h
     ·cases h
    ·cases h
   ·cases h
  ·cases h
def Gy (g:cR) (x:List B) :Int:=if gR g=0 then (if x∈g.ids.l then (r9 g.ids.l x:Int) else 0) else 0
def Gx (g:cR) (x:List B) :Int:=if gR g=0 then (if x∈g.ids.l then 0 else 6) else gR g
set_option maxHeartbeats 2000000 in
theorem aor (g:cR) (aA:ib g) (x:List B) (al:x.length=32) :bE Tryz.prog GS 132 [de g,.aM (a1 x)] (.b5 [.int .i64 (Gy g x),.int .i64 (Gx g x)]) :=by
 refine bS Tryz.checked.mixed bP ?_;apply bw afw aqc;unfold Pd Y7 Gy Gx;have dY:=eZ g.ids;have cQ:=ml g.ops;have cU:=Np g aA;have eu:=fK x;have bm:=c3 al;unfold de dK at cU;by_cases aG:gR g=0
 ·have V:=AL aG;have ap:=acp g.ids aA.ids aA.li x al V.eH;obtain⟨X,ce⟩:∃ X,X=a1 x:=⟨_,rfl⟩
  rw[<-ce] at ap eu bm ⊢;rw[aG] at cU;simp[de,dK,bm,aCI];refine a8 cU (by simp[a7,ad.closed,dY,cQ]) ?_;simp[bm,aCI];refine a8 ap (by simp[a7,ad.closed,dY,eu]) ?_;by_cases hm:x∈g.ids.l
  ·simp[hm,aG];exact aJ rfl rfl
  ·simp[hm,aG];exact aJ rfl rfl
 ·obtain⟨X,ce⟩:∃ X,X=a1 x:=⟨_,rfl⟩
  rw[<-ce] at eu bm ⊢;simp[de,dK,bm,aCI];refine a8 cU (by simp[a7,ad.closed,dY,cQ]) ?_;simp[aG];exact aJ rfl rfl
def nV (ids:List (List B)) (seen:List Bool) (k:Nat) :List (List B) :=(List.range k).flatMap fun i=>if seen.getD i false=true then [cw ids i] else []
theorem XC (ids:List (List B)) (seen:List Bool) (k:Nat) :nV ids seen (k+1)=nV ids seen k++(if seen.getD k false=true then [cw ids k] else []) :=by
 unfold nV; rw[aEw,aEL]; simp
theorem LK (ids:List (List B)) (seen:List Bool) :∀ k,(nV ids seen k).length<=k
 | 0=>by simp[nV]
 | k+1=>by
  have:=LK ids seen k;rw[XC,aCS];split<;>simp<;>omega
theorem XB {ids:List (List B)} {seen:List Bool} {x:List B}:∀ {k:Nat},x∈nV ids seen k<->∃ i,i<k/\seen.getD i false=true/\cw ids i=x:=by
 intro k;unfold nV;rw[List.mem_flatMap];constructor
 ·rintro⟨i,aB,al⟩;split at al
  ·rename_i ap;rw[aDm] at al;exact⟨i,aDw.1 aB,ap,al.symm⟩
  ·cases al
 ·rintro⟨i,aB,ap,al⟩;exact⟨i,aDw.2 aB,by rw[if_pos ap,al]; simp⟩
set_option maxHeartbeats 2000000 in
theorem aoE (g:cR) (aA:ib g) (seen:dX Bool) (ap:seen.l.length=g.ids.l.length) :bE Tryz.prog GS 89 [de g,c0 1 lw seen] (bc (hn (nV g.ids.l seen.l seen.l.length))) :=by
 refine bS Tryz.checked.mixed bP ?_;apply bw ahV asE;unfold RC abw;have aC:c4=140737488355328:=rfl;have jY:=aA.li;have dI:c1 (.av 1) (c0 1 lw seen)=some (.int .i64 seen.l.length) :=rr _;simp[de,dK,dI];refine c2 seen.l.length (fun k ah l=>ah 1=c0 1 lw seen/\ah 2=.ptr 0 0 2/\ah 8=.int .i64 seen.l.length/\ah 9=.int .i64 k/\∃ j rest,l=.cells 2 [bc g.ids,c8 g.ops] ::rest ∧
  bW 32 l (ah 5) j ((nV g.ids.l seen.l k).map a1)/\(ah 5=.aK\/1<=j)/\cX (ah 5)=(nV g.ids.l seen.l k).isEmpty) ?_ ?_
 ·rintro k ah l hk ⟨aW,bg,et,hB,j,rest,rfl,fU,am,ij⟩;obtain⟨v,bC⟩:∃ v,ah 5=v:=⟨_,rfl⟩
  rw[bC] at fU am ij;obtain⟨ah,rfl⟩:=mR aW bg bC et hB;clear aW bg bC et hB;unfold Xj;by_cases dt:k<seen.l.length
  ·obtain⟨b,ai,_⟩:=bV dt;obtain⟨x,al,dT⟩:=bV (l:=g.ids.l) (k:=k) (by omega);have a2:IntKind.i64.wrap ((k:Int)+1)=((k+1:Nat) :Int) :=by rw[IntKind.wrap_i64]; omega
   have bZ:cC (.av 1) (c0 1 lw seen) (.int .i64 (k:Int))=some (.cm [.bool b] 0) :=by rw[sI]; simp[ai,lw]
   have je:cC (.av 32) (bc g.ids) (.int .i64 (k:Int))=some (.cm (a1 x) 0) :=by simp[bc,al]
   have CX:seen.l.getD k false=b:=by rw[aC2,ai]; rfl
   have bm:=c3 (aA.ids x dT);have nb:=LK g.ids.l seen.l k;have Ab:=XC g.ids.l seen.l k;rw[CX] at Ab;cases b with
   | false=>
    simp at Ab;simp[dt,bZ,a2];rw[Ab];exact⟨j,fU,am,ij⟩
   | true=>
    rw[if_pos rfl,iO al] at Ab;obtain⟨bl,cx,dU,br,bI,a3,a4⟩:=r1 (by_:=32) (pre:=[.cells 2 [bc g.ids,c8 g.ops]]) (rest:=rest++[.cells 32 (a1 x)]) (fU.more _) am (x:=.av 32 (rest.length+1) 0 1 1 32) (xs:=[a1 x])
     (by simp[dL,bm,aCI]) (by simp[bm]) (by omega) (by omega) (by rw[aC]; simp; omega)
    have cW:(nV g.ids.l seen.l (k+1)).map a1=(nV g.ids.l seen.l k).map a1++[a1 x] :=by rw[Ab]; simp
    obtain⟨X,ce⟩:∃ X,X=a1 x:=⟨_,rfl⟩
    rw[<-ce] at je bm br bI cW;have rm:bO (rep 32 (.int .u8 0)) 0 X=X:=fM (by rw[bm]; rfl);simp only[aDG,aDq] at br;simp[dt,bZ,je,bm,rm,aCI,br];refine dx.c6 ?_;simp[dt,a2];refine⟨cx,by rw[cW]; exact bI,by simpa using a3,by rw[a4,Ab]; simp⟩
  ·have lE:k=seen.l.length:=by omega
   subst lE;simp[dt];exact fU.q.mP (fun x=>fK x) (hn _) (by rw[ij,A3]) (jH _)
 ·have aG:nV g.ids.l seen.l 0=[] :=rfl;simp[aG];exact⟨⟨0,.nil 0⟩,rfl⟩
theorem Om:∀ l:List B,fJ (l.map bQ) (l.map bQ)=true
 | []=>rfl
 | x::l=>by
  have h1:ad.beq (bQ x) (bQ x)=true:=by simp[bQ,ad.beq]
  show (ad.beq (bQ x) (bQ x)&&fJ (l.map bQ) (l.map bQ))=true;rw[h1,Om l]; rfl
theorem aeA (x:List B) :ad.beq (.aM (a1 x)) (.aM (a1 x))=true:=Om x
theorem IW {x:List B} (h:x.length=32) :nU Tryz.prog 48 (.aM (a1 x))=true:=by
 have h1:ul Tryz.prog 8 48=true:=by kernel_rfl
 have ag:e8 Tryz.prog 48=some true:=by kernel_rfl
 have aq:c5 Tryz.prog 48=some 32:=by kernel_rfl
 have aH:(x.map bQ).all wh=true:=by rw[aDO]; intro c ak; obtain⟨b,_,rfl⟩:=aC9.1 ak; rfl
 show (ul Tryz.prog 8 48&&(match e8 Tryz.prog 48,c5 Tryz.prog 48 with | some true,some m=>Nat.beq (x.map bQ).length m | _,_=>false)&&(x.map bQ).all wh)=true;rw[h1,ag,aq,aH,aCZ,h];rfl
theorem Xx:∀ {a b:List B},a.map (fun x=>u x)=b.map (fun x=>u x)<->a=b
 | [],[]=>by simp
 | [],_::_=>by simp
 | _::_,[]=>by simp
 | x::a,y::b=>by
  rw[aDc,aDc,List.cons.injEq,List.cons.injEq,Xx (a:=a) (b:=b)];simp
theorem ajh {a b:List B} (aD:a.length=32) (ai:b.length=32) {D:Nat}:fk Tryz.prog (D+2) 48 (.aM (a1 a)) (.aM (a1 b))=some (decide (a=b)) :=by
 have h:=aji (P:=Tryz.prog) (t:=48) (e:=5) (k:=.u8) (n:=32) (by kernel_rfl) (by kernel_rfl) (by kernel_rfl) (by kernel_rfl) (x:=a.map fun x=>u x) (y:=b.map fun x=>u x) (by simp[aD]) (by simp[ai]) (D:=D);rw[aEZ,aEZ] at h;unfold a1;rw[show a.map bQ=a.map (ad.int .u8 ∘ fun x=>u x) from rfl,show b.map bQ=b.map (ad.int .u8 ∘ fun x=>u x) from rfl,h];simp only[Xx]
inductive rU:Nat->List (ad × ad × Nat)->List (List B)->Prop
 | nil (b:Nat) :rU b [] []
 | cons {b:Nat} {es:List (ad × ad × Nat)} {cK:List (List B)} {k:List B} (n:Nat) (hk:k.length=32) (h:rU (b+1) es cK) :rU b ((.aM (a1 k),.int .i64 (b:Int),n) ::es) (k::cK)
theorem rU.len {b:Nat} {es:List (ad × ad × Nat)} {cK:List (List B)} (h:rU b es cK) :es.length=cK.length:=by induction h<;>simp_all
theorem rU.snoc {b:Nat} {es:List (ad × ad × Nat)} {cK:List (List B)} (h:rU b es cK) {k:List B} (hk:k.length=32) (n:Nat) :rU b (es++[(.aM (a1 k),.int .i64 ((b+cK.length:Nat) :Int),n)]) (cK++[k]) :=by
 induction h with
 | nil b=>exact .cons n hk (.nil _)
 | @cons b es cK k' m fE h aY=>
  refine .cons m fE ?_;rw[show b+1+cK.length=b+(k'::cK).length by simp; omega] at aY;exact aY
theorem SF {x:List B} (al:x.length=32) {b:Nat} {es:List (ad × ad × Nat)} {cK:List (List B)} (h:rU b es cK) :∀ c,(∀ i,cK[i]? = some x->(∀ j,j<i->cK[j]?≠some x)->m0 Tryz.prog 48 (.aM (a1 x)) es c=some (some (c+i,.int .i64 ((b+i:Nat) :Int))))/\(x∉cK->m0 Tryz.prog 48 (.aM (a1 x)) es c=some none) :=by
 induction h with
 | nil b=>intro c; exact⟨fun i h=>by simp at h,fun _=>rfl⟩
 | @cons b es cK k n hk h aY=>
  intro c;unfold m0;rw[IW hk];simp only;rw[show fk Tryz.prog 10000 48 (.aM (a1 x)) (.aM (a1 k))=some (decide (x=k)) from ajh al hk (D:=9998)];by_cases au:x=k
  ·subst au;simp only[decide_true,aeA];refine⟨fun i aB fT=>?_,fun h=>absurd (by simp) h⟩;cases i with
   | zero=>rfl
   | succ i=>exact absurd rfl (fT 0 (by omega))
  ·simp only[au,decide_false];obtain⟨h1,ag⟩:=aY (c+1);refine⟨fun i aB fT=>?_,fun h=>ag (fun h'=>h (by simp[h']))⟩;cases i with
   | zero=>simp at aB; exact absurd aB.symm au
   | succ i=>
    rw[h1 i (by simpa using aB) (fun j am=>by have:=fT (j+1) (by omega); simpa using this)];rw[show c+1+i=c+(i+1) by omega,show b+1+i=b+(i+1) by omega]
structure n9 (l:aw) (j:Nat) (cK:List (List B)) :Prop where
 e:∃ es gS,l[j]? = some (.map es gS)/\rU 0 es cK
theorem n9.look {l:aw} {j:Nat} {cK:List (List B)} (h:n9 l j cK) (am:kK cK) {x:List B} (al:x.length=32) {i:Nat} (aB:cK[i]? = some x) :Dk Tryz.prog l 48 (.int .i64 0) false (.mp j) (.aM (a1 x))=some (.int .i64 (i:Int)) :=by
 obtain⟨es,gS,h1,ag⟩:=h.e;have aq:v1 l (.mp j)=some es:=by simp[v1,h1]
 unfold Dk;rw[aq];simp only[IW al];rw[(SF al ag 0).1 i aB (fun t aQ aR=>by have:=am t i x aR aB; omega)];simp
theorem n9.put {l:aw} {j:Nat} {cK:List (List B)} (h:n9 l j cK) {x:List B} (al:x.length=32) (aI:x∉cK) :∃ c,yj Tryz.prog l 48 (.mp j) (.aM (a1 x)) (.int .i64 (cK.length:Int))=some (l.set j c)/\(∀ l' : aw,l'[j]? = some c->n9 l' j (cK++[x])) :=by
 obtain⟨es,gS,h1,ag⟩:=h.e;unfold yj;simp only[h1,IW al,(SF al ag 0).2 aI];exact⟨_,rfl,fun l' dN=>⟨_,_,dN,by have:=ag.snoc al gS; rw[aDT] at this; exact this⟩⟩
theorem n9.frame {l l' : aw} {j:Nat} {cK:List (List B)} (h:n9 l j cK) (am:l'[j]? = l[j]?) :n9 l' j cK:=by
 obtain⟨es,gS,h1,ag⟩:=h.e;exact⟨es,gS,by rw[am,h1],ag⟩
theorem n9.lt {l:aw} {j:Nat} {cK:List (List B)} (h:n9 l j cK) :j<l.length:=by
 obtain⟨es,gS,h1,ag⟩:=h.e;exact (aCJ.1 h1).1
theorem aoA {P:Program} {aN:Operand->ad} {l:aw} {o:Operand} {k:IntKind} {n:Int} (h:aN o=.int k n) :cg P aN l (.v7 (some o))=some (.mp l.length,l++[.map [] 0]) :=by
 show (match asInt (aN o) with | some _=>some (ad.mp l.length,l++[bp.map [] 0]) | none=>none)=_;rw[h]; rfl
set_option maxHeartbeats 2000000 in
theorem apl (g:cR) (aA:ib g) (am:kK g.ids.l) {l:aw} {K:ad->aw->Prop} (bA:∀ j l',n9 l' j g.ids.l->l.length<=j->(∀ c,c<l.length->l'[c]? = l[c]?)->l.length<=l'.length->K (.mp j) l') :
  dS Tryz.prog GS 88 [de g] l (c:=⟨K⟩) :=by
 apply bw ahU asD;unfold RB abv;have jY:=aA.li;have dI:c1 (.av 32) (bc g.ids)=some (.int .i64 g.ids.l.length) :=by simp[bc]
 simp[de,dK,dI];rw[aoA (k:=.i64) (n:=g.ids.l.length) (by simp)];simp[dI];refine c2 g.ids.l.length (fun k ah l'=>ah 3=.mp (l.length+1)/\ah 11=bc g.ids/\ah 12=.int .i64 g.ids.l.length/\ah 13=.int .i64 k/\n9 l' (l.length+1) (g.ids.l.take k)/\(∀ c,c<l.length->l'[c]? = l[c]?)) ?_ ?_
 ·rintro k ah l' hk ⟨bj,hN,g1,jt,so,lD⟩;obtain⟨ah,rfl⟩:=hW bj hN g1 jt;clear bj hN g1 jt;unfold Xi;by_cases dt:k<g.ids.l.length
  ·obtain⟨x,al,dT⟩:=bV dt;have a2:IntKind.i64.wrap ((k:Int)+1)=((k+1:Nat) :Int) :=by rw[IntKind.wrap_i64]; omega
   have je:cC (.av 32) (bc g.ids) (.int .i64 (k:Int))=some (.cm (a1 x) 0) :=by simp[bc,al]
   have Vl:=aA.ids x dT;have bm:=c3 Vl;have cL:g.ids.l.take (k+1)=g.ids.l.take k++[x] :=by rw[aC4,al]; rfl
   have fT:x∉g.ids.l.take k:=fun hm=>by
    obtain⟨t,aQ⟩:=aCY.1 hm;have k3:=(aCJ.1 aQ).1;rw[aCX] at k3;rw[aCW (by omega)] at aQ;have:=am t k x aQ al; omega
   have aP:=so.lt;have akx:n9 (l'++[.cells 32 (a1 x)]) (l.length+1) (g.ids.l.take k) :=so.frame (aCK aP);obtain⟨c,cT,dF⟩:=akx.put Vl fT;have ow:(g.ids.l.take k).length=k:=by rw[aCX]; omega
   rw[ow] at cT;obtain⟨X,ce⟩:∃ X,X=a1 x:=⟨_,rfl⟩
   rw[<-ce] at je bm cT;have rm:bO (rep 32 (.int .u8 0)) 0 X=X:=fM (by rw[bm]; rfl);simp[dt,je,bm,rm,aCI,cT,a2];refine⟨?_,fun c' fD=>?_⟩
   ·rw[cL];exact dF _ (by rw[aC3 (by simp; omega)])
   ·rw[aCU (by omega),aCK (by omega)];exact lD c' fD
  ·have lE:k=g.ids.l.length:=by omega
   rw[lE,aDi] at so;simp[dt];exact bA _ _ so (by omega) lD (by have:=so.lt; omega)
 ·simp;refine⟨⟨[],0,by simp,.nil 0⟩,fun c ak=>by rw[aCK ak]⟩
inductive jm (ids:List (List B)) (ops:List bJ) (L:List (List B)) :Nat->Prop
 | start (p:List B) (j:Nat) (aF:p∈L) (am:ids[j]? = some p) :jm ids ops L j
 | step (i:Nat) (p:List B) (j:Nat) (h:jm ids ops L i) (aF:p∈dR ops i) (am:ids[j]? = some p) :jm ids ops L j
theorem jm.mono {ids:List (List B)} {ops:List bJ} {L NH:List (List B)} (ap:∀ p∈L,p∈NH) {i:Nat} (h:jm ids ops L i) :jm ids ops NH i:=by
 induction h with
 | start p j aF am=>exact .start p j (ap p aF) am
 | step i p j _ aF am aY=>exact .step i p j aY aF am
theorem jm.under {ids:List (List B)} {ops:List bJ} {L:List (List B)} {i:Nat} (aB:jm ids ops L i) {j:Nat} (h:jm ids ops (dR ops i) j) :jm ids ops L j:=by
 induction h with
 | start p j aF am=>exact .step i p j aB aF am
 | step k4 p j _ aF am aY=>exact .step k4 p j aY aF am
structure pJ (ids:List (List B)) (ops:List bJ) (L:List (List B)) (S iC:List Bool) :Prop where
 len:iC.length=S.length
 mono:∀ (i:Nat),S[i]? = some true->iC[i]? = some true
 st:∀ p∈L,∀ (j:Nat),ids[j]? = some p->iC[j]? = some true
 new:∀ (i:Nat),iC[i]? = some true->S[i]? = some true\/(jm ids ops L i/\∀ p∈dR ops i,∀ (j:Nat),ids[j]? = some p->iC[j]? = some true)
theorem ac9 (ids:List (List B)) (ops:List bJ) (S:List Bool) :pJ ids ops [] S S:=⟨rfl,fun _ h=>h,fun p aF=>by simp at aF,fun _ h=>.inl h⟩
theorem ada {ids:List (List B)} {ops:List bJ} {L:List (List B)} {p:List B} {S NJ kt:List Bool} (h1:pJ ids ops L S NJ) (ag:pJ ids ops [p] NJ kt) :pJ ids ops (L++[p]) S kt:=by
 refine⟨ag.len.trans h1.len,fun i h=>ag.mono i (h1.mono i h),fun q bD j am=>?_,fun i h=>?_⟩
 ·rw[aDr] at bD;rcases bD with bD | bD
  ·exact ag.mono j (h1.st q bD j am)
  ·exact ag.st q bD j am
 ·rcases ag.new i h with aq | ⟨aq,aH⟩
  ·rcases h1.new i aq with bd | ⟨bd,bM⟩
   ·exact .inl bd
   ·exact .inr ⟨bd.mono fun q bD=>by simp[bD],fun q bD j am=>ag.mono j (bM q bD j am)⟩
  ·exact .inr ⟨aq.mono fun q bD=>by simp at bD; simp[bD],aH⟩
theorem avP {ids:List (List B)} {ops:List bJ} (hO:kK ids) {p:List B} {i:Nat} {S:List Bool} (aB:ids[i]? = some p) (ap:S[i]? = some true) :pJ ids ops [p] S S:=by
 refine⟨rfl,fun _ h=>h,fun q bD j am=>?_,fun _ h=>.inl h⟩;rw[aDm] at bD;subst bD;rw[hO j i q am aB];exact ap
theorem avQ {ids:List (List B)} {ops:List bJ} (hO:kK ids) {p:List B} {i:Nat} {S kt:List Bool} (aB:ids[i]? = some p) (ar:i<S.length) (h:pJ ids ops (dR ops i) (S.set i true) kt) :pJ ids ops [p] S kt:=by
 have hit:kt[i]? = some true:=h.mono i (aC3 ar);have tY:jm ids ops [p] i:=.start p i (by simp) aB;refine⟨by rw[h.len]; simp,fun j am=>h.mono j ?_,fun q bD j am=>?_,fun j am=>?_⟩
 ·by_cases jx:i=j
  ·subst jx; exact aC3 ar
  ·rw[aCU jx]; exact am
 ·rw[aDm] at bD;subst bD;rw[hO j i q am aB];exact hit
 ·rcases h.new j am with h1 | ⟨h1,ag⟩
  ·by_cases jx:i=j
   ·subst jx;exact .inr ⟨tY,fun q bD t aQ=>h.st q bD t aQ⟩
   ·rw[aCU jx] at h1;exact .inl h1
  ·exact .inr ⟨tY.under h1,ag⟩
theorem avO {ids:List (List B)} {ops:List bJ} {L:List (List B)} {n:Nat} {S:List Bool} (h:pJ ids ops L (List.replicate n false) S) (i:Nat) :S[i]? = some true<->jm ids ops L i:=by
 have fT:∀ (j:Nat),(List.replicate n false)[j]?≠some true:=fun j am=>by
  have:=aD9 (aCP am);cases this
 constructor
 ·intro aB;rcases h.new i aB with h1 | ⟨h1,_⟩
  ·exact absurd h1 (fT i)
  ·exact h1
 ·intro aB
  induction aB with
  | start p j aF am=>exact h.st p aF j am
  | step i p j _ aF am aY=>
   rcases h.new i aY with h1 | ⟨_,ag⟩
   ·exact absurd h1 (fT i)
   ·exact ag p aF j am
structure oO (g:cR) (fI lq lp kR hg kE:Nat) (S:List Bool) (l:aw) :Prop where
 a:l[fI]? = some (.cells 1 [.mp kE])
 s:l[lq]? = some (.cells 1 [.av 1 hg 0 g.ids.l.length g.ids.l.length g.ids.l.length])
 E0:l[lp]? = some (.cells 2 [bc g.ids,c8 g.ops])
 v:l[kR]? = some (.cells 1 [.fn 179 [] [.ptr fI 0 1,.ptr lq 0 1,.ptr lp 0 2,.ptr kR 0 1]])
 m:n9 l kE g.ids.l
 r:l[hg]? = some (.cells g.ids.l.length (S.map ad.bool))
 n:S.length=g.ids.l.length
 ne:hg≠fI/\hg≠lq/\hg≠lp/\hg≠kR/\hg≠kE
theorem oO.frame {g:cR} {fI lq lp kR hg kE:Nat} {S:List Bool} {l l' : aw} (h:oO g fI lq lp kR hg kE S l) (aL:∀ c,c<l.length->l'[c]? = l[c]?) :oO g fI lq lp kR hg kE S l':=by
 have lt:∀ {c:Nat} {x:bp},l[c]? = some x->c<l.length:=fun h=>(aCJ.1 h).1
 exact⟨(aL _ (lt h.a)).trans h.a,(aL _ (lt h.s)).trans h.s,(aL _ (lt h.E0)).trans h.E0,(aL _ (lt h.v)).trans h.v,h.m.frame (aL _ h.m.lt),(aL _ (lt h.r)).trans h.r,h.n,h.ne⟩
theorem oO.more {g:cR} {fI lq lp kR hg kE:Nat} {S:List Bool} {l:aw} (h:oO g fI lq lp kR hg kE S l) (x:aw) :oO g fI lq lp kR hg kE S (l++x) :=h.frame fun c ak=>aCK ak
theorem oO.set {g:cR} {fI lq lp kR hg kE:Nat} {S:List Bool} {l:aw} (h:oO g fI lq lp kR hg kE S l) (i:Nat) :oO g fI lq lp kR hg kE (S.set i true) (l.set hg (.cells g.ids.l.length ((S.set i true).map ad.bool))) :=by
 obtain⟨lM,nl,ry,sU,mc⟩:=h.ne;have ar:hg<l.length:=(aCJ.1 h.r).1;exact⟨by rw[aCU lM]; exact h.a,by rw[aCU nl]; exact h.s,by rw[aCU ry]; exact h.E0,by rw[aCU sU]; exact h.v,h.m.frame (aCU mc),aC3 ar,by simpa using h.n,h.ne⟩
theorem SS:js Tryz.prog 179=true:=by kernel_rfl
set_option maxHeartbeats 4000000 in
theorem avJ (g:cR) (aA:ib g) (V:uV g) (fI lq lp kR hg kE:Nat) :∀ (m:Nat) (S:List Bool) (l:aw) (p:List B) (i:Nat) (K:ad->aw->Prop),S.count false<=m->oO g fI lq lp kR hg kE S l->g.ids.l[i]? = some p->
  (∀ l' iC,pJ g.ids.l g.ops.l [p] S iC->oO g fI lq lp kR hg kE iC l'->(∀ c,c<l.length->c≠hg->l'[c]? = l[c]?)->l.length<=l'.length->iC.count false<=S.count false->K (.b5 []) l')->
  dS Tryz.prog GS 179 [.aM (a1 p),.ptr fI 0 1,.ptr lq 0 1,.ptr lp 0 2,.ptr kR 0 1] l (c:=⟨K⟩) :=by
 have hO:=sJ V.eH;intro m
 induction m using Nat.strongRecOn with
 | _ m aY=>
  intro S l p i K hm ke aB bA;apply bw agb aqR;unfold PS ZM;have qj:=aCP aB;have x2:=aA.ids p qj;have dZ:=(aCJ.1 aB).1;have ow:=(ke.more [.cells 32 (a1 p)]).m.look hO x2 aB;have bm:=c3 x2;obtain⟨X,ce⟩:∃ X,X=a1 p:=⟨_,rfl⟩
  rw[<-ce] at ow bm ⊢;have xy:=ke.more [.cells 32 X];obtain⟨l1,gW⟩:∃ l1,l1=l++[bp.cells 32 X] :=⟨_,rfl⟩
  rw[<-gW] at xy ow;have ak1:l1[l.length]? = some (.cells 32 X) :=by rw[gW]; simp
  have gC:e4 l1 (.ptr fI 0 1)=some ([.mp kE],0) :=by simp only[e4,xy.a]; simp
  have gg:e4 l1 (.ptr lq 0 1)=some ([.av 1 hg 0 g.ids.l.length g.ids.l.length g.ids.l.length],0) :=by simp only[e4,xy.s]; simp
  have s1:e4 l1 (.ptr l.length 0 32)=some (X,0) :=by simp only[e4,ak1]; simp
  have wm:e4 l1 (.ptr hg i g.ids.l.length)=some (S.map ad.bool,i) :=by simp only[e4,xy.r]; simp
  have FM:cC (.av 1) (.av 1 hg 0 g.ids.l.length g.ids.l.length g.ids.l.length) (.int .i64 (i:Int))=some (.ptr hg i g.ids.l.length) :=by
   simp only[cC];rw[if_pos ⟨trivial,by omega,by omega⟩];simp
  obtain⟨b,ai,_⟩:=bV (l:=S) (k:=i) (by rw[ke.n]; exact dZ);have ayP:(S.map ad.bool)[i]? = some (.bool b) :=by rw[aCO,ai]; rfl
  have Kb:l1.length=l.length+1:=by rw[gW]; simp
  have Ua:∀ c,c<l.length->c≠hg->l1[c]? = l[c]?:=fun c ak _=>by rw[gW,aCK ak]
  cases b with
  | true=>
   simp[bm,<-gW,gC,gg,s1,ow,FM,wm,ai,aCI];exact bA l1 S (avP hO aB ai) xy Ua (by omega) (aCL _)
  | false=>
   have cL:kI 1 l1 (.ptr hg i g.ids.l.length) (.bool true)=some (l1.set hg (.cells g.ids.l.length ((S.set i true).map ad.bool))) :=by
    simp only[kI,ad.cells,xy.r];rw[if_pos (by simp; omega)];have ag:bO (S.map ad.bool) i [ad.bool true]=(S.set i true).map ad.bool:=oG ad.bool S i true (by rw[ke.n]; exact dZ);rw[ag]
   have Jw:=xy.set i;obtain⟨cf,gk⟩:∃ cf,cf=l1.set hg (.cells g.ids.l.length ((S.set i true).map ad.bool)) :=⟨_,rfl⟩
   rw[<-gk] at cL Jw;have mM:e4 cf (.ptr lp 1 2)=some ([bc g.ids,c8 g.ops],1) :=by simp only[e4,Jw.E0]; simp
   obtain⟨o,ax,e2⟩:=bV (l:=g.ops.l) (k:=i) (by rw[<-V.len]; exact dZ);have bZ:cC (.av 11) (c8 g.ops) (.int .i64 (i:Int))=some (.cm (bn o) 0) :=by simp[c8,ax]
   have sn:(bn o).length=11:=rfl;have ju:(bn o)[1]? = some (bc o.bN) :=rfl;have k1:=aA.ops o e2;have hu:=k1.len;have pc:c1 (.av 32) (bc o.bN)=some (.int .i64 o.bN.l.length) :=by simp[bc]
   obtain⟨O,eO⟩:∃ O,O=bn o:=⟨_,rfl⟩
   rw[<-eO] at bZ sn ju;have als:∀ c,c<l.length->c≠hg->cf[c]? = l[c]?:=fun c ak b2=>by rw[gk,aCU (Ne.symm b2)]; exact Ua c ak b2
   have Kd:l.length<=cf.length:=by rw[gk]; simp; omega
   have ayK:(S.set i true).count false+1<=S.count false:=by
    have FO:i<S.length:=by rw[ke.n]; exact dZ
    have nL:S[i]=false:=(aCJ.1 ai).2;have h5:0<S.count false:=aFC.2 (aCP ai);rw[List.count_set FO,nL];simp; omega
   simp[bm,<-gW,gC,gg,s1,ow,FM,wm,ai,aCI,cL,mM,bZ,ju,pc];refine c2 o.bN.l.length (fun q ah l'=>ah 4=.ptr kR 0 1/\ah 24=bc o.bN/\ah 25=.int .i64 o.bN.l.length/\ah 26=.int .i64 q/\∃ iC,pJ g.ids.l g.ops.l (o.bN.l.take q) (S.set i true) iC/\oO g fI lq lp kR hg kE iC l' ∧
    (∀ c,c<l.length->c≠hg->l'[c]? = l[c]?)/\l.length<=l'.length/\iC.count false<=(S.set i true).count false) ?_ ?_
   ·rintro q ah l' bD ⟨bL,BT,tH,tI,iC,xB,xx,lD,rh,lB⟩;obtain⟨ah,rfl⟩:=hW bL BT tH tI;clear bL BT tH tI;unfold Wu;by_cases ox:q<o.bN.l.length
    ·obtain⟨ch,gX,CP⟩:=bV ox;obtain⟨j,am⟩:=aCY.1 (V.LR o e2 ch CP);have a2:IntKind.i64.wrap ((q:Int)+1)=((q+1:Nat) :Int) :=by rw[IntKind.wrap_i64]; omega
     have o8:cC (.av 32) (bc o.bN) (.int .i64 (q:Int))=some (.cm (a1 ch) 0) :=by simp[bc,gX]
     have pk:=c3 ((aA.ops o e2).ids ch CP);have xA:=xx.more [.cells 32 (a1 ch)];have wn:e4 (l'++[bp.cells 32 (a1 ch)]) (.ptr kR 0 1)=some ([.fn 179 [] [.ptr fI 0 1,.ptr lq 0 1,.ptr lp 0 2,.ptr kR 0 1]],0) :=by simp only[e4,xA.v]; simp
     have jv:=aY (m - 1) (by omega) iC (l'++[bp.cells 32 (a1 ch)]) ch j;obtain⟨tn,Jy⟩:∃ tn,tn=a1 ch:=⟨_,rfl⟩
     rw[<-Jy] at o8 pk xA wn jv;have rm:bO (rep 32 (.int .u8 0)) 0 tn=tn:=fM (by rw[pk]; rfl);simp[ox,o8,pk,rm,aCI,wn];refine⟨SS,jv _ (by omega) xA am ?_⟩;intro fb HV cb w2 eF n5 qL;simp[ox,a2];refine⟨HV,?_,w2,fun c ak b2=>?_,by simp at n5; omega,by omega⟩
     ·rw[aC4,gX];exact ada xB cb
     ·rw[eF c (by simp; omega) b2,aCK (by omega)];exact lD c ak b2
    ·have qk:q=o.bN.l.length:=by omega
     rw[qk,aDi] at xB;simp[ox];exact bA l' iC (avQ hO aB (by rw[ke.n]; exact dZ) (by rw[yr ax]; exact xB)) xx lD rh (by omega)
   ·simp;exact⟨S.set i true,ac9 _ _ _,Jw,als,Kd,aCL _⟩
open Classical in
noncomputable def nr (g:cR) (L:List (List B)) :List Bool:=(List.range g.ids.l.length).map fun i=>decide (jm g.ids.l g.ops.l L i)
theorem Mm (g:cR) (L:List (List B)) :(nr g L).length=g.ids.l.length:=by simp[nr]
open Classical in
theorem atu {g:cR} {L:List (List B)} {S:List Bool} (h:pJ g.ids.l g.ops.l L (List.replicate g.ids.l.length false) S) :S=nr g L:=by
 have bu:S.length=g.ids.l.length:=by rw[h.len]; simp
 apply aDF;intro i;by_cases aB:i<g.ids.l.length
 ·have h1:=avO h i;obtain⟨b,ai,_⟩:=bV (l:=S) (k:=i) (by omega);rw[ai] at h1 ⊢;unfold nr;rw[aCO,aDN aB];simp only[aCR,Option.some.injEq] at h1 ⊢;cases b with
  | true=>exact (decide_eq_true (h1.1 rfl)).symm
  | false=>exact (decide_eq_false fun aR=>by have:=h1.2 aR; cases this).symm
 ·rw[aC0 (by omega),aC0 (by rw[Mm]; omega)]
set_option maxHeartbeats 4000000 in
theorem Mo (g:cR) (aA:ib g) (V:uV g) (L:eN) (e0:gx L) (m3:L.l.length<=1000000) (ea:∀ p∈L.l,p∈g.ids.l) :bE Tryz.prog GS 133 [de g,bc L] (c0 1 lw (some (nr g L.l))) :=by
 refine bS Tryz.checked.mixed bP ?_;apply bw afx aqd;unfold Pe Y8;have aC:c4=140737488355328:=rfl;have jY:=aA.li;have alT:c1 (.av 32) (bc L)=some (.int .i64 L.l.length) :=by simp[bc]
 have alS:c1 (.av 32) (bc g.ids)=some (.int .i64 g.ids.l.length) :=by simp[bc]
 have hO:=sJ V.eH;simp[de,dK];refine apl g aA hO ?_;intro kE l1 so zS lD rh;obtain⟨gC,rfl⟩:∃ r,l1=bp.cells 2 [bc g.ids,c8 g.ops] ::r:=Du ((lD 0 (by simp)).trans rfl);obtain⟨br,_⟩:=GJ (z:=1) (by_:=1) (n:=g.ids.l.length) (k:=.i64) (k':=.i64) (zero:=[ad.bool false]) (l:=(bp.cells 2 [bc g.ids,c8 g.ops] ::gC)++[bp.cells 1 [.mp kE]]) rfl (by omega) (by rw[aC]; omega);simp only[aEk,Mr (α:=Nat),aDG] at br;simp[alS,alT,br];obtain⟨fI,TM⟩:∃ fI,fI=gC.length+1:=⟨_,rfl⟩
 have q1:gC.length+1+1=fI+1:=by omega
 have fh:gC.length+2+1=fI+2:=by omega
 have ji:gC.length+3+1=fI+3:=by omega
 rw[q1,show fI+1+1=fI+2 from rfl,ji,<-TM];have Uo:=so.lt;simp at Uo zS;refine c2 L.l.length (fun q ah l'=>ah 6=.ptr (fI+2) 0 1/\ah 7=.ptr (fI+3) 0 1/\ah 17=bc L/\ah 18=.int .i64 L.l.length/\ah 19=.int .i64 q/\∃ iC,pJ g.ids.l g.ops.l (L.l.take q) (List.replicate g.ids.l.length false) iC/\oO g fI (fI+2) 0 (fI+3) (fI+1) kE iC l') ?_ ?_
 ·rintro q ah l' bD ⟨cv,eU,tD,tE,tF,iC,xB,xx⟩;obtain⟨ah,rfl⟩:=mR cv eU tD tE tF;clear cv eU tD tE tF;unfold Wb;by_cases ox:q<L.l.length
  ·obtain⟨ch,gX,CP⟩:=bV ox;obtain⟨j,am⟩:=aCY.1 (ea ch CP);have a2:IntKind.i64.wrap ((q:Int)+1)=((q+1:Nat) :Int) :=by rw[IntKind.wrap_i64]; omega
   have o8:cC (.av 32) (bc L) (.int .i64 (q:Int))=some (.cm (a1 ch) 0) :=by simp[bc,gX]
   have pk:=c3 (e0 ch CP);have xA:=xx.more [.cells 32 (a1 ch)];have wn:e4 (l'++[bp.cells 32 (a1 ch)]) (.ptr (fI+3) 0 1)=some ([.fn 179 [] [.ptr fI 0 1,.ptr (fI+2) 0 1,.ptr 0 0 2,.ptr (fI+3) 0 1]],0) :=by simp only[e4,xA.v]; simp
   have jv:=avJ g aA V fI (fI+2) 0 (fI+3) (fI+1) kE (iC.count false) iC (l'++[bp.cells 32 (a1 ch)]) ch j;obtain⟨tn,Jy⟩:∃ tn,tn=a1 ch:=⟨_,rfl⟩
   rw[<-Jy] at o8 pk xA wn jv;have rm:bO (rep 32 (.int .u8 0)) 0 tn=tn:=fM (by rw[pk]; rfl);simp[ox,o8,pk,rm,aCI,wn];refine⟨SS,jv _ (aCL _) xA am ?_⟩;intro fb HV cb w2 eF n5 qL;simp[ox,a2];exact⟨HV,by rw[aC4,gX]; exact ada xB cb,w2⟩
  ·have qk:q=L.l.length:=by omega
   rw[qk,aDi] at xB;have gU:=atu xB;have yu:e4 l' (.ptr (fI+2) 0 1)=some ([.av 1 (fI+1) 0 g.ids.l.length g.ids.l.length g.ids.l.length],0) :=by simp only[e4,xx.s]; simp
   simp[ox,yu];rw[<-gU];have e1:(iC.map lw).flatten=iC.map ad.bool:=by
    have:∀ t:List Bool,(t.map lw).flatten=t.map ad.bool:=fun t=>by induction t with | nil=>rfl | cons b t aY=>simp[lw,aY]
    exact this iC
   have fU:bW 1 l' (.av 1 (fI+1) 0 g.ids.l.length g.ids.l.length (g.ids.l.length*1)) (fI+1) (iC.map lw) :=AO (fun _ _=>rfl) xx.n (by rw[aEk,e1]; exact xx.r);rw[aEk] at fU;exact fU.q.mP (fun _=>rfl) (some iC) rfl rfl
 ·simp;refine⟨List.replicate g.ids.l.length false,ac9 _ _ _,?_⟩;subst TM;refine⟨by simp,by simp,by simp,by simp,so.frame (by rw[<-aDG]; exact aCK (by simpa using Uo)),by simp,by simp,by omega⟩
noncomputable def mX (g:cR) (i:Nat) :List (List B) :=nV g.ids.l (nr g (dR g.ops.l i)) g.ids.l.length
set_option maxHeartbeats 2000000 in
theorem aeg (g:cR) (aA:ib g) (V:uV g) (aG:gR g=0) (x:List B) (i:Nat) (aB:g.ids.l[i]? = some x) :bE Tryz.prog GS 84 [de g,.aM (a1 x)] (.b5 [bc (hn (mX g i)),.int .i64 0]) :=by
 refine bS Tryz.checked.mixed bP ?_;apply bw ahR asA;unfold Ry abs;have dT:=aCP aB;have al:=aA.ids x dT;have dY:=eZ g.ids;have cQ:=ml g.ops;have ow:=aor g aA x al;have rh:Gy g x=i:=by unfold Gy; rw[if_pos aG,if_pos dT,w4 V.eH aB]
 have eD:Gx g x=0:=by unfold Gx; rw[if_pos aG,if_pos dT]
 rw[rh,eD] at ow;have eu:=fK x;have bm:=c3 al;have dZ:=(aCJ.1 aB).1;obtain⟨o,ax,e2⟩:=bV (l:=g.ops.l) (k:=i) (by rw[<-V.len]; exact dZ);have bZ:cC (.av 11) (c8 g.ops) (.int .i64 (i:Int))=some (.cm (bn o) 0) :=by simp[c8,ax]
 have ju:(bn o)[1]? = some (bc o.bN) :=rfl;have CS:=Mo g aA V o.bN (aA.ops o e2).ids (aA.ops o e2).len (V.LR o e2);have zV:=aoE g aA (some (nr g o.bN.l)) (by simp[Mm]);have zD:mX g i=nV g.ids.l (nr g o.bN.l) (nr g o.bN.l).length:=by unfold mX; rw[yr ax,Mm]
 have gw:(c0 1 lw (some (nr g o.bN.l))).closed=true:=ve (fun _=>rfl) _;have iJ:=eZ o.bN;obtain⟨X,ce⟩:∃ X,X=a1 x:=⟨_,rfl⟩
 obtain⟨O,eO⟩:∃ O,O=bn o:=⟨_,rfl⟩
 obtain⟨M,nI⟩:∃ M,M=c0 1 lw (some (nr g o.bN.l)) :=⟨_,rfl⟩
 rw[<-ce] at ow eu bm ⊢;rw[<-eO] at bZ ju;rw[<-nI] at CS zV gw;rw[dX.Gt,<-zD] at zV;unfold de dK at ow CS zV;simp[de,dK,bm,aCI];refine a8 ow (by simp[a7,ad.closed,dY,cQ,eu]) ?_;simp[bZ,ju];refine a8 CS (by simp[a7,ad.closed,dY,cQ,iJ]) ?_;simp;refine a8 zV (by simp[a7,ad.closed,dY,cQ,gw]) ?_;simp;exact aJ rfl (by simp[ad.closed,a7,eZ])
theorem anM {l:List (List B)} (am:kK l) {i:Nat} {x:List B} (aB:l[i]? = some x) :g3 x l 0=(i:Int) :=by
 have:=vU (n:=0) aB (fun t z aQ az l9=>by subst l9; have:=am t i z az aB; omega) rfl;simpa using this
theorem abN (g:cR) (aA:ib g) (am:kK g.ids.l) {i:Nat} {x:List B} {o:bJ} (aB:g.ids.l[i]? = some x) (ax:g.ops.l[i]? = some o) :bE Tryz.prog GS 35 [de g,.aM (a1 x)] (.aM (bn o)) :=by
 refine bS Tryz.checked.mixed bP ?_;apply bw ahe arW;unfold QV aaO;have al:=aA.ids x (aCP aB);have dY:=eZ g.ids;have eu:=fK x;have bm:=c3 al;have e9:=Mf g.ids aA.ids aA.li x al;rw[anM am aB] at e9;have dZ:=(aCJ.1 ax).1;have fY:c1 (.av 11) (c8 g.ops)=some (.int .i64 g.ops.l.length) :=by simp[c8]
 have bZ:cC (.av 11) (c8 g.ops) (.int .i64 (i:Int))=some (.cm (bn o) 0) :=by simp[c8,ax]
 have cH:(bn o).length=11:=rfl;have cQ:=i6 o;have h1:¬ (i:Int)<0:=by omega
 have ag:¬ (g.ops.l.length:Int)<=(i:Int) :=by omega
 obtain⟨X,ce⟩:∃ X,X=a1 x:=⟨_,rfl⟩
 obtain⟨O,eO⟩:∃ O,O=bn o:=⟨_,rfl⟩
 rw[<-ce] at e9 eu bm ⊢;rw[<-eO] at bZ cH cQ ⊢;have ng:bO [ad.int .u32 0,.aK,.int .u64 0,.int .u8 0,.str [],.int .u8 0,.int .i64 0,.int .u64 0,.str [],.int .u32 0,.int .u32 0] 0 O=O:=fM (by rw[cH]; rfl);simp[de,dK,bm,aCI];refine a8 e9 (by simp[a7,ad.closed,dY,eu]) ?_;simp[h1,ag,dZ,fY,bZ,cH,ng,aCI];exact aJ rfl (by simp[ad.closed,cQ])
structure Bj (ids:List (List B)) (ops:List bJ) (i:Nat) (x:List B) (out next:List (List B)) :Prop where
 md:out.Nodup
 nq:∀ p∈out,∃ j,ids[j]? = some p/\jm ids ops (dR ops i) j
 rB:∀ q∈next,q=x\/q∈out
 r6:∀ q,(q=x\/q∈out)->q∉next->∀ (j:Nat),ids[j]? = some q->∀ p∈dR ops j,p∈out
theorem awg {ids:List (List B)} {ops:List bJ} {i:Nat} {x:List B}:Bj ids ops i x [] [x] :=
 ⟨List.nodup_nil,fun p aF=>by simp at aF,fun q bD=>by simp at bD; exact .inl bD,fun q bD aI=>by
  rcases bD with rfl | bD
  ·exact absurd (by simp) aI
  ·cases bD⟩
theorem awe {ids:List (List B)} {ops:List bJ} {i:Nat} {x:List B} {out:List (List B)} (aB:ids[i]? = some x) (h:Bj ids ops i x out []) (j:Nat) (p:List B) (am:ids[j]? = some p) (hO:kK ids) :p∈out<->jm ids ops (dR ops i) j:=by
 constructor
 ·intro aF;obtain⟨cx,fp,aC⟩:=h.nq p aF;rw[hO j cx p am fp];exact aC
 ·intro aC;have:∀ {t:Nat},jm ids ops (dR ops i) t->∀ q,ids[t]? = some q->q∈out:=by
   intro t aQ
   induction aQ with
   | start p j aF am=>
    intro q bD;rw[am] at bD;obtain rfl:=Option.some.inj bD;exact h.r6 x (.inl rfl) (by simp) i aB p aF
   | step k4 p j aC aF am aY=>
    intro q bD;rw[am] at bD;obtain rfl:=Option.some.inj bD;have dZ:∃ y,ids[k4]? = some y:=by
     cases aC with
     | start ch _ gX fp=>exact⟨ch,fp⟩
     | step Vr ch _ lH gX fp=>exact⟨ch,fp⟩
    obtain⟨y,aE⟩:=dZ;exact h.r6 y (.inr (aY y aE)) (by simp) k4 aE p aF
  exact this aC p am
structure uZ (ids:List (List B)) (ops:List bJ) (i:Nat) (x:List B) (q:List B) (j k:Nat) (out next:List (List B)) :Prop where
 md:out.Nodup
 nq:∀ p∈out,∃ t,ids[t]? = some p/\jm ids ops (dR ops i) t
 L9:q=x\/q∈out
 rB:∀ r∈next,r=x\/r∈out
 r6:∀ r,(r=x\/r∈out)->r∉next->r≠q->∀ (t:Nat),ids[t]? = some r->∀ p∈dR ops t,p∈out
 L8:∀ p∈(dR ops j).take k,p∈out
theorem awk {ids:List (List B)} {ops:List bJ} {i:Nat} {x q:List B} {j:Nat} {out next:List (List B)} (h:Bj ids ops i x out (q::next)) :uZ ids ops i x q j 0 out next:=
 ⟨h.md,h.nq,h.rB q (by simp),fun r aC=>h.rB r (by simp[aC]),fun r aC aI b2=>h.r6 r aC (by simp[aI,b2]),fun p aF=>by simp at aF⟩
theorem awi {ids:List (List B)} {ops:List bJ} (hO:kK ids) {i:Nat} {x q:List B} {j:Nat} {out next:List (List B)} (bD:ids[j]? = some q) (h:uZ ids ops i x q j (dR ops j).length out next) :Bj ids ops i x out next:=by
 refine⟨h.md,h.nq,h.rB,fun r aC aI t aQ p aF=>?_⟩;by_cases U6:r=q
 ·subst U6;rw[hO t j r aQ bD] at aF;exact h.L8 p (by rw[aDi]; exact aF)
 ·exact h.r6 r aC aI U6 t aQ p aF
theorem awj {ids:List (List B)} {ops:List bJ} {i:Nat} {x q:List B} {j k:Nat} {out next:List (List B)} {p:List B} (h:uZ ids ops i x q j k out next) (aF:(dR ops j)[k]? = some p) (ax:p∈out) :uZ ids ops i x q j (k+1) out next:=by
 refine⟨h.md,h.nq,h.L9,h.rB,h.r6,fun r aC=>?_⟩;rw[aC4,aF,aDr] at aC;rcases aC with aC | aC
 ·exact h.L8 r aC
 ·simp at aC; subst aC; exact ax
theorem adh {ids:List (List B)} {ops:List bJ} (hO:kK ids) {i:Nat} {x q:List B} {j k:Nat} {out next:List (List B)} {p:List B} {t:Nat} (h:uZ ids ops i x q j k out next) (aB:ids[i]? = some x) (bD:ids[j]? = some q) (aF:(dR ops j)[k]? = some p) (aQ:ids[t]? = some p) (ax:p∉out) :
  uZ ids ops i x q j (k+1) (out++[p]) (next++[p]) :=by
 have qj:=aCP aF;refine⟨?_,fun r aC=>?_,h.L9.imp_right fun aR=>by simp[aR],fun r aC=>?_,fun r aC aI b2 u aS ch gX=>?_,fun r aC=>?_⟩
 ·rw[aEx];refine⟨h.md,by simp,fun a aD b ai e=>?_⟩;rw[aDm] at ai;subst e;rw[ai] at aD;exact ax aD
 ·rw[aDr,aDm] at aC;rcases aC with aC | rfl
  ·exact h.nq r aC
  ·refine⟨t,aQ,?_⟩;rcases h.L9 with amC | amB
   ·subst amC;rw[hO j i q bD aB] at qj;exact .start r t qj aQ
   ·obtain⟨cx,fp,lH⟩:=h.nq q amB;rw[hO cx j q fp bD] at lH;exact .step j r t lH qj aQ
 ·rw[aDr,aDm] at aC;rcases aC with aC | rfl
  ·exact (h.rB r aC).imp_right fun aR=>by simp[aR]
  ·exact .inr (by simp)
 ·have tZ:r≠p:=fun e=>aI (by simp[e])
  have lH:r=x\/r∈out:=aC.imp_right fun aR=>by
   rw[aDr,aDm] at aR;exact aR.resolve_right tZ
  have:=h.r6 r lH (fun aR=>aI (by simp[aR])) b2 u aS ch gX;simp[this]
 ·rw[aC4,aF,aDr] at aC;rcases aC with aC | aC
  ·have:=h.L8 r aC; simp[this]
  ·simp at aC; simp[aC]
theorem MR:∀ {a b:List (List B)},a.Nodup->(∀ x∈a,x∈b)->a.length<=b.length
 | [],_,_,_=>aD5 _
 | x::a,b,aI,ap=>by
  rw[aE8] at aI;have al:=ap x (by simp);have aY:=MR (b:=b.erase x) aI.2 (fun y aE=>(List.mem_erase_of_ne (fun e=>aI.1 (by rw[<-e]; exact aE))).2 (ap y (by simp[aE])));rw[aFY al] at aY;have:=List.length_pos_of_mem al;simp; omega
structure oK (pre:aw) (v5 eA:ad) (out next:List (List B)) (b:Nat) (rest:aw) :Prop where
 ex:∃ hf hP,eJ 32 (pre++rest) v5 hf (out.map a1)/\eJ 32 (pre++rest) eA hP (next.map a1)/\(v5=.aK\/(pre.length<=hf/\hf≠hP/\hf≠b))/\pre.length<=hP/\hP≠b/\cX v5=out.isEmpty/\cX eA=false
theorem oK.apy {pre:aw} {v5 eA:ad} {out next:List (List B)} {b:Nat} {rest:aw} (h:oK pre v5 eA out next b rest) (ai:b<(pre++rest).length) {p:List B} (aF:p.length=32) (eb:(out.length+1)*32<=c4) :
  ∃ bl dU,g8 (pre++(rest++[.cells 32 (a1 p)])) 32 32 v5 (.av 32 (pre.length+rest.length) 0 1 1 32)=some (bl,pre++dU)/\oK pre bl eA (out++[p]) next b dU/\(pre++dU)[b]? = (pre++rest)[b]?/\b<(pre++dU).length:=by
 obtain⟨hf,hP,jE,pp,bd,bM,xm,mc,n6⟩:=h;have hu:=c3 aF;have hm:pre++(rest++[bp.cells 32 (a1 p)])=(pre++rest)++[bp.cells 32 (a1 p)] :=by rw[aDa]
 have LO:eJ 32 (pre++(rest++[bp.cells 32 (a1 p)])) v5 hf (out.map a1) :=by rw[hm]; exact jE.more _
 have LP:eJ 32 (pre++(rest++[bp.cells 32 (a1 p)])) eA hP (next.map a1) :=by rw[hm]; exact pp.more _
 obtain⟨bl,cx,dU,aW,bg,bj,bL,bC,cv⟩:=N4 (by_:=32) LO (bd.imp_right fun h=>h.1) (x:=.av 32 (pre.length+rest.length) 0 1 1 32) (xs:=[a1 p]) (by
  have:(pre++(rest++[bp.cells 32 (a1 p)]))[pre.length+rest.length]? = some (.cells 32 (a1 p)) :=by
   rw[hm,aCT (by simp)]; simp
  simp only[dL,this];simp[hu,aCI]) (by simp[hu]) (by omega) (by omega) (by simpa using eb)
 have gE:cX bl=false:=by rw[bL]; simp
 have b2:bl≠.aK:=fun e=>by rw[e] at gE; cases gE
 have rh:(pre++(rest++[bp.cells 32 (a1 p)])).length=(pre++rest).length+1:=by simp; omega
 have ayV:hP<(pre++rest).length:=by
  rcases pp.lt with e | e
  ·rw[e] at n6; cases n6
  ·exact e
 have f6:v5=.aK\/hP≠hf:=bd.imp_right fun h=>Ne.symm h.2.1
 have ajv:v5=.aK\/b≠hf:=bd.imp_right fun h=>Ne.symm h.2.2
 have AU:=bC hP (by omega) f6;have DF:=bC b (by omega) ajv;have ax:(pre++(rest++[bp.cells 32 (a1 p)]))[b]? = (pre++rest)[b]?:=by rw[hm,aCK ai]
 refine⟨bl,dU,aW,⟨⟨cx,hP,by rw[aDe]; exact bg,LP.nF (.inr AU),.inr ⟨bj.resolve_left b2,?_,?_⟩,bM,xm,by rw[gE]; simp,n6⟩⟩,DF.trans ax,?_⟩
 ·rcases cv.resolve_left b2 with ⟨a2,b7⟩ | e
  ·rw[b7]; exact (bd.resolve_left a2).2.1
  ·omega
 ·rcases cv.resolve_left b2 with ⟨a2,b7⟩ | e
  ·rw[b7]; exact (bd.resolve_left a2).2.2
  ·omega
 ·have:=DF.trans ax;have fC:(pre++rest)[b]?≠none:=by rw[aCM ai]; simp
  rw[<-this] at fC;exact Nat.lt_of_not_le fun h=>fC (aC0 h)
theorem oK.apz {pre:aw} {v5 eA:ad} {out next:List (List B)} {b:Nat} {rest:aw} (h:oK pre v5 eA out next b rest) (ai:b<(pre++rest).length) {p:List B} (aF:p.length=32) (eb:(next.length+1)*32<=c4) :
  ∃ bl dU,g8 (pre++(rest++[.cells 32 (a1 p)])) 32 32 eA (.av 32 (pre.length+rest.length) 0 1 1 32)=some (bl,pre++dU)/\oK pre v5 bl out (next++[p]) b dU/\(pre++dU)[b]? = (pre++rest)[b]?/\b<(pre++dU).length:=by
 obtain⟨hf,hP,jE,pp,bd,bM,xm,mc,n6⟩:=h;have hu:=c3 aF;have hm:pre++(rest++[bp.cells 32 (a1 p)])=(pre++rest)++[bp.cells 32 (a1 p)] :=by rw[aDa]
 have LO:eJ 32 (pre++(rest++[bp.cells 32 (a1 p)])) v5 hf (out.map a1) :=by rw[hm]; exact jE.more _
 have LP:eJ 32 (pre++(rest++[bp.cells 32 (a1 p)])) eA hP (next.map a1) :=by rw[hm]; exact pp.more _
 obtain⟨bl,cx,dU,aW,bg,bj,bL,bC,cv⟩:=N4 (by_:=32) LP (.inr bM) (x:=.av 32 (pre.length+rest.length) 0 1 1 32) (xs:=[a1 p]) (by
  have:(pre++(rest++[bp.cells 32 (a1 p)]))[pre.length+rest.length]? = some (.cells 32 (a1 p)) :=by
   rw[hm,aCT (by simp)]; simp
  simp only[dL,this];simp[hu,aCI]) (by simp[hu]) (by omega) (by omega) (by simpa using eb)
 have gE:cX bl=false:=by rw[bL]; simp
 have b2:bl≠.aK:=fun e=>by rw[e] at gE; cases gE
 have rh:(pre++(rest++[bp.cells 32 (a1 p)])).length=(pre++rest).length+1:=by simp; omega
 have DF:=bC b (by omega) (.inr (Ne.symm xm));have ax:(pre++(rest++[bp.cells 32 (a1 p)]))[b]? = (pre++rest)[b]?:=by rw[hm,aCK ai]
 have Un:cx=hP\/(pre++rest).length+1<=cx:=(cv.resolve_left b2).imp (fun h=>h.2) (fun h=>by omega);refine⟨bl,dU,aW,⟨⟨hf,cx,?_,by rw[aDe]; exact bg,?_,bj.resolve_left b2,?_,mc,gE⟩⟩,DF.trans ax,?_⟩
 ·rcases bd with e | ⟨a2,b7,dG⟩
  ·subst e;rw[jE.rz]; exact .nil _
  ·refine LO.nF ?_;rcases jE.lt with e | e
   ·exact .inl e
   ·exact .inr (bC hf (by omega) (.inr b7))
 ·rcases bd with e | ⟨a2,b7,dG⟩
  ·exact .inl e
  ·rcases jE.lt with e | e
   ·exact .inl e
   ·refine .inr ⟨a2,?_,dG⟩;rcases Un with h | h<;>omega
 ·rcases Un with h | h<;>omega
 ·have:=DF.trans ax;have fC:(pre++rest)[b]?≠none:=by rw[aCM ai]; simp
  rw[<-this] at fC;exact Nat.lt_of_not_le fun h=>fC (aC0 h)
theorem oK.awh {pre:aw} {v5 eA:ad} {out next:List (List B)} {b:Nat} {rest:aw} (h:oK pre v5 eA out next b rest) (aF:1<=pre.length) :oK pre v5 eA out next 0 rest:=by
 obtain⟨hf,hP,jE,pp,bd,bM,xm,mc,n6⟩:=h;exact⟨⟨hf,hP,jE,pp,bd.imp_right fun h=>⟨h.1,h.2.1,by omega⟩,bM,by omega,mc,n6⟩⟩
theorem adf {ids:List (List B)} {ops:List bJ} {i:Nat} {x q:List B} {j k:Nat} {out next:List (List B)} (h:uZ ids ops i x q j k out next) :out.length<=ids.length:=MR h.md fun p aF=>by
 obtain⟨t,aQ,_⟩:=h.nq p aF;exact aCP aQ
structure adr (g:cR) (pre:aw) (o:bJ) (b m i:Nat) (x q:List B) (j:Nat) (k:Nat) (ah:bB) (l:aw) :Prop where
 bg:ah 2=.ptr 0 0 2
 eU:ah 7=.ptr b 0 11
 et:ah 8=.int .i64 k
 ex:∃ out next rest,l=pre++rest/\oK pre (ah 5) (ah 6) out next b rest/\(pre++rest)[b]? = some (.cells 11 (bn o))/\uZ g.ids.l g.ops.l i x q j k out next/\2*(g.ids.l.length - out.length)+next.length+1<=m
structure ads (g:cR) (pre:aw) (i:Nat) (x:List B) (m:Nat) (ah:bB) (l:aw) :Prop where
 bg:ah 2=.ptr 0 0 2
 ex:∃ out next rest,l=pre++rest/\oK pre (ah 5) (ah 6) out next 0 rest/\Bj g.ids.l g.ops.l i x out next/\m=2*(g.ids.l.length - out.length)+next.length
 le:m<=1000
set_option maxHeartbeats 8000000 in
theorem ad8 (g:cR) (aA:ib g) (V:uV g) {i:Nat} {x:List B} (aB:g.ids.l[i]? = some x) :
  dS Tryz.prog GS 101 [de g,.aM (a1 x)] [] (c:=⟨fun r l=>∃ out,(∀ (j:Nat) (p:List B),g.ids.l[j]? = some p->(p∈out<->jm g.ids.l g.ops.l (dR g.ops.l i) j))/\(∀ p∈out,p∈g.ids.l)/\out.length<=g.ids.l.length/\Rd l r (bc (hn out))⟩) :=by
 apply bw ae2 apI;unfold OH YD;have aC:c4=140737488355328:=rfl;have jY:=aA.li;have hO:=sJ V.eH;have al:=aA.ids x (aCP aB);have bm:=c3 al;have dY:=eZ g.ids;have cQ:=ml g.ops;have ay4:=V.n60;have bu:=V.len;obtain⟨pre,FZ⟩:∃ pre,pre=[bp.cells 2 [bc g.ids,c8 g.ops],bp.cells 32 (a1 x)] :=⟨_,rfl⟩
 have sC:pre.length=2:=by rw[FZ]; rfl
 have l4:∀ rest,e4 (pre++rest) (.ptr 0 0 2)=some ([bc g.ids,c8 g.ops],0) :=fun rest=>by rw[FZ]; simp
 have xn:oK pre .aK (.av 32 2 0 1 1 32) [] [x] 0 [.cells 32 (a1 x)] :=by
  refine⟨⟨0,2,.nil 0,?_,.inl rfl,by omega,by omega,rfl,rfl⟩⟩;refine bW.q (.av 2 1 1 32 (a1 x) _ (by rw[FZ]; rfl) bm rfl (fun e au=>by simp at au; rw[au]; exact bm) (aCL _) (by omega) ?_);rw[aCI (by rw[bm]; omega)]; simp
 have vN:bO (rep 32 (.int .u8 0)) 0 (a1 x)=a1 x:=fM (by rw[bm]; rfl);simp[de,dK,bm,vN,aCI];refine rv (ads g pre i x) ?_ (2*g.ids.l.length+1) _ _ ?_
 ·rintro m ah l ⟨bg,⟨out,next,rest,rfl,c9,gv,hm⟩,g2⟩;obtain⟨v5,bC⟩:∃ v,ah 5=v:=⟨_,rfl⟩
  obtain⟨eA,cv⟩:∃ v,ah 6=v:=⟨_,rfl⟩
  rw[bC,cv] at c9;obtain⟨ah,rfl⟩:=jJ bg bC cv;clear bg bC cv;unfold VV;obtain⟨hf,hP,jE,pp,bd,bM,xm,mc,n6⟩:=id c9.ex;have Uw:c1 (.av 32) eA=some (.int .i64 next.length) :=by have:=pp.len; simpa using this
  cases next with
  | nil=>
   simp[Uw];refine⟨out,fun j p am=>awe aB gv j p am hO,fun p aF=>?_,?_,?_⟩
   ·obtain⟨t,aQ,_⟩:=gv.nq p aF;exact aCP aQ
   ·exact MR gv.md fun p aF=>by
     obtain⟨t,aQ,_⟩:=gv.nq p aF;exact aCP aQ
   ·exact jE.mP (fun x=>fK x) (hn out) (by rw[mc,A3]) (jH _)
  | cons q rB=>
   have U0:q∈g.ids.l:=by
    rcases gv.rB q (by simp) with e | e
    ·rw[e]; exact aCP aB
    ·obtain⟨t,aQ,_⟩:=gv.nq q e; exact aCP aQ
   obtain⟨j,am⟩:=aCY.1 U0;have eW:=(aCJ.1 am).1;obtain⟨o,ax,e2⟩:=bV (l:=g.ops.l) (k:=j) (by rw[<-V.len]; exact eW);have amx:=aA.ids q U0;have ox:=c3 amx;have gN:=abN g aA hO am ax;have cH:(bn o).length=11:=rfl;have ju:(bn o)[1]? = some (bc o.bN) :=rfl;have k1:=aA.ops o e2;have azc:=k1.len;have pc:c1 (.av 32) (bc o.bN)=some (.int .i64 o.bN.l.length) :=by simp[bc]
   have rk:dR g.ops.l j=o.bN.l:=yr ax;obtain⟨L0,y2,Bd,br,bI,a3,a4⟩:=pp.get (k:=.i64) (i:=0) (e:=a1 q) (by simp);obtain⟨rM,dE,dA,iD⟩:=pp.from n6 (k:=.i64) (i:=1) (by simp);have wX:cC (.av 32) eA (.int .i64 0)=some L0:=br;have Bo:g5 (.av 32) eA (some (.int .i64 1)) none none=some rM:=dE;obtain⟨O,eO⟩:∃ O,O=bn o:=⟨_,rfl⟩
   obtain⟨Q,xv⟩:∃ Q,Q=a1 q:=⟨_,rfl⟩
   have T1:=fK q;rw[<-eO] at gN cH ju;rw[<-xv] at a4 gN T1 ox;unfold de dK at gN;obtain⟨b,ai⟩:∃ b,b=pre.length+rest.length:=⟨_,rfl⟩
   have fo:(pre++rest).length=b:=by rw[ai]; simp
   obtain⟨Z,TF⟩:∃ Z,Z=[ad.int .u32 0,.aK,.int .u64 0,.int .u8 0,.str [],.int .u8 0,.int .i64 0,.int .u64 0,.str [],.int .u32 0,.int .u32 0] :=⟨_,rfl⟩
   have JB:Z.length=11:=by rw[TF]; rfl
   have ng:bO Z 0 O=O:=fM (by rw[cH,JB]);have fe:∀ y,(pre++(rest++[y]))[b]? = some y:=fun y=>by rw[ai,<-aDa,aCT (by simp)]; simp
   have p0:∀ y z:bp,(pre++(rest++[y])).set b z=pre++(rest++[z]) :=fun y z=>by rw[ai,<-aDa,aDu _ _ (by simp)]; simp
   have cL:kI 11 (pre++(rest++[bp.cells 11 Z])) (.ptr b 0 11) (.aM O)=some (pre++(rest++[bp.cells 11 O])) :=by
    simp only[acE,fe,RP,aEp,auP];rw[if_pos (by simp[cH]),p0,ng]
   simp[Uw,l4,wX,bI,a3,a4,ox,aCI,<-TF,<-ai,JB];refine a8 gN (by simp[a7,ad.closed,dY,cQ,T1]) ?_;have F7:=cL;simp only[acE,RP,aEp] at F7;have J4:hP<b:=by
    rcases pp.lt with e | e
    ·rw[e] at n6; cases n6
    ·rw[fo] at e; exact e
   have E7:oK pre v5 rM out rB b (rest++[bp.cells 11 O]) :=by
    refine⟨⟨hf,hP,?_,?_,?_,bM,by omega,mc,iD⟩⟩
    ·rw[<-aDa]; exact jE.more _
    ·rw[<-aDa];have:eJ 32 (pre++rest) rM hP (rB.map a1) :=by simpa using dA
     exact this.more _
    ·rcases bd with e | ⟨a2,b7,dG⟩
     ·exact .inl e
     ·rcases jE.lt with e | e
      ·exact .inl e
      ·exact .inr ⟨a2,b7,by rw[fo] at e; omega⟩
   simp[fo,fe,F7,Bo,JB,<-ai,p0,ng,cH];refine c2 o.bN.l.length (adr g pre o b m i x q j) ?_ ⟨by simp,by simp,by simp,out,rB,_,rfl,by simpa using E7,by rw[<-eO]; exact fe _,awk gv,by simp at hm; omega⟩;clear c9 gv hm jE pp bd bM xm mc n6 E7;rintro k ah l hk ⟨bg,eU,et,out,next,rest,rfl,c9,oo,vu,amu⟩;obtain⟨v5,bC⟩:∃ v,ah 5=v:=⟨_,rfl⟩
   obtain⟨eA,cv⟩:∃ v,ah 6=v:=⟨_,rfl⟩
   rw[bC,cv] at c9;obtain⟨ah,rfl⟩:=mR bg bC cv eU et;clear bg bC cv eU et;unfold VU;rw[<-eO] at oo;have ayE:=oo;by_cases dt:k<o.bN.l.length
   ·obtain⟨p,aF,qj⟩:=bV dt;have vI:=V.LR o e2 p qj;obtain⟨t,aQ⟩:=aCY.1 vI;have x2:=aA.ids p vI;have hu:=c3 x2;have a2:IntKind.i64.wrap ((k:Int)+1)=((k+1:Nat) :Int) :=by rw[IntKind.wrap_i64]; omega
    have o8:cC (.av 32) (bc o.bN) (.int .i64 (k:Int))=some (.cm (a1 p) 0) :=by simp[bc,aF]
    obtain⟨hf,hP,jE,pp,bd,bM,xm,mc,n6⟩:=id c9.ex;have nf:=jE.mO (enc:=a1) (xs:=out) (fun x=>fK x) (hn out) (by rw[mc,A3]) (jH _);have ay7:=adf vu;have fa:gx (hn out) :=fun y aE=>by
     rw[jH] at aE;obtain⟨u,aS,_⟩:=vu.nq y aE;exact aA.ids y (aCP aS)
    have ea:=Hb (hn out) fa (by rw[jH]; omega) p x2;rw[jH] at ea;have iJ:=fK p;have CO:(dR g.ops.l j)[k]? = some p:=by rw[rk]; exact aF
    obtain⟨Y,dB⟩:∃ Y,Y=a1 p:=⟨_,rfl⟩
    rw[<-dB] at ea o8 hu iJ;have U9:bO (rep 32 (.int .u8 0)) 0 Y=Y:=fM (by rw[hu]; rfl);simp[pc,oo,ju,dt,o8,hu,aCI];refine i3 ea (.cons nf (.cons (.same _ (by simp[ad.closed,iJ])) .nil)) rfl ?_;by_cases k1:p∈out
    ·simp[k1,a2];exact⟨dt,by simp,by simp,by simp,out,next,rest,rfl,by simpa using c9,by rw[<-eO]; exact oo,awj vu CO k1,amu⟩
    ·have akV:b<(pre++rest).length:=(aCJ.1 oo).1;have ay8:out.length+1<=g.ids.l.length:=adf (adh hO vu aB am CO aQ k1) |> fun h=>by simpa using h
     obtain⟨aCC,s1,lk,mQ,Nd,ac1⟩:=c9.apy akV x2 (by rw[aC]; omega);obtain⟨rM,wm,cb,w2,eF,n5⟩:=mQ.apz ac1 x2 (by rw[aC]; omega);have TQ:(pre++s1)[b]? = some (.cells 11 O) :=by rw[Nd]; exact oo
     have akX:(pre++wm)[b]? = some (.cells 11 O) :=by rw[eF]; exact TQ
     rw[<-dB] at lk cb;simp[k1,oo,ju,o8,hu,U9,aCI,lk];refine dx.c6 ?_;simp[TQ,ju,o8,hu,U9,aCI,cb];refine dx.c6 ?_;simp[a2];exact⟨dt,by simp,by simp,by simp,out++[p],next++[p],wm,rfl,by simpa using w2,by rw[<-eO]; exact akX,adh hO vu aB am CO aQ k1,by simp; omega⟩
   ·simp[pc,oo,ju,dt];have alR:k=(dR g.ops.l j).length:=by rw[rk]; omega
    rw[alR] at vu;exact⟨_,by omega,by simp,⟨out,next,rest,rfl,by simpa using c9.awh (by omega),awi hO am vu,rfl⟩,by omega⟩
 ·exact⟨by simp,⟨[],[x],[.cells 32 (a1 x)],by rw[FZ]; rfl,by simpa using xn,awg,by simp⟩,by omega⟩
structure bF where
 key:List UInt8
 id:List B
 deriving DecidableEq
def b3 (t:bF) :List ad:=.str t.key::a1 t.id
abbrev e7:=dX bF
def cE (s:e7) :ad:=c0 33 b3 s
def gY (l:List bF) :Prop:=∀ t∈l,t.id.length=32
theorem iI {t:bF} (h:t.id.length=32) :(b3 t).length=33:=by simp[b3,c3 h]
theorem lW (t:bF) :a7 (b3 t)=true:=by simp[b3,a7,ad.closed,fK]
theorem lv (s:e7) :(cE s).closed=true:=ve lW s
abbrev fi (a b:List UInt8) :Bool:=Go.Op.bytesLess a b
theorem uG (a b:List UInt8) :fi a b=true<->a<b:=by unfold fi; rw[Go.Proofs.bytesLess_eq]; simp
@[simp] theorem axg (a b:List UInt8) :ob .lss a b=some (.bool (fi a b)) :=id rfl
@[simp] theorem axf (a b:List UInt8) :ob .gtr a b=some (.bool (!(fi a b||decide (a=b)))) :=by
 by_cases h:a=b<;>simp[ob,h]
def pQ (a b:List UInt8) :Int:=if fi a b then -1 else if a=b then 0 else 1
theorem XJ (a:List UInt8) :bE Tryz.prog GS 190 [.str a] (.bool false) :=by
 refine bS Tryz.checked.mixed bP ?_;apply bw agf aqV;unfold PW ZO;simp;exact aJ rfl rfl
theorem RZ (a b:List UInt8) :bE Tryz.prog GS 137 [.str a,.str b] (.int .i64 (pQ a b)) :=by
 refine bS Tryz.checked.mixed bP ?_;apply bw afz aqf;unfold Pg Za pQ;simp;refine a8 (XJ a) rfl ?_;simp;refine a8 (XJ b) rfl ?_;cases h1:fi a b with
 | true=>
  simp[h1];exact aJ rfl rfl
 | false=>
  by_cases ag:a=b
  ·subst ag;simp[h1];exact aJ rfl rfl
  ·simp[h1,ag];exact aJ rfl rfl
def we (a b:Int) :Int:=if a=0 then b else a
theorem abT {l:aw} {b:Nat} {x y:Int} (h:l[b]? = some (.cells 2 [.int .i64 x,.int .i64 y])) :gH (cj l) (.av 1 b 0 2 2 2) (.cr 1 [[.int .i64 x],[.int .i64 y]]) :=by
 refine DL (rest:=[]) (es:=[[.int .i64 x],[.int .i64 y]]) (by simpa using h) rfl (by simp) (by simp[a7,ad.closed])
theorem X2 (x y:Int) :bE Tryz.prog GS 136 [.cr 1 [[.int .i64 x],[.int .i64 y]]] (.int .i64 (we x y)) :=by
 refine bS Tryz.checked.mixed bP ?_;apply bw afy aqe;unfold Pf Y9 we;simp;obtain⟨X,ce⟩:∃ X,X=ad.cr 1 [[.int .i64 x],[.int .i64 y]] :=⟨_,rfl⟩
 rw[<-ce];refine c2 2 (fun k ah l=>ah 3=.int .i64 0/\ah 6=X/\ah 7=.int .i64 2/\ah 8=.int .i64 k/\(1<=k->x=0)/\(2<=k->y=0)) ?_ (by simp[ce]);rintro k ah l hk ⟨bj,cv,eU,et,h1,ag⟩;obtain⟨ah,rfl⟩:=hW bj cv eU et;clear bj cv eU et;unfold Wc;rcases k with _ | _ | k
 ·by_cases al:x=0
  ·simp[ce,al]; exact rfl
  ·simp[ce,al]; exact aJ rfl rfl
 ·have al:=h1 (by omega);by_cases aE:y=0
  ·simp[ce,al,aE]; exact rfl
  ·simp[ce,al,aE]; exact aJ rfl rfl
 ·obtain rfl:k=0:=by omega
  have al:=h1 (by omega);have aE:=ag (by omega);simp[ce,al,aE]; exact aJ rfl rfl
def qW (a b:bF) :Int:=we (pQ a.key b.key) (cI a.id b.id)
def gF (a b:bF) :Bool:=if a.key=b.key then decide (cI a.id b.id<0) else fi a.key b.key
theorem X7 {l:aw} {j:Nat} {c:ad} {a:List B} (aD:a.length=32) (am:l[j]? = some (.cells 33 (c::a1 a))) :eJ 1 l (.av 1 j 1 32 32 33) j (a.map cu) :=by
 refine .av j 1 32 32 33 (c::a1 a) _ am (by simp[a1,aD]) (by simp[aD]) (fun e au=>?_) (aCL _) (by omega) ?_
 ·obtain⟨x,_,rfl⟩:=aC9.1 au; rfl
 ·simp only[aFy,aDH];rw[aCI (by simp[a1,aD]),xa]; rfl
theorem R2 (a b:bF) (aD:a.id.length=32) (ai:b.id.length=32) :bE Tryz.prog GS 86 [.aM (b3 a),.aM (b3 b)] (.int .i64 (qW a b)) :=by
 refine bS Tryz.checked.mixed bP ?_;apply bw ahS asB;unfold Rz abt qW;have h1:=c3 aD;have ag:=c3 ai;simp[b3,h1,ag];refine a8 (RZ _ _) rfl ?_;have ak:=Er (some a.id) (some b.id) (by simp[aD,ai]);simp;refine i3 ak ?_ rfl ?_
 ·exact .cons ((X7 (j:=0) (c:=.str a.key) aD rfl).mO (fun _=>rfl) (some a.id) rfl rfl) (.cons ((X7 (j:=1) (c:=.str b.key) ai rfl).mO (fun _=>rfl) (some b.id) rfl rfl) .nil)
 ·simp;refine i3 (X2 (pQ a.key b.key) (cI a.id b.id)) (.cons (abT (by simp)) .nil) rfl ?_;simp;exact aJ rfl rfl
theorem Xq (a b:bF) (aD:a.id.length=32) (ai:b.id.length=32) :bE Tryz.prog GS 109 [.aM (b3 a),.aM (b3 b)] (.bool (gF a b)) :=by
 refine bS Tryz.checked.mixed bP ?_;apply bw afa apQ;unfold OP YL gF;have h1:=c3 aD;have ag:=c3 ai;have ak:=Mp a.id b.id aD ai;by_cases hk:a.key=b.key
 ·simp[b3,h1,ag,hk,aCI];refine a8 ak (by have:=fK a.id; have:=fK b.id; simp_all [a7,ad.closed,fL,a1]) ?_;simp;exact aJ (by rw[if_pos hk]) rfl
 ·simp[b3,h1,ag,hk];exact aJ rfl rfl
abbrev uU:=dX (List UInt8)
def kT (k:List UInt8) :List ad:=[.str k]
def xb (s:uU) :ad:=c0 1 kT s
theorem RU (s:uU) :(xb s).closed=true:=ve (fun _=>rfl) s
theorem av2 (s:uU) (ar:s.l.length<=1000000) (x:List UInt8) :bE Tryz.prog GS 141 [xb s,.str x] (.int .i64 (g3 x s.l 0)) :=by
 refine bS Tryz.checked.mixed bP ?_;apply bw afD aqj;unfold Pl Ze;simp[xb];refine c2 s.l.length (fun k ah l=>ah 0=c0 1 kT s/\ah 1=.str x/\ah 7=.int .i64 s.l.length/\ah 8=.int .i64 k/\∀ (j:Nat) (z:List UInt8),j<k->s.l[j]? = some z->z≠x) ?_ (by simp[xb]);rintro k ah l hk ⟨cd,aW,eU,et,ap⟩;obtain⟨ah,rfl⟩:=hW cd aW eU et;clear cd aW eU et;unfold Wf;simp;refine im (fun h=>?_) (fun h=>?_)
 ·simp only[decide_eq_true_eq] at h;obtain⟨y,aE,b6⟩:=bV (l:=s.l) (k:=k) (by omega);have a2:IntKind.i64.wrap ((k:Int)+1)=((k+1:Nat) :Int) :=by rw[IntKind.wrap_i64]; omega
  by_cases au:x=y
  ·have fO:=vU (n:=0) aE ap au.symm;simp[aE,kT,au];exact aJ (by rw[<-au,fO]; simp) rfl
  ·simp[aE,kT,au,a2];refine⟨by omega,fun j z am az=>?_⟩;by_cases eL:j=k
   ·subst eL; rw[aE] at az; obtain rfl:=Option.some.inj az; exact fun h=>au h.symm
   ·exact ap j z (by omega) az
 ·simp[h];have gV:k=s.l.length:=by simp at h; omega
  exact aJ (by rw[Dd fun j z az=>ap j z (by rw[gV]; exact (aCJ.1 az).1) az]) rfl
theorem av0 (s:uU) (ar:s.l.length<=1000000) (x:List UInt8) :bE Tryz.prog GS 91 [xb s,.str x] (.bool (decide (x∈s.l))) :=by
 refine bS Tryz.checked.mixed bP ?_;apply bw ahY asG;unfold RE aby;simp;refine a8 (av2 s ar x) (by have:=RU s; simp_all [a7,ad.closed]) ?_;simp;exact aJ (congrArg ad.bool (by simp only[vV])) rfl
def o2 (l:List bF) (k:List UInt8) :Bool:=decide (k∈l.map bF.key)
theorem TK {l:List bF} {k:List UInt8} {t:bF} (h:t∈l) (hk:t.key=k) :o2 l k=true:=decide_eq_true (by rw[<-hk]; exact aEi h)
theorem akJ {l:List bF} {k:List UInt8} (h:∀ t∈l,t.key≠k) :o2 l k=false:=decide_eq_false fun hm=>by
 obtain⟨z,az,C5⟩:=aC9.1 hm;exact h z az C5
theorem asX (s:e7) (ax:gY s.l) (ar:s.l.length<=1000000) (x:List UInt8) :bE Tryz.prog GS 14 [cE s,.str x] (.bool (o2 s.l x)) :=by
 refine bS Tryz.checked.mixed bP ?_;apply bw afL aqr;unfold Pj Zc;simp[cE];refine c2 s.l.length (fun k ah l=>ah 0=c0 33 b3 s/\ah 1=.str x/\ah 5=.int .i64 k/\∀ (j:Nat) (z:bF),j<k->s.l[j]? = some z->z.key≠x) ?_ (by simp[cE]);rintro k ah l hk ⟨cd,aW,bC,ap⟩;obtain⟨ah,rfl⟩:=jJ cd aW bC;clear cd aW bC;unfold Wh;simp;refine im (fun h=>?_) (fun h=>?_)
 ·simp only[decide_eq_true_eq] at h;obtain⟨y,aE,b6⟩:=bV (l:=s.l) (k:=k) (by omega);have a2:IntKind.i64.wrap ((k:Int)+1)=((k+1:Nat) :Int) :=by rw[IntKind.wrap_i64]; omega
  by_cases au:y.key=x
  ·simp[aE,b3,au];exact aJ (congrArg ad.bool (TK b6 au).symm) rfl
  ·simp[aE,b3,au,a2];refine⟨by omega,fun j z am az=>?_⟩;by_cases eL:j=k
   ·subst eL; rw[aE] at az; obtain rfl:=Option.some.inj az; exact au
   ·exact ap j z (by omega) az
 ·simp[h];have gV:k=s.l.length:=by simp at h; omega
  refine aJ (congrArg ad.bool (akJ fun z az=>?_).symm) rfl;obtain⟨j,am⟩:=aCY.1 az;exact ap j z (by rw[gV]; exact (aCJ.1 am).1) am
end Op

end Go.ct

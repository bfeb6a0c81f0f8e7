/-
  The canonical machine, part F: slicing, literals, make, copy, len, indexes, conversions.
-/
import Derived.Test.YtdjbnhgdhambnaaGreatDoorVa
import Derived.Lib.IndexBytes
import Derived.Laws.BytesString
import Derived.Lib.ConvBytes
import Derived.Stop.SameAnswer
set_option maxHeartbeats 16000000
set_option maxRecDepth 100000
set_option linter.unusedVariables false
set_option linter.unusedSimpArgs false
set_option linter.unnecessarySimpa false
namespace Go.bh
open Go
section
variable {P:bp} {w:aT} {R:Nat->Prop} {B:Nat} {h:aM} {muZ:b3}
theorem tw {x:U} {m:aE} {y n j:Nat} {code:BoundsCode} (g:gU x y=some n) (p:aB w R h muZ x m) (q:y<=j) :
  n<=y/\(Instr.sliceBound m j code).run P w=.ok n w:=by
 unfold gU at g;cases p with
 | int k i=>
  simp only at g;split at g
  ·rename_i o;cases g;refine⟨F,?_⟩;have:(0<=i/\i<=(j:Int)):=⟨o.1,F⟩
   simp[Instr.sliceBound,asIntOf,this]
  ·cases g
 | _=>simp at g
def rR (w:aT) (R:Nat->Prop) (h:aM) (muZ:b3) :Option U->Option aE->Prop
 | none,none=>True
 | some c,some g=>aB w R h muZ c g
 | _,_=>False
theorem qF {B G C:Option U} {p z H:Option aE} {isS:Bool} {len cap cap' l m D:Nat} (g:e2 len cap B G C=some (l,D,m)) (S:len<=cap) (Q:cap<=cap')
  (h1:rR w R h muZ B p) (v:rR w R h muZ G z) (J:rR w R h muZ C H) :
  l<=D/\D<=m/\m<=cap/\(C=none->m=cap)/\(Instr.sliceBounds isS len cap' p z H).run P w=.ok (l,D,if C.isSome then m else cap') w:=by
 unfold e2 at g;cases C with
 | none=>
  cases H with
  | some u=>exact J.elim
  | none=>
   simp only at g;cases G with
   | none=>
    cases z with
    | some u=>exact v.elim
    | none=>
     simp only at g;cases B with
     | none=>
      cases p with
      | some u=>exact h1.elim
      | none=>
       simp only[bc,Prod.mk.injEq] at g;obtain⟨rfl,rfl,rfl⟩:=g;exact⟨F,S,aN _,fun _=>rfl,by simp[Instr.sliceBounds]⟩
     | some c=>
      cases p with
      | none=>exact h1.elim
      | some u=>
       simp only at g;cases o:gU c len with
       | none=>rw[o] at g;cases g
       | some V=>
        rw[o] at g;simp only[bc,Prod.mk.injEq] at g;obtain⟨rfl,rfl,rfl⟩:=g;have j:=tw (P:=P) (code:=.sliceB) o h1 (aN _);exact⟨j.1,S,aN _,fun _=>rfl,by simp[Instr.sliceBounds,j.2]⟩
   | some I=>
    cases z with
    | none=>exact v.elim
    | some Y=>
     simp only at g;cases q:gU I cap with
     | none=>rw[q] at g;cases g
     | some h'=>
      rw[q] at g;simp only at g;have j:=tw (P:=P) (code:=if isS then .sliceAcap else .sliceAlen) q v Q;cases B with
      | none=>
       cases p with
       | some u=>exact h1.elim
       | none=>
        simp only[bc,Prod.mk.injEq] at g;obtain⟨rfl,rfl,rfl⟩:=g;exact⟨F,j.1,aN _,fun _=>rfl,by simp[Instr.sliceBounds,j.2]⟩
      | some c=>
       cases p with
       | none=>exact h1.elim
       | some u=>
        simp only at g;cases o:gU c h' with
        | none=>rw[o] at g;cases g
        | some V=>
         rw[o] at g;simp only[bc,Prod.mk.injEq] at g;obtain⟨rfl,rfl,rfl⟩:=g;have t:=tw (P:=P) (code:=.sliceB) o h1 (aN _);exact⟨t.1,j.1,aN _,fun _=>rfl,by simp[Instr.sliceBounds,j.2,t.2]⟩
 | some W=>
  cases H with
  | none=>exact J.elim
  | some ae=>
   simp only at g;cases O:gU W cap with
   | none=>rw[O] at g;cases g
   | some X=>
    rw[O] at g;simp only at g;have j:=tw (P:=P) (code:=if isS then .slice3Acap else .slice3Alen) O J Q;cases G with
    | none=>cases g
    | some I=>
     cases z with
     | none=>exact v.elim
     | some Y=>
      simp only at g;cases q:gU I X with
      | none=>rw[q] at g;cases g
      | some h'=>
       rw[q] at g;simp only at g;have t:=tw (P:=P) (code:=.slice3B) q v (aN _);cases B with
       | none=>
        cases p with
        | some u=>exact h1.elim
        | none=>
         simp only[bc,Prod.mk.injEq] at g;obtain⟨rfl,rfl,rfl⟩:=g;exact⟨F,t.1,j.1,(fun K=>by cases K),by simp[Instr.sliceBounds,j.2,t.2]⟩
       | some c=>
        cases p with
        | none=>exact h1.elim
        | some u=>
         simp only at g;cases o:gU c h' with
         | none=>rw[o] at g;cases g
         | some V=>
          rw[o] at g;simp only[bc,Prod.mk.injEq] at g;obtain⟨rfl,rfl,rfl⟩:=g;have T:=tw (P:=P) (code:=.slice3C) o h1 (aN _);exact⟨T.1,t.1,j.1,(fun K=>by cases K),by simp[Instr.sliceBounds,j.2,t.2,T.2]⟩
theorem GX {z:Nat}:∀ (n:Nat) (cs:ag),(lV z n cs).length=n
 | 0,_=>rfl
 | n+1,cs=>by simp[lV,GX n]
theorem GV {z:Nat}:∀ (n:Nat) (cs:ag) (i:Nat),i<n->(lV z n cs)[i]?=some ((cs.drop (i*z)).take z)
 | 0,_,_,h=>F
 | n+1,cs,0,_=>by simp[lV]
 | n+1,cs,i+1,h=>by
  simp only[lV,js];rw[GV n _ i F,xT];congr 3;rw[ej];omega
theorem Lt (rel:bF R B w h muZ) {z b off cap sz l j m o cap' : Nat} {cs:ag} {g:M} {hasMax:Bool} (u:h.f b=.cells sz cs) (C:muZ b=some g) (X:off+cap*z<=sz)
  (J:(off+cap*z<sz/\cap'=cap)\/(off+cap*z=sz/\cap<=cap'/\g.s+off+cap'*z<=g.T)) (h1:l<=j) (U:j<=m) (H:m<=cap) (I:hasMax=false->m=cap)
  (D:o=if hasMax then m else cap') (W:m≠l) :
  aB w R h muZ (.Z z b (off+l*z) (j - l) (m - l) sz) (.slice (some ((⟨g.r,g.s+off,none⟩:Addr).add (l*z))) (j - l) (o - l)):=by
 have v:=rel.blk b g C;rw[u] at v;have V:=v.2.1;rw[Addr.jY,i4];have P:l*z+(m - l)*z=m*z:=by rw[<-eP];congr 1;omega
 have Q:m*z<=cap*z:=ck _ H;refine .Z z b _ _ _ sz _ cs g u C F F ?_;cases hasMax with
 | false=>
  have G:=I rfl;have t:o=cap':=by simpa using D
  rw[t];rcases J with ⟨p,q⟩ | ⟨p,q,O⟩
  ·rw[<-G] at p q;exact .inl ⟨F,F⟩
  ·rw[<-G] at p q;refine .inr ⟨F,F,?_⟩;have S:l*z+(cap' - l)*z=cap'*z:=by rw[<-eP];congr 1;omega
   omega
 | true=>
  have t:o=m:=by simpa using D
  rw[t];by_cases K:off+l*z+(m - l)*z<sz
  ·exact .inl ⟨K,rfl⟩
  ·exact .inr ⟨F,aN _,F⟩
theorem extract_toList (s:ByteArray) (a b:Nat) :(s.extract a b).data.toList=(s.data.toList.drop a).take (b - a):=by simp[ByteArray.extract,ByteArray.copySlice,List.take_drop]
theorem aB.WU (z:Nat) (p:Prop) [Decidable p] (a b:Addr) (cap:Nat) :aB w R h muZ (.bu z []) (.slice (if p then some a else some b) 0 cap):=by
 by_cases g:p
 ·rw[ak g];exact .eH _ _ _
 ·rw[ai g];exact .eH _ _ _
theorem aB.Lr (z b off len cap sz cap' : Nat) (p:Prop) [Decidable p] (a q:Addr) (m:len<=cap) (g:cap<=cap') (j:qv h b sz) :
  aB w R h muZ (.Z z b off len cap sz) (.slice (if p then some a else some q) len cap'):=by
 by_cases o:p
 ·rw[ak o];exact .ff _ _ _ _ _ _ _ _ m g j
 ·rw[ai o];exact .ff _ _ _ _ _ _ _ _ m g j
theorem Xw (rel:bF R B w h muZ) {t:aG} {x c:U} {aO:aE} {aq am u:Option U} {aR I aJ:Option aE} (g:xv P t x aq am u=some c) (ap:aB w R h muZ x aO)
  (h1:rR w R h muZ aq aR) (ag:rR w R h muZ am I) (W:rR w R h muZ u aJ) :
  ∃ v,(Instr.sliceAt t aO aR I aJ).run P w=.ok v w/\aB w R h muZ c v:=by
 unfold xv at g;split at g
 ·-- an array behind its address
  rename_i n e K;cases H:ca P e with
  | none=>rw[H] at g;cases g
  | some z=>
  cases o:e2 n n aq am u with
  | none=>rw[H,o] at g;cases g
  | some ae=>
  obtain⟨l,j,m⟩:=ae;rw[H,o] at g;simp only at g;obtain⟨Y,Q,S,J,C⟩:=qF (P:=P) (isS:=false) o (aN _) (aN _) h1 ag W;have aZ:(if u.isSome=true then m else n)=m:=by
   cases u with
   | none=>simp[J rfl]
   | some v=>simp
  rw[aZ] at C;split at g
  ·rename_i b q az;split at g
   ·rename_i aQ;have a9:∃ a,aO=.pointer (some a):=by cases ap<;>exact⟨_,rfl⟩
    obtain⟨a,rfl⟩:=a9;refine⟨_,by simp[Instr.sliceAt,cb K,Instr.sureAddr,C,ez H];rfl,?_⟩;split at g
    ·rename_i G;cases g;have:j - l=0:=F;rw[this];exact .eH _ _ _
    ·rename_i G;cases g;rw[ai G];cases ap with
     | ptr _ _ _ cs al ah aj=>
      exact Lt rel (cap:=m) (cap':=m) (hasMax:=true) ah aj aQ (by
       have aP:=rel.blk b al aj;rw[ah] at aP;have bg:=aP.2.1;by_cases a4:q+m*z<az
       ·exact .inl ⟨a4,rfl⟩
       ·exact .inr ⟨F,aN _,F⟩) Y Q (aN _) (fun aF=>by cases aF) V G
     | jj _ _ _ _ ax=>exact .ff _ _ _ _ _ _ _ _ F (aN _) ax
   ·cases g
  ·rename_i cs q;split at g
   ·rename_i aQ;cases g;cases ap with
    | b6 _ _ aA aK aM aD aH=>
     refine⟨_,by simp[Instr.sliceAt,cb K,Instr.sureAddr,C,ez H];rfl,?_⟩;have bf:j*z<=n*z:=ck _ F;by_cases G:m=l
     ·have av:j - l=0:=F;rw[av];exact .eH _ _ _
     ·rw[ai G,Addr.jY];have ao:=GX (z:=z) (j - l) (cs.drop (q+l*z));have aV:∀ i,i<j - l->∀ p,p<z->q+l*z+(i*z+p)<cs.length:=by
       intro i I p O;have:(l+i+1)*z<=j*z:=ck _ F;rw[eP,eP] at this;omega
      have ay:∀ i ll,(lV z (j - l) (cs.drop (q+l*z)))[i]?=some ll->i<j - l/\ll=((cs.drop (q+l*z)).drop (i*z)).take z:=by
       intro i ll D;have I:i<j - l:=by
        have:=(aL.1 D).1;omega
       rw[GV _ _ _ I] at D;simp only[bc] at D;exact⟨I,D.symm⟩
      have:=aB.bu (w:=w) (R:=R) (h:=h) (muZ:=muZ) z (lV z (j - l) (cs.drop (q+l*z))) aA (aK+q+l*z) (m - l) (fun i p=>aM (q+l*z+(i*z+p))) F
       (fun ll D=>by
        obtain⟨i,I,rfl⟩:=Fx D;obtain⟨aS,aT⟩:=ay i _ (bM I);rw[aT,cL,i1,i1];have:(l+i+1)*z<=j*z:=ck _ F;rw[eP,eP] at this;omega)
       (fun i p I O=>by
        have:=aD (q+l*z+(i*z+p)) (aV i F p O);have aC:aK+q+l*z+(i*z+p)=aK+(q+l*z+(i*z+p)):=F;rw[aC];exact this)
       (fun i ll D p c O=>by
        obtain⟨aS,rfl⟩:=ay i _ D;have a0:p<z:=by
         have:=(aL.1 O).1;rw[cL] at this;omega
        rw[dQ a0,gx,gx,] at O;exact aH _ c O)
      rw[ao] at this;exact this
   ·cases g
  ·cases g
 ·-- a slice
  rename_i e K;split at g
  ·rename_i z bd b q len cap az H;split at g
   ·rename_i aI;subst aI;cases o:e2 len cap aq am u with
    | none=>rw[o] at g;cases g
    | some ae=>
    obtain⟨l,j,m⟩:=ae;rw[o] at g;simp only[cA,bc] at g;cases ap with
    | Z _ _ _ _ _ _ cap' cs al ah aj ao a7 X=>
     have aU:cap<=cap':=by rcases X with X | X<;>omega
     obtain⟨Y,Q,S,J,C⟩:=qF (P:=P) (isS:=true) o ao aU h1 ag W;refine⟨_,by simp[Instr.sliceAt,Instr.slice,cb K,C,ez H];rfl,?_⟩;split at g
     ·rename_i G;subst g;have:j - l=0:=F;rw[this];by_cases aw:(if u.isSome=true then m else cap')=l
      ·rw[ak aw,aw,th];exact .gp _ _ _ _ _ _ al ah aj
      ·rw[ai aw];cases u with
       | some v=>exact bV (by simpa using G) aw
       | none=>
        have bi:=J rfl;simp only[rM,jq,if_false] at aw ⊢;have aW:cap=l:=F;have bh:q+cap*z=az/\cap<=cap'/\al.s+q+cap'*z<=al.T:=by rcases X with X | X<;>omega
        have bj:l*z+(cap' - l)*z=cap'*z:=by rw[<-eP];congr 1;omega
        subst aW;rw[Addr.jY];have:=aB.Z (w:=w) (R:=R) (h:=h) (muZ:=muZ) z b (q+cap*z) 0 0 az (cap' - cap) _ al ah aj (aN _) F (.inr ⟨F,F,F⟩)
        rwa [<-i4] at this
     ·rename_i G;subst g;have a6:¬ ((if u.isSome=true then m else cap')=l):=by
       cases u with
       | none=>have:=J rfl;simp;omega
       | some v=>simpa using G
      rw[ai a6];exact Lt rel (hasMax:=u.isSome) ah aj a7 X Y Q S (fun aF=>J (by simpa using aF)) rfl G
    | gp _ _ _ _ a cs al ah aj=>
     obtain⟨Y,Q,S,J,C⟩:=qF (P:=P) (isS:=true) o (aN 0) (aN 0) h1 ag W;refine⟨_,by simp[Instr.sliceAt,Instr.slice,cb K,C,ez H];rfl,?_⟩;have a5:m=0:=by
      cases u with
      | none=>exact J rfl
      | some v=>simp at S;omega
     have a1:l=0:=F;have aY:j=0:=F;subst a5 a1 aY;simp only[if_true] at g;subst g;simp;exact .gp _ _ _ _ _ _ al ah aj
    | ff _ _ _ _ _ _ cap' a ao X ax=>
     obtain⟨Y,Q,S,J,C⟩:=qF (P:=P) (isS:=true) o ao X h1 ag W;refine⟨_,by simp[Instr.sliceAt,Instr.slice,cb K,C,ez H];rfl,?_⟩;split at g
     ·rename_i G;subst g;have:j - l=0:=F;rw[this];exact aB.Lr _ _ _ _ _ _ _ _ _ _ (aN _) (eS _) ax
     ·rename_i G;subst g;have a2:m<=(if u.isSome=true then m else cap'):=by split<;>omega
      exact aB.Lr _ _ _ _ _ _ _ _ _ _ F F ax
   ·cases g
  ·rename_i z bd ar H;split at g
   ·rename_i aI;subst aI;cases o:e2 ar.length ar.length aq am u with
    | none=>rw[o] at g;cases g
    | some ae=>
    obtain⟨l,j,m⟩:=ae;rw[o] at g;simp only[cA,bc] at g;subst g;cases ap with
    | bu _ _ aA q cap aM ao bb aD aH=>
     obtain⟨Y,Q,S,J,C⟩:=qF (P:=P) (isS:=true) o (aN _) ao h1 ag W;refine⟨_,by simp[Instr.sliceAt,Instr.slice,cb K,C,ez H];rfl,?_⟩;have a3:((ar.drop l).take (j - l)).length=j - l:=by rw[cL,i1];omega
     have a2:j<=(if u.isSome=true then m else cap):=by
      cases u with
      | none=>simp only[rM,jq,if_false];omega
      | some v=>simpa using Q
     by_cases G:(if u.isSome=true then m else cap)=l
     ·have av:j - l=0:=F;rw[ak G,av,nk];exact .eH _ _ _
     ·rw[ai G,Addr.jY];have ay:∀ i ll,((ar.drop l).take (j - l))[i]?=some ll->i<j - l/\ar[l+i]?=some ll:=by
       intro i ll D;have I:i<j - l:=by
        have:=(aL.1 D).1;omega
       rw[dQ I,gx] at D;exact⟨I,D⟩
      have:=aB.bu (w:=w) (R:=R) (h:=h) (muZ:=muZ) z ((ar.drop l).take (j - l)) aA (q+l*z) ((if u.isSome=true then m else cap) - l) (fun i p=>aM (l+i) p) F
       (fun ll D=>bb ll (vj (gy D)))
       (fun i p I O=>by
        have:=aD (l+i) p F O;have aC:q+l*z+(i*z+p)=q+((l+i)*z+p):=by rw[eP];omega
        rw[aC];exact this)
       (fun i ll D p c O=>aH (l+i) ll (ay i ll D).2 p c O)
      rw[a3] at this;exact this
    | eH _ a cap=>
     obtain⟨Y,Q,S,J,C⟩:=qF (P:=P) (isS:=true) o (aN _) (eS cap) h1 ag W;refine⟨_,by simp at C;simp[Instr.sliceAt,Instr.slice,cb K,C,ez H];rfl,?_⟩;have av:j - l=0:=by simp at S;omega
     rw[av,nk];exact aB.WU _ _ _ _ _
   ·cases g
  ·rename_i z H;cases ap;cases o:e2 0 0 aq am u with
   | none=>rw[o] at g;cases g
   | some ae=>
   obtain⟨l,j,m⟩:=ae;rw[o] at g;simp only[cA,bc] at g;subst g;obtain⟨Y,Q,S,J,C⟩:=qF (P:=P) (isS:=true) o (aN _) (aN _) h1 ag W;obtain rfl:m=0:=F;obtain rfl:j=0:=F;obtain rfl:l=0:=F;refine⟨_,by simp[Instr.sliceAt,Instr.slice,cb K,C,ez H];rfl,?_⟩;exact .ad
  ·cases g
 ·-- a string
  rename_i s K;split at g
  ·cases ap with
   | str au=>
    cases o:e2 au.data.toList.length au.data.toList.length aq am none with
    | none=>rw[o] at g;cases g
    | some ae=>
    obtain⟨l,j,m⟩:=ae;rw[o] at g;simp only[cA,bc] at g;subst g;cases aJ with
    | some v=>exact W.elim
    | none=>
     have a8:au.data.toList.length=au.size:=V;rw[a8] at o;obtain⟨Y,Q,S,J,C⟩:=qF (P:=P) (isS:=false) o (aN _) (aN _) h1 ag W;refine⟨.string (au.extract l j),by simp[Instr.sliceAt,Instr.slice,cb K,C],?_⟩;rw[<-extract_toList];exact .str _
  ·cases g
 ·cases g
end
section
variable {P:bp} {w:aT} {R:Nat->Prop} {B:Nat} {h:aM} {muZ:b3}
def i9 (w:aT) (R:Nat->Prop) (h:aM) (muZ:b3) (cs:ag) (arr:Array aE) :Prop:=
 arr.size=cs.length/\∀ (j:Nat) (c:U),cs[j]?=some c->∃ g:aE,arr[j]?=some g/\g.oneCell'=true/\aB w R h muZ c g
theorem i9.af {cs:ag} {arr:Array aE} (j:i9 w R h muZ cs arr) :aB w R h muZ (.af cs) (.agg arr):=by
 refine .af _ _ j.1 (fun m v g=>?_) (fun m c v q g=>?_)
 ·have t:m<cs.length:=by have:=(ik.1 g).1;rw[<-j.1];exact this
  obtain⟨u,h1,o,_⟩:=j.2 m _ (bM t);rw[g] at h1;cases h1;exact o
 ·obtain⟨u,h1,_,p⟩:=j.2 m c q;rw[g] at h1;cases h1;exact p
theorem HY:∀ (l:List aE) (k off:Nat) (cells:Array aE),off+k+l.length<=cells.size->
  ((l.zipIdx k).foldl (fun cs (g:aE × Nat)=>cs.setIfInBounds (off+g.2) g.1) cells).size=cells.size ∧
  ∀ j,((l.zipIdx k).foldl (fun cs (g:aE × Nat)=>cs.setIfInBounds (off+g.2) g.1) cells)[j]?=if off+k<=j/\j<off+k+l.length then l[j - (off+k)]? else cells[j]?
 | [],k,off,cells,_=>⟨V,fun j=>by simp;omega⟩
 | v::l,k,off,cells,p=>by
  simp only[dM] at p;have o:=HY l (k+1) off (cells.setIfInBounds (off+k) v) (by simp;omega);simp only[List.zipIdx_cons,xV];refine⟨by rw[o.1];simp,fun j=>?_⟩;rw[o.2 j];by_cases m:off+(k+1)<=j/\j<off+(k+1)+l.length
  ·rw[ak m,ak (by simp only[dM];omega)];have:j - (off+k)=(j - (off+(k+1)))+1:=F;rw[this,js]
  ·rw[ai m,u9];by_cases h:off+k=j
   ·subst h;rw[ak rfl,ak F,ak (by simp only[dM];omega)];simp
   ·rw[ai h,ai (by simp only[dM];omega)]
theorem yT {I:Nat->Option (Nat × Nat)}:∀ (parts:List (Nat × U)) (B:List (Nat × aE)) (cs:ag) (arr:Array aE) (cs' : ag),
  en I cs parts=some cs'->i9 w R h muZ cs arr->B.length=parts.length->(∀ (j:Nat) (p:Nat × U) (z:Nat × aE),parts[j]?=some p->B[j]?=some z->z.1=p.1/\aB w R h muZ p.2 z.2)->
  ∃ arr',Instr.fill I arr B=some arr'/\i9 w R h muZ cs' arr'
 | [],[],cs,arr,cs',g,q,_,_=>by
  simp only[en,bc] at g;subst g;exact⟨arr,rfl,q⟩
 | [],_::_,_,_,_,_,_,v,_=>by simp at v
 | _::_,[],_,_,_,_,_,v,_=>by simp at v
 | (i,c) ::parts,(S,o) ::B,cs,arr,cs',g,q,v,O=>by
  obtain⟨rfl,Q⟩:=O 0 (i,c) (S,o) rfl rfl;simp only at Q;unfold en at g;cases C:I S with
  | none=>rw[C] at g;cases g
  | some al=>
  obtain⟨t,size⟩:=al;cases G:c.cells with
  | none=>rw[C,G] at g;cases g
  | some T=>
  rw[C,G] at g;simp only at g;split at g
  ·rename_i am;obtain⟨P,ah⟩:=yt Q G;have H:o.cells.toList.length=T.length:=by simpa using P
   have K:=HY o.cells.toList 0 t arr (by rw[q.1,H];omega);have aj:o.cells.zipIdx.foldl (fun cs (x:aE × Nat)=>match x with | (c,j)=>cs.setIfInBounds (t+j) c) arr=(o.cells.toList.zipIdx 0).foldl (fun cs (J:aE × Nat)=>cs.setIfInBounds (t+J.2) J.1) arr:=by
    rw[<-Array.foldl_toList];simp
   obtain⟨arr',h1,D⟩:=yT parts B (av cs t T) (o.cells.zipIdx.foldl (fun cs (x:aE × Nat)=>match x with | (c,j)=>cs.setIfInBounds (t+j) c) arr) cs' g (by
     rw[aj];refine⟨by rw[K.1,q.1,o9 F];omega,fun j x m=>?_⟩;rw[K.2 j];rw[ED F] at m;split at m
     ·rename_i ao;rw[ai F];exact q.2 j x m
     ·split at m
      ·rename_i h1 D;rw[ak (by rw[H];omega)];obtain⟨u,V,W,X⟩:=ah _ x m;exact⟨u,by simpa using V,W,X⟩
      ·rename_i h1 D;rw[ai (by rw[H];omega)];exact q.2 j x m) (by simpa using v) (fun j p z m Y=>O (j+1) p z (by simpa using m) (by simpa using Y))
   refine⟨arr',?_,D⟩;have ae:¬ (o.cells.size≠size\/t+o.cells.size > arr.size):=by rw[P,q.1];omega
   simp only[Instr.fill,C];rw[ai (by simpa using ae)];exact h1
  ·cases g
theorem rz {t:aG} {z:ag} (p:ga P t=some z) :∃ v,(∀ w2:aT,(zeroValue t).run P w2=.ok v w2)/\i9 w R h muZ z v.cells:=by obtain⟨i,v,j,o,m,g⟩:=MX (w:=w) (R:=R) (h:=h) (muZ:=muZ) p;exact⟨v,fun w2=>Lc j o,m,g⟩
theorem WZ {fs:Array Field} (j:(fs.toList.all fun f=>(ca P f.type).isSome)=true) :
  (fs.mapM fun f=>(do pure (f.offset,<-sizeOf f.type) :Sem (Nat × Nat))).run P w=.ok ((fs.toList.map fun f=>(f.offset,(ca P f.type).getD 0)).toArray) w:=by
 rw[MY];simp only[Sem.run_map];have:∀ l:List Field,(l.all fun f=>(ca P f.type).isSome)=true->(l.mapM fun f=>(do pure (f.offset,<-sizeOf f.type) :Sem (Nat × Nat))).run P w=.ok (l.map fun f=>(f.offset,(ca P f.type).getD 0)) w:=by
  intro l
  induction l with
  | nil=>intro _;simp
  | cons f l m=>
   intro g;simp only[Fs,bU] at g;obtain⟨n,h⟩:=M3.1 g.1;simp only[pj,Sem.run_bind,ez h,Result.andThen_ok,Sem.run_pure,m g.2,dg,h,g4]
 rw[this _ j];rfl
theorem O3 {t:aG} {parts:List (Nat × U)} {u:Array (Nat × aE)} {c:U} (g:vN P t parts=some c) (I:u.size=parts.length)
  (J:∀ (j:Nat) (p:Nat × U) (q:Nat × aE),parts[j]?=some p->u[j]?=some q->q.1=p.1/\aB w R h muZ p.2 q.2) :
  ∃ v,(Instr.build t u).run P w=.ok v w/\aB w R h muZ c v:=by
 unfold vN at g;split at g
 ·rename_i zero fs H F;split at g
  ·cases g
  ·rename_i m;simp only[vc,Bool.not_eq_false] at m;cases o:en (w8 P fs) zero parts with
   | none=>rw[o] at g;cases g
   | some cs=>
    rw[o] at g;simp only[cA,bc] at g;subst g;obtain⟨v,G,D⟩:=rz (w:=w) (R:=R) (h:=h) (muZ:=muZ) H;obtain⟨O,h1,z⟩:=yT parts u.toList zero v.cells cs o D (by simpa using I) (fun j p q B C=>J j p q B (by simpa using C));have T:(fun i=>((fs.toList.map fun f=>(f.offset,(ca P f.type).getD 0)).toArray)[i]?)=w8 P fs:=by
     funext i;simp only[w8];simp only[vi,b0,qk];cases Q:fs[i]? with
     | none=>simp
     | some f=>
      rw[gb] at m;have:=m f (by have:=xQ Q;simpa using this);obtain⟨n,S⟩:=M3.1 this;simp[S]
    refine⟨_,?_,z.af⟩;simp only[Instr.build,Sem.run_bind,G,Result.andThen_ok,cb F,WZ m];rw[T,h1];simp
 ·rename_i zero n e H F;cases m:ca P e with
  | none=>rw[m] at g;cases g
  | some K=>
   rw[m] at g;simp only at g;cases o:en (fun i=>some (i*K,K)) zero parts with
   | none=>rw[o] at g;cases g
   | some cs=>
    rw[o] at g;simp only[cA,bc] at g;subst g;obtain⟨v,G,D⟩:=rz (w:=w) (R:=R) (h:=h) (muZ:=muZ) H;obtain⟨O,h1,z⟩:=yT parts u.toList zero v.cells cs o D (by simpa using I) (fun j p q B C=>J j p q B (by simpa using C));refine⟨_,?_,z.af⟩;simp only[Instr.build,Sem.run_bind,G,Result.andThen_ok,cb F,ez m];rw[h1];simp
 ·cases g
theorem sG {zero:ag}:∀ n,(cQ zero n).length=n*zero.length
 | 0=>by simp[cQ]
 | n+1=>by simp only[cQ,cI,sG n,ej];omega
theorem KR {zero:ag}:∀ (n j:Nat) (c:U),(cQ zero n)[j]?=some c->zero[j % zero.length]?=some c
 | 0,_,_,g=>by simp[cQ] at g
 | n+1,j,c,g=>by
  simp only[cQ] at g;by_cases h:j<zero.length
  ·rw[aV h] at g
   rwa [ed h]
  ·rw[eu F] at g;have:=KR n _ c g
   rwa [<-Nat.mod_eq_sub_mod F] at this
theorem Ag {zero:ag} {z:Array aE} (j:i9 w R h muZ zero z) (n:Nat) :i9 w R h muZ (cQ zero n) ((Array.range (n*zero.length)).map (z[· % z.size]!)):=by
 refine⟨by simp[sG],fun m c g=>?_⟩;have t:m<n*zero.length:=by
  have:=(aL.1 g).1
  rwa [sG] at this
 obtain⟨u,h1,o,p⟩:=j.2 _ c (KR n m c g);refine⟨u,?_,o,p⟩;rw[<-j.1] at h1;obtain⟨q,rfl⟩:=ik.1 h1;simp[t,q]
theorem Q2 {z:Nat}:∀ (parts:List (Nat × U)) (a b:ag),en (fun i=>some (i*z,z)) a parts=some b->b.length=a.length:=by
 intro parts
 induction parts with
 | nil=>intro a b g;simp only[en,bc] at g;subst g;rfl
 | cons p parts h=>
  intro a b g;unfold en at g;split at g
  ·rename_i o size q j m;split at g
   ·rw[h _ _ g,o9 F];omega
   ·cases g
  ·cases g
theorem GG {t e:aG} {len z:Nat} {zero cs:ag} {parts:List (Nat × U)} {m:Array (Nat × aE)} (D:gh P t=some e) (T:ca P e=some z) (V:ga P e=some zero) (v:zero.length=z) (X:len*z<=16777216)
  (q:en (fun i=>some (i*z,z)) (cQ zero len) parts=some cs) (I:m.size=parts.length)
  (K:∀ (j:Nat) (p:Nat × U) (g:Nat × aE),parts[j]?=some p->m[j]?=some g->g.1=p.1/\aB w R h muZ p.2 g.2) :
  cs.length=len*z/\∃ arr,(Instr.buildSlice t len m).run P w=.ok (.slice (some ⟨w.heap.size,0,none⟩) len len) (w.alloc (.cells arr e))/\i9 w R h muZ cs arr:=by
 obtain⟨Y,S,O⟩:=rz (w:=w) (R:=R) (h:=h) (muZ:=muZ) V;obtain⟨B,h1,C⟩:=yT parts m.toList _ _ cs q (Ag O len) (by simpa using I) (fun j p g G H=>K j p g G (by simpa using H));refine⟨by rw[Q2 _ _ _ q,sG,v],B,?_,C⟩;have Q:=wc D;have J:¬ (len*z > 2 ^ 24):=F;simp only[Instr.buildSlice,Sem.run_bind,cb Q,Result.andThen_ok,ez T,ai J];rw[v] at h1;generalize W:len*z=N at h1;by_cases o:N=0
 ·subst o;have u:∀ f:Nat->aE,(Array.range 0).map f=#[]:=fun f=>by simp[Array.range]
  rw[u] at h1;simp[u,h1,newRow]
 ·simp[o,S,h1,newRow]
theorem O2 (rel:bF R B w h muZ) {t:aG} {len:Nat} {parts:List (Nat × U)} {H:Array (Nat × aE)} {c:U} {h' : aM} (g:yp P h t len parts=some (c,h')) (S:H.size=parts.length)
  (W:∀ (j:Nat) (p:Nat × U) (G:Nat × aE),parts[j]?=some p->H[j]?=some G->G.1=p.1/\aB w R h muZ p.2 G.2) :
  ∃ v w' muZ',(Instr.buildSlice t len H).run P w=.ok v w'/\cZ w h muZ w' h' muZ'/\bF R B w' h' muZ'/\aB w' R h' muZ' c v:=by
 unfold yp at g;cases z:gh P t with
 | none=>rw[z] at g;cases g
 | some e=>
 rw[z] at g;simp only at g;cases q:ca P e with
 | none=>rw[q] at g;cases g
 | some m=>
 cases D:ga P e with
 | none=>rw[q,D] at g;cases g
 | some zero=>
 rw[q,D] at g;simp only at g;split at g
 ·rename_i Q;obtain⟨Y,T⟩:=Q;cases C:en (fun i=>some (i*m,m)) (cQ zero len) parts with
  | none=>rw[C] at g;cases g
  | some cs=>
   rw[C] at g;simp only[cA,bc,Prod.mk.injEq] at g;obtain⟨rfl,rfl⟩:=g;obtain⟨J,o,X,u⟩:=GG z q D Y T C S W;have I:=yg rel (cs:=cs) (vs:=o) e u.1 u.2;rw[J] at I;obtain⟨K,O,ae⟩:=I;refine⟨.slice (some ⟨w.heap.size,0,none⟩) len len,_,_,X,K,O,?_⟩;have:=aB.Z (w:=w.alloc (.cells o e)) (R:=R) (h:=h.push (.cells (len*m) cs)) (muZ:=br muZ h.n (some ⟨w.heap.size,0,o.size⟩)) m h.n 0 len len (len*m) len cs ⟨w.heap.size,0,o.size⟩ (by simp[dV]) V (aN _) F
    (.inr ⟨F,aN _,by simp only;rw[u.1,J];omega⟩)
   simpa using this
 ·cases g
theorem IY {t e:aG} {z by_:Nat} {zero:ag} {kl kc:cU} {li kA:Int} (D:gh P t=some e) (v:ca P e=some z) (g:gK P e=some by_) (O:ga P e=some zero) (C:zero.length=z)
  (Q:0<=li) (T:li<=kA) (S:kA<9223372036854775808) (I:by_*kA<=dj) :
  (cQ zero kA.toNat).length=kA.toNat*z/\∃ arr,(Instr.makeSlice t (.int kl li) (.int kc kA)).run P w=.ok (.slice (some ⟨w.heap.size,0,none⟩) li.toNat kA.toNat) (w.alloc (.cells arr e))/\i9 w R h muZ (cQ zero kA.toNat) arr:=by
 obtain⟨U,K,H⟩:=rz (w:=w) (R:=R) (h:=h) (muZ:=muZ) O;have J:=Ag H kA.toNat
 refine⟨by rw[sG,C],_,?_,J⟩;obtain⟨i,j,o⟩:∃ i,P.info? e=some i/\i.bytes=by_:=by
  unfold gK at g;cases j:P.info? e with
  | none=>rw[j] at g;cases g
  | some i=>rw[j] at g;exact⟨i,rfl,by simpa using g⟩
 have u:IntKind.i64.wrap li=li:=IntWalk.i64_in _ F;have q:IntKind.i64.wrap kA=kA:=IntWalk.i64_in _ F;have p:=wc D;unfold dj at I;have t1:¬ (kA<0\/(281474976710656:Int)<(by_:Int)*kA):=F;have t2:¬ (li<0):=F;have t3:¬ (kA<li):=F;rw[C];generalize m:kA.toNat*z=N;by_cases B:N=0
 ·subst B;have G:∀ f:Nat->aE,(Array.range 0).map f=#[]:=fun f=>by simp[Array.range]
  simp[G,Instr.makeSlice,cb p,Go.asInt,asIntOf,typeInfo,j,o,u,q,t1,t2,t3,ez v,m,newRow]
 ·simp[Instr.makeSlice,cb p,Go.asInt,asIntOf,typeInfo,j,o,u,q,t1,t2,t3,ez v,m,B,K,newRow]
theorem Tc (rel:bF R B w h muZ) {t:aG} {l c r:U} {H z:aE} {h' : aM} (g:zl P h t l c=some (r,h')) (X:aB w R h muZ l H) (O:aB w R h muZ c z) :
  ∃ v w' muZ',(Instr.makeSlice t H z).run P w=.ok v w'/\cZ w h muZ w' h' muZ'/\bF R B w' h' muZ'/\aB w' R h' muZ' r v:=by
 unfold zl at g;split at g
 ·rename_i e G j W ae S;obtain⟨ak,rfl⟩:=oy ae X;obtain⟨aj,rfl⟩:=oy S O;cases m:ca P e with
  | none=>rw[m] at g;cases g
  | some u=>
  cases o:gK P e with
  | none=>rw[m,o] at g;cases g
  | some am=>
  cases q:ga P e with
  | none=>rw[m,o,q] at g;cases g
  | some zero=>
  rw[m,o,q] at g;simp only at g;split at g
  ·rename_i T;obtain⟨ai,K,Y,Q,ag⟩:=T;simp only[bc,Prod.mk.injEq] at g;obtain⟨rfl,rfl⟩:=g;obtain⟨D,arr,ah,p⟩:=IY (w:=w) (R:=R) (h:=h) (muZ:=muZ) (kl:=ak) (kc:=aj) W m o q ai K Y Q ag;have C:=yg rel (cs:=cQ zero j.toNat) e p.1 p.2;rw[D] at C;obtain⟨I,J,al⟩:=C;refine⟨.slice (some ⟨w.heap.size,0,none⟩) G.toNat j.toNat,_,_,ah,I,J,?_⟩;have:=aB.Z (w:=w.alloc (.cells arr e)) (R:=R) (h:=h.push (.cells (j.toNat*u) (cQ zero j.toNat))) (muZ:=br muZ h.n (some ⟨w.heap.size,0,arr.size⟩))
    u h.n 0 G.toNat j.toNat (j.toNat*u) j.toNat (cQ zero j.toNat) ⟨w.heap.size,0,arr.size⟩ (by simp[dV]) V F F
    (.inr ⟨F,aN _,by simp only;rw[p.1,D];omega⟩)
   simpa using this
  ·cases g
 ·cases g
theorem SN {t u:aG} {ty:aG} {x c:U} {p:aE} (j:sl P t x=some c) (m:aB w R h muZ x p) :∃ v,(Builtin.len_ #[t] ty #[p]).run P w=.ok v w/\aB w R h muZ c v:=by
 unfold sl at j;split at j<;>(try (simp only[bc] at j;subst j))
 ·rename_i s g;cases m;rename_i o;exact⟨goInt o.size,by simp[Builtin.len_,cb g],by rw[show (o.data.toList.length:Int)=o.size from by simp];exact .int _ _⟩
 ·rename_i n e g;exact⟨goInt n,by simp[Builtin.len_,cb g],.int _ _⟩
 ·rename_i e g;cases m;exact⟨goInt (0:Nat),by simp[Builtin.len_,cb g],.int _ _⟩
 ·rename_i e z b B len cap C g;cases m
  ·exact⟨goInt len,by simp[Builtin.len_,cb g],.int _ _⟩
  ·exact⟨goInt len,by simp[Builtin.len_,cb g],.int _ _⟩
  ·exact⟨goInt (0:Nat),by simp[Builtin.len_,cb g],.int _ _⟩
 ·rename_i e z q g;cases m
  ·exact⟨goInt q.length,by simp[Builtin.len_,cb g],.int _ _⟩
  ·exact⟨goInt (0:Nat),by simp[Builtin.len_,cb g],.int _ _⟩
 ·rename_i k e g;cases m;exact⟨goInt 0,by simp[Builtin.len_,cb g],.int _ _⟩
 ·cases j
end
section
variable {P:bp} {w:aT} {R:Nat->Prop} {B:Nat} {h:aM} {muZ:b3}
theorem rb {t:aG} {cs:ag} {vs:Array aE} {off:Nat} {c:U} (g:gm P t cs off=some c) (m:i9 w R h muZ cs vs) :
  ∃ v,(∀ w2:aT,(part t vs off).run P w2=.ok v w2)/\aB w R h muZ c v:=by
 unfold gm at g;cases j:dE P t with
 | none=>rw[j] at g;cases g
 | some b=>
  rw[j] at g;cases b with
  | false=>
   simp only at g;obtain⟨v,h1,_,o⟩:=m.2 off c g;exact⟨v,fun w2=>by simp[part,Al j,h1],o⟩
  | true=>
   cases q:ca P t with
   | none=>rw[q] at g;cases g
   | some n=>
    rw[q] at g;simp only at g;split at g
    ·rename_i C;cases g;refine⟨.agg (vs.extract off (off+n)),fun w2=>by simp[part,Al j,ez q],i9.af ⟨by simp;rw[m.1];omega,fun B c p=>?_⟩⟩;have z:B<n:=by
      have:=(aL.1 p).1;rw[cL] at this;omega
     rw[dQ z,gx] at p;obtain⟨v,h1,u,o⟩:=m.2 _ c p;refine⟨v,?_,u,o⟩;rw[Array.getElem?_extract,ak (by rw[m.1];omega)];exact h1
    ·cases g
theorem qC {cs:ag} {p:aE} (t:aB w R h muZ (.af cs) p) :∃ vs,p=.agg vs/\i9 w R h muZ cs vs:=by
 cases t with
 | af _ vs o h1 q=>
  refine⟨vs,rfl,o,fun g c m=>?_⟩;have j:g<vs.size:=by rw[o];exact (aL.1 m).1
  exact⟨vs[g],by simp[j],h1 g _ (by simp[j]),q g c _ m (by simp[j])⟩
theorem QY {t:aG} {cs:ag} {f:Nat} {g:Field} {c:U} {j:aE} (o:sa P t f=some g) (q:gm P g.type cs g.offset=some c) (B:aB w R h muZ (.af cs) j) :
  ∃ v,(Instr.field t j f).run P w=.ok v w/\aB w R h muZ c v:=by obtain⟨C,z,p⟩:=HH o;obtain⟨D,rfl,u⟩:=qC B;obtain⟨v,h1,m⟩:=rb (P:=P) q u;exact⟨v,by simp[Instr.field,cb z,p,asAgg,h1],m⟩
theorem CO {t:aG} {x D c:U} {F C:aE} (g:tX P t x D=some c) (B:aB w R h muZ x F) (z:aB w R h muZ D C) :
  ∃ v,(Instr.index t F C).run P w=.ok v w/\aB w R h muZ c v:=by
 unfold tX at g;split at g
 ·rename_i n e cs i q p;obtain⟨k,rfl⟩:=oy p z;cases u:ca P e with
  | none=>rw[u] at g;cases g
  | some Q=>
   rw[u] at g;simp only at g;split at g
   ·rename_i o;obtain⟨O,rfl,K⟩:=qC B;obtain⟨v,h1,G⟩:=rb (P:=P) g K;exact⟨v,by simp[Instr.index,asIntOf,cb q,o,ez u,h1],G⟩
   ·cases g
 ·rename_i s i q p;obtain⟨k,rfl⟩:=oy p z;split at g
  ·rename_i o;cases B with
   | str j=>
    cases m:j.data.toList[i.toNat]? with
    | none=>rw[m] at g;cases g
    | some b=>
     rw[m] at g;simp only[cA,bc] at g;subst g;have J:i.toNat<j.size:=by have:=(aL.1 m).1;simpa using this
     have I:j[i.toNat]?=some b:=by
      have H:=(aL.1 m).2;rw[getElem?_pos j i.toNat J];simp only[bc];rw[<-H];rfl
     exact⟨.int .u8 b.toNat,by simp[Instr.index,asIntOf,cb q,o,I],.int _ _⟩
  ·cases g
 ·cases g
theorem PY (rel:bF R B w h muZ) {t u ty:aG} {d x c:U} {V ao:aE} {h' : aM} (g:tK P h t d x=some (c,h')) (ae:aB w R h muZ d V) (S:aB w R h muZ x ao) :
  ∃ v w',(Builtin.copy_ #[t,u] ty #[V,ao]).run P w=.ok v w'/\cZ w h muZ w' h' muZ/\bF R B w' h' muZ/\aB w' R h' muZ c v:=by
 unfold tK at g;cases H:gh P t with
 | none=>rw[H] at g;cases g
 | some e=>
 rw[H] at g;simp only at g;cases p:ca P e with
 | none=>rw[p] at g;cases g
 | some z=>
 rw[p] at g;simp only at g;cases G:contents h z x with
 | none=>rw[G] at g;cases g
 | some aC=>
 obtain⟨C,n⟩:=aC;rw[G] at g;simp only at g;have Q:=wc H;obtain⟨aK,K,aA,ai,I⟩:=qP (P:=P) rel G S;split at g
 ·simp only[bc,Prod.mk.injEq] at g;obtain⟨rfl,rfl⟩:=g;cases ae;have D:=I 0 (eS _) w (fun _=>rfl);refine⟨goInt (0:Nat),w,?_,.refl _ _ _,rel,.int _ _⟩;simp[Builtin.copy_,cb Q,K,ez p,D]
 ·rename_i aQ b q len cap aP;cases j:h.f b with
  | cells m cs=>
   rw[j] at g;simp only at g;split at g
   ·rename_i au;obtain⟨rfl,rfl⟩:=au;simp only[bc,Prod.mk.injEq] at g;obtain⟨rfl,rfl⟩:=g;cases ae with
    | gp _ _ _ _ a T am aq O=>
     have D:=I 0 (eS _) w (fun _=>rfl);have az:av cs q []=cs:=by simp[av]
     have aj:=rel.same (h':=h.set b (.cells m (av cs q (C.take (min n 0*z))))) (by
      rw[dm,Nat.min_zero,ti,nk,az];funext x;simp only[br];split
      ·rename_i S;rw[S,j]
      ·rfl) rfl
     refine⟨goInt (0:Nat),w,?_,aj.1,aj.2,by rw[Nat.min_zero];exact .int _ _⟩;simp[Builtin.copy_,cb Q,K,ez p,D,storeCells,Result.andThen]
    | ff _ _ _ _ _ _ ap a ax ar o=>
     exfalso;rcases o with o | ⟨aO,T,o,ag⟩
     ·rw[o] at j;cases j
     ·rw[o] at j;cases j;omega
    | Z _ _ _ _ _ _ ap T am aq O ax aJ ar=>
     have Y:=rel.blk b am O;rw[j] at Y;obtain⟨aF,aD,_⟩:=Y;have aH:min n len*z<=cap*z:=ck _ F;have aI:min n len*z<=n*z:=ck _ F;have ak:(C.take (min n len*z)).length=min n len*z:=by rw[cL];omega
     have ah:max m (q+(C.take (min n len*z)).length)=m:=by rw[ak];omega
     obtain⟨w',h1,W,X⟩:=sZ (P:=P) rel (cvs:=C.take (min n len*z)) (vs:=aA.take (min n len*z)) (k:=q) j O F
      (by rw[cL,cL,ai.1]) (by rw[ah];omega) (fun al c J=>by
       have ag:al<min n len*z:=by have:=(aL.1 J).1;rwa [ak] at this
       rw[dQ ag] at J ⊢;exact ai.2 al c J)
     rw[ah] at W X;have aw:=I (min n len) F w (fun _=>rfl);refine⟨goInt (min n len:Nat),w',?_,W,X,.int _ _⟩;have ay:Nat.min n len=min n len:=rfl;simp[Builtin.copy_,cb Q,K,ez p,ay,aw,h1]
   ·cases g
  | _=>rw[j] at g;cases g
 ·cases g
theorem BW:∀ (cs:ag) (vs:List aE) (bs:List UInt8),jZ cs=some bs->vs.length=cs.length->
  (∀ (j:Nat) (c:U),cs[j]?=some c->∃ v:aE,vs[j]?=some v/\v.oneCell'=true/\aB w R h muZ c v)->
  ∃ ns:List Int,vs=ns.map (Value.int .u8)/\bs=ns.map fun n=>UInt8.ofNat n.toNat
 | [],[],bs,g,_,_=>by
  simp only[jZ,bc] at g;subst g;exact⟨[],rfl,rfl⟩
 | [],_::_,_,_,m,_=>by simp at m
 | _::_,[],_,_,m,_=>by simp at m
 | c::cs,v::vs,bs,g,m,p=>by
  obtain⟨C,q,_,B⟩:=p 0 c rfl;simp only[hl,bc] at q;subst q;cases B with
  | int k n=>
   cases k<;>simp only[jZ] at g<;>try (cases g;done)
   cases o:jZ cs with
   | none=>rw[o] at g;cases g
   | some t=>
    rw[o] at g;simp only[cA,bc] at g;subst g;obtain⟨ns,h1,u⟩:=BW cs vs t o (by simpa using m) (fun j c z=>p (j+1) c (by simpa using z));exact⟨n::ns,by rw[h1];rfl,by rw[u];rfl⟩
  | _=>simp[jZ] at g
theorem HX:∀ (ns:List Int) (s:ByteArray),(ns.foldl (fun r n=>r.push (UInt8.ofNat n.toNat)) s).data.toList=s.data.toList++ns.map fun n=>UInt8.ofNat n.toNat
 | [],s=>V
 | n::ns,s=>by
  rw[xV,HX ns];simp[ByteArray.push]
theorem PV (rel:bF R B w h muZ) {s d:aG} {x c:U} {D:aE} (g:r4 P h s d x=some c) (q:aB w R h muZ x D) :
  ∃ v,(convert s d D).run P w=.ok v w/\aB w R h muZ c v:=by
 unfold r4 at g;split at g
 ·rename_i W k ae n o m;cases g;cases q;exact⟨.int k (k.wrap n),by simp[convert,cb o,cb m,Conv.intToInt],.int _ _⟩
 ·rename_i ag o m;cases g;cases q with
  | str u=>exact⟨.string u,by simp[convert,cb o,cb m],.str _⟩
 ·rename_i e o m X;cases t:P.underlying e with
  | none=>rw[t] at g;cases g
  | some V=>
   rw[t] at g;split at g
   ·rename_i heq;simp only[bc] at heq g;subst heq g;cases q;refine⟨.string ByteArray.empty,by simp[convert,cb o,cb m,cb t,Conv.bytesToString],?_⟩;exact .str ByteArray.empty
   ·rename_i heq Y;cases heq;split at g
    ·cases g
    ·rename_i cs n K F;cases z:jZ cs with
     | none=>rw[z] at g;cases g
     | some u=>
      rw[z] at g;simp only[cA,bc] at g;subst g;obtain⟨S,G,T,C,I⟩:=qP (P:=P) rel F q;have p:=I n (aN _) w (fun _=>rfl);obtain⟨j,rfl,rfl⟩:=BW cs T u z C.1 C.2;have O:(j.map (Value.int .u8)).take (n*1)=j.map (Value.int .u8):=aI (by rw[C.1,S];exact aN _);rw[O] at p;have J:∃ a len cap,D=.slice a len cap:=by
       cases q<;>first | exact⟨_,_,_,rfl⟩ | (simp[contents] at F;done) | (exact bV rfl (K _))
      obtain⟨a,len,cap,rfl⟩:=J;simp only[Builtin.lenOf,Sem.run_pure,Result.ok.injEq] at G;obtain⟨rfl,_⟩:=G;have H:=HX j ByteArray.empty;refine⟨.string (j.foldl (fun r n=>r.push (UInt8.ofNat n.toNat)) ByteArray.empty),?_,?_⟩
      ·rw[run_convert_bytes_string w s d e a len cap o t m];cases a with
       | none=>
        simp only[Builtin.firstCells,Sem.run_pure,Result.ok.injEq] at p;have Q:j=[]:=by
         have:=ch Array.toList p.1;simpa using this.symm
        subst Q;simp[Conv.bytesToString]
       | some a=>
        simp only[Builtin.firstCells,oi] at p;exact run_bytesToString w a len cap j p
      ·have:(j.foldl (fun r n=>r.push (UInt8.ofNat n.toNat)) ByteArray.empty).data.toList=j.map fun n=>UInt8.ofNat n.toNat:=by rw[H];rfl
       rw[<-this];exact .str _
    ·cases g
   ·cases g
 ·cases g
theorem D7 (rel:bF R B w h muZ) {w' : aT} (g:RowKit.Below w.heap.size w w') (t:w.drawn<=w'.drawn:=by first | exact aN _ | exact rK _) :cZ w h muZ w' h muZ/\bF R B w' h muZ:=by
 have e:cZ w h muZ w' h muZ:=⟨⟨g.os,g.tape,g.output,g.size,fun k hk _=>g.block k hk,fun _ v=>.inl v,fun b z cs p h1 m=>.inl ⟨cs,h1,m⟩,fun _ _ u=>u,fun _ _ _ h1 m=>⟨h1,m⟩,aN _,t⟩,fun _ _ j=>j⟩
 refine⟨e,fun b p j=>?_,rel.inj,rel.base,rel.fresh,rel.up,dC rel.size g.size,rel.iX⟩;cases o:live (h.f b) with
 | false=>cases q:h.f b<;>first | trivial | (rw[q] at o;cases o)
 | true=>exact (rel.blk b p j).ext e.toExt0 (g.block _ (rel.lt o j))
theorem O7 (rel:bF R B w h muZ) {s d:aG} {x c:U} {t:aE} (m:tB P s d x=some c) (T:aB w R h muZ x t) :
  ∃ v w',(convert s d t).run P w=.ok v w'/\cZ w h muZ w' h muZ/\bF R B w' h muZ/\aB w' R h muZ c v:=by
 unfold tB at m;split at m
 ·rename_i W e Y O D;split at m
  ·rename_i S;cases m;cases T with
   | str g=>
    have z:RowKit.Below w.heap.size w (Lib.bytesWorld w e g):=⟨rfl,rfl,rfl,by rw[Lib.bytesWorld_size];omega,fun k hk=>Lib.bytesWorld_at_old w e g k hk⟩
    obtain⟨h1,u⟩:=D7 rel z;refine⟨_,_,Lib.run_convert_string_bytes w s d e g O D S,h1,u,?_⟩;have Q:g.data.toList.length=g.size:=V;have K:¬ Own h muZ w.heap.size:=by
     rintro⟨b,X,I,J,j⟩;have:=rel.lt I J;omega
    have C:g.size<=grownCap w g.size 0 e:=grownCap_ge w g.size 0 e;have:=aB.bu (w:=Lib.bytesWorld w e g) (R:=R) (h:=h) (muZ:=muZ) 1 (g.data.toList.map fun b=>[hr b]) w.heap.size 0 (grownCap w g.size 0 e) (fun i _=>.int .u8 (g.data.toList.getD i 0).toNat)
     (by simpa using C) (fun e j=>by obtain⟨b,_,rfl⟩:=cE.1 j;rfl)
     (fun i p G o=>by
      have H:i<g.size:=by simpa using G
      have:p=0:=F;subst this;exact⟨by simpa using Lib.bytesWorld_cell w e g i H,rfl,rel.up _ rel.size,K⟩)
     (fun i e j p c o=>by
      rw[b0] at j;cases q:g.data.toList[i]? with
      | none=>rw[q] at j;cases j
      | some b=>
       rw[q] at j;simp only[cA,bc] at j;subst j;cases p with
       | zero=>
        simp only[hl,bc] at o;subst o;have:g.data.toList.getD i 0=b:=by simp[List.getD,q]
        rw[this];exact .int _ _
       | succ p=>simp at o)
    rw[ce,Q] at this;exact this
  ·cases m
 ·cases m
theorem Pk {t ty:aG} {x c:U} {m:aE} (g:tE P t x=some c) (o:aB w R h muZ x m) :∃ v,(Builtin.cap_ #[t] ty #[m]).run P w=.ok v w/\aB w R h muZ c v:=by
 unfold tE at g;split at g<;>(try (simp only[bc] at g;subst g))
 ·rename_i n e j;exact⟨goInt n,by simp[Builtin.cap_,cb j],.int _ _⟩
 ·rename_i e j;cases o;exact⟨goInt (0:Nat),by simp[Builtin.cap_,cb j],.int _ _⟩
 ·cases g
theorem Pz (rel:bF R B w h muZ) {t ty:aG} {x:U} {V:aE} {h' : aM} (g:tH P h t x=some h') (z:aB w R h muZ x V) :
  ∃ w',(Builtin.clear_ #[t] ty #[V]).run P w=.ok (.tuple #[]) w'/\cZ w h muZ w' h' muZ/\bF R B w' h' muZ:=by
 unfold tH at g;split at g
 ·rename_i e o;cases g;cases z;exact⟨w,by simp[Builtin.clear_,cb o],.refl _ _ _,rel⟩
 ·rename_i e ar o;cases g;cases z<;>exact⟨w,by simp[Builtin.clear_,cb o],.refl _ _ _,rel⟩
 ·rename_i e ar b T len cap aD o;split at g
  ·rename_i v;cases g;subst v;cases z<;>exact⟨w,by simp[Builtin.clear_,cb o],.refl _ _ _,rel⟩
  ·rename_i v;split at g
   ·rename_i zero m cs am j;split at g
    ·rename_i ai;obtain⟨rfl,rfl⟩:=ai;cases g;cases z with
     | gp=>exact bV rfl v
     | ff _ _ _ _ _ _ ae a H ah p=>
      exfalso;rcases p with p | ⟨aC,ag,p,ax⟩
      ·rw[p] at j;cases j
      ·rw[p] at j;cases j;omega
     | Z _ _ _ _ _ _ ae ag aq av J H az ah=>
      have G:=rel.blk b aq J;rw[j] at G;obtain⟨aw,au,_⟩:=G;obtain⟨q,al,O⟩:=rz (P:=P) (w:=w) (R:=R) (h:=h) (muZ:=muZ) am;have ak:=Ag O len;have ay:len*zero.length<=cap*zero.length:=ck _ H;have Q:(cQ zero len).length=len*zero.length:=sG len;have K:max m (T+(cQ zero len).length)=m:=by rw[Q];omega
      have ao:q.cells.size=zero.length:=O.1;have S:(Builtin.zeroCells q.cells len)=(Array.range (len*zero.length)).map (q.cells[· % q.cells.size]!):=by
       unfold Builtin.zeroCells;rw[ao]
      obtain⟨w',h1,C,D⟩:=sZ (P:=P) rel (cvs:=cQ zero len) (vs:=(Builtin.zeroCells q.cells len).toList) (k:=T) j J F
       (by rw[S,Q];simp) (by rw[K];omega) (fun ap c aj=>by
        rw[S];obtain⟨u,W,X,Y⟩:=ak.2 ap c aj;exact⟨u,by rw[qk];exact W,X,Y⟩)
      rw[K] at C D;refine⟨w',?_,C,D⟩;cases I:len with
      | zero=>exact bV I v
      | succ aA=>
       rw[I] at h1;simp[Builtin.clear_,cb o,al,h1]
    ·cases g
   ·cases g
 ·cases g
theorem OA (rel:bF R B w h muZ) {t u ty:aG} {k:cU} {s x c:U} {jm ar:aE} {h' : aM} (J:P.underlying u=some (.int k)) (m:vH P h t s x=some (c,h')) (aL:aB w R h muZ s jm) (aR:aB w R h muZ x ar) :
  ∃ v w' muZ',(Builtin.append_ #[t,u] ty #[jm,ar]).run P w=.ok v w'/\cZ w h muZ w' h' muZ'/\bF R B w' h' muZ'/\aB w' R h' muZ' c v:=by
 unfold vH at m;split at m
 ·rename_i e n aA aD;have I:=wc aA;obtain⟨aW,rfl⟩:=oy aD aR;split at m
  ·rename_i z by_ zero o ah ao;split at m
   ·rename_i az;obtain⟨ap,a0,a1,aJ⟩:=az;obtain⟨i,zv,g,ag,aU,_⟩:=MX (P:=P) (w:=w) (R:=R) (h:=h) (muZ:=muZ) ao;have aO:i.size=z:=by simpa [ca,g] using o
    have q:i.bytes=by_:=by simpa [gK,g] using ah
    have K:IntKind.i64.wrap n=n:=by
     simp[IntKind.wrap,IntKind.bits,IntKind.signed];omega
    have aH:(n.toNat:Int)=n:=F;have H:¬ (n<0):=F;have aY:¬ (2 ^ 48<n*(by_:Int)):=by
     have h1:((n.toNat*by_:Nat) :Int)=n*by_:=by rw[Int.natCast_mul,aH]
     have ax:((n.toNat*by_:Nat) :Int)<=((140737488355328:Nat) :Int):=Int.ofNat_le.2 aJ;rw[h1] at ax;omega
    have al:i9 w R h muZ (cQ zero n.toNat) (Builtin.zeroCells zv.cells n.toNat):=by
     obtain⟨v,aP,O⟩:=rz (P:=P) (w:=w) (R:=R) (h:=h) (muZ:=muZ) ao;have aQ:v=zv:=by
      have:=aP w;simp[zeroValue,typeInfo,g,ag] at this;exact this.symm
     subst aQ;have aK:=Ag O n.toNat
     have aS:(Builtin.zeroCells v.cells n.toNat)=(Array.range (n.toNat*zero.length)).map (v.cells[· % v.cells.size]!):=by
      unfold Builtin.zeroCells;rw[O.1]
     rw[aS];exact aK
    have aI:(cQ zero n.toNat).length=n.toNat*z:=by rw[sG,ap]
    have G:∀ w2:aT,(Go.asInt (.int aW n)).run P w2=.ok n w2:=fun w2=>rfl
    have D:¬ (281474976710656<n*(by_:Int)):=F;have S:∀ w2:aT,(zeroValue e).run P w2=.ok zv w2:=fun w2=>by simp[zeroValue,typeInfo,g,ag]
    have am:n.toNat*z=0->Builtin.zeroCells zv.cells n.toNat=#[]:=fun j=>by
     apply A5;unfold Builtin.zeroCells;simp[aU,ap,j]
    refine Gh rel o ah m aL aI (vs:=(Builtin.zeroCells zv.cells n.toNat).toList) ⟨by simpa using al.1,fun aV c aF=>by
     obtain⟨v,au,av,aw⟩:=al.2 aV c aF;exact⟨v,by rw[qk];exact au,av,aw⟩⟩ (fun base p W w' Q C=>?_) (fun a2 a3 ai aq base p W T ae aC O ay=>?_)
    ·by_cases j:n.toNat*z=0
     ·rw[am j] at C;cases base with
      | none=>
       subst C;simp[Builtin.append_,G,cb I,cb J,ez o,K,H,typeInfo,g,q,Q,D,j]
      | some a=>
       simp only at C;simp[Builtin.append_,G,cb I,cb J,ez o,K,H,typeInfo,g,q,Q,D,j,C]
     ·cases base with
      | none=>
       subst C;simp[Builtin.append_,G,cb I,cb J,ez o,K,H,typeInfo,g,q,Q,D,S]
      | some a=>
       simp only at C;simp[Builtin.append_,G,cb I,cb J,ez o,K,H,typeInfo,g,q,Q,D,j,S,C]
    ·rw[g] at ai;cases ai;rw[ag] at aq;cases aq;have X:¬ (281474976710656<Builtin.nextslicecap (p+n.toNat) W*i.bytes):=by
      have:=growslice_fits (need:=p+n.toNat) (old:=W) (bytes:=i.bytes) aC O;omega
     have ak:¬ (p+n.toNat<=W):=F;have aZ:¬ ((9223372036854775807:Int)<((p+n.toNat:Nat) :Int)):=by
      have h1:(p+n.toNat)*1<=(p+n.toNat)*i.bytes:=Nat.mul_le_mul_left _ ay;unfold dj at O;omega
     have aj:¬ ((9223372036854775807:Int)<(p:Int)+max n 0):=F;rw[aO] at ae;rw[q] at X;by_cases j:n.toNat*z=0
     ·have Y:(T++(Builtin.zeroCells zv.cells n.toNat).toList).toArray=T.toArray:=by rw[am j];simp
      rw[Y];simp[Builtin.append_,G,cb I,cb J,ez o,K,H,typeInfo,g,q,ak,D,aj,X,j,S,ae,Question.forced,newRow,grownCap]
     ·have Y:(T++(Builtin.zeroCells zv.cells n.toNat).toList).toArray=T.toArray++Builtin.zeroCells zv.cells n.toNat:=V;rw[Y];simp[Builtin.append_,G,cb I,cb J,ez o,K,H,typeInfo,g,q,ak,D,aj,X,j,S,ae,Question.forced,newRow,grownCap]
   ·cases m
  ·cases m
 ·cases m
end
section
variable {P:bp} {w:aT} {R:Nat->Prop} {B:Nat} {h:aM} {muZ:b3}
theorem OM {op:BinOp} {t:aG} {k k' : cU} {a b:Int} {c:U} (g:cz op k a k' b=some c) :
  ∃ v,(binOp op t (.int k a) (.int k' b)).run P w=.ok v w/\aB w R h muZ c v:=by
 cases op
 case shl=>
  simp only[cz] at g;split at g
  ·cases g
  ·rename_i j;cases g;exact⟨_,by simp[binOp,Op.shift,j],.int _ _⟩
 case shr=>
  simp only[cz] at g;split at g
  ·cases g
  ·rename_i j;cases g;exact⟨_,by simp[binOp,Op.shift,j],.int _ _⟩
 case quo=>
  simp only[cz] at g;split at g
  ·rename_i j;obtain⟨rfl,j⟩:=j;cases g;exact⟨_,by simp[binOp,Op.intDiv,j],.int _ _⟩
  ·cases g
 case rem=>
  simp only[cz] at g;split at g
  ·rename_i j;obtain⟨rfl,j⟩:=j;cases g;exact⟨_,by simp[binOp,Op.intDiv,j],.int _ _⟩
  ·cases g
 all_goals
  simp only[cz] at g;split at g
  ·rename_i hk;subst hk;cases g
   first
    | (refine⟨_,?_,.int _ _⟩;unfold binOp;simp only[ne_eq,not_true_eq_false,if_false];rfl)
    | (refine⟨_,?_,.bool _⟩;unfold binOp;simp only[ne_eq,not_true_eq_false,if_false];rfl)
  ·cases g
theorem toList_eq (s:ByteArray) :s.toList=s.data.toList:=by rw[ByteArray.toList_eq]
theorem ON {op:BinOp} {t:aG} {a b:ByteArray} {c:U} (g:tu op a.data.toList b.data.toList=some c) :
  ∃ v,(binOp op t (.string a) (.string b)).run P w=.ok v w/\aB w R h muZ c v:=by
 cases op<;>simp only[tu] at g<;>try (cases g;done)
 case add=>
  split at g
  ·rename_i o;cases g;have h1:a.data.toList.length=a.size:=V;have j:b.data.toList.length=b.size:=V;rw[h1,j] at o;have p:¬ ((9223372036854775807:Int)<(a.size:Int)+(b.size:Int)):=F;have m:(a++b).data.toList=a.data.toList++b.data.toList:=V;refine⟨.string (a++b),by simp[binOp,Op.stringOp,p],?_⟩;rw[<-m];exact .str _
  ·cases g
 all_goals
  cases g;exact⟨_,by simp[binOp,Op.stringOp,toList_eq],.bool _⟩
theorem QP {d:Nat} {t:aG} {a b:Bool} (g:P.underlying t=some .bool) :(Op.equalIn (d+1) t (.bool a) (.bool b)).run P w=.ok (a == b) w:=by simp[Op.equalIn,cb g]
theorem QQ {d:Nat} {t:aG} {h k:cU} {a b:Int} (g:P.underlying t=some (.int h)) :(Op.equalIn (d+1) t (.int k a) (.int k b)).run P w=.ok (a == b) w:=by simp[Op.equalIn,cb g]
theorem QR {d:Nat} {t:aG} {a b:ByteArray} (g:P.underlying t=some .string) :(Op.equalIn (d+1) t (.string a) (.string b)).run P w=.ok (a.data.toList == b.data.toList) w:=by simp[Op.equalIn,cb g,toList_eq,beq_toListBytes]
theorem Cn {d:Nat} {t e:aG} {x y l c:Nat} {b:Option Addr} (g:P.underlying t=some (.slice e)) :(Op.equalIn (d+1) t (.slice none x y) (.slice b l c)).run P w=.ok b.isNone w:=by simp[Op.equalIn,cb g]
theorem HD {d:Nat} {t e:aG} {x y l c:Nat} {a:Addr} (g:P.underlying t=some (.slice e)) :(Op.equalIn (d+1) t (.slice (some a) l c) (.slice none x y)).run P w=.ok false w:=by simp[Op.equalIn,cb g]
theorem Ck {d:Nat} {xs G:ag} {C F:Array aE}
  (m:∀ (t:aG) (x y:U) (b:Bool) (D H:aE),dK P d t x y=some b->aB w R h muZ x D->aB w R h muZ y H->(Op.equalIn d t D H).run P w=.ok b w)
  (o:i9 w R h muZ xs C) (p:i9 w R h muZ G F) :∀ (l:List Field) (b:Bool),dK.eqFields P (dK P d) xs G l=some b->(Op.eqFields d C F l).run P w=.ok b w
 | [],b,g=>by simp only[dK.eqFields,bc] at g;subst g;simp[Op.eqFields]
 | f::l,b,g=>by
  unfold dK.eqFields at g;unfold Op.eqFields;by_cases j:f.name= "_"
  ·rw[ak j] at g;simp[j,Ck m o p l b g]
  ·rw[ai j] at g;split at g
   ·rename_i a c I J;obtain⟨z,h1,q⟩:=rb (P:=P) I o;obtain⟨B,u,v⟩:=rb (P:=P) J p;split at g
    ·rename_i heq;have:=m f.type a c true z B heq q v;simp[j,h1,u,this,Ck m o p l b g]
    ·rename_i heq;have:=m f.type a c false z B heq q v;cases g;simp[j,h1,u,this]
    ·cases g
   ·cases g
theorem Hz {d z:Nat} {e:aG} {xs J:ag} {G I:Array aE}
  (u:∀ (t:aG) (x y:U) (b:Bool) (H K:aE),dK P d t x y=some b->aB w R h muZ x H->aB w R h muZ y K->(Op.equalIn d t H K).run P w=.ok b w)
  (D:i9 w R h muZ xs G) (F:i9 w R h muZ J I) (f:Nat->Option Bool × Unit->Sem (ForInStep (Option Bool × Unit)))
  (o:∀ (i:Nat) (j m:aE) (b:Bool) (r:Option Bool × Unit),(part e G (i*z)).run P w=.ok j w->(part e I (i*z)).run P w=.ok m w->(Op.equalIn d e j m).run P w=.ok b w->
   (f i r).run P w=.ok (if b then .yield (none,()) else .done (some false,())) w) :
  ∀ (n i:Nat) (b:Bool),dK.oG P (dK P d) e z xs J n i=some b->(forIn (List.range' i n) (none,()) f).run P w=.ok (if b then (none,()) else (some false,())) w
 | 0,i,b,g=>by
  simp only[dK.oG,bc] at g;subst g;simp
 | n+1,i,b,g=>by
  unfold dK.oG at g;split at g
  ·rename_i a c O Q;obtain⟨j,h1,v⟩:=rb (P:=P) O D;obtain⟨m,B,C⟩:=rb (P:=P) Q F;rw[List.range'_succ,List.forIn_cons];split at g
   ·rename_i heq;have q:=u e a c true j m heq v C;have p:=o i j m true (none,()) (h1 w) (B w) q;simp only[Sem.run_bind,p,if_true,Result.andThen_ok];exact Hz u D F f o n (i+1) b g
   ·rename_i heq;have q:=u e a c false j m heq v C;have p:=o i j m false (none,()) (h1 w) (B w) q;cases g;simp[p]
   ·cases g
  ·cases g
theorem run_equalIn_array {d n z:Nat} {t e:aG} {j m:Array aE} (u:P.underlying t=some (.array n e)) (v:ca P e=some z) {b:Bool}
  (hk:∀ f:Nat->Option Bool × Unit->Sem (ForInStep (Option Bool × Unit)),
   (∀ (i:Nat) (g h:aE) (b:Bool) (r:Option Bool × Unit),(part e j (i*z)).run P w=.ok g w->(part e m (i*z)).run P w=.ok h w->(Op.equalIn d e g h).run P w=.ok b w->(f i r).run P w=.ok (if b then .yield (none,()) else .done (some false,())) w)->
   (forIn (List.range' 0 n) (none,()) f).run P w=.ok (if b then (none,()) else (some false,())) w) :
  (Op.equalIn (d+1) t (.agg j) (.agg m)).run P w=.ok b w:=by
 simp only[Op.equalIn,Sem.run_bind,cb u,Result.andThen_ok,ez v];rw[Std.Legacy.Range.forIn_eq_forIn_range'];have q:List.range' ([:n] :Std.Legacy.Range).start ([:n] :Std.Legacy.Range).size ([:n] :Std.Legacy.Range).step=List.range' 0 n:=by simp[Std.Legacy.Range.size]
 rw[q,hk]
 ·cases b<;>simp
 ·intro i g h b r h1 o p;cases b<;>simp[h1,o,p]
theorem Cl:∀ (d:Nat) (t:aG) (x y:U) (b:Bool) (q u:aE),dK P d t x y=some b->aB w R h muZ x q->aB w R h muZ y u->
  (Op.equalIn d t q u).run P w=.ok b w:=by
 intro d
 induction d with
 | zero=>intro t x y b q u g;simp[dK] at g
 | succ d F=>
  intro t x y b q u g m o;unfold dK at g;split at g
  ·rename_i a p j;cases g;cases m;cases o;exact QP j
  ·rename_i X k a W p j;split at g
   ·rename_i hk;subst hk;cases g;cases m;cases o;exact QQ j
   ·cases g
  ·rename_i a p j;cases g;cases m;cases o;exact QR j
  ·rename_i fs T V j;split at g
   ·cases g
   ·rename_i K;obtain⟨G,rfl,z⟩:=qC m;obtain⟨H,rfl,B⟩:=qC o;have O:P.stoodInHeld t=false:=by simpa using K
    have D:P.fieldsOf t=fs:=by simp[Program.fieldsOf,j]
    rw[run_equalIn_struct w d t G H (by rw[D];exact j) O,D];exact Ck F z B _ _ g
  ·rename_i n e T V j;cases C:ca P e with
   | none=>rw[C] at g;cases g
   | some v=>
    rw[C] at g;simp only at g;obtain⟨G,rfl,z⟩:=qC m;obtain⟨H,rfl,B⟩:=qC o;exact run_equalIn_array j C (fun f J=>Hz F z B f J n 0 b g)
  ·rename_i e j;cases g;cases m;cases o;exact Cn j
  ·rename_i e v p Q len cap S j;cases g;cases m;cases o<;>exact Cn j
  ·rename_i e v I j;cases g;cases m;cases o<;>exact Cn j
  ·rename_i e v p Q len cap S j;cases g;cases o;cases m<;>exact HD j
  ·rename_i e v I j;cases g;cases o;cases m<;>exact HD j
  ·cases g
end
section
variable {P:bp} {w:aT} {R:Nat->Prop} {B:Nat} {h:aM} {muZ:b3}
def qc:U->aE
 | .bool b=>.bool b
 | .int k n=>.int k n
 | .str s=>.string ⟨s.toArray⟩
 | _=>.tuple #[]
def sR:U->aE
 | .af cs=>.agg (cs.map qc).toArray
 | c=>qc c
theorem Vd {c:U} {v:aE} (m:rc c=true) (g:aB w R h muZ c v) :v=qc c:=by
 cases c<;>simp[rc] at m
 ·cases g;rfl
 ·cases g;rfl
 ·cases g;rename_i j;show Value.string j=.string ⟨j.data.toList.toArray⟩;congr 1
theorem ze {t:aG} {c:U} (g:kN P t c=true) :∃ cs m,c=.af cs/\pQ P 8 t=true/\dE P t=some true/\ca P t=some m/\cs.length=m/\∀ x∈cs,rc x=true:=by
 unfold kN at g;split at g
 ·rename_i cs;simp only[bU] at g;obtain⟨⟨h1,h⟩,j⟩:=g;split at h
  ·rename_i m o p;exact⟨cs,m,rfl,h1,o,p,mu h,fun x q=>gb.1 j x q⟩
  ·cases h
 ·cases g
theorem C2 {t:aG} {c:U} {v:aE} (p:kN P t c=true) (m:aB w R h muZ c v) :v=sR c:=by
 obtain⟨cs,C,rfl,_,_,_,_,hint⟩:=ze p;cases m with
 | af _ o q h1 m=>
  show Value.agg o=.agg (cs.map qc).toArray;congr 1;apply Array.ext_getElem?;intro g;have z:(cs.map qc).toArray[g]?=(cs[g]?).map qc:=V;rw[z];cases j:cs[g]? with
  | none=>simp only[Option.map_none];rw[qj];rw[q];exact Fv.1 j
  | some c=>
   have B:=(aL.1 j).1;have u:=m g c o[g] j (rA F);rw[rA F];simp only[cA,bc];exact Vd (hint c (cJ j)) u
theorem O8 (a:ByteArray) :(a == a)=true:=by show (a.data == a.data)=true;exact beq_self_eq_true _
theorem W3 {c:U} (n:Nat) (g:rc c=true) :Instr.sameBits n (qc c) (qc c)=true:=by
 cases c<;>simp[rc] at g<;>unfold qc Instr.sameBits
 ·simp
 ·simp
 ·exact O8 _
theorem W2 {t:aG} {c:U} (n:Nat) (o:kN P t c=true) :Instr.sameBits (n+1) (sR c) (sR c)=true:=by obtain⟨cs,q,rfl,_,_,_,_,hint⟩:=ze o;unfold sR Instr.sameBits;simp only[beq_self_eq_true,lH,gb];rintro⟨x,y⟩ j;rw[cp] at j;obtain⟨p,h⟩:=j;rw[tb] at h;obtain⟨h1,g⟩:=h;rw[h1] at g;cases g;simp only[b0,FO] at h1;obtain⟨c,m,rfl⟩:=h1;exact W3 n (hint c (cJ m))
theorem WX {t:aG} {c:U} (g:kN P t c=true) :(Instr.keyThatStays (sR c) (sR c)).run P w=.ok (sR c) w:=by unfold Instr.keyThatStays;rw[ak (W2 9999 g)];simp
theorem Cw {alZ:Type} {f:alZ->PUnit->Sem (ForInStep PUnit)}:∀ (l:List alZ),(∀ x∈l,(f x ⟨⟩).run P w=.ok (.yield ⟨⟩) w)->(forIn l ⟨⟩ f).run P w=.ok ⟨⟩ w
 | [],_=>V
 | x::l,g=>by
  rw[List.forIn_cons];simp only[Sem.run_bind,g x V,Result.andThen_ok];exact Cw l (fun y h=>g y (by simp[h]))
theorem Em (em:Bool) :∀ (d n:Nat) (t:aG) (c:U) (v:aE),d<=n->pQ P d t=true->aB w R h muZ c v->(dE P t=some true->∃ cs m,c=.af cs/\ca P t=some m/\cs.length=m)->
  (Instr.checkKey em n t v).run P w=.ok () w
 | 0,_,_,_,_,_,hk,_,_=>by simp[pQ] at hk
 | d+1,0,_,_,_,al,_,_,_=>F
 | d+1,n+1,t,c,v,al,hk,X,T=>by
  unfold pQ at hk;split at hk
  ·rename_i j;cases v<;>simp[Instr.checkKey,cb j]
  ·rename_i j;cases v<;>simp[Instr.checkKey,cb j]
  ·rename_i j;cases v<;>simp[Instr.checkKey,cb j]
  ·rename_i len e m j O;have G:dE P t=some true:=by unfold dE;rw[j];rfl
   obtain⟨cs,o,rfl,q,ai⟩:=T G;rw[O] at q;cases q;simp only[bU] at hk;obtain⟨K,g⟩:=hk;split at g
   ·rename_i z a B H;simp only[bU] at g;have aj:=x2 g.1;have am:=x2 g.2;obtain⟨ao,rfl,S⟩:=qC X;unfold Instr.checkKey;simp only[Sem.run_bind,cb j,Result.andThen_ok];rw[Std.Legacy.Range.forIn_eq_forIn_range'];rw[Cw]
    ·simp
    intro i ae;have ag:i<len:=by simp[Std.Legacy.Range.size] at ae;omega
    have ah:i*z+z<=cs.length:=by
     have:i*z+z<=len*z:=by rw[<-ej];exact ck _ ag
     omega
    have Q:∃ c,gm P e cs (i*z)=some c/\(dE P e=some true->∃ p o,c=.af p/\ca P e=some o/\p.length=o):=by
     unfold gm;rw[H,B];cases a with
     | true=>exact⟨_,by simp only;rw[ak ah],fun _=>⟨_,z,rfl,rfl,by simp;omega⟩⟩
     | false=>exact⟨cs[i*z]'F,by simp only;exact bM F,fun h=>by cases h⟩
    obtain⟨c,I,J⟩:=Q;obtain⟨u,C,D⟩:=rb (P:=P) I S;simp only[Sem.run_bind,ez B,Result.andThen_ok,C w];rw[Em em d n e c u F K D J];simp
   ·cases g
  ·rename_i ap m j O;have G:dE P t=some true:=by unfold dE;rw[j];rfl
   obtain⟨cs,o,rfl,q,ai⟩:=T G;rw[O] at q;cases q;obtain⟨ao,rfl,S⟩:=qC X;unfold Instr.checkKey;simp only[Sem.run_bind,cb j,Result.andThen_ok];rw[<-Array.forIn_toList,Cw]
   ·simp
   intro f Y;have V:=gb.1 hk f Y;simp only[bU] at V;obtain⟨K,g⟩:=V;split at g
   ·rename_i z a B H;simp only[bU] at g;have aj:=x2 g.1;have am:=x2 g.2;have Q:∃ c,gm P f.type cs f.offset=some c/\(dE P f.type=some true->∃ p o,c=.af p/\ca P f.type=some o/\p.length=o):=by
     unfold gm;rw[H,B];cases a with
     | true=>exact⟨_,by simp only;rw[ak F],fun _=>⟨_,z,rfl,rfl,by simp;omega⟩⟩
     | false=>exact⟨cs[f.offset]'F,by simp only;exact bM F,fun h=>by cases h⟩
    obtain⟨c,I,J⟩:=Q;obtain⟨u,C,D⟩:=rb (P:=P) I S;have:=Em em d n f.type c u F K D J;by_cases W:f.name= "_"
    ·simp[W]
    ·simp[W,C w,this]
   ·cases g
  ·cases hk
theorem K6 {t:aG} {c:U} {v:aE} (em:Bool) (m:kN P t c=true) (o:aB w R h muZ c v) :(Instr.checkKey em 10000 t v).run P w=.ok () w:=by obtain⟨cs,p,rfl,h1,q,g,j,_⟩:=ze m;exact Em em 8 10000 t _ v F h1 o (fun _=>⟨cs,p,rfl,g,j⟩)
def pq (w:aT) (R:Nat->Prop) (h:aM) (muZ:b3) (es:List (U × U × Nat)) (g:List k7) :Prop:=
 g.length=es.length/\∀ (j:Nat) (k m:U) (b:Nat),es[j]?=some (k,m,b)->∃ x:k7,g[j]?=some x/\aB w R h muZ k x.key/\aB w R h muZ m x.val/\x.born=b
def FS (w:aT) (R:Nat->Prop) (h:aM) (muZ:b3) (k:U) (m:List k7) (i:Nat) :Option (Nat × U)->Option (Nat × aE)->Prop
 | none,r=>r=none
 | some (g,o),r=>∃ j,r=some (g,j)/\aB w R h muZ o j/\i<=g/\∃ x,m[g - i]?=some x/\x.val=j/\aB w R h muZ k x.key
theorem QH {es:List (U × U × Nat)} {e:U × U × Nat} {x:k7} {we:List k7} (g:pq w R h muZ (e::es) (x::we)) :pq w R h muZ es we:=
 ⟨by have:=g.1;simp at this;exact this,fun m k o b j=>g.2 (m+1) k o b (by simpa using j)⟩
theorem QG {es:List (U × U × Nat)} {k v:U} {b:Nat} {x:k7} {g:List k7} (m:pq w R h muZ ((k,v,b) ::es) (x::g)) :aB w R h muZ k x.key/\aB w R h muZ v x.val/\x.born=b:=by obtain⟨y,h1,j⟩:=m.2 0 k v b rfl;simp at h1;subst h1;exact j
theorem HL {o:aG} {k:U} {p:aE} (hk:aB w R h muZ k p) :∀ (es:List (U × U × Nat)) (j:List k7) (i:Nat) (r:Option (Nat × U)),pq w R h muZ es j->j5 P o k es i=some r->
  ∃ q,(Instr.findAsking o p j i).run P w=.ok q w/\FS w R h muZ k j i r q
 | [],j,i,r,m,g=>by
  have:j=[]:=ho.1 m.1;subst this;simp only[j5,bc] at g;subst g;exact⟨none,by simp[Instr.findAsking],rfl⟩
 | (u,O,b) ::es,[],i,r,m,g=>by have:=m.1;simp at this
 | (u,O,b) ::es,x::j,i,r,m,g=>by
  obtain⟨h1,D,S⟩:=QG m;simp only[j5] at g;split at g
  ·cases g
  rename_i W;split at g
  ·rename_i heq;split at g
   ·rename_i K;cases g;have t:=Cl (P:=P) 10000 o k u true p x.key heq hk h1;refine⟨some (i,x.val),?_,x.val,rfl,D,aN _,x,V,rfl,?_⟩
    ·simp only[Instr.findAsking,Op.equal,Op.maxDepth,Sem.run_bind];rw[t];simp
    ·rw[U.beq_eq K];exact h1
   ·cases g
  ·rename_i heq;have t:=Cl (P:=P) 10000 o k u false p x.key heq hk h1;obtain⟨q,G,v⟩:=HL hk es j (i+1) r (QH m) g;refine⟨q,?_,?_⟩
   ·simp only[Instr.findAsking,Op.equal,Op.maxDepth,Sem.run_bind];rw[t];simpa using G
   ·cases r with
    | none=>exact v
    | some z=>
     obtain⟨Q,H,I,T,y,J,B,C⟩:=v;exact⟨Q,H,I,F,y,by rw[show z.1 - i=(z.1 - (i+1))+1 by omega];simpa using J,B,C⟩
  ·cases g
theorem K8 {m:aG} {k:U} {p:aE} (hk:aB w R h muZ k p) (t:kN P m k=true) {es:List (U × U × Nat)} {g:List k7} {r:Option (Nat × U)} (z:pq w R h muZ es g) (u:j5 P m k es 0=some r) :
  ∃ o2,(Instr.findKey m p g).run P w=.ok o2 w/\FS w R h muZ k g 0 r o2:=by
 obtain⟨o2,h1,q⟩:=HL hk es g 0 r z u;refine⟨o2,?_,q⟩;obtain⟨cs,C,rfl,B,j,_⟩:=ze t;unfold dE at j;cases o:P.underlying m with
 | none=>rw[o] at j;cases j
 | some d=>
  rw[o] at j;unfold Instr.findKey;simp only[Sem.run_bind,cb o,Result.andThen_ok];cases g with
  | nil=>simpa [Instr.findNow,Instr.findAsking] using h1
  | cons x g=>
   have v:Instr.findNow d p (x::g) 0=none:=by
    cases d<;>simp at j<;>simp[Instr.findNow,Instr.sameNow]
   rw[v];exact h1
theorem Td (rel:bF R B w h muZ) {m:U} {dU:aE} {es:List (U × U × Nat)} (j:wL h m=some es) (u:aB w R h muZ m dU) :
  (dU=.map none/\es=[])\/∃ b g o p,m=.mp b/\h.f b=.map es o/\muZ b=some g/\dU=.map (some g.r)/\w.heap[g.r]?=some (.map p o)/\pq w R h muZ es p.toList:=by
 cases m<;>simp[wL] at j
 ·subst j;cases u;exact .inl ⟨rfl,rfl⟩
 ·rename_i b;cases u with
  | mp _ g K t=>
   cases q:h.f b<;>rw[q] at j<;>simp at j;rename_i J o;subst j;have hblk:=rel.blk b g t;rw[q] at hblk;obtain⟨p,h1,z,C⟩:=hblk;refine .inr ⟨b,g,o,p,rfl,q,t,rfl,h1,by simpa using z,fun H k I v G=>?_⟩;obtain⟨x,D,F⟩:=C H k I v G;exact⟨x,by simpa using D,F⟩
theorem En {r:Nat} {es:Array k7} {g:Nat} (h:w.heap[r]?=some (.map es g)) :(getObj r).run P w=.ok (.map es g) w:=by simp[getObj,Sem.run,h]
theorem K9 {r:Nat} {s:ByteArray} {pos:Nat} (g:w.heap[r]?=some (.stringIter s pos)) :(getObj r).run P w=.ok (.stringIter s pos) w:=by simp[getObj,Sem.run,g]
theorem MW {t:aG} {z:U} (g:s5 P t=some z) :∃ v,(zeroValue t).run P w=.ok v w/\aB w R h muZ z v:=by
 unfold s5 at g;cases j:P.info? t with
 | none=>rw[j] at g;cases g
 | some i=>
  rw[j] at g;simp only[qr] at g;cases m:i.zero with
  | none=>rw[m] at g;cases g
  | some v=>
   rw[m] at g;simp only[cA,bc] at g;subst g;exact⟨v,Lc j m,.q5 v⟩
theorem aB.Mg {a b:U} {o p:aE} (q:aB w R h muZ a o) (t:aB w R h muZ b p) :aB w R h muZ (.aX [a,b]) (.tuple #[o,p]):=by
 refine .aX _ _ rfl fun m c u g j=>?_
 rcases m with _ | _ | m
 ·simp at g j;subst g j;exact q
 ·simp at g j;subst g j;exact t
 ·simp at g
theorem SY (rel:bF R B w h muZ) {t:aG} {m k c:U} {dU p:aE} {ok:Bool} (g:zj P h t m k ok=some c) (o:aB w R h muZ m dU) (hk:aB w R h muZ k p) :
  ∃ v,(Instr.lookup t dU p ok).run P w=.ok v w/\aB w R h muZ c v:=by
 unfold zj at g;split at g
 ·rename_i u D O ag am;split at g
  ·cases g
  ·rename_i ae;have ai:∀ j:List k7,pq w R h muZ O j->∃ z,(Instr.findKey u p j).run P w=.ok z w ∧
     ((∃ i v,z=some (i,v)/\∃ G,aB w R h muZ G v/\c=if ok then .aX [G,.bool true] else G)\/(z=none/\∃ q,s5 P D=some q/\c=if ok then .aX [q,.bool false] else q)):=by
    intro j F;cases T:j5 P u k O 0 with
    | none=>rw[T] at g;cases g
    | some r=>
     obtain⟨z,h1,H⟩:=K8 hk ae F T;rw[T] at g;refine⟨z,h1,?_⟩;cases r with
     | none=>
      cases H;simp only at g;cases ah:s5 P D with
      | none=>rw[ah] at g;cases g
      | some q=>
       rw[ah] at g;simp only[cA,bc] at g;exact .inr ⟨rfl,q,rfl,g.symm⟩
     | some av=>
      obtain⟨ao,rfl,Q,_⟩:=H;simp only[bc] at g;exact .inl ⟨_,ao,rfl,_,Q,g.symm⟩
   have X:∀ (j:List k7) (em:Bool),pq w R h muZ O j->∀ m:Sem aE,m.run P w=(((Instr.checkKey em 10000 u p).bind fun _=>(Instr.findKey u p j).bind fun r=>match r with
     | some (_,v)=>pure (if ok=true then .tuple #[v,.bool true] else v)
     | none=>(zeroValue D).bind fun q=>pure (if ok=true then .tuple #[q,.bool false] else q)) :Sem aE).run P w->∃ v,m.run P w=.ok v w/\aB w R h muZ c v:=by
    intro j em F m o;obtain⟨z,h1,H⟩:=ai j F;have J:∀ {C K:Type} (a:Sem C) (f:C->Sem K),a.bind f=a >>= f:=fun _ _=>rfl
    simp only[J,Sem.run_bind,K6 em ae hk,Result.andThen_ok,h1] at o;rcases H with ⟨i,v,rfl,G,I,rfl⟩ | ⟨rfl,q,I,rfl⟩
    ·simp only at o;cases ok
     ·exact⟨v,by simpa using o,I⟩
     ·exact⟨.tuple #[v,.bool true],by simpa using o,aB.Mg I (.bool _)⟩
    ·obtain⟨v,Q,Y⟩:=MW (w:=w) (R:=R) (h:=h) (muZ:=muZ) I;simp only[Sem.run_bind,Q,Result.andThen_ok] at o;cases ok
     ·exact⟨v,by simpa using o,Y⟩
     ·exact⟨.tuple #[v,.bool false],by simpa using o,aB.Mg Y (.bool _)⟩
   have J:∀ {C K:Type} (a:Sem C) (f:C->Sem K),a.bind f=a >>= f:=fun _ _=>rfl
   rcases Td rel am o with ⟨rfl,rfl⟩ | ⟨b,aw,ap,j,rfl,aq,ar,rfl,ak,F⟩
   ·refine X [] true ⟨rfl,fun au k v b al=>by simp at al⟩ _ ?_;unfold Instr.lookup;simp only[J,Sem.run_bind,cb ag,Result.andThen_ok,Sem.run_pure];cases S:(Instr.checkKey true 10000 u p).run P w with
    | halt a b=>simp[S]
    | ok a V=>
     simp[S];cases aj:(Instr.findKey u p []).run P V with
     | halt a b=>simp
     | ok r W=>
      simp;cases r with
      | none=>cases (zeroValue D).run P W<;>simp
      | some x=>simp
   ·refine X j.toList j.isEmpty F _ ?_;unfold Instr.lookup;simp only[J,Sem.run_bind,cb ag,Result.andThen_ok,Sem.run_pure,En ak];cases S:(Instr.checkKey j.isEmpty 10000 u p).run P w with
    | halt a b=>simp
    | ok a V=>
     simp;cases aj:(Instr.findKey u p j.toList).run P V with
     | halt a b=>simp
     | ok r W=>
      simp;cases r with
      | none=>cases (zeroValue D).run P W<;>simp
      | some x=>simp
 ·cases g
theorem SM (rel:bF R B w h muZ) {t ty:aG} {x c:U} {j:aE} (g:sm P h t x=some c) (z:aB w R h muZ x j) :∃ v,(Builtin.len_ #[t] ty #[j]).run P w=.ok v w/\aB w R h muZ c v:=by
 unfold sm at g;split at g
 ·rename_i I G b u;split at g
  ·rename_i F D p;cases g;cases z with
   | mp _ C hk q=>
    have hblk:=rel.blk b C q;rw[p] at hblk;obtain⟨m,h1,o,H⟩:=hblk;exact⟨.int .i64 m.size,by simp[Builtin.len_,cb u,En h1,goInt],by rw[o];exact .int _ _⟩
  ·cases g
 ·cases g
theorem Tb (rel:bF R B w h muZ) {t:aG} {r:Option aE} (g:∃ k e,P.underlying t=some (.map k e)) (m:∀ x,r=some x->∃ k n,x=.int k n) :∃ v w' muZ',(Instr.makeMap t r).run P w=.ok v w'/\cZ w h muZ w' (h.push (.map [] 0)) muZ'/\bF R B w' (h.push (.map [] 0)) muZ'/\aB w' R (h.push (.map [] 0)) muZ' (.mp h.n) v:=by
 have:=rel.Kf (w':=w.alloc (.map #[] 0)) (.map [] 0) (.map #[] 0) (k:=0) rfl rfl rfl rfl rfl ⟨#[],by show (w.heap.push _)[w.heap.size]?=_;simp,rfl,fun o k v b j=>by simp at j⟩;refine⟨.map (some w.heap.size),w.alloc (.map #[] 0),_,?_,this.1,this.2,?_⟩
 ·obtain⟨k,e,g⟩:=g;cases r with
  | none=>simp[Instr.makeMap,newObj,Sem.run]
  | some x=>
   obtain⟨p,n,rfl⟩:=m x rfl;simp[Instr.makeMap,newObj,Sem.run,cb g,Go.asInt,Go.asIntOf]
 ·exact .mp h.n ⟨w.heap.size,0,0⟩ (by simp[dV,lu]) V
theorem I0 (rel:bF R B w h muZ) {t:aG} {m k x:U} {dU pR I:aE} {h' : aM} (o:so P h t m k x=some h') (aP:aB w R h muZ m dU) (hk:aB w R h muZ k pR) (au:aB w R h muZ x I) :
  ∃ w',(Instr.mapUpdate t dU pR I).run P w=.ok () w'/\cZ w h muZ w' h' muZ/\bF R B w' h' muZ:=by
 unfold so at o;split at o
 ·rename_i aY a1 b aS;split at o
  ·rename_i p K ao;split at o
   ·cases o
   ·rename_i z;cases aP with
    | mp _ u a2 ap=>
     have hblk:=rel.blk b u ap;rw[ao] at hblk;obtain⟨D,h1,q,S⟩:=hblk;have aO:u.r<w.heap.size:=by
      rcases fF u.r w.heap.size with h | h
      ·exact h
      ·rw[qj h] at h1;cases h1
     have aR:pq w R h muZ p D.toList:=⟨by simpa using q,fun j k H J g=>by obtain⟨y,T,O⟩:=S j k H J g;exact⟨y,by simpa using T,O⟩⟩
     have ar:∀ ag:Obj,(setObj u.r ag).run P w=.ok () { w with heap:=w.heap.setIfInBounds u.r ag }:=fun ag=>by simp[setObj,Sem.run,h1]
     have aq:∀ (G:List (U × U × Nat)) (v:Array k7) (C:Nat),(∀ {ah:aT} {q:aM},Ext0 w h muZ ah q muZ->v.size=G.length/\∀ (j:Nat) (k H:U) (b:Nat),G[j]?=some (k,H,b)->∃ x:k7,v[j]?=some x/\aB ah R q muZ k x.key/\aB ah R q muZ H x.val/\x.born=b)->
       cZ w h muZ { w with heap:=w.heap.setIfInBounds u.r (.map v C) } (h.set b (.map G C)) muZ/\bF R B { w with heap:=w.heap.setIfInBounds u.r (.map v C) } (h.set b (.map G C)) muZ:=by
      intro G v C aQ;refine rel.Kj (k:=0) ao rfl rfl ap rfl rfl rfl V (fun k hk=>?_) (fun e=>?_)
      ·simp only;rw[u9];rw[ai (fun aI=>hk aI.symm)]
      ·obtain⟨q1,aZ⟩:=aQ e;exact⟨v,by simp only;rw[u9];simp[aO],q1,aZ⟩
     unfold Instr.mapUpdate;simp only[Sem.run_bind,cb aS,Result.andThen_ok,En h1,K6 false z hk];cases ae:j5 P aY k p 0 with
     | none=>rw[ae] at o;cases o
     | some r=>
      rw[ae] at o;obtain⟨a3,T,O⟩:=K8 hk z aR ae;rw[T];cases r with
      | none=>
       cases O;cases o;have:=aq (p++[(k,x,K)]) (D.push { key:=pR,val:=I,born:=K }) (K+1) (fun e=>⟨by simp[q],fun j av aw J g=>?_⟩)
       ·exact⟨_,by simp only[Result.andThen_ok];rw[ar],this⟩
       ·rw[s6];by_cases aK:j<p.length
        ·rw[aV aK] at g;obtain⟨y,al,W,am,X⟩:=S j av aw J g;exact⟨y,by rw[ai F];exact al,W.j4 e,am.j4 e,X⟩
        ·rw[eu F] at g;have aJ:j - p.length=0:=by
          rcases Nat.eq_zero_or_pos (j - p.length) with h | h
          ·exact h
          ·rw[dW (by simp;omega)] at g;cases g
         rw[aJ] at g;simp at g;obtain⟨rfl,rfl,rfl⟩:=g;exact⟨_,by rw[ak F],hk.j4 e,au.j4 e,rfl⟩
      | some aU=>
       obtain⟨i,H⟩:=aU;obtain⟨a4,rfl,al,_,y,W,am,X⟩:=O;cases o;have aH:D[i]?=some y:=by simpa using W
       have aA:y.key=pR:=by rw[C2 z X,C2 z hk]
       have aL:(Instr.keyThatStays (((D[i]?).map (·.key)).getD pR) pR).run P w=.ok pR w:=by
        rw[aH];simp only[cA,g4,aA];rw[C2 z hk];exact WX z
       have:=aq (p.modify i fun e=>(k,x,e.2.2)) (D.modify i fun e=>{ e with key:=pR,val:=I }) K (fun e=>⟨by simp[q],fun j av aw J g=>?_⟩)
       ·refine⟨_,?_,this⟩;simp only[Result.andThen_ok,Sem.run_bind,aL];rw[ar]
       ·rw[List.getElem?_modify] at g;rw[A7];cases Y:p[j]? with
        | none=>rw[Y] at g;simp at g
        | some az=>
         obtain⟨aW,a0,ay⟩:=az;rw[Y] at g;obtain⟨ax,aC,aD,aF,aj⟩:=S j aW a0 ay Y;rw[aC];by_cases Q:i=j
         ·simp[Q] at g;obtain⟨rfl,rfl,rfl⟩:=g;exact⟨{ ax with key:=pR,val:=I },by simp[Q],hk.j4 e,au.j4 e,aj⟩
         ·simp[Q] at g;obtain⟨rfl,rfl,rfl⟩:=g;exact⟨ax,by simp[Q],aD.j4 e,aF.j4 e,aj⟩
  ·cases o
 ·cases o
theorem Wh (rel:bF R B w h muZ) {t:aG} {x c:U} {m:aE} {h' : aM} (j:Ab P h t x=some (c,h')) (p:aB w R h muZ x m) :
  ∃ v w' muZ',(Instr.range t m).run P w=.ok v w'/\cZ w h muZ w' h' muZ'/\bF R B w' h' muZ'/\aB w' R h' muZ' c v:=by
 unfold Ab at j;split at j
 ·rename_i s o;simp only[bc,Prod.mk.injEq] at j;obtain⟨rfl,rfl⟩:=j;cases p;rename_i g;have:=rel.Kf (w':=w.alloc (.stringIter g 0)) (.iter g.data.toList 0) (.stringIter g 0) (k:=1) rfl rfl rfl rfl rfl ⟨g,rfl,by show (w.heap.push _)[w.heap.size]?=_;simp⟩;refine⟨.pointer (some ⟨w.heap.size,0,none⟩),w.alloc (.stringIter g 0),_,?_,this.1,this.2,?_⟩
  ·simp[Instr.range,cb o,newObj,Sem.run]
  ·exact .it h.n ⟨w.heap.size,0,0⟩ (by simp[dV,lu]) V
 ·cases j
theorem TI (rel:bF R B w h muZ) {x c:U} {F:aE} {h' : aM} {ty:aG} (j:zy h x=some (c,h')) (I:aB w R h muZ x F) :
  ∃ v w',(Instr.next F true ty).run P w=.ok v w'/\cZ w h muZ w' h' muZ/\bF R B w' h' muZ/\aB w' R h' muZ c v:=by
 unfold zy at j;split at j
 ·rename_i b;split at j
  ·rename_i s pos z;cases I with
   | it _ t J C=>
    have hblk:=rel.blk b t C;rw[z] at hblk;obtain⟨bs,rfl,h1⟩:=hblk;have H:t.r<w.heap.size:=by
     rcases fF t.r w.heap.size with h | h
     ·exact h
     ·rw[qj h] at h1;cases h1
    have G:(⟨bs.data.toList.toArray⟩:ByteArray)=bs:=by cases bs;simp
    have D:bs.data.toList.length=bs.size:=by rw[rB];rfl
    rw[G] at j;split at j
    ·rename_i o;have u:pos<bs.size:=by rw[<-D];rw[Bs] at o;exact o
     simp only[bc,Prod.mk.injEq] at j;obtain⟨rfl,rfl⟩:=j;have:=rel.Kj (w':={ w with heap:=w.heap.setIfInBounds t.r (.stringIter bs (pos+(Utf8.decode bs pos).2)) }) (k:=1) (c':=.iter bs.data.toList (pos+(Utf8.decode bs pos).2)) z rfl rfl C rfl rfl rfl V
      (fun k hk=>by simp only;rw[u9];rw[ai (fun q=>hk q.symm)]) (fun e=>⟨bs,rfl,by simp only;rw[u9];simp[H]⟩)
     refine⟨.tuple #[.bool true,.int .i64 pos,.int .i32 (Utf8.decode bs pos).1],_,?_,this.1,this.2,?_⟩
     ·simp only[Instr.next,Sem.run_bind,K9 h1,Result.andThen_ok,ak u];simp[setObj,Sem.run,h1,goInt]
     ·refine .aX _ _ rfl fun p c v g m=>?_
      rcases p with _ | _ | _ | p
      ·simp at g m;subst g m;exact .bool _
      ·simp at g m;subst g m;exact .int _ _
      ·simp at g m;subst g m;exact .int _ _
      ·simp at g
    ·rename_i o;have u:¬ pos<bs.size:=by
      rw[<-D];intro q;rw[<-Bs] at q;rw[q] at o;cases o
     simp only[bc,Prod.mk.injEq] at j;obtain⟨rfl,rfl⟩:=j;refine⟨.tuple #[.bool false],w,?_,.refl _ _ _,rel,?_⟩
     ·simp only[Instr.next,Sem.run_bind,K9 h1,Result.andThen_ok,ai u];simp
     ·refine .aX _ _ rfl fun p c v g m=>?_
      rcases p with _ | p
      ·simp at g m;subst g m;exact .bool _
      ·simp at g
  ·cases j
 ·cases j
theorem K7 {blk:Nat}:∀ (n:Nat) (o:Nat) (ns:List Int) (g:ByteArray),ns.length=n->(∀ j v,(ns.map (Value.int .u8))[j]?=some v->(load (⟨blk,o+j,none⟩:Addr)).run P w=.ok v w)->
  ∃ bs,(Extern.Bytes.loadBytes ⟨blk,o,none⟩ n g).run P w=.ok bs w/\bs.data.toList=g.data.toList++ns.map fun n=>UInt8.ofNat n.toNat
 | 0,o,ns,g,m,_=>⟨g,by simp[Extern.Bytes.loadBytes],by rw[ho.1 m];simp⟩
 | n+1,o,[],g,m,_=>by simp at m
 | n+1,o,x::ns,g,m,h=>by
  have p:=h 0 _ rfl;obtain⟨bs,h1,q⟩:=K7 n (o+1) ns (g.push (UInt8.ofNat x.toNat)) (by simpa using m) (fun j v t=>by
   have:=h (j+1) v (by simpa using t);rw[show o+(j+1)=o+1+j by omega] at this;exact this)
  refine⟨bs,?_,?_⟩
  ·unfold Extern.Bytes.loadBytes;rw[nm] at p;simp only[Sem.run_bind,p,Result.andThen_ok,Addr.jY];exact h1
  ·rw[q];simp
theorem GK (rel:bF R B w h muZ) {x:U} {C:aE} {l:List UInt8} (m:tA h x=some l) (q:aB w R h muZ x C) :∃ bs,(Extern.Bytes.bytesOf C).run P w=.ok bs w/\bs.data.toList=l:=by
 unfold tA at m;split at m
 ·cases m;cases q with
  | str bs=>exact⟨bs,by simp[Extern.Bytes.bytesOf],rfl⟩
 ·rename_i V;split at m
  ·rename_i cs n g;obtain⟨ak,F,ag,v,Q⟩:=qP (P:=P) rel g q;have o:=Q n (aN _) w (fun _=>rfl);obtain⟨j,rfl,rfl⟩:=BW cs ag l m v.1 v.2;have G:j.length=n:=by have:=v.1;simp at this;omega
   have W:(j.map (Value.int .u8)).take (n*1)=j.map (Value.int .u8):=aI (by simp;omega);rw[W] at o;have S:∃ a len cap,C=.slice a len cap:=by
    cases q<;>first | exact⟨_,_,_,rfl⟩ | (simp[contents] at g;done) | (exact bV rfl (V _))
   obtain⟨a,len,cap,rfl⟩:=S;simp only[Builtin.lenOf,Sem.run_pure,Result.ok.injEq] at F;obtain⟨rfl,_⟩:=F;cases a with
   | none=>
    simp only[Builtin.firstCells,Sem.run_pure,Result.ok.injEq] at o;have X:j=[]:=by
     have:=ch Array.toList o.1;simpa using this.symm
    subst X;exact⟨.empty,by simp[Extern.Bytes.bytesOf],rfl⟩
   | some a=>
    by_cases u:len=0
    ·subst u;have:j=[]:=ho.1 G;subst this;exact⟨.empty,by simp[Extern.Bytes.bytesOf,Extern.Bytes.loadBytes],rfl⟩
    have O:∃ t z,a=⟨t,z,none⟩:=by
     cases q with
     | Z=>exact⟨_,_,rfl⟩
     | bu=>exact⟨_,_,rfl⟩
     | eH=>exact bV rfl u
     | gp=>exact bV rfl u
     | bad=>simp[contents] at g
     | ff _ _ _ _ _ _ _ _ h1 D p=>
      exfalso;simp only[contents] at g;rcases p with p | ⟨n,ah,p,aj⟩
      ·rw[p] at g;cases g
      ·rw[p] at g;simp only at g;split at g
       ·rename_i ai;omega
       ·cases g
    obtain⟨t,z,rfl⟩:=O;simp only[Builtin.firstCells,oi] at o;unfold loadCells at o;obtain⟨l,h1,D,H⟩:=loadCellsFrom_ok _ _ _ _ _ _ o;have I:l=j.map (Value.int .u8):=by
     have:=ch Array.toList D;simpa using this.symm
    subst I;obtain⟨bs,J,K⟩:=K7 (P:=P) (w:=w) (blk:=t) len z j .empty G (fun Y ae T=>by
     have:=H Y ae T;rw[Addr.jY,hI] at this;exact this)
    exact⟨bs,by simpa [Extern.Bytes.bytesOf] using J,by rw[K];rfl⟩
  ·cases m
theorem G7:∀ (a b:List UInt8),(match (List.range (min a.length b.length)).find? fun i=>a.getD i 0 != b.getD i 0 with
  | some i=>if a.getD i 0<b.getD i 0 then (-1:Int) else 1
  | none=>if a.length<b.length then -1 else if a.length > b.length then 1 else 0)=lW a b
 | [],[]=>by simp[lW]
 | [],_::_=>by simp[lW]
 | _::_,[]=>by simp[lW]
 | x::a,y::b=>by
  have m:=G7 a b;simp only[dM,Nat.add_min_add_right,List.range_succ_eq_map,Bh,List.getD_cons_zero];by_cases g:x=y
  ·subst g;simp only[bne_self_eq_false,lW,if_true];rw[<-m,List.find?_map];have h:((fun i=>(x::a).getD i 0 != (x::b).getD i 0) ∘ Nat.succ)=fun i=>a.getD i 0 != b.getD i 0:=by
    funext i;simp
   rw[h];cases o:(List.range (min a.length b.length)).find? fun i=>a.getD i 0 != b.getD i 0 with
   | none=>simp only[Option.map_none];congr 1<;>simp
   | some i=>simp
  ·have j:(x != y)=true:=by simp[g]
   simp only[j,lW,ai g,List.getD_cons_zero]
theorem HN {alZ:Type} {p q:alZ->Bool}:∀ (l:List alZ),(∀ x∈l,p x=q x)->l.find? p=l.find? q
 | [],_=>rfl
 | x::l,h=>by
  rw[Bh,Bh,h x V,HN l (fun y g=>h y (by simp[g]))]
theorem qL (a b:ByteArray) :Extern.BytealgCompare.cmp a b=lW a.data.toList b.data.toList:=by
 rw[<-G7];unfold Extern.BytealgCompare.cmp;have g:∀ (a:ByteArray) (i:Nat),i<a.size->a[i]! = a.data.toList.getD i 0:=fun a i h=>by
  simp only[gw,qk];rw[getElem!_pos a i h];have:i<a.data.size:=h;rw[rA this];rfl
 have j:∀ a:ByteArray,a.data.toList.length=a.size:=fun a=>by rw[rB];rfl
 rw[j,j];have o:(List.range (min a.size b.size)).find? (fun i=>a[i]! != b[i]!)=(List.range (min a.size b.size)).find? (fun i=>a.data.toList.getD i 0 != b.data.toList.getD i 0):=by
  apply HN;intro i h;have:=g3.1 h;rw[g a i F,g b i F]
 rw[o];cases m:(List.range (min a.size b.size)).find? (fun i=>a.data.toList.getD i 0 != b.data.toList.getD i 0) with
 | none=>rfl
 | some i=>
  have:=g3.1 (MZ m);simp only;rw[g a i F,g b i F]
theorem Q7 {fn:Func} (h:fn.name= "internal/bytealg.Compare") (g:fn.origin= ""\/fn.origin= "internal/bytealg.Compare") :Extern.find fn=some Extern.BytealgCompare.compare/\Extern.findNext fn=none:=by
 constructor
 ·unfold Extern.find;simp only[h];rfl
 ·unfold Extern.findNext;simp only[h];rcases g with g | g<;>rw[g]<;>rfl
theorem QU (rel:bF R B w h muZ) {f:cj} {fn:Func} {args:ag} {vs:Array aE} {c:U} (J:P.funcs[f]?=some fn) (q:wx fn=true) (g:vX h args=some c)
  (m:vs.size=args.length) (u:∀ (j:Nat) (c:U) (v:aE),args[j]?=some c->vs[j]?=some v->aB w R h muZ c v) :
  ∃ v,(callFunc f vs).run P w=.ok (.value v) w/\aB w R h muZ c v:=by
 unfold wx at q;simp only[bU,rF,beq_iff_eq] at q;obtain⟨⟨p,t⟩,O⟩:=q;unfold vX at g;split at g
 ·rename_i x y;split at g
  ·rename_i a b G H;cases g;simp only[dM,hp] at m;have Q:vs=#[vs[0],vs[1]]:=by
    apply Array.ext
    ·simpa using m
    ·intro i h1 o;rcases (show i=0\/i=1 by simp at o;omega) with rfl | rfl<;>rfl
   obtain⟨ba,h1,o⟩:=GK (P:=P) rel G (u 0 x vs[0] rfl (by simp[m]));obtain⟨S,D,F⟩:=GK (P:=P) rel H (u 1 y vs[1] rfl (by simp[m]));obtain⟨z,C⟩:=Q7 t O;refine⟨.int .i64 (lW a b),?_,.int _ _⟩;rw[Q];have K:fn.name≠ "runtime.NumGoroutine":=by rw[t];decide
   have p:=M2.1 p;have I:Extern.BytealgCompare.compare #[vs[0],vs[1]]=(do pure (goInt (Extern.BytealgCompare.cmp (<-Extern.Bytes.bytesOf vs[0]) (<-Extern.Bytes.bytesOf vs[1])))):=rfl;simp[callFunc,J,K,p,z,C,mark,Sem.run,I,h1,D,qL,o,F,goInt]
  ·cases g
 ·cases g
end
section
variable {P:bp} {w:aT} {R:Nat->Prop} {B:Nat} {h:aM} {muZ:b3}
inductive rO:aE->aE->Prop where
 | bool (a b:Bool) :rO (.bool a) (.bool b)
 | agg (a b:Array aE) :rO (.agg a) (.agg b)
 | slice (a:Option Addr) (l c:Nat) (g:Option Addr) (j h:Nat) :rO (.slice a l c) (.slice g j h)
theorem QM {d:Nat} {t:aG} {x y:U} {b:Bool} {p s3:aE} (m:dK P d t x y=some b) (g:aB w R h muZ x p) (j:aB w R h muZ y s3)
  (q:∀ k a k' o,x=.int k a->y=.int k' o->False) (u:∀ a o,x=.str a->y=.str o->False) :rO p s3:=by
 cases d with
 | zero=>simp[dK] at m
 | succ d=>
  unfold dK at m;split at m
  ·cases g;cases j;exact .bool _ _
  ·exact (q _ _ _ _ rfl rfl).elim
  ·exact (u _ _ rfl rfl).elim
  ·cases g;cases j;exact .agg _ _
  ·cases g;cases j;exact .agg _ _
  ·cases g;cases j;exact .slice _ _ _ _ _ _
  ·cases g;cases j<;>exact .slice _ _ _ _ _ _
  ·cases g;cases j<;>exact .slice _ _ _ _ _ _
  ·cases g<;>cases j<;>exact .slice _ _ _ _ _ _
  ·cases g<;>cases j<;>exact .slice _ _ _ _ _ _
  ·cases m
theorem QK {op:BinOp} {t:aG} {j m:aY} {g h:aE} (p:rO g h) (o:∀ a b,g=.agg a->h=.agg b->P.eqGuardType P.depth t=false) :(eqGuard op t j m g h).run P w=.ok () w:=by
 cases p with
 | bool a b=>cases op<;>rfl
 | agg a b=>exact run_eqGuard_agg w op t j m a b (o a b rfl rfl)
 | slice=>cases op<;>rfl
theorem WW {t:aG} {g h:aE} {b:Bool} (o:rO g h) (j:(Op.equalIn 10000 t g h).run P w=.ok b w) :
  (binOp .eql t g h).run P w=.ok (.bool b) w/\(binOp .neq t g h).run P w=.ok (.bool (!b)) w:=by have m:(Op.equal t g h).run P w=.ok b w:=j;cases o<;>constructor<;>simp[binOp,m]
theorem QJ {op:BinOp} {t:aG} {g h:aY} {k k' : cU} {a b:Int}:(eqGuard op t g h (.int k a) (.int k' b)).run P w=.ok () w:=by cases op<;>rfl
theorem QL {op:BinOp} {t:aG} {g h:aY} {a b:ByteArray}:(eqGuard op t g h (.string a) (.string b)).run P w=.ok () w:=by cases op<;>rfl
theorem OL {op:BinOp} {t:aG} {G H:aY} {x y c:U} {m o:aE} (g:ea P op t x y=some c) (u:aB w R h muZ x m) (p:aB w R h muZ y o) :
  ∃ v,((do eqGuard op t G H m o;binOp op t m o:Sem aE)).run P w=.ok v w/\aB w R h muZ c v:=by
 unfold ea at g;split at g
 ·cases u;cases p;obtain⟨v,h1,C⟩:=OM (P:=P) (w:=w) (R:=R) (h:=h) (muZ:=muZ) (t:=t) g;exact⟨v,by simp[QJ,h1],C⟩
 ·cases u;cases p;obtain⟨v,h1,C⟩:=ON (P:=P) (w:=w) (R:=R) (h:=h) (muZ:=muZ) (t:=t) g;exact⟨v,by simp[QL,h1],C⟩
 ·rename_i J K;have F:∀ b,r8 P t x y=true->dK P 10000 t x y=some b->rO m o/\(eqGuard op t G H m o).run P w=.ok () w ∧
    (binOp .eql t m o).run P w=.ok (.bool b) w/\(binOp .neq t m o).run P w=.ok (.bool (!b)) w:=by
   intro b q j;have D:=QM j u p J K;have I:∀ a b,m=.agg a->o=.agg b->P.eqGuardType P.depth t=false:=by
    rintro a b rfl rfl;cases u with
    | af cs _ _ _ _=>
     cases p with
     | af Q _ _ _ _=>simpa [r8] using q
     | bad=>simp[dK] at j
    | bad=>cases p<;>simp[dK] at j
   have O:=Cl 10000 t x y b m o j u p;obtain⟨z,B⟩:=WW D O;exact⟨D,QK D I,z,B⟩
  split at g
  ·split at g
   ·rename_i q;cases j:dK P 10000 t x y with
    | none=>rw[j] at g;cases g
    | some b=>
     rw[j] at g;simp only[cA,bc] at g;subst g;obtain⟨_,z,B,_⟩:=F b q j;exact⟨.bool b,by simp[z,B],.bool _⟩
   ·cases g
  ·split at g
   ·rename_i q;cases j:dK P 10000 t x y with
    | none=>rw[j] at g;cases g
    | some b=>
     rw[j] at g;simp only[cA,bc] at g;subst g;obtain⟨_,z,_,B⟩:=F b q j;exact⟨.bool (!b),by simp[z,B],.bool _⟩
   ·cases g
  ·cases g
theorem YC {op:UnOp} {x c:U} {m:aE} (g:rs op x=some c) (j:aB w R h muZ x m) :∃ v,(Op.unary op m).run P w=.ok v w/\aB w R h muZ c v:=by
 unfold rs at g;split at g
 ·cases g;cases j;exact⟨_,by simp[Op.unary],.bool _⟩
 ·cases g;cases j;refine⟨_,?_,.int _ _⟩;simp only[Op.unary];rfl
 ·cases g;cases j;refine⟨_,?_,.int _ _⟩;simp only[Op.unary];rfl
 ·cases g
theorem Dz {g:aY->U} {j:aY->aE} (m:∀ x,aB w R h muZ (g x) (j x)) (o:Option aY) :rR w R h muZ (o.map g) (o.map j):=by
 cases o with
 | none=>trivial
 | some x=>exact m x
def vz (P:bp) (R:Nat->Prop) (B:Nat) (w:aT) (h:aM) (muZ:b3) (r:Result Next) :mz->Prop
 | .val c h'=>Good R B w h muZ r c h'
 | .call f args h'=>h'=h/\∃ g:Array aE,r=.ok (.enter f g) w/\g.size=args.length/\∀ (j:Nat) (c:U) (m:aE),args[j]?=some c->g[j]?=some m->aB w R h muZ c m
theorem Good.mk {r:Result Next} {c:U} {h' : aM} {v:aE} {w' : aT} {muZ' : b3} (m:r=.ok (.value v) w') (g:cZ w h muZ w' h' muZ') (j:bF R B w' h' muZ') (o:aB w' R h' muZ' c v) :Good R B w h muZ r c h':=
 ⟨v,w',muZ',.inl m,g,j,o⟩
theorem O5 (rel:bF R B w h muZ) {b:Builtin} {ts:Array aG} {ty:aG} {consts:Array Bool} {args:ag} {vs:Array aE} {r:mz} (g:mE P h b ts.toList args=some r)
  (C:vs.size=args.length) (K:∀ (j:Nat) (c:U) (v:aE),args[j]?=some c->vs[j]?=some v->aB w R h muZ c v) :vz P R B w h muZ ((builtin b ts ty consts vs).run P w) r:=by
 have one:∀ x,args=[x]->∃ nd,vs=#[nd]/\aB w R h muZ x nd:=by
  intro x p;subst p;simp only[dM,hp] at C;refine⟨vs[0],?_,K 0 x _ rfl (by simp[C])⟩;apply Array.ext
  ·simpa using C
  ·intro i h1 q;have:i=0:=F;subst this;rfl
 have two:∀ x y,args=[x,y]->∃ nd s3,vs=#[nd,s3]/\aB w R h muZ x nd/\aB w R h muZ y s3:=by
  intro x y p;subst p;simp only[dM,hp] at C;refine⟨vs[0],vs[1],?_,K 0 x _ rfl (by simp[C]),K 1 y _ rfl (by simp[C])⟩;apply Array.ext
  ·simpa using C
  ·intro i h1 q;rcases (show i=0\/i=1 by simp at q;omega) with rfl | rfl<;>rfl
 have H:∀ o,ts.toList=[o]->ts=#[o]:=fun o I=>by apply Array.toList_inj.1;simpa using I
 have Q:∀ o u,ts.toList=[o,u]->ts=#[o,u]:=fun o u I=>by apply Array.toList_inj.1;simpa using I
 unfold mE at g;split at g
 ·rename_i o x t;obtain⟨nd,rfl,p⟩:=one x rfl;obtain rfl:=H o t;split at g
  ·rename_i c m;cases g;obtain⟨v,h1,q⟩:=SM (P:=P) (ty:=ty) rel m p;exact Good.mk (by simp[builtin,h1]) (.refl _ _ _) rel q
  cases m:sl P o x with
  | none=>rw[m] at g;cases g
  | some c=>
   rw[m] at g;simp only[cA,bc] at g;subst g;obtain⟨v,h1,q⟩:=SN (P:=P) (u:=o) (ty:=ty) m p;exact Good.mk (by simp[builtin,h1]) (.refl _ _ _) rel q
 ·rename_i o u s x t;obtain⟨jm,nd,rfl,S,p⟩:=two s x rfl;obtain rfl:=Q o u t;split at g
  ·rename_i k J;cases m:vH P h o s x with
   | none=>rw[m] at g;cases g
   | some c=>
    obtain⟨c,h'⟩:=c;rw[m] at g;simp only[cA,bc] at g;subst g;obtain⟨v,w',muZ',h1,q,z,D⟩:=OA (ty:=ty) rel J m S p;exact Good.mk (by simp[builtin,h1]) q z D
  ·cases g
  ·rename_i V W;cases m:ox P h o s x with
   | none=>rw[m] at g;cases g
   | some c=>
    obtain⟨c,h'⟩:=c;rw[m] at g;simp only[cA,bc] at g;subst g;have J:uq P u:=by
     cases G:P.underlying u with
     | none=>exact bV G W
     | some d=>exact⟨d,G,fun k hk=>V k (by rw[G,hk])⟩
    obtain⟨v,w',muZ',h1,q,z,D⟩:=BO (ty:=ty) rel J m S p;exact Good.mk (by simp[builtin,h1]) q z D
 ·rename_i o u d x t;obtain⟨X,nd,rfl,G,p⟩:=two d x rfl;obtain rfl:=Q o u t;cases m:tK P h o d x with
  | none=>rw[m] at g;cases g
  | some c=>
   obtain⟨c,h'⟩:=c;rw[m] at g;simp only[cA,bc] at g;subst g;obtain⟨v,w',h1,q,z,D⟩:=PY (u:=u) (ty:=ty) rel m G p;exact Good.mk (by simp[builtin,h1]) q z D
 ·rename_i o x t;obtain⟨nd,rfl,p⟩:=one x rfl;obtain rfl:=H o t;cases m:tE P o x with
  | none=>rw[m] at g;cases g
  | some c=>
   rw[m] at g;simp only[cA,bc] at g;subst g;obtain⟨v,h1,q⟩:=Pk (P:=P) (ty:=ty) m p;exact Good.mk (by simp[builtin,h1]) (.refl _ _ _) rel q
 ·rename_i o x t;obtain⟨nd,rfl,p⟩:=one x rfl;obtain rfl:=H o t;cases m:tH P h o x with
  | none=>rw[m] at g;cases g
  | some h'=>
   rw[m] at g;simp only[cA,bc] at g;subst g;obtain⟨w',h1,q,z⟩:=Pz (P:=P) (ty:=ty) rel m p;exact Good.mk (v:=.tuple #[]) (by simp[builtin,h1]) q z (.aX [] #[] rfl (fun _ _ _ T=>by simp at T))
 ·rename_i x y;obtain⟨nd,s3,rfl,p,O⟩:=two x y rfl;cases m:zq x y with
  | none=>rw[m] at g;cases g
  | some c=>
   rw[m] at g;simp only[cA,bc] at g;subst g;unfold zq at m;split at m
   ·split at m
    ·rename_i hk;subst hk;cases m;cases p;cases O;refine Good.mk (v:=.int _ _) ?_ (.refl _ _ _) rel (.int _ _);simp[builtin,Builtin.min_,Builtin.min2]
    ·cases m
   ·cases m
 ·rename_i x y;obtain⟨nd,s3,rfl,p,O⟩:=two x y rfl;cases m:oU x y with
  | none=>rw[m] at g;cases g
  | some c=>
   rw[m] at g;simp only[cA,bc] at g;subst g;unfold oU at m;split at m
   ·split at m
    ·rename_i hk;subst hk;cases m;cases p;cases O;refine Good.mk (v:=.int _ _) ?_ (.refl _ _ _) rel (.int _ _);simp[builtin,Builtin.max_,Builtin.max2]
    ·cases m
   ·cases m
 ·cases g
theorem GN {f:cj} {fn:Func} {vs:Array aE} (j:P.funcs[f]?=some fn) (g:fn.body.isSome=true) (o:fn.name≠ "runtime.NumGoroutine") :(callFunc f vs).run P w=.ok (.enter f vs) w:=by
 have h:fn.body≠none:=fun m=>by rw[m] at g;cases g
 simp[callFunc,j,o,h]
theorem C7 {p:aY->U} {q:aY->aE} (t:∀ x,aB w R h muZ (p x) (q x)) (xs:Array aY) :
  ∀ (j:Nat) (c:U) (v:aE),(xs.toList.map p)[j]?=some c->(xs.map q)[j]?=some v->aB w R h muZ c v:=by
 intro j c v m g;rw[b0] at m;rw[A6] at g;cases o:xs[j]? with
 | none=>simp[o] at g
 | some u=>
  simp[o] at m g;subst m g;exact t u
theorem Tj {t:aG} {name:String} {g:cj} (h:wN P t name=some g) (u:aE) :(Go.method (P.types.size+Made.depth) t u name).run P w=.ok (g,u) w:=by
 unfold wN at h;split at h
 ·cases h
 ·cases h
 ·rename_i v z;split at h
  ·rename_i i q;split at h
   ·rename_i B o;split at h
    ·rename_i f m p;cases h;obtain⟨k,hk⟩:∃ k,P.types.size+Made.depth=k+1:=⟨P.types.size+Made.depth - 1,by unfold Made.depth;omega⟩
     rw[hk];cases j:P.underlying t with
     | none=>exact bV j z
     | some d=>
      have C:B.path=#[]:=Array.toList_eq_nil_iff.1 m;cases d<;>first
       | (exfalso;exact v _ j)
       | simp[Go.method,typeInfo,q,o,m,p,follow,receiverAt,cb j,Place.get]
    ·cases h
   ·cases h
  ·cases h
theorem X8 {t V:aG} {C:Bool} {z c x:U} {v:aE} (B:AL P t=some z) (g:AK t z C x=some c) (H:aB w R h muZ x v) :
  ∃ i0,(Instr.typeAssert v V t C).run P w=.ok i0 w/\aB w R h muZ c i0:=by
 unfold AL at B;split at B
 ·cases B
 ·cases B
 ·rename_i D S;cases j:P.underlying t with
  | none=>exact bV j S
  | some d=>
   obtain⟨O,I,J⟩:=MW (P:=P) (w:=w) (R:=R) (h:=h) (muZ:=muZ) B;have two:∀ (a:U) (F:aE) (q:Bool),aB w R h muZ a F->aB w R h muZ (.aX [a,.bool q]) (.tuple #[F,.bool q]):=by
    intro a F q Q;refine .aX _ _ rfl (fun K c v m p=>?_)
    match K,m,p with
    | 0,m,p=>simp at m p;subst m p;exact Q
    | 1,m,p=>simp at m p;subst m p;exact .bool q
    | K+2,m,p=>simp at m
   cases x<;>simp only[AK] at g<;>try (cases g;done)
   case hS=>
    cases H;cases C<;>simp only at g<;>cases g;refine⟨.tuple #[O,.bool false],?_,two _ _ _ J⟩;cases d<;>first
     | (exfalso;exact D _ j)
     | simp[Instr.typeAssert,cb j,I]
   case fW T W=>
    cases H with
    | fW _ _ u G=>
     split at g
     ·rename_i o;have o:=mu o;subst o;cases C<;>simp only at g<;>cases g
      ·refine⟨u,?_,G⟩;cases d<;>first
        | (exfalso;exact D _ j)
        | simp[Instr.typeAssert,cb j]
      ·refine⟨.tuple #[u,.bool true],?_,two _ _ _ G⟩;cases d<;>first
        | (exfalso;exact D _ j)
        | simp[Instr.typeAssert,cb j]
     ·rename_i o;have o:T≠t:=fun h=>by rw[h,Br] at o;cases o
      cases C<;>simp only at g<;>cases g;refine⟨.tuple #[O,.bool false],?_,two _ _ _ J⟩;cases d<;>first
       | (exfalso;exact D _ j)
       | simp[Instr.typeAssert,cb j,I,o]
theorem Pf (rel:bF R B w h muZ) {D:aY->U} {hV:aY->aE} (C:∀ x,aB w R h muZ (D x) (hV x)) {c:Call} {ty:aG} {r:mz} (g:qI P h D c=some r) :
  vz P R B w h muZ ((do let d <-resolve hV c ty;invoke d.target d.args:Sem Next).run P w) r:=by
 unfold qI at g;split at g
 ·rename_i b ai;have:=fun W=>O5 (P:=P) (b:=b) (ts:=c.argTypes) (ty:=ty) (consts:=W) (args:=c.args.toList.map D) (vs:=c.args.map hV) rel g V
   (fun p x v j m=>by
    rw[b0] at j;rw[A6] at m;cases z:c.args[p]? with
    | none=>simp[z] at m
    | some J=>
     simp[z] at j m;subst j m;exact C J)
  simp only[resolve,ai,Sem.run_bind,Sem.run_pure,Result.andThen_ok,invoke];exact this _
 ·rename_i f S;split at g
  ·rename_i Y first e3 al
   have m:=C f;rw[al] at m;cases q:hV f with
   | func aw H cs=>
    rw[q] at m;cases m with
    | fn _ _ _ _ _ h1 O ag ah=>
     split at g
     ·rename_i fn G;have Q:∀ (p:Nat) (x:U) (v:aE),(first++c.args.toList.map D++e3)[p]?=some x->(H++c.args.map hV++cs)[p]?=some v->aB w R h muZ x v:=by
       intro p x v j o;by_cases am:p<first.length
       ·rw[hi,aV am] at j;rw[A4,pi F] at o;exact ag p x v j o
       ·by_cases ax:p<first.length+c.args.size
        ·rw[aV (by simp;omega),eu F,b0] at j;rw[pi (by simp;omega),u7 F,A6,h1] at o;cases z:c.args[p - first.length]? with
         | none=>simp[z] at o
         | some J=>
          simp[z] at j o;subst j o;exact C J
        ·rw[eu (by simp;omega)] at j;rw[u7 (by simp;omega)] at o;refine ah _ x v j ?_;simpa [h1] using o
      split at g
      ·rename_i t;cases g;refine⟨rfl,H++c.args.map hV++cs,?_,by simp[h1,O],Q⟩;simp[resolve,S,q,Deferred.ofValue,invoke,GN G t.1 t.2]
      ·split at g
       ·rename_i ak;cases I:vX h (first++c.args.toList.map D++e3) with
        | none=>rw[I] at g;cases g
        | some av=>
         rw[I] at g;simp only[cA,bc] at g;subst g;obtain⟨v,K,X⟩:=QU (P:=P) (vs:=H++c.args.map hV++cs) rel G ak I (by simp[h1,O]) Q;rw[A4] at K;exact Good.mk (by simp[resolve,S,q,Deferred.ofValue,invoke,K]) (.refl _ _ _) rel X
       ·cases g
     ·cases g
   | _=>rw[q] at m;cases m
  ·cases g
 ·rename_i x name aj;split at g
  ·rename_i T az au;have m:=C x;rw[au] at m;split at g
   ·rename_i Y ao;split at g
    ·rename_i fn G;split at g
     ·rename_i t;cases g;cases q:hV x with
      | iface ay u=>
       rw[q] at m;cases m with
       | fW _ _ _ ar=>
        refine⟨rfl,#[u]++c.args.map hV,?_,by simp;omega,?_⟩
        ·have ap:=Tj (P:=P) (w:=w) ao u;have ae:(#[Value.iface T u]++c.args.map hV)[0]?=some (Value.iface T u):=by rw[pi V];rfl
         have aq:(c.args.map hV).extract 0 c.args.size=c.args.map hV:=by
          apply Array.ext';simp[aI]
         simp[ae,aq,resolve,aj,q,invoke,callMethod,ap,GN G t.1 t.2]
        ·intro p x v j o;cases p with
         | zero=>
          rw[pi V] at o;simp at j o;subst j o;exact ar
         | succ p=>
          rw[js] at j;rw[u7 V] at o;exact C7 C c.args p x v j (by simpa using o)
      | _=>rw[q] at m;cases m
     ·cases g
    ·cases g
   ·cases g
  ·cases g
theorem DK {q:aY->U} {t:aY->aE} (v:∀ x,aB w R h muZ (q x) (t x)) (ps:Array (Nat × aY)) :
  (ps.map fun (i,x)=>(i,t x)).size=(ps.toList.map fun p=>(p.1,q p.2)).length ∧
  ∀ (j:Nat) (p:Nat × U) (m:Nat × aE),(ps.toList.map fun p=>(p.1,q p.2))[j]?=some p->(ps.map fun (i,x)=>(i,t x))[j]?=some m->m.1=p.1/\aB w R h muZ p.2 m.2:=by
 refine⟨V,fun j p m o g=>?_⟩;rw[b0] at o;rw[A6] at g;cases u:ps[j]? with
 | none=>simp[u] at g
 | some z=>
  simp[u] at o g;subst o g;exact⟨rfl,v z.2⟩
theorem EI (rel:bF R B w h muZ) {F:aY->U} {J:aY->aE} (j:∀ x,aB w R h muZ (F x) (J x)) (o:a8) {r:mz} (g:cO P h F o.op=some r) :
  vz P R B w h muZ ((execOp J o).run P w) r:=by
 obtain⟨az,op,type,pos,ax,guard⟩:=o;have H:∀ {x:Option U} {m:Sem aE},(∀ c,x=some c->∃ I,m.run P w=.ok I w/\aB w R h muZ c I)->x.map (fun y=>mz.val y h)=some r->
   vz P R B w h muZ ((do pure (.value (<-m)) :Sem Next).run P w) r:=by
  intro x m C z;cases S:x with
  | none=>rw[S] at z;cases z
  | some c=>
   rw[S] at z;simp only[cA,bc] at z;subst z;obtain⟨I,h1,D⟩:=C c S;exact Good.mk (by simp[h1]) (.refl _ _ _) rel D
 have ah:∀ {x:Option (U × aM)} {m:Sem aE},(∀ c h',x=some (c,h')->∃ I w' muZ',m.run P w=.ok I w'/\cZ w h muZ w' h' muZ'/\bF R B w' h' muZ'/\aB w' R h' muZ' c I)->x.map (fun y=>mz.val y.1 y.2)=some r->
   vz P R B w h muZ ((do pure (.value (<-m)) :Sem Next).run P w) r:=by
  intro x m C z;cases S:x with
  | none=>rw[S] at z;cases z
  | some c=>
   obtain⟨c,h'⟩:=c;rw[S] at z;simp only[cA,bc] at z;subst z;obtain⟨I,w',muZ',h1,D,G,Q⟩:=C c h' S;exact Good.mk (by simp[h1]) D G Q
 cases op
 case move x=>
  simp only[cO,bc] at g;subst g;exact Good.mk (by simp[execOp]) (.refl _ _ _) rel (j x)
 case assign x=>
  simp only[cO,bc] at g;subst g;exact Good.mk (by simp[execOp]) (.refl _ _ _) rel (j x)
 case pick c a b=>
  simp only[cO] at g;have ae:=j c;cases p:F c<;>rw[p] at g ae<;>simp only at g<;>try (cases g;done)
  cases g;cases u:J c<;>rw[u] at ae<;>try (cases ae;done)
  cases ae;rename_i q;cases q
  ·exact Good.mk (v:=J b) (by simp[execOp,u,asBool]) (.refl _ _ _) rel (by simpa using j b)
  ·exact Good.mk (v:=J a) (by simp[execOp,u,asBool]) (.refl _ _ _) rel (by simpa using j a)
 case alloc q=>
  simp only[cO] at g;cases O:ga P q with
  | none=>rw[O] at g;cases g
  | some ai=>
   rw[O] at g;simp only[cA,bc] at g;subst g;obtain⟨I,u,z⟩:=rz (P:=P) (w:=w) (R:=R) (h:=h) (muZ:=muZ) O;obtain⟨aj,ak,al⟩:=yg rel (cs:=ai) (vs:=I.cells) q z.1 z.2;exact Good.mk (by simp[execOp,Instr.alloc,u,newVar,newRow]) aj ak (al 0)
 case box q x=>
  simp only[cO] at g;cases O:(F x).cells with
  | none=>rw[O] at g;cases g
  | some ai=>
   rw[O] at g;simp only[cA,bc] at g;subst g;obtain⟨X,Y⟩:=yt (j x) O;obtain⟨aj,ak,al⟩:=yg rel (cs:=ai) (vs:=(J x).cells) q X Y;exact Good.mk (by simp[execOp,Instr.box,newVar,newRow]) aj ak (al 0)
 case build q parts=>
  obtain⟨X,Y⟩:=DK j parts;exact H (fun c p=>O3 p X Y) g
 case buildSlice q len parts=>
  obtain⟨X,Y⟩:=DK j parts;exact ah (fun c h' p=>O2 rel p X Y) g
 case load q a=>exact H (fun c p=>IQ rel p (j a)) g
 case store q a x=>
  simp only[cO] at g;cases K:rp P h q (F a) (F x) with
  | none=>rw[K] at g;cases g
  | some h'=>
   rw[K] at g;simp only[cA,bc] at g;subst g;obtain⟨w',h1,D,G⟩:=LK (P:=P) rel K (j a) (j x);exact⟨undef,w',muZ,.inr ⟨by simp[execOp,h1],rfl⟩,D,G,.aX [] #[] rfl (fun _ _ _ T=>by simp at T)⟩
 case nilCheck x=>
  simp only[cO] at g;have u:=j x;cases p:F x<;>rw[p] at g u<;>simp only at g<;>try (cases g;done)
  all_goals
   cases g;cases C:J x<;>rw[C] at u<;>try (cases u;done)
   rename_i y;refine Good.mk (v:=J x) ?_ (.refl _ _ _) rel (by rw[C];exact u);cases u<;>simp[execOp,C]
 case binOp op q x y aF=>exact H (fun c p=>OL p (j x) (j y)) g
 case unOp op q x=>exact H (fun c p=>YC p (j x)) g
 case convert s d x=>
  simp only[cO] at g;split at g
  ·rename_i c p;cases g;obtain⟨I,w',h1,D,G,Q⟩:=O7 rel p (j x);exact Good.mk (by simp[execOp,h1]) D G Q
  ·exact H (fun c p=>PV rel p (j x)) g
 case makeInterface q x=>
  simp only[cO] at g;cases W:P.underlying q with
  | none=>rw[W] at g;cases g
  | some d=>
   rw[W] at g;cases d<;>simp only at g<;>try (cases g;done)
   all_goals
    cases g;exact Good.mk (v:=.iface q (J x)) (by simp[execOp,Instr.makeInterface,cb W]) (.refl _ _ _) rel (.fW q _ _ (j x))
 case makeFunc fn first e3=>
  cases fn<;>simp only[cO] at g<;>try (cases g;done)
  cases g;exact Good.mk (by simp[execOp,Instr.makeFunc]) (.refl _ _ _) rel (.fn _ _ _ _ _ V V (C7 j first) (C7 j e3))
 case makeSlice q l c=>exact ah (fun ay h' p=>Tc rel p (j l) (j c)) g
 case slice q x au ag av=>exact H (fun c p=>Xw rel p (j x) (Dz j au) (Dz j ag) (Dz j av)) g
 case fieldAddr s x f=>exact H (fun c p=>QX p (j x)) g
 case field q x f=>
  simp only[cO] at g;split at g
  ·rename_i cs aA C ao;have u:=j x;rw[C] at u;exact H (fun c p=>QY ao p u) g
  ·cases g
 case indexAddr q x i=>exact H (fun c p=>RU p (j x) (j i)) g
 case index q x i=>exact H (fun c p=>CO p (j x) (j i)) g
 case extract x i=>
  simp only[cO] at g;have u:=j x;cases p:F x<;>rw[p] at g u<;>simp only at g<;>try (cases g;done)
  rename_i aC;cases C:J x<;>rw[C] at u<;>try (cases u;done)
  rename_i arr;cases u with
  | aX _ _ ap aq=>
   refine H (m:=Instr.extract (J x) i) (fun c p=>?_) g;have am:i<arr.size:=by rw[ap];exact (aL.1 p).1
   exact⟨arr[i],by simp[Instr.extract,C,am],aq i c _ p (by simp[am])⟩
 case call c=>exact Pf rel j g
 case makeMap q r=>
  simp only[cO] at g;split at g
  ·rename_i k e W z;cases g;obtain⟨I,w',muZ',h1,D,G,Q⟩:=Tb (P:=P) (t:=q) (r:=r.map J) rel ⟨_,_,W⟩ (fun x C=>by
    cases r with
    | none=>cases C
    | some o=>
     simp only[cA,bc] at C;subst C;simp only at z;cases ag:asInt (F o) with
     | none=>rw[ag] at z;cases z
     | some n=>
      obtain⟨k,hk⟩:=oy ag (j o);exact⟨k,n,hk⟩)
   exact Good.mk (by simp[execOp,h1]) D G Q
  ·cases g
 case lookup q m k aw=>exact H (fun c p=>SY rel p (j m) (j k)) g
 case mapUpdate q m k x=>
  simp only[cO] at g;cases K:so P h q (F m) (F k) (F x) with
  | none=>rw[K] at g;cases g
  | some h'=>
   rw[K] at g;simp only[cA,bc] at g;subst g;obtain⟨w',h1,D,G⟩:=I0 (P:=P) rel K (j m) (j k) (j x);exact⟨undef,w',muZ,.inr ⟨by simp[execOp,h1],rfl⟩,D,G,.aX [] #[] rfl (fun _ _ _ T=>by simp at T)⟩
 case insert q m k x=>
  simp only[cO] at g;cases K:so P h q (F m) (F k) (F x) with
  | none=>rw[K] at g;cases g
  | some h'=>
   rw[K] at g;simp only[cA,bc] at g;subst g;obtain⟨w',h1,D,G⟩:=I0 (P:=P) rel K (j m) (j k) (j x);exact⟨undef,w',muZ,.inr ⟨by simp[execOp,h1],rfl⟩,D,G,.aX [] #[] rfl (fun _ _ _ T=>by simp at T)⟩
 case range q x=>exact ah (fun c h' p=>Wh rel p (j x)) g
 case next it ar=>
  cases ar with
  | false=>simp only[cO] at g;cases g
  | true=>exact ah (fun c h' p=>by obtain⟨I,w',h1,D,G,Q⟩:=TI (P:=P) (ty:=type) rel p (j it);exact⟨I,w',muZ,h1,D,G,Q⟩) g
 case typeAssert x aD q aw=>
  simp only[cO] at g;split at g
  ·rename_i ai O;exact H (fun c p=>X8 O p (j x)) g
  ·cases g
 all_goals (simp only[cO] at g;cases g)
end
end Go.bh

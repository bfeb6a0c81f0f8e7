/-
  The canonical machine, part F: slicing, literals, make, copy, len, indexes, conversions.
-/
import Derived.Test.YtdjbnhgdhambnaaGreatDoorUa
import Derived.Lib.IndexBytes
import Derived.Laws.BytesString
import Derived.Lib.ConvBytes
import Derived.Stop.SameAnswer
set_option maxHeartbeats 16000000
set_option maxRecDepth 100000
set_option linter.unusedVariables false
set_option linter.unusedSimpArgs false
set_option linter.unnecessarySimpa false
namespace Go.bl
open Go
section
variable {P:bq} {w:aT} {R:Nat->Prop} {B:Nat} {h:aM} {muZ:b3}
theorem tn {x:U} {m:aD} {y n j:Nat} {code:BoundsCode} (g:gW x y=some n) (p:aA w R h muZ x m) (q:y<=j) :
  n<=y/\(Instr.sliceBound m j code).run P w=.ok n w:=by
 unfold gW at g;cases p with
 | int k i=>
  simp only at g;split at g
  ·rename_i o;cases g;refine⟨F,?_⟩;have:(0<=i/\i<=(j:Int)):=⟨o.1,F⟩
   simp[Instr.sliceBound,asIntOf,this]
  ·cases g
 | _=>simp at g
def rF (w:aT) (R:Nat->Prop) (h:aM) (muZ:b3) :Option U->Option aD->Prop
 | none,none=>True
 | some c,some g=>aA w R h muZ c g
 | _,_=>False
theorem qq {B G C:Option U} {p z H:Option aD} {isS:Bool} {len cap cap' l m D:Nat} (g:e5 len cap B G C=some (l,D,m)) (S:len<=cap) (Q:cap<=cap')
  (h1:rF w R h muZ B p) (v:rF w R h muZ G z) (J:rF w R h muZ C H) :
  l<=D/\D<=m/\m<=cap/\(C=none->m=cap)/\(Instr.sliceBounds isS len cap' p z H).run P w=.ok (l,D,if C.isSome then m else cap') w:=by
 unfold e5 at g;cases C with
 | none=>
  cases H with
  | some u=>exact J.elim
  | none=>
   simp only at g;cases G with
   | none=>
    cases z with
    | some u=>exact v.elim
    | none=>
     simp only at g;cases B with
     | none=>
      cases p with
      | some u=>exact h1.elim
      | none=>
       simp only[bc,Prod.mk.injEq] at g;obtain⟨rfl,rfl,rfl⟩:=g;exact⟨F,S,aN _,fun _=>rfl,by simp[Instr.sliceBounds]⟩
     | some c=>
      cases p with
      | none=>exact h1.elim
      | some u=>
       simp only at g;cases o:gW c len with
       | none=>rw[o] at g;cases g
       | some V=>
        rw[o] at g;simp only[bc,Prod.mk.injEq] at g;obtain⟨rfl,rfl,rfl⟩:=g;have j:=tn (P:=P) (code:=.sliceB) o h1 (aN _);exact⟨j.1,S,aN _,fun _=>rfl,by simp[Instr.sliceBounds,j.2]⟩
   | some I=>
    cases z with
    | none=>exact v.elim
    | some Y=>
     simp only at g;cases q:gW I cap with
     | none=>rw[q] at g;cases g
     | some h'=>
      rw[q] at g;simp only at g;have j:=tn (P:=P) (code:=if isS then .sliceAcap else .sliceAlen) q v Q;cases B with
      | none=>
       cases p with
       | some u=>exact h1.elim
       | none=>
        simp only[bc,Prod.mk.injEq] at g;obtain⟨rfl,rfl,rfl⟩:=g;exact⟨F,j.1,aN _,fun _=>rfl,by simp[Instr.sliceBounds,j.2]⟩
      | some c=>
       cases p with
       | none=>exact h1.elim
       | some u=>
        simp only at g;cases o:gW c h' with
        | none=>rw[o] at g;cases g
        | some V=>
         rw[o] at g;simp only[bc,Prod.mk.injEq] at g;obtain⟨rfl,rfl,rfl⟩:=g;have t:=tn (P:=P) (code:=.sliceB) o h1 (aN _);exact⟨t.1,j.1,aN _,fun _=>rfl,by simp[Instr.sliceBounds,j.2,t.2]⟩
 | some W=>
  cases H with
  | none=>exact J.elim
  | some ad=>
   simp only at g;cases O:gW W cap with
   | none=>rw[O] at g;cases g
   | some X=>
    rw[O] at g;simp only at g;have j:=tn (P:=P) (code:=if isS then .slice3Acap else .slice3Alen) O J Q;cases G with
    | none=>cases g
    | some I=>
     cases z with
     | none=>exact v.elim
     | some Y=>
      simp only at g;cases q:gW I X with
      | none=>rw[q] at g;cases g
      | some h'=>
       rw[q] at g;simp only at g;have t:=tn (P:=P) (code:=.slice3B) q v (aN _);cases B with
       | none=>
        cases p with
        | some u=>exact h1.elim
        | none=>
         simp only[bc,Prod.mk.injEq] at g;obtain⟨rfl,rfl,rfl⟩:=g;exact⟨F,t.1,j.1,(fun K=>by cases K),by simp[Instr.sliceBounds,j.2,t.2]⟩
       | some c=>
        cases p with
        | none=>exact h1.elim
        | some u=>
         simp only at g;cases o:gW c h' with
         | none=>rw[o] at g;cases g
         | some V=>
          rw[o] at g;simp only[bc,Prod.mk.injEq] at g;obtain⟨rfl,rfl,rfl⟩:=g;have T:=tn (P:=P) (code:=.slice3C) o h1 (aN _);exact⟨T.1,t.1,j.1,(fun K=>by cases K),by simp[Instr.sliceBounds,j.2,t.2,T.2]⟩
theorem Gu {z:Nat}:∀ (n:Nat) (cs:ag),(lU z n cs).length=n
 | 0,_=>rfl
 | n+1,cs=>by simp[lU,Gu n]
theorem Gt {z:Nat}:∀ (n:Nat) (cs:ag) (i:Nat),i<n->(lU z n cs)[i]?=some ((cs.drop (i*z)).take z)
 | 0,_,_,h=>F
 | n+1,cs,0,_=>by simp[lU]
 | n+1,cs,i+1,h=>by
  simp only[lU,jr];rw[Gt n _ i F,xG];congr 3;rw[ek];omega
theorem K7 (rel:bC R B w h muZ) {z b off cap sz l j m o cap' : Nat} {cs:ag} {g:M} {hasMax:Bool} (u:h.f b=.cells sz cs) (C:muZ b=some g) (X:off+cap*z<=sz)
  (J:(off+cap*z<sz/\cap'=cap)\/(off+cap*z=sz/\cap<=cap'/\g.s+off+cap'*z<=g.T)) (h1:l<=j) (U:j<=m) (H:m<=cap) (I:hasMax=false->m=cap)
  (D:o=if hasMax then m else cap') (W:m≠l) :
  aA w R h muZ (.Z z b (off+l*z) (j - l) (m - l) sz) (.slice (some ((⟨g.r,g.s+off,none⟩:Addr).add (l*z))) (j - l) (o - l)):=by
 have v:=rel.blk b g C;rw[u] at v;have V:=v.2.1;rw[Addr.jW,i5];have P:l*z+(m - l)*z=m*z:=by rw[<-eP];congr 1;omega
 have Q:m*z<=cap*z:=ck _ H;refine .Z z b _ _ _ sz _ cs g u C F F ?_;cases hasMax with
 | false=>
  have G:=I rfl;have t:o=cap':=by simpa using D
  rw[t];rcases J with ⟨p,q⟩ | ⟨p,q,O⟩
  ·rw[<-G] at p q;exact .inl ⟨F,F⟩
  ·rw[<-G] at p q;refine .inr ⟨F,F,?_⟩;have S:l*z+(cap' - l)*z=cap'*z:=by rw[<-eP];congr 1;omega
   omega
 | true=>
  have t:o=m:=by simpa using D
  rw[t];by_cases K:off+l*z+(m - l)*z<sz
  ·exact .inl ⟨K,rfl⟩
  ·exact .inr ⟨F,aN _,F⟩
theorem extract_toList (s:ByteArray) (a b:Nat) :(s.extract a b).data.toList=(s.data.toList.drop a).take (b - a):=by simp[ByteArray.extract,ByteArray.copySlice,List.take_drop]
theorem aA.Wk (z:Nat) (p:Prop) [Decidable p] (a b:Addr) (cap:Nat) :aA w R h muZ (.bu z []) (.slice (if p then some a else some b) 0 cap):=by
 by_cases g:p
 ·rw[ak g];exact .eI _ _ _
 ·rw[aj g];exact .eI _ _ _
theorem aA.K5 (z b off len cap sz cap' : Nat) (p:Prop) [Decidable p] (a q:Addr) (m:len<=cap) (g:cap<=cap') (j:qg h b sz) :
  aA w R h muZ (.Z z b off len cap sz) (.slice (if p then some a else some q) len cap'):=by
 by_cases o:p
 ·rw[ak o];exact .fc _ _ _ _ _ _ _ _ m g j
 ·rw[aj o];exact .fc _ _ _ _ _ _ _ _ m g j
theorem W1 (rel:bC R B w h muZ) {t:aF} {x c:U} {aO:aD} {aq am u:Option U} {aR I aJ:Option aD} (g:xg P t x aq am u=some c) (ap:aA w R h muZ x aO)
  (h1:rF w R h muZ aq aR) (ag:rF w R h muZ am I) (W:rF w R h muZ u aJ) :
  ∃ v,(Instr.sliceAt t aO aR I aJ).run P w=.ok v w/\aA w R h muZ c v:=by
 unfold xg at g;split at g
 ·-- an array behind its address
  rename_i n e K;cases H:b9 P e with
  | none=>rw[H] at g;cases g
  | some z=>
  cases o:e5 n n aq am u with
  | none=>rw[H,o] at g;cases g
  | some ad=>
  obtain⟨l,j,m⟩:=ad;rw[H,o] at g;simp only at g;obtain⟨Y,Q,S,J,C⟩:=qq (P:=P) (isS:=false) o (aN _) (aN _) h1 ag W;have aY:(if u.isSome=true then m else n)=m:=by
   cases u with
   | none=>simp[J rfl]
   | some v=>simp
  rw[aY] at C;split at g
  ·rename_i b q az;split at g
   ·rename_i aQ;have a9:∃ a,aO=.pointer (some a):=by cases ap<;>exact⟨_,rfl⟩
    obtain⟨a,rfl⟩:=a9;refine⟨_,by simp[Instr.sliceAt,cc K,Instr.sureAddr,C,eB H];rfl,?_⟩;split at g
    ·rename_i G;cases g;have:j - l=0:=F;rw[this];exact .eI _ _ _
    ·rename_i G;cases g;rw[aj G];cases ap with
     | ptr _ _ _ cs al ah ai=>
      exact K7 rel (cap:=m) (cap':=m) (hasMax:=true) ah ai aQ (by
       have aP:=rel.blk b al ai;rw[ah] at aP;have bg:=aP.2.1;by_cases a4:q+m*z<az
       ·exact .inl ⟨a4,rfl⟩
       ·exact .inr ⟨F,aN _,F⟩) Y Q (aN _) (fun aG=>by cases aG) V G
     | jk _ _ _ _ ax=>exact .fc _ _ _ _ _ _ _ _ F (aN _) ax
   ·cases g
  ·rename_i cs q;split at g
   ·rename_i aQ;cases g;cases ap with
    | b7 _ _ aB aL aM aE aH=>
     refine⟨_,by simp[Instr.sliceAt,cc K,Instr.sureAddr,C,eB H];rfl,?_⟩;have bf:j*z<=n*z:=ck _ F;by_cases G:m=l
     ·have av:j - l=0:=F;rw[av];exact .eI _ _ _
     ·rw[aj G,Addr.jW];have ao:=Gu (z:=z) (j - l) (cs.drop (q+l*z));have aV:∀ i,i<j - l->∀ p,p<z->q+l*z+(i*z+p)<cs.length:=by
       intro i I p O;have:(l+i+1)*z<=j*z:=ck _ F;rw[eP,eP] at this;omega
      have ay:∀ i lj,(lU z (j - l) (cs.drop (q+l*z)))[i]?=some lj->i<j - l/\lj=((cs.drop (q+l*z)).drop (i*z)).take z:=by
       intro i lj D;have I:i<j - l:=by
        have:=(aK.1 D).1;omega
       rw[Gt _ _ _ I] at D;simp only[bc] at D;exact⟨I,D.symm⟩
      have:=aA.bu (w:=w) (R:=R) (h:=h) (muZ:=muZ) z (lU z (j - l) (cs.drop (q+l*z))) aB (aL+q+l*z) (m - l) (fun i p=>aM (q+l*z+(i*z+p))) F
       (fun lj D=>by
        obtain⟨i,I,rfl⟩:=E9 D;obtain⟨aS,aT⟩:=ay i _ (bK I);rw[aT,cL,i2,i2];have:(l+i+1)*z<=j*z:=ck _ F;rw[eP,eP] at this;omega)
       (fun i p I O=>by
        have:=aE (q+l*z+(i*z+p)) (aV i F p O);have aC:aL+q+l*z+(i*z+p)=aL+(q+l*z+(i*z+p)):=F;rw[aC];exact this)
       (fun i lj D p c O=>by
        obtain⟨aS,rfl⟩:=ay i _ D;have aZ:p<z:=by
         have:=(aK.1 O).1;rw[cL] at this;omega
        rw[dS aZ,gy,gy,] at O;exact aH _ c O)
      rw[ao] at this;exact this
   ·cases g
  ·cases g
 ·-- a slice
  rename_i e K;split at g
  ·rename_i z bd b q len cap az H;split at g
   ·rename_i aI;subst aI;cases o:e5 len cap aq am u with
    | none=>rw[o] at g;cases g
    | some ad=>
    obtain⟨l,j,m⟩:=ad;rw[o] at g;simp only[cz,bc] at g;cases ap with
    | Z _ _ _ _ _ _ cap' cs al ah ai ao a7 X=>
     have aU:cap<=cap':=by rcases X with X | X<;>omega
     obtain⟨Y,Q,S,J,C⟩:=qq (P:=P) (isS:=true) o ao aU h1 ag W;refine⟨_,by simp[Instr.sliceAt,Instr.slice,cc K,C,eB H];rfl,?_⟩;split at g
     ·rename_i G;subst g;have:j - l=0:=F;rw[this];by_cases aw:(if u.isSome=true then m else cap')=l
      ·rw[ak aw,aw,s9];exact .gu _ _ _ _ _ _ al ah ai
      ·rw[aj aw];cases u with
       | some v=>exact bW (by simpa using G) aw
       | none=>
        have bi:=J rfl;simp only[rA,kj,if_false] at aw ⊢;have aW:cap=l:=F;have bh:q+cap*z=az/\cap<=cap'/\al.s+q+cap'*z<=al.T:=by rcases X with X | X<;>omega
        have bj:l*z+(cap' - l)*z=cap'*z:=by rw[<-eP];congr 1;omega
        subst aW;rw[Addr.jW];have:=aA.Z (w:=w) (R:=R) (h:=h) (muZ:=muZ) z b (q+cap*z) 0 0 az (cap' - cap) _ al ah ai (aN _) F (.inr ⟨F,F,F⟩)
        rwa [<-i5] at this
     ·rename_i G;subst g;have a6:¬ ((if u.isSome=true then m else cap')=l):=by
       cases u with
       | none=>have:=J rfl;simp;omega
       | some v=>simpa using G
      rw[aj a6];exact K7 rel (hasMax:=u.isSome) ah ai a7 X Y Q S (fun aG=>J (by simpa using aG)) rfl G
    | gu _ _ _ _ a cs al ah ai=>
     obtain⟨Y,Q,S,J,C⟩:=qq (P:=P) (isS:=true) o (aN 0) (aN 0) h1 ag W;refine⟨_,by simp[Instr.sliceAt,Instr.slice,cc K,C,eB H];rfl,?_⟩;have a5:m=0:=by
      cases u with
      | none=>exact J rfl
      | some v=>simp at S;omega
     have a0:l=0:=F;have aX:j=0:=F;subst a5 a0 aX;simp only[if_true] at g;subst g;simp;exact .gu _ _ _ _ _ _ al ah ai
    | fc _ _ _ _ _ _ cap' a ao X ax=>
     obtain⟨Y,Q,S,J,C⟩:=qq (P:=P) (isS:=true) o ao X h1 ag W;refine⟨_,by simp[Instr.sliceAt,Instr.slice,cc K,C,eB H];rfl,?_⟩;split at g
     ·rename_i G;subst g;have:j - l=0:=F;rw[this];exact aA.K5 _ _ _ _ _ _ _ _ _ _ (aN _) (fR _) ax
     ·rename_i G;subst g;have a2:m<=(if u.isSome=true then m else cap'):=by split<;>omega
      exact aA.K5 _ _ _ _ _ _ _ _ _ _ F F ax
   ·cases g
  ·rename_i z bd ar H;split at g
   ·rename_i aI;subst aI;cases o:e5 ar.length ar.length aq am u with
    | none=>rw[o] at g;cases g
    | some ad=>
    obtain⟨l,j,m⟩:=ad;rw[o] at g;simp only[cz,bc] at g;subst g;cases ap with
    | bu _ _ aB q cap aM ao bb aE aH=>
     obtain⟨Y,Q,S,J,C⟩:=qq (P:=P) (isS:=true) o (aN _) ao h1 ag W;refine⟨_,by simp[Instr.sliceAt,Instr.slice,cc K,C,eB H];rfl,?_⟩;have a3:((ar.drop l).take (j - l)).length=j - l:=by rw[cL,i2];omega
     have a2:j<=(if u.isSome=true then m else cap):=by
      cases u with
      | none=>simp only[rA,kj,if_false];omega
      | some v=>simpa using Q
     by_cases G:(if u.isSome=true then m else cap)=l
     ·have av:j - l=0:=F;rw[ak G,av,m9];exact .eI _ _ _
     ·rw[aj G,Addr.jW];have ay:∀ i lj,((ar.drop l).take (j - l))[i]?=some lj->i<j - l/\ar[l+i]?=some lj:=by
       intro i lj D;have I:i<j - l:=by
        have:=(aK.1 D).1;omega
       rw[dS I,gy] at D;exact⟨I,D⟩
      have:=aA.bu (w:=w) (R:=R) (h:=h) (muZ:=muZ) z ((ar.drop l).take (j - l)) aB (q+l*z) ((if u.isSome=true then m else cap) - l) (fun i p=>aM (l+i) p) F
       (fun lj D=>bb lj (u7 (gA D)))
       (fun i p I O=>by
        have:=aE (l+i) p F O;have aC:q+l*z+(i*z+p)=q+((l+i)*z+p):=by rw[eP];omega
        rw[aC];exact this)
       (fun i lj D p c O=>aH (l+i) lj (ay i lj D).2 p c O)
      rw[a3] at this;exact this
    | eI _ a cap=>
     obtain⟨Y,Q,S,J,C⟩:=qq (P:=P) (isS:=true) o (aN _) (fR cap) h1 ag W;refine⟨_,by simp at C;simp[Instr.sliceAt,Instr.slice,cc K,C,eB H];rfl,?_⟩;have av:j - l=0:=by simp at S;omega
     rw[av,m9];exact aA.Wk _ _ _ _ _
   ·cases g
  ·rename_i z H;cases ap;cases o:e5 0 0 aq am u with
   | none=>rw[o] at g;cases g
   | some ad=>
   obtain⟨l,j,m⟩:=ad;rw[o] at g;simp only[cz,bc] at g;subst g;obtain⟨Y,Q,S,J,C⟩:=qq (P:=P) (isS:=true) o (aN _) (aN _) h1 ag W;obtain rfl:m=0:=F;obtain rfl:j=0:=F;obtain rfl:l=0:=F;refine⟨_,by simp[Instr.sliceAt,Instr.slice,cc K,C,eB H];rfl,?_⟩;exact .ae
  ·cases g
 ·-- a string
  rename_i s K;split at g
  ·cases ap with
   | str au=>
    cases o:e5 au.data.toList.length au.data.toList.length aq am none with
    | none=>rw[o] at g;cases g
    | some ad=>
    obtain⟨l,j,m⟩:=ad;rw[o] at g;simp only[cz,bc] at g;subst g;cases aJ with
    | some v=>exact W.elim
    | none=>
     have a8:au.data.toList.length=au.size:=V;rw[a8] at o;obtain⟨Y,Q,S,J,C⟩:=qq (P:=P) (isS:=false) o (aN _) (aN _) h1 ag W;refine⟨.string (au.extract l j),by simp[Instr.sliceAt,Instr.slice,cc K,C],?_⟩;rw[<-extract_toList];exact .str _
  ·cases g
 ·cases g
end
section
variable {P:bq} {w:aT} {R:Nat->Prop} {B:Nat} {h:aM} {muZ:b3}
def ja (w:aT) (R:Nat->Prop) (h:aM) (muZ:b3) (cs:ag) (arr:Array aD) :Prop:=
 arr.size=cs.length/\∀ (j:Nat) (c:U),cs[j]?=some c->∃ g:aD,arr[j]?=some g/\g.oneCell'=true/\aA w R h muZ c g
theorem ja.af {cs:ag} {arr:Array aD} (j:ja w R h muZ cs arr) :aA w R h muZ (.af cs) (.agg arr):=by
 refine .af _ _ j.1 (fun m v g=>?_) (fun m c v q g=>?_)
 ·have t:m<cs.length:=by have:=(ij.1 g).1;rw[<-j.1];exact this
  obtain⟨u,h1,o,_⟩:=j.2 m _ (bK t);rw[g] at h1;cases h1;exact o
 ·obtain⟨u,h1,_,p⟩:=j.2 m c q;rw[g] at h1;cases h1;exact p
theorem HD:∀ (l:List aD) (k off:Nat) (cells:Array aD),off+k+l.length<=cells.size->
  ((l.zipIdx k).foldl (fun cs (g:aD × Nat)=>cs.setIfInBounds (off+g.2) g.1) cells).size=cells.size ∧
  ∀ j,((l.zipIdx k).foldl (fun cs (g:aD × Nat)=>cs.setIfInBounds (off+g.2) g.1) cells)[j]?=if off+k<=j/\j<off+k+l.length then l[j - (off+k)]? else cells[j]?
 | [],k,off,cells,_=>⟨V,fun j=>by simp;omega⟩
 | v::l,k,off,cells,p=>by
  simp only[dN] at p;have o:=HD l (k+1) off (cells.setIfInBounds (off+k) v) (by simp;omega);simp only[List.zipIdx_cons,xI];refine⟨by rw[o.1];simp,fun j=>?_⟩;rw[o.2 j];by_cases m:off+(k+1)<=j/\j<off+(k+1)+l.length
  ·rw[ak m,ak (by simp only[dN];omega)];have:j - (off+k)=(j - (off+(k+1)))+1:=F;rw[this,jr]
  ·rw[aj m,uW];by_cases h:off+k=j
   ·subst h;rw[ak rfl,ak F,ak (by simp only[dN];omega)];simp
   ·rw[aj h,aj (by simp only[dN];omega)]
theorem yC {I:Nat->Option (Nat × Nat)}:∀ (parts:List (Nat × U)) (B:List (Nat × aD)) (cs:ag) (arr:Array aD) (cs' : ag),
  ey I cs parts=some cs'->ja w R h muZ cs arr->B.length=parts.length->(∀ (j:Nat) (p:Nat × U) (z:Nat × aD),parts[j]?=some p->B[j]?=some z->z.1=p.1/\aA w R h muZ p.2 z.2)->
  ∃ arr',Instr.fill I arr B=some arr'/\ja w R h muZ cs' arr'
 | [],[],cs,arr,cs',g,q,_,_=>by
  simp only[ey,bc] at g;subst g;exact⟨arr,rfl,q⟩
 | [],_::_,_,_,_,_,_,v,_=>by simp at v
 | _::_,[],_,_,_,_,_,v,_=>by simp at v
 | (i,c) ::parts,(S,o) ::B,cs,arr,cs',g,q,v,O=>by
  obtain⟨rfl,Q⟩:=O 0 (i,c) (S,o) rfl rfl;simp only at Q;unfold ey at g;cases C:I S with
  | none=>rw[C] at g;cases g
  | some al=>
  obtain⟨t,size⟩:=al;cases G:c.cells with
  | none=>rw[C,G] at g;cases g
  | some T=>
  rw[C,G] at g;simp only at g;split at g
  ·rename_i am;obtain⟨P,ah⟩:=yf Q G;have H:o.cells.toList.length=T.length:=by simpa using P
   have K:=HD o.cells.toList 0 t arr (by rw[q.1,H];omega);have ai:o.cells.zipIdx.foldl (fun cs (x:aD × Nat)=>match x with | (c,j)=>cs.setIfInBounds (t+j) c) arr=(o.cells.toList.zipIdx 0).foldl (fun cs (J:aD × Nat)=>cs.setIfInBounds (t+J.2) J.1) arr:=by
    rw[<-Array.foldl_toList];simp
   obtain⟨arr',h1,D⟩:=yC parts B (aw cs t T) (o.cells.zipIdx.foldl (fun cs (x:aD × Nat)=>match x with | (c,j)=>cs.setIfInBounds (t+j) c) arr) cs' g (by
     rw[ai];refine⟨by rw[K.1,q.1,oV F];omega,fun j x m=>?_⟩;rw[K.2 j];rw[Eh F] at m;split at m
     ·rename_i ao;rw[aj F];exact q.2 j x m
     ·split at m
      ·rename_i h1 D;rw[ak (by rw[H];omega)];obtain⟨u,V,W,X⟩:=ah _ x m;exact⟨u,by simpa using V,W,X⟩
      ·rename_i h1 D;rw[aj (by rw[H];omega)];exact q.2 j x m) (by simpa using v) (fun j p z m Y=>O (j+1) p z (by simpa using m) (by simpa using Y))
   refine⟨arr',?_,D⟩;have ad:¬ (o.cells.size≠size\/t+o.cells.size > arr.size):=by rw[P,q.1];omega
   simp only[Instr.fill,C];rw[aj (by simpa using ad)];exact h1
  ·cases g
theorem rk {t:aF} {z:ag} (p:gb P t=some z) :∃ v,(∀ w2:aT,(zeroValue t).run P w2=.ok v w2)/\ja w R h muZ z v.cells:=by obtain⟨i,v,j,o,m,g⟩:=MB (w:=w) (R:=R) (h:=h) (muZ:=muZ) p;exact⟨v,fun w2=>KS j o,m,g⟩
theorem Wv {fs:Array Field} (j:(fs.toList.all fun f=>(b9 P f.type).isSome)=true) :
  (fs.mapM fun f=>(do pure (f.offset,<-sizeOf f.type) :Sem (Nat × Nat))).run P w=.ok ((fs.toList.map fun f=>(f.offset,(b9 P f.type).getD 0)).toArray) w:=by
 rw[MC];simp only[Sem.run_map];have:∀ l:List Field,(l.all fun f=>(b9 P f.type).isSome)=true->(l.mapM fun f=>(do pure (f.offset,<-sizeOf f.type) :Sem (Nat × Nat))).run P w=.ok (l.map fun f=>(f.offset,(b9 P f.type).getD 0)) w:=by
  intro l
  induction l with
  | nil=>intro _;simp
  | cons f l m=>
   intro g;simp only[E4,bU] at g;obtain⟨n,h⟩:=MH.1 g.1;simp only[o5,Sem.run_bind,eB h,Result.andThen_ok,Sem.run_pure,m g.2,di,h,g6]
 rw[this _ j];rfl
theorem OI {t:aF} {parts:List (Nat × U)} {u:Array (Nat × aD)} {c:U} (g:vC P t parts=some c) (I:u.size=parts.length)
  (J:∀ (j:Nat) (p:Nat × U) (q:Nat × aD),parts[j]?=some p->u[j]?=some q->q.1=p.1/\aA w R h muZ p.2 q.2) :
  ∃ v,(Instr.build t u).run P w=.ok v w/\aA w R h muZ c v:=by
 unfold vC at g;split at g
 ·rename_i zero fs H F;split at g
  ·cases g
  ·rename_i m;simp only[uZ,Bool.not_eq_false] at m;cases o:ey (wW P fs) zero parts with
   | none=>rw[o] at g;cases g
   | some cs=>
    rw[o] at g;simp only[cz,bc] at g;subst g;obtain⟨v,G,D⟩:=rk (w:=w) (R:=R) (h:=h) (muZ:=muZ) H;obtain⟨O,h1,z⟩:=yC parts u.toList zero v.cells cs o D (by simpa using I) (fun j p q B C=>J j p q B (by simpa using C));have T:(fun i=>((fs.toList.map fun f=>(f.offset,(b9 P f.type).getD 0)).toArray)[i]?)=wW P fs:=by
     funext i;simp only[wW];simp only[u6,b1,p5];cases Q:fs[i]? with
     | none=>simp
     | some f=>
      rw[gc] at m;have:=m f (by have:=xD Q;simpa using this);obtain⟨n,S⟩:=MH.1 this;simp[S]
    refine⟨_,?_,z.af⟩;simp only[Instr.build,Sem.run_bind,G,Result.andThen_ok,cc F,Wv m];rw[T,h1];simp
 ·rename_i zero n e H F;cases m:b9 P e with
  | none=>rw[m] at g;cases g
  | some K=>
   rw[m] at g;simp only at g;cases o:ey (fun i=>some (i*K,K)) zero parts with
   | none=>rw[o] at g;cases g
   | some cs=>
    rw[o] at g;simp only[cz,bc] at g;subst g;obtain⟨v,G,D⟩:=rk (w:=w) (R:=R) (h:=h) (muZ:=muZ) H;obtain⟨O,h1,z⟩:=yC parts u.toList zero v.cells cs o D (by simpa using I) (fun j p q B C=>J j p q B (by simpa using C));refine⟨_,?_,z.af⟩;simp only[Instr.build,Sem.run_bind,G,Result.andThen_ok,cc F,eB m];rw[h1];simp
 ·cases g
theorem sx {zero:ag}:∀ n,(c3 zero n).length=n*zero.length
 | 0=>by simp[c3]
 | n+1=>by simp only[c3,cF,sx n,ek];omega
theorem Kv {zero:ag}:∀ (n j:Nat) (c:U),(c3 zero n)[j]?=some c->zero[j % zero.length]?=some c
 | 0,_,_,g=>by simp[c3] at g
 | n+1,j,c,g=>by
  simp only[c3] at g;by_cases h:j<zero.length
  ·rw[aU h] at g
   rwa [eg h]
  ·rw[eu F] at g;have:=Kv n _ c g
   rwa [<-Nat.mod_eq_sub_mod F] at this
theorem zT {zero:ag} {z:Array aD} (j:ja w R h muZ zero z) (n:Nat) :ja w R h muZ (c3 zero n) ((Array.range (n*zero.length)).map (z[· % z.size]!)):=by
 refine⟨by simp[sx],fun m c g=>?_⟩;have t:m<n*zero.length:=by
  have:=(aK.1 g).1
  rwa [sx] at this
 obtain⟨u,h1,o,p⟩:=j.2 _ c (Kv n m c g);refine⟨u,?_,o,p⟩;rw[<-j.1] at h1;obtain⟨q,rfl⟩:=ij.1 h1;simp[t,q]
theorem QB {z:Nat}:∀ (parts:List (Nat × U)) (a b:ag),ey (fun i=>some (i*z,z)) a parts=some b->b.length=a.length:=by
 intro parts
 induction parts with
 | nil=>intro a b g;simp only[ey,bc] at g;subst g;rfl
 | cons p parts h=>
  intro a b g;unfold ey at g;split at g
  ·rename_i o size q j m;split at g
   ·rw[h _ _ g,oV F];omega
   ·cases g
  ·cases g
theorem Gg {t e:aF} {len z:Nat} {zero cs:ag} {parts:List (Nat × U)} {m:Array (Nat × aD)} (D:gj P t=some e) (T:b9 P e=some z) (V:gb P e=some zero) (v:zero.length=z) (X:len*z<=16777216)
  (q:ey (fun i=>some (i*z,z)) (c3 zero len) parts=some cs) (I:m.size=parts.length)
  (K:∀ (j:Nat) (p:Nat × U) (g:Nat × aD),parts[j]?=some p->m[j]?=some g->g.1=p.1/\aA w R h muZ p.2 g.2) :
  cs.length=len*z/\∃ arr,(Instr.buildSlice t len m).run P w=.ok (.slice (some ⟨w.heap.size,0,none⟩) len len) (w.alloc (.cells arr e))/\ja w R h muZ cs arr:=by
 obtain⟨Y,S,O⟩:=rk (w:=w) (R:=R) (h:=h) (muZ:=muZ) V;obtain⟨B,h1,C⟩:=yC parts m.toList _ _ cs q (zT O len) (by simpa using I) (fun j p g G H=>K j p g G (by simpa using H));refine⟨by rw[QB _ _ _ q,sx,v],B,?_,C⟩;have Q:=vU D;have J:¬ (len*z > 2 ^ 24):=F;simp only[Instr.buildSlice,Sem.run_bind,cc Q,Result.andThen_ok,eB T,aj J];rw[v] at h1;generalize W:len*z=N at h1;by_cases o:N=0
 ·subst o;have u:∀ f:Nat->aD,(Array.range 0).map f=#[]:=fun f=>by simp[Array.range]
  rw[u] at h1;simp[u,h1,newRow]
 ·simp[o,S,h1,newRow]
theorem OH (rel:bC R B w h muZ) {t:aF} {len:Nat} {parts:List (Nat × U)} {H:Array (Nat × aD)} {c:U} {h' : aM} (g:yb P h t len parts=some (c,h')) (S:H.size=parts.length)
  (W:∀ (j:Nat) (p:Nat × U) (G:Nat × aD),parts[j]?=some p->H[j]?=some G->G.1=p.1/\aA w R h muZ p.2 G.2) :
  ∃ v w' muZ',(Instr.buildSlice t len H).run P w=.ok v w'/\cY w h muZ w' h' muZ'/\bC R B w' h' muZ'/\aA w' R h' muZ' c v:=by
 unfold yb at g;cases z:gj P t with
 | none=>rw[z] at g;cases g
 | some e=>
 rw[z] at g;simp only at g;cases q:b9 P e with
 | none=>rw[q] at g;cases g
 | some m=>
 cases D:gb P e with
 | none=>rw[q,D] at g;cases g
 | some zero=>
 rw[q,D] at g;simp only at g;split at g
 ·rename_i Q;obtain⟨Y,T⟩:=Q;cases C:ey (fun i=>some (i*m,m)) (c3 zero len) parts with
  | none=>rw[C] at g;cases g
  | some cs=>
   rw[C] at g;simp only[cz,bc,Prod.mk.injEq] at g;obtain⟨rfl,rfl⟩:=g;obtain⟨J,o,X,u⟩:=Gg z q D Y T C S W;have I:=x2 rel (cs:=cs) (vs:=o) e u.1 u.2;rw[J] at I;obtain⟨K,O,ad⟩:=I;refine⟨.slice (some ⟨w.heap.size,0,none⟩) len len,_,_,X,K,O,?_⟩;have:=aA.Z (w:=w.alloc (.cells o e)) (R:=R) (h:=h.push (.cells (len*m) cs)) (muZ:=bt muZ h.n (some ⟨w.heap.size,0,o.size⟩)) m h.n 0 len len (len*m) len cs ⟨w.heap.size,0,o.size⟩ (by simp[dX]) V (aN _) F
    (.inr ⟨F,aN _,by simp only;rw[u.1,J];omega⟩)
   simpa using this
 ·cases g
theorem Iz {t e:aF} {z by_:Nat} {zero:ag} {kl kc:cV} {li kw:Int} (D:gj P t=some e) (v:b9 P e=some z) (g:gM P e=some by_) (O:gb P e=some zero) (C:zero.length=z)
  (Q:0<=li) (T:li<=kw) (S:kw<9223372036854775808) (I:by_*kw<=dk) :
  (c3 zero kw.toNat).length=kw.toNat*z/\∃ arr,(Instr.makeSlice t (.int kl li) (.int kc kw)).run P w=.ok (.slice (some ⟨w.heap.size,0,none⟩) li.toNat kw.toNat) (w.alloc (.cells arr e))/\ja w R h muZ (c3 zero kw.toNat) arr:=by
 obtain⟨U,K,H⟩:=rk (w:=w) (R:=R) (h:=h) (muZ:=muZ) O;have J:=zT H kw.toNat
 refine⟨by rw[sx,C],_,?_,J⟩;obtain⟨i,j,o⟩:∃ i,P.info? e=some i/\i.bytes=by_:=by
  unfold gM at g;cases j:P.info? e with
  | none=>rw[j] at g;cases g
  | some i=>rw[j] at g;exact⟨i,rfl,by simpa using g⟩
 have u:IntKind.i64.wrap li=li:=IntWalk.i64_in _ F;have q:IntKind.i64.wrap kw=kw:=IntWalk.i64_in _ F;have p:=vU D;unfold dk at I;have t1:¬ (kw<0\/(281474976710656:Int)<(by_:Int)*kw):=F;have t2:¬ (li<0):=F;have t3:¬ (kw<li):=F;rw[C];generalize m:kw.toNat*z=N;by_cases B:N=0
 ·subst B;have G:∀ f:Nat->aD,(Array.range 0).map f=#[]:=fun f=>by simp[Array.range]
  simp[G,Instr.makeSlice,cc p,Go.asInt,asIntOf,typeInfo,j,o,u,q,t1,t2,t3,eB v,m,newRow]
 ·simp[Instr.makeSlice,cc p,Go.asInt,asIntOf,typeInfo,j,o,u,q,t1,t2,t3,eB v,m,B,K,newRow]
theorem SK (rel:bC R B w h muZ) {t:aF} {l c r:U} {H z:aD} {h' : aM} (g:y4 P h t l c=some (r,h')) (X:aA w R h muZ l H) (O:aA w R h muZ c z) :
  ∃ v w' muZ',(Instr.makeSlice t H z).run P w=.ok v w'/\cY w h muZ w' h' muZ'/\bC R B w' h' muZ'/\aA w' R h' muZ' r v:=by
 unfold y4 at g;split at g
 ·rename_i e G j W ad S;obtain⟨ak,rfl⟩:=oi ad X;obtain⟨aj,rfl⟩:=oi S O;cases m:b9 P e with
  | none=>rw[m] at g;cases g
  | some u=>
  cases o:gM P e with
  | none=>rw[m,o] at g;cases g
  | some am=>
  cases q:gb P e with
  | none=>rw[m,o,q] at g;cases g
  | some zero=>
  rw[m,o,q] at g;simp only at g;split at g
  ·rename_i T;obtain⟨ai,K,Y,Q,ag⟩:=T;simp only[bc,Prod.mk.injEq] at g;obtain⟨rfl,rfl⟩:=g;obtain⟨D,arr,ah,p⟩:=Iz (w:=w) (R:=R) (h:=h) (muZ:=muZ) (kl:=ak) (kc:=aj) W m o q ai K Y Q ag;have C:=x2 rel (cs:=c3 zero j.toNat) e p.1 p.2;rw[D] at C;obtain⟨I,J,al⟩:=C;refine⟨.slice (some ⟨w.heap.size,0,none⟩) G.toNat j.toNat,_,_,ah,I,J,?_⟩;have:=aA.Z (w:=w.alloc (.cells arr e)) (R:=R) (h:=h.push (.cells (j.toNat*u) (c3 zero j.toNat))) (muZ:=bt muZ h.n (some ⟨w.heap.size,0,arr.size⟩))
    u h.n 0 G.toNat j.toNat (j.toNat*u) j.toNat (c3 zero j.toNat) ⟨w.heap.size,0,arr.size⟩ (by simp[dX]) V F F
    (.inr ⟨F,aN _,by simp only;rw[p.1,D];omega⟩)
   simpa using this
  ·cases g
 ·cases g
theorem Sm {t u:aF} {ty:aF} {x c:U} {p:aD} (j:r8 P t x=some c) (m:aA w R h muZ x p) :∃ v,(Builtin.len_ #[t] ty #[p]).run P w=.ok v w/\aA w R h muZ c v:=by
 unfold r8 at j;split at j<;>(try (simp only[bc] at j;subst j))
 ·rename_i s g;cases m;rename_i o;exact⟨goInt o.size,by simp[Builtin.len_,cc g],by rw[show (o.data.toList.length:Int)=o.size from by simp];exact .int _ _⟩
 ·rename_i n e g;exact⟨goInt n,by simp[Builtin.len_,cc g],.int _ _⟩
 ·rename_i e g;cases m;exact⟨goInt (0:Nat),by simp[Builtin.len_,cc g],.int _ _⟩
 ·rename_i e z b B len cap C g;cases m
  ·exact⟨goInt len,by simp[Builtin.len_,cc g],.int _ _⟩
  ·exact⟨goInt len,by simp[Builtin.len_,cc g],.int _ _⟩
  ·exact⟨goInt (0:Nat),by simp[Builtin.len_,cc g],.int _ _⟩
 ·rename_i e z q g;cases m
  ·exact⟨goInt q.length,by simp[Builtin.len_,cc g],.int _ _⟩
  ·exact⟨goInt (0:Nat),by simp[Builtin.len_,cc g],.int _ _⟩
 ·rename_i k e g;cases m;exact⟨goInt 0,by simp[Builtin.len_,cc g],.int _ _⟩
 ·cases j
end
section
variable {P:bq} {w:aT} {R:Nat->Prop} {B:Nat} {h:aM} {muZ:b3}
theorem qW {t:aF} {cs:ag} {vs:Array aD} {off:Nat} {c:U} (g:go P t cs off=some c) (m:ja w R h muZ cs vs) :
  ∃ v,(∀ w2:aT,(part t vs off).run P w2=.ok v w2)/\aA w R h muZ c v:=by
 unfold go at g;cases j:dE P t with
 | none=>rw[j] at g;cases g
 | some b=>
  rw[j] at g;cases b with
  | false=>
   simp only at g;obtain⟨v,h1,_,o⟩:=m.2 off c g;exact⟨v,fun w2=>by simp[part,zY j,h1],o⟩
  | true=>
   cases q:b9 P t with
   | none=>rw[q] at g;cases g
   | some n=>
    rw[q] at g;simp only at g;split at g
    ·rename_i C;cases g;refine⟨.agg (vs.extract off (off+n)),fun w2=>by simp[part,zY j,eB q],ja.af ⟨by simp;rw[m.1];omega,fun B c p=>?_⟩⟩;have z:B<n:=by
      have:=(aK.1 p).1;rw[cL] at this;omega
     rw[dS z,gy] at p;obtain⟨v,h1,u,o⟩:=m.2 _ c p;refine⟨v,?_,u,o⟩;rw[Array.getElem?_extract,ak (by rw[m.1];omega)];exact h1
    ·cases g
theorem qn {cs:ag} {p:aD} (t:aA w R h muZ (.af cs) p) :∃ vs,p=.agg vs/\ja w R h muZ cs vs:=by
 cases t with
 | af _ vs o h1 q=>
  refine⟨vs,rfl,o,fun g c m=>?_⟩;have j:g<vs.size:=by rw[o];exact (aK.1 m).1
  exact⟨vs[g],by simp[j],h1 g _ (by simp[j]),q g c _ m (by simp[j])⟩
theorem Qx {t:aF} {cs:ag} {f:Nat} {g:Field} {c:U} {j:aD} (o:rX P t f=some g) (q:go P g.type cs g.offset=some c) (B:aA w R h muZ (.af cs) j) :
  ∃ v,(Instr.field t j f).run P w=.ok v w/\aA w R h muZ c v:=by obtain⟨C,z,p⟩:=Hl o;obtain⟨D,rfl,u⟩:=qn B;obtain⟨v,h1,m⟩:=qW (P:=P) q u;exact⟨v,by simp[Instr.field,cc z,p,asAgg,h1],m⟩
theorem Cq {t:aF} {x D c:U} {F C:aD} (g:tN P t x D=some c) (B:aA w R h muZ x F) (z:aA w R h muZ D C) :
  ∃ v,(Instr.index t F C).run P w=.ok v w/\aA w R h muZ c v:=by
 unfold tN at g;split at g
 ·rename_i n e cs i q p;obtain⟨k,rfl⟩:=oi p z;cases u:b9 P e with
  | none=>rw[u] at g;cases g
  | some Q=>
   rw[u] at g;simp only at g;split at g
   ·rename_i o;obtain⟨O,rfl,K⟩:=qn B;obtain⟨v,h1,G⟩:=qW (P:=P) g K;exact⟨v,by simp[Instr.index,asIntOf,cc q,o,eB u,h1],G⟩
   ·cases g
 ·rename_i s i q p;obtain⟨k,rfl⟩:=oi p z;split at g
  ·rename_i o;cases B with
   | str j=>
    cases m:j.data.toList[i.toNat]? with
    | none=>rw[m] at g;cases g
    | some b=>
     rw[m] at g;simp only[cz,bc] at g;subst g;have J:i.toNat<j.size:=by have:=(aK.1 m).1;simpa using this
     have I:j[i.toNat]?=some b:=by
      have H:=(aK.1 m).2;rw[getElem?_pos j i.toNat J];simp only[bc];rw[<-H];rfl
     exact⟨.int .u8 b.toNat,by simp[Instr.index,asIntOf,cc q,o,I],.int _ _⟩
  ·cases g
 ·cases g
theorem PB (rel:bC R B w h muZ) {t u ty:aF} {d x c:U} {V ao:aD} {h' : aM} (g:tD P h t d x=some (c,h')) (ad:aA w R h muZ d V) (S:aA w R h muZ x ao) :
  ∃ v w',(Builtin.copy_ #[t,u] ty #[V,ao]).run P w=.ok v w'/\cY w h muZ w' h' muZ/\bC R B w' h' muZ/\aA w' R h' muZ c v:=by
 unfold tD at g;cases H:gj P t with
 | none=>rw[H] at g;cases g
 | some e=>
 rw[H] at g;simp only at g;cases p:b9 P e with
 | none=>rw[p] at g;cases g
 | some z=>
 rw[p] at g;simp only at g;cases G:contents h z x with
 | none=>rw[G] at g;cases g
 | some aC=>
 obtain⟨C,n⟩:=aC;rw[G] at g;simp only at g;have Q:=vU H;obtain⟨aL,K,aB,ai,I⟩:=qB (P:=P) rel G S;split at g
 ·simp only[bc,Prod.mk.injEq] at g;obtain⟨rfl,rfl⟩:=g;cases ad;have D:=I 0 (fR _) w (fun _=>rfl);refine⟨goInt (0:Nat),w,?_,.refl _ _ _,rel,.int _ _⟩;simp[Builtin.copy_,cc Q,K,eB p,D]
 ·rename_i aQ b q len cap aP;cases j:h.f b with
  | cells m cs=>
   rw[j] at g;simp only at g;split at g
   ·rename_i au;obtain⟨rfl,rfl⟩:=au;simp only[bc,Prod.mk.injEq] at g;obtain⟨rfl,rfl⟩:=g;cases ad with
    | gu _ _ _ _ a T am aq O=>
     have D:=I 0 (fR _) w (fun _=>rfl);have az:aw cs q []=cs:=by simp[aw]
     have aj:=rel.same (h':=h.set b (.cells m (aw cs q (C.take (min n 0*z))))) (by
      rw[dn,Nat.min_zero,ta,m9,az];funext x;simp only[bt];split
      ·rename_i S;rw[S,j]
      ·rfl) rfl
     refine⟨goInt (0:Nat),w,?_,aj.1,aj.2,by rw[Nat.min_zero];exact .int _ _⟩;simp[Builtin.copy_,cc Q,K,eB p,D,storeCells,Result.andThen]
    | fc _ _ _ _ _ _ ap a ax ar o=>
     exfalso;rcases o with o | ⟨aO,T,o,ag⟩
     ·rw[o] at j;cases j
     ·rw[o] at j;cases j;omega
    | Z _ _ _ _ _ _ ap T am aq O ax aJ ar=>
     have Y:=rel.blk b am O;rw[j] at Y;obtain⟨aG,aE,_⟩:=Y;have aH:min n len*z<=cap*z:=ck _ F;have aI:min n len*z<=n*z:=ck _ F;have ak:(C.take (min n len*z)).length=min n len*z:=by rw[cL];omega
     have ah:max m (q+(C.take (min n len*z)).length)=m:=by rw[ak];omega
     obtain⟨w',h1,W,X⟩:=sS (P:=P) rel (cvs:=C.take (min n len*z)) (vs:=aB.take (min n len*z)) (k:=q) j O F
      (by rw[cL,cL,ai.1]) (by rw[ah];omega) (fun al c J=>by
       have ag:al<min n len*z:=by have:=(aK.1 J).1;rwa [ak] at this
       rw[dS ag] at J ⊢;exact ai.2 al c J)
     rw[ah] at W X;have av:=I (min n len) F w (fun _=>rfl);refine⟨goInt (min n len:Nat),w',?_,W,X,.int _ _⟩;have ay:Nat.min n len=min n len:=rfl;simp[Builtin.copy_,cc Q,K,eB p,ay,av,h1]
   ·cases g
  | _=>rw[j] at g;cases g
 ·cases g
theorem Bz:∀ (cs:ag) (vs:List aD) (bs:List UInt8),jX cs=some bs->vs.length=cs.length->
  (∀ (j:Nat) (c:U),cs[j]?=some c->∃ v:aD,vs[j]?=some v/\v.oneCell'=true/\aA w R h muZ c v)->
  ∃ ns:List Int,vs=ns.map (Value.int .u8)/\bs=ns.map fun n=>UInt8.ofNat n.toNat
 | [],[],bs,g,_,_=>by
  simp only[jX,bc] at g;subst g;exact⟨[],rfl,rfl⟩
 | [],_::_,_,_,m,_=>by simp at m
 | _::_,[],_,_,m,_=>by simp at m
 | c::cs,v::vs,bs,g,m,p=>by
  obtain⟨C,q,_,B⟩:=p 0 c rfl;simp only[hn,bc] at q;subst q;cases B with
  | int k n=>
   cases k<;>simp only[jX] at g<;>try (cases g;done)
   cases o:jX cs with
   | none=>rw[o] at g;cases g
   | some t=>
    rw[o] at g;simp only[cz,bc] at g;subst g;obtain⟨ns,h1,u⟩:=Bz cs vs t o (by simpa using m) (fun j c z=>p (j+1) c (by simpa using z));exact⟨n::ns,by rw[h1];rfl,by rw[u];rfl⟩
  | _=>simp[jX] at g
theorem HC:∀ (ns:List Int) (s:ByteArray),(ns.foldl (fun r n=>r.push (UInt8.ofNat n.toNat)) s).data.toList=s.data.toList++ns.map fun n=>UInt8.ofNat n.toNat
 | [],s=>V
 | n::ns,s=>by
  rw[xI,HC ns];simp[ByteArray.push]
theorem Py (rel:bC R B w h muZ) {s d:aF} {x c:U} {D:aD} (g:rR P h s d x=some c) (q:aA w R h muZ x D) :
  ∃ v,(convert s d D).run P w=.ok v w/\aA w R h muZ c v:=by
 unfold rR at g;split at g
 ·rename_i W k ad n o m;cases g;cases q;exact⟨.int k (k.wrap n),by simp[convert,cc o,cc m,Conv.intToInt],.int _ _⟩
 ·rename_i ag o m;cases g;cases q with
  | str u=>exact⟨.string u,by simp[convert,cc o,cc m],.str _⟩
 ·rename_i e o m X;cases t:P.underlying e with
  | none=>rw[t] at g;cases g
  | some V=>
   rw[t] at g;split at g
   ·rename_i heq;simp only[bc] at heq g;subst heq g;cases q;refine⟨.string ByteArray.empty,by simp[convert,cc o,cc m,cc t,Conv.bytesToString],?_⟩;exact .str ByteArray.empty
   ·rename_i heq Y;cases heq;split at g
    ·cases g
    ·rename_i cs n K F;cases z:jX cs with
     | none=>rw[z] at g;cases g
     | some u=>
      rw[z] at g;simp only[cz,bc] at g;subst g;obtain⟨S,G,T,C,I⟩:=qB (P:=P) rel F q;have p:=I n (aN _) w (fun _=>rfl);obtain⟨j,rfl,rfl⟩:=Bz cs T u z C.1 C.2;have O:(j.map (Value.int .u8)).take (n*1)=j.map (Value.int .u8):=aH (by rw[C.1,S];exact aN _);rw[O] at p;have J:∃ a len cap,D=.slice a len cap:=by
       cases q<;>first | exact⟨_,_,_,rfl⟩ | (simp[contents] at F;done) | (exact bW rfl (K _))
      obtain⟨a,len,cap,rfl⟩:=J;simp only[Builtin.lenOf,Sem.run_pure,Result.ok.injEq] at G;obtain⟨rfl,_⟩:=G;have H:=HC j ByteArray.empty;refine⟨.string (j.foldl (fun r n=>r.push (UInt8.ofNat n.toNat)) ByteArray.empty),?_,?_⟩
      ·rw[run_convert_bytes_string w s d e a len cap o t m];cases a with
       | none=>
        simp only[Builtin.firstCells,Sem.run_pure,Result.ok.injEq] at p;have Q:j=[]:=by
         have:=ci Array.toList p.1;simpa using this.symm
        subst Q;simp[Conv.bytesToString]
       | some a=>
        simp only[Builtin.firstCells,n3] at p;exact run_bytesToString w a len cap j p
      ·have:(j.foldl (fun r n=>r.push (UInt8.ofNat n.toNat)) ByteArray.empty).data.toList=j.map fun n=>UInt8.ofNat n.toNat:=by rw[H];rfl
       rw[<-this];exact .str _
    ·cases g
   ·cases g
 ·cases g
theorem DK (rel:bC R B w h muZ) {w' : aT} (g:RowKit.Below w.heap.size w w') (t:w.drawn<=w'.drawn:=by first | exact aN _ | exact ry _) :cY w h muZ w' h muZ/\bC R B w' h muZ:=by
 have e:cY w h muZ w' h muZ:=⟨⟨g.os,g.tape,g.output,g.size,fun k hk _=>g.block k hk,fun _ v=>.inl v,fun b z cs p h1 m=>.inl ⟨cs,h1,m⟩,fun _ _ u=>u,fun _ _ _ h1 m=>⟨h1,m⟩,aN _,t⟩,fun _ _ j=>j⟩
 refine⟨e,fun b p j=>?_,rel.inj,rel.base,rel.fresh,rel.up,dC rel.size g.size,rel.iX⟩;cases o:live (h.f b) with
 | false=>cases q:h.f b<;>first | trivial | (rw[q] at o;cases o)
 | true=>exact (rel.blk b p j).ext e.toExt0 (g.block _ (rel.lt o j))
theorem OM (rel:bC R B w h muZ) {s d:aF} {x c:U} {t:aD} (m:tu P s d x=some c) (T:aA w R h muZ x t) :
  ∃ v w',(convert s d t).run P w=.ok v w'/\cY w h muZ w' h muZ/\bC R B w' h muZ/\aA w' R h muZ c v:=by
 unfold tu at m;split at m
 ·rename_i W e Y O D;split at m
  ·rename_i S;cases m;cases T with
   | str g=>
    have z:RowKit.Below w.heap.size w (Lib.bytesWorld w e g):=⟨rfl,rfl,rfl,by rw[Lib.bytesWorld_size];omega,fun k hk=>Lib.bytesWorld_at_old w e g k hk⟩
    obtain⟨h1,u⟩:=DK rel z;refine⟨_,_,Lib.run_convert_string_bytes w s d e g O D S,h1,u,?_⟩;have Q:g.data.toList.length=g.size:=V;have K:¬ Own h muZ w.heap.size:=by
     rintro⟨b,X,I,J,j⟩;have:=rel.lt I J;omega
    have C:g.size<=grownCap w g.size 0 e:=grownCap_ge w g.size 0 e;have:=aA.bu (w:=Lib.bytesWorld w e g) (R:=R) (h:=h) (muZ:=muZ) 1 (g.data.toList.map fun b=>[hs b]) w.heap.size 0 (grownCap w g.size 0 e) (fun i _=>.int .u8 (g.data.toList.getD i 0).toNat)
     (by simpa using C) (fun e j=>by obtain⟨b,_,rfl⟩:=cC.1 j;rfl)
     (fun i p G o=>by
      have H:i<g.size:=by simpa using G
      have:p=0:=F;subst this;exact⟨by simpa using Lib.bytesWorld_cell w e g i H,rfl,rel.up _ rel.size,K⟩)
     (fun i e j p c o=>by
      rw[b1] at j;cases q:g.data.toList[i]? with
      | none=>rw[q] at j;cases j
      | some b=>
       rw[q] at j;simp only[cz,bc] at j;subst j;cases p with
       | zero=>
        simp only[hn,bc] at o;subst o;have:g.data.toList.getD i 0=b:=by simp[List.getD,q]
        rw[this];exact .int _ _
       | succ p=>simp at o)
    rw[cg,Q] at this;exact this
  ·cases m
 ·cases m
theorem OY {t ty:aF} {x c:U} {m:aD} (g:tx P t x=some c) (o:aA w R h muZ x m) :∃ v,(Builtin.cap_ #[t] ty #[m]).run P w=.ok v w/\aA w R h muZ c v:=by
 unfold tx at g;split at g<;>(try (simp only[bc] at g;subst g))
 ·rename_i n e j;exact⟨goInt n,by simp[Builtin.cap_,cc j],.int _ _⟩
 ·rename_i e j;cases o;exact⟨goInt (0:Nat),by simp[Builtin.cap_,cc j],.int _ _⟩
 ·cases g
theorem Pc (rel:bC R B w h muZ) {t ty:aF} {x:U} {V:aD} {h' : aM} (g:tB P h t x=some h') (z:aA w R h muZ x V) :
  ∃ w',(Builtin.clear_ #[t] ty #[V]).run P w=.ok (.tuple #[]) w'/\cY w h muZ w' h' muZ/\bC R B w' h' muZ:=by
 unfold tB at g;split at g
 ·rename_i e o;cases g;cases z;exact⟨w,by simp[Builtin.clear_,cc o],.refl _ _ _,rel⟩
 ·rename_i e ar o;cases g;cases z<;>exact⟨w,by simp[Builtin.clear_,cc o],.refl _ _ _,rel⟩
 ·rename_i e ar b T len cap aE o;split at g
  ·rename_i v;cases g;subst v;cases z<;>exact⟨w,by simp[Builtin.clear_,cc o],.refl _ _ _,rel⟩
  ·rename_i v;split at g
   ·rename_i zero m cs am j;split at g
    ·rename_i ai;obtain⟨rfl,rfl⟩:=ai;cases g;cases z with
     | gu=>exact bW rfl v
     | fc _ _ _ _ _ _ ad a H ah p=>
      exfalso;rcases p with p | ⟨aC,ag,p,ax⟩
      ·rw[p] at j;cases j
      ·rw[p] at j;cases j;omega
     | Z _ _ _ _ _ _ ad ag aq av J H az ah=>
      have G:=rel.blk b aq J;rw[j] at G;obtain⟨aw,au,_⟩:=G;obtain⟨q,al,O⟩:=rk (P:=P) (w:=w) (R:=R) (h:=h) (muZ:=muZ) am;have ak:=zT O len;have ay:len*zero.length<=cap*zero.length:=ck _ H;have Q:(c3 zero len).length=len*zero.length:=sx len;have K:max m (T+(c3 zero len).length)=m:=by rw[Q];omega
      have ao:q.cells.size=zero.length:=O.1;have S:(Builtin.zeroCells q.cells len)=(Array.range (len*zero.length)).map (q.cells[· % q.cells.size]!):=by
       unfold Builtin.zeroCells;rw[ao]
      obtain⟨w',h1,C,D⟩:=sS (P:=P) rel (cvs:=c3 zero len) (vs:=(Builtin.zeroCells q.cells len).toList) (k:=T) j J F
       (by rw[S,Q];simp) (by rw[K];omega) (fun ap c aj=>by
        rw[S];obtain⟨u,W,X,Y⟩:=ak.2 ap c aj;exact⟨u,by rw[p5];exact W,X,Y⟩)
      rw[K] at C D;refine⟨w',?_,C,D⟩;cases I:len with
      | zero=>exact bW I v
      | succ aB=>
       rw[I] at h1;simp[Builtin.clear_,cc o,al,h1]
    ·cases g
   ·cases g
 ·cases g
theorem Oc (rel:bC R B w h muZ) {t u ty:aF} {k:cV} {s x c:U} {jn ar:aD} {h' : aM} (J:P.underlying u=some (.int k)) (m:vw P h t s x=some (c,h')) (aL:aA w R h muZ s jn) (aR:aA w R h muZ x ar) :
  ∃ v w' muZ',(Builtin.append_ #[t,u] ty #[jn,ar]).run P w=.ok v w'/\cY w h muZ w' h' muZ'/\bC R B w' h' muZ'/\aA w' R h' muZ' c v:=by
 unfold vw at m;split at m
 ·rename_i e n aB aE;have I:=vU aB;obtain⟨aW,rfl⟩:=oi aE aR;split at m
  ·rename_i z by_ zero o ah ao;split at m
   ·rename_i az;obtain⟨ap,aZ,a0,aJ⟩:=az;obtain⟨i,zv,g,ag,aU,_⟩:=MB (P:=P) (w:=w) (R:=R) (h:=h) (muZ:=muZ) ao;have aO:i.size=z:=by simpa [b9,g] using o
    have q:i.bytes=by_:=by simpa [gM,g] using ah
    have K:IntKind.i64.wrap n=n:=by
     simp[IntKind.wrap,IntKind.bits,IntKind.signed];omega
    have aH:(n.toNat:Int)=n:=F;have H:¬ (n<0):=F;have aX:¬ (2 ^ 48<n*(by_:Int)):=by
     have h1:((n.toNat*by_:Nat) :Int)=n*by_:=by rw[Int.natCast_mul,aH]
     have ax:((n.toNat*by_:Nat) :Int)<=((140737488355328:Nat) :Int):=Int.ofNat_le.2 aJ;rw[h1] at ax;omega
    have al:ja w R h muZ (c3 zero n.toNat) (Builtin.zeroCells zv.cells n.toNat):=by
     obtain⟨v,aP,O⟩:=rk (P:=P) (w:=w) (R:=R) (h:=h) (muZ:=muZ) ao;have aQ:v=zv:=by
      have:=aP w;simp[zeroValue,typeInfo,g,ag] at this;exact this.symm
     subst aQ;have aK:=zT O n.toNat
     have aS:(Builtin.zeroCells v.cells n.toNat)=(Array.range (n.toNat*zero.length)).map (v.cells[· % v.cells.size]!):=by
      unfold Builtin.zeroCells;rw[O.1]
     rw[aS];exact aK
    have aI:(c3 zero n.toNat).length=n.toNat*z:=by rw[sx,ap]
    have G:∀ w2:aT,(Go.asInt (.int aW n)).run P w2=.ok n w2:=fun w2=>rfl
    have D:¬ (281474976710656<n*(by_:Int)):=F;have S:∀ w2:aT,(zeroValue e).run P w2=.ok zv w2:=fun w2=>by simp[zeroValue,typeInfo,g,ag]
    have am:n.toNat*z=0->Builtin.zeroCells zv.cells n.toNat=#[]:=fun j=>by
     apply AE;unfold Builtin.zeroCells;simp[aU,ap,j]
    refine FV rel o ah m aL aI (vs:=(Builtin.zeroCells zv.cells n.toNat).toList) ⟨by simpa using al.1,fun aV c aG=>by
     obtain⟨v,au,av,aw⟩:=al.2 aV c aG;exact⟨v,by rw[p5];exact au,av,aw⟩⟩ (fun base p W w' Q C=>?_) (fun a2 a3 ai aq base p W T ad aC O ay=>?_)
    ·by_cases j:n.toNat*z=0
     ·rw[am j] at C;cases base with
      | none=>
       subst C;simp[Builtin.append_,G,cc I,cc J,eB o,K,H,typeInfo,g,q,Q,D,j]
      | some a=>
       simp only at C;simp[Builtin.append_,G,cc I,cc J,eB o,K,H,typeInfo,g,q,Q,D,j,C]
     ·cases base with
      | none=>
       subst C;simp[Builtin.append_,G,cc I,cc J,eB o,K,H,typeInfo,g,q,Q,D,S]
      | some a=>
       simp only at C;simp[Builtin.append_,G,cc I,cc J,eB o,K,H,typeInfo,g,q,Q,D,j,S,C]
    ·rw[g] at ai;cases ai;rw[ag] at aq;cases aq;have X:¬ (281474976710656<Builtin.nextslicecap (p+n.toNat) W*i.bytes):=by
      have:=growslice_fits (need:=p+n.toNat) (old:=W) (bytes:=i.bytes) aC O;omega
     have ak:¬ (p+n.toNat<=W):=F;have aY:¬ ((9223372036854775807:Int)<((p+n.toNat:Nat) :Int)):=by
      have h1:(p+n.toNat)*1<=(p+n.toNat)*i.bytes:=Nat.mul_le_mul_left _ ay;unfold dk at O;omega
     have aj:¬ ((9223372036854775807:Int)<(p:Int)+max n 0):=F;rw[aO] at ad;rw[q] at X;by_cases j:n.toNat*z=0
     ·have Y:(T++(Builtin.zeroCells zv.cells n.toNat).toList).toArray=T.toArray:=by rw[am j];simp
      rw[Y];simp[Builtin.append_,G,cc I,cc J,eB o,K,H,typeInfo,g,q,ak,D,aj,X,j,S,ad,Question.forced,newRow,grownCap]
     ·have Y:(T++(Builtin.zeroCells zv.cells n.toNat).toList).toArray=T.toArray++Builtin.zeroCells zv.cells n.toNat:=V;rw[Y];simp[Builtin.append_,G,cc I,cc J,eB o,K,H,typeInfo,g,q,ak,D,aj,X,j,S,ad,Question.forced,newRow,grownCap]
   ·cases m
  ·cases m
 ·cases m
end
section
variable {P:bq} {w:aT} {R:Nat->Prop} {B:Nat} {h:aM} {muZ:b3}
theorem Oo {op:BinOp} {t:aF} {k k' : cV} {a b:Int} {c:U} (g:cx op k a k' b=some c) :
  ∃ v,(binOp op t (.int k a) (.int k' b)).run P w=.ok v w/\aA w R h muZ c v:=by
 cases op
 case shl=>
  simp only[cx] at g;split at g
  ·cases g
  ·rename_i j;cases g;exact⟨_,by simp[binOp,Op.shift,j],.int _ _⟩
 case shr=>
  simp only[cx] at g;split at g
  ·cases g
  ·rename_i j;cases g;exact⟨_,by simp[binOp,Op.shift,j],.int _ _⟩
 case quo=>
  simp only[cx] at g;split at g
  ·rename_i j;obtain⟨rfl,j⟩:=j;cases g;exact⟨_,by simp[binOp,Op.intDiv,j],.int _ _⟩
  ·cases g
 case rem=>
  simp only[cx] at g;split at g
  ·rename_i j;obtain⟨rfl,j⟩:=j;cases g;exact⟨_,by simp[binOp,Op.intDiv,j],.int _ _⟩
  ·cases g
 all_goals
  simp only[cx] at g;split at g
  ·rename_i hk;subst hk;cases g
   first
    | (refine⟨_,?_,.int _ _⟩;unfold binOp;simp only[ne_eq,not_true_eq_false,if_false];rfl)
    | (refine⟨_,?_,.bool _⟩;unfold binOp;simp only[ne_eq,not_true_eq_false,if_false];rfl)
  ·cases g
theorem toList_eq (s:ByteArray) :s.toList=s.data.toList:=by rw[ByteArray.toList_eq]
theorem Oq {op:BinOp} {t:aF} {a b:ByteArray} {c:U} (g:tl op a.data.toList b.data.toList=some c) :
  ∃ v,(binOp op t (.string a) (.string b)).run P w=.ok v w/\aA w R h muZ c v:=by
 cases op<;>simp only[tl] at g<;>try (cases g;done)
 case add=>
  split at g
  ·rename_i o;cases g;have h1:a.data.toList.length=a.size:=V;have j:b.data.toList.length=b.size:=V;rw[h1,j] at o;have p:¬ ((9223372036854775807:Int)<(a.size:Int)+(b.size:Int)):=F;have m:(a++b).data.toList=a.data.toList++b.data.toList:=V;refine⟨.string (a++b),by simp[binOp,Op.stringOp,p],?_⟩;rw[<-m];exact .str _
  ·cases g
 all_goals
  cases g;exact⟨_,by simp[binOp,Op.stringOp,toList_eq],.bool _⟩
theorem Qo {d:Nat} {t:aF} {a b:Bool} (g:P.underlying t=some .bool) :(Op.equalIn (d+1) t (.bool a) (.bool b)).run P w=.ok (a == b) w:=by simp[Op.equalIn,cc g]
theorem Qp {d:Nat} {t:aF} {h k:cV} {a b:Int} (g:P.underlying t=some (.int h)) :(Op.equalIn (d+1) t (.int k a) (.int k b)).run P w=.ok (a == b) w:=by simp[Op.equalIn,cc g]
theorem Qq {d:Nat} {t:aF} {a b:ByteArray} (g:P.underlying t=some .string) :(Op.equalIn (d+1) t (.string a) (.string b)).run P w=.ok (a.data.toList == b.data.toList) w:=by simp[Op.equalIn,cc g,toList_eq,beq_toListBytes]
theorem B0 {d:Nat} {t e:aF} {x y l c:Nat} {b:Option Addr} (g:P.underlying t=some (.slice e)) :(Op.equalIn (d+1) t (.slice none x y) (.slice b l c)).run P w=.ok b.isNone w:=by simp[Op.equalIn,cc g]
theorem Hh {d:Nat} {t e:aF} {x y l c:Nat} {a:Addr} (g:P.underlying t=some (.slice e)) :(Op.equalIn (d+1) t (.slice (some a) l c) (.slice none x y)).run P w=.ok false w:=by simp[Op.equalIn,cc g]
theorem BW {d:Nat} {xs G:ag} {C F:Array aD}
  (m:∀ (t:aF) (x y:U) (b:Bool) (D H:aD),dL P d t x y=some b->aA w R h muZ x D->aA w R h muZ y H->(Op.equalIn d t D H).run P w=.ok b w)
  (o:ja w R h muZ xs C) (p:ja w R h muZ G F) :∀ (l:List Field) (b:Bool),dL.eqFields P (dL P d) xs G l=some b->(Op.eqFields d C F l).run P w=.ok b w
 | [],b,g=>by simp only[dL.eqFields,bc] at g;subst g;simp[Op.eqFields]
 | f::l,b,g=>by
  unfold dL.eqFields at g;unfold Op.eqFields;by_cases j:f.name= "_"
  ·rw[ak j] at g;simp[j,BW m o p l b g]
  ·rw[aj j] at g;split at g
   ·rename_i a c I J;obtain⟨z,h1,q⟩:=qW (P:=P) I o;obtain⟨B,u,v⟩:=qW (P:=P) J p;split at g
    ·rename_i heq;have:=m f.type a c true z B heq q v;simp[j,h1,u,this,BW m o p l b g]
    ·rename_i heq;have:=m f.type a c false z B heq q v;cases g;simp[j,h1,u,this]
    ·cases g
   ·cases g
theorem Hd {d z:Nat} {e:aF} {xs J:ag} {G I:Array aD}
  (u:∀ (t:aF) (x y:U) (b:Bool) (H K:aD),dL P d t x y=some b->aA w R h muZ x H->aA w R h muZ y K->(Op.equalIn d t H K).run P w=.ok b w)
  (D:ja w R h muZ xs G) (F:ja w R h muZ J I) (f:Nat->Option Bool × Unit->Sem (ForInStep (Option Bool × Unit)))
  (o:∀ (i:Nat) (j m:aD) (b:Bool) (r:Option Bool × Unit),(part e G (i*z)).run P w=.ok j w->(part e I (i*z)).run P w=.ok m w->(Op.equalIn d e j m).run P w=.ok b w->
   (f i r).run P w=.ok (if b then .yield (none,()) else .done (some false,())) w) :
  ∀ (n i:Nat) (b:Bool),dL.oy P (dL P d) e z xs J n i=some b->(forIn (List.range' i n) (none,()) f).run P w=.ok (if b then (none,()) else (some false,())) w
 | 0,i,b,g=>by
  simp only[dL.oy,bc] at g;subst g;simp
 | n+1,i,b,g=>by
  unfold dL.oy at g;split at g
  ·rename_i a c O Q;obtain⟨j,h1,v⟩:=qW (P:=P) O D;obtain⟨m,B,C⟩:=qW (P:=P) Q F;rw[List.range'_succ,List.forIn_cons];split at g
   ·rename_i heq;have q:=u e a c true j m heq v C;have p:=o i j m true (none,()) (h1 w) (B w) q;simp only[Sem.run_bind,p,if_true,Result.andThen_ok];exact Hd u D F f o n (i+1) b g
   ·rename_i heq;have q:=u e a c false j m heq v C;have p:=o i j m false (none,()) (h1 w) (B w) q;cases g;simp[p]
   ·cases g
  ·cases g
theorem run_equalIn_array {d n z:Nat} {t e:aF} {j m:Array aD} (u:P.underlying t=some (.array n e)) (v:b9 P e=some z) {b:Bool}
  (hk:∀ f:Nat->Option Bool × Unit->Sem (ForInStep (Option Bool × Unit)),
   (∀ (i:Nat) (g h:aD) (b:Bool) (r:Option Bool × Unit),(part e j (i*z)).run P w=.ok g w->(part e m (i*z)).run P w=.ok h w->(Op.equalIn d e g h).run P w=.ok b w->(f i r).run P w=.ok (if b then .yield (none,()) else .done (some false,())) w)->
   (forIn (List.range' 0 n) (none,()) f).run P w=.ok (if b then (none,()) else (some false,())) w) :
  (Op.equalIn (d+1) t (.agg j) (.agg m)).run P w=.ok b w:=by
 simp only[Op.equalIn,Sem.run_bind,cc u,Result.andThen_ok,eB v];rw[Std.Legacy.Range.forIn_eq_forIn_range'];have q:List.range' ([:n] :Std.Legacy.Range).start ([:n] :Std.Legacy.Range).size ([:n] :Std.Legacy.Range).step=List.range' 0 n:=by simp[Std.Legacy.Range.size]
 rw[q,hk]
 ·cases b<;>simp
 ·intro i g h b r h1 o p;cases b<;>simp[h1,o,p]
theorem BX:∀ (d:Nat) (t:aF) (x y:U) (b:Bool) (q u:aD),dL P d t x y=some b->aA w R h muZ x q->aA w R h muZ y u->
  (Op.equalIn d t q u).run P w=.ok b w:=by
 intro d
 induction d with
 | zero=>intro t x y b q u g;simp[dL] at g
 | succ d F=>
  intro t x y b q u g m o;unfold dL at g;split at g
  ·rename_i a p j;cases g;cases m;cases o;exact Qo j
  ·rename_i X k a W p j;split at g
   ·rename_i hk;subst hk;cases g;cases m;cases o;exact Qp j
   ·cases g
  ·rename_i a p j;cases g;cases m;cases o;exact Qq j
  ·rename_i fs T V j;split at g
   ·cases g
   ·rename_i K;obtain⟨G,rfl,z⟩:=qn m;obtain⟨H,rfl,B⟩:=qn o;have O:P.stoodInHeld t=false:=by simpa using K
    have D:P.fieldsOf t=fs:=by simp[Program.fieldsOf,j]
    rw[run_equalIn_struct w d t G H (by rw[D];exact j) O,D];exact BW F z B _ _ g
  ·rename_i n e T V j;cases C:b9 P e with
   | none=>rw[C] at g;cases g
   | some v=>
    rw[C] at g;simp only at g;obtain⟨G,rfl,z⟩:=qn m;obtain⟨H,rfl,B⟩:=qn o;exact run_equalIn_array j C (fun f J=>Hd F z B f J n 0 b g)
  ·rename_i e j;cases g;cases m;cases o;exact B0 j
  ·rename_i e v p Q len cap S j;cases g;cases m;cases o<;>exact B0 j
  ·rename_i e v I j;cases g;cases m;cases o<;>exact B0 j
  ·rename_i e v p Q len cap S j;cases g;cases o;cases m<;>exact Hh j
  ·rename_i e v I j;cases g;cases o;cases m<;>exact Hh j
  ·cases g
end
section
variable {P:bq} {w:aT} {R:Nat->Prop} {B:Nat} {h:aM} {muZ:b3}
def pX:U->aD
 | .bool b=>.bool b
 | .int k n=>.int k n
 | .str s=>.string ⟨s.toArray⟩
 | _=>.tuple #[]
def sK:U->aD
 | .af cs=>.agg (cs.map pX).toArray
 | c=>pX c
theorem UF {c:U} {v:aD} (m:qX c=true) (g:aA w R h muZ c v) :v=pX c:=by
 cases c<;>simp[qX] at m
 ·cases g;rfl
 ·cases g;rfl
 ·cases g;rename_i j;show Value.string j=.string ⟨j.data.toList.toArray⟩;congr 1
theorem yX {t:aF} {c:U} (g:kK P t c=true) :∃ cs m,c=.af cs/\pC P 8 t=true/\dE P t=some true/\b9 P t=some m/\cs.length=m/\∀ x∈cs,qX x=true:=by
 unfold kK at g;split at g
 ·rename_i cs;simp only[bU] at g;obtain⟨⟨h1,h⟩,j⟩:=g;split at h
  ·rename_i m o p;exact⟨cs,m,rfl,h1,o,p,mo h,fun x q=>gc.1 j x q⟩
  ·cases h
 ·cases g
theorem CE {t:aF} {c:U} {v:aD} (p:kK P t c=true) (m:aA w R h muZ c v) :v=sK c:=by
 obtain⟨cs,C,rfl,_,_,_,_,hint⟩:=yX p;cases m with
 | af _ o q h1 m=>
  show Value.agg o=.agg (cs.map pX).toArray;congr 1;apply Array.ext_getElem?;intro g;have z:(cs.map pX).toArray[g]?=(cs[g]?).map pX:=V;rw[z];cases j:cs[g]? with
  | none=>simp only[Option.map_none];rw[p4];rw[q];exact E7.1 j
  | some c=>
   have B:=(aK.1 j).1;have u:=m g c o[g] j (rl F);rw[rl F];simp only[cz,bc];exact UF (hint c (cJ j)) u
theorem ON (a:ByteArray) :(a == a)=true:=by show (a.data == a.data)=true;exact beq_self_eq_true _
theorem Wz {c:U} (n:Nat) (g:qX c=true) :Instr.sameBits n (pX c) (pX c)=true:=by
 cases c<;>simp[qX] at g<;>unfold pX Instr.sameBits
 ·simp
 ·simp
 ·exact ON _
theorem Wy {t:aF} {c:U} (n:Nat) (o:kK P t c=true) :Instr.sameBits (n+1) (sK c) (sK c)=true:=by obtain⟨cs,q,rfl,_,_,_,_,hint⟩:=yX o;unfold sK Instr.sameBits;simp only[beq_self_eq_true,lF,gc];rintro⟨x,y⟩ j;rw[cq] at j;obtain⟨p,h⟩:=j;rw[s3] at h;obtain⟨h1,g⟩:=h;rw[h1] at g;cases g;simp only[b1,Fs] at h1;obtain⟨c,m,rfl⟩:=h1;exact Wz n (hint c (cJ m))
theorem Wt {t:aF} {c:U} (g:kK P t c=true) :(Instr.keyThatStays (sK c) (sK c)).run P w=.ok (sK c) w:=by unfold Instr.keyThatStays;rw[ak (Wy 9999 g)];simp
theorem B9 {alZ:Type} {f:alZ->PUnit->Sem (ForInStep PUnit)}:∀ (l:List alZ),(∀ x∈l,(f x ⟨⟩).run P w=.ok (.yield ⟨⟩) w)->(forIn l ⟨⟩ f).run P w=.ok ⟨⟩ w
 | [],_=>V
 | x::l,g=>by
  rw[List.forIn_cons];simp only[Sem.run_bind,g x V,Result.andThen_ok];exact B9 l (fun y h=>g y (by simp[h]))
theorem D0 (em:Bool) :∀ (d n:Nat) (t:aF) (c:U) (v:aD),d<=n->pC P d t=true->aA w R h muZ c v->(dE P t=some true->∃ cs m,c=.af cs/\b9 P t=some m/\cs.length=m)->
  (Instr.checkKey em n t v).run P w=.ok () w
 | 0,_,_,_,_,_,hk,_,_=>by simp[pC] at hk
 | d+1,0,_,_,_,al,_,_,_=>F
 | d+1,n+1,t,c,v,al,hk,X,T=>by
  unfold pC at hk;split at hk
  ·rename_i j;cases v<;>simp[Instr.checkKey,cc j]
  ·rename_i j;cases v<;>simp[Instr.checkKey,cc j]
  ·rename_i j;cases v<;>simp[Instr.checkKey,cc j]
  ·rename_i len e m j O;have G:dE P t=some true:=by unfold dE;rw[j];rfl
   obtain⟨cs,o,rfl,q,ai⟩:=T G;rw[O] at q;cases q;simp only[bU] at hk;obtain⟨K,g⟩:=hk;split at g
   ·rename_i z a B H;simp only[bU] at g;have aj:=xO g.1;have am:=xO g.2;obtain⟨ao,rfl,S⟩:=qn X;unfold Instr.checkKey;simp only[Sem.run_bind,cc j,Result.andThen_ok];rw[Std.Legacy.Range.forIn_eq_forIn_range'];rw[B9]
    ·simp
    intro i ad;have ag:i<len:=by simp[Std.Legacy.Range.size] at ad;omega
    have ah:i*z+z<=cs.length:=by
     have:i*z+z<=len*z:=by rw[<-ek];exact ck _ ag
     omega
    have Q:∃ c,go P e cs (i*z)=some c/\(dE P e=some true->∃ p o,c=.af p/\b9 P e=some o/\p.length=o):=by
     unfold go;rw[H,B];cases a with
     | true=>exact⟨_,by simp only;rw[ak ah],fun _=>⟨_,z,rfl,rfl,by simp;omega⟩⟩
     | false=>exact⟨cs[i*z]'F,by simp only;exact bK F,fun h=>by cases h⟩
    obtain⟨c,I,J⟩:=Q;obtain⟨u,C,D⟩:=qW (P:=P) I S;simp only[Sem.run_bind,eB B,Result.andThen_ok,C w];rw[D0 em d n e c u F K D J];simp
   ·cases g
  ·rename_i ap m j O;have G:dE P t=some true:=by unfold dE;rw[j];rfl
   obtain⟨cs,o,rfl,q,ai⟩:=T G;rw[O] at q;cases q;obtain⟨ao,rfl,S⟩:=qn X;unfold Instr.checkKey;simp only[Sem.run_bind,cc j,Result.andThen_ok];rw[<-Array.forIn_toList,B9]
   ·simp
   intro f Y;have V:=gc.1 hk f Y;simp only[bU] at V;obtain⟨K,g⟩:=V;split at g
   ·rename_i z a B H;simp only[bU] at g;have aj:=xO g.1;have am:=xO g.2;have Q:∃ c,go P f.type cs f.offset=some c/\(dE P f.type=some true->∃ p o,c=.af p/\b9 P f.type=some o/\p.length=o):=by
     unfold go;rw[H,B];cases a with
     | true=>exact⟨_,by simp only;rw[ak F],fun _=>⟨_,z,rfl,rfl,by simp;omega⟩⟩
     | false=>exact⟨cs[f.offset]'F,by simp only;exact bK F,fun h=>by cases h⟩
    obtain⟨c,I,J⟩:=Q;obtain⟨u,C,D⟩:=qW (P:=P) I S;have:=D0 em d n f.type c u F K D J;by_cases W:f.name= "_"
    ·simp[W]
    ·simp[W,C w,this]
   ·cases g
  ·cases hk
theorem KK {t:aF} {c:U} {v:aD} (em:Bool) (m:kK P t c=true) (o:aA w R h muZ c v) :(Instr.checkKey em 10000 t v).run P w=.ok () w:=by obtain⟨cs,p,rfl,h1,q,g,j,_⟩:=yX m;exact D0 em 8 10000 t _ v F h1 o (fun _=>⟨cs,p,rfl,g,j⟩)
def pa (w:aT) (R:Nat->Prop) (h:aM) (muZ:b3) (es:List (U × U × Nat)) (g:List k5) :Prop:=
 g.length=es.length/\∀ (j:Nat) (k m:U) (b:Nat),es[j]?=some (k,m,b)->∃ x:k5,g[j]?=some x/\aA w R h muZ k x.key/\aA w R h muZ m x.val/\x.born=b
def Fw (w:aT) (R:Nat->Prop) (h:aM) (muZ:b3) (k:U) (m:List k5) (i:Nat) :Option (Nat × U)->Option (Nat × aD)->Prop
 | none,r=>r=none
 | some (g,o),r=>∃ j,r=some (g,j)/\aA w R h muZ o j/\i<=g/\∃ x,m[g - i]?=some x/\x.val=j/\aA w R h muZ k x.key
theorem Qg {es:List (U × U × Nat)} {e:U × U × Nat} {x:k5} {vW:List k5} (g:pa w R h muZ (e::es) (x::vW)) :pa w R h muZ es vW:=
 ⟨by have:=g.1;simp at this;exact this,fun m k o b j=>g.2 (m+1) k o b (by simpa using j)⟩
theorem Qf {es:List (U × U × Nat)} {k v:U} {b:Nat} {x:k5} {g:List k5} (m:pa w R h muZ ((k,v,b) ::es) (x::g)) :aA w R h muZ k x.key/\aA w R h muZ v x.val/\x.born=b:=by obtain⟨y,h1,j⟩:=m.2 0 k v b rfl;simp at h1;subst h1;exact j
theorem Hp {o:aF} {k:U} {p:aD} (hk:aA w R h muZ k p) :∀ (es:List (U × U × Nat)) (j:List k5) (i:Nat) (r:Option (Nat × U)),pa w R h muZ es j->j3 P o k es i=some r->
  ∃ q,(Instr.findAsking o p j i).run P w=.ok q w/\Fw w R h muZ k j i r q
 | [],j,i,r,m,g=>by
  have:j=[]:=hp.1 m.1;subst this;simp only[j3,bc] at g;subst g;exact⟨none,by simp[Instr.findAsking],rfl⟩
 | (u,O,b) ::es,[],i,r,m,g=>by have:=m.1;simp at this
 | (u,O,b) ::es,x::j,i,r,m,g=>by
  obtain⟨h1,D,S⟩:=Qf m;simp only[j3] at g;split at g
  ·cases g
  rename_i W;split at g
  ·rename_i heq;split at g
   ·rename_i K;cases g;have t:=BX (P:=P) 10000 o k u true p x.key heq hk h1;refine⟨some (i,x.val),?_,x.val,rfl,D,aN _,x,V,rfl,?_⟩
    ·simp only[Instr.findAsking,Op.equal,Op.maxDepth,Sem.run_bind];rw[t];simp
    ·rw[U.beq_eq K];exact h1
   ·cases g
  ·rename_i heq;have t:=BX (P:=P) 10000 o k u false p x.key heq hk h1;obtain⟨q,G,v⟩:=Hp hk es j (i+1) r (Qg m) g;refine⟨q,?_,?_⟩
   ·simp only[Instr.findAsking,Op.equal,Op.maxDepth,Sem.run_bind];rw[t];simpa using G
   ·cases r with
    | none=>exact v
    | some z=>
     obtain⟨Q,H,I,T,y,J,B,C⟩:=v;exact⟨Q,H,I,F,y,by rw[show z.1 - i=(z.1 - (i+1))+1 by omega];simpa using J,B,C⟩
  ·cases g
theorem KM {m:aF} {k:U} {p:aD} (hk:aA w R h muZ k p) (t:kK P m k=true) {es:List (U × U × Nat)} {g:List k5} {r:Option (Nat × U)} (z:pa w R h muZ es g) (u:j3 P m k es 0=some r) :
  ∃ oQ,(Instr.findKey m p g).run P w=.ok oQ w/\Fw w R h muZ k g 0 r oQ:=by
 obtain⟨oQ,h1,q⟩:=Hp hk es g 0 r z u;refine⟨oQ,?_,q⟩;obtain⟨cs,C,rfl,B,j,_⟩:=yX t;unfold dE at j;cases o:P.underlying m with
 | none=>rw[o] at j;cases j
 | some d=>
  rw[o] at j;unfold Instr.findKey;simp only[Sem.run_bind,cc o,Result.andThen_ok];cases g with
  | nil=>simpa [Instr.findNow,Instr.findAsking] using h1
  | cons x g=>
   have v:Instr.findNow d p (x::g) 0=none:=by
    cases d<;>simp at j<;>simp[Instr.findNow,Instr.sameNow]
   rw[v];exact h1
theorem SL (rel:bC R B w h muZ) {m:U} {dW:aD} {es:List (U × U × Nat)} (j:wz h m=some es) (u:aA w R h muZ m dW) :
  (dW=.map none/\es=[])\/∃ b g o p,m=.mp b/\h.f b=.map es o/\muZ b=some g/\dW=.map (some g.r)/\w.heap[g.r]?=some (.map p o)/\pa w R h muZ es p.toList:=by
 cases m<;>simp[wz] at j
 ·subst j;cases u;exact .inl ⟨rfl,rfl⟩
 ·rename_i b;cases u with
  | mp _ g K t=>
   cases q:h.f b<;>rw[q] at j<;>simp at j;rename_i J o;subst j;have hblk:=rel.blk b g t;rw[q] at hblk;obtain⟨p,h1,z,C⟩:=hblk;refine .inr ⟨b,g,o,p,rfl,q,t,rfl,h1,by simpa using z,fun H k I v G=>?_⟩;obtain⟨x,D,F⟩:=C H k I v G;exact⟨x,by simpa using D,F⟩
theorem D1 {r:Nat} {es:Array k5} {g:Nat} (h:w.heap[r]?=some (.map es g)) :(getObj r).run P w=.ok (.map es g) w:=by simp[getObj,Sem.run,h]
theorem KN {r:Nat} {s:ByteArray} {pos:Nat} (g:w.heap[r]?=some (.stringIter s pos)) :(getObj r).run P w=.ok (.stringIter s pos) w:=by simp[getObj,Sem.run,g]
theorem MA {t:aF} {z:U} (g:sX P t=some z) :∃ v,(zeroValue t).run P w=.ok v w/\aA w R h muZ z v:=by
 unfold sX at g;cases j:P.info? t with
 | none=>rw[j] at g;cases g
 | some i=>
  rw[j] at g;simp only[qc] at g;cases m:i.zero with
  | none=>rw[m] at g;cases g
  | some v=>
   rw[m] at g;simp only[cz,bc] at g;subst g;exact⟨v,KS j m,.qS v⟩
theorem aA.LU {a b:U} {o p:aD} (q:aA w R h muZ a o) (t:aA w R h muZ b p) :aA w R h muZ (.a1 [a,b]) (.tuple #[o,p]):=by
 refine .a1 _ _ rfl fun m c u g j=>?_
 rcases m with _ | _ | m
 ·simp at g j;subst g j;exact q
 ·simp at g j;subst g j;exact t
 ·simp at g
theorem Sw (rel:bC R B w h muZ) {t:aF} {m k c:U} {dW p:aD} {ok:Bool} (g:y2 P h t m k ok=some c) (o:aA w R h muZ m dW) (hk:aA w R h muZ k p) :
  ∃ v,(Instr.lookup t dW p ok).run P w=.ok v w/\aA w R h muZ c v:=by
 unfold y2 at g;split at g
 ·rename_i u D O ag am;split at g
  ·cases g
  ·rename_i ad;have ai:∀ j:List k5,pa w R h muZ O j->∃ z,(Instr.findKey u p j).run P w=.ok z w ∧
     ((∃ i v,z=some (i,v)/\∃ G,aA w R h muZ G v/\c=if ok then .a1 [G,.bool true] else G)\/(z=none/\∃ q,sX P D=some q/\c=if ok then .a1 [q,.bool false] else q)):=by
    intro j F;cases T:j3 P u k O 0 with
    | none=>rw[T] at g;cases g
    | some r=>
     obtain⟨z,h1,H⟩:=KM hk ad F T;rw[T] at g;refine⟨z,h1,?_⟩;cases r with
     | none=>
      cases H;simp only at g;cases ah:sX P D with
      | none=>rw[ah] at g;cases g
      | some q=>
       rw[ah] at g;simp only[cz,bc] at g;exact .inr ⟨rfl,q,rfl,g.symm⟩
     | some av=>
      obtain⟨ao,rfl,Q,_⟩:=H;simp only[bc] at g;exact .inl ⟨_,ao,rfl,_,Q,g.symm⟩
   have X:∀ (j:List k5) (em:Bool),pa w R h muZ O j->∀ m:Sem aD,m.run P w=(((Instr.checkKey em 10000 u p).bind fun _=>(Instr.findKey u p j).bind fun r=>match r with
     | some (_,v)=>pure (if ok=true then .tuple #[v,.bool true] else v)
     | none=>(zeroValue D).bind fun q=>pure (if ok=true then .tuple #[q,.bool false] else q)) :Sem aD).run P w->∃ v,m.run P w=.ok v w/\aA w R h muZ c v:=by
    intro j em F m o;obtain⟨z,h1,H⟩:=ai j F;have J:∀ {C K:Type} (a:Sem C) (f:C->Sem K),a.bind f=a >>= f:=fun _ _=>rfl
    simp only[J,Sem.run_bind,KK em ad hk,Result.andThen_ok,h1] at o;rcases H with ⟨i,v,rfl,G,I,rfl⟩ | ⟨rfl,q,I,rfl⟩
    ·simp only at o;cases ok
     ·exact⟨v,by simpa using o,I⟩
     ·exact⟨.tuple #[v,.bool true],by simpa using o,aA.LU I (.bool _)⟩
    ·obtain⟨v,Q,Y⟩:=MA (w:=w) (R:=R) (h:=h) (muZ:=muZ) I;simp only[Sem.run_bind,Q,Result.andThen_ok] at o;cases ok
     ·exact⟨v,by simpa using o,Y⟩
     ·exact⟨.tuple #[v,.bool false],by simpa using o,aA.LU Y (.bool _)⟩
   have J:∀ {C K:Type} (a:Sem C) (f:C->Sem K),a.bind f=a >>= f:=fun _ _=>rfl
   rcases SL rel am o with ⟨rfl,rfl⟩ | ⟨b,aw,ap,j,rfl,aq,ar,rfl,ak,F⟩
   ·refine X [] true ⟨rfl,fun au k v b al=>by simp at al⟩ _ ?_;unfold Instr.lookup;simp only[J,Sem.run_bind,cc ag,Result.andThen_ok,Sem.run_pure];cases S:(Instr.checkKey true 10000 u p).run P w with
    | halt a b=>simp[S]
    | ok a V=>
     simp[S];cases aj:(Instr.findKey u p []).run P V with
     | halt a b=>simp
     | ok r W=>
      simp;cases r with
      | none=>cases (zeroValue D).run P W<;>simp
      | some x=>simp
   ·refine X j.toList j.isEmpty F _ ?_;unfold Instr.lookup;simp only[J,Sem.run_bind,cc ag,Result.andThen_ok,Sem.run_pure,D1 ak];cases S:(Instr.checkKey j.isEmpty 10000 u p).run P w with
    | halt a b=>simp
    | ok a V=>
     simp;cases aj:(Instr.findKey u p j.toList).run P V with
     | halt a b=>simp
     | ok r W=>
      simp;cases r with
      | none=>cases (zeroValue D).run P W<;>simp
      | some x=>simp
 ·cases g
theorem Sl (rel:bC R B w h muZ) {t ty:aF} {x c:U} {j:aD} (g:r9 P h t x=some c) (z:aA w R h muZ x j) :∃ v,(Builtin.len_ #[t] ty #[j]).run P w=.ok v w/\aA w R h muZ c v:=by
 unfold r9 at g;split at g
 ·rename_i I G b u;split at g
  ·rename_i F D p;cases g;cases z with
   | mp _ C hk q=>
    have hblk:=rel.blk b C q;rw[p] at hblk;obtain⟨m,h1,o,H⟩:=hblk;exact⟨.int .i64 m.size,by simp[Builtin.len_,cc u,D1 h1,goInt],by rw[o];exact .int _ _⟩
  ·cases g
 ·cases g
theorem SJ (rel:bC R B w h muZ) {t:aF} {r:Option aD} (g:∃ k e,P.underlying t=some (.map k e)) (m:∀ x,r=some x->∃ k n,x=.int k n) :∃ v w' muZ',(Instr.makeMap t r).run P w=.ok v w'/\cY w h muZ w' (h.push (.map [] 0)) muZ'/\bC R B w' (h.push (.map [] 0)) muZ'/\aA w' R (h.push (.map [] 0)) muZ' (.mp h.n) v:=by
 have:=rel.JS (w':=w.alloc (.map #[] 0)) (.map [] 0) (.map #[] 0) (k:=0) rfl rfl rfl rfl rfl ⟨#[],by show (w.heap.push _)[w.heap.size]?=_;simp,rfl,fun o k v b j=>by simp at j⟩;refine⟨.map (some w.heap.size),w.alloc (.map #[] 0),_,?_,this.1,this.2,?_⟩
 ·obtain⟨k,e,g⟩:=g;cases r with
  | none=>simp[Instr.makeMap,newObj,Sem.run]
  | some x=>
   obtain⟨p,n,rfl⟩:=m x rfl;simp[Instr.makeMap,newObj,Sem.run,cc g,Go.asInt,Go.asIntOf]
 ·exact .mp h.n ⟨w.heap.size,0,0⟩ (by simp[dX,lr]) V
theorem IB (rel:bC R B w h muZ) {t:aF} {m k x:U} {dW pD I:aD} {h' : aM} (o:sb P h t m k x=some h') (aP:aA w R h muZ m dW) (hk:aA w R h muZ k pD) (au:aA w R h muZ x I) :
  ∃ w',(Instr.mapUpdate t dW pD I).run P w=.ok () w'/\cY w h muZ w' h' muZ/\bC R B w' h' muZ:=by
 unfold sb at o;split at o
 ·rename_i aX a0 b aS;split at o
  ·rename_i p K ao;split at o
   ·cases o
   ·rename_i z;cases aP with
    | mp _ u a2 ap=>
     have hblk:=rel.blk b u ap;rw[ao] at hblk;obtain⟨D,h1,q,S⟩:=hblk;have aO:u.r<w.heap.size:=by
      rcases fE u.r w.heap.size with h | h
      ·exact h
      ·rw[p4 h] at h1;cases h1
     have aR:pa w R h muZ p D.toList:=⟨by simpa using q,fun j k H J g=>by obtain⟨y,T,O⟩:=S j k H J g;exact⟨y,by simpa using T,O⟩⟩
     have ar:∀ ag:Obj,(setObj u.r ag).run P w=.ok () { w with heap:=w.heap.setIfInBounds u.r ag }:=fun ag=>by simp[setObj,Sem.run,h1]
     have aq:∀ (G:List (U × U × Nat)) (v:Array k5) (C:Nat),(∀ {ah:aT} {q:aM},Ext0 w h muZ ah q muZ->v.size=G.length/\∀ (j:Nat) (k H:U) (b:Nat),G[j]?=some (k,H,b)->∃ x:k5,v[j]?=some x/\aA ah R q muZ k x.key/\aA ah R q muZ H x.val/\x.born=b)->
       cY w h muZ { w with heap:=w.heap.setIfInBounds u.r (.map v C) } (h.set b (.map G C)) muZ/\bC R B { w with heap:=w.heap.setIfInBounds u.r (.map v C) } (h.set b (.map G C)) muZ:=by
      intro G v C aQ;refine rel.JW (k:=0) ao rfl rfl ap rfl rfl rfl V (fun k hk=>?_) (fun e=>?_)
      ·simp only;rw[uW];rw[aj (fun aI=>hk aI.symm)]
      ·obtain⟨q1,aY⟩:=aQ e;exact⟨v,by simp only;rw[uW];simp[aO],q1,aY⟩
     unfold Instr.mapUpdate;simp only[Sem.run_bind,cc aS,Result.andThen_ok,D1 h1,KK false z hk];cases ad:j3 P aX k p 0 with
     | none=>rw[ad] at o;cases o
     | some r=>
      rw[ad] at o;obtain⟨a3,T,O⟩:=KM hk z aR ad;rw[T];cases r with
      | none=>
       cases O;cases o;have:=aq (p++[(k,x,K)]) (D.push { key:=pD,val:=I,born:=K }) (K+1) (fun e=>⟨by simp[q],fun j av aw J g=>?_⟩)
       ·exact⟨_,by simp only[Result.andThen_ok];rw[ar],this⟩
       ·rw[sY];by_cases aK:j<p.length
        ·rw[aU aK] at g;obtain⟨y,al,W,am,X⟩:=S j av aw J g;exact⟨y,by rw[aj F];exact al,W.j2 e,am.j2 e,X⟩
        ·rw[eu F] at g;have aJ:j - p.length=0:=by
          rcases Nat.eq_zero_or_pos (j - p.length) with h | h
          ·exact h
          ·rw[dY (by simp;omega)] at g;cases g
         rw[aJ] at g;simp at g;obtain⟨rfl,rfl,rfl⟩:=g;exact⟨_,by rw[ak F],hk.j2 e,au.j2 e,rfl⟩
      | some aV=>
       obtain⟨i,H⟩:=aV;obtain⟨a4,rfl,al,_,y,W,am,X⟩:=O;cases o;have aH:D[i]?=some y:=by simpa using W
       have aB:y.key=pD:=by rw[CE z X,CE z hk]
       have aL:(Instr.keyThatStays (((D[i]?).map (·.key)).getD pD) pD).run P w=.ok pD w:=by
        rw[aH];simp only[cz,g6,aB];rw[CE z hk];exact Wt z
       have:=aq (p.modify i fun e=>(k,x,e.2.2)) (D.modify i fun e=>{ e with key:=pD,val:=I }) K (fun e=>⟨by simp[q],fun j av aw J g=>?_⟩)
       ·refine⟨_,?_,this⟩;simp only[Result.andThen_ok,Sem.run_bind,aL];rw[ar]
       ·rw[List.getElem?_modify] at g;rw[AG];cases Y:p[j]? with
        | none=>rw[Y] at g;simp at g
        | some az=>
         obtain⟨aW,aZ,ay⟩:=az;rw[Y] at g;obtain⟨ax,aC,aE,aG,ai⟩:=S j aW aZ ay Y;rw[aC];by_cases Q:i=j
         ·simp[Q] at g;obtain⟨rfl,rfl,rfl⟩:=g;exact⟨{ ax with key:=pD,val:=I },by simp[Q],hk.j2 e,au.j2 e,ai⟩
         ·simp[Q] at g;obtain⟨rfl,rfl,rfl⟩:=g;exact⟨ax,by simp[Q],aE.j2 e,aG.j2 e,ai⟩
  ·cases o
 ·cases o
theorem VI (rel:bC R B w h muZ) {t:aF} {x c:U} {m:aD} {h' : aM} (j:zO P h t x=some (c,h')) (p:aA w R h muZ x m) :
  ∃ v w' muZ',(Instr.range t m).run P w=.ok v w'/\cY w h muZ w' h' muZ'/\bC R B w' h' muZ'/\aA w' R h' muZ' c v:=by
 unfold zO at j;split at j
 ·rename_i s o;simp only[bc,Prod.mk.injEq] at j;obtain⟨rfl,rfl⟩:=j;cases p;rename_i g;have:=rel.JS (w':=w.alloc (.stringIter g 0)) (.iter g.data.toList 0) (.stringIter g 0) (k:=1) rfl rfl rfl rfl rfl ⟨g,rfl,by show (w.heap.push _)[w.heap.size]?=_;simp⟩;refine⟨.pointer (some ⟨w.heap.size,0,none⟩),w.alloc (.stringIter g 0),_,?_,this.1,this.2,?_⟩
  ·simp[Instr.range,cc o,newObj,Sem.run]
  ·exact .it h.n ⟨w.heap.size,0,0⟩ (by simp[dX,lr]) V
 ·cases j
theorem Te (rel:bC R B w h muZ) {x c:U} {F:aD} {h' : aM} {ty:aF} (j:ze h x=some (c,h')) (I:aA w R h muZ x F) :
  ∃ v w',(Instr.next F true ty).run P w=.ok v w'/\cY w h muZ w' h' muZ/\bC R B w' h' muZ/\aA w' R h' muZ c v:=by
 unfold ze at j;split at j
 ·rename_i b;split at j
  ·rename_i s pos z;cases I with
   | it _ t J C=>
    have hblk:=rel.blk b t C;rw[z] at hblk;obtain⟨bs,rfl,h1⟩:=hblk;have H:t.r<w.heap.size:=by
     rcases fE t.r w.heap.size with h | h
     ·exact h
     ·rw[p4 h] at h1;cases h1
    have G:(⟨bs.data.toList.toArray⟩:ByteArray)=bs:=by cases bs;simp
    have D:bs.data.toList.length=bs.size:=by rw[rm];rfl
    rw[G] at j;split at j
    ·rename_i o;have u:pos<bs.size:=by rw[<-D];rw[A5] at o;exact o
     simp only[bc,Prod.mk.injEq] at j;obtain⟨rfl,rfl⟩:=j;have:=rel.JW (w':={ w with heap:=w.heap.setIfInBounds t.r (.stringIter bs (pos+(Utf8.decode bs pos).2)) }) (k:=1) (c':=.iter bs.data.toList (pos+(Utf8.decode bs pos).2)) z rfl rfl C rfl rfl rfl V
      (fun k hk=>by simp only;rw[uW];rw[aj (fun q=>hk q.symm)]) (fun e=>⟨bs,rfl,by simp only;rw[uW];simp[H]⟩)
     refine⟨.tuple #[.bool true,.int .i64 pos,.int .i32 (Utf8.decode bs pos).1],_,?_,this.1,this.2,?_⟩
     ·simp only[Instr.next,Sem.run_bind,KN h1,Result.andThen_ok,ak u];simp[setObj,Sem.run,h1,goInt]
     ·refine .a1 _ _ rfl fun p c v g m=>?_
      rcases p with _ | _ | _ | p
      ·simp at g m;subst g m;exact .bool _
      ·simp at g m;subst g m;exact .int _ _
      ·simp at g m;subst g m;exact .int _ _
      ·simp at g
    ·rename_i o;have u:¬ pos<bs.size:=by
      rw[<-D];intro q;rw[<-A5] at q;rw[q] at o;cases o
     simp only[bc,Prod.mk.injEq] at j;obtain⟨rfl,rfl⟩:=j;refine⟨.tuple #[.bool false],w,?_,.refl _ _ _,rel,?_⟩
     ·simp only[Instr.next,Sem.run_bind,KN h1,Result.andThen_ok,aj u];simp
     ·refine .a1 _ _ rfl fun p c v g m=>?_
      rcases p with _ | p
      ·simp at g m;subst g m;exact .bool _
      ·simp at g
  ·cases j
 ·cases j
theorem KL {blk:Nat}:∀ (n:Nat) (o:Nat) (ns:List Int) (g:ByteArray),ns.length=n->(∀ j v,(ns.map (Value.int .u8))[j]?=some v->(load (⟨blk,o+j,none⟩:Addr)).run P w=.ok v w)->
  ∃ bs,(Extern.Bytes.loadBytes ⟨blk,o,none⟩ n g).run P w=.ok bs w/\bs.data.toList=g.data.toList++ns.map fun n=>UInt8.ofNat n.toNat
 | 0,o,ns,g,m,_=>⟨g,by simp[Extern.Bytes.loadBytes],by rw[hp.1 m];simp⟩
 | n+1,o,[],g,m,_=>by simp at m
 | n+1,o,x::ns,g,m,h=>by
  have p:=h 0 _ rfl;obtain⟨bs,h1,q⟩:=KL n (o+1) ns (g.push (UInt8.ofNat x.toNat)) (by simpa using m) (fun j v t=>by
   have:=h (j+1) v (by simpa using t);rw[show o+(j+1)=o+1+j by omega] at this;exact this)
  refine⟨bs,?_,?_⟩
  ·unfold Extern.Bytes.loadBytes;rw[na] at p;simp only[Sem.run_bind,p,Result.andThen_ok,Addr.jW];exact h1
  ·rw[q];simp
theorem Gk (rel:bC R B w h muZ) {x:U} {C:aD} {l:List UInt8} (m:tt h x=some l) (q:aA w R h muZ x C) :∃ bs,(Extern.Bytes.bytesOf C).run P w=.ok bs w/\bs.data.toList=l:=by
 unfold tt at m;split at m
 ·cases m;cases q with
  | str bs=>exact⟨bs,by simp[Extern.Bytes.bytesOf],rfl⟩
 ·rename_i V;split at m
  ·rename_i cs n g;obtain⟨ak,F,ag,v,Q⟩:=qB (P:=P) rel g q;have o:=Q n (aN _) w (fun _=>rfl);obtain⟨j,rfl,rfl⟩:=Bz cs ag l m v.1 v.2;have G:j.length=n:=by have:=v.1;simp at this;omega
   have W:(j.map (Value.int .u8)).take (n*1)=j.map (Value.int .u8):=aH (by simp;omega);rw[W] at o;have S:∃ a len cap,C=.slice a len cap:=by
    cases q<;>first | exact⟨_,_,_,rfl⟩ | (simp[contents] at g;done) | (exact bW rfl (V _))
   obtain⟨a,len,cap,rfl⟩:=S;simp only[Builtin.lenOf,Sem.run_pure,Result.ok.injEq] at F;obtain⟨rfl,_⟩:=F;cases a with
   | none=>
    simp only[Builtin.firstCells,Sem.run_pure,Result.ok.injEq] at o;have X:j=[]:=by
     have:=ci Array.toList o.1;simpa using this.symm
    subst X;exact⟨.empty,by simp[Extern.Bytes.bytesOf],rfl⟩
   | some a=>
    by_cases u:len=0
    ·subst u;have:j=[]:=hp.1 G;subst this;exact⟨.empty,by simp[Extern.Bytes.bytesOf,Extern.Bytes.loadBytes],rfl⟩
    have O:∃ t z,a=⟨t,z,none⟩:=by
     cases q with
     | Z=>exact⟨_,_,rfl⟩
     | bu=>exact⟨_,_,rfl⟩
     | eI=>exact bW rfl u
     | gu=>exact bW rfl u
     | bad=>simp[contents] at g
     | fc _ _ _ _ _ _ _ _ h1 D p=>
      exfalso;simp only[contents] at g;rcases p with p | ⟨n,ah,p,aj⟩
      ·rw[p] at g;cases g
      ·rw[p] at g;simp only at g;split at g
       ·rename_i ai;omega
       ·cases g
    obtain⟨t,z,rfl⟩:=O;simp only[Builtin.firstCells,n3] at o;unfold loadCells at o;obtain⟨l,h1,D,H⟩:=loadCellsFrom_ok _ _ _ _ _ _ o;have I:l=j.map (Value.int .u8):=by
     have:=ci Array.toList D;simpa using this.symm
    subst I;obtain⟨bs,J,K⟩:=KL (P:=P) (w:=w) (blk:=t) len z j .empty G (fun Y ad T=>by
     have:=H Y ad T;rw[Addr.jW,hJ] at this;exact this)
    exact⟨bs,by simpa [Extern.Bytes.bytesOf] using J,by rw[K];rfl⟩
  ·cases m
theorem GG:∀ (a b:List UInt8),(match (List.range (min a.length b.length)).find? fun i=>a.getD i 0 != b.getD i 0 with
  | some i=>if a.getD i 0<b.getD i 0 then (-1:Int) else 1
  | none=>if a.length<b.length then -1 else if a.length > b.length then 1 else 0)=lV a b
 | [],[]=>by simp[lV]
 | [],_::_=>by simp[lV]
 | _::_,[]=>by simp[lV]
 | x::a,y::b=>by
  have m:=GG a b;simp only[dN,Nat.add_min_add_right,List.range_succ_eq_map,AR,List.getD_cons_zero];by_cases g:x=y
  ·subst g;simp only[bne_self_eq_false,lV,if_true];rw[<-m,List.find?_map];have h:((fun i=>(x::a).getD i 0 != (x::b).getD i 0) ∘ Nat.succ)=fun i=>a.getD i 0 != b.getD i 0:=by
    funext i;simp
   rw[h];cases o:(List.range (min a.length b.length)).find? fun i=>a.getD i 0 != b.getD i 0 with
   | none=>simp only[Option.map_none];congr 1<;>simp
   | some i=>simp
  ·have j:(x != y)=true:=by simp[g]
   simp only[j,lV,aj g,List.getD_cons_zero]
theorem Hr {alZ:Type} {p q:alZ->Bool}:∀ (l:List alZ),(∀ x∈l,p x=q x)->l.find? p=l.find? q
 | [],_=>rfl
 | x::l,h=>by
  rw[AR,AR,h x V,Hr l (fun y g=>h y (by simp[g]))]
theorem qx (a b:ByteArray) :Extern.BytealgCompare.cmp a b=lV a.data.toList b.data.toList:=by
 rw[<-GG];unfold Extern.BytealgCompare.cmp;have g:∀ (a:ByteArray) (i:Nat),i<a.size->a[i]! = a.data.toList.getD i 0:=fun a i h=>by
  simp only[gx,p5];rw[getElem!_pos a i h];have:i<a.data.size:=h;rw[rl this];rfl
 have j:∀ a:ByteArray,a.data.toList.length=a.size:=fun a=>by rw[rm];rfl
 rw[j,j];have o:(List.range (min a.size b.size)).find? (fun i=>a[i]! != b[i]!)=(List.range (min a.size b.size)).find? (fun i=>a.data.toList.getD i 0 != b.data.toList.getD i 0):=by
  apply Hr;intro i h;have:=g5.1 h;rw[g a i F,g b i F]
 rw[o];cases m:(List.range (min a.size b.size)).find? (fun i=>a.data.toList.getD i 0 != b.data.toList.getD i 0) with
 | none=>rfl
 | some i=>
  have:=g5.1 (MD m);simp only;rw[g a i F,g b i F]
theorem QG {fn:Func} (h:fn.name= "internal/bytealg.Compare") (g:fn.origin= ""\/fn.origin= "internal/bytealg.Compare") :Extern.find fn=some Extern.BytealgCompare.compare/\Extern.findNext fn=none:=by
 constructor
 ·unfold Extern.find;simp only[h];rfl
 ·unfold Extern.findNext;simp only[h];rcases g with g | g<;>rw[g]<;>rfl
theorem Qt (rel:bC R B w h muZ) {f:cj} {fn:Func} {args:ag} {vs:Array aD} {c:U} (J:P.funcs[f]?=some fn) (q:wh fn=true) (g:vK h args=some c)
  (m:vs.size=args.length) (u:∀ (j:Nat) (c:U) (v:aD),args[j]?=some c->vs[j]?=some v->aA w R h muZ c v) :
  ∃ v,(callFunc f vs).run P w=.ok (.value v) w/\aA w R h muZ c v:=by
 unfold wh at q;simp only[bU,rr,beq_iff_eq] at q;obtain⟨⟨p,t⟩,O⟩:=q;unfold vK at g;split at g
 ·rename_i x y;split at g
  ·rename_i a b G H;cases g;simp only[dN,hq] at m;have Q:vs=#[vs[0],vs[1]]:=by
    apply Array.ext
    ·simpa using m
    ·intro i h1 o;rcases (show i=0\/i=1 by simp at o;omega) with rfl | rfl<;>rfl
   obtain⟨ba,h1,o⟩:=Gk (P:=P) rel G (u 0 x vs[0] rfl (by simp[m]));obtain⟨S,D,F⟩:=Gk (P:=P) rel H (u 1 y vs[1] rfl (by simp[m]));obtain⟨z,C⟩:=QG t O;refine⟨.int .i64 (lV a b),?_,.int _ _⟩;rw[Q];have K:fn.name≠ "runtime.NumGoroutine":=by rw[t];decide
   have p:=MG.1 p;have I:Extern.BytealgCompare.compare #[vs[0],vs[1]]=(do pure (goInt (Extern.BytealgCompare.cmp (<-Extern.Bytes.bytesOf vs[0]) (<-Extern.Bytes.bytesOf vs[1])))):=rfl;simp[callFunc,J,K,p,z,C,mark,Sem.run,I,h1,D,qx,o,F,goInt]
  ·cases g
 ·cases g
end
section
variable {P:bq} {w:aT} {R:Nat->Prop} {B:Nat} {h:aM} {muZ:b3}
inductive rC:aD->aD->Prop where
 | bool (a b:Bool) :rC (.bool a) (.bool b)
 | agg (a b:Array aD) :rC (.agg a) (.agg b)
 | slice (a:Option Addr) (l c:Nat) (g:Option Addr) (j h:Nat) :rC (.slice a l c) (.slice g j h)
theorem Ql {d:Nat} {t:aF} {x y:U} {b:Bool} {p sV:aD} (m:dL P d t x y=some b) (g:aA w R h muZ x p) (j:aA w R h muZ y sV)
  (q:∀ k a k' o,x=.int k a->y=.int k' o->False) (u:∀ a o,x=.str a->y=.str o->False) :rC p sV:=by
 cases d with
 | zero=>simp[dL] at m
 | succ d=>
  unfold dL at m;split at m
  ·cases g;cases j;exact .bool _ _
  ·exact (q _ _ _ _ rfl rfl).elim
  ·exact (u _ _ rfl rfl).elim
  ·cases g;cases j;exact .agg _ _
  ·cases g;cases j;exact .agg _ _
  ·cases g;cases j;exact .slice _ _ _ _ _ _
  ·cases g;cases j<;>exact .slice _ _ _ _ _ _
  ·cases g;cases j<;>exact .slice _ _ _ _ _ _
  ·cases g<;>cases j<;>exact .slice _ _ _ _ _ _
  ·cases g<;>cases j<;>exact .slice _ _ _ _ _ _
  ·cases m
theorem Qj {op:BinOp} {t:aF} {j m:aY} {g h:aD} (p:rC g h) (o:∀ a b,g=.agg a->h=.agg b->P.eqGuardType P.depth t=false) :(eqGuard op t j m g h).run P w=.ok () w:=by
 cases p with
 | bool a b=>cases op<;>rfl
 | agg a b=>exact run_eqGuard_agg w op t j m a b (o a b rfl rfl)
 | slice=>cases op<;>rfl
theorem Ws {t:aF} {g h:aD} {b:Bool} (o:rC g h) (j:(Op.equalIn 10000 t g h).run P w=.ok b w) :
  (binOp .eql t g h).run P w=.ok (.bool b) w/\(binOp .neq t g h).run P w=.ok (.bool (!b)) w:=by have m:(Op.equal t g h).run P w=.ok b w:=j;cases o<;>constructor<;>simp[binOp,m]
theorem Qi {op:BinOp} {t:aF} {g h:aY} {k k' : cV} {a b:Int}:(eqGuard op t g h (.int k a) (.int k' b)).run P w=.ok () w:=by cases op<;>rfl
theorem Qk {op:BinOp} {t:aF} {g h:aY} {a b:ByteArray}:(eqGuard op t g h (.string a) (.string b)).run P w=.ok () w:=by cases op<;>rfl
theorem On {op:BinOp} {t:aF} {G H:aY} {x y c:U} {m o:aD} (g:eb P op t x y=some c) (u:aA w R h muZ x m) (p:aA w R h muZ y o) :
  ∃ v,((do eqGuard op t G H m o;binOp op t m o:Sem aD)).run P w=.ok v w/\aA w R h muZ c v:=by
 unfold eb at g;split at g
 ·cases u;cases p;obtain⟨v,h1,C⟩:=Oo (P:=P) (w:=w) (R:=R) (h:=h) (muZ:=muZ) (t:=t) g;exact⟨v,by simp[Qi,h1],C⟩
 ·cases u;cases p;obtain⟨v,h1,C⟩:=Oq (P:=P) (w:=w) (R:=R) (h:=h) (muZ:=muZ) (t:=t) g;exact⟨v,by simp[Qk,h1],C⟩
 ·rename_i J K;have F:∀ b,rV P t x y=true->dL P 10000 t x y=some b->rC m o/\(eqGuard op t G H m o).run P w=.ok () w ∧
    (binOp .eql t m o).run P w=.ok (.bool b) w/\(binOp .neq t m o).run P w=.ok (.bool (!b)) w:=by
   intro b q j;have D:=Ql j u p J K;have I:∀ a b,m=.agg a->o=.agg b->P.eqGuardType P.depth t=false:=by
    rintro a b rfl rfl;cases u with
    | af cs _ _ _ _=>
     cases p with
     | af Q _ _ _ _=>simpa [rV] using q
     | bad=>simp[dL] at j
    | bad=>cases p<;>simp[dL] at j
   have O:=BX 10000 t x y b m o j u p;obtain⟨z,B⟩:=Ws D O;exact⟨D,Qj D I,z,B⟩
  split at g
  ·split at g
   ·rename_i q;cases j:dL P 10000 t x y with
    | none=>rw[j] at g;cases g
    | some b=>
     rw[j] at g;simp only[cz,bc] at g;subst g;obtain⟨_,z,B,_⟩:=F b q j;exact⟨.bool b,by simp[z,B],.bool _⟩
   ·cases g
  ·split at g
   ·rename_i q;cases j:dL P 10000 t x y with
    | none=>rw[j] at g;cases g
    | some b=>
     rw[j] at g;simp only[cz,bc] at g;subst g;obtain⟨_,z,_,B⟩:=F b q j;exact⟨.bool (!b),by simp[z,B],.bool _⟩
   ·cases g
  ·cases g
theorem X5 {op:UnOp} {x c:U} {m:aD} (g:rf op x=some c) (j:aA w R h muZ x m) :∃ v,(Op.unary op m).run P w=.ok v w/\aA w R h muZ c v:=by
 unfold rf at g;split at g
 ·cases g;cases j;exact⟨_,by simp[Op.unary],.bool _⟩
 ·cases g;cases j;refine⟨_,?_,.int _ _⟩;simp only[Op.unary];rfl
 ·cases g;cases j;refine⟨_,?_,.int _ _⟩;simp only[Op.unary];rfl
 ·cases g
theorem Dd {g:aY->U} {j:aY->aD} (m:∀ x,aA w R h muZ (g x) (j x)) (o:Option aY) :rF w R h muZ (o.map g) (o.map j):=by
 cases o with
 | none=>trivial
 | some x=>exact m x
def vn (P:bq) (R:Nat->Prop) (B:Nat) (w:aT) (h:aM) (muZ:b3) (r:Result Next) :mw->Prop
 | .val c h'=>Good R B w h muZ r c h'
 | .call f args h'=>h'=h/\∃ g:Array aD,r=.ok (.enter f g) w/\g.size=args.length/\∀ (j:Nat) (c:U) (m:aD),args[j]?=some c->g[j]?=some m->aA w R h muZ c m
theorem Good.mk {r:Result Next} {c:U} {h' : aM} {v:aD} {w' : aT} {muZ' : b3} (m:r=.ok (.value v) w') (g:cY w h muZ w' h' muZ') (j:bC R B w' h' muZ') (o:aA w' R h' muZ' c v) :Good R B w h muZ r c h':=
 ⟨v,w',muZ',.inl m,g,j,o⟩
theorem OK (rel:bC R B w h muZ) {b:Builtin} {ts:Array aF} {ty:aF} {consts:Array Bool} {args:ag} {vs:Array aD} {r:mw} (g:mA P h b ts.toList args=some r)
  (C:vs.size=args.length) (K:∀ (j:Nat) (c:U) (v:aD),args[j]?=some c->vs[j]?=some v->aA w R h muZ c v) :vn P R B w h muZ ((builtin b ts ty consts vs).run P w) r:=by
 have one:∀ x,args=[x]->∃ m3,vs=#[m3]/\aA w R h muZ x m3:=by
  intro x p;subst p;simp only[dN,hq] at C;refine⟨vs[0],?_,K 0 x _ rfl (by simp[C])⟩;apply Array.ext
  ·simpa using C
  ·intro i h1 q;have:i=0:=F;subst this;rfl
 have two:∀ x y,args=[x,y]->∃ m3 sV,vs=#[m3,sV]/\aA w R h muZ x m3/\aA w R h muZ y sV:=by
  intro x y p;subst p;simp only[dN,hq] at C;refine⟨vs[0],vs[1],?_,K 0 x _ rfl (by simp[C]),K 1 y _ rfl (by simp[C])⟩;apply Array.ext
  ·simpa using C
  ·intro i h1 q;rcases (show i=0\/i=1 by simp at q;omega) with rfl | rfl<;>rfl
 have H:∀ o,ts.toList=[o]->ts=#[o]:=fun o I=>by apply Array.toList_inj.1;simpa using I
 have Q:∀ o u,ts.toList=[o,u]->ts=#[o,u]:=fun o u I=>by apply Array.toList_inj.1;simpa using I
 unfold mA at g;split at g
 ·rename_i o x t;obtain⟨m3,rfl,p⟩:=one x rfl;obtain rfl:=H o t;split at g
  ·rename_i c m;cases g;obtain⟨v,h1,q⟩:=Sl (P:=P) (ty:=ty) rel m p;exact Good.mk (by simp[builtin,h1]) (.refl _ _ _) rel q
  cases m:r8 P o x with
  | none=>rw[m] at g;cases g
  | some c=>
   rw[m] at g;simp only[cz,bc] at g;subst g;obtain⟨v,h1,q⟩:=Sm (P:=P) (u:=o) (ty:=ty) m p;exact Good.mk (by simp[builtin,h1]) (.refl _ _ _) rel q
 ·rename_i o u s x t;obtain⟨jn,m3,rfl,S,p⟩:=two s x rfl;obtain rfl:=Q o u t;split at g
  ·rename_i k J;cases m:vw P h o s x with
   | none=>rw[m] at g;cases g
   | some c=>
    obtain⟨c,h'⟩:=c;rw[m] at g;simp only[cz,bc] at g;subst g;obtain⟨v,w',muZ',h1,q,z,D⟩:=Oc (ty:=ty) rel J m S p;exact Good.mk (by simp[builtin,h1]) q z D
  ·cases g
  ·rename_i V W;cases m:oh P h o s x with
   | none=>rw[m] at g;cases g
   | some c=>
    obtain⟨c,h'⟩:=c;rw[m] at g;simp only[cz,bc] at g;subst g;have J:uc P u:=by
     cases G:P.underlying u with
     | none=>exact bW G W
     | some d=>exact⟨d,G,fun k hk=>V k (by rw[G,hk])⟩
    obtain⟨v,w',muZ',h1,q,z,D⟩:=Br (ty:=ty) rel J m S p;exact Good.mk (by simp[builtin,h1]) q z D
 ·rename_i o u d x t;obtain⟨X,m3,rfl,G,p⟩:=two d x rfl;obtain rfl:=Q o u t;cases m:tD P h o d x with
  | none=>rw[m] at g;cases g
  | some c=>
   obtain⟨c,h'⟩:=c;rw[m] at g;simp only[cz,bc] at g;subst g;obtain⟨v,w',h1,q,z,D⟩:=PB (u:=u) (ty:=ty) rel m G p;exact Good.mk (by simp[builtin,h1]) q z D
 ·rename_i o x t;obtain⟨m3,rfl,p⟩:=one x rfl;obtain rfl:=H o t;cases m:tx P o x with
  | none=>rw[m] at g;cases g
  | some c=>
   rw[m] at g;simp only[cz,bc] at g;subst g;obtain⟨v,h1,q⟩:=OY (P:=P) (ty:=ty) m p;exact Good.mk (by simp[builtin,h1]) (.refl _ _ _) rel q
 ·rename_i o x t;obtain⟨m3,rfl,p⟩:=one x rfl;obtain rfl:=H o t;cases m:tB P h o x with
  | none=>rw[m] at g;cases g
  | some h'=>
   rw[m] at g;simp only[cz,bc] at g;subst g;obtain⟨w',h1,q,z⟩:=Pc (P:=P) (ty:=ty) rel m p;exact Good.mk (v:=.tuple #[]) (by simp[builtin,h1]) q z (.a1 [] #[] rfl (fun _ _ _ T=>by simp at T))
 ·rename_i x y;obtain⟨m3,sV,rfl,p,O⟩:=two x y rfl;cases m:y9 x y with
  | none=>rw[m] at g;cases g
  | some c=>
   rw[m] at g;simp only[cz,bc] at g;subst g;unfold y9 at m;split at m
   ·split at m
    ·rename_i hk;subst hk;cases m;cases p;cases O;refine Good.mk (v:=.int _ _) ?_ (.refl _ _ _) rel (.int _ _);simp[builtin,Builtin.min_,Builtin.min2]
    ·cases m
   ·cases m
 ·rename_i x y;obtain⟨m3,sV,rfl,p,O⟩:=two x y rfl;cases m:oL x y with
  | none=>rw[m] at g;cases g
  | some c=>
   rw[m] at g;simp only[cz,bc] at g;subst g;unfold oL at m;split at m
   ·split at m
    ·rename_i hk;subst hk;cases m;cases p;cases O;refine Good.mk (v:=.int _ _) ?_ (.refl _ _ _) rel (.int _ _);simp[builtin,Builtin.max_,Builtin.max2]
    ·cases m
   ·cases m
 ·cases g
theorem Gn {f:cj} {fn:Func} {vs:Array aD} (j:P.funcs[f]?=some fn) (g:fn.body.isSome=true) (o:fn.name≠ "runtime.NumGoroutine") :(callFunc f vs).run P w=.ok (.enter f vs) w:=by
 have h:fn.body≠none:=fun m=>by rw[m] at g;cases g
 simp[callFunc,j,o,h]
theorem CJ {p:aY->U} {q:aY->aD} (t:∀ x,aA w R h muZ (p x) (q x)) (xs:Array aY) :
  ∀ (j:Nat) (c:U) (v:aD),(xs.toList.map p)[j]?=some c->(xs.map q)[j]?=some v->aA w R h muZ c v:=by
 intro j c v m g;rw[b1] at m;rw[AF] at g;cases o:xs[j]? with
 | none=>simp[o] at g
 | some u=>
  simp[o] at m g;subst m g;exact t u
theorem SR {t:aF} {name:String} {g:cj} (h:wB P t name=some g) (u:aD) :(Go.method (P.types.size+Made.depth) t u name).run P w=.ok (g,u) w:=by
 unfold wB at h;split at h
 ·cases h
 ·cases h
 ·rename_i v z;split at h
  ·rename_i i q;split at h
   ·rename_i B o;split at h
    ·rename_i f m p;cases h;obtain⟨k,hk⟩:∃ k,P.types.size+Made.depth=k+1:=⟨P.types.size+Made.depth - 1,by unfold Made.depth;omega⟩
     rw[hk];cases j:P.underlying t with
     | none=>exact bW j z
     | some d=>
      have C:B.path=#[]:=Array.toList_eq_nil_iff.1 m;cases d<;>first
       | (exfalso;exact v _ j)
       | simp[Go.method,typeInfo,q,o,m,p,follow,receiverAt,cc j,Place.get]
    ·cases h
   ·cases h
  ·cases h
theorem XB {t V:aF} {C:Bool} {z c x:U} {v:aD} (B:An P t=some z) (g:Am t z C x=some c) (H:aA w R h muZ x v) :
  ∃ i1,(Instr.typeAssert v V t C).run P w=.ok i1 w/\aA w R h muZ c i1:=by
 unfold An at B;split at B
 ·cases B
 ·cases B
 ·rename_i D S;cases j:P.underlying t with
  | none=>exact bW j S
  | some d=>
   obtain⟨O,I,J⟩:=MA (P:=P) (w:=w) (R:=R) (h:=h) (muZ:=muZ) B;have two:∀ (a:U) (F:aD) (q:Bool),aA w R h muZ a F->aA w R h muZ (.a1 [a,.bool q]) (.tuple #[F,.bool q]):=by
    intro a F q Q;refine .a1 _ _ rfl (fun K c v m p=>?_)
    match K,m,p with
    | 0,m,p=>simp at m p;subst m p;exact Q
    | 1,m,p=>simp at m p;subst m p;exact .bool q
    | K+2,m,p=>simp at m
   cases x<;>simp only[Am] at g<;>try (cases g;done)
   case hS=>
    cases H;cases C<;>simp only at g<;>cases g;refine⟨.tuple #[O,.bool false],?_,two _ _ _ J⟩;cases d<;>first
     | (exfalso;exact D _ j)
     | simp[Instr.typeAssert,cc j,I]
   case fX T W=>
    cases H with
    | fX _ _ u G=>
     split at g
     ·rename_i o;have o:=mo o;subst o;cases C<;>simp only at g<;>cases g
      ·refine⟨u,?_,G⟩;cases d<;>first
        | (exfalso;exact D _ j)
        | simp[Instr.typeAssert,cc j]
      ·refine⟨.tuple #[u,.bool true],?_,two _ _ _ G⟩;cases d<;>first
        | (exfalso;exact D _ j)
        | simp[Instr.typeAssert,cc j]
     ·rename_i o;have o:T≠t:=fun h=>by rw[h,A4] at o;cases o
      cases C<;>simp only at g<;>cases g;refine⟨.tuple #[O,.bool false],?_,two _ _ _ J⟩;cases d<;>first
       | (exfalso;exact D _ j)
       | simp[Instr.typeAssert,cc j,I,o]
theorem OU (rel:bC R B w h muZ) {D:aY->U} {hV:aY->aD} (C:∀ x,aA w R h muZ (D x) (hV x)) {c:Call} {ty:aF} {r:mw} (g:qt P h D c=some r) :
  vn P R B w h muZ ((do let d <-resolve hV c ty;invoke d.target d.args:Sem Next).run P w) r:=by
 unfold qt at g;split at g
 ·rename_i b ai;have:=fun W=>OK (P:=P) (b:=b) (ts:=c.argTypes) (ty:=ty) (consts:=W) (args:=c.args.toList.map D) (vs:=c.args.map hV) rel g V
   (fun p x v j m=>by
    rw[b1] at j;rw[AF] at m;cases z:c.args[p]? with
    | none=>simp[z] at m
    | some J=>
     simp[z] at j m;subst j m;exact C J)
  simp only[resolve,ai,Sem.run_bind,Sem.run_pure,Result.andThen_ok,invoke];exact this _
 ·rename_i f S;split at g
  ·rename_i Y first e6 al
   have m:=C f;rw[al] at m;cases q:hV f with
   | func aw H cs=>
    rw[q] at m;cases m with
    | fn _ _ _ _ _ h1 O ag ah=>
     split at g
     ·rename_i fn G;have Q:∀ (p:Nat) (x:U) (v:aD),(first++c.args.toList.map D++e6)[p]?=some x->(H++c.args.map hV++cs)[p]?=some v->aA w R h muZ x v:=by
       intro p x v j o;by_cases am:p<first.length
       ·rw[hl,aU am] at j;rw[AD,o4 F] at o;exact ag p x v j o
       ·by_cases ax:p<first.length+c.args.size
        ·rw[aU (by simp;omega),eu F,b1] at j;rw[o4 (by simp;omega),uV F,AF,h1] at o;cases z:c.args[p - first.length]? with
         | none=>simp[z] at o
         | some J=>
          simp[z] at j o;subst j o;exact C J
        ·rw[eu (by simp;omega)] at j;rw[uV (by simp;omega)] at o;refine ah _ x v j ?_;simpa [h1] using o
      split at g
      ·rename_i t;cases g;refine⟨rfl,H++c.args.map hV++cs,?_,by simp[h1,O],Q⟩;simp[resolve,S,q,Deferred.ofValue,invoke,Gn G t.1 t.2]
      ·split at g
       ·rename_i ak;cases I:vK h (first++c.args.toList.map D++e6) with
        | none=>rw[I] at g;cases g
        | some av=>
         rw[I] at g;simp only[cz,bc] at g;subst g;obtain⟨v,K,X⟩:=Qt (P:=P) (vs:=H++c.args.map hV++cs) rel G ak I (by simp[h1,O]) Q;rw[AD] at K;exact Good.mk (by simp[resolve,S,q,Deferred.ofValue,invoke,K]) (.refl _ _ _) rel X
       ·cases g
     ·cases g
   | _=>rw[q] at m;cases m
  ·cases g
 ·rename_i x name aj;split at g
  ·rename_i T az au;have m:=C x;rw[au] at m;split at g
   ·rename_i Y ao;split at g
    ·rename_i fn G;split at g
     ·rename_i t;cases g;cases q:hV x with
      | iface ay u=>
       rw[q] at m;cases m with
       | fX _ _ _ ar=>
        refine⟨rfl,#[u]++c.args.map hV,?_,by simp;omega,?_⟩
        ·have ap:=SR (P:=P) (w:=w) ao u;have ad:(#[Value.iface T u]++c.args.map hV)[0]?=some (Value.iface T u):=by rw[o4 V];rfl
         have aq:(c.args.map hV).extract 0 c.args.size=c.args.map hV:=by
          apply Array.ext';simp[aH]
         simp[ad,aq,resolve,aj,q,invoke,callMethod,ap,Gn G t.1 t.2]
        ·intro p x v j o;cases p with
         | zero=>
          rw[o4 V] at o;simp at j o;subst j o;exact ar
         | succ p=>
          rw[jr] at j;rw[uV V] at o;exact CJ C c.args p x v j (by simpa using o)
      | _=>rw[q] at m;cases m
     ·cases g
    ·cases g
   ·cases g
  ·cases g
theorem Do {q:aY->U} {t:aY->aD} (v:∀ x,aA w R h muZ (q x) (t x)) (ps:Array (Nat × aY)) :
  (ps.map fun (i,x)=>(i,t x)).size=(ps.toList.map fun p=>(p.1,q p.2)).length ∧
  ∀ (j:Nat) (p:Nat × U) (m:Nat × aD),(ps.toList.map fun p=>(p.1,q p.2))[j]?=some p->(ps.map fun (i,x)=>(i,t x))[j]?=some m->m.1=p.1/\aA w R h muZ p.2 m.2:=by
 refine⟨V,fun j p m o g=>?_⟩;rw[b1] at o;rw[AF] at g;cases u:ps[j]? with
 | none=>simp[u] at g
 | some z=>
  simp[u] at o g;subst o g;exact⟨rfl,v z.2⟩
theorem Em (rel:bC R B w h muZ) {F:aY->U} {J:aY->aD} (j:∀ x,aA w R h muZ (F x) (J x)) (o:bb) {r:mw} (g:cO P h F o.op=some r) :
  vn P R B w h muZ ((execOp J o).run P w) r:=by
 obtain⟨az,op,type,pos,ax,guard⟩:=o;have H:∀ {x:Option U} {m:Sem aD},(∀ c,x=some c->∃ I,m.run P w=.ok I w/\aA w R h muZ c I)->x.map (fun y=>mw.val y h)=some r->
   vn P R B w h muZ ((do pure (.value (<-m)) :Sem Next).run P w) r:=by
  intro x m C z;cases S:x with
  | none=>rw[S] at z;cases z
  | some c=>
   rw[S] at z;simp only[cz,bc] at z;subst z;obtain⟨I,h1,D⟩:=C c S;exact Good.mk (by simp[h1]) (.refl _ _ _) rel D
 have ah:∀ {x:Option (U × aM)} {m:Sem aD},(∀ c h',x=some (c,h')->∃ I w' muZ',m.run P w=.ok I w'/\cY w h muZ w' h' muZ'/\bC R B w' h' muZ'/\aA w' R h' muZ' c I)->x.map (fun y=>mw.val y.1 y.2)=some r->
   vn P R B w h muZ ((do pure (.value (<-m)) :Sem Next).run P w) r:=by
  intro x m C z;cases S:x with
  | none=>rw[S] at z;cases z
  | some c=>
   obtain⟨c,h'⟩:=c;rw[S] at z;simp only[cz,bc] at z;subst z;obtain⟨I,w',muZ',h1,D,G,Q⟩:=C c h' S;exact Good.mk (by simp[h1]) D G Q
 cases op
 case move x=>
  simp only[cO,bc] at g;subst g;exact Good.mk (by simp[execOp]) (.refl _ _ _) rel (j x)
 case assign x=>
  simp only[cO,bc] at g;subst g;exact Good.mk (by simp[execOp]) (.refl _ _ _) rel (j x)
 case pick c a b=>
  simp only[cO] at g;have ad:=j c;cases p:F c<;>rw[p] at g ad<;>simp only at g<;>try (cases g;done)
  cases g;cases u:J c<;>rw[u] at ad<;>try (cases ad;done)
  cases ad;rename_i q;cases q
  ·exact Good.mk (v:=J b) (by simp[execOp,u,asBool]) (.refl _ _ _) rel (by simpa using j b)
  ·exact Good.mk (v:=J a) (by simp[execOp,u,asBool]) (.refl _ _ _) rel (by simpa using j a)
 case alloc q=>
  simp only[cO] at g;cases O:gb P q with
  | none=>rw[O] at g;cases g
  | some ai=>
   rw[O] at g;simp only[cz,bc] at g;subst g;obtain⟨I,u,z⟩:=rk (P:=P) (w:=w) (R:=R) (h:=h) (muZ:=muZ) O;obtain⟨aj,ak,al⟩:=x2 rel (cs:=ai) (vs:=I.cells) q z.1 z.2;exact Good.mk (by simp[execOp,Instr.alloc,u,newVar,newRow]) aj ak (al 0)
 case box q x=>
  simp only[cO] at g;cases O:(F x).cells with
  | none=>rw[O] at g;cases g
  | some ai=>
   rw[O] at g;simp only[cz,bc] at g;subst g;obtain⟨X,Y⟩:=yf (j x) O;obtain⟨aj,ak,al⟩:=x2 rel (cs:=ai) (vs:=(J x).cells) q X Y;exact Good.mk (by simp[execOp,Instr.box,newVar,newRow]) aj ak (al 0)
 case build q parts=>
  obtain⟨X,Y⟩:=Do j parts;exact H (fun c p=>OI p X Y) g
 case buildSlice q len parts=>
  obtain⟨X,Y⟩:=Do j parts;exact ah (fun c h' p=>OH rel p X Y) g
 case load q a=>exact H (fun c p=>It rel p (j a)) g
 case store q a x=>
  simp only[cO] at g;cases K:rb P h q (F a) (F x) with
  | none=>rw[K] at g;cases g
  | some h'=>
   rw[K] at g;simp only[cz,bc] at g;subst g;obtain⟨w',h1,D,G⟩:=Ln (P:=P) rel K (j a) (j x);exact⟨undef,w',muZ,.inr ⟨by simp[execOp,h1],rfl⟩,D,G,.a1 [] #[] rfl (fun _ _ _ T=>by simp at T)⟩
 case nilCheck x=>
  simp only[cO] at g;have u:=j x;cases p:F x<;>rw[p] at g u<;>simp only at g<;>try (cases g;done)
  all_goals
   cases g;cases C:J x<;>rw[C] at u<;>try (cases u;done)
   rename_i y;refine Good.mk (v:=J x) ?_ (.refl _ _ _) rel (by rw[C];exact u);cases u<;>simp[execOp,C]
 case binOp op q x y aF=>exact H (fun c p=>On p (j x) (j y)) g
 case unOp op q x=>exact H (fun c p=>X5 p (j x)) g
 case convert s d x=>
  simp only[cO] at g;split at g
  ·rename_i c p;cases g;obtain⟨I,w',h1,D,G,Q⟩:=OM rel p (j x);exact Good.mk (by simp[execOp,h1]) D G Q
  ·exact H (fun c p=>Py rel p (j x)) g
 case makeInterface q x=>
  simp only[cO] at g;cases W:P.underlying q with
  | none=>rw[W] at g;cases g
  | some d=>
   rw[W] at g;cases d<;>simp only at g<;>try (cases g;done)
   all_goals
    cases g;exact Good.mk (v:=.iface q (J x)) (by simp[execOp,Instr.makeInterface,cc W]) (.refl _ _ _) rel (.fX q _ _ (j x))
 case makeFunc fn first e6=>
  cases fn<;>simp only[cO] at g<;>try (cases g;done)
  cases g;exact Good.mk (by simp[execOp,Instr.makeFunc]) (.refl _ _ _) rel (.fn _ _ _ _ _ V V (CJ j first) (CJ j e6))
 case makeSlice q l c=>exact ah (fun ay h' p=>SK rel p (j l) (j c)) g
 case slice q x au ag av=>exact H (fun c p=>W1 rel p (j x) (Dd j au) (Dd j ag) (Dd j av)) g
 case fieldAddr s x f=>exact H (fun c p=>Qw p (j x)) g
 case field q x f=>
  simp only[cO] at g;split at g
  ·rename_i cs aB C ao;have u:=j x;rw[C] at u;exact H (fun c p=>Qx ao p u) g
  ·cases g
 case indexAddr q x i=>exact H (fun c p=>Ru p (j x) (j i)) g
 case index q x i=>exact H (fun c p=>Cq p (j x) (j i)) g
 case extract x i=>
  simp only[cO] at g;have u:=j x;cases p:F x<;>rw[p] at g u<;>simp only at g<;>try (cases g;done)
  rename_i aC;cases C:J x<;>rw[C] at u<;>try (cases u;done)
  rename_i arr;cases u with
  | a1 _ _ ap aq=>
   refine H (m:=Instr.extract (J x) i) (fun c p=>?_) g;have am:i<arr.size:=by rw[ap];exact (aK.1 p).1
   exact⟨arr[i],by simp[Instr.extract,C,am],aq i c _ p (by simp[am])⟩
 case call c=>exact OU rel j g
 case makeMap q r=>
  simp only[cO] at g;split at g
  ·rename_i k e W z;cases g;obtain⟨I,w',muZ',h1,D,G,Q⟩:=SJ (P:=P) (t:=q) (r:=r.map J) rel ⟨_,_,W⟩ (fun x C=>by
    cases r with
    | none=>cases C
    | some o=>
     simp only[cz,bc] at C;subst C;simp only at z;cases ag:asInt (F o) with
     | none=>rw[ag] at z;cases z
     | some n=>
      obtain⟨k,hk⟩:=oi ag (j o);exact⟨k,n,hk⟩)
   exact Good.mk (by simp[execOp,h1]) D G Q
  ·cases g
 case lookup q m k aw=>exact H (fun c p=>Sw rel p (j m) (j k)) g
 case mapUpdate q m k x=>
  simp only[cO] at g;cases K:sb P h q (F m) (F k) (F x) with
  | none=>rw[K] at g;cases g
  | some h'=>
   rw[K] at g;simp only[cz,bc] at g;subst g;obtain⟨w',h1,D,G⟩:=IB (P:=P) rel K (j m) (j k) (j x);exact⟨undef,w',muZ,.inr ⟨by simp[execOp,h1],rfl⟩,D,G,.a1 [] #[] rfl (fun _ _ _ T=>by simp at T)⟩
 case insert q m k x=>
  simp only[cO] at g;cases K:sb P h q (F m) (F k) (F x) with
  | none=>rw[K] at g;cases g
  | some h'=>
   rw[K] at g;simp only[cz,bc] at g;subst g;obtain⟨w',h1,D,G⟩:=IB (P:=P) rel K (j m) (j k) (j x);exact⟨undef,w',muZ,.inr ⟨by simp[execOp,h1],rfl⟩,D,G,.a1 [] #[] rfl (fun _ _ _ T=>by simp at T)⟩
 case range q x=>exact ah (fun c h' p=>VI rel p (j x)) g
 case next it ar=>
  cases ar with
  | false=>simp only[cO] at g;cases g
  | true=>exact ah (fun c h' p=>by obtain⟨I,w',h1,D,G,Q⟩:=Te (P:=P) (ty:=type) rel p (j it);exact⟨I,w',muZ,h1,D,G,Q⟩) g
 case typeAssert x aE q aw=>
  simp only[cO] at g;split at g
  ·rename_i ai O;exact H (fun c p=>XB O p (j x)) g
  ·cases g
 all_goals (simp only[cO] at g;cases g)
end
end Go.bl

/-
  The canonical machine, part F: slicing, literals, make, copy, len, indexes, conversions.
-/
import Derived.Test.YtdjbnhgdhambnaaGreatDoorWa
import Derived.Lib.IndexBytes
import Derived.Laws.BytesString
import Derived.Lib.ConvBytes
import Derived.Stop.SameAnswer
set_option maxHeartbeats 16000000
set_option maxRecDepth 100000
set_option linter.unusedVariables false
set_option linter.unusedSimpArgs false
set_option linter.unnecessarySimpa false
namespace Go.bh
open Go
section
variable {P:bj} {w:aQ} {R:Nat->Prop} {B:Nat} {h:aH} {muZ:bZ}
theorem tF {x:U} {m:aA} {y n j:Nat} {code:BoundsCode} (g:gW x y=some n) (p:az w R h muZ x m) (q:y<=j) :
  n<=y/\(Instr.sliceBound m j code).run P w=.ok n w:=by
 unfold gW at g;cases p with
 | int k i=>
  simp only at g;split at g
  ·rename_i o;cases g;refine⟨F,?_⟩;have:(0<=i/\i<=(j:Int)):=⟨o.1,F⟩
   simp[Instr.sliceBound,asIntOf,this]
  ·cases g
 | _=>simp at g
def rI (w:aQ) (R:Nat->Prop) (h:aH) (muZ:bZ) :Option U->Option aA->Prop
 | none,none=>True
 | some c,some g=>az w R h muZ c g
 | _,_=>False
theorem qv {B G C:Option U} {p z H:Option aA} {isS:Bool} {len cap cap' l m D:Nat} (g:e6 len cap B G C=some (l,D,m)) (S:len<=cap) (Q:cap<=cap')
  (h1:rI w R h muZ B p) (v:rI w R h muZ G z) (J:rI w R h muZ C H) :
  l<=D/\D<=m/\m<=cap/\(C=none->m=cap)/\(Instr.sliceBounds isS len cap' p z H).run P w=.ok (l,D,if C.isSome then m else cap') w:=by
 unfold e6 at g;cases C with
 | none=>
  cases H with
  | some u=>exact J.elim
  | none=>
   simp only at g;cases G with
   | none=>
    cases z with
    | some u=>exact v.elim
    | none=>
     simp only at g;cases B with
     | none=>
      cases p with
      | some u=>exact h1.elim
      | none=>
       simp only[bd,Prod.mk.injEq] at g;obtain⟨rfl,rfl,rfl⟩:=g;exact⟨F,S,aI _,fun _=>rfl,by simp[Instr.sliceBounds]⟩
     | some c=>
      cases p with
      | none=>exact h1.elim
      | some u=>
       simp only at g;cases o:gW c len with
       | none=>rw[o] at g;cases g
       | some V=>
        rw[o] at g;simp only[bd,Prod.mk.injEq] at g;obtain⟨rfl,rfl,rfl⟩:=g;have j:=tF (P:=P) (code:=.sliceB) o h1 (aI _);exact⟨j.1,S,aI _,fun _=>rfl,by simp[Instr.sliceBounds,j.2]⟩
   | some I=>
    cases z with
    | none=>exact v.elim
    | some Y=>
     simp only at g;cases q:gW I cap with
     | none=>rw[q] at g;cases g
     | some h'=>
      rw[q] at g;simp only at g;have j:=tF (P:=P) (code:=if isS then .sliceAcap else .sliceAlen) q v Q;cases B with
      | none=>
       cases p with
       | some u=>exact h1.elim
       | none=>
        simp only[bd,Prod.mk.injEq] at g;obtain⟨rfl,rfl,rfl⟩:=g;exact⟨F,j.1,aI _,fun _=>rfl,by simp[Instr.sliceBounds,j.2]⟩
      | some c=>
       cases p with
       | none=>exact h1.elim
       | some u=>
        simp only at g;cases o:gW c h' with
        | none=>rw[o] at g;cases g
        | some V=>
         rw[o] at g;simp only[bd,Prod.mk.injEq] at g;obtain⟨rfl,rfl,rfl⟩:=g;have t:=tF (P:=P) (code:=.sliceB) o h1 (aI _);exact⟨t.1,j.1,aI _,fun _=>rfl,by simp[Instr.sliceBounds,j.2,t.2]⟩
 | some W=>
  cases H with
  | none=>exact J.elim
  | some Z=>
   simp only at g;cases O:gW W cap with
   | none=>rw[O] at g;cases g
   | some X=>
    rw[O] at g;simp only at g;have j:=tF (P:=P) (code:=if isS then .slice3Acap else .slice3Alen) O J Q;cases G with
    | none=>cases g
    | some I=>
     cases z with
     | none=>exact v.elim
     | some Y=>
      simp only at g;cases q:gW I X with
      | none=>rw[q] at g;cases g
      | some h'=>
       rw[q] at g;simp only at g;have t:=tF (P:=P) (code:=.slice3B) q v (aI _);cases B with
       | none=>
        cases p with
        | some u=>exact h1.elim
        | none=>
         simp only[bd,Prod.mk.injEq] at g;obtain⟨rfl,rfl,rfl⟩:=g;exact⟨F,t.1,j.1,(fun K=>by cases K),by simp[Instr.sliceBounds,j.2,t.2]⟩
       | some c=>
        cases p with
        | none=>exact h1.elim
        | some u=>
         simp only at g;cases o:gW c h' with
         | none=>rw[o] at g;cases g
         | some V=>
          rw[o] at g;simp only[bd,Prod.mk.injEq] at g;obtain⟨rfl,rfl,rfl⟩:=g;have T:=tF (P:=P) (code:=.slice3C) o h1 (aI _);exact⟨T.1,t.1,j.1,(fun K=>by cases K),by simp[Instr.sliceBounds,j.2,t.2,T.2]⟩
theorem GH {z:Nat}:∀ (n:Nat) (cs:ag),(lP z n cs).length=n
 | 0,_=>rfl
 | n+1,cs=>by simp[lP,GH n]
theorem GG {z:Nat}:∀ (n:Nat) (cs:ag) (i:Nat),i<n->(lP z n cs)[i]?=some ((cs.drop (i*z)).take z)
 | 0,_,_,h=>F
 | n+1,cs,0,_=>by simp[lP]
 | n+1,cs,i+1,h=>by
  simp only[lP,jg];rw[GG n _ i F,vd];congr 3;rw[eu];omega
theorem LH (rel:bw R B w h muZ) {z b off cap sz l j m o cap' : Nat} {cs:ag} {g:M} {hasMax:Bool} (u:h.f b=.cells sz cs) (C:muZ b=some g) (X:off+cap*z<=sz)
  (J:(off+cap*z<sz/\cap'=cap)\/(off+cap*z=sz/\cap<=cap'/\g.s+off+cap'*z<=g.T)) (h1:l<=j) (U:j<=m) (H:m<=cap) (I:hasMax=false->m=cap)
  (D:o=if hasMax then m else cap') (W:m≠l) :
  az w R h muZ (.ad z b (off+l*z) (j - l) (m - l) sz) (.slice (some ((⟨g.r,g.s+off,none⟩:Addr).add (l*z))) (j - l) (o - l)):=by
 have v:=rel.blk b g C;rw[u] at v;have V:=v.2.1;rw[Addr.jP,iW];have P:l*z+(m - l)*z=m*z:=by rw[<-eV];congr 1;omega
 have Q:m*z<=cap*z:=cn _ H;refine .ad z b _ _ _ sz _ cs g u C F F ?_;cases hasMax with
 | false=>
  have G:=I rfl;have t:o=cap':=by simpa using D
  rw[t];rcases J with ⟨p,q⟩ | ⟨p,q,O⟩
  ·rw[<-G] at p q;exact .inl ⟨F,F⟩
  ·rw[<-G] at p q;refine .inr ⟨F,F,?_⟩;have S:l*z+(cap' - l)*z=cap'*z:=by rw[<-eV];congr 1;omega
   omega
 | true=>
  have t:o=m:=by simpa using D
  rw[t];by_cases K:off+l*z+(m - l)*z<sz
  ·exact .inl ⟨K,rfl⟩
  ·exact .inr ⟨F,aI _,F⟩
theorem extract_toList (s:ByteArray) (a b:Nat) :(s.extract a b).data.toList=(s.data.toList.drop a).take (b - a):=by simp[ByteArray.extract,ByteArray.copySlice,List.take_drop]
theorem az.WS (z:Nat) (p:Prop) [Decidable p] (a b:Addr) (cap:Nat) :az w R h muZ (.bn z []) (.slice (if p then some a else some b) 0 cap):=by
 by_cases g:p
 ·rw[aj g];exact .eN _ _ _
 ·rw[ak g];exact .eN _ _ _
theorem az.LF (z b off len cap sz cap' : Nat) (p:Prop) [Decidable p] (a q:Addr) (m:len<=cap) (g:cap<=cap') (j:qk h b sz) :
  az w R h muZ (.ad z b off len cap sz) (.slice (if p then some a else some q) len cap'):=by
 by_cases o:p
 ·rw[aj o];exact .fk _ _ _ _ _ _ _ _ m g j
 ·rw[ak o];exact .fk _ _ _ _ _ _ _ _ m g j
theorem Xz (rel:bw R B w h muZ) {t:aC} {x c:U} {aO:aA} {aq am u:Option U} {aR I aL:Option aA} (g:xl P t x aq am u=some c) (ap:az w R h muZ x aO)
  (h1:rI w R h muZ aq aR) (ae:rI w R h muZ am I) (W:rI w R h muZ u aL) :
  ∃ v,(Instr.sliceAt t aO aR I aL).run P w=.ok v w/\az w R h muZ c v:=by
 unfold xl at g;split at g
 ·-- an array behind its address
  rename_i n e K;cases H:b5 P e with
  | none=>rw[H] at g;cases g
  | some z=>
  cases o:e6 n n aq am u with
  | none=>rw[H,o] at g;cases g
  | some Z=>
  obtain⟨l,j,m⟩:=Z;rw[H,o] at g;simp only at g;obtain⟨Y,Q,S,J,C⟩:=qv (P:=P) (isS:=false) o (aI _) (aI _) h1 ae W;have aY:(if u.isSome=true then m else n)=m:=by
   cases u with
   | none=>simp[J rfl]
   | some v=>simp
  rw[aY] at C;split at g
  ·rename_i b q aB;split at g
   ·rename_i aQ;have a9:∃ a,aO=.pointer (some a):=by cases ap<;>exact⟨_,rfl⟩
    obtain⟨a,rfl⟩:=a9;refine⟨_,by simp[Instr.sliceAt,b8 K,Instr.sureAddr,C,eI H];rfl,?_⟩;split at g
    ·rename_i G;cases g;have:j - l=0:=F;rw[this];exact .eN _ _ _
    ·rename_i G;cases g;rw[ak G];cases ap with
     | ptr _ _ _ cs al ag ai=>
      exact LH rel (cap:=m) (cap':=m) (hasMax:=true) ag ai aQ (by
       have aP:=rel.blk b al ai;rw[ag] at aP;have bg:=aP.2.1;by_cases a4:q+m*z<aB
       ·exact .inl ⟨a4,rfl⟩
       ·exact .inr ⟨F,aI _,F⟩) Y Q (aI _) (fun aG=>by cases aG) V G
     | jb _ _ _ _ ax=>exact .fk _ _ _ _ _ _ _ _ F (aI _) ax
   ·cases g
  ·rename_i cs q;split at g
   ·rename_i aQ;cases g;cases ap with
    | b0 _ _ aD aM aN aF aH=>
     refine⟨_,by simp[Instr.sliceAt,b8 K,Instr.sureAddr,C,eI H];rfl,?_⟩;have bf:j*z<=n*z:=cn _ F;by_cases G:m=l
     ·have av:j - l=0:=F;rw[av];exact .eN _ _ _
     ·rw[ak G,Addr.jP];have ao:=GH (z:=z) (j - l) (cs.drop (q+l*z));have aV:∀ i,i<j - l->∀ p,p<z->q+l*z+(i*z+p)<cs.length:=by
       intro i I p O;have:(l+i+1)*z<=j*z:=cn _ F;rw[eV,eV] at this;omega
      have ay:∀ i la,(lP z (j - l) (cs.drop (q+l*z)))[i]?=some la->i<j - l/\la=((cs.drop (q+l*z)).drop (i*z)).take z:=by
       intro i la D;have I:i<j - l:=by
        have:=(aK.1 D).1;omega
       rw[GG _ _ _ I] at D;simp only[bd] at D;exact⟨I,D.symm⟩
      have:=az.bn (w:=w) (R:=R) (h:=h) (muZ:=muZ) z (lP z (j - l) (cs.drop (q+l*z))) aD (aM+q+l*z) (m - l) (fun i p=>aN (q+l*z+(i*z+p))) F
       (fun la D=>by
        obtain⟨i,I,rfl⟩:=Fh D;obtain⟨aS,aT⟩:=ay i _ (bI I);rw[aT,cO,iT,iT];have:(l+i+1)*z<=j*z:=cn _ F;rw[eV,eV] at this;omega)
       (fun i p I O=>by
        have:=aF (q+l*z+(i*z+p)) (aV i F p O);have aE:aM+q+l*z+(i*z+p)=aM+(q+l*z+(i*z+p)):=F;rw[aE];exact this)
       (fun i la D p c O=>by
        obtain⟨aS,rfl⟩:=ay i _ D;have aZ:p<z:=by
         have:=(aK.1 O).1;rw[cO] at this;omega
        rw[dU aZ,gB,gB,] at O;exact aH _ c O)
      rw[ao] at this;exact this
   ·cases g
  ·cases g
 ·-- a slice
  rename_i e K;split at g
  ·rename_i z bc b q len cap aB H;split at g
   ·rename_i aJ;subst aJ;cases o:e6 len cap aq am u with
    | none=>rw[o] at g;cases g
    | some Z=>
    obtain⟨l,j,m⟩:=Z;rw[o] at g;simp only[cz,bd] at g;cases ap with
    | ad _ _ _ _ _ _ cap' cs al ag ai ao a7 X=>
     have aU:cap<=cap':=by rcases X with X | X<;>omega
     obtain⟨Y,Q,S,J,C⟩:=qv (P:=P) (isS:=true) o ao aU h1 ae W;refine⟨_,by simp[Instr.sliceAt,Instr.slice,b8 K,C,eI H];rfl,?_⟩;split at g
     ·rename_i G;subst g;have:j - l=0:=F;rw[this];by_cases aw:(if u.isSome=true then m else cap')=l
      ·rw[aj aw,aw,tk];exact .gw _ _ _ _ _ _ al ag ai
      ·rw[ak aw];cases u with
       | some v=>exact bP (by simpa using G) aw
       | none=>
        have bi:=J rfl;simp only[rE,jJ,if_false] at aw ⊢;have aW:cap=l:=F;have bh:q+cap*z=aB/\cap<=cap'/\al.s+q+cap'*z<=al.T:=by rcases X with X | X<;>omega
        have bj:l*z+(cap' - l)*z=cap'*z:=by rw[<-eV];congr 1;omega
        subst aW;rw[Addr.jP];have:=az.ad (w:=w) (R:=R) (h:=h) (muZ:=muZ) z b (q+cap*z) 0 0 aB (cap' - cap) _ al ag ai (aI _) F (.inr ⟨F,F,F⟩)
        rwa [<-iW] at this
     ·rename_i G;subst g;have a6:¬ ((if u.isSome=true then m else cap')=l):=by
       cases u with
       | none=>have:=J rfl;simp;omega
       | some v=>simpa using G
      rw[ak a6];exact LH rel (hasMax:=u.isSome) ag ai a7 X Y Q S (fun aG=>J (by simpa using aG)) rfl G
    | gw _ _ _ _ a cs al ag ai=>
     obtain⟨Y,Q,S,J,C⟩:=qv (P:=P) (isS:=true) o (aI 0) (aI 0) h1 ae W;refine⟨_,by simp[Instr.sliceAt,Instr.slice,b8 K,C,eI H];rfl,?_⟩;have a5:m=0:=by
      cases u with
      | none=>exact J rfl
      | some v=>simp at S;omega
     have a0:l=0:=F;have aX:j=0:=F;subst a5 a0 aX;simp only[if_true] at g;subst g;simp;exact .gw _ _ _ _ _ _ al ag ai
    | fk _ _ _ _ _ _ cap' a ao X ax=>
     obtain⟨Y,Q,S,J,C⟩:=qv (P:=P) (isS:=true) o ao X h1 ae W;refine⟨_,by simp[Instr.sliceAt,Instr.slice,b8 K,C,eI H];rfl,?_⟩;split at g
     ·rename_i G;subst g;have:j - l=0:=F;rw[this];exact az.LF _ _ _ _ _ _ _ _ _ _ (aI _) (ek _) ax
     ·rename_i G;subst g;have a2:m<=(if u.isSome=true then m else cap'):=by split<;>omega
      exact az.LF _ _ _ _ _ _ _ _ _ _ F F ax
   ·cases g
  ·rename_i z bc ar H;split at g
   ·rename_i aJ;subst aJ;cases o:e6 ar.length ar.length aq am u with
    | none=>rw[o] at g;cases g
    | some Z=>
    obtain⟨l,j,m⟩:=Z;rw[o] at g;simp only[cz,bd] at g;subst g;cases ap with
    | bn _ _ aD q cap aN ao bb aF aH=>
     obtain⟨Y,Q,S,J,C⟩:=qv (P:=P) (isS:=true) o (aI _) ao h1 ae W;refine⟨_,by simp[Instr.sliceAt,Instr.slice,b8 K,C,eI H];rfl,?_⟩;have a3:((ar.drop l).take (j - l)).length=j - l:=by rw[cO,iT];omega
     have a2:j<=(if u.isSome=true then m else cap):=by
      cases u with
      | none=>simp only[rE,jJ,if_false];omega
      | some v=>simpa using Q
     by_cases G:(if u.isSome=true then m else cap)=l
     ·have av:j - l=0:=F;rw[aj G,av,nb];exact .eN _ _ _
     ·rw[ak G,Addr.jP];have ay:∀ i la,((ar.drop l).take (j - l))[i]?=some la->i<j - l/\ar[l+i]?=some la:=by
       intro i la D;have I:i<j - l:=by
        have:=(aK.1 D).1;omega
       rw[dU I,gB] at D;exact⟨I,D⟩
      have:=az.bn (w:=w) (R:=R) (h:=h) (muZ:=muZ) z ((ar.drop l).take (j - l)) aD (q+l*z) ((if u.isSome=true then m else cap) - l) (fun i p=>aN (l+i) p) F
       (fun la D=>bb la (tf (gh D)))
       (fun i p I O=>by
        have:=aF (l+i) p F O;have aE:q+l*z+(i*z+p)=q+((l+i)*z+p):=by rw[eV];omega
        rw[aE];exact this)
       (fun i la D p c O=>aH (l+i) la (ay i la D).2 p c O)
      rw[a3] at this;exact this
    | eN _ a cap=>
     obtain⟨Y,Q,S,J,C⟩:=qv (P:=P) (isS:=true) o (aI _) (ek cap) h1 ae W;refine⟨_,by simp at C;simp[Instr.sliceAt,Instr.slice,b8 K,C,eI H];rfl,?_⟩;have av:j - l=0:=by simp at S;omega
     rw[av,nb];exact az.WS _ _ _ _ _
   ·cases g
  ·rename_i z H;cases ap;cases o:e6 0 0 aq am u with
   | none=>rw[o] at g;cases g
   | some Z=>
   obtain⟨l,j,m⟩:=Z;rw[o] at g;simp only[cz,bd] at g;subst g;obtain⟨Y,Q,S,J,C⟩:=qv (P:=P) (isS:=true) o (aI _) (aI _) h1 ae W;obtain rfl:m=0:=F;obtain rfl:j=0:=F;obtain rfl:l=0:=F;refine⟨_,by simp[Instr.sliceAt,Instr.slice,b8 K,C,eI H];rfl,?_⟩;exact .af
  ·cases g
 ·-- a string
  rename_i s K;split at g
  ·cases ap with
   | str au=>
    cases o:e6 au.data.toList.length au.data.toList.length aq am none with
    | none=>rw[o] at g;cases g
    | some Z=>
    obtain⟨l,j,m⟩:=Z;rw[o] at g;simp only[cz,bd] at g;subst g;cases aL with
    | some v=>exact W.elim
    | none=>
     have a8:au.data.toList.length=au.size:=V;rw[a8] at o;obtain⟨Y,Q,S,J,C⟩:=qv (P:=P) (isS:=false) o (aI _) (aI _) h1 ae W;refine⟨.string (au.extract l j),by simp[Instr.sliceAt,Instr.slice,b8 K,C],?_⟩;rw[<-extract_toList];exact .str _
  ·cases g
 ·cases g
end
section
variable {P:bj} {w:aQ} {R:Nat->Prop} {B:Nat} {h:aH} {muZ:bZ}
def i1 (w:aQ) (R:Nat->Prop) (h:aH) (muZ:bZ) (cs:ag) (arr:Array aA) :Prop:=
 arr.size=cs.length/\∀ (j:Nat) (c:U),cs[j]?=some c->∃ g:aA,arr[j]?=some g/\g.oneCell'=true/\az w R h muZ c g
theorem i1.ah {cs:ag} {arr:Array aA} (j:i1 w R h muZ cs arr) :az w R h muZ (.ah cs) (.agg arr):=by
 refine .ah _ _ j.1 (fun m v g=>?_) (fun m c v q g=>?_)
 ·have t:m<cs.length:=by have:=(ib.1 g).1;rw[<-j.1];exact this
  obtain⟨u,h1,o,_⟩:=j.2 m _ (bI t);rw[g] at h1;cases h1;exact o
 ·obtain⟨u,h1,_,p⟩:=j.2 m c q;rw[g] at h1;cases h1;exact p
theorem HO:∀ (l:List aA) (k off:Nat) (cells:Array aA),off+k+l.length<=cells.size->
  ((l.zipIdx k).foldl (fun cs (g:aA × Nat)=>cs.setIfInBounds (off+g.2) g.1) cells).size=cells.size ∧
  ∀ j,((l.zipIdx k).foldl (fun cs (g:aA × Nat)=>cs.setIfInBounds (off+g.2) g.1) cells)[j]?=if off+k<=j/\j<off+k+l.length then l[j - (off+k)]? else cells[j]?
 | [],k,off,cells,_=>⟨V,fun j=>by simp;omega⟩
 | v::l,k,off,cells,p=>by
  simp only[dE] at p;have o:=HO l (k+1) off (cells.setIfInBounds (off+k) v) (by simp;omega);simp only[List.zipIdx_cons,xP];refine⟨by rw[o.1];simp,fun j=>?_⟩;rw[o.2 j];by_cases m:off+(k+1)<=j/\j<off+(k+1)+l.length
  ·rw[aj m,aj (by simp only[dE];omega)];have:j - (off+k)=(j - (off+(k+1)))+1:=F;rw[this,jg]
  ·rw[ak m,u7];by_cases h:off+k=j
   ·subst h;rw[aj rfl,aj F,aj (by simp only[dE];omega)];simp
   ·rw[ak h,ak (by simp only[dE];omega)]
theorem yC {I:Nat->Option (Nat × Nat)}:∀ (parts:List (Nat × U)) (B:List (Nat × aA)) (cs:ag) (arr:Array aA) (cs' : ag),
  ew I cs parts=some cs'->i1 w R h muZ cs arr->B.length=parts.length->(∀ (j:Nat) (p:Nat × U) (z:Nat × aA),parts[j]?=some p->B[j]?=some z->z.1=p.1/\az w R h muZ p.2 z.2)->
  ∃ arr',Instr.fill I arr B=some arr'/\i1 w R h muZ cs' arr'
 | [],[],cs,arr,cs',g,q,_,_=>by
  simp only[ew,bd] at g;subst g;exact⟨arr,rfl,q⟩
 | [],_::_,_,_,_,_,_,v,_=>by simp at v
 | _::_,[],_,_,_,_,_,v,_=>by simp at v
 | (i,c) ::parts,(S,o) ::B,cs,arr,cs',g,q,v,O=>by
  obtain⟨rfl,Q⟩:=O 0 (i,c) (S,o) rfl rfl;simp only at Q;unfold ew at g;cases C:I S with
  | none=>rw[C] at g;cases g
  | some al=>
  obtain⟨t,size⟩:=al;cases G:c.cells with
  | none=>rw[C,G] at g;cases g
  | some T=>
  rw[C,G] at g;simp only at g;split at g
  ·rename_i am;obtain⟨P,ae⟩:=yi Q G;have H:o.cells.toList.length=T.length:=by simpa using P
   have K:=HO o.cells.toList 0 t arr (by rw[q.1,H];omega);have ai:o.cells.zipIdx.foldl (fun cs (x:aA × Nat)=>match x with | (c,j)=>cs.setIfInBounds (t+j) c) arr=(o.cells.toList.zipIdx 0).foldl (fun cs (J:aA × Nat)=>cs.setIfInBounds (t+J.2) J.1) arr:=by
    rw[<-Array.foldl_toList];simp
   obtain⟨arr',h1,D⟩:=yC parts B (ax cs t T) (o.cells.zipIdx.foldl (fun cs (x:aA × Nat)=>match x with | (c,j)=>cs.setIfInBounds (t+j) c) arr) cs' g (by
     rw[ai];refine⟨by rw[K.1,q.1,oQ F];omega,fun j x m=>?_⟩;rw[K.2 j];rw[Er F] at m;split at m
     ·rename_i ao;rw[ak F];exact q.2 j x m
     ·split at m
      ·rename_i h1 D;rw[aj (by rw[H];omega)];obtain⟨u,V,W,X⟩:=ae _ x m;exact⟨u,by simpa using V,W,X⟩
      ·rename_i h1 D;rw[ak (by rw[H];omega)];exact q.2 j x m) (by simpa using v) (fun j p z m Y=>O (j+1) p z (by simpa using m) (by simpa using Y))
   refine⟨arr',?_,D⟩;have Z:¬ (o.cells.size≠size\/t+o.cells.size > arr.size):=by rw[P,q.1];omega
   simp only[Instr.fill,C];rw[ak (by simpa using Z)];exact h1
  ·cases g
theorem rp {t:aC} {z:ag} (p:gd P t=some z) :∃ v,(∀ w2:aQ,(zeroValue t).run P w2=.ok v w2)/\i1 w R h muZ z v.cells:=by obtain⟨i,v,j,o,m,g⟩:=Nb (w:=w) (R:=R) (h:=h) (muZ:=muZ) p;exact⟨v,fun w2=>Lm j o,m,g⟩
theorem WZ {fs:Array Field} (j:(fs.toList.all fun f=>(b5 P f.type).isSome)=true) :
  (fs.mapM fun f=>(do pure (f.offset,<-sizeOf f.type) :Sem (Nat × Nat))).run P w=.ok ((fs.toList.map fun f=>(f.offset,(b5 P f.type).getD 0)).toArray) w:=by
 rw[Nd];simp only[Sem.run_map];have:∀ l:List Field,(l.all fun f=>(b5 P f.type).isSome)=true->(l.mapM fun f=>(do pure (f.offset,<-sizeOf f.type) :Sem (Nat × Nat))).run P w=.ok (l.map fun f=>(f.offset,(b5 P f.type).getD 0)) w:=by
  intro l
  induction l with
  | nil=>intro _;simp
  | cons f l m=>
   intro g;simp only[Fa,bH] at g;obtain⟨n,h⟩:=Nj.1 g.1;simp only[oY,Sem.run_bind,eI h,Result.andThen_ok,Sem.run_pure,m g.2,df,h,g8]
 rw[this _ j];rfl
theorem Pe {t:aC} {parts:List (Nat × U)} {u:Array (Nat × aA)} {c:U} (g:vH P t parts=some c) (I:u.size=parts.length)
  (J:∀ (j:Nat) (p:Nat × U) (q:Nat × aA),parts[j]?=some p->u[j]?=some q->q.1=p.1/\az w R h muZ p.2 q.2) :
  ∃ v,(Instr.build t u).run P w=.ok v w/\az w R h muZ c v:=by
 unfold vH at g;split at g
 ·rename_i zero fs H F;split at g
  ·cases g
  ·rename_i m;simp only[s8,Bool.not_eq_false] at m;cases o:ew (wZ P fs) zero parts with
   | none=>rw[o] at g;cases g
   | some cs=>
    rw[o] at g;simp only[cz,bd] at g;subst g;obtain⟨v,G,D⟩:=rp (w:=w) (R:=R) (h:=h) (muZ:=muZ) H;obtain⟨O,h1,z⟩:=yC parts u.toList zero v.cells cs o D (by simpa using I) (fun j p q B C=>J j p q B (by simpa using C));have T:(fun i=>((fs.toList.map fun f=>(f.offset,(b5 P f.type).getD 0)).toArray)[i]?)=wZ P fs:=by
     funext i;simp only[wZ];simp only[ve,bW,p8];cases Q:fs[i]? with
     | none=>simp
     | some f=>
      rw[gg] at m;have:=m f (by have:=xJ Q;simpa using this);obtain⟨n,S⟩:=Nj.1 this;simp[S]
    refine⟨_,?_,z.ah⟩;simp only[Instr.build,Sem.run_bind,G,Result.andThen_ok,b8 F,WZ m];rw[T,h1];simp
 ·rename_i zero n e H F;cases m:b5 P e with
  | none=>rw[m] at g;cases g
  | some K=>
   rw[m] at g;simp only at g;cases o:ew (fun i=>some (i*K,K)) zero parts with
   | none=>rw[o] at g;cases g
   | some cs=>
    rw[o] at g;simp only[cz,bd] at g;subst g;obtain⟨v,G,D⟩:=rp (w:=w) (R:=R) (h:=h) (muZ:=muZ) H;obtain⟨O,h1,z⟩:=yC parts u.toList zero v.cells cs o D (by simpa using I) (fun j p q B C=>J j p q B (by simpa using C));refine⟨_,?_,z.ah⟩;simp only[Instr.build,Sem.run_bind,G,Result.andThen_ok,b8 F,eI m];rw[h1];simp
 ·cases g
theorem sC {zero:ag}:∀ n,(cD zero n).length=n*zero.length
 | 0=>by simp[cD]
 | n+1=>by simp only[cD,cr,sC n,eu];omega
theorem KU {zero:ag}:∀ (n j:Nat) (c:U),(cD zero n)[j]?=some c->zero[j % zero.length]?=some c
 | 0,_,_,g=>by simp[cD] at g
 | n+1,j,c,g=>by
  simp only[cD] at g;by_cases h:j<zero.length
  ·rw[aV h] at g
   rwa [dR h]
  ·rw[et F] at g;have:=KU n _ c g
   rwa [<-Nat.mod_eq_sub_mod F] at this
theorem zR {zero:ag} {z:Array aA} (j:i1 w R h muZ zero z) (n:Nat) :i1 w R h muZ (cD zero n) ((Array.range (n*zero.length)).map (z[· % z.size]!)):=by
 refine⟨by simp[sC],fun m c g=>?_⟩;have t:m<n*zero.length:=by
  have:=(aK.1 g).1
  rwa [sC] at this
 obtain⟨u,h1,o,p⟩:=j.2 _ c (KU n m c g);refine⟨u,?_,o,p⟩;rw[<-j.1] at h1;obtain⟨q,rfl⟩:=ib.1 h1;simp[t,q]
theorem Q3 {z:Nat}:∀ (parts:List (Nat × U)) (a b:ag),ew (fun i=>some (i*z,z)) a parts=some b->b.length=a.length:=by
 intro parts
 induction parts with
 | nil=>intro a b g;simp only[ew,bd] at g;subst g;rfl
 | cons p parts h=>
  intro a b g;unfold ew at g;split at g
  ·rename_i o size q j m;split at g
   ·rw[h _ _ g,oQ F];omega
   ·cases g
  ·cases g
theorem Gr {t e:aC} {len z:Nat} {zero cs:ag} {parts:List (Nat × U)} {m:Array (Nat × aA)} (D:gm P t=some e) (T:b5 P e=some z) (V:gd P e=some zero) (v:zero.length=z) (X:len*z<=16777216)
  (q:ew (fun i=>some (i*z,z)) (cD zero len) parts=some cs) (I:m.size=parts.length)
  (K:∀ (j:Nat) (p:Nat × U) (g:Nat × aA),parts[j]?=some p->m[j]?=some g->g.1=p.1/\az w R h muZ p.2 g.2) :
  cs.length=len*z/\∃ arr,(Instr.buildSlice t len m).run P w=.ok (.slice (some ⟨w.heap.size,0,none⟩) len len) (w.alloc (.cells arr e))/\i1 w R h muZ cs arr:=by
 obtain⟨Y,S,O⟩:=rp (w:=w) (R:=R) (h:=h) (muZ:=muZ) V;obtain⟨B,h1,C⟩:=yC parts m.toList _ _ cs q (zR O len) (by simpa using I) (fun j p g G H=>K j p g G (by simpa using H));refine⟨by rw[Q3 _ _ _ q,sC,v],B,?_,C⟩;have Q:=vX D;have J:¬ (len*z > 2 ^ 24):=F;simp only[Instr.buildSlice,Sem.run_bind,b8 Q,Result.andThen_ok,eI T,ak J];rw[v] at h1;generalize W:len*z=N at h1;by_cases o:N=0
 ·subst o;have u:∀ f:Nat->aA,(Array.range 0).map f=#[]:=fun f=>by simp[Array.range]
  rw[u] at h1;simp[u,h1,newRow]
 ·simp[o,S,h1,newRow]
theorem Pd (rel:bw R B w h muZ) {t:aC} {len:Nat} {parts:List (Nat × U)} {H:Array (Nat × aA)} {c:U} {h' : aH} (g:ye P h t len parts=some (c,h')) (S:H.size=parts.length)
  (W:∀ (j:Nat) (p:Nat × U) (G:Nat × aA),parts[j]?=some p->H[j]?=some G->G.1=p.1/\az w R h muZ p.2 G.2) :
  ∃ v w' muZ',(Instr.buildSlice t len H).run P w=.ok v w'/\cS w h muZ w' h' muZ'/\bw R B w' h' muZ'/\az w' R h' muZ' c v:=by
 unfold ye at g;cases z:gm P t with
 | none=>rw[z] at g;cases g
 | some e=>
 rw[z] at g;simp only at g;cases q:b5 P e with
 | none=>rw[q] at g;cases g
 | some m=>
 cases D:gd P e with
 | none=>rw[q,D] at g;cases g
 | some zero=>
 rw[q,D] at g;simp only at g;split at g
 ·rename_i Q;obtain⟨Y,T⟩:=Q;cases C:ew (fun i=>some (i*m,m)) (cD zero len) parts with
  | none=>rw[C] at g;cases g
  | some cs=>
   rw[C] at g;simp only[cz,bd,Prod.mk.injEq] at g;obtain⟨rfl,rfl⟩:=g;obtain⟨J,o,X,u⟩:=Gr z q D Y T C S W;have I:=ya rel (cs:=cs) (vs:=o) e u.1 u.2;rw[J] at I;obtain⟨K,O,Z⟩:=I;refine⟨.slice (some ⟨w.heap.size,0,none⟩) len len,_,_,X,K,O,?_⟩;have:=az.ad (w:=w.alloc (.cells o e)) (R:=R) (h:=h.push (.cells (len*m) cs)) (muZ:=bm muZ h.n (some ⟨w.heap.size,0,o.size⟩)) m h.n 0 len len (len*m) len cs ⟨w.heap.size,0,o.size⟩ (by simp[dY]) V (aI _) F
    (.inr ⟨F,aI _,by simp only;rw[u.1,J];omega⟩)
   simpa using this
 ·cases g
theorem IV {t e:aC} {z by_:Nat} {zero:ag} {kl kc:cV} {li kt:Int} (D:gm P t=some e) (v:b5 P e=some z) (g:gO P e=some by_) (O:gd P e=some zero) (C:zero.length=z)
  (Q:0<=li) (T:li<=kt) (S:kt<9223372036854775808) (I:by_*kt<=dk) :
  (cD zero kt.toNat).length=kt.toNat*z/\∃ arr,(Instr.makeSlice t (.int kl li) (.int kc kt)).run P w=.ok (.slice (some ⟨w.heap.size,0,none⟩) li.toNat kt.toNat) (w.alloc (.cells arr e))/\i1 w R h muZ (cD zero kt.toNat) arr:=by
 obtain⟨U,K,H⟩:=rp (w:=w) (R:=R) (h:=h) (muZ:=muZ) O;have J:=zR H kt.toNat
 refine⟨by rw[sC,C],_,?_,J⟩;obtain⟨i,j,o⟩:∃ i,P.info? e=some i/\i.bytes=by_:=by
  unfold gO at g;cases j:P.info? e with
  | none=>rw[j] at g;cases g
  | some i=>rw[j] at g;exact⟨i,rfl,by simpa using g⟩
 have u:IntKind.i64.wrap li=li:=IntWalk.i64_in _ F;have q:IntKind.i64.wrap kt=kt:=IntWalk.i64_in _ F;have p:=vX D;unfold dk at I;have t1:¬ (kt<0\/(281474976710656:Int)<(by_:Int)*kt):=F;have t2:¬ (li<0):=F;have t3:¬ (kt<li):=F;rw[C];generalize m:kt.toNat*z=N;by_cases B:N=0
 ·subst B;have G:∀ f:Nat->aA,(Array.range 0).map f=#[]:=fun f=>by simp[Array.range]
  simp[G,Instr.makeSlice,b8 p,Go.asInt,asIntOf,typeInfo,j,o,u,q,t1,t2,t3,eI v,m,newRow]
 ·simp[Instr.makeSlice,b8 p,Go.asInt,asIntOf,typeInfo,j,o,u,q,t1,t2,t3,eI v,m,B,K,newRow]
theorem Tk (rel:bw R B w h muZ) {t:aC} {l c r:U} {H z:aA} {h' : aH} (g:y9 P h t l c=some (r,h')) (X:az w R h muZ l H) (O:az w R h muZ c z) :
  ∃ v w' muZ',(Instr.makeSlice t H z).run P w=.ok v w'/\cS w h muZ w' h' muZ'/\bw R B w' h' muZ'/\az w' R h' muZ' r v:=by
 unfold y9 at g;split at g
 ·rename_i e G j W Z S;obtain⟨ak,rfl⟩:=oa Z X;obtain⟨aj,rfl⟩:=oa S O;cases m:b5 P e with
  | none=>rw[m] at g;cases g
  | some u=>
  cases o:gO P e with
  | none=>rw[m,o] at g;cases g
  | some am=>
  cases q:gd P e with
  | none=>rw[m,o,q] at g;cases g
  | some zero=>
  rw[m,o,q] at g;simp only at g;split at g
  ·rename_i T;obtain⟨ai,K,Y,Q,ae⟩:=T;simp only[bd,Prod.mk.injEq] at g;obtain⟨rfl,rfl⟩:=g;obtain⟨D,arr,ag,p⟩:=IV (w:=w) (R:=R) (h:=h) (muZ:=muZ) (kl:=ak) (kc:=aj) W m o q ai K Y Q ae;have C:=ya rel (cs:=cD zero j.toNat) e p.1 p.2;rw[D] at C;obtain⟨I,J,al⟩:=C;refine⟨.slice (some ⟨w.heap.size,0,none⟩) G.toNat j.toNat,_,_,ag,I,J,?_⟩;have:=az.ad (w:=w.alloc (.cells arr e)) (R:=R) (h:=h.push (.cells (j.toNat*u) (cD zero j.toNat))) (muZ:=bm muZ h.n (some ⟨w.heap.size,0,arr.size⟩))
    u h.n 0 G.toNat j.toNat (j.toNat*u) j.toNat (cD zero j.toNat) ⟨w.heap.size,0,arr.size⟩ (by simp[dY]) V F F
    (.inr ⟨F,aI _,by simp only;rw[p.1,D];omega⟩)
   simpa using this
  ·cases g
 ·cases g
theorem SV {t u:aC} {ty:aC} {x c:U} {p:aA} (j:se P t x=some c) (m:az w R h muZ x p) :∃ v,(Builtin.len_ #[t] ty #[p]).run P w=.ok v w/\az w R h muZ c v:=by
 unfold se at j;split at j<;>(try (simp only[bd] at j;subst j))
 ·rename_i s g;cases m;rename_i o;exact⟨goInt o.size,by simp[Builtin.len_,b8 g],by rw[show (o.data.toList.length:Int)=o.size from by simp];exact .int _ _⟩
 ·rename_i n e g;exact⟨goInt n,by simp[Builtin.len_,b8 g],.int _ _⟩
 ·rename_i e g;cases m;exact⟨goInt (0:Nat),by simp[Builtin.len_,b8 g],.int _ _⟩
 ·rename_i e z b B len cap C g;cases m
  ·exact⟨goInt len,by simp[Builtin.len_,b8 g],.int _ _⟩
  ·exact⟨goInt len,by simp[Builtin.len_,b8 g],.int _ _⟩
  ·exact⟨goInt (0:Nat),by simp[Builtin.len_,b8 g],.int _ _⟩
 ·rename_i e z q g;cases m
  ·exact⟨goInt q.length,by simp[Builtin.len_,b8 g],.int _ _⟩
  ·exact⟨goInt (0:Nat),by simp[Builtin.len_,b8 g],.int _ _⟩
 ·rename_i k e g;cases m;exact⟨goInt 0,by simp[Builtin.len_,b8 g],.int _ _⟩
 ·cases j
end
section
variable {P:bj} {w:aQ} {R:Nat->Prop} {B:Nat} {h:aH} {muZ:bZ}
theorem qY {t:aC} {cs:ag} {vs:Array aA} {off:Nat} {c:U} (g:gv P t cs off=some c) (m:i1 w R h muZ cs vs) :
  ∃ v,(∀ w2:aQ,(part t vs off).run P w2=.ok v w2)/\az w R h muZ c v:=by
 unfold gv at g;cases j:dC P t with
 | none=>rw[j] at g;cases g
 | some b=>
  rw[j] at g;cases b with
  | false=>
   simp only at g;obtain⟨v,h1,_,o⟩:=m.2 off c g;exact⟨v,fun w2=>by simp[part,zW j,h1],o⟩
  | true=>
   cases q:b5 P t with
   | none=>rw[q] at g;cases g
   | some n=>
    rw[q] at g;simp only at g;split at g
    ·rename_i C;cases g;refine⟨.agg (vs.extract off (off+n)),fun w2=>by simp[part,zW j,eI q],i1.ah ⟨by simp;rw[m.1];omega,fun B c p=>?_⟩⟩;have z:B<n:=by
      have:=(aK.1 p).1;rw[cO] at this;omega
     rw[dU z,gB] at p;obtain⟨v,h1,u,o⟩:=m.2 _ c p;refine⟨v,?_,u,o⟩;rw[Array.getElem?_extract,aj (by rw[m.1];omega)];exact h1
    ·cases g
theorem qs {cs:ag} {p:aA} (t:az w R h muZ (.ah cs) p) :∃ vs,p=.agg vs/\i1 w R h muZ cs vs:=by
 cases t with
 | ah _ vs o h1 q=>
  refine⟨vs,rfl,o,fun g c m=>?_⟩;have j:g<vs.size:=by rw[o];exact (aK.1 m).1
  exact⟨vs[g],by simp[j],h1 g _ (by simp[j]),q g c _ m (by simp[j])⟩
theorem QZ {t:aC} {cs:ag} {f:Nat} {g:Field} {c:U} {j:aA} (o:r1 P t f=some g) (q:gv P g.type cs g.offset=some c) (B:az w R h muZ (.ah cs) j) :
  ∃ v,(Instr.field t j f).run P w=.ok v w/\az w R h muZ c v:=by obtain⟨C,z,p⟩:=Hu o;obtain⟨D,rfl,u⟩:=qs B;obtain⟨v,h1,m⟩:=qY (P:=P) q u;exact⟨v,by simp[Instr.field,b8 z,p,asAgg,h1],m⟩
theorem Cv {t:aC} {x D c:U} {F C:aA} (g:ua P t x D=some c) (B:az w R h muZ x F) (z:az w R h muZ D C) :
  ∃ v,(Instr.index t F C).run P w=.ok v w/\az w R h muZ c v:=by
 unfold ua at g;split at g
 ·rename_i n e cs i q p;obtain⟨k,rfl⟩:=oa p z;cases u:b5 P e with
  | none=>rw[u] at g;cases g
  | some Q=>
   rw[u] at g;simp only at g;split at g
   ·rename_i o;obtain⟨O,rfl,K⟩:=qs B;obtain⟨v,h1,G⟩:=qY (P:=P) g K;exact⟨v,by simp[Instr.index,asIntOf,b8 q,o,eI u,h1],G⟩
   ·cases g
 ·rename_i s i q p;obtain⟨k,rfl⟩:=oa p z;split at g
  ·rename_i o;cases B with
   | str j=>
    cases m:j.data.toList[i.toNat]? with
    | none=>rw[m] at g;cases g
    | some b=>
     rw[m] at g;simp only[cz,bd] at g;subst g;have J:i.toNat<j.size:=by have:=(aK.1 m).1;simpa using this
     have I:j[i.toNat]?=some b:=by
      have H:=(aK.1 m).2;rw[getElem?_pos j i.toNat J];simp only[bd];rw[<-H];rfl
     exact⟨.int .u8 b.toNat,by simp[Instr.index,asIntOf,b8 q,o,I],.int _ _⟩
  ·cases g
 ·cases g
theorem P5 (rel:bw R B w h muZ) {t u ty:aC} {d x c:U} {V ao:aA} {h' : aH} (g:tO P h t d x=some (c,h')) (Z:az w R h muZ d V) (S:az w R h muZ x ao) :
  ∃ v w',(Builtin.copy_ #[t,u] ty #[V,ao]).run P w=.ok v w'/\cS w h muZ w' h' muZ/\bw R B w' h' muZ/\az w' R h' muZ c v:=by
 unfold tO at g;cases H:gm P t with
 | none=>rw[H] at g;cases g
 | some e=>
 rw[H] at g;simp only at g;cases p:b5 P e with
 | none=>rw[p] at g;cases g
 | some z=>
 rw[p] at g;simp only at g;cases G:contents h z x with
 | none=>rw[G] at g;cases g
 | some aE=>
 obtain⟨C,n⟩:=aE;rw[G] at g;simp only at g;have Q:=vX H;obtain⟨aN,K,aD,ai,I⟩:=qF (P:=P) rel G S;split at g
 ·simp only[bd,Prod.mk.injEq] at g;obtain⟨rfl,rfl⟩:=g;cases Z;have D:=I 0 (ek _) w (fun _=>rfl);refine⟨goInt (0:Nat),w,?_,.refl _ _ _,rel,.int _ _⟩;simp[Builtin.copy_,b8 Q,K,eI p,D]
 ·rename_i aQ b q len cap aP;cases j:h.f b with
  | cells m cs=>
   rw[j] at g;simp only at g;split at g
   ·rename_i au;obtain⟨rfl,rfl⟩:=au;simp only[bd,Prod.mk.injEq] at g;obtain⟨rfl,rfl⟩:=g;cases Z with
    | gw _ _ _ _ a T am aq O=>
     have D:=I 0 (ek _) w (fun _=>rfl);have aB:ax cs q []=cs:=by simp[ax]
     have aj:=rel.same (h':=h.set b (.cells m (ax cs q (C.take (min n 0*z))))) (by
      rw[dq,Nat.min_zero,tl,nb,aB];funext x;simp only[bm];split
      ·rename_i S;rw[S,j]
      ·rfl) rfl
     refine⟨goInt (0:Nat),w,?_,aj.1,aj.2,by rw[Nat.min_zero];exact .int _ _⟩;simp[Builtin.copy_,b8 Q,K,eI p,D,storeCells,Result.andThen]
    | fk _ _ _ _ _ _ ap a aw ar o=>
     exfalso;rcases o with o | ⟨aO,T,o,ae⟩
     ·rw[o] at j;cases j
     ·rw[o] at j;cases j;omega
    | ad _ _ _ _ _ _ ap T am aq O aw aM ar=>
     have Y:=rel.blk b am O;rw[j] at Y;obtain⟨aG,aF,_⟩:=Y;have aJ:min n len*z<=cap*z:=cn _ F;have aL:min n len*z<=n*z:=cn _ F;have ak:(C.take (min n len*z)).length=min n len*z:=by rw[cO];omega
     have ag:max m (q+(C.take (min n len*z)).length)=m:=by rw[ak];omega
     obtain⟨w',h1,W,X⟩:=sX (P:=P) rel (cvs:=C.take (min n len*z)) (vs:=aD.take (min n len*z)) (k:=q) j O F
      (by rw[cO,cO,ai.1]) (by rw[ag];omega) (fun al c J=>by
       have ae:al<min n len*z:=by have:=(aK.1 J).1;rwa [ak] at this
       rw[dU ae] at J ⊢;exact ai.2 al c J)
     rw[ag] at W X;have av:=I (min n len) F w (fun _=>rfl);refine⟨goInt (min n len:Nat),w',?_,W,X,.int _ _⟩;have ay:Nat.min n len=min n len:=rfl;simp[Builtin.copy_,b8 Q,K,eI p,ay,av,h1]
   ·cases g
  | _=>rw[j] at g;cases g
 ·cases g
theorem By:∀ (cs:ag) (vs:List aA) (bs:List UInt8),jQ cs=some bs->vs.length=cs.length->
  (∀ (j:Nat) (c:U),cs[j]?=some c->∃ v:aA,vs[j]?=some v/\v.oneCell'=true/\az w R h muZ c v)->
  ∃ ns:List Int,vs=ns.map (Value.int .u8)/\bs=ns.map fun n=>UInt8.ofNat n.toNat
 | [],[],bs,g,_,_=>by
  simp only[jQ,bd] at g;subst g;exact⟨[],rfl,rfl⟩
 | [],_::_,_,_,m,_=>by simp at m
 | _::_,[],_,_,m,_=>by simp at m
 | c::cs,v::vs,bs,g,m,p=>by
  obtain⟨C,q,_,B⟩:=p 0 c rfl;simp only[ho,bd] at q;subst q;cases B with
  | int k n=>
   cases k<;>simp only[jQ] at g<;>try (cases g;done)
   cases o:jQ cs with
   | none=>rw[o] at g;cases g
   | some t=>
    rw[o] at g;simp only[cz,bd] at g;subst g;obtain⟨ns,h1,u⟩:=By cs vs t o (by simpa using m) (fun j c z=>p (j+1) c (by simpa using z));exact⟨n::ns,by rw[h1];rfl,by rw[u];rfl⟩
  | _=>simp[jQ] at g
theorem HN:∀ (ns:List Int) (s:ByteArray),(ns.foldl (fun r n=>r.push (UInt8.ofNat n.toNat)) s).data.toList=s.data.toList++ns.map fun n=>UInt8.ofNat n.toNat
 | [],s=>V
 | n::ns,s=>by
  rw[xP,HN ns];simp[ByteArray.push]
theorem P2 (rel:bw R B w h muZ) {s d:aC} {x c:U} {D:aA} (g:rV P h s d x=some c) (q:az w R h muZ x D) :
  ∃ v,(convert s d D).run P w=.ok v w/\az w R h muZ c v:=by
 unfold rV at g;split at g
 ·rename_i W k Z n o m;cases g;cases q;exact⟨.int k (k.wrap n),by simp[convert,b8 o,b8 m,Conv.intToInt],.int _ _⟩
 ·rename_i ae o m;cases g;cases q with
  | str u=>exact⟨.string u,by simp[convert,b8 o,b8 m],.str _⟩
 ·rename_i e o m X;cases t:P.underlying e with
  | none=>rw[t] at g;cases g
  | some V=>
   rw[t] at g;split at g
   ·rename_i heq;simp only[bd] at heq g;subst heq g;cases q;refine⟨.string ByteArray.empty,by simp[convert,b8 o,b8 m,b8 t,Conv.bytesToString],?_⟩;exact .str ByteArray.empty
   ·rename_i heq Y;cases heq;split at g
    ·cases g
    ·rename_i cs n K F;cases z:jQ cs with
     | none=>rw[z] at g;cases g
     | some u=>
      rw[z] at g;simp only[cz,bd] at g;subst g;obtain⟨S,G,T,C,I⟩:=qF (P:=P) rel F q;have p:=I n (aI _) w (fun _=>rfl);obtain⟨j,rfl,rfl⟩:=By cs T u z C.1 C.2;have O:(j.map (Value.int .u8)).take (n*1)=j.map (Value.int .u8):=aL (by rw[C.1,S];exact aI _);rw[O] at p;have J:∃ a len cap,D=.slice a len cap:=by
       cases q<;>first | exact⟨_,_,_,rfl⟩ | (simp[contents] at F;done) | (exact bP rfl (K _))
      obtain⟨a,len,cap,rfl⟩:=J;simp only[Builtin.lenOf,Sem.run_pure,Result.ok.injEq] at G;obtain⟨rfl,_⟩:=G;have H:=HN j ByteArray.empty;refine⟨.string (j.foldl (fun r n=>r.push (UInt8.ofNat n.toNat)) ByteArray.empty),?_,?_⟩
      ·rw[run_convert_bytes_string w s d e a len cap o t m];cases a with
       | none=>
        simp only[Builtin.firstCells,Sem.run_pure,Result.ok.injEq] at p;have Q:j=[]:=by
         have:=ch Array.toList p.1;simpa using this.symm
        subst Q;simp[Conv.bytesToString]
       | some a=>
        simp only[Builtin.firstCells,nX] at p;exact run_bytesToString w a len cap j p
      ·have:(j.foldl (fun r n=>r.push (UInt8.ofNat n.toNat)) ByteArray.empty).data.toList=j.map fun n=>UInt8.ofNat n.toNat:=by rw[H];rfl
       rw[<-this];exact .str _
    ·cases g
   ·cases g
 ·cases g
theorem DR (rel:bw R B w h muZ) {w' : aQ} (g:RowKit.Below w.heap.size w w') (t:w.drawn<=w'.drawn:=by first | exact aI _ | exact rC _) :cS w h muZ w' h muZ/\bw R B w' h muZ:=by
 have e:cS w h muZ w' h muZ:=⟨⟨g.os,g.tape,g.output,g.size,fun k hk _=>g.block k hk,fun _ v=>.inl v,fun b z cs p h1 m=>.inl ⟨cs,h1,m⟩,fun _ _ u=>u,fun _ _ _ h1 m=>⟨h1,m⟩,aI _,t⟩,fun _ _ j=>j⟩
 refine⟨e,fun b p j=>?_,rel.inj,rel.base,rel.fresh,rel.up,dL rel.size g.size,rel.iO⟩;cases o:live (h.f b) with
 | false=>cases q:h.f b<;>first | trivial | (rw[q] at o;cases o)
 | true=>exact (rel.blk b p j).ext e.toExt0 (g.block _ (rel.lt o j))
theorem Pj (rel:bw R B w h muZ) {s d:aC} {x c:U} {t:aA} (m:tI P s d x=some c) (T:az w R h muZ x t) :
  ∃ v w',(convert s d t).run P w=.ok v w'/\cS w h muZ w' h muZ/\bw R B w' h muZ/\az w' R h muZ c v:=by
 unfold tI at m;split at m
 ·rename_i W e Y O D;split at m
  ·rename_i S;cases m;cases T with
   | str g=>
    have z:RowKit.Below w.heap.size w (Lib.bytesWorld w e g):=⟨rfl,rfl,rfl,by rw[Lib.bytesWorld_size];omega,fun k hk=>Lib.bytesWorld_at_old w e g k hk⟩
    obtain⟨h1,u⟩:=DR rel z;refine⟨_,_,Lib.run_convert_string_bytes w s d e g O D S,h1,u,?_⟩;have Q:g.data.toList.length=g.size:=V;have K:¬ Own h muZ w.heap.size:=by
     rintro⟨b,X,I,J,j⟩;have:=rel.lt I J;omega
    have C:g.size<=grownCap w g.size 0 e:=grownCap_ge w g.size 0 e;have:=az.bn (w:=Lib.bytesWorld w e g) (R:=R) (h:=h) (muZ:=muZ) 1 (g.data.toList.map fun b=>[hu b]) w.heap.size 0 (grownCap w g.size 0 e) (fun i _=>.int .u8 (g.data.toList.getD i 0).toNat)
     (by simpa using C) (fun e j=>by obtain⟨b,_,rfl⟩:=cy.1 j;rfl)
     (fun i p G o=>by
      have H:i<g.size:=by simpa using G
      have:p=0:=F;subst this;exact⟨by simpa using Lib.bytesWorld_cell w e g i H,rfl,rel.up _ rel.size,K⟩)
     (fun i e j p c o=>by
      rw[bW] at j;cases q:g.data.toList[i]? with
      | none=>rw[q] at j;cases j
      | some b=>
       rw[q] at j;simp only[cz,bd] at j;subst j;cases p with
       | zero=>
        simp only[ho,bd] at o;subst o;have:g.data.toList.getD i 0=b:=by simp[List.getD,q]
        rw[this];exact .int _ _
       | succ p=>simp at o)
    rw[cx,Q] at this;exact this
  ·cases m
 ·cases m
theorem Pu {t ty:aC} {x c:U} {m:aA} (g:tK P t x=some c) (o:az w R h muZ x m) :∃ v,(Builtin.cap_ #[t] ty #[m]).run P w=.ok v w/\az w R h muZ c v:=by
 unfold tK at g;split at g<;>(try (simp only[bd] at g;subst g))
 ·rename_i n e j;exact⟨goInt n,by simp[Builtin.cap_,b8 j],.int _ _⟩
 ·rename_i e j;cases o;exact⟨goInt (0:Nat),by simp[Builtin.cap_,b8 j],.int _ _⟩
 ·cases g
theorem PJ (rel:bw R B w h muZ) {t ty:aC} {x:U} {V:aA} {h' : aH} (g:tM P h t x=some h') (z:az w R h muZ x V) :
  ∃ w',(Builtin.clear_ #[t] ty #[V]).run P w=.ok (.tuple #[]) w'/\cS w h muZ w' h' muZ/\bw R B w' h' muZ:=by
 unfold tM at g;split at g
 ·rename_i e o;cases g;cases z;exact⟨w,by simp[Builtin.clear_,b8 o],.refl _ _ _,rel⟩
 ·rename_i e ar o;cases g;cases z<;>exact⟨w,by simp[Builtin.clear_,b8 o],.refl _ _ _,rel⟩
 ·rename_i e ar b T len cap aF o;split at g
  ·rename_i v;cases g;subst v;cases z<;>exact⟨w,by simp[Builtin.clear_,b8 o],.refl _ _ _,rel⟩
  ·rename_i v;split at g
   ·rename_i zero m cs am j;split at g
    ·rename_i ai;obtain⟨rfl,rfl⟩:=ai;cases g;cases z with
     | gw=>exact bP rfl v
     | fk _ _ _ _ _ _ Z a H ag p=>
      exfalso;rcases p with p | ⟨aE,ae,p,ax⟩
      ·rw[p] at j;cases j
      ·rw[p] at j;cases j;omega
     | ad _ _ _ _ _ _ Z ae aq av J H aB ag=>
      have G:=rel.blk b aq J;rw[j] at G;obtain⟨aw,au,_⟩:=G;obtain⟨q,al,O⟩:=rp (P:=P) (w:=w) (R:=R) (h:=h) (muZ:=muZ) am;have ak:=zR O len;have ay:len*zero.length<=cap*zero.length:=cn _ H;have Q:(cD zero len).length=len*zero.length:=sC len;have K:max m (T+(cD zero len).length)=m:=by rw[Q];omega
      have ao:q.cells.size=zero.length:=O.1;have S:(Builtin.zeroCells q.cells len)=(Array.range (len*zero.length)).map (q.cells[· % q.cells.size]!):=by
       unfold Builtin.zeroCells;rw[ao]
      obtain⟨w',h1,C,D⟩:=sX (P:=P) rel (cvs:=cD zero len) (vs:=(Builtin.zeroCells q.cells len).toList) (k:=T) j J F
       (by rw[S,Q];simp) (by rw[K];omega) (fun ap c aj=>by
        rw[S];obtain⟨u,W,X,Y⟩:=ak.2 ap c aj;exact⟨u,by rw[p8];exact W,X,Y⟩)
      rw[K] at C D;refine⟨w',?_,C,D⟩;cases I:len with
      | zero=>exact bP I v
      | succ aD=>
       rw[I] at h1;simp[Builtin.clear_,b8 o,al,h1]
    ·cases g
   ·cases g
 ·cases g
theorem OL (rel:bw R B w h muZ) {t u ty:aC} {k:cV} {s x c:U} {j9 ar:aA} {h' : aH} (J:P.underlying u=some (.int k)) (m:vB P h t s x=some (c,h')) (aN:az w R h muZ s j9) (aS:az w R h muZ x ar) :
  ∃ v w' muZ',(Builtin.append_ #[t,u] ty #[j9,ar]).run P w=.ok v w'/\cS w h muZ w' h' muZ'/\bw R B w' h' muZ'/\az w' R h' muZ' c v:=by
 unfold vB at m;split at m
 ·rename_i e n aD aF;have I:=vX aD;obtain⟨aW,rfl⟩:=oa aF aS;split at m
  ·rename_i z by_ zero o ag ao;split at m
   ·rename_i aB;obtain⟨ap,aZ,a0,aL⟩:=aB;obtain⟨i,zv,g,ae,aU,_⟩:=Nb (P:=P) (w:=w) (R:=R) (h:=h) (muZ:=muZ) ao;have aO:i.size=z:=by simpa [b5,g] using o
    have q:i.bytes=by_:=by simpa [gO,g] using ag
    have K:IntKind.i64.wrap n=n:=by
     simp[IntKind.wrap,IntKind.bits,IntKind.signed];omega
    have aJ:(n.toNat:Int)=n:=F;have H:¬ (n<0):=F;have aX:¬ (2 ^ 48<n*(by_:Int)):=by
     have h1:((n.toNat*by_:Nat) :Int)=n*by_:=by rw[Int.natCast_mul,aJ]
     have ax:((n.toNat*by_:Nat) :Int)<=((140737488355328:Nat) :Int):=Int.ofNat_le.2 aL;rw[h1] at ax;omega
    have al:i1 w R h muZ (cD zero n.toNat) (Builtin.zeroCells zv.cells n.toNat):=by
     obtain⟨v,aP,O⟩:=rp (P:=P) (w:=w) (R:=R) (h:=h) (muZ:=muZ) ao;have aR:v=zv:=by
      have:=aP w;simp[zeroValue,typeInfo,g,ae] at this;exact this.symm
     subst aR;have aM:=zR O n.toNat
     have aT:(Builtin.zeroCells v.cells n.toNat)=(Array.range (n.toNat*zero.length)).map (v.cells[· % v.cells.size]!):=by
      unfold Builtin.zeroCells;rw[O.1]
     rw[aT];exact aM
    have aK:(cD zero n.toNat).length=n.toNat*z:=by rw[sC,ap]
    have G:∀ w2:aQ,(Go.asInt (.int aW n)).run P w2=.ok n w2:=fun w2=>rfl
    have D:¬ (281474976710656<n*(by_:Int)):=F;have S:∀ w2:aQ,(zeroValue e).run P w2=.ok zv w2:=fun w2=>by simp[zeroValue,typeInfo,g,ae]
    have am:n.toNat*z=0->Builtin.zeroCells zv.cells n.toNat=#[]:=fun j=>by
     apply AD;unfold Builtin.zeroCells;simp[aU,ap,j]
    refine F5 rel o ag m aN aK (vs:=(Builtin.zeroCells zv.cells n.toNat).toList) ⟨by simpa using al.1,fun aV c aG=>by
     obtain⟨v,au,av,aw⟩:=al.2 aV c aG;exact⟨v,by rw[p8];exact au,av,aw⟩⟩ (fun base p W w' Q C=>?_) (fun a2 a3 ai aq base p W T Z aE O ay=>?_)
    ·by_cases j:n.toNat*z=0
     ·rw[am j] at C;cases base with
      | none=>
       subst C;simp[Builtin.append_,G,b8 I,b8 J,eI o,K,H,typeInfo,g,q,Q,D,j]
      | some a=>
       simp only at C;simp[Builtin.append_,G,b8 I,b8 J,eI o,K,H,typeInfo,g,q,Q,D,j,C]
     ·cases base with
      | none=>
       subst C;simp[Builtin.append_,G,b8 I,b8 J,eI o,K,H,typeInfo,g,q,Q,D,S]
      | some a=>
       simp only at C;simp[Builtin.append_,G,b8 I,b8 J,eI o,K,H,typeInfo,g,q,Q,D,j,S,C]
    ·rw[g] at ai;cases ai;rw[ae] at aq;cases aq;have X:¬ (281474976710656<Builtin.nextslicecap (p+n.toNat) W*i.bytes):=by
      have:=growslice_fits (need:=p+n.toNat) (old:=W) (bytes:=i.bytes) aE O;omega
     have ak:¬ (p+n.toNat<=W):=F;have aY:¬ ((9223372036854775807:Int)<((p+n.toNat:Nat) :Int)):=by
      have h1:(p+n.toNat)*1<=(p+n.toNat)*i.bytes:=Nat.mul_le_mul_left _ ay;unfold dk at O;omega
     have aj:¬ ((9223372036854775807:Int)<(p:Int)+max n 0):=F;rw[aO] at Z;rw[q] at X;by_cases j:n.toNat*z=0
     ·have Y:(T++(Builtin.zeroCells zv.cells n.toNat).toList).toArray=T.toArray:=by rw[am j];simp
      rw[Y];simp[Builtin.append_,G,b8 I,b8 J,eI o,K,H,typeInfo,g,q,ak,D,aj,X,j,S,Z,Question.forced,newRow,grownCap]
     ·have Y:(T++(Builtin.zeroCells zv.cells n.toNat).toList).toArray=T.toArray++Builtin.zeroCells zv.cells n.toNat:=V;rw[Y];simp[Builtin.append_,G,b8 I,b8 J,eI o,K,H,typeInfo,g,q,ak,D,aj,X,j,S,Z,Question.forced,newRow,grownCap]
   ·cases m
  ·cases m
 ·cases m
end
section
variable {P:bj} {w:aQ} {R:Nat->Prop} {B:Nat} {h:aH} {muZ:bZ}
theorem OX {op:BinOp} {t:aC} {k k' : cV} {a b:Int} {c:U} (g:ct op k a k' b=some c) :
  ∃ v,(binOp op t (.int k a) (.int k' b)).run P w=.ok v w/\az w R h muZ c v:=by
 cases op
 case shl=>
  simp only[ct] at g;split at g
  ·cases g
  ·rename_i j;cases g;exact⟨_,by simp[binOp,Op.shift,j],.int _ _⟩
 case shr=>
  simp only[ct] at g;split at g
  ·cases g
  ·rename_i j;cases g;exact⟨_,by simp[binOp,Op.shift,j],.int _ _⟩
 case quo=>
  simp only[ct] at g;split at g
  ·rename_i j;obtain⟨rfl,j⟩:=j;cases g;exact⟨_,by simp[binOp,Op.intDiv,j],.int _ _⟩
  ·cases g
 case rem=>
  simp only[ct] at g;split at g
  ·rename_i j;obtain⟨rfl,j⟩:=j;cases g;exact⟨_,by simp[binOp,Op.intDiv,j],.int _ _⟩
  ·cases g
 all_goals
  simp only[ct] at g;split at g
  ·rename_i hk;subst hk;cases g
   first
    | (refine⟨_,?_,.int _ _⟩;unfold binOp;simp only[ne_eq,not_true_eq_false,if_false];rfl)
    | (refine⟨_,?_,.bool _⟩;unfold binOp;simp only[ne_eq,not_true_eq_false,if_false];rfl)
  ·cases g
theorem toList_eq (s:ByteArray) :s.toList=s.data.toList:=by rw[ByteArray.toList_eq]
theorem OY {op:BinOp} {t:aC} {a b:ByteArray} {c:U} (g:tC op a.data.toList b.data.toList=some c) :
  ∃ v,(binOp op t (.string a) (.string b)).run P w=.ok v w/\az w R h muZ c v:=by
 cases op<;>simp only[tC] at g<;>try (cases g;done)
 case add=>
  split at g
  ·rename_i o;cases g;have h1:a.data.toList.length=a.size:=V;have j:b.data.toList.length=b.size:=V;rw[h1,j] at o;have p:¬ ((9223372036854775807:Int)<(a.size:Int)+(b.size:Int)):=F;have m:(a++b).data.toList=a.data.toList++b.data.toList:=V;refine⟨.string (a++b),by simp[binOp,Op.stringOp,p],?_⟩;rw[<-m];exact .str _
  ·cases g
 all_goals
  cases g;exact⟨_,by simp[binOp,Op.stringOp,toList_eq],.bool _⟩
theorem QQ {d:Nat} {t:aC} {a b:Bool} (g:P.underlying t=some .bool) :(Op.equalIn (d+1) t (.bool a) (.bool b)).run P w=.ok (a == b) w:=by simp[Op.equalIn,b8 g]
theorem QR {d:Nat} {t:aC} {h k:cV} {a b:Int} (g:P.underlying t=some (.int h)) :(Op.equalIn (d+1) t (.int k a) (.int k b)).run P w=.ok (a == b) w:=by simp[Op.equalIn,b8 g]
theorem QS {d:Nat} {t:aC} {a b:ByteArray} (g:P.underlying t=some .string) :(Op.equalIn (d+1) t (.string a) (.string b)).run P w=.ok (a.data.toList == b.data.toList) w:=by simp[Op.equalIn,b8 g,toList_eq,beq_toListBytes]
theorem B7 {d:Nat} {t e:aC} {x y l c:Nat} {b:Option Addr} (g:P.underlying t=some (.slice e)) :(Op.equalIn (d+1) t (.slice none x y) (.slice b l c)).run P w=.ok b.isNone w:=by simp[Op.equalIn,b8 g]
theorem Hp {d:Nat} {t e:aC} {x y l c:Nat} {a:Addr} (g:P.underlying t=some (.slice e)) :(Op.equalIn (d+1) t (.slice (some a) l c) (.slice none x y)).run P w=.ok false w:=by simp[Op.equalIn,b8 g]
theorem B4 {d:Nat} {xs G:ag} {C F:Array aA}
  (m:∀ (t:aC) (x y:U) (b:Bool) (D H:aA),dJ P d t x y=some b->az w R h muZ x D->az w R h muZ y H->(Op.equalIn d t D H).run P w=.ok b w)
  (o:i1 w R h muZ xs C) (p:i1 w R h muZ G F) :∀ (l:List Field) (b:Bool),dJ.eqFields P (dJ P d) xs G l=some b->(Op.eqFields d C F l).run P w=.ok b w
 | [],b,g=>by simp only[dJ.eqFields,bd] at g;subst g;simp[Op.eqFields]
 | f::l,b,g=>by
  unfold dJ.eqFields at g;unfold Op.eqFields;by_cases j:f.name= "_"
  ·rw[aj j] at g;simp[j,B4 m o p l b g]
  ·rw[ak j] at g;split at g
   ·rename_i a c I J;obtain⟨z,h1,q⟩:=qY (P:=P) I o;obtain⟨B,u,v⟩:=qY (P:=P) J p;split at g
    ·rename_i heq;have:=m f.type a c true z B heq q v;simp[j,h1,u,this,B4 m o p l b g]
    ·rename_i heq;have:=m f.type a c false z B heq q v;cases g;simp[j,h1,u,this]
    ·cases g
   ·cases g
theorem Hl {d z:Nat} {e:aC} {xs J:ag} {G I:Array aA}
  (u:∀ (t:aC) (x y:U) (b:Bool) (H K:aA),dJ P d t x y=some b->az w R h muZ x H->az w R h muZ y K->(Op.equalIn d t H K).run P w=.ok b w)
  (D:i1 w R h muZ xs G) (F:i1 w R h muZ J I) (f:Nat->Option Bool × Unit->Sem (ForInStep (Option Bool × Unit)))
  (o:∀ (i:Nat) (j m:aA) (b:Bool) (r:Option Bool × Unit),(part e G (i*z)).run P w=.ok j w->(part e I (i*z)).run P w=.ok m w->(Op.equalIn d e j m).run P w=.ok b w->
   (f i r).run P w=.ok (if b then .yield (none,()) else .done (some false,())) w) :
  ∀ (n i:Nat) (b:Bool),dJ.om P (dJ P d) e z xs J n i=some b->(forIn (List.range' i n) (none,()) f).run P w=.ok (if b then (none,()) else (some false,())) w
 | 0,i,b,g=>by
  simp only[dJ.om,bd] at g;subst g;simp
 | n+1,i,b,g=>by
  unfold dJ.om at g;split at g
  ·rename_i a c O Q;obtain⟨j,h1,v⟩:=qY (P:=P) O D;obtain⟨m,B,C⟩:=qY (P:=P) Q F;rw[List.range'_succ,List.forIn_cons];split at g
   ·rename_i heq;have q:=u e a c true j m heq v C;have p:=o i j m true (none,()) (h1 w) (B w) q;simp only[Sem.run_bind,p,if_true,Result.andThen_ok];exact Hl u D F f o n (i+1) b g
   ·rename_i heq;have q:=u e a c false j m heq v C;have p:=o i j m false (none,()) (h1 w) (B w) q;cases g;simp[p]
   ·cases g
  ·cases g
theorem run_equalIn_array {d n z:Nat} {t e:aC} {j m:Array aA} (u:P.underlying t=some (.array n e)) (v:b5 P e=some z) {b:Bool}
  (hk:∀ f:Nat->Option Bool × Unit->Sem (ForInStep (Option Bool × Unit)),
   (∀ (i:Nat) (g h:aA) (b:Bool) (r:Option Bool × Unit),(part e j (i*z)).run P w=.ok g w->(part e m (i*z)).run P w=.ok h w->(Op.equalIn d e g h).run P w=.ok b w->(f i r).run P w=.ok (if b then .yield (none,()) else .done (some false,())) w)->
   (forIn (List.range' 0 n) (none,()) f).run P w=.ok (if b then (none,()) else (some false,())) w) :
  (Op.equalIn (d+1) t (.agg j) (.agg m)).run P w=.ok b w:=by
 simp only[Op.equalIn,Sem.run_bind,b8 u,Result.andThen_ok,eI v];rw[Std.Legacy.Range.forIn_eq_forIn_range'];have q:List.range' ([:n] :Std.Legacy.Range).start ([:n] :Std.Legacy.Range).size ([:n] :Std.Legacy.Range).step=List.range' 0 n:=by simp[Std.Legacy.Range.size]
 rw[q,hk]
 ·cases b<;>simp
 ·intro i g h b r h1 o p;cases b<;>simp[h1,o,p]
theorem B5:∀ (d:Nat) (t:aC) (x y:U) (b:Bool) (q u:aA),dJ P d t x y=some b->az w R h muZ x q->az w R h muZ y u->
  (Op.equalIn d t q u).run P w=.ok b w:=by
 intro d
 induction d with
 | zero=>intro t x y b q u g;simp[dJ] at g
 | succ d F=>
  intro t x y b q u g m o;unfold dJ at g;split at g
  ·rename_i a p j;cases g;cases m;cases o;exact QQ j
  ·rename_i X k a W p j;split at g
   ·rename_i hk;subst hk;cases g;cases m;cases o;exact QR j
   ·cases g
  ·rename_i a p j;cases g;cases m;cases o;exact QS j
  ·rename_i fs T V j;split at g
   ·cases g
   ·rename_i K;obtain⟨G,rfl,z⟩:=qs m;obtain⟨H,rfl,B⟩:=qs o;have O:P.stoodInHeld t=false:=by simpa using K
    have D:P.fieldsOf t=fs:=by simp[Program.fieldsOf,j]
    rw[run_equalIn_struct w d t G H (by rw[D];exact j) O,D];exact B4 F z B _ _ g
  ·rename_i n e T V j;cases C:b5 P e with
   | none=>rw[C] at g;cases g
   | some v=>
    rw[C] at g;simp only at g;obtain⟨G,rfl,z⟩:=qs m;obtain⟨H,rfl,B⟩:=qs o;exact run_equalIn_array j C (fun f J=>Hl F z B f J n 0 b g)
  ·rename_i e j;cases g;cases m;cases o;exact B7 j
  ·rename_i e v p Q len cap S j;cases g;cases m;cases o<;>exact B7 j
  ·rename_i e v I j;cases g;cases m;cases o<;>exact B7 j
  ·rename_i e v p Q len cap S j;cases g;cases o;cases m<;>exact Hp j
  ·rename_i e v I j;cases g;cases o;cases m<;>exact Hp j
  ·cases g
end
section
variable {P:bj} {w:aQ} {R:Nat->Prop} {B:Nat} {h:aH} {muZ:bZ}
def p1:U->aA
 | .bool b=>.bool b
 | .int k n=>.int k n
 | .str s=>.string ⟨s.toArray⟩
 | _=>.tuple #[]
def sQ:U->aA
 | .ah cs=>.agg (cs.map p1).toArray
 | c=>p1 c
theorem Vd {c:U} {v:aA} (m:qZ c=true) (g:az w R h muZ c v) :v=p1 c:=by
 cases c<;>simp[qZ] at m
 ·cases g;rfl
 ·cases g;rfl
 ·cases g;rename_i j;show Value.string j=.string ⟨j.data.toList.toArray⟩;congr 1
theorem y2 {t:aC} {c:U} (g:kD P t c=true) :∃ cs m,c=.ah cs/\pA P 8 t=true/\dC P t=some true/\b5 P t=some m/\cs.length=m/\∀ x∈cs,qZ x=true:=by
 unfold kD at g;split at g
 ·rename_i cs;simp only[bH] at g;obtain⟨⟨h1,h⟩,j⟩:=g;split at h
  ·rename_i m o p;exact⟨cs,m,rfl,h1,o,p,mo h,fun x q=>gg.1 j x q⟩
  ·cases h
 ·cases g
theorem CH {t:aC} {c:U} {v:aA} (p:kD P t c=true) (m:az w R h muZ c v) :v=sQ c:=by
 obtain⟨cs,C,rfl,_,_,_,_,hint⟩:=y2 p;cases m with
 | ah _ o q h1 m=>
  show Value.agg o=.agg (cs.map p1).toArray;congr 1;apply Array.ext_getElem?;intro g;have z:(cs.map p1).toArray[g]?=(cs[g]?).map p1:=V;rw[z];cases j:cs[g]? with
  | none=>simp only[Option.map_none];rw[p7];rw[q];exact Ff.1 j
  | some c=>
   have B:=(aK.1 j).1;have u:=m g c o[g] j (rq F);rw[rq F];simp only[cz,bd];exact Vd (hint c (cE j)) u
theorem Pk (a:ByteArray) :(a == a)=true:=by show (a.data == a.data)=true;exact beq_self_eq_true _
theorem W3 {c:U} (n:Nat) (g:qZ c=true) :Instr.sameBits n (p1 c) (p1 c)=true:=by
 cases c<;>simp[qZ] at g<;>unfold p1 Instr.sameBits
 ·simp
 ·simp
 ·exact Pk _
theorem W2 {t:aC} {c:U} (n:Nat) (o:kD P t c=true) :Instr.sameBits (n+1) (sQ c) (sQ c)=true:=by obtain⟨cs,q,rfl,_,_,_,_,hint⟩:=y2 o;unfold sQ Instr.sameBits;simp only[beq_self_eq_true,mj,gg];rintro⟨x,y⟩ j;rw[cj] at j;obtain⟨p,h⟩:=j;rw[tc] at h;obtain⟨h1,g⟩:=h;rw[h1] at g;cases g;simp only[bW,FA] at h1;obtain⟨c,m,rfl⟩:=h1;exact W3 n (hint c (cE m))
theorem WX {t:aC} {c:U} (g:kD P t c=true) :(Instr.keyThatStays (sQ c) (sQ c)).run P w=.ok (sQ c) w:=by unfold Instr.keyThatStays;rw[aj (W2 9999 g)];simp
theorem Cd {alZ:Type} {f:alZ->PUnit->Sem (ForInStep PUnit)}:∀ (l:List alZ),(∀ x∈l,(f x ⟨⟩).run P w=.ok (.yield ⟨⟩) w)->(forIn l ⟨⟩ f).run P w=.ok ⟨⟩ w
 | [],_=>V
 | x::l,g=>by
  rw[List.forIn_cons];simp only[Sem.run_bind,g x V,Result.andThen_ok];exact Cd l (fun y h=>g y (by simp[h]))
theorem D8 (em:Bool) :∀ (d n:Nat) (t:aC) (c:U) (v:aA),d<=n->pA P d t=true->az w R h muZ c v->(dC P t=some true->∃ cs m,c=.ah cs/\b5 P t=some m/\cs.length=m)->
  (Instr.checkKey em n t v).run P w=.ok () w
 | 0,_,_,_,_,_,hk,_,_=>by simp[pA] at hk
 | d+1,0,_,_,_,al,_,_,_=>F
 | d+1,n+1,t,c,v,al,hk,X,T=>by
  unfold pA at hk;split at hk
  ·rename_i j;cases v<;>simp[Instr.checkKey,b8 j]
  ·rename_i j;cases v<;>simp[Instr.checkKey,b8 j]
  ·rename_i j;cases v<;>simp[Instr.checkKey,b8 j]
  ·rename_i len e m j O;have G:dC P t=some true:=by unfold dC;rw[j];rfl
   obtain⟨cs,o,rfl,q,ai⟩:=T G;rw[O] at q;cases q;simp only[bH] at hk;obtain⟨K,g⟩:=hk;split at g
   ·rename_i z a B H;simp only[bH] at g;have ak:=xW g.1;have am:=xW g.2;obtain⟨ao,rfl,S⟩:=qs X;unfold Instr.checkKey;simp only[Sem.run_bind,b8 j,Result.andThen_ok];rw[Std.Legacy.Range.forIn_eq_forIn_range'];rw[Cd]
    ·simp
    intro i Z;have ae:i<len:=by simp[Std.Legacy.Range.size] at Z;omega
    have ag:i*z+z<=cs.length:=by
     have:i*z+z<=len*z:=by rw[<-eu];exact cn _ ae
     omega
    have Q:∃ c,gv P e cs (i*z)=some c/\(dC P e=some true->∃ p o,c=.ah p/\b5 P e=some o/\p.length=o):=by
     unfold gv;rw[H,B];cases a with
     | true=>exact⟨_,by simp only;rw[aj ag],fun _=>⟨_,z,rfl,rfl,by simp;omega⟩⟩
     | false=>exact⟨cs[i*z]'F,by simp only;exact bI F,fun h=>by cases h⟩
    obtain⟨c,I,J⟩:=Q;obtain⟨u,C,D⟩:=qY (P:=P) I S;simp only[Sem.run_bind,eI B,Result.andThen_ok,C w];rw[D8 em d n e c u F K D J];simp
   ·cases g
  ·rename_i ap m j O;have G:dC P t=some true:=by unfold dC;rw[j];rfl
   obtain⟨cs,o,rfl,q,ai⟩:=T G;rw[O] at q;cases q;obtain⟨ao,rfl,S⟩:=qs X;unfold Instr.checkKey;simp only[Sem.run_bind,b8 j,Result.andThen_ok];rw[<-Array.forIn_toList,Cd]
   ·simp
   intro f Y;have V:=gg.1 hk f Y;simp only[bH] at V;obtain⟨K,g⟩:=V;split at g
   ·rename_i z a B H;simp only[bH] at g;have ak:=xW g.1;have am:=xW g.2;have Q:∃ c,gv P f.type cs f.offset=some c/\(dC P f.type=some true->∃ p o,c=.ah p/\b5 P f.type=some o/\p.length=o):=by
     unfold gv;rw[H,B];cases a with
     | true=>exact⟨_,by simp only;rw[aj F],fun _=>⟨_,z,rfl,rfl,by simp;omega⟩⟩
     | false=>exact⟨cs[f.offset]'F,by simp only;exact bI F,fun h=>by cases h⟩
    obtain⟨c,I,J⟩:=Q;obtain⟨u,C,D⟩:=qY (P:=P) I S;have:=D8 em d n f.type c u F K D J;by_cases W:f.name= "_"
    ·simp[W]
    ·simp[W,C w,this]
   ·cases g
  ·cases hk
theorem Lc {t:aC} {c:U} {v:aA} (em:Bool) (m:kD P t c=true) (o:az w R h muZ c v) :(Instr.checkKey em 10000 t v).run P w=.ok () w:=by obtain⟨cs,p,rfl,h1,q,g,j,_⟩:=y2 m;exact D8 em 8 10000 t _ v F h1 o (fun _=>⟨cs,p,rfl,g,j⟩)
def o3 (w:aQ) (R:Nat->Prop) (h:aH) (muZ:bZ) (es:List (U × U × Nat)) (g:List kW) :Prop:=
 g.length=es.length/\∀ (j:Nat) (k m:U) (b:Nat),es[j]?=some (k,m,b)->∃ x:kW,g[j]?=some x/\az w R h muZ k x.key/\az w R h muZ m x.val/\x.born=b
def FD (w:aQ) (R:Nat->Prop) (h:aH) (muZ:bZ) (k:U) (m:List kW) (i:Nat) :Option (Nat × U)->Option (Nat × aA)->Prop
 | none,r=>r=none
 | some (g,o),r=>∃ j,r=some (g,j)/\az w R h muZ o j/\i<=g/\∃ x,m[g - i]?=some x/\x.val=j/\az w R h muZ k x.key
theorem QI {es:List (U × U × Nat)} {e:U × U × Nat} {x:kW} {vZ:List kW} (g:o3 w R h muZ (e::es) (x::vZ)) :o3 w R h muZ es vZ:=
 ⟨by have:=g.1;simp at this;exact this,fun m k o b j=>g.2 (m+1) k o b (by simpa using j)⟩
theorem QH {es:List (U × U × Nat)} {k v:U} {b:Nat} {x:kW} {g:List kW} (m:o3 w R h muZ ((k,v,b) ::es) (x::g)) :az w R h muZ k x.key/\az w R h muZ v x.val/\x.born=b:=by obtain⟨y,h1,j⟩:=m.2 0 k v b rfl;simp at h1;subst h1;exact j
theorem HA {o:aC} {k:U} {p:aA} (hk:az w R h muZ k p) :∀ (es:List (U × U × Nat)) (j:List kW) (i:Nat) (r:Option (Nat × U)),o3 w R h muZ es j->jV P o k es i=some r->
  ∃ q,(Instr.findAsking o p j i).run P w=.ok q w/\FD w R h muZ k j i r q
 | [],j,i,r,m,g=>by
  have:j=[]:=ic.1 m.1;subst this;simp only[jV,bd] at g;subst g;exact⟨none,by simp[Instr.findAsking],rfl⟩
 | (u,O,b) ::es,[],i,r,m,g=>by have:=m.1;simp at this
 | (u,O,b) ::es,x::j,i,r,m,g=>by
  obtain⟨h1,D,S⟩:=QH m;simp only[jV] at g;split at g
  ·cases g
  rename_i W;split at g
  ·rename_i heq;split at g
   ·rename_i K;cases g;have t:=B5 (P:=P) 10000 o k u true p x.key heq hk h1;refine⟨some (i,x.val),?_,x.val,rfl,D,aI _,x,V,rfl,?_⟩
    ·simp only[Instr.findAsking,Op.equal,Op.maxDepth,Sem.run_bind];rw[t];simp
    ·rw[U.beq_eq K];exact h1
   ·cases g
  ·rename_i heq;have t:=B5 (P:=P) 10000 o k u false p x.key heq hk h1;obtain⟨q,G,v⟩:=HA hk es j (i+1) r (QI m) g;refine⟨q,?_,?_⟩
   ·simp only[Instr.findAsking,Op.equal,Op.maxDepth,Sem.run_bind];rw[t];simpa using G
   ·cases r with
    | none=>exact v
    | some z=>
     obtain⟨Q,H,I,T,y,J,B,C⟩:=v;exact⟨Q,H,I,F,y,by rw[show z.1 - i=(z.1 - (i+1))+1 by omega];simpa using J,B,C⟩
  ·cases g
theorem Le {m:aC} {k:U} {p:aA} (hk:az w R h muZ k p) (t:kD P m k=true) {es:List (U × U × Nat)} {g:List kW} {r:Option (Nat × U)} (z:o3 w R h muZ es g) (u:jV P m k es 0=some r) :
  ∃ oL,(Instr.findKey m p g).run P w=.ok oL w/\FD w R h muZ k g 0 r oL:=by
 obtain⟨oL,h1,q⟩:=HA hk es g 0 r z u;refine⟨oL,?_,q⟩;obtain⟨cs,C,rfl,B,j,_⟩:=y2 t;unfold dC at j;cases o:P.underlying m with
 | none=>rw[o] at j;cases j
 | some d=>
  rw[o] at j;unfold Instr.findKey;simp only[Sem.run_bind,b8 o,Result.andThen_ok];cases g with
  | nil=>simpa [Instr.findNow,Instr.findAsking] using h1
  | cons x g=>
   have v:Instr.findNow d p (x::g) 0=none:=by
    cases d<;>simp at j<;>simp[Instr.findNow,Instr.sameNow]
   rw[v];exact h1
theorem Tl (rel:bw R B w h muZ) {m:U} {ei:aA} {es:List (U × U × Nat)} (j:wy h m=some es) (u:az w R h muZ m ei) :
  (ei=.map none/\es=[])\/∃ b g o p,m=.mp b/\h.f b=.map es o/\muZ b=some g/\ei=.map (some g.r)/\w.heap[g.r]?=some (.map p o)/\o3 w R h muZ es p.toList:=by
 cases m<;>simp[wy] at j
 ·subst j;cases u;exact .inl ⟨rfl,rfl⟩
 ·rename_i b;cases u with
  | mp _ g K t=>
   cases q:h.f b<;>rw[q] at j<;>simp at j;rename_i J o;subst j;have hblk:=rel.blk b g t;rw[q] at hblk;obtain⟨p,h1,z,C⟩:=hblk;refine .inr ⟨b,g,o,p,rfl,q,t,rfl,h1,by simpa using z,fun H k I v G=>?_⟩;obtain⟨x,D,F⟩:=C H k I v G;exact⟨x,by simpa using D,F⟩
theorem Ea {r:Nat} {es:Array kW} {g:Nat} (h:w.heap[r]?=some (.map es g)) :(getObj r).run P w=.ok (.map es g) w:=by simp[getObj,Sem.run,h]
theorem Lf {r:Nat} {s:ByteArray} {pos:Nat} (g:w.heap[r]?=some (.stringIter s pos)) :(getObj r).run P w=.ok (.stringIter s pos) w:=by simp[getObj,Sem.run,g]
theorem Na {t:aC} {z:U} (g:s4 P t=some z) :∃ v,(zeroValue t).run P w=.ok v w/\az w R h muZ z v:=by
 unfold s4 at g;cases j:P.info? t with
 | none=>rw[j] at g;cases g
 | some i=>
  rw[j] at g;simp only[qg] at g;cases m:i.zero with
  | none=>rw[m] at g;cases g
  | some v=>
   rw[m] at g;simp only[cz,bd] at g;subst g;exact⟨v,Lm j m,.qT v⟩
theorem az.Mr {a b:U} {o p:aA} (q:az w R h muZ a o) (t:az w R h muZ b p) :az w R h muZ (.a1 [a,b]) (.tuple #[o,p]):=by
 refine .a1 _ _ rfl fun m c u g j=>?_
 rcases m with _ | _ | m
 ·simp at g j;subst g j;exact q
 ·simp at g j;subst g j;exact t
 ·simp at g
theorem S5 (rel:bw R B w h muZ) {t:aC} {m k c:U} {ei p:aA} {ok:Bool} (g:y8 P h t m k ok=some c) (o:az w R h muZ m ei) (hk:az w R h muZ k p) :
  ∃ v,(Instr.lookup t ei p ok).run P w=.ok v w/\az w R h muZ c v:=by
 unfold y8 at g;split at g
 ·rename_i u D O ae am;split at g
  ·cases g
  ·rename_i Z;have ai:∀ j:List kW,o3 w R h muZ O j->∃ z,(Instr.findKey u p j).run P w=.ok z w ∧
     ((∃ i v,z=some (i,v)/\∃ G,az w R h muZ G v/\c=if ok then .a1 [G,.bool true] else G)\/(z=none/\∃ q,s4 P D=some q/\c=if ok then .a1 [q,.bool false] else q)):=by
    intro j F;cases T:jV P u k O 0 with
    | none=>rw[T] at g;cases g
    | some r=>
     obtain⟨z,h1,H⟩:=Le hk Z F T;rw[T] at g;refine⟨z,h1,?_⟩;cases r with
     | none=>
      cases H;simp only at g;cases ag:s4 P D with
      | none=>rw[ag] at g;cases g
      | some q=>
       rw[ag] at g;simp only[cz,bd] at g;exact .inr ⟨rfl,q,rfl,g.symm⟩
     | some av=>
      obtain⟨ao,rfl,Q,_⟩:=H;simp only[bd] at g;exact .inl ⟨_,ao,rfl,_,Q,g.symm⟩
   have X:∀ (j:List kW) (em:Bool),o3 w R h muZ O j->∀ m:Sem aA,m.run P w=(((Instr.checkKey em 10000 u p).bind fun _=>(Instr.findKey u p j).bind fun r=>match r with
     | some (_,v)=>pure (if ok=true then .tuple #[v,.bool true] else v)
     | none=>(zeroValue D).bind fun q=>pure (if ok=true then .tuple #[q,.bool false] else q)) :Sem aA).run P w->∃ v,m.run P w=.ok v w/\az w R h muZ c v:=by
    intro j em F m o;obtain⟨z,h1,H⟩:=ai j F;have J:∀ {C K:Type} (a:Sem C) (f:C->Sem K),a.bind f=a >>= f:=fun _ _=>rfl
    simp only[J,Sem.run_bind,Lc em Z hk,Result.andThen_ok,h1] at o;rcases H with ⟨i,v,rfl,G,I,rfl⟩ | ⟨rfl,q,I,rfl⟩
    ·simp only at o;cases ok
     ·exact⟨v,by simpa using o,I⟩
     ·exact⟨.tuple #[v,.bool true],by simpa using o,az.Mr I (.bool _)⟩
    ·obtain⟨v,Q,Y⟩:=Na (w:=w) (R:=R) (h:=h) (muZ:=muZ) I;simp only[Sem.run_bind,Q,Result.andThen_ok] at o;cases ok
     ·exact⟨v,by simpa using o,Y⟩
     ·exact⟨.tuple #[v,.bool false],by simpa using o,az.Mr Y (.bool _)⟩
   have J:∀ {C K:Type} (a:Sem C) (f:C->Sem K),a.bind f=a >>= f:=fun _ _=>rfl
   rcases Tl rel am o with ⟨rfl,rfl⟩ | ⟨b,aw,ap,j,rfl,aq,ar,rfl,ak,F⟩
   ·refine X [] true ⟨rfl,fun au k v b al=>by simp at al⟩ _ ?_;unfold Instr.lookup;simp only[J,Sem.run_bind,b8 ae,Result.andThen_ok,Sem.run_pure];cases S:(Instr.checkKey true 10000 u p).run P w with
    | halt a b=>simp[S]
    | ok a V=>
     simp[S];cases aj:(Instr.findKey u p []).run P V with
     | halt a b=>simp
     | ok r W=>
      simp;cases r with
      | none=>cases (zeroValue D).run P W<;>simp
      | some x=>simp
   ·refine X j.toList j.isEmpty F _ ?_;unfold Instr.lookup;simp only[J,Sem.run_bind,b8 ae,Result.andThen_ok,Sem.run_pure,Ea ak];cases S:(Instr.checkKey j.isEmpty 10000 u p).run P w with
    | halt a b=>simp
    | ok a V=>
     simp;cases aj:(Instr.findKey u p j.toList).run P V with
     | halt a b=>simp
     | ok r W=>
      simp;cases r with
      | none=>cases (zeroValue D).run P W<;>simp
      | some x=>simp
 ·cases g
theorem SU (rel:bw R B w h muZ) {t ty:aC} {x c:U} {j:aA} (g:sf P h t x=some c) (z:az w R h muZ x j) :∃ v,(Builtin.len_ #[t] ty #[j]).run P w=.ok v w/\az w R h muZ c v:=by
 unfold sf at g;split at g
 ·rename_i I G b u;split at g
  ·rename_i F D p;cases g;cases z with
   | mp _ C hk q=>
    have hblk:=rel.blk b C q;rw[p] at hblk;obtain⟨m,h1,o,H⟩:=hblk;exact⟨.int .i64 m.size,by simp[Builtin.len_,b8 u,Ea h1,goInt],by rw[o];exact .int _ _⟩
  ·cases g
 ·cases g
theorem Tj (rel:bw R B w h muZ) {t:aC} {r:Option aA} (g:∃ k e,P.underlying t=some (.map k e)) (m:∀ x,r=some x->∃ k n,x=.int k n) :∃ v w' muZ',(Instr.makeMap t r).run P w=.ok v w'/\cS w h muZ w' (h.push (.map [] 0)) muZ'/\bw R B w' (h.push (.map [] 0)) muZ'/\az w' R (h.push (.map [] 0)) muZ' (.mp h.n) v:=by
 have:=rel.Kj (w':=w.alloc (.map #[] 0)) (.map [] 0) (.map #[] 0) (k:=0) rfl rfl rfl rfl rfl ⟨#[],by show (w.heap.push _)[w.heap.size]?=_;simp,rfl,fun o k v b j=>by simp at j⟩;refine⟨.map (some w.heap.size),w.alloc (.map #[] 0),_,?_,this.1,this.2,?_⟩
 ·obtain⟨k,e,g⟩:=g;cases r with
  | none=>simp[Instr.makeMap,newObj,Sem.run]
  | some x=>
   obtain⟨p,n,rfl⟩:=m x rfl;simp[Instr.makeMap,newObj,Sem.run,b8 g,Go.asInt,Go.asIntOf]
 ·exact .mp h.n ⟨w.heap.size,0,0⟩ (by simp[dY,lk]) V
theorem IX (rel:bw R B w h muZ) {t:aC} {m k x:U} {ei pB I:aA} {h' : aH} (o:sh P h t m k x=some h') (aP:az w R h muZ m ei) (hk:az w R h muZ k pB) (au:az w R h muZ x I) :
  ∃ w',(Instr.mapUpdate t ei pB I).run P w=.ok () w'/\cS w h muZ w' h' muZ/\bw R B w' h' muZ:=by
 unfold sh at o;split at o
 ·rename_i aX a0 b aT;split at o
  ·rename_i p K ao;split at o
   ·cases o
   ·rename_i z;cases aP with
    | mp _ u a2 ap=>
     have hblk:=rel.blk b u ap;rw[ao] at hblk;obtain⟨D,h1,q,S⟩:=hblk;have aO:u.r<w.heap.size:=by
      rcases fN u.r w.heap.size with h | h
      ·exact h
      ·rw[p7 h] at h1;cases h1
     have aS:o3 w R h muZ p D.toList:=⟨by simpa using q,fun j k H J g=>by obtain⟨y,T,O⟩:=S j k H J g;exact⟨y,by simpa using T,O⟩⟩
     have ar:∀ ae:Obj,(setObj u.r ae).run P w=.ok () { w with heap:=w.heap.setIfInBounds u.r ae }:=fun ae=>by simp[setObj,Sem.run,h1]
     have aq:∀ (G:List (U × U × Nat)) (v:Array kW) (C:Nat),(∀ {ag:aQ} {q:aH},Ext0 w h muZ ag q muZ->v.size=G.length/\∀ (j:Nat) (k H:U) (b:Nat),G[j]?=some (k,H,b)->∃ x:kW,v[j]?=some x/\az ag R q muZ k x.key/\az ag R q muZ H x.val/\x.born=b)->
       cS w h muZ { w with heap:=w.heap.setIfInBounds u.r (.map v C) } (h.set b (.map G C)) muZ/\bw R B { w with heap:=w.heap.setIfInBounds u.r (.map v C) } (h.set b (.map G C)) muZ:=by
      intro G v C aR;refine rel.Ko (k:=0) ao rfl rfl ap rfl rfl rfl V (fun k hk=>?_) (fun e=>?_)
      ·simp only;rw[u7];rw[ak (fun aK=>hk aK.symm)]
      ·obtain⟨q1,aY⟩:=aR e;exact⟨v,by simp only;rw[u7];simp[aO],q1,aY⟩
     unfold Instr.mapUpdate;simp only[Sem.run_bind,b8 aT,Result.andThen_ok,Ea h1,Lc false z hk];cases Z:jV P aX k p 0 with
     | none=>rw[Z] at o;cases o
     | some r=>
      rw[Z] at o;obtain⟨a3,T,O⟩:=Le hk z aS Z;rw[T];cases r with
      | none=>
       cases O;cases o;have:=aq (p++[(k,x,K)]) (D.push { key:=pB,val:=I,born:=K }) (K+1) (fun e=>⟨by simp[q],fun j av aw J g=>?_⟩)
       ·exact⟨_,by simp only[Result.andThen_ok];rw[ar],this⟩
       ·rw[s5];by_cases aM:j<p.length
        ·rw[aV aM] at g;obtain⟨y,al,W,am,X⟩:=S j av aw J g;exact⟨y,by rw[ak F];exact al,W.jU e,am.jU e,X⟩
        ·rw[et F] at g;have aL:j - p.length=0:=by
          rcases Nat.eq_zero_or_pos (j - p.length) with h | h
          ·exact h
          ·rw[ea (by simp;omega)] at g;cases g
         rw[aL] at g;simp at g;obtain⟨rfl,rfl,rfl⟩:=g;exact⟨_,by rw[aj F],hk.jU e,au.jU e,rfl⟩
      | some aU=>
       obtain⟨i,H⟩:=aU;obtain⟨a4,rfl,al,_,y,W,am,X⟩:=O;cases o;have aJ:D[i]?=some y:=by simpa using W
       have aD:y.key=pB:=by rw[CH z X,CH z hk]
       have aN:(Instr.keyThatStays (((D[i]?).map (·.key)).getD pB) pB).run P w=.ok pB w:=by
        rw[aJ];simp only[cz,g8,aD];rw[CH z hk];exact WX z
       have:=aq (p.modify i fun e=>(k,x,e.2.2)) (D.modify i fun e=>{ e with key:=pB,val:=I }) K (fun e=>⟨by simp[q],fun j av aw J g=>?_⟩)
       ·refine⟨_,?_,this⟩;simp only[Result.andThen_ok,Sem.run_bind,aN];rw[ar]
       ·rw[List.getElem?_modify] at g;rw[AF];cases Y:p[j]? with
        | none=>rw[Y] at g;simp at g
        | some aB=>
         obtain⟨aW,aZ,ay⟩:=aB;rw[Y] at g;obtain⟨ax,aE,aF,aG,ai⟩:=S j aW aZ ay Y;rw[aE];by_cases Q:i=j
         ·simp[Q] at g;obtain⟨rfl,rfl,rfl⟩:=g;exact⟨{ ax with key:=pB,val:=I },by simp[Q],hk.jU e,au.jU e,ai⟩
         ·simp[Q] at g;obtain⟨rfl,rfl,rfl⟩:=g;exact⟨ax,by simp[Q],aF.jU e,aG.jU e,ai⟩
  ·cases o
 ·cases o
theorem Wb (rel:bw R B w h muZ) {t:aC} {x c:U} {m:aA} {h' : aH} (j:zL P h t x=some (c,h')) (p:az w R h muZ x m) :
  ∃ v w' muZ',(Instr.range t m).run P w=.ok v w'/\cS w h muZ w' h' muZ'/\bw R B w' h' muZ'/\az w' R h' muZ' c v:=by
 unfold zL at j;split at j
 ·rename_i s o;simp only[bd,Prod.mk.injEq] at j;obtain⟨rfl,rfl⟩:=j;cases p;rename_i g;have:=rel.Kj (w':=w.alloc (.stringIter g 0)) (.iter g.data.toList 0) (.stringIter g 0) (k:=1) rfl rfl rfl rfl rfl ⟨g,rfl,by show (w.heap.push _)[w.heap.size]?=_;simp⟩;refine⟨.pointer (some ⟨w.heap.size,0,none⟩),w.alloc (.stringIter g 0),_,?_,this.1,this.2,?_⟩
  ·simp[Instr.range,b8 o,newObj,Sem.run]
  ·exact .it h.n ⟨w.heap.size,0,0⟩ (by simp[dY,lk]) V
 ·cases j
theorem TP (rel:bw R B w h muZ) {x c:U} {F:aA} {h' : aH} {ty:aC} (j:zl h x=some (c,h')) (I:az w R h muZ x F) :
  ∃ v w',(Instr.next F true ty).run P w=.ok v w'/\cS w h muZ w' h' muZ/\bw R B w' h' muZ/\az w' R h' muZ c v:=by
 unfold zl at j;split at j
 ·rename_i b;split at j
  ·rename_i s pos z;cases I with
   | it _ t J C=>
    have hblk:=rel.blk b t C;rw[z] at hblk;obtain⟨bs,rfl,h1⟩:=hblk;have H:t.r<w.heap.size:=by
     rcases fN t.r w.heap.size with h | h
     ·exact h
     ·rw[p7 h] at h1;cases h1
    have G:(⟨bs.data.toList.toArray⟩:ByteArray)=bs:=by cases bs;simp
    have D:bs.data.toList.length=bs.size:=by rw[rr];rfl
    rw[G] at j;split at j
    ·rename_i o;have u:pos<bs.size:=by rw[<-D];rw[A2] at o;exact o
     simp only[bd,Prod.mk.injEq] at j;obtain⟨rfl,rfl⟩:=j;have:=rel.Ko (w':={ w with heap:=w.heap.setIfInBounds t.r (.stringIter bs (pos+(Utf8.decode bs pos).2)) }) (k:=1) (c':=.iter bs.data.toList (pos+(Utf8.decode bs pos).2)) z rfl rfl C rfl rfl rfl V
      (fun k hk=>by simp only;rw[u7];rw[ak (fun q=>hk q.symm)]) (fun e=>⟨bs,rfl,by simp only;rw[u7];simp[H]⟩)
     refine⟨.tuple #[.bool true,.int .i64 pos,.int .i32 (Utf8.decode bs pos).1],_,?_,this.1,this.2,?_⟩
     ·simp only[Instr.next,Sem.run_bind,Lf h1,Result.andThen_ok,aj u];simp[setObj,Sem.run,h1,goInt]
     ·refine .a1 _ _ rfl fun p c v g m=>?_
      rcases p with _ | _ | _ | p
      ·simp at g m;subst g m;exact .bool _
      ·simp at g m;subst g m;exact .int _ _
      ·simp at g m;subst g m;exact .int _ _
      ·simp at g
    ·rename_i o;have u:¬ pos<bs.size:=by
      rw[<-D];intro q;rw[<-A2] at q;rw[q] at o;cases o
     simp only[bd,Prod.mk.injEq] at j;obtain⟨rfl,rfl⟩:=j;refine⟨.tuple #[.bool false],w,?_,.refl _ _ _,rel,?_⟩
     ·simp only[Instr.next,Sem.run_bind,Lf h1,Result.andThen_ok,ak u];simp
     ·refine .a1 _ _ rfl fun p c v g m=>?_
      rcases p with _ | p
      ·simp at g m;subst g m;exact .bool _
      ·simp at g
  ·cases j
 ·cases j
theorem Ld {blk:Nat}:∀ (n:Nat) (o:Nat) (ns:List Int) (g:ByteArray),ns.length=n->(∀ j v,(ns.map (Value.int .u8))[j]?=some v->(load (⟨blk,o+j,none⟩:Addr)).run P w=.ok v w)->
  ∃ bs,(Extern.Bytes.loadBytes ⟨blk,o,none⟩ n g).run P w=.ok bs w/\bs.data.toList=g.data.toList++ns.map fun n=>UInt8.ofNat n.toNat
 | 0,o,ns,g,m,_=>⟨g,by simp[Extern.Bytes.loadBytes],by rw[ic.1 m];simp⟩
 | n+1,o,[],g,m,_=>by simp at m
 | n+1,o,x::ns,g,m,h=>by
  have p:=h 0 _ rfl;obtain⟨bs,h1,q⟩:=Ld n (o+1) ns (g.push (UInt8.ofNat x.toNat)) (by simpa using m) (fun j v t=>by
   have:=h (j+1) v (by simpa using t);rw[show o+(j+1)=o+1+j by omega] at this;exact this)
  refine⟨bs,?_,?_⟩
  ·unfold Extern.Bytes.loadBytes;rw[nW] at p;simp only[Sem.run_bind,p,Result.andThen_ok,Addr.jP];exact h1
  ·rw[q];simp
theorem Gv (rel:bw R B w h muZ) {x:U} {C:aA} {l:List UInt8} (m:tH h x=some l) (q:az w R h muZ x C) :∃ bs,(Extern.Bytes.bytesOf C).run P w=.ok bs w/\bs.data.toList=l:=by
 unfold tH at m;split at m
 ·cases m;cases q with
  | str bs=>exact⟨bs,by simp[Extern.Bytes.bytesOf],rfl⟩
 ·rename_i V;split at m
  ·rename_i cs n g;obtain⟨ak,F,ae,v,Q⟩:=qF (P:=P) rel g q;have o:=Q n (aI _) w (fun _=>rfl);obtain⟨j,rfl,rfl⟩:=By cs ae l m v.1 v.2;have G:j.length=n:=by have:=v.1;simp at this;omega
   have W:(j.map (Value.int .u8)).take (n*1)=j.map (Value.int .u8):=aL (by simp;omega);rw[W] at o;have S:∃ a len cap,C=.slice a len cap:=by
    cases q<;>first | exact⟨_,_,_,rfl⟩ | (simp[contents] at g;done) | (exact bP rfl (V _))
   obtain⟨a,len,cap,rfl⟩:=S;simp only[Builtin.lenOf,Sem.run_pure,Result.ok.injEq] at F;obtain⟨rfl,_⟩:=F;cases a with
   | none=>
    simp only[Builtin.firstCells,Sem.run_pure,Result.ok.injEq] at o;have X:j=[]:=by
     have:=ch Array.toList o.1;simpa using this.symm
    subst X;exact⟨.empty,by simp[Extern.Bytes.bytesOf],rfl⟩
   | some a=>
    by_cases u:len=0
    ·subst u;have:j=[]:=ic.1 G;subst this;exact⟨.empty,by simp[Extern.Bytes.bytesOf,Extern.Bytes.loadBytes],rfl⟩
    have O:∃ t z,a=⟨t,z,none⟩:=by
     cases q with
     | ad=>exact⟨_,_,rfl⟩
     | bn=>exact⟨_,_,rfl⟩
     | eN=>exact bP rfl u
     | gw=>exact bP rfl u
     | bad=>simp[contents] at g
     | fk _ _ _ _ _ _ _ _ h1 D p=>
      exfalso;simp only[contents] at g;rcases p with p | ⟨n,ag,p,aj⟩
      ·rw[p] at g;cases g
      ·rw[p] at g;simp only at g;split at g
       ·rename_i ai;omega
       ·cases g
    obtain⟨t,z,rfl⟩:=O;simp only[Builtin.firstCells,nX] at o;unfold loadCells at o;obtain⟨l,h1,D,H⟩:=loadCellsFrom_ok _ _ _ _ _ _ o;have I:l=j.map (Value.int .u8):=by
     have:=ch Array.toList D;simpa using this.symm
    subst I;obtain⟨bs,J,K⟩:=Ld (P:=P) (w:=w) (blk:=t) len z j .empty G (fun Y Z T=>by
     have:=H Y Z T;rw[Addr.jP,hr] at this;exact this)
    exact⟨bs,by simpa [Extern.Bytes.bytesOf] using J,by rw[K];rfl⟩
  ·cases m
theorem GV:∀ (a b:List UInt8),(match (List.range (min a.length b.length)).find? fun i=>a.getD i 0 != b.getD i 0 with
  | some i=>if a.getD i 0<b.getD i 0 then (-1:Int) else 1
  | none=>if a.length<b.length then -1 else if a.length > b.length then 1 else 0)=lR a b
 | [],[]=>by simp[lR]
 | [],_::_=>by simp[lR]
 | _::_,[]=>by simp[lR]
 | x::a,y::b=>by
  have m:=GV a b;simp only[dE,Nat.add_min_add_right,List.range_succ_eq_map,AP,List.getD_cons_zero];by_cases g:x=y
  ·subst g;simp only[bne_self_eq_false,lR,if_true];rw[<-m,List.find?_map];have h:((fun i=>(x::a).getD i 0 != (x::b).getD i 0) ∘ Nat.succ)=fun i=>a.getD i 0 != b.getD i 0:=by
    funext i;simp
   rw[h];cases o:(List.range (min a.length b.length)).find? fun i=>a.getD i 0 != b.getD i 0 with
   | none=>simp only[Option.map_none];congr 1<;>simp
   | some i=>simp
  ·have j:(x != y)=true:=by simp[g]
   simp only[j,lR,ak g,List.getD_cons_zero]
theorem HC {alZ:Type} {p q:alZ->Bool}:∀ (l:List alZ),(∀ x∈l,p x=q x)->l.find? p=l.find? q
 | [],_=>rfl
 | x::l,h=>by
  rw[AP,AP,h x V,HC l (fun y g=>h y (by simp[g]))]
theorem qC (a b:ByteArray) :Extern.BytealgCompare.cmp a b=lR a.data.toList b.data.toList:=by
 rw[<-GV];unfold Extern.BytealgCompare.cmp;have g:∀ (a:ByteArray) (i:Nat),i<a.size->a[i]! = a.data.toList.getD i 0:=fun a i h=>by
  simp only[gA,p8];rw[getElem!_pos a i h];have:i<a.data.size:=h;rw[rq this];rfl
 have j:∀ a:ByteArray,a.data.toList.length=a.size:=fun a=>by rw[rr];rfl
 rw[j,j];have o:(List.range (min a.size b.size)).find? (fun i=>a[i]! != b[i]!)=(List.range (min a.size b.size)).find? (fun i=>a.data.toList.getD i 0 != b.data.toList.getD i 0):=by
  apply HC;intro i h;have:=g7.1 h;rw[g a i F,g b i F]
 rw[o];cases m:(List.range (min a.size b.size)).find? (fun i=>a.data.toList.getD i 0 != b.data.toList.getD i 0) with
 | none=>rfl
 | some i=>
  have:=g7.1 (Nf m);simp only;rw[g a i F,g b i F]
theorem Q8 {fn:Func} (h:fn.name= "internal/bytealg.Compare") (g:fn.origin= ""\/fn.origin= "internal/bytealg.Compare") :Extern.find fn=some Extern.BytealgCompare.compare/\Extern.findNext fn=none:=by
 constructor
 ·unfold Extern.find;simp only[h];rfl
 ·unfold Extern.findNext;simp only[h];rcases g with g | g<;>rw[g]<;>rfl
theorem QV (rel:bw R B w h muZ) {f:cf} {fn:Func} {args:ag} {vs:Array aA} {c:U} (J:P.funcs[f]?=some fn) (q:wi fn=true) (g:vP h args=some c)
  (m:vs.size=args.length) (u:∀ (j:Nat) (c:U) (v:aA),args[j]?=some c->vs[j]?=some v->az w R h muZ c v) :
  ∃ v,(callFunc f vs).run P w=.ok (.value v) w/\az w R h muZ c v:=by
 unfold wi at q;simp only[bH,qb,beq_iff_eq] at q;obtain⟨⟨p,t⟩,O⟩:=q;unfold vP at g;split at g
 ·rename_i x y;split at g
  ·rename_i a b G H;cases g;simp only[dE,hq] at m;have Q:vs=#[vs[0],vs[1]]:=by
    apply Array.ext
    ·simpa using m
    ·intro i h1 o;rcases (show i=0\/i=1 by simp at o;omega) with rfl | rfl<;>rfl
   obtain⟨ba,h1,o⟩:=Gv (P:=P) rel G (u 0 x vs[0] rfl (by simp[m]));obtain⟨S,D,F⟩:=Gv (P:=P) rel H (u 1 y vs[1] rfl (by simp[m]));obtain⟨z,C⟩:=Q8 t O;refine⟨.int .i64 (lR a b),?_,.int _ _⟩;rw[Q];have K:fn.name≠ "runtime.NumGoroutine":=by rw[t];decide
   have p:=Ni.1 p;have I:Extern.BytealgCompare.compare #[vs[0],vs[1]]=(do pure (goInt (Extern.BytealgCompare.cmp (<-Extern.Bytes.bytesOf vs[0]) (<-Extern.Bytes.bytesOf vs[1])))):=rfl;simp[callFunc,J,K,p,z,C,mark,Sem.run,I,h1,D,qC,o,F,goInt]
  ·cases g
 ·cases g
end
section
variable {P:bj} {w:aQ} {R:Nat->Prop} {B:Nat} {h:aH} {muZ:bZ}
inductive rG:aA->aA->Prop where
 | bool (a b:Bool) :rG (.bool a) (.bool b)
 | agg (a b:Array aA) :rG (.agg a) (.agg b)
 | slice (a:Option Addr) (l c:Nat) (g:Option Addr) (j h:Nat) :rG (.slice a l c) (.slice g j h)
theorem QN {d:Nat} {t:aC} {x y:U} {b:Bool} {p s1:aA} (m:dJ P d t x y=some b) (g:az w R h muZ x p) (j:az w R h muZ y s1)
  (q:∀ k a k' o,x=.int k a->y=.int k' o->False) (u:∀ a o,x=.str a->y=.str o->False) :rG p s1:=by
 cases d with
 | zero=>simp[dJ] at m
 | succ d=>
  unfold dJ at m;split at m
  ·cases g;cases j;exact .bool _ _
  ·exact (q _ _ _ _ rfl rfl).elim
  ·exact (u _ _ rfl rfl).elim
  ·cases g;cases j;exact .agg _ _
  ·cases g;cases j;exact .agg _ _
  ·cases g;cases j;exact .slice _ _ _ _ _ _
  ·cases g;cases j<;>exact .slice _ _ _ _ _ _
  ·cases g;cases j<;>exact .slice _ _ _ _ _ _
  ·cases g<;>cases j<;>exact .slice _ _ _ _ _ _
  ·cases g<;>cases j<;>exact .slice _ _ _ _ _ _
  ·cases m
theorem QL {op:BinOp} {t:aC} {j m:aW} {g h:aA} (p:rG g h) (o:∀ a b,g=.agg a->h=.agg b->P.eqGuardType P.depth t=false) :(eqGuard op t j m g h).run P w=.ok () w:=by
 cases p with
 | bool a b=>cases op<;>rfl
 | agg a b=>exact run_eqGuard_agg w op t j m a b (o a b rfl rfl)
 | slice=>cases op<;>rfl
theorem WW {t:aC} {g h:aA} {b:Bool} (o:rG g h) (j:(Op.equalIn 10000 t g h).run P w=.ok b w) :
  (binOp .eql t g h).run P w=.ok (.bool b) w/\(binOp .neq t g h).run P w=.ok (.bool (!b)) w:=by have m:(Op.equal t g h).run P w=.ok b w:=j;cases o<;>constructor<;>simp[binOp,m]
theorem QK {op:BinOp} {t:aC} {g h:aW} {k k' : cV} {a b:Int}:(eqGuard op t g h (.int k a) (.int k' b)).run P w=.ok () w:=by cases op<;>rfl
theorem QM {op:BinOp} {t:aC} {g h:aW} {a b:ByteArray}:(eqGuard op t g h (.string a) (.string b)).run P w=.ok () w:=by cases op<;>rfl
theorem OW {op:BinOp} {t:aC} {G H:aW} {x y c:U} {m o:aA} (g:eb P op t x y=some c) (u:az w R h muZ x m) (p:az w R h muZ y o) :
  ∃ v,((do eqGuard op t G H m o;binOp op t m o:Sem aA)).run P w=.ok v w/\az w R h muZ c v:=by
 unfold eb at g;split at g
 ·cases u;cases p;obtain⟨v,h1,C⟩:=OX (P:=P) (w:=w) (R:=R) (h:=h) (muZ:=muZ) (t:=t) g;exact⟨v,by simp[QK,h1],C⟩
 ·cases u;cases p;obtain⟨v,h1,C⟩:=OY (P:=P) (w:=w) (R:=R) (h:=h) (muZ:=muZ) (t:=t) g;exact⟨v,by simp[QM,h1],C⟩
 ·rename_i J K;have F:∀ b,rZ P t x y=true->dJ P 10000 t x y=some b->rG m o/\(eqGuard op t G H m o).run P w=.ok () w ∧
    (binOp .eql t m o).run P w=.ok (.bool b) w/\(binOp .neq t m o).run P w=.ok (.bool (!b)) w:=by
   intro b q j;have D:=QN j u p J K;have I:∀ a b,m=.agg a->o=.agg b->P.eqGuardType P.depth t=false:=by
    rintro a b rfl rfl;cases u with
    | ah cs _ _ _ _=>
     cases p with
     | ah Q _ _ _ _=>simpa [rZ] using q
     | bad=>simp[dJ] at j
    | bad=>cases p<;>simp[dJ] at j
   have O:=B5 10000 t x y b m o j u p;obtain⟨z,B⟩:=WW D O;exact⟨D,QL D I,z,B⟩
  split at g
  ·split at g
   ·rename_i q;cases j:dJ P 10000 t x y with
    | none=>rw[j] at g;cases g
    | some b=>
     rw[j] at g;simp only[cz,bd] at g;subst g;obtain⟨_,z,B,_⟩:=F b q j;exact⟨.bool b,by simp[z,B],.bool _⟩
   ·cases g
  ·split at g
   ·rename_i q;cases j:dJ P 10000 t x y with
    | none=>rw[j] at g;cases g
    | some b=>
     rw[j] at g;simp only[cz,bd] at g;subst g;obtain⟨_,z,_,B⟩:=F b q j;exact⟨.bool (!b),by simp[z,B],.bool _⟩
   ·cases g
  ·cases g
theorem YH {op:UnOp} {x c:U} {m:aA} (g:ri op x=some c) (j:az w R h muZ x m) :∃ v,(Op.unary op m).run P w=.ok v w/\az w R h muZ c v:=by
 unfold ri at g;split at g
 ·cases g;cases j;exact⟨_,by simp[Op.unary],.bool _⟩
 ·cases g;cases j;refine⟨_,?_,.int _ _⟩;simp only[Op.unary];rfl
 ·cases g;cases j;refine⟨_,?_,.int _ _⟩;simp only[Op.unary];rfl
 ·cases g
theorem De {g:aW->U} {j:aW->aA} (m:∀ x,az w R h muZ (g x) (j x)) (o:Option aW) :rI w R h muZ (o.map g) (o.map j):=by
 cases o with
 | none=>trivial
 | some x=>exact m x
def vu (P:bj) (R:Nat->Prop) (B:Nat) (w:aQ) (h:aH) (muZ:bZ) (r:Result Next) :mw->Prop
 | .val c h'=>Good R B w h muZ r c h'
 | .call f args h'=>h'=h/\∃ g:Array aA,r=.ok (.enter f g) w/\g.size=args.length/\∀ (j:Nat) (c:U) (m:aA),args[j]?=some c->g[j]?=some m->az w R h muZ c m
theorem Good.mk {r:Result Next} {c:U} {h' : aH} {v:aA} {w' : aQ} {muZ' : bZ} (m:r=.ok (.value v) w') (g:cS w h muZ w' h' muZ') (j:bw R B w' h' muZ') (o:az w' R h' muZ' c v) :Good R B w h muZ r c h':=
 ⟨v,w',muZ',.inl m,g,j,o⟩
theorem Pg (rel:bw R B w h muZ) {b:Builtin} {ts:Array aC} {ty:aC} {consts:Array Bool} {args:ag} {vs:Array aA} {r:mw} (g:mA P h b ts.toList args=some r)
  (C:vs.size=args.length) (K:∀ (j:Nat) (c:U) (v:aA),args[j]?=some c->vs[j]?=some v->az w R h muZ c v) :vu P R B w h muZ ((builtin b ts ty consts vs).run P w) r:=by
 have one:∀ x,args=[x]->∃ m6,vs=#[m6]/\az w R h muZ x m6:=by
  intro x p;subst p;simp only[dE,hq] at C;refine⟨vs[0],?_,K 0 x _ rfl (by simp[C])⟩;apply Array.ext
  ·simpa using C
  ·intro i h1 q;have:i=0:=F;subst this;rfl
 have two:∀ x y,args=[x,y]->∃ m6 s1,vs=#[m6,s1]/\az w R h muZ x m6/\az w R h muZ y s1:=by
  intro x y p;subst p;simp only[dE,hq] at C;refine⟨vs[0],vs[1],?_,K 0 x _ rfl (by simp[C]),K 1 y _ rfl (by simp[C])⟩;apply Array.ext
  ·simpa using C
  ·intro i h1 q;rcases (show i=0\/i=1 by simp at q;omega) with rfl | rfl<;>rfl
 have H:∀ o,ts.toList=[o]->ts=#[o]:=fun o I=>by apply Array.toList_inj.1;simpa using I
 have Q:∀ o u,ts.toList=[o,u]->ts=#[o,u]:=fun o u I=>by apply Array.toList_inj.1;simpa using I
 unfold mA at g;split at g
 ·rename_i o x t;obtain⟨m6,rfl,p⟩:=one x rfl;obtain rfl:=H o t;split at g
  ·rename_i c m;cases g;obtain⟨v,h1,q⟩:=SU (P:=P) (ty:=ty) rel m p;exact Good.mk (by simp[builtin,h1]) (.refl _ _ _) rel q
  cases m:se P o x with
  | none=>rw[m] at g;cases g
  | some c=>
   rw[m] at g;simp only[cz,bd] at g;subst g;obtain⟨v,h1,q⟩:=SV (P:=P) (u:=o) (ty:=ty) m p;exact Good.mk (by simp[builtin,h1]) (.refl _ _ _) rel q
 ·rename_i o u s x t;obtain⟨j9,m6,rfl,S,p⟩:=two s x rfl;obtain rfl:=Q o u t;split at g
  ·rename_i k J;cases m:vB P h o s x with
   | none=>rw[m] at g;cases g
   | some c=>
    obtain⟨c,h'⟩:=c;rw[m] at g;simp only[cz,bd] at g;subst g;obtain⟨v,w',muZ',h1,q,z,D⟩:=OL (ty:=ty) rel J m S p;exact Good.mk (by simp[builtin,h1]) q z D
  ·cases g
  ·rename_i V W;cases m:n9 P h o s x with
   | none=>rw[m] at g;cases g
   | some c=>
    obtain⟨c,h'⟩:=c;rw[m] at g;simp only[cz,bd] at g;subst g;have J:uu P u:=by
     cases G:P.underlying u with
     | none=>exact bP G W
     | some d=>exact⟨d,G,fun k hk=>V k (by rw[G,hk])⟩
    obtain⟨v,w',muZ',h1,q,z,D⟩:=Bo (ty:=ty) rel J m S p;exact Good.mk (by simp[builtin,h1]) q z D
 ·rename_i o u d x t;obtain⟨X,m6,rfl,G,p⟩:=two d x rfl;obtain rfl:=Q o u t;cases m:tO P h o d x with
  | none=>rw[m] at g;cases g
  | some c=>
   obtain⟨c,h'⟩:=c;rw[m] at g;simp only[cz,bd] at g;subst g;obtain⟨v,w',h1,q,z,D⟩:=P5 (u:=u) (ty:=ty) rel m G p;exact Good.mk (by simp[builtin,h1]) q z D
 ·rename_i o x t;obtain⟨m6,rfl,p⟩:=one x rfl;obtain rfl:=H o t;cases m:tK P o x with
  | none=>rw[m] at g;cases g
  | some c=>
   rw[m] at g;simp only[cz,bd] at g;subst g;obtain⟨v,h1,q⟩:=Pu (P:=P) (ty:=ty) m p;exact Good.mk (by simp[builtin,h1]) (.refl _ _ _) rel q
 ·rename_i o x t;obtain⟨m6,rfl,p⟩:=one x rfl;obtain rfl:=H o t;cases m:tM P h o x with
  | none=>rw[m] at g;cases g
  | some h'=>
   rw[m] at g;simp only[cz,bd] at g;subst g;obtain⟨w',h1,q,z⟩:=PJ (P:=P) (ty:=ty) rel m p;exact Good.mk (v:=.tuple #[]) (by simp[builtin,h1]) q z (.a1 [] #[] rfl (fun _ _ _ T=>by simp at T))
 ·rename_i x y;obtain⟨m6,s1,rfl,p,O⟩:=two x y rfl;cases m:ze x y with
  | none=>rw[m] at g;cases g
  | some c=>
   rw[m] at g;simp only[cz,bd] at g;subst g;unfold ze at m;split at m
   ·split at m
    ·rename_i hk;subst hk;cases m;cases p;cases O;refine Good.mk (v:=.int _ _) ?_ (.refl _ _ _) rel (.int _ _);simp[builtin,Builtin.min_,Builtin.min2]
    ·cases m
   ·cases m
 ·rename_i x y;obtain⟨m6,s1,rfl,p,O⟩:=two x y rfl;cases m:oH x y with
  | none=>rw[m] at g;cases g
  | some c=>
   rw[m] at g;simp only[cz,bd] at g;subst g;unfold oH at m;split at m
   ·split at m
    ·rename_i hk;subst hk;cases m;cases p;cases O;refine Good.mk (v:=.int _ _) ?_ (.refl _ _ _) rel (.int _ _);simp[builtin,Builtin.max_,Builtin.max2]
    ·cases m
   ·cases m
 ·cases g
theorem Gy {f:cf} {fn:Func} {vs:Array aA} (j:P.funcs[f]?=some fn) (g:fn.body.isSome=true) (o:fn.name≠ "runtime.NumGoroutine") :(callFunc f vs).run P w=.ok (.enter f vs) w:=by
 have h:fn.body≠none:=fun m=>by rw[m] at g;cases g
 simp[callFunc,j,o,h]
theorem CL {p:aW->U} {q:aW->aA} (t:∀ x,az w R h muZ (p x) (q x)) (xs:Array aW) :
  ∀ (j:Nat) (c:U) (v:aA),(xs.toList.map p)[j]?=some c->(xs.map q)[j]?=some v->az w R h muZ c v:=by
 intro j c v m g;rw[bW] at m;rw[AE] at g;cases o:xs[j]? with
 | none=>simp[o] at g
 | some u=>
  simp[o] at m g;subst m g;exact t u
theorem Tr {t:aC} {name:String} {g:cf} (h:wz P t name=some g) (u:aA) :(Go.method (P.types.size+Made.depth) t u name).run P w=.ok (g,u) w:=by
 unfold wz at h;split at h
 ·cases h
 ·cases h
 ·rename_i v z;split at h
  ·rename_i i q;split at h
   ·rename_i B o;split at h
    ·rename_i f m p;cases h;obtain⟨k,hk⟩:∃ k,P.types.size+Made.depth=k+1:=⟨P.types.size+Made.depth - 1,by unfold Made.depth;omega⟩
     rw[hk];cases j:P.underlying t with
     | none=>exact bP j z
     | some d=>
      have C:B.path=#[]:=Array.toList_eq_nil_iff.1 m;cases d<;>first
       | (exfalso;exact v _ j)
       | simp[Go.method,typeInfo,q,o,m,p,follow,receiverAt,b8 j,Place.get]
    ·cases h
   ·cases h
  ·cases h
theorem Yd {t V:aC} {C:Bool} {z c x:U} {v:aA} (B:Am P t=some z) (g:Al t z C x=some c) (H:az w R h muZ x v) :
  ∃ iS,(Instr.typeAssert v V t C).run P w=.ok iS w/\az w R h muZ c iS:=by
 unfold Am at B;split at B
 ·cases B
 ·cases B
 ·rename_i D S;cases j:P.underlying t with
  | none=>exact bP j S
  | some d=>
   obtain⟨O,I,J⟩:=Na (P:=P) (w:=w) (R:=R) (h:=h) (muZ:=muZ) B;have two:∀ (a:U) (F:aA) (q:Bool),az w R h muZ a F->az w R h muZ (.a1 [a,.bool q]) (.tuple #[F,.bool q]):=by
    intro a F q Q;refine .a1 _ _ rfl (fun K c v m p=>?_)
    match K,m,p with
    | 0,m,p=>simp at m p;subst m p;exact Q
    | 1,m,p=>simp at m p;subst m p;exact .bool q
    | K+2,m,p=>simp at m
   cases x<;>simp only[Al] at g<;>try (cases g;done)
   case hS=>
    cases H;cases C<;>simp only at g<;>cases g;refine⟨.tuple #[O,.bool false],?_,two _ _ _ J⟩;cases d<;>first
     | (exfalso;exact D _ j)
     | simp[Instr.typeAssert,b8 j,I]
   case gc T W=>
    cases H with
    | gc _ _ u G=>
     split at g
     ·rename_i o;have o:=mo o;subst o;cases C<;>simp only at g<;>cases g
      ·refine⟨u,?_,G⟩;cases d<;>first
        | (exfalso;exact D _ j)
        | simp[Instr.typeAssert,b8 j]
      ·refine⟨.tuple #[u,.bool true],?_,two _ _ _ G⟩;cases d<;>first
        | (exfalso;exact D _ j)
        | simp[Instr.typeAssert,b8 j]
     ·rename_i o;have o:T≠t:=fun h=>by rw[h,A1] at o;cases o
      cases C<;>simp only at g<;>cases g;refine⟨.tuple #[O,.bool false],?_,two _ _ _ J⟩;cases d<;>first
       | (exfalso;exact D _ j)
       | simp[Instr.typeAssert,b8 j,I,o]
theorem Pq (rel:bw R B w h muZ) {D:aW->U} {hW:aW->aA} (C:∀ x,az w R h muZ (D x) (hW x)) {c:Call} {ty:aC} {r:mw} (g:qy P h D c=some r) :
  vu P R B w h muZ ((do let d <-resolve hW c ty;invoke d.target d.args:Sem Next).run P w) r:=by
 unfold qy at g;split at g
 ·rename_i b ai;have:=fun W=>Pg (P:=P) (b:=b) (ts:=c.argTypes) (ty:=ty) (consts:=W) (args:=c.args.toList.map D) (vs:=c.args.map hW) rel g V
   (fun p x v j m=>by
    rw[bW] at j;rw[AE] at m;cases z:c.args[p]? with
    | none=>simp[z] at m
    | some J=>
     simp[z] at j m;subst j m;exact C J)
  simp only[resolve,ai,Sem.run_bind,Sem.run_pure,Result.andThen_ok,invoke];exact this _
 ·rename_i f S;split at g
  ·rename_i Y first e7 al
   have m:=C f;rw[al] at m;cases q:hW f with
   | func aw H cs=>
    rw[q] at m;cases m with
    | fn _ _ _ _ _ h1 O ae ag=>
     split at g
     ·rename_i fn G;have Q:∀ (p:Nat) (x:U) (v:aA),(first++c.args.toList.map D++e7)[p]?=some x->(H++c.args.map hW++cs)[p]?=some v->az w R h muZ x v:=by
       intro p x v j o;by_cases am:p<first.length
       ·rw[gM,aV am] at j;rw[AC,oX F] at o;exact ae p x v j o
       ·by_cases ax:p<first.length+c.args.size
        ·rw[aV (by simp;omega),et F,bW] at j;rw[oX (by simp;omega),u6 F,AE,h1] at o;cases z:c.args[p - first.length]? with
         | none=>simp[z] at o
         | some J=>
          simp[z] at j o;subst j o;exact C J
        ·rw[et (by simp;omega)] at j;rw[u6 (by simp;omega)] at o;refine ag _ x v j ?_;simpa [h1] using o
      split at g
      ·rename_i t;cases g;refine⟨rfl,H++c.args.map hW++cs,?_,by simp[h1,O],Q⟩;simp[resolve,S,q,Deferred.ofValue,invoke,Gy G t.1 t.2]
      ·split at g
       ·rename_i ak;cases I:vP h (first++c.args.toList.map D++e7) with
        | none=>rw[I] at g;cases g
        | some av=>
         rw[I] at g;simp only[cz,bd] at g;subst g;obtain⟨v,K,X⟩:=QV (P:=P) (vs:=H++c.args.map hW++cs) rel G ak I (by simp[h1,O]) Q;rw[AC] at K;exact Good.mk (by simp[resolve,S,q,Deferred.ofValue,invoke,K]) (.refl _ _ _) rel X
       ·cases g
     ·cases g
   | _=>rw[q] at m;cases m
  ·cases g
 ·rename_i x name aj;split at g
  ·rename_i T aB au;have m:=C x;rw[au] at m;split at g
   ·rename_i Y ao;split at g
    ·rename_i fn G;split at g
     ·rename_i t;cases g;cases q:hW x with
      | iface ay u=>
       rw[q] at m;cases m with
       | gc _ _ _ ar=>
        refine⟨rfl,#[u]++c.args.map hW,?_,by simp;omega,?_⟩
        ·have ap:=Tr (P:=P) (w:=w) ao u;have Z:(#[Value.iface T u]++c.args.map hW)[0]?=some (Value.iface T u):=by rw[oX V];rfl
         have aq:(c.args.map hW).extract 0 c.args.size=c.args.map hW:=by
          apply Array.ext';simp[aL]
         simp[Z,aq,resolve,aj,q,invoke,callMethod,ap,Gy G t.1 t.2]
        ·intro p x v j o;cases p with
         | zero=>
          rw[oX V] at o;simp at j o;subst j o;exact ar
         | succ p=>
          rw[jg] at j;rw[u6 V] at o;exact CL C c.args p x v j (by simpa using o)
      | _=>rw[q] at m;cases m
     ·cases g
    ·cases g
   ·cases g
  ·cases g
theorem Do {q:aW->U} {t:aW->aA} (v:∀ x,az w R h muZ (q x) (t x)) (ps:Array (Nat × aW)) :
  (ps.map fun (i,x)=>(i,t x)).size=(ps.toList.map fun p=>(p.1,q p.2)).length ∧
  ∀ (j:Nat) (p:Nat × U) (m:Nat × aA),(ps.toList.map fun p=>(p.1,q p.2))[j]?=some p->(ps.map fun (i,x)=>(i,t x))[j]?=some m->m.1=p.1/\az w R h muZ p.2 m.2:=by
 refine⟨V,fun j p m o g=>?_⟩;rw[bW] at o;rw[AE] at g;cases u:ps[j]? with
 | none=>simp[u] at g
 | some z=>
  simp[u] at o g;subst o g;exact⟨rfl,v z.2⟩
theorem Ew (rel:bw R B w h muZ) {F:aW->U} {J:aW->aA} (j:∀ x,az w R h muZ (F x) (J x)) (o:bb) {r:mw} (g:cF P h F o.op=some r) :
  vu P R B w h muZ ((execOp J o).run P w) r:=by
 obtain⟨aB,op,type,pos,ax,guard⟩:=o;have H:∀ {x:Option U} {m:Sem aA},(∀ c,x=some c->∃ I,m.run P w=.ok I w/\az w R h muZ c I)->x.map (fun y=>mw.val y h)=some r->
   vu P R B w h muZ ((do pure (.value (<-m)) :Sem Next).run P w) r:=by
  intro x m C z;cases S:x with
  | none=>rw[S] at z;cases z
  | some c=>
   rw[S] at z;simp only[cz,bd] at z;subst z;obtain⟨I,h1,D⟩:=C c S;exact Good.mk (by simp[h1]) (.refl _ _ _) rel D
 have ag:∀ {x:Option (U × aH)} {m:Sem aA},(∀ c h',x=some (c,h')->∃ I w' muZ',m.run P w=.ok I w'/\cS w h muZ w' h' muZ'/\bw R B w' h' muZ'/\az w' R h' muZ' c I)->x.map (fun y=>mw.val y.1 y.2)=some r->
   vu P R B w h muZ ((do pure (.value (<-m)) :Sem Next).run P w) r:=by
  intro x m C z;cases S:x with
  | none=>rw[S] at z;cases z
  | some c=>
   obtain⟨c,h'⟩:=c;rw[S] at z;simp only[cz,bd] at z;subst z;obtain⟨I,w',muZ',h1,D,G,Q⟩:=C c h' S;exact Good.mk (by simp[h1]) D G Q
 cases op
 case move x=>
  simp only[cF,bd] at g;subst g;exact Good.mk (by simp[execOp]) (.refl _ _ _) rel (j x)
 case assign x=>
  simp only[cF,bd] at g;subst g;exact Good.mk (by simp[execOp]) (.refl _ _ _) rel (j x)
 case pick c a b=>
  simp only[cF] at g;have Z:=j c;cases p:F c<;>rw[p] at g Z<;>simp only at g<;>try (cases g;done)
  cases g;cases u:J c<;>rw[u] at Z<;>try (cases Z;done)
  cases Z;rename_i q;cases q
  ·exact Good.mk (v:=J b) (by simp[execOp,u,asBool]) (.refl _ _ _) rel (by simpa using j b)
  ·exact Good.mk (v:=J a) (by simp[execOp,u,asBool]) (.refl _ _ _) rel (by simpa using j a)
 case alloc q=>
  simp only[cF] at g;cases O:gd P q with
  | none=>rw[O] at g;cases g
  | some ai=>
   rw[O] at g;simp only[cz,bd] at g;subst g;obtain⟨I,u,z⟩:=rp (P:=P) (w:=w) (R:=R) (h:=h) (muZ:=muZ) O;obtain⟨aj,ak,al⟩:=ya rel (cs:=ai) (vs:=I.cells) q z.1 z.2;exact Good.mk (by simp[execOp,Instr.alloc,u,newVar,newRow]) aj ak (al 0)
 case box q x=>
  simp only[cF] at g;cases O:(F x).cells with
  | none=>rw[O] at g;cases g
  | some ai=>
   rw[O] at g;simp only[cz,bd] at g;subst g;obtain⟨X,Y⟩:=yi (j x) O;obtain⟨aj,ak,al⟩:=ya rel (cs:=ai) (vs:=(J x).cells) q X Y;exact Good.mk (by simp[execOp,Instr.box,newVar,newRow]) aj ak (al 0)
 case build q parts=>
  obtain⟨X,Y⟩:=Do j parts;exact H (fun c p=>Pe p X Y) g
 case buildSlice q len parts=>
  obtain⟨X,Y⟩:=Do j parts;exact ag (fun c h' p=>Pd rel p X Y) g
 case load q a=>exact H (fun c p=>IK rel p (j a)) g
 case store q a x=>
  simp only[cF] at g;cases K:re P h q (F a) (F x) with
  | none=>rw[K] at g;cases g
  | some h'=>
   rw[K] at g;simp only[cz,bd] at g;subst g;obtain⟨w',h1,D,G⟩:=LY (P:=P) rel K (j a) (j x);exact⟨undef,w',muZ,.inr ⟨by simp[execOp,h1],rfl⟩,D,G,.a1 [] #[] rfl (fun _ _ _ T=>by simp at T)⟩
 case nilCheck x=>
  simp only[cF] at g;have u:=j x;cases p:F x<;>rw[p] at g u<;>simp only at g<;>try (cases g;done)
  all_goals
   cases g;cases C:J x<;>rw[C] at u<;>try (cases u;done)
   rename_i y;refine Good.mk (v:=J x) ?_ (.refl _ _ _) rel (by rw[C];exact u);cases u<;>simp[execOp,C]
 case binOp op q x y aF=>exact H (fun c p=>OW p (j x) (j y)) g
 case unOp op q x=>exact H (fun c p=>YH p (j x)) g
 case convert s d x=>
  simp only[cF] at g;split at g
  ·rename_i c p;cases g;obtain⟨I,w',h1,D,G,Q⟩:=Pj rel p (j x);exact Good.mk (by simp[execOp,h1]) D G Q
  ·exact H (fun c p=>P2 rel p (j x)) g
 case makeInterface q x=>
  simp only[cF] at g;cases W:P.underlying q with
  | none=>rw[W] at g;cases g
  | some d=>
   rw[W] at g;cases d<;>simp only at g<;>try (cases g;done)
   all_goals
    cases g;exact Good.mk (v:=.iface q (J x)) (by simp[execOp,Instr.makeInterface,b8 W]) (.refl _ _ _) rel (.gc q _ _ (j x))
 case makeFunc fn first e7=>
  cases fn<;>simp only[cF] at g<;>try (cases g;done)
  cases g;exact Good.mk (by simp[execOp,Instr.makeFunc]) (.refl _ _ _) rel (.fn _ _ _ _ _ V V (CL j first) (CL j e7))
 case makeSlice q l c=>exact ag (fun ay h' p=>Tk rel p (j l) (j c)) g
 case slice q x au ae av=>exact H (fun c p=>Xz rel p (j x) (De j au) (De j ae) (De j av)) g
 case fieldAddr s x f=>exact H (fun c p=>QY p (j x)) g
 case field q x f=>
  simp only[cF] at g;split at g
  ·rename_i cs aC C ao;have u:=j x;rw[C] at u;exact H (fun c p=>QZ ao p u) g
  ·cases g
 case indexAddr q x i=>exact H (fun c p=>R1 p (j x) (j i)) g
 case index q x i=>exact H (fun c p=>Cv p (j x) (j i)) g
 case extract x i=>
  simp only[cF] at g;have u:=j x;cases p:F x<;>rw[p] at g u<;>simp only at g<;>try (cases g;done)
  rename_i aD;cases C:J x<;>rw[C] at u<;>try (cases u;done)
  rename_i arr;cases u with
  | a1 _ _ ap aq=>
   refine H (m:=Instr.extract (J x) i) (fun c p=>?_) g;have am:i<arr.size:=by rw[ap];exact (aK.1 p).1
   exact⟨arr[i],by simp[Instr.extract,C,am],aq i c _ p (by simp[am])⟩
 case call c=>exact Pq rel j g
 case makeMap q r=>
  simp only[cF] at g;split at g
  ·rename_i k e W z;cases g;obtain⟨I,w',muZ',h1,D,G,Q⟩:=Tj (P:=P) (t:=q) (r:=r.map J) rel ⟨_,_,W⟩ (fun x C=>by
    cases r with
    | none=>cases C
    | some o=>
     simp only[cz,bd] at C;subst C;simp only at z;cases ae:asInt (F o) with
     | none=>rw[ae] at z;cases z
     | some n=>
      obtain⟨k,hk⟩:=oa ae (j o);exact⟨k,n,hk⟩)
   exact Good.mk (by simp[execOp,h1]) D G Q
  ·cases g
 case lookup q m k aw=>exact H (fun c p=>S5 rel p (j m) (j k)) g
 case mapUpdate q m k x=>
  simp only[cF] at g;cases K:sh P h q (F m) (F k) (F x) with
  | none=>rw[K] at g;cases g
  | some h'=>
   rw[K] at g;simp only[cz,bd] at g;subst g;obtain⟨w',h1,D,G⟩:=IX (P:=P) rel K (j m) (j k) (j x);exact⟨undef,w',muZ,.inr ⟨by simp[execOp,h1],rfl⟩,D,G,.a1 [] #[] rfl (fun _ _ _ T=>by simp at T)⟩
 case insert q m k x=>
  simp only[cF] at g;cases K:sh P h q (F m) (F k) (F x) with
  | none=>rw[K] at g;cases g
  | some h'=>
   rw[K] at g;simp only[cz,bd] at g;subst g;obtain⟨w',h1,D,G⟩:=IX (P:=P) rel K (j m) (j k) (j x);exact⟨undef,w',muZ,.inr ⟨by simp[execOp,h1],rfl⟩,D,G,.a1 [] #[] rfl (fun _ _ _ T=>by simp at T)⟩
 case range q x=>exact ag (fun c h' p=>Wb rel p (j x)) g
 case next it ar=>
  cases ar with
  | false=>simp only[cF] at g;cases g
  | true=>exact ag (fun c h' p=>by obtain⟨I,w',h1,D,G,Q⟩:=TP (P:=P) (ty:=type) rel p (j it);exact⟨I,w',muZ,h1,D,G,Q⟩) g
 case typeAssert x aE q aw=>
  simp only[cF] at g;split at g
  ·rename_i ai O;exact H (fun c p=>Yd O p (j x)) g
  ·cases g
 all_goals (simp only[cF] at g;cases g)
end
end Go.bh

/-
  The canonical machine, part F: slicing, literals, make, copy, len, indexes, conversions.
-/
import Derived.Test.YtdjbnhgdhambnaaGreatDoorXa
import Derived.Lib.IndexBytes
import Derived.Laws.BytesString
import Derived.Lib.ConvBytes
import Derived.Stop.SameAnswer
set_option maxHeartbeats 16000000
set_option maxRecDepth 100000
set_option linter.unusedVariables false
set_option linter.unusedSimpArgs false
set_option linter.unnecessarySimpa false
namespace Go.bf
open Go
section
variable {P:bg} {w:aO} {R:Nat->Prop} {B:Nat} {h:aE} {muZ:bU}
theorem tg {x:U} {m:aB} {y n j:Nat} {code:BoundsCode} (g:gM x y=some n) (p:az w R h muZ x m) (q:y<=j) :
  n<=y/\(Instr.sliceBound m j code).run P w=.ok n w:=by
 unfold gM at g;cases p with
 | int k i=>
  simp only at g;split at g
  ·rename_i o;cases g;refine⟨F,?_⟩;have:(0<=i/\i<=(j:Int)):=⟨o.1,F⟩
   simp[Instr.sliceBound,asIntOf,this]
  ·cases g
 | _=>simp at g
def rl (w:aO) (R:Nat->Prop) (h:aE) (muZ:bU) :Option U->Option aB->Prop
 | none,none=>True
 | some c,some g=>az w R h muZ c g
 | _,_=>False
theorem qa {B G C:Option U} {p z H:Option aB} {isS:Bool} {len cap cap' l m D:Nat} (g:eY len cap B G C=some (l,D,m)) (S:len<=cap) (Q:cap<=cap')
  (h1:rl w R h muZ B p) (v:rl w R h muZ G z) (J:rl w R h muZ C H) :
  l<=D/\D<=m/\m<=cap/\(C=none->m=cap)/\(Instr.sliceBounds isS len cap' p z H).run P w=.ok (l,D,if C.isSome then m else cap') w:=by
 unfold eY at g;cases C with
 | none=>
  cases H with
  | some u=>exact J.elim
  | none=>
   simp only at g;cases G with
   | none=>
    cases z with
    | some u=>exact v.elim
    | none=>
     simp only at g;cases B with
     | none=>
      cases p with
      | some u=>exact h1.elim
      | none=>
       simp only[bc,Prod.mk.injEq] at g;obtain⟨rfl,rfl,rfl⟩:=g;exact⟨F,S,aF _,fun _=>rfl,by simp[Instr.sliceBounds]⟩
     | some c=>
      cases p with
      | none=>exact h1.elim
      | some u=>
       simp only at g;cases o:gM c len with
       | none=>rw[o] at g;cases g
       | some V=>
        rw[o] at g;simp only[bc,Prod.mk.injEq] at g;obtain⟨rfl,rfl,rfl⟩:=g;have j:=tg (P:=P) (code:=.sliceB) o h1 (aF _);exact⟨j.1,S,aF _,fun _=>rfl,by simp[Instr.sliceBounds,j.2]⟩
   | some I=>
    cases z with
    | none=>exact v.elim
    | some Y=>
     simp only at g;cases q:gM I cap with
     | none=>rw[q] at g;cases g
     | some h'=>
      rw[q] at g;simp only at g;have j:=tg (P:=P) (code:=if isS then .sliceAcap else .sliceAlen) q v Q;cases B with
      | none=>
       cases p with
       | some u=>exact h1.elim
       | none=>
        simp only[bc,Prod.mk.injEq] at g;obtain⟨rfl,rfl,rfl⟩:=g;exact⟨F,j.1,aF _,fun _=>rfl,by simp[Instr.sliceBounds,j.2]⟩
      | some c=>
       cases p with
       | none=>exact h1.elim
       | some u=>
        simp only at g;cases o:gM c h' with
        | none=>rw[o] at g;cases g
        | some V=>
         rw[o] at g;simp only[bc,Prod.mk.injEq] at g;obtain⟨rfl,rfl,rfl⟩:=g;have t:=tg (P:=P) (code:=.sliceB) o h1 (aF _);exact⟨t.1,j.1,aF _,fun _=>rfl,by simp[Instr.sliceBounds,j.2,t.2]⟩
 | some W=>
  cases H with
  | none=>exact J.elim
  | some Z=>
   simp only at g;cases O:gM W cap with
   | none=>rw[O] at g;cases g
   | some X=>
    rw[O] at g;simp only at g;have j:=tg (P:=P) (code:=if isS then .slice3Acap else .slice3Alen) O J Q;cases G with
    | none=>cases g
    | some I=>
     cases z with
     | none=>exact v.elim
     | some Y=>
      simp only at g;cases q:gM I X with
      | none=>rw[q] at g;cases g
      | some h'=>
       rw[q] at g;simp only at g;have t:=tg (P:=P) (code:=.slice3B) q v (aF _);cases B with
       | none=>
        cases p with
        | some u=>exact h1.elim
        | none=>
         simp only[bc,Prod.mk.injEq] at g;obtain⟨rfl,rfl,rfl⟩:=g;exact⟨F,t.1,j.1,(fun K=>by cases K),by simp[Instr.sliceBounds,j.2,t.2]⟩
       | some c=>
        cases p with
        | none=>exact h1.elim
        | some u=>
         simp only at g;cases o:gM c h' with
         | none=>rw[o] at g;cases g
         | some V=>
          rw[o] at g;simp only[bc,Prod.mk.injEq] at g;obtain⟨rfl,rfl,rfl⟩:=g;have T:=tg (P:=P) (code:=.slice3C) o h1 (aF _);exact⟨T.1,t.1,j.1,(fun K=>by cases K),by simp[Instr.sliceBounds,j.2,t.2,T.2]⟩
theorem FZ {z:Nat}:∀ (n:Nat) (cs:ag),(ls z n cs).length=n
 | 0,_=>rfl
 | n+1,cs=>by simp[ls,FZ n]
theorem FY {z:Nat}:∀ (n:Nat) (cs:ag) (i:Nat),i<n->(ls z n cs)[i]?=some ((cs.drop (i*z)).take z)
 | 0,_,_,h=>F
 | n+1,cs,0,_=>by simp[ls]
 | n+1,cs,i+1,h=>by
  simp only[ls,ik];rw[FY n _ i F,uR];congr 3;rw[ec];omega
theorem KH (rel:bu R B w h muZ) {z b off cap sz l j m o cap' : Nat} {cs:ag} {g:M} {hasMax:Bool} (u:h.f b=.cells sz cs) (C:muZ b=some g) (X:off+cap*z<=sz)
  (J:(off+cap*z<sz/\cap'=cap)\/(off+cap*z=sz/\cap<=cap'/\g.s+off+cap'*z<=g.T)) (h1:l<=j) (U:j<=m) (H:m<=cap) (I:hasMax=false->m=cap)
  (D:o=if hasMax then m else cap') (W:m≠l) :
  az w R h muZ (.ad z b (off+l*z) (j - l) (m - l) sz) (.slice (some ((⟨g.r,g.s+off,none⟩:Addr).add (l*z))) (j - l) (o - l)):=by
 have v:=rel.blk b g C;rw[u] at v;have V:=v.2.1;rw[Addr.ju,iE];have P:l*z+(m - l)*z=m*z:=by rw[<-eI];congr 1;omega
 have Q:m*z<=cap*z:=cj _ H;refine .ad z b _ _ _ sz _ cs g u C F F ?_;cases hasMax with
 | false=>
  have G:=I rfl;have t:o=cap':=by simpa using D
  rw[t];rcases J with ⟨p,q⟩ | ⟨p,q,O⟩
  ·rw[<-G] at p q;exact .inl ⟨F,F⟩
  ·rw[<-G] at p q;refine .inr ⟨F,F,?_⟩;have S:l*z+(cap' - l)*z=cap'*z:=by rw[<-eI];congr 1;omega
   omega
 | true=>
  have t:o=m:=by simpa using D
  rw[t];by_cases K:off+l*z+(m - l)*z<sz
  ·exact .inl ⟨K,rfl⟩
  ·exact .inr ⟨F,aF _,F⟩
theorem extract_toList (s:ByteArray) (a b:Nat) :(s.extract a b).data.toList=(s.data.toList.drop a).take (b - a):=by simp[ByteArray.extract,ByteArray.copySlice,List.take_drop]
theorem az.VC (z:Nat) (p:Prop) [Decidable p] (a b:Addr) (cap:Nat) :az w R h muZ (.bj z []) (.slice (if p then some a else some b) 0 cap):=by
 by_cases g:p
 ·rw[aj g];exact .eB _ _ _
 ·rw[ak g];exact .eB _ _ _
theorem az.KF (z b off len cap sz cap' : Nat) (p:Prop) [Decidable p] (a q:Addr) (m:len<=cap) (g:cap<=cap') (j:p0 h b sz) :
  az w R h muZ (.ad z b off len cap sz) (.slice (if p then some a else some q) len cap'):=by
 by_cases o:p
 ·rw[aj o];exact .e9 _ _ _ _ _ _ _ _ m g j
 ·rw[ak o];exact .e9 _ _ _ _ _ _ _ _ m g j
theorem Wf (rel:bu R B w h muZ) {t:aC} {x c:U} {aO:aB} {aq am u:Option U} {aR I aL:Option aB} (g:wW P t x aq am u=some c) (ap:az w R h muZ x aO)
  (h1:rl w R h muZ aq aR) (ae:rl w R h muZ am I) (W:rl w R h muZ u aL) :
  ∃ v,(Instr.sliceAt t aO aR I aL).run P w=.ok v w/\az w R h muZ c v:=by
 unfold wW at g;split at g
 ·-- an array behind its address
  rename_i n e K;cases H:b3 P e with
  | none=>rw[H] at g;cases g
  | some z=>
  cases o:eY n n aq am u with
  | none=>rw[H,o] at g;cases g
  | some Z=>
  obtain⟨l,j,m⟩:=Z;rw[H,o] at g;simp only at g;obtain⟨Y,Q,S,J,C⟩:=qa (P:=P) (isS:=false) o (aF _) (aF _) h1 ae W;have aY:(if u.isSome=true then m else n)=m:=by
   cases u with
   | none=>simp[J rfl]
   | some v=>simp
  rw[aY] at C;split at g
  ·rename_i b q aA;split at g
   ·rename_i aQ;have a9:∃ a,aO=.pointer (some a):=by cases ap<;>exact⟨_,rfl⟩
    obtain⟨a,rfl⟩:=a9;refine⟨_,by simp[Instr.sliceAt,b5 K,Instr.sureAddr,C,ew H];rfl,?_⟩;split at g
    ·rename_i G;cases g;have:j - l=0:=F;rw[this];exact .eB _ _ _
    ·rename_i G;cases g;rw[ak G];cases ap with
     | ptr _ _ _ cs al ag ai=>
      exact KH rel (cap:=m) (cap':=m) (hasMax:=true) ag ai aQ (by
       have aP:=rel.blk b al ai;rw[ag] at aP;have bg:=aP.2.1;by_cases a4:q+m*z<aA
       ·exact .inl ⟨a4,rfl⟩
       ·exact .inr ⟨F,aF _,F⟩) Y Q (aF _) (fun aI=>by cases aI) V G
     | iQ _ _ _ _ ax=>exact .e9 _ _ _ _ _ _ _ _ F (aF _) ax
   ·cases g
  ·rename_i cs q;split at g
   ·rename_i aQ;cases g;cases ap with
    | bR _ _ aD aM aN aG aJ=>
     refine⟨_,by simp[Instr.sliceAt,b5 K,Instr.sureAddr,C,ew H];rfl,?_⟩;have bf:j*z<=n*z:=cj _ F;by_cases G:m=l
     ·have av:j - l=0:=F;rw[av];exact .eB _ _ _
     ·rw[ak G,Addr.ju];have ao:=FZ (z:=z) (j - l) (cs.drop (q+l*z));have aV:∀ i,i<j - l->∀ p,p<z->q+l*z+(i*z+p)<cs.length:=by
       intro i I p O;have:(l+i+1)*z<=j*z:=cj _ F;rw[eI,eI] at this;omega
      have ay:∀ i kQ,(ls z (j - l) (cs.drop (q+l*z)))[i]?=some kQ->i<j - l/\kQ=((cs.drop (q+l*z)).drop (i*z)).take z:=by
       intro i kQ D;have I:i<j - l:=by
        have:=(aH.1 D).1;omega
       rw[FY _ _ _ I] at D;simp only[bc] at D;exact⟨I,D.symm⟩
      have:=az.bj (w:=w) (R:=R) (h:=h) (muZ:=muZ) z (ls z (j - l) (cs.drop (q+l*z))) aD (aM+q+l*z) (m - l) (fun i p=>aN (q+l*z+(i*z+p))) F
       (fun kQ D=>by
        obtain⟨i,I,rfl⟩:=Ez D;obtain⟨aS,aT⟩:=ay i _ (bC I);rw[aT,cI,iX,iX];have:(l+i+1)*z<=j*z:=cj _ F;rw[eI,eI] at this;omega)
       (fun i p I O=>by
        have:=aG (q+l*z+(i*z+p)) (aV i F p O);have aE:aM+q+l*z+(i*z+p)=aM+(q+l*z+(i*z+p)):=F;rw[aE];exact this)
       (fun i kQ D p c O=>by
        obtain⟨aS,rfl⟩:=ay i _ D;have a0:p<z:=by
         have:=(aH.1 O).1;rw[cI] at this;omega
        rw[dG a0,gn,gn,] at O;exact aJ _ c O)
      rw[ao] at this;exact this
   ·cases g
  ·cases g
 ·-- a slice
  rename_i e K;split at g
  ·rename_i z bd b q len cap aA H;split at g
   ·rename_i aK;subst aK;cases o:eY len cap aq am u with
    | none=>rw[o] at g;cases g
    | some Z=>
    obtain⟨l,j,m⟩:=Z;rw[o] at g;simp only[cu,bc] at g;cases ap with
    | ad _ _ _ _ _ _ cap' cs al ag ai ao a7 X=>
     have aU:cap<=cap':=by rcases X with X | X<;>omega
     obtain⟨Y,Q,S,J,C⟩:=qa (P:=P) (isS:=true) o ao aU h1 ae W;refine⟨_,by simp[Instr.sliceAt,Instr.slice,b5 K,C,ew H];rfl,?_⟩;split at g
     ·rename_i G;subst g;have:j - l=0:=F;rw[this];by_cases aw:(if u.isSome=true then m else cap')=l
      ·rw[aj aw,aw,sZ];exact .gh _ _ _ _ _ _ al ag ai
      ·rw[ak aw];cases u with
       | some v=>exact bK (by simpa using G) aw
       | none=>
        have bi:=J rfl;simp only[rh,kA,if_false] at aw ⊢;have aW:cap=l:=F;have bh:q+cap*z=aA/\cap<=cap'/\al.s+q+cap'*z<=al.T:=by rcases X with X | X<;>omega
        have bk:l*z+(cap' - l)*z=cap'*z:=by rw[<-eI];congr 1;omega
        subst aW;rw[Addr.ju];have:=az.ad (w:=w) (R:=R) (h:=h) (muZ:=muZ) z b (q+cap*z) 0 0 aA (cap' - cap) _ al ag ai (aF _) F (.inr ⟨F,F,F⟩)
        rwa [<-iE] at this
     ·rename_i G;subst g;have a6:¬ ((if u.isSome=true then m else cap')=l):=by
       cases u with
       | none=>have:=J rfl;simp;omega
       | some v=>simpa using G
      rw[ak a6];exact KH rel (hasMax:=u.isSome) ag ai a7 X Y Q S (fun aI=>J (by simpa using aI)) rfl G
    | gh _ _ _ _ a cs al ag ai=>
     obtain⟨Y,Q,S,J,C⟩:=qa (P:=P) (isS:=true) o (aF 0) (aF 0) h1 ae W;refine⟨_,by simp[Instr.sliceAt,Instr.slice,b5 K,C,ew H];rfl,?_⟩;have a5:m=0:=by
      cases u with
      | none=>exact J rfl
      | some v=>simp at S;omega
     have a1:l=0:=F;have aX:j=0:=F;subst a5 a1 aX;simp only[if_true] at g;subst g;simp;exact .gh _ _ _ _ _ _ al ag ai
    | e9 _ _ _ _ _ _ cap' a ao X ax=>
     obtain⟨Y,Q,S,J,C⟩:=qa (P:=P) (isS:=true) o ao X h1 ae W;refine⟨_,by simp[Instr.sliceAt,Instr.slice,b5 K,C,ew H];rfl,?_⟩;split at g
     ·rename_i G;subst g;have:j - l=0:=F;rw[this];exact az.KF _ _ _ _ _ _ _ _ _ _ (aF _) (ek _) ax
     ·rename_i G;subst g;have a2:m<=(if u.isSome=true then m else cap'):=by split<;>omega
      exact az.KF _ _ _ _ _ _ _ _ _ _ F F ax
   ·cases g
  ·rename_i z bd ar H;split at g
   ·rename_i aK;subst aK;cases o:eY ar.length ar.length aq am u with
    | none=>rw[o] at g;cases g
    | some Z=>
    obtain⟨l,j,m⟩:=Z;rw[o] at g;simp only[cu,bc] at g;subst g;cases ap with
    | bj _ _ aD q cap aN ao bb aG aJ=>
     obtain⟨Y,Q,S,J,C⟩:=qa (P:=P) (isS:=true) o (aF _) ao h1 ae W;refine⟨_,by simp[Instr.sliceAt,Instr.slice,b5 K,C,ew H];rfl,?_⟩;have a3:((ar.drop l).take (j - l)).length=j - l:=by rw[cI,iX];omega
     have a2:j<=(if u.isSome=true then m else cap):=by
      cases u with
      | none=>simp only[rh,kA,if_false];omega
      | some v=>simpa using Q
     by_cases G:(if u.isSome=true then m else cap)=l
     ·have av:j - l=0:=F;rw[aj G,av,mR];exact .eB _ _ _
     ·rw[ak G,Addr.ju];have ay:∀ i kQ,((ar.drop l).take (j - l))[i]?=some kQ->i<j - l/\ar[l+i]?=some kQ:=by
       intro i kQ D;have I:i<j - l:=by
        have:=(aH.1 D).1;omega
       rw[dG I,gn] at D;exact⟨I,D⟩
      have:=az.bj (w:=w) (R:=R) (h:=h) (muZ:=muZ) z ((ar.drop l).take (j - l)) aD (q+l*z) ((if u.isSome=true then m else cap) - l) (fun i p=>aN (l+i) p) F
       (fun kQ D=>bb kQ (sT (gE D)))
       (fun i p I O=>by
        have:=aG (l+i) p F O;have aE:q+l*z+(i*z+p)=q+((l+i)*z+p):=by rw[eI];omega
        rw[aE];exact this)
       (fun i kQ D p c O=>aJ (l+i) kQ (ay i kQ D).2 p c O)
      rw[a3] at this;exact this
    | eB _ a cap=>
     obtain⟨Y,Q,S,J,C⟩:=qa (P:=P) (isS:=true) o (aF _) (ek cap) h1 ae W;refine⟨_,by simp at C;simp[Instr.sliceAt,Instr.slice,b5 K,C,ew H];rfl,?_⟩;have av:j - l=0:=by simp at S;omega
     rw[av,mR];exact az.VC _ _ _ _ _
   ·cases g
  ·rename_i z H;cases ap;cases o:eY 0 0 aq am u with
   | none=>rw[o] at g;cases g
   | some Z=>
   obtain⟨l,j,m⟩:=Z;rw[o] at g;simp only[cu,bc] at g;subst g;obtain⟨Y,Q,S,J,C⟩:=qa (P:=P) (isS:=true) o (aF _) (aF _) h1 ae W;obtain rfl:m=0:=F;obtain rfl:j=0:=F;obtain rfl:l=0:=F;refine⟨_,by simp[Instr.sliceAt,Instr.slice,b5 K,C,ew H];rfl,?_⟩;exact .af
  ·cases g
 ·-- a string
  rename_i s K;split at g
  ·cases ap with
   | str au=>
    cases o:eY au.data.toList.length au.data.toList.length aq am none with
    | none=>rw[o] at g;cases g
    | some Z=>
    obtain⟨l,j,m⟩:=Z;rw[o] at g;simp only[cu,bc] at g;subst g;cases aL with
    | some v=>exact W.elim
    | none=>
     have a8:au.data.toList.length=au.size:=V;rw[a8] at o;obtain⟨Y,Q,S,J,C⟩:=qa (P:=P) (isS:=false) o (aF _) (aF _) h1 ae W;refine⟨.string (au.extract l j),by simp[Instr.sliceAt,Instr.slice,b5 K,C],?_⟩;rw[<-extract_toList];exact .str _
  ·cases g
 ·cases g
end
section
variable {P:bg} {w:aO} {R:Nat->Prop} {B:Nat} {h:aE} {muZ:bU}
def iI (w:aO) (R:Nat->Prop) (h:aE) (muZ:bU) (cs:ag) (arr:Array aB) :Prop:=
 arr.size=cs.length/\∀ (j:Nat) (c:U),cs[j]?=some c->∃ g:aB,arr[j]?=some g/\g.oneCell'=true/\az w R h muZ c g
theorem iI.ah {cs:ag} {arr:Array aB} (j:iI w R h muZ cs arr) :az w R h muZ (.ah cs) (.agg arr):=by
 refine .ah _ _ j.1 (fun m v g=>?_) (fun m c v q g=>?_)
 ·have t:m<cs.length:=by have:=(hT.1 g).1;rw[<-j.1];exact this
  obtain⟨u,h1,o,_⟩:=j.2 m _ (bC t);rw[g] at h1;cases h1;exact o
 ·obtain⟨u,h1,_,p⟩:=j.2 m c q;rw[g] at h1;cases h1;exact p
theorem Hd:∀ (l:List aB) (k off:Nat) (cells:Array aB),off+k+l.length<=cells.size->
  ((l.zipIdx k).foldl (fun cs (g:aB × Nat)=>cs.setIfInBounds (off+g.2) g.1) cells).size=cells.size ∧
  ∀ j,((l.zipIdx k).foldl (fun cs (g:aB × Nat)=>cs.setIfInBounds (off+g.2) g.1) cells)[j]?=if off+k<=j/\j<off+k+l.length then l[j - (off+k)]? else cells[j]?
 | [],k,off,cells,_=>⟨V,fun j=>by simp;omega⟩
 | v::l,k,off,cells,p=>by
  simp only[du] at p;have o:=Hd l (k+1) off (cells.setIfInBounds (off+k) v) (by simp;omega);simp only[List.zipIdx_cons,xn];refine⟨by rw[o.1];simp,fun j=>?_⟩;rw[o.2 j];by_cases m:off+(k+1)<=j/\j<off+(k+1)+l.length
  ·rw[aj m,aj (by simp only[du];omega)];have:j - (off+k)=(j - (off+(k+1)))+1:=F;rw[this,ik]
  ·rw[ak m,uM];by_cases h:off+k=j
   ·subst h;rw[aj rfl,aj F,aj (by simp only[du];omega)];simp
   ·rw[ak h,ak (by simp only[du];omega)]
theorem ye {I:Nat->Option (Nat × Nat)}:∀ (parts:List (Nat × U)) (B:List (Nat × aB)) (cs:ag) (arr:Array aB) (cs' : ag),
  ef I cs parts=some cs'->iI w R h muZ cs arr->B.length=parts.length->(∀ (j:Nat) (p:Nat × U) (z:Nat × aB),parts[j]?=some p->B[j]?=some z->z.1=p.1/\az w R h muZ p.2 z.2)->
  ∃ arr',Instr.fill I arr B=some arr'/\iI w R h muZ cs' arr'
 | [],[],cs,arr,cs',g,q,_,_=>by
  simp only[ef,bc] at g;subst g;exact⟨arr,rfl,q⟩
 | [],_::_,_,_,_,_,_,v,_=>by simp at v
 | _::_,[],_,_,_,_,_,v,_=>by simp at v
 | (i,c) ::parts,(S,o) ::B,cs,arr,cs',g,q,v,O=>by
  obtain⟨rfl,Q⟩:=O 0 (i,c) (S,o) rfl rfl;simp only at Q;unfold ef at g;cases C:I S with
  | none=>rw[C] at g;cases g
  | some al=>
  obtain⟨t,size⟩:=al;cases G:c.cells with
  | none=>rw[C,G] at g;cases g
  | some T=>
  rw[C,G] at g;simp only at g;split at g
  ·rename_i am;obtain⟨P,ae⟩:=xV Q G;have H:o.cells.toList.length=T.length:=by simpa using P
   have K:=Hd o.cells.toList 0 t arr (by rw[q.1,H];omega);have ai:o.cells.zipIdx.foldl (fun cs (x:aB × Nat)=>match x with | (c,j)=>cs.setIfInBounds (t+j) c) arr=(o.cells.toList.zipIdx 0).foldl (fun cs (J:aB × Nat)=>cs.setIfInBounds (t+J.2) J.1) arr:=by
    rw[<-Array.foldl_toList];simp
   obtain⟨arr',h1,D⟩:=ye parts B (aw cs t T) (o.cells.zipIdx.foldl (fun cs (x:aB × Nat)=>match x with | (c,j)=>cs.setIfInBounds (t+j) c) arr) cs' g (by
     rw[ai];refine⟨by rw[K.1,q.1,ou F];omega,fun j x m=>?_⟩;rw[K.2 j];rw[DK F] at m;split at m
     ·rename_i ao;rw[ak F];exact q.2 j x m
     ·split at m
      ·rename_i h1 D;rw[aj (by rw[H];omega)];obtain⟨u,V,W,X⟩:=ae _ x m;exact⟨u,by simpa using V,W,X⟩
      ·rename_i h1 D;rw[ak (by rw[H];omega)];exact q.2 j x m) (by simpa using v) (fun j p z m Y=>O (j+1) p z (by simpa using m) (by simpa using Y))
   refine⟨arr',?_,D⟩;have Z:¬ (o.cells.size≠size\/t+o.cells.size > arr.size):=by rw[P,q.1];omega
   simp only[Instr.fill,C];rw[ak (by simpa using Z)];exact h1
  ·cases g
theorem q4 {t:aC} {z:ag} (p:fV P t=some z) :∃ v,(∀ w2:aO,(zeroValue t).run P w2=.ok v w2)/\iI w R h muZ z v.cells:=by obtain⟨i,v,j,o,m,g⟩:=Mc (w:=w) (R:=R) (h:=h) (muZ:=muZ) p;exact⟨v,fun w2=>Kt j o,m,g⟩
theorem VJ {fs:Array Field} (j:(fs.toList.all fun f=>(b3 P f.type).isSome)=true) :
  (fs.mapM fun f=>(do pure (f.offset,<-sizeOf f.type) :Sem (Nat × Nat))).run P w=.ok ((fs.toList.map fun f=>(f.offset,(b3 P f.type).getD 0)).toArray) w:=by
 rw[Me];simp only[Sem.run_map];have:∀ l:List Field,(l.all fun f=>(b3 P f.type).isSome)=true->(l.mapM fun f=>(do pure (f.offset,<-sizeOf f.type) :Sem (Nat × Nat))).run P w=.ok (l.map fun f=>(f.offset,(b3 P f.type).getD 0)) w:=by
  intro l
  induction l with
  | nil=>intro _;simp
  | cons f l m=>
   intro g;simp only[Ev,bN] at g;obtain⟨n,h⟩:=Mj.1 g.1;simp only[oC,Sem.run_bind,ew h,Result.andThen_ok,Sem.run_pure,m g.2,dh,h,gU]
 rw[this _ j];rfl
theorem Ob {t:aC} {parts:List (Nat × U)} {u:Array (Nat × aB)} {c:U} (g:vn P t parts=some c) (I:u.size=parts.length)
  (J:∀ (j:Nat) (p:Nat × U) (q:Nat × aB),parts[j]?=some p->u[j]?=some q->q.1=p.1/\az w R h muZ p.2 q.2) :
  ∃ v,(Instr.build t u).run P w=.ok v w/\az w R h muZ c v:=by
 unfold vn at g;split at g
 ·rename_i zero fs H F;split at g
  ·cases g
  ·rename_i m;simp only[sN,Bool.not_eq_false] at m;cases o:ef (wE P fs) zero parts with
   | none=>rw[o] at g;cases g
   | some cs=>
    rw[o] at g;simp only[cu,bc] at g;subst g;obtain⟨v,G,D⟩:=q4 (w:=w) (R:=R) (h:=h) (muZ:=muZ) H;obtain⟨O,h1,z⟩:=ye parts u.toList zero v.cells cs o D (by simpa using I) (fun j p q B C=>J j p q B (by simpa using C));have T:(fun i=>((fs.toList.map fun f=>(f.offset,(b3 P f.type).getD 0)).toArray)[i]?)=wE P fs:=by
     funext i;simp only[wE];simp only[uS,bX,pP];cases Q:fs[i]? with
     | none=>simp
     | some f=>
      rw[fW] at m;have:=m f (by have:=xg Q;simpa using this);obtain⟨n,S⟩:=Mj.1 this;simp[S]
    refine⟨_,?_,z.ah⟩;simp only[Instr.build,Sem.run_bind,G,Result.andThen_ok,b5 F,VJ m];rw[T,h1];simp
 ·rename_i zero n e H F;cases m:b3 P e with
  | none=>rw[m] at g;cases g
  | some K=>
   rw[m] at g;simp only at g;cases o:ef (fun i=>some (i*K,K)) zero parts with
   | none=>rw[o] at g;cases g
   | some cs=>
    rw[o] at g;simp only[cu,bc] at g;subst g;obtain⟨v,G,D⟩:=q4 (w:=w) (R:=R) (h:=h) (muZ:=muZ) H;obtain⟨O,h1,z⟩:=ye parts u.toList zero v.cells cs o D (by simpa using I) (fun j p q B C=>J j p q B (by simpa using C));refine⟨_,?_,z.ah⟩;simp only[Instr.build,Sem.run_bind,G,Result.andThen_ok,b5 F,ew m];rw[h1];simp
 ·cases g
theorem sd {zero:ag}:∀ n,(cy zero n).length=n*zero.length
 | 0=>by simp[cy]
 | n+1=>by simp only[cy,cg,sd n,ec];omega
theorem J6 {zero:ag}:∀ (n j:Nat) (c:U),(cy zero n)[j]?=some c->zero[j % zero.length]?=some c
 | 0,_,_,g=>by simp[cy] at g
 | n+1,j,c,g=>by
  simp only[cy] at g;by_cases h:j<zero.length
  ·rw[aS h] at g
   rwa [dH h]
  ·rw[ej F] at g;have:=J6 n _ c g
   rwa [<-Nat.mod_eq_sub_mod F] at this
theorem zl {zero:ag} {z:Array aB} (j:iI w R h muZ zero z) (n:Nat) :iI w R h muZ (cy zero n) ((Array.range (n*zero.length)).map (z[· % z.size]!)):=by
 refine⟨by simp[sd],fun m c g=>?_⟩;have t:m<n*zero.length:=by
  have:=(aH.1 g).1
  rwa [sd] at this
 obtain⟨u,h1,o,p⟩:=j.2 _ c (J6 n m c g);refine⟨u,?_,o,p⟩;rw[<-j.1] at h1;obtain⟨q,rfl⟩:=hT.1 h1;simp[t,q]
theorem P4 {z:Nat}:∀ (parts:List (Nat × U)) (a b:ag),ef (fun i=>some (i*z,z)) a parts=some b->b.length=a.length:=by
 intro parts
 induction parts with
 | nil=>intro a b g;simp only[ef,bc] at g;subst g;rfl
 | cons p parts h=>
  intro a b g;unfold ef at g;split at g
  ·rename_i o size q j m;split at g
   ·rw[h _ _ g,ou F];omega
   ·cases g
  ·cases g
theorem FL {t e:aC} {len z:Nat} {zero cs:ag} {parts:List (Nat × U)} {m:Array (Nat × aB)} (D:gb P t=some e) (T:b3 P e=some z) (V:fV P e=some zero) (v:zero.length=z) (X:len*z<=16777216)
  (q:ef (fun i=>some (i*z,z)) (cy zero len) parts=some cs) (I:m.size=parts.length)
  (K:∀ (j:Nat) (p:Nat × U) (g:Nat × aB),parts[j]?=some p->m[j]?=some g->g.1=p.1/\az w R h muZ p.2 g.2) :
  cs.length=len*z/\∃ arr,(Instr.buildSlice t len m).run P w=.ok (.slice (some ⟨w.heap.size,0,none⟩) len len) (w.alloc (.cells arr e))/\iI w R h muZ cs arr:=by
 obtain⟨Y,S,O⟩:=q4 (w:=w) (R:=R) (h:=h) (muZ:=muZ) V;obtain⟨B,h1,C⟩:=ye parts m.toList _ _ cs q (zl O len) (by simpa using I) (fun j p g G H=>K j p g G (by simpa using H));refine⟨by rw[P4 _ _ _ q,sd,v],B,?_,C⟩;have Q:=vF D;have J:¬ (len*z > 2 ^ 24):=F;simp only[Instr.buildSlice,Sem.run_bind,b5 Q,Result.andThen_ok,ew T,ak J];rw[v] at h1;generalize W:len*z=N at h1;by_cases o:N=0
 ·subst o;have u:∀ f:Nat->aB,(Array.range 0).map f=#[]:=fun f=>by simp[Array.range]
  rw[u] at h1;simp[u,h1,newRow]
 ·simp[o,S,h1,newRow]
theorem Oa (rel:bu R B w h muZ) {t:aC} {len:Nat} {parts:List (Nat × U)} {H:Array (Nat × aB)} {c:U} {h' : aE} (g:xR P h t len parts=some (c,h')) (S:H.size=parts.length)
  (W:∀ (j:Nat) (p:Nat × U) (G:Nat × aB),parts[j]?=some p->H[j]?=some G->G.1=p.1/\az w R h muZ p.2 G.2) :
  ∃ v w' muZ',(Instr.buildSlice t len H).run P w=.ok v w'/\cN w h muZ w' h' muZ'/\bu R B w' h' muZ'/\az w' R h' muZ' c v:=by
 unfold xR at g;cases z:gb P t with
 | none=>rw[z] at g;cases g
 | some e=>
 rw[z] at g;simp only at g;cases q:b3 P e with
 | none=>rw[q] at g;cases g
 | some m=>
 cases D:fV P e with
 | none=>rw[q,D] at g;cases g
 | some zero=>
 rw[q,D] at g;simp only at g;split at g
 ·rename_i Q;obtain⟨Y,T⟩:=Q;cases C:ef (fun i=>some (i*m,m)) (cy zero len) parts with
  | none=>rw[C] at g;cases g
  | some cs=>
   rw[C] at g;simp only[cu,bc,Prod.mk.injEq] at g;obtain⟨rfl,rfl⟩:=g;obtain⟨J,o,X,u⟩:=FL z q D Y T C S W;have I:=xM rel (cs:=cs) (vs:=o) e u.1 u.2;rw[J] at I;obtain⟨K,O,Z⟩:=I;refine⟨.slice (some ⟨w.heap.size,0,none⟩) len len,_,_,X,K,O,?_⟩;have:=az.ad (w:=w.alloc (.cells o e)) (R:=R) (h:=h.push (.cells (len*m) cs)) (muZ:=bh muZ h.n (some ⟨w.heap.size,0,o.size⟩)) m h.n 0 len len (len*m) len cs ⟨w.heap.size,0,o.size⟩ (by simp[dL]) V (aF _) F
    (.inr ⟨F,aF _,by simp only;rw[u.1,J];omega⟩)
   simpa using this
 ·cases g
theorem Ie {t e:aC} {z by_:Nat} {zero:ag} {kl kc:cQ} {li j5:Int} (D:gb P t=some e) (v:b3 P e=some z) (g:gG P e=some by_) (O:fV P e=some zero) (C:zero.length=z)
  (Q:0<=li) (T:li<=j5) (S:j5<9223372036854775808) (I:by_*j5<=db) :
  (cy zero j5.toNat).length=j5.toNat*z/\∃ arr,(Instr.makeSlice t (.int kl li) (.int kc j5)).run P w=.ok (.slice (some ⟨w.heap.size,0,none⟩) li.toNat j5.toNat) (w.alloc (.cells arr e))/\iI w R h muZ (cy zero j5.toNat) arr:=by
 obtain⟨U,K,H⟩:=q4 (w:=w) (R:=R) (h:=h) (muZ:=muZ) O;have J:=zl H j5.toNat
 refine⟨by rw[sd,C],_,?_,J⟩;obtain⟨i,j,o⟩:∃ i,P.info? e=some i/\i.bytes=by_:=by
  unfold gG at g;cases j:P.info? e with
  | none=>rw[j] at g;cases g
  | some i=>rw[j] at g;exact⟨i,rfl,by simpa using g⟩
 have u:IntKind.i64.wrap li=li:=IntWalk.i64_in _ F;have q:IntKind.i64.wrap j5=j5:=IntWalk.i64_in _ F;have p:=vF D;unfold db at I;have t1:¬ (j5<0\/(281474976710656:Int)<(by_:Int)*j5):=F;have t2:¬ (li<0):=F;have t3:¬ (j5<li):=F;rw[C];generalize m:j5.toNat*z=N;by_cases B:N=0
 ·subst B;have G:∀ f:Nat->aB,(Array.range 0).map f=#[]:=fun f=>by simp[Array.range]
  simp[G,Instr.makeSlice,b5 p,Go.asInt,asIntOf,typeInfo,j,o,u,q,t1,t2,t3,ew v,m,newRow]
 ·simp[Instr.makeSlice,b5 p,Go.asInt,asIntOf,typeInfo,j,o,u,q,t1,t2,t3,ew v,m,B,K,newRow]
theorem Se (rel:bu R B w h muZ) {t:aC} {l c r:U} {H z:aB} {h' : aE} (g:yI P h t l c=some (r,h')) (X:az w R h muZ l H) (O:az w R h muZ c z) :
  ∃ v w' muZ',(Instr.makeSlice t H z).run P w=.ok v w'/\cN w h muZ w' h' muZ'/\bu R B w' h' muZ'/\az w' R h' muZ' r v:=by
 unfold yI at g;split at g
 ·rename_i e G j W Z S;obtain⟨ak,rfl⟩:=nR Z X;obtain⟨aj,rfl⟩:=nR S O;cases m:b3 P e with
  | none=>rw[m] at g;cases g
  | some u=>
  cases o:gG P e with
  | none=>rw[m,o] at g;cases g
  | some am=>
  cases q:fV P e with
  | none=>rw[m,o,q] at g;cases g
  | some zero=>
  rw[m,o,q] at g;simp only at g;split at g
  ·rename_i T;obtain⟨ai,K,Y,Q,ae⟩:=T;simp only[bc,Prod.mk.injEq] at g;obtain⟨rfl,rfl⟩:=g;obtain⟨D,arr,ag,p⟩:=Ie (w:=w) (R:=R) (h:=h) (muZ:=muZ) (kl:=ak) (kc:=aj) W m o q ai K Y Q ae;have C:=xM rel (cs:=cy zero j.toNat) e p.1 p.2;rw[D] at C;obtain⟨I,J,al⟩:=C;refine⟨.slice (some ⟨w.heap.size,0,none⟩) G.toNat j.toNat,_,_,ag,I,J,?_⟩;have:=az.ad (w:=w.alloc (.cells arr e)) (R:=R) (h:=h.push (.cells (j.toNat*u) (cy zero j.toNat))) (muZ:=bh muZ h.n (some ⟨w.heap.size,0,arr.size⟩))
    u h.n 0 G.toNat j.toNat (j.toNat*u) j.toNat (cy zero j.toNat) ⟨w.heap.size,0,arr.size⟩ (by simp[dL]) V F F
    (.inr ⟨F,aF _,by simp only;rw[p.1,D];omega⟩)
   simpa using this
  ·cases g
 ·cases g
theorem RQ {t u:aC} {ty:aC} {x c:U} {p:aB} (j:rV P t x=some c) (m:az w R h muZ x p) :∃ v,(Builtin.len_ #[t] ty #[p]).run P w=.ok v w/\az w R h muZ c v:=by
 unfold rV at j;split at j<;>(try (simp only[bc] at j;subst j))
 ·rename_i s g;cases m;rename_i o;exact⟨goInt o.size,by simp[Builtin.len_,b5 g],by rw[show (o.data.toList.length:Int)=o.size from by simp];exact .int _ _⟩
 ·rename_i n e g;exact⟨goInt n,by simp[Builtin.len_,b5 g],.int _ _⟩
 ·rename_i e g;cases m;exact⟨goInt (0:Nat),by simp[Builtin.len_,b5 g],.int _ _⟩
 ·rename_i e z b B len cap C g;cases m
  ·exact⟨goInt len,by simp[Builtin.len_,b5 g],.int _ _⟩
  ·exact⟨goInt len,by simp[Builtin.len_,b5 g],.int _ _⟩
  ·exact⟨goInt (0:Nat),by simp[Builtin.len_,b5 g],.int _ _⟩
 ·rename_i e z q g;cases m
  ·exact⟨goInt q.length,by simp[Builtin.len_,b5 g],.int _ _⟩
  ·exact⟨goInt (0:Nat),by simp[Builtin.len_,b5 g],.int _ _⟩
 ·rename_i k e g;cases m;exact⟨goInt 0,by simp[Builtin.len_,b5 g],.int _ _⟩
 ·cases j
end
section
variable {P:bg} {w:aO} {R:Nat->Prop} {B:Nat} {h:aE} {muZ:bU}
theorem qH {t:aC} {cs:ag} {vs:Array aB} {off:Nat} {c:U} (g:gg P t cs off=some c) (m:iI w R h muZ cs vs) :
  ∃ v,(∀ w2:aO,(part t vs off).run P w2=.ok v w2)/\az w R h muZ c v:=by
 unfold gg at g;cases j:ds P t with
 | none=>rw[j] at g;cases g
 | some b=>
  rw[j] at g;cases b with
  | false=>
   simp only at g;obtain⟨v,h1,_,o⟩:=m.2 off c g;exact⟨v,fun w2=>by simp[part,zt j,h1],o⟩
  | true=>
   cases q:b3 P t with
   | none=>rw[q] at g;cases g
   | some n=>
    rw[q] at g;simp only at g;split at g
    ·rename_i C;cases g;refine⟨.agg (vs.extract off (off+n)),fun w2=>by simp[part,zt j,ew q],iI.ah ⟨by simp;rw[m.1];omega,fun B c p=>?_⟩⟩;have z:B<n:=by
      have:=(aH.1 p).1;rw[cI] at this;omega
     rw[dG z,gn] at p;obtain⟨v,h1,u,o⟩:=m.2 _ c p;refine⟨v,?_,u,o⟩;rw[Array.getElem?_extract,aj (by rw[m.1];omega)];exact h1
    ·cases g
theorem p7 {cs:ag} {p:aB} (t:az w R h muZ (.ah cs) p) :∃ vs,p=.agg vs/\iI w R h muZ cs vs:=by
 cases t with
 | ah _ vs o h1 q=>
  refine⟨vs,rfl,o,fun g c m=>?_⟩;have j:g<vs.size:=by rw[o];exact (aH.1 m).1
  exact⟨vs[g],by simp[j],h1 g _ (by simp[j]),q g c _ m (by simp[j])⟩
theorem P0 {t:aC} {cs:ag} {f:Nat} {g:Field} {c:U} {j:aB} (o:rH P t f=some g) (q:gg P g.type cs g.offset=some c) (B:az w R h muZ (.ah cs) j) :
  ∃ v,(Instr.field t j f).run P w=.ok v w/\az w R h muZ c v:=by obtain⟨C,z,p⟩:=GR o;obtain⟨D,rfl,u⟩:=p7 B;obtain⟨v,h1,m⟩:=qH (P:=P) q u;exact⟨v,by simp[Instr.field,b5 z,p,asAgg,h1],m⟩
theorem BT {t:aC} {x D c:U} {F C:aB} (g:tD P t x D=some c) (B:az w R h muZ x F) (z:az w R h muZ D C) :
  ∃ v,(Instr.index t F C).run P w=.ok v w/\az w R h muZ c v:=by
 unfold tD at g;split at g
 ·rename_i n e cs i q p;obtain⟨k,rfl⟩:=nR p z;cases u:b3 P e with
  | none=>rw[u] at g;cases g
  | some Q=>
   rw[u] at g;simp only at g;split at g
   ·rename_i o;obtain⟨O,rfl,K⟩:=p7 B;obtain⟨v,h1,G⟩:=qH (P:=P) g K;exact⟨v,by simp[Instr.index,asIntOf,b5 q,o,ew u,h1],G⟩
   ·cases g
 ·rename_i s i q p;obtain⟨k,rfl⟩:=nR p z;split at g
  ·rename_i o;cases B with
   | str j=>
    cases m:j.data.toList[i.toNat]? with
    | none=>rw[m] at g;cases g
    | some b=>
     rw[m] at g;simp only[cu,bc] at g;subst g;have J:i.toNat<j.size:=by have:=(aH.1 m).1;simpa using this
     have I:j[i.toNat]?=some b:=by
      have H:=(aH.1 m).2;rw[getElem?_pos j i.toNat J];simp only[bc];rw[<-H];rfl
     exact⟨.int .u8 b.toNat,by simp[Instr.index,asIntOf,b5 q,o,I],.int _ _⟩
  ·cases g
 ·cases g
theorem O8 (rel:bu R B w h muZ) {t u ty:aC} {d x c:U} {V ao:aB} {h' : aE} (g:tt P h t d x=some (c,h')) (Z:az w R h muZ d V) (S:az w R h muZ x ao) :
  ∃ v w',(Builtin.copy_ #[t,u] ty #[V,ao]).run P w=.ok v w'/\cN w h muZ w' h' muZ/\bu R B w' h' muZ/\az w' R h' muZ c v:=by
 unfold tt at g;cases H:gb P t with
 | none=>rw[H] at g;cases g
 | some e=>
 rw[H] at g;simp only at g;cases p:b3 P e with
 | none=>rw[p] at g;cases g
 | some z=>
 rw[p] at g;simp only at g;cases G:contents h z x with
 | none=>rw[G] at g;cases g
 | some aG=>
 obtain⟨C,n⟩:=aG;rw[G] at g;simp only at g;have Q:=vF H;obtain⟨aN,K,aD,ai,I⟩:=qk (P:=P) rel G S;split at g
 ·simp only[bc,Prod.mk.injEq] at g;obtain⟨rfl,rfl⟩:=g;cases Z;have D:=I 0 (ek _) w (fun _=>rfl);refine⟨goInt (0:Nat),w,?_,.refl _ _ _,rel,.int _ _⟩;simp[Builtin.copy_,b5 Q,K,ew p,D]
 ·rename_i aQ b q len cap aP;cases j:h.f b with
  | cells m cs=>
   rw[j] at g;simp only at g;split at g
   ·rename_i au;obtain⟨rfl,rfl⟩:=au;simp only[bc,Prod.mk.injEq] at g;obtain⟨rfl,rfl⟩:=g;cases Z with
    | gh _ _ _ _ a T am aq O=>
     have D:=I 0 (ek _) w (fun _=>rfl);have aA:aw cs q []=cs:=by simp[aw]
     have aj:=rel.same (h':=h.set b (.cells m (aw cs q (C.take (min n 0*z))))) (by
      rw[de,Nat.min_zero,s1,mR,aA];funext x;simp only[bh];split
      ·rename_i S;rw[S,j]
      ·rfl) rfl
     refine⟨goInt (0:Nat),w,?_,aj.1,aj.2,by rw[Nat.min_zero];exact .int _ _⟩;simp[Builtin.copy_,b5 Q,K,ew p,D,storeCells,Result.andThen]
    | e9 _ _ _ _ _ _ ap a ax ar o=>
     exfalso;rcases o with o | ⟨aO,T,o,ae⟩
     ·rw[o] at j;cases j
     ·rw[o] at j;cases j;omega
    | ad _ _ _ _ _ _ ap T am aq O ax aM ar=>
     have Y:=rel.blk b am O;rw[j] at Y;obtain⟨aJ,aI,_⟩:=Y;have aK:min n len*z<=cap*z:=cj _ F;have aL:min n len*z<=n*z:=cj _ F;have ak:(C.take (min n len*z)).length=min n len*z:=by rw[cI];omega
     have ag:max m (q+(C.take (min n len*z)).length)=m:=by rw[ak];omega
     obtain⟨w',h1,W,X⟩:=sD (P:=P) rel (cvs:=C.take (min n len*z)) (vs:=aD.take (min n len*z)) (k:=q) j O F
      (by rw[cI,cI,ai.1]) (by rw[ag];omega) (fun al c J=>by
       have ae:al<min n len*z:=by have:=(aH.1 J).1;rwa [ak] at this
       rw[dG ae] at J ⊢;exact ai.2 al c J)
     rw[ag] at W X;have av:=I (min n len) F w (fun _=>rfl);refine⟨goInt (min n len:Nat),w',?_,W,X,.int _ _⟩;have ay:Nat.min n len=min n len:=rfl;simp[Builtin.copy_,b5 Q,K,ew p,ay,av,h1]
   ·cases g
  | _=>rw[j] at g;cases g
 ·cases g
theorem A2:∀ (cs:ag) (vs:List aB) (bs:List UInt8),jv cs=some bs->vs.length=cs.length->
  (∀ (j:Nat) (c:U),cs[j]?=some c->∃ v:aB,vs[j]?=some v/\v.oneCell'=true/\az w R h muZ c v)->
  ∃ ns:List Int,vs=ns.map (Value.int .u8)/\bs=ns.map fun n=>UInt8.ofNat n.toNat
 | [],[],bs,g,_,_=>by
  simp only[jv,bc] at g;subst g;exact⟨[],rfl,rfl⟩
 | [],_::_,_,_,m,_=>by simp at m
 | _::_,[],_,_,m,_=>by simp at m
 | c::cs,v::vs,bs,g,m,p=>by
  obtain⟨C,q,_,B⟩:=p 0 c rfl;simp only[g8,bc] at q;subst q;cases B with
  | int k n=>
   cases k<;>simp only[jv] at g<;>try (cases g;done)
   cases o:jv cs with
   | none=>rw[o] at g;cases g
   | some t=>
    rw[o] at g;simp only[cu,bc] at g;subst g;obtain⟨ns,h1,u⟩:=A2 cs vs t o (by simpa using m) (fun j c z=>p (j+1) c (by simpa using z));exact⟨n::ns,by rw[h1];rfl,by rw[u];rfl⟩
  | _=>simp[jv] at g
theorem Hc:∀ (ns:List Int) (s:ByteArray),(ns.foldl (fun r n=>r.push (UInt8.ofNat n.toNat)) s).data.toList=s.data.toList++ns.map fun n=>UInt8.ofNat n.toNat
 | [],s=>V
 | n::ns,s=>by
  rw[xn,Hc ns];simp[ByteArray.push]
theorem O5 (rel:bu R B w h muZ) {s d:aC} {x c:U} {D:aB} (g:rA P h s d x=some c) (q:az w R h muZ x D) :
  ∃ v,(convert s d D).run P w=.ok v w/\az w R h muZ c v:=by
 unfold rA at g;split at g
 ·rename_i W k Z n o m;cases g;cases q;exact⟨.int k (k.wrap n),by simp[convert,b5 o,b5 m,Conv.intToInt],.int _ _⟩
 ·rename_i ae o m;cases g;cases q with
  | str u=>exact⟨.string u,by simp[convert,b5 o,b5 m],.str _⟩
 ·rename_i e o m X;cases t:P.underlying e with
  | none=>rw[t] at g;cases g
  | some V=>
   rw[t] at g;split at g
   ·rename_i heq;simp only[bc] at heq g;subst heq g;cases q;refine⟨.string ByteArray.empty,by simp[convert,b5 o,b5 m,b5 t,Conv.bytesToString],?_⟩;exact .str ByteArray.empty
   ·rename_i heq Y;cases heq;split at g
    ·cases g
    ·rename_i cs n K F;cases z:jv cs with
     | none=>rw[z] at g;cases g
     | some u=>
      rw[z] at g;simp only[cu,bc] at g;subst g;obtain⟨S,G,T,C,I⟩:=qk (P:=P) rel F q;have p:=I n (aF _) w (fun _=>rfl);obtain⟨j,rfl,rfl⟩:=A2 cs T u z C.1 C.2;have O:(j.map (Value.int .u8)).take (n*1)=j.map (Value.int .u8):=aI (by rw[C.1,S];exact aF _);rw[O] at p;have J:∃ a len cap,D=.slice a len cap:=by
       cases q<;>first | exact⟨_,_,_,rfl⟩ | (simp[contents] at F;done) | (exact bK rfl (K _))
      obtain⟨a,len,cap,rfl⟩:=J;simp only[Builtin.lenOf,Sem.run_pure,Result.ok.injEq] at G;obtain⟨rfl,_⟩:=G;have H:=Hc j ByteArray.empty;refine⟨.string (j.foldl (fun r n=>r.push (UInt8.ofNat n.toNat)) ByteArray.empty),?_,?_⟩
      ·rw[run_convert_bytes_string w s d e a len cap o t m];cases a with
       | none=>
        simp only[Builtin.firstCells,Sem.run_pure,Result.ok.injEq] at p;have Q:j=[]:=by
         have:=cm Array.toList p.1;simpa using this.symm
        subst Q;simp[Conv.bytesToString]
       | some a=>
        simp only[Builtin.firstCells,nH] at p;exact run_bytesToString w a len cap j p
      ·have:(j.foldl (fun r n=>r.push (UInt8.ofNat n.toNat)) ByteArray.empty).data.toList=j.map fun n=>UInt8.ofNat n.toNat:=by rw[H];rfl
       rw[<-this];exact .str _
    ·cases g
   ·cases g
 ·cases g
theorem Di (rel:bu R B w h muZ) {w' : aO} (g:RowKit.Below w.heap.size w w') (t:w.drawn<=w'.drawn:=by first | exact aF _ | exact rf _) :cN w h muZ w' h muZ/\bu R B w' h muZ:=by
 have e:cN w h muZ w' h muZ:=⟨⟨g.os,g.tape,g.output,g.size,fun k hk _=>g.block k hk,fun _ v=>.inl v,fun b z cs p h1 m=>.inl ⟨cs,h1,m⟩,fun _ _ u=>u,fun _ _ _ h1 m=>⟨h1,m⟩,aF _,t⟩,fun _ _ j=>j⟩
 refine⟨e,fun b p j=>?_,rel.inj,rel.base,rel.fresh,rel.up,dC rel.size g.size,rel.iA⟩;cases o:live (h.f b) with
 | false=>cases q:h.f b<;>first | trivial | (rw[q] at o;cases o)
 | true=>exact (rel.blk b p j).ext e.toExt0 (g.block _ (rel.lt o j))
theorem Of (rel:bu R B w h muZ) {s d:aC} {x c:U} {t:aB} (m:tj P s d x=some c) (T:az w R h muZ x t) :
  ∃ v w',(convert s d t).run P w=.ok v w'/\cN w h muZ w' h muZ/\bu R B w' h muZ/\az w' R h muZ c v:=by
 unfold tj at m;split at m
 ·rename_i W e Y O D;split at m
  ·rename_i S;cases m;cases T with
   | str g=>
    have z:RowKit.Below w.heap.size w (Lib.bytesWorld w e g):=⟨rfl,rfl,rfl,by rw[Lib.bytesWorld_size];omega,fun k hk=>Lib.bytesWorld_at_old w e g k hk⟩
    obtain⟨h1,u⟩:=Di rel z;refine⟨_,_,Lib.run_convert_string_bytes w s d e g O D S,h1,u,?_⟩;have Q:g.data.toList.length=g.size:=V;have K:¬ Own h muZ w.heap.size:=by
     rintro⟨b,X,I,J,j⟩;have:=rel.lt I J;omega
    have C:g.size<=grownCap w g.size 0 e:=grownCap_ge w g.size 0 e;have:=az.bj (w:=Lib.bytesWorld w e g) (R:=R) (h:=h) (muZ:=muZ) 1 (g.data.toList.map fun b=>[hb b]) w.heap.size 0 (grownCap w g.size 0 e) (fun i _=>.int .u8 (g.data.toList.getD i 0).toNat)
     (by simpa using C) (fun e j=>by obtain⟨b,_,rfl⟩:=cF.1 j;rfl)
     (fun i p G o=>by
      have H:i<g.size:=by simpa using G
      have:p=0:=F;subst this;exact⟨by simpa using Lib.bytesWorld_cell w e g i H,rfl,rel.up _ rel.size,K⟩)
     (fun i e j p c o=>by
      rw[bX] at j;cases q:g.data.toList[i]? with
      | none=>rw[q] at j;cases j
      | some b=>
       rw[q] at j;simp only[cu,bc] at j;subst j;cases p with
       | zero=>
        simp only[g8,bc] at o;subst o;have:g.data.toList.getD i 0=b:=by simp[List.getD,q]
        rw[this];exact .int _ _
       | succ p=>simp at o)
    rw[cC,Q] at this;exact this
  ·cases m
 ·cases m
theorem Ou {t ty:aC} {x c:U} {m:aB} (g:tk P t x=some c) (o:az w R h muZ x m) :∃ v,(Builtin.cap_ #[t] ty #[m]).run P w=.ok v w/\az w R h muZ c v:=by
 unfold tk at g;split at g<;>(try (simp only[bc] at g;subst g))
 ·rename_i n e j;exact⟨goInt n,by simp[Builtin.cap_,b5 j],.int _ _⟩
 ·rename_i e j;cases o;exact⟨goInt (0:Nat),by simp[Builtin.cap_,b5 j],.int _ _⟩
 ·cases g
theorem OK (rel:bu R B w h muZ) {t ty:aC} {x:U} {V:aB} {h' : aE} (g:tn P h t x=some h') (z:az w R h muZ x V) :
  ∃ w',(Builtin.clear_ #[t] ty #[V]).run P w=.ok (.tuple #[]) w'/\cN w h muZ w' h' muZ/\bu R B w' h' muZ:=by
 unfold tn at g;split at g
 ·rename_i e o;cases g;cases z;exact⟨w,by simp[Builtin.clear_,b5 o],.refl _ _ _,rel⟩
 ·rename_i e ar o;cases g;cases z<;>exact⟨w,by simp[Builtin.clear_,b5 o],.refl _ _ _,rel⟩
 ·rename_i e ar b T len cap aH o;split at g
  ·rename_i v;cases g;subst v;cases z<;>exact⟨w,by simp[Builtin.clear_,b5 o],.refl _ _ _,rel⟩
  ·rename_i v;split at g
   ·rename_i zero m cs am j;split at g
    ·rename_i ai;obtain⟨rfl,rfl⟩:=ai;cases g;cases z with
     | gh=>exact bK rfl v
     | e9 _ _ _ _ _ _ Z a H ag p=>
      exfalso;rcases p with p | ⟨aG,ae,p,ax⟩
      ·rw[p] at j;cases j
      ·rw[p] at j;cases j;omega
     | ad _ _ _ _ _ _ Z ae aq av J H aA ag=>
      have G:=rel.blk b aq J;rw[j] at G;obtain⟨aw,au,_⟩:=G;obtain⟨q,al,O⟩:=q4 (P:=P) (w:=w) (R:=R) (h:=h) (muZ:=muZ) am;have ak:=zl O len;have ay:len*zero.length<=cap*zero.length:=cj _ H;have Q:(cy zero len).length=len*zero.length:=sd len;have K:max m (T+(cy zero len).length)=m:=by rw[Q];omega
      have ao:q.cells.size=zero.length:=O.1;have S:(Builtin.zeroCells q.cells len)=(Array.range (len*zero.length)).map (q.cells[· % q.cells.size]!):=by
       unfold Builtin.zeroCells;rw[ao]
      obtain⟨w',h1,C,D⟩:=sD (P:=P) rel (cvs:=cy zero len) (vs:=(Builtin.zeroCells q.cells len).toList) (k:=T) j J F
       (by rw[S,Q];simp) (by rw[K];omega) (fun ap c aj=>by
        rw[S];obtain⟨u,W,X,Y⟩:=ak.2 ap c aj;exact⟨u,by rw[pP];exact W,X,Y⟩)
      rw[K] at C D;refine⟨w',?_,C,D⟩;cases I:len with
      | zero=>exact bK I v
      | succ aD=>
       rw[I] at h1;simp[Builtin.clear_,b5 o,al,h1]
    ·cases g
   ·cases g
 ·cases g
theorem NI (rel:bu R B w h muZ) {t u ty:aC} {k:cQ} {s x c:U} {jN ar:aB} {h' : aE} (J:P.underlying u=some (.int k)) (m:vh P h t s x=some (c,h')) (aN:az w R h muZ s jN) (aS:az w R h muZ x ar) :
  ∃ v w' muZ',(Builtin.append_ #[t,u] ty #[jN,ar]).run P w=.ok v w'/\cN w h muZ w' h' muZ'/\bu R B w' h' muZ'/\az w' R h' muZ' c v:=by
 unfold vh at m;split at m
 ·rename_i e n aD aH;have I:=vF aD;obtain⟨aW,rfl⟩:=nR aH aS;split at m
  ·rename_i z by_ zero o ag ao;split at m
   ·rename_i aA;obtain⟨ap,a0,a1,aL⟩:=aA;obtain⟨i,zv,g,ae,aU,_⟩:=Mc (P:=P) (w:=w) (R:=R) (h:=h) (muZ:=muZ) ao;have aP:i.size=z:=by simpa [b3,g] using o
    have q:i.bytes=by_:=by simpa [gG,g] using ag
    have K:IntKind.i64.wrap n=n:=by
     simp[IntKind.wrap,IntKind.bits,IntKind.signed];omega
    have aJ:(n.toNat:Int)=n:=F;have H:¬ (n<0):=F;have aX:¬ (2 ^ 48<n*(by_:Int)):=by
     have h1:((n.toNat*by_:Nat) :Int)=n*by_:=by rw[Int.natCast_mul,aJ]
     have ax:((n.toNat*by_:Nat) :Int)<=((140737488355328:Nat) :Int):=Int.ofNat_le.2 aL;rw[h1] at ax;omega
    have al:iI w R h muZ (cy zero n.toNat) (Builtin.zeroCells zv.cells n.toNat):=by
     obtain⟨v,aQ,O⟩:=q4 (P:=P) (w:=w) (R:=R) (h:=h) (muZ:=muZ) ao;have aR:v=zv:=by
      have:=aQ w;simp[zeroValue,typeInfo,g,ae] at this;exact this.symm
     subst aR;have aM:=zl O n.toNat
     have aT:(Builtin.zeroCells v.cells n.toNat)=(Array.range (n.toNat*zero.length)).map (v.cells[· % v.cells.size]!):=by
      unfold Builtin.zeroCells;rw[O.1]
     rw[aT];exact aM
    have aK:(cy zero n.toNat).length=n.toNat*z:=by rw[sd,ap]
    have G:∀ w2:aO,(Go.asInt (.int aW n)).run P w2=.ok n w2:=fun w2=>rfl
    have D:¬ (281474976710656<n*(by_:Int)):=F;have S:∀ w2:aO,(zeroValue e).run P w2=.ok zv w2:=fun w2=>by simp[zeroValue,typeInfo,g,ae]
    have am:n.toNat*z=0->Builtin.zeroCells zv.cells n.toNat=#[]:=fun j=>by
     apply z2;unfold Builtin.zeroCells;simp[aU,ap,j]
    refine Fq rel o ag m aN aK (vs:=(Builtin.zeroCells zv.cells n.toNat).toList) ⟨by simpa using al.1,fun aV c aI=>by
     obtain⟨v,au,av,aw⟩:=al.2 aV c aI;exact⟨v,by rw[pP];exact au,av,aw⟩⟩ (fun base p W w' Q C=>?_) (fun a2 a3 ai aq base p W T Z aG O ay=>?_)
    ·by_cases j:n.toNat*z=0
     ·rw[am j] at C;cases base with
      | none=>
       subst C;simp[Builtin.append_,G,b5 I,b5 J,ew o,K,H,typeInfo,g,q,Q,D,j]
      | some a=>
       simp only at C;simp[Builtin.append_,G,b5 I,b5 J,ew o,K,H,typeInfo,g,q,Q,D,j,C]
     ·cases base with
      | none=>
       subst C;simp[Builtin.append_,G,b5 I,b5 J,ew o,K,H,typeInfo,g,q,Q,D,S]
      | some a=>
       simp only at C;simp[Builtin.append_,G,b5 I,b5 J,ew o,K,H,typeInfo,g,q,Q,D,j,S,C]
    ·rw[g] at ai;cases ai;rw[ae] at aq;cases aq;have X:¬ (281474976710656<Builtin.nextslicecap (p+n.toNat) W*i.bytes):=by
      have:=growslice_fits (need:=p+n.toNat) (old:=W) (bytes:=i.bytes) aG O;omega
     have ak:¬ (p+n.toNat<=W):=F;have aY:¬ ((9223372036854775807:Int)<((p+n.toNat:Nat) :Int)):=by
      have h1:(p+n.toNat)*1<=(p+n.toNat)*i.bytes:=Nat.mul_le_mul_left _ ay;unfold db at O;omega
     have aj:¬ ((9223372036854775807:Int)<(p:Int)+max n 0):=F;rw[aP] at Z;rw[q] at X;by_cases j:n.toNat*z=0
     ·have Y:(T++(Builtin.zeroCells zv.cells n.toNat).toList).toArray=T.toArray:=by rw[am j];simp
      rw[Y];simp[Builtin.append_,G,b5 I,b5 J,ew o,K,H,typeInfo,g,q,ak,D,aj,X,j,S,Z,Question.forced,newRow,grownCap]
     ·have Y:(T++(Builtin.zeroCells zv.cells n.toNat).toList).toArray=T.toArray++Builtin.zeroCells zv.cells n.toNat:=V;rw[Y];simp[Builtin.append_,G,b5 I,b5 J,ew o,K,H,typeInfo,g,q,ak,D,aj,X,j,S,Z,Question.forced,newRow,grownCap]
   ·cases m
  ·cases m
 ·cases m
end
section
variable {P:bg} {w:aO} {R:Nat->Prop} {B:Nat} {h:aE} {muZ:bU}
theorem NU {op:BinOp} {t:aC} {k k' : cQ} {a b:Int} {c:U} (g:cn op k a k' b=some c) :
  ∃ v,(binOp op t (.int k a) (.int k' b)).run P w=.ok v w/\az w R h muZ c v:=by
 cases op
 case shl=>
  simp only[cn] at g;split at g
  ·cases g
  ·rename_i j;cases g;exact⟨_,by simp[binOp,Op.shift,j],.int _ _⟩
 case shr=>
  simp only[cn] at g;split at g
  ·cases g
  ·rename_i j;cases g;exact⟨_,by simp[binOp,Op.shift,j],.int _ _⟩
 case quo=>
  simp only[cn] at g;split at g
  ·rename_i j;obtain⟨rfl,j⟩:=j;cases g;exact⟨_,by simp[binOp,Op.intDiv,j],.int _ _⟩
  ·cases g
 case rem=>
  simp only[cn] at g;split at g
  ·rename_i j;obtain⟨rfl,j⟩:=j;cases g;exact⟨_,by simp[binOp,Op.intDiv,j],.int _ _⟩
  ·cases g
 all_goals
  simp only[cn] at g;split at g
  ·rename_i hk;subst hk;cases g
   first
    | (refine⟨_,?_,.int _ _⟩;unfold binOp;simp only[ne_eq,not_true_eq_false,if_false];rfl)
    | (refine⟨_,?_,.bool _⟩;unfold binOp;simp only[ne_eq,not_true_eq_false,if_false];rfl)
  ·cases g
theorem toList_eq (s:ByteArray) :s.toList=s.data.toList:=by rw[ByteArray.toList_eq]
theorem NV {op:BinOp} {t:aC} {a b:ByteArray} {c:U} (g:td op a.data.toList b.data.toList=some c) :
  ∃ v,(binOp op t (.string a) (.string b)).run P w=.ok v w/\az w R h muZ c v:=by
 cases op<;>simp only[td] at g<;>try (cases g;done)
 case add=>
  split at g
  ·rename_i o;cases g;have h1:a.data.toList.length=a.size:=V;have j:b.data.toList.length=b.size:=V;rw[h1,j] at o;have p:¬ ((9223372036854775807:Int)<(a.size:Int)+(b.size:Int)):=F;have m:(a++b).data.toList=a.data.toList++b.data.toList:=V;refine⟨.string (a++b),by simp[binOp,Op.stringOp,p],?_⟩;rw[<-m];exact .str _
  ·cases g
 all_goals
  cases g;exact⟨_,by simp[binOp,Op.stringOp,toList_eq],.bool _⟩
theorem PR {d:Nat} {t:aC} {a b:Bool} (g:P.underlying t=some .bool) :(Op.equalIn (d+1) t (.bool a) (.bool b)).run P w=.ok (a == b) w:=by simp[Op.equalIn,b5 g]
theorem PS {d:Nat} {t:aC} {h k:cQ} {a b:Int} (g:P.underlying t=some (.int h)) :(Op.equalIn (d+1) t (.int k a) (.int k b)).run P w=.ok (a == b) w:=by simp[Op.equalIn,b5 g]
theorem PT {d:Nat} {t:aC} {a b:ByteArray} (g:P.underlying t=some .string) :(Op.equalIn (d+1) t (.string a) (.string b)).run P w=.ok (a.data.toList == b.data.toList) w:=by simp[Op.equalIn,b5 g,toList_eq,beq_toListBytes]
theorem Bw {d:Nat} {t e:aC} {x y l c:Nat} {b:Option Addr} (g:P.underlying t=some (.slice e)) :(Op.equalIn (d+1) t (.slice none x y) (.slice b l c)).run P w=.ok b.isNone w:=by simp[Op.equalIn,b5 g]
theorem GL {d:Nat} {t e:aC} {x y l c:Nat} {a:Addr} (g:P.underlying t=some (.slice e)) :(Op.equalIn (d+1) t (.slice (some a) l c) (.slice none x y)).run P w=.ok false w:=by simp[Op.equalIn,b5 g]
theorem Bt {d:Nat} {xs G:ag} {C F:Array aB}
  (m:∀ (t:aC) (x y:U) (b:Bool) (D H:aB),dA P d t x y=some b->az w R h muZ x D->az w R h muZ y H->(Op.equalIn d t D H).run P w=.ok b w)
  (o:iI w R h muZ xs C) (p:iI w R h muZ G F) :∀ (l:List Field) (b:Bool),dA.eqFields P (dA P d) xs G l=some b->(Op.eqFields d C F l).run P w=.ok b w
 | [],b,g=>by simp only[dA.eqFields,bc] at g;subst g;simp[Op.eqFields]
 | f::l,b,g=>by
  unfold dA.eqFields at g;unfold Op.eqFields;by_cases j:f.name= "_"
  ·rw[aj j] at g;simp[j,Bt m o p l b g]
  ·rw[ak j] at g;split at g
   ·rename_i a c I J;obtain⟨z,h1,q⟩:=qH (P:=P) I o;obtain⟨B,u,v⟩:=qH (P:=P) J p;split at g
    ·rename_i heq;have:=m f.type a c true z B heq q v;simp[j,h1,u,this,Bt m o p l b g]
    ·rename_i heq;have:=m f.type a c false z B heq q v;cases g;simp[j,h1,u,this]
    ·cases g
   ·cases g
theorem GH {d z:Nat} {e:aC} {xs J:ag} {G I:Array aB}
  (u:∀ (t:aC) (x y:U) (b:Bool) (H K:aB),dA P d t x y=some b->az w R h muZ x H->az w R h muZ y K->(Op.equalIn d t H K).run P w=.ok b w)
  (D:iI w R h muZ xs G) (F:iI w R h muZ J I) (f:Nat->Option Bool × Unit->Sem (ForInStep (Option Bool × Unit)))
  (o:∀ (i:Nat) (j m:aB) (b:Bool) (r:Option Bool × Unit),(part e G (i*z)).run P w=.ok j w->(part e I (i*z)).run P w=.ok m w->(Op.equalIn d e j m).run P w=.ok b w->
   (f i r).run P w=.ok (if b then .yield (none,()) else .done (some false,())) w) :
  ∀ (n i:Nat) (b:Bool),dA.n0 P (dA P d) e z xs J n i=some b->(forIn (List.range' i n) (none,()) f).run P w=.ok (if b then (none,()) else (some false,())) w
 | 0,i,b,g=>by
  simp only[dA.n0,bc] at g;subst g;simp
 | n+1,i,b,g=>by
  unfold dA.n0 at g;split at g
  ·rename_i a c O Q;obtain⟨j,h1,v⟩:=qH (P:=P) O D;obtain⟨m,B,C⟩:=qH (P:=P) Q F;rw[List.range'_succ,List.forIn_cons];split at g
   ·rename_i heq;have q:=u e a c true j m heq v C;have p:=o i j m true (none,()) (h1 w) (B w) q;simp only[Sem.run_bind,p,if_true,Result.andThen_ok];exact GH u D F f o n (i+1) b g
   ·rename_i heq;have q:=u e a c false j m heq v C;have p:=o i j m false (none,()) (h1 w) (B w) q;cases g;simp[p]
   ·cases g
  ·cases g
theorem run_equalIn_array {d n z:Nat} {t e:aC} {j m:Array aB} (u:P.underlying t=some (.array n e)) (v:b3 P e=some z) {b:Bool}
  (hk:∀ f:Nat->Option Bool × Unit->Sem (ForInStep (Option Bool × Unit)),
   (∀ (i:Nat) (g h:aB) (b:Bool) (r:Option Bool × Unit),(part e j (i*z)).run P w=.ok g w->(part e m (i*z)).run P w=.ok h w->(Op.equalIn d e g h).run P w=.ok b w->(f i r).run P w=.ok (if b then .yield (none,()) else .done (some false,())) w)->
   (forIn (List.range' 0 n) (none,()) f).run P w=.ok (if b then (none,()) else (some false,())) w) :
  (Op.equalIn (d+1) t (.agg j) (.agg m)).run P w=.ok b w:=by
 simp only[Op.equalIn,Sem.run_bind,b5 u,Result.andThen_ok,ew v];rw[Std.Legacy.Range.forIn_eq_forIn_range'];have q:List.range' ([:n] :Std.Legacy.Range).start ([:n] :Std.Legacy.Range).size ([:n] :Std.Legacy.Range).step=List.range' 0 n:=by simp[Std.Legacy.Range.size]
 rw[q,hk]
 ·cases b<;>simp
 ·intro i g h b r h1 o p;cases b<;>simp[h1,o,p]
theorem Bu:∀ (d:Nat) (t:aC) (x y:U) (b:Bool) (q u:aB),dA P d t x y=some b->az w R h muZ x q->az w R h muZ y u->
  (Op.equalIn d t q u).run P w=.ok b w:=by
 intro d
 induction d with
 | zero=>intro t x y b q u g;simp[dA] at g
 | succ d F=>
  intro t x y b q u g m o;unfold dA at g;split at g
  ·rename_i a p j;cases g;cases m;cases o;exact PR j
  ·rename_i X k a W p j;split at g
   ·rename_i hk;subst hk;cases g;cases m;cases o;exact PS j
   ·cases g
  ·rename_i a p j;cases g;cases m;cases o;exact PT j
  ·rename_i fs T V j;split at g
   ·cases g
   ·rename_i K;obtain⟨G,rfl,z⟩:=p7 m;obtain⟨H,rfl,B⟩:=p7 o;have O:P.stoodInHeld t=false:=by simpa using K
    have D:P.fieldsOf t=fs:=by simp[Program.fieldsOf,j]
    rw[run_equalIn_struct w d t G H (by rw[D];exact j) O,D];exact Bt F z B _ _ g
  ·rename_i n e T V j;cases C:b3 P e with
   | none=>rw[C] at g;cases g
   | some v=>
    rw[C] at g;simp only at g;obtain⟨G,rfl,z⟩:=p7 m;obtain⟨H,rfl,B⟩:=p7 o;exact run_equalIn_array j C (fun f J=>GH F z B f J n 0 b g)
  ·rename_i e j;cases g;cases m;cases o;exact Bw j
  ·rename_i e v p Q len cap S j;cases g;cases m;cases o<;>exact Bw j
  ·rename_i e v I j;cases g;cases m;cases o<;>exact Bw j
  ·rename_i e v p Q len cap S j;cases g;cases o;cases m<;>exact GL j
  ·rename_i e v I j;cases g;cases o;cases m<;>exact GL j
  ·cases g
end
section
variable {P:bg} {w:aO} {R:Nat->Prop} {B:Nat} {h:aE} {muZ:bU}
def pH:U->aB
 | .bool b=>.bool b
 | .int k n=>.int k n
 | .str s=>.string ⟨s.toArray⟩
 | _=>.tuple #[]
def ss:U->aB
 | .ah cs=>.agg (cs.map pH).toArray
 | c=>pH c
theorem T2 {c:U} {v:aB} (m:qI c=true) (g:az w R h muZ c v) :v=pH c:=by
 cases c<;>simp[qI] at m
 ·cases g;rfl
 ·cases g;rfl
 ·cases g;rename_i j;show Value.string j=.string ⟨j.data.toList.toArray⟩;congr 1
theorem yB {t:aC} {c:U} (g:kh P t c=true) :∃ cs m,c=.ah cs/\pf P 8 t=true/\ds P t=some true/\b3 P t=some m/\cs.length=m/\∀ x∈cs,qI x=true:=by
 unfold kh at g;split at g
 ·rename_i cs;simp only[bN] at g;obtain⟨⟨h1,h⟩,j⟩:=g;split at h
  ·rename_i m o p;exact⟨cs,m,rfl,h1,o,p,l7 h,fun x q=>fW.1 j x q⟩
  ·cases h
 ·cases g
theorem B9 {t:aC} {c:U} {v:aB} (p:kh P t c=true) (m:az w R h muZ c v) :v=ss c:=by
 obtain⟨cs,C,rfl,_,_,_,_,hint⟩:=yB p;cases m with
 | ah _ o q h1 m=>
  show Value.agg o=.agg (cs.map pH).toArray;congr 1;apply Array.ext_getElem?;intro g;have z:(cs.map pH).toArray[g]?=(cs[g]?).map pH:=V;rw[z];cases j:cs[g]? with
  | none=>simp only[Option.map_none];rw[pO];rw[q];exact Ex.1 j
  | some c=>
   have B:=(aH.1 j).1;have u:=m g c o[g] j (q5 F);rw[q5 F];simp only[cu,bc];exact T2 (hint c (cz j)) u
theorem Og (a:ByteArray) :(a == a)=true:=by show (a.data == a.data)=true;exact beq_self_eq_true _
theorem VO {c:U} (n:Nat) (g:qI c=true) :Instr.sameBits n (pH c) (pH c)=true:=by
 cases c<;>simp[qI] at g<;>unfold pH Instr.sameBits
 ·simp
 ·simp
 ·exact Og _
theorem VN {t:aC} {c:U} (n:Nat) (o:kh P t c=true) :Instr.sameBits (n+1) (ss c) (ss c)=true:=by obtain⟨cs,q,rfl,_,_,_,_,hint⟩:=yB o;unfold ss Instr.sameBits;simp only[beq_self_eq_true,nA,fW];rintro⟨x,y⟩ j;rw[cc] at j;obtain⟨p,h⟩:=j;rw[sR] at h;obtain⟨h1,g⟩:=h;rw[h1] at g;cases g;simp only[bX,ES] at h1;obtain⟨c,m,rfl⟩:=h1;exact VO n (hint c (cz m))
theorem VH {t:aC} {c:U} (g:kh P t c=true) :(Instr.keyThatStays (ss c) (ss c)).run P w=.ok (ss c) w:=by unfold Instr.keyThatStays;rw[aj (VN 9999 g)];simp
theorem BC {alZ:Type} {f:alZ->PUnit->Sem (ForInStep PUnit)}:∀ (l:List alZ),(∀ x∈l,(f x ⟨⟩).run P w=.ok (.yield ⟨⟩) w)->(forIn l ⟨⟩ f).run P w=.ok ⟨⟩ w
 | [],_=>V
 | x::l,g=>by
  rw[List.forIn_cons];simp only[Sem.run_bind,g x V,Result.andThen_ok];exact BC l (fun y h=>g y (by simp[h]))
theorem Dt (em:Bool) :∀ (d n:Nat) (t:aC) (c:U) (v:aB),d<=n->pf P d t=true->az w R h muZ c v->(ds P t=some true->∃ cs m,c=.ah cs/\b3 P t=some m/\cs.length=m)->
  (Instr.checkKey em n t v).run P w=.ok () w
 | 0,_,_,_,_,_,hk,_,_=>by simp[pf] at hk
 | d+1,0,_,_,_,al,_,_,_=>F
 | d+1,n+1,t,c,v,al,hk,X,T=>by
  unfold pf at hk;split at hk
  ·rename_i j;cases v<;>simp[Instr.checkKey,b5 j]
  ·rename_i j;cases v<;>simp[Instr.checkKey,b5 j]
  ·rename_i j;cases v<;>simp[Instr.checkKey,b5 j]
  ·rename_i len e m j O;have G:ds P t=some true:=by unfold ds;rw[j];rfl
   obtain⟨cs,o,rfl,q,ai⟩:=T G;rw[O] at q;cases q;simp only[bN] at hk;obtain⟨K,g⟩:=hk;split at g
   ·rename_i z a B H;simp only[bN] at g;have ak:=xw g.1;have am:=xw g.2;obtain⟨ao,rfl,S⟩:=p7 X;unfold Instr.checkKey;simp only[Sem.run_bind,b5 j,Result.andThen_ok];rw[Std.Legacy.Range.forIn_eq_forIn_range'];rw[BC]
    ·simp
    intro i Z;have ae:i<len:=by simp[Std.Legacy.Range.size] at Z;omega
    have ag:i*z+z<=cs.length:=by
     have:i*z+z<=len*z:=by rw[<-ec];exact cj _ ae
     omega
    have Q:∃ c,gg P e cs (i*z)=some c/\(ds P e=some true->∃ p o,c=.ah p/\b3 P e=some o/\p.length=o):=by
     unfold gg;rw[H,B];cases a with
     | true=>exact⟨_,by simp only;rw[aj ag],fun _=>⟨_,z,rfl,rfl,by simp;omega⟩⟩
     | false=>exact⟨cs[i*z]'F,by simp only;exact bC F,fun h=>by cases h⟩
    obtain⟨c,I,J⟩:=Q;obtain⟨u,C,D⟩:=qH (P:=P) I S;simp only[Sem.run_bind,ew B,Result.andThen_ok,C w];rw[Dt em d n e c u F K D J];simp
   ·cases g
  ·rename_i ap m j O;have G:ds P t=some true:=by unfold ds;rw[j];rfl
   obtain⟨cs,o,rfl,q,ai⟩:=T G;rw[O] at q;cases q;obtain⟨ao,rfl,S⟩:=p7 X;unfold Instr.checkKey;simp only[Sem.run_bind,b5 j,Result.andThen_ok];rw[<-Array.forIn_toList,BC]
   ·simp
   intro f Y;have V:=fW.1 hk f Y;simp only[bN] at V;obtain⟨K,g⟩:=V;split at g
   ·rename_i z a B H;simp only[bN] at g;have ak:=xw g.1;have am:=xw g.2;have Q:∃ c,gg P f.type cs f.offset=some c/\(ds P f.type=some true->∃ p o,c=.ah p/\b3 P f.type=some o/\p.length=o):=by
     unfold gg;rw[H,B];cases a with
     | true=>exact⟨_,by simp only;rw[aj F],fun _=>⟨_,z,rfl,rfl,by simp;omega⟩⟩
     | false=>exact⟨cs[f.offset]'F,by simp only;exact bC F,fun h=>by cases h⟩
    obtain⟨c,I,J⟩:=Q;obtain⟨u,C,D⟩:=qH (P:=P) I S;have:=Dt em d n f.type c u F K D J;by_cases W:f.name= "_"
    ·simp[W]
    ·simp[W,C w,this]
   ·cases g
  ·cases hk
theorem Kn {t:aC} {c:U} {v:aB} (em:Bool) (m:kh P t c=true) (o:az w R h muZ c v) :(Instr.checkKey em 10000 t v).run P w=.ok () w:=by obtain⟨cs,p,rfl,h1,q,g,j,_⟩:=yB m;exact Dt em 8 10000 t _ v F h1 o (fun _=>⟨cs,p,rfl,g,j⟩)
def oJ (w:aO) (R:Nat->Prop) (h:aE) (muZ:bU) (es:List (U × U × Nat)) (g:List kE) :Prop:=
 g.length=es.length/\∀ (j:Nat) (k m:U) (b:Nat),es[j]?=some (k,m,b)->∃ x:kE,g[j]?=some x/\az w R h muZ k x.key/\az w R h muZ m x.val/\x.born=b
def EV (w:aO) (R:Nat->Prop) (h:aE) (muZ:bU) (k:U) (m:List kE) (i:Nat) :Option (Nat × U)->Option (Nat × aB)->Prop
 | none,r=>r=none
 | some (g,o),r=>∃ j,r=some (g,j)/\az w R h muZ o j/\i<=g/\∃ x,m[g - i]?=some x/\x.val=j/\az w R h muZ k x.key
theorem PJ {es:List (U × U × Nat)} {e:U × U × Nat} {x:kE} {vH:List kE} (g:oJ w R h muZ (e::es) (x::vH)) :oJ w R h muZ es vH:=
 ⟨by have:=g.1;simp at this;exact this,fun m k o b j=>g.2 (m+1) k o b (by simpa using j)⟩
theorem PI {es:List (U × U × Nat)} {k v:U} {b:Nat} {x:kE} {g:List kE} (m:oJ w R h muZ ((k,v,b) ::es) (x::g)) :az w R h muZ k x.key/\az w R h muZ v x.val/\x.born=b:=by obtain⟨y,h1,j⟩:=m.2 0 k v b rfl;simp at h1;subst h1;exact j
theorem GZ {o:aC} {k:U} {p:aB} (hk:az w R h muZ k p) :∀ (es:List (U × U × Nat)) (j:List kE) (i:Nat) (r:Option (Nat × U)),oJ w R h muZ es j->jA P o k es i=some r->
  ∃ q,(Instr.findAsking o p j i).run P w=.ok q w/\EV w R h muZ k j i r q
 | [],j,i,r,m,g=>by
  have:j=[]:=il.1 m.1;subst this;simp only[jA,bc] at g;subst g;exact⟨none,by simp[Instr.findAsking],rfl⟩
 | (u,O,b) ::es,[],i,r,m,g=>by have:=m.1;simp at this
 | (u,O,b) ::es,x::j,i,r,m,g=>by
  obtain⟨h1,D,S⟩:=PI m;simp only[jA] at g;split at g
  ·cases g
  rename_i W;split at g
  ·rename_i heq;split at g
   ·rename_i K;cases g;have t:=Bu (P:=P) 10000 o k u true p x.key heq hk h1;refine⟨some (i,x.val),?_,x.val,rfl,D,aF _,x,V,rfl,?_⟩
    ·simp only[Instr.findAsking,Op.equal,Op.maxDepth,Sem.run_bind];rw[t];simp
    ·rw[U.beq_eq K];exact h1
   ·cases g
  ·rename_i heq;have t:=Bu (P:=P) 10000 o k u false p x.key heq hk h1;obtain⟨q,G,v⟩:=GZ hk es j (i+1) r (PJ m) g;refine⟨q,?_,?_⟩
   ·simp only[Instr.findAsking,Op.equal,Op.maxDepth,Sem.run_bind];rw[t];simpa using G
   ·cases r with
    | none=>exact v
    | some z=>
     obtain⟨Q,H,I,T,y,J,B,C⟩:=v;exact⟨Q,H,I,F,y,by rw[show z.1 - i=(z.1 - (i+1))+1 by omega];simpa using J,B,C⟩
  ·cases g
theorem Kp {m:aC} {k:U} {p:aB} (hk:az w R h muZ k p) (t:kh P m k=true) {es:List (U × U × Nat)} {g:List kE} {r:Option (Nat × U)} (z:oJ w R h muZ es g) (u:jA P m k es 0=some r) :
  ∃ om,(Instr.findKey m p g).run P w=.ok om w/\EV w R h muZ k g 0 r om:=by
 obtain⟨om,h1,q⟩:=GZ hk es g 0 r z u;refine⟨om,?_,q⟩;obtain⟨cs,C,rfl,B,j,_⟩:=yB t;unfold ds at j;cases o:P.underlying m with
 | none=>rw[o] at j;cases j
 | some d=>
  rw[o] at j;unfold Instr.findKey;simp only[Sem.run_bind,b5 o,Result.andThen_ok];cases g with
  | nil=>simpa [Instr.findNow,Instr.findAsking] using h1
  | cons x g=>
   have v:Instr.findNow d p (x::g) 0=none:=by
    cases d<;>simp at j<;>simp[Instr.findNow,Instr.sameNow]
   rw[v];exact h1
theorem Sf (rel:bu R B w h muZ) {m:U} {dS:aB} {es:List (U × U × Nat)} (j:wb h m=some es) (u:az w R h muZ m dS) :
  (dS=.map none/\es=[])\/∃ b g o p,m=.mp b/\h.f b=.map es o/\muZ b=some g/\dS=.map (some g.r)/\w.heap[g.r]?=some (.map p o)/\oJ w R h muZ es p.toList:=by
 cases m<;>simp[wb] at j
 ·subst j;cases u;exact .inl ⟨rfl,rfl⟩
 ·rename_i b;cases u with
  | mp _ g K t=>
   cases q:h.f b<;>rw[q] at j<;>simp at j;rename_i J o;subst j;have hblk:=rel.blk b g t;rw[q] at hblk;obtain⟨p,h1,z,C⟩:=hblk;refine .inr ⟨b,g,o,p,rfl,q,t,rfl,h1,by simpa using z,fun H k I v G=>?_⟩;obtain⟨x,D,F⟩:=C H k I v G;exact⟨x,by simpa using D,F⟩
theorem Dv {r:Nat} {es:Array kE} {g:Nat} (h:w.heap[r]?=some (.map es g)) :(getObj r).run P w=.ok (.map es g) w:=by simp[getObj,Sem.run,h]
theorem Kq {r:Nat} {s:ByteArray} {pos:Nat} (g:w.heap[r]?=some (.stringIter s pos)) :(getObj r).run P w=.ok (.stringIter s pos) w:=by simp[getObj,Sem.run,g]
theorem Mb {t:aC} {z:U} (g:sJ P t=some z) :∃ v,(zeroValue t).run P w=.ok v w/\az w R h muZ z v:=by
 unfold sJ at g;cases j:P.info? t with
 | none=>rw[j] at g;cases g
 | some i=>
  rw[j] at g;simp only[pW] at g;cases m:i.zero with
  | none=>rw[m] at g;cases g
  | some v=>
   rw[m] at g;simp only[cu,bc] at g;subst g;exact⟨v,Kt j m,.qB v⟩
theorem az.Lp {a b:U} {o p:aB} (q:az w R h muZ a o) (t:az w R h muZ b p) :az w R h muZ (.aZ [a,b]) (.tuple #[o,p]):=by
 refine .aZ _ _ rfl fun m c u g j=>?_
 rcases m with _ | _ | m
 ·simp at g j;subst g j;exact q
 ·simp at g j;subst g j;exact t
 ·simp at g
theorem RZ (rel:bu R B w h muZ) {t:aC} {m k c:U} {dS p:aB} {ok:Bool} (g:yH P h t m k ok=some c) (o:az w R h muZ m dS) (hk:az w R h muZ k p) :
  ∃ v,(Instr.lookup t dS p ok).run P w=.ok v w/\az w R h muZ c v:=by
 unfold yH at g;split at g
 ·rename_i u D O ae am;split at g
  ·cases g
  ·rename_i Z;have ai:∀ j:List kE,oJ w R h muZ O j->∃ z,(Instr.findKey u p j).run P w=.ok z w ∧
     ((∃ i v,z=some (i,v)/\∃ G,az w R h muZ G v/\c=if ok then .aZ [G,.bool true] else G)\/(z=none/\∃ q,sJ P D=some q/\c=if ok then .aZ [q,.bool false] else q)):=by
    intro j F;cases T:jA P u k O 0 with
    | none=>rw[T] at g;cases g
    | some r=>
     obtain⟨z,h1,H⟩:=Kp hk Z F T;rw[T] at g;refine⟨z,h1,?_⟩;cases r with
     | none=>
      cases H;simp only at g;cases ag:sJ P D with
      | none=>rw[ag] at g;cases g
      | some q=>
       rw[ag] at g;simp only[cu,bc] at g;exact .inr ⟨rfl,q,rfl,g.symm⟩
     | some av=>
      obtain⟨ao,rfl,Q,_⟩:=H;simp only[bc] at g;exact .inl ⟨_,ao,rfl,_,Q,g.symm⟩
   have X:∀ (j:List kE) (em:Bool),oJ w R h muZ O j->∀ m:Sem aB,m.run P w=(((Instr.checkKey em 10000 u p).bind fun _=>(Instr.findKey u p j).bind fun r=>match r with
     | some (_,v)=>pure (if ok=true then .tuple #[v,.bool true] else v)
     | none=>(zeroValue D).bind fun q=>pure (if ok=true then .tuple #[q,.bool false] else q)) :Sem aB).run P w->∃ v,m.run P w=.ok v w/\az w R h muZ c v:=by
    intro j em F m o;obtain⟨z,h1,H⟩:=ai j F;have J:∀ {C K:Type} (a:Sem C) (f:C->Sem K),a.bind f=a >>= f:=fun _ _=>rfl
    simp only[J,Sem.run_bind,Kn em Z hk,Result.andThen_ok,h1] at o;rcases H with ⟨i,v,rfl,G,I,rfl⟩ | ⟨rfl,q,I,rfl⟩
    ·simp only at o;cases ok
     ·exact⟨v,by simpa using o,I⟩
     ·exact⟨.tuple #[v,.bool true],by simpa using o,az.Lp I (.bool _)⟩
    ·obtain⟨v,Q,Y⟩:=Mb (w:=w) (R:=R) (h:=h) (muZ:=muZ) I;simp only[Sem.run_bind,Q,Result.andThen_ok] at o;cases ok
     ·exact⟨v,by simpa using o,Y⟩
     ·exact⟨.tuple #[v,.bool false],by simpa using o,az.Lp Y (.bool _)⟩
   have J:∀ {C K:Type} (a:Sem C) (f:C->Sem K),a.bind f=a >>= f:=fun _ _=>rfl
   rcases Sf rel am o with ⟨rfl,rfl⟩ | ⟨b,aw,ap,j,rfl,aq,ar,rfl,ak,F⟩
   ·refine X [] true ⟨rfl,fun au k v b al=>by simp at al⟩ _ ?_;unfold Instr.lookup;simp only[J,Sem.run_bind,b5 ae,Result.andThen_ok,Sem.run_pure];cases S:(Instr.checkKey true 10000 u p).run P w with
    | halt a b=>simp[S]
    | ok a V=>
     simp[S];cases aj:(Instr.findKey u p []).run P V with
     | halt a b=>simp
     | ok r W=>
      simp;cases r with
      | none=>cases (zeroValue D).run P W<;>simp
      | some x=>simp
   ·refine X j.toList j.isEmpty F _ ?_;unfold Instr.lookup;simp only[J,Sem.run_bind,b5 ae,Result.andThen_ok,Sem.run_pure,Dv ak];cases S:(Instr.checkKey j.isEmpty 10000 u p).run P w with
    | halt a b=>simp
    | ok a V=>
     simp;cases aj:(Instr.findKey u p j.toList).run P V with
     | halt a b=>simp
     | ok r W=>
      simp;cases r with
      | none=>cases (zeroValue D).run P W<;>simp
      | some x=>simp
 ·cases g
theorem RP (rel:bu R B w h muZ) {t ty:aC} {x c:U} {j:aB} (g:rW P h t x=some c) (z:az w R h muZ x j) :∃ v,(Builtin.len_ #[t] ty #[j]).run P w=.ok v w/\az w R h muZ c v:=by
 unfold rW at g;split at g
 ·rename_i I G b u;split at g
  ·rename_i F D p;cases g;cases z with
   | mp _ C hk q=>
    have hblk:=rel.blk b C q;rw[p] at hblk;obtain⟨m,h1,o,H⟩:=hblk;exact⟨.int .i64 m.size,by simp[Builtin.len_,b5 u,Dv h1,goInt],by rw[o];exact .int _ _⟩
  ·cases g
 ·cases g
theorem Sd (rel:bu R B w h muZ) {t:aC} {r:Option aB} (g:∃ k e,P.underlying t=some (.map k e)) (m:∀ x,r=some x->∃ k n,x=.int k n) :∃ v w' muZ',(Instr.makeMap t r).run P w=.ok v w'/\cN w h muZ w' (h.push (.map [] 0)) muZ'/\bu R B w' (h.push (.map [] 0)) muZ'/\az w' R (h.push (.map [] 0)) muZ' (.mp h.n) v:=by
 have:=rel.Jy (w':=w.alloc (.map #[] 0)) (.map [] 0) (.map #[] 0) (k:=0) rfl rfl rfl rfl rfl ⟨#[],by show (w.heap.push _)[w.heap.size]?=_;simp,rfl,fun o k v b j=>by simp at j⟩;refine⟨.map (some w.heap.size),w.alloc (.map #[] 0),_,?_,this.1,this.2,?_⟩
 ·obtain⟨k,e,g⟩:=g;cases r with
  | none=>simp[Instr.makeMap,newObj,Sem.run]
  | some x=>
   obtain⟨p,n,rfl⟩:=m x rfl;simp[Instr.makeMap,newObj,Sem.run,b5 g,Go.asInt,Go.asIntOf]
 ·exact .mp h.n ⟨w.heap.size,0,0⟩ (by simp[dL,kX]) V
theorem Ih (rel:bu R B w h muZ) {t:aC} {m k x:U} {dS pg I:aB} {h' : aE} (o:rZ P h t m k x=some h') (aQ:az w R h muZ m dS) (hk:az w R h muZ k pg) (au:az w R h muZ x I) :
  ∃ w',(Instr.mapUpdate t dS pg I).run P w=.ok () w'/\cN w h muZ w' h' muZ/\bu R B w' h' muZ:=by
 unfold rZ at o;split at o
 ·rename_i aX a1 b aU;split at o
  ·rename_i p K ao;split at o
   ·cases o
   ·rename_i z;cases aQ with
    | mp _ u a2 ap=>
     have hblk:=rel.blk b u ap;rw[ao] at hblk;obtain⟨D,h1,q,S⟩:=hblk;have aP:u.r<w.heap.size:=by
      rcases fB u.r w.heap.size with h | h
      ·exact h
      ·rw[pO h] at h1;cases h1
     have aT:oJ w R h muZ p D.toList:=⟨by simpa using q,fun j k H J g=>by obtain⟨y,T,O⟩:=S j k H J g;exact⟨y,by simpa using T,O⟩⟩
     have ar:∀ ae:Obj,(setObj u.r ae).run P w=.ok () { w with heap:=w.heap.setIfInBounds u.r ae }:=fun ae=>by simp[setObj,Sem.run,h1]
     have aq:∀ (G:List (U × U × Nat)) (v:Array kE) (C:Nat),(∀ {ag:aO} {q:aE},Ext0 w h muZ ag q muZ->v.size=G.length/\∀ (j:Nat) (k H:U) (b:Nat),G[j]?=some (k,H,b)->∃ x:kE,v[j]?=some x/\az ag R q muZ k x.key/\az ag R q muZ H x.val/\x.born=b)->
       cN w h muZ { w with heap:=w.heap.setIfInBounds u.r (.map v C) } (h.set b (.map G C)) muZ/\bu R B { w with heap:=w.heap.setIfInBounds u.r (.map v C) } (h.set b (.map G C)) muZ:=by
      intro G v C aR;refine rel.JD (k:=0) ao rfl rfl ap rfl rfl rfl V (fun k hk=>?_) (fun e=>?_)
      ·simp only;rw[uM];rw[ak (fun aK=>hk aK.symm)]
      ·obtain⟨q1,aY⟩:=aR e;exact⟨v,by simp only;rw[uM];simp[aP],q1,aY⟩
     unfold Instr.mapUpdate;simp only[Sem.run_bind,b5 aU,Result.andThen_ok,Dv h1,Kn false z hk];cases Z:jA P aX k p 0 with
     | none=>rw[Z] at o;cases o
     | some r=>
      rw[Z] at o;obtain⟨a3,T,O⟩:=Kp hk z aT Z;rw[T];cases r with
      | none=>
       cases O;cases o;have:=aq (p++[(k,x,K)]) (D.push { key:=pg,val:=I,born:=K }) (K+1) (fun e=>⟨by simp[q],fun j av aw J g=>?_⟩)
       ·exact⟨_,by simp only[Result.andThen_ok];rw[ar],this⟩
       ·rw[sK];by_cases aM:j<p.length
        ·rw[aS aM] at g;obtain⟨y,al,W,am,X⟩:=S j av aw J g;exact⟨y,by rw[ak F];exact al,W.jz e,am.jz e,X⟩
        ·rw[ej F] at g;have aL:j - p.length=0:=by
          rcases Nat.eq_zero_or_pos (j - p.length) with h | h
          ·exact h
          ·rw[dV (by simp;omega)] at g;cases g
         rw[aL] at g;simp at g;obtain⟨rfl,rfl,rfl⟩:=g;exact⟨_,by rw[aj F],hk.jz e,au.jz e,rfl⟩
      | some aV=>
       obtain⟨i,H⟩:=aV;obtain⟨a4,rfl,al,_,y,W,am,X⟩:=O;cases o;have aJ:D[i]?=some y:=by simpa using W
       have aD:y.key=pg:=by rw[B9 z X,B9 z hk]
       have aN:(Instr.keyThatStays (((D[i]?).map (·.key)).getD pg) pg).run P w=.ok pg w:=by
        rw[aJ];simp only[cu,gU,aD];rw[B9 z hk];exact VH z
       have:=aq (p.modify i fun e=>(k,x,e.2.2)) (D.modify i fun e=>{ e with key:=pg,val:=I }) K (fun e=>⟨by simp[q],fun j av aw J g=>?_⟩)
       ·refine⟨_,?_,this⟩;simp only[Result.andThen_ok,Sem.run_bind,aN];rw[ar]
       ·rw[List.getElem?_modify] at g;rw[z7];cases Y:p[j]? with
        | none=>rw[Y] at g;simp at g
        | some aA=>
         obtain⟨aW,a0,ay⟩:=aA;rw[Y] at g;obtain⟨ax,aG,aH,aI,ai⟩:=S j aW a0 ay Y;rw[aG];by_cases Q:i=j
         ·simp[Q] at g;obtain⟨rfl,rfl,rfl⟩:=g;exact⟨{ ax with key:=pg,val:=I },by simp[Q],hk.jz e,au.jz e,ai⟩
         ·simp[Q] at g;obtain⟨rfl,rfl,rfl⟩:=g;exact⟨ax,by simp[Q],aH.jz e,aI.jz e,ai⟩
  ·cases o
 ·cases o
theorem UX (rel:bu R B w h muZ) {t:aC} {x c:U} {m:aB} {h' : aE} (j:zf P h t x=some (c,h')) (p:az w R h muZ x m) :
  ∃ v w' muZ',(Instr.range t m).run P w=.ok v w'/\cN w h muZ w' h' muZ'/\bu R B w' h' muZ'/\az w' R h' muZ' c v:=by
 unfold zf at j;split at j
 ·rename_i s o;simp only[bc,Prod.mk.injEq] at j;obtain⟨rfl,rfl⟩:=j;cases p;rename_i g;have:=rel.Jy (w':=w.alloc (.stringIter g 0)) (.iter g.data.toList 0) (.stringIter g 0) (k:=1) rfl rfl rfl rfl rfl ⟨g,rfl,by show (w.heap.push _)[w.heap.size]?=_;simp⟩;refine⟨.pointer (some ⟨w.heap.size,0,none⟩),w.alloc (.stringIter g 0),_,?_,this.1,this.2,?_⟩
  ·simp[Instr.range,b5 o,newObj,Sem.run]
  ·exact .it h.n ⟨w.heap.size,0,0⟩ (by simp[dL,kX]) V
 ·cases j
theorem SJ (rel:bu R B w h muZ) {x c:U} {F:aB} {h' : aE} {ty:aC} (j:yT h x=some (c,h')) (I:az w R h muZ x F) :
  ∃ v w',(Instr.next F true ty).run P w=.ok v w'/\cN w h muZ w' h' muZ/\bu R B w' h' muZ/\az w' R h' muZ c v:=by
 unfold yT at j;split at j
 ·rename_i b;split at j
  ·rename_i s pos z;cases I with
   | it _ t J C=>
    have hblk:=rel.blk b t C;rw[z] at hblk;obtain⟨bs,rfl,h1⟩:=hblk;have H:t.r<w.heap.size:=by
     rcases fB t.r w.heap.size with h | h
     ·exact h
     ·rw[pO h] at h1;cases h1
    have G:(⟨bs.data.toList.toArray⟩:ByteArray)=bs:=by cases bs;simp
    have D:bs.data.toList.length=bs.size:=by rw[q6];rfl
    rw[G] at j;split at j
    ·rename_i o;have u:pos<bs.size:=by rw[<-D];rw[As] at o;exact o
     simp only[bc,Prod.mk.injEq] at j;obtain⟨rfl,rfl⟩:=j;have:=rel.JD (w':={ w with heap:=w.heap.setIfInBounds t.r (.stringIter bs (pos+(Utf8.decode bs pos).2)) }) (k:=1) (c':=.iter bs.data.toList (pos+(Utf8.decode bs pos).2)) z rfl rfl C rfl rfl rfl V
      (fun k hk=>by simp only;rw[uM];rw[ak (fun q=>hk q.symm)]) (fun e=>⟨bs,rfl,by simp only;rw[uM];simp[H]⟩)
     refine⟨.tuple #[.bool true,.int .i64 pos,.int .i32 (Utf8.decode bs pos).1],_,?_,this.1,this.2,?_⟩
     ·simp only[Instr.next,Sem.run_bind,Kq h1,Result.andThen_ok,aj u];simp[setObj,Sem.run,h1,goInt]
     ·refine .aZ _ _ rfl fun p c v g m=>?_
      rcases p with _ | _ | _ | p
      ·simp at g m;subst g m;exact .bool _
      ·simp at g m;subst g m;exact .int _ _
      ·simp at g m;subst g m;exact .int _ _
      ·simp at g
    ·rename_i o;have u:¬ pos<bs.size:=by
      rw[<-D];intro q;rw[<-As] at q;rw[q] at o;cases o
     simp only[bc,Prod.mk.injEq] at j;obtain⟨rfl,rfl⟩:=j;refine⟨.tuple #[.bool false],w,?_,.refl _ _ _,rel,?_⟩
     ·simp only[Instr.next,Sem.run_bind,Kq h1,Result.andThen_ok,ak u];simp
     ·refine .aZ _ _ rfl fun p c v g m=>?_
      rcases p with _ | p
      ·simp at g m;subst g m;exact .bool _
      ·simp at g
  ·cases j
 ·cases j
theorem Ko {blk:Nat}:∀ (n:Nat) (o:Nat) (ns:List Int) (g:ByteArray),ns.length=n->(∀ j v,(ns.map (Value.int .u8))[j]?=some v->(load (⟨blk,o+j,none⟩:Addr)).run P w=.ok v w)->
  ∃ bs,(Extern.Bytes.loadBytes ⟨blk,o,none⟩ n g).run P w=.ok bs w/\bs.data.toList=g.data.toList++ns.map fun n=>UInt8.ofNat n.toNat
 | 0,o,ns,g,m,_=>⟨g,by simp[Extern.Bytes.loadBytes],by rw[il.1 m];simp⟩
 | n+1,o,[],g,m,_=>by simp at m
 | n+1,o,x::ns,g,m,h=>by
  have p:=h 0 _ rfl;obtain⟨bs,h1,q⟩:=Ko n (o+1) ns (g.push (UInt8.ofNat x.toNat)) (by simpa using m) (fun j v t=>by
   have:=h (j+1) v (by simpa using t);rw[show o+(j+1)=o+1+j by omega] at this;exact this)
  refine⟨bs,?_,?_⟩
  ·unfold Extern.Bytes.loadBytes;rw[nG] at p;simp only[Sem.run_bind,p,Result.andThen_ok,Addr.ju];exact h1
  ·rw[q];simp
theorem FP (rel:bu R B w h muZ) {x:U} {C:aB} {l:List UInt8} (m:ti h x=some l) (q:az w R h muZ x C) :∃ bs,(Extern.Bytes.bytesOf C).run P w=.ok bs w/\bs.data.toList=l:=by
 unfold ti at m;split at m
 ·cases m;cases q with
  | str bs=>exact⟨bs,by simp[Extern.Bytes.bytesOf],rfl⟩
 ·rename_i V;split at m
  ·rename_i cs n g;obtain⟨ak,F,ae,v,Q⟩:=qk (P:=P) rel g q;have o:=Q n (aF _) w (fun _=>rfl);obtain⟨j,rfl,rfl⟩:=A2 cs ae l m v.1 v.2;have G:j.length=n:=by have:=v.1;simp at this;omega
   have W:(j.map (Value.int .u8)).take (n*1)=j.map (Value.int .u8):=aI (by simp;omega);rw[W] at o;have S:∃ a len cap,C=.slice a len cap:=by
    cases q<;>first | exact⟨_,_,_,rfl⟩ | (simp[contents] at g;done) | (exact bK rfl (V _))
   obtain⟨a,len,cap,rfl⟩:=S;simp only[Builtin.lenOf,Sem.run_pure,Result.ok.injEq] at F;obtain⟨rfl,_⟩:=F;cases a with
   | none=>
    simp only[Builtin.firstCells,Sem.run_pure,Result.ok.injEq] at o;have X:j=[]:=by
     have:=cm Array.toList o.1;simpa using this.symm
    subst X;exact⟨.empty,by simp[Extern.Bytes.bytesOf],rfl⟩
   | some a=>
    by_cases u:len=0
    ·subst u;have:j=[]:=il.1 G;subst this;exact⟨.empty,by simp[Extern.Bytes.bytesOf,Extern.Bytes.loadBytes],rfl⟩
    have O:∃ t z,a=⟨t,z,none⟩:=by
     cases q with
     | ad=>exact⟨_,_,rfl⟩
     | bj=>exact⟨_,_,rfl⟩
     | eB=>exact bK rfl u
     | gh=>exact bK rfl u
     | bad=>simp[contents] at g
     | e9 _ _ _ _ _ _ _ _ h1 D p=>
      exfalso;simp only[contents] at g;rcases p with p | ⟨n,ag,p,aj⟩
      ·rw[p] at g;cases g
      ·rw[p] at g;simp only at g;split at g
       ·rename_i ai;omega
       ·cases g
    obtain⟨t,z,rfl⟩:=O;simp only[Builtin.firstCells,nH] at o;unfold loadCells at o;obtain⟨l,h1,D,H⟩:=loadCellsFrom_ok _ _ _ _ _ _ o;have I:l=j.map (Value.int .u8):=by
     have:=cm Array.toList D;simpa using this.symm
    subst I;obtain⟨bs,J,K⟩:=Ko (P:=P) (w:=w) (blk:=t) len z j .empty G (fun Y Z T=>by
     have:=H Y Z T;rw[Addr.ju,gT] at this;exact this)
    exact⟨bs,by simpa [Extern.Bytes.bytesOf] using J,by rw[K];rfl⟩
  ·cases m
theorem F9:∀ (a b:List UInt8),(match (List.range (min a.length b.length)).find? fun i=>a.getD i 0 != b.getD i 0 with
  | some i=>if a.getD i 0<b.getD i 0 then (-1:Int) else 1
  | none=>if a.length<b.length then -1 else if a.length > b.length then 1 else 0)=lv a b
 | [],[]=>by simp[lv]
 | [],_::_=>by simp[lv]
 | _::_,[]=>by simp[lv]
 | x::a,y::b=>by
  have m:=F9 a b;simp only[du,Nat.add_min_add_right,List.range_succ_eq_map,Ai,List.getD_cons_zero];by_cases g:x=y
  ·subst g;simp only[bne_self_eq_false,lv,if_true];rw[<-m,List.find?_map];have h:((fun i=>(x::a).getD i 0 != (x::b).getD i 0) ∘ Nat.succ)=fun i=>a.getD i 0 != b.getD i 0:=by
    funext i;simp
   rw[h];cases o:(List.range (min a.length b.length)).find? fun i=>a.getD i 0 != b.getD i 0 with
   | none=>simp only[Option.map_none];congr 1<;>simp
   | some i=>simp
  ·have j:(x != y)=true:=by simp[g]
   simp only[j,lv,ak g,List.getD_cons_zero]
theorem G1 {alZ:Type} {p q:alZ->Bool}:∀ (l:List alZ),(∀ x∈l,p x=q x)->l.find? p=l.find? q
 | [],_=>rfl
 | x::l,h=>by
  rw[Ai,Ai,h x V,G1 l (fun y g=>h y (by simp[g]))]
theorem qg (a b:ByteArray) :Extern.BytealgCompare.cmp a b=lv a.data.toList b.data.toList:=by
 rw[<-F9];unfold Extern.BytealgCompare.cmp;have g:∀ (a:ByteArray) (i:Nat),i<a.size->a[i]! = a.data.toList.getD i 0:=fun a i h=>by
  simp only[gm,pP];rw[getElem!_pos a i h];have:i<a.data.size:=h;rw[q5 this];rfl
 have j:∀ a:ByteArray,a.data.toList.length=a.size:=fun a=>by rw[q6];rfl
 rw[j,j];have o:(List.range (min a.size b.size)).find? (fun i=>a[i]! != b[i]!)=(List.range (min a.size b.size)).find? (fun i=>a.data.toList.getD i 0 != b.data.toList.getD i 0):=by
  apply G1;intro i h;have:=gS.1 h;rw[g a i F,g b i F]
 rw[o];cases m:(List.range (min a.size b.size)).find? (fun i=>a.data.toList.getD i 0 != b.data.toList.getD i 0) with
 | none=>rfl
 | some i=>
  have:=gS.1 (Mf m);simp only;rw[g a i F,g b i F]
theorem P9 {fn:Func} (h:fn.name= "internal/bytealg.Compare") (g:fn.origin= ""\/fn.origin= "internal/bytealg.Compare") :Extern.find fn=some Extern.BytealgCompare.compare/\Extern.findNext fn=none:=by
 constructor
 ·unfold Extern.find;simp only[h];rfl
 ·unfold Extern.findNext;simp only[h];rcases g with g | g<;>rw[g]<;>rfl
theorem PW (rel:bu R B w h muZ) {f:cb} {fn:Func} {args:ag} {vs:Array aB} {c:U} (J:P.funcs[f]?=some fn) (q:vU fn=true) (g:vx h args=some c)
  (m:vs.size=args.length) (u:∀ (j:Nat) (c:U) (v:aB),args[j]?=some c->vs[j]?=some v->az w R h muZ c v) :
  ∃ v,(callFunc f vs).run P w=.ok (.value v) w/\az w R h muZ c v:=by
 unfold vU at q;simp only[bN,q9,beq_iff_eq] at q;obtain⟨⟨p,t⟩,O⟩:=q;unfold vx at g;split at g
 ·rename_i x y;split at g
  ·rename_i a b G H;cases g;simp only[du,hI] at m;have Q:vs=#[vs[0],vs[1]]:=by
    apply Array.ext
    ·simpa using m
    ·intro i h1 o;rcases (show i=0\/i=1 by simp at o;omega) with rfl | rfl<;>rfl
   obtain⟨ba,h1,o⟩:=FP (P:=P) rel G (u 0 x vs[0] rfl (by simp[m]));obtain⟨S,D,F⟩:=FP (P:=P) rel H (u 1 y vs[1] rfl (by simp[m]));obtain⟨z,C⟩:=P9 t O;refine⟨.int .i64 (lv a b),?_,.int _ _⟩;rw[Q];have K:fn.name≠ "runtime.NumGoroutine":=by rw[t];decide
   have p:=Mi.1 p;have I:Extern.BytealgCompare.compare #[vs[0],vs[1]]=(do pure (goInt (Extern.BytealgCompare.cmp (<-Extern.Bytes.bytesOf vs[0]) (<-Extern.Bytes.bytesOf vs[1])))):=rfl;simp[callFunc,J,K,p,z,C,mark,Sem.run,I,h1,D,qg,o,F,goInt]
  ·cases g
 ·cases g
end
section
variable {P:bg} {w:aO} {R:Nat->Prop} {B:Nat} {h:aE} {muZ:bU}
inductive rj:aB->aB->Prop where
 | bool (a b:Bool) :rj (.bool a) (.bool b)
 | agg (a b:Array aB) :rj (.agg a) (.agg b)
 | slice (a:Option Addr) (l c:Nat) (g:Option Addr) (j h:Nat) :rj (.slice a l c) (.slice g j h)
theorem PO {d:Nat} {t:aC} {x y:U} {b:Bool} {p sG:aB} (m:dA P d t x y=some b) (g:az w R h muZ x p) (j:az w R h muZ y sG)
  (q:∀ k a k' o,x=.int k a->y=.int k' o->False) (u:∀ a o,x=.str a->y=.str o->False) :rj p sG:=by
 cases d with
 | zero=>simp[dA] at m
 | succ d=>
  unfold dA at m;split at m
  ·cases g;cases j;exact .bool _ _
  ·exact (q _ _ _ _ rfl rfl).elim
  ·exact (u _ _ rfl rfl).elim
  ·cases g;cases j;exact .agg _ _
  ·cases g;cases j;exact .agg _ _
  ·cases g;cases j;exact .slice _ _ _ _ _ _
  ·cases g;cases j<;>exact .slice _ _ _ _ _ _
  ·cases g;cases j<;>exact .slice _ _ _ _ _ _
  ·cases g<;>cases j<;>exact .slice _ _ _ _ _ _
  ·cases g<;>cases j<;>exact .slice _ _ _ _ _ _
  ·cases m
theorem PM {op:BinOp} {t:aC} {j m:aT} {g h:aB} (p:rj g h) (o:∀ a b,g=.agg a->h=.agg b->P.eqGuardType P.depth t=false) :(eqGuard op t j m g h).run P w=.ok () w:=by
 cases p with
 | bool a b=>cases op<;>rfl
 | agg a b=>exact run_eqGuard_agg w op t j m a b (o a b rfl rfl)
 | slice=>cases op<;>rfl
theorem VG {t:aC} {g h:aB} {b:Bool} (o:rj g h) (j:(Op.equalIn 10000 t g h).run P w=.ok b w) :
  (binOp .eql t g h).run P w=.ok (.bool b) w/\(binOp .neq t g h).run P w=.ok (.bool (!b)) w:=by have m:(Op.equal t g h).run P w=.ok b w:=j;cases o<;>constructor<;>simp[binOp,m]
theorem PL {op:BinOp} {t:aC} {g h:aT} {k k' : cQ} {a b:Int}:(eqGuard op t g h (.int k a) (.int k' b)).run P w=.ok () w:=by cases op<;>rfl
theorem PN {op:BinOp} {t:aC} {g h:aT} {a b:ByteArray}:(eqGuard op t g h (.string a) (.string b)).run P w=.ok () w:=by cases op<;>rfl
theorem NT {op:BinOp} {t:aC} {G H:aT} {x y c:U} {m o:aB} (g:dP P op t x y=some c) (u:az w R h muZ x m) (p:az w R h muZ y o) :
  ∃ v,((do eqGuard op t G H m o;binOp op t m o:Sem aB)).run P w=.ok v w/\az w R h muZ c v:=by
 unfold dP at g;split at g
 ·cases u;cases p;obtain⟨v,h1,C⟩:=NU (P:=P) (w:=w) (R:=R) (h:=h) (muZ:=muZ) (t:=t) g;exact⟨v,by simp[PL,h1],C⟩
 ·cases u;cases p;obtain⟨v,h1,C⟩:=NV (P:=P) (w:=w) (R:=R) (h:=h) (muZ:=muZ) (t:=t) g;exact⟨v,by simp[PN,h1],C⟩
 ·rename_i J K;have F:∀ b,rE P t x y=true->dA P 10000 t x y=some b->rj m o/\(eqGuard op t G H m o).run P w=.ok () w ∧
    (binOp .eql t m o).run P w=.ok (.bool b) w/\(binOp .neq t m o).run P w=.ok (.bool (!b)) w:=by
   intro b q j;have D:=PO j u p J K;have I:∀ a b,m=.agg a->o=.agg b->P.eqGuardType P.depth t=false:=by
    rintro a b rfl rfl;cases u with
    | ah cs _ _ _ _=>
     cases p with
     | ah Q _ _ _ _=>simpa [rE] using q
     | bad=>simp[dA] at j
    | bad=>cases p<;>simp[dA] at j
   have O:=Bu 10000 t x y b m o j u p;obtain⟨z,B⟩:=VG D O;exact⟨D,PM D I,z,B⟩
  split at g
  ·split at g
   ·rename_i q;cases j:dA P 10000 t x y with
    | none=>rw[j] at g;cases g
    | some b=>
     rw[j] at g;simp only[cu,bc] at g;subst g;obtain⟨_,z,B,_⟩:=F b q j;exact⟨.bool b,by simp[z,B],.bool _⟩
   ·cases g
  ·split at g
   ·rename_i q;cases j:dA P 10000 t x y with
    | none=>rw[j] at g;cases g
    | some b=>
     rw[j] at g;simp only[cu,bc] at g;subst g;obtain⟨_,z,_,B⟩:=F b q j;exact⟨.bool (!b),by simp[z,B],.bool _⟩
   ·cases g
  ·cases g
theorem Xk {op:UnOp} {x c:U} {m:aB} (g:qY op x=some c) (j:az w R h muZ x m) :∃ v,(Op.unary op m).run P w=.ok v w/\az w R h muZ c v:=by
 unfold qY at g;split at g
 ·cases g;cases j;exact⟨_,by simp[Op.unary],.bool _⟩
 ·cases g;cases j;refine⟨_,?_,.int _ _⟩;simp only[Op.unary];rfl
 ·cases g;cases j;refine⟨_,?_,.int _ _⟩;simp only[Op.unary];rfl
 ·cases g
theorem CE {g:aT->U} {j:aT->aB} (m:∀ x,az w R h muZ (g x) (j x)) (o:Option aT) :rl w R h muZ (o.map g) (o.map j):=by
 cases o with
 | none=>trivial
 | some x=>exact m x
def vb (P:bg) (R:Nat->Prop) (B:Nat) (w:aO) (h:aE) (muZ:bU) (r:Result Next) :mc->Prop
 | .val c h'=>Good R B w h muZ r c h'
 | .call f args h'=>h'=h/\∃ g:Array aB,r=.ok (.enter f g) w/\g.size=args.length/\∀ (j:Nat) (c:U) (m:aB),args[j]?=some c->g[j]?=some m->az w R h muZ c m
theorem Good.mk {r:Result Next} {c:U} {h' : aE} {v:aB} {w' : aO} {muZ' : bU} (m:r=.ok (.value v) w') (g:cN w h muZ w' h' muZ') (j:bu R B w' h' muZ') (o:az w' R h' muZ' c v) :Good R B w h muZ r c h':=
 ⟨v,w',muZ',.inl m,g,j,o⟩
theorem Od (rel:bu R B w h muZ) {b:Builtin} {ts:Array aC} {ty:aC} {consts:Array Bool} {args:ag} {vs:Array aB} {r:mc} (g:mg P h b ts.toList args=some r)
  (C:vs.size=args.length) (K:∀ (j:Nat) (c:U) (v:aB),args[j]?=some c->vs[j]?=some v->az w R h muZ c v) :vb P R B w h muZ ((builtin b ts ty consts vs).run P w) r:=by
 have one:∀ x,args=[x]->∃ mN,vs=#[mN]/\az w R h muZ x mN:=by
  intro x p;subst p;simp only[du,hI] at C;refine⟨vs[0],?_,K 0 x _ rfl (by simp[C])⟩;apply Array.ext
  ·simpa using C
  ·intro i h1 q;have:i=0:=F;subst this;rfl
 have two:∀ x y,args=[x,y]->∃ mN sG,vs=#[mN,sG]/\az w R h muZ x mN/\az w R h muZ y sG:=by
  intro x y p;subst p;simp only[du,hI] at C;refine⟨vs[0],vs[1],?_,K 0 x _ rfl (by simp[C]),K 1 y _ rfl (by simp[C])⟩;apply Array.ext
  ·simpa using C
  ·intro i h1 q;rcases (show i=0\/i=1 by simp at q;omega) with rfl | rfl<;>rfl
 have H:∀ o,ts.toList=[o]->ts=#[o]:=fun o I=>by apply Array.toList_inj.1;simpa using I
 have Q:∀ o u,ts.toList=[o,u]->ts=#[o,u]:=fun o u I=>by apply Array.toList_inj.1;simpa using I
 unfold mg at g;split at g
 ·rename_i o x t;obtain⟨mN,rfl,p⟩:=one x rfl;obtain rfl:=H o t;split at g
  ·rename_i c m;cases g;obtain⟨v,h1,q⟩:=RP (P:=P) (ty:=ty) rel m p;exact Good.mk (by simp[builtin,h1]) (.refl _ _ _) rel q
  cases m:rV P o x with
  | none=>rw[m] at g;cases g
  | some c=>
   rw[m] at g;simp only[cu,bc] at g;subst g;obtain⟨v,h1,q⟩:=RQ (P:=P) (u:=o) (ty:=ty) m p;exact Good.mk (by simp[builtin,h1]) (.refl _ _ _) rel q
 ·rename_i o u s x t;obtain⟨jN,mN,rfl,S,p⟩:=two s x rfl;obtain rfl:=Q o u t;split at g
  ·rename_i k J;cases m:vh P h o s x with
   | none=>rw[m] at g;cases g
   | some c=>
    obtain⟨c,h'⟩:=c;rw[m] at g;simp only[cu,bc] at g;subst g;obtain⟨v,w',muZ',h1,q,z,D⟩:=NI (ty:=ty) rel J m S p;exact Good.mk (by simp[builtin,h1]) q z D
  ·cases g
  ·rename_i V W;cases m:nQ P h o s x with
   | none=>rw[m] at g;cases g
   | some c=>
    obtain⟨c,h'⟩:=c;rw[m] at g;simp only[cu,bc] at g;subst g;have J:tV P u:=by
     cases G:P.underlying u with
     | none=>exact bK G W
     | some d=>exact⟨d,G,fun k hk=>V k (by rw[G,hk])⟩
    obtain⟨v,w',muZ',h1,q,z,D⟩:=AQ (ty:=ty) rel J m S p;exact Good.mk (by simp[builtin,h1]) q z D
 ·rename_i o u d x t;obtain⟨X,mN,rfl,G,p⟩:=two d x rfl;obtain rfl:=Q o u t;cases m:tt P h o d x with
  | none=>rw[m] at g;cases g
  | some c=>
   obtain⟨c,h'⟩:=c;rw[m] at g;simp only[cu,bc] at g;subst g;obtain⟨v,w',h1,q,z,D⟩:=O8 (u:=u) (ty:=ty) rel m G p;exact Good.mk (by simp[builtin,h1]) q z D
 ·rename_i o x t;obtain⟨mN,rfl,p⟩:=one x rfl;obtain rfl:=H o t;cases m:tk P o x with
  | none=>rw[m] at g;cases g
  | some c=>
   rw[m] at g;simp only[cu,bc] at g;subst g;obtain⟨v,h1,q⟩:=Ou (P:=P) (ty:=ty) m p;exact Good.mk (by simp[builtin,h1]) (.refl _ _ _) rel q
 ·rename_i o x t;obtain⟨mN,rfl,p⟩:=one x rfl;obtain rfl:=H o t;cases m:tn P h o x with
  | none=>rw[m] at g;cases g
  | some h'=>
   rw[m] at g;simp only[cu,bc] at g;subst g;obtain⟨w',h1,q,z⟩:=OK (P:=P) (ty:=ty) rel m p;exact Good.mk (v:=.tuple #[]) (by simp[builtin,h1]) q z (.aZ [] #[] rfl (fun _ _ _ T=>by simp at T))
 ·rename_i x y;obtain⟨mN,sG,rfl,p,O⟩:=two x y rfl;cases m:yN x y with
  | none=>rw[m] at g;cases g
  | some c=>
   rw[m] at g;simp only[cu,bc] at g;subst g;unfold yN at m;split at m
   ·split at m
    ·rename_i hk;subst hk;cases m;cases p;cases O;refine Good.mk (v:=.int _ _) ?_ (.refl _ _ _) rel (.int _ _);simp[builtin,Builtin.min_,Builtin.min2]
    ·cases m
   ·cases m
 ·rename_i x y;obtain⟨mN,sG,rfl,p,O⟩:=two x y rfl;cases m:og x y with
  | none=>rw[m] at g;cases g
  | some c=>
   rw[m] at g;simp only[cu,bc] at g;subst g;unfold og at m;split at m
   ·split at m
    ·rename_i hk;subst hk;cases m;cases p;cases O;refine Good.mk (v:=.int _ _) ?_ (.refl _ _ _) rel (.int _ _);simp[builtin,Builtin.max_,Builtin.max2]
    ·cases m
   ·cases m
 ·cases g
theorem FS {f:cb} {fn:Func} {vs:Array aB} (j:P.funcs[f]?=some fn) (g:fn.body.isSome=true) (o:fn.name≠ "runtime.NumGoroutine") :(callFunc f vs).run P w=.ok (.enter f vs) w:=by
 have h:fn.body≠none:=fun m=>by rw[m] at g;cases g
 simp[callFunc,j,o,h]
theorem Cd {p:aT->U} {q:aT->aB} (t:∀ x,az w R h muZ (p x) (q x)) (xs:Array aT) :
  ∀ (j:Nat) (c:U) (v:aB),(xs.toList.map p)[j]?=some c->(xs.map q)[j]?=some v->az w R h muZ c v:=by
 intro j c v m g;rw[bX] at m;rw[z6] at g;cases o:xs[j]? with
 | none=>simp[o] at g
 | some u=>
  simp[o] at m g;subst m g;exact t u
theorem Sl {t:aC} {name:String} {g:cb} (h:wc P t name=some g) (u:aB) :(Go.method (P.types.size+Made.depth) t u name).run P w=.ok (g,u) w:=by
 unfold wc at h;split at h
 ·cases h
 ·cases h
 ·rename_i v z;split at h
  ·rename_i i q;split at h
   ·rename_i B o;split at h
    ·rename_i f m p;cases h;obtain⟨k,hk⟩:∃ k,P.types.size+Made.depth=k+1:=⟨P.types.size+Made.depth - 1,by unfold Made.depth;omega⟩
     rw[hk];cases j:P.underlying t with
     | none=>exact bK j z
     | some d=>
      have C:B.path=#[]:=Array.toList_eq_nil_iff.1 m;cases d<;>first
       | (exfalso;exact v _ j)
       | simp[Go.method,typeInfo,q,o,m,p,follow,receiverAt,b5 j,Place.get]
    ·cases h
   ·cases h
  ·cases h
theorem WS {t V:aC} {C:Bool} {z c x:U} {v:aB} (B:zM P t=some z) (g:zL t z C x=some c) (H:az w R h muZ x v) :
  ∃ iD,(Instr.typeAssert v V t C).run P w=.ok iD w/\az w R h muZ c iD:=by
 unfold zM at B;split at B
 ·cases B
 ·cases B
 ·rename_i D S;cases j:P.underlying t with
  | none=>exact bK j S
  | some d=>
   obtain⟨O,I,J⟩:=Mb (P:=P) (w:=w) (R:=R) (h:=h) (muZ:=muZ) B;have two:∀ (a:U) (F:aB) (q:Bool),az w R h muZ a F->az w R h muZ (.aZ [a,.bool q]) (.tuple #[F,.bool q]):=by
    intro a F q Q;refine .aZ _ _ rfl (fun K c v m p=>?_)
    match K,m,p with
    | 0,m,p=>simp at m p;subst m p;exact Q
    | 1,m,p=>simp at m p;subst m p;exact .bool q
    | K+2,m,p=>simp at m
   cases x<;>simp only[zL] at g<;>try (cases g;done)
   case hz=>
    cases H;cases C<;>simp only at g<;>cases g;refine⟨.tuple #[O,.bool false],?_,two _ _ _ J⟩;cases d<;>first
     | (exfalso;exact D _ j)
     | simp[Instr.typeAssert,b5 j,I]
   case fT T W=>
    cases H with
    | fT _ _ u G=>
     split at g
     ·rename_i o;have o:=l7 o;subst o;cases C<;>simp only at g<;>cases g
      ·refine⟨u,?_,G⟩;cases d<;>first
        | (exfalso;exact D _ j)
        | simp[Instr.typeAssert,b5 j]
      ·refine⟨.tuple #[u,.bool true],?_,two _ _ _ G⟩;cases d<;>first
        | (exfalso;exact D _ j)
        | simp[Instr.typeAssert,b5 j]
     ·rename_i o;have o:T≠t:=fun h=>by rw[h,Ar] at o;cases o
      cases C<;>simp only at g<;>cases g;refine⟨.tuple #[O,.bool false],?_,two _ _ _ J⟩;cases d<;>first
       | (exfalso;exact D _ j)
       | simp[Instr.typeAssert,b5 j,I,o]
theorem On (rel:bu R B w h muZ) {D:aT->U} {hD:aT->aB} (C:∀ x,az w R h muZ (D x) (hD x)) {c:Call} {ty:aC} {r:mc} (g:qd P h D c=some r) :
  vb P R B w h muZ ((do let d <-resolve hD c ty;invoke d.target d.args:Sem Next).run P w) r:=by
 unfold qd at g;split at g
 ·rename_i b ai;have:=fun W=>Od (P:=P) (b:=b) (ts:=c.argTypes) (ty:=ty) (consts:=W) (args:=c.args.toList.map D) (vs:=c.args.map hD) rel g V
   (fun p x v j m=>by
    rw[bX] at j;rw[z6] at m;cases z:c.args[p]? with
    | none=>simp[z] at m
    | some J=>
     simp[z] at j m;subst j m;exact C J)
  simp only[resolve,ai,Sem.run_bind,Sem.run_pure,Result.andThen_ok,invoke];exact this _
 ·rename_i f S;split at g
  ·rename_i Y first eZ al
   have m:=C f;rw[al] at m;cases q:hD f with
   | func aw H cs=>
    rw[q] at m;cases m with
    | fn _ _ _ _ _ h1 O ae ag=>
     split at g
     ·rename_i fn G;have Q:∀ (p:Nat) (x:U) (v:aB),(first++c.args.toList.map D++eZ)[p]?=some x->(H++c.args.map hD++cs)[p]?=some v->az w R h muZ x v:=by
       intro p x v j o;by_cases am:p<first.length
       ·rw[fc,aS am] at j;rw[z1,oB F] at o;exact ae p x v j o
       ·by_cases ax:p<first.length+c.args.size
        ·rw[aS (by simp;omega),ej F,bX] at j;rw[oB (by simp;omega),uL F,z6,h1] at o;cases z:c.args[p - first.length]? with
         | none=>simp[z] at o
         | some J=>
          simp[z] at j o;subst j o;exact C J
        ·rw[ej (by simp;omega)] at j;rw[uL (by simp;omega)] at o;refine ag _ x v j ?_;simpa [h1] using o
      split at g
      ·rename_i t;cases g;refine⟨rfl,H++c.args.map hD++cs,?_,by simp[h1,O],Q⟩;simp[resolve,S,q,Deferred.ofValue,invoke,FS G t.1 t.2]
      ·split at g
       ·rename_i ak;cases I:vx h (first++c.args.toList.map D++eZ) with
        | none=>rw[I] at g;cases g
        | some av=>
         rw[I] at g;simp only[cu,bc] at g;subst g;obtain⟨v,K,X⟩:=PW (P:=P) (vs:=H++c.args.map hD++cs) rel G ak I (by simp[h1,O]) Q;rw[z1] at K;exact Good.mk (by simp[resolve,S,q,Deferred.ofValue,invoke,K]) (.refl _ _ _) rel X
       ·cases g
     ·cases g
   | _=>rw[q] at m;cases m
  ·cases g
 ·rename_i x name aj;split at g
  ·rename_i T aA au;have m:=C x;rw[au] at m;split at g
   ·rename_i Y ao;split at g
    ·rename_i fn G;split at g
     ·rename_i t;cases g;cases q:hD x with
      | iface ay u=>
       rw[q] at m;cases m with
       | fT _ _ _ ar=>
        refine⟨rfl,#[u]++c.args.map hD,?_,by simp;omega,?_⟩
        ·have ap:=Sl (P:=P) (w:=w) ao u;have Z:(#[Value.iface T u]++c.args.map hD)[0]?=some (Value.iface T u):=by rw[oB V];rfl
         have aq:(c.args.map hD).extract 0 c.args.size=c.args.map hD:=by
          apply Array.ext';simp[aI]
         simp[Z,aq,resolve,aj,q,invoke,callMethod,ap,FS G t.1 t.2]
        ·intro p x v j o;cases p with
         | zero=>
          rw[oB V] at o;simp at j o;subst j o;exact ar
         | succ p=>
          rw[ik] at j;rw[uL V] at o;exact Cd C c.args p x v j (by simpa using o)
      | _=>rw[q] at m;cases m
     ·cases g
    ·cases g
   ·cases g
  ·cases g
theorem CN {q:aT->U} {t:aT->aB} (v:∀ x,az w R h muZ (q x) (t x)) (ps:Array (Nat × aT)) :
  (ps.map fun (i,x)=>(i,t x)).size=(ps.toList.map fun p=>(p.1,q p.2)).length ∧
  ∀ (j:Nat) (p:Nat × U) (m:Nat × aB),(ps.toList.map fun p=>(p.1,q p.2))[j]?=some p->(ps.map fun (i,x)=>(i,t x))[j]?=some m->m.1=p.1/\az w R h muZ p.2 m.2:=by
 refine⟨V,fun j p m o g=>?_⟩;rw[bX] at o;rw[z6] at g;cases u:ps[j]? with
 | none=>simp[u] at g
 | some z=>
  simp[u] at o g;subst o g;exact⟨rfl,v z.2⟩
theorem DP (rel:bu R B w h muZ) {F:aT->U} {J:aT->aB} (j:∀ x,az w R h muZ (F x) (J x)) (o:a6) {r:mc} (g:cB P h F o.op=some r) :
  vb P R B w h muZ ((execOp J o).run P w) r:=by
 obtain⟨aA,op,type,pos,ax,guard⟩:=o;have H:∀ {x:Option U} {m:Sem aB},(∀ c,x=some c->∃ I,m.run P w=.ok I w/\az w R h muZ c I)->x.map (fun y=>mc.val y h)=some r->
   vb P R B w h muZ ((do pure (.value (<-m)) :Sem Next).run P w) r:=by
  intro x m C z;cases S:x with
  | none=>rw[S] at z;cases z
  | some c=>
   rw[S] at z;simp only[cu,bc] at z;subst z;obtain⟨I,h1,D⟩:=C c S;exact Good.mk (by simp[h1]) (.refl _ _ _) rel D
 have ag:∀ {x:Option (U × aE)} {m:Sem aB},(∀ c h',x=some (c,h')->∃ I w' muZ',m.run P w=.ok I w'/\cN w h muZ w' h' muZ'/\bu R B w' h' muZ'/\az w' R h' muZ' c I)->x.map (fun y=>mc.val y.1 y.2)=some r->
   vb P R B w h muZ ((do pure (.value (<-m)) :Sem Next).run P w) r:=by
  intro x m C z;cases S:x with
  | none=>rw[S] at z;cases z
  | some c=>
   obtain⟨c,h'⟩:=c;rw[S] at z;simp only[cu,bc] at z;subst z;obtain⟨I,w',muZ',h1,D,G,Q⟩:=C c h' S;exact Good.mk (by simp[h1]) D G Q
 cases op
 case move x=>
  simp only[cB,bc] at g;subst g;exact Good.mk (by simp[execOp]) (.refl _ _ _) rel (j x)
 case assign x=>
  simp only[cB,bc] at g;subst g;exact Good.mk (by simp[execOp]) (.refl _ _ _) rel (j x)
 case pick c a b=>
  simp only[cB] at g;have Z:=j c;cases p:F c<;>rw[p] at g Z<;>simp only at g<;>try (cases g;done)
  cases g;cases u:J c<;>rw[u] at Z<;>try (cases Z;done)
  cases Z;rename_i q;cases q
  ·exact Good.mk (v:=J b) (by simp[execOp,u,asBool]) (.refl _ _ _) rel (by simpa using j b)
  ·exact Good.mk (v:=J a) (by simp[execOp,u,asBool]) (.refl _ _ _) rel (by simpa using j a)
 case alloc q=>
  simp only[cB] at g;cases O:fV P q with
  | none=>rw[O] at g;cases g
  | some ai=>
   rw[O] at g;simp only[cu,bc] at g;subst g;obtain⟨I,u,z⟩:=q4 (P:=P) (w:=w) (R:=R) (h:=h) (muZ:=muZ) O;obtain⟨aj,ak,al⟩:=xM rel (cs:=ai) (vs:=I.cells) q z.1 z.2;exact Good.mk (by simp[execOp,Instr.alloc,u,newVar,newRow]) aj ak (al 0)
 case box q x=>
  simp only[cB] at g;cases O:(F x).cells with
  | none=>rw[O] at g;cases g
  | some ai=>
   rw[O] at g;simp only[cu,bc] at g;subst g;obtain⟨X,Y⟩:=xV (j x) O;obtain⟨aj,ak,al⟩:=xM rel (cs:=ai) (vs:=(J x).cells) q X Y;exact Good.mk (by simp[execOp,Instr.box,newVar,newRow]) aj ak (al 0)
 case build q parts=>
  obtain⟨X,Y⟩:=CN j parts;exact H (fun c p=>Ob p X Y) g
 case buildSlice q len parts=>
  obtain⟨X,Y⟩:=CN j parts;exact ag (fun c h' p=>Oa rel p X Y) g
 case load q a=>exact H (fun c p=>H7 rel p (j a)) g
 case store q a x=>
  simp only[cB] at g;cases K:qU P h q (F a) (F x) with
  | none=>rw[K] at g;cases g
  | some h'=>
   rw[K] at g;simp only[cu,bc] at g;subst g;obtain⟨w',h1,D,G⟩:=KY (P:=P) rel K (j a) (j x);exact⟨undef,w',muZ,.inr ⟨by simp[execOp,h1],rfl⟩,D,G,.aZ [] #[] rfl (fun _ _ _ T=>by simp at T)⟩
 case nilCheck x=>
  simp only[cB] at g;have u:=j x;cases p:F x<;>rw[p] at g u<;>simp only at g<;>try (cases g;done)
  all_goals
   cases g;cases C:J x<;>rw[C] at u<;>try (cases u;done)
   rename_i y;refine Good.mk (v:=J x) ?_ (.refl _ _ _) rel (by rw[C];exact u);cases u<;>simp[execOp,C]
 case binOp op q x y aI=>exact H (fun c p=>NT p (j x) (j y)) g
 case unOp op q x=>exact H (fun c p=>Xk p (j x)) g
 case convert s d x=>
  simp only[cB] at g;split at g
  ·rename_i c p;cases g;obtain⟨I,w',h1,D,G,Q⟩:=Of rel p (j x);exact Good.mk (by simp[execOp,h1]) D G Q
  ·exact H (fun c p=>O5 rel p (j x)) g
 case makeInterface q x=>
  simp only[cB] at g;cases W:P.underlying q with
  | none=>rw[W] at g;cases g
  | some d=>
   rw[W] at g;cases d<;>simp only at g<;>try (cases g;done)
   all_goals
    cases g;exact Good.mk (v:=.iface q (J x)) (by simp[execOp,Instr.makeInterface,b5 W]) (.refl _ _ _) rel (.fT q _ _ (j x))
 case makeFunc fn first eZ=>
  cases fn<;>simp only[cB] at g<;>try (cases g;done)
  cases g;exact Good.mk (by simp[execOp,Instr.makeFunc]) (.refl _ _ _) rel (.fn _ _ _ _ _ V V (Cd j first) (Cd j eZ))
 case makeSlice q l c=>exact ag (fun ay h' p=>Se rel p (j l) (j c)) g
 case slice q x au ae av=>exact H (fun c p=>Wf rel p (j x) (CE j au) (CE j ae) (CE j av)) g
 case fieldAddr s x f=>exact H (fun c p=>PZ p (j x)) g
 case field q x f=>
  simp only[cB] at g;split at g
  ·rename_i cs aC C ao;have u:=j x;rw[C] at u;exact H (fun c p=>P0 ao p u) g
  ·cases g
 case indexAddr q x i=>exact H (fun c p=>QW p (j x) (j i)) g
 case index q x i=>exact H (fun c p=>BT p (j x) (j i)) g
 case extract x i=>
  simp only[cB] at g;have u:=j x;cases p:F x<;>rw[p] at g u<;>simp only at g<;>try (cases g;done)
  rename_i aD;cases C:J x<;>rw[C] at u<;>try (cases u;done)
  rename_i arr;cases u with
  | aZ _ _ ap aq=>
   refine H (m:=Instr.extract (J x) i) (fun c p=>?_) g;have am:i<arr.size:=by rw[ap];exact (aH.1 p).1
   exact⟨arr[i],by simp[Instr.extract,C,am],aq i c _ p (by simp[am])⟩
 case call c=>exact On rel j g
 case makeMap q r=>
  simp only[cB] at g;split at g
  ·rename_i k e W z;cases g;obtain⟨I,w',muZ',h1,D,G,Q⟩:=Sd (P:=P) (t:=q) (r:=r.map J) rel ⟨_,_,W⟩ (fun x C=>by
    cases r with
    | none=>cases C
    | some o=>
     simp only[cu,bc] at C;subst C;simp only at z;cases ae:asInt (F o) with
     | none=>rw[ae] at z;cases z
     | some n=>
      obtain⟨k,hk⟩:=nR ae (j o);exact⟨k,n,hk⟩)
   exact Good.mk (by simp[execOp,h1]) D G Q
  ·cases g
 case lookup q m k aw=>exact H (fun c p=>RZ rel p (j m) (j k)) g
 case mapUpdate q m k x=>
  simp only[cB] at g;cases K:rZ P h q (F m) (F k) (F x) with
  | none=>rw[K] at g;cases g
  | some h'=>
   rw[K] at g;simp only[cu,bc] at g;subst g;obtain⟨w',h1,D,G⟩:=Ih (P:=P) rel K (j m) (j k) (j x);exact⟨undef,w',muZ,.inr ⟨by simp[execOp,h1],rfl⟩,D,G,.aZ [] #[] rfl (fun _ _ _ T=>by simp at T)⟩
 case insert q m k x=>
  simp only[cB] at g;cases K:rZ P h q (F m) (F k) (F x) with
  | none=>rw[K] at g;cases g
  | some h'=>
   rw[K] at g;simp only[cu,bc] at g;subst g;obtain⟨w',h1,D,G⟩:=Ih (P:=P) rel K (j m) (j k) (j x);exact⟨undef,w',muZ,.inr ⟨by simp[execOp,h1],rfl⟩,D,G,.aZ [] #[] rfl (fun _ _ _ T=>by simp at T)⟩
 case range q x=>exact ag (fun c h' p=>UX rel p (j x)) g
 case next it ar=>
  cases ar with
  | false=>simp only[cB] at g;cases g
  | true=>exact ag (fun c h' p=>by obtain⟨I,w',h1,D,G,Q⟩:=SJ (P:=P) (ty:=type) rel p (j it);exact⟨I,w',muZ,h1,D,G,Q⟩) g
 case typeAssert x aG q aw=>
  simp only[cB] at g;split at g
  ·rename_i ai O;exact H (fun c p=>WS O p (j x)) g
  ·cases g
 all_goals (simp only[cB] at g;cases g)
end
end Go.bf

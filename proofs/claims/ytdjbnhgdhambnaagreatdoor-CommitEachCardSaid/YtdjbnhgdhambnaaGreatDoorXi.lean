/-
  Graphs: their shape, in the reference.
-/
import Derived.Test.YtdjbnhgdhambnaaGreatDoorXh
set_option maxHeartbeats 16000000
set_option maxRecDepth 100000
set_option linter.unusedVariables false
set_option linter.unusedSimpArgs false
set_option linter.unnecessarySimpa false
namespace Go.bf
open Go Go.Proofs Go.Proofs.Tryz
namespace Op
open b8
def pr (idsZ:aN) (opsZ:List aM) :Bool:=decide (∀ g∈opsZ,hY idsZ g.ay.l=true)
def jl (idsZ:aN) (opsZ:List aM) :Int:=if bQ idsZ=true then (if pr idsZ opsZ=true then (if (lL idsZ opsZ).length=opsZ.length then 0 else 36) else 40) else 32
theorem UL (g:aW) (m:e4 g) (J:g.idsZ.l.length=g.opsZ.l.length) :aV 74 [cE g] (.i6 (jl g.idsZ.l g.opsZ.l)):=by
 apply a8 func74 [[],[[0],[3],[4],[5],[1,4],[2]]];have H:=bV g.idsZ;have ap:=iM g.opsZ;have G:=oY g;have O:bt (.ad 11) (bB g.opsZ)=_:=ca _;have aw:=m.jE;have am:=C7 g.idsZ m.idsZ m.li;simp[cE,bb];refine av am (by simp[ar,H]) ?_;by_cases o:bQ g.idsZ.l=true
 ·have I:=mq o;have S:=UA g m J I;unfold cE bb at S G;simp[o];refine bw g.opsZ.l.length (fun k w l=>l=[.q 2 [ai g.idsZ,bB g.opsZ]]/\w 1=.ptr 0 0 2/\w 3=.i6 k/\∀ (p:Nat) (j:aM),p<k->g.opsZ.l[p]?=some j->hY g.idsZ.l j.ay.l=true) ?_ V;rintro k w l hk ⟨rfl,C,D,T⟩;obtain⟨w,rfl⟩:=jP C D;clear C D;by_cases v:k<g.opsZ.l.length
  ·obtain⟨j,Q,u⟩:=aQ v;have W:=cl (k:=k) F;have Z:bF (.ad 11) (bB g.opsZ) _=_:=c6 Q;have X:=C2 g.idsZ m.idsZ m.li j.ay (m.opsZ j u).idsZ (m.opsZ j u).len;have Y:=bV j.ay;simp[O,v,Z,au];refine av X (by simp[ar,H,Y]) ?_;by_cases t:hY g.idsZ.l j.ay.l=true
   ·simp[t,v,W];intro p ao z B;by_cases ae:p=k
    ·subst ae;rw[Q] at B;obtain rfl:=cd B;exact t
    ·exact T p ao F B
   ·rw[xj] at t;simp[t];refine aR (cm (U.int .i64) ?_) rfl;have al:¬ pr g.idsZ.l g.opsZ.l=true:=fun h=>by
     have:=io h j u;rw[t] at this;cases this
    unfold jl;rw[aj o,ak al]
  ·have ag:k=g.opsZ.l.length:=F;have R:pr g.idsZ.l g.opsZ.l=true:=bW fun j u=>by
    obtain⟨p,z⟩:=cc.1 u;exact T p j (by rw[ag];exact (aH.1 z).1) z
   have aq:(lL g.idsZ.l g.opsZ.l).length<=g.opsZ.l.length:=(wy g.idsZ.l g.opsZ.l J I _).2.1;have K:bt (.ad 1) (Bq (cO (lL g.idsZ.l g.opsZ.l)))=some (.i6 (lL g.idsZ.l g.opsZ.l).length):=by unfold Bq;rw[ca,dr]
   simp[O,v];refine av S (by simp[ar,G]) ?_;by_cases P:(lL g.idsZ.l g.opsZ.l).length<g.opsZ.l.length
   ·simp[K,P];refine aR (cm (U.int .i64) ?_) rfl;unfold jl;rw[aj o,aj R,ak F]
   ·simp[K,P];refine aR (cm (U.int .i64) ?_) rfl;unfold jl;rw[aj o,aj R,aj F]
 ·rw[xj] at o;simp[o];refine aR (cm (U.int .i64) ?_) rfl;unfold jl;rw[o];rfl
def jB (g:aW) (k:Nat) :Bool:=match g.opsZ.l[k]?,g.idsZ.l[k]? with
 | some h,some x=>decide (fk h=0)&&decide (bJ h=x)
 | _,_=>true
def rL (g:aW) :Bool:=decide (∀ k,k<g.opsZ.l.length->jB g k=true)
theorem rM (g:aW) :rL g=true<->∀ k,k<g.opsZ.l.length->jB g k=true:=by unfold rL;rw[bI]
def e5 (g:aW) :Int:=if 60<g.opsZ.l.length then 4 else if g.idsZ.l.length=g.opsZ.l.length then (if rL g=true then jl g.idsZ.l g.opsZ.l else 8) else 8
theorem vL {g:aW} {k:Nat} {o:aM} {x:List B} (h:g.opsZ.l[k]?=some o) (j:g.idsZ.l[k]?=some x) :jB g k=(decide (fk o=0)&&decide (bJ o=x)):=by unfold jB;rw[h,j]
theorem uF {o:aM} (h:fk o=0) :c4 o=0:=by
 unfold fk at h;by_cases g:c4 o=0
 ·exact g
 ·rw[ak g] at h;exact h
theorem pb (o:aM) :(bJ o).length=32:=by
 unfold bJ;split
 ·exact jk _
 ·simp
theorem Up (g:aW) (o:e4 g) :aV 29 [cE g] (.i6 (e5 g)):=by
 apply a8 func29 [da 0 13++da 14 5++[[13,18,15]]];have aK:=bV g.idsZ;have aL:=iM g.opsZ;have W:=oY g;have t:bt (.ad 11) (bB g.opsZ)=_:=ca _;have Y:bt (.ad 32) (ai g.idsZ)=_:=ca _;have aN:=o.jE;by_cases J:60<(g.opsZ.l.length:Int)
 ·simp[cE,bb,t,J];refine aR (cm (U.int .i64) ?_) rfl;unfold e5;rw[aj F]
 by_cases C:g.idsZ.l.length=g.opsZ.l.length
 ·have al:=UL g o C;unfold cE bb at al W;have P:(g.idsZ.l.length:Int)=(g.opsZ.l.length:Int):=F;simp[cE,bb,t,Y,J,P];refine bw g.opsZ.l.length (fun k I l=>l=[.q 2 [ai g.idsZ,bB g.opsZ]]/\I 1=.ptr 0 0 2/\I 3=.i6 k/\∀ m,m<k->jB g m=true) ?_ V;rintro k I l hk ⟨rfl,Q,R,ag⟩;obtain⟨I,rfl⟩:=jP Q R;clear Q R;by_cases p:k<g.opsZ.l.length
  ·obtain⟨j,Z,ae⟩:=aQ p;obtain⟨x,am,ap⟩:=aQ (l:=g.idsZ.l) (k:=k) F;have O:=vL Z am;have aw:=cl (k:=k) F;have z:bF (.ad 11) (bB g.opsZ) _=_:=c6 Z;have X:bF (.ad 32) (ai g.idsZ) _=_:=c6 am;have G:=JQ j (o.opsZ j ae);have w:=dN j;have H:=br (o.idsZ x ap);have D:(au j).length=11:=rfl;have T:¬ jB g k=true->e5 g=8:=fun h=>by
    unfold e5;rw[ak F,aj C,ak fun aB=>h ((rM g).1 aB k p)]
   by_cases v:fk j=0
   ·have S:=uF v;have u:=C4 j (o.opsZ j ae) (by have:=pq S;omega);have aC:bJ j=fi (e8 j):=by unfold bJ;rw[aj S]
    rw[<-aC] at u;have heq:=qq (pb j) (o.idsZ x ap);change aV 73 [.ah (au j)] (.ah (ao (bJ j))) at u;obtain⟨aG,ay⟩:=aq (ao (bJ j));rw[<-ay] at u heq;rw[v] at G;obtain⟨aH,az⟩:=aq (au j);obtain⟨aJ,aA⟩:=aq (ao x);rw[<-az] at z G u w D;rw[<-aA] at X H heq;simp[t,p,z,D,aI];refine av G (by simp[ar,U.ax,w]) ?_;simp[D,X,H,z,aI];refine av u (by simp[ar,U.ax,w]) ?_;by_cases B:bJ j=x
    ·simp[heq,B,p,aw,H,aI];intro m aD;by_cases aE:m=k
     ·subst aE;rw[O];simp[v,B]
     ·exact ag m F
    ·have K:¬ jB g k=true:=fun h=>by rw[O] at h;simp[B] at h
     simp[heq,B,H,aI];exact aR (cm (U.int .i64) (T K).symm) rfl
   ·have K:¬ jB g k=true:=fun h=>by rw[O] at h;simp[v] at h
    simp[t,p,z,D,aI];refine av G (by simp[ar,U.ax,w]) ?_;simp[v];exact aR (cm (U.int .i64) (T K).symm) rfl
  ·have aM:k=g.opsZ.l.length:=F;simp[t,p];refine av al (by simp[ar,W]) ?_;simp;refine aR (cm (U.int .i64) ?_) rfl;unfold e5;rw[ak F,aj C,aj ((rM g).2 fun m aD=>ag m F)]
 ·have P:¬ (g.idsZ.l.length:Int)=(g.opsZ.l.length:Int):=F;simp[cE,bb,t,Y,J,P];refine aR (cm (U.int .i64) ?_) rfl;unfold e5;rw[ak F,ak C]
def lC (idsZ:aN) (D:List Nat) (p:List B) :Nat:=(D.map fun a=>if p == bn idsZ a then 1 else 0).sum
def jM (idsZ:aN) (D:List Nat) (L:aN) :Nat:=(D.map fun a=>L.count (bn idsZ a)).sum
theorem WN (idsZ:aN) (D:List Nat) :jM idsZ D []=0:=by
 unfold jM
 induction D with
 | nil=>rfl
 | cons a D g=>rw[dh,sV,g];rfl
theorem Lb (idsZ:aN) (p:List B) (L:aN) :∀ D,jM idsZ D (p::L)=jM idsZ D L+lC idsZ D p
 | []=>rfl
 | a::D=>by
  have g:=Lb idsZ p L D;unfold jM lC at g ⊢;rw[dh,sV,dh,sV,dh,sV,g,List.count_cons];omega
theorem DT (idsZ:aN) (D:List Nat) (a:Nat) (L:aN) :jM idsZ (D++[a]) L=jM idsZ D L+L.count (bn idsZ a):=by unfold jM;rw[dk,List.sum_append];simp
theorem Fv {idsZ:aN} (p:kG idsZ) {i j:Nat} (o:i<idsZ.length) (q:j<idsZ.length) (h:bn idsZ i=bn idsZ j) :i=j:=by obtain⟨x,g,_⟩:=aQ o;obtain⟨y,m,_⟩:=aQ q;rw[dx g,dx m] at h;subst h;exact p i j x g m
theorem Ht {idsZ:aN} {p:List B}:∀ {D:List Nat},(∀ a∈D,bn idsZ a≠p)->lC idsZ D p=0
 | [],_=>rfl
 | a::D,h=>by
  have g:=Ht (idsZ:=idsZ) (p:=p) (D:=D) fun b m=>h b (by simp[m])
  have j:(p == bn idsZ a)=false:=by rw[beq_eq_false_iff_ne];exact Ne.symm (h a V)
  unfold lC at g ⊢;rw[dh,sV,g,j];rfl
theorem Hs {idsZ:aN} (u:kG idsZ) {p:List B}:∀ {D:List Nat},D.Nodup->(∀ a∈D,a<idsZ.length)->lC idsZ D p<=1/\(lC idsZ D p=1<->∃ a∈D,bn idsZ a=p)
 | [],_,_=>⟨ek _,Iff.intro (fun h=>(by cases h)) (fun ⟨a,j,_⟩=>(by cases j))⟩
 | a::D,q,o=>by
  rw[uV] at q;obtain⟨C,F⟩:=Hs (p:=p) u q.2 (fun b w=>o b (by simp[w]));by_cases h:bn idsZ a=p
  ·have v:lC idsZ D p=0:=Ht fun b t z=>q.1 (by rw[Fv u (o a V) (o b (by simp[t])) (h.trans z.symm)];exact t)
   have j:(p == bn idsZ a)=true:=by rw[h];simp
   have e:lC idsZ (a::D) p=1:=by
    unfold lC at v ⊢;rw[dh,sV,v,j];rfl
   rw[e];exact⟨aF _,fun _=>⟨a,V,h⟩,fun _=>rfl⟩
  ·have j:(p == bn idsZ a)=false:=by rw[beq_eq_false_iff_ne];exact Ne.symm h
   have e:lC idsZ (a::D) p=lC idsZ D p:=by
    unfold lC;rw[dh,sV,j];simp
   rw[e];refine⟨C,F.trans ⟨fun ⟨b,g,m⟩=>⟨b,by simp[g],m⟩,fun ⟨b,g,m⟩=>?_⟩⟩;rw[fX] at g;rcases g with rfl | g
   ·exact bK m h
   ·exact⟨b,g,m⟩
theorem DU {idsZ:aN} (u:kG idsZ) {D:List Nat} (v:D.Nodup) (t:∀ a∈D,a<idsZ.length) :∀ L:aN,jM idsZ D L<=L.length/\(jM idsZ D L=L.length<->∀ p∈L,∃ a∈D,bn idsZ a=p)
 | []=>by rw[WN];exact⟨aF _,Iff.intro (fun _ p z=>by cases z) (fun _=>rfl)⟩
 | p::L=>by
  obtain⟨B,w⟩:=DU u v t L;obtain⟨h1,o⟩:=Hs (p:=p) u v t;rw[Lb,du];refine⟨F,fun h=>?_,fun h=>?_⟩
  ·have j:jM idsZ D L=L.length:=F;have m:lC idsZ D p=1:=F;intro q g;rw[fX] at g;rcases g with rfl | g
   ·exact o.1 m
   ·exact w.1 j q g
  ·have j:=w.2 fun q g=>h q (by simp[g])
   have m:=o.2 (h p V);omega
structure Ay (idsZ:aN) (opsZ:List aM) (g:List (List Nat)) :Prop where
 len:g.length=opsZ.length
 cnt:∀ (a:Nat) (row:List Nat),g[a]?=some row->∀ k,k<opsZ.length->row.count k=(dE opsZ k).count (bn idsZ a)
 lt:∀ (a:Nat) (row:List Nat),g[a]?=some row->∀ k∈row,k<opsZ.length
structure nK (idsZ:aN) (opsZ:List aM) (row:List Nat) (d j:Nat) (R:List Nat) (W:List Int) :Prop where
 kZ:R.Nodup
 lA:∀ k∈R,k<opsZ.length/\l9 idsZ opsZ k
 dl:d<=R.length
 wl:W.length=opsZ.length
 w:∀ k,k<opsZ.length->W[k]?=some (((dE opsZ k).length:Int) - jM idsZ (R.take d) (dE opsZ k) - (row.take j).count k)
 r:∀ k,k<opsZ.length->(k∈R<->W[k]?=some 0)
theorem RG {idsZ:aN} {opsZ:List aM} (az:idsZ.length=opsZ.length) (P:kG idsZ) {G:List (List Nat)} (J:Ay idsZ opsZ G) {a:Nat} {row:List Nat} {d j:Nat} {R:List Nat} {W:List Int}
  (h:nK idsZ opsZ row d j R W) (H:R[d]?=some a) (T:G[a]?=some row) {k:Nat} (hk:row[j]?=some k) :
  ∃ x:Int,W[k]?=some x/\1<=x/\x<=(dE opsZ k).length/\nK idsZ opsZ row d (j+1) (if x - 1=0 then R++[k] else R) (W.set k (x - 1)):=by
 have t:=J.lt a row T k (cz hk);have K:=J.cnt a row T k t;have ay:=(aH.1 H).1;have U:R.take (d+1)=R.take d++[a]:=by rw[eD,H];rfl
 have al:(R.take (d+1)).Nodup:=List.Sublist.nodup (EI _ _) h.kZ;have v:∀ b∈R.take (d+1),b<idsZ.length:=fun b Z=>by have:=(h.lA b (gE Z)).1;omega
 obtain⟨av,aw⟩:=DU P al v (dE opsZ k);rw[U,DT,<-K] at av;have ae:(row.take (j+1)).count k=(row.take j).count k+1:=by
  rw[eD,hk,uQ];simp
 have ax:(row.take (j+1)).count k<=row.count k:=List.Sublist.count_le _ (EI _ _);have C:=h.w k t;obtain⟨x,ap⟩:=aq (((dE opsZ k).length:Int) - jM idsZ (R.take d) (dE opsZ k) - (row.take j).count k:Int);rw[<-ap] at C;have ar:1<=x:=F;have Q:k∉R:=fun z=>by
  have:=(h.r k t).1 z;rw[C] at this;have:=cd this;omega
 refine⟨x,C,ar,F,?_⟩;have S:k<W.length:=by rw[h.wl];exact t
 have ao:(if x - 1=0 then R++[k] else R).take d=R.take d:=by
  split
  ·rw[hU F]
  ·rfl
 have am:x - 1=0->l9 idsZ opsZ k:=fun o=>by
  have heq:jM idsZ (R.take (d+1)) (dE opsZ k)=(dE opsZ k).length:=by rw[U,DT,<-K];omega
  have I:=aw.1 heq;have O:∀ m,m<idsZ.length->idsZ[m]?=some (bn idsZ m):=fun m q=>by
   obtain⟨y,g,_⟩:=aQ (l:=idsZ) q;rw[g,dx g]
  refine .mk k F (fun D B=>?_) fun D B au ai=>?_
  ·obtain⟨m,q,rfl⟩:=I D B;exact cz (O m (v m q))
  ·obtain⟨m,q,rfl⟩:=I D B;rw[P au m _ ai (O m (v m q))];exact (h.lA m (gE q)).2
 refine⟨?_,fun y g=>?_,?_,by simpa using h.wl,fun y g=>?_,fun y g=>?_⟩
 ·split
  ·rw[EF];refine⟨h.kZ,V,fun u X aA Y e=>?_⟩;rw[fO] at Y;subst e;rw[Y] at X;exact Q X
  ·exact h.kZ
 ·split at g
  ·rename_i o;rw[eQ,fO] at g;rcases g with g | rfl
   ·exact h.lA y g
   ·exact⟨t,am o⟩
  ·exact h.lA y g
 ·split
  ·simp;have:=h.dl;omega
  ·exact h.dl
 ·rw[ao,nC];by_cases p:k=y
  ·subst p;rw[aj rfl,aj S,ae];congr 1;omega
  ·rw[ak p,h.w y g,eD,hk,uQ];have:([k] :List Nat).count y=0:=by rw[Ag];simp[p]
   simp only[Option.toList_some,this,nG]
 ·rw[nC];by_cases p:k=y
  ·subst p;rw[aj rfl,aj S];by_cases o:x - 1=0
   ·rw[aj o];simp[o]
   ·rw[ak o];exact⟨fun z=>bK z Q,fun ag=>bK (cd ag) o⟩
  ·rw[ak p,<-h.r y g];split
   ·rw[eQ,fO];exact⟨fun h=>h.resolve_right (Ne.symm p),.inl⟩
   ·exact Iff.rfl
theorem RD {idsZ:aN} {opsZ:List aM} {g:List (List Nat)} (m:Ay idsZ opsZ g) {a:Nat} {row q:List Nat} {d:Nat} {R:List Nat} {W:List Int}
  (h:nK idsZ opsZ row d row.length R W) (j:R[d]?=some a) (o:g[a]?=some row) :nK idsZ opsZ q (d+1) 0 R W:=by
 have p:R.take (d+1)=R.take d++[a]:=by rw[eD,j];rfl
 refine⟨h.kZ,h.lA,(aH.1 j).1,h.wl,fun k hk=>?_,h.r⟩;rw[h.w k hk,p,DT,fl,m.cnt a row o k hk,mR,List.count_nil];congr 1;omega
theorem RE {idsZ:aN} {opsZ:List aM} {row g:List Nat} {d:Nat} {R:List Nat} {W:List Int} (h:nK idsZ opsZ row d 0 R W) :nK idsZ opsZ g d 0 R W:=
 ⟨h.kZ,h.lA,h.dl,h.wl,fun k hk=>by rw[h.w k hk,mR,mR],h.r⟩
theorem RF {idsZ:aN} {opsZ:List aM} (o:idsZ.length=opsZ.length) :nK idsZ opsZ [] 0 0 ((List.range opsZ.length).filter fun k=>(dE opsZ k).isEmpty) ((List.range opsZ.length).map fun k=>((dE opsZ k).length:Int)):=by
 refine⟨List.Sublist.nodup jT Am,fun k hk=>?_,ek _,V,fun k hk=>?_,fun k hk=>?_⟩
 ·rw[c7,gS] at hk;have j:dE opsZ k=[]:=uT.1 hk.2;exact⟨hk.1,.mk k F (fun m g=>by rw[j] at g;cases g) fun m g=>by rw[j] at g;cases g⟩
 ·rw[bX,g9 hk];simp[jM]
 ·rw[c7,gS,bX,g9 hk];simp only[cu,bc,hk,true_and,uT];constructor
  ·intro h;rw[h];rfl
  ·intro h;exact il.1 F
theorem RC {idsZ:aN} {opsZ:List aM} (F:idsZ.length=opsZ.length) (o:kG idsZ) {row:List Nat} {R:List Nat} {W:List Int} (h:nK idsZ opsZ row R.length 0 R W) :
  R.length<=opsZ.length/\(R.length=opsZ.length<->(lL idsZ opsZ).length=opsZ.length):=by
 have G:R.length<=opsZ.length:=by
  have:=pD (b:=List.range opsZ.length) h.kZ fun x I=>gS.2 (h.lA x I).1
  simpa using this
 refine⟨G,?_⟩;rw[CG F o];constructor
 ·intro C i g;exact (h.lA i (IB h.kZ C (fun i g=>(h.lA i g).1) i g)).2
 ·intro z;have D:∀ i,l9 idsZ opsZ i->i<opsZ.length->i∈R:=by
   intro i m
   induction m with
   | mk i g H m J=>
    intro p;rw[h.r i p,h.w i p,fl];have B:=(DU o h.kZ (fun a v=>by have:=(h.lA a v).1;omega) (dE opsZ i)).2.2 fun u q=>by
     obtain⟨t,j⟩:=cc.1 (H u q);exact⟨t,J u q t j (by have:=(aH.1 j).1;omega),dx j⟩
    rw[B];simp
  have:=pD (a:=List.range opsZ.length) (b:=R) Am fun i g=>D i (z i (gS.1 g)) (gS.1 g)
  simp at this;omega
structure iH (l:ae) (vs:ag) (g:List (List Nat)) (c3:Nat->Nat) :Prop where
 qZ:vs.length=g.length
 own:∀ (a:Nat) (v:U) (row:List Nat),vs[a]?=some v->g[a]?=some row->aJ 1 l v (c3 a) (row.map fS)/\bq v=row.isEmpty/\(row=[]\/3<=c3 a)
 apart:∀ (a b:Nat) (h j:List Nat),a≠b->g[a]?=some h->g[b]?=some j->h≠[]->j≠[]->c3 a≠c3 b
def ln (g:List (List Nat)) (c3:Nat->Nat) (b:Nat) :Prop:=∀ (a:Nat) (row:List Nat),g[a]?=some row->row≠[]->c3 a≠b
theorem iH.lt {l:ae} {vs:ag} {g:List (List Nat)} {c3:Nat->Nat} (h:iH l vs g c3) {a:Nat} {row:List Nat} (j:g[a]?=some row) (o:row≠[]) :c3 a<l.length:=by
 have m:a<vs.length:=by rw[h.qZ];exact (aH.1 j).1
 obtain⟨p,n,_⟩:=h.own a vs[a] row (bC m) j;rcases p.lt with h1 | h1
 ·rw[h1] at n;cases row with
  | nil=>exact bK rfl o
  | cons=>cases n
 ·exact h1
theorem iH.frame {l l' : ae} {vs:ag} {g:List (List Nat)} {c3:Nat->Nat} (h:iH l vs g c3) (o:∀ b,b<l.length->(∃ a row,g[a]?=some row/\row≠[]/\c3 a=b)->l'[b]?=l[b]?) :iH l' vs g c3:=by
 refine⟨h.qZ,fun a v row q m=>?_,h.apart⟩;obtain⟨t,n,u⟩:=h.own a v row q m;refine⟨?_,n,u⟩;by_cases j:row=[]
 ·subst j;have:=go.1 n;subst this;exact .nil _
 ·exact t.frame fun p=>o _ p ⟨a,row,m,j,rfl⟩
theorem iH.more {l:ae} {vs:ag} {g:List (List Nat)} {c3:Nat->Nat} (h:iH l vs g c3) (x:ae) :iH (l++x) vs g c3:=h.frame fun b j _=>aS j
theorem iH.app {l:ae} {vs:ag} {m:List (List Nat)} {c3:Nat->Nat} (h:iH l vs m c3) {a k b:Nat} {v:U} {row:List Nat} (ay:vs[a]?=some v) (J:m[a]?=some row) (ar:l[b]?=some (.q 1 [.i6 (k:Int)])) (aq:3<=l.length) (ax:(row.length+1)*8<=db) :
  ∃ o l' Z,ep l 1 8 v (.ad 1 b 0 1 1 1)=some (o,l')/\iH l' (vs.set a o) (m.set a (row++[k])) Z/\l.length<=l'.length/\o.cells=some [o] ∧
   ∀ c,c<l.length->ln m c3 c->l'[c]?=l[c]?/\ln (m.set a (row++[k])) Z c:=by
 obtain⟨aB,n,aE⟩:=h.own a v row ay J;have Y:a<m.length:=(aH.1 J).1;obtain⟨D,aD,aI,T,ai⟩:∃ D,aJ 1 l v D (row.map fS)/\3<=D/\(∀ u G,u≠a->m[u]?=some G->G≠[]->c3 u≠D)/\∀ c,c<l.length->ln m c3 c->D≠c:=by
  by_cases p:row=[]
  ·subst p;have:=go.1 n;subst this;exact⟨l.length,.nil _,aq,fun u G _ j Q=>by have:=h.lt j Q;omega,fun c I _=>F⟩
  ·exact⟨c3 a,aB,aE.resolve_left p,fun u G aw j Q=>h.apart u a G row aw j J Q p,fun c _ B=>B a row J p⟩
 obtain⟨o,aA,l',am,W,ao,X,H,ap⟩:=lp (by_:=8) aD (x:=.ad 1 b 0 1 1 1) (xs:=[fS k]) (by simp[cD,ar,fS]) (by simp[fS]) F F (by simpa using ax);have az:bq o=false:=by
  cases au:bq o with
  | true=>have:=(ap.1 (go.1 au)).2;cases this
  | false=>rfl
 refine⟨o,l',fun x=>if x=a then aA else c3 x,am,⟨by simp[h.qZ],fun x w V K j=>?_,fun x y P al O t C z R=>?_⟩,ao,W.cells,fun c I B=>⟨X c I (fun e=>ai c I B e.symm),fun x P t z=>?_⟩⟩
 ·by_cases g:x=a
  ·subst g;rw[bT (by rw[h.qZ];exact Y)] at K;rw[bT Y] at j;obtain rfl:=cd K;obtain rfl:=cd j;simp only[if_true];refine⟨by rw[dk];exact W,by rw[az];simp,.inr ?_⟩;rcases H with e | e<;>omega
  ·rw[bp (Ne.symm g)] at K j;simp only[ak g];obtain⟨aC,aj,aG⟩:=h.own x w V K j;refine⟨?_,aj,aG⟩;by_cases p:V=[]
   ·subst p;have:=go.1 aj;subst this;exact .nil _
   ·exact aC.frame fun av=>X _ av (T x V g j p)
 ·by_cases g:x=a
  ·subst g;rw[bp O] at C;simp only[if_true,ak (Ne.symm O)];have:=h.lt C R;have:=T y al (Ne.symm O) C R;rcases H with e | e<;>omega
  ·rw[bp (Ne.symm g)] at t;simp only[ak g];by_cases S:y=a
   ·subst S;simp only[if_true];have:=h.lt t z;have:=T x P g t z;rcases H with e | e<;>omega
   ·rw[bp (Ne.symm S)] at C;simp only[ak S];exact h.apart x y P al O t C z R
 ·by_cases g:x=a
  ·subst g;simp only[if_true];have:=ai c I B;rcases H with e | e<;>omega
  ·rw[bp (Ne.symm g)] at t;simp only[ak g];exact B x P t z
def rz (idsZ:aN) (opsZ:List aM) (m q a k:Nat) :Nat:=if k<m then (dE opsZ k).count (bn idsZ a) else if k=m then ((dE opsZ m).take q).count (bn idsZ a) else 0
structure p4 (idsZ:aN) (opsZ:List aM) (m q:Nat) (g:List (List Nat)) :Prop where
 len:g.length=opsZ.length
 cnt:∀ (a:Nat) (row:List Nat),g[a]?=some row->∀ k,row.count k=rz idsZ opsZ m q a k
 wN:∀ (a:Nat) (row:List Nat),g[a]?=some row->row.length<=5*m+q
theorem TY (idsZ:aN) (opsZ:List aM) :p4 idsZ opsZ 0 0 (List.replicate opsZ.length []):=by
 refine⟨V,fun a row h k=>?_,fun a row h=>?_⟩
 ·have:=sQ (cz h);subst this;simp[rz]
 ·have:=sQ (cz h);subst this;simp
theorem TZ {idsZ:aN} {opsZ:List aM} (F:kG idsZ) (G:idsZ.length=opsZ.length) {m q a:Nat} {t:List (List Nat)} {row:List Nat} {p:List B} (h:p4 idsZ opsZ m q t) (H:(dE opsZ m)[q]?=some p) (u:idsZ[a]?=some p) (v:t[a]?=some row) :
  p4 idsZ opsZ m (q+1) (t.set a (row++[m])):=by
 have z:=(aH.1 v).1;have D:=(aH.1 u).1;have C:(dE opsZ m).take (q+1)=(dE opsZ m).take q++[p]:=by rw[eD,H];rfl
 refine⟨by simp[h.len],fun x w g k=>?_,fun x w g=>?_⟩
 ·by_cases o:x=a
  ·subst o;rw[bT z] at g;obtain rfl:=cd g;rw[uQ,h.cnt x row v k];unfold rz;by_cases h1:k<m
   ·rw[aj h1,aj h1,Ag];have:(m == k)=false:=by rw[beq_eq_false_iff_ne];omega
    simp[this]
   ·rw[ak h1,ak h1];by_cases j:k=m
    ·subst j;rw[aj rfl,aj rfl,C,uQ,dx u];simp
    ·rw[ak j,ak j,Ag];have:(m == k)=false:=by rw[beq_eq_false_iff_ne];omega
     simp[this]
  ·rw[bp (Ne.symm o)] at g;rw[h.cnt x w g k];unfold rz;by_cases h1:k<m
   ·rw[aj h1,aj h1]
   ·rw[ak h1,ak h1];by_cases j:k=m
    ·subst j;rw[aj rfl,aj rfl,C,uQ,Ag];have I:x<idsZ.length:=by rw[G,<-h.len];exact (aH.1 g).1
     have:(p == bn idsZ x)=false:=by
      rw[beq_eq_false_iff_ne];intro e;rw[<-dx u] at e;exact o (Fv F D I e).symm
     rw[this];simp
    ·rw[ak j,ak j]
 ·by_cases o:x=a
  ·subst o;rw[bT z] at g;obtain rfl:=cd g;have:=h.wN x row v;simp;omega
  ·rw[bp (Ne.symm o)] at g;have:=h.wN x w g;omega
theorem TX {idsZ:aN} {opsZ:List aM} {m:Nat} {vk:List (List Nat)} (h:p4 idsZ opsZ m (dE opsZ m).length vk) (p:(dE opsZ m).length<=4) :p4 idsZ opsZ (m+1) 0 vk:=by
 refine⟨h.len,fun a row g k=>?_,fun a row g=>by have:=h.wN a row g;omega⟩;rw[h.cnt a row g k];unfold rz;by_cases h1:k<m
 ·rw[aj h1,aj F]
 ·rw[ak h1];by_cases j:k=m
  ·subst j;rw[aj rfl,aj F,fl]
  ·rw[ak j,ak F];by_cases o:k=m+1
   ·rw[aj o];simp
   ·rw[ak o]
theorem TW {idsZ:aN} {opsZ:List aM} {vk:List (List Nat)} (h:p4 idsZ opsZ opsZ.length 0 vk) :Ay idsZ opsZ vk:=by
 refine⟨h.len,fun a row g k hk=>?_,fun a row g k hk=>?_⟩
 ·rw[h.cnt a row g k];unfold rz;rw[aj hk]
 ·have h1:0<row.count k:=List.count_pos_iff.2 hk;rw[h.cnt a row g k] at h1;unfold rz at h1;by_cases j:k<opsZ.length
  ·exact j
  ·rw[ak j] at h1;split at h1<;>simp at h1
def dF (opsZ:List aM) (m:Nat) :List Int:=(List.range opsZ.length).map fun k=>if k<m then ((dE opsZ k).length:Int) else 0
def g1 (opsZ:List aM) (m:Nat) :List Nat:=(List.range m).filter fun k=>(dE opsZ k).isEmpty
theorem L9 (opsZ:List aM) (m:Nat) :(dF opsZ m).length=opsZ.length:=by simp[dF]
theorem zY {opsZ:List aM} {m k:Nat} (h:k<opsZ.length) :(dF opsZ m)[k]?=some (if k<m then ((dE opsZ k).length:Int) else 0):=by unfold dF;rw[bX,g9 h];rfl
theorem Yc {opsZ:List aM} {m:Nat} (h:m<opsZ.length) :(dF opsZ m).set m ((dE opsZ m).length:Int)=dF opsZ (m+1):=by
 apply g7;intro j;by_cases g:j<opsZ.length
 ·rw[zY g,nC];by_cases o:m=j
  ·subst o;rw[aj rfl,aj (by rw[L9];exact g),aj F]
  ·rw[ak o,zY g];by_cases h1:j<m
   ·rw[aj h1,aj F]
   ·rw[ak h1,ak F]
 ·rw[dV (by simp[dF];omega),dV (by simp[dF];omega)]
theorem Yb (opsZ:List aM) :dF opsZ opsZ.length=(List.range opsZ.length).map fun k=>((dE opsZ k).length:Int):=by unfold dF;apply oD;intro k hk;rw[aj (gS.1 hk)]
theorem Yd (opsZ:List aM) :dF opsZ 0=List.replicate opsZ.length 0:=by
 apply g7;intro h;by_cases g:h<opsZ.length
 ·rw[zY g];simp[g]
 ·rw[dV (by simp[dF];omega),dV (by simp;omega)]
theorem JY (opsZ:List aM) (m:Nat) :g1 opsZ (m+1)=g1 opsZ m++(if (dE opsZ m).isEmpty then [m] else []):=by
 unfold g1;rw[sU,kB];congr 1;by_cases h:(dE opsZ m).isEmpty=true
 ·simp[h]
 ·simp[h]
def hc (n:Int) :U:=.i6 n
theorem KN {l:ag} {i:Nat} {x:U} (h:i<l.length) :aw l i [x]=l.set i x:=by have:=lT (fun c:U=>c) l i x h;simpa using this
def ci (g:aW) (h:List Int) (vs:ag) (rest:ae) :ae:=.q 2 [ai g.idsZ,bB g.opsZ] ::.q g.opsZ.l.length (h.map hc) ::.q g.opsZ.l.length vs::rest
theorem pG {l:ae} {a b c:am} (g:l[0]?=some a) (h1:l[1]?=some b) (h:l[2]?=some c) :∃ r,l=a::b::c::r:=by
 match l,g,h1,h with
 | j::m::o::r,g,h1,h=>
  simp at g h1 h;subst g h1 h;exact⟨r,rfl⟩
theorem tC {g:aW} {w w' : List Int} {vs j:ag} {r:ae}:∀ {b:Nat},3<=b->(ci g w vs r)[b]?=(ci g w' j r)[b]?
 | 0,h=>F
 | 1,h=>F
 | 2,h=>F
 | b+3,_=>rfl
theorem BQ {g:aW} {w:List Int} {vs:ag} {r x:ae} {b:Nat} (h:b<(ci g w vs r).length) :(ci g w vs (r++x))[b]?=(ci g w vs r)[b]?:=by show ((ci g w vs r)++x)[b]?=_;exact aS h
structure Nl (g:aW) (m q:Nat) (nx:U) (l:ae) :Prop where
 ex:∃ (vs:ag) (h:List (List Nat)) (c3:Nat->Nat) (fK:Nat) (rest:ae),l=ci g (dF g.opsZ.l m) vs rest/\iH l vs h c3/\p4 g.idsZ.l g.opsZ.l m q h/\aJ 1 l nx fK ((g1 g.opsZ.l m).map fS) ∧
  bq nx=(g1 g.opsZ.l m).isEmpty/\(g1 g.opsZ.l m=[]\/(3<=fK/\ln h c3 fK))
structure Nk (g:aW) (m q:Nat) (nx:U) (b:Nat) (j:ag) (l:ae) :Prop where
 ex:∃ (vs:ag) (h:List (List Nat)) (c3:Nat->Nat) (fK:Nat) (rest:ae),l=ci g (dF g.opsZ.l m) vs rest/\iH l vs h c3/\p4 g.idsZ.l g.opsZ.l m q h/\aJ 1 l nx fK ((g1 g.opsZ.l m).map fS) ∧
  bq nx=(g1 g.opsZ.l m).isEmpty/\(g1 g.opsZ.l m=[]\/(3<=fK/\ln h c3 fK))/\l[b]?=some (.q 11 j)/\3<=b/\ln h c3 b
theorem ua {g:List (List Nat)} {l:ae} {vs:ag} {c3:Nat->Nat} {c:Nat} (h:iH l vs g c3) (p:c<3) :ln g c3 c:=fun a row j o=>by
 have m:a<vs.length:=by rw[h.qZ];exact (aH.1 j).1
 have:=(h.own a vs[a] row (bC m) j).2.2.resolve_left o;omega
theorem wA {g:List (List Nat)} {l:ae} {vs:ag} {c3:Nat->Nat} {c:Nat} (h:iH l vs g c3) (o:l.length<=c) :ln g c3 c:=fun a row m j=>by
 have:=h.lt m j;omega
structure nN (g:aW) (vs:ag) (h:List (List Nat)) (c3:Nat->Nat) (W:List Int) (R:List Nat) (nx:U) (rest:ae) :Prop where
 ex:∃ fK,iH (ci g W vs rest) vs h c3/\aJ 1 (ci g W vs rest) nx fK (R.map fS)/\bq nx=R.isEmpty/\(R=[]\/(3<=fK/\ln h c3 fK))
theorem nN.setW {g:aW} {vs:ag} {j:List (List Nat)} {c3:Nat->Nat} {W u:List Int} {R:List Nat} {t:U} {rest:ae} (h:nN g vs j c3 W R t rest) :nN g vs j c3 u R t rest:=by
 obtain⟨fK,m,z,p,o⟩:=h;refine⟨⟨fK,m.frame fun b C ⟨a,B,h1,v,w⟩=>tC (xx fun h=>ua m h a B h1 v w),?_,p,o⟩⟩;by_cases q:R=[]
 ·subst q;rw[go.1 p];exact .nil _
 ·exact z.frame fun _=>tC (o.resolve_left q).1
theorem nN.push {g:aW} {vs:ag} {o:List (List Nat)} {c3:Nat->Nat} {W:List Int} {R:List Nat} {u:U} {rest:ae} (h:nN g vs o c3 W R u rest) (m:Nat) (Q:(R.length+1)*8<=db) :
  ∃ B iS,ep (ci g W vs (rest++[.q 1 [.i6 (m:Int)]])) 1 8 u (.ad 1 (rest.length+3) 0 1 1 1)=some (B,ci g W vs iS)/\nN g vs o c3 W (R++[m]) B iS:=by
 obtain⟨fK,p,J,K,z⟩:=h;obtain⟨h5,X,al,C⟩:∃ h5,aJ 1 (ci g W vs (rest++[.q 1 [.i6 (m:Int)]])) u h5 (R.map fS)/\3<=h5/\ln o c3 h5:=by
  by_cases t:R=[]
  ·subst t;rw[go.1 K];exact⟨(ci g W vs (rest++[.q 1 [.i6 (m:Int)]])).length,.nil _,by simp[ci],wA p (by simp[ci])⟩
  ·exact⟨fK,J.more _,(z.resolve_left t).1,(z.resolve_left t).2⟩
 obtain⟨v,T,V,D,G,Z,j,w,H⟩:=lp (by_:=8) X (x:=.ad 1 (rest.length+3) 0 1 1 1) (xs:=[fS m]) (by simp[cD,ci,fS]) (by simp[fS]) F F (by simpa using Q);have aj:(ci g W vs (rest++[.q 1 [.i6 (m:Int)]])).length=rest.length+4:=by simp[ci]
 have ak:(ci g W vs rest).length=rest.length+3:=by simp[ci]
 obtain⟨iS,rfl⟩:∃ r,V=ci g W vs r:=pG ((j 0 F F).trans rfl) ((j 1 F F).trans rfl) ((j 2 F F).trans rfl);have S:bq v=false:=by
  cases P:bq v with
  | true=>have:=(H.1 (go.1 P)).2;cases this
  | false=>rfl
 refine⟨v,iS,D,⟨⟨T,?_,?_,?_,.inr ⟨?_,?_⟩⟩⟩⟩
 ·exact p.frame fun b O ⟨a,Y,h1,I,ai⟩=>(j b F (fun e=>C a Y h1 I F)).trans (BQ O)
 ·rw[dk];exact G
 ·rw[S];simp
 ·rcases w with e | e<;>omega
 ·rcases w with e | e
  ·rw[e];exact C
  ·exact wA p F
theorem V5 (g:aW) (aM:e4 g) (bc:g.idsZ.l.length=g.opsZ.l.length) (eL:g.opsZ.l.length<=60) (bG:∀ o∈g.opsZ.l,o.ay.l.length<=4) :aV 275 [cE g] (.i6 (jl g.idsZ.l g.opsZ.l)):=by
 apply a8 func275 [];have bi:db=140737488355328:=rfl;have dN:=bV g.idsZ;have dP:=iM g.opsZ;have dM:=oY g;have ch:bt (.ad 11) (bB g.opsZ)=_:=ca _;have c4:bt (.ad 32) (ai g.idsZ)=some (.i6 g.opsZ.l.length):=by simp[ai,bc]
 simp[cE,bb];refine bw (g.opsZ.l.length - 1) (fun k p l=>l=[.q 2 [ai g.idsZ,bB g.opsZ]]/\p 1=.ptr 0 0 2/\p 3=.i6 ((k+1:Nat) :Int)/\∀ t,t<k+1->t<g.idsZ.l.length->1<=t->bD (bn g.idsZ.l (t - 1)) (bn g.idsZ.l t)<0) ?_ ⟨V,V,V,fun t h1 _ w=>F⟩;rintro k p l hk ⟨rfl,u,bE,cq⟩;obtain⟨p,rfl⟩:=jP u bE;clear u bE;obtain⟨m,c8⟩:=aq (k+1);rw[<-c8] at cq ⊢;by_cases c5:m<g.opsZ.l.length
 ·obtain⟨x,aE,di⟩:=aQ (l:=g.idsZ.l) (k:=k) F;obtain⟨y,dj,dn⟩:=aQ (l:=g.idsZ.l) (k:=m) F;have aL:IntKind.i64.wrap ((m:Int) - 1)=(k:Int):=by rw[IntKind.wrap_i64];omega
  have aY:=cl (k:=m) F;have dp:=dx aE;have dq:=dx dj;have c1:bF (.ad 32) (ai g.idsZ) _=_:=c6 aE;have c2:bF (.ad 32) (ai g.idsZ) _=_:=c6 dj;have aT:=br (aM.idsZ x di);have dm:=br (aM.idsZ y dn);have a5:=qg x y (aM.idsZ x di) (aM.idsZ y dn);unfold et at a5;change aV 162 [.ah (ao x),.ah (ao y)] _ at a5;have a6:=cP x;have cW:=cP y;obtain⟨X,b7⟩:=aq (ao x);obtain⟨eK,dH⟩:=aq (ao y);rw[<-b7] at c1 aT a5 a6;rw[<-dH] at c2 dm a5 cW;simp[c4,c5,aL,c1,c2,aT,dm,aI];refine av a5 (by simp[ar,U.ax,a6,cW]) ?_;by_cases cU:bD x y<0
  ·have b9:¬ (0<=bD x y):=F;simp[b9,aY];refine⟨F,fun t h1 w aA=>?_⟩;have aB:bD (bn g.idsZ.l (t - 1)) (bn g.idsZ.l t)<0:=by
    by_cases a9:t=m
    ·rw[a9,show m - 1=k by omega,dp,dq];exact cU
    ·exact cq t F w aA
   simpa [bn] using aB
  ·have b9:0<=bD x y:=F;simp[b9];refine aR (cm (U.int .i64) ?_) rfl;have ck:bQ g.idsZ.l=false:=Kc (k:=m) F F (by rw[show m - 1=k by omega,dp,dq];exact cU);unfold jl;rw[ck];rfl
 ·have aN:bQ g.idsZ.l=true:=um fun t h1 w=>cq t F h1 w
  have a9:=mq aN;obtain⟨cv,_⟩:=we (z:=1) (by_:=8) (n:=g.opsZ.l.length) (k:=.i64) (k':=.i64) (zero:=[U.i6 0]) (l:=[am.q 2 [ai g.idsZ,bB g.opsZ]]) rfl F (by rw[bi];omega);obtain⟨cw,_⟩:=we (z:=1) (by_:=24) (n:=g.opsZ.l.length) (k:=.i64) (k':=.i64) (zero:=[U.af]) (l:=[am.q 2 [ai g.idsZ,bB g.opsZ],am.q g.opsZ.l.length (List.replicate g.opsZ.l.length (U.i6 0))]) rfl F (by rw[bi];omega);simp only[nH,J4 (alZ:=Nat)] at cv cw;simp[c4,ch,c5,cv,cw];refine bw g.opsZ.l.length (fun m p l=>p 1=.ptr 0 0 2/\p 4=.ad 1 1 0 g.opsZ.l.length g.opsZ.l.length g.opsZ.l.length/\p 5=.ad 1 2 0 g.opsZ.l.length g.opsZ.l.length g.opsZ.l.length/\p 45=bB g.opsZ/\p 46=.i6 g.opsZ.l.length/\p 47=.i6 m ∧
   Nl g m 0 (p 6) l/\∀ i,i<m->hY g.idsZ.l (dE g.opsZ.l i)=true) ?_ ?_
  ·rintro m p l c8 ⟨u,G,D,a1,a2,a3,Z,cR⟩;obtain⟨az,I⟩:∃ v,p 6=v:=⟨_,rfl⟩
   rw[I] at Z;obtain⟨p,rfl⟩:=zQ u G D I a1 a2 a3;clear u G D I a1 a2 a3;by_cases aK:m<g.opsZ.l.length
   ·obtain⟨o,bZ,bd⟩:=aQ aK;have aL:=cl (k:=m) F;have cZ:bF (.ad 11) (bB g.opsZ) _=_:=c6 bZ;have eh:=aM.opsZ o bd;have eg:=bG o bd;have aD:dE g.opsZ.l m=o.ay.l:=lM bZ;have cj:bt (.ad 32) (ai o.ay)=_:=ca _;have bL:(au o).length=11:=rfl;have b4:∀ h:1<(au o).length,(au o)[1]'h=ai o.ay:=fun _=>rfl
    obtain⟨O,dz⟩:=aq (au o);rw[<-dz] at cZ bL b4;have ek:aw [U.int .u32 0,.af,.int .u64 0,.int .u8 0,.str [],.int .u8 0,.i6 0,.int .u64 0,.str [],.int .u32 0,.int .u32 0] 0 O=O:=cH (by rw[bL];rfl);simp[aK,cZ,bL,b4,cj,ek,aI];obtain⟨bz,bM⟩:=aq (l.length);rw[<-bM];refine bw o.ay.l.length (fun q p l=>p 1=.ptr 0 0 2/\p 4=.ad 1 1 0 g.opsZ.l.length g.opsZ.l.length g.opsZ.l.length/\p 5=.ad 1 2 0 g.opsZ.l.length g.opsZ.l.length g.opsZ.l.length/\p 6=az/\p 7=.i6 m/\p 8=.ptr bz 0 11/\p 45=bB g.opsZ/\p 46=.i6 g.opsZ.l.length/\p 47=.i6 m ∧
     p 53=ai o.ay/\p 54=.i6 o.ay.l.length/\p 55=.i6 q/\Nk g m q az bz O l/\∀ (t:Nat) (ag:List B),t<q->o.ay.l[t]?=some ag->ag∈g.idsZ.l) ?_ ?_
    ·rintro q p l eV ⟨u,G,D,I,cG,cI,a1,a2,a3,cB,cC,cF,dy,dd⟩;obtain⟨p,rfl⟩:=Xn u G D I cG cI a1 a2 a3 cB cC cF;clear u G D I cG cI a1 a2 a3 cB cC cF;obtain⟨j,H,c3,fK,rest,rfl,Q,K,Y,P,ae,aG,cT,dL⟩:=dy;by_cases bh:q<o.ay.l.length
     ·obtain⟨ag,bf,dc⟩:=aQ bh;have aY:=cl (k:=q) F;have c0:bF (.ad 32) (ai o.ay) _=_:=c6 bf;have da:=eh.idsZ ag dc;have aT:=br da;have a6:=cP ag;have cb:=Qa g aM aN ag da;unfold cE bb at cb dM;obtain⟨X,b7⟩:=aq (ao ag);rw[<-b7] at c0 aT a6 cb;have en:aw (bO 32 (.int .u8 0)) 0 X=X:=cH (by rw[aT];rfl);simp[ci,bh,c0,aT,en,aI];refine av cb (by simp[ar,U.ax,a6,dN,dP]) ?_;by_cases bg:ag∈g.idsZ.l
      ·obtain⟨S,b8⟩:=cc.1 bg;have dO:=A9 aN b8;have eO:=(aH.1 b8).1;have eP:S<g.opsZ.l.length:=F;have dh:j.length=g.opsZ.l.length:=by rw[Q.qZ,K.len]
       obtain⟨bp,aP,_⟩:=aQ (l:=j) (k:=S) F;obtain⟨row,ap,_⟩:=aQ (l:=H) (k:=S) (by rw[K.len];omega);obtain⟨ds,aC⟩:=aq (ci g (dF g.opsZ.l m) j (rest++[.q 32 X,.q 1 [.i6 (m:Int)]]));have bI:iH ds j H c3:=by rw[aC];exact Q.more _
       have eT:ds.length=rest.length+5:=by rw[aC];simp[ci]
       have dg:=K.wN S row ap;obtain⟨iD,ct,dr,u,bA,bE,G,D⟩:=bI.app (b:=rest.length+4) (k:=m) aP ap (by rw[aC];simp[ci]) F (by rw[bi];omega);have eG:=D 0 F (ua bI F);have q1:=D 1 F (ua bI F);have eH:=D 2 F (ua bI F);obtain⟨aU,rfl⟩:∃ r,ct=ci g (dF g.opsZ.l m) j r:=pG (eG.1.trans (by rw[aC];rfl)) (q1.1.trans (by rw[aC];rfl)) (eH.1.trans (by rw[aC];rfl));have bS:bF (.ad 1) (.ad 1 2 0 g.opsZ.l.length g.opsZ.l.length g.opsZ.l.length) (.i6 (S:Int))=some (.ptr 2 S g.opsZ.l.length):=by
        simp only[bF];rw[aj ⟨trivial,F,F⟩];simp
       rw[aC] at u;unfold ci at u;simp[bg,dO,bS,aP,u];refine bY.bo ?_;have ep:aw j S [iD]=j.set S iD:=KN F;simp[G,bS,ep];have ce:∀ c,3<=c->c<(ci g (dF g.opsZ.l m) j rest).length->ln H c3 c->(ci g (dF g.opsZ.l m) (j.set S iD) aU)[c]?=(ci g (dF g.opsZ.l m) j rest)[c]?/\ln (H.set S (row++[m])) dr c:=by
        intro c aA cV bZ;obtain⟨ex,ey⟩:=D c (by simp[ci] at cV;omega) bZ;exact⟨(tC aA).trans (ex.trans (by rw[aC];exact BQ cV)),ey⟩
       have cf:g1 g.opsZ.l m≠[]->fK<(ci g (dF g.opsZ.l m) j rest).length:=fun J=>by
        rcases Y.lt with h | h
        ·rw[h] at P;cases bH:g1 g.opsZ.l m with
         | nil=>exact bK bH J
         | cons=>rw[bH] at P;cases P
        ·exact h
       have dK:=(aH.1 aG).1;obtain⟨f1,f2⟩:=ce bz cT dK dL;refine⟨F,bh,by rw[IntKind.wrap_i64];omega,⟨⟨j.set S iD,H.set S (row++[m]),dr,fK,aU,rfl,?_,TZ a9 bc K (by rw[aD];exact bf) b8 ap,?_,P,?_,f1.trans aG,cT,f2⟩⟩,fun t eC aB cn=>?_⟩
       ·exact bA.frame fun b aG ⟨a,bm,h1,w,aA⟩=>by
         have bG:3<=b:=xx fun h=>ua bA h a bm h1 w aA
         exact tC bG
       ·by_cases J:g1 g.opsZ.l m=[]
        ·rw[J] at P Y ⊢;rw[go.1 P];exact .nil _
        ·obtain⟨h1,w⟩:=ae.resolve_left J;exact Y.frame fun h=>(ce fK h1 (cf J) w).1
       ·by_cases J:g1 g.opsZ.l m=[]
        ·exact .inl J
        ·obtain⟨h1,w⟩:=ae.resolve_left J;exact .inr ⟨h1,(ce fK h1 (cf J) w).2⟩
       ·by_cases dW:t=q
        ·subst dW;rw[bf] at cn;obtain rfl:=cd cn;exact bg
        ·exact dd t eC F cn
      ·simp[bg];refine aR (cm (U.int .i64) ?_) rfl;have ck:¬ pr g.idsZ.l g.opsZ.l=true:=fun h=>by
        have:=io h o bd;exact bg (io this ag dc)
       unfold jl;rw[aj aN,ak ck]
     ·have de:q=o.ay.l.length:=F;rw[de] at K;rw[<-aD] at K;have cM:=TX K (by rw[aD];exact eg);have dh:j.length=g.opsZ.l.length:=by rw[Q.qZ,K.len]
      have df:fM (ci g (dF g.opsZ.l m) j rest) (.ptr bz 1 11)=some (O,1):=by simp only[fM,aG];rfl
      have a7:bF (.ad 1) (.ad 1 1 0 g.opsZ.l.length g.opsZ.l.length g.opsZ.l.length) (.i6 (m:Int))=some (.ptr 1 m g.opsZ.l.length):=by
       simp only[bF];rw[aj ⟨trivial,F,F⟩];simp
      have cr:jm 1 (ci g (dF g.opsZ.l m) j rest) (.ptr 1 m g.opsZ.l.length) (.i6 o.ay.l.length)=some (ci g (dF g.opsZ.l (m+1)) j rest):=by
       have h1:(ci g (dF g.opsZ.l m) j rest)[1]?=some (.q g.opsZ.l.length ((dF g.opsZ.l m).map hc)):=rfl;simp only[jm,U.cells,h1];rw[aj (by simp;omega)];have w:aw ((dF g.opsZ.l m).map hc) m [U.i6 o.ay.l.length]=(dF g.opsZ.l (m+1)).map hc:=by
        rw[<-Yc aK,aD];exact lT hc (dF g.opsZ.l m) m _ (by rw[L9];exact aK)
       rw[w];rfl
      have bk:fM (ci g (dF g.opsZ.l (m+1)) j rest) (.ptr 1 m g.opsZ.l.length)=some ((dF g.opsZ.l (m+1)).map hc,m):=by
       have h1:(ci g (dF g.opsZ.l (m+1)) j rest)[1]?=some (.q g.opsZ.l.length ((dF g.opsZ.l (m+1)).map hc)):=rfl;simp only[fM,h1];simp
      have bP:((dF g.opsZ.l (m+1)).map hc)[m]?=some (.i6 o.ay.l.length):=by
       rw[bX,zY aK,aj F,aD];rfl
      have eR:∀ h:m<((dF g.opsZ.l (m+1)).map hc).length,((dF g.opsZ.l (m+1)).map hc)[m]'h=.i6 o.ay.l.length:=fun h=>(aH.1 bP).2
      have cL:O[1]?=some (ai o.ay):=by rw[bC (by rw[bL];omega),b4]
      have bJ:iH (ci g (dF g.opsZ.l (m+1)) j rest) j H c3:=Q.frame fun b aG ⟨a,bm,h1,w,aA⟩=>tC (xx fun h=>ua Q h a bm h1 w aA)
      have cN:aJ 1 (ci g (dF g.opsZ.l (m+1)) j rest) az fK ((g1 g.opsZ.l m).map fS):=by
       by_cases J:g1 g.opsZ.l m=[]
       ·rw[J] at P ⊢;rw[go.1 P];exact .nil _
       ·exact Y.frame fun _=>tC (ae.resolve_left J).1
      have cS:∀ i,i<m+1->hY g.idsZ.l (dE g.opsZ.l i)=true:=fun i eS=>by
       by_cases dU:i=m
       ·subst dU;rw[aD];refine bW fun ag bf=>?_
        obtain⟨t,aB⟩:=cc.1 bf;exact dd t ag (by rw[de];exact (aH.1 aB).1) aB
       ·exact cR i F
      by_cases R:o.ay.l.length=0
      ·have dZ:bt (.ad 32) (ai o.ay)=some (.i6 0):=by rw[cj,R];rfl
       have eo:jm 1 (ci g (dF g.opsZ.l m) j rest) (.ptr 1 m g.opsZ.l.length) (.i6 0)=some (ci g (dF g.opsZ.l (m+1)) j rest):=by rw[R] at cr;exact cr
       have dR:((dF g.opsZ.l (m+1)).map hc)[m]?=some (.i6 0):=by rw[R] at bP;exact bP
       have aO:g1 g.opsZ.l (m+1)=g1 g.opsZ.l m++[m]:=by
        rw[JY,aD,il.1 R];rfl
       obtain⟨h5,ez,eJ,bs⟩:∃ h5,aJ 1 (ci g (dF g.opsZ.l (m+1)) j (rest++[.q 1 [.i6 (m:Int)]])) az h5 ((g1 g.opsZ.l m).map fS)/\3<=h5/\ln H c3 h5:=by
        by_cases J:g1 g.opsZ.l m=[]
        ·rw[J] at P ⊢;rw[go.1 P];exact⟨(ci g (dF g.opsZ.l (m+1)) j (rest++[.q 1 [.i6 (m:Int)]])).length,.nil _,by simp[ci],wA bJ (by simp[ci])⟩
        ·exact⟨fK,cN.more _,(ae.resolve_left J).1,(ae.resolve_left J).2⟩
       have dg:(g1 g.opsZ.l m).length<=m:=by
        have:=hG (fun k=>(dE g.opsZ.l k).isEmpty) (List.range m);simpa [g1] using this
       obtain⟨dt,ev,ct,u,bA,bE,G,D,I⟩:=lp (by_:=8) ez (x:=.ad 1 (rest.length+3) 0 1 1 1) (xs:=[fS m]) (by simp[cD,ci,fS]) (by simp[fS]) F F (by rw[bi];simp;omega);have eU:(ci g (dF g.opsZ.l (m+1)) j (rest++[.q 1 [.i6 (m:Int)]])).length=rest.length+4:=by simp[ci]
       obtain⟨aU,rfl⟩:∃ r,ct=ci g (dF g.opsZ.l (m+1)) j r:=pG ((G 0 F F).trans rfl) ((G 1 F F).trans rfl) ((G 2 F F).trans rfl);have cp:ci g (dF g.opsZ.l (m+1)) j rest++[am.q 1 [.i6 (m:Int)]]=ci g (dF g.opsZ.l (m+1)) j (rest++[.q 1 [.i6 (m:Int)]]):=rfl;have cg:(ci g (dF g.opsZ.l (m+1)) j rest).length=rest.length+3:=by simp[ci]
       simp[bh,df,cL,dZ,a7,eo,bk,dR,cp,cg,u];refine bY.bo ?_;simp;have es:bq dt=false:=by
        cases dT:bq dt with
        | true=>have:=(I.1 (go.1 dT)).2;cases this
        | false=>rfl
       refine⟨aK,by rw[IntKind.wrap_i64];omega,⟨⟨j,H,c3,ev,aU,rfl,?_,cM,?_,?_,.inr ⟨?_,?_⟩⟩⟩,cS⟩
       ·exact bJ.frame fun b aG ⟨a,bm,h1,w,aA⟩=>(G b F (fun e=>bs a bm h1 w F)).trans (BQ aG)
       ·rw[aO,dk];exact bA
       ·rw[es,aO];simp
       ·rcases D with e | e<;>omega
       ·rcases D with e | e
        ·rw[e];exact bs
        ·exact wA bJ F
      ·have aO:g1 g.opsZ.l (m+1)=g1 g.opsZ.l m:=by
        rw[JY,aD];have:o.ay.l.isEmpty=false:=by cases bH:o.ay.l with | nil=>rw[bH] at R;exact bK rfl R | cons=>rfl
        rw[this];simp
       simp[bh,df,cL,cj,a7,cr,bk,bP,R];exact⟨aK,by rw[IntKind.wrap_i64];omega,⟨⟨j,H,c3,fK,rest,rfl,bJ,cM,by rw[aO];exact cN,by rw[aO];exact P,by rw[aO];exact ae⟩⟩,cS⟩
    ·simp;obtain⟨j,H,c3,fK,rest,rfl,Q,K,Y,P,ae⟩:=Z;refine⟨⟨j,H,c3,fK,rest++[.q 11 O],rfl,Q.more _,K,Y.more _,P,ae,by rw[bM,ej (aF _)];simp,by rw[bM];simp[ci],wA Q (by rw[bM];exact aF _)⟩⟩
   ·have ea:m=g.opsZ.l.length:=F;subst ea;obtain⟨j,H,c3,ew,Vj,rfl,cK,K,dA,dC,dB⟩:=Z;have b3:=TW K;have dh:j.length=g.opsZ.l.length:=by rw[cK.qZ,K.len]
    have c9:pr g.idsZ.l g.opsZ.l=true:=bW fun o bd=>by
     obtain⟨t,aB⟩:=cc.1 bd;have:=cR t (aH.1 aB).1
     rwa [lM aB] at this
    have cJ:=RF (idsZ:=g.idsZ.l) (opsZ:=g.opsZ.l) bc;rw[<-Yb] at cJ;have dD:nN g j H c3 (dF g.opsZ.l g.opsZ.l.length) (g1 g.opsZ.l g.opsZ.l.length) az Vj:=⟨⟨ew,cK,dA,dC,dB⟩⟩
    simp;refine bw g.opsZ.l.length (fun d p l=>p 1=.ptr 0 0 2/\p 4=.ad 1 1 0 g.opsZ.l.length g.opsZ.l.length g.opsZ.l.length/\p 5=.ad 1 2 0 g.opsZ.l.length g.opsZ.l.length g.opsZ.l.length/\p 13=.i6 d ∧
     ∃ W C rest,l=ci g W j rest/\nN g j H c3 W C (p 6) rest/\nK g.idsZ.l g.opsZ.l [] d 0 C W) ?_ ?_
    ·rintro d p l eQ ⟨u,G,D,a0,W,C,rest,rfl,Z,T⟩;obtain⟨az,I⟩:∃ v,p 6=v:=⟨_,rfl⟩
     rw[I] at Z;obtain⟨p,rfl⟩:=gk u G D I a0;clear u G D I a0;have b5:bt (.ad 1) az=some (.i6 C.length):=by obtain⟨fK,_,Y,_⟩:=Z;have:=Y.len;simpa using this
     have P:C.length<=g.opsZ.l.length:=by
      have:=pD (b:=List.range g.opsZ.l.length) T.kZ fun x aE=>gS.2 (T.lA x aE).1
      simpa using this
     by_cases cX:d<C.length
     ·obtain⟨a,al,dI⟩:=aQ cX;have dJ:=(T.lA a dI).1;have aL:=cl (k:=d) F;obtain⟨row,ap,_⟩:=aQ (l:=H) (k:=a) (by rw[K.len];exact dJ);obtain⟨bp,aP,_⟩:=aQ (l:=j) (k:=a) F;obtain⟨fK,Q,Y,cO,ae⟩:=Z;obtain⟨eF,dv,eI,bu,bv,du,b2⟩:=Y.q.get (k:=.i64) (i:=d) (e:=fS a) (by rw[bX,al];rfl);have bx:=one_cell (c:=.i6 (a:Int)) b2;have bS:bF (.ad 1) (.ad 1 2 0 g.opsZ.l.length g.opsZ.l.length g.opsZ.l.length) (.i6 (a:Int))=some (.ptr 2 a g.opsZ.l.length):=by
       simp only[bF];rw[aj ⟨trivial,F,F⟩];simp
      have bl:∀ b1 cu,fM (ci g b1 j cu) (.ptr 2 a g.opsZ.l.length)=some (j,a):=fun b1 cu=>by
       have h1:(ci g b1 j cu)[2]?=some (.q g.opsZ.l.length j):=rfl;simp only[fM,h1];simp
      have cs:=(Q.own a bp row aP ap).1;have eu:bt (.ad 1) bp=some (.i6 row.length):=by have:=cs.len;simpa using this
      have dg:=K.wN a row ap;simp[b5,cX,bu,bv,bx,bS,bl,aP,eu];refine bw row.length (fun t p l=>p 1=.ptr 0 0 2/\p 4=.ad 1 1 0 g.opsZ.l.length g.opsZ.l.length g.opsZ.l.length/\p 5=.ad 1 2 0 g.opsZ.l.length g.opsZ.l.length g.opsZ.l.length/\p 13=.i6 d/\p 106=bp/\p 107=.i6 row.length/\p 108=.i6 t ∧
       ∃ W C rest,l=ci g W j rest/\nN g j H c3 W C (p 6) rest/\nK g.idsZ.l g.opsZ.l row d t C W/\C[d]?=some a) ?_ ?_
      ·rintro t p l cf ⟨u,G,D,a0,cx,cy,cA,W,C,rest,rfl,Z,T,al⟩;obtain⟨az,I⟩:∃ v,p 6=v:=⟨_,rfl⟩
       rw[I] at Z;obtain⟨p,rfl⟩:=zR u G D I a0 cx cy cA;clear u G D I a0 cx cy cA;by_cases bU:t<row.length
       ·obtain⟨k,hk,dX⟩:=aQ bU;have dY:=b3.lt a row ap k dX;obtain⟨x,aE,eW,eX,a4⟩:=RG bc a9 b3 T al ap hk;have eY:(dE g.opsZ.l k).length<=4:=by
         obtain⟨eA,ed,ef⟩:=aQ dY;rw[lM ed];exact bG eA ef
        have aL:=cl (k:=t) F;have aY:IntKind.i64.wrap (x - 1)=x - 1:=by rw[IntKind.wrap_i64];omega
        obtain⟨fK,Q,Y,cO,ae⟩:=id Z;have cs:=(Q.own a bp row aP ap).1;obtain⟨eF,dv,eI,bu,bv,du,b2⟩:=cs.q.get (k:=.i64) (i:=t) (e:=fS k) (by rw[bX,hk];rfl);have bx:=one_cell (c:=.i6 (k:Int)) b2;have a7:bF (.ad 1) (.ad 1 1 0 g.opsZ.l.length g.opsZ.l.length g.opsZ.l.length) (.i6 (k:Int))=some (.ptr 1 k g.opsZ.l.length):=by
         simp only[bF];rw[aj ⟨trivial,F,F⟩];simp
        have eN:=T.wl;have bk:fM (ci g W j rest) (.ptr 1 k g.opsZ.l.length)=some (W.map hc,k):=by
         have h1:(ci g W j rest)[1]?=some (.q g.opsZ.l.length (W.map hc)):=rfl;simp only[fM,h1];simp
        have cY:(W.map hc)[k]?=some (.i6 x):=by rw[bX,aE];rfl
        have b0:jm 1 (ci g W j rest) (.ptr 1 k g.opsZ.l.length) (.i6 (x - 1))=some (ci g (W.set k (x - 1)) j rest):=by
         have h1:(ci g W j rest)[1]?=some (.q g.opsZ.l.length (W.map hc)):=rfl;simp only[jm,U.cells,h1];rw[aj (by simp;omega)];have w:aw (W.map hc) k [U.i6 (x - 1)]=(W.set k (x - 1)).map hc:=lT hc W k _ F;rw[w];rfl
        have bl:fM (ci g (W.set k (x - 1)) j rest) (.ptr 1 k g.opsZ.l.length)=some ((W.set k (x - 1)).map hc,k):=by
         have h1:(ci g (W.set k (x - 1)) j rest)[1]?=some (.q g.opsZ.l.length ((W.set k (x - 1)).map hc)):=rfl;simp only[fM,h1];simp
        have bN:((W.set k (x - 1)).map hc)[k]?=some (.i6 (x - 1)):=by rw[bX,bT F];rfl
        have b6:nN g j H c3 (W.set k (x - 1)) C az rest:=Z.setW;obtain⟨aX,dG⟩:=aq (W.set k (x - 1));rw[<-dG] at b0 bl bN b6 a4;by_cases R:x - 1=0
        ·rw[aj R] at a4;have dw:IntKind.i64.wrap (x - 1)=0:=by rw[aY];exact R
         rw[R] at b0 bN;have eM:C.length<=g.opsZ.l.length:=by
          have:=pD (b:=List.range g.opsZ.l.length) T.kZ fun x aE=>gS.2 (T.lA x aE).1
          simpa using this
         obtain⟨iD,aU,eD,eE⟩:=b6.push k (by rw[bi];omega);have cp:ci g aX j rest++[am.q 1 [.i6 (k:Int)]]=ci g aX j (rest++[.q 1 [.i6 (k:Int)]]):=rfl;have cg:(ci g aX j rest).length=rest.length+3:=by simp[ci]
         simp[bU,bu,bv,bx,a7,bk,cY,dw,b0,bl,bN,cp,cg,eD];refine bY.bo ?_;simp[bU,aL];exact⟨aX,C++[k],aU,rfl,eE,a4,by rw[aS (aH.1 al).1];exact al⟩
        ·rw[ak R] at a4;simp[bU,bu,bv,bx,a7,bk,cY,aY,b0,bl,bN,R,aL];exact⟨aX,C,rest,rfl,b6,a4,al⟩
       ·have dV:t=row.length:=F;subst dV;simp;exact⟨F,by rw[IntKind.wrap_i64];omega,W,C,rest,rfl,Z,RD b3 T al ap⟩
      ·simp;exact⟨W,C,rest,rfl,⟨⟨fK,Q,Y,cO,ae⟩⟩,RE T,al⟩
     ·have dQ:d=C.length:=by have:=T.dl;omega
      subst dQ;obtain⟨eJ,bs⟩:=RC bc a9 T;by_cases c7:C.length<g.opsZ.l.length
      ·simp[b5,ci,ch,c7];refine aR (cm (U.int .i64) ?_) rfl;unfold jl;rw[aj aN,aj c9,ak (fun h=>by have:=bs.2 h;omega)]
      ·simp[b5,ci,ch,c7];refine aR (cm (U.int .i64) ?_) rfl;unfold jl;rw[aj aN,aj c9,aj (bs.1 F)]
    ·simp;exact⟨_,_,_,rfl,dD,cJ⟩
  ·simp;refine⟨⟨List.replicate g.opsZ.l.length .af,List.replicate g.opsZ.l.length [],fun _=>0,0,[],?_,⟨V,fun a v row er ei=>?_,fun a b eZ e0 _ al _ ec _=>?_⟩,TY _ _,.nil _,rfl,.inl rfl⟩⟩
   ·unfold ci;rw[Yd,xr];rfl
   ·have h1:=sQ (cz er);have w:=sQ (cz ei);subst h1 w;exact⟨.nil _,rfl,.inl rfl⟩
   ·exact bK (sQ (cz al)) ec
theorem LQ (g:aW) (o:e4 g) :aV 252 [cE g] (.i6 (e5 g)):=by
 apply a8 func252 [];have aX:=bV g.idsZ;have aY:=iM g.opsZ;have az:=oY g;have X:bt (.ad 11) (bB g.opsZ)=_:=ca _;have aB:bt (.ad 32) (ai g.idsZ)=_:=ca _;have a1:=o.jE;by_cases Q:60<(g.opsZ.l.length:Int)
 ·simp[cE,bb,X,Q];refine aR (cm (U.int .i64) ?_) rfl;unfold e5;rw[aj F]
 by_cases G:g.idsZ.l.length=g.opsZ.l.length
 ·have W:(g.idsZ.l.length:Int)=(g.opsZ.l.length:Int):=F;simp[cE,bb,X,aB,Q,W];refine bw g.opsZ.l.length (fun k p l=>(∃ rest,l=.q 2 [ai g.idsZ,bB g.opsZ] ::rest)/\p 1=.ptr 0 0 2/\p 19=bB g.opsZ/\p 20=.i6 g.opsZ.l.length/\p 21=.i6 k/\∀ m,m<k->jB g m=true) ?_ V;rintro k p l hk ⟨⟨rest,rfl⟩,ae,ag,al,am,aD⟩;obtain⟨p,rfl⟩:=e2 ae ag al am;clear ae ag al am;by_cases w:k<g.opsZ.l.length
  ·obtain⟨j,aC,J⟩:=aQ w;obtain⟨x,P,aJ⟩:=aQ (l:=g.idsZ.l) (k:=k) F;have B:=vL aC P;have aK:=cl (k:=k) F;have aA:bF (.ad 11) (bB g.opsZ) _=_:=c6 aC;have T:bF (.ad 32) (ai g.idsZ) _=_:=c6 P;have aG:=xa j (o.opsZ j J);have C:=uG j (o.opsZ j J);change aV 97 [.ah (au j)] (.aZ [.ah (ao (bJ j)),.i6 (c4 j)]) at C;have S:=dN j;have Z:=br (o.idsZ x aJ);have t:=br (pb j);have H:(au j).length=11:=rfl;have heq:=qq (pb j) (o.idsZ x aJ);have R:¬ jB g k=true->e5 g=8:=fun h=>by
    unfold e5;rw[ak F,aj G,ak fun aP=>h ((rM g).1 aP k w)]
   obtain⟨O,aN⟩:=aq (au j);obtain⟨aU,aO⟩:=aq (ao x);obtain⟨I,aM⟩:=aq (ao (bJ j));rw[<-aN] at aA aG C S H;rw[<-aO] at T Z heq;rw[<-aM] at C heq t;have aT:aw [U.int .u32 0,.af,.int .u64 0,.int .u8 0,.str [],.int .u8 0,.i6 0,.int .u64 0,.str [],.int .u32 0,.int .u32 0] 0 O=O:=cH (by rw[H];rfl);have Y:aw (bO 32 (.int .u8 0)) 0 I=I:=cH (by rw[t];rfl);simp[w,aA,H,aT,aI];refine av C (by simp[ar,U.ax,S]) ?_;by_cases z:c4 j=0
   ·by_cases D:bJ j=x
    ·simp[z,t,Y,T,Z,heq,D,H,aI];refine av aG (by simp[ar,U.ax,S]) ?_;by_cases K:fk j=0
     ·simp[K,w,aK];intro m v;by_cases aS:m=k
      ·subst aS;rw[B];simp[K,D]
      ·exact aD m F
     ·have u:¬ jB g k=true:=fun h=>by rw[B] at h;simp[K] at h
      simp[K];exact aR (cm (U.int .i64) (R u).symm) rfl
    ·have u:¬ jB g k=true:=fun h=>by rw[B] at h;simp[D] at h
     simp[z,t,Y,T,Z,heq,D,aI];exact aR (cm (U.int .i64) (R u).symm) rfl
   ·have u:¬ jB g k=true:=fun h=>by
     rw[B,bN,bI] at h;exact z (uF h.1)
    simp[z,t,Y];exact aR (cm (U.int .i64) (R u).symm) rfl
  ·have a0:k=g.opsZ.l.length:=F;have ap:rL g=true:=(rM g).2 fun m v=>aD m F
   have aL:∀ j∈g.opsZ.l,j.ay.l.length<=4:=fun j J=>by
    obtain⟨m,v⟩:=cc.1 J;obtain⟨x,P,_⟩:=aQ (l:=g.idsZ.l) (k:=m) (by have:=(aH.1 v).1;omega);have h1:=(rM g).1 ap m (aH.1 v).1;rw[vL v P,bN,bI] at h1;exact pq (uF h1.1)
   have aE:=V5 g o G F aL;unfold cE bb at aE az;simp[w];refine av aE (by simp[ar,az]) ?_;simp;refine aR (cm (U.int .i64) ?_) rfl;unfold e5;rw[ak F,aj G,aj ap]
 ·have W:¬ (g.idsZ.l.length:Int)=(g.opsZ.l.length:Int):=F;simp[cE,bb,X,aB,Q,W];refine aR (cm (U.int .i64) ?_) rfl;unfold e5;rw[ak F,ak G]
def o9 (o:aM) :Bool:=decide (20<o.ay.l.length)||(decide (100<o.act.key.length)||decide (100<o.act.val.text.length))
theorem Ur (o:aM) :aV 72 [.ah (au o)] (.bool (o9 o)):=by
 apply a8 func72 [];unfold o9;have m:bt (.ad 32) (ai o.ay)=_:=ca _;by_cases h1:20<o.ay.l.length
 ·have g:(20:Int)<(o.ay.l.length:Int):=F;simp[au,m,h1,g];exact aG
 ·have g:¬ (20:Int)<(o.ay.l.length:Int):=F;by_cases p:100<o.act.key.length
  ·have h:(100:Int)<(o.act.key.length:Int):=F;simp[au,m,h1,g,p,h];exact aG
  ·have h:¬ (100:Int)<(o.act.key.length:Int):=F;simp[au,m,h1,g,p,h];refine aR (cm U.bool ?_) rfl;by_cases q:100<o.act.val.text.length
   ·have j:(100:Int)<(o.act.val.text.length:Int):=F;simp[q,j]
   ·have j:¬ (100:Int)<(o.act.val.text.length:Int):=F;simp[q,j]
def o8 (g:aW) :Bool:=decide (∃ h∈g.opsZ.l.take 71,o9 h=true)||(decide (16<g.opsZ.l.length/\g.opsZ.l.length<=60)||(decide (70<g.opsZ.l.length)||decide (70<g.idsZ.l.length)))
theorem Uq (g:aW) :aV 28 [cE g] (.bool (o8 g)):=by
 apply a8 func28 [];have v:bt (.ad 11) (bB g.opsZ)=_:=ca _;have T:bt (.ad 32) (ai g.idsZ)=_:=ca _;simp[cE,bb];refine bw (min g.opsZ.l.length 71) (fun k G l=>l=[.q 2 [ai g.idsZ,bB g.opsZ]]/\G 1=.ptr 0 0 2/\G 3=.i6 k/\∀ (m:Nat) (h:aM),m<k->g.opsZ.l[m]?=some h->o9 h=false) ?_ V;rintro k G l hk ⟨rfl,P,Q,O⟩;obtain⟨G,rfl⟩:=jP P Q;clear P Q;by_cases p:k<g.opsZ.l.length
 ·by_cases am:k<=70
  ·obtain⟨h,J,D⟩:=aQ p;have Z:=cl (k:=k) F;have S:bF (.ad 11) (bB g.opsZ) _=_:=c6 J;have Y:=Ur h;have R:=dN h;have X:(au h).length=11:=rfl;have I:(k:Int)<=70:=F;have ao:k<min g.opsZ.l.length 71:=F;obtain⟨al,ae⟩:=aq (au h);rw[<-ae] at S Y R X;simp[v,p,I,S,X,aI];refine av Y (by simp[ar,U.ax,R]) ?_;by_cases j:o9 h=true
   ·simp[j];refine aR (cm U.bool ?_) rfl;unfold o8;rw[bW ⟨h,cz (i:=k) (by rw[dG F];exact J),j⟩];rfl
   ·rw[xj] at j;simp[j,Z];refine⟨F,fun m ak o K=>?_⟩;by_cases aj:m=k
    ·subst aj;rw[J] at K;obtain rfl:=cd K;exact j
    ·exact O m ak F K
  ·have I:¬ (k:Int)<=70:=F;have W:¬ ∃ h∈g.opsZ.l.take 71,o9 h=true:=fun ⟨h,D,j⟩=>by
    obtain⟨m,o⟩:=cc.1 D;have H:=(aH.1 o).1;rw[cI] at H;rw[dG F] at o;rw[O m h F o] at j;cases j
   have t:(16:Int)<(g.opsZ.l.length:Int):=F;have z:¬ (g.opsZ.l.length:Int)<=60:=F;have u:(70:Int)<(g.opsZ.l.length:Int):=F;simp[v,p,I,t,z,u];refine aR (cm U.bool ?_) rfl;unfold o8;simp[show 70<g.opsZ.l.length by omega]
 ·have W:¬ ∃ h∈g.opsZ.l.take 71,o9 h=true:=fun ⟨h,D,j⟩=>by
   obtain⟨m,o⟩:=cc.1 D;have H:=(aH.1 o).1;rw[cI] at H;rw[dG F] at o;rw[O m h F o] at j;cases j
  have ag:o8 g=(decide (16<g.opsZ.l.length/\g.opsZ.l.length<=60)||(decide (70<g.opsZ.l.length)||decide (70<g.idsZ.l.length))):=by
   unfold o8;rw[cp W];rfl
  rw[ag];have d1:decide ((16:Int)<(g.opsZ.l.length:Int))=decide (16<g.opsZ.l.length):=by rw[decide_eq_decide];omega
  have d2:decide ((g.opsZ.l.length:Int)<=60)=decide (g.opsZ.l.length<=60):=by rw[decide_eq_decide];omega
  have d3:decide ((70:Int)<(g.opsZ.l.length:Int))=decide (70<g.opsZ.l.length):=by rw[decide_eq_decide];omega
  have d4:decide ((70:Int)<(g.idsZ.l.length:Int))=decide (70<g.idsZ.l.length):=by rw[decide_eq_decide];omega
  by_cases t:16<g.opsZ.l.length
  ·have w:(16:Int)<(g.opsZ.l.length:Int):=F;by_cases z:g.opsZ.l.length<=60
   ·have C:(g.opsZ.l.length:Int)<=60:=F;simp[v,p,t,w,z,C];exact aG
   ·have C:¬ (g.opsZ.l.length:Int)<=60:=F;by_cases u:70<g.opsZ.l.length
    ·have B:(70:Int)<(g.opsZ.l.length:Int):=F;simp[v,p,t,w,z,C,u,B];exact aG
    ·have B:¬ (70:Int)<(g.opsZ.l.length:Int):=F;simp[v,T,p,t,w,z,C,u,B];exact aR (cm U.bool d4) rfl
  ·have w:¬ (16:Int)<(g.opsZ.l.length:Int):=F;have u:¬ 70<g.opsZ.l.length:=F;have B:¬ (70:Int)<(g.opsZ.l.length:Int):=F;simp[v,T,p,t,w,u,B];exact aR (cm U.bool d4) rfl
def dU (o:aM) :aM:={ o with ay:=some o.ay.l }
theorem Lr {o:aM} (h:dv o) :dv (dU o):=⟨h.idsZ,h.len,h.val,h.key⟩
theorem JP (o:aM) (h:dv o) :aV 130 [.ah (au o)] (.ah (au (dU o))):=by
 apply a8 func130 [];have t:=dw;have w:=h.len;have j:∀ x∈o.ay.l,(ao x).length=32:=fun x u=>br (h.idsZ x u)
 have g:=Fl (enc:=ao) (by_:=32) [am.q 11 (au o),am.q 11 [.int .u32 0,.af,.int .u64 0,.int .u8 0,.str [],.int .u8 0,.i6 0,.int .u64 0,.str [],.int .u32 0,.int .u32 0]] o.ay j F F (by rw[t];omega);have p:∀ x:bP,(ai x).cells=some [ai x]:=fun x=>by cases x<;>rfl
 have v:=bV (some o.ay.l);simp only[au,ai,du,hI,jo,im] at g;simp[au,ai,g];refine bY.yj (by exact qG j rfl rfl) rfl ?_;have m:U.bj 32 (o.ay.l.map ao)=ai (some o.ay.l):=rfl;simp[m,p,aw];exact aR rfl (show (U.ah (au (dU o))).ax=true by have:=dN (dU o);simpa [U.ax] using this)
def eV (g:aW) :aW:=⟨some g.idsZ.l,cO (g.opsZ.l.map dU)⟩
theorem Lq {g:aW} (h:e4 g) :e4 (eV g):=by
 refine⟨h.idsZ,fun p j=>?_,h.li,?_⟩
 ·unfold eV at j;simp only[dr] at j;obtain⟨o,m,rfl⟩:=cF.1 j;exact Lr (h.opsZ o m)
 ·unfold eV;simp only[dr];simpa using h.jE
theorem JO (g:aW) (z:e4 g) :aV 128 [cE g] (cE (eV g)):=by
 apply a8 func128 [da 0 7++[[7,1]]];have ag:=dw;have X:bt (.ad 11) (bB g.opsZ)=_:=ca _;have aS:=z.jE;have aT:=z.li;have ak:∀ x∈g.idsZ.l,(ao x).length=32:=fun x aN=>br (z.idsZ x aN)
 have R:=Fl (enc:=ao) (by_:=32) [am.q 2 (bb g),am.q 2 [.af,.af]] g.idsZ ak F F (by rw[ag];omega);have aE:∀ x:bP,(ai x).cells=some [ai x]:=fun x=>by cases x<;>rfl
 have aA:=bV (some g.idsZ.l);simp only[bb,ai,du,hI,jo,im] at R;simp[cE,bb,ai,R];refine bY.yj (by exact qG ak rfl rfl) rfl ?_;have aB:U.bj 32 (g.idsZ.l.map ao)=ai (some g.idsZ.l):=rfl;simp[aB,aE,aw];refine bw g.opsZ.l.length (fun k p l=>p 1=.ptr 0 0 2/\p 2=.ptr 1 0 2/\p 3=.ptr 3 0 2/\p 4=.i6 k/\∃ j o rest,l=.q 2 [ai g.idsZ,bB g.opsZ] ::.q 2 [.af,.af] ::.dead::.q 2 [ai (some g.idsZ.l),j] ::rest ∧
  aJ 11 l j o (((g.opsZ.l.take k).map dU).map au)/\(j=.af\/4<=o)/\bq j=(g.opsZ.l.take k).isEmpty) ?_ ?_
 ·rintro k p l hk ⟨J,K,O,P,j,o,rest,rfl,G,W,Y⟩;obtain⟨p,rfl⟩:=e2 J K O P;clear J K O P;by_cases B:k<g.opsZ.l.length
  ·obtain⟨m,Z,aG⟩:=aQ B;have ay:=cl (k:=k) F;have V:bF (.ad 11) (bB g.opsZ) _=_:=c6 Z;have H:=JP m (z.opsZ m aG);have S:=dN m;have ae:(au m).length=11:=rfl;have u:(au (dU m)).length=11:=rfl;have aj:g.opsZ.l.take (k+1)=g.opsZ.l.take k++[m]:=by rw[eD,Z];rfl
   obtain⟨aO,dd,aU,C,D,al,ap⟩:=rr (by_:=112) (pre:=[.q 2 [ai g.idsZ,bB g.opsZ],.q 2 [.af,.af],.dead,.q 2 [ai (some g.idsZ.l),j]]) (rest:=rest++[.q 11 (au (dU m))]) (G.more _) W (x:=.ad 11 (rest.length+1+1+1+1) 0 1 1 11) (xs:=[au (dU m)])
    (by simp[cD,u,aI]) (by simp[u]) F F (by rw[ag];simp;omega)
   obtain⟨aP,az⟩:=aq (au m);obtain⟨T,Q⟩:=aq (au (dU m));rw[<-az] at V H S ae;rw[<-Q] at H u C D;have aL:aw [U.int .u32 0,.af,.int .u64 0,.int .u8 0,.str [],.int .u8 0,.i6 0,.int .u64 0,.str [],.int .u32 0,.int .u32 0] 0 T=T:=cH (by rw[u];rfl);have aM:=D.cells;simp only[jo,im] at C;simp[X,B,V,ae,aI];refine av H (by simp[ar,U.ax,S]) ?_;simp[u,aL,C];refine bY.bo ?_;simp[aM,aw,ay];have aK:List.take (k+1) (List.map (au ∘ dU) g.opsZ.l)=((g.opsZ.l.take k).map dU).map au++[T]:=by rw[<-mP,aj];simp[Q]
   have I:bq aO=false:=by rw[ap];simp
   have aC:4<=dd:=by
    rcases al with h | h
    ·rw[h] at I;cases I
    ·simpa using h
   refine⟨B,dd,?_,.inr aC,by rw[I,aj];simp⟩;rw[aK];refine D.cY (.inr ?_);obtain⟨v,rfl⟩:∃ v,dd=v+4:=⟨dd - 4,F⟩
   rfl
  ·have aD:k=g.opsZ.l.length:=F;simp[X,B];rw[aD,fl] at G Y;have aH:Rd (am.q 2 [ai g.idsZ,bB g.opsZ] ::am.q 2 [ai (some g.idsZ.l),j] ::am.dead::am.q 2 [ai (some g.idsZ.l),j] ::rest) j (bB (cO (g.opsZ.l.map dU))):=by
    refine (G.cY (l':=am.q 2 [ai g.idsZ,bB g.opsZ] ::am.q 2 [ai (some g.idsZ.l),j] ::am.dead::am.q 2 [ai (some g.idsZ.l),j] ::rest) ?_).q.jg (fun x=>dN x) (cO (g.opsZ.l.map dU)) (by rw[Y,ov];simp) (dr _);rcases W with h | h
    ·exact .inl h
    ·right;obtain⟨v,rfl⟩:∃ v,o=v+4:=⟨o - 4,F⟩
     rfl
   refine .ah _ _ rfl fun o c aR t w=>?_
   rcases o with _ | _ | o
   ·simp[bb,eV] at t w;subst t w;exact .same _ aA
   ·simp[bb,eV] at t w;subst t w;exact aH
   ·simp at t
 ·simp;exact⟨.af,⟨rfl,rfl⟩,0,.nil 0,.inl rfl,rfl⟩
def iT (a b:aM) :Bool:=decide (a.dW=b.dW)&&(decide (a.ay.l=b.ay.l)&&(decide (a.eP=b.eP)&&(dn (fF a.act) (fF b.act)&&(decide (a.e=b.e)&&decide (a.s=b.s)))))
theorem Ca:my prog 20 53=some [.i .u32,.i .u32]:=bd
theorem zu (a b c d:D) :dP prog .eql 53 (.ah [a1 a,a1 b]) (.ah [a1 c,a1 d])=some (.bool (decide (a=c)&&decide (b=d))):=by rw[te Ca bd bd rfl rfl];simp[dn,U.beq]
theorem JM (a b:aM) (o:dv a) (p:dv b) :aV 71 [.ah (au a),.ah (au b)] (.bool (iT a b)):=by
 apply a8 func71 [];unfold iT;have q:=bV a.ay;have t:=bV b.ay;have u:=ur a.ay b.ay o.idsZ p.idsZ o.len;have g:=xJ a.act b.act;have v:=zu a.e a.s b.e b.s;have w:(ai a.ay).cells=some [ai a.ay]:=by cases a.ay<;>rfl
 have z:(ai b.ay).cells=some [ai b.ay]:=by cases b.ay<;>rfl
 unfold fF at g ⊢;simp[au];by_cases h1:a.dW=b.dW
 ·simp[h1];refine av u (by simp[ar,q,t]) ?_;by_cases h:a.ay.l=b.ay.l
  ·by_cases j:a.eP=b.eP
   ·cases m:dn [a7 a.act.kind,.str a.act.key,a7 a.act.val.kind,.i6 a.act.val.num,cX a.act.val.bits,.str a.act.val.text] [a7 b.act.kind,.str b.act.key,a7 b.act.val.kind,.i6 b.act.val.num,cX b.act.val.bits,.str b.act.val.text] with
    | false=>
     rw[m] at g;simp[h1,h,j,g];exact aG
    | true=>
     rw[m] at g;simp[h1,h,j,g,v];exact aG
   ·simp[h1,h,j];exact aG
  ·simp[h1,h];exact aG
 ·simp[h1];exact aG
theorem Kv (a:aM) :iT a a=true:=by unfold iT;simp[fF,dn,U.beq]
def hB (l:List aM) (k:Nat) :aM:=l.getD k ⟨0,none,0,⟨0,[],⟨0,0,0,[]⟩⟩,0,0⟩
theorem nk {l:List aM} {k:Nat} {o:aM} (h:l[k]?=some o) :hB l k=o:=by unfold hB;rw[gm,h];rfl
def np (a b:aW) :Bool:=decide (a.idsZ.l=b.idsZ.l)&&(decide (a.opsZ.l.length=b.opsZ.l.length)&&decide (∀ k,k<a.opsZ.l.length->iT (hB a.opsZ.l k) (hB b.opsZ.l k)=true))
theorem UG (a b:aW) (u:e4 a) (J:e4 b) :aV 26 [cE a,cE b] (.bool (np a b)):=by
 apply a8 func26 [];have ak:=bV a.idsZ;have al:=bV b.idsZ;have am:=ur a.idsZ b.idsZ u.idsZ J.idsZ u.li;have v:bt (.ad 11) (bB a.opsZ)=_:=ca _;have T:bt (.ad 11) (bB b.opsZ)=_:=ca _;have aB:=u.jE;simp[cE,bb];refine av am (by simp[ar,ak,al]) ?_;by_cases h1:a.idsZ.l=b.idsZ.l
 ·by_cases w:a.opsZ.l.length=b.opsZ.l.length
  ·have D:(a.opsZ.l.length:Int)=(b.opsZ.l.length:Int):=F;simp[h1,v,T,w];refine bw a.opsZ.l.length (fun k t l=>l=[.q 2 [ai a.idsZ,bB a.opsZ],.q 2 [ai b.idsZ,bB b.opsZ]]/\t 2=.ptr 0 0 2/\t 3=.ptr 1 0 2/\t 5=.i6 k/\∀ g,g<k->iT (hB a.opsZ.l g) (hB b.opsZ.l g)=true) ?_ V;rintro k t l hk ⟨rfl,z,B,C,ae⟩;obtain⟨t,rfl⟩:=gj z B C;clear z B C;by_cases o:k<a.opsZ.l.length
   ·obtain⟨j,W,aw⟩:=aQ o;obtain⟨m,Y,ay⟩:=aQ (l:=b.opsZ.l) (k:=k) F;have aj:=cl (k:=k) F;have R:bF (.ad 11) (bB a.opsZ) _=_:=c6 W;have S:bF (.ad 11) (bB b.opsZ) _=_:=c6 Y;have ag:=JM j m (u.opsZ j aw) (J.opsZ m ay);have O:=dN j;have P:=dN m;have X:(au j).length=11:=rfl;have Z:(au m).length=11:=rfl;have I:=nk W;have K:=nk Y;obtain⟨az,G⟩:=aq (au j);obtain⟨Q,H⟩:=aq (au m);rw[<-G,<-H] at ag;rw[<-G] at R O X;rw[<-H] at S P Z;simp[v,o,R,S,X,Z,aI];refine av ag (by simp[ar,U.ax,O,P]) ?_;by_cases p:iT j m=true
    ·simp[p,o,aj];intro g ao;by_cases ap:g=k
     ·subst ap;rw[I,K];exact p
     ·exact ae g F
    ·rw[xj] at p;simp[p];refine aR (cm U.bool ?_) rfl;unfold np;rw[cp (fun h:∀ k,k<a.opsZ.l.length->iT (hB a.opsZ.l k) (hB b.opsZ.l k)=true=>by
      have:=h k o;rw[I,K,p] at this;cases this)]
     simp
   ·have aA:k=a.opsZ.l.length:=F;simp[v,o];refine aR (cm U.bool ?_) rfl;unfold np;rw[bW h1,bW w,bW fun g ao=>ae g F];rfl
  ·have D:¬ (a.opsZ.l.length:Int)=(b.opsZ.l.length:Int):=F;simp[h1,v,T,D];refine aR (cm U.bool ?_) rfl;unfold np;rw[cp w];simp
 ·simp[h1];refine aR (cm U.bool ?_) rfl;unfold np;rw[cp h1];simp
structure u9 (g:aW) :Prop where
 n60:g.opsZ.l.length<=60
 len:g.idsZ.l.length=g.opsZ.l.length
 Ho:∀ (k:Nat) (o:aM) (x:List B),g.opsZ.l[k]?=some o->g.idsZ.l[k]?=some x->fk o=0/\bJ o=x
 bQ:bQ g.idsZ.l=true
 CC:∀ o∈g.opsZ.l,∀ p∈o.ay.l,p∈g.idsZ.l
 all:∀ i,i<g.opsZ.l.length->l9 g.idsZ.l g.opsZ.l i
theorem k1 {g:aW} (h:e5 g=0) :u9 g:=by
 unfold e5 at h;split at h
 ·cases h
 ·rename_i C;split at h
  ·rename_i j;split at h
   ·rename_i q;unfold jl at h;split at h
    ·rename_i o;split at h
     ·rename_i u;split at h
      ·rename_i v;refine⟨F,j,fun k p x m z=>?_,o,fun p t B w=>?_,(CG j (mq o)).1 v⟩
       ·have:=(rM g).1 q k (aH.1 m).1;rw[vL m z,bN,bI,bI] at this;exact this
       ·exact io (io u p t) B w
      ·cases h
     ·cases h
    ·cases h
   ·cases h
  ·cases h
def mB (idsZ:aN) (seen:List Bool) (k:Nat) :aN:=(List.range k).flatMap fun i=>if seen.getD i false=true then [bn idsZ i] else []
theorem Co (idsZ:aN) (seen:List Bool) (k:Nat) :mB idsZ seen (k+1)=mB idsZ seen k++(if seen.getD k false=true then [bn idsZ k] else []):=by unfold mB;rw[sU,xm];simp
theorem Is (idsZ:aN) (seen:List Bool) :∀ k,(mB idsZ seen k).length<=k
 | 0=>by simp[mB]
 | k+1=>by
  have:=Is idsZ seen k;rw[Co,cg];split<;>simp<;>omega
theorem FD:∀ l:List B,dn (l.map a7) (l.map a7)=true
 | []=>rfl
 | x::l=>by
  have h1:U.beq (a7 x) (a7 x)=true:=by simp[U.beq]
  show (U.beq (a7 x) (a7 x)&&dn (l.map a7) (l.map a7))=true;rw[h1,FD l];rfl
theorem NS (x:List B) :U.beq (.ah (ao x)) (.ah (ao x))=true:=FD x
theorem BA {x:List B} (h:x.length=32) :kh prog 57 (.ah (ao x))=true:=by
 have h1:pf prog 8 57=true:=bd;have g:ds prog 57=some true:=bd;have j:b3 prog 57=some 32:=bd;have m:(x.map a7).all qI=true:=by rw[fW];intro c o;obtain⟨b,_,rfl⟩:=cF.1 o;rfl
 show (pf prog 8 57&&(match ds prog 57,b3 prog 57 with | some true,some p=>Nat.beq (x.map a7).length p | _,_=>false)&&(x.map a7).all qI)=true;rw[h1,g,j,m,cC,h];rfl
theorem Ii:∀ {a b:List B},a.map (fun x=>u x)=b.map (fun x=>u x)<->a=b
 | [],[]=>V
 | [],_::_=>V
 | _::_,[]=>V
 | x::a,y::b=>by
  rw[dh,dh,List.cons.injEq,List.cons.injEq,Ii (a:=a) (b:=b)];simp
theorem PP {a b:List B} (g:a.length=32) (j:b.length=32) {D:Nat}:dA prog (D+2) 57 (.ah (ao a)) (.ah (ao b))=some (decide (a=b)):=by have h:=PQ (P:=prog) (t:=57) (e:=5) (k:=.u8) (n:=32) bd bd bd bd (x:=a.map fun x=>u x) (y:=b.map fun x=>u x) (by simp[g]) (by simp[j]) (D:=D);rw[oE,oE] at h;unfold ao;rw[show a.map a7=a.map (U.int .u8 ∘ fun x=>u x) from rfl,show b.map a7=b.map (U.int .u8 ∘ fun x=>u x) from rfl,h];simp only[Ii]
inductive pZ:Nat->List (U × U × Nat)->aN->Prop
 | nil (b:Nat) :pZ b [] []
 | cons {b:Nat} {g:List (U × U × Nat)} {bZ:aN} {k:List B} (n:Nat) (hk:k.length=32) (h:pZ (b+1) g bZ) :pZ b ((.ah (ao k),.int .i64 (b:Int),n) ::g) (k::bZ)
theorem pZ.snoc {b:Nat} {es:List (U × U × Nat)} {bZ:aN} (h:pZ b es bZ) {k:List B} (hk:k.length=32) (n:Nat) :pZ b (es++[(.ah (ao k),.i6 ((b+bZ.length:Nat) :Int),n)]) (bZ++[k]):=by
 induction h with
 | nil b=>exact .cons n hk (.nil _)
 | @cons b es bZ m o j h g=>
  refine .cons o j ?_;rw[show b+1+bZ.length=b+(m::bZ).length by simp;omega] at g;exact g
theorem G0 {x:List B} (q:x.length=32) {b:Nat} {es:List (U × U × Nat)} {bZ:aN} (h:pZ b es bZ) :∀ c,(∀ i,bZ[i]?=some x->(∀ j,j<i->bZ[j]?≠some x)->jA prog 57 (.ah (ao x)) es c=some (some (c+i,.i6 ((b+i:Nat) :Int))))/\(x∉bZ->jA prog 57 (.ah (ao x)) es c=some none):=by
 induction h with
 | nil b=>intro c;exact⟨fun i h=>by simp at h,fun _=>rfl⟩
 | @cons b es bZ k n hk h t=>
  intro c;unfold jA;rw[BA hk];simp only;rw[show dA prog 10000 57 (.ah (ao x)) (.ah (ao k))=some (decide (x=k)) from PP q hk (D:=9998)];by_cases m:x=k
  ·subst m;simp only[oH,NS];refine⟨fun i g o=>?_,fun h=>bK V h⟩;cases i with
   | zero=>rfl
   | succ i=>exact bK rfl (o 0 F)
  ·simp only[m,u1];obtain⟨h1,p⟩:=t (c+1);refine⟨fun i g o=>?_,fun h=>p (fun h'=>h (by simp[h']))⟩;cases i with
   | zero=>simp at g;exact bK g.symm m
   | succ i=>
    rw[h1 i (by simpa using g) (fun j u=>by have:=o (j+1) F;simpa using this)];rw[show c+1+i=c+(i+1) by omega,show b+1+i=b+(i+1) by omega]
structure kH (l:ae) (j:Nat) (bZ:aN) :Prop where
 e:∃ es lu,l[j]?=some (.map es lu)/\pZ 0 es bZ
theorem kH.look {l:ae} {j:Nat} {bZ:aN} (h:kH l j bZ) (t:kG bZ) {x:List B} (m:x.length=32) {i:Nat} (g:bZ[i]?=some x) :v7 prog l 57 (.i6 0) false (.mp j) (.ah (ao x))=some (.i6 (i:Int)):=by
 obtain⟨es,v,h1,o⟩:=h.e;have p:tP l (.mp j)=some es:=by simp[tP,h1]
 unfold v7;rw[p];simp only[BA m];rw[(G0 m o 0).1 i g (fun u w q=>by have:=t u i x q g;omega)];simp
theorem kH.put {l:ae} {j:Nat} {bZ:aN} (h:kH l j bZ) {x:List B} (g:x.length=32) (q:x∉bZ) :∃ c,r0 prog l 57 (.mp j) (.ah (ao x)) (.i6 (bZ.length:Int))=some (l.set j c)/\(∀ l' : ae,l'[j]?=some c->kH l' j (bZ++[x])):=by obtain⟨t,o,h1,m⟩:=h.e;unfold r0;simp only[h1,BA g,(G0 g m 0).2 q];exact⟨_,rfl,fun l' p=>⟨_,_,p,by have:=m.snoc g o;rw[gT] at this;exact this⟩⟩
theorem kH.frame {l l' : ae} {j:Nat} {bZ:aN} (h:kH l j bZ) (p:l'[j]?=l[j]?) :kH l' j bZ:=by obtain⟨m,g,h1,o⟩:=h.e;exact⟨m,g,by rw[p,h1],o⟩
theorem kH.lt {l:ae} {j:Nat} {bZ:aN} (h:kH l j bZ) :j<l.length:=by obtain⟨m,g,h1,o⟩:=h.e;exact (aH.1 h1).1
theorem Sb {P:bg} {g:aT->U} {l:ae} {o:aT} {k:cQ} {n:Int} (h:g o=.int k n) :bG P g l (.tQ (some o))=some (.mp l.length,l++[.map [] 0]):=by show (match asInt (g o) with | some _=>some (U.mp l.length,l++[am.map [] 0]) | none=>none)=_;rw[h];rfl
theorem T1 (g:aW) (G:e4 g) (Y:kG g.idsZ.l) {l:ae} {K:cv} (R:∀ j l',kH l' j g.idsZ.l->l.length<=j->(∀ c,c<l.length->l'[c]?=l[c]?)->l.length<=l'.length->K (.mp j) l') :
  cG 276 [cE g] l K:=by
 apply cR func276 [];have ax:=G.li;have I:bt (.ad 32) (ai g.idsZ)=_:=ca _;simp[cE,bb,I];rw[Sb (k:=.i64) (n:=g.idsZ.l.length) V];simp[I];refine bw g.idsZ.l.length (fun k h l'=>h 3=.mp (l.length+1)/\h 11=ai g.idsZ/\h 12=.i6 g.idsZ.l.length/\h 13=.i6 k/\kH l' (l.length+1) (g.idsZ.l.take k)/\(∀ c,c<l.length->l'[c]?=l[c]?)) ?_ ?_
 ·rintro k h l' hk ⟨C,w,z,B,m,D⟩;obtain⟨h,rfl⟩:=e2 C w z B;clear C w z B;by_cases p:k<g.idsZ.l.length
  ·obtain⟨x,u,au⟩:=aQ p;have Q:=cl (k:=k) F;have H:bF (.ad 32) (ai g.idsZ) _=_:=c6 u;have J:=G.idsZ x au;have v:=br J;have ap:g.idsZ.l.take (k+1)=g.idsZ.l.take k++[x]:=by rw[eD,u];rfl
   have al:x∉g.idsZ.l.take k:=fun ak=>by
    obtain⟨av,t⟩:=cc.1 ak;have ar:=(aH.1 t).1;rw[cI] at ar;rw[dG F] at t;have:=Y av k x t u;omega
   have aj:=m.lt;have S:kH (l'++[.q 32 (ao x)]) (l.length+1) (g.idsZ.l.take k):=m.frame (aS aj);obtain⟨c,o,P⟩:=S.put J al;have ag:(g.idsZ.l.take k).length=k:=by rw[cI];omega
   rw[ag] at o;obtain⟨X,T⟩:=aq (ao x);rw[<-T] at H v o;have am:aw (bO 32 (.int .u8 0)) 0 X=X:=cH (by rw[v];rfl);simp[p,H,v,am,aI,o,Q];refine⟨?_,fun O W=>?_⟩
   ·rw[ap];exact P _ (by rw[bT (by simp;omega)])
   ·rw[bp F,aS F];exact D O W
  ·have Z:k=g.idsZ.l.length:=F;rw[Z,fl] at m;simp[p];exact R _ _ m F D (by have:=m.lt;omega)
 ·simp;refine⟨⟨[],0,V,.nil 0⟩,fun c U=>by rw[aS U]⟩
theorem Oy {l:ae} {p:U} {x:ag × Nat} (h:fM l p=some x) :kM p 0=some p:=by cases p<;>first | rfl | (exfalso;simp[fM] at h)
theorem U3 {l:ae} {a b j m:U} (h1:Rd l a j) (p:Rd l b m) :Rd l (.aZ [a,b]) (.aZ [j,m]):=by
 refine .aZ _ _ rfl fun o x q g h=>?_
 rcases o with _ | _ | o
 ·simp at g h;subst g h;exact h1
 ·simp at g h;subst g h;exact p
 ·simp at g
def ly (g:aW) (x:List B) (m:Nat) :Bool:=decide (∀ h,h<m->x∉(hB g.opsZ.l h).ay.l)
theorem Qp (g:aW) (x:List B) (m:Nat) :ly g x (m+1)=(ly g x m&&!decide (x∈(hB g.opsZ.l m).ay.l)):=by
 unfold ly;rw[xi,bN,bI,bI,sN,decide_eq_false_iff_not];constructor
 ·intro h;exact⟨fun j p=>h j F,h m F⟩
 ·rintro⟨h1,o⟩ j p;by_cases e:j=m
  ·rw[e];exact o
  ·exact h1 j F
abbrev h2 (g:aW) (x:List B) :Bool:=ly g x g.opsZ.l.length
def eM (g:aW) :aN:=g.idsZ.l.filter (h2 g)
structure M1 (g:aW) (l0:ae) (w:U) (seen:List Bool) (k:Nat) (sgZ:aP) (l:ae) :Prop where
 e7:sgZ 1=w
 h0:sgZ 2=.ptr l0.length 0 2
 m8:sgZ 8=.i6 seen.length
 BH:sgZ 9=.i6 k
 ex:∃ v,sgZ 5=v/\b7 32 ao (l0++[.q 2 [ai g.idsZ,bB g.opsZ]]) l v (mB g.idsZ.l seen k) (mB g.idsZ.l seen k).isEmpty
theorem Sg (g:aW) (O:e4 g) {l0:ae} {w:U} {t:Nat} {seen:List Bool} (aH:seen.length=g.idsZ.l.length) (Q:aJ 1 l0 w t (seen.map kR)) (ag:t<l0.length) {K:cv}
  (Y:∀ v l',b7 32 ao l0 l' v (mB g.idsZ.l seen seen.length) (mB g.idsZ.l seen seen.length).isEmpty->K v l') :
  cG 277 [cE g,w] l0 K:=by
 apply cR func277 [];have ap:=dw;have aE:=O.li;have au:bt (.ad 1) w=some (.i6 seen.length):=by have:=Q.len;simpa using this
 simp[cE,bb,au];refine bw seen.length (M1 g l0 w seen) ?_ ⟨V,V,V,V,.af,V,b7.nil⟩;rintro k aA l hk ⟨C,D,H,I,v,G,h⟩;obtain⟨aA,rfl⟩:=gk C D G H I;clear C D G H I;have az:l[l0.length]?=some (.q 2 [ai g.idsZ,bB g.opsZ]):=by rw[h.same _ V];simp
 have ax:aJ 1 l w t (seen.map kR):=Q.cY (.inr (by rw[h.same _ (by simp;omega),aS ag]));by_cases o:k<seen.length
 ·obtain⟨b,m,_⟩:=aQ o;obtain⟨x,R,ay⟩:=aQ (l:=g.idsZ.l) (k:=k) F;have B:=cl (k:=k) F;obtain⟨aL,cs,S,T,u,aM,aC⟩:=ax.q.get (k:=.i64) (i:=k) (e:=kR b) (by rw[bX,m];rfl);have W:cs[S]?=some (.bool b):=by
   have J:((cs.drop S).take 1)[0]?=(kR b)[0]?:=by rw[aC]
   rw[dG F] at J;simpa [kR] using J
  have P:bF (.ad 32) (ai g.idsZ) _=_:=c6 R;have ar:seen.getD k false=b:=by rw[gm,m];rfl
  have p:=br (O.idsZ x ay);have aG:=Is g.idsZ.l seen k;have j:=Co g.idsZ.l seen k;have aN:=Oy u;rw[ar] at j;cases b with
  | false=>
   simp at j;simp[o,T,u,W,B];exact⟨V,V,V,V,v,V,by rw[j];exact h⟩
  | true=>
   rw[aj rfl,dx R] at j;obtain⟨aB,aK,z,al,aD⟩:=Th (by_:=32) (h.more [am.q 32 (ao x)]) x (b:=l.length) V p F F (by rw[ap];omega);obtain⟨X,Z⟩:=aq (ao x);rw[<-Z] at P p z;have av:aw (bO 32 (.int .u8 0)) 0 X=X:=cH (by rw[p];rfl);simp[o,T,u,W,az,P,p,av,aI,z];refine bY.bo ?_;simp[o,B];exact⟨V,V,V,V,aB,V,by rw[j,show (mB g.idsZ.l seen k++[x]).isEmpty=false by simp];exact al⟩
 ·have ak:k=seen.length:=F;subst ak;simp;exact Y _ _ (h.base V (fun b m=>aS m))
def m7 (n k:Nat) :List Bool:=(List.range n).map fun i=>decide (i<k)
theorem P1 (n k:Nat) :(m7 n k).length=n:=by simp[m7]
theorem P3 (n:Nat) :m7 n 0=List.replicate n false:=by
 apply g7 ;intro i;unfold m7;by_cases h:i<n
 ·rw[bX,g9 h,Ak,aj h];simp
 ·rw[dV (by simp;omega),dV (by simp;omega)]
theorem P2 {n k:Nat} (h:k<n) :(m7 n k).set k true=m7 n (k+1):=by
 apply g7 ;intro i;unfold m7;by_cases g:i<n
 ·by_cases e:k=i
  ·subst e;rw[bT (by simp;omega),bX,g9 g];simp
  ·rw[bp e,bX,bX,g9 g];simp;omega
 ·rw[dV (by simp;omega),dV (by simp;omega)]
def iO (g:aW) (q m:Nat) :List Bool:=(List.range g.idsZ.l.length).map fun i=>ly g (bn g.idsZ.l i) q&&!decide (bn g.idsZ.l i∈(hB g.opsZ.l q).ay.l.take m)
theorem BM (g:aW) (q m:Nat) :(iO g q m).length=g.idsZ.l.length:=by simp[iO]
theorem QS (g:aW) :m7 g.idsZ.l.length g.idsZ.l.length=iO g 0 0:=by
 unfold m7 iO;refine oD fun i h=>?_
 rw[gS] at h;rw[bW h];simp[ly]
theorem QQ (g:aW) (q:Nat) :iO g q (hB g.opsZ.l q).ay.l.length=iO g (q+1) 0:=by
 unfold iO;refine oD fun i h=>?_
 rw[fl,Qp];simp
theorem QR {g:aW} (w:kG g.idsZ.l) {q m i:Nat} {p:List B} (C:(hB g.opsZ.l q).ay.l[m]?=some p) (j:g.idsZ.l[i]?=some p) :(iO g q m).set i false=iO g q (m+1):=by
 have D:=(aH.1 j).1;apply g7 ;intro t;unfold iO;have u:(hB g.opsZ.l q).ay.l.take (m+1)=(hB g.opsZ.l q).ay.l.take m++[p]:=by rw[eD,C];rfl
 by_cases o:t<g.idsZ.l.length
 ·obtain⟨y,v,_⟩:=aQ o;by_cases e:i=t
  ·subst e;rw[bT (by simp;omega),bX,g9 o,u];simp[j]
  ·rw[bp e,bX,bX,g9 o,u];have z:y≠p:=fun h=>e (by subst h;exact w i t y j v)
   simp[v,z]
 ·rw[dV (by simp;omega),dV (by simp;omega)]
theorem Ir (g:aW) :∀ k,k<=g.idsZ.l.length->mB g.idsZ.l (iO g g.opsZ.l.length 0) k=(g.idsZ.l.take k).filter (h2 g)
 | 0,_=>rfl
 | k+1,hk=>by
  obtain⟨x,j,_⟩:=aQ (l:=g.idsZ.l) (k:=k) F;have h1:(iO g g.opsZ.l.length 0).getD k false=h2 g x:=by
   rw[gm];unfold iO;rw[bX,g9 F];simp[j]
  rw[Co,Ir g k F,h1,dx j,eD,j,kB];cases h:h2 g x<;>simp[h]
structure nO (g:aW) (h b:Nat) (S:List Bool) (l:ae) :Prop where
 k5:l[0]?=some (.q 2 [ai g.idsZ,bB g.opsZ])
 p:kH l h g.idsZ.l
 w:aJ 1 l (.ad 1 b 0 g.idsZ.l.length g.idsZ.l.length g.idsZ.l.length) b (S.map kR)
 yo:b<l.length
 hm:h<b
 BL:0<h
theorem nO.more {g:aW} {j b:Nat} {S:List Bool} {l:ae} (h:nO g j b S l) (c:am) :nO g j b S (l++[c]):=
 ⟨by rw[aS (by have:=h.yo;omega)];exact h.k5,h.p.frame (aS h.p.lt),h.w.more _,by have:=h.yo;simp;omega,h.hm,h.BL⟩
theorem nO.set {g:aW} {j b:Nat} {S:List Bool} {l:ae} (h:nO g j b S l) {i:Nat} {v:Bool} (z:i<S.length) :
  ∃ p l',bF (.ad 1) (.ad 1 b 0 g.idsZ.l.length g.idsZ.l.length g.idsZ.l.length) (.i6 (i:Int))=some p/\jm 1 l p (.bool v)=some l'/\nO g j b (S.set i v) l':=by obtain⟨p,l',o,q,t,u,m⟩:=y6 (enc:=kR) (x:=v) (X:=.bool v) rfl h.w (fun _ _=>rfl) z rfl;have h1:=h.hm;have B:=h.BL;exact⟨p,l',o,q,by rw[m 0 F];exact h.k5,h.p.frame (m j F),t,by rw[u];exact h.yo,h.hm,h.BL⟩
def q0 (g:aW) :bP:=if e5 g=0 then cO (eM g) else none
theorem XN (g:aW) (I:e4 g) :aV 253 [cE g] (.aZ [ai (q0 g),.i6 (e5 g)]):=by
 apply a8 func253 [];have bv:=dw;have bg:=bV g.idsZ;have bh:=iM g.opsZ;have bJ:=I.jE;have bH:=I.li;have aT:=LQ g I;have bo:bt (.ad 11) (bB g.opsZ)=_:=ca _;have bm:bt (.ad 32) (ai g.idsZ)=_:=ca _;unfold cE bb at aT;simp[cE,bb];refine av aT (by simp[ar,U.ax,bg,bh]) ?_;by_cases D:e5 g=0
 ·have aE:=k1 D;have az:=mq aE.bQ;simp[D];refine T1 g I az ?_;intro G J H bk aU bn;have C:J[0]?=some (am.q 2 [ai g.idsZ,bB g.opsZ]):=by rw[aU 0 V];rfl
  obtain⟨ae,ag⟩:=we (z:=1) (by_:=1) (n:=g.idsZ.l.length) (k:=.i64) (k':=.i64) (zero:=[U.bool false]) (l:=J) rfl F (by rw[bv];omega);obtain⟨N,bE⟩:=aq (g.idsZ.l.length);simp only[nH] at ae ag;have m:nO g G J.length (m7 g.idsZ.l.length 0) (J++[.q g.idsZ.l.length (cy [.bool false] g.idsZ.l.length)]):=by
   have h1:J.length ≥ 1:=by simp at bn;omega
   refine⟨by rw[aS F];exact C,H.frame (aS H.lt),?_,V,H.lt,by simp at bk;omega⟩;rw[P3,xr];exact ag
  simp[C,bm,ae];obtain⟨b,bf⟩:=aq (J.length);rw[<-bf] at m ⊢;refine bw g.idsZ.l.length (fun k j l=>j 1=.ptr 0 0 2/\j 5=.mp G/\j 6=.ad 1 b 0 g.idsZ.l.length g.idsZ.l.length g.idsZ.l.length/\j 24=.i6 g.idsZ.l.length/\j 25=.i6 k/\nO g G b (m7 g.idsZ.l.length k) l) ?_ ⟨V,V,V,V,V,m⟩;clear m ae ag C aU H;rintro k j l hk ⟨t,u,B,aJ,aK,m⟩;obtain⟨j,rfl⟩:=gk t u B aJ aK;clear t u B aJ aK;simp;refine gq (fun h=>?_) (fun h=>?_)
  ·simp only[bI] at h;have al:=cl (k:=k) F;obtain⟨T,a9,aD,Z,W⟩:=m.set (i:=k) (v:=true) (by rw[P1];omega);rw[P2 F] at W;simp[aD,Z,al];exact⟨F,W⟩
  ·have bl:k=g.idsZ.l.length:=by simp at h;omega
   rw[bl,QS] at m;have C:=m.k5;simp[h,C,bo];refine bw g.opsZ.l.length (fun q j l=>j 1=.ptr 0 0 2/\j 5=.mp G/\j 6=.ad 1 b 0 g.idsZ.l.length g.idsZ.l.length g.idsZ.l.length/\j 33=bB g.opsZ/\j 34=.i6 g.opsZ.l.length/\j 35=.i6 q/\nO g G b (iO g q 0) l) ?_ ⟨V,V,V,V,V,V,m⟩;clear m C;rintro q j l bM ⟨t,u,B,Q,R,S,m⟩;obtain⟨j,rfl⟩:=pJ t u B Q R S;clear t u B Q R S;simp;refine gq (fun X=>?_) (fun X=>?_)
   ·simp only[bI] at X;obtain⟨o,aA,a3⟩:=aQ (l:=g.opsZ.l) (k:=q) F;have a4:=I.opsZ o a3;have al:=cl (k:=q) F;have aX:bF (.ad 11) (bB g.opsZ) _=_:=c6 aA;have aB:(au o).length=11:=rfl;have aO:∀ h,(au o)[1]'h=ai o.ay:=fun _=>rfl
    have bp:bt (.ad 32) (ai o.ay)=_:=ca _;obtain⟨O,bd⟩:=aq (au o);rw[<-bd] at aX aB aO;have bx:aw [U.int .u32 0,.af,.int .u64 0,.int .u8 0,.str [],.int .u8 0,.i6 0,.int .u64 0,.str [],.int .u32 0,.int .u32 0] 0 O=O:=cH (by rw[aB];rfl);have bC:∀ c:am,(l++[c])[l.length]?=some c:=fun c=>pT
    simp[aX,aB,aO,bx,bp,aI];refine bw o.ay.l.length (fun K j l=>j 1=.ptr 0 0 2/\j 5=.mp G/\j 6=.ad 1 b 0 g.idsZ.l.length g.idsZ.l.length g.idsZ.l.length/\j 33=bB g.opsZ/\j 34=.i6 g.opsZ.l.length/\j 35=.i6 q/\j 40=ai o.ay/\j 41=.i6 o.ay.l.length/\j 42=.i6 K/\nO g G b (iO g q K) l) ?_ ⟨V,V,V,V,V,V,V,V,V,m.more _⟩;clear m bC;rintro K j l bK ⟨t,u,B,Q,R,S,aL,aM,aN,m⟩;obtain⟨j,rfl⟩:=LC t u B Q R S aL aM aN;clear t u B Q R S aL aM aN;simp;refine gq (fun Y=>?_) (fun Y=>?_)
    ·simp only[bI] at Y;obtain⟨T,a5,a6⟩:=aQ (l:=o.ay.l) (k:=K) F;have a7:=a4.idsZ T a6;have aC:=br a7;have bL:=a4.len;have bc:=cl (k:=K) F;obtain⟨i,ap⟩:=cc.1 (aE.CC o a3 T a6);have bG:=(aH.1 ap).1;have aY:bF (.ad 32) (ai o.ay) _=_:=c6 a5;have aP:=m.more (.q 32 (ao T));have a0:=aP.p.look az a7 ap;obtain⟨bN,a9,aD,Z,W⟩:=aP.set (i:=i) (v:=false) (by rw[BM];omega);rw[QR az (by rw[nk aA];exact a5) ap] at W;obtain⟨P,H⟩:=aq (ao T);rw[<-H] at aY aC a0 Z;have bz:aw (bO 32 (U.int .u8 0)) 0 P=P:=cH (by rw[aC];rfl);simp[aY,aC,bz,a0,aD,Z,bc,aI];exact⟨F,W⟩
    ·have bq:K=o.ay.l.length:=by simp at Y;omega
     have a1:=QQ g q;rw[nk aA] at a1;rw[bq,a1] at m;simp[Y,al];exact⟨F,m⟩
   ·have bu:q=g.opsZ.l.length:=by simp at X;omega
    rw[bu] at m;have C:=m.k5;simp[X,C];have bA:=m.w;refine Sg g I (seen:=iO g g.opsZ.l.length 0) (BM _ _ _) bA m.yo (fun bP a9 a2=>?_);simp;have bs:mB g.idsZ.l (iO g g.opsZ.l.length 0) (iO g g.opsZ.l.length 0).length=eM g:=by
     rw[BM,Ir g _ (aF _),fl];rfl
    rw[bs] at a2;refine U3 ?_ (aR (by rw[D]) rfl);exact a2.rd cP (q0 g) (by unfold q0;rw[aj D,ov]) (by unfold q0;rw[aj D,dr])
 ·have bi:q0 g=none:=by unfold q0;rw[ak D]
  rw[bi];simp[D];exact aG
def hV (l l' : ae) :Prop:=l.length<=l'.length/\∀ b,b<l.length->l'[b]?=l[b]?
theorem hV.refl (l:ae) :hV l l:=⟨aF _,fun _ _=>rfl⟩
theorem hV.trans {l m n:ae} (h:hV l m) (g:hV m n) :hV l n:=⟨dC h.1 g.1,fun b j=>by rw[g.2 b (l8 j h.1),h.2 b j]⟩
def s4 (f:cb) (o:ag) (l:ae) (xs:aN) (c:List B->Bool) :Prop:=
 ∀ m∈xs,∀ g,hV l g->∀ h:cv,(∀ j,hV g j->h (.bool (c m)) j)->cG f (.ah (ao m) ::o) g h
theorem Q0 (s:bP) (aj:cU s) (al:s.l.length<=1000000) {f:cb} {t:ag} {c:List B->Bool} (W:fI prog f=true) {l:ae} (h:s4 f t l s.l c) {K:cv}
  (G:∀ (n:Int) l',hV l l'->(0<=n<->s.l.any c=true)->K (.i6 n) l') :cG 139 [ai s,.fn f [] t] l K:=by
 apply cR func139 [];have Z:bt (.ad 32) (ai s)=_:=ca _;simp[Z];refine bw s.l.length (fun k j v=>j 0=ai s/\j 1=.fn f [] t/\j 7=.i6 s.l.length/\j 8=.i6 k/\hV l v/\∀ g y,g<k->s.l[g]?=some y->c y=false) ?_ ⟨V,V,V,V,hV.refl _,fun g _ q=>F⟩;rintro k j v hk ⟨w,z,C,D,p,P⟩;obtain⟨j,rfl⟩:=e2 w z C D;clear w z C D;simp;refine gq (fun m=>?_) (fun m=>?_)
 ·simp only[bI] at m;obtain⟨x,Q,u⟩:=aQ (l:=s.l) (k:=k) F;have R:=br (aj x u);have T:=cl (k:=k) F;have O:bF (.ad 32) (ai s) _=_:=c6 Q;have I:=h x u v p;obtain⟨ak,U⟩:=aq (ao x);rw[<-U] at O R I;simp[O,R,aI];refine⟨W,I _ fun am J=>?_⟩;cases H:c x with
  | true=>
   simp;exact G _ _ (p.trans J) ⟨fun _=>sP.2 ⟨x,u,H⟩,fun _=>F⟩
  | false=>
   simp[T];refine⟨m,p.trans J,fun g y q o=>?_⟩;by_cases X:g=k
   ·rw[X,Q] at o;obtain rfl:=cd o;exact H
   ·exact P g y F o
 ·simp[m];have Y:k=s.l.length:=by simp at m;omega
  refine G _ _ p ⟨fun h=>F,fun h=>?_⟩;obtain⟨y,o,S⟩:=sP.1 h;obtain⟨g,q⟩:=cc.1 o;rw[P g y (by rw[Y];exact (aH.1 q).1) q] at S;cases S
theorem xY (s:bP) (q:cU s) (t:s.l.length<=1000000) {f:cb} {g:ag} {c:List B->Bool} (o:fI prog f=true) {l:ae} (h:s4 f g l s.l c) {K:cv}
  (j:∀ l',hV l l'->K (.bool (s.l.any c)) l') :cG 88 [ai s,.fn f [] g] l K:=by
 apply cR func88 [];simp;refine Q0 s q t o h fun n l' m p=>?_
 simp;have:decide (0<=n)=s.l.any c:=by
  rw[xi,bI];exact p
 rw[this];exact j _ m
end Op
theorem Ol {P:bg} {G:Nat->U} {f:cb} {args args2:ag} {h m h' : aE} {r:U} (z:jq P G f args2 m r h') (wk:ir h m) (Q:args2.length=args.length)
  (D:∀ (j:Nat) (c g:U),args[j]?=some c->args2[j]?=some g->ip h m c g) :jq P G f args h r h':=by
 intro t B w muZ K rel v R I;refine (z t B w muZ K (wk.rel rel) (v.ext (wk.ext w muZ)) F (fun j g o q C=>?_)).mono ?_
 ·have O:=(aH.1 q).1;obtain⟨c,p⟩:∃ c,args[j]?=some c:=⟨_,bC F⟩
  exact wk.ky rel (D j c g p q) (I j c o p C)
 ·rintro e w' ⟨o,muZ',rfl,u,J,H⟩;exact⟨o,muZ',rfl,(wk.ext w muZ).trans u,J,H⟩
theorem oS {P:bg} {G:Nat->U} (w:P.follows .mixedOrders=true) (p:∀ g,(G g).ax=true) {f:cb} {args args2:ag} {l m:ae} {K:cv} (wk:ir (aU l) (aU m)) (u:l.length<=m.length) (t:args2.length=args.length)
  (z:∀ (j:Nat) (c o:U),args[j]?=some c->args2[j]?=some o->ip (aU l) (aU m) c o) (h:fP P G f args2 m (c:=⟨K⟩)) :fP P G f args l (c:=⟨K⟩):=by obtain⟨r,B,q,v,hk⟩:=h;exact⟨r,B,.ext (Ol (sn w p q) wk t z),dC u v,hk⟩
namespace Op
theorem wB {alZ:Type} {z:Nat} {enc:alZ->ag} {l:ae} {v:U} {j:Nat} {xs:List alZ} (s:bH alZ) (h:aJ z l v j (xs.map enc)) (o:bq v=s.isNone) (t:s.l=xs) :
  ∃ m,ir (aU l) (aU m)/\ip (aU l) (aU m) v (b0 z enc s)/\m.length=l.length/\∀ b,(v=.af\/b≠j)->m[b]?=l[b]?:=by
 cases s with
 | none=>
  have g:v=.af:=go.1 (by rw[o];rfl);subst g;exact⟨l,⟨rfl,fun b=>.inl rfl⟩,.same _,rfl,fun b _=>rfl⟩
 | some a=>
  have g:bq v=false:=by rw[o];rfl
  have u:a=xs:=t;obtain⟨h1,p⟩:=pt h g;refine⟨l.set j .dead,h1,by rw[u];exact p,V,fun b q=>?_⟩;rcases q with e | e
  ·rw[e] at g;cases g
  ·exact bp (Ne.symm e)
end Op
namespace Op
open b8
theorem AP {alZ:Type} {enc:alZ->ag} {z by_:Nat} (l:ae) (b:Nat) (m:l[b]?=some (.q 0 [])) (s:bH alZ) (h:∀ x∈s.l,(enc x).length=z) (j:z≠0) (t:by_≠0) (p:s.l.length*by_<=db) :
  ep l z by_ (.ad z b 0 0 0 0) (b0 z enc s)=some (.ad z b 0 s.l.length s.l.length (s.l.length*z),l.set b (.q (s.l.length*z) (s.l.map enc).flatten)):=by
 have v:=rJ h;unfold ep;rw[qj];simp only[];unfold ha;by_cases g:s.l.length=0
 ·have j:s.l=[]:=il.1 g;rw[j];obtain⟨u,o⟩:=aH.1 m;have:l.set b (.q 0 [])=l:=by rw[<-o,Ao]
  simp[this]
 ·rw[ak g,ak F];have w:¬ s.l=[]:=fun h=>g (by rw[h];rfl)
  simp[p,g,m]
theorem Ci (a:List B) :eN a a=false:=by
 cases h:eN a a with
 | false=>rfl
 | true=>rw[hO,kO] at h;omega
theorem tO (a b c:List B) (h1:eN a b=true) (g:eN b c=true) :eN a c=true:=(hO _ _).2 (nY a b c ((hO _ _).1 h1) ((hO _ _).1 g))
theorem Ia (a b:List B) (g:a≠b) (h:eN a b=false) :eN b a=true:=by
 rw[hO,nX];rcases vw a b with h1 | h1 | h1
 ·rw[(hO a b).2 F] at h;cases h
 ·exact bK (nW h1) g
 ·omega
theorem oo {l:aN} (h:bQ l=true) :l.Pairwise fun a b=>eN a b=true:=
 kD.2 fun i o g m j=>(hO _ _).2 (jK h j (bC g) (bC m))
theorem ub {l:aN} (h:l.Pairwise fun a b=>eN a b=true) :bQ l=true:=um fun k hk h1=>by
 have g:=bC hk;have j:=bC (l:=l) (i:=k - 1) F;rw[dx g,dx j];exact (hO _ _).1 ((kD.1 h) (k - 1) k F hk F)
section
variable {alZ:Type} {z:Nat} {enc:alZ->ag}
def gJ (s:bH alZ) (k:Nat) :bH alZ:=match s with | none=>none | some a=>some (a.take k)
def la (s:bH alZ) (k:Nat) :bH alZ:=match s with | none=>none | some a=>some (a.drop k)
theorem lV (s:bH alZ) (k:Nat) :(gJ s k).l=s.l.take k:=by cases s<;>simp[gJ]
theorem sq (s:bH alZ) (k:Nat) :(la s k).l=s.l.drop k:=by cases s<;>simp[la]
theorem DY {s:bH alZ} {k:Nat} (h:k<=s.l.length) :dB (.ad z) (b0 z enc s) none (some (.i6 (k:Int))) none=some (b0 z enc (gJ s k)):=by
 cases s with
 | none=>
  have:k=0:=by simpa using h
  subst this;rfl
 | some a=>exact DI (z:=z) (enc:=enc) (l:=a) (k:=.i64) (i:=(k:Int)) F (by have:k<=a.length:=h;omega)
theorem Ld {s:bH alZ} {k:Nat} (h:k<=s.l.length) :dB (.ad z) (b0 z enc s) (some (.i6 (k:Int))) none none=some (b0 z enc (la s k)):=by
 cases s with
 | none=>
  have:k=0:=by simpa using h
  subst this;rfl
 | some a=>exact KG (z:=z) (enc:=enc) (l:=a) (k:=.i64) (i:=(k:Int)) F (by have:k<=a.length:=h;omega)
theorem Ug {by_:Nat} {l:ae} {b c k:Nat} {s:bH alZ} {x:alZ} (w:l[b]?=some (.q 0 [])) (I:l[c]?=some (.q z (enc x))) (H:b≠c) (hk:k<=s.l.length) (O:∀ y∈s.l,(enc y).length=z) (G:(enc x).length=z) (o:z≠0) (p:by_≠0) (u:(s.l.length+1)*by_<=db) :
  ep l z by_ (.ad z b 0 0 0 0) (b0 z enc (gJ s k))=some (.ad z b 0 k k (k*z),l.set b (.q (k*z) ((s.l.take k).map enc).flatten)) ∧
  ep (l.set b (.q (k*z) ((s.l.take k).map enc).flatten)) z by_ (.ad z b 0 k k (k*z)) (.ad z c 0 1 1 z)=some (.ad z b 0 (k+1) (k+1) ((k+1)*z),l.set b (.q ((k+1)*z) ((s.l.take k++[x]).map enc).flatten)) ∧
  ep (l.set b (.q ((k+1)*z) ((s.l.take k++[x]).map enc).flatten)) z by_ (.ad z b 0 (k+1) (k+1) ((k+1)*z)) (b0 z enc (la s k)) =
   some (.ad z b 0 (c9 s.l k x).length (c9 s.l k x).length ((c9 s.l k x).length*z),l.set b (.q ((c9 s.l k x).length*z) ((c9 s.l k x).map enc).flatten)):=by
 have B:=aY w;have j:(s.l.take k).length=k:=by rw[cI];omega
 have v:∀ y∈s.l.take k,(enc y).length=z:=fun y g=>O y (gE g)
 have J:k*by_<=db:=dC (cj _ F) u;have K:(k+1)*by_<=db:=dC (cj _ F) u;refine⟨?_,?_,?_⟩
 ·have:=AP (enc:=enc) (by_:=by_) l b w (gJ s k) (by rw[lV];exact v) o p (by rw[lV,j];exact J);rw[lV,j] at this;exact this
 ·have:=Fm (l:=l.set b (.q (k*z) ((s.l.take k).map enc).flatten)) (z:=z) (by_:=by_) (b:=b) (n:=k) (m:=1) (sz:=k*z) (es:=(s.l.take k).map enc) (xs:=[enc x]) (x:=.ad z c 0 1 1 z)
   (bT B) (by simp[cD,bp H,I,G,aI]) (by rw[cC,j]) rfl rfl (fun e t=>by obtain⟨y,g,rfl⟩:=cF.1 t;exact v y g) o p K
  rw[this,Ap];simp
 ·have C:(la s k).l.length=s.l.length - k:=by rw[sq,iX]
  have D:k+1+(s.l.length - k)=(c9 s.l k x).length:=by rw[jc];omega
  have:=Fm (l:=l.set b (.q ((k+1)*z) ((s.l.take k++[x]).map enc).flatten)) (z:=z) (by_:=by_) (b:=b) (n:=k+1) (m:=s.l.length - k) (sz:=(k+1)*z) (es:=(s.l.take k++[x]).map enc) (xs:=(la s k).l.map enc) (x:=b0 z enc (la s k))
   (bT B) (by rw[qj,C]) (by rw[cC,cg,j];rfl) (by rw[cC,C]) rfl (fun e t=>by
    obtain⟨y,g,rfl⟩:=cF.1 t;rcases eQ.1 g with h | h
    ·exact v y h
    ·rw[fO.1 h];exact G) o p (by rw[D,jc];exact u)
  rw[this,Ap,D,sq,<-dk];unfold c9;simp
end
theorem xW (l:aN) (x:List B) :er l x<=l.length:=by unfold er;exact (List.takeWhile_sublist _).length_le
theorem Bb {x:List B}:∀ {l:aN} {k:Nat} {y:List B},k<er l x->l[k]?=some y->bD y x<0
 | [],k,y,_,h=>by simp at h
 | a::l,k,y,hk,h=>by
  unfold er at hk;rw[Aq] at hk;by_cases g:bD a x<0
  ·cases k with
   | zero=>simp at h;subst h;exact g
   | succ k=>
    rw[bW g] at hk;simp at hk h;exact Bb (l:=l) (by unfold er;exact hk) h
  ·rw[cp g] at hk;simp at hk
theorem Ba {x:List B}:∀ {l:aN} {y:List B},l[er l x]?=some y->¬ bD y x<0
 | [],y,h=>by simp at h
 | a::l,y,h=>by
  unfold er at h;rw[Aq] at h;by_cases g:bD a x<0
  ·rw[bW g] at h;simp at h;exact Ba (l:=l) (by unfold er;exact h)
  ·rw[cp g] at h;simp at h;subst h;exact g
theorem Vn {l:aN} {x:List B} (h:bQ l=true) (C:x∉l) :bQ (c9 l (er l x) x)=true:=by
 have t:=oo h;have G:=xW l x;refine ub ?_;unfold c9;have q:∀ y∈l.take (er l x),eN y x=true:=fun y g=>by
  obtain⟨k,hk⟩:=cc.1 g;have z:=(aH.1 hk).1;rw[cI] at z;rw[dG F] at hk;exact (hO _ _).2 (Bb F hk)
 have p:∀ y∈l.drop (er l x),eN x y=true:=fun y g=>by
  have H:=sT g;obtain⟨k,hk⟩:=cc.1 g;rw[gn] at hk;obtain⟨m,j,D⟩:=aQ (l:=l) (k:=er l x) (by have:=(aH.1 hk).1;omega);have h1:eN x m=true:=Ia m x (fun e=>C (by rw[<-e];exact D)) (by
   cases u:eN m x with
   | false=>rfl
   | true=>exact bK ((hO _ _).1 u) (Ba j))
  by_cases w:k=0
  ·subst w;rw[nG,j] at hk;obtain rfl:=cd hk;exact h1
  ·exact tO _ _ _ h1 ((hO _ _).2 (jK h (show er l x<er l x+k by omega) j hk))
 rw[rc];refine⟨t.sublist (EI _ _),uW.2 ⟨p,t.sublist (List.drop_sublist _ _)⟩,fun a o b v=>?_⟩;rcases fX.1 v with e | e
 ·rw[e];exact q a o
 ·exact tO _ _ _ (q a o) (p b e)
def jb (l:aN) (x:List B) :aN:=if l[er l x]?=some x then l else c9 l (er l x) x
def kt (l:aN) :Nat->aN
 | 0=>[]
 | k+1=>jb (kt l k) (bn l k)
def uw (l:aN) :aN:=kt l l.length
theorem Q4 {l:aN} {x y:List B}:y∈jb l x<->y=x\/y∈l:=by
 unfold jb;split
 ·rename_i h;exact⟨.inr,fun g=>g.elim (fun e=>by rw[e];exact cz h) id⟩
 ·exact mr
theorem Q3 (l:aN) (x:List B) :(jb l x).length<=l.length+1:=by
 unfold jb;split
 ·omega
 ·rw[jc];omega
theorem OQ {l:aN} (h:bQ l=true) {x:List B} (g:x∈l) :l[er l x]?=some x:=by obtain⟨k,hk⟩:=cc.1 g;rw[A9 h hk];exact hk
theorem HG {l:aN} (h:bQ l=true) (x:List B) :bQ (jb l x)=true:=by
 unfold jb;split
 ·exact h
 ·rename_i g;exact Vn h fun j=>g (OQ h j)
theorem DM {l:aN} {y:List B}:∀ {k:Nat},k<=l.length->(y∈kt l k<->y∈l.take k)
 | 0,_=>by simp[kt]
 | k+1,hk=>by
  obtain⟨x,g,_⟩:=aQ (l:=l) (k:=k) F;show y∈jb _ _<->_;rw[Q4,DM F,eD,g,dx g,eQ];simp;exact or_comm
theorem DL {l:aN}:∀ {k:Nat},(kt l k).length<=k
 | 0=>by simp[kt]
 | k+1=>dC (Q3 _ _) (by have:=DL (l:=l) (k:=k);omega)
theorem KR {l:aN}:∀ {k:Nat},bQ (kt l k)=true
 | 0=>by unfold kt bQ;exact bW fun k hk=>by simp at hk
 | k+1=>HG KR _
theorem KQ {l:aN} {y:List B}:y∈uw l<->y∈l:=by unfold uw;rw[DM (aF _),fl]
theorem Wz (l:aN) :bQ (uw l)=true:=KR
theorem Lc {alZ:Type} {l:List alZ} (h:l≠[]) :cO l=some l:=by cases l with | nil=>exact bK rfl h | cons=>rfl
theorem UQ (s:bP) (aW:cU s) (bk:s.l.length<=1000000) :aV 127 [ai s] (ai (cO (uw s.l))):=by
 apply a8 func127 [[],[],da 0 4++da 5 5++[[11],[12],[13],[4,9,8],[10]]];have a9:=dw;have aU:bt (.ad 32) (ai s)=_:=ca _;simp;refine bw s.l.length (fun k m l=>m 0=ai s/\m 3=ai (cO (kt s.l k))/\m 4=.i6 k) ?_ ⟨V,by simp[kt];rfl,V⟩;rintro k m l hk ⟨Q,R,S⟩;obtain⟨m,rfl⟩:=gj Q R S;clear Q R S;have aC:=cl (k:=k) F;by_cases J:k<s.l.length
 ·obtain⟨x,aY,bd⟩:=aQ J;have az:=aW x bd;have o:=br az;have aL:=cP x;have H:bF (.ad 32) (ai s) _=_:=c6 aY;have u:∀ y∈kt s.l k,y.length=32:=fun y j=>aW y (gE ((DM (jW J)).1 j))
  have a6:=DL (l:=s.l) (k:=k);have ay:kt s.l (k+1)=jb (kt s.l k) x:=by show jb _ (bn s.l k)=_;rw[dx aY]
  obtain⟨O,aD⟩:=aq (cO (kt s.l k));have aS:O.l=kt s.l k:=by rw[aD,dr]
  have a5:cO O.l=O:=by rw[aS,aD]
  rw[<-aS] at u a6 ay;have W:bt (.ad 32) (ai O)=_:=ca _;obtain⟨c,G⟩:=aq (er O.l x);have bh:c<=O.l.length:=by rw[G];exact xW _ _
  have a1:∀ (g:Nat) (y:List B),O.l[g]?=some y->bF (.ad 32) (ai O) (.i6 (g:Int))=some (.bR (ao y) 0):=fun g y j=>by simp[ai,j]
  obtain⟨X,D⟩:=aq (ao x);rw[<-D] at o aL H;have v:X.take 32=X:=aI F;rw[<-aD];simp[aU,J];refine bw c (fun g m t=>t=l/\m 0=ai s/\m 3=ai O/\m 4=.i6 k/\m 5=.i6 g) ?_ ⟨rfl,V,V,V,V⟩;rintro g m t bi ⟨rfl,Q,R,S,aM⟩;obtain⟨m,rfl⟩:=e2 Q R S aM;clear Q R S aM;have a2:=cl (k:=g) F;by_cases aT:g<c
  ·obtain⟨y,j,P⟩:=aQ (l:=O.l) (k:=g) F;have K:bD y x<0:=Bb (by rw[<-G];exact aT) j;have ap:g<O.l.length:=F;have C:=br (u y P);have Y:=cP y;have p:=Dd y x (u y P) az;change aV _ [.ah (ao y),.ah (ao x)] _ at p;have w:=a1 g y j;rw[<-D] at p;obtain⟨aB,aE⟩:=aq (ao y);rw[<-aE] at w C Y p;simp[W,ap,w,C,H,o,v,aI];refine av p (by simp[ar,U.ax,aL,Y]) ?_;simp[K,a2];exact aT
  ·have al:g=c:=F;have t1:dB (.ad 32) (ai O) none (some (.i6 (g:Int))) none=some (ai (gJ O g)):=DY F;have t2:dB (.ad 32) (ai O) (some (.i6 (g:Int))) none none=some (ai (la O g)):=Ld F;obtain⟨I,T⟩:=aq (c9 O.l g x);obtain⟨bf,a3⟩:=aq (((O.l.take g).map ao).flatten);obtain⟨bg,a4⟩:=aq (((O.l.take g++[x]).map ao).flatten);have a0:∀ y∈O.l,(ao y).length=32:=fun y j=>br (u y j)
   obtain⟨ae,aA,ag⟩:=Ug (enc:=ao) (z:=32) (by_:=32) (l:=t++[.q 0 [],.q 32 X]) (b:=t.length) (c:=t.length+1) (k:=g) (s:=O) (x:=x) V (by rw[D];simp) F F a0 (by rw[<-D];exact o) F F (by rw[a9];omega);change ep _ _ _ _ (ai _)=_ at ae ag;have bc:∀ c:am,(t++[am.q 0 [],.q 32 X]).set t.length c=t++[c,.q 32 X]:=fun c=>V
   simp only[<-T,<-a3,<-a4,bc] at ae aA ag;have aP:∀ y∈I,(ao y).length=32:=fun y j=>by
    rw[T,mr] at j;rcases j with h | h
    ·rw[h,<-D];exact o
    ·exact a0 y h
   have aO:I≠[]:=fun h=>by have:=cm List.length h;rw[T,jc] at this;simp at this
   have aN:U.bj 32 (I.map ao)=ai (some I):=rfl;have aX:aw (bO 32 (.int .u8 0)) 0 X=X:=cH (by rw[o];rfl);by_cases ap:g<O.l.length
   ·obtain⟨y,j,P⟩:=aQ ap;have K:¬ bD y x<0:=Ba (by rw[<-G,<-al];exact j);have C:=br (u y P);have Y:=cP y;have p:=Dd y x (u y P) az;change aV _ [.ah (ao y),.ah (ao x)] _ at p;have w:=a1 g y j;have au:=qq (u y P) az;have aH:¬ (g:Int)=O.l.length:=F;have aJ:¬ g=O.l.length:=F;rw[<-D] at p au;obtain⟨aB,aE⟩:=aq (ao y);rw[<-aE] at w C Y p au;simp[W,ap,w,C,H,o,v,aI];refine av p (by simp[ar,U.ax,aL,Y]) ?_;by_cases Z:y=x
    ·have bb:jb O.l x=O.l:=by unfold jb;rw[<-G,<-al,j,Z,aj rfl]
     have bl:¬ bD x x<0:=by rw[Z] at K;exact K
     have aK:dP prog .neq 57 (.ah aB) (.ah X)=some (.bool false):=by rw[au,bW Z];rfl
     simp[K,W,aH,w,C,H,o,v,aI,aK,aC];exact⟨J,by rw[ay,bb,a5]⟩
    ·have aG:jb O.l x=I:=by unfold jb;rw[<-G,<-al,j,ak (fun h=>Z (cd h)),T]
     have aK:dP prog .neq 57 (.ah aB) (.ah X)=some (.bool true):=by rw[au,cp Z];rfl
     simp[K,W,aH,w,C,H,o,v,aI,aK,t1,t2,aX,ae];refine bY.bo ?_;simp[aA,o,v];refine bY.bo ?_;simp[ag];refine bY.yj (by exact qG aP rfl V) rfl ?_;simp[aN,aC];exact⟨J,by rw[ay,aG,Lc aO]⟩
   ·have aH:(g:Int)=O.l.length:=F;have aJ:g=O.l.length:=F;have aG:jb O.l x=I:=by unfold jb;rw[<-G,<-al,ak,T];rw[dV F];simp
    rw[aJ] at t1 t2 ae aA ag;simp[W,aJ,H,o,v,t1,t2,aX,ae];refine bY.bo ?_;simp[aA,o,v];refine bY.bo ?_;simp[ag];refine bY.yj (by exact qG aP rfl V) rfl ?_;simp[aN,aC];exact⟨J,by rw[ay,aG,Lc aO]⟩
 ·have a7:k=s.l.length:=F;subst a7;simp[aU];exact aR rfl (bV _)
end Op
end Go.bf

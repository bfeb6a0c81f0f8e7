/-
  Graphs: their shape, in the reference.
-/
import Derived.Test.YtdjbnhgdhambnaaGreatDoorWh
set_option maxHeartbeats 16000000
set_option maxRecDepth 100000
set_option linter.unusedVariables false
set_option linter.unusedSimpArgs false
set_option linter.unnecessarySimpa false
namespace Go.bh
open Go Go.Proofs Go.Proofs.Tryz
namespace Op
open ca
def pN (idsZ:aO) (opsZ:List aG) :Bool:=decide (∀ g∈opsZ,ik idsZ g.ay.l=true)
def jF (idsZ:aO) (opsZ:List aG) :Int:=if bX idsZ=true then (if pN idsZ opsZ=true then (if (l5 idsZ opsZ).length=opsZ.length then 0 else 36) else 40) else 32
theorem VZ (g:aU) (m:ff g) (J:g.idsZ.l.length=g.opsZ.l.length) :aY 74 [cH g] (.i6 (jF g.idsZ.l g.opsZ.l)):=by
 apply bc func74 [[],[[0],[3],[4],[5],[1,4],[2]]];have H:=bU g.idsZ;have ap:=i7 g.opsZ;have G:=ph g;have O:bx (.ad 11) (bF g.opsZ)=_:=cd _;have aw:=m.ju;have am:=DG g.idsZ m.idsZ m.li;simp[cH,bf];refine av am (by simp[aq,H]) ?_;by_cases o:bX g.idsZ.l=true
 ·have I:=mH o;have S:=VO g m J I;unfold cH bf at S G;simp[o];refine bz g.opsZ.l.length (fun k w l=>l=[.q 2 [ai g.idsZ,bF g.opsZ]]/\w 1=.ptr 0 0 2/\w 3=.i6 k/\∀ (p:Nat) (j:aG),p<k->g.opsZ.l[p]?=some j->ik g.idsZ.l j.ay.l=true) ?_ V;rintro k w l hk ⟨rfl,C,D,T⟩;obtain⟨w,rfl⟩:=kb C D;clear C D;by_cases v:k<g.opsZ.l.length
  ·obtain⟨j,Q,u⟩:=aP v;have W:=cq (k:=k) F;have Z:bO (.ad 11) (bF g.opsZ) _=_:=dg Q;have X:=DB g.idsZ m.idsZ m.li j.ay (m.opsZ j u).idsZ (m.opsZ j u).len;have Y:=bU j.ay;simp[O,v,Z,au];refine av X (by simp[aq,H,Y]) ?_;by_cases t:ik g.idsZ.l j.ay.l=true
   ·simp[t,v,W];intro p ao z B;by_cases ae:p=k
    ·subst ae;rw[Q] at B;obtain rfl:=cg B;exact t
    ·exact T p ao F B
   ·rw[xM] at t;simp[t];refine aT (ch (U.int .i64) ?_) rfl;have al:¬ pN g.idsZ.l g.opsZ.l=true:=fun h=>by
     have:=iZ h j u;rw[t] at this;cases this
    unfold jF;rw[aj o,ak al]
  ·have ag:k=g.opsZ.l.length:=F;have R:pN g.idsZ.l g.opsZ.l=true:=bY fun j u=>by
    obtain⟨p,z⟩:=cj.1 u;exact T p j (by rw[ag];exact (aK.1 z).1) z
   have ar:(l5 g.idsZ.l g.opsZ.l).length<=g.opsZ.l.length:=(wU g.idsZ.l g.opsZ.l J I _).2.1;have K:bx (.ad 1) (B1 (cL (l5 g.idsZ.l g.opsZ.l)))=some (.i6 (l5 g.idsZ.l g.opsZ.l).length):=by unfold B1;rw[cd,dr]
   simp[O,v];refine av S (by simp[aq,G]) ?_;by_cases P:(l5 g.idsZ.l g.opsZ.l).length<g.opsZ.l.length
   ·simp[K,P];refine aT (ch (U.int .i64) ?_) rfl;unfold jF;rw[aj o,aj R,ak F]
   ·simp[K,P];refine aT (ch (U.int .i64) ?_) rfl;unfold jF;rw[aj o,aj R,aj F]
 ·rw[xM] at o;simp[o];refine aT (ch (U.int .i64) ?_) rfl;unfold jF;rw[o];rfl
def jW (g:aU) (k:Nat) :Bool:=match g.opsZ.l[k]?,g.idsZ.l[k]? with
 | some h,some x=>decide (eA h=0)&&decide (bE h=x)
 | _,_=>true
def r5 (g:aU) :Bool:=decide (∀ k,k<g.opsZ.l.length->jW g k=true)
theorem r6 (g:aU) :r5 g=true<->∀ k,k<g.opsZ.l.length->jW g k=true:=by unfold r5;rw[bC]
def e2 (g:aU) :Int:=if 60<g.opsZ.l.length then 4 else if g.idsZ.l.length=g.opsZ.l.length then (if r5 g=true then jF g.idsZ.l g.opsZ.l else 8) else 8
theorem v8 {g:aU} {k:Nat} {o:aG} {x:List B} (h:g.opsZ.l[k]?=some o) (j:g.idsZ.l[k]?=some x) :jW g k=(decide (eA o=0)&&decide (bE o=x)):=by unfold jW;rw[h,j]
theorem u1 {o:aG} (h:eA o=0) :c3 o=0:=by
 unfold eA at h;by_cases g:c3 o=0
 ·exact g
 ·rw[ak g] at h;exact h
theorem px (o:aG) :(bE o).length=32:=by
 unfold bE;split
 ·exact jE _
 ·simp
theorem VD (g:aU) (o:ff g) :aY 29 [cH g] (.i6 (e2 g)):=by
 apply bc func29 [db 0 13++db 14 5++[[13,18,15]]];have aJ:=bU g.idsZ;have aK:=i7 g.opsZ;have W:=ph g;have t:bx (.ad 11) (bF g.opsZ)=_:=cd _;have Y:bx (.ad 32) (ai g.idsZ)=_:=cd _;have aN:=o.ju;by_cases J:60<(g.opsZ.l.length:Int)
 ·simp[cH,bf,t,J];refine aT (ch (U.int .i64) ?_) rfl;unfold e2;rw[aj F]
 by_cases C:g.idsZ.l.length=g.opsZ.l.length
 ·have al:=VZ g o C;unfold cH bf at al W;have P:(g.idsZ.l.length:Int)=(g.opsZ.l.length:Int):=F;simp[cH,bf,t,Y,J,P];refine bz g.opsZ.l.length (fun k I l=>l=[.q 2 [ai g.idsZ,bF g.opsZ]]/\I 1=.ptr 0 0 2/\I 3=.i6 k/\∀ m,m<k->jW g m=true) ?_ V;rintro k I l hk ⟨rfl,Q,R,ag⟩;obtain⟨I,rfl⟩:=kb Q R;clear Q R;by_cases p:k<g.opsZ.l.length
  ·obtain⟨j,Z,ae⟩:=aP p;obtain⟨x,am,ap⟩:=aP (l:=g.idsZ.l) (k:=k) F;have O:=v8 Z am;have ax:=cq (k:=k) F;have z:bO (.ad 11) (bF g.opsZ) _=_:=dg Z;have X:bO (.ad 32) (ai g.idsZ) _=_:=dg am;have G:=KE j (o.opsZ j ae);have w:=dV j;have H:=bu (o.idsZ x ap);have D:(au j).length=11:=rfl;have T:¬ jW g k=true->e2 g=8:=fun h=>by
    unfold e2;rw[ak F,aj C,ak fun aB=>h ((r6 g).1 aB k p)]
   by_cases v:eA j=0
   ·have S:=u1 v;have u:=DD j (o.opsZ j ae) (by have:=pM S;omega);have aC:bE j=fr (fj j):=by unfold bE;rw[aj S]
    rw[<-aC] at u;have heq:=pw (px j) (o.idsZ x ap);change aY 73 [.ah (au j)] (.ah (ar (bE j))) at u;obtain⟨aF,ay⟩:=ao (ar (bE j));rw[<-ay] at u heq;rw[v] at G;obtain⟨aG,az⟩:=ao (au j);obtain⟨aH,aA⟩:=ao (ar x);rw[<-az] at z G u w D;rw[<-aA] at X H heq;simp[t,p,z,D,aL];refine av G (by simp[aq,U.aw,w]) ?_;simp[D,X,H,z,aL];refine av u (by simp[aq,U.aw,w]) ?_;by_cases B:bE j=x
    ·simp[heq,B,p,ax,H,aL];intro m aD;by_cases aE:m=k
     ·subst aE;rw[O];simp[v,B]
     ·exact ag m F
    ·have K:¬ jW g k=true:=fun h=>by rw[O] at h;simp[B] at h
     simp[heq,B,H,aL];exact aT (ch (U.int .i64) (T K).symm) rfl
   ·have K:¬ jW g k=true:=fun h=>by rw[O] at h;simp[v] at h
    simp[t,p,z,D,aL];refine av G (by simp[aq,U.aw,w]) ?_;simp[v];exact aT (ch (U.int .i64) (T K).symm) rfl
  ·have aM:k=g.opsZ.l.length:=F;simp[t,p];refine av al (by simp[aq,W]) ?_;simp;refine aT (ch (U.int .i64) ?_) rfl;unfold e2;rw[ak F,aj C,aj ((r6 g).2 fun m aD=>ag m F)]
 ·have P:¬ (g.idsZ.l.length:Int)=(g.opsZ.l.length:Int):=F;simp[cH,bf,t,Y,J,P];refine aT (ch (U.int .i64) ?_) rfl;unfold e2;rw[ak F,ak C]
def lX (idsZ:aO) (D:List Nat) (p:List B) :Nat:=(D.map fun a=>if p == bo idsZ a then 1 else 0).sum
def j8 (idsZ:aO) (D:List Nat) (L:aO) :Nat:=(D.map fun a=>L.count (bo idsZ a)).sum
theorem X8 (idsZ:aO) (D:List Nat) :j8 idsZ D []=0:=by
 unfold j8
 induction D with
 | nil=>rfl
 | cons a D g=>rw[df,th,g];rfl
theorem Mc (idsZ:aO) (p:List B) (L:aO) :∀ D,j8 idsZ D (p::L)=j8 idsZ D L+lX idsZ D p
 | []=>rfl
 | a::D=>by
  have g:=Mc idsZ p L D;unfold j8 lX at g ⊢;rw[df,th,df,th,df,th,g,List.count_cons];omega
theorem EA (idsZ:aO) (D:List Nat) (a:Nat) (L:aO) :j8 idsZ (D++[a]) L=j8 idsZ D L+L.count (bo idsZ a):=by unfold j8;rw[c5,List.sum_append];simp
theorem Ga {idsZ:aO} (p:kY idsZ) {i j:Nat} (o:i<idsZ.length) (q:j<idsZ.length) (h:bo idsZ i=bo idsZ j) :i=j:=by obtain⟨x,g,_⟩:=aP o;obtain⟨y,m,_⟩:=aP q;rw[dG g,dG m] at h;subst h;exact p i j x g m
theorem H4 {idsZ:aO} {p:List B}:∀ {D:List Nat},(∀ a∈D,bo idsZ a≠p)->lX idsZ D p=0
 | [],_=>rfl
 | a::D,h=>by
  have g:=H4 (idsZ:=idsZ) (p:=p) (D:=D) fun b m=>h b (by simp[m])
  have j:(p == bo idsZ a)=false:=by rw[beq_eq_false_iff_ne];exact Ne.symm (h a V)
  unfold lX at g ⊢;rw[df,th,g,j];rfl
theorem H3 {idsZ:aO} (u:kY idsZ) {p:List B}:∀ {D:List Nat},D.Nodup->(∀ a∈D,a<idsZ.length)->lX idsZ D p<=1/\(lX idsZ D p=1<->∃ a∈D,bo idsZ a=p)
 | [],_,_=>⟨ek _,Iff.intro (fun h=>(by cases h)) (fun ⟨a,j,_⟩=>(by cases j))⟩
 | a::D,q,o=>by
  rw[vf] at q;obtain⟨C,F⟩:=H3 (p:=p) u q.2 (fun b w=>o b (by simp[w]));by_cases h:bo idsZ a=p
  ·have v:lX idsZ D p=0:=H4 fun b t z=>q.1 (by rw[Ga u (o a V) (o b (by simp[t])) (h.trans z.symm)];exact t)
   have j:(p == bo idsZ a)=true:=by rw[h];simp
   have e:lX idsZ (a::D) p=1:=by
    unfold lX at v ⊢;rw[df,th,v,j];rfl
   rw[e];exact⟨aI _,fun _=>⟨a,V,h⟩,fun _=>rfl⟩
  ·have j:(p == bo idsZ a)=false:=by rw[beq_eq_false_iff_ne];exact Ne.symm h
   have e:lX idsZ (a::D) p=lX idsZ D p:=by
    unfold lX;rw[df,th,j];simp
   rw[e];refine⟨C,F.trans ⟨fun ⟨b,g,m⟩=>⟨b,by simp[g],m⟩,fun ⟨b,g,m⟩=>?_⟩⟩;rw[hZ] at g;rcases g with rfl | g
   ·exact bP m h
   ·exact⟨b,g,m⟩
theorem EB {idsZ:aO} (u:kY idsZ) {D:List Nat} (v:D.Nodup) (t:∀ a∈D,a<idsZ.length) :∀ L:aO,j8 idsZ D L<=L.length/\(j8 idsZ D L=L.length<->∀ p∈L,∃ a∈D,bo idsZ a=p)
 | []=>by rw[X8];exact⟨aI _,Iff.intro (fun _ p z=>by cases z) (fun _=>rfl)⟩
 | p::L=>by
  obtain⟨B,w⟩:=EB u v t L;obtain⟨h1,o⟩:=H3 (p:=p) u v t;rw[Mc,dE];refine⟨F,fun h=>?_,fun h=>?_⟩
  ·have j:j8 idsZ D L=L.length:=F;have m:lX idsZ D p=1:=F;intro q g;rw[hZ] at g;rcases g with rfl | g
   ·exact o.1 m
   ·exact w.1 j q g
  ·have j:=w.2 fun q g=>h q (by simp[g])
   have m:=o.2 (h p V);omega
structure A7 (idsZ:aO) (opsZ:List aG) (g:List (List Nat)) :Prop where
 len:g.length=opsZ.length
 cnt:∀ (a:Nat) (row:List Nat),g[a]?=some row->∀ k,k<opsZ.length->row.count k=(dO opsZ k).count (bo idsZ a)
 lt:∀ (a:Nat) (row:List Nat),g[a]?=some row->∀ k∈row,k<opsZ.length
structure n1 (idsZ:aO) (opsZ:List aG) (row:List Nat) (d j:Nat) (R:List Nat) (W:List Int) :Prop where
 ll:R.Nodup
 lV:∀ k∈R,k<opsZ.length/\mr idsZ opsZ k
 dl:d<=R.length
 wl:W.length=opsZ.length
 w:∀ k,k<opsZ.length->W[k]?=some (((dO opsZ k).length:Int) - j8 idsZ (R.take d) (dO opsZ k) - (row.take j).count k)
 r:∀ k,k<opsZ.length->(k∈R<->W[k]?=some 0)
theorem SK {idsZ:aO} {opsZ:List aG} (az:idsZ.length=opsZ.length) (P:kY idsZ) {G:List (List Nat)} (J:A7 idsZ opsZ G) {a:Nat} {row:List Nat} {d j:Nat} {R:List Nat} {W:List Int}
  (h:n1 idsZ opsZ row d j R W) (H:R[d]?=some a) (T:G[a]?=some row) {k:Nat} (hk:row[j]?=some k) :
  ∃ x:Int,W[k]?=some x/\1<=x/\x<=(dO opsZ k).length/\n1 idsZ opsZ row d (j+1) (if x - 1=0 then R++[k] else R) (W.set k (x - 1)):=by
 have t:=J.lt a row T k (cE hk);have K:=J.cnt a row T k t;have ay:=(aK.1 H).1;have U:R.take (d+1)=R.take d++[a]:=by rw[eU,H];rfl
 have al:(R.take (d+1)).Nodup:=List.Sublist.nodup (Fr _ _) h.ll;have v:∀ b∈R.take (d+1),b<idsZ.length:=fun b Z=>by have:=(h.lV b (gh Z)).1;omega
 obtain⟨av,aw⟩:=EB P al v (dO opsZ k);rw[U,EA,<-K] at av;have ae:(row.take (j+1)).count k=(row.take j).count k+1:=by
  rw[eU,hk,vc];simp
 have ax:(row.take (j+1)).count k<=row.count k:=List.Sublist.count_le _ (Fr _ _);have C:=h.w k t;obtain⟨x,aq⟩:=ao (((dO opsZ k).length:Int) - j8 idsZ (R.take d) (dO opsZ k) - (row.take j).count k:Int);rw[<-aq] at C;have ar:1<=x:=F;have Q:k∉R:=fun z=>by
  have:=(h.r k t).1 z;rw[C] at this;have:=cg this;omega
 refine⟨x,C,ar,F,?_⟩;have S:k<W.length:=by rw[h.wl];exact t
 have ap:(if x - 1=0 then R++[k] else R).take d=R.take d:=by
  split
  ·rw[ig F]
  ·rfl
 have am:x - 1=0->mr idsZ opsZ k:=fun o=>by
  have heq:j8 idsZ (R.take (d+1)) (dO opsZ k)=(dO opsZ k).length:=by rw[U,EA,<-K];omega
  have I:=aw.1 heq;have O:∀ m,m<idsZ.length->idsZ[m]?=some (bo idsZ m):=fun m q=>by
   obtain⟨y,g,_⟩:=aP (l:=idsZ) q;rw[g,dG g]
  refine .mk k F (fun D B=>?_) fun D B au ai=>?_
  ·obtain⟨m,q,rfl⟩:=I D B;exact cE (O m (v m q))
  ·obtain⟨m,q,rfl⟩:=I D B;rw[P au m _ ai (O m (v m q))];exact (h.lV m (gh q)).2
 refine⟨?_,fun y g=>?_,?_,by simpa using h.wl,fun y g=>?_,fun y g=>?_⟩
 ·split
  ·rw[Fo];refine⟨h.ll,V,fun u X aA Y e=>?_⟩;rw[fB] at Y;subst e;rw[Y] at X;exact Q X
  ·exact h.ll
 ·split at g
  ·rename_i o;rw[fm,fB] at g;rcases g with g | rfl
   ·exact h.lV y g
   ·exact⟨t,am o⟩
  ·exact h.lV y g
 ·split
  ·simp;have:=h.dl;omega
  ·exact h.dl
 ·rw[ap,nT];by_cases p:k=y
  ·subst p;rw[aj rfl,aj S,ae];congr 1;omega
  ·rw[ak p,h.w y g,eU,hk,vc];have:([k] :List Nat).count y=0:=by rw[AN];simp[p]
   simp only[Option.toList_some,this,nW]
 ·rw[nT];by_cases p:k=y
  ·subst p;rw[aj rfl,aj S];by_cases o:x - 1=0
   ·rw[aj o];simp[o]
   ·rw[ak o];exact⟨fun z=>bP z Q,fun ag=>bP (cg ag) o⟩
  ·rw[ak p,<-h.r y g];split
   ·rw[fm,fB];exact⟨fun h=>h.resolve_right (Ne.symm p),.inl⟩
   ·exact Iff.rfl
theorem SH {idsZ:aO} {opsZ:List aG} {g:List (List Nat)} (m:A7 idsZ opsZ g) {a:Nat} {row q:List Nat} {d:Nat} {R:List Nat} {W:List Int}
  (h:n1 idsZ opsZ row d row.length R W) (j:R[d]?=some a) (o:g[a]?=some row) :n1 idsZ opsZ q (d+1) 0 R W:=by
 have p:R.take (d+1)=R.take d++[a]:=by rw[eU,j];rfl
 refine⟨h.ll,h.lV,(aK.1 j).1,h.wl,fun k hk=>?_,h.r⟩;rw[h.w k hk,p,EA,fC,m.cnt a row o k hk,nb,List.count_nil];congr 1;omega
theorem SI {idsZ:aO} {opsZ:List aG} {row g:List Nat} {d:Nat} {R:List Nat} {W:List Int} (h:n1 idsZ opsZ row d 0 R W) :n1 idsZ opsZ g d 0 R W:=
 ⟨h.ll,h.lV,h.dl,h.wl,fun k hk=>by rw[h.w k hk,nb,nb],h.r⟩
theorem SJ {idsZ:aO} {opsZ:List aG} (o:idsZ.length=opsZ.length) :n1 idsZ opsZ [] 0 0 ((List.range opsZ.length).filter fun k=>(dO opsZ k).isEmpty) ((List.range opsZ.length).map fun k=>((dO opsZ k).length:Int)):=by
 refine⟨List.Sublist.nodup ki AV,fun k hk=>?_,ek _,V,fun k hk=>?_,fun k hk=>?_⟩
 ·rw[dy,g7] at hk;have j:dO opsZ k=[]:=xR.1 hk.2;exact⟨hk.1,.mk k F (fun m g=>by rw[j] at g;cases g) fun m g=>by rw[j] at g;cases g⟩
 ·rw[bW,hp hk];simp[j8]
 ·rw[dy,g7,bW,hp hk];simp only[cz,bd,hk,true_and,xR];constructor
  ·intro h;rw[h];rfl
  ·intro h;exact ic.1 F
theorem SG {idsZ:aO} {opsZ:List aG} (F:idsZ.length=opsZ.length) (o:kY idsZ) {row:List Nat} {R:List Nat} {W:List Int} (h:n1 idsZ opsZ row R.length 0 R W) :
  R.length<=opsZ.length/\(R.length=opsZ.length<->(l5 idsZ opsZ).length=opsZ.length):=by
 have G:R.length<=opsZ.length:=by
  have:=pY (b:=List.range opsZ.length) h.ll fun x I=>g7.2 (h.lV x I).1
  simpa using this
 refine⟨G,?_⟩;rw[Dg F o];constructor
 ·intro C i g;exact (h.lV i (Jl h.ll C (fun i g=>(h.lV i g).1) i g)).2
 ·intro z;have D:∀ i,mr idsZ opsZ i->i<opsZ.length->i∈R:=by
   intro i m
   induction m with
   | mk i g H m J=>
    intro p;rw[h.r i p,h.w i p,fC];have B:=(EB o h.ll (fun a v=>by have:=(h.lV a v).1;omega) (dO opsZ i)).2.2 fun u q=>by
     obtain⟨t,j⟩:=cj.1 (H u q);exact⟨t,J u q t j (by have:=(aK.1 j).1;omega),dG j⟩
    rw[B];simp
  have:=pY (a:=List.range opsZ.length) (b:=R) AV fun i g=>D i (z i (g7.1 g)) (g7.1 g)
  simp at this;omega
structure i0 (l:ae) (vs:ag) (g:List (List Nat)) (da:Nat->Nat) :Prop where
 rk:vs.length=g.length
 own:∀ (a:Nat) (v:U) (row:List Nat),vs[a]?=some v->g[a]?=some row->aM 1 l v (da a) (row.map ga)/\bt v=row.isEmpty/\(row=[]\/3<=da a)
 apart:∀ (a b:Nat) (h j:List Nat),a≠b->g[a]?=some h->g[b]?=some j->h≠[]->j≠[]->da a≠da b
def lK (g:List (List Nat)) (da:Nat->Nat) (b:Nat) :Prop:=∀ (a:Nat) (row:List Nat),g[a]?=some row->row≠[]->da a≠b
theorem i0.lt {l:ae} {vs:ag} {g:List (List Nat)} {da:Nat->Nat} (h:i0 l vs g da) {a:Nat} {row:List Nat} (j:g[a]?=some row) (o:row≠[]) :da a<l.length:=by
 have m:a<vs.length:=by rw[h.rk];exact (aK.1 j).1
 obtain⟨p,n,_⟩:=h.own a vs[a] row (bI m) j;rcases p.lt with h1 | h1
 ·rw[h1] at n;cases row with
  | nil=>exact bP rfl o
  | cons=>cases n
 ·exact h1
theorem i0.frame {l l' : ae} {vs:ag} {g:List (List Nat)} {da:Nat->Nat} (h:i0 l vs g da) (o:∀ b,b<l.length->(∃ a row,g[a]?=some row/\row≠[]/\da a=b)->l'[b]?=l[b]?) :i0 l' vs g da:=by
 refine⟨h.rk,fun a v row q m=>?_,h.apart⟩;obtain⟨t,n,u⟩:=h.own a v row q m;refine⟨?_,n,u⟩;by_cases j:row=[]
 ·subst j;have:=gC.1 n;subst this;exact .nil _
 ·exact t.frame fun p=>o _ p ⟨a,row,m,j,rfl⟩
theorem i0.more {l:ae} {vs:ag} {g:List (List Nat)} {da:Nat->Nat} (h:i0 l vs g da) (x:ae) :i0 (l++x) vs g da:=h.frame fun b j _=>aV j
theorem i0.app {l:ae} {vs:ag} {m:List (List Nat)} {da:Nat->Nat} (h:i0 l vs m da) {a k b:Nat} {v:U} {row:List Nat} (ay:vs[a]?=some v) (J:m[a]?=some row) (ar:l[b]?=some (.q 1 [.i6 (k:Int)])) (aq:3<=l.length) (ax:(row.length+1)*8<=dk) :
  ∃ o l' Z,eE l 1 8 v (.ad 1 b 0 1 1 1)=some (o,l')/\i0 l' (vs.set a o) (m.set a (row++[k])) Z/\l.length<=l'.length/\o.cells=some [o] ∧
   ∀ c,c<l.length->lK m da c->l'[c]?=l[c]?/\lK (m.set a (row++[k])) Z c:=by
 obtain⟨aB,n,aE⟩:=h.own a v row ay J;have Y:a<m.length:=(aK.1 J).1;obtain⟨D,aD,aG,T,ai⟩:∃ D,aM 1 l v D (row.map ga)/\3<=D/\(∀ u G,u≠a->m[u]?=some G->G≠[]->da u≠D)/\∀ c,c<l.length->lK m da c->D≠c:=by
  by_cases p:row=[]
  ·subst p;have:=gC.1 n;subst this;exact⟨l.length,.nil _,aq,fun u G _ j Q=>by have:=h.lt j Q;omega,fun c I _=>F⟩
  ·exact⟨da a,aB,aE.resolve_left p,fun u G aw j Q=>h.apart u a G row aw j J Q p,fun c _ B=>B a row J p⟩
 obtain⟨o,aA,l',am,W,ao,X,H,ap⟩:=lM (by_:=8) aD (x:=.ad 1 b 0 1 1 1) (xs:=[ga k]) (by simp[cG,ar,ga]) (by simp[ga]) F F (by simpa using ax);have az:bt o=false:=by
  cases au:bt o with
  | true=>have:=(ap.1 (gC.1 au)).2;cases this
  | false=>rfl
 refine⟨o,l',fun x=>if x=a then aA else da x,am,⟨by simp[h.rk],fun x w V K j=>?_,fun x y P al O t C z R=>?_⟩,ao,W.cells,fun c I B=>⟨X c I (fun e=>ai c I B e.symm),fun x P t z=>?_⟩⟩
 ·by_cases g:x=a
  ·subst g;rw[b1 (by rw[h.rk];exact Y)] at K;rw[b1 Y] at j;obtain rfl:=cg K;obtain rfl:=cg j;simp only[if_true];refine⟨by rw[c5];exact W,by rw[az];simp,.inr ?_⟩;rcases H with e | e<;>omega
  ·rw[br (Ne.symm g)] at K j;simp only[ak g];obtain⟨aC,aj,aF⟩:=h.own x w V K j;refine⟨?_,aj,aF⟩;by_cases p:V=[]
   ·subst p;have:=gC.1 aj;subst this;exact .nil _
   ·exact aC.frame fun av=>X _ av (T x V g j p)
 ·by_cases g:x=a
  ·subst g;rw[br O] at C;simp only[if_true,ak (Ne.symm O)];have:=h.lt C R;have:=T y al (Ne.symm O) C R;rcases H with e | e<;>omega
  ·rw[br (Ne.symm g)] at t;simp only[ak g];by_cases S:y=a
   ·subst S;simp only[if_true];have:=h.lt t z;have:=T x P g t z;rcases H with e | e<;>omega
   ·rw[br (Ne.symm S)] at C;simp only[ak S];exact h.apart x y P al O t C z R
 ·by_cases g:x=a
  ·subst g;simp only[if_true];have:=ai c I B;rcases H with e | e<;>omega
  ·rw[br (Ne.symm g)] at t;simp only[ak g];exact B x P t z
def rU (idsZ:aO) (opsZ:List aG) (m q a k:Nat) :Nat:=if k<m then (dO opsZ k).count (bo idsZ a) else if k=m then ((dO opsZ m).take q).count (bo idsZ a) else 0
structure qo (idsZ:aO) (opsZ:List aG) (m q:Nat) (g:List (List Nat)) :Prop where
 len:g.length=opsZ.length
 cnt:∀ (a:Nat) (row:List Nat),g[a]?=some row->∀ k,row.count k=rU idsZ opsZ m q a k
 xa:∀ (a:Nat) (row:List Nat),g[a]?=some row->row.length<=5*m+q
theorem U9 (idsZ:aO) (opsZ:List aG) :qo idsZ opsZ 0 0 (List.replicate opsZ.length []):=by
 refine⟨V,fun a row h k=>?_,fun a row h=>?_⟩
 ·have:=tb (cE h);subst this;simp[rU]
 ·have:=tb (cE h);subst this;simp
theorem Va {idsZ:aO} {opsZ:List aG} (F:kY idsZ) (G:idsZ.length=opsZ.length) {m q a:Nat} {t:List (List Nat)} {row:List Nat} {p:List B} (h:qo idsZ opsZ m q t) (H:(dO opsZ m)[q]?=some p) (u:idsZ[a]?=some p) (v:t[a]?=some row) :
  qo idsZ opsZ m (q+1) (t.set a (row++[m])):=by
 have z:=(aK.1 v).1;have D:=(aK.1 u).1;have C:(dO opsZ m).take (q+1)=(dO opsZ m).take q++[p]:=by rw[eU,H];rfl
 refine⟨by simp[h.len],fun x w g k=>?_,fun x w g=>?_⟩
 ·by_cases o:x=a
  ·subst o;rw[b1 z] at g;obtain rfl:=cg g;rw[vc,h.cnt x row v k];unfold rU;by_cases h1:k<m
   ·rw[aj h1,aj h1,AN];have:(m == k)=false:=by rw[beq_eq_false_iff_ne];omega
    simp[this]
   ·rw[ak h1,ak h1];by_cases j:k=m
    ·subst j;rw[aj rfl,aj rfl,C,vc,dG u];simp
    ·rw[ak j,ak j,AN];have:(m == k)=false:=by rw[beq_eq_false_iff_ne];omega
     simp[this]
  ·rw[br (Ne.symm o)] at g;rw[h.cnt x w g k];unfold rU;by_cases h1:k<m
   ·rw[aj h1,aj h1]
   ·rw[ak h1,ak h1];by_cases j:k=m
    ·subst j;rw[aj rfl,aj rfl,C,vc,AN];have I:x<idsZ.length:=by rw[G,<-h.len];exact (aK.1 g).1
     have:(p == bo idsZ x)=false:=by
      rw[beq_eq_false_iff_ne];intro e;rw[<-dG u] at e;exact o (Ga F D I e).symm
     rw[this];simp
    ·rw[ak j,ak j]
 ·by_cases o:x=a
  ·subst o;rw[b1 z] at g;obtain rfl:=cg g;have:=h.xa x row v;simp;omega
  ·rw[br (Ne.symm o)] at g;have:=h.xa x w g;omega
theorem U8 {idsZ:aO} {opsZ:List aG} {m:Nat} {vE:List (List Nat)} (h:qo idsZ opsZ m (dO opsZ m).length vE) (p:(dO opsZ m).length<=4) :qo idsZ opsZ (m+1) 0 vE:=by
 refine⟨h.len,fun a row g k=>?_,fun a row g=>by have:=h.xa a row g;omega⟩;rw[h.cnt a row g k];unfold rU;by_cases h1:k<m
 ·rw[aj h1,aj F]
 ·rw[ak h1];by_cases j:k=m
  ·subst j;rw[aj rfl,aj F,fC]
  ·rw[ak j,ak F];by_cases o:k=m+1
   ·rw[aj o];simp
   ·rw[ak o]
theorem U7 {idsZ:aO} {opsZ:List aG} {vE:List (List Nat)} (h:qo idsZ opsZ opsZ.length 0 vE) :A7 idsZ opsZ vE:=by
 refine⟨h.len,fun a row g k hk=>?_,fun a row g k hk=>?_⟩
 ·rw[h.cnt a row g k];unfold rU;rw[aj hk]
 ·have h1:0<row.count k:=List.count_pos_iff.2 hk;rw[h.cnt a row g k] at h1;unfold rU at h1;by_cases j:k<opsZ.length
  ·exact j
  ·rw[ak j] at h1;split at h1<;>simp at h1
def dQ (opsZ:List aG) (m:Nat) :List Int:=(List.range opsZ.length).map fun k=>if k<m then ((dO opsZ k).length:Int) else 0
def hh (opsZ:List aG) (m:Nat) :List Nat:=(List.range m).filter fun k=>(dO opsZ k).isEmpty
theorem M8 (opsZ:List aG) (m:Nat) :(dQ opsZ m).length=opsZ.length:=by simp[dQ]
theorem AA {opsZ:List aG} {m k:Nat} (h:k<opsZ.length) :(dQ opsZ m)[k]?=some (if k<m then ((dO opsZ k).length:Int) else 0):=by unfold dQ;rw[bW,hp h];rfl
theorem ZA {opsZ:List aG} {m:Nat} (h:m<opsZ.length) :(dQ opsZ m).set m ((dO opsZ m).length:Int)=dQ opsZ (m+1):=by
 apply g5;intro j;by_cases g:j<opsZ.length
 ·rw[AA g,nT];by_cases o:m=j
  ·subst o;rw[aj rfl,aj (by rw[M8];exact g),aj F]
  ·rw[ak o,AA g];by_cases h1:j<m
   ·rw[aj h1,aj F]
   ·rw[ak h1,ak F]
 ·rw[ea (by simp[dQ];omega),ea (by simp[dQ];omega)]
theorem Zz (opsZ:List aG) :dQ opsZ opsZ.length=(List.range opsZ.length).map fun k=>((dO opsZ k).length:Int):=by unfold dQ;apply mm;intro k hk;rw[aj (g7.1 hk)]
theorem ZB (opsZ:List aG) :dQ opsZ 0=List.replicate opsZ.length 0:=by
 apply g5;intro h;by_cases g:h<opsZ.length
 ·rw[AA g];simp[g]
 ·rw[ea (by simp[dQ];omega),ea (by simp;omega)]
theorem KM (opsZ:List aG) (m:Nat) :hh opsZ (m+1)=hh opsZ m++(if (dO opsZ m).isEmpty then [m] else []):=by
 unfold hh;rw[tg,lF];congr 1;by_cases h:(dO opsZ m).isEmpty=true
 ·simp[h]
 ·simp[h]
def hv (n:Int) :U:=.i6 n
theorem LN {l:ag} {i:Nat} {x:U} (h:i<l.length) :ax l i [x]=l.set i x:=by have:=mc (fun c:U=>c) l i x h;simpa using this
def cm (g:aU) (h:List Int) (vs:ag) (rest:ae) :ae:=.q 2 [ai g.idsZ,bF g.opsZ] ::.q g.opsZ.l.length (h.map hv) ::.q g.opsZ.l.length vs::rest
theorem p0 {l:ae} {a b c:am} (g:l[0]?=some a) (h1:l[1]?=some b) (h:l[2]?=some c) :∃ r,l=a::b::c::r:=by
 match l,g,h1,h with
 | j::m::o::r,g,h1,h=>
  simp at g h1 h;subst g h1 h;exact⟨r,rfl⟩
theorem tZ {g:aU} {w w' : List Int} {vs j:ag} {r:ae}:∀ {b:Nat},3<=b->(cm g w vs r)[b]?=(cm g w' j r)[b]?
 | 0,h=>F
 | 1,h=>F
 | 2,h=>F
 | b+3,_=>rfl
theorem Cr {g:aU} {w:List Int} {vs:ag} {r x:ae} {b:Nat} (h:b<(cm g w vs r).length) :(cm g w vs (r++x))[b]?=(cm g w vs r)[b]?:=by show ((cm g w vs r)++x)[b]?=_;exact aV h
structure Om (g:aU) (m q:Nat) (nN:U) (l:ae) :Prop where
 ex:∃ (vs:ag) (h:List (List Nat)) (da:Nat->Nat) (fT:Nat) (rest:ae),l=cm g (dQ g.opsZ.l m) vs rest/\i0 l vs h da/\qo g.idsZ.l g.opsZ.l m q h/\aM 1 l nN fT ((hh g.opsZ.l m).map ga) ∧
  bt nN=(hh g.opsZ.l m).isEmpty/\(hh g.opsZ.l m=[]\/(3<=fT/\lK h da fT))
structure Ol (g:aU) (m q:Nat) (nN:U) (b:Nat) (j:ag) (l:ae) :Prop where
 ex:∃ (vs:ag) (h:List (List Nat)) (da:Nat->Nat) (fT:Nat) (rest:ae),l=cm g (dQ g.opsZ.l m) vs rest/\i0 l vs h da/\qo g.idsZ.l g.opsZ.l m q h/\aM 1 l nN fT ((hh g.opsZ.l m).map ga) ∧
  bt nN=(hh g.opsZ.l m).isEmpty/\(hh g.opsZ.l m=[]\/(3<=fT/\lK h da fT))/\l[b]?=some (.q 11 j)/\3<=b/\lK h da b
theorem uC {g:List (List Nat)} {l:ae} {vs:ag} {da:Nat->Nat} {c:Nat} (h:i0 l vs g da) (p:c<3) :lK g da c:=fun a row j o=>by
 have m:a<vs.length:=by rw[h.rk];exact (aK.1 j).1
 have:=(h.own a vs[a] row (bI m) j).2.2.resolve_left o;omega
theorem wW {g:List (List Nat)} {l:ae} {vs:ag} {da:Nat->Nat} {c:Nat} (h:i0 l vs g da) (o:l.length<=c) :lK g da c:=fun a row m j=>by
 have:=h.lt m j;omega
structure n3 (g:aU) (vs:ag) (h:List (List Nat)) (da:Nat->Nat) (W:List Int) (R:List Nat) (nN:U) (rest:ae) :Prop where
 ex:∃ fT,i0 (cm g W vs rest) vs h da/\aM 1 (cm g W vs rest) nN fT (R.map ga)/\bt nN=R.isEmpty/\(R=[]\/(3<=fT/\lK h da fT))
theorem n3.setW {g:aU} {vs:ag} {j:List (List Nat)} {da:Nat->Nat} {W u:List Int} {R:List Nat} {t:U} {rest:ae} (h:n3 g vs j da W R t rest) :n3 g vs j da u R t rest:=by
 obtain⟨fT,m,z,p,o⟩:=h;refine⟨⟨fT,m.frame fun b C ⟨a,B,h1,v,w⟩=>tZ (xX fun h=>uC m h a B h1 v w),?_,p,o⟩⟩;by_cases q:R=[]
 ·subst q;rw[gC.1 p];exact .nil _
 ·exact z.frame fun _=>tZ (o.resolve_left q).1
theorem n3.push {g:aU} {vs:ag} {o:List (List Nat)} {da:Nat->Nat} {W:List Int} {R:List Nat} {u:U} {rest:ae} (h:n3 g vs o da W R u rest) (m:Nat) (Q:(R.length+1)*8<=dk) :
  ∃ B jd,eE (cm g W vs (rest++[.q 1 [.i6 (m:Int)]])) 1 8 u (.ad 1 (rest.length+3) 0 1 1 1)=some (B,cm g W vs jd)/\n3 g vs o da W (R++[m]) B jd:=by
 obtain⟨fT,p,J,K,z⟩:=h;obtain⟨ip,X,al,C⟩:∃ ip,aM 1 (cm g W vs (rest++[.q 1 [.i6 (m:Int)]])) u ip (R.map ga)/\3<=ip/\lK o da ip:=by
  by_cases t:R=[]
  ·subst t;rw[gC.1 K];exact⟨(cm g W vs (rest++[.q 1 [.i6 (m:Int)]])).length,.nil _,by simp[cm],wW p (by simp[cm])⟩
  ·exact⟨fT,J.more _,(z.resolve_left t).1,(z.resolve_left t).2⟩
 obtain⟨v,T,V,D,G,Z,j,w,H⟩:=lM (by_:=8) X (x:=.ad 1 (rest.length+3) 0 1 1 1) (xs:=[ga m]) (by simp[cG,cm,ga]) (by simp[ga]) F F (by simpa using Q);have aj:(cm g W vs (rest++[.q 1 [.i6 (m:Int)]])).length=rest.length+4:=by simp[cm]
 have ak:(cm g W vs rest).length=rest.length+3:=by simp[cm]
 obtain⟨jd,rfl⟩:∃ r,V=cm g W vs r:=p0 ((j 0 F F).trans rfl) ((j 1 F F).trans rfl) ((j 2 F F).trans rfl);have S:bt v=false:=by
  cases P:bt v with
  | true=>have:=(H.1 (gC.1 P)).2;cases this
  | false=>rfl
 refine⟨v,jd,D,⟨⟨T,?_,?_,?_,.inr ⟨?_,?_⟩⟩⟩⟩
 ·exact p.frame fun b O ⟨a,Y,h1,I,ai⟩=>(j b F (fun e=>C a Y h1 I F)).trans (Cr O)
 ·rw[c5];exact G
 ·rw[S];simp
 ·rcases w with e | e<;>omega
 ·rcases w with e | e
  ·rw[e];exact C
  ·exact wW p F
theorem Xq (g:aU) (aJ:ff g) (a9:g.idsZ.l.length=g.opsZ.l.length) (eJ:g.opsZ.l.length<=60) (bC:∀ o∈g.opsZ.l,o.ay.l.length<=4) :aY 275 [cH g] (.i6 (jF g.idsZ.l g.opsZ.l)):=by
 apply bc func275 [];have bi:dk=140737488355328:=rfl;have dL:=bU g.idsZ;have dN:=i7 g.opsZ;have dK:=ph g;have cf:bx (.ad 11) (bF g.opsZ)=_:=cd _;have c2:bx (.ad 32) (ai g.idsZ)=some (.i6 g.opsZ.l.length):=by simp[ai,a9]
 simp[cH,bf];refine bz (g.opsZ.l.length - 1) (fun k p l=>l=[.q 2 [ai g.idsZ,bF g.opsZ]]/\p 1=.ptr 0 0 2/\p 3=.i6 ((k+1:Nat) :Int)/\∀ t,t<k+1->t<g.idsZ.l.length->1<=t->bJ (bo g.idsZ.l (t - 1)) (bo g.idsZ.l t)<0) ?_ ⟨V,V,V,fun t h1 _ w=>F⟩;rintro k p l hk ⟨rfl,u,bB,cp⟩;obtain⟨p,rfl⟩:=kb u bB;clear u bB;obtain⟨m,c7⟩:=ao (k+1);rw[<-c7] at cp ⊢;by_cases c3:m<g.opsZ.l.length
 ·obtain⟨x,aE,di⟩:=aP (l:=g.idsZ.l) (k:=k) F;obtain⟨y,dj,dn⟩:=aP (l:=g.idsZ.l) (k:=m) F;have aH:IntKind.i64.wrap ((m:Int) - 1)=(k:Int):=by rw[IntKind.wrap_i64];omega
  have aX:=cq (k:=m) F;have dp:=dG aE;have dq:=dG dj;have c0:bO (.ad 32) (ai g.idsZ) _=_:=dg aE;have c1:bO (.ad 32) (ai g.idsZ) _=_:=dg dj;have aR:=bu (aJ.idsZ x di);have dm:=bu (aJ.idsZ y dn);have a5:=qC x y (aJ.idsZ x di) (aJ.idsZ y dn);unfold eF at a5;change aY 162 [.ah (ar x),.ah (ar y)] _ at a5;have a6:=c4 x;have cU:=c4 y;obtain⟨X,b7⟩:=ao (ar x);obtain⟨eI,dE⟩:=ao (ar y);rw[<-b7] at c0 aR a5 a6;rw[<-dE] at c1 dm a5 cU;simp[c2,c3,aH,c0,c1,aR,dm,aL];refine av a5 (by simp[aq,U.aw,a6,cU]) ?_;by_cases cS:bJ x y<0
  ·have b9:¬ (0<=bJ x y):=F;simp[b9,aX];refine⟨F,fun t h1 w aA=>?_⟩;have aB:bJ (bo g.idsZ.l (t - 1)) (bo g.idsZ.l t)<0:=by
    by_cases a8:t=m
    ·rw[a8,show m - 1=k by omega,dp,dq];exact cS
    ·exact cp t F w aA
   simpa [bo] using aB
  ·have b9:0<=bJ x y:=F;simp[b9];refine aT (ch (U.int .i64) ?_) rfl;have ck:bX g.idsZ.l=false:=KZ (k:=m) F F (by rw[show m - 1=k by omega,dp,dq];exact cS);unfold jF;rw[ck];rfl
 ·have aN:bX g.idsZ.l=true:=uM fun t h1 w=>cp t F h1 w
  have a8:=mH aN;obtain⟨cv,_⟩:=wB (z:=1) (by_:=8) (n:=g.opsZ.l.length) (k:=.i64) (k':=.i64) (zero:=[U.i6 0]) (l:=[am.q 2 [ai g.idsZ,bF g.opsZ]]) rfl F (by rw[bi];omega);obtain⟨cw,_⟩:=wB (z:=1) (by_:=24) (n:=g.opsZ.l.length) (k:=.i64) (k':=.i64) (zero:=[U.af]) (l:=[am.q 2 [ai g.idsZ,bF g.opsZ],am.q g.opsZ.l.length (List.replicate g.opsZ.l.length (U.i6 0))]) rfl F (by rw[bi];omega);simp only[nX,KS (alZ:=Nat)] at cv cw;simp[c2,cf,c3,cv,cw];refine bz g.opsZ.l.length (fun m p l=>p 1=.ptr 0 0 2/\p 4=.ad 1 1 0 g.opsZ.l.length g.opsZ.l.length g.opsZ.l.length/\p 5=.ad 1 2 0 g.opsZ.l.length g.opsZ.l.length g.opsZ.l.length/\p 45=bF g.opsZ/\p 46=.i6 g.opsZ.l.length/\p 47=.i6 m ∧
   Om g m 0 (p 6) l/\∀ i,i<m->ik g.idsZ.l (dO g.opsZ.l i)=true) ?_ ?_
  ·rintro m p l c7 ⟨u,G,D,a0,a2,a3,Z,cP⟩;obtain⟨az,I⟩:∃ v,p 6=v:=⟨_,rfl⟩
   rw[I] at Z;obtain⟨p,rfl⟩:=Ar u G D I a0 a2 a3;clear u G D I a0 a2 a3;by_cases aG:m<g.opsZ.l.length
   ·obtain⟨o,bR,bb⟩:=aP aG;have aH:=cq (k:=m) F;have cY:bO (.ad 11) (bF g.opsZ) _=_:=dg bR;have ef:=aJ.opsZ o bb;have ed:=bC o bb;have aD:dO g.opsZ.l m=o.ay.l:=l6 bR;have ci:bx (.ad 32) (ai o.ay)=_:=cd _;have bH:(au o).length=11:=rfl;have b4:∀ h:1<(au o).length,(au o)[1]'h=ai o.ay:=fun _=>rfl
    obtain⟨O,dy⟩:=ao (au o);rw[<-dy] at cY bH b4;have eh:ax [U.int .u32 0,.af,.int .u64 0,.int .u8 0,.str [],.int .u8 0,.i6 0,.int .u64 0,.str [],.int .u32 0,.int .u32 0] 0 O=O:=cI (by rw[bH];rfl);simp[aG,cY,bH,b4,ci,eh,aL];obtain⟨bw,bK⟩:=ao (l.length);rw[<-bK];refine bz o.ay.l.length (fun q p l=>p 1=.ptr 0 0 2/\p 4=.ad 1 1 0 g.opsZ.l.length g.opsZ.l.length g.opsZ.l.length/\p 5=.ad 1 2 0 g.opsZ.l.length g.opsZ.l.length g.opsZ.l.length/\p 6=az/\p 7=.i6 m/\p 8=.ptr bw 0 11/\p 45=bF g.opsZ/\p 46=.i6 g.opsZ.l.length/\p 47=.i6 m ∧
     p 53=ai o.ay/\p 54=.i6 o.ay.l.length/\p 55=.i6 q/\Ol g m q az bw O l/\∀ (t:Nat) (ag:List B),t<q->o.ay.l[t]?=some ag->ag∈g.idsZ.l) ?_ ?_
    ·rintro q p l eV ⟨u,G,D,I,cD,cF,a0,a2,a3,cA,cB,cC,dx,dc⟩;obtain⟨p,rfl⟩:=YK u G D I cD cF a0 a2 a3 cA cB cC;clear u G D I cD cF a0 a2 a3 cA cB cC;obtain⟨j,H,da,fT,rest,rfl,Q,K,Y,P,ae,aF,cR,dJ⟩:=dx;by_cases bh:q<o.ay.l.length
     ·obtain⟨ag,bd,db⟩:=aP bh;have aX:=cq (k:=q) F;have cZ:bO (.ad 32) (ai o.ay) _=_:=dg bd;have c9:=ef.idsZ ag db;have aR:=bu c9;have a6:=c4 ag;have ca:=Q9 g aJ aN ag c9;unfold cH bf at ca dK;obtain⟨X,b7⟩:=ao (ar ag);rw[<-b7] at cZ aR a6 ca;have ej:ax (bT 32 (.int .u8 0)) 0 X=X:=cI (by rw[aR];rfl);simp[cm,bh,cZ,aR,ej,aL];refine av ca (by simp[aq,U.aw,a6,dL,dN]) ?_;by_cases bg:ag∈g.idsZ.l
      ·obtain⟨S,b8⟩:=cj.1 bg;have dM:=BH aN b8;have eM:=(aK.1 b8).1;have eO:S<g.opsZ.l.length:=F;have dh:j.length=g.opsZ.l.length:=by rw[Q.rk,K.len]
       obtain⟨bm,aQ,_⟩:=aP (l:=j) (k:=S) F;obtain⟨row,ap,_⟩:=aP (l:=H) (k:=S) (by rw[K.len];omega);obtain⟨ds,aC⟩:=ao (cm g (dQ g.opsZ.l m) j (rest++[.q 32 X,.q 1 [.i6 (m:Int)]]));have bE:i0 ds j H da:=by rw[aC];exact Q.more _
       have eS:ds.length=rest.length+5:=by rw[aC];simp[cm]
       have df:=K.xa S row ap;obtain⟨iS,ct,dr,u,bA,bB,G,D⟩:=bE.app (b:=rest.length+4) (k:=m) aQ ap (by rw[aC];simp[cm]) F (by rw[bi];omega);have eD:=D 0 F (uC bE F);have q1:=D 1 F (uC bE F);have eE:=D 2 F (uC bE F);obtain⟨aS,rfl⟩:∃ r,ct=cm g (dQ g.opsZ.l m) j r:=p0 (eD.1.trans (by rw[aC];rfl)) (q1.1.trans (by rw[aC];rfl)) (eE.1.trans (by rw[aC];rfl));have bN:bO (.ad 1) (.ad 1 2 0 g.opsZ.l.length g.opsZ.l.length g.opsZ.l.length) (.i6 (S:Int))=some (.ptr 2 S g.opsZ.l.length):=by
        simp only[bO];rw[aj ⟨trivial,F,F⟩];simp
       rw[aC] at u;unfold cm at u;simp[bg,dM,bN,aQ,u];refine b2.bq ?_;have en:ax j S [iS]=j.set S iS:=LN F;simp[G,bN,en];have cb:∀ c,3<=c->c<(cm g (dQ g.opsZ.l m) j rest).length->lK H da c->(cm g (dQ g.opsZ.l m) (j.set S iS) aS)[c]?=(cm g (dQ g.opsZ.l m) j rest)[c]?/\lK (H.set S (row++[m])) dr c:=by
        intro c aA cT bR;obtain⟨ev,ew⟩:=D c (by simp[cm] at cT;omega) bR;exact⟨(tZ aA).trans (ev.trans (by rw[aC];exact Cr cT)),ew⟩
       have cc:hh g.opsZ.l m≠[]->fT<(cm g (dQ g.opsZ.l m) j rest).length:=fun J=>by
        rcases Y.lt with h | h
        ·rw[h] at P;cases bD:hh g.opsZ.l m with
         | nil=>exact bP bD J
         | cons=>rw[bD] at P;cases P
        ·exact h
       have dI:=(aK.1 aF).1;obtain⟨f1,f2⟩:=cb bw cR dI dJ;refine⟨F,bh,by rw[IntKind.wrap_i64];omega,⟨⟨j.set S iS,H.set S (row++[m]),dr,fT,aS,rfl,?_,Va a8 a9 K (by rw[aD];exact bd) b8 ap,?_,P,?_,f1.trans aF,cR,f2⟩⟩,fun t ez aB cl=>?_⟩
       ·exact bA.frame fun b aF ⟨a,bl,h1,w,aA⟩=>by
         have bC:3<=b:=xX fun h=>uC bA h a bl h1 w aA
         exact tZ bC
       ·by_cases J:hh g.opsZ.l m=[]
        ·rw[J] at P Y ⊢;rw[gC.1 P];exact .nil _
        ·obtain⟨h1,w⟩:=ae.resolve_left J;exact Y.frame fun h=>(cb fT h1 (cc J) w).1
       ·by_cases J:hh g.opsZ.l m=[]
        ·exact .inl J
        ·obtain⟨h1,w⟩:=ae.resolve_left J;exact .inr ⟨h1,(cb fT h1 (cc J) w).2⟩
       ·by_cases dV:t=q
        ·subst dV;rw[bd] at cl;obtain rfl:=cg cl;exact bg
        ·exact dc t ez F cl
      ·simp[bg];refine aT (ch (U.int .i64) ?_) rfl;have ck:¬ pN g.idsZ.l g.opsZ.l=true:=fun h=>by
        have:=iZ h o bb;exact bg (iZ this ag db)
       unfold jF;rw[aj aN,ak ck]
     ·have dd:q=o.ay.l.length:=F;rw[dd] at K;rw[<-aD] at K;have cM:=U8 K (by rw[aD];exact ed);have dh:j.length=g.opsZ.l.length:=by rw[Q.rk,K.len]
      have de:fV (cm g (dQ g.opsZ.l m) j rest) (.ptr bw 1 11)=some (O,1):=by simp only[fV,aF];rfl
      have a7:bO (.ad 1) (.ad 1 1 0 g.opsZ.l.length g.opsZ.l.length g.opsZ.l.length) (.i6 (m:Int))=some (.ptr 1 m g.opsZ.l.length):=by
       simp only[bO];rw[aj ⟨trivial,F,F⟩];simp
      have cr:jG 1 (cm g (dQ g.opsZ.l m) j rest) (.ptr 1 m g.opsZ.l.length) (.i6 o.ay.l.length)=some (cm g (dQ g.opsZ.l (m+1)) j rest):=by
       have h1:(cm g (dQ g.opsZ.l m) j rest)[1]?=some (.q g.opsZ.l.length ((dQ g.opsZ.l m).map hv)):=rfl;simp only[jG,U.cells,h1];rw[aj (by simp;omega)];have w:ax ((dQ g.opsZ.l m).map hv) m [U.i6 o.ay.l.length]=(dQ g.opsZ.l (m+1)).map hv:=by
        rw[<-ZA aG,aD];exact mc hv (dQ g.opsZ.l m) m _ (by rw[M8];exact aG)
       rw[w];rfl
      have bj:fV (cm g (dQ g.opsZ.l (m+1)) j rest) (.ptr 1 m g.opsZ.l.length)=some ((dQ g.opsZ.l (m+1)).map hv,m):=by
       have h1:(cm g (dQ g.opsZ.l (m+1)) j rest)[1]?=some (.q g.opsZ.l.length ((dQ g.opsZ.l (m+1)).map hv)):=rfl;simp only[fV,h1];simp
      have bM:((dQ g.opsZ.l (m+1)).map hv)[m]?=some (.i6 o.ay.l.length):=by
       rw[bW,AA aG,aj F,aD];rfl
      have eQ:∀ h:m<((dQ g.opsZ.l (m+1)).map hv).length,((dQ g.opsZ.l (m+1)).map hv)[m]'h=.i6 o.ay.l.length:=fun h=>(aK.1 bM).2
      have cL:O[1]?=some (ai o.ay):=by rw[bI (by rw[bH];omega),b4]
      have bG:i0 (cm g (dQ g.opsZ.l (m+1)) j rest) j H da:=Q.frame fun b aF ⟨a,bl,h1,w,aA⟩=>tZ (xX fun h=>uC Q h a bl h1 w aA)
      have cN:aM 1 (cm g (dQ g.opsZ.l (m+1)) j rest) az fT ((hh g.opsZ.l m).map ga):=by
       by_cases J:hh g.opsZ.l m=[]
       ·rw[J] at P ⊢;rw[gC.1 P];exact .nil _
       ·exact Y.frame fun _=>tZ (ae.resolve_left J).1
      have cQ:∀ i,i<m+1->ik g.idsZ.l (dO g.opsZ.l i)=true:=fun i eR=>by
       by_cases dT:i=m
       ·subst dT;rw[aD];refine bY fun ag bd=>?_
        obtain⟨t,aB⟩:=cj.1 bd;exact dc t ag (by rw[dd];exact (aK.1 aB).1) aB
       ·exact cP i F
      by_cases R:o.ay.l.length=0
      ·have dY:bx (.ad 32) (ai o.ay)=some (.i6 0):=by rw[ci,R];rfl
       have ek:jG 1 (cm g (dQ g.opsZ.l m) j rest) (.ptr 1 m g.opsZ.l.length) (.i6 0)=some (cm g (dQ g.opsZ.l (m+1)) j rest):=by rw[R] at cr;exact cr
       have dR:((dQ g.opsZ.l (m+1)).map hv)[m]?=some (.i6 0):=by rw[R] at bM;exact bM
       have aO:hh g.opsZ.l (m+1)=hh g.opsZ.l m++[m]:=by
        rw[KM,aD,ic.1 R];rfl
       obtain⟨ip,ex,eH,bp⟩:∃ ip,aM 1 (cm g (dQ g.opsZ.l (m+1)) j (rest++[.q 1 [.i6 (m:Int)]])) az ip ((hh g.opsZ.l m).map ga)/\3<=ip/\lK H da ip:=by
        by_cases J:hh g.opsZ.l m=[]
        ·rw[J] at P ⊢;rw[gC.1 P];exact⟨(cm g (dQ g.opsZ.l (m+1)) j (rest++[.q 1 [.i6 (m:Int)]])).length,.nil _,by simp[cm],wW bG (by simp[cm])⟩
        ·exact⟨fT,cN.more _,(ae.resolve_left J).1,(ae.resolve_left J).2⟩
       have df:(hh g.opsZ.l m).length<=m:=by
        have:=ie (fun k=>(dO g.opsZ.l k).isEmpty) (List.range m);simpa [hh] using this
       obtain⟨dt,es,ct,u,bA,bB,G,D,I⟩:=lM (by_:=8) ex (x:=.ad 1 (rest.length+3) 0 1 1 1) (xs:=[ga m]) (by simp[cG,cm,ga]) (by simp[ga]) F F (by rw[bi];simp;omega);have eU:(cm g (dQ g.opsZ.l (m+1)) j (rest++[.q 1 [.i6 (m:Int)]])).length=rest.length+4:=by simp[cm]
       obtain⟨aS,rfl⟩:∃ r,ct=cm g (dQ g.opsZ.l (m+1)) j r:=p0 ((G 0 F F).trans rfl) ((G 1 F F).trans rfl) ((G 2 F F).trans rfl);have cn:cm g (dQ g.opsZ.l (m+1)) j rest++[am.q 1 [.i6 (m:Int)]]=cm g (dQ g.opsZ.l (m+1)) j (rest++[.q 1 [.i6 (m:Int)]]):=rfl;have ce:(cm g (dQ g.opsZ.l (m+1)) j rest).length=rest.length+3:=by simp[cm]
       simp[bh,de,cL,dY,a7,ek,bj,dR,cn,ce,u];refine b2.bq ?_;simp;have ep:bt dt=false:=by
        cases dS:bt dt with
        | true=>have:=(I.1 (gC.1 dS)).2;cases this
        | false=>rfl
       refine⟨aG,by rw[IntKind.wrap_i64];omega,⟨⟨j,H,da,es,aS,rfl,?_,cM,?_,?_,.inr ⟨?_,?_⟩⟩⟩,cQ⟩
       ·exact bG.frame fun b aF ⟨a,bl,h1,w,aA⟩=>(G b F (fun e=>bp a bl h1 w F)).trans (Cr aF)
       ·rw[aO,c5];exact bA
       ·rw[ep,aO];simp
       ·rcases D with e | e<;>omega
       ·rcases D with e | e
        ·rw[e];exact bp
        ·exact wW bG F
      ·have aO:hh g.opsZ.l (m+1)=hh g.opsZ.l m:=by
        rw[KM,aD];have:o.ay.l.isEmpty=false:=by cases bD:o.ay.l with | nil=>rw[bD] at R;exact bP rfl R | cons=>rfl
        rw[this];simp
       simp[bh,de,cL,ci,a7,cr,bj,bM,R];exact⟨aG,by rw[IntKind.wrap_i64];omega,⟨⟨j,H,da,fT,rest,rfl,bG,cM,by rw[aO];exact cN,by rw[aO];exact P,by rw[aO];exact ae⟩⟩,cQ⟩
    ·simp;obtain⟨j,H,da,fT,rest,rfl,Q,K,Y,P,ae⟩:=Z;refine⟨⟨j,H,da,fT,rest++[.q 11 O],rfl,Q.more _,K,Y.more _,P,ae,by rw[bK,et (aI _)];simp,by rw[bK];simp[cm],wW Q (by rw[bK];exact aI _)⟩⟩
   ·have dZ:m=g.opsZ.l.length:=F;subst dZ;obtain⟨j,H,da,eu,Wz,rfl,cK,K,dz,dB,dA⟩:=Z;have b3:=U7 K;have dh:j.length=g.opsZ.l.length:=by rw[cK.rk,K.len]
    have c8:pN g.idsZ.l g.opsZ.l=true:=bY fun o bb=>by
     obtain⟨t,aB⟩:=cj.1 bb;have:=cP t (aK.1 aB).1
     rwa [l6 aB] at this
    have cJ:=SJ (idsZ:=g.idsZ.l) (opsZ:=g.opsZ.l) a9;rw[<-Zz] at cJ;have dC:n3 g j H da (dQ g.opsZ.l g.opsZ.l.length) (hh g.opsZ.l g.opsZ.l.length) az Wz:=⟨⟨eu,cK,dz,dB,dA⟩⟩
    simp;refine bz g.opsZ.l.length (fun d p l=>p 1=.ptr 0 0 2/\p 4=.ad 1 1 0 g.opsZ.l.length g.opsZ.l.length g.opsZ.l.length/\p 5=.ad 1 2 0 g.opsZ.l.length g.opsZ.l.length g.opsZ.l.length/\p 13=.i6 d ∧
     ∃ W C rest,l=cm g W j rest/\n3 g j H da W C (p 6) rest/\n1 g.idsZ.l g.opsZ.l [] d 0 C W) ?_ ?_
    ·rintro d p l eP ⟨u,G,D,aZ,W,C,rest,rfl,Z,T⟩;obtain⟨az,I⟩:∃ v,p 6=v:=⟨_,rfl⟩
     rw[I] at Z;obtain⟨p,rfl⟩:=gx u G D I aZ;clear u G D I aZ;have b5:bx (.ad 1) az=some (.i6 C.length):=by obtain⟨fT,_,Y,_⟩:=Z;have:=Y.len;simpa using this
     have P:C.length<=g.opsZ.l.length:=by
      have:=pY (b:=List.range g.opsZ.l.length) T.ll fun x aE=>g7.2 (T.lV x aE).1
      simpa using this
     by_cases cW:d<C.length
     ·obtain⟨a,al,dF⟩:=aP cW;have dH:=(T.lV a dF).1;have aH:=cq (k:=d) F;obtain⟨row,ap,_⟩:=aP (l:=H) (k:=a) (by rw[K.len];exact dH);obtain⟨bm,aQ,_⟩:=aP (l:=j) (k:=a) F;obtain⟨fT,Q,Y,cO,ae⟩:=Z;obtain⟨eC,dv,eG,br,bs,du,bZ⟩:=Y.q.get (k:=.i64) (i:=d) (e:=ga a) (by rw[bW,al];rfl);have bv:=one_cell (c:=.i6 (a:Int)) bZ;have bN:bO (.ad 1) (.ad 1 2 0 g.opsZ.l.length g.opsZ.l.length g.opsZ.l.length) (.i6 (a:Int))=some (.ptr 2 a g.opsZ.l.length):=by
       simp only[bO];rw[aj ⟨trivial,F,F⟩];simp
      have bk:∀ bV cu,fV (cm g bV j cu) (.ptr 2 a g.opsZ.l.length)=some (j,a):=fun bV cu=>by
       have h1:(cm g bV j cu)[2]?=some (.q g.opsZ.l.length j):=rfl;simp only[fV,h1];simp
      have cs:=(Q.own a bm row aQ ap).1;have er:bx (.ad 1) bm=some (.i6 row.length):=by have:=cs.len;simpa using this
      have df:=K.xa a row ap;simp[b5,cW,br,bs,bv,bN,bk,aQ,er];refine bz row.length (fun t p l=>p 1=.ptr 0 0 2/\p 4=.ad 1 1 0 g.opsZ.l.length g.opsZ.l.length g.opsZ.l.length/\p 5=.ad 1 2 0 g.opsZ.l.length g.opsZ.l.length g.opsZ.l.length/\p 13=.i6 d/\p 106=bm/\p 107=.i6 row.length/\p 108=.i6 t ∧
       ∃ W C rest,l=cm g W j rest/\n3 g j H da W C (p 6) rest/\n1 g.idsZ.l g.opsZ.l row d t C W/\C[d]?=some a) ?_ ?_
      ·rintro t p l cc ⟨u,G,D,aZ,cx,cy,cz,W,C,rest,rfl,Z,T,al⟩;obtain⟨az,I⟩:∃ v,p 6=v:=⟨_,rfl⟩
       rw[I] at Z;obtain⟨p,rfl⟩:=As u G D I aZ cx cy cz;clear u G D I aZ cx cy cz;by_cases bQ:t<row.length
       ·obtain⟨k,hk,dW⟩:=aP bQ;have dX:=b3.lt a row ap k dW;obtain⟨x,aE,eW,eX,a4⟩:=SK a9 a8 b3 T al ap hk;have eY:(dO g.opsZ.l k).length<=4:=by
         obtain⟨ey,eb,ec⟩:=aP dX;rw[l6 eb];exact bC ey ec
        have aH:=cq (k:=t) F;have aX:IntKind.i64.wrap (x - 1)=x - 1:=by rw[IntKind.wrap_i64];omega
        obtain⟨fT,Q,Y,cO,ae⟩:=id Z;have cs:=(Q.own a bm row aQ ap).1;obtain⟨eC,dv,eG,br,bs,du,bZ⟩:=cs.q.get (k:=.i64) (i:=t) (e:=ga k) (by rw[bW,hk];rfl);have bv:=one_cell (c:=.i6 (k:Int)) bZ;have a7:bO (.ad 1) (.ad 1 1 0 g.opsZ.l.length g.opsZ.l.length g.opsZ.l.length) (.i6 (k:Int))=some (.ptr 1 k g.opsZ.l.length):=by
         simp only[bO];rw[aj ⟨trivial,F,F⟩];simp
        have eL:=T.wl;have bj:fV (cm g W j rest) (.ptr 1 k g.opsZ.l.length)=some (W.map hv,k):=by
         have h1:(cm g W j rest)[1]?=some (.q g.opsZ.l.length (W.map hv)):=rfl;simp only[fV,h1];simp
        have cX:(W.map hv)[k]?=some (.i6 x):=by rw[bW,aE];rfl
        have bS:jG 1 (cm g W j rest) (.ptr 1 k g.opsZ.l.length) (.i6 (x - 1))=some (cm g (W.set k (x - 1)) j rest):=by
         have h1:(cm g W j rest)[1]?=some (.q g.opsZ.l.length (W.map hv)):=rfl;simp only[jG,U.cells,h1];rw[aj (by simp;omega)];have w:ax (W.map hv) k [U.i6 (x - 1)]=(W.set k (x - 1)).map hv:=mc hv W k _ F;rw[w];rfl
        have bk:fV (cm g (W.set k (x - 1)) j rest) (.ptr 1 k g.opsZ.l.length)=some ((W.set k (x - 1)).map hv,k):=by
         have h1:(cm g (W.set k (x - 1)) j rest)[1]?=some (.q g.opsZ.l.length ((W.set k (x - 1)).map hv)):=rfl;simp only[fV,h1];simp
        have bL:((W.set k (x - 1)).map hv)[k]?=some (.i6 (x - 1)):=by rw[bW,b1 F];rfl
        have b6:n3 g j H da (W.set k (x - 1)) C az rest:=Z.setW;obtain⟨aW,dD⟩:=ao (W.set k (x - 1));rw[<-dD] at bS bk bL b6 a4;by_cases R:x - 1=0
        ·rw[aj R] at a4;have dw:IntKind.i64.wrap (x - 1)=0:=by rw[aX];exact R
         rw[R] at bS bL;have eK:C.length<=g.opsZ.l.length:=by
          have:=pY (b:=List.range g.opsZ.l.length) T.ll fun x aE=>g7.2 (T.lV x aE).1
          simpa using this
         obtain⟨iS,aS,eA,eB⟩:=b6.push k (by rw[bi];omega);have cn:cm g aW j rest++[am.q 1 [.i6 (k:Int)]]=cm g aW j (rest++[.q 1 [.i6 (k:Int)]]):=rfl;have ce:(cm g aW j rest).length=rest.length+3:=by simp[cm]
         simp[bQ,br,bs,bv,a7,bj,cX,dw,bS,bk,bL,cn,ce,eA];refine b2.bq ?_;simp[bQ,aH];exact⟨aW,C++[k],aS,rfl,eB,a4,by rw[aV (aK.1 al).1];exact al⟩
        ·rw[ak R] at a4;simp[bQ,br,bs,bv,a7,bj,cX,aX,bS,bk,bL,R,aH];exact⟨aW,C,rest,rfl,b6,a4,al⟩
       ·have dU:t=row.length:=F;subst dU;simp;exact⟨F,by rw[IntKind.wrap_i64];omega,W,C,rest,rfl,Z,SH b3 T al ap⟩
      ·simp;exact⟨W,C,rest,rfl,⟨⟨fT,Q,Y,cO,ae⟩⟩,SI T,al⟩
     ·have dP:d=C.length:=by have:=T.dl;omega
      subst dP;obtain⟨eH,bp⟩:=SG a9 a8 T;by_cases c6:C.length<g.opsZ.l.length
      ·simp[b5,cm,cf,c6];refine aT (ch (U.int .i64) ?_) rfl;unfold jF;rw[aj aN,aj c8,ak (fun h=>by have:=bp.2 h;omega)]
      ·simp[b5,cm,cf,c6];refine aT (ch (U.int .i64) ?_) rfl;unfold jF;rw[aj aN,aj c8,aj (bp.1 F)]
    ·simp;exact⟨_,_,_,rfl,dC,cJ⟩
  ·simp;refine⟨⟨List.replicate g.opsZ.l.length .af,List.replicate g.opsZ.l.length [],fun _=>0,0,[],?_,⟨V,fun a v row eo eg=>?_,fun a b eZ e1 _ al _ ea _=>?_⟩,U9 _ _,.nil _,rfl,.inl rfl⟩⟩
   ·unfold cm;rw[ZB,xT];rfl
   ·have h1:=tb (cE eo);have w:=tb (cE eg);subst h1 w;exact⟨.nil _,rfl,.inl rfl⟩
   ·exact bP (tb (cE al)) ea
theorem MS (g:aU) (o:ff g) :aY 252 [cH g] (.i6 (e2 g)):=by
 apply bc func252 [];have aW:=bU g.idsZ;have aX:=i7 g.opsZ;have az:=ph g;have X:bx (.ad 11) (bF g.opsZ)=_:=cd _;have aB:bx (.ad 32) (ai g.idsZ)=_:=cd _;have a0:=o.ju;by_cases Q:60<(g.opsZ.l.length:Int)
 ·simp[cH,bf,X,Q];refine aT (ch (U.int .i64) ?_) rfl;unfold e2;rw[aj F]
 by_cases G:g.idsZ.l.length=g.opsZ.l.length
 ·have W:(g.idsZ.l.length:Int)=(g.opsZ.l.length:Int):=F;simp[cH,bf,X,aB,Q,W];refine bz g.opsZ.l.length (fun k p l=>(∃ rest,l=.q 2 [ai g.idsZ,bF g.opsZ] ::rest)/\p 1=.ptr 0 0 2/\p 19=bF g.opsZ/\p 20=.i6 g.opsZ.l.length/\p 21=.i6 k/\∀ m,m<k->jW g m=true) ?_ V;rintro k p l hk ⟨⟨rest,rfl⟩,ae,ag,al,am,aD⟩;obtain⟨p,rfl⟩:=fc ae ag al am;clear ae ag al am;by_cases w:k<g.opsZ.l.length
  ·obtain⟨j,aC,J⟩:=aP w;obtain⟨x,P,aG⟩:=aP (l:=g.idsZ.l) (k:=k) F;have B:=v8 aC P;have aH:=cq (k:=k) F;have aA:bO (.ad 11) (bF g.opsZ) _=_:=dg aC;have T:bO (.ad 32) (ai g.idsZ) _=_:=dg P;have aF:=xB j (o.opsZ j J);have C:=u2 j (o.opsZ j J);change aY 97 [.ah (au j)] (.a1 [.ah (ar (bE j)),.i6 (c3 j)]) at C;have S:=dV j;have Z:=bu (o.idsZ x aG);have t:=bu (px j);have H:(au j).length=11:=rfl;have heq:=pw (px j) (o.idsZ x aG);have R:¬ jW g k=true->e2 g=8:=fun h=>by
    unfold e2;rw[ak F,aj G,ak fun aQ=>h ((r6 g).1 aQ k w)]
   obtain⟨O,aN⟩:=ao (au j);obtain⟨aV,aO⟩:=ao (ar x);obtain⟨I,aM⟩:=ao (ar (bE j));rw[<-aN] at aA aF C S H;rw[<-aO] at T Z heq;rw[<-aM] at C heq t;have aS:ax [U.int .u32 0,.af,.int .u64 0,.int .u8 0,.str [],.int .u8 0,.i6 0,.int .u64 0,.str [],.int .u32 0,.int .u32 0] 0 O=O:=cI (by rw[H];rfl);have Y:ax (bT 32 (.int .u8 0)) 0 I=I:=cI (by rw[t];rfl);simp[w,aA,H,aS,aL];refine av C (by simp[aq,U.aw,S]) ?_;by_cases z:c3 j=0
   ·by_cases D:bE j=x
    ·simp[z,t,Y,T,Z,heq,D,H,aL];refine av aF (by simp[aq,U.aw,S]) ?_;by_cases K:eA j=0
     ·simp[K,w,aH];intro m v;by_cases aR:m=k
      ·subst aR;rw[B];simp[K,D]
      ·exact aD m F
     ·have u:¬ jW g k=true:=fun h=>by rw[B] at h;simp[K] at h
      simp[K];exact aT (ch (U.int .i64) (R u).symm) rfl
    ·have u:¬ jW g k=true:=fun h=>by rw[B] at h;simp[D] at h
     simp[z,t,Y,T,Z,heq,D,aL];exact aT (ch (U.int .i64) (R u).symm) rfl
   ·have u:¬ jW g k=true:=fun h=>by
     rw[B,bH,bC] at h;exact z (u1 h.1)
    simp[z,t,Y];exact aT (ch (U.int .i64) (R u).symm) rfl
  ·have aZ:k=g.opsZ.l.length:=F;have ap:r5 g=true:=(r6 g).2 fun m v=>aD m F
   have aJ:∀ j∈g.opsZ.l,j.ay.l.length<=4:=fun j J=>by
    obtain⟨m,v⟩:=cj.1 J;obtain⟨x,P,_⟩:=aP (l:=g.idsZ.l) (k:=m) (by have:=(aK.1 v).1;omega);have h1:=(r6 g).1 ap m (aK.1 v).1;rw[v8 v P,bH,bC] at h1;exact pM (u1 h1.1)
   have aE:=Xq g o G F aJ;unfold cH bf at aE az;simp[w];refine av aE (by simp[aq,az]) ?_;simp;refine aT (ch (U.int .i64) ?_) rfl;unfold e2;rw[ak F,aj G,aj ap]
 ·have W:¬ (g.idsZ.l.length:Int)=(g.opsZ.l.length:Int):=F;simp[cH,bf,X,aB,Q,W];refine aT (ch (U.int .i64) ?_) rfl;unfold e2;rw[ak F,ak G]
def pu (o:aG) :Bool:=decide (20<o.ay.l.length)||(decide (100<o.act.key.length)||decide (100<o.act.val.text.length))
theorem VF (o:aG) :aY 72 [.ah (au o)] (.bool (pu o)):=by
 apply bc func72 [];unfold pu;have m:bx (.ad 32) (ai o.ay)=_:=cd _;by_cases h1:20<o.ay.l.length
 ·have g:(20:Int)<(o.ay.l.length:Int):=F;simp[au,m,h1,g];exact aE
 ·have g:¬ (20:Int)<(o.ay.l.length:Int):=F;by_cases p:100<o.act.key.length
  ·have h:(100:Int)<(o.act.key.length:Int):=F;simp[au,m,h1,g,p,h];exact aE
  ·have h:¬ (100:Int)<(o.act.key.length:Int):=F;simp[au,m,h1,g,p,h];refine aT (ch U.bool ?_) rfl;by_cases q:100<o.act.val.text.length
   ·have j:(100:Int)<(o.act.val.text.length:Int):=F;simp[q,j]
   ·have j:¬ (100:Int)<(o.act.val.text.length:Int):=F;simp[q,j]
def pt (g:aU) :Bool:=decide (∃ h∈g.opsZ.l.take 71,pu h=true)||(decide (16<g.opsZ.l.length/\g.opsZ.l.length<=60)||(decide (70<g.opsZ.l.length)||decide (70<g.idsZ.l.length)))
theorem VE (g:aU) :aY 28 [cH g] (.bool (pt g)):=by
 apply bc func28 [];have v:bx (.ad 11) (bF g.opsZ)=_:=cd _;have T:bx (.ad 32) (ai g.idsZ)=_:=cd _;simp[cH,bf];refine bz (min g.opsZ.l.length 71) (fun k G l=>l=[.q 2 [ai g.idsZ,bF g.opsZ]]/\G 1=.ptr 0 0 2/\G 3=.i6 k/\∀ (m:Nat) (h:aG),m<k->g.opsZ.l[m]?=some h->pu h=false) ?_ V;rintro k G l hk ⟨rfl,P,Q,O⟩;obtain⟨G,rfl⟩:=kb P Q;clear P Q;by_cases p:k<g.opsZ.l.length
 ·by_cases am:k<=70
  ·obtain⟨h,J,D⟩:=aP p;have Z:=cq (k:=k) F;have S:bO (.ad 11) (bF g.opsZ) _=_:=dg J;have Y:=VF h;have R:=dV h;have X:(au h).length=11:=rfl;have I:(k:Int)<=70:=F;have ap:k<min g.opsZ.l.length 71:=F;obtain⟨al,ae⟩:=ao (au h);rw[<-ae] at S Y R X;simp[v,p,I,S,X,aL];refine av Y (by simp[aq,U.aw,R]) ?_;by_cases j:pu h=true
   ·simp[j];refine aT (ch U.bool ?_) rfl;unfold pt;rw[bY ⟨h,cE (i:=k) (by rw[dU F];exact J),j⟩];rfl
   ·rw[xM] at j;simp[j,Z];refine⟨F,fun m ak o K=>?_⟩;by_cases aj:m=k
    ·subst aj;rw[J] at K;obtain rfl:=cg K;exact j
    ·exact O m ak F K
  ·have I:¬ (k:Int)<=70:=F;have W:¬ ∃ h∈g.opsZ.l.take 71,pu h=true:=fun ⟨h,D,j⟩=>by
    obtain⟨m,o⟩:=cj.1 D;have H:=(aK.1 o).1;rw[cO] at H;rw[dU F] at o;rw[O m h F o] at j;cases j
   have t:(16:Int)<(g.opsZ.l.length:Int):=F;have z:¬ (g.opsZ.l.length:Int)<=60:=F;have u:(70:Int)<(g.opsZ.l.length:Int):=F;simp[v,p,I,t,z,u];refine aT (ch U.bool ?_) rfl;unfold pt;simp[show 70<g.opsZ.l.length by omega]
 ·have W:¬ ∃ h∈g.opsZ.l.take 71,pu h=true:=fun ⟨h,D,j⟩=>by
   obtain⟨m,o⟩:=cj.1 D;have H:=(aK.1 o).1;rw[cO] at H;rw[dU F] at o;rw[O m h F o] at j;cases j
  have ag:pt g=(decide (16<g.opsZ.l.length/\g.opsZ.l.length<=60)||(decide (70<g.opsZ.l.length)||decide (70<g.idsZ.l.length))):=by
   unfold pt;rw[cC W];rfl
  rw[ag];have d1:decide ((16:Int)<(g.opsZ.l.length:Int))=decide (16<g.opsZ.l.length):=by rw[decide_eq_decide];omega
  have d2:decide ((g.opsZ.l.length:Int)<=60)=decide (g.opsZ.l.length<=60):=by rw[decide_eq_decide];omega
  have d3:decide ((70:Int)<(g.opsZ.l.length:Int))=decide (70<g.opsZ.l.length):=by rw[decide_eq_decide];omega
  have d4:decide ((70:Int)<(g.idsZ.l.length:Int))=decide (70<g.idsZ.l.length):=by rw[decide_eq_decide];omega
  by_cases t:16<g.opsZ.l.length
  ·have w:(16:Int)<(g.opsZ.l.length:Int):=F;by_cases z:g.opsZ.l.length<=60
   ·have C:(g.opsZ.l.length:Int)<=60:=F;simp[v,p,t,w,z,C];exact aE
   ·have C:¬ (g.opsZ.l.length:Int)<=60:=F;by_cases u:70<g.opsZ.l.length
    ·have B:(70:Int)<(g.opsZ.l.length:Int):=F;simp[v,p,t,w,z,C,u,B];exact aE
    ·have B:¬ (70:Int)<(g.opsZ.l.length:Int):=F;simp[v,T,p,t,w,z,C,u,B];exact aT (ch U.bool d4) rfl
  ·have w:¬ (16:Int)<(g.opsZ.l.length:Int):=F;have u:¬ 70<g.opsZ.l.length:=F;have B:¬ (70:Int)<(g.opsZ.l.length:Int):=F;simp[v,T,p,t,w,u,B];exact aT (ch U.bool d4) rfl
def cp (o:aG) :aG:={ o with ay:=some o.ay.l }
theorem Mt {o:aG} (h:dz o) :dz (cp o):=⟨h.idsZ,h.len,h.val,h.key⟩
theorem KD (o:aG) (h:dz o) :aY 130 [.ah (au o)] (.ah (au (cp o))):=by
 apply bc func130 [];have t:=dF;have w:=h.len;have j:∀ x∈o.ay.l,(ar x).length=32:=fun x u=>bu (h.idsZ x u)
 have g:=F1 (enc:=ar) (by_:=32) [am.q 11 (au o),am.q 11 [.int .u32 0,.af,.int .u64 0,.int .u8 0,.str [],.int .u8 0,.i6 0,.int .u64 0,.str [],.int .u32 0,.int .u32 0]] o.ay j F F (by rw[t];omega);have p:∀ x:bV,(ai x).cells=some [ai x]:=fun x=>by cases x<;>rfl
 have v:=bU (some o.ay.l);simp only[au,ai,dE,hq,jK,iD] at g;simp[au,ai,g];refine b2.yJ (by exact qW j rfl rfl) rfl ?_;have m:U.bn 32 (o.ay.l.map ar)=ai (some o.ay.l):=rfl;simp[m,p,ax];exact aT rfl (show (U.ah (au (cp o))).aw=true by have:=dV (cp o);simpa [U.aw] using this)
def di (g:aU) :aU:=⟨some g.idsZ.l,cL (g.opsZ.l.map cp)⟩
theorem Ms {g:aU} (h:ff g) :ff (di g):=by
 refine⟨h.idsZ,fun p j=>?_,h.li,?_⟩
 ·unfold di at j;simp only[dr] at j;obtain⟨o,m,rfl⟩:=cy.1 j;exact Mt (h.opsZ o m)
 ·unfold di;simp only[dr];simpa using h.ju
theorem KC (g:aU) (z:ff g) :aY 128 [cH g] (cH (di g)):=by
 apply bc func128 [db 0 7++[[7,1]]];have ag:=dF;have X:bx (.ad 11) (bF g.opsZ)=_:=cd _;have aS:=z.ju;have aT:=z.li;have ak:∀ x∈g.idsZ.l,(ar x).length=32:=fun x aN=>bu (z.idsZ x aN)
 have R:=F1 (enc:=ar) (by_:=32) [am.q 2 (bf g),am.q 2 [.af,.af]] g.idsZ ak F F (by rw[ag];omega);have aE:∀ x:bV,(ai x).cells=some [ai x]:=fun x=>by cases x<;>rfl
 have aA:=bU (some g.idsZ.l);simp only[bf,ai,dE,hq,jK,iD] at R;simp[cH,bf,ai,R];refine b2.yJ (by exact qW ak rfl rfl) rfl ?_;have aB:U.bn 32 (g.idsZ.l.map ar)=ai (some g.idsZ.l):=rfl;simp[aB,aE,ax];refine bz g.opsZ.l.length (fun k p l=>p 1=.ptr 0 0 2/\p 2=.ptr 1 0 2/\p 3=.ptr 3 0 2/\p 4=.i6 k/\∃ j o rest,l=.q 2 [ai g.idsZ,bF g.opsZ] ::.q 2 [.af,.af] ::.dead::.q 2 [ai (some g.idsZ.l),j] ::rest ∧
  aM 11 l j o (((g.opsZ.l.take k).map cp).map au)/\(j=.af\/4<=o)/\bt j=(g.opsZ.l.take k).isEmpty) ?_ ?_
 ·rintro k p l hk ⟨J,K,O,P,j,o,rest,rfl,G,W,Y⟩;obtain⟨p,rfl⟩:=fc J K O P;clear J K O P;by_cases B:k<g.opsZ.l.length
  ·obtain⟨m,Z,aF⟩:=aP B;have ay:=cq (k:=k) F;have V:bO (.ad 11) (bF g.opsZ) _=_:=dg Z;have H:=KD m (z.opsZ m aF);have S:=dV m;have ae:(au m).length=11:=rfl;have u:(au (cp m)).length=11:=rfl;have aj:g.opsZ.l.take (k+1)=g.opsZ.l.take k++[m]:=by rw[eU,Z];rfl
   obtain⟨aO,dp,aV,C,D,al,ap⟩:=rN (by_:=112) (pre:=[.q 2 [ai g.idsZ,bF g.opsZ],.q 2 [.af,.af],.dead,.q 2 [ai (some g.idsZ.l),j]]) (rest:=rest++[.q 11 (au (cp m))]) (G.more _) W (x:=.ad 11 (rest.length+1+1+1+1) 0 1 1 11) (xs:=[au (cp m)])
    (by simp[cG,u,aL]) (by simp[u]) F F (by rw[ag];simp;omega)
   obtain⟨aQ,az⟩:=ao (au m);obtain⟨T,Q⟩:=ao (au (cp m));rw[<-az] at V H S ae;rw[<-Q] at H u C D;have aJ:ax [U.int .u32 0,.af,.int .u64 0,.int .u8 0,.str [],.int .u8 0,.i6 0,.int .u64 0,.str [],.int .u32 0,.int .u32 0] 0 T=T:=cI (by rw[u];rfl);have aK:=D.cells;simp only[jK,iD] at C;simp[X,B,V,ae,aL];refine av H (by simp[aq,U.aw,S]) ?_;simp[u,aJ,C];refine b2.bq ?_;simp[aK,ax,ay];have aH:List.take (k+1) (List.map (au ∘ cp) g.opsZ.l)=((g.opsZ.l.take k).map cp).map au++[T]:=by rw[<-jh,aj];simp[Q]
   have I:bt aO=false:=by rw[ap];simp
   have aC:4<=dp:=by
    rcases al with h | h
    ·rw[h] at I;cases I
    ·simpa using h
   refine⟨B,dp,?_,.inr aC,by rw[I,aj];simp⟩;rw[aH];refine D.c6 (.inr ?_);obtain⟨v,rfl⟩:∃ v,dp=v+4:=⟨dp - 4,F⟩
   rfl
  ·have aD:k=g.opsZ.l.length:=F;simp[X,B];rw[aD,fC] at G Y;have aG:Rd (am.q 2 [ai g.idsZ,bF g.opsZ] ::am.q 2 [ai (some g.idsZ.l),j] ::am.dead::am.q 2 [ai (some g.idsZ.l),j] ::rest) j (bF (cL (g.opsZ.l.map cp))):=by
    refine (G.c6 (l':=am.q 2 [ai g.idsZ,bF g.opsZ] ::am.q 2 [ai (some g.idsZ.l),j] ::am.dead::am.q 2 [ai (some g.idsZ.l),j] ::rest) ?_).q.jA (fun x=>dV x) (cL (g.opsZ.l.map cp)) (by rw[Y,oR];simp) (dr _);rcases W with h | h
    ·exact .inl h
    ·right;obtain⟨v,rfl⟩:∃ v,o=v+4:=⟨o - 4,F⟩
     rfl
   refine .ah _ _ rfl fun o c aR t w=>?_
   rcases o with _ | _ | o
   ·simp[bf,di] at t w;subst t w;exact .same _ aA
   ·simp[bf,di] at t w;subst t w;exact aG
   ·simp at t
 ·simp;exact⟨.af,⟨rfl,rfl⟩,0,.nil 0,.inl rfl,rfl⟩
def gR (a b:aG) :Bool:=decide (a.en=b.en)&&(decide (a.ay.l=b.ay.l)&&(decide (a.eZ=b.eZ)&&(dn (e8 a.act) (e8 b.act)&&(decide (a.e=b.e)&&decide (a.s=b.s)))))
theorem CI:mO prog 20 53=some [.i .u32,.i .u32]:=bg
theorem zX (a b c d:D) :eb prog .eql 53 (.ah [a7 a,a7 b]) (.ah [a7 c,a7 d])=some (.bool (decide (a=c)&&decide (b=d))):=by rw[tD CI bg bg rfl rfl];simp[dn,U.beq]
theorem DH (a b:aG) (o:dz a) (p:dz b) :aY 71 [.ah (au a),.ah (au b)] (.bool (gR a b)):=by
 apply bc func71 [];unfold gR;have q:=bU a.ay;have t:=bU b.ay;have u:=sG a.ay b.ay o.idsZ p.idsZ o.len;have g:=x7 a.act b.act;have v:=zX a.e a.s b.e b.s;have w:(ai a.ay).cells=some [ai a.ay]:=by cases a.ay<;>rfl
 have z:(ai b.ay).cells=some [ai b.ay]:=by cases b.ay<;>rfl
 unfold e8 at g ⊢;simp[au];by_cases h1:a.en=b.en
 ·simp[h1];refine av u (by simp[aq,q,t]) ?_;by_cases h:a.ay.l=b.ay.l
  ·by_cases j:a.eZ=b.eZ
   ·cases m:dn [a8 a.act.kind,.str a.act.key,a8 a.act.val.kind,.i6 a.act.val.num,c1 a.act.val.bits,.str a.act.val.text] [a8 b.act.kind,.str b.act.key,a8 b.act.val.kind,.i6 b.act.val.num,c1 b.act.val.bits,.str b.act.val.text] with
    | false=>
     rw[m] at g;simp[h1,h,j,g];exact aE
    | true=>
     rw[m] at g;simp[h1,h,j,g,v];exact aE
   ·simp[h1,h,j];exact aE
  ·simp[h1,h];exact aE
 ·simp[h1];exact aE
theorem Lp (a:aG) :gR a a=true:=by unfold gR;simp[e8,dn,U.beq]
def hU (l:List aG) (k:Nat) :aG:=l.getD k ⟨0,none,0,⟨0,[],⟨0,0,0,[]⟩⟩,0,0⟩
theorem jy {l:List aG} {k:Nat} {o:aG} (h:l[k]?=some o) :hU l k=o:=by unfold hU;rw[gA,h];rfl
def kM (a b:aU) :Bool:=decide (a.idsZ.l=b.idsZ.l)&&(decide (a.opsZ.l.length=b.opsZ.l.length)&&decide (∀ k,k<a.opsZ.l.length->gR (hU a.opsZ.l k) (hU b.opsZ.l k)=true))
theorem VU (a b:aU) (u:ff a) (J:ff b) :aY 26 [cH a,cH b] (.bool (kM a b)):=by
 apply bc func26 [];have ak:=bU a.idsZ;have al:=bU b.idsZ;have am:=sG a.idsZ b.idsZ u.idsZ J.idsZ u.li;have v:bx (.ad 11) (bF a.opsZ)=_:=cd _;have T:bx (.ad 11) (bF b.opsZ)=_:=cd _;have aB:=u.ju;simp[cH,bf];refine av am (by simp[aq,ak,al]) ?_;by_cases h1:a.idsZ.l=b.idsZ.l
 ·by_cases w:a.opsZ.l.length=b.opsZ.l.length
  ·have D:(a.opsZ.l.length:Int)=(b.opsZ.l.length:Int):=F;simp[h1,v,T,w];refine bz a.opsZ.l.length (fun k t l=>l=[.q 2 [ai a.idsZ,bF a.opsZ],.q 2 [ai b.idsZ,bF b.opsZ]]/\t 2=.ptr 0 0 2/\t 3=.ptr 1 0 2/\t 5=.i6 k/\∀ g,g<k->gR (hU a.opsZ.l g) (hU b.opsZ.l g)=true) ?_ V;rintro k t l hk ⟨rfl,z,B,C,ae⟩;obtain⟨t,rfl⟩:=gK z B C;clear z B C;by_cases o:k<a.opsZ.l.length
   ·obtain⟨j,W,ax⟩:=aP o;obtain⟨m,Y,ay⟩:=aP (l:=b.opsZ.l) (k:=k) F;have aj:=cq (k:=k) F;have R:bO (.ad 11) (bF a.opsZ) _=_:=dg W;have S:bO (.ad 11) (bF b.opsZ) _=_:=dg Y;have ag:=DH j m (u.opsZ j ax) (J.opsZ m ay);have O:=dV j;have P:=dV m;have X:(au j).length=11:=rfl;have Z:(au m).length=11:=rfl;have I:=jy W;have K:=jy Y;obtain⟨az,G⟩:=ao (au j);obtain⟨Q,H⟩:=ao (au m);rw[<-G,<-H] at ag;rw[<-G] at R O X;rw[<-H] at S P Z;simp[v,o,R,S,X,Z,aL];refine av ag (by simp[aq,U.aw,O,P]) ?_;by_cases p:gR j m=true
    ·simp[p,o,aj];intro g ap;by_cases ar:g=k
     ·subst ar;rw[I,K];exact p
     ·exact ae g F
    ·rw[xM] at p;simp[p];refine aT (ch U.bool ?_) rfl;unfold kM;rw[cC (fun h:∀ k,k<a.opsZ.l.length->gR (hU a.opsZ.l k) (hU b.opsZ.l k)=true=>by
      have:=h k o;rw[I,K,p] at this;cases this)]
     simp
   ·have aA:k=a.opsZ.l.length:=F;simp[v,o];refine aT (ch U.bool ?_) rfl;unfold kM;rw[bY h1,bY w,bY fun g ap=>ae g F];rfl
  ·have D:¬ (a.opsZ.l.length:Int)=(b.opsZ.l.length:Int):=F;simp[h1,v,T,D];refine aT (ch U.bool ?_) rfl;unfold kM;rw[cC w];simp
 ·simp[h1];refine aT (ch U.bool ?_) rfl;unfold kM;rw[cC h1];simp
structure vr (g:aU) :Prop where
 n60:g.opsZ.l.length<=60
 len:g.idsZ.l.length=g.opsZ.l.length
 HZ:∀ (k:Nat) (o:aG) (x:List B),g.opsZ.l[k]?=some o->g.idsZ.l[k]?=some x->eA o=0/\bE o=x
 bX:bX g.idsZ.l=true
 Dc:∀ o∈g.opsZ.l,∀ p∈o.ay.l,p∈g.idsZ.l
 all:∀ i,i<g.opsZ.l.length->mr g.idsZ.l g.opsZ.l i
theorem lo {g:aU} (h:e2 g=0) :vr g:=by
 unfold e2 at h;split at h
 ·cases h
 ·rename_i C;split at h
  ·rename_i j;split at h
   ·rename_i q;unfold jF at h;split at h
    ·rename_i o;split at h
     ·rename_i u;split at h
      ·rename_i v;refine⟨F,j,fun k p x m z=>?_,o,fun p t B w=>?_,(Dg j (mH o)).1 v⟩
       ·have:=(r6 g).1 q k (aK.1 m).1;rw[v8 m z,bH,bC,bC] at this;exact this
       ·exact iZ (iZ u p t) B w
      ·cases h
     ·cases h
    ·cases h
   ·cases h
  ·cases h
def mR (idsZ:aO) (seen:List Bool) (k:Nat) :aO:=(List.range k).flatMap fun i=>if seen.getD i false=true then [bo idsZ i] else []
theorem CX (idsZ:aO) (seen:List Bool) (k:Nat) :mR idsZ seen (k+1)=mR idsZ seen k++(if seen.getD k false=true then [bo idsZ k] else []):=by unfold mR;rw[tg,xO];simp
theorem I8 (idsZ:aO) (seen:List Bool) :∀ k,(mR idsZ seen k).length<=k
 | 0=>by simp[mR]
 | k+1=>by
  have:=I8 idsZ seen k;rw[CX,cr];split<;>simp<;>omega
theorem Gi:∀ l:List B,dn (l.map a8) (l.map a8)=true
 | []=>rfl
 | x::l=>by
  have h1:U.beq (a8 x) (a8 x)=true:=by simp[U.beq]
  show (U.beq (a8 x) (a8 x)&&dn (l.map a8) (l.map a8))=true;rw[h1,Gi l];rfl
theorem OV (x:List B) :U.beq (.ah (ar x)) (.ah (ar x))=true:=Gi x
theorem Cb {x:List B} (h:x.length=32) :kD prog 57 (.ah (ar x))=true:=by
 have h1:pA prog 8 57=true:=bg;have g:dC prog 57=some true:=bg;have j:b5 prog 57=some 32:=bg;have m:(x.map a8).all qZ=true:=by rw[gg];intro c o;obtain⟨b,_,rfl⟩:=cy.1 o;rfl
 show (pA prog 8 57&&(match dC prog 57,b5 prog 57 with | some true,some p=>Nat.beq (x.map a8).length p | _,_=>false)&&(x.map a8).all qZ)=true;rw[h1,g,j,m,cx,h];rfl
theorem IY:∀ {a b:List B},a.map (fun x=>u x)=b.map (fun x=>u x)<->a=b
 | [],[]=>V
 | [],_::_=>V
 | _::_,[]=>V
 | x::a,y::b=>by
  rw[df,df,List.cons.injEq,List.cons.injEq,IY (a:=a) (b:=b)];simp
theorem QO {a b:List B} (g:a.length=32) (j:b.length=32) {D:Nat}:dJ prog (D+2) 57 (.ah (ar a)) (.ah (ar b))=some (decide (a=b)):=by have h:=QP (P:=prog) (t:=57) (e:=5) (k:=.u8) (n:=32) bg bg bg bg (x:=a.map fun x=>u x) (y:=b.map fun x=>u x) (by simp[g]) (by simp[j]) (D:=D);rw[iU,iU] at h;unfold ar;rw[show a.map a8=a.map (U.int .u8 ∘ fun x=>u x) from rfl,show b.map a8=b.map (U.int .u8 ∘ fun x=>u x) from rfl,h];simp only[IY]
inductive qj:Nat->List (U × U × Nat)->aO->Prop
 | nil (b:Nat) :qj b [] []
 | cons {b:Nat} {g:List (U × U × Nat)} {b3:aO} {k:List B} (n:Nat) (hk:k.length=32) (h:qj (b+1) g b3) :qj b ((.ah (ar k),.int .i64 (b:Int),n) ::g) (k::b3)
theorem qj.snoc {b:Nat} {es:List (U × U × Nat)} {b3:aO} (h:qj b es b3) {k:List B} (hk:k.length=32) (n:Nat) :qj b (es++[(.ah (ar k),.i6 ((b+b3.length:Nat) :Int),n)]) (b3++[k]):=by
 induction h with
 | nil b=>exact .cons n hk (.nil _)
 | @cons b es b3 m o j h g=>
  refine .cons o j ?_;rw[show b+1+b3.length=b+(m::b3).length by simp;omega] at g;exact g
theorem HB {x:List B} (q:x.length=32) {b:Nat} {es:List (U × U × Nat)} {b3:aO} (h:qj b es b3) :∀ c,(∀ i,b3[i]?=some x->(∀ j,j<i->b3[j]?≠some x)->jV prog 57 (.ah (ar x)) es c=some (some (c+i,.i6 ((b+i:Nat) :Int))))/\(x∉b3->jV prog 57 (.ah (ar x)) es c=some none):=by
 induction h with
 | nil b=>intro c;exact⟨fun i h=>by simp at h,fun _=>rfl⟩
 | @cons b es b3 k n hk h t=>
  intro c;unfold jV;rw[Cb hk];simp only;rw[show dJ prog 10000 57 (.ah (ar x)) (.ah (ar k))=some (decide (x=k)) from QO q hk (D:=9998)];by_cases m:x=k
  ·subst m;simp only[nZ,OV];refine⟨fun i g o=>?_,fun h=>bP V h⟩;cases i with
   | zero=>rfl
   | succ i=>exact bP rfl (o 0 F)
  ·simp only[m,vk];obtain⟨h1,p⟩:=t (c+1);refine⟨fun i g o=>?_,fun h=>p (fun h'=>h (by simp[h']))⟩;cases i with
   | zero=>simp at g;exact bP g.symm m
   | succ i=>
    rw[h1 i (by simpa using g) (fun j u=>by have:=o (j+1) F;simpa using this)];rw[show c+1+i=c+(i+1) by omega,show b+1+i=b+(i+1) by omega]
structure k0 (l:ae) (j:Nat) (b3:aO) :Prop where
 e:∃ es k6,l[j]?=some (.map es k6)/\qj 0 es b3
theorem k0.look {l:ae} {j:Nat} {b3:aO} (h:k0 l j b3) (t:kY b3) {x:List B} (m:x.length=32) {i:Nat} (g:b3[i]?=some x) :wv prog l 57 (.i6 0) false (.mp j) (.ah (ar x))=some (.i6 (i:Int)):=by
 obtain⟨es,v,h1,o⟩:=h.e;have p:uo l (.mp j)=some es:=by simp[uo,h1]
 unfold wv;rw[p];simp only[Cb m];rw[(HB m o 0).1 i g (fun u w q=>by have:=t u i x q g;omega)];simp
theorem k0.put {l:ae} {j:Nat} {b3:aO} (h:k0 l j b3) {x:List B} (g:x.length=32) (q:x∉b3) :∃ c,si prog l 57 (.mp j) (.ah (ar x)) (.i6 (b3.length:Int))=some (l.set j c)/\(∀ l' : ae,l'[j]?=some c->k0 l' j (b3++[x])):=by obtain⟨t,o,h1,m⟩:=h.e;unfold si;simp only[h1,Cb g,(HB g m 0).2 q];exact⟨_,rfl,fun l' p=>⟨_,_,p,by have:=m.snoc g o;rw[hr] at this;exact this⟩⟩
theorem k0.frame {l l' : ae} {j:Nat} {b3:aO} (h:k0 l j b3) (p:l'[j]?=l[j]?) :k0 l' j b3:=by obtain⟨m,g,h1,o⟩:=h.e;exact⟨m,g,by rw[p,h1],o⟩
theorem k0.lt {l:ae} {j:Nat} {b3:aO} (h:k0 l j b3) :j<l.length:=by obtain⟨m,g,h1,o⟩:=h.e;exact (aK.1 h1).1
theorem Th {P:bj} {g:aW->U} {l:ae} {o:aW} {k:cV} {n:Int} (h:g o=.int k n) :bM P g l (.uq (some o))=some (.mp l.length,l++[.map [] 0]):=by show (match asInt (g o) with | some _=>some (U.mp l.length,l++[am.map [] 0]) | none=>none)=_;rw[h];rfl
theorem Vc (g:aU) (G:ff g) (Y:kY g.idsZ.l) {l:ae} {K:cA} (R:∀ j l',k0 l' j g.idsZ.l->l.length<=j->(∀ c,c<l.length->l'[c]?=l[c]?)->l.length<=l'.length->K (.mp j) l') :
  cJ 276 [cH g] l K:=by
 apply cW func276 [];have aw:=G.li;have I:bx (.ad 32) (ai g.idsZ)=_:=cd _;simp[cH,bf,I];rw[Th (k:=.i64) (n:=g.idsZ.l.length) V];simp[I];refine bz g.idsZ.l.length (fun k h l'=>h 3=.mp (l.length+1)/\h 11=ai g.idsZ/\h 12=.i6 g.idsZ.l.length/\h 13=.i6 k/\k0 l' (l.length+1) (g.idsZ.l.take k)/\(∀ c,c<l.length->l'[c]?=l[c]?)) ?_ ?_
 ·rintro k h l' hk ⟨C,w,z,B,m,D⟩;obtain⟨h,rfl⟩:=fc C w z B;clear C w z B;by_cases p:k<g.idsZ.l.length
  ·obtain⟨x,u,au⟩:=aP p;have Q:=cq (k:=k) F;have H:bO (.ad 32) (ai g.idsZ) _=_:=dg u;have J:=G.idsZ x au;have v:=bu J;have ap:g.idsZ.l.take (k+1)=g.idsZ.l.take k++[x]:=by rw[eU,u];rfl
   have al:x∉g.idsZ.l.take k:=fun ak=>by
    obtain⟨av,t⟩:=cj.1 ak;have aq:=(aK.1 t).1;rw[cO] at aq;rw[dU F] at t;have:=Y av k x t u;omega
   have aj:=m.lt;have S:k0 (l'++[.q 32 (ar x)]) (l.length+1) (g.idsZ.l.take k):=m.frame (aV aj);obtain⟨c,o,P⟩:=S.put J al;have ag:(g.idsZ.l.take k).length=k:=by rw[cO];omega
   rw[ag] at o;obtain⟨X,T⟩:=ao (ar x);rw[<-T] at H v o;have am:ax (bT 32 (.int .u8 0)) 0 X=X:=cI (by rw[v];rfl);simp[p,H,v,am,aL,o,Q];refine⟨?_,fun O W=>?_⟩
   ·rw[ap];exact P _ (by rw[b1 (by simp;omega)])
   ·rw[br F,aV F];exact D O W
  ·have Z:k=g.idsZ.l.length:=F;rw[Z,fC] at m;simp[p];exact R _ _ m F D (by have:=m.lt;omega)
 ·simp;refine⟨⟨[],0,V,.nil 0⟩,fun c U=>by rw[aV U]⟩
theorem Py {l:ae} {p:U} {x:ag × Nat} (h:fV l p=some x) :k5 p 0=some p:=by cases p<;>first | rfl | (exfalso;simp[fV] at h)
theorem Wh {l:ae} {a b j m:U} (h1:Rd l a j) (p:Rd l b m) :Rd l (.a1 [a,b]) (.a1 [j,m]):=by
 refine .a1 _ _ rfl fun o x q g h=>?_
 rcases o with _ | _ | o
 ·simp at g h;subst g h;exact h1
 ·simp at g h;subst g h;exact p
 ·simp at g
def lU (g:aU) (x:List B) (m:Nat) :Bool:=decide (∀ h,h<m->x∉(hU g.opsZ.l h).ay.l)
theorem Rp (g:aU) (x:List B) (m:Nat) :lU g x (m+1)=(lU g x m&&!decide (x∈(hU g.opsZ.l m).ay.l)):=by
 unfold lU;rw[xL,bH,bC,bC,s8,decide_eq_false_iff_not];constructor
 ·intro h;exact⟨fun j p=>h j F,h m F⟩
 ·rintro⟨h1,o⟩ j p;by_cases e:j=m
  ·rw[e];exact o
  ·exact h1 j F
abbrev il (g:aU) (x:List B) :Bool:=lU g x g.opsZ.l.length
def eX (g:aU) :aO:=g.idsZ.l.filter (il g)
structure N2 (g:aU) (l0:ae) (w:U) (seen:List Bool) (k:Nat) (sgZ:aR) (l:ae) :Prop where
 fp:sgZ 1=w
 iI:sgZ 2=.ptr l0.length 0 2
 oo:sgZ 8=.i6 seen.length
 HW:sgZ 9=.i6 k
 ex:∃ v,sgZ 5=v/\b9 32 ar (l0++[.q 2 [ai g.idsZ,bF g.opsZ]]) l v (mR g.idsZ.l seen k) (mR g.idsZ.l seen k).isEmpty
theorem Tm (g:aU) (O:ff g) {l0:ae} {w:U} {t:Nat} {seen:List Bool} (aG:seen.length=g.idsZ.l.length) (Q:aM 1 l0 w t (seen.map lc)) (ag:t<l0.length) {K:cA}
  (Y:∀ v l',b9 32 ar l0 l' v (mR g.idsZ.l seen seen.length) (mR g.idsZ.l seen seen.length).isEmpty->K v l') :
  cJ 277 [cH g,w] l0 K:=by
 apply cW func277 [];have ap:=dF;have aE:=O.li;have au:bx (.ad 1) w=some (.i6 seen.length):=by have:=Q.len;simpa using this
 simp[cH,bf,au];refine bz seen.length (N2 g l0 w seen) ?_ ⟨V,V,V,V,.af,V,b9.nil⟩;rintro k aA l hk ⟨C,D,H,I,v,G,h⟩;obtain⟨aA,rfl⟩:=gx C D G H I;clear C D G H I;have az:l[l0.length]?=some (.q 2 [ai g.idsZ,bF g.opsZ]):=by rw[h.same _ V];simp
 have aw:aM 1 l w t (seen.map lc):=Q.c6 (.inr (by rw[h.same _ (by simp;omega),aV ag]));by_cases o:k<seen.length
 ·obtain⟨b,m,_⟩:=aP o;obtain⟨x,R,ay⟩:=aP (l:=g.idsZ.l) (k:=k) F;have B:=cq (k:=k) F;obtain⟨aJ,cs,S,T,u,aK,aC⟩:=aw.q.get (k:=.i64) (i:=k) (e:=lc b) (by rw[bW,m];rfl);have W:cs[S]?=some (.bool b):=by
   have J:((cs.drop S).take 1)[0]?=(lc b)[0]?:=by rw[aC]
   rw[dU F] at J;simpa [lc] using J
  have P:bO (.ad 32) (ai g.idsZ) _=_:=dg R;have aq:seen.getD k false=b:=by rw[gA,m];rfl
  have p:=bu (O.idsZ x ay);have aF:=I8 g.idsZ.l seen k;have j:=CX g.idsZ.l seen k;have aN:=Py u;rw[aq] at j;cases b with
  | false=>
   simp at j;simp[o,T,u,W,B];exact⟨V,V,V,V,v,V,by rw[j];exact h⟩
  | true=>
   rw[aj rfl,dG R] at j;obtain⟨aB,aH,z,al,aD⟩:=Um (by_:=32) (h.more [am.q 32 (ar x)]) x (b:=l.length) V p F F (by rw[ap];omega);obtain⟨X,Z⟩:=ao (ar x);rw[<-Z] at P p z;have av:ax (bT 32 (.int .u8 0)) 0 X=X:=cI (by rw[p];rfl);simp[o,T,u,W,az,P,p,av,aL,z];refine b2.bq ?_;simp[o,B];exact⟨V,V,V,V,aB,V,by rw[j,show (mR g.idsZ.l seen k++[x]).isEmpty=false by simp];exact al⟩
 ·have ak:k=seen.length:=F;subst ak;simp;exact Y _ _ (h.base V (fun b m=>aV m))
def nv (n k:Nat) :List Bool:=(List.range n).map fun i=>decide (i<k)
theorem Q0 (n k:Nat) :(nv n k).length=n:=by simp[nv]
theorem Q2 (n:Nat) :nv n 0=List.replicate n false:=by
 apply g5 ;intro i;unfold nv;by_cases h:i<n
 ·rw[bW,hp h,AR,aj h];simp
 ·rw[ea (by simp;omega),ea (by simp;omega)]
theorem Q1 {n k:Nat} (h:k<n) :(nv n k).set k true=nv n (k+1):=by
 apply g5 ;intro i;unfold nv;by_cases g:i<n
 ·by_cases e:k=i
  ·subst e;rw[b1 (by simp;omega),bW,hp g];simp
  ·rw[br e,bW,bW,hp g];simp;omega
 ·rw[ea (by simp;omega),ea (by simp;omega)]
def i8 (g:aU) (q m:Nat) :List Bool:=(List.range g.idsZ.l.length).map fun i=>lU g (bo g.idsZ.l i) q&&!decide (bo g.idsZ.l i∈(hU g.opsZ.l q).ay.l.take m)
theorem Cn (g:aU) (q m:Nat) :(i8 g q m).length=g.idsZ.l.length:=by simp[i8]
theorem RX (g:aU) :nv g.idsZ.l.length g.idsZ.l.length=i8 g 0 0:=by
 unfold nv i8;refine mm fun i h=>?_
 rw[g7] at h;rw[bY h];simp[lU]
theorem RV (g:aU) (q:Nat) :i8 g q (hU g.opsZ.l q).ay.l.length=i8 g (q+1) 0:=by
 unfold i8;refine mm fun i h=>?_
 rw[fC,Rp];simp
theorem RW {g:aU} (w:kY g.idsZ.l) {q m i:Nat} {p:List B} (C:(hU g.opsZ.l q).ay.l[m]?=some p) (j:g.idsZ.l[i]?=some p) :(i8 g q m).set i false=i8 g q (m+1):=by
 have D:=(aK.1 j).1;apply g5 ;intro t;unfold i8;have u:(hU g.opsZ.l q).ay.l.take (m+1)=(hU g.opsZ.l q).ay.l.take m++[p]:=by rw[eU,C];rfl
 by_cases o:t<g.idsZ.l.length
 ·obtain⟨y,v,_⟩:=aP o;by_cases e:i=t
  ·subst e;rw[b1 (by simp;omega),bW,hp o,u];simp[j]
  ·rw[br e,bW,bW,hp o,u];have z:y≠p:=fun h=>e (by subst h;exact w i t y j v)
   simp[v,z]
 ·rw[ea (by simp;omega),ea (by simp;omega)]
theorem I7 (g:aU) :∀ k,k<=g.idsZ.l.length->mR g.idsZ.l (i8 g g.opsZ.l.length 0) k=(g.idsZ.l.take k).filter (il g)
 | 0,_=>rfl
 | k+1,hk=>by
  obtain⟨x,j,_⟩:=aP (l:=g.idsZ.l) (k:=k) F;have h1:(i8 g g.opsZ.l.length 0).getD k false=il g x:=by
   rw[gA];unfold i8;rw[bW,hp F];simp[j]
  rw[CX,I7 g k F,h1,dG j,eU,j,lF];cases h:il g x<;>simp[h]
structure n4 (g:aU) (h b:Nat) (S:List Bool) (l:ae) :Prop where
 ls:l[0]?=some (.q 2 [ai g.idsZ,bF g.opsZ])
 p:k0 l h g.idsZ.l
 w:aM 1 l (.ad 1 b 0 g.idsZ.l.length g.idsZ.l.length g.idsZ.l.length) b (S.map lc)
 yN:b<l.length
 hm:h<b
 Cm:0<h
theorem n4.more {g:aU} {j b:Nat} {S:List Bool} {l:ae} (h:n4 g j b S l) (c:am) :n4 g j b S (l++[c]):=
 ⟨by rw[aV (by have:=h.yN;omega)];exact h.ls,h.p.frame (aV h.p.lt),h.w.more _,by have:=h.yN;simp;omega,h.hm,h.Cm⟩
theorem n4.set {g:aU} {j b:Nat} {S:List Bool} {l:ae} (h:n4 g j b S l) {i:Nat} {v:Bool} (z:i<S.length) :
  ∃ p l',bO (.ad 1) (.ad 1 b 0 g.idsZ.l.length g.idsZ.l.length g.idsZ.l.length) (.i6 (i:Int))=some p/\jG 1 l p (.bool v)=some l'/\n4 g j b (S.set i v) l':=by obtain⟨p,l',o,q,t,u,m⟩:=zz (enc:=lc) (x:=v) (X:=.bool v) rfl h.w (fun _ _=>rfl) z rfl;have h1:=h.hm;have B:=h.Cm;exact⟨p,l',o,q,by rw[m 0 F];exact h.ls,h.p.frame (m j F),t,by rw[u];exact h.yN,h.hm,h.Cm⟩
def rl (g:aU) :bV:=if e2 g=0 then cL (eX g) else none
theorem Zb (g:aU) (I:ff g) :aY 253 [cH g] (.a1 [ai (rl g),.i6 (e2 g)]):=by
 apply bc func253 [];have bt:=dF;have bg:=bU g.idsZ;have bh:=i7 g.opsZ;have bH:=I.ju;have bG:=I.li;have aR:=MS g I;have bo:bx (.ad 11) (bF g.opsZ)=_:=cd _;have bl:bx (.ad 32) (ai g.idsZ)=_:=cd _;unfold cH bf at aR;simp[cH,bf];refine av aR (by simp[aq,U.aw,bg,bh]) ?_;by_cases D:e2 g=0
 ·have aF:=lo D;have az:=mH aF.bX;simp[D];refine Vc g I az ?_;intro G J H bj aS bm;have C:J[0]?=some (am.q 2 [ai g.idsZ,bF g.opsZ]):=by rw[aS 0 V];rfl
  obtain⟨ae,ag⟩:=wB (z:=1) (by_:=1) (n:=g.idsZ.l.length) (k:=.i64) (k':=.i64) (zero:=[U.bool false]) (l:=J) rfl F (by rw[bt];omega);obtain⟨N,bD⟩:=ao (g.idsZ.l.length);simp only[nX] at ae ag;have m:n4 g G J.length (nv g.idsZ.l.length 0) (J++[.q g.idsZ.l.length (cD [.bool false] g.idsZ.l.length)]):=by
   have h1:J.length ≥ 1:=by simp at bm;omega
   refine⟨by rw[aV F];exact C,H.frame (aV H.lt),?_,V,H.lt,by simp at bj;omega⟩;rw[Q2,xT];exact ag
  simp[C,bl,ae];obtain⟨b,bd⟩:=ao (J.length);rw[<-bd] at m ⊢;refine bz g.idsZ.l.length (fun k j l=>j 1=.ptr 0 0 2/\j 5=.mp G/\j 6=.ad 1 b 0 g.idsZ.l.length g.idsZ.l.length g.idsZ.l.length/\j 24=.i6 g.idsZ.l.length/\j 25=.i6 k/\n4 g G b (nv g.idsZ.l.length k) l) ?_ ⟨V,V,V,V,V,m⟩;clear m ae ag C aS H;rintro k j l hk ⟨t,u,B,aG,aH,m⟩;obtain⟨j,rfl⟩:=gx t u B aG aH;clear t u B aG aH;simp;refine gp (fun h=>?_) (fun h=>?_)
  ·simp only[bC] at h;have al:=cq (k:=k) F;obtain⟨T,a8,aD,Z,W⟩:=m.set (i:=k) (v:=true) (by rw[Q0];omega);rw[Q1 F] at W;simp[aD,Z,al];exact⟨F,W⟩
  ·have bk:k=g.idsZ.l.length:=by simp at h;omega
   rw[bk,RX] at m;have C:=m.ls;simp[h,C,bo];refine bz g.opsZ.l.length (fun q j l=>j 1=.ptr 0 0 2/\j 5=.mp G/\j 6=.ad 1 b 0 g.idsZ.l.length g.idsZ.l.length g.idsZ.l.length/\j 33=bF g.opsZ/\j 34=.i6 g.opsZ.l.length/\j 35=.i6 q/\n4 g G b (i8 g q 0) l) ?_ ⟨V,V,V,V,V,V,m⟩;clear m C;rintro q j l bL ⟨t,u,B,Q,R,S,m⟩;obtain⟨j,rfl⟩:=rj t u B Q R S;clear t u B Q R S;simp;refine gp (fun X=>?_) (fun X=>?_)
   ·simp only[bC] at X;obtain⟨o,aA,a3⟩:=aP (l:=g.opsZ.l) (k:=q) F;have a4:=I.opsZ o a3;have al:=cq (k:=q) F;have aW:bO (.ad 11) (bF g.opsZ) _=_:=dg aA;have aB:(au o).length=11:=rfl;have aO:∀ h,(au o)[1]'h=ai o.ay:=fun _=>rfl
    have bp:bx (.ad 32) (ai o.ay)=_:=cd _;obtain⟨O,bb⟩:=ao (au o);rw[<-bb] at aW aB aO;have bv:ax [U.int .u32 0,.af,.int .u64 0,.int .u8 0,.str [],.int .u8 0,.i6 0,.int .u64 0,.str [],.int .u32 0,.int .u32 0] 0 O=O:=cI (by rw[aB];rfl);have bB:∀ c:am,(l++[c])[l.length]?=some c:=fun c=>qd
    simp[aW,aB,aO,bv,bp,aL];refine bz o.ay.l.length (fun K j l=>j 1=.ptr 0 0 2/\j 5=.mp G/\j 6=.ad 1 b 0 g.idsZ.l.length g.idsZ.l.length g.idsZ.l.length/\j 33=bF g.opsZ/\j 34=.i6 g.opsZ.l.length/\j 35=.i6 q/\j 40=ai o.ay/\j 41=.i6 o.ay.l.length/\j 42=.i6 K/\n4 g G b (i8 g q K) l) ?_ ⟨V,V,V,V,V,V,V,V,V,m.more _⟩;clear m bB;rintro K j l bI ⟨t,u,B,Q,R,S,aJ,aM,aN,m⟩;obtain⟨j,rfl⟩:=ES t u B Q R S aJ aM aN;clear t u B Q R S aJ aM aN;simp;refine gp (fun Y=>?_) (fun Y=>?_)
    ·simp only[bC] at Y;obtain⟨T,a5,a6⟩:=aP (l:=o.ay.l) (k:=K) F;have a7:=a4.idsZ T a6;have aC:=bu a7;have bK:=a4.len;have a9:=cq (k:=K) F;obtain⟨i,ap⟩:=cj.1 (aF.Dc o a3 T a6);have bE:=(aK.1 ap).1;have aX:bO (.ad 32) (ai o.ay) _=_:=dg a5;have aQ:=m.more (.q 32 (ar T));have aZ:=aQ.p.look az a7 ap;obtain⟨bM,a8,aD,Z,W⟩:=aQ.set (i:=i) (v:=false) (by rw[Cn];omega);rw[RW az (by rw[jy aA];exact a5) ap] at W;obtain⟨P,H⟩:=ao (ar T);rw[<-H] at aX aC aZ Z;have bw:ax (bT 32 (U.int .u8 0)) 0 P=P:=cI (by rw[aC];rfl);simp[aX,aC,bw,aZ,aD,Z,a9,aL];exact⟨F,W⟩
    ·have bq:K=o.ay.l.length:=by simp at Y;omega
     have a0:=RV g q;rw[jy aA] at a0;rw[bq,a0] at m;simp[Y,al];exact⟨F,m⟩
   ·have bs:q=g.opsZ.l.length:=by simp at X;omega
    rw[bs] at m;have C:=m.ls;simp[X,C];have bA:=m.w;refine Tm g I (seen:=i8 g g.opsZ.l.length 0) (Cn _ _ _) bA m.yN (fun bN a8 a2=>?_);simp;have br:mR g.idsZ.l (i8 g g.opsZ.l.length 0) (i8 g g.opsZ.l.length 0).length=eX g:=by
     rw[Cn,I7 g _ (aI _),fC];rfl
    rw[br] at a2;refine Wh ?_ (aT (by rw[D]) rfl);exact a2.rd c4 (rl g) (by unfold rl;rw[aj D,oR]) (by unfold rl;rw[aj D,dr])
 ·have bi:rl g=none:=by unfold rl;rw[ak D]
  rw[bi];simp[D];exact aE
def ih (l l' : ae) :Prop:=l.length<=l'.length/\∀ b,b<l.length->l'[b]?=l[b]?
theorem ih.refl (l:ae) :ih l l:=⟨aI _,fun _ _=>rfl⟩
theorem ih.trans {l m n:ae} (h:ih l m) (g:ih m n) :ih l n:=⟨dL h.1 g.1,fun b j=>by rw[g.2 b (mq j h.1),h.2 b j]⟩
def tp (f:cf) (o:ag) (l:ae) (xs:aO) (c:List B->Bool) :Prop:=
 ∀ m∈xs,∀ g,ih l g->∀ h:cA,(∀ j,ih g j->h (.bool (c m)) j)->cJ f (.ah (ar m) ::o) g h
theorem R5 (s:bV) (aj:cT s) (al:s.l.length<=1000000) {f:cf} {t:ag} {c:List B->Bool} (W:fR prog f=true) {l:ae} (h:tp f t l s.l c) {K:cA}
  (G:∀ (n:Int) l',ih l l'->(0<=n<->s.l.any c=true)->K (.i6 n) l') :cJ 139 [ai s,.fn f [] t] l K:=by
 apply cW func139 [];have Z:bx (.ad 32) (ai s)=_:=cd _;simp[Z];refine bz s.l.length (fun k j v=>j 0=ai s/\j 1=.fn f [] t/\j 7=.i6 s.l.length/\j 8=.i6 k/\ih l v/\∀ g y,g<k->s.l[g]?=some y->c y=false) ?_ ⟨V,V,V,V,ih.refl _,fun g _ q=>F⟩;rintro k j v hk ⟨w,z,C,D,p,P⟩;obtain⟨j,rfl⟩:=fc w z C D;clear w z C D;simp;refine gp (fun m=>?_) (fun m=>?_)
 ·simp only[bC] at m;obtain⟨x,Q,u⟩:=aP (l:=s.l) (k:=k) F;have R:=bu (aj x u);have T:=cq (k:=k) F;have O:bO (.ad 32) (ai s) _=_:=dg Q;have I:=h x u v p;obtain⟨ak,U⟩:=ao (ar x);rw[<-U] at O R I;simp[O,R,aL];refine⟨W,I _ fun am J=>?_⟩;cases H:c x with
  | true=>
   simp;exact G _ _ (p.trans J) ⟨fun _=>ta.2 ⟨x,u,H⟩,fun _=>F⟩
  | false=>
   simp[T];refine⟨m,p.trans J,fun g y q o=>?_⟩;by_cases X:g=k
   ·rw[X,Q] at o;obtain rfl:=cg o;exact H
   ·exact P g y F o
 ·simp[m];have Y:k=s.l.length:=by simp at m;omega
  refine G _ _ p ⟨fun h=>F,fun h=>?_⟩;obtain⟨y,o,S⟩:=ta.1 h;obtain⟨g,q⟩:=cj.1 o;rw[P g y (by rw[Y];exact (aK.1 q).1) q] at S;cases S
theorem ym (s:bV) (q:cT s) (t:s.l.length<=1000000) {f:cf} {g:ag} {c:List B->Bool} (o:fR prog f=true) {l:ae} (h:tp f g l s.l c) {K:cA}
  (j:∀ l',ih l l'->K (.bool (s.l.any c)) l') :cJ 88 [ai s,.fn f [] g] l K:=by
 apply cW func88 [];simp;refine R5 s q t o h fun n l' m p=>?_
 simp;have:decide (0<=n)=s.l.any c:=by
  rw[xL,bC];exact p
 rw[this];exact j _ m
end Op
theorem Po {P:bj} {G:Nat->U} {f:cf} {args args2:ag} {h m h' : aH} {r:U} (z:jM P G f args2 m r h') (wk:iF h m) (Q:args2.length=args.length)
  (D:∀ (j:Nat) (c g:U),args[j]?=some c->args2[j]?=some g->iE h m c g) :jM P G f args h r h':=by
 intro t B w muZ K rel v R I;refine (z t B w muZ K (wk.rel rel) (v.ext (wk.ext w muZ)) F (fun j g o q C=>?_)).mono ?_
 ·have O:=(aK.1 q).1;obtain⟨c,p⟩:∃ c,args[j]?=some c:=⟨_,bI F⟩
  exact wk.kT rel (D j c g p q) (I j c o p C)
 ·rintro e w' ⟨o,muZ',rfl,u,J,H⟩;exact⟨o,muZ',rfl,(wk.ext w muZ).trans u,J,H⟩
theorem pb {P:bj} {G:Nat->U} (w:P.follows .mixedOrders=true) (p:∀ g,(G g).aw=true) {f:cf} {args args2:ag} {l m:ae} {K:cA} (wk:iF (aX l) (aX m)) (u:l.length<=m.length) (t:args2.length=args.length)
  (z:∀ (j:Nat) (c o:U),args[j]?=some c->args2[j]?=some o->iE (aX l) (aX m) c o) (h:fY P G f args2 m (c:=⟨K⟩)) :fY P G f args l (c:=⟨K⟩):=by obtain⟨r,B,q,v,hk⟩:=h;exact⟨r,B,.ext (Po (sM w p q) wk t z),dL u v,hk⟩
namespace Op
theorem wX {alZ:Type} {z:Nat} {enc:alZ->ag} {l:ae} {v:U} {j:Nat} {xs:List alZ} (s:bL alZ) (h:aM z l v j (xs.map enc)) (o:bt v=s.isNone) (t:s.l=xs) :
  ∃ m,iF (aX l) (aX m)/\iE (aX l) (aX m) v (b4 z enc s)/\m.length=l.length/\∀ b,(v=.af\/b≠j)->m[b]?=l[b]?:=by
 cases s with
 | none=>
  have g:v=.af:=gC.1 (by rw[o];rfl);subst g;exact⟨l,⟨rfl,fun b=>.inl rfl⟩,.same _,rfl,fun b _=>rfl⟩
 | some a=>
  have g:bt v=false:=by rw[o];rfl
  have u:a=xs:=t;obtain⟨h1,p⟩:=pO h g;refine⟨l.set j .dead,h1,by rw[u];exact p,V,fun b q=>?_⟩;rcases q with e | e
  ·rw[e] at g;cases g
  ·exact br (Ne.symm e)
end Op
namespace Op
open ca
theorem Bn {alZ:Type} {enc:alZ->ag} {z by_:Nat} (l:ae) (b:Nat) (m:l[b]?=some (.q 0 [])) (s:bL alZ) (h:∀ x∈s.l,(enc x).length=z) (j:z≠0) (t:by_≠0) (p:s.l.length*by_<=dk) :
  eE l z by_ (.ad z b 0 0 0 0) (b4 z enc s)=some (.ad z b 0 s.l.length s.l.length (s.l.length*z),l.set b (.q (s.l.length*z) (s.l.map enc).flatten)):=by
 have v:=r3 h;unfold eE;rw[oj];simp only[];unfold ht;by_cases g:s.l.length=0
 ·have j:s.l=[]:=ic.1 g;rw[j];obtain⟨u,o⟩:=aK.1 m;have:l.set b (.q 0 [])=l:=by rw[<-o,AY]
  simp[this]
 ·rw[ak g,ak F];have w:¬ s.l=[]:=fun h=>g (by rw[h];rfl)
  simp[p,g,m]
theorem CP (a:List B) :eQ a a=false:=by
 cases h:eQ a a with
 | false=>rfl
 | true=>rw[h5,k8] at h;omega
theorem um (a b c:List B) (h1:eQ a b=true) (g:eQ b c=true) :eQ a c=true:=(h5 _ _).2 (oi a b c ((h5 _ _).1 h1) ((h5 _ _).1 g))
theorem IQ (a b:List B) (g:a≠b) (h:eQ a b=false) :eQ b a=true:=by
 rw[h5,oh];rcases vO a b with h1 | h1 | h1
 ·rw[(h5 a b).2 F] at h;cases h
 ·exact bP (og h1) g
 ·omega
theorem oN {l:aO} (h:bX l=true) :l.Pairwise fun a b=>eQ a b=true:=
 kV.2 fun i o g m j=>(h5 _ _).2 (j6 h j (bI g) (bI m))
theorem uD {l:aO} (h:l.Pairwise fun a b=>eQ a b=true) :bX l=true:=uM fun k hk h1=>by
 have g:=bI hk;have j:=bI (l:=l) (i:=k - 1) F;rw[dG g,dG j];exact (h5 _ _).1 ((kV.1 h) (k - 1) k F hk F)
section
variable {alZ:Type} {z:Nat} {enc:alZ->ag}
def g3 (s:bL alZ) (k:Nat) :bL alZ:=match s with | none=>none | some a=>some (a.take k)
def lA (s:bL alZ) (k:Nat) :bL alZ:=match s with | none=>none | some a=>some (a.drop k)
theorem md (s:bL alZ) (k:Nat) :(g3 s k).l=s.l.take k:=by cases s<;>simp[g3]
theorem rf (s:bL alZ) (k:Nat) :(lA s k).l=s.l.drop k:=by cases s<;>simp[lA]
theorem EE {s:bL alZ} {k:Nat} (h:k<=s.l.length) :dK (.ad z) (b4 z enc s) none (some (.i6 (k:Int))) none=some (b4 z enc (g3 s k)):=by
 cases s with
 | none=>
  have:k=0:=by simpa using h
  subst this;rfl
 | some a=>exact Eo (z:=z) (enc:=enc) (l:=a) (k:=.i64) (i:=(k:Int)) F (by have:k<=a.length:=h;omega)
theorem Mf {s:bL alZ} {k:Nat} (h:k<=s.l.length) :dK (.ad z) (b4 z enc s) (some (.i6 (k:Int))) none none=some (b4 z enc (lA s k)):=by
 cases s with
 | none=>
  have:k=0:=by simpa using h
  subst this;rfl
 | some a=>exact LG (z:=z) (enc:=enc) (l:=a) (k:=.i64) (i:=(k:Int)) F (by have:k<=a.length:=h;omega)
theorem Vu {by_:Nat} {l:ae} {b c k:Nat} {s:bL alZ} {x:alZ} (w:l[b]?=some (.q 0 [])) (I:l[c]?=some (.q z (enc x))) (H:b≠c) (hk:k<=s.l.length) (O:∀ y∈s.l,(enc y).length=z) (G:(enc x).length=z) (o:z≠0) (p:by_≠0) (u:(s.l.length+1)*by_<=dk) :
  eE l z by_ (.ad z b 0 0 0 0) (b4 z enc (g3 s k))=some (.ad z b 0 k k (k*z),l.set b (.q (k*z) ((s.l.take k).map enc).flatten)) ∧
  eE (l.set b (.q (k*z) ((s.l.take k).map enc).flatten)) z by_ (.ad z b 0 k k (k*z)) (.ad z c 0 1 1 z)=some (.ad z b 0 (k+1) (k+1) ((k+1)*z),l.set b (.q ((k+1)*z) ((s.l.take k++[x]).map enc).flatten)) ∧
  eE (l.set b (.q ((k+1)*z) ((s.l.take k++[x]).map enc).flatten)) z by_ (.ad z b 0 (k+1) (k+1) ((k+1)*z)) (b4 z enc (lA s k)) =
   some (.ad z b 0 (c2 s.l k x).length (c2 s.l k x).length ((c2 s.l k x).length*z),l.set b (.q ((c2 s.l k x).length*z) ((c2 s.l k x).map enc).flatten)):=by
 have B:=a2 w;have j:(s.l.take k).length=k:=by rw[cO];omega
 have v:∀ y∈s.l.take k,(enc y).length=z:=fun y g=>O y (gh g)
 have J:k*by_<=dk:=dL (cn _ F) u;have K:(k+1)*by_<=dk:=dL (cn _ F) u;refine⟨?_,?_,?_⟩
 ·have:=Bn (enc:=enc) (by_:=by_) l b w (g3 s k) (by rw[md];exact v) o p (by rw[md,j];exact J);rw[md,j] at this;exact this
 ·have:=F2 (l:=l.set b (.q (k*z) ((s.l.take k).map enc).flatten)) (z:=z) (by_:=by_) (b:=b) (n:=k) (m:=1) (sz:=k*z) (es:=(s.l.take k).map enc) (xs:=[enc x]) (x:=.ad z c 0 1 1 z)
   (b1 B) (by simp[cG,br H,I,G,aL]) (by rw[cx,j]) rfl rfl (fun e t=>by obtain⟨y,g,rfl⟩:=cy.1 t;exact v y g) o p K
  rw[this,AZ];simp
 ·have C:(lA s k).l.length=s.l.length - k:=by rw[rf,iT]
  have D:k+1+(s.l.length - k)=(c2 s.l k x).length:=by rw[js];omega
  have:=F2 (l:=l.set b (.q ((k+1)*z) ((s.l.take k++[x]).map enc).flatten)) (z:=z) (by_:=by_) (b:=b) (n:=k+1) (m:=s.l.length - k) (sz:=(k+1)*z) (es:=(s.l.take k++[x]).map enc) (xs:=(lA s k).l.map enc) (x:=b4 z enc (lA s k))
   (b1 B) (by rw[oj,C]) (by rw[cx,cr,j];rfl) (by rw[cx,C]) rfl (fun e t=>by
    obtain⟨y,g,rfl⟩:=cy.1 t;rcases fm.1 g with h | h
    ·exact v y h
    ·rw[fB.1 h];exact G) o p (by rw[D,js];exact u)
  rw[this,AZ,D,rf,<-c5];unfold c2;simp
end
theorem yk (l:aO) (x:List B) :ec l x<=l.length:=by unfold ec;exact (List.takeWhile_sublist _).length_le
theorem BJ {x:List B}:∀ {l:aO} {k:Nat} {y:List B},k<ec l x->l[k]?=some y->bJ y x<0
 | [],k,y,_,h=>by simp at h
 | a::l,k,y,hk,h=>by
  unfold ec at hk;rw[A0] at hk;by_cases g:bJ a x<0
  ·cases k with
   | zero=>simp at h;subst h;exact g
   | succ k=>
    rw[bY g] at hk;simp at hk h;exact BJ (l:=l) (by unfold ec;exact hk) h
  ·rw[cC g] at hk;simp at hk
theorem BI {x:List B}:∀ {l:aO} {y:List B},l[ec l x]?=some y->¬ bJ y x<0
 | [],y,h=>by simp at h
 | a::l,y,h=>by
  unfold ec at h;rw[A0] at h;by_cases g:bJ a x<0
  ·rw[bY g] at h;simp at h;exact BI (l:=l) (by unfold ec;exact h)
  ·rw[cC g] at h;simp at h;subst h;exact g
theorem WD {l:aO} {x:List B} (h:bX l=true) (C:x∉l) :bX (c2 l (ec l x) x)=true:=by
 have t:=oN h;have G:=yk l x;refine uD ?_;unfold c2;have q:∀ y∈l.take (ec l x),eQ y x=true:=fun y g=>by
  obtain⟨k,hk⟩:=cj.1 g;have z:=(aK.1 hk).1;rw[cO] at z;rw[dU F] at hk;exact (h5 _ _).2 (BJ F hk)
 have p:∀ y∈l.drop (ec l x),eQ x y=true:=fun y g=>by
  have H:=tf g;obtain⟨k,hk⟩:=cj.1 g;rw[gB] at hk;obtain⟨m,j,D⟩:=aP (l:=l) (k:=ec l x) (by have:=(aK.1 hk).1;omega);have h1:eQ x m=true:=IQ m x (fun e=>C (by rw[<-e];exact D)) (by
   cases u:eQ m x with
   | false=>rfl
   | true=>exact bP ((h5 _ _).1 u) (BI j))
  by_cases w:k=0
  ·subst w;rw[nW,j] at hk;obtain rfl:=cg hk;exact h1
  ·exact um _ _ _ h1 ((h5 _ _).2 (j6 h (show ec l x<ec l x+k by omega) j hk))
 rw[rz];refine⟨t.sublist (Fr _ _),AW.2 ⟨p,t.sublist (List.drop_sublist _ _)⟩,fun a o b v=>?_⟩;rcases hZ.1 v with e | e
 ·rw[e];exact q a o
 ·exact um _ _ _ (q a o) (p b e)
def jr (l:aO) (x:List B) :aO:=if l[ec l x]?=some x then l else c2 l (ec l x) x
def kQ (l:aO) :Nat->aO
 | 0=>[]
 | k+1=>jr (kQ l k) (bo l k)
def uS (l:aO) :aO:=kQ l l.length
theorem R9 {l:aO} {x y:List B}:y∈jr l x<->y=x\/y∈l:=by
 unfold jr;split
 ·rename_i h;exact⟨.inr,fun g=>g.elim (fun e=>by rw[e];exact cE h) id⟩
 ·exact mI
theorem R8 (l:aO) (x:List B) :(jr l x).length<=l.length+1:=by
 unfold jr;split
 ·omega
 ·rw[js];omega
theorem PP {l:aO} (h:bX l=true) {x:List B} (g:x∈l) :l[ec l x]?=some x:=by obtain⟨k,hk⟩:=cj.1 g;rw[BH h hk];exact hk
theorem Ii {l:aO} (h:bX l=true) (x:List B) :bX (jr l x)=true:=by
 unfold jr;split
 ·exact h
 ·rename_i g;exact WD h fun j=>g (PP h j)
theorem Et {l:aO} {y:List B}:∀ {k:Nat},k<=l.length->(y∈kQ l k<->y∈l.take k)
 | 0,_=>by simp[kQ]
 | k+1,hk=>by
  obtain⟨x,g,_⟩:=aP (l:=l) (k:=k) F;show y∈jr _ _<->_;rw[R9,Et F,eU,g,dG g,fm];simp;exact or_comm
theorem Es {l:aO}:∀ {k:Nat},(kQ l k).length<=k
 | 0=>by simp[kQ]
 | k+1=>dL (R8 _ _) (by have:=Es (l:=l) (k:=k);omega)
theorem LR {l:aO}:∀ {k:Nat},bX (kQ l k)=true
 | 0=>by unfold kQ bX;exact bY fun k hk=>by simp at hk
 | k+1=>Ii LR _
theorem LQ {l:aO} {y:List B}:y∈uS l<->y∈l:=by unfold uS;rw[Et (aI _),fC]
theorem XT (l:aO) :bX (uS l)=true:=LR
theorem Me {alZ:Type} {l:List alZ} (h:l≠[]) :cL l=some l:=by cases l with | nil=>exact bP rfl h | cons=>rfl
theorem V4 (s:bV) (aV:cT s) (bj:s.l.length<=1000000) :aY 127 [ai s] (ai (cL (uS s.l))):=by
 apply bc func127 [[],[],db 0 4++db 5 5++[[11],[12],[13],[4,9,8],[10]]];have a8:=dF;have aU:bx (.ad 32) (ai s)=_:=cd _;simp;refine bz s.l.length (fun k m l=>m 0=ai s/\m 3=ai (cL (kQ s.l k))/\m 4=.i6 k) ?_ ⟨V,by simp[kQ];rfl,V⟩;rintro k m l hk ⟨Q,R,S⟩;obtain⟨m,rfl⟩:=gK Q R S;clear Q R S;have aC:=cq (k:=k) F;by_cases J:k<s.l.length
 ·obtain⟨x,aX,bd⟩:=aP J;have az:=aV x bd;have o:=bu az;have aK:=c4 x;have H:bO (.ad 32) (ai s) _=_:=dg aX;have u:∀ y∈kQ s.l k,y.length=32:=fun y j=>aV y (gh ((Et (km J)).1 j))
  have a6:=Es (l:=s.l) (k:=k);have ay:kQ s.l (k+1)=jr (kQ s.l k) x:=by show jr _ (bo s.l k)=_;rw[dG aX]
  obtain⟨O,aD⟩:=ao (cL (kQ s.l k));have aR:O.l=kQ s.l k:=by rw[aD,dr]
  have a5:cL O.l=O:=by rw[aR,aD]
  rw[<-aR] at u a6 ay;have W:bx (.ad 32) (ai O)=_:=cd _;obtain⟨c,G⟩:=ao (ec O.l x);have bh:c<=O.l.length:=by rw[G];exact yk _ _
  have a0:∀ (g:Nat) (y:List B),O.l[g]?=some y->bO (.ad 32) (ai O) (.i6 (g:Int))=some (.b0 (ar y) 0):=fun g y j=>by simp[ai,j]
  obtain⟨X,D⟩:=ao (ar x);rw[<-D] at o aK H;have v:X.take 32=X:=aL F;rw[<-aD];simp[aU,J];refine bz c (fun g m t=>t=l/\m 0=ai s/\m 3=ai O/\m 4=.i6 k/\m 5=.i6 g) ?_ ⟨rfl,V,V,V,V⟩;rintro g m t bi ⟨rfl,Q,R,S,aM⟩;obtain⟨m,rfl⟩:=fc Q R S aM;clear Q R S aM;have a2:=cq (k:=g) F;by_cases aS:g<c
  ·obtain⟨y,j,P⟩:=aP (l:=O.l) (k:=g) F;have K:bJ y x<0:=BJ (by rw[<-G];exact aS) j;have ap:g<O.l.length:=F;have C:=bu (u y P);have Y:=c4 y;have p:=DN y x (u y P) az;change aY _ [.ah (ar y),.ah (ar x)] _ at p;have w:=a0 g y j;rw[<-D] at p;obtain⟨aB,aE⟩:=ao (ar y);rw[<-aE] at w C Y p;simp[W,ap,w,C,H,o,v,aL];refine av p (by simp[aq,U.aw,aK,Y]) ?_;simp[K,a2];exact aS
  ·have al:g=c:=F;have t1:dK (.ad 32) (ai O) none (some (.i6 (g:Int))) none=some (ai (g3 O g)):=EE F;have t2:dK (.ad 32) (ai O) (some (.i6 (g:Int))) none none=some (ai (lA O g)):=Mf F;obtain⟨I,T⟩:=ao (c2 O.l g x);obtain⟨bf,a3⟩:=ao (((O.l.take g).map ar).flatten);obtain⟨bg,a4⟩:=ao (((O.l.take g++[x]).map ar).flatten);have aZ:∀ y∈O.l,(ar y).length=32:=fun y j=>bu (u y j)
   obtain⟨ae,aA,ag⟩:=Vu (enc:=ar) (z:=32) (by_:=32) (l:=t++[.q 0 [],.q 32 X]) (b:=t.length) (c:=t.length+1) (k:=g) (s:=O) (x:=x) V (by rw[D];simp) F F aZ (by rw[<-D];exact o) F F (by rw[a8];omega);change eE _ _ _ _ (ai _)=_ at ae ag;have bb:∀ c:am,(t++[am.q 0 [],.q 32 X]).set t.length c=t++[c,.q 32 X]:=fun c=>V
   simp only[<-T,<-a3,<-a4,bb] at ae aA ag;have aQ:∀ y∈I,(ar y).length=32:=fun y j=>by
    rw[T,mI] at j;rcases j with h | h
    ·rw[h,<-D];exact o
    ·exact aZ y h
   have aO:I≠[]:=fun h=>by have:=ch List.length h;rw[T,js] at this;simp at this
   have aN:U.bn 32 (I.map ar)=ai (some I):=rfl;have aW:ax (bT 32 (.int .u8 0)) 0 X=X:=cI (by rw[o];rfl);by_cases ap:g<O.l.length
   ·obtain⟨y,j,P⟩:=aP ap;have K:¬ bJ y x<0:=BI (by rw[<-G,<-al];exact j);have C:=bu (u y P);have Y:=c4 y;have p:=DN y x (u y P) az;change aY _ [.ah (ar y),.ah (ar x)] _ at p;have w:=a0 g y j;have au:=pw (u y P) az;have aG:¬ (g:Int)=O.l.length:=F;have aH:¬ g=O.l.length:=F;rw[<-D] at p au;obtain⟨aB,aE⟩:=ao (ar y);rw[<-aE] at w C Y p au;simp[W,ap,w,C,H,o,v,aL];refine av p (by simp[aq,U.aw,aK,Y]) ?_;by_cases Z:y=x
    ·have a9:jr O.l x=O.l:=by unfold jr;rw[<-G,<-al,j,Z,aj rfl]
     have bk:¬ bJ x x<0:=by rw[Z] at K;exact K
     have aJ:eb prog .neq 57 (.ah aB) (.ah X)=some (.bool false):=by rw[au,bY Z];rfl
     simp[K,W,aG,w,C,H,o,v,aL,aJ,aC];exact⟨J,by rw[ay,a9,a5]⟩
    ·have aF:jr O.l x=I:=by unfold jr;rw[<-G,<-al,j,ak (fun h=>Z (cg h)),T]
     have aJ:eb prog .neq 57 (.ah aB) (.ah X)=some (.bool true):=by rw[au,cC Z];rfl
     simp[K,W,aG,w,C,H,o,v,aL,aJ,t1,t2,aW,ae];refine b2.bq ?_;simp[aA,o,v];refine b2.bq ?_;simp[ag];refine b2.yJ (by exact qW aQ rfl V) rfl ?_;simp[aN,aC];exact⟨J,by rw[ay,aF,Me aO]⟩
   ·have aG:(g:Int)=O.l.length:=F;have aH:g=O.l.length:=F;have aF:jr O.l x=I:=by unfold jr;rw[<-G,<-al,ak,T];rw[ea F];simp
    rw[aH] at t1 t2 ae aA ag;simp[W,aH,H,o,v,t1,t2,aW,ae];refine b2.bq ?_;simp[aA,o,v];refine b2.bq ?_;simp[ag];refine b2.yJ (by exact qW aQ rfl V) rfl ?_;simp[aN,aC];exact⟨J,by rw[ay,aF,Me aO]⟩
 ·have a7:k=s.l.length:=F;subst a7;simp[aU];exact aT rfl (bU _)
end Op
end Go.bh

/-
  Graphs: their shape, in the reference.
-/
import Derived.Test.YtdjbnhgdhambnaaGreatDoorVh
set_option maxHeartbeats 16000000
set_option maxRecDepth 100000
set_option linter.unusedVariables false
set_option linter.unusedSimpArgs false
set_option linter.unnecessarySimpa false
namespace Go.bh
open Go Go.Proofs Go.Proofs.Tryz
namespace Op
open cl
def p2 (idsZ:aR) (opsZ:List aK) :Bool:=decide (∀ g∈opsZ,gT idsZ g.ax.l=true)
def jN (idsZ:aR) (opsZ:List aK) :Int:=if b8 idsZ=true then (if p2 idsZ opsZ=true then (if (mc idsZ opsZ).length=opsZ.length then 0 else 36) else 40) else 32
theorem V5 (g:aW) (m:eE g) (J:g.idsZ.l.length=g.opsZ.l.length) :aU 74 [cr g] (.i6 (jN g.idsZ.l g.opsZ.l)):=by
 apply a2 func74 [[],[[0],[3],[4],[5],[1,4],[2]]];have H:=bO g.idsZ;have aq:=ip g.opsZ;have G:=jz g;have O:bD (.Z 11) (bA g.opsZ)=_:=b9 _;have av:=m.jh;have ao:=D0 g.idsZ m.idsZ m.li;simp[cr,bb];refine au ao (by simp[am,H]) ?_;by_cases o:b8 g.idsZ.l=true
 ·have I:=mL o;have S:=VT g m J I;unfold cr bb at S G;simp[o];refine bB g.opsZ.l.length (fun k w l=>l=[.q 2 [ah g.idsZ,bA g.opsZ]]/\w 1=.ptr 0 0 2/\w 3=.i6 k/\∀ (p:Nat) (j:aK),p<k->g.opsZ.l[p]?=some j->gT g.idsZ.l j.ax.l=true) ?_ V;rintro k w l hk ⟨rfl,C,D,T⟩;obtain⟨w,rfl⟩:=kk C D;clear C D;by_cases v:k<g.opsZ.l.length
  ·obtain⟨j,Q,u⟩:=aQ v;have W:=ci (k:=k) F;have ae:bQ (.Z 11) (bA g.opsZ) _=_:=c8 Q;have X:=z1 g.idsZ m.idsZ m.li j.ax (m.opsZ j u).idsZ (m.opsZ j u).len;have Y:=bO j.ax;simp[O,v,ae,aw];refine au X (by simp[am,H,Y]) ?_;by_cases t:gT g.idsZ.l j.ax.l=true
   ·simp[t,v,W];intro p ap z B;by_cases ag:p=k
    ·subst ag;rw[Q] at B;obtain rfl:=cc B;exact t
    ·exact T p ap F B
   ·rw[xS] at t;simp[t];refine aP (ch (U.int .i64) ?_) rfl;have al:¬ p2 g.idsZ.l g.opsZ.l=true:=fun h=>by
     have:=iM h j u;rw[t] at this;cases this
    unfold jN;rw[ak o,ai al]
  ·have aj:k=g.opsZ.l.length:=F;have R:p2 g.idsZ.l g.opsZ.l=true:=b7 fun j u=>by
    obtain⟨p,z⟩:=cp.1 u;exact T p j (by rw[aj];exact (aL.1 z).1) z
   have ar:(mc g.idsZ.l g.opsZ.l).length<=g.opsZ.l.length:=(w3 g.idsZ.l g.opsZ.l J I _).2.1;have K:bD (.Z 1) (Ci (cK (mc g.idsZ.l g.opsZ.l)))=some (.i6 (mc g.idsZ.l g.opsZ.l).length):=by unfold Ci;rw[b9,dh]
   simp[O,v];refine au S (by simp[am,G]) ?_;by_cases P:(mc g.idsZ.l g.opsZ.l).length<g.opsZ.l.length
   ·simp[K,P];refine aP (ch (U.int .i64) ?_) rfl;unfold jN;rw[ak o,ak R,ai F]
   ·simp[K,P];refine aP (ch (U.int .i64) ?_) rfl;unfold jN;rw[ak o,ak R,ak F]
 ·rw[xS] at o;simp[o];refine aP (ch (U.int .i64) ?_) rfl;unfold jN;rw[o];rfl
def j7 (g:aW) (k:Nat) :Bool:=match g.opsZ.l[k]?,g.idsZ.l[k]? with
 | some h,some x=>decide (eh h=0)&&decide (bf h=x)
 | _,_=>true
def sf (g:aW) :Bool:=decide (∀ k,k<g.opsZ.l.length->j7 g k=true)
theorem sg (g:aW) :sf g=true<->∀ k,k<g.opsZ.l.length->j7 g k=true:=by unfold sf;rw[bK]
def eT (g:aW) :Int:=if 60<g.opsZ.l.length then 4 else if g.idsZ.l.length=g.opsZ.l.length then (if sf g=true then jN g.idsZ.l g.opsZ.l else 8) else 8
theorem wi {g:aW} {k:Nat} {o:aK} {x:List B} (h:g.opsZ.l[k]?=some o) (j:g.idsZ.l[k]?=some x) :j7 g k=(decide (eh o=0)&&decide (bf o=x)):=by unfold j7;rw[h,j]
theorem sV {o:aK} (h:eh o=0) :dd o=0:=by
 unfold eh at h;by_cases g:dd o=0
 ·exact g
 ·rw[ai g] at h;exact h
theorem mK (o:aK) :(bf o).length=32:=by
 unfold bf;split
 ·exact o7 _
 ·simp
theorem VG (g:aW) (o:eE g) :aU 29 [cr g] (.i6 (eT g)):=by
 apply a2 func29 [cT 0 13++cT 14 5++[[13,18,15]]];have aJ:=bO g.idsZ;have aK:=ip g.opsZ;have W:=jz g;have t:bD (.Z 11) (bA g.opsZ)=_:=b9 _;have Y:bD (.Z 32) (ah g.idsZ)=_:=b9 _;have aM:=o.jh;by_cases J:60<(g.opsZ.l.length:Int)
 ·simp[cr,bb,t,J];refine aP (ch (U.int .i64) ?_) rfl;unfold eT;rw[ak F]
 by_cases C:g.idsZ.l.length=g.opsZ.l.length
 ·have ap:=V5 g o C;unfold cr bb at ap W;have P:(g.idsZ.l.length:Int)=(g.opsZ.l.length:Int):=F;simp[cr,bb,t,Y,J,P];refine bB g.opsZ.l.length (fun k I l=>l=[.q 2 [ah g.idsZ,bA g.opsZ]]/\I 1=.ptr 0 0 2/\I 3=.i6 k/\∀ m,m<k->j7 g m=true) ?_ V;rintro k I l hk ⟨rfl,Q,R,aj⟩;obtain⟨I,rfl⟩:=kk Q R;clear Q R;by_cases p:k<g.opsZ.l.length
  ·obtain⟨j,ae,ag⟩:=aQ p;obtain⟨x,aq,av⟩:=aQ (l:=g.idsZ.l) (k:=k) F;have O:=wi ae aq;have ax:=ci (k:=k) F;have z:bQ (.Z 11) (bA g.opsZ) _=_:=c8 ae;have X:bQ (.Z 32) (ah g.idsZ) _=_:=c8 aq;have G:=z8 j (o.opsZ j ag);have w:=dt j;have H:=bo (o.idsZ x av);have D:(aw j).length=11:=rfl;have T:¬ j7 g k=true->eT g=8:=fun h=>by
    unfold eT;rw[ai F,ak C,ai fun aB=>h ((sg g).1 aB k p)]
   by_cases v:eh j=0
   ·have S:=sV v;have u:=DX j (o.opsZ j ag) (by have:=p1 S;omega);have aC:bf j=go (fZ j):=by unfold bf;rw[ak S]
    rw[<-aC] at u;have heq:=oN (mK j) (o.idsZ x av);change aU 73 [.af (aw j)] (.af (ao (bf j))) at u;obtain⟨aF,ay⟩:=al (ao (bf j));rw[<-ay] at u heq;rw[v] at G;obtain⟨aG,az⟩:=al (aw j);obtain⟨aH,aA⟩:=al (ao x);rw[<-az] at z G u w D;rw[<-aA] at X H heq;simp[t,p,z,D,aI];refine au G (by simp[am,U.ar,w]) ?_;simp[D,X,H,z,aI];refine au u (by simp[am,U.ar,w]) ?_;by_cases B:bf j=x
    ·simp[heq,B,p,ax,H,aI];intro m aD;by_cases aE:m=k
     ·subst aE;rw[O];simp[v,B]
     ·exact aj m F
    ·have K:¬ j7 g k=true:=fun h=>by rw[O] at h;simp[B] at h
     simp[heq,B,H,aI];exact aP (ch (U.int .i64) (T K).symm) rfl
   ·have K:¬ j7 g k=true:=fun h=>by rw[O] at h;simp[v] at h
    simp[t,p,z,D,aI];refine au G (by simp[am,U.ar,w]) ?_;simp[v];exact aP (ch (U.int .i64) (T K).symm) rfl
  ·have aL:k=g.opsZ.l.length:=F;simp[t,p];refine au ap (by simp[am,W]) ?_;simp;refine aP (ch (U.int .i64) ?_) rfl;unfold eT;rw[ai F,ak C,ak ((sg g).2 fun m aD=>aj m F)]
 ·have P:¬ (g.idsZ.l.length:Int)=(g.opsZ.l.length:Int):=F;simp[cr,bb,t,Y,J,P];refine aP (ch (U.int .i64) ?_) rfl;unfold eT;rw[ai F,ai C]
def l2 (idsZ:aR) (D:List Nat) (p:List B) :Nat:=(D.map fun a=>if p == bx idsZ a then 1 else 0).sum
def ki (idsZ:aR) (D:List Nat) (L:aR) :Nat:=(D.map fun a=>L.count (bx idsZ a)).sum
theorem X4 (idsZ:aR) (D:List Nat) :ki idsZ D []=0:=by
 unfold ki
 induction D with
 | nil=>rfl
 | cons a D g=>rw[dg,tf,g];rfl
theorem LZ (idsZ:aR) (p:List B) (L:aR) :∀ D,ki idsZ D (p::L)=ki idsZ D L+l2 idsZ D p
 | []=>rfl
 | a::D=>by
  have g:=LZ idsZ p L D;unfold ki l2 at g ⊢;rw[dg,tf,dg,tf,dg,tf,g,List.count_cons];omega
theorem EM (idsZ:aR) (D:List Nat) (a:Nat) (L:aR) :ki idsZ (D++[a]) L=ki idsZ D L+L.count (bx idsZ a):=by unfold ki;rw[cV,List.sum_append];simp
theorem Gm {idsZ:aR} (p:k9 idsZ) {i j:Nat} (o:i<idsZ.length) (q:j<idsZ.length) (h:bx idsZ i=bx idsZ j) :i=j:=by obtain⟨x,g,_⟩:=aQ o;obtain⟨y,m,_⟩:=aQ q;rw[dI g,dI m] at h;subst h;exact p i j x g m
theorem Ih {idsZ:aR} {p:List B}:∀ {D:List Nat},(∀ a∈D,bx idsZ a≠p)->l2 idsZ D p=0
 | [],_=>rfl
 | a::D,h=>by
  have g:=Ih (idsZ:=idsZ) (p:=p) (D:=D) fun b m=>h b (by simp[m])
  have j:(p == bx idsZ a)=false:=by rw[beq_eq_false_iff_ne];exact Ne.symm (h a V)
  unfold l2 at g ⊢;rw[dg,tf,g,j];rfl
theorem Ig {idsZ:aR} (u:k9 idsZ) {p:List B}:∀ {D:List Nat},D.Nodup->(∀ a∈D,a<idsZ.length)->l2 idsZ D p<=1/\(l2 idsZ D p=1<->∃ a∈D,bx idsZ a=p)
 | [],_,_=>⟨eS _,Iff.intro (fun h=>(by cases h)) (fun ⟨a,j,_⟩=>(by cases j))⟩
 | a::D,q,o=>by
  rw[vk] at q;obtain⟨C,F⟩:=Ig (p:=p) u q.2 (fun b w=>o b (by simp[w]));by_cases h:bx idsZ a=p
  ·have v:l2 idsZ D p=0:=Ih fun b t z=>q.1 (by rw[Gm u (o a V) (o b (by simp[t])) (h.trans z.symm)];exact t)
   have j:(p == bx idsZ a)=true:=by rw[h];simp
   have e:l2 idsZ (a::D) p=1:=by
    unfold l2 at v ⊢;rw[dg,tf,v,j];rfl
   rw[e];exact⟨aN _,fun _=>⟨a,V,h⟩,fun _=>rfl⟩
  ·have j:(p == bx idsZ a)=false:=by rw[beq_eq_false_iff_ne];exact Ne.symm h
   have e:l2 idsZ (a::D) p=l2 idsZ D p:=by
    unfold l2;rw[dg,tf,j];simp
   rw[e];refine⟨C,F.trans ⟨fun ⟨b,g,m⟩=>⟨b,by simp[g],m⟩,fun ⟨b,g,m⟩=>?_⟩⟩;rw[kp] at g;rcases g with rfl | g
   ·exact bV m h
   ·exact⟨b,g,m⟩
theorem EN {idsZ:aR} (u:k9 idsZ) {D:List Nat} (v:D.Nodup) (t:∀ a∈D,a<idsZ.length) :∀ L:aR,ki idsZ D L<=L.length/\(ki idsZ D L=L.length<->∀ p∈L,∃ a∈D,bx idsZ a=p)
 | []=>by rw[X4];exact⟨aN _,Iff.intro (fun _ p z=>by cases z) (fun _=>rfl)⟩
 | p::L=>by
  obtain⟨B,w⟩:=EN u v t L;obtain⟨h1,o⟩:=Ig (p:=p) u v t;rw[LZ,dM];refine⟨F,fun h=>?_,fun h=>?_⟩
  ·have j:ki idsZ D L=L.length:=F;have m:l2 idsZ D p=1:=F;intro q g;rw[kp] at g;rcases g with rfl | g
   ·exact o.1 m
   ·exact w.1 j q g
  ·have j:=w.2 fun q g=>h q (by simp[g])
   have m:=o.2 (h p V);omega
structure By (idsZ:aR) (opsZ:List aK) (g:List (List Nat)) :Prop where
 len:g.length=opsZ.length
 cnt:∀ (a:Nat) (row:List Nat),g[a]?=some row->∀ k,k<opsZ.length->row.count k=(dO opsZ k).count (bx idsZ a)
 lt:∀ (a:Nat) (row:List Nat),g[a]?=some row->∀ k∈row,k<opsZ.length
structure oo (idsZ:aR) (opsZ:List aK) (row:List Nat) (d j:Nat) (R:List Nat) (W:List Int) :Prop where
 lv:R.Nodup
 lZ:∀ k∈R,k<opsZ.length/\mw idsZ opsZ k
 dl:d<=R.length
 wl:W.length=opsZ.length
 w:∀ k,k<opsZ.length->W[k]?=some (((dO opsZ k).length:Int) - ki idsZ (R.take d) (dO opsZ k) - (row.take j).count k)
 r:∀ k,k<opsZ.length->(k∈R<->W[k]?=some 0)
theorem SD {idsZ:aR} {opsZ:List aK} (az:idsZ.length=opsZ.length) (P:k9 idsZ) {G:List (List Nat)} (J:By idsZ opsZ G) {a:Nat} {row:List Nat} {d j:Nat} {R:List Nat} {W:List Int}
  (h:oo idsZ opsZ row d j R W) (H:R[d]?=some a) (T:G[a]?=some row) {k:Nat} (hk:row[j]?=some k) :
  ∃ x:Int,W[k]?=some x/\1<=x/\x<=(dO opsZ k).length/\oo idsZ opsZ row d (j+1) (if x - 1=0 then R++[k] else R) (W.set k (x - 1)):=by
 have t:=J.lt a row T k (cJ hk);have K:=J.cnt a row T k t;have ay:=(aL.1 H).1;have U:R.take (d+1)=R.take d++[a]:=by rw[ei,H];rfl
 have am:(R.take (d+1)).Nodup:=List.Sublist.nodup (FF _ _) h.lv;have v:∀ b∈R.take (d+1),b<idsZ.length:=fun b ae=>by have:=(h.lZ b (gy ae)).1;omega
 obtain⟨av,aw⟩:=EN P am v (dO opsZ k);rw[U,EM,<-K] at av;have ag:(row.take (j+1)).count k=(row.take j).count k+1:=by
  rw[ei,hk,vg];simp
 have ax:(row.take (j+1)).count k<=row.count k:=List.Sublist.count_le _ (FF _ _);have C:=h.w k t;obtain⟨x,aq⟩:=al (((dO opsZ k).length:Int) - ki idsZ (R.take d) (dO opsZ k) - (row.take j).count k:Int);rw[<-aq] at C;have ar:1<=x:=F;have Q:k∉R:=fun z=>by
  have:=(h.r k t).1 z;rw[C] at this;have:=cc this;omega
 refine⟨x,C,ar,F,?_⟩;have S:k<W.length:=by rw[h.wl];exact t
 have ap:(if x - 1=0 then R++[k] else R).take d=R.take d:=by
  split
  ·rw[il F]
  ·rfl
 have ao:x - 1=0->mw idsZ opsZ k:=fun o=>by
  have heq:ki idsZ (R.take (d+1)) (dO opsZ k)=(dO opsZ k).length:=by rw[U,EM,<-K];omega
  have I:=aw.1 heq;have O:∀ m,m<idsZ.length->idsZ[m]?=some (bx idsZ m):=fun m q=>by
   obtain⟨y,g,_⟩:=aQ (l:=idsZ) q;rw[g,dI g]
  refine .mk k F (fun D B=>?_) fun D B au aj=>?_
  ·obtain⟨m,q,rfl⟩:=I D B;exact cJ (O m (v m q))
  ·obtain⟨m,q,rfl⟩:=I D B;rw[P au m _ aj (O m (v m q))];exact (h.lZ m (gy q)).2
 refine⟨?_,fun y g=>?_,?_,by simpa using h.wl,fun y g=>?_,fun y g=>?_⟩
 ·split
  ·rw[FD];refine⟨h.lv,V,fun u X aA Y e=>?_⟩;rw[fQ] at Y;subst e;rw[Y] at X;exact Q X
  ·exact h.lv
 ·split at g
  ·rename_i o;rw[fE,fQ] at g;rcases g with g | rfl
   ·exact h.lZ y g
   ·exact⟨t,ao o⟩
  ·exact h.lZ y g
 ·split
  ·simp;have:=h.dl;omega
  ·exact h.dl
 ·rw[ap,oe];by_cases p:k=y
  ·subst p;rw[ak rfl,ak S,ag];congr 1;omega
  ·rw[ai p,h.w y g,ei,hk,vg];have:([k] :List Nat).count y=0:=by rw[Bg];simp[p]
   simp only[Option.toList_some,this,nm]
 ·rw[oe];by_cases p:k=y
  ·subst p;rw[ak rfl,ak S];by_cases o:x - 1=0
   ·rw[ak o];simp[o]
   ·rw[ai o];exact⟨fun z=>bV z Q,fun ah=>bV (cc ah) o⟩
  ·rw[ai p,<-h.r y g];split
   ·rw[fE,fQ];exact⟨fun h=>h.resolve_right (Ne.symm p),.inl⟩
   ·exact Iff.rfl
theorem SA {idsZ:aR} {opsZ:List aK} {g:List (List Nat)} (m:By idsZ opsZ g) {a:Nat} {row q:List Nat} {d:Nat} {R:List Nat} {W:List Int}
  (h:oo idsZ opsZ row d row.length R W) (j:R[d]?=some a) (o:g[a]?=some row) :oo idsZ opsZ q (d+1) 0 R W:=by
 have p:R.take (d+1)=R.take d++[a]:=by rw[ei,j];rfl
 refine⟨h.lv,h.lZ,(aL.1 j).1,h.wl,fun k hk=>?_,h.r⟩;rw[h.w k hk,p,EM,e0,m.cnt a row o k hk,nk,List.count_nil];congr 1;omega
theorem SB {idsZ:aR} {opsZ:List aK} {row g:List Nat} {d:Nat} {R:List Nat} {W:List Int} (h:oo idsZ opsZ row d 0 R W) :oo idsZ opsZ g d 0 R W:=
 ⟨h.lv,h.lZ,h.dl,h.wl,fun k hk=>by rw[h.w k hk,nk,nk],h.r⟩
theorem SC {idsZ:aR} {opsZ:List aK} (o:idsZ.length=opsZ.length) :oo idsZ opsZ [] 0 0 ((List.range opsZ.length).filter fun k=>(dO opsZ k).isEmpty) ((List.range opsZ.length).map fun k=>((dO opsZ k).length:Int)):=by
 refine⟨List.Sublist.nodup kn Bl,fun k hk=>?_,eS _,V,fun k hk=>?_,fun k hk=>?_⟩
 ·rw[dx,g3] at hk;have j:dO opsZ k=[]:=xX.1 hk.2;exact⟨hk.1,.mk k F (fun m g=>by rw[j] at g;cases g) fun m g=>by rw[j] at g;cases g⟩
 ·rw[b0,hn hk];simp[ki]
 ·rw[dx,g3,b0,hn hk];simp only[cA,bc,hk,true_and,xX];constructor
  ·intro h;rw[h];rfl
  ·intro h;exact ho.1 F
theorem Sz {idsZ:aR} {opsZ:List aK} (F:idsZ.length=opsZ.length) (o:k9 idsZ) {row:List Nat} {R:List Nat} {W:List Int} (h:oo idsZ opsZ row R.length 0 R W) :
  R.length<=opsZ.length/\(R.length=opsZ.length<->(mc idsZ opsZ).length=opsZ.length):=by
 have G:R.length<=opsZ.length:=by
  have:=p8 (b:=List.range opsZ.length) h.lv fun x I=>g3.2 (h.lZ x I).1
  simpa using this
 refine⟨G,?_⟩;rw[DB F o];constructor
 ·intro C i g;exact (h.lZ i (Jl h.lv C (fun i g=>(h.lZ i g).1) i g)).2
 ·intro z;have D:∀ i,mw idsZ opsZ i->i<opsZ.length->i∈R:=by
   intro i m
   induction m with
   | mk i g H m J=>
    intro p;rw[h.r i p,h.w i p,e0];have B:=(EN o h.lv (fun a v=>by have:=(h.lZ a v).1;omega) (dO opsZ i)).2.2 fun u q=>by
     obtain⟨t,j⟩:=cp.1 (H u q);exact⟨t,J u q t j (by have:=(aL.1 j).1;omega),dI j⟩
    rw[B];simp
  have:=p8 (a:=List.range opsZ.length) (b:=R) Bl fun i g=>D i (z i (g3.1 g)) (g3.1 g)
  simp at this;omega
structure i7 (l:ae) (vs:ag) (g:List (List Nat)) (db:Nat->Nat) :Prop where
 ru:vs.length=g.length
 own:∀ (a:Nat) (v:U) (row:List Nat),vs[a]?=some v->g[a]?=some row->aH 1 l v (db a) (row.map fU)/\bq v=row.isEmpty/\(row=[]\/3<=db a)
 apart:∀ (a b:Nat) (h j:List Nat),a≠b->g[a]?=some h->g[b]?=some j->h≠[]->j≠[]->db a≠db b
def lP (g:List (List Nat)) (db:Nat->Nat) (b:Nat) :Prop:=∀ (a:Nat) (row:List Nat),g[a]?=some row->row≠[]->db a≠b
theorem i7.lt {l:ae} {vs:ag} {g:List (List Nat)} {db:Nat->Nat} (h:i7 l vs g db) {a:Nat} {row:List Nat} (j:g[a]?=some row) (o:row≠[]) :db a<l.length:=by
 have m:a<vs.length:=by rw[h.ru];exact (aL.1 j).1
 obtain⟨p,n,_⟩:=h.own a vs[a] row (bM m) j;rcases p.lt with h1 | h1
 ·rw[h1] at n;cases row with
  | nil=>exact bV rfl o
  | cons=>cases n
 ·exact h1
theorem i7.frame {l l' : ae} {vs:ag} {g:List (List Nat)} {db:Nat->Nat} (h:i7 l vs g db) (o:∀ b,b<l.length->(∃ a row,g[a]?=some row/\row≠[]/\db a=b)->l'[b]?=l[b]?) :i7 l' vs g db:=by
 refine⟨h.ru,fun a v row q m=>?_,h.apart⟩;obtain⟨t,n,u⟩:=h.own a v row q m;refine⟨?_,n,u⟩;by_cases j:row=[]
 ·subst j;have:=gk.1 n;subst this;exact .nil _
 ·exact t.frame fun p=>o _ p ⟨a,row,m,j,rfl⟩
theorem i7.more {l:ae} {vs:ag} {g:List (List Nat)} {db:Nat->Nat} (h:i7 l vs g db) (x:ae) :i7 (l++x) vs g db:=h.frame fun b j _=>aV j
theorem i7.app {l:ae} {vs:ag} {m:List (List Nat)} {db:Nat->Nat} (h:i7 l vs m db) {a k b:Nat} {v:U} {row:List Nat} (ay:vs[a]?=some v) (J:m[a]?=some row) (ar:l[b]?=some (.q 1 [.i6 (k:Int)])) (aq:3<=l.length) (ax:(row.length+1)*8<=dj) :
  ∃ o l' ah,dZ l 1 8 v (.Z 1 b 0 1 1 1)=some (o,l')/\i7 l' (vs.set a o) (m.set a (row++[k])) ah/\l.length<=l'.length/\o.cells=some [o] ∧
   ∀ c,c<l.length->lP m db c->l'[c]?=l[c]?/\lP (m.set a (row++[k])) ah c:=by
 obtain⟨aB,n,aE⟩:=h.own a v row ay J;have Y:a<m.length:=(aL.1 J).1;obtain⟨D,aD,aG,T,aj⟩:∃ D,aH 1 l v D (row.map fU)/\3<=D/\(∀ u G,u≠a->m[u]?=some G->G≠[]->db u≠D)/\∀ c,c<l.length->lP m db c->D≠c:=by
  by_cases p:row=[]
  ·subst p;have:=gk.1 n;subst this;exact⟨l.length,.nil _,aq,fun u G _ j Q=>by have:=h.lt j Q;omega,fun c I _=>F⟩
  ·exact⟨db a,aB,aE.resolve_left p,fun u G aw j Q=>h.apart u a G row aw j J Q p,fun c _ B=>B a row J p⟩
 obtain⟨o,aA,l',am,W,ao,X,H,ap⟩:=lS (by_:=8) aD (x:=.Z 1 b 0 1 1 1) (xs:=[fU k]) (by simp[cq,ar,fU]) (by simp[fU]) F F (by simpa using ax);have az:bq o=false:=by
  cases au:bq o with
  | true=>have:=(ap.1 (gk.1 au)).2;cases this
  | false=>rfl
 refine⟨o,l',fun x=>if x=a then aA else db x,am,⟨by simp[h.ru],fun x w V K j=>?_,fun x y P al O t C z R=>?_⟩,ao,W.cells,fun c I B=>⟨X c I (fun e=>aj c I B e.symm),fun x P t z=>?_⟩⟩
 ·by_cases g:x=a
  ·subst g;rw[bY (by rw[h.ru];exact Y)] at K;rw[bY Y] at j;obtain rfl:=cc K;obtain rfl:=cc j;simp only[if_true];refine⟨by rw[cV];exact W,by rw[az];simp,.inr ?_⟩;rcases H with e | e<;>omega
  ·rw[bj (Ne.symm g)] at K j;simp only[ai g];obtain⟨aC,ak,aF⟩:=h.own x w V K j;refine⟨?_,ak,aF⟩;by_cases p:V=[]
   ·subst p;have:=gk.1 ak;subst this;exact .nil _
   ·exact aC.frame fun av=>X _ av (T x V g j p)
 ·by_cases g:x=a
  ·subst g;rw[bj O] at C;simp only[if_true,ai (Ne.symm O)];have:=h.lt C R;have:=T y al (Ne.symm O) C R;rcases H with e | e<;>omega
  ·rw[bj (Ne.symm g)] at t;simp only[ai g];by_cases S:y=a
   ·subst S;simp only[if_true];have:=h.lt t z;have:=T x P g t z;rcases H with e | e<;>omega
   ·rw[bj (Ne.symm S)] at C;simp only[ai S];exact h.apart x y P al O t C z R
 ·by_cases g:x=a
  ·subst g;simp only[if_true];have:=aj c I B;rcases H with e | e<;>omega
  ·rw[bj (Ne.symm g)] at t;simp only[ai g];exact B x P t z
def r3 (idsZ:aR) (opsZ:List aK) (m q a k:Nat) :Nat:=if k<m then (dO opsZ k).count (bx idsZ a) else if k=m then ((dO opsZ m).take q).count (bx idsZ a) else 0
structure qA (idsZ:aR) (opsZ:List aK) (m q:Nat) (g:List (List Nat)) :Prop where
 len:g.length=opsZ.length
 cnt:∀ (a:Nat) (row:List Nat),g[a]?=some row->∀ k,row.count k=r3 idsZ opsZ m q a k
 xm:∀ (a:Nat) (row:List Nat),g[a]?=some row->row.length<=5*m+q
theorem U9 (idsZ:aR) (opsZ:List aK) :qA idsZ opsZ 0 0 (List.replicate opsZ.length []):=by
 refine⟨V,fun a row h k=>?_,fun a row h=>?_⟩
 ·have:=s9 (cJ h);subst this;simp[r3]
 ·have:=s9 (cJ h);subst this;simp
theorem Va {idsZ:aR} {opsZ:List aK} (F:k9 idsZ) (G:idsZ.length=opsZ.length) {m q a:Nat} {t:List (List Nat)} {row:List Nat} {p:List B} (h:qA idsZ opsZ m q t) (H:(dO opsZ m)[q]?=some p) (u:idsZ[a]?=some p) (v:t[a]?=some row) :
  qA idsZ opsZ m (q+1) (t.set a (row++[m])):=by
 have z:=(aL.1 v).1;have D:=(aL.1 u).1;have C:(dO opsZ m).take (q+1)=(dO opsZ m).take q++[p]:=by rw[ei,H];rfl
 refine⟨by simp[h.len],fun x w g k=>?_,fun x w g=>?_⟩
 ·by_cases o:x=a
  ·subst o;rw[bY z] at g;obtain rfl:=cc g;rw[vg,h.cnt x row v k];unfold r3;by_cases h1:k<m
   ·rw[ak h1,ak h1,Bg];have:(m == k)=false:=by rw[beq_eq_false_iff_ne];omega
    simp[this]
   ·rw[ai h1,ai h1];by_cases j:k=m
    ·subst j;rw[ak rfl,ak rfl,C,vg,dI u];simp
    ·rw[ai j,ai j,Bg];have:(m == k)=false:=by rw[beq_eq_false_iff_ne];omega
     simp[this]
  ·rw[bj (Ne.symm o)] at g;rw[h.cnt x w g k];unfold r3;by_cases h1:k<m
   ·rw[ak h1,ak h1]
   ·rw[ai h1,ai h1];by_cases j:k=m
    ·subst j;rw[ak rfl,ak rfl,C,vg,Bg];have I:x<idsZ.length:=by rw[G,<-h.len];exact (aL.1 g).1
     have:(p == bx idsZ x)=false:=by
      rw[beq_eq_false_iff_ne];intro e;rw[<-dI u] at e;exact o (Gm F D I e).symm
     rw[this];simp
    ·rw[ai j,ai j]
 ·by_cases o:x=a
  ·subst o;rw[bY z] at g;obtain rfl:=cc g;have:=h.xm x row v;simp;omega
  ·rw[bj (Ne.symm o)] at g;have:=h.xm x w g;omega
theorem U8 {idsZ:aR} {opsZ:List aK} {m:Nat} {vJ:List (List Nat)} (h:qA idsZ opsZ m (dO opsZ m).length vJ) (p:(dO opsZ m).length<=4) :qA idsZ opsZ (m+1) 0 vJ:=by
 refine⟨h.len,fun a row g k=>?_,fun a row g=>by have:=h.xm a row g;omega⟩;rw[h.cnt a row g k];unfold r3;by_cases h1:k<m
 ·rw[ak h1,ak F]
 ·rw[ai h1];by_cases j:k=m
  ·subst j;rw[ak rfl,ak F,e0]
  ·rw[ai j,ai F];by_cases o:k=m+1
   ·rw[ak o];simp
   ·rw[ai o]
theorem U7 {idsZ:aR} {opsZ:List aK} {vJ:List (List Nat)} (h:qA idsZ opsZ opsZ.length 0 vJ) :By idsZ opsZ vJ:=by
 refine⟨h.len,fun a row g k hk=>?_,fun a row g k hk=>?_⟩
 ·rw[h.cnt a row g k];unfold r3;rw[ak hk]
 ·have h1:0<row.count k:=List.count_pos_iff.2 hk;rw[h.cnt a row g k] at h1;unfold r3 at h1;by_cases j:k<opsZ.length
  ·exact j
  ·rw[ai j] at h1;split at h1<;>simp at h1
def dP (opsZ:List aK) (m:Nat) :List Int:=(List.range opsZ.length).map fun k=>if k<m then ((dO opsZ k).length:Int) else 0
def hb (opsZ:List aK) (m:Nat) :List Nat:=(List.range m).filter fun k=>(dO opsZ k).isEmpty
theorem MU (opsZ:List aK) (m:Nat) :(dP opsZ m).length=opsZ.length:=by simp[dP]
theorem A1 {opsZ:List aK} {m k:Nat} (h:k<opsZ.length) :(dP opsZ m)[k]?=some (if k<m then ((dO opsZ k).length:Int) else 0):=by unfold dP;rw[b0,hn h];rfl
theorem Zu {opsZ:List aK} {m:Nat} (h:m<opsZ.length) :(dP opsZ m).set m ((dO opsZ m).length:Int)=dP opsZ (m+1):=by
 apply g1;intro j;by_cases g:j<opsZ.length
 ·rw[A1 g,oe];by_cases o:m=j
  ·subst o;rw[ak rfl,ak (by rw[MU];exact g),ak F]
  ·rw[ai o,A1 g];by_cases h1:j<m
   ·rw[ak h1,ak F]
   ·rw[ai h1,ai F]
 ·rw[dW (by simp[dP];omega),dW (by simp[dP];omega)]
theorem Zt (opsZ:List aK) :dP opsZ opsZ.length=(List.range opsZ.length).map fun k=>((dO opsZ k).length:Int):=by unfold dP;apply mr;intro k hk;rw[ak (g3.1 hk)]
theorem Zv (opsZ:List aK) :dP opsZ 0=List.replicate opsZ.length 0:=by
 apply g1;intro h;by_cases g:h<opsZ.length
 ·rw[A1 g];simp[g]
 ·rw[dW (by simp[dP];omega),dW (by simp;omega)]
theorem KG (opsZ:List aK) (m:Nat) :hb opsZ (m+1)=hb opsZ m++(if (dO opsZ m).isEmpty then [m] else []):=by
 unfold hb;rw[td,lJ];congr 1;by_cases h:(dO opsZ m).isEmpty=true
 ·simp[h]
 ·simp[h]
def hs (n:Int) :U:=.i6 n
theorem LA {l:ag} {i:Nat} {x:U} (h:i<l.length) :av l i [x]=l.set i x:=by have:=ml (fun c:U=>c) l i x h;simpa using this
def cv (g:aW) (h:List Int) (vs:ag) (rest:ae) :ae:=.q 2 [ah g.idsZ,bA g.opsZ] ::.q g.opsZ.l.length (h.map hs) ::.q g.opsZ.l.length vs::rest
theorem qa {l:ae} {a b c:aq} (g:l[0]?=some a) (h1:l[1]?=some b) (h:l[2]?=some c) :∃ r,l=a::b::c::r:=by
 match l,g,h1,h with
 | j::m::o::r,g,h1,h=>
  simp at g h1 h;subst g h1 h;exact⟨r,rfl⟩
theorem tW {g:aW} {w w' : List Int} {vs j:ag} {r:ae}:∀ {b:Nat},3<=b->(cv g w vs r)[b]?=(cv g w' j r)[b]?
 | 0,h=>F
 | 1,h=>F
 | 2,h=>F
 | b+3,_=>rfl
theorem CL {g:aW} {w:List Int} {vs:ag} {r x:ae} {b:Nat} (h:b<(cv g w vs r).length) :(cv g w vs (r++x))[b]?=(cv g w vs r)[b]?:=by show ((cv g w vs r)++x)[b]?=_;exact aV h
structure N8 (g:aW) (m q:Nat) (jo:U) (l:ae) :Prop where
 ex:∃ (vs:ag) (h:List (List Nat)) (db:Nat->Nat) (fL:Nat) (rest:ae),l=cv g (dP g.opsZ.l m) vs rest/\i7 l vs h db/\qA g.idsZ.l g.opsZ.l m q h/\aH 1 l jo fL ((hb g.opsZ.l m).map fU) ∧
  bq jo=(hb g.opsZ.l m).isEmpty/\(hb g.opsZ.l m=[]\/(3<=fL/\lP h db fL))
structure N7 (g:aW) (m q:Nat) (jo:U) (b:Nat) (O:ag) (l:ae) :Prop where
 ex:∃ (vs:ag) (h:List (List Nat)) (db:Nat->Nat) (fL:Nat) (rest:ae),l=cv g (dP g.opsZ.l m) vs rest/\i7 l vs h db/\qA g.idsZ.l g.opsZ.l m q h/\aH 1 l jo fL ((hb g.opsZ.l m).map fU) ∧
  bq jo=(hb g.opsZ.l m).isEmpty/\(hb g.opsZ.l m=[]\/(3<=fL/\lP h db fL))/\l[b]?=some (.q 11 O)/\3<=b/\lP h db b
theorem ux {g:List (List Nat)} {l:ae} {vs:ag} {db:Nat->Nat} {c:Nat} (h:i7 l vs g db) (p:c<3) :lP g db c:=fun a row j o=>by
 have m:a<vs.length:=by rw[h.ru];exact (aL.1 j).1
 have:=(h.own a vs[a] row (bM m) j).2.2.resolve_left o;omega
theorem w5 {g:List (List Nat)} {l:ae} {vs:ag} {db:Nat->Nat} {c:Nat} (h:i7 l vs g db) (o:l.length<=c) :lP g db c:=fun a row m j=>by
 have:=h.lt m j;omega
structure ot (g:aW) (vs:ag) (h:List (List Nat)) (db:Nat->Nat) (W:List Int) (R:List Nat) (jo:U) (rest:ae) :Prop where
 ex:∃ fL,i7 (cv g W vs rest) vs h db/\aH 1 (cv g W vs rest) jo fL (R.map fU)/\bq jo=R.isEmpty/\(R=[]\/(3<=fL/\lP h db fL))
theorem ot.setW {g:aW} {vs:ag} {j:List (List Nat)} {db:Nat->Nat} {W u:List Int} {R:List Nat} {t:U} {rest:ae} (h:ot g vs j db W R t rest) :ot g vs j db u R t rest:=by
 obtain⟨fL,m,z,p,o⟩:=h;refine⟨⟨fL,m.frame fun b C ⟨a,B,h1,v,w⟩=>tW (x3 fun h=>ux m h a B h1 v w),?_,p,o⟩⟩;by_cases q:R=[]
 ·subst q;rw[gk.1 p];exact .nil _
 ·exact z.frame fun _=>tW (o.resolve_left q).1
theorem ot.push {g:aW} {vs:ag} {o:List (List Nat)} {db:Nat->Nat} {W:List Int} {R:List Nat} {u:U} {rest:ae} (h:ot g vs o db W R u rest) (m:Nat) (Q:(R.length+1)*8<=dj) :
  ∃ B jl,dZ (cv g W vs (rest++[.q 1 [.i6 (m:Int)]])) 1 8 u (.Z 1 (rest.length+3) 0 1 1 1)=some (B,cv g W vs jl)/\ot g vs o db W (R++[m]) B jl:=by
 obtain⟨fL,p,J,K,z⟩:=h;obtain⟨iw,X,al,C⟩:∃ iw,aH 1 (cv g W vs (rest++[.q 1 [.i6 (m:Int)]])) u iw (R.map fU)/\3<=iw/\lP o db iw:=by
  by_cases t:R=[]
  ·subst t;rw[gk.1 K];exact⟨(cv g W vs (rest++[.q 1 [.i6 (m:Int)]])).length,.nil _,by simp[cv],w5 p (by simp[cv])⟩
  ·exact⟨fL,J.more _,(z.resolve_left t).1,(z.resolve_left t).2⟩
 obtain⟨v,T,V,D,G,ah,j,w,H⟩:=lS (by_:=8) X (x:=.Z 1 (rest.length+3) 0 1 1 1) (xs:=[fU m]) (by simp[cq,cv,fU]) (by simp[fU]) F F (by simpa using Q);have aj:(cv g W vs (rest++[.q 1 [.i6 (m:Int)]])).length=rest.length+4:=by simp[cv]
 have ak:(cv g W vs rest).length=rest.length+3:=by simp[cv]
 obtain⟨jl,rfl⟩:∃ r,V=cv g W vs r:=qa ((j 0 F F).trans rfl) ((j 1 F F).trans rfl) ((j 2 F F).trans rfl);have S:bq v=false:=by
  cases P:bq v with
  | true=>have:=(H.1 (gk.1 P)).2;cases this
  | false=>rfl
 refine⟨v,jl,D,⟨⟨T,?_,?_,?_,.inr ⟨?_,?_⟩⟩⟩⟩
 ·exact p.frame fun b O ⟨a,Y,h1,I,ai⟩=>(j b F (fun e=>C a Y h1 I F)).trans (CL O)
 ·rw[cV];exact G
 ·rw[S];simp
 ·rcases w with e | e<;>omega
 ·rcases w with e | e
  ·rw[e];exact C
  ·exact w5 p F
theorem Xl (g:aW) (aK:eE g) (bc:g.idsZ.l.length=g.opsZ.l.length) (eM:g.opsZ.l.length<=60) (bC:∀ o∈g.opsZ.l,o.ax.l.length<=4) :aU 275 [cr g] (.i6 (jN g.idsZ.l g.opsZ.l)):=by
 apply a2 func275 [];have bi:dj=140737488355328:=rfl;have dL:=bO g.idsZ;have dN:=ip g.opsZ;have dK:=jz g;have cg:bD (.Z 11) (bA g.opsZ)=_:=b9 _;have c4:bD (.Z 32) (ah g.idsZ)=some (.i6 g.opsZ.l.length):=by simp[ah,bc]
 simp[cr,bb];refine bB (g.opsZ.l.length - 1) (fun k p l=>l=[.q 2 [ah g.idsZ,bA g.opsZ]]/\p 1=.ptr 0 0 2/\p 3=.i6 ((k+1:Nat) :Int)/\∀ t,t<k+1->t<g.idsZ.l.length->1<=t->bP (bx g.idsZ.l (t - 1)) (bx g.idsZ.l t)<0) ?_ ⟨V,V,V,fun t h1 _ w=>F⟩;rintro k p l hk ⟨rfl,u,bz,cn⟩;obtain⟨p,rfl⟩:=kk u bz;clear u bz;obtain⟨m,c7⟩:=al (k+1);rw[<-c7] at cn ⊢;by_cases c5:m<g.opsZ.l.length
 ·obtain⟨x,aE,di⟩:=aQ (l:=g.idsZ.l) (k:=k) F;obtain⟨y,dk,dn⟩:=aQ (l:=g.idsZ.l) (k:=m) F;have aJ:IntKind.i64.wrap ((m:Int) - 1)=(k:Int):=by rw[IntKind.wrap_i64];omega
  have aZ:=ci (k:=m) F;have dp:=dI aE;have dq:=dI dk;have c2:bQ (.Z 32) (ah g.idsZ) _=_:=c8 aE;have c3:bQ (.Z 32) (ah g.idsZ) _=_:=c8 dk;have aS:=bo (aK.idsZ x di);have dm:=bo (aK.idsZ y dn);have a6:=qL x y (aK.idsZ x di) (aK.idsZ y dn);unfold eo at a6;change aU 162 [.af (ao x),.af (ao y)] _ at a6;have a7:=cG x;have cX:=cG y;obtain⟨X,b4⟩:=al (ao x);obtain⟨eL,dE⟩:=al (ao y);rw[<-b4] at c2 aS a6 a7;rw[<-dE] at c3 dm a6 cX;simp[c4,c5,aJ,c2,c3,aS,dm,aI];refine au a6 (by simp[am,U.ar,a7,cX]) ?_;by_cases cT:bP x y<0
  ·have ca:¬ (0<=bP x y):=F;simp[ca,aZ];refine⟨F,fun t h1 w aA=>?_⟩;have aB:bP (bx g.idsZ.l (t - 1)) (bx g.idsZ.l t)<0:=by
    by_cases a9:t=m
    ·rw[a9,show m - 1=k by omega,dp,dq];exact cT
    ·exact cn t F w aA
   simpa [bx] using aB
  ·have ca:0<=bP x y:=F;simp[ca];refine aP (ch (U.int .i64) ?_) rfl;have ck:b8 g.idsZ.l=false:=KW (k:=m) F F (by rw[show m - 1=k by omega,dp,dq];exact cT);unfold jN;rw[ck];rfl
 ·have aM:b8 g.idsZ.l=true:=uI fun t h1 w=>cn t F h1 w
  have a9:=mL aM;obtain⟨cx,_⟩:=wP (z:=1) (by_:=8) (n:=g.opsZ.l.length) (k:=.i64) (k':=.i64) (zero:=[U.i6 0]) (l:=[aq.q 2 [ah g.idsZ,bA g.opsZ]]) rfl F (by rw[bi];omega);obtain⟨cy,_⟩:=wP (z:=1) (by_:=24) (n:=g.opsZ.l.length) (k:=.i64) (k':=.i64) (zero:=[U.ad]) (l:=[aq.q 2 [ah g.idsZ,bA g.opsZ],aq.q g.opsZ.l.length (List.replicate g.opsZ.l.length (U.i6 0))]) rfl F (by rw[bi];omega);simp only[oi,KP (alZ:=Nat)] at cx cy;simp[c4,cg,c5,cx,cy];refine bB g.opsZ.l.length (fun m p l=>p 1=.ptr 0 0 2/\p 4=.Z 1 1 0 g.opsZ.l.length g.opsZ.l.length g.opsZ.l.length/\p 5=.Z 1 2 0 g.opsZ.l.length g.opsZ.l.length g.opsZ.l.length/\p 45=bA g.opsZ/\p 46=.i6 g.opsZ.l.length/\p 47=.i6 m ∧
   N8 g m 0 (p 6) l/\∀ i,i<m->gT g.idsZ.l (dO g.opsZ.l i)=true) ?_ ?_
  ·rintro m p l c7 ⟨u,G,D,a1,a3,a4,ae,cQ⟩;obtain⟨az,I⟩:∃ v,p 6=v:=⟨_,rfl⟩
   rw[I] at ae;obtain⟨p,rfl⟩:=AU u G D I a1 a3 a4;clear u G D I a1 a3 a4;by_cases aG:m<g.opsZ.l.length
   ·obtain⟨o,bS,bd⟩:=aQ aG;have aJ:=ci (k:=m) F;have c0:bQ (.Z 11) (bA g.opsZ) _=_:=c8 bS;have eg:=aK.opsZ o bd;have ef:=bC o bd;have aD:dO g.opsZ.l m=o.ax.l:=me bS;have cj:bD (.Z 32) (ah o.ax)=_:=b9 _;have bH:(aw o).length=11:=rfl;have b1:∀ h:1<(aw o).length,(aw o)[1]'h=ah o.ax:=fun _=>rfl
    obtain⟨O,dy⟩:=al (aw o);rw[<-dy] at c0 bH b1;have ei:av [U.int .u32 0,.ad,.int .u64 0,.int .u8 0,.str [],.int .u8 0,.i6 0,.int .u64 0,.str [],.int .u32 0,.int .u32 0] 0 O=O:=cD (by rw[bH];rfl);simp[aG,c0,bH,b1,cj,ei,aI];obtain⟨bv,bI⟩:=al (l.length);rw[<-bI];refine bB o.ax.l.length (fun q p l=>p 1=.ptr 0 0 2/\p 4=.Z 1 1 0 g.opsZ.l.length g.opsZ.l.length g.opsZ.l.length/\p 5=.Z 1 2 0 g.opsZ.l.length g.opsZ.l.length g.opsZ.l.length/\p 6=az/\p 7=.i6 m/\p 8=.ptr bv 0 11/\p 45=bA g.opsZ/\p 46=.i6 g.opsZ.l.length/\p 47=.i6 m ∧
     p 53=ah o.ax/\p 54=.i6 o.ax.l.length/\p 55=.i6 q/\N7 g m q az bv O l/\∀ (t:Nat) (aj:List B),t<q->o.ax.l[t]?=some aj->aj∈g.idsZ.l) ?_ ?_
    ·rintro q p l eW ⟨u,G,D,I,cH,cI,a1,a3,a4,cC,cE,cF,dx,dd⟩;obtain⟨p,rfl⟩:=YE u G D I cH cI a1 a3 a4 cC cE cF;clear u G D I cH cI a1 a3 a4 cC cE cF;obtain⟨j,H,db,fL,rest,rfl,Q,K,Y,P,ag,aF,cS,dJ⟩:=dx;by_cases bh:q<o.ax.l.length
     ·obtain⟨aj,bf,dc⟩:=aQ bh;have aZ:=ci (k:=q) F;have c1:bQ (.Z 32) (ah o.ax) _=_:=c8 bf;have da:=eg.idsZ aj dc;have aS:=bo da;have a7:=cG aj;have cb:=Q8 g aK aM aj da;unfold cr bb at cb dK;obtain⟨X,b4⟩:=al (ao aj);rw[<-b4] at c1 aS a7 cb;have ej:av (bZ 32 (.int .u8 0)) 0 X=X:=cD (by rw[aS];rfl);simp[cv,bh,c1,aS,ej,aI];refine au cb (by simp[am,U.ar,a7,dL,dN]) ?_;by_cases bg:aj∈g.idsZ.l
      ·obtain⟨S,b5⟩:=cp.1 bg;have dM:=B3 aM b5;have eP:=(aL.1 b5).1;have eQ:S<g.opsZ.l.length:=F;have dh:j.length=g.opsZ.l.length:=by rw[Q.ru,K.len]
       obtain⟨bn,aR,_⟩:=aQ (l:=j) (k:=S) F;obtain⟨row,ay,_⟩:=aQ (l:=H) (k:=S) (by rw[K.len];omega);obtain⟨ds,aC⟩:=al (cv g (dP g.opsZ.l m) j (rest++[.q 32 X,.q 1 [.i6 (m:Int)]]));have bF:i7 ds j H db:=by rw[aC];exact Q.more _
       have eU:ds.length=rest.length+5:=by rw[aC];simp[cv]
       have dg:=K.xm S row ay;obtain⟨i0,cu,dr,u,bw,bz,G,D⟩:=bF.app (b:=rest.length+4) (k:=m) aR ay (by rw[aC];simp[cv]) F (by rw[bi];omega);have eF:=D 0 F (ux bF F);have q1:=D 1 F (ux bF F);have eG:=D 2 F (ux bF F);obtain⟨aT,rfl⟩:∃ r,cu=cv g (dP g.opsZ.l m) j r:=qa (eF.1.trans (by rw[aC];rfl)) (q1.1.trans (by rw[aC];rfl)) (eG.1.trans (by rw[aC];rfl));have bL:bQ (.Z 1) (.Z 1 2 0 g.opsZ.l.length g.opsZ.l.length g.opsZ.l.length) (.i6 (S:Int))=some (.ptr 2 S g.opsZ.l.length):=by
        simp only[bQ];rw[ak ⟨trivial,F,F⟩];simp
       rw[aC] at u;unfold cv at u;simp[bg,dM,bL,aR,u];refine bR.bm ?_;have en:av j S [i0]=j.set S i0:=LA F;simp[G,bL,en];have cd:∀ c,3<=c->c<(cv g (dP g.opsZ.l m) j rest).length->lP H db c->(cv g (dP g.opsZ.l m) (j.set S i0) aT)[c]?=(cv g (dP g.opsZ.l m) j rest)[c]?/\lP (H.set S (row++[m])) dr c:=by
        intro c aA cW bS;obtain⟨ew,ex⟩:=D c (by simp[cv] at cW;omega) bS;exact⟨(tW aA).trans (ew.trans (by rw[aC];exact CL cW)),ex⟩
       have ce:hb g.opsZ.l m≠[]->fL<(cv g (dP g.opsZ.l m) j rest).length:=fun J=>by
        rcases Y.lt with h | h
        ·rw[h] at P;cases bE:hb g.opsZ.l m with
         | nil=>exact bV bE J
         | cons=>rw[bE] at P;cases P
        ·exact h
       have dH:=(aL.1 aF).1;obtain⟨f1,f2⟩:=cd bv cS dH dJ;refine⟨F,bh,by rw[IntKind.wrap_i64];omega,⟨⟨j.set S i0,H.set S (row++[m]),dr,fL,aT,rfl,?_,Va a9 bc K (by rw[aD];exact bf) b5 ay,?_,P,?_,f1.trans aF,cS,f2⟩⟩,fun t eA aB cl=>?_⟩
       ·exact bw.frame fun b aF ⟨a,bl,h1,w,aA⟩=>by
         have bC:3<=b:=x3 fun h=>ux bw h a bl h1 w aA
         exact tW bC
       ·by_cases J:hb g.opsZ.l m=[]
        ·rw[J] at P Y ⊢;rw[gk.1 P];exact .nil _
        ·obtain⟨h1,w⟩:=ag.resolve_left J;exact Y.frame fun h=>(cd fL h1 (ce J) w).1
       ·by_cases J:hb g.opsZ.l m=[]
        ·exact .inl J
        ·obtain⟨h1,w⟩:=ag.resolve_left J;exact .inr ⟨h1,(cd fL h1 (ce J) w).2⟩
       ·by_cases dW:t=q
        ·subst dW;rw[bf] at cl;obtain rfl:=cc cl;exact bg
        ·exact dd t eA F cl
      ·simp[bg];refine aP (ch (U.int .i64) ?_) rfl;have ck:¬ p2 g.idsZ.l g.opsZ.l=true:=fun h=>by
        have:=iM h o bd;exact bg (iM this aj dc)
       unfold jN;rw[ak aM,ai ck]
     ·have de:q=o.ax.l.length:=F;rw[de] at K;rw[<-aD] at K;have cN:=U8 K (by rw[aD];exact ef);have dh:j.length=g.opsZ.l.length:=by rw[Q.ru,K.len]
      have df:fN (cv g (dP g.opsZ.l m) j rest) (.ptr bv 1 11)=some (O,1):=by simp only[fN,aF];rfl
      have a8:bQ (.Z 1) (.Z 1 1 0 g.opsZ.l.length g.opsZ.l.length g.opsZ.l.length) (.i6 (m:Int))=some (.ptr 1 m g.opsZ.l.length):=by
       simp only[bQ];rw[ak ⟨trivial,F,F⟩];simp
      have cs:jP 1 (cv g (dP g.opsZ.l m) j rest) (.ptr 1 m g.opsZ.l.length) (.i6 o.ax.l.length)=some (cv g (dP g.opsZ.l (m+1)) j rest):=by
       have h1:(cv g (dP g.opsZ.l m) j rest)[1]?=some (.q g.opsZ.l.length ((dP g.opsZ.l m).map hs)):=rfl;simp only[jP,U.cells,h1];rw[ak (by simp;omega)];have w:av ((dP g.opsZ.l m).map hs) m [U.i6 o.ax.l.length]=(dP g.opsZ.l (m+1)).map hs:=by
        rw[<-Zu aG,aD];exact ml hs (dP g.opsZ.l m) m _ (by rw[MU];exact aG)
       rw[w];rfl
      have bj:fN (cv g (dP g.opsZ.l (m+1)) j rest) (.ptr 1 m g.opsZ.l.length)=some ((dP g.opsZ.l (m+1)).map hs,m):=by
       have h1:(cv g (dP g.opsZ.l (m+1)) j rest)[1]?=some (.q g.opsZ.l.length ((dP g.opsZ.l (m+1)).map hs)):=rfl;simp only[fN,h1];simp
      have bK:((dP g.opsZ.l (m+1)).map hs)[m]?=some (.i6 o.ax.l.length):=by
       rw[b0,A1 aG,ak F,aD];rfl
      have eS:∀ h:m<((dP g.opsZ.l (m+1)).map hs).length,((dP g.opsZ.l (m+1)).map hs)[m]'h=.i6 o.ax.l.length:=fun h=>(aL.1 bK).2
      have cM:O[1]?=some (ah o.ax):=by rw[bM (by rw[bH];omega),b1]
      have bG:i7 (cv g (dP g.opsZ.l (m+1)) j rest) j H db:=Q.frame fun b aF ⟨a,bl,h1,w,aA⟩=>tW (x3 fun h=>ux Q h a bl h1 w aA)
      have cO:aH 1 (cv g (dP g.opsZ.l (m+1)) j rest) az fL ((hb g.opsZ.l m).map fU):=by
       by_cases J:hb g.opsZ.l m=[]
       ·rw[J] at P ⊢;rw[gk.1 P];exact .nil _
       ·exact Y.frame fun _=>tW (ag.resolve_left J).1
      have cR:∀ i,i<m+1->gT g.idsZ.l (dO g.opsZ.l i)=true:=fun i eT=>by
       by_cases dT:i=m
       ·subst dT;rw[aD];refine b7 fun aj bf=>?_
        obtain⟨t,aB⟩:=cp.1 bf;exact dd t aj (by rw[de];exact (aL.1 aB).1) aB
       ·exact cQ i F
      by_cases R:o.ax.l.length=0
      ·have dZ:bD (.Z 32) (ah o.ax)=some (.i6 0):=by rw[cj,R];rfl
       have ek:jP 1 (cv g (dP g.opsZ.l m) j rest) (.ptr 1 m g.opsZ.l.length) (.i6 0)=some (cv g (dP g.opsZ.l (m+1)) j rest):=by rw[R] at cs;exact cs
       have dR:((dP g.opsZ.l (m+1)).map hs)[m]?=some (.i6 0):=by rw[R] at bK;exact bK
       have aO:hb g.opsZ.l (m+1)=hb g.opsZ.l m++[m]:=by
        rw[KG,aD,ho.1 R];rfl
       obtain⟨iw,ey,eK,bp⟩:∃ iw,aH 1 (cv g (dP g.opsZ.l (m+1)) j (rest++[.q 1 [.i6 (m:Int)]])) az iw ((hb g.opsZ.l m).map fU)/\3<=iw/\lP H db iw:=by
        by_cases J:hb g.opsZ.l m=[]
        ·rw[J] at P ⊢;rw[gk.1 P];exact⟨(cv g (dP g.opsZ.l (m+1)) j (rest++[.q 1 [.i6 (m:Int)]])).length,.nil _,by simp[cv],w5 bG (by simp[cv])⟩
        ·exact⟨fL,cO.more _,(ag.resolve_left J).1,(ag.resolve_left J).2⟩
       have dg:(hb g.opsZ.l m).length<=m:=by
        have:=g2 (fun k=>(dO g.opsZ.l k).isEmpty) (List.range m);simpa [hb] using this
       obtain⟨dt,et,cu,u,bw,bz,G,D,I⟩:=lS (by_:=8) ey (x:=.Z 1 (rest.length+3) 0 1 1 1) (xs:=[fU m]) (by simp[cq,cv,fU]) (by simp[fU]) F F (by rw[bi];simp;omega);have eV:(cv g (dP g.opsZ.l (m+1)) j (rest++[.q 1 [.i6 (m:Int)]])).length=rest.length+4:=by simp[cv]
       obtain⟨aT,rfl⟩:∃ r,cu=cv g (dP g.opsZ.l (m+1)) j r:=qa ((G 0 F F).trans rfl) ((G 1 F F).trans rfl) ((G 2 F F).trans rfl);have cm:cv g (dP g.opsZ.l (m+1)) j rest++[aq.q 1 [.i6 (m:Int)]]=cv g (dP g.opsZ.l (m+1)) j (rest++[.q 1 [.i6 (m:Int)]]):=rfl;have cf:(cv g (dP g.opsZ.l (m+1)) j rest).length=rest.length+3:=by simp[cv]
       simp[bh,df,cM,dZ,a8,ek,bj,dR,cm,cf,u];refine bR.bm ?_;simp;have er:bq dt=false:=by
        cases dS:bq dt with
        | true=>have:=(I.1 (gk.1 dS)).2;cases this
        | false=>rfl
       refine⟨aG,by rw[IntKind.wrap_i64];omega,⟨⟨j,H,db,et,aT,rfl,?_,cN,?_,?_,.inr ⟨?_,?_⟩⟩⟩,cR⟩
       ·exact bG.frame fun b aF ⟨a,bl,h1,w,aA⟩=>(G b F (fun e=>bp a bl h1 w F)).trans (CL aF)
       ·rw[aO,cV];exact bw
       ·rw[er,aO];simp
       ·rcases D with e | e<;>omega
       ·rcases D with e | e
        ·rw[e];exact bp
        ·exact w5 bG F
      ·have aO:hb g.opsZ.l (m+1)=hb g.opsZ.l m:=by
        rw[KG,aD];have:o.ax.l.isEmpty=false:=by cases bE:o.ax.l with | nil=>rw[bE] at R;exact bV rfl R | cons=>rfl
        rw[this];simp
       simp[bh,df,cM,cj,a8,cs,bj,bK,R];exact⟨aG,by rw[IntKind.wrap_i64];omega,⟨⟨j,H,db,fL,rest,rfl,bG,cN,by rw[aO];exact cO,by rw[aO];exact P,by rw[aO];exact ag⟩⟩,cR⟩
    ·simp;obtain⟨j,H,db,fL,rest,rfl,Q,K,Y,P,ag⟩:=ae;refine⟨⟨j,H,db,fL,rest++[.q 11 O],rfl,Q.more _,K,Y.more _,P,ag,by rw[bI,eu (aN _)];simp,by rw[bI];simp[cv],w5 Q (by rw[bI];exact aN _)⟩⟩
   ·have ea:m=g.opsZ.l.length:=F;subst ea;obtain⟨j,H,db,ev,WC,rfl,cL,K,dz,dB,dA⟩:=ae;have bX:=U7 K;have dh:j.length=g.opsZ.l.length:=by rw[cL.ru,K.len]
    have c9:p2 g.idsZ.l g.opsZ.l=true:=b7 fun o bd=>by
     obtain⟨t,aB⟩:=cp.1 bd;have:=cQ t (aL.1 aB).1
     rwa [me aB] at this
    have cK:=SC (idsZ:=g.idsZ.l) (opsZ:=g.opsZ.l) bc;rw[<-Zt] at cK;have dC:ot g j H db (dP g.opsZ.l g.opsZ.l.length) (hb g.opsZ.l g.opsZ.l.length) az WC:=⟨⟨ev,cL,dz,dB,dA⟩⟩
    simp;refine bB g.opsZ.l.length (fun d p l=>p 1=.ptr 0 0 2/\p 4=.Z 1 1 0 g.opsZ.l.length g.opsZ.l.length g.opsZ.l.length/\p 5=.Z 1 2 0 g.opsZ.l.length g.opsZ.l.length g.opsZ.l.length/\p 13=.i6 d ∧
     ∃ W C rest,l=cv g W j rest/\ot g j H db W C (p 6) rest/\oo g.idsZ.l g.opsZ.l [] d 0 C W) ?_ ?_
    ·rintro d p l eR ⟨u,G,D,a0,W,C,rest,rfl,ae,T⟩;obtain⟨az,I⟩:∃ v,p 6=v:=⟨_,rfl⟩
     rw[I] at ae;obtain⟨p,rfl⟩:=gu u G D I a0;clear u G D I a0;have b2:bD (.Z 1) az=some (.i6 C.length):=by obtain⟨fL,_,Y,_⟩:=ae;have:=Y.len;simpa using this
     have P:C.length<=g.opsZ.l.length:=by
      have:=p8 (b:=List.range g.opsZ.l.length) T.lv fun x aE=>g3.2 (T.lZ x aE).1
      simpa using this
     by_cases cY:d<C.length
     ·obtain⟨a,ap,dF⟩:=aQ cY;have dG:=(T.lZ a dF).1;have aJ:=ci (k:=d) F;obtain⟨row,ay,_⟩:=aQ (l:=H) (k:=a) (by rw[K.len];exact dG);obtain⟨bn,aR,_⟩:=aQ (l:=j) (k:=a) F;obtain⟨fL,Q,Y,cP,ag⟩:=ae;obtain⟨eD,dv,eI,br,bs,du,bW⟩:=Y.q.get (k:=.i64) (i:=d) (e:=fU a) (by rw[b0,ap];rfl);have bt:=one_cell (c:=.i6 (a:Int)) bW;have bL:bQ (.Z 1) (.Z 1 2 0 g.opsZ.l.length g.opsZ.l.length g.opsZ.l.length) (.i6 (a:Int))=some (.ptr 2 a g.opsZ.l.length):=by
       simp only[bQ];rw[ak ⟨trivial,F,F⟩];simp
      have bk:∀ bU cw,fN (cv g bU j cw) (.ptr 2 a g.opsZ.l.length)=some (j,a):=fun bU cw=>by
       have h1:(cv g bU j cw)[2]?=some (.q g.opsZ.l.length j):=rfl;simp only[fN,h1];simp
      have ct:=(Q.own a bn row aR ay).1;have es:bD (.Z 1) bn=some (.i6 row.length):=by have:=ct.len;simpa using this
      have dg:=K.xm a row ay;simp[b2,cY,br,bs,bt,bL,bk,aR,es];refine bB row.length (fun t p l=>p 1=.ptr 0 0 2/\p 4=.Z 1 1 0 g.opsZ.l.length g.opsZ.l.length g.opsZ.l.length/\p 5=.Z 1 2 0 g.opsZ.l.length g.opsZ.l.length g.opsZ.l.length/\p 13=.i6 d/\p 106=bn/\p 107=.i6 row.length/\p 108=.i6 t ∧
       ∃ W C rest,l=cv g W j rest/\ot g j H db W C (p 6) rest/\oo g.idsZ.l g.opsZ.l row d t C W/\C[d]?=some a) ?_ ?_
      ·rintro t p l ce ⟨u,G,D,a0,cz,cA,cB,W,C,rest,rfl,ae,T,ap⟩;obtain⟨az,I⟩:∃ v,p 6=v:=⟨_,rfl⟩
       rw[I] at ae;obtain⟨p,rfl⟩:=AV u G D I a0 cz cA cB;clear u G D I a0 cz cA cB;by_cases bN:t<row.length
       ·obtain⟨k,hk,dX⟩:=aQ bN;have dY:=bX.lt a row ay k dX;obtain⟨x,aE,eX,eY,a5⟩:=SD bc a9 bX T ap ay hk;have eZ:(dO g.opsZ.l k).length<=4:=by
         obtain⟨ez,ec,ed⟩:=aQ dY;rw[me ec];exact bC ez ed
        have aJ:=ci (k:=t) F;have aZ:IntKind.i64.wrap (x - 1)=x - 1:=by rw[IntKind.wrap_i64];omega
        obtain⟨fL,Q,Y,cP,ag⟩:=id ae;have ct:=(Q.own a bn row aR ay).1;obtain⟨eD,dv,eI,br,bs,du,bW⟩:=ct.q.get (k:=.i64) (i:=t) (e:=fU k) (by rw[b0,hk];rfl);have bt:=one_cell (c:=.i6 (k:Int)) bW;have a8:bQ (.Z 1) (.Z 1 1 0 g.opsZ.l.length g.opsZ.l.length g.opsZ.l.length) (.i6 (k:Int))=some (.ptr 1 k g.opsZ.l.length):=by
         simp only[bQ];rw[ak ⟨trivial,F,F⟩];simp
        have eO:=T.wl;have bj:fN (cv g W j rest) (.ptr 1 k g.opsZ.l.length)=some (W.map hs,k):=by
         have h1:(cv g W j rest)[1]?=some (.q g.opsZ.l.length (W.map hs)):=rfl;simp only[fN,h1];simp
        have cZ:(W.map hs)[k]?=some (.i6 x):=by rw[b0,aE];rfl
        have bT:jP 1 (cv g W j rest) (.ptr 1 k g.opsZ.l.length) (.i6 (x - 1))=some (cv g (W.set k (x - 1)) j rest):=by
         have h1:(cv g W j rest)[1]?=some (.q g.opsZ.l.length (W.map hs)):=rfl;simp only[jP,U.cells,h1];rw[ak (by simp;omega)];have w:av (W.map hs) k [U.i6 (x - 1)]=(W.set k (x - 1)).map hs:=ml hs W k _ F;rw[w];rfl
        have bk:fN (cv g (W.set k (x - 1)) j rest) (.ptr 1 k g.opsZ.l.length)=some ((W.set k (x - 1)).map hs,k):=by
         have h1:(cv g (W.set k (x - 1)) j rest)[1]?=some (.q g.opsZ.l.length ((W.set k (x - 1)).map hs)):=rfl;simp only[fN,h1];simp
        have bJ:((W.set k (x - 1)).map hs)[k]?=some (.i6 (x - 1)):=by rw[b0,bY F];rfl
        have b3:ot g j H db (W.set k (x - 1)) C az rest:=ae.setW;obtain⟨aY,dD⟩:=al (W.set k (x - 1));rw[<-dD] at bT bk bJ b3 a5;by_cases R:x - 1=0
        ·rw[ak R] at a5;have dw:IntKind.i64.wrap (x - 1)=0:=by rw[aZ];exact R
         rw[R] at bT bJ;have eN:C.length<=g.opsZ.l.length:=by
          have:=p8 (b:=List.range g.opsZ.l.length) T.lv fun x aE=>g3.2 (T.lZ x aE).1
          simpa using this
         obtain⟨i0,aT,eB,eC⟩:=b3.push k (by rw[bi];omega);have cm:cv g aY j rest++[aq.q 1 [.i6 (k:Int)]]=cv g aY j (rest++[.q 1 [.i6 (k:Int)]]):=rfl;have cf:(cv g aY j rest).length=rest.length+3:=by simp[cv]
         simp[bN,br,bs,bt,a8,bj,cZ,dw,bT,bk,bJ,cm,cf,eB];refine bR.bm ?_;simp[bN,aJ];exact⟨aY,C++[k],aT,rfl,eC,a5,by rw[aV (aL.1 ap).1];exact ap⟩
        ·rw[ai R] at a5;simp[bN,br,bs,bt,a8,bj,cZ,aZ,bT,bk,bJ,R,aJ];exact⟨aY,C,rest,rfl,b3,a5,ap⟩
       ·have dV:t=row.length:=F;subst dV;simp;exact⟨F,by rw[IntKind.wrap_i64];omega,W,C,rest,rfl,ae,SA bX T ap ay⟩
      ·simp;exact⟨W,C,rest,rfl,⟨⟨fL,Q,Y,cP,ag⟩⟩,SB T,ap⟩
     ·have dQ:d=C.length:=by have:=T.dl;omega
      subst dQ;obtain⟨eK,bp⟩:=Sz bc a9 T;by_cases c6:C.length<g.opsZ.l.length
      ·simp[b2,cv,cg,c6];refine aP (ch (U.int .i64) ?_) rfl;unfold jN;rw[ak aM,ak c9,ai (fun h=>by have:=bp.2 h;omega)]
      ·simp[b2,cv,cg,c6];refine aP (ch (U.int .i64) ?_) rfl;unfold jN;rw[ak aM,ak c9,ak (bp.1 F)]
    ·simp;exact⟨_,_,_,rfl,dC,cK⟩
  ·simp;refine⟨⟨List.replicate g.opsZ.l.length .ad,List.replicate g.opsZ.l.length [],fun _=>0,0,[],?_,⟨V,fun a v row ep eh=>?_,fun a b e0 e1 _ ap _ eb _=>?_⟩,U9 _ _,.nil _,rfl,.inl rfl⟩⟩
   ·unfold cv;rw[Zv,xZ];rfl
   ·have h1:=s9 (cJ ep);have w:=s9 (cJ eh);subst h1 w;exact⟨.nil _,rfl,.inl rfl⟩
   ·exact bV (s9 (cJ ap)) eb
theorem MF (g:aW) (o:eE g) :aU 252 [cr g] (.i6 (eT g)):=by
 apply a2 func252 [];have aY:=bO g.idsZ;have aZ:=ip g.opsZ;have az:=jz g;have X:bD (.Z 11) (bA g.opsZ)=_:=b9 _;have aB:bD (.Z 32) (ah g.idsZ)=_:=b9 _;have a1:=o.jh;by_cases Q:60<(g.opsZ.l.length:Int)
 ·simp[cr,bb,X,Q];refine aP (ch (U.int .i64) ?_) rfl;unfold eT;rw[ak F]
 by_cases G:g.idsZ.l.length=g.opsZ.l.length
 ·have W:(g.idsZ.l.length:Int)=(g.opsZ.l.length:Int):=F;simp[cr,bb,X,aB,Q,W];refine bB g.opsZ.l.length (fun k p l=>(∃ rest,l=.q 2 [ah g.idsZ,bA g.opsZ] ::rest)/\p 1=.ptr 0 0 2/\p 19=bA g.opsZ/\p 20=.i6 g.opsZ.l.length/\p 21=.i6 k/\∀ m,m<k->j7 g m=true) ?_ V;rintro k p l hk ⟨⟨rest,rfl⟩,ag,aj,ap,aq,aD⟩;obtain⟨p,rfl⟩:=eO ag aj ap aq;clear ag aj ap aq;by_cases w:k<g.opsZ.l.length
  ·obtain⟨j,aC,J⟩:=aQ w;obtain⟨x,P,aG⟩:=aQ (l:=g.idsZ.l) (k:=k) F;have B:=wi aC P;have aH:=ci (k:=k) F;have aA:bQ (.Z 11) (bA g.opsZ) _=_:=c8 aC;have T:bQ (.Z 32) (ah g.idsZ) _=_:=c8 P;have aF:=xK j (o.opsZ j J);have C:=u2 j (o.opsZ j J);change aU 97 [.af (aw j)] (.aX [.af (ao (bf j)),.i6 (dd j)]) at C;have S:=dt j;have ae:=bo (o.idsZ x aG);have t:=bo (mK j);have H:(aw j).length=11:=rfl;have heq:=oN (mK j) (o.idsZ x aG);have R:¬ j7 g k=true->eT g=8:=fun h=>by
    unfold eT;rw[ai F,ak G,ai fun aR=>h ((sg g).1 aR k w)]
   obtain⟨O,aM⟩:=al (aw j);obtain⟨aV,aO⟩:=al (ao x);obtain⟨I,aK⟩:=al (ao (bf j));rw[<-aM] at aA aF C S H;rw[<-aO] at T ae heq;rw[<-aK] at C heq t;have aT:av [U.int .u32 0,.ad,.int .u64 0,.int .u8 0,.str [],.int .u8 0,.i6 0,.int .u64 0,.str [],.int .u32 0,.int .u32 0] 0 O=O:=cD (by rw[H];rfl);have Y:av (bZ 32 (.int .u8 0)) 0 I=I:=cD (by rw[t];rfl);simp[w,aA,H,aT,aI];refine au C (by simp[am,U.ar,S]) ?_;by_cases z:dd j=0
   ·by_cases D:bf j=x
    ·simp[z,t,Y,T,ae,heq,D,H,aI];refine au aF (by simp[am,U.ar,S]) ?_;by_cases K:eh j=0
     ·simp[K,w,aH];intro m v;by_cases aS:m=k
      ·subst aS;rw[B];simp[K,D]
      ·exact aD m F
     ·have u:¬ j7 g k=true:=fun h=>by rw[B] at h;simp[K] at h
      simp[K];exact aP (ch (U.int .i64) (R u).symm) rfl
    ·have u:¬ j7 g k=true:=fun h=>by rw[B] at h;simp[D] at h
     simp[z,t,Y,T,ae,heq,D,aI];exact aP (ch (U.int .i64) (R u).symm) rfl
   ·have u:¬ j7 g k=true:=fun h=>by
     rw[B,bU,bK] at h;exact z (sV h.1)
    simp[z,t,Y];exact aP (ch (U.int .i64) (R u).symm) rfl
  ·have a0:k=g.opsZ.l.length:=F;have ay:sf g=true:=(sg g).2 fun m v=>aD m F
   have aJ:∀ j∈g.opsZ.l,j.ax.l.length<=4:=fun j J=>by
    obtain⟨m,v⟩:=cp.1 J;obtain⟨x,P,_⟩:=aQ (l:=g.idsZ.l) (k:=m) (by have:=(aL.1 v).1;omega);have h1:=(sg g).1 ay m (aL.1 v).1;rw[wi v P,bU,bK] at h1;exact p1 (sV h1.1)
   have aE:=Xl g o G F aJ;unfold cr bb at aE az;simp[w];refine au aE (by simp[am,az]) ?_;simp;refine aP (ch (U.int .i64) ?_) rfl;unfold eT;rw[ai F,ak G,ak ay]
 ·have W:¬ (g.idsZ.l.length:Int)=(g.opsZ.l.length:Int):=F;simp[cr,bb,X,aB,Q,W];refine aP (ch (U.int .i64) ?_) rfl;unfold eT;rw[ai F,ai G]
def pM (o:aK) :Bool:=decide (20<o.ax.l.length)||(decide (100<o.act.key.length)||decide (100<o.act.val.text.length))
theorem VK (o:aK) :aU 72 [.af (aw o)] (.bool (pM o)):=by
 apply a2 func72 [];unfold pM;have m:bD (.Z 32) (ah o.ax)=_:=b9 _;by_cases h1:20<o.ax.l.length
 ·have g:(20:Int)<(o.ax.l.length:Int):=F;simp[aw,m,h1,g];exact aF
 ·have g:¬ (20:Int)<(o.ax.l.length:Int):=F;by_cases p:100<o.act.key.length
  ·have h:(100:Int)<(o.act.key.length:Int):=F;simp[aw,m,h1,g,p,h];exact aF
  ·have h:¬ (100:Int)<(o.act.key.length:Int):=F;simp[aw,m,h1,g,p,h];refine aP (ch U.bool ?_) rfl;by_cases q:100<o.act.val.text.length
   ·have j:(100:Int)<(o.act.val.text.length:Int):=F;simp[q,j]
   ·have j:¬ (100:Int)<(o.act.val.text.length:Int):=F;simp[q,j]
def pL (g:aW) :Bool:=decide (∃ h∈g.opsZ.l.take 71,pM h=true)||(decide (16<g.opsZ.l.length/\g.opsZ.l.length<=60)||(decide (70<g.opsZ.l.length)||decide (70<g.idsZ.l.length)))
theorem VJ (g:aW) :aU 28 [cr g] (.bool (pL g)):=by
 apply a2 func28 [];have v:bD (.Z 11) (bA g.opsZ)=_:=b9 _;have T:bD (.Z 32) (ah g.idsZ)=_:=b9 _;simp[cr,bb];refine bB (min g.opsZ.l.length 71) (fun k G l=>l=[.q 2 [ah g.idsZ,bA g.opsZ]]/\G 1=.ptr 0 0 2/\G 3=.i6 k/\∀ (m:Nat) (h:aK),m<k->g.opsZ.l[m]?=some h->pM h=false) ?_ V;rintro k G l hk ⟨rfl,P,Q,O⟩;obtain⟨G,rfl⟩:=kk P Q;clear P Q;by_cases p:k<g.opsZ.l.length
 ·by_cases ap:k<=70
  ·obtain⟨h,J,D⟩:=aQ p;have ae:=ci (k:=k) F;have S:bQ (.Z 11) (bA g.opsZ) _=_:=c8 J;have Y:=VK h;have R:=dt h;have X:(aw h).length=11:=rfl;have I:(k:Int)<=70:=F;have aq:k<min g.opsZ.l.length 71:=F;obtain⟨ao,ag⟩:=al (aw h);rw[<-ag] at S Y R X;simp[v,p,I,S,X,aI];refine au Y (by simp[am,U.ar,R]) ?_;by_cases j:pM h=true
   ·simp[j];refine aP (ch U.bool ?_) rfl;unfold pL;rw[b7 ⟨h,cJ (i:=k) (by rw[dQ F];exact J),j⟩];rfl
   ·rw[xS] at j;simp[j,ae];refine⟨F,fun m ak o K=>?_⟩;by_cases aj:m=k
    ·subst aj;rw[J] at K;obtain rfl:=cc K;exact j
    ·exact O m ak F K
  ·have I:¬ (k:Int)<=70:=F;have W:¬ ∃ h∈g.opsZ.l.take 71,pM h=true:=fun ⟨h,D,j⟩=>by
    obtain⟨m,o⟩:=cp.1 D;have H:=(aL.1 o).1;rw[cL] at H;rw[dQ F] at o;rw[O m h F o] at j;cases j
   have t:(16:Int)<(g.opsZ.l.length:Int):=F;have z:¬ (g.opsZ.l.length:Int)<=60:=F;have u:(70:Int)<(g.opsZ.l.length:Int):=F;simp[v,p,I,t,z,u];refine aP (ch U.bool ?_) rfl;unfold pL;simp[show 70<g.opsZ.l.length by omega]
 ·have W:¬ ∃ h∈g.opsZ.l.take 71,pM h=true:=fun ⟨h,D,j⟩=>by
   obtain⟨m,o⟩:=cp.1 D;have H:=(aL.1 o).1;rw[cL] at H;rw[dQ F] at o;rw[O m h F o] at j;cases j
  have ai:pL g=(decide (16<g.opsZ.l.length/\g.opsZ.l.length<=60)||(decide (70<g.opsZ.l.length)||decide (70<g.idsZ.l.length))):=by
   unfold pL;rw[cu W];rfl
  rw[ai];have d1:decide ((16:Int)<(g.opsZ.l.length:Int))=decide (16<g.opsZ.l.length):=by rw[decide_eq_decide];omega
  have d2:decide ((g.opsZ.l.length:Int)<=60)=decide (g.opsZ.l.length<=60):=by rw[decide_eq_decide];omega
  have d3:decide ((70:Int)<(g.opsZ.l.length:Int))=decide (70<g.opsZ.l.length):=by rw[decide_eq_decide];omega
  have d4:decide ((70:Int)<(g.idsZ.l.length:Int))=decide (70<g.idsZ.l.length):=by rw[decide_eq_decide];omega
  by_cases t:16<g.opsZ.l.length
  ·have w:(16:Int)<(g.opsZ.l.length:Int):=F;by_cases z:g.opsZ.l.length<=60
   ·have C:(g.opsZ.l.length:Int)<=60:=F;simp[v,p,t,w,z,C];exact aF
   ·have C:¬ (g.opsZ.l.length:Int)<=60:=F;by_cases u:70<g.opsZ.l.length
    ·have B:(70:Int)<(g.opsZ.l.length:Int):=F;simp[v,p,t,w,z,C,u,B];exact aF
    ·have B:¬ (70:Int)<(g.opsZ.l.length:Int):=F;simp[v,T,p,t,w,z,C,u,B];exact aP (ch U.bool d4) rfl
  ·have w:¬ (16:Int)<(g.opsZ.l.length:Int):=F;have u:¬ 70<g.opsZ.l.length:=F;have B:¬ (70:Int)<(g.opsZ.l.length:Int):=F;simp[v,T,p,t,w,u,B];exact aP (ch U.bool d4) rfl
def cw (o:aK) :aK:={ o with ax:=some o.ax.l }
theorem AO {o:aK} (h:dk o) :dk (cw o):=⟨h.idsZ,h.len,h.val,h.key⟩
theorem Wb (o:aK) (h:dk o) :aU 130 [.af (aw o)] (.af (aw (cw o))):=by
 apply a2 func130 [];have t:=du;have w:=h.len;have j:∀ x∈o.ax.l,(ao x).length=32:=fun x u=>bo (h.idsZ x u)
 have g:=yi (enc:=ao) (by_:=32) [aq.q 11 (aw o),aq.q 11 [.int .u32 0,.ad,.int .u64 0,.int .u8 0,.str [],.int .u8 0,.i6 0,.int .u64 0,.str [],.int .u32 0,.int .u32 0]] o.ax j F F (by rw[t];omega);have p:∀ x:b2,(ah x).cells=some [ah x]:=fun x=>by cases x<;>rfl
 have v:=bO (some o.ax.l);simp only[aw,ah,dM,hp,iK,h2] at g;simp[aw,ah,g];refine bR.oH (by exact ly j rfl rfl) rfl ?_;have m:U.bu 32 (o.ax.l.map ao)=ah (some o.ax.l):=rfl;simp[m,p,av];exact aP rfl (show (U.af (aw (cw o))).ar=true by have:=dt (cw o);simpa [U.ar] using this)
def cy (g:aW) :aW:=⟨some g.idsZ.l,cK (g.opsZ.l.map cw)⟩
theorem AN {g:aW} (h:eE g) :eE (cy g):=by
 refine⟨h.idsZ,fun p j=>?_,h.li,?_⟩
 ·unfold cy at j;simp only[dh] at j;obtain⟨o,m,rfl⟩:=cE.1 j;exact AO (h.opsZ o m)
 ·unfold cy;simp only[dh];simpa using h.jh
theorem z7 (g:aW) (z:eE g) :aU 128 [cr g] (cr (cy g)):=by
 apply a2 func128 [cT 0 7++[[7,1]]];have ai:=du;have X:bD (.Z 11) (bA g.opsZ)=_:=b9 _;have aS:=z.jh;have aT:=z.li;have ak:∀ x∈g.idsZ.l,(ao x).length=32:=fun x aM=>bo (z.idsZ x aM)
 have R:=yi (enc:=ao) (by_:=32) [aq.q 2 (bb g),aq.q 2 [.ad,.ad]] g.idsZ ak F F (by rw[ai];omega);have aE:∀ x:b2,(ah x).cells=some [ah x]:=fun x=>by cases x<;>rfl
 have aA:=bO (some g.idsZ.l);simp only[bb,ah,dM,hp,iK,h2] at R;simp[cr,bb,ah,R];refine bR.oH (by exact ly ak rfl rfl) rfl ?_;have aB:U.bu 32 (g.idsZ.l.map ao)=ah (some g.idsZ.l):=rfl;simp[aB,aE,av];refine bB g.opsZ.l.length (fun k p l=>p 1=.ptr 0 0 2/\p 2=.ptr 1 0 2/\p 3=.ptr 3 0 2/\p 4=.i6 k/\∃ j o rest,l=.q 2 [ah g.idsZ,bA g.opsZ] ::.q 2 [.ad,.ad] ::.dead::.q 2 [ah (some g.idsZ.l),j] ::rest ∧
  aH 11 l j o (((g.opsZ.l.take k).map cw).map aw)/\(j=.ad\/4<=o)/\bq j=(g.opsZ.l.take k).isEmpty) ?_ ?_
 ·rintro k p l hk ⟨J,K,O,P,j,o,rest,rfl,G,W,Y⟩;obtain⟨p,rfl⟩:=eO J K O P;clear J K O P;by_cases B:k<g.opsZ.l.length
  ·obtain⟨m,ae,aF⟩:=aQ B;have ay:=ci (k:=k) F;have V:bQ (.Z 11) (bA g.opsZ) _=_:=c8 ae;have H:=Wb m (z.opsZ m aF);have S:=dt m;have ag:(aw m).length=11:=rfl;have u:(aw (cw m)).length=11:=rfl;have aj:g.opsZ.l.take (k+1)=g.opsZ.l.take k++[m]:=by rw[ei,ae];rfl
   obtain⟨aO,c3,aV,C,D,ap,ax⟩:=rW (by_:=112) (pre:=[.q 2 [ah g.idsZ,bA g.opsZ],.q 2 [.ad,.ad],.dead,.q 2 [ah (some g.idsZ.l),j]]) (rest:=rest++[.q 11 (aw (cw m))]) (G.more _) W (x:=.Z 11 (rest.length+1+1+1+1) 0 1 1 11) (xs:=[aw (cw m)])
    (by simp[cq,u,aI]) (by simp[u]) F F (by rw[ai];simp;omega)
   obtain⟨aP,az⟩:=al (aw m);obtain⟨T,Q⟩:=al (aw (cw m));rw[<-az] at V H S ag;rw[<-Q] at H u C D;have aK:av [U.int .u32 0,.ad,.int .u64 0,.int .u8 0,.str [],.int .u8 0,.i6 0,.int .u64 0,.str [],.int .u32 0,.int .u32 0] 0 T=T:=cD (by rw[u];rfl);have aL:=D.cells;simp only[iK,h2] at C;simp[X,B,V,ag,aI];refine au H (by simp[am,U.ar,S]) ?_;simp[u,aK,C];refine bR.bm ?_;simp[aL,av,ay];have aJ:List.take (k+1) (List.map (aw ∘ cw) g.opsZ.l)=((g.opsZ.l.take k).map cw).map aw++[T]:=by rw[<-i2,aj];simp[Q]
   have I:bq aO=false:=by rw[ax];simp
   have aC:4<=c3:=by
    rcases ap with h | h
    ·rw[h] at I;cases I
    ·simpa using h
   refine⟨B,c3,?_,.inr aC,by rw[I,aj];simp⟩;rw[aJ];refine D.cx (.inr ?_);obtain⟨v,rfl⟩:∃ v,c3=v+4:=⟨c3 - 4,F⟩
   rfl
  ·have aD:k=g.opsZ.l.length:=F;simp[X,B];rw[aD,e0] at G Y;have aG:Rd (aq.q 2 [ah g.idsZ,bA g.opsZ] ::aq.q 2 [ah (some g.idsZ.l),j] ::aq.dead::aq.q 2 [ah (some g.idsZ.l),j] ::rest) j (bA (cK (g.opsZ.l.map cw))):=by
    refine (G.cx (l':=aq.q 2 [ah g.idsZ,bA g.opsZ] ::aq.q 2 [ah (some g.idsZ.l),j] ::aq.dead::aq.q 2 [ah (some g.idsZ.l),j] ::rest) ?_).q.gP (fun x=>dt x) (cK (g.opsZ.l.map cw)) (by rw[Y,n1];simp) (dh _);rcases W with h | h
    ·exact .inl h
    ·right;obtain⟨v,rfl⟩:∃ v,o=v+4:=⟨o - 4,F⟩
     rfl
   refine .af _ _ rfl fun o c aR t w=>?_
   rcases o with _ | _ | o
   ·simp[bb,cy] at t w;subst t w;exact .same _ aA
   ·simp[bb,cy] at t w;subst t w;exact aG
   ·simp at t
 ·simp;exact⟨.ad,⟨rfl,rfl⟩,0,.nil 0,.inl rfl,rfl⟩
def gn (a b:aK) :Bool:=decide (a.eL=b.eL)&&(decide (a.ax.l=b.ax.l)&&(decide (a.e9=b.e9)&&(dz (e4 a.act) (e4 b.act)&&(decide (a.e=b.e)&&decide (a.s=b.s)))))
theorem C3:mP prog 20 53=some [.i .u32,.i .u32]:=bn
theorem Am (a b c d:D) :ea prog .eql 53 (.af [bg a,bg b]) (.af [bg c,bg d])=some (.bool (decide (a=c)&&decide (b=d))):=by rw[vL C3 bn bn rfl rfl];simp[dz,U.beq]
theorem z6 (a b:aK) (o:dk a) (p:dk b) :aU 71 [.af (aw a),.af (aw b)] (.bool (gn a b)):=by
 apply a2 func71 [];unfold gn;have q:=bO a.ax;have t:=bO b.ax;have u:=sL a.ax b.ax o.idsZ p.idsZ o.len;have g:=yd a.act b.act;have v:=Am a.e a.s b.e b.s;have w:(ah a.ax).cells=some [ah a.ax]:=by cases a.ax<;>rfl
 have z:(ah b.ax).cells=some [ah b.ax]:=by cases b.ax<;>rfl
 unfold e4 at g ⊢;simp[aw];by_cases h1:a.eL=b.eL
 ·simp[h1];refine au u (by simp[am,q,t]) ?_;by_cases h:a.ax.l=b.ax.l
  ·by_cases j:a.e9=b.e9
   ·cases m:dz [a7 a.act.kind,.str a.act.key,a7 a.act.val.kind,.i6 a.act.val.num,c6 a.act.val.bits,.str a.act.val.text] [a7 b.act.kind,.str b.act.key,a7 b.act.val.kind,.i6 b.act.val.num,c6 b.act.val.bits,.str b.act.val.text] with
    | false=>
     rw[m] at g;simp[h1,h,j,g];exact aF
    | true=>
     rw[m] at g;simp[h1,h,j,g,v];exact aF
   ·simp[h1,h,j];exact aF
  ·simp[h1,h];exact aF
 ·simp[h1];exact aF
theorem Lh (a:aK) :gn a a=true:=by unfold gn;simp[e4,dz,U.beq]
def hU (l:List aK) (k:Nat) :aK:=l.getD k ⟨0,none,0,⟨0,[],⟨0,0,0,[]⟩⟩,0,0⟩
theorem jG {l:List aK} {k:Nat} {o:aK} (h:l[k]?=some o) :hU l k=o:=by unfold hU;rw[gw,h];rfl
def kV (a b:aW) :Bool:=decide (a.idsZ.l=b.idsZ.l)&&(decide (a.opsZ.l.length=b.opsZ.l.length)&&decide (∀ k,k<a.opsZ.l.length->gn (hU a.opsZ.l k) (hU b.opsZ.l k)=true))
theorem Kw (a b:aW) (u:eE a) (J:eE b) :aU 26 [cr a,cr b] (.bool (kV a b)):=by
 apply a2 func26 [];have ak:=bO a.idsZ;have ao:=bO b.idsZ;have ap:=sL a.idsZ b.idsZ u.idsZ J.idsZ u.li;have v:bD (.Z 11) (bA a.opsZ)=_:=b9 _;have T:bD (.Z 11) (bA b.opsZ)=_:=b9 _;have aB:=u.jh;simp[cr,bb];refine au ap (by simp[am,ak,ao]) ?_;by_cases h1:a.idsZ.l=b.idsZ.l
 ·by_cases w:a.opsZ.l.length=b.opsZ.l.length
  ·have D:(a.opsZ.l.length:Int)=(b.opsZ.l.length:Int):=F;simp[h1,v,T,w];refine bB a.opsZ.l.length (fun k t l=>l=[.q 2 [ah a.idsZ,bA a.opsZ],.q 2 [ah b.idsZ,bA b.opsZ]]/\t 2=.ptr 0 0 2/\t 3=.ptr 1 0 2/\t 5=.i6 k/\∀ g,g<k->gn (hU a.opsZ.l g) (hU b.opsZ.l g)=true) ?_ V;rintro k t l hk ⟨rfl,z,B,C,ag⟩;obtain⟨t,rfl⟩:=gF z B C;clear z B C;by_cases o:k<a.opsZ.l.length
   ·obtain⟨j,W,ax⟩:=aQ o;obtain⟨m,Y,ay⟩:=aQ (l:=b.opsZ.l) (k:=k) F;have aj:=ci (k:=k) F;have R:bQ (.Z 11) (bA a.opsZ) _=_:=c8 W;have S:bQ (.Z 11) (bA b.opsZ) _=_:=c8 Y;have ai:=z6 j m (u.opsZ j ax) (J.opsZ m ay);have O:=dt j;have P:=dt m;have X:(aw j).length=11:=rfl;have ae:(aw m).length=11:=rfl;have I:=jG W;have K:=jG Y;obtain⟨az,G⟩:=al (aw j);obtain⟨Q,H⟩:=al (aw m);rw[<-G,<-H] at ai;rw[<-G] at R O X;rw[<-H] at S P ae;simp[v,o,R,S,X,ae,aI];refine au ai (by simp[am,U.ar,O,P]) ?_;by_cases p:gn j m=true
    ·simp[p,o,aj];intro g aq;by_cases av:g=k
     ·subst av;rw[I,K];exact p
     ·exact ag g F
    ·rw[xS] at p;simp[p];refine aP (ch U.bool ?_) rfl;unfold kV;rw[cu (fun h:∀ k,k<a.opsZ.l.length->gn (hU a.opsZ.l k) (hU b.opsZ.l k)=true=>by
      have:=h k o;rw[I,K,p] at this;cases this)]
     simp
   ·have aA:k=a.opsZ.l.length:=F;simp[v,o];refine aP (ch U.bool ?_) rfl;unfold kV;rw[b7 h1,b7 w,b7 fun g aq=>ag g F];rfl
  ·have D:¬ (a.opsZ.l.length:Int)=(b.opsZ.l.length:Int):=F;simp[h1,v,T,D];refine aP (ch U.bool ?_) rfl;unfold kV;rw[cu w];simp
 ·simp[h1];refine aP (ch U.bool ?_) rfl;unfold kV;rw[cu h1];simp
structure vx (g:aW) :Prop where
 n60:g.opsZ.l.length<=60
 len:g.idsZ.l.length=g.opsZ.l.length
 H9:∀ (k:Nat) (o:aK) (x:List B),g.opsZ.l[k]?=some o->g.idsZ.l[k]?=some x->eh o=0/\bf o=x
 b8:b8 g.idsZ.l=true
 Dx:∀ o∈g.opsZ.l,∀ p∈o.ax.l,p∈g.idsZ.l
 all:∀ i,i<g.opsZ.l.length->mw g.idsZ.l g.opsZ.l i
theorem kR {g:aW} (h:eT g=0) :vx g:=by
 unfold eT at h;split at h
 ·cases h
 ·rename_i C;split at h
  ·rename_i j;split at h
   ·rename_i q;unfold jN at h;split at h
    ·rename_i o;split at h
     ·rename_i u;split at h
      ·rename_i v;refine⟨F,j,fun k p x m z=>?_,o,fun p t B w=>?_,(DB j (mL o)).1 v⟩
       ·have:=(sg g).1 q k (aL.1 m).1;rw[wi m z,bU,bK,bK] at this;exact this
       ·exact iM (iM u p t) B w
      ·cases h
     ·cases h
    ·cases h
   ·cases h
  ·cases h
def mS (idsZ:aR) (seen:List Bool) (k:Nat) :aR:=(List.range k).flatMap fun i=>if seen.getD i false=true then [bx idsZ i] else []
theorem Di (idsZ:aR) (seen:List Bool) (k:Nat) :mS idsZ seen (k+1)=mS idsZ seen k++(if seen.getD k false=true then [bx idsZ k] else []):=by unfold mS;rw[td,xU];simp
theorem I9 (idsZ:aR) (seen:List Bool) :∀ k,(mS idsZ seen k).length<=k
 | 0=>by simp[mS]
 | k+1=>by
  have:=I9 idsZ seen k;rw[Di,cI];split<;>simp<;>omega
theorem Gv:∀ l:List B,dz (l.map a7) (l.map a7)=true
 | []=>rfl
 | x::l=>by
  have h1:U.beq (a7 x) (a7 x)=true:=by simp[U.beq]
  show (U.beq (a7 x) (a7 x)&&dz (l.map a7) (l.map a7))=true;rw[h1,Gv l];rfl
theorem OK (x:List B) :U.beq (.af (ao x)) (.af (ao x))=true:=Gv x
theorem Ct {x:List B} (h:x.length=32) :kN prog 57 (.af (ao x))=true:=by
 have h1:pQ prog 8 57=true:=bn;have g:dE prog 57=some true:=bn;have j:ca prog 57=some 32:=bn;have m:(x.map a7).all rc=true:=by rw[gb];intro c o;obtain⟨b,_,rfl⟩:=cE.1 o;rfl
 show (pQ prog 8 57&&(match dE prog 57,ca prog 57 with | some true,some p=>Nat.beq (x.map a7).length p | _,_=>false)&&(x.map a7).all rc)=true;rw[h1,g,j,m,ce,h];rfl
theorem I1:∀ {a b:List B},a.map (fun x=>u x)=b.map (fun x=>u x)<->a=b
 | [],[]=>V
 | [],_::_=>V
 | _::_,[]=>V
 | x::a,y::b=>by
  rw[dg,dg,List.cons.injEq,List.cons.injEq,I1 (a:=a) (b:=b)];simp
theorem QN {a b:List B} (g:a.length=32) (j:b.length=32) {D:Nat}:dK prog (D+2) 57 (.af (ao a)) (.af (ao b))=some (decide (a=b)):=by have h:=QO (P:=prog) (t:=57) (e:=5) (k:=.u8) (n:=32) bn bn bn bn (x:=a.map fun x=>u x) (y:=b.map fun x=>u x) (by simp[g]) (by simp[j]) (D:=D);rw[iL,iL] at h;unfold ao;rw[show a.map a7=a.map (U.int .u8 ∘ fun x=>u x) from rfl,show b.map a7=b.map (U.int .u8 ∘ fun x=>u x) from rfl,h];simp only[I1]
inductive qu:Nat->List (U × U × Nat)->aR->Prop
 | nil (b:Nat) :qu b [] []
 | cons {b:Nat} {g:List (U × U × Nat)} {b5:aR} {k:List B} (n:Nat) (hk:k.length=32) (h:qu (b+1) g b5) :qu b ((.af (ao k),.int .i64 (b:Int),n) ::g) (k::b5)
theorem qu.snoc {b:Nat} {es:List (U × U × Nat)} {b5:aR} (h:qu b es b5) {k:List B} (hk:k.length=32) (n:Nat) :qu b (es++[(.af (ao k),.i6 ((b+b5.length:Nat) :Int),n)]) (b5++[k]):=by
 induction h with
 | nil b=>exact .cons n hk (.nil _)
 | @cons b es b5 m o j h g=>
  refine .cons o j ?_;rw[show b+1+b5.length=b+(m::b5).length by simp;omega] at g;exact g
theorem HM {x:List B} (q:x.length=32) {b:Nat} {es:List (U × U × Nat)} {b5:aR} (h:qu b es b5) :∀ c,(∀ i,b5[i]?=some x->(∀ j,j<i->b5[j]?≠some x)->j5 prog 57 (.af (ao x)) es c=some (some (c+i,.i6 ((b+i:Nat) :Int))))/\(x∉b5->j5 prog 57 (.af (ao x)) es c=some none):=by
 induction h with
 | nil b=>intro c;exact⟨fun i h=>by simp at h,fun _=>rfl⟩
 | @cons b es b5 k n hk h t=>
  intro c;unfold j5;rw[Ct hk];simp only;rw[show dK prog 10000 57 (.af (ao x)) (.af (ao k))=some (decide (x=k)) from QN q hk (D:=9998)];by_cases m:x=k
  ·subst m;simp only[ol,OK];refine⟨fun i g o=>?_,fun h=>bV V h⟩;cases i with
   | zero=>rfl
   | succ i=>exact bV rfl (o 0 F)
  ·simp only[m,vq];obtain⟨h1,p⟩:=t (c+1);refine⟨fun i g o=>?_,fun h=>p (fun h'=>h (by simp[h']))⟩;cases i with
   | zero=>simp at g;exact bV g.symm m
   | succ i=>
    rw[h1 i (by simpa using g) (fun j u=>by have:=o (j+1) F;simpa using this)];rw[show c+1+i=c+(i+1) by omega,show b+1+i=b+(i+1) by omega]
structure la (l:ae) (j:Nat) (b5:aR) :Prop where
 e:∃ es kB,l[j]?=some (.map es kB)/\qu 0 es b5
theorem la.look {l:ae} {j:Nat} {b5:aR} (h:la l j b5) (t:k9 b5) {x:List B} (m:x.length=32) {i:Nat} (g:b5[i]?=some x) :wI prog l 57 (.i6 0) false (.mp j) (.af (ao x))=some (.i6 (i:Int)):=by
 obtain⟨es,v,h1,o⟩:=h.e;have p:uj l (.mp j)=some es:=by simp[uj,h1]
 unfold wI;rw[p];simp only[Ct m];rw[(HM m o 0).1 i g (fun u w q=>by have:=t u i x q g;omega)];simp
theorem la.put {l:ae} {j:Nat} {b5:aR} (h:la l j b5) {x:List B} (g:x.length=32) (q:x∉b5) :∃ c,sp prog l 57 (.mp j) (.af (ao x)) (.i6 (b5.length:Int))=some (l.set j c)/\(∀ l' : ae,l'[j]?=some c->la l' j (b5++[x])):=by obtain⟨t,o,h1,m⟩:=h.e;unfold sp;simp only[h1,Ct g,(HM g m 0).2 q];exact⟨_,rfl,fun l' p=>⟨_,_,p,by have:=m.snoc g o;rw[hI] at this;exact this⟩⟩
theorem la.frame {l l' : ae} {j:Nat} {b5:aR} (h:la l j b5) (p:l'[j]?=l[j]?) :la l' j b5:=by obtain⟨m,g,h1,o⟩:=h.e;exact⟨m,g,by rw[p,h1],o⟩
theorem la.lt {l:ae} {j:Nat} {b5:aR} (h:la l j b5) :j<l.length:=by obtain⟨m,g,h1,o⟩:=h.e;exact (aL.1 h1).1
theorem S9 {P:bp} {g:aY->U} {l:ae} {o:aY} {k:cU} {n:Int} (h:g o=.int k n) :bT P g l (.uk (some o))=some (.mp l.length,l++[.map [] 0]):=by show (match asInt (g o) with | some _=>some (U.mp l.length,l++[aq.map [] 0]) | none=>none)=_;rw[h];rfl
theorem Vc (g:aW) (G:eE g) (Y:k9 g.idsZ.l) {l:ae} {K:cB} (R:∀ j l',la l' j g.idsZ.l->l.length<=j->(∀ c,c<l.length->l'[c]?=l[c]?)->l.length<=l'.length->K (.mp j) l') :
  cM 276 [cr g] l K:=by
 apply c1 func276 [];have ax:=G.li;have I:bD (.Z 32) (ah g.idsZ)=_:=b9 _;simp[cr,bb,I];rw[S9 (k:=.i64) (n:=g.idsZ.l.length) V];simp[I];refine bB g.idsZ.l.length (fun k h l'=>h 3=.mp (l.length+1)/\h 11=ah g.idsZ/\h 12=.i6 g.idsZ.l.length/\h 13=.i6 k/\la l' (l.length+1) (g.idsZ.l.take k)/\(∀ c,c<l.length->l'[c]?=l[c]?)) ?_ ?_
 ·rintro k h l' hk ⟨C,w,z,B,m,D⟩;obtain⟨h,rfl⟩:=eO C w z B;clear C w z B;by_cases p:k<g.idsZ.l.length
  ·obtain⟨x,u,au⟩:=aQ p;have Q:=ci (k:=k) F;have H:bQ (.Z 32) (ah g.idsZ) _=_:=c8 u;have J:=G.idsZ x au;have v:=bo J;have aq:g.idsZ.l.take (k+1)=g.idsZ.l.take k++[x]:=by rw[ei,u];rfl
   have am:x∉g.idsZ.l.take k:=fun ak=>by
    obtain⟨aw,t⟩:=cp.1 ak;have ar:=(aL.1 t).1;rw[cL] at ar;rw[dQ F] at t;have:=Y aw k x t u;omega
   have aj:=m.lt;have S:la (l'++[.q 32 (ao x)]) (l.length+1) (g.idsZ.l.take k):=m.frame (aV aj);obtain⟨c,o,P⟩:=S.put J am;have ai:(g.idsZ.l.take k).length=k:=by rw[cL];omega
   rw[ai] at o;obtain⟨X,T⟩:=al (ao x);rw[<-T] at H v o;have ap:av (bZ 32 (.int .u8 0)) 0 X=X:=cD (by rw[v];rfl);simp[p,H,v,ap,aI,o,Q];refine⟨?_,fun O W=>?_⟩
   ·rw[aq];exact P _ (by rw[bY (by simp;omega)])
   ·rw[bj F,aV F];exact D O W
  ·have ag:k=g.idsZ.l.length:=F;rw[ag,e0] at m;simp[p];exact R _ _ m F D (by have:=m.lt;omega)
 ·simp;refine⟨⟨[],0,V,.nil 0⟩,fun c U=>by rw[aV U]⟩
theorem Po {l:ae} {p:U} {x:ag × Nat} (h:fN l p=some x) :lh p 0=some p:=by cases p<;>first | rfl | (exfalso;simp[fN] at h)
theorem Wn {l:ae} {a b j m:U} (h1:Rd l a j) (p:Rd l b m) :Rd l (.aX [a,b]) (.aX [j,m]):=by
 refine .aX _ _ rfl fun o x q g h=>?_
 rcases o with _ | _ | o
 ·simp at g h;subst g h;exact h1
 ·simp at g h;subst g h;exact p
 ·simp at g
def lY (g:aW) (x:List B) (m:Nat) :Bool:=decide (∀ h,h<m->x∉(hU g.opsZ.l h).ax.l)
theorem Rp (g:aW) (x:List B) (m:Nat) :lY g x (m+1)=(lY g x m&&!decide (x∈(hU g.opsZ.l m).ax.l)):=by
 unfold lY;rw[xR,bU,bK,bK,vc,decide_eq_false_iff_not];constructor
 ·intro h;exact⟨fun j p=>h j F,h m F⟩
 ·rintro⟨h1,o⟩ j p;by_cases e:j=m
  ·rw[e];exact o
  ·exact h1 j F
abbrev ir (g:aW) (x:List B) :Bool:=lY g x g.opsZ.l.length
def eU (g:aW) :aR:=g.idsZ.l.filter (ir g)
structure NM (g:aW) (l0:ae) (w:U) (seen:List Bool) (k:Nat) (sgZ:aS) (l:ae) :Prop where
 e5:sgZ 1=w
 hP:sgZ 2=.ptr l0.length 0 2
 oI:sgZ 8=.i6 seen.length
 y0:sgZ 9=.i6 k
 ex:∃ v,sgZ 5=v/\cd 32 ao (l0++[.q 2 [ah g.idsZ,bA g.opsZ]]) l v (mS g.idsZ.l seen k) (mS g.idsZ.l seen k).isEmpty
theorem Te (g:aW) (O:eE g) {l0:ae} {w:U} {t:Nat} {seen:List Bool} (aG:seen.length=g.idsZ.l.length) (Q:aH 1 l0 w t (seen.map lm)) (ai:t<l0.length) {K:cB}
  (Y:∀ v l',cd 32 ao l0 l' v (mS g.idsZ.l seen seen.length) (mS g.idsZ.l seen seen.length).isEmpty->K v l') :
  cM 277 [cr g,w] l0 K:=by
 apply c1 func277 [];have ap:=du;have aE:=O.li;have au:bD (.Z 1) w=some (.i6 seen.length):=by have:=Q.len;simpa using this
 simp[cr,bb,au];refine bB seen.length (NM g l0 w seen) ?_ ⟨V,V,V,V,.ad,V,cd.nil⟩;rintro k aA l hk ⟨C,D,H,I,v,G,h⟩;obtain⟨aA,rfl⟩:=gu C D G H I;clear C D G H I;have az:l[l0.length]?=some (.q 2 [ah g.idsZ,bA g.opsZ]):=by rw[h.same _ V];simp
 have ax:aH 1 l w t (seen.map lm):=Q.cx (.inr (by rw[h.same _ (by simp;omega),aV ai]));by_cases o:k<seen.length
 ·obtain⟨b,m,_⟩:=aQ o;obtain⟨x,R,ay⟩:=aQ (l:=g.idsZ.l) (k:=k) F;have B:=ci (k:=k) F;obtain⟨aK,cs,S,T,u,aL,aC⟩:=ax.q.get (k:=.i64) (i:=k) (e:=lm b) (by rw[b0,m];rfl);have W:cs[S]?=some (.bool b):=by
   have J:((cs.drop S).take 1)[0]?=(lm b)[0]?:=by rw[aC]
   rw[dQ F] at J;simpa [lm] using J
  have P:bQ (.Z 32) (ah g.idsZ) _=_:=c8 R;have ar:seen.getD k false=b:=by rw[gw,m];rfl
  have p:=bo (O.idsZ x ay);have aF:=I9 g.idsZ.l seen k;have j:=Di g.idsZ.l seen k;have aM:=Po u;rw[ar] at j;cases b with
  | false=>
   simp at j;simp[o,T,u,W,B];exact⟨V,V,V,V,v,V,by rw[j];exact h⟩
  | true=>
   rw[ak rfl,dI R] at j;obtain⟨aB,aJ,z,am,aD⟩:=Uf (by_:=32) (h.more [aq.q 32 (ao x)]) x (b:=l.length) V p F F (by rw[ap];omega);obtain⟨X,ag⟩:=al (ao x);rw[<-ag] at P p z;have aw:av (bZ 32 (.int .u8 0)) 0 X=X:=cD (by rw[p];rfl);simp[o,T,u,W,az,P,p,aw,aI,z];refine bR.bm ?_;simp[o,B];exact⟨V,V,V,V,aB,V,by rw[j,show (mS g.idsZ.l seen k++[x]).isEmpty=false by simp];exact am⟩
 ·have aj:k=seen.length:=F;subst aj;simp;exact Y _ _ (h.base V (fun b m=>aV m))
def nG (n k:Nat) :List Bool:=(List.range n).map fun i=>decide (i<k)
theorem QZ (n k:Nat) :(nG n k).length=n:=by simp[nG]
theorem Q1 (n:Nat) :nG n 0=List.replicate n false:=by
 apply g1 ;intro i;unfold nG;by_cases h:i<n
 ·rw[b0,hn h,Bj,ak h];simp
 ·rw[dW (by simp;omega),dW (by simp;omega)]
theorem Q0 {n k:Nat} (h:k<n) :(nG n k).set k true=nG n (k+1):=by
 apply g1 ;intro i;unfold nG;by_cases g:i<n
 ·by_cases e:k=i
  ·subst e;rw[bY (by simp;omega),b0,hn g];simp
  ·rw[bj e,b0,b0,hn g];simp;omega
 ·rw[dW (by simp;omega),dW (by simp;omega)]
def je (g:aW) (q m:Nat) :List Bool:=(List.range g.idsZ.l.length).map fun i=>lY g (bx g.idsZ.l i) q&&!decide (bx g.idsZ.l i∈(hU g.opsZ.l q).ax.l.take m)
theorem CH (g:aW) (q m:Nat) :(je g q m).length=g.idsZ.l.length:=by simp[je]
theorem RP (g:aW) :nG g.idsZ.l.length g.idsZ.l.length=je g 0 0:=by
 unfold nG je;refine mr fun i h=>?_
 rw[g3] at h;rw[b7 h];simp[lY]
theorem RN (g:aW) (q:Nat) :je g q (hU g.opsZ.l q).ax.l.length=je g (q+1) 0:=by
 unfold je;refine mr fun i h=>?_
 rw[e0,Rp];simp
theorem RO {g:aW} (w:k9 g.idsZ.l) {q m i:Nat} {p:List B} (C:(hU g.opsZ.l q).ax.l[m]?=some p) (j:g.idsZ.l[i]?=some p) :(je g q m).set i false=je g q (m+1):=by
 have D:=(aL.1 j).1;apply g1 ;intro t;unfold je;have u:(hU g.opsZ.l q).ax.l.take (m+1)=(hU g.opsZ.l q).ax.l.take m++[p]:=by rw[ei,C];rfl
 by_cases o:t<g.idsZ.l.length
 ·obtain⟨y,v,_⟩:=aQ o;by_cases e:i=t
  ·subst e;rw[bY (by simp;omega),b0,hn o,u];simp[j]
  ·rw[bj e,b0,b0,hn o,u];have z:y≠p:=fun h=>e (by subst h;exact w i t y j v)
   simp[v,z]
 ·rw[dW (by simp;omega),dW (by simp;omega)]
theorem I8 (g:aW) :∀ k,k<=g.idsZ.l.length->mS g.idsZ.l (je g g.opsZ.l.length 0) k=(g.idsZ.l.take k).filter (ir g)
 | 0,_=>rfl
 | k+1,hk=>by
  obtain⟨x,j,_⟩:=aQ (l:=g.idsZ.l) (k:=k) F;have h1:(je g g.opsZ.l.length 0).getD k false=ir g x:=by
   rw[gw];unfold je;rw[b0,hn F];simp[j]
  rw[Di,I8 g k F,h1,dI j,ei,j,lJ];cases h:ir g x<;>simp[h]
structure ou (g:aW) (h b:Nat) (S:List Bool) (l:ae) :Prop where
 lA:l[0]?=some (.q 2 [ah g.idsZ,bA g.opsZ])
 p:la l h g.idsZ.l
 w:aH 1 l (.Z 1 b 0 g.idsZ.l.length g.idsZ.l.length g.idsZ.l.length) b (S.map lm)
 y2:b<l.length
 hm:h<b
 CG:0<h
theorem ou.more {g:aW} {j b:Nat} {S:List Bool} {l:ae} (h:ou g j b S l) (c:aq) :ou g j b S (l++[c]):=
 ⟨by rw[aV (by have:=h.y2;omega)];exact h.lA,h.p.frame (aV h.p.lt),h.w.more _,by have:=h.y2;simp;omega,h.hm,h.CG⟩
theorem ou.set {g:aW} {j b:Nat} {S:List Bool} {l:ae} (h:ou g j b S l) {i:Nat} {v:Bool} (z:i<S.length) :
  ∃ p l',bQ (.Z 1) (.Z 1 b 0 g.idsZ.l.length g.idsZ.l.length g.idsZ.l.length) (.i6 (i:Int))=some p/\jP 1 l p (.bool v)=some l'/\ou g j b (S.set i v) l':=by obtain⟨p,l',o,q,t,u,m⟩:=zN (enc:=lm) (x:=v) (X:=.bool v) rfl h.w (fun _ _=>rfl) z rfl;have h1:=h.hm;have B:=h.CG;exact⟨p,l',o,q,by rw[m 0 F];exact h.lA,h.p.frame (m j F),t,by rw[u];exact h.y2,h.hm,h.CG⟩
def rv (g:aW) :b2:=if eT g=0 then cK (eU g) else none
theorem Y5 (g:aW) (I:eE g) :aU 253 [cr g] (.aX [ah (rv g),.i6 (eT g)]):=by
 apply a2 func253 [];have bt:=du;have bg:=bO g.idsZ;have bh:=ip g.opsZ;have bG:=I.jh;have bF:=I.li;have aS:=MF g I;have bn:bD (.Z 11) (bA g.opsZ)=_:=b9 _;have bl:bD (.Z 32) (ah g.idsZ)=_:=b9 _;unfold cr bb at aS;simp[cr,bb];refine au aS (by simp[am,U.ar,bg,bh]) ?_;by_cases D:eT g=0
 ·have aE:=kR D;have az:=mL aE.b8;simp[D];refine Vc g I az ?_;intro G J H bj aT bm;have C:J[0]?=some (aq.q 2 [ah g.idsZ,bA g.opsZ]):=by rw[aT 0 V];rfl
  obtain⟨ag,aj⟩:=wP (z:=1) (by_:=1) (n:=g.idsZ.l.length) (k:=.i64) (k':=.i64) (zero:=[U.bool false]) (l:=J) rfl F (by rw[bt];omega);obtain⟨N,bC⟩:=al (g.idsZ.l.length);simp only[oi] at ag aj;have m:ou g G J.length (nG g.idsZ.l.length 0) (J++[.q g.idsZ.l.length (cQ [.bool false] g.idsZ.l.length)]):=by
   have h1:J.length ≥ 1:=by simp at bm;omega
   refine⟨by rw[aV F];exact C,H.frame (aV H.lt),?_,V,H.lt,by simp at bj;omega⟩;rw[Q1,xZ];exact aj
  simp[C,bl,ag];obtain⟨b,bf⟩:=al (J.length);rw[<-bf] at m ⊢;refine bB g.idsZ.l.length (fun k j l=>j 1=.ptr 0 0 2/\j 5=.mp G/\j 6=.Z 1 b 0 g.idsZ.l.length g.idsZ.l.length g.idsZ.l.length/\j 24=.i6 g.idsZ.l.length/\j 25=.i6 k/\ou g G b (nG g.idsZ.l.length k) l) ?_ ⟨V,V,V,V,V,m⟩;clear m ag aj C aT H;rintro k j l hk ⟨t,u,B,aG,aH,m⟩;obtain⟨j,rfl⟩:=gu t u B aG aH;clear t u B aG aH;simp;refine fk (fun h=>?_) (fun h=>?_)
  ·simp only[bK] at h;have ap:=ci (k:=k) F;obtain⟨T,a9,aD,ae,W⟩:=m.set (i:=k) (v:=true) (by rw[QZ];omega);rw[Q0 F] at W;simp[aD,ae,ap];exact⟨F,W⟩
  ·have bk:k=g.idsZ.l.length:=by simp at h;omega
   rw[bk,RP] at m;have C:=m.lA;simp[h,C,bn];refine bB g.opsZ.l.length (fun q j l=>j 1=.ptr 0 0 2/\j 5=.mp G/\j 6=.Z 1 b 0 g.idsZ.l.length g.idsZ.l.length g.idsZ.l.length/\j 33=bA g.opsZ/\j 34=.i6 g.opsZ.l.length/\j 35=.i6 q/\ou g G b (je g q 0) l) ?_ ⟨V,V,V,V,V,V,m⟩;clear m C;rintro q j l bJ ⟨t,u,B,Q,R,S,m⟩;obtain⟨j,rfl⟩:=n4 t u B Q R S;clear t u B Q R S;simp;refine fk (fun X=>?_) (fun X=>?_)
   ·simp only[bK] at X;obtain⟨o,aA,a4⟩:=aQ (l:=g.opsZ.l) (k:=q) F;have a5:=I.opsZ o a4;have ap:=ci (k:=q) F;have aY:bQ (.Z 11) (bA g.opsZ) _=_:=c8 aA;have aB:(aw o).length=11:=rfl;have aO:∀ h,(aw o)[1]'h=ah o.ax:=fun _=>rfl
    have bp:bD (.Z 32) (ah o.ax)=_:=b9 _;obtain⟨O,bd⟩:=al (aw o);rw[<-bd] at aY aB aO;have bv:av [U.int .u32 0,.ad,.int .u64 0,.int .u8 0,.str [],.int .u8 0,.i6 0,.int .u64 0,.str [],.int .u32 0,.int .u32 0] 0 O=O:=cD (by rw[aB];rfl);have bz:∀ c:aq,(l++[c])[l.length]?=some c:=fun c=>od
    simp[aY,aB,aO,bv,bp,aI];refine bB o.ax.l.length (fun K j l=>j 1=.ptr 0 0 2/\j 5=.mp G/\j 6=.Z 1 b 0 g.idsZ.l.length g.idsZ.l.length g.idsZ.l.length/\j 33=bA g.opsZ/\j 34=.i6 g.opsZ.l.length/\j 35=.i6 q/\j 40=ah o.ax/\j 41=.i6 o.ax.l.length/\j 42=.i6 K/\ou g G b (je g q K) l) ?_ ⟨V,V,V,V,V,V,V,V,V,m.more _⟩;clear m bz;rintro K j l bH ⟨t,u,B,Q,R,S,aJ,aK,aM,m⟩;obtain⟨j,rfl⟩:=Mq t u B Q R S aJ aK aM;clear t u B Q R S aJ aK aM;simp;refine fk (fun Y=>?_) (fun Y=>?_)
    ·simp only[bK] at Y;obtain⟨T,a6,a7⟩:=aQ (l:=o.ax.l) (k:=K) F;have a8:=a5.idsZ T a7;have aC:=bo a8;have bI:=a5.len;have bc:=ci (k:=K) F;obtain⟨i,ay⟩:=cp.1 (aE.Dx o a4 T a7);have bE:=(aL.1 ay).1;have aZ:bQ (.Z 32) (ah o.ax) _=_:=c8 a6;have aR:=m.more (.q 32 (ao T));have a0:=aR.p.look az a8 ay;obtain⟨bL,a9,aD,ae,W⟩:=aR.set (i:=i) (v:=false) (by rw[CH];omega);rw[RO az (by rw[jG aA];exact a6) ay] at W;obtain⟨P,H⟩:=al (ao T);rw[<-H] at aZ aC a0 ae;have bw:av (bZ 32 (U.int .u8 0)) 0 P=P:=cD (by rw[aC];rfl);simp[aZ,aC,bw,a0,aD,ae,bc,aI];exact⟨F,W⟩
    ·have bq:K=o.ax.l.length:=by simp at Y;omega
     have a1:=RN g q;rw[jG aA] at a1;rw[bq,a1] at m;simp[Y,ap];exact⟨F,m⟩
   ·have bs:q=g.opsZ.l.length:=by simp at X;omega
    rw[bs] at m;have C:=m.lA;simp[X,C];have bx:=m.w;refine Te g I (seen:=je g g.opsZ.l.length 0) (CH _ _ _) bx m.y2 (fun bM a9 a3=>?_);simp;have br:mS g.idsZ.l (je g g.opsZ.l.length 0) (je g g.opsZ.l.length 0).length=eU g:=by
     rw[CH,I8 g _ (aN _),e0];rfl
    rw[br] at a3;refine Wn ?_ (aP (by rw[D]) rfl);exact a3.rd cG (rv g) (by unfold rv;rw[ak D,n1]) (by unfold rv;rw[ak D,dh])
 ·have bi:rv g=none:=by unfold rv;rw[ai D]
  rw[bi];simp[D];exact aF
def h3 (l l' : ae) :Prop:=l.length<=l'.length/\∀ b,b<l.length->l'[b]?=l[b]?
theorem h3.refl (l:ae) :h3 l l:=⟨aN _,fun _ _=>rfl⟩
theorem h3.trans {l m n:ae} (h:h3 l m) (g:h3 m n) :h3 l n:=⟨dC h.1 g.1,fun b j=>by rw[g.2 b (nn j h.1),h.2 b j]⟩
def tl (f:cj) (o:ag) (l:ae) (xs:aR) (c:List B->Bool) :Prop:=
 ∀ m∈xs,∀ g,h3 l g->∀ h:cB,(∀ j,h3 g j->h (.bool (c m)) j)->cM f (.af (ao m) ::o) g h
theorem RY (s:b2) (aj:c5 s) (am:s.l.length<=1000000) {f:cj} {t:ag} {c:List B->Bool} (W:fJ prog f=true) {l:ae} (h:tl f t l s.l c) {K:cB}
  (G:∀ (n:Int) l',h3 l l'->(0<=n<->s.l.any c=true)->K (.i6 n) l') :cM 139 [ah s,.fn f [] t] l K:=by
 apply c1 func139 [];have ai:bD (.Z 32) (ah s)=_:=b9 _;simp[ai];refine bB s.l.length (fun k j v=>j 0=ah s/\j 1=.fn f [] t/\j 7=.i6 s.l.length/\j 8=.i6 k/\h3 l v/\∀ g y,g<k->s.l[g]?=some y->c y=false) ?_ ⟨V,V,V,V,h3.refl _,fun g _ q=>F⟩;rintro k j v hk ⟨w,z,C,D,p,P⟩;obtain⟨j,rfl⟩:=eO w z C D;clear w z C D;simp;refine fk (fun m=>?_) (fun m=>?_)
 ·simp only[bK] at m;obtain⟨x,Q,u⟩:=aQ (l:=s.l) (k:=k) F;have R:=bo (aj x u);have T:=ci (k:=k) F;have O:bQ (.Z 32) (ah s) _=_:=c8 Q;have I:=h x u v p;obtain⟨ak,U⟩:=al (ao x);rw[<-U] at O R I;simp[O,R,aI];refine⟨W,I _ fun ap J=>?_⟩;cases H:c x with
  | true=>
   simp;exact G _ _ (p.trans J) ⟨fun _=>s8.2 ⟨x,u,H⟩,fun _=>F⟩
  | false=>
   simp[T];refine⟨m,p.trans J,fun g y q o=>?_⟩;by_cases X:g=k
   ·rw[X,Q] at o;obtain rfl:=cc o;exact H
   ·exact P g y F o
 ·simp[m];have Y:k=s.l.length:=by simp at m;omega
  refine G _ _ p ⟨fun h=>F,fun h=>?_⟩;obtain⟨y,o,S⟩:=s8.1 h;obtain⟨g,q⟩:=cp.1 o;rw[P g y (by rw[Y];exact (aL.1 q).1) q] at S;cases S
theorem yz (s:b2) (q:c5 s) (t:s.l.length<=1000000) {f:cj} {g:ag} {c:List B->Bool} (o:fJ prog f=true) {l:ae} (h:tl f g l s.l c) {K:cB}
  (j:∀ l',h3 l l'->K (.bool (s.l.any c)) l') :cM 88 [ah s,.fn f [] g] l K:=by
 apply c1 func88 [];simp;refine RY s q t o h fun n l' m p=>?_
 simp;have:decide (0<=n)=s.l.any c:=by
  rw[xR,bK];exact p
 rw[this];exact j _ m
end Op
theorem Pd {P:bp} {G:Nat->U} {f:cj} {args args2:ag} {h m h' : aM} {r:U} (z:jU P G f args2 m r h') (wk:iO h m) (Q:args2.length=args.length)
  (D:∀ (j:Nat) (c g:U),args[j]?=some c->args2[j]?=some g->iN h m c g) :jU P G f args h r h':=by
 intro t B w muZ K rel v R I;refine (z t B w muZ K (wk.rel rel) (v.ext (wk.ext w muZ)) F (fun j g o q C=>?_)).mono ?_
 ·have O:=(aL.1 q).1;obtain⟨c,p⟩:∃ c,args[j]?=some c:=⟨_,bM F⟩
  exact wk.k3 rel (D j c g p q) (I j c o p C)
 ·rintro e w' ⟨o,muZ',rfl,u,J,H⟩;exact⟨o,muZ',rfl,(wk.ext w muZ).trans u,J,H⟩
theorem tD {P:bp} {G:Nat->U} (w:P.follows .mixedOrders=true) (p:∀ g,(G g).ar=true) {f:cj} {args args2:ag} {l m:ae} {K:cB} (wk:iO (aZ l) (aZ m)) (u:l.length<=m.length) (t:args2.length=args.length)
  (z:∀ (j:Nat) (c o:U),args[j]?=some c->args2[j]?=some o->iN (aZ l) (aZ m) c o) (h:fR P G f args2 m (c:=⟨K⟩)) :fR P G f args l (c:=⟨K⟩):=by obtain⟨r,B,q,v,hk⟩:=h;exact⟨r,B,.ext (Pd (sO w p q) wk t z),dC u v,hk⟩
namespace Op
theorem w6 {alZ:Type} {z:Nat} {enc:alZ->ag} {l:ae} {v:U} {j:Nat} {xs:List alZ} (s:b1 alZ) (h:aH z l v j (xs.map enc)) (o:bq v=s.isNone) (t:s.l=xs) :
  ∃ m,iO (aZ l) (aZ m)/\iN (aZ l) (aZ m) v (b4 z enc s)/\m.length=l.length/\∀ b,(v=.ad\/b≠j)->m[b]?=l[b]?:=by
 cases s with
 | none=>
  have g:v=.ad:=gk.1 (by rw[o];rfl);subst g;exact⟨l,⟨rfl,fun b=>.inl rfl⟩,.same _,rfl,fun b _=>rfl⟩
 | some a=>
  have g:bq v=false:=by rw[o];rfl
  have u:a=xs:=t;obtain⟨h1,p⟩:=uy h g;refine⟨l.set j .dead,h1,by rw[u];exact p,V,fun b q=>?_⟩;rcases q with e | e
  ·rw[e] at g;cases g
  ·exact bj (Ne.symm e)
end Op
namespace Op
open cl
theorem yj {alZ:Type} {enc:alZ->ag} {z by_:Nat} (l:ae) (b:Nat) (m:l[b]?=some (.q 0 [])) (s:b1 alZ) (h:∀ x∈s.l,(enc x).length=z) (j:z≠0) (t:by_≠0) (p:s.l.length*by_<=dj) :
  dZ l z by_ (.Z z b 0 0 0 0) (b4 z enc s)=some (.Z z b 0 s.l.length s.l.length (s.l.length*z),l.set b (.q (s.l.length*z) (s.l.map enc).flatten)):=by
 have v:=sb h;unfold dZ;rw[qO];simp only[];unfold hq;by_cases g:s.l.length=0
 ·have j:s.l=[]:=ho.1 g;rw[j];obtain⟨u,o⟩:=aL.1 m;have:l.set b (.q 0 [])=l:=by rw[<-o,Bo]
  simp[this]
 ·rw[ai g,ai F];have w:¬ s.l=[]:=fun h=>g (by rw[h];rfl)
  simp[p,g,m]
theorem Db (a:List B) :eM a a=false:=by
 cases h:eM a a with
 | false=>rfl
 | true=>rw[ib,lj] at h;omega
theorem ui (a b c:List B) (h1:eM a b=true) (g:eM b c=true) :eM a c=true:=(ib _ _).2 (oE a b c ((ib _ _).1 h1) ((ib _ _).1 g))
theorem IW (a b:List B) (g:a≠b) (h:eM a b=false) :eM b a=true:=by
 rw[ib,oD];rcases vW a b with h1 | h1 | h1
 ·rw[(ib a b).2 F] at h;cases h
 ·exact bV (oC h1) g
 ·omega
theorem o4 {l:aR} (h:b8 l=true) :l.Pairwise fun a b=>eM a b=true:=
 kq.2 fun i o g m j=>(ib _ _).2 (kg h j (bM g) (bM m))
theorem uz {l:aR} (h:l.Pairwise fun a b=>eM a b=true) :b8 l=true:=uI fun k hk h1=>by
 have g:=bM hk;have j:=bM (l:=l) (i:=k - 1) F;rw[dI g,dI j];exact (ib _ _).1 ((kq.1 h) (k - 1) k F hk F)
section
variable {alZ:Type} {z:Nat} {enc:alZ->ag}
def hd (s:b1 alZ) (k:Nat) :b1 alZ:=match s with | none=>none | some a=>some (a.take k)
def pa (s:b1 alZ) (k:Nat) :b1 alZ:=match s with | none=>none | some a=>some (a.drop k)
theorem pb (s:b1 alZ) (k:Nat) :(hd s k).l=s.l.take k:=by cases s<;>simp[hd]
theorem L0 (s:b1 alZ) (k:Nat) :(pa s k).l=s.l.drop k:=by cases s<;>simp[pa]
theorem AH {s:b1 alZ} {k:Nat} (h:k<=s.l.length) :dw (.Z z) (b4 z enc s) none (some (.i6 (k:Int))) none=some (b4 z enc (hd s k)):=by
 cases s with
 | none=>
  have:k=0:=by simpa using h
  subst this;rfl
 | some a=>exact EB (z:=z) (enc:=enc) (l:=a) (k:=.i64) (i:=(k:Int)) F (by have:k<=a.length:=h;omega)
theorem EP {s:b1 alZ} {k:Nat} (h:k<=s.l.length) :dw (.Z z) (b4 z enc s) (some (.i6 (k:Int))) none none=some (b4 z enc (pa s k)):=by
 cases s with
 | none=>
  have:k=0:=by simpa using h
  subst this;rfl
 | some a=>exact Ls (z:=z) (enc:=enc) (l:=a) (k:=.i64) (i:=(k:Int)) F (by have:k<=a.length:=h;omega)
theorem DQ {by_:Nat} {l:ae} {b c k:Nat} {s:b1 alZ} {x:alZ} (w:l[b]?=some (.q 0 [])) (I:l[c]?=some (.q z (enc x))) (H:b≠c) (hk:k<=s.l.length) (O:∀ y∈s.l,(enc y).length=z) (G:(enc x).length=z) (o:z≠0) (p:by_≠0) (u:(s.l.length+1)*by_<=dj) :
  dZ l z by_ (.Z z b 0 0 0 0) (b4 z enc (hd s k))=some (.Z z b 0 k k (k*z),l.set b (.q (k*z) ((s.l.take k).map enc).flatten)) ∧
  dZ (l.set b (.q (k*z) ((s.l.take k).map enc).flatten)) z by_ (.Z z b 0 k k (k*z)) (.Z z c 0 1 1 z)=some (.Z z b 0 (k+1) (k+1) ((k+1)*z),l.set b (.q ((k+1)*z) ((s.l.take k++[x]).map enc).flatten)) ∧
  dZ (l.set b (.q ((k+1)*z) ((s.l.take k++[x]).map enc).flatten)) z by_ (.Z z b 0 (k+1) (k+1) ((k+1)*z)) (b4 z enc (pa s k)) =
   some (.Z z b 0 (cX s.l k x).length (cX s.l k x).length ((cX s.l k x).length*z),l.set b (.q ((cX s.l k x).length*z) ((cX s.l k x).map enc).flatten)):=by
 have B:=a1 w;have j:(s.l.take k).length=k:=by rw[cL];omega
 have v:∀ y∈s.l.take k,(enc y).length=z:=fun y g=>O y (gy g)
 have J:k*by_<=dj:=dC (ck _ F) u;have K:(k+1)*by_<=dj:=dC (ck _ F) u;refine⟨?_,?_,?_⟩
 ·have:=yj (enc:=enc) (by_:=by_) l b w (hd s k) (by rw[pb];exact v) o p (by rw[pb,j];exact J);rw[pb,j] at this;exact this
 ·have:=Ge (l:=l.set b (.q (k*z) ((s.l.take k).map enc).flatten)) (z:=z) (by_:=by_) (b:=b) (n:=k) (m:=1) (sz:=k*z) (es:=(s.l.take k).map enc) (xs:=[enc x]) (x:=.Z z c 0 1 1 z)
   (bY B) (by simp[cq,bj H,I,G,aI]) (by rw[ce,j]) rfl rfl (fun e t=>by obtain⟨y,g,rfl⟩:=cE.1 t;exact v y g) o p K
  rw[this,Bp];simp
 ·have C:(pa s k).l.length=s.l.length - k:=by rw[L0,i1]
  have D:k+1+(s.l.length - k)=(cX s.l k x).length:=by rw[h9];omega
  have:=Ge (l:=l.set b (.q ((k+1)*z) ((s.l.take k++[x]).map enc).flatten)) (z:=z) (by_:=by_) (b:=b) (n:=k+1) (m:=s.l.length - k) (sz:=(k+1)*z) (es:=(s.l.take k++[x]).map enc) (xs:=(pa s k).l.map enc) (x:=b4 z enc (pa s k))
   (bY B) (by rw[qO,C]) (by rw[ce,cI,j];rfl) (by rw[ce,C]) rfl (fun e t=>by
    obtain⟨y,g,rfl⟩:=cE.1 t;rcases fE.1 g with h | h
    ·exact v y h
    ·rw[fQ.1 h];exact G) o p (by rw[D,h9];exact u)
  rw[this,Bp,D,L0,<-cV];unfold cX;simp
end
theorem vY (l:aR) (x:List B) :dS l x<=l.length:=by unfold dS;exact (List.takeWhile_sublist _).length_le
theorem yw {x:List B}:∀ {l:aR} {k:Nat} {y:List B},k<dS l x->l[k]?=some y->bP y x<0
 | [],k,y,_,h=>by simp at h
 | a::l,k,y,hk,h=>by
  unfold dS at hk;rw[Bq] at hk;by_cases g:bP a x<0
  ·cases k with
   | zero=>simp at h;subst h;exact g
   | succ k=>
    rw[b7 g] at hk;simp at hk h;exact yw (l:=l) (by unfold dS;exact hk) h
  ·rw[cu g] at hk;simp at hk
theorem yv {x:List B}:∀ {l:aR} {y:List B},l[dS l x]?=some y->¬ bP y x<0
 | [],y,h=>by simp at h
 | a::l,y,h=>by
  unfold dS at h;rw[Bq] at h;by_cases g:bP a x<0
  ·rw[b7 g] at h;simp at h;exact yv (l:=l) (by unfold dS;exact h)
  ·rw[cu g] at h;simp at h;subst h;exact g
theorem WG {l:aR} {x:List B} (h:b8 l=true) (C:x∉l) :b8 (cX l (dS l x) x)=true:=by
 have t:=o4 h;have G:=vY l x;refine uz ?_;unfold cX;have q:∀ y∈l.take (dS l x),eM y x=true:=fun y g=>by
  obtain⟨k,hk⟩:=cp.1 g;have z:=(aL.1 hk).1;rw[cL] at z;rw[dQ F] at hk;exact (ib _ _).2 (yw F hk)
 have p:∀ y∈l.drop (dS l x),eM x y=true:=fun y g=>by
  have H:=vj g;obtain⟨k,hk⟩:=cp.1 g;rw[gx] at hk;obtain⟨m,j,D⟩:=aQ (l:=l) (k:=dS l x) (by have:=(aL.1 hk).1;omega);have h1:eM x m=true:=IW m x (fun e=>C (by rw[<-e];exact D)) (by
   cases u:eM m x with
   | false=>rfl
   | true=>exact bV ((ib _ _).1 u) (yv j))
  by_cases w:k=0
  ·subst w;rw[nm,j] at hk;obtain rfl:=cc hk;exact h1
  ·exact ui _ _ _ h1 ((ib _ _).2 (kg h (show dS l x<dS l x+k by omega) j hk))
 rw[rH];refine⟨t.sublist (FF _ _),Bm.2 ⟨p,t.sublist (List.drop_sublist _ _)⟩,fun a o b v=>?_⟩;rcases kp.1 v with e | e
 ·rw[e];exact q a o
 ·exact ui _ _ _ (q a o) (p b e)
def jC (l:aR) (x:List B) :aR:=if l[dS l x]?=some x then l else cX l (dS l x) x
def k0 (l:aR) :Nat->aR
 | 0=>[]
 | k+1=>jC (k0 l k) (bx l k)
def uS (l:aR) :aR:=k0 l l.length
theorem R2 {l:aR} {x y:List B}:y∈jC l x<->y=x\/y∈l:=by
 unfold jC;split
 ·rename_i h;exact⟨.inr,fun g=>g.elim (fun e=>by rw[e];exact cJ h) id⟩
 ·exact jD
theorem R1 (l:aR) (x:List B) :(jC l x).length<=l.length+1:=by
 unfold jC;split
 ·omega
 ·rw[h9];omega
theorem PH {l:aR} (h:b8 l=true) {x:List B} (g:x∈l) :l[dS l x]?=some x:=by obtain⟨k,hk⟩:=cp.1 g;rw[B3 h hk];exact hk
theorem Is {l:aR} (h:b8 l=true) (x:List B) :b8 (jC l x)=true:=by
 unfold jC;split
 ·exact h
 ·rename_i g;exact WG h fun j=>g (PH h j)
theorem EF {l:aR} {y:List B}:∀ {k:Nat},k<=l.length->(y∈k0 l k<->y∈l.take k)
 | 0,_=>by simp[k0]
 | k+1,hk=>by
  obtain⟨x,g,_⟩:=aQ (l:=l) (k:=k) F;show y∈jC _ _<->_;rw[R2,EF F,ei,g,dI g,fE];simp;exact or_comm
theorem EE {l:aR}:∀ {k:Nat},(k0 l k).length<=k
 | 0=>by simp[k0]
 | k+1=>dC (R1 _ _) (by have:=EE (l:=l) (k:=k);omega)
theorem LF {l:aR}:∀ {k:Nat},b8 (k0 l k)=true
 | 0=>by unfold k0 b8;exact b7 fun k hk=>by simp at hk
 | k+1=>Is LF _
theorem LD {l:aR} {y:List B}:y∈uS l<->y∈l:=by unfold uS;rw[EF (aN _),e0]
theorem XP (l:aR) :b8 (uS l)=true:=LF
theorem L1 {alZ:Type} {l:List alZ} (h:l≠[]) :cK l=some l:=by cases l with | nil=>exact bV rfl h | cons=>rfl
theorem V9 (s:b2) (aW:c5 s) (bj:s.l.length<=1000000) :aU 127 [ah s] (ah (cK (uS s.l))):=by
 apply a2 func127 [[],[],cT 0 4++cT 5 5++[[11],[12],[13],[4,9,8],[10]]];have a9:=du;have aV:bD (.Z 32) (ah s)=_:=b9 _;simp;refine bB s.l.length (fun k m l=>m 0=ah s/\m 3=ah (cK (k0 s.l k))/\m 4=.i6 k) ?_ ⟨V,by simp[k0];rfl,V⟩;rintro k m l hk ⟨Q,R,S⟩;obtain⟨m,rfl⟩:=gF Q R S;clear Q R S;have aC:=ci (k:=k) F;by_cases J:k<s.l.length
 ·obtain⟨x,aZ,bd⟩:=aQ J;have az:=aW x bd;have o:=bo az;have aK:=cG x;have H:bQ (.Z 32) (ah s) _=_:=c8 aZ;have u:∀ y∈k0 s.l k,y.length=32:=fun y j=>aW y (gy ((EF (ks J)).1 j))
  have a7:=EE (l:=s.l) (k:=k);have ay:k0 s.l (k+1)=jC (k0 s.l k) x:=by show jC _ (bx s.l k)=_;rw[dI aZ]
  obtain⟨O,aD⟩:=al (cK (k0 s.l k));have aS:O.l=k0 s.l k:=by rw[aD,dh]
  have a6:cK O.l=O:=by rw[aS,aD]
  rw[<-aS] at u a7 ay;have W:bD (.Z 32) (ah O)=_:=b9 _;obtain⟨c,G⟩:=al (dS O.l x);have bh:c<=O.l.length:=by rw[G];exact vY _ _
  have a1:∀ (g:Nat) (y:List B),O.l[g]?=some y->bQ (.Z 32) (ah O) (.i6 (g:Int))=some (.b6 (ao y) 0):=fun g y j=>by simp[ah,j]
  obtain⟨X,D⟩:=al (ao x);rw[<-D] at o aK H;have v:X.take 32=X:=aI F;rw[<-aD];simp[aV,J];refine bB c (fun g m t=>t=l/\m 0=ah s/\m 3=ah O/\m 4=.i6 k/\m 5=.i6 g) ?_ ⟨rfl,V,V,V,V⟩;rintro g m t bi ⟨rfl,Q,R,S,aL⟩;obtain⟨m,rfl⟩:=eO Q R S aL;clear Q R S aL;have a3:=ci (k:=g) F;by_cases aT:g<c
  ·obtain⟨y,j,P⟩:=aQ (l:=O.l) (k:=g) F;have K:bP y x<0:=yw (by rw[<-G];exact aT) j;have aw:g<O.l.length:=F;have C:=bo (u y P);have Y:=cG y;have p:=xj y x (u y P) az;change aU _ [.af (ao y),.af (ao x)] _ at p;have w:=a1 g y j;rw[<-D] at p;obtain⟨aB,aE⟩:=al (ao y);rw[<-aE] at w C Y p;simp[W,aw,w,C,H,o,v,aI];refine au p (by simp[am,U.ar,aK,Y]) ?_;simp[K,a3];exact aT
  ·have ap:g=c:=F;have t1:dw (.Z 32) (ah O) none (some (.i6 (g:Int))) none=some (ah (hd O g)):=AH F;have t2:dw (.Z 32) (ah O) (some (.i6 (g:Int))) none none=some (ah (pa O g)):=EP F;obtain⟨I,T⟩:=al (cX O.l g x);obtain⟨bf,a4⟩:=al (((O.l.take g).map ao).flatten);obtain⟨bg,a5⟩:=al (((O.l.take g++[x]).map ao).flatten);have a0:∀ y∈O.l,(ao y).length=32:=fun y j=>bo (u y j)
   obtain⟨ag,aA,aj⟩:=DQ (enc:=ao) (z:=32) (by_:=32) (l:=t++[.q 0 [],.q 32 X]) (b:=t.length) (c:=t.length+1) (k:=g) (s:=O) (x:=x) V (by rw[D];simp) F F a0 (by rw[<-D];exact o) F F (by rw[a9];omega);change dZ _ _ _ _ (ah _)=_ at ag aj;have bc:∀ c:aq,(t++[aq.q 0 [],.q 32 X]).set t.length c=t++[c,.q 32 X]:=fun c=>V
   simp only[<-T,<-a4,<-a5,bc] at ag aA aj;have aR:∀ y∈I,(ao y).length=32:=fun y j=>by
    rw[T,jD] at j;rcases j with h | h
    ·rw[h,<-D];exact o
    ·exact a0 y h
   have aO:I≠[]:=fun h=>by have:=ch List.length h;rw[T,h9] at this;simp at this
   have aM:U.bu 32 (I.map ao)=ah (some I):=rfl;have aY:av (bZ 32 (.int .u8 0)) 0 X=X:=cD (by rw[o];rfl);by_cases aw:g<O.l.length
   ·obtain⟨y,j,P⟩:=aQ aw;have K:¬ bP y x<0:=yv (by rw[<-G,<-ap];exact j);have C:=bo (u y P);have Y:=cG y;have p:=xj y x (u y P) az;change aU _ [.af (ao y),.af (ao x)] _ at p;have w:=a1 g y j;have ax:=oN (u y P) az;have aG:¬ (g:Int)=O.l.length:=F;have aH:¬ g=O.l.length:=F;rw[<-D] at p ax;obtain⟨aB,aE⟩:=al (ao y);rw[<-aE] at w C Y p ax;simp[W,aw,w,C,H,o,v,aI];refine au p (by simp[am,U.ar,aK,Y]) ?_;by_cases ae:y=x
    ·have bb:jC O.l x=O.l:=by unfold jC;rw[<-G,<-ap,j,ae,ak rfl]
     have bk:¬ bP x x<0:=by rw[ae] at K;exact K
     have aJ:ea prog .neq 57 (.af aB) (.af X)=some (.bool false):=by rw[ax,b7 ae];rfl
     simp[K,W,aG,w,C,H,o,v,aI,aJ,aC];exact⟨J,by rw[ay,bb,a6]⟩
    ·have aF:jC O.l x=I:=by unfold jC;rw[<-G,<-ap,j,ai (fun h=>ae (cc h)),T]
     have aJ:ea prog .neq 57 (.af aB) (.af X)=some (.bool true):=by rw[ax,cu ae];rfl
     simp[K,W,aG,w,C,H,o,v,aI,aJ,t1,t2,aY,ag];refine bR.bm ?_;simp[aA,o,v];refine bR.bm ?_;simp[aj];refine bR.oH (by exact ly aR rfl V) rfl ?_;simp[aM,aC];exact⟨J,by rw[ay,aF,L1 aO]⟩
   ·have aG:(g:Int)=O.l.length:=F;have aH:g=O.l.length:=F;have aF:jC O.l x=I:=by unfold jC;rw[<-G,<-ap,ai,T];rw[dW F];simp
    rw[aH] at t1 t2 ag aA aj;simp[W,aH,H,o,v,t1,t2,aY,ag];refine bR.bm ?_;simp[aA,o,v];refine bR.bm ?_;simp[aj];refine bR.oH (by exact ly aR rfl V) rfl ?_;simp[aM,aC];exact⟨J,by rw[ay,aF,L1 aO]⟩
 ·have a8:k=s.l.length:=F;subst a8;simp[aV];exact aP rfl (bO _)
end Op
end Go.bh

/-
  Graphs: their shape, in the reference.
-/
import Derived.Test.YtdjbnhgdhambnaaGreatDoorUh
set_option maxHeartbeats 16000000
set_option maxRecDepth 100000
set_option linter.unusedVariables false
set_option linter.unusedSimpArgs false
set_option linter.unnecessarySimpa false
namespace Go.bl
open Go Go.Proofs Go.Proofs.Tryz
namespace Op
open cu
def pM (idsZ:aQ) (opsZ:List aJ) :Bool:=decide (∀ g∈opsZ,gV idsZ g.ax.l=true)
def jL (idsZ:aQ) (opsZ:List aJ) :Int:=if b8 idsZ=true then (if pM idsZ opsZ=true then (if (l9 idsZ opsZ).length=opsZ.length then 0 else 36) else 40) else 32
theorem Vw (g:aV) (m:eT g) (J:g.idsZ.l.length=g.opsZ.l.length) :aW 74 [cD g] (.i6 (jL g.idsZ.l g.opsZ.l)):=by
 apply a8 func74 [[],[[0],[3],[4],[5],[1,4],[2]]];have H:=bM g.idsZ;have ap:=im g.opsZ;have G:=np g;have O:bz (.Z 11) (bB g.opsZ)=_:=b6 _;have aw:=m.ji;have am:=DD g.idsZ m.idsZ m.li;simp[cD,bf];refine au am (by simp[aq,H]) ?_;by_cases o:b8 g.idsZ.l=true
 ·have I:=mG o;have S:=Vk g m J I;unfold cD bf at S G;simp[o];refine bx g.opsZ.l.length (fun k w l=>l=[.q 2 [ah g.idsZ,bB g.opsZ]]/\w 1=.ptr 0 0 2/\w 3=.i6 k/\∀ (p:Nat) (j:aJ),p<k->g.opsZ.l[p]?=some j->gV g.idsZ.l j.ax.l=true) ?_ V;rintro k w l hk ⟨rfl,C,D,T⟩;obtain⟨w,rfl⟩:=kh C D;clear C D;by_cases v:k<g.opsZ.l.length
  ·obtain⟨j,Q,u⟩:=aP v;have W:=cf (k:=k) F;have ad:bO (.Z 11) (bB g.opsZ) _=_:=c5 Q;have X:=zJ g.idsZ m.idsZ m.li j.ax (m.opsZ j u).idsZ (m.opsZ j u).len;have Y:=bM j.ax;simp[O,v,ad,av];refine au X (by simp[aq,H,Y]) ?_;by_cases t:gV g.idsZ.l j.ax.l=true
   ·simp[t,v,W];intro p ao z B;by_cases ag:p=k
    ·subst ag;rw[Q] at B;obtain rfl:=cd B;exact t
    ·exact T p ao F B
   ·rw[xF] at t;simp[t];refine aR (ci (U.int .i64) ?_) rfl;have al:¬ pM g.idsZ.l g.opsZ.l=true:=fun h=>by
     have:=iM h j u;rw[t] at this;cases this
    unfold jL;rw[ak o,aj al]
  ·have ai:k=g.opsZ.l.length:=F;have R:pM g.idsZ.l g.opsZ.l=true:=ca fun j u=>by
    obtain⟨p,z⟩:=cq.1 u;exact T p j (by rw[ai];exact (aK.1 z).1) z
   have ar:(l9 g.idsZ.l g.opsZ.l).length<=g.opsZ.l.length:=(wR g.idsZ.l g.opsZ.l J I _).2.1;have K:bz (.Z 1) (BU (cK (l9 g.idsZ.l g.opsZ.l)))=some (.i6 (l9 g.idsZ.l g.opsZ.l).length):=by unfold BU;rw[b6,dj]
   simp[O,v];refine au S (by simp[aq,G]) ?_;by_cases P:(l9 g.idsZ.l g.opsZ.l).length<g.opsZ.l.length
   ·simp[K,P];refine aR (ci (U.int .i64) ?_) rfl;unfold jL;rw[ak o,ak R,aj F]
   ·simp[K,P];refine aR (ci (U.int .i64) ?_) rfl;unfold jL;rw[ak o,ak R,ak F]
 ·rw[xF] at o;simp[o];refine aR (ci (U.int .i64) ?_) rfl;unfold jL;rw[o];rfl
def j5 (g:aV) (k:Nat) :Bool:=match g.opsZ.l[k]?,g.idsZ.l[k]? with
 | some h,some x=>decide (ei h=0)&&decide (bd h=x)
 | _,_=>true
def r2 (g:aV) :Bool:=decide (∀ k,k<g.opsZ.l.length->j5 g k=true)
theorem r3 (g:aV) :r2 g=true<->∀ k,k<g.opsZ.l.length->j5 g k=true:=by unfold r2;rw[bI]
def eY (g:aV) :Int:=if 60<g.opsZ.l.length then 4 else if g.idsZ.l.length=g.opsZ.l.length then (if r2 g=true then jL g.idsZ.l g.opsZ.l else 8) else 8
theorem v1 {g:aV} {k:Nat} {o:aJ} {x:List B} (h:g.opsZ.l[k]?=some o) (j:g.idsZ.l[k]?=some x) :j5 g k=(decide (ei o=0)&&decide (bd o=x)):=by unfold j5;rw[h,j]
theorem sP {o:aJ} (h:ei o=0) :de o=0:=by
 unfold ei at h;by_cases g:de o=0
 ·exact g
 ·rw[aj g] at h;exact h
theorem mF (o:aJ) :(bd o).length=32:=by
 unfold bd;split
 ·exact oT _
 ·simp
theorem U7 (g:aV) (o:eT g) :aW 29 [cD g] (.i6 (eY g)):=by
 apply a8 func29 [cR 0 13++cR 14 5++[[13,18,15]]];have aJ:=bM g.idsZ;have aK:=im g.opsZ;have W:=np g;have t:bz (.Z 11) (bB g.opsZ)=_:=b6 _;have Y:bz (.Z 32) (ah g.idsZ)=_:=b6 _;have aM:=o.ji;by_cases J:60<(g.opsZ.l.length:Int)
 ·simp[cD,bf,t,J];refine aR (ci (U.int .i64) ?_) rfl;unfold eY;rw[ak F]
 by_cases C:g.idsZ.l.length=g.opsZ.l.length
 ·have ao:=Vw g o C;unfold cD bf at ao W;have P:(g.idsZ.l.length:Int)=(g.opsZ.l.length:Int):=F;simp[cD,bf,t,Y,J,P];refine bx g.opsZ.l.length (fun k I l=>l=[.q 2 [ah g.idsZ,bB g.opsZ]]/\I 1=.ptr 0 0 2/\I 3=.i6 k/\∀ m,m<k->j5 g m=true) ?_ V;rintro k I l hk ⟨rfl,Q,R,ai⟩;obtain⟨I,rfl⟩:=kh Q R;clear Q R;by_cases p:k<g.opsZ.l.length
  ·obtain⟨j,ad,ag⟩:=aP p;obtain⟨x,ap,aw⟩:=aP (l:=g.idsZ.l) (k:=k) F;have O:=v1 ad ap;have ax:=cf (k:=k) F;have z:bO (.Z 11) (bB g.opsZ) _=_:=c5 ad;have X:bO (.Z 32) (ah g.idsZ) _=_:=c5 ap;have G:=zN j (o.opsZ j ag);have w:=du j;have H:=br (o.idsZ x aw);have D:(av j).length=11:=rfl;have T:¬ j5 g k=true->eY g=8:=fun h=>by
    unfold eY;rw[aj F,ak C,aj fun aB=>h ((r3 g).1 aB k p)]
   by_cases v:ei j=0
   ·have S:=sP v;have u:=DA j (o.opsZ j ag) (by have:=pL S;omega);have aC:bd j=gq (fZ j):=by unfold bd;rw[ak S]
    rw[<-aC] at u;have heq:=oE (mF j) (o.idsZ x aw);change aW 73 [.af (av j)] (.af (am (bd j))) at u;obtain⟨aF,ay⟩:=al (am (bd j));rw[<-ay] at u heq;rw[v] at G;obtain⟨aG,az⟩:=al (av j);obtain⟨aI,aA⟩:=al (am x);rw[<-az] at z G u w D;rw[<-aA] at X H heq;simp[t,p,z,D,aH];refine au G (by simp[aq,U.ar,w]) ?_;simp[D,X,H,z,aH];refine au u (by simp[aq,U.ar,w]) ?_;by_cases B:bd j=x
    ·simp[heq,B,p,ax,H,aH];intro m aD;by_cases aE:m=k
     ·subst aE;rw[O];simp[v,B]
     ·exact ai m F
    ·have K:¬ j5 g k=true:=fun h=>by rw[O] at h;simp[B] at h
     simp[heq,B,H,aH];exact aR (ci (U.int .i64) (T K).symm) rfl
   ·have K:¬ j5 g k=true:=fun h=>by rw[O] at h;simp[v] at h
    simp[t,p,z,D,aH];refine au G (by simp[aq,U.ar,w]) ?_;simp[v];exact aR (ci (U.int .i64) (T K).symm) rfl
  ·have aL:k=g.opsZ.l.length:=F;simp[t,p];refine au ao (by simp[aq,W]) ?_;simp;refine aR (ci (U.int .i64) ?_) rfl;unfold eY;rw[aj F,ak C,ak ((r3 g).2 fun m aD=>ai m F)]
 ·have P:¬ (g.idsZ.l.length:Int)=(g.opsZ.l.length:Int):=F;simp[cD,bf,t,Y,J,P];refine aR (ci (U.int .i64) ?_) rfl;unfold eY;rw[aj F,aj C]
def lZ (idsZ:aQ) (D:List Nat) (p:List B) :Nat:=(D.map fun a=>if p == bw idsZ a then 1 else 0).sum
def kf (idsZ:aQ) (D:List Nat) (L:aQ) :Nat:=(D.map fun a=>L.count (bw idsZ a)).sum
theorem Xx (idsZ:aQ) (D:List Nat) :kf idsZ D []=0:=by
 unfold kf
 induction D with
 | nil=>rfl
 | cons a D g=>rw[di,s7,g];rfl
theorem LC (idsZ:aQ) (p:List B) (L:aQ) :∀ D,kf idsZ D (p::L)=kf idsZ D L+lZ idsZ D p
 | []=>rfl
 | a::D=>by
  have g:=LC idsZ p L D;unfold kf lZ at g ⊢;rw[di,s7,di,s7,di,s7,g,List.count_cons];omega
theorem Es (idsZ:aQ) (D:List Nat) (a:Nat) (L:aQ) :kf idsZ (D++[a]) L=kf idsZ D L+L.count (bw idsZ a):=by unfold kf;rw[cS,List.sum_append];simp
theorem F0 {idsZ:aQ} (p:k7 idsZ) {i j:Nat} (o:i<idsZ.length) (q:j<idsZ.length) (h:bw idsZ i=bw idsZ j) :i=j:=by obtain⟨x,g,_⟩:=aP o;obtain⟨y,m,_⟩:=aP q;rw[dI g,dI m] at h;subst h;exact p i j x g m
theorem HU {idsZ:aQ} {p:List B}:∀ {D:List Nat},(∀ a∈D,bw idsZ a≠p)->lZ idsZ D p=0
 | [],_=>rfl
 | a::D,h=>by
  have g:=HU (idsZ:=idsZ) (p:=p) (D:=D) fun b m=>h b (by simp[m])
  have j:(p == bw idsZ a)=false:=by rw[beq_eq_false_iff_ne];exact Ne.symm (h a V)
  unfold lZ at g ⊢;rw[di,s7,g,j];rfl
theorem HT {idsZ:aQ} (u:k7 idsZ) {p:List B}:∀ {D:List Nat},D.Nodup->(∀ a∈D,a<idsZ.length)->lZ idsZ D p<=1/\(lZ idsZ D p=1<->∃ a∈D,bw idsZ a=p)
 | [],_,_=>⟨fR _,Iff.intro (fun h=>(by cases h)) (fun ⟨a,j,_⟩=>(by cases j))⟩
 | a::D,q,o=>by
  rw[u9] at q;obtain⟨C,F⟩:=HT (p:=p) u q.2 (fun b w=>o b (by simp[w]));by_cases h:bw idsZ a=p
  ·have v:lZ idsZ D p=0:=HU fun b t z=>q.1 (by rw[F0 u (o a V) (o b (by simp[t])) (h.trans z.symm)];exact t)
   have j:(p == bw idsZ a)=true:=by rw[h];simp
   have e:lZ idsZ (a::D) p=1:=by
    unfold lZ at v ⊢;rw[di,s7,v,j];rfl
   rw[e];exact⟨aN _,fun _=>⟨a,V,h⟩,fun _=>rfl⟩
  ·have j:(p == bw idsZ a)=false:=by rw[beq_eq_false_iff_ne];exact Ne.symm h
   have e:lZ idsZ (a::D) p=lZ idsZ D p:=by
    unfold lZ;rw[di,s7,j];simp
   rw[e];refine⟨C,F.trans ⟨fun ⟨b,g,m⟩=>⟨b,by simp[g],m⟩,fun ⟨b,g,m⟩=>?_⟩⟩;rw[kn] at g;rcases g with rfl | g
   ·exact bW m h
   ·exact⟨b,g,m⟩
theorem Et {idsZ:aQ} (u:k7 idsZ) {D:List Nat} (v:D.Nodup) (t:∀ a∈D,a<idsZ.length) :∀ L:aQ,kf idsZ D L<=L.length/\(kf idsZ D L=L.length<->∀ p∈L,∃ a∈D,bw idsZ a=p)
 | []=>by rw[Xx];exact⟨aN _,Iff.intro (fun _ p z=>by cases z) (fun _=>rfl)⟩
 | p::L=>by
  obtain⟨B,w⟩:=Et u v t L;obtain⟨h1,o⟩:=HT (p:=p) u v t;rw[LC,dN];refine⟨F,fun h=>?_,fun h=>?_⟩
  ·have j:kf idsZ D L=L.length:=F;have m:lZ idsZ D p=1:=F;intro q g;rw[kn] at g;rcases g with rfl | g
   ·exact o.1 m
   ·exact w.1 j q g
  ·have j:=w.2 fun q g=>h q (by simp[g])
   have m:=o.2 (h p V);omega
structure Bb (idsZ:aQ) (opsZ:List aJ) (g:List (List Nat)) :Prop where
 len:g.length=opsZ.length
 cnt:∀ (a:Nat) (row:List Nat),g[a]?=some row->∀ k,k<opsZ.length->row.count k=(dQ opsZ k).count (bw idsZ a)
 lt:∀ (a:Nat) (row:List Nat),g[a]?=some row->∀ k∈row,k<opsZ.length
structure oa (idsZ:aQ) (opsZ:List aJ) (row:List Nat) (d j:Nat) (R:List Nat) (W:List Int) :Prop where
 ls:R.Nodup
 lY:∀ k∈R,k<opsZ.length/\mr idsZ opsZ k
 dl:d<=R.length
 wl:W.length=opsZ.length
 w:∀ k,k<opsZ.length->W[k]?=some (((dQ opsZ k).length:Int) - kf idsZ (R.take d) (dQ opsZ k) - (row.take j).count k)
 r:∀ k,k<opsZ.length->(k∈R<->W[k]?=some 0)
theorem Sc {idsZ:aQ} {opsZ:List aJ} (az:idsZ.length=opsZ.length) (P:k7 idsZ) {G:List (List Nat)} (J:Bb idsZ opsZ G) {a:Nat} {row:List Nat} {d j:Nat} {R:List Nat} {W:List Int}
  (h:oa idsZ opsZ row d j R W) (H:R[d]?=some a) (T:G[a]?=some row) {k:Nat} (hk:row[j]?=some k) :
  ∃ x:Int,W[k]?=some x/\1<=x/\x<=(dQ opsZ k).length/\oa idsZ opsZ row d (j+1) (if x - 1=0 then R++[k] else R) (W.set k (x - 1)):=by
 have t:=J.lt a row T k (cJ hk);have K:=J.cnt a row T k t;have ay:=(aK.1 H).1;have U:R.take (d+1)=R.take d++[a]:=by rw[ej,H];rfl
 have am:(R.take (d+1)).Nodup:=List.Sublist.nodup (Fi _ _) h.ls;have v:∀ b∈R.take (d+1),b<idsZ.length:=fun b ad=>by have:=(h.lY b (gA ad)).1;omega
 obtain⟨av,aw⟩:=Et P am v (dQ opsZ k);rw[U,Es,<-K] at av;have ag:(row.take (j+1)).count k=(row.take j).count k+1:=by
  rw[ej,hk,u3];simp
 have ax:(row.take (j+1)).count k<=row.count k:=List.Sublist.count_le _ (Fi _ _);have C:=h.w k t;obtain⟨x,aq⟩:=al (((dQ opsZ k).length:Int) - kf idsZ (R.take d) (dQ opsZ k) - (row.take j).count k:Int);rw[<-aq] at C;have ar:1<=x:=F;have Q:k∉R:=fun z=>by
  have:=(h.r k t).1 z;rw[C] at this;have:=cd this;omega
 refine⟨x,C,ar,F,?_⟩;have S:k<W.length:=by rw[h.wl];exact t
 have ap:(if x - 1=0 then R++[k] else R).take d=R.take d:=by
  split
  ·rw[ik F]
  ·rfl
 have ao:x - 1=0->mr idsZ opsZ k:=fun o=>by
  have heq:kf idsZ (R.take (d+1)) (dQ opsZ k)=(dQ opsZ k).length:=by rw[U,Es,<-K];omega
  have I:=aw.1 heq;have O:∀ m,m<idsZ.length->idsZ[m]?=some (bw idsZ m):=fun m q=>by
   obtain⟨y,g,_⟩:=aP (l:=idsZ) q;rw[g,dI g]
  refine .mk k F (fun D B=>?_) fun D B au ai=>?_
  ·obtain⟨m,q,rfl⟩:=I D B;exact cJ (O m (v m q))
  ·obtain⟨m,q,rfl⟩:=I D B;rw[P au m _ ai (O m (v m q))];exact (h.lY m (gA q)).2
 refine⟨?_,fun y g=>?_,?_,by simpa using h.wl,fun y g=>?_,fun y g=>?_⟩
 ·split
  ·rw[Fg];refine⟨h.ls,V,fun u X aA Y e=>?_⟩;rw[gd] at Y;subst e;rw[Y] at X;exact Q X
  ·exact h.ls
 ·split at g
  ·rename_i o;rw[fx,gd] at g;rcases g with g | rfl
   ·exact h.lY y g
   ·exact⟨t,ao o⟩
  ·exact h.lY y g
 ·split
  ·simp;have:=h.dl;omega
  ·exact h.dl
 ·rw[ap,n0];by_cases p:k=y
  ·subst p;rw[ak rfl,ak S,ag];congr 1;omega
  ·rw[aj p,h.w y g,ej,hk,u3];have:([k] :List Nat).count y=0:=by rw[AP];simp[p]
   simp only[Option.toList_some,this,na]
 ·rw[n0];by_cases p:k=y
  ·subst p;rw[ak rfl,ak S];by_cases o:x - 1=0
   ·rw[ak o];simp[o]
   ·rw[aj o];exact⟨fun z=>bW z Q,fun ah=>bW (cd ah) o⟩
  ·rw[aj p,<-h.r y g];split
   ·rw[fx,gd];exact⟨fun h=>h.resolve_right (Ne.symm p),.inl⟩
   ·exact Iff.rfl
theorem R9 {idsZ:aQ} {opsZ:List aJ} {g:List (List Nat)} (m:Bb idsZ opsZ g) {a:Nat} {row q:List Nat} {d:Nat} {R:List Nat} {W:List Int}
  (h:oa idsZ opsZ row d row.length R W) (j:R[d]?=some a) (o:g[a]?=some row) :oa idsZ opsZ q (d+1) 0 R W:=by
 have p:R.take (d+1)=R.take d++[a]:=by rw[ej,j];rfl
 refine⟨h.ls,h.lY,(aK.1 j).1,h.wl,fun k hk=>?_,h.r⟩;rw[h.w k hk,p,Es,e3,m.cnt a row o k hk,m9,List.count_nil];congr 1;omega
theorem Sa {idsZ:aQ} {opsZ:List aJ} {row g:List Nat} {d:Nat} {R:List Nat} {W:List Int} (h:oa idsZ opsZ row d 0 R W) :oa idsZ opsZ g d 0 R W:=
 ⟨h.ls,h.lY,h.dl,h.wl,fun k hk=>by rw[h.w k hk,m9,m9],h.r⟩
theorem Sb {idsZ:aQ} {opsZ:List aJ} (o:idsZ.length=opsZ.length) :oa idsZ opsZ [] 0 0 ((List.range opsZ.length).filter fun k=>(dQ opsZ k).isEmpty) ((List.range opsZ.length).map fun k=>((dQ opsZ k).length:Int)):=by
 refine⟨List.Sublist.nodup kk AY,fun k hk=>?_,fR _,V,fun k hk=>?_,fun k hk=>?_⟩
 ·rw[dx,g5] at hk;have j:dQ opsZ k=[]:=xK.1 hk.2;exact⟨hk.1,.mk k F (fun m g=>by rw[j] at g;cases g) fun m g=>by rw[j] at g;cases g⟩
 ·rw[b1,ho hk];simp[kf]
 ·rw[dx,g5,b1,ho hk];simp only[cz,bc,hk,true_and,xK];constructor
  ·intro h;rw[h];rfl
  ·intro h;exact hp.1 F
theorem R8 {idsZ:aQ} {opsZ:List aJ} (F:idsZ.length=opsZ.length) (o:k7 idsZ) {row:List Nat} {R:List Nat} {W:List Int} (h:oa idsZ opsZ row R.length 0 R W) :
  R.length<=opsZ.length/\(R.length=opsZ.length<->(l9 idsZ opsZ).length=opsZ.length):=by
 have G:R.length<=opsZ.length:=by
  have:=pT (b:=List.range opsZ.length) h.ls fun x I=>g5.2 (h.lY x I).1
  simpa using this
 refine⟨G,?_⟩;rw[Df F o];constructor
 ·intro C i g;exact (h.lY i (IY h.ls C (fun i g=>(h.lY i g).1) i g)).2
 ·intro z;have D:∀ i,mr idsZ opsZ i->i<opsZ.length->i∈R:=by
   intro i m
   induction m with
   | mk i g H m J=>
    intro p;rw[h.r i p,h.w i p,e3];have B:=(Et o h.ls (fun a v=>by have:=(h.lY a v).1;omega) (dQ opsZ i)).2.2 fun u q=>by
     obtain⟨t,j⟩:=cq.1 (H u q);exact⟨t,J u q t j (by have:=(aK.1 j).1;omega),dI j⟩
    rw[B];simp
  have:=pT (a:=List.range opsZ.length) (b:=R) AY fun i g=>D i (z i (g5.1 g)) (g5.1 g)
  simp at this;omega
structure i8 (l:ad) (vs:ag) (g:List (List Nat)) (dd:Nat->Nat) :Prop where
 rg:vs.length=g.length
 own:∀ (a:Nat) (v:U) (row:List Nat),vs[a]?=some v->g[a]?=some row->aE 1 l v (dd a) (row.map fV)/\bo v=row.isEmpty/\(row=[]\/3<=dd a)
 apart:∀ (a b:Nat) (h j:List Nat),a≠b->g[a]?=some h->g[b]?=some j->h≠[]->j≠[]->dd a≠dd b
def lO (g:List (List Nat)) (dd:Nat->Nat) (b:Nat) :Prop:=∀ (a:Nat) (row:List Nat),g[a]?=some row->row≠[]->dd a≠b
theorem i8.lt {l:ad} {vs:ag} {g:List (List Nat)} {dd:Nat->Nat} (h:i8 l vs g dd) {a:Nat} {row:List Nat} (j:g[a]?=some row) (o:row≠[]) :dd a<l.length:=by
 have m:a<vs.length:=by rw[h.rg];exact (aK.1 j).1
 obtain⟨p,n,_⟩:=h.own a vs[a] row (bK m) j;rcases p.lt with h1 | h1
 ·rw[h1] at n;cases row with
  | nil=>exact bW rfl o
  | cons=>cases n
 ·exact h1
theorem i8.frame {l l' : ad} {vs:ag} {g:List (List Nat)} {dd:Nat->Nat} (h:i8 l vs g dd) (o:∀ b,b<l.length->(∃ a row,g[a]?=some row/\row≠[]/\dd a=b)->l'[b]?=l[b]?) :i8 l' vs g dd:=by
 refine⟨h.rg,fun a v row q m=>?_,h.apart⟩;obtain⟨t,n,u⟩:=h.own a v row q m;refine⟨?_,n,u⟩;by_cases j:row=[]
 ·subst j;have:=gm.1 n;subst this;exact .nil _
 ·exact t.frame fun p=>o _ p ⟨a,row,m,j,rfl⟩
theorem i8.more {l:ad} {vs:ag} {g:List (List Nat)} {dd:Nat->Nat} (h:i8 l vs g dd) (x:ad) :i8 (l++x) vs g dd:=h.frame fun b j _=>aU j
theorem i8.app {l:ad} {vs:ag} {m:List (List Nat)} {dd:Nat->Nat} (h:i8 l vs m dd) {a k b:Nat} {v:U} {row:List Nat} (ay:vs[a]?=some v) (J:m[a]?=some row) (ar:l[b]?=some (.q 1 [.i6 (k:Int)])) (aq:3<=l.length) (ax:(row.length+1)*8<=dk) :
  ∃ o l' ah,ea l 1 8 v (.Z 1 b 0 1 1 1)=some (o,l')/\i8 l' (vs.set a o) (m.set a (row++[k])) ah/\l.length<=l'.length/\o.cells=some [o] ∧
   ∀ c,c<l.length->lO m dd c->l'[c]?=l[c]?/\lO (m.set a (row++[k])) ah c:=by
 obtain⟨aB,n,aF⟩:=h.own a v row ay J;have Y:a<m.length:=(aK.1 J).1;obtain⟨D,aD,aH,T,ai⟩:∃ D,aE 1 l v D (row.map fV)/\3<=D/\(∀ u G,u≠a->m[u]?=some G->G≠[]->dd u≠D)/\∀ c,c<l.length->lO m dd c->D≠c:=by
  by_cases p:row=[]
  ·subst p;have:=gm.1 n;subst this;exact⟨l.length,.nil _,aq,fun u G _ j Q=>by have:=h.lt j Q;omega,fun c I _=>F⟩
  ·exact⟨dd a,aB,aF.resolve_left p,fun u G aw j Q=>h.apart u a G row aw j J Q p,fun c _ B=>B a row J p⟩
 obtain⟨o,aA,l',am,W,ao,X,H,ap⟩:=lR (by_:=8) aD (x:=.Z 1 b 0 1 1 1) (xs:=[fV k]) (by simp[cr,ar,fV]) (by simp[fV]) F F (by simpa using ax);have az:bo o=false:=by
  cases au:bo o with
  | true=>have:=(ap.1 (gm.1 au)).2;cases this
  | false=>rfl
 refine⟨o,l',fun x=>if x=a then aA else dd x,am,⟨by simp[h.rg],fun x w V K j=>?_,fun x y P al O t C z R=>?_⟩,ao,W.cells,fun c I B=>⟨X c I (fun e=>ai c I B e.symm),fun x P t z=>?_⟩⟩
 ·by_cases g:x=a
  ·subst g;rw[bV (by rw[h.rg];exact Y)] at K;rw[bV Y] at j;obtain rfl:=cd K;obtain rfl:=cd j;simp only[if_true];refine⟨by rw[cS];exact W,by rw[az];simp,.inr ?_⟩;rcases H with e | e<;>omega
  ·rw[bg (Ne.symm g)] at K j;simp only[aj g];obtain⟨aC,ak,aG⟩:=h.own x w V K j;refine⟨?_,ak,aG⟩;by_cases p:V=[]
   ·subst p;have:=gm.1 ak;subst this;exact .nil _
   ·exact aC.frame fun av=>X _ av (T x V g j p)
 ·by_cases g:x=a
  ·subst g;rw[bg O] at C;simp only[if_true,aj (Ne.symm O)];have:=h.lt C R;have:=T y al (Ne.symm O) C R;rcases H with e | e<;>omega
  ·rw[bg (Ne.symm g)] at t;simp only[aj g];by_cases S:y=a
   ·subst S;simp only[if_true];have:=h.lt t z;have:=T x P g t z;rcases H with e | e<;>omega
   ·rw[bg (Ne.symm S)] at C;simp only[aj S];exact h.apart x y P al O t C z R
 ·by_cases g:x=a
  ·subst g;simp only[if_true];have:=ai c I B;rcases H with e | e<;>omega
  ·rw[bg (Ne.symm g)] at t;simp only[aj g];exact B x P t z
def rQ (idsZ:aQ) (opsZ:List aJ) (m q a k:Nat) :Nat:=if k<m then (dQ opsZ k).count (bw idsZ a) else if k=m then ((dQ opsZ m).take q).count (bw idsZ a) else 0
structure ql (idsZ:aQ) (opsZ:List aJ) (m q:Nat) (g:List (List Nat)) :Prop where
 len:g.length=opsZ.length
 cnt:∀ (a:Nat) (row:List Nat),g[a]?=some row->∀ k,row.count k=rQ idsZ opsZ m q a k
 w9:∀ (a:Nat) (row:List Nat),g[a]?=some row->row.length<=5*m+q
theorem UB (idsZ:aQ) (opsZ:List aJ) :ql idsZ opsZ 0 0 (List.replicate opsZ.length []):=by
 refine⟨V,fun a row h k=>?_,fun a row h=>?_⟩
 ·have:=u5 (cJ h);subst this;simp[rQ]
 ·have:=u5 (cJ h);subst this;simp
theorem UC {idsZ:aQ} {opsZ:List aJ} (F:k7 idsZ) (G:idsZ.length=opsZ.length) {m q a:Nat} {t:List (List Nat)} {row:List Nat} {p:List B} (h:ql idsZ opsZ m q t) (H:(dQ opsZ m)[q]?=some p) (u:idsZ[a]?=some p) (v:t[a]?=some row) :
  ql idsZ opsZ m (q+1) (t.set a (row++[m])):=by
 have z:=(aK.1 v).1;have D:=(aK.1 u).1;have C:(dQ opsZ m).take (q+1)=(dQ opsZ m).take q++[p]:=by rw[ej,H];rfl
 refine⟨by simp[h.len],fun x w g k=>?_,fun x w g=>?_⟩
 ·by_cases o:x=a
  ·subst o;rw[bV z] at g;obtain rfl:=cd g;rw[u3,h.cnt x row v k];unfold rQ;by_cases h1:k<m
   ·rw[ak h1,ak h1,AP];have:(m == k)=false:=by rw[beq_eq_false_iff_ne];omega
    simp[this]
   ·rw[aj h1,aj h1];by_cases j:k=m
    ·subst j;rw[ak rfl,ak rfl,C,u3,dI u];simp
    ·rw[aj j,aj j,AP];have:(m == k)=false:=by rw[beq_eq_false_iff_ne];omega
     simp[this]
  ·rw[bg (Ne.symm o)] at g;rw[h.cnt x w g k];unfold rQ;by_cases h1:k<m
   ·rw[ak h1,ak h1]
   ·rw[aj h1,aj h1];by_cases j:k=m
    ·subst j;rw[ak rfl,ak rfl,C,u3,AP];have I:x<idsZ.length:=by rw[G,<-h.len];exact (aK.1 g).1
     have:(p == bw idsZ x)=false:=by
      rw[beq_eq_false_iff_ne];intro e;rw[<-dI u] at e;exact o (F0 F D I e).symm
     rw[this];simp
    ·rw[aj j,aj j]
 ·by_cases o:x=a
  ·subst o;rw[bV z] at g;obtain rfl:=cd g;have:=h.w9 x row v;simp;omega
  ·rw[bg (Ne.symm o)] at g;have:=h.w9 x w g;omega
theorem UA {idsZ:aQ} {opsZ:List aJ} {m:Nat} {vy:List (List Nat)} (h:ql idsZ opsZ m (dQ opsZ m).length vy) (p:(dQ opsZ m).length<=4) :ql idsZ opsZ (m+1) 0 vy:=by
 refine⟨h.len,fun a row g k=>?_,fun a row g=>by have:=h.w9 a row g;omega⟩;rw[h.cnt a row g k];unfold rQ;by_cases h1:k<m
 ·rw[ak h1,ak F]
 ·rw[aj h1];by_cases j:k=m
  ·subst j;rw[ak rfl,ak F,e3]
  ·rw[aj j,aj F];by_cases o:k=m+1
   ·rw[ak o];simp
   ·rw[aj o]
theorem Uz {idsZ:aQ} {opsZ:List aJ} {vy:List (List Nat)} (h:ql idsZ opsZ opsZ.length 0 vy) :Bb idsZ opsZ vy:=by
 refine⟨h.len,fun a row g k hk=>?_,fun a row g k hk=>?_⟩
 ·rw[h.cnt a row g k];unfold rQ;rw[ak hk]
 ·have h1:0<row.count k:=List.count_pos_iff.2 hk;rw[h.cnt a row g k] at h1;unfold rQ at h1;by_cases j:k<opsZ.length
  ·exact j
  ·rw[aj j] at h1;split at h1<;>simp at h1
def dR (opsZ:List aJ) (m:Nat) :List Int:=(List.range opsZ.length).map fun k=>if k<m then ((dQ opsZ k).length:Int) else 0
def hd (opsZ:List aJ) (m:Nat) :List Nat:=(List.range m).filter fun k=>(dQ opsZ k).isEmpty
theorem My (opsZ:List aJ) (m:Nat) :(dR opsZ m).length=opsZ.length:=by simp[dR]
theorem AB {opsZ:List aJ} {m k:Nat} (h:k<opsZ.length) :(dR opsZ m)[k]?=some (if k<m then ((dQ opsZ k).length:Int) else 0):=by unfold dR;rw[b1,ho h];rfl
theorem YW {opsZ:List aJ} {m:Nat} (h:m<opsZ.length) :(dR opsZ m).set m ((dQ opsZ m).length:Int)=dR opsZ (m+1):=by
 apply g3;intro j;by_cases g:j<opsZ.length
 ·rw[AB g,n0];by_cases o:m=j
  ·subst o;rw[ak rfl,ak (by rw[My];exact g),ak F]
  ·rw[aj o,AB g];by_cases h1:j<m
   ·rw[ak h1,ak F]
   ·rw[aj h1,aj F]
 ·rw[dY (by simp[dR];omega),dY (by simp[dR];omega)]
theorem YV (opsZ:List aJ) :dR opsZ opsZ.length=(List.range opsZ.length).map fun k=>((dQ opsZ k).length:Int):=by unfold dR;apply mn;intro k hk;rw[ak (g5.1 hk)]
theorem YX (opsZ:List aJ) :dR opsZ 0=List.replicate opsZ.length 0:=by
 apply g3;intro h;by_cases g:h<opsZ.length
 ·rw[AB g];simp[g]
 ·rw[dY (by simp[dR];omega),dY (by simp;omega)]
theorem Kk (opsZ:List aJ) (m:Nat) :hd opsZ (m+1)=hd opsZ m++(if (dQ opsZ m).isEmpty then [m] else []):=by
 unfold hd;rw[s5,lH];congr 1;by_cases h:(dQ opsZ m).isEmpty=true
 ·simp[h]
 ·simp[h]
def ht (n:Int) :U:=.i6 n
theorem Ld {l:ag} {i:Nat} {x:U} (h:i<l.length) :aw l i [x]=l.set i x:=by have:=mh (fun c:U=>c) l i x h;simpa using this
def cv (g:aV) (h:List Int) (vs:ag) (rest:ad) :ad:=.q 2 [ah g.idsZ,bB g.opsZ] ::.q g.opsZ.l.length (h.map ht) ::.q g.opsZ.l.length vs::rest
theorem pV {l:ad} {a b c:ao} (g:l[0]?=some a) (h1:l[1]?=some b) (h:l[2]?=some c) :∃ r,l=a::b::c::r:=by
 match l,g,h1,h with
 | j::m::o::r,g,h1,h=>
  simp at g h1 h;subst g h1 h;exact⟨r,rfl⟩
theorem tM {g:aV} {w w' : List Int} {vs j:ag} {r:ad}:∀ {b:Nat},3<=b->(cv g w vs r)[b]?=(cv g w' j r)[b]?
 | 0,h=>F
 | 1,h=>F
 | 2,h=>F
 | b+3,_=>rfl
theorem Cn {g:aV} {w:List Int} {vs:ag} {r x:ad} {b:Nat} (h:b<(cv g w vs r).length) :(cv g w vs (r++x))[b]?=(cv g w vs r)[b]?:=by show ((cv g w vs r)++x)[b]?=_;exact aU h
structure NM (g:aV) (m q:Nat) (jp:U) (l:ad) :Prop where
 ex:∃ (vs:ag) (h:List (List Nat)) (dd:Nat->Nat) (fL:Nat) (rest:ad),l=cv g (dR g.opsZ.l m) vs rest/\i8 l vs h dd/\ql g.idsZ.l g.opsZ.l m q h/\aE 1 l jp fL ((hd g.opsZ.l m).map fV) ∧
  bo jp=(hd g.opsZ.l m).isEmpty/\(hd g.opsZ.l m=[]\/(3<=fL/\lO h dd fL))
structure NL (g:aV) (m q:Nat) (jp:U) (b:Nat) (O:ag) (l:ad) :Prop where
 ex:∃ (vs:ag) (h:List (List Nat)) (dd:Nat->Nat) (fL:Nat) (rest:ad),l=cv g (dR g.opsZ.l m) vs rest/\i8 l vs h dd/\ql g.idsZ.l g.opsZ.l m q h/\aE 1 l jp fL ((hd g.opsZ.l m).map fV) ∧
  bo jp=(hd g.opsZ.l m).isEmpty/\(hd g.opsZ.l m=[]\/(3<=fL/\lO h dd fL))/\l[b]?=some (.q 11 O)/\3<=b/\lO h dd b
theorem uj {g:List (List Nat)} {l:ad} {vs:ag} {dd:Nat->Nat} {c:Nat} (h:i8 l vs g dd) (p:c<3) :lO g dd c:=fun a row j o=>by
 have m:a<vs.length:=by rw[h.rg];exact (aK.1 j).1
 have:=(h.own a vs[a] row (bK m) j).2.2.resolve_left o;omega
theorem wT {g:List (List Nat)} {l:ad} {vs:ag} {dd:Nat->Nat} {c:Nat} (h:i8 l vs g dd) (o:l.length<=c) :lO g dd c:=fun a row m j=>by
 have:=h.lt m j;omega
structure oc (g:aV) (vs:ag) (h:List (List Nat)) (dd:Nat->Nat) (W:List Int) (R:List Nat) (jp:U) (rest:ad) :Prop where
 ex:∃ fL,i8 (cv g W vs rest) vs h dd/\aE 1 (cv g W vs rest) jp fL (R.map fV)/\bo jp=R.isEmpty/\(R=[]\/(3<=fL/\lO h dd fL))
theorem oc.setW {g:aV} {vs:ag} {j:List (List Nat)} {dd:Nat->Nat} {W u:List Int} {R:List Nat} {t:U} {rest:ad} (h:oc g vs j dd W R t rest) :oc g vs j dd u R t rest:=by
 obtain⟨fL,m,z,p,o⟩:=h;refine⟨⟨fL,m.frame fun b C ⟨a,B,h1,v,w⟩=>tM (xP fun h=>uj m h a B h1 v w),?_,p,o⟩⟩;by_cases q:R=[]
 ·subst q;rw[gm.1 p];exact .nil _
 ·exact z.frame fun _=>tM (o.resolve_left q).1
theorem oc.push {g:aV} {vs:ag} {o:List (List Nat)} {dd:Nat->Nat} {W:List Int} {R:List Nat} {u:U} {rest:ad} (h:oc g vs o dd W R u rest) (m:Nat) (Q:(R.length+1)*8<=dk) :
  ∃ B jm,ea (cv g W vs (rest++[.q 1 [.i6 (m:Int)]])) 1 8 u (.Z 1 (rest.length+3) 0 1 1 1)=some (B,cv g W vs jm)/\oc g vs o dd W (R++[m]) B jm:=by
 obtain⟨fL,p,J,K,z⟩:=h;obtain⟨ir,X,al,C⟩:∃ ir,aE 1 (cv g W vs (rest++[.q 1 [.i6 (m:Int)]])) u ir (R.map fV)/\3<=ir/\lO o dd ir:=by
  by_cases t:R=[]
  ·subst t;rw[gm.1 K];exact⟨(cv g W vs (rest++[.q 1 [.i6 (m:Int)]])).length,.nil _,by simp[cv],wT p (by simp[cv])⟩
  ·exact⟨fL,J.more _,(z.resolve_left t).1,(z.resolve_left t).2⟩
 obtain⟨v,T,V,D,G,ah,j,w,H⟩:=lR (by_:=8) X (x:=.Z 1 (rest.length+3) 0 1 1 1) (xs:=[fV m]) (by simp[cr,cv,fV]) (by simp[fV]) F F (by simpa using Q);have aj:(cv g W vs (rest++[.q 1 [.i6 (m:Int)]])).length=rest.length+4:=by simp[cv]
 have ak:(cv g W vs rest).length=rest.length+3:=by simp[cv]
 obtain⟨jm,rfl⟩:∃ r,V=cv g W vs r:=pV ((j 0 F F).trans rfl) ((j 1 F F).trans rfl) ((j 2 F F).trans rfl);have S:bo v=false:=by
  cases P:bo v with
  | true=>have:=(H.1 (gm.1 P)).2;cases this
  | false=>rfl
 refine⟨v,jm,D,⟨⟨T,?_,?_,?_,.inr ⟨?_,?_⟩⟩⟩⟩
 ·exact p.frame fun b O ⟨a,Y,h1,I,ai⟩=>(j b F (fun e=>C a Y h1 I F)).trans (Cn O)
 ·rw[cS];exact G
 ·rw[S];simp
 ·rcases w with e | e<;>omega
 ·rcases w with e | e
  ·rw[e];exact C
  ·exact wT p F
theorem WR (g:aV) (aL:eT g) (bb:g.idsZ.l.length=g.opsZ.l.length) (eL:g.opsZ.l.length<=60) (bD:∀ o∈g.opsZ.l,o.ax.l.length<=4) :aW 275 [cD g] (.i6 (jL g.idsZ.l g.opsZ.l)):=by
 apply a8 func275 [];have bi:dk=140737488355328:=rfl;have dL:=bM g.idsZ;have dN:=im g.opsZ;have dK:=np g;have ch:bz (.Z 11) (bB g.opsZ)=_:=b6 _;have c4:bz (.Z 32) (ah g.idsZ)=some (.i6 g.opsZ.l.length):=by simp[ah,bb]
 simp[cD,bf];refine bx (g.opsZ.l.length - 1) (fun k p l=>l=[.q 2 [ah g.idsZ,bB g.opsZ]]/\p 1=.ptr 0 0 2/\p 3=.i6 ((k+1:Nat) :Int)/\∀ t,t<k+1->t<g.idsZ.l.length->1<=t->bQ (bw g.idsZ.l (t - 1)) (bw g.idsZ.l t)<0) ?_ ⟨V,V,V,fun t h1 _ w=>F⟩;rintro k p l hk ⟨rfl,u,bC,cn⟩;obtain⟨p,rfl⟩:=kh u bC;clear u bC;obtain⟨m,c8⟩:=al (k+1);rw[<-c8] at cn ⊢;by_cases c6:m<g.opsZ.l.length
 ·obtain⟨x,aF,di⟩:=aP (l:=g.idsZ.l) (k:=k) F;obtain⟨y,dj,dn⟩:=aP (l:=g.idsZ.l) (k:=m) F;have aJ:IntKind.i64.wrap ((m:Int) - 1)=(k:Int):=by rw[IntKind.wrap_i64];omega
  have aY:=cf (k:=m) F;have dp:=dI aF;have dq:=dI dj;have c2:bO (.Z 32) (ah g.idsZ) _=_:=c5 aF;have c3:bO (.Z 32) (ah g.idsZ) _=_:=c5 dj;have aS:=br (aL.idsZ x di);have dm:=br (aL.idsZ y dn);have a5:=qx x y (aL.idsZ x di) (aL.idsZ y dn);unfold eo at a5;change aW 162 [.af (am x),.af (am y)] _ at a5;have a6:=cG x;have cX:=cG y;obtain⟨X,b4⟩:=al (am x);obtain⟨eJ,dE⟩:=al (am y);rw[<-b4] at c2 aS a5 a6;rw[<-dE] at c3 dm a5 cX;simp[c4,c6,aJ,c2,c3,aS,dm,aH];refine au a5 (by simp[aq,U.ar,a6,cX]) ?_;by_cases cU:bQ x y<0
  ·have b9:¬ (0<=bQ x y):=F;simp[b9,aY];refine⟨F,fun t h1 w aA=>?_⟩;have aB:bQ (bw g.idsZ.l (t - 1)) (bw g.idsZ.l t)<0:=by
    by_cases a9:t=m
    ·rw[a9,show m - 1=k by omega,dp,dq];exact cU
    ·exact cn t F w aA
   simpa [bw] using aB
  ·have b9:0<=bQ x y:=F;simp[b9];refine aR (ci (U.int .i64) ?_) rfl;have ck:b8 g.idsZ.l=false:=KA (k:=m) F F (by rw[show m - 1=k by omega,dp,dq];exact cU);unfold jL;rw[ck];rfl
 ·have aM:b8 g.idsZ.l=true:=uw fun t h1 w=>cn t F h1 w
  have a9:=mG aM;obtain⟨cw,_⟩:=wD (z:=1) (by_:=8) (n:=g.opsZ.l.length) (k:=.i64) (k':=.i64) (zero:=[U.i6 0]) (l:=[ao.q 2 [ah g.idsZ,bB g.opsZ]]) rfl F (by rw[bi];omega);obtain⟨cx,_⟩:=wD (z:=1) (by_:=24) (n:=g.opsZ.l.length) (k:=.i64) (k':=.i64) (zero:=[U.ae]) (l:=[ao.q 2 [ah g.idsZ,bB g.opsZ],ao.q g.opsZ.l.length (List.replicate g.opsZ.l.length (U.i6 0))]) rfl F (by rw[bi];omega);simp only[n3,Kt (alZ:=Nat)] at cw cx;simp[c4,ch,c6,cw,cx];refine bx g.opsZ.l.length (fun m p l=>p 1=.ptr 0 0 2/\p 4=.Z 1 1 0 g.opsZ.l.length g.opsZ.l.length g.opsZ.l.length/\p 5=.Z 1 2 0 g.opsZ.l.length g.opsZ.l.length g.opsZ.l.length/\p 45=bB g.opsZ/\p 46=.i6 g.opsZ.l.length/\p 47=.i6 m ∧
   NM g m 0 (p 6) l/\∀ i,i<m->gV g.idsZ.l (dQ g.opsZ.l i)=true) ?_ ?_
  ·rintro m p l c8 ⟨u,G,D,a0,a2,a3,ad,cQ⟩;obtain⟨az,I⟩:∃ v,p 6=v:=⟨_,rfl⟩
   rw[I] at ad;obtain⟨p,rfl⟩:=xt u G D I a0 a2 a3;clear u G D I a0 a2 a3;by_cases aI:m<g.opsZ.l.length
   ·obtain⟨o,bS,bc⟩:=aP aI;have aJ:=cf (k:=m) F;have c0:bO (.Z 11) (bB g.opsZ) _=_:=c5 bS;have eg:=aL.opsZ o bc;have ef:=bD o bc;have aD:dQ g.opsZ.l m=o.ax.l:=mb bS;have cj:bz (.Z 32) (ah o.ax)=_:=b6 _;have bH:(av o).length=11:=rfl;have b0:∀ h:1<(av o).length,(av o)[1]'h=ah o.ax:=fun _=>rfl
    obtain⟨O,dy⟩:=al (av o);rw[<-dy] at c0 bH b0;have ei:aw [U.int .u32 0,.ae,.int .u64 0,.int .u8 0,.str [],.int .u8 0,.i6 0,.int .u64 0,.str [],.int .u32 0,.int .u32 0] 0 O=O:=cy (by rw[bH];rfl);simp[aI,c0,bH,b0,cj,ei,aH];obtain⟨bv,bI⟩:=al (l.length);rw[<-bI];refine bx o.ax.l.length (fun q p l=>p 1=.ptr 0 0 2/\p 4=.Z 1 1 0 g.opsZ.l.length g.opsZ.l.length g.opsZ.l.length/\p 5=.Z 1 2 0 g.opsZ.l.length g.opsZ.l.length g.opsZ.l.length/\p 6=az/\p 7=.i6 m/\p 8=.ptr bv 0 11/\p 45=bB g.opsZ/\p 46=.i6 g.opsZ.l.length/\p 47=.i6 m ∧
     p 53=ah o.ax/\p 54=.i6 o.ax.l.length/\p 55=.i6 q/\NL g m q az bv O l/\∀ (t:Nat) (ai:List B),t<q->o.ax.l[t]?=some ai->ai∈g.idsZ.l) ?_ ?_
    ·rintro q p l eW ⟨u,G,D,I,cH,cI,a0,a2,a3,cC,cE,cF,dx,dc⟩;obtain⟨p,rfl⟩:=X7 u G D I cH cI a0 a2 a3 cC cE cF;clear u G D I cH cI a0 a2 a3 cC cE cF;obtain⟨j,H,dd,fL,rest,rfl,Q,K,Y,P,ag,aG,cT,dJ⟩:=dx;by_cases bh:q<o.ax.l.length
     ·obtain⟨ai,bd,db⟩:=aP bh;have aY:=cf (k:=q) F;have c1:bO (.Z 32) (ah o.ax) _=_:=c5 bd;have da:=eg.idsZ ai db;have aS:=br da;have a6:=cG ai;have cb:=QH g aL aM ai da;unfold cD bf at cb dK;obtain⟨X,b4⟩:=al (am ai);rw[<-b4] at c1 aS a6 cb;have ej:aw (bZ 32 (.int .u8 0)) 0 X=X:=cy (by rw[aS];rfl);simp[cv,bh,c1,aS,ej,aH];refine au cb (by simp[aq,U.ar,a6,dL,dN]) ?_;by_cases bg:ai∈g.idsZ.l
      ·obtain⟨S,b5⟩:=cq.1 bg;have dM:=BF aM b5;have eO:=(aK.1 b5).1;have eP:S<g.opsZ.l.length:=F;have dh:j.length=g.opsZ.l.length:=by rw[Q.rg,K.len]
       obtain⟨bn,aQ,_⟩:=aP (l:=j) (k:=S) F;obtain⟨row,ay,_⟩:=aP (l:=H) (k:=S) (by rw[K.len];omega);obtain⟨ds,aC⟩:=al (cv g (dR g.opsZ.l m) j (rest++[.q 32 X,.q 1 [.i6 (m:Int)]]));have bF:i8 ds j H dd:=by rw[aC];exact Q.more _
       have eU:ds.length=rest.length+5:=by rw[aC];simp[cv]
       have dg:=K.w9 S row ay;obtain⟨i1,ct,dr,u,bA,bC,G,D⟩:=bF.app (b:=rest.length+4) (k:=m) aQ ay (by rw[aC];simp[cv]) F (by rw[bi];omega);have eE:=D 0 F (uj bF F);have q1:=D 1 F (uj bF F);have eF:=D 2 F (uj bF F);obtain⟨aT,rfl⟩:∃ r,ct=cv g (dR g.opsZ.l m) j r:=pV (eE.1.trans (by rw[aC];rfl)) (q1.1.trans (by rw[aC];rfl)) (eF.1.trans (by rw[aC];rfl));have bN:bO (.Z 1) (.Z 1 2 0 g.opsZ.l.length g.opsZ.l.length g.opsZ.l.length) (.i6 (S:Int))=some (.ptr 2 S g.opsZ.l.length):=by
        simp only[bO];rw[ak ⟨trivial,F,F⟩];simp
       rw[aC] at u;unfold cv at u;simp[bg,dM,bN,aQ,u];refine bP.bm ?_;have en:aw j S [i1]=j.set S i1:=Ld F;simp[G,bN,en];have cc:∀ c,3<=c->c<(cv g (dR g.opsZ.l m) j rest).length->lO H dd c->(cv g (dR g.opsZ.l m) (j.set S i1) aT)[c]?=(cv g (dR g.opsZ.l m) j rest)[c]?/\lO (H.set S (row++[m])) dr c:=by
        intro c aA cW bS;obtain⟨ew,ex⟩:=D c (by simp[cv] at cW;omega) bS;exact⟨(tM aA).trans (ew.trans (by rw[aC];exact Cn cW)),ex⟩
       have ce:hd g.opsZ.l m≠[]->fL<(cv g (dR g.opsZ.l m) j rest).length:=fun J=>by
        rcases Y.lt with h | h
        ·rw[h] at P;cases bE:hd g.opsZ.l m with
         | nil=>exact bW bE J
         | cons=>rw[bE] at P;cases P
        ·exact h
       have dH:=(aK.1 aG).1;obtain⟨f1,f2⟩:=cc bv cT dH dJ;refine⟨F,bh,by rw[IntKind.wrap_i64];omega,⟨⟨j.set S i1,H.set S (row++[m]),dr,fL,aT,rfl,?_,UC a9 bb K (by rw[aD];exact bd) b5 ay,?_,P,?_,f1.trans aG,cT,f2⟩⟩,fun t eA aB cl=>?_⟩
       ·exact bA.frame fun b aG ⟨a,bl,h1,w,aA⟩=>by
         have bD:3<=b:=xP fun h=>uj bA h a bl h1 w aA
         exact tM bD
       ·by_cases J:hd g.opsZ.l m=[]
        ·rw[J] at P Y ⊢;rw[gm.1 P];exact .nil _
        ·obtain⟨h1,w⟩:=ag.resolve_left J;exact Y.frame fun h=>(cc fL h1 (ce J) w).1
       ·by_cases J:hd g.opsZ.l m=[]
        ·exact .inl J
        ·obtain⟨h1,w⟩:=ag.resolve_left J;exact .inr ⟨h1,(cc fL h1 (ce J) w).2⟩
       ·by_cases dV:t=q
        ·subst dV;rw[bd] at cl;obtain rfl:=cd cl;exact bg
        ·exact dc t eA F cl
      ·simp[bg];refine aR (ci (U.int .i64) ?_) rfl;have ck:¬ pM g.idsZ.l g.opsZ.l=true:=fun h=>by
        have:=iM h o bc;exact bg (iM this ai db)
       unfold jL;rw[ak aM,aj ck]
     ·have de:q=o.ax.l.length:=F;rw[de] at K;rw[<-aD] at K;have cN:=UA K (by rw[aD];exact ef);have dh:j.length=g.opsZ.l.length:=by rw[Q.rg,K.len]
      have df:fN (cv g (dR g.opsZ.l m) j rest) (.ptr bv 1 11)=some (O,1):=by simp only[fN,aG];rfl
      have a7:bO (.Z 1) (.Z 1 1 0 g.opsZ.l.length g.opsZ.l.length g.opsZ.l.length) (.i6 (m:Int))=some (.ptr 1 m g.opsZ.l.length):=by
       simp only[bO];rw[ak ⟨trivial,F,F⟩];simp
      have cp:jM 1 (cv g (dR g.opsZ.l m) j rest) (.ptr 1 m g.opsZ.l.length) (.i6 o.ax.l.length)=some (cv g (dR g.opsZ.l (m+1)) j rest):=by
       have h1:(cv g (dR g.opsZ.l m) j rest)[1]?=some (.q g.opsZ.l.length ((dR g.opsZ.l m).map ht)):=rfl;simp only[jM,U.cells,h1];rw[ak (by simp;omega)];have w:aw ((dR g.opsZ.l m).map ht) m [U.i6 o.ax.l.length]=(dR g.opsZ.l (m+1)).map ht:=by
        rw[<-YW aI,aD];exact mh ht (dR g.opsZ.l m) m _ (by rw[My];exact aI)
       rw[w];rfl
      have bj:fN (cv g (dR g.opsZ.l (m+1)) j rest) (.ptr 1 m g.opsZ.l.length)=some ((dR g.opsZ.l (m+1)).map ht,m):=by
       have h1:(cv g (dR g.opsZ.l (m+1)) j rest)[1]?=some (.q g.opsZ.l.length ((dR g.opsZ.l (m+1)).map ht)):=rfl;simp only[fN,h1];simp
      have bL:((dR g.opsZ.l (m+1)).map ht)[m]?=some (.i6 o.ax.l.length):=by
       rw[b1,AB aI,ak F,aD];rfl
      have eR:∀ h:m<((dR g.opsZ.l (m+1)).map ht).length,((dR g.opsZ.l (m+1)).map ht)[m]'h=.i6 o.ax.l.length:=fun h=>(aK.1 bL).2
      have cM:O[1]?=some (ah o.ax):=by rw[bK (by rw[bH];omega),b0]
      have bG:i8 (cv g (dR g.opsZ.l (m+1)) j rest) j H dd:=Q.frame fun b aG ⟨a,bl,h1,w,aA⟩=>tM (xP fun h=>uj Q h a bl h1 w aA)
      have cO:aE 1 (cv g (dR g.opsZ.l (m+1)) j rest) az fL ((hd g.opsZ.l m).map fV):=by
       by_cases J:hd g.opsZ.l m=[]
       ·rw[J] at P ⊢;rw[gm.1 P];exact .nil _
       ·exact Y.frame fun _=>tM (ag.resolve_left J).1
      have cR:∀ i,i<m+1->gV g.idsZ.l (dQ g.opsZ.l i)=true:=fun i eS=>by
       by_cases dT:i=m
       ·subst dT;rw[aD];refine ca fun ai bd=>?_
        obtain⟨t,aB⟩:=cq.1 bd;exact dc t ai (by rw[de];exact (aK.1 aB).1) aB
       ·exact cQ i F
      by_cases R:o.ax.l.length=0
      ·have dZ:bz (.Z 32) (ah o.ax)=some (.i6 0):=by rw[cj,R];rfl
       have ek:jM 1 (cv g (dR g.opsZ.l m) j rest) (.ptr 1 m g.opsZ.l.length) (.i6 0)=some (cv g (dR g.opsZ.l (m+1)) j rest):=by rw[R] at cp;exact cp
       have dP:((dR g.opsZ.l (m+1)).map ht)[m]?=some (.i6 0):=by rw[R] at bL;exact bL
       have aO:hd g.opsZ.l (m+1)=hd g.opsZ.l m++[m]:=by
        rw[Kk,aD,hp.1 R];rfl
       obtain⟨ir,ey,eH,bp⟩:∃ ir,aE 1 (cv g (dR g.opsZ.l (m+1)) j (rest++[.q 1 [.i6 (m:Int)]])) az ir ((hd g.opsZ.l m).map fV)/\3<=ir/\lO H dd ir:=by
        by_cases J:hd g.opsZ.l m=[]
        ·rw[J] at P ⊢;rw[gm.1 P];exact⟨(cv g (dR g.opsZ.l (m+1)) j (rest++[.q 1 [.i6 (m:Int)]])).length,.nil _,by simp[cv],wT bG (by simp[cv])⟩
        ·exact⟨fL,cO.more _,(ag.resolve_left J).1,(ag.resolve_left J).2⟩
       have dg:(hd g.opsZ.l m).length<=m:=by
        have:=g4 (fun k=>(dQ g.opsZ.l k).isEmpty) (List.range m);simpa [hd] using this
       obtain⟨dt,et,ct,u,bA,bC,G,D,I⟩:=lR (by_:=8) ey (x:=.Z 1 (rest.length+3) 0 1 1 1) (xs:=[fV m]) (by simp[cr,cv,fV]) (by simp[fV]) F F (by rw[bi];simp;omega);have eV:(cv g (dR g.opsZ.l (m+1)) j (rest++[.q 1 [.i6 (m:Int)]])).length=rest.length+4:=by simp[cv]
       obtain⟨aT,rfl⟩:∃ r,ct=cv g (dR g.opsZ.l (m+1)) j r:=pV ((G 0 F F).trans rfl) ((G 1 F F).trans rfl) ((G 2 F F).trans rfl);have cm:cv g (dR g.opsZ.l (m+1)) j rest++[ao.q 1 [.i6 (m:Int)]]=cv g (dR g.opsZ.l (m+1)) j (rest++[.q 1 [.i6 (m:Int)]]):=rfl;have cg:(cv g (dR g.opsZ.l (m+1)) j rest).length=rest.length+3:=by simp[cv]
       simp[bh,df,cM,dZ,a7,ek,bj,dP,cm,cg,u];refine bP.bm ?_;simp;have er:bo dt=false:=by
        cases dS:bo dt with
        | true=>have:=(I.1 (gm.1 dS)).2;cases this
        | false=>rfl
       refine⟨aI,by rw[IntKind.wrap_i64];omega,⟨⟨j,H,dd,et,aT,rfl,?_,cN,?_,?_,.inr ⟨?_,?_⟩⟩⟩,cR⟩
       ·exact bG.frame fun b aG ⟨a,bl,h1,w,aA⟩=>(G b F (fun e=>bp a bl h1 w F)).trans (Cn aG)
       ·rw[aO,cS];exact bA
       ·rw[er,aO];simp
       ·rcases D with e | e<;>omega
       ·rcases D with e | e
        ·rw[e];exact bp
        ·exact wT bG F
      ·have aO:hd g.opsZ.l (m+1)=hd g.opsZ.l m:=by
        rw[Kk,aD];have:o.ax.l.isEmpty=false:=by cases bE:o.ax.l with | nil=>rw[bE] at R;exact bW rfl R | cons=>rfl
        rw[this];simp
       simp[bh,df,cM,cj,a7,cp,bj,bL,R];exact⟨aI,by rw[IntKind.wrap_i64];omega,⟨⟨j,H,dd,fL,rest,rfl,bG,cN,by rw[aO];exact cO,by rw[aO];exact P,by rw[aO];exact ag⟩⟩,cR⟩
    ·simp;obtain⟨j,H,dd,fL,rest,rfl,Q,K,Y,P,ag⟩:=ad;refine⟨⟨j,H,dd,fL,rest++[.q 11 O],rfl,Q.more _,K,Y.more _,P,ag,by rw[bI,eu (aN _)];simp,by rw[bI];simp[cv],wT Q (by rw[bI];exact aN _)⟩⟩
   ·have ea:m=g.opsZ.l.length:=F;subst ea;obtain⟨j,H,dd,ev,V2,rfl,cL,K,dz,dB,dA⟩:=ad;have bY:=Uz K;have dh:j.length=g.opsZ.l.length:=by rw[cL.rg,K.len]
    have c9:pM g.idsZ.l g.opsZ.l=true:=ca fun o bc=>by
     obtain⟨t,aB⟩:=cq.1 bc;have:=cQ t (aK.1 aB).1
     rwa [mb aB] at this
    have cK:=Sb (idsZ:=g.idsZ.l) (opsZ:=g.opsZ.l) bb;rw[<-YV] at cK;have dC:oc g j H dd (dR g.opsZ.l g.opsZ.l.length) (hd g.opsZ.l g.opsZ.l.length) az V2:=⟨⟨ev,cL,dz,dB,dA⟩⟩
    simp;refine bx g.opsZ.l.length (fun d p l=>p 1=.ptr 0 0 2/\p 4=.Z 1 1 0 g.opsZ.l.length g.opsZ.l.length g.opsZ.l.length/\p 5=.Z 1 2 0 g.opsZ.l.length g.opsZ.l.length g.opsZ.l.length/\p 13=.i6 d ∧
     ∃ W C rest,l=cv g W j rest/\oc g j H dd W C (p 6) rest/\oa g.idsZ.l g.opsZ.l [] d 0 C W) ?_ ?_
    ·rintro d p l eQ ⟨u,G,D,aZ,W,C,rest,rfl,ad,T⟩;obtain⟨az,I⟩:∃ v,p 6=v:=⟨_,rfl⟩
     rw[I] at ad;obtain⟨p,rfl⟩:=gv u G D I aZ;clear u G D I aZ;have b2:bz (.Z 1) az=some (.i6 C.length):=by obtain⟨fL,_,Y,_⟩:=ad;have:=Y.len;simpa using this
     have P:C.length<=g.opsZ.l.length:=by
      have:=pT (b:=List.range g.opsZ.l.length) T.ls fun x aF=>g5.2 (T.lY x aF).1
      simpa using this
     by_cases cY:d<C.length
     ·obtain⟨a,ap,dF⟩:=aP cY;have dG:=(T.lY a dF).1;have aJ:=cf (k:=d) F;obtain⟨row,ay,_⟩:=aP (l:=H) (k:=a) (by rw[K.len];exact dG);obtain⟨bn,aQ,_⟩:=aP (l:=j) (k:=a) F;obtain⟨fL,Q,Y,cP,ag⟩:=ad;obtain⟨eD,dv,eG,bq,bs,du,bX⟩:=Y.q.get (k:=.i64) (i:=d) (e:=fV a) (by rw[b1,ap];rfl);have bt:=one_cell (c:=.i6 (a:Int)) bX;have bN:bO (.Z 1) (.Z 1 2 0 g.opsZ.l.length g.opsZ.l.length g.opsZ.l.length) (.i6 (a:Int))=some (.ptr 2 a g.opsZ.l.length):=by
       simp only[bO];rw[ak ⟨trivial,F,F⟩];simp
      have bk:∀ bU cu,fN (cv g bU j cu) (.ptr 2 a g.opsZ.l.length)=some (j,a):=fun bU cu=>by
       have h1:(cv g bU j cu)[2]?=some (.q g.opsZ.l.length j):=rfl;simp only[fN,h1];simp
      have cs:=(Q.own a bn row aQ ay).1;have es:bz (.Z 1) bn=some (.i6 row.length):=by have:=cs.len;simpa using this
      have dg:=K.w9 a row ay;simp[b2,cY,bq,bs,bt,bN,bk,aQ,es];refine bx row.length (fun t p l=>p 1=.ptr 0 0 2/\p 4=.Z 1 1 0 g.opsZ.l.length g.opsZ.l.length g.opsZ.l.length/\p 5=.Z 1 2 0 g.opsZ.l.length g.opsZ.l.length g.opsZ.l.length/\p 13=.i6 d/\p 106=bn/\p 107=.i6 row.length/\p 108=.i6 t ∧
       ∃ W C rest,l=cv g W j rest/\oc g j H dd W C (p 6) rest/\oa g.idsZ.l g.opsZ.l row d t C W/\C[d]?=some a) ?_ ?_
      ·rintro t p l ce ⟨u,G,D,aZ,cz,cA,cB,W,C,rest,rfl,ad,T,ap⟩;obtain⟨az,I⟩:∃ v,p 6=v:=⟨_,rfl⟩
       rw[I] at ad;obtain⟨p,rfl⟩:=Au u G D I aZ cz cA cB;clear u G D I aZ cz cA cB;by_cases bR:t<row.length
       ·obtain⟨k,hk,dX⟩:=aP bR;have dY:=bY.lt a row ay k dX;obtain⟨x,aF,eX,eY,a4⟩:=Sc bb a9 bY T ap ay hk;have eZ:(dQ g.opsZ.l k).length<=4:=by
         obtain⟨ez,ec,ed⟩:=aP dY;rw[mb ec];exact bD ez ed
        have aJ:=cf (k:=t) F;have aY:IntKind.i64.wrap (x - 1)=x - 1:=by rw[IntKind.wrap_i64];omega
        obtain⟨fL,Q,Y,cP,ag⟩:=id ad;have cs:=(Q.own a bn row aQ ay).1;obtain⟨eD,dv,eG,bq,bs,du,bX⟩:=cs.q.get (k:=.i64) (i:=t) (e:=fV k) (by rw[b1,hk];rfl);have bt:=one_cell (c:=.i6 (k:Int)) bX;have a7:bO (.Z 1) (.Z 1 1 0 g.opsZ.l.length g.opsZ.l.length g.opsZ.l.length) (.i6 (k:Int))=some (.ptr 1 k g.opsZ.l.length):=by
         simp only[bO];rw[ak ⟨trivial,F,F⟩];simp
        have eN:=T.wl;have bj:fN (cv g W j rest) (.ptr 1 k g.opsZ.l.length)=some (W.map ht,k):=by
         have h1:(cv g W j rest)[1]?=some (.q g.opsZ.l.length (W.map ht)):=rfl;simp only[fN,h1];simp
        have cZ:(W.map ht)[k]?=some (.i6 x):=by rw[b1,aF];rfl
        have bT:jM 1 (cv g W j rest) (.ptr 1 k g.opsZ.l.length) (.i6 (x - 1))=some (cv g (W.set k (x - 1)) j rest):=by
         have h1:(cv g W j rest)[1]?=some (.q g.opsZ.l.length (W.map ht)):=rfl;simp only[jM,U.cells,h1];rw[ak (by simp;omega)];have w:aw (W.map ht) k [U.i6 (x - 1)]=(W.set k (x - 1)).map ht:=mh ht W k _ F;rw[w];rfl
        have bk:fN (cv g (W.set k (x - 1)) j rest) (.ptr 1 k g.opsZ.l.length)=some ((W.set k (x - 1)).map ht,k):=by
         have h1:(cv g (W.set k (x - 1)) j rest)[1]?=some (.q g.opsZ.l.length ((W.set k (x - 1)).map ht)):=rfl;simp only[fN,h1];simp
        have bJ:((W.set k (x - 1)).map ht)[k]?=some (.i6 (x - 1)):=by rw[b1,bV F];rfl
        have b3:oc g j H dd (W.set k (x - 1)) C az rest:=ad.setW;obtain⟨aX,dD⟩:=al (W.set k (x - 1));rw[<-dD] at bT bk bJ b3 a4;by_cases R:x - 1=0
        ·rw[ak R] at a4;have dw:IntKind.i64.wrap (x - 1)=0:=by rw[aY];exact R
         rw[R] at bT bJ;have eM:C.length<=g.opsZ.l.length:=by
          have:=pT (b:=List.range g.opsZ.l.length) T.ls fun x aF=>g5.2 (T.lY x aF).1
          simpa using this
         obtain⟨i1,aT,eB,eC⟩:=b3.push k (by rw[bi];omega);have cm:cv g aX j rest++[ao.q 1 [.i6 (k:Int)]]=cv g aX j (rest++[.q 1 [.i6 (k:Int)]]):=rfl;have cg:(cv g aX j rest).length=rest.length+3:=by simp[cv]
         simp[bR,bq,bs,bt,a7,bj,cZ,dw,bT,bk,bJ,cm,cg,eB];refine bP.bm ?_;simp[bR,aJ];exact⟨aX,C++[k],aT,rfl,eC,a4,by rw[aU (aK.1 ap).1];exact ap⟩
        ·rw[aj R] at a4;simp[bR,bq,bs,bt,a7,bj,cZ,aY,bT,bk,bJ,R,aJ];exact⟨aX,C,rest,rfl,b3,a4,ap⟩
       ·have dU:t=row.length:=F;subst dU;simp;exact⟨F,by rw[IntKind.wrap_i64];omega,W,C,rest,rfl,ad,R9 bY T ap ay⟩
      ·simp;exact⟨W,C,rest,rfl,⟨⟨fL,Q,Y,cP,ag⟩⟩,Sa T,ap⟩
     ·have dO:d=C.length:=by have:=T.dl;omega
      subst dO;obtain⟨eH,bp⟩:=R8 bb a9 T;by_cases c7:C.length<g.opsZ.l.length
      ·simp[b2,cv,ch,c7];refine aR (ci (U.int .i64) ?_) rfl;unfold jL;rw[ak aM,ak c9,aj (fun h=>by have:=bp.2 h;omega)]
      ·simp[b2,cv,ch,c7];refine aR (ci (U.int .i64) ?_) rfl;unfold jL;rw[ak aM,ak c9,ak (bp.1 F)]
    ·simp;exact⟨_,_,_,rfl,dC,cK⟩
  ·simp;refine⟨⟨List.replicate g.opsZ.l.length .ae,List.replicate g.opsZ.l.length [],fun _=>0,0,[],?_,⟨V,fun a v row ep eh=>?_,fun a b e0 e1 _ ap _ eb _=>?_⟩,UB _ _,.nil _,rfl,.inl rfl⟩⟩
   ·unfold cv;rw[YX,AW];rfl
   ·have h1:=u5 (cJ ep);have w:=u5 (cJ eh);subst h1 w;exact⟨.nil _,rfl,.inl rfl⟩
   ·exact bW (u5 (cJ ap)) eb
theorem Mj (g:aV) (o:eT g) :aW 252 [cD g] (.i6 (eY g)):=by
 apply a8 func252 [];have aX:=bM g.idsZ;have aY:=im g.opsZ;have az:=np g;have X:bz (.Z 11) (bB g.opsZ)=_:=b6 _;have aB:bz (.Z 32) (ah g.idsZ)=_:=b6 _;have a0:=o.ji;by_cases Q:60<(g.opsZ.l.length:Int)
 ·simp[cD,bf,X,Q];refine aR (ci (U.int .i64) ?_) rfl;unfold eY;rw[ak F]
 by_cases G:g.idsZ.l.length=g.opsZ.l.length
 ·have W:(g.idsZ.l.length:Int)=(g.opsZ.l.length:Int):=F;simp[cD,bf,X,aB,Q,W];refine bx g.opsZ.l.length (fun k p l=>(∃ rest,l=.q 2 [ah g.idsZ,bB g.opsZ] ::rest)/\p 1=.ptr 0 0 2/\p 19=bB g.opsZ/\p 20=.i6 g.opsZ.l.length/\p 21=.i6 k/\∀ m,m<k->j5 g m=true) ?_ V;rintro k p l hk ⟨⟨rest,rfl⟩,ag,ai,ao,ap,aD⟩;obtain⟨p,rfl⟩:=eO ag ai ao ap;clear ag ai ao ap;by_cases w:k<g.opsZ.l.length
  ·obtain⟨j,aC,J⟩:=aP w;obtain⟨x,P,aG⟩:=aP (l:=g.idsZ.l) (k:=k) F;have B:=v1 aC P;have aI:=cf (k:=k) F;have aA:bO (.Z 11) (bB g.opsZ) _=_:=c5 aC;have T:bO (.Z 32) (ah g.idsZ) _=_:=c5 P;have aF:=xw j (o.opsZ j J);have C:=uQ j (o.opsZ j J);change aW 97 [.af (av j)] (.a1 [.af (am (bd j)),.i6 (de j)]) at C;have S:=du j;have ad:=br (o.idsZ x aG);have t:=br (mF j);have H:(av j).length=11:=rfl;have heq:=oE (mF j) (o.idsZ x aG);have R:¬ j5 g k=true->eY g=8:=fun h=>by
    unfold eY;rw[aj F,ak G,aj fun aQ=>h ((r3 g).1 aQ k w)]
   obtain⟨O,aM⟩:=al (av j);obtain⟨aU,aO⟩:=al (am x);obtain⟨I,aL⟩:=al (am (bd j));rw[<-aM] at aA aF C S H;rw[<-aO] at T ad heq;rw[<-aL] at C heq t;have aT:aw [U.int .u32 0,.ae,.int .u64 0,.int .u8 0,.str [],.int .u8 0,.i6 0,.int .u64 0,.str [],.int .u32 0,.int .u32 0] 0 O=O:=cy (by rw[H];rfl);have Y:aw (bZ 32 (.int .u8 0)) 0 I=I:=cy (by rw[t];rfl);simp[w,aA,H,aT,aH];refine au C (by simp[aq,U.ar,S]) ?_;by_cases z:de j=0
   ·by_cases D:bd j=x
    ·simp[z,t,Y,T,ad,heq,D,H,aH];refine au aF (by simp[aq,U.ar,S]) ?_;by_cases K:ei j=0
     ·simp[K,w,aI];intro m v;by_cases aS:m=k
      ·subst aS;rw[B];simp[K,D]
      ·exact aD m F
     ·have u:¬ j5 g k=true:=fun h=>by rw[B] at h;simp[K] at h
      simp[K];exact aR (ci (U.int .i64) (R u).symm) rfl
    ·have u:¬ j5 g k=true:=fun h=>by rw[B] at h;simp[D] at h
     simp[z,t,Y,T,ad,heq,D,aH];exact aR (ci (U.int .i64) (R u).symm) rfl
   ·have u:¬ j5 g k=true:=fun h=>by
     rw[B,bU,bI] at h;exact z (sP h.1)
    simp[z,t,Y];exact aR (ci (U.int .i64) (R u).symm) rfl
  ·have aZ:k=g.opsZ.l.length:=F;have ay:r2 g=true:=(r3 g).2 fun m v=>aD m F
   have aJ:∀ j∈g.opsZ.l,j.ax.l.length<=4:=fun j J=>by
    obtain⟨m,v⟩:=cq.1 J;obtain⟨x,P,_⟩:=aP (l:=g.idsZ.l) (k:=m) (by have:=(aK.1 v).1;omega);have h1:=(r3 g).1 ay m (aK.1 v).1;rw[v1 v P,bU,bI] at h1;exact pL (sP h1.1)
   have aE:=WR g o G F aJ;unfold cD bf at aE az;simp[w];refine au aE (by simp[aq,az]) ?_;simp;refine aR (ci (U.int .i64) ?_) rfl;unfold eY;rw[aj F,ak G,ak ay]
 ·have W:¬ (g.idsZ.l.length:Int)=(g.opsZ.l.length:Int):=F;simp[cD,bf,X,aB,Q,W];refine aR (ci (U.int .i64) ?_) rfl;unfold eY;rw[aj F,aj G]
def py (o:aJ) :Bool:=decide (20<o.ax.l.length)||(decide (100<o.act.key.length)||decide (100<o.act.val.text.length))
theorem Vb (o:aJ) :aW 72 [.af (av o)] (.bool (py o)):=by
 apply a8 func72 [];unfold py;have m:bz (.Z 32) (ah o.ax)=_:=b6 _;by_cases h1:20<o.ax.l.length
 ·have g:(20:Int)<(o.ax.l.length:Int):=F;simp[av,m,h1,g];exact aL
 ·have g:¬ (20:Int)<(o.ax.l.length:Int):=F;by_cases p:100<o.act.key.length
  ·have h:(100:Int)<(o.act.key.length:Int):=F;simp[av,m,h1,g,p,h];exact aL
  ·have h:¬ (100:Int)<(o.act.key.length:Int):=F;simp[av,m,h1,g,p,h];refine aR (ci U.bool ?_) rfl;by_cases q:100<o.act.val.text.length
   ·have j:(100:Int)<(o.act.val.text.length:Int):=F;simp[q,j]
   ·have j:¬ (100:Int)<(o.act.val.text.length:Int):=F;simp[q,j]
def px (g:aV) :Bool:=decide (∃ h∈g.opsZ.l.take 71,py h=true)||(decide (16<g.opsZ.l.length/\g.opsZ.l.length<=60)||(decide (70<g.opsZ.l.length)||decide (70<g.idsZ.l.length)))
theorem Va (g:aV) :aW 28 [cD g] (.bool (px g)):=by
 apply a8 func28 [];have v:bz (.Z 11) (bB g.opsZ)=_:=b6 _;have T:bz (.Z 32) (ah g.idsZ)=_:=b6 _;simp[cD,bf];refine bx (min g.opsZ.l.length 71) (fun k G l=>l=[.q 2 [ah g.idsZ,bB g.opsZ]]/\G 1=.ptr 0 0 2/\G 3=.i6 k/\∀ (m:Nat) (h:aJ),m<k->g.opsZ.l[m]?=some h->py h=false) ?_ V;rintro k G l hk ⟨rfl,P,Q,O⟩;obtain⟨G,rfl⟩:=kh P Q;clear P Q;by_cases p:k<g.opsZ.l.length
 ·by_cases ao:k<=70
  ·obtain⟨h,J,D⟩:=aP p;have ad:=cf (k:=k) F;have S:bO (.Z 11) (bB g.opsZ) _=_:=c5 J;have Y:=Vb h;have R:=du h;have X:(av h).length=11:=rfl;have I:(k:Int)<=70:=F;have ap:k<min g.opsZ.l.length 71:=F;obtain⟨am,ag⟩:=al (av h);rw[<-ag] at S Y R X;simp[v,p,I,S,X,aH];refine au Y (by simp[aq,U.ar,R]) ?_;by_cases j:py h=true
   ·simp[j];refine aR (ci U.bool ?_) rfl;unfold px;rw[ca ⟨h,cJ (i:=k) (by rw[dS F];exact J),j⟩];rfl
   ·rw[xF] at j;simp[j,ad];refine⟨F,fun m ak o K=>?_⟩;by_cases aj:m=k
    ·subst aj;rw[J] at K;obtain rfl:=cd K;exact j
    ·exact O m ak F K
  ·have I:¬ (k:Int)<=70:=F;have W:¬ ∃ h∈g.opsZ.l.take 71,py h=true:=fun ⟨h,D,j⟩=>by
    obtain⟨m,o⟩:=cq.1 D;have H:=(aK.1 o).1;rw[cL] at H;rw[dS F] at o;rw[O m h F o] at j;cases j
   have t:(16:Int)<(g.opsZ.l.length:Int):=F;have z:¬ (g.opsZ.l.length:Int)<=60:=F;have u:(70:Int)<(g.opsZ.l.length:Int):=F;simp[v,p,I,t,z,u];refine aR (ci U.bool ?_) rfl;unfold px;simp[show 70<g.opsZ.l.length by omega]
 ·have W:¬ ∃ h∈g.opsZ.l.take 71,py h=true:=fun ⟨h,D,j⟩=>by
   obtain⟨m,o⟩:=cq.1 D;have H:=(aK.1 o).1;rw[cL] at H;rw[dS F] at o;rw[O m h F o] at j;cases j
  have ai:px g=(decide (16<g.opsZ.l.length/\g.opsZ.l.length<=60)||(decide (70<g.opsZ.l.length)||decide (70<g.idsZ.l.length))):=by
   unfold px;rw[ct W];rfl
  rw[ai];have d1:decide ((16:Int)<(g.opsZ.l.length:Int))=decide (16<g.opsZ.l.length):=by rw[decide_eq_decide];omega
  have d2:decide ((g.opsZ.l.length:Int)<=60)=decide (g.opsZ.l.length<=60):=by rw[decide_eq_decide];omega
  have d3:decide ((70:Int)<(g.opsZ.l.length:Int))=decide (70<g.opsZ.l.length):=by rw[decide_eq_decide];omega
  have d4:decide ((70:Int)<(g.idsZ.l.length:Int))=decide (70<g.idsZ.l.length):=by rw[decide_eq_decide];omega
  by_cases t:16<g.opsZ.l.length
  ·have w:(16:Int)<(g.opsZ.l.length:Int):=F;by_cases z:g.opsZ.l.length<=60
   ·have C:(g.opsZ.l.length:Int)<=60:=F;simp[v,p,t,w,z,C];exact aL
   ·have C:¬ (g.opsZ.l.length:Int)<=60:=F;by_cases u:70<g.opsZ.l.length
    ·have B:(70:Int)<(g.opsZ.l.length:Int):=F;simp[v,p,t,w,z,C,u,B];exact aL
    ·have B:¬ (70:Int)<(g.opsZ.l.length:Int):=F;simp[v,T,p,t,w,z,C,u,B];exact aR (ci U.bool d4) rfl
  ·have w:¬ (16:Int)<(g.opsZ.l.length:Int):=F;have u:¬ 70<g.opsZ.l.length:=F;have B:¬ (70:Int)<(g.opsZ.l.length:Int):=F;simp[v,T,p,t,w,u,B];exact aR (ci U.bool d4) rfl
def cw (o:aJ) :aJ:={ o with ax:=some o.ax.l }
theorem Aq {o:aJ} (h:dm o) :dm (cw o):=⟨h.idsZ,h.len,h.val,h.key⟩
theorem VC (o:aJ) (h:dm o) :aW 130 [.af (av o)] (.af (av (cw o))):=by
 apply a8 func130 [];have t:=ds;have w:=h.len;have j:∀ x∈o.ax.l,(am x).length=32:=fun x u=>br (h.idsZ x u)
 have g:=x4 (enc:=am) (by_:=32) [ao.q 11 (av o),ao.q 11 [.int .u32 0,.ae,.int .u64 0,.int .u8 0,.str [],.int .u8 0,.i6 0,.int .u64 0,.str [],.int .u32 0,.int .u32 0]] o.ax j F F (by rw[t];omega);have p:∀ x:b2,(ah x).cells=some [ah x]:=fun x=>by cases x<;>rfl
 have v:=bM (some o.ax.l);simp only[av,ah,dN,hq,iK,h0] at g;simp[av,ah,g];refine bP.oz (by exact lv j rfl rfl) rfl ?_;have m:U.bu 32 (o.ax.l.map am)=ah (some o.ax.l):=rfl;simp[m,p,aw];exact aR rfl (show (U.af (av (cw o))).ar=true by have:=du (cw o);simpa [U.ar] using this)
def cI (g:aV) :aV:=⟨some g.idsZ.l,cK (g.opsZ.l.map cw)⟩
theorem Ap {g:aV} (h:eT g) :eT (cI g):=by
 refine⟨h.idsZ,fun p j=>?_,h.li,?_⟩
 ·unfold cI at j;simp only[dj] at j;obtain⟨o,m,rfl⟩:=cC.1 j;exact Aq (h.opsZ o m)
 ·unfold cI;simp only[dj];simpa using h.ji
theorem zM (g:aV) (z:eT g) :aW 128 [cD g] (cD (cI g)):=by
 apply a8 func128 [cR 0 7++[[7,1]]];have ai:=ds;have X:bz (.Z 11) (bB g.opsZ)=_:=b6 _;have aS:=z.ji;have aT:=z.li;have ak:∀ x∈g.idsZ.l,(am x).length=32:=fun x aM=>br (z.idsZ x aM)
 have R:=x4 (enc:=am) (by_:=32) [ao.q 2 (bf g),ao.q 2 [.ae,.ae]] g.idsZ ak F F (by rw[ai];omega);have aF:∀ x:b2,(ah x).cells=some [ah x]:=fun x=>by cases x<;>rfl
 have aA:=bM (some g.idsZ.l);simp only[bf,ah,dN,hq,iK,h0] at R;simp[cD,bf,ah,R];refine bP.oz (by exact lv ak rfl rfl) rfl ?_;have aB:U.bu 32 (g.idsZ.l.map am)=ah (some g.idsZ.l):=rfl;simp[aB,aF,aw];refine bx g.opsZ.l.length (fun k p l=>p 1=.ptr 0 0 2/\p 2=.ptr 1 0 2/\p 3=.ptr 3 0 2/\p 4=.i6 k/\∃ j o rest,l=.q 2 [ah g.idsZ,bB g.opsZ] ::.q 2 [.ae,.ae] ::.dead::.q 2 [ah (some g.idsZ.l),j] ::rest ∧
  aE 11 l j o (((g.opsZ.l.take k).map cw).map av)/\(j=.ae\/4<=o)/\bo j=(g.opsZ.l.take k).isEmpty) ?_ ?_
 ·rintro k p l hk ⟨J,K,O,P,j,o,rest,rfl,G,W,Y⟩;obtain⟨p,rfl⟩:=eO J K O P;clear J K O P;by_cases B:k<g.opsZ.l.length
  ·obtain⟨m,ad,aG⟩:=aP B;have ay:=cf (k:=k) F;have V:bO (.Z 11) (bB g.opsZ) _=_:=c5 ad;have H:=VC m (z.opsZ m aG);have S:=du m;have ag:(av m).length=11:=rfl;have u:(av (cw m)).length=11:=rfl;have aj:g.opsZ.l.take (k+1)=g.opsZ.l.take k++[m]:=by rw[ej,ad];rfl
   obtain⟨aO,c2,aU,C,D,ap,ax⟩:=rK (by_:=112) (pre:=[.q 2 [ah g.idsZ,bB g.opsZ],.q 2 [.ae,.ae],.dead,.q 2 [ah (some g.idsZ.l),j]]) (rest:=rest++[.q 11 (av (cw m))]) (G.more _) W (x:=.Z 11 (rest.length+1+1+1+1) 0 1 1 11) (xs:=[av (cw m)])
    (by simp[cr,u,aH]) (by simp[u]) F F (by rw[ai];simp;omega)
   obtain⟨aQ,az⟩:=al (av m);obtain⟨T,Q⟩:=al (av (cw m));rw[<-az] at V H S ag;rw[<-Q] at H u C D;have aK:aw [U.int .u32 0,.ae,.int .u64 0,.int .u8 0,.str [],.int .u8 0,.i6 0,.int .u64 0,.str [],.int .u32 0,.int .u32 0] 0 T=T:=cy (by rw[u];rfl);have aL:=D.cells;simp only[iK,h0] at C;simp[X,B,V,ag,aH];refine au H (by simp[aq,U.ar,S]) ?_;simp[u,aK,C];refine bP.bm ?_;simp[aL,aw,ay];have aJ:List.take (k+1) (List.map (av ∘ cw) g.opsZ.l)=((g.opsZ.l.take k).map cw).map av++[T]:=by rw[<-i3,aj];simp[Q]
   have I:bo aO=false:=by rw[ax];simp
   have aC:4<=c2:=by
    rcases ap with h | h
    ·rw[h] at I;cases I
    ·simpa using h
   refine⟨B,c2,?_,.inr aC,by rw[I,aj];simp⟩;rw[aJ];refine D.cl (.inr ?_);obtain⟨v,rfl⟩:∃ v,c2=v+4:=⟨c2 - 4,F⟩
   rfl
  ·have aD:k=g.opsZ.l.length:=F;simp[X,B];rw[aD,e3] at G Y;have aI:Rd (ao.q 2 [ah g.idsZ,bB g.opsZ] ::ao.q 2 [ah (some g.idsZ.l),j] ::ao.dead::ao.q 2 [ah (some g.idsZ.l),j] ::rest) j (bB (cK (g.opsZ.l.map cw))):=by
    refine (G.cl (l':=ao.q 2 [ah g.idsZ,bB g.opsZ] ::ao.q 2 [ah (some g.idsZ.l),j] ::ao.dead::ao.q 2 [ah (some g.idsZ.l),j] ::rest) ?_).q.gG (fun x=>du x) (cK (g.opsZ.l.map cw)) (by rw[Y,nR];simp) (dj _);rcases W with h | h
    ·exact .inl h
    ·right;obtain⟨v,rfl⟩:∃ v,o=v+4:=⟨o - 4,F⟩
     rfl
   refine .af _ _ rfl fun o c aR t w=>?_
   rcases o with _ | _ | o
   ·simp[bf,cI] at t w;subst t w;exact .same _ aA
   ·simp[bf,cI] at t w;subst t w;exact aI
   ·simp at t
 ·simp;exact⟨.ae,⟨rfl,rfl⟩,0,.nil 0,.inl rfl,rfl⟩
def gp (a b:aJ) :Bool:=decide (a.eL=b.eL)&&(decide (a.ax.l=b.ax.l)&&(decide (a.fa=b.fa)&&(dz (e7 a.act) (e7 b.act)&&(decide (a.e=b.e)&&decide (a.s=b.s)))))
theorem CF:mK prog 20 53=some [.i .u32,.i .u32]:=bp
theorem zZ (a b c d:D) :eb prog .eql 53 (.af [bh a,bh b]) (.af [bh c,bh d])=some (.bool (decide (a=c)&&decide (b=d))):=by rw[vA CF bp bp rfl rfl];simp[dz,U.beq]
theorem zL (a b:aJ) (o:dm a) (p:dm b) :aW 71 [.af (av a),.af (av b)] (.bool (gp a b)):=by
 apply a8 func71 [];unfold gp;have q:=bM a.ax;have t:=bM b.ax;have u:=sD a.ax b.ax o.idsZ p.idsZ o.len;have g:=xZ a.act b.act;have v:=zZ a.e a.s b.e b.s;have w:(ah a.ax).cells=some [ah a.ax]:=by cases a.ax<;>rfl
 have z:(ah b.ax).cells=some [ah b.ax]:=by cases b.ax<;>rfl
 unfold e7 at g ⊢;simp[av];by_cases h1:a.eL=b.eL
 ·simp[h1];refine au u (by simp[aq,q,t]) ?_;by_cases h:a.ax.l=b.ax.l
  ·by_cases j:a.fa=b.fa
   ·cases m:dz [a7 a.act.kind,.str a.act.key,a7 a.act.val.kind,.i6 a.act.val.num,c7 a.act.val.bits,.str a.act.val.text] [a7 b.act.kind,.str b.act.key,a7 b.act.val.kind,.i6 b.act.val.num,c7 b.act.val.bits,.str b.act.val.text] with
    | false=>
     rw[m] at g;simp[h1,h,j,g];exact aL
    | true=>
     rw[m] at g;simp[h1,h,j,g,v];exact aL
   ·simp[h1,h,j];exact aL
  ·simp[h1,h];exact aL
 ·simp[h1];exact aL
theorem KV (a:aJ) :gp a a=true:=by unfold gp;simp[e7,dz,U.beq]
def hU (l:List aJ) (k:Nat) :aJ:=l.getD k ⟨0,none,0,⟨0,[],⟨0,0,0,[]⟩⟩,0,0⟩
theorem jD {l:List aJ} {k:Nat} {o:aJ} (h:l[k]?=some o) :hU l k=o:=by unfold hU;rw[gx,h];rfl
def kS (a b:aV) :Bool:=decide (a.idsZ.l=b.idsZ.l)&&(decide (a.opsZ.l.length=b.opsZ.l.length)&&decide (∀ k,k<a.opsZ.l.length->gp (hU a.opsZ.l k) (hU b.opsZ.l k)=true))
theorem Vr (a b:aV) (u:eT a) (J:eT b) :aW 26 [cD a,cD b] (.bool (kS a b)):=by
 apply a8 func26 [];have ak:=bM a.idsZ;have am:=bM b.idsZ;have ao:=sD a.idsZ b.idsZ u.idsZ J.idsZ u.li;have v:bz (.Z 11) (bB a.opsZ)=_:=b6 _;have T:bz (.Z 11) (bB b.opsZ)=_:=b6 _;have aB:=u.ji;simp[cD,bf];refine au ao (by simp[aq,ak,am]) ?_;by_cases h1:a.idsZ.l=b.idsZ.l
 ·by_cases w:a.opsZ.l.length=b.opsZ.l.length
  ·have D:(a.opsZ.l.length:Int)=(b.opsZ.l.length:Int):=F;simp[h1,v,T,w];refine bx a.opsZ.l.length (fun k t l=>l=[.q 2 [ah a.idsZ,bB a.opsZ],.q 2 [ah b.idsZ,bB b.opsZ]]/\t 2=.ptr 0 0 2/\t 3=.ptr 1 0 2/\t 5=.i6 k/\∀ g,g<k->gp (hU a.opsZ.l g) (hU b.opsZ.l g)=true) ?_ V;rintro k t l hk ⟨rfl,z,B,C,ag⟩;obtain⟨t,rfl⟩:=gJ z B C;clear z B C;by_cases o:k<a.opsZ.l.length
   ·obtain⟨j,W,ax⟩:=aP o;obtain⟨m,Y,ay⟩:=aP (l:=b.opsZ.l) (k:=k) F;have aj:=cf (k:=k) F;have R:bO (.Z 11) (bB a.opsZ) _=_:=c5 W;have S:bO (.Z 11) (bB b.opsZ) _=_:=c5 Y;have ai:=zL j m (u.opsZ j ax) (J.opsZ m ay);have O:=du j;have P:=du m;have X:(av j).length=11:=rfl;have ad:(av m).length=11:=rfl;have I:=jD W;have K:=jD Y;obtain⟨az,G⟩:=al (av j);obtain⟨Q,H⟩:=al (av m);rw[<-G,<-H] at ai;rw[<-G] at R O X;rw[<-H] at S P ad;simp[v,o,R,S,X,ad,aH];refine au ai (by simp[aq,U.ar,O,P]) ?_;by_cases p:gp j m=true
    ·simp[p,o,aj];intro g ap;by_cases aw:g=k
     ·subst aw;rw[I,K];exact p
     ·exact ag g F
    ·rw[xF] at p;simp[p];refine aR (ci U.bool ?_) rfl;unfold kS;rw[ct (fun h:∀ k,k<a.opsZ.l.length->gp (hU a.opsZ.l k) (hU b.opsZ.l k)=true=>by
      have:=h k o;rw[I,K,p] at this;cases this)]
     simp
   ·have aA:k=a.opsZ.l.length:=F;simp[v,o];refine aR (ci U.bool ?_) rfl;unfold kS;rw[ca h1,ca w,ca fun g ap=>ag g F];rfl
  ·have D:¬ (a.opsZ.l.length:Int)=(b.opsZ.l.length:Int):=F;simp[h1,v,T,D];refine aR (ci U.bool ?_) rfl;unfold kS;rw[ct w];simp
 ·simp[h1];refine aR (ci U.bool ?_) rfl;unfold kS;rw[ct h1];simp
structure vl (g:aV) :Prop where
 n60:g.opsZ.l.length<=60
 len:g.idsZ.l.length=g.opsZ.l.length
 HO:∀ (k:Nat) (o:aJ) (x:List B),g.opsZ.l[k]?=some o->g.idsZ.l[k]?=some x->ei o=0/\bd o=x
 b8:b8 g.idsZ.l=true
 Db:∀ o∈g.opsZ.l,∀ p∈o.ax.l,p∈g.idsZ.l
 all:∀ i,i<g.opsZ.l.length->mr g.idsZ.l g.opsZ.l i
theorem kO {g:aV} (h:eY g=0) :vl g:=by
 unfold eY at h;split at h
 ·cases h
 ·rename_i C;split at h
  ·rename_i j;split at h
   ·rename_i q;unfold jL at h;split at h
    ·rename_i o;split at h
     ·rename_i u;split at h
      ·rename_i v;refine⟨F,j,fun k p x m z=>?_,o,fun p t B w=>?_,(Df j (mG o)).1 v⟩
       ·have:=(r3 g).1 q k (aK.1 m).1;rw[v1 m z,bU,bI,bI] at this;exact this
       ·exact iM (iM u p t) B w
      ·cases h
     ·cases h
    ·cases h
   ·cases h
  ·cases h
def mN (idsZ:aQ) (seen:List Bool) (k:Nat) :aQ:=(List.range k).flatMap fun i=>if seen.getD i false=true then [bw idsZ i] else []
theorem CU (idsZ:aQ) (seen:List Bool) (k:Nat) :mN idsZ seen (k+1)=mN idsZ seen k++(if seen.getD k false=true then [bw idsZ k] else []):=by unfold mN;rw[s5,xH];simp
theorem IK (idsZ:aQ) (seen:List Bool) :∀ k,(mN idsZ seen k).length<=k
 | 0=>by simp[mN]
 | k+1=>by
  have:=IK idsZ seen k;rw[CU,cF];split<;>simp<;>omega
theorem F8:∀ l:List B,dz (l.map a7) (l.map a7)=true
 | []=>rfl
 | x::l=>by
  have h1:U.beq (a7 x) (a7 x)=true:=by simp[U.beq]
  show (U.beq (a7 x) (a7 x)&&dz (l.map a7) (l.map a7))=true;rw[h1,F8 l];rfl
theorem Om (x:List B) :U.beq (.af (am x)) (.af (am x))=true:=F8 x
theorem B6 {x:List B} (h:x.length=32) :kK prog 57 (.af (am x))=true:=by
 have h1:pC prog 8 57=true:=bp;have g:dE prog 57=some true:=bp;have j:b9 prog 57=some 32:=bp;have m:(x.map a7).all qX=true:=by rw[gc];intro c o;obtain⟨b,_,rfl⟩:=cC.1 o;rfl
 show (pC prog 8 57&&(match dE prog 57,b9 prog 57 with | some true,some p=>Nat.beq (x.map a7).length p | _,_=>false)&&(x.map a7).all qX)=true;rw[h1,g,j,m,cg,h];rfl
theorem IC:∀ {a b:List B},a.map (fun x=>u x)=b.map (fun x=>u x)<->a=b
 | [],[]=>V
 | [],_::_=>V
 | _::_,[]=>V
 | x::a,y::b=>by
  rw[di,di,List.cons.injEq,List.cons.injEq,IC (a:=a) (b:=b)];simp
theorem Qm {a b:List B} (g:a.length=32) (j:b.length=32) {D:Nat}:dL prog (D+2) 57 (.af (am a)) (.af (am b))=some (decide (a=b)):=by have h:=Qn (P:=prog) (t:=57) (e:=5) (k:=.u8) (n:=32) bp bp bp bp (x:=a.map fun x=>u x) (y:=b.map fun x=>u x) (by simp[g]) (by simp[j]) (D:=D);rw[iL,iL] at h;unfold am;rw[show a.map a7=a.map (U.int .u8 ∘ fun x=>u x) from rfl,show b.map a7=b.map (U.int .u8 ∘ fun x=>u x) from rfl,h];simp only[IC]
inductive qf:Nat->List (U × U × Nat)->aQ->Prop
 | nil (b:Nat) :qf b [] []
 | cons {b:Nat} {g:List (U × U × Nat)} {b5:aQ} {k:List B} (n:Nat) (hk:k.length=32) (h:qf (b+1) g b5) :qf b ((.af (am k),.int .i64 (b:Int),n) ::g) (k::b5)
theorem qf.snoc {b:Nat} {es:List (U × U × Nat)} {b5:aQ} (h:qf b es b5) {k:List B} (hk:k.length=32) (n:Nat) :qf b (es++[(.af (am k),.i6 ((b+b5.length:Nat) :Int),n)]) (b5++[k]):=by
 induction h with
 | nil b=>exact .cons n hk (.nil _)
 | @cons b es b5 m o j h g=>
  refine .cons o j ?_;rw[show b+1+b5.length=b+(m::b5).length by simp;omega] at g;exact g
theorem Hq {x:List B} (q:x.length=32) {b:Nat} {es:List (U × U × Nat)} {b5:aQ} (h:qf b es b5) :∀ c,(∀ i,b5[i]?=some x->(∀ j,j<i->b5[j]?≠some x)->j3 prog 57 (.af (am x)) es c=some (some (c+i,.i6 ((b+i:Nat) :Int))))/\(x∉b5->j3 prog 57 (.af (am x)) es c=some none):=by
 induction h with
 | nil b=>intro c;exact⟨fun i h=>by simp at h,fun _=>rfl⟩
 | @cons b es b5 k n hk h t=>
  intro c;unfold j3;rw[B6 hk];simp only;rw[show dL prog 10000 57 (.af (am x)) (.af (am k))=some (decide (x=k)) from Qm q hk (D:=9998)];by_cases m:x=k
  ·subst m;simp only[n5,Om];refine⟨fun i g o=>?_,fun h=>bW V h⟩;cases i with
   | zero=>rfl
   | succ i=>exact bW rfl (o 0 F)
  ·simp only[m,vf];obtain⟨h1,p⟩:=t (c+1);refine⟨fun i g o=>?_,fun h=>p (fun h'=>h (by simp[h']))⟩;cases i with
   | zero=>simp at g;exact bW g.symm m
   | succ i=>
    rw[h1 i (by simpa using g) (fun j u=>by have:=o (j+1) F;simpa using this)];rw[show c+1+i=c+(i+1) by omega,show b+1+i=b+(i+1) by omega]
structure k8 (l:ad) (j:Nat) (b5:aQ) :Prop where
 e:∃ es kx,l[j]?=some (.map es kx)/\qf 0 es b5
theorem k8.look {l:ad} {j:Nat} {b5:aQ} (h:k8 l j b5) (t:k7 b5) {x:List B} (m:x.length=32) {i:Nat} (g:b5[i]?=some x) :ww prog l 57 (.i6 0) false (.mp j) (.af (am x))=some (.i6 (i:Int)):=by
 obtain⟨es,v,h1,o⟩:=h.e;have p:tY l (.mp j)=some es:=by simp[tY,h1]
 unfold ww;rw[p];simp only[B6 m];rw[(Hq m o 0).1 i g (fun u w q=>by have:=t u i x q g;omega)];simp
theorem k8.put {l:ad} {j:Nat} {b5:aQ} (h:k8 l j b5) {x:List B} (g:x.length=32) (q:x∉b5) :∃ c,sd prog l 57 (.mp j) (.af (am x)) (.i6 (b5.length:Int))=some (l.set j c)/\(∀ l' : ad,l'[j]?=some c->k8 l' j (b5++[x])):=by obtain⟨t,o,h1,m⟩:=h.e;unfold sd;simp only[h1,B6 g,(Hq g m 0).2 q];exact⟨_,rfl,fun l' p=>⟨_,_,p,by have:=m.snoc g o;rw[hJ] at this;exact this⟩⟩
theorem k8.frame {l l' : ad} {j:Nat} {b5:aQ} (h:k8 l j b5) (p:l'[j]?=l[j]?) :k8 l' j b5:=by obtain⟨m,g,h1,o⟩:=h.e;exact⟨m,g,by rw[p,h1],o⟩
theorem k8.lt {l:ad} {j:Nat} {b5:aQ} (h:k8 l j b5) :j<l.length:=by obtain⟨m,g,h1,o⟩:=h.e;exact (aK.1 h1).1
theorem SH {P:bq} {g:aY->U} {l:ad} {o:aY} {k:cV} {n:Int} (h:g o=.int k n) :bT P g l (.tZ (some o))=some (.mp l.length,l++[.map [] 0]):=by show (match asInt (g o) with | some _=>some (U.mp l.length,l++[ao.map [] 0]) | none=>none)=_;rw[h];rfl
theorem UE (g:aV) (G:eT g) (Y:k7 g.idsZ.l) {l:ad} {K:cA} (R:∀ j l',k8 l' j g.idsZ.l->l.length<=j->(∀ c,c<l.length->l'[c]?=l[c]?)->l.length<=l'.length->K (.mp j) l') :
  cM 276 [cD g] l K:=by
 apply c0 func276 [];have ax:=G.li;have I:bz (.Z 32) (ah g.idsZ)=_:=b6 _;simp[cD,bf,I];rw[SH (k:=.i64) (n:=g.idsZ.l.length) V];simp[I];refine bx g.idsZ.l.length (fun k h l'=>h 3=.mp (l.length+1)/\h 11=ah g.idsZ/\h 12=.i6 g.idsZ.l.length/\h 13=.i6 k/\k8 l' (l.length+1) (g.idsZ.l.take k)/\(∀ c,c<l.length->l'[c]?=l[c]?)) ?_ ?_
 ·rintro k h l' hk ⟨C,w,z,B,m,D⟩;obtain⟨h,rfl⟩:=eO C w z B;clear C w z B;by_cases p:k<g.idsZ.l.length
  ·obtain⟨x,u,au⟩:=aP p;have Q:=cf (k:=k) F;have H:bO (.Z 32) (ah g.idsZ) _=_:=c5 u;have J:=G.idsZ x au;have v:=br J;have aq:g.idsZ.l.take (k+1)=g.idsZ.l.take k++[x]:=by rw[ej,u];rfl
   have ao:x∉g.idsZ.l.take k:=fun ak=>by
    obtain⟨av,t⟩:=cq.1 ak;have ar:=(aK.1 t).1;rw[cL] at ar;rw[dS F] at t;have:=Y av k x t u;omega
   have aj:=m.lt;have S:k8 (l'++[.q 32 (am x)]) (l.length+1) (g.idsZ.l.take k):=m.frame (aU aj);obtain⟨c,o,P⟩:=S.put J ao;have ai:(g.idsZ.l.take k).length=k:=by rw[cL];omega
   rw[ai] at o;obtain⟨X,T⟩:=al (am x);rw[<-T] at H v o;have ap:aw (bZ 32 (.int .u8 0)) 0 X=X:=cy (by rw[v];rfl);simp[p,H,v,ap,aH,o,Q];refine⟨?_,fun O W=>?_⟩
   ·rw[aq];exact P _ (by rw[bV (by simp;omega)])
   ·rw[bg F,aU F];exact D O W
  ·have ag:k=g.idsZ.l.length:=F;rw[ag,e3] at m;simp[p];exact R _ _ m F D (by have:=m.lt;omega)
 ·simp;refine⟨⟨[],0,V,.nil 0⟩,fun c U=>by rw[aU U]⟩
theorem O2 {l:ad} {p:U} {x:ag × Nat} (h:fN l p=some x) :lf p 0=some p:=by cases p<;>first | rfl | (exfalso;simp[fN] at h)
theorem VN {l:ad} {a b j m:U} (h1:Rd l a j) (p:Rd l b m) :Rd l (.a1 [a,b]) (.a1 [j,m]):=by
 refine .a1 _ _ rfl fun o x q g h=>?_
 rcases o with _ | _ | o
 ·simp at g h;subst g h;exact h1
 ·simp at g h;subst g h;exact p
 ·simp at g
def lX (g:aV) (x:List B) (m:Nat) :Bool:=decide (∀ h,h<m->x∉(hU g.opsZ.l h).ax.l)
theorem QX (g:aV) (x:List B) (m:Nat) :lX g x (m+1)=(lX g x m&&!decide (x∈(hU g.opsZ.l m).ax.l)):=by
 unfold lX;rw[xE,bU,bI,bI,uZ,decide_eq_false_iff_not];constructor
 ·intro h;exact⟨fun j p=>h j F,h m F⟩
 ·rintro⟨h1,o⟩ j p;by_cases e:j=m
  ·rw[e];exact o
  ·exact h1 j F
abbrev io (g:aV) (x:List B) :Bool:=lX g x g.opsZ.l.length
def eU (g:aV) :aQ:=g.idsZ.l.filter (io g)
structure Ns (g:aV) (l0:ad) (w:U) (seen:List Bool) (k:Nat) (sgZ:aS) (l:ad) :Prop where
 eZ:sgZ 1=w
 ha:sgZ 2=.ptr l0.length 0 2
 nw:sgZ 8=.i6 seen.length
 vY:sgZ 9=.i6 k
 ex:∃ v,sgZ 5=v/\ce 32 am (l0++[.q 2 [ah g.idsZ,bB g.opsZ]]) l v (mN g.idsZ.l seen k) (mN g.idsZ.l seen k).isEmpty
theorem SM (g:aV) (O:eT g) {l0:ad} {w:U} {t:Nat} {seen:List Bool} (aI:seen.length=g.idsZ.l.length) (Q:aE 1 l0 w t (seen.map lk)) (ai:t<l0.length) {K:cA}
  (Y:∀ v l',ce 32 am l0 l' v (mN g.idsZ.l seen seen.length) (mN g.idsZ.l seen seen.length).isEmpty->K v l') :
  cM 277 [cD g,w] l0 K:=by
 apply c0 func277 [];have aq:=ds;have aF:=O.li;have au:bz (.Z 1) w=some (.i6 seen.length):=by have:=Q.len;simpa using this
 simp[cD,bf,au];refine bx seen.length (Ns g l0 w seen) ?_ ⟨V,V,V,V,.ae,V,ce.nil⟩;rintro k aA l hk ⟨C,D,H,I,v,G,h⟩;obtain⟨aA,rfl⟩:=gv C D G H I;clear C D G H I;have az:l[l0.length]?=some (.q 2 [ah g.idsZ,bB g.opsZ]):=by rw[h.same _ V];simp
 have ax:aE 1 l w t (seen.map lk):=Q.cl (.inr (by rw[h.same _ (by simp;omega),aU ai]));by_cases o:k<seen.length
 ·obtain⟨b,m,_⟩:=aP o;obtain⟨x,R,ay⟩:=aP (l:=g.idsZ.l) (k:=k) F;have B:=cf (k:=k) F;obtain⟨aK,cs,S,T,u,aL,aC⟩:=ax.q.get (k:=.i64) (i:=k) (e:=lk b) (by rw[b1,m];rfl);have W:cs[S]?=some (.bool b):=by
   have J:((cs.drop S).take 1)[0]?=(lk b)[0]?:=by rw[aC]
   rw[dS F] at J;simpa [lk] using J
  have P:bO (.Z 32) (ah g.idsZ) _=_:=c5 R;have ar:seen.getD k false=b:=by rw[gx,m];rfl
  have p:=br (O.idsZ x ay);have aG:=IK g.idsZ.l seen k;have j:=CU g.idsZ.l seen k;have aM:=O2 u;rw[ar] at j;cases b with
  | false=>
   simp at j;simp[o,T,u,W,B];exact⟨V,V,V,V,v,V,by rw[j];exact h⟩
  | true=>
   rw[ak rfl,dI R] at j;obtain⟨aB,aJ,z,ap,aD⟩:=TI (by_:=32) (h.more [ao.q 32 (am x)]) x (b:=l.length) V p F F (by rw[aq];omega);obtain⟨X,ag⟩:=al (am x);rw[<-ag] at P p z;have av:aw (bZ 32 (.int .u8 0)) 0 X=X:=cy (by rw[p];rfl);simp[o,T,u,W,az,P,p,av,aH,z];refine bP.bm ?_;simp[o,B];exact⟨V,V,V,V,aB,V,by rw[j,show (mN g.idsZ.l seen k++[x]).isEmpty=false by simp];exact ap⟩
 ·have aj:k=seen.length:=F;subst aj;simp;exact Y _ _ (h.base V (fun b m=>aU m))
def nv (n k:Nat) :List Bool:=(List.range n).map fun i=>decide (i<k)
theorem Qy (n k:Nat) :(nv n k).length=n:=by simp[nv]
theorem QA (n:Nat) :nv n 0=List.replicate n false:=by
 apply g3 ;intro i;unfold nv;by_cases h:i<n
 ·rw[b1,ho h,AV,ak h];simp
 ·rw[dY (by simp;omega),dY (by simp;omega)]
theorem Qz {n k:Nat} (h:k<n) :(nv n k).set k true=nv n (k+1):=by
 apply g3 ;intro i;unfold nv;by_cases g:i<n
 ·by_cases e:k=i
  ·subst e;rw[bV (by simp;omega),b1,ho g];simp
  ·rw[bg e,b1,b1,ho g];simp;omega
 ·rw[dY (by simp;omega),dY (by simp;omega)]
def jg (g:aV) (q m:Nat) :List Bool:=(List.range g.idsZ.l.length).map fun i=>lX g (bw g.idsZ.l i) q&&!decide (bw g.idsZ.l i∈(hU g.opsZ.l q).ax.l.take m)
theorem Cj (g:aV) (q m:Nat) :(jg g q m).length=g.idsZ.l.length:=by simp[jg]
theorem Rp (g:aV) :nv g.idsZ.l.length g.idsZ.l.length=jg g 0 0:=by
 unfold nv jg;refine mn fun i h=>?_
 rw[g5] at h;rw[ca h];simp[lX]
theorem Rn (g:aV) (q:Nat) :jg g q (hU g.opsZ.l q).ax.l.length=jg g (q+1) 0:=by
 unfold jg;refine mn fun i h=>?_
 rw[e3,QX];simp
theorem Ro {g:aV} (w:k7 g.idsZ.l) {q m i:Nat} {p:List B} (C:(hU g.opsZ.l q).ax.l[m]?=some p) (j:g.idsZ.l[i]?=some p) :(jg g q m).set i false=jg g q (m+1):=by
 have D:=(aK.1 j).1;apply g3 ;intro t;unfold jg;have u:(hU g.opsZ.l q).ax.l.take (m+1)=(hU g.opsZ.l q).ax.l.take m++[p]:=by rw[ej,C];rfl
 by_cases o:t<g.idsZ.l.length
 ·obtain⟨y,v,_⟩:=aP o;by_cases e:i=t
  ·subst e;rw[bV (by simp;omega),b1,ho o,u];simp[j]
  ·rw[bg e,b1,b1,ho o,u];have z:y≠p:=fun h=>e (by subst h;exact w i t y j v)
   simp[v,z]
 ·rw[dY (by simp;omega),dY (by simp;omega)]
theorem IJ (g:aV) :∀ k,k<=g.idsZ.l.length->mN g.idsZ.l (jg g g.opsZ.l.length 0) k=(g.idsZ.l.take k).filter (io g)
 | 0,_=>rfl
 | k+1,hk=>by
  obtain⟨x,j,_⟩:=aP (l:=g.idsZ.l) (k:=k) F;have h1:(jg g g.opsZ.l.length 0).getD k false=io g x:=by
   rw[gx];unfold jg;rw[b1,ho F];simp[j]
  rw[CU,IJ g k F,h1,dI j,ej,j,lH];cases h:io g x<;>simp[h]
structure od (g:aV) (h b:Nat) (S:List Bool) (l:ad) :Prop where
 ly:l[0]?=some (.q 2 [ah g.idsZ,bB g.opsZ])
 p:k8 l h g.idsZ.l
 w:aE 1 l (.Z 1 b 0 g.idsZ.l.length g.idsZ.l.length g.idsZ.l.length) b (S.map lk)
 yL:b<l.length
 hm:h<b
 Ci:0<h
theorem od.more {g:aV} {j b:Nat} {S:List Bool} {l:ad} (h:od g j b S l) (c:ao) :od g j b S (l++[c]):=
 ⟨by rw[aU (by have:=h.yL;omega)];exact h.ly,h.p.frame (aU h.p.lt),h.w.more _,by have:=h.yL;simp;omega,h.hm,h.Ci⟩
theorem od.set {g:aV} {j b:Nat} {S:List Bool} {l:ad} (h:od g j b S l) {i:Nat} {v:Bool} (z:i<S.length) :
  ∃ p l',bO (.Z 1) (.Z 1 b 0 g.idsZ.l.length g.idsZ.l.length g.idsZ.l.length) (.i6 (i:Int))=some p/\jM 1 l p (.bool v)=some l'/\od g j b (S.set i v) l':=by obtain⟨p,l',o,q,t,u,m⟩:=zw (enc:=lk) (x:=v) (X:=.bool v) rfl h.w (fun _ _=>rfl) z rfl;have h1:=h.hm;have B:=h.Ci;exact⟨p,l',o,q,by rw[m 0 F];exact h.ly,h.p.frame (m j F),t,by rw[u];exact h.yL,h.hm,h.Ci⟩
def rh (g:aV) :b2:=if eY g=0 then cK (eU g) else none
theorem Yy (g:aV) (I:eT g) :aW 253 [cD g] (.a1 [ah (rh g),.i6 (eY g)]):=by
 apply a8 func253 [];have bt:=ds;have bg:=bM g.idsZ;have bh:=im g.opsZ;have bG:=I.ji;have bF:=I.li;have aS:=Mj g I;have bn:bz (.Z 11) (bB g.opsZ)=_:=b6 _;have bl:bz (.Z 32) (ah g.idsZ)=_:=b6 _;unfold cD bf at aS;simp[cD,bf];refine au aS (by simp[aq,U.ar,bg,bh]) ?_;by_cases D:eY g=0
 ·have aE:=kO D;have az:=mG aE.b8;simp[D];refine UE g I az ?_;intro G J H bj aT bm;have C:J[0]?=some (ao.q 2 [ah g.idsZ,bB g.opsZ]):=by rw[aT 0 V];rfl
  obtain⟨ag,ai⟩:=wD (z:=1) (by_:=1) (n:=g.idsZ.l.length) (k:=.i64) (k':=.i64) (zero:=[U.bool false]) (l:=J) rfl F (by rw[bt];omega);obtain⟨N,bD⟩:=al (g.idsZ.l.length);simp only[n3] at ag ai;have m:od g G J.length (nv g.idsZ.l.length 0) (J++[.q g.idsZ.l.length (c3 [.bool false] g.idsZ.l.length)]):=by
   have h1:J.length ≥ 1:=by simp at bm;omega
   refine⟨by rw[aU F];exact C,H.frame (aU H.lt),?_,V,H.lt,by simp at bj;omega⟩;rw[QA,AW];exact ai
  simp[C,bl,ag];obtain⟨b,bd⟩:=al (J.length);rw[<-bd] at m ⊢;refine bx g.idsZ.l.length (fun k j l=>j 1=.ptr 0 0 2/\j 5=.mp G/\j 6=.Z 1 b 0 g.idsZ.l.length g.idsZ.l.length g.idsZ.l.length/\j 24=.i6 g.idsZ.l.length/\j 25=.i6 k/\od g G b (nv g.idsZ.l.length k) l) ?_ ⟨V,V,V,V,V,m⟩;clear m ag ai C aT H;rintro k j l hk ⟨t,u,B,aF,aG,m⟩;obtain⟨j,rfl⟩:=gv t u B aF aG;clear t u B aF aG;simp;refine fh (fun h=>?_) (fun h=>?_)
  ·simp only[bI] at h;have ap:=cf (k:=k) F;obtain⟨T,a9,aD,ad,W⟩:=m.set (i:=k) (v:=true) (by rw[Qy];omega);rw[Qz F] at W;simp[aD,ad,ap];exact⟨F,W⟩
  ·have bk:k=g.idsZ.l.length:=by simp at h;omega
   rw[bk,Rp] at m;have C:=m.ly;simp[h,C,bn];refine bx g.opsZ.l.length (fun q j l=>j 1=.ptr 0 0 2/\j 5=.mp G/\j 6=.Z 1 b 0 g.idsZ.l.length g.idsZ.l.length g.idsZ.l.length/\j 33=bB g.opsZ/\j 34=.i6 g.opsZ.l.length/\j 35=.i6 q/\od g G b (jg g q 0) l) ?_ ⟨V,V,V,V,V,V,m⟩;clear m C;rintro q j l bK ⟨t,u,B,Q,R,S,m⟩;obtain⟨j,rfl⟩:=m0 t u B Q R S;clear t u B Q R S;simp;refine fh (fun X=>?_) (fun X=>?_)
   ·simp only[bI] at X;obtain⟨o,aA,a3⟩:=aP (l:=g.opsZ.l) (k:=q) F;have a4:=I.opsZ o a3;have ap:=cf (k:=q) F;have aX:bO (.Z 11) (bB g.opsZ) _=_:=c5 aA;have aB:(av o).length=11:=rfl;have aO:∀ h,(av o)[1]'h=ah o.ax:=fun _=>rfl
    have bo:bz (.Z 32) (ah o.ax)=_:=b6 _;obtain⟨O,bc⟩:=al (av o);rw[<-bc] at aX aB aO;have bv:aw [U.int .u32 0,.ae,.int .u64 0,.int .u8 0,.str [],.int .u8 0,.i6 0,.int .u64 0,.str [],.int .u32 0,.int .u32 0] 0 O=O:=cy (by rw[aB];rfl);have bC:∀ c:ao,(l++[c])[l.length]?=some c:=fun c=>nZ
    simp[aX,aB,aO,bv,bo,aH];refine bx o.ax.l.length (fun K j l=>j 1=.ptr 0 0 2/\j 5=.mp G/\j 6=.Z 1 b 0 g.idsZ.l.length g.idsZ.l.length g.idsZ.l.length/\j 33=bB g.opsZ/\j 34=.i6 g.opsZ.l.length/\j 35=.i6 q/\j 40=ah o.ax/\j 41=.i6 o.ax.l.length/\j 42=.i6 K/\od g G b (jg g q K) l) ?_ ⟨V,V,V,V,V,V,V,V,V,m.more _⟩;clear m bC;rintro K j l bH ⟨t,u,B,Q,R,S,aI,aJ,aM,m⟩;obtain⟨j,rfl⟩:=L4 t u B Q R S aI aJ aM;clear t u B Q R S aI aJ aM;simp;refine fh (fun Y=>?_) (fun Y=>?_)
    ·simp only[bI] at Y;obtain⟨T,a5,a6⟩:=aP (l:=o.ax.l) (k:=K) F;have a7:=a4.idsZ T a6;have aC:=br a7;have bJ:=a4.len;have bb:=cf (k:=K) F;obtain⟨i,ay⟩:=cq.1 (aE.Db o a3 T a6);have bE:=(aK.1 ay).1;have aY:bO (.Z 32) (ah o.ax) _=_:=c5 a5;have aQ:=m.more (.q 32 (am T));have aZ:=aQ.p.look az a7 ay;obtain⟨bL,a9,aD,ad,W⟩:=aQ.set (i:=i) (v:=false) (by rw[Cj];omega);rw[Ro az (by rw[jD aA];exact a5) ay] at W;obtain⟨P,H⟩:=al (am T);rw[<-H] at aY aC aZ ad;have bw:aw (bZ 32 (U.int .u8 0)) 0 P=P:=cy (by rw[aC];rfl);simp[aY,aC,bw,aZ,aD,ad,bb,aH];exact⟨F,W⟩
    ·have bp:K=o.ax.l.length:=by simp at Y;omega
     have a0:=Rn g q;rw[jD aA] at a0;rw[bp,a0] at m;simp[Y,ap];exact⟨F,m⟩
   ·have bs:q=g.opsZ.l.length:=by simp at X;omega
    rw[bs] at m;have C:=m.ly;simp[X,C];have bA:=m.w;refine SM g I (seen:=jg g g.opsZ.l.length 0) (Cj _ _ _) bA m.yL (fun bN a9 a2=>?_);simp;have bq:mN g.idsZ.l (jg g g.opsZ.l.length 0) (jg g g.opsZ.l.length 0).length=eU g:=by
     rw[Cj,IJ g _ (aN _),e3];rfl
    rw[bq] at a2;refine VN ?_ (aR (by rw[D]) rfl);exact a2.rd cG (rh g) (by unfold rh;rw[ak D,nR]) (by unfold rh;rw[ak D,dj])
 ·have bi:rh g=none:=by unfold rh;rw[aj D]
  rw[bi];simp[D];exact aL
def h2 (l l' : ad) :Prop:=l.length<=l'.length/\∀ b,b<l.length->l'[b]?=l[b]?
theorem h2.refl (l:ad) :h2 l l:=⟨aN _,fun _ _=>rfl⟩
theorem h2.trans {l m n:ad} (h:h2 l m) (g:h2 m n) :h2 l n:=⟨dC h.1 g.1,fun b j=>by rw[g.2 b (nb j h.1),h.2 b j]⟩
def td (f:cj) (o:ag) (l:ad) (xs:aQ) (c:List B->Bool) :Prop:=
 ∀ m∈xs,∀ g,h2 l g->∀ h:cA,(∀ j,h2 g j->h (.bool (c m)) j)->cM f (.af (am m) ::o) g h
theorem Ry (s:b2) (aj:c6 s) (ao:s.l.length<=1000000) {f:cj} {t:ag} {c:List B->Bool} (W:fI prog f=true) {l:ad} (h:td f t l s.l c) {K:cA}
  (G:∀ (n:Int) l',h2 l l'->(0<=n<->s.l.any c=true)->K (.i6 n) l') :cM 139 [ah s,.fn f [] t] l K:=by
 apply c0 func139 [];have ai:bz (.Z 32) (ah s)=_:=b6 _;simp[ai];refine bx s.l.length (fun k j v=>j 0=ah s/\j 1=.fn f [] t/\j 7=.i6 s.l.length/\j 8=.i6 k/\h2 l v/\∀ g y,g<k->s.l[g]?=some y->c y=false) ?_ ⟨V,V,V,V,h2.refl _,fun g _ q=>F⟩;rintro k j v hk ⟨w,z,C,D,p,P⟩;obtain⟨j,rfl⟩:=eO w z C D;clear w z C D;simp;refine fh (fun m=>?_) (fun m=>?_)
 ·simp only[bI] at m;obtain⟨x,Q,u⟩:=aP (l:=s.l) (k:=k) F;have R:=br (aj x u);have T:=cf (k:=k) F;have O:bO (.Z 32) (ah s) _=_:=c5 Q;have I:=h x u v p;obtain⟨ak,U⟩:=al (am x);rw[<-U] at O R I;simp[O,R,aH];refine⟨W,I _ fun ap J=>?_⟩;cases H:c x with
  | true=>
   simp;exact G _ _ (p.trans J) ⟨fun _=>s1.2 ⟨x,u,H⟩,fun _=>F⟩
  | false=>
   simp[T];refine⟨m,p.trans J,fun g y q o=>?_⟩;by_cases X:g=k
   ·rw[X,Q] at o;obtain rfl:=cd o;exact H
   ·exact P g y F o
 ·simp[m];have Y:k=s.l.length:=by simp at m;omega
  refine G _ _ p ⟨fun h=>F,fun h=>?_⟩;obtain⟨y,o,S⟩:=s1.1 h;obtain⟨g,q⟩:=cq.1 o;rw[P g y (by rw[Y];exact (aK.1 q).1) q] at S;cases S
theorem ym (s:b2) (q:c6 s) (t:s.l.length<=1000000) {f:cj} {g:ag} {c:List B->Bool} (o:fI prog f=true) {l:ad} (h:td f g l s.l c) {K:cA}
  (j:∀ l',h2 l l'->K (.bool (s.l.any c)) l') :cM 88 [ah s,.fn f [] g] l K:=by
 apply c0 func88 [];simp;refine Ry s q t o h fun n l' m p=>?_
 simp;have:decide (0<=n)=s.l.any c:=by
  rw[xE,bI];exact p
 rw[this];exact j _ m
end Op
theorem OS {P:bq} {G:Nat->U} {f:cj} {args args2:ag} {h m h' : aM} {r:U} (z:jR P G f args2 m r h') (wk:iP h m) (Q:args2.length=args.length)
  (D:∀ (j:Nat) (c g:U),args[j]?=some c->args2[j]?=some g->iO h m c g) :jR P G f args h r h':=by
 intro t B w muZ K rel v R I;refine (z t B w muZ K (wk.rel rel) (v.ext (wk.ext w muZ)) F (fun j g o q C=>?_)).mono ?_
 ·have O:=(aK.1 q).1;obtain⟨c,p⟩:∃ c,args[j]?=some c:=⟨_,bK F⟩
  exact wk.kZ rel (D j c g p q) (I j c o p C)
 ·rintro e w' ⟨o,muZ',rfl,u,J,H⟩;exact⟨o,muZ',rfl,(wk.ext w muZ).trans u,J,H⟩
theorem tw {P:bq} {G:Nat->U} (w:P.follows .mixedOrders=true) (p:∀ g,(G g).ar=true) {f:cj} {args args2:ag} {l m:ad} {K:cA} (wk:iP (aZ l) (aZ m)) (u:l.length<=m.length) (t:args2.length=args.length)
  (z:∀ (j:Nat) (c o:U),args[j]?=some c->args2[j]?=some o->iO (aZ l) (aZ m) c o) (h:fS P G f args2 m (c:=⟨K⟩)) :fS P G f args l (c:=⟨K⟩):=by obtain⟨r,B,q,v,hk⟩:=h;exact⟨r,B,.ext (OS (sH w p q) wk t z),dC u v,hk⟩
namespace Op
theorem wU {alZ:Type} {z:Nat} {enc:alZ->ag} {l:ad} {v:U} {j:Nat} {xs:List alZ} (s:bX alZ) (h:aE z l v j (xs.map enc)) (o:bo v=s.isNone) (t:s.l=xs) :
  ∃ m,iP (aZ l) (aZ m)/\iO (aZ l) (aZ m) v (b4 z enc s)/\m.length=l.length/\∀ b,(v=.ae\/b≠j)->m[b]?=l[b]?:=by
 cases s with
 | none=>
  have g:v=.ae:=gm.1 (by rw[o];rfl);subst g;exact⟨l,⟨rfl,fun b=>.inl rfl⟩,.same _,rfl,fun b _=>rfl⟩
 | some a=>
  have g:bo v=false:=by rw[o];rfl
  have u:a=xs:=t;obtain⟨h1,p⟩:=uk h g;refine⟨l.set j .dead,h1,by rw[u];exact p,V,fun b q=>?_⟩;rcases q with e | e
  ·rw[e] at g;cases g
  ·exact bg (Ne.symm e)
end Op
namespace Op
open cu
theorem x5 {alZ:Type} {enc:alZ->ag} {z by_:Nat} (l:ad) (b:Nat) (m:l[b]?=some (.q 0 [])) (s:bX alZ) (h:∀ x∈s.l,(enc x).length=z) (j:z≠0) (t:by_≠0) (p:s.l.length*by_<=dk) :
  ea l z by_ (.Z z b 0 0 0 0) (b4 z enc s)=some (.Z z b 0 s.l.length s.l.length (s.l.length*z),l.set b (.q (s.l.length*z) (s.l.map enc).flatten)):=by
 have v:=rY h;unfold ea;rw[qA];simp only[];unfold hr;by_cases g:s.l.length=0
 ·have j:s.l=[]:=hp.1 g;rw[j];obtain⟨u,o⟩:=aK.1 m;have:l.set b (.q 0 [])=l:=by rw[<-o,A1]
  simp[this]
 ·rw[aj g,aj F];have w:¬ s.l=[]:=fun h=>g (by rw[h];rfl)
  simp[p,g,m]
theorem CN (a:List B) :eM a a=false:=by
 cases h:eM a a with
 | false=>rfl
 | true=>rw[ia,lg] at h;omega
theorem tX (a b c:List B) (h1:eM a b=true) (g:eM b c=true) :eM a c=true:=(ia _ _).2 (ow a b c ((ia _ _).1 h1) ((ia _ _).1 g))
theorem Ix (a b:List B) (g:a≠b) (h:eM a b=false) :eM b a=true:=by
 rw[ia,ov];rcases vJ a b with h1 | h1 | h1
 ·rw[(ia a b).2 F] at h;cases h
 ·exact bW (ou h1) g
 ·omega
theorem oS {l:aQ} (h:b8 l=true) :l.Pairwise fun a b=>eM a b=true:=
 ko.2 fun i o g m j=>(ia _ _).2 (kb h j (bK g) (bK m))
theorem ul {l:aQ} (h:l.Pairwise fun a b=>eM a b=true) :b8 l=true:=uw fun k hk h1=>by
 have g:=bK hk;have j:=bK (l:=l) (i:=k - 1) F;rw[dI g,dI j];exact (ia _ _).1 ((ko.1 h) (k - 1) k F hk F)
section
variable {alZ:Type} {z:Nat} {enc:alZ->ag}
def hg (s:bX alZ) (k:Nat) :bX alZ:=match s with | none=>none | some a=>some (a.take k)
def oW (s:bX alZ) (k:Nat) :bX alZ:=match s with | none=>none | some a=>some (a.drop k)
theorem oX (s:bX alZ) (k:Nat) :(hg s k).l=s.l.take k:=by cases s<;>simp[hg]
theorem LD (s:bX alZ) (k:Nat) :(oW s k).l=s.l.drop k:=by cases s<;>simp[oW]
theorem Aj {s:bX alZ} {k:Nat} (h:k<=s.l.length) :dw (.Z z) (b4 z enc s) none (some (.i6 (k:Int))) none=some (b4 z enc (hg s k)):=by
 cases s with
 | none=>
  have:k=0:=by simpa using h
  subst this;rfl
 | some a=>exact Ef (z:=z) (enc:=enc) (l:=a) (k:=.i64) (i:=(k:Int)) F (by have:k<=a.length:=h;omega)
theorem Ev {s:bX alZ} {k:Nat} (h:k<=s.l.length) :dw (.Z z) (b4 z enc s) (some (.i6 (k:Int))) none none=some (b4 z enc (oW s k)):=by
 cases s with
 | none=>
  have:k=0:=by simpa using h
  subst this;rfl
 | some a=>exact K6 (z:=z) (enc:=enc) (l:=a) (k:=.i64) (i:=(k:Int)) F (by have:k<=a.length:=h;omega)
theorem Du {by_:Nat} {l:ad} {b c k:Nat} {s:bX alZ} {x:alZ} (w:l[b]?=some (.q 0 [])) (I:l[c]?=some (.q z (enc x))) (H:b≠c) (hk:k<=s.l.length) (O:∀ y∈s.l,(enc y).length=z) (G:(enc x).length=z) (o:z≠0) (p:by_≠0) (u:(s.l.length+1)*by_<=dk) :
  ea l z by_ (.Z z b 0 0 0 0) (b4 z enc (hg s k))=some (.Z z b 0 k k (k*z),l.set b (.q (k*z) ((s.l.take k).map enc).flatten)) ∧
  ea (l.set b (.q (k*z) ((s.l.take k).map enc).flatten)) z by_ (.Z z b 0 k k (k*z)) (.Z z c 0 1 1 z)=some (.Z z b 0 (k+1) (k+1) ((k+1)*z),l.set b (.q ((k+1)*z) ((s.l.take k++[x]).map enc).flatten)) ∧
  ea (l.set b (.q ((k+1)*z) ((s.l.take k++[x]).map enc).flatten)) z by_ (.Z z b 0 (k+1) (k+1) ((k+1)*z)) (b4 z enc (oW s k)) =
   some (.Z z b 0 (cW s.l k x).length (cW s.l k x).length ((cW s.l k x).length*z),l.set b (.q ((cW s.l k x).length*z) ((cW s.l k x).map enc).flatten)):=by
 have B:=aX w;have j:(s.l.take k).length=k:=by rw[cL];omega
 have v:∀ y∈s.l.take k,(enc y).length=z:=fun y g=>O y (gA g)
 have J:k*by_<=dk:=dC (ck _ F) u;have K:(k+1)*by_<=dk:=dC (ck _ F) u;refine⟨?_,?_,?_⟩
 ·have:=x5 (enc:=enc) (by_:=by_) l b w (hg s k) (by rw[oX];exact v) o p (by rw[oX,j];exact J);rw[oX,j] at this;exact this
 ·have:=FS (l:=l.set b (.q (k*z) ((s.l.take k).map enc).flatten)) (z:=z) (by_:=by_) (b:=b) (n:=k) (m:=1) (sz:=k*z) (es:=(s.l.take k).map enc) (xs:=[enc x]) (x:=.Z z c 0 1 1 z)
   (bV B) (by simp[cr,bg H,I,G,aH]) (by rw[cg,j]) rfl rfl (fun e t=>by obtain⟨y,g,rfl⟩:=cC.1 t;exact v y g) o p K
  rw[this,A2];simp
 ·have C:(oW s k).l.length=s.l.length - k:=by rw[LD,i2]
  have D:k+1+(s.l.length - k)=(cW s.l k x).length:=by rw[h8];omega
  have:=FS (l:=l.set b (.q ((k+1)*z) ((s.l.take k++[x]).map enc).flatten)) (z:=z) (by_:=by_) (b:=b) (n:=k+1) (m:=s.l.length - k) (sz:=(k+1)*z) (es:=(s.l.take k++[x]).map enc) (xs:=(oW s k).l.map enc) (x:=b4 z enc (oW s k))
   (bV B) (by rw[qA,C]) (by rw[cg,cF,j];rfl) (by rw[cg,C]) rfl (fun e t=>by
    obtain⟨y,g,rfl⟩:=cC.1 t;rcases fx.1 g with h | h
    ·exact v y h
    ·rw[gd.1 h];exact G) o p (by rw[D,h8];exact u)
  rw[this,A2,D,LD,<-cS];unfold cW;simp
end
theorem vL (l:aQ) (x:List B) :dU l x<=l.length:=by unfold dU;exact (List.takeWhile_sublist _).length_le
theorem yj {x:List B}:∀ {l:aQ} {k:Nat} {y:List B},k<dU l x->l[k]?=some y->bQ y x<0
 | [],k,y,_,h=>by simp at h
 | a::l,k,y,hk,h=>by
  unfold dU at hk;rw[A3] at hk;by_cases g:bQ a x<0
  ·cases k with
   | zero=>simp at h;subst h;exact g
   | succ k=>
    rw[ca g] at hk;simp at hk h;exact yj (l:=l) (by unfold dU;exact hk) h
  ·rw[ct g] at hk;simp at hk
theorem yi {x:List B}:∀ {l:aQ} {y:List B},l[dU l x]?=some y->¬ bQ y x<0
 | [],y,h=>by simp at h
 | a::l,y,h=>by
  unfold dU at h;rw[A3] at h;by_cases g:bQ a x<0
  ·rw[ca g] at h;simp at h;exact yi (l:=l) (by unfold dU;exact h)
  ·rw[ct g] at h;simp at h;subst h;exact g
theorem V6 {l:aQ} {x:List B} (h:b8 l=true) (C:x∉l) :b8 (cW l (dU l x) x)=true:=by
 have t:=oS h;have G:=vL l x;refine ul ?_;unfold cW;have q:∀ y∈l.take (dU l x),eM y x=true:=fun y g=>by
  obtain⟨k,hk⟩:=cq.1 g;have z:=(aK.1 hk).1;rw[cL] at z;rw[dS F] at hk;exact (ia _ _).2 (yj F hk)
 have p:∀ y∈l.drop (dU l x),eM x y=true:=fun y g=>by
  have H:=u7 g;obtain⟨k,hk⟩:=cq.1 g;rw[gy] at hk;obtain⟨m,j,D⟩:=aP (l:=l) (k:=dU l x) (by have:=(aK.1 hk).1;omega);have h1:eM x m=true:=Ix m x (fun e=>C (by rw[<-e];exact D)) (by
   cases u:eM m x with
   | false=>rfl
   | true=>exact bW ((ia _ _).1 u) (yi j))
  by_cases w:k=0
  ·subst w;rw[na,j] at hk;obtain rfl:=cd hk;exact h1
  ·exact tX _ _ _ h1 ((ia _ _).2 (kb h (show dU l x<dU l x+k by omega) j hk))
 rw[ru];refine⟨t.sublist (Fi _ _),AZ.2 ⟨p,t.sublist (List.drop_sublist _ _)⟩,fun a o b v=>?_⟩;rcases kn.1 v with e | e
 ·rw[e];exact q a o
 ·exact tX _ _ _ (q a o) (p b e)
def jz (l:aQ) (x:List B) :aQ:=if l[dU l x]?=some x then l else cW l (dU l x) x
def kW (l:aQ) :Nat->aQ
 | 0=>[]
 | k+1=>jz (kW l k) (bw l k)
def uF (l:aQ) :aQ:=kW l l.length
theorem RC {l:aQ} {x y:List B}:y∈jz l x<->y=x\/y∈l:=by
 unfold jz;split
 ·rename_i h;exact⟨.inr,fun g=>g.elim (fun e=>by rw[e];exact cJ h) id⟩
 ·exact jA
theorem RB (l:aQ) (x:List B) :(jz l x).length<=l.length+1:=by
 unfold jz;split
 ·omega
 ·rw[h8];omega
theorem Pk {l:aQ} (h:b8 l=true) {x:List B} (g:x∈l) :l[dU l x]?=some x:=by obtain⟨k,hk⟩:=cq.1 g;rw[BF h hk];exact hk
theorem H5 {l:aQ} (h:b8 l=true) (x:List B) :b8 (jz l x)=true:=by
 unfold jz;split
 ·exact h
 ·rename_i g;exact V6 h fun j=>g (Pk h j)
theorem Ej {l:aQ} {y:List B}:∀ {k:Nat},k<=l.length->(y∈kW l k<->y∈l.take k)
 | 0,_=>by simp[kW]
 | k+1,hk=>by
  obtain⟨x,g,_⟩:=aP (l:=l) (k:=k) F;show y∈jz _ _<->_;rw[RC,Ej F,ej,g,dI g,fx];simp;exact or_comm
theorem Ei {l:aQ}:∀ {k:Nat},(kW l k).length<=k
 | 0=>by simp[kW]
 | k+1=>dC (RB _ _) (by have:=Ei (l:=l) (k:=k);omega)
theorem Lh {l:aQ}:∀ {k:Nat},b8 (kW l k)=true
 | 0=>by unfold kW b8;exact ca fun k hk=>by simp at hk
 | k+1=>H5 Lh _
theorem Lg {l:aQ} {y:List B}:y∈uF l<->y∈l:=by unfold uF;rw[Ej (aN _),e3]
theorem Xk (l:aQ) :b8 (uF l)=true:=Lh
theorem LF {alZ:Type} {l:List alZ} (h:l≠[]) :cK l=some l:=by cases l with | nil=>exact bW rfl h | cons=>rfl
theorem VA (s:b2) (aV:c6 s) (bj:s.l.length<=1000000) :aW 127 [ah s] (ah (cK (uF s.l))):=by
 apply a8 func127 [[],[],cR 0 4++cR 5 5++[[11],[12],[13],[4,9,8],[10]]];have a9:=ds;have aU:bz (.Z 32) (ah s)=_:=b6 _;simp;refine bx s.l.length (fun k m l=>m 0=ah s/\m 3=ah (cK (kW s.l k))/\m 4=.i6 k) ?_ ⟨V,by simp[kW];rfl,V⟩;rintro k m l hk ⟨Q,R,S⟩;obtain⟨m,rfl⟩:=gJ Q R S;clear Q R S;have aC:=cf (k:=k) F;by_cases J:k<s.l.length
 ·obtain⟨x,aY,bd⟩:=aP J;have az:=aV x bd;have o:=br az;have aK:=cG x;have H:bO (.Z 32) (ah s) _=_:=c5 aY;have u:∀ y∈kW s.l k,y.length=32:=fun y j=>aV y (gA ((Ej (kp J)).1 j))
  have a6:=Ei (l:=s.l) (k:=k);have ay:kW s.l (k+1)=jz (kW s.l k) x:=by show jz _ (bw s.l k)=_;rw[dI aY]
  obtain⟨O,aD⟩:=al (cK (kW s.l k));have aS:O.l=kW s.l k:=by rw[aD,dj]
  have a5:cK O.l=O:=by rw[aS,aD]
  rw[<-aS] at u a6 ay;have W:bz (.Z 32) (ah O)=_:=b6 _;obtain⟨c,G⟩:=al (dU O.l x);have bh:c<=O.l.length:=by rw[G];exact vL _ _
  have a0:∀ (g:Nat) (y:List B),O.l[g]?=some y->bO (.Z 32) (ah O) (.i6 (g:Int))=some (.b7 (am y) 0):=fun g y j=>by simp[ah,j]
  obtain⟨X,D⟩:=al (am x);rw[<-D] at o aK H;have v:X.take 32=X:=aH F;rw[<-aD];simp[aU,J];refine bx c (fun g m t=>t=l/\m 0=ah s/\m 3=ah O/\m 4=.i6 k/\m 5=.i6 g) ?_ ⟨rfl,V,V,V,V⟩;rintro g m t bi ⟨rfl,Q,R,S,aL⟩;obtain⟨m,rfl⟩:=eO Q R S aL;clear Q R S aL;have a2:=cf (k:=g) F;by_cases aT:g<c
  ·obtain⟨y,j,P⟩:=aP (l:=O.l) (k:=g) F;have K:bQ y x<0:=yj (by rw[<-G];exact aT) j;have av:g<O.l.length:=F;have C:=br (u y P);have Y:=cG y;have p:=w6 y x (u y P) az;change aW _ [.af (am y),.af (am x)] _ at p;have w:=a0 g y j;rw[<-D] at p;obtain⟨aB,aE⟩:=al (am y);rw[<-aE] at w C Y p;simp[W,av,w,C,H,o,v,aH];refine au p (by simp[aq,U.ar,aK,Y]) ?_;simp[K,a2];exact aT
  ·have ap:g=c:=F;have t1:dw (.Z 32) (ah O) none (some (.i6 (g:Int))) none=some (ah (hg O g)):=Aj F;have t2:dw (.Z 32) (ah O) (some (.i6 (g:Int))) none none=some (ah (oW O g)):=Ev F;obtain⟨I,T⟩:=al (cW O.l g x);obtain⟨bf,a3⟩:=al (((O.l.take g).map am).flatten);obtain⟨bg,a4⟩:=al (((O.l.take g++[x]).map am).flatten);have aZ:∀ y∈O.l,(am y).length=32:=fun y j=>br (u y j)
   obtain⟨ag,aA,ai⟩:=Du (enc:=am) (z:=32) (by_:=32) (l:=t++[.q 0 [],.q 32 X]) (b:=t.length) (c:=t.length+1) (k:=g) (s:=O) (x:=x) V (by rw[D];simp) F F aZ (by rw[<-D];exact o) F F (by rw[a9];omega);change ea _ _ _ _ (ah _)=_ at ag ai;have bc:∀ c:ao,(t++[ao.q 0 [],.q 32 X]).set t.length c=t++[c,.q 32 X]:=fun c=>V
   simp only[<-T,<-a3,<-a4,bc] at ag aA ai;have aQ:∀ y∈I,(am y).length=32:=fun y j=>by
    rw[T,jA] at j;rcases j with h | h
    ·rw[h,<-D];exact o
    ·exact aZ y h
   have aO:I≠[]:=fun h=>by have:=ci List.length h;rw[T,h8] at this;simp at this
   have aM:U.bu 32 (I.map am)=ah (some I):=rfl;have aX:aw (bZ 32 (.int .u8 0)) 0 X=X:=cy (by rw[o];rfl);by_cases av:g<O.l.length
   ·obtain⟨y,j,P⟩:=aP av;have K:¬ bQ y x<0:=yi (by rw[<-G,<-ap];exact j);have C:=br (u y P);have Y:=cG y;have p:=w6 y x (u y P) az;change aW _ [.af (am y),.af (am x)] _ at p;have w:=a0 g y j;have ax:=oE (u y P) az;have aG:¬ (g:Int)=O.l.length:=F;have aI:¬ g=O.l.length:=F;rw[<-D] at p ax;obtain⟨aB,aE⟩:=al (am y);rw[<-aE] at w C Y p ax;simp[W,av,w,C,H,o,v,aH];refine au p (by simp[aq,U.ar,aK,Y]) ?_;by_cases ad:y=x
    ·have bb:jz O.l x=O.l:=by unfold jz;rw[<-G,<-ap,j,ad,ak rfl]
     have bk:¬ bQ x x<0:=by rw[ad] at K;exact K
     have aJ:eb prog .neq 57 (.af aB) (.af X)=some (.bool false):=by rw[ax,ca ad];rfl
     simp[K,W,aG,w,C,H,o,v,aH,aJ,aC];exact⟨J,by rw[ay,bb,a5]⟩
    ·have aF:jz O.l x=I:=by unfold jz;rw[<-G,<-ap,j,aj (fun h=>ad (cd h)),T]
     have aJ:eb prog .neq 57 (.af aB) (.af X)=some (.bool true):=by rw[ax,ct ad];rfl
     simp[K,W,aG,w,C,H,o,v,aH,aJ,t1,t2,aX,ag];refine bP.bm ?_;simp[aA,o,v];refine bP.bm ?_;simp[ai];refine bP.oz (by exact lv aQ rfl V) rfl ?_;simp[aM,aC];exact⟨J,by rw[ay,aF,LF aO]⟩
   ·have aG:(g:Int)=O.l.length:=F;have aI:g=O.l.length:=F;have aF:jz O.l x=I:=by unfold jz;rw[<-G,<-ap,aj,T];rw[dY F];simp
    rw[aI] at t1 t2 ag aA ai;simp[W,aI,H,o,v,t1,t2,aX,ag];refine bP.bm ?_;simp[aA,o,v];refine bP.bm ?_;simp[ai];refine bP.oz (by exact lv aQ rfl V) rfl ?_;simp[aM,aC];exact⟨J,by rw[ay,aF,LF aO]⟩
 ·have a7:k=s.l.length:=F;subst a7;simp[aU];exact aR rfl (bM _)
end Op
end Go.bl

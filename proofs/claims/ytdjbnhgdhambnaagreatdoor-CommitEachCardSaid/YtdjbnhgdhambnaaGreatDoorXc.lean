/-
  The canonical machine, part K: running code.
-/
import Derived.Test.YtdjbnhgdhambnaaGreatDoorXb
import Derived.Orders
import Derived.Still
import Derived.Scope
import Derived.LoopN
import Derived.ProofKit
set_option maxHeartbeats 16000000
set_option maxRecDepth 100000
set_option linter.unusedVariables false
set_option linter.unusedSimpArgs false
set_option linter.unnecessarySimpa false
namespace Go.bf
open Go
inductive pY where
 | normal
 | exit (id:Nat)
 | ret
def pY.out:pY->Exit
 | .normal=>.normal
 | .exit id=>.exit id
 | .ret=>.ret
def ij (ops:Array a6) (sgZ:Nat->U) (o:a6) :Option Bool:=
 match o.guard with
 | none=>some true
 | some (g,h)=>match (ops[g]?).bind (·.dst) with
  | none=>some false
  | some d=>match sgZ d with
   | .bool b=>some (b == h)
   | .bad=>none
   | _=>some false
def gw (sgZ:Nat->U) (g:Option Tmp) (c:U) :Nat->U:=match g with | some d=>bh sgZ d c | none=>sgZ
def hw (N:Nat) (g:Option Tmp) :Bool:=match g with | some d=>decide (d<N) | none=>true
def ul (P:bg) (h:aE) (sgZ:Nat->U) :ResultVar->Option U
 | .tmp g=>some (sgZ g)
 | .cell a g=>od P h g (sgZ a)
def qN (P:bg) (h:aE) (sgZ:Nat->U) :List ResultVar->Option (ag)
 | []=>some []
 | r::g=>match ul P h sgZ r,qN P h sgZ g with
  | some j,some m=>some (j::m)
  | _,_=>none
def su:ag->U
 | [g]=>g
 | h=>.aZ h
def uk (P:bg) (h:aE) (sgZ:Nat->U) (fn:Func) :Option U:=(qN P h sgZ fn.results.toList).map su
mutual
def U.ax:U->Bool
 | .ah cs=>ar cs
 | .aZ cs=>ar cs
 | .bR cs _=>ar cs
 | .bj _ g=>nV g
 | .fn _ a b=>ar a&&ar b
 | .fT _ h=>h.ax
 | .ptr .. | .ad .. | .mp _ | .it _=>false
 | _=>true
def ar:ag->Bool
 | []=>true
 | c::cs=>c.ax&&ar cs
def nV:List (ag)->Bool
 | []=>true
 | c::cs=>ar c&&nV cs
end
def c5 (w:aO) (A:Nat->Prop) (c:U) (v:aB) :Prop:=az w A aE.empty (fun _=>none) c v
structure eo (w w' : aO) :Prop extends RowKit.Below w.heap.size w w' where
 drawn:w.drawn<=w'.drawn
def jr (G:Nat->U) (w:aO) (R:Nat->Prop) (h:aE) (muZ:bU) :Prop:=∀ g,(G g).ax=true/\az w R h muZ (G g) (.pointer (some ⟨g,0,none⟩))
def jq (P:bg) (G:Nat->U) (f:cb) (args:ag) (h:aE) (r:U) (h' : aE) :Prop:=
 ∀ (g:Nat->Prop) (B:Nat) (w:aO) (muZ:bU) (m:Array aB),bu g B w h muZ->jr G w g h muZ->m.size=args.length->
  (∀ (o:Nat) (c:U) (j:aB),args[o]?=some c->m[o]?=some j->az w g h muZ c j)->
  Calls P f m w fun e w'=>∃ j muZ',e=.returned j/\cN w h muZ w' h' muZ'/\bu g B w' h' muZ'/\az w' g h' muZ' r j
def hW (P:bg) (G:Nat->U) (f:cb) (args:ag) (r:U) :Prop:=
 ∀ (w:aO) (A:Nat->Prop) (h:Array aB),(∀ j,c5 w A (G j) (.pointer (some ⟨j,0,none⟩)))->h.size=args.length->
  (∀ (m:Nat) (c:U) (g:aB),args[m]?=some c->h[m]?=some g->c5 w A c g)->
  Calls P f h w fun e w'=>∃ g,e=.returned g/\eo w w'/\c5 w' (fun k=>A k\/w.heap.size<=k) r g
def mV (P:bg) (G:Nat->U) (f:cb) (args:ag) (r:U) :Prop:=
 ∀ (w:aO) (A:Nat->Prop) (h:Array aB),(∀ j,c5 w A (G j) (.pointer (some ⟨j,0,none⟩)))->h.size=args.length->
  (∀ (m:Nat) (c:U) (g:aB),args[m]?=some c->h[m]?=some g->c5 w A c g)->
  Calls P f h w fun e w'=>∃ g,e=.returned g/\eo w w'/\c5 w' (fun k=>w.heap.size<=k) r g
inductive fm (h:aE) :U->U->Prop
 | same (c:U) (z:c.ax=true) :fm h c c
 | ah (cs j:ag) (u:j.length=cs.length) (v:∀ (m:Nat) (c g:U),cs[m]?=some c->j[m]?=some g->fm h c g) :fm h (.ah cs) (.ah j)
 | aZ (cs j:ag) (u:j.length=cs.length) (v:∀ (m:Nat) (c g:U),cs[m]?=some c->j[m]?=some g->fm h c g) :fm h (.aZ cs) (.aZ j)
 | ad (p b o len cap q:Nat) (cs:ag) (t:List (ag)) (w:h.f b=.cells q cs) (u:t.length=len) (C:∀ e∈t,e.length=p)
   (B:o+len*p<=cs.length)
   (v:∀ (i m:Nat) (e:ag) (c g:U),t[i]?=some e->e[m]?=some g->cs[o+(i*p+m)]?=some c->fm h c g) :fm h (.ad p b o len cap q) (.bj p t)
 | sl (p b o cap q:Nat) :fm h (.ad p b o 0 cap q) (.bj p [])
 | ptr (b o q:Nat) (cs j:ag) (w:h.f b=.cells q cs) (u:j.length=cs.length) (v:∀ (m:Nat) (c g:U),cs[m]?=some c->j[m]?=some g->fm h c g) :fm h (.ptr b o q) (.bR j o)
mutual
def U.flat:U->Bool
 | .ah cs=>ka cs
 | .aZ cs=>ka cs
 | .fT _ g=>g.flat
 | .bool _ | .int .. | .str _ | .h8 | .af | .gP | .hP | .hz=>true
 | _=>false
def ka:ag->Bool
 | []=>true
 | c::cs=>c.flat&&ka cs
end
inductive xC where
 | pure | new | e6
def kk (P:bg) (j:aT->U) :Op->Option (ag × (Nat->U))
 | .alloc h=>(fV P h).map fun g=>(g,fun b=>.ptr b 0 g.length)
 | .box _ x=>(j x).cells.map fun cs=>(cs,fun b=>.ptr b 0 cs.length)
 | .buildSlice h len parts=>match gb P h with
  | some e=>match b3 P e,fV P e with
   | some g,some zero=>if zero.length=g/\len*g<=16777216 then
     (ef (fun i=>some (i*g,g)) (cy zero len) (parts.toList.map fun m=>(m.1,j m.2))).map fun cs=>(cs,fun b=>.ad g b 0 len len (len*g))
    else none
   | _,_=>none
  | none=>none
 | .makeSlice h l c=>match gb P h,asInt (j l),asInt (j c) with
  | some e,some l,some c=>match b3 P e,gG P e,fV P e with
   | some g,some o,some zero=>
    if zero.length=g/\0<=l/\l<=c/\c<9223372036854775808/\o*c<=db then
     some (cy zero c.toNat,fun b=>.ad g b 0 l.toNat c.toNat (c.toNat*g))
    else none
   | _,_,_=>none
  | _,_,_=>none
 | _=>none
def hF (ops:Array a6) (t:Nat) :Option Nat:=(List.range ops.size).find? fun i=>match ops[i]? with | some g=>g.dst == some t | none=>false
def j9 (ops:Array a6) (pre:Nat->Nat->Bool) (val:Nat->U) (sgZ:Nat->U) (i:Nat) (o:a6) :Nat->U:=fun g=>
 if (o.looksAt ops).contains g then
  match hF ops g with
  | some h=>if pre i h then val h else sgZ g
  | none=>sgZ g
 else .bad
structure oI (ops:Array a6) (pre:Nat->Nat->Bool) :Prop where
 vE:∀ (i:Nat) (o:a6) (e:Edge),ops[i]?=some o->e∈o.after->Region.binds .any e=true->e.on<i
 chain:∀ (i:Nat) (o:a6) (j:Nat),ops[i]?=some o->pre i j=true->∃ e∈o.after,Region.binds .any e=true/\(e.on=j\/pre e.on j=true)
 one:∀ (i:Nat) (o:a6) (t:Tmp),ops[i]?=some o->o.dst=some t->hF ops t=some i
 acc:∀ (i:Nat) (o:a6) (t:Tmp) (j:Nat),ops[i]?=some o->t∈o.looksAt ops->hF ops t=some j->pre i j=true\/pre j i=true\/j=i
 ab3:Region.noSelect ops=true
def qK (h:aE) (l:List (ag)) :aE:=l.foldl (fun h cs=>h.push (.cells cs.length cs)) h
def lk (h h' : aE) :Prop:=∃ l,h'=qK h l
theorem JA:∀ (l:List (ag)) (h:aE),(qK h l).n=h.n+l.length
 | [],h=>rfl
 | c::l,h=>by
  have:=JA l (h.push (.cells c.length c));simp only[qK,xn,du] at this ⊢;rw[this];simp only[iR];omega
theorem JB:∀ (l:List (ag)) (h:aE) (b:Nat),b<h.n->(qK h l).f b=h.f b
 | [],h,b,_=>rfl
 | c::l,h,b,g=>by
  have:=JB l (h.push (.cells c.length c)) b (by simp only[iR];omega);simp only[qK,xn] at this ⊢;rw[this];simp only[dL];exact bE _ _ _ _ F
theorem Jz:∀ (l:List (ag)) (h:aE),(∀ b,h.n<=b->h.f b=.none)->∀ b,(qK h l).n<=b->(qK h l).f b=.none
 | [],h,g=>g
 | c::l,h,g=>by
  refine Jz l (h.push (.cells c.length c)) (fun b j=>?_);simp only[dL,iR] at j ⊢;rw[bE _ _ _ _ F];exact g b F
theorem lk.n {h h' : aE} (g:lk h h') :h.n<=h'.n:=by obtain⟨l,rfl⟩:=g;rw[JA];omega
theorem lk.same {h h' : aE} (g:lk h h') (b:Nat) (j:b<h.n) :h'.f b=h.f b:=by obtain⟨l,rfl⟩:=g;exact JB l h b j
theorem lk.fresh {h h' : aE} (g:lk h h') (j:∀ b,h.n<=b->h.f b=.none) :∀ b,h'.n<=b->h'.f b=.none:=by obtain⟨l,rfl⟩:=g;exact Jz l h j
inductive ip (h j:aE) :U->U->Prop
 | same (c:U) :ip h j c c
 | ah (cs u:ag) (v:u.length=cs.length) (w:∀ (o:Nat) (c m:U),cs[o]?=some c->u[o]?=some m->ip h j c m) :ip h j (.ah cs) (.ah u)
 | ad (g b p len cap t:Nat) (cs:ag) (q:List (ag)) (z:h.f b=.cells t cs) (B:j.f b=.dead) (v:q.length=len) (D:∀ e∈q,e.length=g)
   (C:p+len*g<=cs.length)
   (w:∀ (i o:Nat) (e:ag) (c m:U),q[i]?=some e->e[o]?=some m->cs[p+(i*g+o)]?=some c->ip h j c m) :ip h j (.ad g b p len cap t) (.bj g q)
 | sl (g b p cap t:Nat) :ip h j (.ad g b p 0 cap t) (.bj g [])
structure ir (h g:aE) :Prop where
 n:g.n=h.n
 blk:∀ b,g.f b=h.f b\/∃ sz cs,h.f b=.cells sz cs/\(g.f b=.dead\/∃ m,g.f b=.cells sz m/\m.length=cs.length/\∀ (j:Nat) (c xT:U),cs[j]?=some c->m[j]?=some xT->ip h g c xT)
inductive J where
 | code (c:Code) (N:Nat) (g:Nat->U) (h:aE) (e:pY) (j:Nat->U) (h' : aE)
 | ops (all:Array a6) (l:List a6) (N:Nat) (g:Nat->U) (h:aE) (j:Nat->U) (h' : aE)
 | op (op:Op) (g:Nat->U) (h:aE) (m:U) (h' : aE)
 | call (f:cb) (args:ag) (h:aE) (r:U) (h' : aE)
def tz (pre:Nat->Nat->Bool) (m:Nat) (g:Nat->Nat) (i k:Nat) :Prop:=k<=m/\(∀ q,q<m->pre i (g q)=true->q<k)/\∀ q,q<m->pre (g q) i=true->k<=q
inductive cV (P:bg) (G:Nat->U) :J->Prop where
 | skip (N g h) :cV P G (.code .skip N g h .normal g h)
 | label (l N g h) :cV P G (.code (.label l) N g h .normal g h)
 | ret (N g h) :cV P G (.code .ret N g h .ret g h)
 | exit (id N g h) :cV P G (.code (.exit id) N g h (.exit id) g h)
 | Kx {a b N g h D h1 e m h'}:cV P G (.code a N g h .normal D h1)->cV P G (.code b N D h1 e m h')->cV P G (.code (.seq a b) N g h e m h')
 | DB {a b N g h e m h'}:cV P G (.code a N g h e m h')->e≠.normal->cV P G (.code (.seq a b) N g h e m h')
 | cond {c x y N g h b e m h'}:di G g c=.bool b->cV P G (.code (if b then x else y) N g h e m h')->cV P G (.code (.cond c x y) N g h e m h')
 | xP {id c N g h e m h'}:cV P G (.code c N g h e m h')->e≠.exit id->cV P G (.code (.block id c) N g h e m h')
 | FG {id c N g h m h'}:cV P G (.code c N g h (.exit id) m h')->cV P G (.code (.block id c) N g h .normal m h')
 | tM {c N g h D h1 e m h'}:cV P G (.code c N g h .normal D h1)->cV P G (.code (.loop c) N D h1 e m h')->cV P G (.code (.loop c) N g h e m h')
 | Cf {c N g h e m h'}:cV P G (.code c N g h e m h')->e≠.normal->cV P G (.code (.loop c) N g h e m h')
 | scope {c N g h e m h'}:cV P G (.code c N g h e m h')->cV P G (.code (.scope c) N g h e m h')
 | region {id ops N g h m h'}:cV P G (.ops ops ops.toList N g h m h')->cV P G (.code (.region id ops false) N g h .normal m h')
 | draw {id ops N g h m h'} (pre:Nat->Nat->Bool) (val:Nat->U) (W:Nat->Bool) (cls:Nat->xC) (p:Nat) (o:Nat->Nat) (v H:Nat->aE) (z:Nat->Nat) (cells:Nat->ag)
   (aq:oI ops pre)
   (V:∀ (i:Nat) (j:a6),ops[i]?=some j->hw N j.dst=true)
   (Q:lk h (v 0)) (ai:h'=v p) (ap:m=fun F=>match hF ops F with | some i=>val i | none=>g F)
   (X:∀ (i:Nat) (j:a6),ops[i]?=some j->W i=true->cls i=.e6->∃ q,q<p/\o q=i)
   (Y:∀ q,q<p->∃ j,ops[o q]?=some j/\W (o q)=true/\cls (o q)=.e6)
   (ak:∀ q B,q<p->B<p->q<B->pre (o B) (o q)=true)
   (ae:∀ q B,q<p->B<p->o q=o B->q=B)
   (ao:∀ (i:Nat) (j:a6),ops[i]?=some j->ij ops (j9 ops pre val g i j) j=some (W i))
   (am:∀ (i:Nat) (j:a6),ops[i]?=some j->W i=false->val i=fz)
   (al:∀ (i:Nat) (j:a6),ops[i]?=some j->W i=true->cls i=.pure->∀ k,tz pre p o i k->cB P (v k) (di G (j9 ops pre val g i j)) j.op=some (.val (val i) (v k)))
   (aj:∀ (i:Nat) (j:a6),ops[i]?=some j->W i=true->cls i=.new->∃ mk,kk P (di G (j9 ops pre val g i j)) j.op=some (cells i,mk)/\val i=mk (z i)/\h.n<=z i ∧
    ∀ k,tz pre p o i k->(v k).f (z i)=.cells (cells i).length (cells i))
   (R:∀ (i t:Nat) (j O:a6),ops[i]?=some j->ops[t]?=some O->W i=true->W t=true->cls i=.new->cls t=.new->z i=z t->i=t)
   (S:∀ (i:Nat) (j:a6) (q:Nat),ops[i]?=some j->W i=true->cls i=.new->q<p->z i<(v q).n\/(H q).n<=z i)
   (Z:∀ q,q<p->lk (H q) (v (q+1)))
   (T:∀ (q:Nat) (j:a6),q<p->ops[o q]?=some j->cV P G (.op j.op (j9 ops pre val g (o q) j) (v q) (val (o q)) (H q))) :
   cV P G (.code (.region id ops true) N g h .normal m h')
 | IX {all N g h}:cV P G (.ops all [] N g h g h)
 | IZ {all j l N g h m h'}:ij all g j=some false->hw N j.dst=true->cV P G (.ops all l N (gw g j.dst fz) h m h')->cV P G (.ops all (j::l) N g h m h')
 | IY {all j l N g h u h1 m h'}:ij all g j=some true->hw N j.dst=true->cV P G (.op j.op g h u h1)->cV P G (.ops all l N (gw g j.dst u) h1 m h')->cV P G (.ops all (j::l) N g h m h')
 | ww {op g h u h'}:cB P h (di G g) op=some (.val u h')->cV P G (.op op g h u h')
 | r4 {op g h f args h1 u h'}:cB P h (di G g) op=some (.call f args h1)->cV P G (.call f args h1 u h')->cV P G (.op op g h u h')
 | zU {op g h u h' K I}:cV P G (.op op g h u h')->ir h' I->ip h' I u K->cV P G (.op op g h K I)
 | inline {f fn c args h e m h' r}:P.funcs[f]?=some fn->fn.body=some c->
   cV P G (.code c (args.length+(fn.ntmps - args.length)) (fun F=>args.getD F fz) h e m h')->(e=.normal\/e=.ret)->uk P h' m fn=some r->cV P G (.call f args h r h')
 | pure {f args h r}:hW P G f args r->ar args=true->cV P G (.call f args h r h)
 | Jv {f args w h r}:hW P G f w r->w.length=args.length->(∀ (t:Nat) (c C:U),args[t]?=some c->w[t]?=some C->fm h c C)->r.flat=true->cV P G (.call f args h r h)
 | ext {f args h r h'}:jq P G f args h r h'->cV P G (.call f args h r h')
 | Jw {f args w h r}:mV P G f w r->w.length=args.length->(∀ (t:Nat) (c C:U),args[t]?=some c->w[t]?=some C->fm h c C)->cV P G (.call f args h r h)
section
variable {P:bg} {G:Nat->U}
structure gF (N:Nat) (w:aO) (R:Nat->Prop) (h:aE) (muZ:bU) (sgZ:Nat->U) (a:Act) :Prop where
 size:a.tmps.size=N
 defers:a.defers=[]
 val:∀ t,az w R h muZ (sgZ t) (a.tmps.getD t undef)
theorem jr.ext {w w' : aO} {R:Nat->Prop} {h h' : aE} {muZ muZ' : bU} (g:jr G w R h muZ) (e:cN w h muZ w' h' muZ') :jr G w' R h' muZ':=fun i=>⟨(g i).1,(g i).2.ext e⟩
theorem gF.ext {N:Nat} {w w' : aO} {R:Nat->Prop} {h h' : aE} {muZ muZ' : bU} {sgZ:Nat->U} {a:Act} (s:gF N w R h muZ sgZ a) (e:cN w h muZ w' h' muZ') :gF N w' R h' muZ' sgZ a:=
 ⟨s.size,s.defers,fun g=>(s.val g).ext e⟩
theorem gF.di {N:Nat} {w:aO} {R:Nat->Prop} {h:aE} {muZ:bU} {sgZ:Nat->U} {a:Act} (s:gF N w R h muZ sgZ a) (g:jr G w R h muZ) (x:aT) :az w R h muZ (di G sgZ x) (a.eval x):=by
 cases x with
 | tmp m=>exact s.val m
 | const o=>exact az.qB o
 | global i=>exact (g i).2
 | func f=>exact .fn f [] [] #[] #[] rfl rfl (fun _ _ _ j=>by simp at j) (fun _ _ _ j=>by simp at j)
theorem w7 {w:aO} {R:Nat->Prop} {h:aE} {muZ:bU}:az w R h muZ fz undef:=.aZ [] #[] rfl (fun _ _ _ g=>by simp at g)
theorem gF.put {N:Nat} {w:aO} {R:Nat->Prop} {h:aE} {muZ:bU} {sgZ:Nat->U} {a:Act} (s:gF N w R h muZ sgZ a) {g:Option Tmp} (o:hw N g=true) {c:U} {v:aB} (q:az w R h muZ c v) :
  gF N w R h muZ (gw sgZ g c) (a.put g v):=by
 cases g with
 | none=>exact s
 | some d=>
  have p:d<a.tmps.size:=by rw[s.size];simpa [hw] using o
  refine⟨by simp[Act.put,s.size],s.defers,fun m=>?_⟩;simp only[gw,Act.put];by_cases j:m=d
  ·subst j;rw[fJ];simp[p];exact q
  ·rw[bE _ _ _ _ j];have:=s.val m;simpa [Em (Ne.symm j)] using this
theorem Eh {w:aO} {R:Nat->Prop} {h:aE} {muZ:bU} {ops:Array a6} {sgZ:Nat->U} {tmps:Array aB} {o:a6} {b:Bool} (g:ij ops sgZ o=some b)
  (C:∀ d,(∃ j z,o.guard=some (j,z)/\(ops[j]?).bind (·.dst)=some d)->az w R h muZ (sgZ d) (tmps.getD d undef)) :Region.wanted o (yielded ops tmps)=b:=by
 unfold ij at g;unfold Region.wanted;cases t:o.guard with
 | none=>rw[t] at g;simpa using g
 | some D=>
  obtain⟨j,z⟩:=D;rw[t] at g;simp only at g ⊢;unfold yielded;cases q:(ops[j]?).bind (·.dst) with
  | none=>
   rw[q] at g;cases g;simp
  | some d=>
   rw[q] at g;have m:=C d ⟨j,z,t,q⟩;simp only[pW] at g ⊢;cases B:tmps[d]? with
   | none=>
    have u:tmps.getD d undef=undef:=by simp[g6,B]
    rw[u] at m;cases p:sgZ d<;>rw[p] at g m<;>simp at g<;>try (subst g;simp)
    all_goals cases m
   | some v=>
    have u:tmps.getD d undef=v:=by simp[g6,B]
    rw[u] at m;cases p:sgZ d<;>rw[p] at g m<;>simp at g
    all_goals (cases m<;>(subst g;simp))
def lf (P:bg) (n:Nat) (c:Code) (Q:Exit->Act->aO->Prop) (a:Act) (w:aO) :Prop:=
 match c with
 | .loop g=>Code.rounds P g Q n a w
 | c=>c.wp P Q a w
theorem lf.wp {n:Nat} {c:Code} {Q:Exit->Act->aO->Prop} {a:Act} {w:aO} (h:lf P n c Q a w) :c.wp P Q a w:=by cases c<;>first | exact wp_loop_rounds n h | exact h
def rn (P:bg) (G:Nat->U) :J->Prop
 | .code c N m h e p h'=>∃ n,∀ (g:Nat->Prop) (B:Nat) (w:aO) (muZ:bU) (a:Act) (Q:Exit->Act->aO->Prop),bu g B w h muZ->jr G w g h muZ->gF N w g h muZ m a->
   (∀ j w' muZ',cN w h muZ w' h' muZ'->bu g B w' h' muZ'->gF N w' g h' muZ' p j->Q e.out j w')->lf P n c Q a w
 | .ops all l N m h p h'=>∀ (g:Nat->Prop) (B:Nat) (w:aO) (muZ:bU) (a:Act) (Q:Exit->Act->aO->Prop),bu g B w h muZ->jr G w g h muZ->gF N w g h muZ m a->
   (∀ j w' muZ',cN w h muZ w' h' muZ'->bu g B w' h' muZ'->gF N w' g h' muZ' p j->Q .normal j w')->wpList P all Q l a w
 | .op op m h u h'=>∀ (g:Nat->Prop) (B:Nat) (w:aO) (muZ:bU) (a:Act) (o:a6) (q:Act->aO->Prop) (Q:Exit->Act->aO->Prop),o.op=op->bu g B w h muZ->jr G w g h muZ->
   (∀ x,az w g h muZ (di G m x) (a.eval x))->(∀ t w' muZ',cN w h muZ w' h' muZ'->bu g B w' h' muZ'->az w' g h' muZ' u t->q (a.put o.dst t) w')->o.wp P a w q Q
 | .call f args h r h'=>jq P G f args h r h'
theorem J9 {N:Nat} {w:aO} {R:Nat->Prop} {B:Nat} {h:aE} {muZ:bU} {sgZ:Nat->U} {a:Act} (rel:bu R B w h muZ) (s:gF N w R h muZ sgZ a) {fn:Func} {r:U} (z:uk P h sgZ fn=some r) :
  ∃ v,(results fn a.tmps).run P w=.ok v w/\az w R h muZ r v:=by
 have one:∀ (x:ResultVar) (c:U),ul P h sgZ x=some c->∃ v,(∀ j:ResultVar->Sem aB,(∀ g,j (.tmp g)=pure (a.tmps.getD g undef))->(∀ p g,j (.cell p g)=(do loadVar g (<-asAddr (a.tmps.getD p undef))))->(j x).run P w=.ok v w)/\az w R h muZ c v:=by
  intro x c C;cases x with
  | tmp g=>
   simp only[ul,bc] at C;subst C;exact⟨_,fun j h1 _=>by rw[h1];rfl,s.val g⟩
  | cell p g=>
   simp only[ul] at C;obtain⟨v,h1,q⟩:=H7 (P:=P) rel C (s.val p);refine⟨v,fun j _ Z=>?_,q⟩;rw[Z];cases I:a.tmps.getD p undef with
   | pointer K=>
    cases K with
    | none=>rw[I] at h1;simp[Instr.loadAt,Instr.sureAddr] at h1
    | some K=>rw[I] at h1;simpa [Instr.loadAt,Instr.sureAddr,asAddr,I] using h1
   | _=>rw[I] at h1;simp[Instr.loadAt,Instr.sureAddr] at h1
 have all:∀ (l:List ResultVar) (cs:ag),qN P h sgZ l=some cs->∃ m:List aB,(∀ j:ResultVar->Sem aB,(∀ g,j (.tmp g)=pure (a.tmps.getD g undef))->(∀ p g,j (.cell p g)=(do loadVar g (<-asAddr (a.tmps.getD p undef))))->(l.mapM j).run P w=.ok m w) ∧
   m.length=cs.length/\∀ (o:Nat) (c:U) (v:aB),cs[o]?=some c->m[o]?=some v->az w R h muZ c v:=by
  intro l
  induction l with
  | nil=>intro cs u;simp only[qN,bc] at u;subst u;exact⟨[],fun j _ _=>V,rfl,fun _ _ _ H=>by simp at H⟩
  | cons x l aj=>
   intro cs u;unfold qN at u;split at u
   ·rename_i c W C G;cases u;obtain⟨v,h1,q⟩:=one x c C;obtain⟨m,t,X,Y⟩:=aj W G;refine⟨v::m,fun j Q S=>by simp only[oC,Sem.run_bind,h1 j Q S,Result.andThen_ok,t j Q S,Sem.run_pure],by simp[X],fun o O T D J=>?_⟩;cases o with
    | zero=>simp at D J;subst D J;exact q
    | succ o=>exact Y o O T (by simpa using D) (by simpa using J)
   ·cases u
 unfold uk at z;cases G:qN P h sgZ fn.results.toList with
 | none=>rw[G] at z;cases z
 | some cs=>
  rw[G] at z;simp only[cu,bc] at z;subst z;obtain⟨m,h1,q,t⟩:=all _ _ G;have ae:(results fn a.tmps).run P w=.ok (if H:m.toArray.size=1 then m.toArray[0] else .tuple m.toArray) w:=by
   unfold results;rw[Me];simp only[Sem.run_bind,Sem.run_map];rw[h1 _ (fun _=>rfl) (fun _ _=>rfl)];simp
  refine⟨_,ae,?_⟩
  match cs,m,q,t with
  | [],[],_,_=>exact .aZ [] #[] rfl (fun _ _ _ H=>by simp at H)
  | [c],[v],_,t=>exact t 0 c v rfl rfl
  | c::O::cs,v::T::m,q,t=>
   simp only[xv,du];rw[dif_neg F];exact .aZ _ _ (by simpa using q) (fun o x y D ai=>t o x y D (by simpa using ai))
theorem m3 {w:aO} {R:Nat->Prop} {h:aE} {muZ:bU} {c:U} {v:aB} (z:az w R h muZ c v) :c.ax=true->c5 w (fun k=>R k/\¬ Own h muZ k) c v:=by
 have u:∀ (cs:ag),ar cs=true->∀ (m:Nat) (c:U),cs[m]?=some c->c.ax=true:=by
  intro cs
  induction cs with
  | nil=>intro _ m c j;simp at j
  | cons x cs o=>
   intro g m c j;simp only[ar,bN] at g;cases m with
   | zero=>simp at j;subst j;exact g.1
   | succ m=>exact o g.2 m c (by simpa using j)
 have W:∀ (q:List (ag)),nV q=true->∀ (i:Nat) (e:ag),q[i]?=some e->ar e=true:=by
  intro q
  induction q with
  | nil=>intro _ m c j;simp at j
  | cons x cs o=>
   intro g m c j;simp only[nV,bN] at g;cases m with
   | zero=>simp at j;subst j;exact g.1
   | succ m=>exact o g.2 m c (by simpa using j)
 have J:∀ b B v,Cell w R h muZ b B v->Cell w (fun k=>R k/\¬ Own h muZ k) aE.empty (fun _=>none) b B v:=fun b B v g=>
  ⟨g.here,g.one,⟨g.ro,g.free⟩,fun ⟨b,aj,h1,K,ai⟩=>by cases K⟩
 unfold c5
 induction z with
 | bool b=>exact fun _=>.bool b
 | int k n=>exact fun _=>.int k n
 | str P=>exact fun _=>.str P
 | h8=>exact fun _=>.h8
 | af=>exact fun _=>.af
 | gP=>exact fun _=>.gP
 | hP=>exact fun _=>.hP
 | hz=>exact fun _=>.hz
 | ah cs H D h1 z o=>exact fun g=>.ah cs H D h1 fun m c v j t=>o m c v j t (u cs (by simpa [U.ax] using g) m c j)
 | aZ cs H D z o=>exact fun g=>.aZ cs H D fun m c v j t=>o m c v j t (u cs (by simpa [U.ax] using g) m c j)
 | ptr=>exact fun g=>by simp[U.ax] at g
 | iQ=>exact fun g=>by simp[U.ax] at g
 | bR cs F C B G g z o=>exact fun p=>.bR cs F C B G (fun m j=>J _ _ _ (g m j)) fun m c j=>o m c j (u cs (by simpa [U.ax] using p) m c j)
 | ad=>exact fun g=>by simp[U.ax] at g
 | e9=>exact fun g=>by simp[U.ax] at g
 | gh=>exact fun g=>by simp[U.ax] at g
 | bj I q C F cap G V X g z o=>exact fun p=>.bj I q C F cap G V X (fun i m T j=>J _ _ _ (g i m T j)) fun i e O m c j=>o i e O m c j (u e (W q (by simpa [U.ax] using p) i e O) m c j)
 | eB I a cap=>exact fun _=>.eB I a cap
 | fn f first eZ Q cs S g h1 K Y Z=>
  intro p;simp only[U.ax,bN] at p;exact .fn f first eZ Q cs S g (fun m c v j t=>Y m c v j t (u _ p.1 m c j)) fun m c v j t=>Z m c v j t (u _ p.2 m c j)
 | mp=>exact fun g=>by simp[U.ax] at g
 | it=>exact fun g=>by simp[U.ax] at g
 | fT ae c v z o=>exact fun p=>.fT ae c v (o (by simpa [U.ax] using p))
 | fa l=>exact fun _=>.fa l
 | bad v=>exact fun _=>.bad v
theorem rx {cs:ag} (h:ar cs=true) :∀ (j:Nat) (c:U),cs[j]?=some c->c.ax=true:=by
 induction cs with
 | nil=>intro j c g;simp at g
 | cons x cs m=>
  intro j c g;simp only[ar,bN] at h;cases j with
  | zero=>simp at g;subst g;exact h.1
  | succ j=>exact m h.2 j c (by simpa using g)
theorem c5.up {w:aO} {A:Nat->Prop} {R:Nat->Prop} {h:aE} {muZ:bU} {c:U} {v:aB} (t:c5 w A c v) (O:∀ k,k<w.heap.size->A k->R k/\¬ Own h muZ k) :az w R h muZ c v:=by
 have K:∀ b z v,Cell w A aE.empty (fun _=>none) b z v->Cell w R h muZ b z v:=fun b z v g=>
  have q:b<w.heap.size:=World.block_lt_of_cell? _ _ g.here
  ⟨g.here,g.one,(O b q g.ro).1,(O b q g.ro).2⟩
 unfold c5 at t
 induction t with
 | bool b=>exact .bool b
 | int k n=>exact .int k n
 | str P=>exact .str P
 | h8=>exact .h8
 | af=>exact .af
 | gP=>exact .gP
 | hP=>exact .hP
 | hz=>exact .hz
 | ah cs J G h1 t o=>exact .ah cs J G h1 o
 | aZ cs J G t o=>exact .aZ cs J G o
 | ptr b p C cs B q m=>cases m
 | iQ b p C a j=>rcases j with j | ⟨n,cs,j,_⟩<;>cases j
 | bR cs p D z I g t o=>exact .bR cs p D z I (fun H F=>K _ _ _ (g H F)) o
 | ad u b p len cap C Q cs B q m=>cases m
 | e9 u b p len cap C Q a aj g j=>rcases j with j | ⟨n,cs,j,_⟩<;>cases j
 | gh u b p C a cs B q m=>cases m
 | bj u S D p cap I X Y g t o=>exact .bj u S D p cap I X Y (fun i H W F=>K _ _ _ (g i H W F)) o
 | eB u a cap=>exact .eB u a cap
 | fn f first eZ T cs V g h1 ai Z ae=>exact .fn f first eZ T cs V g Z ae
 | mp b B q m=>cases m
 | it b B q m=>cases m
 | fT ag c v t o=>exact .fT ag c v o
 | fa l=>exact .fa l
 | bad v=>exact .bad v
theorem I5 {R:Nat->Prop} {B:Nat} {w:aO} {h:aE} {muZ:bU} (rel:bu R B w h muZ) {k:Nat} (j:Own h muZ k) :k<w.heap.size:=by obtain⟨b,m,h1,g,rfl⟩:=j;exact rel.lt h1 g
theorem py {R:Nat->Prop} {B:Nat} {w w' : aO} {h:aE} {muZ:bU} (rel:bu R B w h muZ) (g:eo w w') :cN w h muZ w' h muZ/\bu R B w' h muZ:=by
 have e:cN w h muZ w' h muZ:=⟨⟨g.os,g.tape,g.output,g.size,fun k hk _=>g.block k hk,fun _ u=>.inl u,fun b v cs p h1 m=>.inl ⟨cs,h1,m⟩,fun _ _ t=>t,fun _ _ _ h1 m=>⟨h1,m⟩,aF _,g.drawn⟩,fun _ _ j=>j⟩
 refine⟨e,fun b p j=>?_,rel.inj,rel.base,rel.fresh,rel.up,dC rel.size g.size,rel.iA⟩;cases o:live (h.f b) with
 | false=>cases q:h.f b<;>first | trivial | (rw[q] at o;cases o)
 | true=>exact (rel.blk b p j).ext e.toExt0 (g.block _ (rel.lt o j))
theorem JU {w:aO} {R:Nat->Prop} {B:Nat} {h:aE} {muZ:bU} (rel:bu R B w h muZ) :∀ {c c' : U},fm h c c'->∀ {v:aB},az w R h muZ c v->c5 w R c' v:=by
 intro c c' ap;have Z:∀ {b P:Nat} {cs:ag} {j:M},h.f b=.cells P cs->muZ b=some j->∃ f:Nat->aB,∀ (g:Nat) (c:U),cs[g]?=some c->Cell w R aE.empty (fun _=>none) j.r (j.s+g) (f g)/\az w R h muZ c (f g):=by
  intro b P cs j t C;have hblk:=rel.blk b j C;rw[t] at hblk;obtain⟨aw,au,arr,aC,ar,aq,av,H,al⟩:=hblk;have aj:R j.r:=rel.up _ (rel.base b j (by rw[t];rfl) C);refine⟨fun g=>(arr[j.s+g]?).getD undef,fun g c m=>?_⟩;obtain⟨v,h1,O,T⟩:=al _ _ m;refine⟨⟨?_,by simp only[h1,gU];exact O,aj,fun ⟨b,j,h1,O,T⟩=>by cases O⟩,by simp only[h1,gU];exact T⟩;simp only[World.cell?,aq,h1,gU,rh];rfl
 induction ap with
 | same c G=>
  intro v p;exact (c5.up (m3 p G) fun k _ hk=>⟨hk.1,fun ⟨b,j,h1,O,T⟩=>by cases O⟩:az w R aE.empty (fun _=>none) _ v)
 | ah cs K u h D=>
  intro v p;cases p with
  | ah _ X am h1 p=>
   refine .ah K X F h1 (fun g c' v m W=>?_);have q:g<cs.length:=by rw[<-u];exact (aH.1 m).1
   exact D g cs[g] c' (bC q) m (p g cs[g] v (bC q) W)
 | aZ cs K u h D=>
  intro v p;cases p with
  | aZ _ X am p=>
   refine .aZ K X F (fun g c' v m W=>?_);have q:g<cs.length:=by rw[<-u];exact (aH.1 m).1
   exact D g cs[g] c' (bC q) m (p g cs[g] v (bC q) W)
 | sl z b J cap P=>
  intro v p;cases p with
  | ad _ _ _ _ _ _ cap' cs j t C u ao G=>exact .eB z _ cap'
  | e9 _ _ _ _ _ _ cap' a u G o=>exact .eB z _ cap'
  | gh _ _ _ _ a cs j t C=>exact .eB z a 0
 | ptr b J P cs K t u h D=>
  intro v p;cases p with
  | iQ _ _ _ a o=>
   exfalso;rcases o with o | ⟨n,Q,o,q⟩
   ·rw[t] at o;cases o
   ·rw[t] at o;cases o;omega
  | ptr _ _ _ Q j Y C=>
   obtain⟨f,H⟩:=Z t C;refine .bR K J j.r j.s f (fun g m=>?_) (fun g c' m=>?_)
   ·exact (H g cs[g] (bC F)).1
   ·have q:g<cs.length:=by rw[<-u];exact (aH.1 m).1
    exact D g cs[g] c' (bC q) m (H g cs[g] (bC q)).2
 | ad z b J len cap P cs S t u ai ax h D=>
  intro v p;cases p with
  | gh _ _ _ _ a Q j Y aA=>
   obtain rfl:=il.1 u;exact .eB z a 0
  | e9 _ _ _ _ _ _ cap' a u G o=>
   exfalso;rcases o with o | ⟨n,Q,o,q⟩
   ·rw[t] at o;cases o
   ·rw[t] at o;cases o;omega
  | ad _ _ _ _ _ _ cap' Q j Y C ay ao G=>
   have ak:len<=cap':=by rcases G with ⟨_,h⟩ | ⟨_,h,_⟩<;>omega
   obtain⟨f,H⟩:=Z t C;subst u;have q:∀ i g,i<S.length->g<z->J+(i*z+g)<cs.length:=by
    intro i g I m;have:i*z+z<=S.length*z:=by rw[<-ec];exact cj _ I
    omega
   refine .bj z S j.r (j.s+J) cap' (fun i g=>f (J+(i*z+g))) ak ai (fun i g I m=>?_) (fun i e V g c' m=>?_)
   ·have:=(H _ _ (bC (q i g I m))).1;rw[<-iE] at this;exact this
   ·have I:i<S.length:=(aH.1 V).1;have ae:g<z:=by rw[<-ai e (cz V)];exact (aH.1 m).1
    exact D i g e _ c' V m (bC (q i g I ae)) (H _ _ (bC (q i g I ae))).2
theorem yf:∀ {cs:ag},ka cs=true->∀ (j:Nat) (c:U),cs[j]?=some c->c.flat=true:=by
 intro cs
 induction cs with
 | nil=>intro _ j c h;simp at h
 | cons x cs o=>
  intro g j c m;simp only[ka,bN] at g;cases j with
  | zero=>simp at m;subst m;exact g.1
  | succ j=>exact o g.2 j c (by simpa using m)
theorem G7 {w w' : aO} {A R:Nat->Prop} {h h' : aE} {muZ muZ' : bU} {c:U} {v:aB} (p:az w A h muZ c v) (o:c.flat=true) :az w' R h' muZ' c v:=by
 induction p with
 | bool b=>exact .bool b
 | int k n=>exact .int k n
 | str z=>exact .str z
 | h8=>exact .h8
 | af=>exact .af
 | gP=>exact .gP
 | hP=>exact .hP
 | hz=>exact .hz
 | ah cs u t h1 p j=>exact .ah cs u t h1 (fun m c v g q=>j m c v g q (yf (by simpa only [U.flat] using o) m c g))
 | aZ cs u t p j=>exact .aZ cs u t (fun m c v g q=>j m c v g q (yf (by simpa only [U.flat] using o) m c g))
 | fT B c v p j=>exact .fT B c v (j (by simpa only [U.flat] using o))
 | fa l=>exact .fa l
 | _=>simp[U.flat] at o
theorem Ua {f:cb} {args g:ag} {r:U} {h:aE} (H:hW P G f g r) (D:g.length=args.length) (J:∀ (j:Nat) (c c' : U),args[j]?=some c->g[j]?=some c'->fm h c c')
  (z:r.flat=true) :rn P G (.call f args h r h):=by
 intro o B w muZ R rel p T K;refine (H w o R (fun i=>?_) F (fun j c' m q C=>?_)).mono ?_
 ·exact (c5.up (m3 (p i).2 (p i).1) fun k _ hk=>⟨hk.1,fun ⟨b,V,h1,u,S⟩=>by cases u⟩:az w o aE.empty (fun _=>none) _ _)
 ·have t:j<args.length:=by rw[<-D];exact (aH.1 q).1
  exact JU rel (J j args[j] c' (bC t) q) (K j args[j] m (bC t) C)
 ·rintro e w' ⟨m,rfl,v,I⟩;obtain⟨O,Q⟩:=py rel v;exact⟨m,muZ,rfl,O,Q,G7 I z⟩
theorem Ub {f:cb} {args g:ag} {r:U} {h:aE} (I:mV P G f g r) (D:g.length=args.length) (K:∀ (j:Nat) (c c' : U),args[j]?=some c->g[j]?=some c'->fm h c c') :rn P G (.call f args h r h):=by
 intro o B w muZ S rel p V O;refine (I w o S (fun i=>?_) F (fun j c' m q C=>?_)).mono ?_
 ·exact (c5.up (m3 (p i).2 (p i).1) fun k _ hk=>⟨hk.1,fun ⟨b,W,h1,u,T⟩=>by cases u⟩:az w o aE.empty (fun _=>none) _ _)
 ·have t:j<args.length:=by rw[<-D];exact (aH.1 q).1
  exact JU rel (K j args[j] c' (bC t) q) (O j args[j] m (bC t) C)
 ·rintro e w' ⟨m,rfl,z,J⟩;obtain⟨Q,R⟩:=py rel z;exact⟨m,muZ,rfl,Q,R,J.up fun k hk v=>⟨rel.up k (dC rel.size v),fun H=>by have:=I5 rel H;omega⟩⟩
theorem mV.zN {f:cb} {args:ag} {r:U} (o:mV P G f args r) :hW P G f args r:=fun w A t j m p=>
 (o w A t j m p).mono fun e w' ⟨q,h1,g,h⟩=>⟨q,h1,g,(c5.up h fun k _ hk=>⟨.inr hk,fun ⟨b,u,h1,g,h⟩=>by cases g⟩:az w' _ aE.empty (fun _=>none) _ _)⟩
theorem Uc {f:cb} {args:ag} {r:U} {h:aE} (D:hW P G f args r) (u:ar args=true) :rn P G (.call f args h r h):=by
 intro q B w muZ K rel m z H;refine (D w (fun k=>q k/\¬ Own h muZ k) K (fun i=>?_) z (fun p c j o v=>m3 (H p c j o v) (rx u p c o))).mono ?_
 ·exact m3 (m i).2 (m i).1
 ·rintro e w' ⟨j,rfl,t,F⟩;obtain⟨I,J⟩:=py rel t;refine⟨j,muZ,rfl,I,J,F.up (fun k hk g=>?_)⟩;rcases g with g | g
  ·exact g
  ·exact⟨rel.up k (dC rel.size g),fun C=>by have:=I5 rel C;omega⟩
end
section
variable {P:bg} {G:Nat->U}
theorem SH {w:aO} {R:Nat->Prop} {h:aE} {muZ:bU} {I:aT->U} {S:aT->aB} (H:∀ x,az w R h muZ (I x) (S x)) (o:a6) {cs:ag} {mk:Nat->U} (g:kk P I o.op=some (cs,mk)) :
  ∃ v arr t,(execOp S o).run P w=.ok (.value v) (w.alloc (.cells arr t))/\iI w R h muZ cs arr ∧
   ∀ (w' : aO) (p:Nat->Prop) (h' : aE) (muZ' : bU) (b:Nat),h'.f b=.cells cs.length cs->muZ' b=some ⟨w.heap.size,0,arr.size⟩->az w' p h' muZ' (mk b) v:=by
 obtain⟨aC,op,type,pos,ax,guard⟩:=o;cases op<;>simp only[kk] at g<;>try (cases g;done)
 case alloc t=>
  cases j:fV P t with
  | none=>rw[j] at g;cases g
  | some m=>
   rw[j] at g;simp only[cu,bc,Prod.mk.injEq] at g;obtain⟨rfl,rfl⟩:=g;obtain⟨v,ar,ap⟩:=q4 (P:=P) (w:=w) (R:=R) (h:=h) (muZ:=muZ) j;refine⟨.pointer (some ⟨w.heap.size,0,none⟩),v.cells,t,by simp[execOp,Instr.alloc,ar,newVar,newRow],ap,fun w' p h' muZ' b q u=>?_⟩;have:=az.ptr (w:=w') (R:=p) (h:=h') (muZ:=muZ') b 0 m.length m _ q u;simpa using this
 case box t x=>
  cases j:(I x).cells with
  | none=>rw[j] at g;cases g
  | some m=>
   rw[j] at g;simp only[cu,bc,Prod.mk.injEq] at g;obtain⟨rfl,rfl⟩:=g;obtain⟨O,Q⟩:=xV (H x) j;refine⟨.pointer (some ⟨w.heap.size,0,none⟩),(S x).cells,t,by simp[execOp,Instr.box,newVar,newRow],⟨O,Q⟩,fun w' p h' muZ' b q u=>?_⟩;have:=az.ptr (w:=w') (R:=p) (h:=h') (muZ:=muZ') b 0 m.length m _ q u;simpa using this
 case buildSlice t len parts=>
  cases B:gb P t with
  | none=>rw[B] at g;cases g
  | some e=>
  rw[B] at g;simp only at g;cases j:b3 P e with
  | none=>rw[j] at g;cases g
  | some m=>
  cases z:fV P e with
  | none=>rw[j,z] at g;cases g
  | some zero=>
  rw[j,z] at g;simp only at g;split at g
  ·rename_i G;cases J:ef (fun i=>some (i*m,m)) (cy zero len) (parts.toList.map fun Z=>(Z.1,I Z.2)) with
   | none=>rw[J] at g;cases g
   | some aA=>
    rw[J] at g;simp only[cu,bc,Prod.mk.injEq] at g;obtain⟨rfl,rfl⟩:=g;obtain⟨O,Q⟩:=CN H parts;obtain⟨V,arr,K,T⟩:=FL B j z G.1 G.2 J O Q;refine⟨.slice (some ⟨w.heap.size,0,none⟩) len len,arr,e,by simp[execOp,K],T,fun w' p h' muZ' b q u=>?_⟩;rw[V] at q;have:=az.ad (w:=w') (R:=p) (h:=h') (muZ:=muZ') m b 0 len len (len*m) len _ _ q u (aF _) F (.inr ⟨F,aF _,by simp only;rw[T.1,V];omega⟩);simpa using this
  ·cases g
 case makeSlice t l c=>
  split at g
  ·rename_i e Y C B am aj;obtain⟨aw,ao⟩:=nR am (H l);obtain⟨av,ak⟩:=nR aj (H c);cases j:b3 P e with
   | none=>rw[j] at g;cases g
   | some m=>
   cases D:gG P e with
   | none=>rw[j,D] at g;cases g
   | some ay=>
   cases z:fV P e with
   | none=>rw[j,D,z] at g;cases g
   | some zero=>
   rw[j,D,z] at g;simp only at g;split at g
   ·rename_i G;obtain⟨au,ae,al,ai,aq⟩:=G;simp only[bc,Prod.mk.injEq] at g;obtain⟨rfl,rfl⟩:=g;obtain⟨W,arr,K,X⟩:=Ie (w:=w) (R:=R) (h:=h) (muZ:=muZ) (kl:=aw) (kc:=av) B j D z au ae al ai aq;refine⟨.slice (some ⟨w.heap.size,0,none⟩) Y.toNat C.toNat,arr,e,by simp[execOp,ao,ak,K],X,fun w' p h' muZ' b q u=>?_⟩;rw[W] at q;have:=az.ad (w:=w') (R:=p) (h:=h') (muZ:=muZ') m b 0 Y.toNat C.toNat (C.toNat*m) C.toNat _ _ q u F F (.inr ⟨F,aF _,by simp only;rw[X.1,W];omega⟩);simpa using this
   ·cases g
  ·cases g
theorem lk.rel {R:Nat->Prop} {B:Nat} {w:aO} {h h' : aE} {muZ:bU} (g:lk h h') (rel:bu R B w h muZ) :cN w h muZ w h' muZ/\bu R B w h' muZ:=by
 have t:∀ b m,muZ b=some m->b<h.n:=fun b m j=>rel.j2 j
 have e:cN w h muZ w h' muZ:=by
  refine⟨⟨rfl,rfl,rfl,aF _,fun _ _ _=>rfl,?_,?_,?_,?_,g.n,aF _⟩,fun _ _ j=>j⟩
  ·rintro k ⟨b,m,q,j,rfl⟩;rw[g.same b (t b m j)] at q;exact .inl ⟨b,m,q,j,rfl⟩
  ·intro b G cs m p j;exact .inl ⟨cs,by rw[g.same b (t b m j)];exact p,j⟩
  ·rintro b G o;have p:b<h.n:=by
    rcases fB b h.n with h1 | h1
    ·exact h1
    ·have:=rel.fresh b h1;rcases o with o | ⟨n,cs,o,_⟩<;>rw[this] at o<;>cases o
   rcases o with o | ⟨n,cs,o,D⟩
   ·exact .inl (by rw[g.same b p];exact o)
   ·exact .inr ⟨n,cs,by rw[g.same b p];exact o,D⟩
  ·intro b k m p j;exact⟨by rw[g.same b (t b m j)];exact p,j⟩
 refine⟨e,fun b m j=>?_,fun b u m C q v j z F=>?_,fun b m q j=>?_,g.fresh rel.fresh,rel.up,rel.size,fun b p=>rel.iA b (dC g.n p)⟩
 ·rw[g.same b (t b m j)];exact (rel.blk b m j).ext e.toExt0 rfl
 ·rw[g.same b (t b m j)] at q;rw[g.same u (t u C z)] at v;exact rel.inj b u m C q v j z F
 ·rw[g.same b (t b m j)] at q;exact rel.base b m q j
theorem Lj {K:Act->aO->Prop} {Q:Exit->Act->aO->Prop} {e:pY} {a:Act} {w:aO} (g:e≠.normal) (h:Q e.out a w) :Exit.then K Q e.out a w:=by
 cases e with
 | normal=>exact bK rfl g
 | exit id=>exact h
 | ret=>exact h
theorem N1 {id:Nat} {Q:Exit->Act->aO->Prop} {e:pY} {a:Act} {w:aO} (g:e≠.exit id) (h:Q e.out a w) :Exit.inBlock id Q e.out a w:=by
 cases e with
 | normal=>exact h
 | exit m=>
  have:m≠id:=fun j=>g (by rw[j])
  simpa [Exit.inBlock,pY.out,this] using h
 | ret=>exact h
def EU (P:bg) (G:Nat->U) :Prop:=
 ∀ {id:Nat} {ops:Array a6} {N:Nat} {u:Nat->U} {h:aE} {z:Nat->U} {h' : aE} (pre:Nat->Nat->Bool) (val:Nat->U) (W:Nat->Bool) (cls:Nat->xC) (m:Nat) (j:Nat->Nat) (o w:Nat->aE) (p:Nat->Nat) (cells:Nat->ag),
  oI ops pre->
  (∀ (i:Nat) (g:a6),ops[i]?=some g->hw N g.dst=true)->
  lk h (o 0)->h'=o m->(z=fun B=>match hF ops B with | some i=>val i | none=>u B)->
  (∀ (i:Nat) (g:a6),ops[i]?=some g->W i=true->cls i=.e6->∃ q,q<m/\j q=i)->
  (∀ q,q<m->∃ g,ops[j q]?=some g/\W (j q)=true/\cls (j q)=.e6)->
  (∀ q t,q<m->t<m->q<t->pre (j t) (j q)=true)->
  (∀ q t,q<m->t<m->j q=j t->q=t)->
  (∀ (i:Nat) (g:a6),ops[i]?=some g->ij ops (j9 ops pre val u i g) g=some (W i))->
  (∀ (i:Nat) (g:a6),ops[i]?=some g->W i=false->val i=fz)->
  (∀ (i:Nat) (g:a6),ops[i]?=some g->W i=true->cls i=.pure->∀ k,tz pre m j i k->cB P (o k) (di G (j9 ops pre val u i g)) g.op=some (.val (val i) (o k)))->
  (∀ (i:Nat) (g:a6),ops[i]?=some g->W i=true->cls i=.new->∃ mk,kk P (di G (j9 ops pre val u i g)) g.op=some (cells i,mk)/\val i=mk (p i)/\h.n<=p i ∧
    ∀ k,tz pre m j i k->(o k).f (p i)=.cells (cells i).length (cells i))->
  (∀ (i v:Nat) (g C:a6),ops[i]?=some g->ops[v]?=some C->W i=true->W v=true->cls i=.new->cls v=.new->p i=p v->i=v)->
  (∀ (i:Nat) (g:a6) (q:Nat),ops[i]?=some g->W i=true->cls i=.new->q<m->p i<(o q).n\/(w q).n<=p i)->
  (∀ q,q<m->lk (w q) (o (q+1)))->
  (∀ (q:Nat) (g:a6),q<m->ops[j q]?=some g->rn P G (.op g.op (j9 ops pre val u (j q) g) (o q) (val (j q)) (w q)))->
  rn P G (.code (.region id ops true) N u h .normal z h')
theorem ir.ext {h B:aE} (k:ir h B) (w:aO) (muZ:bU) :cN w h muZ w B muZ:=by
 refine⟨⟨rfl,rfl,rfl,aF _,fun _ _ _=>rfl,?_,?_,?_,?_,Au k.n.symm,aF _⟩,fun _ _ o=>o⟩
 ·rintro r ⟨b,v,F,o,rfl⟩;refine .inl ⟨b,v,?_,o,rfl⟩;rcases k.blk b with m | ⟨D,cs,j,_⟩
  ·rw[<-m];exact F
  ·rw[j];rfl
 ·intro b D cs v g o;rcases k.blk b with m | ⟨z,p,j,u | ⟨q,t,_⟩⟩
  ·exact .inl ⟨cs,by rw[m];exact g,o⟩
  ·exact .inr (.inl u)
  ·rw[g] at j;cases j;exact .inl ⟨q,t,o⟩
 ·rintro b D (g | ⟨n,cs,g,C⟩)
  ·rcases k.blk b with m | ⟨z,p,j,_⟩
   ·exact .inl (m.trans g)
   ·rw[g] at j;cases j
  ·rcases k.blk b with m | ⟨z,p,j,u | ⟨q,t,_⟩⟩
   ·exact .inr ⟨n,cs,by rw[m];exact g,C⟩
   ·exact .inl u
   ·rw[g] at j;cases j;exact .inr ⟨n,q,t,C⟩
 ·intro b G v g o;rcases k.blk b with m | ⟨z,p,j,_⟩
  ·exact⟨by rw[m];exact g,o⟩
  ·rw[j] at g;cases g
theorem ir.live {h g:aE} (k:ir h g) {b:Nat} (o:live (g.f b)=true) :live (h.f b)=true:=by
 rcases k.blk b with m | ⟨p,cs,j,_⟩
 ·rw[<-m];exact o
 ·rw[j];rfl
theorem ir.ky {R:Nat->Prop} {B:Nat} {w:aO} {h m:aE} {muZ:bU} (rel:bu R B w h muZ) (k:ir h m) :∀ {c P:U},ip h m c P->∀ {v:aB},az w R h muZ c v->az w R m muZ P v:=by
 intro c P av
 induction av with
 | same c=>intro v o;exact o.ext (k.ext w muZ)
 | ah cs ai C h V=>
  intro v o;cases o with
  | ah _ aC aM h1 o=>
   refine .ah ai aC F h1 (fun g O v q ao=>?_);have D:g<cs.length:=by rw[<-C];exact (aH.1 q).1
   exact V g cs[g] O (bC D) q (o g cs[g] v (bC D) ao)
 | sl z b t cap aA=>
  intro v o;cases o with
  | ad _ _ _ _ _ _ cap' cs j u H C au K=>exact .eB z _ cap'
  | e9 _ _ _ _ _ _ cap' a C K p=>exact .eB z _ cap'
  | gh _ _ _ _ a cs j u H=>exact .eB z a 0
 | ad z b t len cap aA cs I u am C ae aL o V=>
  intro v o;cases o with
  | gh _ _ _ _ a W j Q aP=>
   obtain rfl:=il.1 C;exact .eB z a 0
  | e9 _ _ _ _ _ _ cap' a C K p=>
   exfalso;rcases p with p | ⟨n,W,p,D⟩
   ·rw[u] at p;cases p
   ·rw[u] at p;cases p;omega
  | ad _ _ _ _ _ _ cap' W j Q H aN au K=>
   rw[u] at Q;cases Q;have hblk:=rel.blk b j H;rw[u] at hblk;obtain⟨aJ,aG,arr,aQ,aD,ax,aI,aK,al⟩:=hblk;have ak:len<=cap':=by rcases K with ⟨_,h⟩ | ⟨_,h,_⟩<;>omega
   have Z:Go.bf.live (h.f b)=true:=by rw[u];rfl
   have aj:R j.r:=rel.up _ (rel.base b j Z H);have ar:¬ Own m muZ j.r:=by
    rintro⟨ag,ay,T,aq,aw⟩;have:=rel.inj ag b ay j (k.live T) Z aq H aw;subst this;rw[am] at T;cases T
   subst C;have Y:∀ i g,i<I.length->g<z->∃ c v,cs[t+(i*z+g)]?=some c/\arr[j.s+(t+(i*z+g))]?=some v/\v.oneCell'=true/\az w R h muZ c v:=by
    intro i g G q;have D:t+(i*z+g)<cs.length:=by
     have:i*z+z<=I.length*z:=by rw[<-ec];exact cj _ G
     omega
    obtain⟨v,h1,m,J⟩:=al _ _ (bC D);exact⟨_,v,bC D,h1,m,J⟩
   refine .bj z I j.r (j.s+t) cap' (fun i g=>(arr[j.s+(t+(i*z+g))]?).getD undef) ak ae (fun i g G q=>?_) (fun i e S g O q=>?_)
   ·obtain⟨c,v,h1,m,J,X⟩:=Y i g G q;refine⟨?_,?_,aj,ar⟩
    ·simp only[World.cell?,ax,m,gU,rh];rw[show j.s+t+(i*z+g)=j.s+(t+(i*z+g)) by omega,m];rfl
    ·rw[m];exact J
   ·have G:i<I.length:=(aH.1 S).1;have ap:g<z:=by rw[<-ae e (cz S)];exact (aH.1 q).1
    obtain⟨c,v,h1,m,J,X⟩:=Y i g G ap;simp only[m,gU];exact V i g e c O S q h1 X
theorem ir.rel {R:Nat->Prop} {B:Nat} {w:aO} {h u:aE} {muZ:bU} (rel:bu R B w h muZ) (k:ir h u) :bu R B w u muZ:=by
 refine⟨?_,?_,?_,?_,rel.up,rel.size,?_⟩
 ·intro b o j;have g:=rel.blk b o j;rcases k.blk b with q | ⟨ag,cs,p,U | ⟨ak,O,W,Z⟩⟩
  ·rw[q];exact g.ext (k.ext w muZ).toExt0 rfl
  ·rw[U];trivial
  ·rw[O];rw[p] at g;obtain⟨h1,K,arr,ai,J,P,Q,S,T⟩:=g;refine⟨F,K,arr,ai,J,P,Q,S,fun m I v=>?_⟩;have z:m<cs.length:=by rw[<-W];exact (aH.1 v).1
   obtain⟨aj,C,D,G⟩:=T m cs[m] (bC z);exact⟨aj,C,D,k.ky rel (Z m cs[m] I (bC z) v) G⟩
 ·intro b H o ae t V j X Y;exact rel.inj b H o ae (k.live t) (k.live V) j X Y
 ·intro b o t j;exact rel.base b o (k.live t) j
 ·intro b g;rw[k.n] at g;rcases k.blk b with q | ⟨ag,cs,p,_⟩
  ·rw[q];exact rel.fresh b g
  ·rw[rel.fresh b g] at p;cases p
 ·intro b g;rw[k.n] at g;exact rel.iA b g
theorem Wp (aT:EU P G) {j:J} (a0:cV P G j) :rn P G j:=by
 induction a0 with
 | skip N aq h=>exact⟨0,fun m B w muZ a Q rel o s k=>wp_skip (k a w muZ (.refl _ _ _) rel s)⟩
 | label l N aq h=>exact⟨0,fun m B w muZ a Q rel o s k=>wp_label (k a w muZ (.refl _ _ _) rel s)⟩
 | ret N aq h=>exact⟨0,fun m B w muZ a Q rel o s k=>wp_ret (k a w muZ (.refl _ _ _) rel s)⟩
 | exit id N aq h=>exact⟨0,fun m B w muZ a Q rel o s k=>wp_exit (k a w muZ (.refl _ _ _) rel s)⟩
 | Kx h1 aD g I=>
  obtain⟨K,g⟩:=g;obtain⟨aJ,I⟩:=I;exact⟨0,fun m B w muZ a Q rel o s k=>wp_seq (lf.wp (g m B w muZ a _ rel o s fun C v u p q t=>
   lf.wp (I m B v u C Q q (o.ext p) t fun Y ar au Z ao ap=>k Y ar au (p.trans Z) ao ap)))⟩
 | DB h1 T g=>
  obtain⟨K,g⟩:=g;exact⟨0,fun m B w muZ a Q rel o s k=>wp_seq (lf.wp (g m B w muZ a _ rel o s fun C v u p q t=>Lj T (k C v u p q t)))⟩
 | cond ax h1 g=>
  rename_i c x y N aq h b e aK h';obtain⟨K,g⟩:=g;refine⟨0,fun m B w muZ a Q rel o s k=>?_⟩;have z:=s.di o c;rw[ax] at z;cases aE:a.eval c<;>rw[aE] at z<;>try (cases z;done)
  cases z;exact wp_cond aE (lf.wp (g m B w muZ a Q rel o s k))
 | xP h1 T g=>
  obtain⟨K,g⟩:=g;exact⟨0,fun m B w muZ a Q rel o s k=>wp_block (lf.wp (g m B w muZ a _ rel o s fun C v u p q t=>N1 T (k C v u p q t)))⟩
 | FG h1 g=>
  obtain⟨K,g⟩:=g;exact⟨0,fun m B w muZ a Q rel o s k=>wp_block (lf.wp (g m B w muZ a _ rel o s fun C v u p q t=>by
   simp only[pY.out,Exit.inBlock,if_true];exact k C v u p q t))⟩
 | tM h1 aD g I=>
  obtain⟨K,g⟩:=g;obtain⟨aJ,I⟩:=I;exact⟨aJ+1,fun m B w muZ a Q rel o s k=>lf.wp (g m B w muZ a _ rel o s fun C v u p q t=>
   I m B v u C Q q (o.ext p) t fun Y ar au Z ao ap=>k Y ar au (p.trans Z) ao ap)⟩
 | Cf h1 T g=>
  obtain⟨K,g⟩:=g;exact⟨1,fun m B w muZ a Q rel o s k=>lf.wp (g m B w muZ a _ rel o s fun C v u p q t=>Lj T (k C v u p q t))⟩
 | scope h1 g=>
  obtain⟨K,g⟩:=g;rename_i c N aq h e aK h';refine⟨0,fun m B w muZ a Q rel o s k=>wp_scope_straight (lf.wp (g m B w muZ a _ rel o s fun C v u p q t=>?_))⟩;have:=k C v u p q t;cases e<;>exact this
 | region h1 g=>exact⟨0,fun m B w muZ a Q rel o s k=>wp_region_list (g m B w muZ a Q rel o s k)⟩
 | draw pre val W cls bc X aN aM aO cells bd aU aP a1 a9 aV aW a3 aY ai a5 a4 a2 aR aS aX bf bb=>
  exact aT pre val W cls bc X aN aM aO cells bd aU aP a1 a9 aV aW a3 aY ai a5 a4 a2 aR aS aX bb
 | IX=>exact fun m B w muZ a Q rel o s k=>k a w muZ (.refl _ _ _) rel s
 | IZ aB ay h1 g=>
  intro m B w muZ a Q rel o s k;have ai:=Eh (w:=w) (R:=m) (h:=_) (muZ:=muZ) (tmps:=a.tmps) aB (fun d _=>s.val d);unfold wpList;rw[ak (by rw[ai];simp)];exact g m B w muZ _ Q rel o (s.put ay w7) k
 | IY aB ay h1 aD g I=>
  intro m B w muZ a Q rel o s k;have ai:=Eh (w:=w) (R:=m) (h:=_) (muZ:=muZ) (tmps:=a.tmps) aB (fun d _=>s.val d);unfold wpList;rw[aj ai];refine .inl (g m B w muZ a _ _ Q rfl rel o (s.di o) fun aL v u p q z=>?_);exact I m B v u _ Q q (o.ext p) ((s.ext p).put ay z) fun Y ar au Z ao ap=>k Y ar au (p.trans Z) ao ap
 | ww X=>
  intro m B w muZ a am av Q ae rel o al k;subst ae;have:=DP (P:=P) rel al am X;obtain⟨O,w',muZ',D,e,r,z⟩:=this;unfold Oper.wp;rcases D with D | ⟨D,rfl⟩
  ·rw[D];exact k O w' muZ' e r z
  ·rw[D];exact k undef w' muZ' e r z
 | r4 X h1 g=>
  intro m B w muZ a am av Q ae rel o al k;subst ae;obtain⟨rfl,S,D,U,z⟩:=DP (P:=P) rel al am X;unfold Oper.wp;rw[D];refine (g m B w muZ S rel o U z).mono ?_;rintro e w' ⟨O,muZ',rfl,p,q,a7⟩;exact k O w' muZ' p q a7
 | zU h1 aC z g=>
  intro m B w muZ a am av Q ae rel o al k;refine g m B w muZ a am av Q ae rel o al fun aL w' muZ' e r a8=>?_
  exact k aL w' muZ' (e.trans (aC.ext w' muZ')) (aC.rel r) (aC.ky r z a8)
 | inline az aQ h1 T D g=>
  rename_i f fn c args h e aK h' r;obtain⟨K,g⟩:=g;intro m B w muZ S rel o U z;refine calls_of_wp az aQ (lf.wp (g m B w muZ _ _ rel o ⟨by simp[U],rfl,fun H=>?_⟩ fun C v u p q t=>?_))
  ·by_cases aG:H<args.length
   ·have aw:args.getD H fz=args[H]:=by simp[List.getD,aG]
    have aA:(S++Array.replicate (fn.ntmps - S.size) undef).getD H undef=S[H]:=by
     rw[g6,oB F];simp[show H<S.size by omega]
    rw[aw,aA];exact z H _ _ (by simp[aG]) V
   ·have aw:args.getD H fz=fz:=by simp[List.getD,dV (by omega:args.length<=H)]
    have aA:(S++Array.replicate (fn.ntmps - S.size) undef).getD H undef=undef:=by
     rw[g6,uL F,z8];split<;>rfl
    rw[aw,aA];exact w7
  ·obtain⟨O,aH,aI⟩:=J9 q t D;have bg:t.defers=t.defers:=rfl;rcases T with rfl | rfl
   ·exact⟨t.defers,O,aH,O,u,rfl,p,q,aI⟩
   ·exact⟨t.defers,O,aH,O,u,rfl,p,q,aI⟩
 | pure ag ax=>exact Uc ag ax
 | Jv ag U D az=>exact Ua ag U D az
 | ext X=>exact X
 | Jw ag U D=>exact Ub ag U D
end
section
variable {P:bg} {G:Nat->U}
theorem sF {ops:Array a6} {t i:Nat} (h:hF ops t=some i) :∃ o,ops[i]?=some o/\o.dst=some t:=by
 unfold hF at h;have:=List.find?_some h;cases g:ops[i]? with
 | none=>simp[g] at this
 | some o=>exact⟨o,rfl,by simpa [g] using this⟩
def ot (ops:Array a6) (val sgZ:Nat->U) (h:Array Bool) :Nat->U:=fun g=>
 match hF ops g with
 | some i=>if h.getD i false then val i else sgZ g
 | none=>sgZ g
theorem Pt {ops:Array a6} {pre:Nat->Nat->Bool} (v:oI ops pre) {g:Array Bool}
  (w:∀ (i:Nat) (o:a6) (e:Edge),ops[i]?=some o->g.getD i false=true->e∈o.after->Region.binds .any e=true->g.getD e.on false=true)
  (z:∀ i,g.getD i false=true->∃ o,ops[i]?=some o) :∀ (i:Nat),g.getD i false=true->∀ j,pre i j=true->g.getD j false=true:=by
 intro i
 induction i using Nat.strongRecOn with
 | _ i C=>
  intro t j B;obtain⟨o,m⟩:=z i t;obtain⟨e,q,p,h⟩:=v.chain i o j m B;have u:=w i o e m t q p;rcases h with rfl | h
  ·exact u
  ·exact C e.on (v.vE i o e m q p) u j h
theorem rK (g:Array Bool) (i j:Nat) (m:i<g.size) :(g.setIfInBounds i true).getD j false=if j=i then true else g.getD j false:=by
 rw[g6,uM];by_cases h:i=j
 ·subst h;simp[m]
 ·rw[ak h,ak (Ne.symm h),g6]
theorem zC {ops:Array a6} {pre:Nat->Nat->Bool} (D:oI ops pre) {val sgZ:Nat->U} {B:Array Bool} {i:Nat} {o:a6} (u:ops[i]?=some o) (q:i<B.size) :
  ot ops val sgZ (B.setIfInBounds i true)=gw (ot ops val sgZ B) o.dst (val i):=by
 funext j;unfold ot gw;cases m:o.dst with
 | none=>
  simp only;cases w:hF ops j with
  | none=>rfl
  | some z=>
   have t:z≠i:=fun p=>by
    obtain⟨C,h,g⟩:=sF w;rw[p,u] at h;cases h;rw[m] at g;cases g
   simp only[rK _ _ _ q,ak t]
 | some d=>
  simp only;by_cases v:j=d
  ·subst v;rw[D.one i o j u m];simp[rK _ _ _ q]
  ·rw[bE _ _ _ _ v];cases w:hF ops j with
   | none=>rfl
   | some z=>
    have t:z≠i:=fun p=>by
     obtain⟨C,h,g⟩:=sF w;rw[p,u] at h;cases h;rw[m] at g;cases g;exact v rfl
    simp only[rK _ _ _ q,ak t]
structure Inv (P:bg) (ops:Array a6) (val sgZ:Nat->U) (W:Nat->Bool) (cls:Nat->xC) (m:Nat) (jC:Nat->Nat) (j:Nat->aE) (t:Nat->Nat) (N:Nat)
  (R:Nat->Prop) (B:Nat) (u:aO) (h:aE) (p:bU) (g:Array Bool) (k:Nat) (a:Act) (w:aO) (muZ:bU) :Prop where
 size:g.size=ops.size
 down:∀ (i:Nat) (o:a6) (e:Edge),ops[i]?=some o->g.getD i false=true->e∈o.after->Region.binds .any e=true->g.getD e.on false=true
 vZ:k<=m
 done:∀ q,q<m->(g.getD (jC q) false=true<->q<k)
 ext:Ext0 u h p w (j k) muZ
 mM:∀ b,b<h.n->p b=none->muZ b=none
 rel:bu R B w (j k) muZ
 qR:gF N w R (j k) muZ (ot ops val sgZ g) a
 wD:∀ (i:Nat) (o:a6),ops[i]?=some o->W i=true->cls i=.new->g.getD i false=false->muZ (t i)=none
theorem RR {ops:Array a6} {g:Array Bool} (j:g.size=ops.size) (i:Nat) (h:g.getD i false=true) :∃ o,ops[i]?=some o:=by
 have:i<ops.size:=by
  rcases fB i g.size with h1 | h1
  ·omega
  ·simp[g6,pO h1] at h
 exact⟨ops[i],by simp[this]⟩
theorem NA {ops:Array a6} {pre:Nat->Nat->Bool} (o:oI ops pre) {ea:Array Bool} (v:ea.size=ops.size) (t:Region.ready .any ops ea=[]) :∀ i,i<ops.size->ea.getD i false=true:=by
 intro i
 induction i using Nat.strongRecOn with
 | _ i u=>
  intro g;cases p:ea.getD i false with
  | true=>rfl
  | false=>
   exfalso;have m:i∈Region.ready .any ops ea:=by
    refine mem_ready.2 ⟨?_,ops[i],by simp[g],fun e j h=>u e.on (o.vE i ops[i] e (by simp[g]) j h) (by
     have:=o.vE i ops[i] e (by simp[g]) j h;omega)⟩
    have q:i<ea.size:=F;simpa [g6,q] using p
   rw[t] at m;cases m
theorem Pw (bS:P.follows .mixedOrders=true) (bG:∀ g,(G g).ax=true) :EU P G:=by
 intro id ops N sgZ h V1 h' pre val W cls m ar J cg X cells au aH bF D b8 bM bb bX bQ b6 b1 bY bl bH bI bO bL;refine⟨0,fun ae B aw xe a1 Q bv bC ce ca=>wp_region_any bS ?_⟩;obtain⟨bA,cc⟩:=py bv ⟨(RowKit.Below.refl aw.heap.size aw).drew,rf _⟩;obtain⟨bB,cd⟩:=bF.rel cc;have a2:=bA.trans bB
 -- the end
 have a4:∀ (ea:Array Bool) (k:Nat) (a:Act) (w:aO) (muZ:bU),Inv P ops val sgZ W cls m ar J X N ae B aw h xe ea k a w muZ->(∀ i,i<ops.size->ea.getD i false=true)->Q .normal a w:=by
  intro ea k a w muZ inv aB;have hk:k=m:=by
   rcases fB k m with H | aS
   ·obtain⟨t,p,_⟩:=bb k H;have ai:=aB (ar k) ((hT.1 p).1);have:=(inv.done k H).1 ai;omega
   ·have:=inv.vZ;omega
  subst hk;have b2:ot ops val sgZ ea=V1:=by
   rw[b8];funext I;unfold ot;cases aA:hF ops I with
   | none=>rfl
   | some i=>
    obtain⟨t,p,_⟩:=sF aA;simp only[aB i ((hT.1 p).1),if_true]
  subst D;have aM:=inv.qR;rw[b2] at aM;exact ca a w muZ ⟨inv.ext,inv.mM⟩ inv.rel aM
 have b9:∀ (fuel:Nat) (ea:Array Bool) (k:Nat) (a:Act) (w:aO) (muZ:bU),Inv P ops val sgZ W cls m ar J X N ae B aw h xe ea k a w muZ->ea.toList.count false=fuel->wpAny P .any ops Q fuel ea a w:=by
  intro fuel
  induction fuel with
  | zero=>
   intro ea k a w muZ inv a8;have aB:∀ i,i<ops.size->ea.getD i false=true:=by
    intro i ap;have H:i<ea.size:=by rw[inv.size];exact ap
    cases ai:ea[i] with
    | true=>simp[g6,H,ai]
    | false=>
     exfalso;have aV:false∈ea.toList:=by rw[<-ai];simp
     have:=List.count_pos_iff.2 aV;omega
   refine⟨?_,a4 ea k a w muZ inv aB⟩;cases ag:Region.ready .any ops ea with
   | nil=>rfl
   | cons i l=>
    exfalso;have aV:i∈Region.ready .any ops ea:=by rw[ag];simp
    obtain⟨h1,t,p,_⟩:=mem_ready.1 aV;have ap:=(hT.1 p).1;have aC:=aB i ap;have H:i<ea.size:=by rw[inv.size];exact ap
    simp[g6,H] at h1 aC;rw[h1] at aC;cases aC
  | succ fuel aN=>
   intro ea k a w muZ inv a8;refine⟨fun ag=>a4 ea k a w muZ inv (NA au inv.size ag),fun i ap=>?_⟩;obtain⟨h1,t,p,a9⟩:=mem_ready.1 ap;have H:i<ea.size:=by rw[inv.size];exact (hT.1 p).1
   have aJ:ea.getD i false=false:=by simpa [g6,H] using h1
   have a5:=Pt au inv.down (RR inv.size)
   -- what comes before i is done
   have aW:∀ j,pre i j=true->ea.getD j false=true:=by
    intro j C;obtain⟨e,aI,o,aQ⟩:=au.chain i t j p C;have bi:=a9 e aI o;rcases aQ with rfl | aQ
    ·exact bi
    ·exact a5 e.on bi j aQ
   have bo:∀ j,ea.getD j false=true->pre j i=true->False:=fun j C al=>by
    have:=a5 j C i al;rw[aJ] at this;cases this
   have bd:tz pre m ar i k:=⟨inv.vZ,fun q U al=>(inv.done q U).1 (aW _ al),fun q U al=>by
    rcases fB q k with aU | aS
    ·exact (bo _ ((inv.done q U).2 aU) al).elim
    ·exact aS⟩
   -- what i sees
   have bc:∀ I,az w ae (J k) muZ (j9 ops pre val sgZ i t I) (a.tmps.getD I undef):=by
    intro I;unfold j9;split
    ·rename_i b4;have b5:I∈t.looksAt ops:=by simpa using b4
     have K:=inv.qR.val I;unfold ot at K;cases aA:hF ops I with
     | none=>rw[aA] at K;exact K
     | some j=>
      rw[aA] at K;simp only at K ⊢;by_cases al:pre i j=true
      ·rw[aj al];rw[aj (aW j al)] at K;exact K
      ·rw[ak al];have bW:ea.getD j false=false:=by
        rcases au.acc i t I j p b5 aA with z | z | rfl
        ·exact bK z al
        ·cases aT:ea.getD j false with
         | false=>rfl
         | true=>exact (bo j aT z).elim
        ·exact aJ
       rw[bW] at K;exact K
    ·exact .bad _
   have bf:jr G w ae (J k) muZ:=fun g=>⟨bG g,(bC g).2.jz inv.ext⟩
   have aY:∀ x,az w ae (J k) muZ (di G (j9 ops pre val sgZ i t) x) (a.eval x):=by
    intro x;cases x with
    | tmp I=>exact bc I
    | const v=>exact az.qB v
    | global g=>exact (bf g).2
    | func f=>exact .fn f [] [] #[] #[] rfl rfl (fun _ _ _ z=>by simp at z) (fun _ _ _ z=>by simp at z)
   have bt:=Eh (w:=w) (R:=ae) (h:=J k) (muZ:=muZ) (tmps:=a.tmps) (b6 i t p) (fun d _=>bc d);have aE:(ea.setIfInBounds i true).toList.count false=fuel:=by
    have o:ea.toList[i]'(by simpa using H)=false:=by
     have:ea[i]=false:=by simpa [g6,H] using h1
     simpa using this
    rw[Array.toList_setIfInBounds,List.count_set (by simpa using H)];simp[o,a8]
   have aL:(ea.setIfInBounds i true).size=ops.size:=by simp[inv.size]
   have aG:∀ (j:Nat) (O:a6) (e:Edge),ops[j]?=some O->(ea.setIfInBounds i true).getD j false=true->e∈O.after->Region.binds .any e=true->(ea.setIfInBounds i true).getD e.on false=true:=by
    intro j O e T C aI o;rw[rK _ _ _ H] at C ⊢;by_cases aq:j=i
    ·subst aq;rw[p] at T;cases T;rw[a9 e aI o];split<;>rfl
    ·rw[ak aq] at C;rw[inv.down j O e T C aI o];split<;>rfl
   -- the next state,when no block of others' is turned
   have aX:(W i=true->cls i≠.e6)->∀ q,q<m->((ea.setIfInBounds i true).getD (ar q) false=true<->q<k):=by
    intro bV q U;obtain⟨O,T,S,Y⟩:=bb q U;have:ar q≠i:=fun z=>by
     rw[z] at S Y;exact bV S Y
    rw[rK _ _ _ H,ak this];exact inv.done q U
   have aK:∀ (j:Nat),(ea.setIfInBounds i true).getD j false=false->j≠i/\ea.getD j false=false:=by
    intro j C;rw[rK _ _ _ H] at C;by_cases aq:j=i
    ·rw[aj aq] at C;cases C
    ·rw[ak aq] at C;exact⟨aq,C⟩
   unfold wpOp;simp only[p];cases S:W i with
   | false=>
    rw[bt,S];simp only[kA,if_false];refine aN _ k _ w muZ ⟨aL,aG,inv.vZ,aX (fun z=>by rw[S] at z;cases z),inv.ext,inv.mM,inv.rel,?_,fun j O T am ao C=>inv.wD j O T am ao (aK j C).2⟩ aE;rw[zC au p H];exact inv.qR.put (aH i t p) (by rw[b1 i t p S];exact w7)
   | true=>
    rw[bt,S];simp only[if_true];left;cases Y:cls i with
    | pure=>
     have b3:=bY i t p S Y k bd;obtain⟨v,w',muZ',ag,e,r,K⟩:=DP (P:=P) inv.rel aY t b3;have bm:wpAny P .any ops Q fuel (ea.setIfInBounds i true) (a.put t.dst v) w':=by
      refine aN _ k _ w' muZ' ⟨aL,aG,inv.vZ,aX (fun _ z=>by rw[Y] at z;cases z),inv.ext.trans e.toExt0,fun b o av=>e.mM b (l8 o inv.ext.n) (inv.mM b o av),r,?_,fun j O T am ao C=>?_⟩ aE
      ·rw[zC au p H];exact (inv.qR.ext e).put (aH i t p) K
      ·have ay:=inv.wD j O T am ao (aK j C).2;rcases fB (X j) (J k).n with o | o
       ·exact e.mM _ o ay
       ·exact r.iA _ o
     unfold Oper.wp;rcases ag with ag | ⟨ag,rfl⟩
     ·rw[ag];exact bm
     ·rw[ag];exact bm
    | new=>
     obtain⟨mk,ay,bs,a7,hblk⟩:=bl i t p S Y;obtain⟨v,arr,I,ag,br,bT⟩:=SH (P:=P) aY t ay;have aD:=hblk k bd;have bJ:=inv.wD i t p S Y aJ;have ch:X i<(J k).n:=by
      rcases fB (X i) (J k).n with o | o
      ·exact o
      ·rw[inv.rel.fresh _ o] at aD;cases aD
     have bn:∀ b Z,muZ b=some Z->b≠X i:=fun b Z o z=>by rw[z,bJ] at o;cases o
     have e:Ext0 w (J k) muZ (w.alloc (.cells arr I)) (J k) (bh muZ (X i) (some ⟨w.heap.size,0,arr.size⟩)):=by
      refine⟨rfl,rfl,rfl,V,fun x b7 _=>?_,?_,fun b cj cs Z o D=>.inl ⟨cs,o,by rw[bE _ _ _ _ (bn b Z D)];exact D⟩,fun _ _ bN=>bN,fun b k Z o D=>⟨o,by rw[bE _ _ _ _ (bn b Z D)];exact D⟩,aF _,aF _⟩
      ·exact RowKit.Below.heap_alloc w _ x b7
      ·rintro x ⟨b,Z,ai,D,rfl⟩;by_cases o:b=X i
       ·subst o;simp at D;subst D;exact .inr (aF _)
       ·rw[bE _ _ _ _ o] at D;exact .inl ⟨b,Z,ai,D,rfl⟩
     have r:bu ae B (w.alloc (.cells arr I)) (J k) (bh muZ (X i) (some ⟨w.heap.size,0,arr.size⟩)):=by
      refine inv.rel.pI e (X i) (fun b o ai=>⟨rfl,bE _ _ _ _ o,fun Z D=>RowKit.Below.heap_alloc w _ _ (inv.rel.lt ai D)⟩) (fun Z D=>?_) (fun b Z ci o ai _ D bk=>?_) (fun Z _ D=>?_) inv.rel.fresh (fun b o=>?_)
      ·simp at D;subst D;rw[aD];refine⟨rfl,by simp[br.1],arr,I,(0,0),heap_alloc_new w _,rfl,.inl rfl,fun j c C=>?_⟩;obtain⟨u,bw,bx,bz⟩:=br.2 j c C;exact⟨u,by simpa using bw,bx,bz.jz e⟩
      ·simp at bk;subst bk;have:=inv.rel.lt ai D;simp only[ne_eq];omega
      ·simp at D;subst D;exact inv.rel.size
      ·rw[bE _ _ _ _ F];exact inv.rel.iA b o
     have K:az (w.alloc (.cells arr I)) ae (J k) (bh muZ (X i) (some ⟨w.heap.size,0,arr.size⟩)) (val i) v:=by
      rw[bs];exact bT _ _ _ _ _ aD V
     unfold Oper.wp;rw[ag];refine aN _ k _ _ _ ⟨aL,aG,inv.vZ,aX (fun _ z=>by rw[Y] at z;cases z),inv.ext.trans e,fun b o av=>by rw[bE _ _ _ _ F];exact inv.mM b o av,r,?_,fun j O T am ao C=>?_⟩ aE
     ·rw[zC au p H];have b0:gF N (w.alloc (.cells arr I)) ae (J k) (bh muZ (X i) (some ⟨w.heap.size,0,arr.size⟩)) (ot ops val sgZ ea) a:=⟨inv.qR.size,inv.qR.defers,fun cf=>(inv.qR.val cf).jz e⟩
      exact b0.put (aH i t p) K
     ·obtain⟨aq,aT⟩:=aK j C;rw[bE _ _ _ _ (fun z=>aq (bH j i O t T p am S ao Y z))];exact inv.wD j O T am ao aT
    | e6=>
     obtain⟨q,U,rfl⟩:=bM i t p S Y;have bZ:q=k:=by
      have aC:¬ q<k:=fun z=>by
       have:=(inv.done q U).2 z;rw[aJ] at this;cases this
      rcases fB k q with aU | aS
      ·have bg:k<m:=F;have:=aW (ar k) (bX k q bg U aU);have:=(inv.done k bg).1 this;omega
      ·omega
     subst bZ;refine bL q t U p ae B w muZ a t _ Q rfl inv.rel bf aY fun v w' muZ' e r K=>?_
     obtain⟨a3,cb⟩:=(bO q U).rel r;have aP:=e.trans a3;refine aN _ (q+1) _ w' muZ' ⟨aL,aG,F,fun a0 bp=>?_,inv.ext.trans aP.toExt0,fun b o av=>aP.mM b (l8 o inv.ext.n) (inv.mM b o av),cb,?_,fun j O T am ao C=>?_⟩ aE
     ·rw[rK _ _ _ H];by_cases bq:a0=q
      ·subst bq;simp
      ·rw[ak (fun z=>bq (bQ a0 q bp U z)),inv.done a0 bp];omega
     ·rw[zC au p H];exact (inv.qR.ext aP).put (aH _ t p) (K.ext a3)
     ·have ay:=inv.wD j O T am ao (aK j C).2;rcases bI j O q T am ao U with o | o
      ·exact e.mM _ o ay
      ·exact r.iA _ o
 have bP:Inv P ops val sgZ W cls m ar J X N ae B aw h xe (Array.replicate ops.size false) 0 a1 aw.drew xe:=by
  have aR:∀ i,(Array.replicate ops.size false).getD i false=false:=by
   intro i;rw[g6,z8];split<;>rfl
  refine⟨V,(fun i t e _ ap _ _=>by rw[aR] at ap;cases ap),ek _,(fun q U=>by rw[aR];simp),a2.toExt0,fun b o av=>av,cd,?_,fun i t p S Y _=>?_⟩
  ·have aM:ot ops val sgZ (Array.replicate ops.size false)=sgZ:=by
    funext I;unfold ot;cases aA:hF ops I with
    | none=>rfl
    | some i=>simp only[aR];simp
   rw[aM];exact ce.ext a2
  ·obtain⟨mk,ay,bs,a7,hblk⟩:=bl i t p S Y;exact bv.iA _ a7
 exact b9 _ _ 0 a1 aw.drew xe bP V
theorem sn (o:P.follows .mixedOrders=true) (h:∀ g,(G g).ax=true) {j:J} (m:cV P G j) :rn P G j:=Wp (Pw o h) m
end
section
variable {P:bg} {G:Nat->U}
theorem CM {g j:aT->U} (ps:Array (Nat × aT)) (h:∀ x∈(ps.toList.map (·.2)),g x=j x) :(ps.toList.map fun p=>(p.1,g p.2))=(ps.toList.map fun p=>(p.1,j p.2)):=
 oD fun p m=>by rw[h p.2 (cF.2 ⟨p,m,rfl⟩)]
theorem Ck {g hD:aT->U} (xs:Array aT) (h:∀ x∈xs,g x=hD x) :xs.toList.map g=xs.toList.map hD:=
 oD fun x j=>h x (by simpa using j)
theorem CD {g hD:aT->U} (o:Option aT) (h:∀ x∈o.toArray,g x=hD x) :o.map g=o.map hD:=by
 cases o with
 | none=>rfl
 | some x=>simp[h x V]
theorem DO {o hD:aT->U} (h:aE) (op:Op) (j:∀ x∈op.operands,o x=hD x) :cB P h o op=cB P h hD op:=by
 cases op<;>simp only[Op.operands] at j<;>try rfl
 case build p m=>simp only[cB];rw[CM m (fun x g=>j x (by simpa using g))]
 case buildSlice p n m=>simp only[cB];rw[CM m (fun x g=>j x (by simpa using g))]
 case makeFunc fn first eZ=>
  cases fn<;>simp only[cB];rw[Ck first (fun x g=>j x (by simp[g])),Ck eZ (fun x g=>j x (by simp[g]))]
 case slice p x v u w=>
  simp only[cB];rw[j x V,CD v (fun y g=>j y (by simp at g ⊢;simp[g])),CD u (fun y g=>j y (by simp at g ⊢;simp[g])),CD w (fun y g=>j y (by simp at g ⊢;simp[g]))]
 case call c=>
  have t:c.args.toList.map o=c.args.toList.map hD:=Ck c.args (fun x g=>j x (by simp[Call.operands,g]));simp only[cB,qd,t];cases q:c.callee with
  | value f=>dsimp only;rw[j f (by simp[Call.operands,q])]
  | invoke x name=>dsimp only;rw[j x (by simp[Call.operands,q])]
  | _=>rfl
 case makeMap p r=>
  cases r with
  | none=>rfl
  | some x=>simp only[cB];rw[j x V]
 case next it b=>
  cases b with
  | false=>rfl
  | true=>simp only[cB];rw[j it V]
 all_goals (simp only[cB];simp_all)
theorem SE {h j:aT->U} (op:Op) (g:∀ x∈op.operands,h x=j x) :kk P h op=kk P j op:=by
 cases op<;>simp only[Op.operands] at g<;>try rfl
 case box m x=>simp only[kk];rw[g x V]
 case buildSlice m n p=>simp only[kk];rw[CM p (fun x o=>g x (by simpa using o))]
 case makeSlice m l c=>simp only[kk];rw[g l V,g c V]
theorem PV {sgZ o:Nat->U} {h h' : aE} {v:U} {op:Op} (m:∀ x∈op.operands,di G sgZ x=di G o x) (j:cV P G (.op op sgZ h v h')) :cV P G (.op op o h v h'):=by
 generalize p:J.op op sgZ h v h'=t at j
 induction j generalizing v h'<;>cases p
 case ww q=>exact .ww (by rw[<-DO h op m];exact q)
 case r4=>exact .r4 (by rw[<-DO h op m];assumption) (by assumption)
 case zU=>exact .zU (by first | (rename_i g;exact g rfl) | (rename_i g _;exact g rfl) | (rename_i g _ _;exact g rfl)) (by assumption) (by assumption)
inductive bz where
 | skip (i:Nat)
 | pure (i:Nat) (g:U)
 | new (i:Nat) (g:U) (cs:ag)
 | e6 (i:Nat) (g:U) (h1:aE)
def bz.idx:bz->Nat
 | .skip i | .pure i _ | .new i _ _ | .e6 i _ _=>i
def bz.val:bz->U
 | .skip _=>fz
 | .pure _ g | .new _ g _ | .e6 _ g _=>g
def bz.hg:bz->Bool
 | .e6 ..=>true
 | _=>false
def bz.pc:bz->Bool
 | .skip _=>true
 | _=>false
def bz.cls:bz->xC
 | .skip _ | .pure ..=>.pure
 | .new ..=>.new
 | .e6 ..=>.e6
def bz.cs:bz->ag
 | .new _ _ cs=>cs
 | _=>[]
structure kI where
 sgZ:Nat->U
 h:aE
def rC (ops:Array a6) (i:Nat) :Option Tmp:=(ops[i]?).bind (·.dst)
def mC (h:aE) :bz->aE
 | .skip _ | .pure ..=>h
 | .new _ _ cs=>h.push (.cells cs.length cs)
 | .e6 _ _ h1=>h1
def je (ops:Array a6) (s:kI) (t:bz) :kI:=⟨gw s.sgZ (rC ops t.idx) t.val,mC s.h t⟩
def fj (ops:Array a6) (s0:kI) (tr:List bz) (p:Nat) :kI:=(tr.take p).foldl (je ops) s0
theorem ux {ops:Array a6} {s0:kI} {tr:List bz} {p:Nat} {t:bz} (h:tr[p]?=some t) :fj ops s0 tr (p+1)=je ops (fj ops s0 tr p) t:=by unfold fj;have g:p<tr.length:=(aH.1 h).1;rw[List.take_succ_eq_append_getElem g,Aj];have:tr[p]=t:=(aH.1 h).2;simp[this]
def s7 (P:bg) (G:Nat->U) (ops:Array a6) (s:kI) :bz->Prop
 | .skip i=>∃ g,ops[i]?=some g/\ij ops s.sgZ g=some false
 | .pure i j=>∃ g,ops[i]?=some g/\ij ops s.sgZ g=some true
 | .new i j cs=>∃ g mk,ops[i]?=some g/\ij ops s.sgZ g=some true/\kk P (di G s.sgZ) g.op=some (cs,mk)/\j=mk s.h.n
 | .e6 i j h1=>∃ g,ops[i]?=some g/\ij ops s.sgZ g=some true/\cV P G (.op g.op s.sgZ s.h j h1)/\s.h.n<=h1.n
def AF (P:bg) (G:Nat->U) (ops:Array a6) (s:kI) (h:aE) :bz->Prop
 | .pure i j=>∀ g,ops[i]?=some g->cB P h (di G s.sgZ) g.op=some (.val j h)
 | .new _ _ cs=>h.f s.h.n=.cells cs.length cs
 | _=>True
structure s6 (ops:Array a6) (pre:Nat->Nat->Bool) (tr:List bz) :Prop where
 zO:oI ops pre
 all:∀ i,i<ops.size->∃ (p:Nat) (t:bz),tr[p]?=some t/\t.idx=i
 inj:∀ (p g:Nat) (t h:bz),tr[p]?=some t->tr[g]?=some h->t.idx=h.idx->p=g
 zo:∀ (p:Nat) (t:bz),tr[p]?=some t->t.idx<ops.size
 Ll:∀ (p g:Nat) (t h:bz),tr[p]?=some t->tr[g]?=some h->p<g->pre t.idx h.idx=false
 eager:∀ (p g:Nat) (t h:bz),tr[p]?=some t->tr[g]?=some h->p<g->t.hg=true->pre h.idx t.idx=true
structure AG (P:bg) (G:Nat->U) (ops:Array a6) (pre:Nat->Nat->Bool) (s0:kI) (tr:List bz) :Prop where
 step:∀ (p:Nat) (t:bz),tr[p]?=some t->s7 P G ops (fj ops s0 tr p) t
 still:∀ (q:Nat),(q=tr.length\/∃ t:bz,tr[q]?=some t/\t.hg=true)->∀ (p:Nat) (t:bz),p<q->tr[p]?=some t->
  (∀ (j:Nat) (g:bz),j<q->tr[j]?=some g->g.hg=true->pre g.idx t.idx=false)->AF P G ops (fj ops s0 tr p) (fj ops s0 tr q).h t
def dj (tr:List bz) (i:Nat) :Nat:=tr.findIdx fun g=>g.idx == i
theorem r7 {ops:Array a6} {pre:Nat->Nat->Bool} {tr:List bz} (p:s6 ops pre tr) {i:Nat} (j:i<ops.size) :∃ t,tr[dj tr i]?=some t/\t.idx=i:=by
 obtain⟨q,t,h,o⟩:=p.all i j;have u:q<tr.length:=(aH.1 h).1;have m:∃ x∈tr,(x.idx == i)=true:=⟨t,cz h,by simpa using o⟩
 have g:dj tr i<tr.length:=List.findIdx_lt_length_of_exists m;have:=List.findIdx_getElem (w:=g);exact⟨tr[dj tr i],by simp[g],by unfold dj;simpa using this⟩
theorem za {ops:Array a6} {pre:Nat->Nat->Bool} {tr:List bz} (g:s6 ops pre tr) {p:Nat} {t:bz} (h:tr[p]?=some t) :dj tr t.idx=p:=by obtain⟨m,h1,j⟩:=r7 g (g.zo p t h);exact g.inj _ _ _ _ h1 h j
theorem KI {ops:Array a6} {pre:Nat->Nat->Bool} {tr:List bz} (q:s6 ops pre tr) (s0:kI) :∀ p,p<=tr.length->∀ t,
  (fj ops s0 tr p).sgZ t=match hF ops t with | some j=>(if dj tr j<p then ((tr[dj tr j]?).map bz.val).getD .bad else s0.sgZ t) | none=>s0.sgZ t:=by
 intro p
 induction p with
 | zero=>
  intro _ t;simp only[fj,mR,List.foldl_nil];cases hF ops t<;>simp
 | succ p O=>
  intro R t;have H:p<tr.length:=F;have m:tr[p]?=some tr[p]:=bC H;rw[ux m];simp only[je];have C:=O F t;have J:=za q m;have K:=q.zo p _ m;have D:ops[tr[p].idx]?=some ops[tr[p].idx]:=by simp[K]
  cases g:rC ops tr[p].idx with
  | none=>
   simp only[gw,C];cases B:hF ops t with
   | none=>rfl
   | some j=>
    simp only;obtain⟨P,h,w⟩:=sF B;have I:dj tr j≠p:=by
     intro v;obtain⟨Q,h1,u⟩:=r7 q ((hT.1 h).1);rw[v,m] at h1;cases h1;rw[<-u] at h;simp only[rC,h,pW] at g;rw[w] at g;cases g
    by_cases o:dj tr j<p
    ·rw[aj o,aj F]
    ·rw[ak o,ak F]
  | some d=>
   simp only[gw];by_cases z:t=d
   ·subst z;have G:ops[tr[p].idx].dst=some t:=by simpa [rC,D] using g
    rw[fJ,q.zO.one _ _ t D G];simp[J,m]
   ·rw[bE _ _ _ _ z,C];cases B:hF ops t with
    | none=>rfl
    | some j=>
     simp only;obtain⟨P,h,w⟩:=sF B;have I:dj tr j≠p:=by
      intro v;obtain⟨Q,h1,u⟩:=r7 q ((hT.1 h).1);rw[v,m] at h1;cases h1;rw[<-u] at h;simp only[rC,h,pW] at g;rw[w] at g;cases g;exact z rfl
     by_cases o:dj tr j<p
     ·rw[aj o,aj F]
     ·rw[ak o,ak F]
theorem T3 {ops:Array a6} {pre:Nat->Nat->Bool} (u:oI ops pre) (v:∀ (i:Nat) (o:a6) (e:Edge),ops[i]?=some o->e∈o.after->Region.binds .any e=true->∃ m,ops[e.on]?=some m) :∀ (i:Nat) (o:a6),ops[i]?=some o->∀ j,pre i j=true->j<i:=by
 intro i
 induction i using Nat.strongRecOn with
 | _ i B=>
  intro o h j w;obtain⟨e,q,p,g⟩:=u.chain i o j h w;have t:=u.vE i o e h q p;rcases g with rfl | g
  ·exact t
  ·obtain⟨m,z⟩:=v i o e h q p;have:=B e.on t m z j g;omega
theorem SY {ops:Array a6} {pre:Nat->Nat->Bool} (h:oI ops pre) (i:Nat) (o:a6) (g:ops[i]?=some o) (p:pre i i=true) :False:=by
 have:=T3 h (fun i o e g m j=>by
  have h1:=h.vE i o e g m j;have q:=(hT.1 g).1;exact⟨ops[e.on]'F,V⟩) i o g i p
 omega
theorem GG {ops:Array a6} {pre:Nat->Nat->Bool} {tr:List bz} (m:s6 ops pre tr) (s0:kI) {i:Nat} {o:a6} (w:ops[i]?=some o) {t:Nat} (z:t∈o.looksAt ops) :
  j9 ops pre (fun j=>((tr[dj tr j]?).map bz.val).getD .bad) s0.sgZ i o t=(fj ops s0 tr (dj tr i)).sgZ t:=by
 have D:i<ops.size:=(hT.1 w).1;obtain⟨K,h1,u⟩:=r7 m D;have G:dj tr i<=tr.length:=jW (aH.1 h1).1;rw[KI m s0 _ G];unfold j9;rw[aj (by simpa using z)];cases B:hF ops t with
 | none=>rfl
 | some j=>
  simp only;obtain⟨J,I,_⟩:=sF B;obtain⟨O,q,v⟩:=r7 m ((hT.1 I).1);have C:pre i j=true<->dj tr j<dj tr i:=by
   constructor
   ·intro g;rcases oG (dj tr j) (dj tr i) with h | h | h
    ·exact h
    ·exfalso;rw[h,h1] at q;cases q;have F:i=j:=by rw[<-u,<-v]
     subst F;exact SY m.zO i o w g
    ·have:=m.Ll _ _ _ _ h1 q h;rw[u,v] at this;rw[this] at g;cases g
   ·intro H;rcases m.zO.acc i o t j w z B with p | p | rfl
    ·exact p
    ·have:=m.Ll _ _ _ _ q h1 H;rw[u,v] at this;rw[this] at p;cases p
    ·omega
  by_cases g:pre i j=true
  ·rw[aj g,aj (C.1 g)]
  ·rw[ak g,ak (fun p=>g (C.2 p))]
def dJ (tr:List bz) :List Nat:=(List.range tr.length).filter fun g=>((tr[g]?).map bz.hg).getD false
theorem yM {tr:List bz} {p:Nat}:p∈dJ tr<->∃ t,tr[p]?=some t/\t.hg=true:=by
 unfold dJ;rw[c7,gS];constructor
 ·rintro⟨h1,g⟩;refine⟨tr[p],by simp[h1],?_⟩;simpa [h1] using g
 ·rintro⟨t,h1,g⟩;exact⟨(aH.1 h1).1,by simp[h1,g]⟩
theorem qn {tr:List bz} {q g:Nat} (m:q<g) (h:g<(dJ tr).length) :(dJ tr).getD q 0<(dJ tr).getD g 0:=by have j:(dJ tr).Pairwise (· < ·):=List.Pairwise.filter _ List.pairwise_lt_range;have:=kD.1 j q g F h m;simpa [List.getD,h,show q<(dJ tr).length by omega] using this
theorem GD {tr:List bz} {q:Nat} (g:q<(dJ tr).length) :∃ t,tr[(dJ tr).getD q 0]?=some t/\t.hg=true:=by apply yM.1;simp[List.getD,g]
theorem x7 {tr:List bz} {p:Nat} (h:p∈dJ tr) :∃ q,q<(dJ tr).length/\(dJ tr).getD q 0=p:=by obtain⟨q,g,rfl⟩:=Ez h;exact⟨q,g,by simp[List.getD,g]⟩
theorem wh {ops:Array a6} {pre:Nat->Nat->Bool} {s0:kI} {tr:List bz} (m:AG P G ops pre s0 tr) :∀ (k p:Nat),p+k<=tr.length->(fj ops s0 tr p).h.n<=(fj ops s0 tr (p+k)).h.n
 | 0,p,_=>aF _
 | k+1,p,w=>by
  have v:=wh m k p F;have q:p+k<tr.length:=F;have g:tr[p+k]?=some tr[p+k]:=bC q;have j:=m.step _ _ g;rw[show p+(k+1)=(p+k)+1 from rfl,ux g];refine dC v ?_;cases u:tr[p+k] with
  | skip i=>simp[je,mC]
  | pure i o=>simp[je,mC]
  | new i o cs=>simp[je,mC,iR]
  | e6 i o h1=>
   rw[u] at j;obtain⟨z,_,_,_,t⟩:=j;simpa [je,mC] using t
theorem BK {ops:Array a6} {s0:kI} {tr:List bz}:∀ (k p:Nat),p+k<=tr.length->(∀ r,p<=r->r<p+k->r∉dJ tr)->lk (fj ops s0 tr p).h (fj ops s0 tr (p+k)).h
 | 0,p,_,_=>⟨[],rfl⟩
 | k+1,p,z,o=>by
  obtain⟨l,g⟩:=BK (ops:=ops) (s0:=s0) (tr:=tr) k p F (fun r h1 w=>o r h1 F);have u:p+k<tr.length:=F;have j:tr[p+k]?=some tr[p+k]:=bC u;have m:tr[p+k].hg≠true:=fun t=>o (p+k) F F (yM.2 ⟨_,j,t⟩)
  rw[show p+(k+1)=(p+k)+1 from rfl,ux j];cases v:tr[p+k] with
  | skip i=>exact⟨l,by simp[je,mC,g]⟩
  | pure i q=>exact⟨l,by simp[je,mC,g]⟩
  | new i q cs=>exact⟨l++[cs],by simp[je,mC,g,qK]⟩
  | e6 i q h1=>rw[v] at m;exact bK rfl m
theorem cV.Pu {id:Nat} {ops:Array a6} {pre:Nat->Nat->Bool} {N:Nat} {s0:kI} {tr:List bz} (B:s6 ops pre tr) (aM:∀ (i:Nat) (o:a6),ops[i]?=some o->hw N o.dst=true) (X:AG P G ops pre s0 tr) :
  cV P G (.code (.region id ops true) N s0.sgZ s0.h .normal (fj ops s0 tr tr.length).sgZ (fj ops s0 tr tr.length).h):=by
 -- the step that carries out operation i
 have gC:∀ (i:Nat) (o:a6),ops[i]?=some o->∃ t,tr[dj tr i]?=some t/\t.idx=i/\s7 P G ops (fj ops s0 tr (dj tr i)) t:=fun i o j=>by
  obtain⟨t,h1,m⟩:=r7 B ((hT.1 j).1);exact⟨t,h1,m,X.step _ _ h1⟩
 have a2:∀ (i:Nat) (o:a6),ops[i]?=some o->ij ops (j9 ops pre (fun g=>((tr[dj tr g]?).map bz.val).getD .bad) s0.sgZ i o) o=ij ops (fj ops s0 tr (dj tr i)).sgZ o:=fun i o j=>by
  unfold ij;cases aR:o.guard with
  | none=>rfl
  | some a0=>
   obtain⟨g,bk⟩:=a0;simp only;cases aN:(ops[g]?).bind (·.dst) with
   | none=>rfl
   | some d=>
    simp only;rw[GG B s0 j (t:=d) (by simp[Oper.looksAt,aR,aN])]
 have av:∀ (i:Nat) (o:a6),ops[i]?=some o->∀ x∈o.op.operands,di G (fj ops s0 tr (dj tr i)).sgZ x=di G (j9 ops pre (fun g=>((tr[dj tr g]?).map bz.val).getD .bad) s0.sgZ i o) x:=fun i o j x aY=>by
  cases x with
  | tmp t=>
   refine (GG B s0 j (t:=t) ?_).symm;simp only[Oper.looksAt,eQ,List.mem_filterMap];exact .inl ⟨.tmp t,by simpa using aY,rfl⟩
  | _=>rfl
 -- the moment ahead of effect k,or the end
 have ax:∀ k,k<=(dJ tr).length->∃ T,T<=tr.length/\(T=tr.length\/∃ t,tr[T]?=some t/\t.hg=true)/\(T=if k<(dJ tr).length then (dJ tr).getD k 0 else tr.length):=fun k hk=>by
  by_cases D:k<(dJ tr).length
  ·obtain⟨t,h1,m⟩:=GD D;exact⟨_,jW (aH.1 h1).1,.inr ⟨t,h1,m⟩,by rw[aj D]⟩
  ·exact⟨_,aF _,.inl rfl,by rw[ak D]⟩
 have I:∀ q,q<(dJ tr).length->∃ t,tr[(dJ tr).getD q 0]?=some t/\t.hg=true/\((tr[(dJ tr).getD q 0]?).map bz.idx).getD 0=t.idx:=fun q p=>by
  obtain⟨t,h1,m⟩:=GD p;exact⟨t,h1,m,by rw[h1];rfl⟩
 have aJ:∀ (i:Nat) (o:a6) (t:bz),ops[i]?=some o->tr[dj tr i]?=some t->t.idx=i->t.hg=false->∀ k,tz pre (dJ tr).length (fun q=>((tr[(dJ tr).getD q 0]?).map bz.idx).getD 0) i k->
   AF P G ops (fj ops s0 tr (dj tr i)) (fj ops s0 tr (if k<(dJ tr).length then (dJ tr).getD k 0 else tr.length)).h t:=by
  intro i o t j ag aI aT k Z;obtain⟨aS,aP,aQ⟩:=Z;obtain⟨T,az,ao,C⟩:=ax k aS;rw[<-C];have a9:dj tr i<tr.length:=(aH.1 ag).1;have aU:dj tr i<T:=by
   by_cases D:k<(dJ tr).length
   ·rw[aj D] at C;obtain⟨a1,h1,m,w⟩:=I k D;rw[<-C] at h1;rcases oG (dj tr i) T with h | h | h
    ·exact h
    ·rw[h,h1] at ag;cases ag;rw[aT] at m;cases m
    ·have Q:=B.eager T (dj tr i) a1 t h1 ag h m;have:=aP k D (by (try simp only);rw[w,<-aI];exact Q);omega
   ·rw[ak D] at C;omega
  refine X.still T ao _ t aU ag (fun bg W a7 aG aO=>?_);obtain⟨q,p,ae⟩:=x7 (yM.2 ⟨W,aG,aO⟩);obtain⟨bh,h1,m,w⟩:=I q p;rw[ae,aG] at h1;cases h1;have bb:q<k:=by
   by_cases D:k<(dJ tr).length
   ·rw[aj D] at C;rcases fB q k with h | h
    ·exact h
    ·rcases EM h with h | h
     ·subst h;omega
     ·have:=qn (tr:=tr) h p;omega
   ·omega
  cases aE:pre W.idx t.idx with
  | false=>rfl
  | true=>
   have:=aQ q p (by (try simp only);rw[w,<-aI];exact aE);omega
 refine cV.draw pre (fun g=>((tr[dj tr g]?).map bz.val).getD .bad) (fun g=>((tr[dj tr g]?).map fun t=>!t.pc).getD false) (fun g=>((tr[dj tr g]?).map bz.cls).getD .pure) (dJ tr).length
  (fun q=>((tr[(dJ tr).getD q 0]?).map bz.idx).getD 0) (fun k=>(fj ops s0 tr (if k<(dJ tr).length then (dJ tr).getD k 0 else tr.length)).h) (fun q=>(fj ops s0 tr ((dJ tr).getD q 0+1)).h)
  (fun g=>(fj ops s0 tr (dj tr g)).h.n) (fun g=>((tr[dj tr g]?).map bz.cs).getD []) B.zO aM ?_ ?_ ?_ ?_ ?_ ?_ ?_ ?_ ?_ ?_ ?_ ?_ ?_ ?_ ?_
 ·-- h0
  obtain⟨T,az,ao,C⟩:=ax 0 (ek _)
  try simp only
  rw[<-C];have:=BK (ops:=ops) (s0:=s0) (tr:=tr) T 0 F (fun r _ bc aq=>by
   obtain⟨q,p,ae⟩:=x7 aq;rw[aj F] at C;rcases EM (ek q) with h | h
   ·subst h;omega
   ·have:=qn (tr:=tr) h p;omega)
  simpa [fj] using this
 ·simp
 ·-- hσ
  funext t;rw[KI B s0 _ (aF _)];cases O:hF ops t with
  | none=>rfl
  | some g=>
   obtain⟨o,j,_⟩:=sF O;obtain⟨bi,h1,_⟩:=r7 B ((hT.1 j).1);simp only;rw[aj ((aH.1 h1).1)]
 ·-- heff
  intro i o j K v;obtain⟨t,h1,m,_⟩:=gC i o j;simp only[h1,cu,gU] at v;have Q:t.hg=true:=by cases t<;>simp_all [bz.cls,bz.hg]
  obtain⟨q,p,ae⟩:=x7 (yM.2 ⟨t,h1,Q⟩);exact⟨q,p,by rw[ae,h1];exact m⟩
 ·-- heff'
  intro q p;obtain⟨t,h1,m,w⟩:=I q p;refine⟨ops[t.idx]'(B.zo _ _ h1),by rw[w];simp[B.zo _ _ h1],?_,?_⟩
  ·simp only[za B h1,h1,cu,gU];cases t<;>simp_all [bz.pc,bz.hg]
  ·simp only[za B h1,h1,cu,gU];cases t<;>simp_all [bz.cls,bz.hg]
 ·-- hord
  intro q ko p U D;obtain⟨t,h1,m,w⟩:=I q p;obtain⟨W,H,al,am⟩:=I ko U;simp only[w,am];exact B.eager _ _ t W h1 H (qn D U) m
 ·-- hinj
  intro q ko p U Q;obtain⟨t,h1,m,w⟩:=I q p;obtain⟨W,H,al,am⟩:=I ko U;simp only[w,am] at Q;have:=B.inj _ _ t W h1 H Q;rcases oG q ko with h | h | h
  ·have:=qn (tr:=tr) h U;omega
  ·exact h
  ·have:=qn (tr:=tr) h p;omega
 ·-- hwant
  intro i o j;rw[a2 i o j];obtain⟨t,h1,m,w⟩:=gC i o j;simp only[h1,cu,gU];cases t with
  | skip g=>obtain⟨R,u,O⟩:=w;simp only[bz.idx] at m;subst m;rw[j] at u;cases u;exact O
  | pure g z=>obtain⟨R,u,O⟩:=w;simp only[bz.idx] at m;subst m;rw[j] at u;cases u;exact O
  | new g z cs=>obtain⟨R,mk,u,O,_⟩:=w;simp only[bz.idx] at m;subst m;rw[j] at u;cases u;exact O
  | e6 g z H=>obtain⟨R,u,O,_⟩:=w;simp only[bz.idx] at m;subst m;rw[j] at u;cases u;exact O
 ·-- hskip
  intro i o j K;obtain⟨t,h1,m,w⟩:=gC i o j;simp only[h1,cu,gU] at K ⊢;cases t<;>simp_all [bz.pc,bz.val]
 ·-- hpure
  intro i o j K v k Z;obtain⟨t,h1,m,w⟩:=gC i o j;simp only[h1,cu,gU] at K v;have au:=aJ i o t j h1 m (by cases t<;>simp_all [bz.cls,bz.hg]) k Z;cases t with
  | pure g z=>
   simp only[bz.idx] at m;subst m;have:=au o j;rw[DO _ _ (av g o j)] at this;simpa [h1,bz.val] using this
  | skip g=>simp[bz.pc] at K
  | new g z cs=>simp[bz.cls] at v
  | e6 g z H=>simp[bz.cls] at v
 ·-- hnew
  intro i o j K v;obtain⟨t,h1,m,w⟩:=gC i o j;simp only[h1,cu,gU] at K v;cases t with
  | new g z cs=>
   obtain⟨R,mk,u,_,aD,aX⟩:=w;simp only[bz.idx] at m;subst m;rw[j] at u;cases u;rw[SE _ (av g o j)] at aD;refine⟨mk,by simpa [h1,bz.cs] using aD,by simpa [h1,bz.val] using aX,?_,fun k Z=>?_⟩
   ·have a5:dj tr g<=tr.length:=jW (aH.1 h1).1;have:=wh X (dj tr g) 0 F;simpa [fj] using this
   ·have au:=aJ g o _ j h1 rfl rfl k Z;simpa [AF,h1,bz.cs] using au
  | skip g=>simp[bz.pc] at K
  | pure g z=>simp[bz.cls] at v
  | e6 g z H=>simp[bz.cls] at v
 ·-- hbid
  intro i g o R j u a3 a4 aK aL aA;have ay:∀ (i:Nat) (o:a6),ops[i]?=some o->((tr[dj tr i]?).map bz.cls).getD .pure=.new->∀ V,dj tr i<V->V<=tr.length->(fj ops s0 tr (dj tr i)).h.n<(fj ops s0 tr V).h.n:=by
   intro i o j v V aE a8;obtain⟨t,h1,m,_⟩:=gC i o j;simp only[h1,cu,gU] at v;have S:=wh X (V - (dj tr i+1)) (dj tr i+1) F;rw[show dj tr i+1+(V - (dj tr i+1))=V by omega,ux h1] at S;cases t with
   | new g z cs=>simp only[je,mC,iR] at S;omega
   | skip g=>simp[bz.cls] at v
   | pure g z=>simp[bz.cls] at v
   | e6 g z H=>simp[bz.cls] at v
  obtain⟨t,h1,m,_⟩:=gC i o j;obtain⟨W,H,al,_⟩:=gC g R u;have aC:=(aH.1 h1).1;have ap:=(aH.1 H).1;rcases oG (dj tr i) (dj tr g) with h | h | h
  ·have:=ay i o j aK _ h (jW ap);(try simp only at aA);omega
  ·rw[h,H] at h1;cases h1;rw[<-m,<-al]
  ·have:=ay g R u aL _ h (jW aC);(try simp only at aA);omega
 ·-- hbid'
  intro i o q j K v p;obtain⟨t,h1,m,_⟩:=gC i o j;obtain⟨aw,J,Y,ai⟩:=I q p;simp only[h1,cu,gU] at v;have aC:=(aH.1 h1).1;have ap:=(aH.1 J).1;simp only[aj p];rcases oG (dj tr i) ((dJ tr).getD q 0) with h | h | h
  ·left;have S:=wh X ((dJ tr).getD q 0 - (dj tr i+1)) (dj tr i+1) F;rw[show dj tr i+1+((dJ tr).getD q 0 - (dj tr i+1))=(dJ tr).getD q 0 by omega,ux h1] at S;cases t with
   | new g z cs=>simp only[je,mC,iR] at S;omega
   | skip g=>simp[bz.cls] at v
   | pure g z=>simp[bz.cls] at v
   | e6 g z H=>simp[bz.cls] at v
  ·rw[h,J] at h1;cases h1;cases t<;>simp_all [bz.cls,bz.hg]
  ·right;have S:=wh X (dj tr i - ((dJ tr).getD q 0+1)) ((dJ tr).getD q 0+1) F
   rwa [show (dJ tr).getD q 0+1+(dj tr i - ((dJ tr).getD q 0+1))=dj tr i by omega] at S
 ·-- hgrow
  intro q p;obtain⟨aw,J,Y,ai⟩:=I q p;have ap:=(aH.1 J).1;obtain⟨T,az,ao,C⟩:=ax (q+1) F
  try simp only
  rw[<-C];have D:(dJ tr).getD q 0<T:=by
   by_cases h:q+1<(dJ tr).length
   ·rw[aj h] at C;have:=qn (tr:=tr) (show q<q+1 by omega) h;omega
   ·rw[ak h] at C;omega
  have:=BK (ops:=ops) (s0:=s0) (tr:=tr) (T - ((dJ tr).getD q 0+1)) ((dJ tr).getD q 0+1) F (fun r bd bf aq=>by
   obtain⟨ko,U,ae⟩:=x7 aq;have aV:q<ko:=by
    rcases oG q ko with h | h | h
    ·exact h
    ·subst h;omega
    ·have:=qn (tr:=tr) h p;omega
   by_cases h:q+1<(dJ tr).length
   ·rw[aj h] at C;rcases EM (show q+1<=ko from aV) with h' | h'
    ·subst h';omega
    ·have:=qn (tr:=tr) h' U;omega
   ·omega)
  rwa [show (dJ tr).getD q 0+1+(T - ((dJ tr).getD q 0+1))=T by omega] at this
 ·-- hcall
  intro q o p j;obtain⟨aw,J,Y,ai⟩:=I q p;have ar:=za B J;simp only[ai] at j ⊢;have aW:=X.step _ _ J;cases aw with
  | e6 g z h1=>
   obtain⟨R,u,_,Q,_⟩:=aW;simp only[bz.idx] at j ar ⊢;rw[j] at u;cases u;have aB:=av g o j;rw[ar] at aB;have:=PV aB Q;simp only[ar,J,aj p,cu,gU,bz.val];rw[ux J];exact this
  | skip g=>simp[bz.hg] at Y
  | pure g z=>simp[bz.hg] at Y
  | new g z cs=>simp[bz.hg] at Y
end
abbrev AD:=cq U
def look (s:AD) (t:Nat) :U:=match s.get t with | some g=>g | none=>fz
def uz (m i:Nat) :Bool:=Nat.testBit m i
def qm (g:List Nat) :List Edge->Nat
 | []=>0
 | e::h=>match Region.binds .any e with
  | true=>Nat.lor (Nat.lor (2 ^ e.on) (g.getD e.on 0)) (qm g h)
  | false=>qm g h
def Ij (g:List Nat) :List a6->List Nat
 | []=>g
 | h::j=>Ij (g++[qm g h.after.toList]) j
def gO (ops:Array a6) :List Nat:=Ij [] ops.toList
def lN (g:List Nat) (i j:Nat) :Bool:=uz (g.getD i 0) j
def h4:Op->Bool
 | .move _ | .assign _ | .pick .. | .alloc _ | .box .. | .build .. | .buildSlice .. | .load .. | .nilCheck _ | .binOp .. | .unOp .. | .convert .. | .makeInterface .. | .makeFunc .. | .makeSlice .. | .slice .. | .fieldAddr .. | .field .. | .indexAddr .. | .index .. | .extract ..=>false
 | .call c=>match c.callee with
  | .builtin .len | .builtin .cap | .builtin .min | .builtin .max=>false
  | _=>true
 | _=>true
def CP (done:Nat) (e6:Bool) :Nat->List Nat->List a6->Option Nat
 | i,g::h,j::m=>match !uz done i&&Nat.beq (Nat.land g done) g&&(h4 j.op == e6) with
  | true=>some i
  | false=>CP done e6 (i+1) h m
 | _,_,_=>none
def Dz (g:List Nat) (os:List a6) :Nat->Nat->List Nat
 | 0,_=>[]
 | k+1,done=>match CP done false 0 g os with
  | some i=>i::Dz g os k (Nat.lor done (2 ^ i))
  | none=>match CP done true 0 g os with
   | some i=>i::Dz g os k (Nat.lor done (2 ^ i))
   | none=>[]
def ey (g:List Nat) (ops:Array a6) :List Nat:=Dz g ops.toList ops.size 0
def gW (p:Nat->a6->Bool) :Nat->List a6->Bool
 | _,[]=>true
 | i,g::h=>p i g&&gW p (i+1) h
theorem Ff {p:Nat->a6->Bool}:∀ (l:List a6) (i:Nat),gW p i l=true->∀ (j:Nat) (o:a6),l[j]?=some o->p (i+j) o=true
 | [],i,_,j,o,h=>by simp at h
 | x::l,i,h,j,o,g=>by
  simp only[gW,bN] at h;cases j with
  | zero=>simp only[g8,bc] at g;subst g;exact h.1
  | succ j=>
   simp only[ik] at g;have:=Ff l (i+1) h.2 j o g
   rwa [show i+1+j=i+(j+1) by omega] at this
def Bl (t:Nat) (o:a6) :Bool:=match o.dst with | some d=>Nat.beq d t | none=>false
def sE (t:Nat) :Nat->List a6->Option Nat
 | _,[]=>none
 | i,g::h=>match Bl t g with
  | true=>some i
  | false=>sE t (i+1) h
def Bj (h:List Nat) (ops:Array a6) :Bool:=
 gW (fun i j=>
  Nat.beq (h.getD i 0) (qm h j.after.toList) &&
  (j.after.toList.all fun e=>!Region.binds .any e||Nat.blt e.on i) &&
  (match j.dst with | some d=>(match sE d 0 ops.toList with | some g=>Nat.beq g i | none=>false) | none=>true) &&
  ((j.looksAt ops).all fun m=>match sE m 0 ops.toList with | some g=>lN h i g||lN h g i||Nat.beq g i | none=>true)) 0 ops.toList &&
 Region.noSelect ops
def y3 (h:List Nat) :List Nat->Bool
 | []=>true
 | i::r=>(r.all fun g=>!Nat.beq i g&&!lN h i g)&&y3 h r
def CH (h:List Nat) (ops:Array a6) (g:List Nat) :Bool:=
 Bj h ops&&y3 h g&&Nat.beq g.length ops.size&&(g.all fun i=>Nat.blt i ops.size)&&(List.range ops.size).all fun i=>g.contains i
abbrev Az:=cb->ag->aE->Option (U × aE)
section
variable (P:bg) (G:Nat->U)
def hC (call:Az) (op:Op) (s:AD) (h:aE) :Option (U × aE):=
 match cB P h (di G (look s)) op with
 | some (.val g h')=>some (g,h')
 | some (.call f args h1)=>call f args h1
 | none=>none
end
theorem Bn (ms:List Nat) (j:Nat) :∀ (es:List Edge),uz (qm ms es) j=true->∃ e∈es,Region.binds .any e=true/\(e.on=j\/lN ms e.on j=true)
 | [],h=>by simp[qm,uz] at h
 | e::es,h=>by
  unfold qm at h;cases g:Region.binds .any e with
  | false=>
   rw[g] at h;obtain⟨m,h1,o⟩:=Bn ms j es h;exact⟨m,Al _ h1,o⟩
  | true=>
   rw[g] at h;simp only[uz] at h;have h' : Nat.testBit ((2 ^ e.on ||| ms.getD e.on 0) ||| qm ms es) j=true:=h;rw[Nat.testBit_or,Nat.testBit_or,q9,q9,Nat.testBit_two_pow] at h';rcases h' with (h' | h') | h'
   ·exact⟨e,EC,g,.inl (by simpa using h')⟩
   ·exact⟨e,EC,g,.inr h'⟩
   ·obtain⟨m,h1,o⟩:=Bn ms j es h';exact⟨m,Al _ h1,o⟩
theorem L8 (t:Nat) :∀ (l:List a6) (i:Nat),sE t i l=((List.range l.length).find? fun j=>match l[j]? with | some o=>o.dst == some t | none=>false).map (·+i)
 | [],i=>by simp[sE]
 | o::l,i=>by
  unfold sE;have g:Bl t o=(o.dst == some t):=by
   unfold Bl;cases o.dst with
   | none=>rfl
   | some d=>
    by_cases h:d=t
    ·subst h;simp
    ·have:Nat.beq d t=false:=h7 h;simp[this,h]
  rw[g,du,List.range_succ_eq_map,Ai];simp only[g8];cases m:(o.dst == some t) with
  | true=>simp
  | false=>
   simp only[List.find?_map];rw[L8 t l (i+1)];have:((fun j=>match (o::l)[j]? with | some o=>o.dst == some t | none=>false) ∘ Nat.succ)=fun j=>match l[j]? with | some o=>o.dst == some t | none=>false:=by
    funext j;simp
   rw[this];cases (List.range l.length).find? (fun j=>match l[j]? with | some o=>o.dst == some t | none=>false) with
   | none=>rfl
   | some j=>simp;omega
theorem L7 (ops:Array a6) (t:Nat) :sE t 0 ops.toList=hF ops t:=by
 rw[L8];unfold hF;simp only[pP,q6,nG,Option.map_id_fun',id_eq]
 all_goals congr 1
theorem Pv {q:List Nat} {ops:Array a6} (h:Bj q ops=true) :oI ops (lN q):=by
 unfold Bj at h;rw[bN] at h;obtain⟨h,D⟩:=h;have m:∀ (i:Nat) (g:a6),ops[i]?=some g->_:=fun i g j=>Ff _ 0 h i g (by simpa using j)
 simp only[gT,bN] at m;refine⟨fun i g e j B w=>?_,fun i g p j C=>?_,fun i g t j z=>?_,fun i g t p j F o=>?_,D⟩
 ·have:=(m i g j).1.1.2;rw[fW] at this;have:=this e (by simpa using B);rw[w] at this;simp only[xk,Ac] at this;simpa [As] using this
 ·have:=h6 (m i g j).1.1.1;have u:uz (q.getD i 0) p=true:=C;rw[this] at u;obtain⟨e,h1,v⟩:=Bn q p _ u;exact⟨e,by simpa using h1,v⟩
 ·have:=(m i g j).1.2;rw[z] at this;simp only at this;rw[L7] at this;cases o:hF ops t with
  | none=>rw[o] at this;cases this
  | some p=>rw[o] at this;simp only at this;rw[h6 this]
 ·have:=(m i g j).2;rw[fW] at this;have:=this t F;rw[L7,o] at this;simp only[q9] at this;rcases this with (h1 | h1) | h1
  ·exact .inl h1
  ·exact .inr (.inl h1)
  ·exact .inr (.inr (h6 h1))
theorem y4 {q:List Nat}:∀ {l:List Nat},y3 q l=true->∀ (p g:Nat) (i j:Nat),l[p]?=some i->l[g]?=some j->p<g->i≠j/\lN q i j=false
 | [],_,p,g,i,j,m,_,_=>by simp at m
 | x::l,h,p,g,i,j,m,o,u=>by
  simp only[y3,bN,fW] at h;cases g with
  | zero=>omega
  | succ g=>
   simp only[ik] at o;cases p with
   | zero=>
    simp only[g8,bc] at m;subst m;have:=h.1 j (cz o);simp only[sN] at this;refine⟨fun t=>?_,this.2⟩;subst t;rw[pm rfl] at this;cases this.1
   | succ p=>
    simp only[ik] at m;exact y4 h.2 p g i j m o F
section
variable {P:bg} {G:Nat->U}
def Ms (P:bg) (G:Nat->U) (call:Az) :Prop:=∀ f args h r h',call f args h=some (r,h')->cV P G (.call f args h r h')
theorem IU {call:Az} (m:Ms P G call) {op:Op} {s:AD} {h h' : aE} {v:U} (g:hC P G call op s h=some (v,h')) :cV P G (.op op (look s) h v h'):=by
 unfold hC at g;split at g
 ·rename_i o h1 j;cases g;exact .ww j
 ·rename_i f args h1 j;exact .r4 j (m _ _ _ _ _ g)
 ·cases g
theorem zE {ops:Array a6} {s0:kI} {t:bz} {tr:List bz} (p:Nat) :fj ops s0 (t::tr) (p+1)=fj ops (je ops s0 t) tr p:=by simp[fj]
end
section
variable {P:bg} {G:Nat->U}
theorem ui (w:aO) (R:Nat->Prop) (j:∀ k,w.heap.size<=k->R k) :bu R w.heap.size w aE.empty (fun _=>none) where
 blk:=fun b h m=>by cases m
 inj:=fun b o h p g=>by rw[x8] at g;cases g
 base:=fun b h g=>by rw[x8] at g;cases g
 fresh:=fun b _=>x8 b
 up:=j
 size:=aF _
 iA:=fun b _=>rfl
theorem mD (muZ:bU) (k:Nat) :¬ Own aE.empty muZ k:=by rintro⟨b,h,g,_⟩;rw[x8] at g;cases g
theorem D5 (B:P.follows .mixedOrders=true) (m:∀ g,(G g).ax=true) {f:cb} {args:ag} {r:U} {h' : aE} (p:cV P G (.call f args aE.empty r h'))
  {w:aO} {A:Nat->Prop} {vs:Array aB} (q:∀ g,c5 w A (G g) (.pointer (some ⟨g,0,none⟩))) (z:vs.size=args.length)
  (D:∀ (j:Nat) (c:U) (v:aB),args[j]?=some c->vs[j]?=some v->c5 w A c v) :
  Calls P f vs w fun e w'=>∃ v muZ',e=.returned v/\eo w w'/\bu (fun k=>A k\/w.heap.size<=k) w.heap.size w' h' muZ'/\az w' (fun k=>A k\/w.heap.size<=k) h' muZ' r v:=by
 have up:∀ {c:U} {v:aB},c5 w A c v->az w (fun k=>A k\/w.heap.size<=k) aE.empty (fun _=>none) c v:=fun o=>o.up (fun k _ hk=>⟨.inl hk,mD _ k⟩)
 refine (sn B m p (fun k=>A k\/w.heap.size<=k) w.heap.size w (fun _=>none) vs (ui w _ fun k hk=>.inr hk) (fun g=>⟨m g,up (q g)⟩) z (fun j c v t u=>up (D j c v t u))).mono ?_;rintro e w' ⟨v,muZ',rfl,h,rel,C⟩;exact⟨v,muZ',rfl,⟨⟨h.os,h.tape,h.output,h.size,fun k hk=>h.bo k hk (mD _ k)⟩,h.drawn⟩,rel,C⟩
theorem W0 (t:P.follows .mixedOrders=true) (h:∀ g,(G g).ax=true) {f:cb} {args:ag} {h' : aE} (o:cV P G (.call f args aE.empty (.bool true) h'))
  {w:aO} {A:Nat->Prop} {vs:Array aB} (p:∀ g,c5 w A (G g) (.pointer (some ⟨g,0,none⟩))) (q:vs.size=args.length)
  (z:∀ (j:Nat) (c:U) (v:aB),args[j]?=some c->vs[j]?=some v->c5 w A c v) :
  Calls P f vs w fun e w'=>e=.returned (.bool true)/\RowKit.Below w.heap.size w w':=by refine (D5 t h o p q z).mono ?_;rintro e w' ⟨v,muZ',rfl,m,_,u⟩;cases u;exact⟨rfl,m.toBelow⟩
def EW:Nat->U:=fun _=>.bad
end
section
variable {alZ:Type}
theorem qQ:∀ (k k' : Nat) (t:cq alZ) (n:Nat) (x:alZ),n<k->n<k'->t.ig k n x=t.ig k' n x
 | 0,_,_,_,_,h,_=>F
 | _+1,0,_,_,_,_,h=>F
 | k+1,k'+1,t,n,x,h,h'=>by
  by_cases g:n=0
  ·subst g;cases t<;>rfl
  ·have j:Nat.beq n 0=false:=h7 g;cases t with
   | nil=>
    unfold cq.ig;simp only[j];rw[qQ k k' .nil (n / 2) x F F,qQ k k' .nil (n / 2 - 1) x F F]
   | node l m r=>
    unfold cq.ig;simp only[j];rw[qQ k k' l (n / 2) x F F,qQ k k' r (n / 2 - 1) x F F]
def cq.lt:cq alZ->cq alZ | .nil=>.nil | .node l _ _=>l
def cq.rt:cq alZ->cq alZ | .nil=>.nil | .node _ _ r=>r
def cq.mid:cq alZ->Option alZ | .nil=>none | .node _ v _=>v
theorem nq (t:cq alZ) (x:alZ) :t.set 0 x=.node t.lt (some x) t.rt:=by cases t<;>rfl
theorem kr (t:cq alZ) (m:Nat) (x:alZ) :t.set (2*m+1) x=.node (t.lt.set m x) t.mid t.rt:=by
 have h1:Nat.beq (2*m+1) 0=false:=h7 F;have g:Nat.beq ((2*m+1) % 2) 1=true:=pm F;have h:(2*m+1) / 2=m:=F;cases t with
 | nil=>show cq.ig (2*m+1+1) .nil (2*m+1) x=_;unfold cq.ig;simp only[h1,g,h];rw[qQ _ (m+1) _ _ _ F F];rfl
 | node l j r=>show cq.ig (2*m+1+1) (.node l j r) (2*m+1) x=_;unfold cq.ig;simp only[h1,g,h];rw[qQ _ (m+1) _ _ _ F F];rfl
theorem kq (t:cq alZ) (m:Nat) (x:alZ) :t.set (2*m+2) x=.node t.lt t.mid (t.rt.set m x):=by
 have h1:Nat.beq (2*m+2) 0=false:=h7 F;have g:Nat.beq ((2*m+2) % 2) 1=false:=h7 F;have h:(2*m+2) / 2 - 1=m:=F;cases t with
 | nil=>show cq.ig (2*m+2+1) .nil (2*m+2) x=_;unfold cq.ig;simp only[h1,g,h];rw[qQ _ (m+1) _ _ _ F F];rfl
 | node l j r=>show cq.ig (2*m+2+1) (.node l j r) (2*m+2) x=_;unfold cq.ig;simp only[h1,g,h];rw[qQ _ (m+1) _ _ _ F F];rfl
theorem Cs (n:Nat) :n=0\/(∃ m,m<n/\n=2*m+1)\/∃ m,m<n/\n=2*m+2:=by
 rcases Nat.eq_zero_or_pos n with h | h
 ·exact .inl h
 ·rcases Nat.mod_two_eq_zero_or_one n with g | g
  ·exact .inr (.inr ⟨n / 2 - 1,F,F⟩)
  ·exact .inr (.inl ⟨n / 2,F,F⟩)
theorem VW (n:Nat) :∀ (t:cq alZ) (x y:alZ),(t.set n x).set n y=t.set n y:=by
 induction n using Nat.strongRecOn with
 | _ n j=>
  intro t x y;rcases Cs n with rfl | ⟨h,g,rfl⟩ | ⟨h,g,rfl⟩
  ·rw[nq t x,nq t y,nq];rfl
  ·rw[kr t,kr t,kr];simp only[cq.lt,cq.mid,cq.rt,j h g]
  ·rw[kq t,kq t,kq];simp only[cq.lt,cq.mid,cq.rt,j h g]
theorem set_comm (n:Nat) :∀ (t:cq alZ) (k:Nat) (x y:alZ),n≠k->(t.set n x).set k y=(t.set k y).set n x:=by
 induction n using Nat.strongRecOn with
 | _ n m=>
  intro t k x y p;rcases Cs n with rfl | ⟨j,g,rfl⟩ | ⟨j,g,rfl⟩<;>rcases Cs k with rfl | ⟨h,o,rfl⟩ | ⟨h,o,rfl⟩
  ·exact bK rfl p
  ·rw[nq t,kr,kr t,nq];rfl
  ·rw[nq t,kq,kq t,nq];rfl
  ·rw[kr t,nq,nq t,kr];rfl
  ·rw[kr t,kr,kr t,kr];simp only[cq.lt,cq.mid,cq.rt];rw[m j g _ h _ _ F]
  ·rw[kr t,kq,kq t,kr];rfl
  ·rw[kq t,nq,nq t,kq];rfl
  ·rw[kq t,kr,kr t,kq];rfl
  ·rw[kq t,kq,kq t,kq];simp only[cq.lt,cq.mid,cq.rt];rw[m j g _ h _ _ F]
end
abbrev ae:=List am
def kf:Nat->cq am->ae->cq am
 | _,g,[]=>g
 | i,g,c::cs=>kf (i+1) (g.set i c) cs
def aU (l:ae) :aE:=⟨l.length,kf 0 .nil l⟩
@[simp] theorem AB (l:ae) :(aU l).n=l.length:=rfl
theorem Hu:∀ (l:ae) (i:Nat) (t:cq am) (c:am),kf i t (l++[c])=(kf i t l).set (i+l.length) c
 | [],i,t,c=>rfl
 | x::l,i,t,c=>by
  simp only[jo,kf,du];rw[Hu l,show i+1+l.length=i+(l.length+1) by omega]
theorem ll (l:ae) (c:am) :(aU l).push c=aU (l++[c]):=by unfold aU aE.push;rw[Hu];simp
theorem Hy:∀ (l:ae) (i j:Nat) (t:cq am) (c:am),i<j->(kf j t l).set i c=kf j (t.set i c) l
 | [],_,_,_,_,_=>rfl
 | x::l,i,j,t,c,h=>by
  simp only[kf];rw[Hy l i (j+1) _ c F,set_comm j t i x c F]
theorem Hw:∀ (l:ae) (i b:Nat) (t:cq am) (c:am),b<l.length->(kf i t l).set (i+b) c=kf i t (l.set b c)
 | [],_,_,_,_,h=>by simp at h
 | x::l,i,0,t,c,_=>by
  simp only[kf,xu,nG];rw[Hy l i (i+1) _ c F,VW]
 | x::l,i,b+1,t,c,h=>by
  simp only[kf,EG];rw[<-Hw l (i+1) b _ c (by simpa using h),show i+(b+1)=i+1+b by omega]
theorem ma {l:ae} {b:Nat} (c:am) (h:b<l.length) :(aU l).set b c=aU (l.set b c):=by unfold aU aE.set;have:=Hw l 0 b .nil c h;rw[gT] at this;simp only[this,jU]
theorem Hv:∀ (l:ae) (i:Nat) (t:cq am) (b:Nat),(kf i t l).get b=if i<=b/\b<i+l.length then l[b - i]? else t.get b
 | [],i,t,b=>by simp only[kf,hI];rw[ak F]
 | x::l,i,t,b=>by
  simp only[kf,du];rw[Hv l,cq.BI];by_cases h1:i+1<=b/\b<i+1+l.length
  ·rw[aj h1,aj F,show b - i=(b - (i+1))+1 by omega,ik]
  ·rw[ak h1];by_cases g:b=i
   ·subst g;rw[aj rfl,aj F];simp
   ·rw[ak g,ak F]
theorem js (l:ae) (b:Nat) :(aU l).f b=match l[b]? with | some c=>c | none=>.none:=by
 unfold aU aE.f;simp only[Hv,ek,true_and,gT,uZ];by_cases h:b<l.length
 ·rw[aj h];cases l[b]?<;>rfl
 ·rw[ak h,dV F];rfl
theorem hq {l:ae} {b n:Nat} {cs:ag}:(aU l).f b=.cells n cs<->l[b]?=some (.cells n cs):=by
 rw[js];cases h:l[b]? with
 | none=>simp
 | some c=>simp
theorem aY {l:ae} {b:Nat} {c:am} (h:l[b]?=some c) :b<l.length:=(aH.1 h).1
end Go.bf

/-
  The canonical machine, part K: running code.
-/
import Derived.Test.YtdjbnhgdhambnaaGreatDoorUb
import Derived.Orders
import Derived.Still
import Derived.Scope
import Derived.LoopN
import Derived.ProofKit
set_option maxHeartbeats 16000000
set_option maxRecDepth 100000
set_option linter.unusedVariables false
set_option linter.unusedSimpArgs false
set_option linter.unnecessarySimpa false
namespace Go.bl
open Go
inductive qe where
 | normal
 | exit (id:Nat)
 | ret
def qe.out:qe->Exit
 | .normal=>.normal
 | .exit id=>.exit id
 | .ret=>.ret
def iJ (ops:Array bb) (sgZ:Nat->U) (o:bb) :Option Bool:=
 match o.guard with
 | none=>some true
 | some (g,h)=>match (ops[g]?).bind (·.dst) with
  | none=>some false
  | some d=>match sgZ d with
   | .bool b=>some (b == h)
   | .bad=>none
   | _=>some false
def gF (sgZ:Nat->U) (g:Option Tmp) (c:U) :Nat->U:=match g with | some d=>bt sgZ d c | none=>sgZ
def hO (N:Nat) (g:Option Tmp) :Bool:=match g with | some d=>decide (d<N) | none=>true
def uv (P:bq) (h:aM) (sgZ:Nat->U) :ResultVar->Option U
 | .tmp g=>some (sgZ g)
 | .cell a g=>oK P h g (sgZ a)
def q3 (P:bq) (h:aM) (sgZ:Nat->U) :List ResultVar->Option (ag)
 | []=>some []
 | r::g=>match uv P h sgZ r,q3 P h sgZ g with
  | some j,some m=>some (j::m)
  | _,_=>none
def sL:ag->U
 | [g]=>g
 | h=>.a1 h
def uu (P:bq) (h:aM) (sgZ:Nat->U) (fn:Func) :Option U:=(q3 P h sgZ fn.results.toList).map sL
mutual
def U.ar:U->Bool
 | .af cs=>aq cs
 | .a1 cs=>aq cs
 | .b7 cs _=>aq cs
 | .bu _ g=>rO g
 | .fn _ a b=>aq a&&aq b
 | .fX _ h=>h.ar
 | .ptr .. | .Z .. | .mp _ | .it _=>false
 | _=>true
def aq:ag->Bool
 | []=>true
 | c::cs=>c.ar&&aq cs
def rO:List (ag)->Bool
 | []=>true
 | c::cs=>aq c&&rO cs
end
def dg (w:aT) (A:Nat->Prop) (c:U) (v:aD) :Prop:=aA w A aM.empty (fun _=>none) c v
structure ew (w w' : aT) :Prop extends RowKit.Below w.heap.size w w' where
 drawn:w.drawn<=w'.drawn
def jS (G:Nat->U) (w:aT) (R:Nat->Prop) (h:aM) (muZ:b3) :Prop:=∀ g,(G g).ar=true/\aA w R h muZ (G g) (.pointer (some ⟨g,0,none⟩))
def jR (P:bq) (G:Nat->U) (f:cj) (args:ag) (h:aM) (r:U) (h' : aM) :Prop:=
 ∀ (g:Nat->Prop) (B:Nat) (w:aT) (muZ:b3) (m:Array aD),bC g B w h muZ->jS G w g h muZ->m.size=args.length->
  (∀ (o:Nat) (c:U) (j:aD),args[o]?=some c->m[o]?=some j->aA w g h muZ c j)->
  Calls P f m w fun e w'=>∃ j muZ',e=.returned j/\cY w h muZ w' h' muZ'/\bC g B w' h' muZ'/\aA w' g h' muZ' r j
def i9 (P:bq) (G:Nat->U) (f:cj) (args:ag) (r:U) :Prop:=
 ∀ (w:aT) (A:Nat->Prop) (h:Array aD),(∀ j,dg w A (G j) (.pointer (some ⟨j,0,none⟩)))->h.size=args.length->
  (∀ (m:Nat) (c:U) (g:aD),args[m]?=some c->h[m]?=some g->dg w A c g)->
  Calls P f h w fun e w'=>∃ g,e=.returned g/\ew w w'/\dg w' (fun k=>A k\/w.heap.size<=k) r g
def nh (P:bq) (G:Nat->U) (f:cj) (args:ag) (r:U) :Prop:=
 ∀ (w:aT) (A:Nat->Prop) (h:Array aD),(∀ j,dg w A (G j) (.pointer (some ⟨j,0,none⟩)))->h.size=args.length->
  (∀ (m:Nat) (c:U) (g:aD),args[m]?=some c->h[m]?=some g->dg w A c g)->
  Calls P f h w fun e w'=>∃ g,e=.returned g/\ew w w'/\dg w' (fun k=>w.heap.size<=k) r g
inductive fp (h:aM) :U->U->Prop
 | same (c:U) (z:c.ar=true) :fp h c c
 | af (cs j:ag) (u:j.length=cs.length) (v:∀ (m:Nat) (c g:U),cs[m]?=some c->j[m]?=some g->fp h c g) :fp h (.af cs) (.af j)
 | a1 (cs j:ag) (u:j.length=cs.length) (v:∀ (m:Nat) (c g:U),cs[m]?=some c->j[m]?=some g->fp h c g) :fp h (.a1 cs) (.a1 j)
 | Z (p b o len cap q:Nat) (cs:ag) (t:List (ag)) (w:h.f b=.cells q cs) (u:t.length=len) (C:∀ e∈t,e.length=p)
   (B:o+len*p<=cs.length)
   (v:∀ (i m:Nat) (e:ag) (c g:U),t[i]?=some e->e[m]?=some g->cs[o+(i*p+m)]?=some c->fp h c g) :fp h (.Z p b o len cap q) (.bu p t)
 | sG (p b o cap q:Nat) :fp h (.Z p b o 0 cap q) (.bu p [])
 | ptr (b o q:Nat) (cs j:ag) (w:h.f b=.cells q cs) (u:j.length=cs.length) (v:∀ (m:Nat) (c g:U),cs[m]?=some c->j[m]?=some g->fp h c g) :fp h (.ptr b o q) (.b7 j o)
mutual
def U.flat:U->Bool
 | .af cs=>kE cs
 | .a1 cs=>kE cs
 | .fX _ g=>g.flat
 | .bool _ | .int .. | .str _ | .iy | .ae | .g0 | .ib | .hS=>true
 | _=>false
def kE:ag->Bool
 | []=>true
 | c::cs=>c.flat&&kE cs
end
inductive xS where
 | pure | new | fb
def kM (P:bq) (j:aY->U) :Op->Option (ag × (Nat->U))
 | .alloc h=>(gb P h).map fun g=>(g,fun b=>.ptr b 0 g.length)
 | .box _ x=>(j x).cells.map fun cs=>(cs,fun b=>.ptr b 0 cs.length)
 | .buildSlice h len parts=>match gj P h with
  | some e=>match b9 P e,gb P e with
   | some g,some zero=>if zero.length=g/\len*g<=16777216 then
     (ey (fun i=>some (i*g,g)) (c3 zero len) (parts.toList.map fun m=>(m.1,j m.2))).map fun cs=>(cs,fun b=>.Z g b 0 len len (len*g))
    else none
   | _,_=>none
  | none=>none
 | .makeSlice h l c=>match gj P h,asInt (j l),asInt (j c) with
  | some e,some l,some c=>match b9 P e,gM P e,gb P e with
   | some g,some o,some zero=>
    if zero.length=g/\0<=l/\l<=c/\c<9223372036854775808/\o*c<=dk then
     some (c3 zero c.toNat,fun b=>.Z g b 0 l.toNat c.toNat (c.toNat*g))
    else none
   | _,_,_=>none
  | _,_,_=>none
 | _=>none
def hZ (ops:Array bb) (t:Nat) :Option Nat:=(List.range ops.size).find? fun i=>match ops[i]? with | some g=>g.dst == some t | none=>false
def kD (ops:Array bb) (pre:Nat->Nat->Bool) (val:Nat->U) (sgZ:Nat->U) (i:Nat) (o:bb) :Nat->U:=fun g=>
 if (o.looksAt ops).contains g then
  match hZ ops g with
  | some h=>if pre i h then val h else sgZ g
  | none=>sgZ g
 else .bad
structure o9 (ops:Array bb) (pre:Nat->Nat->Bool) :Prop where
 vT:∀ (i:Nat) (o:bb) (e:Edge),ops[i]?=some o->e∈o.after->Region.binds .any e=true->e.on<i
 chain:∀ (i:Nat) (o:bb) (j:Nat),ops[i]?=some o->pre i j=true->∃ e∈o.after,Region.binds .any e=true/\(e.on=j\/pre e.on j=true)
 one:∀ (i:Nat) (o:bb) (t:Tmp),ops[i]?=some o->o.dst=some t->hZ ops t=some i
 acc:∀ (i:Nat) (o:bb) (t:Tmp) (j:Nat),ops[i]?=some o->t∈o.looksAt ops->hZ ops t=some j->pre i j=true\/pre j i=true\/j=i
 acO:Region.noSelect ops=true
def qZ (h:aM) (l:List (ag)) :aM:=l.foldl (fun h cs=>h.push (.cells cs.length cs)) h
def lM (h h' : aM) :Prop:=∃ l,h'=qZ h l
theorem JU:∀ (l:List (ag)) (h:aM),(qZ h l).n=h.n+l.length
 | [],h=>rfl
 | c::l,h=>by
  have:=JU l (h.push (.cells c.length c));simp only[qZ,xI,dN] at this ⊢;rw[this];simp only[jl];omega
theorem JV:∀ (l:List (ag)) (h:aM) (b:Nat),b<h.n->(qZ h l).f b=h.f b
 | [],h,b,_=>rfl
 | c::l,h,b,g=>by
  have:=JV l (h.push (.cells c.length c)) b (by simp only[jl];omega);simp only[qZ,xI] at this ⊢;rw[this];simp only[dX];exact bS _ _ _ _ F
theorem JT:∀ (l:List (ag)) (h:aM),(∀ b,h.n<=b->h.f b=.none)->∀ b,(qZ h l).n<=b->(qZ h l).f b=.none
 | [],h,g=>g
 | c::l,h,g=>by
  refine JT l (h.push (.cells c.length c)) (fun b j=>?_);simp only[dX,jl] at j ⊢;rw[bS _ _ _ _ F];exact g b F
theorem lM.n {h h' : aM} (g:lM h h') :h.n<=h'.n:=by obtain⟨l,rfl⟩:=g;rw[JU];omega
theorem lM.same {h h' : aM} (g:lM h h') (b:Nat) (j:b<h.n) :h'.f b=h.f b:=by obtain⟨l,rfl⟩:=g;exact JV l h b j
theorem lM.fresh {h h' : aM} (g:lM h h') (j:∀ b,h.n<=b->h.f b=.none) :∀ b,h'.n<=b->h'.f b=.none:=by obtain⟨l,rfl⟩:=g;exact JT l h j
inductive iO (h j:aM) :U->U->Prop
 | same (c:U) :iO h j c c
 | af (cs u:ag) (v:u.length=cs.length) (w:∀ (o:Nat) (c m:U),cs[o]?=some c->u[o]?=some m->iO h j c m) :iO h j (.af cs) (.af u)
 | Z (g b p len cap t:Nat) (cs:ag) (q:List (ag)) (z:h.f b=.cells t cs) (B:j.f b=.dead) (v:q.length=len) (D:∀ e∈q,e.length=g)
   (C:p+len*g<=cs.length)
   (w:∀ (i o:Nat) (e:ag) (c m:U),q[i]?=some e->e[o]?=some m->cs[p+(i*g+o)]?=some c->iO h j c m) :iO h j (.Z g b p len cap t) (.bu g q)
 | sG (g b p cap t:Nat) :iO h j (.Z g b p 0 cap t) (.bu g [])
structure iP (h g:aM) :Prop where
 n:g.n=h.n
 blk:∀ b,g.f b=h.f b\/∃ sz cs,h.f b=.cells sz cs/\(g.f b=.dead\/∃ m,g.f b=.cells sz m/\m.length=cs.length/\∀ (j:Nat) (c yd:U),cs[j]?=some c->m[j]?=some yd->iO h g c yd)
inductive J where
 | code (c:Code) (N:Nat) (g:Nat->U) (h:aM) (e:qe) (j:Nat->U) (h' : aM)
 | ops (all:Array bb) (l:List bb) (N:Nat) (g:Nat->U) (h:aM) (j:Nat->U) (h' : aM)
 | op (op:Op) (g:Nat->U) (h:aM) (m:U) (h' : aM)
 | call (f:cj) (args:ag) (h:aM) (r:U) (h' : aM)
def tI (pre:Nat->Nat->Bool) (m:Nat) (g:Nat->Nat) (i k:Nat) :Prop:=k<=m/\(∀ q,q<m->pre i (g q)=true->q<k)/\∀ q,q<m->pre (g q) i=true->k<=q
inductive c8 (P:bq) (G:Nat->U) :J->Prop where
 | skip (N g h) :c8 P G (.code .skip N g h .normal g h)
 | label (l N g h) :c8 P G (.code (.label l) N g h .normal g h)
 | ret (N g h) :c8 P G (.code .ret N g h .ret g h)
 | exit (id N g h) :c8 P G (.code (.exit id) N g h (.exit id) g h)
 | KZ {a b N g h D h1 e m h'}:c8 P G (.code a N g h .normal D h1)->c8 P G (.code b N D h1 e m h')->c8 P G (.code (.seq a b) N g h e m h')
 | D7 {a b N g h e m h'}:c8 P G (.code a N g h e m h')->e≠.normal->c8 P G (.code (.seq a b) N g h e m h')
 | cond {c x y N g h b e m h'}:dA G g c=.bool b->c8 P G (.code (if b then x else y) N g h e m h')->c8 P G (.code (.cond c x y) N g h e m h')
 | x8 {id c N g h e m h'}:c8 P G (.code c N g h e m h')->e≠.exit id->c8 P G (.code (.block id c) N g h e m h')
 | Gb {id c N g h m h'}:c8 P G (.code c N g h (.exit id) m h')->c8 P G (.code (.block id c) N g h .normal m h')
 | tV {c N g h D h1 e m h'}:c8 P G (.code c N g h .normal D h1)->c8 P G (.code (.loop c) N D h1 e m h')->c8 P G (.code (.loop c) N g h e m h')
 | CL {c N g h e m h'}:c8 P G (.code c N g h e m h')->e≠.normal->c8 P G (.code (.loop c) N g h e m h')
 | scope {c N g h e m h'}:c8 P G (.code c N g h e m h')->c8 P G (.code (.scope c) N g h e m h')
 | region {id ops N g h m h'}:c8 P G (.ops ops ops.toList N g h m h')->c8 P G (.code (.region id ops false) N g h .normal m h')
 | draw {id ops N g h m h'} (pre:Nat->Nat->Bool) (val:Nat->U) (W:Nat->Bool) (cls:Nat->xS) (p:Nat) (o:Nat->Nat) (v H:Nat->aM) (z:Nat->Nat) (cells:Nat->ag)
   (ar:o9 ops pre)
   (V:∀ (i:Nat) (j:bb),ops[i]?=some j->hO N j.dst=true)
   (Q:lM h (v 0)) (ai:h'=v p) (ap:m=fun F=>match hZ ops F with | some i=>val i | none=>g F)
   (X:∀ (i:Nat) (j:bb),ops[i]?=some j->W i=true->cls i=.fb->∃ q,q<p/\o q=i)
   (Y:∀ q,q<p->∃ j,ops[o q]?=some j/\W (o q)=true/\cls (o q)=.fb)
   (ak:∀ q B,q<p->B<p->q<B->pre (o B) (o q)=true)
   (ah:∀ q B,q<p->B<p->o q=o B->q=B)
   (ao:∀ (i:Nat) (j:bb),ops[i]?=some j->iJ ops (kD ops pre val g i j) j=some (W i))
   (am:∀ (i:Nat) (j:bb),ops[i]?=some j->W i=false->val i=fC)
   (al:∀ (i:Nat) (j:bb),ops[i]?=some j->W i=true->cls i=.pure->∀ k,tI pre p o i k->cO P (v k) (dA G (kD ops pre val g i j)) j.op=some (.val (val i) (v k)))
   (aj:∀ (i:Nat) (j:bb),ops[i]?=some j->W i=true->cls i=.new->∃ mk,kM P (dA G (kD ops pre val g i j)) j.op=some (cells i,mk)/\val i=mk (z i)/\h.n<=z i ∧
    ∀ k,tI pre p o i k->(v k).f (z i)=.cells (cells i).length (cells i))
   (R:∀ (i t:Nat) (j O:bb),ops[i]?=some j->ops[t]?=some O->W i=true->W t=true->cls i=.new->cls t=.new->z i=z t->i=t)
   (S:∀ (i:Nat) (j:bb) (q:Nat),ops[i]?=some j->W i=true->cls i=.new->q<p->z i<(v q).n\/(H q).n<=z i)
   (ad:∀ q,q<p->lM (H q) (v (q+1)))
   (T:∀ (q:Nat) (j:bb),q<p->ops[o q]?=some j->c8 P G (.op j.op (kD ops pre val g (o q) j) (v q) (val (o q)) (H q))) :
   c8 P G (.code (.region id ops true) N g h .normal m h')
 | Jg {all N g h}:c8 P G (.ops all [] N g h g h)
 | Ji {all j l N g h m h'}:iJ all g j=some false->hO N j.dst=true->c8 P G (.ops all l N (gF g j.dst fC) h m h')->c8 P G (.ops all (j::l) N g h m h')
 | Jh {all j l N g h u h1 m h'}:iJ all g j=some true->hO N j.dst=true->c8 P G (.op j.op g h u h1)->c8 P G (.ops all l N (gF g j.dst u) h1 m h')->c8 P G (.ops all (j::l) N g h m h')
 | zp {op g h u h'}:cO P h (dA G g) op=some (.val u h')->c8 P G (.op op g h u h')
 | ui {op g h f args h1 u h'}:cO P h (dA G g) op=some (.call f args h1)->c8 P G (.call f args h1 u h')->c8 P G (.op op g h u h')
 | Ax {op g h u h' K I}:c8 P G (.op op g h u h')->iP h' I->iO h' I u K->c8 P G (.op op g h K I)
 | inline {f fn c args h e m h' r}:P.funcs[f]?=some fn->fn.body=some c->
   c8 P G (.code c (args.length+(fn.ntmps - args.length)) (fun F=>args.getD F fC) h e m h')->(e=.normal\/e=.ret)->uu P h' m fn=some r->c8 P G (.call f args h r h')
 | pure {f args h r}:i9 P G f args r->aq args=true->c8 P G (.call f args h r h)
 | JP {f args w h r}:i9 P G f w r->w.length=args.length->(∀ (t:Nat) (c C:U),args[t]?=some c->w[t]?=some C->fp h c C)->r.flat=true->c8 P G (.call f args h r h)
 | ext {f args h r h'}:jR P G f args h r h'->c8 P G (.call f args h r h')
 | JQ {f args w h r}:nh P G f w r->w.length=args.length->(∀ (t:Nat) (c C:U),args[t]?=some c->w[t]?=some C->fp h c C)->c8 P G (.call f args h r h)
section
variable {P:bq} {G:Nat->U}
structure gL (N:Nat) (w:aT) (R:Nat->Prop) (h:aM) (muZ:b3) (sgZ:Nat->U) (a:Act) :Prop where
 size:a.tmps.size=N
 defers:a.defers=[]
 val:∀ t,aA w R h muZ (sgZ t) (a.tmps.getD t undef)
theorem jS.ext {w w' : aT} {R:Nat->Prop} {h h' : aM} {muZ muZ' : b3} (g:jS G w R h muZ) (e:cY w h muZ w' h' muZ') :jS G w' R h' muZ':=fun i=>⟨(g i).1,(g i).2.ext e⟩
theorem gL.ext {N:Nat} {w w' : aT} {R:Nat->Prop} {h h' : aM} {muZ muZ' : b3} {sgZ:Nat->U} {a:Act} (s:gL N w R h muZ sgZ a) (e:cY w h muZ w' h' muZ') :gL N w' R h' muZ' sgZ a:=
 ⟨s.size,s.defers,fun g=>(s.val g).ext e⟩
theorem gL.dA {N:Nat} {w:aT} {R:Nat->Prop} {h:aM} {muZ:b3} {sgZ:Nat->U} {a:Act} (s:gL N w R h muZ sgZ a) (g:jS G w R h muZ) (x:aY) :aA w R h muZ (dA G sgZ x) (a.eval x):=by
 cases x with
 | tmp m=>exact s.val m
 | const o=>exact aA.qS o
 | global i=>exact (g i).2
 | func f=>exact .fn f [] [] #[] #[] rfl rfl (fun _ _ _ j=>by simp at j) (fun _ _ _ j=>by simp at j)
theorem xr {w:aT} {R:Nat->Prop} {h:aM} {muZ:b3}:aA w R h muZ fC undef:=.a1 [] #[] rfl (fun _ _ _ g=>by simp at g)
theorem gL.put {N:Nat} {w:aT} {R:Nat->Prop} {h:aM} {muZ:b3} {sgZ:Nat->U} {a:Act} (s:gL N w R h muZ sgZ a) {g:Option Tmp} (o:hO N g=true) {c:U} {v:aD} (q:aA w R h muZ c v) :
  gL N w R h muZ (gF sgZ g c) (a.put g v):=by
 cases g with
 | none=>exact s
 | some d=>
  have p:d<a.tmps.size:=by rw[s.size];simpa [hO] using o
  refine⟨by simp[Act.put,s.size],s.defers,fun m=>?_⟩;simp only[gF,Act.put];by_cases j:m=d
  ·subst j;rw[fJ];simp[p];exact q
  ·rw[bS _ _ _ _ j];have:=s.val m;simpa [EV (Ne.symm j)] using this
theorem EQ {w:aT} {R:Nat->Prop} {h:aM} {muZ:b3} {ops:Array bb} {sgZ:Nat->U} {tmps:Array aD} {o:bb} {b:Bool} (g:iJ ops sgZ o=some b)
  (C:∀ d,(∃ j z,o.guard=some (j,z)/\(ops[j]?).bind (·.dst)=some d)->aA w R h muZ (sgZ d) (tmps.getD d undef)) :Region.wanted o (yielded ops tmps)=b:=by
 unfold iJ at g;unfold Region.wanted;cases t:o.guard with
 | none=>rw[t] at g;simpa using g
 | some D=>
  obtain⟨j,z⟩:=D;rw[t] at g;simp only at g ⊢;unfold yielded;cases q:(ops[j]?).bind (·.dst) with
  | none=>
   rw[q] at g;cases g;simp
  | some d=>
   rw[q] at g;have m:=C d ⟨j,z,t,q⟩;simp only[qc] at g ⊢;cases B:tmps[d]? with
   | none=>
    have u:tmps.getD d undef=undef:=by simp[hj,B]
    rw[u] at m;cases p:sgZ d<;>rw[p] at g m<;>simp at g<;>try (subst g;simp)
    all_goals cases m
   | some v=>
    have u:tmps.getD d undef=v:=by simp[hj,B]
    rw[u] at m;cases p:sgZ d<;>rw[p] at g m<;>simp at g
    all_goals (cases m<;>(subst g;simp))
def lD (P:bq) (n:Nat) (c:Code) (Q:Exit->Act->aT->Prop) (a:Act) (w:aT) :Prop:=
 match c with
 | .loop g=>Code.rounds P g Q n a w
 | c=>c.wp P Q a w
theorem lD.wp {n:Nat} {c:Code} {Q:Exit->Act->aT->Prop} {a:Act} {w:aT} (h:lD P n c Q a w) :c.wp P Q a w:=by cases c<;>first | exact wp_loop_rounds n h | exact h
def rH (P:bq) (G:Nat->U) :J->Prop
 | .code c N m h e p h'=>∃ n,∀ (g:Nat->Prop) (B:Nat) (w:aT) (muZ:b3) (a:Act) (Q:Exit->Act->aT->Prop),bC g B w h muZ->jS G w g h muZ->gL N w g h muZ m a->
   (∀ j w' muZ',cY w h muZ w' h' muZ'->bC g B w' h' muZ'->gL N w' g h' muZ' p j->Q e.out j w')->lD P n c Q a w
 | .ops all l N m h p h'=>∀ (g:Nat->Prop) (B:Nat) (w:aT) (muZ:b3) (a:Act) (Q:Exit->Act->aT->Prop),bC g B w h muZ->jS G w g h muZ->gL N w g h muZ m a->
   (∀ j w' muZ',cY w h muZ w' h' muZ'->bC g B w' h' muZ'->gL N w' g h' muZ' p j->Q .normal j w')->wpList P all Q l a w
 | .op op m h u h'=>∀ (g:Nat->Prop) (B:Nat) (w:aT) (muZ:b3) (a:Act) (o:bb) (q:Act->aT->Prop) (Q:Exit->Act->aT->Prop),o.op=op->bC g B w h muZ->jS G w g h muZ->
   (∀ x,aA w g h muZ (dA G m x) (a.eval x))->(∀ t w' muZ',cY w h muZ w' h' muZ'->bC g B w' h' muZ'->aA w' g h' muZ' u t->q (a.put o.dst t) w')->o.wp P a w q Q
 | .call f args h r h'=>jR P G f args h r h'
theorem Ky {N:Nat} {w:aT} {R:Nat->Prop} {B:Nat} {h:aM} {muZ:b3} {sgZ:Nat->U} {a:Act} (rel:bC R B w h muZ) (s:gL N w R h muZ sgZ a) {fn:Func} {r:U} (z:uu P h sgZ fn=some r) :
  ∃ v,(results fn a.tmps).run P w=.ok v w/\aA w R h muZ r v:=by
 have one:∀ (x:ResultVar) (c:U),uv P h sgZ x=some c->∃ v,(∀ j:ResultVar->Sem aD,(∀ g,j (.tmp g)=pure (a.tmps.getD g undef))->(∀ p g,j (.cell p g)=(do loadVar g (<-asAddr (a.tmps.getD p undef))))->(j x).run P w=.ok v w)/\aA w R h muZ c v:=by
  intro x c C;cases x with
  | tmp g=>
   simp only[uv,bc] at C;subst C;exact⟨_,fun j h1 _=>by rw[h1];rfl,s.val g⟩
  | cell p g=>
   simp only[uv] at C;obtain⟨v,h1,q⟩:=It (P:=P) rel C (s.val p);refine⟨v,fun j _ ad=>?_,q⟩;rw[ad];cases I:a.tmps.getD p undef with
   | pointer K=>
    cases K with
    | none=>rw[I] at h1;simp[Instr.loadAt,Instr.sureAddr] at h1
    | some K=>rw[I] at h1;simpa [Instr.loadAt,Instr.sureAddr,asAddr,I] using h1
   | _=>rw[I] at h1;simp[Instr.loadAt,Instr.sureAddr] at h1
 have all:∀ (l:List ResultVar) (cs:ag),q3 P h sgZ l=some cs->∃ m:List aD,(∀ j:ResultVar->Sem aD,(∀ g,j (.tmp g)=pure (a.tmps.getD g undef))->(∀ p g,j (.cell p g)=(do loadVar g (<-asAddr (a.tmps.getD p undef))))->(l.mapM j).run P w=.ok m w) ∧
   m.length=cs.length/\∀ (o:Nat) (c:U) (v:aD),cs[o]?=some c->m[o]?=some v->aA w R h muZ c v:=by
  intro l
  induction l with
  | nil=>intro cs u;simp only[q3,bc] at u;subst u;exact⟨[],fun j _ _=>V,rfl,fun _ _ _ H=>by simp at H⟩
  | cons x l aj=>
   intro cs u;unfold q3 at u;split at u
   ·rename_i c W C G;cases u;obtain⟨v,h1,q⟩:=one x c C;obtain⟨m,t,X,Y⟩:=aj W G;refine⟨v::m,fun j Q S=>by simp only[o5,Sem.run_bind,h1 j Q S,Result.andThen_ok,t j Q S,Sem.run_pure],by simp[X],fun o O T D J=>?_⟩;cases o with
    | zero=>simp at D J;subst D J;exact q
    | succ o=>exact Y o O T (by simpa using D) (by simpa using J)
   ·cases u
 unfold uu at z;cases G:q3 P h sgZ fn.results.toList with
 | none=>rw[G] at z;cases z
 | some cs=>
  rw[G] at z;simp only[cz,bc] at z;subst z;obtain⟨m,h1,q,t⟩:=all _ _ G;have ah:(results fn a.tmps).run P w=.ok (if H:m.toArray.size=1 then m.toArray[0] else .tuple m.toArray) w:=by
   unfold results;rw[MC];simp only[Sem.run_bind,Sem.run_map];rw[h1 _ (fun _=>rfl) (fun _ _=>rfl)];simp
  refine⟨_,ah,?_⟩
  match cs,m,q,t with
  | [],[],_,_=>exact .a1 [] #[] rfl (fun _ _ _ H=>by simp at H)
  | [c],[v],_,t=>exact t 0 c v rfl rfl
  | c::O::cs,v::T::m,q,t=>
   simp only[xN,dN];rw[dif_neg F];exact .a1 _ _ (by simpa using q) (fun o x y D ai=>t o x y D (by simpa using ai))
theorem nq {w:aT} {R:Nat->Prop} {h:aM} {muZ:b3} {c:U} {v:aD} (z:aA w R h muZ c v) :c.ar=true->dg w (fun k=>R k/\¬ Own h muZ k) c v:=by
 have u:∀ (cs:ag),aq cs=true->∀ (m:Nat) (c:U),cs[m]?=some c->c.ar=true:=by
  intro cs
  induction cs with
  | nil=>intro _ m c j;simp at j
  | cons x cs o=>
   intro g m c j;simp only[aq,bU] at g;cases m with
   | zero=>simp at j;subst j;exact g.1
   | succ m=>exact o g.2 m c (by simpa using j)
 have W:∀ (q:List (ag)),rO q=true->∀ (i:Nat) (e:ag),q[i]?=some e->aq e=true:=by
  intro q
  induction q with
  | nil=>intro _ m c j;simp at j
  | cons x cs o=>
   intro g m c j;simp only[rO,bU] at g;cases m with
   | zero=>simp at j;subst j;exact g.1
   | succ m=>exact o g.2 m c (by simpa using j)
 have J:∀ b B v,Cell w R h muZ b B v->Cell w (fun k=>R k/\¬ Own h muZ k) aM.empty (fun _=>none) b B v:=fun b B v g=>
  ⟨g.here,g.one,⟨g.ro,g.free⟩,fun ⟨b,aj,h1,K,ai⟩=>by cases K⟩
 unfold dg
 induction z with
 | bool b=>exact fun _=>.bool b
 | int k n=>exact fun _=>.int k n
 | str P=>exact fun _=>.str P
 | iy=>exact fun _=>.iy
 | ae=>exact fun _=>.ae
 | g0=>exact fun _=>.g0
 | ib=>exact fun _=>.ib
 | hS=>exact fun _=>.hS
 | af cs H D h1 z o=>exact fun g=>.af cs H D h1 fun m c v j t=>o m c v j t (u cs (by simpa [U.ar] using g) m c j)
 | a1 cs H D z o=>exact fun g=>.a1 cs H D fun m c v j t=>o m c v j t (u cs (by simpa [U.ar] using g) m c j)
 | ptr=>exact fun g=>by simp[U.ar] at g
 | jk=>exact fun g=>by simp[U.ar] at g
 | b7 cs F C B G g z o=>exact fun p=>.b7 cs F C B G (fun m j=>J _ _ _ (g m j)) fun m c j=>o m c j (u cs (by simpa [U.ar] using p) m c j)
 | Z=>exact fun g=>by simp[U.ar] at g
 | fc=>exact fun g=>by simp[U.ar] at g
 | gu=>exact fun g=>by simp[U.ar] at g
 | bu I q C F cap G V X g z o=>exact fun p=>.bu I q C F cap G V X (fun i m T j=>J _ _ _ (g i m T j)) fun i e O m c j=>o i e O m c j (u e (W q (by simpa [U.ar] using p) i e O) m c j)
 | eI I a cap=>exact fun _=>.eI I a cap
 | fn f first e6 Q cs S g h1 K Y ad=>
  intro p;simp only[U.ar,bU] at p;exact .fn f first e6 Q cs S g (fun m c v j t=>Y m c v j t (u _ p.1 m c j)) fun m c v j t=>ad m c v j t (u _ p.2 m c j)
 | mp=>exact fun g=>by simp[U.ar] at g
 | it=>exact fun g=>by simp[U.ar] at g
 | fX ah c v z o=>exact fun p=>.fX ah c v (o (by simpa [U.ar] using p))
 | ff l=>exact fun _=>.ff l
 | bad v=>exact fun _=>.bad v
theorem rP {cs:ag} (h:aq cs=true) :∀ (j:Nat) (c:U),cs[j]?=some c->c.ar=true:=by
 induction cs with
 | nil=>intro j c g;simp at g
 | cons x cs m=>
  intro j c g;simp only[aq,bU] at h;cases j with
  | zero=>simp at g;subst g;exact h.1
  | succ j=>exact m h.2 j c (by simpa using g)
theorem dg.up {w:aT} {A:Nat->Prop} {R:Nat->Prop} {h:aM} {muZ:b3} {c:U} {v:aD} (t:dg w A c v) (O:∀ k,k<w.heap.size->A k->R k/\¬ Own h muZ k) :aA w R h muZ c v:=by
 have K:∀ b z v,Cell w A aM.empty (fun _=>none) b z v->Cell w R h muZ b z v:=fun b z v g=>
  have q:b<w.heap.size:=World.block_lt_of_cell? _ _ g.here
  ⟨g.here,g.one,(O b q g.ro).1,(O b q g.ro).2⟩
 unfold dg at t
 induction t with
 | bool b=>exact .bool b
 | int k n=>exact .int k n
 | str P=>exact .str P
 | iy=>exact .iy
 | ae=>exact .ae
 | g0=>exact .g0
 | ib=>exact .ib
 | hS=>exact .hS
 | af cs J G h1 t o=>exact .af cs J G h1 o
 | a1 cs J G t o=>exact .a1 cs J G o
 | ptr b p C cs B q m=>cases m
 | jk b p C a j=>rcases j with j | ⟨n,cs,j,_⟩<;>cases j
 | b7 cs p D z I g t o=>exact .b7 cs p D z I (fun H F=>K _ _ _ (g H F)) o
 | Z u b p len cap C Q cs B q m=>cases m
 | fc u b p len cap C Q a aj g j=>rcases j with j | ⟨n,cs,j,_⟩<;>cases j
 | gu u b p C a cs B q m=>cases m
 | bu u S D p cap I X Y g t o=>exact .bu u S D p cap I X Y (fun i H W F=>K _ _ _ (g i H W F)) o
 | eI u a cap=>exact .eI u a cap
 | fn f first e6 T cs V g h1 ai ad ag=>exact .fn f first e6 T cs V g ad ag
 | mp b B q m=>cases m
 | it b B q m=>cases m
 | fX ah c v t o=>exact .fX ah c v o
 | ff l=>exact .ff l
 | bad v=>exact .bad v
theorem Jn {R:Nat->Prop} {B:Nat} {w:aT} {h:aM} {muZ:b3} (rel:bC R B w h muZ) {k:Nat} (j:Own h muZ k) :k<w.heap.size:=by obtain⟨b,m,h1,g,rfl⟩:=j;exact rel.lt h1 g
theorem pO {R:Nat->Prop} {B:Nat} {w w' : aT} {h:aM} {muZ:b3} (rel:bC R B w h muZ) (g:ew w w') :cY w h muZ w' h muZ/\bC R B w' h muZ:=by
 have e:cY w h muZ w' h muZ:=⟨⟨g.os,g.tape,g.output,g.size,fun k hk _=>g.block k hk,fun _ u=>.inl u,fun b v cs p h1 m=>.inl ⟨cs,h1,m⟩,fun _ _ t=>t,fun _ _ _ h1 m=>⟨h1,m⟩,aN _,g.drawn⟩,fun _ _ j=>j⟩
 refine⟨e,fun b p j=>?_,rel.inj,rel.base,rel.fresh,rel.up,dC rel.size g.size,rel.iX⟩;cases o:live (h.f b) with
 | false=>cases q:h.f b<;>first | trivial | (rw[q] at o;cases o)
 | true=>exact (rel.blk b p j).ext e.toExt0 (g.block _ (rel.lt o j))
theorem Kh {w:aT} {R:Nat->Prop} {B:Nat} {h:aM} {muZ:b3} (rel:bC R B w h muZ) :∀ {c c' : U},fp h c c'->∀ {v:aD},aA w R h muZ c v->dg w R c' v:=by
 intro c c' ap;have ad:∀ {b P:Nat} {cs:ag} {j:M},h.f b=.cells P cs->muZ b=some j->∃ f:Nat->aD,∀ (g:Nat) (c:U),cs[g]?=some c->Cell w R aM.empty (fun _=>none) j.r (j.s+g) (f g)/\aA w R h muZ c (f g):=by
  intro b P cs j t C;have hblk:=rel.blk b j C;rw[t] at hblk;obtain⟨aw,au,arr,aB,ar,aq,av,H,al⟩:=hblk;have aj:R j.r:=rel.up _ (rel.base b j (by rw[t];rfl) C);refine⟨fun g=>(arr[j.s+g]?).getD undef,fun g c m=>?_⟩;obtain⟨v,h1,O,T⟩:=al _ _ m;refine⟨⟨?_,by simp only[h1,g6];exact O,aj,fun ⟨b,j,h1,O,T⟩=>by cases O⟩,by simp only[h1,g6];exact T⟩;simp only[World.cell?,aq,h1,g6,rA];rfl
 induction ap with
 | same c G=>
  intro v p;exact (dg.up (nq p G) fun k _ hk=>⟨hk.1,fun ⟨b,j,h1,O,T⟩=>by cases O⟩:aA w R aM.empty (fun _=>none) _ v)
 | af cs K u h D=>
  intro v p;cases p with
  | af _ X am h1 p=>
   refine .af K X F h1 (fun g c' v m W=>?_);have q:g<cs.length:=by rw[<-u];exact (aK.1 m).1
   exact D g cs[g] c' (bK q) m (p g cs[g] v (bK q) W)
 | a1 cs K u h D=>
  intro v p;cases p with
  | a1 _ X am p=>
   refine .a1 K X F (fun g c' v m W=>?_);have q:g<cs.length:=by rw[<-u];exact (aK.1 m).1
   exact D g cs[g] c' (bK q) m (p g cs[g] v (bK q) W)
 | sG z b J cap P=>
  intro v p;cases p with
  | Z _ _ _ _ _ _ cap' cs j t C u ao G=>exact .eI z _ cap'
  | fc _ _ _ _ _ _ cap' a u G o=>exact .eI z _ cap'
  | gu _ _ _ _ a cs j t C=>exact .eI z a 0
 | ptr b J P cs K t u h D=>
  intro v p;cases p with
  | jk _ _ _ a o=>
   exfalso;rcases o with o | ⟨n,Q,o,q⟩
   ·rw[t] at o;cases o
   ·rw[t] at o;cases o;omega
  | ptr _ _ _ Q j Y C=>
   obtain⟨f,H⟩:=ad t C;refine .b7 K J j.r j.s f (fun g m=>?_) (fun g c' m=>?_)
   ·exact (H g cs[g] (bK F)).1
   ·have q:g<cs.length:=by rw[<-u];exact (aK.1 m).1
    exact D g cs[g] c' (bK q) m (H g cs[g] (bK q)).2
 | Z z b J len cap P cs S t u ai ax h D=>
  intro v p;cases p with
  | gu _ _ _ _ a Q j Y az=>
   obtain rfl:=hp.1 u;exact .eI z a 0
  | fc _ _ _ _ _ _ cap' a u G o=>
   exfalso;rcases o with o | ⟨n,Q,o,q⟩
   ·rw[t] at o;cases o
   ·rw[t] at o;cases o;omega
  | Z _ _ _ _ _ _ cap' Q j Y C ay ao G=>
   have ak:len<=cap':=by rcases G with ⟨_,h⟩ | ⟨_,h,_⟩<;>omega
   obtain⟨f,H⟩:=ad t C;subst u;have q:∀ i g,i<S.length->g<z->J+(i*z+g)<cs.length:=by
    intro i g I m;have:i*z+z<=S.length*z:=by rw[<-ek];exact ck _ I
    omega
   refine .bu z S j.r (j.s+J) cap' (fun i g=>f (J+(i*z+g))) ak ai (fun i g I m=>?_) (fun i e V g c' m=>?_)
   ·have:=(H _ _ (bK (q i g I m))).1;rw[<-i5] at this;exact this
   ·have I:i<S.length:=(aK.1 V).1;have ah:g<z:=by rw[<-ai e (cJ V)];exact (aK.1 m).1
    exact D i g e _ c' V m (bK (q i g I ah)) (H _ _ (bK (q i g I ah))).2
theorem yE:∀ {cs:ag},kE cs=true->∀ (j:Nat) (c:U),cs[j]?=some c->c.flat=true:=by
 intro cs
 induction cs with
 | nil=>intro _ j c h;simp at h
 | cons x cs o=>
  intro g j c m;simp only[kE,bU] at g;cases j with
  | zero=>simp at m;subst m;exact g.1
  | succ j=>exact o g.2 j c (by simpa using m)
theorem Hw {w w' : aT} {A R:Nat->Prop} {h h' : aM} {muZ muZ' : b3} {c:U} {v:aD} (p:aA w A h muZ c v) (o:c.flat=true) :aA w' R h' muZ' c v:=by
 induction p with
 | bool b=>exact .bool b
 | int k n=>exact .int k n
 | str z=>exact .str z
 | iy=>exact .iy
 | ae=>exact .ae
 | g0=>exact .g0
 | ib=>exact .ib
 | hS=>exact .hS
 | af cs u t h1 p j=>exact .af cs u t h1 (fun m c v g q=>j m c v g q (yE (by simpa only [U.flat] using o) m c g))
 | a1 cs u t p j=>exact .a1 cs u t (fun m c v g q=>j m c v g q (yE (by simpa only [U.flat] using o) m c g))
 | fX B c v p j=>exact .fX B c v (j (by simpa only [U.flat] using o))
 | ff l=>exact .ff l
 | _=>simp[U.flat] at o
theorem UO {f:cj} {args g:ag} {r:U} {h:aM} (H:i9 P G f g r) (D:g.length=args.length) (J:∀ (j:Nat) (c c' : U),args[j]?=some c->g[j]?=some c'->fp h c c')
  (z:r.flat=true) :rH P G (.call f args h r h):=by
 intro o B w muZ R rel p T K;refine (H w o R (fun i=>?_) F (fun j c' m q C=>?_)).mono ?_
 ·exact (dg.up (nq (p i).2 (p i).1) fun k _ hk=>⟨hk.1,fun ⟨b,V,h1,u,S⟩=>by cases u⟩:aA w o aM.empty (fun _=>none) _ _)
 ·have t:j<args.length:=by rw[<-D];exact (aK.1 q).1
  exact Kh rel (J j args[j] c' (bK t) q) (K j args[j] m (bK t) C)
 ·rintro e w' ⟨m,rfl,v,I⟩;obtain⟨O,Q⟩:=pO rel v;exact⟨m,muZ,rfl,O,Q,Hw I z⟩
theorem UP {f:cj} {args g:ag} {r:U} {h:aM} (I:nh P G f g r) (D:g.length=args.length) (K:∀ (j:Nat) (c c' : U),args[j]?=some c->g[j]?=some c'->fp h c c') :rH P G (.call f args h r h):=by
 intro o B w muZ S rel p V O;refine (I w o S (fun i=>?_) F (fun j c' m q C=>?_)).mono ?_
 ·exact (dg.up (nq (p i).2 (p i).1) fun k _ hk=>⟨hk.1,fun ⟨b,W,h1,u,T⟩=>by cases u⟩:aA w o aM.empty (fun _=>none) _ _)
 ·have t:j<args.length:=by rw[<-D];exact (aK.1 q).1
  exact Kh rel (K j args[j] c' (bK t) q) (O j args[j] m (bK t) C)
 ·rintro e w' ⟨m,rfl,z,J⟩;obtain⟨Q,R⟩:=pO rel z;exact⟨m,muZ,rfl,Q,R,J.up fun k hk v=>⟨rel.up k (dC rel.size v),fun H=>by have:=Jn rel H;omega⟩⟩
theorem nh.Ao {f:cj} {args:ag} {r:U} (o:nh P G f args r) :i9 P G f args r:=fun w A t j m p=>
 (o w A t j m p).mono fun e w' ⟨q,h1,g,h⟩=>⟨q,h1,g,(dg.up h fun k _ hk=>⟨.inr hk,fun ⟨b,u,h1,g,h⟩=>by cases g⟩:aA w' _ aM.empty (fun _=>none) _ _)⟩
theorem UQ {f:cj} {args:ag} {r:U} {h:aM} (D:i9 P G f args r) (u:aq args=true) :rH P G (.call f args h r h):=by
 intro q B w muZ K rel m z H;refine (D w (fun k=>q k/\¬ Own h muZ k) K (fun i=>?_) z (fun p c j o v=>nq (H p c j o v) (rP u p c o))).mono ?_
 ·exact nq (m i).2 (m i).1
 ·rintro e w' ⟨j,rfl,t,F⟩;obtain⟨I,J⟩:=pO rel t;refine⟨j,muZ,rfl,I,J,F.up (fun k hk g=>?_)⟩;rcases g with g | g
  ·exact g
  ·exact⟨rel.up k (dC rel.size g),fun C=>by have:=Jn rel C;omega⟩
end
section
variable {P:bq} {G:Nat->U}
theorem Tc {w:aT} {R:Nat->Prop} {h:aM} {muZ:b3} {I:aY->U} {S:aY->aD} (H:∀ x,aA w R h muZ (I x) (S x)) (o:bb) {cs:ag} {mk:Nat->U} (g:kM P I o.op=some (cs,mk)) :
  ∃ v arr t,(execOp S o).run P w=.ok (.value v) (w.alloc (.cells arr t))/\ja w R h muZ cs arr ∧
   ∀ (w' : aT) (p:Nat->Prop) (h' : aM) (muZ' : b3) (b:Nat),h'.f b=.cells cs.length cs->muZ' b=some ⟨w.heap.size,0,arr.size⟩->aA w' p h' muZ' (mk b) v:=by
 obtain⟨aB,op,type,pos,ax,guard⟩:=o;cases op<;>simp only[kM] at g<;>try (cases g;done)
 case alloc t=>
  cases j:gb P t with
  | none=>rw[j] at g;cases g
  | some m=>
   rw[j] at g;simp only[cz,bc,Prod.mk.injEq] at g;obtain⟨rfl,rfl⟩:=g;obtain⟨v,ar,ap⟩:=rk (P:=P) (w:=w) (R:=R) (h:=h) (muZ:=muZ) j;refine⟨.pointer (some ⟨w.heap.size,0,none⟩),v.cells,t,by simp[execOp,Instr.alloc,ar,newVar,newRow],ap,fun w' p h' muZ' b q u=>?_⟩;have:=aA.ptr (w:=w') (R:=p) (h:=h') (muZ:=muZ') b 0 m.length m _ q u;simpa using this
 case box t x=>
  cases j:(I x).cells with
  | none=>rw[j] at g;cases g
  | some m=>
   rw[j] at g;simp only[cz,bc,Prod.mk.injEq] at g;obtain⟨rfl,rfl⟩:=g;obtain⟨O,Q⟩:=yf (H x) j;refine⟨.pointer (some ⟨w.heap.size,0,none⟩),(S x).cells,t,by simp[execOp,Instr.box,newVar,newRow],⟨O,Q⟩,fun w' p h' muZ' b q u=>?_⟩;have:=aA.ptr (w:=w') (R:=p) (h:=h') (muZ:=muZ') b 0 m.length m _ q u;simpa using this
 case buildSlice t len parts=>
  cases B:gj P t with
  | none=>rw[B] at g;cases g
  | some e=>
  rw[B] at g;simp only at g;cases j:b9 P e with
  | none=>rw[j] at g;cases g
  | some m=>
  cases z:gb P e with
  | none=>rw[j,z] at g;cases g
  | some zero=>
  rw[j,z] at g;simp only at g;split at g
  ·rename_i G;cases J:ey (fun i=>some (i*m,m)) (c3 zero len) (parts.toList.map fun ad=>(ad.1,I ad.2)) with
   | none=>rw[J] at g;cases g
   | some az=>
    rw[J] at g;simp only[cz,bc,Prod.mk.injEq] at g;obtain⟨rfl,rfl⟩:=g;obtain⟨O,Q⟩:=Do H parts;obtain⟨V,arr,K,T⟩:=Gg B j z G.1 G.2 J O Q;refine⟨.slice (some ⟨w.heap.size,0,none⟩) len len,arr,e,by simp[execOp,K],T,fun w' p h' muZ' b q u=>?_⟩;rw[V] at q;have:=aA.Z (w:=w') (R:=p) (h:=h') (muZ:=muZ') m b 0 len len (len*m) len _ _ q u (aN _) F (.inr ⟨F,aN _,by simp only;rw[T.1,V];omega⟩);simpa using this
  ·cases g
 case makeSlice t l c=>
  split at g
  ·rename_i e Y C B am aj;obtain⟨aw,ao⟩:=oi am (H l);obtain⟨av,ak⟩:=oi aj (H c);cases j:b9 P e with
   | none=>rw[j] at g;cases g
   | some m=>
   cases D:gM P e with
   | none=>rw[j,D] at g;cases g
   | some ay=>
   cases z:gb P e with
   | none=>rw[j,D,z] at g;cases g
   | some zero=>
   rw[j,D,z] at g;simp only at g;split at g
   ·rename_i G;obtain⟨au,ah,al,ai,aq⟩:=G;simp only[bc,Prod.mk.injEq] at g;obtain⟨rfl,rfl⟩:=g;obtain⟨W,arr,K,X⟩:=Iz (w:=w) (R:=R) (h:=h) (muZ:=muZ) (kl:=aw) (kc:=av) B j D z au ah al ai aq;refine⟨.slice (some ⟨w.heap.size,0,none⟩) Y.toNat C.toNat,arr,e,by simp[execOp,ao,ak,K],X,fun w' p h' muZ' b q u=>?_⟩;rw[W] at q;have:=aA.Z (w:=w') (R:=p) (h:=h') (muZ:=muZ') m b 0 Y.toNat C.toNat (C.toNat*m) C.toNat _ _ q u F F (.inr ⟨F,aN _,by simp only;rw[X.1,W];omega⟩);simpa using this
   ·cases g
  ·cases g
theorem lM.rel {R:Nat->Prop} {B:Nat} {w:aT} {h h' : aM} {muZ:b3} (g:lM h h') (rel:bC R B w h muZ) :cY w h muZ w h' muZ/\bC R B w h' muZ:=by
 have t:∀ b m,muZ b=some m->b<h.n:=fun b m j=>rel.ku j
 have e:cY w h muZ w h' muZ:=by
  refine⟨⟨rfl,rfl,rfl,aN _,fun _ _ _=>rfl,?_,?_,?_,?_,g.n,aN _⟩,fun _ _ j=>j⟩
  ·rintro k ⟨b,m,q,j,rfl⟩;rw[g.same b (t b m j)] at q;exact .inl ⟨b,m,q,j,rfl⟩
  ·intro b G cs m p j;exact .inl ⟨cs,by rw[g.same b (t b m j)];exact p,j⟩
  ·rintro b G o;have p:b<h.n:=by
    rcases fE b h.n with h1 | h1
    ·exact h1
    ·have:=rel.fresh b h1;rcases o with o | ⟨n,cs,o,_⟩<;>rw[this] at o<;>cases o
   rcases o with o | ⟨n,cs,o,D⟩
   ·exact .inl (by rw[g.same b p];exact o)
   ·exact .inr ⟨n,cs,by rw[g.same b p];exact o,D⟩
  ·intro b k m p j;exact⟨by rw[g.same b (t b m j)];exact p,j⟩
 refine⟨e,fun b m j=>?_,fun b u m C q v j z F=>?_,fun b m q j=>?_,g.fresh rel.fresh,rel.up,rel.size,fun b p=>rel.iX b (dC g.n p)⟩
 ·rw[g.same b (t b m j)];exact (rel.blk b m j).ext e.toExt0 rfl
 ·rw[g.same b (t b m j)] at q;rw[g.same u (t u C z)] at v;exact rel.inj b u m C q v j z F
 ·rw[g.same b (t b m j)] at q;exact rel.base b m q j
theorem LL {K:Act->aT->Prop} {Q:Exit->Act->aT->Prop} {e:qe} {a:Act} {w:aT} (g:e≠.normal) (h:Q e.out a w) :Exit.then K Q e.out a w:=by
 cases e with
 | normal=>exact bW rfl g
 | exit id=>exact h
 | ret=>exact h
theorem Ox {id:Nat} {Q:Exit->Act->aT->Prop} {e:qe} {a:Act} {w:aT} (g:e≠.exit id) (h:Q e.out a w) :Exit.inBlock id Q e.out a w:=by
 cases e with
 | normal=>exact h
 | exit m=>
  have:m≠id:=fun j=>g (by rw[j])
  simpa [Exit.inBlock,qe.out,this] using h
 | ret=>exact h
def Fu (P:bq) (G:Nat->U) :Prop:=
 ∀ {id:Nat} {ops:Array bb} {N:Nat} {u:Nat->U} {h:aM} {z:Nat->U} {h' : aM} (pre:Nat->Nat->Bool) (val:Nat->U) (W:Nat->Bool) (cls:Nat->xS) (m:Nat) (j:Nat->Nat) (o w:Nat->aM) (p:Nat->Nat) (cells:Nat->ag),
  o9 ops pre->
  (∀ (i:Nat) (g:bb),ops[i]?=some g->hO N g.dst=true)->
  lM h (o 0)->h'=o m->(z=fun B=>match hZ ops B with | some i=>val i | none=>u B)->
  (∀ (i:Nat) (g:bb),ops[i]?=some g->W i=true->cls i=.fb->∃ q,q<m/\j q=i)->
  (∀ q,q<m->∃ g,ops[j q]?=some g/\W (j q)=true/\cls (j q)=.fb)->
  (∀ q t,q<m->t<m->q<t->pre (j t) (j q)=true)->
  (∀ q t,q<m->t<m->j q=j t->q=t)->
  (∀ (i:Nat) (g:bb),ops[i]?=some g->iJ ops (kD ops pre val u i g) g=some (W i))->
  (∀ (i:Nat) (g:bb),ops[i]?=some g->W i=false->val i=fC)->
  (∀ (i:Nat) (g:bb),ops[i]?=some g->W i=true->cls i=.pure->∀ k,tI pre m j i k->cO P (o k) (dA G (kD ops pre val u i g)) g.op=some (.val (val i) (o k)))->
  (∀ (i:Nat) (g:bb),ops[i]?=some g->W i=true->cls i=.new->∃ mk,kM P (dA G (kD ops pre val u i g)) g.op=some (cells i,mk)/\val i=mk (p i)/\h.n<=p i ∧
    ∀ k,tI pre m j i k->(o k).f (p i)=.cells (cells i).length (cells i))->
  (∀ (i v:Nat) (g C:bb),ops[i]?=some g->ops[v]?=some C->W i=true->W v=true->cls i=.new->cls v=.new->p i=p v->i=v)->
  (∀ (i:Nat) (g:bb) (q:Nat),ops[i]?=some g->W i=true->cls i=.new->q<m->p i<(o q).n\/(w q).n<=p i)->
  (∀ q,q<m->lM (w q) (o (q+1)))->
  (∀ (q:Nat) (g:bb),q<m->ops[j q]?=some g->rH P G (.op g.op (kD ops pre val u (j q) g) (o q) (val (j q)) (w q)))->
  rH P G (.code (.region id ops true) N u h .normal z h')
theorem iP.ext {h B:aM} (k:iP h B) (w:aT) (muZ:b3) :cY w h muZ w B muZ:=by
 refine⟨⟨rfl,rfl,rfl,aN _,fun _ _ _=>rfl,?_,?_,?_,?_,A6 k.n.symm,aN _⟩,fun _ _ o=>o⟩
 ·rintro r ⟨b,v,F,o,rfl⟩;refine .inl ⟨b,v,?_,o,rfl⟩;rcases k.blk b with m | ⟨D,cs,j,_⟩
  ·rw[<-m];exact F
  ·rw[j];rfl
 ·intro b D cs v g o;rcases k.blk b with m | ⟨z,p,j,u | ⟨q,t,_⟩⟩
  ·exact .inl ⟨cs,by rw[m];exact g,o⟩
  ·exact .inr (.inl u)
  ·rw[g] at j;cases j;exact .inl ⟨q,t,o⟩
 ·rintro b D (g | ⟨n,cs,g,C⟩)
  ·rcases k.blk b with m | ⟨z,p,j,_⟩
   ·exact .inl (m.trans g)
   ·rw[g] at j;cases j
  ·rcases k.blk b with m | ⟨z,p,j,u | ⟨q,t,_⟩⟩
   ·exact .inr ⟨n,cs,by rw[m];exact g,C⟩
   ·exact .inl u
   ·rw[g] at j;cases j;exact .inr ⟨n,q,t,C⟩
 ·intro b G v g o;rcases k.blk b with m | ⟨z,p,j,_⟩
  ·exact⟨by rw[m];exact g,o⟩
  ·rw[j] at g;cases g
theorem iP.live {h g:aM} (k:iP h g) {b:Nat} (o:live (g.f b)=true) :live (h.f b)=true:=by
 rcases k.blk b with m | ⟨p,cs,j,_⟩
 ·rw[<-m];exact o
 ·rw[j];rfl
theorem iP.kZ {R:Nat->Prop} {B:Nat} {w:aT} {h m:aM} {muZ:b3} (rel:bC R B w h muZ) (k:iP h m) :∀ {c P:U},iO h m c P->∀ {v:aD},aA w R h muZ c v->aA w R m muZ P v:=by
 intro c P av
 induction av with
 | same c=>intro v o;exact o.ext (k.ext w muZ)
 | af cs ai C h V=>
  intro v o;cases o with
  | af _ aB aJ h1 o=>
   refine .af ai aB F h1 (fun g O v q ao=>?_);have D:g<cs.length:=by rw[<-C];exact (aK.1 q).1
   exact V g cs[g] O (bK D) q (o g cs[g] v (bK D) ao)
 | sG z b t cap az=>
  intro v o;cases o with
  | Z _ _ _ _ _ _ cap' cs j u H C au K=>exact .eI z _ cap'
  | fc _ _ _ _ _ _ cap' a C K p=>exact .eI z _ cap'
  | gu _ _ _ _ a cs j u H=>exact .eI z a 0
 | Z z b t len cap az cs I u am C ag aI o V=>
  intro v o;cases o with
  | gu _ _ _ _ a W j Q aO=>
   obtain rfl:=hp.1 C;exact .eI z a 0
  | fc _ _ _ _ _ _ cap' a C K p=>
   exfalso;rcases p with p | ⟨n,W,p,D⟩
   ·rw[u] at p;cases p
   ·rw[u] at p;cases p;omega
  | Z _ _ _ _ _ _ cap' W j Q H aL au K=>
   rw[u] at Q;cases Q;have hblk:=rel.blk b j H;rw[u] at hblk;obtain⟨aG,aE,arr,aP,aC,ax,aF,aH,al⟩:=hblk;have ak:len<=cap':=by rcases K with ⟨_,h⟩ | ⟨_,h,_⟩<;>omega
   have ad:Go.bl.live (h.f b)=true:=by rw[u];rfl
   have aj:R j.r:=rel.up _ (rel.base b j ad H);have ar:¬ Own m muZ j.r:=by
    rintro⟨ah,ay,T,aq,aw⟩;have:=rel.inj ah b ay j (k.live T) ad aq H aw;subst this;rw[am] at T;cases T
   subst C;have Y:∀ i g,i<I.length->g<z->∃ c v,cs[t+(i*z+g)]?=some c/\arr[j.s+(t+(i*z+g))]?=some v/\v.oneCell'=true/\aA w R h muZ c v:=by
    intro i g G q;have D:t+(i*z+g)<cs.length:=by
     have:i*z+z<=I.length*z:=by rw[<-ek];exact ck _ G
     omega
    obtain⟨v,h1,m,J⟩:=al _ _ (bK D);exact⟨_,v,bK D,h1,m,J⟩
   refine .bu z I j.r (j.s+t) cap' (fun i g=>(arr[j.s+(t+(i*z+g))]?).getD undef) ak ag (fun i g G q=>?_) (fun i e S g O q=>?_)
   ·obtain⟨c,v,h1,m,J,X⟩:=Y i g G q;refine⟨?_,?_,aj,ar⟩
    ·simp only[World.cell?,ax,m,g6,rA];rw[show j.s+t+(i*z+g)=j.s+(t+(i*z+g)) by omega,m];rfl
    ·rw[m];exact J
   ·have G:i<I.length:=(aK.1 S).1;have ap:g<z:=by rw[<-ag e (cJ S)];exact (aK.1 q).1
    obtain⟨c,v,h1,m,J,X⟩:=Y i g G ap;simp only[m,g6];exact V i g e c O S q h1 X
theorem iP.rel {R:Nat->Prop} {B:Nat} {w:aT} {h u:aM} {muZ:b3} (rel:bC R B w h muZ) (k:iP h u) :bC R B w u muZ:=by
 refine⟨?_,?_,?_,?_,rel.up,rel.size,?_⟩
 ·intro b o j;have g:=rel.blk b o j;rcases k.blk b with q | ⟨ah,cs,p,U | ⟨ak,O,W,ad⟩⟩
  ·rw[q];exact g.ext (k.ext w muZ).toExt0 rfl
  ·rw[U];trivial
  ·rw[O];rw[p] at g;obtain⟨h1,K,arr,ai,J,P,Q,S,T⟩:=g;refine⟨F,K,arr,ai,J,P,Q,S,fun m I v=>?_⟩;have z:m<cs.length:=by rw[<-W];exact (aK.1 v).1
   obtain⟨aj,C,D,G⟩:=T m cs[m] (bK z);exact⟨aj,C,D,k.kZ rel (ad m cs[m] I (bK z) v) G⟩
 ·intro b H o ag t V j X Y;exact rel.inj b H o ag (k.live t) (k.live V) j X Y
 ·intro b o t j;exact rel.base b o (k.live t) j
 ·intro b g;rw[k.n] at g;rcases k.blk b with q | ⟨ah,cs,p,_⟩
  ·rw[q];exact rel.fresh b g
  ·rw[rel.fresh b g] at p;cases p
 ·intro b g;rw[k.n] at g;exact rel.iX b g
theorem Xb (aT:Fu P G) {j:J} (aZ:c8 P G j) :rH P G j:=by
 induction aZ with
 | skip N aq h=>exact⟨0,fun m B w muZ a Q rel o s k=>wp_skip (k a w muZ (.refl _ _ _) rel s)⟩
 | label l N aq h=>exact⟨0,fun m B w muZ a Q rel o s k=>wp_label (k a w muZ (.refl _ _ _) rel s)⟩
 | ret N aq h=>exact⟨0,fun m B w muZ a Q rel o s k=>wp_ret (k a w muZ (.refl _ _ _) rel s)⟩
 | exit id N aq h=>exact⟨0,fun m B w muZ a Q rel o s k=>wp_exit (k a w muZ (.refl _ _ _) rel s)⟩
 | KZ h1 aD g I=>
  obtain⟨K,g⟩:=g;obtain⟨aI,I⟩:=I;exact⟨0,fun m B w muZ a Q rel o s k=>wp_seq (lD.wp (g m B w muZ a _ rel o s fun C v u p q t=>
   lD.wp (I m B v u C Q q (o.ext p) t fun Y ar au ad ao ap=>k Y ar au (p.trans ad) ao ap)))⟩
 | D7 h1 T g=>
  obtain⟨K,g⟩:=g;exact⟨0,fun m B w muZ a Q rel o s k=>wp_seq (lD.wp (g m B w muZ a _ rel o s fun C v u p q t=>LL T (k C v u p q t)))⟩
 | cond ax h1 g=>
  rename_i c x y N aq h b e aJ h';obtain⟨K,g⟩:=g;refine⟨0,fun m B w muZ a Q rel o s k=>?_⟩;have z:=s.dA o c;rw[ax] at z;cases aE:a.eval c<;>rw[aE] at z<;>try (cases z;done)
  cases z;exact wp_cond aE (lD.wp (g m B w muZ a Q rel o s k))
 | x8 h1 T g=>
  obtain⟨K,g⟩:=g;exact⟨0,fun m B w muZ a Q rel o s k=>wp_block (lD.wp (g m B w muZ a _ rel o s fun C v u p q t=>Ox T (k C v u p q t)))⟩
 | Gb h1 g=>
  obtain⟨K,g⟩:=g;exact⟨0,fun m B w muZ a Q rel o s k=>wp_block (lD.wp (g m B w muZ a _ rel o s fun C v u p q t=>by
   simp only[qe.out,Exit.inBlock,if_true];exact k C v u p q t))⟩
 | tV h1 aD g I=>
  obtain⟨K,g⟩:=g;obtain⟨aI,I⟩:=I;exact⟨aI+1,fun m B w muZ a Q rel o s k=>lD.wp (g m B w muZ a _ rel o s fun C v u p q t=>
   I m B v u C Q q (o.ext p) t fun Y ar au ad ao ap=>k Y ar au (p.trans ad) ao ap)⟩
 | CL h1 T g=>
  obtain⟨K,g⟩:=g;exact⟨1,fun m B w muZ a Q rel o s k=>lD.wp (g m B w muZ a _ rel o s fun C v u p q t=>LL T (k C v u p q t))⟩
 | scope h1 g=>
  obtain⟨K,g⟩:=g;rename_i c N aq h e aJ h';refine⟨0,fun m B w muZ a Q rel o s k=>wp_scope_straight (lD.wp (g m B w muZ a _ rel o s fun C v u p q t=>?_))⟩;have:=k C v u p q t;cases e<;>exact this
 | region h1 g=>exact⟨0,fun m B w muZ a Q rel o s k=>wp_region_list (g m B w muZ a Q rel o s k)⟩
 | draw pre val W cls bc X aM aL aO cells bd aU aP a0 a8 aV aW a3 aY ai a5 a4 a2 aR aS aX bf a9=>
  exact aT pre val W cls bc X aM aL aO cells bd aU aP a0 a8 aV aW a3 aY ai a5 a4 a2 aR aS aX a9
 | Jg=>exact fun m B w muZ a Q rel o s k=>k a w muZ (.refl _ _ _) rel s
 | Ji aB ay h1 g=>
  intro m B w muZ a Q rel o s k;have ai:=EQ (w:=w) (R:=m) (h:=_) (muZ:=muZ) (tmps:=a.tmps) aB (fun d _=>s.val d);unfold wpList;rw[aj (by rw[ai];simp)];exact g m B w muZ _ Q rel o (s.put ay xr) k
 | Jh aB ay h1 aD g I=>
  intro m B w muZ a Q rel o s k;have ai:=EQ (w:=w) (R:=m) (h:=_) (muZ:=muZ) (tmps:=a.tmps) aB (fun d _=>s.val d);unfold wpList;rw[ak ai];refine .inl (g m B w muZ a _ _ Q rfl rel o (s.dA o) fun aK v u p q z=>?_);exact I m B v u _ Q q (o.ext p) ((s.ext p).put ay z) fun Y ar au ad ao ap=>k Y ar au (p.trans ad) ao ap
 | zp X=>
  intro m B w muZ a am av Q ag rel o al k;subst ag;have:=Em (P:=P) rel al am X;obtain⟨O,w',muZ',D,e,r,z⟩:=this;unfold Oper.wp;rcases D with D | ⟨D,rfl⟩
  ·rw[D];exact k O w' muZ' e r z
  ·rw[D];exact k undef w' muZ' e r z
 | ui X h1 g=>
  intro m B w muZ a am av Q ag rel o al k;subst ag;obtain⟨rfl,S,D,U,z⟩:=Em (P:=P) rel al am X;unfold Oper.wp;rw[D];refine (g m B w muZ S rel o U z).mono ?_;rintro e w' ⟨O,muZ',rfl,p,q,a6⟩;exact k O w' muZ' p q a6
 | Ax h1 aC z g=>
  intro m B w muZ a am av Q ag rel o al k;refine g m B w muZ a am av Q ag rel o al fun aK w' muZ' e r a7=>?_
  exact k aK w' muZ' (e.trans (aC.ext w' muZ')) (aC.rel r) (aC.kZ r z a7)
 | inline az aQ h1 T D g=>
  rename_i f fn c args h e aJ h' r;obtain⟨K,g⟩:=g;intro m B w muZ S rel o U z;refine calls_of_wp az aQ (lD.wp (g m B w muZ _ _ rel o ⟨by simp[U],rfl,fun H=>?_⟩ fun C v u p q t=>?_))
  ·by_cases aF:H<args.length
   ·have aw:args.getD H fC=args[H]:=by simp[List.getD,aF]
    have aA:(S++Array.replicate (fn.ntmps - S.size) undef).getD H undef=S[H]:=by
     rw[hj,o4 F];simp[show H<S.size by omega]
    rw[aw,aA];exact z H _ _ (by simp[aF]) V
   ·have aw:args.getD H fC=fC:=by simp[List.getD,dY (by omega:args.length<=H)]
    have aA:(S++Array.replicate (fn.ntmps - S.size) undef).getD H undef=undef:=by
     rw[hj,uV F,AH];split<;>rfl
    rw[aw,aA];exact xr
  ·obtain⟨O,aG,aH⟩:=Ky q t D;have bg:t.defers=t.defers:=rfl;rcases T with rfl | rfl
   ·exact⟨t.defers,O,aG,O,u,rfl,p,q,aH⟩
   ·exact⟨t.defers,O,aG,O,u,rfl,p,q,aH⟩
 | pure ah ax=>exact UQ ah ax
 | JP ah U D az=>exact UO ah U D az
 | ext X=>exact X
 | JQ ah U D=>exact UP ah U D
end
section
variable {P:bq} {G:Nat->U}
theorem sU {ops:Array bb} {t i:Nat} (h:hZ ops t=some i) :∃ o,ops[i]?=some o/\o.dst=some t:=by
 unfold hZ at h;have:=List.find?_some h;cases g:ops[i]? with
 | none=>simp[g] at this
 | some o=>exact⟨o,rfl,by simpa [g] using this⟩
def oU (ops:Array bb) (val sgZ:Nat->U) (h:Array Bool) :Nat->U:=fun g=>
 match hZ ops g with
 | some i=>if h.getD i false then val i else sgZ g
 | none=>sgZ g
theorem P0 {ops:Array bb} {pre:Nat->Nat->Bool} (v:o9 ops pre) {g:Array Bool}
  (w:∀ (i:Nat) (o:bb) (e:Edge),ops[i]?=some o->g.getD i false=true->e∈o.after->Region.binds .any e=true->g.getD e.on false=true)
  (z:∀ i,g.getD i false=true->∃ o,ops[i]?=some o) :∀ (i:Nat),g.getD i false=true->∀ j,pre i j=true->g.getD j false=true:=by
 intro i
 induction i using Nat.strongRecOn with
 | _ i C=>
  intro t j B;obtain⟨o,m⟩:=z i t;obtain⟨e,q,p,h⟩:=v.chain i o j m B;have u:=w i o e m t q p;rcases h with rfl | h
  ·exact u
  ·exact C e.on (v.vT i o e m q p) u j h
theorem r1 (g:Array Bool) (i j:Nat) (m:i<g.size) :(g.setIfInBounds i true).getD j false=if j=i then true else g.getD j false:=by
 rw[hj,uW];by_cases h:i=j
 ·subst h;simp[m]
 ·rw[aj h,aj (Ne.symm h),hj]
theorem Ad {ops:Array bb} {pre:Nat->Nat->Bool} (D:o9 ops pre) {val sgZ:Nat->U} {B:Array Bool} {i:Nat} {o:bb} (u:ops[i]?=some o) (q:i<B.size) :
  oU ops val sgZ (B.setIfInBounds i true)=gF (oU ops val sgZ B) o.dst (val i):=by
 funext j;unfold oU gF;cases m:o.dst with
 | none=>
  simp only;cases w:hZ ops j with
  | none=>rfl
  | some z=>
   have t:z≠i:=fun p=>by
    obtain⟨C,h,g⟩:=sU w;rw[p,u] at h;cases h;rw[m] at g;cases g
   simp only[r1 _ _ _ q,aj t]
 | some d=>
  simp only;by_cases v:j=d
  ·subst v;rw[D.one i o j u m];simp[r1 _ _ _ q]
  ·rw[bS _ _ _ _ v];cases w:hZ ops j with
   | none=>rfl
   | some z=>
    have t:z≠i:=fun p=>by
     obtain⟨C,h,g⟩:=sU w;rw[p,u] at h;cases h;rw[m] at g;cases g;exact v rfl
    simp only[r1 _ _ _ q,aj t]
structure Inv (P:bq) (ops:Array bb) (val sgZ:Nat->U) (W:Nat->Bool) (cls:Nat->xS) (m:Nat) (jy:Nat->Nat) (j:Nat->aM) (t:Nat->Nat) (N:Nat)
  (R:Nat->Prop) (B:Nat) (u:aT) (h:aM) (p:b3) (g:Array Bool) (k:Nat) (a:Act) (w:aT) (muZ:b3) :Prop where
 size:g.size=ops.size
 down:∀ (i:Nat) (o:bb) (e:Edge),ops[i]?=some o->g.getD i false=true->e∈o.after->Region.binds .any e=true->g.getD e.on false=true
 wr:k<=m
 done:∀ q,q<m->(g.getD (jy q) false=true<->q<k)
 ext:Ext0 u h p w (j k) muZ
 mZ:∀ b,b<h.n->p b=none->muZ b=none
 rel:bC R B w (j k) muZ
 q8:gL N w R (j k) muZ (oU ops val sgZ g) a
 wV:∀ (i:Nat) (o:bb),ops[i]?=some o->W i=true->cls i=.new->g.getD i false=false->muZ (t i)=none
theorem Sn {ops:Array bb} {g:Array Bool} (j:g.size=ops.size) (i:Nat) (h:g.getD i false=true) :∃ o,ops[i]?=some o:=by
 have:i<ops.size:=by
  rcases fE i g.size with h1 | h1
  ·omega
  ·simp[hj,p4 h1] at h
 exact⟨ops[i],by simp[this]⟩
theorem N4 {ops:Array bb} {pre:Nat->Nat->Bool} (o:o9 ops pre) {eh:Array Bool} (v:eh.size=ops.size) (t:Region.ready .any ops eh=[]) :∀ i,i<ops.size->eh.getD i false=true:=by
 intro i
 induction i using Nat.strongRecOn with
 | _ i u=>
  intro g;cases p:eh.getD i false with
  | true=>rfl
  | false=>
   exfalso;have m:i∈Region.ready .any ops eh:=by
    refine mem_ready.2 ⟨?_,ops[i],by simp[g],fun e j h=>u e.on (o.vT i ops[i] e (by simp[g]) j h) (by
     have:=o.vT i ops[i] e (by simp[g]) j h;omega)⟩
    have q:i<eh.size:=F;simpa [hj,q] using p
   rw[t] at m;cases m
theorem P3 (bO:P.follows .mixedOrders=true) (bE:∀ g,(G g).ar=true) :Fu P G:=by
 intro id ops N sgZ h WQ h' pre val W cls m au J cg X cells av aG bD D b8 bJ a9 bU bN b5 bZ bV bj bF bG bL bI;refine⟨0,fun ag B ax xB a0 Q bs bB ce ca=>wp_region_any bO ?_⟩;obtain⟨bz,cc⟩:=pO bs ⟨(RowKit.Below.refl ax.heap.size ax).drew,ry _⟩;obtain⟨bA,cd⟩:=bD.rel cc;have a2:=bz.trans bA
 -- the end
 have a4:∀ (eh:Array Bool) (k:Nat) (a:Act) (w:aT) (muZ:b3),Inv P ops val sgZ W cls m au J X N ag B ax h xB eh k a w muZ->(∀ i,i<ops.size->eh.getD i false=true)->Q .normal a w:=by
  intro eh k a w muZ inv aB;have hk:k=m:=by
   rcases fE k m with H | aR
   ·obtain⟨t,p,_⟩:=a9 k H;have ai:=aB (au k) ((ij.1 p).1);have:=(inv.done k H).1 ai;omega
   ·have:=inv.wr;omega
  subst hk;have b0:oU ops val sgZ eh=WQ:=by
   rw[b8];funext I;unfold oU;cases az:hZ ops I with
   | none=>rfl
   | some i=>
    obtain⟨t,p,_⟩:=sU az;simp only[aB i ((ij.1 p).1),if_true]
  subst D;have aL:=inv.q8;rw[b0] at aL;exact ca a w muZ ⟨inv.ext,inv.mZ⟩ inv.rel aL
 have b9:∀ (fuel:Nat) (eh:Array Bool) (k:Nat) (a:Act) (w:aT) (muZ:b3),Inv P ops val sgZ W cls m au J X N ag B ax h xB eh k a w muZ->eh.toList.count false=fuel->wpAny P .any ops Q fuel eh a w:=by
  intro fuel
  induction fuel with
  | zero=>
   intro eh k a w muZ inv a7;have aB:∀ i,i<ops.size->eh.getD i false=true:=by
    intro i ap;have H:i<eh.size:=by rw[inv.size];exact ap
    cases ai:eh[i] with
    | true=>simp[hj,H,ai]
    | false=>
     exfalso;have aV:false∈eh.toList:=by rw[<-ai];simp
     have:=List.count_pos_iff.2 aV;omega
   refine⟨?_,a4 eh k a w muZ inv aB⟩;cases ah:Region.ready .any ops eh with
   | nil=>rfl
   | cons i l=>
    exfalso;have aV:i∈Region.ready .any ops eh:=by rw[ah];simp
    obtain⟨h1,t,p,_⟩:=mem_ready.1 aV;have ap:=(ij.1 p).1;have aC:=aB i ap;have H:i<eh.size:=by rw[inv.size];exact ap
    simp[hj,H] at h1 aC;rw[h1] at aC;cases aC
  | succ fuel aM=>
   intro eh k a w muZ inv a7;refine⟨fun ah=>a4 eh k a w muZ inv (N4 av inv.size ah),fun i ap=>?_⟩;obtain⟨h1,t,p,a8⟩:=mem_ready.1 ap;have H:i<eh.size:=by rw[inv.size];exact (ij.1 p).1
   have aI:eh.getD i false=false:=by simpa [hj,H] using h1
   have a5:=P0 av inv.down (Sn inv.size)
   -- what comes before i is done
   have aW:∀ j,pre i j=true->eh.getD j false=true:=by
    intro j C;obtain⟨e,aH,o,aP⟩:=av.chain i t j p C;have bh:=a8 e aH o;rcases aP with rfl | aP
    ·exact bh
    ·exact a5 e.on bh j aP
   have bm:∀ j,eh.getD j false=true->pre j i=true->False:=fun j C al=>by
    have:=a5 j C i al;rw[aI] at this;cases this
   have bd:tI pre m au i k:=⟨inv.wr,fun q U al=>(inv.done q U).1 (aW _ al),fun q U al=>by
    rcases fE q k with aU | aR
    ·exact (bm _ ((inv.done q U).2 aU) al).elim
    ·exact aR⟩
   -- what i sees
   have bc:∀ I,aA w ag (J k) muZ (kD ops pre val sgZ i t I) (a.tmps.getD I undef):=by
    intro I;unfold kD;split
    ·rename_i b2;have b4:I∈t.looksAt ops:=by simpa using b2
     have K:=inv.q8.val I;unfold oU at K;cases az:hZ ops I with
     | none=>rw[az] at K;exact K
     | some j=>
      rw[az] at K;simp only at K ⊢;by_cases al:pre i j=true
      ·rw[ak al];rw[ak (aW j al)] at K;exact K
      ·rw[aj al];have bT:eh.getD j false=false:=by
        rcases av.acc i t I j p b4 az with z | z | rfl
        ·exact bW z al
        ·cases aS:eh.getD j false with
         | false=>rfl
         | true=>exact (bm j aS z).elim
        ·exact aI
       rw[bT] at K;exact K
    ·exact .bad _
   have bf:jS G w ag (J k) muZ:=fun g=>⟨bE g,(bB g).2.j2 inv.ext⟩
   have aY:∀ x,aA w ag (J k) muZ (dA G (kD ops pre val sgZ i t) x) (a.eval x):=by
    intro x;cases x with
    | tmp I=>exact bc I
    | const v=>exact aA.qS v
    | global g=>exact (bf g).2
    | func f=>exact .fn f [] [] #[] #[] rfl rfl (fun _ _ _ z=>by simp at z) (fun _ _ _ z=>by simp at z)
   have br:=EQ (w:=w) (R:=ag) (h:=J k) (muZ:=muZ) (tmps:=a.tmps) (b5 i t p) (fun d _=>bc d);have aE:(eh.setIfInBounds i true).toList.count false=fuel:=by
    have o:eh.toList[i]'(by simpa using H)=false:=by
     have:eh[i]=false:=by simpa [hj,H] using h1
     simpa using this
    rw[Array.toList_setIfInBounds,List.count_set (by simpa using H)];simp[o,a7]
   have aK:(eh.setIfInBounds i true).size=ops.size:=by simp[inv.size]
   have aF:∀ (j:Nat) (O:bb) (e:Edge),ops[j]?=some O->(eh.setIfInBounds i true).getD j false=true->e∈O.after->Region.binds .any e=true->(eh.setIfInBounds i true).getD e.on false=true:=by
    intro j O e T C aH o;rw[r1 _ _ _ H] at C ⊢;by_cases aq:j=i
    ·subst aq;rw[p] at T;cases T;rw[a8 e aH o];split<;>rfl
    ·rw[aj aq] at C;rw[inv.down j O e T C aH o];split<;>rfl
   -- the next state,when no block of others' is turned
   have aX:(W i=true->cls i≠.fb)->∀ q,q<m->((eh.setIfInBounds i true).getD (au q) false=true<->q<k):=by
    intro bR q U;obtain⟨O,T,S,Y⟩:=a9 q U;have:au q≠i:=fun z=>by
     rw[z] at S Y;exact bR S Y
    rw[r1 _ _ _ H,aj this];exact inv.done q U
   have aJ:∀ (j:Nat),(eh.setIfInBounds i true).getD j false=false->j≠i/\eh.getD j false=false:=by
    intro j C;rw[r1 _ _ _ H] at C;by_cases aq:j=i
    ·rw[ak aq] at C;cases C
    ·rw[aj aq] at C;exact⟨aq,C⟩
   unfold wpOp;simp only[p];cases S:W i with
   | false=>
    rw[br,S];simp only[kj,if_false];refine aM _ k _ w muZ ⟨aK,aF,inv.wr,aX (fun z=>by rw[S] at z;cases z),inv.ext,inv.mZ,inv.rel,?_,fun j O T am ao C=>inv.wV j O T am ao (aJ j C).2⟩ aE;rw[Ad av p H];exact inv.q8.put (aG i t p) (by rw[bZ i t p S];exact xr)
   | true=>
    rw[br,S];simp only[if_true];left;cases Y:cls i with
    | pure=>
     have b1:=bV i t p S Y k bd;obtain⟨v,w',muZ',ah,e,r,K⟩:=Em (P:=P) inv.rel aY t b1;have bk:wpAny P .any ops Q fuel (eh.setIfInBounds i true) (a.put t.dst v) w':=by
      refine aM _ k _ w' muZ' ⟨aK,aF,inv.wr,aX (fun _ z=>by rw[Y] at z;cases z),inv.ext.trans e.toExt0,fun b o aw=>e.mZ b (nb o inv.ext.n) (inv.mZ b o aw),r,?_,fun j O T am ao C=>?_⟩ aE
      ·rw[Ad av p H];exact (inv.q8.ext e).put (aG i t p) K
      ·have ay:=inv.wV j O T am ao (aJ j C).2;rcases fE (X j) (J k).n with o | o
       ·exact e.mZ _ o ay
       ·exact r.iX _ o
     unfold Oper.wp;rcases ah with ah | ⟨ah,rfl⟩
     ·rw[ah];exact bk
     ·rw[ah];exact bk
    | new=>
     obtain⟨mk,ay,bq,a6,hblk⟩:=bj i t p S Y;obtain⟨v,arr,I,ah,bp,bP⟩:=Tc (P:=P) aY t ay;have aD:=hblk k bd;have bH:=inv.wV i t p S Y aI;have ch:X i<(J k).n:=by
      rcases fE (X i) (J k).n with o | o
      ·exact o
      ·rw[inv.rel.fresh _ o] at aD;cases aD
     have bl:∀ b ad,muZ b=some ad->b≠X i:=fun b ad o z=>by rw[z,bH] at o;cases o
     have e:Ext0 w (J k) muZ (w.alloc (.cells arr I)) (J k) (bt muZ (X i) (some ⟨w.heap.size,0,arr.size⟩)):=by
      refine⟨rfl,rfl,rfl,V,fun x b6 _=>?_,?_,fun b cj cs ad o D=>.inl ⟨cs,o,by rw[bS _ _ _ _ (bl b ad D)];exact D⟩,fun _ _ bK=>bK,fun b k ad o D=>⟨o,by rw[bS _ _ _ _ (bl b ad D)];exact D⟩,aN _,aN _⟩
      ·exact RowKit.Below.heap_alloc w _ x b6
      ·rintro x ⟨b,ad,ai,D,rfl⟩;by_cases o:b=X i
       ·subst o;simp at D;subst D;exact .inr (aN _)
       ·rw[bS _ _ _ _ o] at D;exact .inl ⟨b,ad,ai,D,rfl⟩
     have r:bC ag B (w.alloc (.cells arr I)) (J k) (bt muZ (X i) (some ⟨w.heap.size,0,arr.size⟩)):=by
      refine inv.rel.pY e (X i) (fun b o ai=>⟨rfl,bS _ _ _ _ o,fun ad D=>RowKit.Below.heap_alloc w _ _ (inv.rel.lt ai D)⟩) (fun ad D=>?_) (fun b ad ci o ai _ D bi=>?_) (fun ad _ D=>?_) inv.rel.fresh (fun b o=>?_)
      ·simp at D;subst D;rw[aD];refine⟨rfl,by simp[bp.1],arr,I,(0,0),heap_alloc_new w _,rfl,.inl rfl,fun j c C=>?_⟩;obtain⟨u,bv,bw,bx⟩:=bp.2 j c C;exact⟨u,by simpa using bv,bw,bx.j2 e⟩
      ·simp at bi;subst bi;have:=inv.rel.lt ai D;simp only[ne_eq];omega
      ·simp at D;subst D;exact inv.rel.size
      ·rw[bS _ _ _ _ F];exact inv.rel.iX b o
     have K:aA (w.alloc (.cells arr I)) ag (J k) (bt muZ (X i) (some ⟨w.heap.size,0,arr.size⟩)) (val i) v:=by
      rw[bq];exact bP _ _ _ _ _ aD V
     unfold Oper.wp;rw[ah];refine aM _ k _ _ _ ⟨aK,aF,inv.wr,aX (fun _ z=>by rw[Y] at z;cases z),inv.ext.trans e,fun b o aw=>by rw[bS _ _ _ _ F];exact inv.mZ b o aw,r,?_,fun j O T am ao C=>?_⟩ aE
     ·rw[Ad av p H];have bY:gL N (w.alloc (.cells arr I)) ag (J k) (bt muZ (X i) (some ⟨w.heap.size,0,arr.size⟩)) (oU ops val sgZ eh) a:=⟨inv.q8.size,inv.q8.defers,fun cf=>(inv.q8.val cf).j2 e⟩
      exact bY.put (aG i t p) K
     ·obtain⟨aq,aS⟩:=aJ j C;rw[bS _ _ _ _ (fun z=>aq (bF j i O t T p am S ao Y z))];exact inv.wV j O T am ao aS
    | fb=>
     obtain⟨q,U,rfl⟩:=bJ i t p S Y;have bX:q=k:=by
      have aC:¬ q<k:=fun z=>by
       have:=(inv.done q U).2 z;rw[aI] at this;cases this
      rcases fE k q with aU | aR
      ·have bg:k<m:=F;have:=aW (au k) (bU k q bg U aU);have:=(inv.done k bg).1 this;omega
      ·omega
     subst bX;refine bI q t U p ag B w muZ a t _ Q rfl inv.rel bf aY fun v w' muZ' e r K=>?_
     obtain⟨a3,cb⟩:=(bL q U).rel r;have aO:=e.trans a3;refine aM _ (q+1) _ w' muZ' ⟨aK,aF,F,fun aZ bn=>?_,inv.ext.trans aO.toExt0,fun b o aw=>aO.mZ b (nb o inv.ext.n) (inv.mZ b o aw),cb,?_,fun j O T am ao C=>?_⟩ aE
     ·rw[r1 _ _ _ H];by_cases bo:aZ=q
      ·subst bo;simp
      ·rw[aj (fun z=>bo (bN aZ q bn U z)),inv.done aZ bn];omega
     ·rw[Ad av p H];exact (inv.q8.ext aO).put (aG _ t p) (K.ext a3)
     ·have ay:=inv.wV j O T am ao (aJ j C).2;rcases bG j O q T am ao U with o | o
      ·exact e.mZ _ o ay
      ·exact r.iX _ o
 have bM:Inv P ops val sgZ W cls m au J X N ag B ax h xB (Array.replicate ops.size false) 0 a0 ax.drew xB:=by
  have aQ:∀ i,(Array.replicate ops.size false).getD i false=false:=by
   intro i;rw[hj,AH];split<;>rfl
  refine⟨V,(fun i t e _ ap _ _=>by rw[aQ] at ap;cases ap),fR _,(fun q U=>by rw[aQ];simp),a2.toExt0,fun b o aw=>aw,cd,?_,fun i t p S Y _=>?_⟩
  ·have aL:oU ops val sgZ (Array.replicate ops.size false)=sgZ:=by
    funext I;unfold oU;cases az:hZ ops I with
    | none=>rfl
    | some i=>simp only[aQ];simp
   rw[aL];exact ce.ext a2
  ·obtain⟨mk,ay,bq,a6,hblk⟩:=bj i t p S Y;exact bs.iX _ a6
 exact b9 _ _ 0 a0 ax.drew xB bM V
theorem sH (o:P.follows .mixedOrders=true) (h:∀ g,(G g).ar=true) {j:J} (m:c8 P G j) :rH P G j:=Xb (P3 o h) m
end
section
variable {P:bq} {G:Nat->U}
theorem Dn {g j:aY->U} (ps:Array (Nat × aY)) (h:∀ x∈(ps.toList.map (·.2)),g x=j x) :(ps.toList.map fun p=>(p.1,g p.2))=(ps.toList.map fun p=>(p.1,j p.2)):=
 mn fun p m=>by rw[h p.2 (cC.2 ⟨p,m,rfl⟩)]
theorem CP {g hV:aY->U} (xs:Array aY) (h:∀ x∈xs,g x=hV x) :xs.toList.map g=xs.toList.map hV:=
 mn fun x j=>h x (by simpa using j)
theorem Dc {g hV:aY->U} (o:Option aY) (h:∀ x∈o.toArray,g x=hV x) :o.map g=o.map hV:=by
 cases o with
 | none=>rfl
 | some x=>simp[h x V]
theorem El {o hV:aY->U} (h:aM) (op:Op) (j:∀ x∈op.operands,o x=hV x) :cO P h o op=cO P h hV op:=by
 cases op<;>simp only[Op.operands] at j<;>try rfl
 case build p m=>simp only[cO];rw[Dn m (fun x g=>j x (by simpa using g))]
 case buildSlice p n m=>simp only[cO];rw[Dn m (fun x g=>j x (by simpa using g))]
 case makeFunc fn first e6=>
  cases fn<;>simp only[cO];rw[CP first (fun x g=>j x (by simp[g])),CP e6 (fun x g=>j x (by simp[g]))]
 case slice p x v u w=>
  simp only[cO];rw[j x V,Dc v (fun y g=>j y (by simp at g ⊢;simp[g])),Dc u (fun y g=>j y (by simp at g ⊢;simp[g])),Dc w (fun y g=>j y (by simp at g ⊢;simp[g]))]
 case call c=>
  have t:c.args.toList.map o=c.args.toList.map hV:=CP c.args (fun x g=>j x (by simp[Call.operands,g]));simp only[cO,qt,t];cases q:c.callee with
  | value f=>dsimp only;rw[j f (by simp[Call.operands,q])]
  | invoke x name=>dsimp only;rw[j x (by simp[Call.operands,q])]
  | _=>rfl
 case makeMap p r=>
  cases r with
  | none=>rfl
  | some x=>simp only[cO];rw[j x V]
 case next it b=>
  cases b with
  | false=>rfl
  | true=>simp only[cO];rw[j it V]
 all_goals (simp only[cO];simp_all)
theorem Tb {h j:aY->U} (op:Op) (g:∀ x∈op.operands,h x=j x) :kM P h op=kM P j op:=by
 cases op<;>simp only[Op.operands] at g<;>try rfl
 case box m x=>simp only[kM];rw[g x V]
 case buildSlice m n p=>simp only[kM];rw[Dn p (fun x o=>g x (by simpa using o))]
 case makeSlice m l c=>simp only[kM];rw[g l V,g c V]
theorem Qs {sgZ o:Nat->U} {h h' : aM} {v:U} {op:Op} (m:∀ x∈op.operands,dA G sgZ x=dA G o x) (j:c8 P G (.op op sgZ h v h')) :c8 P G (.op op o h v h'):=by
 generalize p:J.op op sgZ h v h'=t at j
 induction j generalizing v h'<;>cases p
 case zp q=>exact .zp (by rw[<-El h op m];exact q)
 case ui=>exact .ui (by rw[<-El h op m];assumption) (by assumption)
 case Ax=>exact .Ax (by first | (rename_i g;exact g rfl) | (rename_i g _;exact g rfl) | (rename_i g _ _;exact g rfl)) (by assumption) (by assumption)
inductive bF where
 | skip (i:Nat)
 | pure (i:Nat) (g:U)
 | new (i:Nat) (g:U) (cs:ag)
 | fb (i:Nat) (g:U) (h1:aM)
def bF.idx:bF->Nat
 | .skip i | .pure i _ | .new i _ _ | .fb i _ _=>i
def bF.val:bF->U
 | .skip _=>fC
 | .pure _ g | .new _ g _ | .fb _ g _=>g
def bF.hy:bF->Bool
 | .fb ..=>true
 | _=>false
def bF.pz:bF->Bool
 | .skip _=>true
 | _=>false
def bF.cls:bF->xS
 | .skip _ | .pure ..=>.pure
 | .new ..=>.new
 | .fb ..=>.fb
def bF.cs:bF->ag
 | .new _ _ cs=>cs
 | _=>[]
structure jU where
 sgZ:Nat->U
 h:aM
def rT (ops:Array bb) (i:Nat) :Option Tmp:=(ops[i]?).bind (·.dst)
def mP (h:aM) :bF->aM
 | .skip _ | .pure ..=>h
 | .new _ _ cs=>h.push (.cells cs.length cs)
 | .fb _ _ h1=>h1
def jC (ops:Array bb) (s:jU) (t:bF) :jU:=⟨gF s.sgZ (rT ops t.idx) t.val,mP s.h t⟩
def fk (ops:Array bb) (s0:jU) (tr:List bF) (p:Nat) :jU:=(tr.take p).foldl (jC ops) s0
theorem uG {ops:Array bb} {s0:jU} {tr:List bF} {p:Nat} {t:bF} (h:tr[p]?=some t) :fk ops s0 tr (p+1)=jC ops (fk ops s0 tr p) t:=by unfold fk;have g:p<tr.length:=(aK.1 h).1;rw[List.take_succ_eq_append_getElem g,AU];have:tr[p]=t:=(aK.1 h).2;simp[this]
def tg (P:bq) (G:Nat->U) (ops:Array bb) (s:jU) :bF->Prop
 | .skip i=>∃ g,ops[i]?=some g/\iJ ops s.sgZ g=some false
 | .pure i j=>∃ g,ops[i]?=some g/\iJ ops s.sgZ g=some true
 | .new i j cs=>∃ g mk,ops[i]?=some g/\iJ ops s.sgZ g=some true/\kM P (dA G s.sgZ) g.op=some (cs,mk)/\j=mk s.h.n
 | .fb i j h1=>∃ g,ops[i]?=some g/\iJ ops s.sgZ g=some true/\c8 P G (.op g.op s.sgZ s.h j h1)/\s.h.n<=h1.n
def Bg (P:bq) (G:Nat->U) (ops:Array bb) (s:jU) (h:aM) :bF->Prop
 | .pure i j=>∀ g,ops[i]?=some g->cO P h (dA G s.sgZ) g.op=some (.val j h)
 | .new _ _ cs=>h.f s.h.n=.cells cs.length cs
 | _=>True
structure tf (ops:Array bb) (pre:Nat->Nat->Bool) (tr:List bF) :Prop where
 Ar:o9 ops pre
 all:∀ i,i<ops.size->∃ (p:Nat) (t:bF),tr[p]?=some t/\t.idx=i
 inj:∀ (p g:Nat) (t h:bF),tr[p]?=some t->tr[g]?=some h->t.idx=h.idx->p=g
 zV:∀ (p:Nat) (t:bF),tr[p]?=some t->t.idx<ops.size
 LP:∀ (p g:Nat) (t h:bF),tr[p]?=some t->tr[g]?=some h->p<g->pre t.idx h.idx=false
 eager:∀ (p g:Nat) (t h:bF),tr[p]?=some t->tr[g]?=some h->p<g->t.hy=true->pre h.idx t.idx=true
structure Bh (P:bq) (G:Nat->U) (ops:Array bb) (pre:Nat->Nat->Bool) (s0:jU) (tr:List bF) :Prop where
 step:∀ (p:Nat) (t:bF),tr[p]?=some t->tg P G ops (fk ops s0 tr p) t
 still:∀ (q:Nat),(q=tr.length\/∃ t:bF,tr[q]?=some t/\t.hy=true)->∀ (p:Nat) (t:bF),p<q->tr[p]?=some t->
  (∀ (j:Nat) (g:bF),j<q->tr[j]?=some g->g.hy=true->pre g.idx t.idx=false)->Bg P G ops (fk ops s0 tr p) (fk ops s0 tr q).h t
def dv (tr:List bF) (i:Nat) :Nat:=tr.findIdx fun g=>g.idx == i
theorem so {ops:Array bb} {pre:Nat->Nat->Bool} {tr:List bF} (p:tf ops pre tr) {i:Nat} (j:i<ops.size) :∃ t,tr[dv tr i]?=some t/\t.idx=i:=by
 obtain⟨q,t,h,o⟩:=p.all i j;have u:q<tr.length:=(aK.1 h).1;have m:∃ x∈tr,(x.idx == i)=true:=⟨t,cJ h,by simpa using o⟩
 have g:dv tr i<tr.length:=List.findIdx_lt_length_of_exists m;have:=List.findIdx_getElem (w:=g);exact⟨tr[dv tr i],by simp[g],by unfold dv;simpa using this⟩
theorem zB {ops:Array bb} {pre:Nat->Nat->Bool} {tr:List bF} (g:tf ops pre tr) {p:Nat} {t:bF} (h:tr[p]?=some t) :dv tr t.idx=p:=by obtain⟨m,h1,j⟩:=so g (g.zV p t h);exact g.inj _ _ _ _ h1 h j
theorem K8 {ops:Array bb} {pre:Nat->Nat->Bool} {tr:List bF} (q:tf ops pre tr) (s0:jU) :∀ p,p<=tr.length->∀ t,
  (fk ops s0 tr p).sgZ t=match hZ ops t with | some j=>(if dv tr j<p then ((tr[dv tr j]?).map bF.val).getD .bad else s0.sgZ t) | none=>s0.sgZ t:=by
 intro p
 induction p with
 | zero=>
  intro _ t;simp only[fk,m9,List.foldl_nil];cases hZ ops t<;>simp
 | succ p O=>
  intro R t;have H:p<tr.length:=F;have m:tr[p]?=some tr[p]:=bK H;rw[uG m];simp only[jC];have C:=O F t;have J:=zB q m;have K:=q.zV p _ m;have D:ops[tr[p].idx]?=some ops[tr[p].idx]:=by simp[K]
  cases g:rT ops tr[p].idx with
  | none=>
   simp only[gF,C];cases B:hZ ops t with
   | none=>rfl
   | some j=>
    simp only;obtain⟨P,h,w⟩:=sU B;have I:dv tr j≠p:=by
     intro v;obtain⟨Q,h1,u⟩:=so q ((ij.1 h).1);rw[v,m] at h1;cases h1;rw[<-u] at h;simp only[rT,h,qc] at g;rw[w] at g;cases g
    by_cases o:dv tr j<p
    ·rw[ak o,ak F]
    ·rw[aj o,aj F]
  | some d=>
   simp only[gF];by_cases z:t=d
   ·subst z;have G:ops[tr[p].idx].dst=some t:=by simpa [rT,D] using g
    rw[fJ,q.Ar.one _ _ t D G];simp[J,m]
   ·rw[bS _ _ _ _ z,C];cases B:hZ ops t with
    | none=>rfl
    | some j=>
     simp only;obtain⟨P,h,w⟩:=sU B;have I:dv tr j≠p:=by
      intro v;obtain⟨Q,h1,u⟩:=so q ((ij.1 h).1);rw[v,m] at h1;cases h1;rw[<-u] at h;simp only[rT,h,qc] at g;rw[w] at g;cases g;exact z rfl
     by_cases o:dv tr j<p
     ·rw[ak o,ak F]
     ·rw[aj o,aj F]
theorem UH {ops:Array bb} {pre:Nat->Nat->Bool} (u:o9 ops pre) (v:∀ (i:Nat) (o:bb) (e:Edge),ops[i]?=some o->e∈o.after->Region.binds .any e=true->∃ m,ops[e.on]?=some m) :∀ (i:Nat) (o:bb),ops[i]?=some o->∀ j,pre i j=true->j<i:=by
 intro i
 induction i using Nat.strongRecOn with
 | _ i B=>
  intro o h j w;obtain⟨e,q,p,g⟩:=u.chain i o j h w;have t:=u.vT i o e h q p;rcases g with rfl | g
  ·exact t
  ·obtain⟨m,z⟩:=v i o e h q p;have:=B e.on t m z j g;omega
theorem Tr {ops:Array bb} {pre:Nat->Nat->Bool} (h:o9 ops pre) (i:Nat) (o:bb) (g:ops[i]?=some o) (p:pre i i=true) :False:=by
 have:=UH h (fun i o e g m j=>by
  have h1:=h.vT i o e g m j;have q:=(ij.1 g).1;exact⟨ops[e.on]'F,V⟩) i o g i p
 omega
theorem Hc {ops:Array bb} {pre:Nat->Nat->Bool} {tr:List bF} (m:tf ops pre tr) (s0:jU) {i:Nat} {o:bb} (w:ops[i]?=some o) {t:Nat} (z:t∈o.looksAt ops) :
  kD ops pre (fun j=>((tr[dv tr j]?).map bF.val).getD .bad) s0.sgZ i o t=(fk ops s0 tr (dv tr i)).sgZ t:=by
 have D:i<ops.size:=(ij.1 w).1;obtain⟨K,h1,u⟩:=so m D;have G:dv tr i<=tr.length:=kp (aK.1 h1).1;rw[K8 m s0 _ G];unfold kD;rw[ak (by simpa using z)];cases B:hZ ops t with
 | none=>rfl
 | some j=>
  simp only;obtain⟨J,I,_⟩:=sU B;obtain⟨O,q,v⟩:=so m ((ij.1 I).1);have C:pre i j=true<->dv tr j<dv tr i:=by
   constructor
   ·intro g;rcases o8 (dv tr j) (dv tr i) with h | h | h
    ·exact h
    ·exfalso;rw[h,h1] at q;cases q;have F:i=j:=by rw[<-u,<-v]
     subst F;exact Tr m.Ar i o w g
    ·have:=m.LP _ _ _ _ h1 q h;rw[u,v] at this;rw[this] at g;cases g
   ·intro H;rcases m.Ar.acc i o t j w z B with p | p | rfl
    ·exact p
    ·have:=m.LP _ _ _ _ q h1 H;rw[u,v] at this;rw[this] at p;cases p
    ·omega
  by_cases g:pre i j=true
  ·rw[ak g,ak (C.1 g)]
  ·rw[aj g,aj (fun p=>g (C.2 p))]
def dV (tr:List bF) :List Nat:=(List.range tr.length).filter fun g=>((tr[g]?).map bF.hy).getD false
theorem y8 {tr:List bF} {p:Nat}:p∈dV tr<->∃ t,tr[p]?=some t/\t.hy=true:=by
 unfold dV;rw[dx,g5];constructor
 ·rintro⟨h1,g⟩;refine⟨tr[p],by simp[h1],?_⟩;simpa [h1] using g
 ·rintro⟨t,h1,g⟩;exact⟨(aK.1 h1).1,by simp[h1,g]⟩
theorem qD {tr:List bF} {q g:Nat} (m:q<g) (h:g<(dV tr).length) :(dV tr).getD q 0<(dV tr).getD g 0:=by have j:(dV tr).Pairwise (· < ·):=List.Pairwise.filter _ List.pairwise_lt_range;have:=ko.1 j q g F h m;simpa [List.getD,h,show q<(dV tr).length by omega] using this
theorem Ha {tr:List bF} {q:Nat} (g:q<(dV tr).length) :∃ t,tr[(dV tr).getD q 0]?=some t/\t.hy=true:=by apply y8.1;simp[List.getD,g]
theorem yv {tr:List bF} {p:Nat} (h:p∈dV tr) :∃ q,q<(dV tr).length/\(dV tr).getD q 0=p:=by obtain⟨q,g,rfl⟩:=E9 h;exact⟨q,g,by simp[List.getD,g]⟩
theorem wF {ops:Array bb} {pre:Nat->Nat->Bool} {s0:jU} {tr:List bF} (m:Bh P G ops pre s0 tr) :∀ (k p:Nat),p+k<=tr.length->(fk ops s0 tr p).h.n<=(fk ops s0 tr (p+k)).h.n
 | 0,p,_=>aN _
 | k+1,p,w=>by
  have v:=wF m k p F;have q:p+k<tr.length:=F;have g:tr[p+k]?=some tr[p+k]:=bK q;have j:=m.step _ _ g;rw[show p+(k+1)=(p+k)+1 from rfl,uG g];refine dC v ?_;cases u:tr[p+k] with
  | skip i=>simp[jC,mP]
  | pure i o=>simp[jC,mP]
  | new i o cs=>simp[jC,mP,jl]
  | fb i o h1=>
   rw[u] at j;obtain⟨z,_,_,_,t⟩:=j;simpa [jC,mP] using t
theorem Ch {ops:Array bb} {s0:jU} {tr:List bF}:∀ (k p:Nat),p+k<=tr.length->(∀ r,p<=r->r<p+k->r∉dV tr)->lM (fk ops s0 tr p).h (fk ops s0 tr (p+k)).h
 | 0,p,_,_=>⟨[],rfl⟩
 | k+1,p,z,o=>by
  obtain⟨l,g⟩:=Ch (ops:=ops) (s0:=s0) (tr:=tr) k p F (fun r h1 w=>o r h1 F);have u:p+k<tr.length:=F;have j:tr[p+k]?=some tr[p+k]:=bK u;have m:tr[p+k].hy≠true:=fun t=>o (p+k) F F (y8.2 ⟨_,j,t⟩)
  rw[show p+(k+1)=(p+k)+1 from rfl,uG j];cases v:tr[p+k] with
  | skip i=>exact⟨l,by simp[jC,mP,g]⟩
  | pure i q=>exact⟨l,by simp[jC,mP,g]⟩
  | new i q cs=>exact⟨l++[cs],by simp[jC,mP,g,qZ]⟩
  | fb i q h1=>rw[v] at m;exact bW rfl m
theorem c8.P1 {id:Nat} {ops:Array bb} {pre:Nat->Nat->Bool} {N:Nat} {s0:jU} {tr:List bF} (B:tf ops pre tr) (aL:∀ (i:Nat) (o:bb),ops[i]?=some o->hO N o.dst=true) (X:Bh P G ops pre s0 tr) :
  c8 P G (.code (.region id ops true) N s0.sgZ s0.h .normal (fk ops s0 tr tr.length).sgZ (fk ops s0 tr tr.length).h):=by
 -- the step that carries out operation i
 have gI:∀ (i:Nat) (o:bb),ops[i]?=some o->∃ t,tr[dv tr i]?=some t/\t.idx=i/\tg P G ops (fk ops s0 tr (dv tr i)) t:=fun i o j=>by
  obtain⟨t,h1,m⟩:=so B ((ij.1 j).1);exact⟨t,h1,m,X.step _ _ h1⟩
 have a2:∀ (i:Nat) (o:bb),ops[i]?=some o->iJ ops (kD ops pre (fun g=>((tr[dv tr g]?).map bF.val).getD .bad) s0.sgZ i o) o=iJ ops (fk ops s0 tr (dv tr i)).sgZ o:=fun i o j=>by
  unfold iJ;cases aR:o.guard with
  | none=>rfl
  | some aZ=>
   obtain⟨g,bj⟩:=aZ;simp only;cases aM:(ops[g]?).bind (·.dst) with
   | none=>rfl
   | some d=>
    simp only;rw[Hc B s0 j (t:=d) (by simp[Oper.looksAt,aR,aM])]
 have av:∀ (i:Nat) (o:bb),ops[i]?=some o->∀ x∈o.op.operands,dA G (fk ops s0 tr (dv tr i)).sgZ x=dA G (kD ops pre (fun g=>((tr[dv tr g]?).map bF.val).getD .bad) s0.sgZ i o) x:=fun i o j x aY=>by
  cases x with
  | tmp t=>
   refine (Hc B s0 j (t:=t) ?_).symm;simp only[Oper.looksAt,fx,List.mem_filterMap];exact .inl ⟨.tmp t,by simpa using aY,rfl⟩
  | _=>rfl
 -- the moment ahead of effect k,or the end
 have ax:∀ k,k<=(dV tr).length->∃ T,T<=tr.length/\(T=tr.length\/∃ t,tr[T]?=some t/\t.hy=true)/\(T=if k<(dV tr).length then (dV tr).getD k 0 else tr.length):=fun k hk=>by
  by_cases D:k<(dV tr).length
  ·obtain⟨t,h1,m⟩:=Ha D;exact⟨_,kp (aK.1 h1).1,.inr ⟨t,h1,m⟩,by rw[ak D]⟩
  ·exact⟨_,aN _,.inl rfl,by rw[aj D]⟩
 have I:∀ q,q<(dV tr).length->∃ t,tr[(dV tr).getD q 0]?=some t/\t.hy=true/\((tr[(dV tr).getD q 0]?).map bF.idx).getD 0=t.idx:=fun q p=>by
  obtain⟨t,h1,m⟩:=Ha p;exact⟨t,h1,m,by rw[h1];rfl⟩
 have aH:∀ (i:Nat) (o:bb) (t:bF),ops[i]?=some o->tr[dv tr i]?=some t->t.idx=i->t.hy=false->∀ k,tI pre (dV tr).length (fun q=>((tr[(dV tr).getD q 0]?).map bF.idx).getD 0) i k->
   Bg P G ops (fk ops s0 tr (dv tr i)) (fk ops s0 tr (if k<(dV tr).length then (dV tr).getD k 0 else tr.length)).h t:=by
  intro i o t j ah aG aT k ad;obtain⟨aS,aP,aQ⟩:=ad;obtain⟨T,az,ao,C⟩:=ax k aS;rw[<-C];have a8:dv tr i<tr.length:=(aK.1 ah).1;have aU:dv tr i<T:=by
   by_cases D:k<(dV tr).length
   ·rw[ak D] at C;obtain⟨a0,h1,m,w⟩:=I k D;rw[<-C] at h1;rcases o8 (dv tr i) T with h | h | h
    ·exact h
    ·rw[h,h1] at ah;cases ah;rw[aT] at m;cases m
    ·have Q:=B.eager T (dv tr i) a0 t h1 ah h m;have:=aP k D (by (try simp only);rw[w,<-aG];exact Q);omega
   ·rw[aj D] at C;omega
  refine X.still T ao _ t aU ah (fun bg W a6 aF aO=>?_);obtain⟨q,p,ag⟩:=yv (y8.2 ⟨W,aF,aO⟩);obtain⟨bh,h1,m,w⟩:=I q p;rw[ag,aF] at h1;cases h1;have a9:q<k:=by
   by_cases D:k<(dV tr).length
   ·rw[ak D] at C;rcases fE q k with h | h
    ·exact h
    ·rcases Fl h with h | h
     ·subst h;omega
     ·have:=qD (tr:=tr) h p;omega
   ·omega
  cases aE:pre W.idx t.idx with
  | false=>rfl
  | true=>
   have:=aQ q p (by (try simp only);rw[w,<-aG];exact aE);omega
 refine c8.draw pre (fun g=>((tr[dv tr g]?).map bF.val).getD .bad) (fun g=>((tr[dv tr g]?).map fun t=>!t.pz).getD false) (fun g=>((tr[dv tr g]?).map bF.cls).getD .pure) (dV tr).length
  (fun q=>((tr[(dV tr).getD q 0]?).map bF.idx).getD 0) (fun k=>(fk ops s0 tr (if k<(dV tr).length then (dV tr).getD k 0 else tr.length)).h) (fun q=>(fk ops s0 tr ((dV tr).getD q 0+1)).h)
  (fun g=>(fk ops s0 tr (dv tr g)).h.n) (fun g=>((tr[dv tr g]?).map bF.cs).getD []) B.Ar aL ?_ ?_ ?_ ?_ ?_ ?_ ?_ ?_ ?_ ?_ ?_ ?_ ?_ ?_ ?_
 ·-- h0
  obtain⟨T,az,ao,C⟩:=ax 0 (fR _)
  try simp only
  rw[<-C];have:=Ch (ops:=ops) (s0:=s0) (tr:=tr) T 0 F (fun r _ bc aq=>by
   obtain⟨q,p,ag⟩:=yv aq;rw[ak F] at C;rcases Fl (fR q) with h | h
   ·subst h;omega
   ·have:=qD (tr:=tr) h p;omega)
  simpa [fk] using this
 ·simp
 ·-- hσ
  funext t;rw[K8 B s0 _ (aN _)];cases O:hZ ops t with
  | none=>rfl
  | some g=>
   obtain⟨o,j,_⟩:=sU O;obtain⟨bi,h1,_⟩:=so B ((ij.1 j).1);simp only;rw[ak ((aK.1 h1).1)]
 ·-- heff
  intro i o j K v;obtain⟨t,h1,m,_⟩:=gI i o j;simp only[h1,cz,g6] at v;have Q:t.hy=true:=by cases t<;>simp_all [bF.cls,bF.hy]
  obtain⟨q,p,ag⟩:=yv (y8.2 ⟨t,h1,Q⟩);exact⟨q,p,by rw[ag,h1];exact m⟩
 ·-- heff'
  intro q p;obtain⟨t,h1,m,w⟩:=I q p;refine⟨ops[t.idx]'(B.zV _ _ h1),by rw[w];simp[B.zV _ _ h1],?_,?_⟩
  ·simp only[zB B h1,h1,cz,g6];cases t<;>simp_all [bF.pz,bF.hy]
  ·simp only[zB B h1,h1,cz,g6];cases t<;>simp_all [bF.cls,bF.hy]
 ·-- hord
  intro q kQ p U D;obtain⟨t,h1,m,w⟩:=I q p;obtain⟨W,H,al,am⟩:=I kQ U;simp only[w,am];exact B.eager _ _ t W h1 H (qD D U) m
 ·-- hinj
  intro q kQ p U Q;obtain⟨t,h1,m,w⟩:=I q p;obtain⟨W,H,al,am⟩:=I kQ U;simp only[w,am] at Q;have:=B.inj _ _ t W h1 H Q;rcases o8 q kQ with h | h | h
  ·have:=qD (tr:=tr) h U;omega
  ·exact h
  ·have:=qD (tr:=tr) h p;omega
 ·-- hwant
  intro i o j;rw[a2 i o j];obtain⟨t,h1,m,w⟩:=gI i o j;simp only[h1,cz,g6];cases t with
  | skip g=>obtain⟨R,u,O⟩:=w;simp only[bF.idx] at m;subst m;rw[j] at u;cases u;exact O
  | pure g z=>obtain⟨R,u,O⟩:=w;simp only[bF.idx] at m;subst m;rw[j] at u;cases u;exact O
  | new g z cs=>obtain⟨R,mk,u,O,_⟩:=w;simp only[bF.idx] at m;subst m;rw[j] at u;cases u;exact O
  | fb g z H=>obtain⟨R,u,O,_⟩:=w;simp only[bF.idx] at m;subst m;rw[j] at u;cases u;exact O
 ·-- hskip
  intro i o j K;obtain⟨t,h1,m,w⟩:=gI i o j;simp only[h1,cz,g6] at K ⊢;cases t<;>simp_all [bF.pz,bF.val]
 ·-- hpure
  intro i o j K v k ad;obtain⟨t,h1,m,w⟩:=gI i o j;simp only[h1,cz,g6] at K v;have au:=aH i o t j h1 m (by cases t<;>simp_all [bF.cls,bF.hy]) k ad;cases t with
  | pure g z=>
   simp only[bF.idx] at m;subst m;have:=au o j;rw[El _ _ (av g o j)] at this;simpa [h1,bF.val] using this
  | skip g=>simp[bF.pz] at K
  | new g z cs=>simp[bF.cls] at v
  | fb g z H=>simp[bF.cls] at v
 ·-- hnew
  intro i o j K v;obtain⟨t,h1,m,w⟩:=gI i o j;simp only[h1,cz,g6] at K v;cases t with
  | new g z cs=>
   obtain⟨R,mk,u,_,aD,aX⟩:=w;simp only[bF.idx] at m;subst m;rw[j] at u;cases u;rw[Tb _ (av g o j)] at aD;refine⟨mk,by simpa [h1,bF.cs] using aD,by simpa [h1,bF.val] using aX,?_,fun k ad=>?_⟩
   ·have a5:dv tr g<=tr.length:=kp (aK.1 h1).1;have:=wF X (dv tr g) 0 F;simpa [fk] using this
   ·have au:=aH g o _ j h1 rfl rfl k ad;simpa [Bg,h1,bF.cs] using au
  | skip g=>simp[bF.pz] at K
  | pure g z=>simp[bF.cls] at v
  | fb g z H=>simp[bF.cls] at v
 ·-- hbid
  intro i g o R j u a3 a4 aI aJ aA;have ay:∀ (i:Nat) (o:bb),ops[i]?=some o->((tr[dv tr i]?).map bF.cls).getD .pure=.new->∀ V,dv tr i<V->V<=tr.length->(fk ops s0 tr (dv tr i)).h.n<(fk ops s0 tr V).h.n:=by
   intro i o j v V aE a7;obtain⟨t,h1,m,_⟩:=gI i o j;simp only[h1,cz,g6] at v;have S:=wF X (V - (dv tr i+1)) (dv tr i+1) F;rw[show dv tr i+1+(V - (dv tr i+1))=V by omega,uG h1] at S;cases t with
   | new g z cs=>simp only[jC,mP,jl] at S;omega
   | skip g=>simp[bF.cls] at v
   | pure g z=>simp[bF.cls] at v
   | fb g z H=>simp[bF.cls] at v
  obtain⟨t,h1,m,_⟩:=gI i o j;obtain⟨W,H,al,_⟩:=gI g R u;have aC:=(aK.1 h1).1;have ap:=(aK.1 H).1;rcases o8 (dv tr i) (dv tr g) with h | h | h
  ·have:=ay i o j aI _ h (kp ap);(try simp only at aA);omega
  ·rw[h,H] at h1;cases h1;rw[<-m,<-al]
  ·have:=ay g R u aJ _ h (kp aC);(try simp only at aA);omega
 ·-- hbid'
  intro i o q j K v p;obtain⟨t,h1,m,_⟩:=gI i o j;obtain⟨aw,J,Y,ai⟩:=I q p;simp only[h1,cz,g6] at v;have aC:=(aK.1 h1).1;have ap:=(aK.1 J).1;simp only[ak p];rcases o8 (dv tr i) ((dV tr).getD q 0) with h | h | h
  ·left;have S:=wF X ((dV tr).getD q 0 - (dv tr i+1)) (dv tr i+1) F;rw[show dv tr i+1+((dV tr).getD q 0 - (dv tr i+1))=(dV tr).getD q 0 by omega,uG h1] at S;cases t with
   | new g z cs=>simp only[jC,mP,jl] at S;omega
   | skip g=>simp[bF.cls] at v
   | pure g z=>simp[bF.cls] at v
   | fb g z H=>simp[bF.cls] at v
  ·rw[h,J] at h1;cases h1;cases t<;>simp_all [bF.cls,bF.hy]
  ·right;have S:=wF X (dv tr i - ((dV tr).getD q 0+1)) ((dV tr).getD q 0+1) F
   rwa [show (dV tr).getD q 0+1+(dv tr i - ((dV tr).getD q 0+1))=dv tr i by omega] at S
 ·-- hgrow
  intro q p;obtain⟨aw,J,Y,ai⟩:=I q p;have ap:=(aK.1 J).1;obtain⟨T,az,ao,C⟩:=ax (q+1) F
  try simp only
  rw[<-C];have D:(dV tr).getD q 0<T:=by
   by_cases h:q+1<(dV tr).length
   ·rw[ak h] at C;have:=qD (tr:=tr) (show q<q+1 by omega) h;omega
   ·rw[aj h] at C;omega
  have:=Ch (ops:=ops) (s0:=s0) (tr:=tr) (T - ((dV tr).getD q 0+1)) ((dV tr).getD q 0+1) F (fun r bd bf aq=>by
   obtain⟨kQ,U,ag⟩:=yv aq;have aV:q<kQ:=by
    rcases o8 q kQ with h | h | h
    ·exact h
    ·subst h;omega
    ·have:=qD (tr:=tr) h p;omega
   by_cases h:q+1<(dV tr).length
   ·rw[ak h] at C;rcases Fl (show q+1<=kQ from aV) with h' | h'
    ·subst h';omega
    ·have:=qD (tr:=tr) h' U;omega
   ·omega)
  rwa [show (dV tr).getD q 0+1+(T - ((dV tr).getD q 0+1))=T by omega] at this
 ·-- hcall
  intro q o p j;obtain⟨aw,J,Y,ai⟩:=I q p;have ar:=zB B J;simp only[ai] at j ⊢;have aW:=X.step _ _ J;cases aw with
  | fb g z h1=>
   obtain⟨R,u,_,Q,_⟩:=aW;simp only[bF.idx] at j ar ⊢;rw[j] at u;cases u;have aB:=av g o j;rw[ar] at aB;have:=Qs aB Q;simp only[ar,J,ak p,cz,g6,bF.val];rw[uG J];exact this
  | skip g=>simp[bF.hy] at Y
  | pure g z=>simp[bF.hy] at Y
  | new g z cs=>simp[bF.hy] at Y
end
abbrev NN:=cB U
def look (s:NN) (t:Nat) :U:=match s.get t with | some g=>g | none=>fC
def uM (m i:Nat) :Bool:=Nat.testBit m i
def qC (g:List Nat) :List Edge->Nat
 | []=>0
 | e::h=>match Region.binds .any e with
  | true=>Nat.lor (Nat.lor (2 ^ e.on) (g.getD e.on 0)) (qC g h)
  | false=>qC g h
def ID (g:List Nat) :List bb->List Nat
 | []=>g
 | h::j=>ID (g++[qC g h.after.toList]) j
def gZ (ops:Array bb) :List Nat:=ID [] ops.toList
def mc (g:List Nat) (i j:Nat) :Bool:=uM (g.getD i 0) j
def iq:Op->Bool
 | .move _ | .assign _ | .pick .. | .alloc _ | .box .. | .build .. | .buildSlice .. | .load .. | .nilCheck _ | .binOp .. | .unOp .. | .convert .. | .makeInterface .. | .makeFunc .. | .makeSlice .. | .slice .. | .fieldAddr .. | .field .. | .indexAddr .. | .index .. | .extract ..=>false
 | .call c=>match c.callee with
  | .builtin .len | .builtin .cap | .builtin .min | .builtin .max=>false
  | _=>true
 | _=>true
def Dq (done:Nat) (fb:Bool) :Nat->List Nat->List bb->Option Nat
 | i,g::h,j::m=>match !uM done i&&Nat.beq (Nat.land g done) g&&(iq j.op == fb) with
  | true=>some i
  | false=>Dq done fb (i+1) h m
 | _,_,_=>none
def D6 (g:List Nat) (os:List bb) :Nat->Nat->List Nat
 | 0,_=>[]
 | k+1,done=>match Dq done false 0 g os with
  | some i=>i::D6 g os k (Nat.lor done (2 ^ i))
  | none=>match Dq done true 0 g os with
   | some i=>i::D6 g os k (Nat.lor done (2 ^ i))
   | none=>[]
def eC (g:List Nat) (ops:Array bb) :List Nat:=D6 g ops.toList ops.size 0
def g8 (p:Nat->bb->Bool) :Nat->List bb->Bool
 | _,[]=>true
 | i,g::h=>p i g&&g8 p (i+1) h
theorem FM {p:Nat->bb->Bool}:∀ (l:List bb) (i:Nat),g8 p i l=true->∀ (j:Nat) (o:bb),l[j]?=some o->p (i+j) o=true
 | [],i,_,j,o,h=>by simp at h
 | x::l,i,h,j,o,g=>by
  simp only[g8,bU] at h;cases j with
  | zero=>simp only[hn,bc] at g;subst g;exact h.1
  | succ j=>
   simp only[jr] at g;have:=FM l (i+1) h.2 j o g
   rwa [show i+1+j=i+(j+1) by omega] at this
def BP (t:Nat) (o:bb) :Bool:=match o.dst with | some d=>Nat.beq d t | none=>false
def sT (t:Nat) :Nat->List bb->Option Nat
 | _,[]=>none
 | i,g::h=>match BP t g with
  | true=>some i
  | false=>sT t (i+1) h
def BN (h:List Nat) (ops:Array bb) :Bool:=
 g8 (fun i j=>
  Nat.beq (h.getD i 0) (qC h j.after.toList) &&
  (j.after.toList.all fun e=>!Region.binds .any e||Nat.blt e.on i) &&
  (match j.dst with | some d=>(match sT d 0 ops.toList with | some g=>Nat.beq g i | none=>false) | none=>true) &&
  ((j.looksAt ops).all fun m=>match sT m 0 ops.toList with | some g=>mc h i g||mc h g i||Nat.beq g i | none=>true)) 0 ops.toList &&
 Region.noSelect ops
def zq (h:List Nat) :List Nat->Bool
 | []=>true
 | i::r=>(r.all fun g=>!Nat.beq i g&&!mc h i g)&&zq h r
def Dg (h:List Nat) (ops:Array bb) (g:List Nat) :Bool:=
 BN h ops&&zq h g&&Nat.beq g.length ops.size&&(g.all fun i=>Nat.blt i ops.size)&&(List.range ops.size).all fun i=>g.contains i
section
variable (P:bq) (G:Nat->U)
end
theorem BR (ms:List Nat) (j:Nat) :∀ (es:List Edge),uM (qC ms es) j=true->∃ e∈es,Region.binds .any e=true/\(e.on=j\/mc ms e.on j=true)
 | [],h=>by simp[qC,uM] at h
 | e::es,h=>by
  unfold qC at h;cases g:Region.binds .any e with
  | false=>
   rw[g] at h;obtain⟨m,h1,o⟩:=BR ms j es h;exact⟨m,AX _ h1,o⟩
  | true=>
   rw[g] at h;simp only[uM] at h;have h' : Nat.testBit ((2 ^ e.on ||| ms.getD e.on 0) ||| qC ms es) j=true:=h;rw[Nat.testBit_or,Nat.testBit_or,rr,rr,Nat.testBit_two_pow] at h';rcases h' with (h' | h') | h'
   ·exact⟨e,Fc,g,.inl (by simpa using h')⟩
   ·exact⟨e,Fc,g,.inr h'⟩
   ·obtain⟨m,h1,o⟩:=BR ms j es h';exact⟨m,AX _ h1,o⟩
theorem Mx (t:Nat) :∀ (l:List bb) (i:Nat),sT t i l=((List.range l.length).find? fun j=>match l[j]? with | some o=>o.dst == some t | none=>false).map (·+i)
 | [],i=>by simp[sT]
 | o::l,i=>by
  unfold sT;have g:BP t o=(o.dst == some t):=by
   unfold BP;cases o.dst with
   | none=>rfl
   | some d=>
    by_cases h:d=t
    ·subst h;simp
    ·have:Nat.beq d t=false:=ix h;simp[this,h]
  rw[g,dN,List.range_succ_eq_map,AR];simp only[hn];cases m:(o.dst == some t) with
  | true=>simp
  | false=>
   simp only[List.find?_map];rw[Mx t l (i+1)];have:((fun j=>match (o::l)[j]? with | some o=>o.dst == some t | none=>false) ∘ Nat.succ)=fun j=>match l[j]? with | some o=>o.dst == some t | none=>false:=by
    funext j;simp
   rw[this];cases (List.range l.length).find? (fun j=>match l[j]? with | some o=>o.dst == some t | none=>false) with
   | none=>rfl
   | some j=>simp;omega
theorem Mw (ops:Array bb) (t:Nat) :sT t 0 ops.toList=hZ ops t:=by
 rw[Mx];unfold hZ;simp only[p5,rm,na,Option.map_id_fun',id_eq]
 all_goals congr 1
theorem P2 {q:List Nat} {ops:Array bb} (h:BN q ops=true) :o9 ops (mc q):=by
 unfold BN at h;rw[bU] at h;obtain⟨h,D⟩:=h;have m:∀ (i:Nat) (g:bb),ops[i]?=some g->_:=fun i g j=>FM _ 0 h i g (by simpa using j)
 simp only[hJ,bU] at m;refine⟨fun i g e j B w=>?_,fun i g p j C=>?_,fun i g t j z=>?_,fun i g t p j F o=>?_,D⟩
 ·have:=(m i g j).1.1.2;rw[gc] at this;have:=this e (by simpa using B);rw[w] at this;simp only[u0,AK] at this;simpa [A5] using this
 ·have:=iw (m i g j).1.1.1;have u:uM (q.getD i 0) p=true:=C;rw[this] at u;obtain⟨e,h1,v⟩:=BR q p _ u;exact⟨e,by simpa using h1,v⟩
 ·have:=(m i g j).1.2;rw[z] at this;simp only at this;rw[Mw] at this;cases o:hZ ops t with
  | none=>rw[o] at this;cases this
  | some p=>rw[o] at this;simp only at this;rw[iw this]
 ·have:=(m i g j).2;rw[gc] at this;have:=this t F;rw[Mw,o] at this;simp only[rr] at this;rcases this with (h1 | h1) | h1
  ·exact .inl h1
  ·exact .inr (.inl h1)
  ·exact .inr (.inr (iw h1))
theorem zs {q:List Nat}:∀ {l:List Nat},zq q l=true->∀ (p g:Nat) (i j:Nat),l[p]?=some i->l[g]?=some j->p<g->i≠j/\mc q i j=false
 | [],_,p,g,i,j,m,_,_=>by simp at m
 | x::l,h,p,g,i,j,m,o,u=>by
  simp only[zq,bU,gc] at h;cases g with
  | zero=>omega
  | succ g=>
   simp only[jr] at o;cases p with
   | zero=>
    simp only[hn,bc] at m;subst m;have:=h.1 j (cJ o);simp only[uZ] at this;refine⟨fun t=>?_,this.2⟩;subst t;rw[pI rfl] at this;cases this.1
   | succ p=>
    simp only[jr] at m;exact zs h.2 p g i j m o F
section
variable {P:bq} {G:Nat->U}
theorem Ae {ops:Array bb} {s0:jU} {t:bF} {tr:List bF} (p:Nat) :fk ops s0 (t::tr) (p+1)=fk ops (jC ops s0 t) tr p:=by simp[fk]
end
section
variable {P:bq} {G:Nat->U}
theorem us (w:aT) (R:Nat->Prop) (j:∀ k,w.heap.size<=k->R k) :bC R w.heap.size w aM.empty (fun _=>none) where
 blk:=fun b h m=>by cases m
 inj:=fun b o h p g=>by rw[yw] at g;cases g
 base:=fun b h g=>by rw[yw] at g;cases g
 fresh:=fun b _=>yw b
 up:=j
 size:=aN _
 iX:=fun b _=>rfl
theorem mQ (muZ:b3) (k:Nat) :¬ Own aM.empty muZ k:=by rintro⟨b,h,g,_⟩;rw[yw] at g;cases g
theorem EC (B:P.follows .mixedOrders=true) (m:∀ g,(G g).ar=true) {f:cj} {args:ag} {r:U} {h' : aM} (p:c8 P G (.call f args aM.empty r h'))
  {w:aT} {A:Nat->Prop} {vs:Array aD} (q:∀ g,dg w A (G g) (.pointer (some ⟨g,0,none⟩))) (z:vs.size=args.length)
  (D:∀ (j:Nat) (c:U) (v:aD),args[j]?=some c->vs[j]?=some v->dg w A c v) :
  Calls P f vs w fun e w'=>∃ v muZ',e=.returned v/\ew w w'/\bC (fun k=>A k\/w.heap.size<=k) w.heap.size w' h' muZ'/\aA w' (fun k=>A k\/w.heap.size<=k) h' muZ' r v:=by
 have up:∀ {c:U} {v:aD},dg w A c v->aA w (fun k=>A k\/w.heap.size<=k) aM.empty (fun _=>none) c v:=fun o=>o.up (fun k _ hk=>⟨.inl hk,mQ _ k⟩)
 refine (sH B m p (fun k=>A k\/w.heap.size<=k) w.heap.size w (fun _=>none) vs (us w _ fun k hk=>.inr hk) (fun g=>⟨m g,up (q g)⟩) z (fun j c v t u=>up (D j c v t u))).mono ?_;rintro e w' ⟨v,muZ',rfl,h,rel,C⟩;exact⟨v,muZ',rfl,⟨⟨h.os,h.tape,h.output,h.size,fun k hk=>h.bm k hk (mQ _ k)⟩,h.drawn⟩,rel,C⟩
theorem XG (t:P.follows .mixedOrders=true) (h:∀ g,(G g).ar=true) {f:cj} {args:ag} {h' : aM} (o:c8 P G (.call f args aM.empty (.bool true) h'))
  {w:aT} {A:Nat->Prop} {vs:Array aD} (p:∀ g,dg w A (G g) (.pointer (some ⟨g,0,none⟩))) (q:vs.size=args.length)
  (z:∀ (j:Nat) (c:U) (v:aD),args[j]?=some c->vs[j]?=some v->dg w A c v) :
  Calls P f vs w fun e w'=>e=.returned (.bool true)/\RowKit.Below w.heap.size w w':=by refine (EC t h o p q z).mono ?_;rintro e w' ⟨v,muZ',rfl,m,_,u⟩;cases u;exact⟨rfl,m.toBelow⟩
def Fx:Nat->U:=fun _=>.bad
end
section
variable {alZ:Type}
theorem q6:∀ (k k' : Nat) (t:cB alZ) (n:Nat) (x:alZ),n<k->n<k'->t.iG k n x=t.iG k' n x
 | 0,_,_,_,_,h,_=>F
 | _+1,0,_,_,_,_,h=>F
 | k+1,k'+1,t,n,x,h,h'=>by
  by_cases g:n=0
  ·subst g;cases t<;>rfl
  ·have j:Nat.beq n 0=false:=ix g;cases t with
   | nil=>
    unfold cB.iG;simp only[j];rw[q6 k k' .nil (n / 2) x F F,q6 k k' .nil (n / 2 - 1) x F F]
   | node l m r=>
    unfold cB.iG;simp only[j];rw[q6 k k' l (n / 2) x F F,q6 k k' r (n / 2 - 1) x F F]
def cB.lt:cB alZ->cB alZ | .nil=>.nil | .node l _ _=>l
def cB.rt:cB alZ->cB alZ | .nil=>.nil | .node _ _ r=>r
def cB.mid:cB alZ->Option alZ | .nil=>none | .node _ v _=>v
theorem nO (t:cB alZ) (x:alZ) :t.set 0 x=.node t.lt (some x) t.rt:=by cases t<;>rfl
theorem kU (t:cB alZ) (m:Nat) (x:alZ) :t.set (2*m+1) x=.node (t.lt.set m x) t.mid t.rt:=by
 have h1:Nat.beq (2*m+1) 0=false:=ix F;have g:Nat.beq ((2*m+1) % 2) 1=true:=pI F;have h:(2*m+1) / 2=m:=F;cases t with
 | nil=>show cB.iG (2*m+1+1) .nil (2*m+1) x=_;unfold cB.iG;simp only[h1,g,h];rw[q6 _ (m+1) _ _ _ F F];rfl
 | node l j r=>show cB.iG (2*m+1+1) (.node l j r) (2*m+1) x=_;unfold cB.iG;simp only[h1,g,h];rw[q6 _ (m+1) _ _ _ F F];rfl
theorem kT (t:cB alZ) (m:Nat) (x:alZ) :t.set (2*m+2) x=.node t.lt t.mid (t.rt.set m x):=by
 have h1:Nat.beq (2*m+2) 0=false:=ix F;have g:Nat.beq ((2*m+2) % 2) 1=false:=ix F;have h:(2*m+2) / 2 - 1=m:=F;cases t with
 | nil=>show cB.iG (2*m+2+1) .nil (2*m+2) x=_;unfold cB.iG;simp only[h1,g,h];rw[q6 _ (m+1) _ _ _ F F];rfl
 | node l j r=>show cB.iG (2*m+2+1) (.node l j r) (2*m+2) x=_;unfold cB.iG;simp only[h1,g,h];rw[q6 _ (m+1) _ _ _ F F];rfl
theorem CY (n:Nat) :n=0\/(∃ m,m<n/\n=2*m+1)\/∃ m,m<n/\n=2*m+2:=by
 rcases Nat.eq_zero_or_pos n with h | h
 ·exact .inl h
 ·rcases Nat.mod_two_eq_zero_or_one n with g | g
  ·exact .inr (.inr ⟨n / 2 - 1,F,F⟩)
  ·exact .inr (.inl ⟨n / 2,F,F⟩)
theorem WM (n:Nat) :∀ (t:cB alZ) (x y:alZ),(t.set n x).set n y=t.set n y:=by
 induction n using Nat.strongRecOn with
 | _ n j=>
  intro t x y;rcases CY n with rfl | ⟨h,g,rfl⟩ | ⟨h,g,rfl⟩
  ·rw[nO t x,nO t y,nO];rfl
  ·rw[kU t,kU t,kU];simp only[cB.lt,cB.mid,cB.rt,j h g]
  ·rw[kT t,kT t,kT];simp only[cB.lt,cB.mid,cB.rt,j h g]
theorem set_comm (n:Nat) :∀ (t:cB alZ) (k:Nat) (x y:alZ),n≠k->(t.set n x).set k y=(t.set k y).set n x:=by
 induction n using Nat.strongRecOn with
 | _ n m=>
  intro t k x y p;rcases CY n with rfl | ⟨j,g,rfl⟩ | ⟨j,g,rfl⟩<;>rcases CY k with rfl | ⟨h,o,rfl⟩ | ⟨h,o,rfl⟩
  ·exact bW rfl p
  ·rw[nO t,kU,kU t,nO];rfl
  ·rw[nO t,kT,kT t,nO];rfl
  ·rw[kU t,nO,nO t,kU];rfl
  ·rw[kU t,kU,kU t,kU];simp only[cB.lt,cB.mid,cB.rt];rw[m j g _ h _ _ F]
  ·rw[kU t,kT,kT t,kU];rfl
  ·rw[kT t,nO,nO t,kT];rfl
  ·rw[kT t,kU,kU t,kT];rfl
  ·rw[kT t,kT,kT t,kT];simp only[cB.lt,cB.mid,cB.rt];rw[m j g _ h _ _ F]
end
abbrev ad:=List ao
def kI:Nat->cB ao->ad->cB ao
 | _,g,[]=>g
 | i,g,c::cs=>kI (i+1) (g.set i c) cs
def aZ (l:ad) :aM:=⟨l.length,kI 0 .nil l⟩
@[simp] theorem Bd (l:ad) :(aZ l).n=l.length:=rfl
theorem HV:∀ (l:ad) (i:Nat) (t:cB ao) (c:ao),kI i t (l++[c])=(kI i t l).set (i+l.length) c
 | [],i,t,c=>rfl
 | x::l,i,t,c=>by
  simp only[iK,kI,dN];rw[HV l,show i+1+l.length=i+(l.length+1) by omega]
theorem lN (l:ad) (c:ao) :(aZ l).push c=aZ (l++[c]):=by unfold aZ aM.push;rw[HV];simp
theorem HY:∀ (l:ad) (i j:Nat) (t:cB ao) (c:ao),i<j->(kI j t l).set i c=kI j (t.set i c) l
 | [],_,_,_,_,_=>rfl
 | x::l,i,j,t,c,h=>by
  simp only[kI];rw[HY l i (j+1) _ c F,set_comm j t i x c F]
theorem HX:∀ (l:ad) (i b:Nat) (t:cB ao) (c:ao),b<l.length->(kI i t l).set (i+b) c=kI i t (l.set b c)
 | [],_,_,_,_,h=>by simp at h
 | x::l,i,0,t,c,_=>by
  simp only[kI,s6,na];rw[HY l i (i+1) _ c F,WM]
 | x::l,i,b+1,t,c,h=>by
  simp only[kI,xM];rw[<-HX l (i+1) b _ c (by simpa using h),show i+(b+1)=i+1+b by omega]
theorem mu {l:ad} {b:Nat} (c:ao) (h:b<l.length) :(aZ l).set b c=aZ (l.set b c):=by unfold aZ aM.set;have:=HX l 0 b .nil c h;rw[hJ] at this;simp only[this,km]
theorem HW:∀ (l:ad) (i:Nat) (t:cB ao) (b:Nat),(kI i t l).get b=if i<=b/\b<i+l.length then l[b - i]? else t.get b
 | [],i,t,b=>by simp only[kI,hq];rw[aj F]
 | x::l,i,t,b=>by
  simp only[kI,dN];rw[HW l,cB.Cf];by_cases h1:i+1<=b/\b<i+1+l.length
  ·rw[ak h1,ak F,show b - i=(b - (i+1))+1 by omega,jr]
  ·rw[aj h1];by_cases g:b=i
   ·subst g;rw[ak rfl,ak F];simp
   ·rw[aj g,aj F]
theorem jT (l:ad) (b:Nat) :(aZ l).f b=match l[b]? with | some c=>c | none=>.none:=by
 unfold aZ aM.f;simp only[HW,fR,true_and,hJ,vd];by_cases h:b<l.length
 ·rw[ak h];cases l[b]?<;>rfl
 ·rw[aj h,dY F];rfl
theorem hK {l:ad} {b n:Nat} {cs:ag}:(aZ l).f b=.cells n cs<->l[b]?=some (.cells n cs):=by
 rw[jT];cases h:l[b]? with
 | none=>simp
 | some c=>simp
theorem aX {l:ad} {b:Nat} {c:ao} (h:l[b]?=some c) :b<l.length:=(aK.1 h).1
end Go.bl

/-
  The canonical machine, part K: running code.
-/
import Derived.Test.YtdjbnhgdhambnaaGreatDoorWb
import Derived.Orders
import Derived.Still
import Derived.Scope
import Derived.LoopN
import Derived.ProofKit
set_option maxHeartbeats 16000000
set_option maxRecDepth 100000
set_option linter.unusedVariables false
set_option linter.unusedSimpArgs false
set_option linter.unnecessarySimpa false
namespace Go.bh
open Go
inductive qi where
 | normal
 | exit (id:Nat)
 | ret
def qi.out:qi->Exit
 | .normal=>.normal
 | .exit id=>.exit id
 | .ret=>.ret
def iC (ops:Array bb) (sgZ:Nat->U) (o:bb) :Option Bool:=
 match o.guard with
 | none=>some true
 | some (g,h)=>match (ops[g]?).bind (·.dst) with
  | none=>some false
  | some d=>match sgZ d with
   | .bool b=>some (b == h)
   | .bad=>none
   | _=>some false
def gG (sgZ:Nat->U) (g:Option Tmp) (c:U) :Nat->U:=match g with | some d=>bm sgZ d c | none=>sgZ
def hN (N:Nat) (g:Option Tmp) :Bool:=match g with | some d=>decide (d<N) | none=>true
def uL (P:bj) (h:aH) (sgZ:Nat->U) :ResultVar->Option U
 | .tmp g=>some (sgZ g)
 | .cell a g=>oE P h g (sgZ a)
def q5 (P:bj) (h:aH) (sgZ:Nat->U) :List ResultVar->Option (ag)
 | []=>some []
 | r::g=>match uL P h sgZ r,q5 P h sgZ g with
  | some j,some m=>some (j::m)
  | _,_=>none
def sR:ag->U
 | [g]=>g
 | h=>.a1 h
def uK (P:bj) (h:aH) (sgZ:Nat->U) (fn:Func) :Option U:=(q5 P h sgZ fn.results.toList).map sR
mutual
def U.aw:U->Bool
 | .ah cs=>aq cs
 | .a1 cs=>aq cs
 | .b0 cs _=>aq cs
 | .bn _ g=>oe g
 | .fn _ a b=>aq a&&aq b
 | .gc _ h=>h.aw
 | .ptr .. | .ad .. | .mp _ | .it _=>false
 | _=>true
def aq:ag->Bool
 | []=>true
 | c::cs=>c.aw&&aq cs
def oe:List (ag)->Bool
 | []=>true
 | c::cs=>aq c&&oe cs
end
def dd (w:aQ) (A:Nat->Prop) (c:U) (v:aA) :Prop:=az w A aH.empty (fun _=>none) c v
structure eD (w w' : aQ) :Prop extends RowKit.Below w.heap.size w w' where
 drawn:w.drawn<=w'.drawn
def jN (G:Nat->U) (w:aQ) (R:Nat->Prop) (h:aH) (muZ:bZ) :Prop:=∀ g,(G g).aw=true/\az w R h muZ (G g) (.pointer (some ⟨g,0,none⟩))
def jM (P:bj) (G:Nat->U) (f:cf) (args:ag) (h:aH) (r:U) (h' : aH) :Prop:=
 ∀ (g:Nat->Prop) (B:Nat) (w:aQ) (muZ:bZ) (m:Array aA),bw g B w h muZ->jN G w g h muZ->m.size=args.length->
  (∀ (o:Nat) (c:U) (j:aA),args[o]?=some c->m[o]?=some j->az w g h muZ c j)->
  Calls P f m w fun e w'=>∃ j muZ',e=.returned j/\cS w h muZ w' h' muZ'/\bw g B w' h' muZ'/\az w' g h' muZ' r j
def ii (P:bj) (G:Nat->U) (f:cf) (args:ag) (r:U) :Prop:=
 ∀ (w:aQ) (A:Nat->Prop) (h:Array aA),(∀ j,dd w A (G j) (.pointer (some ⟨j,0,none⟩)))->h.size=args.length->
  (∀ (m:Nat) (c:U) (g:aA),args[m]?=some c->h[m]?=some g->dd w A c g)->
  Calls P f h w fun e w'=>∃ g,e=.returned g/\eD w w'/\dd w' (fun k=>A k\/w.heap.size<=k) r g
def nh (P:bj) (G:Nat->U) (f:cf) (args:ag) (r:U) :Prop:=
 ∀ (w:aQ) (A:Nat->Prop) (h:Array aA),(∀ j,dd w A (G j) (.pointer (some ⟨j,0,none⟩)))->h.size=args.length->
  (∀ (m:Nat) (c:U) (g:aA),args[m]?=some c->h[m]?=some g->dd w A c g)->
  Calls P f h w fun e w'=>∃ g,e=.returned g/\eD w w'/\dd w' (fun k=>w.heap.size<=k) r g
inductive fw (h:aH) :U->U->Prop
 | same (c:U) (z:c.aw=true) :fw h c c
 | ah (cs j:ag) (u:j.length=cs.length) (v:∀ (m:Nat) (c g:U),cs[m]?=some c->j[m]?=some g->fw h c g) :fw h (.ah cs) (.ah j)
 | a1 (cs j:ag) (u:j.length=cs.length) (v:∀ (m:Nat) (c g:U),cs[m]?=some c->j[m]?=some g->fw h c g) :fw h (.a1 cs) (.a1 j)
 | ad (p b o len cap q:Nat) (cs:ag) (t:List (ag)) (w:h.f b=.cells q cs) (u:t.length=len) (C:∀ e∈t,e.length=p)
   (B:o+len*p<=cs.length)
   (v:∀ (i m:Nat) (e:ag) (c g:U),t[i]?=some e->e[m]?=some g->cs[o+(i*p+m)]?=some c->fw h c g) :fw h (.ad p b o len cap q) (.bn p t)
 | sK (p b o cap q:Nat) :fw h (.ad p b o 0 cap q) (.bn p [])
 | ptr (b o q:Nat) (cs j:ag) (w:h.f b=.cells q cs) (u:j.length=cs.length) (v:∀ (m:Nat) (c g:U),cs[m]?=some c->j[m]?=some g->fw h c g) :fw h (.ptr b o q) (.b0 j o)
mutual
def U.flat:U->Bool
 | .ah cs=>ky cs
 | .a1 cs=>ky cs
 | .gc _ g=>g.flat
 | .bool _ | .int .. | .str _ | .iu | .af | .g0 | .h6 | .hS=>true
 | _=>false
def ky:ag->Bool
 | []=>true
 | c::cs=>c.flat&&ky cs
end
inductive x1 where
 | pure | new | fh
def kG (P:bj) (j:aW->U) :Op->Option (ag × (Nat->U))
 | .alloc h=>(gd P h).map fun g=>(g,fun b=>.ptr b 0 g.length)
 | .box _ x=>(j x).cells.map fun cs=>(cs,fun b=>.ptr b 0 cs.length)
 | .buildSlice h len parts=>match gm P h with
  | some e=>match b5 P e,gd P e with
   | some g,some zero=>if zero.length=g/\len*g<=16777216 then
     (ew (fun i=>some (i*g,g)) (cD zero len) (parts.toList.map fun m=>(m.1,j m.2))).map fun cs=>(cs,fun b=>.ad g b 0 len len (len*g))
    else none
   | _,_=>none
  | none=>none
 | .makeSlice h l c=>match gm P h,asInt (j l),asInt (j c) with
  | some e,some l,some c=>match b5 P e,gO P e,gd P e with
   | some g,some o,some zero=>
    if zero.length=g/\0<=l/\l<=c/\c<9223372036854775808/\o*c<=dk then
     some (cD zero c.toNat,fun b=>.ad g b 0 l.toNat c.toNat (c.toNat*g))
    else none
   | _,_,_=>none
  | _,_,_=>none
 | _=>none
def hY (ops:Array bb) (t:Nat) :Option Nat:=(List.range ops.size).find? fun i=>match ops[i]? with | some g=>g.dst == some t | none=>false
def kx (ops:Array bb) (pre:Nat->Nat->Bool) (val:Nat->U) (sgZ:Nat->U) (i:Nat) (o:bb) :Nat->U:=fun g=>
 if (o.looksAt ops).contains g then
  match hY ops g with
  | some h=>if pre i h then val h else sgZ g
  | none=>sgZ g
 else .bad
structure o2 (ops:Array bb) (pre:Nat->Nat->Bool) :Prop where
 vW:∀ (i:Nat) (o:bb) (e:Edge),ops[i]?=some o->e∈o.after->Region.binds .any e=true->e.on<i
 chain:∀ (i:Nat) (o:bb) (j:Nat),ops[i]?=some o->pre i j=true->∃ e∈o.after,Region.binds .any e=true/\(e.on=j\/pre e.on j=true)
 one:∀ (i:Nat) (o:bb) (t:Tmp),ops[i]?=some o->o.dst=some t->hY ops t=some i
 acc:∀ (i:Nat) (o:bb) (t:Tmp) (j:Nat),ops[i]?=some o->t∈o.looksAt ops->hY ops t=some j->pre i j=true\/pre j i=true\/j=i
 ads:Region.noSelect ops=true
def q2 (h:aH) (l:List (ag)) :aH:=l.foldl (fun h cs=>h.push (.cells cs.length cs)) h
def lH (h h' : aH) :Prop:=∃ l,h'=q2 h l
theorem Kl:∀ (l:List (ag)) (h:aH),(q2 h l).n=h.n+l.length
 | [],h=>rfl
 | c::l,h=>by
  have:=Kl l (h.push (.cells c.length c));simp only[q2,xP,dE] at this ⊢;rw[this];simp only[jc];omega
theorem Km:∀ (l:List (ag)) (h:aH) (b:Nat),b<h.n->(q2 h l).f b=h.f b
 | [],h,b,_=>rfl
 | c::l,h,b,g=>by
  have:=Km l (h.push (.cells c.length c)) b (by simp only[jc];omega);simp only[q2,xP] at this ⊢;rw[this];simp only[dY];exact bK _ _ _ _ F
theorem Kk:∀ (l:List (ag)) (h:aH),(∀ b,h.n<=b->h.f b=.none)->∀ b,(q2 h l).n<=b->(q2 h l).f b=.none
 | [],h,g=>g
 | c::l,h,g=>by
  refine Kk l (h.push (.cells c.length c)) (fun b j=>?_);simp only[dY,jc] at j ⊢;rw[bK _ _ _ _ F];exact g b F
theorem lH.n {h h' : aH} (g:lH h h') :h.n<=h'.n:=by obtain⟨l,rfl⟩:=g;rw[Kl];omega
theorem lH.same {h h' : aH} (g:lH h h') (b:Nat) (j:b<h.n) :h'.f b=h.f b:=by obtain⟨l,rfl⟩:=g;exact Km l h b j
theorem lH.fresh {h h' : aH} (g:lH h h') (j:∀ b,h.n<=b->h.f b=.none) :∀ b,h'.n<=b->h'.f b=.none:=by obtain⟨l,rfl⟩:=g;exact Kk l h j
inductive iE (h j:aH) :U->U->Prop
 | same (c:U) :iE h j c c
 | ah (cs u:ag) (v:u.length=cs.length) (w:∀ (o:Nat) (c m:U),cs[o]?=some c->u[o]?=some m->iE h j c m) :iE h j (.ah cs) (.ah u)
 | ad (g b p len cap t:Nat) (cs:ag) (q:List (ag)) (z:h.f b=.cells t cs) (B:j.f b=.dead) (v:q.length=len) (D:∀ e∈q,e.length=g)
   (C:p+len*g<=cs.length)
   (w:∀ (i o:Nat) (e:ag) (c m:U),q[i]?=some e->e[o]?=some m->cs[p+(i*g+o)]?=some c->iE h j c m) :iE h j (.ad g b p len cap t) (.bn g q)
 | sK (g b p cap t:Nat) :iE h j (.ad g b p 0 cap t) (.bn g [])
structure iF (h g:aH) :Prop where
 n:g.n=h.n
 blk:∀ b,g.f b=h.f b\/∃ sz cs,h.f b=.cells sz cs/\(g.f b=.dead\/∃ m,g.f b=.cells sz m/\m.length=cs.length/\∀ (j:Nat) (c yg:U),cs[j]?=some c->m[j]?=some yg->iE h g c yg)
inductive J where
 | code (c:Code) (N:Nat) (g:Nat->U) (h:aH) (e:qi) (j:Nat->U) (h' : aH)
 | ops (all:Array bb) (l:List bb) (N:Nat) (g:Nat->U) (h:aH) (j:Nat->U) (h' : aH)
 | op (op:Op) (g:Nat->U) (h:aH) (m:U) (h' : aH)
 | call (f:cf) (args:ag) (h:aH) (r:U) (h' : aH)
def tV (pre:Nat->Nat->Bool) (m:Nat) (g:Nat->Nat) (i k:Nat) :Prop:=k<=m/\(∀ q,q<m->pre i (g q)=true->q<k)/\∀ q,q<m->pre (g q) i=true->k<=q
inductive cZ (P:bj) (G:Nat->U) :J->Prop where
 | skip (N g h) :cZ P G (.code .skip N g h .normal g h)
 | label (l N g h) :cZ P G (.code (.label l) N g h .normal g h)
 | ret (N g h) :cZ P G (.code .ret N g h .ret g h)
 | exit (id N g h) :cZ P G (.code (.exit id) N g h (.exit id) g h)
 | Lu {a b N g h D h1 e m h'}:cZ P G (.code a N g h .normal D h1)->cZ P G (.code b N D h1 e m h')->cZ P G (.code (.seq a b) N g h e m h')
 | Eg {a b N g h e m h'}:cZ P G (.code a N g h e m h')->e≠.normal->cZ P G (.code (.seq a b) N g h e m h')
 | cond {c x y N g h b e m h'}:dv G g c=.bool b->cZ P G (.code (if b then x else y) N g h e m h')->cZ P G (.code (.cond c x y) N g h e m h')
 | yc {id c N g h e m h'}:cZ P G (.code c N g h e m h')->e≠.exit id->cZ P G (.code (.block id c) N g h e m h')
 | Gl {id c N g h m h'}:cZ P G (.code c N g h (.exit id) m h')->cZ P G (.code (.block id c) N g h .normal m h')
 | uk {c N g h D h1 e m h'}:cZ P G (.code c N g h .normal D h1)->cZ P G (.code (.loop c) N D h1 e m h')->cZ P G (.code (.loop c) N g h e m h')
 | CN {c N g h e m h'}:cZ P G (.code c N g h e m h')->e≠.normal->cZ P G (.code (.loop c) N g h e m h')
 | scope {c N g h e m h'}:cZ P G (.code c N g h e m h')->cZ P G (.code (.scope c) N g h e m h')
 | region {id ops N g h m h'}:cZ P G (.ops ops ops.toList N g h m h')->cZ P G (.code (.region id ops false) N g h .normal m h')
 | draw {id ops N g h m h'} (pre:Nat->Nat->Bool) (val:Nat->U) (W:Nat->Bool) (cls:Nat->x1) (p:Nat) (o:Nat->Nat) (v H:Nat->aH) (z:Nat->Nat) (cells:Nat->ag)
   (ar:o2 ops pre)
   (V:∀ (i:Nat) (j:bb),ops[i]?=some j->hN N j.dst=true)
   (Q:lH h (v 0)) (ai:h'=v p) (ap:m=fun F=>match hY ops F with | some i=>val i | none=>g F)
   (X:∀ (i:Nat) (j:bb),ops[i]?=some j->W i=true->cls i=.fh->∃ q,q<p/\o q=i)
   (Y:∀ q,q<p->∃ j,ops[o q]?=some j/\W (o q)=true/\cls (o q)=.fh)
   (ak:∀ q B,q<p->B<p->q<B->pre (o B) (o q)=true)
   (ae:∀ q B,q<p->B<p->o q=o B->q=B)
   (ao:∀ (i:Nat) (j:bb),ops[i]?=some j->iC ops (kx ops pre val g i j) j=some (W i))
   (am:∀ (i:Nat) (j:bb),ops[i]?=some j->W i=false->val i=fL)
   (al:∀ (i:Nat) (j:bb),ops[i]?=some j->W i=true->cls i=.pure->∀ k,tV pre p o i k->cF P (v k) (dv G (kx ops pre val g i j)) j.op=some (.val (val i) (v k)))
   (aj:∀ (i:Nat) (j:bb),ops[i]?=some j->W i=true->cls i=.new->∃ mk,kG P (dv G (kx ops pre val g i j)) j.op=some (cells i,mk)/\val i=mk (z i)/\h.n<=z i ∧
    ∀ k,tV pre p o i k->(v k).f (z i)=.cells (cells i).length (cells i))
   (R:∀ (i t:Nat) (j O:bb),ops[i]?=some j->ops[t]?=some O->W i=true->W t=true->cls i=.new->cls t=.new->z i=z t->i=t)
   (S:∀ (i:Nat) (j:bb) (q:Nat),ops[i]?=some j->W i=true->cls i=.new->q<p->z i<(v q).n\/(H q).n<=z i)
   (Z:∀ q,q<p->lH (H q) (v (q+1)))
   (T:∀ (q:Nat) (j:bb),q<p->ops[o q]?=some j->cZ P G (.op j.op (kx ops pre val g (o q) j) (v q) (val (o q)) (H q))) :
   cZ P G (.code (.region id ops true) N g h .normal m h')
 | JI {all N g h}:cZ P G (.ops all [] N g h g h)
 | JK {all j l N g h m h'}:iC all g j=some false->hN N j.dst=true->cZ P G (.ops all l N (gG g j.dst fL) h m h')->cZ P G (.ops all (j::l) N g h m h')
 | JJ {all j l N g h u h1 m h'}:iC all g j=some true->hN N j.dst=true->cZ P G (.op j.op g h u h1)->cZ P G (.ops all l N (gG g j.dst u) h1 m h')->cZ P G (.ops all (j::l) N g h m h')
 | wS {op g h u h'}:cF P h (dv G g) op=some (.val u h')->cZ P G (.op op g h u h')
 | sq {op g h f args h1 u h'}:cF P h (dv G g) op=some (.call f args h1)->cZ P G (.call f args h1 u h')->cZ P G (.op op g h u h')
 | Aw {op g h u h' K I}:cZ P G (.op op g h u h')->iF h' I->iE h' I u K->cZ P G (.op op g h K I)
 | inline {f fn c args h e m h' r}:P.funcs[f]?=some fn->fn.body=some c->
   cZ P G (.code c (args.length+(fn.ntmps - args.length)) (fun F=>args.getD F fL) h e m h')->(e=.normal\/e=.ret)->uK P h' m fn=some r->cZ P G (.call f args h r h')
 | pure {f args h r}:ii P G f args r->aq args=true->cZ P G (.call f args h r h)
 | Kg {f args w h r}:ii P G f w r->w.length=args.length->(∀ (t:Nat) (c C:U),args[t]?=some c->w[t]?=some C->fw h c C)->r.flat=true->cZ P G (.call f args h r h)
 | ext {f args h r h'}:jM P G f args h r h'->cZ P G (.call f args h r h')
 | Kh {f args w h r}:nh P G f w r->w.length=args.length->(∀ (t:Nat) (c C:U),args[t]?=some c->w[t]?=some C->fw h c C)->cZ P G (.call f args h r h)
section
variable {P:bj} {G:Nat->U}
structure gN (N:Nat) (w:aQ) (R:Nat->Prop) (h:aH) (muZ:bZ) (sgZ:Nat->U) (a:Act) :Prop where
 size:a.tmps.size=N
 defers:a.defers=[]
 val:∀ t,az w R h muZ (sgZ t) (a.tmps.getD t undef)
theorem jN.ext {w w' : aQ} {R:Nat->Prop} {h h' : aH} {muZ muZ' : bZ} (g:jN G w R h muZ) (e:cS w h muZ w' h' muZ') :jN G w' R h' muZ':=fun i=>⟨(g i).1,(g i).2.ext e⟩
theorem gN.ext {N:Nat} {w w' : aQ} {R:Nat->Prop} {h h' : aH} {muZ muZ' : bZ} {sgZ:Nat->U} {a:Act} (s:gN N w R h muZ sgZ a) (e:cS w h muZ w' h' muZ') :gN N w' R h' muZ' sgZ a:=
 ⟨s.size,s.defers,fun g=>(s.val g).ext e⟩
theorem gN.dv {N:Nat} {w:aQ} {R:Nat->Prop} {h:aH} {muZ:bZ} {sgZ:Nat->U} {a:Act} (s:gN N w R h muZ sgZ a) (g:jN G w R h muZ) (x:aW) :az w R h muZ (dv G sgZ x) (a.eval x):=by
 cases x with
 | tmp m=>exact s.val m
 | const o=>exact az.qT o
 | global i=>exact (g i).2
 | func f=>exact .fn f [] [] #[] #[] rfl rfl (fun _ _ _ j=>by simp at j) (fun _ _ _ j=>by simp at j)
theorem xx {w:aQ} {R:Nat->Prop} {h:aH} {muZ:bZ}:az w R h muZ fL undef:=.a1 [] #[] rfl (fun _ _ _ g=>by simp at g)
theorem gN.put {N:Nat} {w:aQ} {R:Nat->Prop} {h:aH} {muZ:bZ} {sgZ:Nat->U} {a:Act} (s:gN N w R h muZ sgZ a) {g:Option Tmp} (o:hN N g=true) {c:U} {v:aA} (q:az w R h muZ c v) :
  gN N w R h muZ (gG sgZ g c) (a.put g v):=by
 cases g with
 | none=>exact s
 | some d=>
  have p:d<a.tmps.size:=by rw[s.size];simpa [hN] using o
  refine⟨by simp[Act.put,s.size],s.defers,fun m=>?_⟩;simp only[gG,Act.put];by_cases j:m=d
  ·subst j;rw[fS];simp[p];exact q
  ·rw[bK _ _ _ _ j];have:=s.val m;simpa [E2 (Ne.symm j)] using this
theorem EY {w:aQ} {R:Nat->Prop} {h:aH} {muZ:bZ} {ops:Array bb} {sgZ:Nat->U} {tmps:Array aA} {o:bb} {b:Bool} (g:iC ops sgZ o=some b)
  (C:∀ d,(∃ j z,o.guard=some (j,z)/\(ops[j]?).bind (·.dst)=some d)->az w R h muZ (sgZ d) (tmps.getD d undef)) :Region.wanted o (yielded ops tmps)=b:=by
 unfold iC at g;unfold Region.wanted;cases t:o.guard with
 | none=>rw[t] at g;simpa using g
 | some D=>
  obtain⟨j,z⟩:=D;rw[t] at g;simp only at g ⊢;unfold yielded;cases q:(ops[j]?).bind (·.dst) with
  | none=>
   rw[q] at g;cases g;simp
  | some d=>
   rw[q] at g;have m:=C d ⟨j,z,t,q⟩;simp only[qg] at g ⊢;cases B:tmps[d]? with
   | none=>
    have u:tmps.getD d undef=undef:=by simp[hn,B]
    rw[u] at m;cases p:sgZ d<;>rw[p] at g m<;>simp at g<;>try (subst g;simp)
    all_goals cases m
   | some v=>
    have u:tmps.getD d undef=v:=by simp[hn,B]
    rw[u] at m;cases p:sgZ d<;>rw[p] at g m<;>simp at g
    all_goals (cases m<;>(subst g;simp))
def lC (P:bj) (n:Nat) (c:Code) (Q:Exit->Act->aQ->Prop) (a:Act) (w:aQ) :Prop:=
 match c with
 | .loop g=>Code.rounds P g Q n a w
 | c=>c.wp P Q a w
theorem lC.wp {n:Nat} {c:Code} {Q:Exit->Act->aQ->Prop} {a:Act} {w:aQ} (h:lC P n c Q a w) :c.wp P Q a w:=by cases c<;>first | exact wp_loop_rounds n h | exact h
def rK (P:bj) (G:Nat->U) :J->Prop
 | .code c N m h e p h'=>∃ n,∀ (g:Nat->Prop) (B:Nat) (w:aQ) (muZ:bZ) (a:Act) (Q:Exit->Act->aQ->Prop),bw g B w h muZ->jN G w g h muZ->gN N w g h muZ m a->
   (∀ j w' muZ',cS w h muZ w' h' muZ'->bw g B w' h' muZ'->gN N w' g h' muZ' p j->Q e.out j w')->lC P n c Q a w
 | .ops all l N m h p h'=>∀ (g:Nat->Prop) (B:Nat) (w:aQ) (muZ:bZ) (a:Act) (Q:Exit->Act->aQ->Prop),bw g B w h muZ->jN G w g h muZ->gN N w g h muZ m a->
   (∀ j w' muZ',cS w h muZ w' h' muZ'->bw g B w' h' muZ'->gN N w' g h' muZ' p j->Q .normal j w')->wpList P all Q l a w
 | .op op m h u h'=>∀ (g:Nat->Prop) (B:Nat) (w:aQ) (muZ:bZ) (a:Act) (o:bb) (q:Act->aQ->Prop) (Q:Exit->Act->aQ->Prop),o.op=op->bw g B w h muZ->jN G w g h muZ->
   (∀ x,az w g h muZ (dv G m x) (a.eval x))->(∀ t w' muZ',cS w h muZ w' h' muZ'->bw g B w' h' muZ'->az w' g h' muZ' u t->q (a.put o.dst t) w')->o.wp P a w q Q
 | .call f args h r h'=>jM P G f args h r h'
theorem KX {N:Nat} {w:aQ} {R:Nat->Prop} {B:Nat} {h:aH} {muZ:bZ} {sgZ:Nat->U} {a:Act} (rel:bw R B w h muZ) (s:gN N w R h muZ sgZ a) {fn:Func} {r:U} (z:uK P h sgZ fn=some r) :
  ∃ v,(results fn a.tmps).run P w=.ok v w/\az w R h muZ r v:=by
 have one:∀ (x:ResultVar) (c:U),uL P h sgZ x=some c->∃ v,(∀ j:ResultVar->Sem aA,(∀ g,j (.tmp g)=pure (a.tmps.getD g undef))->(∀ p g,j (.cell p g)=(do loadVar g (<-asAddr (a.tmps.getD p undef))))->(j x).run P w=.ok v w)/\az w R h muZ c v:=by
  intro x c C;cases x with
  | tmp g=>
   simp only[uL,bd] at C;subst C;exact⟨_,fun j h1 _=>by rw[h1];rfl,s.val g⟩
  | cell p g=>
   simp only[uL] at C;obtain⟨v,h1,q⟩:=IK (P:=P) rel C (s.val p);refine⟨v,fun j _ Z=>?_,q⟩;rw[Z];cases I:a.tmps.getD p undef with
   | pointer K=>
    cases K with
    | none=>rw[I] at h1;simp[Instr.loadAt,Instr.sureAddr] at h1
    | some K=>rw[I] at h1;simpa [Instr.loadAt,Instr.sureAddr,asAddr,I] using h1
   | _=>rw[I] at h1;simp[Instr.loadAt,Instr.sureAddr] at h1
 have all:∀ (l:List ResultVar) (cs:ag),q5 P h sgZ l=some cs->∃ m:List aA,(∀ j:ResultVar->Sem aA,(∀ g,j (.tmp g)=pure (a.tmps.getD g undef))->(∀ p g,j (.cell p g)=(do loadVar g (<-asAddr (a.tmps.getD p undef))))->(l.mapM j).run P w=.ok m w) ∧
   m.length=cs.length/\∀ (o:Nat) (c:U) (v:aA),cs[o]?=some c->m[o]?=some v->az w R h muZ c v:=by
  intro l
  induction l with
  | nil=>intro cs u;simp only[q5,bd] at u;subst u;exact⟨[],fun j _ _=>V,rfl,fun _ _ _ H=>by simp at H⟩
  | cons x l aj=>
   intro cs u;unfold q5 at u;split at u
   ·rename_i c W C G;cases u;obtain⟨v,h1,q⟩:=one x c C;obtain⟨m,t,X,Y⟩:=aj W G;refine⟨v::m,fun j Q S=>by simp only[oY,Sem.run_bind,h1 j Q S,Result.andThen_ok,t j Q S,Sem.run_pure],by simp[X],fun o O T D J=>?_⟩;cases o with
    | zero=>simp at D J;subst D J;exact q
    | succ o=>exact Y o O T (by simpa using D) (by simpa using J)
   ·cases u
 unfold uK at z;cases G:q5 P h sgZ fn.results.toList with
 | none=>rw[G] at z;cases z
 | some cs=>
  rw[G] at z;simp only[cz,bd] at z;subst z;obtain⟨m,h1,q,t⟩:=all _ _ G;have ae:(results fn a.tmps).run P w=.ok (if H:m.toArray.size=1 then m.toArray[0] else .tuple m.toArray) w:=by
   unfold results;rw[Nd];simp only[Sem.run_bind,Sem.run_map];rw[h1 _ (fun _=>rfl) (fun _ _=>rfl)];simp
  refine⟨_,ae,?_⟩
  match cs,m,q,t with
  | [],[],_,_=>exact .a1 [] #[] rfl (fun _ _ _ H=>by simp at H)
  | [c],[v],_,t=>exact t 0 c v rfl rfl
  | c::O::cs,v::T::m,q,t=>
   simp only[xV,dE];rw[dif_neg F];exact .a1 _ _ (by simpa using q) (fun o x y D ai=>t o x y D (by simpa using ai))
theorem nq {w:aQ} {R:Nat->Prop} {h:aH} {muZ:bZ} {c:U} {v:aA} (z:az w R h muZ c v) :c.aw=true->dd w (fun k=>R k/\¬ Own h muZ k) c v:=by
 have u:∀ (cs:ag),aq cs=true->∀ (m:Nat) (c:U),cs[m]?=some c->c.aw=true:=by
  intro cs
  induction cs with
  | nil=>intro _ m c j;simp at j
  | cons x cs o=>
   intro g m c j;simp only[aq,bH] at g;cases m with
   | zero=>simp at j;subst j;exact g.1
   | succ m=>exact o g.2 m c (by simpa using j)
 have W:∀ (q:List (ag)),oe q=true->∀ (i:Nat) (e:ag),q[i]?=some e->aq e=true:=by
  intro q
  induction q with
  | nil=>intro _ m c j;simp at j
  | cons x cs o=>
   intro g m c j;simp only[oe,bH] at g;cases m with
   | zero=>simp at j;subst j;exact g.1
   | succ m=>exact o g.2 m c (by simpa using j)
 have J:∀ b B v,Cell w R h muZ b B v->Cell w (fun k=>R k/\¬ Own h muZ k) aH.empty (fun _=>none) b B v:=fun b B v g=>
  ⟨g.here,g.one,⟨g.ro,g.free⟩,fun ⟨b,aj,h1,K,ai⟩=>by cases K⟩
 unfold dd
 induction z with
 | bool b=>exact fun _=>.bool b
 | int k n=>exact fun _=>.int k n
 | str P=>exact fun _=>.str P
 | iu=>exact fun _=>.iu
 | af=>exact fun _=>.af
 | g0=>exact fun _=>.g0
 | h6=>exact fun _=>.h6
 | hS=>exact fun _=>.hS
 | ah cs H D h1 z o=>exact fun g=>.ah cs H D h1 fun m c v j t=>o m c v j t (u cs (by simpa [U.aw] using g) m c j)
 | a1 cs H D z o=>exact fun g=>.a1 cs H D fun m c v j t=>o m c v j t (u cs (by simpa [U.aw] using g) m c j)
 | ptr=>exact fun g=>by simp[U.aw] at g
 | jb=>exact fun g=>by simp[U.aw] at g
 | b0 cs F C B G g z o=>exact fun p=>.b0 cs F C B G (fun m j=>J _ _ _ (g m j)) fun m c j=>o m c j (u cs (by simpa [U.aw] using p) m c j)
 | ad=>exact fun g=>by simp[U.aw] at g
 | fk=>exact fun g=>by simp[U.aw] at g
 | gw=>exact fun g=>by simp[U.aw] at g
 | bn I q C F cap G V X g z o=>exact fun p=>.bn I q C F cap G V X (fun i m T j=>J _ _ _ (g i m T j)) fun i e O m c j=>o i e O m c j (u e (W q (by simpa [U.aw] using p) i e O) m c j)
 | eN I a cap=>exact fun _=>.eN I a cap
 | fn f first e7 Q cs S g h1 K Y Z=>
  intro p;simp only[U.aw,bH] at p;exact .fn f first e7 Q cs S g (fun m c v j t=>Y m c v j t (u _ p.1 m c j)) fun m c v j t=>Z m c v j t (u _ p.2 m c j)
 | mp=>exact fun g=>by simp[U.aw] at g
 | it=>exact fun g=>by simp[U.aw] at g
 | gc ae c v z o=>exact fun p=>.gc ae c v (o (by simpa [U.aw] using p))
 | e0 l=>exact fun _=>.e0 l
 | bad v=>exact fun _=>.bad v
theorem rS {cs:ag} (h:aq cs=true) :∀ (j:Nat) (c:U),cs[j]?=some c->c.aw=true:=by
 induction cs with
 | nil=>intro j c g;simp at g
 | cons x cs m=>
  intro j c g;simp only[aq,bH] at h;cases j with
  | zero=>simp at g;subst g;exact h.1
  | succ j=>exact m h.2 j c (by simpa using g)
theorem dd.up {w:aQ} {A:Nat->Prop} {R:Nat->Prop} {h:aH} {muZ:bZ} {c:U} {v:aA} (t:dd w A c v) (O:∀ k,k<w.heap.size->A k->R k/\¬ Own h muZ k) :az w R h muZ c v:=by
 have K:∀ b z v,Cell w A aH.empty (fun _=>none) b z v->Cell w R h muZ b z v:=fun b z v g=>
  have q:b<w.heap.size:=World.block_lt_of_cell? _ _ g.here
  ⟨g.here,g.one,(O b q g.ro).1,(O b q g.ro).2⟩
 unfold dd at t
 induction t with
 | bool b=>exact .bool b
 | int k n=>exact .int k n
 | str P=>exact .str P
 | iu=>exact .iu
 | af=>exact .af
 | g0=>exact .g0
 | h6=>exact .h6
 | hS=>exact .hS
 | ah cs J G h1 t o=>exact .ah cs J G h1 o
 | a1 cs J G t o=>exact .a1 cs J G o
 | ptr b p C cs B q m=>cases m
 | jb b p C a j=>rcases j with j | ⟨n,cs,j,_⟩<;>cases j
 | b0 cs p D z I g t o=>exact .b0 cs p D z I (fun H F=>K _ _ _ (g H F)) o
 | ad u b p len cap C Q cs B q m=>cases m
 | fk u b p len cap C Q a aj g j=>rcases j with j | ⟨n,cs,j,_⟩<;>cases j
 | gw u b p C a cs B q m=>cases m
 | bn u S D p cap I X Y g t o=>exact .bn u S D p cap I X Y (fun i H W F=>K _ _ _ (g i H W F)) o
 | eN u a cap=>exact .eN u a cap
 | fn f first e7 T cs V g h1 ai Z ae=>exact .fn f first e7 T cs V g Z ae
 | mp b B q m=>cases m
 | it b B q m=>cases m
 | gc ag c v t o=>exact .gc ag c v o
 | e0 l=>exact .e0 l
 | bad v=>exact .bad v
theorem JP {R:Nat->Prop} {B:Nat} {w:aQ} {h:aH} {muZ:bZ} (rel:bw R B w h muZ) {k:Nat} (j:Own h muZ k) :k<w.heap.size:=by obtain⟨b,m,h1,g,rfl⟩:=j;exact rel.lt h1 g
theorem pT {R:Nat->Prop} {B:Nat} {w w' : aQ} {h:aH} {muZ:bZ} (rel:bw R B w h muZ) (g:eD w w') :cS w h muZ w' h muZ/\bw R B w' h muZ:=by
 have e:cS w h muZ w' h muZ:=⟨⟨g.os,g.tape,g.output,g.size,fun k hk _=>g.block k hk,fun _ u=>.inl u,fun b v cs p h1 m=>.inl ⟨cs,h1,m⟩,fun _ _ t=>t,fun _ _ _ h1 m=>⟨h1,m⟩,aI _,g.drawn⟩,fun _ _ j=>j⟩
 refine⟨e,fun b p j=>?_,rel.inj,rel.base,rel.fresh,rel.up,dL rel.size g.size,rel.iO⟩;cases o:live (h.f b) with
 | false=>cases q:h.f b<;>first | trivial | (rw[q] at o;cases o)
 | true=>exact (rel.blk b p j).ext e.toExt0 (g.block _ (rel.lt o j))
theorem KI {w:aQ} {R:Nat->Prop} {B:Nat} {h:aH} {muZ:bZ} (rel:bw R B w h muZ) :∀ {c c' : U},fw h c c'->∀ {v:aA},az w R h muZ c v->dd w R c' v:=by
 intro c c' ap;have Z:∀ {b P:Nat} {cs:ag} {j:M},h.f b=.cells P cs->muZ b=some j->∃ f:Nat->aA,∀ (g:Nat) (c:U),cs[g]?=some c->Cell w R aH.empty (fun _=>none) j.r (j.s+g) (f g)/\az w R h muZ c (f g):=by
  intro b P cs j t C;have hblk:=rel.blk b j C;rw[t] at hblk;obtain⟨aw,au,arr,aC,ar,aq,av,H,al⟩:=hblk;have aj:R j.r:=rel.up _ (rel.base b j (by rw[t];rfl) C);refine⟨fun g=>(arr[j.s+g]?).getD undef,fun g c m=>?_⟩;obtain⟨v,h1,O,T⟩:=al _ _ m;refine⟨⟨?_,by simp only[h1,g8];exact O,aj,fun ⟨b,j,h1,O,T⟩=>by cases O⟩,by simp only[h1,g8];exact T⟩;simp only[World.cell?,aq,h1,g8,rE];rfl
 induction ap with
 | same c G=>
  intro v p;exact (dd.up (nq p G) fun k _ hk=>⟨hk.1,fun ⟨b,j,h1,O,T⟩=>by cases O⟩:az w R aH.empty (fun _=>none) _ v)
 | ah cs K u h D=>
  intro v p;cases p with
  | ah _ X am h1 p=>
   refine .ah K X F h1 (fun g c' v m W=>?_);have q:g<cs.length:=by rw[<-u];exact (aK.1 m).1
   exact D g cs[g] c' (bI q) m (p g cs[g] v (bI q) W)
 | a1 cs K u h D=>
  intro v p;cases p with
  | a1 _ X am p=>
   refine .a1 K X F (fun g c' v m W=>?_);have q:g<cs.length:=by rw[<-u];exact (aK.1 m).1
   exact D g cs[g] c' (bI q) m (p g cs[g] v (bI q) W)
 | sK z b J cap P=>
  intro v p;cases p with
  | ad _ _ _ _ _ _ cap' cs j t C u ao G=>exact .eN z _ cap'
  | fk _ _ _ _ _ _ cap' a u G o=>exact .eN z _ cap'
  | gw _ _ _ _ a cs j t C=>exact .eN z a 0
 | ptr b J P cs K t u h D=>
  intro v p;cases p with
  | jb _ _ _ a o=>
   exfalso;rcases o with o | ⟨n,Q,o,q⟩
   ·rw[t] at o;cases o
   ·rw[t] at o;cases o;omega
  | ptr _ _ _ Q j Y C=>
   obtain⟨f,H⟩:=Z t C;refine .b0 K J j.r j.s f (fun g m=>?_) (fun g c' m=>?_)
   ·exact (H g cs[g] (bI F)).1
   ·have q:g<cs.length:=by rw[<-u];exact (aK.1 m).1
    exact D g cs[g] c' (bI q) m (H g cs[g] (bI q)).2
 | ad z b J len cap P cs S t u ai ax h D=>
  intro v p;cases p with
  | gw _ _ _ _ a Q j Y aB=>
   obtain rfl:=ic.1 u;exact .eN z a 0
  | fk _ _ _ _ _ _ cap' a u G o=>
   exfalso;rcases o with o | ⟨n,Q,o,q⟩
   ·rw[t] at o;cases o
   ·rw[t] at o;cases o;omega
  | ad _ _ _ _ _ _ cap' Q j Y C ay ao G=>
   have ak:len<=cap':=by rcases G with ⟨_,h⟩ | ⟨_,h,_⟩<;>omega
   obtain⟨f,H⟩:=Z t C;subst u;have q:∀ i g,i<S.length->g<z->J+(i*z+g)<cs.length:=by
    intro i g I m;have:i*z+z<=S.length*z:=by rw[<-eu];exact cn _ I
    omega
   refine .bn z S j.r (j.s+J) cap' (fun i g=>f (J+(i*z+g))) ak ai (fun i g I m=>?_) (fun i e V g c' m=>?_)
   ·have:=(H _ _ (bI (q i g I m))).1;rw[<-iW] at this;exact this
   ·have I:i<S.length:=(aK.1 V).1;have ae:g<z:=by rw[<-ai e (cE V)];exact (aK.1 m).1
    exact D i g e _ c' V m (bI (q i g I ae)) (H _ _ (bI (q i g I ae))).2
theorem yE:∀ {cs:ag},ky cs=true->∀ (j:Nat) (c:U),cs[j]?=some c->c.flat=true:=by
 intro cs
 induction cs with
 | nil=>intro _ j c h;simp at h
 | cons x cs o=>
  intro g j c m;simp only[ky,bH] at g;cases j with
  | zero=>simp at m;subst m;exact g.1
  | succ j=>exact o g.2 j c (by simpa using m)
theorem HI {w w' : aQ} {A R:Nat->Prop} {h h' : aH} {muZ muZ' : bZ} {c:U} {v:aA} (p:az w A h muZ c v) (o:c.flat=true) :az w' R h' muZ' c v:=by
 induction p with
 | bool b=>exact .bool b
 | int k n=>exact .int k n
 | str z=>exact .str z
 | iu=>exact .iu
 | af=>exact .af
 | g0=>exact .g0
 | h6=>exact .h6
 | hS=>exact .hS
 | ah cs u t h1 p j=>exact .ah cs u t h1 (fun m c v g q=>j m c v g q (yE (by simpa only [U.flat] using o) m c g))
 | a1 cs u t p j=>exact .a1 cs u t (fun m c v g q=>j m c v g q (yE (by simpa only [U.flat] using o) m c g))
 | gc B c v p j=>exact .gc B c v (j (by simpa only [U.flat] using o))
 | e0 l=>exact .e0 l
 | _=>simp[U.flat] at o
theorem Vl {f:cf} {args g:ag} {r:U} {h:aH} (H:ii P G f g r) (D:g.length=args.length) (J:∀ (j:Nat) (c c' : U),args[j]?=some c->g[j]?=some c'->fw h c c')
  (z:r.flat=true) :rK P G (.call f args h r h):=by
 intro o B w muZ R rel p T K;refine (H w o R (fun i=>?_) F (fun j c' m q C=>?_)).mono ?_
 ·exact (dd.up (nq (p i).2 (p i).1) fun k _ hk=>⟨hk.1,fun ⟨b,V,h1,u,S⟩=>by cases u⟩:az w o aH.empty (fun _=>none) _ _)
 ·have t:j<args.length:=by rw[<-D];exact (aK.1 q).1
  exact KI rel (J j args[j] c' (bI t) q) (K j args[j] m (bI t) C)
 ·rintro e w' ⟨m,rfl,v,I⟩;obtain⟨O,Q⟩:=pT rel v;exact⟨m,muZ,rfl,O,Q,HI I z⟩
theorem Vm {f:cf} {args g:ag} {r:U} {h:aH} (I:nh P G f g r) (D:g.length=args.length) (K:∀ (j:Nat) (c c' : U),args[j]?=some c->g[j]?=some c'->fw h c c') :rK P G (.call f args h r h):=by
 intro o B w muZ S rel p V O;refine (I w o S (fun i=>?_) F (fun j c' m q C=>?_)).mono ?_
 ·exact (dd.up (nq (p i).2 (p i).1) fun k _ hk=>⟨hk.1,fun ⟨b,W,h1,u,T⟩=>by cases u⟩:az w o aH.empty (fun _=>none) _ _)
 ·have t:j<args.length:=by rw[<-D];exact (aK.1 q).1
  exact KI rel (K j args[j] c' (bI t) q) (O j args[j] m (bI t) C)
 ·rintro e w' ⟨m,rfl,z,J⟩;obtain⟨Q,R⟩:=pT rel z;exact⟨m,muZ,rfl,Q,R,J.up fun k hk v=>⟨rel.up k (dL rel.size v),fun H=>by have:=JP rel H;omega⟩⟩
theorem nh.An {f:cf} {args:ag} {r:U} (o:nh P G f args r) :ii P G f args r:=fun w A t j m p=>
 (o w A t j m p).mono fun e w' ⟨q,h1,g,h⟩=>⟨q,h1,g,(dd.up h fun k _ hk=>⟨.inr hk,fun ⟨b,u,h1,g,h⟩=>by cases g⟩:az w' _ aH.empty (fun _=>none) _ _)⟩
theorem Vn {f:cf} {args:ag} {r:U} {h:aH} (D:ii P G f args r) (u:aq args=true) :rK P G (.call f args h r h):=by
 intro q B w muZ K rel m z H;refine (D w (fun k=>q k/\¬ Own h muZ k) K (fun i=>?_) z (fun p c j o v=>nq (H p c j o v) (rS u p c o))).mono ?_
 ·exact nq (m i).2 (m i).1
 ·rintro e w' ⟨j,rfl,t,F⟩;obtain⟨I,J⟩:=pT rel t;refine⟨j,muZ,rfl,I,J,F.up (fun k hk g=>?_)⟩;rcases g with g | g
  ·exact g
  ·exact⟨rel.up k (dL rel.size g),fun C=>by have:=JP rel C;omega⟩
end
section
variable {P:bj} {G:Nat->U}
theorem TM {w:aQ} {R:Nat->Prop} {h:aH} {muZ:bZ} {I:aW->U} {S:aW->aA} (H:∀ x,az w R h muZ (I x) (S x)) (o:bb) {cs:ag} {mk:Nat->U} (g:kG P I o.op=some (cs,mk)) :
  ∃ v arr t,(execOp S o).run P w=.ok (.value v) (w.alloc (.cells arr t))/\i1 w R h muZ cs arr ∧
   ∀ (w' : aQ) (p:Nat->Prop) (h' : aH) (muZ' : bZ) (b:Nat),h'.f b=.cells cs.length cs->muZ' b=some ⟨w.heap.size,0,arr.size⟩->az w' p h' muZ' (mk b) v:=by
 obtain⟨aC,op,type,pos,ax,guard⟩:=o;cases op<;>simp only[kG] at g<;>try (cases g;done)
 case alloc t=>
  cases j:gd P t with
  | none=>rw[j] at g;cases g
  | some m=>
   rw[j] at g;simp only[cz,bd,Prod.mk.injEq] at g;obtain⟨rfl,rfl⟩:=g;obtain⟨v,ar,ap⟩:=rp (P:=P) (w:=w) (R:=R) (h:=h) (muZ:=muZ) j;refine⟨.pointer (some ⟨w.heap.size,0,none⟩),v.cells,t,by simp[execOp,Instr.alloc,ar,newVar,newRow],ap,fun w' p h' muZ' b q u=>?_⟩;have:=az.ptr (w:=w') (R:=p) (h:=h') (muZ:=muZ') b 0 m.length m _ q u;simpa using this
 case box t x=>
  cases j:(I x).cells with
  | none=>rw[j] at g;cases g
  | some m=>
   rw[j] at g;simp only[cz,bd,Prod.mk.injEq] at g;obtain⟨rfl,rfl⟩:=g;obtain⟨O,Q⟩:=yi (H x) j;refine⟨.pointer (some ⟨w.heap.size,0,none⟩),(S x).cells,t,by simp[execOp,Instr.box,newVar,newRow],⟨O,Q⟩,fun w' p h' muZ' b q u=>?_⟩;have:=az.ptr (w:=w') (R:=p) (h:=h') (muZ:=muZ') b 0 m.length m _ q u;simpa using this
 case buildSlice t len parts=>
  cases B:gm P t with
  | none=>rw[B] at g;cases g
  | some e=>
  rw[B] at g;simp only at g;cases j:b5 P e with
  | none=>rw[j] at g;cases g
  | some m=>
  cases z:gd P e with
  | none=>rw[j,z] at g;cases g
  | some zero=>
  rw[j,z] at g;simp only at g;split at g
  ·rename_i G;cases J:ew (fun i=>some (i*m,m)) (cD zero len) (parts.toList.map fun Z=>(Z.1,I Z.2)) with
   | none=>rw[J] at g;cases g
   | some aB=>
    rw[J] at g;simp only[cz,bd,Prod.mk.injEq] at g;obtain⟨rfl,rfl⟩:=g;obtain⟨O,Q⟩:=Do H parts;obtain⟨V,arr,K,T⟩:=Gr B j z G.1 G.2 J O Q;refine⟨.slice (some ⟨w.heap.size,0,none⟩) len len,arr,e,by simp[execOp,K],T,fun w' p h' muZ' b q u=>?_⟩;rw[V] at q;have:=az.ad (w:=w') (R:=p) (h:=h') (muZ:=muZ') m b 0 len len (len*m) len _ _ q u (aI _) F (.inr ⟨F,aI _,by simp only;rw[T.1,V];omega⟩);simpa using this
  ·cases g
 case makeSlice t l c=>
  split at g
  ·rename_i e Y C B am aj;obtain⟨aw,ao⟩:=oa am (H l);obtain⟨av,ak⟩:=oa aj (H c);cases j:b5 P e with
   | none=>rw[j] at g;cases g
   | some m=>
   cases D:gO P e with
   | none=>rw[j,D] at g;cases g
   | some ay=>
   cases z:gd P e with
   | none=>rw[j,D,z] at g;cases g
   | some zero=>
   rw[j,D,z] at g;simp only at g;split at g
   ·rename_i G;obtain⟨au,ae,al,ai,aq⟩:=G;simp only[bd,Prod.mk.injEq] at g;obtain⟨rfl,rfl⟩:=g;obtain⟨W,arr,K,X⟩:=IV (w:=w) (R:=R) (h:=h) (muZ:=muZ) (kl:=aw) (kc:=av) B j D z au ae al ai aq;refine⟨.slice (some ⟨w.heap.size,0,none⟩) Y.toNat C.toNat,arr,e,by simp[execOp,ao,ak,K],X,fun w' p h' muZ' b q u=>?_⟩;rw[W] at q;have:=az.ad (w:=w') (R:=p) (h:=h') (muZ:=muZ') m b 0 Y.toNat C.toNat (C.toNat*m) C.toNat _ _ q u F F (.inr ⟨F,aI _,by simp only;rw[X.1,W];omega⟩);simpa using this
   ·cases g
  ·cases g
theorem lH.rel {R:Nat->Prop} {B:Nat} {w:aQ} {h h' : aH} {muZ:bZ} (g:lH h h') (rel:bw R B w h muZ) :cS w h muZ w h' muZ/\bw R B w h' muZ:=by
 have t:∀ b m,muZ b=some m->b<h.n:=fun b m j=>rel.kr j
 have e:cS w h muZ w h' muZ:=by
  refine⟨⟨rfl,rfl,rfl,aI _,fun _ _ _=>rfl,?_,?_,?_,?_,g.n,aI _⟩,fun _ _ j=>j⟩
  ·rintro k ⟨b,m,q,j,rfl⟩;rw[g.same b (t b m j)] at q;exact .inl ⟨b,m,q,j,rfl⟩
  ·intro b G cs m p j;exact .inl ⟨cs,by rw[g.same b (t b m j)];exact p,j⟩
  ·rintro b G o;have p:b<h.n:=by
    rcases fN b h.n with h1 | h1
    ·exact h1
    ·have:=rel.fresh b h1;rcases o with o | ⟨n,cs,o,_⟩<;>rw[this] at o<;>cases o
   rcases o with o | ⟨n,cs,o,D⟩
   ·exact .inl (by rw[g.same b p];exact o)
   ·exact .inr ⟨n,cs,by rw[g.same b p];exact o,D⟩
  ·intro b k m p j;exact⟨by rw[g.same b (t b m j)];exact p,j⟩
 refine⟨e,fun b m j=>?_,fun b u m C q v j z F=>?_,fun b m q j=>?_,g.fresh rel.fresh,rel.up,rel.size,fun b p=>rel.iO b (dL g.n p)⟩
 ·rw[g.same b (t b m j)];exact (rel.blk b m j).ext e.toExt0 rfl
 ·rw[g.same b (t b m j)] at q;rw[g.same u (t u C z)] at v;exact rel.inj b u m C q v j z F
 ·rw[g.same b (t b m j)] at q;exact rel.base b m q j
theorem Ml {K:Act->aQ->Prop} {Q:Exit->Act->aQ->Prop} {e:qi} {a:Act} {w:aQ} (g:e≠.normal) (h:Q e.out a w) :Exit.then K Q e.out a w:=by
 cases e with
 | normal=>exact bP rfl g
 | exit id=>exact h
 | ret=>exact h
theorem O3 {id:Nat} {Q:Exit->Act->aQ->Prop} {e:qi} {a:Act} {w:aQ} (g:e≠.exit id) (h:Q e.out a w) :Exit.inBlock id Q e.out a w:=by
 cases e with
 | normal=>exact h
 | exit m=>
  have:m≠id:=fun j=>g (by rw[j])
  simpa [Exit.inBlock,qi.out,this] using h
 | ret=>exact h
def FC (P:bj) (G:Nat->U) :Prop:=
 ∀ {id:Nat} {ops:Array bb} {N:Nat} {u:Nat->U} {h:aH} {z:Nat->U} {h' : aH} (pre:Nat->Nat->Bool) (val:Nat->U) (W:Nat->Bool) (cls:Nat->x1) (m:Nat) (j:Nat->Nat) (o w:Nat->aH) (p:Nat->Nat) (cells:Nat->ag),
  o2 ops pre->
  (∀ (i:Nat) (g:bb),ops[i]?=some g->hN N g.dst=true)->
  lH h (o 0)->h'=o m->(z=fun B=>match hY ops B with | some i=>val i | none=>u B)->
  (∀ (i:Nat) (g:bb),ops[i]?=some g->W i=true->cls i=.fh->∃ q,q<m/\j q=i)->
  (∀ q,q<m->∃ g,ops[j q]?=some g/\W (j q)=true/\cls (j q)=.fh)->
  (∀ q t,q<m->t<m->q<t->pre (j t) (j q)=true)->
  (∀ q t,q<m->t<m->j q=j t->q=t)->
  (∀ (i:Nat) (g:bb),ops[i]?=some g->iC ops (kx ops pre val u i g) g=some (W i))->
  (∀ (i:Nat) (g:bb),ops[i]?=some g->W i=false->val i=fL)->
  (∀ (i:Nat) (g:bb),ops[i]?=some g->W i=true->cls i=.pure->∀ k,tV pre m j i k->cF P (o k) (dv G (kx ops pre val u i g)) g.op=some (.val (val i) (o k)))->
  (∀ (i:Nat) (g:bb),ops[i]?=some g->W i=true->cls i=.new->∃ mk,kG P (dv G (kx ops pre val u i g)) g.op=some (cells i,mk)/\val i=mk (p i)/\h.n<=p i ∧
    ∀ k,tV pre m j i k->(o k).f (p i)=.cells (cells i).length (cells i))->
  (∀ (i v:Nat) (g C:bb),ops[i]?=some g->ops[v]?=some C->W i=true->W v=true->cls i=.new->cls v=.new->p i=p v->i=v)->
  (∀ (i:Nat) (g:bb) (q:Nat),ops[i]?=some g->W i=true->cls i=.new->q<m->p i<(o q).n\/(w q).n<=p i)->
  (∀ q,q<m->lH (w q) (o (q+1)))->
  (∀ (q:Nat) (g:bb),q<m->ops[j q]?=some g->rK P G (.op g.op (kx ops pre val u (j q) g) (o q) (val (j q)) (w q)))->
  rK P G (.code (.region id ops true) N u h .normal z h')
theorem iF.ext {h B:aH} (k:iF h B) (w:aQ) (muZ:bZ) :cS w h muZ w B muZ:=by
 refine⟨⟨rfl,rfl,rfl,aI _,fun _ _ _=>rfl,?_,?_,?_,?_,A3 k.n.symm,aI _⟩,fun _ _ o=>o⟩
 ·rintro r ⟨b,v,F,o,rfl⟩;refine .inl ⟨b,v,?_,o,rfl⟩;rcases k.blk b with m | ⟨D,cs,j,_⟩
  ·rw[<-m];exact F
  ·rw[j];rfl
 ·intro b D cs v g o;rcases k.blk b with m | ⟨z,p,j,u | ⟨q,t,_⟩⟩
  ·exact .inl ⟨cs,by rw[m];exact g,o⟩
  ·exact .inr (.inl u)
  ·rw[g] at j;cases j;exact .inl ⟨q,t,o⟩
 ·rintro b D (g | ⟨n,cs,g,C⟩)
  ·rcases k.blk b with m | ⟨z,p,j,_⟩
   ·exact .inl (m.trans g)
   ·rw[g] at j;cases j
  ·rcases k.blk b with m | ⟨z,p,j,u | ⟨q,t,_⟩⟩
   ·exact .inr ⟨n,cs,by rw[m];exact g,C⟩
   ·exact .inl u
   ·rw[g] at j;cases j;exact .inr ⟨n,q,t,C⟩
 ·intro b G v g o;rcases k.blk b with m | ⟨z,p,j,_⟩
  ·exact⟨by rw[m];exact g,o⟩
  ·rw[j] at g;cases g
theorem iF.live {h g:aH} (k:iF h g) {b:Nat} (o:live (g.f b)=true) :live (h.f b)=true:=by
 rcases k.blk b with m | ⟨p,cs,j,_⟩
 ·rw[<-m];exact o
 ·rw[j];rfl
theorem iF.kT {R:Nat->Prop} {B:Nat} {w:aQ} {h m:aH} {muZ:bZ} (rel:bw R B w h muZ) (k:iF h m) :∀ {c P:U},iE h m c P->∀ {v:aA},az w R h muZ c v->az w R m muZ P v:=by
 intro c P av
 induction av with
 | same c=>intro v o;exact o.ext (k.ext w muZ)
 | ah cs ai C h V=>
  intro v o;cases o with
  | ah _ aC aM h1 o=>
   refine .ah ai aC F h1 (fun g O v q ao=>?_);have D:g<cs.length:=by rw[<-C];exact (aK.1 q).1
   exact V g cs[g] O (bI D) q (o g cs[g] v (bI D) ao)
 | sK z b t cap aB=>
  intro v o;cases o with
  | ad _ _ _ _ _ _ cap' cs j u H C au K=>exact .eN z _ cap'
  | fk _ _ _ _ _ _ cap' a C K p=>exact .eN z _ cap'
  | gw _ _ _ _ a cs j u H=>exact .eN z a 0
 | ad z b t len cap aB cs I u am C ae aL o V=>
  intro v o;cases o with
  | gw _ _ _ _ a W j Q aO=>
   obtain rfl:=ic.1 C;exact .eN z a 0
  | fk _ _ _ _ _ _ cap' a C K p=>
   exfalso;rcases p with p | ⟨n,W,p,D⟩
   ·rw[u] at p;cases p
   ·rw[u] at p;cases p;omega
  | ad _ _ _ _ _ _ cap' W j Q H aN au K=>
   rw[u] at Q;cases Q;have hblk:=rel.blk b j H;rw[u] at hblk;obtain⟨aG,aE,arr,aP,aD,ax,aF,aJ,al⟩:=hblk;have ak:len<=cap':=by rcases K with ⟨_,h⟩ | ⟨_,h,_⟩<;>omega
   have Z:Go.bh.live (h.f b)=true:=by rw[u];rfl
   have aj:R j.r:=rel.up _ (rel.base b j Z H);have ar:¬ Own m muZ j.r:=by
    rintro⟨ag,ay,T,aq,aw⟩;have:=rel.inj ag b ay j (k.live T) Z aq H aw;subst this;rw[am] at T;cases T
   subst C;have Y:∀ i g,i<I.length->g<z->∃ c v,cs[t+(i*z+g)]?=some c/\arr[j.s+(t+(i*z+g))]?=some v/\v.oneCell'=true/\az w R h muZ c v:=by
    intro i g G q;have D:t+(i*z+g)<cs.length:=by
     have:i*z+z<=I.length*z:=by rw[<-eu];exact cn _ G
     omega
    obtain⟨v,h1,m,J⟩:=al _ _ (bI D);exact⟨_,v,bI D,h1,m,J⟩
   refine .bn z I j.r (j.s+t) cap' (fun i g=>(arr[j.s+(t+(i*z+g))]?).getD undef) ak ae (fun i g G q=>?_) (fun i e S g O q=>?_)
   ·obtain⟨c,v,h1,m,J,X⟩:=Y i g G q;refine⟨?_,?_,aj,ar⟩
    ·simp only[World.cell?,ax,m,g8,rE];rw[show j.s+t+(i*z+g)=j.s+(t+(i*z+g)) by omega,m];rfl
    ·rw[m];exact J
   ·have G:i<I.length:=(aK.1 S).1;have ap:g<z:=by rw[<-ae e (cE S)];exact (aK.1 q).1
    obtain⟨c,v,h1,m,J,X⟩:=Y i g G ap;simp only[m,g8];exact V i g e c O S q h1 X
theorem iF.rel {R:Nat->Prop} {B:Nat} {w:aQ} {h u:aH} {muZ:bZ} (rel:bw R B w h muZ) (k:iF h u) :bw R B w u muZ:=by
 refine⟨?_,?_,?_,?_,rel.up,rel.size,?_⟩
 ·intro b o j;have g:=rel.blk b o j;rcases k.blk b with q | ⟨ag,cs,p,U | ⟨ak,O,W,Z⟩⟩
  ·rw[q];exact g.ext (k.ext w muZ).toExt0 rfl
  ·rw[U];trivial
  ·rw[O];rw[p] at g;obtain⟨h1,K,arr,ai,J,P,Q,S,T⟩:=g;refine⟨F,K,arr,ai,J,P,Q,S,fun m I v=>?_⟩;have z:m<cs.length:=by rw[<-W];exact (aK.1 v).1
   obtain⟨aj,C,D,G⟩:=T m cs[m] (bI z);exact⟨aj,C,D,k.kT rel (Z m cs[m] I (bI z) v) G⟩
 ·intro b H o ae t V j X Y;exact rel.inj b H o ae (k.live t) (k.live V) j X Y
 ·intro b o t j;exact rel.base b o (k.live t) j
 ·intro b g;rw[k.n] at g;rcases k.blk b with q | ⟨ag,cs,p,_⟩
  ·rw[q];exact rel.fresh b g
  ·rw[rel.fresh b g] at p;cases p
 ·intro b g;rw[k.n] at g;exact rel.iO b g
theorem XJ (aT:FC P G) {j:J} (aZ:cZ P G j) :rK P G j:=by
 induction aZ with
 | skip N aq h=>exact⟨0,fun m B w muZ a Q rel o s k=>wp_skip (k a w muZ (.refl _ _ _) rel s)⟩
 | label l N aq h=>exact⟨0,fun m B w muZ a Q rel o s k=>wp_label (k a w muZ (.refl _ _ _) rel s)⟩
 | ret N aq h=>exact⟨0,fun m B w muZ a Q rel o s k=>wp_ret (k a w muZ (.refl _ _ _) rel s)⟩
 | exit id N aq h=>exact⟨0,fun m B w muZ a Q rel o s k=>wp_exit (k a w muZ (.refl _ _ _) rel s)⟩
 | Lu h1 aD g I=>
  obtain⟨K,g⟩:=g;obtain⟨aJ,I⟩:=I;exact⟨0,fun m B w muZ a Q rel o s k=>wp_seq (lC.wp (g m B w muZ a _ rel o s fun C v u p q t=>
   lC.wp (I m B v u C Q q (o.ext p) t fun Y ar au Z ao ap=>k Y ar au (p.trans Z) ao ap)))⟩
 | Eg h1 T g=>
  obtain⟨K,g⟩:=g;exact⟨0,fun m B w muZ a Q rel o s k=>wp_seq (lC.wp (g m B w muZ a _ rel o s fun C v u p q t=>Ml T (k C v u p q t)))⟩
 | cond ax h1 g=>
  rename_i c x y N aq h b e aK h';obtain⟨K,g⟩:=g;refine⟨0,fun m B w muZ a Q rel o s k=>?_⟩;have z:=s.dv o c;rw[ax] at z;cases aE:a.eval c<;>rw[aE] at z<;>try (cases z;done)
  cases z;exact wp_cond aE (lC.wp (g m B w muZ a Q rel o s k))
 | yc h1 T g=>
  obtain⟨K,g⟩:=g;exact⟨0,fun m B w muZ a Q rel o s k=>wp_block (lC.wp (g m B w muZ a _ rel o s fun C v u p q t=>O3 T (k C v u p q t)))⟩
 | Gl h1 g=>
  obtain⟨K,g⟩:=g;exact⟨0,fun m B w muZ a Q rel o s k=>wp_block (lC.wp (g m B w muZ a _ rel o s fun C v u p q t=>by
   simp only[qi.out,Exit.inBlock,if_true];exact k C v u p q t))⟩
 | uk h1 aD g I=>
  obtain⟨K,g⟩:=g;obtain⟨aJ,I⟩:=I;exact⟨aJ+1,fun m B w muZ a Q rel o s k=>lC.wp (g m B w muZ a _ rel o s fun C v u p q t=>
   I m B v u C Q q (o.ext p) t fun Y ar au Z ao ap=>k Y ar au (p.trans Z) ao ap)⟩
 | CN h1 T g=>
  obtain⟨K,g⟩:=g;exact⟨1,fun m B w muZ a Q rel o s k=>lC.wp (g m B w muZ a _ rel o s fun C v u p q t=>Ml T (k C v u p q t))⟩
 | scope h1 g=>
  obtain⟨K,g⟩:=g;rename_i c N aq h e aK h';refine⟨0,fun m B w muZ a Q rel o s k=>wp_scope_straight (lC.wp (g m B w muZ a _ rel o s fun C v u p q t=>?_))⟩;have:=k C v u p q t;cases e<;>exact this
 | region h1 g=>exact⟨0,fun m B w muZ a Q rel o s k=>wp_region_list (g m B w muZ a Q rel o s k)⟩
 | draw pre val W cls bc X aN aM aO cells bd aU aP a0 a8 aV aW a3 aY ai a5 a4 a2 aR aS aX bf a9=>
  exact aT pre val W cls bc X aN aM aO cells bd aU aP a0 a8 aV aW a3 aY ai a5 a4 a2 aR aS aX a9
 | JI=>exact fun m B w muZ a Q rel o s k=>k a w muZ (.refl _ _ _) rel s
 | JK aB ay h1 g=>
  intro m B w muZ a Q rel o s k;have ai:=EY (w:=w) (R:=m) (h:=_) (muZ:=muZ) (tmps:=a.tmps) aB (fun d _=>s.val d);unfold wpList;rw[ak (by rw[ai];simp)];exact g m B w muZ _ Q rel o (s.put ay xx) k
 | JJ aB ay h1 aD g I=>
  intro m B w muZ a Q rel o s k;have ai:=EY (w:=w) (R:=m) (h:=_) (muZ:=muZ) (tmps:=a.tmps) aB (fun d _=>s.val d);unfold wpList;rw[aj ai];refine .inl (g m B w muZ a _ _ Q rfl rel o (s.dv o) fun aL v u p q z=>?_);exact I m B v u _ Q q (o.ext p) ((s.ext p).put ay z) fun Y ar au Z ao ap=>k Y ar au (p.trans Z) ao ap
 | wS X=>
  intro m B w muZ a am av Q ae rel o al k;subst ae;have:=Ew (P:=P) rel al am X;obtain⟨O,w',muZ',D,e,r,z⟩:=this;unfold Oper.wp;rcases D with D | ⟨D,rfl⟩
  ·rw[D];exact k O w' muZ' e r z
  ·rw[D];exact k undef w' muZ' e r z
 | sq X h1 g=>
  intro m B w muZ a am av Q ae rel o al k;subst ae;obtain⟨rfl,S,D,U,z⟩:=Ew (P:=P) rel al am X;unfold Oper.wp;rw[D];refine (g m B w muZ S rel o U z).mono ?_;rintro e w' ⟨O,muZ',rfl,p,q,a6⟩;exact k O w' muZ' p q a6
 | Aw h1 aC z g=>
  intro m B w muZ a am av Q ae rel o al k;refine g m B w muZ a am av Q ae rel o al fun aL w' muZ' e r a7=>?_
  exact k aL w' muZ' (e.trans (aC.ext w' muZ')) (aC.rel r) (aC.kT r z a7)
 | inline az aQ h1 T D g=>
  rename_i f fn c args h e aK h' r;obtain⟨K,g⟩:=g;intro m B w muZ S rel o U z;refine calls_of_wp az aQ (lC.wp (g m B w muZ _ _ rel o ⟨by simp[U],rfl,fun H=>?_⟩ fun C v u p q t=>?_))
  ·by_cases aF:H<args.length
   ·have aw:args.getD H fL=args[H]:=by simp[List.getD,aF]
    have aA:(S++Array.replicate (fn.ntmps - S.size) undef).getD H undef=S[H]:=by
     rw[hn,oX F];simp[show H<S.size by omega]
    rw[aw,aA];exact z H _ _ (by simp[aF]) V
   ·have aw:args.getD H fL=fL:=by simp[List.getD,ea (by omega:args.length<=H)]
    have aA:(S++Array.replicate (fn.ntmps - S.size) undef).getD H undef=undef:=by
     rw[hn,u6 F,AG];split<;>rfl
    rw[aw,aA];exact xx
  ·obtain⟨O,aG,aH⟩:=KX q t D;have bg:t.defers=t.defers:=rfl;rcases T with rfl | rfl
   ·exact⟨t.defers,O,aG,O,u,rfl,p,q,aH⟩
   ·exact⟨t.defers,O,aG,O,u,rfl,p,q,aH⟩
 | pure ag ax=>exact Vn ag ax
 | Kg ag U D az=>exact Vl ag U D az
 | ext X=>exact X
 | Kh ag U D=>exact Vm ag U D
end
section
variable {P:bj} {G:Nat->U}
theorem sZ {ops:Array bb} {t i:Nat} (h:hY ops t=some i) :∃ o,ops[i]?=some o/\o.dst=some t:=by
 unfold hY at h;have:=List.find?_some h;cases g:ops[i]? with
 | none=>simp[g] at this
 | some o=>exact⟨o,rfl,by simpa [g] using this⟩
def oP (ops:Array bb) (val sgZ:Nat->U) (h:Array Bool) :Nat->U:=fun g=>
 match hY ops g with
 | some i=>if h.getD i false then val i else sgZ g
 | none=>sgZ g
theorem Qs {ops:Array bb} {pre:Nat->Nat->Bool} (v:o2 ops pre) {g:Array Bool}
  (w:∀ (i:Nat) (o:bb) (e:Edge),ops[i]?=some o->g.getD i false=true->e∈o.after->Region.binds .any e=true->g.getD e.on false=true)
  (z:∀ i,g.getD i false=true->∃ o,ops[i]?=some o) :∀ (i:Nat),g.getD i false=true->∀ j,pre i j=true->g.getD j false=true:=by
 intro i
 induction i using Nat.strongRecOn with
 | _ i C=>
  intro t j B;obtain⟨o,m⟩:=z i t;obtain⟨e,q,p,h⟩:=v.chain i o j m B;have u:=w i o e m t q p;rcases h with rfl | h
  ·exact u
  ·exact C e.on (v.vW i o e m q p) u j h
theorem r4 (g:Array Bool) (i j:Nat) (m:i<g.size) :(g.setIfInBounds i true).getD j false=if j=i then true else g.getD j false:=by
 rw[hn,u7];by_cases h:i=j
 ·subst h;simp[m]
 ·rw[ak h,ak (Ne.symm h),hn]
theorem Ab {ops:Array bb} {pre:Nat->Nat->Bool} (D:o2 ops pre) {val sgZ:Nat->U} {B:Array Bool} {i:Nat} {o:bb} (u:ops[i]?=some o) (q:i<B.size) :
  oP ops val sgZ (B.setIfInBounds i true)=gG (oP ops val sgZ B) o.dst (val i):=by
 funext j;unfold oP gG;cases m:o.dst with
 | none=>
  simp only;cases w:hY ops j with
  | none=>rfl
  | some z=>
   have t:z≠i:=fun p=>by
    obtain⟨C,h,g⟩:=sZ w;rw[p,u] at h;cases h;rw[m] at g;cases g
   simp only[r4 _ _ _ q,ak t]
 | some d=>
  simp only;by_cases v:j=d
  ·subst v;rw[D.one i o j u m];simp[r4 _ _ _ q]
  ·rw[bK _ _ _ _ v];cases w:hY ops j with
   | none=>rfl
   | some z=>
    have t:z≠i:=fun p=>by
     obtain⟨C,h,g⟩:=sZ w;rw[p,u] at h;cases h;rw[m] at g;cases g;exact v rfl
    simp only[r4 _ _ _ q,ak t]
structure Inv (P:bj) (ops:Array bb) (val sgZ:Nat->U) (W:Nat->Bool) (cls:Nat->x1) (m:Nat) (jX:Nat->Nat) (j:Nat->aH) (t:Nat->Nat) (N:Nat)
  (R:Nat->Prop) (B:Nat) (u:aQ) (h:aH) (p:bZ) (g:Array Bool) (k:Nat) (a:Act) (w:aQ) (muZ:bZ) :Prop where
 size:g.size=ops.size
 down:∀ (i:Nat) (o:bb) (e:Edge),ops[i]?=some o->g.getD i false=true->e∈o.after->Region.binds .any e=true->g.getD e.on false=true
 wr:k<=m
 done:∀ q,q<m->(g.getD (jX q) false=true<->q<k)
 ext:Ext0 u h p w (j k) muZ
 m5:∀ b,b<h.n->p b=none->muZ b=none
 rel:bw R B w (j k) muZ
 ra:gN N w R (j k) muZ (oP ops val sgZ g) a
 wY:∀ (i:Nat) (o:bb),ops[i]?=some o->W i=true->cls i=.new->g.getD i false=false->muZ (t i)=none
theorem SX {ops:Array bb} {g:Array Bool} (j:g.size=ops.size) (i:Nat) (h:g.getD i false=true) :∃ o,ops[i]?=some o:=by
 have:i<ops.size:=by
  rcases fN i g.size with h1 | h1
  ·omega
  ·simp[hn,p7 h1] at h
 exact⟨ops[i],by simp[this]⟩
theorem OC {ops:Array bb} {pre:Nat->Nat->Bool} (o:o2 ops pre) {ep:Array Bool} (v:ep.size=ops.size) (t:Region.ready .any ops ep=[]) :∀ i,i<ops.size->ep.getD i false=true:=by
 intro i
 induction i using Nat.strongRecOn with
 | _ i u=>
  intro g;cases p:ep.getD i false with
  | true=>rfl
  | false=>
   exfalso;have m:i∈Region.ready .any ops ep:=by
    refine mem_ready.2 ⟨?_,ops[i],by simp[g],fun e j h=>u e.on (o.vW i ops[i] e (by simp[g]) j h) (by
     have:=o.vW i ops[i] e (by simp[g]) j h;omega)⟩
    have q:i<ep.size:=F;simpa [hn,q] using p
   rw[t] at m;cases m
theorem Qv (bR:P.follows .mixedOrders=true) (bE:∀ g,(G g).aw=true) :FC P G:=by
 intro id ops N sgZ h Xm h' pre val W cls m ar J cg X cells au aG bD D b8 bL a9 bV bQ b6 b1 bW bj bF bG bN bI;refine⟨0,fun ae B ax xH a0 Q bu bC ce ca=>wp_region_any bR ?_⟩;obtain⟨bA,cc⟩:=pT bu ⟨(RowKit.Below.refl ax.heap.size ax).drew,rC _⟩;obtain⟨bB,cd⟩:=bD.rel cc;have a2:=bA.trans bB
 -- the end
 have a4:∀ (ep:Array Bool) (k:Nat) (a:Act) (w:aQ) (muZ:bZ),Inv P ops val sgZ W cls m ar J X N ae B ax h xH ep k a w muZ->(∀ i,i<ops.size->ep.getD i false=true)->Q .normal a w:=by
  intro ep k a w muZ inv aB;have hk:k=m:=by
   rcases fN k m with H | aS
   ·obtain⟨t,p,_⟩:=a9 k H;have ai:=aB (ar k) ((ib.1 p).1);have:=(inv.done k H).1 ai;omega
   ·have:=inv.wr;omega
  subst hk;have b2:oP ops val sgZ ep=Xm:=by
   rw[b8];funext I;unfold oP;cases aA:hY ops I with
   | none=>rfl
   | some i=>
    obtain⟨t,p,_⟩:=sZ aA;simp only[aB i ((ib.1 p).1),if_true]
  subst D;have aM:=inv.ra;rw[b2] at aM;exact ca a w muZ ⟨inv.ext,inv.m5⟩ inv.rel aM
 have b9:∀ (fuel:Nat) (ep:Array Bool) (k:Nat) (a:Act) (w:aQ) (muZ:bZ),Inv P ops val sgZ W cls m ar J X N ae B ax h xH ep k a w muZ->ep.toList.count false=fuel->wpAny P .any ops Q fuel ep a w:=by
  intro fuel
  induction fuel with
  | zero=>
   intro ep k a w muZ inv a7;have aB:∀ i,i<ops.size->ep.getD i false=true:=by
    intro i ap;have H:i<ep.size:=by rw[inv.size];exact ap
    cases ai:ep[i] with
    | true=>simp[hn,H,ai]
    | false=>
     exfalso;have aV:false∈ep.toList:=by rw[<-ai];simp
     have:=List.count_pos_iff.2 aV;omega
   refine⟨?_,a4 ep k a w muZ inv aB⟩;cases ag:Region.ready .any ops ep with
   | nil=>rfl
   | cons i l=>
    exfalso;have aV:i∈Region.ready .any ops ep:=by rw[ag];simp
    obtain⟨h1,t,p,_⟩:=mem_ready.1 aV;have ap:=(ib.1 p).1;have aC:=aB i ap;have H:i<ep.size:=by rw[inv.size];exact ap
    simp[hn,H] at h1 aC;rw[h1] at aC;cases aC
  | succ fuel aN=>
   intro ep k a w muZ inv a7;refine⟨fun ag=>a4 ep k a w muZ inv (OC au inv.size ag),fun i ap=>?_⟩;obtain⟨h1,t,p,a8⟩:=mem_ready.1 ap;have H:i<ep.size:=by rw[inv.size];exact (ib.1 p).1
   have aJ:ep.getD i false=false:=by simpa [hn,H] using h1
   have a5:=Qs au inv.down (SX inv.size)
   -- what comes before i is done
   have aW:∀ j,pre i j=true->ep.getD j false=true:=by
    intro j C;obtain⟨e,aH,o,aP⟩:=au.chain i t j p C;have bh:=a8 e aH o;rcases aP with rfl | aP
    ·exact bh
    ·exact a5 e.on bh j aP
   have bo:∀ j,ep.getD j false=true->pre j i=true->False:=fun j C al=>by
    have:=a5 j C i al;rw[aJ] at this;cases this
   have bd:tV pre m ar i k:=⟨inv.wr,fun q U al=>(inv.done q U).1 (aW _ al),fun q U al=>by
    rcases fN q k with aU | aS
    ·exact (bo _ ((inv.done q U).2 aU) al).elim
    ·exact aS⟩
   -- what i sees
   have bc:∀ I,az w ae (J k) muZ (kx ops pre val sgZ i t I) (a.tmps.getD I undef):=by
    intro I;unfold kx;split
    ·rename_i b4;have b5:I∈t.looksAt ops:=by simpa using b4
     have K:=inv.ra.val I;unfold oP at K;cases aA:hY ops I with
     | none=>rw[aA] at K;exact K
     | some j=>
      rw[aA] at K;simp only at K ⊢;by_cases al:pre i j=true
      ·rw[aj al];rw[aj (aW j al)] at K;exact K
      ·rw[ak al];have bU:ep.getD j false=false:=by
        rcases au.acc i t I j p b5 aA with z | z | rfl
        ·exact bP z al
        ·cases aT:ep.getD j false with
         | false=>rfl
         | true=>exact (bo j aT z).elim
        ·exact aJ
       rw[bU] at K;exact K
    ·exact .bad _
   have bf:jN G w ae (J k) muZ:=fun g=>⟨bE g,(bC g).2.jU inv.ext⟩
   have aY:∀ x,az w ae (J k) muZ (dv G (kx ops pre val sgZ i t) x) (a.eval x):=by
    intro x;cases x with
    | tmp I=>exact bc I
    | const v=>exact az.qT v
    | global g=>exact (bf g).2
    | func f=>exact .fn f [] [] #[] #[] rfl rfl (fun _ _ _ z=>by simp at z) (fun _ _ _ z=>by simp at z)
   have bt:=EY (w:=w) (R:=ae) (h:=J k) (muZ:=muZ) (tmps:=a.tmps) (b6 i t p) (fun d _=>bc d);have aE:(ep.setIfInBounds i true).toList.count false=fuel:=by
    have o:ep.toList[i]'(by simpa using H)=false:=by
     have:ep[i]=false:=by simpa [hn,H] using h1
     simpa using this
    rw[Array.toList_setIfInBounds,List.count_set (by simpa using H)];simp[o,a7]
   have aL:(ep.setIfInBounds i true).size=ops.size:=by simp[inv.size]
   have aF:∀ (j:Nat) (O:bb) (e:Edge),ops[j]?=some O->(ep.setIfInBounds i true).getD j false=true->e∈O.after->Region.binds .any e=true->(ep.setIfInBounds i true).getD e.on false=true:=by
    intro j O e T C aH o;rw[r4 _ _ _ H] at C ⊢;by_cases aq:j=i
    ·subst aq;rw[p] at T;cases T;rw[a8 e aH o];split<;>rfl
    ·rw[ak aq] at C;rw[inv.down j O e T C aH o];split<;>rfl
   -- the next state,when no block of others' is turned
   have aX:(W i=true->cls i≠.fh)->∀ q,q<m->((ep.setIfInBounds i true).getD (ar q) false=true<->q<k):=by
    intro bT q U;obtain⟨O,T,S,Y⟩:=a9 q U;have:ar q≠i:=fun z=>by
     rw[z] at S Y;exact bT S Y
    rw[r4 _ _ _ H,ak this];exact inv.done q U
   have aK:∀ (j:Nat),(ep.setIfInBounds i true).getD j false=false->j≠i/\ep.getD j false=false:=by
    intro j C;rw[r4 _ _ _ H] at C;by_cases aq:j=i
    ·rw[aj aq] at C;cases C
    ·rw[ak aq] at C;exact⟨aq,C⟩
   unfold wpOp;simp only[p];cases S:W i with
   | false=>
    rw[bt,S];simp only[jJ,if_false];refine aN _ k _ w muZ ⟨aL,aF,inv.wr,aX (fun z=>by rw[S] at z;cases z),inv.ext,inv.m5,inv.rel,?_,fun j O T am ao C=>inv.wY j O T am ao (aK j C).2⟩ aE;rw[Ab au p H];exact inv.ra.put (aG i t p) (by rw[b1 i t p S];exact xx)
   | true=>
    rw[bt,S];simp only[if_true];left;cases Y:cls i with
    | pure=>
     have b3:=bW i t p S Y k bd;obtain⟨v,w',muZ',ag,e,r,K⟩:=Ew (P:=P) inv.rel aY t b3;have bk:wpAny P .any ops Q fuel (ep.setIfInBounds i true) (a.put t.dst v) w':=by
      refine aN _ k _ w' muZ' ⟨aL,aF,inv.wr,aX (fun _ z=>by rw[Y] at z;cases z),inv.ext.trans e.toExt0,fun b o av=>e.m5 b (mq o inv.ext.n) (inv.m5 b o av),r,?_,fun j O T am ao C=>?_⟩ aE
      ·rw[Ab au p H];exact (inv.ra.ext e).put (aG i t p) K
      ·have ay:=inv.wY j O T am ao (aK j C).2;rcases fN (X j) (J k).n with o | o
       ·exact e.m5 _ o ay
       ·exact r.iO _ o
     unfold Oper.wp;rcases ag with ag | ⟨ag,rfl⟩
     ·rw[ag];exact bk
     ·rw[ag];exact bk
    | new=>
     obtain⟨mk,ay,bs,a6,hblk⟩:=bj i t p S Y;obtain⟨v,arr,I,ag,br,bS⟩:=TM (P:=P) aY t ay;have aD:=hblk k bd;have bH:=inv.wY i t p S Y aJ;have ch:X i<(J k).n:=by
      rcases fN (X i) (J k).n with o | o
      ·exact o
      ·rw[inv.rel.fresh _ o] at aD;cases aD
     have bl:∀ b Z,muZ b=some Z->b≠X i:=fun b Z o z=>by rw[z,bH] at o;cases o
     have e:Ext0 w (J k) muZ (w.alloc (.cells arr I)) (J k) (bm muZ (X i) (some ⟨w.heap.size,0,arr.size⟩)):=by
      refine⟨rfl,rfl,rfl,V,fun x b7 _=>?_,?_,fun b cj cs Z o D=>.inl ⟨cs,o,by rw[bK _ _ _ _ (bl b Z D)];exact D⟩,fun _ _ bM=>bM,fun b k Z o D=>⟨o,by rw[bK _ _ _ _ (bl b Z D)];exact D⟩,aI _,aI _⟩
      ·exact RowKit.Below.heap_alloc w _ x b7
      ·rintro x ⟨b,Z,ai,D,rfl⟩;by_cases o:b=X i
       ·subst o;simp at D;subst D;exact .inr (aI _)
       ·rw[bK _ _ _ _ o] at D;exact .inl ⟨b,Z,ai,D,rfl⟩
     have r:bw ae B (w.alloc (.cells arr I)) (J k) (bm muZ (X i) (some ⟨w.heap.size,0,arr.size⟩)):=by
      refine inv.rel.p2 e (X i) (fun b o ai=>⟨rfl,bK _ _ _ _ o,fun Z D=>RowKit.Below.heap_alloc w _ _ (inv.rel.lt ai D)⟩) (fun Z D=>?_) (fun b Z ci o ai _ D bi=>?_) (fun Z _ D=>?_) inv.rel.fresh (fun b o=>?_)
      ·simp at D;subst D;rw[aD];refine⟨rfl,by simp[br.1],arr,I,(0,0),heap_alloc_new w _,rfl,.inl rfl,fun j c C=>?_⟩;obtain⟨u,bv,bx,bz⟩:=br.2 j c C;exact⟨u,by simpa using bv,bx,bz.jU e⟩
      ·simp at bi;subst bi;have:=inv.rel.lt ai D;simp only[ne_eq];omega
      ·simp at D;subst D;exact inv.rel.size
      ·rw[bK _ _ _ _ F];exact inv.rel.iO b o
     have K:az (w.alloc (.cells arr I)) ae (J k) (bm muZ (X i) (some ⟨w.heap.size,0,arr.size⟩)) (val i) v:=by
      rw[bs];exact bS _ _ _ _ _ aD V
     unfold Oper.wp;rw[ag];refine aN _ k _ _ _ ⟨aL,aF,inv.wr,aX (fun _ z=>by rw[Y] at z;cases z),inv.ext.trans e,fun b o av=>by rw[bK _ _ _ _ F];exact inv.m5 b o av,r,?_,fun j O T am ao C=>?_⟩ aE
     ·rw[Ab au p H];have bY:gN N (w.alloc (.cells arr I)) ae (J k) (bm muZ (X i) (some ⟨w.heap.size,0,arr.size⟩)) (oP ops val sgZ ep) a:=⟨inv.ra.size,inv.ra.defers,fun cf=>(inv.ra.val cf).jU e⟩
      exact bY.put (aG i t p) K
     ·obtain⟨aq,aT⟩:=aK j C;rw[bK _ _ _ _ (fun z=>aq (bF j i O t T p am S ao Y z))];exact inv.wY j O T am ao aT
    | fh=>
     obtain⟨q,U,rfl⟩:=bL i t p S Y;have bX:q=k:=by
      have aC:¬ q<k:=fun z=>by
       have:=(inv.done q U).2 z;rw[aJ] at this;cases this
      rcases fN k q with aU | aS
      ·have bg:k<m:=F;have:=aW (ar k) (bV k q bg U aU);have:=(inv.done k bg).1 this;omega
      ·omega
     subst bX;refine bI q t U p ae B w muZ a t _ Q rfl inv.rel bf aY fun v w' muZ' e r K=>?_
     obtain⟨a3,cb⟩:=(bN q U).rel r;have aO:=e.trans a3;refine aN _ (q+1) _ w' muZ' ⟨aL,aF,F,fun aZ bp=>?_,inv.ext.trans aO.toExt0,fun b o av=>aO.m5 b (mq o inv.ext.n) (inv.m5 b o av),cb,?_,fun j O T am ao C=>?_⟩ aE
     ·rw[r4 _ _ _ H];by_cases bq:aZ=q
      ·subst bq;simp
      ·rw[ak (fun z=>bq (bQ aZ q bp U z)),inv.done aZ bp];omega
     ·rw[Ab au p H];exact (inv.ra.ext aO).put (aG _ t p) (K.ext a3)
     ·have ay:=inv.wY j O T am ao (aK j C).2;rcases bG j O q T am ao U with o | o
      ·exact e.m5 _ o ay
      ·exact r.iO _ o
 have bO:Inv P ops val sgZ W cls m ar J X N ae B ax h xH (Array.replicate ops.size false) 0 a0 ax.drew xH:=by
  have aR:∀ i,(Array.replicate ops.size false).getD i false=false:=by
   intro i;rw[hn,AG];split<;>rfl
  refine⟨V,(fun i t e _ ap _ _=>by rw[aR] at ap;cases ap),ek _,(fun q U=>by rw[aR];simp),a2.toExt0,fun b o av=>av,cd,?_,fun i t p S Y _=>?_⟩
  ·have aM:oP ops val sgZ (Array.replicate ops.size false)=sgZ:=by
    funext I;unfold oP;cases aA:hY ops I with
    | none=>rfl
    | some i=>simp only[aR];simp
   rw[aM];exact ce.ext a2
  ·obtain⟨mk,ay,bs,a6,hblk⟩:=bj i t p S Y;exact bu.iO _ a6
 exact b9 _ _ 0 a0 ax.drew xH bO V
theorem sM (o:P.follows .mixedOrders=true) (h:∀ g,(G g).aw=true) {j:J} (m:cZ P G j) :rK P G j:=XJ (Qv o h) m
end
section
variable {P:bj} {G:Nat->U}
theorem Dn {g j:aW->U} (ps:Array (Nat × aW)) (h:∀ x∈(ps.toList.map (·.2)),g x=j x) :(ps.toList.map fun p=>(p.1,g p.2))=(ps.toList.map fun p=>(p.1,j p.2)):=
 mm fun p m=>by rw[h p.2 (cy.2 ⟨p,m,rfl⟩)]
theorem CR {g hW:aW->U} (xs:Array aW) (h:∀ x∈xs,g x=hW x) :xs.toList.map g=xs.toList.map hW:=
 mm fun x j=>h x (by simpa using j)
theorem Dd {g hW:aW->U} (o:Option aW) (h:∀ x∈o.toArray,g x=hW x) :o.map g=o.map hW:=by
 cases o with
 | none=>rfl
 | some x=>simp[h x V]
theorem Ev {o hW:aW->U} (h:aH) (op:Op) (j:∀ x∈op.operands,o x=hW x) :cF P h o op=cF P h hW op:=by
 cases op<;>simp only[Op.operands] at j<;>try rfl
 case build p m=>simp only[cF];rw[Dn m (fun x g=>j x (by simpa using g))]
 case buildSlice p n m=>simp only[cF];rw[Dn m (fun x g=>j x (by simpa using g))]
 case makeFunc fn first e7=>
  cases fn<;>simp only[cF];rw[CR first (fun x g=>j x (by simp[g])),CR e7 (fun x g=>j x (by simp[g]))]
 case slice p x v u w=>
  simp only[cF];rw[j x V,Dd v (fun y g=>j y (by simp at g ⊢;simp[g])),Dd u (fun y g=>j y (by simp at g ⊢;simp[g])),Dd w (fun y g=>j y (by simp at g ⊢;simp[g]))]
 case call c=>
  have t:c.args.toList.map o=c.args.toList.map hW:=CR c.args (fun x g=>j x (by simp[Call.operands,g]));simp only[cF,qy,t];cases q:c.callee with
  | value f=>dsimp only;rw[j f (by simp[Call.operands,q])]
  | invoke x name=>dsimp only;rw[j x (by simp[Call.operands,q])]
  | _=>rfl
 case makeMap p r=>
  cases r with
  | none=>rfl
  | some x=>simp only[cF];rw[j x V]
 case next it b=>
  cases b with
  | false=>rfl
  | true=>simp only[cF];rw[j it V]
 all_goals (simp only[cF];simp_all)
theorem TJ {h j:aW->U} (op:Op) (g:∀ x∈op.operands,h x=j x) :kG P h op=kG P j op:=by
 cases op<;>simp only[Op.operands] at g<;>try rfl
 case box m x=>simp only[kG];rw[g x V]
 case buildSlice m n p=>simp only[kG];rw[Dn p (fun x o=>g x (by simpa using o))]
 case makeSlice m l c=>simp only[kG];rw[g l V,g c V]
theorem QU {sgZ o:Nat->U} {h h' : aH} {v:U} {op:Op} (m:∀ x∈op.operands,dv G sgZ x=dv G o x) (j:cZ P G (.op op sgZ h v h')) :cZ P G (.op op o h v h'):=by
 generalize p:J.op op sgZ h v h'=t at j
 induction j generalizing v h'<;>cases p
 case wS q=>exact .wS (by rw[<-Ev h op m];exact q)
 case sq=>exact .sq (by rw[<-Ev h op m];assumption) (by assumption)
 case Aw=>exact .Aw (by first | (rename_i g;exact g rfl) | (rename_i g _;exact g rfl) | (rename_i g _ _;exact g rfl)) (by assumption) (by assumption)
inductive bB where
 | skip (i:Nat)
 | pure (i:Nat) (g:U)
 | new (i:Nat) (g:U) (cs:ag)
 | fh (i:Nat) (g:U) (h1:aH)
def bB.idx:bB->Nat
 | .skip i | .pure i _ | .new i _ _ | .fh i _ _=>i
def bB.val:bB->U
 | .skip _=>fL
 | .pure _ g | .new _ g _ | .fh _ g _=>g
def bB.hz:bB->Bool
 | .fh ..=>true
 | _=>false
def bB.py:bB->Bool
 | .skip _=>true
 | _=>false
def bB.cls:bB->x1
 | .skip _ | .pure ..=>.pure
 | .new ..=>.new
 | .fh ..=>.fh
def bB.cs:bB->ag
 | .new _ _ cs=>cs
 | _=>[]
structure k1 where
 sgZ:Nat->U
 h:aH
def rX (ops:Array bb) (i:Nat) :Option Tmp:=(ops[i]?).bind (·.dst)
def mS (h:aH) :bB->aH
 | .skip _ | .pure ..=>h
 | .new _ _ cs=>h.push (.cells cs.length cs)
 | .fh _ _ h1=>h1
def jx (ops:Array bb) (s:k1) (t:bB) :k1:=⟨gG s.sgZ (rX ops t.idx) t.val,mS s.h t⟩
def fu (ops:Array bb) (s0:k1) (tr:List bB) (p:Nat) :k1:=(tr.take p).foldl (jx ops) s0
theorem uT {ops:Array bb} {s0:k1} {tr:List bB} {p:Nat} {t:bB} (h:tr[p]?=some t) :fu ops s0 tr (p+1)=jx ops (fu ops s0 tr p) t:=by unfold fu;have g:p<tr.length:=(aK.1 h).1;rw[List.take_succ_eq_append_getElem g,AQ];have:tr[p]=t:=(aK.1 h).2;simp[this]
def tv (P:bj) (G:Nat->U) (ops:Array bb) (s:k1) :bB->Prop
 | .skip i=>∃ g,ops[i]?=some g/\iC ops s.sgZ g=some false
 | .pure i j=>∃ g,ops[i]?=some g/\iC ops s.sgZ g=some true
 | .new i j cs=>∃ g mk,ops[i]?=some g/\iC ops s.sgZ g=some true/\kG P (dv G s.sgZ) g.op=some (cs,mk)/\j=mk s.h.n
 | .fh i j h1=>∃ g,ops[i]?=some g/\iC ops s.sgZ g=some true/\cZ P G (.op g.op s.sgZ s.h j h1)/\s.h.n<=h1.n
def Be (P:bj) (G:Nat->U) (ops:Array bb) (s:k1) (h:aH) :bB->Prop
 | .pure i j=>∀ g,ops[i]?=some g->cF P h (dv G s.sgZ) g.op=some (.val j h)
 | .new _ _ cs=>h.f s.h.n=.cells cs.length cs
 | _=>True
structure tu (ops:Array bb) (pre:Nat->Nat->Bool) (tr:List bB) :Prop where
 Ao:o2 ops pre
 all:∀ i,i<ops.size->∃ (p:Nat) (t:bB),tr[p]?=some t/\t.idx=i
 inj:∀ (p g:Nat) (t h:bB),tr[p]?=some t->tr[g]?=some h->t.idx=h.idx->p=g
 zS:∀ (p:Nat) (t:bB),tr[p]?=some t->t.idx<ops.size
 Mn:∀ (p g:Nat) (t h:bB),tr[p]?=some t->tr[g]?=some h->p<g->pre t.idx h.idx=false
 eager:∀ (p g:Nat) (t h:bB),tr[p]?=some t->tr[g]?=some h->p<g->t.hz=true->pre h.idx t.idx=true
structure Bf (P:bj) (G:Nat->U) (ops:Array bb) (pre:Nat->Nat->Bool) (s0:k1) (tr:List bB) :Prop where
 step:∀ (p:Nat) (t:bB),tr[p]?=some t->tv P G ops (fu ops s0 tr p) t
 still:∀ (q:Nat),(q=tr.length\/∃ t:bB,tr[q]?=some t/\t.hz=true)->∀ (p:Nat) (t:bB),p<q->tr[p]?=some t->
  (∀ (j:Nat) (g:bB),j<q->tr[j]?=some g->g.hz=true->pre g.idx t.idx=false)->Be P G ops (fu ops s0 tr p) (fu ops s0 tr q).h t
def dw (tr:List bB) (i:Nat) :Nat:=tr.findIdx fun g=>g.idx == i
theorem sv {ops:Array bb} {pre:Nat->Nat->Bool} {tr:List bB} (p:tu ops pre tr) {i:Nat} (j:i<ops.size) :∃ t,tr[dw tr i]?=some t/\t.idx=i:=by
 obtain⟨q,t,h,o⟩:=p.all i j;have u:q<tr.length:=(aK.1 h).1;have m:∃ x∈tr,(x.idx == i)=true:=⟨t,cE h,by simpa using o⟩
 have g:dw tr i<tr.length:=List.findIdx_lt_length_of_exists m;have:=List.findIdx_getElem (w:=g);exact⟨tr[dw tr i],by simp[g],by unfold dw;simpa using this⟩
theorem zD {ops:Array bb} {pre:Nat->Nat->Bool} {tr:List bB} (g:tu ops pre tr) {p:Nat} {t:bB} (h:tr[p]?=some t) :dw tr t.idx=p:=by obtain⟨m,h1,j⟩:=sv g (g.zS p t h);exact g.inj _ _ _ _ h1 h j
theorem LI {ops:Array bb} {pre:Nat->Nat->Bool} {tr:List bB} (q:tu ops pre tr) (s0:k1) :∀ p,p<=tr.length->∀ t,
  (fu ops s0 tr p).sgZ t=match hY ops t with | some j=>(if dw tr j<p then ((tr[dw tr j]?).map bB.val).getD .bad else s0.sgZ t) | none=>s0.sgZ t:=by
 intro p
 induction p with
 | zero=>
  intro _ t;simp only[fu,nb,List.foldl_nil];cases hY ops t<;>simp
 | succ p O=>
  intro R t;have H:p<tr.length:=F;have m:tr[p]?=some tr[p]:=bI H;rw[uT m];simp only[jx];have C:=O F t;have J:=zD q m;have K:=q.zS p _ m;have D:ops[tr[p].idx]?=some ops[tr[p].idx]:=by simp[K]
  cases g:rX ops tr[p].idx with
  | none=>
   simp only[gG,C];cases B:hY ops t with
   | none=>rfl
   | some j=>
    simp only;obtain⟨P,h,w⟩:=sZ B;have I:dw tr j≠p:=by
     intro v;obtain⟨Q,h1,u⟩:=sv q ((ib.1 h).1);rw[v,m] at h1;cases h1;rw[<-u] at h;simp only[rX,h,qg] at g;rw[w] at g;cases g
    by_cases o:dw tr j<p
    ·rw[aj o,aj F]
    ·rw[ak o,ak F]
  | some d=>
   simp only[gG];by_cases z:t=d
   ·subst z;have G:ops[tr[p].idx].dst=some t:=by simpa [rX,D] using g
    rw[fS,q.Ao.one _ _ t D G];simp[J,m]
   ·rw[bK _ _ _ _ z,C];cases B:hY ops t with
    | none=>rfl
    | some j=>
     simp only;obtain⟨P,h,w⟩:=sZ B;have I:dw tr j≠p:=by
      intro v;obtain⟨Q,h1,u⟩:=sv q ((ib.1 h).1);rw[v,m] at h1;cases h1;rw[<-u] at h;simp only[rX,h,qg] at g;rw[w] at g;cases g;exact z rfl
     by_cases o:dw tr j<p
     ·rw[aj o,aj F]
     ·rw[ak o,ak F]
theorem Ve {ops:Array bb} {pre:Nat->Nat->Bool} (u:o2 ops pre) (v:∀ (i:Nat) (o:bb) (e:Edge),ops[i]?=some o->e∈o.after->Region.binds .any e=true->∃ m,ops[e.on]?=some m) :∀ (i:Nat) (o:bb),ops[i]?=some o->∀ j,pre i j=true->j<i:=by
 intro i
 induction i using Nat.strongRecOn with
 | _ i B=>
  intro o h j w;obtain⟨e,q,p,g⟩:=u.chain i o j h w;have t:=u.vW i o e h q p;rcases g with rfl | g
  ·exact t
  ·obtain⟨m,z⟩:=v i o e h q p;have:=B e.on t m z j g;omega
theorem T3 {ops:Array bb} {pre:Nat->Nat->Bool} (h:o2 ops pre) (i:Nat) (o:bb) (g:ops[i]?=some o) (p:pre i i=true) :False:=by
 have:=Ve h (fun i o e g m j=>by
  have h1:=h.vW i o e g m j;have q:=(ib.1 g).1;exact⟨ops[e.on]'F,V⟩) i o g i p
 omega
theorem Hk {ops:Array bb} {pre:Nat->Nat->Bool} {tr:List bB} (m:tu ops pre tr) (s0:k1) {i:Nat} {o:bb} (w:ops[i]?=some o) {t:Nat} (z:t∈o.looksAt ops) :
  kx ops pre (fun j=>((tr[dw tr j]?).map bB.val).getD .bad) s0.sgZ i o t=(fu ops s0 tr (dw tr i)).sgZ t:=by
 have D:i<ops.size:=(ib.1 w).1;obtain⟨K,h1,u⟩:=sv m D;have G:dw tr i<=tr.length:=km (aK.1 h1).1;rw[LI m s0 _ G];unfold kx;rw[aj (by simpa using z)];cases B:hY ops t with
 | none=>rfl
 | some j=>
  simp only;obtain⟨J,I,_⟩:=sZ B;obtain⟨O,q,v⟩:=sv m ((ib.1 I).1);have C:pre i j=true<->dw tr j<dw tr i:=by
   constructor
   ·intro g;rcases o1 (dw tr j) (dw tr i) with h | h | h
    ·exact h
    ·exfalso;rw[h,h1] at q;cases q;have F:i=j:=by rw[<-u,<-v]
     subst F;exact T3 m.Ao i o w g
    ·have:=m.Mn _ _ _ _ h1 q h;rw[u,v] at this;rw[this] at g;cases g
   ·intro H;rcases m.Ao.acc i o t j w z B with p | p | rfl
    ·exact p
    ·have:=m.Mn _ _ _ _ q h1 H;rw[u,v] at this;rw[this] at p;cases p
    ·omega
  by_cases g:pre i j=true
  ·rw[aj g,aj (C.1 g)]
  ·rw[ak g,ak (fun p=>g (C.2 p))]
def dW (tr:List bB) :List Nat:=(List.range tr.length).filter fun g=>((tr[g]?).map bB.hz).getD false
theorem zd {tr:List bB} {p:Nat}:p∈dW tr<->∃ t,tr[p]?=some t/\t.hz=true:=by
 unfold dW;rw[dy,g7];constructor
 ·rintro⟨h1,g⟩;refine⟨tr[p],by simp[h1],?_⟩;simpa [h1] using g
 ·rintro⟨t,h1,g⟩;exact⟨(aK.1 h1).1,by simp[h1,g]⟩
theorem qH {tr:List bB} {q g:Nat} (m:q<g) (h:g<(dW tr).length) :(dW tr).getD q 0<(dW tr).getD g 0:=by have j:(dW tr).Pairwise (· < ·):=List.Pairwise.filter _ List.pairwise_lt_range;have:=kV.1 j q g F h m;simpa [List.getD,h,show q<(dW tr).length by omega] using this
theorem Hi {tr:List bB} {q:Nat} (g:q<(dW tr).length) :∃ t,tr[(dW tr).getD q 0]?=some t/\t.hz=true:=by apply zd.1;simp[List.getD,g]
theorem yv {tr:List bB} {p:Nat} (h:p∈dW tr) :∃ q,q<(dW tr).length/\(dW tr).getD q 0=p:=by obtain⟨q,g,rfl⟩:=Fh h;exact⟨q,g,by simp[List.getD,g]⟩
theorem wD {ops:Array bb} {pre:Nat->Nat->Bool} {s0:k1} {tr:List bB} (m:Bf P G ops pre s0 tr) :∀ (k p:Nat),p+k<=tr.length->(fu ops s0 tr p).h.n<=(fu ops s0 tr (p+k)).h.n
 | 0,p,_=>aI _
 | k+1,p,w=>by
  have v:=wD m k p F;have q:p+k<tr.length:=F;have g:tr[p+k]?=some tr[p+k]:=bI q;have j:=m.step _ _ g;rw[show p+(k+1)=(p+k)+1 from rfl,uT g];refine dL v ?_;cases u:tr[p+k] with
  | skip i=>simp[jx,mS]
  | pure i o=>simp[jx,mS]
  | new i o cs=>simp[jx,mS,jc]
  | fh i o h1=>
   rw[u] at j;obtain⟨z,_,_,_,t⟩:=j;simpa [jx,mS] using t
theorem Cl {ops:Array bb} {s0:k1} {tr:List bB}:∀ (k p:Nat),p+k<=tr.length->(∀ r,p<=r->r<p+k->r∉dW tr)->lH (fu ops s0 tr p).h (fu ops s0 tr (p+k)).h
 | 0,p,_,_=>⟨[],rfl⟩
 | k+1,p,z,o=>by
  obtain⟨l,g⟩:=Cl (ops:=ops) (s0:=s0) (tr:=tr) k p F (fun r h1 w=>o r h1 F);have u:p+k<tr.length:=F;have j:tr[p+k]?=some tr[p+k]:=bI u;have m:tr[p+k].hz≠true:=fun t=>o (p+k) F F (zd.2 ⟨_,j,t⟩)
  rw[show p+(k+1)=(p+k)+1 from rfl,uT j];cases v:tr[p+k] with
  | skip i=>exact⟨l,by simp[jx,mS,g]⟩
  | pure i q=>exact⟨l,by simp[jx,mS,g]⟩
  | new i q cs=>exact⟨l++[cs],by simp[jx,mS,g,q2]⟩
  | fh i q h1=>rw[v] at m;exact bP rfl m
theorem cZ.Qt {id:Nat} {ops:Array bb} {pre:Nat->Nat->Bool} {N:Nat} {s0:k1} {tr:List bB} (B:tu ops pre tr) (aM:∀ (i:Nat) (o:bb),ops[i]?=some o->hN N o.dst=true) (X:Bf P G ops pre s0 tr) :
  cZ P G (.code (.region id ops true) N s0.sgZ s0.h .normal (fu ops s0 tr tr.length).sgZ (fu ops s0 tr tr.length).h):=by
 -- the step that carries out operation i
 have gI:∀ (i:Nat) (o:bb),ops[i]?=some o->∃ t,tr[dw tr i]?=some t/\t.idx=i/\tv P G ops (fu ops s0 tr (dw tr i)) t:=fun i o j=>by
  obtain⟨t,h1,m⟩:=sv B ((ib.1 j).1);exact⟨t,h1,m,X.step _ _ h1⟩
 have a2:∀ (i:Nat) (o:bb),ops[i]?=some o->iC ops (kx ops pre (fun g=>((tr[dw tr g]?).map bB.val).getD .bad) s0.sgZ i o) o=iC ops (fu ops s0 tr (dw tr i)).sgZ o:=fun i o j=>by
  unfold iC;cases aR:o.guard with
  | none=>rfl
  | some aZ=>
   obtain⟨g,bj⟩:=aZ;simp only;cases aN:(ops[g]?).bind (·.dst) with
   | none=>rfl
   | some d=>
    simp only;rw[Hk B s0 j (t:=d) (by simp[Oper.looksAt,aR,aN])]
 have av:∀ (i:Nat) (o:bb),ops[i]?=some o->∀ x∈o.op.operands,dv G (fu ops s0 tr (dw tr i)).sgZ x=dv G (kx ops pre (fun g=>((tr[dw tr g]?).map bB.val).getD .bad) s0.sgZ i o) x:=fun i o j x aY=>by
  cases x with
  | tmp t=>
   refine (Hk B s0 j (t:=t) ?_).symm;simp only[Oper.looksAt,fm,List.mem_filterMap];exact .inl ⟨.tmp t,by simpa using aY,rfl⟩
  | _=>rfl
 -- the moment ahead of effect k,or the end
 have ax:∀ k,k<=(dW tr).length->∃ T,T<=tr.length/\(T=tr.length\/∃ t,tr[T]?=some t/\t.hz=true)/\(T=if k<(dW tr).length then (dW tr).getD k 0 else tr.length):=fun k hk=>by
  by_cases D:k<(dW tr).length
  ·obtain⟨t,h1,m⟩:=Hi D;exact⟨_,km (aK.1 h1).1,.inr ⟨t,h1,m⟩,by rw[aj D]⟩
  ·exact⟨_,aI _,.inl rfl,by rw[ak D]⟩
 have I:∀ q,q<(dW tr).length->∃ t,tr[(dW tr).getD q 0]?=some t/\t.hz=true/\((tr[(dW tr).getD q 0]?).map bB.idx).getD 0=t.idx:=fun q p=>by
  obtain⟨t,h1,m⟩:=Hi p;exact⟨t,h1,m,by rw[h1];rfl⟩
 have aH:∀ (i:Nat) (o:bb) (t:bB),ops[i]?=some o->tr[dw tr i]?=some t->t.idx=i->t.hz=false->∀ k,tV pre (dW tr).length (fun q=>((tr[(dW tr).getD q 0]?).map bB.idx).getD 0) i k->
   Be P G ops (fu ops s0 tr (dw tr i)) (fu ops s0 tr (if k<(dW tr).length then (dW tr).getD k 0 else tr.length)).h t:=by
  intro i o t j ag aG aT k Z;obtain⟨aS,aP,aQ⟩:=Z;obtain⟨T,az,ao,C⟩:=ax k aS;rw[<-C];have a8:dw tr i<tr.length:=(aK.1 ag).1;have aU:dw tr i<T:=by
   by_cases D:k<(dW tr).length
   ·rw[aj D] at C;obtain⟨a0,h1,m,w⟩:=I k D;rw[<-C] at h1;rcases o1 (dw tr i) T with h | h | h
    ·exact h
    ·rw[h,h1] at ag;cases ag;rw[aT] at m;cases m
    ·have Q:=B.eager T (dw tr i) a0 t h1 ag h m;have:=aP k D (by (try simp only);rw[w,<-aG];exact Q);omega
   ·rw[ak D] at C;omega
  refine X.still T ao _ t aU ag (fun bg W a6 aF aO=>?_);obtain⟨q,p,ae⟩:=yv (zd.2 ⟨W,aF,aO⟩);obtain⟨bh,h1,m,w⟩:=I q p;rw[ae,aF] at h1;cases h1;have a9:q<k:=by
   by_cases D:k<(dW tr).length
   ·rw[aj D] at C;rcases fN q k with h | h
    ·exact h
    ·rcases Fu h with h | h
     ·subst h;omega
     ·have:=qH (tr:=tr) h p;omega
   ·omega
  cases aE:pre W.idx t.idx with
  | false=>rfl
  | true=>
   have:=aQ q p (by (try simp only);rw[w,<-aG];exact aE);omega
 refine cZ.draw pre (fun g=>((tr[dw tr g]?).map bB.val).getD .bad) (fun g=>((tr[dw tr g]?).map fun t=>!t.py).getD false) (fun g=>((tr[dw tr g]?).map bB.cls).getD .pure) (dW tr).length
  (fun q=>((tr[(dW tr).getD q 0]?).map bB.idx).getD 0) (fun k=>(fu ops s0 tr (if k<(dW tr).length then (dW tr).getD k 0 else tr.length)).h) (fun q=>(fu ops s0 tr ((dW tr).getD q 0+1)).h)
  (fun g=>(fu ops s0 tr (dw tr g)).h.n) (fun g=>((tr[dw tr g]?).map bB.cs).getD []) B.Ao aM ?_ ?_ ?_ ?_ ?_ ?_ ?_ ?_ ?_ ?_ ?_ ?_ ?_ ?_ ?_
 ·-- h0
  obtain⟨T,az,ao,C⟩:=ax 0 (ek _)
  try simp only
  rw[<-C];have:=Cl (ops:=ops) (s0:=s0) (tr:=tr) T 0 F (fun r _ bc aq=>by
   obtain⟨q,p,ae⟩:=yv aq;rw[aj F] at C;rcases Fu (ek q) with h | h
   ·subst h;omega
   ·have:=qH (tr:=tr) h p;omega)
  simpa [fu] using this
 ·simp
 ·-- hσ
  funext t;rw[LI B s0 _ (aI _)];cases O:hY ops t with
  | none=>rfl
  | some g=>
   obtain⟨o,j,_⟩:=sZ O;obtain⟨bi,h1,_⟩:=sv B ((ib.1 j).1);simp only;rw[aj ((aK.1 h1).1)]
 ·-- heff
  intro i o j K v;obtain⟨t,h1,m,_⟩:=gI i o j;simp only[h1,cz,g8] at v;have Q:t.hz=true:=by cases t<;>simp_all [bB.cls,bB.hz]
  obtain⟨q,p,ae⟩:=yv (zd.2 ⟨t,h1,Q⟩);exact⟨q,p,by rw[ae,h1];exact m⟩
 ·-- heff'
  intro q p;obtain⟨t,h1,m,w⟩:=I q p;refine⟨ops[t.idx]'(B.zS _ _ h1),by rw[w];simp[B.zS _ _ h1],?_,?_⟩
  ·simp only[zD B h1,h1,cz,g8];cases t<;>simp_all [bB.py,bB.hz]
  ·simp only[zD B h1,h1,cz,g8];cases t<;>simp_all [bB.cls,bB.hz]
 ·-- hord
  intro q kK p U D;obtain⟨t,h1,m,w⟩:=I q p;obtain⟨W,H,al,am⟩:=I kK U;simp only[w,am];exact B.eager _ _ t W h1 H (qH D U) m
 ·-- hinj
  intro q kK p U Q;obtain⟨t,h1,m,w⟩:=I q p;obtain⟨W,H,al,am⟩:=I kK U;simp only[w,am] at Q;have:=B.inj _ _ t W h1 H Q;rcases o1 q kK with h | h | h
  ·have:=qH (tr:=tr) h U;omega
  ·exact h
  ·have:=qH (tr:=tr) h p;omega
 ·-- hwant
  intro i o j;rw[a2 i o j];obtain⟨t,h1,m,w⟩:=gI i o j;simp only[h1,cz,g8];cases t with
  | skip g=>obtain⟨R,u,O⟩:=w;simp only[bB.idx] at m;subst m;rw[j] at u;cases u;exact O
  | pure g z=>obtain⟨R,u,O⟩:=w;simp only[bB.idx] at m;subst m;rw[j] at u;cases u;exact O
  | new g z cs=>obtain⟨R,mk,u,O,_⟩:=w;simp only[bB.idx] at m;subst m;rw[j] at u;cases u;exact O
  | fh g z H=>obtain⟨R,u,O,_⟩:=w;simp only[bB.idx] at m;subst m;rw[j] at u;cases u;exact O
 ·-- hskip
  intro i o j K;obtain⟨t,h1,m,w⟩:=gI i o j;simp only[h1,cz,g8] at K ⊢;cases t<;>simp_all [bB.py,bB.val]
 ·-- hpure
  intro i o j K v k Z;obtain⟨t,h1,m,w⟩:=gI i o j;simp only[h1,cz,g8] at K v;have au:=aH i o t j h1 m (by cases t<;>simp_all [bB.cls,bB.hz]) k Z;cases t with
  | pure g z=>
   simp only[bB.idx] at m;subst m;have:=au o j;rw[Ev _ _ (av g o j)] at this;simpa [h1,bB.val] using this
  | skip g=>simp[bB.py] at K
  | new g z cs=>simp[bB.cls] at v
  | fh g z H=>simp[bB.cls] at v
 ·-- hnew
  intro i o j K v;obtain⟨t,h1,m,w⟩:=gI i o j;simp only[h1,cz,g8] at K v;cases t with
  | new g z cs=>
   obtain⟨R,mk,u,_,aD,aX⟩:=w;simp only[bB.idx] at m;subst m;rw[j] at u;cases u;rw[TJ _ (av g o j)] at aD;refine⟨mk,by simpa [h1,bB.cs] using aD,by simpa [h1,bB.val] using aX,?_,fun k Z=>?_⟩
   ·have a5:dw tr g<=tr.length:=km (aK.1 h1).1;have:=wD X (dw tr g) 0 F;simpa [fu] using this
   ·have au:=aH g o _ j h1 rfl rfl k Z;simpa [Be,h1,bB.cs] using au
  | skip g=>simp[bB.py] at K
  | pure g z=>simp[bB.cls] at v
  | fh g z H=>simp[bB.cls] at v
 ·-- hbid
  intro i g o R j u a3 a4 aJ aL aA;have ay:∀ (i:Nat) (o:bb),ops[i]?=some o->((tr[dw tr i]?).map bB.cls).getD .pure=.new->∀ V,dw tr i<V->V<=tr.length->(fu ops s0 tr (dw tr i)).h.n<(fu ops s0 tr V).h.n:=by
   intro i o j v V aE a7;obtain⟨t,h1,m,_⟩:=gI i o j;simp only[h1,cz,g8] at v;have S:=wD X (V - (dw tr i+1)) (dw tr i+1) F;rw[show dw tr i+1+(V - (dw tr i+1))=V by omega,uT h1] at S;cases t with
   | new g z cs=>simp only[jx,mS,jc] at S;omega
   | skip g=>simp[bB.cls] at v
   | pure g z=>simp[bB.cls] at v
   | fh g z H=>simp[bB.cls] at v
  obtain⟨t,h1,m,_⟩:=gI i o j;obtain⟨W,H,al,_⟩:=gI g R u;have aC:=(aK.1 h1).1;have ap:=(aK.1 H).1;rcases o1 (dw tr i) (dw tr g) with h | h | h
  ·have:=ay i o j aJ _ h (km ap);(try simp only at aA);omega
  ·rw[h,H] at h1;cases h1;rw[<-m,<-al]
  ·have:=ay g R u aL _ h (km aC);(try simp only at aA);omega
 ·-- hbid'
  intro i o q j K v p;obtain⟨t,h1,m,_⟩:=gI i o j;obtain⟨aw,J,Y,ai⟩:=I q p;simp only[h1,cz,g8] at v;have aC:=(aK.1 h1).1;have ap:=(aK.1 J).1;simp only[aj p];rcases o1 (dw tr i) ((dW tr).getD q 0) with h | h | h
  ·left;have S:=wD X ((dW tr).getD q 0 - (dw tr i+1)) (dw tr i+1) F;rw[show dw tr i+1+((dW tr).getD q 0 - (dw tr i+1))=(dW tr).getD q 0 by omega,uT h1] at S;cases t with
   | new g z cs=>simp only[jx,mS,jc] at S;omega
   | skip g=>simp[bB.cls] at v
   | pure g z=>simp[bB.cls] at v
   | fh g z H=>simp[bB.cls] at v
  ·rw[h,J] at h1;cases h1;cases t<;>simp_all [bB.cls,bB.hz]
  ·right;have S:=wD X (dw tr i - ((dW tr).getD q 0+1)) ((dW tr).getD q 0+1) F
   rwa [show (dW tr).getD q 0+1+(dw tr i - ((dW tr).getD q 0+1))=dw tr i by omega] at S
 ·-- hgrow
  intro q p;obtain⟨aw,J,Y,ai⟩:=I q p;have ap:=(aK.1 J).1;obtain⟨T,az,ao,C⟩:=ax (q+1) F
  try simp only
  rw[<-C];have D:(dW tr).getD q 0<T:=by
   by_cases h:q+1<(dW tr).length
   ·rw[aj h] at C;have:=qH (tr:=tr) (show q<q+1 by omega) h;omega
   ·rw[ak h] at C;omega
  have:=Cl (ops:=ops) (s0:=s0) (tr:=tr) (T - ((dW tr).getD q 0+1)) ((dW tr).getD q 0+1) F (fun r bd bf aq=>by
   obtain⟨kK,U,ae⟩:=yv aq;have aV:q<kK:=by
    rcases o1 q kK with h | h | h
    ·exact h
    ·subst h;omega
    ·have:=qH (tr:=tr) h p;omega
   by_cases h:q+1<(dW tr).length
   ·rw[aj h] at C;rcases Fu (show q+1<=kK from aV) with h' | h'
    ·subst h';omega
    ·have:=qH (tr:=tr) h' U;omega
   ·omega)
  rwa [show (dW tr).getD q 0+1+(T - ((dW tr).getD q 0+1))=T by omega] at this
 ·-- hcall
  intro q o p j;obtain⟨aw,J,Y,ai⟩:=I q p;have ar:=zD B J;simp only[ai] at j ⊢;have aW:=X.step _ _ J;cases aw with
  | fh g z h1=>
   obtain⟨R,u,_,Q,_⟩:=aW;simp only[bB.idx] at j ar ⊢;rw[j] at u;cases u;have aB:=av g o j;rw[ar] at aB;have:=QU aB Q;simp only[ar,J,aj p,cz,g8,bB.val];rw[uT J];exact this
  | skip g=>simp[bB.hz] at Y
  | pure g z=>simp[bB.hz] at Y
  | new g z cs=>simp[bB.hz] at Y
end
abbrev Bc:=cu U
def look (s:Bc) (t:Nat) :U:=match s.get t with | some g=>g | none=>fL
def uW (m i:Nat) :Bool:=Nat.testBit m i
def qG (g:List Nat) :List Edge->Nat
 | []=>0
 | e::h=>match Region.binds .any e with
  | true=>Nat.lor (Nat.lor (2 ^ e.on) (g.getD e.on 0)) (qG g h)
  | false=>qG g h
def IZ (g:List Nat) :List bb->List Nat
 | []=>g
 | h::j=>IZ (g++[qG g h.after.toList]) j
def gY (ops:Array bb) :List Nat:=IZ [] ops.toList
def l7 (g:List Nat) (i j:Nat) :Bool:=uW (g.getD i 0) j
def io:Op->Bool
 | .move _ | .assign _ | .pick .. | .alloc _ | .box .. | .build .. | .buildSlice .. | .load .. | .nilCheck _ | .binOp .. | .unOp .. | .convert .. | .makeInterface .. | .makeFunc .. | .makeSlice .. | .slice .. | .fieldAddr .. | .field .. | .indexAddr .. | .index .. | .extract ..=>false
 | .call c=>match c.callee with
  | .builtin .len | .builtin .cap | .builtin .min | .builtin .max=>false
  | _=>true
 | _=>true
def Dq (done:Nat) (fh:Bool) :Nat->List Nat->List bb->Option Nat
 | i,g::h,j::m=>match !uW done i&&Nat.beq (Nat.land g done) g&&(io j.op == fh) with
  | true=>some i
  | false=>Dq done fh (i+1) h m
 | _,_,_=>none
def Ee (g:List Nat) (os:List bb) :Nat->Nat->List Nat
 | 0,_=>[]
 | k+1,done=>match Dq done false 0 g os with
  | some i=>i::Ee g os k (Nat.lor done (2 ^ i))
  | none=>match Dq done true 0 g os with
   | some i=>i::Ee g os k (Nat.lor done (2 ^ i))
   | none=>[]
def eJ (g:List Nat) (ops:Array bb) :List Nat:=Ee g ops.toList ops.size 0
def hb (p:Nat->bb->Bool) :Nat->List bb->Bool
 | _,[]=>true
 | i,g::h=>p i g&&hb p (i+1) h
theorem FU {p:Nat->bb->Bool}:∀ (l:List bb) (i:Nat),hb p i l=true->∀ (j:Nat) (o:bb),l[j]?=some o->p (i+j) o=true
 | [],i,_,j,o,h=>by simp at h
 | x::l,i,h,j,o,g=>by
  simp only[hb,bH] at h;cases j with
  | zero=>simp only[ho,bd] at g;subst g;exact h.1
  | succ j=>
   simp only[jg] at g;have:=FU l (i+1) h.2 j o g
   rwa [show i+1+j=i+(j+1) by omega] at this
def BV (t:Nat) (o:bb) :Bool:=match o.dst with | some d=>Nat.beq d t | none=>false
def sY (t:Nat) :Nat->List bb->Option Nat
 | _,[]=>none
 | i,g::h=>match BV t g with
  | true=>some i
  | false=>sY t (i+1) h
def BT (h:List Nat) (ops:Array bb) :Bool:=
 hb (fun i j=>
  Nat.beq (h.getD i 0) (qG h j.after.toList) &&
  (j.after.toList.all fun e=>!Region.binds .any e||Nat.blt e.on i) &&
  (match j.dst with | some d=>(match sY d 0 ops.toList with | some g=>Nat.beq g i | none=>false) | none=>true) &&
  ((j.looksAt ops).all fun m=>match sY m 0 ops.toList with | some g=>l7 h i g||l7 h g i||Nat.beq g i | none=>true)) 0 ops.toList &&
 Region.noSelect ops
def zu (h:List Nat) :List Nat->Bool
 | []=>true
 | i::r=>(r.all fun g=>!Nat.beq i g&&!l7 h i g)&&zu h r
def Dh (h:List Nat) (ops:Array bb) (g:List Nat) :Bool:=
 BT h ops&&zu h g&&Nat.beq g.length ops.size&&(g.all fun i=>Nat.blt i ops.size)&&(List.range ops.size).all fun i=>g.contains i
abbrev A8:=cf->ag->aH->Option (U × aH)
section
variable (P:bj) (G:Nat->U)
def hV (call:A8) (op:Op) (s:Bc) (h:aH) :Option (U × aH):=
 match cF P h (dv G (look s)) op with
 | some (.val g h')=>some (g,h')
 | some (.call f args h1)=>call f args h1
 | none=>none
end
theorem BX (ms:List Nat) (j:Nat) :∀ (es:List Edge),uW (qG ms es) j=true->∃ e∈es,Region.binds .any e=true/\(e.on=j\/l7 ms e.on j=true)
 | [],h=>by simp[qG,uW] at h
 | e::es,h=>by
  unfold qG at h;cases g:Region.binds .any e with
  | false=>
   rw[g] at h;obtain⟨m,h1,o⟩:=BX ms j es h;exact⟨m,AU _ h1,o⟩
  | true=>
   rw[g] at h;simp only[uW] at h;have h' : Nat.testBit ((2 ^ e.on ||| ms.getD e.on 0) ||| qG ms es) j=true:=h;rw[Nat.testBit_or,Nat.testBit_or,qb,qb,Nat.testBit_two_pow] at h';rcases h' with (h' | h') | h'
   ·exact⟨e,Fk,g,.inl (by simpa using h')⟩
   ·exact⟨e,Fk,g,.inr h'⟩
   ·obtain⟨m,h1,o⟩:=BX ms j es h';exact⟨m,AU _ h1,o⟩
theorem M7 (t:Nat) :∀ (l:List bb) (i:Nat),sY t i l=((List.range l.length).find? fun j=>match l[j]? with | some o=>o.dst == some t | none=>false).map (·+i)
 | [],i=>by simp[sY]
 | o::l,i=>by
  unfold sY;have g:BV t o=(o.dst == some t):=by
   unfold BV;cases o.dst with
   | none=>rfl
   | some d=>
    by_cases h:d=t
    ·subst h;simp
    ·have:Nat.beq d t=false:=ir h;simp[this,h]
  rw[g,dE,List.range_succ_eq_map,AP];simp only[ho];cases m:(o.dst == some t) with
  | true=>simp
  | false=>
   simp only[List.find?_map];rw[M7 t l (i+1)];have:((fun j=>match (o::l)[j]? with | some o=>o.dst == some t | none=>false) ∘ Nat.succ)=fun j=>match l[j]? with | some o=>o.dst == some t | none=>false:=by
    funext j;simp
   rw[this];cases (List.range l.length).find? (fun j=>match l[j]? with | some o=>o.dst == some t | none=>false) with
   | none=>rfl
   | some j=>simp;omega
theorem M6 (ops:Array bb) (t:Nat) :sY t 0 ops.toList=hY ops t:=by
 rw[M7];unfold hY;simp only[p8,rr,nW,Option.map_id_fun',id_eq]
 all_goals congr 1
theorem Qu {q:List Nat} {ops:Array bb} (h:BT q ops=true) :o2 ops (l7 q):=by
 unfold BT at h;rw[bH] at h;obtain⟨h,D⟩:=h;have m:∀ (i:Nat) (g:bb),ops[i]?=some g->_:=fun i g j=>FU _ 0 h i g (by simpa using j)
 simp only[hr,bH] at m;refine⟨fun i g e j B w=>?_,fun i g p j C=>?_,fun i g t j z=>?_,fun i g t p j F o=>?_,D⟩
 ·have:=(m i g j).1.1.2;rw[gg] at this;have:=this e (by simpa using B);rw[w] at this;simp only[xN,AJ] at this;simpa [A2] using this
 ·have:=iq (m i g j).1.1.1;have u:uW (q.getD i 0) p=true:=C;rw[this] at u;obtain⟨e,h1,v⟩:=BX q p _ u;exact⟨e,by simpa using h1,v⟩
 ·have:=(m i g j).1.2;rw[z] at this;simp only at this;rw[M6] at this;cases o:hY ops t with
  | none=>rw[o] at this;cases this
  | some p=>rw[o] at this;simp only at this;rw[iq this]
 ·have:=(m i g j).2;rw[gg] at this;have:=this t F;rw[M6,o] at this;simp only[qb] at this;rcases this with (h1 | h1) | h1
  ·exact .inl h1
  ·exact .inr (.inl h1)
  ·exact .inr (.inr (iq h1))
theorem zw {q:List Nat}:∀ {l:List Nat},zu q l=true->∀ (p g:Nat) (i j:Nat),l[p]?=some i->l[g]?=some j->p<g->i≠j/\l7 q i j=false
 | [],_,p,g,i,j,m,_,_=>by simp at m
 | x::l,h,p,g,i,j,m,o,u=>by
  simp only[zu,bH,gg] at h;cases g with
  | zero=>omega
  | succ g=>
   simp only[jg] at o;cases p with
   | zero=>
    simp only[ho,bd] at m;subst m;have:=h.1 j (cE o);simp only[s8] at this;refine⟨fun t=>?_,this.2⟩;subst t;rw[pG rfl] at this;cases this.1
   | succ p=>
    simp only[jg] at m;exact zw h.2 p g i j m o F
section
variable {P:bj} {G:Nat->U}
def Ns (P:bj) (G:Nat->U) (call:A8) :Prop:=∀ f args h r h',call f args h=some (r,h')->cZ P G (.call f args h r h')
theorem JF {call:A8} (m:Ns P G call) {op:Op} {s:Bc} {h h' : aH} {v:U} (g:hV P G call op s h=some (v,h')) :cZ P G (.op op (look s) h v h'):=by
 unfold hV at g;split at g
 ·rename_i o h1 j;cases g;exact .wS j
 ·rename_i f args h1 j;exact .sq j (m _ _ _ _ _ g)
 ·cases g
theorem Ad {ops:Array bb} {s0:k1} {t:bB} {tr:List bB} (p:Nat) :fu ops s0 (t::tr) (p+1)=fu ops (jx ops s0 t) tr p:=by simp[fu]
end
section
variable {P:bj} {G:Nat->U}
theorem uI (w:aQ) (R:Nat->Prop) (j:∀ k,w.heap.size<=k->R k) :bw R w.heap.size w aH.empty (fun _=>none) where
 blk:=fun b h m=>by cases m
 inj:=fun b o h p g=>by rw[yw] at g;cases g
 base:=fun b h g=>by rw[yw] at g;cases g
 fresh:=fun b _=>yw b
 up:=j
 size:=aI _
 iO:=fun b _=>rfl
theorem mT (muZ:bZ) (k:Nat) :¬ Own aH.empty muZ k:=by rintro⟨b,h,g,_⟩;rw[yw] at g;cases g
theorem EL (B:P.follows .mixedOrders=true) (m:∀ g,(G g).aw=true) {f:cf} {args:ag} {r:U} {h' : aH} (p:cZ P G (.call f args aH.empty r h'))
  {w:aQ} {A:Nat->Prop} {vs:Array aA} (q:∀ g,dd w A (G g) (.pointer (some ⟨g,0,none⟩))) (z:vs.size=args.length)
  (D:∀ (j:Nat) (c:U) (v:aA),args[j]?=some c->vs[j]?=some v->dd w A c v) :
  Calls P f vs w fun e w'=>∃ v muZ',e=.returned v/\eD w w'/\bw (fun k=>A k\/w.heap.size<=k) w.heap.size w' h' muZ'/\az w' (fun k=>A k\/w.heap.size<=k) h' muZ' r v:=by
 have up:∀ {c:U} {v:aA},dd w A c v->az w (fun k=>A k\/w.heap.size<=k) aH.empty (fun _=>none) c v:=fun o=>o.up (fun k _ hk=>⟨.inl hk,mT _ k⟩)
 refine (sM B m p (fun k=>A k\/w.heap.size<=k) w.heap.size w (fun _=>none) vs (uI w _ fun k hk=>.inr hk) (fun g=>⟨m g,up (q g)⟩) z (fun j c v t u=>up (D j c v t u))).mono ?_;rintro e w' ⟨v,muZ',rfl,h,rel,C⟩;exact⟨v,muZ',rfl,⟨⟨h.os,h.tape,h.output,h.size,fun k hk=>h.bq k hk (mT _ k)⟩,h.drawn⟩,rel,C⟩
theorem Yl (t:P.follows .mixedOrders=true) (h:∀ g,(G g).aw=true) {f:cf} {args:ag} {h' : aH} (o:cZ P G (.call f args aH.empty (.bool true) h'))
  {w:aQ} {A:Nat->Prop} {vs:Array aA} (p:∀ g,dd w A (G g) (.pointer (some ⟨g,0,none⟩))) (q:vs.size=args.length)
  (z:∀ (j:Nat) (c:U) (v:aA),args[j]?=some c->vs[j]?=some v->dd w A c v) :
  Calls P f vs w fun e w'=>e=.returned (.bool true)/\RowKit.Below w.heap.size w w':=by refine (EL t h o p q z).mono ?_;rintro e w' ⟨v,muZ',rfl,m,_,u⟩;cases u;exact⟨rfl,m.toBelow⟩
def FE:Nat->U:=fun _=>.bad
end
section
variable {alZ:Type}
theorem q8:∀ (k k' : Nat) (t:cu alZ) (n:Nat) (x:alZ),n<k->n<k'->t.iA k n x=t.iA k' n x
 | 0,_,_,_,_,h,_=>F
 | _+1,0,_,_,_,_,h=>F
 | k+1,k'+1,t,n,x,h,h'=>by
  by_cases g:n=0
  ·subst g;cases t<;>rfl
  ·have j:Nat.beq n 0=false:=ir g;cases t with
   | nil=>
    unfold cu.iA;simp only[j];rw[q8 k k' .nil (n / 2) x F F,q8 k k' .nil (n / 2 - 1) x F F]
   | node l m r=>
    unfold cu.iA;simp only[j];rw[q8 k k' l (n / 2) x F F,q8 k k' r (n / 2 - 1) x F F]
def cu.lt:cu alZ->cu alZ | .nil=>.nil | .node l _ _=>l
def cu.rt:cu alZ->cu alZ | .nil=>.nil | .node _ _ r=>r
def cu.mid:cu alZ->Option alZ | .nil=>none | .node _ v _=>v
theorem nI (t:cu alZ) (x:alZ) :t.set 0 x=.node t.lt (some x) t.rt:=by cases t<;>rfl
theorem kO (t:cu alZ) (m:Nat) (x:alZ) :t.set (2*m+1) x=.node (t.lt.set m x) t.mid t.rt:=by
 have h1:Nat.beq (2*m+1) 0=false:=ir F;have g:Nat.beq ((2*m+1) % 2) 1=true:=pG F;have h:(2*m+1) / 2=m:=F;cases t with
 | nil=>show cu.iA (2*m+1+1) .nil (2*m+1) x=_;unfold cu.iA;simp only[h1,g,h];rw[q8 _ (m+1) _ _ _ F F];rfl
 | node l j r=>show cu.iA (2*m+1+1) (.node l j r) (2*m+1) x=_;unfold cu.iA;simp only[h1,g,h];rw[q8 _ (m+1) _ _ _ F F];rfl
theorem kN (t:cu alZ) (m:Nat) (x:alZ) :t.set (2*m+2) x=.node t.lt t.mid (t.rt.set m x):=by
 have h1:Nat.beq (2*m+2) 0=false:=ir F;have g:Nat.beq ((2*m+2) % 2) 1=false:=ir F;have h:(2*m+2) / 2 - 1=m:=F;cases t with
 | nil=>show cu.iA (2*m+2+1) .nil (2*m+2) x=_;unfold cu.iA;simp only[h1,g,h];rw[q8 _ (m+1) _ _ _ F F];rfl
 | node l j r=>show cu.iA (2*m+2+1) (.node l j r) (2*m+2) x=_;unfold cu.iA;simp only[h1,g,h];rw[q8 _ (m+1) _ _ _ F F];rfl
theorem C1 (n:Nat) :n=0\/(∃ m,m<n/\n=2*m+1)\/∃ m,m<n/\n=2*m+2:=by
 rcases Nat.eq_zero_or_pos n with h | h
 ·exact .inl h
 ·rcases Nat.mod_two_eq_zero_or_one n with g | g
  ·exact .inr (.inr ⟨n / 2 - 1,F,F⟩)
  ·exact .inr (.inl ⟨n / 2,F,F⟩)
theorem Xh (n:Nat) :∀ (t:cu alZ) (x y:alZ),(t.set n x).set n y=t.set n y:=by
 induction n using Nat.strongRecOn with
 | _ n j=>
  intro t x y;rcases C1 n with rfl | ⟨h,g,rfl⟩ | ⟨h,g,rfl⟩
  ·rw[nI t x,nI t y,nI];rfl
  ·rw[kO t,kO t,kO];simp only[cu.lt,cu.mid,cu.rt,j h g]
  ·rw[kN t,kN t,kN];simp only[cu.lt,cu.mid,cu.rt,j h g]
theorem set_comm (n:Nat) :∀ (t:cu alZ) (k:Nat) (x y:alZ),n≠k->(t.set n x).set k y=(t.set k y).set n x:=by
 induction n using Nat.strongRecOn with
 | _ n m=>
  intro t k x y p;rcases C1 n with rfl | ⟨j,g,rfl⟩ | ⟨j,g,rfl⟩<;>rcases C1 k with rfl | ⟨h,o,rfl⟩ | ⟨h,o,rfl⟩
  ·exact bP rfl p
  ·rw[nI t,kO,kO t,nI];rfl
  ·rw[nI t,kN,kN t,nI];rfl
  ·rw[kO t,nI,nI t,kO];rfl
  ·rw[kO t,kO,kO t,kO];simp only[cu.lt,cu.mid,cu.rt];rw[m j g _ h _ _ F]
  ·rw[kO t,kN,kN t,kO];rfl
  ·rw[kN t,nI,nI t,kN];rfl
  ·rw[kN t,kO,kO t,kN];rfl
  ·rw[kN t,kN,kN t,kN];simp only[cu.lt,cu.mid,cu.rt];rw[m j g _ h _ _ F]
end
abbrev ae:=List am
def kC:Nat->cu am->ae->cu am
 | _,g,[]=>g
 | i,g,c::cs=>kC (i+1) (g.set i c) cs
def aX (l:ae) :aH:=⟨l.length,kC 0 .nil l⟩
@[simp] theorem Ba (l:ae) :(aX l).n=l.length:=rfl
theorem H5:∀ (l:ae) (i:Nat) (t:cu am) (c:am),kC i t (l++[c])=(kC i t l).set (i+l.length) c
 | [],i,t,c=>rfl
 | x::l,i,t,c=>by
  simp only[jK,kC,dE];rw[H5 l,show i+1+l.length=i+(l.length+1) by omega]
theorem lI (l:ae) (c:am) :(aX l).push c=aX (l++[c]):=by unfold aX aH.push;rw[H5];simp
theorem H8:∀ (l:ae) (i j:Nat) (t:cu am) (c:am),i<j->(kC j t l).set i c=kC j (t.set i c) l
 | [],_,_,_,_,_=>rfl
 | x::l,i,j,t,c,h=>by
  simp only[kC];rw[H8 l i (j+1) _ c F,set_comm j t i x c F]
theorem H7:∀ (l:ae) (i b:Nat) (t:cu am) (c:am),b<l.length->(kC i t l).set (i+b) c=kC i t (l.set b c)
 | [],_,_,_,_,h=>by simp at h
 | x::l,i,0,t,c,_=>by
  simp only[kC,xU,nW];rw[H8 l i (i+1) _ c F,Xh]
 | x::l,i,b+1,t,c,h=>by
  simp only[kC,Fp];rw[<-H7 l (i+1) b _ c (by simpa using h),show i+(b+1)=i+1+b by omega]
theorem mu {l:ae} {b:Nat} (c:am) (h:b<l.length) :(aX l).set b c=aX (l.set b c):=by unfold aX aH.set;have:=H7 l 0 b .nil c h;rw[hr] at this;simp only[this,kj]
theorem H6:∀ (l:ae) (i:Nat) (t:cu am) (b:Nat),(kC i t l).get b=if i<=b/\b<i+l.length then l[b - i]? else t.get b
 | [],i,t,b=>by simp only[kC,hq];rw[ak F]
 | x::l,i,t,b=>by
  simp only[kC,dE];rw[H6 l,cu.Cj];by_cases h1:i+1<=b/\b<i+1+l.length
  ·rw[aj h1,aj F,show b - i=(b - (i+1))+1 by omega,jg]
  ·rw[ak h1];by_cases g:b=i
   ·subst g;rw[aj rfl,aj F];simp
   ·rw[ak g,ak F]
theorem jO (l:ae) (b:Nat) :(aX l).f b=match l[b]? with | some c=>c | none=>.none:=by
 unfold aX aH.f;simp only[H6,ek,true_and,hr,vi];by_cases h:b<l.length
 ·rw[aj h];cases l[b]?<;>rfl
 ·rw[ak h,ea F];rfl
theorem hI {l:ae} {b n:Nat} {cs:ag}:(aX l).f b=.cells n cs<->l[b]?=some (.cells n cs):=by
 rw[jO];cases h:l[b]? with
 | none=>simp
 | some c=>simp
theorem a2 {l:ae} {b:Nat} {c:am} (h:l[b]?=some c) :b<l.length:=(aK.1 h).1
end Go.bh

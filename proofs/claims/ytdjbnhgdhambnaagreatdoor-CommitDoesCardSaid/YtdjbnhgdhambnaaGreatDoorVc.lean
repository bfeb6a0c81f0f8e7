/-
  The canonical machine, part K: running code.
-/
import Derived.Test.YtdjbnhgdhambnaaGreatDoorVb
import Derived.Orders
import Derived.Still
import Derived.Scope
import Derived.LoopN
import Derived.ProofKit
set_option maxHeartbeats 16000000
set_option maxRecDepth 100000
set_option linter.unusedVariables false
set_option linter.unusedSimpArgs false
set_option linter.unnecessarySimpa false
namespace Go.bh
open Go
inductive qt where
 | normal
 | exit (id:Nat)
 | ret
def qt.out:qt->Exit
 | .normal=>.normal
 | .exit id=>.exit id
 | .ret=>.ret
def iJ (ops:Array a8) (sgZ:Nat->U) (o:a8) :Option Bool:=
 match o.guard with
 | none=>some true
 | some (g,h)=>match (ops[g]?).bind (·.dst) with
  | none=>some false
  | some d=>match sgZ d with
   | .bool b=>some (b == h)
   | .bad=>none
   | _=>some false
def gC (sgZ:Nat->U) (g:Option Tmp) (c:U) :Nat->U:=match g with | some d=>br sgZ d c | none=>sgZ
def hO (N:Nat) (g:Option Tmp) :Bool:=match g with | some d=>decide (d<N) | none=>true
def uH (P:bp) (h:aM) (sgZ:Nat->U) :ResultVar->Option U
 | .tmp g=>some (sgZ g)
 | .cell a g=>oT P h g (sgZ a)
def ri (P:bp) (h:aM) (sgZ:Nat->U) :List ResultVar->Option (ag)
 | []=>some []
 | r::g=>match uH P h sgZ r,ri P h sgZ g with
  | some j,some m=>some (j::m)
  | _,_=>none
def sS:ag->U
 | [g]=>g
 | h=>.aX h
def uG (P:bp) (h:aM) (sgZ:Nat->U) (fn:Func) :Option U:=(ri P h sgZ fn.results.toList).map sS
mutual
def U.ar:U->Bool
 | .af cs=>am cs
 | .aX cs=>am cs
 | .b6 cs _=>am cs
 | .bu _ g=>r1 g
 | .fn _ a b=>am a&&am b
 | .fW _ h=>h.ar
 | .ptr .. | .Z .. | .mp _ | .it _=>false
 | _=>true
def am:ag->Bool
 | []=>true
 | c::cs=>c.ar&&am cs
def r1:List (ag)->Bool
 | []=>true
 | c::cs=>am c&&r1 cs
end
def de (w:aT) (A:Nat->Prop) (c:U) (v:aE) :Prop:=aB w A aM.empty (fun _=>none) c v
structure ew (w w' : aT) :Prop extends RowKit.Below w.heap.size w w' where
 drawn:w.drawn<=w'.drawn
def jV (G:Nat->U) (w:aT) (R:Nat->Prop) (h:aM) (muZ:b3) :Prop:=∀ g,(G g).ar=true/\aB w R h muZ (G g) (.pointer (some ⟨g,0,none⟩))
def jU (P:bp) (G:Nat->U) (f:cj) (args:ag) (h:aM) (r:U) (h' : aM) :Prop:=
 ∀ (g:Nat->Prop) (B:Nat) (w:aT) (muZ:b3) (m:Array aE),bF g B w h muZ->jV G w g h muZ->m.size=args.length->
  (∀ (o:Nat) (c:U) (j:aE),args[o]?=some c->m[o]?=some j->aB w g h muZ c j)->
  Calls P f m w fun e w'=>∃ j muZ',e=.returned j/\cZ w h muZ w' h' muZ'/\bF g B w' h' muZ'/\aB w' g h' muZ' r j
def i8 (P:bp) (G:Nat->U) (f:cj) (args:ag) (r:U) :Prop:=
 ∀ (w:aT) (A:Nat->Prop) (h:Array aE),(∀ j,de w A (G j) (.pointer (some ⟨j,0,none⟩)))->h.size=args.length->
  (∀ (m:Nat) (c:U) (g:aE),args[m]?=some c->h[m]?=some g->de w A c g)->
  Calls P f h w fun e w'=>∃ g,e=.returned g/\ew w w'/\de w' (fun k=>A k\/w.heap.size<=k) r g
def nt (P:bp) (G:Nat->U) (f:cj) (args:ag) (r:U) :Prop:=
 ∀ (w:aT) (A:Nat->Prop) (h:Array aE),(∀ j,de w A (G j) (.pointer (some ⟨j,0,none⟩)))->h.size=args.length->
  (∀ (m:Nat) (c:U) (g:aE),args[m]?=some c->h[m]?=some g->de w A c g)->
  Calls P f h w fun e w'=>∃ g,e=.returned g/\ew w w'/\de w' (fun k=>w.heap.size<=k) r g
inductive fp (h:aM) :U->U->Prop
 | same (c:U) (z:c.ar=true) :fp h c c
 | af (cs j:ag) (u:j.length=cs.length) (v:∀ (m:Nat) (c g:U),cs[m]?=some c->j[m]?=some g->fp h c g) :fp h (.af cs) (.af j)
 | aX (cs j:ag) (u:j.length=cs.length) (v:∀ (m:Nat) (c g:U),cs[m]?=some c->j[m]?=some g->fp h c g) :fp h (.aX cs) (.aX j)
 | Z (p b o len cap q:Nat) (cs:ag) (t:List (ag)) (w:h.f b=.cells q cs) (u:t.length=len) (C:∀ e∈t,e.length=p)
   (B:o+len*p<=cs.length)
   (v:∀ (i m:Nat) (e:ag) (c g:U),t[i]?=some e->e[m]?=some g->cs[o+(i*p+m)]?=some c->fp h c g) :fp h (.Z p b o len cap q) (.bu p t)
 | sN (p b o cap q:Nat) :fp h (.Z p b o 0 cap q) (.bu p [])
 | ptr (b o q:Nat) (cs j:ag) (w:h.f b=.cells q cs) (u:j.length=cs.length) (v:∀ (m:Nat) (c g:U),cs[m]?=some c->j[m]?=some g->fp h c g) :fp h (.ptr b o q) (.b6 j o)
mutual
def U.flat:U->Bool
 | .af cs=>kH cs
 | .aX cs=>kH cs
 | .fW _ g=>g.flat
 | .bool _ | .int .. | .str _ | .iA | .ad | .gY | .ic | .hS=>true
 | _=>false
def kH:ag->Bool
 | []=>true
 | c::cs=>c.flat&&kH cs
end
inductive x6 where
 | pure | new | fc
def kP (P:bp) (j:aY->U) :Op->Option (ag × (Nat->U))
 | .alloc h=>(ga P h).map fun g=>(g,fun b=>.ptr b 0 g.length)
 | .box _ x=>(j x).cells.map fun cs=>(cs,fun b=>.ptr b 0 cs.length)
 | .buildSlice h len parts=>match gh P h with
  | some e=>match ca P e,ga P e with
   | some g,some zero=>if zero.length=g/\len*g<=16777216 then
     (en (fun i=>some (i*g,g)) (cQ zero len) (parts.toList.map fun m=>(m.1,j m.2))).map fun cs=>(cs,fun b=>.Z g b 0 len len (len*g))
    else none
   | _,_=>none
  | none=>none
 | .makeSlice h l c=>match gh P h,asInt (j l),asInt (j c) with
  | some e,some l,some c=>match ca P e,gK P e,ga P e with
   | some g,some o,some zero=>
    if zero.length=g/\0<=l/\l<=c/\c<9223372036854775808/\o*c<=dj then
     some (cQ zero c.toNat,fun b=>.Z g b 0 l.toNat c.toNat (c.toNat*g))
    else none
   | _,_,_=>none
  | _,_,_=>none
 | _=>none
def h0 (ops:Array a8) (t:Nat) :Option Nat:=(List.range ops.size).find? fun i=>match ops[i]? with | some g=>g.dst == some t | none=>false
def kG (ops:Array a8) (pre:Nat->Nat->Bool) (val:Nat->U) (sgZ:Nat->U) (i:Nat) (o:a8) :Nat->U:=fun g=>
 if (o.looksAt ops).contains g then
  match h0 ops g with
  | some h=>if pre i h then val h else sgZ g
  | none=>sgZ g
 else .bad
structure po (ops:Array a8) (pre:Nat->Nat->Bool) :Prop where
 wb:∀ (i:Nat) (o:a8) (e:Edge),ops[i]?=some o->e∈o.after->Region.binds .any e=true->e.on<i
 chain:∀ (i:Nat) (o:a8) (j:Nat),ops[i]?=some o->pre i j=true->∃ e∈o.after,Region.binds .any e=true/\(e.on=j\/pre e.on j=true)
 one:∀ (i:Nat) (o:a8) (t:Tmp),ops[i]?=some o->o.dst=some t->h0 ops t=some i
 acc:∀ (i:Nat) (o:a8) (t:Tmp) (j:Nat),ops[i]?=some o->t∈o.looksAt ops->h0 ops t=some j->pre i j=true\/pre j i=true\/j=i
 adq:Region.noSelect ops=true
def rf (h:aM) (l:List (ag)) :aM:=l.foldl (fun h cs=>h.push (.cells cs.length cs)) h
def lN (h h' : aM) :Prop:=∃ l,h'=rf h l
theorem Kh:∀ (l:List (ag)) (h:aM),(rf h l).n=h.n+l.length
 | [],h=>rfl
 | c::l,h=>by
  have:=Kh l (h.push (.cells c.length c));simp only[rf,xV,dM] at this ⊢;rw[this];simp only[jk];omega
theorem Ki:∀ (l:List (ag)) (h:aM) (b:Nat),b<h.n->(rf h l).f b=h.f b
 | [],h,b,_=>rfl
 | c::l,h,b,g=>by
  have:=Ki l (h.push (.cells c.length c)) b (by simp only[jk];omega);simp only[rf,xV] at this ⊢;rw[this];simp only[dV];exact bS _ _ _ _ F
theorem Kg:∀ (l:List (ag)) (h:aM),(∀ b,h.n<=b->h.f b=.none)->∀ b,(rf h l).n<=b->(rf h l).f b=.none
 | [],h,g=>g
 | c::l,h,g=>by
  refine Kg l (h.push (.cells c.length c)) (fun b j=>?_);simp only[dV,jk] at j ⊢;rw[bS _ _ _ _ F];exact g b F
theorem lN.n {h h' : aM} (g:lN h h') :h.n<=h'.n:=by obtain⟨l,rfl⟩:=g;rw[Kh];omega
theorem lN.same {h h' : aM} (g:lN h h') (b:Nat) (j:b<h.n) :h'.f b=h.f b:=by obtain⟨l,rfl⟩:=g;exact Ki l h b j
theorem lN.fresh {h h' : aM} (g:lN h h') (j:∀ b,h.n<=b->h.f b=.none) :∀ b,h'.n<=b->h'.f b=.none:=by obtain⟨l,rfl⟩:=g;exact Kg l h j
inductive iN (h j:aM) :U->U->Prop
 | same (c:U) :iN h j c c
 | af (cs u:ag) (v:u.length=cs.length) (w:∀ (o:Nat) (c m:U),cs[o]?=some c->u[o]?=some m->iN h j c m) :iN h j (.af cs) (.af u)
 | Z (g b p len cap t:Nat) (cs:ag) (q:List (ag)) (z:h.f b=.cells t cs) (B:j.f b=.dead) (v:q.length=len) (D:∀ e∈q,e.length=g)
   (C:p+len*g<=cs.length)
   (w:∀ (i o:Nat) (e:ag) (c m:U),q[i]?=some e->e[o]?=some m->cs[p+(i*g+o)]?=some c->iN h j c m) :iN h j (.Z g b p len cap t) (.bu g q)
 | sN (g b p cap t:Nat) :iN h j (.Z g b p 0 cap t) (.bu g [])
structure iO (h g:aM) :Prop where
 n:g.n=h.n
 blk:∀ b,g.f b=h.f b\/∃ sz cs,h.f b=.cells sz cs/\(g.f b=.dead\/∃ m,g.f b=.cells sz m/\m.length=cs.length/\∀ (j:Nat) (c yr:U),cs[j]?=some c->m[j]?=some yr->iN h g c yr)
inductive J where
 | code (c:Code) (N:Nat) (g:Nat->U) (h:aM) (e:qt) (j:Nat->U) (h' : aM)
 | ops (all:Array a8) (l:List a8) (N:Nat) (g:Nat->U) (h:aM) (j:Nat->U) (h' : aM)
 | op (op:Op) (g:Nat->U) (h:aM) (m:U) (h' : aM)
 | call (f:cj) (args:ag) (h:aM) (r:U) (h' : aM)
def tP (pre:Nat->Nat->Bool) (m:Nat) (g:Nat->Nat) (i k:Nat) :Prop:=k<=m/\(∀ q,q<m->pre i (g q)=true->q<k)/\∀ q,q<m->pre (g q) i=true->k<=q
inductive c7 (P:bp) (G:Nat->U) :J->Prop where
 | skip (N g h) :c7 P G (.code .skip N g h .normal g h)
 | label (l N g h) :c7 P G (.code (.label l) N g h .normal g h)
 | ret (N g h) :c7 P G (.code .ret N g h .ret g h)
 | exit (id N g h) :c7 P G (.code (.exit id) N g h (.exit id) g h)
 | Lk {a b N g h D h1 e m h'}:c7 P G (.code a N g h .normal D h1)->c7 P G (.code b N D h1 e m h')->c7 P G (.code (.seq a b) N g h e m h')
 | Et {a b N g h e m h'}:c7 P G (.code a N g h e m h')->e≠.normal->c7 P G (.code (.seq a b) N g h e m h')
 | cond {c x y N g h b e m h'}:dA G g c=.bool b->c7 P G (.code (if b then x else y) N g h e m h')->c7 P G (.code (.cond c x y) N g h e m h')
 | ym {id c N g h e m h'}:c7 P G (.code c N g h e m h')->e≠.exit id->c7 P G (.code (.block id c) N g h e m h')
 | Gy {id c N g h m h'}:c7 P G (.code c N g h (.exit id) m h')->c7 P G (.code (.block id c) N g h .normal m h')
 | ug {c N g h D h1 e m h'}:c7 P G (.code c N g h .normal D h1)->c7 P G (.code (.loop c) N D h1 e m h')->c7 P G (.code (.loop c) N g h e m h')
 | C9 {c N g h e m h'}:c7 P G (.code c N g h e m h')->e≠.normal->c7 P G (.code (.loop c) N g h e m h')
 | scope {c N g h e m h'}:c7 P G (.code c N g h e m h')->c7 P G (.code (.scope c) N g h e m h')
 | region {id ops N g h m h'}:c7 P G (.ops ops ops.toList N g h m h')->c7 P G (.code (.region id ops false) N g h .normal m h')
 | draw {id ops N g h m h'} (pre:Nat->Nat->Bool) (val:Nat->U) (W:Nat->Bool) (cls:Nat->x6) (p:Nat) (o:Nat->Nat) (v H:Nat->aM) (z:Nat->Nat) (cells:Nat->ag)
   (ar:po ops pre)
   (V:∀ (i:Nat) (j:a8),ops[i]?=some j->hO N j.dst=true)
   (Q:lN h (v 0)) (ai:h'=v p) (aq:m=fun F=>match h0 ops F with | some i=>val i | none=>g F)
   (X:∀ (i:Nat) (j:a8),ops[i]?=some j->W i=true->cls i=.fc->∃ q,q<p/\o q=i)
   (Y:∀ q,q<p->∃ j,ops[o q]?=some j/\W (o q)=true/\cls (o q)=.fc)
   (ak:∀ q B,q<p->B<p->q<B->pre (o B) (o q)=true)
   (ah:∀ q B,q<p->B<p->o q=o B->q=B)
   (ap:∀ (i:Nat) (j:a8),ops[i]?=some j->iJ ops (kG ops pre val g i j) j=some (W i))
   (ao:∀ (i:Nat) (j:a8),ops[i]?=some j->W i=false->val i=fC)
   (al:∀ (i:Nat) (j:a8),ops[i]?=some j->W i=true->cls i=.pure->∀ k,tP pre p o i k->cO P (v k) (dA G (kG ops pre val g i j)) j.op=some (.val (val i) (v k)))
   (aj:∀ (i:Nat) (j:a8),ops[i]?=some j->W i=true->cls i=.new->∃ mk,kP P (dA G (kG ops pre val g i j)) j.op=some (cells i,mk)/\val i=mk (z i)/\h.n<=z i ∧
    ∀ k,tP pre p o i k->(v k).f (z i)=.cells (cells i).length (cells i))
   (R:∀ (i t:Nat) (j O:a8),ops[i]?=some j->ops[t]?=some O->W i=true->W t=true->cls i=.new->cls t=.new->z i=z t->i=t)
   (S:∀ (i:Nat) (j:a8) (q:Nat),ops[i]?=some j->W i=true->cls i=.new->q<p->z i<(v q).n\/(H q).n<=z i)
   (ae:∀ q,q<p->lN (H q) (v (q+1)))
   (T:∀ (q:Nat) (j:a8),q<p->ops[o q]?=some j->c7 P G (.op j.op (kG ops pre val g (o q) j) (v q) (val (o q)) (H q))) :
   c7 P G (.code (.region id ops true) N g h .normal m h')
 | JD {all N g h}:c7 P G (.ops all [] N g h g h)
 | JF {all j l N g h m h'}:iJ all g j=some false->hO N j.dst=true->c7 P G (.ops all l N (gC g j.dst fC) h m h')->c7 P G (.ops all (j::l) N g h m h')
 | JE {all j l N g h u h1 m h'}:iJ all g j=some true->hO N j.dst=true->c7 P G (.op j.op g h u h1)->c7 P G (.ops all l N (gC g j.dst u) h1 m h')->c7 P G (.ops all (j::l) N g h m h')
 | zI {op g h u h'}:cO P h (dA G g) op=some (.val u h')->c7 P G (.op op g h u h')
 | uw {op g h f args h1 u h'}:cO P h (dA G g) op=some (.call f args h1)->c7 P G (.call f args h1 u h')->c7 P G (.op op g h u h')
 | AX {op g h u h' K I}:c7 P G (.op op g h u h')->iO h' I->iN h' I u K->c7 P G (.op op g h K I)
 | inline {f fn c args h e m h' r}:P.funcs[f]?=some fn->fn.body=some c->
   c7 P G (.code c (args.length+(fn.ntmps - args.length)) (fun F=>args.getD F fC) h e m h')->(e=.normal\/e=.ret)->uG P h' m fn=some r->c7 P G (.call f args h r h')
 | pure {f args h r}:i8 P G f args r->am args=true->c7 P G (.call f args h r h)
 | Kc {f args w h r}:i8 P G f w r->w.length=args.length->(∀ (t:Nat) (c C:U),args[t]?=some c->w[t]?=some C->fp h c C)->r.flat=true->c7 P G (.call f args h r h)
 | ext {f args h r h'}:jU P G f args h r h'->c7 P G (.call f args h r h')
 | Kd {f args w h r}:nt P G f w r->w.length=args.length->(∀ (t:Nat) (c C:U),args[t]?=some c->w[t]?=some C->fp h c C)->c7 P G (.call f args h r h)
section
variable {P:bp} {G:Nat->U}
structure gI (N:Nat) (w:aT) (R:Nat->Prop) (h:aM) (muZ:b3) (sgZ:Nat->U) (a:Act) :Prop where
 size:a.tmps.size=N
 defers:a.defers=[]
 val:∀ t,aB w R h muZ (sgZ t) (a.tmps.getD t undef)
theorem jV.ext {w w' : aT} {R:Nat->Prop} {h h' : aM} {muZ muZ' : b3} (g:jV G w R h muZ) (e:cZ w h muZ w' h' muZ') :jV G w' R h' muZ':=fun i=>⟨(g i).1,(g i).2.ext e⟩
theorem gI.ext {N:Nat} {w w' : aT} {R:Nat->Prop} {h h' : aM} {muZ muZ' : b3} {sgZ:Nat->U} {a:Act} (s:gI N w R h muZ sgZ a) (e:cZ w h muZ w' h' muZ') :gI N w' R h' muZ' sgZ a:=
 ⟨s.size,s.defers,fun g=>(s.val g).ext e⟩
theorem gI.dA {N:Nat} {w:aT} {R:Nat->Prop} {h:aM} {muZ:b3} {sgZ:Nat->U} {a:Act} (s:gI N w R h muZ sgZ a) (g:jV G w R h muZ) (x:aY) :aB w R h muZ (dA G sgZ x) (a.eval x):=by
 cases x with
 | tmp m=>exact s.val m
 | const o=>exact aB.q5 o
 | global i=>exact (g i).2
 | func f=>exact .fn f [] [] #[] #[] rfl rfl (fun _ _ _ j=>by simp at j) (fun _ _ _ j=>by simp at j)
theorem xH {w:aT} {R:Nat->Prop} {h:aM} {muZ:b3}:aB w R h muZ fC undef:=.aX [] #[] rfl (fun _ _ _ g=>by simp at g)
theorem gI.put {N:Nat} {w:aT} {R:Nat->Prop} {h:aM} {muZ:b3} {sgZ:Nat->U} {a:Act} (s:gI N w R h muZ sgZ a) {g:Option Tmp} (o:hO N g=true) {c:U} {v:aE} (q:aB w R h muZ c v) :
  gI N w R h muZ (gC sgZ g c) (a.put g v):=by
 cases g with
 | none=>exact s
 | some d=>
  have p:d<a.tmps.size:=by rw[s.size];simpa [hO] using o
  refine⟨by simp[Act.put,s.size],s.defers,fun m=>?_⟩;simp only[gC,Act.put];by_cases j:m=d
  ·subst j;rw[fK];simp[p];exact q
  ·rw[bS _ _ _ _ j];have:=s.val m;simpa [Fi (Ne.symm j)] using this
theorem Fc {w:aT} {R:Nat->Prop} {h:aM} {muZ:b3} {ops:Array a8} {sgZ:Nat->U} {tmps:Array aE} {o:a8} {b:Bool} (g:iJ ops sgZ o=some b)
  (C:∀ d,(∃ j z,o.guard=some (j,z)/\(ops[j]?).bind (·.dst)=some d)->aB w R h muZ (sgZ d) (tmps.getD d undef)) :Region.wanted o (yielded ops tmps)=b:=by
 unfold iJ at g;unfold Region.wanted;cases t:o.guard with
 | none=>rw[t] at g;simpa using g
 | some D=>
  obtain⟨j,z⟩:=D;rw[t] at g;simp only at g ⊢;unfold yielded;cases q:(ops[j]?).bind (·.dst) with
  | none=>
   rw[q] at g;cases g;simp
  | some d=>
   rw[q] at g;have m:=C d ⟨j,z,t,q⟩;simp only[qr] at g ⊢;cases B:tmps[d]? with
   | none=>
    have u:tmps.getD d undef=undef:=by simp[hh,B]
    rw[u] at m;cases p:sgZ d<;>rw[p] at g m<;>simp at g<;>try (subst g;simp)
    all_goals cases m
   | some v=>
    have u:tmps.getD d undef=v:=by simp[hh,B]
    rw[u] at m;cases p:sgZ d<;>rw[p] at g m<;>simp at g
    all_goals (cases m<;>(subst g;simp))
def lF (P:bp) (n:Nat) (c:Code) (Q:Exit->Act->aT->Prop) (a:Act) (w:aT) :Prop:=
 match c with
 | .loop g=>Code.rounds P g Q n a w
 | c=>c.wp P Q a w
theorem lF.wp {n:Nat} {c:Code} {Q:Exit->Act->aT->Prop} {a:Act} {w:aT} (h:lF P n c Q a w) :c.wp P Q a w:=by cases c<;>first | exact wp_loop_rounds n h | exact h
def rT (P:bp) (G:Nat->U) :J->Prop
 | .code c N m h e p h'=>∃ n,∀ (g:Nat->Prop) (B:Nat) (w:aT) (muZ:b3) (a:Act) (Q:Exit->Act->aT->Prop),bF g B w h muZ->jV G w g h muZ->gI N w g h muZ m a->
   (∀ j w' muZ',cZ w h muZ w' h' muZ'->bF g B w' h' muZ'->gI N w' g h' muZ' p j->Q e.out j w')->lF P n c Q a w
 | .ops all l N m h p h'=>∀ (g:Nat->Prop) (B:Nat) (w:aT) (muZ:b3) (a:Act) (Q:Exit->Act->aT->Prop),bF g B w h muZ->jV G w g h muZ->gI N w g h muZ m a->
   (∀ j w' muZ',cZ w h muZ w' h' muZ'->bF g B w' h' muZ'->gI N w' g h' muZ' p j->Q .normal j w')->wpList P all Q l a w
 | .op op m h u h'=>∀ (g:Nat->Prop) (B:Nat) (w:aT) (muZ:b3) (a:Act) (o:a8) (q:Act->aT->Prop) (Q:Exit->Act->aT->Prop),o.op=op->bF g B w h muZ->jV G w g h muZ->
   (∀ x,aB w g h muZ (dA G m x) (a.eval x))->(∀ t w' muZ',cZ w h muZ w' h' muZ'->bF g B w' h' muZ'->aB w' g h' muZ' u t->q (a.put o.dst t) w')->o.wp P a w q Q
 | .call f args h r h'=>jU P G f args h r h'
theorem KU {N:Nat} {w:aT} {R:Nat->Prop} {B:Nat} {h:aM} {muZ:b3} {sgZ:Nat->U} {a:Act} (rel:bF R B w h muZ) (s:gI N w R h muZ sgZ a) {fn:Func} {r:U} (z:uG P h sgZ fn=some r) :
  ∃ v,(results fn a.tmps).run P w=.ok v w/\aB w R h muZ r v:=by
 have one:∀ (x:ResultVar) (c:U),uH P h sgZ x=some c->∃ v,(∀ j:ResultVar->Sem aE,(∀ g,j (.tmp g)=pure (a.tmps.getD g undef))->(∀ p g,j (.cell p g)=(do loadVar g (<-asAddr (a.tmps.getD p undef))))->(j x).run P w=.ok v w)/\aB w R h muZ c v:=by
  intro x c C;cases x with
  | tmp g=>
   simp only[uH,bc] at C;subst C;exact⟨_,fun j h1 _=>by rw[h1];rfl,s.val g⟩
  | cell p g=>
   simp only[uH] at C;obtain⟨v,h1,q⟩:=IQ (P:=P) rel C (s.val p);refine⟨v,fun j _ ae=>?_,q⟩;rw[ae];cases I:a.tmps.getD p undef with
   | pointer K=>
    cases K with
    | none=>rw[I] at h1;simp[Instr.loadAt,Instr.sureAddr] at h1
    | some K=>rw[I] at h1;simpa [Instr.loadAt,Instr.sureAddr,asAddr,I] using h1
   | _=>rw[I] at h1;simp[Instr.loadAt,Instr.sureAddr] at h1
 have all:∀ (l:List ResultVar) (cs:ag),ri P h sgZ l=some cs->∃ m:List aE,(∀ j:ResultVar->Sem aE,(∀ g,j (.tmp g)=pure (a.tmps.getD g undef))->(∀ p g,j (.cell p g)=(do loadVar g (<-asAddr (a.tmps.getD p undef))))->(l.mapM j).run P w=.ok m w) ∧
   m.length=cs.length/\∀ (o:Nat) (c:U) (v:aE),cs[o]?=some c->m[o]?=some v->aB w R h muZ c v:=by
  intro l
  induction l with
  | nil=>intro cs u;simp only[ri,bc] at u;subst u;exact⟨[],fun j _ _=>V,rfl,fun _ _ _ H=>by simp at H⟩
  | cons x l aj=>
   intro cs u;unfold ri at u;split at u
   ·rename_i c W C G;cases u;obtain⟨v,h1,q⟩:=one x c C;obtain⟨m,t,X,Y⟩:=aj W G;refine⟨v::m,fun j Q S=>by simp only[pj,Sem.run_bind,h1 j Q S,Result.andThen_ok,t j Q S,Sem.run_pure],by simp[X],fun o O T D J=>?_⟩;cases o with
    | zero=>simp at D J;subst D J;exact q
    | succ o=>exact Y o O T (by simpa using D) (by simpa using J)
   ·cases u
 unfold uG at z;cases G:ri P h sgZ fn.results.toList with
 | none=>rw[G] at z;cases z
 | some cs=>
  rw[G] at z;simp only[cA,bc] at z;subst z;obtain⟨m,h1,q,t⟩:=all _ _ G;have ah:(results fn a.tmps).run P w=.ok (if H:m.toArray.size=1 then m.toArray[0] else .tuple m.toArray) w:=by
   unfold results;rw[MY];simp only[Sem.run_bind,Sem.run_map];rw[h1 _ (fun _=>rfl) (fun _ _=>rfl)];simp
  refine⟨_,ah,?_⟩
  match cs,m,q,t with
  | [],[],_,_=>exact .aX [] #[] rfl (fun _ _ _ H=>by simp at H)
  | [c],[v],_,t=>exact t 0 c v rfl rfl
  | c::O::cs,v::T::m,q,t=>
   simp only[x1,dM];rw[dif_neg F];exact .aX _ _ (by simpa using q) (fun o x y D ai=>t o x y D (by simpa using ai))
theorem nC {w:aT} {R:Nat->Prop} {h:aM} {muZ:b3} {c:U} {v:aE} (z:aB w R h muZ c v) :c.ar=true->de w (fun k=>R k/\¬ Own h muZ k) c v:=by
 have u:∀ (cs:ag),am cs=true->∀ (m:Nat) (c:U),cs[m]?=some c->c.ar=true:=by
  intro cs
  induction cs with
  | nil=>intro _ m c j;simp at j
  | cons x cs o=>
   intro g m c j;simp only[am,bU] at g;cases m with
   | zero=>simp at j;subst j;exact g.1
   | succ m=>exact o g.2 m c (by simpa using j)
 have W:∀ (q:List (ag)),r1 q=true->∀ (i:Nat) (e:ag),q[i]?=some e->am e=true:=by
  intro q
  induction q with
  | nil=>intro _ m c j;simp at j
  | cons x cs o=>
   intro g m c j;simp only[r1,bU] at g;cases m with
   | zero=>simp at j;subst j;exact g.1
   | succ m=>exact o g.2 m c (by simpa using j)
 have J:∀ b B v,Cell w R h muZ b B v->Cell w (fun k=>R k/\¬ Own h muZ k) aM.empty (fun _=>none) b B v:=fun b B v g=>
  ⟨g.here,g.one,⟨g.ro,g.free⟩,fun ⟨b,aj,h1,K,ai⟩=>by cases K⟩
 unfold de
 induction z with
 | bool b=>exact fun _=>.bool b
 | int k n=>exact fun _=>.int k n
 | str P=>exact fun _=>.str P
 | iA=>exact fun _=>.iA
 | ad=>exact fun _=>.ad
 | gY=>exact fun _=>.gY
 | ic=>exact fun _=>.ic
 | hS=>exact fun _=>.hS
 | af cs H D h1 z o=>exact fun g=>.af cs H D h1 fun m c v j t=>o m c v j t (u cs (by simpa [U.ar] using g) m c j)
 | aX cs H D z o=>exact fun g=>.aX cs H D fun m c v j t=>o m c v j t (u cs (by simpa [U.ar] using g) m c j)
 | ptr=>exact fun g=>by simp[U.ar] at g
 | jj=>exact fun g=>by simp[U.ar] at g
 | b6 cs F C B G g z o=>exact fun p=>.b6 cs F C B G (fun m j=>J _ _ _ (g m j)) fun m c j=>o m c j (u cs (by simpa [U.ar] using p) m c j)
 | Z=>exact fun g=>by simp[U.ar] at g
 | ff=>exact fun g=>by simp[U.ar] at g
 | gp=>exact fun g=>by simp[U.ar] at g
 | bu I q C F cap G V X g z o=>exact fun p=>.bu I q C F cap G V X (fun i m T j=>J _ _ _ (g i m T j)) fun i e O m c j=>o i e O m c j (u e (W q (by simpa [U.ar] using p) i e O) m c j)
 | eH I a cap=>exact fun _=>.eH I a cap
 | fn f first e3 Q cs S g h1 K Y ae=>
  intro p;simp only[U.ar,bU] at p;exact .fn f first e3 Q cs S g (fun m c v j t=>Y m c v j t (u _ p.1 m c j)) fun m c v j t=>ae m c v j t (u _ p.2 m c j)
 | mp=>exact fun g=>by simp[U.ar] at g
 | it=>exact fun g=>by simp[U.ar] at g
 | fW ah c v z o=>exact fun p=>.fW ah c v (o (by simpa [U.ar] using p))
 | fh l=>exact fun _=>.fh l
 | bad v=>exact fun _=>.bad v
theorem r2 {cs:ag} (h:am cs=true) :∀ (j:Nat) (c:U),cs[j]?=some c->c.ar=true:=by
 induction cs with
 | nil=>intro j c g;simp at g
 | cons x cs m=>
  intro j c g;simp only[am,bU] at h;cases j with
  | zero=>simp at g;subst g;exact h.1
  | succ j=>exact m h.2 j c (by simpa using g)
theorem de.up {w:aT} {A:Nat->Prop} {R:Nat->Prop} {h:aM} {muZ:b3} {c:U} {v:aE} (t:de w A c v) (O:∀ k,k<w.heap.size->A k->R k/\¬ Own h muZ k) :aB w R h muZ c v:=by
 have K:∀ b z v,Cell w A aM.empty (fun _=>none) b z v->Cell w R h muZ b z v:=fun b z v g=>
  have q:b<w.heap.size:=World.block_lt_of_cell? _ _ g.here
  ⟨g.here,g.one,(O b q g.ro).1,(O b q g.ro).2⟩
 unfold de at t
 induction t with
 | bool b=>exact .bool b
 | int k n=>exact .int k n
 | str P=>exact .str P
 | iA=>exact .iA
 | ad=>exact .ad
 | gY=>exact .gY
 | ic=>exact .ic
 | hS=>exact .hS
 | af cs J G h1 t o=>exact .af cs J G h1 o
 | aX cs J G t o=>exact .aX cs J G o
 | ptr b p C cs B q m=>cases m
 | jj b p C a j=>rcases j with j | ⟨n,cs,j,_⟩<;>cases j
 | b6 cs p D z I g t o=>exact .b6 cs p D z I (fun H F=>K _ _ _ (g H F)) o
 | Z u b p len cap C Q cs B q m=>cases m
 | ff u b p len cap C Q a aj g j=>rcases j with j | ⟨n,cs,j,_⟩<;>cases j
 | gp u b p C a cs B q m=>cases m
 | bu u S D p cap I X Y g t o=>exact .bu u S D p cap I X Y (fun i H W F=>K _ _ _ (g i H W F)) o
 | eH u a cap=>exact .eH u a cap
 | fn f first e3 T cs V g h1 ai ae ag=>exact .fn f first e3 T cs V g ae ag
 | mp b B q m=>cases m
 | it b B q m=>cases m
 | fW ah c v t o=>exact .fW ah c v o
 | fh l=>exact .fh l
 | bad v=>exact .bad v
theorem JK {R:Nat->Prop} {B:Nat} {w:aT} {h:aM} {muZ:b3} (rel:bF R B w h muZ) {k:Nat} (j:Own h muZ k) :k<w.heap.size:=by obtain⟨b,m,h1,g,rfl⟩:=j;exact rel.lt h1 g
theorem p4 {R:Nat->Prop} {B:Nat} {w w' : aT} {h:aM} {muZ:b3} (rel:bF R B w h muZ) (g:ew w w') :cZ w h muZ w' h muZ/\bF R B w' h muZ:=by
 have e:cZ w h muZ w' h muZ:=⟨⟨g.os,g.tape,g.output,g.size,fun k hk _=>g.block k hk,fun _ u=>.inl u,fun b v cs p h1 m=>.inl ⟨cs,h1,m⟩,fun _ _ t=>t,fun _ _ _ h1 m=>⟨h1,m⟩,aN _,g.drawn⟩,fun _ _ j=>j⟩
 refine⟨e,fun b p j=>?_,rel.inj,rel.base,rel.fresh,rel.up,dC rel.size g.size,rel.iX⟩;cases o:live (h.f b) with
 | false=>cases q:h.f b<;>first | trivial | (rw[q] at o;cases o)
 | true=>exact (rel.blk b p j).ext e.toExt0 (g.block _ (rel.lt o j))
theorem KD {w:aT} {R:Nat->Prop} {B:Nat} {h:aM} {muZ:b3} (rel:bF R B w h muZ) :∀ {c c' : U},fp h c c'->∀ {v:aE},aB w R h muZ c v->de w R c' v:=by
 intro c c' ap;have ae:∀ {b P:Nat} {cs:ag} {j:M},h.f b=.cells P cs->muZ b=some j->∃ f:Nat->aE,∀ (g:Nat) (c:U),cs[g]?=some c->Cell w R aM.empty (fun _=>none) j.r (j.s+g) (f g)/\aB w R h muZ c (f g):=by
  intro b P cs j t C;have hblk:=rel.blk b j C;rw[t] at hblk;obtain⟨aw,au,arr,aA,ar,aq,av,H,al⟩:=hblk;have aj:R j.r:=rel.up _ (rel.base b j (by rw[t];rfl) C);refine⟨fun g=>(arr[j.s+g]?).getD undef,fun g c m=>?_⟩;obtain⟨v,h1,O,T⟩:=al _ _ m;refine⟨⟨?_,by simp only[h1,g4];exact O,aj,fun ⟨b,j,h1,O,T⟩=>by cases O⟩,by simp only[h1,g4];exact T⟩;simp only[World.cell?,aq,h1,g4,rM];rfl
 induction ap with
 | same c G=>
  intro v p;exact (de.up (nC p G) fun k _ hk=>⟨hk.1,fun ⟨b,j,h1,O,T⟩=>by cases O⟩:aB w R aM.empty (fun _=>none) _ v)
 | af cs K u h D=>
  intro v p;cases p with
  | af _ X am h1 p=>
   refine .af K X F h1 (fun g c' v m W=>?_);have q:g<cs.length:=by rw[<-u];exact (aL.1 m).1
   exact D g cs[g] c' (bM q) m (p g cs[g] v (bM q) W)
 | aX cs K u h D=>
  intro v p;cases p with
  | aX _ X am p=>
   refine .aX K X F (fun g c' v m W=>?_);have q:g<cs.length:=by rw[<-u];exact (aL.1 m).1
   exact D g cs[g] c' (bM q) m (p g cs[g] v (bM q) W)
 | sN z b J cap P=>
  intro v p;cases p with
  | Z _ _ _ _ _ _ cap' cs j t C u ao G=>exact .eH z _ cap'
  | ff _ _ _ _ _ _ cap' a u G o=>exact .eH z _ cap'
  | gp _ _ _ _ a cs j t C=>exact .eH z a 0
 | ptr b J P cs K t u h D=>
  intro v p;cases p with
  | jj _ _ _ a o=>
   exfalso;rcases o with o | ⟨n,Q,o,q⟩
   ·rw[t] at o;cases o
   ·rw[t] at o;cases o;omega
  | ptr _ _ _ Q j Y C=>
   obtain⟨f,H⟩:=ae t C;refine .b6 K J j.r j.s f (fun g m=>?_) (fun g c' m=>?_)
   ·exact (H g cs[g] (bM F)).1
   ·have q:g<cs.length:=by rw[<-u];exact (aL.1 m).1
    exact D g cs[g] c' (bM q) m (H g cs[g] (bM q)).2
 | Z z b J len cap P cs S t u ai ax h D=>
  intro v p;cases p with
  | gp _ _ _ _ a Q j Y az=>
   obtain rfl:=ho.1 u;exact .eH z a 0
  | ff _ _ _ _ _ _ cap' a u G o=>
   exfalso;rcases o with o | ⟨n,Q,o,q⟩
   ·rw[t] at o;cases o
   ·rw[t] at o;cases o;omega
  | Z _ _ _ _ _ _ cap' Q j Y C ay ao G=>
   have ak:len<=cap':=by rcases G with ⟨_,h⟩ | ⟨_,h,_⟩<;>omega
   obtain⟨f,H⟩:=ae t C;subst u;have q:∀ i g,i<S.length->g<z->J+(i*z+g)<cs.length:=by
    intro i g I m;have:i*z+z<=S.length*z:=by rw[<-ej];exact ck _ I
    omega
   refine .bu z S j.r (j.s+J) cap' (fun i g=>f (J+(i*z+g))) ak ai (fun i g I m=>?_) (fun i e V g c' m=>?_)
   ·have:=(H _ _ (bM (q i g I m))).1;rw[<-i4] at this;exact this
   ·have I:i<S.length:=(aL.1 V).1;have ah:g<z:=by rw[<-ai e (cJ V)];exact (aL.1 m).1
    exact D i g e _ c' V m (bM (q i g I ah)) (H _ _ (bM (q i g I ah))).2
theorem yV:∀ {cs:ag},kH cs=true->∀ (j:Nat) (c:U),cs[j]?=some c->c.flat=true:=by
 intro cs
 induction cs with
 | nil=>intro _ j c h;simp at h
 | cons x cs o=>
  intro g j c m;simp only[kH,bU] at g;cases j with
  | zero=>simp at m;subst m;exact g.1
  | succ j=>exact o g.2 j c (by simpa using m)
theorem HS {w w' : aT} {A R:Nat->Prop} {h h' : aM} {muZ muZ' : b3} {c:U} {v:aE} (p:aB w A h muZ c v) (o:c.flat=true) :aB w' R h' muZ' c v:=by
 induction p with
 | bool b=>exact .bool b
 | int k n=>exact .int k n
 | str z=>exact .str z
 | iA=>exact .iA
 | ad=>exact .ad
 | gY=>exact .gY
 | ic=>exact .ic
 | hS=>exact .hS
 | af cs u t h1 p j=>exact .af cs u t h1 (fun m c v g q=>j m c v g q (yV (by simpa only [U.flat] using o) m c g))
 | aX cs u t p j=>exact .aX cs u t (fun m c v g q=>j m c v g q (yV (by simpa only [U.flat] using o) m c g))
 | fW B c v p j=>exact .fW B c v (j (by simpa only [U.flat] using o))
 | fh l=>exact .fh l
 | _=>simp[U.flat] at o
theorem Vm {f:cj} {args g:ag} {r:U} {h:aM} (H:i8 P G f g r) (D:g.length=args.length) (J:∀ (j:Nat) (c c' : U),args[j]?=some c->g[j]?=some c'->fp h c c')
  (z:r.flat=true) :rT P G (.call f args h r h):=by
 intro o B w muZ R rel p T K;refine (H w o R (fun i=>?_) F (fun j c' m q C=>?_)).mono ?_
 ·exact (de.up (nC (p i).2 (p i).1) fun k _ hk=>⟨hk.1,fun ⟨b,V,h1,u,S⟩=>by cases u⟩:aB w o aM.empty (fun _=>none) _ _)
 ·have t:j<args.length:=by rw[<-D];exact (aL.1 q).1
  exact KD rel (J j args[j] c' (bM t) q) (K j args[j] m (bM t) C)
 ·rintro e w' ⟨m,rfl,v,I⟩;obtain⟨O,Q⟩:=p4 rel v;exact⟨m,muZ,rfl,O,Q,HS I z⟩
theorem Vn {f:cj} {args g:ag} {r:U} {h:aM} (I:nt P G f g r) (D:g.length=args.length) (K:∀ (j:Nat) (c c' : U),args[j]?=some c->g[j]?=some c'->fp h c c') :rT P G (.call f args h r h):=by
 intro o B w muZ S rel p V O;refine (I w o S (fun i=>?_) F (fun j c' m q C=>?_)).mono ?_
 ·exact (de.up (nC (p i).2 (p i).1) fun k _ hk=>⟨hk.1,fun ⟨b,W,h1,u,T⟩=>by cases u⟩:aB w o aM.empty (fun _=>none) _ _)
 ·have t:j<args.length:=by rw[<-D];exact (aL.1 q).1
  exact KD rel (K j args[j] c' (bM t) q) (O j args[j] m (bM t) C)
 ·rintro e w' ⟨m,rfl,z,J⟩;obtain⟨Q,R⟩:=p4 rel z;exact⟨m,muZ,rfl,Q,R,J.up fun k hk v=>⟨rel.up k (dC rel.size v),fun H=>by have:=JK rel H;omega⟩⟩
theorem nt.AM {f:cj} {args:ag} {r:U} (o:nt P G f args r) :i8 P G f args r:=fun w A t j m p=>
 (o w A t j m p).mono fun e w' ⟨q,h1,g,h⟩=>⟨q,h1,g,(de.up h fun k _ hk=>⟨.inr hk,fun ⟨b,u,h1,g,h⟩=>by cases g⟩:aB w' _ aM.empty (fun _=>none) _ _)⟩
theorem Vo {f:cj} {args:ag} {r:U} {h:aM} (D:i8 P G f args r) (u:am args=true) :rT P G (.call f args h r h):=by
 intro q B w muZ K rel m z H;refine (D w (fun k=>q k/\¬ Own h muZ k) K (fun i=>?_) z (fun p c j o v=>nC (H p c j o v) (r2 u p c o))).mono ?_
 ·exact nC (m i).2 (m i).1
 ·rintro e w' ⟨j,rfl,t,F⟩;obtain⟨I,J⟩:=p4 rel t;refine⟨j,muZ,rfl,I,J,F.up (fun k hk g=>?_)⟩;rcases g with g | g
  ·exact g
  ·exact⟨rel.up k (dC rel.size g),fun C=>by have:=JK rel C;omega⟩
end
section
variable {P:bp} {G:Nat->U}
theorem TG {w:aT} {R:Nat->Prop} {h:aM} {muZ:b3} {I:aY->U} {S:aY->aE} (H:∀ x,aB w R h muZ (I x) (S x)) (o:a8) {cs:ag} {mk:Nat->U} (g:kP P I o.op=some (cs,mk)) :
  ∃ v arr t,(execOp S o).run P w=.ok (.value v) (w.alloc (.cells arr t))/\i9 w R h muZ cs arr ∧
   ∀ (w' : aT) (p:Nat->Prop) (h' : aM) (muZ' : b3) (b:Nat),h'.f b=.cells cs.length cs->muZ' b=some ⟨w.heap.size,0,arr.size⟩->aB w' p h' muZ' (mk b) v:=by
 obtain⟨aA,op,type,pos,ax,guard⟩:=o;cases op<;>simp only[kP] at g<;>try (cases g;done)
 case alloc t=>
  cases j:ga P t with
  | none=>rw[j] at g;cases g
  | some m=>
   rw[j] at g;simp only[cA,bc,Prod.mk.injEq] at g;obtain⟨rfl,rfl⟩:=g;obtain⟨v,ar,ap⟩:=rz (P:=P) (w:=w) (R:=R) (h:=h) (muZ:=muZ) j;refine⟨.pointer (some ⟨w.heap.size,0,none⟩),v.cells,t,by simp[execOp,Instr.alloc,ar,newVar,newRow],ap,fun w' p h' muZ' b q u=>?_⟩;have:=aB.ptr (w:=w') (R:=p) (h:=h') (muZ:=muZ') b 0 m.length m _ q u;simpa using this
 case box t x=>
  cases j:(I x).cells with
  | none=>rw[j] at g;cases g
  | some m=>
   rw[j] at g;simp only[cA,bc,Prod.mk.injEq] at g;obtain⟨rfl,rfl⟩:=g;obtain⟨O,Q⟩:=yt (H x) j;refine⟨.pointer (some ⟨w.heap.size,0,none⟩),(S x).cells,t,by simp[execOp,Instr.box,newVar,newRow],⟨O,Q⟩,fun w' p h' muZ' b q u=>?_⟩;have:=aB.ptr (w:=w') (R:=p) (h:=h') (muZ:=muZ') b 0 m.length m _ q u;simpa using this
 case buildSlice t len parts=>
  cases B:gh P t with
  | none=>rw[B] at g;cases g
  | some e=>
  rw[B] at g;simp only at g;cases j:ca P e with
  | none=>rw[j] at g;cases g
  | some m=>
  cases z:ga P e with
  | none=>rw[j,z] at g;cases g
  | some zero=>
  rw[j,z] at g;simp only at g;split at g
  ·rename_i G;cases J:en (fun i=>some (i*m,m)) (cQ zero len) (parts.toList.map fun ae=>(ae.1,I ae.2)) with
   | none=>rw[J] at g;cases g
   | some az=>
    rw[J] at g;simp only[cA,bc,Prod.mk.injEq] at g;obtain⟨rfl,rfl⟩:=g;obtain⟨O,Q⟩:=DK H parts;obtain⟨V,arr,K,T⟩:=GG B j z G.1 G.2 J O Q;refine⟨.slice (some ⟨w.heap.size,0,none⟩) len len,arr,e,by simp[execOp,K],T,fun w' p h' muZ' b q u=>?_⟩;rw[V] at q;have:=aB.Z (w:=w') (R:=p) (h:=h') (muZ:=muZ') m b 0 len len (len*m) len _ _ q u (aN _) F (.inr ⟨F,aN _,by simp only;rw[T.1,V];omega⟩);simpa using this
  ·cases g
 case makeSlice t l c=>
  split at g
  ·rename_i e Y C B am aj;obtain⟨aw,ao⟩:=oy am (H l);obtain⟨av,ak⟩:=oy aj (H c);cases j:ca P e with
   | none=>rw[j] at g;cases g
   | some m=>
   cases D:gK P e with
   | none=>rw[j,D] at g;cases g
   | some ay=>
   cases z:ga P e with
   | none=>rw[j,D,z] at g;cases g
   | some zero=>
   rw[j,D,z] at g;simp only at g;split at g
   ·rename_i G;obtain⟨au,ah,al,ai,aq⟩:=G;simp only[bc,Prod.mk.injEq] at g;obtain⟨rfl,rfl⟩:=g;obtain⟨W,arr,K,X⟩:=IY (w:=w) (R:=R) (h:=h) (muZ:=muZ) (kl:=aw) (kc:=av) B j D z au ah al ai aq;refine⟨.slice (some ⟨w.heap.size,0,none⟩) Y.toNat C.toNat,arr,e,by simp[execOp,ao,ak,K],X,fun w' p h' muZ' b q u=>?_⟩;rw[W] at q;have:=aB.Z (w:=w') (R:=p) (h:=h') (muZ:=muZ') m b 0 Y.toNat C.toNat (C.toNat*m) C.toNat _ _ q u F F (.inr ⟨F,aN _,by simp only;rw[X.1,W];omega⟩);simpa using this
   ·cases g
  ·cases g
theorem lN.rel {R:Nat->Prop} {B:Nat} {w:aT} {h h' : aM} {muZ:b3} (g:lN h h') (rel:bF R B w h muZ) :cZ w h muZ w h' muZ/\bF R B w h' muZ:=by
 have t:∀ b m,muZ b=some m->b<h.n:=fun b m j=>rel.kx j
 have e:cZ w h muZ w h' muZ:=by
  refine⟨⟨rfl,rfl,rfl,aN _,fun _ _ _=>rfl,?_,?_,?_,?_,g.n,aN _⟩,fun _ _ j=>j⟩
  ·rintro k ⟨b,m,q,j,rfl⟩;rw[g.same b (t b m j)] at q;exact .inl ⟨b,m,q,j,rfl⟩
  ·intro b G cs m p j;exact .inl ⟨cs,by rw[g.same b (t b m j)];exact p,j⟩
  ·rintro b G o;have p:b<h.n:=by
    rcases fF b h.n with h1 | h1
    ·exact h1
    ·have:=rel.fresh b h1;rcases o with o | ⟨n,cs,o,_⟩<;>rw[this] at o<;>cases o
   rcases o with o | ⟨n,cs,o,D⟩
   ·exact .inl (by rw[g.same b p];exact o)
   ·exact .inr ⟨n,cs,by rw[g.same b p];exact o,D⟩
  ·intro b k m p j;exact⟨by rw[g.same b (t b m j)];exact p,j⟩
 refine⟨e,fun b m j=>?_,fun b u m C q v j z F=>?_,fun b m q j=>?_,g.fresh rel.fresh,rel.up,rel.size,fun b p=>rel.iX b (dC g.n p)⟩
 ·rw[g.same b (t b m j)];exact (rel.blk b m j).ext e.toExt0 rfl
 ·rw[g.same b (t b m j)] at q;rw[g.same u (t u C z)] at v;exact rel.inj b u m C q v j z F
 ·rw[g.same b (t b m j)] at q;exact rel.base b m q j
theorem L8 {K:Act->aT->Prop} {Q:Exit->Act->aT->Prop} {e:qt} {a:Act} {w:aT} (g:e≠.normal) (h:Q e.out a w) :Exit.then K Q e.out a w:=by
 cases e with
 | normal=>exact bV rfl g
 | exit id=>exact h
 | ret=>exact h
theorem OT {id:Nat} {Q:Exit->Act->aT->Prop} {e:qt} {a:Act} {w:aT} (g:e≠.exit id) (h:Q e.out a w) :Exit.inBlock id Q e.out a w:=by
 cases e with
 | normal=>exact h
 | exit m=>
  have:m≠id:=fun j=>g (by rw[j])
  simpa [Exit.inBlock,qt.out,this] using h
 | ret=>exact h
def FQ (P:bp) (G:Nat->U) :Prop:=
 ∀ {id:Nat} {ops:Array a8} {N:Nat} {u:Nat->U} {h:aM} {z:Nat->U} {h' : aM} (pre:Nat->Nat->Bool) (val:Nat->U) (W:Nat->Bool) (cls:Nat->x6) (m:Nat) (j:Nat->Nat) (o w:Nat->aM) (p:Nat->Nat) (cells:Nat->ag),
  po ops pre->
  (∀ (i:Nat) (g:a8),ops[i]?=some g->hO N g.dst=true)->
  lN h (o 0)->h'=o m->(z=fun B=>match h0 ops B with | some i=>val i | none=>u B)->
  (∀ (i:Nat) (g:a8),ops[i]?=some g->W i=true->cls i=.fc->∃ q,q<m/\j q=i)->
  (∀ q,q<m->∃ g,ops[j q]?=some g/\W (j q)=true/\cls (j q)=.fc)->
  (∀ q t,q<m->t<m->q<t->pre (j t) (j q)=true)->
  (∀ q t,q<m->t<m->j q=j t->q=t)->
  (∀ (i:Nat) (g:a8),ops[i]?=some g->iJ ops (kG ops pre val u i g) g=some (W i))->
  (∀ (i:Nat) (g:a8),ops[i]?=some g->W i=false->val i=fC)->
  (∀ (i:Nat) (g:a8),ops[i]?=some g->W i=true->cls i=.pure->∀ k,tP pre m j i k->cO P (o k) (dA G (kG ops pre val u i g)) g.op=some (.val (val i) (o k)))->
  (∀ (i:Nat) (g:a8),ops[i]?=some g->W i=true->cls i=.new->∃ mk,kP P (dA G (kG ops pre val u i g)) g.op=some (cells i,mk)/\val i=mk (p i)/\h.n<=p i ∧
    ∀ k,tP pre m j i k->(o k).f (p i)=.cells (cells i).length (cells i))->
  (∀ (i v:Nat) (g C:a8),ops[i]?=some g->ops[v]?=some C->W i=true->W v=true->cls i=.new->cls v=.new->p i=p v->i=v)->
  (∀ (i:Nat) (g:a8) (q:Nat),ops[i]?=some g->W i=true->cls i=.new->q<m->p i<(o q).n\/(w q).n<=p i)->
  (∀ q,q<m->lN (w q) (o (q+1)))->
  (∀ (q:Nat) (g:a8),q<m->ops[j q]?=some g->rT P G (.op g.op (kG ops pre val u (j q) g) (o q) (val (j q)) (w q)))->
  rT P G (.code (.region id ops true) N u h .normal z h')
theorem iO.ext {h B:aM} (k:iO h B) (w:aT) (muZ:b3) :cZ w h muZ w B muZ:=by
 refine⟨⟨rfl,rfl,rfl,aN _,fun _ _ _=>rfl,?_,?_,?_,?_,Bt k.n.symm,aN _⟩,fun _ _ o=>o⟩
 ·rintro r ⟨b,v,F,o,rfl⟩;refine .inl ⟨b,v,?_,o,rfl⟩;rcases k.blk b with m | ⟨D,cs,j,_⟩
  ·rw[<-m];exact F
  ·rw[j];rfl
 ·intro b D cs v g o;rcases k.blk b with m | ⟨z,p,j,u | ⟨q,t,_⟩⟩
  ·exact .inl ⟨cs,by rw[m];exact g,o⟩
  ·exact .inr (.inl u)
  ·rw[g] at j;cases j;exact .inl ⟨q,t,o⟩
 ·rintro b D (g | ⟨n,cs,g,C⟩)
  ·rcases k.blk b with m | ⟨z,p,j,_⟩
   ·exact .inl (m.trans g)
   ·rw[g] at j;cases j
  ·rcases k.blk b with m | ⟨z,p,j,u | ⟨q,t,_⟩⟩
   ·exact .inr ⟨n,cs,by rw[m];exact g,C⟩
   ·exact .inl u
   ·rw[g] at j;cases j;exact .inr ⟨n,q,t,C⟩
 ·intro b G v g o;rcases k.blk b with m | ⟨z,p,j,_⟩
  ·exact⟨by rw[m];exact g,o⟩
  ·rw[j] at g;cases g
theorem iO.live {h g:aM} (k:iO h g) {b:Nat} (o:live (g.f b)=true) :live (h.f b)=true:=by
 rcases k.blk b with m | ⟨p,cs,j,_⟩
 ·rw[<-m];exact o
 ·rw[j];rfl
theorem iO.k3 {R:Nat->Prop} {B:Nat} {w:aT} {h m:aM} {muZ:b3} (rel:bF R B w h muZ) (k:iO h m) :∀ {c P:U},iN h m c P->∀ {v:aE},aB w R h muZ c v->aB w R m muZ P v:=by
 intro c P av
 induction av with
 | same c=>intro v o;exact o.ext (k.ext w muZ)
 | af cs ai C h V=>
  intro v o;cases o with
  | af _ aA aJ h1 o=>
   refine .af ai aA F h1 (fun g O v q ao=>?_);have D:g<cs.length:=by rw[<-C];exact (aL.1 q).1
   exact V g cs[g] O (bM D) q (o g cs[g] v (bM D) ao)
 | sN z b t cap az=>
  intro v o;cases o with
  | Z _ _ _ _ _ _ cap' cs j u H C au K=>exact .eH z _ cap'
  | ff _ _ _ _ _ _ cap' a C K p=>exact .eH z _ cap'
  | gp _ _ _ _ a cs j u H=>exact .eH z a 0
 | Z z b t len cap az cs I u am C ag aI o V=>
  intro v o;cases o with
  | gp _ _ _ _ a W j Q aO=>
   obtain rfl:=ho.1 C;exact .eH z a 0
  | ff _ _ _ _ _ _ cap' a C K p=>
   exfalso;rcases p with p | ⟨n,W,p,D⟩
   ·rw[u] at p;cases p
   ·rw[u] at p;cases p;omega
  | Z _ _ _ _ _ _ cap' W j Q H aK au K=>
   rw[u] at Q;cases Q;have hblk:=rel.blk b j H;rw[u] at hblk;obtain⟨aG,aD,arr,aP,aC,ax,aF,aH,al⟩:=hblk;have ak:len<=cap':=by rcases K with ⟨_,h⟩ | ⟨_,h,_⟩<;>omega
   have ae:Go.bh.live (h.f b)=true:=by rw[u];rfl
   have aj:R j.r:=rel.up _ (rel.base b j ae H);have ar:¬ Own m muZ j.r:=by
    rintro⟨ah,ay,T,aq,aw⟩;have:=rel.inj ah b ay j (k.live T) ae aq H aw;subst this;rw[am] at T;cases T
   subst C;have Y:∀ i g,i<I.length->g<z->∃ c v,cs[t+(i*z+g)]?=some c/\arr[j.s+(t+(i*z+g))]?=some v/\v.oneCell'=true/\aB w R h muZ c v:=by
    intro i g G q;have D:t+(i*z+g)<cs.length:=by
     have:i*z+z<=I.length*z:=by rw[<-ej];exact ck _ G
     omega
    obtain⟨v,h1,m,J⟩:=al _ _ (bM D);exact⟨_,v,bM D,h1,m,J⟩
   refine .bu z I j.r (j.s+t) cap' (fun i g=>(arr[j.s+(t+(i*z+g))]?).getD undef) ak ag (fun i g G q=>?_) (fun i e S g O q=>?_)
   ·obtain⟨c,v,h1,m,J,X⟩:=Y i g G q;refine⟨?_,?_,aj,ar⟩
    ·simp only[World.cell?,ax,m,g4,rM];rw[show j.s+t+(i*z+g)=j.s+(t+(i*z+g)) by omega,m];rfl
    ·rw[m];exact J
   ·have G:i<I.length:=(aL.1 S).1;have ap:g<z:=by rw[<-ag e (cJ S)];exact (aL.1 q).1
    obtain⟨c,v,h1,m,J,X⟩:=Y i g G ap;simp only[m,g4];exact V i g e c O S q h1 X
theorem iO.rel {R:Nat->Prop} {B:Nat} {w:aT} {h u:aM} {muZ:b3} (rel:bF R B w h muZ) (k:iO h u) :bF R B w u muZ:=by
 refine⟨?_,?_,?_,?_,rel.up,rel.size,?_⟩
 ·intro b o j;have g:=rel.blk b o j;rcases k.blk b with q | ⟨ah,cs,p,U | ⟨ak,O,W,ae⟩⟩
  ·rw[q];exact g.ext (k.ext w muZ).toExt0 rfl
  ·rw[U];trivial
  ·rw[O];rw[p] at g;obtain⟨h1,K,arr,ai,J,P,Q,S,T⟩:=g;refine⟨F,K,arr,ai,J,P,Q,S,fun m I v=>?_⟩;have z:m<cs.length:=by rw[<-W];exact (aL.1 v).1
   obtain⟨aj,C,D,G⟩:=T m cs[m] (bM z);exact⟨aj,C,D,k.k3 rel (ae m cs[m] I (bM z) v) G⟩
 ·intro b H o ag t V j X Y;exact rel.inj b H o ag (k.live t) (k.live V) j X Y
 ·intro b o t j;exact rel.base b o (k.live t) j
 ·intro b g;rw[k.n] at g;rcases k.blk b with q | ⟨ah,cs,p,_⟩
  ·rw[q];exact rel.fresh b g
  ·rw[rel.fresh b g] at p;cases p
 ·intro b g;rw[k.n] at g;exact rel.iX b g
theorem XG (aT:FQ P G) {j:J} (a0:c7 P G j) :rT P G j:=by
 induction a0 with
 | skip N aq h=>exact⟨0,fun m B w muZ a Q rel o s k=>wp_skip (k a w muZ (.refl _ _ _) rel s)⟩
 | label l N aq h=>exact⟨0,fun m B w muZ a Q rel o s k=>wp_label (k a w muZ (.refl _ _ _) rel s)⟩
 | ret N aq h=>exact⟨0,fun m B w muZ a Q rel o s k=>wp_ret (k a w muZ (.refl _ _ _) rel s)⟩
 | exit id N aq h=>exact⟨0,fun m B w muZ a Q rel o s k=>wp_exit (k a w muZ (.refl _ _ _) rel s)⟩
 | Lk h1 aD g I=>
  obtain⟨K,g⟩:=g;obtain⟨aI,I⟩:=I;exact⟨0,fun m B w muZ a Q rel o s k=>wp_seq (lF.wp (g m B w muZ a _ rel o s fun C v u p q t=>
   lF.wp (I m B v u C Q q (o.ext p) t fun Y ar au ae ao ap=>k Y ar au (p.trans ae) ao ap)))⟩
 | Et h1 T g=>
  obtain⟨K,g⟩:=g;exact⟨0,fun m B w muZ a Q rel o s k=>wp_seq (lF.wp (g m B w muZ a _ rel o s fun C v u p q t=>L8 T (k C v u p q t)))⟩
 | cond ax h1 g=>
  rename_i c x y N aq h b e aJ h';obtain⟨K,g⟩:=g;refine⟨0,fun m B w muZ a Q rel o s k=>?_⟩;have z:=s.dA o c;rw[ax] at z;cases aE:a.eval c<;>rw[aE] at z<;>try (cases z;done)
  cases z;exact wp_cond aE (lF.wp (g m B w muZ a Q rel o s k))
 | ym h1 T g=>
  obtain⟨K,g⟩:=g;exact⟨0,fun m B w muZ a Q rel o s k=>wp_block (lF.wp (g m B w muZ a _ rel o s fun C v u p q t=>OT T (k C v u p q t)))⟩
 | Gy h1 g=>
  obtain⟨K,g⟩:=g;exact⟨0,fun m B w muZ a Q rel o s k=>wp_block (lF.wp (g m B w muZ a _ rel o s fun C v u p q t=>by
   simp only[qt.out,Exit.inBlock,if_true];exact k C v u p q t))⟩
 | ug h1 aD g I=>
  obtain⟨K,g⟩:=g;obtain⟨aI,I⟩:=I;exact⟨aI+1,fun m B w muZ a Q rel o s k=>lF.wp (g m B w muZ a _ rel o s fun C v u p q t=>
   I m B v u C Q q (o.ext p) t fun Y ar au ae ao ap=>k Y ar au (p.trans ae) ao ap)⟩
 | C9 h1 T g=>
  obtain⟨K,g⟩:=g;exact⟨1,fun m B w muZ a Q rel o s k=>lF.wp (g m B w muZ a _ rel o s fun C v u p q t=>L8 T (k C v u p q t))⟩
 | scope h1 g=>
  obtain⟨K,g⟩:=g;rename_i c N aq h e aJ h';refine⟨0,fun m B w muZ a Q rel o s k=>wp_scope_straight (lF.wp (g m B w muZ a _ rel o s fun C v u p q t=>?_))⟩;have:=k C v u p q t;cases e<;>exact this
 | region h1 g=>exact⟨0,fun m B w muZ a Q rel o s k=>wp_region_list (g m B w muZ a Q rel o s k)⟩
 | draw pre val W cls bc X aM aL aO cells bd aU aP a1 a9 aV aW a3 aZ aj a5 a4 a2 aR aS aY bf bb=>
  exact aT pre val W cls bc X aM aL aO cells bd aU aP a1 a9 aV aW a3 aZ aj a5 a4 a2 aR aS aY bb
 | JD=>exact fun m B w muZ a Q rel o s k=>k a w muZ (.refl _ _ _) rel s
 | JF aB ay h1 g=>
  intro m B w muZ a Q rel o s k;have aj:=Fc (w:=w) (R:=m) (h:=_) (muZ:=muZ) (tmps:=a.tmps) aB (fun d _=>s.val d);unfold wpList;rw[ai (by rw[aj];simp)];exact g m B w muZ _ Q rel o (s.put ay xH) k
 | JE aB ay h1 aD g I=>
  intro m B w muZ a Q rel o s k;have aj:=Fc (w:=w) (R:=m) (h:=_) (muZ:=muZ) (tmps:=a.tmps) aB (fun d _=>s.val d);unfold wpList;rw[ak aj];refine .inl (g m B w muZ a _ _ Q rfl rel o (s.dA o) fun aK v u p q z=>?_);exact I m B v u _ Q q (o.ext p) ((s.ext p).put ay z) fun Y ar au ae ao ap=>k Y ar au (p.trans ae) ao ap
 | zI X=>
  intro m B w muZ a am av Q ag rel o al k;subst ag;have:=EI (P:=P) rel al am X;obtain⟨O,w',muZ',D,e,r,z⟩:=this;unfold Oper.wp;rcases D with D | ⟨D,rfl⟩
  ·rw[D];exact k O w' muZ' e r z
  ·rw[D];exact k undef w' muZ' e r z
 | uw X h1 g=>
  intro m B w muZ a am av Q ag rel o al k;subst ag;obtain⟨rfl,S,D,U,z⟩:=EI (P:=P) rel al am X;unfold Oper.wp;rw[D];refine (g m B w muZ S rel o U z).mono ?_;rintro e w' ⟨O,muZ',rfl,p,q,a6⟩;exact k O w' muZ' p q a6
 | AX h1 aC z g=>
  intro m B w muZ a am av Q ag rel o al k;refine g m B w muZ a am av Q ag rel o al fun aK w' muZ' e r a7=>?_
  exact k aK w' muZ' (e.trans (aC.ext w' muZ')) (aC.rel r) (aC.k3 r z a7)
 | inline az aQ h1 T D g=>
  rename_i f fn c args h e aJ h' r;obtain⟨K,g⟩:=g;intro m B w muZ S rel o U z;refine calls_of_wp az aQ (lF.wp (g m B w muZ _ _ rel o ⟨by simp[U],rfl,fun H=>?_⟩ fun C v u p q t=>?_))
  ·by_cases aF:H<args.length
   ·have aw:args.getD H fC=args[H]:=by simp[List.getD,aF]
    have aA:(S++Array.replicate (fn.ntmps - S.size) undef).getD H undef=S[H]:=by
     rw[hh,pi F];simp[show H<S.size by omega]
    rw[aw,aA];exact z H _ _ (by simp[aF]) V
   ·have aw:args.getD H fC=fC:=by simp[List.getD,dW (by omega:args.length<=H)]
    have aA:(S++Array.replicate (fn.ntmps - S.size) undef).getD H undef=undef:=by
     rw[hh,u7 F,A8];split<;>rfl
    rw[aw,aA];exact xH
  ·obtain⟨O,aG,aH⟩:=KU q t D;have bg:t.defers=t.defers:=rfl;rcases T with rfl | rfl
   ·exact⟨t.defers,O,aG,O,u,rfl,p,q,aH⟩
   ·exact⟨t.defers,O,aG,O,u,rfl,p,q,aH⟩
 | pure ah ax=>exact Vo ah ax
 | Kc ah U D az=>exact Vm ah U D az
 | ext X=>exact X
 | Kd ah U D=>exact Vn ah U D
end
section
variable {P:bp} {G:Nat->U}
theorem s2 {ops:Array a8} {t i:Nat} (h:h0 ops t=some i) :∃ o,ops[i]?=some o/\o.dst=some t:=by
 unfold h0 at h;have:=List.find?_some h;cases g:ops[i]? with
 | none=>simp[g] at this
 | some o=>exact⟨o,rfl,by simpa [g] using this⟩
def o8 (ops:Array a8) (val sgZ:Nat->U) (h:Array Bool) :Nat->U:=fun g=>
 match h0 ops g with
 | some i=>if h.getD i false then val i else sgZ g
 | none=>sgZ g
theorem Qr {ops:Array a8} {pre:Nat->Nat->Bool} (v:po ops pre) {g:Array Bool}
  (w:∀ (i:Nat) (o:a8) (e:Edge),ops[i]?=some o->g.getD i false=true->e∈o.after->Region.binds .any e=true->g.getD e.on false=true)
  (z:∀ i,g.getD i false=true->∃ o,ops[i]?=some o) :∀ (i:Nat),g.getD i false=true->∀ j,pre i j=true->g.getD j false=true:=by
 intro i
 induction i using Nat.strongRecOn with
 | _ i C=>
  intro t j B;obtain⟨o,m⟩:=z i t;obtain⟨e,q,p,h⟩:=v.chain i o j m B;have u:=w i o e m t q p;rcases h with rfl | h
  ·exact u
  ·exact C e.on (v.wb i o e m q p) u j h
theorem se (g:Array Bool) (i j:Nat) (m:i<g.size) :(g.setIfInBounds i true).getD j false=if j=i then true else g.getD j false:=by
 rw[hh,u9];by_cases h:i=j
 ·subst h;simp[m]
 ·rw[ai h,ai (Ne.symm h),hh]
theorem Ax {ops:Array a8} {pre:Nat->Nat->Bool} (D:po ops pre) {val sgZ:Nat->U} {B:Array Bool} {i:Nat} {o:a8} (u:ops[i]?=some o) (q:i<B.size) :
  o8 ops val sgZ (B.setIfInBounds i true)=gC (o8 ops val sgZ B) o.dst (val i):=by
 funext j;unfold o8 gC;cases m:o.dst with
 | none=>
  simp only;cases w:h0 ops j with
  | none=>rfl
  | some z=>
   have t:z≠i:=fun p=>by
    obtain⟨C,h,g⟩:=s2 w;rw[p,u] at h;cases h;rw[m] at g;cases g
   simp only[se _ _ _ q,ai t]
 | some d=>
  simp only;by_cases v:j=d
  ·subst v;rw[D.one i o j u m];simp[se _ _ _ q]
  ·rw[bS _ _ _ _ v];cases w:h0 ops j with
   | none=>rfl
   | some z=>
    have t:z≠i:=fun p=>by
     obtain⟨C,h,g⟩:=s2 w;rw[p,u] at h;cases h;rw[m] at g;cases g;exact v rfl
    simp only[se _ _ _ q,ai t]
structure Inv (P:bp) (ops:Array a8) (val sgZ:Nat->U) (W:Nat->Bool) (cls:Nat->x6) (m:Nat) (jB:Nat->Nat) (j:Nat->aM) (t:Nat->Nat) (N:Nat)
  (R:Nat->Prop) (B:Nat) (u:aT) (h:aM) (p:b3) (g:Array Bool) (k:Nat) (a:Act) (w:aT) (muZ:b3) :Prop where
 size:g.size=ops.size
 down:∀ (i:Nat) (o:a8) (e:Edge),ops[i]?=some o->g.getD i false=true->e∈o.after->Region.binds .any e=true->g.getD e.on false=true
 wE:k<=m
 done:∀ q,q<m->(g.getD (jB q) false=true<->q<k)
 ext:Ext0 u h p w (j k) muZ
 nb:∀ b,b<h.n->p b=none->muZ b=none
 rel:bF R B w (j k) muZ
 rl:gI N w R (j k) muZ (o8 ops val sgZ g) a
 w7:∀ (i:Nat) (o:a8),ops[i]?=some o->W i=true->cls i=.new->g.getD i false=false->muZ (t i)=none
theorem SO {ops:Array a8} {g:Array Bool} (j:g.size=ops.size) (i:Nat) (h:g.getD i false=true) :∃ o,ops[i]?=some o:=by
 have:i<ops.size:=by
  rcases fF i g.size with h1 | h1
  ·omega
  ·simp[hh,qj h1] at h
 exact⟨ops[i],by simp[this]⟩
theorem Oq {ops:Array a8} {pre:Nat->Nat->Bool} (o:po ops pre) {ef:Array Bool} (v:ef.size=ops.size) (t:Region.ready .any ops ef=[]) :∀ i,i<ops.size->ef.getD i false=true:=by
 intro i
 induction i using Nat.strongRecOn with
 | _ i u=>
  intro g;cases p:ef.getD i false with
  | true=>rfl
  | false=>
   exfalso;have m:i∈Region.ready .any ops ef:=by
    refine mem_ready.2 ⟨?_,ops[i],by simp[g],fun e j h=>u e.on (o.wb i ops[i] e (by simp[g]) j h) (by
     have:=o.wb i ops[i] e (by simp[g]) j h;omega)⟩
    have q:i<ef.size:=F;simpa [hh,q] using p
   rw[t] at m;cases m
theorem Qu (bO:P.follows .mixedOrders=true) (bD:∀ g,(G g).ar=true) :FQ P G:=by
 intro id ops N sgZ h Xi h' pre val W cls m au J cg X cells av aG bC D b8 bJ bb bU bN b5 bZ bW bj bE bG bL bI;refine⟨0,fun ag B ax xO a1 Q bt bB ce ca=>wp_region_any bO ?_⟩;obtain⟨bz,cc⟩:=p4 bt ⟨(RowKit.Below.refl ax.heap.size ax).drew,rK _⟩;obtain⟨bA,cd⟩:=bC.rel cc;have a2:=bz.trans bA
 -- the end
 have a4:∀ (ef:Array Bool) (k:Nat) (a:Act) (w:aT) (muZ:b3),Inv P ops val sgZ W cls m au J X N ag B ax h xO ef k a w muZ->(∀ i,i<ops.size->ef.getD i false=true)->Q .normal a w:=by
  intro ef k a w muZ inv aA;have hk:k=m:=by
   rcases fF k m with H | aR
   ·obtain⟨t,p,_⟩:=bb k H;have aj:=aA (au k) ((ik.1 p).1);have:=(inv.done k H).1 aj;omega
   ·have:=inv.wE;omega
  subst hk;have b0:o8 ops val sgZ ef=Xi:=by
   rw[b8];funext I;unfold o8;cases az:h0 ops I with
   | none=>rfl
   | some i=>
    obtain⟨t,p,_⟩:=s2 az;simp only[aA i ((ik.1 p).1),if_true]
  subst D;have aL:=inv.rl;rw[b0] at aL;exact ca a w muZ ⟨inv.ext,inv.nb⟩ inv.rel aL
 have b9:∀ (fuel:Nat) (ef:Array Bool) (k:Nat) (a:Act) (w:aT) (muZ:b3),Inv P ops val sgZ W cls m au J X N ag B ax h xO ef k a w muZ->ef.toList.count false=fuel->wpAny P .any ops Q fuel ef a w:=by
  intro fuel
  induction fuel with
  | zero=>
   intro ef k a w muZ inv a7;have aA:∀ i,i<ops.size->ef.getD i false=true:=by
    intro i ap;have H:i<ef.size:=by rw[inv.size];exact ap
    cases aj:ef[i] with
    | true=>simp[hh,H,aj]
    | false=>
     exfalso;have aV:false∈ef.toList:=by rw[<-aj];simp
     have:=List.count_pos_iff.2 aV;omega
   refine⟨?_,a4 ef k a w muZ inv aA⟩;cases ah:Region.ready .any ops ef with
   | nil=>rfl
   | cons i l=>
    exfalso;have aV:i∈Region.ready .any ops ef:=by rw[ah];simp
    obtain⟨h1,t,p,_⟩:=mem_ready.1 aV;have ap:=(ik.1 p).1;have aC:=aA i ap;have H:i<ef.size:=by rw[inv.size];exact ap
    simp[hh,H] at h1 aC;rw[h1] at aC;cases aC
  | succ fuel aM=>
   intro ef k a w muZ inv a7;refine⟨fun ah=>a4 ef k a w muZ inv (Oq av inv.size ah),fun i ap=>?_⟩;obtain⟨h1,t,p,a9⟩:=mem_ready.1 ap;have H:i<ef.size:=by rw[inv.size];exact (ik.1 p).1
   have aI:ef.getD i false=false:=by simpa [hh,H] using h1
   have a5:=Qr av inv.down (SO inv.size)
   -- what comes before i is done
   have aW:∀ j,pre i j=true->ef.getD j false=true:=by
    intro j C;obtain⟨e,aH,o,aP⟩:=av.chain i t j p C;have bh:=a9 e aH o;rcases aP with rfl | aP
    ·exact bh
    ·exact a5 e.on bh j aP
   have bm:∀ j,ef.getD j false=true->pre j i=true->False:=fun j C al=>by
    have:=a5 j C i al;rw[aI] at this;cases this
   have bd:tP pre m au i k:=⟨inv.wE,fun q U al=>(inv.done q U).1 (aW _ al),fun q U al=>by
    rcases fF q k with aU | aR
    ·exact (bm _ ((inv.done q U).2 aU) al).elim
    ·exact aR⟩
   -- what i sees
   have bc:∀ I,aB w ag (J k) muZ (kG ops pre val sgZ i t I) (a.tmps.getD I undef):=by
    intro I;unfold kG;split
    ·rename_i b2;have b4:I∈t.looksAt ops:=by simpa using b2
     have K:=inv.rl.val I;unfold o8 at K;cases az:h0 ops I with
     | none=>rw[az] at K;exact K
     | some j=>
      rw[az] at K;simp only at K ⊢;by_cases al:pre i j=true
      ·rw[ak al];rw[ak (aW j al)] at K;exact K
      ·rw[ai al];have bT:ef.getD j false=false:=by
        rcases av.acc i t I j p b4 az with z | z | rfl
        ·exact bV z al
        ·cases aS:ef.getD j false with
         | false=>rfl
         | true=>exact (bm j aS z).elim
        ·exact aI
       rw[bT] at K;exact K
    ·exact .bad _
   have bf:jV G w ag (J k) muZ:=fun g=>⟨bD g,(bB g).2.j4 inv.ext⟩
   have aZ:∀ x,aB w ag (J k) muZ (dA G (kG ops pre val sgZ i t) x) (a.eval x):=by
    intro x;cases x with
    | tmp I=>exact bc I
    | const v=>exact aB.q5 v
    | global g=>exact (bf g).2
    | func f=>exact .fn f [] [] #[] #[] rfl rfl (fun _ _ _ z=>by simp at z) (fun _ _ _ z=>by simp at z)
   have bs:=Fc (w:=w) (R:=ag) (h:=J k) (muZ:=muZ) (tmps:=a.tmps) (b5 i t p) (fun d _=>bc d);have aE:(ef.setIfInBounds i true).toList.count false=fuel:=by
    have o:ef.toList[i]'(by simpa using H)=false:=by
     have:ef[i]=false:=by simpa [hh,H] using h1
     simpa using this
    rw[Array.toList_setIfInBounds,List.count_set (by simpa using H)];simp[o,a7]
   have aK:(ef.setIfInBounds i true).size=ops.size:=by simp[inv.size]
   have aF:∀ (j:Nat) (O:a8) (e:Edge),ops[j]?=some O->(ef.setIfInBounds i true).getD j false=true->e∈O.after->Region.binds .any e=true->(ef.setIfInBounds i true).getD e.on false=true:=by
    intro j O e T C aH o;rw[se _ _ _ H] at C ⊢;by_cases aq:j=i
    ·subst aq;rw[p] at T;cases T;rw[a9 e aH o];split<;>rfl
    ·rw[ai aq] at C;rw[inv.down j O e T C aH o];split<;>rfl
   -- the next state,when no block of others' is turned
   have aY:(W i=true->cls i≠.fc)->∀ q,q<m->((ef.setIfInBounds i true).getD (au q) false=true<->q<k):=by
    intro bR q U;obtain⟨O,T,S,Y⟩:=bb q U;have:au q≠i:=fun z=>by
     rw[z] at S Y;exact bR S Y
    rw[se _ _ _ H,ai this];exact inv.done q U
   have aJ:∀ (j:Nat),(ef.setIfInBounds i true).getD j false=false->j≠i/\ef.getD j false=false:=by
    intro j C;rw[se _ _ _ H] at C;by_cases aq:j=i
    ·rw[ak aq] at C;cases C
    ·rw[ai aq] at C;exact⟨aq,C⟩
   unfold wpOp;simp only[p];cases S:W i with
   | false=>
    rw[bs,S];simp only[jq,if_false];refine aM _ k _ w muZ ⟨aK,aF,inv.wE,aY (fun z=>by rw[S] at z;cases z),inv.ext,inv.nb,inv.rel,?_,fun j O T am ao C=>inv.w7 j O T am ao (aJ j C).2⟩ aE;rw[Ax av p H];exact inv.rl.put (aG i t p) (by rw[bZ i t p S];exact xH)
   | true=>
    rw[bs,S];simp only[if_true];left;cases Y:cls i with
    | pure=>
     have b1:=bW i t p S Y k bd;obtain⟨v,w',muZ',ah,e,r,K⟩:=EI (P:=P) inv.rel aZ t b1;have bk:wpAny P .any ops Q fuel (ef.setIfInBounds i true) (a.put t.dst v) w':=by
      refine aM _ k _ w' muZ' ⟨aK,aF,inv.wE,aY (fun _ z=>by rw[Y] at z;cases z),inv.ext.trans e.toExt0,fun b o aw=>e.nb b (nn o inv.ext.n) (inv.nb b o aw),r,?_,fun j O T am ao C=>?_⟩ aE
      ·rw[Ax av p H];exact (inv.rl.ext e).put (aG i t p) K
      ·have ay:=inv.w7 j O T am ao (aJ j C).2;rcases fF (X j) (J k).n with o | o
       ·exact e.nb _ o ay
       ·exact r.iX _ o
     unfold Oper.wp;rcases ah with ah | ⟨ah,rfl⟩
     ·rw[ah];exact bk
     ·rw[ah];exact bk
    | new=>
     obtain⟨mk,ay,bq,a6,hblk⟩:=bj i t p S Y;obtain⟨v,arr,I,ah,bp,bQ⟩:=TG (P:=P) aZ t ay;have aD:=hblk k bd;have bH:=inv.w7 i t p S Y aI;have ch:X i<(J k).n:=by
      rcases fF (X i) (J k).n with o | o
      ·exact o
      ·rw[inv.rel.fresh _ o] at aD;cases aD
     have bl:∀ b ae,muZ b=some ae->b≠X i:=fun b ae o z=>by rw[z,bH] at o;cases o
     have e:Ext0 w (J k) muZ (w.alloc (.cells arr I)) (J k) (br muZ (X i) (some ⟨w.heap.size,0,arr.size⟩)):=by
      refine⟨rfl,rfl,rfl,V,fun x b7 _=>?_,?_,fun b cj cs ae o D=>.inl ⟨cs,o,by rw[bS _ _ _ _ (bl b ae D)];exact D⟩,fun _ _ bK=>bK,fun b k ae o D=>⟨o,by rw[bS _ _ _ _ (bl b ae D)];exact D⟩,aN _,aN _⟩
      ·exact RowKit.Below.heap_alloc w _ x b7
      ·rintro x ⟨b,ae,aj,D,rfl⟩;by_cases o:b=X i
       ·subst o;simp at D;subst D;exact .inr (aN _)
       ·rw[bS _ _ _ _ o] at D;exact .inl ⟨b,ae,aj,D,rfl⟩
     have r:bF ag B (w.alloc (.cells arr I)) (J k) (br muZ (X i) (some ⟨w.heap.size,0,arr.size⟩)):=by
      refine inv.rel.qd e (X i) (fun b o aj=>⟨rfl,bS _ _ _ _ o,fun ae D=>RowKit.Below.heap_alloc w _ _ (inv.rel.lt aj D)⟩) (fun ae D=>?_) (fun b ae ci o aj _ D bi=>?_) (fun ae _ D=>?_) inv.rel.fresh (fun b o=>?_)
      ·simp at D;subst D;rw[aD];refine⟨rfl,by simp[bp.1],arr,I,(0,0),heap_alloc_new w _,rfl,.inl rfl,fun j c C=>?_⟩;obtain⟨u,bv,bw,bx⟩:=bp.2 j c C;exact⟨u,by simpa using bv,bw,bx.j4 e⟩
      ·simp at bi;subst bi;have:=inv.rel.lt aj D;simp only[ne_eq];omega
      ·simp at D;subst D;exact inv.rel.size
      ·rw[bS _ _ _ _ F];exact inv.rel.iX b o
     have K:aB (w.alloc (.cells arr I)) ag (J k) (br muZ (X i) (some ⟨w.heap.size,0,arr.size⟩)) (val i) v:=by
      rw[bq];exact bQ _ _ _ _ _ aD V
     unfold Oper.wp;rw[ah];refine aM _ k _ _ _ ⟨aK,aF,inv.wE,aY (fun _ z=>by rw[Y] at z;cases z),inv.ext.trans e,fun b o aw=>by rw[bS _ _ _ _ F];exact inv.nb b o aw,r,?_,fun j O T am ao C=>?_⟩ aE
     ·rw[Ax av p H];have bY:gI N (w.alloc (.cells arr I)) ag (J k) (br muZ (X i) (some ⟨w.heap.size,0,arr.size⟩)) (o8 ops val sgZ ef) a:=⟨inv.rl.size,inv.rl.defers,fun cf=>(inv.rl.val cf).j4 e⟩
      exact bY.put (aG i t p) K
     ·obtain⟨aq,aS⟩:=aJ j C;rw[bS _ _ _ _ (fun z=>aq (bE j i O t T p am S ao Y z))];exact inv.w7 j O T am ao aS
    | fc=>
     obtain⟨q,U,rfl⟩:=bJ i t p S Y;have bX:q=k:=by
      have aC:¬ q<k:=fun z=>by
       have:=(inv.done q U).2 z;rw[aI] at this;cases this
      rcases fF k q with aU | aR
      ·have bg:k<m:=F;have:=aW (au k) (bU k q bg U aU);have:=(inv.done k bg).1 this;omega
      ·omega
     subst bX;refine bI q t U p ag B w muZ a t _ Q rfl inv.rel bf aZ fun v w' muZ' e r K=>?_
     obtain⟨a3,cb⟩:=(bL q U).rel r;have aO:=e.trans a3;refine aM _ (q+1) _ w' muZ' ⟨aK,aF,F,fun a0 bn=>?_,inv.ext.trans aO.toExt0,fun b o aw=>aO.nb b (nn o inv.ext.n) (inv.nb b o aw),cb,?_,fun j O T am ao C=>?_⟩ aE
     ·rw[se _ _ _ H];by_cases bo:a0=q
      ·subst bo;simp
      ·rw[ai (fun z=>bo (bN a0 q bn U z)),inv.done a0 bn];omega
     ·rw[Ax av p H];exact (inv.rl.ext aO).put (aG _ t p) (K.ext a3)
     ·have ay:=inv.w7 j O T am ao (aJ j C).2;rcases bG j O q T am ao U with o | o
      ·exact e.nb _ o ay
      ·exact r.iX _ o
 have bM:Inv P ops val sgZ W cls m au J X N ag B ax h xO (Array.replicate ops.size false) 0 a1 ax.drew xO:=by
  have aQ:∀ i,(Array.replicate ops.size false).getD i false=false:=by
   intro i;rw[hh,A8];split<;>rfl
  refine⟨V,(fun i t e _ ap _ _=>by rw[aQ] at ap;cases ap),eS _,(fun q U=>by rw[aQ];simp),a2.toExt0,fun b o aw=>aw,cd,?_,fun i t p S Y _=>?_⟩
  ·have aL:o8 ops val sgZ (Array.replicate ops.size false)=sgZ:=by
    funext I;unfold o8;cases az:h0 ops I with
    | none=>rfl
    | some i=>simp only[aQ];simp
   rw[aL];exact ce.ext a2
  ·obtain⟨mk,ay,bq,a6,hblk⟩:=bj i t p S Y;exact bt.iX _ a6
 exact b9 _ _ 0 a1 ax.drew xO bM V
theorem sO (o:P.follows .mixedOrders=true) (h:∀ g,(G g).ar=true) {j:J} (m:c7 P G j) :rT P G j:=XG (Qu o h) m
end
section
variable {P:bp} {G:Nat->U}
theorem DJ {g j:aY->U} (ps:Array (Nat × aY)) (h:∀ x∈(ps.toList.map (·.2)),g x=j x) :(ps.toList.map fun p=>(p.1,g p.2))=(ps.toList.map fun p=>(p.1,j p.2)):=
 mr fun p m=>by rw[h p.2 (cE.2 ⟨p,m,rfl⟩)]
theorem Dd {g hV:aY->U} (xs:Array aY) (h:∀ x∈xs,g x=hV x) :xs.toList.map g=xs.toList.map hV:=
 mr fun x j=>h x (by simpa using j)
theorem Dy {g hV:aY->U} (o:Option aY) (h:∀ x∈o.toArray,g x=hV x) :o.map g=o.map hV:=by
 cases o with
 | none=>rfl
 | some x=>simp[h x V]
theorem EH {o hV:aY->U} (h:aM) (op:Op) (j:∀ x∈op.operands,o x=hV x) :cO P h o op=cO P h hV op:=by
 cases op<;>simp only[Op.operands] at j<;>try rfl
 case build p m=>simp only[cO];rw[DJ m (fun x g=>j x (by simpa using g))]
 case buildSlice p n m=>simp only[cO];rw[DJ m (fun x g=>j x (by simpa using g))]
 case makeFunc fn first e3=>
  cases fn<;>simp only[cO];rw[Dd first (fun x g=>j x (by simp[g])),Dd e3 (fun x g=>j x (by simp[g]))]
 case slice p x v u w=>
  simp only[cO];rw[j x V,Dy v (fun y g=>j y (by simp at g ⊢;simp[g])),Dy u (fun y g=>j y (by simp at g ⊢;simp[g])),Dy w (fun y g=>j y (by simp at g ⊢;simp[g]))]
 case call c=>
  have t:c.args.toList.map o=c.args.toList.map hV:=Dd c.args (fun x g=>j x (by simp[Call.operands,g]));simp only[cO,qI,t];cases q:c.callee with
  | value f=>dsimp only;rw[j f (by simp[Call.operands,q])]
  | invoke x name=>dsimp only;rw[j x (by simp[Call.operands,q])]
  | _=>rfl
 case makeMap p r=>
  cases r with
  | none=>rfl
  | some x=>simp only[cO];rw[j x V]
 case next it b=>
  cases b with
  | false=>rfl
  | true=>simp only[cO];rw[j it V]
 all_goals (simp only[cO];simp_all)
theorem TB {h j:aY->U} (op:Op) (g:∀ x∈op.operands,h x=j x) :kP P h op=kP P j op:=by
 cases op<;>simp only[Op.operands] at g<;>try rfl
 case box m x=>simp only[kP];rw[g x V]
 case buildSlice m n p=>simp only[kP];rw[DJ p (fun x o=>g x (by simpa using o))]
 case makeSlice m l c=>simp only[kP];rw[g l V,g c V]
theorem QT {sgZ o:Nat->U} {h h' : aM} {v:U} {op:Op} (m:∀ x∈op.operands,dA G sgZ x=dA G o x) (j:c7 P G (.op op sgZ h v h')) :c7 P G (.op op o h v h'):=by
 generalize p:J.op op sgZ h v h'=t at j
 induction j generalizing v h'<;>cases p
 case zI q=>exact .zI (by rw[<-EH h op m];exact q)
 case uw=>exact .uw (by rw[<-EH h op m];assumption) (by assumption)
 case AX=>exact .AX (by first | (rename_i g;exact g rfl) | (rename_i g _;exact g rfl) | (rename_i g _ _;exact g rfl)) (by assumption) (by assumption)
inductive bJ where
 | skip (i:Nat)
 | pure (i:Nat) (g:U)
 | new (i:Nat) (g:U) (cs:ag)
 | fc (i:Nat) (g:U) (h1:aM)
def bJ.idx:bJ->Nat
 | .skip i | .pure i _ | .new i _ _ | .fc i _ _=>i
def bJ.val:bJ->U
 | .skip _=>fC
 | .pure _ g | .new _ g _ | .fc _ g _=>g
def bJ.hx:bJ->Bool
 | .fc ..=>true
 | _=>false
def bJ.pN:bJ->Bool
 | .skip _=>true
 | _=>false
def bJ.cls:bJ->x6
 | .skip _ | .pure ..=>.pure
 | .new ..=>.new
 | .fc ..=>.fc
def bJ.cs:bJ->ag
 | .new _ _ cs=>cs
 | _=>[]
structure jX where
 sgZ:Nat->U
 h:aM
def r6 (ops:Array a8) (i:Nat) :Option Tmp:=(ops[i]?).bind (·.dst)
def mU (h:aM) :bJ->aM
 | .skip _ | .pure ..=>h
 | .new _ _ cs=>h.push (.cells cs.length cs)
 | .fc _ _ h1=>h1
def jF (ops:Array a8) (s:jX) (t:bJ) :jX:=⟨gC s.sgZ (r6 ops t.idx) t.val,mU s.h t⟩
def fm (ops:Array a8) (s0:jX) (tr:List bJ) (p:Nat) :jX:=(tr.take p).foldl (jF ops) s0
theorem uT {ops:Array a8} {s0:jX} {tr:List bJ} {p:Nat} {t:bJ} (h:tr[p]?=some t) :fm ops s0 tr (p+1)=jF ops (fm ops s0 tr p) t:=by unfold fm;have g:p<tr.length:=(aL.1 h).1;rw[List.take_succ_eq_append_getElem g,Bi];have:tr[p]=t:=(aL.1 h).2;simp[this]
def tp (P:bp) (G:Nat->U) (ops:Array a8) (s:jX) :bJ->Prop
 | .skip i=>∃ g,ops[i]?=some g/\iJ ops s.sgZ g=some false
 | .pure i j=>∃ g,ops[i]?=some g/\iJ ops s.sgZ g=some true
 | .new i j cs=>∃ g mk,ops[i]?=some g/\iJ ops s.sgZ g=some true/\kP P (dA G s.sgZ) g.op=some (cs,mk)/\j=mk s.h.n
 | .fc i j h1=>∃ g,ops[i]?=some g/\iJ ops s.sgZ g=some true/\c7 P G (.op g.op s.sgZ s.h j h1)/\s.h.n<=h1.n
def BD (P:bp) (G:Nat->U) (ops:Array a8) (s:jX) (h:aM) :bJ->Prop
 | .pure i j=>∀ g,ops[i]?=some g->cO P h (dA G s.sgZ) g.op=some (.val j h)
 | .new _ _ cs=>h.f s.h.n=.cells cs.length cs
 | _=>True
structure tn (ops:Array a8) (pre:Nat->Nat->Bool) (tr:List bJ) :Prop where
 AP:po ops pre
 all:∀ i,i<ops.size->∃ (p:Nat) (t:bJ),tr[p]?=some t/\t.idx=i
 inj:∀ (p g:Nat) (t h:bJ),tr[p]?=some t->tr[g]?=some h->t.idx=h.idx->p=g
 Ai:∀ (p:Nat) (t:bJ),tr[p]?=some t->t.idx<ops.size
 Mc:∀ (p g:Nat) (t h:bJ),tr[p]?=some t->tr[g]?=some h->p<g->pre t.idx h.idx=false
 eager:∀ (p g:Nat) (t h:bJ),tr[p]?=some t->tr[g]?=some h->p<g->t.hx=true->pre h.idx t.idx=true
structure BE (P:bp) (G:Nat->U) (ops:Array a8) (pre:Nat->Nat->Bool) (s0:jX) (tr:List bJ) :Prop where
 step:∀ (p:Nat) (t:bJ),tr[p]?=some t->tp P G ops (fm ops s0 tr p) t
 still:∀ (q:Nat),(q=tr.length\/∃ t:bJ,tr[q]?=some t/\t.hx=true)->∀ (p:Nat) (t:bJ),p<q->tr[p]?=some t->
  (∀ (j:Nat) (g:bJ),j<q->tr[j]?=some g->g.hx=true->pre g.idx t.idx=false)->BD P G ops (fm ops s0 tr p) (fm ops s0 tr q).h t
def dv (tr:List bJ) (i:Nat) :Nat:=tr.findIdx fun g=>g.idx == i
theorem sy {ops:Array a8} {pre:Nat->Nat->Bool} {tr:List bJ} (p:tn ops pre tr) {i:Nat} (j:i<ops.size) :∃ t,tr[dv tr i]?=some t/\t.idx=i:=by
 obtain⟨q,t,h,o⟩:=p.all i j;have u:q<tr.length:=(aL.1 h).1;have m:∃ x∈tr,(x.idx == i)=true:=⟨t,cJ h,by simpa using o⟩
 have g:dv tr i<tr.length:=List.findIdx_lt_length_of_exists m;have:=List.findIdx_getElem (w:=g);exact⟨tr[dv tr i],by simp[g],by unfold dv;simpa using this⟩
theorem zS {ops:Array a8} {pre:Nat->Nat->Bool} {tr:List bJ} (g:tn ops pre tr) {p:Nat} {t:bJ} (h:tr[p]?=some t) :dv tr t.idx=p:=by obtain⟨m,h1,j⟩:=sy g (g.Ai p t h);exact g.inj _ _ _ _ h1 h j
theorem Lu {ops:Array a8} {pre:Nat->Nat->Bool} {tr:List bJ} (q:tn ops pre tr) (s0:jX) :∀ p,p<=tr.length->∀ t,
  (fm ops s0 tr p).sgZ t=match h0 ops t with | some j=>(if dv tr j<p then ((tr[dv tr j]?).map bJ.val).getD .bad else s0.sgZ t) | none=>s0.sgZ t:=by
 intro p
 induction p with
 | zero=>
  intro _ t;simp only[fm,nk,List.foldl_nil];cases h0 ops t<;>simp
 | succ p O=>
  intro R t;have H:p<tr.length:=F;have m:tr[p]?=some tr[p]:=bM H;rw[uT m];simp only[jF];have C:=O F t;have J:=zS q m;have K:=q.Ai p _ m;have D:ops[tr[p].idx]?=some ops[tr[p].idx]:=by simp[K]
  cases g:r6 ops tr[p].idx with
  | none=>
   simp only[gC,C];cases B:h0 ops t with
   | none=>rfl
   | some j=>
    simp only;obtain⟨P,h,w⟩:=s2 B;have I:dv tr j≠p:=by
     intro v;obtain⟨Q,h1,u⟩:=sy q ((ik.1 h).1);rw[v,m] at h1;cases h1;rw[<-u] at h;simp only[r6,h,qr] at g;rw[w] at g;cases g
    by_cases o:dv tr j<p
    ·rw[ak o,ak F]
    ·rw[ai o,ai F]
  | some d=>
   simp only[gC];by_cases z:t=d
   ·subst z;have G:ops[tr[p].idx].dst=some t:=by simpa [r6,D] using g
    rw[fK,q.AP.one _ _ t D G];simp[J,m]
   ·rw[bS _ _ _ _ z,C];cases B:h0 ops t with
    | none=>rfl
    | some j=>
     simp only;obtain⟨P,h,w⟩:=s2 B;have I:dv tr j≠p:=by
      intro v;obtain⟨Q,h1,u⟩:=sy q ((ik.1 h).1);rw[v,m] at h1;cases h1;rw[<-u] at h;simp only[r6,h,qr] at g;rw[w] at g;cases g;exact z rfl
     by_cases o:dv tr j<p
     ·rw[ak o,ak F]
     ·rw[ai o,ai F]
theorem Vf {ops:Array a8} {pre:Nat->Nat->Bool} (u:po ops pre) (v:∀ (i:Nat) (o:a8) (e:Edge),ops[i]?=some o->e∈o.after->Region.binds .any e=true->∃ m,ops[e.on]?=some m) :∀ (i:Nat) (o:a8),ops[i]?=some o->∀ j,pre i j=true->j<i:=by
 intro i
 induction i using Nat.strongRecOn with
 | _ i B=>
  intro o h j w;obtain⟨e,q,p,g⟩:=u.chain i o j h w;have t:=u.wb i o e h q p;rcases g with rfl | g
  ·exact t
  ·obtain⟨m,z⟩:=v i o e h q p;have:=B e.on t m z j g;omega
theorem TW {ops:Array a8} {pre:Nat->Nat->Bool} (h:po ops pre) (i:Nat) (o:a8) (g:ops[i]?=some o) (p:pre i i=true) :False:=by
 have:=Vf h (fun i o e g m j=>by
  have h1:=h.wb i o e g m j;have q:=(ik.1 g).1;exact⟨ops[e.on]'F,V⟩) i o g i p
 omega
theorem Hy {ops:Array a8} {pre:Nat->Nat->Bool} {tr:List bJ} (m:tn ops pre tr) (s0:jX) {i:Nat} {o:a8} (w:ops[i]?=some o) {t:Nat} (z:t∈o.looksAt ops) :
  kG ops pre (fun j=>((tr[dv tr j]?).map bJ.val).getD .bad) s0.sgZ i o t=(fm ops s0 tr (dv tr i)).sgZ t:=by
 have D:i<ops.size:=(ik.1 w).1;obtain⟨K,h1,u⟩:=sy m D;have G:dv tr i<=tr.length:=ks (aL.1 h1).1;rw[Lu m s0 _ G];unfold kG;rw[ak (by simpa using z)];cases B:h0 ops t with
 | none=>rfl
 | some j=>
  simp only;obtain⟨J,I,_⟩:=s2 B;obtain⟨O,q,v⟩:=sy m ((ik.1 I).1);have C:pre i j=true<->dv tr j<dv tr i:=by
   constructor
   ·intro g;rcases pn (dv tr j) (dv tr i) with h | h | h
    ·exact h
    ·exfalso;rw[h,h1] at q;cases q;have F:i=j:=by rw[<-u,<-v]
     subst F;exact TW m.AP i o w g
    ·have:=m.Mc _ _ _ _ h1 q h;rw[u,v] at this;rw[this] at g;cases g
   ·intro H;rcases m.AP.acc i o t j w z B with p | p | rfl
    ·exact p
    ·have:=m.Mc _ _ _ _ q h1 H;rw[u,v] at this;rw[this] at p;cases p
    ·omega
  by_cases g:pre i j=true
  ·rw[ak g,ak (C.1 g)]
  ·rw[ai g,ai (fun p=>g (C.2 p))]
def dT (tr:List bJ) :List Nat:=(List.range tr.length).filter fun g=>((tr[g]?).map bJ.hx).getD false
theorem zp {tr:List bJ} {p:Nat}:p∈dT tr<->∃ t,tr[p]?=some t/\t.hx=true:=by
 unfold dT;rw[dx,g3];constructor
 ·rintro⟨h1,g⟩;refine⟨tr[p],by simp[h1],?_⟩;simpa [h1] using g
 ·rintro⟨t,h1,g⟩;exact⟨(aL.1 h1).1,by simp[h1,g]⟩
theorem qR {tr:List bJ} {q g:Nat} (m:q<g) (h:g<(dT tr).length) :(dT tr).getD q 0<(dT tr).getD g 0:=by have j:(dT tr).Pairwise (· < ·):=List.Pairwise.filter _ List.pairwise_lt_range;have:=kq.1 j q g F h m;simpa [List.getD,h,show q<(dT tr).length by omega] using this
theorem Hu {tr:List bJ} {q:Nat} (g:q<(dT tr).length) :∃ t,tr[(dT tr).getD q 0]?=some t/\t.hx=true:=by apply zp.1;simp[List.getD,g]
theorem yL {tr:List bJ} {p:Nat} (h:p∈dT tr) :∃ q,q<(dT tr).length/\(dT tr).getD q 0=p:=by obtain⟨q,g,rfl⟩:=Fx h;exact⟨q,g,by simp[List.getD,g]⟩
theorem wR {ops:Array a8} {pre:Nat->Nat->Bool} {s0:jX} {tr:List bJ} (m:BE P G ops pre s0 tr) :∀ (k p:Nat),p+k<=tr.length->(fm ops s0 tr p).h.n<=(fm ops s0 tr (p+k)).h.n
 | 0,p,_=>aN _
 | k+1,p,w=>by
  have v:=wR m k p F;have q:p+k<tr.length:=F;have g:tr[p+k]?=some tr[p+k]:=bM q;have j:=m.step _ _ g;rw[show p+(k+1)=(p+k)+1 from rfl,uT g];refine dC v ?_;cases u:tr[p+k] with
  | skip i=>simp[jF,mU]
  | pure i o=>simp[jF,mU]
  | new i o cs=>simp[jF,mU,jk]
  | fc i o h1=>
   rw[u] at j;obtain⟨z,_,_,_,t⟩:=j;simpa [jF,mU] using t
theorem CF {ops:Array a8} {s0:jX} {tr:List bJ}:∀ (k p:Nat),p+k<=tr.length->(∀ r,p<=r->r<p+k->r∉dT tr)->lN (fm ops s0 tr p).h (fm ops s0 tr (p+k)).h
 | 0,p,_,_=>⟨[],rfl⟩
 | k+1,p,z,o=>by
  obtain⟨l,g⟩:=CF (ops:=ops) (s0:=s0) (tr:=tr) k p F (fun r h1 w=>o r h1 F);have u:p+k<tr.length:=F;have j:tr[p+k]?=some tr[p+k]:=bM u;have m:tr[p+k].hx≠true:=fun t=>o (p+k) F F (zp.2 ⟨_,j,t⟩)
  rw[show p+(k+1)=(p+k)+1 from rfl,uT j];cases v:tr[p+k] with
  | skip i=>exact⟨l,by simp[jF,mU,g]⟩
  | pure i q=>exact⟨l,by simp[jF,mU,g]⟩
  | new i q cs=>exact⟨l++[cs],by simp[jF,mU,g,rf]⟩
  | fc i q h1=>rw[v] at m;exact bV rfl m
theorem c7.Qs {id:Nat} {ops:Array a8} {pre:Nat->Nat->Bool} {N:Nat} {s0:jX} {tr:List bJ} (B:tn ops pre tr) (aK:∀ (i:Nat) (o:a8),ops[i]?=some o->hO N o.dst=true) (X:BE P G ops pre s0 tr) :
  c7 P G (.code (.region id ops true) N s0.sgZ s0.h .normal (fm ops s0 tr tr.length).sgZ (fm ops s0 tr tr.length).h):=by
 -- the step that carries out operation i
 have gE:∀ (i:Nat) (o:a8),ops[i]?=some o->∃ t,tr[dv tr i]?=some t/\t.idx=i/\tp P G ops (fm ops s0 tr (dv tr i)) t:=fun i o j=>by
  obtain⟨t,h1,m⟩:=sy B ((ik.1 j).1);exact⟨t,h1,m,X.step _ _ h1⟩
 have a2:∀ (i:Nat) (o:a8),ops[i]?=some o->iJ ops (kG ops pre (fun g=>((tr[dv tr g]?).map bJ.val).getD .bad) s0.sgZ i o) o=iJ ops (fm ops s0 tr (dv tr i)).sgZ o:=fun i o j=>by
  unfold iJ;cases aR:o.guard with
  | none=>rfl
  | some a0=>
   obtain⟨g,bj⟩:=a0;simp only;cases aM:(ops[g]?).bind (·.dst) with
   | none=>rfl
   | some d=>
    simp only;rw[Hy B s0 j (t:=d) (by simp[Oper.looksAt,aR,aM])]
 have av:∀ (i:Nat) (o:a8),ops[i]?=some o->∀ x∈o.op.operands,dA G (fm ops s0 tr (dv tr i)).sgZ x=dA G (kG ops pre (fun g=>((tr[dv tr g]?).map bJ.val).getD .bad) s0.sgZ i o) x:=fun i o j x aZ=>by
  cases x with
  | tmp t=>
   refine (Hy B s0 j (t:=t) ?_).symm;simp only[Oper.looksAt,fE,List.mem_filterMap];exact .inl ⟨.tmp t,by simpa using aZ,rfl⟩
  | _=>rfl
 -- the moment ahead of effect k,or the end
 have ax:∀ k,k<=(dT tr).length->∃ T,T<=tr.length/\(T=tr.length\/∃ t,tr[T]?=some t/\t.hx=true)/\(T=if k<(dT tr).length then (dT tr).getD k 0 else tr.length):=fun k hk=>by
  by_cases D:k<(dT tr).length
  ·obtain⟨t,h1,m⟩:=Hu D;exact⟨_,ks (aL.1 h1).1,.inr ⟨t,h1,m⟩,by rw[ak D]⟩
  ·exact⟨_,aN _,.inl rfl,by rw[ai D]⟩
 have I:∀ q,q<(dT tr).length->∃ t,tr[(dT tr).getD q 0]?=some t/\t.hx=true/\((tr[(dT tr).getD q 0]?).map bJ.idx).getD 0=t.idx:=fun q p=>by
  obtain⟨t,h1,m⟩:=Hu p;exact⟨t,h1,m,by rw[h1];rfl⟩
 have aH:∀ (i:Nat) (o:a8) (t:bJ),ops[i]?=some o->tr[dv tr i]?=some t->t.idx=i->t.hx=false->∀ k,tP pre (dT tr).length (fun q=>((tr[(dT tr).getD q 0]?).map bJ.idx).getD 0) i k->
   BD P G ops (fm ops s0 tr (dv tr i)) (fm ops s0 tr (if k<(dT tr).length then (dT tr).getD k 0 else tr.length)).h t:=by
  intro i o t j ah aG aT k ae;obtain⟨aS,aP,aQ⟩:=ae;obtain⟨T,az,ao,C⟩:=ax k aS;rw[<-C];have a9:dv tr i<tr.length:=(aL.1 ah).1;have aU:dv tr i<T:=by
   by_cases D:k<(dT tr).length
   ·rw[ak D] at C;obtain⟨a1,h1,m,w⟩:=I k D;rw[<-C] at h1;rcases pn (dv tr i) T with h | h | h
    ·exact h
    ·rw[h,h1] at ah;cases ah;rw[aT] at m;cases m
    ·have Q:=B.eager T (dv tr i) a1 t h1 ah h m;have:=aP k D (by (try simp only);rw[w,<-aG];exact Q);omega
   ·rw[ai D] at C;omega
  refine X.still T ao _ t aU ah (fun bg W a6 aF aO=>?_);obtain⟨q,p,ag⟩:=yL (zp.2 ⟨W,aF,aO⟩);obtain⟨bh,h1,m,w⟩:=I q p;rw[ag,aF] at h1;cases h1;have bb:q<k:=by
   by_cases D:k<(dT tr).length
   ·rw[ak D] at C;rcases fF q k with h | h
    ·exact h
    ·rcases FI h with h | h
     ·subst h;omega
     ·have:=qR (tr:=tr) h p;omega
   ·omega
  cases aE:pre W.idx t.idx with
  | false=>rfl
  | true=>
   have:=aQ q p (by (try simp only);rw[w,<-aG];exact aE);omega
 refine c7.draw pre (fun g=>((tr[dv tr g]?).map bJ.val).getD .bad) (fun g=>((tr[dv tr g]?).map fun t=>!t.pN).getD false) (fun g=>((tr[dv tr g]?).map bJ.cls).getD .pure) (dT tr).length
  (fun q=>((tr[(dT tr).getD q 0]?).map bJ.idx).getD 0) (fun k=>(fm ops s0 tr (if k<(dT tr).length then (dT tr).getD k 0 else tr.length)).h) (fun q=>(fm ops s0 tr ((dT tr).getD q 0+1)).h)
  (fun g=>(fm ops s0 tr (dv tr g)).h.n) (fun g=>((tr[dv tr g]?).map bJ.cs).getD []) B.AP aK ?_ ?_ ?_ ?_ ?_ ?_ ?_ ?_ ?_ ?_ ?_ ?_ ?_ ?_ ?_
 ·-- h0
  obtain⟨T,az,ao,C⟩:=ax 0 (eS _)
  try simp only
  rw[<-C];have:=CF (ops:=ops) (s0:=s0) (tr:=tr) T 0 F (fun r _ bc aq=>by
   obtain⟨q,p,ag⟩:=yL aq;rw[ak F] at C;rcases FI (eS q) with h | h
   ·subst h;omega
   ·have:=qR (tr:=tr) h p;omega)
  simpa [fm] using this
 ·simp
 ·-- hσ
  funext t;rw[Lu B s0 _ (aN _)];cases O:h0 ops t with
  | none=>rfl
  | some g=>
   obtain⟨o,j,_⟩:=s2 O;obtain⟨bi,h1,_⟩:=sy B ((ik.1 j).1);simp only;rw[ak ((aL.1 h1).1)]
 ·-- heff
  intro i o j K v;obtain⟨t,h1,m,_⟩:=gE i o j;simp only[h1,cA,g4] at v;have Q:t.hx=true:=by cases t<;>simp_all [bJ.cls,bJ.hx]
  obtain⟨q,p,ag⟩:=yL (zp.2 ⟨t,h1,Q⟩);exact⟨q,p,by rw[ag,h1];exact m⟩
 ·-- heff'
  intro q p;obtain⟨t,h1,m,w⟩:=I q p;refine⟨ops[t.idx]'(B.Ai _ _ h1),by rw[w];simp[B.Ai _ _ h1],?_,?_⟩
  ·simp only[zS B h1,h1,cA,g4];cases t<;>simp_all [bJ.pN,bJ.hx]
  ·simp only[zS B h1,h1,cA,g4];cases t<;>simp_all [bJ.cls,bJ.hx]
 ·-- hord
  intro q kT p U D;obtain⟨t,h1,m,w⟩:=I q p;obtain⟨W,H,al,am⟩:=I kT U;simp only[w,am];exact B.eager _ _ t W h1 H (qR D U) m
 ·-- hinj
  intro q kT p U Q;obtain⟨t,h1,m,w⟩:=I q p;obtain⟨W,H,al,am⟩:=I kT U;simp only[w,am] at Q;have:=B.inj _ _ t W h1 H Q;rcases pn q kT with h | h | h
  ·have:=qR (tr:=tr) h U;omega
  ·exact h
  ·have:=qR (tr:=tr) h p;omega
 ·-- hwant
  intro i o j;rw[a2 i o j];obtain⟨t,h1,m,w⟩:=gE i o j;simp only[h1,cA,g4];cases t with
  | skip g=>obtain⟨R,u,O⟩:=w;simp only[bJ.idx] at m;subst m;rw[j] at u;cases u;exact O
  | pure g z=>obtain⟨R,u,O⟩:=w;simp only[bJ.idx] at m;subst m;rw[j] at u;cases u;exact O
  | new g z cs=>obtain⟨R,mk,u,O,_⟩:=w;simp only[bJ.idx] at m;subst m;rw[j] at u;cases u;exact O
  | fc g z H=>obtain⟨R,u,O,_⟩:=w;simp only[bJ.idx] at m;subst m;rw[j] at u;cases u;exact O
 ·-- hskip
  intro i o j K;obtain⟨t,h1,m,w⟩:=gE i o j;simp only[h1,cA,g4] at K ⊢;cases t<;>simp_all [bJ.pN,bJ.val]
 ·-- hpure
  intro i o j K v k ae;obtain⟨t,h1,m,w⟩:=gE i o j;simp only[h1,cA,g4] at K v;have au:=aH i o t j h1 m (by cases t<;>simp_all [bJ.cls,bJ.hx]) k ae;cases t with
  | pure g z=>
   simp only[bJ.idx] at m;subst m;have:=au o j;rw[EH _ _ (av g o j)] at this;simpa [h1,bJ.val] using this
  | skip g=>simp[bJ.pN] at K
  | new g z cs=>simp[bJ.cls] at v
  | fc g z H=>simp[bJ.cls] at v
 ·-- hnew
  intro i o j K v;obtain⟨t,h1,m,w⟩:=gE i o j;simp only[h1,cA,g4] at K v;cases t with
  | new g z cs=>
   obtain⟨R,mk,u,_,aD,aY⟩:=w;simp only[bJ.idx] at m;subst m;rw[j] at u;cases u;rw[TB _ (av g o j)] at aD;refine⟨mk,by simpa [h1,bJ.cs] using aD,by simpa [h1,bJ.val] using aY,?_,fun k ae=>?_⟩
   ·have a5:dv tr g<=tr.length:=ks (aL.1 h1).1;have:=wR X (dv tr g) 0 F;simpa [fm] using this
   ·have au:=aH g o _ j h1 rfl rfl k ae;simpa [BD,h1,bJ.cs] using au
  | skip g=>simp[bJ.pN] at K
  | pure g z=>simp[bJ.cls] at v
  | fc g z H=>simp[bJ.cls] at v
 ·-- hbid
  intro i g o R j u a3 a4 aI aJ aA;have ay:∀ (i:Nat) (o:a8),ops[i]?=some o->((tr[dv tr i]?).map bJ.cls).getD .pure=.new->∀ V,dv tr i<V->V<=tr.length->(fm ops s0 tr (dv tr i)).h.n<(fm ops s0 tr V).h.n:=by
   intro i o j v V aE a7;obtain⟨t,h1,m,_⟩:=gE i o j;simp only[h1,cA,g4] at v;have S:=wR X (V - (dv tr i+1)) (dv tr i+1) F;rw[show dv tr i+1+(V - (dv tr i+1))=V by omega,uT h1] at S;cases t with
   | new g z cs=>simp only[jF,mU,jk] at S;omega
   | skip g=>simp[bJ.cls] at v
   | pure g z=>simp[bJ.cls] at v
   | fc g z H=>simp[bJ.cls] at v
  obtain⟨t,h1,m,_⟩:=gE i o j;obtain⟨W,H,al,_⟩:=gE g R u;have aC:=(aL.1 h1).1;have ap:=(aL.1 H).1;rcases pn (dv tr i) (dv tr g) with h | h | h
  ·have:=ay i o j aI _ h (ks ap);(try simp only at aA);omega
  ·rw[h,H] at h1;cases h1;rw[<-m,<-al]
  ·have:=ay g R u aJ _ h (ks aC);(try simp only at aA);omega
 ·-- hbid'
  intro i o q j K v p;obtain⟨t,h1,m,_⟩:=gE i o j;obtain⟨aw,J,Y,aj⟩:=I q p;simp only[h1,cA,g4] at v;have aC:=(aL.1 h1).1;have ap:=(aL.1 J).1;simp only[ak p];rcases pn (dv tr i) ((dT tr).getD q 0) with h | h | h
  ·left;have S:=wR X ((dT tr).getD q 0 - (dv tr i+1)) (dv tr i+1) F;rw[show dv tr i+1+((dT tr).getD q 0 - (dv tr i+1))=(dT tr).getD q 0 by omega,uT h1] at S;cases t with
   | new g z cs=>simp only[jF,mU,jk] at S;omega
   | skip g=>simp[bJ.cls] at v
   | pure g z=>simp[bJ.cls] at v
   | fc g z H=>simp[bJ.cls] at v
  ·rw[h,J] at h1;cases h1;cases t<;>simp_all [bJ.cls,bJ.hx]
  ·right;have S:=wR X (dv tr i - ((dT tr).getD q 0+1)) ((dT tr).getD q 0+1) F
   rwa [show (dT tr).getD q 0+1+(dv tr i - ((dT tr).getD q 0+1))=dv tr i by omega] at S
 ·-- hgrow
  intro q p;obtain⟨aw,J,Y,aj⟩:=I q p;have ap:=(aL.1 J).1;obtain⟨T,az,ao,C⟩:=ax (q+1) F
  try simp only
  rw[<-C];have D:(dT tr).getD q 0<T:=by
   by_cases h:q+1<(dT tr).length
   ·rw[ak h] at C;have:=qR (tr:=tr) (show q<q+1 by omega) h;omega
   ·rw[ai h] at C;omega
  have:=CF (ops:=ops) (s0:=s0) (tr:=tr) (T - ((dT tr).getD q 0+1)) ((dT tr).getD q 0+1) F (fun r bd bf aq=>by
   obtain⟨kT,U,ag⟩:=yL aq;have aV:q<kT:=by
    rcases pn q kT with h | h | h
    ·exact h
    ·subst h;omega
    ·have:=qR (tr:=tr) h p;omega
   by_cases h:q+1<(dT tr).length
   ·rw[ak h] at C;rcases FI (show q+1<=kT from aV) with h' | h'
    ·subst h';omega
    ·have:=qR (tr:=tr) h' U;omega
   ·omega)
  rwa [show (dT tr).getD q 0+1+(T - ((dT tr).getD q 0+1))=T by omega] at this
 ·-- hcall
  intro q o p j;obtain⟨aw,J,Y,aj⟩:=I q p;have ar:=zS B J;simp only[aj] at j ⊢;have aW:=X.step _ _ J;cases aw with
  | fc g z h1=>
   obtain⟨R,u,_,Q,_⟩:=aW;simp only[bJ.idx] at j ar ⊢;rw[j] at u;cases u;have aB:=av g o j;rw[ar] at aB;have:=QT aB Q;simp only[ar,J,ak p,cA,g4,bJ.val];rw[uT J];exact this
  | skip g=>simp[bJ.hx] at Y
  | pure g z=>simp[bJ.hx] at Y
  | new g z cs=>simp[bJ.hx] at Y
end
abbrev N9:=cC U
def look (s:N9) (t:Nat) :U:=match s.get t with | some g=>g | none=>fC
def uX (m i:Nat) :Bool:=Nat.testBit m i
def qQ (g:List Nat) :List Edge->Nat
 | []=>0
 | e::h=>match Region.binds .any e with
  | true=>Nat.lor (Nat.lor (2 ^ e.on) (g.getD e.on 0)) (qQ g h)
  | false=>qQ g h
def I2 (g:List Nat) :List a8->List Nat
 | []=>g
 | h::j=>I2 (g++[qQ g h.after.toList]) j
def gX (ops:Array a8) :List Nat:=I2 [] ops.toList
def mf (g:List Nat) (i j:Nat) :Bool:=uX (g.getD i 0) j
def iv:Op->Bool
 | .move _ | .assign _ | .pick .. | .alloc _ | .box .. | .build .. | .buildSlice .. | .load .. | .nilCheck _ | .binOp .. | .unOp .. | .convert .. | .makeInterface .. | .makeFunc .. | .makeSlice .. | .slice .. | .fieldAddr .. | .field .. | .indexAddr .. | .index .. | .extract ..=>false
 | .call c=>match c.callee with
  | .builtin .len | .builtin .cap | .builtin .min | .builtin .max=>false
  | _=>true
 | _=>true
def DM (done:Nat) (fc:Bool) :Nat->List Nat->List a8->Option Nat
 | i,g::h,j::m=>match !uX done i&&Nat.beq (Nat.land g done) g&&(iv j.op == fc) with
  | true=>some i
  | false=>DM done fc (i+1) h m
 | _,_,_=>none
def Es (g:List Nat) (os:List a8) :Nat->Nat->List Nat
 | 0,_=>[]
 | k+1,done=>match DM done false 0 g os with
  | some i=>i::Es g os k (Nat.lor done (2 ^ i))
  | none=>match DM done true 0 g os with
   | some i=>i::Es g os k (Nat.lor done (2 ^ i))
   | none=>[]
def eA (g:List Nat) (ops:Array a8) :List Nat:=Es g ops.toList ops.size 0
def g6 (p:Nat->a8->Bool) :Nat->List a8->Bool
 | _,[]=>true
 | i,g::h=>p i g&&g6 p (i+1) h
theorem F8 {p:Nat->a8->Bool}:∀ (l:List a8) (i:Nat),g6 p i l=true->∀ (j:Nat) (o:a8),l[j]?=some o->p (i+j) o=true
 | [],i,_,j,o,h=>by simp at h
 | x::l,i,h,j,o,g=>by
  simp only[g6,bU] at h;cases j with
  | zero=>simp only[hl,bc] at g;subst g;exact h.1
  | succ j=>
   simp only[js] at g;have:=F8 l (i+1) h.2 j o g
   rwa [show i+1+j=i+(j+1) by omega] at this
def Cd (t:Nat) (o:a8) :Bool:=match o.dst with | some d=>Nat.beq d t | none=>false
def s1 (t:Nat) :Nat->List a8->Option Nat
 | _,[]=>none
 | i,g::h=>match Cd t g with
  | true=>some i
  | false=>s1 t (i+1) h
def Cb (h:List Nat) (ops:Array a8) :Bool:=
 g6 (fun i j=>
  Nat.beq (h.getD i 0) (qQ h j.after.toList) &&
  (j.after.toList.all fun e=>!Region.binds .any e||Nat.blt e.on i) &&
  (match j.dst with | some d=>(match s1 d 0 ops.toList with | some g=>Nat.beq g i | none=>false) | none=>true) &&
  ((j.looksAt ops).all fun m=>match s1 m 0 ops.toList with | some g=>mf h i g||mf h g i||Nat.beq g i | none=>true)) 0 ops.toList &&
 Region.noSelect ops
def zJ (h:List Nat) :List Nat->Bool
 | []=>true
 | i::r=>(r.all fun g=>!Nat.beq i g&&!mf h i g)&&zJ h r
def DC (h:List Nat) (ops:Array a8) (g:List Nat) :Bool:=
 Cb h ops&&zJ h g&&Nat.beq g.length ops.size&&(g.all fun i=>Nat.blt i ops.size)&&(List.range ops.size).all fun i=>g.contains i
section
variable (P:bp) (G:Nat->U)
end
theorem Cf (ms:List Nat) (j:Nat) :∀ (es:List Edge),uX (qQ ms es) j=true->∃ e∈es,Region.binds .any e=true/\(e.on=j\/mf ms e.on j=true)
 | [],h=>by simp[qQ,uX] at h
 | e::es,h=>by
  unfold qQ at h;cases g:Region.binds .any e with
  | false=>
   rw[g] at h;obtain⟨m,h1,o⟩:=Cf ms j es h;exact⟨m,Bk _ h1,o⟩
  | true=>
   rw[g] at h;simp only[uX] at h;have h' : Nat.testBit ((2 ^ e.on ||| ms.getD e.on 0) ||| qQ ms es) j=true:=h;rw[Nat.testBit_or,Nat.testBit_or,rF,rF,Nat.testBit_two_pow] at h';rcases h' with (h' | h') | h'
   ·exact⟨e,FA,g,.inl (by simpa using h')⟩
   ·exact⟨e,FA,g,.inr h'⟩
   ·obtain⟨m,h1,o⟩:=Cf ms j es h';exact⟨m,Bk _ h1,o⟩
theorem MT (t:Nat) :∀ (l:List a8) (i:Nat),s1 t i l=((List.range l.length).find? fun j=>match l[j]? with | some o=>o.dst == some t | none=>false).map (·+i)
 | [],i=>by simp[s1]
 | o::l,i=>by
  unfold s1;have g:Cd t o=(o.dst == some t):=by
   unfold Cd;cases o.dst with
   | none=>rfl
   | some d=>
    by_cases h:d=t
    ·subst h;simp
    ·have:Nat.beq d t=false:=iz h;simp[this,h]
  rw[g,dM,List.range_succ_eq_map,Bh];simp only[hl];cases m:(o.dst == some t) with
  | true=>simp
  | false=>
   simp only[List.find?_map];rw[MT t l (i+1)];have:((fun j=>match (o::l)[j]? with | some o=>o.dst == some t | none=>false) ∘ Nat.succ)=fun j=>match l[j]? with | some o=>o.dst == some t | none=>false:=by
    funext j;simp
   rw[this];cases (List.range l.length).find? (fun j=>match l[j]? with | some o=>o.dst == some t | none=>false) with
   | none=>rfl
   | some j=>simp;omega
theorem MS (ops:Array a8) (t:Nat) :s1 t 0 ops.toList=h0 ops t:=by
 rw[MT];unfold h0;simp only[qk,rB,nm,Option.map_id_fun',id_eq]
 all_goals congr 1
theorem Qt {q:List Nat} {ops:Array a8} (h:Cb q ops=true) :po ops (mf q):=by
 unfold Cb at h;rw[bU] at h;obtain⟨h,D⟩:=h;have m:∀ (i:Nat) (g:a8),ops[i]?=some g->_:=fun i g j=>F8 _ 0 h i g (by simpa using j)
 simp only[hI,bU] at m;refine⟨fun i g e j B w=>?_,fun i g p j C=>?_,fun i g t j z=>?_,fun i g t p j F o=>?_,D⟩
 ·have:=(m i g j).1.1.2;rw[gb] at this;have:=this e (by simpa using B);rw[w] at this;simp only[vd,Bb] at this;simpa [Bs] using this
 ·have:=iy (m i g j).1.1.1;have u:uX (q.getD i 0) p=true:=C;rw[this] at u;obtain⟨e,h1,v⟩:=Cf q p _ u;exact⟨e,by simpa using h1,v⟩
 ·have:=(m i g j).1.2;rw[z] at this;simp only at this;rw[MS] at this;cases o:h0 ops t with
  | none=>rw[o] at this;cases this
  | some p=>rw[o] at this;simp only at this;rw[iy this]
 ·have:=(m i g j).2;rw[gb] at this;have:=this t F;rw[MS,o] at this;simp only[rF] at this;rcases this with (h1 | h1) | h1
  ·exact .inl h1
  ·exact .inr (.inl h1)
  ·exact .inr (.inr (iy h1))
theorem zK {q:List Nat}:∀ {l:List Nat},zJ q l=true->∀ (p g:Nat) (i j:Nat),l[p]?=some i->l[g]?=some j->p<g->i≠j/\mf q i j=false
 | [],_,p,g,i,j,m,_,_=>by simp at m
 | x::l,h,p,g,i,j,m,o,u=>by
  simp only[zJ,bU,gb] at h;cases g with
  | zero=>omega
  | succ g=>
   simp only[js] at o;cases p with
   | zero=>
    simp only[hl,bc] at m;subst m;have:=h.1 j (cJ o);simp only[vc] at this;refine⟨fun t=>?_,this.2⟩;subst t;rw[pX rfl] at this;cases this.1
   | succ p=>
    simp only[js] at m;exact zK h.2 p g i j m o F
section
variable {P:bp} {G:Nat->U}
theorem Ay {ops:Array a8} {s0:jX} {t:bJ} {tr:List bJ} (p:Nat) :fm ops s0 (t::tr) (p+1)=fm ops (jF ops s0 t) tr p:=by simp[fm]
end
section
variable {P:bp} {G:Nat->U}
theorem uE (w:aT) (R:Nat->Prop) (j:∀ k,w.heap.size<=k->R k) :bF R w.heap.size w aM.empty (fun _=>none) where
 blk:=fun b h m=>by cases m
 inj:=fun b o h p g=>by rw[yM] at g;cases g
 base:=fun b h g=>by rw[yM] at g;cases g
 fresh:=fun b _=>yM b
 up:=j
 size:=aN _
 iX:=fun b _=>rfl
theorem mV (muZ:b3) (k:Nat) :¬ Own aM.empty muZ k:=by rintro⟨b,h,g,_⟩;rw[yM] at g;cases g
theorem EW (B:P.follows .mixedOrders=true) (m:∀ g,(G g).ar=true) {f:cj} {args:ag} {r:U} {h' : aM} (p:c7 P G (.call f args aM.empty r h'))
  {w:aT} {A:Nat->Prop} {vs:Array aE} (q:∀ g,de w A (G g) (.pointer (some ⟨g,0,none⟩))) (z:vs.size=args.length)
  (D:∀ (j:Nat) (c:U) (v:aE),args[j]?=some c->vs[j]?=some v->de w A c v) :
  Calls P f vs w fun e w'=>∃ v muZ',e=.returned v/\ew w w'/\bF (fun k=>A k\/w.heap.size<=k) w.heap.size w' h' muZ'/\aB w' (fun k=>A k\/w.heap.size<=k) h' muZ' r v:=by
 have up:∀ {c:U} {v:aE},de w A c v->aB w (fun k=>A k\/w.heap.size<=k) aM.empty (fun _=>none) c v:=fun o=>o.up (fun k _ hk=>⟨.inl hk,mV _ k⟩)
 refine (sO B m p (fun k=>A k\/w.heap.size<=k) w.heap.size w (fun _=>none) vs (uE w _ fun k hk=>.inr hk) (fun g=>⟨m g,up (q g)⟩) z (fun j c v t u=>up (D j c v t u))).mono ?_;rintro e w' ⟨v,muZ',rfl,h,rel,C⟩;exact⟨v,muZ',rfl,⟨⟨h.os,h.tape,h.output,h.size,fun k hk=>h.bm k hk (mV _ k)⟩,h.drawn⟩,rel,C⟩
theorem Yd (t:P.follows .mixedOrders=true) (h:∀ g,(G g).ar=true) {f:cj} {args:ag} {h' : aM} (o:c7 P G (.call f args aM.empty (.bool true) h'))
  {w:aT} {A:Nat->Prop} {vs:Array aE} (p:∀ g,de w A (G g) (.pointer (some ⟨g,0,none⟩))) (q:vs.size=args.length)
  (z:∀ (j:Nat) (c:U) (v:aE),args[j]?=some c->vs[j]?=some v->de w A c v) :
  Calls P f vs w fun e w'=>e=.returned (.bool true)/\RowKit.Below w.heap.size w w':=by refine (EW t h o p q z).mono ?_;rintro e w' ⟨v,muZ',rfl,m,_,u⟩;cases u;exact⟨rfl,m.toBelow⟩
def FT:Nat->U:=fun _=>.bad
end
section
variable {alZ:Type}
theorem rj:∀ (k k' : Nat) (t:cC alZ) (n:Nat) (x:alZ),n<k->n<k'->t.iH k n x=t.iH k' n x
 | 0,_,_,_,_,h,_=>F
 | _+1,0,_,_,_,_,h=>F
 | k+1,k'+1,t,n,x,h,h'=>by
  by_cases g:n=0
  ·subst g;cases t<;>rfl
  ·have j:Nat.beq n 0=false:=iz g;cases t with
   | nil=>
    unfold cC.iH;simp only[j];rw[rj k k' .nil (n / 2) x F F,rj k k' .nil (n / 2 - 1) x F F]
   | node l m r=>
    unfold cC.iH;simp only[j];rw[rj k k' l (n / 2) x F F,rj k k' r (n / 2 - 1) x F F]
def cC.lt:cC alZ->cC alZ | .nil=>.nil | .node l _ _=>l
def cC.rt:cC alZ->cC alZ | .nil=>.nil | .node _ _ r=>r
def cC.mid:cC alZ->Option alZ | .nil=>none | .node _ v _=>v
theorem nY (t:cC alZ) (x:alZ) :t.set 0 x=.node t.lt (some x) t.rt:=by cases t<;>rfl
theorem kY (t:cC alZ) (m:Nat) (x:alZ) :t.set (2*m+1) x=.node (t.lt.set m x) t.mid t.rt:=by
 have h1:Nat.beq (2*m+1) 0=false:=iz F;have g:Nat.beq ((2*m+1) % 2) 1=true:=pX F;have h:(2*m+1) / 2=m:=F;cases t with
 | nil=>show cC.iH (2*m+1+1) .nil (2*m+1) x=_;unfold cC.iH;simp only[h1,g,h];rw[rj _ (m+1) _ _ _ F F];rfl
 | node l j r=>show cC.iH (2*m+1+1) (.node l j r) (2*m+1) x=_;unfold cC.iH;simp only[h1,g,h];rw[rj _ (m+1) _ _ _ F F];rfl
theorem kX (t:cC alZ) (m:Nat) (x:alZ) :t.set (2*m+2) x=.node t.lt t.mid (t.rt.set m x):=by
 have h1:Nat.beq (2*m+2) 0=false:=iz F;have g:Nat.beq ((2*m+2) % 2) 1=false:=iz F;have h:(2*m+2) / 2 - 1=m:=F;cases t with
 | nil=>show cC.iH (2*m+2+1) .nil (2*m+2) x=_;unfold cC.iH;simp only[h1,g,h];rw[rj _ (m+1) _ _ _ F F];rfl
 | node l j r=>show cC.iH (2*m+2+1) (.node l j r) (2*m+2) x=_;unfold cC.iH;simp only[h1,g,h];rw[rj _ (m+1) _ _ _ F F];rfl
theorem Dm (n:Nat) :n=0\/(∃ m,m<n/\n=2*m+1)\/∃ m,m<n/\n=2*m+2:=by
 rcases Nat.eq_zero_or_pos n with h | h
 ·exact .inl h
 ·rcases Nat.mod_two_eq_zero_or_one n with g | g
  ·exact .inr (.inr ⟨n / 2 - 1,F,F⟩)
  ·exact .inr (.inl ⟨n / 2,F,F⟩)
theorem Xf (n:Nat) :∀ (t:cC alZ) (x y:alZ),(t.set n x).set n y=t.set n y:=by
 induction n using Nat.strongRecOn with
 | _ n j=>
  intro t x y;rcases Dm n with rfl | ⟨h,g,rfl⟩ | ⟨h,g,rfl⟩
  ·rw[nY t x,nY t y,nY];rfl
  ·rw[kY t,kY t,kY];simp only[cC.lt,cC.mid,cC.rt,j h g]
  ·rw[kX t,kX t,kX];simp only[cC.lt,cC.mid,cC.rt,j h g]
theorem set_comm (n:Nat) :∀ (t:cC alZ) (k:Nat) (x y:alZ),n≠k->(t.set n x).set k y=(t.set k y).set n x:=by
 induction n using Nat.strongRecOn with
 | _ n m=>
  intro t k x y p;rcases Dm n with rfl | ⟨j,g,rfl⟩ | ⟨j,g,rfl⟩<;>rcases Dm k with rfl | ⟨h,o,rfl⟩ | ⟨h,o,rfl⟩
  ·exact bV rfl p
  ·rw[nY t,kY,kY t,nY];rfl
  ·rw[nY t,kX,kX t,nY];rfl
  ·rw[kY t,nY,nY t,kY];rfl
  ·rw[kY t,kY,kY t,kY];simp only[cC.lt,cC.mid,cC.rt];rw[m j g _ h _ _ F]
  ·rw[kY t,kX,kX t,kY];rfl
  ·rw[kX t,nY,nY t,kX];rfl
  ·rw[kX t,kY,kY t,kX];rfl
  ·rw[kX t,kX,kX t,kX];simp only[cC.lt,cC.mid,cC.rt];rw[m j g _ h _ _ F]
end
abbrev ae:=List aq
def kL:Nat->cC aq->ae->cC aq
 | _,g,[]=>g
 | i,g,c::cs=>kL (i+1) (g.set i c) cs
def aZ (l:ae) :aM:=⟨l.length,kL 0 .nil l⟩
@[simp] theorem BA (l:ae) :(aZ l).n=l.length:=rfl
theorem Ii:∀ (l:ae) (i:Nat) (t:cC aq) (c:aq),kL i t (l++[c])=(kL i t l).set (i+l.length) c
 | [],i,t,c=>rfl
 | x::l,i,t,c=>by
  simp only[iK,kL,dM];rw[Ii l,show i+1+l.length=i+(l.length+1) by omega]
theorem lO (l:ae) (c:aq) :(aZ l).push c=aZ (l++[c]):=by unfold aZ aM.push;rw[Ii];simp
theorem Il:∀ (l:ae) (i j:Nat) (t:cC aq) (c:aq),i<j->(kL j t l).set i c=kL j (t.set i c) l
 | [],_,_,_,_,_=>rfl
 | x::l,i,j,t,c,h=>by
  simp only[kL];rw[Il l i (j+1) _ c F,set_comm j t i x c F]
theorem Ik:∀ (l:ae) (i b:Nat) (t:cC aq) (c:aq),b<l.length->(kL i t l).set (i+b) c=kL i t (l.set b c)
 | [],_,_,_,_,h=>by simp at h
 | x::l,i,0,t,c,_=>by
  simp only[kL,te,nm];rw[Il l i (i+1) _ c F,Xf]
 | x::l,i,b+1,t,c,h=>by
  simp only[kL,x0];rw[<-Ik l (i+1) b _ c (by simpa using h),show i+(b+1)=i+1+b by omega]
theorem mx {l:ae} {b:Nat} (c:aq) (h:b<l.length) :(aZ l).set b c=aZ (l.set b c):=by unfold aZ aM.set;have:=Ik l 0 b .nil c h;rw[hI] at this;simp only[this,ko]
theorem Ij:∀ (l:ae) (i:Nat) (t:cC aq) (b:Nat),(kL i t l).get b=if i<=b/\b<i+l.length then l[b - i]? else t.get b
 | [],i,t,b=>by simp only[kL,hp];rw[ai F]
 | x::l,i,t,b=>by
  simp only[kL,dM];rw[Ij l,cC.CD];by_cases h1:i+1<=b/\b<i+1+l.length
  ·rw[ak h1,ak F,show b - i=(b - (i+1))+1 by omega,js]
  ·rw[ai h1];by_cases g:b=i
   ·subst g;rw[ak rfl,ak F];simp
   ·rw[ai g,ai F]
theorem jW (l:ae) (b:Nat) :(aZ l).f b=match l[b]? with | some c=>c | none=>.none:=by
 unfold aZ aM.f;simp only[Ij,eS,true_and,hI,vo];by_cases h:b<l.length
 ·rw[ak h];cases l[b]?<;>rfl
 ·rw[ai h,dW F];rfl
theorem hJ {l:ae} {b n:Nat} {cs:ag}:(aZ l).f b=.cells n cs<->l[b]?=some (.cells n cs):=by
 rw[jW];cases h:l[b]? with
 | none=>simp
 | some c=>simp
theorem a1 {l:ae} {b:Nat} {c:aq} (h:l[b]?=some c) :b<l.length:=(aL.1 h).1
end Go.bh

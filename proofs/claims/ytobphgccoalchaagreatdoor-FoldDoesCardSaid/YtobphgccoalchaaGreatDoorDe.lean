/-
  The canonical machine, part X: what must hold behind code without types holds behind the code.
-/
import Derived.Test.YtobphgccoalchaaGreatDoorDd
import GoSem.ClaimChange
import GoSem.ClaimWide
import Derived.ProofKit
set_option linter.unusedVariables false
set_option linter.unusedSimpArgs false
set_option linter.unnecessarySimpa false
namespace Go.ct
open Go
section
variable {P:Program} {G:Nat->ad}
theorem R7 {op:Op} {m:bf} (hm:oe P op=some m) (au:k7 op=false) :m.looks=true\/m.lJ=true:=by
 cases op<;>simp only[k7,aFG,reduceCtorEq] at au<;>simp only[oe] at hm<;>try (cases hm; done)
 case move=>cases hm; exact .inl rfl
 case assign=>cases hm; exact .inl rfl
 case pick=>cases hm; exact .inl rfl
 case alloc=>rw[map_some] at hm; obtain⟨_,_,rfl⟩:=hm; exact .inr rfl
 case box=>cases hm; exact .inr rfl
 case build=>simp only[bind_some,map_some] at hm; obtain⟨_,_,_,_,rfl⟩:=hm; exact .inl rfl
 case buildSlice=>simp only[bind_some,i1] at hm; obtain⟨_,_,_,_,_,_,_,rfl⟩:=hm; exact .inr rfl
 case load=>split at hm<;>cases hm<;>exact .inl rfl
 case nilCheck=>cases hm; exact .inl rfl
 case binOp=>cases hm; exact .inl rfl
 case unOp=>cases hm; exact .inl rfl
 case convert=>
  repeat' split at hm
  all_goals first | (cases hm; done) | (cases hm; exact .inl rfl)
 case makeInterface=>split at hm<;>cases hm; exact .inl rfl
 case makeFunc f a b=>cases f<;>simp only at hm<;>cases hm; exact .inl rfl
 case makeSlice=>simp only[bind_some,i1] at hm; obtain⟨_,_,_,_,_,_,_,_,_,rfl⟩:=hm; exact .inr rfl
 case slice=>rw[map_some] at hm; obtain⟨_,_,rfl⟩:=hm; exact .inl rfl
 case fieldAddr=>rw[bind_some] at hm; obtain⟨_,_,hm⟩:=hm; split at hm<;>cases hm; exact .inl rfl
 case field=>rw[bind_some] at hm; obtain⟨_,_,hm⟩:=hm; split at hm<;>cases hm<;>exact .inl rfl
 case indexAddr=>split at hm<;>cases hm<;>exact .inl rfl
 case index=>
  repeat' split at hm
  all_goals first | (cases hm; done) | (cases hm; exact .inl rfl)
 case extract=>cases hm; exact .inl rfl
 case call c=>
  split at hm
  ·rename_i b ai;rw[ai] at au;cases b<;>simp only[aFG,reduceCtorEq] at au<;>unfold vh at hm<;>(repeat' split at hm)<;>first
    | (cases hm; done)
    | (cases hm; exact .inl rfl)
    | (rw[map_some] at hm; obtain⟨_,_,rfl⟩:=hm; exact .inl rfl)
    | (exfalso; simp only[reduceCtorEq] at *; done)
  ·rename_i f aL;rw[aL] at au; cases au
  ·cases hm
theorem R8 {op:Op} {m:bf} (hm:oe P op=some m) (aQ:ta P op=false) :m.reads=false/\m.lJ=false:=by
 cases op<;>simp only[ta,aFG,reduceCtorEq] at aQ<;>simp only[oe] at hm<;>try (cases hm; done)
 case move=>cases hm; exact⟨rfl,rfl⟩
 case assign=>cases hm; exact⟨rfl,rfl⟩
 case pick=>cases hm; exact⟨rfl,rfl⟩
 case build=>simp only[bind_some,map_some] at hm; obtain⟨_,_,_,_,rfl⟩:=hm; exact⟨rfl,rfl⟩
 case store=>rw[map_some] at hm; obtain⟨_,_,rfl⟩:=hm; exact⟨rfl,rfl⟩
 case nilCheck=>cases hm; exact⟨rfl,rfl⟩
 case binOp=>cases hm; exact⟨rfl,rfl⟩
 case unOp=>cases hm; exact⟨rfl,rfl⟩
 case makeInterface=>split at hm<;>cases hm; exact⟨rfl,rfl⟩
 case makeFunc f a b=>cases f<;>simp only at hm<;>cases hm; exact⟨rfl,rfl⟩
 case typeAssert=>rw[map_some] at hm; obtain⟨_,_,rfl⟩:=hm; exact⟨rfl,rfl⟩
 case slice=>rw[map_some] at hm; obtain⟨_,_,rfl⟩:=hm; exact⟨rfl,rfl⟩
 case fieldAddr=>rw[bind_some] at hm; obtain⟨_,_,hm⟩:=hm; split at hm<;>cases hm; exact⟨rfl,rfl⟩
 case field=>rw[bind_some] at hm; obtain⟨_,_,hm⟩:=hm; split at hm<;>cases hm<;>exact⟨rfl,rfl⟩
 case indexAddr=>split at hm<;>cases hm<;>exact⟨rfl,rfl⟩
 case index=>
  repeat' split at hm
  all_goals first | (cases hm; done) | (cases hm; exact⟨rfl,rfl⟩)
 case extract=>cases hm; exact⟨rfl,rfl⟩
 case next it b=>cases b<;>simp only[reduceCtorEq] at hm<;>cases hm; exact⟨rfl,rfl⟩
 case panic=>cases hm; exact⟨rfl,rfl⟩
 case lookup=>split at hm<;>(try cases hm; done); rw[map_some] at hm; obtain⟨_,_,rfl⟩:=hm; exact⟨rfl,rfl⟩
 case mapUpdate=>split at hm<;>cases hm; exact⟨rfl,rfl⟩
 case insert=>split at hm<;>cases hm; exact⟨rfl,rfl⟩
 case makeMap=>split at hm<;>cases hm; exact⟨rfl,rfl⟩
 case range=>split at hm<;>cases hm; exact⟨rfl,rfl⟩
 case call c=>
  split at hm
  ·rename_i b ai;rw[ai] at aQ;unfold vh at hm
   repeat' split at hm
   all_goals first
    | (cases hm; done)
    | (exfalso; simp_all; done)
    | (cases hm; exact⟨rfl,rfl⟩)
    | (simp only[bind_some,map_some] at hm; obtain⟨_,_,rfl⟩:=hm; exact⟨rfl,rfl⟩)
    | (simp only[bind_some,map_some] at hm; obtain⟨_,_,_,_,rfl⟩:=hm; exact⟨rfl,rfl⟩)
    | (simp only[bind_some,i1] at hm; obtain⟨_,_,_,_,_,_,_,rfl⟩:=hm; exact⟨rfl,rfl⟩)
    | (simp only[bind_some,i1] at hm; obtain⟨_,_,_,_,_,_,_,_,_,rfl⟩:=hm; exact⟨rfl,rfl⟩)
  ·split at hm
   ·rw[i1] at hm; obtain⟨_,rfl⟩:=hm; exact⟨rfl,rfl⟩
   ·cases hm
  ·cases hm
inductive nw (P:Program) (G:Nat->ad) (s:dD) (o:Oper) (ah:bB) (l:aw) (v:ad) (l1:aw) :b9->Prop
 | pure (m:bf) (ai:s.b=.cM m) (hm:m.looks=true) (ar:l1=l) (ap:cg P (ek G ah) l m=some (v,l)) :nw P G s o ah l v l1 (.pure s.i v)
 | new (m:bf) (cs:List ad) (ai:s.b=.cM m) (hm:m.lJ=true) (ar:l1=l++[.cells cs.length cs]) :nw P G s o ah l v l1 (.new s.i v cs)
 | g0 (au:k7 o.op=true) (bu:l.length<=l1.length) :nw P G s o ah l v l1 (.g0 s.i v (cj l1))
theorem nw.idx {s:dD} {o:Oper} {ah:bB} {l l1:aw} {v:ad} {t:b9} (k:nw P G s o ah l v l1 t) :t.idx=s.i:=by cases k<;>rfl
theorem nw.val {s:dD} {o:Oper} {ah:bB} {l l1:aw} {v:ad} {t:b9} (k:nw P G s o ah l v l1 t) :t.val=v:=by cases k<;>rfl
theorem nw.next {s:dD} {o:Oper} {ah:bB} {l l1:aw} {v:ad} {t:b9} (k:nw P G s o ah l v l1 t) :qy (cj l) t=cj l1:=by
 cases k with
 | pure m ai hm ar ap=>rw[ar]; rfl
 | new m cs ai hm ar=>rw[ar,<-mU]; rfl
 | g0 au _=>rfl
theorem auS {ops:Array Oper} {s:dD} {o:Oper} (ok:pI P ops s o) {ah:bB} (hw:ll ops ah o=some true) {l:aw} {K:ad->aw->Prop} (h:iS P G s.b ah l K) :
  ∃ v l1 t,nw P G s o ah l v l1 t/\wV P G ops ⟨ah,cj l⟩ t/\K v l1:=by
 obtain⟨v,l1,h1,ag,aq,aH⟩:=acG ok h;have lx:k7 o.op=true->∃ v l1 t,nw P G s o ah l v l1 t/\wV P G ops ⟨ah,cj l⟩ t/\K v l1:=fun au=>⟨v,l1,_,.g0 au ag,⟨o,ok.here,hw,h1,by simpa using ag⟩,aq⟩
 cases ai:s.b with
 | cM m=>
  have hm:=ok.cM m ai;cases au:k7 o.op with
  | true=>exact lx au
  | false=>
   have ap:=aH m ai (R7 hm au);rcases R7 hm au with ar | aI
   ·have:=aou ar ap;subst this;exact⟨v,l1,_,.pure m ai ar rfl ap,⟨o,ok.here,hw⟩,aq⟩
   ·obtain⟨cs,mk,bd,bM,dq⟩:=aoL hm aI ap;exact⟨v,l1,_,.new m cs ai aI dq,⟨o,mk,ok.here,hw,bd,bM⟩,aq⟩
 | cO f args=>
  obtain⟨c,gN,ak,_⟩:=ok.cO f args ai;exact lx (by rw[gN]; simp only[k7,ak])
 | ig x args=>
  obtain⟨c,gN,ak,_⟩:=ok.ig x args ai;exact lx (by rw[gN]; simp only[k7,ak])
 | qV x name args=>
  obtain⟨c,gN,ak,_⟩:=ok.qV x name args ai;exact lx (by rw[gN]; simp only[k7,ak])
inductive kN (P:Program) (G:Nat->ad) (ops:Array Oper) :List dD->bB->aw->jP->List (b9 × bB × aw)->bB->aw->Prop
 | nil {ah l seen}:kN P G ops [] ah l seen [] ah l
 | skip {s o r ah l seen es ci l'}:pI P ops s o->ll ops ah o=some false->kN P G ops r (h8 ah s.dst jk) l seen es ci l'->kN P G ops (s::r) ah l seen ((.skip s.i,ah,l) ::es) ci l'
 | step {s o r ah l v l1 t seen es ci l'}:pI P ops s o->nw P G s o ah l v l1 t->wV P G ops ⟨ah,cj l⟩ t->r5 s.jS seen l1->
   kN P G ops r (h8 ah s.dst v) l1 (s7 s.c6 s.i (n3 P G s.b ah v l l1) seen) es ci l'->kN P G ops (s::r) ah l seen ((t,ah,l) ::es) ci l'
theorem Mv {ops:Array Oper} {K:bB->aw->Prop}:∀ {s:List dD} {ah:bB} {l:aw} {seen:jP},(∀ x∈s,∃ o,pI P ops x o)->lQ P G s ah l seen K->∃ es ci l',kN P G ops s ah l seen es ci l'/\K ci l'
 | [],ah,l,seen,_,h=>⟨[],ah,l,.nil,h⟩
 | s::r,ah,l,seen,fa,h=>by
  obtain⟨o,ok⟩:=fa s (by simp);rcases VK ok h with ⟨hw,h⟩ | ⟨hw,h⟩
  ·obtain⟨v,l1,t,h1,ag,aq,aH⟩:=auS ok hw h;obtain⟨es,ci,l',bd,bM⟩:=Mv (fun x al=>fa x (by simp[al])) aH;exact⟨_,ci,l',.step ok h1 ag aq bd,bM⟩
  ·obtain⟨es,ci,l',bd,bM⟩:=Mv (fun x al=>fa x (by simp[al])) h;exact⟨_,ci,l',.skip ok hw bd,bM⟩
theorem Mw {K:bB->aw->Prop}:∀ {s:List dD} {ah:bB} {l:aw},(∀ x∈s,x.c6=false)->lh P G s ah l K->lQ P G s ah l [] K
 | [],ah,l,_,h=>h
 | s::r,ah,l,hk,h=>by
  have mono:∀ (b:wN) (K g6:ad->aw->Prop),(∀ v l,K v l->g6 v l)->iS P G b ah l K->iS P G b ah l g6:=by
   intro b K g6 bA h;cases b with
   | cM m=>simp only[iS,Ej] at h ⊢; obtain⟨v,h1,ag⟩:=h; exact⟨v,h1,VM bA ag⟩
   | cO f args=>obtain⟨r,l',h1,ag,aq⟩:=h; exact⟨r,l',h1,ag,bA _ _ aq⟩
   | ig x args=>
    simp only[iS,y5] at h ⊢;split at h
    ·obtain⟨aG,r,l',h1,ag,aq⟩:=h; exact⟨aG,r,l',h1,ag,bA _ _ aq⟩
    ·cases h
   | qV x name args=>
    simp only[iS,y4] at h ⊢;split at h
    ·split at h
     ·obtain⟨aG,r,l',h1,ag,aq⟩:=h; exact⟨aG,r,l',h1,ag,bA _ _ aq⟩
     ·cases h
    ·cases h
  have aj0:∀ (g:Option (Option Tmp × Bool)) (p q ch gf:Prop),(p->ch)->(q->gf)->sO ah g p q->sO ah g ch gf:=by
   intro g p q ch gf aF bD h;unfold sO at h ⊢;split at h
   ·exact aF h
   ·rename_i d w;simp only[sN] at h ⊢;split at h
    ·rw[Dg] at h ⊢;rcases h with ⟨a,b⟩ | ⟨a,b⟩
     ·exact .inl ⟨a,aF b⟩
     ·exact .inr ⟨a,bD b⟩
    ·cases h
    ·exact bD h
   ·exact bD h
  have xQ:s.c6=false:=hk s (by simp);refine aj0 _ _ _ _ _ (mono _ _ _ fun v l' h=>?_) (fun h=>Mw (fun x al=>hk x (by simp[al])) h) h;refine⟨trivial,?_⟩;rw[xQ];exact Mw (fun x al=>hk x (by simp[al])) h
theorem nw.len {s:dD} {o:Oper} {ah:bB} {l l1:aw} {v:ad} {t:b9} (k:nw P G s o ah l v l1 t) :l.length<=l1.length:=by
 cases k with
 | pure m ai hm ar ap=>rw[ar]; exact aCL _
 | new m cs ai hm ar=>rw[ar]; simp
 | g0 au bu=>exact bu
theorem kN.len {ops:Array Oper} {s:List dD} {ah ci:bB} {l l' : aw} {seen:jP} {es:List (b9 × bB × aw)} (h:kN P G ops s ah l seen es ci l') :l.length<=l'.length:=by
 induction h with
 | nil=>exact aCL _
 | skip _ _ _ aY=>exact aY
 | step _ k _ _ _ aY=>exact aD2 k.len aY
def tR (es:List (b9 × bB × aw)) (l' : aw) (q:Nat) :aw:=match es[q]? with | some x=>x.2.2 | none=>l'
theorem kN.here {ops:Array Oper} {s:List dD} {ah ci:bB} {l l' : aw} {seen:jP} {es:List (b9 × bB × aw)} (h:kN P G ops s ah l seen es ci l') :tR es l' 0=l:=by
 cases h<;>rfl
theorem kN.idx {ops:Array Oper} {s:List dD} {ah ci:bB} {l l' : aw} {seen:jP} {es:List (b9 × bB × aw)} (h:kN P G ops s ah l seen es ci l') :es.map (fun e=>e.1.idx)=s.map (·.i) :=by
 induction h with
 | nil=>rfl
 | skip _ _ _ aY=>simp only[aDc,aY]; rfl
 | step _ k _ _ _ aY=>simp only[aDc,aY,k.idx]
theorem kN.at {ops:Array Oper} {s:List dD} {ah ci:bB} {l l' : aw} {seen:jP} {es:List (b9 × bB × aw)} (h:kN P G ops s ah l seen es ci l') :
  (∀ (p:Nat) (e:b9 × bB × aw),es[p]? = some e->wV P G ops ⟨e.2.1,cj e.2.2⟩ e.1/\hl ops ⟨ah,cj l⟩ (es.map (·.1)) p=⟨e.2.1,cj e.2.2⟩)/\hl ops ⟨ah,cj l⟩ (es.map (·.1)) es.length=⟨ci,cj l'⟩:=by
 induction h with
 | nil=>exact⟨fun p e au=>by simp at au,rfl⟩
 | @skip s o r ah l seen es ci l' ok hw _ aY=>
  have pg:mI ops ⟨ah,cj l⟩ (.skip s.i)=⟨h8 ah s.dst jk,cj l⟩:=by simp only[mI,w8,b9.idx,ok.here,aEp,b9.val,qy,ok.dst]
  refine⟨fun p e au=>?_,?_⟩
  ·cases p with
   | zero=>simp only[aDd,Option.some.injEq] at au; subst au; exact⟨⟨o,ok.here,hw⟩,rfl⟩
   | succ p=>
    simp only[aDz] at au;obtain⟨h1,ag⟩:=aY.1 p e au;refine⟨h1,?_⟩;rw[aDc,Hs,pg]; exact ag
  ·rw[aDc,aC6,Hs,pg]; exact aY.2
 | @step s o r ah l v l1 t seen es ci l' ok k ap ak _ aY=>
  have pg:mI ops ⟨ah,cj l⟩ t=⟨h8 ah s.dst v,cj l1⟩:=by simp only[mI,w8,k.idx,ok.here,aEp,k.val,k.next,ok.dst]
  refine⟨fun p e au=>?_,?_⟩
  ·cases p with
   | zero=>simp only[aDd,Option.some.injEq] at au; subst au; exact⟨ap,rfl⟩
   | succ p=>
    simp only[aDz] at au;obtain⟨h1,ag⟩:=aY.1 p e au;refine⟨h1,?_⟩;rw[aDc,Hs,pg]; exact ag
  ·rw[aDc,aC6,Hs,pg]; exact aY.2
theorem kN.still {ops:Array Oper} {s:List dD} {ah ci:bB} {l l' : aw} {seen:jP} {es:List (b9 × bB × aw)} (h:kN P G ops s ah l seen es ci l') (j:Nat) (S:aw->Prop)
  (p7:∀ l x,S l->S (l++x)) (aG:S l) :∀ q,q<=es.length->(∀ (p:Nat) (e:b9 × bB × aw),p<q->es[p]? = some e->e.1.j2=true->(j,S)∈seen/\∃ x,s[p]? = some x/\j∈x.jS)->S (tR es l' q) :=by
 have aih:∀ {ids:List Nat} {seen:jP} {l:aw},r5 ids seen l->(j,S)∈seen->j∈ids->S l:=by
  intro ids seen l ak hm aB
  induction seen with
  | nil=>cases hm
  | cons e r aY=>
   obtain⟨h1,ag⟩:=ak;rcases aDY.1 hm with rfl | hm
   ·exact h1 (by simpa using aB)
   ·exact aY ag hm
 induction h with
 | nil=>
  intro q bD _; simp only[aDx] at bD; obtain rfl:q=0:=by omega
  exact aG
 | @skip s o r ah l seen es ci l' ok hw _ aY=>
  intro q bD zE;cases q with
  | zero=>exact aG
  | succ q=>exact aY aG q (by simpa using bD) (fun p e aF au fm=>by
    obtain⟨h1,x,ag,aq⟩:=zE (p+1) e (by omega) (by simpa using au) fm;exact⟨h1,x,by simpa using ag,aq⟩)
 | @step s o r ah l v l1 t seen es ci l' ok k ap ak _ aY=>
  intro q bD zE;cases q with
  | zero=>exact aG
  | succ q=>
   have h1:S l1:=by
    cases k with
    | pure m ai hm ar _=>rw[ar]; exact aG
    | new m cs ai hm ar=>rw[ar]; exact p7 _ _ aG
    | g0 au _=>
     obtain⟨h1,x,ag,aq⟩:=zE 0 _ (by omega) rfl rfl;simp only[aDd,Option.some.injEq] at ag;subst ag;exact aih ak h1 aq
   refine aY h1 q (by simpa using bD) (fun p e aF au fm=>?_);obtain⟨h1,x,ag,aq⟩:=zE (p+1) e (by omega) (by simpa using au) fm;refine⟨?_,x,by simpa using ag,aq⟩;unfold s7;cases s.c6 with
   | false=>exact h1
   | true=>exact aFs _ h1
theorem kN.split {ops:Array Oper} {s:List dD} {ah ci:bB} {l l' : aw} {seen:jP} {es:List (b9 × bB × aw)} (h:kN P G ops s ah l seen es ci l') :∀ (p:Nat) (e:b9 × bB × aw),es[p]? = some e->e.1.uj=false->
  ∃ x o v l1 wy,s[p]? = some x/\pI P ops x o/\nw P G x o e.2.1 e.2.2 v l1 e.1 ∧
   kN P G ops (s.drop (p+1)) (h8 e.2.1 x.dst v) l1 (s7 x.c6 x.i (n3 P G x.b e.2.1 v e.2.2 l1) wy) (es.drop (p+1)) ci l':=by
 induction h with
 | nil=>intro p e au; simp at au
 | @skip s o r ah l seen es ci l' ok hw _ aY=>
  intro p e au hv;cases p with
  | zero=>simp only[aDd,Option.some.injEq] at au; subst au; cases hv
  | succ p=>
   obtain⟨x,eh,v,l1,wy,h1,ag,aq,aH⟩:=aY p e (by simpa using au) hv;exact⟨x,eh,v,l1,wy,by simpa using h1,ag,aq,by simpa using aH⟩
 | @step s o r ah l v l1 t seen es ci l' ok k ap ak tr aY=>
  intro p e au hv;cases p with
  | zero=>
   simp only[aDd,Option.some.injEq] at au; subst au;exact⟨s,o,v,l1,seen,rfl,ok,k,by simpa using tr⟩
  | succ p=>
   obtain⟨x,eh,v,l1,wy,h1,ag,aq,aH⟩:=aY p e (by simpa using au) hv;exact⟨x,eh,v,l1,wy,by simpa using h1,ag,aq,by simpa using aH⟩
end

section
variable {P:Program} {G:Nat->ad}
theorem Yi {ms:List Nat} {ops:Array Oper}:∀ (kF done lx:List Nat),(∀ i∈kF,i<ops.size)->(oF P ms ops kF done lx).map (·.1)=kF
 | [],_,_,_=>rfl
 | i::r,done,lx,h=>by
  unfold oF;have aB:i<ops.size:=h i (by simp);rw[aEc aB];simp only;split<;>simp only[aDc]<;>rw[Yi r _ _ fun j am=>h j (by simp[am])]
theorem L5 {ms:List Nat} {ops:Array Oper}:∀ (kF done lx:List Nat) (p i:Nat) (jS:List Nat),(∀ i∈kF,i<ops.size)->(oF P ms ops kF done lx)[p]? = some (i,jS)->
  (∃ o,ops[i]? = some o/\k7 o.op=true)->∀ j,(j∈done\/∃ kG,kG<p/\kF[kG]? = some j)->(∃ o,ops[j]? = some o/\ta P o.op=true)->(∀ e∈lx,pu ms e j=false)->
  (∀ (ch k4:Nat) (o:Oper),ch<=p->kF[ch]? = some k4->ops[k4]? = some o->k7 o.op=true->(ch=p\/o.guard=none)->pu ms k4 j=false)->j∈jS
 | [],done,lx,p,i,jS,_,aF,_,_,_,_,_,_=>by simp[oF] at aF
 | x::r,done,lx,p,i,jS,nP,aF,au,j,am,aQ,zM,z6=>by
  unfold oF at aF;have al:x<ops.size:=nP x (by simp);rw[aEc al] at aF;have Kq:ops[x]? = some ops[x] :=aEc al;simp only at aF;have aC:∀ i∈r,i<ops.size:=fun j am=>nP j (by simp[am])
  cases fm:k7 ops[x].op with
  | true=>
   rw[fm] at aF;simp only at aF;cases p with
   | zero=>
    simp only[aDd,Option.some.injEq,Prod.mk.injEq] at aF;obtain⟨rfl,rfl⟩:=aF;obtain⟨o,h1,ag⟩:=aQ;rcases am with am | ⟨kG,US,_⟩
    ·refine aEd.2 ⟨am,?_⟩;simp only[h1,ag,aDL,aF9,aCQ,aDO];exact⟨by simp[z6 0 x ops[x] (aCL _) (by simp) Kq fm (.inl rfl)],fun e au=>by simp[zM e au]⟩
    ·omega
   | succ p=>
    simp only[aDz] at aF;refine L5 r _ _ p i jS aC aF au j ?_ aQ ?_ ?_
    ·rcases am with am | ⟨kG,US,am⟩
     ·exact .inl (by simp[am])
     ·cases kG with
      | zero=>simp only[aDd,Option.some.injEq] at am; exact .inl (by simp[am])
      | succ kG=>exact .inr ⟨kG,by omega,by simpa using am⟩
    ·intro e gM;cases aA:ops[x].guard with
     | none=>
      rw[aA] at gM;rcases aDY.1 gM with rfl | gM
      ·exact z6 0 e ops[e] (by omega) (by simp) Kq fm (.inr aA)
      ·exact zM e gM
     | some qr=>rw[aA] at gM; exact zM e gM
    ·intro ch k4 o gX gj ax xr aA;exact z6 (ch+1) k4 o (by omega) (by simpa using gj) ax xr (by rcases aA with rfl | aA; exact .inl rfl; exact .inr aA)
  | false=>
   rw[fm] at aF;simp only at aF;cases p with
   | zero=>
    simp only[aDd,Option.some.injEq,Prod.mk.injEq] at aF;obtain⟨rfl,rfl⟩:=aF;obtain⟨o,h1,ag⟩:=au;rw[Kq] at h1; cases h1;rw[fm] at ag; cases ag
   | succ p=>
    simp only[aDz] at aF;refine L5 r _ _ p i jS aC aF au j ?_ aQ zM ?_
    ·rcases am with am | ⟨kG,US,am⟩
     ·exact .inl (by simp[am])
     ·cases kG with
      | zero=>simp only[aDd,Option.some.injEq] at am; exact .inl (by simp[am])
      | succ kG=>exact .inr ⟨kG,by omega,by simpa using am⟩
    ·intro ch k4 o gX gj ax xr aA;exact z6 (ch+1) k4 o (by omega) (by simpa using gj) ax xr (by rcases aA with rfl | aA; exact .inl rfl; exact .inr aA)
theorem Sn {ms:List Nat} {ops:Array Oper}:∀ {kF:List Nat},BJ ms ops kF=true->∀ (p ch i j:Nat) (o:Oper),kF[p]? = some i->kF[ch]? = some j->p<ch->ops[i]? = some o->k7 o.op=true->pu ms j i=true
 | [],_,p,ch,i,j,o,aF,_,_,_,_=>by simp at aF
 | x::r,h,p,ch,i,j,o,aF,gX,aP,ax,au=>by
  simp only[BJ,aCQ] at h;cases ch with
  | zero=>omega
  | succ ch=>
   simp only[aDz] at gX;cases p with
   | zero=>
    simp only[aDd,Option.some.injEq] at aF;subst aF;rw[ax] at h;simp only[au,Bool.not_true,aEF,aDO] at h;exact h.1 j (aCP gX)
   | succ p=>exact Sn h.2 p ch i j o (by simpa using aF) gX (by omega) ax au
theorem GG {α kr:Type} {f:α->Option kr}:∀ {l:List α} {r:List kr},l.mapM f=some r->∀ (p:Nat) (x:kr),r[p]? = some x->∃ a,l[p]? = some a/\f a=some x
 | [],r,h,p,x,al=>by simp at h; subst h; simp at al
 | a::l,r,h,p,x,al=>by
  rw[aEr] at h;simp only[Option.bind_eq_bind,bind_some,aEE,Option.some.injEq] at h;obtain⟨b,h1,dU,ag,rfl⟩:=h;cases p with
  | zero=>simp only[aDd,Option.some.injEq] at al; subst al; exact⟨a,rfl,h1⟩
  | succ p=>obtain⟨fA,aq,aH⟩:=GG ag p x (by simpa using al); exact⟨fA,by simpa using aq,aH⟩
theorem LI {α kr:Type} {f:α->Option kr}:∀ {l:List α} {r:List kr},l.mapM f=some r->r.length=l.length
 | [],r,h=>by simp at h; subst h; rfl
 | a::l,r,h=>by
  rw[aEr] at h;simp only[Option.bind_eq_bind,bind_some,aEE,Option.some.injEq] at h;obtain⟨b,h1,dU,ag,rfl⟩:=h;simp[LI ag]
theorem ali (es:List (b9 × bB × aw)) (l' : aw) (n q:Nat) :tR (es.drop n) l' q=tR es l' (n+q) :=by
 unfold tR; rw[aDh]
theorem aiX {id N' : Nat} {ops:Array Oper} {wB:List dD} (bX:∀ (i:Nat) (o:Oper),ops[i]? = some o->pU N' o.dst=true)
  (nP:LW (jh ops) ops (gi (jh ops) ops)=true) (alh:BJ (jh ops) ops (gi (jh ops) ops)=true)
  (cL:(oF P (jh ops) ops (gi (jh ops) ops) [] []).mapM (fun p=>D0 P ops p.1 p.2 (((oF P (jh ops) ops (gi (jh ops) ops) [] []).flatMap (·.2)).contains p.1))=some wB)
  {ah ci:bB} {l l' : aw} {es:List (b9 × bB × aw)} (tr:kN P G ops wB ah l [] es ci l') :dW P G (.code (.region id ops true) N' ah (cj l) .normal ci (cj l')) :=by
 simp only[LW,aCQ] at nP;obtain⟨⟨⟨⟨rC,mJ⟩,qz⟩,sV⟩,jE⟩:=nP;have Kz:∀ i∈gi (jh ops) ops,i<ops.size:=fun i aB=>by
  rw[aDO] at sV;simpa [aF8] using sV i aB
 have UW:(oF P (jh ops) ops (gi (jh ops) ops) [] []).map (·.1)=gi (jh ops) ops:=Yi _ _ _ Kz;have F8:∀ (p:Nat) (x:dD),wB[p]? = some x->∃ o,pI P ops x o/\(oF P (jh ops) ops (gi (jh ops) ops) [] [])[p]? = some (x.i,x.jS) ∧
   x.c6=((oF P (jh ops) ops (gi (jh ops) ops) [] []).flatMap (·.2)).contains x.i:=fun p x al=>by
  obtain⟨a,h1,ag⟩:=GG cL p x al;obtain⟨o,aq,aH,bd,bM⟩:=Hu ag;exact⟨o,aq,by rw[h1,aH,bd],by rw[bM,aH]⟩
 have Vd:∀ (p:Nat) (x:dD),wB[p]? = some x->(gi (jh ops) ops)[p]? = some x.i:=fun p x al=>by
  obtain⟨o,_,h1,_⟩:=F8 p x al;rw[<-UW,aCO,h1]; rfl
 have vB:∀ (p:Nat) (e:b9 × bB × aw),es[p]? = some e->∃ x,wB[p]? = some x/\x.i=e.1.idx:=fun p e au=>by
  have:=congrArg (·[p]?) tr.idx;simp only[aCO,au,aCR] at this;cases al:wB[p]? with
  | none=>rw[al] at this; cases this
  | some x=>rw[al] at this; simp only[aCR,Option.some.injEq] at this; exact⟨x,rfl,this.symm⟩
 have sD:∀ (p:Nat) (e:b9 × bB × aw),es[p]? = some e->(gi (jh ops) ops)[p]? = some e.1.idx:=fun p e au=>by
  obtain⟨x,h1,ag⟩:=vB p e au;rw[Vd p x h1,ag]
 have eK:∀ (p:Nat) (t:b9),(es.map (·.1))[p]? = some t->∃ e,es[p]? = some e/\e.1=t:=fun p t aQ=>by simpa using aQ
 have xJ:∀ (p:Nat) (e:b9 × bB × aw),es[p]? = some e->e.1.j2=true->∃ o,ops[e.1.idx]? = some o/\k7 o.op=true/\(ll ops e.2.1 o=some true) :=fun p e au fm=>by
  have hv:e.1.uj=false:=by cases h:e.1<;>rw[h] at fm<;>first | rfl | cases fm
  obtain⟨x,o,v,l1,wy,h1,ag,aq,aH⟩:=tr.split p e au hv;have vL:=(tr.at.1 p e au).1;have fO:=aq.idx;have aR:=ag.here;rw[<-fO] at aR;refine⟨o,aR,?_,?_⟩
  ·revert fm;generalize e.1=t at aq;intro fm;cases aq with
   | pure=>cases fm
   | new=>cases fm
   | g0 au _=>exact au
  ·revert vL fm aR;generalize e.1=t;intro fm vL aR;cases t<;>first | (cases fm; done) | skip
   obtain⟨eh,bd,bM,_⟩:=vL;simp only[b9.idx] at aR;rw[aR] at bd; cases bd;exact bM
 have gA:yW ops (pu (jh ops)) (es.map (·.1)) :=by
  refine⟨aiV rC,fun i aB=>?_,fun p ch t gP aF gX au=>?_,fun p t aF=>?_,fun p ch t gP aF gX aP=>?_,fun p ch t gP aF gX aP fm=>?_⟩
  ·rw[aDO] at jE;have:=jE i (by simpa using aB);have hm:i∈gi (jh ops) ops:=by simpa using this
   have lC:(es.map (·.1)).map b9.idx=gi (jh ops) ops:=by
    rw[aEZ];show es.map (fun e=>e.1.idx)=_;rw[tr.idx,<-UW];apply aDF;intro p;rw[aCO,aCO];cases al:wB[p]? with
    | none=>
     have:(oF P (jh ops) ops (gi (jh ops) ops) [] [])[p]? = none:=by
      rw[aE6] at al ⊢;rw[<-LI cL]; exact al
     rw[this]; rfl
    | some x=>obtain⟨o,_,h1,_⟩:=F8 p x al; rw[h1]; rfl
   rw[<-lC] at hm;obtain⟨t,h1,ag⟩:=aC9.1 hm;obtain⟨p,aF⟩:=aEG h1;exact⟨p,t,aF,ag⟩
  ·obtain⟨e,aW,bg⟩:=eK p t aF;obtain⟨fV,tC,BS⟩:=eK ch gP gX;have br:=sD p e aW;have bI:=sD ch fV tC;rw[bg] at br; rw[BS] at bI;rcases aEb p ch with h | h | h
   ·exact absurd au (G0 mJ p ch _ _ br bI h).1
   ·exact h
   ·exact absurd au.symm (G0 mJ ch p _ _ bI br h).1
  ·obtain⟨e,aW,bg⟩:=eK p t aF;have br:=sD p e aW;rw[bg] at br;exact Kz _ (aCP br)
  ·obtain⟨e,aW,bg⟩:=eK p t aF;obtain⟨fV,tC,BS⟩:=eK ch gP gX;have br:=sD p e aW;have bI:=sD ch fV tC;rw[bg] at br; rw[BS] at bI;exact (G0 mJ p ch _ _ br bI aP).2
  ·obtain⟨e,aW,bg⟩:=eK p t aF;obtain⟨fV,tC,BS⟩:=eK ch gP gX;obtain⟨o,dE,dA,_⟩:=xJ p e aW (by rw[bg]; exact fm);have br:=sD p e aW;have bI:=sD ch fV tC;rw[bg] at br dE; rw[BS] at bI;exact Sn alh p ch _ _ o br bI aP dE dA
 have kB:∀ q,q<=es.length->(hl ops ⟨ah,cj l⟩ (es.map (·.1)) q).h=cj (tR es l' q) :=fun q bD=>by
  unfold tR;cases au:es[q]? with
  | none=>
   have:q=es.length:=by rw[aE6] at au; omega
   rw[this,tr.at.2]
  | some e=>rw[(tr.at.1 q e au).2]
 have qH:H0 P G ops (pu (jh ops)) ⟨ah,cj l⟩ (es.map (·.1)) :=by
  refine⟨fun p t aF=>?_,fun q bD p t azd aF fT=>?_⟩
  ·obtain⟨e,aW,bg⟩:=eK p t aF;obtain⟨cT,dF⟩:=tr.at.1 p e aW;rw[dF,<-bg]; exact cT
  ·obtain⟨e,aW,bg⟩:=eK p t aF;obtain⟨cT,dF⟩:=tr.at.1 p e aW;have ox:q<=es.length:=by
    rcases bD with rfl | ⟨ava,bD,_⟩
    ·simp
    ·obtain⟨eq,bj,_⟩:=eK q ava bD;exact aD4 (aCJ.1 bj).1
   rw[kB q ox,dF];cases hv:e.1.uj with
   | true=>rw[<-bg]; cases h:e.1<;>rw[h] at hv<;>first | trivial | cases hv
   | false=>
    obtain⟨x,o,v,l1,wy,h1,ag,aq,aH⟩:=tr.split p e aW hv;obtain⟨eh,eV,hu,Cz⟩:=F8 p x h1;have qf:eh=o:=by have a:=eV.here; have b:=ag.here; rw[a] at b; exact Option.some.inj b
    subst qf;have ask:ta P eh.op=true->∀ (ch:Nat) (fV:b9 × bB × aw),ch<q - (p+1)->(es.drop (p+1))[ch]? = some fV->fV.1.j2=true->
      (x.i,n3 P G x.b e.2.1 v e.2.2 l1)∈s7 x.c6 x.i (n3 P G x.b e.2.1 v e.2.2 l1) wy/\∃ y,(wB.drop (p+1))[ch]? = some y/\x.i∈y.jS:=by
     intro aQ ch fV gX gM xr;rw[aDh] at gM;obtain⟨y,cn,cc⟩:=vB _ fV gM;obtain⟨sX,dP,ew,_⟩:=F8 _ y cn;obtain⟨ao5,km,anQ,azB⟩:=xJ _ fV gM xr;have ea:x.i∈y.jS:=by
      refine L5 _ _ _ _ _ _ Kz ew ⟨ao5,by rw[cc]; exact km,anQ⟩ x.i (.inr ⟨p,by omega,Vd p x h1⟩) ⟨eh,ag.here,aQ⟩ (fun e au=>by cases au) ?_;intro sY Vr GO ay9 alA UQ Fb aA
      -- what is at p'' was carried out
      have aP:sY<es.length:=by
       have:=(aCJ.1 gM).1;omega
      have lC:es[sY]? = some es[sY] :=aCM aP;have iK:=sD _ _ lC;rw[alA] at iK;have rc:Vr=es[sY].1.idx:=Option.some.inj iK;have akp:es[sY].1.j2=true:=by
       cases CW:es[sY].1.uj with
       | true=>
        exfalso;rcases aA with rfl | aA
        ·rw[lC] at gM;cases gM;cases h:es[p+1+ch].1<;>rw[h] at xr CW<;>first | (cases CW; done) | (cases xr; done)
        ·have vL:=(tr.at.1 _ _ lC).1;cases h:es[sY].1<;>rw[h] at CW vL rc<;>first | (cases CW; done) | skip
         obtain⟨qz,kn,ko⟩:=vL;simp only[b9.idx] at rc;rw[<-rc,UQ] at kn; cases kn;simp[ll,aA] at ko
       | false=>
        obtain⟨qM,qz,v3,fb,aCc,kn,ko,sS,_⟩:=tr.split _ _ lC CW;have alB:=sS.idx;have Ug:=ko.here;rw[<-alB,<-rc,UQ] at Ug; cases Ug;revert sS;generalize es[sY].1=t3;intro sS;cases sS with
        | pure m ai hm _ _=>
         exfalso;have ak:=ko.cM m ai;have:k7 GO.op=false:=by
          revert ak hm;cases GO.op<;>simp only[oe]<;>intro hm ak<;>first | rfl | (exfalso; revert ak hm; done) | skip
          case store=>rw[map_some] at ak; obtain⟨_,_,rfl⟩:=ak; cases hm
          case call c=>
           split at ak
           ·rename_i b ai;unfold k7;simp only[ai];unfold vh at ak
            repeat' split at ak
            all_goals first
             | rfl
             | (cases ak; done)
             | (cases ak; cases hm; done)
             | (simp only[bind_some,map_some] at ak; obtain⟨_,_,rfl⟩:=ak; cases hm; done)
             | (simp only[bind_some,map_some] at ak; obtain⟨_,_,_,_,rfl⟩:=ak; cases hm; done)
             | (simp only[bind_some,i1] at ak; obtain⟨_,_,_,_,_,_,_,rfl⟩:=ak; cases hm; done)
             | (simp only[bind_some,i1] at ak; obtain⟨_,_,_,_,_,_,_,_,_,rfl⟩:=ak; cases hm; done)
           ·split at ak
            ·rw[i1] at ak; obtain⟨_,rfl⟩:=ak; cases hm
            ·cases ak
           ·cases ak
          case next it b=>(cases b<;>simp only[reduceCtorEq] at ak<;>cases ak<;>cases hm)
          case lookup=>split at ak<;>(try cases ak; done); rw[map_some] at ak; obtain⟨_,_,rfl⟩:=ak; cases hm
          case mapUpdate=>split at ak<;>cases ak; cases hm
          case insert=>split at ak<;>cases ak; cases hm
          case panic=>(cases ak; cases hm)
          case makeMap=>split at ak<;>cases ak; cases hm
          case range=>split at ak<;>cases ak; cases hm
          case typeAssert=>rw[map_some] at ak; obtain⟨_,_,rfl⟩:=ak; cases hm
          all_goals (cases ak)
         rw[this] at Fb; cases Fb
        | new m cs ai hm _=>
         exfalso;have ak:=ko.cM m ai;have:k7 GO.op=false:=by
          revert ak hm;cases GO.op<;>simp only[oe]<;>intro hm ak<;>first | rfl | (exfalso; revert ak hm; done) | skip
          case store=>rw[map_some] at ak; obtain⟨_,_,rfl⟩:=ak; cases hm
          case panic=>(cases ak; cases hm)
          case call c=>
           split at ak
           ·rename_i b ai;unfold k7;simp only[ai];unfold vh at ak
            repeat' split at ak
            all_goals first
             | rfl
             | (cases ak; done)
             | (cases ak; cases hm; done)
             | (simp only[bind_some,map_some] at ak; obtain⟨_,_,rfl⟩:=ak; cases hm; done)
             | (simp only[bind_some,map_some] at ak; obtain⟨_,_,_,_,rfl⟩:=ak; cases hm; done)
             | (simp only[bind_some,i1] at ak; obtain⟨_,_,_,_,_,_,_,rfl⟩:=ak; cases hm; done)
             | (simp only[bind_some,i1] at ak; obtain⟨_,_,_,_,_,_,_,_,_,rfl⟩:=ak; cases hm; done)
           ·split at ak
            ·rw[i1] at ak; obtain⟨_,rfl⟩:=ak; cases hm
            ·cases ak
           ·cases ak
          case next it b=>(cases b<;>simp only[reduceCtorEq] at ak<;>cases ak<;>cases hm)
          case lookup=>split at ak<;>(try cases ak; done); rw[map_some] at ak; obtain⟨_,_,rfl⟩:=ak; cases hm
          case mapUpdate=>split at ak<;>cases ak; cases hm
          case insert=>split at ak<;>cases ak; cases hm
          case makeMap=>split at ak<;>cases ak; cases hm
          case range=>split at ak<;>cases ak; cases hm
          case typeAssert=>rw[map_some] at ak; obtain⟨_,_,rfl⟩:=ak; cases hm
          all_goals (cases ak)
         rw[this] at Fb; cases Fb
        | g0 _ _=>rfl
      have:=fT sY es[sY].1 (by omega) (by simp[lC]) akp;rw[rc,ag.here |> fun _=>(aq.idx).symm,bg];exact this
     refine⟨?_,y,by rw[aDh]; exact cn,ea⟩;have:x.c6=true:=by
      rw[Cz];simp only[List.contains_iff_mem,List.mem_flatMap];exact⟨(y.i,y.jS),aCP ew,ea⟩
     rw[this];exact aFE
    have E1:ta P eh.op=true->(∀ l Bc,n3 P G x.b e.2.1 v e.2.2 l1 l->n3 P G x.b e.2.1 v e.2.2 l1 (l++Bc))->n3 P G x.b e.2.1 v e.2.2 l1 l1->n3 P G x.b e.2.1 v e.2.2 l1 (tR es l' q) :=by
     intro aQ p7 aG;have:=aH.still x.i _ p7 aG (q - (p+1)) (by simp only[aDS]; omega) (ask aQ)
     rwa [ali,show p+1+(q - (p+1))=q by omega] at this
    rw[<-bg];revert aq E1 ask bg;generalize e.1=t1;intro bg aq ask E1;cases aq with
    | g0=>trivial
    | pure m ai hm ar ap=>
     intro mJ kZ;rw[ag.here] at kZ; cases kZ;have ak:=ag.cM m ai;cases aC:m.reads with
     | false=>exact GL ak (aot hm aC ap)
     | true=>
      have aQ:ta P eh.op=true:=by
       cases h:ta P eh.op with
       | true=>rfl
       | false=>rw[(R8 ak h).1] at aC; cases aC
      have xZ:m.lJ=false:=by cases m<;>first | rfl | cases aC
      have cL:∀ cf,n3 P G x.b e.2.1 v e.2.2 l1 cf<->cg P (ek G e.2.1) cf m=some (v,cf) :=fun cf=>by rw[ai]; simp only[n3,xZ]
      have:=E1 aQ (fun cf Bc h=>by rw[cL] at h ⊢; exact aos hm h) (by rw[cL,ar]; exact ap);rw[cL] at this;exact GL ak this
    | new m cs ai hm ar=>
     have ak:=ag.cM m ai;have aQ:ta P eh.op=true:=by
      cases h:ta P eh.op with
      | true=>rfl
      | false=>rw[(R8 ak h).2] at hm; cases hm
     have cL:∀ cf:aw,n3 P G x.b e.2.1 v e.2.2 l1 cf<->cf[e.2.2.length]? = some (.cells cs.length cs) :=fun cf=>by
      rw[ai,ar]; simp only[n3,hm]; rw[aCT (aCL _)]; simp
     have:=E1 aQ (fun cf Bc h=>by rw[cL] at h ⊢; rw[aCK (fW h)]; exact h) (by rw[cL,ar,aCT (aCL _)]; simp);rw[cL] at this;show (cj (tR es l' q)).f (cj e.2.2).n=_;rw[oM,yU,this]
 have:=dW.aiU (id:=id) gA bX qH;rw[aCZ,tr.at.2] at this;exact this
end

section
variable {P:Program} {G:Nat->ad}
theorem NY {ops:Array Oper} {f:Nat->Option dD}:∀ {is:List Nat} {s:List dD} {os:List Oper},(∀ i x,f i=some x->∃ o,pI P ops x o/\x.i=i)->is.mapM f=some s->is.map (fun i=>ops[i]?)=os.map some->yS P ops s os
 | [],s,os,aL,h,ax=>by
  simp at h; subst h;cases os with
  | nil=>exact .nil
  | cons=>simp at ax
 | i::is,s,os,aL,h,ax=>by
  rw[aEr] at h;simp only[Option.bind_eq_bind,bind_some,aEE,Option.some.injEq] at h;obtain⟨x,h1,Hn,ag,rfl⟩:=h;cases os with
  | nil=>simp at ax
  | cons o os=>
   simp only[aDc,List.cons.injEq] at ax;obtain⟨eh,ok,aB⟩:=aL i x h1;have:eh=o:=by have:=ok.here; rw[aB,ax.1] at this; exact (Option.some.inj this).symm
   subst this;exact .cons ok (NY aL ag ax.2)
theorem aiw {N N' id:Nat} (fu:N<=N') {ops:Array Oper} {draw:Bool} {c:aT} (ak:Iz P N ops draw=some c) {ah:bB} {l:aw} {K:hX} (h:run P G c ah l K) :
  ∃ e ci l',dW P G (.code (.region id ops draw) N' ah (cj l) e ci (cj l'))/\l.length<=l'.length/\K e ci l':=by
 unfold Iz at ak;split at ak
 ·cases ak
 ·rename_i p6;have bX:∀ (i:Nat) (o:Oper),ops[i]? = some o->pU N' o.dst=true:=fun i o ax=>by
   rw[aDO] at p6;have:=p6 o (by simpa using Array.mem_of_getElem? ax);unfold pU at this ⊢;split at this
   ·rename_i d _; exact decide_eq_true (aEs (of_decide_eq_true this) fu)
   ·rfl
  split at ak
  ·rw[map_some] at ak;obtain⟨s,h1,rfl⟩:=ak;have fS:yS P ops s ops.toList:=by
    refine NY (fun i x al=>?_) h1 ?_
    ·obtain⟨o,ag,aq,_⟩:=Hu al; exact⟨o,ag,aq⟩
    ·apply aDF;intro p;rw[aCO,aCO];by_cases aF:p<ops.size
     ·rw[aDN aF]; simp[aF]
     ·rw[aC0 (by simp; omega),aC0 (by simp; omega)]; rfl
   obtain⟨ci,l',ag,aq,aH⟩:=My bX fS h;exact⟨.normal,ci,l',.region ag,aq,aH⟩
  ·simp only at ak;split at ak
   ·cases ak
   ·rename_i JL;simp only[aCQ] at JL;split at ak
    ·cases ak
    ·rename_i s ap;have fa:∀ x∈s,∃ o,pI P ops x o:=fun x al=>by
      obtain⟨p,aF⟩:=aEG al;obtain⟨a,_,ag⟩:=GG ap p x aF;obtain⟨o,aq,_⟩:=Hu ag;exact⟨o,aq⟩
     have fin:lQ P G s ah l [] (K .normal)->∃ e ci l',dW P G (.code (.region id ops true) N' ah (cj l) e ci (cj l'))/\l.length<=l'.length/\K e ci l':=fun h=>by
      obtain⟨es,ci,l',h1,ag⟩:=Mv fa h;exact⟨.normal,ci,l',aiX bX JL.1 JL.2 ap h1,h1.len,ag⟩
     split at ak
     ·rename_i zE;cases ak;refine fin (Mw (fun x al=>?_) h)
      obtain⟨p,aF⟩:=aEG al;obtain⟨a,_,ag⟩:=GG ap p x aF;obtain⟨o,_,_,_,aq⟩:=Hu ag;rw[aq,zE]; rfl
     ·cases ak;exact fin h
theorem at0 {N N' : Nat} (fu:N<=N') :∀ (code:Code) (c:aT),comp P N code=some c->∀ (ah:bB) (l:aw) (K:hX),run P G c ah l K->
  ∃ e ci l',dW P G (.code code N' ah (cj l) e ci (cj l'))/\l.length<=l'.length/\K e ci l':=by
 intro code
 induction code with
 | skip=>intro c ak ah l K h; cases ak; exact⟨_,_,_,.skip _ _ _,aCL _,h⟩
 | label n=>intro c ak ah l K h; cases ak; exact⟨_,_,_,.label _ _ _ _,aCL _,h⟩
 | ret=>intro c ak ah l K h; cases ak; exact⟨_,_,_,.ret _ _ _,aCL _,h⟩
 | exit id=>intro c ak ah l K h; cases ak; exact⟨_,_,_,.exit _ _ _ _,aCL _,h⟩
 | region id ops draw=>intro c ak ah l K h; exact aiw fu ak h
 | seq a b KW KX=>
  intro c ak ah l K h;have mk:∀ (y3 pN:aT),comp P N a=some y3->comp P N b=some pN->run P G y3 ah l (qv (fun ah l=>run P G pN ah l K) K)->∃ e ci l',dW P G (.code (.seq a b) N' ah (cj l) e ci (cj l'))/\l.length<=l'.length/\K e ci l':=by
   intro y3 pN aD ai h;obtain⟨e,jO,l1,h1,ag,aq⟩:=KW y3 aD ah l _ h;cases e with
   | normal=>
    obtain⟨e,NC,cf,aH,bd,bM⟩:=KX pN ai jO l1 K aq;exact⟨e,NC,cf,.acr h1 aH,aD2 ag bd,bM⟩
   | exit id=>exact⟨_,jO,l1,.MI h1 (by intro h; cases h),ag,aq⟩
   | ret=>exact⟨_,jO,l1,.MI h1 (by intro h; cases h),ag,aq⟩
  simp only[comp] at ak;split at ak
  ·rename_i bK aD ai;cases ak;exact mk _ _ aD ai h
  ·rename_i fA _ aD ai;cases ak;refine mk _ _ aD ai ?_;have:qv (fun ah l=>run P G .skip ah l K) K=K:=by
    funext e ah l;cases e<;>rfl
   rw[this]; exact h
  ·rename_i fA bK _ _ aD ai;cases ak;exact mk _ _ aD ai h
  ·cases ak
 | cond c x y K0 K1=>
  intro EC ak ah l K h;simp only[comp] at ak;split at ak
  ·rename_i Nx Be al aE;cases ak;simp only[run,Df] at h;split at h
   ·rename_i b ai;rw[Dg] at h;rcases h with ⟨rfl,h⟩ | ⟨rfl,h⟩
    ·obtain⟨e,jO,l1,h1,ag,aq⟩:=K0 Nx al ah l K h;exact⟨e,jO,l1,.cond ai h1,ag,aq⟩
    ·obtain⟨e,jO,l1,h1,ag,aq⟩:=K1 Be aE ah l K h;exact⟨e,jO,l1,.cond ai h1,ag,aq⟩
   ·cases h
  ·cases ak
 | block id c aY=>
  intro EC ak ah l K h;simp only[comp,map_some] at ak;obtain⟨c',h1,rfl⟩:=ak;obtain⟨e,jO,l1,ag,aq,aH⟩:=aY c' h1 ah l _ h;cases e with
  | normal=>exact⟨_,jO,l1,.Eu ag (by intro h; cases h),aq,aH⟩
  | ret=>exact⟨_,jO,l1,.Eu ag (by intro h; cases h),aq,aH⟩
  | exit Aq=>
   simp only[vY] at aH;split at aH
   ·rename_i ai;obtain rfl:=la ai;exact⟨_,jO,l1,.Ot ag,aq,aH⟩
   ·rename_i ai;exact⟨_,jO,l1,.Eu ag (by intro h; cases h; rw[aFP] at ai; cases ai),aq,aH⟩
 | loop c aY=>
  intro EC ak ah l K h;simp only[comp,map_some] at ak;obtain⟨c',h1,rfl⟩:=ak;obtain⟨n,h⟩:=h
  induction n generalizing ah l with
  | zero=>cases h
  | succ n KZ=>
   obtain⟨e,jO,l1,ag,aq,aH⟩:=aY c' h1 ah l _ h;cases e with
   | normal=>
    obtain⟨e,NC,cf,bd,bM,dq⟩:=KZ jO l1 aH;exact⟨e,NC,cf,.AD ag bd,aD2 aq bM,dq⟩
   | exit id=>exact⟨_,jO,l1,.Ly ag (by intro h; cases h),aq,aH⟩
   | ret=>exact⟨_,jO,l1,.Ly ag (by intro h; cases h),aq,aH⟩
 | scope c aY=>
  intro EC ak ah l K h;obtain⟨e,jO,l1,ag,aq,aH⟩:=aY EC ak ah l K h;exact⟨e,jO,l1,.scope ag,aq,aH⟩
 | _=>intro c ak; cases ak
def R6 (P:Program) :ResultVar->Option bf
 | .tmp t=>some (.aO (.tmp t))
 | .cell a t=>oe P (.load t (.tmp a))
def bz (P:Program) (f:FuncId) :Option (List bf) :=match P.funcs[f]? with
 | some fn=>fn.results.toList.mapM (R6 P)
 | none=>none
def qu (P:Program) (G:Nat->ad) (K:ad->aw->Prop) (ah:bB) (l:aw) :List bf->List ad->Prop
 | [],acc=>K (yI acc) l
 | m::r,acc=>W (cg P (ek G ah) l m) (c:=⟨fun x=>qu P G K ah l r (acc++[x.1])⟩)
def Lk (P:Program) (G:Nat->ad) (ms:List bf) (K:ad->aw->Prop) :hX:=fun e ah l=>match e with
 | .exit _=>False
 | .normal=>qu P G K ah l ms []
 | .ret=>qu P G K ah l ms []
def N9 (args:List ad) :bB:=fun t=>args.getD t jk
theorem VL {K:ad->aw->Prop} {ah:bB} {l:aw}:∀ {DR:List ResultVar} {ms:List bf} {acc:List ad},DR.mapM (R6 P)=some ms->qu P G K ah l ms acc->∃ vs,wr P (cj l) ah DR=some vs/\K (yI (acc++vs)) l
 | [],ms,acc,hm,h=>by simp at hm; subst hm; exact⟨[],rfl,by simpa [qu] using h⟩
 | r::DR,ms,acc,hm,h=>by
  rw[aEr] at hm;simp only[Option.bind_eq_bind,bind_some,aEE,Option.some.injEq] at hm;obtain⟨m,h1,aBx,ag,rfl⟩:=hm;simp only[qu,Ej] at h;obtain⟨⟨v,l1⟩,aq,aH⟩:=h;obtain⟨vs,bd,bM⟩:=VL ag aH;refine⟨v::vs,?_,by simpa using bM⟩;have:AX P (cj l) ah r=some v:=by
   cases r with
   | tmp t=>cases h1; simp only[cg,Option.some.injEq,Prod.mk.injEq] at aq; rw[<-aq.1]; rfl
   | cell a t=>
    have du:oe P (.load t (.tmp a))=some m:=h1;have:=GL du aq;simp only[dw] at this;unfold AX;show sQ P (cj l) t (ek G ah (.tmp a))=some v;cases ar:sQ P (cj l) t (ek G ah (.tmp a)) with
    | none=>rw[ar] at this; cases this
    | some x=>rw[ar] at this; simp only[aCR,Option.some.injEq,pH.val.injEq] at this; rw[this.1]
  simp only[wr,this,bd]
theorem bw {f:FuncId} {c:aT} {ms:List bf} (ak:bx P f=some c) (aC:bz P f=some ms) {args:List ad} {l:aw} {K:wQ}
  (h:run P G c (N9 args) l (Lk P G ms K.k)) :dS P G f args l (c:=K) :=by
 unfold bx at ak;unfold bz at aC;split at ak
 ·rename_i fn m6;split at ak
  ·rename_i body ai;rw[m6] at aC;obtain⟨e,ci,l',h1,ag,aq⟩:=at0 (N':=args.length+(fn.ntmps - args.length)) (by omega) body c ak _ _ _ h;have fin:(e=.normal\/e=.ret)->qu P G K.k ci l' ms []->dS P G f args l (c:=K) :=fun au aq=>by
    obtain⟨vs,aH,bd⟩:=VL aC aq;exact⟨yI vs,l',.inline m6 ai h1 au (by simp only[Hj,aH]; rfl),ag,by simpa using bd⟩
   cases e with
   | normal=>exact fin (.inl rfl) aq
   | ret=>exact fin (.inr rfl) aq
   | exit id=>cases aq
  ·cases ak
 ·cases ak
theorem acF {b:wN} {ah:bB} {l:aw} {K g6:ad->aw->Prop} (bA:∀ v l,K v l->g6 v l) (h:iS P G b ah l K) :iS P G b ah l g6:=by
 cases b with
 | cM m=>simp only[iS,Ej] at h ⊢; obtain⟨v,h1,ag⟩:=h; exact⟨v,h1,VM bA ag⟩
 | cO f args=>obtain⟨r,l',h1,ag,aq⟩:=h; exact⟨r,l',h1,ag,bA _ _ aq⟩
 | ig x args=>
  simp only[iS,y5] at h ⊢;split at h
  ·obtain⟨aG,r,l',h1,ag,aq⟩:=h; exact⟨aG,r,l',h1,ag,bA _ _ aq⟩
  ·cases h
 | qV x name args=>
  simp only[iS,y4] at h ⊢;split at h
  ·split at h
   ·obtain⟨aG,r,l',h1,ag,aq⟩:=h; exact⟨aG,r,l',h1,ag,bA _ _ aq⟩
   ·cases h
  ·cases h
theorem VJ {ah:bB} {g:Option (Option Tmp × Bool)} {p q ch gf:Prop} (aF:p->ch) (bD:q->gf) (h:sO ah g p q) :sO ah g ch gf:=by
 unfold sO at h ⊢;split at h
 ·exact aF h
 ·simp only[sN] at h ⊢;split at h
  ·rw[Dg] at h ⊢;rcases h with ⟨a,b⟩ | ⟨a,b⟩
   ·exact .inl ⟨a,aF b⟩
   ·exact .inr ⟨a,bD b⟩
  ·cases h
  ·exact bD h
 ·exact bD h
theorem Mx {K g6:bB->aw->Prop} (bA:∀ ah l,K ah l->g6 ah l) :∀ {s:List dD} {ah:bB} {l:aw},lh P G s ah l K->lh P G s ah l g6
 | [],_,_,h=>bA _ _ h
 | s::r,_,_,h=>VJ (acF fun _ _ h=>Mx bA h) (fun h=>Mx bA h) h
theorem Mu {K g6:bB->aw->Prop} (bA:∀ ah l,K ah l->g6 ah l) :∀ {s:List dD} {ah:bB} {l:aw} {seen:jP},lQ P G s ah l seen K->lQ P G s ah l seen g6
 | [],_,_,_,h=>bA _ _ h
 | s::r,_,_,_,h=>VJ (acF fun _ _ h=>⟨h.1,Mu bA h.2⟩) (fun h=>Mu bA h) h
theorem Dh {k k' : bB->aw->Prop} {K g6:hX} (hk:∀ ah l,k ah l->k' ah l) (bA:∀ e ah l,K e ah l->g6 e ah l) :∀ e ah l,qv k K e ah l->qv k' g6 e ah l:=by
 intro e ah l h; cases e<;>first | exact hk _ _ h | exact bA _ _ _ h
theorem MB:∀ {c:aT} {ah:bB} {l:aw} {K g6:hX},(∀ e ah l,K e ah l->g6 e ah l)->run P G c ah l K->run P G c ah l g6:=by
 intro c
 induction c with
 | skip=>intro ah l K g6 bA h; exact bA _ _ _ h
 | ret=>intro ah l K g6 bA h; exact bA _ _ _ h
 | exit id=>intro ah l K g6 bA h; exact bA _ _ _ h
 | bH s=>intro ah l K g6 bA h; exact Mx (bA _) h
 | hc s=>intro ah l K g6 bA h; exact Mu (bA _) h
 | seq a b KW KX=>intro ah l K g6 bA h; exact KW (Dh (fun ah l h=>KX bA h) bA) h
 | cond c x y K0 K1=>
  intro ah l K g6 bA h;simp only[run,Df] at h ⊢;split at h
  ·rw[Dg] at h ⊢;rcases h with ⟨a,b⟩ | ⟨a,b⟩
   ·exact .inl ⟨a,K0 bA b⟩
   ·exact .inr ⟨a,K1 bA b⟩
  ·cases h
 | block id c aY=>
  intro ah l K g6 bA h;refine aY (fun e ah l h=>?_) h;cases e with
  | normal=>exact bA _ _ _ h
  | ret=>exact bA _ _ _ h
  | exit Aq=>
   simp only[vY] at h ⊢;split at h
   ·exact bA _ _ _ h
   ·exact bA _ _ _ h
 | loop c aY=>
  intro ah l K g6 bA h;obtain⟨n,h⟩:=h;refine⟨n,?_⟩
  induction n generalizing ah l with
  | zero=>cases h
  | succ n KZ=>exact aY (Dh (fun ah l h=>KZ h) bA) h
theorem dS.mono {f:FuncId} {args:List ad} {l:aw} {K g6:wQ} (bA:∀ v l,K.k v l->g6.k v l) (h:dS P G f args l (c:=K)) :dS P G f args l (c:=g6) :=by
 obtain⟨r,l',h1,ag,aq⟩:=h; exact⟨r,l',h1,ag,bA _ _ aq⟩
theorem rv {c:aT} {K:HR} (I:Nat->bB->aw->Prop) (step:∀ n ah l,I n ah l->run P G c ah l (qv (fun ah l=>∃ hE,hE<n/\I hE ah l) K.k)) :∀ n ah l,I n ah l->Eh (run P G c) ah l (c:=K) :=by
 intro n
 induction n using Nat.strongRecOn with
 | _ n aY=>
  intro ah l h
  -- fuel n+1 is enough
  have BZ:∀ (m n:Nat),n<=m->∀ ah l,I n ah l->AD (run P G c) (m+1) ah l K.k:=by
   intro m
   induction m with
   | zero=>
    intro n aI ah l h;obtain rfl:n=0:=by omega
    exact MB (Dh (fun ah l ⟨hE,h1,_⟩=>by omega) (fun _ _ _ h=>h)) (step 0 ah l h)
   | succ m KY=>
    intro n aI ah l h;exact MB (Dh (fun ah l ⟨hE,h1,ag⟩=>KY hE (by omega) ah l ag) (fun _ _ _ h=>h)) (step n ah l h)
  exact⟨n+1,BZ n n (aCL _) ah l h⟩
theorem c2 {c:aT} {K:HR} (n:Nat) (I:Nat->bB->aw->Prop) (step:∀ k ah l,k<=n->I k ah l->run P G c ah l (qv (fun ah l=>k<n/\I (k+1) ah l) K.k)) {ah:bB} {l:aw} (h:I 0 ah l) :Eh (run P G c) ah l (c:=K) :=by
 refine rv (fun m ah l=>∃ k,k+m=n/\I k ah l) (fun m ah l ⟨k,hk,h⟩=>?_) n ah l ⟨0,by omega,h⟩;exact MB (Dh (fun ah l ⟨h1,ag⟩=>⟨m - 1,by omega,k+1,by omega,ag⟩) (fun _ _ _ h=>h)) (step k ah l (by omega) h)
end

section
variable {P:Program} {G:Nat->ad}
@[simp ↓] theorem aCb (ah:bB) (l:aw) (K:hX) :run P G .skip ah l K=K .normal ah l:=id rfl
@[simp ↓] theorem aB9 (ah:bB) (l:aw) (K:hX) :run P G .ret ah l K=K .ret ah l:=id rfl
@[simp ↓] theorem aB6 (i:Nat) (ah:bB) (l:aw) (K:hX) :run P G (.exit i) ah l K=K (.exit i) ah l:=id rfl
@[simp ↓] theorem aB8 (s:List dD) (ah:bB) (l:aw) (K:hX) :run P G (.bH s) ah l K=lh P G s ah l (K .normal) :=id rfl
@[simp ↓] theorem aB5 (s:List dD) (ah:bB) (l:aw) (K:hX) :run P G (.hc s) ah l K=lQ P G s ah l [] (K .normal) :=id rfl
@[simp ↓] theorem aCa (a b:aT) (ah:bB) (l:aw) (K:hX) :run P G (.seq a b) ah l K=run P G a ah l (qv (fun ah l=>run P G b ah l K) K) :=id rfl
@[simp ↓] theorem aB4 (c:Operand) (x y:aT) (ah:bB) (l:aw) (K:hX) :run P G (.cond c x y) ah l K=Df (ek G ah c) (c:=⟨run P G x ah l K,run P G y ah l K⟩) :=id rfl
@[simp ↓] theorem aB3 (i:Nat) (c:aT) (ah:bB) (l:aw) (K:hX) :run P G (.block i c) ah l K=run P G c ah l (vY i K) :=id rfl
@[simp ↓] theorem aB7 (c:aT) (ah:bB) (l:aw) (K:hX) :run P G (.loop c) ah l K=Eh (run P G c) ah l (c:=⟨K⟩) :=id rfl
@[simp ↓] theorem azU (k:bB->aw->Prop) (K:hX) (ah:bB) (l:aw) :qv k K .normal ah l=k ah l:=id rfl
@[simp ↓] theorem azT (k:bB->aw->Prop) (K:hX) (i:Nat) (ah:bB) (l:aw) :qv k K (.exit i) ah l=K (.exit i) ah l:=id rfl
@[simp ↓] theorem azV (k:bB->aw->Prop) (K:hX) (ah:bB) (l:aw) :qv k K .ret ah l=K .ret ah l:=id rfl
@[simp ↓] theorem azD (i:Nat) (K:hX) (ah:bB) (l:aw) :vY i K .normal ah l=K .normal ah l:=id rfl
@[simp ↓] theorem azE (i:Nat) (K:hX) (ah:bB) (l:aw) :vY i K .ret ah l=K .ret ah l:=id rfl
def vZ (p:Prop) [Decidable p] [c:Bh] :Prop:=if p then c.p else c.q
@[simp ↓] theorem azC (i j:Nat) (K:hX) (ah:bB) (l:aw) :vY i K (.exit j) ah l=vZ (j=i) (c:=⟨K .normal ah l,K (.exit j) ah l⟩) :=by
 unfold vY vZ;by_cases h:j=i
 ·simp only[ut h,if_pos h]
 ·simp only[lb h,if_neg h]
@[simp ↓] theorem azJ (i:Nat) (x y:Prop) :vZ (i=i) (c:=⟨x,y⟩)=x:=by simp[vZ]
@[simp] theorem azK (x y:Prop) :vZ True (c:=⟨x,y⟩)=x:=by simp[vZ]
@[simp] theorem azI (x y:Prop) :vZ False (c:=⟨x,y⟩)=y:=by simp[vZ]
@[simp ↓] theorem azG (ms:List bf) (K:ad->aw->Prop) (ah:bB) (l:aw) :Lk P G ms K .normal ah l=qu P G K ah l ms [] :=id rfl
@[simp ↓] theorem azH (ms:List bf) (K:ad->aw->Prop) (ah:bB) (l:aw) :Lk P G ms K .ret ah l=qu P G K ah l ms [] :=id rfl
@[simp ↓] theorem azS (K:ad->aw->Prop) (ah:bB) (l:aw) (acc:List ad) :qu P G K ah l [] acc=K (yI acc) l:=id rfl
@[simp ↓] theorem azR (K:ad->aw->Prop) (ah:bB) (l:aw) (m:bf) (r:List bf) (acc:List ad) :qu P G K ah l (m::r) acc=W (cg P (ek G ah) l m) (c:=⟨fun x=>qu P G K ah l r (acc++[x.1])⟩) :=id rfl
@[simp] theorem aCo (v:ad) :yI [v]=v:=id rfl
@[simp] theorem aCp (v w:ad) (r:List ad) :yI (v::w::r)=.b5 (v::w::r) :=id rfl
@[simp ↓] theorem aB2 (ah:bB) (l:aw) (K:bB->aw->Prop) :lh P G [] ah l K=K ah l:=id rfl
@[simp ↓] theorem aB1 (i:Nat) (dst:Option Tmp) (m:bf) (c:List Nat) (k:Bool) (r:List dD) (ah:bB) (l:aw) (K:bB->aw->Prop) :
  lh P G (⟨i,dst,none,.cM m,c,k⟩::r) ah l K=W (cg P (ek G ah) l m) (c:=⟨fun x=>fg m x.1 x.2 fun v l'=>lh P G r (h8 ah dst v) l' K⟩) :=id rfl
@[simp ↓] theorem aBX (i:Nat) (dst:Option Tmp) (f:FuncId) (args:List Operand) (c:List Nat) (k:Bool) (r:List dD) (ah:bB) (l:aw) (K:bB->aw->Prop) :
  lh P G (⟨i,dst,none,.cO f args,c,k⟩::r) ah l K=dS P G f (args.map (ek G ah)) l (c:=⟨fun v l'=>lh P G r (h8 ah dst v) l' K⟩) :=id rfl
@[simp ↓] theorem aBZ (i:Nat) (dst:Option Tmp) (x:Operand) (args:List Operand) (c:List Nat) (k:Bool) (r:List dD) (ah:bB) (l:aw) (K:bB->aw->Prop) :
  lh P G (⟨i,dst,none,.ig x args,c,k⟩::r) ah l K=y5 P G (ek G ah x) (args.map (ek G ah)) l (c:=⟨fun v l'=>lh P G r (h8 ah dst v) l' K⟩) :=id rfl
@[simp ↓] theorem aBY (i:Nat) (dst:Option Tmp) (x:Operand) (name:String) (args:List Operand) (c:List Nat) (k:Bool) (r:List dD) (ah:bB) (l:aw) (K:bB->aw->Prop) :
  lh P G (⟨i,dst,none,.qV x name args,c,k⟩::r) ah l K=y4 P G name (ek G ah x) (args.map (ek G ah)) l (c:=⟨fun v l'=>lh P G r (h8 ah dst v) l' K⟩) :=id rfl
@[simp ↓] theorem axm (name:String) (t:TypeId) (v:ad) (args:List ad) (l:aw) (c:wQ) :
  y4 P G name (.hD t v) args l (c:=c)=(match AE P t name with | some g=>js P g=true/\dS P G g (v::args) l (c:=c) | none=>False) :=id rfl
@[simp ↓] theorem aB0 (i:Nat) (dst:Option Tmp) (d:Tmp) (w:Bool) (b:wN) (c:List Nat) (k:Bool) (r:List dD) (ah:bB) (l:aw) (K:bB->aw->Prop) :
  lh P G (⟨i,dst,some (some d,w),b,c,k⟩::r) ah l K=sN (ah d) w (c:=⟨lh P G (⟨i,dst,none,b,c,k⟩::r) ah l K,lh P G r (h8 ah dst jk) l K⟩) :=id rfl
@[simp ↓] theorem aBW (ah:bB) (l:aw) (seen:jP) (K:bB->aw->Prop) :lQ P G [] ah l seen K=K ah l:=id rfl
@[simp ↓] theorem aBV (i:Nat) (dst:Option Tmp) (m:bf) (c:List Nat) (k:Bool) (r:List dD) (ah:bB) (l:aw) (seen:jP) (K:bB->aw->Prop) :
  lQ P G (⟨i,dst,none,.cM m,c,k⟩::r) ah l seen K=W (cg P (ek G ah) l m) (c:=⟨fun x=>fg m x.1 x.2 fun v l'=>r5 c seen l'/\lQ P G r (h8 ah dst v) l' (s7 k i (n3 P G (.cM m) ah v l l') seen) K⟩) :=id rfl
@[simp ↓] theorem aBS (i:Nat) (dst:Option Tmp) (f:FuncId) (args:List Operand) (c:List Nat) (k:Bool) (r:List dD) (ah:bB) (l:aw) (seen:jP) (K:bB->aw->Prop) :
  lQ P G (⟨i,dst,none,.cO f args,c,k⟩::r) ah l seen K=dS P G f (args.map (ek G ah)) l (c:=⟨fun v l'=>r5 c seen l'/\lQ P G r (h8 ah dst v) l' (s7 k i (fun _=>True) seen) K⟩) :=id rfl
@[simp ↓] theorem aBT (i:Nat) (dst:Option Tmp) (x:Operand) (args:List Operand) (c:List Nat) (k:Bool) (r:List dD) (ah:bB) (l:aw) (seen:jP) (K:bB->aw->Prop) :
  lQ P G (⟨i,dst,none,.ig x args,c,k⟩::r) ah l seen K=y5 P G (ek G ah x) (args.map (ek G ah)) l (c:=⟨fun v l'=>r5 c seen l'/\lQ P G r (h8 ah dst v) l' (s7 k i (fun _=>True) seen) K⟩) :=id rfl
@[simp ↓] theorem aBU (i:Nat) (dst:Option Tmp) (d:Tmp) (w:Bool) (b:wN) (c:List Nat) (k:Bool) (r:List dD) (ah:bB) (l:aw) (seen:jP) (K:bB->aw->Prop) :
  lQ P G (⟨i,dst,some (some d,w),b,c,k⟩::r) ah l seen K=sN (ah d) w (c:=⟨lQ P G (⟨i,dst,none,b,c,k⟩::r) ah l seen K,lQ P G r (h8 ah dst jk) l seen K⟩) :=id rfl
@[simp] theorem axH (ids:List Nat) (l:aw) :r5 ids [] l=True:=id rfl
@[simp] theorem axG (ids:List Nat) (e:Nat × (aw->Prop)) (r:jP) (l:aw) :r5 ids (e::r) l=((ids.contains e.1=true->e.2 l)/\r5 ids r l) :=id rfl
@[simp] theorem aCe (i:Nat) (p:aw->Prop) (s:jP) :s7 true i p s=(i,p) ::s:=id rfl
@[simp] theorem aCd (i:Nat) (p:aw->Prop) (s:jP) :s7 false i p s=s:=id rfl
@[simp] theorem aCk (m:bf) (ah:bB) (v:ad) (l l' l1:aw) :n3 P G (.cM m) ah v l l' l1=(match m.lJ with | true=>l1[l.length]? = l'[l.length]? | false=>cg P (ek G ah) l1 m=some (v,l1)) :=id rfl
@[simp ↓] theorem aAv (x:Operand) (v:ad) (l:aw) (K:ad->aw->Prop) :fg (.aO x) v l K=K v l:=id rfl
@[simp ↓] theorem aAy (c a b:Operand) (v:ad) (l:aw) (K:ad->aw->Prop) :fg (.pick c a b) v l K=K v l:=id rfl
@[simp ↓] theorem azW (z:List ad) (v:ad) (l:aw) (K:ad->aw->Prop) :fg (.alloc z) v l K=K v l:=id rfl
@[simp ↓] theorem az1 (x:Operand) (v:ad) (l:aw) (K:ad->aw->Prop) :fg (.box x) v l K=K v l:=id rfl
@[simp ↓] theorem az0 (z:List ad) (di:List (Nat × Nat × Operand)) (v:ad) (l:aw) (K:ad->aw->Prop) :fg (.dp z di) v l K=K v l:=id rfl
@[simp ↓] theorem az2 (z:Nat) (zero:List ad) (n:Nat) (di:List (Nat × Operand)) (v:ad) (l:aw) (K:ad->aw->Prop) :fg (.dh z zero n di) v l K=K v l:=id rfl
@[simp ↓] theorem aAj (a:Operand) (v:ad) (l:aw) (K:ad->aw->Prop) :fg (.ld1 a) v l K=K v l:=id rfl
@[simp ↓] theorem aAk (n:Nat) (a:Operand) (v:ad) (l:aw) (K:ad->aw->Prop) :fg (.eg n a) v l K=K v l:=id rfl
@[simp ↓] theorem aAB (n:Nat) (a x:Operand) (v:ad) (l:aw) (K:ad->aw->Prop) :fg (.st n a x) v l K=K v l:=id rfl
@[simp ↓] theorem aAw (x:Operand) (v:ad) (l:aw) (K:ad->aw->Prop) :fg (.oE x) v l K=K v l:=id rfl
@[simp ↓] theorem azZ (o:BinOp) (t:TypeId) (x y:Operand) (v:ad) (l:aw) (K:ad->aw->Prop) :fg (.bin o t x y) v l K=K v l:=id rfl
@[simp ↓] theorem aAD (o:UnOp) (x:Operand) (v:ad) (l:aw) (K:ad->aw->Prop) :fg (.un o x) v l K=K v l:=id rfl
@[simp ↓] theorem az5 (k:IntKind) (x:Operand) (v:ad) (l:aw) (K:ad->aw->Prop) :fg (.ds k x) v l K=K v l:=id rfl
@[simp ↓] theorem aAa (x:Operand) (v:ad) (l:aw) (K:ad->aw->Prop) :fg (.BE x) v l K=K v l:=id rfl
@[simp ↓] theorem az4 (x:Operand) (v:ad) (l:aw) (K:ad->aw->Prop) :fg (.wZ x) v l K=K v l:=id rfl
@[simp ↓] theorem az9 (x:Operand) (v:ad) (l:aw) (K:ad->aw->Prop) :fg (.tw x) v l K=K v l:=id rfl
@[simp ↓] theorem aAr (t:TypeId) (x:Operand) (v:ad) (l:aw) (K:ad->aw->Prop) :fg (.yk t x) v l K=K v l:=id rfl
@[simp ↓] theorem aAC (t:TypeId) (z:ad) (ok:Bool) (x:Operand) (v:ad) (l:aw) (K:ad->aw->Prop) :fg (.D3 t z ok x) v l K=K v l:=id rfl
@[simp ↓] theorem aAq (f:FuncId) (a b:List Operand) (v:ad) (l:aw) (K:ad->aw->Prop) :fg (.sT f a b) v l K=K v l:=id rfl
@[simp ↓] theorem aAt (z b:Nat) (zero:List ad) (x y:Operand) (v:ad) (l:aw) (K:ad->aw->Prop) :fg (.pn z b zero x y) v l K=K v l:=id rfl
@[simp ↓] theorem aAA (ep:ku) (x:Operand) (dn aB dg:Option Operand) (v:ad) (l:aw) (K:ad->aw->Prop) :fg (.slice ep x dn aB dg) v l K=K v l:=id rfl
@[simp ↓] theorem aAc (n:Nat) (x:Operand) (v:ad) (l:aw) (K:ad->aw->Prop) :fg (.zj n x) v l K=K v l:=id rfl
@[simp ↓] theorem aAd (n:Nat) (x:Operand) (v:ad) (l:aw) (K:ad->aw->Prop) :fg (.EY n x) v l K=K v l:=id rfl
@[simp ↓] theorem aAe (n m:Nat) (x:Operand) (v:ad) (l:aw) (K:ad->aw->Prop) :fg (.BQ n m x) v l K=K v l:=id rfl
@[simp ↓] theorem aAf (ep:ku) (x y:Operand) (v:ad) (l:aw) (K:ad->aw->Prop) :fg (.ff ep x y) v l K=K v l:=id rfl
@[simp ↓] theorem aAg (n z:Nat) (x y:Operand) (v:ad) (l:aw) (K:ad->aw->Prop) :fg (.Ax n z x y) v l K=K v l:=id rfl
@[simp ↓] theorem aAh (n z:Nat) (x y:Operand) (v:ad) (l:aw) (K:ad->aw->Prop) :fg (.Gn n z x y) v l K=K v l:=id rfl
@[simp ↓] theorem aAi (x y:Operand) (v:ad) (l:aw) (K:ad->aw->Prop) :fg (.uk x y) v l K=K v l:=id rfl
@[simp ↓] theorem aAb (x:Operand) (n:Nat) (v:ad) (l:aw) (K:ad->aw->Prop) :fg (.ext x n) v l K=K v l:=id rfl
@[simp ↓] theorem aAl (ep:ku) (x:Operand) (v:ad) (l:aw) (K:ad->aw->Prop) :fg (.len ep x) v l K=K v l:=id rfl
@[simp ↓] theorem az3 (ep:ku) (x:Operand) (v:ad) (l:aw) (K:ad->aw->Prop) :fg (.cap ep x) v l K=K v l:=id rfl
@[simp ↓] theorem azY (z b:Nat) (zero:List ad) (x y:Operand) (v:ad) (l:aw) (K:ad->aw->Prop) :fg (.u1 z b zero x y) v l K=K v l:=id rfl
@[simp ↓] theorem az8 (z:Nat) (x y:Operand) (v:ad) (l:aw) (K:ad->aw->Prop) :fg (.zb z x y) v l K=K v l:=id rfl
@[simp ↓] theorem az6 (zero:List ad) (x:Operand) (v:ad) (l:aw) (K:ad->aw->Prop) :fg (.tv zero x) v l K=K v l:=id rfl
@[simp ↓] theorem aAp (x y:Operand) (v:ad) (l:aw) (K:ad->aw->Prop) :fg (.min x y) v l K=K v l:=id rfl
@[simp ↓] theorem aAo (x y:Operand) (v:ad) (l:aw) (K:ad->aw->Prop) :fg (.max x y) v l K=K v l:=id rfl
@[simp ↓] theorem azX (z b:Nat) (x y:Operand) (v:ad) (l:aw) (K:ad->aw->Prop) :fg (.app z b x y) v l K=dx v l (c:=⟨K⟩) :=id rfl
theorem dx.c6 {v:ad} {l:aw} {K:ad->aw->Prop} (h:K v l) :dx v l (c:=⟨K⟩) :=.inl h
@[simp] theorem azv (a:Operand) :(bf.ld1 a).lJ=false:=id rfl
@[simp] theorem azw (n:Nat) (a:Operand) :(bf.eg n a).lJ=false:=id rfl
@[simp] theorem azs (k:IntKind) (a:Operand) :(bf.ds k a).lJ=false:=id rfl
@[simp] theorem azu (a:Operand) :(bf.BE a).lJ=false:=id rfl
@[simp] theorem azr (a:Operand) :(bf.wZ a).lJ=false:=id rfl
@[simp] theorem azt (a:Operand) :(bf.tw a).lJ=false:=id rfl
@[simp] theorem azo (z:List ad) :(bf.alloc z).lJ=true:=id rfl
@[simp] theorem azp (a:Operand) :(bf.box a).lJ=true:=id rfl
@[simp] theorem azq (z:Nat) (zero:List ad) (n:Nat) (di:List (Nat × Operand)) :(bf.dh z zero n di).lJ=true:=id rfl
@[simp] theorem azx (z b:Nat) (zero:List ad) (x y:Operand) :(bf.pn z b zero x y).lJ=true:=id rfl
@[simp] theorem aBJ (l l' : aw) (x:Option ad) (v:ad) :(eo l x=some (v,l'))=(x=some v/\l'=l) :=propext gZ
@[simp ↓] theorem awI {α:Type} (x:α) (k:α->Prop) :W (some x) (c:=⟨k⟩)=k x:=id rfl
@[simp ↓] theorem awH (l:aw) (o:Option ad) (k:ad × aw->Prop) :W (eo l o) (c:=⟨k⟩)=W o (c:=⟨fun v=>k (v,l)⟩) :=by unfold W eo; cases o<;>rfl
@[simp ↓] theorem awG {α kr:Type} (o:Option α) (f:α->kr) (k:kr->Prop) :W (o.map f) (c:=⟨k⟩)=W o (c:=⟨fun v=>k (f v)⟩) :=by unfold W; cases o<;>rfl
@[simp ↓] theorem awF {α:Type} (p:Prop) [Decidable p] (x:α) (k:α->Prop) :W (if p then some x else none) (c:=⟨k⟩)=(p/\k x) :=by unfold W; by_cases h:p<;>simp[h]
@[simp ↓] theorem azF (b:Bool) (p q:Prop) :Df (.bool b) (c:=⟨p,q⟩)=sP b (c:=⟨p,q⟩) :=id rfl
@[simp ↓] theorem azQ (p q:Prop) :sP true (c:=⟨p,q⟩)=p:=id rfl
@[simp ↓] theorem azP (p q:Prop) :sP false (c:=⟨p,q⟩)=q:=id rfl
@[simp ↓] theorem azM (b:Bool) (p q:Prop) :sN (.bool b) true (c:=⟨p,q⟩)=sP b (c:=⟨p,q⟩) :=by cases b<;>rfl
@[simp ↓] theorem azL (b:Bool) (p q:Prop) :sN (.bool b) false (c:=⟨p,q⟩)=sP b (c:=⟨q,p⟩) :=by cases b<;>rfl
@[simp ↓] theorem azN (w:Bool) (p q:Prop) :sN jk w (c:=⟨p,q⟩)=q:=id rfl
@[simp ↓] theorem azO (w:Bool) (p q:Prop) :sN (.b5 []) w (c:=⟨p,q⟩)=q:=id rfl
theorem im {b:Bool} {p q:Prop} (h1:b=true->p) (ag:b=false->q) :sP b (c:=⟨p,q⟩) :=by cases b; exact ag rfl; exact h1 rfl
@[simp ↓] theorem aBL (ah:bB) (d:Tmp) (v:ad) :h8 ah (some d) v=ck ah d v:=id rfl
@[simp ↓] theorem aBK (ah:bB) (v:ad) :h8 ah none v=ah:=id rfl
@[simp] theorem ayj {α:Type} (s:Nat->α) (d:Nat) (v:α) (t:Nat) :ck s d v t=if t=d then v else s t:=id rfl
@[simp] theorem awJ (args:List ad) (t:Nat) :N9 args t=args.getD t jk:=id rfl
@[simp] theorem ax9 (ah:bB) (t:Tmp) :ek G ah (.tmp t)=ah t:=id rfl
@[simp] theorem ax0 (ah:bB) (f:FuncId) :ek G ah (.func f)=.fn f [] [] :=id rfl
@[simp] theorem ax1 (ah:bB) (g:Nat) :ek G ah (.global g)=G g:=id rfl
@[simp] theorem ax2 (ah:bB) (k:IntKind) (n:Int) :ek G ah (.const (.int k n))=.int k n:=id rfl
@[simp] theorem axZ (ah:bB) (b:Bool) :ek G ah (.const (.bool b))=.bool b:=id rfl
@[simp] theorem ax8 (ah:bB) (s:ByteArray) :ek G ah (.const (.string s))=.str s.data.toList:=id rfl
@[simp] theorem ax7 (ah:bB) :ek G ah (.const (.slice none 0 0))=.aK:=id rfl
@[simp] theorem ax6 (ah:bB) :ek G ah (.const (.pointer none))=.j5:=id rfl
@[simp] theorem ax5 (ah:bB) :ek G ah (.const (.map none))=.iq:=id rfl
@[simp] theorem ax3 (ah:bB) :ek G ah (.const .nilFunc)=.jD:=id rfl
@[simp] theorem ax4 (ah:bB) :ek G ah (.const .nilIface)=.j4:=id rfl
@[simp] theorem aya (ah:bB) :ek G ah (.const (.tuple #[]))=.b5 [] :=id rfl
variable (aN:Operand->ad) (l:aw)
@[simp ↓] theorem aBn (x:Operand) :cg P aN l (.aO x)=some (aN x,l) :=id rfl
@[simp ↓] theorem aBq (c a b:Operand) :cg P aN l (.pick c a b)=eo l (G4 (aN c) (aN a) (aN b)) :=id rfl
@[simp ↓] theorem aAN (z:List ad) :cg P aN l (.alloc z)=some (.ptr l.length 0 z.length,l++[.cells z.length z]) :=id rfl
@[simp ↓] theorem aAS (x:Operand) :cg P aN l (.box x)=(aN x).cells.map fun cs=>(.ptr l.length 0 cs.length,l++[.cells cs.length cs]) :=id rfl
@[simp ↓] theorem aAR (zero:List ad) (di:List (Nat × Nat × Operand)) :cg P aN l (.dp zero di)=eo l ((qT zero (di.map fun p=>(p.1,p.2.1,aN p.2.2))).map .aM) :=id rfl
@[simp ↓] theorem aAT (z:Nat) (zero:List ad) (len:Nat) (di:List (Nat × Operand)) :cg P aN l (.dh z zero len di)=(ii (fun i=>some (i*z,z)) (ey zero len) (di.map fun p=>(p.1,aN p.2))).map fun cs=>(.av z l.length 0 len len (len*z),l++[.cells (len*z) cs]) :=id rfl
@[simp ↓] theorem aBa (a:Operand) :cg P aN l (.ld1 a)=eo l ((e4 l (aN a)).bind fun x=>x.1[x.2]?) :=id rfl
@[simp ↓] theorem aBb (n:Nat) (a:Operand) :cg P aN l (.eg n a)=eo l ((e4 l (aN a)).bind fun x=>uz n x.1 x.2) :=id rfl
@[simp ↓] theorem aBt (n:Nat) (a x:Operand) :cg P aN l (.st n a x)=(kI n l (aN a) (aN x)).map fun l'=>(jk,l') :=id rfl
@[simp ↓] theorem aBo (x:Operand) :cg P aN l (.oE x)=eo l (AG (aN x)) :=id rfl
@[simp ↓] theorem aAQ (o:BinOp) (t:TypeId) (x y:Operand) :cg P aN l (.bin o t x y)=eo l (gu P o t (aN x) (aN y)) :=id rfl
@[simp ↓] theorem aBv (o:UnOp) (x:Operand) :cg P aN l (.un o x)=eo l (rL o (aN x)) :=id rfl
@[simp ↓] theorem aAW (k:IntKind) (x:Operand) :cg P aN l (.ds k x)=eo l (EE k (aN x)) :=id rfl
@[simp ↓] theorem aA1 (x:Operand) :cg P aN l (.BE x)=eo l (IA (aN x)) :=id rfl
@[simp ↓] theorem aAV (x:Operand) :cg P aN l (.wZ x)=eo l (w0 l (aN x)) :=id rfl
@[simp ↓] theorem aA0 (x:Operand) :cg P aN l (.tw x)=eo l (w7 (aN x)) :=id rfl
@[simp ↓] theorem aBj (t:TypeId) (x:Operand) :cg P aN l (.yk t x)=some (.hD t (aN x),l) :=id rfl
@[simp ↓] theorem aBu (t:TypeId) (z:ad) (ok:Bool) (x:Operand) :cg P aN l (.D3 t z ok x)=eo l (D4 t z ok (aN x)) :=id rfl
@[simp ↓] theorem aBi (f:FuncId) (a b:List Operand) :cg P aN l (.sT f a b)=some (.fn f (a.map aN) (b.map aN),l) :=id rfl
@[simp ↓] theorem aBl (z by_:Nat) (zero:List ad) (a c:Operand) :cg P aN l (.pn z by_ zero a c)=us z by_ zero l (aN a) (aN c) :=id rfl
@[simp ↓] theorem aBs (ep:ku) (x:Operand) (dn aB dg:Option Operand) :cg P aN l (.slice ep x dn aB dg)=eo l (g5 ep (aN x) (dn.map aN) (aB.map aN) (dg.map aN)) :=id rfl
@[simp ↓] theorem aA3 (off:Nat) (x:Operand) :cg P aN l (.zj off x)=eo l (od (aN x) off) :=id rfl
@[simp ↓] theorem aA4 (off:Nat) (x:Operand) :cg P aN l (.EY off x)=eo l (EZ off (aN x)) :=id rfl
@[simp ↓] theorem aA5 (n off:Nat) (x:Operand) :cg P aN l (.BQ n off x)=eo l (BR n off (aN x)) :=id rfl
@[simp ↓] theorem aA6 (ep:ku) (x i:Operand) :cg P aN l (.ff ep x i)=eo l (cC ep (aN x) (aN i)) :=id rfl
@[simp ↓] theorem aA7 (n z:Nat) (x i:Operand) :cg P aN l (.Ax n z x i)=eo l (Gp n z (aN x) (aN i)) :=id rfl
@[simp ↓] theorem aA8 (n z:Nat) (x i:Operand) :cg P aN l (.Gn n z x i)=eo l (Gq n z (aN x) (aN i)) :=id rfl
@[simp ↓] theorem aA9 (x i:Operand) :cg P aN l (.uk x i)=eo l (Ay (aN x) (aN i)) :=id rfl
@[simp ↓] theorem aA2 (x:Operand) (i:Nat) :cg P aN l (.ext x i)=eo l (ER (aN x) i) :=id rfl
@[simp ↓] theorem aBd (ep:ku) (x:Operand) :cg P aN l (.len ep x)=eo l (c1 ep (aN x)) :=id rfl
@[simp ↓] theorem aAU (ep:ku) (x:Operand) :cg P aN l (.cap ep x)=eo l (vb ep (aN x)) :=id rfl
@[simp ↓] theorem aAO (z by_:Nat) (s x:Operand) :cg P aN l (.app z by_ s x)=g8 l z by_ (aN s) (aN x) :=id rfl
@[simp ↓] theorem aAP (z by_:Nat) (zero:List ad) (s x:Operand) :cg P aN l (.u1 z by_ zero s x)=r0 l z by_ zero (aN s) (aN x) :=id rfl
@[simp ↓] theorem aAZ (z:Nat) (d x:Operand) :cg P aN l (.zb z d x)=BD z l (aN d) (aN x) :=id rfl
@[simp ↓] theorem aAX (zero:List ad) (x:Operand) :cg P aN l (.tv zero x)=(tu zero l (aN x)).map fun l'=>(.b5 [],l') :=id rfl
@[simp ↓] theorem aBh (x y:Operand) :cg P aN l (.min x y)=eo l (Dl (aN x) (aN y)) :=id rfl
@[simp ↓] theorem aBg (x y:Operand) :cg P aN l (.max x y)=eo l (v2 (aN x) (aN y)) :=id rfl
@[simp] theorem aBH (t:Bool) (a b:ad) :G4 (.bool t) a b=some (if t=true then a else b) :=id rfl
@[simp] theorem RP (cs:List ad) :(ad.aM cs).cells=some cs:=id rfl
@[simp] theorem axw (k:IntKind) (n:Int) :(ad.int k n).cells=some [.int k n] :=id rfl
@[simp] theorem axt (b:Bool) :(ad.bool b).cells=some [.bool b] :=id rfl
@[simp] theorem axF (s:List UInt8) :(ad.str s).cells=some [.str s] :=id rfl
@[simp] theorem axB:ad.aK.cells=some [.aK] :=id rfl
@[simp] theorem axA:ad.j5.cells=some [.j5] :=id rfl
@[simp] theorem axy:ad.jD.cells=some [.jD] :=id rfl
@[simp] theorem axz:ad.iq.cells=some [.iq] :=id rfl
@[simp] theorem axD (z:Nat) (es:List (List ad)) :(ad.cr z es).cells=some [.cr z es] :=id rfl
@[simp] theorem axE (z b o n c s:Nat) :(ad.av z b o n c s).cells=some [.av z b o n c s] :=id rfl
@[simp] theorem axC (b o s:Nat) :(ad.ptr b o s).cells=some [.ptr b o s] :=id rfl
@[simp] theorem axv (f:FuncId) (a b:List ad) :(ad.fn f a b).cells=some [.fn f a b] :=id rfl
@[simp] theorem axx (b:Nat) :(ad.mp b).cells=some [.mp b] :=id rfl
@[simp] theorem axr (b off sz k:Nat) :od (.ptr b off sz) k=some (.ptr b (off+k) sz) :=id rfl
@[simp] theorem axs (cs:List ad) (off k:Nat) :od (.cm cs off) k=some (.cm cs (off+k)) :=id rfl
@[simp] theorem aBA (b o s:Nat) :AG (.ptr b o s)=some (.ptr b o s) :=id rfl
@[simp] theorem aBB (cs:List ad) (o:Nat) :AG (.cm cs o)=some (.cm cs o) :=id rfl
@[simp] theorem aBz (f:FuncId) (a b:List ad) :AG (.fn f a b)=some (.fn f a b) :=id rfl
def nq (x:Option bp) (off sz:Nat) :Option (List ad × Nat) :=match x with
 | some (.cells n cs)=>if n=sz then some (cs,off) else none
 | _=>none
@[simp] theorem aBN (b off sz:Nat) :e4 l (.ptr b off sz)=nq l[b]? off sz:=by
 unfold e4 nq; rfl
@[simp] theorem aBM (n:Nat) (cs:List ad) (off sz:Nat) :nq (some (.cells n cs)) off sz=if n=sz then some (cs,off) else none:=id rfl
@[simp] theorem aBO (cs:List ad) (off:Nat) :e4 l (.cm cs off)=some (cs,off) :=id rfl
def MQ (n:Nat) (l:aw) (b off sz:Nat) (vs:List ad) (x:Option bp) :Option aw:=match x with
 | some (.cells m cs)=>if m=sz/\vs.length=n/\off+n<=m then some (l.set b (.cells m (bO cs off vs))) else none
 | _=>none
@[simp] theorem acE (n b off sz:Nat) (v:ad) :kI n l (.ptr b off sz) v=v.cells.bind fun vs=>MQ n l b off sz vs l[b]?:=by
 unfold kI MQ;cases v.cells<;>rfl
@[simp] theorem auP (n b off sz:Nat) (vs:List ad) (m:Nat) (cs:List ad) :MQ n l b off sz vs (some (.cells m cs))=if m=sz/\vs.length=n/\off+n<=m then some (l.set b (.cells m (bO cs off vs))) else none:=id rfl
@[simp] theorem aBG (n:Nat) (cs:List ad) (off:Nat) :uz n cs off=if off+n<=cs.length then some (.aM ((cs.drop off).take n)) else none:=id rfl
@[simp] theorem aCj (a:ad) (cs vs:List ad) (off:Nat) :bO (a::cs) (off+1) vs=a::bO cs off vs:=by
 simp only[bO,List.take_succ_cons,aDG,show off+1+vs.length=(off+vs.length)+1 by omega,aFy]
@[simp] theorem auH (a v:ad) (cs vs:List ad) :bO (a::cs) 0 (v::vs)=v::bO cs 0 vs:=by simp[bO]
@[simp] theorem auI (cs:List ad) :bO cs 0 []=cs:=by simp[bO]
@[simp] theorem aCi (vs:List ad) :bO [] 0 vs=vs:=by simp[bO]
@[simp] theorem awZ (zero:List ad) :qT zero []=some zero:=id rfl
theorem aeG (zero:List ad) (off size:Nat) (v:ad) (r:List (Nat × Nat × ad)) :qT zero ((off,size,v) ::r)=v.cells.bind fun vs=>if vs.length=size/\off+size<=zero.length then qT (bO zero off vs) r else none:=by
 rw[qT]; cases v.cells<;>rfl
attribute [simp] aeG
@[simp] theorem ayd (lO:Nat->Option (Nat × Nat)) (zero:List ad) :ii lO zero []=some zero:=id rfl
@[simp] theorem ayc (lO:Nat->Option (Nat × Nat)) (zero:List ad) (i:Nat) (v:ad) (r:List (Nat × ad)) :ii lO zero ((i,v) ::r)=(lO i).bind fun q=>v.cells.bind fun vs=>if vs.length=q.2/\q.1+q.2<=zero.length then ii lO (bO zero q.1 vs) r else none:=by
 rw[ii];cases lO i with
 | none=>rfl
 | some q=>cases v.cells<;>rfl
@[simp] theorem aBQ (zero:List ad) :ey zero 0=[] :=id rfl
@[simp] theorem aBR (zero:List ad) (n:Nat) :ey zero (n+1)=zero++ey zero n:=id rfl
@[simp] theorem awS (o:BinOp) (t:TypeId) (k:IntKind) (a:Int) (k' : IntKind) (b:Int) :gu P o t (.int k a) (.int k' b)=cP o k a k' b:=id rfl
@[simp] theorem awX (o:BinOp) (t:TypeId) (a b:List UInt8) :gu P o t (.str a) (.str b)=ob o a b:=id rfl
@[simp] theorem awU (k:IntKind) (a b:Int) :cP .lss k a k b=some (.bool (decide (a<b))) :=by simp[cP]
@[simp] theorem awT (k:IntKind) (a b:Int) :cP .leq k a k b=some (.bool (decide (a<=b))) :=by simp[cP]
@[simp] theorem awR (k:IntKind) (a b:Int) :cP .gtr k a k b=some (.bool (decide (b<a))) :=by simp[cP]
@[simp] theorem awQ (k:IntKind) (a b:Int) :cP .geq k a k b=some (.bool (decide (b<=a))) :=by simp[cP]
@[simp] theorem awP (k:IntKind) (a b:Int) :cP .eql k a k b=some (.bool (decide (a=b))) :=by
 have:(a == b)=decide (a=b) :=by by_cases h:a=b<;>simp[h]
 simp[cP,this]
@[simp] theorem awW (k:IntKind) (a b:Int) :cP .neq k a k b=some (.bool (!decide (a=b))) :=by
 have:(a != b)=!decide (a=b) :=by by_cases h:a=b<;>simp[h]
 simp[cP,this]
@[simp] theorem awO (k:IntKind) (a b:Int) :cP .add k a k b=some (.int k (k.wrap (a+b))) :=by simp[cP]
@[simp] theorem awY (k:IntKind) (a b:Int) :cP .sub k a k b=some (.int k (k.wrap (a - b))) :=by simp[cP]
@[simp] theorem awV (k:IntKind) (a b:Int) :cP .mul k a k b=some (.int k (k.wrap (a*b))) :=by simp[cP]
@[simp] theorem aCx (b:Bool) :rL .not (.bool b)=some (.bool (!b)) :=id rfl
@[simp] theorem aCw (k:IntKind) (n:Int) :rL .neg (.int k n)=some (.int k (k.wrap (0 - n))) :=id rfl
@[simp] theorem axI (k k' : IntKind) (n:Int) :EE k (.int k' n)=some (.int k (k.wrap n)) :=id rfl
@[simp] theorem azk (z eG:Nat) (es:List (List ad)) (k:IntKind) (i:Int) :cC (.av z) (.cr eG es) (.int k i)=if z=eG/\0<=i then (es[i.toNat]?).map fun cs=>.cm cs 0 else none:=id rfl
@[simp] theorem azl (z eG b off len cap sz:Nat) (k:IntKind) (i:Int) :cC (.av z) (.av eG b off len cap sz) (.int k i)=if z=eG/\0<=i/\i<len then some (.ptr b (off+i.toNat*z) sz) else none:=id rfl
@[simp] theorem azj (n z:Nat) (x:ad) (k:IntKind) (i:Int) :cC (.arr n z) x (.int k i)=if 0<=i/\i<n then od x (i.toNat*z) else none:=id rfl
@[simp] theorem aAI (z:Nat) :c1 (.av z) .aK=some (.int .i64 0) :=id rfl
@[simp] theorem aAK (z eG b o n c s:Nat) :c1 (.av z) (.av eG b o n c s)=some (.int .i64 n) :=id rfl
@[simp] theorem aAJ (z eG:Nat) (es:List (List ad)) :c1 (.av z) (.cr eG es)=some (.int .i64 es.length) :=id rfl
@[simp] theorem aAL (s:List UInt8) :c1 .str (.str s)=some (.int .i64 s.length) :=id rfl
@[simp] theorem aAH (n z:Nat) (x:ad) :c1 (.arr n z) x=some (.int .i64 n) :=id rfl
@[simp] theorem ayb (vs:List ad) (i:Nat) :ER (.b5 vs) i=vs[i]?:=id rfl
@[simp] theorem aye (cs:List ad) (off:Nat) :EZ off (.aM cs)=cs[off]?:=id rfl
@[simp] theorem ayf (n off:Nat) (cs:List ad) :BR n off (.aM cs)=uz n cs off:=id rfl
end

section
variable {P:Program} {G:Nat->ad}
inductive Rd (l:aw) :ad->ad->Prop
 | same (c:ad) (h:c.closed=true) :Rd l c c
 | aM (cs cs' : List ad) (ar:cs'.length=cs.length) (h:∀ (j:Nat) (c c' : ad),cs[j]? = some c->cs'[j]? = some c'->Rd l c c') :Rd l (.aM cs) (.aM cs')
 | b5 (cs cs' : List ad) (ar:cs'.length=cs.length) (h:∀ (j:Nat) (c c' : ad),cs[j]? = some c->cs'[j]? = some c'->Rd l c c') :Rd l (.b5 cs) (.b5 cs')
 | av (z b off len cap sz:Nat) (cs:List ad) (es:List (List ad)) (ai:l[b]? = some (.cells sz cs)) (ar:es.length=len) (az:∀ e∈es,e.length=z)
   (ea:off+len*z<=cs.length)
   (h:∀ (i j:Nat) (e:List ad) (c c' : ad),es[i]? = some e->e[j]? = some c'->cs[off+(i*z+j)]? = some c->Rd l c c') :Rd l (.av z b off len cap sz) (.cr z es)
 | uI (z b off cap sz:Nat) :Rd l (.av z b off 0 cap sz) (.cr z [])
theorem atz {w:World} {R:Nat->Prop} {B:Nat} {l:aw} {μ:dd} (rel:cp R B w (cj l) μ) :∀ {c c' : ad},Rd l c c'->∀ {v:Value},aZ w R (cj l) μ c v->gc w R c' v:=by
 intro c c' aC
 induction aC with
 | same c h=>
  intro v ay;exact (gc.up (w1 ay h) fun k _ hk=>⟨hk.1,fun ⟨b,m,h1,ag,aq⟩=>by cases ag⟩:aZ w R bh.empty (fun _=>none) _ v)
 | aM cs cs' ar h aY=>
  intro v ay;cases ay with
  | aM _ vs gW h1 ay=>
   refine .aM cs' vs (by omega) h1 (fun j c' v am fX=>?_);have aP:j<cs.length:=by rw[<-ar]; exact (aCJ.1 am).1
   exact aY j cs[j] c' (aCM aP) am (ay j cs[j] v (aCM aP) fX)
 | b5 cs cs' ar h aY=>
  intro v ay;cases ay with
  | b5 _ vs gW ay=>
   refine .b5 cs' vs (by omega) (fun j c' v am fX=>?_);have aP:j<cs.length:=by rw[<-ar]; exact (aCJ.1 am).1
   exact aY j cs[j] c' (aCM aP) am (ay j cs[j] v (aCM aP) fX)
 | uI z b off cap sz=>
  intro v ay;cases ay with
  | av _ _ _ _ _ _ cap' cs m ai hm ar ax ak=>exact .go z _ cap'
  | g4 _ _ _ _ _ _ cap' a ar ak aA=>exact .go z _ cap'
  | iy _ _ _ _ a cs m ai hm=>exact .go z a 0
 | av z b off len cap sz cs es ai ar az ea h aY=>
  intro v ay;have q5:(cj l).f b=.cells sz cs:=ln.2 ai;cases ay with
  | iy _ _ _ _ a iF m gK lG=>
   obtain rfl:=aDk.1 ar;exact .go z a 0
  | g4 _ _ _ _ _ _ cap' a ar ak aA=>
   exfalso;rcases aA with aA | ⟨n,iF,aA,aP⟩
   ·rw[q5] at aA; cases aA
   ·rw[q5] at aA; cases aA; omega
  | av _ _ _ _ _ _ cap' iF m gK hm gk ax ak=>
   rw[q5] at gK; cases gK;have hblk:=rel.blk b m hm;rw[q5] at hblk;obtain⟨bT,dH,arr,t,gL,hw,aD,aL,m5⟩:=hblk;have dv:len<=cap':=by rcases ak with ⟨_,h⟩ | ⟨_,h,_⟩<;>omega
   have oj:R m.r:=rel.up _ (rel.base b m (by rw[q5]; rfl) hm);subst ar;have q6:∀ i j,i<es.length->j<z->∃ c v,cs[off+(i*z+j)]? = some c/\arr[m.s+(off+(i*z+j))]? = some v/\v.oneCell'=true/\aZ w R (cj l) μ c v:=by
    intro i j aB am;have aP:off+(i*z+j)<cs.length:=by
     have:i*z+z<=es.length*z:=by rw[<-aDj]; exact aCN _ aB
     omega
    obtain⟨v,h1,ag,aq⟩:=m5 _ _ (aCM aP);exact⟨_,v,aCM aP,h1,ag,aq⟩
   refine .cr z es m.r (m.s+off) cap' (fun i j=>(arr[m.s+(off+(i*z+j))]?).getD undef) dv az (fun i j aB am=>?_) (fun i e au j c' am=>?_)
   ·obtain⟨c,v,h1,ag,aq,aH⟩:=q6 i j aB am;refine⟨?_,?_,oj,fun ⟨b,m,h1,ag,aq⟩=>by cases ag⟩
    ·simp only[World.cell?,hw,ag,aDA,aEA];rw[show m.s+off+(i*z+j)=m.s+(off+(i*z+j)) by omega,ag]; rfl
    ·rw[ag]; exact aq
   ·have aB:i<es.length:=(aCJ.1 au).1;have p8:j<z:=by rw[<-az e (aCP au)]; exact (aCJ.1 am).1
    obtain⟨c,v,h1,ag,aq,aH⟩:=q6 i j aB p8;simp only[ag,aDA];exact aY i j e c c' au am h1 aH
theorem bS (nN:P.follows .mixedOrders=true) (lY:∀ g,(G g).closed=true) {f:FuncId} {args:List ad} {r:ad} (h:dS P G f args [] (c:=⟨fun wk l=>Rd l wk r⟩)) :bE P G f args r:=by
 obtain⟨wk,l',h1,ag,aq⟩:=h;intro w A vs aA ar ay;refine (M4 (A:=A) nN lY h1 aA ar ay).mono ?_;rintro e w' ⟨v,μ',rfl,ai,rel,aC⟩;exact⟨v,rfl,ai,atz rel aq aC⟩
theorem a8 {f:FuncId} {args:List ad} {r:ad} {l:aw} {K:ad->aw->Prop} (aF:bE P G f args r) (ak:a7 args=true) (h:K r l) :dS P G f args l (c:=⟨K⟩) :=
 ⟨r,l,.pure aF ak,aCL _,h⟩
theorem aog (nN:P.follows .mixedOrders=true) (lY:∀ g,(G g).closed=true) {f:FuncId} {args:List ad} (h:dS P G f args [] (c:=⟨fun r _=>r=.bool true⟩))
  {w:World} {A:Nat->Prop} {vs:Array Value} (aA:∀ g,gc w A (G g) (.pointer (some ⟨g,0,none⟩))) (ar:vs.size=args.length)
  (ay:∀ (j:Nat) (c:ad) (v:Value),args[j]? = some c->vs[j]? = some v->gc w A c v) :
  Calls P f vs w fun e w'=>e=.returned (.bool true)/\RowKit.Below w.heap.size w w':=by
 obtain⟨wk,l',h1,ag,rfl⟩:=h;exact au9 nN lY h1 aA ar ay
end

section
variable {P:Program}
inductive ec (P:Program) :List TypeId->List ad->Prop
 | nil:ec P [] []
 | bool {t:TypeId} {b:Bool} {ts:List TypeId} {cs:List ad} (aS:P.underlying t=some .bool) (h:ec P ts cs) :ec P (t::ts) (.bool b::cs)
 | int {t:TypeId} {k:IntKind} {n:Int} {ts:List TypeId} {cs:List ad} (aS:P.underlying t=some (.int k)) (h1:k.min<=n) (ag:n<=k.max) (h:ec P ts cs) :ec P (t::ts) (.int k n::cs)
 | str {t:TypeId} {s:List UInt8} {ts:List TypeId} {cs:List ad} (aS:P.underlying t=some .string) (ap:s.length<=maxLen) (h:ec P ts cs) :ec P (t::ts) (.str s::cs)
 | aK {t e:TypeId} {ts:List TypeId} {cs:List ad} (aS:P.underlying t=some (.slice e)) (h:ec P ts cs) :ec P (t::ts) (.aK::cs)
 | av {t e:TypeId} {es:List (List ad)} {ts:List TypeId} {cs:List ad} (aS:P.underlying t=some (.slice e)) (ar:es.length<=maxLen) (az:∀ r∈es,r.length=P.cellsOf e) (au:∀ r∈es,ec P [e] r) (h:ec P ts cs) :ec P (t::ts) (.cr (P.cellsOf e) es::cs)
 | struct {t:TypeId} {fs:Array Field} {ts:List TypeId} {cs:List ad} (aS:P.underlying t=some (.struct fs)) (h:ec P (fs.toList.map (·.type)++ts) cs) :ec P (t::ts) cs
 | array {t e:TypeId} {n:Nat} {ts:List TypeId} {cs:List ad} (aS:P.underlying t=some (.array n e)) (h:ec P (List.replicate n e++ts) cs) :ec P (t::ts) cs
def vi (P:Program) :List Field->Nat->Option Nat
 | [],o=>some o
 | f::r,o=>if f.offset=o then vi P r (o+P.cellsOf f.type) else none
def uA (P:Program) :Nat->TypeId->Bool
 | 0,_=>false
 | d+1,t=>match P.underlying t with
  | some .bool | some (.int _) | some .string=>true
  | some (.slice e)=>decide (0<P.cellsOf e)&&uA P d e
  | some (.struct fs)=>decide (vi P fs.toList 0=some (P.cellsOf t))&&fs.toList.all fun f=>uA P d f.type
  | some (.array n e)=>decide (n*P.cellsOf e=P.cellsOf t)&&uA P d e
  | _=>false
structure pK (P:Program) (w:World) (A:Nat->Prop) (ts:List TypeId) (vs:List Value) (cs:List ad) :Prop where
 len:cs.length=vs.length
 ty:∀ qI cs',ec P qI cs'->ec P (ts++qI) (cs++cs')
 qK:∀ (j:Nat) (c:ad) (v:Value),cs[j]? = some c->vs[j]? = some v->gc w A c v/\v.oneCell'=true
theorem pK.nil {w:World} {A:Nat->Prop}:pK P w A [] [] [] :=⟨rfl,fun _ _ h=>h,fun j c v h=>by simp at h⟩
theorem pK.app {w:World} {A:Nat->Prop} {ts qI:List TypeId} {vs HD:List Value} {cs cs' : List ad} (a:pK P w A ts vs cs) (b:pK P w A qI HD cs') :pK P w A (ts++qI) (vs++HD) (cs++cs') :=by
 refine⟨by simp[a.len,b.len],fun aCn axW h=>by rw[aDa,aDa]; exact a.ty _ _ (b.ty _ _ h),fun j c v ak ay=>?_⟩;by_cases h:j<cs.length
 ·rw[aCK h] at ak;rw[aCK (by rw[<-a.len]; exact h)] at ay;exact a.qK j c v ak ay
 ·rw[aCT (by omega)] at ak;rw[aCT (by rw[<-a.len]; omega)] at ay;rw[<-a.len] at ay;exact b.qK _ c v ak ay
theorem GH {α kr:Type} {f:α->Option kr}:∀ {l:List α} {r:List kr},l.mapM f=some r->∀ (p:Nat) (a:α),l[p]? = some a->∃ x,r[p]? = some x/\f a=some x
 | [],r,h,p,a,aD=>by simp at aD
 | a0::l,r,h,p,a,aD=>by
  rw[aEr] at h;simp only[Option.bind_eq_bind,bind_some,aEE,Option.some.injEq] at h;obtain⟨b,h1,dU,ag,rfl⟩:=h;cases p with
  | zero=>simp only[aDd,Option.some.injEq] at aD; subst aD; exact⟨b,rfl,h1⟩
  | succ p=>obtain⟨x,aq,aH⟩:=GH ag p a (by simpa using aD); exact⟨x,by simpa using aq,aH⟩
theorem Dt {w:World} {A:Nat->Prop} {c:ad} {v:Value} (h:gc w A c v) (h1:v.oneCell'=true) :∀ (j:Nat) (c' : ad) (bl:Value),[c][j]? = some c'->[v][j]? = some bl->gc w A c' bl/\bl.oneCell'=true:=by
 intro j c' bl ak ay;cases j with
 | zero=>simp only[aDd,Option.some.injEq] at ak ay; subst ak ay; exact⟨h,h1⟩
 | succ j=>simp at ak
theorem avb {H:Type} {enc:TypeId × Value->H} {w:World} {base:Nat} {spare:Nat->Bool} {held:Bool} {fuel:Nat} {t:TypeId} {vs:List Value} {x:DataW H × List MemPlace}
  (aS:P.underlying t=some .bool) (h:DataW.trod enc P w base spare held (fuel+1) t vs=some x) :∃ b,vs=[.bool b] :=by
 unfold DataW.trod at h;rw[aS] at h;split at h
 case h_1 b _=>exact⟨b,rfl⟩
 all_goals first | (cases h; done) | (rename_i heq; cases heq; done) | (rename_i heq _; cases heq; done) | (rename_i heq _ _; cases heq; done) | (rename_i heq _ _ _; cases heq; done) | (simp_all; done)
theorem trod_int {H:Type} {enc:TypeId × Value->H} {w:World} {base:Nat} {spare:Nat->Bool} {held:Bool} {fuel:Nat} {t:TypeId} {k:IntKind} {vs:List Value} {x:DataW H × List MemPlace}
  (aS:P.underlying t=some (.int k)) (h:DataW.trod enc P w base spare held (fuel+1) t vs=some x) :∃ n,vs=[.int k n]/\k.min<=n/\n<=k.max:=by
 unfold DataW.trod at h;rw[aS] at h;split at h<;>simp only[reduceCtorEq,Option.some.injEq,TypeDesc.int.injEq] at *<;>try (exfalso; simp_all; done)
 rename_i hh k' n heq;subst heq;split at h
 ·rename_i ak;obtain⟨rfl,hw⟩:=ak;simp only[Lit.wf,aCQ,decide_eq_true_eq] at hw;exact⟨n,rfl,hw.1,hw.2⟩
 ·cases h
theorem avd {H:Type} {enc:TypeId × Value->H} {w:World} {base:Nat} {spare:Nat->Bool} {held:Bool} {fuel:Nat} {t:TypeId} {vs:List Value} {x:DataW H × List MemPlace}
  (aS:P.underlying t=some .string) (h:DataW.trod enc P w base spare held (fuel+1) t vs=some x) :∃ s,vs=[.string s]/\s.size<=maxLen:=by
 unfold DataW.trod at h;rw[aS] at h;split at h<;>simp only[reduceCtorEq,Option.some.injEq] at *<;>try (exfalso; simp_all; done)
 split at h
 ·rename_i s _ ap; exact⟨s,rfl,ap⟩
 ·cases h
theorem avc {H:Type} {enc:TypeId × Value->H} {w:World} {base:Nat} {spare:Nat->Bool} {held:Bool} {fuel:Nat} {t e:TypeId} {vs:List Value} {x:DataW H × List MemPlace}
  (aS:P.underlying t=some (.slice e)) (h:DataW.trod enc P w base spare held (fuel+1) t vs=some x) :
  vs=[.slice none 0 0]\/∃ a len cap,vs=[.slice (some a) len cap]/\len<=cap/\cap<=maxLen/\∃ EM,(List.range len).mapM (fun i=>(w.cells? base (a.add (i*P.cellsOf e)) (P.cellsOf e)).bind (DataW.trod enc P w base spare held fuel e))=some EM:=by
 unfold DataW.trod at h;rw[aS] at h;split at h<;>simp only[reduceCtorEq,Option.some.injEq,TypeDesc.slice.injEq] at *<;>try (exfalso; simp_all; done)
 ·exact .inl trivial
 ·rename_i ih a len cap heq;subst heq;split at h
  ·rename_i ak;rw[bind_some] at h;obtain⟨EM,h1,_⟩:=h;exact .inr ⟨a,len,cap,rfl,ak.2.1,ak.2.2,EM,h1⟩
  ·cases h
theorem ave {H:Type} {enc:TypeId × Value->H} {w:World} {base:Nat} {spare:Nat->Bool} {held:Bool} {fuel:Nat} {t:TypeId} {fs:Array Field} {vs:List Value} {x:DataW H × List MemPlace}
  (aS:P.underlying t=some (.struct fs)) (h:DataW.trod enc P w base spare held (fuel+1) t vs=some x) :
  vs.length=P.cellsOf t/\∃ xs,(fs.toList.mapM fun f=>DataW.trod enc P w base spare held fuel f.type ((vs.drop f.offset).take (P.cellsOf f.type)))=some xs:=by
 unfold DataW.trod at h;rw[aS] at h;split at h<;>simp only[reduceCtorEq,Option.some.injEq,TypeDesc.struct.injEq] at *<;>try (exfalso; simp_all; done)
 rename_i ayi heq;subst heq;split at h
 ·rename_i ak;rw[map_some] at h;obtain⟨xs,h1,_⟩:=h;exact⟨ak,xs,h1⟩
 ·cases h
theorem trod_array {H:Type} {enc:TypeId × Value->H} {w:World} {base:Nat} {spare:Nat->Bool} {held:Bool} {fuel:Nat} {t e:TypeId} {n:Nat} {vs:List Value} {x:DataW H × List MemPlace}
  (aS:P.underlying t=some (.array n e)) (h:DataW.trod enc P w base spare held (fuel+1) t vs=some x) :
  vs.length=P.cellsOf t/\∃ xs,((List.range n).mapM fun i=>DataW.trod enc P w base spare held fuel e ((vs.drop (i*P.cellsOf e)).take (P.cellsOf e)))=some xs:=by
 unfold DataW.trod at h;rw[aS] at h;split at h<;>simp only[reduceCtorEq,Option.some.injEq,TypeDesc.array.injEq] at *<;>try (exfalso; simp_all; done)
 rename_i aBy ih heq;obtain⟨rfl,rfl⟩:=heq;split at h
 ·rename_i ak;rw[map_some] at h;obtain⟨xs,h1,_⟩:=h;exact⟨ak,xs,h1⟩
 ·cases h
theorem aea (a:Addr) (x j:Nat) :a.add (x+j)=(a.add x).add j:=by
 unfold Addr.add;by_cases al:x=0
 ·subst al; simp
 ·by_cases am:j=0
  ·subst am; simp
  ·rw[if_neg (by omega),if_neg al,if_neg am];simp only[aEm]
theorem add_plain (b o n:Nat) :(Addr.mk b o none).add n=⟨b,o+n,none⟩:=by
 unfold Addr.add;by_cases aI:n=0
 ·subst aI; simp
 ·rw[if_neg aI]
theorem acV {H:Type} {enc:TypeId × Value->H} {w:World} {A:Nat->Prop} (c9:∀ k,A k) {base:Nat} {spare:Nat->Bool} {held:Bool}:∀ (fuel:Nat) (D:Nat) (t:TypeId) (vs:List Value) (d:DataW H) (di:List MemPlace),
  uA P D t=true->DataW.trod enc P w base spare held fuel t vs=some (d,di)->∃ cs,pK P w A [t] vs cs
 | 0,_,_,_,_,_,_,h=>by simp[DataW.trod] at h
 | fuel+1,0,t,vs,d,di,aF,h=>by cases aF
 | fuel+1,D+1,t,vs,d,di,aF,h=>by
  have aY:=fun t vs d di aF h=>acV c9 (enc:=enc) (w:=w) (base:=base) (spare:=spare) (held:=held) fuel D t vs d di aF h
  unfold uA at aF;split at aF
  ·rename_i aS;obtain⟨b,rfl⟩:=avb aS h;exact⟨[.bool b],⟨rfl,fun qI cs' h=>.bool aS h,Dt (.bool b) rfl⟩⟩
  ·rename_i k aS;obtain⟨n,rfl,h1,ag⟩:=trod_int aS h;exact⟨[.int k n],⟨rfl,fun qI cs' h=>.int aS h1 ag h,Dt (.int k n) rfl⟩⟩
  ·rename_i aS;obtain⟨s,rfl,h1⟩:=avd aS h;exact⟨[.str s.data.toList],⟨rfl,fun qI cs' h=>.str aS (show s.data.toList.length<=maxLen from h1) h,Dt (.str s) rfl⟩⟩
  ·rename_i e aS;simp only[aCQ,decide_eq_true_eq] at aF;rcases avc aS h with rfl | ⟨a,len,cap,rfl,pb,hs,EM,au⟩
   ·exact⟨[.aK],⟨rfl,fun qI cs' h=>.aK aS h,Dt .aK rfl⟩⟩
   ·have cW:∀ i,i<len->∃ eT row,w.cells? base (a.add (i*P.cellsOf e)) (P.cellsOf e)=some eT/\pK P w A [e] eT row:=fun i aB=>by
     obtain⟨x,_,al⟩:=GH au i i (by rw[aDN aB]);rw[bind_some] at al;obtain⟨eT,h1,ag⟩:=al;obtain⟨row,aq⟩:=aY e eT x.1 x.2 aF.2 ag;exact⟨eT,row,h1,aq⟩
    have q7:∃ (eT:Nat->List Value) (rows:Nat->List ad),∀ i,i<len->w.cells? base (a.add (i*P.cellsOf e)) (P.cellsOf e)=some (eT i)/\pK P w A [e] (eT i) (rows i) :=by
     refine⟨fun i=>if aB:i<len then (cW i aB).choose else [],fun i=>if aB:i<len then (cW i aB).choose_spec.choose else [],fun i aB=>?_⟩;simp only[dif_pos aB];exact (cW i aB).choose_spec.choose_spec
    obtain⟨eT,rows,ay⟩:=q7;have jV:∀ i,i<len->(eT i).length=P.cellsOf e/\∀ j,j<P.cellsOf e->∃ v,(eT i)[j]? = some v/\w.cell? (a.add (i*P.cellsOf e+j))=some v:=fun i aB=>by
     have h1:=(ay i aB).1;unfold World.cells? at h1;split at h1
     ·refine⟨by rw[LI h1]; simp,fun j am=>?_⟩;obtain⟨v,ag,aq⟩:=GH h1 j j (by rw[aDN am]);refine⟨v,ag,?_⟩;rw[<-aq,aea]
     ·cases h1
    let es:=(List.range len).map rows
    have lC:∀ (i:Nat) (r:List ad),es[i]? = some r->i<len/\r=rows i:=fun i r aC=>by
     simp only[es,aCO] at aC;by_cases aB:i<len
     ·rw[aDN aB] at aC; simp only[aCR,Option.some.injEq] at aC; exact⟨aB,aC.symm⟩
     ·rw[aC0 (by simp; omega)] at aC; cases aC
    have bu:es.length=len:=by simp[es]
    have az:∀ r∈es,r.length=P.cellsOf e:=fun r aC=>by
     obtain⟨i,aB⟩:=aEG aC;obtain⟨h1,rfl⟩:=lC i r aB;rw[(ay i h1).2.len,(jV i h1).1]
    have Ac:∀ r∈es,ec P [e] r:=fun r aC=>by
     obtain⟨i,aB⟩:=aEG aC;obtain⟨h1,rfl⟩:=lC i r aB;have:=(ay i h1).2.ty [] [] .nil;simpa using this
    refine⟨[.cr (P.cellsOf e) es],⟨rfl,fun qI cs' h=>.av aS (by omega) az Ac h,Dt ?_ rfl⟩⟩;by_cases aG:len=0
    ·subst aG;exact .go _ _ _
    ·obtain⟨v0,_,iZ⟩:=(jV 0 (by omega)).2 0 aF.1;have Va:a.spot=none:=by
      unfold World.cell? at iZ;split at iZ
      ·split at iZ
       ·cases iZ
       ·rename_i ap;rw[show 0*P.cellsOf e+0=0 by omega] at ap;simp only[Addr.add,if_true] at ap;cases hx:a.spot with
        | none=>rfl
        | some x=>rw[hx] at ap; simp at ap
      ·cases iZ
     obtain⟨blk,off,spot⟩:=a;simp only at Va;subst Va;have key:=aZ.cr (w:=w) (R:=A) (h:=bh.empty) (μ:=fun _=>none) (P.cellsOf e) es blk off cap (fun i j=>((eT i)[j]?).getD undef) (by omega) az
      (fun i j aB am=>by
       rw[bu] at aB;obtain⟨v,h1,ag⟩:=(jV i aB).2 j am;obtain⟨c,ak⟩:∃ c,(rows i)[j]? = some c:=by
        have:j<(rows i).length:=by rw[(ay i aB).2.len,(jV i aB).1]; exact am
        exact⟨_,aCM this⟩
       refine⟨?_,?_,c9 _,fun ⟨b,m,h1,ag,aq⟩=>by cases ag⟩
       ·rw[h1,aDA,<-add_plain]; exact ag
       ·rw[h1,aDA]; exact ((ay i aB).2.qK j c v ak h1).2)
      (fun i r aC j c ak=>by
       obtain⟨aB,rfl⟩:=lC i r aC;have am:j<P.cellsOf e:=by rw[<-(jV i aB).1,<-(ay i aB).2.len]; exact (aCJ.1 ak).1
       obtain⟨v,h1,ag⟩:=(jV i aB).2 j am;rw[h1,aDA];exact ((ay i aB).2.qK j c v ak h1).1)
     rw[bu] at key;exact key
  ·rename_i fs aS;simp only[aCQ,decide_eq_true_eq,aDO] at aF;obtain⟨bu,xs,al⟩:=ave aS h;have BZ:∀ (fs:List Field) (o:Nat) (xs:List (DataW H × List MemPlace)),vi P fs o=some vs.length->o<=vs.length->(∀ f∈fs,uA P D f.type=true)->
     (fs.mapM fun f=>DataW.trod enc P w base spare held fuel f.type ((vs.drop f.offset).take (P.cellsOf f.type)))=some xs->∃ cs,pK P w A (fs.map (·.type)) (vs.drop o) cs:=by
    intro fs
    induction fs with
    | nil=>intro o xs ak ax _ _; simp only[vi,Option.some.injEq] at ak; rw[ak,aFS]; exact⟨[],.nil⟩
    | cons f fs anc=>
     intro o xs ak ax hu hm;simp only[vi] at ak;split at ak
     ·rename_i rb;rw[aEr] at hm;simp only[Option.bind_eq_bind,bind_some,aEE,Option.some.injEq] at hm;obtain⟨x,h1,aww,ag,_⟩:=hm;have al6:∀ (fs:List Field) (o n:Nat),vi P fs o=some n->o<=n:=by
       intro fs
       induction fs with
       | nil=>intro o n h; simp only[vi,Option.some.injEq] at h; omega
       | cons g gs ane=>
        intro o n h;simp only[vi] at h;split at h
        ·have:=ane _ _ h; omega
        ·cases h
      have eD:=al6 _ _ _ ak;obtain⟨cT,cb⟩:=aY f.type _ x.1 x.2 (hu f (by simp)) h1;obtain⟨dF,w2⟩:=anc _ aww ak eD (fun g aA=>hu g (by simp[aA])) ag;refine⟨cT++dF,?_⟩;have:=cb.app w2;rw[rb,show List.drop (o+P.cellsOf f.type) vs=List.drop (P.cellsOf f.type) (List.drop o vs) by rw[aFe],aDt] at this;exact this
     ·cases ak
   obtain⟨cs,hw⟩:=BZ fs.toList 0 xs (by rw[bu]; exact aF.1) (aD5 _) aF.2 al;rw[aDH] at hw;exact⟨cs,⟨hw.len,fun qI cs' h=>.struct aS (hw.ty _ _ h),hw.qK⟩⟩
  ·rename_i n e aS;simp only[aCQ,decide_eq_true_eq] at aF;obtain⟨bu,xs,al⟩:=trod_array aS h;have amr:∀ i,i<n->∃ c,pK P w A [e] ((vs.drop (i*P.cellsOf e)).take (P.cellsOf e)) c:=fun i aB=>by
    obtain⟨x,_,h1⟩:=GH al i i (by rw[aDN aB]);exact aY e _ x.1 x.2 aF.2 h1
   have BZ:∀ m,m<=n->∃ cs,pK P w A (List.replicate m e) (vs.drop ((n - m)*P.cellsOf e)) cs:=by
    intro m
    induction m with
    | zero=>intro _; rw[aFt,aDB (by omega)]; exact⟨[],.nil⟩
    | succ m KY=>
     intro hm;obtain⟨cT,cb⟩:=amr (n - (m+1)) (by omega);obtain⟨dF,w2⟩:=KY (by omega);refine⟨cT++dF,?_⟩;have:=cb.app w2;have vB:(n - m)*P.cellsOf e=(n - (m+1))*P.cellsOf e+P.cellsOf e:=by rw[<-aDj]; congr 1; omega
     rw[vB,<-aFe,aDt] at this;exact this
   obtain⟨cs,hw⟩:=BZ n (aCL _);rw[aEX,aEV,aDH] at hw;exact⟨cs,⟨hw.len,fun qI cs' h=>.array aS (hw.ty _ _ h),hw.qK⟩⟩
  ·cases aF
def tl (P:Program) (t:TypeId) (c:ad) :Prop:=match e8 P t with
 | some true=>∃ cs,c=.aM cs/\ec P [t] cs
 | _=>ec P [t] [c]
inductive kO (P:Program) :List TypeId->List ad->Prop
 | nil:kO P [] []
 | cons {t:TypeId} {c:ad} {ts:List TypeId} {cs:List ad}:tl P t c->kO P ts cs->kO P (t::ts) (c::cs)
theorem Oa {H:Type} {enc:TypeId × Value->H} {w:World} {A:Nat->Prop} (c9:∀ k,A k) {base hL:Nat} {spare:Nat->Bool} {held:Bool} {D:Nat}:∀ {ts:List TypeId} {vs:List Value} {iH:List (DataW H)} {di:List MemPlace},
  (∀ t∈ts,uA P D t=true)->(∀ (j:Nat) t v,ts[j]? = some t->vs[j]? = some v->Value.okWide P w .any hL t v)->DataW.TrodAll enc P w base spare held ts vs iH di->
  ∃ cs,kO P ts cs/\cs.length=vs.length/\∀ (j:Nat) (c:ad) (v:Value),cs[j]? = some c->vs[j]? = some v->gc w A c v
 | [],[],_,_,_,_,_=>⟨[],.nil,rfl,fun j c v h=>by simp at h⟩
 | [],_::_,iH,_,_,_,h=>by cases iH<;>cases h
 | _::_,[],iH,_,_,_,h=>by cases iH<;>cases h
 | _::_,_::_,[],_,_,_,h=>by cases h
 | t::ts,v::vs,d::iH,di,aF,fa,h=>by
  obtain⟨p,q,⟨fuel,aQ⟩,aC,_⟩:=h;obtain⟨cs,h1,ag,aq⟩:=Oa c9 (fun t aQ=>aF t (by simp[aQ])) (fun j t v aQ ay=>fa (j+1) t v (by simpa using aQ) (by simpa using ay)) aC;obtain⟨cT,cb⟩:=acV c9 fuel D t v.cells.toList d p (aF t (by simp)) aQ;have Ac:ec P [t] cT:=by simpa using cb.ty [] [] .nil
  have ay:=fa 0 t v rfl rfl;have fin:∀ c,tl P t c->gc w A c v->∃ cs,kO P (t::ts) cs/\cs.length=(v::vs).length/\∀ (j:Nat) (c:ad) (bl:Value),cs[j]? = some c->(v::vs)[j]? = some bl->gc w A c bl:=fun c ak kY=>
   ⟨c::cs,.cons ak h1,by simp[ag],fun j c' bl am fX=>by
    cases j with
    | zero=>simp only[aDd,Option.some.injEq] at am fX; subst am fX; exact kY
    | succ j=>exact aq j c' bl (by simpa using am) (by simpa using fX)⟩
  unfold Value.okWide at ay;have agg:e8 P t=(P.underlying t).map fun d=>match d with | .struct _ | .array _ _=>true | _=>false:=rfl
  cases aS:P.underlying t with
  | none=>
   exfalso;have:=aF t (by simp);cases D with
   | zero=>cases this
   | succ D=>unfold uA at this; rw[aS] at this; cases this
  | some Sj=>
   rw[aS] at ay agg;have anI:(∃ cs,v=.agg cs)->e8 P t=some true->∃ cs,kO P (t::ts) cs/\cs.length=(v::vs).length/\∀ (j:Nat) (c:ad) (bl:Value),cs[j]? = some c->(v::vs)[j]? = some bl->gc w A c bl:=by
    rintro⟨xs,rfl⟩ o1;refine fin (.aM cT) (by unfold tl; rw[o1]; exact⟨cT,rfl,Ac⟩) (.aM cT xs (by have:=cb.len; simp only[Value.cells,aEK] at this; exact this.symm) (fun j x al=>?_) (fun j c x ak al=>?_))
    ·have aP:j<cT.length:=by rw[cb.len]; simp only[Value.cells,aEK]; exact (aDn.1 al).1
     exact (cb.qK j cT[j] x (aCM aP) (by simpa [Value.cells] using al)).2
    ·exact (cb.qK j c x ak (by simpa [Value.cells] using al)).1
   have anJ:(∀ xs,v≠.agg xs)->e8 P t=some false->∃ cs,kO P (t::ts) cs/\cs.length=(v::vs).length/\∀ (j:Nat) (c:ad) (bl:Value),cs[j]? = some c->(v::vs)[j]? = some bl->gc w A c bl:=by
    intro b2 o1;have jV:v.cells.toList=[v] :=by cases v<;>first | rfl | exact absurd rfl (b2 _)
    have ar:=cb.len;rw[jV] at ar;obtain⟨c,rfl⟩:∃ c,cT=[c] :=List.length_eq_one_iff.1 ar;refine fin c (by unfold tl; rw[o1]; exact Ac) (cb.qK 0 c v rfl (by rw[jV]; rfl)).1
   have aoU:Cell.okWide P w .any hL t v->∀ xs,v≠.agg xs:=by
    rintro ak xs rfl;unfold Cell.okWide at ak;rw[aS] at ak;cases Sj<;>simp[Cell.ok,aS] at ak
   cases Sj<;>simp only[aCR] at agg<;>first
    | exact anI (by obtain⟨cs,h,_⟩:=ay; exact⟨cs,h⟩) agg
    | exact anJ (aoU ay) agg
end
abbrev dX (α:Type) :=Option (List α)
def dX.l {α:Type} (s:dX α) :List α:=s.getD []
@[simp] theorem dX.aAF {α:Type}:dX.l (none:dX α)=[] :=rfl
@[simp] theorem dX.Gt {α:Type} (l:List α) :dX.l (some l)=l:=rfl
def c0 {α:Type} (z:Nat) (enc:α->List ad) :dX α->ad
 | none=>.aK
 | some l=>.cr z (l.map enc)
section
variable {α:Type} {z:Nat} {enc:α->List ad}
@[simp] theorem rr (s:dX α) :c1 (.av z) (c0 z enc s)=some (.int .i64 s.l.length) :=by cases s<;>simp[c0,dX.l]
@[simp] theorem sI (s:dX α) (k:IntKind) (i:Int) :cC (.av z) (c0 z enc s) (.int k i)=if 0<=i then (s.l[i.toNat]?).map fun x=>.cm (enc x) 0 else none:=by
 cases s with
 | none=>by_cases h:0<=i<;>simp[c0,dX.l,cC,h]
 | some l=>by_cases h:0<=i<;>simp[c0,dX.l,h,Function.comp_def]
@[simp] theorem axu (s:dX α) :(c0 z enc s).cells=some [c0 z enc s] :=by cases s<;>rfl
theorem ve (h:∀ x,a7 (enc x)=true) (s:dX α) :(c0 z enc s).closed=true:=by
 cases s with
 | none=>rfl
 | some l=>
  simp only[c0,ad.closed]
  induction l with
  | nil=>rfl
  | cons x l aY=>simp only[aDc,Bx,h,aY,aEn]
end
theorem wrap_i64 {n:Int} (h1:-9223372036854775808<=n) (ag:n<9223372036854775808) :IntKind.i64.wrap n=n:=by
 have a2:(2 ^ IntKind.i64.bits:Int)=18446744073709551616:=by decide
 have b7:(2 ^ (IntKind.i64.bits - 1) :Int)=9223372036854775808:=by decide
 have dG:IntKind.i64.signed=true:=rfl;simp only[IntKind.wrap,a2,b7,dG,aDL,decide_eq_true_eq];split<;>omega
theorem bV {α:Type} {l:List α} {k:Nat} (h:k<l.length) :∃ x,l[k]? = some x/\x∈l:=⟨l[k],aCM h,aFT h⟩
section
variable {P:Program} {G:Nat->ad}
theorem Es {t e:TypeId} (aS:P.underlying t=some (.slice e)) {α:Type} (z:Nat) (enc:α->List ad) (s:dX α) :gu P .eql t (c0 z enc s) .aK=some (.bool s.isNone) :=by
 cases s<;>simp[c0,gu,xc,fk,aS]
theorem ai9 {e:TypeId} {k:IntKind} (aS:P.underlying e=some (.int k)) (aD:e8 P e=some false) {D:Nat} (x y:List Int) :∀ (n i:Nat),i+n=x.length->i+n=y.length->
  fk.sd P (fk P (D+1)) e 1 (x.map (.int k)) (y.map (.int k)) n i=some (decide (x.drop i=y.drop i)) :=by
 intro n
 induction n with
 | zero=>intro i al aE; rw[aDB (by omega),aDB (by omega)]; simp[fk.sd]
 | succ n aY=>
  intro i al aE;have i0:x[i]? = some x[i] :=aCM (by omega);have Gg:y[i]? = some y[i] :=aCM (by omega);unfold fk.sd;simp only[L1 aD,aEk,aCO,i0,Gg,aCR];have au:fk P (D+1) e (.int k x[i]) (.int k y[i])=some (decide (x[i]=y[i])) :=by
   unfold fk;rw[aS];simp only[if_true];by_cases h:x[i]=y[i]<;>simp[h]
  rw[au];have T2:x.drop i=x[i] ::x.drop (i+1) :=aDy (by omega);have T3:y.drop i=y[i] ::y.drop (i+1) :=aDy (by omega);by_cases h:x[i]=y[i]
  ·simp only[h,decide_true];rw[aY (i+1) (by omega) (by omega)];refine congrArg some (decide_eq_decide.2 ?_);rw[T2,T3,h];simp only[List.cons.injEq,true_and]
  ·simp only[h,decide_false];refine congrArg some (decide_eq_false ?_).symm;rw[T2,T3];simp only[List.cons.injEq,h,false_and,not_false_eq_true]
theorem aji {t e:TypeId} {k:IntKind} {n:Nat} (aQ:P.underlying t=some (.array n e)) (aS:P.underlying e=some (.int k)) (aD:e8 P e=some false) (ap:c5 P e=some 1) {x y:List Int} (al:x.length=n) (aE:y.length=n) {D:Nat} :
  fk P (D+2) t (.aM (x.map (.int k))) (.aM (y.map (.int k)))=some (decide (x=y)) :=by
 unfold fk;rw[aQ];simp only[ap];rw[ai9 aS aD x y n 0 (by omega) (by omega)];simp
theorem EX {z:Nat} {es:List (List ad)} (az:∀ e∈es,e.length=z) :es.flatten.length=es.length*z:=by
 induction es with
 | nil=>simp
 | cons e es aY=>rw[aDM,aCS,az e (by simp),aY fun e au=>az e (by simp[au]),aC6,aDj,aFQ]
theorem EW {z:Nat} {es:List (List ad)} (az:∀ e∈es,e.length=z) {i j:Nat} {e:List ad} (au:es[i]? = some e) (am:j<z) :es.flatten[i*z+j]? = e[j]?:=by
 induction es generalizing i with
 | nil=>simp at au
 | cons x es aY=>
  have al:x.length=z:=az x (by simp);cases i with
  | zero=>
   simp only[aDd,Option.some.injEq] at au;subst au;rw[aDM,aEV,aDT,aCK (by omega)]
  | succ i=>
   simp only[aDz] at au;rw[aDM,aCT (by rw[al,aDj]; omega),al,show (i+1)*z+j - z=i*z+j by rw[aDj]; omega];exact aY (fun e au=>az e (by simp[au])) au
theorem eE {ah:bB} {i:Nat} {v:ad} (h:ah i=v) :ck ah i v=ah:=by
 funext t; simp only[ck]; split<;>simp_all
theorem lS {ah:bB} {dO:Nat} {ft:ad} {fF:Nat} {ei:ad} (h1:ah dO=ft) (ag:ah fF=ei) :∃ s:bB,ah=ck (ck (s) dO ft) fF ei:=⟨ah,by rw[eE h1,eE ag]⟩
theorem jJ {ah:bB} {dO:Nat} {ft:ad} {fF:Nat} {ei:ad} {jg:Nat} {v3:ad} (h1:ah dO=ft) (ag:ah fF=ei) (aq:ah jg=v3) :∃ s:bB,ah=ck (ck (ck (s) dO ft) fF ei) jg v3:=⟨ah,by rw[eE h1,eE ag,eE aq]⟩
theorem hW {ah:bB} {dO:Nat} {ft:ad} {fF:Nat} {ei:ad} {jg:Nat} {v3:ad} {k5:Nat} {v4:ad} (h1:ah dO=ft) (ag:ah fF=ei) (aq:ah jg=v3) (aH:ah k5=v4) :∃ s:bB,ah=ck (ck (ck (ck (s) dO ft) fF ei) jg v3) k5 v4:=⟨ah,by rw[eE h1,eE ag,eE aq,eE aH]⟩
theorem mR {ah:bB} {dO:Nat} {ft:ad} {fF:Nat} {ei:ad} {jg:Nat} {v3:ad} {k5:Nat} {v4:ad} {mF:Nat} {v5:ad} (h1:ah dO=ft) (ag:ah fF=ei) (aq:ah jg=v3) (aH:ah k5=v4) (bd:ah mF=v5) :∃ s:bB,ah=ck (ck (ck (ck (ck (s) dO ft) fF ei) jg v3) k5 v4) mF v5:=⟨ah,by rw[eE h1,eE ag,eE aq,eE aH,eE bd]⟩
theorem A8 {ah:bB} {dO:Nat} {ft:ad} {fF:Nat} {ei:ad} {jg:Nat} {v3:ad} {k5:Nat} {v4:ad} {mF:Nat} {v5:ad} {oB:Nat} {eA:ad} (h1:ah dO=ft) (ag:ah fF=ei) (aq:ah jg=v3) (aH:ah k5=v4) (bd:ah mF=v5) (bM:ah oB=eA) :∃ s:bB,ah=ck (ck (ck (ck (ck (ck (s) dO ft) fF ei) jg v3) k5 v4) mF v5) oB eA:=⟨ah,by rw[eE h1,eE ag,eE aq,eE aH,eE bd,eE bM]⟩
theorem ac2 {ah:bB} {dO:Nat} {ft:ad} {fF:Nat} {ei:ad} {jg:Nat} {v3:ad} {k5:Nat} {v4:ad} {mF:Nat} {v5:ad} {oB:Nat} {eA:ad} {k6:Nat} {rN:ad} (h1:ah dO=ft) (ag:ah fF=ei) (aq:ah jg=v3) (aH:ah k5=v4) (bd:ah mF=v5) (bM:ah oB=eA) (dq:ah k6=rN) :∃ s:bB,ah=ck (ck (ck (ck (ck (ck (ck (s) dO ft) fF ei) jg v3) k5 v4) mF v5) oB eA) k6 rN:=⟨ah,by rw[eE h1,eE ag,eE aq,eE aH,eE bd,eE bM,eE dq]⟩
theorem avA {ah:bB} {dO:Nat} {ft:ad} {fF:Nat} {ei:ad} {jg:Nat} {v3:ad} {k5:Nat} {v4:ad} {mF:Nat} {v5:ad} {oB:Nat} {eA:ad} {k6:Nat} {rN:ad} {vT:Nat} {mS:ad} (h1:ah dO=ft) (ag:ah fF=ei) (aq:ah jg=v3) (aH:ah k5=v4) (bd:ah mF=v5) (bM:ah oB=eA) (dq:ah k6=rN) (fl:ah vT=mS) :∃ s:bB,ah=ck (ck (ck (ck (ck (ck (ck (ck (s) dO ft) fF ei) jg v3) k5 v4) mF v5) oB eA) k6 rN) vT mS:=⟨ah,by rw[eE h1,eE ag,eE aq,eE aH,eE bd,eE bM,eE dq,eE fl]⟩
theorem avy {ah:bB} {dO:Nat} {ft:ad} {fF:Nat} {ei:ad} {jg:Nat} {v3:ad} {k5:Nat} {v4:ad} {mF:Nat} {v5:ad} {oB:Nat} {eA:ad} {k6:Nat} {rN:ad} {vT:Nat} {mS:ad} {C8:Nat} {v9:ad} {C6:Nat} {D8:ad} {C7:Nat} {D9:ad} (h1:ah dO=ft) (ag:ah fF=ei) (aq:ah jg=v3) (aH:ah k5=v4) (bd:ah mF=v5) (bM:ah oB=eA) (dq:ah k6=rN) (fl:ah vT=mS) (fC:ah C8=v9) (mr:ah C6=D8) (xl:ah C7=D9) :∃ s:bB,ah=ck (ck (ck (ck (ck (ck (ck (ck (ck (ck (ck (s) dO ft) fF ei) jg v3) k5 v4) mF v5) oB eA) k6 rN) vT mS) C8 v9) C6 D8) C7 D9:=⟨ah,by rw[eE h1,eE ag,eE aq,eE aH,eE bd,eE bM,eE dq,eE fl,eE fC,eE mr,eE xl]⟩
theorem avz {ah:bB} {dO:Nat} {ft:ad} {fF:Nat} {ei:ad} {jg:Nat} {v3:ad} {k5:Nat} {v4:ad} {mF:Nat} {v5:ad} {oB:Nat} {eA:ad} {k6:Nat} {rN:ad} {vT:Nat} {mS:ad} {C8:Nat} {v9:ad} {C6:Nat} {D8:ad} {C7:Nat} {D9:ad} {Vs:Nat} {ac3:ad} (h1:ah dO=ft) (ag:ah fF=ei) (aq:ah jg=v3) (aH:ah k5=v4) (bd:ah mF=v5) (bM:ah oB=eA) (dq:ah k6=rN) (fl:ah vT=mS) (fC:ah C8=v9) (mr:ah C6=D8) (xl:ah C7=D9) (Je:ah Vs=ac3) :∃ s:bB,ah=ck (ck (ck (ck (ck (ck (ck (ck (ck (ck (ck (ck (s) dO ft) fF ei) jg v3) k5 v4) mF v5) oB eA) k6 rN) vT mS) C8 v9) C6 D8) C7 D9) Vs ac3:=⟨ah,by rw[eE h1,eE ag,eE aq,eE aH,eE bd,eE bM,eE dq,eE fl,eE fC,eE mr,eE xl,eE Je]⟩
section
variable {α:Type}
@[simp] theorem qX (l:aw) (z:Nat) (enc:α->List ad) (s:dX α) :dL l z (c0 z enc s)=some ((s.l.map enc).flatten,s.l.length) :=by
 cases s<;>simp[c0,dL]
end
theorem fM {cs vs:List ad} (h:vs.length=cs.length) :bO cs 0 vs=vs:=by
 simp only[bO,aD1,aDq,aDT];rw[aDB (by omega),aDl]
theorem Ov (len cap:Nat) (k:IntKind) (i:Int) :hb len cap (some (.int k i)) none none=if 0<=i/\i<=len then some (i.toNat,len,cap) else none:=by
 unfold hb j7;by_cases h:0<=i/\i<=len
 ·simp only[if_pos h]
 ·simp only[if_neg h]
theorem Ik (len cap:Nat) (k:IntKind) (i:Int) :hb len cap none (some (.int k i)) none=if 0<=i/\i<=cap then some (0,i.toNat,cap) else none:=by
 unfold hb j7;by_cases h:0<=i/\i<=cap
 ·simp only[if_pos h]
 ·simp only[if_neg h]
theorem aeL (len cap:Nat) (k k' : IntKind) (i j:Int) :hb len cap (some (.int k i)) (some (.int k' j)) none=if 0<=i/\i<=j/\j<=cap then some (i.toNat,j.toNat,cap) else none:=by
 unfold hb j7;by_cases h:0<=j/\j<=cap
 ·simp only[if_pos h];by_cases ag:0<=i/\i<=((j.toNat:Nat) :Int)
  ·simp only[if_pos ag]; rw[if_pos (by omega)]
  ·simp only[if_neg ag]; rw[if_neg (by omega)]
 ·simp only[if_neg h]; rw[if_neg (by omega)]
theorem aup {α:Type} {z:Nat} {enc:α->List ad} {l:List α} {k:IntKind} {i:Int} (h1:0<=i) (ag:i<=l.length) :g5 (.av z) (c0 z enc (some l)) (some (.int k i)) none none=some (c0 z enc (some (l.drop i.toNat))) :=by
 have aq:i.toNat<=l.length:=by omega
 simp only[g5,c0,if_true,Ov,aCZ];rw[if_pos ⟨h1,ag⟩];simp only[aCR,Option.some.injEq,ad.cr.injEq,true_and];rw[aCI (by simp),List.map_drop]
theorem aut {α:Type} {z:Nat} {enc:α->List ad} {l:List α} {k:IntKind} {i:Int} (h1:0<=i) (ag:i<=l.length) :g5 (.av z) (c0 z enc (some l)) none (some (.int k i)) none=some (c0 z enc (some (l.take i.toNat))) :=by
 simp only[g5,c0,if_true,Ik,aCZ];rw[if_pos ⟨h1,ag⟩];simp only[aCR,Option.some.injEq,ad.cr.injEq,true_and,aDH,aFt];rw[aFI]
theorem auq {α:Type} {z:Nat} {enc:α->List ad} {l:List α} {k k' : IntKind} {i j:Int} (aG:0<=i) (h1:i<=j) (ag:j<=l.length) :g5 (.av z) (c0 z enc (some l)) (some (.int k i)) (some (.int k' j)) none=some (c0 z enc (some ((l.drop i.toNat).take (j.toNat - i.toNat)))) :=by
 simp only[g5,c0,if_true,aeL,aCZ];rw[if_pos ⟨aG,h1,ag⟩];simp only[aCR,Option.some.injEq,ad.cr.injEq,true_and];rw[aFI,List.map_drop]
theorem map_set {α:Type} (l:List α) (k:Nat) (x:α) (enc:α->List ad) :(l.map enc).set k (enc x)=(l.set k x).map enc:=by rw[List.map_set]
end

section
variable {P:Program}
def acI (P:Program) (t:TypeId) :Option (List TypeId) :=match P.underlying t with
 | some (.struct fs)=>some (fs.toList.map (·.type))
 | _=>none
theorem yK {cs:List ad} (h:ec P [] cs) :cs=[] :=by cases h; rfl
theorem A7 {t:TypeId} {k:IntKind} {ts:List TypeId} {cs:List ad} (aS:P.underlying t=some (.int k)) (h:ec P (t::ts) cs) :∃ n cs',cs=.int k n::cs'/\k.min<=n/\n<=k.max/\ec P ts cs':=by
 cases h
 case int k' n cs' h1 ag qo h=>
  rw[aS] at qo; cases qo; exact⟨_,_,rfl,h1,ag,h⟩
 all_goals (exfalso; simp_all; done)
theorem tc {t:TypeId} {fs ts:List TypeId} {cs:List ad} (aS:acI P t=some fs) (h:ec P (t::ts) cs) :ec P (fs++ts) cs:=by
 unfold acI at aS;cases h
 case struct ayh qo h=>rw[qo] at aS; cases aS; exact h
 all_goals (exfalso; simp_all; done)
theorem acY {t e:TypeId} {n:Nat} {ts:List TypeId} {cs:List ad} (aS:P.underlying t=some (.array n e)) (h:ec P (t::ts) cs) :ec P (List.replicate n e++ts) cs:=by
 cases h
 case array fV hE qo h=>rw[aS] at qo; cases qo; exact h
 all_goals (exfalso; simp_all; done)
theorem avt {t e:TypeId} {ts:List TypeId} {cs:List ad} (aS:P.underlying t=some (.slice e)) (h:ec P (t::ts) cs) :
  ∃ cs',ec P ts cs'/\(cs=.aK::cs'\/∃ es,cs=.cr (P.cellsOf e) es::cs'/\es.length<=maxLen/\∀ r∈es,ec P [e] r) :=by
 cases h
 case aK fV cs' qo h=>exact⟨_,h,.inl rfl⟩
 case av fV es cs' ar az au qo h=>rw[aS] at qo; cases qo; exact⟨_,h,.inr ⟨es,rfl,ar,au⟩⟩
 all_goals (exfalso; simp_all; done)
theorem acf {α:Type} {enc:α->List ad} {Q:α->Prop}:∀ (es:List (List ad)),(∀ r∈es,∃ x,r=enc x/\Q x)->∃ xs:List α,es=xs.map enc/\∀ x∈xs,Q x
 | [],_=>⟨[],rfl,fun x al=>by cases al⟩
 | r::es,h=>by
  obtain⟨x,rfl,al⟩:=h r (by simp);obtain⟨xs,rfl,Am⟩:=acf es (fun r aC=>h r (by simp[aC]));exact⟨x::xs,rfl,fun y aE=>by
   rcases aDY.1 aE with rfl | aE
   ·exact al
   ·exact Am y aE⟩
theorem HB {α:Type} {t e:TypeId} {z:Nat} {enc:α->List ad} {Q:α->Prop} {ts:List TypeId} {cs:List ad} (aS:P.underlying t=some (.slice e)) (az:P.cellsOf e=z) (au:∀ r,ec P [e] r->∃ x,r=enc x/\Q x) (h:ec P (t::ts) cs) :
  ∃ (s:dX α) (cs' : List ad),cs=c0 z enc s::cs'/\s.l.length<=maxLen/\(∀ x∈s.l,Q x)/\ec P ts cs':=by
 obtain⟨cs',h1,rfl | ⟨es,rfl,ar,aC⟩⟩:=avt aS h
 ·exact⟨none,cs',rfl,aD5 _,fun x al=>(by cases al),h1⟩
 ·obtain⟨xs,rfl,Am⟩:=acf (enc:=enc) (Q:=Q) es (fun r lH=>au r (aC r lH));refine⟨some xs,cs',?_,by simpa using ar,Am,h1⟩;rw[az]; rfl
theorem M6 {t:TypeId} {c:ad} (aD:e8 P t=some true) (h:tl P t c) :∃ cs,c=.aM cs/\ec P [t] cs:=by
 unfold tl at h; rw[aD] at h; exact h
theorem avo {t:TypeId} {c:ad} (aD:e8 P t=some false) (h:tl P t c) :ec P [t] [c] :=by
 unfold tl at h; rw[aD] at h; exact h
theorem HA {t:TypeId} {ts:List TypeId} {cs:List ad} (h:kO P (t::ts) cs) :∃ c cs',cs=c::cs'/\tl P t c/\kO P ts cs':=by
 cases h with
 | cons h1 ag=>exact⟨_,_,rfl,h1,ag⟩
theorem avm {cs:List ad} (h:kO P [] cs) :cs=[] :=by cases h; rfl
end

end Go.ct

namespace Go.ct
open Go Go.ChangeShapes Go.RowKit
theorem acT {H:Type} {enc:TypeId × Value->H} {P:Program} (ar:laidOutB P=true) {W tm:World} (ai:Below W.heap.size W tm) :∀ {ts:List TypeId} {vs:List Value} {iH:List (DataW H)} {di:List MemPlace},
  (∀ t∈ts,P.readableRec t=true/\t<P.types.size)->DataW.TrodAll enc P W 0 (fun _=>true) true ts vs iH di->DataW.TrodAll enc P tm 0 (fun b=>decide (b<W.heap.size)) true ts vs iH di
 | [],vs,iH,di,_,h=>by
  obtain⟨rfl,rfl,rfl⟩:=trodAll_nil h;exact trodAll_mk0
 | t::ts,vs,iH,di,aC,h=>by
  have aP:=h.lt;obtain⟨v,avN,d,aiY,a,b,rfl,rfl,rfl,h1,ag⟩:=trodAll_cons h;exact⟨a,b,Below.trod ar (aC t (by simp)).1 (aC t (by simp)).2 h1 ai (fun x al=>aP x (by simp[al])),acT ar ai (fun t aQ=>aC t (by simp[aQ])) ag,rfl⟩
theorem aoh {P:Program} {G:Nat->ad} (nN:P.follows .mixedOrders=true) (lY:∀ g,(G g).closed=true) {f:FuncId} {ts:List TypeId} (D:Nat) (aF:∀ t∈ts,uA P D t=true) (alU:laidOutB P=true)
  (cW:∀ t∈ts,P.readableRec t=true/\t<P.types.size) (aof:∀ cs,kO P ts cs->dS P G f cs [] (c:=⟨fun r _=>r=.bool true⟩))
  {H:Type} {enc:TypeId × Value->H} {W:World} {hL:Nat} {args:Array Value} {iH:List (DataW H)} {di:List MemPlace} (aA:∀ g,gc W (fun _=>True) (G g) (.pointer (some ⟨g,0,none⟩)))
  (fa:∀ (j:Nat) t v,ts[j]? = some t->args[j]? = some v->Value.okWide P W .any hL t v) (h:DataW.TrodAll enc P W 0 (fun _=>true) true ts args.toList iH di) :
  Calls P f args W fun e w'=>e=.returned (.bool true)/\Below W.heap.size W w'/\DataW.TrodAll enc P w' 0 (fun b=>decide (b<W.heap.size)) true ts args.toList iH di:=by
 obtain⟨cs,Ac,bu,uf⟩:=Oa (A:=fun _=>True) (fun _=>trivial) aF (fun j t v aQ ay=>fa j t v aQ (by simpa using ay)) h;exact (aog nN lY (aof cs Ac) aA (by rw[bu]; simp) (fun j c v ak ay=>uf j c v ak (by simpa using ay))).mono fun e w' ⟨au,ai⟩=>⟨au,ai,acT alU ai cW h⟩
end Go.ct

namespace Go.ct
open Go
section
variable (P:Program)
end
def Od (x:ad) :Option Int:=match x with
 | .int k i=>match k with | .i64=>some i | _=>none
 | _=>none
def ma (z:Nat) (cs vs:List ad) (i len:Nat) :List ad:=cs.take (i*z)++vs++(cs.drop (i*z)).take ((len - i)*z)++cs.drop ((len+1)*z)
def VC (z by_:Nat) (h:bh) (s:ad) (i:Nat) (bv:Nat) (vs:List ad) :Option (ad × bh) :=match s with
 | .aK=>if i=0/\by_<=c4 then some (.av z h.n 0 1 1 z,h.push (.cells z vs)) else none
 | .av iB b off len cap sz=>match h.f b with
  | .cells m cs=>if m=cap*z/\sz=cap*z/\iB=z/\off=0/\bv≠b/\i<=len/\len<=cap/\(len+1)*by_<=c4 then
    some (.av z h.n 0 (len+1) (max cap (len+1)) (max cap (len+1)*z),(h.set b .dead).push (.cells (max cap (len+1)*z) (ma z cs vs i len))) else none
  | _=>none
 | _=>none
def Aw (z by_:Nat) (args:List ad) (h:bh) :Option (ad × bh) :=match args with
 | [s,x,y]=>match Od x,y with
  | some i,.av hq bv mJ cf dF jG=>match h.f bv with
   | .cells ko vs=>if hq=z/\mJ=0/\cf=1/\dF=1/\jG=z/\ko=z/\0<=i then VC z by_ h s i.toNat bv vs else none
   | _=>none
  | _,_=>none
 | _=>none
class NF (P:Program) (G:Nat->ad) where
 get:FuncId->Option (Nat × Nat)
 ok:∀ f z by_,get f=some (z,by_)->∀ args h r h',Aw z by_ args h=some (r,h')->rT P G f args h r h'
instance (priority:=10) aBC (P:Program) (G:Nat->ad) :NF P G:=⟨fun _=>none,fun f z by_ h=>by cases h⟩
mutual
def bp.beq:bp->bp->Bool
 | .none,y=>match y with | .none=>true | _=>false
 | .dead,y=>match y with | .dead=>true | _=>false
 | .cells n cs,y=>match y with | .cells hE cs'=>Nat.beq n hE&&fJ cs cs' | _=>false
 | .map ..,_=>false
 | .iter ..,_=>false
end

section
variable (P:Program) (G:Nat->ad)
end
structure kM (h:bh) (l:aw) :Prop where
 n:h.n=l.length
 f:∀ b,h.f b=(cj l).f b
theorem kM.nil:kM bh.empty [] :=⟨rfl,fun _=>rfl⟩
theorem kM.some {h:bh} {l:aw} (r:kM h l) {b:Nat} {c:bp} (ak:h.f b=c) (aI:c≠.none) :l[b]? = some c:=by
 rw[r.f,oM] at ak;split at ak
 ·rename_i c' h1; rw[h1,ak]
 ·exact absurd ak.symm aI
theorem kM.push {h:bh} {l:aw} (r:kM h l) (c:bp) :kM (h.push c) (l++[c]) :=
 ⟨by rw[ga,r.n]; simp,fun b=>by rw[eS,<-mU,eS,r.n,yU]; unfold ck; (split<;>first | rfl | exact r.f b)⟩
theorem kM.set {h:bh} {l:aw} (r:kM h l) {b:Nat} {wY:bp} (ai:l[b]? = Option.some wY) (c:bp) :kM (h.set b c) (l.set b c) :=
 ⟨by rw[fw,r.n]; simp,fun bK=>by rw[ez,<-oN _ (fW ai),ez]; unfold ck; (split<;>first | rfl | exact r.f bK)⟩
section
variable {P:Program} {G:Nat->ad} {h h' : bh} {l:aw}
theorem kM.reach (r:kM h l) (p:ad) :reach h p=e4 l p:=by
 rw[<-Mn];cases p<;>try rfl
 simp only[ct.reach,r.f]
theorem kM.contents (r:kM h l) (z:Nat) (x:ad) :contents h z x=dL l z x:=by
 rw[<-BC];cases x<;>try rfl
 simp only[ct.contents,r.f]
theorem kM.mapOf (r:kM h l) (x:ad) :mapOf h x=v1 l x:=by
 cases x<;>try rfl
 rename_i b;simp only[ct.mapOf,v1,r.f,oM];cases l[b]? with
 | none=>rfl
 | some c=>cases c<;>rfl
theorem kM.bytes (r:kM h l) (x:ad) :u7 h x=qU l x:=by
 cases x<;>simp only[u7,qU,r.contents]<;>rfl
theorem gH.rep (r:kM h l) {c c' : ad} (aC:gH h c c') :gH (cj l) c c':=by
 induction aC with
 | same c ak=>exact .same c ak
 | aM cs cs' ar ay aY=>exact .aM cs cs' ar aY
 | b5 cs cs' ar ay aY=>exact .b5 cs cs' ar aY
 | av z b off len cap sz cs es ai ar az ea ay aY=>exact .av z b off len cap sz cs es (by rw[<-r.f]; exact ai) ar az ea aY
 | uI z b off cap sz=>exact .uI z b off cap sz
 | ptr b off sz cs cs' ai ar ay aY=>exact .ptr b off sz cs cs' (by rw[<-r.f]; exact ai) ar aY
theorem bp.beq_eq {a b:bp} (h:bp.beq a b=true) :a=b:=by
 cases a<;>cases b<;>simp[bp.beq] at h
 ·rfl
 ·rfl
 ·obtain⟨h1,ag⟩:=h;rw[h1,u4 ag]
inductive HW (P:Program) (G:Nat->ad) :List (Nat × (bh->Bool))->jP->Prop
 | nil:HW P G [] []
 | cons {i p q r dU}:(∀ h l,kM h l->p h=true->q l)->HW P G r dU->HW P G ((i,p) ::r) ((i,q) ::dU)
end
abbrev ae (t:Nat) :Operand:=.tmp t
def rep (n:Nat) (c:ad) :List ad:=List.replicate n c
abbrev af (i d x:Nat) :dD:=⟨i,some d,none,.cM (.aO (.tmp x)),[],false⟩
abbrev ao (i d:Nat) (m:bf) :dD:=⟨i,some d,none,.cM m,[],false⟩
abbrev rG (i:Nat) (m:bf) :dD:=⟨i,none,none,.cM m,[],false⟩
abbrev sc (i d:Nat) (f:FuncId) (args:List Operand) :dD:=⟨i,some d,none,.cO f args,[],false⟩
abbrev dV (i d j:Nat) (w:Bool) (m:bf) :dD:=⟨i,some d,some (some j,w),.cM m,[],false⟩
@[simp] theorem aBP (n:Nat) (c:ad) :(rep n c).length=n:=by simp[rep]
end Go.ct

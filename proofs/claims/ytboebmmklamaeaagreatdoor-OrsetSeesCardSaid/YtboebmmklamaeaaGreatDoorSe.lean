/-
  The canonical machine, part X: what must hold behind code without types holds behind the code.
-/
import Derived.Test.YtboebmmklamaeaaGreatDoorSd
import GoSem.ClaimChange
import GoSem.ClaimWide
import Derived.ProofKit
set_option linter.unusedVariables false
set_option linter.unusedSimpArgs false
set_option linter.unnecessarySimpa false
namespace Go.cl
open Go
section
variable {P:Program} {G:Nat->ae}
theorem Rl {op:Op} {m:bb} (hm:lY P op=some m) (aw:i3 op=false) :m.looks=true\/m.hP=true:=by
 cases op<;>simp only[i3,Bool.true_eq_false,reduceCtorEq] at aw<;>simp only[lY] at hm<;>try (cases hm; done)
 case move=>cases hm; exact .inl rfl
 case assign=>cases hm; exact .inl rfl
 case pick=>cases hm; exact .inl rfl
 case alloc=>rw[map_some] at hm; obtain⟨_,_,rfl⟩:=hm; exact .inr rfl
 case box=>cases hm; exact .inr rfl
 case build=>simp only[bind_some,map_some] at hm; obtain⟨_,_,_,_,rfl⟩:=hm; exact .inl rfl
 case buildSlice=>simp only[bind_some,he] at hm; obtain⟨_,_,_,_,_,_,_,rfl⟩:=hm; exact .inr rfl
 case load=>split at hm<;>cases hm<;>exact .inl rfl
 case nilCheck=>cases hm; exact .inl rfl
 case binOp=>cases hm; exact .inl rfl
 case unOp=>cases hm; exact .inl rfl
 case convert=>
  repeat' split at hm
  all_goals first | (cases hm; done) | (cases hm; exact .inl rfl)
 case makeInterface=>split at hm<;>cases hm; exact .inl rfl
 case makeFunc f a b=>cases f<;>simp only at hm<;>cases hm; exact .inl rfl
 case makeSlice=>simp only[bind_some,he] at hm; obtain⟨_,_,_,_,_,_,_,_,_,rfl⟩:=hm; exact .inr rfl
 case slice=>rw[map_some] at hm; obtain⟨_,_,rfl⟩:=hm; exact .inl rfl
 case fieldAddr=>rw[bind_some] at hm; obtain⟨_,_,hm⟩:=hm; split at hm<;>cases hm; exact .inl rfl
 case field=>rw[bind_some] at hm; obtain⟨_,_,hm⟩:=hm; split at hm<;>cases hm<;>exact .inl rfl
 case indexAddr=>split at hm<;>cases hm<;>exact .inl rfl
 case index=>
  repeat' split at hm
  all_goals first | (cases hm; done) | (cases hm; exact .inl rfl)
 case extract=>cases hm; exact .inl rfl
 case call c=>
  split at hm
  ·rename_i b ai;rw[ai] at aw;cases b<;>simp only[Bool.true_eq_false,reduceCtorEq] at aw<;>unfold sF at hm<;>(repeat' split at hm)<;>first
    | (cases hm; done)
    | (cases hm; exact .inl rfl)
    | (rw[map_some] at hm; obtain⟨_,_,rfl⟩:=hm; exact .inl rfl)
    | (exfalso; simp only[reduceCtorEq] at *; done)
  ·rename_i f aJ;rw[aJ] at aw; cases aw
  ·cases hm
theorem Rm {op:Op} {m:bb} (hm:lY P op=some m) (aU:qF P op=false) :m.reads=false/\m.hP=false:=by
 cases op<;>simp only[qF,Bool.true_eq_false,reduceCtorEq] at aU<;>simp only[lY] at hm<;>try (cases hm; done)
 case move=>cases hm; exact⟨rfl,rfl⟩
 case assign=>cases hm; exact⟨rfl,rfl⟩
 case pick=>cases hm; exact⟨rfl,rfl⟩
 case build=>simp only[bind_some,map_some] at hm; obtain⟨_,_,_,_,rfl⟩:=hm; exact⟨rfl,rfl⟩
 case store=>rw[map_some] at hm; obtain⟨_,_,rfl⟩:=hm; exact⟨rfl,rfl⟩
 case nilCheck=>cases hm; exact⟨rfl,rfl⟩
 case binOp=>cases hm; exact⟨rfl,rfl⟩
 case unOp=>cases hm; exact⟨rfl,rfl⟩
 case makeInterface=>split at hm<;>cases hm; exact⟨rfl,rfl⟩
 case makeFunc f a b=>cases f<;>simp only at hm<;>cases hm; exact⟨rfl,rfl⟩
 case typeAssert=>rw[map_some] at hm; obtain⟨_,_,rfl⟩:=hm; exact⟨rfl,rfl⟩
 case slice=>rw[map_some] at hm; obtain⟨_,_,rfl⟩:=hm; exact⟨rfl,rfl⟩
 case fieldAddr=>rw[bind_some] at hm; obtain⟨_,_,hm⟩:=hm; split at hm<;>cases hm; exact⟨rfl,rfl⟩
 case field=>rw[bind_some] at hm; obtain⟨_,_,hm⟩:=hm; split at hm<;>cases hm<;>exact⟨rfl,rfl⟩
 case indexAddr=>split at hm<;>cases hm<;>exact⟨rfl,rfl⟩
 case index=>
  repeat' split at hm
  all_goals first | (cases hm; done) | (cases hm; exact⟨rfl,rfl⟩)
 case extract=>cases hm; exact⟨rfl,rfl⟩
 case next it b=>cases b<;>simp only[reduceCtorEq] at hm<;>cases hm; exact⟨rfl,rfl⟩
 case panic=>cases hm; exact⟨rfl,rfl⟩
 case lookup=>split at hm<;>(try cases hm; done); rw[map_some] at hm; obtain⟨_,_,rfl⟩:=hm; exact⟨rfl,rfl⟩
 case mapUpdate=>split at hm<;>cases hm; exact⟨rfl,rfl⟩
 case insert=>split at hm<;>cases hm; exact⟨rfl,rfl⟩
 case makeMap=>split at hm<;>cases hm; exact⟨rfl,rfl⟩
 case range=>split at hm<;>cases hm; exact⟨rfl,rfl⟩
 case call c=>
  split at hm
  ·rename_i b ai;rw[ai] at aU;unfold sF at hm
   repeat' split at hm
   all_goals first
    | (cases hm; done)
    | (exfalso; simp_all; done)
    | (cases hm; exact⟨rfl,rfl⟩)
    | (simp only[bind_some,map_some] at hm; obtain⟨_,_,rfl⟩:=hm; exact⟨rfl,rfl⟩)
    | (simp only[bind_some,map_some] at hm; obtain⟨_,_,_,_,rfl⟩:=hm; exact⟨rfl,rfl⟩)
    | (simp only[bind_some,he] at hm; obtain⟨_,_,_,_,_,_,_,rfl⟩:=hm; exact⟨rfl,rfl⟩)
    | (simp only[bind_some,he] at hm; obtain⟨_,_,_,_,_,_,_,_,_,rfl⟩:=hm; exact⟨rfl,rfl⟩)
  ·split at hm
   ·rw[he] at hm; obtain⟨_,rfl⟩:=hm; exact⟨rfl,rfl⟩
   ·cases hm
  ·cases hm
inductive lb (P:Program) (G:Nat->ae) (s:dL) (o:Oper) (ah:bj) (l:au) (v:ae) (l1:au) :bN->Prop
 | pure (m:bb) (ai:s.b=.c2 m) (hm:m.looks=true) (aq:l1=l) (ar:bR P (cU G ah) l m=some (v,l)) :lb P G s o ah l v l1 (.pure s.i v)
 | new (m:bb) (cs:List ae) (ai:s.b=.c2 m) (hm:m.hP=true) (aq:l1=l++[.cells cs.length cs]) :lb P G s o ah l v l1 (.new s.i v cs)
 | fv (aw:i3 o.op=true) (bz:l.length<=l1.length) :lb P G s o ah l v l1 (.fv s.i v (bW l1))
theorem lb.idx {s:dL} {o:Oper} {ah:bj} {l l1:au} {v:ae} {t:bN} (k:lb P G s o ah l v l1 t) :t.idx=s.i:=by cases k<;>rfl
theorem lb.val {s:dL} {o:Oper} {ah:bj} {l l1:au} {v:ae} {t:bN} (k:lb P G s o ah l v l1 t) :t.val=v:=by cases k<;>rfl
theorem lb.next {s:dL} {o:Oper} {ah:bj} {l l1:au} {v:ae} {t:bN} (k:lb P G s o ah l v l1 t) :n7 (bW l) t=bW l1:=by
 cases k with
 | pure m ai hm aq ar=>rw[aq]; rfl
 | new m cs ai hm aq=>rw[aq,<-lS]; rfl
 | fv aw _=>rfl
theorem amc {ops:Array Oper} {s:dL} {o:Oper} (ok:nu P ops s o) {ah:bj} (bt:je ops ah o=some true) {l:au} {K:ae->au->Prop} (h:gU P G s.b ah l K) :
  ∃ v l1 t,lb P G s o ah l v l1 t/\ug P G ops ⟨ah,bW l⟩ t/\K v l1:=by
 obtain⟨v,l1,h1,af,ap,aH⟩:=aaq ok h;have jl:i3 o.op=true->∃ v l1 t,lb P G s o ah l v l1 t/\ug P G ops ⟨ah,bW l⟩ t/\K v l1:=fun aw=>⟨v,l1,_,.fv aw af,⟨o,ok.here,bt,h1,by simpa using af⟩,ap⟩
 cases ai:s.b with
 | c2 m=>
  have hm:=ok.c2 m ai;cases aw:i3 o.op with
  | true=>exact jl aw
  | false=>
   have ar:=aH m ai (Rl hm aw);rcases Rl hm aw with aq | aI
   ·have:=Wa aq ar;subst this;exact⟨v,l1,_,.pure m ai aq rfl ar,⟨o,ok.here,bt⟩,ap⟩
   ·obtain⟨cs,mk,bc,bM,eE⟩:=ajc hm aI ar;exact⟨v,l1,_,.new m cs ai aI eE,⟨o,mk,ok.here,bt,bc,bM⟩,ap⟩
 | dq f args=>
  obtain⟨c,f9,ak,_⟩:=ok.dq f args ai;exact jl (by rw[f9]; simp only[i3,ak])
 | hn x args=>
  obtain⟨c,f9,ak,_⟩:=ok.hn x args ai;exact jl (by rw[f9]; simp only[i3,ak])
 | mI x name args=>
  obtain⟨c,f9,ak,_⟩:=ok.mI x name args ai;exact jl (by rw[f9]; simp only[i3,ak])
inductive iP (P:Program) (G:Nat->ae) (ops:Array Oper) :List dL->bj->au->hj->List (bN × bj × au)->bj->au->Prop
 | nil {ah l seen}:iP P G ops [] ah l seen [] ah l
 | skip {s o r ah l seen es bY l'}:nu P ops s o->je ops ah o=some false->iP P G ops r (gp ah s.dst gv) l seen es bY l'->iP P G ops (s::r) ah l seen ((.skip s.i,ah,l) ::es) bY l'
 | step {s o r ah l v l1 t seen es bY l'}:nu P ops s o->lb P G s o ah l v l1 t->ug P G ops ⟨ah,bW l⟩ t->nB s.hG seen l1->
   iP P G ops r (gp ah s.dst v) l1 (pj s.cM s.i (jZ P G s.b ah v l l1) seen) es bY l'->iP P G ops (s::r) ah l seen ((t,ah,l) ::es) bY l'
theorem MK {ops:Array Oper} {K:bj->au->Prop}:∀ {s:List dL} {ah:bj} {l:au} {seen:hj},(∀ x∈s,∃ o,nu P ops x o)->iq P G s ah l seen K->∃ es bY l',iP P G ops s ah l seen es bY l'/\K bY l'
 | [],ah,l,seen,_,h=>⟨[],ah,l,.nil,h⟩
 | s::r,ah,l,seen,dG,h=>by
  obtain⟨o,ok⟩:=dG s (by simp);rcases UN ok h with ⟨bt,h⟩ | ⟨bt,h⟩
  ·obtain⟨v,l1,t,h1,af,ap,aH⟩:=amc ok bt h;obtain⟨es,bY,l',bc,bM⟩:=MK (fun x aj=>dG x (by simp[aj])) aH;exact⟨_,bY,l',.step ok h1 af ap bc,bM⟩
  ·obtain⟨es,bY,l',bc,bM⟩:=MK (fun x aj=>dG x (by simp[aj])) h;exact⟨_,bY,l',.skip ok bt bc,bM⟩
theorem MM {K:bj->au->Prop}:∀ {s:List dL} {ah:bj} {l:au},(∀ x∈s,x.cM=false)->ic P G s ah l K->iq P G s ah l [] K
 | [],ah,l,_,h=>h
 | s::r,ah,l,aE,h=>by
  have mono:∀ (b:oo) (K fB:ae->au->Prop),(∀ v l,K v l->fB v l)->gU P G b ah l K->gU P G b ah l fB:=by
   intro b K fB a7 h;cases b with
   | c2 m=>simp only[gU,vX] at h ⊢; obtain⟨v,h1,af⟩:=h; exact⟨v,h1,UQ a7 af⟩
   | dq f args=>obtain⟨r,l',h1,af,ap⟩:=h; exact⟨r,l',h1,af,a7 _ _ ap⟩
   | hn x args=>
    simp only[gU,sx] at h ⊢;split at h
    ·obtain⟨aQ,r,l',h1,af,ap⟩:=h; exact⟨aQ,r,l',h1,af,a7 _ _ ap⟩
    ·cases h
   | mI x name args=>
    simp only[gU,sw] at h ⊢;split at h
    ·split at h
     ·obtain⟨aQ,r,l',h1,af,ap⟩:=h; exact⟨aQ,r,l',h1,af,a7 _ _ ap⟩
     ·cases h
    ·cases h
  have aew:∀ (g:Option (Option Tmp × Bool)) (p q bV eT:Prop),(p->bV)->(q->eT)->n3 ah g p q->n3 ah g bV eT:=by
   intro g p q bV eT aF bp h;unfold n3 at h ⊢;split at h
   ·exact aF h
   ·rename_i d w;simp only[o1] at h ⊢;split at h
    ·rw[zz] at h ⊢;rcases h with ⟨a,b⟩ | ⟨a,b⟩
     ·exact .inl ⟨a,aF b⟩
     ·exact .inr ⟨a,bp b⟩
    ·cases h
    ·exact bp h
   ·exact bp h
  have yX:s.cM=false:=aE s (by simp);refine aew _ _ _ _ _ (mono _ _ _ fun v l' h=>?_) (fun h=>MM (fun x aj=>aE x (by simp[aj])) h) h;refine⟨trivial,?_⟩;rw[yX];exact MM (fun x aj=>aE x (by simp[aj])) h
theorem lb.len {s:dL} {o:Oper} {ah:bj} {l l1:au} {v:ae} {t:bN} (k:lb P G s o ah l v l1 t) :l.length<=l1.length:=by
 cases k with
 | pure m ai hm aq ar=>rw[aq]; exact Nat.le_refl _
 | new m cs ai hm aq=>rw[aq]; simp
 | fv aw bz=>exact bz
theorem iP.len {ops:Array Oper} {s:List dL} {ah bY:bj} {l l' : au} {seen:hj} {es:List (bN × bj × au)} (h:iP P G ops s ah l seen es bY l') :l.length<=l'.length:=by
 induction h with
 | nil=>exact Nat.le_refl _
 | skip _ _ _ aK=>exact aK
 | step _ k _ _ _ aK=>exact Nat.le_trans k.len aK
def rk (es:List (bN × bj × au)) (l' : au) (q:Nat) :au:=match es[q]? with | some x=>x.2.2 | none=>l'
theorem iP.here {ops:Array Oper} {s:List dL} {ah bY:bj} {l l' : au} {seen:hj} {es:List (bN × bj × au)} (h:iP P G ops s ah l seen es bY l') :rk es l' 0=l:=by
 cases h<;>rfl
theorem iP.idx {ops:Array Oper} {s:List dL} {ah bY:bj} {l l' : au} {seen:hj} {es:List (bN × bj × au)} (h:iP P G ops s ah l seen es bY l') :es.map (fun e=>e.1.idx)=s.map (·.i) :=by
 induction h with
 | nil=>rfl
 | skip _ _ _ aK=>simp only[List.map_cons,aK]; rfl
 | step _ k _ _ _ aK=>simp only[List.map_cons,aK,k.idx]
theorem iP.at {ops:Array Oper} {s:List dL} {ah bY:bj} {l l' : au} {seen:hj} {es:List (bN × bj × au)} (h:iP P G ops s ah l seen es bY l') :
  (∀ (p:Nat) (e:bN × bj × au),es[p]? = some e->ug P G ops ⟨e.2.1,bW e.2.2⟩ e.1/\fO ops ⟨ah,bW l⟩ (es.map (·.1)) p=⟨e.2.1,bW e.2.2⟩)/\fO ops ⟨ah,bW l⟩ (es.map (·.1)) es.length=⟨bY,bW l'⟩:=by
 induction h with
 | nil=>exact⟨fun p e aw=>by simp at aw,rfl⟩
 | @skip s o r ah l seen es bY l' ok bt _ aK=>
  have mY:kw ops ⟨ah,bW l⟩ (.skip s.i)=⟨gp ah s.dst gv,bW l⟩:=by simp only[kw,us,bN.idx,ok.here,Option.bind_some,bN.val,n7,ok.dst]
  refine⟨fun p e aw=>?_,?_⟩
  ·cases p with
   | zero=>simp only[List.getElem?_cons_zero,Option.some.injEq] at aw; subst aw; exact⟨⟨o,ok.here,bt⟩,rfl⟩
   | succ p=>
    simp only[List.getElem?_cons_succ] at aw;obtain⟨h1,af⟩:=aK.1 p e aw;refine⟨h1,?_⟩;rw[List.map_cons,DE,mY]; exact af
  ·rw[List.map_cons,List.length_cons,DE,mY]; exact aK.2
 | @step s o r ah l v l1 t seen es bY l' ok k ar ak _ aK=>
  have mY:kw ops ⟨ah,bW l⟩ t=⟨gp ah s.dst v,bW l1⟩:=by simp only[kw,us,k.idx,ok.here,Option.bind_some,k.val,k.next,ok.dst]
  refine⟨fun p e aw=>?_,?_⟩
  ·cases p with
   | zero=>simp only[List.getElem?_cons_zero,Option.some.injEq] at aw; subst aw; exact⟨ar,rfl⟩
   | succ p=>
    simp only[List.getElem?_cons_succ] at aw;obtain⟨h1,af⟩:=aK.1 p e aw;refine⟨h1,?_⟩;rw[List.map_cons,DE,mY]; exact af
  ·rw[List.map_cons,List.length_cons,DE,mY]; exact aK.2
theorem iP.still {ops:Array Oper} {s:List dL} {ah bY:bj} {l l' : au} {seen:hj} {es:List (bN × bj × au)} (h:iP P G ops s ah l seen es bY l') (j:Nat) (S:au->Prop)
  (nN:∀ l x,S l->S (l++x)) (aQ:S l) :∀ q,q<=es.length->(∀ (p:Nat) (e:bN × bj × au),p<q->es[p]? = some e->e.1.h8=true->(j,S)∈seen/\∃ x,s[p]? = some x/\j∈x.hG)->S (rk es l' q) :=by
 have ac6:∀ {ids:List Nat} {seen:hj} {l:au},nB ids seen l->(j,S)∈seen->j∈ids->S l:=by
  intro ids seen l ak hm aA
  induction seen with
  | nil=>cases hm
  | cons e r aK=>
   obtain⟨h1,af⟩:=ak;rcases List.mem_cons.1 hm with rfl | hm
   ·exact h1 (by simpa using aA)
   ·exact aK af hm
 induction h with
 | nil=>
  intro q bp _; simp only[List.length_nil] at bp; obtain rfl:q=0:=by omega
  exact aQ
 | @skip s o r ah l seen es bY l' ok bt _ aK=>
  intro q bp wF;cases q with
  | zero=>exact aQ
  | succ q=>exact aK aQ q (by simpa using bp) (fun p e aF aw fw=>by
    obtain⟨h1,x,af,ap⟩:=wF (p+1) e (by omega) (by simpa using aw) fw;exact⟨h1,x,by simpa using af,ap⟩)
 | @step s o r ah l v l1 t seen es bY l' ok k ar ak _ aK=>
  intro q bp wF;cases q with
  | zero=>exact aQ
  | succ q=>
   have h1:S l1:=by
    cases k with
    | pure m ai hm aq _=>rw[aq]; exact aQ
    | new m cs ai hm aq=>rw[aq]; exact nN _ _ aQ
    | fv aw _=>
     obtain⟨h1,x,af,ap⟩:=wF 0 _ (by omega) rfl rfl;simp only[List.getElem?_cons_zero,Option.some.injEq] at af;subst af;exact ac6 ak h1 ap
   refine aK h1 q (by simpa using bp) (fun p e aF aw fw=>?_);obtain⟨h1,x,af,ap⟩:=wF (p+1) e (by omega) (by simpa using aw) fw;refine⟨?_,x,by simpa using af,ap⟩;unfold pj;cases s.cM with
   | false=>exact h1
   | true=>exact List.mem_cons_of_mem _ h1
theorem iP.split {ops:Array Oper} {s:List dL} {ah bY:bj} {l l' : au} {seen:hj} {es:List (bN × bj × au)} (h:iP P G ops s ah l seen es bY l') :∀ (p:Nat) (e:bN × bj × au),es[p]? = some e->e.1.rK=false->
  ∃ x o v l1 tM,s[p]? = some x/\nu P ops x o/\lb P G x o e.2.1 e.2.2 v l1 e.1 ∧
   iP P G ops (s.drop (p+1)) (gp e.2.1 x.dst v) l1 (pj x.cM x.i (jZ P G x.b e.2.1 v e.2.2 l1) tM) (es.drop (p+1)) bY l':=by
 induction h with
 | nil=>intro p e aw; simp at aw
 | @skip s o r ah l seen es bY l' ok bt _ aK=>
  intro p e aw fV;cases p with
  | zero=>simp only[List.getElem?_cons_zero,Option.some.injEq] at aw; subst aw; cases fV
  | succ p=>
   obtain⟨x,ci,v,l1,tM,h1,af,ap,aH⟩:=aK p e (by simpa using aw) fV;exact⟨x,ci,v,l1,tM,by simpa using h1,af,ap,by simpa using aH⟩
 | @step s o r ah l v l1 t seen es bY l' ok k ar ak tr aK=>
  intro p e aw fV;cases p with
  | zero=>
   simp only[List.getElem?_cons_zero,Option.some.injEq] at aw; subst aw;exact⟨s,o,v,l1,seen,rfl,ok,k,by simpa using tr⟩
  | succ p=>
   obtain⟨x,ci,v,l1,tM,h1,af,ap,aH⟩:=aK p e (by simpa using aw) fV;exact⟨x,ci,v,l1,tM,by simpa using h1,af,ap,by simpa using aH⟩
end
section
variable {P:Program} {G:Nat->ae}
theorem WV {ms:List Nat} {ops:Array Oper}:∀ (iH done jl:List Nat),(∀ i∈iH,i<ops.size)->(mo P ms ops iH done jl).map (·.1)=iH
 | [],_,_,_=>rfl
 | i::r,done,jl,h=>by
  unfold mo;have aA:i<ops.size:=h i (by simp);rw[Array.getElem?_eq_getElem aA];simp only;split<;>simp only[List.map_cons]<;>rw[WV r _ _ fun j am=>h j (by simp[am])]
theorem Kd {ms:List Nat} {ops:Array Oper}:∀ (iH done jl:List Nat) (p i:Nat) (hG:List Nat),(∀ i∈iH,i<ops.size)->(mo P ms ops iH done jl)[p]? = some (i,hG)->
  (∃ o,ops[i]? = some o/\i3 o.op=true)->∀ j,(j∈done\/∃ eJ,eJ<p/\iH[eJ]? = some j)->(∃ o,ops[j]? = some o/\qF P o.op=true)->(∀ e∈jl,na ms e j=false)->
  (∀ (bV i1:Nat) (o:Oper),bV<=p->iH[bV]? = some i1->ops[i1]? = some o->i3 o.op=true->(bV=p\/o.guard=none)->na ms i1 j=false)->j∈hG
 | [],done,jl,p,i,hG,_,aF,_,_,_,_,_,_=>by simp[mo] at aF
 | x::r,done,jl,p,i,hG,lz,aF,aw,j,am,aU,B8,w1=>by
  unfold mo at aF;have aj:x<ops.size:=lz x (by simp);rw[Array.getElem?_eq_getElem aj] at aF;have Iy:ops[x]? = some ops[x] :=Array.getElem?_eq_getElem aj;simp only at aF;have aC:∀ i∈r,i<ops.size:=fun j am=>lz j (by simp[am])
  cases fw:i3 ops[x].op with
  | true=>
   rw[fw] at aF;simp only at aF;cases p with
   | zero=>
    simp only[List.getElem?_cons_zero,Option.some.injEq,Prod.mk.injEq] at aF;obtain⟨rfl,rfl⟩:=aF;obtain⟨o,h1,af⟩:=aU;rcases am with am | ⟨eJ,T4,_⟩
    ·refine List.mem_filter.2 ⟨am,?_⟩;simp only[h1,af,Bool.true_and,List.all_cons,Bool.and_eq_true,List.all_eq_true];exact⟨by simp[w1 0 x ops[x] (Nat.le_refl _) (by simp) Iy fw (.inl rfl)],fun e aw=>by simp[B8 e aw]⟩
    ·omega
   | succ p=>
    simp only[List.getElem?_cons_succ] at aF;refine Kd r _ _ p i hG aC aF aw j ?_ aU ?_ ?_
    ·rcases am with am | ⟨eJ,T4,am⟩
     ·exact .inl (by simp[am])
     ·cases eJ with
      | zero=>simp only[List.getElem?_cons_zero,Option.some.injEq] at am; exact .inl (by simp[am])
      | succ eJ=>exact .inr ⟨eJ,by omega,by simpa using am⟩
    ·intro e fy;cases az:ops[x].guard with
     | none=>
      rw[az] at fy;rcases List.mem_cons.1 fy with rfl | fy
      ·exact w1 0 e ops[e] (by omega) (by simp) Iy fw (.inr az)
      ·exact B8 e fy
     | some n2=>rw[az] at fy; exact B8 e fy
    ·intro bV i1 o fz fr ay uC az;exact w1 (bV+1) i1 o (by omega) (by simpa using fr) ay uC (by rcases az with rfl | az; exact .inl rfl; exact .inr az)
  | false=>
   rw[fw] at aF;simp only at aF;cases p with
   | zero=>
    simp only[List.getElem?_cons_zero,Option.some.injEq,Prod.mk.injEq] at aF;obtain⟨rfl,rfl⟩:=aF;obtain⟨o,h1,af⟩:=aw;rw[Iy] at h1; cases h1;rw[fw] at af; cases af
   | succ p=>
    simp only[List.getElem?_cons_succ] at aF;refine Kd r _ _ p i hG aC aF aw j ?_ aU B8 ?_
    ·rcases am with am | ⟨eJ,T4,am⟩
     ·exact .inl (by simp[am])
     ·cases eJ with
      | zero=>simp only[List.getElem?_cons_zero,Option.some.injEq] at am; exact .inl (by simp[am])
      | succ eJ=>exact .inr ⟨eJ,by omega,by simpa using am⟩
    ·intro bV i1 o fz fr ay uC az;exact w1 (bV+1) i1 o (by omega) (by simpa using fr) ay uC (by rcases az with rfl | az; exact .inl rfl; exact .inr az)
theorem RC {ms:List Nat} {ops:Array Oper}:∀ {iH:List Nat},yn ms ops iH=true->∀ (p bV i j:Nat) (o:Oper),iH[p]? = some i->iH[bV]? = some j->p<bV->ops[i]? = some o->i3 o.op=true->na ms j i=true
 | [],_,p,bV,i,j,o,aF,_,_,_,_=>by simp at aF
 | x::r,h,p,bV,i,j,o,aF,fz,aN,ay,aw=>by
  simp only[yn,Bool.and_eq_true] at h;cases bV with
  | zero=>omega
  | succ bV=>
   simp only[List.getElem?_cons_succ] at fz;cases p with
   | zero=>
    simp only[List.getElem?_cons_zero,Option.some.injEq] at aF;subst aF;rw[ay] at h;simp only[aw,Bool.not_true,Bool.false_or,List.all_eq_true] at h;exact h.1 j (List.mem_of_getElem? fz)
   | succ p=>exact RC h.2 p bV i j o (by simpa using aF) fz (by omega) ay aw
theorem CY {α iu:Type} {f:α->Option iu}:∀ {l:List α} {r:List iu},l.mapM f=some r->∀ (p:Nat) (x:iu),r[p]? = some x->∃ a,l[p]? = some a/\f a=some x
 | [],r,h,p,x,aj=>by simp at h; subst h; simp at aj
 | a::l,r,h,p,x,aj=>by
  rw[List.mapM_cons] at h;simp only[Option.bind_eq_bind,bind_some,Option.pure_def,Option.some.injEq] at h;obtain⟨b,h1,cw,af,rfl⟩:=h;cases p with
  | zero=>simp only[List.getElem?_cons_zero,Option.some.injEq] at aj; subst aj; exact⟨a,rfl,h1⟩
  | succ p=>obtain⟨eo,ap,aH⟩:=CY af p x (by simpa using aj); exact⟨eo,by simpa using ap,aH⟩
theorem JN {α iu:Type} {f:α->Option iu}:∀ {l:List α} {r:List iu},l.mapM f=some r->r.length=l.length
 | [],r,h=>by simp at h; subst h; rfl
 | a::l,r,h=>by
  rw[List.mapM_cons] at h;simp only[Option.bind_eq_bind,bind_some,Option.pure_def,Option.some.injEq] at h;obtain⟨b,h1,cw,af,rfl⟩:=h;simp[JN af]
theorem afM (es:List (bN × bj × au)) (l' : au) (n q:Nat) :rk (es.drop n) l' q=rk es l' (n+q) :=by
 unfold rk; rw[List.getElem?_drop]
theorem adI {id N' : Nat} {ops:Array Oper} {tQ:List dL} (bJ:∀ (i:Nat) (o:Oper),ops[i]? = some o->nE N' o.dst=true)
  (lz:J4 (hx ops) ops (eV (hx ops) ops)=true) (afL:yn (hx ops) ops (eV (hx ops) ops)=true)
  (cm:(mo P (hx ops) ops (eV (hx ops) ops) [] []).mapM (fun p=>Ag P ops p.1 p.2 (((mo P (hx ops) ops (eV (hx ops) ops) [] []).flatMap (·.2)).contains p.1))=some tQ)
  {ah bY:bj} {l l' : au} {es:List (bN × bj × au)} (tr:iP P G ops tQ ah l [] es bY l') :dd P G (.code (.region id ops true) N' ah (bW l) .normal bY (bW l')) :=by
 simp only[J4,Bool.and_eq_true] at lz;obtain⟨⟨⟨⟨vt,mn⟩,pf⟩,pg⟩,hR⟩:=lz;have IJ:∀ i∈eV (hx ops) ops,i<ops.size:=fun i aA=>by
  rw[List.all_eq_true] at pg;simpa [Nat.blt_eq] using pg i aA
 have T8:(mo P (hx ops) ops (eV (hx ops) ops) [] []).map (·.1)=eV (hx ops) ops:=WV _ _ _ IJ;have CD:∀ (p:Nat) (x:dL),tQ[p]? = some x->∃ o,nu P ops x o/\(mo P (hx ops) ops (eV (hx ops) ops) [] [])[p]? = some (x.i,x.hG) ∧
   x.cM=((mo P (hx ops) ops (eV (hx ops) ops) [] []).flatMap (·.2)).contains x.i:=fun p x aj=>by
  obtain⟨a,h1,af⟩:=CY cm p x aj;obtain⟨o,ap,aH,bc,bM⟩:=DG af;exact⟨o,ap,by rw[h1,aH,bc],by rw[bM,aH]⟩
 have Ul:∀ (p:Nat) (x:dL),tQ[p]? = some x->(eV (hx ops) ops)[p]? = some x.i:=fun p x aj=>by
  obtain⟨o,_,h1,_⟩:=CD p x aj;rw[<-T8,List.getElem?_map,h1]; rfl
 have s2:∀ (p:Nat) (e:bN × bj × au),es[p]? = some e->∃ x,tQ[p]? = some x/\x.i=e.1.idx:=fun p e aw=>by
  have:=congrArg (·[p]?) tr.idx;simp only[List.getElem?_map,aw,Option.map_some] at this;cases aj:tQ[p]? with
  | none=>rw[aj] at this; cases this
  | some x=>rw[aj] at this; simp only[Option.map_some,Option.some.injEq] at this; exact⟨x,rfl,this.symm⟩
 have p7:∀ (p:Nat) (e:bN × bj × au),es[p]? = some e->(eV (hx ops) ops)[p]? = some e.1.idx:=fun p e aw=>by
  obtain⟨x,h1,af⟩:=s2 p e aw;rw[Ul p x h1,af]
 have eB:∀ (p:Nat) (t:bN),(es.map (·.1))[p]? = some t->∃ e,es[p]? = some e/\e.1=t:=fun p t aU=>by simpa using aU
 have uQ:∀ (p:Nat) (e:bN × bj × au),es[p]? = some e->e.1.h8=true->∃ o,ops[e.1.idx]? = some o/\i3 o.op=true/\(je ops e.2.1 o=some true) :=fun p e aw fw=>by
  have fV:e.1.rK=false:=by cases h:e.1<;>rw[h] at fw<;>first | rfl | cases fw
  obtain⟨x,o,v,l1,tM,h1,af,ap,aH⟩:=tr.split p e aw fV;have w5:=(tr.at.1 p e aw).1;have fS:=ap.idx;have aR:=af.here;rw[<-fS] at aR;refine⟨o,aR,?_,?_⟩
  ·revert fw;generalize e.1=t at ap;intro fw;cases ap with
   | pure=>cases fw
   | new=>cases fw
   | fv aw _=>exact aw
  ·revert w5 fw aR;generalize e.1=t;intro fw w5 aR;cases t<;>first | (cases fw; done) | skip
   obtain⟨ci,bc,bM,_⟩:=w5;simp only[bN.idx] at aR;rw[aR] at bc; cases bc;exact bM
 have fl:vU ops (na (hx ops)) (es.map (·.1)) :=by
  refine⟨adG vt,fun i aA=>?_,fun p bV t fo aF fz aw=>?_,fun p t aF=>?_,fun p bV t fo aF fz aN=>?_,fun p bV t fo aF fz aN fw=>?_⟩
  ·rw[List.all_eq_true] at hR;have:=hR i (by simpa using aA);have hm:i∈eV (hx ops) ops:=by simpa using this
   have ij:(es.map (·.1)).map bN.idx=eV (hx ops) ops:=by
    rw[List.map_map];show es.map (fun e=>e.1.idx)=_;rw[tr.idx,<-T8];apply List.ext_getElem?;intro p;rw[List.getElem?_map,List.getElem?_map];cases aj:tQ[p]? with
    | none=>
     have:(mo P (hx ops) ops (eV (hx ops) ops) [] [])[p]? = none:=by
      rw[List.getElem?_eq_none_iff] at aj ⊢;rw[<-JN cm]; exact aj
     rw[this]; rfl
    | some x=>obtain⟨o,_,h1,_⟩:=CD p x aj; rw[h1]; rfl
   rw[<-ij] at hm;obtain⟨t,h1,af⟩:=List.mem_map.1 hm;obtain⟨p,aF⟩:=List.getElem?_of_mem h1;exact⟨p,t,aF,af⟩
  ·obtain⟨e,aV,aY⟩:=eB p t aF;obtain⟨eH,yw,yx⟩:=eB bV fo fz;have bn:=p7 p e aV;have bA:=p7 bV eH yw;rw[aY] at bn; rw[yx] at bA;rcases Nat.lt_trichotomy p bV with h | h | h
   ·exact absurd aw (Dd mn p bV _ _ bn bA h).1
   ·exact h
   ·exact absurd aw.symm (Dd mn bV p _ _ bA bn h).1
  ·obtain⟨e,aV,aY⟩:=eB p t aF;have bn:=p7 p e aV;rw[aY] at bn;exact IJ _ (List.mem_of_getElem? bn)
  ·obtain⟨e,aV,aY⟩:=eB p t aF;obtain⟨eH,yw,yx⟩:=eB bV fo fz;have bn:=p7 p e aV;have bA:=p7 bV eH yw;rw[aY] at bn; rw[yx] at bA;exact (Dd mn p bV _ _ bn bA aN).2
  ·obtain⟨e,aV,aY⟩:=eB p t aF;obtain⟨eH,yw,yx⟩:=eB bV fo fz;obtain⟨o,ei,dN,_⟩:=uQ p e aV (by rw[aY]; exact fw);have bn:=p7 p e aV;have bA:=p7 bV eH yw;rw[aY] at bn ei; rw[yx] at bA;exact RC afL p bV _ _ o bn bA aN ei dN
 have iC:∀ q,q<=es.length->(fO ops ⟨ah,bW l⟩ (es.map (·.1)) q).h=bW (rk es l' q) :=fun q bp=>by
  unfold rk;cases aw:es[q]? with
  | none=>
   have:q=es.length:=by rw[List.getElem?_eq_none_iff] at aw; omega
   rw[this,tr.at.2]
  | some e=>rw[(tr.at.1 q e aw).2]
 have oe:Ea P G ops (na (hx ops)) ⟨ah,bW l⟩ (es.map (·.1)) :=by
  refine⟨fun p t aF=>?_,fun q bp p t aqJ aF eG=>?_⟩
  ·obtain⟨e,aV,aY⟩:=eB p t aF;obtain⟨cz,de⟩:=tr.at.1 p e aV;rw[de,<-aY]; exact cz
  ·obtain⟨e,aV,aY⟩:=eB p t aF;obtain⟨cz,de⟩:=tr.at.1 p e aV;have jQ:q<=es.length:=by
    rcases bp with rfl | ⟨amw,bp,_⟩
    ·simp
    ·obtain⟨eq,bd,_⟩:=eB q amw bp;exact Nat.le_of_lt (List.getElem?_eq_some_iff.1 bd).1
   rw[iC q jQ,de];cases fV:e.1.rK with
   | true=>rw[<-aY]; cases h:e.1<;>rw[h] at fV<;>first | trivial | cases fV
   | false=>
    obtain⟨x,o,v,l1,tM,h1,af,ap,aH⟩:=tr.split p e aV fV;obtain⟨ci,f3,fU,agn⟩:=CD p x h1;have agV:ci=o:=by have a:=f3.here; have b:=af.here; rw[a] at b; exact Option.some.inj b
    subst agV;have ask:qF P ci.op=true->∀ (bV:Nat) (eH:bN × bj × au),bV<q - (p+1)->(es.drop (p+1))[bV]? = some eH->eH.1.h8=true->
      (x.i,jZ P G x.b e.2.1 v e.2.2 l1)∈pj x.cM x.i (jZ P G x.b e.2.1 v e.2.2 l1) tM/\∃ y,(tQ.drop (p+1))[bV]? = some y/\x.i∈y.hG:=by
     intro aU bV eH fz fy uC;rw[List.getElem?_drop] at fy;obtain⟨y,cd,ce⟩:=s2 _ eH fy;obtain⟨qo,dH,gI,_⟩:=CD _ y cd;obtain⟨ajw,im,ail,ara⟩:=uQ _ eH fy uC;have d2:x.i∈y.hG:=by
      refine Kd _ _ _ _ _ _ IJ gI ⟨ajw,by rw[ce]; exact im,ail⟩ x.i (.inr ⟨p,by omega,Ul p x h1⟩) ⟨ci,af.here,aU⟩ (fun e aw=>by cases aw) ?_;intro qp UB C4 aqF af4 T0 BG az
      -- what is at p'' was carried out
      have aN:qp<es.length:=by
       have:=(List.getElem?_eq_some_iff.1 fy).1;omega
      have ij:es[qp]? = some es[qp] :=List.getElem?_eq_getElem aN;have jM:=p7 _ _ ij;rw[af4] at jM;have rn:UB=es[qp].1.idx:=Option.some.inj jM;have aeU:es[qp].1.h8=true:=by
       cases zf:es[qp].1.rK with
       | true=>
        exfalso;rcases az with rfl | az
        ·rw[ij] at fy;cases fy;cases h:es[p+1+bV].1<;>rw[h] at uC zf<;>first | (cases zf; done) | (cases uC; done)
        ·have w5:=(tr.at.1 _ _ ij).1;cases h:es[qp].1<;>rw[h] at zf w5 rn<;>first | (cases zf; done) | skip
         obtain⟨pf,fK,iG⟩:=w5;simp only[bN.idx] at rn;rw[<-rn,T0] at fK; cases fK;simp[je,az] at iG
       | false=>
        obtain⟨t2,pf,v3,eS,atQ,fK,iG,tq,_⟩:=tr.split _ _ ij zf;have af6:=tq.idx;have Tn:=iG.here;rw[<-af6,<-rn,T0] at Tn; cases Tn;revert tq;generalize es[qp].1=t3;intro tq;cases tq with
        | pure m ai hm _ _=>
         exfalso;have ak:=iG.c2 m ai;have:i3 C4.op=false:=by
          revert ak hm;cases C4.op<;>simp only[lY]<;>intro hm ak<;>first | rfl | (exfalso; revert ak hm; done) | skip
          case store=>rw[map_some] at ak; obtain⟨_,_,rfl⟩:=ak; cases hm
          case call c=>
           split at ak
           ·rename_i b ai;unfold i3;simp only[ai];unfold sF at ak
            repeat' split at ak
            all_goals first
             | rfl
             | (cases ak; done)
             | (cases ak; cases hm; done)
             | (simp only[bind_some,map_some] at ak; obtain⟨_,_,rfl⟩:=ak; cases hm; done)
             | (simp only[bind_some,map_some] at ak; obtain⟨_,_,_,_,rfl⟩:=ak; cases hm; done)
             | (simp only[bind_some,he] at ak; obtain⟨_,_,_,_,_,_,_,rfl⟩:=ak; cases hm; done)
             | (simp only[bind_some,he] at ak; obtain⟨_,_,_,_,_,_,_,_,_,rfl⟩:=ak; cases hm; done)
           ·split at ak
            ·rw[he] at ak; obtain⟨_,rfl⟩:=ak; cases hm
            ·cases ak
           ·cases ak
          case next it b=>(cases b<;>simp only[reduceCtorEq] at ak<;>cases ak<;>cases hm)
          case lookup=>split at ak<;>(try cases ak; done); rw[map_some] at ak; obtain⟨_,_,rfl⟩:=ak; cases hm
          case mapUpdate=>split at ak<;>cases ak; cases hm
          case insert=>split at ak<;>cases ak; cases hm
          case panic=>(cases ak; cases hm)
          case makeMap=>split at ak<;>cases ak; cases hm
          case range=>split at ak<;>cases ak; cases hm
          case typeAssert=>rw[map_some] at ak; obtain⟨_,_,rfl⟩:=ak; cases hm
          all_goals (cases ak)
         rw[this] at BG; cases BG
        | new m cs ai hm _=>
         exfalso;have ak:=iG.c2 m ai;have:i3 C4.op=false:=by
          revert ak hm;cases C4.op<;>simp only[lY]<;>intro hm ak<;>first | rfl | (exfalso; revert ak hm; done) | skip
          case store=>rw[map_some] at ak; obtain⟨_,_,rfl⟩:=ak; cases hm
          case panic=>(cases ak; cases hm)
          case call c=>
           split at ak
           ·rename_i b ai;unfold i3;simp only[ai];unfold sF at ak
            repeat' split at ak
            all_goals first
             | rfl
             | (cases ak; done)
             | (cases ak; cases hm; done)
             | (simp only[bind_some,map_some] at ak; obtain⟨_,_,rfl⟩:=ak; cases hm; done)
             | (simp only[bind_some,map_some] at ak; obtain⟨_,_,_,_,rfl⟩:=ak; cases hm; done)
             | (simp only[bind_some,he] at ak; obtain⟨_,_,_,_,_,_,_,rfl⟩:=ak; cases hm; done)
             | (simp only[bind_some,he] at ak; obtain⟨_,_,_,_,_,_,_,_,_,rfl⟩:=ak; cases hm; done)
           ·split at ak
            ·rw[he] at ak; obtain⟨_,rfl⟩:=ak; cases hm
            ·cases ak
           ·cases ak
          case next it b=>(cases b<;>simp only[reduceCtorEq] at ak<;>cases ak<;>cases hm)
          case lookup=>split at ak<;>(try cases ak; done); rw[map_some] at ak; obtain⟨_,_,rfl⟩:=ak; cases hm
          case mapUpdate=>split at ak<;>cases ak; cases hm
          case insert=>split at ak<;>cases ak; cases hm
          case makeMap=>split at ak<;>cases ak; cases hm
          case range=>split at ak<;>cases ak; cases hm
          case typeAssert=>rw[map_some] at ak; obtain⟨_,_,rfl⟩:=ak; cases hm
          all_goals (cases ak)
         rw[this] at BG; cases BG
        | fv _ _=>rfl
      have:=eG qp es[qp].1 (by omega) (by simp[ij]) aeU;rw[rn,af.here |> fun _=>(ap.idx).symm,aY];exact this
     refine⟨?_,y,by rw[List.getElem?_drop]; exact cd,d2⟩;have:x.cM=true:=by
      rw[agn];simp only[List.contains_iff_mem,List.mem_flatMap];exact⟨(y.i,y.hG),List.mem_of_getElem? gI,d2⟩
     rw[this];exact List.mem_cons_self
    have Bw:qF P ci.op=true->(∀ l xS,jZ P G x.b e.2.1 v e.2.2 l1 l->jZ P G x.b e.2.1 v e.2.2 l1 (l++xS))->jZ P G x.b e.2.1 v e.2.2 l1 l1->jZ P G x.b e.2.1 v e.2.2 l1 (rk es l' q) :=by
     intro aU nN aQ;have:=aH.still x.i _ nN aQ (q - (p+1)) (by simp only[List.length_drop]; omega) (ask aU)
     rwa [afM,show p+1+(q - (p+1))=q by omega] at this
    rw[<-aY];revert ap Bw ask aY;generalize e.1=ng;intro aY ap ask Bw;cases ap with
    | fv=>trivial
    | pure m ai hm aq ar=>
     intro mn l9;rw[af.here] at l9; cases l9;have ak:=af.c2 m ai;cases aC:m.reads with
     | false=>exact C2 ak (aiW hm aC ar)
     | true=>
      have aU:qF P ci.op=true:=by
       cases h:qF P ci.op with
       | true=>rfl
       | false=>rw[(Rm ak h).1] at aC; cases aC
      have uZ:m.hP=false:=by cases m<;>first | rfl | cases aC
      have cm:∀ cg,jZ P G x.b e.2.1 v e.2.2 l1 cg<->bR P (cU G e.2.1) cg m=some (v,cg) :=fun cg=>by rw[ai]; simp only[jZ,uZ]
      have:=Bw aU (fun cg xS h=>by rw[cm] at h ⊢; exact aiV hm h) (by rw[cm,aq]; exact ar);rw[cm] at this;exact C2 ak this
    | new m cs ai hm aq=>
     have ak:=af.c2 m ai;have aU:qF P ci.op=true:=by
      cases h:qF P ci.op with
      | true=>rfl
      | false=>rw[(Rm ak h).2] at hm; cases hm
     have cm:∀ cg:au,jZ P G x.b e.2.1 v e.2.2 l1 cg<->cg[e.2.2.length]? = some (.cells cs.length cs) :=fun cg=>by
      rw[ai,aq]; simp only[jZ,hm]; rw[List.getElem?_append_right (Nat.le_refl _)]; simp
     have:=Bw aU (fun cg xS h=>by rw[cm] at h ⊢; rw[List.getElem?_append_left (fg h)]; exact h) (by rw[cm,aq,List.getElem?_append_right (Nat.le_refl _)]; simp);rw[cm] at this;show (bW (rk es l' q)).f (bW e.2.2).n=_;rw[la,Az,this]
 have:=dd.adF (id:=id) fl bJ oe;rw[List.length_map,tr.at.2] at this;exact this
end
section
variable {P:Program} {G:Nat->ae}
theorem NV {ops:Array Oper} {f:Nat->Option dL}:∀ {is:List Nat} {s:List dL} {os:List Oper},(∀ i x,f i=some x->∃ o,nu P ops x o/\x.i=i)->is.mapM f=some s->is.map (fun i=>ops[i]?)=os.map some->vR P ops s os
 | [],s,os,aJ,h,ay=>by
  simp at h; subst h;cases os with
  | nil=>exact .nil
  | cons=>simp at ay
 | i::is,s,os,aJ,h,ay=>by
  rw[List.mapM_cons] at h;simp only[Option.bind_eq_bind,bind_some,Option.pure_def,Option.some.injEq] at h;obtain⟨x,h1,fm,af,rfl⟩:=h;cases os with
  | nil=>simp at ay
  | cons o os=>
   simp only[List.map_cons,List.cons.injEq] at ay;obtain⟨ci,ok,aA⟩:=aJ i x h1;have:ci=o:=by have:=ok.here; rw[aA,ay.1] at this; exact (Option.some.inj this).symm
   subst this;exact .cons ok (NV aJ af ay.2)
theorem adj {N N' id:Nat} (fh:N<=N') {ops:Array Oper} {draw:Bool} {c:aX} (ak:G2 P N ops draw=some c) {ah:bj} {l:au} {K:gg} (h:run P G c ah l K) :
  ∃ e bY l',dd P G (.code (.region id ops draw) N' ah (bW l) e bY (bW l'))/\l.length<=l'.length/\K e bY l':=by
 unfold G2 at ak;split at ak
 ·cases ak
 ·rename_i nM;have bJ:∀ (i:Nat) (o:Oper),ops[i]? = some o->nE N' o.dst=true:=fun i o ay=>by
   rw[List.all_eq_true] at nM;have:=nM o (by simpa using Array.mem_of_getElem? ay);unfold nE at this ⊢;split at this
   ·rename_i d _; exact decide_eq_true (Nat.lt_of_lt_of_le (of_decide_eq_true this) fh)
   ·rfl
  split at ak
  ·rw[map_some] at ak;obtain⟨s,h1,rfl⟩:=ak;have eP:vR P ops s ops.toList:=by
    refine NV (fun i x aj=>?_) h1 ?_
    ·obtain⟨o,af,ap,_⟩:=DG aj; exact⟨o,af,ap⟩
    ·apply List.ext_getElem?;intro p;rw[List.getElem?_map,List.getElem?_map];by_cases aF:p<ops.size
     ·rw[List.getElem?_range aF]; simp[aF]
     ·rw[List.getElem?_eq_none (by simp; omega),List.getElem?_eq_none (by simp; omega)]; rfl
   obtain⟨bY,l',af,ap,aH⟩:=MO bJ eP h;exact⟨.normal,bY,l',.region af,ap,aH⟩
  ·simp only at ak;split at ak
   ·cases ak
   ·rename_i HW;simp only[Bool.and_eq_true] at HW;split at ak
    ·cases ak
    ·rename_i s ar;have dG:∀ x∈s,∃ o,nu P ops x o:=fun x aj=>by
      obtain⟨p,aF⟩:=List.getElem?_of_mem aj;obtain⟨a,_,af⟩:=CY ar p x aF;obtain⟨o,ap,_⟩:=DG af;exact⟨o,ap⟩
     have fin:iq P G s ah l [] (K .normal)->∃ e bY l',dd P G (.code (.region id ops true) N' ah (bW l) e bY (bW l'))/\l.length<=l'.length/\K e bY l':=fun h=>by
      obtain⟨es,bY,l',h1,af⟩:=MK dG h;exact⟨.normal,bY,l',adI bJ HW.1 HW.2 ar h1,h1.len,af⟩
     split at ak
     ·rename_i wF;cases ak;refine fin (MM (fun x aj=>?_) h)
      obtain⟨p,aF⟩:=List.getElem?_of_mem aj;obtain⟨a,_,af⟩:=CY ar p x aF;obtain⟨o,_,_,_,ap⟩:=DG af;rw[ap,wF]; rfl
     ·cases ak;exact fin h
theorem aln {N N' : Nat} (fh:N<=N') :∀ (code:Code) (c:aX),comp P N code=some c->∀ (ah:bj) (l:au) (K:gg),run P G c ah l K->
  ∃ e bY l',dd P G (.code code N' ah (bW l) e bY (bW l'))/\l.length<=l'.length/\K e bY l':=by
 intro code
 induction code with
 | skip=>intro c ak ah l K h; cases ak; exact⟨_,_,_,.skip _ _ _,Nat.le_refl _,h⟩
 | label n=>intro c ak ah l K h; cases ak; exact⟨_,_,_,.label _ _ _ _,Nat.le_refl _,h⟩
 | ret=>intro c ak ah l K h; cases ak; exact⟨_,_,_,.ret _ _ _,Nat.le_refl _,h⟩
 | exit id=>intro c ak ah l K h; cases ak; exact⟨_,_,_,.exit _ _ _ _,Nat.le_refl _,h⟩
 | region id ops draw=>intro c ak ah l K h; exact adj fh ak h
 | seq a b Je Jf=>
  intro c ak ah l K h;have mk:∀ (v8 sy:aX),comp P N a=some v8->comp P N b=some sy->run P G v8 ah l (ml (fun ah l=>run P G sy ah l K) K)->∃ e bY l',dd P G (.code (.seq a b) N' ah (bW l) e bY (bW l'))/\l.length<=l'.length/\K e bY l':=by
   intro v8 sy aG ai h;obtain⟨e,hW,l1,h1,af,ap⟩:=Je v8 aG ah l _ h;cases e with
   | normal=>
    obtain⟨e,NB,cg,aH,bc,bM⟩:=Jf sy ai hW l1 K ap;exact⟨e,NB,cg,.aad h1 aH,Nat.le_trans af bc,bM⟩
   | exit id=>exact⟨_,hW,l1,.MW h1 (by intro h; cases h),af,ap⟩
   | ret=>exact⟨_,hW,l1,.MW h1 (by intro h; cases h),af,ap⟩
  simp only[comp] at ak;split at ak
  ·rename_i bo aG ai;cases ak;exact mk _ _ aG ai h
  ·rename_i eo _ aG ai;cases ak;refine mk _ _ aG ai ?_;have:ml (fun ah l=>run P G .skip ah l K) K=K:=by
    funext e ah l;cases e<;>rfl
   rw[this]; exact h
  ·rename_i eo bo _ _ aG ai;cases ak;exact mk _ _ aG ai h
  ·cases ak
 | cond c x y Ji Jj=>
  intro A3 ak ah l K h;simp only[comp] at ak;split at ak
  ·rename_i DY Av aj aO;cases ak;simp only[run,vj] at h;split at h
   ·rename_i b ai;rw[zz] at h;rcases h with ⟨rfl,h⟩ | ⟨rfl,h⟩
    ·obtain⟨e,hW,l1,h1,af,ap⟩:=Ji DY aj ah l K h;exact⟨e,hW,l1,.cond ai h1,af,ap⟩
    ·obtain⟨e,hW,l1,h1,af,ap⟩:=Jj Av aO ah l K h;exact⟨e,hW,l1,.cond ai h1,af,ap⟩
   ·cases h
  ·cases ak
 | block id c aK=>
  intro A3 ak ah l K h;simp only[comp,map_some] at ak;obtain⟨c',h1,rfl⟩:=ak;obtain⟨e,hW,l1,af,ap,aH⟩:=aK c' h1 ah l _ h;cases e with
  | normal=>exact⟨_,hW,l1,.AR af (by intro h; cases h),ap,aH⟩
  | ret=>exact⟨_,hW,l1,.AR af (by intro h; cases h),ap,aH⟩
  | exit qd=>
   simp only[o0] at aH;split at aH
   ·rename_i ai;obtain rfl:=i7 ai;exact⟨_,hW,l1,.Ou af,ap,aH⟩
   ·rename_i ai;exact⟨_,hW,l1,.AR af (by intro h; cases h; rw[Nat.beq_refl] at ai; cases ai),ap,aH⟩
 | loop c aK=>
  intro A3 ak ah l K h;simp only[comp,map_some] at ak;obtain⟨c',h1,rfl⟩:=ak;obtain⟨n,h⟩:=h
  induction n generalizing ah l with
  | zero=>cases h
  | succ n Jh=>
   obtain⟨e,hW,l1,af,ap,aH⟩:=aK c' h1 ah l _ h;cases e with
   | normal=>
    obtain⟨e,NB,cg,bc,bM,eE⟩:=Jh hW l1 aH;exact⟨e,NB,cg,.xl af bc,Nat.le_trans ap bM,eE⟩
   | exit id=>exact⟨_,hW,l1,.JH af (by intro h; cases h),ap,aH⟩
   | ret=>exact⟨_,hW,l1,.JH af (by intro h; cases h),ap,aH⟩
 | scope c aK=>
  intro A3 ak ah l K h;obtain⟨e,hW,l1,af,ap,aH⟩:=aK A3 ak ah l K h;exact⟨e,hW,l1,.scope af,ap,aH⟩
 | _=>intro c ak; cases ak
def Rk (P:Program) :ResultVar->Option bb
 | .tmp t=>some (.av (.tmp t))
 | .cell a t=>lY P (.load t (.tmp a))
def bC (P:Program) (f:FuncId) :Option (List bb) :=match P.funcs[f]? with
 | some fn=>fn.results.toList.mapM (Rk P)
 | none=>none
def mj (P:Program) (G:Nat->ae) (K:ae->au->Prop) (ah:bj) (l:au) :List bb->List ae->Prop
 | [],acc=>K (tS acc) l
 | m::r,acc=>W (bR P (cU G ah) l m) (c:=⟨fun x=>mj P G K ah l r (acc++[x.1])⟩)
def Ju (P:Program) (G:Nat->ae) (ms:List bb) (K:ae->au->Prop) :gg:=fun e ah l=>match e with
 | .exit _=>False
 | .normal=>mj P G K ah l ms []
 | .ret=>mj P G K ah l ms []
def AO (args:List ae) :bj:=fun t=>args.getD t gv
theorem UO {K:ae->au->Prop} {ah:bj} {l:au}:∀ {lJ:List ResultVar} {ms:List bb} {acc:List ae},lJ.mapM (Rk P)=some ms->mj P G K ah l ms acc->∃ vs,tG P (bW l) ah lJ=some vs/\K (tS (acc++vs)) l
 | [],ms,acc,hm,h=>by simp at hm; subst hm; exact⟨[],rfl,by simpa [mj] using h⟩
 | r::lJ,ms,acc,hm,h=>by
  rw[List.mapM_cons] at hm;simp only[Option.bind_eq_bind,bind_some,Option.pure_def,Option.some.injEq] at hm;obtain⟨m,h1,as9,af,rfl⟩:=hm;simp only[mj,vX] at h;obtain⟨⟨v,l1⟩,ap,aH⟩:=h;obtain⟨vs,bc,bM⟩:=UO af aH;refine⟨v::vs,?_,by simpa using bM⟩;have:xF P (bW l) ah r=some v:=by
   cases r with
   | tmp t=>cases h1; simp only[bR,Option.some.injEq,Prod.mk.injEq] at ap; rw[<-ap.1]; rfl
   | cell a t=>
    have d8:lY P (.load t (.tmp a))=some m:=h1;have:=C2 d8 ap;simp only[cV] at this;unfold xF;show qg P (bW l) t (cU G ah (.tmp a))=some v;cases aq:qg P (bW l) t (cU G ah (.tmp a)) with
    | none=>rw[aq] at this; cases this
    | some x=>rw[aq] at this; simp only[Option.map_some,Option.some.injEq,nt.val.injEq] at this; rw[this.1]
  simp only[tG,this,bc]
theorem bI {f:FuncId} {c:aX} {ms:List bb} (ak:bB P f=some c) (aC:bC P f=some ms) {args:List ae} {l:au} {K:uc}
  (h:run P G c (AO args) l (Ju P G ms K.k)) :dB P G f args l (c:=K) :=by
 unfold bB at ak;unfold bC at aC;split at ak
 ·rename_i fn iW;split at ak
  ·rename_i body ai;rw[iW] at aC;obtain⟨e,bY,l',h1,af,ap⟩:=aln (N':=args.length+(fn.ntmps - args.length)) (by omega) body c ak _ _ _ h;have fin:(e=.normal\/e=.ret)->mj P G K.k bY l' ms []->dB P G f args l (c:=K) :=fun aw ap=>by
    obtain⟨vs,aH,bc⟩:=UO aC ap;exact⟨tS vs,l',.inline iW ai h1 aw (by simp only[Dx,aH]; rfl),af,by simpa using bc⟩
   cases e with
   | normal=>exact fin (.inl rfl) ap
   | ret=>exact fin (.inr rfl) ap
   | exit id=>cases ap
  ·cases ak
 ·cases ak
theorem aap {b:oo} {ah:bj} {l:au} {K fB:ae->au->Prop} (a7:∀ v l,K v l->fB v l) (h:gU P G b ah l K) :gU P G b ah l fB:=by
 cases b with
 | c2 m=>simp only[gU,vX] at h ⊢; obtain⟨v,h1,af⟩:=h; exact⟨v,h1,UQ a7 af⟩
 | dq f args=>obtain⟨r,l',h1,af,ap⟩:=h; exact⟨r,l',h1,af,a7 _ _ ap⟩
 | hn x args=>
  simp only[gU,sx] at h ⊢;split at h
  ·obtain⟨aQ,r,l',h1,af,ap⟩:=h; exact⟨aQ,r,l',h1,af,a7 _ _ ap⟩
  ·cases h
 | mI x name args=>
  simp only[gU,sw] at h ⊢;split at h
  ·split at h
   ·obtain⟨aQ,r,l',h1,af,ap⟩:=h; exact⟨aQ,r,l',h1,af,a7 _ _ ap⟩
   ·cases h
  ·cases h
theorem UM {ah:bj} {g:Option (Option Tmp × Bool)} {p q bV eT:Prop} (aF:p->bV) (bp:q->eT) (h:n3 ah g p q) :n3 ah g bV eT:=by
 unfold n3 at h ⊢;split at h
 ·exact aF h
 ·simp only[o1] at h ⊢;split at h
  ·rw[zz] at h ⊢;rcases h with ⟨a,b⟩ | ⟨a,b⟩
   ·exact .inl ⟨a,aF b⟩
   ·exact .inr ⟨a,bp b⟩
  ·cases h
  ·exact bp h
 ·exact bp h
theorem MN {K fB:bj->au->Prop} (a7:∀ ah l,K ah l->fB ah l) :∀ {s:List dL} {ah:bj} {l:au},ic P G s ah l K->ic P G s ah l fB
 | [],_,_,h=>a7 _ _ h
 | s::r,_,_,h=>UM (aap fun _ _ h=>MN a7 h) (fun h=>MN a7 h) h
theorem MJ {K fB:bj->au->Prop} (a7:∀ ah l,K ah l->fB ah l) :∀ {s:List dL} {ah:bj} {l:au} {seen:hj},iq P G s ah l seen K->iq P G s ah l seen fB
 | [],_,_,_,h=>a7 _ _ h
 | s::r,_,_,_,h=>UM (aap fun _ _ h=>⟨h.1,MJ a7 h.2⟩) (fun h=>MJ a7 h) h
theorem zA {k k' : bj->au->Prop} {K fB:gg} (aE:∀ ah l,k ah l->k' ah l) (a7:∀ e ah l,K e ah l->fB e ah l) :∀ e ah l,ml k K e ah l->ml k' fB e ah l:=by
 intro e ah l h; cases e<;>first | exact aE _ _ h | exact a7 _ _ _ h
theorem MR:∀ {c:aX} {ah:bj} {l:au} {K fB:gg},(∀ e ah l,K e ah l->fB e ah l)->run P G c ah l K->run P G c ah l fB:=by
 intro c
 induction c with
 | skip=>intro ah l K fB a7 h; exact a7 _ _ _ h
 | ret=>intro ah l K fB a7 h; exact a7 _ _ _ h
 | exit id=>intro ah l K fB a7 h; exact a7 _ _ _ h
 | al s=>intro ah l K fB a7 h; exact MN (a7 _) h
 | ho s=>intro ah l K fB a7 h; exact MJ (a7 _) h
 | seq a b Je Jf=>intro ah l K fB a7 h; exact Je (zA (fun ah l h=>Jf a7 h) a7) h
 | cond c x y Ji Jj=>
  intro ah l K fB a7 h;simp only[run,vj] at h ⊢;split at h
  ·rw[zz] at h ⊢;rcases h with ⟨a,b⟩ | ⟨a,b⟩
   ·exact .inl ⟨a,Ji a7 b⟩
   ·exact .inr ⟨a,Jj a7 b⟩
  ·cases h
 | block id c aK=>
  intro ah l K fB a7 h;refine aK (fun e ah l h=>?_) h;cases e with
  | normal=>exact a7 _ _ _ h
  | ret=>exact a7 _ _ _ h
  | exit qd=>
   simp only[o0] at h ⊢;split at h
   ·exact a7 _ _ _ h
   ·exact a7 _ _ _ h
 | loop c aK=>
  intro ah l K fB a7 h;obtain⟨n,h⟩:=h;refine⟨n,?_⟩
  induction n generalizing ah l with
  | zero=>cases h
  | succ n Jh=>exact aK (zA (fun ah l h=>Jh h) a7) h
theorem dB.mono {f:FuncId} {args:List ae} {l:au} {K fB:uc} (a7:∀ v l,K.k v l->fB.k v l) (h:dB P G f args l (c:=K)) :dB P G f args l (c:=fB) :=by
 obtain⟨r,l',h1,af,ap⟩:=h; exact⟨r,l',h1,af,a7 _ _ ap⟩
theorem vm {c:aX} {K:D2} (I:Nat->bj->au->Prop) (step:∀ n ah l,I n ah l->run P G c ah l (ml (fun ah l=>∃ ga,ga<n/\I ga ah l) K.k)) :∀ n ah l,I n ah l->AB (run P G c) ah l (c:=K) :=by
 intro n
 induction n using Nat.strongRecOn with
 | _ n aK=>
  intro ah l h
  -- fuel n+1 is enough
  have yz:∀ (m n:Nat),n<=m->∀ ah l,I n ah l->xl (run P G c) (m+1) ah l K.k:=by
   intro m
   induction m with
   | zero=>
    intro n aI ah l h;obtain rfl:n=0:=by omega
    exact MR (zA (fun ah l ⟨ga,h1,_⟩=>by omega) (fun _ _ _ h=>h)) (step 0 ah l h)
   | succ m Jg=>
    intro n aI ah l h;exact MR (zA (fun ah l ⟨ga,h1,af⟩=>Jg ga (by omega) ah l af) (fun _ _ _ h=>h)) (step n ah l h)
  exact⟨n+1,yz n n (Nat.le_refl _) ah l h⟩
theorem c0 {c:aX} {K:D2} (n:Nat) (I:Nat->bj->au->Prop) (step:∀ k ah l,k<=n->I k ah l->run P G c ah l (ml (fun ah l=>k<n/\I (k+1) ah l) K.k)) {ah:bj} {l:au} (h:I 0 ah l) :AB (run P G c) ah l (c:=K) :=by
 refine vm (fun m ah l=>∃ k,k+m=n/\I k ah l) (fun m ah l ⟨k,aE,h⟩=>?_) n ah l ⟨0,by omega,h⟩;exact MR (zA (fun ah l ⟨h1,af⟩=>⟨m - 1,by omega,k+1,by omega,af⟩) (fun _ _ _ h=>h)) (step k ah l (by omega) h)
end
section
variable {P:Program} {G:Nat->ae}
@[simp ↓] theorem atP (ah:bj) (l:au) (K:gg) :run P G .skip ah l K=K .normal ah l:=id rfl
@[simp ↓] theorem atN (ah:bj) (l:au) (K:gg) :run P G .ret ah l K=K .ret ah l:=id rfl
@[simp ↓] theorem atK (i:Nat) (ah:bj) (l:au) (K:gg) :run P G (.exit i) ah l K=K (.exit i) ah l:=id rfl
@[simp ↓] theorem atM (s:List dL) (ah:bj) (l:au) (K:gg) :run P G (.al s) ah l K=ic P G s ah l (K .normal) :=id rfl
@[simp ↓] theorem atJ (s:List dL) (ah:bj) (l:au) (K:gg) :run P G (.ho s) ah l K=iq P G s ah l [] (K .normal) :=id rfl
@[simp ↓] theorem atO (a b:aX) (ah:bj) (l:au) (K:gg) :run P G (.seq a b) ah l K=run P G a ah l (ml (fun ah l=>run P G b ah l K) K) :=id rfl
@[simp ↓] theorem atI (c:Operand) (x y:aX) (ah:bj) (l:au) (K:gg) :run P G (.cond c x y) ah l K=vj (cU G ah c) (c:=⟨run P G x ah l K,run P G y ah l K⟩) :=id rfl
@[simp ↓] theorem atH (i:Nat) (c:aX) (ah:bj) (l:au) (K:gg) :run P G (.block i c) ah l K=run P G c ah l (o0 i K) :=id rfl
@[simp ↓] theorem atL (c:aX) (ah:bj) (l:au) (K:gg) :run P G (.loop c) ah l K=AB (run P G c) ah l (c:=⟨K⟩) :=id rfl
@[simp ↓] theorem arw (k:bj->au->Prop) (K:gg) (ah:bj) (l:au) :ml k K .normal ah l=k ah l:=id rfl
@[simp ↓] theorem arv (k:bj->au->Prop) (K:gg) (i:Nat) (ah:bj) (l:au) :ml k K (.exit i) ah l=K (.exit i) ah l:=id rfl
@[simp ↓] theorem arx (k:bj->au->Prop) (K:gg) (ah:bj) (l:au) :ml k K .ret ah l=K .ret ah l:=id rfl
@[simp ↓] theorem arc (i:Nat) (K:gg) (ah:bj) (l:au) :o0 i K .normal ah l=K .normal ah l:=id rfl
@[simp ↓] theorem ard (i:Nat) (K:gg) (ah:bj) (l:au) :o0 i K .ret ah l=K .ret ah l:=id rfl
def tm (p:Prop) [Decidable p] [c:xX] :Prop:=if p then c.p else c.q
@[simp ↓] theorem arb (i j:Nat) (K:gg) (ah:bj) (l:au) :o0 i K (.exit j) ah l=tm (j=i) (c:=⟨K .normal ah l,K (.exit j) ah l⟩) :=by
 unfold o0 tm;by_cases h:j=i
 ·simp only[qm h,if_pos h]
 ·simp only[io h,if_neg h]
@[simp ↓] theorem ark (i:Nat) (x y:Prop) :tm (i=i) (c:=⟨x,y⟩)=x:=by simp[tm]
@[simp] theorem arl (x y:Prop) :tm True (c:=⟨x,y⟩)=x:=by simp[tm]
@[simp] theorem arj (x y:Prop) :tm False (c:=⟨x,y⟩)=y:=by simp[tm]
@[simp ↓] theorem arh (ms:List bb) (K:ae->au->Prop) (ah:bj) (l:au) :Ju P G ms K .normal ah l=mj P G K ah l ms [] :=id rfl
@[simp ↓] theorem ari (ms:List bb) (K:ae->au->Prop) (ah:bj) (l:au) :Ju P G ms K .ret ah l=mj P G K ah l ms [] :=id rfl
@[simp ↓] theorem aru (K:ae->au->Prop) (ah:bj) (l:au) (acc:List ae) :mj P G K ah l [] acc=K (tS acc) l:=id rfl
@[simp ↓] theorem art (K:ae->au->Prop) (ah:bj) (l:au) (m:bb) (r:List bb) (acc:List ae) :mj P G K ah l (m::r) acc=W (bR P (cU G ah) l m) (c:=⟨fun x=>mj P G K ah l r (acc++[x.1])⟩) :=id rfl
@[simp] theorem at5 (v:ae) :tS [v]=v:=id rfl
@[simp] theorem at6 (v w:ae) (r:List ae) :tS (v::w::r)=.bU (v::w::r) :=id rfl
@[simp ↓] theorem atG (ah:bj) (l:au) (K:bj->au->Prop) :ic P G [] ah l K=K ah l:=id rfl
@[simp ↓] theorem atF (i:Nat) (dst:Option Tmp) (m:bb) (c:List Nat) (k:Bool) (r:List dL) (ah:bj) (l:au) (K:bj->au->Prop) :
  ic P G (⟨i,dst,none,.c2 m,c,k⟩::r) ah l K=W (bR P (cU G ah) l m) (c:=⟨fun x=>dS m x.1 x.2 fun v l'=>ic P G r (gp ah dst v) l' K⟩) :=id rfl
@[simp ↓] theorem atB (i:Nat) (dst:Option Tmp) (f:FuncId) (args:List Operand) (c:List Nat) (k:Bool) (r:List dL) (ah:bj) (l:au) (K:bj->au->Prop) :
  ic P G (⟨i,dst,none,.dq f args,c,k⟩::r) ah l K=dB P G f (args.map (cU G ah)) l (c:=⟨fun v l'=>ic P G r (gp ah dst v) l' K⟩) :=id rfl
@[simp ↓] theorem atD (i:Nat) (dst:Option Tmp) (x:Operand) (args:List Operand) (c:List Nat) (k:Bool) (r:List dL) (ah:bj) (l:au) (K:bj->au->Prop) :
  ic P G (⟨i,dst,none,.hn x args,c,k⟩::r) ah l K=sx P G (cU G ah x) (args.map (cU G ah)) l (c:=⟨fun v l'=>ic P G r (gp ah dst v) l' K⟩) :=id rfl
@[simp ↓] theorem atC (i:Nat) (dst:Option Tmp) (x:Operand) (name:String) (args:List Operand) (c:List Nat) (k:Bool) (r:List dL) (ah:bj) (l:au) (K:bj->au->Prop) :
  ic P G (⟨i,dst,none,.mI x name args,c,k⟩::r) ah l K=sw P G name (cU G ah x) (args.map (cU G ah)) l (c:=⟨fun v l'=>ic P G r (gp ah dst v) l' K⟩) :=id rfl
@[simp ↓] theorem aoI (name:String) (t:TypeId) (v:ae) (args:List ae) (l:au) (c:uc) :
  sw P G name (.fH t v) args l (c:=c)=(match vq P t name with | some g=>iS P g=true/\dB P G g (v::args) l (c:=c) | none=>False) :=id rfl
@[simp ↓] theorem atE (i:Nat) (dst:Option Tmp) (d:Tmp) (w:Bool) (b:oo) (c:List Nat) (k:Bool) (r:List dL) (ah:bj) (l:au) (K:bj->au->Prop) :
  ic P G (⟨i,dst,some (some d,w),b,c,k⟩::r) ah l K=o1 (ah d) w (c:=⟨ic P G (⟨i,dst,none,b,c,k⟩::r) ah l K,ic P G r (gp ah dst gv) l K⟩) :=id rfl
@[simp ↓] theorem atA (ah:bj) (l:au) (seen:hj) (K:bj->au->Prop) :iq P G [] ah l seen K=K ah l:=id rfl
@[simp ↓] theorem atz (i:Nat) (dst:Option Tmp) (m:bb) (c:List Nat) (k:Bool) (r:List dL) (ah:bj) (l:au) (seen:hj) (K:bj->au->Prop) :
  iq P G (⟨i,dst,none,.c2 m,c,k⟩::r) ah l seen K=W (bR P (cU G ah) l m) (c:=⟨fun x=>dS m x.1 x.2 fun v l'=>nB c seen l'/\iq P G r (gp ah dst v) l' (pj k i (jZ P G (.c2 m) ah v l l') seen) K⟩) :=id rfl
@[simp ↓] theorem atw (i:Nat) (dst:Option Tmp) (f:FuncId) (args:List Operand) (c:List Nat) (k:Bool) (r:List dL) (ah:bj) (l:au) (seen:hj) (K:bj->au->Prop) :
  iq P G (⟨i,dst,none,.dq f args,c,k⟩::r) ah l seen K=dB P G f (args.map (cU G ah)) l (c:=⟨fun v l'=>nB c seen l'/\iq P G r (gp ah dst v) l' (pj k i (fun _=>True) seen) K⟩) :=id rfl
@[simp ↓] theorem atx (i:Nat) (dst:Option Tmp) (x:Operand) (args:List Operand) (c:List Nat) (k:Bool) (r:List dL) (ah:bj) (l:au) (seen:hj) (K:bj->au->Prop) :
  iq P G (⟨i,dst,none,.hn x args,c,k⟩::r) ah l seen K=sx P G (cU G ah x) (args.map (cU G ah)) l (c:=⟨fun v l'=>nB c seen l'/\iq P G r (gp ah dst v) l' (pj k i (fun _=>True) seen) K⟩) :=id rfl
@[simp ↓] theorem aty (i:Nat) (dst:Option Tmp) (d:Tmp) (w:Bool) (b:oo) (c:List Nat) (k:Bool) (r:List dL) (ah:bj) (l:au) (seen:hj) (K:bj->au->Prop) :
  iq P G (⟨i,dst,some (some d,w),b,c,k⟩::r) ah l seen K=o1 (ah d) w (c:=⟨iq P G (⟨i,dst,none,b,c,k⟩::r) ah l seen K,iq P G r (gp ah dst gv) l seen K⟩) :=id rfl
@[simp] theorem ao3 (ids:List Nat) (l:au) :nB ids [] l=True:=id rfl
@[simp] theorem ao2 (ids:List Nat) (e:Nat × (au->Prop)) (r:hj) (l:au) :nB ids (e::r) l=((ids.contains e.1=true->e.2 l)/\nB ids r l) :=id rfl
@[simp] theorem atS (i:Nat) (p:au->Prop) (s:hj) :pj true i p s=(i,p) ::s:=id rfl
@[simp] theorem atR (i:Nat) (p:au->Prop) (s:hj) :pj false i p s=s:=id rfl
@[simp] theorem atY (m:bb) (ah:bj) (v:ae) (l l' l1:au) :jZ P G (.c2 m) ah v l l' l1=(match m.hP with | true=>l1[l.length]? = l'[l.length]? | false=>bR P (cU G ah) l1 m=some (v,l1)) :=id rfl
@[simp ↓] theorem ar7 (x:Operand) (v:ae) (l:au) (K:ae->au->Prop) :dS (.av x) v l K=K v l:=id rfl
@[simp ↓] theorem asa (c a b:Operand) (v:ae) (l:au) (K:ae->au->Prop) :dS (.pick c a b) v l K=K v l:=id rfl
@[simp ↓] theorem ary (z:List ae) (v:ae) (l:au) (K:ae->au->Prop) :dS (.alloc z) v l K=K v l:=id rfl
@[simp ↓] theorem arD (x:Operand) (v:ae) (l:au) (K:ae->au->Prop) :dS (.box x) v l K=K v l:=id rfl
@[simp ↓] theorem arC (z:List ae) (cx:List (Nat × Nat × Operand)) (v:ae) (l:au) (K:ae->au->Prop) :dS (.gA z cx) v l K=K v l:=id rfl
@[simp ↓] theorem arE (z:Nat) (zero:List ae) (n:Nat) (cx:List (Nat × Operand)) (v:ae) (l:au) (K:ae->au->Prop) :dS (.c5 z zero n cx) v l K=K v l:=id rfl
@[simp ↓] theorem arV (a:Operand) (v:ae) (l:au) (K:ae->au->Prop) :dS (.ld1 a) v l K=K v l:=id rfl
@[simp ↓] theorem arW (n:Nat) (a:Operand) (v:ae) (l:au) (K:ae->au->Prop) :dS (.bh n a) v l K=K v l:=id rfl
@[simp ↓] theorem asd (n:Nat) (a x:Operand) (v:ae) (l:au) (K:ae->au->Prop) :dS (.st n a x) v l K=K v l:=id rfl
@[simp ↓] theorem ar8 (x:Operand) (v:ae) (l:au) (K:ae->au->Prop) :dS (.lF x) v l K=K v l:=id rfl
@[simp ↓] theorem arB (o:BinOp) (t:TypeId) (x y:Operand) (v:ae) (l:au) (K:ae->au->Prop) :dS (.bin o t x y) v l K=K v l:=id rfl
@[simp ↓] theorem asf (o:UnOp) (x:Operand) (v:ae) (l:au) (K:ae->au->Prop) :dS (.un o x) v l K=K v l:=id rfl
@[simp ↓] theorem arH (k:IntKind) (x:Operand) (v:ae) (l:au) (K:ae->au->Prop) :dS (.cR k x) v l K=K v l:=id rfl
@[simp ↓] theorem arM (x:Operand) (v:ae) (l:au) (K:ae->au->Prop) :dS (.wm x) v l K=K v l:=id rfl
@[simp ↓] theorem arG (x:Operand) (v:ae) (l:au) (K:ae->au->Prop) :dS (.qY x) v l K=K v l:=id rfl
@[simp ↓] theorem arL (x:Operand) (v:ae) (l:au) (K:ae->au->Prop) :dS (.pH x) v l K=K v l:=id rfl
@[simp ↓] theorem ar3 (t:TypeId) (x:Operand) (v:ae) (l:au) (K:ae->au->Prop) :dS (.rT t x) v l K=K v l:=id rfl
@[simp ↓] theorem ase (t:TypeId) (z:ae) (ok:Bool) (x:Operand) (v:ae) (l:au) (K:ae->au->Prop) :dS (.xK t z ok x) v l K=K v l:=id rfl
@[simp ↓] theorem ar2 (f:FuncId) (a b:List Operand) (v:ae) (l:au) (K:ae->au->Prop) :dS (.qj f a b) v l K=K v l:=id rfl
@[simp ↓] theorem ar5 (z b:Nat) (zero:List ae) (x y:Operand) (v:ae) (l:au) (K:ae->au->Prop) :dS (.k2 z b zero x y) v l K=K v l:=id rfl
@[simp ↓] theorem asc (c3:ix) (x:Operand) (cI aA cF:Option Operand) (v:ae) (l:au) (K:ae->au->Prop) :dS (.slice c3 x cI aA cF) v l K=K v l:=id rfl
@[simp ↓] theorem arO (n:Nat) (x:Operand) (v:ae) (l:au) (K:ae->au->Prop) :dS (.aW n x) v l K=K v l:=id rfl
@[simp ↓] theorem arP (n:Nat) (x:Operand) (v:ae) (l:au) (K:ae->au->Prop) :dS (.yu n x) v l K=K v l:=id rfl
@[simp ↓] theorem arQ (n m:Nat) (x:Operand) (v:ae) (l:au) (K:ae->au->Prop) :dS (.ww n m x) v l K=K v l:=id rfl
@[simp ↓] theorem arR (c3:ix) (x y:Operand) (v:ae) (l:au) (K:ae->au->Prop) :dS (.bq c3 x y) v l K=K v l:=id rfl
@[simp ↓] theorem arS (n z:Nat) (x y:Operand) (v:ae) (l:au) (K:ae->au->Prop) :dS (.vf n z x y) v l K=K v l:=id rfl
@[simp ↓] theorem arT (n z:Nat) (x y:Operand) (v:ae) (l:au) (K:ae->au->Prop) :dS (.zu n z x y) v l K=K v l:=id rfl
@[simp ↓] theorem arU (x y:Operand) (v:ae) (l:au) (K:ae->au->Prop) :dS (.oZ x y) v l K=K v l:=id rfl
@[simp ↓] theorem arN (x:Operand) (n:Nat) (v:ae) (l:au) (K:ae->au->Prop) :dS (.ext x n) v l K=K v l:=id rfl
@[simp ↓] theorem arX (c3:ix) (x:Operand) (v:ae) (l:au) (K:ae->au->Prop) :dS (.len c3 x) v l K=K v l:=id rfl
@[simp ↓] theorem arF (c3:ix) (x:Operand) (v:ae) (l:au) (K:ae->au->Prop) :dS (.cap c3 x) v l K=K v l:=id rfl
@[simp ↓] theorem arA (z b:Nat) (zero:List ae) (x y:Operand) (v:ae) (l:au) (K:ae->au->Prop) :dS (.pA z b zero x y) v l K=K v l:=id rfl
@[simp ↓] theorem arK (z:Nat) (x y:Operand) (v:ae) (l:au) (K:ae->au->Prop) :dS (.sI z x y) v l K=K v l:=id rfl
@[simp ↓] theorem arI (zero:List ae) (x:Operand) (v:ae) (l:au) (K:ae->au->Prop) :dS (.qZ zero x) v l K=K v l:=id rfl
@[simp ↓] theorem ar1 (x y:Operand) (v:ae) (l:au) (K:ae->au->Prop) :dS (.min x y) v l K=K v l:=id rfl
@[simp ↓] theorem ar0 (x y:Operand) (v:ae) (l:au) (K:ae->au->Prop) :dS (.max x y) v l K=K v l:=id rfl
@[simp ↓] theorem arz (z b:Nat) (x y:Operand) (v:ae) (l:au) (K:ae->au->Prop) :dS (.app z b x y) v l K=du v l (c:=⟨K⟩) :=id rfl
theorem du.cM {v:ae} {l:au} {K:ae->au->Prop} (h:K v l) :du v l (c:=⟨K⟩) :=.inl h
@[simp] theorem aq3 (a:Operand) :(bb.ld1 a).hP=false:=id rfl
@[simp] theorem aq4 (n:Nat) (a:Operand) :(bb.bh n a).hP=false:=id rfl
@[simp] theorem aq0 (k:IntKind) (a:Operand) :(bb.cR k a).hP=false:=id rfl
@[simp] theorem aq2 (a:Operand) :(bb.wm a).hP=false:=id rfl
@[simp] theorem aqZ (a:Operand) :(bb.qY a).hP=false:=id rfl
@[simp] theorem aq1 (a:Operand) :(bb.pH a).hP=false:=id rfl
@[simp] theorem aqW (z:List ae) :(bb.alloc z).hP=true:=id rfl
@[simp] theorem aqX (a:Operand) :(bb.box a).hP=true:=id rfl
@[simp] theorem aqY (z:Nat) (zero:List ae) (n:Nat) (cx:List (Nat × Operand)) :(bb.c5 z zero n cx).hP=true:=id rfl
@[simp] theorem aq5 (z b:Nat) (zero:List ae) (x y:Operand) :(bb.k2 z b zero x y).hP=true:=id rfl
@[simp] theorem atn (l l' : au) (x:Option ae) (v:ae) :(di l x=some (v,l'))=(x=some v/\l'=l) :=propext fu
@[simp ↓] theorem an1 {α:Type} (x:α) (k:α->Prop) :W (some x) (c:=⟨k⟩)=k x:=id rfl
@[simp ↓] theorem an0 (l:au) (o:Option ae) (k:ae × au->Prop) :W (di l o) (c:=⟨k⟩)=W o (c:=⟨fun v=>k (v,l)⟩) :=by unfold W di; cases o<;>rfl
@[simp ↓] theorem anZ {α iu:Type} (o:Option α) (f:α->iu) (k:iu->Prop) :W (o.map f) (c:=⟨k⟩)=W o (c:=⟨fun v=>k (f v)⟩) :=by unfold W; cases o<;>rfl
@[simp ↓] theorem anY {α:Type} (p:Prop) [Decidable p] (x:α) (k:α->Prop) :W (if p then some x else none) (c:=⟨k⟩)=(p/\k x) :=by unfold W; by_cases h:p<;>simp[h]
@[simp ↓] theorem arf (b:Bool) (p q:Prop) :vj (.bool b) (c:=⟨p,q⟩)=o2 b (c:=⟨p,q⟩) :=id rfl
@[simp ↓] theorem ars (p q:Prop) :o2 true (c:=⟨p,q⟩)=p:=id rfl
@[simp ↓] theorem arq (p q:Prop) :o2 false (c:=⟨p,q⟩)=q:=id rfl
@[simp ↓] theorem arn (b:Bool) (p q:Prop) :o1 (.bool b) true (c:=⟨p,q⟩)=o2 b (c:=⟨p,q⟩) :=by cases b<;>rfl
@[simp ↓] theorem arm (b:Bool) (p q:Prop) :o1 (.bool b) false (c:=⟨p,q⟩)=o2 b (c:=⟨q,p⟩) :=by cases b<;>rfl
@[simp ↓] theorem aro (w:Bool) (p q:Prop) :o1 gv w (c:=⟨p,q⟩)=q:=id rfl
@[simp ↓] theorem arp (w:Bool) (p q:Prop) :o1 (.bU []) w (c:=⟨p,q⟩)=q:=id rfl
theorem rM {b:Bool} {p q:Prop} (h1:b=true->p) (af:b=false->q) :o2 b (c:=⟨p,q⟩) :=by cases b; exact af rfl; exact h1 rfl
@[simp ↓] theorem atp (ah:bj) (d:Tmp) (v:ae) :gp ah (some d) v=bO ah d v:=id rfl
@[simp ↓] theorem ato (ah:bj) (v:ae) :gp ah none v=ah:=id rfl
@[simp] theorem apH {α:Type} (s:Nat->α) (d:Nat) (v:α) (t:Nat) :bO s d v t=if t=d then v else s t:=id rfl
@[simp] theorem an3 (args:List ae) (t:Nat) :AO args t=args.getD t gv:=id rfl
@[simp] theorem apw (ah:bj) (t:Tmp) :cU G ah (.tmp t)=ah t:=id rfl
@[simp] theorem apm (ah:bj) (f:FuncId) :cU G ah (.func f)=.fn f [] [] :=id rfl
@[simp] theorem apn (ah:bj) (g:Nat) :cU G ah (.global g)=G g:=id rfl
@[simp] theorem apo (ah:bj) (k:IntKind) (n:Int) :cU G ah (.const (.int k n))=.int k n:=id rfl
@[simp] theorem apl (ah:bj) (b:Bool) :cU G ah (.const (.bool b))=.bool b:=id rfl
@[simp] theorem apv (ah:bj) (s:ByteArray) :cU G ah (.const (.string s))=.str s.data.toList:=id rfl
@[simp] theorem apu (ah:bj) :cU G ah (.const (.slice none 0 0))=.a6:=id rfl
@[simp] theorem apt (ah:bj) :cU G ah (.const (.pointer none))=.ib:=id rfl
@[simp] theorem aps (ah:bj) :cU G ah (.const (.map none))=.gJ:=id rfl
@[simp] theorem apq (ah:bj) :cU G ah (.const .nilFunc)=.hQ:=id rfl
@[simp] theorem apr (ah:bj) :cU G ah (.const .nilIface)=.ia:=id rfl
@[simp] theorem apx (ah:bj) :cU G ah (.const (.tuple #[]))=.bU [] :=id rfl
variable (aD:Operand->ae) (l:au)
@[simp ↓] theorem asZ (x:Operand) :bR P aD l (.av x)=some (aD x,l) :=id rfl
@[simp ↓] theorem as2 (c a b:Operand) :bR P aD l (.pick c a b)=di l (zO (aD c) (aD a) (aD b)) :=id rfl
@[simp ↓] theorem asq (z:List ae) :bR P aD l (.alloc z)=some (.ptr l.length 0 z.length,l++[.cells z.length z]) :=id rfl
@[simp ↓] theorem asv (x:Operand) :bR P aD l (.box x)=(aD x).cells.map fun cs=>(.ptr l.length 0 cs.length,l++[.cells cs.length cs]) :=id rfl
@[simp ↓] theorem asu (zero:List ae) (cx:List (Nat × Nat × Operand)) :bR P aD l (.gA zero cx)=di l ((ny zero (cx.map fun p=>(p.1,p.2.1,aD p.2.2))).map .aS) :=id rfl
@[simp ↓] theorem asw (z:Nat) (zero:List ae) (len:Nat) (cx:List (Nat × Operand)) :bR P aD l (.c5 z zero len cx)=(gF (fun i=>some (i*z,z)) (dp zero len) (cx.map fun p=>(p.1,aD p.2))).map fun cs=>(.ao z l.length 0 len len (len*z),l++[.cells (len*z) cs]) :=id rfl
@[simp ↓] theorem asN (a:Operand) :bR P aD l (.ld1 a)=di l ((d4 l (aD a)).bind fun x=>x.1[x.2]?) :=id rfl
@[simp ↓] theorem asO (n:Nat) (a:Operand) :bR P aD l (.bh n a)=di l ((d4 l (aD a)).bind fun x=>qq n x.1 x.2) :=id rfl
@[simp ↓] theorem as5 (n:Nat) (a x:Operand) :bR P aD l (.st n a x)=(iJ n l (aD a) (aD x)).map fun l'=>(gv,l') :=id rfl
@[simp ↓] theorem as0 (x:Operand) :bR P aD l (.lF x)=di l (vr (aD x)) :=id rfl
@[simp ↓] theorem ast (o:BinOp) (t:TypeId) (x y:Operand) :bR P aD l (.bin o t x y)=di l (fD P o t (aD x) (aD y)) :=id rfl
@[simp ↓] theorem as7 (o:UnOp) (x:Operand) :bR P aD l (.un o x)=di l (oh o (aD x)) :=id rfl
@[simp ↓] theorem asz (k:IntKind) (x:Operand) :bR P aD l (.cR k x)=di l (yc k (aD x)) :=id rfl
@[simp ↓] theorem asE (x:Operand) :bR P aD l (.wm x)=di l (Bd (aD x)) :=id rfl
@[simp ↓] theorem asy (x:Operand) :bR P aD l (.qY x)=di l (sA l (aD x)) :=id rfl
@[simp ↓] theorem asD (x:Operand) :bR P aD l (.pH x)=di l (sJ (aD x)) :=id rfl
@[simp ↓] theorem asV (t:TypeId) (x:Operand) :bR P aD l (.rT t x)=some (.fH t (aD x),l) :=id rfl
@[simp ↓] theorem as6 (t:TypeId) (z:ae) (ok:Bool) (x:Operand) :bR P aD l (.xK t z ok x)=di l (xL t z ok (aD x)) :=id rfl
@[simp ↓] theorem asU (f:FuncId) (a b:List Operand) :bR P aD l (.qj f a b)=some (.fn f (a.map aD) (b.map aD),l) :=id rfl
@[simp ↓] theorem asX (z by_:Nat) (zero:List ae) (a c:Operand) :bR P aD l (.k2 z by_ zero a c)=pa z by_ zero l (aD a) (aD c) :=id rfl
@[simp ↓] theorem as4 (c3:ix) (x:Operand) (cI aA cF:Option Operand) :bR P aD l (.slice c3 x cI aA cF)=di l (fN c3 (aD x) (cI.map aD) (aA.map aD) (cF.map aD)) :=id rfl
@[simp ↓] theorem asG (off:Nat) (x:Operand) :bR P aD l (.aW off x)=di l (lV (aD x) off) :=id rfl
@[simp ↓] theorem asH (off:Nat) (x:Operand) :bR P aD l (.yu off x)=di l (yv off (aD x)) :=id rfl
@[simp ↓] theorem asI (n off:Nat) (x:Operand) :bR P aD l (.ww n off x)=di l (wx n off (aD x)) :=id rfl
@[simp ↓] theorem asJ (c3:ix) (x i:Operand) :bR P aD l (.bq c3 x i)=di l (cO c3 (aD x) (aD i)) :=id rfl
@[simp ↓] theorem asK (n z:Nat) (x i:Operand) :bR P aD l (.vf n z x i)=di l (zw n z (aD x) (aD i)) :=id rfl
@[simp ↓] theorem asL (n z:Nat) (x i:Operand) :bR P aD l (.zu n z x i)=di l (zx n z (aD x) (aD i)) :=id rfl
@[simp ↓] theorem asM (x i:Operand) :bR P aD l (.oZ x i)=di l (vg (aD x) (aD i)) :=id rfl
@[simp ↓] theorem asF (x:Operand) (i:Nat) :bR P aD l (.ext x i)=di l (yt (aD x) i) :=id rfl
@[simp ↓] theorem asP (c3:ix) (x:Operand) :bR P aD l (.len c3 x)=di l (c9 c3 (aD x)) :=id rfl
@[simp ↓] theorem asx (c3:ix) (x:Operand) :bR P aD l (.cap c3 x)=di l (qX c3 (aD x)) :=id rfl
@[simp ↓] theorem asr (z by_:Nat) (s x:Operand) :bR P aD l (.app z by_ s x)=ie l z by_ (aD s) (aD x) :=id rfl
@[simp ↓] theorem ass (z by_:Nat) (zero:List ae) (s x:Operand) :bR P aD l (.pA z by_ zero s x)=ow l z by_ zero (aD s) (aD x) :=id rfl
@[simp ↓] theorem asC (z:Nat) (d x:Operand) :bR P aD l (.sI z d x)=wj z l (aD d) (aD x) :=id rfl
@[simp ↓] theorem asA (zero:List ae) (x:Operand) :bR P aD l (.qZ zero x)=(sD zero l (aD x)).map fun l'=>(.bU [],l') :=id rfl
@[simp ↓] theorem asT (x y:Operand) :bR P aD l (.min x y)=di l (xm (aD x) (aD y)) :=id rfl
@[simp ↓] theorem asS (x y:Operand) :bR P aD l (.max x y)=di l (rS (aD x) (aD y)) :=id rfl
@[simp] theorem atl (t:Bool) (a b:ae) :zO (.bool t) a b=some (if t=true then a else b) :=id rfl
@[simp] theorem Q4 (cs:List ae) :(ae.aS cs).cells=some cs:=id rfl
@[simp] theorem aoS (k:IntKind) (n:Int) :(ae.int k n).cells=some [.int k n] :=id rfl
@[simp] theorem aoP (b:Bool) :(ae.bool b).cells=some [.bool b] :=id rfl
@[simp] theorem ao1 (s:List UInt8) :(ae.str s).cells=some [.str s] :=id rfl
@[simp] theorem aoX:ae.a6.cells=some [.a6] :=id rfl
@[simp] theorem aoW:ae.ib.cells=some [.ib] :=id rfl
@[simp] theorem aoU:ae.hQ.cells=some [.hQ] :=id rfl
@[simp] theorem aoV:ae.gJ.cells=some [.gJ] :=id rfl
@[simp] theorem aoZ (z:Nat) (es:List (List ae)) :(ae.b6 z es).cells=some [.b6 z es] :=id rfl
@[simp] theorem ao0 (z b o n c s:Nat) :(ae.ao z b o n c s).cells=some [.ao z b o n c s] :=id rfl
@[simp] theorem aoY (b o s:Nat) :(ae.ptr b o s).cells=some [.ptr b o s] :=id rfl
@[simp] theorem aoR (f:FuncId) (a b:List ae) :(ae.fn f a b).cells=some [.fn f a b] :=id rfl
@[simp] theorem aoT (b:Nat) :(ae.mp b).cells=some [.mp b] :=id rfl
@[simp] theorem aoN (b off sz k:Nat) :lV (.ptr b off sz) k=some (.ptr b (off+k) sz) :=id rfl
@[simp] theorem aoO (cs:List ae) (off k:Nat) :lV (.cn cs off) k=some (.cn cs (off+k)) :=id rfl
@[simp] theorem ate (b o s:Nat) :vr (.ptr b o s)=some (.ptr b o s) :=id rfl
@[simp] theorem atf (cs:List ae) (o:Nat) :vr (.cn cs o)=some (.cn cs o) :=id rfl
@[simp] theorem atd (f:FuncId) (a b:List ae) :vr (.fn f a b)=some (.fn f a b) :=id rfl
def k5 (x:Option bg) (off sz:Nat) :Option (List ae × Nat) :=match x with
 | some (.cells n cs)=>if n=sz then some (cs,off) else none
 | _=>none
@[simp] theorem atr (b off sz:Nat) :d4 l (.ptr b off sz)=k5 l[b]? off sz:=by
 unfold d4 k5; rfl
@[simp] theorem atq (n:Nat) (cs:List ae) (off sz:Nat) :k5 (some (.cells n cs)) off sz=if n=sz then some (cs,off) else none:=id rfl
@[simp] theorem ats (cs:List ae) (off:Nat) :d4 l (.cn cs off)=some (cs,off) :=id rfl
def M7 (n:Nat) (l:au) (b off sz:Nat) (vs:List ae) (x:Option bg) :Option au:=match x with
 | some (.cells m cs)=>if m=sz/\vs.length=n/\off+n<=m then some (l.set b (.cells m (bS cs off vs))) else none
 | _=>none
@[simp] theorem aao (n b off sz:Nat) (v:ae) :iJ n l (.ptr b off sz) v=v.cells.bind fun vs=>M7 n l b off sz vs l[b]?:=by
 unfold iJ M7;cases v.cells<;>rfl
@[simp] theorem al9 (n b off sz:Nat) (vs:List ae) (m:Nat) (cs:List ae) :M7 n l b off sz vs (some (.cells m cs))=if m=sz/\vs.length=n/\off+n<=m then some (l.set b (.cells m (bS cs off vs))) else none:=id rfl
@[simp] theorem atk (n:Nat) (cs:List ae) (off:Nat) :qq n cs off=if off+n<=cs.length then some (.aS ((cs.drop off).take n)) else none:=id rfl
@[simp] theorem atX (a:ae) (cs vs:List ae) (off:Nat) :bS (a::cs) (off+1) vs=a::bS cs off vs:=by
 simp only[bS,List.take_succ_cons,List.cons_append,show off+1+vs.length=(off+vs.length)+1 by omega,List.drop_succ_cons]
@[simp] theorem al1 (a v:ae) (cs vs:List ae) :bS (a::cs) 0 (v::vs)=v::bS cs 0 vs:=by simp[bS]
@[simp] theorem al3 (cs:List ae) :bS cs 0 []=cs:=by simp[bS]
@[simp] theorem atW (vs:List ae) :bS [] 0 vs=vs:=by simp[bS]
@[simp] theorem aol (zero:List ae) :ny zero []=some zero:=id rfl
theorem acp (zero:List ae) (off size:Nat) (v:ae) (r:List (Nat × Nat × ae)) :ny zero ((off,size,v) ::r)=v.cells.bind fun vs=>if vs.length=size/\off+size<=zero.length then ny (bS zero off vs) r else none:=by
 rw[ny]; cases v.cells<;>rfl
attribute [simp] acp
@[simp] theorem apB (jF:Nat->Option (Nat × Nat)) (zero:List ae) :gF jF zero []=some zero:=id rfl
@[simp] theorem apA (jF:Nat->Option (Nat × Nat)) (zero:List ae) (i:Nat) (v:ae) (r:List (Nat × ae)) :gF jF zero ((i,v) ::r)=(jF i).bind fun q=>v.cells.bind fun vs=>if vs.length=q.2/\q.1+q.2<=zero.length then gF jF (bS zero q.1 vs) r else none:=by
 rw[gF];cases jF i with
 | none=>rfl
 | some q=>cases v.cells<;>rfl
@[simp] theorem atu (zero:List ae) :dp zero 0=[] :=id rfl
@[simp] theorem atv (zero:List ae) (n:Nat) :dp zero (n+1)=zero++dp zero n:=id rfl
@[simp] theorem aoe (o:BinOp) (t:TypeId) (k:IntKind) (a:Int) (k' : IntKind) (b:Int) :fD P o t (.int k a) (.int k' b)=ct o k a k' b:=id rfl
@[simp] theorem aoj (o:BinOp) (t:TypeId) (a b:List UInt8) :fD P o t (.str a) (.str b)=oy o a b:=id rfl
@[simp] theorem aog (k:IntKind) (a b:Int) :ct .lss k a k b=some (.bool (decide (a<b))) :=by simp[ct]
@[simp] theorem aof (k:IntKind) (a b:Int) :ct .leq k a k b=some (.bool (decide (a<=b))) :=by simp[ct]
@[simp] theorem aod (k:IntKind) (a b:Int) :ct .gtr k a k b=some (.bool (decide (b<a))) :=by simp[ct]
@[simp] theorem aoc (k:IntKind) (a b:Int) :ct .geq k a k b=some (.bool (decide (b<=a))) :=by simp[ct]
@[simp] theorem aob (k:IntKind) (a b:Int) :ct .eql k a k b=some (.bool (decide (a=b))) :=by
 have:(a == b)=decide (a=b) :=by by_cases h:a=b<;>simp[h]
 simp[ct,this]
@[simp] theorem aoi (k:IntKind) (a b:Int) :ct .neq k a k b=some (.bool (!decide (a=b))) :=by
 have:(a != b)=!decide (a=b) :=by by_cases h:a=b<;>simp[h]
 simp[ct,this]
@[simp] theorem aoa (k:IntKind) (a b:Int) :ct .add k a k b=some (.int k (k.wrap (a+b))) :=by simp[ct]
@[simp] theorem aok (k:IntKind) (a b:Int) :ct .sub k a k b=some (.int k (k.wrap (a - b))) :=by simp[ct]
@[simp] theorem aoh (k:IntKind) (a b:Int) :ct .mul k a k b=some (.int k (k.wrap (a*b))) :=by simp[ct]
@[simp] theorem aue (b:Bool) :oh .not (.bool b)=some (.bool (!b)) :=id rfl
@[simp] theorem aud (k:IntKind) (n:Int) :oh .neg (.int k n)=some (.int k (k.wrap (0 - n))) :=id rfl
@[simp] theorem ao4 (k k' : IntKind) (n:Int) :yc k (.int k' n)=some (.int k (k.wrap n)) :=id rfl
@[simp] theorem aqS (z db:Nat) (es:List (List ae)) (k:IntKind) (i:Int) :cO (.ao z) (.b6 db es) (.int k i)=if z=db/\0<=i then (es[i.toNat]?).map fun cs=>.cn cs 0 else none:=id rfl
@[simp] theorem aqT (z db b off len cap sz:Nat) (k:IntKind) (i:Int) :cO (.ao z) (.ao db b off len cap sz) (.int k i)=if z=db/\0<=i/\i<len then some (.ptr b (off+i.toNat*z) sz) else none:=id rfl
@[simp] theorem aqR (n z:Nat) (x:ae) (k:IntKind) (i:Int) :cO (.arr n z) x (.int k i)=if 0<=i/\i<n then lV x (i.toNat*z) else none:=id rfl
@[simp] theorem asl (z:Nat) :c9 (.ao z) .a6=some (.int .i64 0) :=id rfl
@[simp] theorem asn (z db b o n c s:Nat) :c9 (.ao z) (.ao db b o n c s)=some (.int .i64 n) :=id rfl
@[simp] theorem asm (z db:Nat) (es:List (List ae)) :c9 (.ao z) (.b6 db es)=some (.int .i64 es.length) :=id rfl
@[simp] theorem aso (s:List UInt8) :c9 .str (.str s)=some (.int .i64 s.length) :=id rfl
@[simp] theorem asj (n z:Nat) (x:ae) :c9 (.arr n z) x=some (.int .i64 n) :=id rfl
@[simp] theorem apy (vs:List ae) (i:Nat) :yt (.bU vs) i=vs[i]?:=id rfl
@[simp] theorem apC (cs:List ae) (off:Nat) :yv off (.aS cs)=cs[off]?:=id rfl
@[simp] theorem apD (n off:Nat) (cs:List ae) :wx n off (.aS cs)=qq n cs off:=id rfl
end
section
variable {P:Program} {G:Nat->ae}
inductive Rd (l:au) :ae->ae->Prop
 | same (c:ae) (h:c.closed=true) :Rd l c c
 | aS (cs cs' : List ae) (aq:cs'.length=cs.length) (h:∀ (j:Nat) (c c' : ae),cs[j]? = some c->cs'[j]? = some c'->Rd l c c') :Rd l (.aS cs) (.aS cs')
 | bU (cs cs' : List ae) (aq:cs'.length=cs.length) (h:∀ (j:Nat) (c c' : ae),cs[j]? = some c->cs'[j]? = some c'->Rd l c c') :Rd l (.bU cs) (.bU cs')
 | ao (z b off len cap sz:Nat) (cs:List ae) (es:List (List ae)) (ai:l[b]? = some (.cells sz cs)) (aq:es.length=len) (aB:∀ e∈es,e.length=z)
   (d2:off+len*z<=cs.length)
   (h:∀ (i j:Nat) (e:List ae) (c c' : ae),es[i]? = some e->e[j]? = some c'->cs[off+(i*z+j)]? = some c->Rd l c c') :Rd l (.ao z b off len cap sz) (.b6 z es)
 | pl (z b off cap sz:Nat) :Rd l (.ao z b off 0 cap sz) (.b6 z [])
theorem akW {w:World} {R:Nat->Prop} {B:Nat} {l:au} {μ:cG} (rel:b5 R B w (bW l) μ) :∀ {c c' : ae},Rd l c c'->∀ {v:Value},aP w R (bW l) μ c v->eN w R c' v:=by
 intro c c' aC
 induction aC with
 | same c h=>
  intro v ax;exact (eN.up (um ax h) fun k _ aE=>⟨aE.1,fun ⟨b,m,h1,af,ap⟩=>by cases af⟩:aP w R aM.empty (fun _=>none) _ v)
 | aS cs cs' aq h aK=>
  intro v ax;cases ax with
  | aS _ vs fF h1 ax=>
   refine .aS cs' vs (by omega) h1 (fun j c' v am eI=>?_);have aN:j<cs.length:=by rw[<-aq]; exact (List.getElem?_eq_some_iff.1 am).1
   exact aK j cs[j] c' (List.getElem?_eq_getElem aN) am (ax j cs[j] v (List.getElem?_eq_getElem aN) eI)
 | bU cs cs' aq h aK=>
  intro v ax;cases ax with
  | bU _ vs fF ax=>
   refine .bU cs' vs (by omega) (fun j c' v am eI=>?_);have aN:j<cs.length:=by rw[<-aq]; exact (List.getElem?_eq_some_iff.1 am).1
   exact aK j cs[j] c' (List.getElem?_eq_getElem aN) am (ax j cs[j] v (List.getElem?_eq_getElem aN) eI)
 | pl z b off cap sz=>
  intro v ax;cases ax with
  | ao _ _ _ _ _ _ cap' cs m ai hm aq ay ak=>exact .eZ z _ cap'
  | fA _ _ _ _ _ _ cap' a aq ak az=>exact .eZ z _ cap'
  | gS _ _ _ _ a cs m ai hm=>exact .eZ z a 0
 | ao z b off len cap sz cs es ai aq aB d2 h aK=>
  intro v ax;have oH:(bW l).f b=.cells sz cs:=mC.2 ai;cases ax with
  | gS _ _ _ _ a g0 m e6 jO=>
   obtain rfl:=List.length_eq_zero_iff.1 aq;exact .eZ z a 0
  | fA _ _ _ _ _ _ cap' a aq ak az=>
   exfalso;rcases az with az | ⟨n,g0,az,aN⟩
   ·rw[oH] at az; cases az
   ·rw[oH] at az; cases az; omega
  | ao _ _ _ _ _ _ cap' g0 m e6 hm hK ay ak=>
   rw[oH] at e6; cases e6;have f8:=rel.blk b m hm;rw[oH] at f8;obtain⟨cL,d9,arr,t,fe,bt,aG,aJ,kP⟩:=f8;have cY:len<=cap':=by rcases ak with ⟨_,h⟩ | ⟨_,h,_⟩<;>omega
   have rg:R m.r:=rel.up _ (rel.base b m (by rw[oH]; rfl) hm);subst aq;have oI:∀ i j,i<es.length->j<z->∃ c v,cs[off+(i*z+j)]? = some c/\arr[m.s+(off+(i*z+j))]? = some v/\v.oneCell'=true/\aP w R (bW l) μ c v:=by
    intro i j aA am;have aN:off+(i*z+j)<cs.length:=by
     have:i*z+z<=es.length*z:=by rw[<-Nat.succ_mul]; exact Nat.mul_le_mul_right _ aA
     omega
    obtain⟨v,h1,af,ap⟩:=kP _ _ (List.getElem?_eq_getElem aN);exact⟨_,v,List.getElem?_eq_getElem aN,h1,af,ap⟩
   refine .b6 z es m.r (m.s+off) cap' (fun i j=>(arr[m.s+(off+(i*z+j))]?).getD undef) cY aB (fun i j aA am=>?_) (fun i e aw j c' am=>?_)
   ·obtain⟨c,v,h1,af,ap,aH⟩:=oI i j aA am;refine⟨?_,?_,rg,fun ⟨b,m,h1,af,ap⟩=>by cases af⟩
    ·simp only[World.cell?,bt,af,Option.getD_some,Option.isSome_none];rw[show m.s+off+(i*z+j)=m.s+(off+(i*z+j)) by omega,af]; rfl
    ·rw[af]; exact ap
   ·have aA:i<es.length:=(List.getElem?_eq_some_iff.1 aw).1;have kR:j<z:=by rw[<-aB e (List.mem_of_getElem? aw)]; exact (List.getElem?_eq_some_iff.1 am).1
    obtain⟨c,v,h1,af,ap,aH⟩:=oI i j aA kR;simp only[af,Option.getD_some];exact aK i j e c c' aw am h1 aH
theorem ca (kp:P.follows .mixedOrders=true) (jn:∀ g,(G g).closed=true) {f:FuncId} {args:List ae} {r:ae} (h:dB P G f args [] (c:=⟨fun kz l=>Rd l kz r⟩)) :bT P G f args r:=by
 obtain⟨kz,l',h1,af,ap⟩:=h;intro w A vs az aq ax;refine (Nj (A:=A) kp jn h1 az aq ax).mono ?_;rintro e w' ⟨v,μ',rfl,ai,rel,aC⟩;exact⟨v,rfl,ai,akW rel ap aC⟩
theorem bv {f:FuncId} {args:List ae} {r:ae} {l:au} {K:ae->au->Prop} (aF:bT P G f args r) (ak:bP args=true) (h:K r l) :dB P G f args l (c:=⟨K⟩) :=
 ⟨r,l,.pure aF ak,Nat.le_refl _,h⟩
theorem aiI (kp:P.follows .mixedOrders=true) (jn:∀ g,(G g).closed=true) {f:FuncId} {args:List ae} (h:dB P G f args [] (c:=⟨fun r _=>r=.bool true⟩))
  {w:World} {A:Nat->Prop} {vs:Array Value} (az:∀ g,eN w A (G g) (.pointer (some ⟨g,0,none⟩))) (aq:vs.size=args.length)
  (ax:∀ (j:Nat) (c:ae) (v:Value),args[j]? = some c->vs[j]? = some v->eN w A c v) :
  Calls P f vs w fun e w'=>e=.returned (.bool true)/\RowKit.Below w.heap.size w w':=by
 obtain⟨kz,l',h1,af,rfl⟩:=h;exact amv kp jn h1 az aq ax
end
section
variable {P:Program}
inductive dy (P:Program) :List TypeId->List ae->Prop
 | nil:dy P [] []
 | bool {t:TypeId} {b:Bool} {ts:List TypeId} {cs:List ae} (aL:P.underlying t=some .bool) (h:dy P ts cs) :dy P (t::ts) (.bool b::cs)
 | int {t:TypeId} {k:IntKind} {n:Int} {ts:List TypeId} {cs:List ae} (aL:P.underlying t=some (.int k)) (h1:k.min<=n) (af:n<=k.max) (h:dy P ts cs) :dy P (t::ts) (.int k n::cs)
 | str {t:TypeId} {s:List UInt8} {ts:List TypeId} {cs:List ae} (aL:P.underlying t=some .string) (ar:s.length<=maxLen) (h:dy P ts cs) :dy P (t::ts) (.str s::cs)
 | a6 {t e:TypeId} {ts:List TypeId} {cs:List ae} (aL:P.underlying t=some (.slice e)) (h:dy P ts cs) :dy P (t::ts) (.a6::cs)
 | ao {t e:TypeId} {es:List (List ae)} {ts:List TypeId} {cs:List ae} (aL:P.underlying t=some (.slice e)) (aq:es.length<=maxLen) (aB:∀ r∈es,r.length=P.cellsOf e) (aw:∀ r∈es,dy P [e] r) (h:dy P ts cs) :dy P (t::ts) (.b6 (P.cellsOf e) es::cs)
 | struct {t:TypeId} {fs:Array Field} {ts:List TypeId} {cs:List ae} (aL:P.underlying t=some (.struct fs)) (h:dy P (fs.toList.map (·.type)++ts) cs) :dy P (t::ts) cs
 | array {t e:TypeId} {n:Nat} {ts:List TypeId} {cs:List ae} (aL:P.underlying t=some (.array n e)) (h:dy P (List.replicate n e++ts) cs) :dy P (t::ts) cs
def sG (P:Program) :List Field->Nat->Option Nat
 | [],o=>some o
 | f::r,o=>if f.offset=o then sG P r (o+P.cellsOf f.type) else none
def r1 (P:Program) :Nat->TypeId->Bool
 | 0,_=>false
 | d+1,t=>match P.underlying t with
  | some .bool | some (.int _) | some .string=>true
  | some (.slice e)=>decide (0<P.cellsOf e)&&r1 P d e
  | some (.struct fs)=>decide (sG P fs.toList 0=some (P.cellsOf t))&&fs.toList.all fun f=>r1 P d f.type
  | some (.array n e)=>decide (n*P.cellsOf e=P.cellsOf t)&&r1 P d e
  | _=>false
structure nw (P:Program) (w:World) (A:Nat->Prop) (ts:List TypeId) (vs:List Value) (cs:List ae) :Prop where
 len:cs.length=vs.length
 ty:∀ og cs',dy P og cs'->dy P (ts++og) (cs++cs')
 ol:∀ (j:Nat) (c:ae) (v:Value),cs[j]? = some c->vs[j]? = some v->eN w A c v/\v.oneCell'=true
theorem nw.nil {w:World} {A:Nat->Prop}:nw P w A [] [] [] :=⟨rfl,fun _ _ h=>h,fun j c v h=>by simp at h⟩
theorem nw.app {w:World} {A:Nat->Prop} {ts og:List TypeId} {vs DQ:List Value} {cs cs' : List ae} (a:nw P w A ts vs cs) (b:nw P w A og DQ cs') :nw P w A (ts++og) (vs++DQ) (cs++cs') :=by
 refine⟨by simp[a.len,b.len],fun at4 api h=>by rw[List.append_assoc,List.append_assoc]; exact a.ty _ _ (b.ty _ _ h),fun j c v ak ax=>?_⟩;by_cases h:j<cs.length
 ·rw[List.getElem?_append_left h] at ak;rw[List.getElem?_append_left (by rw[<-a.len]; exact h)] at ax;exact a.ol j c v ak ax
 ·rw[List.getElem?_append_right (by omega)] at ak;rw[List.getElem?_append_right (by rw[<-a.len]; omega)] at ax;rw[<-a.len] at ax;exact b.ol _ c v ak ax
theorem CZ {α iu:Type} {f:α->Option iu}:∀ {l:List α} {r:List iu},l.mapM f=some r->∀ (p:Nat) (a:α),l[p]? = some a->∃ x,r[p]? = some x/\f a=some x
 | [],r,h,p,a,aG=>by simp at aG
 | a0::l,r,h,p,a,aG=>by
  rw[List.mapM_cons] at h;simp only[Option.bind_eq_bind,bind_some,Option.pure_def,Option.some.injEq] at h;obtain⟨b,h1,cw,af,rfl⟩:=h;cases p with
  | zero=>simp only[List.getElem?_cons_zero,Option.some.injEq] at aG; subst aG; exact⟨b,rfl,h1⟩
  | succ p=>obtain⟨x,ap,aH⟩:=CZ af p a (by simpa using aG); exact⟨x,by simpa using ap,aH⟩
theorem zI {w:World} {A:Nat->Prop} {c:ae} {v:Value} (h:eN w A c v) (h1:v.oneCell'=true) :∀ (j:Nat) (c' : ae) (bf:Value),[c][j]? = some c'->[v][j]? = some bf->eN w A c' bf/\bf.oneCell'=true:=by
 intro j c' bf ak ax;cases j with
 | zero=>simp only[List.getElem?_cons_zero,Option.some.injEq] at ak ax; subst ak ax; exact⟨h,h1⟩
 | succ j=>simp at ak
theorem amx {H:Type} {enc:TypeId × Value->H} {w:World} {base:Nat} {spare:Nat->Bool} {held:Bool} {fuel:Nat} {t:TypeId} {vs:List Value} {x:DataW H × List MemPlace}
  (aL:P.underlying t=some .bool) (h:DataW.trod enc P w base spare held (fuel+1) t vs=some x) :∃ b,vs=[.bool b] :=by
 unfold DataW.trod at h;rw[aL] at h;split at h
 case h_1 b _=>exact⟨b,rfl⟩
 all_goals first | (cases h; done) | (rename_i heq; cases heq; done) | (rename_i heq _; cases heq; done) | (rename_i heq _ _; cases heq; done) | (rename_i heq _ _ _; cases heq; done) | (simp_all; done)
theorem trod_int {H:Type} {enc:TypeId × Value->H} {w:World} {base:Nat} {spare:Nat->Bool} {held:Bool} {fuel:Nat} {t:TypeId} {k:IntKind} {vs:List Value} {x:DataW H × List MemPlace}
  (aL:P.underlying t=some (.int k)) (h:DataW.trod enc P w base spare held (fuel+1) t vs=some x) :∃ n,vs=[.int k n]/\k.min<=n/\n<=k.max:=by
 unfold DataW.trod at h;rw[aL] at h;split at h<;>simp only[reduceCtorEq,Option.some.injEq,TypeDesc.int.injEq] at *<;>try (exfalso; simp_all; done)
 rename_i h9 k' n heq;subst heq;split at h
 ·rename_i ak;obtain⟨rfl,bt⟩:=ak;simp only[Lit.wf,Bool.and_eq_true,decide_eq_true_eq] at bt;exact⟨n,rfl,bt.1,bt.2⟩
 ·cases h
theorem amz {H:Type} {enc:TypeId × Value->H} {w:World} {base:Nat} {spare:Nat->Bool} {held:Bool} {fuel:Nat} {t:TypeId} {vs:List Value} {x:DataW H × List MemPlace}
  (aL:P.underlying t=some .string) (h:DataW.trod enc P w base spare held (fuel+1) t vs=some x) :∃ s,vs=[.string s]/\s.size<=maxLen:=by
 unfold DataW.trod at h;rw[aL] at h;split at h<;>simp only[reduceCtorEq,Option.some.injEq] at *<;>try (exfalso; simp_all; done)
 split at h
 ·rename_i s _ ar; exact⟨s,rfl,ar⟩
 ·cases h
theorem amy {H:Type} {enc:TypeId × Value->H} {w:World} {base:Nat} {spare:Nat->Bool} {held:Bool} {fuel:Nat} {t e:TypeId} {vs:List Value} {x:DataW H × List MemPlace}
  (aL:P.underlying t=some (.slice e)) (h:DataW.trod enc P w base spare held (fuel+1) t vs=some x) :
  vs=[.slice none 0 0]\/∃ a len cap,vs=[.slice (some a) len cap]/\len<=cap/\cap<=maxLen/\∃ Bh,(List.range len).mapM (fun i=>(w.cells? base (a.add (i*P.cellsOf e)) (P.cellsOf e)).bind (DataW.trod enc P w base spare held fuel e))=some Bh:=by
 unfold DataW.trod at h;rw[aL] at h;split at h<;>simp only[reduceCtorEq,Option.some.injEq,TypeDesc.slice.injEq] at *<;>try (exfalso; simp_all; done)
 ·exact .inl trivial
 ·rename_i gM a len cap heq;subst heq;split at h
  ·rename_i ak;rw[bind_some] at h;obtain⟨Bh,h1,_⟩:=h;exact .inr ⟨a,len,cap,rfl,ak.2.1,ak.2.2,Bh,h1⟩
  ·cases h
theorem amA {H:Type} {enc:TypeId × Value->H} {w:World} {base:Nat} {spare:Nat->Bool} {held:Bool} {fuel:Nat} {t:TypeId} {fs:Array Field} {vs:List Value} {x:DataW H × List MemPlace}
  (aL:P.underlying t=some (.struct fs)) (h:DataW.trod enc P w base spare held (fuel+1) t vs=some x) :
  vs.length=P.cellsOf t/\∃ xs,(fs.toList.mapM fun f=>DataW.trod enc P w base spare held fuel f.type ((vs.drop f.offset).take (P.cellsOf f.type)))=some xs:=by
 unfold DataW.trod at h;rw[aL] at h;split at h<;>simp only[reduceCtorEq,Option.some.injEq,TypeDesc.struct.injEq] at *<;>try (exfalso; simp_all; done)
 rename_i apG heq;subst heq;split at h
 ·rename_i ak;rw[map_some] at h;obtain⟨xs,h1,_⟩:=h;exact⟨ak,xs,h1⟩
 ·cases h
theorem trod_array {H:Type} {enc:TypeId × Value->H} {w:World} {base:Nat} {spare:Nat->Bool} {held:Bool} {fuel:Nat} {t e:TypeId} {n:Nat} {vs:List Value} {x:DataW H × List MemPlace}
  (aL:P.underlying t=some (.array n e)) (h:DataW.trod enc P w base spare held (fuel+1) t vs=some x) :
  vs.length=P.cellsOf t/\∃ xs,((List.range n).mapM fun i=>DataW.trod enc P w base spare held fuel e ((vs.drop (i*P.cellsOf e)).take (P.cellsOf e)))=some xs:=by
 unfold DataW.trod at h;rw[aL] at h;split at h<;>simp only[reduceCtorEq,Option.some.injEq,TypeDesc.array.injEq] at *<;>try (exfalso; simp_all; done)
 rename_i ata gM heq;obtain⟨rfl,rfl⟩:=heq;split at h
 ·rename_i ak;rw[map_some] at h;obtain⟨xs,h1,_⟩:=h;exact⟨ak,xs,h1⟩
 ·cases h
theorem abY (a:Addr) (x j:Nat) :a.add (x+j)=(a.add x).add j:=by
 unfold Addr.add;by_cases aj:x=0
 ·subst aj; simp
 ·by_cases am:j=0
  ·subst am; simp
  ·rw[if_neg (by omega),if_neg aj,if_neg am];simp only[Nat.add_assoc]
theorem add_plain (b o n:Nat) :(Addr.mk b o none).add n=⟨b,o+n,none⟩:=by
 unfold Addr.add;by_cases aI:n=0
 ·subst aI; simp
 ·rw[if_neg aI]
theorem aaN {H:Type} {enc:TypeId × Value->H} {w:World} {A:Nat->Prop} (cA:∀ k,A k) {base:Nat} {spare:Nat->Bool} {held:Bool}:∀ (fuel:Nat) (D:Nat) (t:TypeId) (vs:List Value) (d:DataW H) (cx:List MemPlace),
  r1 P D t=true->DataW.trod enc P w base spare held fuel t vs=some (d,cx)->∃ cs,nw P w A [t] vs cs
 | 0,_,_,_,_,_,_,h=>by simp[DataW.trod] at h
 | fuel+1,0,t,vs,d,cx,aF,h=>by cases aF
 | fuel+1,D+1,t,vs,d,cx,aF,h=>by
  have aK:=fun t vs d cx aF h=>aaN cA (enc:=enc) (w:=w) (base:=base) (spare:=spare) (held:=held) fuel D t vs d cx aF h
  unfold r1 at aF;split at aF
  ·rename_i aL;obtain⟨b,rfl⟩:=amx aL h;exact⟨[.bool b],⟨rfl,fun og cs' h=>.bool aL h,zI (.bool b) rfl⟩⟩
  ·rename_i k aL;obtain⟨n,rfl,h1,af⟩:=trod_int aL h;exact⟨[.int k n],⟨rfl,fun og cs' h=>.int aL h1 af h,zI (.int k n) rfl⟩⟩
  ·rename_i aL;obtain⟨s,rfl,h1⟩:=amz aL h;exact⟨[.str s.data.toList],⟨rfl,fun og cs' h=>.str aL (show s.data.toList.length<=maxLen from h1) h,zI (.str s) rfl⟩⟩
  ·rename_i e aL;simp only[Bool.and_eq_true,decide_eq_true_eq] at aF;rcases amy aL h with rfl | ⟨a,len,cap,rfl,mV,ih,Bh,aw⟩
   ·exact⟨[.a6],⟨rfl,fun og cs' h=>.a6 aL h,zI .a6 rfl⟩⟩
   ·have cB:∀ i,i<len->∃ dK row,w.cells? base (a.add (i*P.cellsOf e)) (P.cellsOf e)=some dK/\nw P w A [e] dK row:=fun i aA=>by
     obtain⟨x,_,aj⟩:=CZ aw i i (by rw[List.getElem?_range aA]);rw[bind_some] at aj;obtain⟨dK,h1,af⟩:=aj;obtain⟨row,ap⟩:=aK e dK x.1 x.2 aF.2 af;exact⟨dK,row,h1,ap⟩
    have yN:∃ (dK:Nat->List Value) (rows:Nat->List ae),∀ i,i<len->w.cells? base (a.add (i*P.cellsOf e)) (P.cellsOf e)=some (dK i)/\nw P w A [e] (dK i) (rows i) :=by
     refine⟨fun i=>if aA:i<len then (cB i aA).choose else [],fun i=>if aA:i<len then (cB i aA).choose_spec.choose else [],fun i aA=>?_⟩;simp only[dif_pos aA];exact (cB i aA).choose_spec.choose_spec
    obtain⟨dK,rows,ax⟩:=yN;have h4:∀ i,i<len->(dK i).length=P.cellsOf e/\∀ j,j<P.cellsOf e->∃ v,(dK i)[j]? = some v/\w.cell? (a.add (i*P.cellsOf e+j))=some v:=fun i aA=>by
     have h1:=(ax i aA).1;unfold World.cells? at h1;split at h1
     ·refine⟨by rw[JN h1]; simp,fun j am=>?_⟩;obtain⟨v,af,ap⟩:=CZ h1 j j (by rw[List.getElem?_range am]);refine⟨v,af,?_⟩;rw[<-ap,abY]
     ·cases h1
    let es:=(List.range len).map rows
    have ij:∀ (i:Nat) (r:List ae),es[i]? = some r->i<len/\r=rows i:=fun i r aC=>by
     simp only[es,List.getElem?_map] at aC;by_cases aA:i<len
     ·rw[List.getElem?_range aA] at aC; simp only[Option.map_some,Option.some.injEq] at aC; exact⟨aA,aC.symm⟩
     ·rw[List.getElem?_eq_none (by simp; omega)] at aC; cases aC
    have bz:es.length=len:=by simp[es]
    have aB:∀ r∈es,r.length=P.cellsOf e:=fun r aC=>by
     obtain⟨i,aA⟩:=List.getElem?_of_mem aC;obtain⟨h1,rfl⟩:=ij i r aA;rw[(ax i h1).2.len,(h4 i h1).1]
    have w7:∀ r∈es,dy P [e] r:=fun r aC=>by
     obtain⟨i,aA⟩:=List.getElem?_of_mem aC;obtain⟨h1,rfl⟩:=ij i r aA;have:=(ax i h1).2.ty [] [] .nil;simpa using this
    refine⟨[.b6 (P.cellsOf e) es],⟨rfl,fun og cs' h=>.ao aL (by omega) aB w7 h,zI ?_ rfl⟩⟩;by_cases aQ:len=0
    ·subst aQ;exact .eZ _ _ _
    ·obtain⟨v0,_,hN⟩:=(h4 0 (by omega)).2 0 aF.1;have Uk:a.spot=none:=by
      unfold World.cell? at hN;split at hN
      ·split at hN
       ·cases hN
       ·rename_i ar;rw[show 0*P.cellsOf e+0=0 by omega] at ar;simp only[Addr.add,if_true] at ar;cases rA:a.spot with
        | none=>rfl
        | some x=>rw[rA] at ar; simp at ar
      ·cases hN
     obtain⟨blk,off,spot⟩:=a;simp only at Uk;subst Uk;have key:=aP.b6 (w:=w) (R:=A) (h:=aM.empty) (μ:=fun _=>none) (P.cellsOf e) es blk off cap (fun i j=>((dK i)[j]?).getD undef) (by omega) aB
      (fun i j aA am=>by
       rw[bz] at aA;obtain⟨v,h1,af⟩:=(h4 i aA).2 j am;obtain⟨c,ak⟩:∃ c,(rows i)[j]? = some c:=by
        have:j<(rows i).length:=by rw[(ax i aA).2.len,(h4 i aA).1]; exact am
        exact⟨_,List.getElem?_eq_getElem this⟩
       refine⟨?_,?_,cA _,fun ⟨b,m,h1,af,ap⟩=>by cases af⟩
       ·rw[h1,Option.getD_some,<-add_plain]; exact af
       ·rw[h1,Option.getD_some]; exact ((ax i aA).2.ol j c v ak h1).2)
      (fun i r aC j c ak=>by
       obtain⟨aA,rfl⟩:=ij i r aC;have am:j<P.cellsOf e:=by rw[<-(h4 i aA).1,<-(ax i aA).2.len]; exact (List.getElem?_eq_some_iff.1 ak).1
       obtain⟨v,h1,af⟩:=(h4 i aA).2 j am;rw[h1,Option.getD_some];exact ((ax i aA).2.ol j c v ak h1).1)
     rw[bz] at key;exact key
  ·rename_i fs aL;simp only[Bool.and_eq_true,decide_eq_true_eq,List.all_eq_true] at aF;obtain⟨bz,xs,aj⟩:=amA aL h;have yz:∀ (fs:List Field) (o:Nat) (xs:List (DataW H × List MemPlace)),sG P fs o=some vs.length->o<=vs.length->(∀ f∈fs,r1 P D f.type=true)->
     (fs.mapM fun f=>DataW.trod enc P w base spare held fuel f.type ((vs.drop f.offset).take (P.cellsOf f.type)))=some xs->∃ cs,nw P w A (fs.map (·.type)) (vs.drop o) cs:=by
    intro fs
    induction fs with
    | nil=>intro o xs ak ay _ _; simp only[sG,Option.some.injEq] at ak; rw[ak,List.drop_length]; exact⟨[],.nil⟩
    | cons f fs ahM=>
     intro o xs ak ay fU hm;simp only[sG] at ak;split at ak
     ·rename_i afW;rw[List.mapM_cons] at hm;simp only[Option.bind_eq_bind,bind_some,Option.pure_def,Option.some.injEq] at hm;obtain⟨x,h1,anI,af,_⟩:=hm;have agC:∀ (fs:List Field) (o n:Nat),sG P fs o=some n->o<=n:=by
       intro fs
       induction fs with
       | nil=>intro o n h; simp only[sG,Option.some.injEq] at h; omega
       | cons g gs ahN=>
        intro o n h;simp only[sG] at h;split at h
        ·have:=ahN _ _ h; omega
        ·cases h
      have dv:=agC _ _ _ ak;obtain⟨cz,b4⟩:=aK f.type _ x.1 x.2 (fU f (by simp)) h1;obtain⟨de,w2⟩:=ahM _ anI ak dv (fun g az=>fU g (by simp[az])) af;refine⟨cz++de,?_⟩;have:=b4.app w2;rw[afW,show List.drop (o+P.cellsOf f.type) vs=List.drop (P.cellsOf f.type) (List.drop o vs) by rw[List.drop_drop],List.take_append_drop] at this;exact this
     ·cases ak
   obtain⟨cs,bt⟩:=yz fs.toList 0 xs (by rw[bz]; exact aF.1) (Nat.zero_le _) aF.2 aj;rw[List.drop_zero] at bt;exact⟨cs,⟨bt.len,fun og cs' h=>.struct aL (bt.ty _ _ h),bt.ol⟩⟩
  ·rename_i n e aL;simp only[Bool.and_eq_true,decide_eq_true_eq] at aF;obtain⟨bz,xs,aj⟩:=trod_array aL h;have ag0:∀ i,i<n->∃ c,nw P w A [e] ((vs.drop (i*P.cellsOf e)).take (P.cellsOf e)) c:=fun i aA=>by
    obtain⟨x,_,h1⟩:=CZ aj i i (by rw[List.getElem?_range aA]);exact aK e _ x.1 x.2 aF.2 h1
   have yz:∀ m,m<=n->∃ cs,nw P w A (List.replicate m e) (vs.drop ((n - m)*P.cellsOf e)) cs:=by
    intro m
    induction m with
    | zero=>intro _; rw[Nat.sub_zero,List.drop_eq_nil_of_le (by omega)]; exact⟨[],.nil⟩
    | succ m Jg=>
     intro hm;obtain⟨cz,b4⟩:=ag0 (n - (m+1)) (by omega);obtain⟨de,w2⟩:=Jg (by omega);refine⟨cz++de,?_⟩;have:=b4.app w2;have s2:(n - m)*P.cellsOf e=(n - (m+1))*P.cellsOf e+P.cellsOf e:=by rw[<-Nat.succ_mul]; congr 1; omega
     rw[s2,<-List.drop_drop,List.take_append_drop] at this;exact this
   obtain⟨cs,bt⟩:=yz n (Nat.le_refl _);rw[Nat.sub_self,Nat.zero_mul,List.drop_zero] at bt;exact⟨cs,⟨bt.len,fun og cs' h=>.array aL (bt.ty _ _ h),bt.ol⟩⟩
  ·cases aF
def uh (P:Program) (t:TypeId) (c:ae) :Prop:=match dM P t with
 | some true=>∃ cs,c=.aS cs/\dy P [t] cs
 | _=>dy P [t] [c]
inductive lU (P:Program) :List TypeId->List ae->Prop
 | nil:lU P [] []
 | cons {t:TypeId} {c:ae} {ts:List TypeId} {cs:List ae}:uh P t c->lU P ts cs->lU P (t::ts) (c::cs)
theorem N8 {H:Type} {enc:TypeId × Value->H} {w:World} {A:Nat->Prop} (cA:∀ k,A k) {base gh:Nat} {spare:Nat->Bool} {held:Bool} {D:Nat}:∀ {ts:List TypeId} {vs:List Value} {g2:List (DataW H)} {cx:List MemPlace},
  (∀ t∈ts,r1 P D t=true)->(∀ (j:Nat) t v,ts[j]? = some t->vs[j]? = some v->Value.okWide P w .any gh t v)->DataW.TrodAll enc P w base spare held ts vs g2 cx->
  ∃ cs,lU P ts cs/\cs.length=vs.length/\∀ (j:Nat) (c:ae) (v:Value),cs[j]? = some c->vs[j]? = some v->eN w A c v
 | [],[],_,_,_,_,_=>⟨[],.nil,rfl,fun j c v h=>by simp at h⟩
 | [],_::_,g2,_,_,_,h=>by cases g2<;>cases h
 | _::_,[],g2,_,_,_,h=>by cases g2<;>cases h
 | _::_,_::_,[],_,_,_,h=>by cases h
 | t::ts,v::vs,d::g2,cx,aF,dG,h=>by
  obtain⟨p,q,⟨fuel,aU⟩,aC,_⟩:=h;obtain⟨cs,h1,af,ap⟩:=N8 cA (fun t aU=>aF t (by simp[aU])) (fun j t v aU ax=>dG (j+1) t v (by simpa using aU) (by simpa using ax)) aC;obtain⟨cz,b4⟩:=aaN cA fuel D t v.cells.toList d p (aF t (by simp)) aU;have w7:dy P [t] cz:=by simpa using b4.ty [] [] .nil
  have ax:=dG 0 t v rfl rfl;have fin:∀ c,uh P t c->eN w A c v->∃ cs,lU P (t::ts) cs/\cs.length=(v::vs).length/\∀ (j:Nat) (c:ae) (bf:Value),cs[j]? = some c->(v::vs)[j]? = some bf->eN w A c bf:=fun c ak iV=>
   ⟨c::cs,.cons ak h1,by simp[af],fun j c' bf am eI=>by
    cases j with
    | zero=>simp only[List.getElem?_cons_zero,Option.some.injEq] at am eI; subst am eI; exact iV
    | succ j=>exact ap j c' bf (by simpa using am) (by simpa using eI)⟩
  unfold Value.okWide at ax;have agg:dM P t=(P.underlying t).map fun d=>match d with | .struct _ | .array _ _=>true | _=>false:=rfl
  cases aL:P.underlying t with
  | none=>
   exfalso;have:=aF t (by simp);cases D with
   | zero=>cases this
   | succ D=>unfold r1 at this; rw[aL] at this; cases this
  | some Ry=>
   rw[aL] at ax agg;have aid:(∃ cs,v=.agg cs)->dM P t=some true->∃ cs,lU P (t::ts) cs/\cs.length=(v::vs).length/\∀ (j:Nat) (c:ae) (bf:Value),cs[j]? = some c->(v::vs)[j]? = some bf->eN w A c bf:=by
    rintro⟨xs,rfl⟩ mN;refine fin (.aS cz) (by unfold uh; rw[mN]; exact⟨cz,rfl,w7⟩) (.aS cz xs (by have:=b4.len; simp only[Value.cells,Array.length_toList] at this; exact this.symm) (fun j x aj=>?_) (fun j c x ak aj=>?_))
    ·have aN:j<cz.length:=by rw[b4.len]; simp only[Value.cells,Array.length_toList]; exact (Array.getElem?_eq_some_iff.1 aj).1
     exact (b4.ol j cz[j] x (List.getElem?_eq_getElem aN) (by simpa [Value.cells] using aj)).2
    ·exact (b4.ol j c x ak (by simpa [Value.cells] using aj)).1
   have aif:(∀ xs,v≠.agg xs)->dM P t=some false->∃ cs,lU P (t::ts) cs/\cs.length=(v::vs).length/\∀ (j:Nat) (c:ae) (bf:Value),cs[j]? = some c->(v::vs)[j]? = some bf->eN w A c bf:=by
    intro b0 mN;have h4:v.cells.toList=[v] :=by cases v<;>first | rfl | exact absurd rfl (b0 _)
    have aq:=b4.len;rw[h4] at aq;obtain⟨c,rfl⟩:∃ c,cz=[c] :=List.length_eq_one_iff.1 aq;refine fin c (by unfold uh; rw[mN]; exact w7) (b4.ol 0 c v rfl (by rw[h4]; rfl)).1
   have ajm:Cell.okWide P w .any gh t v->∀ xs,v≠.agg xs:=by
    rintro ak xs rfl;unfold Cell.okWide at ak;rw[aL] at ak;cases Ry<;>simp[Cell.ok,aL] at ak
   cases Ry<;>simp only[Option.map_some] at agg<;>first
    | exact aid (by obtain⟨cs,h,_⟩:=ax; exact⟨cs,h⟩) agg
    | exact aif (ajm ax) agg
end
abbrev eh (α:Type) :=Option (List α)
def eh.l {α:Type} (s:eh α) :List α:=s.getD []
@[simp] theorem eh.ash {α:Type}:eh.l (none:eh α)=[] :=rfl
@[simp] theorem eh.JE {α:Type} (l:List α) :eh.l (some l)=l:=rfl
def cS {α:Type} (z:Nat) (enc:α->List ae) :eh α->ae
 | none=>.a6
 | some l=>.b6 z (l.map enc)
section
variable {α:Type} {z:Nat} {enc:α->List ae}
@[simp] theorem o6 (s:eh α) :c9 (.ao z) (cS z enc s)=some (.int .i64 s.l.length) :=by cases s<;>simp[cS,eh.l]
@[simp] theorem qc (s:eh α) (k:IntKind) (i:Int) :cO (.ao z) (cS z enc s) (.int k i)=if 0<=i then (s.l[i.toNat]?).map fun x=>.cn (enc x) 0 else none:=by
 cases s with
 | none=>by_cases h:0<=i<;>simp[cS,eh.l,cO,h]
 | some l=>by_cases h:0<=i<;>simp[cS,eh.l,h,Function.comp_def]
@[simp] theorem aoQ (s:eh α) :(cS z enc s).cells=some [cS z enc s] :=by cases s<;>rfl
theorem we (h:∀ x,bP (enc x)=true) (s:eh α) :(cS z enc s).closed=true:=by
 cases s with
 | none=>rfl
 | some l=>
  simp only[cS,ae.closed]
  induction l with
  | nil=>rfl
  | cons x l aK=>simp only[List.map_cons,ye,h,aK,Bool.and_self]
end
theorem wrap_i64 {n:Int} (h1:-9223372036854775808<=n) (af:n<9223372036854775808) :IntKind.i64.wrap n=n:=by
 have a1:(2 ^ IntKind.i64.bits:Int)=18446744073709551616:=by decide
 have b7:(2 ^ (IntKind.i64.bits - 1) :Int)=9223372036854775808:=by decide
 have dO:IntKind.i64.signed=true:=rfl;simp only[IntKind.wrap,a1,b7,dO,Bool.true_and,decide_eq_true_eq];split<;>omega
theorem ck {α:Type} {l:List α} {k:Nat} (h:k<l.length) :∃ x,l[k]? = some x/\x∈l:=⟨l[k],List.getElem?_eq_getElem h,List.getElem_mem h⟩
section
variable {P:Program} {G:Nat->ae}
theorem Ot {t e:TypeId} (aL:P.underlying t=some (.slice e)) {α:Type} (z:Nat) (enc:α->List ae) (s:eh α) :fD P .eql t (cS z enc s) .a6=some (.bool s.isNone) :=by
 cases s<;>simp[cS,fD,ut,dX,aL]
theorem adT {e:TypeId} {k:IntKind} (aL:P.underlying e=some (.int k)) (aG:dM P e=some false) {D:Nat} (x y:List Int) :∀ (n i:Nat),i+n=x.length->i+n=y.length->
  dX.pK P (dX P (D+1)) e 1 (x.map (.int k)) (y.map (.int k)) n i=some (decide (x.drop i=y.drop i)) :=by
 intro n
 induction n with
 | zero=>intro i aj aO; rw[List.drop_eq_nil_of_le (by omega),List.drop_eq_nil_of_le (by omega)]; simp[dX.pK]
 | succ n aK=>
  intro i aj aO;have oX:x[i]? = some x[i] :=List.getElem?_eq_getElem (by omega);have ahF:y[i]? = some y[i] :=List.getElem?_eq_getElem (by omega);unfold dX.pK;simp only[J8 aG,Nat.mul_one,List.getElem?_map,oX,ahF,Option.map_some];have aw:dX P (D+1) e (.int k x[i]) (.int k y[i])=some (decide (x[i]=y[i])) :=by
   unfold dX;rw[aL];simp only[if_true];by_cases h:x[i]=y[i]<;>simp[h]
  rw[aw];have S7:x.drop i=x[i] ::x.drop (i+1) :=List.drop_eq_getElem_cons (by omega);have S8:y.drop i=y[i] ::y.drop (i+1) :=List.drop_eq_getElem_cons (by omega);by_cases h:x[i]=y[i]
  ·simp only[h,decide_true];rw[aK (i+1) (by omega) (by omega)];refine congrArg some (decide_eq_decide.2 ?_);rw[S7,S8,h];simp only[List.cons.injEq,true_and]
  ·simp only[h,decide_false];refine congrArg some (decide_eq_false ?_).symm;rw[S7,S8];simp only[List.cons.injEq,h,false_and,not_false_eq_true]
theorem ad0 {t e:TypeId} {k:IntKind} {n:Nat} (aU:P.underlying t=some (.array n e)) (aL:P.underlying e=some (.int k)) (aG:dM P e=some false) (ar:cv P e=some 1) {x y:List Int} (aj:x.length=n) (aO:y.length=n) {D:Nat} :
  dX P (D+2) t (.aS (x.map (.int k))) (.aS (y.map (.int k)))=some (decide (x=y)) :=by
 unfold dX;rw[aU];simp only[ar];rw[adT aL aG x y n 0 (by omega) (by omega)];simp
theorem Hl {z:Nat} {es:List (List ae)} (aB:∀ e∈es,e.length=z) :es.flatten.length=es.length*z:=by
 induction es with
 | nil=>simp
 | cons e es aK=>rw[List.flatten_cons,List.length_append,aB e (by simp),aK fun e aw=>aB e (by simp[aw]),List.length_cons,Nat.succ_mul,Nat.add_comm]
theorem Br {z:Nat} {es:List (List ae)} (aB:∀ e∈es,e.length=z) {i j:Nat} {e:List ae} (aw:es[i]? = some e) (am:j<z) :es.flatten[i*z+j]? = e[j]?:=by
 induction es generalizing i with
 | nil=>simp at aw
 | cons x es aK=>
  have aj:x.length=z:=aB x (by simp);cases i with
  | zero=>
   simp only[List.getElem?_cons_zero,Option.some.injEq] at aw;subst aw;rw[List.flatten_cons,Nat.zero_mul,Nat.zero_add,List.getElem?_append_left (by omega)]
  | succ i=>
   simp only[List.getElem?_cons_succ] at aw;rw[List.flatten_cons,List.getElem?_append_right (by rw[aj,Nat.succ_mul]; omega),aj,show (i+1)*z+j - z=i*z+j by rw[Nat.succ_mul]; omega];exact aK (fun e aw=>aB e (by simp[aw])) aw
theorem c8 {ah:bj} {i:Nat} {v:ae} (h:ah i=v) :bO ah i v=ah:=by
 funext t; simp only[bO]; split<;>simp_all
theorem oj {ah:bj} {dP:Nat} {e0:ae} {en:Nat} {dx:ae} (h1:ah dP=e0) (af:ah en=dx) :∃ s:bj,ah=bO (bO (s) dP e0) en dx:=⟨ah,by rw[c8 h1,c8 af]⟩
theorem jG {ah:bj} {dP:Nat} {e0:ae} {en:Nat} {dx:ae} {gP:Nat} {v3:ae} (h1:ah dP=e0) (af:ah en=dx) (ap:ah gP=v3) :∃ s:bj,ah=bO (bO (bO (s) dP e0) en dx) gP v3:=⟨ah,by rw[c8 h1,c8 af,c8 ap]⟩
theorem j2 {ah:bj} {dP:Nat} {e0:ae} {en:Nat} {dx:ae} {gP:Nat} {v3:ae} {h6:Nat} {v4:ae} (h1:ah dP=e0) (af:ah en=dx) (ap:ah gP=v3) (aH:ah h6=v4) :∃ s:bj,ah=bO (bO (bO (bO (s) dP e0) en dx) gP v3) h6 v4:=⟨ah,by rw[c8 h1,c8 af,c8 ap,c8 aH]⟩
theorem kC {ah:bj} {dP:Nat} {e0:ae} {en:Nat} {dx:ae} {gP:Nat} {v3:ae} {h6:Nat} {v4:ae} {i2:Nat} {v5:ae} (h1:ah dP=e0) (af:ah en=dx) (ap:ah gP=v3) (aH:ah h6=v4) (bc:ah i2=v5) :∃ s:bj,ah=bO (bO (bO (bO (bO (s) dP e0) en dx) gP v3) h6 v4) i2 v5:=⟨ah,by rw[c8 h1,c8 af,c8 ap,c8 aH,c8 bc]⟩
theorem DO {ah:bj} {dP:Nat} {e0:ae} {en:Nat} {dx:ae} {gP:Nat} {v3:ae} {h6:Nat} {v4:ae} {i2:Nat} {v5:ae} {ks:Nat} {dj:ae} (h1:ah dP=e0) (af:ah en=dx) (ap:ah gP=v3) (aH:ah h6=v4) (bc:ah i2=v5) (bM:ah ks=dj) :∃ s:bj,ah=bO (bO (bO (bO (bO (bO (s) dP e0) en dx) gP v3) h6 v4) i2 v5) ks dj:=⟨ah,by rw[c8 h1,c8 af,c8 ap,c8 aH,c8 bc,c8 bM]⟩
theorem aaW {ah:bj} {dP:Nat} {e0:ae} {en:Nat} {dx:ae} {gP:Nat} {v3:ae} {h6:Nat} {v4:ae} {i2:Nat} {v5:ae} {ks:Nat} {dj:ae} {h7:Nat} {mv:ae} (h1:ah dP=e0) (af:ah en=dx) (ap:ah gP=v3) (aH:ah h6=v4) (bc:ah i2=v5) (bM:ah ks=dj) (eE:ah h7=mv) :∃ s:bj,ah=bO (bO (bO (bO (bO (bO (bO (s) dP e0) en dx) gP v3) h6 v4) i2 v5) ks dj) h7 mv:=⟨ah,by rw[c8 h1,c8 af,c8 ap,c8 aH,c8 bc,c8 bM,c8 eE]⟩
theorem aaX {ah:bj} {dP:Nat} {e0:ae} {en:Nat} {dx:ae} {gP:Nat} {v3:ae} {h6:Nat} {v4:ae} {i2:Nat} {v5:ae} {ks:Nat} {dj:ae} {h7:Nat} {mv:ae} {oY:Nat} {jc:ae} (h1:ah dP=e0) (af:ah en=dx) (ap:ah gP=v3) (aH:ah h6=v4) (bc:ah i2=v5) (bM:ah ks=dj) (eE:ah h7=mv) (gN:ah oY=jc) :∃ s:bj,ah=bO (bO (bO (bO (bO (bO (bO (bO (s) dP e0) en dx) gP v3) h6 v4) i2 v5) ks dj) h7 mv) oY jc:=⟨ah,by rw[c8 h1,c8 af,c8 ap,c8 aH,c8 bc,c8 bM,c8 eE,c8 gN]⟩
theorem amV {ah:bj} {dP:Nat} {e0:ae} {en:Nat} {dx:ae} {gP:Nat} {v3:ae} {h6:Nat} {v4:ae} {i2:Nat} {v5:ae} {ks:Nat} {dj:ae} {h7:Nat} {mv:ae} {oY:Nat} {jc:ae} {tg:Nat} {v9:ae} (h1:ah dP=e0) (af:ah en=dx) (ap:ah gP=v3) (aH:ah h6=v4) (bc:ah i2=v5) (bM:ah ks=dj) (eE:ah h7=mv) (gN:ah oY=jc) (fb:ah tg=v9) :∃ s:bj,ah=bO (bO (bO (bO (bO (bO (bO (bO (bO (s) dP e0) en dx) gP v3) h6 v4) i2 v5) ks dj) h7 mv) oY jc) tg v9:=⟨ah,by rw[c8 h1,c8 af,c8 ap,c8 aH,c8 bc,c8 bM,c8 eE,c8 gN,c8 fb]⟩
theorem aaV {ah:bj} {dP:Nat} {e0:ae} {en:Nat} {dx:ae} {gP:Nat} {v3:ae} {h6:Nat} {v4:ae} {i2:Nat} {v5:ae} {ks:Nat} {dj:ae} {h7:Nat} {mv:ae} {oY:Nat} {jc:ae} {tg:Nat} {v9:ae} {zn:Nat} {Ao:ae} {zo:Nat} {Ap:ae} (h1:ah dP=e0) (af:ah en=dx) (ap:ah gP=v3) (aH:ah h6=v4) (bc:ah i2=v5) (bM:ah ks=dj) (eE:ah h7=mv) (gN:ah oY=jc) (fb:ah tg=v9) (lq:ah zn=Ao) (uA:ah zo=Ap) :∃ s:bj,ah=bO (bO (bO (bO (bO (bO (bO (bO (bO (bO (bO (s) dP e0) en dx) gP v3) h6 v4) i2 v5) ks dj) h7 mv) oY jc) tg v9) zn Ao) zo Ap:=⟨ah,by rw[c8 h1,c8 af,c8 ap,c8 aH,c8 bc,c8 bM,c8 eE,c8 gN,c8 fb,c8 lq,c8 uA]⟩
theorem amU {ah:bj} {dP:Nat} {e0:ae} {en:Nat} {dx:ae} {gP:Nat} {v3:ae} {h6:Nat} {v4:ae} {i2:Nat} {v5:ae} {ks:Nat} {dj:ae} {h7:Nat} {mv:ae} {oY:Nat} {jc:ae} {tg:Nat} {v9:ae} {zn:Nat} {Ao:ae} {zo:Nat} {Ap:ae} {UC:Nat} {aaY:ae} (h1:ah dP=e0) (af:ah en=dx) (ap:ah gP=v3) (aH:ah h6=v4) (bc:ah i2=v5) (bM:ah ks=dj) (eE:ah h7=mv) (gN:ah oY=jc) (fb:ah tg=v9) (lq:ah zn=Ao) (uA:ah zo=Ap) (Hz:ah UC=aaY) :∃ s:bj,ah=bO (bO (bO (bO (bO (bO (bO (bO (bO (bO (bO (bO (s) dP e0) en dx) gP v3) h6 v4) i2 v5) ks dj) h7 mv) oY jc) tg v9) zn Ao) zo Ap) UC aaY:=⟨ah,by rw[c8 h1,c8 af,c8 ap,c8 aH,c8 bc,c8 bM,c8 eE,c8 gN,c8 fb,c8 lq,c8 uA,c8 Hz]⟩
section
variable {α:Type}
@[simp] theorem wh (l:au) (z:Nat) (enc:α->List ae) (s:eh α) :df l z (cS z enc s)=some ((s.l.map enc).flatten,s.l.length) :=by
 cases s<;>simp[cS,df]
end
theorem hb {cs vs:List ae} (h:vs.length=cs.length) :bS cs 0 vs=vs:=by
 simp only[bS,List.take_zero,List.nil_append,Nat.zero_add];rw[List.drop_eq_nil_of_le (by omega),List.append_nil]
theorem Ow (len cap:Nat) (k:IntKind) (i:Int) :f1 len cap (some (.int k i)) none none=if 0<=i/\i<=len then some (i.toNat,len,cap) else none:=by
 unfold f1 jK;by_cases h:0<=i/\i<=len
 ·simp only[if_pos h]
 ·simp only[if_neg h]
theorem Ez (len cap:Nat) (k:IntKind) (i:Int) :f1 len cap none (some (.int k i)) none=if 0<=i/\i<=cap then some (0,i.toNat,cap) else none:=by
 unfold f1 jK;by_cases h:0<=i/\i<=cap
 ·simp only[if_pos h]
 ·simp only[if_neg h]
theorem acv (len cap:Nat) (k k' : IntKind) (i j:Int) :f1 len cap (some (.int k i)) (some (.int k' j)) none=if 0<=i/\i<=j/\j<=cap then some (i.toNat,j.toNat,cap) else none:=by
 unfold f1 jK;by_cases h:0<=j/\j<=cap
 ·simp only[if_pos h];by_cases af:0<=i/\i<=((j.toNat:Nat) :Int)
  ·simp only[if_pos af]; rw[if_pos (by omega)]
  ·simp only[if_neg af]; rw[if_neg (by omega)]
 ·simp only[if_neg h]; rw[if_neg (by omega)]
theorem alM {α:Type} {z:Nat} {enc:α->List ae} {l:List α} {k:IntKind} {i:Int} (h1:0<=i) (af:i<=l.length) :fN (.ao z) (cS z enc (some l)) (some (.int k i)) none none=some (cS z enc (some (l.drop i.toNat))) :=by
 have ap:i.toNat<=l.length:=by omega
 simp only[fN,cS,if_true,Ow,List.length_map];rw[if_pos ⟨h1,af⟩];simp only[Option.map_some,Option.some.injEq,ae.b6.injEq,true_and];rw[List.take_of_length_le (by simp),List.map_drop]
theorem alQ {α:Type} {z:Nat} {enc:α->List ae} {l:List α} {k:IntKind} {i:Int} (h1:0<=i) (af:i<=l.length) :fN (.ao z) (cS z enc (some l)) none (some (.int k i)) none=some (cS z enc (some (l.take i.toNat))) :=by
 simp only[fN,cS,if_true,Ez,List.length_map];rw[if_pos ⟨h1,af⟩];simp only[Option.map_some,Option.some.injEq,ae.b6.injEq,true_and,List.drop_zero,Nat.sub_zero];rw[List.map_take]
theorem alN {α:Type} {z:Nat} {enc:α->List ae} {l:List α} {k k' : IntKind} {i j:Int} (aQ:0<=i) (h1:i<=j) (af:j<=l.length) :fN (.ao z) (cS z enc (some l)) (some (.int k i)) (some (.int k' j)) none=some (cS z enc (some ((l.drop i.toNat).take (j.toNat - i.toNat)))) :=by
 simp only[fN,cS,if_true,acv,List.length_map];rw[if_pos ⟨aQ,h1,af⟩];simp only[Option.map_some,Option.some.injEq,ae.b6.injEq,true_and];rw[List.map_take,List.map_drop]
theorem map_set {α:Type} (l:List α) (k:Nat) (x:α) (enc:α->List ae) :(l.map enc).set k (enc x)=(l.set k x).map enc:=by rw[List.map_set]
end
section
variable {P:Program}
def aas (P:Program) (t:TypeId) :Option (List TypeId) :=match P.underlying t with
 | some (.struct fs)=>some (fs.toList.map (·.type))
 | _=>none
theorem Nk {cs:List ae} (h:dy P [] cs) :cs=[] :=by cases h; rfl
theorem Ak {t:TypeId} {k:IntKind} {ts:List TypeId} {cs:List ae} (aL:P.underlying t=some (.int k)) (h:dy P (t::ts) cs) :∃ n cs',cs=.int k n::cs'/\k.min<=n/\n<=k.max/\dy P ts cs':=by
 cases h
 case int k' n cs' h1 af n1 h=>
  rw[aL] at n1; cases n1; exact⟨_,_,rfl,h1,af,h⟩
 all_goals (exfalso; simp_all; done)
theorem Al {t:TypeId} {fs ts:List TypeId} {cs:List ae} (aL:aas P t=some fs) (h:dy P (t::ts) cs) :dy P (fs++ts) cs:=by
 unfold aas at aL;cases h
 case struct apF n1 h=>rw[n1] at aL; cases aL; exact h
 all_goals (exfalso; simp_all; done)
theorem amL {t e:TypeId} {n:Nat} {ts:List TypeId} {cs:List ae} (aL:P.underlying t=some (.array n e)) (h:dy P (t::ts) cs) :dy P (List.replicate n e++ts) cs:=by
 cases h
 case array eH ga n1 h=>rw[aL] at n1; cases n1; exact h
 all_goals (exfalso; simp_all; done)
theorem amO {t e:TypeId} {ts:List TypeId} {cs:List ae} (aL:P.underlying t=some (.slice e)) (h:dy P (t::ts) cs) :
  ∃ cs',dy P ts cs'/\(cs=.a6::cs'\/∃ es,cs=.b6 (P.cellsOf e) es::cs'/\es.length<=maxLen/\∀ r∈es,dy P [e] r) :=by
 cases h
 case a6 eH cs' n1 h=>exact⟨_,h,.inl rfl⟩
 case ao eH es cs' aq aB aw n1 h=>rw[aL] at n1; cases n1; exact⟨_,h,.inr ⟨es,rfl,aq,aw⟩⟩
 all_goals (exfalso; simp_all; done)
theorem ZX {α:Type} {enc:α->List ae} {Q:α->Prop}:∀ (es:List (List ae)),(∀ r∈es,∃ x,r=enc x/\Q x)->∃ xs:List α,es=xs.map enc/\∀ x∈xs,Q x
 | [],_=>⟨[],rfl,fun x aj=>by cases aj⟩
 | r::es,h=>by
  obtain⟨x,rfl,aj⟩:=h r (by simp);obtain⟨xs,rfl,xg⟩:=ZX es (fun r aC=>h r (by simp[aC]));exact⟨x::xs,rfl,fun y aO=>by
   rcases List.mem_cons.1 aO with rfl | aO
   ·exact aj
   ·exact xg y aO⟩
theorem aaR {α:Type} {t e:TypeId} {z:Nat} {enc:α->List ae} {Q:α->Prop} {ts:List TypeId} {cs:List ae} (aL:P.underlying t=some (.slice e)) (aB:P.cellsOf e=z) (aw:∀ r,dy P [e] r->∃ x,r=enc x/\Q x) (h:dy P (t::ts) cs) :
  ∃ (s:eh α) (cs' : List ae),cs=cS z enc s::cs'/\s.l.length<=maxLen/\(∀ x∈s.l,Q x)/\dy P ts cs':=by
 obtain⟨cs',h1,rfl | ⟨es,rfl,aq,aC⟩⟩:=amO aL h
 ·exact⟨none,cs',rfl,Nat.zero_le _,fun x aj=>(by cases aj),h1⟩
 ·obtain⟨xs,rfl,xg⟩:=ZX (enc:=enc) (Q:=Q) es (fun r jv=>aw r (aC r jv));refine⟨some xs,cs',?_,by simpa using aq,xg,h1⟩;rw[aB]; rfl
theorem amJ {t:TypeId} {c:ae} (aG:dM P t=some true) (h:uh P t c) :∃ cs,c=.aS cs/\dy P [t] cs:=by
 unfold uh at h; rw[aG] at h; exact h
theorem amG {t:TypeId} {ts:List TypeId} {cs:List ae} (h:lU P (t::ts) cs) :∃ c cs',cs=c::cs'/\uh P t c/\lU P ts cs':=by
 cases h with
 | cons h1 af=>exact⟨_,_,rfl,h1,af⟩
theorem amI {cs:List ae} (h:lU P [] cs) :cs=[] :=by cases h; rfl
end
end Go.cl

namespace Go.cl
open Go Go.ChangeShapes Go.RowKit
theorem aaL {H:Type} {enc:TypeId × Value->H} {P:Program} (aq:laidOutB P=true) {W qT:World} (ai:Below W.heap.size W qT) :∀ {ts:List TypeId} {vs:List Value} {g2:List (DataW H)} {cx:List MemPlace},
  (∀ t∈ts,P.readableRec t=true/\t<P.types.size)->DataW.TrodAll enc P W 0 (fun _=>true) true ts vs g2 cx->DataW.TrodAll enc P qT 0 (fun b=>decide (b<W.heap.size)) true ts vs g2 cx
 | [],vs,g2,cx,_,h=>by
  obtain⟨rfl,rfl,rfl⟩:=trodAll_nil h;exact trodAll_mk0
 | t::ts,vs,g2,cx,aC,h=>by
  have aN:=h.lt;obtain⟨v,am6,d,adJ,a,b,rfl,rfl,rfl,h1,af⟩:=trodAll_cons h;exact⟨a,b,Below.trod aq (aC t (by simp)).1 (aC t (by simp)).2 h1 ai (fun x aj=>aN x (by simp[aj])),aaL aq ai (fun t aU=>aC t (by simp[aU])) af,rfl⟩
theorem aiJ {P:Program} {G:Nat->ae} (kp:P.follows .mixedOrders=true) (jn:∀ g,(G g).closed=true) {f:FuncId} {ts:List TypeId} (D:Nat) (aF:∀ t∈ts,r1 P D t=true) (agr:laidOutB P=true)
  (cB:∀ t∈ts,P.readableRec t=true/\t<P.types.size) (aiH:∀ cs,lU P ts cs->dB P G f cs [] (c:=⟨fun r _=>r=.bool true⟩))
  {H:Type} {enc:TypeId × Value->H} {W:World} {gh:Nat} {args:Array Value} {g2:List (DataW H)} {cx:List MemPlace} (az:∀ g,eN W (fun _=>True) (G g) (.pointer (some ⟨g,0,none⟩)))
  (dG:∀ (j:Nat) t v,ts[j]? = some t->args[j]? = some v->Value.okWide P W .any gh t v) (h:DataW.TrodAll enc P W 0 (fun _=>true) true ts args.toList g2 cx) :
  Calls P f args W fun e w'=>e=.returned (.bool true)/\Below W.heap.size W w'/\DataW.TrodAll enc P w' 0 (fun b=>decide (b<W.heap.size)) true ts args.toList g2 cx:=by
 obtain⟨cs,w7,bz,rD⟩:=N8 (A:=fun _=>True) (fun _=>trivial) aF (fun j t v aU ax=>dG j t v aU (by simpa using ax)) h;exact (aiI kp jn (aiH cs w7) az (by rw[bz]; simp) (fun j c v ak ax=>rD j c v ak (by simpa using ax))).mono fun e w' ⟨aw,ai⟩=>⟨aw,ai,aaL agr ai cB h⟩
end Go.cl

/-
  The canonical machine, part X: what must hold behind code without types holds behind the code.
-/
import Derived.Test.YtboebmmklamaeaaGreatDoorVd
import GoSem.ClaimChange
import GoSem.ClaimWide
import Derived.ProofKit
set_option linter.unusedVariables false
set_option linter.unusedSimpArgs false
set_option linter.unnecessarySimpa false
namespace Go.cn
open Go
section
variable {P:Program} {G:Nat->ae}
theorem Tb {op:Op} {m:a6} (hm:mB P op=some m) (aw:jw op=false) :m.looks=true\/m.ic=true:=by
 cases op<;>simp only[jw,Bool.true_eq_false,reduceCtorEq] at aw<;>simp only[mB] at hm<;>try (cases hm; done)
 case move=>cases hm; exact .inl rfl
 case assign=>cases hm; exact .inl rfl
 case pick=>cases hm; exact .inl rfl
 case alloc=>rw[map_some] at hm; obtain⟨_,_,rfl⟩:=hm; exact .inr rfl
 case box=>cases hm; exact .inr rfl
 case build=>simp only[bind_some,map_some] at hm; obtain⟨_,_,_,_,rfl⟩:=hm; exact .inl rfl
 case buildSlice=>simp only[bind_some,hE] at hm; obtain⟨_,_,_,_,_,_,_,rfl⟩:=hm; exact .inr rfl
 case load=>split at hm<;>cases hm<;>exact .inl rfl
 case nilCheck=>cases hm; exact .inl rfl
 case binOp=>cases hm; exact .inl rfl
 case unOp=>cases hm; exact .inl rfl
 case convert=>
  repeat' split at hm
  all_goals first | (cases hm; done) | (cases hm; exact .inl rfl)
 case makeInterface=>split at hm<;>cases hm; exact .inl rfl
 case makeFunc f a b=>cases f<;>simp only at hm<;>cases hm; exact .inl rfl
 case makeSlice=>simp only[bind_some,hE] at hm; obtain⟨_,_,_,_,_,_,_,_,_,rfl⟩:=hm; exact .inr rfl
 case slice=>rw[map_some] at hm; obtain⟨_,_,rfl⟩:=hm; exact .inl rfl
 case fieldAddr=>rw[bind_some] at hm; obtain⟨_,_,hm⟩:=hm; split at hm<;>cases hm; exact .inl rfl
 case field=>rw[bind_some] at hm; obtain⟨_,_,hm⟩:=hm; split at hm<;>cases hm<;>exact .inl rfl
 case indexAddr=>split at hm<;>cases hm<;>exact .inl rfl
 case index=>
  repeat' split at hm
  all_goals first | (cases hm; done) | (cases hm; exact .inl rfl)
 case extract=>cases hm; exact .inl rfl
 case call c=>
  split at hm
  ·rename_i b ai;rw[ai] at aw;cases b<;>simp only[Bool.true_eq_false,reduceCtorEq] at aw<;>unfold tt at hm<;>(repeat' split at hm)<;>first
    | (cases hm; done)
    | (cases hm; exact .inl rfl)
    | (rw[map_some] at hm; obtain⟨_,_,rfl⟩:=hm; exact .inl rfl)
    | (exfalso; simp only[reduceCtorEq] at *; done)
  ·rename_i f aI;rw[aI] at aw; cases aw
  ·cases hm
theorem Tc {op:Op} {m:a6} (hm:mB P op=some m) (aU:rr P op=false) :m.reads=false/\m.ic=false:=by
 cases op<;>simp only[rr,Bool.true_eq_false,reduceCtorEq] at aU<;>simp only[mB] at hm<;>try (cases hm; done)
 case move=>cases hm; exact⟨rfl,rfl⟩
 case assign=>cases hm; exact⟨rfl,rfl⟩
 case pick=>cases hm; exact⟨rfl,rfl⟩
 case build=>simp only[bind_some,map_some] at hm; obtain⟨_,_,_,_,rfl⟩:=hm; exact⟨rfl,rfl⟩
 case store=>rw[map_some] at hm; obtain⟨_,_,rfl⟩:=hm; exact⟨rfl,rfl⟩
 case nilCheck=>cases hm; exact⟨rfl,rfl⟩
 case binOp=>cases hm; exact⟨rfl,rfl⟩
 case unOp=>cases hm; exact⟨rfl,rfl⟩
 case makeInterface=>split at hm<;>cases hm; exact⟨rfl,rfl⟩
 case makeFunc f a b=>cases f<;>simp only at hm<;>cases hm; exact⟨rfl,rfl⟩
 case typeAssert=>rw[map_some] at hm; obtain⟨_,_,rfl⟩:=hm; exact⟨rfl,rfl⟩
 case slice=>rw[map_some] at hm; obtain⟨_,_,rfl⟩:=hm; exact⟨rfl,rfl⟩
 case fieldAddr=>rw[bind_some] at hm; obtain⟨_,_,hm⟩:=hm; split at hm<;>cases hm; exact⟨rfl,rfl⟩
 case field=>rw[bind_some] at hm; obtain⟨_,_,hm⟩:=hm; split at hm<;>cases hm<;>exact⟨rfl,rfl⟩
 case indexAddr=>split at hm<;>cases hm<;>exact⟨rfl,rfl⟩
 case index=>
  repeat' split at hm
  all_goals first | (cases hm; done) | (cases hm; exact⟨rfl,rfl⟩)
 case extract=>cases hm; exact⟨rfl,rfl⟩
 case next it b=>cases b<;>simp only[reduceCtorEq] at hm<;>cases hm; exact⟨rfl,rfl⟩
 case panic=>cases hm; exact⟨rfl,rfl⟩
 case lookup=>split at hm<;>(try cases hm; done); rw[map_some] at hm; obtain⟨_,_,rfl⟩:=hm; exact⟨rfl,rfl⟩
 case mapUpdate=>split at hm<;>cases hm; exact⟨rfl,rfl⟩
 case insert=>split at hm<;>cases hm; exact⟨rfl,rfl⟩
 case makeMap=>split at hm<;>cases hm; exact⟨rfl,rfl⟩
 case range=>split at hm<;>cases hm; exact⟨rfl,rfl⟩
 case call c=>
  split at hm
  ·rename_i b ai;rw[ai] at aU;unfold tt at hm
   repeat' split at hm
   all_goals first
    | (cases hm; done)
    | (exfalso; simp_all; done)
    | (cases hm; exact⟨rfl,rfl⟩)
    | (simp only[bind_some,map_some] at hm; obtain⟨_,_,rfl⟩:=hm; exact⟨rfl,rfl⟩)
    | (simp only[bind_some,map_some] at hm; obtain⟨_,_,_,_,rfl⟩:=hm; exact⟨rfl,rfl⟩)
    | (simp only[bind_some,hE] at hm; obtain⟨_,_,_,_,_,_,_,rfl⟩:=hm; exact⟨rfl,rfl⟩)
    | (simp only[bind_some,hE] at hm; obtain⟨_,_,_,_,_,_,_,_,_,rfl⟩:=hm; exact⟨rfl,rfl⟩)
  ·split at hm
   ·rw[hE] at hm; obtain⟨_,rfl⟩:=hm; exact⟨rfl,rfl⟩
   ·cases hm
  ·cases hm
inductive lJ (P:Program) (G:Nat->ae) (s:dT) (o:Oper) (ah:bi) (l:av) (v:ae) (l1:av) :bT->Prop
 | pure (m:a6) (ai:s.b=.cG m) (hm:m.looks=true) (au:l1=l) (ar:bW P (cY G ah) l m=some (v,l)) :lJ P G s o ah l v l1 (.pure s.i v)
 | new (m:a6) (cs:List ae) (ai:s.b=.cG m) (hm:m.ic=true) (au:l1=l++[.cells cs.length cs]) :lJ P G s o ah l v l1 (.new s.i v cs)
 | fS (aw:jw o.op=true) (bA:l.length<=l1.length) :lJ P G s o ah l v l1 (.fS s.i v (b3 l1))
theorem lJ.idx {s:dT} {o:Oper} {ah:bi} {l l1:av} {v:ae} {t:bT} (k:lJ P G s o ah l v l1 t) :t.idx=s.i:=by cases k<;>rfl
theorem lJ.val {s:dT} {o:Oper} {ah:bi} {l l1:av} {v:ae} {t:bT} (k:lJ P G s o ah l v l1 t) :t.val=v:=by cases k<;>rfl
theorem lJ.next {s:dT} {o:Oper} {ah:bi} {l l1:av} {v:ae} {t:bT} (k:lJ P G s o ah l v l1 t) :oQ (b3 l) t=b3 l1:=by
 cases k with
 | pure m ai hm au ar=>rw[au]; rfl
 | new m cs ai hm au=>rw[au,<-lb]; rfl
 | fS aw _=>rfl
theorem apu {ops:Array Oper} {s:dT} {o:Oper} (ok:n4 P ops s o) {ah:bi} (bB:jH ops ah o=some true) {l:av} {K:ae->av->Prop} (h:hj P G s.b ah l K) :
  ∃ v l1 t,lJ P G s o ah l v l1 t/\u2 P G ops ⟨ah,b3 l⟩ t/\K v l1:=by
 obtain⟨v,l1,h1,ag,ap,aJ⟩:=acG ok h;have jP:jw o.op=true->∃ v l1 t,lJ P G s o ah l v l1 t/\u2 P G ops ⟨ah,b3 l⟩ t/\K v l1:=fun aw=>⟨v,l1,_,.fS aw ag,⟨o,ok.here,bB,h1,by simpa using ag⟩,ap⟩
 cases ai:s.b with
 | cG m=>
  have hm:=ok.cG m ai;cases aw:jw o.op with
  | true=>exact jP aw
  | false=>
   have ar:=aJ m ai (Tb hm aw);rcases Tb hm aw with au | aH
   ·have:=X2 au ar;subst this;exact⟨v,l1,_,.pure m ai au rfl ar,⟨o,ok.here,bB⟩,ap⟩
   ·obtain⟨cs,mk,bd,bL,eN⟩:=al9 hm aH ar;exact⟨v,l1,_,.new m cs ai aH eN,⟨o,mk,ok.here,bB,bd,bL⟩,ap⟩
 | cR f args=>
  obtain⟨c,fO,al,_⟩:=ok.cR f args ai;exact jP (by rw[fO]; simp only[jw,al])
 | gW x args=>
  obtain⟨c,fO,al,_⟩:=ok.gW x args ai;exact jP (by rw[fO]; simp only[jw,al])
 | m8 x name args=>
  obtain⟨c,fO,al,_⟩:=ok.m8 x name args ai;exact jP (by rw[fO]; simp only[jw,al])
inductive jj (P:Program) (G:Nat->ae) (ops:Array Oper) :List dT->bi->av->hM->List (bT × bi × av)->bi->av->Prop
 | nil {ah l seen}:jj P G ops [] ah l seen [] ah l
 | skip {s o r ah l seen es b7 l'}:n4 P ops s o->jH ops ah o=some false->jj P G ops r (gR ah s.dst gT) l seen es b7 l'->jj P G ops (s::r) ah l seen ((.skip s.i,ah,l) ::es) b7 l'
 | step {s o r ah l v l1 t seen es b7 l'}:n4 P ops s o->lJ P G s o ah l v l1 t->u2 P G ops ⟨ah,b3 l⟩ t->og s.h2 seen l1->
   jj P G ops r (gR ah s.dst v) l1 (pY s.cM s.i (kB P G s.b ah v l l1) seen) es b7 l'->jj P G ops (s::r) ah l seen ((t,ah,l) ::es) b7 l'
theorem Og {ops:Array Oper} {K:bi->av->Prop}:∀ {s:List dT} {ah:bi} {l:av} {seen:hM},(∀ x∈s,∃ o,n4 P ops x o)->i0 P G s ah l seen K->∃ es b7 l',jj P G ops s ah l seen es b7 l'/\K b7 l'
 | [],ah,l,seen,_,h=>⟨[],ah,l,.nil,h⟩
 | s::r,ah,l,seen,eb,h=>by
  obtain⟨o,ok⟩:=eb s (by simp);rcases Wt ok h with ⟨bB,h⟩ | ⟨bB,h⟩
  ·obtain⟨v,l1,t,h1,ag,ap,aJ⟩:=apu ok bB h;obtain⟨es,b7,l',bd,bL⟩:=Og (fun x aj=>eb x (by simp[aj])) aJ;exact⟨_,b7,l',.step ok h1 ag ap bd,bL⟩
  ·obtain⟨es,b7,l',bd,bL⟩:=Og (fun x aj=>eb x (by simp[aj])) h;exact⟨_,b7,l',.skip ok bB bd,bL⟩
theorem Oi {K:bi->av->Prop}:∀ {s:List dT} {ah:bi} {l:av},(∀ x∈s,x.cM=false)->iG P G s ah l K->i0 P G s ah l [] K
 | [],ah,l,_,h=>h
 | s::r,ah,l,hk,h=>by
  have mono:∀ (b:o6) (K ga:ae->av->Prop),(∀ v l,K v l->ga v l)->hj P G b ah l K->hj P G b ah l ga:=by
   intro b K ga a8 h;cases b with
   | cG m=>simp only[hj,wK] at h ⊢; obtain⟨v,h1,ag⟩:=h; exact⟨v,h1,WG a8 ag⟩
   | cR f args=>obtain⟨r,l',h1,ag,ap⟩:=h; exact⟨r,l',h1,ag,a8 _ _ ap⟩
   | gW x args=>
    simp only[hj,tk] at h ⊢;split at h
    ·obtain⟨aT,r,l',h1,ag,ap⟩:=h; exact⟨aT,r,l',h1,ag,a8 _ _ ap⟩
    ·cases h
   | m8 x name args=>
    simp only[hj,tj] at h ⊢;split at h
    ·split at h
     ·obtain⟨aT,r,l',h1,ag,ap⟩:=h; exact⟨aT,r,l',h1,ag,a8 _ _ ap⟩
     ·cases h
    ·cases h
  have ahd:∀ (g:Option (Option Tmp × Bool)) (p q bZ fe:Prop),(p->bZ)->(q->fe)->oN ah g p q->oN ah g bZ fe:=by
   intro g p q bZ fe aE bp h;unfold oN at h ⊢;split at h
   ·exact aE h
   ·rename_i d w;simp only[pF] at h ⊢;split at h
    ·rw[AP] at h ⊢;rcases h with ⟨a,b⟩ | ⟨a,b⟩
     ·exact .inl ⟨a,aE b⟩
     ·exact .inr ⟨a,bp b⟩
    ·cases h
    ·exact bp h
   ·exact bp h
  have si:s.cM=false:=hk s (by simp);refine ahd _ _ _ _ _ (mono _ _ _ fun v l' h=>?_) (fun h=>Oi (fun x aj=>hk x (by simp[aj])) h) h;refine⟨trivial,?_⟩;rw[si];exact Oi (fun x aj=>hk x (by simp[aj])) h
theorem lJ.len {s:dT} {o:Oper} {ah:bi} {l l1:av} {v:ae} {t:bT} (k:lJ P G s o ah l v l1 t) :l.length<=l1.length:=by
 cases k with
 | pure m ai hm au ar=>rw[au]; exact Nat.le_refl _
 | new m cs ai hm au=>rw[au]; simp
 | fS aw bA=>exact bA
theorem jj.len {ops:Array Oper} {s:List dT} {ah b7:bi} {l l' : av} {seen:hM} {es:List (bT × bi × av)} (h:jj P G ops s ah l seen es b7 l') :l.length<=l'.length:=by
 induction h with
 | nil=>exact Nat.le_refl _
 | skip _ _ _ aL=>exact aL
 | step _ k _ _ _ aL=>exact Nat.le_trans k.len aL
def sf (es:List (bT × bi × av)) (l' : av) (q:Nat) :av:=match es[q]? with | some x=>x.2.2 | none=>l'
theorem jj.here {ops:Array Oper} {s:List dT} {ah b7:bi} {l l' : av} {seen:hM} {es:List (bT × bi × av)} (h:jj P G ops s ah l seen es b7 l') :sf es l' 0=l:=by
 cases h<;>rfl
theorem jj.idx {ops:Array Oper} {s:List dT} {ah b7:bi} {l l' : av} {seen:hM} {es:List (bT × bi × av)} (h:jj P G ops s ah l seen es b7 l') :es.map (fun e=>e.1.idx)=s.map (·.i) :=by
 induction h with
 | nil=>rfl
 | skip _ _ _ aL=>simp only[List.map_cons,aL]; rfl
 | step _ k _ _ _ aL=>simp only[List.map_cons,aL,k.idx]
theorem jj.at {ops:Array Oper} {s:List dT} {ah b7:bi} {l l' : av} {seen:hM} {es:List (bT × bi × av)} (h:jj P G ops s ah l seen es b7 l') :
  (∀ (p:Nat) (e:bT × bi × av),es[p]? = some e->u2 P G ops ⟨e.2.1,b3 e.2.2⟩ e.1/\go ops ⟨ah,b3 l⟩ (es.map (·.1)) p=⟨e.2.1,b3 e.2.2⟩)/\go ops ⟨ah,b3 l⟩ (es.map (·.1)) es.length=⟨b7,b3 l'⟩:=by
 induction h with
 | nil=>exact⟨fun p e aw=>by simp at aw,rfl⟩
 | @skip s o r ah l seen es b7 l' ok bB _ aL=>
  have nr:k2 ops ⟨ah,b3 l⟩ (.skip s.i)=⟨gR ah s.dst gT,b3 l⟩:=by simp only[k2,vf,bT.idx,ok.here,Option.bind_some,bT.val,oQ,ok.dst]
  refine⟨fun p e aw=>?_,?_⟩
  ·cases p with
   | zero=>simp only[List.getElem?_cons_zero,Option.some.injEq] at aw; subst aw; exact⟨⟨o,ok.here,bB⟩,rfl⟩
   | succ p=>
    simp only[List.getElem?_cons_succ] at aw;obtain⟨h1,ag⟩:=aL.1 p e aw;refine⟨h1,?_⟩;rw[List.map_cons,EC,nr]; exact ag
  ·rw[List.map_cons,List.length_cons,EC,nr]; exact aL.2
 | @step s o r ah l v l1 t seen es b7 l' ok k ar al _ aL=>
  have nr:k2 ops ⟨ah,b3 l⟩ t=⟨gR ah s.dst v,b3 l1⟩:=by simp only[k2,vf,k.idx,ok.here,Option.bind_some,k.val,k.next,ok.dst]
  refine⟨fun p e aw=>?_,?_⟩
  ·cases p with
   | zero=>simp only[List.getElem?_cons_zero,Option.some.injEq] at aw; subst aw; exact⟨ar,rfl⟩
   | succ p=>
    simp only[List.getElem?_cons_succ] at aw;obtain⟨h1,ag⟩:=aL.1 p e aw;refine⟨h1,?_⟩;rw[List.map_cons,EC,nr]; exact ag
  ·rw[List.map_cons,List.length_cons,EC,nr]; exact aL.2
theorem jj.still {ops:Array Oper} {s:List dT} {ah b7:bi} {l l' : av} {seen:hM} {es:List (bT × bi × av)} (h:jj P G ops s ah l seen es b7 l') (j:Nat) (S:av->Prop)
  (oy:∀ l x,S l->S (l++x)) (aT:S l) :∀ q,q<=es.length->(∀ (p:Nat) (e:bT × bi × av),p<q->es[p]? = some e->e.1.iA=true->(j,S)∈seen/\∃ x,s[p]? = some x/\j∈x.h2)->S (sf es l' q) :=by
 have afI:∀ {ids:List Nat} {seen:hM} {l:av},og ids seen l->(j,S)∈seen->j∈ids->S l:=by
  intro ids seen l al hm aA
  induction seen with
  | nil=>cases hm
  | cons e r aL=>
   obtain⟨h1,ag⟩:=al;rcases List.mem_cons.1 hm with rfl | hm
   ·exact h1 (by simpa using aA)
   ·exact aL ag hm
 induction h with
 | nil=>
  intro q bp _; simp only[List.length_nil] at bp; obtain rfl:q=0:=by omega
  exact aT
 | @skip s o r ah l seen es b7 l' ok bB _ aL=>
  intro q bp xk;cases q with
  | zero=>exact aT
  | succ q=>exact aL aT q (by simpa using bp) (fun p e aE aw e1=>by
    obtain⟨h1,x,ag,ap⟩:=xk (p+1) e (by omega) (by simpa using aw) e1;exact⟨h1,x,by simpa using ag,ap⟩)
 | @step s o r ah l v l1 t seen es b7 l' ok k ar al _ aL=>
  intro q bp xk;cases q with
  | zero=>exact aT
  | succ q=>
   have h1:S l1:=by
    cases k with
    | pure m ai hm au _=>rw[au]; exact aT
    | new m cs ai hm au=>rw[au]; exact oy _ _ aT
    | fS aw _=>
     obtain⟨h1,x,ag,ap⟩:=xk 0 _ (by omega) rfl rfl;simp only[List.getElem?_cons_zero,Option.some.injEq] at ag;subst ag;exact afI al h1 ap
   refine aL h1 q (by simpa using bp) (fun p e aE aw e1=>?_);obtain⟨h1,x,ag,ap⟩:=xk (p+1) e (by omega) (by simpa using aw) e1;refine⟨?_,x,by simpa using ag,ap⟩;unfold pY;cases s.cM with
   | false=>exact h1
   | true=>exact List.mem_cons_of_mem _ h1
theorem jj.split {ops:Array Oper} {s:List dT} {ah b7:bi} {l l' : av} {seen:hM} {es:List (bT × bi × av)} (h:jj P G ops s ah l seen es b7 l') :∀ (p:Nat) (e:bT × bi × av),es[p]? = some e->e.1.sD=false->
  ∃ x o v l1 uH,s[p]? = some x/\n4 P ops x o/\lJ P G x o e.2.1 e.2.2 v l1 e.1 ∧
   jj P G ops (s.drop (p+1)) (gR e.2.1 x.dst v) l1 (pY x.cM x.i (kB P G x.b e.2.1 v e.2.2 l1) uH) (es.drop (p+1)) b7 l':=by
 induction h with
 | nil=>intro p e aw; simp at aw
 | @skip s o r ah l seen es b7 l' ok bB _ aL=>
  intro p e aw gq;cases p with
  | zero=>simp only[List.getElem?_cons_zero,Option.some.injEq] at aw; subst aw; cases gq
  | succ p=>
   obtain⟨x,c0,v,l1,uH,h1,ag,ap,aJ⟩:=aL p e (by simpa using aw) gq;exact⟨x,c0,v,l1,uH,by simpa using h1,ag,ap,by simpa using aJ⟩
 | @step s o r ah l v l1 t seen es b7 l' ok k ar al tr aL=>
  intro p e aw gq;cases p with
  | zero=>
   simp only[List.getElem?_cons_zero,Option.some.injEq] at aw; subst aw;exact⟨s,o,v,l1,seen,rfl,ok,k,by simpa using tr⟩
  | succ p=>
   obtain⟨x,c0,v,l1,uH,h1,ag,ap,aJ⟩:=aL p e (by simpa using aw) gq;exact⟨x,c0,v,l1,uH,by simpa using h1,ag,ap,by simpa using aJ⟩
end
section
variable {P:Program} {G:Nat->ae}
theorem YM {ms:List Nat} {ops:Array Oper}:∀ (jd done jP:List Nat),(∀ i∈jd,i<ops.size)->(mP P ms ops jd done jP).map (·.1)=jd
 | [],_,_,_=>rfl
 | i::r,done,jP,h=>by
  unfold mP;have aA:i<ops.size:=h i (by simp);rw[Array.getElem?_eq_getElem aA];simp only;split<;>simp only[List.map_cons]<;>rw[YM r _ _ fun j am=>h j (by simp[am])]
theorem LB {ms:List Nat} {ops:Array Oper}:∀ (jd done jP:List Nat) (p i:Nat) (h2:List Nat),(∀ i∈jd,i<ops.size)->(mP P ms ops jd done jP)[p]? = some (i,h2)->
  (∃ o,ops[i]? = some o/\jw o.op=true)->∀ j,(j∈done\/∃ gl,gl<p/\jd[gl]? = some j)->(∃ o,ops[j]? = some o/\rr P o.op=true)->(∀ e∈jP,nL ms e j=false)->
  (∀ (bZ iz:Nat) (o:Oper),bZ<=p->jd[bZ]? = some iz->ops[iz]? = some o->jw o.op=true->(bZ=p\/o.guard=none)->nL ms iz j=false)->j∈h2
 | [],done,jP,p,i,h2,_,aE,_,_,_,_,_,_=>by simp[mP] at aE
 | x::r,done,jP,p,i,h2,kn,aE,aw,j,am,aU,C6,xK=>by
  unfold mP at aE;have aj:x<ops.size:=kn x (by simp);rw[Array.getElem?_eq_getElem aj] at aE;have JU:ops[x]? = some ops[x] :=Array.getElem?_eq_getElem aj;simp only at aE;have aC:∀ i∈r,i<ops.size:=fun j am=>kn j (by simp[am])
  cases e1:jw ops[x].op with
  | true=>
   rw[e1] at aE;simp only at aE;cases p with
   | zero=>
    simp only[List.getElem?_cons_zero,Option.some.injEq,Prod.mk.injEq] at aE;obtain⟨rfl,rfl⟩:=aE;obtain⟨o,h1,ag⟩:=aU;rcases am with am | ⟨gl,VJ,_⟩
    ·refine List.mem_filter.2 ⟨am,?_⟩;simp only[h1,ag,Bool.true_and,List.all_cons,Bool.and_eq_true,List.all_eq_true];exact⟨by simp[xK 0 x ops[x] (Nat.le_refl _) (by simp) JU e1 (.inl rfl)],fun e aw=>by simp[C6 e aw]⟩
    ·omega
   | succ p=>
    simp only[List.getElem?_cons_succ] at aE;refine LB r _ _ p i h2 aC aE aw j ?_ aU ?_ ?_
    ·rcases am with am | ⟨gl,VJ,am⟩
     ·exact .inl (by simp[am])
     ·cases gl with
      | zero=>simp only[List.getElem?_cons_zero,Option.some.injEq] at am; exact .inl (by simp[am])
      | succ gl=>exact .inr ⟨gl,by omega,by simpa using am⟩
    ·intro e fW;cases az:ops[x].guard with
     | none=>
      rw[az] at fW;rcases List.mem_cons.1 fW with rfl | fW
      ·exact xK 0 e ops[e] (by omega) (by simp) JU e1 (.inr az)
      ·exact C6 e fW
     | some nD=>rw[az] at fW; exact C6 e fW
    ·intro bZ iz o fF fN ay vn az;exact xK (bZ+1) iz o (by omega) (by simpa using fN) ay vn (by rcases az with rfl | az; exact .inl rfl; exact .inr az)
  | false=>
   rw[e1] at aE;simp only at aE;cases p with
   | zero=>
    simp only[List.getElem?_cons_zero,Option.some.injEq,Prod.mk.injEq] at aE;obtain⟨rfl,rfl⟩:=aE;obtain⟨o,h1,ag⟩:=aw;rw[JU] at h1; cases h1;rw[e1] at ag; cases ag
   | succ p=>
    simp only[List.getElem?_cons_succ] at aE;refine LB r _ _ p i h2 aC aE aw j ?_ aU C6 ?_
    ·rcases am with am | ⟨gl,VJ,am⟩
     ·exact .inl (by simp[am])
     ·cases gl with
      | zero=>simp only[List.getElem?_cons_zero,Option.some.injEq] at am; exact .inl (by simp[am])
      | succ gl=>exact .inr ⟨gl,by omega,by simpa using am⟩
    ·intro bZ iz o fF fN ay vn az;exact xK (bZ+1) iz o (by omega) (by simpa using fN) ay vn (by rcases az with rfl | az; exact .inl rfl; exact .inr az)
theorem To {ms:List Nat} {ops:Array Oper}:∀ {jd:List Nat},zC ms ops jd=true->∀ (p bZ i j:Nat) (o:Oper),jd[p]? = some i->jd[bZ]? = some j->p<bZ->ops[i]? = some o->jw o.op=true->nL ms j i=true
 | [],_,p,bZ,i,j,o,aE,_,_,_,_=>by simp at aE
 | x::r,h,p,bZ,i,j,o,aE,fF,aP,ay,aw=>by
  simp only[zC,Bool.and_eq_true] at h;cases bZ with
  | zero=>omega
  | succ bZ=>
   simp only[List.getElem?_cons_succ] at fF;cases p with
   | zero=>
    simp only[List.getElem?_cons_zero,Option.some.injEq] at aE;subst aE;rw[ay] at h;simp only[aw,Bool.not_true,Bool.false_or,List.all_eq_true] at h;exact h.1 j (List.mem_of_getElem? fF)
   | succ p=>exact To h.2 p bZ i j o (by simpa using aE) fF (by omega) ay aw
theorem DV {α i2:Type} {f:α->Option i2}:∀ {l:List α} {r:List i2},l.mapM f=some r->∀ (p:Nat) (x:i2),r[p]? = some x->∃ a,l[p]? = some a/\f a=some x
 | [],r,h,p,x,aj=>by simp at h; subst h; simp at aj
 | a::l,r,h,p,x,aj=>by
  rw[List.mapM_cons] at h;simp only[Option.bind_eq_bind,bind_some,Option.pure_def,Option.some.injEq] at h;obtain⟨b,h1,cx,ag,rfl⟩:=h;cases p with
  | zero=>simp only[List.getElem?_cons_zero,Option.some.injEq] at aj; subst aj; exact⟨a,rfl,h1⟩
  | succ p=>obtain⟨eL,ap,aJ⟩:=DV ag p x (by simpa using aj); exact⟨eL,by simpa using ap,aJ⟩
theorem K6 {α i2:Type} {f:α->Option i2}:∀ {l:List α} {r:List i2},l.mapM f=some r->r.length=l.length
 | [],r,h=>by simp at h; subst h; rfl
 | a::l,r,h=>by
  rw[List.mapM_cons] at h;simp only[Option.bind_eq_bind,bind_some,Option.pure_def,Option.some.injEq] at h;obtain⟨b,h1,cx,ag,rfl⟩:=h;simp[K6 ag]
theorem aiy (es:List (bT × bi × av)) (l' : av) (n q:Nat) :sf (es.drop n) l' q=sf es l' (n+q) :=by
 unfold sf; rw[List.getElem?_drop]
theorem agm {id N' : Nat} {ops:Array Oper} {uK:List dT} (bN:∀ (i:Nat) (o:Oper),ops[i]? = some o->ol N' o.dst=true)
  (kn:Ln (hX ops) ops (ff (hX ops) ops)=true) (aix:zC (hX ops) ops (ff (hX ops) ops)=true)
  (cK:(mP P (hX ops) ops (ff (hX ops) ops) [] []).mapM (fun p=>Bv P ops p.1 p.2 (((mP P (hX ops) ops (ff (hX ops) ops) [] []).flatMap (·.2)).contains p.1))=some uK)
  {ah b7:bi} {l l' : av} {es:List (bT × bi × av)} (tr:jj P G ops uK ah l [] es b7 l') :dj P G (.code (.region id ops true) N' ah (b3 l) .normal b7 (b3 l')) :=by
 simp only[Ln,Bool.and_eq_true] at kn;obtain⟨⟨⟨⟨yg,nG⟩,pS⟩,sO⟩,ig⟩:=kn;have J5:∀ i∈ff (hX ops) ops,i<ops.size:=fun i aA=>by
  rw[List.all_eq_true] at sO;simpa [Nat.blt_eq] using sO i aA
 have VN:(mP P (hX ops) ops (ff (hX ops) ops) [] []).map (·.1)=ff (hX ops) ops:=YM _ _ _ J5;have Dz:∀ (p:Nat) (x:dT),uK[p]? = some x->∃ o,n4 P ops x o/\(mP P (hX ops) ops (ff (hX ops) ops) [] [])[p]? = some (x.i,x.h2) ∧
   x.cM=((mP P (hX ops) ops (ff (hX ops) ops) [] []).flatMap (·.2)).contains x.i:=fun p x aj=>by
  obtain⟨a,h1,ag⟩:=DV cK p x aj;obtain⟨o,ap,aJ,bd,bL⟩:=EE ag;exact⟨o,ap,by rw[h1,aJ,bd],by rw[bL,aJ]⟩
 have V2:∀ (p:Nat) (x:dT),uK[p]? = some x->(ff (hX ops) ops)[p]? = some x.i:=fun p x aj=>by
  obtain⟨o,_,h1,_⟩:=Dz p x aj;rw[<-VN,List.getElem?_map,h1]; rfl
 have tQ:∀ (p:Nat) (e:bT × bi × av),es[p]? = some e->∃ x,uK[p]? = some x/\x.i=e.1.idx:=fun p e aw=>by
  have:=congrArg (·[p]?) tr.idx;simp only[List.getElem?_map,aw,Option.map_some] at this;cases aj:uK[p]? with
  | none=>rw[aj] at this; cases this
  | some x=>rw[aj] at this; simp only[Option.map_some,Option.some.injEq] at this; exact⟨x,rfl,this.symm⟩
 have qP:∀ (p:Nat) (e:bT × bi × av),es[p]? = some e->(ff (hX ops) ops)[p]? = some e.1.idx:=fun p e aw=>by
  obtain⟨x,h1,ag⟩:=tQ p e aw;rw[V2 p x h1,ag]
 have eQ:∀ (p:Nat) (t:bT),(es.map (·.1))[p]? = some t->∃ e,es[p]? = some e/\e.1=t:=fun p t aU=>by simpa using aU
 have vC:∀ (p:Nat) (e:bT × bi × av),es[p]? = some e->e.1.iA=true->∃ o,ops[e.1.idx]? = some o/\jw o.op=true/\(jH ops e.2.1 o=some true) :=fun p e aw e1=>by
  have gq:e.1.sD=false:=by cases h:e.1<;>rw[h] at e1<;>first | rfl | cases e1
  obtain⟨x,o,v,l1,uH,h1,ag,ap,aJ⟩:=tr.split p e aw gq;have xP:=(tr.at.1 p e aw).1;have fX:=ap.idx;have aN:=ag.here;rw[<-fX] at aN;refine⟨o,aN,?_,?_⟩
  ·revert e1;generalize e.1=t at ap;intro e1;cases ap with
   | pure=>cases e1
   | new=>cases e1
   | fS aw _=>exact aw
  ·revert xP e1 aN;generalize e.1=t;intro e1 xP aN;cases t<;>first | (cases e1; done) | skip
   obtain⟨c0,bd,bL,_⟩:=xP;simp only[bT.idx] at aN;rw[aN] at bd; cases bd;exact bL
 have fI:wI ops (nL (hX ops)) (es.map (·.1)) :=by
  refine⟨agk yg,fun i aA=>?_,fun p bZ t fJ aE fF aw=>?_,fun p t aE=>?_,fun p bZ t fJ aE fF aP=>?_,fun p bZ t fJ aE fF aP e1=>?_⟩
  ·rw[List.all_eq_true] at ig;have:=ig i (by simpa using aA);have hm:i∈ff (hX ops) ops:=by simpa using this
   have iS:(es.map (·.1)).map bT.idx=ff (hX ops) ops:=by
    rw[List.map_map];show es.map (fun e=>e.1.idx)=_;rw[tr.idx,<-VN];apply List.ext_getElem?;intro p;rw[List.getElem?_map,List.getElem?_map];cases aj:uK[p]? with
    | none=>
     have:(mP P (hX ops) ops (ff (hX ops) ops) [] [])[p]? = none:=by
      rw[List.getElem?_eq_none_iff] at aj ⊢;rw[<-K6 cK]; exact aj
     rw[this]; rfl
    | some x=>obtain⟨o,_,h1,_⟩:=Dz p x aj; rw[h1]; rfl
   rw[<-iS] at hm;obtain⟨t,h1,ag⟩:=List.mem_map.1 hm;obtain⟨p,aE⟩:=List.getElem?_of_mem h1;exact⟨p,t,aE,ag⟩
  ·obtain⟨e,aY,a2⟩:=eQ p t aE;obtain⟨e0,rW,zL⟩:=eQ bZ fJ fF;have bj:=qP p e aY;have bz:=qP bZ e0 rW;rw[a2] at bj; rw[zL] at bz;rcases Nat.lt_trichotomy p bZ with h | h | h
   ·exact absurd aw (Ea nG p bZ _ _ bj bz h).1
   ·exact h
   ·exact absurd aw.symm (Ea nG bZ p _ _ bz bj h).1
  ·obtain⟨e,aY,a2⟩:=eQ p t aE;have bj:=qP p e aY;rw[a2] at bj;exact J5 _ (List.mem_of_getElem? bj)
  ·obtain⟨e,aY,a2⟩:=eQ p t aE;obtain⟨e0,rW,zL⟩:=eQ bZ fJ fF;have bj:=qP p e aY;have bz:=qP bZ e0 rW;rw[a2] at bj; rw[zL] at bz;exact (Ea nG p bZ _ _ bj bz aP).2
  ·obtain⟨e,aY,a2⟩:=eQ p t aE;obtain⟨e0,rW,zL⟩:=eQ bZ fJ fF;obtain⟨o,ev,dU,_⟩:=vC p e aY (by rw[a2]; exact e1);have bj:=qP p e aY;have bz:=qP bZ e0 rW;rw[a2] at bj ev; rw[zL] at bz;exact To aix p bZ _ _ o bj bz aP ev dU
 have i8:∀ q,q<=es.length->(go ops ⟨ah,b3 l⟩ (es.map (·.1)) q).h=b3 (sf es l' q) :=fun q bp=>by
  unfold sf;cases aw:es[q]? with
  | none=>
   have:q=es.length:=by rw[List.getElem?_eq_none_iff] at aw; omega
   rw[this,tr.at.2]
  | some e=>rw[(tr.at.1 q e aw).2]
 have oY:E9 P G ops (nL (hX ops)) ⟨ah,b3 l⟩ (es.map (·.1)) :=by
  refine⟨fun p t aE=>?_,fun q bp p t atZ aE eS=>?_⟩
  ·obtain⟨e,aY,a2⟩:=eQ p t aE;obtain⟨cX,dB⟩:=tr.at.1 p e aY;rw[dB,<-a2]; exact cX
  ·obtain⟨e,aY,a2⟩:=eQ p t aE;obtain⟨cX,dB⟩:=tr.at.1 p e aY;have kp:q<=es.length:=by
    rcases bp with rfl | ⟨apM,bp,_⟩
    ·simp
    ·obtain⟨eq,bh,_⟩:=eQ q apM bp;exact Nat.le_of_lt (List.getElem?_eq_some_iff.1 bh).1
   rw[i8 q kp,dB];cases gq:e.1.sD with
   | true=>rw[<-a2]; cases h:e.1<;>rw[h] at gq<;>first | trivial | cases gq
   | false=>
    obtain⟨x,o,v,l1,uH,h1,ag,ap,aJ⟩:=tr.split p e aY gq;obtain⟨c0,fT,g3,ai8⟩:=Dz p x h1;have ajF:c0=o:=by have a:=fT.here; have b:=ag.here; rw[a] at b; exact Option.some.inj b
    subst ajF;have ask:rr P c0.op=true->∀ (bZ:Nat) (e0:bT × bi × av),bZ<q - (p+1)->(es.drop (p+1))[bZ]? = some e0->e0.1.iA=true->
      (x.i,kB P G x.b e.2.1 v e.2.2 l1)∈pY x.cM x.i (kB P G x.b e.2.1 v e.2.2 l1) uH/\∃ y,(uK.drop (p+1))[bZ]? = some y/\x.i∈y.h2:=by
     intro aU bZ e0 fF fW vn;rw[List.getElem?_drop] at fW;obtain⟨y,ci,b6⟩:=tQ _ e0 fW;obtain⟨rc,df,g5,_⟩:=Dz _ y ci;obtain⟨amt,iX,ak1,auq⟩:=vC _ e0 fW vn;have eA:x.i∈y.h2:=by
      refine LB _ _ _ _ _ _ J5 g5 ⟨amt,by rw[b6]; exact iX,ak1⟩ x.i (.inr ⟨p,by omega,V2 p x h1⟩) ⟨c0,ag.here,aU⟩ (fun e aw=>by cases aw) ?_;intro re Kt D2 atV aiR VH CJ az
      -- what is at p'' was carried out
      have aP:re<es.length:=by
       have:=(List.getElem?_eq_some_iff.1 fW).1;omega
      have iS:es[re]? = some es[re] :=List.getElem?_eq_getElem aP;have hr:=qP _ _ iS;rw[aiR] at hr;have sh:Kt=es[re].1.idx:=Option.some.inj hr;have ahB:es[re].1.iA=true:=by
       cases Av:es[re].1.sD with
       | true=>
        exfalso;rcases az with rfl | az
        ·rw[iS] at fW;cases fW;cases h:es[p+1+bZ].1<;>rw[h] at vn Av<;>first | (cases Av; done) | (cases vn; done)
        ·have xP:=(tr.at.1 _ _ iS).1;cases h:es[re].1<;>rw[h] at Av xP sh<;>first | (cases Av; done) | skip
         obtain⟨pS,jA,jc⟩:=xP;simp only[bT.idx] at sh;rw[<-sh,VH] at jA; cases jA;simp[jH,az] at jc
       | false=>
        obtain⟨BG,pS,v3,eO,aw2,jA,jc,uq,_⟩:=tr.split _ _ iS Av;have aiT:=uq.idx;have U8:=jc.here;rw[<-aiT,<-sh,VH] at U8; cases U8;revert uq;generalize es[re].1=t3;intro uq;cases uq with
        | pure m ai hm _ _=>
         exfalso;have al:=jc.cG m ai;have:jw D2.op=false:=by
          revert al hm;cases D2.op<;>simp only[mB]<;>intro hm al<;>first | rfl | (exfalso; revert al hm; done) | skip
          case store=>rw[map_some] at al; obtain⟨_,_,rfl⟩:=al; cases hm
          case call c=>
           split at al
           ·rename_i b ai;unfold jw;simp only[ai];unfold tt at al
            repeat' split at al
            all_goals first
             | rfl
             | (cases al; done)
             | (cases al; cases hm; done)
             | (simp only[bind_some,map_some] at al; obtain⟨_,_,rfl⟩:=al; cases hm; done)
             | (simp only[bind_some,map_some] at al; obtain⟨_,_,_,_,rfl⟩:=al; cases hm; done)
             | (simp only[bind_some,hE] at al; obtain⟨_,_,_,_,_,_,_,rfl⟩:=al; cases hm; done)
             | (simp only[bind_some,hE] at al; obtain⟨_,_,_,_,_,_,_,_,_,rfl⟩:=al; cases hm; done)
           ·split at al
            ·rw[hE] at al; obtain⟨_,rfl⟩:=al; cases hm
            ·cases al
           ·cases al
          case next it b=>(cases b<;>simp only[reduceCtorEq] at al<;>cases al<;>cases hm)
          case lookup=>split at al<;>(try cases al; done); rw[map_some] at al; obtain⟨_,_,rfl⟩:=al; cases hm
          case mapUpdate=>split at al<;>cases al; cases hm
          case insert=>split at al<;>cases al; cases hm
          case panic=>(cases al; cases hm)
          case makeMap=>split at al<;>cases al; cases hm
          case range=>split at al<;>cases al; cases hm
          case typeAssert=>rw[map_some] at al; obtain⟨_,_,rfl⟩:=al; cases hm
          all_goals (cases al)
         rw[this] at CJ; cases CJ
        | new m cs ai hm _=>
         exfalso;have al:=jc.cG m ai;have:jw D2.op=false:=by
          revert al hm;cases D2.op<;>simp only[mB]<;>intro hm al<;>first | rfl | (exfalso; revert al hm; done) | skip
          case store=>rw[map_some] at al; obtain⟨_,_,rfl⟩:=al; cases hm
          case panic=>(cases al; cases hm)
          case call c=>
           split at al
           ·rename_i b ai;unfold jw;simp only[ai];unfold tt at al
            repeat' split at al
            all_goals first
             | rfl
             | (cases al; done)
             | (cases al; cases hm; done)
             | (simp only[bind_some,map_some] at al; obtain⟨_,_,rfl⟩:=al; cases hm; done)
             | (simp only[bind_some,map_some] at al; obtain⟨_,_,_,_,rfl⟩:=al; cases hm; done)
             | (simp only[bind_some,hE] at al; obtain⟨_,_,_,_,_,_,_,rfl⟩:=al; cases hm; done)
             | (simp only[bind_some,hE] at al; obtain⟨_,_,_,_,_,_,_,_,_,rfl⟩:=al; cases hm; done)
           ·split at al
            ·rw[hE] at al; obtain⟨_,rfl⟩:=al; cases hm
            ·cases al
           ·cases al
          case next it b=>(cases b<;>simp only[reduceCtorEq] at al<;>cases al<;>cases hm)
          case lookup=>split at al<;>(try cases al; done); rw[map_some] at al; obtain⟨_,_,rfl⟩:=al; cases hm
          case mapUpdate=>split at al<;>cases al; cases hm
          case insert=>split at al<;>cases al; cases hm
          case makeMap=>split at al<;>cases al; cases hm
          case range=>split at al<;>cases al; cases hm
          case typeAssert=>rw[map_some] at al; obtain⟨_,_,rfl⟩:=al; cases hm
          all_goals (cases al)
         rw[this] at CJ; cases CJ
        | fS _ _=>rfl
      have:=eS re es[re].1 (by omega) (by simp[iS]) ahB;rw[sh,ag.here |> fun _=>(ap.idx).symm,a2];exact this
     refine⟨?_,y,by rw[List.getElem?_drop]; exact ci,eA⟩;have:x.cM=true:=by
      rw[ai8];simp only[List.contains_iff_mem,List.mem_flatMap];exact⟨(y.i,y.h2),List.mem_of_getElem? g5,eA⟩
     rw[this];exact List.mem_cons_self
    have Cz:rr P c0.op=true->(∀ l yP,kB P G x.b e.2.1 v e.2.2 l1 l->kB P G x.b e.2.1 v e.2.2 l1 (l++yP))->kB P G x.b e.2.1 v e.2.2 l1 l1->kB P G x.b e.2.1 v e.2.2 l1 (sf es l' q) :=by
     intro aU oy aT;have:=aJ.still x.i _ oy aT (q - (p+1)) (by simp only[List.length_drop]; omega) (ask aU)
     rwa [aiy,show p+1+(q - (p+1))=q by omega] at this
    rw[<-a2];revert ap Cz ask a2;generalize e.1=t1;intro a2 ap ask Cz;cases ap with
    | fS=>trivial
    | pure m ai hm au ar=>
     intro nG mH;rw[ag.here] at mH; cases mH;have al:=ag.cG m ai;cases aC:m.reads with
     | false=>exact DZ al (alU hm aC ar)
     | true=>
      have aU:rr P c0.op=true:=by
       cases h:rr P c0.op with
       | true=>rfl
       | false=>rw[(Tc al h).1] at aC; cases aC
      have vP:m.ic=false:=by cases m<;>first | rfl | cases aC
      have cK:∀ ce,kB P G x.b e.2.1 v e.2.2 l1 ce<->bW P (cY G e.2.1) ce m=some (v,ce) :=fun ce=>by rw[ai]; simp only[kB,vP]
      have:=Cz aU (fun ce yP h=>by rw[cK] at h ⊢; exact alT hm h) (by rw[cK,au]; exact ar);rw[cK] at this;exact DZ al this
    | new m cs ai hm au=>
     have al:=ag.cG m ai;have aU:rr P c0.op=true:=by
      cases h:rr P c0.op with
      | true=>rfl
      | false=>rw[(Tc al h).2] at hm; cases hm
     have cK:∀ ce:av,kB P G x.b e.2.1 v e.2.2 l1 ce<->ce[e.2.2.length]? = some (.cells cs.length cs) :=fun ce=>by
      rw[ai,au]; simp only[kB,hm]; rw[List.getElem?_append_right (Nat.le_refl _)]; simp
     have:=Cz aU (fun ce yP h=>by rw[cK] at h ⊢; rw[List.getElem?_append_left (e9 h)]; exact h) (by rw[cK,au,List.getElem?_append_right (Nat.le_refl _)]; simp);rw[cK] at this;show (b3 (sf es l' q)).f (b3 e.2.2).n=_;rw[n1,wF,this]
 have:=dj.agj (id:=id) fI bN oY;rw[List.length_map,tr.at.2] at this;exact this
end
section
variable {P:Program} {G:Nat->ae}
theorem Pz {ops:Array Oper} {f:Nat->Option dT}:∀ {is:List Nat} {s:List dT} {os:List Oper},(∀ i x,f i=some x->∃ o,n4 P ops x o/\x.i=i)->is.mapM f=some s->is.map (fun i=>ops[i]?)=os.map some->wD P ops s os
 | [],s,os,aI,h,ay=>by
  simp at h; subst h;cases os with
  | nil=>exact .nil
  | cons=>simp at ay
 | i::is,s,os,aI,h,ay=>by
  rw[List.mapM_cons] at h;simp only[Option.bind_eq_bind,bind_some,Option.pure_def,Option.some.injEq] at h;obtain⟨x,h1,eY,ag,rfl⟩:=h;cases os with
  | nil=>simp at ay
  | cons o os=>
   simp only[List.map_cons,List.cons.injEq] at ay;obtain⟨c0,ok,aA⟩:=aI i x h1;have:c0=o:=by have:=ok.here; rw[aA,ay.1] at this; exact (Option.some.inj this).symm
   subst this;exact .cons ok (Pz aI ag ay.2)
theorem afX {N N' id:Nat} (fu:N<=N') {ops:Array Oper} {draw:Bool} {c:aS} (al:Ib P N ops draw=some c) {ah:bi} {l:av} {K:gF} (h:run P G c ah l K) :
  ∃ e b7 l',dj P G (.code (.region id ops draw) N' ah (b3 l) e b7 (b3 l'))/\l.length<=l'.length/\K e b7 l':=by
 unfold Ib at al;split at al
 ·cases al
 ·rename_i ox;have bN:∀ (i:Nat) (o:Oper),ops[i]? = some o->ol N' o.dst=true:=fun i o ay=>by
   rw[List.all_eq_true] at ox;have:=ox o (by simpa using Array.mem_of_getElem? ay);unfold ol at this ⊢;split at this
   ·rename_i d _; exact decide_eq_true (Nat.lt_of_lt_of_le (of_decide_eq_true this) fu)
   ·rfl
  split at al
  ·rw[map_some] at al;obtain⟨s,h1,rfl⟩:=al;have eG:wD P ops s ops.toList:=by
    refine Pz (fun i x aj=>?_) h1 ?_
    ·obtain⟨o,ag,ap,_⟩:=EE aj; exact⟨o,ag,ap⟩
    ·apply List.ext_getElem?;intro p;rw[List.getElem?_map,List.getElem?_map];by_cases aE:p<ops.size
     ·rw[List.getElem?_range aE]; simp[aE]
     ·rw[List.getElem?_eq_none (by simp; omega),List.getElem?_eq_none (by simp; omega)]; rfl
   obtain⟨b7,l',ag,ap,aJ⟩:=Ol bN eG h;exact⟨.normal,b7,l',.region ag,ap,aJ⟩
  ·simp only at al;split at al
   ·cases al
   ·rename_i Jc;simp only[Bool.and_eq_true] at Jc;split at al
    ·cases al
    ·rename_i s ar;have eb:∀ x∈s,∃ o,n4 P ops x o:=fun x aj=>by
      obtain⟨p,aE⟩:=List.getElem?_of_mem aj;obtain⟨a,_,ag⟩:=DV ar p x aE;obtain⟨o,ap,_⟩:=EE ag;exact⟨o,ap⟩
     have fin:i0 P G s ah l [] (K .normal)->∃ e b7 l',dj P G (.code (.region id ops true) N' ah (b3 l) e b7 (b3 l'))/\l.length<=l'.length/\K e b7 l':=fun h=>by
      obtain⟨es,b7,l',h1,ag⟩:=Og eb h;exact⟨.normal,b7,l',agm bN Jc.1 Jc.2 ar h1,h1.len,ag⟩
     split at al
     ·rename_i xk;cases al;refine fin (Oi (fun x aj=>?_) h)
      obtain⟨p,aE⟩:=List.getElem?_of_mem aj;obtain⟨a,_,ag⟩:=DV ar p x aE;obtain⟨o,_,_,_,ap⟩:=EE ag;rw[ap,xk]; rfl
     ·cases al;exact fin h
theorem aoC {N N' : Nat} (fu:N<=N') :∀ (code:Code) (c:aS),comp P N code=some c->∀ (ah:bi) (l:av) (K:gF),run P G c ah l K->
  ∃ e b7 l',dj P G (.code code N' ah (b3 l) e b7 (b3 l'))/\l.length<=l'.length/\K e b7 l':=by
 intro code
 induction code with
 | skip=>intro c al ah l K h; cases al; exact⟨_,_,_,.skip _ _ _,Nat.le_refl _,h⟩
 | label n=>intro c al ah l K h; cases al; exact⟨_,_,_,.label _ _ _ _,Nat.le_refl _,h⟩
 | ret=>intro c al ah l K h; cases al; exact⟨_,_,_,.ret _ _ _,Nat.le_refl _,h⟩
 | exit id=>intro c al ah l K h; cases al; exact⟨_,_,_,.exit _ _ _ _,Nat.le_refl _,h⟩
 | region id ops draw=>intro c al ah l K h; exact afX fu al h
 | seq a b Kx Ky=>
  intro c al ah l K h;have mk:∀ (wQ tl:aS),comp P N a=some wQ->comp P N b=some tl->run P G wQ ah l (mN (fun ah l=>run P G tl ah l K) K)->∃ e b7 l',dj P G (.code (.seq a b) N' ah (b3 l) e b7 (b3 l'))/\l.length<=l'.length/\K e b7 l':=by
   intro wQ tl aG ai h;obtain⟨e,il,l1,h1,ag,ap⟩:=Kx wQ aG ah l _ h;cases e with
   | normal=>
    obtain⟨e,Pg,ce,aJ,bd,bL⟩:=Ky tl ai il l1 K ap;exact⟨e,Pg,ce,.acr h1 aJ,Nat.le_trans ag bd,bL⟩
   | exit id=>exact⟨_,il,l1,.Oy h1 (by intro h; cases h),ag,ap⟩
   | ret=>exact⟨_,il,l1,.Oy h1 (by intro h; cases h),ag,ap⟩
  simp only[comp] at al;split at al
  ·rename_i bx aG ai;cases al;exact mk _ _ aG ai h
  ·rename_i eL _ aG ai;cases al;refine mk _ _ aG ai ?_;have:mN (fun ah l=>run P G .skip ah l K) K=K:=by
    funext e ah l;cases e<;>rfl
   rw[this]; exact h
  ·rename_i eL bx _ _ aG ai;cases al;exact mk _ _ aG ai h
  ·cases al
 | cond c x y KB KC=>
  intro B6 al ah l K h;simp only[comp] at al;split at al
  ·rename_i mr BH aj aK;cases al;simp only[run,v7] at h;split at h
   ·rename_i b ai;rw[AP] at h;rcases h with ⟨rfl,h⟩ | ⟨rfl,h⟩
    ·obtain⟨e,il,l1,h1,ag,ap⟩:=KB mr aj ah l K h;exact⟨e,il,l1,.cond ai h1,ag,ap⟩
    ·obtain⟨e,il,l1,h1,ag,ap⟩:=KC BH aK ah l K h;exact⟨e,il,l1,.cond ai h1,ag,ap⟩
   ·cases h
  ·cases al
 | block id c aL=>
  intro B6 al ah l K h;simp only[comp,map_some] at al;obtain⟨c',h1,rfl⟩:=al;obtain⟨e,il,l1,ag,ap,aJ⟩:=aL c' h1 ah l _ h;cases e with
  | normal=>exact⟨_,il,l1,.BW ag (by intro h; cases h),ap,aJ⟩
  | ret=>exact⟨_,il,l1,.BW ag (by intro h; cases h),ap,aJ⟩
  | exit qV=>
   simp only[pE] at aJ;split at aJ
   ·rename_i ai;obtain rfl:=jB ai;exact⟨_,il,l1,.P0 ag,ap,aJ⟩
   ·rename_i ai;exact⟨_,il,l1,.BW ag (by intro h; cases h; rw[Nat.beq_refl] at ai; cases ai),ap,aJ⟩
 | loop c aL=>
  intro B6 al ah l K h;simp only[comp,map_some] at al;obtain⟨c',h1,rfl⟩:=al;obtain⟨n,h⟩:=h
  induction n generalizing ah l with
  | zero=>cases h
  | succ n KA=>
   obtain⟨e,il,l1,ag,ap,aJ⟩:=aL c' h1 ah l _ h;cases e with
   | normal=>
    obtain⟨e,Pg,ce,bd,bL,eN⟩:=KA il l1 aJ;exact⟨e,Pg,ce,.x9 ag bd,Nat.le_trans ap bL,eN⟩
   | exit id=>exact⟨_,il,l1,.K0 ag (by intro h; cases h),ap,aJ⟩
   | ret=>exact⟨_,il,l1,.K0 ag (by intro h; cases h),ap,aJ⟩
 | scope c aL=>
  intro B6 al ah l K h;obtain⟨e,il,l1,ag,ap,aJ⟩:=aL B6 al ah l K h;exact⟨e,il,l1,.scope ag,ap,aJ⟩
 | _=>intro c al; cases al
def Ta (P:Program) :ResultVar->Option a6
 | .tmp t=>some (.aq (.tmp t))
 | .cell a t=>mB P (.load t (.tmp a))
def br (P:Program) (f:FuncId) :Option (List a6) :=match P.funcs[f]? with
 | some fn=>fn.results.toList.mapM (Ta P)
 | none=>none
def mM (P:Program) (G:Nat->ae) (K:ae->av->Prop) (ah:bi) (l:av) :List a6->List ae->Prop
 | [],acc=>K (uN acc) l
 | m::r,acc=>W (bW P (cY G ah) l m) (c:=⟨fun x=>mM P G K ah l r (acc++[x.1])⟩)
def KO (P:Program) (G:Nat->ae) (ms:List a6) (K:ae->av->Prop) :gF:=fun e ah l=>match e with
 | .exit _=>False
 | .normal=>mM P G K ah l ms []
 | .ret=>mM P G K ah l ms []
def BS (args:List ae) :bi:=fun t=>args.getD t gT
theorem Wu {K:ae->av->Prop} {ah:bi} {l:av}:∀ {mj:List ResultVar} {ms:List a6} {acc:List ae},mj.mapM (Ta P)=some ms->mM P G K ah l ms acc->∃ vs,uB P (b3 l) ah mj=some vs/\K (uN (acc++vs)) l
 | [],ms,acc,hm,h=>by simp at hm; subst hm; exact⟨[],rfl,by simpa [mM] using h⟩
 | r::mj,ms,acc,hm,h=>by
  rw[List.mapM_cons] at hm;simp only[Option.bind_eq_bind,bind_some,Option.pure_def,Option.some.injEq] at hm;obtain⟨m,h1,awl,ag,rfl⟩:=hm;simp only[mM,wK] at h;obtain⟨⟨v,l1⟩,ap,aJ⟩:=h;obtain⟨vs,bd,bL⟩:=Wu ag aJ;refine⟨v::vs,?_,by simpa using bL⟩;have:yz P (b3 l) ah r=some v:=by
   cases r with
   | tmp t=>cases h1; simp only[bW,Option.some.injEq,Prod.mk.injEq] at ap; rw[<-ap.1]; rfl
   | cell a t=>
    have dH:mB P (.load t (.tmp a))=some m:=h1;have:=DZ dH ap;simp only[c1] at this;unfold yz;show q0 P (b3 l) t (cY G ah (.tmp a))=some v;cases au:q0 P (b3 l) t (cY G ah (.tmp a)) with
    | none=>rw[au] at this; cases this
    | some x=>rw[au] at this; simp only[Option.map_some,Option.some.injEq,n3.val.injEq] at this; rw[this.1]
  simp only[uB,this,bd]
theorem bH {f:FuncId} {c:aS} {ms:List a6} (al:bq P f=some c) (aC:br P f=some ms) {args:List ae} {l:av} {K:uZ}
  (h:run P G c (BS args) l (KO P G ms K.k)) :dh P G f args l (c:=K) :=by
 unfold bq at al;unfold br at aC;split at al
 ·rename_i fn jo;split at al
  ·rename_i body ai;rw[jo] at aC;obtain⟨e,b7,l',h1,ag,ap⟩:=aoC (N':=args.length+(fn.ntmps - args.length)) (by omega) body c al _ _ _ h;have fin:(e=.normal\/e=.ret)->mM P G K.k b7 l' ms []->dh P G f args l (c:=K) :=fun aw ap=>by
    obtain⟨vs,aJ,bd⟩:=Wu aC ap;exact⟨uN vs,l',.inline jo ai h1 aw (by simp only[Eu,aJ]; rfl),ag,by simpa using bd⟩
   cases e with
   | normal=>exact fin (.inl rfl) ap
   | ret=>exact fin (.inr rfl) ap
   | exit id=>cases ap
  ·cases al
 ·cases al
theorem acF {b:o6} {ah:bi} {l:av} {K ga:ae->av->Prop} (a8:∀ v l,K v l->ga v l) (h:hj P G b ah l K) :hj P G b ah l ga:=by
 cases b with
 | cG m=>simp only[hj,wK] at h ⊢; obtain⟨v,h1,ag⟩:=h; exact⟨v,h1,WG a8 ag⟩
 | cR f args=>obtain⟨r,l',h1,ag,ap⟩:=h; exact⟨r,l',h1,ag,a8 _ _ ap⟩
 | gW x args=>
  simp only[hj,tk] at h ⊢;split at h
  ·obtain⟨aT,r,l',h1,ag,ap⟩:=h; exact⟨aT,r,l',h1,ag,a8 _ _ ap⟩
  ·cases h
 | m8 x name args=>
  simp only[hj,tj] at h ⊢;split at h
  ·split at h
   ·obtain⟨aT,r,l',h1,ag,ap⟩:=h; exact⟨aT,r,l',h1,ag,a8 _ _ ap⟩
   ·cases h
  ·cases h
theorem Ws {ah:bi} {g:Option (Option Tmp × Bool)} {p q bZ fe:Prop} (aE:p->bZ) (bp:q->fe) (h:oN ah g p q) :oN ah g bZ fe:=by
 unfold oN at h ⊢;split at h
 ·exact aE h
 ·simp only[pF] at h ⊢;split at h
  ·rw[AP] at h ⊢;rcases h with ⟨a,b⟩ | ⟨a,b⟩
   ·exact .inl ⟨a,aE b⟩
   ·exact .inr ⟨a,bp b⟩
  ·cases h
  ·exact bp h
 ·exact bp h
theorem Oj {K ga:bi->av->Prop} (a8:∀ ah l,K ah l->ga ah l) :∀ {s:List dT} {ah:bi} {l:av},iG P G s ah l K->iG P G s ah l ga
 | [],_,_,h=>a8 _ _ h
 | s::r,_,_,h=>Ws (acF fun _ _ h=>Oj a8 h) (fun h=>Oj a8 h) h
theorem Of {K ga:bi->av->Prop} (a8:∀ ah l,K ah l->ga ah l) :∀ {s:List dT} {ah:bi} {l:av} {seen:hM},i0 P G s ah l seen K->i0 P G s ah l seen ga
 | [],_,_,_,h=>a8 _ _ h
 | s::r,_,_,_,h=>Ws (acF fun _ _ h=>⟨h.1,Of a8 h.2⟩) (fun h=>Of a8 h) h
theorem AQ {k k' : bi->av->Prop} {K ga:gF} (hk:∀ ah l,k ah l->k' ah l) (a8:∀ e ah l,K e ah l->ga e ah l) :∀ e ah l,mN k K e ah l->mN k' ga e ah l:=by
 intro e ah l h; cases e<;>first | exact hk _ _ h | exact a8 _ _ _ h
theorem Oo:∀ {c:aS} {ah:bi} {l:av} {K ga:gF},(∀ e ah l,K e ah l->ga e ah l)->run P G c ah l K->run P G c ah l ga:=by
 intro c
 induction c with
 | skip=>intro ah l K ga a8 h; exact a8 _ _ _ h
 | ret=>intro ah l K ga a8 h; exact a8 _ _ _ h
 | exit id=>intro ah l K ga a8 h; exact a8 _ _ _ h
 | ak s=>intro ah l K ga a8 h; exact Oj (a8 _) h
 | gJ s=>intro ah l K ga a8 h; exact Of (a8 _) h
 | seq a b Kx Ky=>intro ah l K ga a8 h; exact Kx (AQ (fun ah l h=>Ky a8 h) a8) h
 | cond c x y KB KC=>
  intro ah l K ga a8 h;simp only[run,v7] at h ⊢;split at h
  ·rw[AP] at h ⊢;rcases h with ⟨a,b⟩ | ⟨a,b⟩
   ·exact .inl ⟨a,KB a8 b⟩
   ·exact .inr ⟨a,KC a8 b⟩
  ·cases h
 | block id c aL=>
  intro ah l K ga a8 h;refine aL (fun e ah l h=>?_) h;cases e with
  | normal=>exact a8 _ _ _ h
  | ret=>exact a8 _ _ _ h
  | exit qV=>
   simp only[pE] at h ⊢;split at h
   ·exact a8 _ _ _ h
   ·exact a8 _ _ _ h
 | loop c aL=>
  intro ah l K ga a8 h;obtain⟨n,h⟩:=h;refine⟨n,?_⟩
  induction n generalizing ah l with
  | zero=>cases h
  | succ n KA=>exact aL (AQ (fun ah l h=>KA h) a8) h
theorem dh.mono {f:FuncId} {args:List ae} {l:av} {K ga:uZ} (a8:∀ v l,K.k v l->ga.k v l) (h:dh P G f args l (c:=K)) :dh P G f args l (c:=ga) :=by
 obtain⟨r,l',h1,ag,ap⟩:=h; exact⟨r,l',h1,ag,a8 _ _ ap⟩
theorem uo {c:aS} {K:E1} (I:Nat->bi->av->Prop) (step:∀ n ah l,I n ah l->run P G c ah l (mN (fun ah l=>∃ gB,gB<n/\I gB ah l) K.k)) :∀ n ah l,I n ah l->BK (run P G c) ah l (c:=K) :=by
 intro n
 induction n using Nat.strongRecOn with
 | _ n aL=>
  intro ah l h
  -- fuel n+1 is enough
  have zN:∀ (m n:Nat),n<=m->∀ ah l,I n ah l->x9 (run P G c) (m+1) ah l K.k:=by
   intro m
   induction m with
   | zero=>
    intro n aH ah l h;obtain rfl:n=0:=by omega
    exact Oo (AQ (fun ah l ⟨gB,h1,_⟩=>by omega) (fun _ _ _ h=>h)) (step 0 ah l h)
   | succ m Kz=>
    intro n aH ah l h;exact Oo (AQ (fun ah l ⟨gB,h1,ag⟩=>Kz gB (by omega) ah l ag) (fun _ _ _ h=>h)) (step n ah l h)
  exact⟨n+1,zN n n (Nat.le_refl _) ah l h⟩
theorem c7 {c:aS} {K:E1} (n:Nat) (I:Nat->bi->av->Prop) (step:∀ k ah l,k<=n->I k ah l->run P G c ah l (mN (fun ah l=>k<n/\I (k+1) ah l) K.k)) {ah:bi} {l:av} (h:I 0 ah l) :BK (run P G c) ah l (c:=K) :=by
 refine uo (fun m ah l=>∃ k,k+m=n/\I k ah l) (fun m ah l ⟨k,hk,h⟩=>?_) n ah l ⟨0,by omega,h⟩;exact Oo (AQ (fun ah l ⟨h1,ag⟩=>⟨m - 1,by omega,k+1,by omega,ag⟩) (fun _ _ _ h=>h)) (step k ah l (by omega) h)
end
section
variable {P:Program} {G:Nat->ae}
@[simp ↓] theorem aw1 (ah:bi) (l:av) (K:gF) :run P G .skip ah l K=K .normal ah l:=id rfl
@[simp ↓] theorem awZ (ah:bi) (l:av) (K:gF) :run P G .ret ah l K=K .ret ah l:=id rfl
@[simp ↓] theorem awW (i:Nat) (ah:bi) (l:av) (K:gF) :run P G (.exit i) ah l K=K (.exit i) ah l:=id rfl
@[simp ↓] theorem awY (s:List dT) (ah:bi) (l:av) (K:gF) :run P G (.ak s) ah l K=iG P G s ah l (K .normal) :=id rfl
@[simp ↓] theorem awV (s:List dT) (ah:bi) (l:av) (K:gF) :run P G (.gJ s) ah l K=i0 P G s ah l [] (K .normal) :=id rfl
@[simp ↓] theorem aw0 (a b:aS) (ah:bi) (l:av) (K:gF) :run P G (.seq a b) ah l K=run P G a ah l (mN (fun ah l=>run P G b ah l K) K) :=id rfl
@[simp ↓] theorem awU (c:Operand) (x y:aS) (ah:bi) (l:av) (K:gF) :run P G (.cond c x y) ah l K=v7 (cY G ah c) (c:=⟨run P G x ah l K,run P G y ah l K⟩) :=id rfl
@[simp ↓] theorem awT (i:Nat) (c:aS) (ah:bi) (l:av) (K:gF) :run P G (.block i c) ah l K=run P G c ah l (pE i K) :=id rfl
@[simp ↓] theorem awX (c:aS) (ah:bi) (l:av) (K:gF) :run P G (.loop c) ah l K=BK (run P G c) ah l (c:=⟨K⟩) :=id rfl
@[simp ↓] theorem auJ (k:bi->av->Prop) (K:gF) (ah:bi) (l:av) :mN k K .normal ah l=k ah l:=id rfl
@[simp ↓] theorem auI (k:bi->av->Prop) (K:gF) (i:Nat) (ah:bi) (l:av) :mN k K (.exit i) ah l=K (.exit i) ah l:=id rfl
@[simp ↓] theorem auK (k:bi->av->Prop) (K:gF) (ah:bi) (l:av) :mN k K .ret ah l=K .ret ah l:=id rfl
@[simp ↓] theorem aus (i:Nat) (K:gF) (ah:bi) (l:av) :pE i K .normal ah l=K .normal ah l:=id rfl
@[simp ↓] theorem aut (i:Nat) (K:gF) (ah:bi) (l:av) :pE i K .ret ah l=K .ret ah l:=id rfl
def uk (p:Prop) [Decidable p] [c:yX] :Prop:=if p then c.p else c.q
@[simp ↓] theorem aur (i j:Nat) (K:gF) (ah:bi) (l:av) :pE i K (.exit j) ah l=uk (j=i) (c:=⟨K .normal ah l,K (.exit j) ah l⟩) :=by
 unfold pE uk;by_cases h:j=i
 ·simp only[q7 h,if_pos h]
 ·simp only[iY h,if_neg h]
@[simp ↓] theorem auy (i:Nat) (x y:Prop) :uk (i=i) (c:=⟨x,y⟩)=x:=by simp[uk]
@[simp] theorem auz (x y:Prop) :uk True (c:=⟨x,y⟩)=x:=by simp[uk]
@[simp] theorem aux (x y:Prop) :uk False (c:=⟨x,y⟩)=y:=by simp[uk]
@[simp ↓] theorem auv (ms:List a6) (K:ae->av->Prop) (ah:bi) (l:av) :KO P G ms K .normal ah l=mM P G K ah l ms [] :=id rfl
@[simp ↓] theorem auw (ms:List a6) (K:ae->av->Prop) (ah:bi) (l:av) :KO P G ms K .ret ah l=mM P G K ah l ms [] :=id rfl
@[simp ↓] theorem auH (K:ae->av->Prop) (ah:bi) (l:av) (acc:List ae) :mM P G K ah l [] acc=K (uN acc) l:=id rfl
@[simp ↓] theorem auG (K:ae->av->Prop) (ah:bi) (l:av) (m:a6) (r:List a6) (acc:List ae) :mM P G K ah l (m::r) acc=W (bW P (cY G ah) l m) (c:=⟨fun x=>mM P G K ah l r (acc++[x.1])⟩) :=id rfl
@[simp] theorem axe (v:ae) :uN [v]=v:=id rfl
@[simp] theorem axf (v w:ae) (r:List ae) :uN (v::w::r)=.bU (v::w::r) :=id rfl
@[simp ↓] theorem awS (ah:bi) (l:av) (K:bi->av->Prop) :iG P G [] ah l K=K ah l:=id rfl
@[simp ↓] theorem awR (i:Nat) (dst:Option Tmp) (m:a6) (c:List Nat) (k:Bool) (r:List dT) (ah:bi) (l:av) (K:bi->av->Prop) :
  iG P G (⟨i,dst,none,.cG m,c,k⟩::r) ah l K=W (bW P (cY G ah) l m) (c:=⟨fun x=>ec m x.1 x.2 fun v l'=>iG P G r (gR ah dst v) l' K⟩) :=id rfl
@[simp ↓] theorem awN (i:Nat) (dst:Option Tmp) (f:FuncId) (args:List Operand) (c:List Nat) (k:Bool) (r:List dT) (ah:bi) (l:av) (K:bi->av->Prop) :
  iG P G (⟨i,dst,none,.cR f args,c,k⟩::r) ah l K=dh P G f (args.map (cY G ah)) l (c:=⟨fun v l'=>iG P G r (gR ah dst v) l' K⟩) :=id rfl
@[simp ↓] theorem awP (i:Nat) (dst:Option Tmp) (x:Operand) (args:List Operand) (c:List Nat) (k:Bool) (r:List dT) (ah:bi) (l:av) (K:bi->av->Prop) :
  iG P G (⟨i,dst,none,.gW x args,c,k⟩::r) ah l K=tk P G (cY G ah x) (args.map (cY G ah)) l (c:=⟨fun v l'=>iG P G r (gR ah dst v) l' K⟩) :=id rfl
@[simp ↓] theorem awO (i:Nat) (dst:Option Tmp) (x:Operand) (name:String) (args:List Operand) (c:List Nat) (k:Bool) (r:List dT) (ah:bi) (l:av) (K:bi->av->Prop) :
  iG P G (⟨i,dst,none,.m8 x name args,c,k⟩::r) ah l K=tj P G name (cY G ah x) (args.map (cY G ah)) l (c:=⟨fun v l'=>iG P G r (gR ah dst v) l' K⟩) :=id rfl
@[simp ↓] theorem ar4 (name:String) (t:TypeId) (v:ae) (args:List ae) (l:av) (c:uZ) :
  tj P G name (.gg t v) args l (c:=c)=(match we P t name with | some g=>h5 P g=true/\dh P G g (v::args) l (c:=c) | none=>False) :=id rfl
@[simp ↓] theorem awQ (i:Nat) (dst:Option Tmp) (d:Tmp) (w:Bool) (b:o6) (c:List Nat) (k:Bool) (r:List dT) (ah:bi) (l:av) (K:bi->av->Prop) :
  iG P G (⟨i,dst,some (some d,w),b,c,k⟩::r) ah l K=pF (ah d) w (c:=⟨iG P G (⟨i,dst,none,b,c,k⟩::r) ah l K,iG P G r (gR ah dst gT) l K⟩) :=id rfl
@[simp ↓] theorem awM (ah:bi) (l:av) (seen:hM) (K:bi->av->Prop) :i0 P G [] ah l seen K=K ah l:=id rfl
@[simp ↓] theorem awL (i:Nat) (dst:Option Tmp) (m:a6) (c:List Nat) (k:Bool) (r:List dT) (ah:bi) (l:av) (seen:hM) (K:bi->av->Prop) :
  i0 P G (⟨i,dst,none,.cG m,c,k⟩::r) ah l seen K=W (bW P (cY G ah) l m) (c:=⟨fun x=>ec m x.1 x.2 fun v l'=>og c seen l'/\i0 P G r (gR ah dst v) l' (pY k i (kB P G (.cG m) ah v l l') seen) K⟩) :=id rfl
@[simp ↓] theorem awI (i:Nat) (dst:Option Tmp) (f:FuncId) (args:List Operand) (c:List Nat) (k:Bool) (r:List dT) (ah:bi) (l:av) (seen:hM) (K:bi->av->Prop) :
  i0 P G (⟨i,dst,none,.cR f args,c,k⟩::r) ah l seen K=dh P G f (args.map (cY G ah)) l (c:=⟨fun v l'=>og c seen l'/\i0 P G r (gR ah dst v) l' (pY k i (fun _=>True) seen) K⟩) :=id rfl
@[simp ↓] theorem awJ (i:Nat) (dst:Option Tmp) (x:Operand) (args:List Operand) (c:List Nat) (k:Bool) (r:List dT) (ah:bi) (l:av) (seen:hM) (K:bi->av->Prop) :
  i0 P G (⟨i,dst,none,.gW x args,c,k⟩::r) ah l seen K=tk P G (cY G ah x) (args.map (cY G ah)) l (c:=⟨fun v l'=>og c seen l'/\i0 P G r (gR ah dst v) l' (pY k i (fun _=>True) seen) K⟩) :=id rfl
@[simp ↓] theorem awK (i:Nat) (dst:Option Tmp) (d:Tmp) (w:Bool) (b:o6) (c:List Nat) (k:Bool) (r:List dT) (ah:bi) (l:av) (seen:hM) (K:bi->av->Prop) :
  i0 P G (⟨i,dst,some (some d,w),b,c,k⟩::r) ah l seen K=pF (ah d) w (c:=⟨i0 P G (⟨i,dst,none,b,c,k⟩::r) ah l seen K,i0 P G r (gR ah dst gT) l seen K⟩) :=id rfl
@[simp] theorem asq (ids:List Nat) (l:av) :og ids [] l=True:=id rfl
@[simp] theorem asp (ids:List Nat) (e:Nat × (av->Prop)) (r:hM) (l:av) :og ids (e::r) l=((ids.contains e.1=true->e.2 l)/\og ids r l) :=id rfl
@[simp] theorem aw4 (i:Nat) (p:av->Prop) (s:hM) :pY true i p s=(i,p) ::s:=id rfl
@[simp] theorem aw3 (i:Nat) (p:av->Prop) (s:hM) :pY false i p s=s:=id rfl
@[simp] theorem axa (m:a6) (ah:bi) (v:ae) (l l' l1:av) :kB P G (.cG m) ah v l l' l1=(match m.ic with | true=>l1[l.length]? = l'[l.length]? | false=>bW P (cY G ah) l1 m=some (v,l1)) :=id rfl
@[simp ↓] theorem avk (x:Operand) (v:ae) (l:av) (K:ae->av->Prop) :ec (.aq x) v l K=K v l:=id rfl
@[simp ↓] theorem avn (c a b:Operand) (v:ae) (l:av) (K:ae->av->Prop) :ec (.pick c a b) v l K=K v l:=id rfl
@[simp ↓] theorem auL (z:List ae) (v:ae) (l:av) (K:ae->av->Prop) :ec (.alloc z) v l K=K v l:=id rfl
@[simp ↓] theorem auQ (x:Operand) (v:ae) (l:av) (K:ae->av->Prop) :ec (.box x) v l K=K v l:=id rfl
@[simp ↓] theorem auP (z:List ae) (cH:List (Nat × Nat × Operand)) (v:ae) (l:av) (K:ae->av->Prop) :ec (.eh z cH) v l K=K v l:=id rfl
@[simp ↓] theorem auR (z:Nat) (zero:List ae) (n:Nat) (cH:List (Nat × Operand)) (v:ae) (l:av) (K:ae->av->Prop) :ec (.cQ z zero n cH) v l K=K v l:=id rfl
@[simp ↓] theorem au8 (a:Operand) (v:ae) (l:av) (K:ae->av->Prop) :ec (.ld1 a) v l K=K v l:=id rfl
@[simp ↓] theorem au9 (n:Nat) (a:Operand) (v:ae) (l:av) (K:ae->av->Prop) :ec (.aW n a) v l K=K v l:=id rfl
@[simp ↓] theorem avq (n:Nat) (a x:Operand) (v:ae) (l:av) (K:ae->av->Prop) :ec (.st n a x) v l K=K v l:=id rfl
@[simp ↓] theorem avl (x:Operand) (v:ae) (l:av) (K:ae->av->Prop) :ec (.mg x) v l K=K v l:=id rfl
@[simp ↓] theorem auO (o:BinOp) (t:TypeId) (x y:Operand) (v:ae) (l:av) (K:ae->av->Prop) :ec (.bin o t x y) v l K=K v l:=id rfl
@[simp ↓] theorem avs (o:UnOp) (x:Operand) (v:ae) (l:av) (K:ae->av->Prop) :ec (.un o x) v l K=K v l:=id rfl
@[simp ↓] theorem auU (k:IntKind) (x:Operand) (v:ae) (l:av) (K:ae->av->Prop) :ec (.cB k x) v l K=K v l:=id rfl
@[simp ↓] theorem auZ (x:Operand) (v:ae) (l:av) (K:ae->av->Prop) :ec (.wY x) v l K=K v l:=id rfl
@[simp ↓] theorem auT (x:Operand) (v:ae) (l:av) (K:ae->av->Prop) :ec (.rR x) v l K=K v l:=id rfl
@[simp ↓] theorem auY (x:Operand) (v:ae) (l:av) (K:ae->av->Prop) :ec (.qp x) v l K=K v l:=id rfl
@[simp ↓] theorem avg (t:TypeId) (x:Operand) (v:ae) (l:av) (K:ae->av->Prop) :ec (.sK t x) v l K=K v l:=id rfl
@[simp ↓] theorem avr (t:TypeId) (z:ae) (ok:Bool) (x:Operand) (v:ae) (l:av) (K:ae->av->Prop) :ec (.yF t z ok x) v l K=K v l:=id rfl
@[simp ↓] theorem avf (f:FuncId) (a b:List Operand) (v:ae) (l:av) (K:ae->av->Prop) :ec (.pM f a b) v l K=K v l:=id rfl
@[simp ↓] theorem avi (z b:Nat) (zero:List ae) (x y:Operand) (v:ae) (l:av) (K:ae->av->Prop) :ec (.lB z b zero x y) v l K=K v l:=id rfl
@[simp ↓] theorem avp (db:i4) (x:Operand) (cW aA cI:Option Operand) (v:ae) (l:av) (K:ae->av->Prop) :ec (.slice db x cW aA cI) v l K=K v l:=id rfl
@[simp ↓] theorem au1 (n:Nat) (x:Operand) (v:ae) (l:av) (K:ae->av->Prop) :ec (.aO n x) v l K=K v l:=id rfl
@[simp ↓] theorem au2 (n:Nat) (x:Operand) (v:ae) (l:av) (K:ae->av->Prop) :ec (.w8 n x) v l K=K v l:=id rfl
@[simp ↓] theorem au3 (n m:Nat) (x:Operand) (v:ae) (l:av) (K:ae->av->Prop) :ec (.w9 n m x) v l K=K v l:=id rfl
@[simp ↓] theorem au4 (db:i4) (x y:Operand) (v:ae) (l:av) (K:ae->av->Prop) :ec (.bm db x y) v l K=K v l:=id rfl
@[simp ↓] theorem au5 (n z:Nat) (x y:Operand) (v:ae) (l:av) (K:ae->av->Prop) :ec (.v1 n z x y) v l K=K v l:=id rfl
@[simp ↓] theorem au6 (n z:Nat) (x y:Operand) (v:ae) (l:av) (K:ae->av->Prop) :ec (.AL n z x y) v l K=K v l:=id rfl
@[simp ↓] theorem au7 (x y:Operand) (v:ae) (l:av) (K:ae->av->Prop) :ec (.pC x y) v l K=K v l:=id rfl
@[simp ↓] theorem au0 (x:Operand) (n:Nat) (v:ae) (l:av) (K:ae->av->Prop) :ec (.ext x n) v l K=K v l:=id rfl
@[simp ↓] theorem ava (db:i4) (x:Operand) (v:ae) (l:av) (K:ae->av->Prop) :ec (.len db x) v l K=K v l:=id rfl
@[simp ↓] theorem auS (db:i4) (x:Operand) (v:ae) (l:av) (K:ae->av->Prop) :ec (.cap db x) v l K=K v l:=id rfl
@[simp ↓] theorem auN (z b:Nat) (zero:List ae) (x y:Operand) (v:ae) (l:av) (K:ae->av->Prop) :ec (.qg z b zero x y) v l K=K v l:=id rfl
@[simp ↓] theorem auX (z:Nat) (x y:Operand) (v:ae) (l:av) (K:ae->av->Prop) :ec (.tw z x y) v l K=K v l:=id rfl
@[simp ↓] theorem auV (zero:List ae) (x:Operand) (v:ae) (l:av) (K:ae->av->Prop) :ec (.qn zero x) v l K=K v l:=id rfl
@[simp ↓] theorem ave (x y:Operand) (v:ae) (l:av) (K:ae->av->Prop) :ec (.min x y) v l K=K v l:=id rfl
@[simp ↓] theorem avd (x y:Operand) (v:ae) (l:av) (K:ae->av->Prop) :ec (.max x y) v l K=K v l:=id rfl
@[simp ↓] theorem auM (z b:Nat) (x y:Operand) (v:ae) (l:av) (K:ae->av->Prop) :ec (.app z b x y) v l K=dK v l (c:=⟨K⟩) :=id rfl
theorem dK.cM {v:ae} {l:av} {K:ae->av->Prop} (h:K v l) :dK v l (c:=⟨K⟩) :=.inl h
@[simp] theorem auj (a:Operand) :(a6.ld1 a).ic=false:=id rfl
@[simp] theorem auk (n:Nat) (a:Operand) :(a6.aW n a).ic=false:=id rfl
@[simp] theorem aug (k:IntKind) (a:Operand) :(a6.cB k a).ic=false:=id rfl
@[simp] theorem aui (a:Operand) :(a6.wY a).ic=false:=id rfl
@[simp] theorem auf (a:Operand) :(a6.rR a).ic=false:=id rfl
@[simp] theorem auh (a:Operand) :(a6.qp a).ic=false:=id rfl
@[simp] theorem auc (z:List ae) :(a6.alloc z).ic=true:=id rfl
@[simp] theorem aud (a:Operand) :(a6.box a).ic=true:=id rfl
@[simp] theorem aue (z:Nat) (zero:List ae) (n:Nat) (cH:List (Nat × Operand)) :(a6.cQ z zero n cH).ic=true:=id rfl
@[simp] theorem aul (z b:Nat) (zero:List ae) (x y:Operand) :(a6.lB z b zero x y).ic=true:=id rfl
@[simp] theorem awz (l l' : av) (x:Option ae) (v:ae) :(dq l x=some (v,l'))=(x=some v/\l'=l) :=propext fP
@[simp ↓] theorem ari {α:Type} (x:α) (k:α->Prop) :W (some x) (c:=⟨k⟩)=k x:=id rfl
@[simp ↓] theorem arh (l:av) (o:Option ae) (k:ae × av->Prop) :W (dq l o) (c:=⟨k⟩)=W o (c:=⟨fun v=>k (v,l)⟩) :=by unfold W dq; cases o<;>rfl
@[simp ↓] theorem arf {α i2:Type} (o:Option α) (f:α->i2) (k:i2->Prop) :W (o.map f) (c:=⟨k⟩)=W o (c:=⟨fun v=>k (f v)⟩) :=by unfold W; cases o<;>rfl
@[simp ↓] theorem ard {α:Type} (p:Prop) [Decidable p] (x:α) (k:α->Prop) :W (if p then some x else none) (c:=⟨k⟩)=(p/\k x) :=by unfold W; by_cases h:p<;>simp[h]
@[simp ↓] theorem auu (b:Bool) (p q:Prop) :v7 (.bool b) (c:=⟨p,q⟩)=pG b (c:=⟨p,q⟩) :=id rfl
@[simp ↓] theorem auF (p q:Prop) :pG true (c:=⟨p,q⟩)=p:=id rfl
@[simp ↓] theorem auE (p q:Prop) :pG false (c:=⟨p,q⟩)=q:=id rfl
@[simp ↓] theorem auB (b:Bool) (p q:Prop) :pF (.bool b) true (c:=⟨p,q⟩)=pG b (c:=⟨p,q⟩) :=by cases b<;>rfl
@[simp ↓] theorem auA (b:Bool) (p q:Prop) :pF (.bool b) false (c:=⟨p,q⟩)=pG b (c:=⟨q,p⟩) :=by cases b<;>rfl
@[simp ↓] theorem auC (w:Bool) (p q:Prop) :pF gT w (c:=⟨p,q⟩)=q:=id rfl
@[simp ↓] theorem auD (w:Bool) (p q:Prop) :pF (.bU []) w (c:=⟨p,q⟩)=q:=id rfl
theorem oO {b:Bool} {p q:Prop} (h1:b=true->p) (ag:b=false->q) :pG b (c:=⟨p,q⟩) :=by cases b; exact ag rfl; exact h1 rfl
@[simp ↓] theorem awB (ah:bi) (d:Tmp) (v:ae) :gR ah (some d) v=b5 ah d v:=id rfl
@[simp ↓] theorem awA (ah:bi) (v:ae) :gR ah none v=ah:=id rfl
@[simp] theorem as2 {α:Type} (s:Nat->α) (d:Nat) (v:α) (t:Nat) :b5 s d v t=if t=d then v else s t:=id rfl
@[simp] theorem aro (args:List ae) (t:Nat) :BS args t=args.getD t gT:=id rfl
@[simp] theorem asS (ah:bi) (t:Tmp) :cY G ah (.tmp t)=ah t:=id rfl
@[simp] theorem asJ (ah:bi) (f:FuncId) :cY G ah (.func f)=.fn f [] [] :=id rfl
@[simp] theorem asK (ah:bi) (g:Nat) :cY G ah (.global g)=G g:=id rfl
@[simp] theorem asL (ah:bi) (k:IntKind) (n:Int) :cY G ah (.const (.int k n))=.int k n:=id rfl
@[simp] theorem asI (ah:bi) (b:Bool) :cY G ah (.const (.bool b))=.bool b:=id rfl
@[simp] theorem asR (ah:bi) (s:ByteArray) :cY G ah (.const (.string s))=.str s.data.toList:=id rfl
@[simp] theorem asQ (ah:bi) :cY G ah (.const (.slice none 0 0))=.aX:=id rfl
@[simp] theorem asP (ah:bi) :cY G ah (.const (.pointer none))=.iD:=id rfl
@[simp] theorem asO (ah:bi) :cY G ah (.const (.map none))=.g6:=id rfl
@[simp] theorem asM (ah:bi) :cY G ah (.const .nilFunc)=.ie:=id rfl
@[simp] theorem asN (ah:bi) :cY G ah (.const .nilIface)=.iC:=id rfl
@[simp] theorem asT (ah:bi) :cY G ah (.const (.tuple #[]))=.bU [] :=id rfl
variable (aD:Operand->ae) (l:av)
@[simp ↓] theorem awb (x:Operand) :bW P aD l (.aq x)=some (aD x,l) :=id rfl
@[simp ↓] theorem awe (c a b:Operand) :bW P aD l (.pick c a b)=dq l (A9 (aD c) (aD a) (aD b)) :=id rfl
@[simp ↓] theorem avC (z:List ae) :bW P aD l (.alloc z)=some (.ptr l.length 0 z.length,l++[.cells z.length z]) :=id rfl
@[simp ↓] theorem avH (x:Operand) :bW P aD l (.box x)=(aD x).cells.map fun cs=>(.ptr l.length 0 cs.length,l++[.cells cs.length cs]) :=id rfl
@[simp ↓] theorem avG (zero:List ae) (cH:List (Nat × Nat × Operand)) :bW P aD l (.eh zero cH)=dq l ((od zero (cH.map fun p=>(p.1,p.2.1,aD p.2.2))).map .aV) :=id rfl
@[simp ↓] theorem avI (z:Nat) (zero:List ae) (len:Nat) (cH:List (Nat × Operand)) :bW P aD l (.cQ z zero len cH)=(gZ (fun i=>some (i*z,z)) (dm zero len) (cH.map fun p=>(p.1,aD p.2))).map fun cs=>(.ao z l.length 0 len len (len*z),l++[.cells (len*z) cs]) :=id rfl
@[simp ↓] theorem avZ (a:Operand) :bW P aD l (.ld1 a)=dq l ((eC l (aD a)).bind fun x=>x.1[x.2]?) :=id rfl
@[simp ↓] theorem av0 (n:Nat) (a:Operand) :bW P aD l (.aW n a)=dq l ((eC l (aD a)).bind fun x=>rg n x.1 x.2) :=id rfl
@[simp ↓] theorem awh (n:Nat) (a x:Operand) :bW P aD l (.st n a x)=(jF n l (aD a) (aD x)).map fun l'=>(gT,l') :=id rfl
@[simp ↓] theorem awc (x:Operand) :bW P aD l (.mg x)=dq l (wg (aD x)) :=id rfl
@[simp ↓] theorem avF (o:BinOp) (t:TypeId) (x y:Operand) :bW P aD l (.bin o t x y)=dq l (gc P o t (aD x) (aD y)) :=id rfl
@[simp ↓] theorem awj (o:UnOp) (x:Operand) :bW P aD l (.un o x)=dq l (o1 o (aD x)) :=id rfl
@[simp ↓] theorem avL (k:IntKind) (x:Operand) :bW P aD l (.cB k x)=dq l (zl k (aD x)) :=id rfl
@[simp ↓] theorem avQ (x:Operand) :bW P aD l (.wY x)=dq l (Cg (aD x)) :=id rfl
@[simp ↓] theorem avK (x:Operand) :bW P aD l (.rR x)=dq l (tm l (aD x)) :=id rfl
@[simp ↓] theorem avP (x:Operand) :bW P aD l (.qp x)=dq l (tx (aD x)) :=id rfl
@[simp ↓] theorem av7 (t:TypeId) (x:Operand) :bW P aD l (.sK t x)=some (.gg t (aD x),l) :=id rfl
@[simp ↓] theorem awi (t:TypeId) (z:ae) (ok:Bool) (x:Operand) :bW P aD l (.yF t z ok x)=dq l (yG t z ok (aD x)) :=id rfl
@[simp ↓] theorem av6 (f:FuncId) (a b:List Operand) :bW P aD l (.pM f a b)=some (.fn f (a.map aD) (b.map aD),l) :=id rfl
@[simp ↓] theorem av9 (z by_:Nat) (zero:List ae) (a c:Operand) :bW P aD l (.lB z by_ zero a c)=pO z by_ zero l (aD a) (aD c) :=id rfl
@[simp ↓] theorem awg (db:i4) (x:Operand) (cW aA cI:Option Operand) :bW P aD l (.slice db x cW aA cI)=dq l (fQ db (aD x) (cW.map aD) (aA.map aD) (cI.map aD)) :=id rfl
@[simp ↓] theorem avS (off:Nat) (x:Operand) :bW P aD l (.aO off x)=dq l (my (aD x) off) :=id rfl
@[simp ↓] theorem avT (off:Nat) (x:Operand) :bW P aD l (.w8 off x)=dq l (zJ off (aD x)) :=id rfl
@[simp ↓] theorem avU (n off:Nat) (x:Operand) :bW P aD l (.w9 n off x)=dq l (xa n off (aD x)) :=id rfl
@[simp ↓] theorem avV (db:i4) (x i:Operand) :bW P aD l (.bm db x i)=dq l (cS db (aD x) (aD i)) :=id rfl
@[simp ↓] theorem avW (n z:Nat) (x i:Operand) :bW P aD l (.v1 n z x i)=dq l (AM n z (aD x) (aD i)) :=id rfl
@[simp ↓] theorem avX (n z:Nat) (x i:Operand) :bW P aD l (.AL n z x i)=dq l (AN n z (aD x) (aD i)) :=id rfl
@[simp ↓] theorem avY (x i:Operand) :bW P aD l (.pC x i)=dq l (v2 (aD x) (aD i)) :=id rfl
@[simp ↓] theorem avR (x:Operand) (i:Nat) :bW P aD l (.ext x i)=dq l (zH (aD x) i) :=id rfl
@[simp ↓] theorem av1 (db:i4) (x:Operand) :bW P aD l (.len db x)=dq l (c8 db (aD x)) :=id rfl
@[simp ↓] theorem avJ (db:i4) (x:Operand) :bW P aD l (.cap db x)=dq l (rQ db (aD x)) :=id rfl
@[simp ↓] theorem avD (z by_:Nat) (s x:Operand) :bW P aD l (.app z by_ s x)=iL l z by_ (aD s) (aD x) :=id rfl
@[simp ↓] theorem avE (z by_:Nat) (zero:List ae) (s x:Operand) :bW P aD l (.qg z by_ zero s x)=pe l z by_ zero (aD s) (aD x) :=id rfl
@[simp ↓] theorem avO (z:Nat) (d x:Operand) :bW P aD l (.tw z d x)=wX z l (aD d) (aD x) :=id rfl
@[simp ↓] theorem avM (zero:List ae) (x:Operand) :bW P aD l (.qn zero x)=(qm zero l (aD x)).map fun l'=>(.bU [],l') :=id rfl
@[simp ↓] theorem av5 (x y:Operand) :bW P aD l (.min x y)=dq l (yb (aD x) (aD y)) :=id rfl
@[simp ↓] theorem av4 (x y:Operand) :bW P aD l (.max x y)=dq l (sJ (aD x) (aD y)) :=id rfl
@[simp] theorem awx (t:Bool) (a b:ae) :A9 (.bool t) a b=some (if t=true then a else b) :=id rfl
@[simp] theorem SX (cs:List ae) :(ae.aV cs).cells=some cs:=id rfl
@[simp] theorem ase (k:IntKind) (n:Int) :(ae.int k n).cells=some [.int k n] :=id rfl
@[simp] theorem asb (b:Bool) :(ae.bool b).cells=some [.bool b] :=id rfl
@[simp] theorem aso (s:List UInt8) :(ae.str s).cells=some [.str s] :=id rfl
@[simp] theorem asj:ae.aX.cells=some [.aX] :=id rfl
@[simp] theorem asi:ae.iD.cells=some [.iD] :=id rfl
@[simp] theorem asg:ae.ie.cells=some [.ie] :=id rfl
@[simp] theorem ash:ae.g6.cells=some [.g6] :=id rfl
@[simp] theorem asm (z:Nat) (es:List (List ae)) :(ae.b0 z es).cells=some [.b0 z es] :=id rfl
@[simp] theorem asn (z b o n c s:Nat) :(ae.ao z b o n c s).cells=some [.ao z b o n c s] :=id rfl
@[simp] theorem asl (b o s:Nat) :(ae.ptr b o s).cells=some [.ptr b o s] :=id rfl
@[simp] theorem asd (f:FuncId) (a b:List ae) :(ae.fn f a b).cells=some [.fn f a b] :=id rfl
@[simp] theorem asf (b:Nat) :(ae.mp b).cells=some [.mp b] :=id rfl
@[simp] theorem ar9 (b off sz k:Nat) :my (.ptr b off sz) k=some (.ptr b (off+k) sz) :=id rfl
@[simp] theorem asa (cs:List ae) (off k:Nat) :my (.cq cs off) k=some (.cq cs (off+k)) :=id rfl
@[simp] theorem awo (b o s:Nat) :wg (.ptr b o s)=some (.ptr b o s) :=id rfl
@[simp] theorem awp (cs:List ae) (o:Nat) :wg (.cq cs o)=some (.cq cs o) :=id rfl
@[simp] theorem awn (f:FuncId) (a b:List ae) :wg (.fn f a b)=some (.fn f a b) :=id rfl
def lE (x:Option bt) (off sz:Nat) :Option (List ae × Nat) :=match x with
 | some (.cells n cs)=>if n=sz then some (cs,off) else none
 | _=>none
@[simp] theorem awD (b off sz:Nat) :eC l (.ptr b off sz)=lE l[b]? off sz:=by
 unfold eC lE; rfl
@[simp] theorem awC (n:Nat) (cs:List ae) (off sz:Nat) :lE (some (.cells n cs)) off sz=if n=sz then some (cs,off) else none:=id rfl
@[simp] theorem awE (cs:List ae) (off:Nat) :eC l (.cq cs off)=some (cs,off) :=id rfl
def OH (n:Nat) (l:av) (b off sz:Nat) (vs:List ae) (x:Option bt) :Option av:=match x with
 | some (.cells m cs)=>if m=sz/\vs.length=n/\off+n<=m then some (l.set b (.cells m (bS cs off vs))) else none
 | _=>none
@[simp] theorem acE (n b off sz:Nat) (v:ae) :jF n l (.ptr b off sz) v=v.cells.bind fun vs=>OH n l b off sz vs l[b]?:=by
 unfold jF OH;cases v.cells<;>rfl
@[simp] theorem apr (n b off sz:Nat) (vs:List ae) (m:Nat) (cs:List ae) :OH n l b off sz vs (some (.cells m cs))=if m=sz/\vs.length=n/\off+n<=m then some (l.set b (.cells m (bS cs off vs))) else none:=id rfl
@[simp] theorem aww (n:Nat) (cs:List ae) (off:Nat) :rg n cs off=if off+n<=cs.length then some (.aV ((cs.drop off).take n)) else none:=id rfl
@[simp] theorem aw9 (a:ae) (cs vs:List ae) (off:Nat) :bS (a::cs) (off+1) vs=a::bS cs off vs:=by
 simp only[bS,List.take_succ_cons,List.cons_append,show off+1+vs.length=(off+vs.length)+1 by omega,List.drop_succ_cons]
@[simp] theorem ape (a v:ae) (cs vs:List ae) :bS (a::cs) 0 (v::vs)=v::bS cs 0 vs:=by simp[bS]
@[simp] theorem apg (cs:List ae) :bS cs 0 []=cs:=by simp[bS]
@[simp] theorem aw8 (vs:List ae) :bS [] 0 vs=vs:=by simp[bS]
@[simp] theorem arG (zero:List ae) :od zero []=some zero:=id rfl
theorem aeI (zero:List ae) (off size:Nat) (v:ae) (r:List (Nat × Nat × ae)) :od zero ((off,size,v) ::r)=v.cells.bind fun vs=>if vs.length=size/\off+size<=zero.length then od (bS zero off vs) r else none:=by
 rw[od]; cases v.cells<;>rfl
attribute [simp] aeI
@[simp] theorem asW (j8:Nat->Option (Nat × Nat)) (zero:List ae) :gZ j8 zero []=some zero:=id rfl
@[simp] theorem asV (j8:Nat->Option (Nat × Nat)) (zero:List ae) (i:Nat) (v:ae) (r:List (Nat × ae)) :gZ j8 zero ((i,v) ::r)=(j8 i).bind fun q=>v.cells.bind fun vs=>if vs.length=q.2/\q.1+q.2<=zero.length then gZ j8 (bS zero q.1 vs) r else none:=by
 rw[gZ];cases j8 i with
 | none=>rfl
 | some q=>cases v.cells<;>rfl
@[simp] theorem awG (zero:List ae) :dm zero 0=[] :=id rfl
@[simp] theorem awH (zero:List ae) (n:Nat) :dm zero (n+1)=zero++dm zero n:=id rfl
@[simp] theorem arz (o:BinOp) (t:TypeId) (k:IntKind) (a:Int) (k' : IntKind) (b:Int) :gc P o t (.int k a) (.int k' b)=cr o k a k' b:=id rfl
@[simp] theorem arE (o:BinOp) (t:TypeId) (a b:List UInt8) :gc P o t (.str a) (.str b)=pf o a b:=id rfl
@[simp] theorem arB (k:IntKind) (a b:Int) :cr .lss k a k b=some (.bool (decide (a<b))) :=by simp[cr]
@[simp] theorem arA (k:IntKind) (a b:Int) :cr .leq k a k b=some (.bool (decide (a<=b))) :=by simp[cr]
@[simp] theorem ary (k:IntKind) (a b:Int) :cr .gtr k a k b=some (.bool (decide (b<a))) :=by simp[cr]
@[simp] theorem arx (k:IntKind) (a b:Int) :cr .geq k a k b=some (.bool (decide (b<=a))) :=by simp[cr]
@[simp] theorem arw (k:IntKind) (a b:Int) :cr .eql k a k b=some (.bool (decide (a=b))) :=by
 have:(a == b)=decide (a=b) :=by by_cases h:a=b<;>simp[h]
 simp[cr,this]
@[simp] theorem arD (k:IntKind) (a b:Int) :cr .neq k a k b=some (.bool (!decide (a=b))) :=by
 have:(a != b)=!decide (a=b) :=by by_cases h:a=b<;>simp[h]
 simp[cr,this]
@[simp] theorem arv (k:IntKind) (a b:Int) :cr .add k a k b=some (.int k (k.wrap (a+b))) :=by simp[cr]
@[simp] theorem arF (k:IntKind) (a b:Int) :cr .sub k a k b=some (.int k (k.wrap (a - b))) :=by simp[cr]
@[simp] theorem arC (k:IntKind) (a b:Int) :cr .mul k a k b=some (.int k (k.wrap (a*b))) :=by simp[cr]
@[simp] theorem axn (b:Bool) :o1 .not (.bool b)=some (.bool (!b)) :=id rfl
@[simp] theorem axm (k:IntKind) (n:Int) :o1 .neg (.int k n)=some (.int k (k.wrap (0 - n))) :=id rfl
@[simp] theorem asr (k k' : IntKind) (n:Int) :zl k (.int k' n)=some (.int k (k.wrap n)) :=id rfl
@[simp] theorem at8 (z di:Nat) (es:List (List ae)) (k:IntKind) (i:Int) :cS (.ao z) (.b0 di es) (.int k i)=if z=di/\0<=i then (es[i.toNat]?).map fun cs=>.cq cs 0 else none:=id rfl
@[simp] theorem at9 (z di b off len cap sz:Nat) (k:IntKind) (i:Int) :cS (.ao z) (.ao di b off len cap sz) (.int k i)=if z=di/\0<=i/\i<len then some (.ptr b (off+i.toNat*z) sz) else none:=id rfl
@[simp] theorem at7 (n z:Nat) (x:ae) (k:IntKind) (i:Int) :cS (.arr n z) x (.int k i)=if 0<=i/\i<n then my x (i.toNat*z) else none:=id rfl
@[simp] theorem avx (z:Nat) :c8 (.ao z) .aX=some (.int .i64 0) :=id rfl
@[simp] theorem avz (z di b o n c s:Nat) :c8 (.ao z) (.ao di b o n c s)=some (.int .i64 n) :=id rfl
@[simp] theorem avy (z di:Nat) (es:List (List ae)) :c8 (.ao z) (.b0 di es)=some (.int .i64 es.length) :=id rfl
@[simp] theorem avA (s:List UInt8) :c8 .str (.str s)=some (.int .i64 s.length) :=id rfl
@[simp] theorem avw (n z:Nat) (x:ae) :c8 (.arr n z) x=some (.int .i64 n) :=id rfl
@[simp] theorem asU (vs:List ae) (i:Nat) :zH (.bU vs) i=vs[i]?:=id rfl
@[simp] theorem asX (cs:List ae) (off:Nat) :zJ off (.aV cs)=cs[off]?:=id rfl
@[simp] theorem asY (n off:Nat) (cs:List ae) :xa n off (.aV cs)=rg n cs off:=id rfl
end
section
variable {P:Program} {G:Nat->ae}
inductive Rd (l:av) :ae->ae->Prop
 | same (c:ae) (h:c.closed=true) :Rd l c c
 | aV (cs cs' : List ae) (au:cs'.length=cs.length) (h:∀ (j:Nat) (c c' : ae),cs[j]? = some c->cs'[j]? = some c'->Rd l c c') :Rd l (.aV cs) (.aV cs')
 | bU (cs cs' : List ae) (au:cs'.length=cs.length) (h:∀ (j:Nat) (c c' : ae),cs[j]? = some c->cs'[j]? = some c'->Rd l c c') :Rd l (.bU cs) (.bU cs')
 | ao (z b off len cap sz:Nat) (cs:List ae) (es:List (List ae)) (ai:l[b]? = some (.cells sz cs)) (au:es.length=len) (aB:∀ e∈es,e.length=z)
   (eA:off+len*z<=cs.length)
   (h:∀ (i j:Nat) (e:List ae) (c c' : ae),es[i]? = some e->e[j]? = some c'->cs[off+(i*z+j)]? = some c->Rd l c c') :Rd l (.ao z b off len cap sz) (.b0 z es)
 | p0 (z b off cap sz:Nat) :Rd l (.ao z b off 0 cap sz) (.b0 z [])
theorem aoa {w:World} {R:Nat->Prop} {B:Nat} {l:av} {μ:cJ} (rel:cc R B w (b3 l) μ) :∀ {c c' : ae},Rd l c c'->∀ {v:Value},aR w R (b3 l) μ c v->e7 w R c' v:=by
 intro c c' aC
 induction aC with
 | same c h=>
  intro v ax;exact (e7.up (u9 ax h) fun k _ hk=>⟨hk.1,fun ⟨b,m,h1,ag,ap⟩=>by cases ag⟩:aR w R aQ.empty (fun _=>none) _ v)
 | aV cs cs' au h aL=>
  intro v ax;cases ax with
  | aV _ vs fD h1 ax=>
   refine .aV cs' vs (by omega) h1 (fun j c' v am e2=>?_);have aP:j<cs.length:=by rw[<-au]; exact (List.getElem?_eq_some_iff.1 am).1
   exact aL j cs[j] c' (List.getElem?_eq_getElem aP) am (ax j cs[j] v (List.getElem?_eq_getElem aP) e2)
 | bU cs cs' au h aL=>
  intro v ax;cases ax with
  | bU _ vs fD ax=>
   refine .bU cs' vs (by omega) (fun j c' v am e2=>?_);have aP:j<cs.length:=by rw[<-au]; exact (List.getElem?_eq_some_iff.1 am).1
   exact aL j cs[j] c' (List.getElem?_eq_getElem aP) am (ax j cs[j] v (List.getElem?_eq_getElem aP) e2)
 | p0 z b off cap sz=>
  intro v ax;cases ax with
  | ao _ _ _ _ _ _ cap' cs m ai hm au ay al=>exact .fo z _ cap'
  | fZ _ _ _ _ _ _ cap' a au al az=>exact .fo z _ cap'
  | hi _ _ _ _ a cs m ai hm=>exact .fo z a 0
 | ao z b off len cap sz cs es ai au aB eA h aL=>
  intro v ax;have pl:(b3 l).f b=.cells sz cs:=mv.2 ai;cases ax with
  | hi _ _ _ _ a ho m fU jY=>
   obtain rfl:=List.length_eq_zero_iff.1 au;exact .fo z a 0
  | fZ _ _ _ _ _ _ cap' a au al az=>
   exfalso;rcases az with az | ⟨n,ho,az,aP⟩
   ·rw[pl] at az; cases az
   ·rw[pl] at az; cases az; omega
  | ao _ _ _ _ _ _ cap' ho m fU hm hD ay al=>
   rw[pl] at fU; cases fU;have hblk:=rel.blk b m hm;rw[pl] at hblk;obtain⟨cp,dt,arr,t,fA,bB,aG,aI,lo⟩:=hblk;have c3:len<=cap':=by rcases al with ⟨_,h⟩ | ⟨_,h,_⟩<;>omega
   have r3:R m.r:=rel.up _ (rel.base b m (by rw[pl]; rfl) hm);subst au;have pm:∀ i j,i<es.length->j<z->∃ c v,cs[off+(i*z+j)]? = some c/\arr[m.s+(off+(i*z+j))]? = some v/\v.oneCell'=true/\aR w R (b3 l) μ c v:=by
    intro i j aA am;have aP:off+(i*z+j)<cs.length:=by
     have:i*z+z<=es.length*z:=by rw[<-Nat.succ_mul]; exact Nat.mul_le_mul_right _ aA
     omega
    obtain⟨v,h1,ag,ap⟩:=lo _ _ (List.getElem?_eq_getElem aP);exact⟨_,v,List.getElem?_eq_getElem aP,h1,ag,ap⟩
   refine .b0 z es m.r (m.s+off) cap' (fun i j=>(arr[m.s+(off+(i*z+j))]?).getD undef) c3 aB (fun i j aA am=>?_) (fun i e aw j c' am=>?_)
   ·obtain⟨c,v,h1,ag,ap,aJ⟩:=pm i j aA am;refine⟨?_,?_,r3,fun ⟨b,m,h1,ag,ap⟩=>by cases ag⟩
    ·simp only[World.cell?,bB,ag,Option.getD_some,Option.isSome_none];rw[show m.s+off+(i*z+j)=m.s+(off+(i*z+j)) by omega,ag]; rfl
    ·rw[ag]; exact ap
   ·have aA:i<es.length:=(List.getElem?_eq_some_iff.1 aw).1;have ls:j<z:=by rw[<-aB e (List.mem_of_getElem? aw)]; exact (List.getElem?_eq_some_iff.1 am).1
    obtain⟨c,v,h1,ag,ap,aJ⟩:=pm i j aA ls;simp only[ag,Option.getD_some];exact aL i j e c c' aw am h1 aJ
theorem cf (kX:P.follows .mixedOrders=true) (jS:∀ g,(G g).closed=true) {f:FuncId} {args:List ae} {r:ae} (h:dh P G f args [] (c:=⟨fun k4 l=>Rd l k4 r⟩)) :bR P G f args r:=by
 obtain⟨k4,l',h1,ag,ap⟩:=h;intro w A vs az au ax;refine (OU (A:=A) kX jS h1 az au ax).mono ?_;rintro e w' ⟨v,μ',rfl,ai,rel,aC⟩;exact⟨v,rfl,ai,aoa rel ap aC⟩
theorem bC {f:FuncId} {args:List ae} {r:ae} {l:av} {K:ae->av->Prop} (aE:bR P G f args r) (al:bM args=true) (h:K r l) :dh P G f args l (c:=⟨K⟩) :=
 ⟨r,l,.pure aE al,Nat.le_refl _,h⟩
theorem alG (kX:P.follows .mixedOrders=true) (jS:∀ g,(G g).closed=true) {f:FuncId} {args:List ae} (h:dh P G f args [] (c:=⟨fun r _=>r=.bool true⟩))
  {w:World} {A:Nat->Prop} {vs:Array Value} (az:∀ g,e7 w A (G g) (.pointer (some ⟨g,0,none⟩))) (au:vs.size=args.length)
  (ax:∀ (j:Nat) (c:ae) (v:Value),args[j]? = some c->vs[j]? = some v->e7 w A c v) :
  Calls P f vs w fun e w'=>e=.returned (.bool true)/\RowKit.Below w.heap.size w w':=by
 obtain⟨k4,l',h1,ag,rfl⟩:=h;exact apL kX jS h1 az au ax
end
section
variable {P:Program}
inductive dE (P:Program) :List TypeId->List ae->Prop
 | nil:dE P [] []
 | bool {t:TypeId} {b:Bool} {ts:List TypeId} {cs:List ae} (aM:P.underlying t=some .bool) (h:dE P ts cs) :dE P (t::ts) (.bool b::cs)
 | int {t:TypeId} {k:IntKind} {n:Int} {ts:List TypeId} {cs:List ae} (aM:P.underlying t=some (.int k)) (h1:k.min<=n) (ag:n<=k.max) (h:dE P ts cs) :dE P (t::ts) (.int k n::cs)
 | str {t:TypeId} {s:List UInt8} {ts:List TypeId} {cs:List ae} (aM:P.underlying t=some .string) (ar:s.length<=maxLen) (h:dE P ts cs) :dE P (t::ts) (.str s::cs)
 | aX {t e:TypeId} {ts:List TypeId} {cs:List ae} (aM:P.underlying t=some (.slice e)) (h:dE P ts cs) :dE P (t::ts) (.aX::cs)
 | ao {t e:TypeId} {es:List (List ae)} {ts:List TypeId} {cs:List ae} (aM:P.underlying t=some (.slice e)) (au:es.length<=maxLen) (aB:∀ r∈es,r.length=P.cellsOf e) (aw:∀ r∈es,dE P [e] r) (h:dE P ts cs) :dE P (t::ts) (.b0 (P.cellsOf e) es::cs)
 | struct {t:TypeId} {fs:Array Field} {ts:List TypeId} {cs:List ae} (aM:P.underlying t=some (.struct fs)) (h:dE P (fs.toList.map (·.type)++ts) cs) :dE P (t::ts) cs
 | array {t e:TypeId} {n:Nat} {ts:List TypeId} {cs:List ae} (aM:P.underlying t=some (.array n e)) (h:dE P (List.replicate n e++ts) cs) :dE P (t::ts) cs
def tu (P:Program) :List Field->Nat->Option Nat
 | [],o=>some o
 | f::r,o=>if f.offset=o then tu P r (o+P.cellsOf f.type) else none
def sS (P:Program) :Nat->TypeId->Bool
 | 0,_=>false
 | d+1,t=>match P.underlying t with
  | some .bool | some (.int _) | some .string=>true
  | some (.slice e)=>decide (0<P.cellsOf e)&&sS P d e
  | some (.struct fs)=>decide (tu P fs.toList 0=some (P.cellsOf t))&&fs.toList.all fun f=>sS P d f.type
  | some (.array n e)=>decide (n*P.cellsOf e=P.cellsOf t)&&sS P d e
  | _=>false
structure n9 (P:Program) (w:World) (A:Nat->Prop) (ts:List TypeId) (vs:List Value) (cs:List ae) :Prop where
 len:cs.length=vs.length
 ty:∀ oZ cs',dE P oZ cs'->dE P (ts++oZ) (cs++cs')
 o4:∀ (j:Nat) (c:ae) (v:Value),cs[j]? = some c->vs[j]? = some v->e7 w A c v/\v.oneCell'=true
theorem n9.nil {w:World} {A:Nat->Prop}:n9 P w A [] [] [] :=⟨rfl,fun _ _ h=>h,fun j c v h=>by simp at h⟩
theorem n9.app {w:World} {A:Nat->Prop} {ts oZ:List TypeId} {vs EO:List Value} {cs cs' : List ae} (a:n9 P w A ts vs cs) (b:n9 P w A oZ EO cs') :n9 P w A (ts++oZ) (vs++EO) (cs++cs') :=by
 refine⟨by simp[a.len,b.len],fun axd asF h=>by rw[List.append_assoc,List.append_assoc]; exact a.ty _ _ (b.ty _ _ h),fun j c v al ax=>?_⟩;by_cases h:j<cs.length
 ·rw[List.getElem?_append_left h] at al;rw[List.getElem?_append_left (by rw[<-a.len]; exact h)] at ax;exact a.o4 j c v al ax
 ·rw[List.getElem?_append_right (by omega)] at al;rw[List.getElem?_append_right (by rw[<-a.len]; omega)] at ax;rw[<-a.len] at ax;exact b.o4 _ c v al ax
theorem DW {α i2:Type} {f:α->Option i2}:∀ {l:List α} {r:List i2},l.mapM f=some r->∀ (p:Nat) (a:α),l[p]? = some a->∃ x,r[p]? = some x/\f a=some x
 | [],r,h,p,a,aG=>by simp at aG
 | a0::l,r,h,p,a,aG=>by
  rw[List.mapM_cons] at h;simp only[Option.bind_eq_bind,bind_some,Option.pure_def,Option.some.injEq] at h;obtain⟨b,h1,cx,ag,rfl⟩:=h;cases p with
  | zero=>simp only[List.getElem?_cons_zero,Option.some.injEq] at aG; subst aG; exact⟨b,rfl,h1⟩
  | succ p=>obtain⟨x,ap,aJ⟩:=DW ag p a (by simpa using aG); exact⟨x,by simpa using ap,aJ⟩
theorem A1 {w:World} {A:Nat->Prop} {c:ae} {v:Value} (h:e7 w A c v) (h1:v.oneCell'=true) :∀ (j:Nat) (c' : ae) (bf:Value),[c][j]? = some c'->[v][j]? = some bf->e7 w A c' bf/\bf.oneCell'=true:=by
 intro j c' bf al ax;cases j with
 | zero=>simp only[List.getElem?_cons_zero,Option.some.injEq] at al ax; subst al ax; exact⟨h,h1⟩
 | succ j=>simp at al
theorem apN {H:Type} {enc:TypeId × Value->H} {w:World} {base:Nat} {spare:Nat->Bool} {held:Bool} {fuel:Nat} {t:TypeId} {vs:List Value} {x:DataW H × List MemPlace}
  (aM:P.underlying t=some .bool) (h:DataW.trod enc P w base spare held (fuel+1) t vs=some x) :∃ b,vs=[.bool b] :=by
 unfold DataW.trod at h;rw[aM] at h;split at h
 case h_1 b _=>exact⟨b,rfl⟩
 all_goals first | (cases h; done) | (rename_i heq; cases heq; done) | (rename_i heq _; cases heq; done) | (rename_i heq _ _; cases heq; done) | (rename_i heq _ _ _; cases heq; done) | (simp_all; done)
theorem trod_int {H:Type} {enc:TypeId × Value->H} {w:World} {base:Nat} {spare:Nat->Bool} {held:Bool} {fuel:Nat} {t:TypeId} {k:IntKind} {vs:List Value} {x:DataW H × List MemPlace}
  (aM:P.underlying t=some (.int k)) (h:DataW.trod enc P w base spare held (fuel+1) t vs=some x) :∃ n,vs=[.int k n]/\k.min<=n/\n<=k.max:=by
 unfold DataW.trod at h;rw[aM] at h;split at h<;>simp only[reduceCtorEq,Option.some.injEq,TypeDesc.int.injEq] at *<;>try (exfalso; simp_all; done)
 rename_i gj k' n heq;subst heq;split at h
 ·rename_i al;obtain⟨rfl,bB⟩:=al;simp only[Lit.wf,Bool.and_eq_true,decide_eq_true_eq] at bB;exact⟨n,rfl,bB.1,bB.2⟩
 ·cases h
theorem apP {H:Type} {enc:TypeId × Value->H} {w:World} {base:Nat} {spare:Nat->Bool} {held:Bool} {fuel:Nat} {t:TypeId} {vs:List Value} {x:DataW H × List MemPlace}
  (aM:P.underlying t=some .string) (h:DataW.trod enc P w base spare held (fuel+1) t vs=some x) :∃ s,vs=[.string s]/\s.size<=maxLen:=by
 unfold DataW.trod at h;rw[aM] at h;split at h<;>simp only[reduceCtorEq,Option.some.injEq] at *<;>try (exfalso; simp_all; done)
 split at h
 ·rename_i s _ ar; exact⟨s,rfl,ar⟩
 ·cases h
theorem apO {H:Type} {enc:TypeId × Value->H} {w:World} {base:Nat} {spare:Nat->Bool} {held:Bool} {fuel:Nat} {t e:TypeId} {vs:List Value} {x:DataW H × List MemPlace}
  (aM:P.underlying t=some (.slice e)) (h:DataW.trod enc P w base spare held (fuel+1) t vs=some x) :
  vs=[.slice none 0 0]\/∃ a len cap,vs=[.slice (some a) len cap]/\len<=cap/\cap<=maxLen/\∃ Cl,(List.range len).mapM (fun i=>(w.cells? base (a.add (i*P.cellsOf e)) (P.cellsOf e)).bind (DataW.trod enc P w base spare held fuel e))=some Cl:=by
 unfold DataW.trod at h;rw[aM] at h;split at h<;>simp only[reduceCtorEq,Option.some.injEq,TypeDesc.slice.injEq] at *<;>try (exfalso; simp_all; done)
 ·exact .inl trivial
 ·rename_i hc a len cap heq;subst heq;split at h
  ·rename_i al;rw[bind_some] at h;obtain⟨Cl,h1,_⟩:=h;exact .inr ⟨a,len,cap,rfl,al.2.1,al.2.2,Cl,h1⟩
  ·cases h
theorem apQ {H:Type} {enc:TypeId × Value->H} {w:World} {base:Nat} {spare:Nat->Bool} {held:Bool} {fuel:Nat} {t:TypeId} {fs:Array Field} {vs:List Value} {x:DataW H × List MemPlace}
  (aM:P.underlying t=some (.struct fs)) (h:DataW.trod enc P w base spare held (fuel+1) t vs=some x) :
  vs.length=P.cellsOf t/\∃ xs,(fs.toList.mapM fun f=>DataW.trod enc P w base spare held fuel f.type ((vs.drop f.offset).take (P.cellsOf f.type)))=some xs:=by
 unfold DataW.trod at h;rw[aM] at h;split at h<;>simp only[reduceCtorEq,Option.some.injEq,TypeDesc.struct.injEq] at *<;>try (exfalso; simp_all; done)
 rename_i as1 heq;subst heq;split at h
 ·rename_i al;rw[map_some] at h;obtain⟨xs,h1,_⟩:=h;exact⟨al,xs,h1⟩
 ·cases h
theorem trod_array {H:Type} {enc:TypeId × Value->H} {w:World} {base:Nat} {spare:Nat->Bool} {held:Bool} {fuel:Nat} {t e:TypeId} {n:Nat} {vs:List Value} {x:DataW H × List MemPlace}
  (aM:P.underlying t=some (.array n e)) (h:DataW.trod enc P w base spare held (fuel+1) t vs=some x) :
  vs.length=P.cellsOf t/\∃ xs,((List.range n).mapM fun i=>DataW.trod enc P w base spare held fuel e ((vs.drop (i*P.cellsOf e)).take (P.cellsOf e)))=some xs:=by
 unfold DataW.trod at h;rw[aM] at h;split at h<;>simp only[reduceCtorEq,Option.some.injEq,TypeDesc.array.injEq] at *<;>try (exfalso; simp_all; done)
 rename_i awm hc heq;obtain⟨rfl,rfl⟩:=heq;split at h
 ·rename_i al;rw[map_some] at h;obtain⟨xs,h1,_⟩:=h;exact⟨al,xs,h1⟩
 ·cases h
theorem aef (a:Addr) (x j:Nat) :a.add (x+j)=(a.add x).add j:=by
 unfold Addr.add;by_cases aj:x=0
 ·subst aj; simp
 ·by_cases am:j=0
  ·subst am; simp
  ·rw[if_neg (by omega),if_neg aj,if_neg am];simp only[Nat.add_assoc]
theorem add_plain (b o n:Nat) :(Addr.mk b o none).add n=⟨b,o+n,none⟩:=by
 unfold Addr.add;by_cases aH:n=0
 ·subst aH; simp
 ·rw[if_neg aH]
theorem ac1 {H:Type} {enc:TypeId × Value->H} {w:World} {A:Nat->Prop} (c2:∀ k,A k) {base:Nat} {spare:Nat->Bool} {held:Bool}:∀ (fuel:Nat) (D:Nat) (t:TypeId) (vs:List Value) (d:DataW H) (cH:List MemPlace),
  sS P D t=true->DataW.trod enc P w base spare held fuel t vs=some (d,cH)->∃ cs,n9 P w A [t] vs cs
 | 0,_,_,_,_,_,_,h=>by simp[DataW.trod] at h
 | fuel+1,0,t,vs,d,cH,aE,h=>by cases aE
 | fuel+1,D+1,t,vs,d,cH,aE,h=>by
  have aL:=fun t vs d cH aE h=>ac1 c2 (enc:=enc) (w:=w) (base:=base) (spare:=spare) (held:=held) fuel D t vs d cH aE h
  unfold sS at aE;split at aE
  ·rename_i aM;obtain⟨b,rfl⟩:=apN aM h;exact⟨[.bool b],⟨rfl,fun oZ cs' h=>.bool aM h,A1 (.bool b) rfl⟩⟩
  ·rename_i k aM;obtain⟨n,rfl,h1,ag⟩:=trod_int aM h;exact⟨[.int k n],⟨rfl,fun oZ cs' h=>.int aM h1 ag h,A1 (.int k n) rfl⟩⟩
  ·rename_i aM;obtain⟨s,rfl,h1⟩:=apP aM h;exact⟨[.str s.data.toList],⟨rfl,fun oZ cs' h=>.str aM (show s.data.toList.length<=maxLen from h1) h,A1 (.str s) rfl⟩⟩
  ·rename_i e aM;simp only[Bool.and_eq_true,decide_eq_true_eq] at aE;rcases apO aM h with rfl | ⟨a,len,cap,rfl,kV,fV,Cl,aw⟩
   ·exact⟨[.aX],⟨rfl,fun oZ cs' h=>.aX aM h,A1 .aX rfl⟩⟩
   ·have cF:∀ i,i<len->∃ dS row,w.cells? base (a.add (i*P.cellsOf e)) (P.cellsOf e)=some dS/\n9 P w A [e] dS row:=fun i aA=>by
     obtain⟨x,_,aj⟩:=DW aw i i (by rw[List.getElem?_range aA]);rw[bind_some] at aj;obtain⟨dS,h1,ag⟩:=aj;obtain⟨row,ap⟩:=aL e dS x.1 x.2 aE.2 ag;exact⟨dS,row,h1,ap⟩
    have z6:∃ (dS:Nat->List Value) (rows:Nat->List ae),∀ i,i<len->w.cells? base (a.add (i*P.cellsOf e)) (P.cellsOf e)=some (dS i)/\n9 P w A [e] (dS i) (rows i) :=by
     refine⟨fun i=>if aA:i<len then (cF i aA).choose else [],fun i=>if aA:i<len then (cF i aA).choose_spec.choose else [],fun i aA=>?_⟩;simp only[dif_pos aA];exact (cF i aA).choose_spec.choose_spec
    obtain⟨dS,rows,ax⟩:=z6;have ix:∀ i,i<len->(dS i).length=P.cellsOf e/\∀ j,j<P.cellsOf e->∃ v,(dS i)[j]? = some v/\w.cell? (a.add (i*P.cellsOf e+j))=some v:=fun i aA=>by
     have h1:=(ax i aA).1;unfold World.cells? at h1;split at h1
     ·refine⟨by rw[K6 h1]; simp,fun j am=>?_⟩;obtain⟨v,ag,ap⟩:=DW h1 j j (by rw[List.getElem?_range am]);refine⟨v,ag,?_⟩;rw[<-ap,aef]
     ·cases h1
    let es:=(List.range len).map rows
    have iS:∀ (i:Nat) (r:List ae),es[i]? = some r->i<len/\r=rows i:=fun i r aC=>by
     simp only[es,List.getElem?_map] at aC;by_cases aA:i<len
     ·rw[List.getElem?_range aA] at aC; simp only[Option.map_some,Option.some.injEq] at aC; exact⟨aA,aC.symm⟩
     ·rw[List.getElem?_eq_none (by simp; omega)] at aC; cases aC
    have bA:es.length=len:=by simp[es]
    have aB:∀ r∈es,r.length=P.cellsOf e:=fun r aC=>by
     obtain⟨i,aA⟩:=List.getElem?_of_mem aC;obtain⟨h1,rfl⟩:=iS i r aA;rw[(ax i h1).2.len,(ix i h1).1]
    have xT:∀ r∈es,dE P [e] r:=fun r aC=>by
     obtain⟨i,aA⟩:=List.getElem?_of_mem aC;obtain⟨h1,rfl⟩:=iS i r aA;have:=(ax i h1).2.ty [] [] .nil;simpa using this
    refine⟨[.b0 (P.cellsOf e) es],⟨rfl,fun oZ cs' h=>.ao aM (by omega) aB xT h,A1 ?_ rfl⟩⟩;by_cases aT:len=0
    ·subst aT;exact .fo _ _ _
    ·obtain⟨v0,_,h9⟩:=(ix 0 (by omega)).2 0 aE.1;have V1:a.spot=none:=by
      unfold World.cell? at h9;split at h9
      ·split at h9
       ·cases h9
       ·rename_i ar;rw[show 0*P.cellsOf e+0=0 by omega] at ar;simp only[Addr.add,if_true] at ar;cases ny:a.spot with
        | none=>rfl
        | some x=>rw[ny] at ar; simp at ar
      ·cases h9
     obtain⟨blk,off,spot⟩:=a;simp only at V1;subst V1;have key:=aR.b0 (w:=w) (R:=A) (h:=aQ.empty) (μ:=fun _=>none) (P.cellsOf e) es blk off cap (fun i j=>((dS i)[j]?).getD undef) (by omega) aB
      (fun i j aA am=>by
       rw[bA] at aA;obtain⟨v,h1,ag⟩:=(ix i aA).2 j am;obtain⟨c,al⟩:∃ c,(rows i)[j]? = some c:=by
        have:j<(rows i).length:=by rw[(ax i aA).2.len,(ix i aA).1]; exact am
        exact⟨_,List.getElem?_eq_getElem this⟩
       refine⟨?_,?_,c2 _,fun ⟨b,m,h1,ag,ap⟩=>by cases ag⟩
       ·rw[h1,Option.getD_some,<-add_plain]; exact ag
       ·rw[h1,Option.getD_some]; exact ((ax i aA).2.o4 j c v al h1).2)
      (fun i r aC j c al=>by
       obtain⟨aA,rfl⟩:=iS i r aC;have am:j<P.cellsOf e:=by rw[<-(ix i aA).1,<-(ax i aA).2.len]; exact (List.getElem?_eq_some_iff.1 al).1
       obtain⟨v,h1,ag⟩:=(ix i aA).2 j am;rw[h1,Option.getD_some];exact ((ax i aA).2.o4 j c v al h1).1)
     rw[bA] at key;exact key
  ·rename_i fs aM;simp only[Bool.and_eq_true,decide_eq_true_eq,List.all_eq_true] at aE;obtain⟨bA,xs,aj⟩:=apQ aM h;have zN:∀ (fs:List Field) (o:Nat) (xs:List (DataW H × List MemPlace)),tu P fs o=some vs.length->o<=vs.length->(∀ f∈fs,sS P D f.type=true)->
     (fs.mapM fun f=>DataW.trod enc P w base spare held fuel f.type ((vs.drop f.offset).take (P.cellsOf f.type)))=some xs->∃ cs,n9 P w A (fs.map (·.type)) (vs.drop o) cs:=by
    intro fs
    induction fs with
    | nil=>intro o xs al ay _ _; simp only[tu,Option.some.injEq] at al; rw[al,List.drop_length]; exact⟨[],.nil⟩
    | cons f fs akv=>
     intro o xs al ay g3 hm;simp only[tu] at al;split at al
     ·rename_i vD;rw[List.mapM_cons] at hm;simp only[Option.bind_eq_bind,bind_some,Option.pure_def,Option.some.injEq] at hm;obtain⟨x,h1,aqX,ag,_⟩:=hm;have ajn:∀ (fs:List Field) (o n:Nat),tu P fs o=some n->o<=n:=by
       intro fs
       induction fs with
       | nil=>intro o n h; simp only[tu,Option.some.injEq] at h; omega
       | cons g gs akw=>
        intro o n h;simp only[tu] at h;split at h
        ·have:=akw _ _ h; omega
        ·cases h
      have du:=ajn _ _ _ al;obtain⟨cX,cb⟩:=aL f.type _ x.1 x.2 (g3 f (by simp)) h1;obtain⟨dB,w2⟩:=akv _ aqX al du (fun g az=>g3 g (by simp[az])) ag;refine⟨cX++dB,?_⟩;have:=cb.app w2;rw[vD,show List.drop (o+P.cellsOf f.type) vs=List.drop (P.cellsOf f.type) (List.drop o vs) by rw[List.drop_drop],List.take_append_drop] at this;exact this
     ·cases al
   obtain⟨cs,bB⟩:=zN fs.toList 0 xs (by rw[bA]; exact aE.1) (Nat.zero_le _) aE.2 aj;rw[List.drop_zero] at bB;exact⟨cs,⟨bB.len,fun oZ cs' h=>.struct aM (bB.ty _ _ h),bB.o4⟩⟩
  ·rename_i n e aM;simp only[Bool.and_eq_true,decide_eq_true_eq] at aE;obtain⟨bA,xs,aj⟩:=trod_array aM h;have ajJ:∀ i,i<n->∃ c,n9 P w A [e] ((vs.drop (i*P.cellsOf e)).take (P.cellsOf e)) c:=fun i aA=>by
    obtain⟨x,_,h1⟩:=DW aj i i (by rw[List.getElem?_range aA]);exact aL e _ x.1 x.2 aE.2 h1
   have zN:∀ m,m<=n->∃ cs,n9 P w A (List.replicate m e) (vs.drop ((n - m)*P.cellsOf e)) cs:=by
    intro m
    induction m with
    | zero=>intro _; rw[Nat.sub_zero,List.drop_eq_nil_of_le (by omega)]; exact⟨[],.nil⟩
    | succ m Kz=>
     intro hm;obtain⟨cX,cb⟩:=ajJ (n - (m+1)) (by omega);obtain⟨dB,w2⟩:=Kz (by omega);refine⟨cX++dB,?_⟩;have:=cb.app w2;have tQ:(n - m)*P.cellsOf e=(n - (m+1))*P.cellsOf e+P.cellsOf e:=by rw[<-Nat.succ_mul]; congr 1; omega
     rw[tQ,<-List.drop_drop,List.take_append_drop] at this;exact this
   obtain⟨cs,bB⟩:=zN n (Nat.le_refl _);rw[Nat.sub_self,Nat.zero_mul,List.drop_zero] at bB;exact⟨cs,⟨bB.len,fun oZ cs' h=>.array aM (bB.ty _ _ h),bB.o4⟩⟩
  ·cases aE
def rI (P:Program) (t:TypeId) (c:ae) :Prop:=match dM P t with
 | some true=>∃ cs,c=.aV cs/\dE P [t] cs
 | _=>dE P [t] [c]
inductive lf (P:Program) :List TypeId->List ae->Prop
 | nil:lf P [] []
 | cons {t:TypeId} {c:ae} {ts:List TypeId} {cs:List ae}:rI P t c->lf P ts cs->lf P (t::ts) (c::cs)
theorem PL {H:Type} {enc:TypeId × Value->H} {w:World} {A:Nat->Prop} (c2:∀ k,A k) {base gG:Nat} {spare:Nat->Bool} {held:Bool} {D:Nat}:∀ {ts:List TypeId} {vs:List Value} {hq:List (DataW H)} {cH:List MemPlace},
  (∀ t∈ts,sS P D t=true)->(∀ (j:Nat) t v,ts[j]? = some t->vs[j]? = some v->Value.okWide P w .any gG t v)->DataW.TrodAll enc P w base spare held ts vs hq cH->
  ∃ cs,lf P ts cs/\cs.length=vs.length/\∀ (j:Nat) (c:ae) (v:Value),cs[j]? = some c->vs[j]? = some v->e7 w A c v
 | [],[],_,_,_,_,_=>⟨[],.nil,rfl,fun j c v h=>by simp at h⟩
 | [],_::_,hq,_,_,_,h=>by cases hq<;>cases h
 | _::_,[],hq,_,_,_,h=>by cases hq<;>cases h
 | _::_,_::_,[],_,_,_,h=>by cases h
 | t::ts,v::vs,d::hq,cH,aE,eb,h=>by
  obtain⟨p,q,⟨fuel,aU⟩,aC,_⟩:=h;obtain⟨cs,h1,ag,ap⟩:=PL c2 (fun t aU=>aE t (by simp[aU])) (fun j t v aU ax=>eb (j+1) t v (by simpa using aU) (by simpa using ax)) aC;obtain⟨cX,cb⟩:=ac1 c2 fuel D t v.cells.toList d p (aE t (by simp)) aU;have xT:dE P [t] cX:=by simpa using cb.ty [] [] .nil
  have ax:=eb 0 t v rfl rfl;have fin:∀ c,rI P t c->e7 w A c v->∃ cs,lf P (t::ts) cs/\cs.length=(v::vs).length/\∀ (j:Nat) (c:ae) (bf:Value),cs[j]? = some c->(v::vs)[j]? = some bf->e7 w A c bf:=fun c al kj=>
   ⟨c::cs,.cons al h1,by simp[ag],fun j c' bf am e2=>by
    cases j with
    | zero=>simp only[List.getElem?_cons_zero,Option.some.injEq] at am e2; subst am e2; exact kj
    | succ j=>exact ap j c' bf (by simpa using am) (by simpa using e2)⟩
  unfold Value.okWide at ax;have agg:dM P t=(P.underlying t).map fun d=>match d with | .struct _ | .array _ _=>true | _=>false:=rfl
  cases aM:P.underlying t with
  | none=>
   exfalso;have:=aE t (by simp);cases D with
   | zero=>cases this
   | succ D=>unfold sS at this; rw[aM] at this; cases this
  | some Tm=>
   rw[aM] at ax agg;have akT:(∃ cs,v=.agg cs)->dM P t=some true->∃ cs,lf P (t::ts) cs/\cs.length=(v::vs).length/\∀ (j:Nat) (c:ae) (bf:Value),cs[j]? = some c->(v::vs)[j]? = some bf->e7 w A c bf:=by
    rintro⟨xs,rfl⟩ ng;refine fin (.aV cX) (by unfold rI; rw[ng]; exact⟨cX,rfl,xT⟩) (.aV cX xs (by have:=cb.len; simp only[Value.cells,Array.length_toList] at this; exact this.symm) (fun j x aj=>?_) (fun j c x al aj=>?_))
    ·have aP:j<cX.length:=by rw[cb.len]; simp only[Value.cells,Array.length_toList]; exact (Array.getElem?_eq_some_iff.1 aj).1
     exact (cb.o4 j cX[j] x (List.getElem?_eq_getElem aP) (by simpa [Value.cells] using aj)).2
    ·exact (cb.o4 j c x al (by simpa [Value.cells] using aj)).1
   have akV:(∀ xs,v≠.agg xs)->dM P t=some false->∃ cs,lf P (t::ts) cs/\cs.length=(v::vs).length/\∀ (j:Nat) (c:ae) (bf:Value),cs[j]? = some c->(v::vs)[j]? = some bf->e7 w A c bf:=by
    intro bY ng;have ix:v.cells.toList=[v] :=by cases v<;>first | rfl | exact absurd rfl (bY _)
    have au:=cb.len;rw[ix] at au;obtain⟨c,rfl⟩:∃ c,cX=[c] :=List.length_eq_one_iff.1 au;refine fin c (by unfold rI; rw[ng]; exact xT) (cb.o4 0 c v rfl (by rw[ix]; rfl)).1
   have amj:Cell.okWide P w .any gG t v->∀ xs,v≠.agg xs:=by
    rintro al xs rfl;unfold Cell.okWide at al;rw[aM] at al;cases Tm<;>simp[Cell.ok,aM] at al
   cases Tm<;>simp only[Option.map_some] at agg<;>first
    | exact akT (by obtain⟨cs,h,_⟩:=ax; exact⟨cs,h⟩) agg
    | exact akV (amj ax) agg
end
abbrev dk (α:Type) :=Option (List α)
def dk.l {α:Type} (s:dk α) :List α:=s.getD []
@[simp] theorem dk.avu {α:Type}:dk.l (none:dk α)=[] :=rfl
@[simp] theorem dk.AU {α:Type} (l:List α) :dk.l (some l)=l:=rfl
def cO {α:Type} (z:Nat) (enc:α->List ae) :dk α->ae
 | none=>.aX
 | some l=>.b0 z (l.map enc)
section
variable {α:Type} {z:Nat} {enc:α->List ae}
@[simp] theorem oP (s:dk α) :c8 (.ao z) (cO z enc s)=some (.int .i64 s.l.length) :=by cases s<;>simp[cO,dk.l]
@[simp] theorem pB (s:dk α) (k:IntKind) (i:Int) :cS (.ao z) (cO z enc s) (.int k i)=if 0<=i then (s.l[i.toNat]?).map fun x=>.cq (enc x) 0 else none:=by
 cases s with
 | none=>by_cases h:0<=i<;>simp[cO,dk.l,cS,h]
 | some l=>by_cases h:0<=i<;>simp[cO,dk.l,h,Function.comp_def]
@[simp] theorem asc (s:dk α) :(cO z enc s).cells=some [cO z enc s] :=by cases s<;>rfl
theorem u7 (h:∀ x,bM (enc x)=true) (s:dk α) :(cO z enc s).closed=true:=by
 cases s with
 | none=>rfl
 | some l=>
  simp only[cO,ae.closed]
  induction l with
  | nil=>rfl
  | cons x l aL=>simp only[List.map_cons,zn,h,aL,Bool.and_self]
end
theorem wrap_i64 {n:Int} (h1:-9223372036854775808<=n) (ag:n<9223372036854775808) :IntKind.i64.wrap n=n:=by
 have aZ:(2 ^ IntKind.i64.bits:Int)=18446744073709551616:=by decide
 have b4:(2 ^ (IntKind.i64.bits - 1) :Int)=9223372036854775808:=by decide
 have dC:IntKind.i64.signed=true:=rfl;simp only[IntKind.wrap,aZ,b4,dC,Bool.true_and,decide_eq_true_eq];split<;>omega
theorem ck {α:Type} {l:List α} {k:Nat} (h:k<l.length) :∃ x,l[k]? = some x/\x∈l:=⟨l[k],List.getElem?_eq_getElem h,List.getElem_mem h⟩
section
variable {P:Program} {G:Nat->ae}
theorem Fu {t e:TypeId} (aM:P.underlying t=some (.slice e)) {α:Type} (z:Nat) (enc:α->List ae) (s:dk α) :gc P .eql t (cO z enc s) .aX=some (.bool s.isNone) :=by
 cases s<;>simp[cO,gc,vg,ej,aM]
theorem agx {e:TypeId} {k:IntKind} (aM:P.underlying e=some (.int k)) (aG:dM P e=some false) {D:Nat} (x y:List Int) :∀ (n i:Nat),i+n=x.length->i+n=y.length->
  ej.qs P (ej P (D+1)) e 1 (x.map (.int k)) (y.map (.int k)) n i=some (decide (x.drop i=y.drop i)) :=by
 intro n
 induction n with
 | zero=>intro i aj aK; rw[List.drop_eq_nil_of_le (by omega),List.drop_eq_nil_of_le (by omega)]; simp[ej.qs]
 | succ n aL=>
  intro i aj aK;have j3:x[i]? = some x[i] :=List.getElem?_eq_getElem (by omega);have akm:y[i]? = some y[i] :=List.getElem?_eq_getElem (by omega);unfold ej.qs;simp only[Ls aG,Nat.mul_one,List.getElem?_map,j3,akm,Option.map_some];have aw:ej P (D+1) e (.int k x[i]) (.int k y[i])=some (decide (x[i]=y[i])) :=by
   unfold ej;rw[aM];simp only[if_true];by_cases h:x[i]=y[i]<;>simp[h]
  rw[aw];have UV:x.drop i=x[i] ::x.drop (i+1) :=List.drop_eq_getElem_cons (by omega);have UW:y.drop i=y[i] ::y.drop (i+1) :=List.drop_eq_getElem_cons (by omega);by_cases h:x[i]=y[i]
  ·simp only[h,decide_true];rw[aL (i+1) (by omega) (by omega)];refine congrArg some (decide_eq_decide.2 ?_);rw[UV,UW,h];simp only[List.cons.injEq,true_and]
  ·simp only[h,decide_false];refine congrArg some (decide_eq_false ?_).symm;rw[UV,UW];simp only[List.cons.injEq,h,false_and,not_false_eq_true]
theorem agE {t e:TypeId} {k:IntKind} {n:Nat} (aU:P.underlying t=some (.array n e)) (aM:P.underlying e=some (.int k)) (aG:dM P e=some false) (ar:cz P e=some 1) {x y:List Int} (aj:x.length=n) (aK:y.length=n) {D:Nat} :
  ej P (D+2) t (.aV (x.map (.int k))) (.aV (y.map (.int k)))=some (decide (x=y)) :=by
 unfold ej;rw[aU];simp only[ar];rw[agx aM aG x y n 0 (by omega) (by omega)];simp
theorem TM {z:Nat} {es:List (List ae)} (aB:∀ e∈es,e.length=z) :es.flatten.length=es.length*z:=by
 induction es with
 | nil=>simp
 | cons e es aL=>rw[List.flatten_cons,List.length_append,aB e (by simp),aL fun e aw=>aB e (by simp[aw]),List.length_cons,Nat.succ_mul,Nat.add_comm]
theorem Iv {z:Nat} {es:List (List ae)} (aB:∀ e∈es,e.length=z) {i j:Nat} {e:List ae} (aw:es[i]? = some e) (am:j<z) :es.flatten[i*z+j]? = e[j]?:=by
 induction es generalizing i with
 | nil=>simp at aw
 | cons x es aL=>
  have aj:x.length=z:=aB x (by simp);cases i with
  | zero=>
   simp only[List.getElem?_cons_zero,Option.some.injEq] at aw;subst aw;rw[List.flatten_cons,Nat.zero_mul,Nat.zero_add,List.getElem?_append_left (by omega)]
  | succ i=>
   simp only[List.getElem?_cons_succ] at aw;rw[List.flatten_cons,List.getElem?_append_right (by rw[aj,Nat.succ_mul]; omega),aj,show (i+1)*z+j - z=i*z+j by rw[Nat.succ_mul]; omega];exact aL (fun e aw=>aB e (by simp[aw])) aw
theorem dD {ah:bi} {i:Nat} {v:ae} (h:ah i=v) :b5 ah i v=ah:=by
 funext t; simp only[b5]; split<;>simp_all
theorem o3 {ah:bi} {er:Nat} {fR:ae} {eX:Nat} {ef:ae} (h1:ah er=fR) (ag:ah eX=ef) :∃ s:bi,ah=b5 (b5 (s) er fR) eX ef:=⟨ah,by rw[dD h1,dD ag]⟩
theorem kD {ah:bi} {er:Nat} {fR:ae} {eX:Nat} {ef:ae} {hV:Nat} {v3:ae} (h1:ah er=fR) (ag:ah eX=ef) (ap:ah hV=v3) :∃ s:bi,ah=b5 (b5 (b5 (s) er fR) eX ef) hV v3:=⟨ah,by rw[dD h1,dD ag,dD ap]⟩
theorem jg {ah:bi} {er:Nat} {fR:ae} {eX:Nat} {ef:ae} {hV:Nat} {v3:ae} {ju:Nat} {v4:ae} (h1:ah er=fR) (ag:ah eX=ef) (ap:ah hV=v3) (aJ:ah ju=v4) :∃ s:bi,ah=b5 (b5 (b5 (b5 (s) er fR) eX ef) hV v3) ju v4:=⟨ah,by rw[dD h1,dD ag,dD ap,dD aJ]⟩
theorem k7 {ah:bi} {er:Nat} {fR:ae} {eX:Nat} {ef:ae} {hV:Nat} {v3:ae} {ju:Nat} {v4:ae} {kZ:Nat} {v5:ae} (h1:ah er=fR) (ag:ah eX=ef) (ap:ah hV=v3) (aJ:ah ju=v4) (bd:ah kZ=v5) :∃ s:bi,ah=b5 (b5 (b5 (b5 (b5 (s) er fR) eX ef) hV v3) ju v4) kZ v5:=⟨ah,by rw[dD h1,dD ag,dD ap,dD aJ,dD bd]⟩
theorem EN {ah:bi} {er:Nat} {fR:ae} {eX:Nat} {ef:ae} {hV:Nat} {v3:ae} {ju:Nat} {v4:ae} {kZ:Nat} {v5:ae} {mL:Nat} {dA:ae} (h1:ah er=fR) (ag:ah eX=ef) (ap:ah hV=v3) (aJ:ah ju=v4) (bd:ah kZ=v5) (bL:ah mL=dA) :∃ s:bi,ah=b5 (b5 (b5 (b5 (b5 (b5 (s) er fR) eX ef) hV v3) ju v4) kZ v5) mL dA:=⟨ah,by rw[dD h1,dD ag,dD ap,dD aJ,dD bd,dD bL]⟩
theorem O0 {ah:bi} {er:Nat} {fR:ae} {eX:Nat} {ef:ae} {hV:Nat} {v3:ae} {ju:Nat} {v4:ae} {kZ:Nat} {v5:ae} {mL:Nat} {dA:ae} {jv:Nat} {p3:ae} (h1:ah er=fR) (ag:ah eX=ef) (ap:ah hV=v3) (aJ:ah ju=v4) (bd:ah kZ=v5) (bL:ah mL=dA) (eN:ah jv=p3) :∃ s:bi,ah=b5 (b5 (b5 (b5 (b5 (b5 (b5 (s) er fR) eX ef) hV v3) ju v4) kZ v5) mL dA) jv p3:=⟨ah,by rw[dD h1,dD ag,dD ap,dD aJ,dD bd,dD bL,dD eN]⟩
theorem ada {ah:bi} {er:Nat} {fR:ae} {eX:Nat} {ef:ae} {hV:Nat} {v3:ae} {ju:Nat} {v4:ae} {kZ:Nat} {v5:ae} {mL:Nat} {dA:ae} {jv:Nat} {p3:ae} {uf:Nat} {k8:ae} (h1:ah er=fR) (ag:ah eX=ef) (ap:ah hV=v3) (aJ:ah ju=v4) (bd:ah kZ=v5) (bL:ah mL=dA) (eN:ah jv=p3) (hd:ah uf=k8) :∃ s:bi,ah=b5 (b5 (b5 (b5 (b5 (b5 (b5 (b5 (s) er fR) eX ef) hV v3) ju v4) kZ v5) mL dA) jv p3) uf k8:=⟨ah,by rw[dD h1,dD ag,dD ap,dD aJ,dD bd,dD bL,dD eN,dD hd]⟩
theorem ac9 {ah:bi} {er:Nat} {fR:ae} {eX:Nat} {ef:ae} {hV:Nat} {v3:ae} {ju:Nat} {v4:ae} {kZ:Nat} {v5:ae} {mL:Nat} {dA:ae} {jv:Nat} {p3:ae} {uf:Nat} {k8:ae} {AF:Nat} {v9:ae} {AD:Nat} {Bz:ae} {AE:Nat} {BA:ae} (h1:ah er=fR) (ag:ah eX=ef) (ap:ah hV=v3) (aJ:ah ju=v4) (bd:ah kZ=v5) (bL:ah mL=dA) (eN:ah jv=p3) (hd:ah uf=k8) (fL:ah AF=v9) (lV:ah AD=Bz) (vk:ah AE=BA) :∃ s:bi,ah=b5 (b5 (b5 (b5 (b5 (b5 (b5 (b5 (b5 (b5 (b5 (s) er fR) eX ef) hV v3) ju v4) kZ v5) mL dA) jv p3) uf k8) AF v9) AD Bz) AE BA:=⟨ah,by rw[dD h1,dD ag,dD ap,dD aJ,dD bd,dD bL,dD eN,dD hd,dD fL,dD lV,dD vk]⟩
theorem ap9 {ah:bi} {er:Nat} {fR:ae} {eX:Nat} {ef:ae} {hV:Nat} {v3:ae} {ju:Nat} {v4:ae} {kZ:Nat} {v5:ae} {mL:Nat} {dA:ae} {jv:Nat} {p3:ae} {uf:Nat} {k8:ae} {AF:Nat} {v9:ae} {AD:Nat} {Bz:ae} {AE:Nat} {BA:ae} {Wi:Nat} {adb:ae} (h1:ah er=fR) (ag:ah eX=ef) (ap:ah hV=v3) (aJ:ah ju=v4) (bd:ah kZ=v5) (bL:ah mL=dA) (eN:ah jv=p3) (hd:ah uf=k8) (fL:ah AF=v9) (lV:ah AD=Bz) (vk:ah AE=BA) (IH:ah Wi=adb) :∃ s:bi,ah=b5 (b5 (b5 (b5 (b5 (b5 (b5 (b5 (b5 (b5 (b5 (b5 (s) er fR) eX ef) hV v3) ju v4) kZ v5) mL dA) jv p3) uf k8) AF v9) AD Bz) AE BA) Wi adb:=⟨ah,by rw[dD h1,dD ag,dD ap,dD aJ,dD bd,dD bL,dD eN,dD hd,dD fL,dD lV,dD vk,dD IH]⟩
section
variable {α:Type}
@[simp] theorem zu (l:av) (z:Nat) (enc:α->List ae) (s:dk α) :dv l z (cO z enc s)=some ((s.l.map enc).flatten,s.l.length) :=by
 cases s<;>simp[cO,dv]
end
theorem g8 {cs vs:List ae} (h:vs.length=cs.length) :bS cs 0 vs=vs:=by
 simp only[bS,List.take_zero,List.nil_append,Nat.zero_add];rw[List.drop_eq_nil_of_le (by omega),List.append_nil]
theorem P2 (len cap:Nat) (k:IntKind) (i:Int) :gd len cap (some (.int k i)) none none=if 0<=i/\i<=len then some (i.toNat,len,cap) else none:=by
 unfold gd iN;by_cases h:0<=i/\i<=len
 ·simp only[if_pos h]
 ·simp only[if_neg h]
theorem FA (len cap:Nat) (k:IntKind) (i:Int) :gd len cap none (some (.int k i)) none=if 0<=i/\i<=cap then some (0,i.toNat,cap) else none:=by
 unfold gd iN;by_cases h:0<=i/\i<=cap
 ·simp only[if_pos h]
 ·simp only[if_neg h]
theorem aeN (len cap:Nat) (k k' : IntKind) (i j:Int) :gd len cap (some (.int k i)) (some (.int k' j)) none=if 0<=i/\i<=j/\j<=cap then some (i.toNat,j.toNat,cap) else none:=by
 unfold gd iN;by_cases h:0<=j/\j<=cap
 ·simp only[if_pos h];by_cases ag:0<=i/\i<=((j.toNat:Nat) :Int)
  ·simp only[if_pos ag]; rw[if_pos (by omega)]
  ·simp only[if_neg ag]; rw[if_neg (by omega)]
 ·simp only[if_neg h]; rw[if_neg (by omega)]
theorem aoY {α:Type} {z:Nat} {enc:α->List ae} {l:List α} {k:IntKind} {i:Int} (h1:0<=i) (ag:i<=l.length) :fQ (.ao z) (cO z enc (some l)) (some (.int k i)) none none=some (cO z enc (some (l.drop i.toNat))) :=by
 have ap:i.toNat<=l.length:=by omega
 simp only[fQ,cO,if_true,P2,List.length_map];rw[if_pos ⟨h1,ag⟩];simp only[Option.map_some,Option.some.injEq,ae.b0.injEq,true_and];rw[List.take_of_length_le (by simp),List.map_drop]
theorem ao2 {α:Type} {z:Nat} {enc:α->List ae} {l:List α} {k:IntKind} {i:Int} (h1:0<=i) (ag:i<=l.length) :fQ (.ao z) (cO z enc (some l)) none (some (.int k i)) none=some (cO z enc (some (l.take i.toNat))) :=by
 simp only[fQ,cO,if_true,FA,List.length_map];rw[if_pos ⟨h1,ag⟩];simp only[Option.map_some,Option.some.injEq,ae.b0.injEq,true_and,List.drop_zero,Nat.sub_zero];rw[List.map_take]
theorem aoZ {α:Type} {z:Nat} {enc:α->List ae} {l:List α} {k k' : IntKind} {i j:Int} (aT:0<=i) (h1:i<=j) (ag:j<=l.length) :fQ (.ao z) (cO z enc (some l)) (some (.int k i)) (some (.int k' j)) none=some (cO z enc (some ((l.drop i.toNat).take (j.toNat - i.toNat)))) :=by
 simp only[fQ,cO,if_true,aeN,List.length_map];rw[if_pos ⟨aT,h1,ag⟩];simp only[Option.map_some,Option.some.injEq,ae.b0.injEq,true_and];rw[List.map_take,List.map_drop]
theorem map_set {α:Type} (l:List α) (k:Nat) (x:α) (enc:α->List ae) :(l.map enc).set k (enc x)=(l.set k x).map enc:=by rw[List.map_set]
end
section
variable {P:Program}
def acI (P:Program) (t:TypeId) :Option (List TypeId) :=match P.underlying t with
 | some (.struct fs)=>some (fs.toList.map (·.type))
 | _=>none
theorem EL {cs:List ae} (h:dE P [] cs) :cs=[] :=by cases h; rfl
theorem yL {t:TypeId} {k:IntKind} {ts:List TypeId} {cs:List ae} (aM:P.underlying t=some (.int k)) (h:dE P (t::ts) cs) :∃ n cs',cs=.int k n::cs'/\k.min<=n/\n<=k.max/\dE P ts cs':=by
 cases h
 case int k' n cs' h1 ag oL h=>
  rw[aM] at oL; cases oL; exact⟨_,_,rfl,h1,ag,h⟩
 all_goals (exfalso; simp_all; done)
theorem Bx {t:TypeId} {fs ts:List TypeId} {cs:List ae} (aM:acI P t=some fs) (h:dE P (t::ts) cs) :dE P (fs++ts) cs:=by
 unfold acI at aM;cases h
 case struct as0 oL h=>rw[oL] at aM; cases aM; exact h
 all_goals (exfalso; simp_all; done)
theorem ap0 {t e:TypeId} {n:Nat} {ts:List TypeId} {cs:List ae} (aM:P.underlying t=some (.array n e)) (h:dE P (t::ts) cs) :dE P (List.replicate n e++ts) cs:=by
 cases h
 case array e0 gB oL h=>rw[aM] at oL; cases oL; exact h
 all_goals (exfalso; simp_all; done)
theorem ap3 {t e:TypeId} {ts:List TypeId} {cs:List ae} (aM:P.underlying t=some (.slice e)) (h:dE P (t::ts) cs) :
  ∃ cs',dE P ts cs'/\(cs=.aX::cs'\/∃ es,cs=.b0 (P.cellsOf e) es::cs'/\es.length<=maxLen/\∀ r∈es,dE P [e] r) :=by
 cases h
 case aX e0 cs' oL h=>exact⟨_,h,.inl rfl⟩
 case ao e0 es cs' au aB aw oL h=>rw[aM] at oL; cases oL; exact⟨_,h,.inr ⟨es,rfl,au,aw⟩⟩
 all_goals (exfalso; simp_all; done)
theorem ace {α:Type} {enc:α->List ae} {Q:α->Prop}:∀ (es:List (List ae)),(∀ r∈es,∃ x,r=enc x/\Q x)->∃ xs:List α,es=xs.map enc/\∀ x∈xs,Q x
 | [],_=>⟨[],rfl,fun x aj=>by cases aj⟩
 | r::es,h=>by
  obtain⟨x,rfl,aj⟩:=h r (by simp);obtain⟨xs,rfl,x3⟩:=ace es (fun r aC=>h r (by simp[aC]));exact⟨x::xs,rfl,fun y aK=>by
   rcases List.mem_cons.1 aK with rfl | aK
   ·exact aj
   ·exact x3 y aK⟩
theorem OV {α:Type} {t e:TypeId} {z:Nat} {enc:α->List ae} {Q:α->Prop} {ts:List TypeId} {cs:List ae} (aM:P.underlying t=some (.slice e)) (aB:P.cellsOf e=z) (aw:∀ r,dE P [e] r->∃ x,r=enc x/\Q x) (h:dE P (t::ts) cs) :
  ∃ (s:dk α) (cs' : List ae),cs=cO z enc s::cs'/\s.l.length<=maxLen/\(∀ x∈s.l,Q x)/\dE P ts cs':=by
 obtain⟨cs',h1,rfl | ⟨es,rfl,au,aC⟩⟩:=ap3 aM h
 ·exact⟨none,cs',rfl,Nat.zero_le _,fun x aj=>(by cases aj),h1⟩
 ·obtain⟨xs,rfl,x3⟩:=ace (enc:=enc) (Q:=Q) es (fun r jp=>aw r (aC r jp));refine⟨some xs,cs',?_,by simpa using au,x3,h1⟩;rw[aB]; rfl
theorem apX {t:TypeId} {c:ae} (aG:dM P t=some true) (h:rI P t c) :∃ cs,c=.aV cs/\dE P [t] cs:=by
 unfold rI at h; rw[aG] at h; exact h
theorem apY {t:TypeId} {c:ae} (aG:dM P t=some false) (h:rI P t c) :dE P [t] [c] :=by
 unfold rI at h; rw[aG] at h; exact h
theorem ac3 {t:TypeId} {ts:List TypeId} {cs:List ae} (h:lf P (t::ts) cs) :∃ c cs',cs=c::cs'/\rI P t c/\lf P ts cs':=by
 cases h with
 | cons h1 ag=>exact⟨_,_,rfl,h1,ag⟩
theorem apW {cs:List ae} (h:lf P [] cs) :cs=[] :=by cases h; rfl
end
end Go.cn

namespace Go.cn
open Go Go.ChangeShapes Go.RowKit
theorem acZ {H:Type} {enc:TypeId × Value->H} {P:Program} (au:laidOutB P=true) {W rJ:World} (ai:Below W.heap.size W rJ) :∀ {ts:List TypeId} {vs:List Value} {hq:List (DataW H)} {cH:List MemPlace},
  (∀ t∈ts,P.readableRec t=true/\t<P.types.size)->DataW.TrodAll enc P W 0 (fun _=>true) true ts vs hq cH->DataW.TrodAll enc P rJ 0 (fun b=>decide (b<W.heap.size)) true ts vs hq cH
 | [],vs,hq,cH,_,h=>by
  obtain⟨rfl,rfl,rfl⟩:=trodAll_nil h;exact trodAll_mk0
 | t::ts,vs,hq,cH,aC,h=>by
  have aP:=h.lt;obtain⟨v,aqk,d,agn,a,b,rfl,rfl,rfl,h1,ag⟩:=trodAll_cons h;exact⟨a,b,Below.trod au (aC t (by simp)).1 (aC t (by simp)).2 h1 ai (fun x aj=>aP x (by simp[aj])),acZ au ai (fun t aU=>aC t (by simp[aU])) ag,rfl⟩
theorem alH {P:Program} {G:Nat->ae} (kX:P.follows .mixedOrders=true) (jS:∀ g,(G g).closed=true) {f:FuncId} {ts:List TypeId} (D:Nat) (aE:∀ t∈ts,sS P D t=true) (ajb:laidOutB P=true)
  (cF:∀ t∈ts,P.readableRec t=true/\t<P.types.size) (alF:∀ cs,lf P ts cs->dh P G f cs [] (c:=⟨fun r _=>r=.bool true⟩))
  {H:Type} {enc:TypeId × Value->H} {W:World} {gG:Nat} {args:Array Value} {hq:List (DataW H)} {cH:List MemPlace} (az:∀ g,e7 W (fun _=>True) (G g) (.pointer (some ⟨g,0,none⟩)))
  (eb:∀ (j:Nat) t v,ts[j]? = some t->args[j]? = some v->Value.okWide P W .any gG t v) (h:DataW.TrodAll enc P W 0 (fun _=>true) true ts args.toList hq cH) :
  Calls P f args W fun e w'=>e=.returned (.bool true)/\Below W.heap.size W w'/\DataW.TrodAll enc P w' 0 (fun b=>decide (b<W.heap.size)) true ts args.toList hq cH:=by
 obtain⟨cs,xT,bA,sv⟩:=PL (A:=fun _=>True) (fun _=>trivial) aE (fun j t v aU ax=>eb j t v aU (by simpa using ax)) h;exact (alG kX jS (alF cs xT) az (by rw[bA]; simp) (fun j c v al ax=>sv j c v al (by simpa using ax))).mono fun e w' ⟨aw,ai⟩=>⟨aw,ai,acZ ajb ai cF h⟩
end Go.cn

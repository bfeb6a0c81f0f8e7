/-
  The canonical machine, part X: what must hold behind code without types holds behind the code.
-/
import Derived.Test.YtboebmmklamaeaaGreatDoorWd
import GoSem.ClaimChange
import GoSem.ClaimWide
import Derived.ProofKit
set_option linter.unusedVariables false
set_option linter.unusedSimpArgs false
set_option linter.unnecessarySimpa false
namespace Go.cj
open Go
section
variable {P:Program} {G:Nat->ae}
theorem R6 {op:Op} {m:a2} (hm:lU P op=some m) (aw:i5 op=false) :m.looks=true\/m.hB=true:=by
 cases op<;>simp only[i5,Bool.true_eq_false,reduceCtorEq] at aw<;>simp only[lU] at hm<;>try (cases hm; done)
 case move=>cases hm; exact .inl rfl
 case assign=>cases hm; exact .inl rfl
 case pick=>cases hm; exact .inl rfl
 case alloc=>rw[map_some] at hm; obtain⟨_,_,rfl⟩:=hm; exact .inr rfl
 case box=>cases hm; exact .inr rfl
 case build=>simp only[bind_some,map_some] at hm; obtain⟨_,_,_,_,rfl⟩:=hm; exact .inl rfl
 case buildSlice=>simp only[bind_some,hd] at hm; obtain⟨_,_,_,_,_,_,_,rfl⟩:=hm; exact .inr rfl
 case load=>split at hm<;>cases hm<;>exact .inl rfl
 case nilCheck=>cases hm; exact .inl rfl
 case binOp=>cases hm; exact .inl rfl
 case unOp=>cases hm; exact .inl rfl
 case convert=>
  repeat' split at hm
  all_goals first | (cases hm; done) | (cases hm; exact .inl rfl)
 case makeInterface=>split at hm<;>cases hm; exact .inl rfl
 case makeFunc f a b=>cases f<;>simp only at hm<;>cases hm; exact .inl rfl
 case makeSlice=>simp only[bind_some,hd] at hm; obtain⟨_,_,_,_,_,_,_,_,_,rfl⟩:=hm; exact .inr rfl
 case slice=>rw[map_some] at hm; obtain⟨_,_,rfl⟩:=hm; exact .inl rfl
 case fieldAddr=>rw[bind_some] at hm; obtain⟨_,_,hm⟩:=hm; split at hm<;>cases hm; exact .inl rfl
 case field=>rw[bind_some] at hm; obtain⟨_,_,hm⟩:=hm; split at hm<;>cases hm<;>exact .inl rfl
 case indexAddr=>split at hm<;>cases hm<;>exact .inl rfl
 case index=>
  repeat' split at hm
  all_goals first | (cases hm; done) | (cases hm; exact .inl rfl)
 case extract=>cases hm; exact .inl rfl
 case call c=>
  split at hm
  ·rename_i b aj;rw[aj] at aw;cases b<;>simp only[Bool.true_eq_false,reduceCtorEq] at aw<;>unfold sY at hm<;>(repeat' split at hm)<;>first
    | (cases hm; done)
    | (cases hm; exact .inl rfl)
    | (rw[map_some] at hm; obtain⟨_,_,rfl⟩:=hm; exact .inl rfl)
    | (exfalso; simp only[reduceCtorEq] at *; done)
  ·rename_i f aJ;rw[aJ] at aw; cases aw
  ·cases hm
theorem R7 {op:Op} {m:a2} (hm:lU P op=some m) (aW:q3 P op=false) :m.reads=false/\m.hB=false:=by
 cases op<;>simp only[q3,Bool.true_eq_false,reduceCtorEq] at aW<;>simp only[lU] at hm<;>try (cases hm; done)
 case move=>cases hm; exact⟨rfl,rfl⟩
 case assign=>cases hm; exact⟨rfl,rfl⟩
 case pick=>cases hm; exact⟨rfl,rfl⟩
 case build=>simp only[bind_some,map_some] at hm; obtain⟨_,_,_,_,rfl⟩:=hm; exact⟨rfl,rfl⟩
 case store=>rw[map_some] at hm; obtain⟨_,_,rfl⟩:=hm; exact⟨rfl,rfl⟩
 case nilCheck=>cases hm; exact⟨rfl,rfl⟩
 case binOp=>cases hm; exact⟨rfl,rfl⟩
 case unOp=>cases hm; exact⟨rfl,rfl⟩
 case makeInterface=>split at hm<;>cases hm; exact⟨rfl,rfl⟩
 case makeFunc f a b=>cases f<;>simp only at hm<;>cases hm; exact⟨rfl,rfl⟩
 case typeAssert=>rw[map_some] at hm; obtain⟨_,_,rfl⟩:=hm; exact⟨rfl,rfl⟩
 case slice=>rw[map_some] at hm; obtain⟨_,_,rfl⟩:=hm; exact⟨rfl,rfl⟩
 case fieldAddr=>rw[bind_some] at hm; obtain⟨_,_,hm⟩:=hm; split at hm<;>cases hm; exact⟨rfl,rfl⟩
 case field=>rw[bind_some] at hm; obtain⟨_,_,hm⟩:=hm; split at hm<;>cases hm<;>exact⟨rfl,rfl⟩
 case indexAddr=>split at hm<;>cases hm<;>exact⟨rfl,rfl⟩
 case index=>
  repeat' split at hm
  all_goals first | (cases hm; done) | (cases hm; exact⟨rfl,rfl⟩)
 case extract=>cases hm; exact⟨rfl,rfl⟩
 case next it b=>cases b<;>simp only[reduceCtorEq] at hm<;>cases hm; exact⟨rfl,rfl⟩
 case panic=>cases hm; exact⟨rfl,rfl⟩
 case lookup=>split at hm<;>(try cases hm; done); rw[map_some] at hm; obtain⟨_,_,rfl⟩:=hm; exact⟨rfl,rfl⟩
 case mapUpdate=>split at hm<;>cases hm; exact⟨rfl,rfl⟩
 case insert=>split at hm<;>cases hm; exact⟨rfl,rfl⟩
 case makeMap=>split at hm<;>cases hm; exact⟨rfl,rfl⟩
 case range=>split at hm<;>cases hm; exact⟨rfl,rfl⟩
 case call c=>
  split at hm
  ·rename_i b aj;rw[aj] at aW;unfold sY at hm
   repeat' split at hm
   all_goals first
    | (cases hm; done)
    | (exfalso; simp_all; done)
    | (cases hm; exact⟨rfl,rfl⟩)
    | (simp only[bind_some,map_some] at hm; obtain⟨_,_,rfl⟩:=hm; exact⟨rfl,rfl⟩)
    | (simp only[bind_some,map_some] at hm; obtain⟨_,_,_,_,rfl⟩:=hm; exact⟨rfl,rfl⟩)
    | (simp only[bind_some,hd] at hm; obtain⟨_,_,_,_,_,_,_,rfl⟩:=hm; exact⟨rfl,rfl⟩)
    | (simp only[bind_some,hd] at hm; obtain⟨_,_,_,_,_,_,_,_,_,rfl⟩:=hm; exact⟨rfl,rfl⟩)
  ·split at hm
   ·rw[hd] at hm; obtain⟨_,rfl⟩:=hm; exact⟨rfl,rfl⟩
   ·cases hm
  ·cases hm
inductive la (P:Program) (G:Nat->ae) (s:dJ) (o:Oper) (ah:bj) (l:av) (v:ae) (l1:av) :bN->Prop
 | pure (m:a2) (aj:s.b=.cF m) (hm:m.looks=true) (ar:l1=l) (au:bR P (cT G ah) l m=some (v,l)) :la P G s o ah l v l1 (.pure s.i v)
 | new (m:a2) (cs:List ae) (aj:s.b=.cF m) (hm:m.hB=true) (ar:l1=l++[.cells cs.length cs]) :la P G s o ah l v l1 (.new s.i v cs)
 | fx (aw:i5 o.op=true) (bw:l.length<=l1.length) :la P G s o ah l v l1 (.fx s.i v (bY l1))
theorem la.idx {s:dJ} {o:Oper} {ah:bj} {l l1:av} {v:ae} {t:bN} (k:la P G s o ah l v l1 t) :t.idx=s.i:=by cases k<;>rfl
theorem la.val {s:dJ} {o:Oper} {ah:bj} {l l1:av} {v:ae} {t:bN} (k:la P G s o ah l v l1 t) :t.val=v:=by cases k<;>rfl
theorem la.next {s:dJ} {o:Oper} {ah:bj} {l l1:av} {v:ae} {t:bN} (k:la P G s o ah l v l1 t) :ob (bY l) t=bY l1:=by
 cases k with
 | pure m aj hm ar au=>rw[ar]; rfl
 | new m cs aj hm ar=>rw[ar,<-lQ]; rfl
 | fx aw _=>rfl
theorem aoS {ops:Array Oper} {s:dJ} {o:Oper} (ok:nv P ops s o) {ah:bj} (bx:jh ops ah o=some true) {l:av} {K:ae->av->Prop} (h:gS P G s.b ah l K) :
  ∃ v l1 t,la P G s o ah l v l1 t/\uB P G ops ⟨ah,bY l⟩ t/\K v l1:=by
 obtain⟨v,l1,h1,ag,aq,aK⟩:=abM ok h;have jq:i5 o.op=true->∃ v l1 t,la P G s o ah l v l1 t/\uB P G ops ⟨ah,bY l⟩ t/\K v l1:=fun aw=>⟨v,l1,_,.fx aw ag,⟨o,ok.here,bx,h1,by simpa using ag⟩,aq⟩
 cases aj:s.b with
 | cF m=>
  have hm:=ok.cF m aj;cases aw:i5 o.op with
  | true=>exact jq aw
  | false=>
   have au:=aK m aj (R6 hm aw);rcases R6 hm aw with ar | aH
   ·have:=W7 ar au;subst this;exact⟨v,l1,_,.pure m aj ar rfl au,⟨o,ok.here,bx⟩,aq⟩
   ·obtain⟨cs,mk,bg,bL,et⟩:=aly hm aH au;exact⟨v,l1,_,.new m cs aj aH et,⟨o,mk,ok.here,bx,bg,bL⟩,aq⟩
 | cV f args=>
  obtain⟨c,f1,al,_⟩:=ok.cV f args aj;exact jq (by rw[f1]; simp only[i5,al])
 | gw x args=>
  obtain⟨c,f1,al,_⟩:=ok.gw x args aj;exact jq (by rw[f1]; simp only[i5,al])
 | mx x name args=>
  obtain⟨c,f1,al,_⟩:=ok.mx x name args aj;exact jq (by rw[f1]; simp only[i5,al])
inductive iN (P:Program) (G:Nat->ae) (ops:Array Oper) :List dJ->bj->av->hi->List (bN × bj × av)->bj->av->Prop
 | nil {ah l seen}:iN P G ops [] ah l seen [] ah l
 | skip {s o r ah l seen es bZ l'}:nv P ops s o->jh ops ah o=some false->iN P G ops r (gn ah s.dst gp) l seen es bZ l'->iN P G ops (s::r) ah l seen ((.skip s.i,ah,l) ::es) bZ l'
 | step {s o r ah l v l1 t seen es bZ l'}:nv P ops s o->la P G s o ah l v l1 t->uB P G ops ⟨ah,bY l⟩ t->nC s.ht seen l1->
   iN P G ops r (gn ah s.dst v) l1 (py s.cM s.i (j6 P G s.b ah v l l1) seen) es bZ l'->iN P G ops (s::r) ah l seen ((t,ah,l) ::es) bZ l'
theorem M3 {ops:Array Oper} {K:bj->av->Prop}:∀ {s:List dJ} {ah:bj} {l:av} {seen:hi},(∀ x∈s,∃ o,nv P ops x o)->io P G s ah l seen K->∃ es bZ l',iN P G ops s ah l seen es bZ l'/\K bZ l'
 | [],ah,l,seen,_,h=>⟨[],ah,l,.nil,h⟩
 | s::r,ah,l,seen,dP,h=>by
  obtain⟨o,ok⟩:=dP s (by simp);rcases Vv ok h with ⟨bx,h⟩ | ⟨bx,h⟩
  ·obtain⟨v,l1,t,h1,ag,aq,aK⟩:=aoS ok bx h;obtain⟨es,bZ,l',bg,bL⟩:=M3 (fun x ak=>dP x (by simp[ak])) aK;exact⟨_,bZ,l',.step ok h1 ag aq bg,bL⟩
  ·obtain⟨es,bZ,l',bg,bL⟩:=M3 (fun x ak=>dP x (by simp[ak])) h;exact⟨_,bZ,l',.skip ok bx bg,bL⟩
theorem M5 {K:bj->av->Prop}:∀ {s:List dJ} {ah:bj} {l:av},(∀ x∈s,x.cM=false)->h2 P G s ah l K->io P G s ah l [] K
 | [],ah,l,_,h=>h
 | s::r,ah,l,aF,h=>by
  have mono:∀ (b:oy) (K fF:ae->av->Prop),(∀ v l,K v l->fF v l)->gS P G b ah l K->gS P G b ah l fF:=by
   intro b K fF a8 h;cases b with
   | cF m=>simp only[gS,wc] at h ⊢; obtain⟨v,h1,ag⟩:=h; exact⟨v,h1,VI a8 ag⟩
   | cV f args=>obtain⟨r,l',h1,ag,aq⟩:=h; exact⟨r,l',h1,ag,a8 _ _ aq⟩
   | gw x args=>
    simp only[gS,sS] at h ⊢;split at h
    ·obtain⟨aO,r,l',h1,ag,aq⟩:=h; exact⟨aO,r,l',h1,ag,a8 _ _ aq⟩
    ·cases h
   | mx x name args=>
    simp only[gS,sR] at h ⊢;split at h
    ·split at h
     ·obtain⟨aO,r,l',h1,ag,aq⟩:=h; exact⟨aO,r,l',h1,ag,a8 _ _ aq⟩
     ·cases h
    ·cases h
  have agv:∀ (g:Option (Option Tmp × Bool)) (p q bX eU:Prop),(p->bX)->(q->eU)->n9 ah g p q->n9 ah g bX eU:=by
   intro g p q bX eU aG bp h;unfold n9 at h ⊢;split at h
   ·exact aG h
   ·rename_i d w;simp only[pd] at h ⊢;split at h
    ·rw[zV] at h ⊢;rcases h with ⟨a,b⟩ | ⟨a,b⟩
     ·exact .inl ⟨a,aG b⟩
     ·exact .inr ⟨a,bp b⟩
    ·cases h
    ·exact bp h
   ·exact bp h
  have zm:s.cM=false:=aF s (by simp);refine agv _ _ _ _ _ (mono _ _ _ fun v l' h=>?_) (fun h=>M5 (fun x ak=>aF x (by simp[ak])) h) h;refine⟨trivial,?_⟩;rw[zm];exact M5 (fun x ak=>aF x (by simp[ak])) h
theorem la.len {s:dJ} {o:Oper} {ah:bj} {l l1:av} {v:ae} {t:bN} (k:la P G s o ah l v l1 t) :l.length<=l1.length:=by
 cases k with
 | pure m aj hm ar au=>rw[ar]; exact Nat.le_refl _
 | new m cs aj hm ar=>rw[ar]; simp
 | fx aw bw=>exact bw
theorem iN.len {ops:Array Oper} {s:List dJ} {ah bZ:bj} {l l' : av} {seen:hi} {es:List (bN × bj × av)} (h:iN P G ops s ah l seen es bZ l') :l.length<=l'.length:=by
 induction h with
 | nil=>exact Nat.le_refl _
 | skip _ _ _ aM=>exact aM
 | step _ k _ _ _ aM=>exact Nat.le_trans k.len aM
def rK (es:List (bN × bj × av)) (l' : av) (q:Nat) :av:=match es[q]? with | some x=>x.2.2 | none=>l'
theorem iN.here {ops:Array Oper} {s:List dJ} {ah bZ:bj} {l l' : av} {seen:hi} {es:List (bN × bj × av)} (h:iN P G ops s ah l seen es bZ l') :rK es l' 0=l:=by
 cases h<;>rfl
theorem iN.idx {ops:Array Oper} {s:List dJ} {ah bZ:bj} {l l' : av} {seen:hi} {es:List (bN × bj × av)} (h:iN P G ops s ah l seen es bZ l') :es.map (fun e=>e.1.idx)=s.map (·.i) :=by
 induction h with
 | nil=>rfl
 | skip _ _ _ aM=>simp only[List.map_cons,aM]; rfl
 | step _ k _ _ _ aM=>simp only[List.map_cons,aM,k.idx]
theorem iN.at {ops:Array Oper} {s:List dJ} {ah bZ:bj} {l l' : av} {seen:hi} {es:List (bN × bj × av)} (h:iN P G ops s ah l seen es bZ l') :
  (∀ (p:Nat) (e:bN × bj × av),es[p]? = some e->uB P G ops ⟨e.2.1,bY e.2.2⟩ e.1/\fR ops ⟨ah,bY l⟩ (es.map (·.1)) p=⟨e.2.1,bY e.2.2⟩)/\fR ops ⟨ah,bY l⟩ (es.map (·.1)) es.length=⟨bZ,bY l'⟩:=by
 induction h with
 | nil=>exact⟨fun p e aw=>by simp at aw,rfl⟩
 | @skip s o r ah l seen es bZ l' ok bx _ aM=>
  have mU:kw ops ⟨ah,bY l⟩ (.skip s.i)=⟨gn ah s.dst gp,bY l⟩:=by simp only[kw,uN,bN.idx,ok.here,Option.bind_some,bN.val,ob,ok.dst]
  refine⟨fun p e aw=>?_,?_⟩
  ·cases p with
   | zero=>simp only[List.getElem?_cons_zero,Option.some.injEq] at aw; subst aw; exact⟨⟨o,ok.here,bx⟩,rfl⟩
   | succ p=>
    simp only[List.getElem?_cons_succ] at aw;obtain⟨h1,ag⟩:=aM.1 p e aw;refine⟨h1,?_⟩;rw[List.map_cons,DS,mU]; exact ag
  ·rw[List.map_cons,List.length_cons,DS,mU]; exact aM.2
 | @step s o r ah l v l1 t seen es bZ l' ok k au al _ aM=>
  have mU:kw ops ⟨ah,bY l⟩ t=⟨gn ah s.dst v,bY l1⟩:=by simp only[kw,uN,k.idx,ok.here,Option.bind_some,k.val,k.next,ok.dst]
  refine⟨fun p e aw=>?_,?_⟩
  ·cases p with
   | zero=>simp only[List.getElem?_cons_zero,Option.some.injEq] at aw; subst aw; exact⟨au,rfl⟩
   | succ p=>
    simp only[List.getElem?_cons_succ] at aw;obtain⟨h1,ag⟩:=aM.1 p e aw;refine⟨h1,?_⟩;rw[List.map_cons,DS,mU]; exact ag
  ·rw[List.map_cons,List.length_cons,DS,mU]; exact aM.2
theorem iN.still {ops:Array Oper} {s:List dJ} {ah bZ:bj} {l l' : av} {seen:hi} {es:List (bN × bj × av)} (h:iN P G ops s ah l seen es bZ l') (j:Nat) (S:av->Prop)
  (nR:∀ l x,S l->S (l++x)) (aO:S l) :∀ q,q<=es.length->(∀ (p:Nat) (e:bN × bj × av),p<q->es[p]? = some e->e.1.hX=true->(j,S)∈seen/\∃ x,s[p]? = some x/\j∈x.ht)->S (rK es l' q) :=by
 have ae6:∀ {ids:List Nat} {seen:hi} {l:av},nC ids seen l->(j,S)∈seen->j∈ids->S l:=by
  intro ids seen l al hm aA
  induction seen with
  | nil=>cases hm
  | cons e r aM=>
   obtain⟨h1,ag⟩:=al;rcases List.mem_cons.1 hm with rfl | hm
   ·exact h1 (by simpa using aA)
   ·exact aM ag hm
 induction h with
 | nil=>
  intro q bp _; simp only[List.length_nil] at bp; obtain rfl:q=0:=by omega
  exact aO
 | @skip s o r ah l seen es bZ l' ok bx _ aM=>
  intro q bp wO;cases q with
  | zero=>exact aO
  | succ q=>exact aM aO q (by simpa using bp) (fun p e aG aw eQ=>by
    obtain⟨h1,x,ag,aq⟩:=wO (p+1) e (by omega) (by simpa using aw) eQ;exact⟨h1,x,by simpa using ag,aq⟩)
 | @step s o r ah l v l1 t seen es bZ l' ok k au al _ aM=>
  intro q bp wO;cases q with
  | zero=>exact aO
  | succ q=>
   have h1:S l1:=by
    cases k with
    | pure m aj hm ar _=>rw[ar]; exact aO
    | new m cs aj hm ar=>rw[ar]; exact nR _ _ aO
    | fx aw _=>
     obtain⟨h1,x,ag,aq⟩:=wO 0 _ (by omega) rfl rfl;simp only[List.getElem?_cons_zero,Option.some.injEq] at ag;subst ag;exact ae6 al h1 aq
   refine aM h1 q (by simpa using bp) (fun p e aG aw eQ=>?_);obtain⟨h1,x,ag,aq⟩:=wO (p+1) e (by omega) (by simpa using aw) eQ;refine⟨?_,x,by simpa using ag,aq⟩;unfold py;cases s.cM with
   | false=>exact h1
   | true=>exact List.mem_cons_of_mem _ h1
theorem iN.split {ops:Array Oper} {s:List dJ} {ah bZ:bj} {l l' : av} {seen:hi} {es:List (bN × bj × av)} (h:iN P G ops s ah l seen es bZ l') :∀ (p:Nat) (e:bN × bj × av),es[p]? = some e->e.1.r5=false->
  ∃ x o v l1 ub,s[p]? = some x/\nv P ops x o/\la P G x o e.2.1 e.2.2 v l1 e.1 ∧
   iN P G ops (s.drop (p+1)) (gn e.2.1 x.dst v) l1 (py x.cM x.i (j6 P G x.b e.2.1 v e.2.2 l1) ub) (es.drop (p+1)) bZ l':=by
 induction h with
 | nil=>intro p e aw; simp at aw
 | @skip s o r ah l seen es bZ l' ok bx _ aM=>
  intro p e aw fU;cases p with
  | zero=>simp only[List.getElem?_cons_zero,Option.some.injEq] at aw; subst aw; cases fU
  | succ p=>
   obtain⟨x,cC,v,l1,ub,h1,ag,aq,aK⟩:=aM p e (by simpa using aw) fU;exact⟨x,cC,v,l1,ub,by simpa using h1,ag,aq,by simpa using aK⟩
 | @step s o r ah l v l1 t seen es bZ l' ok k au al tr aM=>
  intro p e aw fU;cases p with
  | zero=>
   simp only[List.getElem?_cons_zero,Option.some.injEq] at aw; subst aw;exact⟨s,o,v,l1,seen,rfl,ok,k,by simpa using tr⟩
  | succ p=>
   obtain⟨x,cC,v,l1,ub,h1,ag,aq,aK⟩:=aM p e (by simpa using aw) fU;exact⟨x,cC,v,l1,ub,by simpa using h1,ag,aq,by simpa using aK⟩
end
section
variable {P:Program} {G:Nat->ae}
theorem XT {ms:List Nat} {ops:Array Oper}:∀ (iH done jq:List Nat),(∀ i∈iH,i<ops.size)->(mc P ms ops iH done jq).map (·.1)=iH
 | [],_,_,_=>rfl
 | i::r,done,jq,h=>by
  unfold mc;have aA:i<ops.size:=h i (by simp);rw[Array.getElem?_eq_getElem aA];simp only;split<;>simp only[List.map_cons]<;>rw[XT r _ _ fun j am=>h j (by simp[am])]
theorem Kx {ms:List Nat} {ops:Array Oper}:∀ (iH done jq:List Nat) (p i:Nat) (ht:List Nat),(∀ i∈iH,i<ops.size)->(mc P ms ops iH done jq)[p]? = some (i,ht)->
  (∃ o,ops[i]? = some o/\i5 o.op=true)->∀ j,(j∈done\/∃ eT,eT<p/\iH[eT]? = some j)->(∃ o,ops[j]? = some o/\q3 P o.op=true)->(∀ e∈jq,m8 ms e j=false)->
  (∀ (bX i3:Nat) (o:Oper),bX<=p->iH[bX]? = some i3->ops[i3]? = some o->i5 o.op=true->(bX=p\/o.guard=none)->m8 ms i3 j=false)->j∈ht
 | [],done,jq,p,i,ht,_,aG,_,_,_,_,_,_=>by simp[mc] at aG
 | x::r,done,jq,p,i,ht,lx,aG,aw,j,am,aW,Cl,w8=>by
  unfold mc at aG;have ak:x<ops.size:=lx x (by simp);rw[Array.getElem?_eq_getElem ak] at aG;have IK:ops[x]? = some ops[x] :=Array.getElem?_eq_getElem ak;simp only at aG;have aD:∀ i∈r,i<ops.size:=fun j am=>lx j (by simp[am])
  cases eQ:i5 ops[x].op with
  | true=>
   rw[eQ] at aG;simp only at aG;cases p with
   | zero=>
    simp only[List.getElem?_cons_zero,Option.some.injEq,Prod.mk.injEq] at aG;obtain⟨rfl,rfl⟩:=aG;obtain⟨o,h1,ag⟩:=aW;rcases am with am | ⟨eT,UO,_⟩
    ·refine List.mem_filter.2 ⟨am,?_⟩;simp only[h1,ag,Bool.true_and,List.all_cons,Bool.and_eq_true,List.all_eq_true];exact⟨by simp[w8 0 x ops[x] (Nat.le_refl _) (by simp) IK eQ (.inl rfl)],fun e aw=>by simp[Cl e aw]⟩
    ·omega
   | succ p=>
    simp only[List.getElem?_cons_succ] at aG;refine Kx r _ _ p i ht aD aG aw j ?_ aW ?_ ?_
    ·rcases am with am | ⟨eT,UO,am⟩
     ·exact .inl (by simp[am])
     ·cases eT with
      | zero=>simp only[List.getElem?_cons_zero,Option.some.injEq] at am; exact .inl (by simp[am])
      | succ eT=>exact .inr ⟨eT,by omega,by simpa using am⟩
    ·intro e fB;cases ay:ops[x].guard with
     | none=>
      rw[ay] at fB;rcases List.mem_cons.1 fB with rfl | fB
      ·exact w8 0 e ops[e] (by omega) (by simp) IK eQ (.inr ay)
      ·exact Cl e fB
     | some n8=>rw[ay] at fB; exact Cl e fB
    ·intro bX i3 o fD fq az uV ay;exact w8 (bX+1) i3 o (by omega) (by simpa using fq) az uV (by rcases ay with rfl | ay; exact .inl rfl; exact .inr ay)
  | false=>
   rw[eQ] at aG;simp only at aG;cases p with
   | zero=>
    simp only[List.getElem?_cons_zero,Option.some.injEq,Prod.mk.injEq] at aG;obtain⟨rfl,rfl⟩:=aG;obtain⟨o,h1,ag⟩:=aw;rw[IK] at h1; cases h1;rw[eQ] at ag; cases ag
   | succ p=>
    simp only[List.getElem?_cons_succ] at aG;refine Kx r _ _ p i ht aD aG aw j ?_ aW Cl ?_
    ·rcases am with am | ⟨eT,UO,am⟩
     ·exact .inl (by simp[am])
     ·cases eT with
      | zero=>simp only[List.getElem?_cons_zero,Option.some.injEq] at am; exact .inl (by simp[am])
      | succ eT=>exact .inr ⟨eT,by omega,by simpa using am⟩
    ·intro bX i3 o fD fq az uV ay;exact w8 (bX+1) i3 o (by omega) (by simpa using fq) az uV (by rcases ay with rfl | ay; exact .inl rfl; exact .inr ay)
theorem Sn {ms:List Nat} {ops:Array Oper}:∀ {iH:List Nat},yN ms ops iH=true->∀ (p bX i j:Nat) (o:Oper),iH[p]? = some i->iH[bX]? = some j->p<bX->ops[i]? = some o->i5 o.op=true->m8 ms j i=true
 | [],_,p,bX,i,j,o,aG,_,_,_,_=>by simp at aG
 | x::r,h,p,bX,i,j,o,aG,fD,aS,az,aw=>by
  simp only[yN,Bool.and_eq_true] at h;cases bX with
  | zero=>omega
  | succ bX=>
   simp only[List.getElem?_cons_succ] at fD;cases p with
   | zero=>
    simp only[List.getElem?_cons_zero,Option.some.injEq] at aG;subst aG;rw[az] at h;simp only[aw,Bool.not_true,Bool.false_or,List.all_eq_true] at h;exact h.1 j (List.mem_of_getElem? fD)
   | succ p=>exact Sn h.2 p bX i j o (by simpa using aG) fD (by omega) az aw
theorem Df {α iq:Type} {f:α->Option iq}:∀ {l:List α} {r:List iq},l.mapM f=some r->∀ (p:Nat) (x:iq),r[p]? = some x->∃ a,l[p]? = some a/\f a=some x
 | [],r,h,p,x,ak=>by simp at h; subst h; simp at ak
 | a::l,r,h,p,x,ak=>by
  rw[List.mapM_cons] at h;simp only[Option.bind_eq_bind,bind_some,Option.pure_def,Option.some.injEq] at h;obtain⟨b,h1,co,ag,rfl⟩:=h;cases p with
  | zero=>simp only[List.getElem?_cons_zero,Option.some.injEq] at ak; subst ak; exact⟨a,rfl,h1⟩
  | succ p=>obtain⟨en,aq,aK⟩:=Df ag p x (by simpa using ak); exact⟨en,by simpa using aq,aK⟩
theorem J3 {α iq:Type} {f:α->Option iq}:∀ {l:List α} {r:List iq},l.mapM f=some r->r.length=l.length
 | [],r,h=>by simp at h; subst h; rfl
 | a::l,r,h=>by
  rw[List.mapM_cons] at h;simp only[Option.bind_eq_bind,bind_some,Option.pure_def,Option.some.injEq] at h;obtain⟨b,h1,co,ag,rfl⟩:=h;simp[J3 ag]
theorem ahO (es:List (bN × bj × av)) (l' : av) (n q:Nat) :rK (es.drop n) l' q=rK es l' (n+q) :=by
 unfold rK; rw[List.getElem?_drop]
theorem afG {id N' : Nat} {ops:Array Oper} {ug:List dJ} (bD:∀ (i:Nat) (o:Oper),ops[i]? = some o->nI N' o.dst=true)
  (lx:Km (hr ops) ops (eW (hr ops) ops)=true) (ahN:yN (hr ops) ops (eW (hr ops) ops)=true)
  (cI:(mc P (hr ops) ops (eW (hr ops) ops) [] []).mapM (fun p=>AE P ops p.1 p.2 (((mc P (hr ops) ops (eW (hr ops) ops) [] []).flatMap (·.2)).contains p.1))=some ug)
  {ah bZ:bj} {l l' : av} {es:List (bN × bj × av)} (tr:iN P G ops ug ah l [] es bZ l') :da P G (.code (.region id ops true) N' ah (bY l) .normal bZ (bY l')) :=by
 simp only[Km,Bool.and_eq_true] at lx;obtain⟨⟨⟨⟨vC,mb⟩,oc⟩,od⟩,hD⟩:=lx;have IZ:∀ i∈eW (hr ops) ops,i<ops.size:=fun i aA=>by
  rw[List.all_eq_true] at od;simpa [Nat.blt_eq] using od i aA
 have US:(mc P (hr ops) ops (eW (hr ops) ops) [] []).map (·.1)=eW (hr ops) ops:=XT _ _ _ IZ;have CQ:∀ (p:Nat) (x:dJ),ug[p]? = some x->∃ o,nv P ops x o/\(mc P (hr ops) ops (eW (hr ops) ops) [] [])[p]? = some (x.i,x.ht) ∧
   x.cM=((mc P (hr ops) ops (eW (hr ops) ops) [] []).flatMap (·.2)).contains x.i:=fun p x ak=>by
  obtain⟨a,h1,ag⟩:=Df cI p x ak;obtain⟨o,aq,aK,bg,bL⟩:=DU ag;exact⟨o,aq,by rw[h1,aK,bg],by rw[bL,aK]⟩
 have U5:∀ (p:Nat) (x:dJ),ug[p]? = some x->(eW (hr ops) ops)[p]? = some x.i:=fun p x ak=>by
  obtain⟨o,_,h1,_⟩:=CQ p x ak;rw[<-US,List.getElem?_map,h1]; rfl
 have tl:∀ (p:Nat) (e:bN × bj × av),es[p]? = some e->∃ x,ug[p]? = some x/\x.i=e.1.idx:=fun p e aw=>by
  have:=congrArg (·[p]?) tr.idx;simp only[List.getElem?_map,aw,Option.map_some] at this;cases ak:ug[p]? with
  | none=>rw[ak] at this; cases this
  | some x=>rw[ak] at this; simp only[Option.map_some,Option.some.injEq] at this; exact⟨x,rfl,this.symm⟩
 have qq:∀ (p:Nat) (e:bN × bj × av),es[p]? = some e->(eW (hr ops) ops)[p]? = some e.1.idx:=fun p e aw=>by
  obtain⟨x,h1,ag⟩:=tl p e aw;rw[U5 p x h1,ag]
 have ez:∀ (p:Nat) (t:bN),(es.map (·.1))[p]? = some t->∃ e,es[p]? = some e/\e.1=t:=fun p t aW=>by simpa using aW
 have u9:∀ (p:Nat) (e:bN × bj × av),es[p]? = some e->e.1.hX=true->∃ o,ops[e.1.idx]? = some o/\i5 o.op=true/\(jh ops e.2.1 o=some true) :=fun p e aw eQ=>by
  have fU:e.1.r5=false:=by cases h:e.1<;>rw[h] at eQ<;>first | rfl | cases eQ
  obtain⟨x,o,v,l1,ub,h1,ag,aq,aK⟩:=tr.split p e aw fU;have xb:=(tr.at.1 p e aw).1;have fC:=aq.idx;have aQ:=ag.here;rw[<-fC] at aQ;refine⟨o,aQ,?_,?_⟩
  ·revert eQ;generalize e.1=t at aq;intro eQ;cases aq with
   | pure=>cases eQ
   | new=>cases eQ
   | fx aw _=>exact aw
  ·revert xb eQ aQ;generalize e.1=t;intro eQ xb aQ;cases t<;>first | (cases eQ; done) | skip
   obtain⟨cC,bg,bL,_⟩:=xb;simp only[bN.idx] at aQ;rw[aQ] at bg; cases bg;exact bL
 have fm:wa ops (m8 (hr ops)) (es.map (·.1)) :=by
  refine⟨afE vC,fun i aA=>?_,fun p bX t fp aG fD aw=>?_,fun p t aG=>?_,fun p bX t fp aG fD aS=>?_,fun p bX t fp aG fD aS eQ=>?_⟩
  ·rw[List.all_eq_true] at hD;have:=hD i (by simpa using aA);have hm:i∈eW (hr ops) ops:=by simpa using this
   have ie:(es.map (·.1)).map bN.idx=eW (hr ops) ops:=by
    rw[List.map_map];show es.map (fun e=>e.1.idx)=_;rw[tr.idx,<-US];apply List.ext_getElem?;intro p;rw[List.getElem?_map,List.getElem?_map];cases ak:ug[p]? with
    | none=>
     have:(mc P (hr ops) ops (eW (hr ops) ops) [] [])[p]? = none:=by
      rw[List.getElem?_eq_none_iff] at ak ⊢;rw[<-J3 cI]; exact ak
     rw[this]; rfl
    | some x=>obtain⟨o,_,h1,_⟩:=CQ p x ak; rw[h1]; rfl
   rw[<-ie] at hm;obtain⟨t,h1,ag⟩:=List.mem_map.1 hm;obtain⟨p,aG⟩:=List.getElem?_of_mem h1;exact⟨p,t,aG,ag⟩
  ·obtain⟨e,aY,a6⟩:=ez p t aG;obtain⟨eG,yV,yW⟩:=ez bX fp fD;have bt:=qq p e aY;have bE:=qq bX eG yV;rw[a6] at bt; rw[yW] at bE;rcases Nat.lt_trichotomy p bX with h | h | h
   ·exact absurd aw (Ds mb p bX _ _ bt bE h).1
   ·exact h
   ·exact absurd aw.symm (Ds mb bX p _ _ bE bt h).1
  ·obtain⟨e,aY,a6⟩:=ez p t aG;have bt:=qq p e aY;rw[a6] at bt;exact IZ _ (List.mem_of_getElem? bt)
  ·obtain⟨e,aY,a6⟩:=ez p t aG;obtain⟨eG,yV,yW⟩:=ez bX fp fD;have bt:=qq p e aY;have bE:=qq bX eG yV;rw[a6] at bt; rw[yW] at bE;exact (Ds mb p bX _ _ bt bE aS).2
  ·obtain⟨e,aY,a6⟩:=ez p t aG;obtain⟨eG,yV,yW⟩:=ez bX fp fD;obtain⟨o,dV,dK,_⟩:=u9 p e aY (by rw[a6]; exact eQ);have bt:=qq p e aY;have bE:=qq bX eG yV;rw[a6] at bt dV; rw[yW] at bE;exact Sn ahN p bX _ _ o bt bE aS dV dK
 have iz:∀ q,q<=es.length->(fR ops ⟨ah,bY l⟩ (es.map (·.1)) q).h=bY (rK es l' q) :=fun q bp=>by
  unfold rK;cases aw:es[q]? with
  | none=>
   have:q=es.length:=by rw[List.getElem?_eq_none_iff] at aw; omega
   rw[this,tr.at.2]
  | some e=>rw[(tr.at.1 q e aw).2]
 have oo:Er P G ops (m8 (hr ops)) ⟨ah,bY l⟩ (es.map (·.1)) :=by
  refine⟨fun p t aG=>?_,fun q bp p t atn aG eE=>?_⟩
  ·obtain⟨e,aY,a6⟩:=ez p t aG;obtain⟨cN,dm⟩:=tr.at.1 p e aY;rw[dm,<-a6]; exact cN
  ·obtain⟨e,aY,a6⟩:=ez p t aG;obtain⟨cN,dm⟩:=tr.at.1 p e aY;have fJ:q<=es.length:=by
    rcases bp with rfl | ⟨ao7,bp,_⟩
    ·simp
    ·obtain⟨eq,bi,_⟩:=ez q ao7 bp;exact Nat.le_of_lt (List.getElem?_eq_some_iff.1 bi).1
   rw[iz q fJ,dm];cases fU:e.1.r5 with
   | true=>rw[<-a6]; cases h:e.1<;>rw[h] at fU<;>first | trivial | cases fU
   | false=>
    obtain⟨x,o,v,l1,ub,h1,ag,aq,aK⟩:=tr.split p e aY fU;obtain⟨cC,fX,gD,aip⟩:=CQ p x h1;have aiX:cC=o:=by have a:=fX.here; have b:=ag.here; rw[a] at b; exact Option.some.inj b
    subst aiX;have ask:q3 P cC.op=true->∀ (bX:Nat) (eG:bN × bj × av),bX<q - (p+1)->(es.drop (p+1))[bX]? = some eG->eG.1.hX=true->
      (x.i,j6 P G x.b e.2.1 v e.2.2 l1)∈py x.cM x.i (j6 P G x.b e.2.1 v e.2.2 l1) ub/\∃ y,(ug.drop (p+1))[bX]? = some y/\x.i∈y.ht:=by
     intro aW bX eG fD fB uV;rw[List.getElem?_drop] at fB;obtain⟨y,cc,ch⟩:=tl _ eG fB;obtain⟨qM,dz,f2,_⟩:=CQ _ y cc;obtain⟨alS,ii,akh,atO⟩:=u9 _ eG fB uV;have ec:x.i∈y.ht:=by
      refine Kx _ _ _ _ _ _ IZ f2 ⟨alS,by rw[ch]; exact ii,akh⟩ x.i (.inr ⟨p,by omega,U5 p x h1⟩) ⟨cC,ag.here,aW⟩ (fun e aw=>by cases aw) ?_;intro qN Vk Dl atj ah9 UL BT ay
      -- what is at p'' was carried out
      have aS:qN<es.length:=by
       have:=(List.getElem?_eq_some_iff.1 fB).1;omega
      have ie:es[qN]? = some es[qN] :=List.getElem?_eq_getElem aS;have jU:=qq _ _ ie;rw[ah9] at jU;have oW:Vk=es[qN].1.idx:=Option.some.inj jU;have agT:es[qN].1.hX=true:=by
       cases zB:es[qN].1.r5 with
       | true=>
        exfalso;rcases ay with rfl | ay
        ·rw[ie] at fB;cases fB;cases h:es[p+1+bX].1<;>rw[h] at uV zB<;>first | (cases zB; done) | (cases uV; done)
        ·have xb:=(tr.at.1 _ _ ie).1;cases h:es[qN].1<;>rw[h] at zB xb oW<;>first | (cases zB; done) | skip
         obtain⟨oc,i8,iF⟩:=xb;simp only[bN.idx] at oW;rw[<-oW,UL] at i8; cases i8;simp[jh,ay] at iF
       | false=>
        obtain⟨AQ,oc,v3,ek,awq,i8,iF,tP,_⟩:=tr.split _ _ ie zB;have aia:=tP.idx;have T6:=iF.here;rw[<-aia,<-oW,UL] at T6; cases T6;revert tP;generalize es[qN].1=t3;intro tP;cases tP with
        | pure m aj hm _ _=>
         exfalso;have al:=iF.cF m aj;have:i5 Dl.op=false:=by
          revert al hm;cases Dl.op<;>simp only[lU]<;>intro hm al<;>first | rfl | (exfalso; revert al hm; done) | skip
          case store=>rw[map_some] at al; obtain⟨_,_,rfl⟩:=al; cases hm
          case call c=>
           split at al
           ·rename_i b aj;unfold i5;simp only[aj];unfold sY at al
            repeat' split at al
            all_goals first
             | rfl
             | (cases al; done)
             | (cases al; cases hm; done)
             | (simp only[bind_some,map_some] at al; obtain⟨_,_,rfl⟩:=al; cases hm; done)
             | (simp only[bind_some,map_some] at al; obtain⟨_,_,_,_,rfl⟩:=al; cases hm; done)
             | (simp only[bind_some,hd] at al; obtain⟨_,_,_,_,_,_,_,rfl⟩:=al; cases hm; done)
             | (simp only[bind_some,hd] at al; obtain⟨_,_,_,_,_,_,_,_,_,rfl⟩:=al; cases hm; done)
           ·split at al
            ·rw[hd] at al; obtain⟨_,rfl⟩:=al; cases hm
            ·cases al
           ·cases al
          case next it b=>(cases b<;>simp only[reduceCtorEq] at al<;>cases al<;>cases hm)
          case lookup=>split at al<;>(try cases al; done); rw[map_some] at al; obtain⟨_,_,rfl⟩:=al; cases hm
          case mapUpdate=>split at al<;>cases al; cases hm
          case insert=>split at al<;>cases al; cases hm
          case panic=>(cases al; cases hm)
          case makeMap=>split at al<;>cases al; cases hm
          case range=>split at al<;>cases al; cases hm
          case typeAssert=>rw[map_some] at al; obtain⟨_,_,rfl⟩:=al; cases hm
          all_goals (cases al)
         rw[this] at BT; cases BT
        | new m cs aj hm _=>
         exfalso;have al:=iF.cF m aj;have:i5 Dl.op=false:=by
          revert al hm;cases Dl.op<;>simp only[lU]<;>intro hm al<;>first | rfl | (exfalso; revert al hm; done) | skip
          case store=>rw[map_some] at al; obtain⟨_,_,rfl⟩:=al; cases hm
          case panic=>(cases al; cases hm)
          case call c=>
           split at al
           ·rename_i b aj;unfold i5;simp only[aj];unfold sY at al
            repeat' split at al
            all_goals first
             | rfl
             | (cases al; done)
             | (cases al; cases hm; done)
             | (simp only[bind_some,map_some] at al; obtain⟨_,_,rfl⟩:=al; cases hm; done)
             | (simp only[bind_some,map_some] at al; obtain⟨_,_,_,_,rfl⟩:=al; cases hm; done)
             | (simp only[bind_some,hd] at al; obtain⟨_,_,_,_,_,_,_,rfl⟩:=al; cases hm; done)
             | (simp only[bind_some,hd] at al; obtain⟨_,_,_,_,_,_,_,_,_,rfl⟩:=al; cases hm; done)
           ·split at al
            ·rw[hd] at al; obtain⟨_,rfl⟩:=al; cases hm
            ·cases al
           ·cases al
          case next it b=>(cases b<;>simp only[reduceCtorEq] at al<;>cases al<;>cases hm)
          case lookup=>split at al<;>(try cases al; done); rw[map_some] at al; obtain⟨_,_,rfl⟩:=al; cases hm
          case mapUpdate=>split at al<;>cases al; cases hm
          case insert=>split at al<;>cases al; cases hm
          case makeMap=>split at al<;>cases al; cases hm
          case range=>split at al<;>cases al; cases hm
          case typeAssert=>rw[map_some] at al; obtain⟨_,_,rfl⟩:=al; cases hm
          all_goals (cases al)
         rw[this] at BT; cases BT
        | fx _ _=>rfl
      have:=eE qN es[qN].1 (by omega) (by simp[ie]) agT;rw[oW,ag.here |> fun _=>(aq.idx).symm,a6];exact this
     refine⟨?_,y,by rw[List.getElem?_drop]; exact cc,ec⟩;have:x.cM=true:=by
      rw[aip];simp only[List.contains_iff_mem,List.mem_flatMap];exact⟨(y.i,y.ht),List.mem_of_getElem? f2,ec⟩
     rw[this];exact List.mem_cons_self
    have BK:q3 P cC.op=true->(∀ l x6,j6 P G x.b e.2.1 v e.2.2 l1 l->j6 P G x.b e.2.1 v e.2.2 l1 (l++x6))->j6 P G x.b e.2.1 v e.2.2 l1 l1->j6 P G x.b e.2.1 v e.2.2 l1 (rK es l' q) :=by
     intro aW nR aO;have:=aK.still x.i _ nR aO (q - (p+1)) (by simp only[List.length_drop]; omega) (ask aW)
     rwa [ahO,show p+1+(q - (p+1))=q by omega] at this
    rw[<-a6];revert aq BK ask a6;generalize e.1=q0;intro a6 aq ask BK;cases aq with
    | fx=>trivial
    | pure m aj hm ar au=>
     intro mb kU;rw[ag.here] at kU; cases kU;have al:=ag.cF m aj;cases aD:m.reads with
     | false=>exact Dj al (alh hm aD au)
     | true=>
      have aW:q3 P cC.op=true:=by
       cases h:q3 P cC.op with
       | true=>rfl
       | false=>rw[(R7 al h).1] at aD; cases aD
      have vi:m.hB=false:=by cases m<;>first | rfl | cases aD
      have cI:∀ ce,j6 P G x.b e.2.1 v e.2.2 l1 ce<->bR P (cT G e.2.1) ce m=some (v,ce) :=fun ce=>by rw[aj]; simp only[j6,vi]
      have:=BK aW (fun ce x6 h=>by rw[cI] at h ⊢; exact alg hm h) (by rw[cI,ar]; exact au);rw[cI] at this;exact Dj al this
    | new m cs aj hm ar=>
     have al:=ag.cF m aj;have aW:q3 P cC.op=true:=by
      cases h:q3 P cC.op with
      | true=>rfl
      | false=>rw[(R7 al h).2] at hm; cases hm
     have cI:∀ ce:av,j6 P G x.b e.2.1 v e.2.2 l1 ce<->ce[e.2.2.length]? = some (.cells cs.length cs) :=fun ce=>by
      rw[aj,ar]; simp only[j6,hm]; rw[List.getElem?_append_right (Nat.le_refl _)]; simp
     have:=BK aW (fun ce x6 h=>by rw[cI] at h ⊢; rw[List.getElem?_append_left (fi h)]; exact h) (by rw[cI,ar,List.getElem?_append_right (Nat.le_refl _)]; simp);rw[cI] at this;show (bY (rK es l' q)).f (bY e.2.2).n=_;rw[np,AV,this]
 have:=da.afD (id:=id) fm bD oo;rw[List.length_map,tr.at.2] at this;exact this
end
section
variable {P:Program} {G:Nat->ae}
theorem Ol {ops:Array Oper} {f:Nat->Option dJ}:∀ {is:List Nat} {s:List dJ} {os:List Oper},(∀ i x,f i=some x->∃ o,nv P ops x o/\x.i=i)->is.mapM f=some s->is.map (fun i=>ops[i]?)=os.map some->v2 P ops s os
 | [],s,os,aJ,h,az=>by
  simp at h; subst h;cases os with
  | nil=>exact .nil
  | cons=>simp at az
 | i::is,s,os,aJ,h,az=>by
  rw[List.mapM_cons] at h;simp only[Option.bind_eq_bind,bind_some,Option.pure_def,Option.some.injEq] at h;obtain⟨x,h1,fo,ag,rfl⟩:=h;cases os with
  | nil=>simp at az
  | cons o os=>
   simp only[List.map_cons,List.cons.injEq] at az;obtain⟨cC,ok,aA⟩:=aJ i x h1;have:cC=o:=by have:=ok.here; rw[aA,az.1] at this; exact (Option.some.inj this).symm
   subst this;exact .cons ok (Ol aJ ag az.2)
theorem afh {N N' id:Nat} (fj:N<=N') {ops:Array Oper} {draw:Bool} {c:aT} (al:He P N ops draw=some c) {ah:bj} {l:av} {K:f9} (h:run P G c ah l K) :
  ∃ e bZ l',da P G (.code (.region id ops draw) N' ah (bY l) e bZ (bY l'))/\l.length<=l'.length/\K e bZ l':=by
 unfold He at al;split at al
 ·cases al
 ·rename_i nQ;have bD:∀ (i:Nat) (o:Oper),ops[i]? = some o->nI N' o.dst=true:=fun i o az=>by
   rw[List.all_eq_true] at nQ;have:=nQ o (by simpa using Array.mem_of_getElem? az);unfold nI at this ⊢;split at this
   ·rename_i d _; exact decide_eq_true (Nat.lt_of_lt_of_le (of_decide_eq_true this) fj)
   ·rfl
  split at al
  ·rw[map_some] at al;obtain⟨s,h1,rfl⟩:=al;have eS:v2 P ops s ops.toList:=by
    refine Ol (fun i x ak=>?_) h1 ?_
    ·obtain⟨o,ag,aq,_⟩:=DU ak; exact⟨o,ag,aq⟩
    ·apply List.ext_getElem?;intro p;rw[List.getElem?_map,List.getElem?_map];by_cases aG:p<ops.size
     ·rw[List.getElem?_range aG]; simp[aG]
     ·rw[List.getElem?_eq_none (by simp; omega),List.getElem?_eq_none (by simp; omega)]; rfl
   obtain⟨bZ,l',ag,aq,aK⟩:=M7 bD eS h;exact⟨.normal,bZ,l',.region ag,aq,aK⟩
  ·simp only at al;split at al
   ·cases al
   ·rename_i Ic;simp only[Bool.and_eq_true] at Ic;split at al
    ·cases al
    ·rename_i s au;have dP:∀ x∈s,∃ o,nv P ops x o:=fun x ak=>by
      obtain⟨p,aG⟩:=List.getElem?_of_mem ak;obtain⟨a,_,ag⟩:=Df au p x aG;obtain⟨o,aq,_⟩:=DU ag;exact⟨o,aq⟩
     have fin:io P G s ah l [] (K .normal)->∃ e bZ l',da P G (.code (.region id ops true) N' ah (bY l) e bZ (bY l'))/\l.length<=l'.length/\K e bZ l':=fun h=>by
      obtain⟨es,bZ,l',h1,ag⟩:=M3 dP h;exact⟨.normal,bZ,l',afG bD Ic.1 Ic.2 au h1,h1.len,ag⟩
     split at al
     ·rename_i wO;cases al;refine fin (M5 (fun x ak=>?_) h)
      obtain⟨p,aG⟩:=List.getElem?_of_mem ak;obtain⟨a,_,ag⟩:=Df au p x aG;obtain⟨o,_,_,_,aq⟩:=DU ag;rw[aq,wO]; rfl
     ·cases al;exact fin h
theorem an9 {N N' : Nat} (fj:N<=N') :∀ (code:Code) (c:aT),comp P N code=some c->∀ (ah:bj) (l:av) (K:f9),run P G c ah l K->
  ∃ e bZ l',da P G (.code code N' ah (bY l) e bZ (bY l'))/\l.length<=l'.length/\K e bZ l':=by
 intro code
 induction code with
 | skip=>intro c al ah l K h; cases al; exact⟨_,_,_,.skip _ _ _,Nat.le_refl _,h⟩
 | label n=>intro c al ah l K h; cases al; exact⟨_,_,_,.label _ _ _ _,Nat.le_refl _,h⟩
 | ret=>intro c al ah l K h; cases al; exact⟨_,_,_,.ret _ _ _,Nat.le_refl _,h⟩
 | exit id=>intro c al ah l K h; cases al; exact⟨_,_,_,.exit _ _ _ _,Nat.le_refl _,h⟩
 | region id ops draw=>intro c al ah l K h; exact afh fj al h
 | seq a b Jt Ju=>
  intro c al ah l K h;have mk:∀ (wk sT:aT),comp P N a=some wk->comp P N b=some sT->run P G wk ah l (l9 (fun ah l=>run P G sT ah l K) K)->∃ e bZ l',da P G (.code (.seq a b) N' ah (bY l) e bZ (bY l'))/\l.length<=l'.length/\K e bZ l':=by
   intro wk sT aI aj h;obtain⟨e,hI,l1,h1,ag,aq⟩:=Jt wk aI ah l _ h;cases e with
   | normal=>
    obtain⟨e,N0,ce,aK,bg,bL⟩:=Ju sT aj hI l1 K aq;exact⟨e,N0,ce,.abz h1 aK,Nat.le_trans ag bg,bL⟩
   | exit id=>exact⟨_,hI,l1,.Nf h1 (by intro h; cases h),ag,aq⟩
   | ret=>exact⟨_,hI,l1,.Nf h1 (by intro h; cases h),ag,aq⟩
  simp only[comp] at al;split at al
  ·rename_i bu aI aj;cases al;exact mk _ _ aI aj h
  ·rename_i en _ aI aj;cases al;refine mk _ _ aI aj ?_;have:l9 (fun ah l=>run P G .skip ah l K) K=K:=by
    funext e ah l;cases e<;>rfl
   rw[this]; exact h
  ·rename_i en bu _ _ aI aj;cases al;exact mk _ _ aI aj h
  ·cases al
 | cond c x y Jx Jy=>
  intro Bh al ah l K h;simp only[comp] at al;split at al
  ·rename_i Ed AR ak aP;cases al;simp only[run,vv] at h;split at h
   ·rename_i b aj;rw[zV] at h;rcases h with ⟨rfl,h⟩ | ⟨rfl,h⟩
    ·obtain⟨e,hI,l1,h1,ag,aq⟩:=Jx Ed ak ah l K h;exact⟨e,hI,l1,.cond aj h1,ag,aq⟩
    ·obtain⟨e,hI,l1,h1,ag,aq⟩:=Jy AR aP ah l K h;exact⟨e,hI,l1,.cond aj h1,ag,aq⟩
   ·cases h
  ·cases al
 | block id c aM=>
  intro Bh al ah l K h;simp only[comp,map_some] at al;obtain⟨c',h1,rfl⟩:=al;obtain⟨e,hI,l1,ag,aq,aK⟩:=aM c' h1 ah l _ h;cases e with
  | normal=>exact⟨_,hI,l1,.A7 ag (by intro h; cases h),aq,aK⟩
  | ret=>exact⟨_,hI,l1,.A7 ag (by intro h; cases h),aq,aK⟩
  | exit qx=>
   simp only[pc] at aK;split at aK
   ·rename_i aj;obtain rfl:=i9 aj;exact⟨_,hI,l1,.OS ag,aq,aK⟩
   ·rename_i aj;exact⟨_,hI,l1,.A7 ag (by intro h; cases h; rw[Nat.beq_refl] at aj; cases aj),aq,aK⟩
 | loop c aM=>
  intro Bh al ah l K h;simp only[comp,map_some] at al;obtain⟨c',h1,rfl⟩:=al;obtain⟨n,h⟩:=h
  induction n generalizing ah l with
  | zero=>cases h
  | succ n Jw=>
   obtain⟨e,hI,l1,ag,aq,aK⟩:=aM c' h1 ah l _ h;cases e with
   | normal=>
    obtain⟨e,N0,ce,bg,bL,et⟩:=Jw hI l1 aK;exact⟨e,N0,ce,.xt ag bg,Nat.le_trans aq bL,et⟩
   | exit id=>exact⟨_,hI,l1,.JX ag (by intro h; cases h),aq,aK⟩
   | ret=>exact⟨_,hI,l1,.JX ag (by intro h; cases h),aq,aK⟩
 | scope c aM=>
  intro Bh al ah l K h;obtain⟨e,hI,l1,ag,aq,aK⟩:=aM Bh al ah l K h;exact⟨e,hI,l1,.scope ag,aq,aK⟩
 | _=>intro c al; cases al
def R5 (P:Program) :ResultVar->Option a2
 | .tmp t=>some (.ap (.tmp t))
 | .cell a t=>lU P (.load t (.tmp a))
def bn (P:Program) (f:FuncId) :Option (List a2) :=match P.funcs[f]? with
 | some fn=>fn.results.toList.mapM (R5 P)
 | none=>none
def l8 (P:Program) (G:Nat->ae) (K:ae->av->Prop) (ah:bj) (l:av) :List a2->List ae->Prop
 | [],acc=>K (uj acc) l
 | m::r,acc=>W (bR P (cT G ah) l m) (c:=⟨fun x=>l8 P G K ah l r (acc++[x.1])⟩)
def JK (P:Program) (G:Nat->ae) (ms:List a2) (K:ae->av->Prop) :f9:=fun e ah l=>match e with
 | .exit _=>False
 | .normal=>l8 P G K ah l ms []
 | .ret=>l8 P G K ah l ms []
def A4 (args:List ae) :bj:=fun t=>args.getD t gp
theorem Vw {K:ae->av->Prop} {ah:bj} {l:av}:∀ {lJ:List ResultVar} {ms:List a2} {acc:List ae},lJ.mapM (R5 P)=some ms->l8 P G K ah l ms acc->∃ vs,t2 P (bY l) ah lJ=some vs/\K (uj (acc++vs)) l
 | [],ms,acc,hm,h=>by simp at hm; subst hm; exact⟨[],rfl,by simpa [l8] using h⟩
 | r::lJ,ms,acc,hm,h=>by
  rw[List.mapM_cons] at hm;simp only[Option.bind_eq_bind,bind_some,Option.pure_def,Option.some.injEq] at hm;obtain⟨m,h1,avJ,ag,rfl⟩:=hm;simp only[l8,wc] at h;obtain⟨⟨v,l1⟩,aq,aK⟩:=h;obtain⟨vs,bg,bL⟩:=Vw ag aK;refine⟨v::vs,?_,by simpa using bL⟩;have:xS P (bY l) ah r=some v:=by
   cases r with
   | tmp t=>cases h1; simp only[bR,Option.some.injEq,Prod.mk.injEq] at aq; rw[<-aq.1]; rfl
   | cell a t=>
    have er:lU P (.load t (.tmp a))=some m:=h1;have:=Dj er aq;simp only[cW] at this;unfold xS;show qD P (bY l) t (cT G ah (.tmp a))=some v;cases ar:qD P (bY l) t (cT G ah (.tmp a)) with
    | none=>rw[ar] at this; cases this
    | some x=>rw[ar] at this; simp only[Option.map_some,Option.some.injEq,nu.val.injEq] at this; rw[this.1]
  simp only[t2,this,bg]
theorem bH {f:FuncId} {c:aT} {ms:List a2} (al:bm P f=some c) (aD:bn P f=some ms) {args:List ae} {l:av} {K:uy}
  (h:run P G c (A4 args) l (JK P G ms K.k)) :dp P G f args l (c:=K) :=by
 unfold bm at al;unfold bn at aD;split at al
 ·rename_i fn iX;split at al
  ·rename_i body aj;rw[iX] at aD;obtain⟨e,bZ,l',h1,ag,aq⟩:=an9 (N':=args.length+(fn.ntmps - args.length)) (by omega) body c al _ _ _ h;have fin:(e=.normal\/e=.ret)->l8 P G K.k bZ l' ms []->dp P G f args l (c:=K) :=fun aw aq=>by
    obtain⟨vs,aK,bg⟩:=Vw aD aq;exact⟨uj vs,l',.inline iX aj h1 aw (by simp only[DK,aK]; rfl),ag,by simpa using bg⟩
   cases e with
   | normal=>exact fin (.inl rfl) aq
   | ret=>exact fin (.inr rfl) aq
   | exit id=>cases aq
  ·cases al
 ·cases al
theorem abL {b:oy} {ah:bj} {l:av} {K fF:ae->av->Prop} (a8:∀ v l,K v l->fF v l) (h:gS P G b ah l K) :gS P G b ah l fF:=by
 cases b with
 | cF m=>simp only[gS,wc] at h ⊢; obtain⟨v,h1,ag⟩:=h; exact⟨v,h1,VI a8 ag⟩
 | cV f args=>obtain⟨r,l',h1,ag,aq⟩:=h; exact⟨r,l',h1,ag,a8 _ _ aq⟩
 | gw x args=>
  simp only[gS,sS] at h ⊢;split at h
  ·obtain⟨aO,r,l',h1,ag,aq⟩:=h; exact⟨aO,r,l',h1,ag,a8 _ _ aq⟩
  ·cases h
 | mx x name args=>
  simp only[gS,sR] at h ⊢;split at h
  ·split at h
   ·obtain⟨aO,r,l',h1,ag,aq⟩:=h; exact⟨aO,r,l',h1,ag,a8 _ _ aq⟩
   ·cases h
  ·cases h
theorem Vu {ah:bj} {g:Option (Option Tmp × Bool)} {p q bX eU:Prop} (aG:p->bX) (bp:q->eU) (h:n9 ah g p q) :n9 ah g bX eU:=by
 unfold n9 at h ⊢;split at h
 ·exact aG h
 ·simp only[pd] at h ⊢;split at h
  ·rw[zV] at h ⊢;rcases h with ⟨a,b⟩ | ⟨a,b⟩
   ·exact .inl ⟨a,aG b⟩
   ·exact .inr ⟨a,bp b⟩
  ·cases h
  ·exact bp h
 ·exact bp h
theorem M6 {K fF:bj->av->Prop} (a8:∀ ah l,K ah l->fF ah l) :∀ {s:List dJ} {ah:bj} {l:av},h2 P G s ah l K->h2 P G s ah l fF
 | [],_,_,h=>a8 _ _ h
 | s::r,_,_,h=>Vu (abL fun _ _ h=>M6 a8 h) (fun h=>M6 a8 h) h
theorem M2 {K fF:bj->av->Prop} (a8:∀ ah l,K ah l->fF ah l) :∀ {s:List dJ} {ah:bj} {l:av} {seen:hi},io P G s ah l seen K->io P G s ah l seen fF
 | [],_,_,_,h=>a8 _ _ h
 | s::r,_,_,_,h=>Vu (abL fun _ _ h=>⟨h.1,M2 a8 h.2⟩) (fun h=>M2 a8 h) h
theorem zW {k k' : bj->av->Prop} {K fF:f9} (aF:∀ ah l,k ah l->k' ah l) (a8:∀ e ah l,K e ah l->fF e ah l) :∀ e ah l,l9 k K e ah l->l9 k' fF e ah l:=by
 intro e ah l h; cases e<;>first | exact aF _ _ h | exact a8 _ _ _ h
theorem Na:∀ {c:aT} {ah:bj} {l:av} {K fF:f9},(∀ e ah l,K e ah l->fF e ah l)->run P G c ah l K->run P G c ah l fF:=by
 intro c
 induction c with
 | skip=>intro ah l K fF a8 h; exact a8 _ _ _ h
 | ret=>intro ah l K fF a8 h; exact a8 _ _ _ h
 | exit id=>intro ah l K fF a8 h; exact a8 _ _ _ h
 | ai s=>intro ah l K fF a8 h; exact M6 (a8 _) h
 | gy s=>intro ah l K fF a8 h; exact M2 (a8 _) h
 | seq a b Jt Ju=>intro ah l K fF a8 h; exact Jt (zW (fun ah l h=>Ju a8 h) a8) h
 | cond c x y Jx Jy=>
  intro ah l K fF a8 h;simp only[run,vv] at h ⊢;split at h
  ·rw[zV] at h ⊢;rcases h with ⟨a,b⟩ | ⟨a,b⟩
   ·exact .inl ⟨a,Jx a8 b⟩
   ·exact .inr ⟨a,Jy a8 b⟩
  ·cases h
 | block id c aM=>
  intro ah l K fF a8 h;refine aM (fun e ah l h=>?_) h;cases e with
  | normal=>exact a8 _ _ _ h
  | ret=>exact a8 _ _ _ h
  | exit qx=>
   simp only[pc] at h ⊢;split at h
   ·exact a8 _ _ _ h
   ·exact a8 _ _ _ h
 | loop c aM=>
  intro ah l K fF a8 h;obtain⟨n,h⟩:=h;refine⟨n,?_⟩
  induction n generalizing ah l with
  | zero=>cases h
  | succ n Jw=>exact aM (zW (fun ah l h=>Jw h) a8) h
theorem dp.mono {f:FuncId} {args:List ae} {l:av} {K fF:uy} (a8:∀ v l,K.k v l->fF.k v l) (h:dp P G f args l (c:=K)) :dp P G f args l (c:=fF) :=by
 obtain⟨r,l',h1,ag,aq⟩:=h; exact⟨r,l',h1,ag,a8 _ _ aq⟩
theorem xu {c:aT} {K:Ei} (I:Nat->bj->av->Prop) (step:∀ n ah l,I n ah l->run P G c ah l (l9 (fun ah l=>∃ f3,f3<n/\I f3 ah l) K.k)) :∀ n ah l,I n ah l->AX (run P G c) ah l (c:=K) :=by
 intro n
 induction n using Nat.strongRecOn with
 | _ n aM=>
  intro ah l h
  -- fuel n+1 is enough
  have yY:∀ (m n:Nat),n<=m->∀ ah l,I n ah l->xt (run P G c) (m+1) ah l K.k:=by
   intro m
   induction m with
   | zero=>
    intro n aH ah l h;obtain rfl:n=0:=by omega
    exact Na (zW (fun ah l ⟨f3,h1,_⟩=>by omega) (fun _ _ _ h=>h)) (step 0 ah l h)
   | succ m Jv=>
    intro n aH ah l h;exact Na (zW (fun ah l ⟨f3,h1,ag⟩=>Jv f3 (by omega) ah l ag) (fun _ _ _ h=>h)) (step n ah l h)
  exact⟨n+1,yY n n (Nat.le_refl _) ah l h⟩
theorem c0 {c:aT} {K:Ei} (n:Nat) (I:Nat->bj->av->Prop) (step:∀ k ah l,k<=n->I k ah l->run P G c ah l (l9 (fun ah l=>k<n/\I (k+1) ah l) K.k)) {ah:bj} {l:av} (h:I 0 ah l) :AX (run P G c) ah l (c:=K) :=by
 refine xu (fun m ah l=>∃ k,k+m=n/\I k ah l) (fun m ah l ⟨k,aF,h⟩=>?_) n ah l ⟨0,by omega,h⟩;exact Na (zW (fun ah l ⟨h1,ag⟩=>⟨m - 1,by omega,k+1,by omega,ag⟩) (fun _ _ _ h=>h)) (step k ah l (by omega) h)
end
section
variable {P:Program} {G:Nat->ae}
@[simp ↓] theorem awp (ah:bj) (l:av) (K:f9) :run P G .skip ah l K=K .normal ah l:=id rfl
@[simp ↓] theorem awn (ah:bj) (l:av) (K:f9) :run P G .ret ah l K=K .ret ah l:=id rfl
@[simp ↓] theorem awk (i:Nat) (ah:bj) (l:av) (K:f9) :run P G (.exit i) ah l K=K (.exit i) ah l:=id rfl
@[simp ↓] theorem awm (s:List dJ) (ah:bj) (l:av) (K:f9) :run P G (.ai s) ah l K=h2 P G s ah l (K .normal) :=id rfl
@[simp ↓] theorem awj (s:List dJ) (ah:bj) (l:av) (K:f9) :run P G (.gy s) ah l K=io P G s ah l [] (K .normal) :=id rfl
@[simp ↓] theorem awo (a b:aT) (ah:bj) (l:av) (K:f9) :run P G (.seq a b) ah l K=run P G a ah l (l9 (fun ah l=>run P G b ah l K) K) :=id rfl
@[simp ↓] theorem awi (c:Operand) (x y:aT) (ah:bj) (l:av) (K:f9) :run P G (.cond c x y) ah l K=vv (cT G ah c) (c:=⟨run P G x ah l K,run P G y ah l K⟩) :=id rfl
@[simp ↓] theorem awh (i:Nat) (c:aT) (ah:bj) (l:av) (K:f9) :run P G (.block i c) ah l K=run P G c ah l (pc i K) :=id rfl
@[simp ↓] theorem awl (c:aT) (ah:bj) (l:av) (K:f9) :run P G (.loop c) ah l K=AX (run P G c) ah l (c:=⟨K⟩) :=id rfl
@[simp ↓] theorem at7 (k:bj->av->Prop) (K:f9) (ah:bj) (l:av) :l9 k K .normal ah l=k ah l:=id rfl
@[simp ↓] theorem at6 (k:bj->av->Prop) (K:f9) (i:Nat) (ah:bj) (l:av) :l9 k K (.exit i) ah l=K (.exit i) ah l:=id rfl
@[simp ↓] theorem at8 (k:bj->av->Prop) (K:f9) (ah:bj) (l:av) :l9 k K .ret ah l=K .ret ah l:=id rfl
@[simp ↓] theorem atQ (i:Nat) (K:f9) (ah:bj) (l:av) :pc i K .normal ah l=K .normal ah l:=id rfl
@[simp ↓] theorem atR (i:Nat) (K:f9) (ah:bj) (l:av) :pc i K .ret ah l=K .ret ah l:=id rfl
def tM (p:Prop) [Decidable p] [c:yc] :Prop:=if p then c.p else c.q
@[simp ↓] theorem atP (i j:Nat) (K:f9) (ah:bj) (l:av) :pc i K (.exit j) ah l=tM (j=i) (c:=⟨K .normal ah l,K (.exit j) ah l⟩) :=by
 unfold pc tM;by_cases h:j=i
 ·simp only[qI h,if_pos h]
 ·simp only[ij h,if_neg h]
@[simp ↓] theorem atW (i:Nat) (x y:Prop) :tM (i=i) (c:=⟨x,y⟩)=x:=by simp[tM]
@[simp] theorem atX (x y:Prop) :tM True (c:=⟨x,y⟩)=x:=by simp[tM]
@[simp] theorem atV (x y:Prop) :tM False (c:=⟨x,y⟩)=y:=by simp[tM]
@[simp ↓] theorem atT (ms:List a2) (K:ae->av->Prop) (ah:bj) (l:av) :JK P G ms K .normal ah l=l8 P G K ah l ms [] :=id rfl
@[simp ↓] theorem atU (ms:List a2) (K:ae->av->Prop) (ah:bj) (l:av) :JK P G ms K .ret ah l=l8 P G K ah l ms [] :=id rfl
@[simp ↓] theorem at5 (K:ae->av->Prop) (ah:bj) (l:av) (acc:List ae) :l8 P G K ah l [] acc=K (uj acc) l:=id rfl
@[simp ↓] theorem at4 (K:ae->av->Prop) (ah:bj) (l:av) (m:a2) (r:List a2) (acc:List ae) :l8 P G K ah l (m::r) acc=W (bR P (cT G ah) l m) (c:=⟨fun x=>l8 P G K ah l r (acc++[x.1])⟩) :=id rfl
@[simp] theorem awF (v:ae) :uj [v]=v:=id rfl
@[simp] theorem awG (v w:ae) (r:List ae) :uj (v::w::r)=.bP (v::w::r) :=id rfl
@[simp ↓] theorem awg (ah:bj) (l:av) (K:bj->av->Prop) :h2 P G [] ah l K=K ah l:=id rfl
@[simp ↓] theorem awf (i:Nat) (dst:Option Tmp) (m:a2) (c:List Nat) (k:Bool) (r:List dJ) (ah:bj) (l:av) (K:bj->av->Prop) :
  h2 P G (⟨i,dst,none,.cF m,c,k⟩::r) ah l K=W (bR P (cT G ah) l m) (c:=⟨fun x=>dR m x.1 x.2 fun v l'=>h2 P G r (gn ah dst v) l' K⟩) :=id rfl
@[simp ↓] theorem awb (i:Nat) (dst:Option Tmp) (f:FuncId) (args:List Operand) (c:List Nat) (k:Bool) (r:List dJ) (ah:bj) (l:av) (K:bj->av->Prop) :
  h2 P G (⟨i,dst,none,.cV f args,c,k⟩::r) ah l K=dp P G f (args.map (cT G ah)) l (c:=⟨fun v l'=>h2 P G r (gn ah dst v) l' K⟩) :=id rfl
@[simp ↓] theorem awd (i:Nat) (dst:Option Tmp) (x:Operand) (args:List Operand) (c:List Nat) (k:Bool) (r:List dJ) (ah:bj) (l:av) (K:bj->av->Prop) :
  h2 P G (⟨i,dst,none,.gw x args,c,k⟩::r) ah l K=sS P G (cT G ah x) (args.map (cT G ah)) l (c:=⟨fun v l'=>h2 P G r (gn ah dst v) l' K⟩) :=id rfl
@[simp ↓] theorem awc (i:Nat) (dst:Option Tmp) (x:Operand) (name:String) (args:List Operand) (c:List Nat) (k:Bool) (r:List dJ) (ah:bj) (l:av) (K:bj->av->Prop) :
  h2 P G (⟨i,dst,none,.mx x name args,c,k⟩::r) ah l K=sR P G name (cT G ah x) (args.map (cT G ah)) l (c:=⟨fun v l'=>h2 P G r (gn ah dst v) l' K⟩) :=id rfl
@[simp ↓] theorem arq (name:String) (t:TypeId) (v:ae) (args:List ae) (l:av) (c:uy) :
  sR P G name (.fK t v) args l (c:=c)=(match vA P t name with | some g=>iU P g=true/\dp P G g (v::args) l (c:=c) | none=>False) :=id rfl
@[simp ↓] theorem awe (i:Nat) (dst:Option Tmp) (d:Tmp) (w:Bool) (b:oy) (c:List Nat) (k:Bool) (r:List dJ) (ah:bj) (l:av) (K:bj->av->Prop) :
  h2 P G (⟨i,dst,some (some d,w),b,c,k⟩::r) ah l K=pd (ah d) w (c:=⟨h2 P G (⟨i,dst,none,b,c,k⟩::r) ah l K,h2 P G r (gn ah dst gp) l K⟩) :=id rfl
@[simp ↓] theorem awa (ah:bj) (l:av) (seen:hi) (K:bj->av->Prop) :io P G [] ah l seen K=K ah l:=id rfl
@[simp ↓] theorem av9 (i:Nat) (dst:Option Tmp) (m:a2) (c:List Nat) (k:Bool) (r:List dJ) (ah:bj) (l:av) (seen:hi) (K:bj->av->Prop) :
  io P G (⟨i,dst,none,.cF m,c,k⟩::r) ah l seen K=W (bR P (cT G ah) l m) (c:=⟨fun x=>dR m x.1 x.2 fun v l'=>nC c seen l'/\io P G r (gn ah dst v) l' (py k i (j6 P G (.cF m) ah v l l') seen) K⟩) :=id rfl
@[simp ↓] theorem av6 (i:Nat) (dst:Option Tmp) (f:FuncId) (args:List Operand) (c:List Nat) (k:Bool) (r:List dJ) (ah:bj) (l:av) (seen:hi) (K:bj->av->Prop) :
  io P G (⟨i,dst,none,.cV f args,c,k⟩::r) ah l seen K=dp P G f (args.map (cT G ah)) l (c:=⟨fun v l'=>nC c seen l'/\io P G r (gn ah dst v) l' (py k i (fun _=>True) seen) K⟩) :=id rfl
@[simp ↓] theorem av7 (i:Nat) (dst:Option Tmp) (x:Operand) (args:List Operand) (c:List Nat) (k:Bool) (r:List dJ) (ah:bj) (l:av) (seen:hi) (K:bj->av->Prop) :
  io P G (⟨i,dst,none,.gw x args,c,k⟩::r) ah l seen K=sS P G (cT G ah x) (args.map (cT G ah)) l (c:=⟨fun v l'=>nC c seen l'/\io P G r (gn ah dst v) l' (py k i (fun _=>True) seen) K⟩) :=id rfl
@[simp ↓] theorem av8 (i:Nat) (dst:Option Tmp) (d:Tmp) (w:Bool) (b:oy) (c:List Nat) (k:Bool) (r:List dJ) (ah:bj) (l:av) (seen:hi) (K:bj->av->Prop) :
  io P G (⟨i,dst,some (some d,w),b,c,k⟩::r) ah l seen K=pd (ah d) w (c:=⟨io P G (⟨i,dst,none,b,c,k⟩::r) ah l seen K,io P G r (gn ah dst gp) l seen K⟩) :=id rfl
@[simp] theorem arM (ids:List Nat) (l:av) :nC ids [] l=True:=id rfl
@[simp] theorem arL (ids:List Nat) (e:Nat × (av->Prop)) (r:hi) (l:av) :nC ids (e::r) l=((ids.contains e.1=true->e.2 l)/\nC ids r l) :=id rfl
@[simp] theorem aws (i:Nat) (p:av->Prop) (s:hi) :py true i p s=(i,p) ::s:=id rfl
@[simp] theorem awr (i:Nat) (p:av->Prop) (s:hi) :py false i p s=s:=id rfl
@[simp] theorem awy (m:a2) (ah:bj) (v:ae) (l l' l1:av) :j6 P G (.cF m) ah v l l' l1=(match m.hB with | true=>l1[l.length]? = l'[l.length]? | false=>bR P (cT G ah) l1 m=some (v,l1)) :=id rfl
@[simp ↓] theorem auI (x:Operand) (v:ae) (l:av) (K:ae->av->Prop) :dR (.ap x) v l K=K v l:=id rfl
@[simp ↓] theorem auL (c a b:Operand) (v:ae) (l:av) (K:ae->av->Prop) :dR (.pick c a b) v l K=K v l:=id rfl
@[simp ↓] theorem at9 (z:List ae) (v:ae) (l:av) (K:ae->av->Prop) :dR (.alloc z) v l K=K v l:=id rfl
@[simp ↓] theorem aue (x:Operand) (v:ae) (l:av) (K:ae->av->Prop) :dR (.box x) v l K=K v l:=id rfl
@[simp ↓] theorem aud (z:List ae) (cy:List (Nat × Nat × Operand)) (v:ae) (l:av) (K:ae->av->Prop) :dR (.dW z cy) v l K=K v l:=id rfl
@[simp ↓] theorem auf (z:Nat) (zero:List ae) (n:Nat) (cy:List (Nat × Operand)) (v:ae) (l:av) (K:ae->av->Prop) :dR (.cL z zero n cy) v l K=K v l:=id rfl
@[simp ↓] theorem auw (a:Operand) (v:ae) (l:av) (K:ae->av->Prop) :dR (.ld1 a) v l K=K v l:=id rfl
@[simp ↓] theorem aux (n:Nat) (a:Operand) (v:ae) (l:av) (K:ae->av->Prop) :dR (.aX n a) v l K=K v l:=id rfl
@[simp ↓] theorem auO (n:Nat) (a x:Operand) (v:ae) (l:av) (K:ae->av->Prop) :dR (.st n a x) v l K=K v l:=id rfl
@[simp ↓] theorem auJ (x:Operand) (v:ae) (l:av) (K:ae->av->Prop) :dR (.lG x) v l K=K v l:=id rfl
@[simp ↓] theorem auc (o:BinOp) (t:TypeId) (x y:Operand) (v:ae) (l:av) (K:ae->av->Prop) :dR (.bin o t x y) v l K=K v l:=id rfl
@[simp ↓] theorem auQ (o:UnOp) (x:Operand) (v:ae) (l:av) (K:ae->av->Prop) :dR (.un o x) v l K=K v l:=id rfl
@[simp ↓] theorem aui (k:IntKind) (x:Operand) (v:ae) (l:av) (K:ae->av->Prop) :dR (.ct k x) v l K=K v l:=id rfl
@[simp ↓] theorem aun (x:Operand) (v:ae) (l:av) (K:ae->av->Prop) :dR (.wt x) v l K=K v l:=id rfl
@[simp ↓] theorem auh (x:Operand) (v:ae) (l:av) (K:ae->av->Prop) :dR (.rq x) v l K=K v l:=id rfl
@[simp ↓] theorem aum (x:Operand) (v:ae) (l:av) (K:ae->av->Prop) :dR (.pY x) v l K=K v l:=id rfl
@[simp ↓] theorem auE (t:TypeId) (x:Operand) (v:ae) (l:av) (K:ae->av->Prop) :dR (.se t x) v l K=K v l:=id rfl
@[simp ↓] theorem auP (t:TypeId) (z:ae) (ok:Bool) (x:Operand) (v:ae) (l:av) (K:ae->av->Prop) :dR (.xW t z ok x) v l K=K v l:=id rfl
@[simp ↓] theorem auD (f:FuncId) (a b:List Operand) (v:ae) (l:av) (K:ae->av->Prop) :dR (.pm f a b) v l K=K v l:=id rfl
@[simp ↓] theorem auG (z b:Nat) (zero:List ae) (x y:Operand) (v:ae) (l:av) (K:ae->av->Prop) :dR (.kZ z b zero x y) v l K=K v l:=id rfl
@[simp ↓] theorem auN (c6:iu) (x:Operand) (cP aA cB:Option Operand) (v:ae) (l:av) (K:ae->av->Prop) :dR (.slice c6 x cP aA cB) v l K=K v l:=id rfl
@[simp ↓] theorem aup (n:Nat) (x:Operand) (v:ae) (l:av) (K:ae->av->Prop) :dR (.aN n x) v l K=K v l:=id rfl
@[simp ↓] theorem auq (n:Nat) (x:Operand) (v:ae) (l:av) (K:ae->av->Prop) :dR (.wE n x) v l K=K v l:=id rfl
@[simp ↓] theorem aur (n m:Nat) (x:Operand) (v:ae) (l:av) (K:ae->av->Prop) :dR (.wF n m x) v l K=K v l:=id rfl
@[simp ↓] theorem aus (c6:iu) (x y:Operand) (v:ae) (l:av) (K:ae->av->Prop) :dR (.bf c6 x y) v l K=K v l:=id rfl
@[simp ↓] theorem aut (n z:Nat) (x y:Operand) (v:ae) (l:av) (K:ae->av->Prop) :dR (.vt n z x y) v l K=K v l:=id rfl
@[simp ↓] theorem auu (n z:Nat) (x y:Operand) (v:ae) (l:av) (K:ae->av->Prop) :dR (.zR n z x y) v l K=K v l:=id rfl
@[simp ↓] theorem auv (x y:Operand) (v:ae) (l:av) (K:ae->av->Prop) :dR (.pb x y) v l K=K v l:=id rfl
@[simp ↓] theorem auo (x:Operand) (n:Nat) (v:ae) (l:av) (K:ae->av->Prop) :dR (.ext x n) v l K=K v l:=id rfl
@[simp ↓] theorem auy (c6:iu) (x:Operand) (v:ae) (l:av) (K:ae->av->Prop) :dR (.len c6 x) v l K=K v l:=id rfl
@[simp ↓] theorem aug (c6:iu) (x:Operand) (v:ae) (l:av) (K:ae->av->Prop) :dR (.cap c6 x) v l K=K v l:=id rfl
@[simp ↓] theorem aub (z b:Nat) (zero:List ae) (x y:Operand) (v:ae) (l:av) (K:ae->av->Prop) :dR (.pQ z b zero x y) v l K=K v l:=id rfl
@[simp ↓] theorem aul (z:Nat) (x y:Operand) (v:ae) (l:av) (K:ae->av->Prop) :dR (.s2 z x y) v l K=K v l:=id rfl
@[simp ↓] theorem auj (zero:List ae) (x:Operand) (v:ae) (l:av) (K:ae->av->Prop) :dR (.oH zero x) v l K=K v l:=id rfl
@[simp ↓] theorem auC (x y:Operand) (v:ae) (l:av) (K:ae->av->Prop) :dR (.min x y) v l K=K v l:=id rfl
@[simp ↓] theorem auB (x y:Operand) (v:ae) (l:av) (K:ae->av->Prop) :dR (.max x y) v l K=K v l:=id rfl
@[simp ↓] theorem aua (z b:Nat) (x y:Operand) (v:ae) (l:av) (K:ae->av->Prop) :dR (.app z b x y) v l K=dM v l (c:=⟨K⟩) :=id rfl
theorem dM.cM {v:ae} {l:av} {K:ae->av->Prop} (h:K v l) :dM v l (c:=⟨K⟩) :=.inl h
@[simp] theorem atH (a:Operand) :(a2.ld1 a).hB=false:=id rfl
@[simp] theorem atI (n:Nat) (a:Operand) :(a2.aX n a).hB=false:=id rfl
@[simp] theorem atE (k:IntKind) (a:Operand) :(a2.ct k a).hB=false:=id rfl
@[simp] theorem atG (a:Operand) :(a2.wt a).hB=false:=id rfl
@[simp] theorem atD (a:Operand) :(a2.rq a).hB=false:=id rfl
@[simp] theorem atF (a:Operand) :(a2.pY a).hB=false:=id rfl
@[simp] theorem atA (z:List ae) :(a2.alloc z).hB=true:=id rfl
@[simp] theorem atB (a:Operand) :(a2.box a).hB=true:=id rfl
@[simp] theorem atC (z:Nat) (zero:List ae) (n:Nat) (cy:List (Nat × Operand)) :(a2.cL z zero n cy).hB=true:=id rfl
@[simp] theorem atJ (z b:Nat) (zero:List ae) (x y:Operand) :(a2.kZ z b zero x y).hB=true:=id rfl
@[simp] theorem avX (l l' : av) (x:Option ae) (v:ae) :(dg l x=some (v,l'))=(x=some v/\l'=l) :=propext ft
@[simp ↓] theorem aqH {α:Type} (x:α) (k:α->Prop) :W (some x) (c:=⟨k⟩)=k x:=id rfl
@[simp ↓] theorem aqG (l:av) (o:Option ae) (k:ae × av->Prop) :W (dg l o) (c:=⟨k⟩)=W o (c:=⟨fun v=>k (v,l)⟩) :=by unfold W dg; cases o<;>rfl
@[simp ↓] theorem aqF {α iq:Type} (o:Option α) (f:α->iq) (k:iq->Prop) :W (o.map f) (c:=⟨k⟩)=W o (c:=⟨fun v=>k (f v)⟩) :=by unfold W; cases o<;>rfl
@[simp ↓] theorem aqE {α:Type} (p:Prop) [Decidable p] (x:α) (k:α->Prop) :W (if p then some x else none) (c:=⟨k⟩)=(p/\k x) :=by unfold W; by_cases h:p<;>simp[h]
@[simp ↓] theorem atS (b:Bool) (p q:Prop) :vv (.bool b) (c:=⟨p,q⟩)=pe b (c:=⟨p,q⟩) :=id rfl
@[simp ↓] theorem at3 (p q:Prop) :pe true (c:=⟨p,q⟩)=p:=id rfl
@[simp ↓] theorem at2 (p q:Prop) :pe false (c:=⟨p,q⟩)=q:=id rfl
@[simp ↓] theorem atZ (b:Bool) (p q:Prop) :pd (.bool b) true (c:=⟨p,q⟩)=pe b (c:=⟨p,q⟩) :=by cases b<;>rfl
@[simp ↓] theorem atY (b:Bool) (p q:Prop) :pd (.bool b) false (c:=⟨p,q⟩)=pe b (c:=⟨q,p⟩) :=by cases b<;>rfl
@[simp ↓] theorem at0 (w:Bool) (p q:Prop) :pd gp w (c:=⟨p,q⟩)=q:=id rfl
@[simp ↓] theorem at1 (w:Bool) (p q:Prop) :pd (.bP []) w (c:=⟨p,q⟩)=q:=id rfl
theorem qB {b:Bool} {p q:Prop} (h1:b=true->p) (ag:b=false->q) :pe b (c:=⟨p,q⟩) :=by cases b; exact ag rfl; exact h1 rfl
@[simp ↓] theorem avZ (ah:bj) (d:Tmp) (v:ae) :gn ah (some d) v=bM ah d v:=id rfl
@[simp ↓] theorem avY (ah:bj) (v:ae) :gn ah none v=ah:=id rfl
@[simp] theorem asq {α:Type} (s:Nat->α) (d:Nat) (v:α) (t:Nat) :bM s d v t=if t=d then v else s t:=id rfl
@[simp] theorem aqJ (args:List ae) (t:Nat) :A4 args t=args.getD t gp:=id rfl
@[simp] theorem ase (ah:bj) (t:Tmp) :cT G ah (.tmp t)=ah t:=id rfl
@[simp] theorem ar5 (ah:bj) (f:FuncId) :cT G ah (.func f)=.fn f [] [] :=id rfl
@[simp] theorem ar6 (ah:bj) (g:Nat) :cT G ah (.global g)=G g:=id rfl
@[simp] theorem ar7 (ah:bj) (k:IntKind) (n:Int) :cT G ah (.const (.int k n))=.int k n:=id rfl
@[simp] theorem ar4 (ah:bj) (b:Bool) :cT G ah (.const (.bool b))=.bool b:=id rfl
@[simp] theorem asd (ah:bj) (s:ByteArray) :cT G ah (.const (.string s))=.str s.data.toList:=id rfl
@[simp] theorem asc (ah:bj) :cT G ah (.const (.slice none 0 0))=.aZ:=id rfl
@[simp] theorem asb (ah:bj) :cT G ah (.const (.pointer none))=.h0:=id rfl
@[simp] theorem asa (ah:bj) :cT G ah (.const (.map none))=.gG:=id rfl
@[simp] theorem ar8 (ah:bj) :cT G ah (.const .nilFunc)=.hC:=id rfl
@[simp] theorem ar9 (ah:bj) :cT G ah (.const .nilIface)=.hZ:=id rfl
@[simp] theorem asf (ah:bj) :cT G ah (.const (.tuple #[]))=.bP [] :=id rfl
variable (aB:Operand->ae) (l:av)
@[simp ↓] theorem avz (x:Operand) :bR P aB l (.ap x)=some (aB x,l) :=id rfl
@[simp ↓] theorem avC (c a b:Operand) :bR P aB l (.pick c a b)=dg l (Ah (aB c) (aB a) (aB b)) :=id rfl
@[simp ↓] theorem au0 (z:List ae) :bR P aB l (.alloc z)=some (.ptr l.length 0 z.length,l++[.cells z.length z]) :=id rfl
@[simp ↓] theorem au5 (x:Operand) :bR P aB l (.box x)=(aB x).cells.map fun cs=>(.ptr l.length 0 cs.length,l++[.cells cs.length cs]) :=id rfl
@[simp ↓] theorem au4 (zero:List ae) (cy:List (Nat × Nat × Operand)) :bR P aB l (.dW zero cy)=dg l ((nA zero (cy.map fun p=>(p.1,p.2.1,aB p.2.2))).map .aV) :=id rfl
@[simp ↓] theorem au6 (z:Nat) (zero:List ae) (len:Nat) (cy:List (Nat × Operand)) :bR P aB l (.cL z zero len cy)=(gB (fun i=>some (i*z,z)) (dd zero len) (cy.map fun p=>(p.1,aB p.2))).map fun cs=>(.ao z l.length 0 len len (len*z),l++[.cells (len*z) cs]) :=id rfl
@[simp ↓] theorem avn (a:Operand) :bR P aB l (.ld1 a)=dg l ((d1 l (aB a)).bind fun x=>x.1[x.2]?) :=id rfl
@[simp ↓] theorem avo (n:Nat) (a:Operand) :bR P aB l (.aX n a)=dg l ((d1 l (aB a)).bind fun x=>qO n x.1 x.2) :=id rfl
@[simp ↓] theorem avF (n:Nat) (a x:Operand) :bR P aB l (.st n a x)=(je n l (aB a) (aB x)).map fun l'=>(gp,l') :=id rfl
@[simp ↓] theorem avA (x:Operand) :bR P aB l (.lG x)=dg l (vB (aB x)) :=id rfl
@[simp ↓] theorem au3 (o:BinOp) (t:TypeId) (x y:Operand) :bR P aB l (.bin o t x y)=dg l (fw P o t (aB x) (aB y)) :=id rfl
@[simp ↓] theorem avH (o:UnOp) (x:Operand) :bR P aB l (.un o x)=dg l (ot o (aB x)) :=id rfl
@[simp ↓] theorem au9 (k:IntKind) (x:Operand) :bR P aB l (.ct k x)=dg l (yB k (aB x)) :=id rfl
@[simp ↓] theorem ave (x:Operand) :bR P aB l (.wt x)=dg l (Bs (aB x)) :=id rfl
@[simp ↓] theorem au8 (x:Operand) :bR P aB l (.rq x)=dg l (sU l (aB x)) :=id rfl
@[simp ↓] theorem avd (x:Operand) :bR P aB l (.pY x)=dg l (s3 (aB x)) :=id rfl
@[simp ↓] theorem avv (t:TypeId) (x:Operand) :bR P aB l (.se t x)=some (.fK t (aB x),l) :=id rfl
@[simp ↓] theorem avG (t:TypeId) (z:ae) (ok:Bool) (x:Operand) :bR P aB l (.xW t z ok x)=dg l (xX t z ok (aB x)) :=id rfl
@[simp ↓] theorem avu (f:FuncId) (a b:List Operand) :bR P aB l (.pm f a b)=some (.fn f (a.map aB) (b.map aB),l) :=id rfl
@[simp ↓] theorem avx (z by_:Nat) (zero:List ae) (a c:Operand) :bR P aB l (.kZ z by_ zero a c)=po z by_ zero l (aB a) (aB c) :=id rfl
@[simp ↓] theorem avE (c6:iu) (x:Operand) (cP aA cB:Option Operand) :bR P aB l (.slice c6 x cP aA cB)=dg l (fu c6 (aB x) (cP.map aB) (aA.map aB) (cB.map aB)) :=id rfl
@[simp ↓] theorem avg (off:Nat) (x:Operand) :bR P aB l (.aN off x)=dg l (lS (aB x) off) :=id rfl
@[simp ↓] theorem avh (off:Nat) (x:Operand) :bR P aB l (.wE off x)=dg l (yT off (aB x)) :=id rfl
@[simp ↓] theorem avi (n off:Nat) (x:Operand) :bR P aB l (.wF n off x)=dg l (wG n off (aB x)) :=id rfl
@[simp ↓] theorem avj (c6:iu) (x i:Operand) :bR P aB l (.bf c6 x i)=dg l (cU c6 (aB x) (aB i)) :=id rfl
@[simp ↓] theorem avk (n z:Nat) (x i:Operand) :bR P aB l (.vt n z x i)=dg l (zS n z (aB x) (aB i)) :=id rfl
@[simp ↓] theorem avl (n z:Nat) (x i:Operand) :bR P aB l (.zR n z x i)=dg l (zT n z (aB x) (aB i)) :=id rfl
@[simp ↓] theorem avm (x i:Operand) :bR P aB l (.pb x i)=dg l (vu (aB x) (aB i)) :=id rfl
@[simp ↓] theorem avf (x:Operand) (i:Nat) :bR P aB l (.ext x i)=dg l (yS (aB x) i) :=id rfl
@[simp ↓] theorem avp (c6:iu) (x:Operand) :bR P aB l (.len c6 x)=dg l (db c6 (aB x)) :=id rfl
@[simp ↓] theorem au7 (c6:iu) (x:Operand) :bR P aB l (.cap c6 x)=dg l (rp c6 (aB x)) :=id rfl
@[simp ↓] theorem au1 (z by_:Nat) (s x:Operand) :bR P aB l (.app z by_ s x)=iR l z by_ (aB s) (aB x) :=id rfl
@[simp ↓] theorem au2 (z by_:Nat) (zero:List ae) (s x:Operand) :bR P aB l (.pQ z by_ zero s x)=oF l z by_ zero (aB s) (aB x) :=id rfl
@[simp ↓] theorem avc (z:Nat) (d x:Operand) :bR P aB l (.s2 z d x)=ws z l (aB d) (aB x) :=id rfl
@[simp ↓] theorem ava (zero:List ae) (x:Operand) :bR P aB l (.oH zero x)=(pW zero l (aB x)).map fun l'=>(.bP [],l') :=id rfl
@[simp ↓] theorem avt (x y:Operand) :bR P aB l (.min x y)=dg l (xw (aB x) (aB y)) :=id rfl
@[simp ↓] theorem avs (x y:Operand) :bR P aB l (.max x y)=dg l (sd (aB x) (aB y)) :=id rfl
@[simp] theorem avV (t:Bool) (a b:ae) :Ah (.bool t) a b=some (if t=true then a else b) :=id rfl
@[simp] theorem RP (cs:List ae) :(ae.aV cs).cells=some cs:=id rfl
@[simp] theorem arB (k:IntKind) (n:Int) :(ae.int k n).cells=some [.int k n] :=id rfl
@[simp] theorem ary (b:Bool) :(ae.bool b).cells=some [.bool b] :=id rfl
@[simp] theorem arK (s:List UInt8) :(ae.str s).cells=some [.str s] :=id rfl
@[simp] theorem arG:ae.aZ.cells=some [.aZ] :=id rfl
@[simp] theorem arF:ae.h0.cells=some [.h0] :=id rfl
@[simp] theorem arD:ae.hC.cells=some [.hC] :=id rfl
@[simp] theorem arE:ae.gG.cells=some [.gG] :=id rfl
@[simp] theorem arI (z:Nat) (es:List (List ae)) :(ae.bW z es).cells=some [.bW z es] :=id rfl
@[simp] theorem arJ (z b o n c s:Nat) :(ae.ao z b o n c s).cells=some [.ao z b o n c s] :=id rfl
@[simp] theorem arH (b o s:Nat) :(ae.ptr b o s).cells=some [.ptr b o s] :=id rfl
@[simp] theorem arA (f:FuncId) (a b:List ae) :(ae.fn f a b).cells=some [.fn f a b] :=id rfl
@[simp] theorem arC (b:Nat) :(ae.mp b).cells=some [.mp b] :=id rfl
@[simp] theorem arw (b off sz k:Nat) :lS (.ptr b off sz) k=some (.ptr b (off+k) sz) :=id rfl
@[simp] theorem arx (cs:List ae) (off k:Nat) :lS (.cp cs off) k=some (.cp cs (off+k)) :=id rfl
@[simp] theorem avO (b o s:Nat) :vB (.ptr b o s)=some (.ptr b o s) :=id rfl
@[simp] theorem avP (cs:List ae) (o:Nat) :vB (.cp cs o)=some (.cp cs o) :=id rfl
@[simp] theorem avN (f:FuncId) (a b:List ae) :vB (.fn f a b)=some (.fn f a b) :=id rfl
def k2 (x:Option bv) (off sz:Nat) :Option (List ae × Nat) :=match x with
 | some (.cells n cs)=>if n=sz then some (cs,off) else none
 | _=>none
@[simp] theorem av1 (b off sz:Nat) :d1 l (.ptr b off sz)=k2 l[b]? off sz:=by
 unfold d1 k2; rfl
@[simp] theorem av0 (n:Nat) (cs:List ae) (off sz:Nat) :k2 (some (.cells n cs)) off sz=if n=sz then some (cs,off) else none:=id rfl
@[simp] theorem av2 (cs:List ae) (off:Nat) :d1 l (.cp cs off)=some (cs,off) :=id rfl
def Nr (n:Nat) (l:av) (b off sz:Nat) (vs:List ae) (x:Option bv) :Option av:=match x with
 | some (.cells m cs)=>if m=sz/\vs.length=n/\off+n<=m then some (l.set b (.cells m (bU cs off vs))) else none
 | _=>none
@[simp] theorem abK (n b off sz:Nat) (v:ae) :je n l (.ptr b off sz) v=v.cells.bind fun vs=>Nr n l b off sz vs l[b]?:=by
 unfold je Nr;cases v.cells<;>rfl
@[simp] theorem aoP (n b off sz:Nat) (vs:List ae) (m:Nat) (cs:List ae) :Nr n l b off sz vs (some (.cells m cs))=if m=sz/\vs.length=n/\off+n<=m then some (l.set b (.cells m (bU cs off vs))) else none:=id rfl
@[simp] theorem avU (n:Nat) (cs:List ae) (off:Nat) :qO n cs off=if off+n<=cs.length then some (.aV ((cs.drop off).take n)) else none:=id rfl
@[simp] theorem awx (a:ae) (cs vs:List ae) (off:Nat) :bU (a::cs) (off+1) vs=a::bU cs off vs:=by
 simp only[bU,List.take_succ_cons,List.cons_append,show off+1+vs.length=(off+vs.length)+1 by omega,List.drop_succ_cons]
@[simp] theorem aoH (a v:ae) (cs vs:List ae) :bU (a::cs) 0 (v::vs)=v::bU cs 0 vs:=by simp[bU]
@[simp] theorem aoJ (cs:List ae) :bU cs 0 []=cs:=by simp[bU]
@[simp] theorem aww (vs:List ae) :bU [] 0 vs=vs:=by simp[bU]
@[simp] theorem aq1 (zero:List ae) :nA zero []=some zero:=id rfl
theorem adX (zero:List ae) (off size:Nat) (v:ae) (r:List (Nat × Nat × ae)) :nA zero ((off,size,v) ::r)=v.cells.bind fun vs=>if vs.length=size/\off+size<=zero.length then nA (bU zero off vs) r else none:=by
 rw[nA]; cases v.cells<;>rfl
attribute [simp] adX
@[simp] theorem asj (jL:Nat->Option (Nat × Nat)) (zero:List ae) :gB jL zero []=some zero:=id rfl
@[simp] theorem asi (jL:Nat->Option (Nat × Nat)) (zero:List ae) (i:Nat) (v:ae) (r:List (Nat × ae)) :gB jL zero ((i,v) ::r)=(jL i).bind fun q=>v.cells.bind fun vs=>if vs.length=q.2/\q.1+q.2<=zero.length then gB jL (bU zero q.1 vs) r else none:=by
 rw[gB];cases jL i with
 | none=>rfl
 | some q=>cases v.cells<;>rfl
@[simp] theorem av4 (zero:List ae) :dd zero 0=[] :=id rfl
@[simp] theorem av5 (zero:List ae) (n:Nat) :dd zero (n+1)=zero++dd zero n:=id rfl
@[simp] theorem aqU (o:BinOp) (t:TypeId) (k:IntKind) (a:Int) (k' : IntKind) (b:Int) :fw P o t (.int k a) (.int k' b)=cn o k a k' b:=id rfl
@[simp] theorem aqZ (o:BinOp) (t:TypeId) (a b:List UInt8) :fw P o t (.str a) (.str b)=oG o a b:=id rfl
@[simp] theorem aqW (k:IntKind) (a b:Int) :cn .lss k a k b=some (.bool (decide (a<b))) :=by simp[cn]
@[simp] theorem aqV (k:IntKind) (a b:Int) :cn .leq k a k b=some (.bool (decide (a<=b))) :=by simp[cn]
@[simp] theorem aqT (k:IntKind) (a b:Int) :cn .gtr k a k b=some (.bool (decide (b<a))) :=by simp[cn]
@[simp] theorem aqS (k:IntKind) (a b:Int) :cn .geq k a k b=some (.bool (decide (b<=a))) :=by simp[cn]
@[simp] theorem aqR (k:IntKind) (a b:Int) :cn .eql k a k b=some (.bool (decide (a=b))) :=by
 have:(a == b)=decide (a=b) :=by by_cases h:a=b<;>simp[h]
 simp[cn,this]
@[simp] theorem aqY (k:IntKind) (a b:Int) :cn .neq k a k b=some (.bool (!decide (a=b))) :=by
 have:(a != b)=!decide (a=b) :=by by_cases h:a=b<;>simp[h]
 simp[cn,this]
@[simp] theorem aqQ (k:IntKind) (a b:Int) :cn .add k a k b=some (.int k (k.wrap (a+b))) :=by simp[cn]
@[simp] theorem aq0 (k:IntKind) (a b:Int) :cn .sub k a k b=some (.int k (k.wrap (a - b))) :=by simp[cn]
@[simp] theorem aqX (k:IntKind) (a b:Int) :cn .mul k a k b=some (.int k (k.wrap (a*b))) :=by simp[cn]
@[simp] theorem awO (b:Bool) :ot .not (.bool b)=some (.bool (!b)) :=id rfl
@[simp] theorem awN (k:IntKind) (n:Int) :ot .neg (.int k n)=some (.int k (k.wrap (0 - n))) :=id rfl
@[simp] theorem arN (k k' : IntKind) (n:Int) :yB k (.int k' n)=some (.int k (k.wrap n)) :=id rfl
@[simp] theorem atw (z c9:Nat) (es:List (List ae)) (k:IntKind) (i:Int) :cU (.ao z) (.bW c9 es) (.int k i)=if z=c9/\0<=i then (es[i.toNat]?).map fun cs=>.cp cs 0 else none:=id rfl
@[simp] theorem atx (z c9 b off len cap sz:Nat) (k:IntKind) (i:Int) :cU (.ao z) (.ao c9 b off len cap sz) (.int k i)=if z=c9/\0<=i/\i<len then some (.ptr b (off+i.toNat*z) sz) else none:=id rfl
@[simp] theorem atv (n z:Nat) (x:ae) (k:IntKind) (i:Int) :cU (.arr n z) x (.int k i)=if 0<=i/\i<n then lS x (i.toNat*z) else none:=id rfl
@[simp] theorem auV (z:Nat) :db (.ao z) .aZ=some (.int .i64 0) :=id rfl
@[simp] theorem auX (z c9 b o n c s:Nat) :db (.ao z) (.ao c9 b o n c s)=some (.int .i64 n) :=id rfl
@[simp] theorem auW (z c9:Nat) (es:List (List ae)) :db (.ao z) (.bW c9 es)=some (.int .i64 es.length) :=id rfl
@[simp] theorem auY (s:List UInt8) :db .str (.str s)=some (.int .i64 s.length) :=id rfl
@[simp] theorem auU (n z:Nat) (x:ae) :db (.arr n z) x=some (.int .i64 n) :=id rfl
@[simp] theorem asg (vs:List ae) (i:Nat) :yS (.bP vs) i=vs[i]?:=id rfl
@[simp] theorem asl (cs:List ae) (off:Nat) :yT off (.aV cs)=cs[off]?:=id rfl
@[simp] theorem asm (n off:Nat) (cs:List ae) :wG n off (.aV cs)=qO n cs off:=id rfl
end
section
variable {P:Program} {G:Nat->ae}
inductive Rd (l:av) :ae->ae->Prop
 | same (c:ae) (h:c.closed=true) :Rd l c c
 | aV (cs cs' : List ae) (ar:cs'.length=cs.length) (h:∀ (j:Nat) (c c' : ae),cs[j]? = some c->cs'[j]? = some c'->Rd l c c') :Rd l (.aV cs) (.aV cs')
 | bP (cs cs' : List ae) (ar:cs'.length=cs.length) (h:∀ (j:Nat) (c c' : ae),cs[j]? = some c->cs'[j]? = some c'->Rd l c c') :Rd l (.bP cs) (.bP cs')
 | ao (z b off len cap sz:Nat) (cs:List ae) (es:List (List ae)) (aj:l[b]? = some (.cells sz cs)) (ar:es.length=len) (aC:∀ e∈es,e.length=z)
   (ec:off+len*z<=cs.length)
   (h:∀ (i j:Nat) (e:List ae) (c c' : ae),es[i]? = some e->e[j]? = some c'->cs[off+(i*z+j)]? = some c->Rd l c c') :Rd l (.ao z b off len cap sz) (.bW z es)
 | pA (z b off cap sz:Nat) :Rd l (.ao z b off 0 cap sz) (.bW z [])
theorem anI {w:World} {R:Nat->Prop} {B:Nat} {l:av} {μ:cD} (rel:b6 R B w (bY l) μ) :∀ {c c' : ae},Rd l c c'->∀ {v:Value},aU w R (bY l) μ c v->eN w R c' v:=by
 intro c c' aD
 induction aD with
 | same c h=>
  intro v ax;exact (eN.up (uG ax h) fun k _ aF=>⟨aF.1,fun ⟨b,m,h1,ag,aq⟩=>by cases ag⟩:aU w R aR.empty (fun _=>none) _ v)
 | aV cs cs' ar h aM=>
  intro v ax;cases ax with
  | aV _ vs fI h1 ax=>
   refine .aV cs' vs (by omega) h1 (fun j c' v am eH=>?_);have aS:j<cs.length:=by rw[<-ar]; exact (List.getElem?_eq_some_iff.1 am).1
   exact aM j cs[j] c' (List.getElem?_eq_getElem aS) am (ax j cs[j] v (List.getElem?_eq_getElem aS) eH)
 | bP cs cs' ar h aM=>
  intro v ax;cases ax with
  | bP _ vs fI ax=>
   refine .bP cs' vs (by omega) (fun j c' v am eH=>?_);have aS:j<cs.length:=by rw[<-ar]; exact (List.getElem?_eq_some_iff.1 am).1
   exact aM j cs[j] c' (List.getElem?_eq_getElem aS) am (ax j cs[j] v (List.getElem?_eq_getElem aS) eH)
 | pA z b off cap sz=>
  intro v ax;cases ax with
  | ao _ _ _ _ _ _ cap' cs m aj hm ar az al=>exact .e1 z _ cap'
  | fE _ _ _ _ _ _ cap' a ar al ay=>exact .e1 z _ cap'
  | gR _ _ _ _ a cs m aj hm=>exact .e1 z a 0
 | ao z b off len cap sz cs es aj ar aC ec h aM=>
  intro v ax;have oO:(bY l).f b=.cells sz cs:=oB.2 aj;cases ax with
  | gR _ _ _ _ a gW m fz jC=>
   obtain rfl:=List.length_eq_zero_iff.1 ar;exact .e1 z a 0
  | fE _ _ _ _ _ _ cap' a ar al ay=>
   exfalso;rcases ay with ay | ⟨n,gW,ay,aS⟩
   ·rw[oO] at ay; cases ay
   ·rw[oO] at ay; cases ay; omega
  | ao _ _ _ _ _ _ cap' gW m fz hm gC az al=>
   rw[oO] at fz; cases fz;have f0:=rel.blk b m hm;rw[oO] at f0;obtain⟨cH,eu,arr,t,fh,bx,aI,aJ,kO⟩:=f0;have cX:len<=cap':=by rcases al with ⟨_,h⟩ | ⟨_,h,_⟩<;>omega
   have rE:R m.r:=rel.up _ (rel.base b m (by rw[oO]; rfl) hm);subst ar;have oP:∀ i j,i<es.length->j<z->∃ c v,cs[off+(i*z+j)]? = some c/\arr[m.s+(off+(i*z+j))]? = some v/\v.oneCell'=true/\aU w R (bY l) μ c v:=by
    intro i j aA am;have aS:off+(i*z+j)<cs.length:=by
     have:i*z+z<=es.length*z:=by rw[<-Nat.succ_mul]; exact Nat.mul_le_mul_right _ aA
     omega
    obtain⟨v,h1,ag,aq⟩:=kO _ _ (List.getElem?_eq_getElem aS);exact⟨_,v,List.getElem?_eq_getElem aS,h1,ag,aq⟩
   refine .bW z es m.r (m.s+off) cap' (fun i j=>(arr[m.s+(off+(i*z+j))]?).getD undef) cX aC (fun i j aA am=>?_) (fun i e aw j c' am=>?_)
   ·obtain⟨c,v,h1,ag,aq,aK⟩:=oP i j aA am;refine⟨?_,?_,rE,fun ⟨b,m,h1,ag,aq⟩=>by cases ag⟩
    ·simp only[World.cell?,bx,ag,Option.getD_some,Option.isSome_none];rw[show m.s+off+(i*z+j)=m.s+(off+(i*z+j)) by omega,ag]; rfl
    ·rw[ag]; exact aq
   ·have aA:i<es.length:=(List.getElem?_eq_some_iff.1 aw).1;have kQ:j<z:=by rw[<-aC e (List.mem_of_getElem? aw)]; exact (List.getElem?_eq_some_iff.1 am).1
    obtain⟨c,v,h1,ag,aq,aK⟩:=oP i j aA kQ;simp only[ag,Option.getD_some];exact aM i j e c c' aw am h1 aK
theorem cd (kq:P.follows .mixedOrders=true) (jt:∀ g,(G g).closed=true) {f:FuncId} {args:List ae} {r:ae} (h:dp P G f args [] (c:=⟨fun ky l=>Rd l ky r⟩)) :bT P G f args r:=by
 obtain⟨ky,l',h1,ag,aq⟩:=h;intro w A vs ay ar ax;refine (ND (A:=A) kq jt h1 ay ar ax).mono ?_;rintro e w' ⟨v,μ',rfl,aj,rel,aD⟩;exact⟨v,rfl,aj,anI rel aq aD⟩
theorem bB {f:FuncId} {args:List ae} {r:ae} {l:av} {K:ae->av->Prop} (aG:bT P G f args r) (al:bV args=true) (h:K r l) :dp P G f args l (c:=⟨K⟩) :=
 ⟨r,l,.pure aG al,Nat.le_refl _,h⟩
theorem ak4 (kq:P.follows .mixedOrders=true) (jt:∀ g,(G g).closed=true) {f:FuncId} {args:List ae} (h:dp P G f args [] (c:=⟨fun r _=>r=.bool true⟩))
  {w:World} {A:Nat->Prop} {vs:Array Value} (ay:∀ g,eN w A (G g) (.pointer (some ⟨g,0,none⟩))) (ar:vs.size=args.length)
  (ax:∀ (j:Nat) (c:ae) (v:Value),args[j]? = some c->vs[j]? = some v->eN w A c v) :
  Calls P f vs w fun e w'=>e=.returned (.bool true)/\RowKit.Below w.heap.size w w':=by
 obtain⟨ky,l',h1,ag,rfl⟩:=h;exact ao6 kq jt h1 ay ar ax
end
section
variable {P:Program}
inductive dq (P:Program) :List TypeId->List ae->Prop
 | nil:dq P [] []
 | bool {t:TypeId} {b:Bool} {ts:List TypeId} {cs:List ae} (aL:P.underlying t=some .bool) (h:dq P ts cs) :dq P (t::ts) (.bool b::cs)
 | int {t:TypeId} {k:IntKind} {n:Int} {ts:List TypeId} {cs:List ae} (aL:P.underlying t=some (.int k)) (h1:k.min<=n) (ag:n<=k.max) (h:dq P ts cs) :dq P (t::ts) (.int k n::cs)
 | str {t:TypeId} {s:List UInt8} {ts:List TypeId} {cs:List ae} (aL:P.underlying t=some .string) (au:s.length<=maxLen) (h:dq P ts cs) :dq P (t::ts) (.str s::cs)
 | aZ {t e:TypeId} {ts:List TypeId} {cs:List ae} (aL:P.underlying t=some (.slice e)) (h:dq P ts cs) :dq P (t::ts) (.aZ::cs)
 | ao {t e:TypeId} {es:List (List ae)} {ts:List TypeId} {cs:List ae} (aL:P.underlying t=some (.slice e)) (ar:es.length<=maxLen) (aC:∀ r∈es,r.length=P.cellsOf e) (aw:∀ r∈es,dq P [e] r) (h:dq P ts cs) :dq P (t::ts) (.bW (P.cellsOf e) es::cs)
 | struct {t:TypeId} {fs:Array Field} {ts:List TypeId} {cs:List ae} (aL:P.underlying t=some (.struct fs)) (h:dq P (fs.toList.map (·.type)++ts) cs) :dq P (t::ts) cs
 | array {t e:TypeId} {n:Nat} {ts:List TypeId} {cs:List ae} (aL:P.underlying t=some (.array n e)) (h:dq P (List.replicate n e++ts) cs) :dq P (t::ts) cs
def sZ (P:Program) :List Field->Nat->Option Nat
 | [],o=>some o
 | f::r,o=>if f.offset=o then sZ P r (o+P.cellsOf f.type) else none
def sl (P:Program) :Nat->TypeId->Bool
 | 0,_=>false
 | d+1,t=>match P.underlying t with
  | some .bool | some (.int _) | some .string=>true
  | some (.slice e)=>decide (0<P.cellsOf e)&&sl P d e
  | some (.struct fs)=>decide (sZ P fs.toList 0=some (P.cellsOf t))&&fs.toList.all fun f=>sl P d f.type
  | some (.array n e)=>decide (n*P.cellsOf e=P.cellsOf t)&&sl P d e
  | _=>false
structure nx (P:Program) (w:World) (A:Nat->Prop) (ts:List TypeId) (vs:List Value) (cs:List ae) :Prop where
 len:cs.length=vs.length
 ty:∀ oq cs',dq P oq cs'->dq P (ts++oq) (cs++cs')
 ow:∀ (j:Nat) (c:ae) (v:Value),cs[j]? = some c->vs[j]? = some v->eN w A c v/\v.oneCell'=true
theorem nx.nil {w:World} {A:Nat->Prop}:nx P w A [] [] [] :=⟨rfl,fun _ _ h=>h,fun j c v h=>by simp at h⟩
theorem nx.app {w:World} {A:Nat->Prop} {ts oq:List TypeId} {vs D5:List Value} {cs cs' : List ae} (a:nx P w A ts vs cs) (b:nx P w A oq D5 cs') :nx P w A (ts++oq) (vs++D5) (cs++cs') :=by
 refine⟨by simp[a.len,b.len],fun awE ar1 h=>by rw[List.append_assoc,List.append_assoc]; exact a.ty _ _ (b.ty _ _ h),fun j c v al ax=>?_⟩;by_cases h:j<cs.length
 ·rw[List.getElem?_append_left h] at al;rw[List.getElem?_append_left (by rw[<-a.len]; exact h)] at ax;exact a.ow j c v al ax
 ·rw[List.getElem?_append_right (by omega)] at al;rw[List.getElem?_append_right (by rw[<-a.len]; omega)] at ax;rw[<-a.len] at ax;exact b.ow _ c v al ax
theorem Dg {α iq:Type} {f:α->Option iq}:∀ {l:List α} {r:List iq},l.mapM f=some r->∀ (p:Nat) (a:α),l[p]? = some a->∃ x,r[p]? = some x/\f a=some x
 | [],r,h,p,a,aI=>by simp at aI
 | a0::l,r,h,p,a,aI=>by
  rw[List.mapM_cons] at h;simp only[Option.bind_eq_bind,bind_some,Option.pure_def,Option.some.injEq] at h;obtain⟨b,h1,co,ag,rfl⟩:=h;cases p with
  | zero=>simp only[List.getElem?_cons_zero,Option.some.injEq] at aI; subst aI; exact⟨b,rfl,h1⟩
  | succ p=>obtain⟨x,aq,aK⟩:=Dg ag p a (by simpa using aI); exact⟨x,by simpa using aq,aK⟩
theorem z8 {w:World} {A:Nat->Prop} {c:ae} {v:Value} (h:eN w A c v) (h1:v.oneCell'=true) :∀ (j:Nat) (c' : ae) (bc:Value),[c][j]? = some c'->[v][j]? = some bc->eN w A c' bc/\bc.oneCell'=true:=by
 intro j c' bc al ax;cases j with
 | zero=>simp only[List.getElem?_cons_zero,Option.some.injEq] at al ax; subst al ax; exact⟨h,h1⟩
 | succ j=>simp at al
theorem ao8 {H:Type} {enc:TypeId × Value->H} {w:World} {base:Nat} {spare:Nat->Bool} {held:Bool} {fuel:Nat} {t:TypeId} {vs:List Value} {x:DataW H × List MemPlace}
  (aL:P.underlying t=some .bool) (h:DataW.trod enc P w base spare held (fuel+1) t vs=some x) :∃ b,vs=[.bool b] :=by
 unfold DataW.trod at h;rw[aL] at h;split at h
 case h_1 b _=>exact⟨b,rfl⟩
 all_goals first | (cases h; done) | (rename_i heq; cases heq; done) | (rename_i heq _; cases heq; done) | (rename_i heq _ _; cases heq; done) | (rename_i heq _ _ _; cases heq; done) | (simp_all; done)
theorem trod_int {H:Type} {enc:TypeId × Value->H} {w:World} {base:Nat} {spare:Nat->Bool} {held:Bool} {fuel:Nat} {t:TypeId} {k:IntKind} {vs:List Value} {x:DataW H × List MemPlace}
  (aL:P.underlying t=some (.int k)) (h:DataW.trod enc P w base spare held (fuel+1) t vs=some x) :∃ n,vs=[.int k n]/\k.min<=n/\n<=k.max:=by
 unfold DataW.trod at h;rw[aL] at h;split at h<;>simp only[reduceCtorEq,Option.some.injEq,TypeDesc.int.injEq] at *<;>try (exfalso; simp_all; done)
 rename_i hY k' n heq;subst heq;split at h
 ·rename_i al;obtain⟨rfl,bx⟩:=al;simp only[Lit.wf,Bool.and_eq_true,decide_eq_true_eq] at bx;exact⟨n,rfl,bx.1,bx.2⟩
 ·cases h
theorem apa {H:Type} {enc:TypeId × Value->H} {w:World} {base:Nat} {spare:Nat->Bool} {held:Bool} {fuel:Nat} {t:TypeId} {vs:List Value} {x:DataW H × List MemPlace}
  (aL:P.underlying t=some .string) (h:DataW.trod enc P w base spare held (fuel+1) t vs=some x) :∃ s,vs=[.string s]/\s.size<=maxLen:=by
 unfold DataW.trod at h;rw[aL] at h;split at h<;>simp only[reduceCtorEq,Option.some.injEq] at *<;>try (exfalso; simp_all; done)
 split at h
 ·rename_i s _ au; exact⟨s,rfl,au⟩
 ·cases h
theorem ao9 {H:Type} {enc:TypeId × Value->H} {w:World} {base:Nat} {spare:Nat->Bool} {held:Bool} {fuel:Nat} {t e:TypeId} {vs:List Value} {x:DataW H × List MemPlace}
  (aL:P.underlying t=some (.slice e)) (h:DataW.trod enc P w base spare held (fuel+1) t vs=some x) :
  vs=[.slice none 0 0]\/∃ a len cap,vs=[.slice (some a) len cap]/\len<=cap/\cap<=maxLen/\∃ Bx,(List.range len).mapM (fun i=>(w.cells? base (a.add (i*P.cellsOf e)) (P.cellsOf e)).bind (DataW.trod enc P w base spare held fuel e))=some Bx:=by
 unfold DataW.trod at h;rw[aL] at h;split at h<;>simp only[reduceCtorEq,Option.some.injEq,TypeDesc.slice.injEq] at *<;>try (exfalso; simp_all; done)
 ·exact .inl trivial
 ·rename_i gL a len cap heq;subst heq;split at h
  ·rename_i al;rw[bind_some] at h;obtain⟨Bx,h1,_⟩:=h;exact .inr ⟨a,len,cap,rfl,al.2.1,al.2.2,Bx,h1⟩
  ·cases h
theorem apb {H:Type} {enc:TypeId × Value->H} {w:World} {base:Nat} {spare:Nat->Bool} {held:Bool} {fuel:Nat} {t:TypeId} {fs:Array Field} {vs:List Value} {x:DataW H × List MemPlace}
  (aL:P.underlying t=some (.struct fs)) (h:DataW.trod enc P w base spare held (fuel+1) t vs=some x) :
  vs.length=P.cellsOf t/\∃ xs,(fs.toList.mapM fun f=>DataW.trod enc P w base spare held fuel f.type ((vs.drop f.offset).take (P.cellsOf f.type)))=some xs:=by
 unfold DataW.trod at h;rw[aL] at h;split at h<;>simp only[reduceCtorEq,Option.some.injEq,TypeDesc.struct.injEq] at *<;>try (exfalso; simp_all; done)
 rename_i asp heq;subst heq;split at h
 ·rename_i al;rw[map_some] at h;obtain⟨xs,h1,_⟩:=h;exact⟨al,xs,h1⟩
 ·cases h
theorem trod_array {H:Type} {enc:TypeId × Value->H} {w:World} {base:Nat} {spare:Nat->Bool} {held:Bool} {fuel:Nat} {t e:TypeId} {n:Nat} {vs:List Value} {x:DataW H × List MemPlace}
  (aL:P.underlying t=some (.array n e)) (h:DataW.trod enc P w base spare held (fuel+1) t vs=some x) :
  vs.length=P.cellsOf t/\∃ xs,((List.range n).mapM fun i=>DataW.trod enc P w base spare held fuel e ((vs.drop (i*P.cellsOf e)).take (P.cellsOf e)))=some xs:=by
 unfold DataW.trod at h;rw[aL] at h;split at h<;>simp only[reduceCtorEq,Option.some.injEq,TypeDesc.array.injEq] at *<;>try (exfalso; simp_all; done)
 rename_i avK gL heq;obtain⟨rfl,rfl⟩:=heq;split at h
 ·rename_i al;rw[map_some] at h;obtain⟨xs,h1,_⟩:=h;exact⟨al,xs,h1⟩
 ·cases h
theorem ads (a:Addr) (x j:Nat) :a.add (x+j)=(a.add x).add j:=by
 unfold Addr.add;by_cases ak:x=0
 ·subst ak; simp
 ·by_cases am:j=0
  ·subst am; simp
  ·rw[if_neg (by omega),if_neg ak,if_neg am];simp only[Nat.add_assoc]
theorem add_plain (b o n:Nat) :(Addr.mk b o none).add n=⟨b,o+n,none⟩:=by
 unfold Addr.add;by_cases aH:n=0
 ·subst aH; simp
 ·rw[if_neg aH]
theorem acb {H:Type} {enc:TypeId × Value->H} {w:World} {A:Nat->Prop} (cR:∀ k,A k) {base:Nat} {spare:Nat->Bool} {held:Bool}:∀ (fuel:Nat) (D:Nat) (t:TypeId) (vs:List Value) (d:DataW H) (cy:List MemPlace),
  sl P D t=true->DataW.trod enc P w base spare held fuel t vs=some (d,cy)->∃ cs,nx P w A [t] vs cs
 | 0,_,_,_,_,_,_,h=>by simp[DataW.trod] at h
 | fuel+1,0,t,vs,d,cy,aG,h=>by cases aG
 | fuel+1,D+1,t,vs,d,cy,aG,h=>by
  have aM:=fun t vs d cy aG h=>acb cR (enc:=enc) (w:=w) (base:=base) (spare:=spare) (held:=held) fuel D t vs d cy aG h
  unfold sl at aG;split at aG
  ·rename_i aL;obtain⟨b,rfl⟩:=ao8 aL h;exact⟨[.bool b],⟨rfl,fun oq cs' h=>.bool aL h,z8 (.bool b) rfl⟩⟩
  ·rename_i k aL;obtain⟨n,rfl,h1,ag⟩:=trod_int aL h;exact⟨[.int k n],⟨rfl,fun oq cs' h=>.int aL h1 ag h,z8 (.int k n) rfl⟩⟩
  ·rename_i aL;obtain⟨s,rfl,h1⟩:=apa aL h;exact⟨[.str s.data.toList],⟨rfl,fun oq cs' h=>.str aL (show s.data.toList.length<=maxLen from h1) h,z8 (.str s) rfl⟩⟩
  ·rename_i e aL;simp only[Bool.and_eq_true,decide_eq_true_eq] at aG;rcases ao9 aL h with rfl | ⟨a,len,cap,rfl,mP,ho,Bx,aw⟩
   ·exact⟨[.aZ],⟨rfl,fun oq cs' h=>.aZ aL h,z8 .aZ rfl⟩⟩
   ·have cA:∀ i,i<len->∃ dI row,w.cells? base (a.add (i*P.cellsOf e)) (P.cellsOf e)=some dI/\nx P w A [e] dI row:=fun i aA=>by
     obtain⟨x,_,ak⟩:=Dg aw i i (by rw[List.getElem?_range aA]);rw[bind_some] at ak;obtain⟨dI,h1,ag⟩:=ak;obtain⟨row,aq⟩:=aM e dI x.1 x.2 aG.2 ag;exact⟨dI,row,h1,aq⟩
    have zb:∃ (dI:Nat->List Value) (rows:Nat->List ae),∀ i,i<len->w.cells? base (a.add (i*P.cellsOf e)) (P.cellsOf e)=some (dI i)/\nx P w A [e] (dI i) (rows i) :=by
     refine⟨fun i=>if aA:i<len then (cA i aA).choose else [],fun i=>if aA:i<len then (cA i aA).choose_spec.choose else [],fun i aA=>?_⟩;simp only[dif_pos aA];exact (cA i aA).choose_spec.choose_spec
    obtain⟨dI,rows,ax⟩:=zb;have hR:∀ i,i<len->(dI i).length=P.cellsOf e/\∀ j,j<P.cellsOf e->∃ v,(dI i)[j]? = some v/\w.cell? (a.add (i*P.cellsOf e+j))=some v:=fun i aA=>by
     have h1:=(ax i aA).1;unfold World.cells? at h1;split at h1
     ·refine⟨by rw[J3 h1]; simp,fun j am=>?_⟩;obtain⟨v,ag,aq⟩:=Dg h1 j j (by rw[List.getElem?_range am]);refine⟨v,ag,?_⟩;rw[<-aq,ads]
     ·cases h1
    let es:=(List.range len).map rows
    have ie:∀ (i:Nat) (r:List ae),es[i]? = some r->i<len/\r=rows i:=fun i r aD=>by
     simp only[es,List.getElem?_map] at aD;by_cases aA:i<len
     ·rw[List.getElem?_range aA] at aD; simp only[Option.map_some,Option.some.injEq] at aD; exact⟨aA,aD.symm⟩
     ·rw[List.getElem?_eq_none (by simp; omega)] at aD; cases aD
    have bw:es.length=len:=by simp[es]
    have aC:∀ r∈es,r.length=P.cellsOf e:=fun r aD=>by
     obtain⟨i,aA⟩:=List.getElem?_of_mem aD;obtain⟨h1,rfl⟩:=ie i r aA;rw[(ax i h1).2.len,(hR i h1).1]
    have xd:∀ r∈es,dq P [e] r:=fun r aD=>by
     obtain⟨i,aA⟩:=List.getElem?_of_mem aD;obtain⟨h1,rfl⟩:=ie i r aA;have:=(ax i h1).2.ty [] [] .nil;simpa using this
    refine⟨[.bW (P.cellsOf e) es],⟨rfl,fun oq cs' h=>.ao aL (by omega) aC xd h,z8 ?_ rfl⟩⟩;by_cases aO:len=0
    ·subst aO;exact .e1 _ _ _
    ·obtain⟨v0,_,hz⟩:=(hR 0 (by omega)).2 0 aG.1;have U4:a.spot=none:=by
      unfold World.cell? at hz;split at hz
      ·split at hz
       ·cases hz
       ·rename_i au;rw[show 0*P.cellsOf e+0=0 by omega] at au;simp only[Addr.add,if_true] at au;cases mY:a.spot with
        | none=>rfl
        | some x=>rw[mY] at au; simp at au
      ·cases hz
     obtain⟨blk,off,spot⟩:=a;simp only at U4;subst U4;have key:=aU.bW (w:=w) (R:=A) (h:=aR.empty) (μ:=fun _=>none) (P.cellsOf e) es blk off cap (fun i j=>((dI i)[j]?).getD undef) (by omega) aC
      (fun i j aA am=>by
       rw[bw] at aA;obtain⟨v,h1,ag⟩:=(hR i aA).2 j am;obtain⟨c,al⟩:∃ c,(rows i)[j]? = some c:=by
        have:j<(rows i).length:=by rw[(ax i aA).2.len,(hR i aA).1]; exact am
        exact⟨_,List.getElem?_eq_getElem this⟩
       refine⟨?_,?_,cR _,fun ⟨b,m,h1,ag,aq⟩=>by cases ag⟩
       ·rw[h1,Option.getD_some,<-add_plain]; exact ag
       ·rw[h1,Option.getD_some]; exact ((ax i aA).2.ow j c v al h1).2)
      (fun i r aD j c al=>by
       obtain⟨aA,rfl⟩:=ie i r aD;have am:j<P.cellsOf e:=by rw[<-(hR i aA).1,<-(ax i aA).2.len]; exact (List.getElem?_eq_some_iff.1 al).1
       obtain⟨v,h1,ag⟩:=(hR i aA).2 j am;rw[h1,Option.getD_some];exact ((ax i aA).2.ow j c v al h1).1)
     rw[bw] at key;exact key
  ·rename_i fs aL;simp only[Bool.and_eq_true,decide_eq_true_eq,List.all_eq_true] at aG;obtain⟨bw,xs,ak⟩:=apb aL h;have yY:∀ (fs:List Field) (o:Nat) (xs:List (DataW H × List MemPlace)),sZ P fs o=some vs.length->o<=vs.length->(∀ f∈fs,sl P D f.type=true)->
     (fs.mapM fun f=>DataW.trod enc P w base spare held fuel f.type ((vs.drop f.offset).take (P.cellsOf f.type)))=some xs->∃ cs,nx P w A (fs.map (·.type)) (vs.drop o) cs:=by
    intro fs
    induction fs with
    | nil=>intro o xs al az _ _; simp only[sZ,Option.some.injEq] at al; rw[al,List.drop_length]; exact⟨[],.nil⟩
    | cons f fs ajJ=>
     intro o xs al az gD hm;simp only[sZ] at al;split at al
     ·rename_i ahZ;rw[List.mapM_cons] at hm;simp only[Option.bind_eq_bind,bind_some,Option.pure_def,Option.some.injEq] at hm;obtain⟨x,h1,aqn,ag,_⟩:=hm;have aiF:∀ (fs:List Field) (o n:Nat),sZ P fs o=some n->o<=n:=by
       intro fs
       induction fs with
       | nil=>intro o n h; simp only[sZ,Option.some.injEq] at h; omega
       | cons g gs ajK=>
        intro o n h;simp only[sZ] at h;split at h
        ·have:=ajK _ _ h; omega
        ·cases h
      have dO:=aiF _ _ _ al;obtain⟨cN,b5⟩:=aM f.type _ x.1 x.2 (gD f (by simp)) h1;obtain⟨dm,w2⟩:=ajJ _ aqn al dO (fun g ay=>gD g (by simp[ay])) ag;refine⟨cN++dm,?_⟩;have:=b5.app w2;rw[ahZ,show List.drop (o+P.cellsOf f.type) vs=List.drop (P.cellsOf f.type) (List.drop o vs) by rw[List.drop_drop],List.take_append_drop] at this;exact this
     ·cases al
   obtain⟨cs,bx⟩:=yY fs.toList 0 xs (by rw[bw]; exact aG.1) (Nat.zero_le _) aG.2 ak;rw[List.drop_zero] at bx;exact⟨cs,⟨bx.len,fun oq cs' h=>.struct aL (bx.ty _ _ h),bx.ow⟩⟩
  ·rename_i n e aL;simp only[Bool.and_eq_true,decide_eq_true_eq] at aG;obtain⟨bw,xs,ak⟩:=trod_array aL h;have ai1:∀ i,i<n->∃ c,nx P w A [e] ((vs.drop (i*P.cellsOf e)).take (P.cellsOf e)) c:=fun i aA=>by
    obtain⟨x,_,h1⟩:=Dg ak i i (by rw[List.getElem?_range aA]);exact aM e _ x.1 x.2 aG.2 h1
   have yY:∀ m,m<=n->∃ cs,nx P w A (List.replicate m e) (vs.drop ((n - m)*P.cellsOf e)) cs:=by
    intro m
    induction m with
    | zero=>intro _; rw[Nat.sub_zero,List.drop_eq_nil_of_le (by omega)]; exact⟨[],.nil⟩
    | succ m Jv=>
     intro hm;obtain⟨cN,b5⟩:=ai1 (n - (m+1)) (by omega);obtain⟨dm,w2⟩:=Jv (by omega);refine⟨cN++dm,?_⟩;have:=b5.app w2;have tl:(n - m)*P.cellsOf e=(n - (m+1))*P.cellsOf e+P.cellsOf e:=by rw[<-Nat.succ_mul]; congr 1; omega
     rw[tl,<-List.drop_drop,List.take_append_drop] at this;exact this
   obtain⟨cs,bx⟩:=yY n (Nat.le_refl _);rw[Nat.sub_self,Nat.zero_mul,List.drop_zero] at bx;exact⟨cs,⟨bx.len,fun oq cs' h=>.array aL (bx.ty _ _ h),bx.ow⟩⟩
  ·cases aG
def rh (P:Program) (t:TypeId) (c:ae) :Prop:=match dC P t with
 | some true=>∃ cs,c=.aV cs/\dq P [t] cs
 | _=>dq P [t] [c]
inductive kF (P:Program) :List TypeId->List ae->Prop
 | nil:kF P [] []
 | cons {t:TypeId} {c:ae} {ts:List TypeId} {cs:List ae}:rh P t c->kF P ts cs->kF P (t::ts) (c::cs)
theorem Oz {H:Type} {enc:TypeId × Value->H} {w:World} {A:Nat->Prop} (cR:∀ k,A k) {base gb:Nat} {spare:Nat->Bool} {held:Bool} {D:Nat}:∀ {ts:List TypeId} {vs:List Value} {gY:List (DataW H)} {cy:List MemPlace},
  (∀ t∈ts,sl P D t=true)->(∀ (j:Nat) t v,ts[j]? = some t->vs[j]? = some v->Value.okWide P w .any gb t v)->DataW.TrodAll enc P w base spare held ts vs gY cy->
  ∃ cs,kF P ts cs/\cs.length=vs.length/\∀ (j:Nat) (c:ae) (v:Value),cs[j]? = some c->vs[j]? = some v->eN w A c v
 | [],[],_,_,_,_,_=>⟨[],.nil,rfl,fun j c v h=>by simp at h⟩
 | [],_::_,gY,_,_,_,h=>by cases gY<;>cases h
 | _::_,[],gY,_,_,_,h=>by cases gY<;>cases h
 | _::_,_::_,[],_,_,_,h=>by cases h
 | t::ts,v::vs,d::gY,cy,aG,dP,h=>by
  obtain⟨p,q,⟨fuel,aW⟩,aD,_⟩:=h;obtain⟨cs,h1,ag,aq⟩:=Oz cR (fun t aW=>aG t (by simp[aW])) (fun j t v aW ax=>dP (j+1) t v (by simpa using aW) (by simpa using ax)) aD;obtain⟨cN,b5⟩:=acb cR fuel D t v.cells.toList d p (aG t (by simp)) aW;have xd:dq P [t] cN:=by simpa using b5.ty [] [] .nil
  have ax:=dP 0 t v rfl rfl;have fin:∀ c,rh P t c->eN w A c v->∃ cs,kF P (t::ts) cs/\cs.length=(v::vs).length/\∀ (j:Nat) (c:ae) (bc:Value),cs[j]? = some c->(v::vs)[j]? = some bc->eN w A c bc:=fun c al iW=>
   ⟨c::cs,.cons al h1,by simp[ag],fun j c' bc am eH=>by
    cases j with
    | zero=>simp only[List.getElem?_cons_zero,Option.some.injEq] at am eH; subst am eH; exact iW
    | succ j=>exact aq j c' bc (by simpa using am) (by simpa using eH)⟩
  unfold Value.okWide at ax;have agg:dC P t=(P.underlying t).map fun d=>match d with | .struct _ | .array _ _=>true | _=>false:=rfl
  cases aL:P.underlying t with
  | none=>
   exfalso;have:=aG t (by simp);cases D with
   | zero=>cases this
   | succ D=>unfold sl at this; rw[aL] at this; cases this
  | some Sj=>
   rw[aL] at ax agg;have aj9:(∃ cs,v=.agg cs)->dC P t=some true->∃ cs,kF P (t::ts) cs/\cs.length=(v::vs).length/\∀ (j:Nat) (c:ae) (bc:Value),cs[j]? = some c->(v::vs)[j]? = some bc->eN w A c bc:=by
    rintro⟨xs,rfl⟩ mH;refine fin (.aV cN) (by unfold rh; rw[mH]; exact⟨cN,rfl,xd⟩) (.aV cN xs (by have:=b5.len; simp only[Value.cells,Array.length_toList] at this; exact this.symm) (fun j x ak=>?_) (fun j c x al ak=>?_))
    ·have aS:j<cN.length:=by rw[b5.len]; simp only[Value.cells,Array.length_toList]; exact (Array.getElem?_eq_some_iff.1 ak).1
     exact (b5.ow j cN[j] x (List.getElem?_eq_getElem aS) (by simpa [Value.cells] using ak)).2
    ·exact (b5.ow j c x al (by simpa [Value.cells] using ak)).1
   have akb:(∀ xs,v≠.agg xs)->dC P t=some false->∃ cs,kF P (t::ts) cs/\cs.length=(v::vs).length/\∀ (j:Nat) (c:ae) (bc:Value),cs[j]? = some c->(v::vs)[j]? = some bc->eN w A c bc:=by
    intro b7 mH;have hR:v.cells.toList=[v] :=by cases v<;>first | rfl | exact absurd rfl (b7 _)
    have ar:=b5.len;rw[hR] at ar;obtain⟨c,rfl⟩:∃ c,cN=[c] :=List.length_eq_one_iff.1 ar;refine fin c (by unfold rh; rw[mH]; exact xd) (b5.ow 0 c v rfl (by rw[hR]; rfl)).1
   have alI:Cell.okWide P w .any gb t v->∀ xs,v≠.agg xs:=by
    rintro al xs rfl;unfold Cell.okWide at al;rw[aL] at al;cases Sj<;>simp[Cell.ok,aL] at al
   cases Sj<;>simp only[Option.map_some] at agg<;>first
    | exact aj9 (by obtain⟨cs,h,_⟩:=ax; exact⟨cs,h⟩) agg
    | exact akb (alI ax) agg
end
abbrev eh (α:Type) :=Option (List α)
def eh.l {α:Type} (s:eh α) :List α:=s.getD []
@[simp] theorem eh.auS {α:Type}:eh.l (none:eh α)=[] :=rfl
@[simp] theorem eh.JU {α:Type} (l:List α) :eh.l (some l)=l:=rfl
def cO {α:Type} (z:Nat) (enc:α->List ae) :eh α->ae
 | none=>.aZ
 | some l=>.bW z (l.map enc)
section
variable {α:Type} {z:Nat} {enc:α->List ae}
@[simp] theorem oa (s:eh α) :db (.ao z) (cO z enc s)=some (.int .i64 s.l.length) :=by cases s<;>simp[cO,eh.l]
@[simp] theorem pa (s:eh α) (k:IntKind) (i:Int) :cU (.ao z) (cO z enc s) (.int k i)=if 0<=i then (s.l[i.toNat]?).map fun x=>.cp (enc x) 0 else none:=by
 cases s with
 | none=>by_cases h:0<=i<;>simp[cO,eh.l,cU,h]
 | some l=>by_cases h:0<=i<;>simp[cO,eh.l,h,Function.comp_def]
@[simp] theorem arz (s:eh α) :(cO z enc s).cells=some [cO z enc s] :=by cases s<;>rfl
theorem uF (h:∀ x,bV (enc x)=true) (s:eh α) :(cO z enc s).closed=true:=by
 cases s with
 | none=>rfl
 | some l=>
  simp only[cO,ae.closed]
  induction l with
  | nil=>rfl
  | cons x l aM=>simp only[List.map_cons,yD,h,aM,Bool.and_self]
end
theorem wrap_i64 {n:Int} (h1:-9223372036854775808<=n) (ag:n<9223372036854775808) :IntKind.i64.wrap n=n:=by
 have a1:(2 ^ IntKind.i64.bits:Int)=18446744073709551616:=by decide
 have b3:(2 ^ (IntKind.i64.bits - 1) :Int)=9223372036854775808:=by decide
 have dD:IntKind.i64.signed=true:=rfl;simp only[IntKind.wrap,a1,b3,dD,Bool.true_and,decide_eq_true_eq];split<;>omega
theorem cg {α:Type} {l:List α} {k:Nat} (h:k<l.length) :∃ x,l[k]? = some x/\x∈l:=⟨l[k],List.getElem?_eq_getElem h,List.getElem_mem h⟩
section
variable {P:Program} {G:Nat->ae}
theorem adU {t:TypeId} (aL:P.underlying t=some .bool) (a b:Bool) :fw P .eql t (.bool a) (.bool b)=some (.bool (a == b)) :=by
 simp[fw,s6,dT,aL]
theorem OP {t e:TypeId} (aL:P.underlying t=some (.slice e)) {α:Type} (z:Nat) (enc:α->List ae) (s:eh α) :fw P .eql t (cO z enc s) .aZ=some (.bool s.isNone) :=by
 cases s<;>simp[cO,fw,s6,dT,aL]
theorem afR {e:TypeId} {k:IntKind} (aL:P.underlying e=some (.int k)) (aI:dC P e=some false) {D:Nat} (x y:List Int) :∀ (n i:Nat),i+n=x.length->i+n=y.length->
  dT.p1 P (dT P (D+1)) e 1 (x.map (.int k)) (y.map (.int k)) n i=some (decide (x.drop i=y.drop i)) :=by
 intro n
 induction n with
 | zero=>intro i ak aP; rw[List.drop_eq_nil_of_le (by omega),List.drop_eq_nil_of_le (by omega)]; simp[dT.p1]
 | succ n aM=>
  intro i ak aP;have r0:x[i]? = some x[i] :=List.getElem?_eq_getElem (by omega);have ajE:y[i]? = some y[i] :=List.getElem?_eq_getElem (by omega);unfold dT.p1;simp only[Kq aI,Nat.mul_one,List.getElem?_map,r0,ajE,Option.map_some];have aw:dT P (D+1) e (.int k x[i]) (.int k y[i])=some (decide (x[i]=y[i])) :=by
   unfold dT;rw[aL];simp only[if_true];by_cases h:x[i]=y[i]<;>simp[h]
  rw[aw];have TT:x.drop i=x[i] ::x.drop (i+1) :=List.drop_eq_getElem_cons (by omega);have TU:y.drop i=y[i] ::y.drop (i+1) :=List.drop_eq_getElem_cons (by omega);by_cases h:x[i]=y[i]
  ·simp only[h,decide_true];rw[aM (i+1) (by omega) (by omega)];refine congrArg some (decide_eq_decide.2 ?_);rw[TT,TU,h];simp only[List.cons.injEq,true_and]
  ·simp only[h,decide_false];refine congrArg some (decide_eq_false ?_).symm;rw[TT,TU];simp only[List.cons.injEq,h,false_and,not_false_eq_true]
theorem afY {t e:TypeId} {k:IntKind} {n:Nat} (aW:P.underlying t=some (.array n e)) (aL:P.underlying e=some (.int k)) (aI:dC P e=some false) (au:cr P e=some 1) {x y:List Int} (ak:x.length=n) (aP:y.length=n) {D:Nat} :
  dT P (D+2) t (.aV (x.map (.int k))) (.aV (y.map (.int k)))=some (decide (x=y)) :=by
 unfold dT;rw[aW];simp only[au];rw[afR aL aI x y n 0 (by omega) (by omega)];simp
theorem SK {z:Nat} {es:List (List ae)} (aC:∀ e∈es,e.length=z) :es.flatten.length=es.length*z:=by
 induction es with
 | nil=>simp
 | cons e es aM=>rw[List.flatten_cons,List.length_append,aC e (by simp),aM fun e aw=>aC e (by simp[aw]),List.length_cons,Nat.succ_mul,Nat.add_comm]
theorem Hy {z:Nat} {es:List (List ae)} (aC:∀ e∈es,e.length=z) {i j:Nat} {e:List ae} (aw:es[i]? = some e) (am:j<z) :es.flatten[i*z+j]? = e[j]?:=by
 induction es generalizing i with
 | nil=>simp at aw
 | cons x es aM=>
  have ak:x.length=z:=aC x (by simp);cases i with
  | zero=>
   simp only[List.getElem?_cons_zero,Option.some.injEq] at aw;subst aw;rw[List.flatten_cons,Nat.zero_mul,Nat.zero_add,List.getElem?_append_left (by omega)]
  | succ i=>
   simp only[List.getElem?_cons_succ] at aw;rw[List.flatten_cons,List.getElem?_append_right (by rw[ak,Nat.succ_mul]; omega),ak,show (i+1)*z+j - z=i*z+j by rw[Nat.succ_mul]; omega];exact aM (fun e aw=>aC e (by simp[aw])) aw
theorem c8 {ah:bj} {i:Nat} {v:ae} (h:ah i=v) :bM ah i v=ah:=by
 funext t; simp only[bM]; split<;>simp_all
theorem ov {ah:bj} {c4:Nat} {fa:ae} {ej:Nat} {dt:ae} (h1:ah c4=fa) (ag:ah ej=dt) :∃ s:bj,ah=bM (bM (s) c4 fa) ej dt:=⟨ah,by rw[c8 h1,c8 ag]⟩
theorem k5 {ah:bj} {c4:Nat} {fa:ae} {ej:Nat} {dt:ae} {gO:Nat} {v3:ae} (h1:ah c4=fa) (ag:ah ej=dt) (aq:ah gO=v3) :∃ s:bj,ah=bM (bM (bM (s) c4 fa) ej dt) gO v3:=⟨ah,by rw[c8 h1,c8 ag,c8 aq]⟩
theorem iJ {ah:bj} {c4:Nat} {fa:ae} {ej:Nat} {dt:ae} {gO:Nat} {v3:ae} {hV:Nat} {v4:ae} (h1:ah c4=fa) (ag:ah ej=dt) (aq:ah gO=v3) (aK:ah hV=v4) :∃ s:bj,ah=bM (bM (bM (bM (s) c4 fa) ej dt) gO v3) hV v4:=⟨ah,by rw[c8 h1,c8 ag,c8 aq,c8 aK]⟩
theorem k6 {ah:bj} {c4:Nat} {fa:ae} {ej:Nat} {dt:ae} {gO:Nat} {v3:ae} {hV:Nat} {v4:ae} {i4:Nat} {v5:ae} (h1:ah c4=fa) (ag:ah ej=dt) (aq:ah gO=v3) (aK:ah hV=v4) (bg:ah i4=v5) :∃ s:bj,ah=bM (bM (bM (bM (bM (s) c4 fa) ej dt) gO v3) hV v4) i4 v5:=⟨ah,by rw[c8 h1,c8 ag,c8 aq,c8 aK,c8 bg]⟩
theorem NK {ah:bj} {c4:Nat} {fa:ae} {ej:Nat} {dt:ae} {gO:Nat} {v3:ae} {hV:Nat} {v4:ae} {i4:Nat} {v5:ae} {ks:Nat} {dh:ae} (h1:ah c4=fa) (ag:ah ej=dt) (aq:ah gO=v3) (aK:ah hV=v4) (bg:ah i4=v5) (bL:ah ks=dh) :∃ s:bj,ah=bM (bM (bM (bM (bM (bM (s) c4 fa) ej dt) gO v3) hV v4) i4 v5) ks dh:=⟨ah,by rw[c8 h1,c8 ag,c8 aq,c8 aK,c8 bg,c8 bL]⟩
theorem NL {ah:bj} {c4:Nat} {fa:ae} {ej:Nat} {dt:ae} {gO:Nat} {v3:ae} {hV:Nat} {v4:ae} {i4:Nat} {v5:ae} {ks:Nat} {dh:ae} {hW:Nat} {mf:ae} (h1:ah c4=fa) (ag:ah ej=dt) (aq:ah gO=v3) (aK:ah hV=v4) (bg:ah i4=v5) (bL:ah ks=dh) (et:ah hW=mf) :∃ s:bj,ah=bM (bM (bM (bM (bM (bM (bM (s) c4 fa) ej dt) gO v3) hV v4) i4 v5) ks dh) hW mf:=⟨ah,by rw[c8 h1,c8 ag,c8 aq,c8 aK,c8 bg,c8 bL,c8 et]⟩
theorem D3 {ah:bj} {c4:Nat} {fa:ae} {ej:Nat} {dt:ae} {gO:Nat} {v3:ae} {hV:Nat} {v4:ae} {i4:Nat} {v5:ae} {ks:Nat} {dh:ae} {hW:Nat} {mf:ae} {o9:Nat} {jf:ae} (h1:ah c4=fa) (ag:ah ej=dt) (aq:ah gO=v3) (aK:ah hV=v4) (bg:ah i4=v5) (bL:ah ks=dh) (et:ah hW=mf) (gd:ah o9=jf) :∃ s:bj,ah=bM (bM (bM (bM (bM (bM (bM (bM (s) c4 fa) ej dt) gO v3) hV v4) i4 v5) ks dh) hW mf) o9 jf:=⟨ah,by rw[c8 h1,c8 ag,c8 aq,c8 aK,c8 bg,c8 bL,c8 et,c8 gd]⟩
theorem apv {ah:bj} {c4:Nat} {fa:ae} {ej:Nat} {dt:ae} {gO:Nat} {v3:ae} {hV:Nat} {v4:ae} {i4:Nat} {v5:ae} {ks:Nat} {dh:ae} {hW:Nat} {mf:ae} {o9:Nat} {jf:ae} {tF:Nat} {v9:ae} {tC:Nat} {ul:ae} (h1:ah c4=fa) (ag:ah ej=dt) (aq:ah gO=v3) (aK:ah hV=v4) (bg:ah i4=v5) (bL:ah ks=dh) (et:ah hW=mf) (gd:ah o9=jf) (fe:ah tF=v9) (kk:ah tC=ul) :∃ s:bj,ah=bM (bM (bM (bM (bM (bM (bM (bM (bM (bM (s) c4 fa) ej dt) gO v3) hV v4) i4 v5) ks dh) hW mf) o9 jf) tF v9) tC ul:=⟨ah,by rw[c8 h1,c8 ag,c8 aq,c8 aK,c8 bg,c8 bL,c8 et,c8 gd,c8 fe,c8 kk]⟩
theorem ack {ah:bj} {c4:Nat} {fa:ae} {ej:Nat} {dt:ae} {gO:Nat} {v3:ae} {hV:Nat} {v4:ae} {i4:Nat} {v5:ae} {ks:Nat} {dh:ae} {hW:Nat} {mf:ae} {o9:Nat} {jf:ae} {tF:Nat} {v9:ae} {tC:Nat} {ul:ae} {zL:Nat} {AL:ae} (h1:ah c4=fa) (ag:ah ej=dt) (aq:ah gO=v3) (aK:ah hV=v4) (bg:ah i4=v5) (bL:ah ks=dh) (et:ah hW=mf) (gd:ah o9=jf) (fe:ah tF=v9) (kk:ah tC=ul) (uS:ah zL=AL) :∃ s:bj,ah=bM (bM (bM (bM (bM (bM (bM (bM (bM (bM (bM (s) c4 fa) ej dt) gO v3) hV v4) i4 v5) ks dh) hW mf) o9 jf) tF v9) tC ul) zL AL:=⟨ah,by rw[c8 h1,c8 ag,c8 aq,c8 aK,c8 bg,c8 bL,c8 et,c8 gd,c8 fe,c8 kk,c8 uS]⟩
theorem apw {ah:bj} {c4:Nat} {fa:ae} {ej:Nat} {dt:ae} {gO:Nat} {v3:ae} {hV:Nat} {v4:ae} {i4:Nat} {v5:ae} {ks:Nat} {dh:ae} {hW:Nat} {mf:ae} {o9:Nat} {jf:ae} {tF:Nat} {v9:ae} {tC:Nat} {ul:ae} {zL:Nat} {AL:ae} {Vl:Nat} {acl:ae} (h1:ah c4=fa) (ag:ah ej=dt) (aq:ah gO=v3) (aK:ah hV=v4) (bg:ah i4=v5) (bL:ah ks=dh) (et:ah hW=mf) (gd:ah o9=jf) (fe:ah tF=v9) (kk:ah tC=ul) (uS:ah zL=AL) (HN:ah Vl=acl) :∃ s:bj,ah=bM (bM (bM (bM (bM (bM (bM (bM (bM (bM (bM (bM (s) c4 fa) ej dt) gO v3) hV v4) i4 v5) ks dh) hW mf) o9 jf) tF v9) tC ul) zL AL) Vl acl:=⟨ah,by rw[c8 h1,c8 ag,c8 aq,c8 aK,c8 bg,c8 bL,c8 et,c8 gd,c8 fe,c8 kk,c8 uS,c8 HN]⟩
section
variable {α:Type}
@[simp] theorem Bq (l:av) (z:Nat) (enc:α->List ae) (s:eh α) :dj l z (cO z enc s)=some ((s.l.map enc).flatten,s.l.length) :=by
 cases s<;>simp[cO,dj]
end
theorem h3 {cs vs:List ae} (h:vs.length=cs.length) :bU cs 0 vs=vs:=by
 simp only[bU,List.take_zero,List.nil_append,Nat.zero_add];rw[List.drop_eq_nil_of_le (by omega),List.append_nil]
theorem OU (len cap:Nat) (k:IntKind) (i:Int) :fH len cap (some (.int k i)) none none=if 0<=i/\i<=len then some (i.toNat,len,cap) else none:=by
 unfold fH h8;by_cases h:0<=i/\i<=len
 ·simp only[if_pos h]
 ·simp only[if_neg h]
theorem EM (len cap:Nat) (k:IntKind) (i:Int) :fH len cap none (some (.int k i)) none=if 0<=i/\i<=cap then some (0,i.toNat,cap) else none:=by
 unfold fH h8;by_cases h:0<=i/\i<=cap
 ·simp only[if_pos h]
 ·simp only[if_neg h]
theorem ad2 (len cap:Nat) (k k' : IntKind) (i j:Int) :fH len cap (some (.int k i)) (some (.int k' j)) none=if 0<=i/\i<=j/\j<=cap then some (i.toNat,j.toNat,cap) else none:=by
 unfold fH h8;by_cases h:0<=j/\j<=cap
 ·simp only[if_pos h];by_cases ag:0<=i/\i<=((j.toNat:Nat) :Int)
  ·simp only[if_pos ag]; rw[if_pos (by omega)]
  ·simp only[if_neg ag]; rw[if_neg (by omega)]
 ·simp only[if_neg h]; rw[if_neg (by omega)]
theorem aor {α:Type} {z:Nat} {enc:α->List ae} {l:List α} {k:IntKind} {i:Int} (h1:0<=i) (ag:i<=l.length) :fu (.ao z) (cO z enc (some l)) (some (.int k i)) none none=some (cO z enc (some (l.drop i.toNat))) :=by
 have aq:i.toNat<=l.length:=by omega
 simp only[fu,cO,if_true,OU,List.length_map];rw[if_pos ⟨h1,ag⟩];simp only[Option.map_some,Option.some.injEq,ae.bW.injEq,true_and];rw[List.take_of_length_le (by simp),List.map_drop]
theorem aov {α:Type} {z:Nat} {enc:α->List ae} {l:List α} {k:IntKind} {i:Int} (h1:0<=i) (ag:i<=l.length) :fu (.ao z) (cO z enc (some l)) none (some (.int k i)) none=some (cO z enc (some (l.take i.toNat))) :=by
 simp only[fu,cO,if_true,EM,List.length_map];rw[if_pos ⟨h1,ag⟩];simp only[Option.map_some,Option.some.injEq,ae.bW.injEq,true_and,List.drop_zero,Nat.sub_zero];rw[List.map_take]
theorem aos {α:Type} {z:Nat} {enc:α->List ae} {l:List α} {k k' : IntKind} {i j:Int} (aO:0<=i) (h1:i<=j) (ag:j<=l.length) :fu (.ao z) (cO z enc (some l)) (some (.int k i)) (some (.int k' j)) none=some (cO z enc (some ((l.drop i.toNat).take (j.toNat - i.toNat)))) :=by
 simp only[fu,cO,if_true,ad2,List.length_map];rw[if_pos ⟨aO,h1,ag⟩];simp only[Option.map_some,Option.some.injEq,ae.bW.injEq,true_and];rw[List.map_take,List.map_drop]
theorem map_set {α:Type} (l:List α) (k:Nat) (x:α) (enc:α->List ae) :(l.map enc).set k (enc x)=(l.set k x).map enc:=by rw[List.map_set]
end
section
variable {P:Program}
def abO (P:Program) (t:TypeId) :Option (List TypeId) :=match P.underlying t with
 | some (.struct fs)=>some (fs.toList.map (·.type))
 | _=>none
theorem NE {cs:List ae} (h:dq P [] cs) :cs=[] :=by cases h; rfl
theorem AH {t:TypeId} {k:IntKind} {ts:List TypeId} {cs:List ae} (aL:P.underlying t=some (.int k)) (h:dq P (t::ts) cs) :∃ n cs',cs=.int k n::cs'/\k.min<=n/\n<=k.max/\dq P ts cs':=by
 cases h
 case int k' n cs' h1 ag n4 h=>
  rw[aL] at n4; cases n4; exact⟨_,_,rfl,h1,ag,h⟩
 all_goals (exfalso; simp_all; done)
theorem AI {t:TypeId} {fs ts:List TypeId} {cs:List ae} (aL:abO P t=some fs) (h:dq P (t::ts) cs) :dq P (fs++ts) cs:=by
 unfold abO at aL;cases h
 case struct aso n4 h=>rw[n4] at aL; cases aL; exact h
 all_goals (exfalso; simp_all; done)
theorem apl {t e:TypeId} {n:Nat} {ts:List TypeId} {cs:List ae} (aL:P.underlying t=some (.array n e)) (h:dq P (t::ts) cs) :dq P (List.replicate n e++ts) cs:=by
 cases h
 case array eG f3 n4 h=>rw[aL] at n4; cases n4; exact h
 all_goals (exfalso; simp_all; done)
theorem apo {t e:TypeId} {ts:List TypeId} {cs:List ae} (aL:P.underlying t=some (.slice e)) (h:dq P (t::ts) cs) :
  ∃ cs',dq P ts cs'/\(cs=.aZ::cs'\/∃ es,cs=.bW (P.cellsOf e) es::cs'/\es.length<=maxLen/\∀ r∈es,dq P [e] r) :=by
 cases h
 case aZ eG cs' n4 h=>exact⟨_,h,.inl rfl⟩
 case ao eG es cs' ar aC aw n4 h=>rw[aL] at n4; cases n4; exact⟨_,h,.inr ⟨es,rfl,ar,aw⟩⟩
 all_goals (exfalso; simp_all; done)
theorem abm {α:Type} {enc:α->List ae} {Q:α->Prop}:∀ (es:List (List ae)),(∀ r∈es,∃ x,r=enc x/\Q x)->∃ xs:List α,es=xs.map enc/\∀ x∈xs,Q x
 | [],_=>⟨[],rfl,fun x ak=>by cases ak⟩
 | r::es,h=>by
  obtain⟨x,rfl,ak⟩:=h r (by simp);obtain⟨xs,rfl,xn⟩:=abm es (fun r aD=>h r (by simp[aD]));exact⟨x::xs,rfl,fun y aP=>by
   rcases List.mem_cons.1 aP with rfl | aP
   ·exact ak
   ·exact xn y aP⟩
theorem ach {α:Type} {t e:TypeId} {z:Nat} {enc:α->List ae} {Q:α->Prop} {ts:List TypeId} {cs:List ae} (aL:P.underlying t=some (.slice e)) (aC:P.cellsOf e=z) (aw:∀ r,dq P [e] r->∃ x,r=enc x/\Q x) (h:dq P (t::ts) cs) :
  ∃ (s:eh α) (cs' : List ae),cs=cO z enc s::cs'/\s.l.length<=maxLen/\(∀ x∈s.l,Q x)/\dq P ts cs':=by
 obtain⟨cs',h1,rfl | ⟨es,rfl,ar,aD⟩⟩:=apo aL h
 ·exact⟨none,cs',rfl,Nat.zero_le _,fun x ak=>(by cases ak),h1⟩
 ·obtain⟨xs,rfl,xn⟩:=abm (enc:=enc) (Q:=Q) es (fun r jD=>aw r (aD r jD));refine⟨some xs,cs',?_,by simpa using ar,xn,h1⟩;rw[aC]; rfl
theorem api {t:TypeId} {c:ae} (aI:dC P t=some true) (h:rh P t c) :∃ cs,c=.aV cs/\dq P [t] cs:=by
 unfold rh at h; rw[aI] at h; exact h
theorem apj {t:TypeId} {c:ae} (aI:dC P t=some false) (h:rh P t c) :dq P [t] [c] :=by
 unfold rh at h; rw[aI] at h; exact h
theorem ace {t:TypeId} {ts:List TypeId} {cs:List ae} (h:kF P (t::ts) cs) :∃ c cs',cs=c::cs'/\rh P t c/\kF P ts cs':=by
 cases h with
 | cons h1 ag=>exact⟨_,_,rfl,h1,ag⟩
theorem apg {cs:List ae} (h:kF P [] cs) :cs=[] :=by cases h; rfl
end
end Go.cj

namespace Go.cj
open Go Go.ChangeShapes Go.RowKit
theorem ab9 {H:Type} {enc:TypeId × Value->H} {P:Program} (ar:laidOutB P=true) {W ri:World} (aj:Below W.heap.size W ri) :∀ {ts:List TypeId} {vs:List Value} {gY:List (DataW H)} {cy:List MemPlace},
  (∀ t∈ts,P.readableRec t=true/\t<P.types.size)->DataW.TrodAll enc P W 0 (fun _=>true) true ts vs gY cy->DataW.TrodAll enc P ri 0 (fun b=>decide (b<W.heap.size)) true ts vs gY cy
 | [],vs,gY,cy,_,h=>by
  obtain⟨rfl,rfl,rfl⟩:=trodAll_nil h;exact trodAll_mk0
 | t::ts,vs,gY,cy,aD,h=>by
  have aS:=h.lt;obtain⟨v,apI,d,afH,a,b,rfl,rfl,rfl,h1,ag⟩:=trodAll_cons h;exact⟨a,b,Below.trod ar (aD t (by simp)).1 (aD t (by simp)).2 h1 aj (fun x ak=>aS x (by simp[ak])),ab9 ar aj (fun t aW=>aD t (by simp[aW])) ag,rfl⟩
theorem ak5 {P:Program} {G:Nat->ae} (kq:P.follows .mixedOrders=true) (jt:∀ g,(G g).closed=true) {f:FuncId} {ts:List TypeId} (D:Nat) (aG:∀ t∈ts,sl P D t=true) (ait:laidOutB P=true)
  (cA:∀ t∈ts,P.readableRec t=true/\t<P.types.size) (ak3:∀ cs,kF P ts cs->dp P G f cs [] (c:=⟨fun r _=>r=.bool true⟩))
  {H:Type} {enc:TypeId × Value->H} {W:World} {gb:Nat} {args:Array Value} {gY:List (DataW H)} {cy:List MemPlace} (ay:∀ g,eN W (fun _=>True) (G g) (.pointer (some ⟨g,0,none⟩)))
  (dP:∀ (j:Nat) t v,ts[j]? = some t->args[j]? = some v->Value.okWide P W .any gb t v) (h:DataW.TrodAll enc P W 0 (fun _=>true) true ts args.toList gY cy) :
  Calls P f args W fun e w'=>e=.returned (.bool true)/\Below W.heap.size W w'/\DataW.TrodAll enc P w' 0 (fun b=>decide (b<W.heap.size)) true ts args.toList gY cy:=by
 obtain⟨cs,xd,bw,rY⟩:=Oz (A:=fun _=>True) (fun _=>trivial) aG (fun j t v aW ax=>dP j t v aW (by simpa using ax)) h;exact (ak4 kq jt (ak3 cs xd) ay (by rw[bw]; simp) (fun j c v al ax=>rY j c v al (by simpa using ax))).mono fun e w' ⟨aw,aj⟩=>⟨aw,aj,ab9 ait aj cA h⟩
end Go.cj

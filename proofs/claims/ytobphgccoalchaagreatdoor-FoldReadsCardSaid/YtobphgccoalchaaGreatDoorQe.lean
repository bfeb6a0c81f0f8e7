/-
  The canonical machine, part X: what must hold behind code without types holds behind the code.
-/
import Derived.Test.YtobphgccoalchaaGreatDoorQd
import GoSem.ClaimChange
import GoSem.ClaimWide
import Derived.ProofKit
set_option linter.unusedVariables false
set_option linter.unusedSimpArgs false
set_option linter.unnecessarySimpa false
namespace Go.b2
open Go
section
variable {P:Program} {G:Nat->U}
theorem Rm {op:Op} {m:da} (hm:mV P op=some m) (ao:kh op=false) :m.looks=true\/m.iF=true:=by
 cases op<;>simp only[kh,awb,reduceCtorEq] at ao<;>simp only[mV] at hm<;>try (cases hm; done)
 case move=>cases hm; exact .inl rfl
 case assign=>cases hm; exact .inl rfl
 case pick=>cases hm; exact .inl rfl
 case alloc=>rw[map_some] at hm; obtain⟨_,_,rfl⟩:=hm; exact .inr rfl
 case box=>cases hm; exact .inr rfl
 case build=>simp only[bind_some,map_some] at hm; obtain⟨_,_,_,_,rfl⟩:=hm; exact .inl rfl
 case buildSlice=>simp only[bind_some,ia] at hm; obtain⟨_,_,_,_,_,_,_,rfl⟩:=hm; exact .inr rfl
 case load=>split at hm<;>cases hm<;>exact .inl rfl
 case nilCheck=>cases hm; exact .inl rfl
 case binOp=>cases hm; exact .inl rfl
 case unOp=>cases hm; exact .inl rfl
 case convert=>
  repeat' split at hm
  all_goals first | (cases hm; done) | (cases hm; exact .inl rfl)
 case makeInterface=>split at hm<;>cases hm; exact .inl rfl
 case makeFunc f a b=>cases f<;>simp only at hm<;>cases hm; exact .inl rfl
 case makeSlice=>simp only[bind_some,ia] at hm; obtain⟨_,_,_,_,_,_,_,_,_,rfl⟩:=hm; exact .inr rfl
 case slice=>rw[map_some] at hm; obtain⟨_,_,rfl⟩:=hm; exact .inl rfl
 case fieldAddr=>rw[bind_some] at hm; obtain⟨_,_,hm⟩:=hm; split at hm<;>cases hm; exact .inl rfl
 case field=>rw[bind_some] at hm; obtain⟨_,_,hm⟩:=hm; split at hm<;>cases hm<;>exact .inl rfl
 case indexAddr=>split at hm<;>cases hm<;>exact .inl rfl
 case index=>
  repeat' split at hm
  all_goals first | (cases hm; done) | (cases hm; exact .inl rfl)
 case extract=>cases hm; exact .inl rfl
 case call c=>
  split at hm
  ·rename_i b ag;rw[ag] at ao;cases b<;>simp only[awb,reduceCtorEq] at ao<;>unfold vm at hm<;>(repeat' split at hm)<;>first
    | (cases hm; done)
    | (cases hm; exact .inl rfl)
    | (rw[map_some] at hm; obtain⟨_,_,rfl⟩:=hm; exact .inl rfl)
    | (exfalso; simp only[reduceCtorEq] at *; done)
  ·rename_i f aD;rw[aD] at ao; cases ao
  ·cases hm
theorem Rn {op:Op} {m:da} (hm:mV P op=some m) (aI:tb P op=false) :m.reads=false/\m.iF=false:=by
 cases op<;>simp only[tb,awb,reduceCtorEq] at aI<;>simp only[mV] at hm<;>try (cases hm; done)
 case move=>cases hm; exact⟨rfl,rfl⟩
 case assign=>cases hm; exact⟨rfl,rfl⟩
 case pick=>cases hm; exact⟨rfl,rfl⟩
 case build=>simp only[bind_some,map_some] at hm; obtain⟨_,_,_,_,rfl⟩:=hm; exact⟨rfl,rfl⟩
 case store=>rw[map_some] at hm; obtain⟨_,_,rfl⟩:=hm; exact⟨rfl,rfl⟩
 case nilCheck=>cases hm; exact⟨rfl,rfl⟩
 case binOp=>cases hm; exact⟨rfl,rfl⟩
 case unOp=>cases hm; exact⟨rfl,rfl⟩
 case makeInterface=>split at hm<;>cases hm; exact⟨rfl,rfl⟩
 case makeFunc f a b=>cases f<;>simp only at hm<;>cases hm; exact⟨rfl,rfl⟩
 case typeAssert=>rw[map_some] at hm; obtain⟨_,_,rfl⟩:=hm; exact⟨rfl,rfl⟩
 case slice=>rw[map_some] at hm; obtain⟨_,_,rfl⟩:=hm; exact⟨rfl,rfl⟩
 case fieldAddr=>rw[bind_some] at hm; obtain⟨_,_,hm⟩:=hm; split at hm<;>cases hm; exact⟨rfl,rfl⟩
 case field=>rw[bind_some] at hm; obtain⟨_,_,hm⟩:=hm; split at hm<;>cases hm<;>exact⟨rfl,rfl⟩
 case indexAddr=>split at hm<;>cases hm<;>exact⟨rfl,rfl⟩
 case index=>
  repeat' split at hm
  all_goals first | (cases hm; done) | (cases hm; exact⟨rfl,rfl⟩)
 case extract=>cases hm; exact⟨rfl,rfl⟩
 case next it b=>cases b<;>simp only[reduceCtorEq] at hm<;>cases hm; exact⟨rfl,rfl⟩
 case panic=>cases hm; exact⟨rfl,rfl⟩
 case lookup=>split at hm<;>(try cases hm; done); rw[map_some] at hm; obtain⟨_,_,rfl⟩:=hm; exact⟨rfl,rfl⟩
 case mapUpdate=>split at hm<;>cases hm; exact⟨rfl,rfl⟩
 case insert=>split at hm<;>cases hm; exact⟨rfl,rfl⟩
 case makeMap=>split at hm<;>cases hm; exact⟨rfl,rfl⟩
 case range=>split at hm<;>cases hm; exact⟨rfl,rfl⟩
 case call c=>
  split at hm
  ·rename_i b ag;rw[ag] at aI;unfold vm at hm
   repeat' split at hm
   all_goals first
    | (cases hm; done)
    | (exfalso; simp_all; done)
    | (cases hm; exact⟨rfl,rfl⟩)
    | (simp only[bind_some,map_some] at hm; obtain⟨_,_,rfl⟩:=hm; exact⟨rfl,rfl⟩)
    | (simp only[bind_some,map_some] at hm; obtain⟨_,_,_,_,rfl⟩:=hm; exact⟨rfl,rfl⟩)
    | (simp only[bind_some,ia] at hm; obtain⟨_,_,_,_,_,_,_,rfl⟩:=hm; exact⟨rfl,rfl⟩)
    | (simp only[bind_some,ia] at hm; obtain⟨_,_,_,_,_,_,_,_,_,rfl⟩:=hm; exact⟨rfl,rfl⟩)
  ·split at hm
   ·rw[ia] at hm; obtain⟨_,rfl⟩:=hm; exact⟨rfl,rfl⟩
   ·cases hm
  ·cases hm
inductive mJ (P:Program) (G:Nat->U) (s:eg) (o:Oper) (ae:a7) (l:am) (v:U) (l1:am) :bK->Prop
 | pure (m:da) (ag:s.b=.gE m) (hm:m.looks=true) (ak:l1=l) (al:bO P (cR G ae) l m=some (v,l)) :mJ P G s o ae l v l1 (.pure s.i v)
 | new (m:da) (cs:List U) (ag:s.b=.gE m) (hm:m.iF=true) (ak:l1=l++[.cells cs.length cs]) :mJ P G s o ae l v l1 (.new s.i v cs)
 | gj (ao:kh o.op=true) (bh:l.length<=l1.length) :mJ P G s o ae l v l1 (.gj s.i v (bU l1))
theorem mJ.idx {s:eg} {o:Oper} {ae:a7} {l l1:am} {v:U} {t:bK} (k:mJ P G s o ae l v l1 t) :t.idx=s.i:=by cases k<;>rfl
theorem mJ.val {s:eg} {o:Oper} {ae:a7} {l l1:am} {v:U} {t:bK} (k:mJ P G s o ae l v l1 t) :t.val=v:=by cases k<;>rfl
theorem mJ.next {s:eg} {o:Oper} {ae:a7} {l l1:am} {v:U} {t:bK} (k:mJ P G s o ae l v l1 t) :qd (bU l) t=bU l1:=by
 cases k with
 | pure m ag hm ak al=>rw[ak]; rfl
 | new m cs ag hm ak=>rw[ak,<-lY]; rfl
 | gj ao _=>rfl
theorem akX {ops:Array Oper} {s:eg} {o:Oper} (ok:pq P ops s o) {ae:a7} (hw:ks ops ae o=some true) {l:am} {K:U->am->Prop} (h:hG P G s.b ae l K) :
  ∃ v l1 t,mJ P G s o ae l v l1 t/\w7 P G ops ⟨ae,bU l⟩ t/\K v l1:=by
 obtain⟨v,l1,h1,ad,aj,aF⟩:=XI ok h;have kA:kh o.op=true->∃ v l1 t,mJ P G s o ae l v l1 t/\w7 P G ops ⟨ae,bU l⟩ t/\K v l1:=fun ao=>⟨v,l1,_,.gj ao ad,⟨o,ok.here,hw,h1,by simpa using ad⟩,aj⟩
 cases ag:s.b with
 | gE m=>
  have hm:=ok.gE m ag;cases ao:kh o.op with
  | true=>exact kA ao
  | false=>
   have al:=aF m ag (Rm hm ao);rcases Rm hm ao with ak | aC
   ·have:=Vz ak al;subst this;exact⟨v,l1,_,.pure m ag ak rfl al,⟨o,ok.here,hw⟩,aj⟩
   ·obtain⟨cs,mk,aW,bt,dq⟩:=ahM hm aC al;exact⟨v,l1,_,.new m cs ag aC dq,⟨o,mk,ok.here,hw,aW,bt⟩,aj⟩
 | l5 f args=>
  obtain⟨c,gx,ah,_⟩:=ok.l5 f args ag;exact kA (by rw[gx]; simp only[kh,ah])
 | mQ x args=>
  obtain⟨c,gx,ah,_⟩:=ok.mQ x args ag;exact kA (by rw[gx]; simp only[kh,ah])
 | nH x name args=>
  obtain⟨c,gx,ah,_⟩:=ok.nH x name args ag;exact kA (by rw[gx]; simp only[kh,ah])
inductive jX (P:Program) (G:Nat->U) (ops:Array Oper) :List eg->a7->am->ik->List (bK × a7 × am)->a7->am->Prop
 | nil {ae l seen}:jX P G ops [] ae l seen [] ae l
 | skip {s o r ae l seen es bY l'}:pq P ops s o->ks ops ae o=some false->jX P G ops r (hc ae s.dst he) l seen es bY l'->jX P G ops (s::r) ae l seen ((.skip s.i,ae,l) ::es) bY l'
 | step {s o r ae l v l1 t seen es bY l'}:pq P ops s o->mJ P G s o ae l v l1 t->w7 P G ops ⟨ae,bU l⟩ t->pz s.hh seen l1->
   jX P G ops r (hc ae s.dst v) l1 (rD s.cq s.i (lo P G s.b ae v l l1) seen) es bY l'->jX P G ops (s::r) ae l seen ((t,ae,l) ::es) bY l'
theorem MR {ops:Array Oper} {K:a7->am->Prop}:∀ {s:List eg} {ae:a7} {l:am} {seen:ik},(∀ x∈s,∃ o,pq P ops x o)->jv P G s ae l seen K->∃ es bY l',jX P G ops s ae l seen es bY l'/\K bY l'
 | [],ae,l,seen,_,h=>⟨[],ae,l,.nil,h⟩
 | s::r,ae,l,seen,dG,h=>by
  obtain⟨o,ok⟩:=dG s (by simp);rcases U3 ok h with ⟨hw,h⟩ | ⟨hw,h⟩
  ·obtain⟨v,l1,t,h1,ad,aj,aF⟩:=akX ok hw h;obtain⟨es,bY,l',aW,bt⟩:=MR (fun x af=>dG x (by simp[af])) aF;exact⟨_,bY,l',.step ok h1 ad aj aW,bt⟩
  ·obtain⟨es,bY,l',aW,bt⟩:=MR (fun x af=>dG x (by simp[af])) h;exact⟨_,bY,l',.skip ok hw aW,bt⟩
theorem MT {K:a7->am->Prop}:∀ {s:List eg} {ae:a7} {l:am},(∀ x∈s,x.cq=false)->i9 P G s ae l K->jv P G s ae l [] K
 | [],ae,l,_,h=>h
 | s::r,ae,l,hk,h=>by
  have mono:∀ (b:qx) (K gp:U->am->Prop),(∀ v l,K v l->gp v l)->hG P G b ae l K->hG P G b ae l gp:=by
   intro b K gp aV h;cases b with
   | gE m=>simp only[hG,y6] at h ⊢; obtain⟨v,h1,ad⟩:=h; exact⟨v,h1,Vj aV ad⟩
   | l5 f args=>obtain⟨r,l',h1,ad,aj⟩:=h; exact⟨r,l',h1,ad,aV _ _ aj⟩
   | mQ x args=>
    simp only[hG,vf] at h ⊢;split at h
    ·obtain⟨aE,r,l',h1,ad,aj⟩:=h; exact⟨aE,r,l',h1,ad,aV _ _ aj⟩
    ·cases h
   | nH x name args=>
    simp only[hG,ve] at h ⊢;split at h
    ·split at h
     ·obtain⟨aE,r,l',h1,ad,aj⟩:=h; exact⟨aE,r,l',h1,ad,aV _ _ aj⟩
     ·cases h
    ·cases h
  have acn:∀ (g:Option (Option Tmp × Bool)) (p q bI fl:Prop),(p->bI)->(q->fl)->qa ae g p q->qa ae g bI fl:=by
   intro g p q bI fl ay aZ h;unfold qa at h ⊢;split at h
   ·exact ay h
   ·rename_i d w;simp only[rc] at h ⊢;split at h
    ·rw[De] at h ⊢;rcases h with ⟨a,b⟩ | ⟨a,b⟩
     ·exact .inl ⟨a,ay b⟩
     ·exact .inr ⟨a,aZ b⟩
    ·cases h
    ·exact aZ h
   ·exact aZ h
  have xP:s.cq=false:=hk s (by simp);refine acn _ _ _ _ _ (mono _ _ _ fun v l' h=>?_) (fun h=>MT (fun x af=>hk x (by simp[af])) h) h;refine⟨trivial,?_⟩;rw[xP];exact MT (fun x af=>hk x (by simp[af])) h
theorem mJ.len {s:eg} {o:Oper} {ae:a7} {l l1:am} {v:U} {t:bK} (k:mJ P G s o ae l v l1 t) :l.length<=l1.length:=by
 cases k with
 | pure m ag hm ak al=>rw[ak]; exact att _
 | new m cs ag hm ak=>rw[ak]; simp
 | gj ao bh=>exact bh
theorem jX.len {ops:Array Oper} {s:List eg} {ae bY:a7} {l l' : am} {seen:ik} {es:List (bK × a7 × am)} (h:jX P G ops s ae l seen es bY l') :l.length<=l'.length:=by
 induction h with
 | nil=>exact att _
 | skip _ _ _ aH=>exact aH
 | step _ k _ _ _ aH=>exact auV k.len aH
def tV (es:List (bK × a7 × am)) (l' : am) (q:Nat) :am:=match es[q]? with | some x=>x.2.2 | none=>l'
theorem jX.here {ops:Array Oper} {s:List eg} {ae bY:a7} {l l' : am} {seen:ik} {es:List (bK × a7 × am)} (h:jX P G ops s ae l seen es bY l') :tV es l' 0=l:=by
 cases h<;>rfl
theorem jX.idx {ops:Array Oper} {s:List eg} {ae bY:a7} {l l' : am} {seen:ik} {es:List (bK × a7 × am)} (h:jX P G ops s ae l seen es bY l') :es.map (fun e=>e.1.idx)=s.map (·.i) :=by
 induction h with
 | nil=>rfl
 | skip _ _ _ aH=>simp only[atY,aH]; rfl
 | step _ k _ _ _ aH=>simp only[atY,aH,k.idx]
theorem jX.at {ops:Array Oper} {s:List eg} {ae bY:a7} {l l' : am} {seen:ik} {es:List (bK × a7 × am)} (h:jX P G ops s ae l seen es bY l') :
  (∀ (p:Nat) (e:bK × a7 × am),es[p]? = some e->w7 P G ops ⟨e.2.1,bU e.2.2⟩ e.1/\gI ops ⟨ae,bU l⟩ (es.map (·.1)) p=⟨e.2.1,bU e.2.2⟩)/\gI ops ⟨ae,bU l⟩ (es.map (·.1)) es.length=⟨bY,bU l'⟩:=by
 induction h with
 | nil=>exact⟨fun p e ao=>by simp at ao,rfl⟩
 | @skip s o r ae l seen es bY l' ok hw _ aH=>
  have mh:lR ops ⟨ae,bU l⟩ (.skip s.i)=⟨hc ae s.dst he,bU l⟩:=by simp only[lR,xh,bK.idx,ok.here,au5,bK.val,qd,ok.dst]
  refine⟨fun p e ao=>?_,?_⟩
  ·cases p with
   | zero=>simp only[atT,Option.some.injEq] at ao; subst ao; exact⟨⟨o,ok.here,hw⟩,rfl⟩
   | succ p=>
    simp only[at5] at ao;obtain⟨h1,ad⟩:=aH.1 p e ao;refine⟨h1,?_⟩;rw[atY,HC,mh]; exact ad
  ·rw[atY,atL,HC,mh]; exact aH.2
 | @step s o r ae l v l1 t seen es bY l' ok k al ah _ aH=>
  have mh:lR ops ⟨ae,bU l⟩ t=⟨hc ae s.dst v,bU l1⟩:=by simp only[lR,xh,k.idx,ok.here,au5,k.val,k.next,ok.dst]
  refine⟨fun p e ao=>?_,?_⟩
  ·cases p with
   | zero=>simp only[atT,Option.some.injEq] at ao; subst ao; exact⟨al,rfl⟩
   | succ p=>
    simp only[at5] at ao;obtain⟨h1,ad⟩:=aH.1 p e ao;refine⟨h1,?_⟩;rw[atY,HC,mh]; exact ad
  ·rw[atY,atL,HC,mh]; exact aH.2
theorem jX.still {ops:Array Oper} {s:List eg} {ae bY:a7} {l l' : am} {seen:ik} {es:List (bK × a7 × am)} (h:jX P G ops s ae l seen es bY l') (j:Nat) (S:am->Prop)
  (pS:∀ l x,S l->S (l++x)) (aE:S l) :∀ q,q<=es.length->(∀ (p:Nat) (e:bK × a7 × am),p<q->es[p]? = some e->e.1.i2=true->(j,S)∈seen/\∃ x,s[p]? = some x/\j∈x.hh)->S (tV es l' q) :=by
 have aaw:∀ {ids:List Nat} {seen:ik} {l:am},pz ids seen l->(j,S)∈seen->j∈ids->S l:=by
  intro ids seen l ah hm av
  induction seen with
  | nil=>cases hm
  | cons e r aH=>
   obtain⟨h1,ad⟩:=ah;rcases aub.1 hm with rfl | hm
   ·exact h1 (by simpa using av)
   ·exact aH ad hm
 induction h with
 | nil=>
  intro q aZ _; simp only[at7] at aZ; obtain rfl:q=0:=by omega
  exact aE
 | @skip s o r ae l seen es bY l' ok hw _ aH=>
  intro q aZ zJ;cases q with
  | zero=>exact aE
  | succ q=>exact aH aE q (by simpa using aZ) (fun p e ay ao eB=>by
    obtain⟨h1,x,ad,aj⟩:=zJ (p+1) e (by omega) (by simpa using ao) eB;exact⟨h1,x,by simpa using ad,aj⟩)
 | @step s o r ae l v l1 t seen es bY l' ok k al ah _ aH=>
  intro q aZ zJ;cases q with
  | zero=>exact aE
  | succ q=>
   have h1:S l1:=by
    cases k with
    | pure m ag hm ak _=>rw[ak]; exact aE
    | new m cs ag hm ak=>rw[ak]; exact pS _ _ aE
    | gj ao _=>
     obtain⟨h1,x,ad,aj⟩:=zJ 0 _ (by omega) rfl rfl;simp only[atT,Option.some.injEq] at ad;subst ad;exact aaw ah h1 aj
   refine aH h1 q (by simpa using aZ) (fun p e ay ao eB=>?_);obtain⟨h1,x,ad,aj⟩:=zJ (p+1) e (by omega) (by simpa using ao) eB;refine⟨?_,x,by simpa using ad,aj⟩;unfold rD;cases s.cq with
   | false=>exact h1
   | true=>exact av0 _ h1
theorem jX.split {ops:Array Oper} {s:List eg} {ae bY:a7} {l l' : am} {seen:ik} {es:List (bK × a7 × am)} (h:jX P G ops s ae l seen es bY l') :∀ (p:Nat) (e:bK × a7 × am),es[p]? = some e->e.1.ur=false->
  ∃ x o v l1 wI,s[p]? = some x/\pq P ops x o/\mJ P G x o e.2.1 e.2.2 v l1 e.1 ∧
   jX P G ops (s.drop (p+1)) (hc e.2.1 x.dst v) l1 (rD x.cq x.i (lo P G x.b e.2.1 v e.2.2 l1) wI) (es.drop (p+1)) bY l':=by
 induction h with
 | nil=>intro p e ao; simp at ao
 | @skip s o r ae l seen es bY l' ok hw _ aH=>
  intro p e ao gO;cases p with
  | zero=>simp only[atT,Option.some.injEq] at ao; subst ao; cases gO
  | succ p=>
   obtain⟨x,cJ,v,l1,wI,h1,ad,aj,aF⟩:=aH p e (by simpa using ao) gO;exact⟨x,cJ,v,l1,wI,by simpa using h1,ad,aj,by simpa using aF⟩
 | @step s o r ae l v l1 t seen es bY l' ok k al ah tr aH=>
  intro p e ao gO;cases p with
  | zero=>
   simp only[atT,Option.some.injEq] at ao; subst ao;exact⟨s,o,v,l1,seen,rfl,ok,k,by simpa using tr⟩
  | succ p=>
   obtain⟨x,cJ,v,l1,wI,h1,ad,aj,aF⟩:=aH p e (by simpa using ao) gO;exact⟨x,cJ,v,l1,wI,by simpa using h1,ad,aj,by simpa using aF⟩
end

section
variable {P:Program} {G:Nat->U}
theorem Wo {ms:List Nat} {ops:Array Oper}:∀ (jR done kA:List Nat),(∀ i∈jR,i<ops.size)->(n4 P ms ops jR done kA).map (·.1)=jR
 | [],_,_,_=>rfl
 | i::r,done,kA,h=>by
  unfold n4;have av:i<ops.size:=h i (by simp);rw[auT av];simp only;split<;>simp only[atY]<;>rw[Wo r _ _ fun j ai=>h j (by simp[ai])]
theorem Mo {ms:List Nat} {ops:Array Oper}:∀ (jR done kA:List Nat) (p i:Nat) (hh:List Nat),(∀ i∈jR,i<ops.size)->(n4 P ms ops jR done kA)[p]? = some (i,hh)->
  (∃ o,ops[i]? = some o/\kh o.op=true)->∀ j,(j∈done\/∃ fU,fU<p/\jR[fU]? = some j)->(∃ o,ops[j]? = some o/\tb P o.op=true)->(∀ e∈kA,o7 ms e j=false)->
  (∀ (bI iZ:Nat) (o:Oper),bI<=p->jR[bI]? = some iZ->ops[iZ]? = some o->kh o.op=true->(bI=p\/o.guard=none)->o7 ms iZ j=false)->j∈hh
 | [],done,kA,p,i,hh,_,ay,_,_,_,_,_,_=>by simp[n4] at ay
 | x::r,done,kA,p,i,hh,ng,ay,ao,j,ai,aI,FN,z7=>by
  unfold n4 at ay;have af:x<ops.size:=ng x (by simp);rw[auT af] at ay;have KF:ops[x]? = some ops[x] :=auT af;simp only at ay;have ax:∀ i∈r,i<ops.size:=fun j ai=>ng j (by simp[ai])
  cases eB:kh ops[x].op with
  | true=>
   rw[eB] at ay;simp only at ay;cases p with
   | zero=>
    simp only[atT,Option.some.injEq,Prod.mk.injEq] at ay;obtain⟨rfl,rfl⟩:=ay;obtain⟨o,h1,ad⟩:=aI;rcases ai with ai | ⟨fU,Uj,_⟩
    ·refine auI.2 ⟨ai,?_⟩;simp only[h1,ad,auu,awF,atv,aue];exact⟨by simp[z7 0 x ops[x] (att _) (by simp) KF eB (.inl rfl)],fun e ao=>by simp[FN e ao]⟩
    ·omega
   | succ p=>
    simp only[at5] at ay;refine Mo r _ _ p i hh ax ay ao j ?_ aI ?_ ?_
    ·rcases ai with ai | ⟨fU,Uj,ai⟩
     ·exact .inl (by simp[ai])
     ·cases fU with
      | zero=>simp only[atT,Option.some.injEq] at ai; exact .inl (by simp[ai])
      | succ fU=>exact .inr ⟨fU,by omega,by simpa using ai⟩
    ·intro e gk;cases ar:ops[x].guard with
     | none=>
      rw[ar] at gk;rcases aub.1 gk with rfl | gk
      ·exact z7 0 e ops[e] (by omega) (by simp) KF eB (.inr ar)
      ·exact FN e gk
     | some kj=>rw[ar] at gk; exact FN e gk
    ·intro bI iZ o fR fC ap xw ar;exact z7 (bI+1) iZ o (by omega) (by simpa using fC) ap xw (by rcases ar with rfl | ar; exact .inl rfl; exact .inr ar)
  | false=>
   rw[eB] at ay;simp only at ay;cases p with
   | zero=>
    simp only[atT,Option.some.injEq,Prod.mk.injEq] at ay;obtain⟨rfl,rfl⟩:=ay;obtain⟨o,h1,ad⟩:=ao;rw[KF] at h1; cases h1;rw[eB] at ad; cases ad
   | succ p=>
    simp only[at5] at ay;refine Mo r _ _ p i hh ax ay ao j ?_ aI FN ?_
    ·rcases ai with ai | ⟨fU,Uj,ai⟩
     ·exact .inl (by simp[ai])
     ·cases fU with
      | zero=>simp only[atT,Option.some.injEq] at ai; exact .inl (by simp[ai])
      | succ fU=>exact .inr ⟨fU,by omega,by simpa using ai⟩
    ·intro bI iZ o fR fC ap xw ar;exact z7 (bI+1) iZ o (by omega) (by simpa using fC) ap xw (by rcases ar with rfl | ar; exact .inl rfl; exact .inr ar)
theorem Rz {ms:List Nat} {ops:Array Oper}:∀ {jR:List Nat},BS ms ops jR=true->∀ (p bI i j:Nat) (o:Oper),jR[p]? = some i->jR[bI]? = some j->p<bI->ops[i]? = some o->kh o.op=true->o7 ms j i=true
 | [],_,p,bI,i,j,o,ay,_,_,_,_=>by simp at ay
 | x::r,h,p,bI,i,j,o,ay,fR,aK,ap,ao=>by
  simp only[BS,atv] at h;cases bI with
  | zero=>omega
  | succ bI=>
   simp only[at5] at fR;cases p with
   | zero=>
    simp only[atT,Option.some.injEq] at ay;subst ay;rw[ap] at h;simp only[ao,Bool.not_true,awe,aue] at h;exact h.1 j (atz fR)
   | succ p=>exact Rz h.2 p bI i j o (by simpa using ay) fR (by omega) ap ao
theorem GO {α jB:Type} {f:α->Option jB}:∀ {l:List α} {r:List jB},l.mapM f=some r->∀ (p:Nat) (x:jB),r[p]? = some x->∃ a,l[p]? = some a/\f a=some x
 | [],r,h,p,x,af=>by simp at h; subst h; simp at af
 | a::l,r,h,p,x,af=>by
  rw[au7] at h;simp only[Option.bind_eq_bind,bind_some,ava,Option.some.injEq] at h;obtain⟨b,h1,cr,ad,rfl⟩:=h;cases p with
  | zero=>simp only[atT,Option.some.injEq] at af; subst af; exact⟨a,rfl,h1⟩
  | succ p=>obtain⟨eQ,aj,aF⟩:=GO ad p x (by simpa using af); exact⟨eQ,by simpa using aj,aF⟩
theorem LY {α jB:Type} {f:α->Option jB}:∀ {l:List α} {r:List jB},l.mapM f=some r->r.length=l.length
 | [],r,h=>by simp at h; subst h; rfl
 | a::l,r,h=>by
  rw[au7] at h;simp only[Option.bind_eq_bind,bind_some,ava,Option.some.injEq] at h;obtain⟨b,h1,cr,ad,rfl⟩:=h;simp[LY ad]
theorem ad3 (es:List (bK × a7 × am)) (l' : am) (n q:Nat) :tV (es.drop n) l' q=tV es l' (n+q) :=by
 unfold tV; rw[at6]
theorem aa9 {id N' : Nat} {ops:Array Oper} {wN:List eg} (bq:∀ (i:Nat) (o:Oper),ops[i]? = some o->pF N' o.dst=true)
  (ng:Md (iu ops) ops (fo (iu ops) ops)=true) (ad2:BS (iu ops) ops (fo (iu ops) ops)=true)
  (cw:(n4 P (iu ops) ops (fo (iu ops) ops) [] []).mapM (fun p=>DX P ops p.1 p.2 (((n4 P (iu ops) ops (fo (iu ops) ops) [] []).flatMap (·.2)).contains p.1))=some wN)
  {ae bY:a7} {l l' : am} {es:List (bK × a7 × am)} (tr:jX P G ops wN ae l [] es bY l') :dn P G (.code (.region id ops true) N' ae (bU l) .normal bY (bU l')) :=by
 simp only[Md,atv] at ng;obtain⟨⟨⟨⟨yu,n3⟩,qe⟩,sP⟩,iG⟩:=ng;have KS:∀ i∈fo (iu ops) ops,i<ops.size:=fun i av=>by
  rw[aue] at sP;simpa [awE] using sP i av
 have Un:(n4 P (iu ops) ops (fo (iu ops) ops) [] []).map (·.1)=fo (iu ops) ops:=Wo _ _ _ KS;have Gg:∀ (p:Nat) (x:eg),wN[p]? = some x->∃ o,pq P ops x o/\(n4 P (iu ops) ops (fo (iu ops) ops) [] [])[p]? = some (x.i,x.hh) ∧
   x.cq=((n4 P (iu ops) ops (fo (iu ops) ops) [] []).flatMap (·.2)).contains x.i:=fun p x af=>by
  obtain⟨a,h1,ad⟩:=GO cw p x af;obtain⟨o,aj,aF,aW,bt⟩:=HE ad;exact⟨o,aj,by rw[h1,aF,aW],by rw[bt,aF]⟩
 have UA:∀ (p:Nat) (x:eg),wN[p]? = some x->(fo (iu ops) ops)[p]? = some x.i:=fun p x af=>by
  obtain⟨o,_,h1,_⟩:=Gg p x af;rw[<-Un,atw,h1]; rfl
 have vK:∀ (p:Nat) (e:bK × a7 × am),es[p]? = some e->∃ x,wN[p]? = some x/\x.i=e.1.idx:=fun p e ao=>by
  have:=congrArg (·[p]?) tr.idx;simp only[atw,ao,atA] at this;cases af:wN[p]? with
  | none=>rw[af] at this; cases this
  | some x=>rw[af] at this; simp only[atA,Option.some.injEq] at this; exact⟨x,rfl,this.symm⟩
 have sv:∀ (p:Nat) (e:bK × a7 × am),es[p]? = some e->(fo (iu ops) ops)[p]? = some e.1.idx:=fun p e ao=>by
  obtain⟨x,h1,ad⟩:=vK p e ao;rw[UA p x h1,ad]
 have eY:∀ (p:Nat) (t:bK),(es.map (·.1))[p]? = some t->∃ e,es[p]? = some e/\e.1=t:=fun p t aI=>by simpa using aI
 have xL:∀ (p:Nat) (e:bK × a7 × am),es[p]? = some e->e.1.i2=true->∃ o,ops[e.1.idx]? = some o/\kh o.op=true/\(ks ops e.2.1 o=some true) :=fun p e ao eB=>by
  have gO:e.1.ur=false:=by cases h:e.1<;>rw[h] at eB<;>first | rfl | cases eB
  obtain⟨x,o,v,l1,wI,h1,ad,aj,aF⟩:=tr.split p e ao gO;have z8:=(tr.at.1 p e ao).1;have fa:=aj.idx;have aG:=ad.here;rw[<-fa] at aG;refine⟨o,aG,?_,?_⟩
  ·revert eB;generalize e.1=t at aj;intro eB;cases aj with
   | pure=>cases eB
   | new=>cases eB
   | gj ao _=>exact ao
  ·revert z8 eB aG;generalize e.1=t;intro eB z8 aG;cases t<;>first | (cases eB; done) | skip
   obtain⟨cJ,aW,bt,_⟩:=z8;simp only[bK.idx] at aG;rw[aG] at aW; cases aW;exact bt
 have ga:y4 ops (o7 (iu ops)) (es.map (·.1)) :=by
  refine⟨aa7 yu,fun i av=>?_,fun p bI t gb ay fR ao=>?_,fun p t ay=>?_,fun p bI t gb ay fR aK=>?_,fun p bI t gb ay fR aK eB=>?_⟩
  ·rw[aue] at iG;have:=iG i (by simpa using av);have hm:i∈fo (iu ops) ops:=by simpa using this
   have iW:(es.map (·.1)).map bK.idx=fo (iu ops) ops:=by
    rw[avw];show es.map (fun e=>e.1.idx)=_;rw[tr.idx,<-Un];apply auk;intro p;rw[atw,atw];cases af:wN[p]? with
    | none=>
     have:(n4 P (iu ops) ops (fo (iu ops) ops) [] [])[p]? = none:=by
      rw[avD] at af ⊢;rw[<-LY cw]; exact af
     rw[this]; rfl
    | some x=>obtain⟨o,_,h1,_⟩:=Gg p x af; rw[h1]; rfl
   rw[<-iW] at hm;obtain⟨t,h1,ad⟩:=atV.1 hm;obtain⟨p,ay⟩:=avd h1;exact⟨p,t,ay,ad⟩
  ·obtain⟨e,aL,aT⟩:=eY p t ay;obtain⟨fb,B3,B4⟩:=eY bI gb fR;have aS:=sv p e aL;have aX:=sv bI fb B3;rw[aT] at aS; rw[B4] at aX;rcases auz p bI with h | h | h
   ·exact absurd ao (G8 n3 p bI _ _ aS aX h).1
   ·exact h
   ·exact absurd ao.symm (G8 n3 bI p _ _ aX aS h).1
  ·obtain⟨e,aL,aT⟩:=eY p t ay;have aS:=sv p e aL;rw[aT] at aS;exact KS _ (atz aS)
  ·obtain⟨e,aL,aT⟩:=eY p t ay;obtain⟨fb,B3,B4⟩:=eY bI gb fR;have aS:=sv p e aL;have aX:=sv bI fb B3;rw[aT] at aS; rw[B4] at aX;exact (G8 n3 p bI _ _ aS aX aK).2
  ·obtain⟨e,aL,aT⟩:=eY p t ay;obtain⟨fb,B3,B4⟩:=eY bI gb fR;obtain⟨o,dM,dy,_⟩:=xL p e aL (by rw[aT]; exact eB);have aS:=sv p e aL;have aX:=sv bI fb B3;rw[aT] at aS dM; rw[B4] at aX;exact Rz ad2 p bI _ _ o aS aX aK dM dy
 have jN:∀ q,q<=es.length->(gI ops ⟨ae,bU l⟩ (es.map (·.1)) q).h=bU (tV es l' q) :=fun q aZ=>by
  unfold tV;cases ao:es[q]? with
  | none=>
   have:q=es.length:=by rw[avD] at ao; omega
   rw[this,tr.at.2]
  | some e=>rw[(tr.at.1 q e ao).2]
 have qp:H8 P G ops (o7 (iu ops)) ⟨ae,bU l⟩ (es.map (·.1)) :=by
  refine⟨fun p t ay=>?_,fun q aZ p t apR ay dF=>?_⟩
  ·obtain⟨e,aL,aT⟩:=eY p t ay;obtain⟨ca,cy⟩:=tr.at.1 p e aL;rw[cy,<-aT]; exact ca
  ·obtain⟨e,aL,aT⟩:=eY p t ay;obtain⟨ca,cy⟩:=tr.at.1 p e aL;have k5:q<=es.length:=by
    rcases aZ with rfl | ⟨ali,aZ,_⟩
    ·simp
    ·obtain⟨eq,a8,_⟩:=eY q ali aZ;exact avv (atq.1 a8).1
   rw[jN q k5,cy];cases gO:e.1.ur with
   | true=>rw[<-aT]; cases h:e.1<;>rw[h] at gO<;>first | trivial | cases gO
   | false=>
    obtain⟨x,o,v,l1,wI,h1,ad,aj,aF⟩:=tr.split p e aL gO;obtain⟨cJ,gS,gy,aeD⟩:=Gg p x h1;have zZ:cJ=o:=by have a:=gS.here; have b:=ad.here; rw[a] at b; exact Option.some.inj b
    subst zZ;have ask:tb P cJ.op=true->∀ (bI:Nat) (fb:bK × a7 × am),bI<q - (p+1)->(es.drop (p+1))[bI]? = some fb->fb.1.i2=true->
      (x.i,lo P G x.b e.2.1 v e.2.2 l1)∈rD x.cq x.i (lo P G x.b e.2.1 v e.2.2 l1) wI/\∃ y,(wN.drop (p+1))[bI]? = some y/\x.i∈y.hh:=by
     intro aI bI fb fR gk xw;rw[at6] at gk;obtain⟨y,b9,b0⟩:=vK _ fb gk;obtain⟨sV,dK,dP,_⟩:=Gg _ y b9;obtain⟨ah9,jq,agK,aqh⟩:=xL _ fb gk xw;have eG:x.i∈y.hh:=by
      refine Mo _ _ _ _ _ _ KS dP ⟨ah9,by rw[b0]; exact jq,agK⟩ x.i (.inr ⟨p,by omega,UA p x h1⟩) ⟨cJ,ad.here,aI⟩ (fun e ao=>by cases ao) ?_;intro sW Lg G0 apM aek Uh Fi ar
      -- what is at p'' was carried out
      have aK:sW<es.length:=by
       have:=(atq.1 gk).1;omega
      have iW:es[sW]? = some es[sW] :=atu aK;have gV:=sv _ _ iW;rw[aek] at gV;have qY:Lg=es[sW].1.idx:=Option.some.inj gV;have ac0:es[sW].1.i2=true:=by
       cases CR:es[sW].1.ur with
       | true=>
        exfalso;rcases ar with rfl | ar
        ·rw[iW] at gk;cases gk;cases h:es[p+1+bI].1<;>rw[h] at xw CR<;>first | (cases CR; done) | (cases xw; done)
        ·have z8:=(tr.at.1 _ _ iW).1;cases h:es[sW].1<;>rw[h] at CR z8 qY<;>first | (cases CR; done) | skip
         obtain⟨qe,gm,hr⟩:=z8;simp only[bK.idx] at qY;rw[<-qY,Uh] at gm; cases gm;simp[ks,ar] at hr
       | false=>
        obtain⟨A5,qe,v3,dU,asU,gm,hr,rn,_⟩:=tr.split _ _ iW CR;have ael:=rn.idx;have TB:=hr.here;rw[<-ael,<-qY,Uh] at TB; cases TB;revert rn;generalize es[sW].1=t3;intro rn;cases rn with
        | pure m ag hm _ _=>
         exfalso;have ah:=hr.gE m ag;have:kh G0.op=false:=by
          revert ah hm;cases G0.op<;>simp only[mV]<;>intro hm ah<;>first | rfl | (exfalso; revert ah hm; done) | skip
          case store=>rw[map_some] at ah; obtain⟨_,_,rfl⟩:=ah; cases hm
          case call c=>
           split at ah
           ·rename_i b ag;unfold kh;simp only[ag];unfold vm at ah
            repeat' split at ah
            all_goals first
             | rfl
             | (cases ah; done)
             | (cases ah; cases hm; done)
             | (simp only[bind_some,map_some] at ah; obtain⟨_,_,rfl⟩:=ah; cases hm; done)
             | (simp only[bind_some,map_some] at ah; obtain⟨_,_,_,_,rfl⟩:=ah; cases hm; done)
             | (simp only[bind_some,ia] at ah; obtain⟨_,_,_,_,_,_,_,rfl⟩:=ah; cases hm; done)
             | (simp only[bind_some,ia] at ah; obtain⟨_,_,_,_,_,_,_,_,_,rfl⟩:=ah; cases hm; done)
           ·split at ah
            ·rw[ia] at ah; obtain⟨_,rfl⟩:=ah; cases hm
            ·cases ah
           ·cases ah
          case next it b=>(cases b<;>simp only[reduceCtorEq] at ah<;>cases ah<;>cases hm)
          case lookup=>split at ah<;>(try cases ah; done); rw[map_some] at ah; obtain⟨_,_,rfl⟩:=ah; cases hm
          case mapUpdate=>split at ah<;>cases ah; cases hm
          case insert=>split at ah<;>cases ah; cases hm
          case panic=>(cases ah; cases hm)
          case makeMap=>split at ah<;>cases ah; cases hm
          case range=>split at ah<;>cases ah; cases hm
          case typeAssert=>rw[map_some] at ah; obtain⟨_,_,rfl⟩:=ah; cases hm
          all_goals (cases ah)
         rw[this] at Fi; cases Fi
        | new m cs ag hm _=>
         exfalso;have ah:=hr.gE m ag;have:kh G0.op=false:=by
          revert ah hm;cases G0.op<;>simp only[mV]<;>intro hm ah<;>first | rfl | (exfalso; revert ah hm; done) | skip
          case store=>rw[map_some] at ah; obtain⟨_,_,rfl⟩:=ah; cases hm
          case panic=>(cases ah; cases hm)
          case call c=>
           split at ah
           ·rename_i b ag;unfold kh;simp only[ag];unfold vm at ah
            repeat' split at ah
            all_goals first
             | rfl
             | (cases ah; done)
             | (cases ah; cases hm; done)
             | (simp only[bind_some,map_some] at ah; obtain⟨_,_,rfl⟩:=ah; cases hm; done)
             | (simp only[bind_some,map_some] at ah; obtain⟨_,_,_,_,rfl⟩:=ah; cases hm; done)
             | (simp only[bind_some,ia] at ah; obtain⟨_,_,_,_,_,_,_,rfl⟩:=ah; cases hm; done)
             | (simp only[bind_some,ia] at ah; obtain⟨_,_,_,_,_,_,_,_,_,rfl⟩:=ah; cases hm; done)
           ·split at ah
            ·rw[ia] at ah; obtain⟨_,rfl⟩:=ah; cases hm
            ·cases ah
           ·cases ah
          case next it b=>(cases b<;>simp only[reduceCtorEq] at ah<;>cases ah<;>cases hm)
          case lookup=>split at ah<;>(try cases ah; done); rw[map_some] at ah; obtain⟨_,_,rfl⟩:=ah; cases hm
          case mapUpdate=>split at ah<;>cases ah; cases hm
          case insert=>split at ah<;>cases ah; cases hm
          case makeMap=>split at ah<;>cases ah; cases hm
          case range=>split at ah<;>cases ah; cases hm
          case typeAssert=>rw[map_some] at ah; obtain⟨_,_,rfl⟩:=ah; cases hm
          all_goals (cases ah)
         rw[this] at Fi; cases Fi
        | gj _ _=>rfl
      have:=dF sW es[sW].1 (by omega) (by simp[iW]) ac0;rw[qY,ad.here |> fun _=>(aj.idx).symm,aT];exact this
     refine⟨?_,y,by rw[at6]; exact b9,eG⟩;have:x.cq=true:=by
      rw[aeD];simp only[List.contains_iff_mem,awm];exact⟨(y.i,y.hh),atz dP,eG⟩
     rw[this];exact awa
    have E8:tb P cJ.op=true->(∀ l A4,lo P G x.b e.2.1 v e.2.2 l1 l->lo P G x.b e.2.1 v e.2.2 l1 (l++A4))->lo P G x.b e.2.1 v e.2.2 l1 l1->lo P G x.b e.2.1 v e.2.2 l1 (tV es l' q) :=by
     intro aI pS aE;have:=aF.still x.i _ pS aE (q - (p+1)) (by simp only[auw]; omega) (ask aI)
     rwa [ad3,show p+1+(q - (p+1))=q by omega] at this
    rw[<-aT];revert aj E8 ask aT;generalize e.1=t1;intro aT aj ask E8;cases aj with
    | gj=>trivial
    | pure m ag hm ak al=>
     intro n3 mi;rw[ad.here] at mi; cases mi;have ah:=ad.gE m ag;cases ax:m.reads with
     | false=>exact GY ah (ahs hm ax al)
     | true=>
      have aI:tb P cJ.op=true:=by
       cases h:tb P cJ.op with
       | true=>rfl
       | false=>rw[(Rn ah h).1] at ax; cases ax
      have xZ:m.iF=false:=by cases m<;>first | rfl | cases ax
      have cw:∀ b5,lo P G x.b e.2.1 v e.2.2 l1 b5<->bO P (cR G e.2.1) b5 m=some (v,b5) :=fun b5=>by rw[ag]; simp only[lo,xZ]
      have:=E8 aI (fun b5 A4 h=>by rw[cw] at h ⊢; exact ahr hm h) (by rw[cw,ak]; exact al);rw[cw] at this;exact GY ah this
    | new m cs ag hm ak=>
     have ah:=ad.gE m ag;have aI:tb P cJ.op=true:=by
      cases h:tb P cJ.op with
      | true=>rfl
      | false=>rw[(Rn ah h).2] at hm; cases hm
     have cw:∀ b5:am,lo P G x.b e.2.1 v e.2.2 l1 b5<->b5[e.2.2.length]? = some (.cells cs.length cs) :=fun b5=>by
      rw[ag,ak]; simp only[lo,hm]; rw[atC (att _)]; simp
     have:=E8 aI (fun b5 A4 h=>by rw[cw] at h ⊢; rw[ats (fc h)]; exact h) (by rw[cw,ak,atC (att _)]; simp);rw[cw] at this;show (bU (tV es l' q)).f (bU e.2.2).n=_;rw[mI,y1,this]
 have:=dn.aa6 (id:=id) ga bq qp;rw[atU,tr.at.2] at this;exact this
end

section
variable {P:Program} {G:Nat->U}
theorem Oh {ops:Array Oper} {f:Nat->Option eg}:∀ {is:List Nat} {s:List eg} {os:List Oper},(∀ i x,f i=some x->∃ o,pq P ops x o/\x.i=i)->is.mapM f=some s->is.map (fun i=>ops[i]?)=os.map some->yY P ops s os
 | [],s,os,aD,h,ap=>by
  simp at h; subst h;cases os with
  | nil=>exact .nil
  | cons=>simp at ap
 | i::is,s,os,aD,h,ap=>by
  rw[au7] at h;simp only[Option.bind_eq_bind,bind_some,ava,Option.some.injEq] at h;obtain⟨x,h1,e6,ad,rfl⟩:=h;cases os with
  | nil=>simp at ap
  | cons o os=>
   simp only[atY,List.cons.injEq] at ap;obtain⟨cJ,ok,av⟩:=aD i x h1;have:cJ=o:=by have:=ok.here; rw[av,ap.1] at this; exact (Option.some.inj this).symm
   subst this;exact .cons ok (Oh aD ad ap.2)
theorem aaJ {N N' id:Nat} (fj:N<=N') {ops:Array Oper} {draw:Bool} {c:fF} (ah:IX P N ops draw=some c) {ae:a7} {l:am} {K:g3} (h:run P G c ae l K) :
  ∃ e bY l',dn P G (.code (.region id ops draw) N' ae (bU l) e bY (bU l'))/\l.length<=l'.length/\K e bY l':=by
 unfold IX at ah;split at ah
 ·cases ah
 ·rename_i pQ;have bq:∀ (i:Nat) (o:Oper),ops[i]? = some o->pF N' o.dst=true:=fun i o ap=>by
   rw[aue] at pQ;have:=pQ o (by simpa using Array.mem_of_getElem? ap);unfold pF at this ⊢;split at this
   ·rename_i d _; exact decide_eq_true (avJ (of_decide_eq_true this) fj)
   ·rfl
  split at ah
  ·rw[map_some] at ah;obtain⟨s,h1,rfl⟩:=ah;have eC:yY P ops s ops.toList:=by
    refine Oh (fun i x af=>?_) h1 ?_
    ·obtain⟨o,ad,aj,_⟩:=HE af; exact⟨o,ad,aj⟩
    ·apply auk;intro p;rw[atw,atw];by_cases ay:p<ops.size
     ·rw[at3 ay]; simp[ay]
     ·rw[atG (by simp; omega),atG (by simp; omega)]; rfl
   obtain⟨bY,l',ad,aj,aF⟩:=MV bq eC h;exact⟨.normal,bY,l',.region ad,aj,aF⟩
  ·simp only at ah;split at ah
   ·cases ah
   ·rename_i J6;simp only[atv] at J6;split at ah
    ·cases ah
    ·rename_i s al;have dG:∀ x∈s,∃ o,pq P ops x o:=fun x af=>by
      obtain⟨p,ay⟩:=avd af;obtain⟨a,_,ad⟩:=GO al p x ay;obtain⟨o,aj,_⟩:=HE ad;exact⟨o,aj⟩
     have fin:jv P G s ae l [] (K .normal)->∃ e bY l',dn P G (.code (.region id ops true) N' ae (bU l) e bY (bU l'))/\l.length<=l'.length/\K e bY l':=fun h=>by
      obtain⟨es,bY,l',h1,ad⟩:=MR dG h;exact⟨.normal,bY,l',aa9 bq J6.1 J6.2 al h1,h1.len,ad⟩
     split at ah
     ·rename_i zJ;cases ah;refine fin (MT (fun x af=>?_) h)
      obtain⟨p,ay⟩:=avd af;obtain⟨a,_,ad⟩:=GO al p x ay;obtain⟨o,_,_,_,aj⟩:=HE ad;rw[aj,zJ]; rfl
     ·cases ah;exact fin h
theorem aj1 {N N' : Nat} (fj:N<=N') :∀ (code:Code) (c:fF),comp P N code=some c->∀ (ae:a7) (l:am) (K:g3),run P G c ae l K->
  ∃ e bY l',dn P G (.code code N' ae (bU l) e bY (bU l'))/\l.length<=l'.length/\K e bY l':=by
 intro code
 induction code with
 | skip=>intro c ah ae l K h; cases ah; exact⟨_,_,_,.skip _ _ _,att _,h⟩
 | label n=>intro c ah ae l K h; cases ah; exact⟨_,_,_,.label _ _ _ _,att _,h⟩
 | ret=>intro c ah ae l K h; cases ah; exact⟨_,_,_,.ret _ _ _,att _,h⟩
 | exit id=>intro c ah ae l K h; cases ah; exact⟨_,_,_,.exit _ _ _ _,att _,h⟩
 | region id ops draw=>intro c ah ae l K h; exact aaJ fj ah h
 | seq a b Lk Ll=>
  intro c ah ae l K h;have mk:∀ (zd px:fF),comp P N a=some zd->comp P N b=some px->run P G zd ae l (nZ (fun ae l=>run P G px ae l K) K)->∃ e bY l',dn P G (.code (.seq a b) N' ae (bU l) e bY (bU l'))/\l.length<=l'.length/\K e bY l':=by
   intro zd px aB ag h;obtain⟨e,iK,l1,h1,ad,aj⟩:=Lk zd aB ae l _ h;cases e with
   | normal=>
    obtain⟨e,NY,b5,aF,aW,bt⟩:=Ll px ag iK l1 K aj;exact⟨e,NY,b5,.Xq h1 aF,auV ad aW,bt⟩
   | exit id=>exact⟨_,iK,l1,.M4 h1 (by intro h; cases h),ad,aj⟩
   | ret=>exact⟨_,iK,l1,.M4 h1 (by intro h; cases h),ad,aj⟩
  simp only[comp] at ah;split at ah
  ·rename_i bi aB ag;cases ah;exact mk _ _ aB ag h
  ·rename_i eQ _ aB ag;cases ah;refine mk _ _ aB ag ?_;have:nZ (fun ae l=>run P G .skip ae l K) K=K:=by
    funext e ae l;cases e<;>rfl
   rw[this]; exact h
  ·rename_i eQ bi _ _ aB ag;cases ah;exact mk _ _ aB ag h
  ·cases ah
 | cond c x y Lo Lp=>
  intro Ez ah ae l K h;simp only[comp] at ah;split at ah
  ·rename_i jz A7 af az;cases ah;simp only[run,yi] at h;split at h
   ·rename_i b ag;rw[De] at h;rcases h with ⟨rfl,h⟩ | ⟨rfl,h⟩
    ·obtain⟨e,iK,l1,h1,ad,aj⟩:=Lo jz af ae l K h;exact⟨e,iK,l1,.cond ag h1,ad,aj⟩
    ·obtain⟨e,iK,l1,h1,ad,aj⟩:=Lp A7 az ae l K h;exact⟨e,iK,l1,.cond ag h1,ad,aj⟩
   ·cases h
  ·cases ah
 | block id c aH=>
  intro Ez ah ae l K h;simp only[comp,map_some] at ah;obtain⟨c',h1,rfl⟩:=ah;obtain⟨e,iK,l1,ad,aj,aF⟩:=aH c' h1 ae l _ h;cases e with
  | normal=>exact⟨_,iK,l1,.Es ad (by intro h; cases h),aj,aF⟩
  | ret=>exact⟨_,iK,l1,.Es ad (by intro h; cases h),aj,aF⟩
  | exit sF=>
   simp only[rb] at aF;split at aF
   ·rename_i ag;obtain rfl:=km ag;exact⟨_,iK,l1,.OP ad,aj,aF⟩
   ·rename_i ag;exact⟨_,iK,l1,.Es ad (by intro h; cases h; rw[awj] at ag; cases ag),aj,aF⟩
 | loop c aH=>
  intro Ez ah ae l K h;simp only[comp,map_some] at ah;obtain⟨c',h1,rfl⟩:=ah;obtain⟨n,h⟩:=h
  induction n generalizing ae l with
  | zero=>cases h
  | succ n Ln=>
   obtain⟨e,iK,l1,ad,aj,aF⟩:=aH c' h1 ae l _ h;cases e with
   | normal=>
    obtain⟨e,NY,b5,aW,bt,dq⟩:=Ln iK l1 aF;exact⟨e,NY,b5,.Ao ad aW,auV aj bt,dq⟩
   | exit id=>exact⟨_,iK,l1,.LN ad (by intro h; cases h),aj,aF⟩
   | ret=>exact⟨_,iK,l1,.LN ad (by intro h; cases h),aj,aF⟩
 | scope c aH=>
  intro Ez ah ae l K h;obtain⟨e,iK,l1,ad,aj,aF⟩:=aH Ez ah ae l K h;exact⟨e,iK,l1,.scope ad,aj,aF⟩
 | _=>intro c ah; cases ah
def IW (P:Program) :ResultVar->Option da
 | .tmp t=>some (.fS (.tmp t))
 | .cell a t=>mV P (.load t (.tmp a))
def vo (P:Program) (f:FuncId) :Option (List da) :=match P.funcs[f]? with
 | some fn=>fn.results.toList.mapM (IW P)
 | none=>none
def nY (P:Program) (G:Nat->U) (K:U->am->Prop) (ae:a7) (l:am) :List da->List U->Prop
 | [],acc=>K (wP acc) l
 | m::r,acc=>W (bO P (cR G ae) l m) (c:=⟨fun x=>nY P G K ae l r (acc++[x.1])⟩)
def Dd (P:Program) (G:Nat->U) (ms:List da) (K:U->am->Prop) :g3:=fun e ae l=>match e with
 | .exit _=>False
 | .normal=>nY P G K ae l ms []
 | .ret=>nY P G K ae l ms []
def y8 (args:List U) :a7:=fun t=>args.getD t he
theorem U4 {K:U->am->Prop} {ae:a7} {l:am}:∀ {nw:List ResultVar} {ms:List da} {acc:List U},nw.mapM (IW P)=some ms->nY P G K ae l ms acc->∃ vs,wB P (bU l) ae nw=some vs/\K (wP (acc++vs)) l
 | [],ms,acc,hm,h=>by simp at hm; subst hm; exact⟨[],rfl,by simpa [nY] using h⟩
 | r::nw,ms,acc,hm,h=>by
  rw[au7] at hm;simp only[Option.bind_eq_bind,bind_some,ava,Option.some.injEq] at hm;obtain⟨m,h1,asf,ad,rfl⟩:=hm;simp only[nY,y6] at h;obtain⟨⟨v,l1⟩,aj,aF⟩:=h;obtain⟨vs,aW,bt⟩:=U4 ad aF;refine⟨v::vs,?_,by simpa using bt⟩;have:AO P (bU l) ae r=some v:=by
   cases r with
   | tmp t=>cases h1; simp only[bO,Option.some.injEq,Prod.mk.injEq] at aj; rw[<-aj.1]; rfl
   | cell a t=>
    have dC:mV P (.load t (.tmp a))=some m:=h1;have:=GY dC aj;simp only[cV] at this;unfold AO;show sK P (bU l) t (cR G ae (.tmp a))=some v;cases ak:sK P (bU l) t (cR G ae (.tmp a)) with
    | none=>rw[ak] at this; cases this
    | some x=>rw[ak] at this; simp only[atA,Option.some.injEq,pp.val.injEq] at this; rw[this.1]
  simp only[wB,this,aW]
theorem Ey {f:FuncId} {c:fF} {ms:List da} (ah:vn P f=some c) (ax:vo P f=some ms) {args:List U} {l:am} {K:tj}
  (h:run P G c (y8 args) l (Dd P G ms K.k)) :c7 P G f args l (c:=K) :=by
 unfold vn at ah;unfold vo at ax;split at ah
 ·rename_i fn j5;split at ah
  ·rename_i body ag;rw[j5] at ax;obtain⟨e,bY,l',h1,ad,aj⟩:=aj1 (N':=args.length+(fn.ntmps - args.length)) (by omega) body c ah _ _ _ h;have fin:(e=.normal\/e=.ret)->nY P G K.k bY l' ms []->c7 P G f args l (c:=K) :=fun ao aj=>by
    obtain⟨vs,aF,aW⟩:=U4 ax aj;exact⟨wP vs,l',.inline j5 ag h1 ao (by simp only[Ht,aF]; rfl),ad,by simpa using aW⟩
   cases e with
   | normal=>exact fin (.inl rfl) aj
   | ret=>exact fin (.inr rfl) aj
   | exit id=>cases aj
  ·cases ah
 ·cases ah
theorem XH {b:qx} {ae:a7} {l:am} {K gp:U->am->Prop} (aV:∀ v l,K v l->gp v l) (h:hG P G b ae l K) :hG P G b ae l gp:=by
 cases b with
 | gE m=>simp only[hG,y6] at h ⊢; obtain⟨v,h1,ad⟩:=h; exact⟨v,h1,Vj aV ad⟩
 | l5 f args=>obtain⟨r,l',h1,ad,aj⟩:=h; exact⟨r,l',h1,ad,aV _ _ aj⟩
 | mQ x args=>
  simp only[hG,vf] at h ⊢;split at h
  ·obtain⟨aE,r,l',h1,ad,aj⟩:=h; exact⟨aE,r,l',h1,ad,aV _ _ aj⟩
  ·cases h
 | nH x name args=>
  simp only[hG,ve] at h ⊢;split at h
  ·split at h
   ·obtain⟨aE,r,l',h1,ad,aj⟩:=h; exact⟨aE,r,l',h1,ad,aV _ _ aj⟩
   ·cases h
  ·cases h
theorem U2 {ae:a7} {g:Option (Option Tmp × Bool)} {p q bI fl:Prop} (ay:p->bI) (aZ:q->fl) (h:qa ae g p q) :qa ae g bI fl:=by
 unfold qa at h ⊢;split at h
 ·exact ay h
 ·simp only[rc] at h ⊢;split at h
  ·rw[De] at h ⊢;rcases h with ⟨a,b⟩ | ⟨a,b⟩
   ·exact .inl ⟨a,ay b⟩
   ·exact .inr ⟨a,aZ b⟩
  ·cases h
  ·exact aZ h
 ·exact aZ h
theorem MU {K gp:a7->am->Prop} (aV:∀ ae l,K ae l->gp ae l) :∀ {s:List eg} {ae:a7} {l:am},i9 P G s ae l K->i9 P G s ae l gp
 | [],_,_,h=>aV _ _ h
 | s::r,_,_,h=>U2 (XH fun _ _ h=>MU aV h) (fun h=>MU aV h) h
theorem MQ {K gp:a7->am->Prop} (aV:∀ ae l,K ae l->gp ae l) :∀ {s:List eg} {ae:a7} {l:am} {seen:ik},jv P G s ae l seen K->jv P G s ae l seen gp
 | [],_,_,_,h=>aV _ _ h
 | s::r,_,_,_,h=>U2 (XH fun _ _ h=>⟨h.1,MQ aV h.2⟩) (fun h=>MQ aV h) h
theorem Df {k k' : a7->am->Prop} {K gp:g3} (hk:∀ ae l,k ae l->k' ae l) (aV:∀ e ae l,K e ae l->gp e ae l) :∀ e ae l,nZ k K e ae l->nZ k' gp e ae l:=by
 intro e ae l h; cases e<;>first | exact hk _ _ h | exact aV _ _ _ h
theorem MY:∀ {c:fF} {ae:a7} {l:am} {K gp:g3},(∀ e ae l,K e ae l->gp e ae l)->run P G c ae l K->run P G c ae l gp:=by
 intro c
 induction c with
 | skip=>intro ae l K gp aV h; exact aV _ _ _ h
 | ret=>intro ae l K gp aV h; exact aV _ _ _ h
 | exit id=>intro ae l K gp aV h; exact aV _ _ _ h
 | wA s=>intro ae l K gp aV h; exact MU (aV _) h
 | xg s=>intro ae l K gp aV h; exact MQ (aV _) h
 | seq a b Lk Ll=>intro ae l K gp aV h; exact Lk (Df (fun ae l h=>Ll aV h) aV) h
 | cond c x y Lo Lp=>
  intro ae l K gp aV h;simp only[run,yi] at h ⊢;split at h
  ·rw[De] at h ⊢;rcases h with ⟨a,b⟩ | ⟨a,b⟩
   ·exact .inl ⟨a,Lo aV b⟩
   ·exact .inr ⟨a,Lp aV b⟩
  ·cases h
 | block id c aH=>
  intro ae l K gp aV h;refine aH (fun e ae l h=>?_) h;cases e with
  | normal=>exact aV _ _ _ h
  | ret=>exact aV _ _ _ h
  | exit sF=>
   simp only[rb] at h ⊢;split at h
   ·exact aV _ _ _ h
   ·exact aV _ _ _ h
 | loop c aH=>
  intro ae l K gp aV h;obtain⟨n,h⟩:=h;refine⟨n,?_⟩
  induction n generalizing ae l with
  | zero=>cases h
  | succ n Ln=>exact aH (Df (fun ae l h=>Ln h) aV) h
theorem c7.mono {f:FuncId} {args:List U} {l:am} {K gp:tj} (aV:∀ v l,K.k v l->gp.k v l) (h:c7 P G f args l (c:=K)) :c7 P G f args l (c:=gp) :=by
 obtain⟨r,l',h1,ad,aj⟩:=h; exact⟨r,l',h1,ad,aV _ _ aj⟩
theorem wj {c:fF} {K:H0} (I:Nat->a7->am->Prop) (step:∀ n ae l,I n ae l->run P G c ae l (nZ (fun ae l=>∃ gY,gY<n/\I gY ae l) K.k)) :∀ n ae l,I n ae l->Ed (run P G c) ae l (c:=K) :=by
 intro n
 induction n using Nat.strongRecOn with
 | _ n aH=>
  intro ae l h
  -- fuel n+1 is enough
  have B7:∀ (m n:Nat),n<=m->∀ ae l,I n ae l->Ao (run P G c) (m+1) ae l K.k:=by
   intro m
   induction m with
   | zero=>
    intro n aC ae l h;obtain rfl:n=0:=by omega
    exact MY (Df (fun ae l ⟨gY,h1,_⟩=>by omega) (fun _ _ _ h=>h)) (step 0 ae l h)
   | succ m Lm=>
    intro n aC ae l h;exact MY (Df (fun ae l ⟨gY,h1,ad⟩=>Lm gY (by omega) ae l ad) (fun _ _ _ h=>h)) (step n ae l h)
  exact⟨n+1,B7 n n (att _) ae l h⟩
theorem cF {c:fF} {K:H0} (n:Nat) (I:Nat->a7->am->Prop) (step:∀ k ae l,k<=n->I k ae l->run P G c ae l (nZ (fun ae l=>k<n/\I (k+1) ae l) K.k)) {ae:a7} {l:am} (h:I 0 ae l) :Ed (run P G c) ae l (c:=K) :=by
 refine wj (fun m ae l=>∃ k,k+m=n/\I k ae l) (fun m ae l ⟨k,hk,h⟩=>?_) n ae l ⟨0,by omega,h⟩;exact MY (Df (fun ae l ⟨h1,ad⟩=>⟨m - 1,by omega,k+1,by omega,ad⟩) (fun _ _ _ h=>h)) (step k ae l (by omega) h)
end

section
variable {P:Program} {G:Nat->U}
@[simp ↓] theorem asT (ae:a7) (l:am) (K:g3) :run P G .skip ae l K=K .normal ae l:=id rfl
@[simp ↓] theorem asR (ae:a7) (l:am) (K:g3) :run P G .ret ae l K=K .ret ae l:=id rfl
@[simp ↓] theorem asO (i:Nat) (ae:a7) (l:am) (K:g3) :run P G (.exit i) ae l K=K (.exit i) ae l:=id rfl
@[simp ↓] theorem asQ (s:List eg) (ae:a7) (l:am) (K:g3) :run P G (.wA s) ae l K=i9 P G s ae l (K .normal) :=id rfl
@[simp ↓] theorem asN (s:List eg) (ae:a7) (l:am) (K:g3) :run P G (.xg s) ae l K=jv P G s ae l [] (K .normal) :=id rfl
@[simp ↓] theorem asS (a b:fF) (ae:a7) (l:am) (K:g3) :run P G (.seq a b) ae l K=run P G a ae l (nZ (fun ae l=>run P G b ae l K) K) :=id rfl
@[simp ↓] theorem asM (c:Operand) (x y:fF) (ae:a7) (l:am) (K:g3) :run P G (.cond c x y) ae l K=yi (cR G ae c) (c:=⟨run P G x ae l K,run P G y ae l K⟩) :=id rfl
@[simp ↓] theorem asL (i:Nat) (c:fF) (ae:a7) (l:am) (K:g3) :run P G (.block i c) ae l K=run P G c ae l (rb i K) :=id rfl
@[simp ↓] theorem asP (c:fF) (ae:a7) (l:am) (K:g3) :run P G (.loop c) ae l K=Ed (run P G c) ae l (c:=⟨K⟩) :=id rfl
@[simp ↓] theorem aqA (k:a7->am->Prop) (K:g3) (ae:a7) (l:am) :nZ k K .normal ae l=k ae l:=id rfl
@[simp ↓] theorem aqz (k:a7->am->Prop) (K:g3) (i:Nat) (ae:a7) (l:am) :nZ k K (.exit i) ae l=K (.exit i) ae l:=id rfl
@[simp ↓] theorem aqB (k:a7->am->Prop) (K:g3) (ae:a7) (l:am) :nZ k K .ret ae l=K .ret ae l:=id rfl
@[simp ↓] theorem aqj (i:Nat) (K:g3) (ae:a7) (l:am) :rb i K .normal ae l=K .normal ae l:=id rfl
@[simp ↓] theorem aqk (i:Nat) (K:g3) (ae:a7) (l:am) :rb i K .ret ae l=K .ret ae l:=id rfl
def wc (p:Prop) [Decidable p] [c:Bg] :Prop:=if p then c.p else c.q
@[simp ↓] theorem aqi (i j:Nat) (K:g3) (ae:a7) (l:am) :rb i K (.exit j) ae l=wc (j=i) (c:=⟨K .normal ae l,K (.exit j) ae l⟩) :=by
 unfold rb wc;by_cases h:j=i
 ·simp only[sO h,if_pos h]
 ·simp only[jt h,if_neg h]
@[simp ↓] theorem aqp (i:Nat) (x y:Prop) :wc (i=i) (c:=⟨x,y⟩)=x:=by simp[wc]
@[simp] theorem aqq (x y:Prop) :wc True (c:=⟨x,y⟩)=x:=by simp[wc]
@[simp] theorem aqo (x y:Prop) :wc False (c:=⟨x,y⟩)=y:=by simp[wc]
@[simp ↓] theorem aqm (ms:List da) (K:U->am->Prop) (ae:a7) (l:am) :Dd P G ms K .normal ae l=nY P G K ae l ms [] :=id rfl
@[simp ↓] theorem aqn (ms:List da) (K:U->am->Prop) (ae:a7) (l:am) :Dd P G ms K .ret ae l=nY P G K ae l ms [] :=id rfl
@[simp ↓] theorem aqy (K:U->am->Prop) (ae:a7) (l:am) (acc:List U) :nY P G K ae l [] acc=K (wP acc) l:=id rfl
@[simp ↓] theorem aqx (K:U->am->Prop) (ae:a7) (l:am) (m:da) (r:List da) (acc:List U) :nY P G K ae l (m::r) acc=W (bO P (cR G ae) l m) (c:=⟨fun x=>nY P G K ae l r (acc++[x.1])⟩) :=id rfl
@[simp] theorem as6 (v:U) :wP [v]=v:=id rfl
@[simp] theorem as7 (v w:U) (r:List U) :wP (v::w::r)=.bG (v::w::r) :=id rfl
@[simp ↓] theorem asK (ae:a7) (l:am) (K:a7->am->Prop) :i9 P G [] ae l K=K ae l:=id rfl
@[simp ↓] theorem asJ (i:Nat) (dst:Option Tmp) (m:da) (c:List Nat) (k:Bool) (r:List eg) (ae:a7) (l:am) (K:a7->am->Prop) :
  i9 P G (⟨i,dst,none,.gE m,c,k⟩::r) ae l K=W (bO P (cR G ae) l m) (c:=⟨fun x=>er m x.1 x.2 fun v l'=>i9 P G r (hc ae dst v) l' K⟩) :=id rfl
@[simp ↓] theorem asF (i:Nat) (dst:Option Tmp) (f:FuncId) (args:List Operand) (c:List Nat) (k:Bool) (r:List eg) (ae:a7) (l:am) (K:a7->am->Prop) :
  i9 P G (⟨i,dst,none,.l5 f args,c,k⟩::r) ae l K=c7 P G f (args.map (cR G ae)) l (c:=⟨fun v l'=>i9 P G r (hc ae dst v) l' K⟩) :=id rfl
@[simp ↓] theorem asH (i:Nat) (dst:Option Tmp) (x:Operand) (args:List Operand) (c:List Nat) (k:Bool) (r:List eg) (ae:a7) (l:am) (K:a7->am->Prop) :
  i9 P G (⟨i,dst,none,.mQ x args,c,k⟩::r) ae l K=vf P G (cR G ae x) (args.map (cR G ae)) l (c:=⟨fun v l'=>i9 P G r (hc ae dst v) l' K⟩) :=id rfl
@[simp ↓] theorem asG (i:Nat) (dst:Option Tmp) (x:Operand) (name:String) (args:List Operand) (c:List Nat) (k:Bool) (r:List eg) (ae:a7) (l:am) (K:a7->am->Prop) :
  i9 P G (⟨i,dst,none,.nH x name args,c,k⟩::r) ae l K=ve P G name (cR G ae x) (args.map (cR G ae)) l (c:=⟨fun v l'=>i9 P G r (hc ae dst v) l' K⟩) :=id rfl
@[simp ↓] theorem anW (name:String) (t:TypeId) (v:U) (args:List U) (l:am) (c:tj) :
  ve P G name (.gA t v) args l (c:=c)=(match yq P t name with | some g=>je P g=true/\c7 P G g (v::args) l (c:=c) | none=>False) :=id rfl
@[simp ↓] theorem asI (i:Nat) (dst:Option Tmp) (d:Tmp) (w:Bool) (b:qx) (c:List Nat) (k:Bool) (r:List eg) (ae:a7) (l:am) (K:a7->am->Prop) :
  i9 P G (⟨i,dst,some (some d,w),b,c,k⟩::r) ae l K=rc (ae d) w (c:=⟨i9 P G (⟨i,dst,none,b,c,k⟩::r) ae l K,i9 P G r (hc ae dst he) l K⟩) :=id rfl
@[simp ↓] theorem asE (ae:a7) (l:am) (seen:ik) (K:a7->am->Prop) :jv P G [] ae l seen K=K ae l:=id rfl
@[simp ↓] theorem asD (i:Nat) (dst:Option Tmp) (m:da) (c:List Nat) (k:Bool) (r:List eg) (ae:a7) (l:am) (seen:ik) (K:a7->am->Prop) :
  jv P G (⟨i,dst,none,.gE m,c,k⟩::r) ae l seen K=W (bO P (cR G ae) l m) (c:=⟨fun x=>er m x.1 x.2 fun v l'=>pz c seen l'/\jv P G r (hc ae dst v) l' (rD k i (lo P G (.gE m) ae v l l') seen) K⟩) :=id rfl
@[simp ↓] theorem asA (i:Nat) (dst:Option Tmp) (f:FuncId) (args:List Operand) (c:List Nat) (k:Bool) (r:List eg) (ae:a7) (l:am) (seen:ik) (K:a7->am->Prop) :
  jv P G (⟨i,dst,none,.l5 f args,c,k⟩::r) ae l seen K=c7 P G f (args.map (cR G ae)) l (c:=⟨fun v l'=>pz c seen l'/\jv P G r (hc ae dst v) l' (rD k i (fun _=>True) seen) K⟩) :=id rfl
@[simp ↓] theorem asB (i:Nat) (dst:Option Tmp) (x:Operand) (args:List Operand) (c:List Nat) (k:Bool) (r:List eg) (ae:a7) (l:am) (seen:ik) (K:a7->am->Prop) :
  jv P G (⟨i,dst,none,.mQ x args,c,k⟩::r) ae l seen K=vf P G (cR G ae x) (args.map (cR G ae)) l (c:=⟨fun v l'=>pz c seen l'/\jv P G r (hc ae dst v) l' (rD k i (fun _=>True) seen) K⟩) :=id rfl
@[simp ↓] theorem asC (i:Nat) (dst:Option Tmp) (d:Tmp) (w:Bool) (b:qx) (c:List Nat) (k:Bool) (r:List eg) (ae:a7) (l:am) (seen:ik) (K:a7->am->Prop) :
  jv P G (⟨i,dst,some (some d,w),b,c,k⟩::r) ae l seen K=rc (ae d) w (c:=⟨jv P G (⟨i,dst,none,b,c,k⟩::r) ae l seen K,jv P G r (hc ae dst he) l seen K⟩) :=id rfl
@[simp] theorem aoh (ids:List Nat) (l:am) :pz ids [] l=True:=id rfl
@[simp] theorem aog (ids:List Nat) (e:Nat × (am->Prop)) (r:ik) (l:am) :pz ids (e::r) l=((ids.contains e.1=true->e.2 l)/\pz ids r l) :=id rfl
@[simp] theorem asW (i:Nat) (p:am->Prop) (s:ik) :rD true i p s=(i,p) ::s:=id rfl
@[simp] theorem asV (i:Nat) (p:am->Prop) (s:ik) :rD false i p s=s:=id rfl
@[simp] theorem as2 (m:da) (ae:a7) (v:U) (l l' l1:am) :lo P G (.gE m) ae v l l' l1=(match m.iF with | true=>l1[l.length]? = l'[l.length]? | false=>bO P (cR G ae) l1 m=some (v,l1)) :=id rfl
@[simp ↓] theorem arb (x:Operand) (v:U) (l:am) (K:U->am->Prop) :er (.fS x) v l K=K v l:=id rfl
@[simp ↓] theorem arf (c a b:Operand) (v:U) (l:am) (K:U->am->Prop) :er (.pick c a b) v l K=K v l:=id rfl
@[simp ↓] theorem aqC (z:List U) (v:U) (l:am) (K:U->am->Prop) :er (.alloc z) v l K=K v l:=id rfl
@[simp ↓] theorem aqH (x:Operand) (v:U) (l:am) (K:U->am->Prop) :er (.box x) v l K=K v l:=id rfl
@[simp ↓] theorem aqG (z:List U) (cE:List (Nat × Nat × Operand)) (v:U) (l:am) (K:U->am->Prop) :er (.Bt z cE) v l K=K v l:=id rfl
@[simp ↓] theorem aqI (z:Nat) (zero:List U) (n:Nat) (cE:List (Nat × Operand)) (v:U) (l:am) (K:U->am->Prop) :er (.qF z zero n cE) v l K=K v l:=id rfl
@[simp ↓] theorem aqZ (a:Operand) (v:U) (l:am) (K:U->am->Prop) :er (.ld1 a) v l K=K v l:=id rfl
@[simp ↓] theorem aq0 (n:Nat) (a:Operand) (v:U) (l:am) (K:U->am->Prop) :er (.uv n a) v l K=K v l:=id rfl
@[simp ↓] theorem arj (n:Nat) (a x:Operand) (v:U) (l:am) (K:U->am->Prop) :er (.st n a x) v l K=K v l:=id rfl
@[simp ↓] theorem arc (x:Operand) (v:U) (l:am) (K:U->am->Prop) :er (.Dm x) v l K=K v l:=id rfl
@[simp ↓] theorem aqF (o:BinOp) (t:TypeId) (x y:Operand) (v:U) (l:am) (K:U->am->Prop) :er (.bin o t x y) v l K=K v l:=id rfl
@[simp ↓] theorem arl (o:UnOp) (x:Operand) (v:U) (l:am) (K:U->am->Prop) :er (.un o x) v l K=K v l:=id rfl
@[simp ↓] theorem aqL (k:IntKind) (x:Operand) (v:U) (l:am) (K:U->am->Prop) :er (.zh k x) v l K=K v l:=id rfl
@[simp ↓] theorem aqQ (x:Operand) (v:U) (l:am) (K:U->am->Prop) :er (.zp x) v l K=K v l:=id rfl
@[simp ↓] theorem aqK (x:Operand) (v:U) (l:am) (K:U->am->Prop) :er (.tC x) v l K=K v l:=id rfl
@[simp ↓] theorem aqP (x:Operand) (v:U) (l:am) (K:U->am->Prop) :er (.zo x) v l K=K v l:=id rfl
@[simp ↓] theorem aq7 (t:TypeId) (x:Operand) (v:U) (l:am) (K:U->am->Prop) :er (.ys t x) v l K=K v l:=id rfl
@[simp ↓] theorem ark (t:TypeId) (z:U) (ok:Bool) (x:Operand) (v:U) (l:am) (K:U->am->Prop) :er (.AU t z ok x) v l K=K v l:=id rfl
@[simp ↓] theorem aq6 (f:FuncId) (a b:List Operand) (v:U) (l:am) (K:U->am->Prop) :er (.yr f a b) v l K=K v l:=id rfl
@[simp ↓] theorem aq9 (z b:Nat) (zero:List U) (x y:Operand) (v:U) (l:am) (K:U->am->Prop) :er (.rp z b zero x y) v l K=K v l:=id rfl
@[simp ↓] theorem ari (dd:jE) (x:Operand) (cN av cG:Option Operand) (v:U) (l:am) (K:U->am->Prop) :er (.slice dd x cN av cG) v l K=K v l:=id rfl
@[simp ↓] theorem aqS (n:Nat) (x:Operand) (v:U) (l:am) (K:U->am->Prop) :er (.BZ n x) v l K=K v l:=id rfl
@[simp ↓] theorem aqT (n:Nat) (x:Operand) (v:U) (l:am) (K:U->am->Prop) :er (.B0 n x) v l K=K v l:=id rfl
@[simp ↓] theorem aqU (n m:Nat) (x:Operand) (v:U) (l:am) (K:U->am->Prop) :er (.B1 n m x) v l K=K v l:=id rfl
@[simp ↓] theorem aqV (dd:jE) (x y:Operand) (v:U) (l:am) (K:U->am->Prop) :er (.Ak dd x y) v l K=K v l:=id rfl
@[simp ↓] theorem aqW (n z:Nat) (x y:Operand) (v:U) (l:am) (K:U->am->Prop) :er (.C7 n z x y) v l K=K v l:=id rfl
@[simp ↓] theorem aqX (n z:Nat) (x y:Operand) (v:U) (l:am) (K:U->am->Prop) :er (.C8 n z x y) v l K=K v l:=id rfl
@[simp ↓] theorem aqY (x y:Operand) (v:U) (l:am) (K:U->am->Prop) :er (.Db x y) v l K=K v l:=id rfl
@[simp ↓] theorem aqR (x:Operand) (n:Nat) (v:U) (l:am) (K:U->am->Prop) :er (.ext x n) v l K=K v l:=id rfl
@[simp ↓] theorem aq1 (dd:jE) (x:Operand) (v:U) (l:am) (K:U->am->Prop) :er (.len dd x) v l K=K v l:=id rfl
@[simp ↓] theorem aqJ (dd:jE) (x:Operand) (v:U) (l:am) (K:U->am->Prop) :er (.cap dd x) v l K=K v l:=id rfl
@[simp ↓] theorem aqE (z b:Nat) (zero:List U) (x y:Operand) (v:U) (l:am) (K:U->am->Prop) :er (.u7 z b zero x y) v l K=K v l:=id rfl
@[simp ↓] theorem aqO (z:Nat) (x y:Operand) (v:U) (l:am) (K:U->am->Prop) :er (.vr z x y) v l K=K v l:=id rfl
@[simp ↓] theorem aqM (zero:List U) (x:Operand) (v:U) (l:am) (K:U->am->Prop) :er (.vk zero x) v l K=K v l:=id rfl
@[simp ↓] theorem aq5 (x y:Operand) (v:U) (l:am) (K:U->am->Prop) :er (.min x y) v l K=K v l:=id rfl
@[simp ↓] theorem aq4 (x y:Operand) (v:U) (l:am) (K:U->am->Prop) :er (.max x y) v l K=K v l:=id rfl
@[simp ↓] theorem aqD (z b:Nat) (x y:Operand) (v:U) (l:am) (K:U->am->Prop) :er (.app z b x y) v l K=c0 v l (c:=⟨K⟩) :=id rfl
theorem c0.cq {v:U} {l:am} {K:U->am->Prop} (h:K v l) :c0 v l (c:=⟨K⟩) :=.inl h
@[simp] theorem aqa (a:Operand) :(da.ld1 a).iF=false:=id rfl
@[simp] theorem aqb (n:Nat) (a:Operand) :(da.uv n a).iF=false:=id rfl
@[simp] theorem ap7 (k:IntKind) (a:Operand) :(da.zh k a).iF=false:=id rfl
@[simp] theorem ap9 (a:Operand) :(da.zp a).iF=false:=id rfl
@[simp] theorem ap6 (a:Operand) :(da.tC a).iF=false:=id rfl
@[simp] theorem ap8 (a:Operand) :(da.zo a).iF=false:=id rfl
@[simp] theorem ap3 (z:List U) :(da.alloc z).iF=true:=id rfl
@[simp] theorem ap4 (a:Operand) :(da.box a).iF=true:=id rfl
@[simp] theorem ap5 (z:Nat) (zero:List U) (n:Nat) (cE:List (Nat × Operand)) :(da.qF z zero n cE).iF=true:=id rfl
@[simp] theorem aqc (z b:Nat) (zero:List U) (x y:Operand) :(da.rp z b zero x y).iF=true:=id rfl
@[simp] theorem asr (l l' : am) (x:Option U) (v:U) :(dv l x=some (v,l'))=(x=some v/\l'=l) :=propext gf
@[simp ↓] theorem am9 {α:Type} (x:α) (k:α->Prop) :W (some x) (c:=⟨k⟩)=k x:=id rfl
@[simp ↓] theorem am8 (l:am) (o:Option U) (k:U × am->Prop) :W (dv l o) (c:=⟨k⟩)=W o (c:=⟨fun v=>k (v,l)⟩) :=by unfold W dv; cases o<;>rfl
@[simp ↓] theorem am7 {α jB:Type} (o:Option α) (f:α->jB) (k:jB->Prop) :W (o.map f) (c:=⟨k⟩)=W o (c:=⟨fun v=>k (f v)⟩) :=by unfold W; cases o<;>rfl
@[simp ↓] theorem am6 {α:Type} (p:Prop) [Decidable p] (x:α) (k:α->Prop) :W (if p then some x else none) (c:=⟨k⟩)=(p/\k x) :=by unfold W; by_cases h:p<;>simp[h]
@[simp ↓] theorem aql (b:Bool) (p q:Prop) :yi (.bool b) (c:=⟨p,q⟩)=re b (c:=⟨p,q⟩) :=id rfl
@[simp ↓] theorem aqw (p q:Prop) :re true (c:=⟨p,q⟩)=p:=id rfl
@[simp ↓] theorem aqv (p q:Prop) :re false (c:=⟨p,q⟩)=q:=id rfl
@[simp ↓] theorem aqs (b:Bool) (p q:Prop) :rc (.bool b) true (c:=⟨p,q⟩)=re b (c:=⟨p,q⟩) :=by cases b<;>rfl
@[simp ↓] theorem aqr (b:Bool) (p q:Prop) :rc (.bool b) false (c:=⟨p,q⟩)=re b (c:=⟨q,p⟩) :=by cases b<;>rfl
@[simp ↓] theorem aqt (w:Bool) (p q:Prop) :rc he w (c:=⟨p,q⟩)=q:=id rfl
@[simp ↓] theorem aqu (w:Bool) (p q:Prop) :rc (.bG []) w (c:=⟨p,q⟩)=q:=id rfl
theorem kk {b:Bool} {p q:Prop} (h1:b=true->p) (ad:b=false->q) :re b (c:=⟨p,q⟩) :=by cases b; exact ad rfl; exact h1 rfl
@[simp ↓] theorem ast (ae:a7) (d:Tmp) (v:U) :hc ae (some d) v=bL ae d v:=id rfl
@[simp ↓] theorem ass (ae:a7) (v:U) :hc ae none v=ae:=id rfl
@[simp] theorem aoT {α:Type} (s:Nat->α) (d:Nat) (v:α) (t:Nat) :bL s d v t=if t=d then v else s t:=id rfl
@[simp] theorem anh (args:List U) (t:Nat) :y8 args t=args.getD t he:=id rfl
@[simp] theorem aoJ (ae:a7) (t:Tmp) :cR G ae (.tmp t)=ae t:=id rfl
@[simp] theorem aoA (ae:a7) (f:FuncId) :cR G ae (.func f)=.fn f [] [] :=id rfl
@[simp] theorem aoB (ae:a7) (g:Nat) :cR G ae (.global g)=G g:=id rfl
@[simp] theorem aoC (ae:a7) (k:IntKind) (n:Int) :cR G ae (.const (.int k n))=.int k n:=id rfl
@[simp] theorem aoz (ae:a7) (b:Bool) :cR G ae (.const (.bool b))=.bool b:=id rfl
@[simp] theorem aoI (ae:a7) (s:ByteArray) :cR G ae (.const (.string s))=.str s.data.toList:=id rfl
@[simp] theorem aoH (ae:a7) :cR G ae (.const (.slice none 0 0))=.a1:=id rfl
@[simp] theorem aoG (ae:a7) :cR G ae (.const (.pointer none))=.i8:=id rfl
@[simp] theorem aoF (ae:a7) :cR G ae (.const (.map none))=.hA:=id rfl
@[simp] theorem aoD (ae:a7) :cR G ae (.const .nilFunc)=.i6:=id rfl
@[simp] theorem aoE (ae:a7) :cR G ae (.const .nilIface)=.i7:=id rfl
@[simp] theorem aoK (ae:a7) :cR G ae (.const (.tuple #[]))=.bG [] :=id rfl
variable (aA:Operand->U) (l:am)
@[simp ↓] theorem ar5 (x:Operand) :bO P aA l (.fS x)=some (aA x,l) :=id rfl
@[simp ↓] theorem ar8 (c a b:Operand) :bO P aA l (.pick c a b)=dv l (Dz (aA c) (aA a) (aA b)) :=id rfl
@[simp ↓] theorem arw (z:List U) :bO P aA l (.alloc z)=some (.ptr l.length 0 z.length,l++[.cells z.length z]) :=id rfl
@[simp ↓] theorem arB (x:Operand) :bO P aA l (.box x)=(aA x).cells.map fun cs=>(.ptr l.length 0 cs.length,l++[.cells cs.length cs]) :=id rfl
@[simp ↓] theorem arA (zero:List U) (cE:List (Nat × Nat × Operand)) :bO P aA l (.Bt zero cE)=dv l ((pv zero (cE.map fun p=>(p.1,p.2.1,aA p.2.2))).map .aM) :=id rfl
@[simp ↓] theorem arC (z:Nat) (zero:List U) (len:Nat) (cE:List (Nat × Operand)) :bO P aA l (.qF z zero len cE)=(hl (fun i=>some (i*z,z)) (dk zero len) (cE.map fun p=>(p.1,aA p.2))).map fun cs=>(.au z l.length 0 len len (len*z),l++[.cells (len*z) cs]) :=id rfl
@[simp ↓] theorem arT (a:Operand) :bO P aA l (.ld1 a)=dv l ((eo l (aA a)).bind fun x=>x.1[x.2]?) :=id rfl
@[simp ↓] theorem arU (n:Nat) (a:Operand) :bO P aA l (.uv n a)=dv l ((eo l (aA a)).bind fun x=>sX n x.1 x.2) :=id rfl
@[simp ↓] theorem asb (n:Nat) (a x:Operand) :bO P aA l (.st n a x)=(jT n l (aA a) (aA x)).map fun l'=>(he,l') :=id rfl
@[simp ↓] theorem ar6 (x:Operand) :bO P aA l (.Dm x)=dv l (yt (aA x)) :=id rfl
@[simp ↓] theorem arz (o:BinOp) (t:TypeId) (x y:Operand) :bO P aA l (.bin o t x y)=dv l (gi P o t (aA x) (aA y)) :=id rfl
@[simp ↓] theorem asd (o:UnOp) (x:Operand) :bO P aA l (.un o x)=dv l (qs o (aA x)) :=id rfl
@[simp ↓] theorem arF (k:IntKind) (x:Operand) :bO P aA l (.zh k x)=dv l (BF k (aA x)) :=id rfl
@[simp ↓] theorem arK (x:Operand) :bO P aA l (.zp x)=dv l (EH (aA x)) :=id rfl
@[simp ↓] theorem arE (x:Operand) :bO P aA l (.tC x)=dv l (vg l (aA x)) :=id rfl
@[simp ↓] theorem arJ (x:Operand) :bO P aA l (.zo x)=dv l (vt (aA x)) :=id rfl
@[simp ↓] theorem ar1 (t:TypeId) (x:Operand) :bO P aA l (.ys t x)=some (.gA t (aA x),l) :=id rfl
@[simp ↓] theorem asc (t:TypeId) (z:U) (ok:Bool) (x:Operand) :bO P aA l (.AU t z ok x)=dv l (AV t z ok (aA x)) :=id rfl
@[simp ↓] theorem ar0 (f:FuncId) (a b:List Operand) :bO P aA l (.yr f a b)=some (.fn f (a.map aA) (b.map aA),l) :=id rfl
@[simp ↓] theorem ar3 (z by_:Nat) (zero:List U) (a c:Operand) :bO P aA l (.rp z by_ zero a c)=rq z by_ zero l (aA a) (aA c) :=id rfl
@[simp ↓] theorem asa (dd:jE) (x:Operand) (cN av cG:Option Operand) :bO P aA l (.slice dd x cN av cG)=dv l (gg dd (aA x) (cN.map aA) (av.map aA) (cG.map aA)) :=id rfl
@[simp ↓] theorem arM (off:Nat) (x:Operand) :bO P aA l (.BZ off x)=dv l (mT (aA x) off) :=id rfl
@[simp ↓] theorem arN (off:Nat) (x:Operand) :bO P aA l (.B0 off x)=dv l (B2 off (aA x)) :=id rfl
@[simp ↓] theorem arO (n off:Nat) (x:Operand) :bO P aA l (.B1 n off x)=dv l (zz n off (aA x)) :=id rfl
@[simp ↓] theorem arP (dd:jE) (x i:Operand) :bO P aA l (.Ak dd x i)=dv l (cj dd (aA x) (aA i)) :=id rfl
@[simp ↓] theorem arQ (n z:Nat) (x i:Operand) :bO P aA l (.C7 n z x i)=dv l (C9 n z (aA x) (aA i)) :=id rfl
@[simp ↓] theorem arR (n z:Nat) (x i:Operand) :bO P aA l (.C8 n z x i)=dv l (Da n z (aA x) (aA i)) :=id rfl
@[simp ↓] theorem arS (x i:Operand) :bO P aA l (.Db x i)=dv l (yf (aA x) (aA i)) :=id rfl
@[simp ↓] theorem arL (x:Operand) (i:Nat) :bO P aA l (.ext x i)=dv l (BX (aA x) i) :=id rfl
@[simp ↓] theorem arV (dd:jE) (x:Operand) :bO P aA l (.len dd x)=dv l (cP dd (aA x)) :=id rfl
@[simp ↓] theorem arD (dd:jE) (x:Operand) :bO P aA l (.cap dd x)=dv l (tB dd (aA x)) :=id rfl
@[simp ↓] theorem arx (z by_:Nat) (s x:Operand) :bO P aA l (.app z by_ s x)=fz l z by_ (aA s) (aA x) :=id rfl
@[simp ↓] theorem ary (z by_:Nat) (zero:List U) (s x:Operand) :bO P aA l (.u7 z by_ zero s x)=qE l z by_ zero (aA s) (aA x) :=id rfl
@[simp ↓] theorem arI (z:Nat) (d x:Operand) :bO P aA l (.vr z d x)=zn z l (aA d) (aA x) :=id rfl
@[simp ↓] theorem arG (zero:List U) (x:Operand) :bO P aA l (.vk zero x)=(r3 zero l (aA x)).map fun l'=>(.bG [],l') :=id rfl
@[simp ↓] theorem arZ (x y:Operand) :bO P aA l (.min x y)=dv l (Ar (aA x) (aA y)) :=id rfl
@[simp ↓] theorem arY (x y:Operand) :bO P aA l (.max x y)=dv l (uz (aA x) (aA y)) :=id rfl
@[simp] theorem asp (t:Bool) (a b:U) :Dz (.bool t) a b=some (if t=true then a else b) :=id rfl
@[simp] theorem Q5 (cs:List U) :(U.aM cs).cells=some cs:=id rfl
@[simp] theorem an6 (k:IntKind) (n:Int) :(U.int k n).cells=some [.int k n] :=id rfl
@[simp] theorem an3 (b:Bool) :(U.bool b).cells=some [.bool b] :=id rfl
@[simp] theorem aof (s:List UInt8) :(U.str s).cells=some [.str s] :=id rfl
@[simp] theorem aob:U.a1.cells=some [.a1] :=id rfl
@[simp] theorem aoa:U.i8.cells=some [.i8] :=id rfl
@[simp] theorem an8:U.i6.cells=some [.i6] :=id rfl
@[simp] theorem an9:U.hA.cells=some [.hA] :=id rfl
@[simp] theorem aod (z:Nat) (es:List (List U)) :(U.bD z es).cells=some [.bD z es] :=id rfl
@[simp] theorem aoe (z b o n c s:Nat) :(U.au z b o n c s).cells=some [.au z b o n c s] :=id rfl
@[simp] theorem aoc (b o s:Nat) :(U.ptr b o s).cells=some [.ptr b o s] :=id rfl
@[simp] theorem an5 (f:FuncId) (a b:List U) :(U.fn f a b).cells=some [.fn f a b] :=id rfl
@[simp] theorem an7 (b:Nat) :(U.mp b).cells=some [.mp b] :=id rfl
@[simp] theorem an1 (b off sz k:Nat) :mT (.ptr b off sz) k=some (.ptr b (off+k) sz) :=id rfl
@[simp] theorem an2 (cs:List U) (off k:Nat) :mT (.b6 cs off) k=some (.b6 cs (off+k)) :=id rfl
@[simp] theorem asi (b o s:Nat) :yt (.ptr b o s)=some (.ptr b o s) :=id rfl
@[simp] theorem asj (cs:List U) (o:Nat) :yt (.b6 cs o)=some (.b6 cs o) :=id rfl
@[simp] theorem ash (f:FuncId) (a b:List U) :yt (.fn f a b)=some (.fn f a b) :=id rfl
def mB (x:Option a2) (off sz:Nat) :Option (List U × Nat) :=match x with
 | some (.cells n cs)=>if n=sz then some (cs,off) else none
 | _=>none
@[simp] theorem asv (b off sz:Nat) :eo l (.ptr b off sz)=mB l[b]? off sz:=by
 unfold eo mB; rfl
@[simp] theorem asu (n:Nat) (cs:List U) (off sz:Nat) :mB (some (.cells n cs)) off sz=if n=sz then some (cs,off) else none:=id rfl
@[simp] theorem asw (cs:List U) (off:Nat) :eo l (.b6 cs off)=some (cs,off) :=id rfl
def Ng (n:Nat) (l:am) (b off sz:Nat) (vs:List U) (x:Option a2) :Option am:=match x with
 | some (.cells m cs)=>if m=sz/\vs.length=n/\off+n<=m then some (l.set b (.cells m (bz cs off vs))) else none
 | _=>none
@[simp] theorem XF (n b off sz:Nat) (v:U) :jT n l (.ptr b off sz) v=v.cells.bind fun vs=>Ng n l b off sz vs l[b]?:=by
 unfold jT Ng;cases v.cells<;>rfl
@[simp] theorem akU (n b off sz:Nat) (vs:List U) (m:Nat) (cs:List U) :Ng n l b off sz vs (some (.cells m cs))=if m=sz/\vs.length=n/\off+n<=m then some (l.set b (.cells m (bz cs off vs))) else none:=id rfl
@[simp] theorem aso (n:Nat) (cs:List U) (off:Nat) :sX n cs off=if off+n<=cs.length then some (.aM ((cs.drop off).take n)) else none:=id rfl
@[simp] theorem as1 (a:U) (cs vs:List U) (off:Nat) :bz (a::cs) (off+1) vs=a::bz cs off vs:=by
 simp only[bz,List.take_succ_cons,auM,show off+1+vs.length=(off+vs.length)+1 by omega,av4]
@[simp] theorem akE (a v:U) (cs vs:List U) :bz (a::cs) 0 (v::vs)=v::bz cs 0 vs:=by simp[bz]
@[simp] theorem akG (cs:List U) :bz cs 0 []=cs:=by simp[bz]
@[simp] theorem as0 (vs:List U) :bz [] 0 vs=vs:=by simp[bz]
@[simp] theorem anz (zero:List U) :pv zero []=some zero:=id rfl
theorem ZW (zero:List U) (off size:Nat) (v:U) (r:List (Nat × Nat × U)) :pv zero ((off,size,v) ::r)=v.cells.bind fun vs=>if vs.length=size/\off+size<=zero.length then pv (bz zero off vs) r else none:=by
 rw[pv]; cases v.cells<;>rfl
attribute [simp] ZW
@[simp] theorem aoN (kO:Nat->Option (Nat × Nat)) (zero:List U) :hl kO zero []=some zero:=id rfl
@[simp] theorem aoM (kO:Nat->Option (Nat × Nat)) (zero:List U) (i:Nat) (v:U) (r:List (Nat × U)) :hl kO zero ((i,v) ::r)=(kO i).bind fun q=>v.cells.bind fun vs=>if vs.length=q.2/\q.1+q.2<=zero.length then hl kO (bz zero q.1 vs) r else none:=by
 rw[hl];cases kO i with
 | none=>rfl
 | some q=>cases v.cells<;>rfl
@[simp] theorem asy (zero:List U) :dk zero 0=[] :=id rfl
@[simp] theorem asz (zero:List U) (n:Nat) :dk zero (n+1)=zero++dk zero n:=id rfl
@[simp] theorem anr (o:BinOp) (t:TypeId) (k:IntKind) (a:Int) (k' : IntKind) (b:Int) :gi P o t (.int k a) (.int k' b)=cm o k a k' b:=id rfl
@[simp] theorem anw (o:BinOp) (t:TypeId) (a b:List UInt8) :gi P o t (.str a) (.str b)=pu o a b:=id rfl
@[simp] theorem ant (k:IntKind) (a b:Int) :cm .lss k a k b=some (.bool (decide (a<b))) :=by simp[cm]
@[simp] theorem ans (k:IntKind) (a b:Int) :cm .leq k a k b=some (.bool (decide (a<=b))) :=by simp[cm]
@[simp] theorem anq (k:IntKind) (a b:Int) :cm .gtr k a k b=some (.bool (decide (b<a))) :=by simp[cm]
@[simp] theorem anp (k:IntKind) (a b:Int) :cm .geq k a k b=some (.bool (decide (b<=a))) :=by simp[cm]
@[simp] theorem ano (k:IntKind) (a b:Int) :cm .eql k a k b=some (.bool (decide (a=b))) :=by
 have:(a == b)=decide (a=b) :=by by_cases h:a=b<;>simp[h]
 simp[cm,this]
@[simp] theorem anv (k:IntKind) (a b:Int) :cm .neq k a k b=some (.bool (!decide (a=b))) :=by
 have:(a != b)=!decide (a=b) :=by by_cases h:a=b<;>simp[h]
 simp[cm,this]
@[simp] theorem ann (k:IntKind) (a b:Int) :cm .add k a k b=some (.int k (k.wrap (a+b))) :=by simp[cm]
@[simp] theorem anx (k:IntKind) (a b:Int) :cm .sub k a k b=some (.int k (k.wrap (a - b))) :=by simp[cm]
@[simp] theorem anu (k:IntKind) (a b:Int) :cm .mul k a k b=some (.int k (k.wrap (a*b))) :=by simp[cm]
@[simp] theorem atf (b:Bool) :qs .not (.bool b)=some (.bool (!b)) :=id rfl
@[simp] theorem ate (k:IntKind) (n:Int) :qs .neg (.int k n)=some (.int k (k.wrap (0 - n))) :=id rfl
@[simp] theorem aoi (k k' : IntKind) (n:Int) :BF k (.int k' n)=some (.int k (k.wrap n)) :=id rfl
@[simp] theorem apZ (z dm:Nat) (es:List (List U)) (k:IntKind) (i:Int) :cj (.au z) (.bD dm es) (.int k i)=if z=dm/\0<=i then (es[i.toNat]?).map fun cs=>.b6 cs 0 else none:=id rfl
@[simp] theorem ap0 (z dm b off len cap sz:Nat) (k:IntKind) (i:Int) :cj (.au z) (.au dm b off len cap sz) (.int k i)=if z=dm/\0<=i/\i<len then some (.ptr b (off+i.toNat*z) sz) else none:=id rfl
@[simp] theorem apY (n z:Nat) (x:U) (k:IntKind) (i:Int) :cj (.arr n z) x (.int k i)=if 0<=i/\i<n then mT x (i.toNat*z) else none:=id rfl
@[simp] theorem arq (z:Nat) :cP (.au z) .a1=some (.int .i64 0) :=id rfl
@[simp] theorem art (z dm b o n c s:Nat) :cP (.au z) (.au dm b o n c s)=some (.int .i64 n) :=id rfl
@[simp] theorem ars (z dm:Nat) (es:List (List U)) :cP (.au z) (.bD dm es)=some (.int .i64 es.length) :=id rfl
@[simp] theorem aru (s:List UInt8) :cP .str (.str s)=some (.int .i64 s.length) :=id rfl
@[simp] theorem arp (n z:Nat) (x:U) :cP (.arr n z) x=some (.int .i64 n) :=id rfl
@[simp] theorem aoL (vs:List U) (i:Nat) :BX (.bG vs) i=vs[i]?:=id rfl
@[simp] theorem aoO (cs:List U) (off:Nat) :B2 off (.aM cs)=cs[off]?:=id rfl
@[simp] theorem aoP (n off:Nat) (cs:List U) :zz n off (.aM cs)=sX n cs off:=id rfl
end

section
variable {P:Program} {G:Nat->U}
inductive Rd (l:am) :U->U->Prop
 | same (c:U) (h:c.closed=true) :Rd l c c
 | aM (cs cs' : List U) (ak:cs'.length=cs.length) (h:∀ (j:Nat) (c c' : U),cs[j]? = some c->cs'[j]? = some c'->Rd l c c') :Rd l (.aM cs) (.aM cs')
 | bG (cs cs' : List U) (ak:cs'.length=cs.length) (h:∀ (j:Nat) (c c' : U),cs[j]? = some c->cs'[j]? = some c'->Rd l c c') :Rd l (.bG cs) (.bG cs')
 | au (z b off len cap sz:Nat) (cs:List U) (es:List (List U)) (ag:l[b]? = some (.cells sz cs)) (ak:es.length=len) (aw:∀ e∈es,e.length=z)
   (eG:off+len*z<=cs.length)
   (h:∀ (i j:Nat) (e:List U) (c c' : U),es[i]? = some e->e[j]? = some c'->cs[off+(i*z+j)]? = some c->Rd l c c') :Rd l (.au z b off len cap sz) (.bD z es)
 | rF (z b off cap sz:Nat) :Rd l (.au z b off 0 cap sz) (.bD z [])
theorem ajs {w:World} {R:Nat->Prop} {B:Nat} {l:am} {μ:cH} (rel:b3 R B w (bU l) μ) :∀ {c c' : U},Rd l c c'->∀ {v:Value},aO w R (bU l) μ c v->fi w R c' v:=by
 intro c c' ax
 induction ax with
 | same c h=>
  intro v aq;exact (fi.up (xa aq h) fun k _ hk=>⟨hk.1,fun ⟨b,m,h1,ad,aj⟩=>by cases ad⟩:aO w R aN.empty (fun _=>none) _ v)
 | aM cs cs' ak h aH=>
  intro v aq;cases aq with
  | aM _ vs fW h1 aq=>
   refine .aM cs' vs (by omega) h1 (fun j c' v ai fe=>?_);have aK:j<cs.length:=by rw[<-ak]; exact (atq.1 ai).1
   exact aH j cs[j] c' (atu aK) ai (aq j cs[j] v (atu aK) fe)
 | bG cs cs' ak h aH=>
  intro v aq;cases aq with
  | bG _ vs fW aq=>
   refine .bG cs' vs (by omega) (fun j c' v ai fe=>?_);have aK:j<cs.length:=by rw[<-ak]; exact (atq.1 ai).1
   exact aH j cs[j] c' (atu aK) ai (aq j cs[j] v (atu aK) fe)
 | rF z b off cap sz=>
  intro v aq;cases aq with
  | au _ _ _ _ _ _ cap' cs m ag hm ak ap ah=>exact .fw z _ cap'
  | go _ _ _ _ _ _ cap' a ak ah ar=>exact .fw z _ cap'
  | hF _ _ _ _ a cs m ag hm=>exact .fw z a 0
 | au z b off len cap sz cs es ag ak aw eG h aH=>
  intro v aq;have qS:(bU l).f b=.cells sz cs:=lX.2 ag;cases aq with
  | hF _ _ _ _ a hL m e9 iY=>
   obtain rfl:=aug.1 ak;exact .fw z a 0
  | go _ _ _ _ _ _ cap' a ak ah ar=>
   exfalso;rcases ar with ar | ⟨n,hL,ar,aK⟩
   ·rw[qS] at ar; cases ar
   ·rw[qS] at ar; cases ar; omega
  | au _ _ _ _ _ _ cap' hL m e9 hm gX ap ah=>
   rw[qS] at e9; cases e9;have hblk:=rel.blk b m hm;rw[qS] at hblk;obtain⟨ce,ci,arr,t,fV,hw,aB,aD,md⟩:=hblk;have cS:len<=cap':=by rcases ah with ⟨_,h⟩ | ⟨_,h,_⟩<;>omega
   have tS:R m.r:=rel.up _ (rel.base b m (by rw[qS]; rfl) hm);subst ak;have oF:∀ i j,i<es.length->j<z->∃ c v,cs[off+(i*z+j)]? = some c/\arr[m.s+(off+(i*z+j))]? = some v/\v.oneCell'=true/\aO w R (bU l) μ c v:=by
    intro i j av ai;have aK:off+(i*z+j)<cs.length:=by
     have:i*z+z<=es.length*z:=by rw[<-aua]; exact aty _ av
     omega
    obtain⟨v,h1,ad,aj⟩:=md _ _ (atu aK);exact⟨_,v,atu aK,h1,ad,aj⟩
   refine .bD z es m.r (m.s+off) cap' (fun i j=>(arr[m.s+(off+(i*z+j))]?).getD undef) cS aw (fun i j av ai=>?_) (fun i e ao j c' ai=>?_)
   ·obtain⟨c,v,h1,ad,aj,aF⟩:=oF i j av ai;refine⟨?_,?_,tS,fun ⟨b,m,h1,ad,aj⟩=>by cases ad⟩
    ·simp only[World.cell?,hw,ad,aud,avk];rw[show m.s+off+(i*z+j)=m.s+(off+(i*z+j)) by omega,ad]; rfl
    ·rw[ad]; exact aj
   ·have av:i<es.length:=(atq.1 ao).1;have mf:j<z:=by rw[<-aw e (atz ao)]; exact (atq.1 ai).1
    obtain⟨c,v,h1,ad,aj,aF⟩:=oF i j av mf;simp only[ad,aud];exact aH i j e c c' ao ai h1 aF
theorem bP (lK:P.follows .mixedOrders=true) (j3:∀ g,(G g).closed=true) {f:FuncId} {args:List U} {r:U} (h:c7 P G f args [] (c:=⟨fun lT l=>Rd l lT r⟩)) :bw P G f args r:=by
 obtain⟨lT,l',h1,ad,aj⟩:=h;intro w A vs ar ak aq;refine (Nz (A:=A) lK j3 h1 ar ak aq).mono ?_;rintro e w' ⟨v,μ',rfl,ag,rel,ax⟩;exact⟨v,rfl,ag,ajs rel aj ax⟩
theorem bf {f:FuncId} {args:List U} {r:U} {l:am} {K:U->am->Prop} (ay:bw P G f args r) (ah:bm args=true) (h:K r l) :c7 P G f args l (c:=⟨K⟩) :=
 ⟨r,l,.pure ay ah,att _,h⟩
theorem ahg (lK:P.follows .mixedOrders=true) (j3:∀ g,(G g).closed=true) {f:FuncId} {args:List U} (h:c7 P G f args [] (c:=⟨fun r _=>r=.bool true⟩))
  {w:World} {A:Nat->Prop} {vs:Array Value} (ar:∀ g,fi w A (G g) (.pointer (some ⟨g,0,none⟩))) (ak:vs.size=args.length)
  (aq:∀ (j:Nat) (c:U) (v:Value),args[j]? = some c->vs[j]? = some v->fi w A c v) :
  Calls P f vs w fun e w'=>e=.returned (.bool true)/\RowKit.Below w.heap.size w w':=by
 obtain⟨lT,l',h1,ad,rfl⟩:=h;exact alg lK j3 h1 ar ak aq
end

section
variable {P:Program}
inductive dL (P:Program) :List TypeId->List U->Prop
 | nil:dL P [] []
 | bool {t:TypeId} {b:Bool} {ts:List TypeId} {cs:List U} (aJ:P.underlying t=some .bool) (h:dL P ts cs) :dL P (t::ts) (.bool b::cs)
 | int {t:TypeId} {k:IntKind} {n:Int} {ts:List TypeId} {cs:List U} (aJ:P.underlying t=some (.int k)) (h1:k.min<=n) (ad:n<=k.max) (h:dL P ts cs) :dL P (t::ts) (.int k n::cs)
 | str {t:TypeId} {s:List UInt8} {ts:List TypeId} {cs:List U} (aJ:P.underlying t=some .string) (al:s.length<=maxLen) (h:dL P ts cs) :dL P (t::ts) (.str s::cs)
 | a1 {t e:TypeId} {ts:List TypeId} {cs:List U} (aJ:P.underlying t=some (.slice e)) (h:dL P ts cs) :dL P (t::ts) (.a1::cs)
 | au {t e:TypeId} {es:List (List U)} {ts:List TypeId} {cs:List U} (aJ:P.underlying t=some (.slice e)) (ak:es.length<=maxLen) (aw:∀ r∈es,r.length=P.cellsOf e) (ao:∀ r∈es,dL P [e] r) (h:dL P ts cs) :dL P (t::ts) (.bD (P.cellsOf e) es::cs)
 | struct {t:TypeId} {fs:Array Field} {ts:List TypeId} {cs:List U} (aJ:P.underlying t=some (.struct fs)) (h:dL P (fs.toList.map (·.type)++ts) cs) :dL P (t::ts) cs
 | array {t e:TypeId} {n:Nat} {ts:List TypeId} {cs:List U} (aJ:P.underlying t=some (.array n e)) (h:dL P (List.replicate n e++ts) cs) :dL P (t::ts) cs
def vp (P:Program) :List Field->Nat->Option Nat
 | [],o=>some o
 | f::r,o=>if f.offset=o then vp P r (o+P.cellsOf f.type) else none
def uH (P:Program) :Nat->TypeId->Bool
 | 0,_=>false
 | d+1,t=>match P.underlying t with
  | some .bool | some (.int _) | some .string=>true
  | some (.slice e)=>decide (0<P.cellsOf e)&&uH P d e
  | some (.struct fs)=>decide (vp P fs.toList 0=some (P.cellsOf t))&&fs.toList.all fun f=>uH P d f.type
  | some (.array n e)=>decide (n*P.cellsOf e=P.cellsOf t)&&uH P d e
  | _=>false
structure ps (P:Program) (w:World) (A:Nat->Prop) (ts:List TypeId) (vs:List Value) (cs:List U) :Prop where
 len:cs.length=vs.length
 ty:∀ qq cs',dL P qq cs'->dL P (ts++qq) (cs++cs')
 qw:∀ (j:Nat) (c:U) (v:Value),cs[j]? = some c->vs[j]? = some v->fi w A c v/\v.oneCell'=true
theorem ps.nil {w:World} {A:Nat->Prop}:ps P w A [] [] [] :=⟨rfl,fun _ _ h=>h,fun j c v h=>by simp at h⟩
theorem ps.app {w:World} {A:Nat->Prop} {ts qq:List TypeId} {vs HL:List Value} {cs cs' : List U} (a:ps P w A ts vs cs) (b:ps P w A qq HL cs') :ps P w A (ts++qq) (vs++HL) (cs++cs') :=by
 refine⟨by simp[a.len,b.len],fun as5 aow h=>by rw[at1,at1]; exact a.ty _ _ (b.ty _ _ h),fun j c v ah aq=>?_⟩;by_cases h:j<cs.length
 ·rw[ats h] at ah;rw[ats (by rw[<-a.len]; exact h)] at aq;exact a.qw j c v ah aq
 ·rw[atC (by omega)] at ah;rw[atC (by rw[<-a.len]; omega)] at aq;rw[<-a.len] at aq;exact b.qw _ c v ah aq
theorem GQ {α jB:Type} {f:α->Option jB}:∀ {l:List α} {r:List jB},l.mapM f=some r->∀ (p:Nat) (a:α),l[p]? = some a->∃ x,r[p]? = some x/\f a=some x
 | [],r,h,p,a,aB=>by simp at aB
 | a0::l,r,h,p,a,aB=>by
  rw[au7] at h;simp only[Option.bind_eq_bind,bind_some,ava,Option.some.injEq] at h;obtain⟨b,h1,cr,ad,rfl⟩:=h;cases p with
  | zero=>simp only[atT,Option.some.injEq] at aB; subst aB; exact⟨b,rfl,h1⟩
  | succ p=>obtain⟨x,aj,aF⟩:=GQ ad p a (by simpa using aB); exact⟨x,by simpa using aj,aF⟩
theorem Ds {w:World} {A:Nat->Prop} {c:U} {v:Value} (h:fi w A c v) (h1:v.oneCell'=true) :∀ (j:Nat) (c' : U) (aY:Value),[c][j]? = some c'->[v][j]? = some aY->fi w A c' aY/\aY.oneCell'=true:=by
 intro j c' aY ah aq;cases j with
 | zero=>simp only[atT,Option.some.injEq] at ah aq; subst ah aq; exact⟨h,h1⟩
 | succ j=>simp at ah
theorem alj {H:Type} {enc:TypeId × Value->H} {w:World} {base:Nat} {spare:Nat->Bool} {held:Bool} {fuel:Nat} {t:TypeId} {vs:List Value} {x:DataW H × List MemPlace}
  (aJ:P.underlying t=some .bool) (h:DataW.trod enc P w base spare held (fuel+1) t vs=some x) :∃ b,vs=[.bool b] :=by
 unfold DataW.trod at h;rw[aJ] at h;split at h
 case h_1 b _=>exact⟨b,rfl⟩
 all_goals first | (cases h; done) | (rename_i heq; cases heq; done) | (rename_i heq _; cases heq; done) | (rename_i heq _ _; cases heq; done) | (rename_i heq _ _ _; cases heq; done) | (simp_all; done)
theorem trod_int {H:Type} {enc:TypeId × Value->H} {w:World} {base:Nat} {spare:Nat->Bool} {held:Bool} {fuel:Nat} {t:TypeId} {k:IntKind} {vs:List Value} {x:DataW H × List MemPlace}
  (aJ:P.underlying t=some (.int k)) (h:DataW.trod enc P w base spare held (fuel+1) t vs=some x) :∃ n,vs=[.int k n]/\k.min<=n/\n<=k.max:=by
 unfold DataW.trod at h;rw[aJ] at h;split at h<;>simp only[reduceCtorEq,Option.some.injEq,TypeDesc.int.injEq] at *<;>try (exfalso; simp_all; done)
 rename_i i4 k' n heq;subst heq;split at h
 ·rename_i ah;obtain⟨rfl,hw⟩:=ah;simp only[Lit.wf,atv,decide_eq_true_eq] at hw;exact⟨n,rfl,hw.1,hw.2⟩
 ·cases h
theorem alm {H:Type} {enc:TypeId × Value->H} {w:World} {base:Nat} {spare:Nat->Bool} {held:Bool} {fuel:Nat} {t:TypeId} {vs:List Value} {x:DataW H × List MemPlace}
  (aJ:P.underlying t=some .string) (h:DataW.trod enc P w base spare held (fuel+1) t vs=some x) :∃ s,vs=[.string s]/\s.size<=maxLen:=by
 unfold DataW.trod at h;rw[aJ] at h;split at h<;>simp only[reduceCtorEq,Option.some.injEq] at *<;>try (exfalso; simp_all; done)
 split at h
 ·rename_i s _ al; exact⟨s,rfl,al⟩
 ·cases h
theorem alk {H:Type} {enc:TypeId × Value->H} {w:World} {base:Nat} {spare:Nat->Bool} {held:Bool} {fuel:Nat} {t e:TypeId} {vs:List Value} {x:DataW H × List MemPlace}
  (aJ:P.underlying t=some (.slice e)) (h:DataW.trod enc P w base spare held (fuel+1) t vs=some x) :
  vs=[.slice none 0 0]\/∃ a len cap,vs=[.slice (some a) len cap]/\len<=cap/\cap<=maxLen/\∃ EN,(List.range len).mapM (fun i=>(w.cells? base (a.add (i*P.cellsOf e)) (P.cellsOf e)).bind (DataW.trod enc P w base spare held fuel e))=some EN:=by
 unfold DataW.trod at h;rw[aJ] at h;split at h<;>simp only[reduceCtorEq,Option.some.injEq,TypeDesc.slice.injEq] at *<;>try (exfalso; simp_all; done)
 ·exact .inl trivial
 ·rename_i gw a len cap heq;subst heq;split at h
  ·rename_i ah;rw[bind_some] at h;obtain⟨EN,h1,_⟩:=h;exact .inr ⟨a,len,cap,rfl,ah.2.1,ah.2.2,EN,h1⟩
  ·cases h
theorem aln {H:Type} {enc:TypeId × Value->H} {w:World} {base:Nat} {spare:Nat->Bool} {held:Bool} {fuel:Nat} {t:TypeId} {fs:Array Field} {vs:List Value} {x:DataW H × List MemPlace}
  (aJ:P.underlying t=some (.struct fs)) (h:DataW.trod enc P w base spare held (fuel+1) t vs=some x) :
  vs.length=P.cellsOf t/\∃ xs,(fs.toList.mapM fun f=>DataW.trod enc P w base spare held fuel f.type ((vs.drop f.offset).take (P.cellsOf f.type)))=some xs:=by
 unfold DataW.trod at h;rw[aJ] at h;split at h<;>simp only[reduceCtorEq,Option.some.injEq,TypeDesc.struct.injEq] at *<;>try (exfalso; simp_all; done)
 rename_i aoS heq;subst heq;split at h
 ·rename_i ah;rw[map_some] at h;obtain⟨xs,h1,_⟩:=h;exact⟨ah,xs,h1⟩
 ·cases h
theorem trod_array {H:Type} {enc:TypeId × Value->H} {w:World} {base:Nat} {spare:Nat->Bool} {held:Bool} {fuel:Nat} {t e:TypeId} {n:Nat} {vs:List Value} {x:DataW H × List MemPlace}
  (aJ:P.underlying t=some (.array n e)) (h:DataW.trod enc P w base spare held (fuel+1) t vs=some x) :
  vs.length=P.cellsOf t/\∃ xs,((List.range n).mapM fun i=>DataW.trod enc P w base spare held fuel e ((vs.drop (i*P.cellsOf e)).take (P.cellsOf e)))=some xs:=by
 unfold DataW.trod at h;rw[aJ] at h;split at h<;>simp only[reduceCtorEq,Option.some.injEq,TypeDesc.array.injEq] at *<;>try (exfalso; simp_all; done)
 rename_i asg gw heq;obtain⟨rfl,rfl⟩:=heq;split at h
 ·rename_i ah;rw[map_some] at h;obtain⟨xs,h1,_⟩:=h;exact⟨ah,xs,h1⟩
 ·cases h
theorem Zo (a:Addr) (x j:Nat) :a.add (x+j)=(a.add x).add j:=by
 unfold Addr.add;by_cases af:x=0
 ·subst af; simp
 ·by_cases ai:j=0
  ·subst ai; simp
  ·rw[if_neg (by omega),if_neg af,if_neg ai];simp only[au4]
theorem add_plain (b o n:Nat) :(Addr.mk b o none).add n=⟨b,o+n,none⟩:=by
 unfold Addr.add;by_cases aC:n=0
 ·subst aC; simp
 ·rw[if_neg aC]
theorem X5 {H:Type} {enc:TypeId × Value->H} {w:World} {A:Nat->Prop} (cz:∀ k,A k) {base:Nat} {spare:Nat->Bool} {held:Bool}:∀ (fuel:Nat) (D:Nat) (t:TypeId) (vs:List Value) (d:DataW H) (cE:List MemPlace),
  uH P D t=true->DataW.trod enc P w base spare held fuel t vs=some (d,cE)->∃ cs,ps P w A [t] vs cs
 | 0,_,_,_,_,_,_,h=>by simp[DataW.trod] at h
 | fuel+1,0,t,vs,d,cE,ay,h=>by cases ay
 | fuel+1,D+1,t,vs,d,cE,ay,h=>by
  have aH:=fun t vs d cE ay h=>X5 cz (enc:=enc) (w:=w) (base:=base) (spare:=spare) (held:=held) fuel D t vs d cE ay h
  unfold uH at ay;split at ay
  ·rename_i aJ;obtain⟨b,rfl⟩:=alj aJ h;exact⟨[.bool b],⟨rfl,fun qq cs' h=>.bool aJ h,Ds (.bool b) rfl⟩⟩
  ·rename_i k aJ;obtain⟨n,rfl,h1,ad⟩:=trod_int aJ h;exact⟨[.int k n],⟨rfl,fun qq cs' h=>.int aJ h1 ad h,Ds (.int k n) rfl⟩⟩
  ·rename_i aJ;obtain⟨s,rfl,h1⟩:=alm aJ h;exact⟨[.str s.data.toList],⟨rfl,fun qq cs' h=>.str aJ (show s.data.toList.length<=maxLen from h1) h,Ds (.str s) rfl⟩⟩
  ·rename_i e aJ;simp only[atv,decide_eq_true_eq] at ay;rcases alk aJ h with rfl | ⟨a,len,cap,rfl,lI,hR,EN,ao⟩
   ·exact⟨[.a1],⟨rfl,fun qq cs' h=>.a1 aJ h,Ds .a1 rfl⟩⟩
   ·have cC:∀ i,i<len->∃ ed row,w.cells? base (a.add (i*P.cellsOf e)) (P.cellsOf e)=some ed/\ps P w A [e] ed row:=fun i av=>by
     obtain⟨x,_,af⟩:=GQ ao i i (by rw[at3 av]);rw[bind_some] at af;obtain⟨ed,h1,ad⟩:=af;obtain⟨row,aj⟩:=aH e ed x.1 x.2 ay.2 ad;exact⟨ed,row,h1,aj⟩
    have Co:∃ (ed:Nat->List Value) (rows:Nat->List U),∀ i,i<len->w.cells? base (a.add (i*P.cellsOf e)) (P.cellsOf e)=some (ed i)/\ps P w A [e] (ed i) (rows i) :=by
     refine⟨fun i=>if av:i<len then (cC i av).choose else [],fun i=>if av:i<len then (cC i av).choose_spec.choose else [],fun i av=>?_⟩;simp only[dif_pos av];exact (cC i av).choose_spec.choose_spec
    obtain⟨ed,rows,aq⟩:=Co;have iV:∀ i,i<len->(ed i).length=P.cellsOf e/\∀ j,j<P.cellsOf e->∃ v,(ed i)[j]? = some v/\w.cell? (a.add (i*P.cellsOf e+j))=some v:=fun i av=>by
     have h1:=(aq i av).1;unfold World.cells? at h1;split at h1
     ·refine⟨by rw[LY h1]; simp,fun j ai=>?_⟩;obtain⟨v,ad,aj⟩:=GQ h1 j j (by rw[at3 ai]);refine⟨v,ad,?_⟩;rw[<-aj,Zo]
     ·cases h1
    let es:=(List.range len).map rows
    have iW:∀ (i:Nat) (r:List U),es[i]? = some r->i<len/\r=rows i:=fun i r ax=>by
     simp only[es,atw] at ax;by_cases av:i<len
     ·rw[at3 av] at ax; simp only[atA,Option.some.injEq] at ax; exact⟨av,ax.symm⟩
     ·rw[atG (by simp; omega)] at ax; cases ax
    have bh:es.length=len:=by simp[es]
    have aw:∀ r∈es,r.length=P.cellsOf e:=fun r ax=>by
     obtain⟨i,av⟩:=avd ax;obtain⟨h1,rfl⟩:=iW i r av;rw[(aq i h1).2.len,(iV i h1).1]
    have Aa:∀ r∈es,dL P [e] r:=fun r ax=>by
     obtain⟨i,av⟩:=avd ax;obtain⟨h1,rfl⟩:=iW i r av;have:=(aq i h1).2.ty [] [] .nil;simpa using this
    refine⟨[.bD (P.cellsOf e) es],⟨rfl,fun qq cs' h=>.au aJ (by omega) aw Aa h,Ds ?_ rfl⟩⟩;by_cases aE:len=0
    ·subst aE;exact .fw _ _ _
    ·obtain⟨v0,_,iC⟩:=(iV 0 (by omega)).2 0 ay.1;have Uz:a.spot=none:=by
      unfold World.cell? at iC;split at iC
      ·split at iC
       ·cases iC
       ·rename_i al;rw[show 0*P.cellsOf e+0=0 by omega] at al;simp only[Addr.add,if_true] at al;cases k8:a.spot with
        | none=>rfl
        | some x=>rw[k8] at al; simp at al
      ·cases iC
     obtain⟨blk,off,spot⟩:=a;simp only at Uz;subst Uz;have key:=aO.bD (w:=w) (R:=A) (h:=aN.empty) (μ:=fun _=>none) (P.cellsOf e) es blk off cap (fun i j=>((ed i)[j]?).getD undef) (by omega) aw
      (fun i j av ai=>by
       rw[bh] at av;obtain⟨v,h1,ad⟩:=(iV i av).2 j ai;obtain⟨c,ah⟩:∃ c,(rows i)[j]? = some c:=by
        have:j<(rows i).length:=by rw[(aq i av).2.len,(iV i av).1]; exact ai
        exact⟨_,atu this⟩
       refine⟨?_,?_,cz _,fun ⟨b,m,h1,ad,aj⟩=>by cases ad⟩
       ·rw[h1,aud,<-add_plain]; exact ad
       ·rw[h1,aud]; exact ((aq i av).2.qw j c v ah h1).2)
      (fun i r ax j c ah=>by
       obtain⟨av,rfl⟩:=iW i r ax;have ai:j<P.cellsOf e:=by rw[<-(iV i av).1,<-(aq i av).2.len]; exact (atq.1 ah).1
       obtain⟨v,h1,ad⟩:=(iV i av).2 j ai;rw[h1,aud];exact ((aq i av).2.qw j c v ah h1).1)
     rw[bh] at key;exact key
  ·rename_i fs aJ;simp only[atv,decide_eq_true_eq,aue] at ay;obtain⟨bh,xs,af⟩:=aln aJ h;have B7:∀ (fs:List Field) (o:Nat) (xs:List (DataW H × List MemPlace)),vp P fs o=some vs.length->o<=vs.length->(∀ f∈fs,uH P D f.type=true)->
     (fs.mapM fun f=>DataW.trod enc P w base spare held fuel f.type ((vs.drop f.offset).take (P.cellsOf f.type)))=some xs->∃ cs,ps P w A (fs.map (·.type)) (vs.drop o) cs:=by
    intro fs
    induction fs with
    | nil=>intro o xs ah ap _ _; simp only[vp,Option.some.injEq] at ah; rw[ah,List.drop_length]; exact⟨[],.nil⟩
    | cons f fs af5=>
     intro o xs ah ap gy hm;simp only[vp] at ah;split at ah
     ·rename_i FQ;rw[au7] at hm;simp only[Option.bind_eq_bind,bind_some,ava,Option.some.injEq] at hm;obtain⟨x,h1,amI,ad,_⟩:=hm;have aeT:∀ (fs:List Field) (o n:Nat),vp P fs o=some n->o<=n:=by
       intro fs
       induction fs with
       | nil=>intro o n h; simp only[vp,Option.some.injEq] at h; omega
       | cons g gs af6=>
        intro o n h;simp only[vp] at h;split at h
        ·have:=af6 _ _ h; omega
        ·cases h
      have dO:=aeT _ _ _ ah;obtain⟨ca,bW⟩:=aH f.type _ x.1 x.2 (gy f (by simp)) h1;obtain⟨cy,w2⟩:=af5 _ amI ah dO (fun g ar=>gy g (by simp[ar])) ad;refine⟨ca++cy,?_⟩;have:=bW.app w2;rw[FQ,show List.drop (o+P.cellsOf f.type) vs=List.drop (P.cellsOf f.type) (List.drop o vs) by rw[av5],auc] at this;exact this
     ·cases ah
   obtain⟨cs,hw⟩:=B7 fs.toList 0 xs (by rw[bh]; exact ay.1) (auy _) ay.2 af;rw[auv] at hw;exact⟨cs,⟨hw.len,fun qq cs' h=>.struct aJ (hw.ty _ _ h),hw.qw⟩⟩
  ·rename_i n e aJ;simp only[atv,decide_eq_true_eq] at ay;obtain⟨bh,xs,af⟩:=trod_array aJ h;have afg:∀ i,i<n->∃ c,ps P w A [e] ((vs.drop (i*P.cellsOf e)).take (P.cellsOf e)) c:=fun i av=>by
    obtain⟨x,_,h1⟩:=GQ af i i (by rw[at3 av]);exact aH e _ x.1 x.2 ay.2 h1
   have B7:∀ m,m<=n->∃ cs,ps P w A (List.replicate m e) (vs.drop ((n - m)*P.cellsOf e)) cs:=by
    intro m
    induction m with
    | zero=>intro _; rw[av1,at9 (by omega)]; exact⟨[],.nil⟩
    | succ m Lm=>
     intro hm;obtain⟨ca,bW⟩:=afg (n - (m+1)) (by omega);obtain⟨cy,w2⟩:=Lm (by omega);refine⟨ca++cy,?_⟩;have:=bW.app w2;have vK:(n - m)*P.cellsOf e=(n - (m+1))*P.cellsOf e+P.cellsOf e:=by rw[<-aua]; congr 1; omega
     rw[vK,<-av5,auc] at this;exact this
   obtain⟨cs,hw⟩:=B7 n (att _);rw[avt,avG,auv] at hw;exact⟨cs,⟨hw.len,fun qq cs' h=>.array aJ (hw.ty _ _ h),hw.qw⟩⟩
  ·cases ay
def tq (P:Program) (t:TypeId) (c:U) :Prop:=match dW P t with
 | some true=>∃ cs,c=.aM cs/\dL P [t] cs
 | _=>dL P [t] [c]
inductive l0 (P:Program) :List TypeId->List U->Prop
 | nil:l0 P [] []
 | cons {t:TypeId} {c:U} {ts:List TypeId} {cs:List U}:tq P t c->l0 P ts cs->l0 P (t::ts) (c::cs)
theorem Oz {H:Type} {enc:TypeId × Value->H} {w:World} {A:Nat->Prop} (cz:∀ k,A k) {base g4:Nat} {spare:Nat->Bool} {held:Bool} {D:Nat}:∀ {ts:List TypeId} {vs:List Value} {hN:List (DataW H)} {cE:List MemPlace},
  (∀ t∈ts,uH P D t=true)->(∀ (j:Nat) t v,ts[j]? = some t->vs[j]? = some v->Value.okWide P w .any g4 t v)->DataW.TrodAll enc P w base spare held ts vs hN cE->
  ∃ cs,l0 P ts cs/\cs.length=vs.length/\∀ (j:Nat) (c:U) (v:Value),cs[j]? = some c->vs[j]? = some v->fi w A c v
 | [],[],_,_,_,_,_=>⟨[],.nil,rfl,fun j c v h=>by simp at h⟩
 | [],_::_,hN,_,_,_,h=>by cases hN<;>cases h
 | _::_,[],hN,_,_,_,h=>by cases hN<;>cases h
 | _::_,_::_,[],_,_,_,h=>by cases h
 | t::ts,v::vs,d::hN,cE,ay,dG,h=>by
  obtain⟨p,q,⟨fuel,aI⟩,ax,_⟩:=h;obtain⟨cs,h1,ad,aj⟩:=Oz cz (fun t aI=>ay t (by simp[aI])) (fun j t v aI aq=>dG (j+1) t v (by simpa using aI) (by simpa using aq)) ax;obtain⟨ca,bW⟩:=X5 cz fuel D t v.cells.toList d p (ay t (by simp)) aI;have Aa:dL P [t] ca:=by simpa using bW.ty [] [] .nil
  have aq:=dG 0 t v rfl rfl;have fin:∀ c,tq P t c->fi w A c v->∃ cs,l0 P (t::ts) cs/\cs.length=(v::vs).length/\∀ (j:Nat) (c:U) (aY:Value),cs[j]? = some c->(v::vs)[j]? = some aY->fi w A c aY:=fun c ah jM=>
   ⟨c::cs,.cons ah h1,by simp[ad],fun j c' aY ai fe=>by
    cases j with
    | zero=>simp only[atT,Option.some.injEq] at ai fe; subst ai fe; exact jM
    | succ j=>exact aj j c' aY (by simpa using ai) (by simpa using fe)⟩
  unfold Value.okWide at aq;have agg:dW P t=(P.underlying t).map fun d=>match d with | .struct _ | .array _ _=>true | _=>false:=rfl
  cases aJ:P.underlying t with
  | none=>
   exfalso;have:=ay t (by simp);cases D with
   | zero=>cases this
   | succ D=>unfold uH at this; rw[aJ] at this; cases this
  | some Rx=>
   rw[aJ] at aq agg;have agz:(∃ cs,v=.agg cs)->dW P t=some true->∃ cs,l0 P (t::ts) cs/\cs.length=(v::vs).length/\∀ (j:Nat) (c:U) (aY:Value),cs[j]? = some c->(v::vs)[j]? = some aY->fi w A c aY:=by
    rintro⟨xs,rfl⟩ oC;refine fin (.aM ca) (by unfold tq; rw[oC]; exact⟨ca,rfl,Aa⟩) (.aM ca xs (by have:=bW.len; simp only[Value.cells,avh] at this; exact this.symm) (fun j x af=>?_) (fun j c x ah af=>?_))
    ·have aK:j<ca.length:=by rw[bW.len]; simp only[Value.cells,avh]; exact (at2.1 af).1
     exact (bW.qw j ca[j] x (atu aK) (by simpa [Value.cells] using af)).2
    ·exact (bW.qw j c x ah (by simpa [Value.cells] using af)).1
   have agB:(∀ xs,v≠.agg xs)->dW P t=some false->∃ cs,l0 P (t::ts) cs/\cs.length=(v::vs).length/\∀ (j:Nat) (c:U) (aY:Value),cs[j]? = some c->(v::vs)[j]? = some aY->fi w A c aY:=by
    intro bx oC;have iV:v.cells.toList=[v] :=by cases v<;>first | rfl | exact absurd rfl (bx _)
    have ak:=bW.len;rw[iV] at ak;obtain⟨c,rfl⟩:∃ c,ca=[c] :=List.length_eq_one_iff.1 ak;refine fin c (by unfold tq; rw[oC]; exact Aa) (bW.qw 0 c v rfl (by rw[iV]; rfl)).1
   have ahV:Cell.okWide P w .any g4 t v->∀ xs,v≠.agg xs:=by
    rintro ah xs rfl;unfold Cell.okWide at ah;rw[aJ] at ah;cases Rx<;>simp[Cell.ok,aJ] at ah
   cases Rx<;>simp only[atA] at agg<;>first
    | exact agz (by obtain⟨cs,h,_⟩:=aq; exact⟨cs,h⟩) agg
    | exact agB (ahV aq) agg
end
abbrev dR (α:Type) :=Option (List α)
def dR.l {α:Type} (s:dR α) :List α:=s.getD []
@[simp] theorem dR.arn {α:Type}:dR.l (none:dR α)=[] :=rfl
@[simp] theorem dR.Gy {α:Type} (l:List α) :dR.l (some l)=l:=rfl
def cK {α:Type} (z:Nat) (enc:α->List U) :dR α->U
 | none=>.a1
 | some l=>.bD z (l.map enc)
section
variable {α:Type} {z:Nat} {enc:α->List U}
@[simp] theorem qc (s:dR α) :cP (.au z) (cK z enc s)=some (.int .i64 s.l.length) :=by cases s<;>simp[cK,dR.l]
@[simp] theorem ra (s:dR α) (k:IntKind) (i:Int) :cj (.au z) (cK z enc s) (.int k i)=if 0<=i then (s.l[i.toNat]?).map fun x=>.b6 (enc x) 0 else none:=by
 cases s with
 | none=>by_cases h:0<=i<;>simp[cK,dR.l,cj,h]
 | some l=>by_cases h:0<=i<;>simp[cK,dR.l,h,Function.comp_def]
@[simp] theorem an4 (s:dR α) :(cK z enc s).cells=some [cK z enc s] :=by cases s<;>rfl
theorem vj (h:∀ x,bm (enc x)=true) (s:dR α) :(cK z enc s).closed=true:=by
 cases s with
 | none=>rfl
 | some l=>
  simp only[cK,U.closed]
  induction l with
  | nil=>rfl
  | cons x l aH=>simp only[atY,BH,h,aH,avi]
end
theorem wrap_i64 {n:Int} (h1:-9223372036854775808<=n) (ad:n<9223372036854775808) :IntKind.i64.wrap n=n:=by
 have aQ:(2 ^ IntKind.i64.bits:Int)=18446744073709551616:=by decide
 have bF:(2 ^ (IntKind.i64.bits - 1) :Int)=9223372036854775808:=by decide
 have dz:IntKind.i64.signed=true:=rfl;simp only[IntKind.wrap,aQ,bF,dz,auu,decide_eq_true_eq];split<;>omega
theorem bA {α:Type} {l:List α} {k:Nat} (h:k<l.length) :∃ x,l[k]? = some x/\x∈l:=⟨l[k],atu h,avy h⟩
section
variable {P:Program} {G:Nat->U}
theorem OO {t e:TypeId} (aJ:P.underlying t=some (.slice e)) {α:Type} (z:Nat) (enc:α->List U) (s:dR α) :gi P .eql t (cK z enc s) .a1=some (.bool s.isNone) :=by
 cases s<;>simp[cK,gi,xk,ez,aJ]
theorem abq {e:TypeId} {k:IntKind} (aJ:P.underlying e=some (.int k)) (aB:dW P e=some false) {D:Nat} (x y:List Int) :∀ (n i:Nat),i+n=x.length->i+n=y.length->
  ez.r6 P (ez P (D+1)) e 1 (x.map (.int k)) (y.map (.int k)) n i=some (decide (x.drop i=y.drop i)) :=by
 intro n
 induction n with
 | zero=>intro i af az; rw[at9 (by omega),at9 (by omega)]; simp[ez.r6]
 | succ n aH=>
  intro i af az;have uk:x[i]? = some x[i] :=atu (by omega);have afY:y[i]? = some y[i] :=atu (by omega);unfold ez.r6;simp only[Mi aB,auW,atw,uk,afY,atA];have ao:ez P (D+1) e (.int k x[i]) (.int k y[i])=some (decide (x[i]=y[i])) :=by
   unfold ez;rw[aJ];simp only[if_true];by_cases h:x[i]=y[i]<;>simp[h]
  rw[ao];have To:x.drop i=x[i] ::x.drop (i+1) :=auo (by omega);have Tp:y.drop i=y[i] ::y.drop (i+1) :=auo (by omega);by_cases h:x[i]=y[i]
  ·simp only[h,decide_true];rw[aH (i+1) (by omega) (by omega)];refine congrArg some (decide_eq_decide.2 ?_);rw[To,Tp,h];simp only[List.cons.injEq,true_and]
  ·simp only[h,decide_false];refine congrArg some (decide_eq_false ?_).symm;rw[To,Tp];simp only[List.cons.injEq,h,false_and,not_false_eq_true]
theorem abA {t e:TypeId} {k:IntKind} {n:Nat} (aI:P.underlying t=some (.array n e)) (aJ:P.underlying e=some (.int k)) (aB:dW P e=some false) (al:cv P e=some 1) {x y:List Int} (af:x.length=n) (az:y.length=n) {D:Nat} :
  ez P (D+2) t (.aM (x.map (.int k))) (.aM (y.map (.int k)))=some (decide (x=y)) :=by
 unfold ez;rw[aI];simp only[al];rw[abq aJ aB x y n 0 (by omega) (by omega)];simp
theorem E0 {z:Nat} {es:List (List U)} (aw:∀ e∈es,e.length=z) :es.flatten.length=es.length*z:=by
 induction es with
 | nil=>simp
 | cons e es aH=>rw[aup,atB,aw e (by simp),aH fun e ao=>aw e (by simp[ao]),atL,aua,Nat.add_comm]
theorem EZ {z:Nat} {es:List (List U)} (aw:∀ e∈es,e.length=z) {i j:Nat} {e:List U} (ao:es[i]? = some e) (ai:j<z) :es.flatten[i*z+j]? = e[j]?:=by
 induction es generalizing i with
 | nil=>simp at ao
 | cons x es aH=>
  have af:x.length=z:=aw x (by simp);cases i with
  | zero=>
   simp only[atT,Option.some.injEq] at ao;subst ao;rw[aup,avG,auF,ats (by omega)]
  | succ i=>
   simp only[at5] at ao;rw[aup,atC (by rw[af,aua]; omega),af,show (i+1)*z+j - z=i*z+j by rw[aua]; omega];exact aH (fun e ao=>aw e (by simp[ao])) ao
theorem dg {ae:a7} {i:Nat} {v:U} (h:ae i=v) :bL ae i v=ae:=by
 funext t; simp only[bL]; split<;>simp_all
theorem qu {ae:a7} {c6:Nat} {fx:U} {eH:Nat} {dJ:U} (h1:ae c6=fx) (ad:ae eH=dJ) :∃ s:a7,ae=bL (bL (s) c6 fx) eH dJ:=⟨ae,by rw[dg h1,dg ad]⟩
theorem kq {ae:a7} {c6:Nat} {fx:U} {eH:Nat} {dJ:U} {hx:Nat} {v3:U} (h1:ae c6=fx) (ad:ae eH=dJ) (aj:ae hx=v3) :∃ s:a7,ae=bL (bL (bL (s) c6 fx) eH dJ) hx v3:=⟨ae,by rw[dg h1,dg ad,dg aj]⟩
theorem iv {ae:a7} {c6:Nat} {fx:U} {eH:Nat} {dJ:U} {hx:Nat} {v3:U} {i0:Nat} {v4:U} (h1:ae c6=fx) (ad:ae eH=dJ) (aj:ae hx=v3) (aF:ae i0=v4) :∃ s:a7,ae=bL (bL (bL (bL (s) c6 fx) eH dJ) hx v3) i0 v4:=⟨ae,by rw[dg h1,dg ad,dg aj,dg aF]⟩
theorem kU {ae:a7} {c6:Nat} {fx:U} {eH:Nat} {dJ:U} {hx:Nat} {v3:U} {i0:Nat} {v4:U} {kf:Nat} {v5:U} (h1:ae c6=fx) (ad:ae eH=dJ) (aj:ae hx=v3) (aF:ae i0=v4) (aW:ae kf=v5) :∃ s:a7,ae=bL (bL (bL (bL (bL (s) c6 fx) eH dJ) hx v3) i0 v4) kf v5:=⟨ae,by rw[dg h1,dg ad,dg aj,dg aF,dg aW]⟩
theorem AZ {ae:a7} {c6:Nat} {fx:U} {eH:Nat} {dJ:U} {hx:Nat} {v3:U} {i0:Nat} {v4:U} {kf:Nat} {v5:U} {lP:Nat} {dw:U} (h1:ae c6=fx) (ad:ae eH=dJ) (aj:ae hx=v3) (aF:ae i0=v4) (aW:ae kf=v5) (bt:ae lP=dw) :∃ s:a7,ae=bL (bL (bL (bL (bL (bL (s) c6 fx) eH dJ) hx v3) i0 v4) kf v5) lP dw:=⟨ae,by rw[dg h1,dg ad,dg aj,dg aF,dg aW,dg bt]⟩
theorem Yg {ae:a7} {c6:Nat} {fx:U} {eH:Nat} {dJ:U} {hx:Nat} {v3:U} {i0:Nat} {v4:U} {kf:Nat} {v5:U} {lP:Nat} {dw:U} {i1:Nat} {oe:U} (h1:ae c6=fx) (ad:ae eH=dJ) (aj:ae hx=v3) (aF:ae i0=v4) (aW:ae kf=v5) (bt:ae lP=dw) (dq:ae i1=oe) :∃ s:a7,ae=bL (bL (bL (bL (bL (bL (bL (s) c6 fx) eH dJ) hx v3) i0 v4) kf v5) lP dw) i1 oe:=⟨ae,by rw[dg h1,dg ad,dg aj,dg aF,dg aW,dg bt,dg dq]⟩
theorem Yh {ae:a7} {c6:Nat} {fx:U} {eH:Nat} {dJ:U} {hx:Nat} {v3:U} {i0:Nat} {v4:U} {kf:Nat} {v5:U} {lP:Nat} {dw:U} {i1:Nat} {oe:U} {q9:Nat} {kr:U} (h1:ae c6=fx) (ad:ae eH=dJ) (aj:ae hx=v3) (aF:ae i0=v4) (aW:ae kf=v5) (bt:ae lP=dw) (dq:ae i1=oe) (eA:ae q9=kr) :∃ s:a7,ae=bL (bL (bL (bL (bL (bL (bL (bL (s) c6 fx) eH dJ) hx v3) i0 v4) kf v5) lP dw) i1 oe) q9 kr:=⟨ae,by rw[dg h1,dg ad,dg aj,dg aF,dg aW,dg bt,dg dq,dg eA]⟩
theorem alM {ae:a7} {c6:Nat} {fx:U} {eH:Nat} {dJ:U} {hx:Nat} {v3:U} {i0:Nat} {v4:U} {kf:Nat} {v5:U} {lP:Nat} {dw:U} {i1:Nat} {oe:U} {q9:Nat} {kr:U} {v7:Nat} {v9:U} (h1:ae c6=fx) (ad:ae eH=dJ) (aj:ae hx=v3) (aF:ae i0=v4) (aW:ae kf=v5) (bt:ae lP=dw) (dq:ae i1=oe) (eA:ae q9=kr) (eX:ae v7=v9) :∃ s:a7,ae=bL (bL (bL (bL (bL (bL (bL (bL (bL (s) c6 fx) eH dJ) hx v3) i0 v4) kf v5) lP dw) i1 oe) q9 kr) v7 v9:=⟨ae,by rw[dg h1,dg ad,dg aj,dg aF,dg aW,dg bt,dg dq,dg eA,dg eX]⟩
theorem Yf {ae:a7} {c6:Nat} {fx:U} {eH:Nat} {dJ:U} {hx:Nat} {v3:U} {i0:Nat} {v4:U} {kf:Nat} {v5:U} {lP:Nat} {dw:U} {i1:Nat} {oe:U} {q9:Nat} {kr:U} {v7:Nat} {v9:U} {C0:Nat} {D5:U} {C1:Nat} {D6:U} (h1:ae c6=fx) (ad:ae eH=dJ) (aj:ae hx=v3) (aF:ae i0=v4) (aW:ae kf=v5) (bt:ae lP=dw) (dq:ae i1=oe) (eA:ae q9=kr) (eX:ae v7=v9) (lC:ae C0=D5) (tR:ae C1=D6) :∃ s:a7,ae=bL (bL (bL (bL (bL (bL (bL (bL (bL (bL (bL (s) c6 fx) eH dJ) hx v3) i0 v4) kf v5) lP dw) i1 oe) q9 kr) v7 v9) C0 D5) C1 D6:=⟨ae,by rw[dg h1,dg ad,dg aj,dg aF,dg aW,dg bt,dg dq,dg eA,dg eX,dg lC,dg tR]⟩
theorem alL {ae:a7} {c6:Nat} {fx:U} {eH:Nat} {dJ:U} {hx:Nat} {v3:U} {i0:Nat} {v4:U} {kf:Nat} {v5:U} {lP:Nat} {dw:U} {i1:Nat} {oe:U} {q9:Nat} {kr:U} {v7:Nat} {v9:U} {C0:Nat} {D5:U} {C1:Nat} {D6:U} {UM:Nat} {Yi:U} (h1:ae c6=fx) (ad:ae eH=dJ) (aj:ae hx=v3) (aF:ae i0=v4) (aW:ae kf=v5) (bt:ae lP=dw) (dq:ae i1=oe) (eA:ae q9=kr) (eX:ae v7=v9) (lC:ae C0=D5) (tR:ae C1=D6) (Ju:ae UM=Yi) :∃ s:a7,ae=bL (bL (bL (bL (bL (bL (bL (bL (bL (bL (bL (bL (s) c6 fx) eH dJ) hx v3) i0 v4) kf v5) lP dw) i1 oe) q9 kr) v7 v9) C0 D5) C1 D6) UM Yi:=⟨ae,by rw[dg h1,dg ad,dg aj,dg aF,dg aW,dg bt,dg dq,dg eA,dg eX,dg lC,dg tR,dg Ju]⟩
section
variable {α:Type}
@[simp] theorem BM (l:am) (z:Nat) (enc:α->List U) (s:dR α) :dp l z (cK z enc s)=some ((s.l.map enc).flatten,s.l.length) :=by
 cases s<;>simp[cK,dp]
end
theorem ake {l:am} {b:Nat} {c:a2} (h:l[b]? = some c) :l.set b c=l:=by
 apply auk;intro j;rw[auQ];by_cases ai:b=j
 ·subst ai; rw[if_pos rfl,if_pos (fc h)]; exact h.symm
 ·rw[if_neg ai]
theorem ZC {l:am} {z by_ b:Nat} {es xs:List (List U)} {x:U} (ag:l[b]? = some (.cells (es.length*z) es.flatten)) (af:dp l z x=some (xs.flatten,xs.length)) (aw:∀ e∈es,e.length=z) (aE:z≠0) (dD:by_≠0)
  (df:(es.length+xs.length)*by_<=ct) :
  fz l z by_ (.au z b 0 es.length es.length (es.length*z)) x=some (.au z b 0 (es++xs).length (es++xs).length ((es++xs).length*z),l.set b (.cells ((es++xs).length*z) (es++xs).flatten)) :=by
 unfold fz;rw[af];show h4 l z by_ _ xs.flatten xs.length=_;unfold h4;cases xs with
 | nil=>simp[ake ag]
 | cons y a6=>
  rw[if_neg (by simp),if_neg (by omega)];simp only[ag];rw[if_pos ⟨trivial,trivial,df⟩,if_neg (by simp),if_neg (by omega),if_pos trivial,atr (by rw[E0 aw]; exact att _)];simp only[atB,aul]
theorem ZB {l:am} {z by_ b n m sz:Nat} {es xs:List (List U)} {x:U} (ag:l[b]? = some (.cells sz es.flatten)) (af:dp l z x=some (xs.flatten,m)) (aC:es.length=n) (hm:xs.length=m) (al:sz=n*z) (aw:∀ e∈es,e.length=z) (aE:z≠0) (dD:by_≠0)
  (df:(n+m)*by_<=ct) :
  fz l z by_ (.au z b 0 n n sz) x=some (.au z b 0 (n+m) (n+m) ((n+m)*z),l.set b (.cells ((n+m)*z) (es++xs).flatten)) :=by
 subst aC hm al;rw[ZC ag af aw aE dD df];simp only[atB]
theorem fE {cs vs:List U} (h:vs.length=cs.length) :bz cs 0 vs=vs:=by
 simp only[bz,auE,auB,auF];rw[at9 (by omega),atZ]
theorem OS (len cap:Nat) (k:IntKind) (i:Int) :gv len cap (some (.int k i)) none none=if 0<=i/\i<=len then some (i.toNat,len,cap) else none:=by
 unfold gv jb;by_cases h:0<=i/\i<=len
 ·simp only[if_pos h]
 ·simp only[if_neg h]
theorem Iy (len cap:Nat) (k:IntKind) (i:Int) :gv len cap none (some (.int k i)) none=if 0<=i/\i<=cap then some (0,i.toNat,cap) else none:=by
 unfold gv jb;by_cases h:0<=i/\i<=cap
 ·simp only[if_pos h]
 ·simp only[if_neg h]
theorem Z1 (len cap:Nat) (k k' : IntKind) (i j:Int) :gv len cap (some (.int k i)) (some (.int k' j)) none=if 0<=i/\i<=j/\j<=cap then some (i.toNat,j.toNat,cap) else none:=by
 unfold gv jb;by_cases h:0<=j/\j<=cap
 ·simp only[if_pos h];by_cases ad:0<=i/\i<=((j.toNat:Nat) :Int)
  ·simp only[if_pos ad]; rw[if_pos (by omega)]
  ·simp only[if_neg ad]; rw[if_neg (by omega)]
 ·simp only[if_neg h]; rw[if_neg (by omega)]
theorem akm {α:Type} {z:Nat} {enc:α->List U} {l:List α} {k:IntKind} {i:Int} (h1:0<=i) (ad:i<=l.length) :gg (.au z) (cK z enc (some l)) (some (.int k i)) none none=some (cK z enc (some (l.drop i.toNat))) :=by
 have aj:i.toNat<=l.length:=by omega
 simp only[gg,cK,if_true,OS,atU];rw[if_pos ⟨h1,ad⟩];simp only[atA,Option.some.injEq,U.bD.injEq,true_and];rw[atr (by simp),List.map_drop]
theorem akq {α:Type} {z:Nat} {enc:α->List U} {l:List α} {k:IntKind} {i:Int} (h1:0<=i) (ad:i<=l.length) :gg (.au z) (cK z enc (some l)) none (some (.int k i)) none=some (cK z enc (some (l.take i.toNat))) :=by
 simp only[gg,cK,if_true,Iy,atU];rw[if_pos ⟨h1,ad⟩];simp only[atA,Option.some.injEq,U.bD.injEq,true_and,auv,av1];rw[awG]
theorem akn {α:Type} {z:Nat} {enc:α->List U} {l:List α} {k k' : IntKind} {i j:Int} (aE:0<=i) (h1:i<=j) (ad:j<=l.length) :gg (.au z) (cK z enc (some l)) (some (.int k i)) (some (.int k' j)) none=some (cK z enc (some ((l.drop i.toNat).take (j.toNat - i.toNat)))) :=by
 simp only[gg,cK,if_true,Z1,atU];rw[if_pos ⟨aE,h1,ad⟩];simp only[atA,Option.some.injEq,U.bD.injEq,true_and];rw[awG,List.map_drop]
theorem map_set {α:Type} (l:List α) (k:Nat) (x:α) (enc:α->List U) :(l.map enc).set k (enc x)=(l.set k x).map enc:=by rw[List.map_set]
end

section
variable {P:Program}
def XL (P:Program) (t:TypeId) :Option (List TypeId) :=match P.underlying t with
 | some (.struct fs)=>some (fs.toList.map (·.type))
 | _=>none
theorem NA {cs:List U} (h:dL P [] cs) :cs=[] :=by cases h; rfl
theorem D1 {t:TypeId} {k:IntKind} {ts:List TypeId} {cs:List U} (aJ:P.underlying t=some (.int k)) (h:dL P (t::ts) cs) :∃ n cs',cs=.int k n::cs'/\k.min<=n/\n<=k.max/\dL P ts cs':=by
 cases h
 case int k' n cs' h1 ad p6 h=>
  rw[aJ] at p6; cases p6; exact⟨_,_,rfl,h1,ad,h⟩
 all_goals (exfalso; simp_all; done)
theorem D2 {t:TypeId} {fs ts:List TypeId} {cs:List U} (aJ:XL P t=some fs) (h:dL P (t::ts) cs) :dL P (fs++ts) cs:=by
 unfold XL at aJ;cases h
 case struct aoR p6 h=>rw[p6] at aJ; cases aJ; exact h
 all_goals (exfalso; simp_all; done)
theorem alB {t e:TypeId} {n:Nat} {ts:List TypeId} {cs:List U} (aJ:P.underlying t=some (.array n e)) (h:dL P (t::ts) cs) :dL P (List.replicate n e++ts) cs:=by
 cases h
 case array fb gY p6 h=>rw[aJ] at p6; cases p6; exact h
 all_goals (exfalso; simp_all; done)
theorem alE {t e:TypeId} {ts:List TypeId} {cs:List U} (aJ:P.underlying t=some (.slice e)) (h:dL P (t::ts) cs) :
  ∃ cs',dL P ts cs'/\(cs=.a1::cs'\/∃ es,cs=.bD (P.cellsOf e) es::cs'/\es.length<=maxLen/\∀ r∈es,dL P [e] r) :=by
 cases h
 case a1 fb cs' p6 h=>exact⟨_,h,.inl rfl⟩
 case au fb es cs' ak aw ao p6 h=>rw[aJ] at p6; cases p6; exact⟨_,h,.inr ⟨es,rfl,ak,ao⟩⟩
 all_goals (exfalso; simp_all; done)
theorem Xf {α:Type} {enc:α->List U} {Q:α->Prop}:∀ (es:List (List U)),(∀ r∈es,∃ x,r=enc x/\Q x)->∃ xs:List α,es=xs.map enc/\∀ x∈xs,Q x
 | [],_=>⟨[],rfl,fun x af=>by cases af⟩
 | r::es,h=>by
  obtain⟨x,rfl,af⟩:=h r (by simp);obtain⟨xs,rfl,Aj⟩:=Xf es (fun r ax=>h r (by simp[ax]));exact⟨x::xs,rfl,fun y az=>by
   rcases aub.1 az with rfl | az
   ·exact af
   ·exact Aj y az⟩
theorem Ya {α:Type} {t e:TypeId} {z:Nat} {enc:α->List U} {Q:α->Prop} {ts:List TypeId} {cs:List U} (aJ:P.underlying t=some (.slice e)) (aw:P.cellsOf e=z) (ao:∀ r,dL P [e] r->∃ x,r=enc x/\Q x) (h:dL P (t::ts) cs) :
  ∃ (s:dR α) (cs' : List U),cs=cK z enc s::cs'/\s.l.length<=maxLen/\(∀ x∈s.l,Q x)/\dL P ts cs':=by
 obtain⟨cs',h1,rfl | ⟨es,rfl,ak,ax⟩⟩:=alE aJ h
 ·exact⟨none,cs',rfl,auy _,fun x af=>(by cases af),h1⟩
 ·obtain⟨xs,rfl,Aj⟩:=Xf (enc:=enc) (Q:=Q) es (fun r j8=>ao r (ax r j8));refine⟨some xs,cs',?_,by simpa using ak,Aj,h1⟩;rw[aw]; rfl
theorem aly {t:TypeId} {c:U} (aB:dW P t=some true) (h:tq P t c) :∃ cs,c=.aM cs/\dL P [t] cs:=by
 unfold tq at h; rw[aB] at h; exact h
theorem alz {t:TypeId} {c:U} (aB:dW P t=some false) (h:tq P t c) :dL P [t] [c] :=by
 unfold tq at h; rw[aB] at h; exact h
theorem X7 {t:TypeId} {ts:List TypeId} {cs:List U} (h:l0 P (t::ts) cs) :∃ c cs',cs=c::cs'/\tq P t c/\l0 P ts cs':=by
 cases h with
 | cons h1 ad=>exact⟨_,_,rfl,h1,ad⟩
theorem alw {cs:List U} (h:l0 P [] cs) :cs=[] :=by cases h; rfl
end

end Go.b2

namespace Go.b2
open Go Go.ChangeShapes Go.RowKit
theorem X3 {H:Type} {enc:TypeId × Value->H} {P:Program} (ak:laidOutB P=true) {W tt:World} (ag:Below W.heap.size W tt) :∀ {ts:List TypeId} {vs:List Value} {hN:List (DataW H)} {cE:List MemPlace},
  (∀ t∈ts,P.readableRec t=true/\t<P.types.size)->DataW.TrodAll enc P W 0 (fun _=>true) true ts vs hN cE->DataW.TrodAll enc P tt 0 (fun b=>decide (b<W.heap.size)) true ts vs hN cE
 | [],vs,hN,cE,_,h=>by
  obtain⟨rfl,rfl,rfl⟩:=trodAll_nil h;exact trodAll_mk0
 | t::ts,vs,hN,cE,ax,h=>by
  have aK:=h.lt;obtain⟨v,alX,d,abb,a,b,rfl,rfl,rfl,h1,ad⟩:=trodAll_cons h;exact⟨a,b,Below.trod ak (ax t (by simp)).1 (ax t (by simp)).2 h1 ag (fun x af=>aK x (by simp[af])),X3 ak ag (fun t aI=>ax t (by simp[aI])) ad,rfl⟩
theorem ahh {P:Program} {G:Nat->U} (lK:P.follows .mixedOrders=true) (j3:∀ g,(G g).closed=true) {f:FuncId} {ts:List TypeId} (D:Nat) (ay:∀ t∈ts,uH P D t=true) (aeH:laidOutB P=true)
  (cC:∀ t∈ts,P.readableRec t=true/\t<P.types.size) (ahf:∀ cs,l0 P ts cs->c7 P G f cs [] (c:=⟨fun r _=>r=.bool true⟩))
  {H:Type} {enc:TypeId × Value->H} {W:World} {g4:Nat} {args:Array Value} {hN:List (DataW H)} {cE:List MemPlace} (ar:∀ g,fi W (fun _=>True) (G g) (.pointer (some ⟨g,0,none⟩)))
  (dG:∀ (j:Nat) t v,ts[j]? = some t->args[j]? = some v->Value.okWide P W .any g4 t v) (h:DataW.TrodAll enc P W 0 (fun _=>true) true ts args.toList hN cE) :
  Calls P f args W fun e w'=>e=.returned (.bool true)/\Below W.heap.size W w'/\DataW.TrodAll enc P w' 0 (fun b=>decide (b<W.heap.size)) true ts args.toList hN cE:=by
 obtain⟨cs,Aa,bh,uj⟩:=Oz (A:=fun _=>True) (fun _=>trivial) ay (fun j t v aI aq=>dG j t v aI (by simpa using aq)) h;exact (ahg lK j3 (ahf cs Aa) ar (by rw[bh]; simp) (fun j c v ah aq=>uj j c v ah (by simpa using aq))).mono fun e w' ⟨ao,ag⟩=>⟨ao,ag,X3 aeH ag cC h⟩
end Go.b2

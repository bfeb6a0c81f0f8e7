/-
  The canonical machine, part X: what must hold behind code without types holds behind the code.
-/
import Derived.Test.YtidejmkknleijaaGreatDoorKd
import GoSem.ClaimChange
import GoSem.ClaimWide
import Derived.ProofKit
set_option linter.unusedVariables false
set_option linter.unusedSimpArgs false
set_option linter.unnecessarySimpa false
namespace Go.ca
open Go
section
variable {P:Program} {G:Nat->U}
theorem La {op:Op} {m:dK} (hm:lX P op=some m) (ao:jG op=false) :m.looks=true\/m.ki=true:=by
 cases op<;>simp only[jG,amX,reduceCtorEq] at ao<;>simp only[lX] at hm<;>try (cases hm; done)
 case move=>cases hm; exact .inl rfl
 case assign=>cases hm; exact .inl rfl
 case pick=>cases hm; exact .inl rfl
 case alloc=>rw[map_some] at hm; obtain⟨_,_,rfl⟩:=hm; exact .inr rfl
 case box=>cases hm; exact .inr rfl
 case build=>simp only[bind_some,map_some] at hm; obtain⟨_,_,_,_,rfl⟩:=hm; exact .inl rfl
 case buildSlice=>simp only[bind_some,hW] at hm; obtain⟨_,_,_,_,_,_,_,rfl⟩:=hm; exact .inr rfl
 case load=>split at hm<;>cases hm<;>exact .inl rfl
 case nilCheck=>cases hm; exact .inl rfl
 case binOp=>cases hm; exact .inl rfl
 case unOp=>cases hm; exact .inl rfl
 case convert=>
  repeat' split at hm
  all_goals first | (cases hm; done) | (cases hm; exact .inl rfl)
 case makeInterface=>split at hm<;>cases hm; exact .inl rfl
 case makeFunc f a b=>cases f<;>simp only at hm<;>cases hm; exact .inl rfl
 case makeSlice=>simp only[bind_some,hW] at hm; obtain⟨_,_,_,_,_,_,_,_,_,rfl⟩:=hm; exact .inr rfl
 case slice=>rw[map_some] at hm; obtain⟨_,_,rfl⟩:=hm; exact .inl rfl
 case fieldAddr=>rw[bind_some] at hm; obtain⟨_,_,hm⟩:=hm; split at hm<;>cases hm; exact .inl rfl
 case field=>rw[bind_some] at hm; obtain⟨_,_,hm⟩:=hm; split at hm<;>cases hm<;>exact .inl rfl
 case indexAddr=>split at hm<;>cases hm<;>exact .inl rfl
 case index=>
  repeat' split at hm
  all_goals first | (cases hm; done) | (cases hm; exact .inl rfl)
 case extract=>cases hm; exact .inl rfl
 case call c=>
  split at hm
  ·rename_i b ag;rw[ag] at ao;cases b<;>simp only[amX,reduceCtorEq] at ao<;>unfold sY at hm<;>(repeat' split at hm)<;>first
    | (cases hm; done)
    | (cases hm; exact .inl rfl)
    | (rw[map_some] at hm; obtain⟨_,_,rfl⟩:=hm; exact .inl rfl)
    | (exfalso; simp only[reduceCtorEq] at *; done)
  ·rename_i f aI;rw[aI] at ao; cases ao
  ·cases hm
theorem Lb {op:Op} {m:dK} (hm:lX P op=some m) (a3:ra P op=false) :m.reads=false/\m.ki=false:=by
 cases op<;>simp only[ra,amX,reduceCtorEq] at a3<;>simp only[lX] at hm<;>try (cases hm; done)
 case move=>cases hm; exact⟨rfl,rfl⟩
 case assign=>cases hm; exact⟨rfl,rfl⟩
 case pick=>cases hm; exact⟨rfl,rfl⟩
 case build=>simp only[bind_some,map_some] at hm; obtain⟨_,_,_,_,rfl⟩:=hm; exact⟨rfl,rfl⟩
 case store=>rw[map_some] at hm; obtain⟨_,_,rfl⟩:=hm; exact⟨rfl,rfl⟩
 case nilCheck=>cases hm; exact⟨rfl,rfl⟩
 case binOp=>cases hm; exact⟨rfl,rfl⟩
 case unOp=>cases hm; exact⟨rfl,rfl⟩
 case makeInterface=>split at hm<;>cases hm; exact⟨rfl,rfl⟩
 case makeFunc f a b=>cases f<;>simp only at hm<;>cases hm; exact⟨rfl,rfl⟩
 case typeAssert=>rw[map_some] at hm; obtain⟨_,_,rfl⟩:=hm; exact⟨rfl,rfl⟩
 case slice=>rw[map_some] at hm; obtain⟨_,_,rfl⟩:=hm; exact⟨rfl,rfl⟩
 case fieldAddr=>rw[bind_some] at hm; obtain⟨_,_,hm⟩:=hm; split at hm<;>cases hm; exact⟨rfl,rfl⟩
 case field=>rw[bind_some] at hm; obtain⟨_,_,hm⟩:=hm; split at hm<;>cases hm<;>exact⟨rfl,rfl⟩
 case indexAddr=>split at hm<;>cases hm<;>exact⟨rfl,rfl⟩
 case index=>
  repeat' split at hm
  all_goals first | (cases hm; done) | (cases hm; exact⟨rfl,rfl⟩)
 case extract=>cases hm; exact⟨rfl,rfl⟩
 case next it b=>cases b<;>simp only[reduceCtorEq] at hm<;>cases hm; exact⟨rfl,rfl⟩
 case panic=>cases hm; exact⟨rfl,rfl⟩
 case lookup=>split at hm<;>(try cases hm; done); rw[map_some] at hm; obtain⟨_,_,rfl⟩:=hm; exact⟨rfl,rfl⟩
 case mapUpdate=>split at hm<;>cases hm; exact⟨rfl,rfl⟩
 case insert=>split at hm<;>cases hm; exact⟨rfl,rfl⟩
 case makeMap=>split at hm<;>cases hm; exact⟨rfl,rfl⟩
 case range=>split at hm<;>cases hm; exact⟨rfl,rfl⟩
 case call c=>
  split at hm
  ·rename_i b ag;rw[ag] at a3;unfold sY at hm
   repeat' split at hm
   all_goals first
    | (cases hm; done)
    | (exfalso; simp_all; done)
    | (cases hm; exact⟨rfl,rfl⟩)
    | (simp only[bind_some,map_some] at hm; obtain⟨_,_,rfl⟩:=hm; exact⟨rfl,rfl⟩)
    | (simp only[bind_some,map_some] at hm; obtain⟨_,_,_,_,rfl⟩:=hm; exact⟨rfl,rfl⟩)
    | (simp only[bind_some,hW] at hm; obtain⟨_,_,_,_,_,_,_,rfl⟩:=hm; exact⟨rfl,rfl⟩)
    | (simp only[bind_some,hW] at hm; obtain⟨_,_,_,_,_,_,_,_,_,rfl⟩:=hm; exact⟨rfl,rfl⟩)
  ·split at hm
   ·rw[hW] at hm; obtain⟨_,rfl⟩:=hm; exact⟨rfl,rfl⟩
   ·cases hm
  ·cases hm
inductive lO (P:Program) (G:Nat->U) (s:ei) (o:Oper) (ae:a7) (l:ap) (v:U) (l1:ap) :bG->Prop
 | pure (m:dK) (ag:s.b=.hj m) (hm:m.looks=true) (am:l1=l) (ak:bO P (dv G ae) l m=some (v,l)) :lO P G s o ae l v l1 (.pure s.i v)
 | new (m:dK) (cs:List U) (ag:s.b=.hj m) (hm:m.ki=true) (am:l1=l++[.cells cs.length cs]) :lO P G s o ae l v l1 (.new s.i v cs)
 | gf (ao:jG o.op=true) (bC:l.length<=l1.length) :lO P G s o ae l v l1 (.gf s.i v (bM l1))
theorem lO.idx {s:ei} {o:Oper} {ae:a7} {l l1:ap} {v:U} {t:bG} (k:lO P G s o ae l v l1 t) :t.idx=s.i:=by cases k<;>rfl
theorem lO.val {s:ei} {o:Oper} {ae:a7} {l l1:ap} {v:U} {t:bG} (k:lO P G s o ae l v l1 t) :t.val=v:=by cases k<;>rfl
theorem lO.next {s:ei} {o:Oper} {ae:a7} {l l1:ap} {v:U} {t:bG} (k:lO P G s o ae l v l1 t) :oR (bM l) t=bM l1:=by
 cases k with
 | pure m ag hm am ak=>rw[am]; rfl
 | new m cs ag hm am=>rw[am,<-n3]; rfl
 | gf ao _=>rfl
theorem acK {ops:Array Oper} {s:ei} {o:Oper} (ok:n5 P ops s o) {ae:a7} (aV:jV ops ae o=some true) {l:ap} {K:U->ap->Prop} (h:hJ P G s.b ae l K) :
  ∃ v l1 t,lO P G s o ae l v l1 t/\uZ P G ops ⟨ae,bM l⟩ t/\K v l1:=by
 obtain⟨v,l1,ad,af,al,aG⟩:=QX ok h;have j1:jG o.op=true->∃ v l1 t,lO P G s o ae l v l1 t/\uZ P G ops ⟨ae,bM l⟩ t/\K v l1:=fun ao=>⟨v,l1,_,.gf ao af,⟨o,ok.here,aV,ad,by simpa using af⟩,al⟩
 cases ag:s.b with
 | hj m=>
  have hm:=ok.hj m ag;cases ao:jG o.op with
  | true=>exact j1 ao
  | false=>
   have ak:=aG m ag (La hm ao);rcases La hm ao with am | aD
   ·have:=Zc am ak;subst this;exact⟨v,l1,_,.pure m ag am rfl ak,⟨o,ok.here,aV⟩,al⟩
   ·obtain⟨cs,mk,a6,bK,c9⟩:=ZG hm aD ak;exact⟨v,l1,_,.new m cs ag aD c9,⟨o,mk,ok.here,aV,a6,bK⟩,al⟩
 | ni f args=>
  obtain⟨c,hT,ah,_⟩:=ok.ni f args ag;exact j1 (by rw[hT]; simp only[jG,ah])
 | nj x args=>
  obtain⟨c,hT,ah,_⟩:=ok.nj x args ag;exact j1 (by rw[hT]; simp only[jG,ah])
 | oc x name args=>
  obtain⟨c,hT,ah,_⟩:=ok.oc x name args ag;exact j1 (by rw[hT]; simp only[jG,ah])
inductive jp (P:Program) (G:Nat->U) (ops:Array Oper) :List ei->a7->ap->iI->List (bG × a7 × ap)->a7->ap->Prop
 | nil {ae l seen}:jp P G ops [] ae l seen [] ae l
 | skip {s o r ae l seen es bS l'}:n5 P ops s o->jV ops ae o=some false->jp P G ops r (hn ae s.dst ie) l seen es bS l'->jp P G ops (s::r) ae l seen ((.skip s.i,ae,l) ::es) bS l'
 | step {s o r ae l v l1 t seen es bS l'}:n5 P ops s o->lO P G s o ae l v l1 t->uZ P G ops ⟨ae,bM l⟩ t->qo s.hp seen l1->
   jp P G ops r (hn ae s.dst v) l1 (q7 s.cc s.i (mB P G s.b ae v l l1) seen) es bS l'->jp P G ops (s::r) ae l seen ((t,ae,l) ::es) bS l'
theorem I3 {ops:Array Oper} {K:a7->ap->Prop}:∀ {s:List ei} {ae:a7} {l:ap} {seen:iI},(∀ x∈s,∃ o,n5 P ops x o)->kp P G s ae l seen K->∃ es bS l',jp P G ops s ae l seen es bS l'/\K bS l'
 | [],ae,l,seen,_,h=>⟨[],ae,l,.nil,h⟩
 | s::r,ae,l,seen,c0,h=>by
  obtain⟨o,ok⟩:=c0 s (by simp);rcases Ot ok h with ⟨aV,h⟩ | ⟨aV,h⟩
  ·obtain⟨v,l1,t,ad,af,al,aG⟩:=acK ok aV h;obtain⟨es,bS,l',a6,bK⟩:=I3 (fun x ai=>c0 x (by simp[ai])) aG;exact⟨_,bS,l',.step ok ad af al a6,bK⟩
  ·obtain⟨es,bS,l',a6,bK⟩:=I3 (fun x ai=>c0 x (by simp[ai])) h;exact⟨_,bS,l',.skip ok aV a6,bK⟩
theorem I4 {K:a7->ap->Prop}:∀ {s:List ei} {ae:a7} {l:ap},(∀ x∈s,x.cc=false)->jR P G s ae l K->kp P G s ae l [] K
 | [],ae,l,_,h=>h
 | s::r,ae,l,ax,h=>by
  have mono:∀ (b:uQ) (K gn:U->ap->Prop),(∀ v l,K v l->gn v l)->hJ P G b ae l K->hJ P G b ae l gn:=by
   intro b K gn bj h;cases b with
   | hj m=>simp only[hJ,BD] at h ⊢; obtain⟨v,ad,af⟩:=h; exact⟨v,ad,Ow bj af⟩
   | ni f args=>obtain⟨r,l',ad,af,al⟩:=h; exact⟨r,l',ad,af,bj _ _ al⟩
   | nj x args=>
    simp only[hJ,wK] at h ⊢;split at h
    ·obtain⟨aF,r,l',ad,af,al⟩:=h; exact⟨aF,r,l',ad,af,bj _ _ al⟩
    ·cases h
   | oc x name args=>
    simp only[hJ,wJ] at h ⊢;split at h
    ·split at h
     ·obtain⟨aF,r,l',ad,af,al⟩:=h; exact⟨aF,r,l',ad,af,bj _ _ al⟩
     ·cases h
    ·cases h
  have UZ:∀ (g:Option (Option Tmp × Bool)) (p q cf dE:Prop),(p->cf)->(q->dE)->qP ae g p q->qP ae g cf dE:=by
   intro g p q cf dE av a8 h;unfold qP at h ⊢;split at h
   ·exact av h
   ·rename_i d w;simp only[qO] at h ⊢;split at h
    ·rw[AB] at h ⊢;rcases h with ⟨a,b⟩ | ⟨a,b⟩
     ·exact .inl ⟨a,av b⟩
     ·exact .inr ⟨a,a8 b⟩
    ·cases h
    ·exact a8 h
   ·exact a8 h
  have zX:s.cc=false:=ax s (by simp);refine UZ _ _ _ _ _ (mono _ _ _ fun v l' h=>?_) (fun h=>I4 (fun x ai=>ax x (by simp[ai])) h) h;refine⟨trivial,?_⟩;rw[zX];exact I4 (fun x ai=>ax x (by simp[ai])) h
theorem lO.len {s:ei} {o:Oper} {ae:a7} {l l1:ap} {v:U} {t:bG} (k:lO P G s o ae l v l1 t) :l.length<=l1.length:=by
 cases k with
 | pure m ag hm am ak=>rw[am]; exact akb _
 | new m cs ag hm am=>rw[am]; simp
 | gf ao bC=>exact bC
theorem jp.len {ops:Array Oper} {s:List ei} {ae bS:a7} {l l' : ap} {seen:iI} {es:List (bG × a7 × ap)} (h:jp P G ops s ae l seen es bS l') :l.length<=l'.length:=by
 induction h with
 | nil=>exact akb _
 | skip _ _ _ aQ=>exact aQ
 | step _ k _ _ _ aQ=>exact akV k.len aQ
def rI (es:List (bG × a7 × ap)) (l' : ap) (q:Nat) :ap:=match es[q]? with | some x=>x.2.2 | none=>l'
theorem jp.here {ops:Array Oper} {s:List ei} {ae bS:a7} {l l' : ap} {seen:iI} {es:List (bG × a7 × ap)} (h:jp P G ops s ae l seen es bS l') :rI es l' 0=l:=by
 cases h<;>rfl
theorem jp.idx {ops:Array Oper} {s:List ei} {ae bS:a7} {l l' : ap} {seen:iI} {es:List (bG × a7 × ap)} (h:jp P G ops s ae l seen es bS l') :es.map (fun e=>e.1.idx)=s.map (·.i) :=by
 induction h with
 | nil=>rfl
 | skip _ _ _ aQ=>simp only[akx,aQ]; rfl
 | step _ k _ _ _ aQ=>simp only[akx,aQ,k.idx]
theorem jp.at {ops:Array Oper} {s:List ei} {ae bS:a7} {l l' : ap} {seen:iI} {es:List (bG × a7 × ap)} (h:jp P G ops s ae l seen es bS l') :
  (∀ (p:Nat) (e:bG × a7 × ap),es[p]? = some e->uZ P G ops ⟨e.2.1,bM e.2.2⟩ e.1/\gD ops ⟨ae,bM l⟩ (es.map (·.1)) p=⟨e.2.1,bM e.2.2⟩)/\gD ops ⟨ae,bM l⟩ (es.map (·.1)) es.length=⟨bS,bM l'⟩:=by
 induction h with
 | nil=>exact⟨fun p e ao=>by simp at ao,rfl⟩
 | @skip s o r ae l seen es bS l' ok aV _ aQ=>
  have jf:k9 ops ⟨ae,bM l⟩ (.skip s.i)=⟨hn ae s.dst ie,bM l⟩:=by simp only[k9,vh,bG.idx,ok.here,al1,bG.val,oR,ok.dst]
  refine⟨fun p e ao=>?_,?_⟩
  ·cases p with
   | zero=>simp only[akA,Option.some.injEq] at ao; subst ao; exact⟨⟨o,ok.here,aV⟩,rfl⟩
   | succ p=>
    simp only[akN] at ao;obtain⟨ad,af⟩:=aQ.1 p e ao;refine⟨ad,?_⟩;rw[akx,Eu,jf]; exact af
  ·rw[akx,akv,Eu,jf]; exact aQ.2
 | @step s o r ae l v l1 t seen es bS l' ok k ak ah _ aQ=>
  have jf:k9 ops ⟨ae,bM l⟩ t=⟨hn ae s.dst v,bM l1⟩:=by simp only[k9,vh,k.idx,ok.here,al1,k.val,k.next,ok.dst]
  refine⟨fun p e ao=>?_,?_⟩
  ·cases p with
   | zero=>simp only[akA,Option.some.injEq] at ao; subst ao; exact⟨ak,rfl⟩
   | succ p=>
    simp only[akN] at ao;obtain⟨ad,af⟩:=aQ.1 p e ao;refine⟨ad,?_⟩;rw[akx,Eu,jf]; exact af
  ·rw[akx,akv,Eu,jf]; exact aQ.2
theorem jp.still {ops:Array Oper} {s:List ei} {ae bS:a7} {l l' : ap} {seen:iI} {es:List (bG × a7 × ap)} (h:jp P G ops s ae l seen es bS l') (j:Nat) (S:ap->Prop)
  (oC:∀ l x,S l->S (l++x)) (aF:S l) :∀ q,q<=es.length->(∀ (p:Nat) (e:bG × a7 × ap),p<q->es[p]? = some e->e.1.iQ=true->(j,S)∈seen/\∃ x,s[p]? = some x/\j∈x.hp)->S (rI es l' q) :=by
 have Tt:∀ {ids:List Nat} {seen:iI} {l:ap},qo ids seen l->(j,S)∈seen->j∈ids->S l:=by
  intro ids seen l ah hm aB
  induction seen with
  | nil=>cases hm
  | cons e r aQ=>
   obtain⟨ad,af⟩:=ah;rcases alr.1 hm with rfl | hm
   ·exact ad (by simpa using aB)
   ·exact aQ af hm
 induction h with
 | nil=>
  intro q a8 _; simp only[akR] at a8; obtain rfl:q=0:=by omega
  exact aF
 | @skip s o r ae l seen es bS l' ok aV _ aQ=>
  intro q a8 xn;cases q with
  | zero=>exact aF
  | succ q=>exact aQ aF q (by simpa using a8) (fun p e av ao c5=>by
    obtain⟨ad,x,af,al⟩:=xn (p+1) e (by omega) (by simpa using ao) c5;exact⟨ad,x,by simpa using af,al⟩)
 | @step s o r ae l v l1 t seen es bS l' ok k ak ah _ aQ=>
  intro q a8 xn;cases q with
  | zero=>exact aF
  | succ q=>
   have ad:S l1:=by
    cases k with
    | pure m ag hm am _=>rw[am]; exact aF
    | new m cs ag hm am=>rw[am]; exact oC _ _ aF
    | gf ao _=>
     obtain⟨ad,x,af,al⟩:=xn 0 _ (by omega) rfl rfl;simp only[akA,Option.some.injEq] at af;subst af;exact Tt ah ad al
   refine aQ ad q (by simpa using a8) (fun p e av ao c5=>?_);obtain⟨ad,x,af,al⟩:=xn (p+1) e (by omega) (by simpa using ao) c5;refine⟨?_,x,by simpa using af,al⟩;unfold q7;cases s.cc with
   | false=>exact ad
   | true=>exact amK _ ad
theorem jp.split {ops:Array Oper} {s:List ei} {ae bS:a7} {l l' : ap} {seen:iI} {es:List (bG × a7 × ap)} (h:jp P G ops s ae l seen es bS l') :∀ (p:Nat) (e:bG × a7 × ap),es[p]? = some e->e.1.r2=false->
  ∃ x o v l1 uq,s[p]? = some x/\n5 P ops x o/\lO P G x o e.2.1 e.2.2 v l1 e.1 ∧
   jp P G ops (s.drop (p+1)) (hn e.2.1 x.dst v) l1 (q7 x.cc x.i (mB P G x.b e.2.1 v e.2.2 l1) uq) (es.drop (p+1)) bS l':=by
 induction h with
 | nil=>intro p e ao; simp at ao
 | @skip s o r ae l seen es bS l' ok aV _ aQ=>
  intro p e ao gL;cases p with
  | zero=>simp only[akA,Option.some.injEq] at ao; subst ao; cases gL
  | succ p=>
   obtain⟨x,df,v,l1,uq,ad,af,al,aG⟩:=aQ p e (by simpa using ao) gL;exact⟨x,df,v,l1,uq,by simpa using ad,af,al,by simpa using aG⟩
 | @step s o r ae l v l1 t seen es bS l' ok k ak ah tr aQ=>
  intro p e ao gL;cases p with
  | zero=>
   simp only[akA,Option.some.injEq] at ao; subst ao;exact⟨s,o,v,l1,seen,rfl,ok,k,by simpa using tr⟩
  | succ p=>
   obtain⟨x,df,v,l1,uq,ad,af,al,aG⟩:=aQ p e (by simpa using ao) gL;exact⟨x,df,v,l1,uq,by simpa using ad,af,al,by simpa using aG⟩
end

section
variable {P:Program} {G:Nat->U}
theorem Pq {ms:List Nat} {ops:Array Oper}:∀ (ord done j1:List Nat),(∀ i∈ord,i<ops.size)->(m8 P ms ops ord done j1).map (·.1)=ord
 | [],_,_,_=>rfl
 | i::r,done,j1,h=>by
  unfold m8;have aB:i<ops.size:=h i (by simp);rw[alz aB];simp only;split<;>simp only[akx]<;>rw[Pq r _ _ fun j aj=>h j (by simp[aj])]
theorem IC {ms:List Nat} {ops:Array Oper}:∀ (ord done j1:List Nat) (p i:Nat) (hp:List Nat),(∀ i∈ord,i<ops.size)->(m8 P ms ops ord done j1)[p]? = some (i,hp)->
  (∃ o,ops[i]? = some o/\jG o.op=true)->∀ j,(j∈done\/∃ i3,i3<p/\ord[i3]? = some j)->(∃ o,ops[j]? = some o/\ra P o.op=true)->(∀ e∈j1,nL ms e j=false)->
  (∀ (cf mg:Nat) (o:Oper),cf<=p->ord[cf]? = some mg->ops[mg]? = some o->jG o.op=true->(cf=p\/o.guard=none)->nL ms mg j=false)->j∈hp
 | [],done,j1,p,i,hp,_,av,_,_,_,_,_,_=>by simp[m8] at av
 | x::r,done,j1,p,i,hp,me,av,ao,j,aj,a3,CO,xJ=>by
  unfold m8 at av;have ai:x<ops.size:=me x (by simp);rw[alz ai] at av;have G7:ops[x]? = some ops[x] :=alz ai;simp only at av;have ay:∀ i∈r,i<ops.size:=fun j aj=>me j (by simp[aj])
  cases c5:jG ops[x].op with
  | true=>
   rw[c5] at av;simp only at av;cases p with
   | zero=>
    simp only[akA,Option.some.injEq,Prod.mk.injEq] at av;obtain⟨rfl,rfl⟩:=av;obtain⟨o,ad,af⟩:=a3;rcases aj with aj | ⟨i3,NB,_⟩
    ·refine ak0.2 ⟨aj,?_⟩;simp only[ad,af,alx,anl,akh,ak4];exact⟨by simp[xJ 0 x ops[x] (akb _) (by simp) G7 c5 (.inl rfl)],fun e ao=>by simp[CO e ao]⟩
    ·omega
   | succ p=>
    simp only[akN] at av;refine IC r _ _ p i hp ay av ao j ?_ a3 ?_ ?_
    ·rcases aj with aj | ⟨i3,NB,aj⟩
     ·exact .inl (by simp[aj])
     ·cases i3 with
      | zero=>simp only[akA,Option.some.injEq] at aj; exact .inl (by simp[aj])
      | succ i3=>exact .inr ⟨i3,by omega,by simpa using aj⟩
    ·intro e gk;cases aA:ops[x].guard with
     | none=>
      rw[aA] at gk;rcases alr.1 gk with rfl | gk
      ·exact xJ 0 e ops[e] (by omega) (by simp) G7 c5 (.inr aA)
      ·exact CO e gk
     | some fm=>rw[aA] at gk; exact CO e gk
    ·intro cf mg o i0 fW au vt aA;exact xJ (cf+1) mg o (by omega) (by simpa using fW) au vt (by rcases aA with rfl | aA; exact .inl rfl; exact .inr aA)
  | false=>
   rw[c5] at av;simp only at av;cases p with
   | zero=>
    simp only[akA,Option.some.injEq,Prod.mk.injEq] at av;obtain⟨rfl,rfl⟩:=av;obtain⟨o,ad,af⟩:=ao;rw[G7] at ad; cases ad;rw[c5] at af; cases af
   | succ p=>
    simp only[akN] at av;refine IC r _ _ p i hp ay av ao j ?_ a3 CO ?_
    ·rcases aj with aj | ⟨i3,NB,aj⟩
     ·exact .inl (by simp[aj])
     ·cases i3 with
      | zero=>simp only[akA,Option.some.injEq] at aj; exact .inl (by simp[aj])
      | succ i3=>exact .inr ⟨i3,by omega,by simpa using aj⟩
    ·intro cf mg o i0 fW au vt aA;exact xJ (cf+1) mg o (by omega) (by simpa using fW) au vt (by rcases aA with rfl | aA; exact .inl rfl; exact .inr aA)
theorem Lp {ms:List Nat} {ops:Array Oper}:∀ {ord:List Nat},ze ms ops ord=true->∀ (p cf i j:Nat) (o:Oper),ord[p]? = some i->ord[cf]? = some j->p<cf->ops[i]? = some o->jG o.op=true->nL ms j i=true
 | [],_,p,cf,i,j,o,av,_,_,_,_=>by simp at av
 | x::r,h,p,cf,i,j,o,av,i0,aO,au,ao=>by
  simp only[ze,akh] at h;cases cf with
  | zero=>omega
  | succ cf=>
   simp only[akN] at i0;cases p with
   | zero=>
    simp only[akA,Option.some.injEq] at av;subst av;rw[au] at h;simp only[ao,Bool.not_true,Bool.false_or,ak4] at h;exact h.1 j (ake i0)
   | succ p=>exact Lp h.2 p cf i j o (by simpa using av) i0 (by omega) au ao
theorem DM {α i6:Type} {f:α->Option i6}:∀ {l:List α} {r:List i6},l.mapM f=some r->∀ (p:Nat) (x:i6),r[p]? = some x->∃ a,l[p]? = some a/\f a=some x
 | [],r,h,p,x,ai=>by simp at h; subst h; simp at ai
 | a::l,r,h,p,x,ai=>by
  rw[alI] at h;simp only[Option.bind_eq_bind,bind_some,alV,Option.some.injEq] at h;obtain⟨b,ad,dT,af,rfl⟩:=h;cases p with
  | zero=>simp only[akA,Option.some.injEq] at ai; subst ai; exact⟨a,rfl,ad⟩
  | succ p=>obtain⟨ey,al,aG⟩:=DM af p x (by simpa using ai); exact⟨ey,by simpa using al,aG⟩
theorem Ic {α i6:Type} {f:α->Option i6}:∀ {l:List α} {r:List i6},l.mapM f=some r->r.length=l.length
 | [],r,h=>by simp at h; subst h; rfl
 | a::l,r,h=>by
  rw[alI] at h;simp only[Option.bind_eq_bind,bind_some,alV,Option.some.injEq] at h;obtain⟨b,ad,dT,af,rfl⟩:=h;simp[Ic af]
theorem Wa (es:List (bG × a7 × ap)) (l' : ap) (n q:Nat) :rI (es.drop n) l' q=rI es l' (n+q) :=by
 unfold rI; rw[akG]
theorem T7 {id N' : Nat} {ops:Array Oper} {uu:List ei} (bh:∀ (i:Nat) (o:Oper),ops[i]? = some o->oj N' o.dst=true)
  (me:Iw (h9 ops) ops (e9 (h9 ops) ops)=true) (V9:ze (h9 ops) ops (e9 (h9 ops) ops)=true)
  (bY:(m8 P (h9 ops) ops (e9 (h9 ops) ops) [] []).mapM (fun p=>Bh P ops p.1 p.2 (((m8 P (h9 ops) ops (e9 (h9 ops) ops) [] []).flatMap (·.2)).contains p.1))=some uu)
  {ae bS:a7} {l l' : ap} {es:List (bG × a7 × ap)} (tr:jp P G ops uu ae l [] es bS l') :dh P G (.code (.region id ops true) N' ae (bM l) .normal bS (bM l')) :=by
 simp only[Iw,akh] at me;obtain⟨⟨⟨⟨ix,hl⟩,pW⟩,se⟩,tV⟩:=me;have Hj:∀ i∈e9 (h9 ops) ops,i<ops.size:=fun i aB=>by
  rw[ak4] at se;simpa [ank] using se i aB
 have NF:(m8 P (h9 ops) ops (e9 (h9 ops) ops) [] []).map (·.1)=e9 (h9 ops) ops:=Pq _ _ _ Hj;have iv:∀ (p:Nat) (x:ei),uu[p]? = some x->∃ o,n5 P ops x o/\(m8 P (h9 ops) ops (e9 (h9 ops) ops) [] [])[p]? = some (x.i,x.hp) ∧
   x.cc=((m8 P (h9 ops) ops (e9 (h9 ops) ops) [] []).flatMap (·.2)).contains x.i:=fun p x ai=>by
  obtain⟨a,ad,af⟩:=DM bY p x ai;obtain⟨o,al,aG,a6,bK⟩:=Ew af;exact⟨o,al,by rw[ad,aG,a6],by rw[bK,aG]⟩
 have NW:∀ (p:Nat) (x:ei),uu[p]? = some x->(e9 (h9 ops) ops)[p]? = some x.i:=fun p x ai=>by
  obtain⟨o,_,ad,_⟩:=iv p x ai;rw[<-NF,akd,ad]; rfl
 have tg:∀ (p:Nat) (e:bG × a7 × ap),es[p]? = some e->∃ x,uu[p]? = some x/\x.i=e.1.idx:=fun p e ao=>by
  have:=congrArg (·[p]?) tr.idx;simp only[akd,ao,akg] at this;cases ai:uu[p]? with
  | none=>rw[ai] at this; cases this
  | some x=>rw[ai] at this; simp only[akg,Option.some.injEq] at this; exact⟨x,rfl,this.symm⟩
 have qE:∀ (p:Nat) (e:bG × a7 × ap),es[p]? = some e->(e9 (h9 ops) ops)[p]? = some e.1.idx:=fun p e ao=>by
  obtain⟨x,ad,af⟩:=tg p e ao;rw[NW p x ad,af]
 have fh:∀ (p:Nat) (t:bG),(es.map (·.1))[p]? = some t->∃ e,es[p]? = some e/\e.1=t:=fun p t a3=>by simpa using a3
 have vC:∀ (p:Nat) (e:bG × a7 × ap),es[p]? = some e->e.1.iQ=true->∃ o,ops[e.1.idx]? = some o/\jG o.op=true/\(jV ops e.2.1 o=some true) :=fun p e ao c5=>by
  have gL:e.1.r2=false:=by cases h:e.1<;>rw[h] at c5<;>first | rfl | cases c5
  obtain⟨x,o,v,l1,uq,ad,af,al,aG⟩:=tr.split p e ao gL;have oM:=(tr.at.1 p e ao).1;have de:=al.idx;have aR:=af.here;rw[<-de] at aR;refine⟨o,aR,?_,?_⟩
  ·revert c5;generalize e.1=t at al;intro c5;cases al with
   | pure=>cases c5
   | new=>cases c5
   | gf ao _=>exact ao
  ·revert oM c5 aR;generalize e.1=t;intro c5 oM aR;cases t<;>first | (cases c5; done) | skip
   obtain⟨df,a6,bK,_⟩:=oM;simp only[bG.idx] at aR;rw[aR] at a6; cases a6;exact bK
 have fN:wz ops (nL (h9 ops)) (es.map (·.1)) :=by
  refine⟨T5 ix,fun i aB=>?_,fun p cf t fQ av i0 ao=>?_,fun p t av=>?_,fun p cf t fQ av i0 aO=>?_,fun p cf t fQ av i0 aO c5=>?_⟩
  ·rw[ak4] at tV;have:=tV i (by simpa using aB);have hm:i∈e9 (h9 ops) ops:=by simpa using this
   have mX:(es.map (·.1)).map bG.idx=e9 (h9 ops) ops:=by
    rw[alN];show es.map (fun e=>e.1.idx)=_;rw[tr.idx,<-NF];apply akY;intro p;rw[akd,akd];cases ai:uu[p]? with
    | none=>
     have:(m8 P (h9 ops) ops (e9 (h9 ops) ops) [] [])[p]? = none:=by
      rw[amr] at ai ⊢;rw[<-Ic bY]; exact ai
     rw[this]; rfl
    | some x=>obtain⟨o,_,ad,_⟩:=iv p x ai; rw[ad]; rfl
   rw[<-mX] at hm;obtain⟨t,ad,af⟩:=akz.1 hm;obtain⟨p,av⟩:=alZ ad;exact⟨p,t,av,af⟩
  ·obtain⟨e,aN,aT⟩:=fh p t av;obtain⟨e6,zl,zn⟩:=fh cf fQ i0;have a2:=qE p e aN;have bb:=qE cf e6 zl;rw[aT] at a2; rw[zn] at bb;rcases aly p cf with h | h | h
   ·exact absurd ao (D5 hl p cf _ _ a2 bb h).1
   ·exact h
   ·exact absurd ao.symm (D5 hl cf p _ _ bb a2 h).1
  ·obtain⟨e,aN,aT⟩:=fh p t av;have a2:=qE p e aN;rw[aT] at a2;exact Hj _ (ake a2)
  ·obtain⟨e,aN,aT⟩:=fh p t av;obtain⟨e6,zl,zn⟩:=fh cf fQ i0;have a2:=qE p e aN;have bb:=qE cf e6 zl;rw[aT] at a2; rw[zn] at bb;exact (D5 hl p cf _ _ a2 bb aO).2
  ·obtain⟨e,aN,aT⟩:=fh p t av;obtain⟨e6,zl,zn⟩:=fh cf fQ i0;obtain⟨o,dn,dc,_⟩:=vC p e aN (by rw[aT]; exact c5);have a2:=qE p e aN;have bb:=qE cf e6 zl;rw[aT] at a2 dn; rw[zn] at bb;exact Lp V9 p cf _ _ o a2 bb aO dn dc
 have k2:∀ q,q<=es.length->(gD ops ⟨ae,bM l⟩ (es.map (·.1)) q).h=bM (rI es l' q) :=fun q a8=>by
  unfold rI;cases ao:es[q]? with
  | none=>
   have:q=es.length:=by rw[amr] at ao; omega
   rw[this,tr.at.2]
  | some e=>rw[(tr.at.1 q e ao).2]
 have o1:E1 P G ops (nL (h9 ops)) ⟨ae,bM l⟩ (es.map (·.1)) :=by
  refine⟨fun p t av=>?_,fun q a8 p t agz av cH=>?_⟩
  ·obtain⟨e,aN,aT⟩:=fh p t av;obtain⟨b5,ce⟩:=tr.at.1 p e aN;rw[ce,<-aT]; exact b5
  ·obtain⟨e,aN,aT⟩:=fh p t av;obtain⟨b5,ce⟩:=tr.at.1 p e aN;have XF:q<=es.length:=by
    rcases a8 with rfl | ⟨ac1,a8,_⟩
    ·simp
    ·obtain⟨eq,aZ,_⟩:=fh q ac1 a8;exact ali (aj7.1 aZ).1
   rw[k2 q XF,ce];cases gL:e.1.r2 with
   | true=>rw[<-aT]; cases h:e.1<;>rw[h] at gL<;>first | trivial | cases gL
   | false=>
    obtain⟨x,o,v,l1,uq,ad,af,al,aG⟩:=tr.split p e aN gL;obtain⟨df,fI,gT,WQ⟩:=iv p x ad;have lC:df=o:=by have a:=fI.here; have b:=af.here; rw[a] at b; exact Option.some.inj b
    subst lC;have ask:ra P df.op=true->∀ (cf:Nat) (e6:bG × a7 × ap),cf<q - (p+1)->(es.drop (p+1))[cf]? = some e6->e6.1.iQ=true->
      (x.i,mB P G x.b e.2.1 v e.2.2 l1)∈q7 x.cc x.i (mB P G x.b e.2.1 v e.2.2 l1) uq/\∃ y,(uu.drop (p+1))[cf]? = some y/\x.i∈y.hp:=by
     intro a3 cf e6 i0 gk vt;rw[akG] at gk;obtain⟨y,b4,cx⟩:=tg _ e6 gk;obtain⟨qY,eB,gU,_⟩:=iv _ y b4;obtain⟨Z1,h8,YF,agX⟩:=vC _ e6 gk vt;have dj:x.i∈y.hp:=by
      refine IC _ _ _ _ _ _ Hj gU ⟨Z1,by rw[cx]; exact h8,YF⟩ x.i (.inr ⟨p,by omega,NW p x ad⟩) ⟨df,af.here,a3⟩ (fun e ao=>by cases ao) ?_;intro qZ Yf DX agv Wv Ny Cq aA
      -- what is at p'' was carried out
      have aO:qZ<es.length:=by
       have:=(aj7.1 gk).1;omega
      have mX:es[qZ]? = some es[qZ] :=aka aO;have jx:=qE _ _ mX;rw[Wv] at jx;have rL:Yf=es[qZ].1.idx:=Option.some.inj jx;have Vi:es[qZ].1.iQ=true:=by
       cases Af:es[qZ].1.r2 with
       | true=>
        exfalso;rcases aA with rfl | aA
        ·rw[mX] at gk;cases gk;cases h:es[p+1+cf].1<;>rw[h] at vt Af<;>first | (cases Af; done) | (cases vt; done)
        ·have oM:=(tr.at.1 _ _ mX).1;cases h:es[qZ].1<;>rw[h] at Af oM rL<;>first | (cases Af; done) | skip
         obtain⟨pW,dJ,dy⟩:=oM;simp only[bG.idx] at rL;rw[<-rL,Ny] at dJ; cases dJ;simp[jV,aA] at dy
       | false=>
        obtain⟨yD,pW,eW,fZ,ajw,dJ,dy,tN,_⟩:=tr.split _ _ mX Af;have Wx:=tN.idx;have M0:=dy.here;rw[<-Wx,<-rL,Ny] at M0; cases M0;revert tN;generalize es[qZ].1=t3;intro tN;cases tN with
        | pure m ag hm _ _=>
         exfalso;have ah:=dy.hj m ag;have:jG DX.op=false:=by
          revert ah hm;cases DX.op<;>simp only[lX]<;>intro hm ah<;>first | rfl | (exfalso; revert ah hm; done) | skip
          case store=>rw[map_some] at ah; obtain⟨_,_,rfl⟩:=ah; cases hm
          case call c=>
           split at ah
           ·rename_i b ag;unfold jG;simp only[ag];unfold sY at ah
            repeat' split at ah
            all_goals first
             | rfl
             | (cases ah; done)
             | (cases ah; cases hm; done)
             | (simp only[bind_some,map_some] at ah; obtain⟨_,_,rfl⟩:=ah; cases hm; done)
             | (simp only[bind_some,map_some] at ah; obtain⟨_,_,_,_,rfl⟩:=ah; cases hm; done)
             | (simp only[bind_some,hW] at ah; obtain⟨_,_,_,_,_,_,_,rfl⟩:=ah; cases hm; done)
             | (simp only[bind_some,hW] at ah; obtain⟨_,_,_,_,_,_,_,_,_,rfl⟩:=ah; cases hm; done)
           ·split at ah
            ·rw[hW] at ah; obtain⟨_,rfl⟩:=ah; cases hm
            ·cases ah
           ·cases ah
          case next it b=>(cases b<;>simp only[reduceCtorEq] at ah<;>cases ah<;>cases hm)
          case lookup=>split at ah<;>(try cases ah; done); rw[map_some] at ah; obtain⟨_,_,rfl⟩:=ah; cases hm
          case mapUpdate=>split at ah<;>cases ah; cases hm
          case insert=>split at ah<;>cases ah; cases hm
          case panic=>(cases ah; cases hm)
          case makeMap=>split at ah<;>cases ah; cases hm
          case range=>split at ah<;>cases ah; cases hm
          case typeAssert=>rw[map_some] at ah; obtain⟨_,_,rfl⟩:=ah; cases hm
          all_goals (cases ah)
         rw[this] at Cq; cases Cq
        | new m cs ag hm _=>
         exfalso;have ah:=dy.hj m ag;have:jG DX.op=false:=by
          revert ah hm;cases DX.op<;>simp only[lX]<;>intro hm ah<;>first | rfl | (exfalso; revert ah hm; done) | skip
          case store=>rw[map_some] at ah; obtain⟨_,_,rfl⟩:=ah; cases hm
          case panic=>(cases ah; cases hm)
          case call c=>
           split at ah
           ·rename_i b ag;unfold jG;simp only[ag];unfold sY at ah
            repeat' split at ah
            all_goals first
             | rfl
             | (cases ah; done)
             | (cases ah; cases hm; done)
             | (simp only[bind_some,map_some] at ah; obtain⟨_,_,rfl⟩:=ah; cases hm; done)
             | (simp only[bind_some,map_some] at ah; obtain⟨_,_,_,_,rfl⟩:=ah; cases hm; done)
             | (simp only[bind_some,hW] at ah; obtain⟨_,_,_,_,_,_,_,rfl⟩:=ah; cases hm; done)
             | (simp only[bind_some,hW] at ah; obtain⟨_,_,_,_,_,_,_,_,_,rfl⟩:=ah; cases hm; done)
           ·split at ah
            ·rw[hW] at ah; obtain⟨_,rfl⟩:=ah; cases hm
            ·cases ah
           ·cases ah
          case next it b=>(cases b<;>simp only[reduceCtorEq] at ah<;>cases ah<;>cases hm)
          case lookup=>split at ah<;>(try cases ah; done); rw[map_some] at ah; obtain⟨_,_,rfl⟩:=ah; cases hm
          case mapUpdate=>split at ah<;>cases ah; cases hm
          case insert=>split at ah<;>cases ah; cases hm
          case makeMap=>split at ah<;>cases ah; cases hm
          case range=>split at ah<;>cases ah; cases hm
          case typeAssert=>rw[map_some] at ah; obtain⟨_,_,rfl⟩:=ah; cases hm
          all_goals (cases ah)
         rw[this] at Cq; cases Cq
        | gf _ _=>rfl
      have:=cH qZ es[qZ].1 (by omega) (by simp[mX]) Vi;rw[rL,af.here |> fun _=>(al.idx).symm,aT];exact this
     refine⟨?_,y,by rw[akG]; exact b4,dj⟩;have:x.cc=true:=by
      rw[WQ];simp only[List.contains_iff_mem,List.mem_flatMap];exact⟨(y.i,y.hp),ake gU,dj⟩
     rw[this];exact amV
    have Cl:ra P df.op=true->(∀ l yC,mB P G x.b e.2.1 v e.2.2 l1 l->mB P G x.b e.2.1 v e.2.2 l1 (l++yC))->mB P G x.b e.2.1 v e.2.2 l1 l1->mB P G x.b e.2.1 v e.2.2 l1 (rI es l' q) :=by
     intro a3 oC aF;have:=aG.still x.i _ oC aF (q - (p+1)) (by simp only[alk]; omega) (ask a3)
     rwa [Wa,show p+1+(q - (p+1))=q by omega] at this
    rw[<-aT];revert al Cl ask aT;generalize e.1=t1;intro aT al ask Cl;cases al with
    | gf=>trivial
    | pure m ag hm am ak=>
     intro hl m0;rw[af.here] at m0; cases m0;have ah:=af.hj m ag;cases ay:m.reads with
     | false=>exact DQ ah (Zb hm ay ak)
     | true=>
      have a3:ra P df.op=true:=by
       cases h:ra P df.op with
       | true=>rfl
       | false=>rw[(Lb ah h).1] at ay; cases ay
      have vR:m.ki=false:=by cases m<;>first | rfl | cases ay
      have bY:∀ bt,mB P G x.b e.2.1 v e.2.2 l1 bt<->bO P (dv G e.2.1) bt m=some (v,bt) :=fun bt=>by rw[ag]; simp only[mB,vR]
      have:=Cl a3 (fun bt yC h=>by rw[bY] at h ⊢; exact Za hm h) (by rw[bY,am]; exact ak);rw[bY] at this;exact DQ ah this
    | new m cs ag hm am=>
     have ah:=af.hj m ag;have a3:ra P df.op=true:=by
      cases h:ra P df.op with
      | true=>rfl
      | false=>rw[(Lb ah h).2] at hm; cases hm
     have bY:∀ bt:ap,mB P G x.b e.2.1 v e.2.2 l1 bt<->bt[e.2.2.length]? = some (.cells cs.length cs) :=fun bt=>by
      rw[ag,am]; simp only[mB,hm]; rw[akt (akb _)]; simp
     have:=Cl a3 (fun bt yC h=>by rw[bY] at h ⊢; rw[aj8 (b9 h)]; exact h) (by rw[bY,am,akt (akb _)]; simp);rw[bY] at this;show (bM (rI es l' q)).f (bM e.2.2).n=_;rw[lg,J5,this]
 have:=dh.T4 (id:=id) fN bh o1;rw[aki,tr.at.2] at this;exact this
end

section
variable {P:Program} {G:Nat->U}
theorem Kl {ops:Array Oper} {f:Nat->Option ei}:∀ {is:List Nat} {s:List ei} {os:List Oper},(∀ i x,f i=some x->∃ o,n5 P ops x o/\x.i=i)->is.mapM f=some s->is.map (fun i=>ops[i]?)=os.map some->wx P ops s os
 | [],s,os,aI,h,au=>by
  simp at h; subst h;cases os with
  | nil=>exact .nil
  | cons=>simp at au
 | i::is,s,os,aI,h,au=>by
  rw[alI] at h;simp only[Option.bind_eq_bind,bind_some,alV,Option.some.injEq] at h;obtain⟨x,ad,Eo,af,rfl⟩:=h;cases os with
  | nil=>simp at au
  | cons o os=>
   simp only[akx,List.cons.injEq] at au;obtain⟨df,ok,aB⟩:=aI i x ad;have:df=o:=by have:=ok.here; rw[aB,au.1] at this; exact (Option.some.inj this).symm
   subst this;exact .cons ok (Kl aI af au.2)
theorem TG {N N' id:Nat} (fC:N<=N') {ops:Array Oper} {draw:Bool} {c:hM} (ah:FB P N ops draw=some c) {ae:a7} {l:ap} {K:g9} (h:run P G c ae l K) :
  ∃ e bS l',dh P G (.code (.region id ops draw) N' ae (bM l) e bS (bM l'))/\l.length<=l'.length/\K e bS l':=by
 unfold FB at ah;split at ah
 ·cases ah
 ·rename_i oA;have bh:∀ (i:Nat) (o:Oper),ops[i]? = some o->oj N' o.dst=true:=fun i o au=>by
   rw[ak4] at oA;have:=oA o (by simpa using Array.mem_of_getElem? au);unfold oj at this ⊢;split at this
   ·rename_i d _; exact decide_eq_true (alv (of_decide_eq_true this) fC)
   ·rfl
  split at ah
  ·rw[map_some] at ah;obtain⟨s,ad,rfl⟩:=ah;have eA:wx P ops s ops.toList:=by
    refine Kl (fun i x ai=>?_) ad ?_
    ·obtain⟨o,af,al,_⟩:=Ew ai; exact⟨o,af,al⟩
    ·apply akY;intro p;rw[akd,akd];by_cases av:p<ops.size
     ·rw[akL av]; simp[av]
     ·rw[akp (by simp; omega),akp (by simp; omega)]; rfl
   obtain⟨bS,l',af,al,aG⟩:=I6 bh eA h;exact⟨.normal,bS,l',.region af,al,aG⟩
  ·simp only at ah;split at ah
   ·cases ah
   ·rename_i rF;simp only[akh] at rF;split at ah
    ·cases ah
    ·rename_i s ak;have c0:∀ x∈s,∃ o,n5 P ops x o:=fun x ai=>by
      obtain⟨p,av⟩:=alZ ai;obtain⟨a,_,af⟩:=DM ak p x av;obtain⟨o,al,_⟩:=Ew af;exact⟨o,al⟩
     have l3:kp P G s ae l [] (K .normal)->∃ e bS l',dh P G (.code (.region id ops true) N' ae (bM l) e bS (bM l'))/\l.length<=l'.length/\K e bS l':=fun h=>by
      obtain⟨es,bS,l',ad,af⟩:=I3 c0 h;exact⟨.normal,bS,l',T7 bh rF.1 rF.2 ak ad,ad.len,af⟩
     split at ah
     ·rename_i xn;cases ah;refine l3 (I4 (fun x ai=>?_) h);obtain⟨p,av⟩:=alZ ai;obtain⟨a,_,af⟩:=DM ak p x av;obtain⟨o,_,_,_,al⟩:=Ew af;rw[al,xn]; rfl
     ·cases ah;exact l3 h
theorem abV {N N' : Nat} (fC:N<=N') :∀ (code:Code) (c:hM),comp P N code=some c->∀ (ae:a7) (l:ap) (K:g9),run P G c ae l K->
  ∃ e bS l',dh P G (.code code N' ae (bM l) e bS (bM l'))/\l.length<=l'.length/\K e bS l':=by
 intro code
 induction code with
 | skip=>intro c ah ae l K h; cases ah; exact⟨_,_,_,.skip _ _ _,akb _,h⟩
 | label n=>intro c ah ae l K h; cases ah; exact⟨_,_,_,.label _ _ _ _,akb _,h⟩
 | ret=>intro c ah ae l K h; cases ah; exact⟨_,_,_,.ret _ _ _,akb _,h⟩
 | exit id=>intro c ah ae l K h; cases ah; exact⟨_,_,_,.exit _ _ _ _,akb _,h⟩
 | region id ops draw=>intro c ah ae l K h; exact TG fC ah h
 | seq a b HK HL=>
  intro c ah ae l K h;have mk:∀ (wI qn:hM),comp P N a=some wI->comp P N b=some qn->run P G wI ae l (oP (fun ae l=>run P G qn ae l K) K)->∃ e bS l',dh P G (.code (.seq a b) N' ae (bM l) e bS (bM l'))/\l.length<=l'.length/\K e bS l':=by
   intro wI qn aC ag h;obtain⟨e,iH,l1,ad,af,al⟩:=HK wI aC ae l _ h;cases e with
   | normal=>
    obtain⟨e,J0,bt,aG,a6,bK⟩:=HL qn ag iH l1 K al;exact⟨e,J0,bt,.QC ad aG,akV af a6,bK⟩
   | exit id=>exact⟨_,iH,l1,.Jd ad (by intro h; cases h),af,al⟩
   | ret=>exact⟨_,iH,l1,.Jd ad (by intro h; cases h),af,al⟩
  simp only[comp] at ah;split at ah
  ·rename_i bc aC ag;cases ah;exact mk _ _ aC ag h
  ·rename_i ey _ aC ag;cases ah;refine mk _ _ aC ag ?_;have:oP (fun ae l=>run P G .skip ae l K) K=K:=by
    funext e ae l;cases e<;>rfl
   rw[this]; exact h
  ·rename_i ey bc _ _ aC ag;cases ah;exact mk _ _ aC ag h
  ·cases ah
 | cond c x y HO HP=>
  intro B0 ah ae l K h;simp only[comp] at ah;split at ah
  ·rename_i JT Bu ai aL;cases ah;simp only[run,Az] at h;split at h
   ·rename_i b ag;rw[AB] at h;rcases h with ⟨rfl,h⟩ | ⟨rfl,h⟩
    ·obtain⟨e,iH,l1,ad,af,al⟩:=HO JT ai ae l K h;exact⟨e,iH,l1,.cond ag ad,af,al⟩
    ·obtain⟨e,iH,l1,ad,af,al⟩:=HP Bu aL ae l K h;exact⟨e,iH,l1,.cond ag ad,af,al⟩
   ·cases h
  ·cases ah
 | block id c aQ=>
  intro B0 ah ae l K h;simp only[comp,map_some] at ah;obtain⟨c',ad,rfl⟩:=ah;obtain⟨e,iH,l1,af,al,aG⟩:=aQ c' ad ae l _ h;cases e with
  | normal=>exact⟨_,iH,l1,.BR af (by intro h; cases h),al,aG⟩
  | ret=>exact⟨_,iH,l1,.BR af (by intro h; cases h),al,aG⟩
  | exit xU=>
   simp only[tJ] at aG;split at aG
   ·rename_i ag;obtain rfl:=jM ag;exact⟨_,iH,l1,.KK af,al,aG⟩
   ·rename_i ag;exact⟨_,iH,l1,.BR af (by intro h; cases h; rw[am3] at ag; cases ag),al,aG⟩
 | loop c aQ=>
  intro B0 ah ae l K h;simp only[comp,map_some] at ah;obtain⟨c',ad,rfl⟩:=ah;obtain⟨n,h⟩:=h
  induction n generalizing ae l with
  | zero=>cases h
  | succ n HN=>
   obtain⟨e,iH,l1,af,al,aG⟩:=aQ c' ad ae l _ h;cases e with
   | normal=>
    obtain⟨e,J0,bt,a6,bK,c9⟩:=HN iH l1 aG;exact⟨e,J0,bt,.x0 af a6,akV al bK,c9⟩
   | exit id=>exact⟨_,iH,l1,.H5 af (by intro h; cases h),al,aG⟩
   | ret=>exact⟨_,iH,l1,.H5 af (by intro h; cases h),al,aG⟩
 | scope c aQ=>
  intro B0 ah ae l K h;obtain⟨e,iH,l1,af,al,aG⟩:=aQ B0 ah ae l K h;exact⟨e,iH,l1,.scope af,al,aG⟩
 | _=>intro c ah; cases ah
def FA (P:Program) :ResultVar->Option dK
 | .tmp t=>some (.k8 (.tmp t))
 | .cell a t=>lX P (.load t (.tmp a))
def B3 (P:Program) (f:FuncId) :Option (List dK) :=match P.funcs[f]? with
 | some fn=>fn.results.toList.mapM (FA P)
 | none=>none
def oO (P:Program) (G:Nat->U) (K:U->ap->Prop) (ae:a7) (l:ap) :List dK->List U->Prop
 | [],acc=>K (wq acc) l
 | m::r,acc=>W (bO P (dv G ae) l m) (c:=⟨fun x=>oO P G K ae l r (acc++[x.1])⟩)
def AA (P:Program) (G:Nat->U) (ms:List dK) (K:U->ap->Prop) :g9:=fun e ae l=>match e with
 | .exit _=>False
 | .normal=>oO P G K ae l ms []
 | .ret=>oO P G K ae l ms []
def BL (args:List U) :a7:=fun t=>args.getD t ie
theorem Ou {K:U->ap->Prop} {ae:a7} {l:ap}:∀ {Bc:List ResultVar} {ms:List dK} {acc:List U},Bc.mapM (FA P)=some ms->oO P G K ae l ms acc->∃ vs,uh P (bM l) ae Bc=some vs/\K (wq (acc++vs)) l
 | [],ms,acc,hm,h=>by simp at hm; subst hm; exact⟨[],rfl,by simpa [oO] using h⟩
 | r::Bc,ms,acc,hm,h=>by
  rw[alI] at hm;simp only[Option.bind_eq_bind,bind_some,alV,Option.some.injEq] at hm;obtain⟨m,ad,aiS,af,rfl⟩:=hm;simp only[oO,BD] at h;obtain⟨⟨v,l1⟩,al,aG⟩:=h;obtain⟨vs,a6,bK⟩:=Ou af aG;refine⟨v::vs,?_,by simpa using bK⟩;have:yi P (bM l) ae r=some v:=by
   cases r with
   | tmp t=>cases ad; simp only[bO,Option.some.injEq,Prod.mk.injEq] at al; rw[<-al.1]; rfl
   | cell a t=>
    have dD:lX P (.load t (.tmp a))=some m:=ad;have:=DQ dD al;simp only[cQ] at this;unfold yi;show qT P (bM l) t (dv G ae (.tmp a))=some v;cases am:qT P (bM l) t (dv G ae (.tmp a)) with
    | none=>rw[am] at this; cases this
    | some x=>rw[am] at this; simp only[akg,Option.some.injEq,n4.val.injEq] at this; rw[this.1]
  simp only[uh,this,a6]
theorem KX {f:FuncId} {c:hM} {ms:List dK} (ah:B2 P f=some c) (ay:B3 P f=some ms) {args:List U} {l:ap} {K:rh}
  (h:run P G c (BL args) l (AA P G ms K.k)) :dg P G f args l (c:=K) :=by
 unfold B2 at ah;unfold B3 at ay;split at ah
 ·rename_i fn jw;split at ah
  ·rename_i body ag;rw[jw] at ay;obtain⟨e,bS,l',ad,af,al⟩:=abV (N':=args.length+(fn.ntmps - args.length)) (by omega) body c ah _ _ _ h;have l3:(e=.normal\/e=.ret)->oO P G K.k bS l' ms []->dg P G f args l (c:=K) :=fun ao al=>by
    obtain⟨vs,aG,a6⟩:=Ou ay al;exact⟨wq vs,l',.inline jw ag ad ao (by simp only[Ek,aG]; rfl),af,by simpa using a6⟩
   cases e with
   | normal=>exact l3 (.inl rfl) al
   | ret=>exact l3 (.inr rfl) al
   | exit id=>cases al
  ·cases ah
 ·cases ah
theorem QW {b:uQ} {ae:a7} {l:ap} {K gn:U->ap->Prop} (bj:∀ v l,K v l->gn v l) (h:hJ P G b ae l K) :hJ P G b ae l gn:=by
 cases b with
 | hj m=>simp only[hJ,BD] at h ⊢; obtain⟨v,ad,af⟩:=h; exact⟨v,ad,Ow bj af⟩
 | ni f args=>obtain⟨r,l',ad,af,al⟩:=h; exact⟨r,l',ad,af,bj _ _ al⟩
 | nj x args=>
  simp only[hJ,wK] at h ⊢;split at h
  ·obtain⟨aF,r,l',ad,af,al⟩:=h; exact⟨aF,r,l',ad,af,bj _ _ al⟩
  ·cases h
 | oc x name args=>
  simp only[hJ,wJ] at h ⊢;split at h
  ·split at h
   ·obtain⟨aF,r,l',ad,af,al⟩:=h; exact⟨aF,r,l',ad,af,bj _ _ al⟩
   ·cases h
  ·cases h
theorem Oq {ae:a7} {g:Option (Option Tmp × Bool)} {p q cf dE:Prop} (av:p->cf) (a8:q->dE) (h:qP ae g p q) :qP ae g cf dE:=by
 unfold qP at h ⊢;split at h
 ·exact av h
 ·simp only[qO] at h ⊢;split at h
  ·rw[AB] at h ⊢;rcases h with ⟨a,b⟩ | ⟨a,b⟩
   ·exact .inl ⟨a,av b⟩
   ·exact .inr ⟨a,a8 b⟩
  ·cases h
  ·exact a8 h
 ·exact a8 h
theorem I5 {K gn:a7->ap->Prop} (bj:∀ ae l,K ae l->gn ae l) :∀ {s:List ei} {ae:a7} {l:ap},jR P G s ae l K->jR P G s ae l gn
 | [],_,_,h=>bj _ _ h
 | s::r,_,_,h=>Oq (QW fun _ _ h=>I5 bj h) (fun h=>I5 bj h) h
theorem I2 {K gn:a7->ap->Prop} (bj:∀ ae l,K ae l->gn ae l) :∀ {s:List ei} {ae:a7} {l:ap} {seen:iI},kp P G s ae l seen K->kp P G s ae l seen gn
 | [],_,_,_,h=>bj _ _ h
 | s::r,_,_,_,h=>Oq (QW fun _ _ h=>⟨h.1,I2 bj h.2⟩) (fun h=>I2 bj h) h
theorem AC {k k' : a7->ap->Prop} {K gn:g9} (ax:∀ ae l,k ae l->k' ae l) (bj:∀ e ae l,K e ae l->gn e ae l) :∀ e ae l,oP k K e ae l->oP k' gn e ae l:=by
 intro e ae l h; cases e<;>first | exact ax _ _ h | exact bj _ _ _ h
theorem I9:∀ {c:hM} {ae:a7} {l:ap} {K gn:g9},(∀ e ae l,K e ae l->gn e ae l)->run P G c ae l K->run P G c ae l gn:=by
 intro c
 induction c with
 | skip=>intro ae l K gn bj h; exact bj _ _ _ h
 | ret=>intro ae l K gn bj h; exact bj _ _ _ h
 | exit id=>intro ae l K gn bj h; exact bj _ _ _ h
 | yh s=>intro ae l K gn bj h; exact I5 (bj _) h
 | zd s=>intro ae l K gn bj h; exact I2 (bj _) h
 | seq a b HK HL=>intro ae l K gn bj h; exact HK (AC (fun ae l h=>HL bj h) bj) h
 | cond c x y HO HP=>
  intro ae l K gn bj h;simp only[run,Az] at h ⊢;split at h
  ·rw[AB] at h ⊢;rcases h with ⟨a,b⟩ | ⟨a,b⟩
   ·exact .inl ⟨a,HO bj b⟩
   ·exact .inr ⟨a,HP bj b⟩
  ·cases h
 | block id c aQ=>
  intro ae l K gn bj h;refine aQ (fun e ae l h=>?_) h;cases e with
  | normal=>exact bj _ _ _ h
  | ret=>exact bj _ _ _ h
  | exit xU=>
   simp only[tJ] at h ⊢;split at h
   ·exact bj _ _ _ h
   ·exact bj _ _ _ h
 | loop c aQ=>
  intro ae l K gn bj h;obtain⟨n,h⟩:=h;refine⟨n,?_⟩
  induction n generalizing ae l with
  | zero=>cases h
  | succ n HN=>exact aQ (AC (fun ae l h=>HN h) bj) h
theorem dg.mono {f:FuncId} {args:List U} {l:ap} {K gn:rh} (bj:∀ v l,K.k v l->gn.k v l) (h:dg P G f args l (c:=K)) :dg P G f args l (c:=gn) :=by
 obtain⟨r,l',ad,af,al⟩:=h; exact⟨r,l',ad,af,bj _ _ al⟩
theorem AI {c:hM} {K:EU} (I:Nat->a7->ap->Prop) (step:∀ n ae l,I n ae l->run P G c ae l (oP (fun ae l=>∃ hX,hX<n/\I hX ae l) K.k)) :∀ n ae l,I n ae l->BA (run P G c) ae l (c:=K) :=by
 intro n
 induction n using Nat.strongRecOn with
 | _ n aQ=>
  intro ae l h
  -- fuel n+1 is enough
  have zw:∀ (m n:Nat),n<=m->∀ ae l,I n ae l->x0 (run P G c) (m+1) ae l K.k:=by
   intro m
   induction m with
   | zero=>
    intro n aD ae l h;obtain rfl:n=0:=by omega
    exact I9 (AC (fun ae l ⟨hX,ad,_⟩=>by omega) (fun _ _ _ h=>h)) (step 0 ae l h)
   | succ m HM=>
    intro n aD ae l h;exact I9 (AC (fun ae l ⟨hX,ad,af⟩=>HM hX (by omega) ae l af) (fun _ _ _ h=>h)) (step n ae l h)
  exact⟨n+1,zw n n (akb _) ae l h⟩
theorem cm {c:hM} {K:EU} (n:Nat) (I:Nat->a7->ap->Prop) (step:∀ k ae l,k<=n->I k ae l->run P G c ae l (oP (fun ae l=>k<n/\I (k+1) ae l) K.k)) {ae:a7} {l:ap} (h:I 0 ae l) :BA (run P G c) ae l (c:=K) :=by
 refine AI (fun m ae l=>∃ k,k+m=n/\I k ae l) (fun m ae l ⟨k,ax,h⟩=>?_) n ae l ⟨0,by omega,h⟩;exact I9 (AC (fun ae l ⟨ad,af⟩=>⟨m - 1,by omega,k+1,by omega,af⟩) (fun _ _ _ h=>h)) (step k ae l (by omega) h)
end

section
variable {P:Program} {G:Nat->U}
@[simp ↓] theorem ajv (ae:a7) (l:ap) (K:g9) :run P G .skip ae l K=K .normal ae l:=id rfl
@[simp ↓] theorem ajt (ae:a7) (l:ap) (K:g9) :run P G .ret ae l K=K .ret ae l:=id rfl
@[simp ↓] theorem ajq (i:Nat) (ae:a7) (l:ap) (K:g9) :run P G (.exit i) ae l K=K (.exit i) ae l:=id rfl
@[simp ↓] theorem ajs (s:List ei) (ae:a7) (l:ap) (K:g9) :run P G (.yh s) ae l K=jR P G s ae l (K .normal) :=id rfl
@[simp ↓] theorem ajp (s:List ei) (ae:a7) (l:ap) (K:g9) :run P G (.zd s) ae l K=kp P G s ae l [] (K .normal) :=id rfl
@[simp ↓] theorem aju (a b:hM) (ae:a7) (l:ap) (K:g9) :run P G (.seq a b) ae l K=run P G a ae l (oP (fun ae l=>run P G b ae l K) K) :=id rfl
@[simp ↓] theorem ajo (c:Operand) (x y:hM) (ae:a7) (l:ap) (K:g9) :run P G (.cond c x y) ae l K=Az (dv G ae c) (c:=⟨run P G x ae l K,run P G y ae l K⟩) :=id rfl
@[simp ↓] theorem ajn (i:Nat) (c:hM) (ae:a7) (l:ap) (K:g9) :run P G (.block i c) ae l K=run P G c ae l (tJ i K) :=id rfl
@[simp ↓] theorem ajr (c:hM) (ae:a7) (l:ap) (K:g9) :run P G (.loop c) ae l K=BA (run P G c) ae l (c:=⟨K⟩) :=id rfl
@[simp ↓] theorem ahg (k:a7->ap->Prop) (K:g9) (ae:a7) (l:ap) :oP k K .normal ae l=k ae l:=id rfl
@[simp ↓] theorem ahf (k:a7->ap->Prop) (K:g9) (i:Nat) (ae:a7) (l:ap) :oP k K (.exit i) ae l=K (.exit i) ae l:=id rfl
@[simp ↓] theorem ahh (k:a7->ap->Prop) (K:g9) (ae:a7) (l:ap) :oP k K .ret ae l=K .ret ae l:=id rfl
@[simp ↓] theorem agZ (i:Nat) (K:g9) (ae:a7) (l:ap) :tJ i K .normal ae l=K .normal ae l:=id rfl
@[simp ↓] theorem ag0 (i:Nat) (K:g9) (ae:a7) (l:ap) :tJ i K .ret ae l=K .ret ae l:=id rfl
def tK (p:Prop) [Decidable p] [c:yI] :Prop:=if p then c.p else c.q
@[simp ↓] theorem agY (i j:Nat) (K:g9) (ae:a7) (l:ap) :tJ i K (.exit j) ae l=tK (j=i) (c:=⟨K .normal ae l,K (.exit j) ae l⟩) :=by
 unfold tJ tK;by_cases h:j=i
 ·simp only[sd h,if_pos h]
 ·simp only[jN h,if_neg h]
@[simp ↓] theorem ag5 (i:Nat) (x y:Prop) :tK (i=i) (c:=⟨x,y⟩)=x:=by simp[tK]
@[simp] theorem ag6 (x y:Prop) :tK True (c:=⟨x,y⟩)=x:=by simp[tK]
@[simp] theorem ag4 (x y:Prop) :tK False (c:=⟨x,y⟩)=y:=by simp[tK]
@[simp ↓] theorem ag2 (ms:List dK) (K:U->ap->Prop) (ae:a7) (l:ap) :AA P G ms K .normal ae l=oO P G K ae l ms [] :=id rfl
@[simp ↓] theorem ag3 (ms:List dK) (K:U->ap->Prop) (ae:a7) (l:ap) :AA P G ms K .ret ae l=oO P G K ae l ms [] :=id rfl
@[simp ↓] theorem ahe (K:U->ap->Prop) (ae:a7) (l:ap) (acc:List U) :oO P G K ae l [] acc=K (wq acc) l:=id rfl
@[simp ↓] theorem ahd (K:U->ap->Prop) (ae:a7) (l:ap) (m:dK) (r:List dK) (acc:List U) :oO P G K ae l (m::r) acc=W (bO P (dv G ae) l m) (c:=⟨fun x=>oO P G K ae l r (acc++[x.1])⟩) :=id rfl
@[simp] theorem ajJ (v:U) :wq [v]=v:=id rfl
@[simp] theorem ajK (v w:U) (r:List U) :wq (v::w::r)=.bu (v::w::r) :=id rfl
@[simp ↓] theorem ajm (ae:a7) (l:ap) (K:a7->ap->Prop) :jR P G [] ae l K=K ae l:=id rfl
@[simp ↓] theorem ajl (i:Nat) (dst:Option Tmp) (m:dK) (c:List Nat) (k:Bool) (r:List ei) (ae:a7) (l:ap) (K:a7->ap->Prop) :
  jR P G (⟨i,dst,none,.hj m,c,k⟩::r) ae l K=W (bO P (dv G ae) l m) (c:=⟨fun x=>eg m x.1 x.2 fun v l'=>jR P G r (hn ae dst v) l' K⟩) :=id rfl
@[simp ↓] theorem ajh (i:Nat) (dst:Option Tmp) (f:FuncId) (args:List Operand) (c:List Nat) (k:Bool) (r:List ei) (ae:a7) (l:ap) (K:a7->ap->Prop) :
  jR P G (⟨i,dst,none,.ni f args,c,k⟩::r) ae l K=dg P G f (args.map (dv G ae)) l (c:=⟨fun v l'=>jR P G r (hn ae dst v) l' K⟩) :=id rfl
@[simp ↓] theorem ajj (i:Nat) (dst:Option Tmp) (x:Operand) (args:List Operand) (c:List Nat) (k:Bool) (r:List ei) (ae:a7) (l:ap) (K:a7->ap->Prop) :
  jR P G (⟨i,dst,none,.nj x args,c,k⟩::r) ae l K=wK P G (dv G ae x) (args.map (dv G ae)) l (c:=⟨fun v l'=>jR P G r (hn ae dst v) l' K⟩) :=id rfl
@[simp ↓] theorem aji (i:Nat) (dst:Option Tmp) (x:Operand) (name:String) (args:List Operand) (c:List Nat) (k:Bool) (r:List ei) (ae:a7) (l:ap) (K:a7->ap->Prop) :
  jR P G (⟨i,dst,none,.oc x name args,c,k⟩::r) ae l K=wJ P G name (dv G ae x) (args.map (dv G ae)) l (c:=⟨fun v l'=>jR P G r (hn ae dst v) l' K⟩) :=id rfl
@[simp ↓] theorem aeX (name:String) (t:TypeId) (v:U) (args:List U) (l:ap) (c:rh) :
  wJ P G name (.hi t v) args l (c:=c)=(match x2 P t name with | some g=>j2 P g=true/\dg P G g (v::args) l (c:=c) | none=>False) :=id rfl
@[simp ↓] theorem ajk (i:Nat) (dst:Option Tmp) (d:Tmp) (w:Bool) (b:uQ) (c:List Nat) (k:Bool) (r:List ei) (ae:a7) (l:ap) (K:a7->ap->Prop) :
  jR P G (⟨i,dst,some (some d,w),b,c,k⟩::r) ae l K=qO (ae d) w (c:=⟨jR P G (⟨i,dst,none,b,c,k⟩::r) ae l K,jR P G r (hn ae dst ie) l K⟩) :=id rfl
@[simp ↓] theorem ajg (ae:a7) (l:ap) (seen:iI) (K:a7->ap->Prop) :kp P G [] ae l seen K=K ae l:=id rfl
@[simp ↓] theorem ajf (i:Nat) (dst:Option Tmp) (m:dK) (c:List Nat) (k:Bool) (r:List ei) (ae:a7) (l:ap) (seen:iI) (K:a7->ap->Prop) :
  kp P G (⟨i,dst,none,.hj m,c,k⟩::r) ae l seen K=W (bO P (dv G ae) l m) (c:=⟨fun x=>eg m x.1 x.2 fun v l'=>qo c seen l'/\kp P G r (hn ae dst v) l' (q7 k i (mB P G (.hj m) ae v l l') seen) K⟩) :=id rfl
@[simp ↓] theorem ajc (i:Nat) (dst:Option Tmp) (f:FuncId) (args:List Operand) (c:List Nat) (k:Bool) (r:List ei) (ae:a7) (l:ap) (seen:iI) (K:a7->ap->Prop) :
  kp P G (⟨i,dst,none,.ni f args,c,k⟩::r) ae l seen K=dg P G f (args.map (dv G ae)) l (c:=⟨fun v l'=>qo c seen l'/\kp P G r (hn ae dst v) l' (q7 k i (fun _=>True) seen) K⟩) :=id rfl
@[simp ↓] theorem ajd (i:Nat) (dst:Option Tmp) (x:Operand) (args:List Operand) (c:List Nat) (k:Bool) (r:List ei) (ae:a7) (l:ap) (seen:iI) (K:a7->ap->Prop) :
  kp P G (⟨i,dst,none,.nj x args,c,k⟩::r) ae l seen K=wK P G (dv G ae x) (args.map (dv G ae)) l (c:=⟨fun v l'=>qo c seen l'/\kp P G r (hn ae dst v) l' (q7 k i (fun _=>True) seen) K⟩) :=id rfl
@[simp ↓] theorem aje (i:Nat) (dst:Option Tmp) (d:Tmp) (w:Bool) (b:uQ) (c:List Nat) (k:Bool) (r:List ei) (ae:a7) (l:ap) (seen:iI) (K:a7->ap->Prop) :
  kp P G (⟨i,dst,some (some d,w),b,c,k⟩::r) ae l seen K=qO (ae d) w (c:=⟨kp P G (⟨i,dst,none,b,c,k⟩::r) ae l seen K,kp P G r (hn ae dst ie) l seen K⟩) :=id rfl
@[simp] theorem afi (ids:List Nat) (l:ap) :qo ids [] l=True:=id rfl
@[simp] theorem afh (ids:List Nat) (e:Nat × (ap->Prop)) (r:iI) (l:ap) :qo ids (e::r) l=((ids.contains e.1=true->e.2 l)/\qo ids r l) :=id rfl
@[simp] theorem ajy (i:Nat) (p:ap->Prop) (s:iI) :q7 true i p s=(i,p) ::s:=id rfl
@[simp] theorem ajx (i:Nat) (p:ap->Prop) (s:iI) :q7 false i p s=s:=id rfl
@[simp] theorem ajE (m:dK) (ae:a7) (v:U) (l l' l1:ap) :mB P G (.hj m) ae v l l' l1=(match m.ki with | true=>l1[l.length]? = l'[l.length]? | false=>bO P (dv G ae) l1 m=some (v,l1)) :=id rfl
@[simp ↓] theorem ahR (x:Operand) (v:U) (l:ap) (K:U->ap->Prop) :eg (.k8 x) v l K=K v l:=id rfl
@[simp ↓] theorem ahU (c a b:Operand) (v:U) (l:ap) (K:U->ap->Prop) :eg (.pick c a b) v l K=K v l:=id rfl
@[simp ↓] theorem ahi (z:List U) (v:U) (l:ap) (K:U->ap->Prop) :eg (.alloc z) v l K=K v l:=id rfl
@[simp ↓] theorem ahn (x:Operand) (v:U) (l:ap) (K:U->ap->Prop) :eg (.box x) v l K=K v l:=id rfl
@[simp ↓] theorem ahm (z:List U) (ps:List (Nat × Nat × Operand)) (v:U) (l:ap) (K:U->ap->Prop) :eg (.BQ z ps) v l K=K v l:=id rfl
@[simp ↓] theorem aho (z:Nat) (zero:List U) (n:Nat) (ps:List (Nat × Operand)) (v:U) (l:ap) (K:U->ap->Prop) :eg (.sP z zero n ps) v l K=K v l:=id rfl
@[simp ↓] theorem ahF (a:Operand) (v:U) (l:ap) (K:U->ap->Prop) :eg (.v3 a) v l K=K v l:=id rfl
@[simp ↓] theorem ahG (n:Nat) (a:Operand) (v:U) (l:ap) (K:U->ap->Prop) :eg (.v4 n a) v l K=K v l:=id rfl
@[simp ↓] theorem ahX (n:Nat) (a x:Operand) (v:U) (l:ap) (K:U->ap->Prop) :eg (.st n a x) v l K=K v l:=id rfl
@[simp ↓] theorem ahS (x:Operand) (v:U) (l:ap) (K:U->ap->Prop) :eg (.DT x) v l K=K v l:=id rfl
@[simp ↓] theorem ahl (o:BinOp) (t:TypeId) (x y:Operand) (v:U) (l:ap) (K:U->ap->Prop) :eg (.bin o t x y) v l K=K v l:=id rfl
@[simp ↓] theorem ahZ (o:UnOp) (x:Operand) (v:U) (l:ap) (K:U->ap->Prop) :eg (.un o x) v l K=K v l:=id rfl
@[simp ↓] theorem ahr (k:IntKind) (x:Operand) (v:U) (l:ap) (K:U->ap->Prop) :eg (.yY k x) v l K=K v l:=id rfl
@[simp ↓] theorem ahw (x:Operand) (v:U) (l:ap) (K:U->ap->Prop) :eg (.y9 x) v l K=K v l:=id rfl
@[simp ↓] theorem ahq (x:Operand) (v:U) (l:ap) (K:U->ap->Prop) :eg (.u9 x) v l K=K v l:=id rfl
@[simp ↓] theorem ahv (x:Operand) (v:U) (l:ap) (K:U->ap->Prop) :eg (.y8 x) v l K=K v l:=id rfl
@[simp ↓] theorem ahN (t:TypeId) (x:Operand) (v:U) (l:ap) (K:U->ap->Prop) :eg (.AL t x) v l K=K v l:=id rfl
@[simp ↓] theorem ahY (t:TypeId) (z:U) (ok:Bool) (x:Operand) (v:U) (l:ap) (K:U->ap->Prop) :eg (.Bj t z ok x) v l K=K v l:=id rfl
@[simp ↓] theorem ahM (f:FuncId) (a b:List Operand) (v:U) (l:ap) (K:U->ap->Prop) :eg (.AK f a b) v l K=K v l:=id rfl
@[simp ↓] theorem ahP (z b:Nat) (zero:List U) (x y:Operand) (v:U) (l:ap) (K:U->ap->Prop) :eg (.tR z b zero x y) v l K=K v l:=id rfl
@[simp ↓] theorem ahW (ds:i7) (x:Operand) (cE aB cB:Option Operand) (v:U) (l:ap) (K:U->ap->Prop) :eg (.slice ds x cE aB cB) v l K=K v l:=id rfl
@[simp ↓] theorem ahy (n:Nat) (x:Operand) (v:U) (l:ap) (K:U->ap->Prop) :eg (.Cc n x) v l K=K v l:=id rfl
@[simp ↓] theorem ahz (n:Nat) (x:Operand) (v:U) (l:ap) (K:U->ap->Prop) :eg (.Cg n x) v l K=K v l:=id rfl
@[simp ↓] theorem ahA (n m:Nat) (x:Operand) (v:U) (l:ap) (K:U->ap->Prop) :eg (.Ch n m x) v l K=K v l:=id rfl
@[simp ↓] theorem ahB (ds:i7) (x y:Operand) (v:U) (l:ap) (K:U->ap->Prop) :eg (.At ds x y) v l K=K v l:=id rfl
@[simp ↓] theorem ahC (n z:Nat) (x y:Operand) (v:U) (l:ap) (K:U->ap->Prop) :eg (.Dx n z x y) v l K=K v l:=id rfl
@[simp ↓] theorem ahD (n z:Nat) (x y:Operand) (v:U) (l:ap) (K:U->ap->Prop) :eg (.Dy n z x y) v l K=K v l:=id rfl
@[simp ↓] theorem ahE (x y:Operand) (v:U) (l:ap) (K:U->ap->Prop) :eg (.DC x y) v l K=K v l:=id rfl
@[simp ↓] theorem ahx (x:Operand) (n:Nat) (v:U) (l:ap) (K:U->ap->Prop) :eg (.ext x n) v l K=K v l:=id rfl
@[simp ↓] theorem ahH (ds:i7) (x:Operand) (v:U) (l:ap) (K:U->ap->Prop) :eg (.len ds x) v l K=K v l:=id rfl
@[simp ↓] theorem ahp (ds:i7) (x:Operand) (v:U) (l:ap) (K:U->ap->Prop) :eg (.cap ds x) v l K=K v l:=id rfl
@[simp ↓] theorem ahk (z b:Nat) (zero:List U) (x y:Operand) (v:U) (l:ap) (K:U->ap->Prop) :eg (.wA z b zero x y) v l K=K v l:=id rfl
@[simp ↓] theorem ahu (z:Nat) (x y:Operand) (v:U) (l:ap) (K:U->ap->Prop) :eg (.wU z x y) v l K=K v l:=id rfl
@[simp ↓] theorem ahs (zero:List U) (x:Operand) (v:U) (l:ap) (K:U->ap->Prop) :eg (.wQ zero x) v l K=K v l:=id rfl
@[simp ↓] theorem ahL (x y:Operand) (v:U) (l:ap) (K:U->ap->Prop) :eg (.min x y) v l K=K v l:=id rfl
@[simp ↓] theorem ahK (x y:Operand) (v:U) (l:ap) (K:U->ap->Prop) :eg (.max x y) v l K=K v l:=id rfl
@[simp ↓] theorem ahj (z b:Nat) (x y:Operand) (v:U) (l:ap) (K:U->ap->Prop) :eg (.app z b x y) v l K=cM v l (c:=⟨K⟩) :=id rfl
theorem cM.cc {v:U} {l:ap} {K:U->ap->Prop} (h:K v l) :cM v l (c:=⟨K⟩) :=.inl h
@[simp] theorem agR (a:Operand) :(dK.v3 a).ki=false:=id rfl
@[simp] theorem agS (n:Nat) (a:Operand) :(dK.v4 n a).ki=false:=id rfl
@[simp] theorem agO (k:IntKind) (a:Operand) :(dK.yY k a).ki=false:=id rfl
@[simp] theorem agQ (a:Operand) :(dK.y9 a).ki=false:=id rfl
@[simp] theorem agN (a:Operand) :(dK.u9 a).ki=false:=id rfl
@[simp] theorem agP (a:Operand) :(dK.y8 a).ki=false:=id rfl
@[simp] theorem agK (z:List U) :(dK.alloc z).ki=true:=id rfl
@[simp] theorem agL (a:Operand) :(dK.box a).ki=true:=id rfl
@[simp] theorem agM (z:Nat) (zero:List U) (n:Nat) (ps:List (Nat × Operand)) :(dK.sP z zero n ps).ki=true:=id rfl
@[simp] theorem agT (z b:Nat) (zero:List U) (x y:Operand) :(dK.tR z b zero x y).ki=true:=id rfl
@[simp] theorem ai3 (l l' : ap) (x:Option U) (v:U) :(dr l x=some (v,l'))=(x=some v/\l'=l) :=propext ga
@[simp ↓] theorem aek {α:Type} (x:α) (k:α->Prop) :W (some x) (c:=⟨k⟩)=k x:=id rfl
@[simp ↓] theorem aej (l:ap) (o:Option U) (k:U × ap->Prop) :W (dr l o) (c:=⟨k⟩)=W o (c:=⟨fun v=>k (v,l)⟩) :=by unfold W dr; cases o<;>rfl
@[simp ↓] theorem aei {α i6:Type} (o:Option α) (f:α->i6) (k:i6->Prop) :W (o.map f) (c:=⟨k⟩)=W o (c:=⟨fun v=>k (f v)⟩) :=by unfold W; cases o<;>rfl
@[simp ↓] theorem aeh {α:Type} (p:Prop) [Decidable p] (x:α) (k:α->Prop) :W (if p then some x else none) (c:=⟨k⟩)=(p/\k x) :=by unfold W; by_cases h:p<;>simp[h]
@[simp ↓] theorem ag1 (b:Bool) (p q:Prop) :Az (.bool b) (c:=⟨p,q⟩)=qQ b (c:=⟨p,q⟩) :=id rfl
@[simp ↓] theorem ahc (p q:Prop) :qQ true (c:=⟨p,q⟩)=p:=id rfl
@[simp ↓] theorem ahb (p q:Prop) :qQ false (c:=⟨p,q⟩)=q:=id rfl
@[simp ↓] theorem ag8 (b:Bool) (p q:Prop) :qO (.bool b) true (c:=⟨p,q⟩)=qQ b (c:=⟨p,q⟩) :=by cases b<;>rfl
@[simp ↓] theorem ag7 (b:Bool) (p q:Prop) :qO (.bool b) false (c:=⟨p,q⟩)=qQ b (c:=⟨q,p⟩) :=by cases b<;>rfl
@[simp ↓] theorem ag9 (w:Bool) (p q:Prop) :qO ie w (c:=⟨p,q⟩)=q:=id rfl
@[simp ↓] theorem aha (w:Bool) (p q:Prop) :qO (.bu []) w (c:=⟨p,q⟩)=q:=id rfl
theorem nD {b:Bool} {p q:Prop} (ad:b=true->p) (af:b=false->q) :qQ b (c:=⟨p,q⟩) :=by cases b; exact af rfl; exact ad rfl
@[simp ↓] theorem ai5 (ae:a7) (d:Tmp) (v:U) :hn ae (some d) v=bH ae d v:=id rfl
@[simp ↓] theorem ai4 (ae:a7) (v:U) :hn ae none v=ae:=id rfl
@[simp] theorem afU {α:Type} (s:Nat->α) (d:Nat) (v:α) (t:Nat) :bH s d v t=if t=d then v else s t:=id rfl
@[simp] theorem ael (args:List U) (t:Nat) :BL args t=args.getD t ie:=id rfl
@[simp] theorem afK (ae:a7) (t:Tmp) :dv G ae (.tmp t)=ae t:=id rfl
@[simp] theorem afB (ae:a7) (f:FuncId) :dv G ae (.func f)=.fn f [] [] :=id rfl
@[simp] theorem afC (ae:a7) (g:Nat) :dv G ae (.global g)=G g:=id rfl
@[simp] theorem afD (ae:a7) (k:IntKind) (n:Int) :dv G ae (.const (.int k n))=.int k n:=id rfl
@[simp] theorem afA (ae:a7) (b:Bool) :dv G ae (.const (.bool b))=.bool b:=id rfl
@[simp] theorem afJ (ae:a7) (s:ByteArray) :dv G ae (.const (.string s))=.str s.data.toList:=id rfl
@[simp] theorem afI (ae:a7) :dv G ae (.const (.slice none 0 0))=.aK:=id rfl
@[simp] theorem afH (ae:a7) :dv G ae (.const (.pointer none))=.jm:=id rfl
@[simp] theorem afG (ae:a7) :dv G ae (.const (.map none))=.ia:=id rfl
@[simp] theorem afE (ae:a7) :dv G ae (.const .nilFunc)=.jk:=id rfl
@[simp] theorem afF (ae:a7) :dv G ae (.const .nilIface)=.jl:=id rfl
@[simp] theorem afL (ae:a7) :dv G ae (.const (.tuple #[]))=.bu [] :=id rfl
variable (aE:Operand->U) (l:ap)
@[simp ↓] theorem aiI (x:Operand) :bO P aE l (.k8 x)=some (aE x,l) :=id rfl
@[simp ↓] theorem aiL (c a b:Operand) :bO P aE l (.pick c a b)=dr l (D9 (aE c) (aE a) (aE b)) :=id rfl
@[simp ↓] theorem ah9 (z:List U) :bO P aE l (.alloc z)=some (.ptr l.length 0 z.length,l++[.cells z.length z]) :=id rfl
@[simp ↓] theorem aie (x:Operand) :bO P aE l (.box x)=(aE x).cells.map fun cs=>(.ptr l.length 0 cs.length,l++[.cells cs.length cs]) :=id rfl
@[simp ↓] theorem aid (zero:List U) (ps:List (Nat × Nat × Operand)) :bO P aE l (.BQ zero ps)=dr l ((pc zero (ps.map fun p=>(p.1,p.2.1,aE p.2.2))).map .aH) :=id rfl
@[simp ↓] theorem aif (z:Nat) (zero:List U) (len:Nat) (ps:List (Nat × Operand)) :bO P aE l (.sP z zero len ps)=(ht (fun i=>some (i*z,z)) (dz zero len) (ps.map fun p=>(p.1,aE p.2))).map fun cs=>(.ar z l.length 0 len len (len*z),l++[.cells (len*z) cs]) :=id rfl
@[simp ↓] theorem aiw (a:Operand) :bO P aE l (.v3 a)=dr l ((gW l (aE a)).bind fun x=>x.1[x.2]?) :=id rfl
@[simp ↓] theorem aix (n:Nat) (a:Operand) :bO P aE l (.v4 n a)=dr l ((gW l (aE a)).bind fun x=>sj n x.1 x.2) :=id rfl
@[simp ↓] theorem aiO (n:Nat) (a x:Operand) :bO P aE l (.st n a x)=(ld n l (aE a) (aE x)).map fun l'=>(ie,l') :=id rfl
@[simp ↓] theorem aiJ (x:Operand) :bO P aE l (.DT x)=dr l (x5 (aE x)) :=id rfl
@[simp ↓] theorem aic (o:BinOp) (t:TypeId) (x y:Operand) :bO P aE l (.bin o t x y)=dr l (fT P o t (aE x) (aE y)) :=id rfl
@[simp ↓] theorem aiQ (o:UnOp) (x:Operand) :bO P aE l (.un o x)=dr l (p4 o (aE x)) :=id rfl
@[simp ↓] theorem aii (k:IntKind) (x:Operand) :bO P aE l (.yY k x)=dr l (yZ k (aE x)) :=id rfl
@[simp ↓] theorem ain (x:Operand) :bO P aE l (.y9 x)=dr l (FC (aE x)) :=id rfl
@[simp ↓] theorem aih (x:Operand) :bO P aE l (.u9 x)=dr l (va l (aE x)) :=id rfl
@[simp ↓] theorem aim (x:Operand) :bO P aE l (.y8 x)=dr l (vf (aE x)) :=id rfl
@[simp ↓] theorem aiE (t:TypeId) (x:Operand) :bO P aE l (.AL t x)=some (.hi t (aE x),l) :=id rfl
@[simp ↓] theorem aiP (t:TypeId) (z:U) (ok:Bool) (x:Operand) :bO P aE l (.Bj t z ok x)=dr l (Bk t z ok (aE x)) :=id rfl
@[simp ↓] theorem aiD (f:FuncId) (a b:List Operand) :bO P aE l (.AK f a b)=some (.fn f (a.map aE) (b.map aE),l) :=id rfl
@[simp ↓] theorem aiG (z by_:Nat) (zero:List U) (a c:Operand) :bO P aE l (.tR z by_ zero a c)=sb z by_ zero l (aE a) (aE c) :=id rfl
@[simp ↓] theorem aiN (ds:i7) (x:Operand) (cE aB cB:Option Operand) :bO P aE l (.slice ds x cE aB cB)=dr l (e3 ds (aE x) (cE.map aE) (aB.map aE) (cB.map aE)) :=id rfl
@[simp ↓] theorem aip (off:Nat) (x:Operand) :bO P aE l (.Cc off x)=dr l (mO (aE x) off) :=id rfl
@[simp ↓] theorem aiq (off:Nat) (x:Operand) :bO P aE l (.Cg off x)=dr l (Ci off (aE x)) :=id rfl
@[simp ↓] theorem air (n off:Nat) (x:Operand) :bO P aE l (.Ch n off x)=dr l (zk n off (aE x)) :=id rfl
@[simp ↓] theorem ais (ds:i7) (x i:Operand) :bO P aE l (.At ds x i)=dr l (cN ds (aE x) (aE i)) :=id rfl
@[simp ↓] theorem ait (n z:Nat) (x i:Operand) :bO P aE l (.Dx n z x i)=dr l (Dz n z (aE x) (aE i)) :=id rfl
@[simp ↓] theorem aiu (n z:Nat) (x i:Operand) :bO P aE l (.Dy n z x i)=dr l (DA n z (aE x) (aE i)) :=id rfl
@[simp ↓] theorem aiv (x i:Operand) :bO P aE l (.DC x i)=dr l (xX (aE x) (aE i)) :=id rfl
@[simp ↓] theorem aio (x:Operand) (i:Nat) :bO P aE l (.ext x i)=dr l (Cb (aE x) i) :=id rfl
@[simp ↓] theorem aiy (ds:i7) (x:Operand) :bO P aE l (.len ds x)=dr l (ch ds (aE x)) :=id rfl
@[simp ↓] theorem aig (ds:i7) (x:Operand) :bO P aE l (.cap ds x)=dr l (sS ds (aE x)) :=id rfl
@[simp ↓] theorem aia (z by_:Nat) (s x:Operand) :bO P aE l (.app z by_ s x)=fS l z by_ (aE s) (aE x) :=id rfl
@[simp ↓] theorem aib (z by_:Nat) (zero:List U) (s x:Operand) :bO P aE l (.wA z by_ zero s x)=qj l z by_ zero (aE s) (aE x) :=id rfl
@[simp ↓] theorem ail (z:Nat) (d x:Operand) :bO P aE l (.wU z d x)=y7 z l (aE d) (aE x) :=id rfl
@[simp ↓] theorem aij (zero:List U) (x:Operand) :bO P aE l (.wQ zero x)=(vb zero l (aE x)).map fun l'=>(.bu [],l') :=id rfl
@[simp ↓] theorem aiC (x y:Operand) :bO P aE l (.min x y)=dr l (wa (aE x) (aE y)) :=id rfl
@[simp ↓] theorem aiB (x y:Operand) :bO P aE l (.max x y)=dr l (tP (aE x) (aE y)) :=id rfl
@[simp] theorem ai1 (t:Bool) (a b:U) :D9 (.bool t) a b=some (if t=true then a else b) :=id rfl
@[simp] theorem ae3 (cs:List U) :(U.aH cs).cells=some cs:=id rfl
@[simp] theorem ae7 (k:IntKind) (n:Int) :(U.int k n).cells=some [.int k n] :=id rfl
@[simp] theorem ae4 (b:Bool) :(U.bool b).cells=some [.bool b] :=id rfl
@[simp] theorem afg (s:List UInt8) :(U.str s).cells=some [.str s] :=id rfl
@[simp] theorem afc:U.aK.cells=some [.aK] :=id rfl
@[simp] theorem afb:U.jm.cells=some [.jm] :=id rfl
@[simp] theorem ae9:U.jk.cells=some [.jk] :=id rfl
@[simp] theorem afa:U.ia.cells=some [.ia] :=id rfl
@[simp] theorem afe (z:Nat) (es:List (List U)) :(U.b1 z es).cells=some [.b1 z es] :=id rfl
@[simp] theorem aff (z b o n c s:Nat) :(U.ar z b o n c s).cells=some [.ar z b o n c s] :=id rfl
@[simp] theorem afd (b o s:Nat) :(U.ptr b o s).cells=some [.ptr b o s] :=id rfl
@[simp] theorem ae6 (f:FuncId) (a b:List U) :(U.fn f a b).cells=some [.fn f a b] :=id rfl
@[simp] theorem ae8 (b:Nat) :(U.mp b).cells=some [.mp b] :=id rfl
@[simp] theorem ae1 (b off sz k:Nat) :mO (.ptr b off sz) k=some (.ptr b (off+k) sz) :=id rfl
@[simp] theorem ae2 (cs:List U) (off k:Nat) :mO (.cg cs off) k=some (.cg cs (off+k)) :=id rfl
@[simp] theorem aiV (b o s:Nat) :x5 (.ptr b o s)=some (.ptr b o s) :=id rfl
@[simp] theorem aiW (cs:List U) (o:Nat) :x5 (.cg cs o)=some (.cg cs o) :=id rfl
@[simp] theorem aiU (f:FuncId) (a b:List U) :x5 (.fn f a b)=some (.fn f a b) :=id rfl
def IU (x:Option aU) (off sz:Nat) :Option (List U × Nat) :=match x with
 | some (.cells n cs)=>if n=sz then some (cs,off) else none
 | _=>none
@[simp] theorem ai7 (b off sz:Nat) :gW l (.ptr b off sz)=IU l[b]? off sz:=by
 unfold gW IU; rfl
@[simp] theorem ai6 (n:Nat) (cs:List U) (off sz:Nat) :IU (some (.cells n cs)) off sz=if n=sz then some (cs,off) else none:=id rfl
@[simp] theorem ai8 (cs:List U) (off:Nat) :gW l (.cg cs off)=some (cs,off) :=id rfl
def Jp (n:Nat) (l:ap) (b off sz:Nat) (vs:List U) (x:Option aU) :Option ap:=match x with
 | some (.cells m cs)=>if m=sz/\vs.length=n/\off+n<=m then some (l.set b (.cells m (bi cs off vs))) else none
 | _=>none
@[simp] theorem ajG (n b off sz:Nat) (v:U) :ld n l (.ptr b off sz) v=v.cells.bind fun vs=>Jp n l b off sz vs l[b]?:=by
 unfold ld Jp;cases v.cells<;>rfl
@[simp] theorem ajF (n b off sz:Nat) (vs:List U) (m:Nat) (cs:List U) :Jp n l b off sz vs (some (.cells m cs))=if m=sz/\vs.length=n/\off+n<=m then some (l.set b (.cells m (bi cs off vs))) else none:=id rfl
@[simp] theorem ai0 (n:Nat) (cs:List U) (off:Nat) :sj n cs off=if off+n<=cs.length then some (.aH ((cs.drop off).take n)) else none:=id rfl
@[simp] theorem ajD (a:U) (cs vs:List U) (off:Nat) :bi (a::cs) (off+1) vs=a::bi cs off vs:=by
 simp only[bi,List.take_succ_cons,ak6,show off+1+vs.length=(off+vs.length)+1 by omega,List.drop_succ_cons]
@[simp] theorem acy (a v:U) (cs vs:List U) :bi (a::cs) 0 (v::vs)=v::bi cs 0 vs:=by simp[bi]
@[simp] theorem acA (cs:List U) :bi cs 0 []=cs:=by simp[bi]
@[simp] theorem ajC (vs:List U) :bi [] 0 vs=vs:=by simp[bi]
@[simp] theorem aeC (zero:List U) :pc zero []=some zero:=id rfl
theorem SP (zero:List U) (off size:Nat) (v:U) (r:List (Nat × Nat × U)) :pc zero ((off,size,v) ::r)=v.cells.bind fun vs=>if vs.length=size/\off+size<=zero.length then pc (bi zero off vs) r else none:=by
 rw[pc]; cases v.cells<;>rfl
attribute [simp] SP
@[simp] theorem afO (ko:Nat->Option (Nat × Nat)) (zero:List U) :ht ko zero []=some zero:=id rfl
@[simp] theorem afN (ko:Nat->Option (Nat × Nat)) (zero:List U) (i:Nat) (v:U) (r:List (Nat × U)) :ht ko zero ((i,v) ::r)=(ko i).bind fun q=>v.cells.bind fun vs=>if vs.length=q.2/\q.1+q.2<=zero.length then ht ko (bi zero q.1 vs) r else none:=by
 rw[ht];cases ko i with
 | none=>rfl
 | some q=>cases v.cells<;>rfl
@[simp] theorem aja (zero:List U) :dz zero 0=[] :=id rfl
@[simp] theorem ajb (zero:List U) (n:Nat) :dz zero (n+1)=zero++dz zero n:=id rfl
@[simp] theorem aev (o:BinOp) (t:TypeId) (k:IntKind) (a:Int) (k' : IntKind) (b:Int) :fT P o t (.int k a) (.int k' b)=cj o k a k' b:=id rfl
@[simp] theorem aeA (o:BinOp) (t:TypeId) (a b:List UInt8) :fT P o t (.str a) (.str b)=sM o a b:=id rfl
@[simp] theorem aex (k:IntKind) (a b:Int) :cj .lss k a k b=some (.bool (decide (a<b))) :=by simp[cj]
@[simp] theorem aew (k:IntKind) (a b:Int) :cj .leq k a k b=some (.bool (decide (a<=b))) :=by simp[cj]
@[simp] theorem aeu (k:IntKind) (a b:Int) :cj .gtr k a k b=some (.bool (decide (b<a))) :=by simp[cj]
@[simp] theorem aet (k:IntKind) (a b:Int) :cj .geq k a k b=some (.bool (decide (b<=a))) :=by simp[cj]
@[simp] theorem aes (k:IntKind) (a b:Int) :cj .eql k a k b=some (.bool (decide (a=b))) :=by
 have:(a == b)=decide (a=b) :=by by_cases h:a=b<;>simp[h]
 simp[cj,this]
@[simp] theorem aez (k:IntKind) (a b:Int) :cj .neq k a k b=some (.bool (!decide (a=b))) :=by
 have:(a != b)=!decide (a=b) :=by by_cases h:a=b<;>simp[h]
 simp[cj,this]
@[simp] theorem aer (k:IntKind) (a b:Int) :cj .add k a k b=some (.int k (k.wrap (a+b))) :=by simp[cj]
@[simp] theorem aeB (k:IntKind) (a b:Int) :cj .sub k a k b=some (.int k (k.wrap (a - b))) :=by simp[cj]
@[simp] theorem aey (k:IntKind) (a b:Int) :cj .mul k a k b=some (.int k (k.wrap (a*b))) :=by simp[cj]
@[simp] theorem ajT (b:Bool) :p4 .not (.bool b)=some (.bool (!b)) :=id rfl
@[simp] theorem ajS (k:IntKind) (n:Int) :p4 .neg (.int k n)=some (.int k (k.wrap (0 - n))) :=id rfl
@[simp] theorem afj (k k' : IntKind) (n:Int) :yZ k (.int k' n)=some (.int k (k.wrap n)) :=id rfl
@[simp] theorem agH (z dG:Nat) (es:List (List U)) (k:IntKind) (i:Int) :cN (.ar z) (.b1 dG es) (.int k i)=if z=dG/\0<=i then (es[i.toNat]?).map fun cs=>.cg cs 0 else none:=id rfl
@[simp] theorem agI (z dG b off len cap sz:Nat) (k:IntKind) (i:Int) :cN (.ar z) (.ar dG b off len cap sz) (.int k i)=if z=dG/\0<=i/\i<len then some (.ptr b (off+i.toNat*z) sz) else none:=id rfl
@[simp] theorem agG (n z:Nat) (x:U) (k:IntKind) (i:Int) :cN (.arr n z) x (.int k i)=if 0<=i/\i<n then mO x (i.toNat*z) else none:=id rfl
@[simp] theorem ah4 (z:Nat) :ch (.ar z) .aK=some (.int .i64 0) :=id rfl
@[simp] theorem ah6 (z dG b o n c s:Nat) :ch (.ar z) (.ar dG b o n c s)=some (.int .i64 n) :=id rfl
@[simp] theorem ah5 (z dG:Nat) (es:List (List U)) :ch (.ar z) (.b1 dG es)=some (.int .i64 es.length) :=id rfl
@[simp] theorem ah7 (s:List UInt8) :ch .str (.str s)=some (.int .i64 s.length) :=id rfl
@[simp] theorem ah3 (n z:Nat) (x:U) :ch (.arr n z) x=some (.int .i64 n) :=id rfl
@[simp] theorem afM (vs:List U) (i:Nat) :Cb (.bu vs) i=vs[i]?:=id rfl
@[simp] theorem afP (cs:List U) (off:Nat) :Ci off (.aH cs)=cs[off]?:=id rfl
@[simp] theorem afQ (n off:Nat) (cs:List U) :zk n off (.aH cs)=sj n cs off:=id rfl
end

section
variable {P:Program} {G:Nat->U}
inductive ii (l:ap) :U->U->Prop
 | same (c:U) (h:c.closed=true) :ii l c c
 | aH (cs cs' : List U) (am:cs'.length=cs.length) (h:∀ (j:Nat) (c c' : U),cs[j]? = some c->cs'[j]? = some c'->ii l c c') :ii l (.aH cs) (.aH cs')
 | bu (cs cs' : List U) (am:cs'.length=cs.length) (h:∀ (j:Nat) (c c' : U),cs[j]? = some c->cs'[j]? = some c'->ii l c c') :ii l (.bu cs) (.bu cs')
 | ar (z b off len cap sz:Nat) (cs:List U) (es:List (List U)) (ag:l[b]? = some (.cells sz cs)) (am:es.length=len) (aw:∀ e∈es,e.length=z)
   (dj:off+len*z<=cs.length)
   (h:∀ (i j:Nat) (e:List U) (c c' : U),es[i]? = some e->e[j]? = some c'->cs[off+(i*z+j)]? = some c->ii l c c') :ii l (.ar z b off len cap sz) (.b1 z es)
 | so (z b off cap sz:Nat) :ii l (.ar z b off 0 cap sz) (.b1 z [])
theorem abn {w:World} {R:Nat->Prop} {B:Nat} {l:ap} {μ:cI} (rel:bZ R B w (bM l) μ) :∀ {c c' : U},ii l c c'->∀ {v:Value},aP w R (bM l) μ c v->fA w R c' v:=by
 intro c c' ay
 induction ay with
 | same c h=>
  intro v aq;exact (fA.up (wP aq h) fun k _ ax=>⟨ax.1,fun ⟨b,m,ad,af,al⟩=>by cases af⟩:aP w R aW.empty (fun _=>none) _ v)
 | aH cs cs' am h aQ=>
  intro v aq;cases aq with
  | aH _ vs hg ad aq=>
   refine .aH cs' vs (by omega) ad (fun j c' v aj fk=>?_);have aO:j<cs.length:=by rw[<-am]; exact (aj7.1 aj).1
   exact aQ j cs[j] c' (aka aO) aj (aq j cs[j] v (aka aO) fk)
 | bu cs cs' am h aQ=>
  intro v aq;cases aq with
  | bu _ vs hg aq=>
   refine .bu cs' vs (by omega) (fun j c' v aj fk=>?_);have aO:j<cs.length:=by rw[<-am]; exact (aj7.1 aj).1
   exact aQ j cs[j] c' (aka aO) aj (aq j cs[j] v (aka aO) fk)
 | so z b off cap sz=>
  intro v aq;cases aq with
  | ar _ _ _ _ _ _ cap' cs m ag hm am au ah=>exact .fw z _ cap'
  | hZ _ _ _ _ _ _ cap' a am ah aA=>exact .fw z _ cap'
  | iT _ _ _ _ a cs m ag hm=>exact .fw z a 0
 | ar z b off len cap sz cs es ag am aw dj h aQ=>
  intro v aq;have pq:(bM l).f b=.cells sz cs:=mH.2 ag;cases aq with
  | iT _ _ _ _ a h4 m ft g3=>
   obtain rfl:=akH.1 am;exact .fw z a 0
  | hZ _ _ _ _ _ _ cap' a am ah aA=>
   exfalso;rcases aA with aA | ⟨n,h4,aA,aO⟩
   ·rw[pq] at aA; cases aA
   ·rw[pq] at aA; cases aA; omega
  | ar _ _ _ _ _ _ cap' h4 m ft hm jy au ah=>
   rw[pq] at ft; cases ft;have hP:=rel.blk b m hm;rw[pq] at hP;obtain⟨cR,gH,arr,t,gu,aV,aC,aI,lw⟩:=hP;have c3:len<=cap':=by rcases ah with ⟨_,h⟩ | ⟨_,h,_⟩<;>omega
   have rA:R m.r:=rel.up _ (rel.base b m (by rw[pq]; rfl) hm);subst am;have pu:∀ i j,i<es.length->j<z->∃ c v,cs[off+(i*z+j)]? = some c/\arr[m.s+(off+(i*z+j))]? = some v/\v.oneCell'=true/\aP w R (bM l) μ c v:=by
    intro i j aB aj;have aO:off+(i*z+j)<cs.length:=by
     have:i*z+z<=es.length*z:=by rw[<-akK]; exact akc _ aB
     omega
    obtain⟨v,ad,af,al⟩:=lw _ _ (aka aO);exact⟨_,v,aka aO,ad,af,al⟩
   refine .b1 z es m.r (m.s+off) cap' (fun i j=>(arr[m.s+(off+(i*z+j))]?).getD undef) c3 aw (fun i j aB aj=>?_) (fun i e ao j c' aj=>?_)
   ·obtain⟨c,v,ad,af,al,aG⟩:=pu i j aB aj;refine⟨?_,?_,rA,fun ⟨b,m,ad,af,al⟩=>by cases af⟩
    ·simp only[World.cell?,aV,af,akO,amv];rw[show m.s+off+(i*z+j)=m.s+(off+(i*z+j)) by omega,af]; rfl
    ·rw[af]; exact al
   ·have aB:i<es.length:=(aj7.1 ao).1;have oD:j<z:=by rw[<-aw e (ake ao)]; exact (aj7.1 aj).1
    obtain⟨c,v,ad,af,al,aG⟩:=pu i j aB oD;simp only[af,akO];exact aQ i j e c c' ao aj ad aG
theorem bD (k4:P.follows .mixedOrders=true) (ky:∀ g,(G g).closed=true) {f:FuncId} {args:List U} {r:U} (h:dg P G f args [] (c:=⟨fun oV l=>ii l oV r⟩)) :bn P G f args r:=by
 obtain⟨oV,l',ad,af,al⟩:=h;intro w A vs aA am aq;refine (JA (A:=A) k4 ky ad aA am aq).mono ?_;rintro e w' ⟨v,μ',rfl,ag,rel,ay⟩;exact⟨v,rfl,ag,abn rel al ay⟩
theorem aY {f:FuncId} {args:List U} {r:U} {l:ap} {K:U->ap->Prop} (av:bn P G f args r) (ah:a1 args=true) (h:K r l) :dg P G f args l (c:=⟨K⟩) :=
 ⟨r,l,.pure av ah,akb _,h⟩
theorem YZ (k4:P.follows .mixedOrders=true) (ky:∀ g,(G g).closed=true) {f:FuncId} {args:List U} (h:dg P G f args [] (c:=⟨fun r _=>r=.bool true⟩))
  {w:World} {A:Nat->Prop} {vs:Array Value} (aA:∀ g,fA w A (G g) (.pointer (some ⟨g,0,none⟩))) (am:vs.size=args.length)
  (aq:∀ (j:Nat) (c:U) (v:Value),args[j]? = some c->vs[j]? = some v->fA w A c v) :
  Calls P f vs w fun e w'=>e=.returned (.bool true)/\RowKit.Below w.heap.size w w':=by
 obtain⟨oV,l',ad,af,rfl⟩:=h;exact ac0 k4 ky ad aA am aq
end

section
variable {P:Program}
inductive dt (P:Program) :List TypeId->List U->Prop
 | nil:dt P [] []
 | bool {t:TypeId} {b:Bool} {ts:List TypeId} {cs:List U} (aM:P.underlying t=some .bool) (h:dt P ts cs) :dt P (t::ts) (.bool b::cs)
 | int {t:TypeId} {k:IntKind} {n:Int} {ts:List TypeId} {cs:List U} (aM:P.underlying t=some (.int k)) (ad:k.min<=n) (af:n<=k.max) (h:dt P ts cs) :dt P (t::ts) (.int k n::cs)
 | str {t:TypeId} {s:List UInt8} {ts:List TypeId} {cs:List U} (aM:P.underlying t=some .string) (ak:s.length<=maxLen) (h:dt P ts cs) :dt P (t::ts) (.str s::cs)
 | aK {t e:TypeId} {ts:List TypeId} {cs:List U} (aM:P.underlying t=some (.slice e)) (h:dt P ts cs) :dt P (t::ts) (.aK::cs)
 | ar {t e:TypeId} {es:List (List U)} {ts:List TypeId} {cs:List U} (aM:P.underlying t=some (.slice e)) (am:es.length<=maxLen) (aw:∀ r∈es,r.length=P.cellsOf e) (ao:∀ r∈es,dt P [e] r) (h:dt P ts cs) :dt P (t::ts) (.b1 (P.cellsOf e) es::cs)
 | struct {t:TypeId} {fs:Array Field} {ts:List TypeId} {cs:List U} (aM:P.underlying t=some (.struct fs)) (h:dt P (fs.toList.map (·.type)++ts) cs) :dt P (t::ts) cs
 | array {t e:TypeId} {n:Nat} {ts:List TypeId} {cs:List U} (aM:P.underlying t=some (.array n e)) (h:dt P (List.replicate n e++ts) cs) :dt P (t::ts) cs
def sZ (P:Program) :List Field->Nat->Option Nat
 | [],o=>some o
 | f::r,o=>if f.offset=o then sZ P r (o+P.cellsOf f.type) else none
def sk (P:Program) :Nat->TypeId->Bool
 | 0,_=>false
 | d+1,t=>match P.underlying t with
  | some .bool | some (.int _) | some .string=>true
  | some (.slice e)=>decide (0<P.cellsOf e)&&sk P d e
  | some (.struct fs)=>decide (sZ P fs.toList 0=some (P.cellsOf t))&&fs.toList.all fun f=>sk P d f.type
  | some (.array n e)=>decide (n*P.cellsOf e=P.cellsOf t)&&sk P d e
  | _=>false
structure n9 (P:Program) (w:World) (A:Nat->Prop) (ts:List TypeId) (vs:List Value) (cs:List U) :Prop where
 len:cs.length=vs.length
 ty:∀ o2 cs',dt P o2 cs'->dt P (ts++o2) (cs++cs')
 nV:∀ (j:Nat) (c:U) (v:Value),cs[j]? = some c->vs[j]? = some v->fA w A c v/\v.oneCell'=true
theorem n9.nil {w:World} {A:Nat->Prop}:n9 P w A [] [] [] :=⟨rfl,fun _ _ h=>h,fun j c v h=>by simp at h⟩
theorem n9.app {w:World} {A:Nat->Prop} {ts o2:List TypeId} {vs EG:List Value} {cs cs' : List U} (a:n9 P w A ts vs cs) (b:n9 P w A o2 EG cs') :n9 P w A (ts++o2) (vs++EG) (cs++cs') :=by
 refine⟨by simp[a.len,b.len],fun ajI afx h=>by rw[akU,akU]; exact a.ty _ _ (b.ty _ _ h),fun j c v ah aq=>?_⟩;by_cases h:j<cs.length
 ·rw[aj8 h] at ah;rw[aj8 (by rw[<-a.len]; exact h)] at aq;exact a.nV j c v ah aq
 ·rw[akt (by omega)] at ah;rw[akt (by rw[<-a.len]; omega)] at aq;rw[<-a.len] at aq;exact b.nV _ c v ah aq
theorem DN {α i6:Type} {f:α->Option i6}:∀ {l:List α} {r:List i6},l.mapM f=some r->∀ (p:Nat) (a:α),l[p]? = some a->∃ x,r[p]? = some x/\f a=some x
 | [],r,h,p,a,aC=>by simp at aC
 | a0::l,r,h,p,a,aC=>by
  rw[alI] at h;simp only[Option.bind_eq_bind,bind_some,alV,Option.some.injEq] at h;obtain⟨b,ad,dT,af,rfl⟩:=h;cases p with
  | zero=>simp only[akA,Option.some.injEq] at aC; subst aC; exact⟨b,rfl,ad⟩
  | succ p=>obtain⟨x,al,aG⟩:=DN af p a (by simpa using aC); exact⟨x,by simpa using al,aG⟩
theorem AV {w:World} {A:Nat->Prop} {c:U} {v:Value} (h:fA w A c v) (ad:v.oneCell'=true) :∀ (j:Nat) (c' : U) (a4:Value),[c][j]? = some c'->[v][j]? = some a4->fA w A c' a4/\a4.oneCell'=true:=by
 intro j c' a4 ah aq;cases j with
 | zero=>simp only[akA,Option.some.injEq] at ah aq; subst ah aq; exact⟨h,ad⟩
 | succ j=>simp at ah
theorem ac2 {H:Type} {enc:TypeId × Value->H} {w:World} {base:Nat} {spare:Nat->Bool} {held:Bool} {fuel:Nat} {t:TypeId} {vs:List Value} {x:DataW H × List MemPlace}
  (aM:P.underlying t=some .bool) (h:DataW.trod enc P w base spare held (fuel+1) t vs=some x) :∃ b,vs=[.bool b] :=by
 unfold DataW.trod at h;rw[aM] at h;split at h
 case h_1 b _=>exact⟨b,rfl⟩
 all_goals first | (cases h; done) | (rename_i heq; cases heq; done) | (rename_i heq _; cases heq; done) | (rename_i heq _ _; cases heq; done) | (rename_i heq _ _ _; cases heq; done) | (simp_all; done)
theorem trod_int {H:Type} {enc:TypeId × Value->H} {w:World} {base:Nat} {spare:Nat->Bool} {held:Bool} {fuel:Nat} {t:TypeId} {k:IntKind} {vs:List Value} {x:DataW H × List MemPlace}
  (aM:P.underlying t=some (.int k)) (h:DataW.trod enc P w base spare held (fuel+1) t vs=some x) :∃ n,vs=[.int k n]/\k.min<=n/\n<=k.max:=by
 unfold DataW.trod at h;rw[aM] at h;split at h<;>simp only[reduceCtorEq,Option.some.injEq,TypeDesc.int.injEq] at *<;>try (exfalso; simp_all; done)
 rename_i iR k' n heq;subst heq;split at h
 ·rename_i ah;obtain⟨rfl,aV⟩:=ah;simp only[Lit.wf,akh,decide_eq_true_eq] at aV;exact⟨n,rfl,aV.1,aV.2⟩
 ·cases h
theorem ac4 {H:Type} {enc:TypeId × Value->H} {w:World} {base:Nat} {spare:Nat->Bool} {held:Bool} {fuel:Nat} {t:TypeId} {vs:List Value} {x:DataW H × List MemPlace}
  (aM:P.underlying t=some .string) (h:DataW.trod enc P w base spare held (fuel+1) t vs=some x) :∃ s,vs=[.string s]/\s.size<=maxLen:=by
 unfold DataW.trod at h;rw[aM] at h;split at h<;>simp only[reduceCtorEq,Option.some.injEq] at *<;>try (exfalso; simp_all; done)
 split at h
 ·rename_i s _ ak; exact⟨s,rfl,ak⟩
 ·cases h
theorem ac3 {H:Type} {enc:TypeId × Value->H} {w:World} {base:Nat} {spare:Nat->Bool} {held:Bool} {fuel:Nat} {t e:TypeId} {vs:List Value} {x:DataW H × List MemPlace}
  (aM:P.underlying t=some (.slice e)) (h:DataW.trod enc P w base spare held (fuel+1) t vs=some x) :
  vs=[.slice none 0 0]\/∃ a len cap,vs=[.slice (some a) len cap]/\len<=cap/\cap<=maxLen/\∃ B7,(List.range len).mapM (fun i=>(w.cells? base (a.add (i*P.cellsOf e)) (P.cellsOf e)).bind (DataW.trod enc P w base spare held fuel e))=some B7:=by
 unfold DataW.trod at h;rw[aM] at h;split at h<;>simp only[reduceCtorEq,Option.some.injEq,TypeDesc.slice.injEq] at *<;>try (exfalso; simp_all; done)
 ·exact .inl trivial
 ·rename_i hr a len cap heq;subst heq;split at h
  ·rename_i ah;rw[bind_some] at h;obtain⟨B7,ad,_⟩:=h;exact .inr ⟨a,len,cap,rfl,ah.2.1,ah.2.2,B7,ad⟩
  ·cases h
theorem ac5 {H:Type} {enc:TypeId × Value->H} {w:World} {base:Nat} {spare:Nat->Bool} {held:Bool} {fuel:Nat} {t:TypeId} {fs:Array Field} {vs:List Value} {x:DataW H × List MemPlace}
  (aM:P.underlying t=some (.struct fs)) (h:DataW.trod enc P w base spare held (fuel+1) t vs=some x) :
  vs.length=P.cellsOf t/\∃ xs,(fs.toList.mapM fun f=>DataW.trod enc P w base spare held fuel f.type ((vs.drop f.offset).take (P.cellsOf f.type)))=some xs:=by
 unfold DataW.trod at h;rw[aM] at h;split at h<;>simp only[reduceCtorEq,Option.some.injEq,TypeDesc.struct.injEq] at *<;>try (exfalso; simp_all; done)
 rename_i afT heq;subst heq;split at h
 ·rename_i ah;rw[map_some] at h;obtain⟨xs,ad,_⟩:=h;exact⟨ah,xs,ad⟩
 ·cases h
theorem trod_array {H:Type} {enc:TypeId × Value->H} {w:World} {base:Nat} {spare:Nat->Bool} {held:Bool} {fuel:Nat} {t e:TypeId} {n:Nat} {vs:List Value} {x:DataW H × List MemPlace}
  (aM:P.underlying t=some (.array n e)) (h:DataW.trod enc P w base spare held (fuel+1) t vs=some x) :
  vs.length=P.cellsOf t/\∃ xs,((List.range n).mapM fun i=>DataW.trod enc P w base spare held fuel e ((vs.drop (i*P.cellsOf e)).take (P.cellsOf e)))=some xs:=by
 unfold DataW.trod at h;rw[aM] at h;split at h<;>simp only[reduceCtorEq,Option.some.injEq,TypeDesc.array.injEq] at *<;>try (exfalso; simp_all; done)
 rename_i aiT hr heq;obtain⟨rfl,rfl⟩:=heq;split at h
 ·rename_i ah;rw[map_some] at h;obtain⟨xs,ad,_⟩:=h;exact⟨ah,xs,ad⟩
 ·cases h
theorem Ss (a:Addr) (x j:Nat) :a.add (x+j)=(a.add x).add j:=by
 unfold Addr.add;by_cases ai:x=0
 ·subst ai; simp
 ·by_cases aj:j=0
  ·subst aj; simp
  ·rw[if_neg (by omega),if_neg ai,if_neg aj];simp only[alW]
theorem add_plain (b o n:Nat) :(Addr.mk b o none).add n=⟨b,o+n,none⟩:=by
 unfold Addr.add;by_cases aD:n=0
 ·subst aD; simp
 ·rw[if_neg aD]
theorem Re {H:Type} {enc:TypeId × Value->H} {w:World} {A:Nat->Prop} (dQ:∀ k,A k) {base:Nat} {spare:Nat->Bool} {held:Bool}:∀ (fuel:Nat) (D:Nat) (t:TypeId) (vs:List Value) (d:DataW H) (ps:List MemPlace),
  sk P D t=true->DataW.trod enc P w base spare held fuel t vs=some (d,ps)->∃ cs,n9 P w A [t] vs cs
 | 0,_,_,_,_,_,_,h=>by simp[DataW.trod] at h
 | fuel+1,0,t,vs,d,ps,av,h=>by cases av
 | fuel+1,D+1,t,vs,d,ps,av,h=>by
  have aQ:=fun t vs d ps av h=>Re dQ (enc:=enc) (w:=w) (base:=base) (spare:=spare) (held:=held) fuel D t vs d ps av h
  unfold sk at av;split at av
  ·rename_i aM;obtain⟨b,rfl⟩:=ac2 aM h;exact⟨[.bool b],⟨rfl,fun o2 cs' h=>.bool aM h,AV (.bool b) rfl⟩⟩
  ·rename_i k aM;obtain⟨n,rfl,ad,af⟩:=trod_int aM h;exact⟨[.int k n],⟨rfl,fun o2 cs' h=>.int aM ad af h,AV (.int k n) rfl⟩⟩
  ·rename_i aM;obtain⟨s,rfl,ad⟩:=ac4 aM h;exact⟨[.str s.data.toList],⟨rfl,fun o2 cs' h=>.str aM (show s.data.toList.length<=maxLen from ad) h,AV (.str s) rfl⟩⟩
  ·rename_i e aM;simp only[akh,decide_eq_true_eq] at av;rcases ac3 aM h with rfl | ⟨a,len,cap,rfl,z0,eS,B7,ao⟩
   ·exact⟨[.aK],⟨rfl,fun o2 cs' h=>.aK aM h,AV .aK rfl⟩⟩
   ·have cX:∀ i,i<len->∃ eL row,w.cells? base (a.add (i*P.cellsOf e)) (P.cellsOf e)=some eL/\n9 P w A [e] eL row:=fun i aB=>by
     obtain⟨x,_,ai⟩:=DN ao i i (by rw[akL aB]);rw[bind_some] at ai;obtain⟨eL,ad,af⟩:=ai;obtain⟨row,al⟩:=aQ e eL x.1 x.2 av.2 af;exact⟨eL,row,ad,al⟩
    have mU:∃ (eL:Nat->List Value) (rows:Nat->List U),∀ i,i<len->w.cells? base (a.add (i*P.cellsOf e)) (P.cellsOf e)=some (eL i)/\n9 P w A [e] (eL i) (rows i) :=by
     refine⟨fun i=>if aB:i<len then (cX i aB).choose else [],fun i=>if aB:i<len then (cX i aB).choose_spec.choose else [],fun i aB=>?_⟩;simp only[dif_pos aB];exact (cX i aB).choose_spec.choose_spec
    obtain⟨eL,rows,aq⟩:=mU;have l8:∀ i,i<len->(eL i).length=P.cellsOf e/\∀ j,j<P.cellsOf e->∃ v,(eL i)[j]? = some v/\w.cell? (a.add (i*P.cellsOf e+j))=some v:=fun i aB=>by
     have ad:=(aq i aB).1;unfold World.cells? at ad;split at ad
     ·refine⟨by rw[Ic ad]; simp,fun j aj=>?_⟩;obtain⟨v,af,al⟩:=DN ad j j (by rw[akL aj]);refine⟨v,af,?_⟩;rw[<-al,Ss]
     ·cases ad
    let es:=(List.range len).map rows
    have mX:∀ (i:Nat) (r:List U),es[i]? = some r->i<len/\r=rows i:=fun i r ay=>by
     simp only[es,akd] at ay;by_cases aB:i<len
     ·rw[akL aB] at ay; simp only[akg,Option.some.injEq] at ay; exact⟨aB,ay.symm⟩
     ·rw[akp (by simp; omega)] at ay; cases ay
    have bC:es.length=len:=by simp[es]
    have aw:∀ r∈es,r.length=P.cellsOf e:=fun r ay=>by
     obtain⟨i,aB⟩:=alZ ay;obtain⟨ad,rfl⟩:=mX i r aB;rw[(aq i ad).2.len,(l8 i ad).1]
    have xL:∀ r∈es,dt P [e] r:=fun r ay=>by
     obtain⟨i,aB⟩:=alZ ay;obtain⟨ad,rfl⟩:=mX i r aB;have:=(aq i ad).2.ty [] [] .nil;simpa using this
    refine⟨[.b1 (P.cellsOf e) es],⟨rfl,fun o2 cs' h=>.ar aM (by omega) aw xL h,AV ?_ rfl⟩⟩;by_cases aF:len=0
    ·subst aF;exact .fw _ _ _
    ·obtain⟨EE,_,mf⟩:=(l8 0 (by omega)).2 0 av.1;have NU:a.spot=none:=by
      unfold World.cell? at mf;split at mf
      ·split at mf
       ·cases mf
       ·rename_i ak;rw[show 0*P.cellsOf e+0=0 by omega] at ak;simp only[Addr.add,if_true] at ak;cases pG:a.spot with
        | none=>rfl
        | some x=>rw[pG] at ak; simp at ak
      ·cases mf
     obtain⟨blk,off,spot⟩:=a;simp only at NU;subst NU;have key:=aP.b1 (w:=w) (R:=A) (h:=aW.empty) (μ:=fun _=>none) (P.cellsOf e) es blk off cap (fun i j=>((eL i)[j]?).getD undef) (by omega) aw
      (fun i j aB aj=>by
       rw[bC] at aB;obtain⟨v,ad,af⟩:=(l8 i aB).2 j aj;obtain⟨c,ah⟩:∃ c,(rows i)[j]? = some c:=by
        have:j<(rows i).length:=by rw[(aq i aB).2.len,(l8 i aB).1]; exact aj
        exact⟨_,aka this⟩
       refine⟨?_,?_,dQ _,fun ⟨b,m,ad,af,al⟩=>by cases af⟩
       ·rw[ad,akO,<-add_plain]; exact af
       ·rw[ad,akO]; exact ((aq i aB).2.nV j c v ah ad).2)
      (fun i r ay j c ah=>by
       obtain⟨aB,rfl⟩:=mX i r ay;have aj:j<P.cellsOf e:=by rw[<-(l8 i aB).1,<-(aq i aB).2.len]; exact (aj7.1 ah).1
       obtain⟨v,ad,af⟩:=(l8 i aB).2 j aj;rw[ad,akO];exact ((aq i aB).2.nV j c v ah ad).1)
     rw[bC] at key;exact key
  ·rename_i fs aM;simp only[akh,decide_eq_true_eq,ak4] at av;obtain⟨bC,xs,ai⟩:=ac5 aM h;have zw:∀ (fs:List Field) (o:Nat) (xs:List (DataW H × List MemPlace)),sZ P fs o=some vs.length->o<=vs.length->(∀ f∈fs,sk P D f.type=true)->
     (fs.mapM fun f=>DataW.trod enc P w base spare held fuel f.type ((vs.drop f.offset).take (P.cellsOf f.type)))=some xs->∃ cs,n9 P w A (fs.map (·.type)) (vs.drop o) cs:=by
    intro fs
    induction fs with
    | nil=>intro o xs ah au _ _; simp only[sZ,Option.some.injEq] at ah; rw[ah,List.drop_length]; exact⟨[],.nil⟩
    | cons f fs Yi=>
     intro o xs ah au gT hm;simp only[sZ] at ah;split at ah
     ·rename_i Wm;rw[alI] at hm;simp only[Option.bind_eq_bind,bind_some,alV,Option.some.injEq] at hm;obtain⟨x,ad,ad8,af,_⟩:=hm;have W5:∀ (fs:List Field) (o n:Nat),sZ P fs o=some n->o<=n:=by
       intro fs
       induction fs with
       | nil=>intro o n h; simp only[sZ,Option.some.injEq] at h; omega
       | cons g gs Yj=>
        intro o n h;simp only[sZ] at h;split at h
        ·have:=Yj _ _ h; omega
        ·cases h
      have er:=W5 _ _ _ ah;obtain⟨b5,bV⟩:=aQ f.type _ x.1 x.2 (gT f (by simp)) ad;obtain⟨ce,w2⟩:=Yi _ ad8 ah er (fun g aA=>gT g (by simp[aA])) af;refine⟨b5++ce,?_⟩;have:=bV.app w2;rw[Wm,show List.drop (o+P.cellsOf f.type) vs=List.drop (P.cellsOf f.type) (List.drop o vs) by rw[amA],ak1] at this;exact this
     ·cases ah
   obtain⟨cs,aV⟩:=zw fs.toList 0 xs (by rw[bC]; exact av.1) (alj _) av.2 ai;rw[alH] at aV;exact⟨cs,⟨aV.len,fun o2 cs' h=>.struct aM (aV.ty _ _ h),aV.nV⟩⟩
  ·rename_i n e aM;simp only[akh,decide_eq_true_eq] at av;obtain⟨bC,xs,ai⟩:=trod_array aM h;have Xx:∀ i,i<n->∃ c,n9 P w A [e] ((vs.drop (i*P.cellsOf e)).take (P.cellsOf e)) c:=fun i aB=>by
    obtain⟨x,_,ad⟩:=DN ai i i (by rw[akL aB]);exact aQ e _ x.1 x.2 av.2 ad
   have zw:∀ m,m<=n->∃ cs,n9 P w A (List.replicate m e) (vs.drop ((n - m)*P.cellsOf e)) cs:=by
    intro m
    induction m with
    | zero=>intro _; rw[amL,ak3 (by omega)]; exact⟨[],.nil⟩
    | succ m HM=>
     intro hm;obtain⟨b5,bV⟩:=Xx (n - (m+1)) (by omega);obtain⟨ce,w2⟩:=HM (by omega);refine⟨b5++ce,?_⟩;have:=bV.app w2;have tg:(n - m)*P.cellsOf e=(n - (m+1))*P.cellsOf e+P.cellsOf e:=by rw[<-akK]; congr 1; omega
     rw[tg,<-amA,ak1] at this;exact this
   obtain⟨cs,aV⟩:=zw n (akb _);rw[amj,amh,alH] at aV;exact⟨cs,⟨aV.len,fun o2 cs' h=>.array aM (aV.ty _ _ h),aV.nV⟩⟩
  ·cases av
def u0 (P:Program) (t:TypeId) (c:U) :Prop:=match dZ P t with
 | some true=>∃ cs,c=.aH cs/\dt P [t] cs
 | _=>dt P [t] [c]
inductive lh (P:Program) :List TypeId->List U->Prop
 | nil:lh P [] []
 | cons {t:TypeId} {c:U} {ts:List TypeId} {cs:List U}:u0 P t c->lh P ts cs->lh P (t::ts) (c::cs)
theorem Kv {H:Type} {enc:TypeId × Value->H} {w:World} {A:Nat->Prop} (dQ:∀ k,A k) {base gZ:Nat} {spare:Nat->Bool} {held:Bool} {D:Nat}:∀ {ts:List TypeId} {vs:List Value} {hE:List (DataW H)} {ps:List MemPlace},
  (∀ t∈ts,sk P D t=true)->(∀ (j:Nat) t v,ts[j]? = some t->vs[j]? = some v->Value.okWide P w .any gZ t v)->DataW.TrodAll enc P w base spare held ts vs hE ps->
  ∃ cs,lh P ts cs/\cs.length=vs.length/\∀ (j:Nat) (c:U) (v:Value),cs[j]? = some c->vs[j]? = some v->fA w A c v
 | [],[],_,_,_,_,_=>⟨[],.nil,rfl,fun j c v h=>by simp at h⟩
 | [],_::_,hE,_,_,_,h=>by cases hE<;>cases h
 | _::_,[],hE,_,_,_,h=>by cases hE<;>cases h
 | _::_,_::_,[],_,_,_,h=>by cases h
 | t::ts,v::vs,d::hE,ps,av,c0,h=>by
  obtain⟨p,q,⟨fuel,a3⟩,ay,_⟩:=h;obtain⟨cs,ad,af,al⟩:=Kv dQ (fun t a3=>av t (by simp[a3])) (fun j t v a3 aq=>c0 (j+1) t v (by simpa using a3) (by simpa using aq)) ay;obtain⟨b5,bV⟩:=Re dQ fuel D t v.cells.toList d p (av t (by simp)) a3;have xL:dt P [t] b5:=by simpa using bV.ty [] [] .nil
  have aq:=c0 0 t v rfl rfl;have l3:∀ c,u0 P t c->fA w A c v->∃ cs,lh P (t::ts) cs/\cs.length=(v::vs).length/\∀ (j:Nat) (c:U) (a4:Value),cs[j]? = some c->(v::vs)[j]? = some a4->fA w A c a4:=fun c ah k1=>
   ⟨c::cs,.cons ah ad,by simp[af],fun j c' a4 aj fk=>by
    cases j with
    | zero=>simp only[akA,Option.some.injEq] at aj fk; subst aj fk; exact k1
    | succ j=>exact al j c' a4 (by simpa using aj) (by simpa using fk)⟩
  unfold Value.okWide at aq;have agg:dZ P t=(P.underlying t).map fun d=>match d with | .struct _ | .array _ _=>true | _=>false:=rfl
  cases aM:P.underlying t with
  | none=>
   exfalso;have:=av t (by simp);cases D with
   | zero=>cases this
   | succ D=>unfold sk at this; rw[aM] at this; cases this
  | some Ln=>
   rw[aM] at aq agg;have Yy:(∃ cs,v=.agg cs)->dZ P t=some true->∃ cs,lh P (t::ts) cs/\cs.length=(v::vs).length/\∀ (j:Nat) (c:U) (a4:Value),cs[j]? = some c->(v::vs)[j]? = some a4->fA w A c a4:=by
    rintro⟨xs,rfl⟩ nv;refine l3 (.aH b5) (by unfold u0; rw[nv]; exact⟨b5,rfl,xL⟩) (.aH b5 xs (by have:=bV.len; simp only[Value.cells,al5] at this; exact this.symm) (fun j x ai=>?_) (fun j c x ah ai=>?_))
    ·have aO:j<b5.length:=by rw[bV.len]; simp only[Value.cells,al5]; exact (akI.1 ai).1
     exact (bV.nV j b5[j] x (aka aO) (by simpa [Value.cells] using ai)).2
    ·exact (bV.nV j c x ah (by simpa [Value.cells] using ai)).1
   have Yz:(∀ xs,v≠.agg xs)->dZ P t=some false->∃ cs,lh P (t::ts) cs/\cs.length=(v::vs).length/\∀ (j:Nat) (c:U) (a4:Value),cs[j]? = some c->(v::vs)[j]? = some a4->fA w A c a4:=by
    intro bW nv;have l8:v.cells.toList=[v] :=by cases v<;>first | rfl | exact absurd rfl (bW _)
    have am:=bV.len;rw[l8] at am;obtain⟨c,rfl⟩:∃ c,b5=[c] :=List.length_eq_one_iff.1 am;refine l3 c (by unfold u0; rw[nv]; exact xL) (bV.nV 0 c v rfl (by rw[l8]; rfl)).1
   have ZQ:Cell.okWide P w .any gZ t v->∀ xs,v≠.agg xs:=by
    rintro ah xs rfl;unfold Cell.okWide at ah;rw[aM] at ah;cases Ln<;>simp[Cell.ok,aM] at ah
   cases Ln<;>simp only[akg] at agg<;>first
    | exact Yy (by obtain⟨cs,h,_⟩:=aq; exact⟨cs,h⟩) agg
    | exact Yz (ZQ aq) agg
end
abbrev cT (α:Type) :=Option (List α)
def cT.l {α:Type} (s:cT α) :List α:=s.getD []
@[simp] theorem cT.ah1 {α:Type}:cT.l (none:cT α)=[] :=rfl
@[simp] theorem cT.v2 {α:Type} (l:List α) :cT.l (some l)=l:=rfl
def ct {α:Type} (z:Nat) (enc:α->List U) :cT α->U
 | none=>.aK
 | some l=>.b1 z (l.map enc)
section
variable {α:Type} {z:Nat} {enc:α->List U}
@[simp] theorem qS (s:cT α) :ch (.ar z) (ct z enc s)=some (.int .i64 s.l.length) :=by cases s<;>simp[ct,cT.l]
@[simp] theorem r1 (s:cT α) (k:IntKind) (i:Int) :cN (.ar z) (ct z enc s) (.int k i)=if 0<=i then (s.l[i.toNat]?).map fun x=>.cg (enc x) 0 else none:=by
 cases s with
 | none=>by_cases h:0<=i<;>simp[ct,cT.l,cN,h]
 | some l=>by_cases h:0<=i<;>simp[ct,cT.l,h,Function.comp_def]
@[simp] theorem ae5 (s:cT α) :(ct z enc s).cells=some [ct z enc s] :=by cases s<;>rfl
theorem y3 (h:∀ x,a1 (enc x)=true) (s:cT α) :(ct z enc s).closed=true:=by
 cases s with
 | none=>rfl
 | some l=>
  simp only[ct,U.closed]
  induction l with
  | nil=>rfl
  | cons x l aQ=>simp only[akx,y1,h,aQ,alP]
end
theorem wrap_i64 {n:Int} (ad:-9223372036854775808<=n) (af:n<9223372036854775808) :IntKind.i64.wrap n=n:=by
 have aS:(2 ^ IntKind.i64.bits:Int)=18446744073709551616:=by decide
 have bv:(2 ^ (IntKind.i64.bits - 1) :Int)=9223372036854775808:=by decide
 have eR:IntKind.i64.signed=true:=rfl;simp only[IntKind.wrap,aS,bv,eR,alx,decide_eq_true_eq];split<;>omega
theorem bF {α:Type} {l:List α} {k:Nat} (h:k<l.length) :∃ x,l[k]? = some x/\x∈l:=⟨l[k],aka h,List.getElem_mem h⟩
section
variable {P:Program} {G:Nat->U}
theorem Fk {t e:TypeId} (aM:P.underlying t=some (.slice e)) {α:Type} (z:Nat) (enc:α->List U) (s:cT α) :fT P .eql t (ct z enc s) .aK=some (.bool s.isNone) :=by
 cases s<;>simp[ct,fT,vj,ek,aM]
theorem Uh {e:TypeId} {k:IntKind} (aM:P.underlying e=some (.int k)) (aC:dZ P e=some false) {D:Nat} (x y:List Int) :∀ (n i:Nat),i+n=x.length->i+n=y.length->
  ek.qq P (ek P (D+1)) e 1 (x.map (.int k)) (y.map (.int k)) n i=some (decide (x.drop i=y.drop i)) :=by
 intro n
 induction n with
 | zero=>intro i ai aL; rw[ak3 (by omega),ak3 (by omega)]; simp[ek.qq]
 | succ n aQ=>
  intro i ai aL;have X9:x[i]? = some x[i] :=aka (by omega);have Ya:y[i]? = some y[i] :=aka (by omega);unfold ek.qq;simp only[Iy aC,alM,akd,X9,Ya,akg];have ao:ek P (D+1) e (.int k x[i]) (.int k y[i])=some (decide (x[i]=y[i])) :=by
   unfold ek;rw[aM];simp only[if_true];by_cases h:x[i]=y[i]<;>simp[h]
  rw[ao];have MO:x.drop i=x[i] ::x.drop (i+1) :=ale (by omega);have MP:y.drop i=y[i] ::y.drop (i+1) :=ale (by omega);by_cases h:x[i]=y[i]
  ·simp only[h,decide_true];rw[aQ (i+1) (by omega) (by omega)];refine congrArg some (decide_eq_decide.2 ?_);rw[MO,MP,h];simp only[List.cons.injEq,true_and]
  ·simp only[h,decide_false];refine congrArg some (decide_eq_false ?_).symm;rw[MO,MP];simp only[List.cons.injEq,h,false_and,not_false_eq_true]
theorem Uo {t e:TypeId} {k:IntKind} {n:Nat} (a3:P.underlying t=some (.array n e)) (aM:P.underlying e=some (.int k)) (aC:dZ P e=some false) (ak:cC P e=some 1) {x y:List Int} (ai:x.length=n) (aL:y.length=n) {D:Nat} :
  ek P (D+2) t (.aH (x.map (.int k))) (.aH (y.map (.int k)))=some (decide (x=y)) :=by
 unfold ek;rw[a3];simp only[ak];rw[Uh aM aC x y n 0 (by omega) (by omega)];simp
theorem vm {z:Nat} {es:List (List U)} (aw:∀ e∈es,e.length=z) :es.flatten.length=es.length*z:=by
 induction es with
 | nil=>simp
 | cons e es aQ=>rw[akT,akf,aw e (by simp),aQ fun e ao=>aw e (by simp[ao]),akv,akK,am4]
theorem w3 {z:Nat} {es:List (List U)} (aw:∀ e∈es,e.length=z) {i j:Nat} {e:List U} (ao:es[i]? = some e) (aj:j<z) :es.flatten[i*z+j]? = e[j]?:=by
 induction es generalizing i with
 | nil=>simp at ao
 | cons x es aQ=>
  have ai:x.length=z:=aw x (by simp);cases i with
  | zero=>
   simp only[akA,Option.some.injEq] at ao;subst ao;rw[akT,amh,alf,aj8 (by omega)]
  | succ i=>
   simp only[akN] at ao;rw[akT,akt (by rw[ai,akK]; omega),ai,show (i+1)*z+j - z=i*z+j by rw[akK]; omega];exact aQ (fun e ao=>aw e (by simp[ao])) ao
theorem UJ {z:Nat} {es:List (List U)} (aw:∀ e∈es,e.length=z) {i j:Nat} {e vs:List U} (ao:es[i]? = some e) (aj:j+vs.length<=z) :bi es.flatten (i*z+j) vs=(es.set i (bi e j vs)).flatten:=by
 have aB:i<es.length:=(aj7.1 ao).1;have er:e.length=z:=aw e (ake ao);have bh:es.drop i=e::es.drop (i+1) :=by rw[ale aB]; congr 1; rw[aka aB] at ao; exact Option.some.inj ao
 have kf:(es.set i (bi e j vs)).flatten=(es.take i).flatten++(bi e j vs++(es.drop (i+1)).flatten) :=by
  rw[alu,if_pos aB,akZ,akT]
 have XY:es.flatten=(es.take i).flatten++(e++(es.drop (i+1)).flatten) :=by
  conv=>lhs; rw[<-ak1 i es]
  rw[bh,akZ,akT]
 have bC:(es.take i).flatten.length=i*z:=by
  rw[vm (z:=z) fun e ao=>aw e (akD ao),akB,ak7 (by omega)]
 rw[kf,XY];simp only[bi];rw[al2,aj9 (by omega),bC,show i*z+j - i*z=j by omega,akP (by omega),
  List.drop_append,ak3 (by omega),bC,show i*z+j+vs.length - i*z=j+vs.length by omega,ald,alb (by omega)]
 simp only[akU]
theorem cO {ae:a7} {i:Nat} {v:U} (h:ae i=v) :bH ae i v=ae:=by
 funext t; simp only[bH]; split<;>simp_all
theorem o6 {ae:a7} {cK:Nat} {cd:U} {dx:Nat} {bP:U} (ad:ae cK=cd) (af:ae dx=bP) :∃ s:a7,ae=bH (bH (s) cK cd) dx bP:=⟨ae,by rw[cO ad,cO af]⟩
theorem jT {ae:a7} {cK:Nat} {cd:U} {dx:Nat} {bP:U} {gx:Nat} {eW:U} (ad:ae cK=cd) (af:ae dx=bP) (al:ae gx=eW) :∃ s:a7,ae=bH (bH (bH (s) cK cd) dx bP) gx eW:=⟨ae,by rw[cO ad,cO af,cO al]⟩
theorem h1 {ae:a7} {cK:Nat} {cd:U} {dx:Nat} {bP:U} {gx:Nat} {eW:U} {fl:Nat} {gb:U} (ad:ae cK=cd) (af:ae dx=bP) (al:ae gx=eW) (aG:ae fl=gb) :∃ s:a7,ae=bH (bH (bH (bH (s) cK cd) dx bP) gx eW) fl gb:=⟨ae,by rw[cO ad,cO af,cO al,cO aG]⟩
theorem kq {ae:a7} {cK:Nat} {cd:U} {dx:Nat} {bP:U} {gx:Nat} {eW:U} {fl:Nat} {gb:U} {iP:Nat} {g8:U} (ad:ae cK=cd) (af:ae dx=bP) (al:ae gx=eW) (aG:ae fl=gb) (a6:ae iP=g8) :∃ s:a7,ae=bH (bH (bH (bH (bH (s) cK cd) dx bP) gx eW) fl gb) iP g8:=⟨ae,by rw[cO ad,cO af,cO al,cO aG,cO a6]⟩
theorem uA {ae:a7} {cK:Nat} {cd:U} {dx:Nat} {bP:U} {gx:Nat} {eW:U} {fl:Nat} {gb:U} {iP:Nat} {g8:U} {jF:Nat} {eK:U} (ad:ae cK=cd) (af:ae dx=bP) (al:ae gx=eW) (aG:ae fl=gb) (a6:ae iP=g8) (bK:ae jF=eK) :∃ s:a7,ae=bH (bH (bH (bH (bH (bH (s) cK cd) dx bP) gx eW) fl gb) iP g8) jF eK:=⟨ae,by rw[cO ad,cO af,cO al,cO aG,cO a6,cO bK]⟩
theorem JG {ae:a7} {cK:Nat} {cd:U} {dx:Nat} {bP:U} {gx:Nat} {eW:U} {fl:Nat} {gb:U} {iP:Nat} {g8:U} {jF:Nat} {eK:U} {hV:Nat} {lf:U} (ad:ae cK=cd) (af:ae dx=bP) (al:ae gx=eW) (aG:ae fl=gb) (a6:ae iP=g8) (bK:ae jF=eK) (c9:ae hV=lf) :∃ s:a7,ae=bH (bH (bH (bH (bH (bH (bH (s) cK cd) dx bP) gx eW) fl gb) iP g8) jF eK) hV lf:=⟨ae,by rw[cO ad,cO af,cO al,cO aG,cO a6,cO bK,cO c9]⟩
theorem Rn {ae:a7} {cK:Nat} {cd:U} {dx:Nat} {bP:U} {gx:Nat} {eW:U} {fl:Nat} {gb:U} {iP:Nat} {g8:U} {jF:Nat} {eK:U} {hV:Nat} {lf:U} {m4:Nat} {iU:U} (ad:ae cK=cd) (af:ae dx=bP) (al:ae gx=eW) (aG:ae fl=gb) (a6:ae iP=g8) (bK:ae jF=eK) (c9:ae hV=lf) (gg:ae m4=iU) :∃ s:a7,ae=bH (bH (bH (bH (bH (bH (bH (bH (s) cK cd) dx bP) gx eW) fl gb) iP g8) jF eK) hV lf) m4 iU:=⟨ae,by rw[cO ad,cO af,cO al,cO aG,cO a6,cO bK,cO c9,cO gg]⟩
theorem Ro {ae:a7} {cK:Nat} {cd:U} {dx:Nat} {bP:U} {gx:Nat} {eW:U} {fl:Nat} {gb:U} {iP:Nat} {g8:U} {jF:Nat} {eK:U} {hV:Nat} {lf:U} {m4:Nat} {iU:U} {pN:Nat} {p5:U} (ad:ae cK=cd) (af:ae dx=bP) (al:ae gx=eW) (aG:ae fl=gb) (a6:ae iP=g8) (bK:ae jF=eK) (c9:ae hV=lf) (gg:ae m4=iU) (fV:ae pN=p5) :∃ s:a7,ae=bH (bH (bH (bH (bH (bH (bH (bH (bH (s) cK cd) dx bP) gx eW) fl gb) iP g8) jF eK) hV lf) m4 iU) pN p5:=⟨ae,by rw[cO ad,cO af,cO al,cO aG,cO a6,cO bK,cO c9,cO gg,cO fV]⟩
theorem adn {ae:a7} {cK:Nat} {cd:U} {dx:Nat} {bP:U} {gx:Nat} {eW:U} {fl:Nat} {gb:U} {iP:Nat} {g8:U} {jF:Nat} {eK:U} {hV:Nat} {lf:U} {m4:Nat} {iU:U} {pN:Nat} {p5:U} {tA:Nat} {uB:U} (ad:ae cK=cd) (af:ae dx=bP) (al:ae gx=eW) (aG:ae fl=gb) (a6:ae iP=g8) (bK:ae jF=eK) (c9:ae hV=lf) (gg:ae m4=iU) (fV:ae pN=p5) (j3:ae tA=uB) :∃ s:a7,ae=bH (bH (bH (bH (bH (bH (bH (bH (bH (bH (s) cK cd) dx bP) gx eW) fl gb) iP g8) jF eK) hV lf) m4 iU) pN p5) tA uB:=⟨ae,by rw[cO ad,cO af,cO al,cO aG,cO a6,cO bK,cO c9,cO gg,cO fV,cO j3]⟩
theorem ado {ae:a7} {cK:Nat} {cd:U} {dx:Nat} {bP:U} {gx:Nat} {eW:U} {fl:Nat} {gb:U} {iP:Nat} {g8:U} {jF:Nat} {eK:U} {hV:Nat} {lf:U} {m4:Nat} {iU:U} {pN:Nat} {p5:U} {tA:Nat} {uB:U} {As:Nat} {Bn:U} (ad:ae cK=cd) (af:ae dx=bP) (al:ae gx=eW) (aG:ae fl=gb) (a6:ae iP=g8) (bK:ae jF=eK) (c9:ae hV=lf) (gg:ae m4=iU) (fV:ae pN=p5) (j3:ae tA=uB) (vr:ae As=Bn) :∃ s:a7,ae=bH (bH (bH (bH (bH (bH (bH (bH (bH (bH (bH (s) cK cd) dx bP) gx eW) fl gb) iP g8) jF eK) hV lf) m4 iU) pN p5) tA uB) As Bn:=⟨ae,by rw[cO ad,cO af,cO al,cO aG,cO a6,cO bK,cO c9,cO gg,cO fV,cO j3,cO vr]⟩
theorem adp {ae:a7} {cK:Nat} {cd:U} {dx:Nat} {bP:U} {gx:Nat} {eW:U} {fl:Nat} {gb:U} {iP:Nat} {g8:U} {jF:Nat} {eK:U} {hV:Nat} {lf:U} {m4:Nat} {iU:U} {pN:Nat} {p5:U} {tA:Nat} {uB:U} {As:Nat} {Bn:U} {Od:Nat} {Rp:U} (ad:ae cK=cd) (af:ae dx=bP) (al:ae gx=eW) (aG:ae fl=gb) (a6:ae iP=g8) (bK:ae jF=eK) (c9:ae hV=lf) (gg:ae m4=iU) (fV:ae pN=p5) (j3:ae tA=uB) (vr:ae As=Bn) (F0:ae Od=Rp) :∃ s:a7,ae=bH (bH (bH (bH (bH (bH (bH (bH (bH (bH (bH (bH (s) cK cd) dx bP) gx eW) fl gb) iP g8) jF eK) hV lf) m4 iU) pN p5) tA uB) As Bn) Od Rp:=⟨ae,by rw[cO ad,cO af,cO al,cO aG,cO a6,cO bK,cO c9,cO gg,cO fV,cO j3,cO vr,cO F0]⟩
section
variable {α:Type}
@[simp] theorem s1 (l:ap) (z:Nat) (enc:α->List U) (s:cT α) :dd l z (ct z enc s)=some ((s.l.map enc).flatten,s.l.length) :=by
 cases s<;>simp[ct,dd]
end
theorem acj {l:ap} {b:Nat} {c:aU} (h:l[b]? = some c) :l.set b c=l:=by
 apply akY;intro j;rw[alo];by_cases aj:b=j
 ·subst aj; rw[if_pos rfl,if_pos (b9 h)]; exact h.symm
 ·rw[if_neg aj]
theorem Sy {l:ap} {z by_ b:Nat} {es xs:List (List U)} {x:U} (ag:l[b]? = some (.cells (es.length*z) es.flatten)) (ai:dd l z x=some (xs.flatten,xs.length)) (aw:∀ e∈es,e.length=z) (aF:z≠0) (ep:by_≠0)
  (ed:(es.length+xs.length)*by_<=cF) :
  fS l z by_ (.ar z b 0 es.length es.length (es.length*z)) x=some (.ar z b 0 (es++xs).length (es++xs).length ((es++xs).length*z),l.set b (.cells ((es++xs).length*z) (es++xs).flatten)) :=by
 unfold fS;rw[ai];show i8 l z by_ _ xs.flatten xs.length=_;unfold i8;cases xs with
 | nil=>simp[acj ag]
 | cons y bL=>
  rw[if_neg (by simp),if_neg (by omega)];simp only[ag];rw[if_pos ⟨trivial,trivial,ed⟩,if_neg (by simp),if_neg (by omega),if_pos trivial,aj9 (by rw[vm aw]; exact akb _)];simp only[akf,akZ]
theorem Kr {l:ap} {z by_ b n m sz:Nat} {es xs:List (List U)} {x:U} (ag:l[b]? = some (.cells sz es.flatten)) (ai:dd l z x=some (xs.flatten,m)) (aD:es.length=n) (hm:xs.length=m) (ak:sz=n*z) (aw:∀ e∈es,e.length=z) (aF:z≠0) (ep:by_≠0)
  (ed:(n+m)*by_<=cF) :
  fS l z by_ (.ar z b 0 n n sz) x=some (.ar z b 0 (n+m) (n+m) ((n+m)*z),l.set b (.cells ((n+m)*z) (es++xs).flatten)) :=by
 subst aD hm ak;rw[Sy ag ai aw aF ep ed];simp only[akf]
theorem gl {cs vs:List U} (h:vs.length=cs.length) :bi cs 0 vs=vs:=by
 simp only[bi,als,ald,alf];rw[ak3 (by omega),akQ]
theorem KM (len cap:Nat) (k:IntKind) (i:Int) :gp len cap (some (.int k i)) none none=if 0<=i/\i<=len then some (i.toNat,len,cap) else none:=by
 unfold gp jr;by_cases h:0<=i/\i<=len
 ·simp only[if_pos h]
 ·simp only[if_neg h]
theorem Fp (len cap:Nat) (k:IntKind) (i:Int) :gp len cap none (some (.int k i)) none=if 0<=i/\i<=cap then some (0,i.toNat,cap) else none:=by
 unfold gp jr;by_cases h:0<=i/\i<=cap
 ·simp only[if_pos h]
 ·simp only[if_neg h]
theorem SV (len cap:Nat) (k k' : IntKind) (i j:Int) :gp len cap (some (.int k i)) (some (.int k' j)) none=if 0<=i/\i<=j/\j<=cap then some (i.toNat,j.toNat,cap) else none:=by
 unfold gp jr;by_cases h:0<=j/\j<=cap
 ·simp only[if_pos h];by_cases af:0<=i/\i<=((j.toNat:Nat) :Int)
  ·simp only[if_pos af]; rw[if_pos (by omega)]
  ·simp only[if_neg af]; rw[if_neg (by omega)]
 ·simp only[if_neg h]; rw[if_neg (by omega)]
theorem QH {α:Type} {z:Nat} {enc:α->List U} {l:List α} {k:IntKind} {i:Int} (ad:0<=i) (af:i<=l.length) :e3 (.ar z) (ct z enc (some l)) (some (.int k i)) none none=some (ct z enc (some (l.drop i.toNat))) :=by
 have al:i.toNat<=l.length:=by omega
 simp only[e3,ct,if_true,KM,aki];rw[if_pos ⟨ad,af⟩];simp only[akg,Option.some.injEq,U.b1.injEq,true_and];rw[aj9 (by simp),List.map_drop]
theorem QJ {α:Type} {z:Nat} {enc:α->List U} {l:List α} {k:IntKind} {i:Int} (ad:0<=i) (af:i<=l.length) :e3 (.ar z) (ct z enc (some l)) none (some (.int k i)) none=some (ct z enc (some (l.take i.toNat))) :=by
 simp only[e3,ct,if_true,Fp,aki];rw[if_pos ⟨ad,af⟩];simp only[akg,Option.some.injEq,U.b1.injEq,true_and,alH,amL];rw[amF]
theorem acs {α:Type} {z:Nat} {enc:α->List U} {l:List α} {k k' : IntKind} {i j:Int} (aF:0<=i) (ad:i<=j) (af:j<=l.length) :e3 (.ar z) (ct z enc (some l)) (some (.int k i)) (some (.int k' j)) none=some (ct z enc (some ((l.drop i.toNat).take (j.toNat - i.toNat)))) :=by
 simp only[e3,ct,if_true,SV,aki];rw[if_pos ⟨aF,ad,af⟩];simp only[akg,Option.some.injEq,U.b1.injEq,true_and];rw[amF,List.map_drop]
theorem map_set {α:Type} (l:List α) (k:Nat) (x:α) (enc:α->List U) :(l.map enc).set k (enc x)=(l.set k x).map enc:=by rw[List.map_set]
end

section
variable {P:Program}
def Q0 (P:Program) (t:TypeId) :Option (List TypeId) :=match P.underlying t with
 | some (.struct fs)=>some (fs.toList.map (·.type))
 | _=>none
theorem Bm {cs:List U} (h:dt P [] cs) :cs=[] :=by cases h; rfl
theorem uw {t:TypeId} {k:IntKind} {ts:List TypeId} {cs:List U} (aM:P.underlying t=some (.int k)) (h:dt P (t::ts) cs) :∃ n cs',cs=.int k n::cs'/\k.min<=n/\n<=k.max/\dt P ts cs':=by
 cases h
 case int k' n cs' ad af nB h=>
  rw[aM] at nB; cases nB; exact⟨_,_,rfl,ad,af,h⟩
 all_goals (exfalso; simp_all; done)
theorem ade {t:TypeId} {ts:List TypeId} {cs:List U} (aM:P.underlying t=some .bool) (h:dt P (t::ts) cs) :∃ b cs',cs=.bool b::cs'/\dt P ts cs':=by
 cases h
 case bool b cs' nB h=>exact⟨_,_,rfl,h⟩
 all_goals (exfalso; simp_all; done)
theorem ux {t:TypeId} {fs ts:List TypeId} {cs:List U} (aM:Q0 P t=some fs) (h:dt P (t::ts) cs) :dt P (fs++ts) cs:=by
 unfold Q0 at aM;cases h
 case struct afS nB h=>rw[nB] at aM; cases aM; exact h
 all_goals (exfalso; simp_all; done)
theorem adc {t e:TypeId} {n:Nat} {ts:List TypeId} {cs:List U} (aM:P.underlying t=some (.array n e)) (h:dt P (t::ts) cs) :dt P (List.replicate n e++ts) cs:=by
 cases h
 case array e6 hX nB h=>rw[aM] at nB; cases nB; exact h
 all_goals (exfalso; simp_all; done)
theorem adi {t e:TypeId} {ts:List TypeId} {cs:List U} (aM:P.underlying t=some (.slice e)) (h:dt P (t::ts) cs) :
  ∃ cs',dt P ts cs'/\(cs=.aK::cs'\/∃ es,cs=.b1 (P.cellsOf e) es::cs'/\es.length<=maxLen/\∀ r∈es,dt P [e] r) :=by
 cases h
 case aK e6 cs' nB h=>exact⟨_,h,.inl rfl⟩
 case ar e6 es cs' am aw ao nB h=>rw[aM] at nB; cases nB; exact⟨_,h,.inr ⟨es,rfl,am,ao⟩⟩
 all_goals (exfalso; simp_all; done)
theorem Qp {α:Type} {enc:α->List U} {Q:α->Prop}:∀ (es:List (List U)),(∀ r∈es,∃ x,r=enc x/\Q x)->∃ xs:List α,es=xs.map enc/\∀ x∈xs,Q x
 | [],_=>⟨[],rfl,fun x ai=>by cases ai⟩
 | r::es,h=>by
  obtain⟨x,rfl,ai⟩:=h r (by simp);obtain⟨xs,rfl,xS⟩:=Qp es (fun r ay=>h r (by simp[ay]));exact⟨x::xs,rfl,fun y aL=>by
   rcases alr.1 aL with rfl | aL
   ·exact ai
   ·exact xS y aL⟩
theorem JB {α:Type} {t e:TypeId} {z:Nat} {enc:α->List U} {Q:α->Prop} {ts:List TypeId} {cs:List U} (aM:P.underlying t=some (.slice e)) (aw:P.cellsOf e=z) (ao:∀ r,dt P [e] r->∃ x,r=enc x/\Q x) (h:dt P (t::ts) cs) :
  ∃ (s:cT α) (cs' : List U),cs=ct z enc s::cs'/\s.l.length<=maxLen/\(∀ x∈s.l,Q x)/\dt P ts cs':=by
 obtain⟨cs',ad,rfl | ⟨es,rfl,am,ay⟩⟩:=adi aM h
 ·exact⟨none,cs',rfl,alj _,fun x ai=>(by cases ai),ad⟩
 ·obtain⟨xs,rfl,xS⟩:=Qp (enc:=enc) (Q:=Q) es (fun r ny=>ao r (ay r ny));refine⟨some xs,cs',?_,by simpa using am,xS,ad⟩;rw[aw]; rfl
theorem Ri {t:TypeId} {c:U} (aC:dZ P t=some true) (h:u0 P t c) :∃ cs,c=.aH cs/\dt P [t] cs:=by
 unfold u0 at h; rw[aC] at h; exact h
theorem Rh {t:TypeId} {ts:List TypeId} {cs:List U} (h:lh P (t::ts) cs) :∃ c cs',cs=c::cs'/\u0 P t c/\lh P ts cs':=by
 cases h with
 | cons ad af=>exact⟨_,_,rfl,ad,af⟩
theorem ac9 {cs:List U} (h:lh P [] cs) :cs=[] :=by cases h; rfl
end

end Go.ca

namespace Go.ca
open Go Go.ChangeShapes Go.RowKit
theorem Rc {H:Type} {enc:TypeId × Value->H} {P:Program} (am:laidOutB P=true) {W rl:World} (ag:Below W.heap.size W rl) :∀ {ts:List TypeId} {vs:List Value} {hE:List (DataW H)} {ps:List MemPlace},
  (∀ t∈ts,P.readableRec t=true/\t<P.types.size)->DataW.TrodAll enc P W 0 (fun _=>true) true ts vs hE ps->DataW.TrodAll enc P rl 0 (fun b=>decide (b<W.heap.size)) true ts vs hE ps
 | [],vs,hE,ps,_,h=>by
  obtain⟨rfl,rfl,rfl⟩:=trodAll_nil h;exact trodAll_mk0
 | t::ts,vs,hE,ps,ay,h=>by
  have aO:=h.lt;obtain⟨v,adw,d,T8,a,b,rfl,rfl,rfl,ad,af⟩:=trodAll_cons h;exact⟨a,b,Below.trod am (ay t (by simp)).1 (ay t (by simp)).2 ad ag (fun x ai=>aO x (by simp[ai])),Rc am ag (fun t a3=>ay t (by simp[a3])) af,rfl⟩
theorem Y0 {P:Program} {G:Nat->U} (k4:P.follows .mixedOrders=true) (ky:∀ g,(G g).closed=true) {f:FuncId} {ts:List TypeId} (D:Nat) (av:∀ t∈ts,sk P D t=true) (WS:laidOutB P=true)
  (cX:∀ t∈ts,P.readableRec t=true/\t<P.types.size) (YY:∀ cs,lh P ts cs->dg P G f cs [] (c:=⟨fun r _=>r=.bool true⟩))
  {H:Type} {enc:TypeId × Value->H} {W:World} {gZ:Nat} {args:Array Value} {hE:List (DataW H)} {ps:List MemPlace} (aA:∀ g,fA W (fun _=>True) (G g) (.pointer (some ⟨g,0,none⟩)))
  (c0:∀ (j:Nat) t v,ts[j]? = some t->args[j]? = some v->Value.okWide P W .any gZ t v) (h:DataW.TrodAll enc P W 0 (fun _=>true) true ts args.toList hE ps) :
  Calls P f args W fun e w'=>e=.returned (.bool true)/\Below W.heap.size W w'/\DataW.TrodAll enc P w' 0 (fun b=>decide (b<W.heap.size)) true ts args.toList hE ps:=by
 obtain⟨cs,xL,bC,Aj⟩:=Kv (A:=fun _=>True) (fun _=>trivial) av (fun j t v a3 aq=>c0 j t v a3 (by simpa using aq)) h;exact (YZ k4 ky (YY cs xL) aA (by rw[bC]; simp) (fun j c v ah aq=>Aj j c v ah (by simpa using aq))).mono fun e w' ⟨ao,ag⟩=>⟨ao,ag,Rc WS ag cX h⟩
end Go.ca

namespace Go.ca
open Go
section
variable (P:Program)
end
def SC (x:U) :Option Int:=match x with
 | .int k i=>match k with | .i64=>some i | _=>none
 | _=>none
def Ys (z:Nat) (cs vs:List U) (i len:Nat) :List U:=cs.take (i*z)++vs++(cs.drop (i*z)).take ((len - i)*z)++cs.drop ((len+1)*z)
def Yt (z by_:Nat) (h:aW) (s:U) (i:Nat) (BU:Nat) (vs:List U) :Option (U × aW) :=match s with
 | .aK=>if i=0/\by_<=cF then some (.ar z h.n 0 1 1 z,h.push (.cells z vs)) else none
 | .ar gc b off len cap sz=>match h.f b with
  | .cells m cs=>if m=cap*z/\sz=cap*z/\gc=z/\off=0/\BU≠b/\i<=len/\len<=cap/\(len+1)*by_<=cF then
    some (.ar z h.n 0 (len+1) (max cap (len+1)) (max cap (len+1)*z),(h.set b .dead).push (.cells (max cap (len+1)*z) (Ys z cs vs i len))) else none
  | _=>none
 | _=>none
def Yr (z by_:Nat) (args:List U) (h:aW) :Option (U × aW) :=match args with
 | [s,x,y]=>match SC x,y with
  | some i,.ar fb BU hl bt ce i4=>match h.f BU with
   | .cells dy vs=>if fb=z/\hl=0/\bt=1/\ce=1/\i4=z/\dy=z/\0<=i then Yt z by_ h s i.toNat BU vs else none
   | _=>none
  | _,_=>none
 | _=>none
class R6 (P:Program) (G:Nat->U) where
 get:FuncId->Option (Nat × Nat)
 ok:∀ f z by_,get f=some (z,by_)->∀ args h r h',Yr z by_ args h=some (r,h')->yF P G f args h r h'
instance (priority:=10) aiX (P:Program) (G:Nat->U) :R6 P G:=⟨fun _=>none,fun f z by_ h=>by cases h⟩
mutual
def aU.beq:aU->aU->Bool
 | .none,y=>match y with | .none=>true | _=>false
 | .dead,y=>match y with | .dead=>true | _=>false
 | .cells n cs,y=>match y with | .cells hX cs'=>Nat.beq n hX&&e0 cs cs' | _=>false
 | .map ..,_=>false
 | .iter ..,_=>false
end

section
variable (P:Program) (G:Nat->U)
end

end Go.ca

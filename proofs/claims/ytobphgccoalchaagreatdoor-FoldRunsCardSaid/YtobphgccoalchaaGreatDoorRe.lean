/-
  The canonical machine, part X: what must hold behind code without types holds behind the code.
-/
import Derived.Test.YtobphgccoalchaaGreatDoorRd
import GoSem.ClaimChange
import GoSem.ClaimWide
import Derived.ProofKit
set_option linter.unusedVariables false
set_option linter.unusedSimpArgs false
set_option linter.unnecessarySimpa false
namespace Go.cf
open Go
section
variable {P:Program} {G:Nat->ad}
theorem P9 {op:Op} {m:eJ} (hm:nO P op=some m) (ao:lj op=false) :m.looks=true\/m.lQ=true:=by
 cases op<;>simp only[lj,au4,reduceCtorEq] at ao<;>simp only[nO] at hm<;>try (cases hm; done)
 case move=>cases hm; exact .inl rfl
 case assign=>cases hm; exact .inl rfl
 case pick=>cases hm; exact .inl rfl
 case alloc=>rw[map_some] at hm; obtain⟨_,_,rfl⟩:=hm; exact .inr rfl
 case box=>cases hm; exact .inr rfl
 case build=>simp only[bind_some,map_some] at hm; obtain⟨_,_,_,_,rfl⟩:=hm; exact .inl rfl
 case buildSlice=>simp only[bind_some,iS] at hm; obtain⟨_,_,_,_,_,_,_,rfl⟩:=hm; exact .inr rfl
 case load=>split at hm<;>cases hm<;>exact .inl rfl
 case nilCheck=>cases hm; exact .inl rfl
 case binOp=>cases hm; exact .inl rfl
 case unOp=>cases hm; exact .inl rfl
 case convert=>
  repeat' split at hm
  all_goals first | (cases hm; done) | (cases hm; exact .inl rfl)
 case makeInterface=>split at hm<;>cases hm; exact .inl rfl
 case makeFunc f a b=>cases f<;>simp only at hm<;>cases hm; exact .inl rfl
 case makeSlice=>simp only[bind_some,iS] at hm; obtain⟨_,_,_,_,_,_,_,_,_,rfl⟩:=hm; exact .inr rfl
 case slice=>rw[map_some] at hm; obtain⟨_,_,rfl⟩:=hm; exact .inl rfl
 case fieldAddr=>rw[bind_some] at hm; obtain⟨_,_,hm⟩:=hm; split at hm<;>cases hm; exact .inl rfl
 case field=>rw[bind_some] at hm; obtain⟨_,_,hm⟩:=hm; split at hm<;>cases hm<;>exact .inl rfl
 case indexAddr=>split at hm<;>cases hm<;>exact .inl rfl
 case index=>
  repeat' split at hm
  all_goals first | (cases hm; done) | (cases hm; exact .inl rfl)
 case extract=>cases hm; exact .inl rfl
 case call c=>
  split at hm
  ·rename_i b ag;rw[ag] at ao;cases b<;>simp only[au4,reduceCtorEq] at ao<;>unfold vV at hm<;>(repeat' split at hm)<;>first
    | (cases hm; done)
    | (cases hm; exact .inl rfl)
    | (rw[map_some] at hm; obtain⟨_,_,rfl⟩:=hm; exact .inl rfl)
    | (exfalso; simp only[reduceCtorEq] at *; done)
  ·rename_i f aD;rw[aD] at ao; cases ao
  ·cases hm
theorem Qa {op:Op} {m:eJ} (hm:nO P op=some m) (aJ:tQ P op=false) :m.reads=false/\m.lQ=false:=by
 cases op<;>simp only[tQ,au4,reduceCtorEq] at aJ<;>simp only[nO] at hm<;>try (cases hm; done)
 case move=>cases hm; exact⟨rfl,rfl⟩
 case assign=>cases hm; exact⟨rfl,rfl⟩
 case pick=>cases hm; exact⟨rfl,rfl⟩
 case build=>simp only[bind_some,map_some] at hm; obtain⟨_,_,_,_,rfl⟩:=hm; exact⟨rfl,rfl⟩
 case store=>rw[map_some] at hm; obtain⟨_,_,rfl⟩:=hm; exact⟨rfl,rfl⟩
 case nilCheck=>cases hm; exact⟨rfl,rfl⟩
 case binOp=>cases hm; exact⟨rfl,rfl⟩
 case unOp=>cases hm; exact⟨rfl,rfl⟩
 case makeInterface=>split at hm<;>cases hm; exact⟨rfl,rfl⟩
 case makeFunc f a b=>cases f<;>simp only at hm<;>cases hm; exact⟨rfl,rfl⟩
 case typeAssert=>rw[map_some] at hm; obtain⟨_,_,rfl⟩:=hm; exact⟨rfl,rfl⟩
 case slice=>rw[map_some] at hm; obtain⟨_,_,rfl⟩:=hm; exact⟨rfl,rfl⟩
 case fieldAddr=>rw[bind_some] at hm; obtain⟨_,_,hm⟩:=hm; split at hm<;>cases hm; exact⟨rfl,rfl⟩
 case field=>rw[bind_some] at hm; obtain⟨_,_,hm⟩:=hm; split at hm<;>cases hm<;>exact⟨rfl,rfl⟩
 case indexAddr=>split at hm<;>cases hm<;>exact⟨rfl,rfl⟩
 case index=>
  repeat' split at hm
  all_goals first | (cases hm; done) | (cases hm; exact⟨rfl,rfl⟩)
 case extract=>cases hm; exact⟨rfl,rfl⟩
 case next it b=>cases b<;>simp only[reduceCtorEq] at hm<;>cases hm; exact⟨rfl,rfl⟩
 case panic=>cases hm; exact⟨rfl,rfl⟩
 case lookup=>split at hm<;>(try cases hm; done); rw[map_some] at hm; obtain⟨_,_,rfl⟩:=hm; exact⟨rfl,rfl⟩
 case mapUpdate=>split at hm<;>cases hm; exact⟨rfl,rfl⟩
 case insert=>split at hm<;>cases hm; exact⟨rfl,rfl⟩
 case makeMap=>split at hm<;>cases hm; exact⟨rfl,rfl⟩
 case range=>split at hm<;>cases hm; exact⟨rfl,rfl⟩
 case call c=>
  split at hm
  ·rename_i b ag;rw[ag] at aJ;unfold vV at hm
   repeat' split at hm
   all_goals first
    | (cases hm; done)
    | (exfalso; simp_all; done)
    | (cases hm; exact⟨rfl,rfl⟩)
    | (simp only[bind_some,map_some] at hm; obtain⟨_,_,rfl⟩:=hm; exact⟨rfl,rfl⟩)
    | (simp only[bind_some,map_some] at hm; obtain⟨_,_,_,_,rfl⟩:=hm; exact⟨rfl,rfl⟩)
    | (simp only[bind_some,iS] at hm; obtain⟨_,_,_,_,_,_,_,rfl⟩:=hm; exact⟨rfl,rfl⟩)
    | (simp only[bind_some,iS] at hm; obtain⟨_,_,_,_,_,_,_,_,_,rfl⟩:=hm; exact⟨rfl,rfl⟩)
  ·split at hm
   ·rw[iS] at hm; obtain⟨_,rfl⟩:=hm; exact⟨rfl,rfl⟩
   ·cases hm
  ·cases hm
inductive nG (P:Program) (G:Nat->ad) (s:e0) (o:Oper) (af:bi) (l:ap) (v:ad) (l1:ap) :bV->Prop
 | pure (m:eJ) (ag:s.b=.ig m) (hm:m.looks=true) (am:l1=l) (ak:b5 P (dR G af) l m=some (v,l)) :nG P G s o af l v l1 (.pure s.i v)
 | new (m:eJ) (cs:List ad) (ag:s.b=.ig m) (hm:m.lQ=true) (am:l1=l++[.cells cs.length cs]) :nG P G s o af l v l1 (.new s.i v cs)
 | gT (ao:lj o.op=true) (bn:l.length<=l1.length) :nG P G s o af l v l1 (.gT s.i v (b8 l1))
theorem nG.idx {s:e0} {o:Oper} {af:bi} {l l1:ap} {v:ad} {t:bV} (k:nG P G s o af l v l1 t) :t.idx=s.i:=by cases k<;>rfl
theorem nG.val {s:e0} {o:Oper} {af:bi} {l l1:ap} {v:ad} {t:bV} (k:nG P G s o af l v l1 t) :t.val=v:=by cases k<;>rfl
theorem nG.next {s:e0} {o:Oper} {af:bi} {l l1:ap} {v:ad} {t:bV} (k:nG P G s o af l v l1 t) :qW (b8 l) t=b8 l1:=by
 cases k with
 | pure m ag hm am ak=>rw[am]; rfl
 | new m cs ag hm am=>rw[am,<-ng]; rfl
 | gT ao _=>rfl
theorem ajG {ops:Array Oper} {s:e0} {o:Oper} (ok:p3 P ops s o) {af:bi} (hw:lv ops af o=some true) {l:ap} {K:ad->ap->Prop} (h:iI P G s.b af l K) :
  ∃ v l1 t,nG P G s o af l v l1 t/\xP P G ops ⟨af,b8 l⟩ t/\K v l1:=by
 obtain⟨v,l1,h1,ae,al,aE⟩:=WI ok h;have lE:lj o.op=true->∃ v l1 t,nG P G s o af l v l1 t/\xP P G ops ⟨af,b8 l⟩ t/\K v l1:=fun ao=>⟨v,l1,_,.gT ao ae,⟨o,ok.here,hw,h1,by simpa using ae⟩,al⟩
 cases ag:s.b with
 | ig m=>
  have hm:=ok.ig m ag;cases ao:lj o.op with
  | true=>exact lE ao
  | false=>
   have ak:=aE m ag (P9 hm ao);rcases P9 hm ao with am | aF
   ·have:=af8 am ak;subst this;exact⟨v,l1,_,.pure m ag am rfl ak,⟨o,ok.here,hw⟩,al⟩
   ·obtain⟨cs,mk,aU,bz,dy⟩:=agr hm aF ak;exact⟨v,l1,_,.new m cs ag aF dy,⟨o,mk,ok.here,hw,aU,bz⟩,al⟩
 | ox f args=>
  obtain⟨c,fC,ah,_⟩:=ok.ox f args ag;exact lE (by rw[fC]; simp only[lj,ah])
 | pd x args=>
  obtain⟨c,fC,ah,_⟩:=ok.pd x args ag;exact lE (by rw[fC]; simp only[lj,ah])
 | p8 x name args=>
  obtain⟨c,fC,ah,_⟩:=ok.p8 x name args ag;exact lE (by rw[fC]; simp only[lj,ah])
inductive k2 (P:Program) (G:Nat->ad) (ops:Array Oper) :List e0->bi->ap->jQ->List (bV × bi × ap)->bi->ap->Prop
 | nil {af l seen}:k2 P G ops [] af l seen [] af l
 | skip {s o r af l seen es b7 l'}:p3 P ops s o->lv ops af o=some false->k2 P G ops r (h3 af s.dst jg) l seen es b7 l'->k2 P G ops (s::r) af l seen ((.skip s.i,af,l) ::es) b7 l'
 | step {s o r af l v l1 t seen es b7 l'}:p3 P ops s o->nG P G s o af l v l1 t->xP P G ops ⟨af,b8 l⟩ t->sL s.h7 seen l1->
   k2 P G ops r (h3 af s.dst v) l1 (tN s.cy s.i (om P G s.b af v l l1) seen) es b7 l'->k2 P G ops (s::r) af l seen ((t,af,l) ::es) b7 l'
theorem NP {ops:Array Oper} {K:bi->ap->Prop}:∀ {s:List e0} {af:bi} {l:ap} {seen:jQ},(∀ x∈s,∃ o,p3 P ops x o)->l2 P G s af l seen K->∃ es b7 l',k2 P G ops s af l seen es b7 l'/\K b7 l'
 | [],af,l,seen,_,h=>⟨[],af,l,.nil,h⟩
 | s::r,af,l,seen,da,h=>by
  obtain⟨o,ok⟩:=da s (by simp);rcases T3 ok h with ⟨hw,h⟩ | ⟨hw,h⟩
  ·obtain⟨v,l1,t,h1,ae,al,aE⟩:=ajG ok hw h;obtain⟨es,b7,l',aU,bz⟩:=NP (fun x ai=>da x (by simp[ai])) aE;exact⟨_,b7,l',.step ok h1 ae al aU,bz⟩
  ·obtain⟨es,b7,l',aU,bz⟩:=NP (fun x ai=>da x (by simp[ai])) h;exact⟨_,b7,l',.skip ok hw aU,bz⟩
theorem NQ {K:bi->ap->Prop}:∀ {s:List e0} {af:bi} {l:ap},(∀ x∈s,x.cy=false)->lp P G s af l K->l2 P G s af l [] K
 | [],af,l,_,h=>h
 | s::r,af,l,hk,h=>by
  have mono:∀ (b:xH) (K gY:ad->ap->Prop),(∀ v l,K v l->gY v l)->iI P G b af l K->iI P G b af l gY:=by
   intro b K gY bl h;cases b with
   | ig m=>simp only[iI,E0] at h ⊢; obtain⟨v,h1,ae⟩:=h; exact⟨v,h1,T6 bl ae⟩
   | ox f args=>obtain⟨r,l',h1,ae,al⟩:=h; exact⟨r,l',h1,ae,bl _ _ al⟩
   | pd x args=>
    simp only[iI,zX] at h ⊢;split at h
    ·obtain⟨aB,r,l',h1,ae,al⟩:=h; exact⟨aB,r,l',h1,ae,bl _ _ al⟩
    ·cases h
   | p8 x name args=>
    simp only[iI,zW] at h ⊢;split at h
    ·split at h
     ·obtain⟨aB,r,l',h1,ae,al⟩:=h; exact⟨aB,r,l',h1,ae,bl _ _ al⟩
     ·cases h
    ·cases h
  have abs:∀ (g:Option (Option Tmp × Bool)) (p q bZ fS:Prop),(p->bZ)->(q->fS)->tp af g p q->tp af g bZ fS:=by
   intro g p q bZ fS aC bd h;unfold tp at h ⊢;split at h
   ·exact aC h
   ·rename_i d w;simp only[tn] at h ⊢;split at h
    ·rw[DQ] at h ⊢;rcases h with ⟨a,b⟩ | ⟨a,b⟩
     ·exact .inl ⟨a,aC b⟩
     ·exact .inr ⟨a,bd b⟩
    ·cases h
    ·exact bd h
   ·exact bd h
  have rQ:s.cy=false:=hk s (by simp);refine abs _ _ _ _ _ (mono _ _ _ fun v l' h=>?_) (fun h=>NQ (fun x ai=>hk x (by simp[ai])) h) h;refine⟨trivial,?_⟩;rw[rQ];exact NQ (fun x ai=>hk x (by simp[ai])) h
theorem nG.len {s:e0} {o:Oper} {af:bi} {l l1:ap} {v:ad} {t:bV} (k:nG P G s o af l v l1 t) :l.length<=l1.length:=by
 cases k with
 | pure m ag hm am ak=>rw[am]; exact ar0 _
 | new m cs ag hm am=>rw[am]; simp
 | gT ao bn=>exact bn
theorem k2.len {ops:Array Oper} {s:List e0} {af b7:bi} {l l' : ap} {seen:jQ} {es:List (bV × bi × ap)} (h:k2 P G ops s af l seen es b7 l') :l.length<=l'.length:=by
 induction h with
 | nil=>exact ar0 _
 | skip _ _ _ aO=>exact aO
 | step _ k _ _ _ aO=>exact ati k.len aO
def uH (es:List (bV × bi × ap)) (l' : ap) (q:Nat) :ap:=match es[q]? with | some x=>x.2.2 | none=>l'
theorem k2.here {ops:Array Oper} {s:List e0} {af b7:bi} {l l' : ap} {seen:jQ} {es:List (bV × bi × ap)} (h:k2 P G ops s af l seen es b7 l') :uH es l' 0=l:=by
 cases h<;>rfl
theorem k2.idx {ops:Array Oper} {s:List e0} {af b7:bi} {l l' : ap} {seen:jQ} {es:List (bV × bi × ap)} (h:k2 P G ops s af l seen es b7 l') :es.map (fun e=>e.1.idx)=s.map (·.i) :=by
 induction h with
 | nil=>rfl
 | skip _ _ _ aO=>simp only[ast,aO]; rfl
 | step _ k _ _ _ aO=>simp only[ast,aO,k.idx]
theorem k2.at {ops:Array Oper} {s:List e0} {af b7:bi} {l l' : ap} {seen:jQ} {es:List (bV × bi × ap)} (h:k2 P G ops s af l seen es b7 l') :
  (∀ (p:Nat) (e:bV × bi × ap),es[p]? = some e->xP P G ops ⟨e.2.1,b8 e.2.2⟩ e.1/\hc ops ⟨af,b8 l⟩ (es.map (·.1)) p=⟨e.2.1,b8 e.2.2⟩)/\hc ops ⟨af,b8 l⟩ (es.map (·.1)) es.length=⟨b7,b8 l'⟩:=by
 induction h with
 | nil=>exact⟨fun p e ao=>by simp at ao,rfl⟩
 | @skip s o r af l seen es b7 l' ok hw _ aO=>
  have hg:m6 ops ⟨af,b8 l⟩ (.skip s.i)=⟨h3 af s.dst jg,b8 l⟩:=by simp only[m6,x2,bV.idx,ok.here,atM,bV.val,qW,ok.dst]
  refine⟨fun p e ao=>?_,?_⟩
  ·cases p with
   | zero=>simp only[asw,Option.some.injEq] at ao; subst ao; exact⟨⟨o,ok.here,hw⟩,rfl⟩
   | succ p=>
    simp only[asP] at ao;obtain⟨h1,ae⟩:=aO.1 p e ao;refine⟨h1,?_⟩;rw[ast,IE,hg]; exact ae
  ·rw[ast,asp,IE,hg]; exact aO.2
 | @step s o r af l v l1 t seen es b7 l' ok k ak ah _ aO=>
  have hg:m6 ops ⟨af,b8 l⟩ t=⟨h3 af s.dst v,b8 l1⟩:=by simp only[m6,x2,k.idx,ok.here,atM,k.val,k.next,ok.dst]
  refine⟨fun p e ao=>?_,?_⟩
  ·cases p with
   | zero=>simp only[asw,Option.some.injEq] at ao; subst ao; exact⟨ak,rfl⟩
   | succ p=>
    simp only[asP] at ao;obtain⟨h1,ae⟩:=aO.1 p e ao;refine⟨h1,?_⟩;rw[ast,IE,hg]; exact ae
  ·rw[ast,asp,IE,hg]; exact aO.2
theorem k2.still {ops:Array Oper} {s:List e0} {af b7:bi} {l l' : ap} {seen:jQ} {es:List (bV × bi × ap)} (h:k2 P G ops s af l seen es b7 l') (j:Nat) (S:ap->Prop)
  (qy:∀ l x,S l->S (l++x)) (aB:S l) :∀ q,q<=es.length->(∀ (p:Nat) (e:bV × bi × ap),p<q->es[p]? = some e->e.1.j5=true->(j,S)∈seen/\∃ x,s[p]? = some x/\j∈x.h7)->S (uH es l' q) :=by
 have Zv:∀ {ids:List Nat} {seen:jQ} {l:ap},sL ids seen l->(j,S)∈seen->j∈ids->S l:=by
  intro ids seen l ah hm ax
  induction seen with
  | nil=>cases hm
  | cons e r aO=>
   obtain⟨h1,ae⟩:=ah;rcases as0.1 hm with rfl | hm
   ·exact h1 (by simpa using ax)
   ·exact aO ae hm
 induction h with
 | nil=>
  intro q bd _; simp only[asU] at bd; obtain rfl:q=0:=by omega
  exact aB
 | @skip s o r af l seen es b7 l' ok hw _ aO=>
  intro q bd Aw;cases q with
  | zero=>exact aB
  | succ q=>exact aO aB q (by simpa using bd) (fun p e aC ao ff=>by
    obtain⟨h1,x,ae,al⟩:=Aw (p+1) e (by omega) (by simpa using ao) ff;exact⟨h1,x,by simpa using ae,al⟩)
 | @step s o r af l v l1 t seen es b7 l' ok k ak ah _ aO=>
  intro q bd Aw;cases q with
  | zero=>exact aB
  | succ q=>
   have h1:S l1:=by
    cases k with
    | pure m ag hm am _=>rw[am]; exact aB
    | new m cs ag hm am=>rw[am]; exact qy _ _ aB
    | gT ao _=>
     obtain⟨h1,x,ae,al⟩:=Aw 0 _ (by omega) rfl rfl;simp only[asw,Option.some.injEq] at ae;subst ae;exact Zv ah h1 al
   refine aO h1 q (by simpa using bd) (fun p e aC ao ff=>?_);obtain⟨h1,x,ae,al⟩:=Aw (p+1) e (by omega) (by simpa using ao) ff;refine⟨?_,x,by simpa using ae,al⟩;unfold tN;cases s.cy with
   | false=>exact h1
   | true=>exact auS _ h1
theorem k2.split {ops:Array Oper} {s:List e0} {af b7:bi} {l l' : ap} {seen:jQ} {es:List (bV × bi × ap)} (h:k2 P G ops s af l seen es b7 l') :∀ (p:Nat) (e:bV × bi × ap),es[p]? = some e->e.1.uY=false->
  ∃ x o v l1 xp,s[p]? = some x/\p3 P ops x o/\nG P G x o e.2.1 e.2.2 v l1 e.1 ∧
   k2 P G ops (s.drop (p+1)) (h3 e.2.1 x.dst v) l1 (tN x.cy x.i (om P G x.b e.2.1 v e.2.2 l1) xp) (es.drop (p+1)) b7 l':=by
 induction h with
 | nil=>intro p e ao; simp at ao
 | @skip s o r af l seen es b7 l' ok hw _ aO=>
  intro p e ao hh;cases p with
  | zero=>simp only[asw,Option.some.injEq] at ao; subst ao; cases hh
  | succ p=>
   obtain⟨x,ck,v,l1,xp,h1,ae,al,aE⟩:=aO p e (by simpa using ao) hh;exact⟨x,ck,v,l1,xp,by simpa using h1,ae,al,by simpa using aE⟩
 | @step s o r af l v l1 t seen es b7 l' ok k ak ah tr aO=>
  intro p e ao hh;cases p with
  | zero=>
   simp only[asw,Option.some.injEq] at ao; subst ao;exact⟨s,o,v,l1,seen,rfl,ok,k,by simpa using tr⟩
  | succ p=>
   obtain⟨x,ck,v,l1,xp,h1,ae,al,aE⟩:=aO p e (by simpa using ao) hh;exact⟨x,ck,v,l1,xp,by simpa using h1,ae,al,by simpa using aE⟩
end

section
variable {P:Program} {G:Nat->ad}
theorem Vb {ms:List Nat} {ops:Array Oper}:∀ (kY done lE:List Nat),(∀ i∈kY,i<ops.size)->(oS P ms ops kY done lE).map (·.1)=kY
 | [],_,_,_=>rfl
 | i::r,done,lE,h=>by
  unfold oS;have ax:i<ops.size:=h i (by simp);rw[atz ax];simp only;split<;>simp only[ast]<;>rw[Vb r _ _ fun j aj=>h j (by simp[aj])]
theorem Nl {ms:List Nat} {ops:Array Oper}:∀ (kY done lE:List Nat) (p i:Nat) (h7:List Nat),(∀ i∈kY,i<ops.size)->(oS P ms ops kY done lE)[p]? = some (i,h7)->
  (∃ o,ops[i]? = some o/\lj o.op=true)->∀ j,(j∈done\/∃ fh,fh<p/\kY[fh]? = some j)->(∃ o,ops[j]? = some o/\tQ P o.op=true)->(∀ e∈lE,pL ms e j=false)->
  (∀ (bZ j2:Nat) (o:Oper),bZ<=p->kY[bZ]? = some j2->ops[j2]? = some o->lj o.op=true->(bZ=p\/o.guard=none)->pL ms j2 j=false)->j∈h7
 | [],done,lE,p,i,h7,_,aC,_,_,_,_,_,_=>by simp[oS] at aC
 | x::r,done,lE,p,i,h7,n4,aC,ao,j,aj,aJ,GG,AW=>by
  unfold oS at aC;have ai:x<ops.size:=n4 x (by simp);rw[atz ai] at aC;have LH:ops[x]? = some ops[x] :=atz ai;simp only at aC;have aA:∀ i∈r,i<ops.size:=fun j aj=>n4 j (by simp[aj])
  cases ff:lj ops[x].op with
  | true=>
   rw[ff] at aC;simp only at aC;cases p with
   | zero=>
    simp only[asw,Option.some.injEq,Prod.mk.injEq] at aC;obtain⟨rfl,rfl⟩:=aC;obtain⟨o,h1,ae⟩:=aJ;rcases aj with aj | ⟨fh,S8,_⟩
    ·refine as6.2 ⟨aj,?_⟩;simp only[h1,ae,asM,avA,ar3,asZ];exact⟨by simp[AW 0 x ops[x] (ar0 _) (by simp) LH ff (.inl rfl)],fun e ao=>by simp[GG e ao]⟩
    ·omega
   | succ p=>
    simp only[asP] at aC;refine Nl r _ _ p i h7 aA aC ao j ?_ aJ ?_ ?_
    ·rcases aj with aj | ⟨fh,S8,aj⟩
     ·exact .inl (by simp[aj])
     ·cases fh with
      | zero=>simp only[asw,Option.some.injEq] at aj; exact .inl (by simp[aj])
      | succ fh=>exact .inr ⟨fh,by omega,by simpa using aj⟩
    ·intro e gd;cases ar:ops[x].guard with
     | none=>
      rw[ar] at gd;rcases as0.1 gd with rfl | gd
      ·exact AW 0 e ops[e] (by omega) (by simp) LH ff (.inr ar)
      ·exact GG e gd
     | some lS=>rw[ar] at gd; exact GG e gd
    ·intro bZ j2 o gy gi aq yf ar;exact AW (bZ+1) j2 o (by omega) (by simpa using gi) aq yf (by rcases ar with rfl | ar; exact .inl rfl; exact .inr ar)
  | false=>
   rw[ff] at aC;simp only at aC;cases p with
   | zero=>
    simp only[asw,Option.some.injEq,Prod.mk.injEq] at aC;obtain⟨rfl,rfl⟩:=aC;obtain⟨o,h1,ae⟩:=ao;rw[LH] at h1; cases h1;rw[ff] at ae; cases ae
   | succ p=>
    simp only[asP] at aC;refine Nl r _ _ p i h7 aA aC ao j ?_ aJ GG ?_
    ·rcases aj with aj | ⟨fh,S8,aj⟩
     ·exact .inl (by simp[aj])
     ·cases fh with
      | zero=>simp only[asw,Option.some.injEq] at aj; exact .inl (by simp[aj])
      | succ fh=>exact .inr ⟨fh,by omega,by simpa using aj⟩
    ·intro bZ j2 o gy gi aq yf ar;exact AW (bZ+1) j2 o (by omega) (by simpa using gi) aq yf (by rcases ar with rfl | ar; exact .inl rfl; exact .inr ar)
theorem Qo {ms:List Nat} {ops:Array Oper}:∀ {kY:List Nat},CD ms ops kY=true->∀ (p bZ i j:Nat) (o:Oper),kY[p]? = some i->kY[bZ]? = some j->p<bZ->ops[i]? = some o->lj o.op=true->pL ms j i=true
 | [],_,p,bZ,i,j,o,aC,_,_,_,_=>by simp at aC
 | x::r,h,p,bZ,i,j,o,aC,gy,aM,aq,ao=>by
  simp only[CD,ar3] at h;cases bZ with
  | zero=>omega
  | succ bZ=>
   simp only[asP] at gy;cases p with
   | zero=>
    simp only[asw,Option.some.injEq] at aC;subst aC;rw[aq] at h;simp only[ao,Bool.not_true,aur,asZ] at h;exact h.1 j (ar4 gy)
   | succ p=>exact Qo h.2 p bZ i j o (by simpa using aC) gy (by omega) aq ao
theorem HR {α kA:Type} {f:α->Option kA}:∀ {l:List α} {r:List kA},l.mapM f=some r->∀ (p:Nat) (x:kA),r[p]? = some x->∃ a,l[p]? = some a/\f a=some x
 | [],r,h,p,x,ai=>by simp at h; subst h; simp at ai
 | a::l,r,h,p,x,ai=>by
  rw[atO] at h;simp only[Option.bind_eq_bind,bind_some,at0,Option.some.injEq] at h;obtain⟨b,h1,dI,ae,rfl⟩:=h;cases p with
  | zero=>simp only[asw,Option.some.injEq] at ai; subst ai; exact⟨a,rfl,h1⟩
  | succ p=>obtain⟨fc,al,aE⟩:=HR ae p x (by simpa using ai); exact⟨fc,by simpa using al,aE⟩
theorem MU {α kA:Type} {f:α->Option kA}:∀ {l:List α} {r:List kA},l.mapM f=some r->r.length=l.length
 | [],r,h=>by simp at h; subst h; rfl
 | a::l,r,h=>by
  rw[atO] at h;simp only[Option.bind_eq_bind,bind_some,at0,Option.some.injEq] at h;obtain⟨b,h1,dI,ae,rfl⟩:=h;simp[MU ae]
theorem acU (es:List (bV × bi × ap)) (l' : ap) (n q:Nat) :uH (es.drop n) l' q=uH es l' (n+q) :=by
 unfold uH; rw[asE]
theorem aac {id N' : Nat} {ops:Array Oper} {xu:List e0} (bN:∀ (i:Nat) (o:Oper),ops[i]? = some o->qf N' o.dst=true)
  (n4:M8 (jb ops) ops (fU (jb ops) ops)=true) (acT:CD (jb ops) ops (fU (jb ops) ops)=true)
  (b1:(oS P (jb ops) ops (fU (jb ops) ops) [] []).mapM (fun p=>EA P ops p.1 p.2 (((oS P (jb ops) ops (fU (jb ops) ops) [] []).flatMap (·.2)).contains p.1))=some xu)
  {af b7:bi} {l l' : ap} {es:List (bV × bi × ap)} (tr:k2 P G ops xu af l [] es b7 l') :dL P G (.code (.region id ops true) N' af (b8 l) .normal b7 (b8 l')) :=by
 simp only[M8,ar3] at n4;obtain⟨⟨⟨⟨tw,gP⟩,sh⟩,si⟩,jH⟩:=n4;have LS:∀ i∈fU (jb ops) ops,i<ops.size:=fun i ax=>by
  rw[asZ] at si;simpa [avz] using si i ax
 have Tc:(oS P (jb ops) ops (fU (jb ops) ops) [] []).map (·.1)=fU (jb ops) ops:=Vb _ _ _ LS;have Hf:∀ (p:Nat) (x:e0),xu[p]? = some x->∃ o,p3 P ops x o/\(oS P (jb ops) ops (fU (jb ops) ops) [] [])[p]? = some (x.i,x.h7) ∧
   x.cy=((oS P (jb ops) ops (fU (jb ops) ops) [] []).flatMap (·.2)).contains x.i:=fun p x ai=>by
  obtain⟨a,h1,ae⟩:=HR b1 p x ai;obtain⟨o,al,aE,aU,bz⟩:=IF ae;exact⟨o,al,by rw[h1,aE,aU],by rw[bz,aE]⟩
 have Tr:∀ (p:Nat) (x:e0),xu[p]? = some x->(fU (jb ops) ops)[p]? = some x.i:=fun p x ai=>by
  obtain⟨o,_,h1,_⟩:=Hf p x ai;rw[<-Tc,ar5,h1]; rfl
 have wz:∀ (p:Nat) (e:bV × bi × ap),es[p]? = some e->∃ x,xu[p]? = some x/\x.i=e.1.idx:=fun p e ao=>by
  have:=congrArg (·[p]?) tr.idx;simp only[ar5,ao,asb] at this;cases ai:xu[p]? with
  | none=>rw[ai] at this; cases this
  | some x=>rw[ai] at this; simp only[asb,Option.some.injEq] at this; exact⟨x,rfl,this.symm⟩
 have s9:∀ (p:Nat) (e:bV × bi × ap),es[p]? = some e->(fU (jb ops) ops)[p]? = some e.1.idx:=fun p e ao=>by
  obtain⟨x,h1,ae⟩:=wz p e ao;rw[Tr p x h1,ae]
 have ec:∀ (p:Nat) (t:bV),(es.map (·.1))[p]? = some t->∃ e,es[p]? = some e/\e.1=t:=fun p t aJ=>by simpa using aJ
 have ys:∀ (p:Nat) (e:bV × bi × ap),es[p]? = some e->e.1.j5=true->∃ o,ops[e.1.idx]? = some o/\lj o.op=true/\(lv ops e.2.1 o=some true) :=fun p e ao ff=>by
  have hh:e.1.uY=false:=by cases h:e.1<;>rw[h] at ff<;>first | rfl | cases ff
  obtain⟨x,o,v,l1,xp,h1,ae,al,aE⟩:=tr.split p e ao hh;have wM:=(tr.at.1 p e ao).1;have fF:=al.idx;have aH:=ae.here;rw[<-fF] at aH;refine⟨o,aH,?_,?_⟩
  ·revert ff;generalize e.1=t at al;intro ff;cases al with
   | pure=>cases ff
   | new=>cases ff
   | gT ao _=>exact ao
  ·revert wM ff aH;generalize e.1=t;intro ff wM aH;cases t<;>first | (cases ff; done) | skip
   obtain⟨ck,aU,bz,_⟩:=wM;simp only[bV.idx] at aH;rw[aH] at aU; cases aU;exact bz
 have gG:zL ops (pL (jb ops)) (es.map (·.1)) :=by
  refine⟨Z8 tw,fun i ax=>?_,fun p bZ t gH aC gy ao=>?_,fun p t aC=>?_,fun p bZ t gH aC gy aM=>?_,fun p bZ t gH aC gy aM ff=>?_⟩
  ·rw[asZ] at jH;have:=jH i (by simpa using ax);have hm:i∈fU (jb ops) ops:=by simpa using this
   have lK:(es.map (·.1)).map bV.idx=fU (jb ops) ops:=by
    rw[atV];show es.map (fun e=>e.1.idx)=_;rw[tr.idx,<-Tc];apply asY;intro p;rw[ar5,ar5];cases ai:xu[p]? with
    | none=>
     have:(oS P (jb ops) ops (fU (jb ops) ops) [] [])[p]? = none:=by
      rw[aut] at ai ⊢;rw[<-MU b1]; exact ai
     rw[this]; rfl
    | some x=>obtain⟨o,_,h1,_⟩:=Hf p x ai; rw[h1]; rfl
   rw[<-lK] at hm;obtain⟨t,h1,ae⟩:=asr.1 hm;obtain⟨p,aC⟩:=at1 h1;exact⟨p,t,aC,ae⟩
  ·obtain⟨e,aL,aT⟩:=ec p t aC;obtain⟨fE,us,CK⟩:=ec bZ gH gy;have aX:=s9 p e aL;have bg:=s9 bZ fE us;rw[aT] at aX; rw[CK] at bg;rcases atq p bZ with h | h | h
   ·exact absurd ao (H9 gP p bZ _ _ aX bg h).1
   ·exact h
   ·exact absurd ao.symm (H9 gP bZ p _ _ bg aX h).1
  ·obtain⟨e,aL,aT⟩:=ec p t aC;have aX:=s9 p e aL;rw[aT] at aX;exact LS _ (ar4 aX)
  ·obtain⟨e,aL,aT⟩:=ec p t aC;obtain⟨fE,us,CK⟩:=ec bZ gH gy;have aX:=s9 p e aL;have bg:=s9 bZ fE us;rw[aT] at aX; rw[CK] at bg;exact (H9 gP p bZ _ _ aX bg aM).2
  ·obtain⟨e,aL,aT⟩:=ec p t aC;obtain⟨fE,us,CK⟩:=ec bZ gH gy;obtain⟨o,dx,di,_⟩:=ys p e aL (by rw[aT]; exact ff);have aX:=s9 p e aL;have bg:=s9 bZ fE us;rw[aT] at aX dx; rw[CK] at bg;exact Qo acT p bZ _ _ o aX bg aM dx di
 have kN:∀ q,q<=es.length->(hc ops ⟨af,b8 l⟩ (es.map (·.1)) q).h=b8 (uH es l' q) :=fun q bd=>by
  unfold uH;cases ao:es[q]? with
  | none=>
   have:q=es.length:=by rw[aut] at ao; omega
   rw[this,tr.at.2]
  | some e=>rw[(tr.at.1 q e ao).2]
 have rb:Je P G ops (pL (jb ops)) ⟨af,b8 l⟩ (es.map (·.1)) :=by
  refine⟨fun p t aC=>?_,fun q bd p t aor aC dY=>?_⟩
  ·obtain⟨e,aL,aT⟩:=ec p t aC;obtain⟨cm,dk⟩:=tr.at.1 p e aL;rw[dk,<-aT]; exact cm
  ·obtain⟨e,aL,aT⟩:=ec p t aC;obtain⟨cm,dk⟩:=tr.at.1 p e aL;have j0:q<=es.length:=by
    rcases bd with rfl | ⟨aj5,bd,_⟩
    ·simp
    ·obtain⟨eq,a7,_⟩:=ec q aj5 bd;exact atr (arY.1 a7).1
   rw[kN q j0,dk];cases hh:e.1.uY with
   | true=>rw[<-aT]; cases h:e.1<;>rw[h] at hh<;>first | trivial | cases hh
   | false=>
    obtain⟨x,o,v,l1,xp,h1,ae,al,aE⟩:=tr.split p e aL hh;obtain⟨ck,gh,gL,Df⟩:=Hf p x h1;have hZ:ck=o:=by have a:=gh.here; have b:=ae.here; rw[a] at b; exact Option.some.inj b
    subst hZ;have ask:tQ P ck.op=true->∀ (bZ:Nat) (fE:bV × bi × ap),bZ<q - (p+1)->(es.drop (p+1))[bZ]? = some fE->fE.1.j5=true->
      (x.i,om P G x.b e.2.1 v e.2.2 l1)∈tN x.cy x.i (om P G x.b e.2.1 v e.2.2 l1) xp/\∃ y,(xu.drop (p+1))[bZ]? = some y/\x.i∈y.h7:=by
     intro aJ bZ fE gy gd yf;rw[asE] at gd;obtain⟨y,ce,bI⟩:=wz _ fE gd;obtain⟨tB,cS,c5,_⟩:=Hf _ y ce;obtain⟨agM,jD,afz,aoQ⟩:=ys _ fE gd yf;have cZ:x.i∈y.h7:=by
      refine Nl _ _ _ _ _ _ LS c5 ⟨agM,by rw[bI]; exact jD,afz⟩ x.i (.inr ⟨p,by omega,Tr p x h1⟩) ⟨ck,ae.here,aJ⟩ (fun e ao=>by cases ao) ?_;intro tC Me H1 aom ade S5 F9 ar
      -- what is at p'' was carried out
      have aM:tC<es.length:=by
       have:=(arY.1 gd).1;omega
      have lK:es[tC]? = some es[tC] :=ar1 aM;have fv:=s9 _ _ lK;rw[ade] at fv;have uI:Me=es[tC].1.idx:=Option.some.inj fv;have abS:es[tC].1.j5=true:=by
       cases Dy:es[tC].1.uY with
       | true=>
        exfalso;rcases ar with rfl | ar
        ·rw[lK] at gd;cases gd;cases h:es[p+1+bZ].1<;>rw[h] at yf Dy<;>first | (cases Dy; done) | (cases yf; done)
        ·have wM:=(tr.at.1 _ _ lK).1;cases h:es[tC].1<;>rw[h] at Dy wM uI<;>first | (cases Dy; done) | skip
         obtain⟨sh,g9,lk⟩:=wM;simp only[bV.idx] at uI;rw[<-uI,S5] at g9; cases g9;simp[lv,ar] at lk
       | false=>
        obtain⟨pZ,sh,v3,ew,arq,g9,lk,w4,_⟩:=tr.split _ _ lK Dy;have adg:=w4.idx;have Sr:=lk.here;rw[<-adg,<-uI,S5] at Sr; cases Sr;revert w4;generalize es[tC].1=t3;intro w4;cases w4 with
        | pure m ag hm _ _=>
         exfalso;have ah:=lk.ig m ag;have:lj H1.op=false:=by
          revert ah hm;cases H1.op<;>simp only[nO]<;>intro hm ah<;>first | rfl | (exfalso; revert ah hm; done) | skip
          case store=>rw[map_some] at ah; obtain⟨_,_,rfl⟩:=ah; cases hm
          case call c=>
           split at ah
           ·rename_i b ag;unfold lj;simp only[ag];unfold vV at ah
            repeat' split at ah
            all_goals first
             | rfl
             | (cases ah; done)
             | (cases ah; cases hm; done)
             | (simp only[bind_some,map_some] at ah; obtain⟨_,_,rfl⟩:=ah; cases hm; done)
             | (simp only[bind_some,map_some] at ah; obtain⟨_,_,_,_,rfl⟩:=ah; cases hm; done)
             | (simp only[bind_some,iS] at ah; obtain⟨_,_,_,_,_,_,_,rfl⟩:=ah; cases hm; done)
             | (simp only[bind_some,iS] at ah; obtain⟨_,_,_,_,_,_,_,_,_,rfl⟩:=ah; cases hm; done)
           ·split at ah
            ·rw[iS] at ah; obtain⟨_,rfl⟩:=ah; cases hm
            ·cases ah
           ·cases ah
          case next it b=>(cases b<;>simp only[reduceCtorEq] at ah<;>cases ah<;>cases hm)
          case lookup=>split at ah<;>(try cases ah; done); rw[map_some] at ah; obtain⟨_,_,rfl⟩:=ah; cases hm
          case mapUpdate=>split at ah<;>cases ah; cases hm
          case insert=>split at ah<;>cases ah; cases hm
          case panic=>(cases ah; cases hm)
          case makeMap=>split at ah<;>cases ah; cases hm
          case range=>split at ah<;>cases ah; cases hm
          case typeAssert=>rw[map_some] at ah; obtain⟨_,_,rfl⟩:=ah; cases hm
          all_goals (cases ah)
         rw[this] at F9; cases F9
        | new m cs ag hm _=>
         exfalso;have ah:=lk.ig m ag;have:lj H1.op=false:=by
          revert ah hm;cases H1.op<;>simp only[nO]<;>intro hm ah<;>first | rfl | (exfalso; revert ah hm; done) | skip
          case store=>rw[map_some] at ah; obtain⟨_,_,rfl⟩:=ah; cases hm
          case panic=>(cases ah; cases hm)
          case call c=>
           split at ah
           ·rename_i b ag;unfold lj;simp only[ag];unfold vV at ah
            repeat' split at ah
            all_goals first
             | rfl
             | (cases ah; done)
             | (cases ah; cases hm; done)
             | (simp only[bind_some,map_some] at ah; obtain⟨_,_,rfl⟩:=ah; cases hm; done)
             | (simp only[bind_some,map_some] at ah; obtain⟨_,_,_,_,rfl⟩:=ah; cases hm; done)
             | (simp only[bind_some,iS] at ah; obtain⟨_,_,_,_,_,_,_,rfl⟩:=ah; cases hm; done)
             | (simp only[bind_some,iS] at ah; obtain⟨_,_,_,_,_,_,_,_,_,rfl⟩:=ah; cases hm; done)
           ·split at ah
            ·rw[iS] at ah; obtain⟨_,rfl⟩:=ah; cases hm
            ·cases ah
           ·cases ah
          case next it b=>(cases b<;>simp only[reduceCtorEq] at ah<;>cases ah<;>cases hm)
          case lookup=>split at ah<;>(try cases ah; done); rw[map_some] at ah; obtain⟨_,_,rfl⟩:=ah; cases hm
          case mapUpdate=>split at ah<;>cases ah; cases hm
          case insert=>split at ah<;>cases ah; cases hm
          case makeMap=>split at ah<;>cases ah; cases hm
          case range=>split at ah<;>cases ah; cases hm
          case typeAssert=>rw[map_some] at ah; obtain⟨_,_,rfl⟩:=ah; cases hm
          all_goals (cases ah)
         rw[this] at F9; cases F9
        | gT _ _=>rfl
      have:=dY tC es[tC].1 (by omega) (by simp[lK]) abS;rw[uI,ae.here |> fun _=>(al.idx).symm,aT];exact this
     refine⟨?_,y,by rw[asE]; exact ce,cZ⟩;have:x.cy=true:=by
      rw[Df];simp only[List.contains_iff_mem,avf];exact⟨(y.i,y.h7),ar4 c5,cZ⟩
     rw[this];exact au3
    have FV:tQ P ck.op=true->(∀ l BU,om P G x.b e.2.1 v e.2.2 l1 l->om P G x.b e.2.1 v e.2.2 l1 (l++BU))->om P G x.b e.2.1 v e.2.2 l1 l1->om P G x.b e.2.1 v e.2.2 l1 (uH es l' q) :=by
     intro aJ qy aB;have:=aE.still x.i _ qy aB (q - (p+1)) (by simp only[atg]; omega) (ask aJ)
     rwa [acU,show p+1+(q - (p+1))=q by omega] at this
    rw[<-aT];revert al FV ask aT;generalize e.1=t1;intro aT al ask FV;cases al with
    | gT=>trivial
    | pure m ag hm am ak=>
     intro gP kQ;rw[ae.here] at kQ; cases kQ;have ah:=ae.ig m ag;cases aA:m.reads with
     | false=>exact HX ah (af7 hm aA ak)
     | true=>
      have aJ:tQ P ck.op=true:=by
       cases h:tQ P ck.op with
       | true=>rfl
       | false=>rw[(Qa ah h).1] at aA; cases aA
      have yK:m.lQ=false:=by cases m<;>first | rfl | cases aA
      have b1:∀ bQ,om P G x.b e.2.1 v e.2.2 l1 bQ<->b5 P (dR G e.2.1) bQ m=some (v,bQ) :=fun bQ=>by rw[ag]; simp only[om,yK]
      have:=FV aJ (fun bQ BU h=>by rw[b1] at h ⊢; exact af6 hm h) (by rw[b1,am]; exact ak);rw[b1] at this;exact HX ah this
    | new m cs ag hm am=>
     have ah:=ae.ig m ag;have aJ:tQ P ck.op=true:=by
      cases h:tQ P ck.op with
      | true=>rfl
      | false=>rw[(Qa ah h).2] at hm; cases hm
     have b1:∀ bQ:ap,om P G x.b e.2.1 v e.2.2 l1 bQ<->bQ[e.2.2.length]? = some (.cells cs.length cs) :=fun bQ=>by
      rw[ag,am]; simp only[om,hm]; rw[ar8 (ar0 _)]; simp
     have:=FV aJ (fun bQ BU h=>by rw[b1] at h ⊢; rw[arZ (e7 h)]; exact h) (by rw[b1,am,ar8 (ar0 _)]; simp);rw[b1] at this;show (b8 (uH es l' q)).f (b8 e.2.2).n=_;rw[o6,zI,this]
 have:=dL.Z7 (id:=id) gG bN rb;rw[asi,tr.at.2] at this;exact this
end

section
variable {P:Program} {G:Nat->ad}
theorem Pl {ops:Array Oper} {f:Nat->Option e0}:∀ {is:List Nat} {s:List e0} {os:List Oper},(∀ i x,f i=some x->∃ o,p3 P ops x o/\x.i=i)->is.mapM f=some s->is.map (fun i=>ops[i]?)=os.map some->zG P ops s os
 | [],s,os,aD,h,aq=>by
  simp at h; subst h;cases os with
  | nil=>exact .nil
  | cons=>simp at aq
 | i::is,s,os,aD,h,aq=>by
  rw[atO] at h;simp only[Option.bind_eq_bind,bind_some,at0,Option.some.injEq] at h;obtain⟨x,h1,q6,ae,rfl⟩:=h;cases os with
  | nil=>simp at aq
  | cons o os=>
   simp only[ast,List.cons.injEq] at aq;obtain⟨ck,ok,ax⟩:=aD i x h1;have:ck=o:=by have:=ok.here; rw[ax,aq.1] at this; exact (Option.some.inj this).symm
   subst this;exact .cons ok (Pl aD ae aq.2)
theorem ZK {N N' id:Nat} (fQ:N<=N') {ops:Array Oper} {draw:Bool} {c:iZ} (ah:JP P N ops draw=some c) {af:bi} {l:ap} {K:hS} (h:run P G c af l K) :
  ∃ e b7 l',dL P G (.code (.region id ops draw) N' af (b8 l) e b7 (b8 l'))/\l.length<=l'.length/\K e b7 l':=by
 unfold JP at ah;split at ah
 ·cases ah
 ·rename_i qu;have bN:∀ (i:Nat) (o:Oper),ops[i]? = some o->qf N' o.dst=true:=fun i o aq=>by
   rw[asZ] at qu;have:=qu o (by simpa using Array.mem_of_getElem? aq);unfold qf at this ⊢;split at this
   ·rename_i d _; exact decide_eq_true (atB (of_decide_eq_true this) fQ)
   ·rfl
  split at ah
  ·rw[map_some] at ah;obtain⟨s,h1,rfl⟩:=ah;have fg:zG P ops s ops.toList:=by
    refine Pl (fun i x ai=>?_) h1 ?_
    ·obtain⟨o,ae,al,_⟩:=IF ai; exact⟨o,ae,al⟩
    ·apply asY;intro p;rw[ar5,ar5];by_cases aC:p<ops.size
     ·rw[asI aC]; simp[aC]
     ·rw[ase (by simp; omega),ase (by simp; omega)]; rfl
   obtain⟨b7,l',ae,al,aE⟩:=NS bN fg h;exact⟨.normal,b7,l',.region ae,al,aE⟩
  ·simp only at ah;split at ah
   ·cases ah
   ·rename_i K0;simp only[ar3] at K0;split at ah
    ·cases ah
    ·rename_i s ak;have da:∀ x∈s,∃ o,p3 P ops x o:=fun x ai=>by
      obtain⟨p,aC⟩:=at1 ai;obtain⟨a,_,ae⟩:=HR ak p x aC;obtain⟨o,al,_⟩:=IF ae;exact⟨o,al⟩
     have fin:l2 P G s af l [] (K .normal)->∃ e b7 l',dL P G (.code (.region id ops true) N' af (b8 l) e b7 (b8 l'))/\l.length<=l'.length/\K e b7 l':=fun h=>by
      obtain⟨es,b7,l',h1,ae⟩:=NP da h;exact⟨.normal,b7,l',aac bN K0.1 K0.2 ak h1,h1.len,ae⟩
     split at ah
     ·rename_i Aw;cases ah;refine fin (NQ (fun x ai=>?_) h)
      obtain⟨p,aC⟩:=at1 ai;obtain⟨a,_,ae⟩:=HR ak p x aC;obtain⟨o,_,_,_,al⟩:=IF ae;rw[al,Aw]; rfl
     ·cases ah;exact fin h
theorem aiH {N N' : Nat} (fQ:N<=N') :∀ (code:Code) (c:iZ),comp P N code=some c->∀ (af:bi) (l:ap) (K:hS),run P G c af l K->
  ∃ e b7 l',dL P G (.code code N' af (b8 l) e b7 (b8 l'))/\l.length<=l'.length/\K e b7 l':=by
 intro code
 induction code with
 | skip=>intro c ah af l K h; cases ah; exact⟨_,_,_,.skip _ _ _,ar0 _,h⟩
 | label n=>intro c ah af l K h; cases ah; exact⟨_,_,_,.label _ _ _ _,ar0 _,h⟩
 | ret=>intro c ah af l K h; cases ah; exact⟨_,_,_,.ret _ _ _,ar0 _,h⟩
 | exit id=>intro c ah af l K h; cases ah; exact⟨_,_,_,.exit _ _ _ _,ar0 _,h⟩
 | region id ops draw=>intro c ah af l K h; exact ZK fQ ah h
 | seq a b Mi Mj=>
  intro c ah af l K h;have mk:∀ (zV p9:iZ),comp P N a=some zV->comp P N b=some p9->run P G zV af l (qV (fun af l=>run P G p9 af l K) K)->∃ e b7 l',dL P G (.code (.seq a b) N' af (b8 l) e b7 (b8 l'))/\l.length<=l'.length/\K e b7 l':=by
   intro zV p9 az ag h;obtain⟨e,jN,l1,h1,ae,al⟩:=Mi zV az af l _ h;cases e with
   | normal=>
    obtain⟨e,OX,bQ,aE,aU,bz⟩:=Mj p9 ag jN l1 K al;exact⟨e,OX,bQ,.Wp h1 aE,ati ae aU,bz⟩
   | exit id=>exact⟨_,jN,l1,.N5 h1 (by intro h; cases h),ae,al⟩
   | ret=>exact⟨_,jN,l1,.N5 h1 (by intro h; cases h),ae,al⟩
  simp only[comp] at ah;split at ah
  ·rename_i bw az ag;cases ah;exact mk _ _ az ag h
  ·rename_i fc _ az ag;cases ah;refine mk _ _ az ag ?_;have:qV (fun af l=>run P G .skip af l K) K=K:=by
    funext e af l;cases e<;>rfl
   rw[this]; exact h
  ·rename_i fc bw _ _ az ag;cases ah;exact mk _ _ az ag h
  ·cases ah
 | cond c x y Mm Mn=>
  intro Fm ah af l K h;simp only[comp] at ah;split at ah
  ·rename_i kf BW ai ay;cases ah;simp only[run,DP] at h;split at h
   ·rename_i b ag;rw[DQ] at h;rcases h with ⟨rfl,h⟩ | ⟨rfl,h⟩
    ·obtain⟨e,jN,l1,h1,ae,al⟩:=Mm kf ai af l K h;exact⟨e,jN,l1,.cond ag h1,ae,al⟩
    ·obtain⟨e,jN,l1,h1,ae,al⟩:=Mn BW ay af l K h;exact⟨e,jN,l1,.cond ag h1,ae,al⟩
   ·cases h
  ·cases ah
 | block id c aO=>
  intro Fm ah af l K h;simp only[comp,map_some] at ah;obtain⟨c',h1,rfl⟩:=ah;obtain⟨e,jN,l1,ae,al,aE⟩:=aO c' h1 af l _ h;cases e with
  | normal=>exact⟨_,jN,l1,.Fg ae (by intro h; cases h),al,aE⟩
  | ret=>exact⟨_,jN,l1,.Fg ae (by intro h; cases h),al,aE⟩
  | exit Ba=>
   simp only[w0] at aE;split at aE
   ·rename_i ag;obtain rfl:=ll ag;exact⟨_,jN,l1,.PJ ae,al,aE⟩
   ·rename_i ag;exact⟨_,jN,l1,.Fg ae (by intro h; cases h; rw[avc] at ag; cases ag),al,aE⟩
 | loop c aO=>
  intro Fm ah af l K h;simp only[comp,map_some] at ah;obtain⟨c',h1,rfl⟩:=ah;obtain⟨n,h⟩:=h
  induction n generalizing af l with
  | zero=>cases h
  | succ n Ml=>
   obtain⟨e,jN,l1,ae,al,aE⟩:=aO c' h1 af l _ h;cases e with
   | normal=>
    obtain⟨e,OX,bQ,aU,bz,dy⟩:=Ml jN l1 aE;exact⟨e,OX,bQ,.Bk ae aU,ati al bz,dy⟩
   | exit id=>exact⟨_,jN,l1,.MK ae (by intro h; cases h),al,aE⟩
   | ret=>exact⟨_,jN,l1,.MK ae (by intro h; cases h),al,aE⟩
 | scope c aO=>
  intro Fm ah af l K h;obtain⟨e,jN,l1,ae,al,aE⟩:=aO Fm ah af l K h;exact⟨e,jN,l1,.scope ae,al,aE⟩
 | _=>intro c ah; cases ah
def JO (P:Program) :ResultVar->Option eJ
 | .tmp t=>some (.gO (.tmp t))
 | .cell a t=>nO P (.load t (.tmp a))
def JQ (P:Program) (f:FuncId) :Option (List eJ) :=match P.funcs[f]? with
 | some fn=>fn.results.toList.mapM (JO P)
 | none=>none
def qU (P:Program) (G:Nat->ad) (K:ad->ap->Prop) (af:bi) (l:ap) :List eJ->List ad->Prop
 | [],acc=>K (zy acc) l
 | m::r,acc=>W (b5 P (dR G af) l m) (c:=⟨fun x=>qU P G K af l r (acc++[x.1])⟩)
def HC (P:Program) (G:Nat->ad) (ms:List eJ) (K:ad->ap->Prop) :hS:=fun e af l=>match e with
 | .exit _=>False
 | .normal=>qU P G K af l ms []
 | .ret=>qU P G K af l ms []
def Jo (args:List ad) :bi:=fun t=>args.getD t jg
theorem T4 {K:ad->ap->Prop} {af:bi} {l:ap}:∀ {Eu:List ResultVar} {ms:List eJ} {acc:List ad},Eu.mapM (JO P)=some ms->qU P G K af l ms acc->∃ vs,xk P (b8 l) af Eu=some vs/\K (zy (acc++vs)) l
 | [],ms,acc,hm,h=>by simp at hm; subst hm; exact⟨[],rfl,by simpa [qU] using h⟩
 | r::Eu,ms,acc,hm,h=>by
  rw[atO] at hm;simp only[Option.bind_eq_bind,bind_some,at0,Option.some.injEq] at hm;obtain⟨m,h1,aqM,ae,rfl⟩:=hm;simp only[qU,E0] at h;obtain⟨⟨v,l1⟩,al,aE⟩:=h;obtain⟨vs,aU,bz⟩:=T4 ae aE;refine⟨v::vs,?_,by simpa using bz⟩;have:BB P (b8 l) af r=some v:=by
   cases r with
   | tmp t=>cases h1; simp only[b5,Option.some.injEq,Prod.mk.injEq] at al; rw[<-al.1]; rfl
   | cell a t=>
    have c3:nO P (.load t (.tmp a))=some m:=h1;have:=HX c3 al;simp only[df] at this;unfold BB;show tu P (b8 l) t (dR G af (.tmp a))=some v;cases am:tu P (b8 l) t (dR G af (.tmp a)) with
    | none=>rw[am] at this; cases this
    | some x=>rw[am] at this; simp only[asb,Option.some.injEq,p2.val.injEq] at this; rw[this.1]
  simp only[xk,this,aU]
theorem Zi {f:FuncId} {c:iZ} {ms:List eJ} (ah:JN P f=some c) (aA:JQ P f=some ms) {args:List ad} {l:ap} {K:vx}
  (h:run P G c (Jo args) l (HC P G ms K.k)) :dr P G f args l (c:=K) :=by
 unfold JN at ah;unfold JQ at aA;split at ah
 ·rename_i fn nr;split at ah
  ·rename_i body ag;rw[nr] at aA;obtain⟨e,b7,l',h1,ae,al⟩:=aiH (N':=args.length+(fn.ntmps - args.length)) (by omega) body c ah _ _ _ h;have fin:(e=.normal\/e=.ret)->qU P G K.k b7 l' ms []->dr P G f args l (c:=K) :=fun ao al=>by
    obtain⟨vs,aE,aU⟩:=T4 aA al;exact⟨zy vs,l',.inline nr ag h1 ao (by simp only[Iu,aE]; rfl),ae,by simpa using aU⟩
   cases e with
   | normal=>exact fin (.inl rfl) al
   | ret=>exact fin (.inr rfl) al
   | exit id=>cases al
  ·cases ah
 ·cases ah
theorem WH {b:xH} {af:bi} {l:ap} {K gY:ad->ap->Prop} (bl:∀ v l,K v l->gY v l) (h:iI P G b af l K) :iI P G b af l gY:=by
 cases b with
 | ig m=>simp only[iI,E0] at h ⊢; obtain⟨v,h1,ae⟩:=h; exact⟨v,h1,T6 bl ae⟩
 | ox f args=>obtain⟨r,l',h1,ae,al⟩:=h; exact⟨r,l',h1,ae,bl _ _ al⟩
 | pd x args=>
  simp only[iI,zX] at h ⊢;split at h
  ·obtain⟨aB,r,l',h1,ae,al⟩:=h; exact⟨aB,r,l',h1,ae,bl _ _ al⟩
  ·cases h
 | p8 x name args=>
  simp only[iI,zW] at h ⊢;split at h
  ·split at h
   ·obtain⟨aB,r,l',h1,ae,al⟩:=h; exact⟨aB,r,l',h1,ae,bl _ _ al⟩
   ·cases h
  ·cases h
theorem T2 {af:bi} {g:Option (Option Tmp × Bool)} {p q bZ fS:Prop} (aC:p->bZ) (bd:q->fS) (h:tp af g p q) :tp af g bZ fS:=by
 unfold tp at h ⊢;split at h
 ·exact aC h
 ·simp only[tn] at h ⊢;split at h
  ·rw[DQ] at h ⊢;rcases h with ⟨a,b⟩ | ⟨a,b⟩
   ·exact .inl ⟨a,aC b⟩
   ·exact .inr ⟨a,bd b⟩
  ·cases h
  ·exact bd h
 ·exact bd h
theorem NR {K gY:bi->ap->Prop} (bl:∀ af l,K af l->gY af l) :∀ {s:List e0} {af:bi} {l:ap},lp P G s af l K->lp P G s af l gY
 | [],_,_,h=>bl _ _ h
 | s::r,_,_,h=>T2 (WH fun _ _ h=>NR bl h) (fun h=>NR bl h) h
theorem NN {K gY:bi->ap->Prop} (bl:∀ af l,K af l->gY af l) :∀ {s:List e0} {af:bi} {l:ap} {seen:jQ},l2 P G s af l seen K->l2 P G s af l seen gY
 | [],_,_,_,h=>bl _ _ h
 | s::r,_,_,_,h=>T2 (WH fun _ _ h=>⟨h.1,NN bl h.2⟩) (fun h=>NN bl h) h
theorem DR {k k' : bi->ap->Prop} {K gY:hS} (hk:∀ af l,k af l->k' af l) (bl:∀ e af l,K e af l->gY e af l) :∀ e af l,qV k K e af l->qV k' gY e af l:=by
 intro e af l h; cases e<;>first | exact hk _ _ h | exact bl _ _ _ h
theorem NV:∀ {c:iZ} {af:bi} {l:ap} {K gY:hS},(∀ e af l,K e af l->gY e af l)->run P G c af l K->run P G c af l gY:=by
 intro c
 induction c with
 | skip=>intro af l K gY bl h; exact bl _ _ _ h
 | ret=>intro af l K gY bl h; exact bl _ _ _ h
 | exit id=>intro af l K gY bl h; exact bl _ _ _ h
 | Bz s=>intro af l K gY bl h; exact NR (bl _) h
 | CB s=>intro af l K gY bl h; exact NN (bl _) h
 | seq a b Mi Mj=>intro af l K gY bl h; exact Mi (DR (fun af l h=>Mj bl h) bl) h
 | cond c x y Mm Mn=>
  intro af l K gY bl h;simp only[run,DP] at h ⊢;split at h
  ·rw[DQ] at h ⊢;rcases h with ⟨a,b⟩ | ⟨a,b⟩
   ·exact .inl ⟨a,Mm bl b⟩
   ·exact .inr ⟨a,Mn bl b⟩
  ·cases h
 | block id c aO=>
  intro af l K gY bl h;refine aO (fun e af l h=>?_) h;cases e with
  | normal=>exact bl _ _ _ h
  | ret=>exact bl _ _ _ h
  | exit Ba=>
   simp only[w0] at h ⊢;split at h
   ·exact bl _ _ _ h
   ·exact bl _ _ _ h
 | loop c aO=>
  intro af l K gY bl h;obtain⟨n,h⟩:=h;refine⟨n,?_⟩
  induction n generalizing af l with
  | zero=>cases h
  | succ n Ml=>exact aO (DR (fun af l h=>Ml h) bl) h
theorem dr.mono {f:FuncId} {args:List ad} {l:ap} {K gY:vx} (bl:∀ v l,K.k v l->gY.k v l) (h:dr P G f args l (c:=K)) :dr P G f args l (c:=gY) :=by
 obtain⟨r,l',h1,ae,al⟩:=h; exact⟨r,l',h1,ae,bl _ _ al⟩
theorem r9 {c:iZ} {K:I5} (I:Nat->bi->ap->Prop) (step:∀ n af l,I n af l->run P G c af l (qV (fun af l=>∃ hy,hy<n/\I hy af l) K.k)) :∀ n af l,I n af l->EY (run P G c) af l (c:=K) :=by
 intro n
 induction n using Nat.strongRecOn with
 | _ n aO=>
  intro af l h
  -- fuel n+1 is enough
  have CN:∀ (m n:Nat),n<=m->∀ af l,I n af l->Bk (run P G c) (m+1) af l K.k:=by
   intro m
   induction m with
   | zero=>
    intro n aF af l h;obtain rfl:n=0:=by omega
    exact NV (DR (fun af l ⟨hy,h1,_⟩=>by omega) (fun _ _ _ h=>h)) (step 0 af l h)
   | succ m Mk=>
    intro n aF af l h;exact NV (DR (fun af l ⟨hy,h1,ae⟩=>Mk hy (by omega) af l ae) (fun _ _ _ h=>h)) (step n af l h)
  exact⟨n+1,CN n n (ar0 _) af l h⟩
theorem cw {c:iZ} {K:I5} (n:Nat) (I:Nat->bi->ap->Prop) (step:∀ k af l,k<=n->I k af l->run P G c af l (qV (fun af l=>k<n/\I (k+1) af l) K.k)) {af:bi} {l:ap} (h:I 0 af l) :EY (run P G c) af l (c:=K) :=by
 refine r9 (fun m af l=>∃ k,k+m=n/\I k af l) (fun m af l ⟨k,hk,h⟩=>?_) n af l ⟨0,by omega,h⟩;exact NV (DR (fun af l ⟨h1,ae⟩=>⟨m - 1,by omega,k+1,by omega,ae⟩) (fun _ _ _ h=>h)) (step k af l (by omega) h)
end

section
variable {P:Program} {G:Nat->ad}
@[simp ↓] theorem arp (af:bi) (l:ap) (K:hS) :run P G .skip af l K=K .normal af l:=id rfl
@[simp ↓] theorem arn (af:bi) (l:ap) (K:hS) :run P G .ret af l K=K .ret af l:=id rfl
@[simp ↓] theorem ark (i:Nat) (af:bi) (l:ap) (K:hS) :run P G (.exit i) af l K=K (.exit i) af l:=id rfl
@[simp ↓] theorem arm (s:List e0) (af:bi) (l:ap) (K:hS) :run P G (.Bz s) af l K=lp P G s af l (K .normal) :=id rfl
@[simp ↓] theorem arj (s:List e0) (af:bi) (l:ap) (K:hS) :run P G (.CB s) af l K=l2 P G s af l [] (K .normal) :=id rfl
@[simp ↓] theorem aro (a b:iZ) (af:bi) (l:ap) (K:hS) :run P G (.seq a b) af l K=run P G a af l (qV (fun af l=>run P G b af l K) K) :=id rfl
@[simp ↓] theorem ari (c:Operand) (x y:iZ) (af:bi) (l:ap) (K:hS) :run P G (.cond c x y) af l K=DP (dR G af c) (c:=⟨run P G x af l K,run P G y af l K⟩) :=id rfl
@[simp ↓] theorem arh (i:Nat) (c:iZ) (af:bi) (l:ap) (K:hS) :run P G (.block i c) af l K=run P G c af l (w0 i K) :=id rfl
@[simp ↓] theorem arl (c:iZ) (af:bi) (l:ap) (K:hS) :run P G (.loop c) af l K=EY (run P G c) af l (c:=⟨K⟩) :=id rfl
@[simp ↓] theorem ao9 (k:bi->ap->Prop) (K:hS) (af:bi) (l:ap) :qV k K .normal af l=k af l:=id rfl
@[simp ↓] theorem ao8 (k:bi->ap->Prop) (K:hS) (i:Nat) (af:bi) (l:ap) :qV k K (.exit i) af l=K (.exit i) af l:=id rfl
@[simp ↓] theorem apa (k:bi->ap->Prop) (K:hS) (af:bi) (l:ap) :qV k K .ret af l=K .ret af l:=id rfl
@[simp ↓] theorem aoS (i:Nat) (K:hS) (af:bi) (l:ap) :w0 i K .normal af l=K .normal af l:=id rfl
@[simp ↓] theorem aoT (i:Nat) (K:hS) (af:bi) (l:ap) :w0 i K .ret af l=K .ret af l:=id rfl
def w1 (p:Prop) [Decidable p] [c:B4] :Prop:=if p then c.p else c.q
@[simp ↓] theorem aoR (i j:Nat) (K:hS) (af:bi) (l:ap) :w0 i K (.exit j) af l=w1 (j=i) (c:=⟨K .normal af l,K (.exit j) af l⟩) :=by
 unfold w0 w1;by_cases h:j=i
 ·simp only[u6 h,if_pos h]
 ·simp only[lm h,if_neg h]
@[simp ↓] theorem aoY (i:Nat) (x y:Prop) :w1 (i=i) (c:=⟨x,y⟩)=x:=by simp[w1]
@[simp] theorem aoZ (x y:Prop) :w1 True (c:=⟨x,y⟩)=x:=by simp[w1]
@[simp] theorem aoX (x y:Prop) :w1 False (c:=⟨x,y⟩)=y:=by simp[w1]
@[simp ↓] theorem aoV (ms:List eJ) (K:ad->ap->Prop) (af:bi) (l:ap) :HC P G ms K .normal af l=qU P G K af l ms [] :=id rfl
@[simp ↓] theorem aoW (ms:List eJ) (K:ad->ap->Prop) (af:bi) (l:ap) :HC P G ms K .ret af l=qU P G K af l ms [] :=id rfl
@[simp ↓] theorem ao7 (K:ad->ap->Prop) (af:bi) (l:ap) (acc:List ad) :qU P G K af l [] acc=K (zy acc) l:=id rfl
@[simp ↓] theorem ao6 (K:ad->ap->Prop) (af:bi) (l:ap) (m:eJ) (r:List eJ) (acc:List ad) :qU P G K af l (m::r) acc=W (b5 P (dR G af) l m) (c:=⟨fun x=>qU P G K af l r (acc++[x.1])⟩) :=id rfl
@[simp] theorem arC (v:ad) :zy [v]=v:=id rfl
@[simp] theorem arD (v w:ad) (r:List ad) :zy (v::w::r)=.bJ (v::w::r) :=id rfl
@[simp ↓] theorem arf (af:bi) (l:ap) (K:bi->ap->Prop) :lp P G [] af l K=K af l:=id rfl
@[simp ↓] theorem ard (i:Nat) (dst:Option Tmp) (m:eJ) (c:List Nat) (k:Bool) (r:List e0) (af:bi) (l:ap) (K:bi->ap->Prop) :
  lp P G (⟨i,dst,none,.ig m,c,k⟩::r) af l K=W (b5 P (dR G af) l m) (c:=⟨fun x=>eY m x.1 x.2 fun v l'=>lp P G r (h3 af dst v) l' K⟩) :=id rfl
@[simp ↓] theorem aq9 (i:Nat) (dst:Option Tmp) (f:FuncId) (args:List Operand) (c:List Nat) (k:Bool) (r:List e0) (af:bi) (l:ap) (K:bi->ap->Prop) :
  lp P G (⟨i,dst,none,.ox f args,c,k⟩::r) af l K=dr P G f (args.map (dR G af)) l (c:=⟨fun v l'=>lp P G r (h3 af dst v) l' K⟩) :=id rfl
@[simp ↓] theorem arb (i:Nat) (dst:Option Tmp) (x:Operand) (args:List Operand) (c:List Nat) (k:Bool) (r:List e0) (af:bi) (l:ap) (K:bi->ap->Prop) :
  lp P G (⟨i,dst,none,.pd x args,c,k⟩::r) af l K=zX P G (dR G af x) (args.map (dR G af)) l (c:=⟨fun v l'=>lp P G r (h3 af dst v) l' K⟩) :=id rfl
@[simp ↓] theorem ara (i:Nat) (dst:Option Tmp) (x:Operand) (name:String) (args:List Operand) (c:List Nat) (k:Bool) (r:List e0) (af:bi) (l:ap) (K:bi->ap->Prop) :
  lp P G (⟨i,dst,none,.p8 x name args,c,k⟩::r) af l K=zW P G name (dR G af x) (args.map (dR G af)) l (c:=⟨fun v l'=>lp P G r (h3 af dst v) l' K⟩) :=id rfl
@[simp ↓] theorem amr (name:String) (t:TypeId) (v:ad) (args:List ad) (l:ap) (c:vx) :
  zW P G name (.hu t v) args l (c:=c)=(match Bm P t name with | some g=>iv P g=true/\dr P G g (v::args) l (c:=c) | none=>False) :=id rfl
@[simp ↓] theorem arc (i:Nat) (dst:Option Tmp) (d:Tmp) (w:Bool) (b:xH) (c:List Nat) (k:Bool) (r:List e0) (af:bi) (l:ap) (K:bi->ap->Prop) :
  lp P G (⟨i,dst,some (some d,w),b,c,k⟩::r) af l K=tn (af d) w (c:=⟨lp P G (⟨i,dst,none,b,c,k⟩::r) af l K,lp P G r (h3 af dst jg) l K⟩) :=id rfl
@[simp ↓] theorem aq8 (af:bi) (l:ap) (seen:jQ) (K:bi->ap->Prop) :l2 P G [] af l seen K=K af l:=id rfl
@[simp ↓] theorem aq7 (i:Nat) (dst:Option Tmp) (m:eJ) (c:List Nat) (k:Bool) (r:List e0) (af:bi) (l:ap) (seen:jQ) (K:bi->ap->Prop) :
  l2 P G (⟨i,dst,none,.ig m,c,k⟩::r) af l seen K=W (b5 P (dR G af) l m) (c:=⟨fun x=>eY m x.1 x.2 fun v l'=>sL c seen l'/\l2 P G r (h3 af dst v) l' (tN k i (om P G (.ig m) af v l l') seen) K⟩) :=id rfl
@[simp ↓] theorem aq4 (i:Nat) (dst:Option Tmp) (f:FuncId) (args:List Operand) (c:List Nat) (k:Bool) (r:List e0) (af:bi) (l:ap) (seen:jQ) (K:bi->ap->Prop) :
  l2 P G (⟨i,dst,none,.ox f args,c,k⟩::r) af l seen K=dr P G f (args.map (dR G af)) l (c:=⟨fun v l'=>sL c seen l'/\l2 P G r (h3 af dst v) l' (tN k i (fun _=>True) seen) K⟩) :=id rfl
@[simp ↓] theorem aq5 (i:Nat) (dst:Option Tmp) (x:Operand) (args:List Operand) (c:List Nat) (k:Bool) (r:List e0) (af:bi) (l:ap) (seen:jQ) (K:bi->ap->Prop) :
  l2 P G (⟨i,dst,none,.pd x args,c,k⟩::r) af l seen K=zX P G (dR G af x) (args.map (dR G af)) l (c:=⟨fun v l'=>sL c seen l'/\l2 P G r (h3 af dst v) l' (tN k i (fun _=>True) seen) K⟩) :=id rfl
@[simp ↓] theorem aq6 (i:Nat) (dst:Option Tmp) (d:Tmp) (w:Bool) (b:xH) (c:List Nat) (k:Bool) (r:List e0) (af:bi) (l:ap) (seen:jQ) (K:bi->ap->Prop) :
  l2 P G (⟨i,dst,some (some d,w),b,c,k⟩::r) af l seen K=tn (af d) w (c:=⟨l2 P G (⟨i,dst,none,b,c,k⟩::r) af l seen K,l2 P G r (h3 af dst jg) l seen K⟩) :=id rfl
@[simp] theorem amL (ids:List Nat) (l:ap) :sL ids [] l=True:=id rfl
@[simp] theorem amK (ids:List Nat) (e:Nat × (ap->Prop)) (r:jQ) (l:ap) :sL ids (e::r) l=((ids.contains e.1=true->e.2 l)/\sL ids r l) :=id rfl
@[simp] theorem art (i:Nat) (p:ap->Prop) (s:jQ) :tN true i p s=(i,p) ::s:=id rfl
@[simp] theorem ars (i:Nat) (p:ap->Prop) (s:jQ) :tN false i p s=s:=id rfl
@[simp] theorem arz (m:eJ) (af:bi) (v:ad) (l l' l1:ap) :om P G (.ig m) af v l l' l1=(match m.lQ with | true=>l1[l.length]? = l'[l.length]? | false=>b5 P (dR G af) l1 m=some (v,l1)) :=id rfl
@[simp ↓] theorem apL (x:Operand) (v:ad) (l:ap) (K:ad->ap->Prop) :eY (.gO x) v l K=K v l:=id rfl
@[simp ↓] theorem apO (c a b:Operand) (v:ad) (l:ap) (K:ad->ap->Prop) :eY (.pick c a b) v l K=K v l:=id rfl
@[simp ↓] theorem apb (z:List ad) (v:ad) (l:ap) (K:ad->ap->Prop) :eY (.alloc z) v l K=K v l:=id rfl
@[simp ↓] theorem apg (x:Operand) (v:ad) (l:ap) (K:ad->ap->Prop) :eY (.box x) v l K=K v l:=id rfl
@[simp ↓] theorem apf (z:List ad) (cT:List (Nat × Nat × Operand)) (v:ad) (l:ap) (K:ad->ap->Prop) :eY (.Ff z cT) v l K=K v l:=id rfl
@[simp ↓] theorem aph (z:Nat) (zero:List ad) (n:Nat) (cT:List (Nat × Operand)) (v:ad) (l:ap) (K:ad->ap->Prop) :eY (.vL z zero n cT) v l K=K v l:=id rfl
@[simp ↓] theorem apz (a:Operand) (v:ad) (l:ap) (K:ad->ap->Prop) :eY (.ld1 a) v l K=K v l:=id rfl
@[simp ↓] theorem apA (n:Nat) (a:Operand) (v:ad) (l:ap) (K:ad->ap->Prop) :eY (.y5 n a) v l K=K v l:=id rfl
@[simp ↓] theorem apR (n:Nat) (a x:Operand) (v:ad) (l:ap) (K:ad->ap->Prop) :eY (.st n a x) v l K=K v l:=id rfl
@[simp ↓] theorem apM (x:Operand) (v:ad) (l:ap) (K:ad->ap->Prop) :eY (.HZ x) v l K=K v l:=id rfl
@[simp ↓] theorem ape (o:BinOp) (t:TypeId) (x y:Operand) (v:ad) (l:ap) (K:ad->ap->Prop) :eY (.bin o t x y) v l K=K v l:=id rfl
@[simp ↓] theorem apT (o:UnOp) (x:Operand) (v:ad) (l:ap) (K:ad->ap->Prop) :eY (.un o x) v l K=K v l:=id rfl
@[simp ↓] theorem apk (k:IntKind) (x:Operand) (v:ad) (l:ap) (K:ad->ap->Prop) :eY (.Cn k x) v l K=K v l:=id rfl
@[simp ↓] theorem apq (x:Operand) (v:ad) (l:ap) (K:ad->ap->Prop) :eY (.Cx x) v l K=K v l:=id rfl
@[simp ↓] theorem apj (x:Operand) (v:ad) (l:ap) (K:ad->ap->Prop) :eY (.xT x) v l K=K v l:=id rfl
@[simp ↓] theorem apo (x:Operand) (v:ad) (l:ap) (K:ad->ap->Prop) :eY (.Cw x) v l K=K v l:=id rfl
@[simp ↓] theorem apH (t:TypeId) (x:Operand) (v:ad) (l:ap) (K:ad->ap->Prop) :eY (.D0 t x) v l K=K v l:=id rfl
@[simp ↓] theorem apS (t:TypeId) (z:ad) (ok:Bool) (x:Operand) (v:ad) (l:ap) (K:ad->ap->Prop) :eY (.ED t z ok x) v l K=K v l:=id rfl
@[simp ↓] theorem apG (f:FuncId) (a b:List Operand) (v:ad) (l:ap) (K:ad->ap->Prop) :eY (.DZ f a b) v l K=K v l:=id rfl
@[simp ↓] theorem apJ (z b:Nat) (zero:List ad) (x y:Operand) (v:ad) (l:ap) (K:ad->ap->Prop) :eY (.w7 z b zero x y) v l K=K v l:=id rfl
@[simp ↓] theorem apQ (dX:kD) (x:Operand) (c0 ax cX:Option Operand) (v:ad) (l:ap) (K:ad->ap->Prop) :eY (.slice dX x c0 ax cX) v l K=K v l:=id rfl
@[simp ↓] theorem aps (n:Nat) (x:Operand) (v:ad) (l:ap) (K:ad->ap->Prop) :eY (.FK n x) v l K=K v l:=id rfl
@[simp ↓] theorem apt (n:Nat) (x:Operand) (v:ad) (l:ap) (K:ad->ap->Prop) :eY (.FQ n x) v l K=K v l:=id rfl
@[simp ↓] theorem apu (n m:Nat) (x:Operand) (v:ad) (l:ap) (K:ad->ap->Prop) :eY (.FR n m x) v l K=K v l:=id rfl
@[simp ↓] theorem apv (dX:kD) (x y:Operand) (v:ad) (l:ap) (K:ad->ap->Prop) :eY (.DI dX x y) v l K=K v l:=id rfl
@[simp ↓] theorem apw (n z:Nat) (x y:Operand) (v:ad) (l:ap) (K:ad->ap->Prop) :eY (.Hv n z x y) v l K=K v l:=id rfl
@[simp ↓] theorem apx (n z:Nat) (x y:Operand) (v:ad) (l:ap) (K:ad->ap->Prop) :eY (.Hw n z x y) v l K=K v l:=id rfl
@[simp ↓] theorem apy (x y:Operand) (v:ad) (l:ap) (K:ad->ap->Prop) :eY (.HB x y) v l K=K v l:=id rfl
@[simp ↓] theorem apr (x:Operand) (n:Nat) (v:ad) (l:ap) (K:ad->ap->Prop) :eY (.ext x n) v l K=K v l:=id rfl
@[simp ↓] theorem apB (dX:kD) (x:Operand) (v:ad) (l:ap) (K:ad->ap->Prop) :eY (.len dX x) v l K=K v l:=id rfl
@[simp ↓] theorem api (dX:kD) (x:Operand) (v:ad) (l:ap) (K:ad->ap->Prop) :eY (.cap dX x) v l K=K v l:=id rfl
@[simp ↓] theorem apd (z b:Nat) (zero:List ad) (x y:Operand) (v:ad) (l:ap) (K:ad->ap->Prop) :eY (.zO z b zero x y) v l K=K v l:=id rfl
@[simp ↓] theorem apn (z:Nat) (x y:Operand) (v:ad) (l:ap) (K:ad->ap->Prop) :eY (.Aa z x y) v l K=K v l:=id rfl
@[simp ↓] theorem apl (zero:List ad) (x:Operand) (v:ad) (l:ap) (K:ad->ap->Prop) :eY (.z6 zero x) v l K=K v l:=id rfl
@[simp ↓] theorem apF (x y:Operand) (v:ad) (l:ap) (K:ad->ap->Prop) :eY (.min x y) v l K=K v l:=id rfl
@[simp ↓] theorem apE (x y:Operand) (v:ad) (l:ap) (K:ad->ap->Prop) :eY (.max x y) v l K=K v l:=id rfl
@[simp ↓] theorem apc (z b:Nat) (x y:Operand) (v:ad) (l:ap) (K:ad->ap->Prop) :eY (.app z b x y) v l K=dt v l (c:=⟨K⟩) :=id rfl
theorem dt.cy {v:ad} {l:ap} {K:ad->ap->Prop} (h:K v l) :dt v l (c:=⟨K⟩) :=.inl h
@[simp] theorem aoK (a:Operand) :(eJ.ld1 a).lQ=false:=id rfl
@[simp] theorem aoL (n:Nat) (a:Operand) :(eJ.y5 n a).lQ=false:=id rfl
@[simp] theorem aoH (k:IntKind) (a:Operand) :(eJ.Cn k a).lQ=false:=id rfl
@[simp] theorem aoJ (a:Operand) :(eJ.Cx a).lQ=false:=id rfl
@[simp] theorem aoG (a:Operand) :(eJ.xT a).lQ=false:=id rfl
@[simp] theorem aoI (a:Operand) :(eJ.Cw a).lQ=false:=id rfl
@[simp] theorem aoD (z:List ad) :(eJ.alloc z).lQ=true:=id rfl
@[simp] theorem aoE (a:Operand) :(eJ.box a).lQ=true:=id rfl
@[simp] theorem aoF (z:Nat) (zero:List ad) (n:Nat) (cT:List (Nat × Operand)) :(eJ.vL z zero n cT).lQ=true:=id rfl
@[simp] theorem aoM (z b:Nat) (zero:List ad) (x y:Operand) :(eJ.w7 z b zero x y).lQ=true:=id rfl
@[simp] theorem aqV (l l' : ap) (x:Option ad) (v:ad) :(dV l x=some (v,l'))=(x=some v/\l'=l) :=propext gR
@[simp ↓] theorem alJ {α:Type} (x:α) (k:α->Prop) :W (some x) (c:=⟨k⟩)=k x:=id rfl
@[simp ↓] theorem alI (l:ap) (o:Option ad) (k:ad × ap->Prop) :W (dV l o) (c:=⟨k⟩)=W o (c:=⟨fun v=>k (v,l)⟩) :=by unfold W dV; cases o<;>rfl
@[simp ↓] theorem alH {α kA:Type} (o:Option α) (f:α->kA) (k:kA->Prop) :W (o.map f) (c:=⟨k⟩)=W o (c:=⟨fun v=>k (f v)⟩) :=by unfold W; cases o<;>rfl
@[simp ↓] theorem alG {α:Type} (p:Prop) [Decidable p] (x:α) (k:α->Prop) :W (if p then some x else none) (c:=⟨k⟩)=(p/\k x) :=by unfold W; by_cases h:p<;>simp[h]
@[simp ↓] theorem aoU (b:Bool) (p q:Prop) :DP (.bool b) (c:=⟨p,q⟩)=tq b (c:=⟨p,q⟩) :=id rfl
@[simp ↓] theorem ao5 (p q:Prop) :tq true (c:=⟨p,q⟩)=p:=id rfl
@[simp ↓] theorem ao4 (p q:Prop) :tq false (c:=⟨p,q⟩)=q:=id rfl
@[simp ↓] theorem ao1 (b:Bool) (p q:Prop) :tn (.bool b) true (c:=⟨p,q⟩)=tq b (c:=⟨p,q⟩) :=by cases b<;>rfl
@[simp ↓] theorem ao0 (b:Bool) (p q:Prop) :tn (.bool b) false (c:=⟨p,q⟩)=tq b (c:=⟨q,p⟩) :=by cases b<;>rfl
@[simp ↓] theorem ao2 (w:Bool) (p q:Prop) :tn jg w (c:=⟨p,q⟩)=q:=id rfl
@[simp ↓] theorem ao3 (w:Bool) (p q:Prop) :tn (.bJ []) w (c:=⟨p,q⟩)=q:=id rfl
theorem g8 {b:Bool} {p q:Prop} (h1:b=true->p) (ae:b=false->q) :tq b (c:=⟨p,q⟩) :=by cases b; exact ae rfl; exact h1 rfl
@[simp ↓] theorem aqX (af:bi) (d:Tmp) (v:ad) :h3 af (some d) v=bY af d v:=id rfl
@[simp ↓] theorem aqW (af:bi) (v:ad) :h3 af none v=af:=id rfl
@[simp] theorem anp {α:Type} (s:Nat->α) (d:Nat) (v:α) (t:Nat) :bY s d v t=if t=d then v else s t:=id rfl
@[simp] theorem alO (args:List ad) (t:Nat) :Jo args t=args.getD t jg:=id rfl
@[simp] theorem ane (af:bi) (t:Tmp) :dR G af (.tmp t)=af t:=id rfl
@[simp] theorem am4 (af:bi) (f:FuncId) :dR G af (.func f)=.fn f [] [] :=id rfl
@[simp] theorem am5 (af:bi) (g:Nat) :dR G af (.global g)=G g:=id rfl
@[simp] theorem am6 (af:bi) (k:IntKind) (n:Int) :dR G af (.const (.int k n))=.int k n:=id rfl
@[simp] theorem am3 (af:bi) (b:Bool) :dR G af (.const (.bool b))=.bool b:=id rfl
@[simp] theorem anc (af:bi) (s:ByteArray) :dR G af (.const (.string s))=.str s.data.toList:=id rfl
@[simp] theorem anb (af:bi) :dR G af (.const (.slice none 0 0))=.aV:=id rfl
@[simp] theorem ana (af:bi) :dR G af (.const (.pointer none))=.ka:=id rfl
@[simp] theorem am9 (af:bi) :dR G af (.const (.map none))=.iE:=id rfl
@[simp] theorem am7 (af:bi) :dR G af (.const .nilFunc)=.j8:=id rfl
@[simp] theorem am8 (af:bi) :dR G af (.const .nilIface)=.j9:=id rfl
@[simp] theorem anf (af:bi) :dR G af (.const (.tuple #[]))=.bJ [] :=id rfl
variable (aG:Operand->ad) (l:ap)
@[simp ↓] theorem aqC (x:Operand) :b5 P aG l (.gO x)=some (aG x,l) :=id rfl
@[simp ↓] theorem aqF (c a b:Operand) :b5 P aG l (.pick c a b)=dV l (Ib (aG c) (aG a) (aG b)) :=id rfl
@[simp ↓] theorem ap3 (z:List ad) :b5 P aG l (.alloc z)=some (.ptr l.length 0 z.length,l++[.cells z.length z]) :=id rfl
@[simp ↓] theorem ap8 (x:Operand) :b5 P aG l (.box x)=(aG x).cells.map fun cs=>(.ptr l.length 0 cs.length,l++[.cells cs.length cs]) :=id rfl
@[simp ↓] theorem ap7 (zero:List ad) (cT:List (Nat × Nat × Operand)) :b5 P aG l (.Ff zero cT)=dV l ((rq zero (cT.map fun p=>(p.1,p.2.1,aG p.2.2))).map .aI) :=id rfl
@[simp ↓] theorem ap9 (z:Nat) (zero:List ad) (len:Nat) (cT:List (Nat × Operand)) :b5 P aG l (.vL z zero len cT)=(h9 (fun i=>some (i*z,z)) (dZ zero len) (cT.map fun p=>(p.1,aG p.2))).map fun cs=>(.au z l.length 0 len len (len*z),l++[.cells (len*z) cs]) :=id rfl
@[simp ↓] theorem aqq (a:Operand) :b5 P aG l (.ld1 a)=dV l ((eZ l (aG a)).bind fun x=>x.1[x.2]?) :=id rfl
@[simp ↓] theorem aqr (n:Nat) (a:Operand) :b5 P aG l (.y5 n a)=dV l ((eZ l (aG a)).bind fun x=>vc n x.1 x.2) :=id rfl
@[simp ↓] theorem aqI (n:Nat) (a x:Operand) :b5 P aG l (.st n a x)=(kw n l (aG a) (aG x)).map fun l'=>(jg,l') :=id rfl
@[simp ↓] theorem aqD (x:Operand) :b5 P aG l (.HZ x)=dV l (Bp (aG x)) :=id rfl
@[simp ↓] theorem ap6 (o:BinOp) (t:TypeId) (x y:Operand) :b5 P aG l (.bin o t x y)=dV l (gq P o t (aG x) (aG y)) :=id rfl
@[simp ↓] theorem aqK (o:UnOp) (x:Operand) :b5 P aG l (.un o x)=dV l (so o (aG x)) :=id rfl
@[simp ↓] theorem aqc (k:IntKind) (x:Operand) :b5 P aG l (.Cn k x)=dV l (Fp k (aG x)) :=id rfl
@[simp ↓] theorem aqh (x:Operand) :b5 P aG l (.Cx x)=dV l (JR (aG x)) :=id rfl
@[simp ↓] theorem aqb (x:Operand) :b5 P aG l (.xT x)=dV l (xU l (aG x)) :=id rfl
@[simp ↓] theorem aqg (x:Operand) :b5 P aG l (.Cw x)=dV l (x1 (aG x)) :=id rfl
@[simp ↓] theorem aqy (t:TypeId) (x:Operand) :b5 P aG l (.D0 t x)=some (.hu t (aG x),l) :=id rfl
@[simp ↓] theorem aqJ (t:TypeId) (z:ad) (ok:Bool) (x:Operand) :b5 P aG l (.ED t z ok x)=dV l (EE t z ok (aG x)) :=id rfl
@[simp ↓] theorem aqx (f:FuncId) (a b:List Operand) :b5 P aG l (.DZ f a b)=some (.fn f (a.map aG) (b.map aG),l) :=id rfl
@[simp ↓] theorem aqA (z by_:Nat) (zero:List ad) (a c:Operand) :b5 P aG l (.w7 z by_ zero a c)=u5 z by_ zero l (aG a) (aG c) :=id rfl
@[simp ↓] theorem aqH (dX:kD) (x:Operand) (c0 ax cX:Option Operand) :b5 P aG l (.slice dX x c0 ax cX)=dV l (gS dX (aG x) (c0.map aG) (ax.map aG) (cX.map aG)) :=id rfl
@[simp ↓] theorem aqj (off:Nat) (x:Operand) :b5 P aG l (.FK off x)=dV l (oy (aG x) off) :=id rfl
@[simp ↓] theorem aqk (off:Nat) (x:Operand) :b5 P aG l (.FQ off x)=dV l (FS off (aG x)) :=id rfl
@[simp ↓] theorem aql (n off:Nat) (x:Operand) :b5 P aG l (.FR n off x)=dV l (CJ n off (aG x)) :=id rfl
@[simp ↓] theorem aqm (dX:kD) (x i:Operand) :b5 P aG l (.DI dX x i)=dV l (cd dX (aG x) (aG i)) :=id rfl
@[simp ↓] theorem aqn (n z:Nat) (x i:Operand) :b5 P aG l (.Hv n z x i)=dV l (Hy n z (aG x) (aG i)) :=id rfl
@[simp ↓] theorem aqo (n z:Nat) (x i:Operand) :b5 P aG l (.Hw n z x i)=dV l (Hz n z (aG x) (aG i)) :=id rfl
@[simp ↓] theorem aqp (x i:Operand) :b5 P aG l (.HB x i)=dV l (Bg (aG x) (aG i)) :=id rfl
@[simp ↓] theorem aqi (x:Operand) (i:Nat) :b5 P aG l (.ext x i)=dV l (FI (aG x) i) :=id rfl
@[simp ↓] theorem aqs (dX:kD) (x:Operand) :b5 P aG l (.len dX x)=dV l (cz dX (aG x)) :=id rfl
@[simp ↓] theorem aqa (dX:kD) (x:Operand) :b5 P aG l (.cap dX x)=dV l (vO dX (aG x)) :=id rfl
@[simp ↓] theorem ap4 (z by_:Nat) (s x:Operand) :b5 P aG l (.app z by_ s x)=i1 l z by_ (aG s) (aG x) :=id rfl
@[simp ↓] theorem ap5 (z by_:Nat) (zero:List ad) (s x:Operand) :b5 P aG l (.zO z by_ zero s x)=sG l z by_ zero (aG s) (aG x) :=id rfl
@[simp ↓] theorem aqf (z:Nat) (d x:Operand) :b5 P aG l (.Aa z d x)=Cv z l (aG d) (aG x) :=id rfl
@[simp ↓] theorem aqd (zero:List ad) (x:Operand) :b5 P aG l (.z6 zero x)=(uj zero l (aG x)).map fun l'=>(.bJ [],l') :=id rfl
@[simp ↓] theorem aqw (x y:Operand) :b5 P aG l (.min x y)=dV l (DY (aG x) (aG y)) :=id rfl
@[simp ↓] theorem aqv (x y:Operand) :b5 P aG l (.max x y)=dV l (w5 (aG x) (aG y)) :=id rfl
@[simp] theorem aqU (t:Bool) (a b:ad) :Ib (.bool t) a b=some (if t=true then a else b) :=id rfl
@[simp] theorem PW (cs:List ad) :(ad.aI cs).cells=some cs:=id rfl
@[simp] theorem amA (k:IntKind) (n:Int) :(ad.int k n).cells=some [.int k n] :=id rfl
@[simp] theorem amx (b:Bool) :(ad.bool b).cells=some [.bool b] :=id rfl
@[simp] theorem amJ (s:List UInt8) :(ad.str s).cells=some [.str s] :=id rfl
@[simp] theorem amF:ad.aV.cells=some [.aV] :=id rfl
@[simp] theorem amE:ad.ka.cells=some [.ka] :=id rfl
@[simp] theorem amC:ad.j8.cells=some [.j8] :=id rfl
@[simp] theorem amD:ad.iE.cells=some [.iE] :=id rfl
@[simp] theorem amH (z:Nat) (es:List (List ad)) :(ad.cq z es).cells=some [.cq z es] :=id rfl
@[simp] theorem amI (z b o n c s:Nat) :(ad.au z b o n c s).cells=some [.au z b o n c s] :=id rfl
@[simp] theorem amG (b o s:Nat) :(ad.ptr b o s).cells=some [.ptr b o s] :=id rfl
@[simp] theorem amz (f:FuncId) (a b:List ad) :(ad.fn f a b).cells=some [.fn f a b] :=id rfl
@[simp] theorem amB (b:Nat) :(ad.mp b).cells=some [.mp b] :=id rfl
@[simp] theorem amv (b off sz k:Nat) :oy (.ptr b off sz) k=some (.ptr b (off+k) sz) :=id rfl
@[simp] theorem amw (cs:List ad) (off k:Nat) :oy (.b0 cs off) k=some (.b0 cs (off+k)) :=id rfl
@[simp] theorem aqP (b o s:Nat) :Bp (.ptr b o s)=some (.ptr b o s) :=id rfl
@[simp] theorem aqQ (cs:List ad) (o:Nat) :Bp (.b0 cs o)=some (.b0 cs o) :=id rfl
@[simp] theorem aqO (f:FuncId) (a b:List ad) :Bp (.fn f a b)=some (.fn f a b) :=id rfl
def nB (x:Option aY) (off sz:Nat) :Option (List ad × Nat) :=match x with
 | some (.cells n cs)=>if n=sz then some (cs,off) else none
 | _=>none
@[simp] theorem aqZ (b off sz:Nat) :eZ l (.ptr b off sz)=nB l[b]? off sz:=by
 unfold eZ nB; rfl
@[simp] theorem aqY (n:Nat) (cs:List ad) (off sz:Nat) :nB (some (.cells n cs)) off sz=if n=sz then some (cs,off) else none:=id rfl
@[simp] theorem aq0 (cs:List ad) (off:Nat) :eZ l (.b0 cs off)=some (cs,off) :=id rfl
def Oh (n:Nat) (l:ap) (b off sz:Nat) (vs:List ad) (x:Option aY) :Option ap:=match x with
 | some (.cells m cs)=>if m=sz/\vs.length=n/\off+n<=m then some (l.set b (.cells m (bt cs off vs))) else none
 | _=>none
@[simp] theorem WF (n b off sz:Nat) (v:ad) :kw n l (.ptr b off sz) v=v.cells.bind fun vs=>Oh n l b off sz vs l[b]?:=by
 unfold kw Oh;cases v.cells<;>rfl
@[simp] theorem ajD (n b off sz:Nat) (vs:List ad) (m:Nat) (cs:List ad) :Oh n l b off sz vs (some (.cells m cs))=if m=sz/\vs.length=n/\off+n<=m then some (l.set b (.cells m (bt cs off vs))) else none:=id rfl
@[simp] theorem aqT (n:Nat) (cs:List ad) (off:Nat) :vc n cs off=if off+n<=cs.length then some (.aI ((cs.drop off).take n)) else none:=id rfl
@[simp] theorem ary (a:ad) (cs vs:List ad) (off:Nat) :bt (a::cs) (off+1) vs=a::bt cs off vs:=by
 simp only[bt,List.take_succ_cons,as5,show off+1+vs.length=(off+vs.length)+1 by omega,auX]
@[simp] theorem ajr (a v:ad) (cs vs:List ad) :bt (a::cs) 0 (v::vs)=v::bt cs 0 vs:=by simp[bt]
@[simp] theorem ajs (cs:List ad) :bt cs 0 []=cs:=by simp[bt]
@[simp] theorem arx (vs:List ad) :bt [] 0 vs=vs:=by simp[bt]
@[simp] theorem al4 (zero:List ad) :rq zero []=some zero:=id rfl
theorem YV (zero:List ad) (off size:Nat) (v:ad) (r:List (Nat × Nat × ad)) :rq zero ((off,size,v) ::r)=v.cells.bind fun vs=>if vs.length=size/\off+size<=zero.length then rq (bt zero off vs) r else none:=by
 rw[rq]; cases v.cells<;>rfl
attribute [simp] YV
@[simp] theorem anj (lW:Nat->Option (Nat × Nat)) (zero:List ad) :h9 lW zero []=some zero:=id rfl
@[simp] theorem ani (lW:Nat->Option (Nat × Nat)) (zero:List ad) (i:Nat) (v:ad) (r:List (Nat × ad)) :h9 lW zero ((i,v) ::r)=(lW i).bind fun q=>v.cells.bind fun vs=>if vs.length=q.2/\q.1+q.2<=zero.length then h9 lW (bt zero q.1 vs) r else none:=by
 rw[h9];cases lW i with
 | none=>rfl
 | some q=>cases v.cells<;>rfl
@[simp] theorem aq2 (zero:List ad) :dZ zero 0=[] :=id rfl
@[simp] theorem aq3 (zero:List ad) (n:Nat) :dZ zero (n+1)=zero++dZ zero n:=id rfl
@[simp] theorem alX (o:BinOp) (t:TypeId) (k:IntKind) (a:Int) (k' : IntKind) (b:Int) :gq P o t (.int k a) (.int k' b)=cB o k a k' b:=id rfl
@[simp] theorem al2 (o:BinOp) (t:TypeId) (a b:List UInt8) :gq P o t (.str a) (.str b)=ov o a b:=id rfl
@[simp] theorem alZ (k:IntKind) (a b:Int) :cB .lss k a k b=some (.bool (decide (a<b))) :=by simp[cB]
@[simp] theorem alY (k:IntKind) (a b:Int) :cB .leq k a k b=some (.bool (decide (a<=b))) :=by simp[cB]
@[simp] theorem alW (k:IntKind) (a b:Int) :cB .gtr k a k b=some (.bool (decide (b<a))) :=by simp[cB]
@[simp] theorem alV (k:IntKind) (a b:Int) :cB .geq k a k b=some (.bool (decide (b<=a))) :=by simp[cB]
@[simp] theorem alU (k:IntKind) (a b:Int) :cB .eql k a k b=some (.bool (decide (a=b))) :=by
 have:(a == b)=decide (a=b) :=by by_cases h:a=b<;>simp[h]
 simp[cB,this]
@[simp] theorem al1 (k:IntKind) (a b:Int) :cB .neq k a k b=some (.bool (!decide (a=b))) :=by
 have:(a != b)=!decide (a=b) :=by by_cases h:a=b<;>simp[h]
 simp[cB,this]
@[simp] theorem alT (k:IntKind) (a b:Int) :cB .add k a k b=some (.int k (k.wrap (a+b))) :=by simp[cB]
@[simp] theorem al3 (k:IntKind) (a b:Int) :cB .sub k a k b=some (.int k (k.wrap (a - b))) :=by simp[cB]
@[simp] theorem al0 (k:IntKind) (a b:Int) :cB .mul k a k b=some (.int k (k.wrap (a*b))) :=by simp[cB]
@[simp] theorem arL (b:Bool) :so .not (.bool b)=some (.bool (!b)) :=id rfl
@[simp] theorem arK (k:IntKind) (n:Int) :so .neg (.int k n)=some (.int k (k.wrap (0 - n))) :=id rfl
@[simp] theorem amM (k k' : IntKind) (n:Int) :Fp k (.int k' n)=some (.int k (k.wrap n)) :=id rfl
@[simp] theorem aoz (z en:Nat) (es:List (List ad)) (k:IntKind) (i:Int) :cd (.au z) (.cq en es) (.int k i)=if z=en/\0<=i then (es[i.toNat]?).map fun cs=>.b0 cs 0 else none:=id rfl
@[simp] theorem aoA (z en b off len cap sz:Nat) (k:IntKind) (i:Int) :cd (.au z) (.au en b off len cap sz) (.int k i)=if z=en/\0<=i/\i<len then some (.ptr b (off+i.toNat*z) sz) else none:=id rfl
@[simp] theorem aoy (n z:Nat) (x:ad) (k:IntKind) (i:Int) :cd (.arr n z) x (.int k i)=if 0<=i/\i<n then oy x (i.toNat*z) else none:=id rfl
@[simp] theorem apY (z:Nat) :cz (.au z) .aV=some (.int .i64 0) :=id rfl
@[simp] theorem ap0 (z en b o n c s:Nat) :cz (.au z) (.au en b o n c s)=some (.int .i64 n) :=id rfl
@[simp] theorem apZ (z en:Nat) (es:List (List ad)) :cz (.au z) (.cq en es)=some (.int .i64 es.length) :=id rfl
@[simp] theorem ap1 (s:List UInt8) :cz .str (.str s)=some (.int .i64 s.length) :=id rfl
@[simp] theorem apX (n z:Nat) (x:ad) :cz (.arr n z) x=some (.int .i64 n) :=id rfl
@[simp] theorem ang (vs:List ad) (i:Nat) :FI (.bJ vs) i=vs[i]?:=id rfl
@[simp] theorem ank (cs:List ad) (off:Nat) :FS off (.aI cs)=cs[off]?:=id rfl
@[simp] theorem anl (n off:Nat) (cs:List ad) :CJ n off (.aI cs)=vc n cs off:=id rfl
end

section
variable {P:Program} {G:Nat->ad}
inductive Rd (l:ap) :ad->ad->Prop
 | same (c:ad) (h:c.closed=true) :Rd l c c
 | aI (cs cs' : List ad) (am:cs'.length=cs.length) (h:∀ (j:Nat) (c c' : ad),cs[j]? = some c->cs'[j]? = some c'->Rd l c c') :Rd l (.aI cs) (.aI cs')
 | bJ (cs cs' : List ad) (am:cs'.length=cs.length) (h:∀ (j:Nat) (c c' : ad),cs[j]? = some c->cs'[j]? = some c'->Rd l c c') :Rd l (.bJ cs) (.bJ cs')
 | au (z b off len cap sz:Nat) (cs:List ad) (es:List (List ad)) (ag:l[b]? = some (.cells sz cs)) (am:es.length=len) (av:∀ e∈es,e.length=z)
   (cZ:off+len*z<=cs.length)
   (h:∀ (i j:Nat) (e:List ad) (c c' : ad),es[i]? = some e->e[j]? = some c'->cs[off+(i*z+j)]? = some c->Rd l c c') :Rd l (.au z b off len cap sz) (.cq z es)
 | vk (z b off cap sz:Nat) :Rd l (.au z b off 0 cap sz) (.cq z [])
theorem aib {w:World} {R:Nat->Prop} {B:Nat} {l:ap} {μ:cR} (rel:cc R B w (b8 l) μ) :∀ {c c' : ad},Rd l c c'->∀ {v:Value},aS w R (b8 l) μ c v->fO w R c' v:=by
 intro c c' aA
 induction aA with
 | same c h=>
  intro v aw;exact (fO.up (xX aw h) fun k _ hk=>⟨hk.1,fun ⟨b,m,h1,ae,al⟩=>by cases ae⟩:aS w R a6.empty (fun _=>none) _ v)
 | aI cs cs' am h aO=>
  intro v aw;cases aw with
  | aI _ vs gj h1 aw=>
   refine .aI cs' vs (by omega) h1 (fun j c' v aj fG=>?_);have aM:j<cs.length:=by rw[<-am]; exact (arY.1 aj).1
   exact aO j cs[j] c' (ar1 aM) aj (aw j cs[j] v (ar1 aM) fG)
 | bJ cs cs' am h aO=>
  intro v aw;cases aw with
  | bJ _ vs gj aw=>
   refine .bJ cs' vs (by omega) (fun j c' v aj fG=>?_);have aM:j<cs.length:=by rw[<-am]; exact (arY.1 aj).1
   exact aO j cs[j] c' (ar1 aM) aj (aw j cs[j] v (ar1 aM) fG)
 | vk z b off cap sz=>
  intro v aw;cases aw with
  | au _ _ _ _ _ _ cap' cs m ag hm am aq ah=>exact .fY z _ cap'
  | gX _ _ _ _ _ _ cap' a am ah ar=>exact .fY z _ cap'
  | ik _ _ _ _ a cs m ag hm=>exact .fY z a 0
 | au z b off len cap sz cs es ag am av cZ h aO=>
  intro v aw;have rF:(b8 l).f b=.cells sz cs:=ly.2 ag;cases aw with
  | ik _ _ _ _ a hW m fm i6=>
   obtain rfl:=asF.1 am;exact .fY z a 0
  | gX _ _ _ _ _ _ cap' a am ah ar=>
   exfalso;rcases ar with ar | ⟨n,hW,ar,aM⟩
   ·rw[rF] at ar; cases ar
   ·rw[rF] at ar; cases ar; omega
  | au _ _ _ _ _ _ cap' hW m fm hm gk aq ah=>
   rw[rF] at fm; cases fm;have hblk:=rel.blk b m hm;rw[rF] at hblk;obtain⟨cb,cM,arr,t,gB,hw,az,aD,np⟩:=hblk;have c9:len<=cap':=by rcases ah with ⟨_,h⟩ | ⟨_,h,_⟩<;>omega
   have pk:R m.r:=rel.up _ (rel.base b m (by rw[rF]; rfl) hm);subst am;have nY:∀ i j,i<es.length->j<z->∃ c v,cs[off+(i*z+j)]? = some c/\arr[m.s+(off+(i*z+j))]? = some v/\v.oneCell'=true/\aS w R (b8 l) μ c v:=by
    intro i j ax aj;have aM:off+(i*z+j)<cs.length:=by
     have:i*z+z<=es.length*z:=by rw[<-asB]; exact ar2 _ ax
     omega
    obtain⟨v,h1,ae,al⟩:=np _ _ (ar1 aM);exact⟨_,v,ar1 aM,h1,ae,al⟩
   refine .cq z es m.r (m.s+off) cap' (fun i j=>(arr[m.s+(off+(i*z+j))]?).getD undef) c9 av (fun i j ax aj=>?_) (fun i e ao j c' aj=>?_)
   ·obtain⟨c,v,h1,ae,al,aE⟩:=nY i j ax aj;refine⟨?_,?_,pk,fun ⟨b,m,h1,ae,al⟩=>by cases ae⟩
    ·simp only[World.cell?,hw,ae,asT,atU];rw[show m.s+off+(i*z+j)=m.s+(off+(i*z+j)) by omega,ae]; rfl
    ·rw[ae]; exact al
   ·have ax:i<es.length:=(arY.1 ao).1;have qz:j<z:=by rw[<-av e (ar4 ao)]; exact (arY.1 aj).1
    obtain⟨c,v,h1,ae,al,aE⟩:=nY i j ax qz;simp only[ae,asT];exact aO i j e c c' ao aj h1 aE
theorem bH (n2:P.follows .mixedOrders=true) (ma:∀ g,(G g).closed=true) {f:FuncId} {args:List ad} {r:ad} (h:dr P G f args [] (c:=⟨fun lY l=>Rd l lY r⟩)) :bx P G f args r:=by
 obtain⟨lY,l',h1,ae,al⟩:=h;intro w A vs ar am aw;refine (OB (A:=A) n2 ma h1 ar am aw).mono ?_;rintro e w' ⟨v,μ',rfl,ag,rel,aA⟩;exact⟨v,rfl,ag,aib rel al aA⟩
theorem aW {f:FuncId} {args:List ad} {r:ad} {l:ap} {K:ad->ap->Prop} (aC:bx P G f args r) (ah:aZ args=true) (h:K r l) :dr P G f args l (c:=⟨K⟩) :=
 ⟨r,l,.pure aC ah,ar0 _,h⟩
theorem afV (n2:P.follows .mixedOrders=true) (ma:∀ g,(G g).closed=true) {f:FuncId} {args:List ad} (h:dr P G f args [] (c:=⟨fun r _=>r=.bool true⟩))
  {w:World} {A:Nat->Prop} {vs:Array Value} (ar:∀ g,fO w A (G g) (.pointer (some ⟨g,0,none⟩))) (am:vs.size=args.length)
  (aw:∀ (j:Nat) (c:ad) (v:Value),args[j]? = some c->vs[j]? = some v->fO w A c v) :
  Calls P f vs w fun e w'=>e=.returned (.bool true)/\RowKit.Below w.heap.size w w':=by
 obtain⟨lY,l',h1,ae,rfl⟩:=h;exact aj3 n2 ma h1 ar am aw
end

section
variable {P:Program}
inductive ej (P:Program) :List TypeId->List ad->Prop
 | nil:ej P [] []
 | bool {t:TypeId} {b:Bool} {ts:List TypeId} {cs:List ad} (aP:P.underlying t=some .bool) (h:ej P ts cs) :ej P (t::ts) (.bool b::cs)
 | int {t:TypeId} {k:IntKind} {n:Int} {ts:List TypeId} {cs:List ad} (aP:P.underlying t=some (.int k)) (h1:k.min<=n) (ae:n<=k.max) (h:ej P ts cs) :ej P (t::ts) (.int k n::cs)
 | str {t:TypeId} {s:List UInt8} {ts:List TypeId} {cs:List ad} (aP:P.underlying t=some .string) (ak:s.length<=maxLen) (h:ej P ts cs) :ej P (t::ts) (.str s::cs)
 | aV {t e:TypeId} {ts:List TypeId} {cs:List ad} (aP:P.underlying t=some (.slice e)) (h:ej P ts cs) :ej P (t::ts) (.aV::cs)
 | au {t e:TypeId} {es:List (List ad)} {ts:List TypeId} {cs:List ad} (aP:P.underlying t=some (.slice e)) (am:es.length<=maxLen) (av:∀ r∈es,r.length=P.cellsOf e) (ao:∀ r∈es,ej P [e] r) (h:ej P ts cs) :ej P (t::ts) (.cq (P.cellsOf e) es::cs)
 | struct {t:TypeId} {fs:Array Field} {ts:List TypeId} {cs:List ad} (aP:P.underlying t=some (.struct fs)) (h:ej P (fs.toList.map (·.type)++ts) cs) :ej P (t::ts) cs
 | array {t e:TypeId} {n:Nat} {ts:List TypeId} {cs:List ad} (aP:P.underlying t=some (.array n e)) (h:ej P (List.replicate n e++ts) cs) :ej P (t::ts) cs
def vW (P:Program) :List Field->Nat->Option Nat
 | [],o=>some o
 | f::r,o=>if f.offset=o then vW P r (o+P.cellsOf f.type) else none
def vd (P:Program) :Nat->TypeId->Bool
 | 0,_=>false
 | d+1,t=>match P.underlying t with
  | some .bool | some (.int _) | some .string=>true
  | some (.slice e)=>decide (0<P.cellsOf e)&&vd P d e
  | some (.struct fs)=>decide (vW P fs.toList 0=some (P.cellsOf t))&&fs.toList.all fun f=>vd P d f.type
  | some (.array n e)=>decide (n*P.cellsOf e=P.cellsOf t)&&vd P d e
  | _=>false
structure p5 (P:Program) (w:World) (A:Nat->Prop) (ts:List TypeId) (vs:List Value) (cs:List ad) :Prop where
 len:cs.length=vs.length
 ty:∀ rc cs',ej P rc cs'->ej P (ts++rc) (cs++cs')
 rg:∀ (j:Nat) (c:ad) (v:Value),cs[j]? = some c->vs[j]? = some v->fO w A c v/\v.oneCell'=true
theorem p5.nil {w:World} {A:Nat->Prop}:p5 P w A [] [] [] :=⟨rfl,fun _ _ h=>h,fun j c v h=>by simp at h⟩
theorem p5.app {w:World} {A:Nat->Prop} {ts rc:List TypeId} {vs IQ:List Value} {cs cs' : List ad} (a:p5 P w A ts vs cs) (b:p5 P w A rc IQ cs') :p5 P w A (ts++rc) (vs++IQ) (cs++cs') :=by
 refine⟨by simp[a.len,b.len],fun arB am0 h=>by rw[ass,ass]; exact a.ty _ _ (b.ty _ _ h),fun j c v ah aw=>?_⟩;by_cases h:j<cs.length
 ·rw[arZ h] at ah;rw[arZ (by rw[<-a.len]; exact h)] at aw;exact a.rg j c v ah aw
 ·rw[ar8 (by omega)] at ah;rw[ar8 (by rw[<-a.len]; omega)] at aw;rw[<-a.len] at aw;exact b.rg _ c v ah aw
theorem HS {α kA:Type} {f:α->Option kA}:∀ {l:List α} {r:List kA},l.mapM f=some r->∀ (p:Nat) (a:α),l[p]? = some a->∃ x,r[p]? = some x/\f a=some x
 | [],r,h,p,a,az=>by simp at az
 | a0::l,r,h,p,a,az=>by
  rw[atO] at h;simp only[Option.bind_eq_bind,bind_some,at0,Option.some.injEq] at h;obtain⟨b,h1,dI,ae,rfl⟩:=h;cases p with
  | zero=>simp only[asw,Option.some.injEq] at az; subst az; exact⟨b,rfl,h1⟩
  | succ p=>obtain⟨x,al,aE⟩:=HS ae p a (by simpa using az); exact⟨x,by simpa using al,aE⟩
theorem D8 {w:World} {A:Nat->Prop} {c:ad} {v:Value} (h:fO w A c v) (h1:v.oneCell'=true) :∀ (j:Nat) (c' : ad) (a8:Value),[c][j]? = some c'->[v][j]? = some a8->fO w A c' a8/\a8.oneCell'=true:=by
 intro j c' a8 ah aw;cases j with
 | zero=>simp only[asw,Option.some.injEq] at ah aw; subst ah aw; exact⟨h,h1⟩
 | succ j=>simp at ah
theorem aj6 {H:Type} {enc:TypeId × Value->H} {w:World} {base:Nat} {spare:Nat->Bool} {held:Bool} {fuel:Nat} {t:TypeId} {vs:List Value} {x:DataW H × List MemPlace}
  (aP:P.underlying t=some .bool) (h:DataW.trod enc P w base spare held (fuel+1) t vs=some x) :∃ b,vs=[.bool b] :=by
 unfold DataW.trod at h;rw[aP] at h;split at h
 case h_1 b _=>exact⟨b,rfl⟩
 all_goals first | (cases h; done) | (rename_i heq; cases heq; done) | (rename_i heq _; cases heq; done) | (rename_i heq _ _; cases heq; done) | (rename_i heq _ _ _; cases heq; done) | (simp_all; done)
theorem trod_int {H:Type} {enc:TypeId × Value->H} {w:World} {base:Nat} {spare:Nat->Bool} {held:Bool} {fuel:Nat} {t:TypeId} {k:IntKind} {vs:List Value} {x:DataW H × List MemPlace}
  (aP:P.underlying t=some (.int k)) (h:DataW.trod enc P w base spare held (fuel+1) t vs=some x) :∃ n,vs=[.int k n]/\k.min<=n/\n<=k.max:=by
 unfold DataW.trod at h;rw[aP] at h;split at h<;>simp only[reduceCtorEq,Option.some.injEq,TypeDesc.int.injEq] at *<;>try (exfalso; simp_all; done)
 rename_i g7 k' n heq;subst heq;split at h
 ·rename_i ah;obtain⟨rfl,hw⟩:=ah;simp only[Lit.wf,ar3,decide_eq_true_eq] at hw;exact⟨n,rfl,hw.1,hw.2⟩
 ·cases h
theorem aj8 {H:Type} {enc:TypeId × Value->H} {w:World} {base:Nat} {spare:Nat->Bool} {held:Bool} {fuel:Nat} {t:TypeId} {vs:List Value} {x:DataW H × List MemPlace}
  (aP:P.underlying t=some .string) (h:DataW.trod enc P w base spare held (fuel+1) t vs=some x) :∃ s,vs=[.string s]/\s.size<=maxLen:=by
 unfold DataW.trod at h;rw[aP] at h;split at h<;>simp only[reduceCtorEq,Option.some.injEq] at *<;>try (exfalso; simp_all; done)
 split at h
 ·rename_i s _ ak; exact⟨s,rfl,ak⟩
 ·cases h
theorem aj7 {H:Type} {enc:TypeId × Value->H} {w:World} {base:Nat} {spare:Nat->Bool} {held:Bool} {fuel:Nat} {t e:TypeId} {vs:List Value} {x:DataW H × List MemPlace}
  (aP:P.underlying t=some (.slice e)) (h:DataW.trod enc P w base spare held (fuel+1) t vs=some x) :
  vs=[.slice none 0 0]\/∃ a len cap,vs=[.slice (some a) len cap]/\len<=cap/\cap<=maxLen/\∃ FB,(List.range len).mapM (fun i=>(w.cells? base (a.add (i*P.cellsOf e)) (P.cellsOf e)).bind (DataW.trod enc P w base spare held fuel e))=some FB:=by
 unfold DataW.trod at h;rw[aP] at h;split at h<;>simp only[reduceCtorEq,Option.some.injEq,TypeDesc.slice.injEq] at *<;>try (exfalso; simp_all; done)
 ·exact .inl trivial
 ·rename_i h8 a len cap heq;subst heq;split at h
  ·rename_i ah;rw[bind_some] at h;obtain⟨FB,h1,_⟩:=h;exact .inr ⟨a,len,cap,rfl,ah.2.1,ah.2.2,FB,h1⟩
  ·cases h
theorem aj9 {H:Type} {enc:TypeId × Value->H} {w:World} {base:Nat} {spare:Nat->Bool} {held:Bool} {fuel:Nat} {t:TypeId} {fs:Array Field} {vs:List Value} {x:DataW H × List MemPlace}
  (aP:P.underlying t=some (.struct fs)) (h:DataW.trod enc P w base spare held (fuel+1) t vs=some x) :
  vs.length=P.cellsOf t/\∃ xs,(fs.toList.mapM fun f=>DataW.trod enc P w base spare held fuel f.type ((vs.drop f.offset).take (P.cellsOf f.type)))=some xs:=by
 unfold DataW.trod at h;rw[aP] at h;split at h<;>simp only[reduceCtorEq,Option.some.injEq,TypeDesc.struct.injEq] at *<;>try (exfalso; simp_all; done)
 rename_i ano heq;subst heq;split at h
 ·rename_i ah;rw[map_some] at h;obtain⟨xs,h1,_⟩:=h;exact⟨ah,xs,h1⟩
 ·cases h
theorem trod_array {H:Type} {enc:TypeId × Value->H} {w:World} {base:Nat} {spare:Nat->Bool} {held:Bool} {fuel:Nat} {t e:TypeId} {n:Nat} {vs:List Value} {x:DataW H × List MemPlace}
  (aP:P.underlying t=some (.array n e)) (h:DataW.trod enc P w base spare held (fuel+1) t vs=some x) :
  vs.length=P.cellsOf t/\∃ xs,((List.range n).mapM fun i=>DataW.trod enc P w base spare held fuel e ((vs.drop (i*P.cellsOf e)).take (P.cellsOf e)))=some xs:=by
 unfold DataW.trod at h;rw[aP] at h;split at h<;>simp only[reduceCtorEq,Option.some.injEq,TypeDesc.array.injEq] at *<;>try (exfalso; simp_all; done)
 rename_i aqN h8 heq;obtain⟨rfl,rfl⟩:=heq;split at h
 ·rename_i ah;rw[map_some] at h;obtain⟨xs,h1,_⟩:=h;exact⟨ah,xs,h1⟩
 ·cases h
theorem Yp (a:Addr) (x j:Nat) :a.add (x+j)=(a.add x).add j:=by
 unfold Addr.add;by_cases ai:x=0
 ·subst ai; simp
 ·by_cases aj:j=0
  ·subst aj; simp
  ·rw[if_neg (by omega),if_neg ai,if_neg aj];simp only[atJ]
theorem add_plain (b o n:Nat) :(Addr.mk b o none).add n=⟨b,o+n,none⟩:=by
 unfold Addr.add;by_cases aF:n=0
 ·subst aF; simp
 ·rw[if_neg aF]
theorem W0 {H:Type} {enc:TypeId × Value->H} {w:World} {A:Nat->Prop} (cv:∀ k,A k) {base:Nat} {spare:Nat->Bool} {held:Bool}:∀ (fuel:Nat) (D:Nat) (t:TypeId) (vs:List Value) (d:DataW H) (cT:List MemPlace),
  vd P D t=true->DataW.trod enc P w base spare held fuel t vs=some (d,cT)->∃ cs,p5 P w A [t] vs cs
 | 0,_,_,_,_,_,_,h=>by simp[DataW.trod] at h
 | fuel+1,0,t,vs,d,cT,aC,h=>by cases aC
 | fuel+1,D+1,t,vs,d,cT,aC,h=>by
  have aO:=fun t vs d cT aC h=>W0 cv (enc:=enc) (w:=w) (base:=base) (spare:=spare) (held:=held) fuel D t vs d cT aC h
  unfold vd at aC;split at aC
  ·rename_i aP;obtain⟨b,rfl⟩:=aj6 aP h;exact⟨[.bool b],⟨rfl,fun rc cs' h=>.bool aP h,D8 (.bool b) rfl⟩⟩
  ·rename_i k aP;obtain⟨n,rfl,h1,ae⟩:=trod_int aP h;exact⟨[.int k n],⟨rfl,fun rc cs' h=>.int aP h1 ae h,D8 (.int k n) rfl⟩⟩
  ·rename_i aP;obtain⟨s,rfl,h1⟩:=aj8 aP h;exact⟨[.str s.data.toList],⟨rfl,fun rc cs' h=>.str aP (show s.data.toList.length<=maxLen from h1) h,D8 (.str s) rfl⟩⟩
  ·rename_i e aP;simp only[ar3,decide_eq_true_eq] at aC;rcases aj7 aP h with rfl | ⟨a,len,cap,rfl,pw,gV,FB,ao⟩
   ·exact⟨[.aV],⟨rfl,fun rc cs' h=>.aV aP h,D8 .aV rfl⟩⟩
   ·have cI:∀ i,i<len->∃ eI row,w.cells? base (a.add (i*P.cellsOf e)) (P.cellsOf e)=some eI/\p5 P w A [e] eI row:=fun i ax=>by
     obtain⟨x,_,ai⟩:=HS ao i i (by rw[asI ax]);rw[bind_some] at ai;obtain⟨eI,h1,ae⟩:=ai;obtain⟨row,al⟩:=aO e eI x.1 x.2 aC.2 ae;exact⟨eI,row,h1,al⟩
    have rH:∃ (eI:Nat->List Value) (rows:Nat->List ad),∀ i,i<len->w.cells? base (a.add (i*P.cellsOf e)) (P.cellsOf e)=some (eI i)/\p5 P w A [e] (eI i) (rows i) :=by
     refine⟨fun i=>if ax:i<len then (cI i ax).choose else [],fun i=>if ax:i<len then (cI i ax).choose_spec.choose else [],fun i ax=>?_⟩;simp only[dif_pos ax];exact (cI i ax).choose_spec.choose_spec
    obtain⟨eI,rows,aw⟩:=rH;have jX:∀ i,i<len->(eI i).length=P.cellsOf e/\∀ j,j<P.cellsOf e->∃ v,(eI i)[j]? = some v/\w.cell? (a.add (i*P.cellsOf e+j))=some v:=fun i ax=>by
     have h1:=(aw i ax).1;unfold World.cells? at h1;split at h1
     ·refine⟨by rw[MU h1]; simp,fun j aj=>?_⟩;obtain⟨v,ae,al⟩:=HS h1 j j (by rw[asI aj]);refine⟨v,ae,?_⟩;rw[<-al,Yp]
     ·cases h1
    let es:=(List.range len).map rows
    have lK:∀ (i:Nat) (r:List ad),es[i]? = some r->i<len/\r=rows i:=fun i r aA=>by
     simp only[es,ar5] at aA;by_cases ax:i<len
     ·rw[asI ax] at aA; simp only[asb,Option.some.injEq] at aA; exact⟨ax,aA.symm⟩
     ·rw[ase (by simp; omega)] at aA; cases aA
    have bn:es.length=len:=by simp[es]
    have av:∀ r∈es,r.length=P.cellsOf e:=fun r aA=>by
     obtain⟨i,ax⟩:=at1 aA;obtain⟨h1,rfl⟩:=lK i r ax;rw[(aw i h1).2.len,(jX i h1).1]
    have A0:∀ r∈es,ej P [e] r:=fun r aA=>by
     obtain⟨i,ax⟩:=at1 aA;obtain⟨h1,rfl⟩:=lK i r ax;have:=(aw i h1).2.ty [] [] .nil;simpa using this
    refine⟨[.cq (P.cellsOf e) es],⟨rfl,fun rc cs' h=>.au aP (by omega) av A0 h,D8 ?_ rfl⟩⟩;by_cases aB:len=0
    ·subst aB;exact .fY _ _ _
    ·obtain⟨v0,_,iP⟩:=(jX 0 (by omega)).2 0 aC.1;have Tq:a.spot=none:=by
      unfold World.cell? at iP;split at iP
      ·split at iP
       ·cases iP
       ·rename_i ak;rw[show 0*P.cellsOf e+0=0 by omega] at ak;simp only[Addr.add,if_true] at ak;cases hN:a.spot with
        | none=>rfl
        | some x=>rw[hN] at ak; simp at ak
      ·cases iP
     obtain⟨blk,off,spot⟩:=a;simp only at Tq;subst Tq;have key:=aS.cq (w:=w) (R:=A) (h:=a6.empty) (μ:=fun _=>none) (P.cellsOf e) es blk off cap (fun i j=>((eI i)[j]?).getD undef) (by omega) av
      (fun i j ax aj=>by
       rw[bn] at ax;obtain⟨v,h1,ae⟩:=(jX i ax).2 j aj;obtain⟨c,ah⟩:∃ c,(rows i)[j]? = some c:=by
        have:j<(rows i).length:=by rw[(aw i ax).2.len,(jX i ax).1]; exact aj
        exact⟨_,ar1 this⟩
       refine⟨?_,?_,cv _,fun ⟨b,m,h1,ae,al⟩=>by cases ae⟩
       ·rw[h1,asT,<-add_plain]; exact ae
       ·rw[h1,asT]; exact ((aw i ax).2.rg j c v ah h1).2)
      (fun i r aA j c ah=>by
       obtain⟨ax,rfl⟩:=lK i r aA;have aj:j<P.cellsOf e:=by rw[<-(jX i ax).1,<-(aw i ax).2.len]; exact (arY.1 ah).1
       obtain⟨v,h1,ae⟩:=(jX i ax).2 j aj;rw[h1,asT];exact ((aw i ax).2.rg j c v ah h1).1)
     rw[bn] at key;exact key
  ·rename_i fs aP;simp only[ar3,decide_eq_true_eq,asZ] at aC;obtain⟨bn,xs,ai⟩:=aj9 aP h;have CN:∀ (fs:List Field) (o:Nat) (xs:List (DataW H × List MemPlace)),vW P fs o=some vs.length->o<=vs.length->(∀ f∈fs,vd P D f.type=true)->
     (fs.mapM fun f=>DataW.trod enc P w base spare held fuel f.type ((vs.drop f.offset).take (P.cellsOf f.type)))=some xs->∃ cs,p5 P w A (fs.map (·.type)) (vs.drop o) cs:=by
    intro fs
    induction fs with
    | nil=>intro o xs ah aq _ _; simp only[vW,Option.some.injEq] at ah; rw[ah,avg]; exact⟨[],.nil⟩
    | cons f fs aeX=>
     intro o xs ah aq gL hm;simp only[vW] at ah;split at ah
     ·rename_i oI;rw[atO] at hm;simp only[Option.bind_eq_bind,bind_some,at0,Option.some.injEq] at hm;obtain⟨x,h1,alp,ae,_⟩:=hm;have adN:∀ (fs:List Field) (o n:Nat),vW P fs o=some n->o<=n:=by
       intro fs
       induction fs with
       | nil=>intro o n h; simp only[vW,Option.some.injEq] at h; omega
       | cons g gs aeY=>
        intro o n h;simp only[vW] at h;split at h
        ·have:=aeY _ _ h; omega
        ·cases h
      have dT:=adN _ _ _ ah;obtain⟨cm,bX⟩:=aO f.type _ x.1 x.2 (gL f (by simp)) h1;obtain⟨dk,w2⟩:=aeX _ alp ah dT (fun g ar=>gL g (by simp[ar])) ae;refine⟨cm++dk,?_⟩;have:=bX.app w2;rw[oI,show List.drop (o+P.cellsOf f.type) vs=List.drop (P.cellsOf f.type) (List.drop o vs) by rw[auA],asK] at this;exact this
     ·cases ah
   obtain⟨cs,hw⟩:=CN fs.toList 0 xs (by rw[bn]; exact aC.1) (ato _) aC.2 ai;rw[as1] at hw;exact⟨cs,⟨hw.len,fun rc cs' h=>.struct aP (hw.ty _ _ h),hw.rg⟩⟩
  ·rename_i n e aP;simp only[ar3,decide_eq_true_eq] at aC;obtain⟨bn,xs,ai⟩:=trod_array aP h;have aec:∀ i,i<n->∃ c,p5 P w A [e] ((vs.drop (i*P.cellsOf e)).take (P.cellsOf e)) c:=fun i ax=>by
    obtain⟨x,_,h1⟩:=HS ai i i (by rw[asI ax]);exact aO e _ x.1 x.2 aC.2 h1
   have CN:∀ m,m<=n->∃ cs,p5 P w A (List.replicate m e) (vs.drop ((n - m)*P.cellsOf e)) cs:=by
    intro m
    induction m with
    | zero=>intro _; rw[auT,asV (by omega)]; exact⟨[],.nil⟩
    | succ m Mk=>
     intro hm;obtain⟨cm,bX⟩:=aec (n - (m+1)) (by omega);obtain⟨dk,w2⟩:=Mk (by omega);refine⟨cm++dk,?_⟩;have:=bX.app w2;have wz:(n - m)*P.cellsOf e=(n - (m+1))*P.cellsOf e+P.cellsOf e:=by rw[<-asB]; congr 1; omega
     rw[wz,<-auA,asK] at this;exact this
   obtain⟨cs,hw⟩:=CN n (ar0 _);rw[aui,aug,as1] at hw;exact⟨cs,⟨hw.len,fun rc cs' h=>.array aP (hw.ty _ _ h),hw.rg⟩⟩
  ·cases aC
def uc (P:Program) (t:TypeId) (c:ad) :Prop:=match eA P t with
 | some true=>∃ cs,c=.aI cs/\ej P [t] cs
 | _=>ej P [t] [c]
inductive nh (P:Program) :List TypeId->List ad->Prop
 | nil:nh P [] []
 | cons {t:TypeId} {c:ad} {ts:List TypeId} {cs:List ad}:uc P t c->nh P ts cs->nh P (t::ts) (c::cs)
theorem Pw {H:Type} {enc:TypeId × Value->H} {w:World} {A:Nat->Prop} (cv:∀ k,A k) {base hF:Nat} {spare:Nat->Bool} {held:Bool} {D:Nat}:∀ {ts:List TypeId} {vs:List Value} {ir:List (DataW H)} {cT:List MemPlace},
  (∀ t∈ts,vd P D t=true)->(∀ (j:Nat) t v,ts[j]? = some t->vs[j]? = some v->Value.okWide P w .any hF t v)->DataW.TrodAll enc P w base spare held ts vs ir cT->
  ∃ cs,nh P ts cs/\cs.length=vs.length/\∀ (j:Nat) (c:ad) (v:Value),cs[j]? = some c->vs[j]? = some v->fO w A c v
 | [],[],_,_,_,_,_=>⟨[],.nil,rfl,fun j c v h=>by simp at h⟩
 | [],_::_,ir,_,_,_,h=>by cases ir<;>cases h
 | _::_,[],ir,_,_,_,h=>by cases ir<;>cases h
 | _::_,_::_,[],_,_,_,h=>by cases h
 | t::ts,v::vs,d::ir,cT,aC,da,h=>by
  obtain⟨p,q,⟨fuel,aJ⟩,aA,_⟩:=h;obtain⟨cs,h1,ae,al⟩:=Pw cv (fun t aJ=>aC t (by simp[aJ])) (fun j t v aJ aw=>da (j+1) t v (by simpa using aJ) (by simpa using aw)) aA;obtain⟨cm,bX⟩:=W0 cv fuel D t v.cells.toList d p (aC t (by simp)) aJ;have A0:ej P [t] cm:=by simpa using bX.ty [] [] .nil
  have aw:=da 0 t v rfl rfl;have fin:∀ c,uc P t c->fO w A c v->∃ cs,nh P (t::ts) cs/\cs.length=(v::vs).length/\∀ (j:Nat) (c:ad) (a8:Value),cs[j]? = some c->(v::vs)[j]? = some a8->fO w A c a8:=fun c ah kk=>
   ⟨c::cs,.cons ah h1,by simp[ae],fun j c' a8 aj fG=>by
    cases j with
    | zero=>simp only[asw,Option.some.injEq] at aj fG; subst aj fG; exact kk
    | succ j=>exact al j c' a8 (by simpa using aj) (by simpa using fG)⟩
  unfold Value.okWide at aw;have agg:eA P t=(P.underlying t).map fun d=>match d with | .struct _ | .array _ _=>true | _=>false:=rfl
  cases aP:P.underlying t with
  | none=>
   exfalso;have:=aC t (by simp);cases D with
   | zero=>cases this
   | succ D=>unfold vd at this; rw[aP] at this; cases this
  | some Ql=>
   rw[aP] at aw agg;have afr:(∃ cs,v=.agg cs)->eA P t=some true->∃ cs,nh P (t::ts) cs/\cs.length=(v::vs).length/\∀ (j:Nat) (c:ad) (a8:Value),cs[j]? = some c->(v::vs)[j]? = some a8->fO w A c a8:=by
    rintro⟨xs,rfl⟩ pm;refine fin (.aI cm) (by unfold uc; rw[pm]; exact⟨cm,rfl,A0⟩) (.aI cm xs (by have:=bX.len; simp only[Value.cells,at5] at this; exact this.symm) (fun j x ai=>?_) (fun j c x ah ai=>?_))
    ·have aM:j<cm.length:=by rw[bX.len]; simp only[Value.cells,at5]; exact (asG.1 ai).1
     exact (bX.rg j cm[j] x (ar1 aM) (by simpa [Value.cells] using ai)).2
    ·exact (bX.rg j c x ah (by simpa [Value.cells] using ai)).1
   have afs:(∀ xs,v≠.agg xs)->eA P t=some false->∃ cs,nh P (t::ts) cs/\cs.length=(v::vs).length/\∀ (j:Nat) (c:ad) (a8:Value),cs[j]? = some c->(v::vs)[j]? = some a8->fO w A c a8:=by
    intro bU pm;have jX:v.cells.toList=[v] :=by cases v<;>first | rfl | exact absurd rfl (bU _)
    have am:=bX.len;rw[jX] at am;obtain⟨c,rfl⟩:∃ c,cm=[c] :=List.length_eq_one_iff.1 am;refine fin c (by unfold uc; rw[pm]; exact A0) (bX.rg 0 c v rfl (by rw[jX]; rfl)).1
   have agA:Cell.okWide P w .any hF t v->∀ xs,v≠.agg xs:=by
    rintro ah xs rfl;unfold Cell.okWide at ah;rw[aP] at ah;cases Ql<;>simp[Cell.ok,aP] at ah
   cases Ql<;>simp only[asb] at agg<;>first
    | exact afr (by obtain⟨cs,h,_⟩:=aw; exact⟨cs,h⟩) agg
    | exact afs (agA aw) agg
end
abbrev dg (α:Type) :=Option (List α)
def dg.l {α:Type} (s:dg α) :List α:=s.getD []
@[simp] theorem dg.apV {α:Type}:dg.l (none:dg α)=[] :=rfl
@[simp] theorem dg.tt {α:Type} (l:List α) :dg.l (some l)=l:=rfl
def cL {α:Type} (z:Nat) (enc:α->List ad) :dg α->ad
 | none=>.aV
 | some l=>.cq z (l.map enc)
section
variable {α:Type} {z:Nat} {enc:α->List ad}
@[simp] theorem r6 (s:dg α) :cz (.au z) (cL z enc s)=some (.int .i64 s.l.length) :=by cases s<;>simp[cL,dg.l]
@[simp] theorem th (s:dg α) (k:IntKind) (i:Int) :cd (.au z) (cL z enc s) (.int k i)=if 0<=i then (s.l[i.toNat]?).map fun x=>.b0 (enc x) 0 else none:=by
 cases s with
 | none=>by_cases h:0<=i<;>simp[cL,dg.l,cd,h]
 | some l=>by_cases h:0<=i<;>simp[cL,dg.l,h,Function.comp_def]
@[simp] theorem amy (s:dg α) :(cL z enc s).cells=some [cL z enc s] :=by cases s<;>rfl
theorem xW (h:∀ x,aZ (enc x)=true) (s:dg α) :(cL z enc s).closed=true:=by
 cases s with
 | none=>rfl
 | some l=>
  simp only[cL,ad.closed]
  induction l with
  | nil=>rfl
  | cons x l aO=>simp only[ast,Cp,h,aO,atK]
end
theorem wrap_i64 {n:Int} (h1:-9223372036854775808<=n) (ae:n<9223372036854775808) :IntKind.i64.wrap n=n:=by
 have aR:(2 ^ IntKind.i64.bits:Int)=18446744073709551616:=by decide
 have bE:(2 ^ (IntKind.i64.bits - 1) :Int)=9223372036854775808:=by decide
 have c4:IntKind.i64.signed=true:=rfl;simp only[IntKind.wrap,aR,bE,c4,asM,decide_eq_true_eq];split<;>omega
theorem bu {α:Type} {l:List α} {k:Nat} (h:k<l.length) :∃ x,l[k]? = some x/\x∈l:=⟨l[k],ar1 h,auI h⟩
section
variable {P:Program} {G:Nat->ad}
theorem Fb {t e:TypeId} (aP:P.underlying t=some (.slice e)) {α:Type} (z:Nat) (enc:α->List ad) (s:dg α) :gq P .eql t (cL z enc s) .aV=some (.bool s.isNone) :=by
 cases s<;>simp[cL,gq,x4,eW,aP]
theorem aao {e:TypeId} {k:IntKind} (aP:P.underlying e=some (.int k)) (az:eA P e=some false) {D:Nat} (x y:List Int) :∀ (n i:Nat),i+n=x.length->i+n=y.length->
  eW.sO P (eW P (D+1)) e 1 (x.map (.int k)) (y.map (.int k)) n i=some (decide (x.drop i=y.drop i)) :=by
 intro n
 induction n with
 | zero=>intro i ai ay; rw[asV (by omega),asV (by omega)]; simp[eW.sO]
 | succ n aO=>
  intro i ai ay;have iQ:x[i]? = some x[i] :=ar1 (by omega);have Hm:y[i]? = some y[i] :=ar1 (by omega);unfold eW.sO;simp only[Ng az,atC,ar5,iQ,Hm,asb];have ao:eW P (D+1) e (.int k x[i]) (.int k y[i])=some (decide (x[i]=y[i])) :=by
   unfold eW;rw[aP];simp only[if_true];by_cases h:x[i]=y[i]<;>simp[h]
  rw[ao];have R9:x.drop i=x[i] ::x.drop (i+1) :=asS (by omega);have Sa:y.drop i=y[i] ::y.drop (i+1) :=asS (by omega);by_cases h:x[i]=y[i]
  ·simp only[h,decide_true];rw[aO (i+1) (by omega) (by omega)];refine congrArg some (decide_eq_decide.2 ?_);rw[R9,Sa,h];simp only[List.cons.injEq,true_and]
  ·simp only[h,decide_false];refine congrArg some (decide_eq_false ?_).symm;rw[R9,Sa];simp only[List.cons.injEq,h,false_and,not_false_eq_true]
theorem aav {t e:TypeId} {k:IntKind} {n:Nat} (aJ:P.underlying t=some (.array n e)) (aP:P.underlying e=some (.int k)) (az:eA P e=some false) (ak:cG P e=some 1) {x y:List Int} (ai:x.length=n) (ay:y.length=n) {D:Nat} :
  eW P (D+2) t (.aI (x.map (.int k))) (.aI (y.map (.int k)))=some (decide (x=y)) :=by
 unfold eW;rw[aJ];simp only[ak];rw[aao aP az x y n 0 (by omega) (by omega)];simp
theorem QR {z:Nat} {es:List (List ad)} (av:∀ e∈es,e.length=z) :es.flatten.length=es.length*z:=by
 induction es with
 | nil=>simp
 | cons e es aO=>rw[as4,asa,av e (by simp),aO fun e ao=>av e (by simp[ao]),asp,asB,avd]
theorem FP {z:Nat} {es:List (List ad)} (av:∀ e∈es,e.length=z) {i j:Nat} {e:List ad} (ao:es[i]? = some e) (aj:j<z) :es.flatten[i*z+j]? = e[j]?:=by
 induction es generalizing i with
 | nil=>simp at ao
 | cons x es aO=>
  have ai:x.length=z:=av x (by simp);cases i with
  | zero=>
   simp only[asw,Option.some.injEq] at ao;subst ao;rw[as4,aug,as8,arZ (by omega)]
  | succ i=>
   simp only[asP] at ao;rw[as4,ar8 (by rw[ai,asB]; omega),ai,show (i+1)*z+j - z=i*z+j by rw[asB]; omega];exact aO (fun e ao=>av e (by simp[ao])) ao
theorem dF {af:bi} {i:Nat} {v:ad} (h:af i=v) :bY af i v=af:=by
 funext t; simp only[bY]; split<;>simp_all
theorem nE {af:bi} {eg:Nat} {eh:ad} {eK:Nat} {dz:ad} (h1:af eg=eh) (ae:af eK=dz) :∃ s:bi,af=bY (bY (s) eg eh) eK dz:=⟨af,by rw[dF h1,dF ae]⟩
theorem kb {af:bi} {eg:Nat} {eh:ad} {eK:Nat} {dz:ad} {hO:Nat} {v3:ad} (h1:af eg=eh) (ae:af eK=dz) (al:af hO=v3) :∃ s:bi,af=bY (bY (bY (s) eg eh) eK dz) hO v3:=⟨af,by rw[dF h1,dF ae,dF al]⟩
theorem jh {af:bi} {eg:Nat} {eh:ad} {eK:Nat} {dz:ad} {hO:Nat} {v3:ad} {j3:Nat} {v4:ad} (h1:af eg=eh) (ae:af eK=dz) (al:af hO=v3) (aE:af j3=v4) :∃ s:bi,af=bY (bY (bY (bY (s) eg eh) eK dz) hO v3) j3 v4:=⟨af,by rw[dF h1,dF ae,dF al,dF aE]⟩
theorem ky {af:bi} {eg:Nat} {eh:ad} {eK:Nat} {dz:ad} {hO:Nat} {v3:ad} {j3:Nat} {v4:ad} {lh:Nat} {v5:ad} (h1:af eg=eh) (ae:af eK=dz) (al:af hO=v3) (aE:af j3=v4) (aU:af lh=v5) :∃ s:bi,af=bY (bY (bY (bY (bY (s) eg eh) eK dz) hO v3) j3 v4) lh v5:=⟨af,by rw[dF h1,dF ae,dF al,dF aE,dF aU]⟩
theorem vp {af:bi} {eg:Nat} {eh:ad} {eK:Nat} {dz:ad} {hO:Nat} {v3:ad} {j3:Nat} {v4:ad} {lh:Nat} {v5:ad} {m2:Nat} {dP:ad} (h1:af eg=eh) (ae:af eK=dz) (al:af hO=v3) (aE:af j3=v4) (aU:af lh=v5) (bz:af m2=dP) :∃ s:bi,af=bY (bY (bY (bY (bY (bY (s) eg eh) eK dz) hO v3) j3 v4) lh v5) m2 dP:=⟨af,by rw[dF h1,dF ae,dF al,dF aE,dF aU,dF bz]⟩
theorem EK {af:bi} {eg:Nat} {eh:ad} {eK:Nat} {dz:ad} {hO:Nat} {v3:ad} {j3:Nat} {v4:ad} {lh:Nat} {v5:ad} {m2:Nat} {dP:ad} {j4:Nat} {oY:ad} (h1:af eg=eh) (ae:af eK=dz) (al:af hO=v3) (aE:af j3=v4) (aU:af lh=v5) (bz:af m2=dP) (dy:af j4=oY) :∃ s:bi,af=bY (bY (bY (bY (bY (bY (bY (s) eg eh) eK dz) hO v3) j3 v4) lh v5) m2 dP) j4 oY:=⟨af,by rw[dF h1,dF ae,dF al,dF aE,dF aU,dF bz,dF dy]⟩
theorem Xa {af:bi} {eg:Nat} {eh:ad} {eK:Nat} {dz:ad} {hO:Nat} {v3:ad} {j3:Nat} {v4:ad} {lh:Nat} {v5:ad} {m2:Nat} {dP:ad} {j4:Nat} {oY:ad} {r1:Nat} {lu:ad} (h1:af eg=eh) (ae:af eK=dz) (al:af hO=v3) (aE:af j3=v4) (aU:af lh=v5) (bz:af m2=dP) (dy:af j4=oY) (eQ:af r1=lu) :∃ s:bi,af=bY (bY (bY (bY (bY (bY (bY (bY (s) eg eh) eK dz) hO v3) j3 v4) lh v5) m2 dP) j4 oY) r1 lu:=⟨af,by rw[dF h1,dF ae,dF al,dF aE,dF aU,dF bz,dF dy,dF eQ]⟩
theorem Xb {af:bi} {eg:Nat} {eh:ad} {eK:Nat} {dz:ad} {hO:Nat} {v3:ad} {j3:Nat} {v4:ad} {lh:Nat} {v5:ad} {m2:Nat} {dP:ad} {j4:Nat} {oY:ad} {r1:Nat} {lu:ad} {wX:Nat} {v9:ad} (h1:af eg=eh) (ae:af eK=dz) (al:af hO=v3) (aE:af j3=v4) (aU:af lh=v5) (bz:af m2=dP) (dy:af j4=oY) (eQ:af r1=lu) (ev:af wX=v9) :∃ s:bi,af=bY (bY (bY (bY (bY (bY (bY (bY (bY (s) eg eh) eK dz) hO v3) j3 v4) lh v5) m2 dP) j4 oY) r1 lu) wX v9:=⟨af,by rw[dF h1,dF ae,dF al,dF aE,dF aU,dF bz,dF dy,dF eQ,dF ev]⟩
theorem W9 {af:bi} {eg:Nat} {eh:ad} {eK:Nat} {dz:ad} {hO:Nat} {v3:ad} {j3:Nat} {v4:ad} {lh:Nat} {v5:ad} {m2:Nat} {dP:ad} {j4:Nat} {oY:ad} {r1:Nat} {lu:ad} {wX:Nat} {v9:ad} {DG:Nat} {EL:ad} {DH:Nat} {EM:ad} (h1:af eg=eh) (ae:af eK=dz) (al:af hO=v3) (aE:af j3=v4) (aU:af lh=v5) (bz:af m2=dP) (dy:af j4=oY) (eQ:af r1=lu) (ev:af wX=v9) (mQ:af DG=EL) (uy:af DH=EM) :∃ s:bi,af=bY (bY (bY (bY (bY (bY (bY (bY (bY (bY (bY (s) eg eh) eK dz) hO v3) j3 v4) lh v5) m2 dP) j4 oY) r1 lu) wX v9) DG EL) DH EM:=⟨af,by rw[dF h1,dF ae,dF al,dF aE,dF aU,dF bz,dF dy,dF eQ,dF ev,dF mQ,dF uy]⟩
theorem akt {af:bi} {eg:Nat} {eh:ad} {eK:Nat} {dz:ad} {hO:Nat} {v3:ad} {j3:Nat} {v4:ad} {lh:Nat} {v5:ad} {m2:Nat} {dP:ad} {j4:Nat} {oY:ad} {r1:Nat} {lu:ad} {wX:Nat} {v9:ad} {DG:Nat} {EL:ad} {DH:Nat} {EM:ad} {TH:Nat} {Xc:ad} (h1:af eg=eh) (ae:af eK=dz) (al:af hO=v3) (aE:af j3=v4) (aU:af lh=v5) (bz:af m2=dP) (dy:af j4=oY) (eQ:af r1=lu) (ev:af wX=v9) (mQ:af DG=EL) (uy:af DH=EM) (Kt:af TH=Xc) :∃ s:bi,af=bY (bY (bY (bY (bY (bY (bY (bY (bY (bY (bY (bY (s) eg eh) eK dz) hO v3) j3 v4) lh v5) m2 dP) j4 oY) r1 lu) wX v9) DG EL) DH EM) TH Xc:=⟨af,by rw[dF h1,dF ae,dF al,dF aE,dF aU,dF bz,dF dy,dF eQ,dF ev,dF mQ,dF uy,dF Kt]⟩
section
variable {α:Type}
@[simp] theorem ul (l:ap) (z:Nat) (enc:α->List ad) (s:dg α) :dA l z (cL z enc s)=some ((s.l.map enc).flatten,s.l.length) :=by
 cases s<;>simp[cL,dA]
end
theorem ek {cs vs:List ad} (h:vs.length=cs.length) :bt cs 0 vs=vs:=by
 simp only[bt,atm,asO,as8];rw[asV (by omega),asD]
theorem PL (len cap:Nat) (k:IntKind) (i:Int) :g1 len cap (some (.int k i)) none none=if 0<=i/\i<=len then some (i.toNat,len,cap) else none:=by
 unfold g1 kh;by_cases h:0<=i/\i<=len
 ·simp only[if_pos h]
 ·simp only[if_neg h]
theorem Jz (len cap:Nat) (k:IntKind) (i:Int) :g1 len cap none (some (.int k i)) none=if 0<=i/\i<=cap then some (0,i.toNat,cap) else none:=by
 unfold g1 kh;by_cases h:0<=i/\i<=cap
 ·simp only[if_pos h]
 ·simp only[if_neg h]
theorem Y0 (len cap:Nat) (k k' : IntKind) (i j:Int) :g1 len cap (some (.int k i)) (some (.int k' j)) none=if 0<=i/\i<=j/\j<=cap then some (i.toNat,j.toNat,cap) else none:=by
 unfold g1 kh;by_cases h:0<=j/\j<=cap
 ·simp only[if_pos h];by_cases ae:0<=i/\i<=((j.toNat:Nat) :Int)
  ·simp only[if_pos ae]; rw[if_pos (by omega)]
  ·simp only[if_neg ae]; rw[if_neg (by omega)]
 ·simp only[if_neg h]; rw[if_neg (by omega)]
theorem ai6 {α:Type} {z:Nat} {enc:α->List ad} {l:List α} {k:IntKind} {i:Int} (h1:0<=i) (ae:i<=l.length) :gS (.au z) (cL z enc (some l)) (some (.int k i)) none none=some (cL z enc (some (l.drop i.toNat))) :=by
 have al:i.toNat<=l.length:=by omega
 simp only[gS,cL,if_true,PL,asi];rw[if_pos ⟨h1,ae⟩];simp only[asb,Option.some.injEq,ad.cq.injEq,true_and];rw[arX (by simp),List.map_drop]
theorem Wu {α:Type} {z:Nat} {enc:α->List ad} {l:List α} {k:IntKind} {i:Int} (h1:0<=i) (ae:i<=l.length) :gS (.au z) (cL z enc (some l)) none (some (.int k i)) none=some (cL z enc (some (l.take i.toNat))) :=by
 simp only[gS,cL,if_true,Jz,asi];rw[if_pos ⟨h1,ae⟩];simp only[asb,Option.some.injEq,ad.cq.injEq,true_and,as1,auT];rw[avB]
theorem ai7 {α:Type} {z:Nat} {enc:α->List ad} {l:List α} {k k' : IntKind} {i j:Int} (aB:0<=i) (h1:i<=j) (ae:j<=l.length) :gS (.au z) (cL z enc (some l)) (some (.int k i)) (some (.int k' j)) none=some (cL z enc (some ((l.drop i.toNat).take (j.toNat - i.toNat)))) :=by
 simp only[gS,cL,if_true,Y0,asi];rw[if_pos ⟨aB,h1,ae⟩];simp only[asb,Option.some.injEq,ad.cq.injEq,true_and];rw[avB,List.map_drop]
theorem map_set {α:Type} (l:List α) (k:Nat) (x:α) (enc:α->List ad) :(l.map enc).set k (enc x)=(l.set k x).map enc:=by rw[List.map_set]
end

section
variable {P:Program}
def WL (P:Program) (t:TypeId) :Option (List TypeId) :=match P.underlying t with
 | some (.struct fs)=>some (fs.toList.map (·.type))
 | _=>none
theorem OD {cs:List ad} (h:ej P [] cs) :cs=[] :=by cases h; rfl
theorem EG {t:TypeId} {k:IntKind} {ts:List TypeId} {cs:List ad} (aP:P.underlying t=some (.int k)) (h:ej P (t::ts) cs) :∃ n cs',cs=.int k n::cs'/\k.min<=n/\n<=k.max/\ej P ts cs':=by
 cases h
 case int k' n cs' h1 ae qP h=>
  rw[aP] at qP; cases qP; exact⟨_,_,rfl,h1,ae,h⟩
 all_goals (exfalso; simp_all; done)
theorem EH {t:TypeId} {fs ts:List TypeId} {cs:List ad} (aP:WL P t=some fs) (h:ej P (t::ts) cs) :ej P (fs++ts) cs:=by
 unfold WL at aP;cases h
 case struct ann qP h=>rw[qP] at aP; cases aP; exact h
 all_goals (exfalso; simp_all; done)
theorem akk {t e:TypeId} {n:Nat} {ts:List TypeId} {cs:List ad} (aP:P.underlying t=some (.array n e)) (h:ej P (t::ts) cs) :ej P (List.replicate n e++ts) cs:=by
 cases h
 case array fE hy qP h=>rw[aP] at qP; cases qP; exact h
 all_goals (exfalso; simp_all; done)
theorem akn {t e:TypeId} {ts:List TypeId} {cs:List ad} (aP:P.underlying t=some (.slice e)) (h:ej P (t::ts) cs) :
  ∃ cs',ej P ts cs'/\(cs=.aV::cs'\/∃ es,cs=.cq (P.cellsOf e) es::cs'/\es.length<=maxLen/\∀ r∈es,ej P [e] r) :=by
 cases h
 case aV fE cs' qP h=>exact⟨_,h,.inl rfl⟩
 case au fE es cs' am av ao qP h=>rw[aP] at qP; cases qP; exact⟨_,h,.inr ⟨es,rfl,am,ao⟩⟩
 all_goals (exfalso; simp_all; done)
theorem Wd {α:Type} {enc:α->List ad} {Q:α->Prop}:∀ (es:List (List ad)),(∀ r∈es,∃ x,r=enc x/\Q x)->∃ xs:List α,es=xs.map enc/\∀ x∈xs,Q x
 | [],_=>⟨[],rfl,fun x ai=>by cases ai⟩
 | r::es,h=>by
  obtain⟨x,rfl,ai⟩:=h r (by simp);obtain⟨xs,rfl,A8⟩:=Wd es (fun r aA=>h r (by simp[aA]));exact⟨x::xs,rfl,fun y ay=>by
   rcases as0.1 ay with rfl | ay
   ·exact ai
   ·exact A8 y ay⟩
theorem W5 {α:Type} {t e:TypeId} {z:Nat} {enc:α->List ad} {Q:α->Prop} {ts:List TypeId} {cs:List ad} (aP:P.underlying t=some (.slice e)) (av:P.cellsOf e=z) (ao:∀ r,ej P [e] r->∃ x,r=enc x/\Q x) (h:ej P (t::ts) cs) :
  ∃ (s:dg α) (cs' : List ad),cs=cL z enc s::cs'/\s.l.length<=maxLen/\(∀ x∈s.l,Q x)/\ej P ts cs':=by
 obtain⟨cs',h1,rfl | ⟨es,rfl,am,aA⟩⟩:=akn aP h
 ·exact⟨none,cs',rfl,ato _,fun x ai=>(by cases ai),h1⟩
 ·obtain⟨xs,rfl,A8⟩:=Wd (enc:=enc) (Q:=Q) es (fun r lb=>ao r (aA r lb));refine⟨some xs,cs',?_,by simpa using am,A8,h1⟩;rw[av]; rfl
theorem akh {t:TypeId} {c:ad} (az:eA P t=some true) (h:uc P t c) :∃ cs,c=.aI cs/\ej P [t] cs:=by
 unfold uc at h; rw[az] at h; exact h
theorem aki {t:TypeId} {c:ad} (az:eA P t=some false) (h:uc P t c) :ej P [t] [c] :=by
 unfold uc at h; rw[az] at h; exact h
theorem W3 {t:TypeId} {ts:List TypeId} {cs:List ad} (h:nh P (t::ts) cs) :∃ c cs',cs=c::cs'/\uc P t c/\nh P ts cs':=by
 cases h with
 | cons h1 ae=>exact⟨_,_,rfl,h1,ae⟩
theorem akg {cs:List ad} (h:nh P [] cs) :cs=[] :=by cases h; rfl
end

end Go.cf

namespace Go.cf
open Go Go.ChangeShapes Go.RowKit
theorem WY {H:Type} {enc:TypeId × Value->H} {P:Program} (am:laidOutB P=true) {W ud:World} (ag:Below W.heap.size W ud) :∀ {ts:List TypeId} {vs:List Value} {ir:List (DataW H)} {cT:List MemPlace},
  (∀ t∈ts,P.readableRec t=true/\t<P.types.size)->DataW.TrodAll enc P W 0 (fun _=>true) true ts vs ir cT->DataW.TrodAll enc P ud 0 (fun b=>decide (b<W.heap.size)) true ts vs ir cT
 | [],vs,ir,cT,_,h=>by
  obtain⟨rfl,rfl,rfl⟩:=trodAll_nil h;exact trodAll_mk0
 | t::ts,vs,ir,cT,aA,h=>by
  have aM:=h.lt;obtain⟨v,akE,d,aad,a,b,rfl,rfl,rfl,h1,ae⟩:=trodAll_cons h;exact⟨a,b,Below.trod am (aA t (by simp)).1 (aA t (by simp)).2 h1 ag (fun x ai=>aM x (by simp[ai])),WY am ag (fun t aJ=>aA t (by simp[aJ])) ae,rfl⟩
theorem afW {P:Program} {G:Nat->ad} (n2:P.follows .mixedOrders=true) (ma:∀ g,(G g).closed=true) {f:FuncId} {ts:List TypeId} (D:Nat) (aC:∀ t∈ts,vd P D t=true) (adz:laidOutB P=true)
  (cI:∀ t∈ts,P.readableRec t=true/\t<P.types.size) (afU:∀ cs,nh P ts cs->dr P G f cs [] (c:=⟨fun r _=>r=.bool true⟩))
  {H:Type} {enc:TypeId × Value->H} {W:World} {hF:Nat} {args:Array Value} {ir:List (DataW H)} {cT:List MemPlace} (ar:∀ g,fO W (fun _=>True) (G g) (.pointer (some ⟨g,0,none⟩)))
  (da:∀ (j:Nat) t v,ts[j]? = some t->args[j]? = some v->Value.okWide P W .any hF t v) (h:DataW.TrodAll enc P W 0 (fun _=>true) true ts args.toList ir cT) :
  Calls P f args W fun e w'=>e=.returned (.bool true)/\Below W.heap.size W w'/\DataW.TrodAll enc P w' 0 (fun b=>decide (b<W.heap.size)) true ts args.toList ir cT:=by
 obtain⟨cs,A0,bn,uS⟩:=Pw (A:=fun _=>True) (fun _=>trivial) aC (fun j t v aJ aw=>da j t v aJ (by simpa using aw)) h;exact (afV n2 ma (afU cs A0) ar (by rw[bn]; simp) (fun j c v ah aw=>uS j c v ah (by simpa using aw))).mono fun e w' ⟨ao,ag⟩=>⟨ao,ag,WY adz ag cI h⟩
end Go.cf

namespace Go.cf
open Go
section
variable (P:Program)
end
def Pz (x:ad) :Option Int:=match x with
 | .int k i=>match k with | .i64=>some i | _=>none
 | _=>none
def mw (z:Nat) (cs vs:List ad) (i len:Nat) :List ad:=cs.take (i*z)++vs++(cs.drop (i*z)).take ((len - i)*z)++cs.drop ((len+1)*z)
def TU (z by_:Nat) (h:a6) (s:ad) (i:Nat) (bv:Nat) (vs:List ad) :Option (ad × a6) :=match s with
 | .aV=>if i=0/\by_<=cK then some (.au z h.n 0 1 1 z,h.push (.cells z vs)) else none
 | .au k0 b off len cap sz=>match h.f b with
  | .cells m cs=>if m=cap*z/\sz=cap*z/\k0=z/\off=0/\bv≠b/\i<=len/\len<=cap/\(len+1)*by_<=cK then
    some (.au z h.n 0 (len+1) (max cap (len+1)) (max cap (len+1)*z),(h.set b .dead).push (.cells (max cap (len+1)*z) (mw z cs vs i len))) else none
  | _=>none
 | _=>none
def Bf (z by_:Nat) (args:List ad) (h:a6) :Option (ad × a6) :=match args with
 | [s,x,y]=>match Pz x,y with
  | some i,.au h4 bv gP bQ dk ho=>match h.f bv with
   | .cells lk vs=>if h4=z/\gP=0/\bQ=1/\dk=1/\ho=z/\lk=z/\0<=i then TU z by_ h s i.toNat bv vs else none
   | _=>none
  | _,_=>none
 | _=>none
class O1 (P:Program) (G:Nat->ad) where
 get:FuncId->Option (Nat × Nat)
 ok:∀ f z by_,get f=some (z,by_)->∀ args h r h',Bf z by_ args h=some (r,h')->sv P G f args h r h'
instance (priority:=10) aqR (P:Program) (G:Nat->ad) :O1 P G:=⟨fun _=>none,fun f z by_ h=>by cases h⟩
mutual
def aY.beq:aY->aY->Bool
 | .none,y=>match y with | .none=>true | _=>false
 | .dead,y=>match y with | .dead=>true | _=>false
 | .cells n cs,y=>match y with | .cells hy cs'=>Nat.beq n hy&&fk cs cs' | _=>false
 | .map ..,_=>false
 | .iter ..,_=>false
end

section
variable (P:Program) (G:Nat->ad)
end
structure k1 (h:a6) (l:ap) :Prop where
 n:h.n=l.length
 f:∀ b,h.f b=(b8 l).f b
theorem k1.nil:k1 a6.empty [] :=⟨rfl,fun _=>rfl⟩
theorem k1.some {h:a6} {l:ap} (r:k1 h l) {b:Nat} {c:aY} (ah:h.f b=c) (aF:c≠.none) :l[b]? = some c:=by
 rw[r.f,o6] at ah;split at ah
 ·rename_i c' h1; rw[h1,ah]
 ·exact absurd ah.symm aF
theorem k1.push {h:a6} {l:ap} (r:k1 h l) (c:aY) :k1 (h.push c) (l++[c]) :=
 ⟨by rw[fL,r.n]; simp,fun b=>by rw[eH,<-ng,eH,r.n,zI]; unfold bY; (split<;>first | rfl | exact r.f b)⟩
theorem k1.set {h:a6} {l:ap} (r:k1 h l) {b:Nat} {xS:aY} (ag:l[b]? = Option.some xS) (c:aY) :k1 (h.set b c) (l.set b c) :=
 ⟨by rw[fa,r.n]; simp,fun bw=>by rw[ed,<-o7 _ (e7 ag),ed]; unfold bY; (split<;>first | rfl | exact r.f bw)⟩
section
variable {P:Program} {G:Nat->ad} {h h' : a6} {l:ap}
theorem k1.reach (r:k1 h l) (p:ad) :reach h p=eZ l p:=by
 rw[<-NC];cases p<;>try rfl
 simp only[cf.reach,r.f]
theorem k1.contents (r:k1 h l) (z:Nat) (x:ad) :contents h z x=dA l z x:=by
 rw[<-Cu];cases x<;>try rfl
 simp only[cf.contents,r.f]
theorem k1.mapOf (r:k1 h l) (x:ad) :mapOf h x=tv l x:=by
 cases x<;>try rfl
 rename_i b;simp only[cf.mapOf,tv,r.f,o6];cases l[b]? with
 | none=>rfl
 | some c=>cases c<;>rfl
theorem k1.bytes (r:k1 h l) (x:ad) :vM h x=rr l x:=by
 cases x<;>simp only[vM,rr,r.contents]<;>rfl
theorem go.rep (r:k1 h l) {c c' : ad} (aA:go h c c') :go (b8 l) c c':=by
 induction aA with
 | same c ah=>exact .same c ah
 | aI cs cs' am aw aO=>exact .aI cs cs' am aO
 | bJ cs cs' am aw aO=>exact .bJ cs cs' am aO
 | au z b off len cap sz cs es ag am av cZ aw aO=>exact .au z b off len cap sz cs es (by rw[<-r.f]; exact ag) am av cZ aO
 | vk z b off cap sz=>exact .vk z b off cap sz
 | ptr b off sz cs cs' ag am aw aO=>exact .ptr b off sz cs cs' (by rw[<-r.f]; exact ag) am aO
theorem aY.beq_eq {a b:aY} (h:aY.beq a b=true) :a=b:=by
 cases a<;>cases b<;>simp[aY.beq] at h
 ·rfl
 ·rfl
 ·obtain⟨h1,ae⟩:=h;rw[h1,vI ae]
inductive Jb (P:Program) (G:Nat->ad) :List (Nat × (a6->Bool))->jQ->Prop
 | nil:Jb P G [] []
 | cons {i p q r dI}:(∀ h l,k1 h l->p h=true->q l)->Jb P G r dI->Jb P G ((i,p) ::r) ((i,q) ::dI)
end
def rep (n:Nat) (c:ad) :List ad:=List.replicate n c
abbrev pS (i d x:Nat) :e0:=⟨i,some d,none,.ig (.gO (.tmp x)),[],false⟩
abbrev sc (i d:Nat) (f:FuncId) (args:List Operand) :e0:=⟨i,some d,none,.ox f args,[],false⟩
@[simp] theorem aq1 (n:Nat) (c:ad) :(rep n c).length=n:=by simp[rep]
end Go.cf

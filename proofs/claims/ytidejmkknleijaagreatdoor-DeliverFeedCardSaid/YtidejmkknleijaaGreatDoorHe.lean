/-
  The canonical machine, part X: what must hold behind code without types holds behind the code.
-/
import Derived.Test.YtidejmkknleijaaGreatDoorHd
import GoSem.ClaimChange
import GoSem.ClaimWide
set_option linter.unusedVariables false
set_option linter.unusedSimpArgs false
set_option linter.unnecessarySimpa false
namespace Go.bV
open Go
section
variable {P:Program} {G:Nat->U}
theorem TI {op:Op} {m:db} (hm:nY P op=some m) (am:lq op=false) :m.looks=true\/m.jC=true:=by
 cases op<;>simp only[lq,azy,reduceCtorEq] at am<;>simp only[nY] at hm<;>try (cases hm; done)
 case move=>cases hm; exact .inl rfl
 case assign=>cases hm; exact .inl rfl
 case pick=>cases hm; exact .inl rfl
 case alloc=>rw[map_some] at hm; obtain⟨_,_,rfl⟩:=hm; exact .inr rfl
 case box=>cases hm; exact .inr rfl
 case build=>simp only[bind_some,map_some] at hm; obtain⟨_,_,_,_,rfl⟩:=hm; exact .inl rfl
 case buildSlice=>simp only[bind_some,iW] at hm; obtain⟨_,_,_,_,_,_,_,rfl⟩:=hm; exact .inr rfl
 case load=>split at hm<;>cases hm<;>exact .inl rfl
 case nilCheck=>cases hm; exact .inl rfl
 case binOp=>cases hm; exact .inl rfl
 case unOp=>cases hm; exact .inl rfl
 case convert=>
  repeat' split at hm
  all_goals first | (cases hm; done) | (cases hm; exact .inl rfl)
 case makeInterface=>split at hm<;>cases hm; exact .inl rfl
 case makeFunc f a b=>cases f<;>simp only at hm<;>cases hm; exact .inl rfl
 case makeSlice=>simp only[bind_some,iW] at hm; obtain⟨_,_,_,_,_,_,_,_,_,rfl⟩:=hm; exact .inr rfl
 case slice=>rw[map_some] at hm; obtain⟨_,_,rfl⟩:=hm; exact .inl rfl
 case fieldAddr=>rw[bind_some] at hm; obtain⟨_,_,hm⟩:=hm; split at hm<;>cases hm; exact .inl rfl
 case field=>rw[bind_some] at hm; obtain⟨_,_,hm⟩:=hm; split at hm<;>cases hm<;>exact .inl rfl
 case indexAddr=>split at hm<;>cases hm<;>exact .inl rfl
 case index=>
  repeat' split at hm
  all_goals first | (cases hm; done) | (cases hm; exact .inl rfl)
 case extract=>cases hm; exact .inl rfl
 case call c=>
  split at hm
  ·rename_i b af;rw[af] at am;cases b<;>simp only[azy,reduceCtorEq] at am<;>unfold wR at hm<;>(repeat' split at hm)<;>first
    | (cases hm; done)
    | (cases hm; exact .inl rfl)
    | (rw[map_some] at hm; obtain⟨_,_,rfl⟩:=hm; exact .inl rfl)
    | (exfalso; simp only[reduceCtorEq] at *; done)
  ·rename_i f aF;rw[aF] at am; cases am
  ·cases hm
theorem TJ {op:Op} {m:db} (hm:nY P op=some m) (aX:uu P op=false) :m.reads=false/\m.jC=false:=by
 cases op<;>simp only[uu,azy,reduceCtorEq] at aX<;>simp only[nY] at hm<;>try (cases hm; done)
 case move=>cases hm; exact⟨rfl,rfl⟩
 case assign=>cases hm; exact⟨rfl,rfl⟩
 case pick=>cases hm; exact⟨rfl,rfl⟩
 case build=>simp only[bind_some,map_some] at hm; obtain⟨_,_,_,_,rfl⟩:=hm; exact⟨rfl,rfl⟩
 case store=>rw[map_some] at hm; obtain⟨_,_,rfl⟩:=hm; exact⟨rfl,rfl⟩
 case nilCheck=>cases hm; exact⟨rfl,rfl⟩
 case binOp=>cases hm; exact⟨rfl,rfl⟩
 case unOp=>cases hm; exact⟨rfl,rfl⟩
 case makeInterface=>split at hm<;>cases hm; exact⟨rfl,rfl⟩
 case makeFunc f a b=>cases f<;>simp only at hm<;>cases hm; exact⟨rfl,rfl⟩
 case typeAssert=>rw[map_some] at hm; obtain⟨_,_,rfl⟩:=hm; exact⟨rfl,rfl⟩
 case slice=>rw[map_some] at hm; obtain⟨_,_,rfl⟩:=hm; exact⟨rfl,rfl⟩
 case fieldAddr=>rw[bind_some] at hm; obtain⟨_,_,hm⟩:=hm; split at hm<;>cases hm; exact⟨rfl,rfl⟩
 case field=>rw[bind_some] at hm; obtain⟨_,_,hm⟩:=hm; split at hm<;>cases hm<;>exact⟨rfl,rfl⟩
 case indexAddr=>split at hm<;>cases hm<;>exact⟨rfl,rfl⟩
 case index=>
  repeat' split at hm
  all_goals first | (cases hm; done) | (cases hm; exact⟨rfl,rfl⟩)
 case extract=>cases hm; exact⟨rfl,rfl⟩
 case next it b=>cases b<;>simp only[reduceCtorEq] at hm<;>cases hm; exact⟨rfl,rfl⟩
 case panic=>cases hm; exact⟨rfl,rfl⟩
 case lookup=>split at hm<;>(try cases hm; done); rw[map_some] at hm; obtain⟨_,_,rfl⟩:=hm; exact⟨rfl,rfl⟩
 case mapUpdate=>split at hm<;>cases hm; exact⟨rfl,rfl⟩
 case insert=>split at hm<;>cases hm; exact⟨rfl,rfl⟩
 case makeMap=>split at hm<;>cases hm; exact⟨rfl,rfl⟩
 case range=>split at hm<;>cases hm; exact⟨rfl,rfl⟩
 case call c=>
  split at hm
  ·rename_i b af;rw[af] at aX;unfold wR at hm
   repeat' split at hm
   all_goals first
    | (cases hm; done)
    | (exfalso; simp_all; done)
    | (cases hm; exact⟨rfl,rfl⟩)
    | (simp only[bind_some,map_some] at hm; obtain⟨_,_,rfl⟩:=hm; exact⟨rfl,rfl⟩)
    | (simp only[bind_some,map_some] at hm; obtain⟨_,_,_,_,rfl⟩:=hm; exact⟨rfl,rfl⟩)
    | (simp only[bind_some,iW] at hm; obtain⟨_,_,_,_,_,_,_,rfl⟩:=hm; exact⟨rfl,rfl⟩)
    | (simp only[bind_some,iW] at hm; obtain⟨_,_,_,_,_,_,_,_,_,rfl⟩:=hm; exact⟨rfl,rfl⟩)
  ·split at hm
   ·rw[iW] at hm; obtain⟨_,rfl⟩:=hm; exact⟨rfl,rfl⟩
   ·cases hm
  ·cases hm
inductive nN (P:Program) (G:Nat->U) (s:dp) (o:Oper) (σ:bc) (l:ap) (v:U) (l1:ap) :bR->Prop
 | pure (m:db) (af:s.b=.gR m) (hm:m.looks=true) (al:l1=l) (ak:bU P (c2 G σ) l m=some (v,l)) :nN P G s o σ l v l1 (.pure s.i v)
 | new (m:db) (cs:List U) (af:s.b=.gR m) (hm:m.jC=true) (al:l1=l++[.cells cs.length cs]) :nN P G s o σ l v l1 (.new s.i v cs)
 | g3 (am:lq o.op=true) (bA:l.length<=l1.length) :nN P G s o σ l v l1 (.g3 s.i v (bb l1))
theorem nN.idx {s:dp} {o:Oper} {σ:bc} {l l1:ap} {v:U} {t:bR} (k:nN P G s o σ l v l1 t) :t.idx=s.i:=by cases k<;>rfl
theorem nN.val {s:dp} {o:Oper} {σ:bc} {l l1:ap} {v:U} {t:bR} (k:nN P G s o σ l v l1 t) :t.val=v:=by cases k<;>rfl
theorem nN.next {s:dp} {o:Oper} {σ:bc} {l l1:ap} {v:U} {t:bR} (k:nN P G s o σ l v l1 t) :rl (bb l) t=bb l1:=by
 cases k with
 | pure m af hm al ak=>rw[al]; rfl
 | new m cs af hm al=>rw[al,<-oN]; rfl
 | g3 am _=>rfl
theorem aoS {ops:Array Oper} {s:dp} {o:Oper} (ok:qx P ops s o) {σ:bc} (aP:lE ops σ o=some true) {l:ap} {K:U->ap->Prop} (h:iE P G s.b σ l K) :
  ∃ v l1 t,nN P G s o σ l v l1 t/\yK P G ops ⟨σ,bb l⟩ t/\K v l1:=by
 obtain⟨v,l1,ad,ae,aj,aD⟩:=aav ok h;have lI:lq o.op=true->∃ v l1 t,nN P G s o σ l v l1 t/\yK P G ops ⟨σ,bb l⟩ t/\K v l1:=fun am=>⟨v,l1,_,.g3 am ae,⟨o,ok.here,aP,ad,by simpa using ae⟩,aj⟩
 cases af:s.b with
 | gR m=>
  have hm:=ok.gR m af;cases am:lq o.op with
  | true=>exact lI am
  | false=>
   have ak:=aD m af (TI hm am);rcases TI hm am with al | aC
   ·have:=XZ al ak;subst this;exact⟨v,l1,_,.pure m af al rfl ak,⟨o,ok.here,aP⟩,aj⟩
   ·obtain⟨cs,mk,a2,bv,dr⟩:=ald hm aC ak;exact⟨v,l1,_,.new m cs af aC dr,⟨o,mk,ok.here,aP,a2,bv⟩,aj⟩
 | nb f args=>
  obtain⟨c,iT,ah,_⟩:=ok.nb f args af;exact lI (by rw[iT]; simp only[lq,ah])
 | nd x args=>
  obtain⟨c,iT,ah,_⟩:=ok.nd x args af;exact lI (by rw[iT]; simp only[lq,ah])
 | oV x name args=>
  obtain⟨c,iT,ah,_⟩:=ok.oV x name args af;exact lI (by rw[iT]; simp only[lq,ah])
inductive k4 (P:Program) (G:Nat->U) (ops:Array Oper) :List dp->bc->ap->i8->List (bR × bc × ap)->bc->ap->Prop
 | nil {σ l seen}:k4 P G ops [] σ l seen [] σ l
 | skip {s o r σ l seen es bG l'}:qx P ops s o->lE ops σ o=some false->k4 P G ops r (h1 σ s.dst gU) l seen es bG l'->k4 P G ops (s::r) σ l seen ((.skip s.i,σ,l) ::es) bG l'
 | step {s o r σ l v l1 t seen es bG l'}:qx P ops s o->nN P G s o σ l v l1 t->yK P G ops ⟨σ,bb l⟩ t->qG s.dK seen l1->
   k4 P G ops r (h1 σ s.dst v) l1 (sT s.b1 s.i (mB P G s.b σ v l l1) seen) es bG l'->k4 P G ops (s::r) σ l seen ((t,σ,l) ::es) bG l'
theorem PJ {ops:Array Oper} {K:bc->ap->Prop}:∀ {s:List dp} {σ:bc} {l:ap} {seen:i8},(∀ x∈s,∃ o,qx P ops x o)->ky P G s σ l seen K->∃ es bG l',k4 P G ops s σ l seen es bG l'/\K bG l'
 | [],σ,l,seen,_,h=>⟨[],σ,l,.nil,h⟩
 | s::r,σ,l,seen,cM,h=>by
  obtain⟨o,ok⟩:=cM s (by simp);rcases Xi ok h with ⟨aP,h⟩ | ⟨aP,h⟩
  ·obtain⟨v,l1,t,ad,ae,aj,aD⟩:=aoS ok aP h;obtain⟨es,bG,l',a2,bv⟩:=PJ (fun x ag=>cM x (by simp[ag])) aD;exact⟨_,bG,l',.step ok ad ae aj a2,bv⟩
  ·obtain⟨es,bG,l',a2,bv⟩:=PJ (fun x ag=>cM x (by simp[ag])) h;exact⟨_,bG,l',.skip ok aP a2,bv⟩
theorem PL {K:bc->ap->Prop}:∀ {s:List dp} {σ:bc} {l:ap},(∀ x∈s,x.b1=false)->jp P G s σ l K->ky P G s σ l [] K
 | [],σ,l,_,h=>h
 | s::r,σ,l,ar,h=>by
  have mono:∀ (b:rH) (K fa:U->ap->Prop),(∀ v l,K v l->fa v l)->iE P G b σ l K->iE P G b σ l fa:=by
   intro b K fa aY h;cases b with
   | gR m=>simp only[iE,AL] at h ⊢; obtain⟨v,ad,ae⟩:=h; exact⟨v,ad,XP aY ae⟩
   | nb f args=>obtain⟨r,l',ad,ae,aj⟩:=h; exact⟨r,l',ad,ae,aY _ _ aj⟩
   | nd x args=>
    simp only[iE,wI] at h ⊢;split at h
    ·obtain⟨aJ,r,l',ad,ae,aj⟩:=h; exact⟨aJ,r,l',ad,ae,aY _ _ aj⟩
    ·cases h
   | oV x name args=>
    simp only[iE,wH] at h ⊢;split at h
    ·split at h
     ·obtain⟨aJ,r,l',ad,ae,aj⟩:=h; exact⟨aJ,r,l',ad,ae,aY _ _ aj⟩
     ·cases h
    ·cases h
  have aff:∀ (g:Option (Option Tmp × Bool)) (p q cv q' : Prop),(p->cv)->(q->q')->rh σ g p q->rh σ g cv q':=by
   intro g p q cv q' au aN h;unfold rh at h ⊢;split at h
   ·exact au h
   ·rename_i d w;simp only[sv] at h ⊢;split at h
    ·rw[Fz] at h ⊢;rcases h with ⟨a,b⟩ | ⟨a,b⟩
     ·exact .inl ⟨a,au b⟩
     ·exact .inr ⟨a,aN b⟩
    ·cases h
    ·exact aN h
   ·exact aN h
  have EL:s.b1=false:=ar s (by simp);refine aff _ _ _ _ _ (mono _ _ _ fun v l' h=>?_) (fun h=>PL (fun x ag=>ar x (by simp[ag])) h) h;refine⟨trivial,?_⟩;rw[EL];exact PL (fun x ag=>ar x (by simp[ag])) h
theorem nN.len {s:dp} {o:Oper} {σ:bc} {l l1:ap} {v:U} {t:bR} (k:nN P G s o σ l v l1 t) :l.length<=l1.length:=by
 cases k with
 | pure m af hm al ak=>rw[al]; exact awU _
 | new m cs af hm al=>rw[al]; simp
 | g3 am bA=>exact bA
theorem k4.len {ops:Array Oper} {s:List dp} {σ bG:bc} {l l' : ap} {seen:i8} {es:List (bR × bc × ap)} (h:k4 P G ops s σ l seen es bG l') :l.length<=l'.length:=by
 induction h with
 | nil=>exact awU _
 | skip _ _ _ aR=>exact aR
 | step _ k _ _ _ aR=>exact axy k.len aR
def vi (es:List (bR × bc × ap)) (l' : ap) (q:Nat) :ap:=match es[q]? with | some x=>x.2.2 | none=>l'
theorem k4.here {ops:Array Oper} {s:List dp} {σ bG:bc} {l l' : ap} {seen:i8} {es:List (bR × bc × ap)} (h:k4 P G ops s σ l seen es bG l') :vi es l' 0=l:=by
 cases h<;>rfl
theorem k4.idx {ops:Array Oper} {s:List dp} {σ bG:bc} {l l' : ap} {seen:i8} {es:List (bR × bc × ap)} (h:k4 P G ops s σ l seen es bG l') :es.map (fun e=>e.1.idx)=s.map (·.i) :=by
 induction h with
 | nil=>rfl
 | skip _ _ _ aR=>simp only[axk,aR]; rfl
 | step _ k _ _ _ aR=>simp only[axk,aR,k.idx]
theorem k4.at {ops:Array Oper} {s:List dp} {σ bG:bc} {l l' : ap} {seen:i8} {es:List (bR × bc × ap)} (h:k4 P G ops s σ l seen es bG l') :
  (∀ (p:Nat) (e:bR × bc × ap),es[p]? = some e->yK P G ops ⟨e.2.1,bb e.2.2⟩ e.1/\hl ops ⟨σ,bb l⟩ (es.map (·.1)) p=⟨e.2.1,bb e.2.2⟩)/\hl ops ⟨σ,bb l⟩ (es.map (·.1)) es.length=⟨bG,bb l'⟩:=by
 induction h with
 | nil=>exact⟨fun p e am=>by simp at am,rfl⟩
 | @skip s o r σ l seen es bG l' ok aP _ aR=>
  have hw:mY ops ⟨σ,bb l⟩ (.skip s.i)=⟨h1 σ s.dst gU,bb l⟩:=by simp only[mY,yX,bR.idx,ok.here,ayG,bR.val,rl,ok.dst]
  refine⟨fun p e am=>?_,?_⟩
  ·cases p with
   | zero=>simp only[axh,Option.some.injEq] at am; subst am; exact⟨⟨o,ok.here,aP⟩,rfl⟩
   | succ p=>
    simp only[axG] at am;obtain⟨ad,ae⟩:=aR.1 p e am;refine⟨ad,?_⟩;rw[axk,Ks,hw]; exact ae
  ·rw[axk,axa,Ks,hw]; exact aR.2
 | @step s o r σ l v l1 t seen es bG l' ok k ak ah _ aR=>
  have hw:mY ops ⟨σ,bb l⟩ t=⟨h1 σ s.dst v,bb l1⟩:=by simp only[mY,yX,k.idx,ok.here,ayG,k.val,k.next,ok.dst]
  refine⟨fun p e am=>?_,?_⟩
  ·cases p with
   | zero=>simp only[axh,Option.some.injEq] at am; subst am; exact⟨ak,rfl⟩
   | succ p=>
    simp only[axG] at am;obtain⟨ad,ae⟩:=aR.1 p e am;refine⟨ad,?_⟩;rw[axk,Ks,hw]; exact ae
  ·rw[axk,axa,Ks,hw]; exact aR.2
theorem k4.still {ops:Array Oper} {s:List dp} {σ bG:bc} {l l' : ap} {seen:i8} {es:List (bR × bc × ap)} (h:k4 P G ops s σ l seen es bG l') (j:Nat) (S:ap->Prop)
  (q2:∀ l x,S l->S (l++x)) (aJ:S l) :∀ q,q<=es.length->(∀ (p:Nat) (e:bR × bc × ap),p<q->es[p]? = some e->e.1.j3=true->(j,S)∈seen/\∃ x,s[p]? = some x/\j∈x.dK)->S (vi es l' q) :=by
 have adt:∀ {ids:List Nat} {seen:i8} {l:ap},qG ids seen l->(j,S)∈seen->j∈ids->S l:=by
  intro ids seen l ah hm ay
  induction seen with
  | nil=>cases hm
  | cons e r aR=>
   obtain⟨ad,ae⟩:=ah;rcases axU.1 hm with rfl | hm
   ·exact ad (by simpa using ay)
   ·exact aR ae hm
 induction h with
 | nil=>
  intro q aN _; simp only[axB] at aN; obtain rfl:q=0:=by omega
  exact aJ
 | @skip s o r σ l seen es bG l' ok aP _ aR=>
  intro q aN Bz;cases q with
  | zero=>exact aJ
  | succ q=>exact aR aJ q (by simpa using aN) (fun p e au am dh=>by
    obtain⟨ad,x,ae,aj⟩:=Bz (p+1) e (by omega) (by simpa using am) dh;exact⟨ad,x,by simpa using ae,aj⟩)
 | @step s o r σ l v l1 t seen es bG l' ok k ak ah _ aR=>
  intro q aN Bz;cases q with
  | zero=>exact aJ
  | succ q=>
   have ad:S l1:=by
    cases k with
    | pure m af hm al _=>rw[al]; exact aJ
    | new m cs af hm al=>rw[al]; exact q2 _ _ aJ
    | g3 am _=>
     obtain⟨ad,x,ae,aj⟩:=Bz 0 _ (by omega) rfl rfl;simp only[axh,Option.some.injEq] at ae;subst ae;exact adt ah ad aj
   refine aR ad q (by simpa using aN) (fun p e au am dh=>?_);obtain⟨ad,x,ae,aj⟩:=Bz (p+1) e (by omega) (by simpa using am) dh;refine⟨?_,x,by simpa using ae,aj⟩;unfold sT;cases s.b1 with
   | false=>exact ad
   | true=>exact azn _ ad
theorem k4.split {ops:Array Oper} {s:List dp} {σ bG:bc} {l l' : ap} {seen:i8} {es:List (bR × bc × ap)} (h:k4 P G ops s σ l seen es bG l') :∀ (p:Nat) (e:bR × bc × ap),es[p]? = some e->e.1.vL=false->
  ∃ x o v l1 yc,s[p]? = some x/\qx P ops x o/\nN P G x o e.2.1 e.2.2 v l1 e.1 ∧
   k4 P G ops (s.drop (p+1)) (h1 e.2.1 x.dst v) l1 (sT x.b1 x.i (mB P G x.b e.2.1 v e.2.2 l1) yc) (es.drop (p+1)) bG l':=by
 induction h with
 | nil=>intro p e am; simp at am
 | @skip s o r σ l seen es bG l' ok aP _ aR=>
  intro p e am gO;cases p with
  | zero=>simp only[axh,Option.some.injEq] at am; subst am; cases gO
  | succ p=>
   obtain⟨x,dG,v,l1,yc,ad,ae,aj,aD⟩:=aR p e (by simpa using am) gO;exact⟨x,dG,v,l1,yc,by simpa using ad,ae,aj,by simpa using aD⟩
 | @step s o r σ l v l1 t seen es bG l' ok k ak ah tr aR=>
  intro p e am gO;cases p with
  | zero=>
   simp only[axh,Option.some.injEq] at am; subst am;exact⟨s,o,v,l1,seen,rfl,ok,k,by simpa using tr⟩
  | succ p=>
   obtain⟨x,dG,v,l1,yc,ad,ae,aj,aD⟩:=aR p e (by simpa using am) gO;exact⟨x,dG,v,l1,yc,by simpa using ad,ae,aj,by simpa using aD⟩
end

section
variable {P:Program} {G:Nat->U}
theorem YR {ms:List Nat} {ops:Array Oper}:∀ (ord done lI:List Nat),(∀ i∈ord,i<ops.size)->(po P ms ops ord done lI).map (·.1)=ord
 | [],_,_,_=>rfl
 | i::r,done,lI,h=>by
  unfold po;have ay:i<ops.size:=h i (by simp);rw[axZ ay];simp only;split<;>simp only[axk]<;>rw[YR r _ _ fun j ai=>h j (by simp[ai])]
theorem Pf {ms:List Nat} {ops:Array Oper}:∀ (ord done lI:List Nat) (p i:Nat) (dK:List Nat),(∀ i∈ord,i<ops.size)->(po P ms ops ord done lI)[p]? = some (i,dK)->
  (∃ o,ops[i]? = some o/\lq o.op=true)->∀ j,(j∈done\/∃ kx,kx<p/\ord[kx]? = some j)->(∃ o,ops[j]? = some o/\uu P o.op=true)->(∀ e∈lI,qc ms e j=false)->
  (∀ (cv mV:Nat) (o:Oper),cv<=p->ord[cv]? = some mV->ops[mV]? = some o->lq o.op=true->(cv=p\/o.guard=none)->qc ms mV j=false)->j∈dK
 | [],done,lI,p,i,dK,_,au,_,_,_,_,_,_=>by simp[po] at au
 | x::r,done,lI,p,i,dK,lk,au,am,j,ai,aX,Iu,pc=>by
  unfold po at au;have ag:x<ops.size:=lk x (by simp);rw[axZ ag] at au;have Nn:ops[x]? = some ops[x] :=axZ ag;simp only at au;have az:∀ i∈r,i<ops.size:=fun j ai=>lk j (by simp[ai])
  cases dh:lq ops[x].op with
  | true=>
   rw[dh] at au;simp only at au;cases p with
   | zero=>
    simp only[axh,Option.some.injEq,Prod.mk.injEq] at au;obtain⟨rfl,rfl⟩:=au;obtain⟨o,ad,ae⟩:=aX;rcases ai with ai | ⟨kx,Wq,_⟩
    ·refine ax0.2 ⟨ai,?_⟩;simp only[ad,ae,ayn,azX,awZ,axx];exact⟨by simp[pc 0 x ops[x] (awU _) (by simp) Nn dh (.inl rfl)],fun e am=>by simp[Iu e am]⟩
    ·omega
   | succ p=>
    simp only[axG] at au;refine Pf r _ _ p i dK az au am j ?_ aX ?_ ?_
    ·rcases ai with ai | ⟨kx,Wq,ai⟩
     ·exact .inl (by simp[ai])
     ·cases kx with
      | zero=>simp only[axh,Option.some.injEq] at ai; exact .inl (by simp[ai])
      | succ kx=>exact .inr ⟨kx,by omega,by simpa using ai⟩
    ·intro e g6;cases ax:ops[x].guard with
     | none=>
      rw[ax] at g6;rcases axU.1 g6 with rfl | g6
      ·exact pc 0 e ops[e] (by omega) (by simp) Nn dh (.inr ax)
      ·exact Iu e g6
     | some fE=>rw[ax] at g6; exact Iu e g6
    ·intro cv mV o iL gX av y6 ax;exact pc (cv+1) mV o (by omega) (by simpa using gX) av y6 (by rcases ax with rfl | ax; exact .inl rfl; exact .inr ax)
  | false=>
   rw[dh] at au;simp only at au;cases p with
   | zero=>
    simp only[axh,Option.some.injEq,Prod.mk.injEq] at au;obtain⟨rfl,rfl⟩:=au;obtain⟨o,ad,ae⟩:=am;rw[Nn] at ad; cases ad;rw[dh] at ae; cases ae
   | succ p=>
    simp only[axG] at au;refine Pf r _ _ p i dK az au am j ?_ aX Iu ?_
    ·rcases ai with ai | ⟨kx,Wq,ai⟩
     ·exact .inl (by simp[ai])
     ·cases kx with
      | zero=>simp only[axh,Option.some.injEq] at ai; exact .inl (by simp[ai])
      | succ kx=>exact .inr ⟨kx,by omega,by simpa using ai⟩
    ·intro cv mV o iL gX av y6 ax;exact pc (cv+1) mV o (by omega) (by simpa using gX) av y6 (by rcases ax with rfl | ax; exact .inl rfl; exact .inr ax)
theorem T1 {ms:List Nat} {ops:Array Oper}:∀ {ord:List Nat},DI ms ops ord=true->∀ (p cv i j:Nat) (o:Oper),ord[p]? = some i->ord[cv]? = some j->p<cv->ops[i]? = some o->lq o.op=true->qc ms j i=true
 | [],_,p,cv,i,j,o,au,_,_,_,_=>by simp at au
 | x::r,h,p,cv,i,j,o,au,iL,aL,av,am=>by
  simp only[DI,awZ] at h;cases cv with
  | zero=>omega
  | succ cv=>
   simp only[axG] at iL;cases p with
   | zero=>
    simp only[axh,Option.some.injEq] at au;subst au;rw[av] at h;simp only[am,Bool.not_true,Bool.false_or,axx] at h;exact h.1 j (awY iL)
   | succ p=>exact T1 h.2 p cv i j o (by simpa using au) iL (by omega) av am
theorem JC {α kB:Type} {f:α->Option kB}:∀ {l:List α} {r:List kB},l.mapM f=some r->∀ (p:Nat) (x:kB),r[p]? = some x->∃ a,l[p]? = some a/\f a=some x
 | [],r,h,p,x,ag=>by simp at h; subst h; simp at ag
 | a::l,r,h,p,x,ag=>by
  rw[ayp] at h;simp only[Option.bind_eq_bind,bind_some,ayC,Option.some.injEq] at h;obtain⟨b,ad,r',ae,rfl⟩:=h;cases p with
  | zero=>simp only[axh,Option.some.injEq] at ag; subst ag; exact⟨a,rfl,ad⟩
  | succ p=>obtain⟨cV,aj,aD⟩:=JC ae p x (by simpa using ag); exact⟨cV,by simpa using aj,aD⟩
theorem OK {α kB:Type} {f:α->Option kB}:∀ {l:List α} {r:List kB},l.mapM f=some r->r.length=l.length
 | [],r,h=>by simp at h; subst h; rfl
 | a::l,r,h=>by
  rw[ayp] at h;simp only[Option.bind_eq_bind,bind_some,ayC,Option.some.injEq] at h;obtain⟨b,ad,r',ae,rfl⟩:=h;simp[OK ae]
theorem agL (es:List (bR × bc × ap)) (l' : ap) (n q:Nat) :vi (es.drop n) l' q=vi es l' (n+q) :=by
 unfold vi; rw[axv]
theorem aee {id N' : Nat} {ops:Array Oper} {yg:List dp} (bg:∀ (i:Nat) (o:Oper),ops[i]? = some o->kf N' o.dst=true)
  (lk:O5 (jm ops) ops (fR (jm ops) ops)=true) (agK:DI (jm ops) ops (fR (jm ops) ops)=true)
  (bE:(po P (jm ops) ops (fR (jm ops) ops) [] []).mapM (fun p=>CQ P ops p.1 p.2 (((po P (jm ops) ops (fR (jm ops) ops) [] []).flatMap (·.2)).contains p.1))=some yg)
  {σ bG:bc} {l l' : ap} {es:List (bR × bc × ap)} (tr:k4 P G ops yg σ l [] es bG l') :dJ P G (.code (.region id ops true) N' σ (bb l) .normal bG (bb l')) :=by
 simp only[O5,awZ] at lk;obtain⟨⟨⟨⟨jo,hB⟩,p5⟩,kW⟩,xU⟩:=lk;have Ny:∀ i∈fR (jm ops) ops,i<ops.size:=fun i ay=>by
  rw[axx] at kW;simpa [azW] using kW i ay
 have Wv:(po P (jm ops) ops (fR (jm ops) ops) [] []).map (·.1)=fR (jm ops) ops:=YR _ _ _ Ny;have kn:∀ (p:Nat) (x:dp),yg[p]? = some x->∃ o,qx P ops x o/\(po P (jm ops) ops (fR (jm ops) ops) [] [])[p]? = some (x.i,x.dK) ∧
   x.b1=((po P (jm ops) ops (fR (jm ops) ops) [] []).flatMap (·.2)).contains x.i:=fun p x ag=>by
  obtain⟨a,ad,ae⟩:=JC bE p x ag;obtain⟨o,aj,aD,a2,bv⟩:=Gu ae;exact⟨o,aj,by rw[ad,aD,a2],by rw[bv,aD]⟩
 have WI:∀ (p:Nat) (x:dp),yg[p]? = some x->(fR (jm ops) ops)[p]? = some x.i:=fun p x ag=>by
  obtain⟨o,_,ad,_⟩:=kn p x ag;rw[<-Wv,awV,ad]; rfl
 have xg:∀ (p:Nat) (e:bR × bc × ap),es[p]? = some e->∃ x,yg[p]? = some x/\x.i=e.1.idx:=fun p e am=>by
  have:=congrArg (·[p]?) tr.idx;simp only[awV,am,aw0] at this;cases ag:yg[p]? with
  | none=>rw[ag] at this; cases this
  | some x=>rw[ag] at this; simp only[aw0,Option.some.injEq] at this; exact⟨x,rfl,this.symm⟩
 have tK:∀ (p:Nat) (e:bR × bc × ap),es[p]? = some e->(fR (jm ops) ops)[p]? = some e.1.idx:=fun p e am=>by
  obtain⟨x,ad,ae⟩:=xg p e am;rw[WI p x ad,ae]
 have fG:∀ (p:Nat) (t:bR),(es.map (·.1))[p]? = some t->∃ e,es[p]? = some e/\e.1=t:=fun p t aX=>by simpa using aX
 have zf:∀ (p:Nat) (e:bR × bc × ap),es[p]? = some e->e.1.j3=true->∃ o,ops[e.1.idx]? = some o/\lq o.op=true/\(lE ops e.2.1 o=some true) :=fun p e am dh=>by
  have gO:e.1.vL=false:=by cases h:e.1<;>rw[h] at dh<;>first | rfl | cases dh
  obtain⟨x,o,v,l1,yc,ad,ae,aj,aD⟩:=tr.split p e am gO;have j0:=(tr.at.1 p e am).1;have ed:=aj.idx;have aT:=ae.here;rw[<-ed] at aT;refine⟨o,aT,?_,?_⟩
  ·revert dh;generalize e.1=t at aj;intro dh;cases aj with
   | pure=>cases dh
   | new=>cases dh
   | g3 am _=>exact am
  ·revert j0 dh aT;generalize e.1=t;intro dh j0 aT;cases t<;>first | (cases dh; done) | skip
   obtain⟨dG,a2,bv,_⟩:=j0;simp only[bR.idx] at aT;rw[aT] at a2; cases a2;exact bv
 have gS:AH ops (qc (jm ops)) (es.map (·.1)) :=by
  refine⟨aec jo,fun i ay=>?_,fun p cv t gT au iL am=>?_,fun p t au=>?_,fun p cv t gT au iL aL=>?_,fun p cv t gT au iL aL dh=>?_⟩
  ·rw[axx] at xU;have:=xU i (by simpa using ay);have hm:i∈fR (jm ops) ops:=by simpa using this
   have mj:(es.map (·.1)).map bR.idx=fR (jm ops) ops:=by
    rw[ayv];show es.map (fun e=>e.1.idx)=_;rw[tr.idx,<-Wv];apply axE;intro p;rw[awV,awV];cases ag:yg[p]? with
    | none=>
     have:(po P (jm ops) ops (fR (jm ops) ops) [] [])[p]? = none:=by
      rw[ayq] at ag ⊢;rw[<-OK bE]; exact ag
     rw[this]; rfl
    | some x=>obtain⟨o,_,ad,_⟩:=kn p x ag; rw[ad]; rfl
   rw[<-mj] at hm;obtain⟨t,ad,ae⟩:=axi.1 hm;obtain⟨p,au⟩:=aya ad;exact⟨p,t,au,ae⟩
  ·obtain⟨e,aK,aW⟩:=fG p t au;obtain⟨fr,DW,DX⟩:=fG cv gT iL;have a8:=tK p e aK;have bh:=tK cv fr DW;rw[aW] at a8; rw[DX] at bh;rcases ayc p cv with h | h | h
   ·exact absurd am (JR hB p cv _ _ a8 bh h).1
   ·exact h
   ·exact absurd am.symm (JR hB cv p _ _ bh a8 h).1
  ·obtain⟨e,aK,aW⟩:=fG p t au;have a8:=tK p e aK;rw[aW] at a8;exact Ny _ (awY a8)
  ·obtain⟨e,aK,aW⟩:=fG p t au;obtain⟨fr,DW,DX⟩:=fG cv gT iL;have a8:=tK p e aK;have bh:=tK cv fr DW;rw[aW] at a8; rw[DX] at bh;exact (JR hB p cv _ _ a8 bh aL).2
  ·obtain⟨e,aK,aW⟩:=fG p t au;obtain⟨fr,DW,DX⟩:=fG cv gT iL;obtain⟨o,cT,dw,_⟩:=zf p e aK (by rw[aW]; exact dh);have a8:=tK p e aK;have bh:=tK cv fr DW;rw[aW] at a8 cT; rw[DX] at bh;exact T1 agK p cv _ _ o a8 bh aL cT dw
 have mQ:∀ q,q<=es.length->(hl ops ⟨σ,bb l⟩ (es.map (·.1)) q).h=bb (vi es l' q) :=fun q aN=>by
  unfold vi;cases am:es[q]? with
  | none=>
   have:q=es.length:=by rw[ayq] at am; omega
   rw[this,tr.at.2]
  | some e=>rw[(tr.at.1 q e am).2]
 have mE:KY P G ops (qc (jm ops)) ⟨σ,bb l⟩ (es.map (·.1)) :=by
  refine⟨fun p t au=>?_,fun q aN p t atj au cR=>?_⟩
  ·obtain⟨e,aK,aW⟩:=fG p t au;obtain⟨bS,b7⟩:=tr.at.1 p e aK;rw[b7,<-aW]; exact bS
  ·obtain⟨e,aK,aW⟩:=fG p t au;obtain⟨bS,b7⟩:=tr.at.1 p e aK;have aid:q<=es.length:=by
    rcases aN with rfl | ⟨apc,aN,_⟩
    ·simp
    ·obtain⟨eq,a6,_⟩:=fG q apc aN;exact ayz (awQ.1 a6).1
   rw[mQ q aid,b7];cases gO:e.1.vL with
   | true=>rw[<-aW]; cases h:e.1<;>rw[h] at gO<;>first | trivial | cases gO
   | false=>
    obtain⟨x,o,v,l1,yc,ad,ae,aj,aD⟩:=tr.split p e aK gO;obtain⟨dG,e5,fv,ahs⟩:=kn p x ad;have nx:dG=o:=by have a:=e5.here; have b:=ae.here; rw[a] at b; exact Option.some.inj b
    subst nx;have ask:uu P dG.op=true->∀ (cv:Nat) (fr:bR × bc × ap),cv<q - (p+1)->(es.drop (p+1))[cv]? = some fr->fr.1.j3=true->
      (x.i,mB P G x.b e.2.1 v e.2.2 l1)∈sT x.b1 x.i (mB P G x.b e.2.1 v e.2.2 l1) yc/\∃ y,(yg.drop (p+1))[cv]? = some y/\x.i∈y.dK:=by
     intro aX cv fr iL g6 y6;rw[axv] at g6;obtain⟨y,bZ,ce⟩:=xg _ fr g6;obtain⟨ud,eB,hA,_⟩:=kn _ y bZ;obtain⟨alH,iX,zQ,vM⟩:=zf _ fr g6 y6;have c7:x.i∈y.dK:=by
      refine Pf _ _ _ _ _ _ Ny hA ⟨alH,by rw[ce]; exact iX,zQ⟩ x.i (.inr ⟨p,by omega,WI p x ad⟩) ⟨dG,ae.here,aX⟩ (fun e am=>by cases am) ?_;intro uf aiR JJ atf ag7 Wn HW ax
      -- what is at p'' was carried out
      have aL:uf<es.length:=by
       have:=(awQ.1 g6).1;omega
      have mj:es[uf]? = some es[uf] :=awT aL;have kN:=tK _ _ mj;rw[ag7] at kN;have vm:aiR=es[uf].1.idx:=Option.some.inj kN;have afE:es[uf].1.j3=true:=by
       cases sl:es[uf].1.vL with
       | true=>
        exfalso;rcases ax with rfl | ax
        ·rw[mj] at g6;cases g6;cases h:es[p+1+cv].1<;>rw[h] at y6 sl<;>first | (cases sl; done) | (cases y6; done)
        ·have j0:=(tr.at.1 _ _ mj).1;cases h:es[uf].1<;>rw[h] at sl j0 vm<;>first | (cases sl; done) | skip
         obtain⟨p5,e0,eR⟩:=j0;simp only[bR.idx] at vm;rw[<-vm,Wn] at e0; cases e0;simp[lE,ax] at eR
       | false=>
        obtain⟨sY,p5,fo,gE,awg,e0,eR,xK,_⟩:=tr.split _ _ mj sl;have ag9:=xK.idx;have VP:=eR.here;rw[<-ag9,<-vm,Wn] at VP; cases VP;revert xK;generalize es[uf].1=t3;intro xK;cases xK with
        | pure m af hm _ _=>
         exfalso;have ah:=eR.gR m af;have:lq JJ.op=false:=by
          revert ah hm;cases JJ.op<;>simp only[nY]<;>intro hm ah<;>first | rfl | (exfalso; revert ah hm; done) | skip
          case store=>rw[map_some] at ah; obtain⟨_,_,rfl⟩:=ah; cases hm
          case call c=>
           split at ah
           ·rename_i b af;unfold lq;simp only[af];unfold wR at ah
            repeat' split at ah
            all_goals first
             | rfl
             | (cases ah; done)
             | (cases ah; cases hm; done)
             | (simp only[bind_some,map_some] at ah; obtain⟨_,_,rfl⟩:=ah; cases hm; done)
             | (simp only[bind_some,map_some] at ah; obtain⟨_,_,_,_,rfl⟩:=ah; cases hm; done)
             | (simp only[bind_some,iW] at ah; obtain⟨_,_,_,_,_,_,_,rfl⟩:=ah; cases hm; done)
             | (simp only[bind_some,iW] at ah; obtain⟨_,_,_,_,_,_,_,_,_,rfl⟩:=ah; cases hm; done)
           ·split at ah
            ·rw[iW] at ah; obtain⟨_,rfl⟩:=ah; cases hm
            ·cases ah
           ·cases ah
          case next it b=>(cases b<;>simp only[reduceCtorEq] at ah<;>cases ah<;>cases hm)
          case lookup=>split at ah<;>(try cases ah; done); rw[map_some] at ah; obtain⟨_,_,rfl⟩:=ah; cases hm
          case mapUpdate=>split at ah<;>cases ah; cases hm
          case insert=>split at ah<;>cases ah; cases hm
          case panic=>(cases ah; cases hm)
          case makeMap=>split at ah<;>cases ah; cases hm
          case range=>split at ah<;>cases ah; cases hm
          case typeAssert=>rw[map_some] at ah; obtain⟨_,_,rfl⟩:=ah; cases hm
          all_goals (cases ah)
         rw[this] at HW; cases HW
        | new m cs af hm _=>
         exfalso;have ah:=eR.gR m af;have:lq JJ.op=false:=by
          revert ah hm;cases JJ.op<;>simp only[nY]<;>intro hm ah<;>first | rfl | (exfalso; revert ah hm; done) | skip
          case store=>rw[map_some] at ah; obtain⟨_,_,rfl⟩:=ah; cases hm
          case panic=>(cases ah; cases hm)
          case call c=>
           split at ah
           ·rename_i b af;unfold lq;simp only[af];unfold wR at ah
            repeat' split at ah
            all_goals first
             | rfl
             | (cases ah; done)
             | (cases ah; cases hm; done)
             | (simp only[bind_some,map_some] at ah; obtain⟨_,_,rfl⟩:=ah; cases hm; done)
             | (simp only[bind_some,map_some] at ah; obtain⟨_,_,_,_,rfl⟩:=ah; cases hm; done)
             | (simp only[bind_some,iW] at ah; obtain⟨_,_,_,_,_,_,_,rfl⟩:=ah; cases hm; done)
             | (simp only[bind_some,iW] at ah; obtain⟨_,_,_,_,_,_,_,_,_,rfl⟩:=ah; cases hm; done)
           ·split at ah
            ·rw[iW] at ah; obtain⟨_,rfl⟩:=ah; cases hm
            ·cases ah
           ·cases ah
          case next it b=>(cases b<;>simp only[reduceCtorEq] at ah<;>cases ah<;>cases hm)
          case lookup=>split at ah<;>(try cases ah; done); rw[map_some] at ah; obtain⟨_,_,rfl⟩:=ah; cases hm
          case mapUpdate=>split at ah<;>cases ah; cases hm
          case insert=>split at ah<;>cases ah; cases hm
          case makeMap=>split at ah<;>cases ah; cases hm
          case range=>split at ah<;>cases ah; cases hm
          case typeAssert=>rw[map_some] at ah; obtain⟨_,_,rfl⟩:=ah; cases hm
          all_goals (cases ah)
         rw[this] at HW; cases HW
        | g3 _ _=>rfl
      have:=cR uf es[uf].1 (by omega) (by simp[mj]) afE;rw[vm,ae.here |> fun _=>(aj.idx).symm,aW];exact this
     refine⟨?_,y,by rw[axv]; exact bZ,c7⟩;have:x.b1=true:=by
      rw[ahs];simp only[List.contains_iff_mem,List.mem_flatMap];exact⟨(y.i,y.dK),awY hA,c7⟩
     rw[this];exact azx
    have HQ:uu P dG.op=true->(∀ l i5,mB P G x.b e.2.1 v e.2.2 l1 l->mB P G x.b e.2.1 v e.2.2 l1 (l++i5))->mB P G x.b e.2.1 v e.2.2 l1 l1->mB P G x.b e.2.1 v e.2.2 l1 (vi es l' q) :=by
     intro aX q2 aJ;have:=aD.still x.i _ q2 aJ (q - (p+1)) (by simp only[axP]; omega) (ask aX)
     rwa [agL,show p+1+(q - (p+1))=q by omega] at this
    rw[<-aW];revert aj HQ ask aW;generalize e.1=t1;intro aW aj ask HQ;cases aj with
    | g3=>trivial
    | pure m af hm al ak=>
     intro hB pa;rw[ae.here] at pa; cases pa;have ah:=ae.gR m af;cases az:m.reads with
     | false=>exact JG ah (aks hm az ak)
     | true=>
      have aX:uu P dG.op=true:=by
       cases h:uu P dG.op with
       | true=>rfl
       | false=>rw[(TJ ah h).1] at az; cases az
      have zw:m.jC=false:=by cases m<;>first | rfl | cases az
      have bE:∀ br,mB P G x.b e.2.1 v e.2.2 l1 br<->bU P (c2 G e.2.1) br m=some (v,br) :=fun br=>by rw[af]; simp only[mB,zw]
      have:=HQ aX (fun br i5 h=>by rw[bE] at h ⊢; exact akr hm h) (by rw[bE,al]; exact ak);rw[bE] at this;exact JG ah this
    | new m cs af hm al=>
     have ah:=ae.gR m af;have aX:uu P dG.op=true:=by
      cases h:uu P dG.op with
      | true=>rfl
      | false=>rw[(TJ ah h).2] at hm; cases hm
     have bE:∀ br:ap,mB P G x.b e.2.1 v e.2.2 l1 br<->br[e.2.2.length]? = some (.cells cs.length cs) :=fun br=>by
      rw[af,al]; simp only[mB,hm]; rw[aw6 (awU _)]; simp
     have:=HQ aX (fun br i5 h=>by rw[bE] at h ⊢; rw[awS (cd h)]; exact h) (by rw[bE,al,aw6 (awU _)]; simp);rw[bE] at this;show (bb (vi es l' q)).f (bb e.2.2).n=_;rw[k2,GZ,this]
 have:=dJ.aeb (id:=id) gS bg mE;rw[aw1,tr.at.2] at this;exact this
end

section
variable {P:Program} {G:Nat->U}
theorem La {ops:Array Oper} {f:Nat->Option dp}:∀ {is:List Nat} {s:List dp} {os:List Oper},(∀ i x,f i=some x->∃ o,qx P ops x o/\x.i=i)->is.mapM f=some s->is.map (fun i=>ops[i]?)=os.map some->oM P ops s os
 | [],s,os,aF,h,av=>by
  simp at h; subst h;cases os with
  | nil=>exact .nil
  | cons=>simp at av
 | i::is,s,os,aF,h,av=>by
  rw[ayp] at h;simp only[Option.bind_eq_bind,bind_some,ayC,Option.some.injEq] at h;obtain⟨x,ad,ff,ae,rfl⟩:=h;cases os with
  | nil=>simp at av
  | cons o os=>
   simp only[axk,List.cons.injEq] at av;obtain⟨dG,ok,ay⟩:=aF i x ad;have:dG=o:=by have:=ok.here; rw[ay,av.1] at this; exact (Option.some.inj this).symm
   subst this;exact .cons ok (La aF ae av.2)
theorem adJ {N N' id:Nat} (fB:N<=N') {ops:Array Oper} {draw:Bool} {c:fM} (ah:LJ P N ops draw=some c) {σ:bc} {l:ap} {K:hF} (h:run P G c σ l K) :
  ∃ e bG l',dJ P G (.code (.region id ops draw) N' σ (bb l) e bG (bb l'))/\l.length<=l'.length/\K e bG l':=by
 unfold LJ at ah;split at ah
 ·cases ah
 ·rename_i qZ;have bg:∀ (i:Nat) (o:Oper),ops[i]? = some o->kf N' o.dst=true:=fun i o av=>by
   rw[axx] at qZ;have:=qZ o (by simpa using Array.mem_of_getElem? av);unfold kf at this ⊢;split at this
   ·rename_i d _; exact decide_eq_true (ayy (of_decide_eq_true this) fB)
   ·rfl
  split at ah
  ·rw[map_some] at ah;obtain⟨s,ad,rfl⟩:=ah;have dE:oM P ops s ops.toList:=by
    refine La (fun i x ag=>?_) ad ?_
    ·obtain⟨o,ae,aj,_⟩:=Gu ag; exact⟨o,ae,aj⟩
    ·apply axE;intro p;rw[awV,awV];by_cases au:p<ops.size
     ·rw[axu au]; simp[au]
     ·rw[aw5 (by simp; omega),aw5 (by simp; omega)]; rfl
   obtain⟨bG,l',ae,aj,aD⟩:=Gj bg dE h;exact⟨.normal,bG,l',.region ae,aj,aD⟩
  ·simp only at ah;split at ah
   ·cases ah
   ·rename_i n5;simp only[awZ] at n5;split at ah
    ·cases ah
    ·rename_i s ak;have cM:∀ x∈s,∃ o,qx P ops x o:=fun x ag=>by
      obtain⟨p,au⟩:=aya ag;obtain⟨a,_,ae⟩:=JC ak p x au;obtain⟨o,aj,_⟩:=Gu ae;exact⟨o,aj⟩
     have fin:ky P G s σ l [] (K .normal)->∃ e bG l',dJ P G (.code (.region id ops true) N' σ (bb l) e bG (bb l'))/\l.length<=l'.length/\K e bG l':=fun h=>by
      obtain⟨es,bG,l',ad,ae⟩:=PJ cM h;exact⟨.normal,bG,l',aee bg n5.1 n5.2 ak ad,ad.len,ae⟩
     split at ah
     ·rename_i Bz;cases ah;refine fin (PL (fun x ag=>?_) h)
      obtain⟨p,au⟩:=aya ag;obtain⟨a,_,ae⟩:=JC ak p x au;obtain⟨o,_,_,_,aj⟩:=Gu ae;rw[aj,Bz]; rfl
     ·cases ah;exact fin h
theorem ZW {N N' : Nat} (fB:N<=N') :∀ (code:Code) (c:fM),comp P N code=some c->∀ (σ:bc) (l:ap) (K:hF),run P G c σ l K->
  ∃ e bG l',dJ P G (.code code N' σ (bb l) e bG (bb l'))/\l.length<=l'.length/\K e bG l':=by
 intro code
 induction code with
 | skip=>intro c ah σ l K h; cases ah; exact⟨_,_,_,.skip _ _ _,awU _,h⟩
 | label n=>intro c ah σ l K h; cases ah; exact⟨_,_,_,.label _ _ _ _,awU _,h⟩
 | ret=>intro c ah σ l K h; cases ah; exact⟨_,_,_,.ret _ _ _,awU _,h⟩
 | exit id=>intro c ah σ l K h; cases ah; exact⟨_,_,_,.exit _ _ _ _,awU _,h⟩
 | region id ops draw=>intro c ah σ l K h; exact adJ fB ah h
 | seq a b N5 N6=>
  intro c ah σ l K h;have mk:∀ (AU mb:fM),comp P N a=some AU->comp P N b=some mb->run P G AU σ l (pk (fun σ l=>run P G mb σ l K) K)->∃ e bG l',dJ P G (.code (.seq a b) N' σ (bb l) e bG (bb l'))/\l.length<=l'.length/\K e bG l':=by
   intro AU mb aE af h;obtain⟨e,il,l1,ad,ae,aj⟩:=N5 AU aE σ l _ h;cases e with
   | normal=>
    obtain⟨e,AF,br,aD,a2,bv⟩:=N6 mb af il l1 K aj;exact⟨e,AF,br,.Z7 ad aD,axy ae a2,bv⟩
   | exit id=>exact⟨_,il,l1,.PV ad (by intro h; cases h),ae,aj⟩
   | ret=>exact⟨_,il,l1,.PV ad (by intro h; cases h),ae,aj⟩
  simp only[comp] at ah;split at ah
  ·rename_i aZ aE af;cases ah;exact mk _ _ aE af h
  ·rename_i cV _ aE af;cases ah;refine mk _ _ aE af ?_;have:pk (fun σ l=>run P G .skip σ l K) K=K:=by
    funext e σ l;cases e<;>rfl
   rw[this]; exact h
  ·rename_i cV aZ _ _ aE af;cases ah;exact mk _ _ aE af h
  ·cases ah
 | cond c x y N9 Oa=>
  intro Ht ah σ l K h;simp only[comp] at ah;split at ah
  ·rename_i GO GR ag aI;cases ah;simp only[run,zR] at h;split at h
   ·rename_i b af;rw[Fz] at h;rcases h with ⟨rfl,h⟩ | ⟨rfl,h⟩
    ·obtain⟨e,il,l1,ad,ae,aj⟩:=N9 GO ag σ l K h;exact⟨e,il,l1,.cond af ad,ae,aj⟩
    ·obtain⟨e,il,l1,ad,ae,aj⟩:=Oa GR aI σ l K h;exact⟨e,il,l1,.cond af ad,ae,aj⟩
   ·cases h
  ·cases ah
 | block id c aR=>
  intro Ht ah σ l K h;simp only[comp,map_some] at ah;obtain⟨c',ad,rfl⟩:=ah;obtain⟨e,il,l1,ae,aj,aD⟩:=aR c' ad σ l _ h;cases e with
  | normal=>exact⟨_,il,l1,.Hk ae (by intro h; cases h),aj,aD⟩
  | ret=>exact⟨_,il,l1,.Hk ae (by intro h; cases h),aj,aD⟩
  | exit tS=>
   simp only[su] at aD;split at aD
   ·rename_i af;obtain rfl:=lv af;exact⟨_,il,l1,.RB ae,aj,aD⟩
   ·rename_i af;exact⟨_,il,l1,.Hk ae (by intro h; cases h; rw[azk] at af; cases af),aj,aD⟩
 | loop c aR=>
  intro Ht ah σ l K h;simp only[comp,map_some] at ah;obtain⟨c',ad,rfl⟩:=ah;obtain⟨n,h⟩:=h
  induction n generalizing σ l with
  | zero=>cases h
  | succ n N8=>
   obtain⟨e,il,l1,ae,aj,aD⟩:=aR c' ad σ l _ h;cases e with
   | normal=>
    obtain⟨e,AF,br,a2,bv,dr⟩:=N8 il l1 aD;exact⟨e,AF,br,.Cl ae a2,axy aj bv,dr⟩
   | exit id=>exact⟨_,il,l1,.OC ae (by intro h; cases h),aj,aD⟩
   | ret=>exact⟨_,il,l1,.OC ae (by intro h; cases h),aj,aD⟩
 | scope c aR=>
  intro Ht ah σ l K h;obtain⟨e,il,l1,ae,aj,aD⟩:=aR Ht ah σ l K h;exact⟨e,il,l1,.scope ae,aj,aD⟩
 | _=>intro c ah; cases ah
def LI (P:Program) :ResultVar->Option db
 | .tmp t=>some (.fX (.tmp t))
 | .cell a t=>nY P (.load t (.tmp a))
def wT (P:Program) (f:FuncId) :Option (List db) :=match P.funcs[f]? with
 | some fn=>fn.results.toList.mapM (LI P)
 | none=>none
def pj (P:Program) (G:Nat->U) (K:U->ap->Prop) (σ:bc) (l:ap) :List db->List U->Prop
 | [],acc=>K (yl acc) l
 | m::r,acc=>W (bU P (c2 G σ) l m) (c:=⟨fun x=>pj P G K σ l r (acc++[x.1])⟩)
def Fy (P:Program) (G:Nat->U) (ms:List db) (K:U->ap->Prop) :hF:=fun e σ l=>match e with
 | .exit _=>False
 | .normal=>pj P G K σ l ms []
 | .ret=>pj P G K σ l ms []
def l8 (args:List U) :bc:=fun t=>args.getD t gU
theorem Xj {K:U->ap->Prop} {σ:bc} {l:ap}:∀ {oD:List ResultVar} {ms:List db} {acc:List U},oD.mapM (LI P)=some ms->pj P G K σ l ms acc->∃ vs,x5 P (bb l) σ oD=some vs/\K (yl (acc++vs)) l
 | [],ms,acc,hm,h=>by simp at hm; subst hm; exact⟨[],rfl,by simpa [pj] using h⟩
 | r::oD,ms,acc,hm,h=>by
  rw[ayp] at hm;simp only[Option.bind_eq_bind,bind_some,ayC,Option.some.injEq] at hm;obtain⟨m,ad,avB,ae,rfl⟩:=hm;simp only[pj,AL] at h;obtain⟨⟨v,l1⟩,aj,aD⟩:=h;obtain⟨vs,a2,bv⟩:=Xj ae aD;refine⟨v::vs,?_,by simpa using bv⟩;have:CK P (bb l) σ r=some v:=by
   cases r with
   | tmp t=>cases ad; simp only[bU,Option.some.injEq,Prod.mk.injEq] at aj; rw[<-aj.1]; rfl
   | cell a t=>
    have dX:nY P (.load t (.tmp a))=some m:=ad;have:=JG dX aj;simp only[c4] at this;unfold CK;show tZ P (bb l) t (c2 G σ (.tmp a))=some v;cases al:tZ P (bb l) t (c2 G σ (.tmp a)) with
    | none=>rw[al] at this; cases this
    | some x=>rw[al] at this; simp only[aw0,Option.some.injEq,qw.val.injEq] at this; rw[this.1]
  simp only[x5,this,a2]
theorem Hs {f:FuncId} {c:fM} {ms:List db} (ah:wS P f=some c) (az:wT P f=some ms) {args:List U} {l:ap} {K:uD}
  (h:run P G c (l8 args) l (Fy P G ms K.k)) :c5 P G f args l (c:=K) :=by
 unfold wS at ah;unfold wT at az;split at ah
 ·rename_i fn iR;split at ah
  ·rename_i body af;rw[iR] at az;obtain⟨e,bG,l',ad,ae,aj⟩:=ZW (N':=args.length+(fn.ntmps - args.length)) (by omega) body c ah _ _ _ h;have fin:(e=.normal\/e=.ret)->pj P G K.k bG l' ms []->c5 P G f args l (c:=K) :=fun am aj=>by
    obtain⟨vs,aD,a2⟩:=Xj az aj;exact⟨yl vs,l',.inline iR af ad am (by simp only[CJ,aD]; rfl),ae,by simpa using a2⟩
   cases e with
   | normal=>exact fin (.inl rfl) aj
   | ret=>exact fin (.inr rfl) aj
   | exit id=>cases aj
  ·cases ah
 ·cases ah
theorem aau {b:rH} {σ:bc} {l:ap} {K fa:U->ap->Prop} (aY:∀ v l,K v l->fa v l) (h:iE P G b σ l K) :iE P G b σ l fa:=by
 cases b with
 | gR m=>simp only[iE,AL] at h ⊢; obtain⟨v,ad,ae⟩:=h; exact⟨v,ad,XP aY ae⟩
 | nb f args=>obtain⟨r,l',ad,ae,aj⟩:=h; exact⟨r,l',ad,ae,aY _ _ aj⟩
 | nd x args=>
  simp only[iE,wI] at h ⊢;split at h
  ·obtain⟨aJ,r,l',ad,ae,aj⟩:=h; exact⟨aJ,r,l',ad,ae,aY _ _ aj⟩
  ·cases h
 | oV x name args=>
  simp only[iE,wH] at h ⊢;split at h
  ·split at h
   ·obtain⟨aJ,r,l',ad,ae,aj⟩:=h; exact⟨aJ,r,l',ad,ae,aY _ _ aj⟩
   ·cases h
  ·cases h
theorem Xh {σ:bc} {g:Option (Option Tmp × Bool)} {p q cv q' : Prop} (au:p->cv) (aN:q->q') (h:rh σ g p q) :rh σ g cv q':=by
 unfold rh at h ⊢;split at h
 ·exact au h
 ·simp only[sv] at h ⊢;split at h
  ·rw[Fz] at h ⊢;rcases h with ⟨a,b⟩ | ⟨a,b⟩
   ·exact .inl ⟨a,au b⟩
   ·exact .inr ⟨a,aN b⟩
  ·cases h
  ·exact aN h
 ·exact aN h
theorem PM {K fa:bc->ap->Prop} (aY:∀ σ l,K σ l->fa σ l) :∀ {s:List dp} {σ:bc} {l:ap},jp P G s σ l K->jp P G s σ l fa
 | [],_,_,h=>aY _ _ h
 | s::r,_,_,h=>Xh (aau fun _ _ h=>PM aY h) (fun h=>PM aY h) h
theorem PI {K fa:bc->ap->Prop} (aY:∀ σ l,K σ l->fa σ l) :∀ {s:List dp} {σ:bc} {l:ap} {seen:i8},ky P G s σ l seen K->ky P G s σ l seen fa
 | [],_,_,_,h=>aY _ _ h
 | s::r,_,_,_,h=>Xh (aau fun _ _ h=>⟨h.1,PI aY h.2⟩) (fun h=>PI aY h) h
theorem FA {k k' : bc->ap->Prop} {K fa:hF} (ar:∀ σ l,k σ l->k' σ l) (aY:∀ e σ l,K e σ l->fa e σ l) :∀ e σ l,pk k K e σ l->pk k' fa e σ l:=by
 intro e σ l h; cases e<;>first | exact ar _ _ h | exact aY _ _ _ h
theorem PP:∀ {c:fM} {σ:bc} {l:ap} {K fa:hF},(∀ e σ l,K e σ l->fa e σ l)->run P G c σ l K->run P G c σ l fa:=by
 intro c
 induction c with
 | skip=>intro σ l K fa aY h; exact aY _ _ _ h
 | ret=>intro σ l K fa aY h; exact aY _ _ _ h
 | exit id=>intro σ l K fa aY h; exact aY _ _ _ h
 | l3 s=>intro σ l K fa aY h; exact PM (aY _) h
 | yW s=>intro σ l K fa aY h; exact PI (aY _) h
 | seq a b N5 N6=>intro σ l K fa aY h; exact N5 (FA (fun σ l h=>N6 aY h) aY) h
 | cond c x y N9 Oa=>
  intro σ l K fa aY h;simp only[run,zR] at h ⊢;split at h
  ·rw[Fz] at h ⊢;rcases h with ⟨a,b⟩ | ⟨a,b⟩
   ·exact .inl ⟨a,N9 aY b⟩
   ·exact .inr ⟨a,Oa aY b⟩
  ·cases h
 | block id c aR=>
  intro σ l K fa aY h;refine aR (fun e σ l h=>?_) h;cases e with
  | normal=>exact aY _ _ _ h
  | ret=>exact aY _ _ _ h
  | exit tS=>
   simp only[su] at h ⊢;split at h
   ·exact aY _ _ _ h
   ·exact aY _ _ _ h
 | loop c aR=>
  intro σ l K fa aY h;obtain⟨n,h⟩:=h;refine⟨n,?_⟩
  induction n generalizing σ l with
  | zero=>cases h
  | succ n N8=>exact aR (FA (fun σ l h=>N8 h) aY) h
theorem c5.mono {f:FuncId} {args:List U} {l:ap} {K fa:uD} (aY:∀ v l,K.k v l->fa.k v l) (h:c5 P G f args l (c:=K)) :c5 P G f args l (c:=fa) :=by
 obtain⟨r,l',ad,ae,aj⟩:=h; exact⟨r,l',ad,ae,aY _ _ aj⟩
theorem FJ {c:fM} {K:KS} (I:Nat->bc->ap->Prop) (step:∀ n σ l,I n σ l->run P G c σ l (pk (fun σ l=>∃ fY,fY<n/\I fY σ l) K.k)) :∀ n σ l,I n σ l->G0 (run P G c) σ l (c:=K) :=by
 intro n
 induction n using Nat.strongRecOn with
 | _ n aR=>
  intro σ l h
  -- fuel n+1 is enough
  have D4:∀ (m n:Nat),n<=m->∀ σ l,I n σ l->Cl (run P G c) (m+1) σ l K.k:=by
   intro m
   induction m with
   | zero=>
    intro n aC σ l h;obtain rfl:n=0:=by omega
    exact PP (FA (fun σ l ⟨fY,ad,_⟩=>by omega) (fun _ _ _ h=>h)) (step 0 σ l h)
   | succ m N7=>
    intro n aC σ l h;exact PP (FA (fun σ l ⟨fY,ad,ae⟩=>N7 fY (by omega) σ l ae) (fun _ _ _ h=>h)) (step n σ l h)
  exact⟨n+1,D4 n n (awU _) σ l h⟩
theorem cl {c:fM} {K:KS} (n:Nat) (I:Nat->bc->ap->Prop) (step:∀ k σ l,k<=n->I k σ l->run P G c σ l (pk (fun σ l=>k<n/\I (k+1) σ l) K.k)) {σ:bc} {l:ap} (h:I 0 σ l) :G0 (run P G c) σ l (c:=K) :=by
 refine FJ (fun m σ l=>∃ k,k+m=n/\I k σ l) (fun m σ l ⟨k,ar,h⟩=>?_) n σ l ⟨0,by omega,h⟩;exact PP (FA (fun σ l ⟨ad,ae⟩=>⟨m - 1,by omega,k+1,by omega,ae⟩) (fun _ _ _ h=>h)) (step k σ l (by omega) h)
end

section
variable {P:Program} {G:Nat->U}
@[simp ↓] theorem awf (σ:bc) (l:ap) (K:hF) :run P G .skip σ l K=K .normal σ l:=id rfl
@[simp ↓] theorem awd (σ:bc) (l:ap) (K:hF) :run P G .ret σ l K=K .ret σ l:=id rfl
@[simp ↓] theorem awa (i:Nat) (σ:bc) (l:ap) (K:hF) :run P G (.exit i) σ l K=K (.exit i) σ l:=id rfl
@[simp ↓] theorem awc (s:List dp) (σ:bc) (l:ap) (K:hF) :run P G (.l3 s) σ l K=jp P G s σ l (K .normal) :=id rfl
@[simp ↓] theorem av9 (s:List dp) (σ:bc) (l:ap) (K:hF) :run P G (.yW s) σ l K=ky P G s σ l [] (K .normal) :=id rfl
@[simp ↓] theorem awe (a b:fM) (σ:bc) (l:ap) (K:hF) :run P G (.seq a b) σ l K=run P G a σ l (pk (fun σ l=>run P G b σ l K) K) :=id rfl
@[simp ↓] theorem av8 (c:Operand) (x y:fM) (σ:bc) (l:ap) (K:hF) :run P G (.cond c x y) σ l K=zR (c2 G σ c) (c:=⟨run P G x σ l K,run P G y σ l K⟩) :=id rfl
@[simp ↓] theorem av7 (i:Nat) (c:fM) (σ:bc) (l:ap) (K:hF) :run P G (.block i c) σ l K=run P G c σ l (su i K) :=id rfl
@[simp ↓] theorem awb (c:fM) (σ:bc) (l:ap) (K:hF) :run P G (.loop c) σ l K=G0 (run P G c) σ l (c:=⟨K⟩) :=id rfl
@[simp ↓] theorem atZ (k:bc->ap->Prop) (K:hF) (σ:bc) (l:ap) :pk k K .normal σ l=k σ l:=id rfl
@[simp ↓] theorem atY (k:bc->ap->Prop) (K:hF) (i:Nat) (σ:bc) (l:ap) :pk k K (.exit i) σ l=K (.exit i) σ l:=id rfl
@[simp ↓] theorem at0 (k:bc->ap->Prop) (K:hF) (σ:bc) (l:ap) :pk k K .ret σ l=K .ret σ l:=id rfl
@[simp ↓] theorem atI (i:Nat) (K:hF) (σ:bc) (l:ap) :su i K .normal σ l=K .normal σ l:=id rfl
@[simp ↓] theorem atJ (i:Nat) (K:hF) (σ:bc) (l:ap) :su i K .ret σ l=K .ret σ l:=id rfl
def xF (p:Prop) [Decidable p] [c:Db] :Prop:=if p then c.p else c.q
@[simp ↓] theorem atH (i j:Nat) (K:hF) (σ:bc) (l:ap) :su i K (.exit j) σ l=xF (j=i) (c:=⟨K .normal σ l,K (.exit j) σ l⟩) :=by
 unfold su xF;by_cases h:j=i
 ·simp only[ua h,if_pos h]
 ·simp only[kt h,if_neg h]
@[simp ↓] theorem atO (i:Nat) (x y:Prop) :xF (i=i) (c:=⟨x,y⟩)=x:=by simp[xF]
@[simp] theorem atP (x y:Prop) :xF True (c:=⟨x,y⟩)=x:=by simp[xF]
@[simp] theorem atN (x y:Prop) :xF False (c:=⟨x,y⟩)=y:=by simp[xF]
@[simp ↓] theorem atL (ms:List db) (K:U->ap->Prop) (σ:bc) (l:ap) :Fy P G ms K .normal σ l=pj P G K σ l ms [] :=id rfl
@[simp ↓] theorem atM (ms:List db) (K:U->ap->Prop) (σ:bc) (l:ap) :Fy P G ms K .ret σ l=pj P G K σ l ms [] :=id rfl
@[simp ↓] theorem atX (K:U->ap->Prop) (σ:bc) (l:ap) (acc:List U) :pj P G K σ l [] acc=K (yl acc) l:=id rfl
@[simp ↓] theorem atW (K:U->ap->Prop) (σ:bc) (l:ap) (m:db) (r:List db) (acc:List U) :pj P G K σ l (m::r) acc=W (bU P (c2 G σ) l m) (c:=⟨fun x=>pj P G K σ l r (acc++[x.1])⟩) :=id rfl
@[simp] theorem awu (v:U) :yl [v]=v:=id rfl
@[simp] theorem awv (v w:U) (r:List U) :yl (v::w::r)=.bq (v::w::r) :=id rfl
@[simp ↓] theorem av6 (σ:bc) (l:ap) (K:bc->ap->Prop) :jp P G [] σ l K=K σ l:=id rfl
@[simp ↓] theorem av5 (i:Nat) (dst:Option Tmp) (m:db) (c:List Nat) (k:Bool) (r:List dp) (σ:bc) (l:ap) (K:bc->ap->Prop) :
  jp P G (⟨i,dst,none,.gR m,c,k⟩::r) σ l K=W (bU P (c2 G σ) l m) (c:=⟨fun x=>eC m x.1 x.2 fun v l'=>jp P G r (h1 σ dst v) l' K⟩) :=id rfl
@[simp ↓] theorem av1 (i:Nat) (dst:Option Tmp) (f:FuncId) (args:List Operand) (c:List Nat) (k:Bool) (r:List dp) (σ:bc) (l:ap) (K:bc->ap->Prop) :
  jp P G (⟨i,dst,none,.nb f args,c,k⟩::r) σ l K=c5 P G f (args.map (c2 G σ)) l (c:=⟨fun v l'=>jp P G r (h1 σ dst v) l' K⟩) :=id rfl
@[simp ↓] theorem av3 (i:Nat) (dst:Option Tmp) (x:Operand) (args:List Operand) (c:List Nat) (k:Bool) (r:List dp) (σ:bc) (l:ap) (K:bc->ap->Prop) :
  jp P G (⟨i,dst,none,.nd x args,c,k⟩::r) σ l K=wI P G (c2 G σ x) (args.map (c2 G σ)) l (c:=⟨fun v l'=>jp P G r (h1 σ dst v) l' K⟩) :=id rfl
@[simp ↓] theorem av2 (i:Nat) (dst:Option Tmp) (x:Operand) (name:String) (args:List Operand) (c:List Nat) (k:Bool) (r:List dp) (σ:bc) (l:ap) (K:bc->ap->Prop) :
  jp P G (⟨i,dst,none,.oV x name args,c,k⟩::r) σ l K=wH P G name (c2 G σ x) (args.map (c2 G σ)) l (c:=⟨fun v l'=>jp P G r (h1 σ dst v) l' K⟩) :=id rfl
@[simp ↓] theorem aru (name:String) (t:TypeId) (v:U) (args:List U) (l:ap) (c:uD) :
  wH P G name (.hM t v) args l (c:=c)=(match zY P t name with | some g=>kK P g=true/\c5 P G g (v::args) l (c:=c) | none=>False) :=id rfl
@[simp ↓] theorem av4 (i:Nat) (dst:Option Tmp) (d:Tmp) (w:Bool) (b:rH) (c:List Nat) (k:Bool) (r:List dp) (σ:bc) (l:ap) (K:bc->ap->Prop) :
  jp P G (⟨i,dst,some (some d,w),b,c,k⟩::r) σ l K=sv (σ d) w (c:=⟨jp P G (⟨i,dst,none,b,c,k⟩::r) σ l K,jp P G r (h1 σ dst gU) l K⟩) :=id rfl
@[simp ↓] theorem av0 (σ:bc) (l:ap) (seen:i8) (K:bc->ap->Prop) :ky P G [] σ l seen K=K σ l:=id rfl
@[simp ↓] theorem avZ (i:Nat) (dst:Option Tmp) (m:db) (c:List Nat) (k:Bool) (r:List dp) (σ:bc) (l:ap) (seen:i8) (K:bc->ap->Prop) :
  ky P G (⟨i,dst,none,.gR m,c,k⟩::r) σ l seen K=W (bU P (c2 G σ) l m) (c:=⟨fun x=>eC m x.1 x.2 fun v l'=>qG c seen l'/\ky P G r (h1 σ dst v) l' (sT k i (mB P G (.gR m) σ v l l') seen) K⟩) :=id rfl
@[simp ↓] theorem avW (i:Nat) (dst:Option Tmp) (f:FuncId) (args:List Operand) (c:List Nat) (k:Bool) (r:List dp) (σ:bc) (l:ap) (seen:i8) (K:bc->ap->Prop) :
  ky P G (⟨i,dst,none,.nb f args,c,k⟩::r) σ l seen K=c5 P G f (args.map (c2 G σ)) l (c:=⟨fun v l'=>qG c seen l'/\ky P G r (h1 σ dst v) l' (sT k i (fun _=>True) seen) K⟩) :=id rfl
@[simp ↓] theorem avX (i:Nat) (dst:Option Tmp) (x:Operand) (args:List Operand) (c:List Nat) (k:Bool) (r:List dp) (σ:bc) (l:ap) (seen:i8) (K:bc->ap->Prop) :
  ky P G (⟨i,dst,none,.nd x args,c,k⟩::r) σ l seen K=wI P G (c2 G σ x) (args.map (c2 G σ)) l (c:=⟨fun v l'=>qG c seen l'/\ky P G r (h1 σ dst v) l' (sT k i (fun _=>True) seen) K⟩) :=id rfl
@[simp ↓] theorem avY (i:Nat) (dst:Option Tmp) (d:Tmp) (w:Bool) (b:rH) (c:List Nat) (k:Bool) (r:List dp) (σ:bc) (l:ap) (seen:i8) (K:bc->ap->Prop) :
  ky P G (⟨i,dst,some (some d,w),b,c,k⟩::r) σ l seen K=sv (σ d) w (c:=⟨ky P G (⟨i,dst,none,b,c,k⟩::r) σ l seen K,ky P G r (h1 σ dst gU) l seen K⟩) :=id rfl
@[simp] theorem arO (ids:List Nat) (l:ap) :qG ids [] l=True:=id rfl
@[simp] theorem arN (ids:List Nat) (e:Nat × (ap->Prop)) (r:i8) (l:ap) :qG ids (e::r) l=((ids.contains e.1=true->e.2 l)/\qG ids r l) :=id rfl
@[simp] theorem awi (i:Nat) (p:ap->Prop) (s:i8) :sT true i p s=(i,p) ::s:=id rfl
@[simp] theorem awh (i:Nat) (p:ap->Prop) (s:i8) :sT false i p s=s:=id rfl
@[simp] theorem awo (m:db) (σ:bc) (v:U) (l l' l1:ap) :mB P G (.gR m) σ v l l' l1=(match m.jC with | true=>l1[l.length]? = l'[l.length]? | false=>bU P (c2 G σ) l1 m=some (v,l1)) :=id rfl
@[simp ↓] theorem auA (x:Operand) (v:U) (l:ap) (K:U->ap->Prop) :eC (.fX x) v l K=K v l:=id rfl
@[simp ↓] theorem auD (c a b:Operand) (v:U) (l:ap) (K:U->ap->Prop) :eC (.pick c a b) v l K=K v l:=id rfl
@[simp ↓] theorem at1 (z:List U) (v:U) (l:ap) (K:U->ap->Prop) :eC (.alloc z) v l K=K v l:=id rfl
@[simp ↓] theorem at6 (x:Operand) (v:U) (l:ap) (K:U->ap->Prop) :eC (.box x) v l K=K v l:=id rfl
@[simp ↓] theorem at5 (z:List U) (ps:List (Nat × Nat × Operand)) (v:U) (l:ap) (K:U->ap->Prop) :eC (.Dp z ps) v l K=K v l:=id rfl
@[simp ↓] theorem at7 (z:Nat) (zero:List U) (n:Nat) (ps:List (Nat × Operand)) (v:U) (l:ap) (K:U->ap->Prop) :eC (.rX z zero n ps) v l K=K v l:=id rfl
@[simp ↓] theorem auo (a:Operand) (v:U) (l:ap) (K:U->ap->Prop) :eC (.ot a) v l K=K v l:=id rfl
@[simp ↓] theorem aup (n:Nat) (a:Operand) (v:U) (l:ap) (K:U->ap->Prop) :eC (.mz n a) v l K=K v l:=id rfl
@[simp ↓] theorem auG (n:Nat) (a x:Operand) (v:U) (l:ap) (K:U->ap->Prop) :eC (.st n a x) v l K=K v l:=id rfl
@[simp ↓] theorem auB (x:Operand) (v:U) (l:ap) (K:U->ap->Prop) :eC (.FP x) v l K=K v l:=id rfl
@[simp ↓] theorem at4 (o:BinOp) (t:TypeId) (x y:Operand) (v:U) (l:ap) (K:U->ap->Prop) :eC (.bin o t x y) v l K=K v l:=id rfl
@[simp ↓] theorem auI (o:UnOp) (x:Operand) (v:U) (l:ap) (K:U->ap->Prop) :eC (.un o x) v l K=K v l:=id rfl
@[simp ↓] theorem aua (k:IntKind) (x:Operand) (v:U) (l:ap) (K:U->ap->Prop) :eC (.AX k x) v l K=K v l:=id rfl
@[simp ↓] theorem auf (x:Operand) (v:U) (l:ap) (K:U->ap->Prop) :eC (.A7 x) v l K=K v l:=id rfl
@[simp ↓] theorem at9 (x:Operand) (v:U) (l:ap) (K:U->ap->Prop) :eC (.uP x) v l K=K v l:=id rfl
@[simp ↓] theorem aue (x:Operand) (v:U) (l:ap) (K:U->ap->Prop) :eC (.A6 x) v l K=K v l:=id rfl
@[simp ↓] theorem auw (t:TypeId) (x:Operand) (v:U) (l:ap) (K:U->ap->Prop) :eC (.z1 t x) v l K=K v l:=id rfl
@[simp ↓] theorem auH (t:TypeId) (z:U) (ok:Bool) (x:Operand) (v:U) (l:ap) (K:U->ap->Prop) :eC (.CS t z ok x) v l K=K v l:=id rfl
@[simp ↓] theorem auv (f:FuncId) (a b:List Operand) (v:U) (l:ap) (K:U->ap->Prop) :eC (.z0 f a b) v l K=K v l:=id rfl
@[simp ↓] theorem auy (z b:Nat) (zero:List U) (x y:Operand) (v:U) (l:ap) (K:U->ap->Prop) :eC (.sC z b zero x y) v l K=K v l:=id rfl
@[simp ↓] theorem auF (dt:kC) (x:Operand) (cK ay cL:Option Operand) (v:U) (l:ap) (K:U->ap->Prop) :eC (.slice dt x cK ay cL) v l K=K v l:=id rfl
@[simp ↓] theorem auh (n:Nat) (x:Operand) (v:U) (l:ap) (K:U->ap->Prop) :eC (.qL n x) v l K=K v l:=id rfl
@[simp ↓] theorem aui (n:Nat) (x:Operand) (v:U) (l:ap) (K:U->ap->Prop) :eC (.DT n x) v l K=K v l:=id rfl
@[simp ↓] theorem auj (n m:Nat) (x:Operand) (v:U) (l:ap) (K:U->ap->Prop) :eC (.DU n m x) v l K=K v l:=id rfl
@[simp ↓] theorem auk (dt:kC) (x y:Operand) (v:U) (l:ap) (K:U->ap->Prop) :eC (.xw dt x y) v l K=K v l:=id rfl
@[simp ↓] theorem aul (n z:Nat) (x y:Operand) (v:U) (l:ap) (K:U->ap->Prop) :eC (.Fr n z x y) v l K=K v l:=id rfl
@[simp ↓] theorem aum (n z:Nat) (x y:Operand) (v:U) (l:ap) (K:U->ap->Prop) :eC (.Fs n z x y) v l K=K v l:=id rfl
@[simp ↓] theorem aun (x y:Operand) (v:U) (l:ap) (K:U->ap->Prop) :eC (.Fw x y) v l K=K v l:=id rfl
@[simp ↓] theorem aug (x:Operand) (n:Nat) (v:U) (l:ap) (K:U->ap->Prop) :eC (.ext x n) v l K=K v l:=id rfl
@[simp ↓] theorem auq (dt:kC) (x:Operand) (v:U) (l:ap) (K:U->ap->Prop) :eC (.len dt x) v l K=K v l:=id rfl
@[simp ↓] theorem at8 (dt:kC) (x:Operand) (v:U) (l:ap) (K:U->ap->Prop) :eC (.cap dt x) v l K=K v l:=id rfl
@[simp ↓] theorem at3 (z b:Nat) (zero:List U) (x y:Operand) (v:U) (l:ap) (K:U->ap->Prop) :eC (.wy z b zero x y) v l K=K v l:=id rfl
@[simp ↓] theorem aud (z:Nat) (x y:Operand) (v:U) (l:ap) (K:U->ap->Prop) :eC (.wX z x y) v l K=K v l:=id rfl
@[simp ↓] theorem aub (zero:List U) (x:Operand) (v:U) (l:ap) (K:U->ap->Prop) :eC (.wP zero x) v l K=K v l:=id rfl
@[simp ↓] theorem auu (x y:Operand) (v:U) (l:ap) (K:U->ap->Prop) :eC (.min x y) v l K=K v l:=id rfl
@[simp ↓] theorem aut (x y:Operand) (v:U) (l:ap) (K:U->ap->Prop) :eC (.max x y) v l K=K v l:=id rfl
@[simp ↓] theorem at2 (z b:Nat) (x y:Operand) (v:U) (l:ap) (K:U->ap->Prop) :eC (.app z b x y) v l K=cU v l (c:=⟨K⟩) :=id rfl
theorem cU.b1 {v:U} {l:ap} {K:U->ap->Prop} (h:K v l) :cU v l (c:=⟨K⟩) :=.inl h
@[simp] theorem atB (a:Operand) :(db.ot a).jC=false:=id rfl
@[simp] theorem atC (n:Nat) (a:Operand) :(db.mz n a).jC=false:=id rfl
@[simp] theorem aty (k:IntKind) (a:Operand) :(db.AX k a).jC=false:=id rfl
@[simp] theorem atA (a:Operand) :(db.A7 a).jC=false:=id rfl
@[simp] theorem atx (a:Operand) :(db.uP a).jC=false:=id rfl
@[simp] theorem atz (a:Operand) :(db.A6 a).jC=false:=id rfl
@[simp] theorem atu (z:List U) :(db.alloc z).jC=true:=id rfl
@[simp] theorem atv (a:Operand) :(db.box a).jC=true:=id rfl
@[simp] theorem atw (z:Nat) (zero:List U) (n:Nat) (ps:List (Nat × Operand)) :(db.rX z zero n ps).jC=true:=id rfl
@[simp] theorem atD (z b:Nat) (zero:List U) (x y:Operand) :(db.sC z b zero x y).jC=true:=id rfl
@[simp] theorem avM (l l' : ap) (x:Option U) (v:U) :(dQ l x=some (v,l'))=(x=some v/\l'=l) :=propext gZ
@[simp ↓] theorem aqO {α:Type} (x:α) (k:α->Prop) :W (some x) (c:=⟨k⟩)=k x:=id rfl
@[simp ↓] theorem aqN (l:ap) (o:Option U) (k:U × ap->Prop) :W (dQ l o) (c:=⟨k⟩)=W o (c:=⟨fun v=>k (v,l)⟩) :=by unfold W dQ; cases o<;>rfl
@[simp ↓] theorem aqM {α kB:Type} (o:Option α) (f:α->kB) (k:kB->Prop) :W (o.map f) (c:=⟨k⟩)=W o (c:=⟨fun v=>k (f v)⟩) :=by unfold W; cases o<;>rfl
@[simp ↓] theorem aqL {α:Type} (p:Prop) [Decidable p] (x:α) (k:α->Prop) :W (if p then some x else none) (c:=⟨k⟩)=(p/\k x) :=by unfold W; by_cases h:p<;>simp[h]
@[simp ↓] theorem atK (b:Bool) (p q:Prop) :zR (.bool b) (c:=⟨p,q⟩)=sw b (c:=⟨p,q⟩) :=id rfl
@[simp ↓] theorem atV (p q:Prop) :sw true (c:=⟨p,q⟩)=p:=id rfl
@[simp ↓] theorem atU (p q:Prop) :sw false (c:=⟨p,q⟩)=q:=id rfl
@[simp ↓] theorem atR (b:Bool) (p q:Prop) :sv (.bool b) true (c:=⟨p,q⟩)=sw b (c:=⟨p,q⟩) :=by cases b<;>rfl
@[simp ↓] theorem atQ (b:Bool) (p q:Prop) :sv (.bool b) false (c:=⟨p,q⟩)=sw b (c:=⟨q,p⟩) :=by cases b<;>rfl
@[simp ↓] theorem atS (w:Bool) (p q:Prop) :sv gU w (c:=⟨p,q⟩)=q:=id rfl
@[simp ↓] theorem atT (w:Bool) (p q:Prop) :sv (.bq []) w (c:=⟨p,q⟩)=q:=id rfl
theorem nE {b:Bool} {p q:Prop} (ad:b=true->p) (ae:b=false->q) :sw b (c:=⟨p,q⟩) :=by cases b; exact ae rfl; exact ad rfl
@[simp ↓] theorem avO (σ:bc) (d:Tmp) (v:U) :h1 σ (some d) v=bB σ d v:=id rfl
@[simp ↓] theorem avN (σ:bc) (v:U) :h1 σ none v=σ:=id rfl
@[simp] theorem asr {α:Type} (s:Nat->α) (d:Nat) (v:α) (t:Nat) :bB s d v t=if t=d then v else s t:=id rfl
@[simp] theorem aqP (args:List U) (t:Nat) :l8 args t=args.getD t gU:=id rfl
@[simp] theorem asg (σ:bc) (t:Tmp) :c2 G σ (.tmp t)=σ t:=id rfl
@[simp] theorem ar7 (σ:bc) (f:FuncId) :c2 G σ (.func f)=.fn f [] [] :=id rfl
@[simp] theorem ar8 (σ:bc) (g:Nat) :c2 G σ (.global g)=G g:=id rfl
@[simp] theorem ar9 (σ:bc) (k:IntKind) (n:Int) :c2 G σ (.const (.int k n))=.int k n:=id rfl
@[simp] theorem ar6 (σ:bc) (b:Bool) :c2 G σ (.const (.bool b))=.bool b:=id rfl
@[simp] theorem asf (σ:bc) (s:ByteArray) :c2 G σ (.const (.string s))=.str s.data.toList:=id rfl
@[simp] theorem ase (σ:bc) :c2 G σ (.const (.slice none 0 0))=.aG:=id rfl
@[simp] theorem asd (σ:bc) :c2 G σ (.const (.pointer none))=.kV:=id rfl
@[simp] theorem asc (σ:bc) :c2 G σ (.const (.map none))=.iY:=id rfl
@[simp] theorem asa (σ:bc) :c2 G σ (.const .nilFunc)=.kT:=id rfl
@[simp] theorem asb (σ:bc) :c2 G σ (.const .nilIface)=.kU:=id rfl
@[simp] theorem ash (σ:bc) :c2 G σ (.const (.tuple #[]))=.bq [] :=id rfl
variable (aB:Operand->U) (l:ap)
@[simp ↓] theorem avr (x:Operand) :bU P aB l (.fX x)=some (aB x,l) :=id rfl
@[simp ↓] theorem avu (c a b:Operand) :bU P aB l (.pick c a b)=dQ l (F4 (aB c) (aB a) (aB b)) :=id rfl
@[simp ↓] theorem auS (z:List U) :bU P aB l (.alloc z)=some (.ptr l.length 0 z.length,l++[.cells z.length z]) :=id rfl
@[simp ↓] theorem auX (x:Operand) :bU P aB l (.box x)=(aB x).cells.map fun cs=>(.ptr l.length 0 cs.length,l++[.cells cs.length cs]) :=id rfl
@[simp ↓] theorem auW (zero:List U) (ps:List (Nat × Nat × Operand)) :bU P aB l (.Dp zero ps)=dQ l ((qC zero (ps.map fun p=>(p.1,p.2.1,aB p.2.2))).map .aH) :=id rfl
@[simp ↓] theorem auY (z:Nat) (zero:List U) (len:Nat) (ps:List (Nat × Operand)) :bU P aB l (.rX z zero len ps)=(hU (fun i=>some (i*z,z)) (dH zero len) (ps.map fun p=>(p.1,aB p.2))).map fun cs=>(.aq z l.length 0 len len (len*z),l++[.cells (len*z) cs]) :=id rfl
@[simp ↓] theorem avf (a:Operand) :bU P aB l (.ot a)=dQ l ((hj l (aB a)).bind fun x=>x.1[x.2]?) :=id rfl
@[simp ↓] theorem avg (n:Nat) (a:Operand) :bU P aB l (.mz n a)=dQ l ((hj l (aB a)).bind fun x=>ug n x.1 x.2) :=id rfl
@[simp ↓] theorem avx (n:Nat) (a x:Operand) :bU P aB l (.st n a x)=(mD n l (aB a) (aB x)).map fun l'=>(gU,l') :=id rfl
@[simp ↓] theorem avs (x:Operand) :bU P aB l (.FP x)=dQ l (z3 (aB x)) :=id rfl
@[simp ↓] theorem auV (o:BinOp) (t:TypeId) (x y:Operand) :bU P aB l (.bin o t x y)=dQ l (fz P o t (aB x) (aB y)) :=id rfl
@[simp ↓] theorem avz (o:UnOp) (x:Operand) :bU P aB l (.un o x)=dQ l (rB o (aB x)) :=id rfl
@[simp ↓] theorem au1 (k:IntKind) (x:Operand) :bU P aB l (.AX k x)=dQ l (AY k (aB x)) :=id rfl
@[simp ↓] theorem au6 (x:Operand) :bU P aB l (.A7 x)=dQ l (HB (aB x)) :=id rfl
@[simp ↓] theorem au0 (x:Operand) :bU P aB l (.uP x)=dQ l (wK l (aB x)) :=id rfl
@[simp ↓] theorem au5 (x:Operand) :bU P aB l (.A6 x)=dQ l (wY (aB x)) :=id rfl
@[simp ↓] theorem avn (t:TypeId) (x:Operand) :bU P aB l (.z1 t x)=some (.hM t (aB x),l) :=id rfl
@[simp ↓] theorem avy (t:TypeId) (z:U) (ok:Bool) (x:Operand) :bU P aB l (.CS t z ok x)=dQ l (CT t z ok (aB x)) :=id rfl
@[simp ↓] theorem avm (f:FuncId) (a b:List Operand) :bU P aB l (.z0 f a b)=some (.fn f (a.map aB) (b.map aB),l) :=id rfl
@[simp ↓] theorem avp (z by_:Nat) (zero:List U) (a c:Operand) :bU P aB l (.sC z by_ zero a c)=sD z by_ zero l (aB a) (aB c) :=id rfl
@[simp ↓] theorem avw (dt:kC) (x:Operand) (cK ay cL:Option Operand) :bU P aB l (.slice dt x cK ay cL)=dQ l (fm dt (aB x) (cK.map aB) (ay.map aB) (cL.map aB)) :=id rfl
@[simp ↓] theorem au8 (off:Nat) (x:Operand) :bU P aB l (.qL off x)=dQ l (nX (aB x) off) :=id rfl
@[simp ↓] theorem au9 (off:Nat) (x:Operand) :bU P aB l (.DT off x)=dQ l (DV off (aB x)) :=id rfl
@[simp ↓] theorem ava (n off:Nat) (x:Operand) :bU P aB l (.DU n off x)=dQ l (Bi n off (aB x)) :=id rfl
@[simp ↓] theorem avb (dt:kC) (x i:Operand) :bU P aB l (.xw dt x i)=dQ l (cN dt (aB x) (aB i)) :=id rfl
@[simp ↓] theorem avc (n z:Nat) (x i:Operand) :bU P aB l (.Fr n z x i)=dQ l (Ft n z (aB x) (aB i)) :=id rfl
@[simp ↓] theorem avd (n z:Nat) (x i:Operand) :bU P aB l (.Fs n z x i)=dQ l (Fu n z (aB x) (aB i)) :=id rfl
@[simp ↓] theorem ave (x i:Operand) :bU P aB l (.Fw x i)=dQ l (zN (aB x) (aB i)) :=id rfl
@[simp ↓] theorem au7 (x:Operand) (i:Nat) :bU P aB l (.ext x i)=dQ l (DR (aB x) i) :=id rfl
@[simp ↓] theorem avh (dt:kC) (x:Operand) :bU P aB l (.len dt x)=dQ l (cp dt (aB x)) :=id rfl
@[simp ↓] theorem auZ (dt:kC) (x:Operand) :bU P aB l (.cap dt x)=dQ l (uO dt (aB x)) :=id rfl
@[simp ↓] theorem auT (z by_:Nat) (s x:Operand) :bU P aB l (.app z by_ s x)=gK l z by_ (aB s) (aB x) :=id rfl
@[simp ↓] theorem auU (z by_:Nat) (zero:List U) (s x:Operand) :bU P aB l (.wy z by_ zero s x)=rV l z by_ zero (aB s) (aB x) :=id rfl
@[simp ↓] theorem au4 (z:Nat) (d x:Operand) :bU P aB l (.wX z d x)=A5 z l (aB d) (aB x) :=id rfl
@[simp ↓] theorem au2 (zero:List U) (x:Operand) :bU P aB l (.wP zero x)=(wO zero l (aB x)).map fun l'=>(.bq [],l') :=id rfl
@[simp ↓] theorem avl (x y:Operand) :bU P aB l (.min x y)=dQ l (xO (aB x) (aB y)) :=id rfl
@[simp ↓] theorem avk (x y:Operand) :bU P aB l (.max x y)=dQ l (vS (aB x) (aB y)) :=id rfl
@[simp] theorem avK (t:Bool) (a b:U) :F4 (.bool t) a b=some (if t=true then a else b) :=id rfl
@[simp] theorem arA (cs:List U) :(U.aH cs).cells=some cs:=id rfl
@[simp] theorem arD (k:IntKind) (n:Int) :(U.int k n).cells=some [.int k n] :=id rfl
@[simp] theorem arB (b:Bool) :(U.bool b).cells=some [.bool b] :=id rfl
@[simp] theorem arM (s:List UInt8) :(U.str s).cells=some [.str s] :=id rfl
@[simp] theorem arI:U.aG.cells=some [.aG] :=id rfl
@[simp] theorem arH:U.kV.cells=some [.kV] :=id rfl
@[simp] theorem arF:U.kT.cells=some [.kT] :=id rfl
@[simp] theorem arG:U.iY.cells=some [.iY] :=id rfl
@[simp] theorem arK (z:Nat) (es:List (List U)) :(U.a1 z es).cells=some [.a1 z es] :=id rfl
@[simp] theorem arL (z b o n c s:Nat) :(U.aq z b o n c s).cells=some [.aq z b o n c s] :=id rfl
@[simp] theorem arJ (b o s:Nat) :(U.ptr b o s).cells=some [.ptr b o s] :=id rfl
@[simp] theorem arC (f:FuncId) (a b:List U) :(U.fn f a b).cells=some [.fn f a b] :=id rfl
@[simp] theorem arE (b:Nat) :(U.mp b).cells=some [.mp b] :=id rfl
@[simp] theorem ary (b off sz k:Nat) :nX (.ptr b off sz) k=some (.ptr b (off+k) sz) :=id rfl
@[simp] theorem arz (cs:List U) (off k:Nat) :nX (.bM cs off) k=some (.bM cs (off+k)) :=id rfl
@[simp] theorem avD (b o s:Nat) :z3 (.ptr b o s)=some (.ptr b o s) :=id rfl
@[simp] theorem avE (cs:List U) (o:Nat) :z3 (.bM cs o)=some (.bM cs o) :=id rfl
@[simp] theorem avC (f:FuncId) (a b:List U) :z3 (.fn f a b)=some (.fn f a b) :=id rfl
def Pu (x:Option aV) (off sz:Nat) :Option (List U × Nat) :=match x with
 | some (.cells n cs)=>if n=sz then some (cs,off) else none
 | _=>none
@[simp] theorem avQ (b off sz:Nat) :hj l (.ptr b off sz)=Pu l[b]? off sz:=by
 unfold hj Pu; rfl
@[simp] theorem avP (n:Nat) (cs:List U) (off sz:Nat) :Pu (some (.cells n cs)) off sz=if n=sz then some (cs,off) else none:=id rfl
@[simp] theorem avR (cs:List U) (off:Nat) :hj l (.bM cs off)=some (cs,off) :=id rfl
def P9 (n:Nat) (l:ap) (b off sz:Nat) (vs:List U) (x:Option aV) :Option ap:=match x with
 | some (.cells m cs)=>if m=sz/\vs.length=n/\off+n<=m then some (l.set b (.cells m (bf cs off vs))) else none
 | _=>none
@[simp] theorem awq (n b off sz:Nat) (v:U) :mD n l (.ptr b off sz) v=v.cells.bind fun vs=>P9 n l b off sz vs l[b]?:=by
 unfold mD P9;cases v.cells<;>rfl
@[simp] theorem awp (n b off sz:Nat) (vs:List U) (m:Nat) (cs:List U) :P9 n l b off sz vs (some (.cells m cs))=if m=sz/\vs.length=n/\off+n<=m then some (l.set b (.cells m (bf cs off vs))) else none:=id rfl
@[simp] theorem avJ (n:Nat) (cs:List U) (off:Nat) :ug n cs off=if off+n<=cs.length then some (.aH ((cs.drop off).take n)) else none:=id rfl
@[simp] theorem awn (a:U) (cs vs:List U) (off:Nat) :bf (a::cs) (off+1) vs=a::bf cs off vs:=by
 simp only[bf,List.take_succ_cons,axK,show off+1+vs.length=(off+vs.length)+1 by omega,List.drop_succ_cons]
@[simp] theorem aoF (a v:U) (cs vs:List U) :bf (a::cs) 0 (v::vs)=v::bf cs 0 vs:=by simp[bf]
@[simp] theorem aoH (cs:List U) :bf cs 0 []=cs:=by simp[bf]
@[simp] theorem awm (vs:List U) :bf [] 0 vs=vs:=by simp[bf]
@[simp] theorem aq6 (zero:List U) :qC zero []=some zero:=id rfl
theorem acN (zero:List U) (off size:Nat) (v:U) (r:List (Nat × Nat × U)) :qC zero ((off,size,v) ::r)=v.cells.bind fun vs=>if vs.length=size/\off+size<=zero.length then qC (bf zero off vs) r else none:=by
 rw[qC]; cases v.cells<;>rfl
attribute [simp] acN
@[simp] theorem asl (lZ:Nat->Option (Nat × Nat)) (zero:List U) :hU lZ zero []=some zero:=id rfl
@[simp] theorem asj (lZ:Nat->Option (Nat × Nat)) (zero:List U) (i:Nat) (v:U) (r:List (Nat × U)) :hU lZ zero ((i,v) ::r)=(lZ i).bind fun q=>v.cells.bind fun vs=>if vs.length=q.2/\q.1+q.2<=zero.length then hU lZ (bf zero q.1 vs) r else none:=by
 rw[hU];cases lZ i with
 | none=>rfl
 | some q=>cases v.cells<;>rfl
@[simp] theorem avT (zero:List U) :dH zero 0=[] :=id rfl
@[simp] theorem avU (zero:List U) (n:Nat) :dH zero (n+1)=zero++dH zero n:=id rfl
@[simp] theorem aqZ (o:BinOp) (t:TypeId) (k:IntKind) (a:Int) (k' : IntKind) (b:Int) :fz P o t (.int k a) (.int k' b)=cy o k a k' b:=id rfl
@[simp] theorem aq4 (o:BinOp) (t:TypeId) (a b:List UInt8) :fz P o t (.str a) (.str b)=wD o a b:=id rfl
@[simp] theorem aq1 (k:IntKind) (a b:Int) :cy .lss k a k b=some (.bool (decide (a<b))) :=by simp[cy]
@[simp] theorem aq0 (k:IntKind) (a b:Int) :cy .leq k a k b=some (.bool (decide (a<=b))) :=by simp[cy]
@[simp] theorem aqY (k:IntKind) (a b:Int) :cy .gtr k a k b=some (.bool (decide (b<a))) :=by simp[cy]
@[simp] theorem aqX (k:IntKind) (a b:Int) :cy .geq k a k b=some (.bool (decide (b<=a))) :=by simp[cy]
@[simp] theorem aqW (k:IntKind) (a b:Int) :cy .eql k a k b=some (.bool (decide (a=b))) :=by
 have:(a == b)=decide (a=b) :=by by_cases h:a=b<;>simp[h]
 simp[cy,this]
@[simp] theorem aq3 (k:IntKind) (a b:Int) :cy .neq k a k b=some (.bool (!decide (a=b))) :=by
 have:(a != b)=!decide (a=b) :=by by_cases h:a=b<;>simp[h]
 simp[cy,this]
@[simp] theorem aqV (k:IntKind) (a b:Int) :cy .add k a k b=some (.int k (k.wrap (a+b))) :=by simp[cy]
@[simp] theorem aq5 (k:IntKind) (a b:Int) :cy .sub k a k b=some (.int k (k.wrap (a - b))) :=by simp[cy]
@[simp] theorem aq2 (k:IntKind) (a b:Int) :cy .mul k a k b=some (.int k (k.wrap (a*b))) :=by simp[cy]
@[simp] theorem awE (b:Bool) :rB .not (.bool b)=some (.bool (!b)) :=id rfl
@[simp] theorem awD (k:IntKind) (n:Int) :rB .neg (.int k n)=some (.int k (k.wrap (0 - n))) :=id rfl
@[simp] theorem arP (k k' : IntKind) (n:Int) :AY k (.int k' n)=some (.int k (k.wrap n)) :=id rfl
@[simp] theorem atq (z dI:Nat) (es:List (List U)) (k:IntKind) (i:Int) :cN (.aq z) (.a1 dI es) (.int k i)=if z=dI/\0<=i then (es[i.toNat]?).map fun cs=>.bM cs 0 else none:=id rfl
@[simp] theorem atr (z dI b off len cap sz:Nat) (k:IntKind) (i:Int) :cN (.aq z) (.aq dI b off len cap sz) (.int k i)=if z=dI/\0<=i/\i<len then some (.ptr b (off+i.toNat*z) sz) else none:=id rfl
@[simp] theorem atp (n z:Nat) (x:U) (k:IntKind) (i:Int) :cN (.arr n z) x (.int k i)=if 0<=i/\i<n then nX x (i.toNat*z) else none:=id rfl
@[simp] theorem auN (z:Nat) :cp (.aq z) .aG=some (.int .i64 0) :=id rfl
@[simp] theorem auP (z dI b o n c s:Nat) :cp (.aq z) (.aq dI b o n c s)=some (.int .i64 n) :=id rfl
@[simp] theorem auO (z dI:Nat) (es:List (List U)) :cp (.aq z) (.a1 dI es)=some (.int .i64 es.length) :=id rfl
@[simp] theorem auQ (s:List UInt8) :cp .str (.str s)=some (.int .i64 s.length) :=id rfl
@[simp] theorem auM (n z:Nat) (x:U) :cp (.arr n z) x=some (.int .i64 n) :=id rfl
@[simp] theorem asi (vs:List U) (i:Nat) :DR (.bq vs) i=vs[i]?:=id rfl
@[simp] theorem asm (cs:List U) (off:Nat) :DV off (.aH cs)=cs[off]?:=id rfl
@[simp] theorem asn (n off:Nat) (cs:List U) :Bi n off (.aH cs)=ug n cs off:=id rfl
end

section
variable {P:Program} {G:Nat->U}
inductive eK (l:ap) :U->U->Prop
 | same (c:U) (h:c.closed=true) :eK l c c
 | aH (cs cs' : List U) (al:cs'.length=cs.length) (h:∀ (j:Nat) (c c' : U),cs[j]? = some c->cs'[j]? = some c'->eK l c c') :eK l (.aH cs) (.aH cs')
 | bq (cs cs' : List U) (al:cs'.length=cs.length) (h:∀ (j:Nat) (c c' : U),cs[j]? = some c->cs'[j]? = some c'->eK l c c') :eK l (.bq cs) (.bq cs')
 | aq (z b off len cap sz:Nat) (cs:List U) (es:List (List U)) (af:l[b]? = some (.cells sz cs)) (al:es.length=len) (aw:∀ e∈es,e.length=z)
   (c7:off+len*z<=cs.length)
   (h:∀ (i j:Nat) (e:List U) (c c' : U),es[i]? = some e->e[j]? = some c'->cs[off+(i*z+j)]? = some c->eK l c c') :eK l (.aq z b off len cap sz) (.a1 z es)
 | sV (z b off cap sz:Nat) :eK l (.aq z b off 0 cap sz) (.a1 z [])
theorem anv {w:World} {R:Nat->Prop} {B:Nat} {l:ap} {μ:cr} (rel:bP R B w (bb l) μ) :∀ {c c' : U},eK l c c'->∀ {v:Value},aQ w R (bb l) μ c v->eh w R c' v:=by
 intro c c' az
 induction az with
 | same c h=>
  intro v ao;exact (eh.up (tm ao h) fun k _ ar=>⟨ar.1,fun ⟨b,m,ad,ae,aj⟩=>by cases ae⟩:aQ w R aO.empty (fun _=>none) _ v)
 | aH cs cs' al h aR=>
  intro v ao;cases ao with
  | aH _ vs hY ad ao=>
   refine .aH cs' vs (by omega) ad (fun j c' v ai gi=>?_);have aL:j<cs.length:=by rw[<-al]; exact (awQ.1 ai).1
   exact aR j cs[j] c' (awT aL) ai (ao j cs[j] v (awT aL) gi)
 | bq cs cs' al h aR=>
  intro v ao;cases ao with
  | bq _ vs hY ao=>
   refine .bq cs' vs (by omega) (fun j c' v ai gi=>?_);have aL:j<cs.length:=by rw[<-al]; exact (awQ.1 ai).1
   exact aR j cs[j] c' (awT aL) ai (ao j cs[j] v (awT aL) gi)
 | sV z b off cap sz=>
  intro v ao;cases ao with
  | aq _ _ _ _ _ _ cap' cs m af hm al av ah=>exact .gv z _ cap'
  | hO _ _ _ _ _ _ cap' a al ah ax=>exact .gv z _ cap'
  | i3 _ _ _ _ a cs m af hm=>exact .gv z a 0
 | aq z b off len cap sz cs es af al aw c7 h aR=>
  intro v ao;have r7:(bb l).f b=.cells sz cs:=l5.2 af;cases ao with
  | i3 _ _ _ _ a hT m ej lj=>
   obtain rfl:=axF.1 al;exact .gv z a 0
  | hO _ _ _ _ _ _ cap' a al ah ax=>
   exfalso;rcases ax with ax | ⟨n,hT,ax,aL⟩
   ·rw[r7] at ax; cases ax
   ·rw[r7] at ax; cases ax; omega
  | aq _ _ _ _ _ _ cap' hT m ej hm jk av ah=>
   rw[r7] at ej; cases ej;have iQ:=rel.blk b m hm;rw[r7] at iQ;obtain⟨c6,ew,arr,t,e4,aP,aE,aF,np⟩:=iQ;have cZ:len<=cap':=by rcases ah with ⟨_,h⟩ | ⟨_,h,_⟩<;>omega
   have kg:R m.r:=rel.up _ (rel.base b m (by rw[r7]; rfl) hm);subst al;have r9:∀ i j,i<es.length->j<z->∃ c v,cs[off+(i*z+j)]? = some c/\arr[m.s+(off+(i*z+j))]? = some v/\v.oneCell'=true/\aQ w R (bb l) μ c v:=by
    intro i j ay ai;have aL:off+(i*z+j)<cs.length:=by
     have:i*z+z<=es.length*z:=by rw[<-axw]; exact awX _ ay
     omega
    obtain⟨v,ad,ae,aj⟩:=np _ _ (awT aL);exact⟨_,v,awT aL,ad,ae,aj⟩
   refine .a1 z es m.r (m.s+off) cap' (fun i j=>(arr[m.s+(off+(i*z+j))]?).getD undef) cZ aw (fun i j ay ai=>?_) (fun i e am j c' ai=>?_)
   ·obtain⟨c,v,ad,ae,aj,aD⟩:=r9 i j ay ai;refine⟨?_,?_,kg,fun ⟨b,m,ad,ae,aj⟩=>by cases ae⟩
    ·simp only[World.cell?,aP,ae,axI,ay8];rw[show m.s+off+(i*z+j)=m.s+(off+(i*z+j)) by omega,ae]; rfl
    ·rw[ae]; exact aj
   ·have ay:i<es.length:=(awQ.1 am).1;have nu:j<z:=by rw[<-aw e (awY am)]; exact (awQ.1 ai).1
    obtain⟨c,v,ad,ae,aj,aD⟩:=r9 i j ay nu;simp only[ae,axI];exact aR i j e c c' am ai ad aD
theorem Pw {l:ap} {z b n cap sz:Nat} {es:List (List U)} {rest:List U} (af:l[b]? = some (.cells sz (es.flatten++rest))) (aC:es.length=n) (aw:∀ e∈es,e.length=z) (ah:uR es=true) :eK l (.aq z b 0 n cap sz) (.a1 z es) :=by
 have agU:∀ (es:List (List U)),(∀ e∈es,e.length=z)->es.flatten.length=es.length*z:=by
  intro es aw
  induction es with
  | nil=>simp
  | cons e es aR=>rw[axD,awW,aw e (by simp),aR fun e am=>aw e (by simp[am]),axa,axw,ay6]
 have fG:∀ (es:List (List U)),(∀ e∈es,e.length=z)->∀ (i j:Nat) (e:List U) (c:U),es[i]? = some e->e[j]? = some c->es.flatten[i*z+j]? = some c:=by
  intro es aw
  induction es with
  | nil=>intro i j e c am; simp at am
  | cons x es aR=>
   intro i j e c am ai;have ag:x.length=z:=aw x (by simp);cases i with
   | zero=>
    simp only[axh,Option.some.injEq] at am;subst am;rw[axD,ayU,axV,awS (awQ.1 ai).1];exact ai
   | succ i=>
    simp only[axG] at am;rw[axD,aw6 (by rw[ag,axw]; omega),ag,show (i+1)*z+j - z=i*z+j by rw[axw]; omega];exact aR (fun e am=>aw e (by simp[am])) i j e c am ai
 refine .aq z b 0 n cap sz _ es af aC aw (by rw[awW,agU es aw,aC]; omega) (fun i j e c c' am ai c8=>?_);have ad:=fG es aw i j e c' am ai;rw[axV,awS (awQ.1 ad).1,ad] at c8;cases c8;have:∀ (es:List (List U)),uR es=true->∀ (i:Nat) (e:List U),es[i]? = some e->a4 e=true:=by
  intro es
  induction es with
  | nil=>intro _ i e am; simp at am
  | cons x es aR=>
   intro ah i e am;simp only[uR,awZ] at ah;cases i with
   | zero=>simp at am; subst am; exact ah.1
   | succ i=>exact aR ah.2 i e (by simpa using am)
 exact .same _ (yR (this es ah i e am) j _ ai)
theorem bQ (fO:P.follows .mixedOrders=true) (ir:∀ g,(G g).closed=true) {f:FuncId} {args:List U} {r:U} (h:c5 P G f args [] (c:=⟨fun ox l=>eK l ox r⟩)) :bw P G f args r:=by
 obtain⟨ox,l',ad,ae,aj⟩:=h;intro w A vs ax al ao;refine (Qk (A:=A) fO ir ad ax al ao).mono ?_;rintro e w' ⟨v,μ',rfl,af,rel,az⟩;exact⟨v,rfl,af,anv rel aj az⟩
theorem a7 {f:FuncId} {args:List U} {r:U} {l:ap} {K:U->ap->Prop} (au:bw P G f args r) (ah:a4 args=true) (h:K r l) :c5 P G f args l (c:=⟨K⟩) :=
 ⟨r,l,.pure au ah,awU _,h⟩
theorem akb (fO:P.follows .mixedOrders=true) (ir:∀ g,(G g).closed=true) {f:FuncId} {args:List U} (h:c5 P G f args [] (c:=⟨fun r _=>r=.bool true⟩))
  {w:World} {A:Nat->Prop} {vs:Array Value} (ax:∀ g,eh w A (G g) (.pointer (some ⟨g,0,none⟩))) (al:vs.size=args.length)
  (ao:∀ (j:Nat) (c:U) (v:Value),args[j]? = some c->vs[j]? = some v->eh w A c v) :
  Calls P f vs w fun e w'=>e=.returned (.bool true)/\RowKit.Below w.heap.size w w':=by
 obtain⟨ox,l',ad,ae,rfl⟩:=h;exact apb fO ir ad ax al ao
end

section
variable {P:Program}
inductive dv (P:Program) :List TypeId->List U->Prop
 | nil:dv P [] []
 | bool {t:TypeId} {b:Bool} {ts:List TypeId} {cs:List U} (aM:P.underlying t=some .bool) (h:dv P ts cs) :dv P (t::ts) (.bool b::cs)
 | int {t:TypeId} {k:IntKind} {n:Int} {ts:List TypeId} {cs:List U} (aM:P.underlying t=some (.int k)) (ad:k.min<=n) (ae:n<=k.max) (h:dv P ts cs) :dv P (t::ts) (.int k n::cs)
 | str {t:TypeId} {s:List UInt8} {ts:List TypeId} {cs:List U} (aM:P.underlying t=some .string) (ak:s.length<=maxLen) (h:dv P ts cs) :dv P (t::ts) (.str s::cs)
 | aG {t e:TypeId} {ts:List TypeId} {cs:List U} (aM:P.underlying t=some (.slice e)) (h:dv P ts cs) :dv P (t::ts) (.aG::cs)
 | aq {t e:TypeId} {es:List (List U)} {ts:List TypeId} {cs:List U} (aM:P.underlying t=some (.slice e)) (al:es.length<=maxLen) (aw:∀ r∈es,r.length=P.cellsOf e) (am:∀ r∈es,dv P [e] r) (h:dv P ts cs) :dv P (t::ts) (.a1 (P.cellsOf e) es::cs)
 | struct {t:TypeId} {fs:Array Field} {ts:List TypeId} {cs:List U} (aM:P.underlying t=some (.struct fs)) (h:dv P (fs.toList.map (·.type)++ts) cs) :dv P (t::ts) cs
 | array {t e:TypeId} {n:Nat} {ts:List TypeId} {cs:List U} (aM:P.underlying t=some (.array n e)) (h:dv P (List.replicate n e++ts) cs) :dv P (t::ts) cs
def wU (P:Program) :List Field->Nat->Option Nat
 | [],o=>some o
 | f::r,o=>if f.offset=o then wU P r (o+P.cellsOf f.type) else none
def vZ (P:Program) :Nat->TypeId->Bool
 | 0,_=>false
 | d+1,t=>match P.underlying t with
  | some .bool | some (.int _) | some .string=>true
  | some (.slice e)=>decide (0<P.cellsOf e)&&vZ P d e
  | some (.struct fs)=>decide (wU P fs.toList 0=some (P.cellsOf t))&&fs.toList.all fun f=>vZ P d f.type
  | some (.array n e)=>decide (n*P.cellsOf e=P.cellsOf t)&&vZ P d e
  | _=>false
structure qy (P:Program) (w:World) (A:Nat->Prop) (ts:List TypeId) (vs:List Value) (cs:List U) :Prop where
 len:cs.length=vs.length
 ty:∀ rA cs',dv P rA cs'->dv P (ts++rA) (cs++cs')
 qm:∀ (j:Nat) (c:U) (v:Value),cs[j]? = some c->vs[j]? = some v->eh w A c v/\v.oneCell'=true
theorem qy.nil {w:World} {A:Nat->Prop}:qy P w A [] [] [] :=⟨rfl,fun _ _ h=>h,fun j c v h=>by simp at h⟩
theorem qy.app {w:World} {A:Nat->Prop} {ts rA:List TypeId} {vs KB:List Value} {cs cs' : List U} (a:qy P w A ts vs cs) (b:qy P w A rA KB cs') :qy P w A (ts++rA) (vs++KB) (cs++cs') :=by
 refine⟨by simp[a.len,b.len],fun awt ar3 h=>by rw[axH,axH]; exact a.ty _ _ (b.ty _ _ h),fun j c v ah ao=>?_⟩;by_cases h:j<cs.length
 ·rw[awS h] at ah;rw[awS (by rw[<-a.len]; exact h)] at ao;exact a.qm j c v ah ao
 ·rw[aw6 (by omega)] at ah;rw[aw6 (by rw[<-a.len]; omega)] at ao;rw[<-a.len] at ao;exact b.qm _ c v ah ao
theorem JD {α kB:Type} {f:α->Option kB}:∀ {l:List α} {r:List kB},l.mapM f=some r->∀ (p:Nat) (a:α),l[p]? = some a->∃ x,r[p]? = some x/\f a=some x
 | [],r,h,p,a,aE=>by simp at aE
 | a0::l,r,h,p,a,aE=>by
  rw[ayp] at h;simp only[Option.bind_eq_bind,bind_some,ayC,Option.some.injEq] at h;obtain⟨b,ad,r',ae,rfl⟩:=h;cases p with
  | zero=>simp only[axh,Option.some.injEq] at aE; subst aE; exact⟨b,rfl,ad⟩
  | succ p=>obtain⟨x,aj,aD⟩:=JD ae p a (by simpa using aE); exact⟨x,by simpa using aj,aD⟩
theorem FW {w:World} {A:Nat->Prop} {c:U} {v:Value} (h:eh w A c v) (ad:v.oneCell'=true) :∀ (j:Nat) (c' : U) (v' : Value),[c][j]? = some c'->[v][j]? = some v'->eh w A c' v'/\v'.oneCell'=true:=by
 intro j c' v' ah ao;cases j with
 | zero=>simp only[axh,Option.some.injEq] at ah ao; subst ah ao; exact⟨h,ad⟩
 | succ j=>simp at ah
theorem apd {H:Type} {enc:TypeId × Value->H} {w:World} {base:Nat} {spare:Nat->Bool} {held:Bool} {fuel:Nat} {t:TypeId} {vs:List Value} {x:DataW H × List MemPlace}
  (aM:P.underlying t=some .bool) (h:DataW.trod enc P w base spare held (fuel+1) t vs=some x) :∃ b,vs=[.bool b] :=by
 unfold DataW.trod at h;rw[aM] at h;split at h
 case h_1 b _=>exact⟨b,rfl⟩
 all_goals first | (cases h; done) | (rename_i heq; cases heq; done) | (rename_i heq _; cases heq; done) | (rename_i heq _ _; cases heq; done) | (rename_i heq _ _ _; cases heq; done) | (simp_all; done)
theorem trod_int {H:Type} {enc:TypeId × Value->H} {w:World} {base:Nat} {spare:Nat->Bool} {held:Bool} {fuel:Nat} {t:TypeId} {k:IntKind} {vs:List Value} {x:DataW H × List MemPlace}
  (aM:P.underlying t=some (.int k)) (h:DataW.trod enc P w base spare held (fuel+1) t vs=some x) :∃ n,vs=[.int k n]/\k.min<=n/\n<=k.max:=by
 unfold DataW.trod at h;rw[aM] at h;split at h<;>simp only[reduceCtorEq,Option.some.injEq,TypeDesc.int.injEq] at *<;>try (exfalso; simp_all; done)
 rename_i hz k' n heq;subst heq;split at h
 ·rename_i ah;obtain⟨rfl,aP⟩:=ah;simp only[Lit.wf,awZ,decide_eq_true_eq] at aP;exact⟨n,rfl,aP.1,aP.2⟩
 ·cases h
theorem apf {H:Type} {enc:TypeId × Value->H} {w:World} {base:Nat} {spare:Nat->Bool} {held:Bool} {fuel:Nat} {t:TypeId} {vs:List Value} {x:DataW H × List MemPlace}
  (aM:P.underlying t=some .string) (h:DataW.trod enc P w base spare held (fuel+1) t vs=some x) :∃ s,vs=[.string s]/\s.size<=maxLen:=by
 unfold DataW.trod at h;rw[aM] at h;split at h<;>simp only[reduceCtorEq,Option.some.injEq] at *<;>try (exfalso; simp_all; done)
 split at h
 ·rename_i s _ ak; exact⟨s,rfl,ak⟩
 ·cases h
theorem ape {H:Type} {enc:TypeId × Value->H} {w:World} {base:Nat} {spare:Nat->Bool} {held:Bool} {fuel:Nat} {t e:TypeId} {vs:List Value} {x:DataW H × List MemPlace}
  (aM:P.underlying t=some (.slice e)) (h:DataW.trod enc P w base spare held (fuel+1) t vs=some x) :
  vs=[.slice none 0 0]\/∃ a len cap,vs=[.slice (some a) len cap]/\len<=cap/\cap<=maxLen/\∃ HF,(List.range len).mapM (fun i=>(w.cells? base (a.add (i*P.cellsOf e)) (P.cellsOf e)).bind (DataW.trod enc P w base spare held fuel e))=some HF:=by
 unfold DataW.trod at h;rw[aM] at h;split at h<;>simp only[reduceCtorEq,Option.some.injEq,TypeDesc.slice.injEq] at *<;>try (exfalso; simp_all; done)
 ·exact .inl trivial
 ·rename_i fA a len cap heq;subst heq;split at h
  ·rename_i ah;rw[bind_some] at h;obtain⟨HF,ad,_⟩:=h;exact .inr ⟨a,len,cap,rfl,ah.2.1,ah.2.2,HF,ad⟩
  ·cases h
theorem apg {H:Type} {enc:TypeId × Value->H} {w:World} {base:Nat} {spare:Nat->Bool} {held:Bool} {fuel:Nat} {t:TypeId} {fs:Array Field} {vs:List Value} {x:DataW H × List MemPlace}
  (aM:P.underlying t=some (.struct fs)) (h:DataW.trod enc P w base spare held (fuel+1) t vs=some x) :
  vs.length=P.cellsOf t/\∃ xs,(fs.toList.mapM fun f=>DataW.trod enc P w base spare held fuel f.type ((vs.drop f.offset).take (P.cellsOf f.type)))=some xs:=by
 unfold DataW.trod at h;rw[aM] at h;split at h<;>simp only[reduceCtorEq,Option.some.injEq,TypeDesc.struct.injEq] at *<;>try (exfalso; simp_all; done)
 rename_i asq heq;subst heq;split at h
 ·rename_i ah;rw[map_some] at h;obtain⟨xs,ad,_⟩:=h;exact⟨ah,xs,ad⟩
 ·cases h
theorem trod_array {H:Type} {enc:TypeId × Value->H} {w:World} {base:Nat} {spare:Nat->Bool} {held:Bool} {fuel:Nat} {t e:TypeId} {n:Nat} {vs:List Value} {x:DataW H × List MemPlace}
  (aM:P.underlying t=some (.array n e)) (h:DataW.trod enc P w base spare held (fuel+1) t vs=some x) :
  vs.length=P.cellsOf t/\∃ xs,((List.range n).mapM fun i=>DataW.trod enc P w base spare held fuel e ((vs.drop (i*P.cellsOf e)).take (P.cellsOf e)))=some xs:=by
 unfold DataW.trod at h;rw[aM] at h;split at h<;>simp only[reduceCtorEq,Option.some.injEq,TypeDesc.array.injEq] at *<;>try (exfalso; simp_all; done)
 rename_i ala fA heq;obtain⟨rfl,rfl⟩:=heq;split at h
 ·rename_i ah;rw[map_some] at h;obtain⟨xs,ad,_⟩:=h;exact⟨ah,xs,ad⟩
 ·cases h
theorem ach (a:Addr) (x j:Nat) :a.add (x+j)=(a.add x).add j:=by
 unfold Addr.add;by_cases ag:x=0
 ·subst ag; simp
 ·by_cases ai:j=0
  ·subst ai; simp
  ·rw[if_neg (by omega),if_neg ag,if_neg ai];simp only[aym]
theorem add_plain (b o n:Nat) :(Addr.mk b o none).add n=⟨b,o+n,none⟩:=by
 unfold Addr.add;by_cases aC:n=0
 ·subst aC; simp
 ·rw[if_neg aC]
theorem aaU {H:Type} {enc:TypeId × Value->H} {w:World} {A:Nat->Prop} (dA:∀ k,A k) {base:Nat} {spare:Nat->Bool} {held:Bool}:∀ (fuel:Nat) (D:Nat) (t:TypeId) (vs:List Value) (d:DataW H) (ps:List MemPlace),
  vZ P D t=true->DataW.trod enc P w base spare held fuel t vs=some (d,ps)->∃ cs,qy P w A [t] vs cs
 | 0,_,_,_,_,_,_,h=>by simp[DataW.trod] at h
 | fuel+1,0,t,vs,d,ps,au,h=>by cases au
 | fuel+1,D+1,t,vs,d,ps,au,h=>by
  have aR:=fun t vs d ps au h=>aaU dA (enc:=enc) (w:=w) (base:=base) (spare:=spare) (held:=held) fuel D t vs d ps au h
  unfold vZ at au;split at au
  ·rename_i aM;obtain⟨b,rfl⟩:=apd aM h;exact⟨[.bool b],⟨rfl,fun rA cs' h=>.bool aM h,FW (.bool b) rfl⟩⟩
  ·rename_i k aM;obtain⟨n,rfl,ad,ae⟩:=trod_int aM h;exact⟨[.int k n],⟨rfl,fun rA cs' h=>.int aM ad ae h,FW (.int k n) rfl⟩⟩
  ·rename_i aM;obtain⟨s,rfl,ad⟩:=apf aM h;exact⟨[.str s.data.toList],⟨rfl,fun rA cs' h=>.str aM (show s.data.toList.length<=maxLen from ad) h,FW (.str s) rfl⟩⟩
  ·rename_i e aM;simp only[awZ,decide_eq_true_eq] at au;rcases ape aM h with rfl | ⟨a,len,cap,rfl,q4,ft,HF,am⟩
   ·exact⟨[.aG],⟨rfl,fun rA cs' h=>.aG aM h,FW .aG rfl⟩⟩
   ·have b0:∀ i,i<len->∃ eJ row,w.cells? base (a.add (i*P.cellsOf e)) (P.cellsOf e)=some eJ/\qy P w A [e] eJ row:=fun i ay=>by
     obtain⟨x,_,ag⟩:=JD am i i (by rw[axu ay]);rw[bind_some] at ag;obtain⟨eJ,ad,ae⟩:=ag;obtain⟨row,aj⟩:=aR e eJ x.1 x.2 au.2 ae;exact⟨eJ,row,ad,aj⟩
    have qW:∃ (eJ:Nat->List Value) (rows:Nat->List U),∀ i,i<len->w.cells? base (a.add (i*P.cellsOf e)) (P.cellsOf e)=some (eJ i)/\qy P w A [e] (eJ i) (rows i) :=by
     refine⟨fun i=>if ay:i<len then (b0 i ay).choose else [],fun i=>if ay:i<len then (b0 i ay).choose_spec.choose else [],fun i ay=>?_⟩;simp only[dif_pos ay];exact (b0 i ay).choose_spec.choose_spec
    obtain⟨eJ,rows,ao⟩:=qW;have mg:∀ i,i<len->(eJ i).length=P.cellsOf e/\∀ j,j<P.cellsOf e->∃ v,(eJ i)[j]? = some v/\w.cell? (a.add (i*P.cellsOf e+j))=some v:=fun i ay=>by
     have ad:=(ao i ay).1;unfold World.cells? at ad;split at ad
     ·refine⟨by rw[OK ad]; simp,fun j ai=>?_⟩;obtain⟨v,ae,aj⟩:=JD ad j j (by rw[axu ai]);refine⟨v,ae,?_⟩;rw[<-aj,ach]
     ·cases ad
    let es:=(List.range len).map rows
    have mj:∀ (i:Nat) (r:List U),es[i]? = some r->i<len/\r=rows i:=fun i r az=>by
     simp only[es,awV] at az;by_cases ay:i<len
     ·rw[axu ay] at az; simp only[aw0,Option.some.injEq] at az; exact⟨ay,az.symm⟩
     ·rw[aw5 (by simp; omega)] at az; cases az
    have bA:es.length=len:=by simp[es]
    have aw:∀ r∈es,r.length=P.cellsOf e:=fun r az=>by
     obtain⟨i,ay⟩:=aya az;obtain⟨ad,rfl⟩:=mj i r ay;rw[(ao i ad).2.len,(mg i ad).1]
    have B2:∀ r∈es,dv P [e] r:=fun r az=>by
     obtain⟨i,ay⟩:=aya az;obtain⟨ad,rfl⟩:=mj i r ay;have:=(ao i ad).2.ty [] [] .nil;simpa using this
    refine⟨[.a1 (P.cellsOf e) es],⟨rfl,fun rA cs' h=>.aq aM (by omega) aw B2 h,FW ?_ rfl⟩⟩;by_cases aJ:len=0
    ·subst aJ;exact .gv _ _ _
    ·obtain⟨v0,_,ko⟩:=(mg 0 (by omega)).2 0 au.1;have WG:a.spot=none:=by
      unfold World.cell? at ko;split at ko
      ·split at ko
       ·cases ko
       ·rename_i ak;rw[show 0*P.cellsOf e+0=0 by omega] at ak;simp only[Addr.add,if_true] at ak;cases ll:a.spot with
        | none=>rfl
        | some x=>rw[ll] at ak; simp at ak
      ·cases ko
     obtain⟨blk,off,spot⟩:=a;simp only at WG;subst WG;have key:=aQ.a1 (w:=w) (R:=A) (h:=aO.empty) (μ:=fun _=>none) (P.cellsOf e) es blk off cap (fun i j=>((eJ i)[j]?).getD undef) (by omega) aw
      (fun i j ay ai=>by
       rw[bA] at ay;obtain⟨v,ad,ae⟩:=(mg i ay).2 j ai;obtain⟨c,ah⟩:∃ c,(rows i)[j]? = some c:=by
        have:j<(rows i).length:=by rw[(ao i ay).2.len,(mg i ay).1]; exact ai
        exact⟨_,awT this⟩
       refine⟨?_,?_,dA _,fun ⟨b,m,ad,ae,aj⟩=>by cases ae⟩
       ·rw[ad,axI,<-add_plain]; exact ae
       ·rw[ad,axI]; exact ((ao i ay).2.qm j c v ah ad).2)
      (fun i r az j c ah=>by
       obtain⟨ay,rfl⟩:=mj i r az;have ai:j<P.cellsOf e:=by rw[<-(mg i ay).1,<-(ao i ay).2.len]; exact (awQ.1 ah).1
       obtain⟨v,ad,ae⟩:=(mg i ay).2 j ai;rw[ad,axI];exact ((ao i ay).2.qm j c v ah ad).1)
     rw[bA] at key;exact key
  ·rename_i fs aM;simp only[awZ,decide_eq_true_eq,axx] at au;obtain⟨bA,xs,ag⟩:=apg aM h;have D4:∀ (fs:List Field) (o:Nat) (xs:List (DataW H × List MemPlace)),wU P fs o=some vs.length->o<=vs.length->(∀ f∈fs,vZ P D f.type=true)->
     (fs.mapM fun f=>DataW.trod enc P w base spare held fuel f.type ((vs.drop f.offset).take (P.cellsOf f.type)))=some xs->∃ cs,qy P w A (fs.map (·.type)) (vs.drop o) cs:=by
    intro fs
    induction fs with
    | nil=>intro o xs ah av _ _; simp only[wU,Option.some.injEq] at ah; rw[ah,List.drop_length]; exact⟨[],.nil⟩
    | cons f fs ai0=>
     intro o xs ah av fv hm;simp only[wU] at ah;split at ah
     ·rename_i agV;rw[ayp] at hm;simp only[Option.bind_eq_bind,bind_some,ayC,Option.some.injEq] at hm;obtain⟨x,ad,aqA,ae,_⟩:=hm;have ahH:∀ (fs:List Field) (o n:Nat),wU P fs o=some n->o<=n:=by
       intro fs
       induction fs with
       | nil=>intro o n h; simp only[wU,Option.some.injEq] at h; omega
       | cons g gs ai1=>
        intro o n h;simp only[wU] at h;split at h
        ·have:=ai1 _ _ h; omega
        ·cases h
      have dN:=ahH _ _ _ ah;obtain⟨bS,bO⟩:=aR f.type _ x.1 x.2 (fv f (by simp)) ad;obtain⟨b7,w2⟩:=ai0 _ aqA ah dN (fun g ax=>fv g (by simp[ax])) ae;refine⟨bS++b7,?_⟩;have:=bO.app w2;rw[agV,show List.drop (o+P.cellsOf f.type) vs=List.drop (P.cellsOf f.type) (List.drop o vs) by rw[azt],axX] at this;exact this
     ·cases ah
   obtain⟨cs,aP⟩:=D4 fs.toList 0 xs (by rw[bA]; exact au.1) (ax2 _) au.2 ag;rw[ax5] at aP;exact⟨cs,⟨aP.len,fun rA cs' h=>.struct aM (aP.ty _ _ h),aP.qm⟩⟩
  ·rename_i n e aM;simp only[awZ,decide_eq_true_eq] at au;obtain⟨bA,xs,ag⟩:=trod_array aM h;have ah5:∀ i,i<n->∃ c,qy P w A [e] ((vs.drop (i*P.cellsOf e)).take (P.cellsOf e)) c:=fun i ay=>by
    obtain⟨x,_,ad⟩:=JD ag i i (by rw[axu ay]);exact aR e _ x.1 x.2 au.2 ad
   have D4:∀ m,m<=n->∃ cs,qy P w A (List.replicate m e) (vs.drop ((n - m)*P.cellsOf e)) cs:=by
    intro m
    induction m with
    | zero=>intro _; rw[azc,axA (by omega)]; exact⟨[],.nil⟩
    | succ m N7=>
     intro hm;obtain⟨bS,bO⟩:=ah5 (n - (m+1)) (by omega);obtain⟨b7,w2⟩:=N7 (by omega);refine⟨bS++b7,?_⟩;have:=bO.app w2;have xg:(n - m)*P.cellsOf e=(n - (m+1))*P.cellsOf e+P.cellsOf e:=by rw[<-axw]; congr 1; omega
     rw[xg,<-azt,axX] at this;exact this
   obtain⟨cs,aP⟩:=D4 n (awU _);rw[ayV,ayU,ax5] at aP;exact⟨cs,⟨aP.len,fun rA cs' h=>.array aM (aP.ty _ _ h),aP.qm⟩⟩
  ·cases au
def uL (P:Program) (t:TypeId) (c:U) :Prop:=match ev P t with
 | some true=>∃ cs,c=.aH cs/\dv P [t] cs
 | _=>dv P [t] [c]
inductive js (P:Program) :List TypeId->List U->Prop
 | nil:js P [] []
 | cons {t:TypeId} {c:U} {ts:List TypeId} {cs:List U}:uL P t c->js P ts cs->js P (t::ts) (c::cs)
theorem Rj {H:Type} {enc:TypeId × Value->H} {w:World} {A:Nat->Prop} (dA:∀ k,A k) {base hr:Nat} {spare:Nat->Bool} {held:Bool} {D:Nat}:∀ {ts:List TypeId} {vs:List Value} {iH:List (DataW H)} {ps:List MemPlace},
  (∀ t∈ts,vZ P D t=true)->(∀ (j:Nat) t v,ts[j]? = some t->vs[j]? = some v->Value.okWide P w .any hr t v)->DataW.TrodAll enc P w base spare held ts vs iH ps->
  ∃ cs,js P ts cs/\cs.length=vs.length/\∀ (j:Nat) (c:U) (v:Value),cs[j]? = some c->vs[j]? = some v->eh w A c v
 | [],[],_,_,_,_,_=>⟨[],.nil,rfl,fun j c v h=>by simp at h⟩
 | [],_::_,iH,_,_,_,h=>by cases iH<;>cases h
 | _::_,[],iH,_,_,_,h=>by cases iH<;>cases h
 | _::_,_::_,[],_,_,_,h=>by cases h
 | t::ts,v::vs,d::iH,ps,au,cM,h=>by
  obtain⟨p,q,⟨fuel,aX⟩,az,_⟩:=h;obtain⟨cs,ad,ae,aj⟩:=Rj dA (fun t aX=>au t (by simp[aX])) (fun j t v aX ao=>cM (j+1) t v (by simpa using aX) (by simpa using ao)) az;obtain⟨bS,bO⟩:=aaU dA fuel D t v.cells.toList d p (au t (by simp)) aX;have B2:dv P [t] bS:=by simpa using bO.ty [] [] .nil
  have ao:=cM 0 t v rfl rfl;have fin:∀ c,uL P t c->eh w A c v->∃ cs,js P (t::ts) cs/\cs.length=(v::vs).length/\∀ (j:Nat) (c:U) (v' : Value),cs[j]? = some c->(v::vs)[j]? = some v'->eh w A c v':=fun c ah lf=>
   ⟨c::cs,.cons ah ad,by simp[ae],fun j c' v' ai gi=>by
    cases j with
    | zero=>simp only[axh,Option.some.injEq] at ai gi; subst ai gi; exact lf
    | succ j=>exact aj j c' v' (by simpa using ai) (by simpa using gi)⟩
  unfold Value.okWide at ao;have agg:ev P t=(P.underlying t).map fun d=>match d with | .struct _ | .array _ _=>true | _=>false:=rfl
  cases aM:P.underlying t with
  | none=>
   exfalso;have:=au t (by simp);cases D with
   | zero=>cases this
   | succ D=>unfold vZ at this; rw[aM] at this; cases this
  | some TV=>
   rw[aM] at ao agg;have ajv:(∃ cs,v=.agg cs)->ev P t=some true->∃ cs,js P (t::ts) cs/\cs.length=(v::vs).length/\∀ (j:Nat) (c:U) (v' : Value),cs[j]? = some c->(v::vs)[j]? = some v'->eh w A c v':=by
    rintro⟨xs,rfl⟩ pP;refine fin (.aH bS) (by unfold uL; rw[pP]; exact⟨bS,rfl,B2⟩) (.aH bS xs (by have:=bO.len; simp only[Value.cells,ayK] at this; exact this.symm) (fun j x ag=>?_) (fun j c x ah ag=>?_))
    ·have aL:j<bS.length:=by rw[bO.len]; simp only[Value.cells,ayK]; exact (axl.1 ag).1
     exact (bO.qm j bS[j] x (awT aL) (by simpa [Value.cells] using ag)).2
    ·exact (bO.qm j c x ah (by simpa [Value.cells] using ag)).1
   have ajx:(∀ xs,v≠.agg xs)->ev P t=some false->∃ cs,js P (t::ts) cs/\cs.length=(v::vs).length/\∀ (j:Nat) (c:U) (v' : Value),cs[j]? = some c->(v::vs)[j]? = some v'->eh w A c v':=by
    intro bY pP;have mg:v.cells.toList=[v] :=by cases v<;>first | rfl | exact absurd rfl (bY _)
    have al:=bO.len;rw[mg] at al;obtain⟨c,rfl⟩:∃ c,bS=[c] :=List.length_eq_one_iff.1 al;refine fin c (by unfold uL; rw[pP]; exact B2) (bO.qm 0 c v rfl (by rw[mg]; rfl)).1
   have alp:Cell.okWide P w .any hr t v->∀ xs,v≠.agg xs:=by
    rintro ah xs rfl;unfold Cell.okWide at ah;rw[aM] at ah;cases TV<;>simp[Cell.ok,aM] at ah
   cases TV<;>simp only[aw0] at agg<;>first
    | exact ajv (by obtain⟨cs,h,_⟩:=ao; exact⟨cs,h⟩) agg
    | exact ajx (alp ao) agg
end
abbrev b8 (α:Type) :=Option (List α)
def b8.l {α:Type} (s:b8 α) :List α:=s.getD []
@[simp] theorem b8.auK {α:Type}:b8.l (none:b8 α)=[] :=rfl
@[simp] theorem b8.xG {α:Type} (l:List α) :b8.l (some l)=l:=rfl
def cc {α:Type} (z:Nat) (enc:α->List U) :b8 α->U
 | none=>.aG
 | some l=>.a1 z (l.map enc)
section
variable {α:Type} {z:Nat} {enc:α->List U}
@[simp] theorem lV (s:b8 α) :cp (.aq z) (cc z enc s)=some (.int .i64 s.l.length) :=by cases s<;>simp[cc,b8.l]
@[simp] theorem p2 (s:b8 α) (k:IntKind) (i:Int) :cN (.aq z) (cc z enc s) (.int k i)=if 0<=i then (s.l[i.toNat]?).map fun x=>.bM (enc x) 0 else none:=by
 cases s with
 | none=>by_cases h:0<=i<;>simp[cc,b8.l,cN,h]
 | some l=>by_cases h:0<=i<;>simp[cc,b8.l,h,Function.comp_def]
@[simp] theorem Tq (s:b8 α) :(cc z enc s).cells=some [cc z enc s] :=by cases s<;>rfl
theorem uT (h:∀ x,a4 (enc x)=true) (s:b8 α) :(cc z enc s).closed=true:=by
 cases s with
 | none=>rfl
 | some l=>
  simp only[cc,U.closed]
  induction l with
  | nil=>rfl
  | cons x l aR=>simp only[axk,uR,h,aR,ayL]
end
theorem wrap_i64 {n:Int} (ad:-9223372036854775808<=n) (ae:n<9223372036854775808) :IntKind.i64.wrap n=n:=by
 have aS:(2 ^ IntKind.i64.bits:Int)=18446744073709551616:=by decide
 have bt:(2 ^ (IntKind.i64.bits - 1) :Int)=9223372036854775808:=by decide
 have er:IntKind.i64.signed=true:=rfl;simp only[IntKind.wrap,aS,bt,er,ayn,decide_eq_true_eq];split<;>omega
theorem bJ {α:Type} {l:List α} {k:Nat} (h:k<l.length) :∃ x,l[k]? = some x/\x∈l:=⟨l[k],awT h,List.getElem_mem h⟩
section
variable {P:Program} {G:Nat->U}
theorem acJ {t:TypeId} (aM:P.underlying t=some .bool) (a b:Bool) :fz P .eql t (.bool a) (.bool b)=some (.bool (a == b)) :=by
 simp[fz,uV,eH,aM]
theorem Do {t e:TypeId} (aM:P.underlying t=some (.slice e)) {α:Type} (z:Nat) (enc:α->List U) (s:b8 α) :fz P .eql t (cc z enc s) .aG=some (.bool s.isNone) :=by
 cases s<;>simp[cc,fz,uV,eH,aM]
theorem aeu {e:TypeId} {k:IntKind} (aM:P.underlying e=some (.int k)) (aE:ev P e=some false) {D:Nat} (x y:List Int) :∀ (n i:Nat),i+n=x.length->i+n=y.length->
  eH.tq P (eH P (D+1)) e 1 (x.map (.int k)) (y.map (.int k)) n i=some (decide (x.drop i=y.drop i)) :=by
 intro n
 induction n with
 | zero=>intro i ag aI; rw[axA (by omega),axA (by omega)]; simp[eH.tq]
 | succ n aR=>
  intro i ag aI;have vG:x[i]? = some x[i] :=awT (by omega);have aiN:y[i]? = some y[i] :=awT (by omega);unfold eH.tq;simp only[O8 aE,ayt,awV,vG,aiN,aw0];have am:eH P (D+1) e (.int k x[i]) (.int k y[i])=some (decide (x[i]=y[i])) :=by
   unfold eH;rw[aM];simp only[if_true];by_cases h:x[i]=y[i]<;>simp[h]
  rw[am];have VB:x.drop i=x[i] ::x.drop (i+1) :=axC (by omega);have VC:y.drop i=y[i] ::y.drop (i+1) :=axC (by omega);by_cases h:x[i]=y[i]
  ·simp only[h,decide_true];rw[aR (i+1) (by omega) (by omega)];refine congrArg some (decide_eq_decide.2 ?_);rw[VB,VC,h];simp only[List.cons.injEq,true_and]
  ·simp only[h,decide_false];refine congrArg some (decide_eq_false ?_).symm;rw[VB,VC];simp only[List.cons.injEq,h,false_and,not_false_eq_true]
theorem T8 {t e:TypeId} {k:IntKind} {n:Nat} (aX:P.underlying t=some (.array n e)) (aM:P.underlying e=some (.int k)) (aE:ev P e=some false) (ak:cC P e=some 1) {x y:List Int} (ag:x.length=n) (aI:y.length=n) {D:Nat} :
  eH P (D+2) t (.aH (x.map (.int k))) (.aH (y.map (.int k)))=some (decide (x=y)) :=by
 unfold eH;rw[aX];simp only[ak];rw[aeu aM aE x y n 0 (by omega) (by omega)];simp
theorem acL {t e:TypeId} {k:IntKind} {n:Nat} (aX:P.underlying t=some (.array n e)) (aM:P.underlying e=some (.int k)) (aE:ev P e=some false) (ak:cC P e=some 1) (ax:P.eqGuardType P.depth t=false)
  {x y:List Int} (ag:x.length=n) (aI:y.length=n) :fz P .neq t (.aH (x.map (.int k))) (.aH (y.map (.int k)))=some (.bool (!decide (x=y))) :=by
 simp only[fz,uV,ax,azV,if_true,T8 aX aM aE ak ag aI (D:=9998)]; rfl
theorem w4 {z:Nat} {es:List (List U)} (aw:∀ e∈es,e.length=z) :es.flatten.length=es.length*z:=by
 induction es with
 | nil=>simp
 | cons e es aR=>rw[axD,awW,aw e (by simp),aR fun e am=>aw e (by simp[am]),axa,axw,ay6]
theorem nm {z:Nat} {es:List (List U)} (aw:∀ e∈es,e.length=z) {i j:Nat} {e:List U} (am:es[i]? = some e) (ai:j<z) :es.flatten[i*z+j]? = e[j]?:=by
 induction es generalizing i with
 | nil=>simp at am
 | cons x es aR=>
  have ag:x.length=z:=aw x (by simp);cases i with
  | zero=>
   simp only[axh,Option.some.injEq] at am;subst am;rw[axD,ayU,axV,awS (by omega)]
  | succ i=>
   simp only[axG] at am;rw[axD,aw6 (by rw[ag,axw]; omega),ag,show (i+1)*z+j - z=i*z+j by rw[axw]; omega];exact aR (fun e am=>aw e (by simp[am])) am
theorem aeW {z:Nat} {es:List (List U)} (aw:∀ e∈es,e.length=z) (i:Nat) :es.flatten.drop (i*z)=(es.drop i).flatten:=by
 induction es generalizing i with
 | nil=>simp
 | cons x es aR=>
  have ag:x.length=z:=aw x (by simp);cases i with
  | zero=>simp
  | succ i=>
   rw[axD,show (i+1)*z=x.length+i*z by rw[axw,ag,ay6],List.drop_length_add_append,List.drop_succ_cons];exact aR (fun e am=>aw e (by simp[am])) i
theorem Um {z:Nat} {es:List (List U)} (aw:∀ e∈es,e.length=z) {i:Nat} {e:List U} (am:es[i]? = some e) :(es.flatten.drop (i*z)).take z=e:=by
 rw[aeW aw];have ay:i<es.length:=(awQ.1 am).1;have:es.drop i=e::es.drop (i+1) :=by rw[axC ay]; congr 1; rw[awT ay] at am; exact Option.some.inj am
 rw[this,axD,axs (by rw[aw e (awY am)]; exact awU _),awR (by rw[aw e (awY am)]; exact awU _)]
theorem HN {z:Nat} {es:List (List U)} (aw:∀ e∈es,e.length=z) {i j:Nat} {e vs:List U} (am:es[i]? = some e) (ai:j+vs.length<=z) :bf es.flatten (i*z+j) vs=(es.set i (bf e j vs)).flatten:=by
 have ay:i<es.length:=(awQ.1 am).1;have dN:e.length=z:=aw e (awY am);have bg:es.drop i=e::es.drop (i+1) :=by rw[axC ay]; congr 1; rw[awT ay] at am; exact Option.some.inj am
 have lS:(es.set i (bf e j vs)).flatten=(es.take i).flatten++(bf e j vs++(es.drop (i+1)).flatten) :=by
  rw[ayk,if_pos ay,axO,axD]
 have aiu:es.flatten=(es.take i).flatten++(e++(es.drop (i+1)).flatten) :=by
  conv=>lhs; rw[<-axX i es]
  rw[bg,axO,axD]
 have bA:(es.take i).flatten.length=i*z:=by
  rw[w4 (z:=z) fun e am=>aw e (axp am),axd,ayh (by omega)]
 rw[lS,aiu];simp only[bf];rw[ayH,awR (by omega),bA,show i*z+j - i*z=j by omega,axs (by omega),
  List.drop_append,axA (by omega),bA,show i*z+j+vs.length - i*z=j+vs.length by omega,axT,axR (by omega)]
 simp only[axH]
theorem c1 {σ:bc} {i:Nat} {v:U} (h:σ i=v) :bB σ i v=σ:=by
 funext t; simp only[bB]; split<;>simp_all
theorem rD {σ:bc} {cX:Nat} {cu:U} {dY:Nat} {b4:U} (ad:σ cX=cu) (ae:σ dY=b4) :∃ s:bc,σ=bB (bB (s) cX cu) dY b4:=⟨σ,by rw[c1 ad,c1 ae]⟩
theorem lC {σ:bc} {cX:Nat} {cu:U} {dY:Nat} {b4:U} {gY:Nat} {fo:U} (ad:σ cX=cu) (ae:σ dY=b4) (aj:σ gY=fo) :∃ s:bc,σ=bB (bB (bB (s) cX cu) dY b4) gY fo:=⟨σ,by rw[c1 ad,c1 ae,c1 aj]⟩
theorem ij {σ:bc} {cX:Nat} {cu:U} {dY:Nat} {b4:U} {gY:Nat} {fo:U} {gj:Nat} {gV:U} (ad:σ cX=cu) (ae:σ dY=b4) (aj:σ gY=fo) (aD:σ gj=gV) :∃ s:bc,σ=bB (bB (bB (bB (s) cX cu) dY b4) gY fo) gj gV:=⟨σ,by rw[c1 ad,c1 ae,c1 aj,c1 aD]⟩
theorem k1 {σ:bc} {cX:Nat} {cu:U} {dY:Nat} {b4:U} {gY:Nat} {fo:U} {gj:Nat} {gV:U} {j1:Nat} {h5:U} (ad:σ cX=cu) (ae:σ dY=b4) (aj:σ gY=fo) (aD:σ gj=gV) (a2:σ j1=h5) :∃ s:bc,σ=bB (bB (bB (bB (bB (s) cX cu) dY b4) gY fo) gj gV) j1 h5:=⟨σ,by rw[c1 ad,c1 ae,c1 aj,c1 aD,c1 a2]⟩
theorem we {σ:bc} {cX:Nat} {cu:U} {dY:Nat} {b4:U} {gY:Nat} {fo:U} {gj:Nat} {gV:U} {j1:Nat} {h5:U} {j2:Nat} {fg:U} (ad:σ cX=cu) (ae:σ dY=b4) (aj:σ gY=fo) (aD:σ gj=gV) (a2:σ j1=h5) (bv:σ j2=fg) :∃ s:bc,σ=bB (bB (bB (bB (bB (bB (s) cX cu) dY b4) gY fo) gj gV) j1 h5) j2 fg:=⟨σ,by rw[c1 ad,c1 ae,c1 aj,c1 aD,c1 a2,c1 bv]⟩
theorem Qr {σ:bc} {cX:Nat} {cu:U} {dY:Nat} {b4:U} {gY:Nat} {fo:U} {gj:Nat} {gV:U} {j1:Nat} {h5:U} {j2:Nat} {fg:U} {iV:Nat} {m4:U} (ad:σ cX=cu) (ae:σ dY=b4) (aj:σ gY=fo) (aD:σ gj=gV) (a2:σ j1=h5) (bv:σ j2=fg) (dr:σ iV=m4) :∃ s:bc,σ=bB (bB (bB (bB (bB (bB (bB (s) cX cu) dY b4) gY fo) gj gV) j1 h5) j2 fg) iV m4:=⟨σ,by rw[c1 ad,c1 ae,c1 aj,c1 aD,c1 a2,c1 bv,c1 dr]⟩
theorem Kz {σ:bc} {cX:Nat} {cu:U} {dY:Nat} {b4:U} {gY:Nat} {fo:U} {gj:Nat} {gV:U} {j1:Nat} {h5:U} {j2:Nat} {fg:U} {iV:Nat} {m4:U} {pg:Nat} {j8:U} (ad:σ cX=cu) (ae:σ dY=b4) (aj:σ gY=fo) (aD:σ gj=gV) (a2:σ j1=h5) (bv:σ j2=fg) (dr:σ iV=m4) (gp:σ pg=j8) :∃ s:bc,σ=bB (bB (bB (bB (bB (bB (bB (bB (s) cX cu) dY b4) gY fo) gj gV) j1 h5) j2 fg) iV m4) pg j8:=⟨σ,by rw[c1 ad,c1 ae,c1 aj,c1 aD,c1 a2,c1 bv,c1 dr,c1 gp]⟩
theorem aa3 {σ:bc} {cX:Nat} {cu:U} {dY:Nat} {b4:U} {gY:Nat} {fo:U} {gj:Nat} {gV:U} {j1:Nat} {h5:U} {j2:Nat} {fg:U} {iV:Nat} {m4:U} {pg:Nat} {j8:U} {ss:Nat} {v9:U} (ad:σ cX=cu) (ae:σ dY=b4) (aj:σ gY=fo) (aD:σ gj=gV) (a2:σ j1=h5) (bv:σ j2=fg) (dr:σ iV=m4) (gp:σ pg=j8) (gh:σ ss=v9) :∃ s:bc,σ=bB (bB (bB (bB (bB (bB (bB (bB (bB (s) cX cu) dY b4) gY fo) gj gV) j1 h5) j2 fg) iV m4) pg j8) ss v9:=⟨σ,by rw[c1 ad,c1 ae,c1 aj,c1 aD,c1 a2,c1 bv,c1 dr,c1 gp,c1 gh]⟩
theorem apD {σ:bc} {cX:Nat} {cu:U} {dY:Nat} {b4:U} {gY:Nat} {fo:U} {gj:Nat} {gV:U} {j1:Nat} {h5:U} {j2:Nat} {fg:U} {iV:Nat} {m4:U} {pg:Nat} {j8:U} {ss:Nat} {v9:U} {xt:Nat} {yp:U} (ad:σ cX=cu) (ae:σ dY=b4) (aj:σ gY=fo) (aD:σ gj=gV) (a2:σ j1=h5) (bv:σ j2=fg) (dr:σ iV=m4) (gp:σ pg=j8) (gh:σ ss=v9) (lK:σ xt=yp) :∃ s:bc,σ=bB (bB (bB (bB (bB (bB (bB (bB (bB (bB (s) cX cu) dY b4) gY fo) gj gV) j1 h5) j2 fg) iV m4) pg j8) ss v9) xt yp:=⟨σ,by rw[c1 ad,c1 ae,c1 aj,c1 aD,c1 a2,c1 bv,c1 dr,c1 gp,c1 gh,c1 lK]⟩
theorem apE {σ:bc} {cX:Nat} {cu:U} {dY:Nat} {b4:U} {gY:Nat} {fo:U} {gj:Nat} {gV:U} {j1:Nat} {h5:U} {j2:Nat} {fg:U} {iV:Nat} {m4:U} {pg:Nat} {j8:U} {ss:Nat} {v9:U} {xt:Nat} {yp:U} {Fi:Nat} {GD:U} (ad:σ cX=cu) (ae:σ dY=b4) (aj:σ gY=fo) (aD:σ gj=gV) (a2:σ j1=h5) (bv:σ j2=fg) (dr:σ iV=m4) (gp:σ pg=j8) (gh:σ ss=v9) (lK:σ xt=yp) (y5:σ Fi=GD) :∃ s:bc,σ=bB (bB (bB (bB (bB (bB (bB (bB (bB (bB (bB (s) cX cu) dY b4) gY fo) gj gV) j1 h5) j2 fg) iV m4) pg j8) ss v9) xt yp) Fi GD:=⟨σ,by rw[c1 ad,c1 ae,c1 aj,c1 aD,c1 a2,c1 bv,c1 dr,c1 gp,c1 gh,c1 lK,c1 y5]⟩
theorem apF {σ:bc} {cX:Nat} {cu:U} {dY:Nat} {b4:U} {gY:Nat} {fo:U} {gj:Nat} {gV:U} {j1:Nat} {h5:U} {j2:Nat} {fg:U} {iV:Nat} {m4:U} {pg:Nat} {j8:U} {ss:Nat} {v9:U} {xt:Nat} {yp:U} {Fi:Nat} {GD:U} {WZ:Nat} {aa4:U} (ad:σ cX=cu) (ae:σ dY=b4) (aj:σ gY=fo) (aD:σ gj=gV) (a2:σ j1=h5) (bv:σ j2=fg) (dr:σ iV=m4) (gp:σ pg=j8) (gh:σ ss=v9) (lK:σ xt=yp) (y5:σ Fi=GD) (Md:σ WZ=aa4) :∃ s:bc,σ=bB (bB (bB (bB (bB (bB (bB (bB (bB (bB (bB (bB (s) cX cu) dY b4) gY fo) gj gV) j1 h5) j2 fg) iV m4) pg j8) ss v9) xt yp) Fi GD) WZ aa4:=⟨σ,by rw[c1 ad,c1 ae,c1 aj,c1 aD,c1 a2,c1 bv,c1 dr,c1 gp,c1 gh,c1 lK,c1 y5,c1 Md]⟩
section
variable {α:Type}
@[simp] theorem wV (l:ap) (z:Nat) (enc:α->List U) (s:b8 α) :de l z (cc z enc s)=some ((s.l.map enc).flatten,s.l.length) :=by
 cases s<;>simp[cc,de]
end
theorem aon {l:ap} {b:Nat} {c:aV} (h:l[b]? = some c) :l.set b c=l:=by
 apply axE;intro j;rw[aw4];by_cases ai:b=j
 ·subst ai; rw[if_pos rfl,if_pos (cd h)]; exact h.symm
 ·rw[if_neg ai]
theorem acq {l:ap} {z by_ b:Nat} {es xs:List (List U)} {x:U} (af:l[b]? = some (.cells (es.length*z) es.flatten)) (ag:de l z x=some (xs.flatten,xs.length)) (aw:∀ e∈es,e.length=z) (aJ:z≠0) (dM:by_≠0)
  (dC:(es.length+xs.length)*by_<=ci) :
  gK l z by_ (.aq z b 0 es.length es.length (es.length*z)) x=some (.aq z b 0 (es++xs).length (es++xs).length ((es++xs).length*z),l.set b (.cells ((es++xs).length*z) (es++xs).flatten)) :=by
 unfold gK;rw[ag];show ja l z by_ _ xs.flatten xs.length=_;unfold ja;cases xs with
 | nil=>simp[aon af]
 | cons y bK=>
  rw[if_neg (by simp),if_neg (by omega)];simp only[af];rw[if_pos ⟨trivial,trivial,dC⟩,if_neg (by simp),if_neg (by omega),if_pos trivial,awR (by rw[w4 aw]; exact awU _)];simp only[awW,axO]
theorem Dk {l:ap} {z by_ b n m sz:Nat} {es xs:List (List U)} {x:U} (af:l[b]? = some (.cells sz es.flatten)) (ag:de l z x=some (xs.flatten,m)) (aC:es.length=n) (hm:xs.length=m) (ak:sz=n*z) (aw:∀ e∈es,e.length=z) (aJ:z≠0) (dM:by_≠0)
  (dC:(n+m)*by_<=ci) :
  gK l z by_ (.aq z b 0 n n sz) x=some (.aq z b 0 (n+m) (n+m) ((n+m)*z),l.set b (.cells ((n+m)*z) (es++xs).flatten)) :=by
 subst aC hm ak;rw[acq af ag aw aJ dM dC];simp only[awW]
theorem Lc {l:ap} {z by_ b m:Nat} {xs:List (List U)} {x:U} (af:l[b]? = some (.cells 0 [])) (ag:de l z x=some (xs.flatten,m)) (hm:xs.length=m) (aJ:z≠0) (dM:by_≠0) (dC:m*by_<=ci) :
  gK l z by_ (.aq z b 0 0 0 0) x=some (.aq z b 0 m m (m*z),l.set b (.cells (m*z) xs.flatten)) :=by
 have:=Dk (es:=[]) (n:=0) (by simpa using af) ag rfl hm (by simp) (by simp) aJ dM (by simpa using dC);simpa using this
theorem Re {l:ap} {z by_:Nat} {xs:List (List U)} {x:U} (ag:de l z x=some (xs.flatten,xs.length)) (aJ:z≠0) (dM:by_≠0) (bY:xs≠[]) (dC:xs.length*by_<=ci) :
  gK l z by_ .aG x=some (.aq z l.length 0 xs.length xs.length (xs.length*z),l++[.cells (xs.length*z) xs.flatten]) :=by
 unfold gK;rw[ag];show ja l z by_ _ xs.flatten xs.length=_;unfold ja;rw[if_neg (by simp[bY]),if_neg (by omega)];simp only;rw[if_pos dC]
theorem gw {cs vs:List U} (h:vs.length=cs.length) :bf cs 0 vs=vs:=by
 simp only[bf,ayb,axT,axV];rw[axA (by omega),axr]
theorem RD (len cap:Nat) (k:IntKind) (i:Int) :hc len cap (some (.int k i)) none none=if 0<=i/\i<=len then some (i.toNat,len,cap) else none:=by
 unfold hc k6;by_cases h:0<=i/\i<=len
 ·simp only[if_pos h]
 ·simp only[if_neg h]
theorem Lq (len cap:Nat) (k:IntKind) (i:Int) :hc len cap none (some (.int k i)) none=if 0<=i/\i<=cap then some (0,i.toNat,cap) else none:=by
 unfold hc k6;by_cases h:0<=i/\i<=cap
 ·simp only[if_pos h]
 ·simp only[if_neg h]
theorem acU (len cap:Nat) (k k' : IntKind) (i j:Int) :hc len cap (some (.int k i)) (some (.int k' j)) none=if 0<=i/\i<=j/\j<=cap then some (i.toNat,j.toNat,cap) else none:=by
 unfold hc k6;by_cases h:0<=j/\j<=cap
 ·simp only[if_pos h];by_cases ae:0<=i/\i<=((j.toNat:Nat) :Int)
  ·simp only[if_pos ae]; rw[if_pos (by omega)]
  ·simp only[if_neg ae]; rw[if_neg (by omega)]
 ·simp only[if_neg h]; rw[if_neg (by omega)]
theorem Kp {α:Type} {z:Nat} {enc:α->List U} {l:List α} {k:IntKind} {i:Int} (ad:0<=i) (ae:i<=l.length) :fm (.aq z) (cc z enc (some l)) (some (.int k i)) none none=some (cc z enc (some (l.drop i.toNat))) :=by
 have aj:i.toNat<=l.length:=by omega
 simp only[fm,cc,if_true,RD,aw1];rw[if_pos ⟨ad,ae⟩];simp only[aw0,Option.some.injEq,U.a1.injEq,true_and];rw[awR (by simp),List.map_drop]
theorem P3 {α:Type} {z:Nat} {enc:α->List U} {l:List α} {k:IntKind} {i:Int} (ad:0<=i) (ae:i<=l.length) :fm (.aq z) (cc z enc (some l)) none (some (.int k i)) none=some (cc z enc (some (l.take i.toNat))) :=by
 simp only[fm,cc,if_true,Lq,aw1];rw[if_pos ⟨ad,ae⟩];simp only[aw0,Option.some.injEq,U.a1.injEq,true_and,ax5,azc];rw[ay1]
theorem aoy {α:Type} {z:Nat} {enc:α->List U} {l:List α} {k k' : IntKind} {i j:Int} (aJ:0<=i) (ad:i<=j) (ae:j<=l.length) :fm (.aq z) (cc z enc (some l)) (some (.int k i)) (some (.int k' j)) none=some (cc z enc (some ((l.drop i.toNat).take (j.toNat - i.toNat)))) :=by
 simp only[fm,cc,if_true,acU,aw1];rw[if_pos ⟨aJ,ad,ae⟩];simp only[aw0,Option.some.injEq,U.a1.injEq,true_and];rw[ay1,List.map_drop]
theorem map_set {α:Type} (l:List α) (k:Nat) (x:α) (enc:α->List U) :(l.map enc).set k (enc x)=(l.set k x).map enc:=by rw[List.map_set]
end

section
variable {P:Program}
def aay (P:Program) (t:TypeId) :Option (List TypeId) :=match P.underlying t with
 | some (.struct fs)=>some (fs.toList.map (·.type))
 | _=>none
theorem As {cs:List U} (h:dv P [] cs) :cs=[] :=by cases h; rfl
theorem uw {t:TypeId} {k:IntKind} {ts:List TypeId} {cs:List U} (aM:P.underlying t=some (.int k)) (h:dv P (t::ts) cs) :∃ n cs',cs=.int k n::cs'/\k.min<=n/\n<=k.max/\dv P ts cs':=by
 cases h
 case int k' n cs' ad ae pZ h=>
  rw[aM] at pZ; cases pZ; exact⟨_,_,rfl,ad,ae,h⟩
 all_goals (exfalso; simp_all; done)
theorem apr {t:TypeId} {ts:List TypeId} {cs:List U} (aM:P.underlying t=some .bool) (h:dv P (t::ts) cs) :∃ b cs',cs=.bool b::cs'/\dv P ts cs':=by
 cases h
 case bool b cs' pZ h=>exact⟨_,_,rfl,h⟩
 all_goals (exfalso; simp_all; done)
theorem At {t:TypeId} {fs ts:List TypeId} {cs:List U} (aM:aay P t=some fs) (h:dv P (t::ts) cs) :dv P (fs++ts) cs:=by
 unfold aay at aM;cases h
 case struct asp pZ h=>rw[pZ] at aM; cases aM; exact h
 all_goals (exfalso; simp_all; done)
theorem Qm {t e:TypeId} {n:Nat} {ts:List TypeId} {cs:List U} (aM:P.underlying t=some (.array n e)) (h:dv P (t::ts) cs) :dv P (List.replicate n e++ts) cs:=by
 cases h
 case array fr fY pZ h=>rw[aM] at pZ; cases pZ; exact h
 all_goals (exfalso; simp_all; done)
theorem apw {t e:TypeId} {ts:List TypeId} {cs:List U} (aM:P.underlying t=some (.slice e)) (h:dv P (t::ts) cs) :
  ∃ cs',dv P ts cs'/\(cs=.aG::cs'\/∃ es,cs=.a1 (P.cellsOf e) es::cs'/\es.length<=maxLen/\∀ r∈es,dv P [e] r) :=by
 cases h
 case aG fr cs' pZ h=>exact⟨_,h,.inl rfl⟩
 case aq fr es cs' al aw am pZ h=>rw[aM] at pZ; cases pZ; exact⟨_,h,.inr ⟨es,rfl,al,am⟩⟩
 all_goals (exfalso; simp_all; done)
theorem aaZ {e:TypeId} {k:IntKind} (aM:P.underlying e=some (.int k)) :∀ (n:Nat) {ts:List TypeId} {cs:List U},dv P (List.replicate n e++ts) cs->∃ (x:List Int) (cs' : List U),cs=x.map (.int k)++cs'/\x.length=n/\dv P ts cs'
 | 0,ts,cs,h=>⟨[],cs,rfl,rfl,h⟩
 | n+1,ts,cs,h=>by
  rw[axJ,axK] at h;obtain⟨m,qI,rfl,_,_,ad⟩:=uw aM h;obtain⟨x,cs',rfl,ag,ae⟩:=aaZ aM n ad;exact⟨m::x,cs',rfl,by simp[ag],ae⟩
theorem ZR {α:Type} {enc:α->List U} {Q:α->Prop}:∀ (es:List (List U)),(∀ r∈es,∃ x,r=enc x/\Q x)->∃ xs:List α,es=xs.map enc/\∀ x∈xs,Q x
 | [],_=>⟨[],rfl,fun x ag=>by cases ag⟩
 | r::es,h=>by
  obtain⟨x,rfl,ag⟩:=h r (by simp);obtain⟨xs,rfl,p1⟩:=ZR es (fun r az=>h r (by simp[az]));exact⟨x::xs,rfl,fun y aI=>by
   rcases axU.1 aI with rfl | aI
   ·exact ag
   ·exact p1 y aI⟩
theorem Gy {α:Type} {t e:TypeId} {z:Nat} {enc:α->List U} {Q:α->Prop} {ts:List TypeId} {cs:List U} (aM:P.underlying t=some (.slice e)) (aw:P.cellsOf e=z) (am:∀ r,dv P [e] r->∃ x,r=enc x/\Q x) (h:dv P (t::ts) cs) :
  ∃ (s:b8 α) (cs' : List U),cs=cc z enc s::cs'/\s.l.length<=maxLen/\(∀ x∈s.l,Q x)/\dv P ts cs':=by
 obtain⟨cs',ad,rfl | ⟨es,rfl,al,az⟩⟩:=apw aM h
 ·exact⟨none,cs',rfl,ax2 _,fun x ag=>(by cases ag),ad⟩
 ·obtain⟨xs,rfl,p1⟩:=ZR (enc:=enc) (Q:=Q) es (fun r pW=>am r (az r pW));refine⟨some xs,cs',?_,by simpa using al,p1,ad⟩;rw[aw]; rfl
theorem apo {t:TypeId} {c:U} (aE:ev P t=some true) (h:uL P t c) :∃ cs,c=.aH cs/\dv P [t] cs:=by
 unfold uL at h; rw[aE] at h; exact h
theorem Gx {t:TypeId} {c:U} (aE:ev P t=some false) (h:uL P t c) :dv P [t] [c] :=by
 unfold uL at h; rw[aE] at h; exact h
theorem CX {t:TypeId} {ts:List TypeId} {cs:List U} (h:js P (t::ts) cs) :∃ c cs',cs=c::cs'/\uL P t c/\js P ts cs':=by
 cases h with
 | cons ad ae=>exact⟨_,_,rfl,ad,ae⟩
theorem apm {cs:List U} (h:js P [] cs) :cs=[] :=by cases h; rfl
end

end Go.bV

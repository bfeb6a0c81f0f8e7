/-
  The canonical machine, part X: what must hold behind code without types holds behind the code.
-/
import Derived.Test.YtidejmkknleijaaGreatDoorBd
import GoSem.ClaimChange
import GoSem.ClaimWide
import Derived.ProofKit
set_option linter.unusedVariables false
set_option linter.unusedSimpArgs false
set_option linter.unnecessarySimpa false
namespace Go.b0
open Go
section
variable {P:Program} {G:Nat->U}
theorem R1 {op:Op} {m:da} (hm:ny P op=some m) (am:kY op=false) :m.looks=true\/m.jo=true:=by
 cases op<;>simp only[kY,aw3,reduceCtorEq] at am<;>simp only[ny] at hm<;>try (cases hm; done)
 case move=>cases hm; exact .inl rfl
 case assign=>cases hm; exact .inl rfl
 case pick=>cases hm; exact .inl rfl
 case alloc=>rw[map_some] at hm; obtain⟨_,_,rfl⟩:=hm; exact .inr rfl
 case box=>cases hm; exact .inr rfl
 case build=>simp only[bind_some,map_some] at hm; obtain⟨_,_,_,_,rfl⟩:=hm; exact .inl rfl
 case buildSlice=>simp only[bind_some,iN] at hm; obtain⟨_,_,_,_,_,_,_,rfl⟩:=hm; exact .inr rfl
 case load=>split at hm<;>cases hm<;>exact .inl rfl
 case nilCheck=>cases hm; exact .inl rfl
 case binOp=>cases hm; exact .inl rfl
 case unOp=>cases hm; exact .inl rfl
 case convert=>
  repeat' split at hm
  all_goals first | (cases hm; done) | (cases hm; exact .inl rfl)
 case makeInterface=>split at hm<;>cases hm; exact .inl rfl
 case makeFunc f a b=>cases f<;>simp only at hm<;>cases hm; exact .inl rfl
 case makeSlice=>simp only[bind_some,iN] at hm; obtain⟨_,_,_,_,_,_,_,_,_,rfl⟩:=hm; exact .inr rfl
 case slice=>rw[map_some] at hm; obtain⟨_,_,rfl⟩:=hm; exact .inl rfl
 case fieldAddr=>rw[bind_some] at hm; obtain⟨_,_,hm⟩:=hm; split at hm<;>cases hm; exact .inl rfl
 case field=>rw[bind_some] at hm; obtain⟨_,_,hm⟩:=hm; split at hm<;>cases hm<;>exact .inl rfl
 case indexAddr=>split at hm<;>cases hm<;>exact .inl rfl
 case index=>
  repeat' split at hm
  all_goals first | (cases hm; done) | (cases hm; exact .inl rfl)
 case extract=>cases hm; exact .inl rfl
 case call c=>
  split at hm
  ·rename_i b ag;rw[ag] at am;cases b<;>simp only[aw3,reduceCtorEq] at am<;>unfold vO at hm<;>(repeat' split at hm)<;>first
    | (cases hm; done)
    | (cases hm; exact .inl rfl)
    | (rw[map_some] at hm; obtain⟨_,_,rfl⟩:=hm; exact .inl rfl)
    | (exfalso; simp only[reduceCtorEq] at *; done)
  ·rename_i f aE;rw[aE] at am; cases am
  ·cases hm
theorem R2 {op:Op} {m:da} (hm:ny P op=some m) (aW:tq P op=false) :m.reads=false/\m.jo=false:=by
 cases op<;>simp only[tq,aw3,reduceCtorEq] at aW<;>simp only[ny] at hm<;>try (cases hm; done)
 case move=>cases hm; exact⟨rfl,rfl⟩
 case assign=>cases hm; exact⟨rfl,rfl⟩
 case pick=>cases hm; exact⟨rfl,rfl⟩
 case build=>simp only[bind_some,map_some] at hm; obtain⟨_,_,_,_,rfl⟩:=hm; exact⟨rfl,rfl⟩
 case store=>rw[map_some] at hm; obtain⟨_,_,rfl⟩:=hm; exact⟨rfl,rfl⟩
 case nilCheck=>cases hm; exact⟨rfl,rfl⟩
 case binOp=>cases hm; exact⟨rfl,rfl⟩
 case unOp=>cases hm; exact⟨rfl,rfl⟩
 case makeInterface=>split at hm<;>cases hm; exact⟨rfl,rfl⟩
 case makeFunc f a b=>cases f<;>simp only at hm<;>cases hm; exact⟨rfl,rfl⟩
 case typeAssert=>rw[map_some] at hm; obtain⟨_,_,rfl⟩:=hm; exact⟨rfl,rfl⟩
 case slice=>rw[map_some] at hm; obtain⟨_,_,rfl⟩:=hm; exact⟨rfl,rfl⟩
 case fieldAddr=>rw[bind_some] at hm; obtain⟨_,_,hm⟩:=hm; split at hm<;>cases hm; exact⟨rfl,rfl⟩
 case field=>rw[bind_some] at hm; obtain⟨_,_,hm⟩:=hm; split at hm<;>cases hm<;>exact⟨rfl,rfl⟩
 case indexAddr=>split at hm<;>cases hm<;>exact⟨rfl,rfl⟩
 case index=>
  repeat' split at hm
  all_goals first | (cases hm; done) | (cases hm; exact⟨rfl,rfl⟩)
 case extract=>cases hm; exact⟨rfl,rfl⟩
 case next it b=>cases b<;>simp only[reduceCtorEq] at hm<;>cases hm; exact⟨rfl,rfl⟩
 case panic=>cases hm; exact⟨rfl,rfl⟩
 case lookup=>split at hm<;>(try cases hm; done); rw[map_some] at hm; obtain⟨_,_,rfl⟩:=hm; exact⟨rfl,rfl⟩
 case mapUpdate=>split at hm<;>cases hm; exact⟨rfl,rfl⟩
 case insert=>split at hm<;>cases hm; exact⟨rfl,rfl⟩
 case makeMap=>split at hm<;>cases hm; exact⟨rfl,rfl⟩
 case range=>split at hm<;>cases hm; exact⟨rfl,rfl⟩
 case call c=>
  split at hm
  ·rename_i b ag;rw[ag] at aW;unfold vO at hm
   repeat' split at hm
   all_goals first
    | (cases hm; done)
    | (exfalso; simp_all; done)
    | (cases hm; exact⟨rfl,rfl⟩)
    | (simp only[bind_some,map_some] at hm; obtain⟨_,_,rfl⟩:=hm; exact⟨rfl,rfl⟩)
    | (simp only[bind_some,map_some] at hm; obtain⟨_,_,_,_,rfl⟩:=hm; exact⟨rfl,rfl⟩)
    | (simp only[bind_some,iN] at hm; obtain⟨_,_,_,_,_,_,_,rfl⟩:=hm; exact⟨rfl,rfl⟩)
    | (simp only[bind_some,iN] at hm; obtain⟨_,_,_,_,_,_,_,_,_,rfl⟩:=hm; exact⟨rfl,rfl⟩)
  ·split at hm
   ·rw[iN] at hm; obtain⟨_,rfl⟩:=hm; exact⟨rfl,rfl⟩
   ·cases hm
  ·cases hm
inductive nk (P:Program) (G:Nat->U) (s:dn) (o:Oper) (σ:bc) (l:ao) (v:U) (l1:ao) :bQ->Prop
 | pure (m:da) (ag:s.b=.gH m) (hm:m.looks=true) (al:l1=l) (ak:bT P (c3 G σ) l m=some (v,l)) :nk P G s o σ l v l1 (.pure s.i v)
 | new (m:da) (cs:List U) (ag:s.b=.gH m) (hm:m.jo=true) (al:l1=l++[.cells cs.length cs]) :nk P G s o σ l v l1 (.new s.i v cs)
 | gY (am:kY o.op=true) (bC:l.length<=l1.length) :nk P G s o σ l v l1 (.gY s.i v (bb l1))
theorem nk.idx {s:dn} {o:Oper} {σ:bc} {l l1:ao} {v:U} {t:bQ} (k:nk P G s o σ l v l1 t) :t.idx=s.i:=by cases k<;>rfl
theorem nk.val {s:dn} {o:Oper} {σ:bc} {l l1:ao} {v:U} {t:bQ} (k:nk P G s o σ l v l1 t) :t.val=v:=by cases k<;>rfl
theorem nk.next {s:dn} {o:Oper} {σ:bc} {l l1:ao} {v:U} {t:bQ} (k:nk P G s o σ l v l1 t) :qy (bb l) t=bb l1:=by
 cases k with
 | pure m ag hm al ak=>rw[al]; rfl
 | new m cs ag hm al=>rw[al,<-oe]; rfl
 | gY am _=>rfl
theorem amn {ops:Array Oper} {s:dn} {o:Oper} (ok:pR P ops s o) {σ:bc} (aX:k7 ops σ o=some true) {l:ao} {K:U->ao->Prop} (h:iu P G s.b σ l K) :
  ∃ v l1 t,nk P G s o σ l v l1 t/\xK P G ops ⟨σ,bb l⟩ t/\K v l1:=by
 obtain⟨v,l1,ad,ae,aj,aG⟩:=YA ok h;have ld:kY o.op=true->∃ v l1 t,nk P G s o σ l v l1 t/\xK P G ops ⟨σ,bb l⟩ t/\K v l1:=fun am=>⟨v,l1,_,.gY am ae,⟨o,ok.here,aX,ad,by simpa using ae⟩,aj⟩
 cases ag:s.b with
 | gH m=>
  have hm:=ok.gH m ag;cases am:kY o.op with
  | true=>exact ld am
  | false=>
   have ak:=aG m ag (R1 hm am);rcases R1 hm am with al | aD
   ·have:=V8 al ak;subst this;exact⟨v,l1,_,.pure m ag al rfl ak,⟨o,ok.here,aX⟩,aj⟩
   ·obtain⟨cs,mk,bh,bF,dz⟩:=ajj hm aD ak;exact⟨v,l1,_,.new m cs ag aD dz,⟨o,mk,ok.here,aX,bh,bF⟩,aj⟩
 | mP f args=>
  obtain⟨c,iK,ah,_⟩:=ok.mP f args ag;exact ld (by rw[iK]; simp only[kY,ah])
 | mQ x args=>
  obtain⟨c,iK,ah,_⟩:=ok.mQ x args ag;exact ld (by rw[iK]; simp only[kY,ah])
 | oj x name args=>
  obtain⟨c,iK,ah,_⟩:=ok.oj x name args ag;exact ld (by rw[iK]; simp only[kY,ah])
inductive kK (P:Program) (G:Nat->U) (ops:Array Oper) :List dn->bc->ao->iZ->List (bQ × bc × ao)->bc->ao->Prop
 | nil {σ l seen}:kK P G ops [] σ l seen [] σ l
 | skip {s o r σ l seen es bD l'}:pR P ops s o->k7 ops σ o=some false->kK P G ops r (hV σ s.dst gL) l seen es bD l'->kK P G ops (s::r) σ l seen ((.skip s.i,σ,l) ::es) bD l'
 | step {s o r σ l v l1 t seen es bD l'}:pR P ops s o->nk P G s o σ l v l1 t->xK P G ops ⟨σ,bb l⟩ t->pX s.h1 seen l1->
   kK P G ops r (hV σ s.dst v) l1 (r6 s.cd s.i (l8 P G s.b σ v l l1) seen) es bD l'->kK P G ops (s::r) σ l seen ((t,σ,l) ::es) bD l'
theorem NT {ops:Array Oper} {K:bc->ao->Prop}:∀ {s:List dn} {σ:bc} {l:ao} {seen:iZ},(∀ x∈s,∃ o,pR P ops x o)->kh P G s σ l seen K->∃ es bD l',kK P G ops s σ l seen es bD l'/\K bD l'
 | [],σ,l,seen,_,h=>⟨[],σ,l,.nil,h⟩
 | s::r,σ,l,seen,c4,h=>by
  obtain⟨o,ok⟩:=c4 s (by simp);rcases Vp ok h with ⟨aX,h⟩ | ⟨aX,h⟩
  ·obtain⟨v,l1,t,ad,ae,aj,aG⟩:=amn ok aX h;obtain⟨es,bD,l',bh,bF⟩:=NT (fun x af=>c4 x (by simp[af])) aG;exact⟨_,bD,l',.step ok ad ae aj bh,bF⟩
  ·obtain⟨es,bD,l',bh,bF⟩:=NT (fun x af=>c4 x (by simp[af])) h;exact⟨_,bD,l',.skip ok aX bh,bF⟩
theorem NV {K:bc->ao->Prop}:∀ {s:List dn} {σ:bc} {l:ao},(∀ x∈s,x.cd=false)->i9 P G s σ l K->kh P G s σ l [] K
 | [],σ,l,_,h=>h
 | s::r,σ,l,ar,h=>by
  have mono:∀ (b:qR) (K fb:U->ao->Prop),(∀ v l,K v l->fb v l)->iu P G b σ l K->iu P G b σ l fb:=by
   intro b K fb aT h;cases b with
   | gH m=>simp only[iu,zF] at h ⊢; obtain⟨v,ad,ae⟩:=h; exact⟨v,ad,VW aT ae⟩
   | mP f args=>obtain⟨r,l',ad,ae,aj⟩:=h; exact⟨r,l',ad,ae,aT _ _ aj⟩
   | mQ x args=>
    simp only[iu,vH] at h ⊢;split at h
    ·obtain⟨aI,r,l',ad,ae,aj⟩:=h; exact⟨aI,r,l',ad,ae,aT _ _ aj⟩
    ·cases h
   | oj x name args=>
    simp only[iu,vG] at h ⊢;split at h
    ·split at h
     ·obtain⟨aI,r,l',ad,ae,aj⟩:=h; exact⟨aI,r,l',ad,ae,aT _ _ aj⟩
     ·cases h
    ·cases h
  have ade:∀ (g:Option (Option Tmp × Bool)) (p q cp eb:Prop),(p->cp)->(q->eb)->qu σ g p q->qu σ g cp eb:=by
   intro g p q cp eb av a7 h;unfold qu at h ⊢;split at h
   ·exact av h
   ·rename_i d w;simp only[rO] at h ⊢;split at h
    ·rw[Ej] at h ⊢;rcases h with ⟨a,b⟩ | ⟨a,b⟩
     ·exact .inl ⟨a,av b⟩
     ·exact .inr ⟨a,a7 b⟩
    ·cases h
    ·exact a7 h
   ·exact a7 h
  have jM:s.cd=false:=ar s (by simp);refine ade _ _ _ _ _ (mono _ _ _ fun v l' h=>?_) (fun h=>NV (fun x af=>ar x (by simp[af])) h) h;refine⟨trivial,?_⟩;rw[jM];exact NV (fun x af=>ar x (by simp[af])) h
theorem nk.len {s:dn} {o:Oper} {σ:bc} {l l1:ao} {v:U} {t:bQ} (k:nk P G s o σ l v l1 t) :l.length<=l1.length:=by
 cases k with
 | pure m ag hm al ak=>rw[al]; exact aun _
 | new m cs ag hm al=>rw[al]; simp
 | gY am bC=>exact bC
theorem kK.len {ops:Array Oper} {s:List dn} {σ bD:bc} {l l' : ao} {seen:iZ} {es:List (bQ × bc × ao)} (h:kK P G ops s σ l seen es bD l') :l.length<=l'.length:=by
 induction h with
 | nil=>exact aun _
 | skip _ _ _ aR=>exact aR
 | step _ k _ _ _ aR=>exact au7 k.len aR
def us (es:List (bQ × bc × ao)) (l' : ao) (q:Nat) :ao:=match es[q]? with | some x=>x.2.2 | none=>l'
theorem kK.here {ops:Array Oper} {s:List dn} {σ bD:bc} {l l' : ao} {seen:iZ} {es:List (bQ × bc × ao)} (h:kK P G ops s σ l seen es bD l') :us es l' 0=l:=by
 cases h<;>rfl
theorem kK.idx {ops:Array Oper} {s:List dn} {σ bD:bc} {l l' : ao} {seen:iZ} {es:List (bQ × bc × ao)} (h:kK P G ops s σ l seen es bD l') :es.map (fun e=>e.1.idx)=s.map (·.i) :=by
 induction h with
 | nil=>rfl
 | skip _ _ _ aR=>simp only[auL,aR]; rfl
 | step _ k _ _ _ aR=>simp only[auL,aR,k.idx]
theorem kK.at {ops:Array Oper} {s:List dn} {σ bD:bc} {l l' : ao} {seen:iZ} {es:List (bQ × bc × ao)} (h:kK P G ops s σ l seen es bD l') :
  (∀ (p:Nat) (e:bQ × bc × ao),es[p]? = some e->xK P G ops ⟨e.2.1,bb e.2.2⟩ e.1/\hi ops ⟨σ,bb l⟩ (es.map (·.1)) p=⟨e.2.1,bb e.2.2⟩)/\hi ops ⟨σ,bb l⟩ (es.map (·.1)) es.length=⟨bD,bb l'⟩:=by
 induction h with
 | nil=>exact⟨fun p e am=>by simp at am,rfl⟩
 | @skip s o r σ l seen es bD l' ok aX _ aR=>
  have kv:mA ops ⟨σ,bb l⟩ (.skip s.i)=⟨hV σ s.dst gL,bb l⟩:=by simp only[mA,xX,bQ.idx,ok.here,av8,bQ.val,qy,ok.dst]
  refine⟨fun p e am=>?_,?_⟩
  ·cases p with
   | zero=>simp only[auN,Option.some.injEq] at am; subst am; exact⟨⟨o,ok.here,aX⟩,rfl⟩
   | succ p=>
    simp only[au5] at am;obtain⟨ad,ae⟩:=aR.1 p e am;refine⟨ad,?_⟩;rw[auL,IU,kv]; exact ae
  ·rw[auL,auF,IU,kv]; exact aR.2
 | @step s o r σ l v l1 t seen es bD l' ok k ak ah _ aR=>
  have kv:mA ops ⟨σ,bb l⟩ t=⟨hV σ s.dst v,bb l1⟩:=by simp only[mA,xX,k.idx,ok.here,av8,k.val,k.next,ok.dst]
  refine⟨fun p e am=>?_,?_⟩
  ·cases p with
   | zero=>simp only[auN,Option.some.injEq] at am; subst am; exact⟨ak,rfl⟩
   | succ p=>
    simp only[au5] at am;obtain⟨ad,ae⟩:=aR.1 p e am;refine⟨ad,?_⟩;rw[auL,IU,kv]; exact ae
  ·rw[auL,auF,IU,kv]; exact aR.2
theorem kK.still {ops:Array Oper} {s:List dn} {σ bD:bc} {l l' : ao} {seen:iZ} {es:List (bQ × bc × ao)} (h:kK P G ops s σ l seen es bD l') (j:Nat) (S:ao->Prop)
  (qe:∀ l x,S l->S (l++x)) (aI:S l) :∀ q,q<=es.length->(∀ (p:Nat) (e:bQ × bc × ao),p<q->es[p]? = some e->e.1.jP=true->(j,S)∈seen/\∃ x,s[p]? = some x/\j∈x.h1)->S (us es l' q) :=by
 have abr:∀ {ids:List Nat} {seen:iZ} {l:ao},pX ids seen l->(j,S)∈seen->j∈ids->S l:=by
  intro ids seen l ah hm ay
  induction seen with
  | nil=>cases hm
  | cons e r aR=>
   obtain⟨ad,ae⟩:=ah;rcases avn.1 hm with rfl | hm
   ·exact ad (by simpa using ay)
   ·exact aR ae hm
 induction h with
 | nil=>
  intro q a7 _; simp only[au1] at a7; obtain rfl:q=0:=by omega
  exact aI
 | @skip s o r σ l seen es bD l' ok aX _ aR=>
  intro q a7 Av;cases q with
  | zero=>exact aI
  | succ q=>exact aR aI q (by simpa using a7) (fun p e av am c5=>by
    obtain⟨ad,x,ae,aj⟩:=Av (p+1) e (by omega) (by simpa using am) c5;exact⟨ad,x,by simpa using ae,aj⟩)
 | @step s o r σ l v l1 t seen es bD l' ok k ak ah _ aR=>
  intro q a7 Av;cases q with
  | zero=>exact aI
  | succ q=>
   have ad:S l1:=by
    cases k with
    | pure m ag hm al _=>rw[al]; exact aI
    | new m cs ag hm al=>rw[al]; exact qe _ _ aI
    | gY am _=>
     obtain⟨ad,x,ae,aj⟩:=Av 0 _ (by omega) rfl rfl;simp only[auN,Option.some.injEq] at ae;subst ae;exact abr ah ad aj
   refine aR ad q (by simpa using a7) (fun p e av am c5=>?_);obtain⟨ad,x,ae,aj⟩:=Av (p+1) e (by omega) (by simpa using am) c5;refine⟨?_,x,by simpa using ae,aj⟩;unfold r6;cases s.cd with
   | false=>exact ad
   | true=>exact awr _ ad
theorem kK.split {ops:Array Oper} {s:List dn} {σ bD:bc} {l l' : ao} {seen:iZ} {es:List (bQ × bc × ao)} (h:kK P G ops s σ l seen es bD l') :∀ (p:Nat) (e:bQ × bc × ao),es[p]? = some e->e.1.uK=false->
  ∃ x o v l1 w9,s[p]? = some x/\pR P ops x o/\nk P G x o e.2.1 e.2.2 v l1 e.1 ∧
   kK P G ops (s.drop (p+1)) (hV e.2.1 x.dst v) l1 (r6 x.cd x.i (l8 P G x.b e.2.1 v e.2.2 l1) w9) (es.drop (p+1)) bD l':=by
 induction h with
 | nil=>intro p e am; simp at am
 | @skip s o r σ l seen es bD l' ok aX _ aR=>
  intro p e am ht;cases p with
  | zero=>simp only[auN,Option.some.injEq] at am; subst am; cases ht
  | succ p=>
   obtain⟨x,dw,v,l1,w9,ad,ae,aj,aG⟩:=aR p e (by simpa using am) ht;exact⟨x,dw,v,l1,w9,by simpa using ad,ae,aj,by simpa using aG⟩
 | @step s o r σ l v l1 t seen es bD l' ok k ak ah tr aR=>
  intro p e am ht;cases p with
  | zero=>
   simp only[auN,Option.some.injEq] at am; subst am;exact⟨s,o,v,l1,seen,rfl,ok,k,by simpa using tr⟩
  | succ p=>
   obtain⟨x,dw,v,l1,w9,ad,ae,aj,aG⟩:=aR p e (by simpa using am) ht;exact⟨x,dw,v,l1,w9,by simpa using ad,ae,aj,by simpa using aG⟩
end

section
variable {P:Program} {G:Nat->U}
theorem W2 {ms:List Nat} {ops:Array Oper}:∀ (ord done ld:List Nat),(∀ i∈ord,i<ops.size)->(oQ P ms ops ord done ld).map (·.1)=ord
 | [],_,_,_=>rfl
 | i::r,done,ld,h=>by
  unfold oQ;have ay:i<ops.size:=h i (by simp);rw[avs ay];simp only;split<;>simp only[auL]<;>rw[W2 r _ _ fun j ai=>h j (by simp[ai])]
theorem Ny {ms:List Nat} {ops:Array Oper}:∀ (ord done ld:List Nat) (p i:Nat) (h1:List Nat),(∀ i∈ord,i<ops.size)->(oQ P ms ops ord done ld)[p]? = some (i,h1)->
  (∃ o,ops[i]? = some o/\kY o.op=true)->∀ j,(j∈done\/∃ kg,kg<p/\ord[kg]? = some j)->(∃ o,ops[j]? = some o/\tq P o.op=true)->(∀ e∈ld,pw ms e j=false)->
  (∀ (cp mw:Nat) (o:Oper),cp<=p->ord[cp]? = some mw->ops[mw]? = some o->kY o.op=true->(cp=p\/o.guard=none)->pw ms mw j=false)->j∈h1
 | [],done,ld,p,i,h1,_,av,_,_,_,_,_,_=>by simp[oQ] at av
 | x::r,done,ld,p,i,h1,kS,av,am,j,ai,aW,G1,wh=>by
  unfold oQ at av;have af:x<ops.size:=kS x (by simp);rw[avs af] at av;have LI:ops[x]? = some ops[x] :=avs af;simp only at av;have az:∀ i∈r,i<ops.size:=fun j ai=>kS j (by simp[ai])
  cases c5:kY ops[x].op with
  | true=>
   rw[c5] at av;simp only at av;cases p with
   | zero=>
    simp only[auN,Option.some.injEq,Prod.mk.injEq] at av;obtain⟨rfl,rfl⟩:=av;obtain⟨o,ad,ae⟩:=aW;rcases ai with ai | ⟨kg,UD,_⟩
    ·refine ave.2 ⟨ai,?_⟩;simp only[ad,ae,avR,axr,aus,ava];exact⟨by simp[wh 0 x ops[x] (aun _) (by simp) LI c5 (.inl rfl)],fun e am=>by simp[G1 e am]⟩
    ·omega
   | succ p=>
    simp only[au5] at av;refine Ny r _ _ p i h1 az av am j ?_ aW ?_ ?_
    ·rcases ai with ai | ⟨kg,UD,ai⟩
     ·exact .inl (by simp[ai])
     ·cases kg with
      | zero=>simp only[auN,Option.some.injEq] at ai; exact .inl (by simp[ai])
      | succ kg=>exact .inr ⟨kg,by omega,by simpa using ai⟩
    ·intro e g2;cases aw:ops[x].guard with
     | none=>
      rw[aw] at g2;rcases avn.1 g2 with rfl | g2
      ·exact wh 0 e ops[e] (by omega) (by simp) LI c5 (.inr aw)
      ·exact G1 e g2
     | some gd=>rw[aw] at g2; exact G1 e g2
    ·intro cp mw o iC gQ au x8 aw;exact wh (cp+1) mw o (by omega) (by simpa using gQ) au x8 (by rcases aw with rfl | aw; exact .inl rfl; exact .inr aw)
  | false=>
   rw[c5] at av;simp only at av;cases p with
   | zero=>
    simp only[auN,Option.some.injEq,Prod.mk.injEq] at av;obtain⟨rfl,rfl⟩:=av;obtain⟨o,ad,ae⟩:=am;rw[LI] at ad; cases ad;rw[c5] at ae; cases ae
   | succ p=>
    simp only[au5] at av;refine Ny r _ _ p i h1 az av am j ?_ aW G1 ?_
    ·rcases ai with ai | ⟨kg,UD,ai⟩
     ·exact .inl (by simp[ai])
     ·cases kg with
      | zero=>simp only[auN,Option.some.injEq] at ai; exact .inl (by simp[ai])
      | succ kg=>exact .inr ⟨kg,by omega,by simpa using ai⟩
    ·intro cp mw o iC gQ au x8 aw;exact wh (cp+1) mw o (by omega) (by simpa using gQ) au x8 (by rcases aw with rfl | aw; exact .inl rfl; exact .inr aw)
theorem Sj {ms:List Nat} {ops:Array Oper}:∀ {ord:List Nat},Cw ms ops ord=true->∀ (p cp i j:Nat) (o:Oper),ord[p]? = some i->ord[cp]? = some j->p<cp->ops[i]? = some o->kY o.op=true->pw ms j i=true
 | [],_,p,cp,i,j,o,av,_,_,_,_=>by simp at av
 | x::r,h,p,cp,i,j,o,av,iC,aL,au,am=>by
  simp only[Cw,aus] at h;cases cp with
  | zero=>omega
  | succ cp=>
   simp only[au5] at iC;cases p with
   | zero=>
    simp only[auN,Option.some.injEq] at av;subst av;rw[au] at h;simp only[am,Bool.not_true,Bool.false_or,ava] at h;exact h.1 j (aut iC)
   | succ p=>exact Sj h.2 p cp i j o (by simpa using av) iC (by omega) au am
theorem H5 {α kj:Type} {f:α->Option kj}:∀ {l:List α} {r:List kj},l.mapM f=some r->∀ (p:Nat) (x:kj),r[p]? = some x->∃ a,l[p]? = some a/\f a=some x
 | [],r,h,p,x,af=>by simp at h; subst h; simp at af
 | a::l,r,h,p,x,af=>by
  rw[avT] at h;simp only[Option.bind_eq_bind,bind_some,av3,Option.some.injEq] at h;obtain⟨b,ad,cB,ae,rfl⟩:=h;cases p with
  | zero=>simp only[auN,Option.some.injEq] at af; subst af; exact⟨a,rfl,ad⟩
  | succ p=>obtain⟨dj,aj,aG⟩:=H5 ae p x (by simpa using af); exact⟨dj,by simpa using aj,aG⟩
theorem M5 {α kj:Type} {f:α->Option kj}:∀ {l:List α} {r:List kj},l.mapM f=some r->r.length=l.length
 | [],r,h=>by simp at h; subst h; rfl
 | a::l,r,h=>by
  rw[avT] at h;simp only[Option.bind_eq_bind,bind_some,av3,Option.some.injEq] at h;obtain⟨b,ad,cB,ae,rfl⟩:=h;simp[M5 ae]
theorem aeN (es:List (bQ × bc × ao)) (l' : ao) (n q:Nat) :us (es.drop n) l' q=us es l' (n+q) :=by
 unfold us; rw[auY]
theorem aca {id N' : Nat} {ops:Array Oper} {xe:List dn} (bf:∀ (i:Nat) (o:Oper),ops[i]? = some o->jZ N' o.dst=true)
  (kS:Nq (i8 ops) ops (fL (i8 ops) ops)=true) (aeM:Cw (i8 ops) ops (fL (i8 ops) ops)=true)
  (b5:(oQ P (i8 ops) ops (fL (i8 ops) ops) [] []).mapM (fun p=>BE P ops p.1 p.2 (((oQ P (i8 ops) ops (fL (i8 ops) ops) [] []).flatMap (·.2)).contains p.1))=some xe)
  {σ bD:bc} {l l' : ao} {es:List (bQ × bc × ao)} (tr:kK P G ops xe σ l [] es bD l') :dG P G (.code (.region id ops true) N' σ (bb l) .normal bD (bb l')) :=by
 simp only[Nq,aus] at kS;obtain⟨⟨⟨⟨hS,gI⟩,oO⟩,ke⟩,uX⟩:=kS;have LW:∀ i∈fL (i8 ops) ops,i<ops.size:=fun i ay=>by
  rw[ava] at ke;simpa [axq] using ke i ay
 have UH:(oQ P (i8 ops) ops (fL (i8 ops) ops) [] []).map (·.1)=fL (i8 ops) ops:=W2 _ _ _ LW;have jk:∀ (p:Nat) (x:dn),xe[p]? = some x->∃ o,pR P ops x o/\(oQ P (i8 ops) ops (fL (i8 ops) ops) [] [])[p]? = some (x.i,x.h1) ∧
   x.cd=((oQ P (i8 ops) ops (fL (i8 ops) ops) [] []).flatMap (·.2)).contains x.i:=fun p x af=>by
  obtain⟨a,ad,ae⟩:=H5 b5 p x af;obtain⟨o,aj,aG,bh,bF⟩:=E8 ae;exact⟨o,aj,by rw[ad,aG,bh],by rw[bF,aG]⟩
 have UT:∀ (p:Nat) (x:dn),xe[p]? = some x->(fL (i8 ops) ops)[p]? = some x.i:=fun p x af=>by
  obtain⟨o,_,ad,_⟩:=jk p x af;rw[<-UH,auq,ad]; rfl
 have wc:∀ (p:Nat) (e:bQ × bc × ao),es[p]? = some e->∃ x,xe[p]? = some x/\x.i=e.1.idx:=fun p e am=>by
  have:=congrArg (·[p]?) tr.idx;simp only[auq,am,auv] at this;cases af:xe[p]? with
  | none=>rw[af] at this; cases this
  | some x=>rw[af] at this; simp only[auv,Option.some.injEq] at this; exact⟨x,rfl,this.symm⟩
 have sR:∀ (p:Nat) (e:bQ × bc × ao),es[p]? = some e->(fL (i8 ops) ops)[p]? = some e.1.idx:=fun p e am=>by
  obtain⟨x,ad,ae⟩:=wc p e am;rw[UT p x ad,ae]
 have fv:∀ (p:Nat) (t:bQ),(es.map (·.1))[p]? = some t->∃ e,es[p]? = some e/\e.1=t:=fun p t aW=>by simpa using aW
 have yi:∀ (p:Nat) (e:bQ × bc × ao),es[p]? = some e->e.1.jP=true->∃ o,ops[e.1.idx]? = some o/\kY o.op=true/\(k7 ops e.2.1 o=some true) :=fun p e am c5=>by
  have ht:e.1.uK=false:=by cases h:e.1<;>rw[h] at c5<;>first | rfl | cases c5
  obtain⟨x,o,v,l1,w9,ad,ae,aj,aG⟩:=tr.split p e am ht;have qn:=(tr.at.1 p e am).1;have ds:=aj.idx;have aS:=ae.here;rw[<-ds] at aS;refine⟨o,aS,?_,?_⟩
  ·revert c5;generalize e.1=t at aj;intro c5;cases aj with
   | pure=>cases c5
   | new=>cases c5
   | gY am _=>exact am
  ·revert qn c5 aS;generalize e.1=t;intro c5 qn aS;cases t<;>first | (cases c5; done) | skip
   obtain⟨dw,bh,bF,_⟩:=qn;simp only[bQ.idx] at aS;rw[aS] at bh; cases bh;exact bF
 have gJ:zB ops (pw (i8 ops)) (es.map (·.1)) :=by
  refine⟨ab8 hS,fun i ay=>?_,fun p cp t gK av iC am=>?_,fun p t av=>?_,fun p cp t gK av iC aL=>?_,fun p cp t gK av iC aL c5=>?_⟩
  ·rw[ava] at uX;have:=uX i (by simpa using ay);have hm:i∈fL (i8 ops) ops:=by simpa using this
   have lS:(es.map (·.1)).map bQ.idx=fL (i8 ops) ops:=by
    rw[av9];show es.map (fun e=>e.1.idx)=_;rw[tr.idx,<-UH];apply avf;intro p;rw[auq,auq];cases af:xe[p]? with
    | none=>
     have:(oQ P (i8 ops) ops (fL (i8 ops) ops) [] [])[p]? = none:=by
      rw[aww] at af ⊢;rw[<-M5 b5]; exact af
     rw[this]; rfl
    | some x=>obtain⟨o,_,ad,_⟩:=jk p x af; rw[ad]; rfl
   rw[<-lS] at hm;obtain⟨t,ad,ae⟩:=auR.1 hm;obtain⟨p,av⟩:=av6 ad;exact⟨p,t,av,ae⟩
  ·obtain⟨e,aK,aU⟩:=fv p t av;obtain⟨fF,CJ,CL⟩:=fv cp gK iC;have a2:=sR p e aK;have a9:=sR cp fF CJ;rw[aU] at a2; rw[CL] at a9;rcases avI p cp with h | h | h
   ·exact absurd am (Im gI p cp _ _ a2 a9 h).1
   ·exact h
   ·exact absurd am.symm (Im gI cp p _ _ a9 a2 h).1
  ·obtain⟨e,aK,aU⟩:=fv p t av;have a2:=sR p e aK;rw[aU] at a2;exact LW _ (aut a2)
  ·obtain⟨e,aK,aU⟩:=fv p t av;obtain⟨fF,CJ,CL⟩:=fv cp gK iC;have a2:=sR p e aK;have a9:=sR cp fF CJ;rw[aU] at a2; rw[CL] at a9;exact (Im gI p cp _ _ a2 a9 aL).2
  ·obtain⟨e,aK,aU⟩:=fv p t av;obtain⟨fF,CJ,CL⟩:=fv cp gK iC;obtain⟨o,c1,dx,_⟩:=yi p e aK (by rw[aU]; exact c5);have a2:=sR p e aK;have a9:=sR cp fF CJ;rw[aU] at a2 c1; rw[CL] at a9;exact Sj aeM p cp _ _ o a2 a9 aL c1 dx
 have mn:∀ q,q<=es.length->(hi ops ⟨σ,bb l⟩ (es.map (·.1)) q).h=bb (us es l' q) :=fun q a7=>by
  unfold us;cases am:es[q]? with
  | none=>
   have:q=es.length:=by rw[aww] at am; omega
   rw[this,tr.at.2]
  | some e=>rw[(tr.at.1 q e am).2]
 have qK:Js P G ops (pw (i8 ops)) ⟨σ,bb l⟩ (es.map (·.1)) :=by
  refine⟨fun p t av=>?_,fun q a7 p t aqJ av cR=>?_⟩
  ·obtain⟨e,aK,aU⟩:=fv p t av;obtain⟨b3,b9⟩:=tr.at.1 p e aK;rw[b9,<-aU]; exact b3
  ·obtain⟨e,aK,aU⟩:=fv p t av;obtain⟨b3,b9⟩:=tr.at.1 p e aK;have ags:q<=es.length:=by
    rcases a7 with rfl | ⟨amI,a7,_⟩
    ·simp
    ·obtain⟨eq,a1,_⟩:=fv q amI a7;exact avY (auk.1 a1).1
   rw[mn q ags,b9];cases ht:e.1.uK with
   | true=>rw[<-aU]; cases h:e.1<;>rw[h] at ht<;>first | trivial | cases ht
   | false=>
    obtain⟨x,o,v,l1,w9,ad,ae,aj,aG⟩:=tr.split p e aK ht;obtain⟨dw,gC,gE,afw⟩:=jk p x ad;have lV:dw=o:=by have a:=gC.here; have b:=ae.here; rw[a] at b; exact Option.some.inj b
    subst lV;have ask:tq P dw.op=true->∀ (cp:Nat) (fF:bQ × bc × ao),cp<q - (p+1)->(es.drop (p+1))[cp]? = some fF->fF.1.jP=true->
      (x.i,l8 P G x.b e.2.1 v e.2.2 l1)∈r6 x.cd x.i (l8 P G x.b e.2.1 v e.2.2 l1) w9/\∃ y,(xe.drop (p+1))[cp]? = some y/\x.i∈y.h1:=by
     intro aW cp fF iC g2 x8;rw[auY] at g2;obtain⟨y,bZ,cc⟩:=wc _ fF g2;obtain⟨tc,eF,hv,_⟩:=jk _ y bZ;obtain⟨ajL,iO,yQ,uN⟩:=yi _ fF g2 x8;have cQ:x.i∈y.h1:=by
      refine Ny _ _ _ _ _ _ LW hv ⟨ajL,by rw[cc]; exact iO,yQ⟩ x.i (.inr ⟨p,by omega,UT p x ad⟩) ⟨dw,ae.here,aW⟩ (fun e am=>by cases am) ?_;intro td ag6 Ie aqF afa UB Gn aw
      -- what is at p'' was carried out
      have aL:td<es.length:=by
       have:=(auk.1 g2).1;omega
      have lS:es[td]? = some es[td] :=auo aL;have kt:=sR _ _ lS;rw[afa] at kt;have uv:ag6=es[td].1.idx:=Option.some.inj kt;have adC:es[td].1.jP=true:=by
       cases wm:es[td].1.uK with
       | true=>
        exfalso;rcases aw with rfl | aw
        ·rw[lS] at g2;cases g2;cases h:es[p+1+cp].1<;>rw[h] at x8 wm<;>first | (cases wm; done) | (cases x8; done)
        ·have qn:=(tr.at.1 _ _ lS).1;cases h:es[td].1<;>rw[h] at wm qn uv<;>first | (cases wm; done) | skip
         obtain⟨oO,eo,ej⟩:=qn;simp only[bQ.idx] at uv;rw[<-uv,UB] at eo; cases eo;simp[k7,aw] at ej
       | false=>
        obtain⟨tv,oO,e8,eY,atJ,eo,ej,qv,_⟩:=tr.split _ _ lS wm;have afc:=qv.idx;have T4:=ej.here;rw[<-afc,<-uv,UB] at T4; cases T4;revert qv;generalize es[td].1=t3;intro qv;cases qv with
        | pure m ag hm _ _=>
         exfalso;have ah:=ej.gH m ag;have:kY Ie.op=false:=by
          revert ah hm;cases Ie.op<;>simp only[ny]<;>intro hm ah<;>first | rfl | (exfalso; revert ah hm; done) | skip
          case store=>rw[map_some] at ah; obtain⟨_,_,rfl⟩:=ah; cases hm
          case call c=>
           split at ah
           ·rename_i b ag;unfold kY;simp only[ag];unfold vO at ah
            repeat' split at ah
            all_goals first
             | rfl
             | (cases ah; done)
             | (cases ah; cases hm; done)
             | (simp only[bind_some,map_some] at ah; obtain⟨_,_,rfl⟩:=ah; cases hm; done)
             | (simp only[bind_some,map_some] at ah; obtain⟨_,_,_,_,rfl⟩:=ah; cases hm; done)
             | (simp only[bind_some,iN] at ah; obtain⟨_,_,_,_,_,_,_,rfl⟩:=ah; cases hm; done)
             | (simp only[bind_some,iN] at ah; obtain⟨_,_,_,_,_,_,_,_,_,rfl⟩:=ah; cases hm; done)
           ·split at ah
            ·rw[iN] at ah; obtain⟨_,rfl⟩:=ah; cases hm
            ·cases ah
           ·cases ah
          case next it b=>(cases b<;>simp only[reduceCtorEq] at ah<;>cases ah<;>cases hm)
          case lookup=>split at ah<;>(try cases ah; done); rw[map_some] at ah; obtain⟨_,_,rfl⟩:=ah; cases hm
          case mapUpdate=>split at ah<;>cases ah; cases hm
          case insert=>split at ah<;>cases ah; cases hm
          case panic=>(cases ah; cases hm)
          case makeMap=>split at ah<;>cases ah; cases hm
          case range=>split at ah<;>cases ah; cases hm
          case typeAssert=>rw[map_some] at ah; obtain⟨_,_,rfl⟩:=ah; cases hm
          all_goals (cases ah)
         rw[this] at Gn; cases Gn
        | new m cs ag hm _=>
         exfalso;have ah:=ej.gH m ag;have:kY Ie.op=false:=by
          revert ah hm;cases Ie.op<;>simp only[ny]<;>intro hm ah<;>first | rfl | (exfalso; revert ah hm; done) | skip
          case store=>rw[map_some] at ah; obtain⟨_,_,rfl⟩:=ah; cases hm
          case panic=>(cases ah; cases hm)
          case call c=>
           split at ah
           ·rename_i b ag;unfold kY;simp only[ag];unfold vO at ah
            repeat' split at ah
            all_goals first
             | rfl
             | (cases ah; done)
             | (cases ah; cases hm; done)
             | (simp only[bind_some,map_some] at ah; obtain⟨_,_,rfl⟩:=ah; cases hm; done)
             | (simp only[bind_some,map_some] at ah; obtain⟨_,_,_,_,rfl⟩:=ah; cases hm; done)
             | (simp only[bind_some,iN] at ah; obtain⟨_,_,_,_,_,_,_,rfl⟩:=ah; cases hm; done)
             | (simp only[bind_some,iN] at ah; obtain⟨_,_,_,_,_,_,_,_,_,rfl⟩:=ah; cases hm; done)
           ·split at ah
            ·rw[iN] at ah; obtain⟨_,rfl⟩:=ah; cases hm
            ·cases ah
           ·cases ah
          case next it b=>(cases b<;>simp only[reduceCtorEq] at ah<;>cases ah<;>cases hm)
          case lookup=>split at ah<;>(try cases ah; done); rw[map_some] at ah; obtain⟨_,_,rfl⟩:=ah; cases hm
          case mapUpdate=>split at ah<;>cases ah; cases hm
          case insert=>split at ah<;>cases ah; cases hm
          case makeMap=>split at ah<;>cases ah; cases hm
          case range=>split at ah<;>cases ah; cases hm
          case typeAssert=>rw[map_some] at ah; obtain⟨_,_,rfl⟩:=ah; cases hm
          all_goals (cases ah)
         rw[this] at Gn; cases Gn
        | gY _ _=>rfl
      have:=cR td es[td].1 (by omega) (by simp[lS]) adC;rw[uv,ae.here |> fun _=>(aj.idx).symm,aU];exact this
     refine⟨?_,y,by rw[auY]; exact bZ,cQ⟩;have:x.cd=true:=by
      rw[afw];simp only[List.contains_iff_mem,List.mem_flatMap];exact⟨(y.i,y.h1),aut hv,cQ⟩
     rw[this];exact aw1
    have Gh:tq P dw.op=true->(∀ l vh,l8 P G x.b e.2.1 v e.2.2 l1 l->l8 P G x.b e.2.1 v e.2.2 l1 (l++vh))->l8 P G x.b e.2.1 v e.2.2 l1 l1->l8 P G x.b e.2.1 v e.2.2 l1 (us es l' q) :=by
     intro aW qe aI;have:=aG.still x.i _ qe aI (q - (p+1)) (by simp only[avh]; omega) (ask aW)
     rwa [aeN,show p+1+(q - (p+1))=q by omega] at this
    rw[<-aU];revert aj Gh ask aU;generalize e.1=t1;intro aU aj ask Gh;cases aj with
    | gY=>trivial
    | pure m ag hm al ak=>
     intro gI oC;rw[ae.here] at oC; cases oC;have ah:=ae.gH m ag;cases az:m.reads with
     | false=>exact H9 ah (aiD hm az ak)
     | true=>
      have aW:tq P dw.op=true:=by
       cases h:tq P dw.op with
       | true=>rfl
       | false=>rw[(R2 ah h).1] at az; cases az
      have yD:m.jo=false:=by cases m<;>first | rfl | cases az
      have b5:∀ bj,l8 P G x.b e.2.1 v e.2.2 l1 bj<->bT P (c3 G e.2.1) bj m=some (v,bj) :=fun bj=>by rw[ag]; simp only[l8,yD]
      have:=Gh aW (fun bj vh h=>by rw[b5] at h ⊢; exact aiC hm h) (by rw[b5,al]; exact ak);rw[b5] at this;exact H9 ah this
    | new m cs ag hm al=>
     have ah:=ae.gH m ag;have aW:tq P dw.op=true:=by
      cases h:tq P dw.op with
      | true=>rfl
      | false=>rw[(R2 ah h).2] at hm; cases hm
     have b5:∀ bj:ao,l8 P G x.b e.2.1 v e.2.2 l1 bj<->bj[e.2.2.length]? = some (.cells cs.length cs) :=fun bj=>by
      rw[ag,al]; simp only[l8,hm]; rw[auJ (aun _)]; simp
     have:=Gh aW (fun bj vh h=>by rw[b5] at h ⊢; rw[aum (b6 h)]; exact h) (by rw[b5,al,auJ (aun _)]; simp);rw[b5] at this;show (bb (us es l' q)).f (bb e.2.2).n=_;rw[kH,Ft,this]
 have:=dG.ab7 (id:=id) gJ bf qK;rw[auw,tr.at.2] at this;exact this
end

section
variable {P:Program} {G:Nat->U}
theorem JG {ops:Array Oper} {f:Nat->Option dn}:∀ {is:List Nat} {s:List dn} {os:List Oper},(∀ i x,f i=some x->∃ o,pR P ops x o/\x.i=i)->is.mapM f=some s->is.map (fun i=>ops[i]?)=os.map some->od P ops s os
 | [],s,os,aE,h,au=>by
  simp at h; subst h;cases os with
  | nil=>exact .nil
  | cons=>simp at au
 | i::is,s,os,aE,h,au=>by
  rw[avT] at h;simp only[Option.bind_eq_bind,bind_some,av3,Option.some.injEq] at h;obtain⟨x,ad,gl,ae,rfl⟩:=h;cases os with
  | nil=>simp at au
  | cons o os=>
   simp only[auL,List.cons.injEq] at au;obtain⟨dw,ok,ay⟩:=aE i x ad;have:dw=o:=by have:=ok.here; rw[ay,au.1] at this; exact (Option.some.inj this).symm
   subst this;exact .cons ok (JG aE ae au.2)
theorem abE {N N' id:Nat} (fe:N<=N') {ops:Array Oper} {draw:Bool} {c:fB} (ah:J6 P N ops draw=some c) {σ:bc} {l:ao} {K:hA} (h:run P G c σ l K) :
  ∃ e bD l',dG P G (.code (.region id ops draw) N' σ (bb l) e bD (bb l'))/\l.length<=l'.length/\K e bD l':=by
 unfold J6 at ah;split at ah
 ·cases ah
 ·rename_i qd;have bf:∀ (i:Nat) (o:Oper),ops[i]? = some o->jZ N' o.dst=true:=fun i o au=>by
   rw[ava] at qd;have:=qd o (by simpa using Array.mem_of_getElem? au);unfold jZ at this ⊢;split at this
   ·rename_i d _; exact decide_eq_true (avU (of_decide_eq_true this) fe)
   ·rfl
  split at ah
  ·rw[map_some] at ah;obtain⟨s,ad,rfl⟩:=ah;have dV:od P ops s ops.toList:=by
    refine JG (fun i x af=>?_) ad ?_
    ·obtain⟨o,ae,aj,_⟩:=E8 af; exact⟨o,ae,aj⟩
    ·apply avf;intro p;rw[auq,auq];by_cases av:p<ops.size
     ·rw[auX av]; simp[av]
     ·rw[auC (by simp; omega),auC (by simp; omega)]; rfl
   obtain⟨bD,l',ae,aj,aG⟩:=E0 bf dV h;exact⟨.normal,bD,l',.region ae,aj,aG⟩
  ·simp only at ah;split at ah
   ·cases ah
   ·rename_i uq;simp only[aus] at uq;split at ah
    ·cases ah
    ·rename_i s ak;have c4:∀ x∈s,∃ o,pR P ops x o:=fun x af=>by
      obtain⟨p,av⟩:=av6 af;obtain⟨a,_,ae⟩:=H5 ak p x av;obtain⟨o,aj,_⟩:=E8 ae;exact⟨o,aj⟩
     have fin:kh P G s σ l [] (K .normal)->∃ e bD l',dG P G (.code (.region id ops true) N' σ (bb l) e bD (bb l'))/\l.length<=l'.length/\K e bD l':=fun h=>by
      obtain⟨es,bD,l',ad,ae⟩:=NT c4 h;exact⟨.normal,bD,l',aca bf uq.1 uq.2 ak ad,ad.len,ae⟩
     split at ah
     ·rename_i Av;cases ah;refine fin (NV (fun x af=>?_) h)
      obtain⟨p,av⟩:=av6 af;obtain⟨a,_,ae⟩:=H5 ak p x av;obtain⟨o,_,_,_,aj⟩:=E8 ae;rw[aj,Av]; rfl
     ·cases ah;exact fin h
theorem X3 {N N' : Nat} (fe:N<=N') :∀ (code:Code) (c:fB),comp P N code=some c->∀ (σ:bc) (l:ao) (K:hA),run P G c σ l K->
  ∃ e bD l',dG P G (.code code N' σ (bb l) e bD (bb l'))/\l.length<=l'.length/\K e bD l':=by
 intro code
 induction code with
 | skip=>intro c ah σ l K h; cases ah; exact⟨_,_,_,.skip _ _ _,aun _,h⟩
 | label n=>intro c ah σ l K h; cases ah; exact⟨_,_,_,.label _ _ _ _,aun _,h⟩
 | ret=>intro c ah σ l K h; cases ah; exact⟨_,_,_,.ret _ _ _,aun _,h⟩
 | exit id=>intro c ah σ l K h; cases ah; exact⟨_,_,_,.exit _ _ _ _,aun _,h⟩
 | region id ops draw=>intro c ah σ l K h; exact abE fe ah h
 | seq a b Mu Mv=>
  intro c ah σ l K h;have mk:∀ (zO lK:fB),comp P N a=some zO->comp P N b=some lK->run P G zO σ l (oL (fun σ l=>run P G lK σ l K) K)->∃ e bD l',dG P G (.code (.seq a b) N' σ (bb l) e bD (bb l'))/\l.length<=l'.length/\K e bD l':=by
   intro zO lK aC ag h;obtain⟨e,ie,l1,ad,ae,aj⟩:=Mu zO aC σ l _ h;cases e with
   | normal=>
    obtain⟨e,zz,bj,aG,bh,bF⟩:=Mv lK ag ie l1 K aj;exact⟨e,zz,bj,.Ye ad aG,au7 ae bh,bF⟩
   | exit id=>exact⟨_,ie,l1,.N6 ad (by intro h; cases h),ae,aj⟩
   | ret=>exact⟨_,ie,l1,.N6 ad (by intro h; cases h),ae,aj⟩
  simp only[comp] at ah;split at ah
  ·rename_i bg aC ag;cases ah;exact mk _ _ aC ag h
  ·rename_i dj _ aC ag;cases ah;refine mk _ _ aC ag ?_;have:oL (fun σ l=>run P G .skip σ l K) K=K:=by
    funext e σ l;cases e<;>rfl
   rw[this]; exact h
  ·rename_i dj bg _ _ aC ag;cases ah;exact mk _ _ aC ag h
  ·cases ah
 | cond c x y My Mz=>
  intro FT ah σ l K h;simp only[comp] at ah;split at ah
  ·rename_i OS Fp af aJ;cases ah;simp only[run,yR] at h;split at h
   ·rename_i b ag;rw[Ej] at h;rcases h with ⟨rfl,h⟩ | ⟨rfl,h⟩
    ·obtain⟨e,ie,l1,ad,ae,aj⟩:=My OS af σ l K h;exact⟨e,ie,l1,.cond ag ad,ae,aj⟩
    ·obtain⟨e,ie,l1,ad,ae,aj⟩:=Mz Fp aJ σ l K h;exact⟨e,ie,l1,.cond ag ad,ae,aj⟩
   ·cases h
  ·cases ah
 | block id c aR=>
  intro FT ah σ l K h;simp only[comp,map_some] at ah;obtain⟨c',ad,rfl⟩:=ah;obtain⟨e,ie,l1,ae,aj,aG⟩:=aR c' ad σ l _ h;cases e with
  | normal=>exact⟨_,ie,l1,.FK ae (by intro h; cases h),aj,aG⟩
  | ret=>exact⟨_,ie,l1,.FK ae (by intro h; cases h),aj,aG⟩
  | exit sX=>
   simp only[rN] at aG;split at aG
   ·rename_i ag;obtain rfl:=k0 ag;exact⟨_,ie,l1,.PZ ae,aj,aG⟩
   ·rename_i ag;exact⟨_,ie,l1,.FK ae (by intro h; cases h; rw[awN] at ag; cases ag),aj,aG⟩
 | loop c aR=>
  intro FT ah σ l K h;simp only[comp,map_some] at ah;obtain⟨c',ad,rfl⟩:=ah;obtain⟨n,h⟩:=h
  induction n generalizing σ l with
  | zero=>cases h
  | succ n Mx=>
   obtain⟨e,ie,l1,ae,aj,aG⟩:=aR c' ad σ l _ h;cases e with
   | normal=>
    obtain⟨e,zz,bj,bh,bF,dz⟩:=Mx ie l1 aG;exact⟨e,zz,bj,.Bb ae bh,au7 aj bF,dz⟩
   | exit id=>exact⟨_,ie,l1,.MZ ae (by intro h; cases h),aj,aG⟩
   | ret=>exact⟨_,ie,l1,.MZ ae (by intro h; cases h),aj,aG⟩
 | scope c aR=>
  intro FT ah σ l K h;obtain⟨e,ie,l1,ae,aj,aG⟩:=aR FT ah σ l K h;exact⟨e,ie,l1,.scope ae,aj,aG⟩
 | _=>intro c ah; cases ah
def J5 (P:Program) :ResultVar->Option da
 | .tmp t=>some (.fR (.tmp t))
 | .cell a t=>ny P (.load t (.tmp a))
def vQ (P:Program) (f:FuncId) :Option (List da) :=match P.funcs[f]? with
 | some fn=>fn.results.toList.mapM (J5 P)
 | none=>none
def oK (P:Program) (G:Nat->U) (K:U->ao->Prop) (σ:bc) (l:ao) :List da->List U->Prop
 | [],acc=>K (xh acc) l
 | m::r,acc=>W (bT P (c3 G σ) l m) (c:=⟨fun x=>oK P G K σ l r (acc++[x.1])⟩)
def Ei (P:Program) (G:Nat->U) (ms:List da) (K:U->ao->Prop) :hA:=fun e σ l=>match e with
 | .exit _=>False
 | .normal=>oK P G K σ l ms []
 | .ret=>oK P G K σ l ms []
def lG (args:List U) :bc:=fun t=>args.getD t gL
theorem Vq {K:U->ao->Prop} {σ:bc} {l:ao}:∀ {n1:List ResultVar} {ms:List da} {acc:List U},n1.mapM (J5 P)=some ms->oK P G K σ l ms acc->∃ vs,w1 P (bb l) σ n1=some vs/\K (xh (acc++vs)) l
 | [],ms,acc,hm,h=>by simp at hm; subst hm; exact⟨[],rfl,by simpa [oK] using h⟩
 | r::n1,ms,acc,hm,h=>by
  rw[avT] at hm;simp only[Option.bind_eq_bind,bind_some,av3,Option.some.injEq] at hm;obtain⟨m,ad,as6,ae,rfl⟩:=hm;simp only[oK,zF] at h;obtain⟨⟨v,l1⟩,aj,aG⟩:=h;obtain⟨vs,bh,bF⟩:=Vq ae aG;refine⟨v::vs,?_,by simpa using bF⟩;have:By P (bb l) σ r=some v:=by
   cases r with
   | tmp t=>cases ad; simp only[bT,Option.some.injEq,Prod.mk.injEq] at aj; rw[<-aj.1]; rfl
   | cell a t=>
    have ef:ny P (.load t (.tmp a))=some m:=ad;have:=H9 ef aj;simp only[c6] at this;unfold By;show s6 P (bb l) t (c3 G σ (.tmp a))=some v;cases al:s6 P (bb l) t (c3 G σ (.tmp a)) with
    | none=>rw[al] at this; cases this
    | some x=>rw[al] at this; simp only[auv,Option.some.injEq,pQ.val.injEq] at this; rw[this.1]
  simp only[w1,this,bh]
theorem FS {f:FuncId} {c:fB} {ms:List da} (ah:vP P f=some c) (az:vQ P f=some ms) {args:List U} {l:ao} {K:tE}
  (h:run P G c (lG args) l (Ei P G ms K.k)) :c0 P G f args l (c:=K) :=by
 unfold vP at ah;unfold vQ at az;split at ah
 ·rename_i fn il;split at ah
  ·rename_i body ag;rw[il] at az;obtain⟨e,bD,l',ad,ae,aj⟩:=X3 (N':=args.length+(fn.ntmps - args.length)) (by omega) body c ah _ _ _ h;have fin:(e=.normal\/e=.ret)->oK P G K.k bD l' ms []->c0 P G f args l (c:=K) :=fun am aj=>by
    obtain⟨vs,aG,bh⟩:=Vq az aj;exact⟨xh vs,l',.inline il ag ad am (by simp only[Bx,aG]; rfl),ae,by simpa using bh⟩
   cases e with
   | normal=>exact fin (.inl rfl) aj
   | ret=>exact fin (.inr rfl) aj
   | exit id=>cases aj
  ·cases ah
 ·cases ah
theorem Yz {b:qR} {σ:bc} {l:ao} {K fb:U->ao->Prop} (aT:∀ v l,K v l->fb v l) (h:iu P G b σ l K) :iu P G b σ l fb:=by
 cases b with
 | gH m=>simp only[iu,zF] at h ⊢; obtain⟨v,ad,ae⟩:=h; exact⟨v,ad,VW aT ae⟩
 | mP f args=>obtain⟨r,l',ad,ae,aj⟩:=h; exact⟨r,l',ad,ae,aT _ _ aj⟩
 | mQ x args=>
  simp only[iu,vH] at h ⊢;split at h
  ·obtain⟨aI,r,l',ad,ae,aj⟩:=h; exact⟨aI,r,l',ad,ae,aT _ _ aj⟩
  ·cases h
 | oj x name args=>
  simp only[iu,vG] at h ⊢;split at h
  ·split at h
   ·obtain⟨aI,r,l',ad,ae,aj⟩:=h; exact⟨aI,r,l',ad,ae,aT _ _ aj⟩
   ·cases h
  ·cases h
theorem Vo {σ:bc} {g:Option (Option Tmp × Bool)} {p q cp eb:Prop} (av:p->cp) (a7:q->eb) (h:qu σ g p q) :qu σ g cp eb:=by
 unfold qu at h ⊢;split at h
 ·exact av h
 ·simp only[rO] at h ⊢;split at h
  ·rw[Ej] at h ⊢;rcases h with ⟨a,b⟩ | ⟨a,b⟩
   ·exact .inl ⟨a,av b⟩
   ·exact .inr ⟨a,a7 b⟩
  ·cases h
  ·exact a7 h
 ·exact a7 h
theorem NW {K fb:bc->ao->Prop} (aT:∀ σ l,K σ l->fb σ l) :∀ {s:List dn} {σ:bc} {l:ao},i9 P G s σ l K->i9 P G s σ l fb
 | [],_,_,h=>aT _ _ h
 | s::r,_,_,h=>Vo (Yz fun _ _ h=>NW aT h) (fun h=>NW aT h) h
theorem NS {K fb:bc->ao->Prop} (aT:∀ σ l,K σ l->fb σ l) :∀ {s:List dn} {σ:bc} {l:ao} {seen:iZ},kh P G s σ l seen K->kh P G s σ l seen fb
 | [],_,_,_,h=>aT _ _ h
 | s::r,_,_,_,h=>Vo (Yz fun _ _ h=>⟨h.1,NS aT h.2⟩) (fun h=>NS aT h) h
theorem Ek {k k' : bc->ao->Prop} {K fb:hA} (ar:∀ σ l,k σ l->k' σ l) (aT:∀ e σ l,K e σ l->fb e σ l) :∀ e σ l,oL k K e σ l->oL k' fb e σ l:=by
 intro e σ l h; cases e<;>first | exact ar _ _ h | exact aT _ _ _ h
theorem N0:∀ {c:fB} {σ:bc} {l:ao} {K fb:hA},(∀ e σ l,K e σ l->fb e σ l)->run P G c σ l K->run P G c σ l fb:=by
 intro c
 induction c with
 | skip=>intro σ l K fb aT h; exact aT _ _ _ h
 | ret=>intro σ l K fb aT h; exact aT _ _ _ h
 | exit id=>intro σ l K fb aT h; exact aT _ _ _ h
 | lz s=>intro σ l K fb aT h; exact NW (aT _) h
 | xW s=>intro σ l K fb aT h; exact NS (aT _) h
 | seq a b Mu Mv=>intro σ l K fb aT h; exact Mu (Ek (fun σ l h=>Mv aT h) aT) h
 | cond c x y My Mz=>
  intro σ l K fb aT h;simp only[run,yR] at h ⊢;split at h
  ·rw[Ej] at h ⊢;rcases h with ⟨a,b⟩ | ⟨a,b⟩
   ·exact .inl ⟨a,My aT b⟩
   ·exact .inr ⟨a,Mz aT b⟩
  ·cases h
 | block id c aR=>
  intro σ l K fb aT h;refine aR (fun e σ l h=>?_) h;cases e with
  | normal=>exact aT _ _ _ h
  | ret=>exact aT _ _ _ h
  | exit sX=>
   simp only[rN] at h ⊢;split at h
   ·exact aT _ _ _ h
   ·exact aT _ _ _ h
 | loop c aR=>
  intro σ l K fb aT h;obtain⟨n,h⟩:=h;refine⟨n,?_⟩
  induction n generalizing σ l with
  | zero=>cases h
  | succ n Mx=>exact aR (Ek (fun σ l h=>Mx h) aT) h
theorem c0.mono {f:FuncId} {args:List U} {l:ao} {K fb:tE} (aT:∀ v l,K.k v l->fb.k v l) (h:c0 P G f args l (c:=K)) :c0 P G f args l (c:=fb) :=by
 obtain⟨r,l',ad,ae,aj⟩:=h; exact⟨r,l',ad,ae,aT _ _ aj⟩
theorem Eu {c:fB} {K:Jm} (I:Nat->bc->ao->Prop) (step:∀ n σ l,I n σ l->run P G c σ l (oL (fun σ l=>∃ hH,hH<n/\I hH σ l) K.k)) :∀ n σ l,I n σ l->Fu (run P G c) σ l (c:=K) :=by
 intro n
 induction n using Nat.strongRecOn with
 | _ n aR=>
  intro σ l h
  -- fuel n+1 is enough
  have CU:∀ (m n:Nat),n<=m->∀ σ l,I n σ l->Bb (run P G c) (m+1) σ l K.k:=by
   intro m
   induction m with
   | zero=>
    intro n aD σ l h;obtain rfl:n=0:=by omega
    exact N0 (Ek (fun σ l ⟨hH,ad,_⟩=>by omega) (fun _ _ _ h=>h)) (step 0 σ l h)
   | succ m Mw=>
    intro n aD σ l h;exact N0 (Ek (fun σ l ⟨hH,ad,ae⟩=>Mw hH (by omega) σ l ae) (fun _ _ _ h=>h)) (step n σ l h)
  exact⟨n+1,CU n n (aun _) σ l h⟩
theorem cl {c:fB} {K:Jm} (n:Nat) (I:Nat->bc->ao->Prop) (step:∀ k σ l,k<=n->I k σ l->run P G c σ l (oL (fun σ l=>k<n/\I (k+1) σ l) K.k)) {σ:bc} {l:ao} (h:I 0 σ l) :Fu (run P G c) σ l (c:=K) :=by
 refine Eu (fun m σ l=>∃ k,k+m=n/\I k σ l) (fun m σ l ⟨k,ar,h⟩=>?_) n σ l ⟨0,by omega,h⟩;exact N0 (Ek (fun σ l ⟨ad,ae⟩=>⟨m - 1,by omega,k+1,by omega,ae⟩) (fun _ _ _ h=>h)) (step k σ l (by omega) h)
end

section
variable {P:Program} {G:Nat->U}
@[simp ↓] theorem atI (σ:bc) (l:ao) (K:hA) :run P G .skip σ l K=K .normal σ l:=id rfl
@[simp ↓] theorem atG (σ:bc) (l:ao) (K:hA) :run P G .ret σ l K=K .ret σ l:=id rfl
@[simp ↓] theorem atD (i:Nat) (σ:bc) (l:ao) (K:hA) :run P G (.exit i) σ l K=K (.exit i) σ l:=id rfl
@[simp ↓] theorem atF (s:List dn) (σ:bc) (l:ao) (K:hA) :run P G (.lz s) σ l K=i9 P G s σ l (K .normal) :=id rfl
@[simp ↓] theorem atC (s:List dn) (σ:bc) (l:ao) (K:hA) :run P G (.xW s) σ l K=kh P G s σ l [] (K .normal) :=id rfl
@[simp ↓] theorem atH (a b:fB) (σ:bc) (l:ao) (K:hA) :run P G (.seq a b) σ l K=run P G a σ l (oL (fun σ l=>run P G b σ l K) K) :=id rfl
@[simp ↓] theorem atB (c:Operand) (x y:fB) (σ:bc) (l:ao) (K:hA) :run P G (.cond c x y) σ l K=yR (c3 G σ c) (c:=⟨run P G x σ l K,run P G y σ l K⟩) :=id rfl
@[simp ↓] theorem atA (i:Nat) (c:fB) (σ:bc) (l:ao) (K:hA) :run P G (.block i c) σ l K=run P G c σ l (rN i K) :=id rfl
@[simp ↓] theorem atE (c:fB) (σ:bc) (l:ao) (K:hA) :run P G (.loop c) σ l K=Fu (run P G c) σ l (c:=⟨K⟩) :=id rfl
@[simp ↓] theorem ars (k:bc->ao->Prop) (K:hA) (σ:bc) (l:ao) :oL k K .normal σ l=k σ l:=id rfl
@[simp ↓] theorem arq (k:bc->ao->Prop) (K:hA) (i:Nat) (σ:bc) (l:ao) :oL k K (.exit i) σ l=K (.exit i) σ l:=id rfl
@[simp ↓] theorem art (k:bc->ao->Prop) (K:hA) (σ:bc) (l:ao) :oL k K .ret σ l=K .ret σ l:=id rfl
@[simp ↓] theorem aq8 (i:Nat) (K:hA) (σ:bc) (l:ao) :rN i K .normal σ l=K .normal σ l:=id rfl
@[simp ↓] theorem aq9 (i:Nat) (K:hA) (σ:bc) (l:ao) :rN i K .ret σ l=K .ret σ l:=id rfl
def wE (p:Prop) [Decidable p] [c:BZ] :Prop:=if p then c.p else c.q
@[simp ↓] theorem aq7 (i j:Nat) (K:hA) (σ:bc) (l:ao) :rN i K (.exit j) σ l=wE (j=i) (c:=⟨K .normal σ l,K (.exit j) σ l⟩) :=by
 unfold rN wE;by_cases h:j=i
 ·simp only[s8 h,if_pos h]
 ·simp only[ka h,if_neg h]
@[simp ↓] theorem arf (i:Nat) (x y:Prop) :wE (i=i) (c:=⟨x,y⟩)=x:=by simp[wE]
@[simp] theorem arh (x y:Prop) :wE True (c:=⟨x,y⟩)=x:=by simp[wE]
@[simp] theorem ard (x y:Prop) :wE False (c:=⟨x,y⟩)=y:=by simp[wE]
@[simp ↓] theorem arb (ms:List da) (K:U->ao->Prop) (σ:bc) (l:ao) :Ei P G ms K .normal σ l=oK P G K σ l ms [] :=id rfl
@[simp ↓] theorem arc (ms:List da) (K:U->ao->Prop) (σ:bc) (l:ao) :Ei P G ms K .ret σ l=oK P G K σ l ms [] :=id rfl
@[simp ↓] theorem arp (K:U->ao->Prop) (σ:bc) (l:ao) (acc:List U) :oK P G K σ l [] acc=K (xh acc) l:=id rfl
@[simp ↓] theorem aro (K:U->ao->Prop) (σ:bc) (l:ao) (m:da) (r:List da) (acc:List U) :oK P G K σ l (m::r) acc=W (bT P (c3 G σ) l m) (c:=⟨fun x=>oK P G K σ l r (acc++[x.1])⟩) :=id rfl
@[simp] theorem atX (v:U) :xh [v]=v:=id rfl
@[simp] theorem atY (v w:U) (r:List U) :xh (v::w::r)=.bt (v::w::r) :=id rfl
@[simp ↓] theorem atz (σ:bc) (l:ao) (K:bc->ao->Prop) :i9 P G [] σ l K=K σ l:=id rfl
@[simp ↓] theorem aty (i:Nat) (dst:Option Tmp) (m:da) (c:List Nat) (k:Bool) (r:List dn) (σ:bc) (l:ao) (K:bc->ao->Prop) :
  i9 P G (⟨i,dst,none,.gH m,c,k⟩::r) σ l K=W (bT P (c3 G σ) l m) (c:=⟨fun x=>eG m x.1 x.2 fun v l'=>i9 P G r (hV σ dst v) l' K⟩) :=id rfl
@[simp ↓] theorem atu (i:Nat) (dst:Option Tmp) (f:FuncId) (args:List Operand) (c:List Nat) (k:Bool) (r:List dn) (σ:bc) (l:ao) (K:bc->ao->Prop) :
  i9 P G (⟨i,dst,none,.mP f args,c,k⟩::r) σ l K=c0 P G f (args.map (c3 G σ)) l (c:=⟨fun v l'=>i9 P G r (hV σ dst v) l' K⟩) :=id rfl
@[simp ↓] theorem atw (i:Nat) (dst:Option Tmp) (x:Operand) (args:List Operand) (c:List Nat) (k:Bool) (r:List dn) (σ:bc) (l:ao) (K:bc->ao->Prop) :
  i9 P G (⟨i,dst,none,.mQ x args,c,k⟩::r) σ l K=vH P G (c3 G σ x) (args.map (c3 G σ)) l (c:=⟨fun v l'=>i9 P G r (hV σ dst v) l' K⟩) :=id rfl
@[simp ↓] theorem atv (i:Nat) (dst:Option Tmp) (x:Operand) (name:String) (args:List Operand) (c:List Nat) (k:Bool) (r:List dn) (σ:bc) (l:ao) (K:bc->ao->Prop) :
  i9 P G (⟨i,dst,none,.oj x name args,c,k⟩::r) σ l K=vG P G name (c3 G σ x) (args.map (c3 G σ)) l (c:=⟨fun v l'=>i9 P G r (hV σ dst v) l' K⟩) :=id rfl
@[simp ↓] theorem aoS (name:String) (t:TypeId) (v:U) (args:List U) (l:ao) (c:tE) :
  vG P G name (.hF t v) args l (c:=c)=(match yZ P t name with | some g=>jH P g=true/\c0 P G g (v::args) l (c:=c) | none=>False) :=id rfl
@[simp ↓] theorem atx (i:Nat) (dst:Option Tmp) (d:Tmp) (w:Bool) (b:qR) (c:List Nat) (k:Bool) (r:List dn) (σ:bc) (l:ao) (K:bc->ao->Prop) :
  i9 P G (⟨i,dst,some (some d,w),b,c,k⟩::r) σ l K=rO (σ d) w (c:=⟨i9 P G (⟨i,dst,none,b,c,k⟩::r) σ l K,i9 P G r (hV σ dst gL) l K⟩) :=id rfl
@[simp ↓] theorem att (σ:bc) (l:ao) (seen:iZ) (K:bc->ao->Prop) :kh P G [] σ l seen K=K σ l:=id rfl
@[simp ↓] theorem ats (i:Nat) (dst:Option Tmp) (m:da) (c:List Nat) (k:Bool) (r:List dn) (σ:bc) (l:ao) (seen:iZ) (K:bc->ao->Prop) :
  kh P G (⟨i,dst,none,.gH m,c,k⟩::r) σ l seen K=W (bT P (c3 G σ) l m) (c:=⟨fun x=>eG m x.1 x.2 fun v l'=>pX c seen l'/\kh P G r (hV σ dst v) l' (r6 k i (l8 P G (.gH m) σ v l l') seen) K⟩) :=id rfl
@[simp ↓] theorem atp (i:Nat) (dst:Option Tmp) (f:FuncId) (args:List Operand) (c:List Nat) (k:Bool) (r:List dn) (σ:bc) (l:ao) (seen:iZ) (K:bc->ao->Prop) :
  kh P G (⟨i,dst,none,.mP f args,c,k⟩::r) σ l seen K=c0 P G f (args.map (c3 G σ)) l (c:=⟨fun v l'=>pX c seen l'/\kh P G r (hV σ dst v) l' (r6 k i (fun _=>True) seen) K⟩) :=id rfl
@[simp ↓] theorem atq (i:Nat) (dst:Option Tmp) (x:Operand) (args:List Operand) (c:List Nat) (k:Bool) (r:List dn) (σ:bc) (l:ao) (seen:iZ) (K:bc->ao->Prop) :
  kh P G (⟨i,dst,none,.mQ x args,c,k⟩::r) σ l seen K=vH P G (c3 G σ x) (args.map (c3 G σ)) l (c:=⟨fun v l'=>pX c seen l'/\kh P G r (hV σ dst v) l' (r6 k i (fun _=>True) seen) K⟩) :=id rfl
@[simp ↓] theorem atr (i:Nat) (dst:Option Tmp) (d:Tmp) (w:Bool) (b:qR) (c:List Nat) (k:Bool) (r:List dn) (σ:bc) (l:ao) (seen:iZ) (K:bc->ao->Prop) :
  kh P G (⟨i,dst,some (some d,w),b,c,k⟩::r) σ l seen K=rO (σ d) w (c:=⟨kh P G (⟨i,dst,none,b,c,k⟩::r) σ l seen K,kh P G r (hV σ dst gL) l seen K⟩) :=id rfl
@[simp] theorem apd (ids:List Nat) (l:ao) :pX ids [] l=True:=id rfl
@[simp] theorem apc (ids:List Nat) (e:Nat × (ao->Prop)) (r:iZ) (l:ao) :pX ids (e::r) l=((ids.contains e.1=true->e.2 l)/\pX ids r l) :=id rfl
@[simp] theorem atL (i:Nat) (p:ao->Prop) (s:iZ) :r6 true i p s=(i,p) ::s:=id rfl
@[simp] theorem atK (i:Nat) (p:ao->Prop) (s:iZ) :r6 false i p s=s:=id rfl
@[simp] theorem atR (m:da) (σ:bc) (v:U) (l l' l1:ao) :l8 P G (.gH m) σ v l l' l1=(match m.jo with | true=>l1[l.length]? = l'[l.length]? | false=>bT P (c3 G σ) l1 m=some (v,l1)) :=id rfl
@[simp ↓] theorem ar3 (x:Operand) (v:U) (l:ao) (K:U->ao->Prop) :eG (.fR x) v l K=K v l:=id rfl
@[simp ↓] theorem ar6 (c a b:Operand) (v:U) (l:ao) (K:U->ao->Prop) :eG (.pick c a b) v l K=K v l:=id rfl
@[simp ↓] theorem aru (z:List U) (v:U) (l:ao) (K:U->ao->Prop) :eG (.alloc z) v l K=K v l:=id rfl
@[simp ↓] theorem arz (x:Operand) (v:U) (l:ao) (K:U->ao->Prop) :eG (.box x) v l K=K v l:=id rfl
@[simp ↓] theorem ary (z:List U) (ps:List (Nat × Nat × Operand)) (v:U) (l:ao) (K:U->ao->Prop) :eG (.Cc z ps) v l K=K v l:=id rfl
@[simp ↓] theorem arA (z:Nat) (zero:List U) (n:Nat) (ps:List (Nat × Operand)) (v:U) (l:ao) (K:U->ao->Prop) :eG (.q6 z zero n ps) v l K=K v l:=id rfl
@[simp ↓] theorem arR (a:Operand) (v:U) (l:ao) (K:U->ao->Prop) :eG (.nR a) v l K=K v l:=id rfl
@[simp ↓] theorem arS (n:Nat) (a:Operand) (v:U) (l:ao) (K:U->ao->Prop) :eG (.l6 n a) v l K=K v l:=id rfl
@[simp ↓] theorem ar9 (n:Nat) (a x:Operand) (v:U) (l:ao) (K:U->ao->Prop) :eG (.st n a x) v l K=K v l:=id rfl
@[simp ↓] theorem ar4 (x:Operand) (v:U) (l:ao) (K:U->ao->Prop) :eG (.EA x) v l K=K v l:=id rfl
@[simp ↓] theorem arx (o:BinOp) (t:TypeId) (x y:Operand) (v:U) (l:ao) (K:U->ao->Prop) :eG (.bin o t x y) v l K=K v l:=id rfl
@[simp ↓] theorem asb (o:UnOp) (x:Operand) (v:U) (l:ao) (K:U->ao->Prop) :eG (.un o x) v l K=K v l:=id rfl
@[simp ↓] theorem arD (k:IntKind) (x:Operand) (v:U) (l:ao) (K:U->ao->Prop) :eG (.zR k x) v l K=K v l:=id rfl
@[simp ↓] theorem arI (x:Operand) (v:U) (l:ao) (K:U->ao->Prop) :eG (.z2 x) v l K=K v l:=id rfl
@[simp ↓] theorem arC (x:Operand) (v:U) (l:ao) (K:U->ao->Prop) :eG (.tT x) v l K=K v l:=id rfl
@[simp ↓] theorem arH (x:Operand) (v:U) (l:ao) (K:U->ao->Prop) :eG (.z1 x) v l K=K v l:=id rfl
@[simp ↓] theorem arZ (t:TypeId) (x:Operand) (v:U) (l:ao) (K:U->ao->Prop) :eG (.y2 t x) v l K=K v l:=id rfl
@[simp ↓] theorem asa (t:TypeId) (z:U) (ok:Bool) (x:Operand) (v:U) (l:ao) (K:U->ao->Prop) :eG (.BF t z ok x) v l K=K v l:=id rfl
@[simp ↓] theorem arY (f:FuncId) (a b:List Operand) (v:U) (l:ao) (K:U->ao->Prop) :eG (.y1 f a b) v l K=K v l:=id rfl
@[simp ↓] theorem ar1 (z b:Nat) (zero:List U) (x y:Operand) (v:U) (l:ao) (K:U->ao->Prop) :eG (.rT z b zero x y) v l K=K v l:=id rfl
@[simp ↓] theorem ar8 (dq:kk) (x:Operand) (cJ ay cK:Option Operand) (v:U) (l:ao) (K:U->ao->Prop) :eG (.slice dq x cJ ay cK) v l K=K v l:=id rfl
@[simp ↓] theorem arK (n:Nat) (x:Operand) (v:U) (l:ao) (K:U->ao->Prop) :eG (.p1 n x) v l K=K v l:=id rfl
@[simp ↓] theorem arL (n:Nat) (x:Operand) (v:U) (l:ao) (K:U->ao->Prop) :eG (.CF n x) v l K=K v l:=id rfl
@[simp ↓] theorem arM (n m:Nat) (x:Operand) (v:U) (l:ao) (K:U->ao->Prop) :eG (.CG n m x) v l K=K v l:=id rfl
@[simp ↓] theorem arN (dq:kk) (x y:Operand) (v:U) (l:ao) (K:U->ao->Prop) :eG (.wx dq x y) v l K=K v l:=id rfl
@[simp ↓] theorem arO (n z:Nat) (x y:Operand) (v:U) (l:ao) (K:U->ao->Prop) :eG (.Ea n z x y) v l K=K v l:=id rfl
@[simp ↓] theorem arP (n z:Nat) (x y:Operand) (v:U) (l:ao) (K:U->ao->Prop) :eG (.Eb n z x y) v l K=K v l:=id rfl
@[simp ↓] theorem arQ (x y:Operand) (v:U) (l:ao) (K:U->ao->Prop) :eG (.Eg x y) v l K=K v l:=id rfl
@[simp ↓] theorem arJ (x:Operand) (n:Nat) (v:U) (l:ao) (K:U->ao->Prop) :eG (.ext x n) v l K=K v l:=id rfl
@[simp ↓] theorem arT (dq:kk) (x:Operand) (v:U) (l:ao) (K:U->ao->Prop) :eG (.len dq x) v l K=K v l:=id rfl
@[simp ↓] theorem arB (dq:kk) (x:Operand) (v:U) (l:ao) (K:U->ao->Prop) :eG (.cap dq x) v l K=K v l:=id rfl
@[simp ↓] theorem arw (z b:Nat) (zero:List U) (x y:Operand) (v:U) (l:ao) (K:U->ao->Prop) :eG (.vx z b zero x y) v l K=K v l:=id rfl
@[simp ↓] theorem arG (z:Nat) (x y:Operand) (v:U) (l:ao) (K:U->ao->Prop) :eG (.vU z x y) v l K=K v l:=id rfl
@[simp ↓] theorem arE (zero:List U) (x:Operand) (v:U) (l:ao) (K:U->ao->Prop) :eG (.vM zero x) v l K=K v l:=id rfl
@[simp ↓] theorem arX (x y:Operand) (v:U) (l:ao) (K:U->ao->Prop) :eG (.min x y) v l K=K v l:=id rfl
@[simp ↓] theorem arW (x y:Operand) (v:U) (l:ao) (K:U->ao->Prop) :eG (.max x y) v l K=K v l:=id rfl
@[simp ↓] theorem arv (z b:Nat) (x y:Operand) (v:U) (l:ao) (K:U->ao->Prop) :eG (.app z b x y) v l K=c7 v l (c:=⟨K⟩) :=id rfl
theorem c7.cd {v:U} {l:ao} {K:U->ao->Prop} (h:K v l) :c7 v l (c:=⟨K⟩) :=.inl h
@[simp] theorem aq1 (a:Operand) :(da.nR a).jo=false:=id rfl
@[simp] theorem aq2 (n:Nat) (a:Operand) :(da.l6 n a).jo=false:=id rfl
@[simp] theorem aqY (k:IntKind) (a:Operand) :(da.zR k a).jo=false:=id rfl
@[simp] theorem aq0 (a:Operand) :(da.z2 a).jo=false:=id rfl
@[simp] theorem aqX (a:Operand) :(da.tT a).jo=false:=id rfl
@[simp] theorem aqZ (a:Operand) :(da.z1 a).jo=false:=id rfl
@[simp] theorem aqU (z:List U) :(da.alloc z).jo=true:=id rfl
@[simp] theorem aqV (a:Operand) :(da.box a).jo=true:=id rfl
@[simp] theorem aqW (z:Nat) (zero:List U) (n:Nat) (ps:List (Nat × Operand)) :(da.q6 z zero n ps).jo=true:=id rfl
@[simp] theorem aq3 (z b:Nat) (zero:List U) (x y:Operand) :(da.rT z b zero x y).jo=true:=id rfl
@[simp] theorem atg (l l' : ao) (x:Option U) (v:U) :(dM l x=some (v,l'))=(x=some v/\l'=l) :=propext gU
@[simp ↓] theorem aof {α:Type} (x:α) (k:α->Prop) :W (some x) (c:=⟨k⟩)=k x:=id rfl
@[simp ↓] theorem aoe (l:ao) (o:Option U) (k:U × ao->Prop) :W (dM l o) (c:=⟨k⟩)=W o (c:=⟨fun v=>k (v,l)⟩) :=by unfold W dM; cases o<;>rfl
@[simp ↓] theorem aod {α kj:Type} (o:Option α) (f:α->kj) (k:kj->Prop) :W (o.map f) (c:=⟨k⟩)=W o (c:=⟨fun v=>k (f v)⟩) :=by unfold W; cases o<;>rfl
@[simp ↓] theorem aoc {α:Type} (p:Prop) [Decidable p] (x:α) (k:α->Prop) :W (if p then some x else none) (c:=⟨k⟩)=(p/\k x) :=by unfold W; by_cases h:p<;>simp[h]
@[simp ↓] theorem ara (b:Bool) (p q:Prop) :yR (.bool b) (c:=⟨p,q⟩)=rP b (c:=⟨p,q⟩) :=id rfl
@[simp ↓] theorem arn (p q:Prop) :rP true (c:=⟨p,q⟩)=p:=id rfl
@[simp ↓] theorem arm (p q:Prop) :rP false (c:=⟨p,q⟩)=q:=id rfl
@[simp ↓] theorem arj (b:Bool) (p q:Prop) :rO (.bool b) true (c:=⟨p,q⟩)=rP b (c:=⟨p,q⟩) :=by cases b<;>rfl
@[simp ↓] theorem ari (b:Bool) (p q:Prop) :rO (.bool b) false (c:=⟨p,q⟩)=rP b (c:=⟨q,p⟩) :=by cases b<;>rfl
@[simp ↓] theorem ark (w:Bool) (p q:Prop) :rO gL w (c:=⟨p,q⟩)=q:=id rfl
@[simp ↓] theorem arl (w:Bool) (p q:Prop) :rO (.bt []) w (c:=⟨p,q⟩)=q:=id rfl
theorem pm {b:Bool} {p q:Prop} (ad:b=true->p) (ae:b=false->q) :rP b (c:=⟨p,q⟩) :=by cases b; exact ae rfl; exact ad rfl
@[simp ↓] theorem ati (σ:bc) (d:Tmp) (v:U) :hV σ (some d) v=bB σ d v:=id rfl
@[simp ↓] theorem ath (σ:bc) (v:U) :hV σ none v=σ:=id rfl
@[simp] theorem apQ {α:Type} (s:Nat->α) (d:Nat) (v:α) (t:Nat) :bB s d v t=if t=d then v else s t:=id rfl
@[simp] theorem aog (args:List U) (t:Nat) :lG args t=args.getD t gL:=id rfl
@[simp] theorem apG (σ:bc) (t:Tmp) :c3 G σ (.tmp t)=σ t:=id rfl
@[simp] theorem apx (σ:bc) (f:FuncId) :c3 G σ (.func f)=.fn f [] [] :=id rfl
@[simp] theorem apy (σ:bc) (g:Nat) :c3 G σ (.global g)=G g:=id rfl
@[simp] theorem apz (σ:bc) (k:IntKind) (n:Int) :c3 G σ (.const (.int k n))=.int k n:=id rfl
@[simp] theorem apw (σ:bc) (b:Bool) :c3 G σ (.const (.bool b))=.bool b:=id rfl
@[simp] theorem apF (σ:bc) (s:ByteArray) :c3 G σ (.const (.string s))=.str s.data.toList:=id rfl
@[simp] theorem apE (σ:bc) :c3 G σ (.const (.slice none 0 0))=.aH:=id rfl
@[simp] theorem apD (σ:bc) :c3 G σ (.const (.pointer none))=.kC:=id rfl
@[simp] theorem apC (σ:bc) :c3 G σ (.const (.map none))=.iQ:=id rfl
@[simp] theorem apA (σ:bc) :c3 G σ (.const .nilFunc)=.kA:=id rfl
@[simp] theorem apB (σ:bc) :c3 G σ (.const .nilIface)=.kB:=id rfl
@[simp] theorem apH (σ:bc) :c3 G σ (.const (.tuple #[]))=.bt [] :=id rfl
variable (aA:Operand->U) (l:ao)
@[simp ↓] theorem asW (x:Operand) :bT P aA l (.fR x)=some (aA x,l) :=id rfl
@[simp ↓] theorem asZ (c a b:Operand) :bT P aA l (.pick c a b)=dM l (EM (aA c) (aA a) (aA b)) :=id rfl
@[simp ↓] theorem asn (z:List U) :bT P aA l (.alloc z)=some (.ptr l.length 0 z.length,l++[.cells z.length z]) :=id rfl
@[simp ↓] theorem ass (x:Operand) :bT P aA l (.box x)=(aA x).cells.map fun cs=>(.ptr l.length 0 cs.length,l++[.cells cs.length cs]) :=id rfl
@[simp ↓] theorem asr (zero:List U) (ps:List (Nat × Nat × Operand)) :bT P aA l (.Cc zero ps)=dM l ((pU zero (ps.map fun p=>(p.1,p.2.1,aA p.2.2))).map .aF) :=id rfl
@[simp ↓] theorem ast (z:Nat) (zero:List U) (len:Nat) (ps:List (Nat × Operand)) :bT P aA l (.q6 z zero len ps)=(h4 (fun i=>some (i*z,z)) (dC zero len) (ps.map fun p=>(p.1,aA p.2))).map fun cs=>(.aq z l.length 0 len len (len*z),l++[.cells (len*z) cs]) :=id rfl
@[simp ↓] theorem asK (a:Operand) :bT P aA l (.nR a)=dM l ((hg l (aA a)).bind fun x=>x.1[x.2]?) :=id rfl
@[simp ↓] theorem asL (n:Nat) (a:Operand) :bT P aA l (.l6 n a)=dM l ((hg l (aA a)).bind fun x=>te n x.1 x.2) :=id rfl
@[simp ↓] theorem as2 (n:Nat) (a x:Operand) :bT P aA l (.st n a x)=(l9 n l (aA a) (aA x)).map fun l'=>(gL,l') :=id rfl
@[simp ↓] theorem asX (x:Operand) :bT P aA l (.EA x)=dM l (y4 (aA x)) :=id rfl
@[simp ↓] theorem asq (o:BinOp) (t:TypeId) (x y:Operand) :bT P aA l (.bin o t x y)=dM l (gN P o t (aA x) (aA y)) :=id rfl
@[simp ↓] theorem as4 (o:UnOp) (x:Operand) :bT P aA l (.un o x)=dM l (qM o (aA x)) :=id rfl
@[simp ↓] theorem asw (k:IntKind) (x:Operand) :bT P aA l (.zR k x)=dM l (zS k (aA x)) :=id rfl
@[simp ↓] theorem asB (x:Operand) :bT P aA l (.z2 x)=dM l (F1 (aA x)) :=id rfl
@[simp ↓] theorem asv (x:Operand) :bT P aA l (.tT x)=dM l (vI l (aA x)) :=id rfl
@[simp ↓] theorem asA (x:Operand) :bT P aA l (.z1 x)=dM l (vV (aA x)) :=id rfl
@[simp ↓] theorem asS (t:TypeId) (x:Operand) :bT P aA l (.y2 t x)=some (.hF t (aA x),l) :=id rfl
@[simp ↓] theorem as3 (t:TypeId) (z:U) (ok:Bool) (x:Operand) :bT P aA l (.BF t z ok x)=dM l (BG t z ok (aA x)) :=id rfl
@[simp ↓] theorem asR (f:FuncId) (a b:List Operand) :bT P aA l (.y1 f a b)=some (.fn f (a.map aA) (b.map aA),l) :=id rfl
@[simp ↓] theorem asU (z by_:Nat) (zero:List U) (a c:Operand) :bT P aA l (.rT z by_ zero a c)=rU z by_ zero l (aA a) (aA c) :=id rfl
@[simp ↓] theorem as1 (dq:kk) (x:Operand) (cJ ay cK:Option Operand) :bT P aA l (.slice dq x cJ ay cK)=dM l (fl dq (aA x) (cJ.map aA) (ay.map aA) (cK.map aA)) :=id rfl
@[simp ↓] theorem asD (off:Nat) (x:Operand) :bT P aA l (.p1 off x)=dM l (nx (aA x) off) :=id rfl
@[simp ↓] theorem asE (off:Nat) (x:Operand) :bT P aA l (.CF off x)=dM l (CH off (aA x)) :=id rfl
@[simp ↓] theorem asF (n off:Nat) (x:Operand) :bT P aA l (.CG n off x)=dM l (Ab n off (aA x)) :=id rfl
@[simp ↓] theorem asG (dq:kk) (x i:Operand) :bT P aA l (.wx dq x i)=dM l (cL dq (aA x) (aA i)) :=id rfl
@[simp ↓] theorem asH (n z:Nat) (x i:Operand) :bT P aA l (.Ea n z x i)=dM l (Ec n z (aA x) (aA i)) :=id rfl
@[simp ↓] theorem asI (n z:Nat) (x i:Operand) :bT P aA l (.Eb n z x i)=dM l (Ed n z (aA x) (aA i)) :=id rfl
@[simp ↓] theorem asJ (x i:Operand) :bT P aA l (.Eg x i)=dM l (yP (aA x) (aA i)) :=id rfl
@[simp ↓] theorem asC (x:Operand) (i:Nat) :bT P aA l (.ext x i)=dM l (CD (aA x) i) :=id rfl
@[simp ↓] theorem asM (dq:kk) (x:Operand) :bT P aA l (.len dq x)=dM l (ce dq (aA x)) :=id rfl
@[simp ↓] theorem asu (dq:kk) (x:Operand) :bT P aA l (.cap dq x)=dM l (tS dq (aA x)) :=id rfl
@[simp ↓] theorem aso (z by_:Nat) (s x:Operand) :bT P aA l (.app z by_ s x)=gX l z by_ (aA s) (aA x) :=id rfl
@[simp ↓] theorem asp (z by_:Nat) (zero:List U) (s x:Operand) :bT P aA l (.vx z by_ zero s x)=q4 l z by_ zero (aA s) (aA x) :=id rfl
@[simp ↓] theorem asz (z:Nat) (d x:Operand) :bT P aA l (.vU z d x)=z0 z l (aA d) (aA x) :=id rfl
@[simp ↓] theorem asx (zero:List U) (x:Operand) :bT P aA l (.vM zero x)=(ss zero l (aA x)).map fun l'=>(.bt [],l') :=id rfl
@[simp ↓] theorem asQ (x y:Operand) :bT P aA l (.min x y)=dM l (wL (aA x) (aA y)) :=id rfl
@[simp ↓] theorem asP (x y:Operand) :bT P aA l (.max x y)=dM l (uT (aA x) (aA y)) :=id rfl
@[simp] theorem ate (t:Bool) (a b:U) :EM (.bool t) a b=some (if t=true then a else b) :=id rfl
@[simp] theorem aoY (cs:List U) :(U.aF cs).cells=some cs:=id rfl
@[simp] theorem ao2 (k:IntKind) (n:Int) :(U.int k n).cells=some [.int k n] :=id rfl
@[simp] theorem aoZ (b:Bool) :(U.bool b).cells=some [.bool b] :=id rfl
@[simp] theorem apb (s:List UInt8) :(U.str s).cells=some [.str s] :=id rfl
@[simp] theorem ao7:U.aH.cells=some [.aH] :=id rfl
@[simp] theorem ao6:U.kC.cells=some [.kC] :=id rfl
@[simp] theorem ao4:U.kA.cells=some [.kA] :=id rfl
@[simp] theorem ao5:U.iQ.cells=some [.iQ] :=id rfl
@[simp] theorem ao9 (z:Nat) (es:List (List U)) :(U.aZ z es).cells=some [.aZ z es] :=id rfl
@[simp] theorem apa (z b o n c s:Nat) :(U.aq z b o n c s).cells=some [.aq z b o n c s] :=id rfl
@[simp] theorem ao8 (b o s:Nat) :(U.ptr b o s).cells=some [.ptr b o s] :=id rfl
@[simp] theorem ao1 (f:FuncId) (a b:List U) :(U.fn f a b).cells=some [.fn f a b] :=id rfl
@[simp] theorem ao3 (b:Nat) :(U.mp b).cells=some [.mp b] :=id rfl
@[simp] theorem aoW (b off sz k:Nat) :nx (.ptr b off sz) k=some (.ptr b (off+k) sz) :=id rfl
@[simp] theorem aoX (cs:List U) (off k:Nat) :nx (.bM cs off) k=some (.bM cs (off+k)) :=id rfl
@[simp] theorem as8 (b o s:Nat) :y4 (.ptr b o s)=some (.ptr b o s) :=id rfl
@[simp] theorem as9 (cs:List U) (o:Nat) :y4 (.bM cs o)=some (.bM cs o) :=id rfl
@[simp] theorem as7 (f:FuncId) (a b:List U) :y4 (.fn f a b)=some (.fn f a b) :=id rfl
def NI (x:Option aV) (off sz:Nat) :Option (List U × Nat) :=match x with
 | some (.cells n cs)=>if n=sz then some (cs,off) else none
 | _=>none
@[simp] theorem atk (b off sz:Nat) :hg l (.ptr b off sz)=NI l[b]? off sz:=by
 unfold hg NI; rfl
@[simp] theorem atj (n:Nat) (cs:List U) (off sz:Nat) :NI (some (.cells n cs)) off sz=if n=sz then some (cs,off) else none:=id rfl
@[simp] theorem atl (cs:List U) (off:Nat) :hg l (.bM cs off)=some (cs,off) :=id rfl
def Om (n:Nat) (l:ao) (b off sz:Nat) (vs:List U) (x:Option aV) :Option ao:=match x with
 | some (.cells m cs)=>if m=sz/\vs.length=n/\off+n<=m then some (l.set b (.cells m (a8 cs off vs))) else none
 | _=>none
@[simp] theorem atT (n b off sz:Nat) (v:U) :l9 n l (.ptr b off sz) v=v.cells.bind fun vs=>Om n l b off sz vs l[b]?:=by
 unfold l9 Om;cases v.cells<;>rfl
@[simp] theorem atS (n b off sz:Nat) (vs:List U) (m:Nat) (cs:List U) :Om n l b off sz vs (some (.cells m cs))=if m=sz/\vs.length=n/\off+n<=m then some (l.set b (.cells m (a8 cs off vs))) else none:=id rfl
@[simp] theorem atd (n:Nat) (cs:List U) (off:Nat) :te n cs off=if off+n<=cs.length then some (.aF ((cs.drop off).take n)) else none:=id rfl
@[simp] theorem atQ (a:U) (cs vs:List U) (off:Nat) :a8 (a::cs) (off+1) vs=a::a8 cs off vs:=by
 simp only[a8,List.take_succ_cons,avj,show off+1+vs.length=(off+vs.length)+1 by omega,List.drop_succ_cons]
@[simp] theorem amb (a v:U) (cs vs:List U) :a8 (a::cs) 0 (v::vs)=v::a8 cs 0 vs:=by simp[a8]
@[simp] theorem amd (cs:List U) :a8 cs 0 []=cs:=by simp[a8]
@[simp] theorem atP (vs:List U) :a8 [] 0 vs=vs:=by simp[a8]
@[simp] theorem aox (zero:List U) :pU zero []=some zero:=id rfl
theorem aaO (zero:List U) (off size:Nat) (v:U) (r:List (Nat × Nat × U)) :pU zero ((off,size,v) ::r)=v.cells.bind fun vs=>if vs.length=size/\off+size<=zero.length then pU (a8 zero off vs) r else none:=by
 rw[pU]; cases v.cells<;>rfl
attribute [simp] aaO
@[simp] theorem apK (ly:Nat->Option (Nat × Nat)) (zero:List U) :h4 ly zero []=some zero:=id rfl
@[simp] theorem apJ (ly:Nat->Option (Nat × Nat)) (zero:List U) (i:Nat) (v:U) (r:List (Nat × U)) :h4 ly zero ((i,v) ::r)=(ly i).bind fun q=>v.cells.bind fun vs=>if vs.length=q.2/\q.1+q.2<=zero.length then h4 ly (a8 zero q.1 vs) r else none:=by
 rw[h4];cases ly i with
 | none=>rfl
 | some q=>cases v.cells<;>rfl
@[simp] theorem atn (zero:List U) :dC zero 0=[] :=id rfl
@[simp] theorem ato (zero:List U) (n:Nat) :dC zero (n+1)=zero++dC zero n:=id rfl
@[simp] theorem aoq (o:BinOp) (t:TypeId) (k:IntKind) (a:Int) (k' : IntKind) (b:Int) :gN P o t (.int k a) (.int k' b)=ct o k a k' b:=id rfl
@[simp] theorem aov (o:BinOp) (t:TypeId) (a b:List UInt8) :gN P o t (.str a) (.str b)=vB o a b:=id rfl
@[simp] theorem aos (k:IntKind) (a b:Int) :ct .lss k a k b=some (.bool (decide (a<b))) :=by simp[ct]
@[simp] theorem aor (k:IntKind) (a b:Int) :ct .leq k a k b=some (.bool (decide (a<=b))) :=by simp[ct]
@[simp] theorem aop (k:IntKind) (a b:Int) :ct .gtr k a k b=some (.bool (decide (b<a))) :=by simp[ct]
@[simp] theorem aoo (k:IntKind) (a b:Int) :ct .geq k a k b=some (.bool (decide (b<=a))) :=by simp[ct]
@[simp] theorem aon (k:IntKind) (a b:Int) :ct .eql k a k b=some (.bool (decide (a=b))) :=by
 have:(a == b)=decide (a=b) :=by by_cases h:a=b<;>simp[h]
 simp[ct,this]
@[simp] theorem aou (k:IntKind) (a b:Int) :ct .neq k a k b=some (.bool (!decide (a=b))) :=by
 have:(a != b)=!decide (a=b) :=by by_cases h:a=b<;>simp[h]
 simp[ct,this]
@[simp] theorem aom (k:IntKind) (a b:Int) :ct .add k a k b=some (.int k (k.wrap (a+b))) :=by simp[ct]
@[simp] theorem aow (k:IntKind) (a b:Int) :ct .sub k a k b=some (.int k (k.wrap (a - b))) :=by simp[ct]
@[simp] theorem aot (k:IntKind) (a b:Int) :ct .mul k a k b=some (.int k (k.wrap (a*b))) :=by simp[ct]
@[simp] theorem at7 (b:Bool) :qM .not (.bool b)=some (.bool (!b)) :=id rfl
@[simp] theorem at6 (k:IntKind) (n:Int) :qM .neg (.int k n)=some (.int k (k.wrap (0 - n))) :=id rfl
@[simp] theorem ape (k k' : IntKind) (n:Int) :zS k (.int k' n)=some (.int k (k.wrap n)) :=id rfl
@[simp] theorem aqQ (z dF:Nat) (es:List (List U)) (k:IntKind) (i:Int) :cL (.aq z) (.aZ dF es) (.int k i)=if z=dF/\0<=i then (es[i.toNat]?).map fun cs=>.bM cs 0 else none:=id rfl
@[simp] theorem aqR (z dF b off len cap sz:Nat) (k:IntKind) (i:Int) :cL (.aq z) (.aq dF b off len cap sz) (.int k i)=if z=dF/\0<=i/\i<len then some (.ptr b (off+i.toNat*z) sz) else none:=id rfl
@[simp] theorem aqP (n z:Nat) (x:U) (k:IntKind) (i:Int) :cL (.arr n z) x (.int k i)=if 0<=i/\i<n then nx x (i.toNat*z) else none:=id rfl
@[simp] theorem asg (z:Nat) :ce (.aq z) .aH=some (.int .i64 0) :=id rfl
@[simp] theorem asi (z dF b o n c s:Nat) :ce (.aq z) (.aq dF b o n c s)=some (.int .i64 n) :=id rfl
@[simp] theorem ash (z dF:Nat) (es:List (List U)) :ce (.aq z) (.aZ dF es)=some (.int .i64 es.length) :=id rfl
@[simp] theorem asj (s:List UInt8) :ce .str (.str s)=some (.int .i64 s.length) :=id rfl
@[simp] theorem asf (n z:Nat) (x:U) :ce (.arr n z) x=some (.int .i64 n) :=id rfl
@[simp] theorem apI (vs:List U) (i:Nat) :CD (.bt vs) i=vs[i]?:=id rfl
@[simp] theorem apL (cs:List U) (off:Nat) :CH off (.aF cs)=cs[off]?:=id rfl
@[simp] theorem apM (n off:Nat) (cs:List U) :Ab n off (.aF cs)=te n cs off:=id rfl
end

section
variable {P:Program} {G:Nat->U}
inductive jz (l:ao) :U->U->Prop
 | same (c:U) (h:c.closed=true) :jz l c c
 | aF (cs cs' : List U) (al:cs'.length=cs.length) (h:∀ (j:Nat) (c c' : U),cs[j]? = some c->cs'[j]? = some c'->jz l c c') :jz l (.aF cs) (.aF cs')
 | bt (cs cs' : List U) (al:cs'.length=cs.length) (h:∀ (j:Nat) (c c' : U),cs[j]? = some c->cs'[j]? = some c'->jz l c c') :jz l (.bt cs) (.bt cs')
 | aq (z b off len cap sz:Nat) (cs:List U) (es:List (List U)) (ag:l[b]? = some (.cells sz cs)) (al:es.length=len) (ax:∀ e∈es,e.length=z)
   (cQ:off+len*z<=cs.length)
   (h:∀ (i j:Nat) (e:List U) (c c' : U),es[i]? = some e->e[j]? = some c'->cs[off+(i*z+j)]? = some c->jz l c c') :jz l (.aq z b off len cap sz) (.aZ z es)
 | r8 (z b off cap sz:Nat) :jz l (.aq z b off 0 cap sz) (.aZ z [])
theorem ald {w:World} {R:Nat->Prop} {B:Nat} {l:ao} {μ:ck} (rel:bN R B w (bb l) μ) :∀ {c c' : U},jz l c c'->∀ {v:Value},aO w R (bb l) μ c v->ed w R c' v:=by
 intro c c' az
 induction az with
 | same c h=>
  intro v ap;exact (ed.up (sv ap h) fun k _ ar=>⟨ar.1,fun ⟨b,m,ad,ae,aj⟩=>by cases ae⟩:aO w R aN.empty (fun _=>none) _ v)
 | aF cs cs' al h aR=>
  intro v ap;cases ap with
  | aF _ vs hR ad ap=>
   refine .aF cs' vs (by omega) ad (fun j c' v ai ga=>?_);have aL:j<cs.length:=by rw[<-al]; exact (auk.1 ai).1
   exact aR j cs[j] c' (auo aL) ai (ap j cs[j] v (auo aL) ga)
 | bt cs cs' al h aR=>
  intro v ap;cases ap with
  | bt _ vs hR ap=>
   refine .bt cs' vs (by omega) (fun j c' v ai ga=>?_);have aL:j<cs.length:=by rw[<-al]; exact (auk.1 ai).1
   exact aR j cs[j] c' (auo aL) ai (ap j cs[j] v (auo aL) ga)
 | r8 z b off cap sz=>
  intro v ap;cases ap with
  | aq _ _ _ _ _ _ cap' cs m ag hm al au ah=>exact .gk z _ cap'
  | hI _ _ _ _ _ _ cap' a al ah aw=>exact .gk z _ cap'
  | iV _ _ _ _ a cs m ag hm=>exact .gk z a 0
 | aq z b off len cap sz cs es ag al ax cQ h aR=>
  intro v ap;have rj:(bb l).f b=.cells sz cs:=lD.2 ag;cases ap with
  | iV _ _ _ _ a hO m dW ku=>
   obtain rfl:=au4.1 al;exact .gk z a 0
  | hI _ _ _ _ _ _ cap' a al ah aw=>
   exfalso;rcases aw with aw | ⟨n,hO,aw,aL⟩
   ·rw[rj] at aw; cases aw
   ·rw[rj] at aw; cases aw; omega
  | aq _ _ _ _ _ _ cap' hO m dW hm i7 au ah=>
   rw[rj] at dW; cases dW;have iI:=rel.blk b m hm;rw[rj] at iI;obtain⟨cW,dI,arr,t,fa,aX,aC,aE,m0⟩:=iI;have dg:len<=cap':=by rcases ah with ⟨_,h⟩ | ⟨_,h,_⟩<;>omega
   have j0:R m.r:=rel.up _ (rel.base b m (by rw[rj]; rfl) hm);subst al;have rl:∀ i j,i<es.length->j<z->∃ c v,cs[off+(i*z+j)]? = some c/\arr[m.s+(off+(i*z+j))]? = some v/\v.oneCell'=true/\aO w R (bb l) μ c v:=by
    intro i j ay ai;have aL:off+(i*z+j)<cs.length:=by
     have:i*z+z<=es.length*z:=by rw[<-au2]; exact aup _ ay
     omega
    obtain⟨v,ad,ae,aj⟩:=m0 _ _ (auo aL);exact⟨_,v,auo aL,ad,ae,aj⟩
   refine .aZ z es m.r (m.s+off) cap' (fun i j=>(arr[m.s+(off+(i*z+j))]?).getD undef) dg ax (fun i j ay ai=>?_) (fun i e am j c' ai=>?_)
   ·obtain⟨c,v,ad,ae,aj,aG⟩:=rl i j ay ai;refine⟨?_,?_,j0,fun ⟨b,m,ad,ae,aj⟩=>by cases ae⟩
    ·simp only[World.cell?,aX,ae,au6,awz];rw[show m.s+off+(i*z+j)=m.s+(off+(i*z+j)) by omega,ae]; rfl
    ·rw[ae]; exact aj
   ·have ay:i<es.length:=(auk.1 am).1;have m3:j<z:=by rw[<-ax e (aut am)]; exact (auk.1 ai).1
    obtain⟨c,v,ad,ae,aj,aG⟩:=rl i j ay m3;simp only[ae,au6];exact aR i j e c c' am ai ad aG
theorem bX (fH:P.follows .mixedOrders=true) (ij:∀ g,(G g).closed=true) {f:FuncId} {args:List U} {r:U} (h:c0 P G f args [] (c:=⟨fun qC l=>jz l qC r⟩)) :bz P G f args r:=by
 obtain⟨qC,l',ad,ae,aj⟩:=h;intro w A vs aw al ap;refine (OB (A:=A) fH ij ad aw al ap).mono ?_;rintro e w' ⟨v,μ',rfl,ag,rel,az⟩;exact⟨v,rfl,ag,ald rel aj az⟩
theorem a4 {f:FuncId} {args:List U} {r:U} {l:ao} {K:U->ao->Prop} (av:bz P G f args r) (ah:a5 args=true) (h:K r l) :c0 P G f args l (c:=⟨K⟩) :=
 ⟨r,l,.pure av ah,aun _,h⟩
theorem air (fH:P.follows .mixedOrders=true) (ij:∀ g,(G g).closed=true) {f:FuncId} {args:List U} (h:c0 P G f args [] (c:=⟨fun r _=>r=.bool true⟩))
  {w:World} {A:Nat->Prop} {vs:Array Value} (aw:∀ g,ed w A (G g) (.pointer (some ⟨g,0,none⟩))) (al:vs.size=args.length)
  (ap:∀ (j:Nat) (c:U) (v:Value),args[j]? = some c->vs[j]? = some v->ed w A c v) :
  Calls P f vs w fun e w'=>e=.returned (.bool true)/\RowKit.Below w.heap.size w w':=by
 obtain⟨qC,l',ad,ae,rfl⟩:=h;exact amH fH ij ad aw al ap
end

section
variable {P:Program}
inductive dR (P:Program) :List TypeId->List U->Prop
 | nil:dR P [] []
 | bool {t:TypeId} {b:Bool} {ts:List TypeId} {cs:List U} (aM:P.underlying t=some .bool) (h:dR P ts cs) :dR P (t::ts) (.bool b::cs)
 | int {t:TypeId} {k:IntKind} {n:Int} {ts:List TypeId} {cs:List U} (aM:P.underlying t=some (.int k)) (ad:k.min<=n) (ae:n<=k.max) (h:dR P ts cs) :dR P (t::ts) (.int k n::cs)
 | str {t:TypeId} {s:List UInt8} {ts:List TypeId} {cs:List U} (aM:P.underlying t=some .string) (ak:s.length<=maxLen) (h:dR P ts cs) :dR P (t::ts) (.str s::cs)
 | aH {t e:TypeId} {ts:List TypeId} {cs:List U} (aM:P.underlying t=some (.slice e)) (h:dR P ts cs) :dR P (t::ts) (.aH::cs)
 | aq {t e:TypeId} {es:List (List U)} {ts:List TypeId} {cs:List U} (aM:P.underlying t=some (.slice e)) (al:es.length<=maxLen) (ax:∀ r∈es,r.length=P.cellsOf e) (am:∀ r∈es,dR P [e] r) (h:dR P ts cs) :dR P (t::ts) (.aZ (P.cellsOf e) es::cs)
 | struct {t:TypeId} {fs:Array Field} {ts:List TypeId} {cs:List U} (aM:P.underlying t=some (.struct fs)) (h:dR P (fs.toList.map (·.type)++ts) cs) :dR P (t::ts) cs
 | array {t e:TypeId} {n:Nat} {ts:List TypeId} {cs:List U} (aM:P.underlying t=some (.array n e)) (h:dR P (List.replicate n e++ts) cs) :dR P (t::ts) cs
def vR (P:Program) :List Field->Nat->Option Nat
 | [],o=>some o
 | f::r,o=>if f.offset=o then vR P r (o+P.cellsOf f.type) else none
def u1 (P:Program) :Nat->TypeId->Bool
 | 0,_=>false
 | d+1,t=>match P.underlying t with
  | some .bool | some (.int _) | some .string=>true
  | some (.slice e)=>decide (0<P.cellsOf e)&&u1 P d e
  | some (.struct fs)=>decide (vR P fs.toList 0=some (P.cellsOf t))&&fs.toList.all fun f=>u1 P d f.type
  | some (.array n e)=>decide (n*P.cellsOf e=P.cellsOf t)&&u1 P d e
  | _=>false
structure pS (P:Program) (w:World) (A:Nat->Prop) (ts:List TypeId) (vs:List Value) (cs:List U) :Prop where
 len:cs.length=vs.length
 ty:∀ qL cs',dR P qL cs'->dR P (ts++qL) (cs++cs')
 pH:∀ (j:Nat) (c:U) (v:Value),cs[j]? = some c->vs[j]? = some v->ed w A c v/\v.oneCell'=true
theorem pS.nil {w:World} {A:Nat->Prop}:pS P w A [] [] [] :=⟨rfl,fun _ _ h=>h,fun j c v h=>by simp at h⟩
theorem pS.app {w:World} {A:Nat->Prop} {ts qL:List TypeId} {vs I6:List Value} {cs cs' : List U} (a:pS P w A ts vs cs) (b:pS P w A qL I6 cs') :pS P w A (ts++qL) (vs++I6) (cs++cs') :=by
 refine⟨by simp[a.len,b.len],fun atW apt h=>by rw[au3,au3]; exact a.ty _ _ (b.ty _ _ h),fun j c v ah ap=>?_⟩;by_cases h:j<cs.length
 ·rw[aum h] at ah;rw[aum (by rw[<-a.len]; exact h)] at ap;exact a.pH j c v ah ap
 ·rw[auJ (by omega)] at ah;rw[auJ (by rw[<-a.len]; omega)] at ap;rw[<-a.len] at ap;exact b.pH _ c v ah ap
theorem H6 {α kj:Type} {f:α->Option kj}:∀ {l:List α} {r:List kj},l.mapM f=some r->∀ (p:Nat) (a:α),l[p]? = some a->∃ x,r[p]? = some x/\f a=some x
 | [],r,h,p,a,aC=>by simp at aC
 | a0::l,r,h,p,a,aC=>by
  rw[avT] at h;simp only[Option.bind_eq_bind,bind_some,av3,Option.some.injEq] at h;obtain⟨b,ad,cB,ae,rfl⟩:=h;cases p with
  | zero=>simp only[auN,Option.some.injEq] at aC; subst aC; exact⟨b,rfl,ad⟩
  | succ p=>obtain⟨x,aj,aG⟩:=H6 ae p a (by simpa using aC); exact⟨x,by simpa using aj,aG⟩
theorem EG {w:World} {A:Nat->Prop} {c:U} {v:Value} (h:ed w A c v) (ad:v.oneCell'=true) :∀ (j:Nat) (c' : U) (a6:Value),[c][j]? = some c'->[v][j]? = some a6->ed w A c' a6/\a6.oneCell'=true:=by
 intro j c' a6 ah ap;cases j with
 | zero=>simp only[auN,Option.some.injEq] at ah ap; subst ah ap; exact⟨h,ad⟩
 | succ j=>simp at ah
theorem amJ {H:Type} {enc:TypeId × Value->H} {w:World} {base:Nat} {spare:Nat->Bool} {held:Bool} {fuel:Nat} {t:TypeId} {vs:List Value} {x:DataW H × List MemPlace}
  (aM:P.underlying t=some .bool) (h:DataW.trod enc P w base spare held (fuel+1) t vs=some x) :∃ b,vs=[.bool b] :=by
 unfold DataW.trod at h;rw[aM] at h;split at h
 case h_1 b _=>exact⟨b,rfl⟩
 all_goals first | (cases h; done) | (rename_i heq; cases heq; done) | (rename_i heq _; cases heq; done) | (rename_i heq _ _; cases heq; done) | (rename_i heq _ _ _; cases heq; done) | (simp_all; done)
theorem trod_int {H:Type} {enc:TypeId × Value->H} {w:World} {base:Nat} {spare:Nat->Bool} {held:Bool} {fuel:Nat} {t:TypeId} {k:IntKind} {vs:List Value} {x:DataW H × List MemPlace}
  (aM:P.underlying t=some (.int k)) (h:DataW.trod enc P w base spare held (fuel+1) t vs=some x) :∃ n,vs=[.int k n]/\k.min<=n/\n<=k.max:=by
 unfold DataW.trod at h;rw[aM] at h;split at h<;>simp only[reduceCtorEq,Option.some.injEq,TypeDesc.int.injEq] at *<;>try (exfalso; simp_all; done)
 rename_i hu k' n heq;subst heq;split at h
 ·rename_i ah;obtain⟨rfl,aX⟩:=ah;simp only[Lit.wf,aus,decide_eq_true_eq] at aX;exact⟨n,rfl,aX.1,aX.2⟩
 ·cases h
theorem amL {H:Type} {enc:TypeId × Value->H} {w:World} {base:Nat} {spare:Nat->Bool} {held:Bool} {fuel:Nat} {t:TypeId} {vs:List Value} {x:DataW H × List MemPlace}
  (aM:P.underlying t=some .string) (h:DataW.trod enc P w base spare held (fuel+1) t vs=some x) :∃ s,vs=[.string s]/\s.size<=maxLen:=by
 unfold DataW.trod at h;rw[aM] at h;split at h<;>simp only[reduceCtorEq,Option.some.injEq] at *<;>try (exfalso; simp_all; done)
 split at h
 ·rename_i s _ ak; exact⟨s,rfl,ak⟩
 ·cases h
theorem amK {H:Type} {enc:TypeId × Value->H} {w:World} {base:Nat} {spare:Nat->Bool} {held:Bool} {fuel:Nat} {t e:TypeId} {vs:List Value} {x:DataW H × List MemPlace}
  (aM:P.underlying t=some (.slice e)) (h:DataW.trod enc P w base spare held (fuel+1) t vs=some x) :
  vs=[.slice none 0 0]\/∃ a len cap,vs=[.slice (some a) len cap]/\len<=cap/\cap<=maxLen/\∃ F6,(List.range len).mapM (fun i=>(w.cells? base (a.add (i*P.cellsOf e)) (P.cellsOf e)).bind (DataW.trod enc P w base spare held fuel e))=some F6:=by
 unfold DataW.trod at h;rw[aM] at h;split at h<;>simp only[reduceCtorEq,Option.some.injEq,TypeDesc.slice.injEq] at *<;>try (exfalso; simp_all; done)
 ·exact .inl trivial
 ·rename_i fu a len cap heq;subst heq;split at h
  ·rename_i ah;rw[bind_some] at h;obtain⟨F6,ad,_⟩:=h;exact .inr ⟨a,len,cap,rfl,ah.2.1,ah.2.2,F6,ad⟩
  ·cases h
theorem amM {H:Type} {enc:TypeId × Value->H} {w:World} {base:Nat} {spare:Nat->Bool} {held:Bool} {fuel:Nat} {t:TypeId} {fs:Array Field} {vs:List Value} {x:DataW H × List MemPlace}
  (aM:P.underlying t=some (.struct fs)) (h:DataW.trod enc P w base spare held (fuel+1) t vs=some x) :
  vs.length=P.cellsOf t/\∃ xs,(fs.toList.mapM fun f=>DataW.trod enc P w base spare held fuel f.type ((vs.drop f.offset).take (P.cellsOf f.type)))=some xs:=by
 unfold DataW.trod at h;rw[aM] at h;split at h<;>simp only[reduceCtorEq,Option.some.injEq,TypeDesc.struct.injEq] at *<;>try (exfalso; simp_all; done)
 rename_i apP heq;subst heq;split at h
 ·rename_i ah;rw[map_some] at h;obtain⟨xs,ad,_⟩:=h;exact⟨ah,xs,ad⟩
 ·cases h
theorem trod_array {H:Type} {enc:TypeId × Value->H} {w:World} {base:Nat} {spare:Nat->Bool} {held:Bool} {fuel:Nat} {t e:TypeId} {n:Nat} {vs:List Value} {x:DataW H × List MemPlace}
  (aM:P.underlying t=some (.array n e)) (h:DataW.trod enc P w base spare held (fuel+1) t vs=some x) :
  vs.length=P.cellsOf t/\∃ xs,((List.range n).mapM fun i=>DataW.trod enc P w base spare held fuel e ((vs.drop (i*P.cellsOf e)).take (P.cellsOf e)))=some xs:=by
 unfold DataW.trod at h;rw[aM] at h;split at h<;>simp only[reduceCtorEq,Option.some.injEq,TypeDesc.array.injEq] at *<;>try (exfalso; simp_all; done)
 rename_i ajg fu heq;obtain⟨rfl,rfl⟩:=heq;split at h
 ·rename_i ah;rw[map_some] at h;obtain⟨xs,ad,_⟩:=h;exact⟨ah,xs,ad⟩
 ·cases h
theorem aan (a:Addr) (x j:Nat) :a.add (x+j)=(a.add x).add j:=by
 unfold Addr.add;by_cases af:x=0
 ·subst af; simp
 ·by_cases ai:j=0
  ·subst ai; simp
  ·rw[if_neg (by omega),if_neg af,if_neg ai];simp only[av1]
theorem add_plain (b o n:Nat) :(Addr.mk b o none).add n=⟨b,o+n,none⟩:=by
 unfold Addr.add;by_cases aD:n=0
 ·subst aD; simp
 ·rw[if_neg aD]
theorem YX {H:Type} {enc:TypeId × Value->H} {w:World} {A:Nat->Prop} (du:∀ k,A k) {base:Nat} {spare:Nat->Bool} {held:Bool}:∀ (fuel:Nat) (D:Nat) (t:TypeId) (vs:List Value) (d:DataW H) (ps:List MemPlace),
  u1 P D t=true->DataW.trod enc P w base spare held fuel t vs=some (d,ps)->∃ cs,pS P w A [t] vs cs
 | 0,_,_,_,_,_,_,h=>by simp[DataW.trod] at h
 | fuel+1,0,t,vs,d,ps,av,h=>by cases av
 | fuel+1,D+1,t,vs,d,ps,av,h=>by
  have aR:=fun t vs d ps av h=>YX du (enc:=enc) (w:=w) (base:=base) (spare:=spare) (held:=held) fuel D t vs d ps av h
  unfold u1 at av;split at av
  ·rename_i aM;obtain⟨b,rfl⟩:=amJ aM h;exact⟨[.bool b],⟨rfl,fun qL cs' h=>.bool aM h,EG (.bool b) rfl⟩⟩
  ·rename_i k aM;obtain⟨n,rfl,ad,ae⟩:=trod_int aM h;exact⟨[.int k n],⟨rfl,fun qL cs' h=>.int aM ad ae h,EG (.int k n) rfl⟩⟩
  ·rename_i aM;obtain⟨s,rfl,ad⟩:=amL aM h;exact⟨[.str s.data.toList],⟨rfl,fun qL cs' h=>.str aM (show s.data.toList.length<=maxLen from ad) h,EG (.str s) rfl⟩⟩
  ·rename_i e aM;simp only[aus,decide_eq_true_eq] at av;rcases amK aM h with rfl | ⟨a,len,cap,rfl,qf,fp,F6,am⟩
   ·exact⟨[.aH],⟨rfl,fun qL cs' h=>.aH aM h,EG .aH rfl⟩⟩
   ·have cA:∀ i,i<len->∃ eR row,w.cells? base (a.add (i*P.cellsOf e)) (P.cellsOf e)=some eR/\pS P w A [e] eR row:=fun i ay=>by
     obtain⟨x,_,af⟩:=H6 am i i (by rw[auX ay]);rw[bind_some] at af;obtain⟨eR,ad,ae⟩:=af;obtain⟨row,aj⟩:=aR e eR x.1 x.2 av.2 ae;exact⟨eR,row,ad,aj⟩
    have qa:∃ (eR:Nat->List Value) (rows:Nat->List U),∀ i,i<len->w.cells? base (a.add (i*P.cellsOf e)) (P.cellsOf e)=some (eR i)/\pS P w A [e] (eR i) (rows i) :=by
     refine⟨fun i=>if ay:i<len then (cA i ay).choose else [],fun i=>if ay:i<len then (cA i ay).choose_spec.choose else [],fun i ay=>?_⟩;simp only[dif_pos ay];exact (cA i ay).choose_spec.choose_spec
    obtain⟨eR,rows,ap⟩:=qa;have lO:∀ i,i<len->(eR i).length=P.cellsOf e/\∀ j,j<P.cellsOf e->∃ v,(eR i)[j]? = some v/\w.cell? (a.add (i*P.cellsOf e+j))=some v:=fun i ay=>by
     have ad:=(ap i ay).1;unfold World.cells? at ad;split at ad
     ·refine⟨by rw[M5 ad]; simp,fun j ai=>?_⟩;obtain⟨v,ae,aj⟩:=H6 ad j j (by rw[auX ai]);refine⟨v,ae,?_⟩;rw[<-aj,aan]
     ·cases ad
    let es:=(List.range len).map rows
    have lS:∀ (i:Nat) (r:List U),es[i]? = some r->i<len/\r=rows i:=fun i r az=>by
     simp only[es,auq] at az;by_cases ay:i<len
     ·rw[auX ay] at az; simp only[auv,Option.some.injEq] at az; exact⟨ay,az.symm⟩
     ·rw[auC (by simp; omega)] at az; cases az
    have bC:es.length=len:=by simp[es]
    have ax:∀ r∈es,r.length=P.cellsOf e:=fun r az=>by
     obtain⟨i,ay⟩:=av6 az;obtain⟨ad,rfl⟩:=lS i r ay;rw[(ap i ad).2.len,(lO i ad).1]
    have AO:∀ r∈es,dR P [e] r:=fun r az=>by
     obtain⟨i,ay⟩:=av6 az;obtain⟨ad,rfl⟩:=lS i r ay;have:=(ap i ad).2.ty [] [] .nil;simpa using this
    refine⟨[.aZ (P.cellsOf e) es],⟨rfl,fun qL cs' h=>.aq aM (by omega) ax AO h,EG ?_ rfl⟩⟩;by_cases aI:len=0
    ·subst aI;exact .gk _ _ _
    ·obtain⟨tu,_,ia⟩:=(lO 0 (by omega)).2 0 av.1;have UR:a.spot=none:=by
      unfold World.cell? at ia;split at ia
      ·split at ia
       ·cases ia
       ·rename_i ak;rw[show 0*P.cellsOf e+0=0 by omega] at ak;simp only[Addr.add,if_true] at ak;cases rF:a.spot with
        | none=>rfl
        | some x=>rw[rF] at ak; simp at ak
      ·cases ia
     obtain⟨blk,off,spot⟩:=a;simp only at UR;subst UR;have key:=aO.aZ (w:=w) (R:=A) (h:=aN.empty) (μ:=fun _=>none) (P.cellsOf e) es blk off cap (fun i j=>((eR i)[j]?).getD undef) (by omega) ax
      (fun i j ay ai=>by
       rw[bC] at ay;obtain⟨v,ad,ae⟩:=(lO i ay).2 j ai;obtain⟨c,ah⟩:∃ c,(rows i)[j]? = some c:=by
        have:j<(rows i).length:=by rw[(ap i ay).2.len,(lO i ay).1]; exact ai
        exact⟨_,auo this⟩
       refine⟨?_,?_,du _,fun ⟨b,m,ad,ae,aj⟩=>by cases ae⟩
       ·rw[ad,au6,<-add_plain]; exact ae
       ·rw[ad,au6]; exact ((ap i ay).2.pH j c v ah ad).2)
      (fun i r az j c ah=>by
       obtain⟨ay,rfl⟩:=lS i r az;have ai:j<P.cellsOf e:=by rw[<-(lO i ay).1,<-(ap i ay).2.len]; exact (auk.1 ah).1
       obtain⟨v,ad,ae⟩:=(lO i ay).2 j ai;rw[ad,au6];exact ((ap i ay).2.pH j c v ah ad).1)
     rw[bC] at key;exact key
  ·rename_i fs aM;simp only[aus,decide_eq_true_eq,ava] at av;obtain⟨bC,xs,af⟩:=amM aM h;have CU:∀ (fs:List Field) (o:Nat) (xs:List (DataW H × List MemPlace)),vR P fs o=some vs.length->o<=vs.length->(∀ f∈fs,u1 P D f.type=true)->
     (fs.mapM fun f=>DataW.trod enc P w base spare held fuel f.type ((vs.drop f.offset).take (P.cellsOf f.type)))=some xs->∃ cs,pS P w A (fs.map (·.type)) (vs.drop o) cs:=by
    intro fs
    induction fs with
    | nil=>intro o xs ah au _ _; simp only[vR,Option.some.injEq] at ah; rw[ah,List.drop_length]; exact⟨[],.nil⟩
    | cons f fs ahc=>
     intro o xs ah au gE hm;simp only[vR] at ah;split at ah
     ·rename_i aeX;rw[avT] at hm;simp only[Option.bind_eq_bind,bind_some,av3,Option.some.injEq] at hm;obtain⟨x,ad,an1,ae,_⟩:=hm;have afO:∀ (fs:List Field) (o n:Nat),vR P fs o=some n->o<=n:=by
       intro fs
       induction fs with
       | nil=>intro o n h; simp only[vR,Option.some.injEq] at h; omega
       | cons g gs ahd=>
        intro o n h;simp only[vR] at h;split at h
        ·have:=ahd _ _ h; omega
        ·cases h
      have dO:=afO _ _ _ ah;obtain⟨b3,bL⟩:=aR f.type _ x.1 x.2 (gE f (by simp)) ad;obtain⟨b9,w2⟩:=ahc _ an1 ah dO (fun g aw=>gE g (by simp[aw])) ae;refine⟨b3++b9,?_⟩;have:=bL.app w2;rw[aeX,show List.drop (o+P.cellsOf f.type) vs=List.drop (P.cellsOf f.type) (List.drop o vs) by rw[awX],avm] at this;exact this
     ·cases ah
   obtain⟨cs,aX⟩:=CU fs.toList 0 xs (by rw[bC]; exact av.1) (avu _) av.2 af;rw[avx] at aX;exact⟨cs,⟨aX.len,fun qL cs' h=>.struct aM (aX.ty _ _ h),aX.pH⟩⟩
  ·rename_i n e aM;simp only[aus,decide_eq_true_eq] at av;obtain⟨bC,xs,af⟩:=trod_array aM h;have agi:∀ i,i<n->∃ c,pS P w A [e] ((vs.drop (i*P.cellsOf e)).take (P.cellsOf e)) c:=fun i ay=>by
    obtain⟨x,_,ad⟩:=H6 af i i (by rw[auX ay]);exact aR e _ x.1 x.2 av.2 ad
   have CU:∀ m,m<=n->∃ cs,pS P w A (List.replicate m e) (vs.drop ((n - m)*P.cellsOf e)) cs:=by
    intro m
    induction m with
    | zero=>intro _; rw[awD,au0 (by omega)]; exact⟨[],.nil⟩
    | succ m Mw=>
     intro hm;obtain⟨b3,bL⟩:=agi (n - (m+1)) (by omega);obtain⟨b9,w2⟩:=Mw (by omega);refine⟨b3++b9,?_⟩;have:=bL.app w2;have wc:(n - m)*P.cellsOf e=(n - (m+1))*P.cellsOf e+P.cellsOf e:=by rw[<-au2]; congr 1; omega
     rw[wc,<-awX,avm] at this;exact this
   obtain⟨cs,aX⟩:=CU n (aun _);rw[awq,av7,avx] at aX;exact⟨cs,⟨aX.len,fun qL cs' h=>.array aM (aX.ty _ _ h),aX.pH⟩⟩
  ·cases av
def tL (P:Program) (t:TypeId) (c:U) :Prop:=match eJ P t with
 | some true=>∃ cs,c=.aF cs/\dR P [t] cs
 | _=>dR P [t] [c]
inductive mL (P:Program) :List TypeId->List U->Prop
 | nil:mL P [] []
 | cons {t:TypeId} {c:U} {ts:List TypeId} {cs:List U}:tL P t c->mL P ts cs->mL P (t::ts) (c::cs)
theorem PC {H:Type} {enc:TypeId × Value->H} {w:World} {A:Nat->Prop} (du:∀ k,A k) {base hL:Nat} {spare:Nat->Bool} {held:Bool} {D:Nat}:∀ {ts:List TypeId} {vs:List Value} {ix:List (DataW H)} {ps:List MemPlace},
  (∀ t∈ts,u1 P D t=true)->(∀ (j:Nat) t v,ts[j]? = some t->vs[j]? = some v->Value.okWide P w .any hL t v)->DataW.TrodAll enc P w base spare held ts vs ix ps->
  ∃ cs,mL P ts cs/\cs.length=vs.length/\∀ (j:Nat) (c:U) (v:Value),cs[j]? = some c->vs[j]? = some v->ed w A c v
 | [],[],_,_,_,_,_=>⟨[],.nil,rfl,fun j c v h=>by simp at h⟩
 | [],_::_,ix,_,_,_,h=>by cases ix<;>cases h
 | _::_,[],ix,_,_,_,h=>by cases ix<;>cases h
 | _::_,_::_,[],_,_,_,h=>by cases h
 | t::ts,v::vs,d::ix,ps,av,c4,h=>by
  obtain⟨p,q,⟨fuel,aW⟩,az,_⟩:=h;obtain⟨cs,ad,ae,aj⟩:=PC du (fun t aW=>av t (by simp[aW])) (fun j t v aW ap=>c4 (j+1) t v (by simpa using aW) (by simpa using ap)) az;obtain⟨b3,bL⟩:=YX du fuel D t v.cells.toList d p (av t (by simp)) aW;have AO:dR P [t] b3:=by simpa using bL.ty [] [] .nil
  have ap:=c4 0 t v rfl rfl;have fin:∀ c,tL P t c->ed w A c v->∃ cs,mL P (t::ts) cs/\cs.length=(v::vs).length/\∀ (j:Nat) (c:U) (a6:Value),cs[j]? = some c->(v::vs)[j]? = some a6->ed w A c a6:=fun c ah jK=>
   ⟨c::cs,.cons ah ad,by simp[ae],fun j c' a6 ai ga=>by
    cases j with
    | zero=>simp only[auN,Option.some.injEq] at ai ga; subst ai ga; exact jK
    | succ j=>exact aj j c' a6 (by simpa using ai) (by simpa using ga)⟩
  unfold Value.okWide at ap;have agg:eJ P t=(P.underlying t).map fun d=>match d with | .struct _ | .array _ _=>true | _=>false:=rfl
  cases aM:P.underlying t with
  | none=>
   exfalso;have:=av t (by simp);cases D with
   | zero=>cases this
   | succ D=>unfold u1 at this; rw[aM] at this; cases this
  | some Se=>
   rw[aM] at ap agg;have ahK:(∃ cs,v=.agg cs)->eJ P t=some true->∃ cs,mL P (t::ts) cs/\cs.length=(v::vs).length/\∀ (j:Nat) (c:U) (a6:Value),cs[j]? = some c->(v::vs)[j]? = some a6->ed w A c a6:=by
    rintro⟨xs,rfl⟩ pc;refine fin (.aF b3) (by unfold tL; rw[pc]; exact⟨b3,rfl,AO⟩) (.aF b3 xs (by have:=bL.len; simp only[Value.cells,awd] at this; exact this.symm) (fun j x af=>?_) (fun j c x ah af=>?_))
    ·have aL:j<b3.length:=by rw[bL.len]; simp only[Value.cells,awd]; exact (auO.1 af).1
     exact (bL.pH j b3[j] x (auo aL) (by simpa [Value.cells] using af)).2
    ·exact (bL.pH j c x ah (by simpa [Value.cells] using af)).1
   have ahM:(∀ xs,v≠.agg xs)->eJ P t=some false->∃ cs,mL P (t::ts) cs/\cs.length=(v::vs).length/\∀ (j:Nat) (c:U) (a6:Value),cs[j]? = some c->(v::vs)[j]? = some a6->ed w A c a6:=by
    intro bP pc;have lO:v.cells.toList=[v] :=by cases v<;>first | rfl | exact absurd rfl (bP _)
    have al:=bL.len;rw[lO] at al;obtain⟨c,rfl⟩:∃ c,b3=[c] :=List.length_eq_one_iff.1 al;refine fin c (by unfold tL; rw[pc]; exact AO) (bL.pH 0 c v rfl (by rw[lO]; rfl)).1
   have aju:Cell.okWide P w .any hL t v->∀ xs,v≠.agg xs:=by
    rintro ah xs rfl;unfold Cell.okWide at ah;rw[aM] at ah;cases Se<;>simp[Cell.ok,aM] at ah
   cases Se<;>simp only[auv] at agg<;>first
    | exact ahK (by obtain⟨cs,h,_⟩:=ap; exact⟨cs,h⟩) agg
    | exact ahM (aju ap) agg
end
abbrev db (α:Type) :=Option (List α)
def db.l {α:Type} (s:db α) :List α:=s.getD []
@[simp] theorem db.asd {α:Type}:db.l (none:db α)=[] :=rfl
@[simp] theorem db.A9 {α:Type} (l:List α) :db.l (some l)=l:=rfl
def cE {α:Type} (z:Nat) (enc:α->List U) :db α->U
 | none=>.aH
 | some l=>.aZ z (l.map enc)
section
variable {α:Type} {z:Nat} {enc:α->List U}
@[simp] theorem s5 (s:db α) :ce (.aq z) (cE z enc s)=some (.int .i64 s.l.length) :=by cases s<;>simp[cE,db.l]
@[simp] theorem uJ (s:db α) (k:IntKind) (i:Int) :cL (.aq z) (cE z enc s) (.int k i)=if 0<=i then (s.l[i.toNat]?).map fun x=>.bM (enc x) 0 else none:=by
 cases s with
 | none=>by_cases h:0<=i<;>simp[cE,db.l,cL,h]
 | some l=>by_cases h:0<=i<;>simp[cE,db.l,h,Function.comp_def]
@[simp] theorem ao0 (s:db α) :(cE z enc s).cells=some [cE z enc s] :=by cases s<;>rfl
theorem Co (h:∀ x,a5 (enc x)=true) (s:db α) :(cE z enc s).closed=true:=by
 cases s with
 | none=>rfl
 | some l=>
  simp only[cE,U.closed]
  induction l with
  | nil=>rfl
  | cons x l aR=>simp only[auL,Cm,h,aR,awf]
end
theorem wrap_i64 {n:Int} (ad:-9223372036854775808<=n) (ae:n<9223372036854775808) :IntKind.i64.wrap n=n:=by
 have aP:(2 ^ IntKind.i64.bits:Int)=18446744073709551616:=by decide
 have bw:(2 ^ (IntKind.i64.bits - 1) :Int)=9223372036854775808:=by decide
 have e3:IntKind.i64.signed=true:=rfl;simp only[IntKind.wrap,aP,bw,e3,avR,decide_eq_true_eq];split<;>omega
theorem bI {α:Type} {l:List α} {k:Nat} (h:k<l.length) :∃ x,l[k]? = some x/\x∈l:=⟨l[k],auo h,List.getElem_mem h⟩
section
variable {P:Program} {G:Nat->U}
theorem JR {t e:TypeId} (aM:P.underlying t=some (.slice e)) {α:Type} (z:Nat) (enc:α->List U) (s:db α) :gN P .eql t (cE z enc s) .aH=some (.bool s.isNone) :=by
 cases s<;>simp[cE,gN,xZ,eU,aM]
theorem acr {e:TypeId} {k:IntKind} (aM:P.underlying e=some (.int k)) (aC:eJ P e=some false) {D:Nat} (x y:List Int) :∀ (n i:Nat),i+n=x.length->i+n=y.length->
  eU.sy P (eU P (D+1)) e 1 (x.map (.int k)) (y.map (.int k)) n i=some (decide (x.drop i=y.drop i)) :=by
 intro n
 induction n with
 | zero=>intro i af aJ; rw[au0 (by omega),au0 (by omega)]; simp[eU.sy]
 | succ n aR=>
  intro i af aJ;have uG:x[i]? = some x[i] :=auo (by omega);have ag2:y[i]? = some y[i] :=auo (by omega);unfold eU.sy;simp only[Ns aC,avX,auq,uG,ag2,auv];have am:eU P (D+1) e (.int k x[i]) (.int k y[i])=some (decide (x[i]=y[i])) :=by
   unfold eU;rw[aM];simp only[if_true];by_cases h:x[i]=y[i]<;>simp[h]
  rw[am];have TQ:x.drop i=x[i] ::x.drop (i+1) :=avg (by omega);have TR:y.drop i=y[i] ::y.drop (i+1) :=avg (by omega);by_cases h:x[i]=y[i]
  ·simp only[h,decide_true];rw[aR (i+1) (by omega) (by omega)];refine congrArg some (decide_eq_decide.2 ?_);rw[TQ,TR,h];simp only[List.cons.injEq,true_and]
  ·simp only[h,decide_false];refine congrArg some (decide_eq_false ?_).symm;rw[TQ,TR];simp only[List.cons.injEq,h,false_and,not_false_eq_true]
theorem acz {t e:TypeId} {k:IntKind} {n:Nat} (aW:P.underlying t=some (.array n e)) (aM:P.underlying e=some (.int k)) (aC:eJ P e=some false) (ak:cz P e=some 1) {x y:List Int} (af:x.length=n) (aJ:y.length=n) {D:Nat} :
  eU P (D+2) t (.aF (x.map (.int k))) (.aF (y.map (.int k)))=some (decide (x=y)) :=by
 unfold eU;rw[aW];simp only[ak];rw[acr aM aC x y n 0 (by omega) (by omega)];simp
theorem x2 {z:Nat} {es:List (List U)} (ax:∀ e∈es,e.length=z) :es.flatten.length=es.length*z:=by
 induction es with
 | nil=>simp
 | cons e es aR=>rw[au9,auu,ax e (by simp),aR fun e am=>ax e (by simp[am]),auF,au2,aw9]
theorem z9 {z:Nat} {es:List (List U)} (ax:∀ e∈es,e.length=z) {i j:Nat} {e:List U} (am:es[i]? = some e) (ai:j<z) :es.flatten[i*z+j]? = e[j]?:=by
 induction es generalizing i with
 | nil=>simp at am
 | cons x es aR=>
  have af:x.length=z:=ax x (by simp);cases i with
  | zero=>
   simp only[auN,Option.some.injEq] at am;subst am;rw[au9,av7,avz,aum (by omega)]
  | succ i=>
   simp only[au5] at am;rw[au9,auJ (by rw[af,au2]; omega),af,show (i+1)*z+j - z=i*z+j by rw[au2]; omega];exact aR (fun e am=>ax e (by simp[am])) am
theorem acT {z:Nat} {es:List (List U)} (ax:∀ e∈es,e.length=z) (i:Nat) :es.flatten.drop (i*z)=(es.drop i).flatten:=by
 induction es generalizing i with
 | nil=>simp
 | cons x es aR=>
  have af:x.length=z:=ax x (by simp);cases i with
  | zero=>simp
  | succ i=>
   rw[au9,show (i+1)*z=x.length+i*z by rw[au2,af,aw9],List.drop_length_add_append,List.drop_succ_cons];exact aR (fun e am=>ax e (by simp[am])) i
theorem acU {z:Nat} {es:List (List U)} (ax:∀ e∈es,e.length=z) {i:Nat} {e:List U} (am:es[i]? = some e) :(es.flatten.drop (i*z)).take z=e:=by
 rw[acT ax];have ay:i<es.length:=(auk.1 am).1;have:es.drop i=e::es.drop (i+1) :=by rw[avg ay]; congr 1; rw[auo ay] at am; exact Option.some.inj am
 rw[this,au9,auT (by rw[ax e (aut am)]; exact aun _),aul (by rw[ax e (aut am)]; exact aun _)]
theorem acV {z:Nat} {es:List (List U)} (ax:∀ e∈es,e.length=z) {i j:Nat} {e vs:List U} (am:es[i]? = some e) (ai:j+vs.length<=z) :a8 es.flatten (i*z+j) vs=(es.set i (a8 e j vs)).flatten:=by
 have ay:i<es.length:=(auk.1 am).1;have dO:e.length=z:=ax e (aut am);have bf:es.drop i=e::es.drop (i+1) :=by rw[avg ay]; congr 1; rw[auo ay] at am; exact Option.some.inj am
 have lr:(es.set i (a8 e j vs)).flatten=(es.take i).flatten++(a8 e j vs++(es.drop (i+1)).flatten) :=by
  rw[avQ,if_pos ay,avb,au9]
 have agK:es.flatten=(es.take i).flatten++(e++(es.drop (i+1)).flatten) :=by
  conv=>lhs; rw[<-avm i es]
  rw[bf,avb,au9]
 have bC:(es.take i).flatten.length=i*z:=by
  rw[x2 (z:=z) fun e am=>ax e (auG am),auA,avA (by omega)]
 rw[lr,agK];simp only[a8];rw[awa,aul (by omega),bC,show i*z+j - i*z=j by omega,auT (by omega),
  List.drop_append,au0 (by omega),bC,show i*z+j+vs.length - i*z=j+vs.length by omega,avp,avl (by omega)]
 simp only[au3]
theorem cZ {σ:bc} {i:Nat} {v:U} (h:σ i=v) :bB σ i v=σ:=by
 funext t; simp only[bB]; split<;>simp_all
theorem pG {σ:bc} {cU:Nat} {ch:U} {dX:Nat} {bU:U} (ad:σ cU=ch) (ae:σ dX=bU) :∃ s:bc,σ=bB (bB (s) cU ch) dX bU:=⟨σ,by rw[cZ ad,cZ ae]⟩
theorem lB {σ:bc} {cU:Nat} {ch:U} {dX:Nat} {bU:U} {gT:Nat} {e8:U} (ad:σ cU=ch) (ae:σ dX=bU) (aj:σ gT=e8) :∃ s:bc,σ=bB (bB (bB (s) cU ch) dX bU) gT e8:=⟨σ,by rw[cZ ad,cZ ae,cZ aj]⟩
theorem iE {σ:bc} {cU:Nat} {ch:U} {dX:Nat} {bU:U} {gT:Nat} {e8:U} {gc:Nat} {gW:U} (ad:σ cU=ch) (ae:σ dX=bU) (aj:σ gT=e8) (aG:σ gc=gW) :∃ s:bc,σ=bB (bB (bB (bB (s) cU ch) dX bU) gT e8) gc gW:=⟨σ,by rw[cZ ad,cZ ae,cZ aj,cZ aG]⟩
theorem lC {σ:bc} {cU:Nat} {ch:U} {dX:Nat} {bU:U} {gT:Nat} {e8:U} {gc:Nat} {gW:U} {jN:Nat} {hZ:U} (ad:σ cU=ch) (ae:σ dX=bU) (aj:σ gT=e8) (aG:σ gc=gW) (bh:σ jN=hZ) :∃ s:bc,σ=bB (bB (bB (bB (bB (s) cU ch) dX bU) gT e8) gc gW) jN hZ:=⟨σ,by rw[cZ ad,cZ ae,cZ aj,cZ aG,cZ bh]⟩
theorem xm {σ:bc} {cU:Nat} {ch:U} {dX:Nat} {bU:U} {gT:Nat} {e8:U} {gc:Nat} {gW:U} {jN:Nat} {hZ:U} {jO:Nat} {fg:U} (ad:σ cU=ch) (ae:σ dX=bU) (aj:σ gT=e8) (aG:σ gc=gW) (bh:σ jN=hZ) (bF:σ jO=fg) :∃ s:bc,σ=bB (bB (bB (bB (bB (bB (s) cU ch) dX bU) gT e8) gc gW) jN hZ) jO fg:=⟨σ,by rw[cZ ad,cZ ae,cZ aj,cZ aG,cZ bh,cZ bF]⟩
theorem Fc {σ:bc} {cU:Nat} {ch:U} {dX:Nat} {bU:U} {gT:Nat} {e8:U} {gc:Nat} {gW:U} {jN:Nat} {hZ:U} {jO:Nat} {fg:U} {iM:Nat} {mH:U} (ad:σ cU=ch) (ae:σ dX=bU) (aj:σ gT=e8) (aG:σ gc=gW) (bh:σ jN=hZ) (bF:σ jO=fg) (dz:σ iM=mH) :∃ s:bc,σ=bB (bB (bB (bB (bB (bB (bB (s) cU ch) dX bU) gT e8) gc gW) jN hZ) jO fg) iM mH:=⟨σ,by rw[cZ ad,cZ ae,cZ aj,cZ aG,cZ bh,cZ bF,cZ dz]⟩
theorem Y6 {σ:bc} {cU:Nat} {ch:U} {dX:Nat} {bU:U} {gT:Nat} {e8:U} {gc:Nat} {gW:U} {jN:Nat} {hZ:U} {jO:Nat} {fg:U} {iM:Nat} {mH:U} {oH:Nat} {jU:U} (ad:σ cU=ch) (ae:σ dX=bU) (aj:σ gT=e8) (aG:σ gc=gW) (bh:σ jN=hZ) (bF:σ jO=fg) (dz:σ iM=mH) (g0:σ oH=jU) :∃ s:bc,σ=bB (bB (bB (bB (bB (bB (bB (bB (s) cU ch) dX bU) gT e8) gc gW) jN hZ) jO fg) iM mH) oH jU:=⟨σ,by rw[cZ ad,cZ ae,cZ aj,cZ aG,cZ bh,cZ bF,cZ dz,cZ g0]⟩
theorem Y7 {σ:bc} {cU:Nat} {ch:U} {dX:Nat} {bU:U} {gT:Nat} {e8:U} {gc:Nat} {gW:U} {jN:Nat} {hZ:U} {jO:Nat} {fg:U} {iM:Nat} {mH:U} {oH:Nat} {jU:U} {rK:Nat} {r9:U} (ad:σ cU=ch) (ae:σ dX=bU) (aj:σ gT=e8) (aG:σ gc=gW) (bh:σ jN=hZ) (bF:σ jO=fg) (dz:σ iM=mH) (g0:σ oH=jU) (gP:σ rK=r9) :∃ s:bc,σ=bB (bB (bB (bB (bB (bB (bB (bB (bB (s) cU ch) dX bU) gT e8) gc gW) jN hZ) jO fg) iM mH) oH jU) rK r9:=⟨σ,by rw[cZ ad,cZ ae,cZ aj,cZ aG,cZ bh,cZ bF,cZ dz,cZ g0,cZ gP]⟩
theorem am5 {σ:bc} {cU:Nat} {ch:U} {dX:Nat} {bU:U} {gT:Nat} {e8:U} {gc:Nat} {gW:U} {jN:Nat} {hZ:U} {jO:Nat} {fg:U} {iM:Nat} {mH:U} {oH:Nat} {jU:U} {rK:Nat} {r9:U} {wu:Nat} {xn:U} (ad:σ cU=ch) (ae:σ dX=bU) (aj:σ gT=e8) (aG:σ gc=gW) (bh:σ jN=hZ) (bF:σ jO=fg) (dz:σ iM=mH) (g0:σ oH=jU) (gP:σ rK=r9) (lh:σ wu=xn) :∃ s:bc,σ=bB (bB (bB (bB (bB (bB (bB (bB (bB (bB (s) cU ch) dX bU) gT e8) gc gW) jN hZ) jO fg) iM mH) oH jU) rK r9) wu xn:=⟨σ,by rw[cZ ad,cZ ae,cZ aj,cZ aG,cZ bh,cZ bF,cZ dz,cZ g0,cZ gP,cZ lh]⟩
theorem am6 {σ:bc} {cU:Nat} {ch:U} {dX:Nat} {bU:U} {gT:Nat} {e8:U} {gc:Nat} {gW:U} {jN:Nat} {hZ:U} {jO:Nat} {fg:U} {iM:Nat} {mH:U} {oH:Nat} {jU:U} {rK:Nat} {r9:U} {wu:Nat} {xn:U} {D2:Nat} {Fe:U} (ad:σ cU=ch) (ae:σ dX=bU) (aj:σ gT=e8) (aG:σ gc=gW) (bh:σ jN=hZ) (bF:σ jO=fg) (dz:σ iM=mH) (g0:σ oH=jU) (gP:σ rK=r9) (lh:σ wu=xn) (x7:σ D2=Fe) :∃ s:bc,σ=bB (bB (bB (bB (bB (bB (bB (bB (bB (bB (bB (s) cU ch) dX bU) gT e8) gc gW) jN hZ) jO fg) iM mH) oH jU) rK r9) wu xn) D2 Fe:=⟨σ,by rw[cZ ad,cZ ae,cZ aj,cZ aG,cZ bh,cZ bF,cZ dz,cZ g0,cZ gP,cZ lh,cZ x7]⟩
theorem am7 {σ:bc} {cU:Nat} {ch:U} {dX:Nat} {bU:U} {gT:Nat} {e8:U} {gc:Nat} {gW:U} {jN:Nat} {hZ:U} {jO:Nat} {fg:U} {iM:Nat} {mH:U} {oH:Nat} {jU:U} {rK:Nat} {r9:U} {wu:Nat} {xn:U} {D2:Nat} {Fe:U} {Va:Nat} {Y8:U} (ad:σ cU=ch) (ae:σ dX=bU) (aj:σ gT=e8) (aG:σ gc=gW) (bh:σ jN=hZ) (bF:σ jO=fg) (dz:σ iM=mH) (g0:σ oH=jU) (gP:σ rK=r9) (lh:σ wu=xn) (x7:σ D2=Fe) (KA:σ Va=Y8) :∃ s:bc,σ=bB (bB (bB (bB (bB (bB (bB (bB (bB (bB (bB (bB (s) cU ch) dX bU) gT e8) gc gW) jN hZ) jO fg) iM mH) oH jU) rK r9) wu xn) D2 Fe) Va Y8:=⟨σ,by rw[cZ ad,cZ ae,cZ aj,cZ aG,cZ bh,cZ bF,cZ dz,cZ g0,cZ gP,cZ lh,cZ x7,cZ KA]⟩
section
variable {α:Type}
@[simp] theorem vS (l:ao) (z:Nat) (enc:α->List U) (s:db α) :dD l z (cE z enc s)=some ((s.l.map enc).flatten,s.l.length) :=by
 cases s<;>simp[cE,dD]
end
theorem alX {l:ao} {b:Nat} {c:aV} (h:l[b]? = some c) :l.set b c=l:=by
 apply avf;intro j;rw[avv];by_cases ai:b=j
 ·subst ai; rw[if_pos rfl,if_pos (b6 h)]; exact h.symm
 ·rw[if_neg ai]
theorem aav {l:ao} {z by_ b:Nat} {es xs:List (List U)} {x:U} (ag:l[b]? = some (.cells (es.length*z) es.flatten)) (af:dD l z x=some (xs.flatten,xs.length)) (ax:∀ e∈es,e.length=z) (aI:z≠0) (dQ:by_≠0)
  (dL:(es.length+xs.length)*by_<=cw) :
  gX l z by_ (.aq z b 0 es.length es.length (es.length*z)) x=some (.aq z b 0 (es++xs).length (es++xs).length ((es++xs).length*z),l.set b (.cells ((es++xs).length*z) (es++xs).flatten)) :=by
 unfold gX;rw[af];show jB l z by_ _ xs.flatten xs.length=_;unfold jB;cases xs with
 | nil=>simp[alX ag]
 | cons y bJ=>
  rw[if_neg (by simp),if_neg (by omega)];simp only[ag];rw[if_pos ⟨trivial,trivial,dL⟩,if_neg (by simp),if_neg (by omega),if_pos trivial,aul (by rw[x2 ax]; exact aun _)];simp only[auu,avb]
theorem Px {l:ao} {z by_ b n m sz:Nat} {es xs:List (List U)} {x:U} (ag:l[b]? = some (.cells sz es.flatten)) (af:dD l z x=some (xs.flatten,m)) (aD:es.length=n) (hm:xs.length=m) (ak:sz=n*z) (ax:∀ e∈es,e.length=z) (aI:z≠0) (dQ:by_≠0)
  (dL:(n+m)*by_<=cw) :
  gX l z by_ (.aq z b 0 n n sz) x=some (.aq z b 0 (n+m) (n+m) ((n+m)*z),l.set b (.cells ((n+m)*z) (es++xs).flatten)) :=by
 subst aD hm ak;rw[aav ag af ax aI dQ dL];simp only[auu]
theorem gq {cs vs:List U} (h:vs.length=cs.length) :a8 cs 0 vs=vs:=by
 simp only[a8,avG,avp,avz];rw[au0 (by omega),auV]
theorem P1 (len cap:Nat) (k:IntKind) (i:Int) :gO len cap (some (.int k i)) none none=if 0<=i/\i<=len then some (i.toNat,len,cap) else none:=by
 unfold gO jd;by_cases h:0<=i/\i<=len
 ·simp only[if_pos h]
 ·simp only[if_neg h]
theorem JW (len cap:Nat) (k:IntKind) (i:Int) :gO len cap none (some (.int k i)) none=if 0<=i/\i<=cap then some (0,i.toNat,cap) else none:=by
 unfold gO jd;by_cases h:0<=i/\i<=cap
 ·simp only[if_pos h]
 ·simp only[if_neg h]
theorem aaU (len cap:Nat) (k k' : IntKind) (i j:Int) :gO len cap (some (.int k i)) (some (.int k' j)) none=if 0<=i/\i<=j/\j<=cap then some (i.toNat,j.toNat,cap) else none:=by
 unfold gO jd;by_cases h:0<=j/\j<=cap
 ·simp only[if_pos h];by_cases ae:0<=i/\i<=((j.toNat:Nat) :Int)
  ·simp only[if_pos ae]; rw[if_pos (by omega)]
  ·simp only[if_neg ae]; rw[if_neg (by omega)]
 ·simp only[if_neg h]; rw[if_neg (by omega)]
theorem Yi {α:Type} {z:Nat} {enc:α->List U} {l:List α} {k:IntKind} {i:Int} (ad:0<=i) (ae:i<=l.length) :fl (.aq z) (cE z enc (some l)) (some (.int k i)) none none=some (cE z enc (some (l.drop i.toNat))) :=by
 have aj:i.toNat<=l.length:=by omega
 simp only[fl,cE,if_true,P1,auw];rw[if_pos ⟨ad,ae⟩];simp only[auv,Option.some.injEq,U.aZ.injEq,true_and];rw[aul (by simp),List.map_drop]
theorem Yl {α:Type} {z:Nat} {enc:α->List U} {l:List α} {k:IntKind} {i:Int} (ad:0<=i) (ae:i<=l.length) :fl (.aq z) (cE z enc (some l)) none (some (.int k i)) none=some (cE z enc (some (l.take i.toNat))) :=by
 simp only[fl,cE,if_true,JW,auw];rw[if_pos ⟨ad,ae⟩];simp only[auv,Option.some.injEq,U.aZ.injEq,true_and,avx,awD];rw[awK]
theorem Yj {α:Type} {z:Nat} {enc:α->List U} {l:List α} {k k' : IntKind} {i j:Int} (aI:0<=i) (ad:i<=j) (ae:j<=l.length) :fl (.aq z) (cE z enc (some l)) (some (.int k i)) (some (.int k' j)) none=some (cE z enc (some ((l.drop i.toNat).take (j.toNat - i.toNat)))) :=by
 simp only[fl,cE,if_true,aaU,auw];rw[if_pos ⟨aI,ad,ae⟩];simp only[auv,Option.some.injEq,U.aZ.injEq,true_and];rw[awK,List.map_drop]
theorem map_set {α:Type} (l:List α) (k:Nat) (x:α) (enc:α->List U) :(l.map enc).set k (enc x)=(l.set k x).map enc:=by rw[List.map_set]
end

section
variable {P:Program}
def YD (P:Program) (t:TypeId) :Option (List TypeId) :=match P.underlying t with
 | some (.struct fs)=>some (fs.toList.map (·.type))
 | _=>none
theorem I3 {cs:List U} (h:dR P [] cs) :cs=[] :=by cases h; rfl
theorem xj {t:TypeId} {k:IntKind} {ts:List TypeId} {cs:List U} (aM:P.underlying t=some (.int k)) (h:dR P (t::ts) cs) :∃ n cs',cs=.int k n::cs'/\k.min<=n/\n<=k.max/\dR P ts cs':=by
 cases h
 case int k' n cs' ad ae qo h=>
  rw[aM] at qo; cases qo; exact⟨_,_,rfl,ad,ae,h⟩
 all_goals (exfalso; simp_all; done)
theorem zn {t:TypeId} {fs ts:List TypeId} {cs:List U} (aM:YD P t=some fs) (h:dR P (t::ts) cs) :dR P (fs++ts) cs:=by
 unfold YD at aM;cases h
 case struct apO qo h=>rw[qo] at aM; cases aM; exact h
 all_goals (exfalso; simp_all; done)
theorem amU {t e:TypeId} {n:Nat} {ts:List TypeId} {cs:List U} (aM:P.underlying t=some (.array n e)) (h:dR P (t::ts) cs) :dR P (List.replicate n e++ts) cs:=by
 cases h
 case array fF hH qo h=>rw[aM] at qo; cases qo; exact h
 all_goals (exfalso; simp_all; done)
theorem amY {t e:TypeId} {ts:List TypeId} {cs:List U} (aM:P.underlying t=some (.slice e)) (h:dR P (t::ts) cs) :
  ∃ cs',dR P ts cs'/\(cs=.aH::cs'\/∃ es,cs=.aZ (P.cellsOf e) es::cs'/\es.length<=maxLen/\∀ r∈es,dR P [e] r) :=by
 cases h
 case aH fF cs' qo h=>exact⟨_,h,.inl rfl⟩
 case aq fF es cs' al ax am qo h=>rw[aM] at qo; cases qo; exact⟨_,h,.inr ⟨es,rfl,al,am⟩⟩
 all_goals (exfalso; simp_all; done)
theorem XY {α:Type} {enc:α->List U} {Q:α->Prop}:∀ (es:List (List U)),(∀ r∈es,∃ x,r=enc x/\Q x)->∃ xs:List α,es=xs.map enc/\∀ x∈xs,Q x
 | [],_=>⟨[],rfl,fun x af=>by cases af⟩
 | r::es,h=>by
  obtain⟨x,rfl,af⟩:=h r (by simp);obtain⟨xs,rfl,AY⟩:=XY es (fun r az=>h r (by simp[az]));exact⟨x::xs,rfl,fun y aJ=>by
   rcases avn.1 aJ with rfl | aJ
   ·exact af
   ·exact AY y aJ⟩
theorem OC {α:Type} {t e:TypeId} {z:Nat} {enc:α->List U} {Q:α->Prop} {ts:List TypeId} {cs:List U} (aM:P.underlying t=some (.slice e)) (ax:P.cellsOf e=z) (am:∀ r,dR P [e] r->∃ x,r=enc x/\Q x) (h:dR P (t::ts) cs) :
  ∃ (s:db α) (cs' : List U),cs=cE z enc s::cs'/\s.l.length<=maxLen/\(∀ x∈s.l,Q x)/\dR P ts cs':=by
 obtain⟨cs',ad,rfl | ⟨es,rfl,al,az⟩⟩:=amY aM h
 ·exact⟨none,cs',rfl,avu _,fun x af=>(by cases af),ad⟩
 ·obtain⟨xs,rfl,AY⟩:=XY (enc:=enc) (Q:=Q) es (fun r ph=>am r (az r ph));refine⟨some xs,cs',?_,by simpa using al,AY,ad⟩;rw[ax]; rfl
theorem amR {t:TypeId} {c:U} (aC:eJ P t=some true) (h:tL P t c) :∃ cs,c=.aF cs/\dR P [t] cs:=by
 unfold tL at h; rw[aC] at h; exact h
theorem amS {t:TypeId} {c:U} (aC:eJ P t=some false) (h:tL P t c) :dR P [t] [c] :=by
 unfold tL at h; rw[aC] at h; exact h
theorem Y0 {t:TypeId} {ts:List TypeId} {cs:List U} (h:mL P (t::ts) cs) :∃ c cs',cs=c::cs'/\tL P t c/\mL P ts cs':=by
 cases h with
 | cons ad ae=>exact⟨_,_,rfl,ad,ae⟩
theorem amP {cs:List U} (h:mL P [] cs) :cs=[] :=by cases h; rfl
end

end Go.b0

namespace Go.b0
open Go Go.ChangeShapes Go.RowKit
theorem YV {H:Type} {enc:TypeId × Value->H} {P:Program} (al:laidOutB P=true) {W e2:World} (ag:Below W.heap.size W e2) :∀ {ts:List TypeId} {vs:List Value} {ix:List (DataW H)} {ps:List MemPlace},
  (∀ t∈ts,P.readableRec t=true/\t<P.types.size)->DataW.TrodAll enc P W 0 (fun _=>true) true ts vs ix ps->DataW.TrodAll enc P e2 0 (fun b=>decide (b<W.heap.size)) true ts vs ix ps
 | [],vs,ix,ps,_,h=>by
  obtain⟨rfl,rfl,rfl⟩:=trodAll_nil h;exact trodAll_mk0
 | t::ts,vs,ix,ps,az,h=>by
  have aL:=h.lt;obtain⟨v,anq,d,acb,a,b,rfl,rfl,rfl,ad,ae⟩:=trodAll_cons h;exact⟨a,b,Below.trod al (az t (by simp)).1 (az t (by simp)).2 ad ag (fun x af=>aL x (by simp[af])),YV al ag (fun t aW=>az t (by simp[aW])) ae,rfl⟩
theorem ais {P:Program} {G:Nat->U} (fH:P.follows .mixedOrders=true) (ij:∀ g,(G g).closed=true) {f:FuncId} {ts:List TypeId} (D:Nat) (av:∀ t∈ts,u1 P D t=true) (afy:laidOutB P=true)
  (cA:∀ t∈ts,P.readableRec t=true/\t<P.types.size) (aiq:∀ cs,mL P ts cs->c0 P G f cs [] (c:=⟨fun r _=>r=.bool true⟩))
  {H:Type} {enc:TypeId × Value->H} {W:World} {hL:Nat} {args:Array Value} {ix:List (DataW H)} {ps:List MemPlace} (aw:∀ g,ed W (fun _=>True) (G g) (.pointer (some ⟨g,0,none⟩)))
  (c4:∀ (j:Nat) t v,ts[j]? = some t->args[j]? = some v->Value.okWide P W .any hL t v) (h:DataW.TrodAll enc P W 0 (fun _=>true) true ts args.toList ix ps) :
  Calls P f args W fun e w'=>e=.returned (.bool true)/\Below W.heap.size W w'/\DataW.TrodAll enc P w' 0 (fun b=>decide (b<W.heap.size)) true ts args.toList ix ps:=by
 obtain⟨cs,AO,bC,uF⟩:=PC (A:=fun _=>True) (fun _=>trivial) av (fun j t v aW ap=>c4 j t v aW (by simpa using ap)) h;exact (air fH ij (aiq cs AO) aw (by rw[bC]; simp) (fun j c v ah ap=>uF j c v ah (by simpa using ap))).mono fun e w' ⟨am,ag⟩=>⟨am,ag,YV afy ag cA h⟩
end Go.b0

/-
  The canonical machine, part X: what must hold behind code without types holds behind the code.
-/
import Derived.Test.YtobphgccoalchaaGreatDoorUd
import GoSem.ClaimChange
import GoSem.ClaimWide
import Derived.ProofKit
set_option linter.unusedVariables false
set_option linter.unusedSimpArgs false
set_option linter.unnecessarySimpa false
namespace Go.cb
open Go
section
variable {P:Program} {G:Nat->U}
theorem S7 {op:Op} {m:dy} (hm:nV P op=some m) (ao:k6 op=false) :m.looks=true\/m.jl=true:=by
 cases op<;>simp only[k6,ayG,reduceCtorEq] at ao<;>simp only[nV] at hm<;>try (cases hm; done)
 case move=>cases hm; exact .inl rfl
 case assign=>cases hm; exact .inl rfl
 case pick=>cases hm; exact .inl rfl
 case alloc=>rw[map_some] at hm; obtain⟨_,_,rfl⟩:=hm; exact .inr rfl
 case box=>cases hm; exact .inr rfl
 case build=>simp only[bind_some,map_some] at hm; obtain⟨_,_,_,_,rfl⟩:=hm; exact .inl rfl
 case buildSlice=>simp only[bind_some,iI] at hm; obtain⟨_,_,_,_,_,_,_,rfl⟩:=hm; exact .inr rfl
 case load=>split at hm<;>cases hm<;>exact .inl rfl
 case nilCheck=>cases hm; exact .inl rfl
 case binOp=>cases hm; exact .inl rfl
 case unOp=>cases hm; exact .inl rfl
 case convert=>
  repeat' split at hm
  all_goals first | (cases hm; done) | (cases hm; exact .inl rfl)
 case makeInterface=>split at hm<;>cases hm; exact .inl rfl
 case makeFunc f a b=>cases f<;>simp only at hm<;>cases hm; exact .inl rfl
 case makeSlice=>simp only[bind_some,iI] at hm; obtain⟨_,_,_,_,_,_,_,_,_,rfl⟩:=hm; exact .inr rfl
 case slice=>rw[map_some] at hm; obtain⟨_,_,rfl⟩:=hm; exact .inl rfl
 case fieldAddr=>rw[bind_some] at hm; obtain⟨_,_,hm⟩:=hm; split at hm<;>cases hm; exact .inl rfl
 case field=>rw[bind_some] at hm; obtain⟨_,_,hm⟩:=hm; split at hm<;>cases hm<;>exact .inl rfl
 case indexAddr=>split at hm<;>cases hm<;>exact .inl rfl
 case index=>
  repeat' split at hm
  all_goals first | (cases hm; done) | (cases hm; exact .inl rfl)
 case extract=>cases hm; exact .inl rfl
 case call c=>
  split at hm
  ·rename_i b ag;rw[ag] at ao;cases b<;>simp only[ayG,reduceCtorEq] at ao<;>unfold wx at hm<;>(repeat' split at hm)<;>first
    | (cases hm; done)
    | (cases hm; exact .inl rfl)
    | (rw[map_some] at hm; obtain⟨_,_,rfl⟩:=hm; exact .inl rfl)
    | (exfalso; simp only[reduceCtorEq] at *; done)
  ·rename_i f aF;rw[aF] at ao; cases ao
  ·cases hm
theorem S8 {op:Op} {m:dy} (hm:nV P op=some m) (aI:ud P op=false) :m.reads=false/\m.jl=false:=by
 cases op<;>simp only[ud,ayG,reduceCtorEq] at aI<;>simp only[nV] at hm<;>try (cases hm; done)
 case move=>cases hm; exact⟨rfl,rfl⟩
 case assign=>cases hm; exact⟨rfl,rfl⟩
 case pick=>cases hm; exact⟨rfl,rfl⟩
 case build=>simp only[bind_some,map_some] at hm; obtain⟨_,_,_,_,rfl⟩:=hm; exact⟨rfl,rfl⟩
 case store=>rw[map_some] at hm; obtain⟨_,_,rfl⟩:=hm; exact⟨rfl,rfl⟩
 case nilCheck=>cases hm; exact⟨rfl,rfl⟩
 case binOp=>cases hm; exact⟨rfl,rfl⟩
 case unOp=>cases hm; exact⟨rfl,rfl⟩
 case makeInterface=>split at hm<;>cases hm; exact⟨rfl,rfl⟩
 case makeFunc f a b=>cases f<;>simp only at hm<;>cases hm; exact⟨rfl,rfl⟩
 case typeAssert=>rw[map_some] at hm; obtain⟨_,_,rfl⟩:=hm; exact⟨rfl,rfl⟩
 case slice=>rw[map_some] at hm; obtain⟨_,_,rfl⟩:=hm; exact⟨rfl,rfl⟩
 case fieldAddr=>rw[bind_some] at hm; obtain⟨_,_,hm⟩:=hm; split at hm<;>cases hm; exact⟨rfl,rfl⟩
 case field=>rw[bind_some] at hm; obtain⟨_,_,hm⟩:=hm; split at hm<;>cases hm<;>exact⟨rfl,rfl⟩
 case indexAddr=>split at hm<;>cases hm<;>exact⟨rfl,rfl⟩
 case index=>
  repeat' split at hm
  all_goals first | (cases hm; done) | (cases hm; exact⟨rfl,rfl⟩)
 case extract=>cases hm; exact⟨rfl,rfl⟩
 case next it b=>cases b<;>simp only[reduceCtorEq] at hm<;>cases hm; exact⟨rfl,rfl⟩
 case panic=>cases hm; exact⟨rfl,rfl⟩
 case lookup=>split at hm<;>(try cases hm; done); rw[map_some] at hm; obtain⟨_,_,rfl⟩:=hm; exact⟨rfl,rfl⟩
 case mapUpdate=>split at hm<;>cases hm; exact⟨rfl,rfl⟩
 case insert=>split at hm<;>cases hm; exact⟨rfl,rfl⟩
 case makeMap=>split at hm<;>cases hm; exact⟨rfl,rfl⟩
 case range=>split at hm<;>cases hm; exact⟨rfl,rfl⟩
 case call c=>
  split at hm
  ·rename_i b ag;rw[ag] at aI;unfold wx at hm
   repeat' split at hm
   all_goals first
    | (cases hm; done)
    | (exfalso; simp_all; done)
    | (cases hm; exact⟨rfl,rfl⟩)
    | (simp only[bind_some,map_some] at hm; obtain⟨_,_,rfl⟩:=hm; exact⟨rfl,rfl⟩)
    | (simp only[bind_some,map_some] at hm; obtain⟨_,_,_,_,rfl⟩:=hm; exact⟨rfl,rfl⟩)
    | (simp only[bind_some,iI] at hm; obtain⟨_,_,_,_,_,_,_,rfl⟩:=hm; exact⟨rfl,rfl⟩)
    | (simp only[bind_some,iI] at hm; obtain⟨_,_,_,_,_,_,_,_,_,rfl⟩:=hm; exact⟨rfl,rfl⟩)
  ·split at hm
   ·rw[iI] at hm; obtain⟨_,rfl⟩:=hm; exact⟨rfl,rfl⟩
   ·cases hm
  ·cases hm
inductive nJ (P:Program) (G:Nat->U) (s:eJ) (o:Oper) (ae:bg) (l:am) (v:U) (l1:am) :bR->Prop
 | pure (m:dy) (ag:s.b=.g5 m) (hm:m.looks=true) (al:l1=l) (ak:bU P (da G ae) l m=some (v,l)) :nJ P G s o ae l v l1 (.pure s.i v)
 | new (m:dy) (cs:List U) (ag:s.b=.g5 m) (hm:m.jl=true) (al:l1=l++[.cells cs.length cs]) :nJ P G s o ae l v l1 (.new s.i v cs)
 | gO (ao:k6 o.op=true) (bn:l.length<=l1.length) :nJ P G s o ae l v l1 (.gO s.i v (bW l1))
theorem nJ.idx {s:eJ} {o:Oper} {ae:bg} {l l1:am} {v:U} {t:bR} (k:nJ P G s o ae l v l1 t) :t.idx=s.i:=by cases k<;>rfl
theorem nJ.val {s:eJ} {o:Oper} {ae:bg} {l l1:am} {v:U} {t:bR} (k:nJ P G s o ae l v l1 t) :t.val=v:=by cases k<;>rfl
theorem nJ.next {s:eJ} {o:Oper} {ae:bg} {l l1:am} {v:U} {t:bR} (k:nJ P G s o ae l v l1 t) :q2 (bW l) t=bW l1:=by
 cases k with
 | pure m ag hm al ak=>rw[al]; rfl
 | new m cs ag hm al=>rw[al,<-lO]; rfl
 | gO ao _=>rfl
theorem anA {ops:Array Oper} {s:eJ} {o:Oper} (ok:qc P ops s o) {ae:bg} (hw:ll ops ae o=some true) {l:am} {K:U->am->Prop} (h:ih P G s.b ae l K) :
  ∃ v l1 t,nJ P G s o ae l v l1 t/\x8 P G ops ⟨ae,bW l⟩ t/\K v l1:=by
 obtain⟨v,l1,h1,ad,aj,aE⟩:=ZM ok h;have lr:k6 o.op=true->∃ v l1 t,nJ P G s o ae l v l1 t/\x8 P G ops ⟨ae,bW l⟩ t/\K v l1:=fun ao=>⟨v,l1,_,.gO ao ad,⟨o,ok.here,hw,h1,by simpa using ad⟩,aj⟩
 cases ag:s.b with
 | g5 m=>
  have hm:=ok.g5 m ag;cases ao:k6 o.op with
  | true=>exact lr ao
  | false=>
   have ak:=aE m ag (S7 hm ao);rcases S7 hm ao with al | aC
   ·have:=Xn al ak;subst this;exact⟨v,l1,_,.pure m ag al rfl ak,⟨o,ok.here,hw⟩,aj⟩
   ·obtain⟨cs,mk,aX,bw,c5⟩:=akf hm aC ak;exact⟨v,l1,_,.new m cs ag aC c5,⟨o,mk,ok.here,hw,aX,bw⟩,aj⟩
 | m8 f args=>
  obtain⟨c,gk,ah,_⟩:=ok.m8 f args ag;exact lr (by rw[gk]; simp only[k6,ah])
 | nR x args=>
  obtain⟨c,gk,ah,_⟩:=ok.nR x args ag;exact lr (by rw[gk]; simp only[k6,ah])
 | oM x name args=>
  obtain⟨c,gk,ah,_⟩:=ok.oM x name args ag;exact lr (by rw[gk]; simp only[k6,ah])
inductive kN (P:Program) (G:Nat->U) (ops:Array Oper) :List eJ->bg->am->iN->List (bR × bg × am)->bg->am->Prop
 | nil {ae l seen}:kN P G ops [] ae l seen [] ae l
 | skip {s o r ae l seen es b6 l'}:qc P ops s o->ll ops ae o=some false->kN P G ops r (hD ae s.dst hF) l seen es b6 l'->kN P G ops (s::r) ae l seen ((.skip s.i,ae,l) ::es) b6 l'
 | step {s o r ae l v l1 t seen es b6 l'}:qc P ops s o->nJ P G s o ae l v l1 t->x8 P G ops ⟨ae,bW l⟩ t->qi s.hL seen l1->
   kN P G ops r (hD ae s.dst v) l1 (sr s.cx s.i (mr P G s.b ae v l l1) seen) es b6 l'->kN P G ops (s::r) ae l seen ((t,ae,l) ::es) b6 l'
theorem OC {ops:Array Oper} {K:bg->am->Prop}:∀ {s:List eJ} {ae:bg} {l:am} {seen:iN},(∀ x∈s,∃ o,qc P ops x o)->ki P G s ae l seen K->∃ es b6 l',kN P G ops s ae l seen es b6 l'/\K b6 l'
 | [],ae,l,seen,_,h=>⟨[],ae,l,.nil,h⟩
 | s::r,ae,l,seen,c1,h=>by
  obtain⟨o,ok⟩:=c1 s (by simp);rcases WW ok h with ⟨hw,h⟩ | ⟨hw,h⟩
  ·obtain⟨v,l1,t,h1,ad,aj,aE⟩:=anA ok hw h;obtain⟨es,b6,l',aX,bw⟩:=OC (fun x af=>c1 x (by simp[af])) aE;exact⟨_,b6,l',.step ok h1 ad aj aX,bw⟩
  ·obtain⟨es,b6,l',aX,bw⟩:=OC (fun x af=>c1 x (by simp[af])) h;exact⟨_,b6,l',.skip ok hw aX,bw⟩
theorem OE {K:bg->am->Prop}:∀ {s:List eJ} {ae:bg} {l:am},(∀ x∈s,x.cx=false)->jV P G s ae l K->ki P G s ae l [] K
 | [],ae,l,_,h=>h
 | s::r,ae,l,hk,h=>by
  have mono:∀ (b:rl) (K gS:U->am->Prop),(∀ v l,K v l->gS v l)->ih P G b ae l K->ih P G b ae l gS:=by
   intro b K gS aY h;cases b with
   | g5 m=>simp only[ih,Ac] at h ⊢; obtain⟨v,h1,ad⟩:=h; exact⟨v,h1,Xb aY ad⟩
   | m8 f args=>obtain⟨r,l',h1,ad,aj⟩:=h; exact⟨r,l',h1,ad,aY _ _ aj⟩
   | nR x args=>
    simp only[ih,wj] at h ⊢;split at h
    ·obtain⟨aD,r,l',h1,ad,aj⟩:=h; exact⟨aD,r,l',h1,ad,aY _ _ aj⟩
    ·cases h
   | oM x name args=>
    simp only[ih,wi] at h ⊢;split at h
    ·split at h
     ·obtain⟨aD,r,l',h1,ad,aj⟩:=h; exact⟨aD,r,l',h1,ad,aY _ _ aj⟩
     ·cases h
    ·cases h
  have aeE:∀ (g:Option (Option Tmp × Bool)) (p q bV fR:Prop),(p->bV)->(q->fR)->qZ ae g p q->qZ ae g bV fR:=by
   intro g p q bV fR ay aW h;unfold qZ at h ⊢;split at h
   ·exact ay h
   ·rename_i d w;simp only[r4] at h ⊢;split at h
    ·rw[Es] at h ⊢;rcases h with ⟨a,b⟩ | ⟨a,b⟩
     ·exact .inl ⟨a,ay b⟩
     ·exact .inr ⟨a,aW b⟩
    ·cases h
    ·exact aW h
   ·exact aW h
  have pB:s.cx=false:=hk s (by simp);refine aeE _ _ _ _ _ (mono _ _ _ fun v l' h=>?_) (fun h=>OE (fun x af=>hk x (by simp[af])) h) h;refine⟨trivial,?_⟩;rw[pB];exact OE (fun x af=>hk x (by simp[af])) h
theorem nJ.len {s:eJ} {o:Oper} {ae:bg} {l l1:am} {v:U} {t:bR} (k:nJ P G s o ae l v l1 t) :l.length<=l1.length:=by
 cases k with
 | pure m ag hm al ak=>rw[al]; exact avR _
 | new m cs ag hm al=>rw[al]; simp
 | gO ao bn=>exact bn
theorem kN.len {ops:Array Oper} {s:List eJ} {ae b6:bg} {l l' : am} {seen:iN} {es:List (bR × bg × am)} (h:kN P G ops s ae l seen es b6 l') :l.length<=l'.length:=by
 induction h with
 | nil=>exact avR _
 | skip _ _ _ aJ=>exact aJ
 | step _ k _ _ _ aJ=>exact axc k.len aJ
def u3 (es:List (bR × bg × am)) (l' : am) (q:Nat) :am:=match es[q]? with | some x=>x.2.2 | none=>l'
theorem kN.here {ops:Array Oper} {s:List eJ} {ae b6:bg} {l l' : am} {seen:iN} {es:List (bR × bg × am)} (h:kN P G ops s ae l seen es b6 l') :u3 es l' 0=l:=by
 cases h<;>rfl
theorem kN.idx {ops:Array Oper} {s:List eJ} {ae b6:bg} {l l' : am} {seen:iN} {es:List (bR × bg × am)} (h:kN P G ops s ae l seen es b6 l') :es.map (fun e=>e.1.idx)=s.map (·.i) :=by
 induction h with
 | nil=>rfl
 | skip _ _ _ aJ=>simp only[awn,aJ]; rfl
 | step _ k _ _ _ aJ=>simp only[awn,aJ,k.idx]
theorem kN.at {ops:Array Oper} {s:List eJ} {ae b6:bg} {l l' : am} {seen:iN} {es:List (bR × bg × am)} (h:kN P G ops s ae l seen es b6 l') :
  (∀ (p:Nat) (e:bR × bg × am),es[p]? = some e->x8 P G ops ⟨e.2.1,bW e.2.2⟩ e.1/\g8 ops ⟨ae,bW l⟩ (es.map (·.1)) p=⟨e.2.1,bW e.2.2⟩)/\g8 ops ⟨ae,bW l⟩ (es.map (·.1)) es.length=⟨b6,bW l'⟩:=by
 induction h with
 | nil=>exact⟨fun p e ao=>by simp at ao,rfl⟩
 | @skip s o r ae l seen es b6 l' ok hw _ aJ=>
  have iv:mZ ops ⟨ae,bW l⟩ (.skip s.i)=⟨hD ae s.dst hF,bW l⟩:=by simp only[mZ,yj,bR.idx,ok.here,axv,bR.val,q2,ok.dst]
  refine⟨fun p e ao=>?_,?_⟩
  ·cases p with
   | zero=>simp only[awk,Option.some.injEq] at ao; subst ao; exact⟨⟨o,ok.here,hw⟩,rfl⟩
   | succ p=>
    simp only[awx] at ao;obtain⟨h1,ad⟩:=aJ.1 p e ao;refine⟨h1,?_⟩;rw[awn,I8,iv]; exact ad
  ·rw[awn,awa,I8,iv]; exact aJ.2
 | @step s o r ae l v l1 t seen es b6 l' ok k ak ah _ aJ=>
  have iv:mZ ops ⟨ae,bW l⟩ t=⟨hD ae s.dst v,bW l1⟩:=by simp only[mZ,yj,k.idx,ok.here,axv,k.val,k.next,ok.dst]
  refine⟨fun p e ao=>?_,?_⟩
  ·cases p with
   | zero=>simp only[awk,Option.some.injEq] at ao; subst ao; exact⟨ak,rfl⟩
   | succ p=>
    simp only[awx] at ao;obtain⟨h1,ad⟩:=aJ.1 p e ao;refine⟨h1,?_⟩;rw[awn,I8,iv]; exact ad
  ·rw[awn,awa,I8,iv]; exact aJ.2
theorem kN.still {ops:Array Oper} {s:List eJ} {ae b6:bg} {l l' : am} {seen:iN} {es:List (bR × bg × am)} (h:kN P G ops s ae l seen es b6 l') (j:Nat) (S:am->Prop)
  (qF:∀ l x,S l->S (l++x)) (aD:S l) :∀ q,q<=es.length->(∀ (p:Nat) (e:bR × bg × am),p<q->es[p]? = some e->e.1.jQ=true->(j,S)∈seen/\∃ x,s[p]? = some x/\j∈x.hL)->S (u3 es l' q) :=by
 have acN:∀ {ids:List Nat} {seen:iN} {l:am},qi ids seen l->(j,S)∈seen->j∈ids->S l:=by
  intro ids seen l ah hm av
  induction seen with
  | nil=>cases hm
  | cons e r aJ=>
   obtain⟨h1,ad⟩:=ah;rcases awA.1 hm with rfl | hm
   ·exact h1 (by simpa using av)
   ·exact aJ ad hm
 induction h with
 | nil=>
  intro q aW _; simp only[awu] at aW; obtain rfl:q=0:=by omega
  exact aD
 | @skip s o r ae l seen es b6 l' ok hw _ aJ=>
  intro q aW AN;cases q with
  | zero=>exact aD
  | succ q=>exact aJ aD q (by simpa using aW) (fun p e ay ao e6=>by
    obtain⟨h1,x,ad,aj⟩:=AN (p+1) e (by omega) (by simpa using ao) e6;exact⟨h1,x,by simpa using ad,aj⟩)
 | @step s o r ae l v l1 t seen es b6 l' ok k ak ah _ aJ=>
  intro q aW AN;cases q with
  | zero=>exact aD
  | succ q=>
   have h1:S l1:=by
    cases k with
    | pure m ag hm al _=>rw[al]; exact aD
    | new m cs ag hm al=>rw[al]; exact qF _ _ aD
    | gO ao _=>
     obtain⟨h1,x,ad,aj⟩:=AN 0 _ (by omega) rfl rfl;simp only[awk,Option.some.injEq] at ad;subst ad;exact acN ah h1 aj
   refine aJ h1 q (by simpa using aW) (fun p e ay ao e6=>?_);obtain⟨h1,x,ad,aj⟩:=AN (p+1) e (by omega) (by simpa using ao) e6;refine⟨?_,x,by simpa using ad,aj⟩;unfold sr;cases s.cx with
   | false=>exact h1
   | true=>exact ays _ h1
theorem kN.split {ops:Array Oper} {s:List eJ} {ae b6:bg} {l l' : am} {seen:iN} {es:List (bR × bg × am)} (h:kN P G ops s ae l seen es b6 l') :∀ (p:Nat) (e:bR × bg × am),es[p]? = some e->e.1.vl=false->
  ∃ x o v l1 xM,s[p]? = some x/\qc P ops x o/\nJ P G x o e.2.1 e.2.2 v l1 e.1 ∧
   kN P G ops (s.drop (p+1)) (hD e.2.1 x.dst v) l1 (sr x.cx x.i (mr P G x.b e.2.1 v e.2.2 l1) xM) (es.drop (p+1)) b6 l':=by
 induction h with
 | nil=>intro p e ao; simp at ao
 | @skip s o r ae l seen es b6 l' ok hw _ aJ=>
  intro p e ao ha;cases p with
  | zero=>simp only[awk,Option.some.injEq] at ao; subst ao; cases ha
  | succ p=>
   obtain⟨x,cO,v,l1,xM,h1,ad,aj,aE⟩:=aJ p e (by simpa using ao) ha;exact⟨x,cO,v,l1,xM,by simpa using h1,ad,aj,by simpa using aE⟩
 | @step s o r ae l v l1 t seen es b6 l' ok k ak ah tr aJ=>
  intro p e ao ha;cases p with
  | zero=>
   simp only[awk,Option.some.injEq] at ao; subst ao;exact⟨s,o,v,l1,seen,rfl,ok,k,by simpa using tr⟩
  | succ p=>
   obtain⟨x,cO,v,l1,xM,h1,ad,aj,aE⟩:=aJ p e (by simpa using ao) ha;exact⟨x,cO,v,l1,xM,by simpa using h1,ad,aj,by simpa using aE⟩
end

section
variable {P:Program} {G:Nat->U}
theorem Yf {ms:List Nat} {ops:Array Oper}:∀ (kF done lr:List Nat),(∀ i∈kF,i<ops.size)->(o7 P ms ops kF done lr).map (·.1)=kF
 | [],_,_,_=>rfl
 | i::r,done,lr,h=>by
  unfold o7;have av:i<ops.size:=h i (by simp);rw[axk av];simp only;split<;>simp only[awn]<;>rw[Yf r _ _ fun j ai=>h j (by simp[ai])]
theorem N6 {ms:List Nat} {ops:Array Oper}:∀ (kF done lr:List Nat) (p i:Nat) (hL:List Nat),(∀ i∈kF,i<ops.size)->(o7 P ms ops kF done lr)[p]? = some (i,hL)->
  (∃ o,ops[i]? = some o/\k6 o.op=true)->∀ j,(j∈done\/∃ gw,gw<p/\kF[gw]? = some j)->(∃ o,ops[j]? = some o/\ud P o.op=true)->(∀ e∈lr,pS ms e j=false)->
  (∀ (bV fU:Nat) (o:Oper),bV<=p->kF[bV]? = some fU->ops[fU]? = some o->k6 o.op=true->(bV=p\/o.guard=none)->pS ms fU j=false)->j∈hL
 | [],done,lr,p,i,hL,_,ay,_,_,_,_,_,_=>by simp[o7] at ay
 | x::r,done,lr,p,i,hL,oi,ay,ao,j,ai,aI,Hh,Bb=>by
  unfold o7 at ay;have af:x<ops.size:=oi x (by simp);rw[axk af] at ay;have Ms:ops[x]? = some ops[x] :=axk af;simp only at ay;have az:∀ i∈r,i<ops.size:=fun j ai=>oi j (by simp[ai])
  cases e6:k6 ops[x].op with
  | true=>
   rw[e6] at ay;simp only at ay;cases p with
   | zero=>
    simp only[awk,Option.some.injEq,Prod.mk.injEq] at ay;obtain⟨rfl,rfl⟩:=ay;obtain⟨o,h1,ad⟩:=aI;rcases ai with ai | ⟨gw,V5,_⟩
    ·refine awP.2 ⟨ai,?_⟩;simp only[h1,ad,awL,ay9,avU,awG];exact⟨by simp[Bb 0 x ops[x] (avR _) (by simp) Ms e6 (.inl rfl)],fun e ao=>by simp[Hh e ao]⟩
    ·omega
   | succ p=>
    simp only[awx] at ay;refine N6 r _ _ p i hL az ay ao j ?_ aI ?_ ?_
    ·rcases ai with ai | ⟨gw,V5,ai⟩
     ·exact .inl (by simp[ai])
     ·cases gw with
      | zero=>simp only[awk,Option.some.injEq] at ai; exact .inl (by simp[ai])
      | succ gw=>exact .inr ⟨gw,by omega,by simpa using ai⟩
    ·intro e gn;cases aq:ops[x].guard with
     | none=>
      rw[aq] at gn;rcases awA.1 gn with rfl | gn
      ·exact Bb 0 e ops[e] (by omega) (by simp) Ms e6 (.inr aq)
      ·exact Hh e gn
     | some k8=>rw[aq] at gn; exact Hh e gn
    ·intro bV fU o gp fq ap uU aq;exact Bb (bV+1) fU o (by omega) (by simpa using fq) ap uU (by rcases aq with rfl | aq; exact .inl rfl; exact .inr aq)
  | false=>
   rw[e6] at ay;simp only at ay;cases p with
   | zero=>
    simp only[awk,Option.some.injEq,Prod.mk.injEq] at ay;obtain⟨rfl,rfl⟩:=ay;obtain⟨o,h1,ad⟩:=ao;rw[Ms] at h1; cases h1;rw[e6] at ad; cases ad
   | succ p=>
    simp only[awx] at ay;refine N6 r _ _ p i hL az ay ao j ?_ aI Hh ?_
    ·rcases ai with ai | ⟨gw,V5,ai⟩
     ·exact .inl (by simp[ai])
     ·cases gw with
      | zero=>simp only[awk,Option.some.injEq] at ai; exact .inl (by simp[ai])
      | succ gw=>exact .inr ⟨gw,by omega,by simpa using ai⟩
    ·intro bV fU o gp fq ap uU aq;exact Bb (bV+1) fU o (by omega) (by simpa using fq) ap uU (by rcases aq with rfl | aq; exact .inl rfl; exact .inr aq)
theorem Tm {ms:List Nat} {ops:Array Oper}:∀ {kF:List Nat},CY ms ops kF=true->∀ (p bV i j:Nat) (o:Oper),kF[p]? = some i->kF[bV]? = some j->p<bV->ops[i]? = some o->k6 o.op=true->pS ms j i=true
 | [],_,p,bV,i,j,o,ay,_,_,_,_=>by simp at ay
 | x::r,h,p,bV,i,j,o,ay,gp,aM,ap,ao=>by
  simp only[CY,avU] at h;cases bV with
  | zero=>omega
  | succ bV=>
   simp only[awx] at gp;cases p with
   | zero=>
    simp only[awk,Option.some.injEq] at ay;subst ay;rw[ap] at h;simp only[ao,Bool.not_true,ax5,awG] at h;exact h.1 j (avY gp)
   | succ p=>exact Tm h.2 p bV i j o (by simpa using ay) gp (by omega) ap ao
theorem Ih {α ko:Type} {f:α->Option ko}:∀ {l:List α} {r:List ko},l.mapM f=some r->∀ (p:Nat) (x:ko),r[p]? = some x->∃ a,l[p]? = some a/\f a=some x
 | [],r,h,p,x,af=>by simp at h; subst h; simp at af
 | a::l,r,h,p,x,af=>by
  rw[axx] at h;simp only[Option.bind_eq_bind,bind_some,axH,Option.some.injEq] at h;obtain⟨b,h1,ct,ad,rfl⟩:=h;cases p with
  | zero=>simp only[awk,Option.some.injEq] at af; subst af; exact⟨a,rfl,h1⟩
  | succ p=>obtain⟨fl,aj,aE⟩:=Ih ad p x (by simpa using af); exact⟨fl,by simpa using aj,aE⟩
theorem NE {α ko:Type} {f:α->Option ko}:∀ {l:List α} {r:List ko},l.mapM f=some r->r.length=l.length
 | [],r,h=>by simp at h; subst h; rfl
 | a::l,r,h=>by
  rw[axx] at h;simp only[Option.bind_eq_bind,bind_some,axH,Option.some.injEq] at h;obtain⟨b,h1,ct,ad,rfl⟩:=h;simp[NE ad]
theorem agr (es:List (bR × bg × am)) (l' : am) (n q:Nat) :u3 (es.drop n) l' q=u3 es l' (n+q) :=by
 unfold u3; rw[awv]
theorem adt {id N' : Nat} {ops:Array Oper} {xQ:List eJ} (bC:∀ (i:Nat) (o:Oper),ops[i]? = some o->qm N' o.dst=true)
  (oi:NV (iW ops) ops (fT (iW ops) ops)=true) (agq:CY (iW ops) ops (fT (iW ops) ops)=true)
  (ci:(o7 P (iW ops) ops (fT (iW ops) ops) [] []).mapM (fun p=>Fh P ops p.1 p.2 (((o7 P (iW ops) ops (fT (iW ops) ops) [] []).flatMap (·.2)).contains p.1))=some xQ)
  {ae b6:bg} {l l' : am} {es:List (bR × bg × am)} (tr:kN P G ops xQ ae l [] es b6 l') :dP P G (.code (.region id ops true) N' ae (bW l) .normal b6 (bW l')) :=by
 simp only[NV,avU] at oi;obtain⟨⟨⟨⟨BC,pM⟩,sj⟩,vy⟩,jp⟩:=oi;have MD:∀ i∈fT (iW ops) ops,i<ops.size:=fun i av=>by
  rw[awG] at vy;simpa [ay8] using vy i av
 have V9:(o7 P (iW ops) ops (fT (iW ops) ops) [] []).map (·.1)=fT (iW ops) ops:=Yf _ _ _ MD;have HM:∀ (p:Nat) (x:eJ),xQ[p]? = some x->∃ o,qc P ops x o/\(o7 P (iW ops) ops (fT (iW ops) ops) [] [])[p]? = some (x.i,x.hL) ∧
   x.cx=((o7 P (iW ops) ops (fT (iW ops) ops) [] []).flatMap (·.2)).contains x.i:=fun p x af=>by
  obtain⟨a,h1,ad⟩:=Ih ci p x af;obtain⟨o,aj,aE,aX,bw⟩:=Ja ad;exact⟨o,aj,by rw[h1,aE,aX],by rw[bw,aE]⟩
 have Wp:∀ (p:Nat) (x:eJ),xQ[p]? = some x->(fT (iW ops) ops)[p]? = some x.i:=fun p x af=>by
  obtain⟨o,_,h1,_⟩:=HM p x af;rw[<-V9,avV,h1]; rfl
 have wW:∀ (p:Nat) (e:bR × bg × am),es[p]? = some e->∃ x,xQ[p]? = some x/\x.i=e.1.idx:=fun p e ao=>by
  have:=congrArg (·[p]?) tr.idx;simp only[avV,ao,avZ] at this;cases af:xQ[p]? with
  | none=>rw[af] at this; cases this
  | some x=>rw[af] at this; simp only[avZ,Option.some.injEq] at this; exact⟨x,rfl,this.symm⟩
 have tp:∀ (p:Nat) (e:bR × bg × am),es[p]? = some e->(fT (iW ops) ops)[p]? = some e.1.idx:=fun p e ao=>by
  obtain⟨x,h1,ad⟩:=wW p e ao;rw[Wp p x h1,ad]
 have ed:∀ (p:Nat) (t:bR),(es.map (·.1))[p]? = some t->∃ e,es[p]? = some e/\e.1=t:=fun p t aI=>by simpa using aI
 have yL:∀ (p:Nat) (e:bR × bg × am),es[p]? = some e->e.1.jQ=true->∃ o,ops[e.1.idx]? = some o/\k6 o.op=true/\(ll ops e.2.1 o=some true) :=fun p e ao e6=>by
  have ha:e.1.vl=false:=by cases h:e.1<;>rw[h] at e6<;>first | rfl | cases e6
  obtain⟨x,o,v,l1,xM,h1,ad,aj,aE⟩:=tr.split p e ao ha;have Be:=(tr.at.1 p e ao).1;have fJ:=aj.idx;have aG:=ad.here;rw[<-fJ] at aG;refine⟨o,aG,?_,?_⟩
  ·revert e6;generalize e.1=t at aj;intro e6;cases aj with
   | pure=>cases e6
   | new=>cases e6
   | gO ao _=>exact ao
  ·revert Be e6 aG;generalize e.1=t;intro e6 Be aG;cases t<;>first | (cases e6; done) | skip
   obtain⟨cO,aX,bw,_⟩:=Be;simp only[bR.idx] at aG;rw[aG] at aX; cases aX;exact bw
 have gF:z7 ops (pS (iW ops)) (es.map (·.1)) :=by
  refine⟨adr BC,fun i av=>?_,fun p bV t gf ay gp ao=>?_,fun p t ay=>?_,fun p bV t gf ay gp aM=>?_,fun p bV t gf ay gp aM e6=>?_⟩
  ·rw[awG] at jp;have:=jp i (by simpa using av);have hm:i∈fT (iW ops) ops:=by simpa using this
   have jH:(es.map (·.1)).map bR.idx=fT (iW ops) ops:=by
    rw[axD];show es.map (fun e=>e.1.idx)=_;rw[tr.idx,<-V9];apply awM;intro p;rw[avV,avV];cases af:xQ[p]? with
    | none=>
     have:(o7 P (iW ops) ops (fT (iW ops) ops) [] [])[p]? = none:=by
      rw[ax8] at af ⊢;rw[<-NE ci]; exact af
     rw[this]; rfl
    | some x=>obtain⟨o,_,h1,_⟩:=HM p x af; rw[h1]; rfl
   rw[<-jH] at hm;obtain⟨t,h1,ad⟩:=awf.1 hm;obtain⟨p,ay⟩:=axJ h1;exact⟨p,t,ay,ad⟩
  ·obtain⟨e,aP,aU⟩:=ed p t ay;obtain⟨fH,uK,Dc⟩:=ed bV gf gp;have aV:=tp p e aP;have a1:=tp bV fH uK;rw[aU] at aV; rw[Dc] at a1;rcases awY p bV with h | h | h
   ·exact absurd ao (Ix pM p bV _ _ aV a1 h).1
   ·exact h
   ·exact absurd ao.symm (Ix pM bV p _ _ a1 aV h).1
  ·obtain⟨e,aP,aU⟩:=ed p t ay;have aV:=tp p e aP;rw[aU] at aV;exact MD _ (avY aV)
  ·obtain⟨e,aP,aU⟩:=ed p t ay;obtain⟨fH,uK,Dc⟩:=ed bV gf gp;have aV:=tp p e aP;have a1:=tp bV fH uK;rw[aU] at aV; rw[Dc] at a1;exact (Ix pM p bV _ _ aV a1 aM).2
  ·obtain⟨e,aP,aU⟩:=ed p t ay;obtain⟨fH,uK,Dc⟩:=ed bV gf gp;obtain⟨o,de,df,_⟩:=yL p e aP (by rw[aU]; exact e6);have aV:=tp p e aP;have a1:=tp bV fH uK;rw[aU] at aV de; rw[Dc] at a1;exact Tm agq p bV _ _ o aV a1 aM de df
 have kA:∀ q,q<=es.length->(g8 ops ⟨ae,bW l⟩ (es.map (·.1)) q).h=bW (u3 es l' q) :=fun q aW=>by
  unfold u3;cases ao:es[q]? with
  | none=>
   have:q=es.length:=by rw[ax8] at ao; omega
   rw[this,tr.at.2]
  | some e=>rw[(tr.at.1 q e ao).2]
 have rc:JH P G ops (pS (iW ops)) ⟨ae,bW l⟩ (es.map (·.1)) :=by
  refine⟨fun p t ay=>?_,fun q aW p t asn ay dM=>?_⟩
  ·obtain⟨e,aP,aU⟩:=ed p t ay;obtain⟨cZ,dJ⟩:=tr.at.1 p e aP;rw[dJ,<-aU]; exact cZ
  ·obtain⟨e,aP,aU⟩:=ed p t ay;obtain⟨cZ,dJ⟩:=tr.at.1 p e aP;have l8:q<=es.length:=by
    rcases aW with rfl | ⟨anX,aW,_⟩
    ·simp
    ·obtain⟨eq,a8,_⟩:=ed q anX aW;exact axZ (avP.1 a8).1
   rw[kA q l8,dJ];cases ha:e.1.vl with
   | true=>rw[<-aU]; cases h:e.1<;>rw[h] at ha<;>first | trivial | cases ha
   | false=>
    obtain⟨x,o,v,l1,xM,h1,ad,aj,aE⟩:=tr.split p e aP ha;obtain⟨cO,gP,gq,ag2⟩:=HM p x h1;have mR:cO=o:=by have a:=gP.here; have b:=ad.here; rw[a] at b; exact Option.some.inj b
    subst mR;have ask:ud P cO.op=true->∀ (bV:Nat) (fH:bR × bg × am),bV<q - (p+1)->(es.drop (p+1))[bV]? = some fH->fH.1.jQ=true->
      (x.i,mr P G x.b e.2.1 v e.2.2 l1)∈sr x.cx x.i (mr P G x.b e.2.1 v e.2.2 l1) xM/\∃ y,(xQ.drop (p+1))[bV]? = some y/\x.i∈y.hL:=by
     intro aI bV fH gp gn uU;rw[awv] at gn;obtain⟨y,ce,bP⟩:=wW _ fH gn;obtain⟨tL,dn,dG,_⟩:=HM _ y ce;obtain⟨akB,jn,ajg,asL⟩:=yL _ fH gn uU;have ec:x.i∈y.hL:=by
      refine N6 _ _ _ _ _ _ MD dG ⟨akB,by rw[bP]; exact jn,ajg⟩ x.i (.inr ⟨p,by omega,Wp p x h1⟩) ⟨cO,ad.here,aI⟩ (fun e ao=>by cases ao) ?_;intro tM MX Ip asg agJ V3 GK aq
      -- what is at p'' was carried out
      have aM:tM<es.length:=by
       have:=(avP.1 gn).1;omega
      have jH:es[tM]? = some es[tM] :=avS aM;have e1:=tp _ _ jH;rw[agJ] at e1;have u5:MX=es[tM].1.idx:=Option.some.inj e1;have afb:es[tM].1.jQ=true:=by
       cases D4:es[tM].1.vl with
       | true=>
        exfalso;rcases aq with rfl | aq
        ·rw[jH] at gn;cases gn;cases h:es[p+1+bV].1<;>rw[h] at uU D4<;>first | (cases D4; done) | (cases uU; done)
        ·have Be:=(tr.at.1 _ _ jH).1;cases h:es[tM].1<;>rw[h] at D4 Be u5<;>first | (cases D4; done) | skip
         obtain⟨sj,kE,kf⟩:=Be;simp only[bR.idx] at u5;rw[<-u5,V3] at kE; cases kE;simp[ll,aq] at kf
       | false=>
        obtain⟨Ca,sj,v3,fr,avi,kE,kf,xo,_⟩:=tr.split _ _ jH D4;have agL:=xo.idx;have Vp:=kf.here;rw[<-agL,<-u5,V3] at Vp; cases Vp;revert xo;generalize es[tM].1=t3;intro xo;cases xo with
        | pure m ag hm _ _=>
         exfalso;have ah:=kf.g5 m ag;have:k6 Ip.op=false:=by
          revert ah hm;cases Ip.op<;>simp only[nV]<;>intro hm ah<;>first | rfl | (exfalso; revert ah hm; done) | skip
          case store=>rw[map_some] at ah; obtain⟨_,_,rfl⟩:=ah; cases hm
          case call c=>
           split at ah
           ·rename_i b ag;unfold k6;simp only[ag];unfold wx at ah
            repeat' split at ah
            all_goals first
             | rfl
             | (cases ah; done)
             | (cases ah; cases hm; done)
             | (simp only[bind_some,map_some] at ah; obtain⟨_,_,rfl⟩:=ah; cases hm; done)
             | (simp only[bind_some,map_some] at ah; obtain⟨_,_,_,_,rfl⟩:=ah; cases hm; done)
             | (simp only[bind_some,iI] at ah; obtain⟨_,_,_,_,_,_,_,rfl⟩:=ah; cases hm; done)
             | (simp only[bind_some,iI] at ah; obtain⟨_,_,_,_,_,_,_,_,_,rfl⟩:=ah; cases hm; done)
           ·split at ah
            ·rw[iI] at ah; obtain⟨_,rfl⟩:=ah; cases hm
            ·cases ah
           ·cases ah
          case next it b=>(cases b<;>simp only[reduceCtorEq] at ah<;>cases ah<;>cases hm)
          case lookup=>split at ah<;>(try cases ah; done); rw[map_some] at ah; obtain⟨_,_,rfl⟩:=ah; cases hm
          case mapUpdate=>split at ah<;>cases ah; cases hm
          case insert=>split at ah<;>cases ah; cases hm
          case panic=>(cases ah; cases hm)
          case makeMap=>split at ah<;>cases ah; cases hm
          case range=>split at ah<;>cases ah; cases hm
          case typeAssert=>rw[map_some] at ah; obtain⟨_,_,rfl⟩:=ah; cases hm
          all_goals (cases ah)
         rw[this] at GK; cases GK
        | new m cs ag hm _=>
         exfalso;have ah:=kf.g5 m ag;have:k6 Ip.op=false:=by
          revert ah hm;cases Ip.op<;>simp only[nV]<;>intro hm ah<;>first | rfl | (exfalso; revert ah hm; done) | skip
          case store=>rw[map_some] at ah; obtain⟨_,_,rfl⟩:=ah; cases hm
          case panic=>(cases ah; cases hm)
          case call c=>
           split at ah
           ·rename_i b ag;unfold k6;simp only[ag];unfold wx at ah
            repeat' split at ah
            all_goals first
             | rfl
             | (cases ah; done)
             | (cases ah; cases hm; done)
             | (simp only[bind_some,map_some] at ah; obtain⟨_,_,rfl⟩:=ah; cases hm; done)
             | (simp only[bind_some,map_some] at ah; obtain⟨_,_,_,_,rfl⟩:=ah; cases hm; done)
             | (simp only[bind_some,iI] at ah; obtain⟨_,_,_,_,_,_,_,rfl⟩:=ah; cases hm; done)
             | (simp only[bind_some,iI] at ah; obtain⟨_,_,_,_,_,_,_,_,_,rfl⟩:=ah; cases hm; done)
           ·split at ah
            ·rw[iI] at ah; obtain⟨_,rfl⟩:=ah; cases hm
            ·cases ah
           ·cases ah
          case next it b=>(cases b<;>simp only[reduceCtorEq] at ah<;>cases ah<;>cases hm)
          case lookup=>split at ah<;>(try cases ah; done); rw[map_some] at ah; obtain⟨_,_,rfl⟩:=ah; cases hm
          case mapUpdate=>split at ah<;>cases ah; cases hm
          case insert=>split at ah<;>cases ah; cases hm
          case makeMap=>split at ah<;>cases ah; cases hm
          case range=>split at ah<;>cases ah; cases hm
          case typeAssert=>rw[map_some] at ah; obtain⟨_,_,rfl⟩:=ah; cases hm
          all_goals (cases ah)
         rw[this] at GK; cases GK
        | gO _ _=>rfl
      have:=dM tM es[tM].1 (by omega) (by simp[jH]) afb;rw[u5,ad.here |> fun _=>(aj.idx).symm,aU];exact this
     refine⟨?_,y,by rw[awv]; exact ce,ec⟩;have:x.cx=true:=by
      rw[ag2];simp only[List.contains_iff_mem,ayO];exact⟨(y.i,y.hL),avY dG,ec⟩
     rw[this];exact ayF
    have Gv:ud P cO.op=true->(∀ l B9,mr P G x.b e.2.1 v e.2.2 l1 l->mr P G x.b e.2.1 v e.2.2 l1 (l++B9))->mr P G x.b e.2.1 v e.2.2 l1 l1->mr P G x.b e.2.1 v e.2.2 l1 (u3 es l' q) :=by
     intro aI qF aD;have:=aE.still x.i _ qF aD (q - (p+1)) (by simp only[awW]; omega) (ask aI)
     rwa [agr,show p+1+(q - (p+1))=q by omega] at this
    rw[<-aU];revert aj Gv ask aU;generalize e.1=t1;intro aU aj ask Gv;cases aj with
    | gO=>trivial
    | pure m ag hm al ak=>
     intro pM l6;rw[ad.here] at l6; cases l6;have ah:=ad.g5 m ag;cases az:m.reads with
     | false=>exact In ah (ajW hm az ak)
     | true=>
      have aI:ud P cO.op=true:=by
       cases h:ud P cO.op with
       | true=>rfl
       | false=>rw[(S8 ah h).1] at az; cases az
      have yY:m.jl=false:=by cases m<;>first | rfl | cases az
      have ci:∀ b1,mr P G x.b e.2.1 v e.2.2 l1 b1<->bU P (da G e.2.1) b1 m=some (v,b1) :=fun b1=>by rw[ag]; simp only[mr,yY]
      have:=Gv aI (fun b1 B9 h=>by rw[ci] at h ⊢; exact ajV hm h) (by rw[ci,al]; exact ak);rw[ci] at this;exact In ah this
    | new m cs ag hm al=>
     have ah:=ad.g5 m ag;have aI:ud P cO.op=true:=by
      cases h:ud P cO.op with
      | true=>rfl
      | false=>rw[(S8 ah h).2] at hm; cases hm
     have ci:∀ b1:am,mr P G x.b e.2.1 v e.2.2 l1 b1<->b1[e.2.2.length]? = some (.cells cs.length cs) :=fun b1=>by
      rw[ag,al]; simp only[mr,hm]; rw[av2 (avR _)]; simp
     have:=Gv aI (fun b1 B9 h=>by rw[ci] at h ⊢; rw[avQ (eu h)]; exact h) (by rw[ci,al,av2 (avR _)]; simp);rw[ci] at this;show (bW (u3 es l' q)).f (bW e.2.2).n=_;rw[nI,vU,this]
 have:=dP.adq (id:=id) gF bC rc;rw[av8,tr.at.2] at this;exact this
end

section
variable {P:Program} {G:Nat->U}
theorem P6 {ops:Array Oper} {f:Nat->Option eJ}:∀ {is:List Nat} {s:List eJ} {os:List Oper},(∀ i x,f i=some x->∃ o,qc P ops x o/\x.i=i)->is.mapM f=some s->is.map (fun i=>ops[i]?)=os.map some->zZ P ops s os
 | [],s,os,aF,h,ap=>by
  simp at h; subst h;cases os with
  | nil=>exact .nil
  | cons=>simp at ap
 | i::is,s,os,aF,h,ap=>by
  rw[axx] at h;simp only[Option.bind_eq_bind,bind_some,axH,Option.some.injEq] at h;obtain⟨x,h1,eH,ad,rfl⟩:=h;cases os with
  | nil=>simp at ap
  | cons o os=>
   simp only[awn,List.cons.injEq] at ap;obtain⟨cO,ok,av⟩:=aF i x h1;have:cO=o:=by have:=ok.here; rw[av,ap.1] at this; exact (Option.some.inj this).symm
   subst this;exact .cons ok (P6 aF ad ap.2)
theorem ac3 {N N' id:Nat} (fy:N<=N') {ops:Array Oper} {draw:Bool} {c:gg} (ah:Ks P N ops draw=some c) {ae:bg} {l:am} {K:hq} (h:run P G c ae l K) :
  ∃ e b6 l',dP P G (.code (.region id ops draw) N' ae (bW l) e b6 (bW l'))/\l.length<=l'.length/\K e b6 l':=by
 unfold Ks at ah;split at ah
 ·cases ah
 ·rename_i qB;have bC:∀ (i:Nat) (o:Oper),ops[i]? = some o->qm N' o.dst=true:=fun i o ap=>by
   rw[awG] at qB;have:=qB o (by simpa using Array.mem_of_getElem? ap);unfold qm at this ⊢;split at this
   ·rename_i d _; exact decide_eq_true (ayf (of_decide_eq_true this) fy)
   ·rfl
  split at ah
  ·rw[map_some] at ah;obtain⟨s,h1,rfl⟩:=ah;have eQ:zZ P ops s ops.toList:=by
    refine P6 (fun i x af=>?_) h1 ?_
    ·obtain⟨o,ad,aj,_⟩:=Ja af; exact⟨o,ad,aj⟩
    ·apply awM;intro p;rw[avV,avV];by_cases ay:p<ops.size
     ·rw[awr ay]; simp[ay]
     ·rw[av5 (by simp; omega),av5 (by simp; omega)]; rfl
   obtain⟨b6,l',ad,aj,aE⟩:=OH bC eQ h;exact⟨.normal,b6,l',.region ad,aj,aE⟩
  ·simp only at ah;split at ah
   ·cases ah
   ·rename_i LI;simp only[avU] at LI;split at ah
    ·cases ah
    ·rename_i s ak;have c1:∀ x∈s,∃ o,qc P ops x o:=fun x af=>by
      obtain⟨p,ay⟩:=axJ af;obtain⟨a,_,ad⟩:=Ih ak p x ay;obtain⟨o,aj,_⟩:=Ja ad;exact⟨o,aj⟩
     have fin:ki P G s ae l [] (K .normal)->∃ e b6 l',dP P G (.code (.region id ops true) N' ae (bW l) e b6 (bW l'))/\l.length<=l'.length/\K e b6 l':=fun h=>by
      obtain⟨es,b6,l',h1,ad⟩:=OC c1 h;exact⟨.normal,b6,l',adt bC LI.1 LI.2 ak h1,h1.len,ad⟩
     split at ah
     ·rename_i AN;cases ah;refine fin (OE (fun x af=>?_) h)
      obtain⟨p,ay⟩:=axJ af;obtain⟨a,_,ad⟩:=Ih ak p x ay;obtain⟨o,_,_,_,aj⟩:=Ja ad;rw[aj,AN]; rfl
     ·cases ah;exact fin h
theorem amx {N N' : Nat} (fy:N<=N') :∀ (code:Code) (c:gg),comp P N code=some c->∀ (ae:bg) (l:am) (K:hq),run P G c ae l K->
  ∃ e b6 l',dP P G (.code code N' ae (bW l) e b6 (bW l'))/\l.length<=l'.length/\K e b6 l':=by
 intro code
 induction code with
 | skip=>intro c ah ae l K h; cases ah; exact⟨_,_,_,.skip _ _ _,avR _,h⟩
 | label n=>intro c ah ae l K h; cases ah; exact⟨_,_,_,.label _ _ _ _,avR _,h⟩
 | ret=>intro c ah ae l K h; cases ah; exact⟨_,_,_,.ret _ _ _,avR _,h⟩
 | exit id=>intro c ah ae l K h; cases ah; exact⟨_,_,_,.exit _ _ _ _,avR _,h⟩
 | region id ops draw=>intro c ah ae l K h; exact ac3 fy ah h
 | seq a b MZ M0=>
  intro c ah ae l K h;have mk:∀ (Ak qh:gg),comp P N a=some Ak->comp P N b=some qh->run P G Ak ae l (o2 (fun ae l=>run P G qh ae l K) K)->∃ e b6 l',dP P G (.code (.seq a b) N' ae (bW l) e b6 (bW l'))/\l.length<=l'.length/\K e b6 l':=by
   intro Ak qh aA ag h;obtain⟨e,jv,l1,h1,ad,aj⟩:=MZ Ak aA ae l _ h;cases e with
   | normal=>
    obtain⟨e,PL,b1,aE,aX,bw⟩:=M0 qh ag jv l1 K aj;exact⟨e,PL,b1,.Zt h1 aE,axc ad aX,bw⟩
   | exit id=>exact⟨_,jv,l1,.OT h1 (by intro h; cases h),ad,aj⟩
   | ret=>exact⟨_,jv,l1,.OT h1 (by intro h; cases h),ad,aj⟩
  simp only[comp] at ah;split at ah
  ·rename_i bu aA ag;cases ah;exact mk _ _ aA ag h
  ·rename_i fl _ aA ag;cases ah;refine mk _ _ aA ag ?_;have:o2 (fun ae l=>run P G .skip ae l K) K=K:=by
    funext e ae l;cases e<;>rfl
   rw[this]; exact h
  ·rename_i fl bu _ _ aA ag;cases ah;exact mk _ _ aA ag h
  ·cases ah
 | cond c x y M3 M4=>
  intro F1 ah ae l K h;simp only[comp] at ah;split at ah
  ·rename_i kn Fz af ax;cases ah;simp only[run,zg] at h;split at h
   ·rename_i b ag;rw[Es] at h;rcases h with ⟨rfl,h⟩ | ⟨rfl,h⟩
    ·obtain⟨e,jv,l1,h1,ad,aj⟩:=M3 kn af ae l K h;exact⟨e,jv,l1,.cond ag h1,ad,aj⟩
    ·obtain⟨e,jv,l1,h1,ad,aj⟩:=M4 Fz ax ae l K h;exact⟨e,jv,l1,.cond ag h1,ad,aj⟩
   ·cases h
  ·cases ah
 | block id c aJ=>
  intro F1 ah ae l K h;simp only[comp,map_some] at ah;obtain⟨c',h1,rfl⟩:=ah;obtain⟨e,jv,l1,ad,aj,aE⟩:=aJ c' h1 ae l _ h;cases e with
  | normal=>exact⟨_,jv,l1,.FU ad (by intro h; cases h),aj,aE⟩
  | ret=>exact⟨_,jv,l1,.FU ad (by intro h; cases h),aj,aE⟩
  | exit tv=>
   simp only[r3] at aE;split at aE
   ·rename_i ag;obtain rfl:=lb ag;exact⟨_,jv,l1,.QA ad,aj,aE⟩
   ·rename_i ag;exact⟨_,jv,l1,.FU ad (by intro h; cases h; rw[ayM] at ag; cases ag),aj,aE⟩
 | loop c aJ=>
  intro F1 ah ae l K h;simp only[comp,map_some] at ah;obtain⟨c',h1,rfl⟩:=ah;obtain⟨n,h⟩:=h
  induction n generalizing ae l with
  | zero=>cases h
  | succ n M2=>
   obtain⟨e,jv,l1,ad,aj,aE⟩:=aJ c' h1 ae l _ h;cases e with
   | normal=>
    obtain⟨e,PL,b1,aX,bw,c5⟩:=M2 jv l1 aE;exact⟨e,PL,b1,.Bw ad aX,axc aj bw,c5⟩
   | exit id=>exact⟨_,jv,l1,.Nx ad (by intro h; cases h),aj,aE⟩
   | ret=>exact⟨_,jv,l1,.Nx ad (by intro h; cases h),aj,aE⟩
 | scope c aJ=>
  intro F1 ah ae l K h;obtain⟨e,jv,l1,ad,aj,aE⟩:=aJ F1 ah ae l K h;exact⟨e,jv,l1,.scope ad,aj,aE⟩
 | _=>intro c ah; cases ah
def Kr (P:Program) :ResultVar->Option dy
 | .tmp t=>some (.gu (.tmp t))
 | .cell a t=>nV P (.load t (.tmp a))
def wz (P:Program) (f:FuncId) :Option (List dy) :=match P.funcs[f]? with
 | some fn=>fn.results.toList.mapM (Kr P)
 | none=>none
def o1 (P:Program) (G:Nat->U) (K:U->am->Prop) (ae:bg) (l:am) :List dy->List U->Prop
 | [],acc=>K (xS acc) l
 | m::r,acc=>W (bU P (da G ae) l m) (c:=⟨fun x=>o1 P G K ae l r (acc++[x.1])⟩)
def Er (P:Program) (G:Nat->U) (ms:List dy) (K:U->am->Prop) :hq:=fun e ae l=>match e with
 | .exit _=>False
 | .normal=>o1 P G K ae l ms []
 | .ret=>o1 P G K ae l ms []
def Af (args:List U) :bg:=fun t=>args.getD t hF
theorem WX {K:U->am->Prop} {ae:bg} {l:am}:∀ {oz:List ResultVar} {ms:List dy} {acc:List U},oz.mapM (Kr P)=some ms->o1 P G K ae l ms acc->∃ vs,xF P (bW l) ae oz=some vs/\K (xS (acc++vs)) l
 | [],ms,acc,hm,h=>by simp at hm; subst hm; exact⟨[],rfl,by simpa [o1] using h⟩
 | r::oz,ms,acc,hm,h=>by
  rw[axx] at hm;simp only[Option.bind_eq_bind,bind_some,axH,Option.some.injEq] at hm;obtain⟨m,h1,auG,ad,rfl⟩:=hm;simp only[o1,Ac] at h;obtain⟨⟨v,l1⟩,aj,aE⟩:=h;obtain⟨vs,aX,bw⟩:=WX ad aE;refine⟨v::vs,?_,by simpa using bw⟩;have:BT P (bW l) ae r=some v:=by
   cases r with
   | tmp t=>cases h1; simp only[bU,Option.some.injEq,Prod.mk.injEq] at aj; rw[<-aj.1]; rfl
   | cell a t=>
    have dg:nV P (.load t (.tmp a))=some m:=h1;have:=In dg aj;simp only[di] at this;unfold BT;show tB P (bW l) t (da G ae (.tmp a))=some v;cases al:tB P (bW l) t (da G ae (.tmp a)) with
    | none=>rw[al] at this; cases this
    | some x=>rw[al] at this; simp only[avZ,Option.some.injEq,qa.val.injEq] at this; rw[this.1]
  simp only[xF,this,aX]
theorem F0 {f:FuncId} {c:gg} {ms:List dy} (ah:wy P f=some c) (az:wz P f=some ms) {args:List U} {l:am} {K:uk}
  (h:run P G c (Af args) l (Er P G ms K.k)) :c7 P G f args l (c:=K) :=by
 unfold wy at ah;unfold wz at az;split at ah
 ·rename_i fn kV;split at ah
  ·rename_i body ag;rw[kV] at az;obtain⟨e,b6,l',h1,ad,aj⟩:=amx (N':=args.length+(fn.ntmps - args.length)) (by omega) body c ah _ _ _ h;have fin:(e=.normal\/e=.ret)->o1 P G K.k b6 l' ms []->c7 P G f args l (c:=K) :=fun ao aj=>by
    obtain⟨vs,aE,aX⟩:=WX az aj;exact⟨xS vs,l',.inline kV ag h1 ao (by simp only[IZ,aE]; rfl),ad,by simpa using aX⟩
   cases e with
   | normal=>exact fin (.inl rfl) aj
   | ret=>exact fin (.inr rfl) aj
   | exit id=>cases aj
  ·cases ah
 ·cases ah
theorem ZL {b:rl} {ae:bg} {l:am} {K gS:U->am->Prop} (aY:∀ v l,K v l->gS v l) (h:ih P G b ae l K) :ih P G b ae l gS:=by
 cases b with
 | g5 m=>simp only[ih,Ac] at h ⊢; obtain⟨v,h1,ad⟩:=h; exact⟨v,h1,Xb aY ad⟩
 | m8 f args=>obtain⟨r,l',h1,ad,aj⟩:=h; exact⟨r,l',h1,ad,aY _ _ aj⟩
 | nR x args=>
  simp only[ih,wj] at h ⊢;split at h
  ·obtain⟨aD,r,l',h1,ad,aj⟩:=h; exact⟨aD,r,l',h1,ad,aY _ _ aj⟩
  ·cases h
 | oM x name args=>
  simp only[ih,wi] at h ⊢;split at h
  ·split at h
   ·obtain⟨aD,r,l',h1,ad,aj⟩:=h; exact⟨aD,r,l',h1,ad,aY _ _ aj⟩
   ·cases h
  ·cases h
theorem WV {ae:bg} {g:Option (Option Tmp × Bool)} {p q bV fR:Prop} (ay:p->bV) (aW:q->fR) (h:qZ ae g p q) :qZ ae g bV fR:=by
 unfold qZ at h ⊢;split at h
 ·exact ay h
 ·simp only[r4] at h ⊢;split at h
  ·rw[Es] at h ⊢;rcases h with ⟨a,b⟩ | ⟨a,b⟩
   ·exact .inl ⟨a,ay b⟩
   ·exact .inr ⟨a,aW b⟩
  ·cases h
  ·exact aW h
 ·exact aW h
theorem OG {K gS:bg->am->Prop} (aY:∀ ae l,K ae l->gS ae l) :∀ {s:List eJ} {ae:bg} {l:am},jV P G s ae l K->jV P G s ae l gS
 | [],_,_,h=>aY _ _ h
 | s::r,_,_,h=>WV (ZL fun _ _ h=>OG aY h) (fun h=>OG aY h) h
theorem OB {K gS:bg->am->Prop} (aY:∀ ae l,K ae l->gS ae l) :∀ {s:List eJ} {ae:bg} {l:am} {seen:iN},ki P G s ae l seen K->ki P G s ae l seen gS
 | [],_,_,_,h=>aY _ _ h
 | s::r,_,_,_,h=>WV (ZL fun _ _ h=>⟨h.1,OB aY h.2⟩) (fun h=>OB aY h) h
theorem Et {k k' : bg->am->Prop} {K gS:hq} (hk:∀ ae l,k ae l->k' ae l) (aY:∀ e ae l,K e ae l->gS e ae l) :∀ e ae l,o2 k K e ae l->o2 k' gS e ae l:=by
 intro e ae l h; cases e<;>first | exact hk _ _ h | exact aY _ _ _ h
theorem OK:∀ {c:gg} {ae:bg} {l:am} {K gS:hq},(∀ e ae l,K e ae l->gS e ae l)->run P G c ae l K->run P G c ae l gS:=by
 intro c
 induction c with
 | skip=>intro ae l K gS aY h; exact aY _ _ _ h
 | ret=>intro ae l K gS aY h; exact aY _ _ _ h
 | exit id=>intro ae l K gS aY h; exact aY _ _ _ h
 | xE s=>intro ae l K gS aY h; exact OG (aY _) h
 | yi s=>intro ae l K gS aY h; exact OB (aY _) h
 | seq a b MZ M0=>intro ae l K gS aY h; exact MZ (Et (fun ae l h=>M0 aY h) aY) h
 | cond c x y M3 M4=>
  intro ae l K gS aY h;simp only[run,zg] at h ⊢;split at h
  ·rw[Es] at h ⊢;rcases h with ⟨a,b⟩ | ⟨a,b⟩
   ·exact .inl ⟨a,M3 aY b⟩
   ·exact .inr ⟨a,M4 aY b⟩
  ·cases h
 | block id c aJ=>
  intro ae l K gS aY h;refine aJ (fun e ae l h=>?_) h;cases e with
  | normal=>exact aY _ _ _ h
  | ret=>exact aY _ _ _ h
  | exit tv=>
   simp only[r3] at h ⊢;split at h
   ·exact aY _ _ _ h
   ·exact aY _ _ _ h
 | loop c aJ=>
  intro ae l K gS aY h;obtain⟨n,h⟩:=h;refine⟨n,?_⟩
  induction n generalizing ae l with
  | zero=>cases h
  | succ n M2=>exact aJ (Et (fun ae l h=>M2 h) aY) h
theorem c7.mono {f:FuncId} {args:List U} {l:am} {K gS:uk} (aY:∀ v l,K.k v l->gS.k v l) (h:c7 P G f args l (c:=K)) :c7 P G f args l (c:=gS) :=by
 obtain⟨r,l',h1,ad,aj⟩:=h; exact⟨r,l',h1,ad,aY _ _ aj⟩
theorem vr {c:gg} {K:JA} (I:Nat->bg->am->Prop) (step:∀ n ae l,I n ae l->run P G c ae l (o2 (fun ae l=>∃ hi,hi<n/\I hi ae l) K.k)) :∀ n ae l,I n ae l->FD (run P G c) ae l (c:=K) :=by
 intro n
 induction n using Nat.strongRecOn with
 | _ n aJ=>
  intro ae l h
  -- fuel n+1 is enough
  have Df:∀ (m n:Nat),n<=m->∀ ae l,I n ae l->Bw (run P G c) (m+1) ae l K.k:=by
   intro m
   induction m with
   | zero=>
    intro n aC ae l h;obtain rfl:n=0:=by omega
    exact OK (Et (fun ae l ⟨hi,h1,_⟩=>by omega) (fun _ _ _ h=>h)) (step 0 ae l h)
   | succ m M1=>
    intro n aC ae l h;exact OK (Et (fun ae l ⟨hi,h1,ad⟩=>M1 hi (by omega) ae l ad) (fun _ _ _ h=>h)) (step n ae l h)
  exact⟨n+1,Df n n (avR _) ae l h⟩
theorem cI {c:gg} {K:JA} (n:Nat) (I:Nat->bg->am->Prop) (step:∀ k ae l,k<=n->I k ae l->run P G c ae l (o2 (fun ae l=>k<n/\I (k+1) ae l) K.k)) {ae:bg} {l:am} (h:I 0 ae l) :FD (run P G c) ae l (c:=K) :=by
 refine vr (fun m ae l=>∃ k,k+m=n/\I k ae l) (fun m ae l ⟨k,hk,h⟩=>?_) n ae l ⟨0,by omega,h⟩;exact OK (Et (fun ae l ⟨h1,ad⟩=>⟨m - 1,by omega,k+1,by omega,ad⟩) (fun _ _ _ h=>h)) (step k ae l (by omega) h)
end

section
variable {P:Program} {G:Nat->U}
@[simp ↓] theorem avh (ae:bg) (l:am) (K:hq) :run P G .skip ae l K=K .normal ae l:=id rfl
@[simp ↓] theorem avf (ae:bg) (l:am) (K:hq) :run P G .ret ae l K=K .ret ae l:=id rfl
@[simp ↓] theorem avc (i:Nat) (ae:bg) (l:am) (K:hq) :run P G (.exit i) ae l K=K (.exit i) ae l:=id rfl
@[simp ↓] theorem ave (s:List eJ) (ae:bg) (l:am) (K:hq) :run P G (.xE s) ae l K=jV P G s ae l (K .normal) :=id rfl
@[simp ↓] theorem avb (s:List eJ) (ae:bg) (l:am) (K:hq) :run P G (.yi s) ae l K=ki P G s ae l [] (K .normal) :=id rfl
@[simp ↓] theorem avg (a b:gg) (ae:bg) (l:am) (K:hq) :run P G (.seq a b) ae l K=run P G a ae l (o2 (fun ae l=>run P G b ae l K) K) :=id rfl
@[simp ↓] theorem ava (c:Operand) (x y:gg) (ae:bg) (l:am) (K:hq) :run P G (.cond c x y) ae l K=zg (da G ae c) (c:=⟨run P G x ae l K,run P G y ae l K⟩) :=id rfl
@[simp ↓] theorem au9 (i:Nat) (c:gg) (ae:bg) (l:am) (K:hq) :run P G (.block i c) ae l K=run P G c ae l (r3 i K) :=id rfl
@[simp ↓] theorem avd (c:gg) (ae:bg) (l:am) (K:hq) :run P G (.loop c) ae l K=FD (run P G c) ae l (c:=⟨K⟩) :=id rfl
@[simp ↓] theorem as4 (k:bg->am->Prop) (K:hq) (ae:bg) (l:am) :o2 k K .normal ae l=k ae l:=id rfl
@[simp ↓] theorem as3 (k:bg->am->Prop) (K:hq) (i:Nat) (ae:bg) (l:am) :o2 k K (.exit i) ae l=K (.exit i) ae l:=id rfl
@[simp ↓] theorem as5 (k:bg->am->Prop) (K:hq) (ae:bg) (l:am) :o2 k K .ret ae l=K .ret ae l:=id rfl
@[simp ↓] theorem asN (i:Nat) (K:hq) (ae:bg) (l:am) :r3 i K .normal ae l=K .normal ae l:=id rfl
@[simp ↓] theorem asO (i:Nat) (K:hq) (ae:bg) (l:am) :r3 i K .ret ae l=K .ret ae l:=id rfl
def xi (p:Prop) [Decidable p] [c:Cn] :Prop:=if p then c.p else c.q
@[simp ↓] theorem asM (i j:Nat) (K:hq) (ae:bg) (l:am) :r3 i K (.exit j) ae l=xi (j=i) (c:=⟨K .normal ae l,K (.exit j) ae l⟩) :=by
 unfold r3 xi;by_cases h:j=i
 ·simp only[tF h,if_pos h]
 ·simp only[kh h,if_neg h]
@[simp ↓] theorem asT (i:Nat) (x y:Prop) :xi (i=i) (c:=⟨x,y⟩)=x:=by simp[xi]
@[simp] theorem asU (x y:Prop) :xi True (c:=⟨x,y⟩)=x:=by simp[xi]
@[simp] theorem asS (x y:Prop) :xi False (c:=⟨x,y⟩)=y:=by simp[xi]
@[simp ↓] theorem asQ (ms:List dy) (K:U->am->Prop) (ae:bg) (l:am) :Er P G ms K .normal ae l=o1 P G K ae l ms [] :=id rfl
@[simp ↓] theorem asR (ms:List dy) (K:U->am->Prop) (ae:bg) (l:am) :Er P G ms K .ret ae l=o1 P G K ae l ms [] :=id rfl
@[simp ↓] theorem as2 (K:U->am->Prop) (ae:bg) (l:am) (acc:List U) :o1 P G K ae l [] acc=K (xS acc) l:=id rfl
@[simp ↓] theorem as1 (K:U->am->Prop) (ae:bg) (l:am) (m:dy) (r:List dy) (acc:List U) :o1 P G K ae l (m::r) acc=W (bU P (da G ae) l m) (c:=⟨fun x=>o1 P G K ae l r (acc++[x.1])⟩) :=id rfl
@[simp] theorem avt (v:U) :xS [v]=v:=id rfl
@[simp] theorem avu (v w:U) (r:List U) :xS (v::w::r)=.bG (v::w::r) :=id rfl
@[simp ↓] theorem au8 (ae:bg) (l:am) (K:bg->am->Prop) :jV P G [] ae l K=K ae l:=id rfl
@[simp ↓] theorem au7 (i:Nat) (dst:Option Tmp) (m:dy) (c:List Nat) (k:Bool) (r:List eJ) (ae:bg) (l:am) (K:bg->am->Prop) :
  jV P G (⟨i,dst,none,.g5 m,c,k⟩::r) ae l K=W (bU P (da G ae) l m) (c:=⟨fun x=>eR m x.1 x.2 fun v l'=>jV P G r (hD ae dst v) l' K⟩) :=id rfl
@[simp ↓] theorem au3 (i:Nat) (dst:Option Tmp) (f:FuncId) (args:List Operand) (c:List Nat) (k:Bool) (r:List eJ) (ae:bg) (l:am) (K:bg->am->Prop) :
  jV P G (⟨i,dst,none,.m8 f args,c,k⟩::r) ae l K=c7 P G f (args.map (da G ae)) l (c:=⟨fun v l'=>jV P G r (hD ae dst v) l' K⟩) :=id rfl
@[simp ↓] theorem au5 (i:Nat) (dst:Option Tmp) (x:Operand) (args:List Operand) (c:List Nat) (k:Bool) (r:List eJ) (ae:bg) (l:am) (K:bg->am->Prop) :
  jV P G (⟨i,dst,none,.nR x args,c,k⟩::r) ae l K=wj P G (da G ae x) (args.map (da G ae)) l (c:=⟨fun v l'=>jV P G r (hD ae dst v) l' K⟩) :=id rfl
@[simp ↓] theorem au4 (i:Nat) (dst:Option Tmp) (x:Operand) (name:String) (args:List Operand) (c:List Nat) (k:Bool) (r:List eJ) (ae:bg) (l:am) (K:bg->am->Prop) :
  jV P G (⟨i,dst,none,.oM x name args,c,k⟩::r) ae l K=wi P G name (da G ae x) (args.map (da G ae)) l (c:=⟨fun v l'=>jV P G r (hD ae dst v) l' K⟩) :=id rfl
@[simp ↓] theorem aqr (name:String) (t:TypeId) (v:U) (args:List U) (l:am) (c:uk) :
  wi P G name (.g0 t v) args l (c:=c)=(match zq P t name with | some g=>hQ P g=true/\c7 P G g (v::args) l (c:=c) | none=>False) :=id rfl
@[simp ↓] theorem au6 (i:Nat) (dst:Option Tmp) (d:Tmp) (w:Bool) (b:rl) (c:List Nat) (k:Bool) (r:List eJ) (ae:bg) (l:am) (K:bg->am->Prop) :
  jV P G (⟨i,dst,some (some d,w),b,c,k⟩::r) ae l K=r4 (ae d) w (c:=⟨jV P G (⟨i,dst,none,b,c,k⟩::r) ae l K,jV P G r (hD ae dst hF) l K⟩) :=id rfl
@[simp ↓] theorem au2 (ae:bg) (l:am) (seen:iN) (K:bg->am->Prop) :ki P G [] ae l seen K=K ae l:=id rfl
@[simp ↓] theorem au1 (i:Nat) (dst:Option Tmp) (m:dy) (c:List Nat) (k:Bool) (r:List eJ) (ae:bg) (l:am) (seen:iN) (K:bg->am->Prop) :
  ki P G (⟨i,dst,none,.g5 m,c,k⟩::r) ae l seen K=W (bU P (da G ae) l m) (c:=⟨fun x=>eR m x.1 x.2 fun v l'=>qi c seen l'/\ki P G r (hD ae dst v) l' (sr k i (mr P G (.g5 m) ae v l l') seen) K⟩) :=id rfl
@[simp ↓] theorem auY (i:Nat) (dst:Option Tmp) (f:FuncId) (args:List Operand) (c:List Nat) (k:Bool) (r:List eJ) (ae:bg) (l:am) (seen:iN) (K:bg->am->Prop) :
  ki P G (⟨i,dst,none,.m8 f args,c,k⟩::r) ae l seen K=c7 P G f (args.map (da G ae)) l (c:=⟨fun v l'=>qi c seen l'/\ki P G r (hD ae dst v) l' (sr k i (fun _=>True) seen) K⟩) :=id rfl
@[simp ↓] theorem auZ (i:Nat) (dst:Option Tmp) (x:Operand) (args:List Operand) (c:List Nat) (k:Bool) (r:List eJ) (ae:bg) (l:am) (seen:iN) (K:bg->am->Prop) :
  ki P G (⟨i,dst,none,.nR x args,c,k⟩::r) ae l seen K=wj P G (da G ae x) (args.map (da G ae)) l (c:=⟨fun v l'=>qi c seen l'/\ki P G r (hD ae dst v) l' (sr k i (fun _=>True) seen) K⟩) :=id rfl
@[simp ↓] theorem au0 (i:Nat) (dst:Option Tmp) (d:Tmp) (w:Bool) (b:rl) (c:List Nat) (k:Bool) (r:List eJ) (ae:bg) (l:am) (seen:iN) (K:bg->am->Prop) :
  ki P G (⟨i,dst,some (some d,w),b,c,k⟩::r) ae l seen K=r4 (ae d) w (c:=⟨ki P G (⟨i,dst,none,b,c,k⟩::r) ae l seen K,ki P G r (hD ae dst hF) l seen K⟩) :=id rfl
@[simp] theorem aqL (ids:List Nat) (l:am) :qi ids [] l=True:=id rfl
@[simp] theorem aqK (ids:List Nat) (e:Nat × (am->Prop)) (r:iN) (l:am) :qi ids (e::r) l=((ids.contains e.1=true->e.2 l)/\qi ids r l) :=id rfl
@[simp] theorem avk (i:Nat) (p:am->Prop) (s:iN) :sr true i p s=(i,p) ::s:=id rfl
@[simp] theorem avj (i:Nat) (p:am->Prop) (s:iN) :sr false i p s=s:=id rfl
@[simp] theorem avq (m:dy) (ae:bg) (v:U) (l l' l1:am) :mr P G (.g5 m) ae v l l' l1=(match m.jl with | true=>l1[l.length]? = l'[l.length]? | false=>bU P (da G ae) l1 m=some (v,l1)) :=id rfl
@[simp ↓] theorem atF (x:Operand) (v:U) (l:am) (K:U->am->Prop) :eR (.gu x) v l K=K v l:=id rfl
@[simp ↓] theorem atI (c a b:Operand) (v:U) (l:am) (K:U->am->Prop) :eR (.pick c a b) v l K=K v l:=id rfl
@[simp ↓] theorem as6 (z:List U) (v:U) (l:am) (K:U->am->Prop) :eR (.alloc z) v l K=K v l:=id rfl
@[simp ↓] theorem atb (x:Operand) (v:U) (l:am) (K:U->am->Prop) :eR (.box x) v l K=K v l:=id rfl
@[simp ↓] theorem ata (z:List U) (cU:List (Nat × Nat × Operand)) (v:U) (l:am) (K:U->am->Prop) :eR (.Cy z cU) v l K=K v l:=id rfl
@[simp ↓] theorem atc (z:Nat) (zero:List U) (n:Nat) (cU:List (Nat × Operand)) (v:U) (l:am) (K:U->am->Prop) :eR (.ry z zero n cU) v l K=K v l:=id rfl
@[simp ↓] theorem att (a:Operand) (v:U) (l:am) (K:U->am->Prop) :eR (.ld1 a) v l K=K v l:=id rfl
@[simp ↓] theorem atu (n:Nat) (a:Operand) (v:U) (l:am) (K:U->am->Prop) :eR (.vo n a) v l K=K v l:=id rfl
@[simp ↓] theorem atL (n:Nat) (a x:Operand) (v:U) (l:am) (K:U->am->Prop) :eR (.st n a x) v l K=K v l:=id rfl
@[simp ↓] theorem atG (x:Operand) (v:U) (l:am) (K:U->am->Prop) :eR (.ED x) v l K=K v l:=id rfl
@[simp ↓] theorem as9 (o:BinOp) (t:TypeId) (x y:Operand) (v:U) (l:am) (K:U->am->Prop) :eR (.bin o t x y) v l K=K v l:=id rfl
@[simp ↓] theorem atN (o:UnOp) (x:Operand) (v:U) (l:am) (K:U->am->Prop) :eR (.un o x) v l K=K v l:=id rfl
@[simp ↓] theorem atf (k:IntKind) (x:Operand) (v:U) (l:am) (K:U->am->Prop) :eR (.Ao k x) v l K=K v l:=id rfl
@[simp ↓] theorem atk (x:Operand) (v:U) (l:am) (K:U->am->Prop) :eR (.Av x) v l K=K v l:=id rfl
@[simp ↓] theorem ate (x:Operand) (v:U) (l:am) (K:U->am->Prop) :eR (.uD x) v l K=K v l:=id rfl
@[simp ↓] theorem atj (x:Operand) (v:U) (l:am) (K:U->am->Prop) :eR (.Au x) v l K=K v l:=id rfl
@[simp ↓] theorem atB (t:TypeId) (x:Operand) (v:U) (l:am) (K:U->am->Prop) :eR (.zt t x) v l K=K v l:=id rfl
@[simp ↓] theorem atM (t:TypeId) (z:U) (ok:Bool) (x:Operand) (v:U) (l:am) (K:U->am->Prop) :eR (.B1 t z ok x) v l K=K v l:=id rfl
@[simp ↓] theorem atA (f:FuncId) (a b:List Operand) (v:U) (l:am) (K:U->am->Prop) :eR (.zs f a b) v l K=K v l:=id rfl
@[simp ↓] theorem atD (z b:Nat) (zero:List U) (x y:Operand) (v:U) (l:am) (K:U->am->Prop) :eR (.se z b zero x y) v l K=K v l:=id rfl
@[simp ↓] theorem atK (dB:kq) (x:Operand) (cV av cW:Option Operand) (v:U) (l:am) (K:U->am->Prop) :eR (.slice dB x cV av cW) v l K=K v l:=id rfl
@[simp ↓] theorem atm (n:Nat) (x:Operand) (v:U) (l:am) (K:U->am->Prop) :eR (.C4 n x) v l K=K v l:=id rfl
@[simp ↓] theorem atn (n:Nat) (x:Operand) (v:U) (l:am) (K:U->am->Prop) :eR (.C8 n x) v l K=K v l:=id rfl
@[simp ↓] theorem ato (n m:Nat) (x:Operand) (v:U) (l:am) (K:U->am->Prop) :eR (.C9 n m x) v l K=K v l:=id rfl
@[simp ↓] theorem atp (dB:kq) (x y:Operand) (v:U) (l:am) (K:U->am->Prop) :eR (.Br dB x y) v l K=K v l:=id rfl
@[simp ↓] theorem atq (n z:Nat) (x y:Operand) (v:U) (l:am) (K:U->am->Prop) :eR (.Ek n z x y) v l K=K v l:=id rfl
@[simp ↓] theorem atr (n z:Nat) (x y:Operand) (v:U) (l:am) (K:U->am->Prop) :eR (.El n z x y) v l K=K v l:=id rfl
@[simp ↓] theorem ats (x y:Operand) (v:U) (l:am) (K:U->am->Prop) :eR (.Eo x y) v l K=K v l:=id rfl
@[simp ↓] theorem atl (x:Operand) (n:Nat) (v:U) (l:am) (K:U->am->Prop) :eR (.ext x n) v l K=K v l:=id rfl
@[simp ↓] theorem atv (dB:kq) (x:Operand) (v:U) (l:am) (K:U->am->Prop) :eR (.len dB x) v l K=K v l:=id rfl
@[simp ↓] theorem atd (dB:kq) (x:Operand) (v:U) (l:am) (K:U->am->Prop) :eR (.cap dB x) v l K=K v l:=id rfl
@[simp ↓] theorem as8 (z b:Nat) (zero:List U) (x y:Operand) (v:U) (l:am) (K:U->am->Prop) :eR (.wb z b zero x y) v l K=K v l:=id rfl
@[simp ↓] theorem ati (z:Nat) (x y:Operand) (v:U) (l:am) (K:U->am->Prop) :eR (.wC z x y) v l K=K v l:=id rfl
@[simp ↓] theorem atg (zero:List U) (x:Operand) (v:U) (l:am) (K:U->am->Prop) :eR (.wu zero x) v l K=K v l:=id rfl
@[simp ↓] theorem atz (x y:Operand) (v:U) (l:am) (K:U->am->Prop) :eR (.min x y) v l K=K v l:=id rfl
@[simp ↓] theorem aty (x y:Operand) (v:U) (l:am) (K:U->am->Prop) :eR (.max x y) v l K=K v l:=id rfl
@[simp ↓] theorem as7 (z b:Nat) (x y:Operand) (v:U) (l:am) (K:U->am->Prop) :eR (.app z b x y) v l K=dp v l (c:=⟨K⟩) :=id rfl
theorem dp.cx {v:U} {l:am} {K:U->am->Prop} (h:K v l) :dp v l (c:=⟨K⟩) :=.inl h
@[simp] theorem asF (a:Operand) :(dy.ld1 a).jl=false:=id rfl
@[simp] theorem asG (n:Nat) (a:Operand) :(dy.vo n a).jl=false:=id rfl
@[simp] theorem asC (k:IntKind) (a:Operand) :(dy.Ao k a).jl=false:=id rfl
@[simp] theorem asE (a:Operand) :(dy.Av a).jl=false:=id rfl
@[simp] theorem asB (a:Operand) :(dy.uD a).jl=false:=id rfl
@[simp] theorem asD (a:Operand) :(dy.Au a).jl=false:=id rfl
@[simp] theorem asy (z:List U) :(dy.alloc z).jl=true:=id rfl
@[simp] theorem asz (a:Operand) :(dy.box a).jl=true:=id rfl
@[simp] theorem asA (z:Nat) (zero:List U) (n:Nat) (cU:List (Nat × Operand)) :(dy.ry z zero n cU).jl=true:=id rfl
@[simp] theorem asH (z b:Nat) (zero:List U) (x y:Operand) :(dy.se z b zero x y).jl=true:=id rfl
@[simp] theorem auP (l l' : am) (x:Option U) (v:U) :(dU l x=some (v,l'))=(x=some v/\l'=l) :=propext gN
@[simp ↓] theorem apI {α:Type} (x:α) (k:α->Prop) :W (some x) (c:=⟨k⟩)=k x:=id rfl
@[simp ↓] theorem apH (l:am) (o:Option U) (k:U × am->Prop) :W (dU l o) (c:=⟨k⟩)=W o (c:=⟨fun v=>k (v,l)⟩) :=by unfold W dU; cases o<;>rfl
@[simp ↓] theorem apG {α ko:Type} (o:Option α) (f:α->ko) (k:ko->Prop) :W (o.map f) (c:=⟨k⟩)=W o (c:=⟨fun v=>k (f v)⟩) :=by unfold W; cases o<;>rfl
@[simp ↓] theorem apF {α:Type} (p:Prop) [Decidable p] (x:α) (k:α->Prop) :W (if p then some x else none) (c:=⟨k⟩)=(p/\k x) :=by unfold W; by_cases h:p<;>simp[h]
@[simp ↓] theorem asP (b:Bool) (p q:Prop) :zg (.bool b) (c:=⟨p,q⟩)=r5 b (c:=⟨p,q⟩) :=id rfl
@[simp ↓] theorem as0 (p q:Prop) :r5 true (c:=⟨p,q⟩)=p:=id rfl
@[simp ↓] theorem asZ (p q:Prop) :r5 false (c:=⟨p,q⟩)=q:=id rfl
@[simp ↓] theorem asW (b:Bool) (p q:Prop) :r4 (.bool b) true (c:=⟨p,q⟩)=r5 b (c:=⟨p,q⟩) :=by cases b<;>rfl
@[simp ↓] theorem asV (b:Bool) (p q:Prop) :r4 (.bool b) false (c:=⟨p,q⟩)=r5 b (c:=⟨q,p⟩) :=by cases b<;>rfl
@[simp ↓] theorem asX (w:Bool) (p q:Prop) :r4 hF w (c:=⟨p,q⟩)=q:=id rfl
@[simp ↓] theorem asY (w:Bool) (p q:Prop) :r4 (.bG []) w (c:=⟨p,q⟩)=q:=id rfl
theorem jo {b:Bool} {p q:Prop} (h1:b=true->p) (ad:b=false->q) :r5 b (c:=⟨p,q⟩) :=by cases b; exact ad rfl; exact h1 rfl
@[simp ↓] theorem auR (ae:bg) (d:Tmp) (v:U) :hD ae (some d) v=bS ae d v:=id rfl
@[simp ↓] theorem auQ (ae:bg) (v:U) :hD ae none v=ae:=id rfl
@[simp] theorem arp {α:Type} (s:Nat->α) (d:Nat) (v:α) (t:Nat) :bS s d v t=if t=d then v else s t:=id rfl
@[simp] theorem apO (args:List U) (t:Nat) :Af args t=args.getD t hF:=id rfl
@[simp] theorem ard (ae:bg) (t:Tmp) :da G ae (.tmp t)=ae t:=id rfl
@[simp] theorem aq4 (ae:bg) (f:FuncId) :da G ae (.func f)=.fn f [] [] :=id rfl
@[simp] theorem aq5 (ae:bg) (g:Nat) :da G ae (.global g)=G g:=id rfl
@[simp] theorem aq6 (ae:bg) (k:IntKind) (n:Int) :da G ae (.const (.int k n))=.int k n:=id rfl
@[simp] theorem aq3 (ae:bg) (b:Bool) :da G ae (.const (.bool b))=.bool b:=id rfl
@[simp] theorem arc (ae:bg) (s:ByteArray) :da G ae (.const (.string s))=.str s.data.toList:=id rfl
@[simp] theorem arb (ae:bg) :da G ae (.const (.slice none 0 0))=.aT:=id rfl
@[simp] theorem ara (ae:bg) :da G ae (.const (.pointer none))=.jU:=id rfl
@[simp] theorem aq9 (ae:bg) :da G ae (.const (.map none))=.ia:=id rfl
@[simp] theorem aq7 (ae:bg) :da G ae (.const .nilFunc)=.jS:=id rfl
@[simp] theorem aq8 (ae:bg) :da G ae (.const .nilIface)=.jT:=id rfl
@[simp] theorem arf (ae:bg) :da G ae (.const (.tuple #[]))=.bG [] :=id rfl
variable (aB:Operand->U) (l:am)
@[simp ↓] theorem auw (x:Operand) :bU P aB l (.gu x)=some (aB x,l) :=id rfl
@[simp ↓] theorem auz (c a b:Operand) :bU P aB l (.pick c a b)=dU l (ER (aB c) (aB a) (aB b)) :=id rfl
@[simp ↓] theorem atX (z:List U) :bU P aB l (.alloc z)=some (.ptr l.length 0 z.length,l++[.cells z.length z]) :=id rfl
@[simp ↓] theorem at2 (x:Operand) :bU P aB l (.box x)=(aB x).cells.map fun cs=>(.ptr l.length 0 cs.length,l++[.cells cs.length cs]) :=id rfl
@[simp ↓] theorem at1 (zero:List U) (cU:List (Nat × Nat × Operand)) :bU P aB l (.Cy zero cU)=dU l ((qf zero (cU.map fun p=>(p.1,p.2.1,aB p.2.2))).map .aH) :=id rfl
@[simp ↓] theorem at3 (z:Nat) (zero:List U) (len:Nat) (cU:List (Nat × Operand)) :bU P aB l (.ry z zero len cU)=(hP (fun i=>some (i*z,z)) (dN zero len) (cU.map fun p=>(p.1,aB p.2))).map fun cs=>(.ar z l.length 0 len len (len*z),l++[.cells (len*z) cs]) :=id rfl
@[simp ↓] theorem auk (a:Operand) :bU P aB l (.ld1 a)=dU l ((eW l (aB a)).bind fun x=>x.1[x.2]?) :=id rfl
@[simp ↓] theorem aul (n:Nat) (a:Operand) :bU P aB l (.vo n a)=dU l ((eW l (aB a)).bind fun x=>tN n x.1 x.2) :=id rfl
@[simp ↓] theorem auC (n:Nat) (a x:Operand) :bU P aB l (.st n a x)=(kH n l (aB a) (aB x)).map fun l'=>(hF,l') :=id rfl
@[simp ↓] theorem aux (x:Operand) :bU P aB l (.ED x)=dU l (zu (aB x)) :=id rfl
@[simp ↓] theorem at0 (o:BinOp) (t:TypeId) (x y:Operand) :bU P aB l (.bin o t x y)=dU l (gH P o t (aB x) (aB y)) :=id rfl
@[simp ↓] theorem auE (o:UnOp) (x:Operand) :bU P aB l (.un o x)=dU l (rg o (aB x)) :=id rfl
@[simp ↓] theorem at6 (k:IntKind) (x:Operand) :bU P aB l (.Ao k x)=dU l (CJ k (aB x)) :=id rfl
@[simp ↓] theorem aub (x:Operand) :bU P aB l (.Av x)=dU l (Ga (aB x)) :=id rfl
@[simp ↓] theorem at5 (x:Operand) :bU P aB l (.uD x)=dU l (wm l (aB x)) :=id rfl
@[simp ↓] theorem aua (x:Operand) :bU P aB l (.Au x)=dU l (wE (aB x)) :=id rfl
@[simp ↓] theorem aus (t:TypeId) (x:Operand) :bU P aB l (.zt t x)=some (.g0 t (aB x),l) :=id rfl
@[simp ↓] theorem auD (t:TypeId) (z:U) (ok:Bool) (x:Operand) :bU P aB l (.B1 t z ok x)=dU l (B2 t z ok (aB x)) :=id rfl
@[simp ↓] theorem aur (f:FuncId) (a b:List Operand) :bU P aB l (.zs f a b)=some (.fn f (a.map aB) (b.map aB),l) :=id rfl
@[simp ↓] theorem auu (z by_:Nat) (zero:List U) (a c:Operand) :bU P aB l (.se z by_ zero a c)=sf z by_ zero l (aB a) (aB c) :=id rfl
@[simp ↓] theorem auB (dB:kq) (x:Operand) (cV av cW:Option Operand) :bU P aB l (.slice dB x cV av cW)=dU l (fG dB (aB x) (cV.map aB) (av.map aB) (cW.map aB)) :=id rfl
@[simp ↓] theorem aud (off:Nat) (x:Operand) :bU P aB l (.C4 off x)=dU l (nU (aB x) off) :=id rfl
@[simp ↓] theorem aue (off:Nat) (x:Operand) :bU P aB l (.C8 off x)=dU l (Da off (aB x)) :=id rfl
@[simp ↓] theorem auf (n off:Nat) (x:Operand) :bU P aB l (.C9 n off x)=dU l (AE n off (aB x)) :=id rfl
@[simp ↓] theorem aug (dB:kq) (x i:Operand) :bU P aB l (.Br dB x i)=dU l (ck dB (aB x) (aB i)) :=id rfl
@[simp ↓] theorem auh (n z:Nat) (x i:Operand) :bU P aB l (.Ek n z x i)=dU l (Em n z (aB x) (aB i)) :=id rfl
@[simp ↓] theorem aui (n z:Nat) (x i:Operand) :bU P aB l (.El n z x i)=dU l (En n z (aB x) (aB i)) :=id rfl
@[simp ↓] theorem auj (x i:Operand) :bU P aB l (.Eo x i)=dU l (ze (aB x) (aB i)) :=id rfl
@[simp ↓] theorem auc (x:Operand) (i:Nat) :bU P aB l (.ext x i)=dU l (C3 (aB x) i) :=id rfl
@[simp ↓] theorem aum (dB:kq) (x:Operand) :bU P aB l (.len dB x)=dU l (cK dB (aB x)) :=id rfl
@[simp ↓] theorem at4 (dB:kq) (x:Operand) :bU P aB l (.cap dB x)=dU l (uC dB (aB x)) :=id rfl
@[simp ↓] theorem atY (z by_:Nat) (s x:Operand) :bU P aB l (.app z by_ s x)=gx l z by_ (aB s) (aB x) :=id rfl
@[simp ↓] theorem atZ (z by_:Nat) (zero:List U) (s x:Operand) :bU P aB l (.wb z by_ zero s x)=rx l z by_ zero (aB s) (aB x) :=id rfl
@[simp ↓] theorem at9 (z:Nat) (d x:Operand) :bU P aB l (.wC z d x)=As z l (aB d) (aB x) :=id rfl
@[simp ↓] theorem at7 (zero:List U) (x:Operand) :bU P aB l (.wu zero x)=(sV zero l (aB x)).map fun l'=>(.bG [],l') :=id rfl
@[simp ↓] theorem auq (x y:Operand) :bU P aB l (.min x y)=dU l (By (aB x) (aB y)) :=id rfl
@[simp ↓] theorem aup (x y:Operand) :bU P aB l (.max x y)=dU l (vu (aB x) (aB y)) :=id rfl
@[simp] theorem auO (t:Bool) (a b:U) :ER (.bool t) a b=some (if t=true then a else b) :=id rfl
@[simp] theorem SR (cs:List U) :(U.aH cs).cells=some cs:=id rfl
@[simp] theorem aqA (k:IntKind) (n:Int) :(U.int k n).cells=some [.int k n] :=id rfl
@[simp] theorem aqx (b:Bool) :(U.bool b).cells=some [.bool b] :=id rfl
@[simp] theorem aqJ (s:List UInt8) :(U.str s).cells=some [.str s] :=id rfl
@[simp] theorem aqF:U.aT.cells=some [.aT] :=id rfl
@[simp] theorem aqE:U.jU.cells=some [.jU] :=id rfl
@[simp] theorem aqC:U.jS.cells=some [.jS] :=id rfl
@[simp] theorem aqD:U.ia.cells=some [.ia] :=id rfl
@[simp] theorem aqH (z:Nat) (es:List (List U)) :(U.bQ z es).cells=some [.bQ z es] :=id rfl
@[simp] theorem aqI (z b o n c s:Nat) :(U.ar z b o n c s).cells=some [.ar z b o n c s] :=id rfl
@[simp] theorem aqG (b o s:Nat) :(U.ptr b o s).cells=some [.ptr b o s] :=id rfl
@[simp] theorem aqz (f:FuncId) (a b:List U) :(U.fn f a b).cells=some [.fn f a b] :=id rfl
@[simp] theorem aqB (b:Nat) :(U.mp b).cells=some [.mp b] :=id rfl
@[simp] theorem aqv (b off sz k:Nat) :nU (.ptr b off sz) k=some (.ptr b (off+k) sz) :=id rfl
@[simp] theorem aqw (cs:List U) (off k:Nat) :nU (.b3 cs off) k=some (.b3 cs (off+k)) :=id rfl
@[simp] theorem auJ (b o s:Nat) :zu (.ptr b o s)=some (.ptr b o s) :=id rfl
@[simp] theorem auK (cs:List U) (o:Nat) :zu (.b3 cs o)=some (.b3 cs o) :=id rfl
@[simp] theorem auI (f:FuncId) (a b:List U) :zu (.fn f a b)=some (.fn f a b) :=id rfl
def nz (x:Option a7) (off sz:Nat) :Option (List U × Nat) :=match x with
 | some (.cells n cs)=>if n=sz then some (cs,off) else none
 | _=>none
@[simp] theorem auT (b off sz:Nat) :eW l (.ptr b off sz)=nz l[b]? off sz:=by
 unfold eW nz; rfl
@[simp] theorem auS (n:Nat) (cs:List U) (off sz:Nat) :nz (some (.cells n cs)) off sz=if n=sz then some (cs,off) else none:=id rfl
@[simp] theorem auU (cs:List U) (off:Nat) :eW l (.b3 cs off)=some (cs,off) :=id rfl
def O6 (n:Nat) (l:am) (b off sz:Nat) (vs:List U) (x:Option a7) :Option am:=match x with
 | some (.cells m cs)=>if m=sz/\vs.length=n/\off+n<=m then some (l.set b (.cells m (bt cs off vs))) else none
 | _=>none
@[simp] theorem ZJ (n b off sz:Nat) (v:U) :kH n l (.ptr b off sz) v=v.cells.bind fun vs=>O6 n l b off sz vs l[b]?:=by
 unfold kH O6;cases v.cells<;>rfl
@[simp] theorem anw (n b off sz:Nat) (vs:List U) (m:Nat) (cs:List U) :O6 n l b off sz vs (some (.cells m cs))=if m=sz/\vs.length=n/\off+n<=m then some (l.set b (.cells m (bt cs off vs))) else none:=id rfl
@[simp] theorem auN (n:Nat) (cs:List U) (off:Nat) :tN n cs off=if off+n<=cs.length then some (.aH ((cs.drop off).take n)) else none:=id rfl
@[simp] theorem avp (a:U) (cs vs:List U) (off:Nat) :bt (a::cs) (off+1) vs=a::bt cs off vs:=by
 simp only[bt,List.take_succ_cons,awN,show off+1+vs.length=(off+vs.length)+1 by omega,ayy]
@[simp] theorem ane (a v:U) (cs vs:List U) :bt (a::cs) 0 (v::vs)=v::bt cs 0 vs:=by simp[bt]
@[simp] theorem ang (cs:List U) :bt cs 0 []=cs:=by simp[bt]
@[simp] theorem avo (vs:List U) :bt [] 0 vs=vs:=by simp[bt]
@[simp] theorem ap4 (zero:List U) :qf zero []=some zero:=id rfl
theorem acd (zero:List U) (off size:Nat) (v:U) (r:List (Nat × Nat × U)) :qf zero ((off,size,v) ::r)=v.cells.bind fun vs=>if vs.length=size/\off+size<=zero.length then qf (bt zero off vs) r else none:=by
 rw[qf]; cases v.cells<;>rfl
attribute [simp] acd
@[simp] theorem arj (lH:Nat->Option (Nat × Nat)) (zero:List U) :hP lH zero []=some zero:=id rfl
@[simp] theorem ari (lH:Nat->Option (Nat × Nat)) (zero:List U) (i:Nat) (v:U) (r:List (Nat × U)) :hP lH zero ((i,v) ::r)=(lH i).bind fun q=>v.cells.bind fun vs=>if vs.length=q.2/\q.1+q.2<=zero.length then hP lH (bt zero q.1 vs) r else none:=by
 rw[hP];cases lH i with
 | none=>rfl
 | some q=>cases v.cells<;>rfl
@[simp] theorem auW (zero:List U) :dN zero 0=[] :=id rfl
@[simp] theorem auX (zero:List U) (n:Nat) :dN zero (n+1)=zero++dN zero n:=id rfl
@[simp] theorem apX (o:BinOp) (t:TypeId) (k:IntKind) (a:Int) (k' : IntKind) (b:Int) :gH P o t (.int k a) (.int k' b)=cD o k a k' b:=id rfl
@[simp] theorem ap2 (o:BinOp) (t:TypeId) (a b:List UInt8) :gH P o t (.str a) (.str b)=pn o a b:=id rfl
@[simp] theorem apZ (k:IntKind) (a b:Int) :cD .lss k a k b=some (.bool (decide (a<b))) :=by simp[cD]
@[simp] theorem apY (k:IntKind) (a b:Int) :cD .leq k a k b=some (.bool (decide (a<=b))) :=by simp[cD]
@[simp] theorem apW (k:IntKind) (a b:Int) :cD .gtr k a k b=some (.bool (decide (b<a))) :=by simp[cD]
@[simp] theorem apV (k:IntKind) (a b:Int) :cD .geq k a k b=some (.bool (decide (b<=a))) :=by simp[cD]
@[simp] theorem apU (k:IntKind) (a b:Int) :cD .eql k a k b=some (.bool (decide (a=b))) :=by
 have:(a == b)=decide (a=b) :=by by_cases h:a=b<;>simp[h]
 simp[cD,this]
@[simp] theorem ap1 (k:IntKind) (a b:Int) :cD .neq k a k b=some (.bool (!decide (a=b))) :=by
 have:(a != b)=!decide (a=b) :=by by_cases h:a=b<;>simp[h]
 simp[cD,this]
@[simp] theorem apT (k:IntKind) (a b:Int) :cD .add k a k b=some (.int k (k.wrap (a+b))) :=by simp[cD]
@[simp] theorem ap3 (k:IntKind) (a b:Int) :cD .sub k a k b=some (.int k (k.wrap (a - b))) :=by simp[cD]
@[simp] theorem ap0 (k:IntKind) (a b:Int) :cD .mul k a k b=some (.int k (k.wrap (a*b))) :=by simp[cD]
@[simp] theorem avC (b:Bool) :rg .not (.bool b)=some (.bool (!b)) :=id rfl
@[simp] theorem avB (k:IntKind) (n:Int) :rg .neg (.int k n)=some (.int k (k.wrap (0 - n))) :=id rfl
@[simp] theorem aqM (k k' : IntKind) (n:Int) :CJ k (.int k' n)=some (.int k (k.wrap n)) :=id rfl
@[simp] theorem asu (z dO:Nat) (es:List (List U)) (k:IntKind) (i:Int) :ck (.ar z) (.bQ dO es) (.int k i)=if z=dO/\0<=i then (es[i.toNat]?).map fun cs=>.b3 cs 0 else none:=id rfl
@[simp] theorem asv (z dO b off len cap sz:Nat) (k:IntKind) (i:Int) :ck (.ar z) (.ar dO b off len cap sz) (.int k i)=if z=dO/\0<=i/\i<len then some (.ptr b (off+i.toNat*z) sz) else none:=id rfl
@[simp] theorem ast (n z:Nat) (x:U) (k:IntKind) (i:Int) :ck (.arr n z) x (.int k i)=if 0<=i/\i<n then nU x (i.toNat*z) else none:=id rfl
@[simp] theorem atS (z:Nat) :cK (.ar z) .aT=some (.int .i64 0) :=id rfl
@[simp] theorem atU (z dO b o n c s:Nat) :cK (.ar z) (.ar dO b o n c s)=some (.int .i64 n) :=id rfl
@[simp] theorem atT (z dO:Nat) (es:List (List U)) :cK (.ar z) (.bQ dO es)=some (.int .i64 es.length) :=id rfl
@[simp] theorem atV (s:List UInt8) :cK .str (.str s)=some (.int .i64 s.length) :=id rfl
@[simp] theorem atR (n z:Nat) (x:U) :cK (.arr n z) x=some (.int .i64 n) :=id rfl
@[simp] theorem arh (vs:List U) (i:Nat) :C3 (.bG vs) i=vs[i]?:=id rfl
@[simp] theorem ark (cs:List U) (off:Nat) :Da off (.aH cs)=cs[off]?:=id rfl
@[simp] theorem arl (n off:Nat) (cs:List U) :AE n off (.aH cs)=tN n cs off:=id rfl
end

section
variable {P:Program} {G:Nat->U}
inductive Rd (l:am) :U->U->Prop
 | same (c:U) (h:c.closed=true) :Rd l c c
 | aH (cs cs' : List U) (al:cs'.length=cs.length) (h:∀ (j:Nat) (c c' : U),cs[j]? = some c->cs'[j]? = some c'->Rd l c c') :Rd l (.aH cs) (.aH cs')
 | bG (cs cs' : List U) (al:cs'.length=cs.length) (h:∀ (j:Nat) (c c' : U),cs[j]? = some c->cs'[j]? = some c'->Rd l c c') :Rd l (.bG cs) (.bG cs')
 | ar (z b off len cap sz:Nat) (cs:List U) (es:List (List U)) (ag:l[b]? = some (.cells sz cs)) (al:es.length=len) (aw:∀ e∈es,e.length=z)
   (ec:off+len*z<=cs.length)
   (h:∀ (i j:Nat) (e:List U) (c c' : U),es[i]? = some e->e[j]? = some c'->cs[off+(i*z+j)]? = some c->Rd l c c') :Rd l (.ar z b off len cap sz) (.bQ z es)
 | su (z b off cap sz:Nat) :Rd l (.ar z b off 0 cap sz) (.bQ z [])
theorem al0 {w:World} {R:Nat->Prop} {B:Nat} {l:am} {μ:cX} (rel:cc R B w (bW l) μ) :∀ {c c' : U},Rd l c c'->∀ {v:Value},aS w R (bW l) μ c v->fP w R c' v:=by
 intro c c' az
 induction az with
 | same c h=>
  intro v au;exact (fP.up (ye au h) fun k _ hk=>⟨hk.1,fun ⟨b,m,h1,ad,aj⟩=>by cases ad⟩:aS w R aQ.empty (fun _=>none) _ v)
 | aH cs cs' al h aJ=>
  intro v au;cases au with
  | aH _ vs gC h1 au=>
   refine .aH cs' vs (by omega) h1 (fun j c' v ai fK=>?_);have aM:j<cs.length:=by rw[<-al]; exact (avP.1 ai).1
   exact aJ j cs[j] c' (avS aM) ai (au j cs[j] v (avS aM) fK)
 | bG cs cs' al h aJ=>
  intro v au;cases au with
  | bG _ vs gC au=>
   refine .bG cs' vs (by omega) (fun j c' v ai fK=>?_);have aM:j<cs.length:=by rw[<-al]; exact (avP.1 ai).1
   exact aJ j cs[j] c' (avS aM) ai (au j cs[j] v (avS aM) fK)
 | su z b off cap sz=>
  intro v au;cases au with
  | ar _ _ _ _ _ _ cap' cs m ag hm al ap ah=>exact .fY z _ cap'
  | gR _ _ _ _ _ _ cap' a al ah aq=>exact .fY z _ cap'
  | ig _ _ _ _ a cs m ag hm=>exact .fY z a 0
 | ar z b off len cap sz cs es ag al aw ec h aJ=>
  intro v au;have rM:(bW l).f b=.cells sz cs:=ln.2 ag;cases au with
  | ig _ _ _ _ a hN m gb kB=>
   obtain rfl:=awt.1 al;exact .fY z a 0
  | gR _ _ _ _ _ _ cap' a al ah aq=>
   exfalso;rcases aq with aq | ⟨n,hN,aq,aM⟩
   ·rw[rM] at aq; cases aq
   ·rw[rM] at aq; cases aq; omega
  | ar _ _ _ _ _ _ cap' hN m gb hm hR ap ah=>
   rw[rM] at gb; cases gb;have hblk:=rel.blk b m hm;rw[rM] at hblk;obtain⟨cd,bM,arr,t,gy,hw,aA,aF,nh⟩:=hblk;have db:len<=cap':=by rcases ah with ⟨_,h⟩ | ⟨_,h,_⟩<;>omega
   have pu:R m.r:=rel.up _ (rel.base b m (by rw[rM]; rfl) hm);subst al;have rN:∀ i j,i<es.length->j<z->∃ c v,cs[off+(i*z+j)]? = some c/\arr[m.s+(off+(i*z+j))]? = some v/\v.oneCell'=true/\aS w R (bW l) μ c v:=by
    intro i j av ai;have aM:off+(i*z+j)<cs.length:=by
     have:i*z+z<=es.length*z:=by rw[<-awD]; exact avX _ av
     omega
    obtain⟨v,h1,ad,aj⟩:=nh _ _ (avS aM);exact⟨_,v,avS aM,h1,ad,aj⟩
   refine .bQ z es m.r (m.s+off) cap' (fun i j=>(arr[m.s+(off+(i*z+j))]?).getD undef) db aw (fun i j av ai=>?_) (fun i e ao j c' ai=>?_)
   ·obtain⟨c,v,h1,ad,aj,aE⟩:=rN i j av ai;refine⟨?_,?_,pu,fun ⟨b,m,h1,ad,aj⟩=>by cases ad⟩
    ·simp only[World.cell?,hw,ad,awF,axR];rw[show m.s+off+(i*z+j)=m.s+(off+(i*z+j)) by omega,ad]; rfl
    ·rw[ad]; exact aj
   ·have av:i<es.length:=(avP.1 ao).1;have nl:j<z:=by rw[<-aw e (avY ao)]; exact (avP.1 ai).1
    obtain⟨c,v,h1,ad,aj,aE⟩:=rN i j av nl;simp only[ad,awF];exact aJ i j e c c' ao ai h1 aE
theorem bL (mQ:P.follows .mixedOrders=true) (kT:∀ g,(G g).closed=true) {f:FuncId} {args:List U} {r:U} (h:c7 P G f args [] (c:=⟨fun lJ l=>Rd l lJ r⟩)) :bz P G f args r:=by
 obtain⟨lJ,l',h1,ad,aj⟩:=h;intro w A vs aq al au;refine (Pq (A:=A) mQ kT h1 aq al au).mono ?_;rintro e w' ⟨v,μ',rfl,ag,rel,az⟩;exact⟨v,rfl,ag,al0 rel aj az⟩
theorem a6 {f:FuncId} {args:List U} {r:U} {l:am} {K:U->am->Prop} (ay:bz P G f args r) (ah:bd args=true) (h:K r l) :c7 P G f args l (c:=⟨K⟩) :=
 ⟨r,l,.pure ay ah,avR _,h⟩
theorem ajJ (mQ:P.follows .mixedOrders=true) (kT:∀ g,(G g).closed=true) {f:FuncId} {args:List U} (h:c7 P G f args [] (c:=⟨fun r _=>r=.bool true⟩))
  {w:World} {A:Nat->Prop} {vs:Array Value} (aq:∀ g,fP w A (G g) (.pointer (some ⟨g,0,none⟩))) (al:vs.size=args.length)
  (au:∀ (j:Nat) (c:U) (v:Value),args[j]? = some c->vs[j]? = some v->fP w A c v) :
  Calls P f vs w fun e w'=>e=.returned (.bool true)/\RowKit.Below w.heap.size w w':=by
 obtain⟨lJ,l',h1,ad,rfl⟩:=h;exact anV mQ kT h1 aq al au
end

section
variable {P:Program}
inductive eo (P:Program) :List TypeId->List U->Prop
 | nil:eo P [] []
 | bool {t:TypeId} {b:Bool} {ts:List TypeId} {cs:List U} (aN:P.underlying t=some .bool) (h:eo P ts cs) :eo P (t::ts) (.bool b::cs)
 | int {t:TypeId} {k:IntKind} {n:Int} {ts:List TypeId} {cs:List U} (aN:P.underlying t=some (.int k)) (h1:k.min<=n) (ad:n<=k.max) (h:eo P ts cs) :eo P (t::ts) (.int k n::cs)
 | str {t:TypeId} {s:List UInt8} {ts:List TypeId} {cs:List U} (aN:P.underlying t=some .string) (ak:s.length<=maxLen) (h:eo P ts cs) :eo P (t::ts) (.str s::cs)
 | aT {t e:TypeId} {ts:List TypeId} {cs:List U} (aN:P.underlying t=some (.slice e)) (h:eo P ts cs) :eo P (t::ts) (.aT::cs)
 | ar {t e:TypeId} {es:List (List U)} {ts:List TypeId} {cs:List U} (aN:P.underlying t=some (.slice e)) (al:es.length<=maxLen) (aw:∀ r∈es,r.length=P.cellsOf e) (ao:∀ r∈es,eo P [e] r) (h:eo P ts cs) :eo P (t::ts) (.bQ (P.cellsOf e) es::cs)
 | struct {t:TypeId} {fs:Array Field} {ts:List TypeId} {cs:List U} (aN:P.underlying t=some (.struct fs)) (h:eo P (fs.toList.map (·.type)++ts) cs) :eo P (t::ts) cs
 | array {t e:TypeId} {n:Nat} {ts:List TypeId} {cs:List U} (aN:P.underlying t=some (.array n e)) (h:eo P (List.replicate n e++ts) cs) :eo P (t::ts) cs
def wA (P:Program) :List Field->Nat->Option Nat
 | [],o=>some o
 | f::r,o=>if f.offset=o then wA P r (o+P.cellsOf f.type) else none
def vB (P:Program) :Nat->TypeId->Bool
 | 0,_=>false
 | d+1,t=>match P.underlying t with
  | some .bool | some (.int _) | some .string=>true
  | some (.slice e)=>decide (0<P.cellsOf e)&&vB P d e
  | some (.struct fs)=>decide (wA P fs.toList 0=some (P.cellsOf t))&&fs.toList.all fun f=>vB P d f.type
  | some (.array n e)=>decide (n*P.cellsOf e=P.cellsOf t)&&vB P d e
  | _=>false
structure qe (P:Program) (w:World) (A:Nat->Prop) (ts:List TypeId) (vs:List Value) (cs:List U) :Prop where
 len:cs.length=vs.length
 ty:∀ re cs',eo P re cs'->eo P (ts++re) (cs++cs')
 ri:∀ (j:Nat) (c:U) (v:Value),cs[j]? = some c->vs[j]? = some v->fP w A c v/\v.oneCell'=true
theorem qe.nil {w:World} {A:Nat->Prop}:qe P w A [] [] [] :=⟨rfl,fun _ _ h=>h,fun j c v h=>by simp at h⟩
theorem qe.app {w:World} {A:Nat->Prop} {ts re:List TypeId} {vs Jl:List Value} {cs cs' : List U} (a:qe P w A ts vs cs) (b:qe P w A re Jl cs') :qe P w A (ts++re) (vs++Jl) (cs++cs') :=by
 refine⟨by simp[a.len,b.len],fun avs aq0 h=>by rw[awo,awo]; exact a.ty _ _ (b.ty _ _ h),fun j c v ah au=>?_⟩;by_cases h:j<cs.length
 ·rw[avQ h] at ah;rw[avQ (by rw[<-a.len]; exact h)] at au;exact a.ri j c v ah au
 ·rw[av2 (by omega)] at ah;rw[av2 (by rw[<-a.len]; omega)] at au;rw[<-a.len] at au;exact b.ri _ c v ah au
theorem Ii {α ko:Type} {f:α->Option ko}:∀ {l:List α} {r:List ko},l.mapM f=some r->∀ (p:Nat) (a:α),l[p]? = some a->∃ x,r[p]? = some x/\f a=some x
 | [],r,h,p,a,aA=>by simp at aA
 | a0::l,r,h,p,a,aA=>by
  rw[axx] at h;simp only[Option.bind_eq_bind,bind_some,axH,Option.some.injEq] at h;obtain⟨b,h1,ct,ad,rfl⟩:=h;cases p with
  | zero=>simp only[awk,Option.some.injEq] at aA; subst aA; exact⟨b,rfl,h1⟩
  | succ p=>obtain⟨x,aj,aE⟩:=Ii ad p a (by simpa using aA); exact⟨x,by simpa using aj,aE⟩
theorem EJ {w:World} {A:Nat->Prop} {c:U} {v:Value} (h:fP w A c v) (h1:v.oneCell'=true) :∀ (j:Nat) (c' : U) (aZ:Value),[c][j]? = some c'->[v][j]? = some aZ->fP w A c' aZ/\aZ.oneCell'=true:=by
 intro j c' aZ ah au;cases j with
 | zero=>simp only[awk,Option.some.injEq] at ah au; subst ah au; exact⟨h,h1⟩
 | succ j=>simp at ah
theorem anY {H:Type} {enc:TypeId × Value->H} {w:World} {base:Nat} {spare:Nat->Bool} {held:Bool} {fuel:Nat} {t:TypeId} {vs:List Value} {x:DataW H × List MemPlace}
  (aN:P.underlying t=some .bool) (h:DataW.trod enc P w base spare held (fuel+1) t vs=some x) :∃ b,vs=[.bool b] :=by
 unfold DataW.trod at h;rw[aN] at h;split at h
 case h_1 b _=>exact⟨b,rfl⟩
 all_goals first | (cases h; done) | (rename_i heq; cases heq; done) | (rename_i heq _; cases heq; done) | (rename_i heq _ _; cases heq; done) | (rename_i heq _ _ _; cases heq; done) | (simp_all; done)
theorem trod_int {H:Type} {enc:TypeId × Value->H} {w:World} {base:Nat} {spare:Nat->Bool} {held:Bool} {fuel:Nat} {t:TypeId} {k:IntKind} {vs:List Value} {x:DataW H × List MemPlace}
  (aN:P.underlying t=some (.int k)) (h:DataW.trod enc P w base spare held (fuel+1) t vs=some x) :∃ n,vs=[.int k n]/\k.min<=n/\n<=k.max:=by
 unfold DataW.trod at h;rw[aN] at h;split at h<;>simp only[reduceCtorEq,Option.some.injEq,TypeDesc.int.injEq] at *<;>try (exfalso; simp_all; done)
 rename_i g3 k' n heq;subst heq;split at h
 ·rename_i ah;obtain⟨rfl,hw⟩:=ah;simp only[Lit.wf,avU,decide_eq_true_eq] at hw;exact⟨n,rfl,hw.1,hw.2⟩
 ·cases h
theorem an0 {H:Type} {enc:TypeId × Value->H} {w:World} {base:Nat} {spare:Nat->Bool} {held:Bool} {fuel:Nat} {t:TypeId} {vs:List Value} {x:DataW H × List MemPlace}
  (aN:P.underlying t=some .string) (h:DataW.trod enc P w base spare held (fuel+1) t vs=some x) :∃ s,vs=[.string s]/\s.size<=maxLen:=by
 unfold DataW.trod at h;rw[aN] at h;split at h<;>simp only[reduceCtorEq,Option.some.injEq] at *<;>try (exfalso; simp_all; done)
 split at h
 ·rename_i s _ ak; exact⟨s,rfl,ak⟩
 ·cases h
theorem anZ {H:Type} {enc:TypeId × Value->H} {w:World} {base:Nat} {spare:Nat->Bool} {held:Bool} {fuel:Nat} {t e:TypeId} {vs:List Value} {x:DataW H × List MemPlace}
  (aN:P.underlying t=some (.slice e)) (h:DataW.trod enc P w base spare held (fuel+1) t vs=some x) :
  vs=[.slice none 0 0]\/∃ a len cap,vs=[.slice (some a) len cap]/\len<=cap/\cap<=maxLen/\∃ Gf,(List.range len).mapM (fun i=>(w.cells? base (a.add (i*P.cellsOf e)) (P.cellsOf e)).bind (DataW.trod enc P w base spare held fuel e))=some Gf:=by
 unfold DataW.trod at h;rw[aN] at h;split at h<;>simp only[reduceCtorEq,Option.some.injEq,TypeDesc.slice.injEq] at *<;>try (exfalso; simp_all; done)
 ·exact .inl trivial
 ·rename_i h2 a len cap heq;subst heq;split at h
  ·rename_i ah;rw[bind_some] at h;obtain⟨Gf,h1,_⟩:=h;exact .inr ⟨a,len,cap,rfl,ah.2.1,ah.2.2,Gf,h1⟩
  ·cases h
theorem an1 {H:Type} {enc:TypeId × Value->H} {w:World} {base:Nat} {spare:Nat->Bool} {held:Bool} {fuel:Nat} {t:TypeId} {fs:Array Field} {vs:List Value} {x:DataW H × List MemPlace}
  (aN:P.underlying t=some (.struct fs)) (h:DataW.trod enc P w base spare held (fuel+1) t vs=some x) :
  vs.length=P.cellsOf t/\∃ xs,(fs.toList.mapM fun f=>DataW.trod enc P w base spare held fuel f.type ((vs.drop f.offset).take (P.cellsOf f.type)))=some xs:=by
 unfold DataW.trod at h;rw[aN] at h;split at h<;>simp only[reduceCtorEq,Option.some.injEq,TypeDesc.struct.injEq] at *<;>try (exfalso; simp_all; done)
 rename_i aro heq;subst heq;split at h
 ·rename_i ah;rw[map_some] at h;obtain⟨xs,h1,_⟩:=h;exact⟨ah,xs,h1⟩
 ·cases h
theorem trod_array {H:Type} {enc:TypeId × Value->H} {w:World} {base:Nat} {spare:Nat->Bool} {held:Bool} {fuel:Nat} {t e:TypeId} {n:Nat} {vs:List Value} {x:DataW H × List MemPlace}
  (aN:P.underlying t=some (.array n e)) (h:DataW.trod enc P w base spare held (fuel+1) t vs=some x) :
  vs.length=P.cellsOf t/\∃ xs,((List.range n).mapM fun i=>DataW.trod enc P w base spare held fuel e ((vs.drop (i*P.cellsOf e)).take (P.cellsOf e)))=some xs:=by
 unfold DataW.trod at h;rw[aN] at h;split at h<;>simp only[reduceCtorEq,Option.some.injEq,TypeDesc.array.injEq] at *<;>try (exfalso; simp_all; done)
 rename_i auH h2 heq;obtain⟨rfl,rfl⟩:=heq;split at h
 ·rename_i ah;rw[map_some] at h;obtain⟨xs,h1,_⟩:=h;exact⟨ah,xs,h1⟩
 ·cases h
theorem abC (a:Addr) (x j:Nat) :a.add (x+j)=(a.add x).add j:=by
 unfold Addr.add;by_cases af:x=0
 ·subst af; simp
 ·by_cases ai:j=0
  ·subst ai; simp
  ·rw[if_neg (by omega),if_neg af,if_neg ai];simp only[axu]
theorem add_plain (b o n:Nat) :(Addr.mk b o none).add n=⟨b,o+n,none⟩:=by
 unfold Addr.add;by_cases aC:n=0
 ·subst aC; simp
 ·rw[if_neg aC]
theorem aae {H:Type} {enc:TypeId × Value->H} {w:World} {A:Nat->Prop} (cN:∀ k,A k) {base:Nat} {spare:Nat->Bool} {held:Bool}:∀ (fuel:Nat) (D:Nat) (t:TypeId) (vs:List Value) (d:DataW H) (cU:List MemPlace),
  vB P D t=true->DataW.trod enc P w base spare held fuel t vs=some (d,cU)->∃ cs,qe P w A [t] vs cs
 | 0,_,_,_,_,_,_,h=>by simp[DataW.trod] at h
 | fuel+1,0,t,vs,d,cU,ay,h=>by cases ay
 | fuel+1,D+1,t,vs,d,cU,ay,h=>by
  have aJ:=fun t vs d cU ay h=>aae cN (enc:=enc) (w:=w) (base:=base) (spare:=spare) (held:=held) fuel D t vs d cU ay h
  unfold vB at ay;split at ay
  ·rename_i aN;obtain⟨b,rfl⟩:=anY aN h;exact⟨[.bool b],⟨rfl,fun re cs' h=>.bool aN h,EJ (.bool b) rfl⟩⟩
  ·rename_i k aN;obtain⟨n,rfl,h1,ad⟩:=trod_int aN h;exact⟨[.int k n],⟨rfl,fun re cs' h=>.int aN h1 ad h,EJ (.int k n) rfl⟩⟩
  ·rename_i aN;obtain⟨s,rfl,h1⟩:=an0 aN h;exact⟨[.str s.data.toList],⟨rfl,fun re cs' h=>.str aN (show s.data.toList.length<=maxLen from h1) h,EJ (.str s) rfl⟩⟩
  ·rename_i e aN;simp only[avU,decide_eq_true_eq] at ay;rcases anZ aN h with rfl | ⟨a,len,cap,rfl,mP,fp,Gf,ao⟩
   ·exact⟨[.aT],⟨rfl,fun re cs' h=>.aT aN h,EJ .aT rfl⟩⟩
   ·have cJ:∀ i,i<len->∃ eI row,w.cells? base (a.add (i*P.cellsOf e)) (P.cellsOf e)=some eI/\qe P w A [e] eI row:=fun i av=>by
     obtain⟨x,_,af⟩:=Ii ao i i (by rw[awr av]);rw[bind_some] at af;obtain⟨eI,h1,ad⟩:=af;obtain⟨row,aj⟩:=aJ e eI x.1 x.2 ay.2 ad;exact⟨eI,row,h1,aj⟩
    have yG:∃ (eI:Nat->List Value) (rows:Nat->List U),∀ i,i<len->w.cells? base (a.add (i*P.cellsOf e)) (P.cellsOf e)=some (eI i)/\qe P w A [e] (eI i) (rows i) :=by
     refine⟨fun i=>if av:i<len then (cJ i av).choose else [],fun i=>if av:i<len then (cJ i av).choose_spec.choose else [],fun i av=>?_⟩;simp only[dif_pos av];exact (cJ i av).choose_spec.choose_spec
    obtain⟨eI,rows,au⟩:=yG;have jE:∀ i,i<len->(eI i).length=P.cellsOf e/\∀ j,j<P.cellsOf e->∃ v,(eI i)[j]? = some v/\w.cell? (a.add (i*P.cellsOf e+j))=some v:=fun i av=>by
     have h1:=(au i av).1;unfold World.cells? at h1;split at h1
     ·refine⟨by rw[NE h1]; simp,fun j ai=>?_⟩;obtain⟨v,ad,aj⟩:=Ii h1 j j (by rw[awr ai]);refine⟨v,ad,?_⟩;rw[<-aj,abC]
     ·cases h1
    let es:=(List.range len).map rows
    have jH:∀ (i:Nat) (r:List U),es[i]? = some r->i<len/\r=rows i:=fun i r az=>by
     simp only[es,avV] at az;by_cases av:i<len
     ·rw[awr av] at az; simp only[avZ,Option.some.injEq] at az; exact⟨av,az.symm⟩
     ·rw[av5 (by simp; omega)] at az; cases az
    have bn:es.length=len:=by simp[es]
    have aw:∀ r∈es,r.length=P.cellsOf e:=fun r az=>by
     obtain⟨i,av⟩:=axJ az;obtain⟨h1,rfl⟩:=jH i r av;rw[(au i h1).2.len,(jE i h1).1]
    have Bh:∀ r∈es,eo P [e] r:=fun r az=>by
     obtain⟨i,av⟩:=axJ az;obtain⟨h1,rfl⟩:=jH i r av;have:=(au i h1).2.ty [] [] .nil;simpa using this
    refine⟨[.bQ (P.cellsOf e) es],⟨rfl,fun re cs' h=>.ar aN (by omega) aw Bh h,EJ ?_ rfl⟩⟩;by_cases aD:len=0
    ·subst aD;exact .fY _ _ _
    ·obtain⟨v0,_,iU⟩:=(jE 0 (by omega)).2 0 ay.1;have Wo:a.spot=none:=by
      unfold World.cell? at iU;split at iU
      ·split at iU
       ·cases iU
       ·rename_i ak;rw[show 0*P.cellsOf e+0=0 by omega] at ak;simp only[Addr.add,if_true] at ak;cases jg:a.spot with
        | none=>rfl
        | some x=>rw[jg] at ak; simp at ak
      ·cases iU
     obtain⟨blk,off,spot⟩:=a;simp only at Wo;subst Wo;have key:=aS.bQ (w:=w) (R:=A) (h:=aQ.empty) (μ:=fun _=>none) (P.cellsOf e) es blk off cap (fun i j=>((eI i)[j]?).getD undef) (by omega) aw
      (fun i j av ai=>by
       rw[bn] at av;obtain⟨v,h1,ad⟩:=(jE i av).2 j ai;obtain⟨c,ah⟩:∃ c,(rows i)[j]? = some c:=by
        have:j<(rows i).length:=by rw[(au i av).2.len,(jE i av).1]; exact ai
        exact⟨_,avS this⟩
       refine⟨?_,?_,cN _,fun ⟨b,m,h1,ad,aj⟩=>by cases ad⟩
       ·rw[h1,awF,<-add_plain]; exact ad
       ·rw[h1,awF]; exact ((au i av).2.ri j c v ah h1).2)
      (fun i r az j c ah=>by
       obtain⟨av,rfl⟩:=jH i r az;have ai:j<P.cellsOf e:=by rw[<-(jE i av).1,<-(au i av).2.len]; exact (avP.1 ah).1
       obtain⟨v,h1,ad⟩:=(jE i av).2 j ai;rw[h1,awF];exact ((au i av).2.ri j c v ah h1).1)
     rw[bn] at key;exact key
  ·rename_i fs aN;simp only[avU,decide_eq_true_eq,awG] at ay;obtain⟨bn,xs,af⟩:=an1 aN h;have Df:∀ (fs:List Field) (o:Nat) (xs:List (DataW H × List MemPlace)),wA P fs o=some vs.length->o<=vs.length->(∀ f∈fs,vB P D f.type=true)->
     (fs.mapM fun f=>DataW.trod enc P w base spare held fuel f.type ((vs.drop f.offset).take (P.cellsOf f.type)))=some xs->∃ cs,qe P w A (fs.map (·.type)) (vs.drop o) cs:=by
    intro fs
    induction fs with
    | nil=>intro o xs ah ap _ _; simp only[wA,Option.some.injEq] at ah; rw[ah,List.drop_length]; exact⟨[],.nil⟩
    | cons f fs aiD=>
     intro o xs ah ap gq hm;simp only[wA] at ah;split at ah
     ·rename_i qD;rw[axx] at hm;simp only[Option.bind_eq_bind,bind_some,axH,Option.some.injEq] at hm;obtain⟨x,h1,aph,ad,_⟩:=hm;have ahm:∀ (fs:List Field) (o n:Nat),wA P fs o=some n->o<=n:=by
       intro fs
       induction fs with
       | nil=>intro o n h; simp only[wA,Option.some.injEq] at h; omega
       | cons g gs aiE=>
        intro o n h;simp only[wA] at h;split at h
        ·have:=aiE _ _ h; omega
        ·cases h
      have dw:=ahm _ _ _ ah;obtain⟨cZ,b2⟩:=aJ f.type _ x.1 x.2 (gq f (by simp)) h1;obtain⟨dJ,w2⟩:=aiD _ aph ah dw (fun g aq=>gq g (by simp[aq])) ad;refine⟨cZ++dJ,?_⟩;have:=b2.app w2;rw[qD,show List.drop (o+P.cellsOf f.type) vs=List.drop (P.cellsOf f.type) (List.drop o vs) by rw[ayA],awy] at this;exact this
     ·cases ah
   obtain⟨cs,hw⟩:=Df fs.toList 0 xs (by rw[bn]; exact ay.1) (aw4 _) ay.2 af;rw[aw2] at hw;exact⟨cs,⟨hw.len,fun re cs' h=>.struct aN (hw.ty _ _ h),hw.ri⟩⟩
  ·rename_i n e aN;simp only[avU,decide_eq_true_eq] at ay;obtain⟨bn,xs,af⟩:=trod_array aN h;have ahL:∀ i,i<n->∃ c,qe P w A [e] ((vs.drop (i*P.cellsOf e)).take (P.cellsOf e)) c:=fun i av=>by
    obtain⟨x,_,h1⟩:=Ii af i i (by rw[awr av]);exact aJ e _ x.1 x.2 ay.2 h1
   have Df:∀ m,m<=n->∃ cs,qe P w A (List.replicate m e) (vs.drop ((n - m)*P.cellsOf e)) cs:=by
    intro m
    induction m with
    | zero=>intro _; rw[ayt,awB (by omega)]; exact⟨[],.nil⟩
    | succ m M1=>
     intro hm;obtain⟨cZ,b2⟩:=ahL (n - (m+1)) (by omega);obtain⟨dJ,w2⟩:=M1 (by omega);refine⟨cZ++dJ,?_⟩;have:=b2.app w2;have wW:(n - m)*P.cellsOf e=(n - (m+1))*P.cellsOf e+P.cellsOf e:=by rw[<-awD]; congr 1; omega
     rw[wW,<-ayA,awy] at this;exact this
   obtain⟨cs,hw⟩:=Df n (avR _);rw[axX,ayb,aw2] at hw;exact⟨cs,⟨hw.len,fun re cs' h=>.array aN (hw.ty _ _ h),hw.ri⟩⟩
  ·cases ay
def uu (P:Program) (t:TypeId) (c:U) :Prop:=match eB P t with
 | some true=>∃ cs,c=.aH cs/\eo P [t] cs
 | _=>eo P [t] [c]
inductive lR (P:Program) :List TypeId->List U->Prop
 | nil:lR P [] []
 | cons {t:TypeId} {c:U} {ts:List TypeId} {cs:List U}:uu P t c->lR P ts cs->lR P (t::ts) (c::cs)
theorem Qm {H:Type} {enc:TypeId × Value->H} {w:World} {A:Nat->Prop} (cN:∀ k,A k) {base hr:Nat} {spare:Nat->Bool} {held:Bool} {D:Nat}:∀ {ts:List TypeId} {vs:List Value} {io:List (DataW H)} {cU:List MemPlace},
  (∀ t∈ts,vB P D t=true)->(∀ (j:Nat) t v,ts[j]? = some t->vs[j]? = some v->Value.okWide P w .any hr t v)->DataW.TrodAll enc P w base spare held ts vs io cU->
  ∃ cs,lR P ts cs/\cs.length=vs.length/\∀ (j:Nat) (c:U) (v:Value),cs[j]? = some c->vs[j]? = some v->fP w A c v
 | [],[],_,_,_,_,_=>⟨[],.nil,rfl,fun j c v h=>by simp at h⟩
 | [],_::_,io,_,_,_,h=>by cases io<;>cases h
 | _::_,[],io,_,_,_,h=>by cases io<;>cases h
 | _::_,_::_,[],_,_,_,h=>by cases h
 | t::ts,v::vs,d::io,cU,ay,c1,h=>by
  obtain⟨p,q,⟨fuel,aI⟩,az,_⟩:=h;obtain⟨cs,h1,ad,aj⟩:=Qm cN (fun t aI=>ay t (by simp[aI])) (fun j t v aI au=>c1 (j+1) t v (by simpa using aI) (by simpa using au)) az;obtain⟨cZ,b2⟩:=aae cN fuel D t v.cells.toList d p (ay t (by simp)) aI;have Bh:eo P [t] cZ:=by simpa using b2.ty [] [] .nil
  have au:=c1 0 t v rfl rfl;have fin:∀ c,uu P t c->fP w A c v->∃ cs,lR P (t::ts) cs/\cs.length=(v::vs).length/\∀ (j:Nat) (c:U) (aZ:Value),cs[j]? = some c->(v::vs)[j]? = some aZ->fP w A c aZ:=fun c ah jc=>
   ⟨c::cs,.cons ah h1,by simp[ad],fun j c' aZ ai fK=>by
    cases j with
    | zero=>simp only[awk,Option.some.injEq] at ai fK; subst ai fK; exact jc
    | succ j=>exact aj j c' aZ (by simpa using ai) (by simpa using fK)⟩
  unfold Value.okWide at au;have agg:eB P t=(P.underlying t).map fun d=>match d with | .struct _ | .array _ _=>true | _=>false:=rfl
  cases aN:P.underlying t with
  | none=>
   exfalso;have:=ay t (by simp);cases D with
   | zero=>cases this
   | succ D=>unfold vB at this; rw[aN] at this; cases this
  | some Tj=>
   rw[aN] at au agg;have ai7:(∃ cs,v=.agg cs)->eB P t=some true->∃ cs,lR P (t::ts) cs/\cs.length=(v::vs).length/\∀ (j:Nat) (c:U) (aZ:Value),cs[j]? = some c->(v::vs)[j]? = some aZ->fP w A c aZ:=by
    rintro⟨xs,rfl⟩ pv;refine fin (.aH cZ) (by unfold uu; rw[pv]; exact⟨cZ,rfl,Bh⟩) (.aH cZ xs (by have:=b2.len; simp only[Value.cells,axO] at this; exact this.symm) (fun j x af=>?_) (fun j c x ah af=>?_))
    ·have aM:j<cZ.length:=by rw[b2.len]; simp only[Value.cells,axO]; exact (awq.1 af).1
     exact (b2.ri j cZ[j] x (avS aM) (by simpa [Value.cells] using af)).2
    ·exact (b2.ri j c x ah (by simpa [Value.cells] using af)).1
   have ai9:(∀ xs,v≠.agg xs)->eB P t=some false->∃ cs,lR P (t::ts) cs/\cs.length=(v::vs).length/\∀ (j:Nat) (c:U) (aZ:Value),cs[j]? = some c->(v::vs)[j]? = some aZ->fP w A c aZ:=by
    intro bI pv;have jE:v.cells.toList=[v] :=by cases v<;>first | rfl | exact absurd rfl (bI _)
    have al:=b2.len;rw[jE] at al;obtain⟨c,rfl⟩:∃ c,cZ=[c] :=List.length_eq_one_iff.1 al;refine fin c (by unfold uu; rw[pv]; exact Bh) (b2.ri 0 c v rfl (by rw[jE]; rfl)).1
   have ako:Cell.okWide P w .any hr t v->∀ xs,v≠.agg xs:=by
    rintro ah xs rfl;unfold Cell.okWide at ah;rw[aN] at ah;cases Tj<;>simp[Cell.ok,aN] at ah
   cases Tj<;>simp only[avZ] at agg<;>first
    | exact ai7 (by obtain⟨cs,h,_⟩:=au; exact⟨cs,h⟩) agg
    | exact ai9 (ako au) agg
end
abbrev cQ (α:Type) :=Option (List α)
def cQ.l {α:Type} (s:cQ α) :List α:=s.getD []
@[simp] theorem cQ.atP {α:Type}:cQ.l (none:cQ α)=[] :=rfl
@[simp] theorem cQ.zi {α:Type} (l:List α) :cQ.l (some l)=l:=rfl
def cB {α:Type} (z:Nat) (enc:α->List U) :cQ α->U
 | none=>.aT
 | some l=>.bQ z (l.map enc)
section
variable {α:Type} {z:Nat} {enc:α->List U}
@[simp] theorem q0 (s:cQ α) :cK (.ar z) (cB z enc s)=some (.int .i64 s.l.length) :=by cases s<;>simp[cB,cQ.l]
@[simp] theorem r1 (s:cQ α) (k:IntKind) (i:Int) :ck (.ar z) (cB z enc s) (.int k i)=if 0<=i then (s.l[i.toNat]?).map fun x=>.b3 (enc x) 0 else none:=by
 cases s with
 | none=>by_cases h:0<=i<;>simp[cB,cQ.l,ck,h]
 | some l=>by_cases h:0<=i<;>simp[cB,cQ.l,h,Function.comp_def]
@[simp] theorem aqy (s:cQ α) :(cB z enc s).cells=some [cB z enc s] :=by cases s<;>rfl
theorem ws (h:∀ x,bd (enc x)=true) (s:cQ α) :(cB z enc s).closed=true:=by
 cases s with
 | none=>rfl
 | some l=>
  simp only[cB,U.closed]
  induction l with
  | nil=>rfl
  | cons x l aJ=>simp only[awn,CL,h,aJ,axP]
end
theorem wrap_i64 {n:Int} (h1:-9223372036854775808<=n) (ad:n<9223372036854775808) :IntKind.i64.wrap n=n:=by
 have aR:(2 ^ IntKind.i64.bits:Int)=18446744073709551616:=by decide
 have bJ:(2 ^ (IntKind.i64.bits - 1) :Int)=9223372036854775808:=by decide
 have dF:IntKind.i64.signed=true:=rfl;simp only[IntKind.wrap,aR,bJ,dF,awL,decide_eq_true_eq];split<;>omega
theorem bx {α:Type} {l:List α} {k:Nat} (h:k<l.length) :∃ x,l[k]? = some x/\x∈l:=⟨l[k],avS h,aym h⟩
section
variable {P:Program} {G:Nat->U}
theorem FS {t e:TypeId} (aN:P.underlying t=some (.slice e)) {α:Type} (z:Nat) (enc:α->List U) (s:cQ α) :gH P .eql t (cB z enc s) .aT=some (.bool s.isNone) :=by
 cases s<;>simp[cB,gH,yl,eZ,aN]
theorem adG {e:TypeId} {k:IntKind} (aN:P.underlying e=some (.int k)) (aA:eB P e=some false) {D:Nat} (x y:List Int) :∀ (n i:Nat),i+n=x.length->i+n=y.length->
  eZ.s1 P (eZ P (D+1)) e 1 (x.map (.int k)) (y.map (.int k)) n i=some (decide (x.drop i=y.drop i)) :=by
 intro n
 induction n with
 | zero=>intro i af ax; rw[awB (by omega),awB (by omega)]; simp[eZ.s1]
 | succ n aJ=>
  intro i af ax;have nq:x[i]? = some x[i] :=avS (by omega);have aix:y[i]? = some y[i] :=avS (by omega);unfold eZ.s1;simp only[NZ aA,axn,avV,nq,aix,avZ];have ao:eZ P (D+1) e (.int k x[i]) (.int k y[i])=some (decide (x[i]=y[i])) :=by
   unfold eZ;rw[aN];simp only[if_true];by_cases h:x[i]=y[i]<;>simp[h]
  rw[ao];have Vb:x.drop i=x[i] ::x.drop (i+1) :=awS (by omega);have Vc:y.drop i=y[i] ::y.drop (i+1) :=awS (by omega);by_cases h:x[i]=y[i]
  ·simp only[h,decide_true];rw[aJ (i+1) (by omega) (by omega)];refine congrArg some (decide_eq_decide.2 ?_);rw[Vb,Vc,h];simp only[List.cons.injEq,true_and]
  ·simp only[h,decide_false];refine congrArg some (decide_eq_false ?_).symm;rw[Vb,Vc];simp only[List.cons.injEq,h,false_and,not_false_eq_true]
theorem adO {t e:TypeId} {k:IntKind} {n:Nat} (aI:P.underlying t=some (.array n e)) (aN:P.underlying e=some (.int k)) (aA:eB P e=some false) (ak:cM P e=some 1) {x y:List Int} (af:x.length=n) (ax:y.length=n) {D:Nat} :
  eZ P (D+2) t (.aH (x.map (.int k))) (.aH (y.map (.int k)))=some (decide (x=y)) :=by
 unfold eZ;rw[aI];simp only[ak];rw[adG aN aA x y n 0 (by omega) (by omega)];simp
theorem C7 {z:Nat} {es:List (List U)} (aw:∀ e∈es,e.length=z) :es.flatten.length=es.length*z:=by
 induction es with
 | nil=>simp
 | cons e es aJ=>rw[awT,avW,aw e (by simp),aJ fun e ao=>aw e (by simp[ao]),awa,awD,Nat.add_comm]
theorem Gr {z:Nat} {es:List (List U)} (aw:∀ e∈es,e.length=z) {i j:Nat} {e:List U} (ao:es[i]? = some e) (ai:j<z) :es.flatten[i*z+j]? = e[j]?:=by
 induction es generalizing i with
 | nil=>simp at ao
 | cons x es aJ=>
  have af:x.length=z:=aw x (by simp);cases i with
  | zero=>
   simp only[awk,Option.some.injEq] at ao;subst ao;rw[awT,ayb,axa,avQ (by omega)]
  | succ i=>
   simp only[awx] at ao;rw[awT,av2 (by rw[af,awD]; omega),af,show (i+1)*z+j - z=i*z+j by rw[awD]; omega];exact aJ (fun e ao=>aw e (by simp[ao])) ao
theorem dD {ae:bg} {i:Nat} {v:U} (h:ae i=v) :bS ae i v=ae:=by
 funext t; simp only[bS]; split<;>simp_all
theorem p2 {ae:bg} {ev:Nat} {fk:U} {e9:Nat} {dS:U} (h1:ae ev=fk) (ad:ae e9=dS) :∃ s:bg,ae=bS (bS (s) ev fk) e9 dS:=⟨ae,by rw[dD h1,dD ad]⟩
theorem kj {ae:bg} {ev:Nat} {fk:U} {e9:Nat} {dS:U} {h7:Nat} {v3:U} (h1:ae ev=fk) (ad:ae e9=dS) (aj:ae h7=v3) :∃ s:bg,ae=bS (bS (bS (s) ev fk) e9 dS) h7 v3:=⟨ae,by rw[dD h1,dD ad,dD aj]⟩
theorem i0 {ae:bg} {ev:Nat} {fk:U} {e9:Nat} {dS:U} {h7:Nat} {v3:U} {jN:Nat} {v4:U} (h1:ae ev=fk) (ad:ae e9=dS) (aj:ae h7=v3) (aE:ae jN=v4) :∃ s:bg,ae=bS (bS (bS (bS (s) ev fk) e9 dS) h7 v3) jN v4:=⟨ae,by rw[dD h1,dD ad,dD aj,dD aE]⟩
theorem lj {ae:bg} {ev:Nat} {fk:U} {e9:Nat} {dS:U} {h7:Nat} {v3:U} {jN:Nat} {v4:U} {k5:Nat} {v5:U} (h1:ae ev=fk) (ad:ae e9=dS) (aj:ae h7=v3) (aE:ae jN=v4) (aX:ae k5=v5) :∃ s:bg,ae=bS (bS (bS (bS (bS (s) ev fk) e9 dS) h7 v3) jN v4) k5 v5:=⟨ae,by rw[dD h1,dD ad,dD aj,dD aE,dD aX]⟩
theorem vP {ae:bg} {ev:Nat} {fk:U} {e9:Nat} {dS:U} {h7:Nat} {v3:U} {jN:Nat} {v4:U} {k5:Nat} {v5:U} {mX:Nat} {dX:U} (h1:ae ev=fk) (ad:ae e9=dS) (aj:ae h7=v3) (aE:ae jN=v4) (aX:ae k5=v5) (bw:ae mX=dX) :∃ s:bg,ae=bS (bS (bS (bS (bS (bS (s) ev fk) e9 dS) h7 v3) jN v4) k5 v5) mX dX:=⟨ae,by rw[dD h1,dD ad,dD aj,dD aE,dD aX,dD bw]⟩
theorem Ji {ae:bg} {ev:Nat} {fk:U} {e9:Nat} {dS:U} {h7:Nat} {v3:U} {jN:Nat} {v4:U} {k5:Nat} {v5:U} {mX:Nat} {dX:U} {jO:Nat} {pb:U} (h1:ae ev=fk) (ad:ae e9=dS) (aj:ae h7=v3) (aE:ae jN=v4) (aX:ae k5=v5) (bw:ae mX=dX) (c5:ae jO=pb) :∃ s:bg,ae=bS (bS (bS (bS (bS (bS (bS (s) ev fk) e9 dS) h7 v3) jN v4) k5 v5) mX dX) jO pb:=⟨ae,by rw[dD h1,dD ad,dD aj,dD aE,dD aX,dD bw,dD c5]⟩
theorem aan {ae:bg} {ev:Nat} {fk:U} {e9:Nat} {dS:U} {h7:Nat} {v3:U} {jN:Nat} {v4:U} {k5:Nat} {v5:U} {mX:Nat} {dX:U} {jO:Nat} {pb:U} {r0:Nat} {lk:U} (h1:ae ev=fk) (ad:ae e9=dS) (aj:ae h7=v3) (aE:ae jN=v4) (aX:ae k5=v5) (bw:ae mX=dX) (c5:ae jO=pb) (dZ:ae r0=lk) :∃ s:bg,ae=bS (bS (bS (bS (bS (bS (bS (bS (s) ev fk) e9 dS) h7 v3) jN v4) k5 v5) mX dX) jO pb) r0 lk:=⟨ae,by rw[dD h1,dD ad,dD aj,dD aE,dD aX,dD bw,dD c5,dD dZ]⟩
theorem aon {ae:bg} {ev:Nat} {fk:U} {e9:Nat} {dS:U} {h7:Nat} {v3:U} {jN:Nat} {v4:U} {k5:Nat} {v5:U} {mX:Nat} {dX:U} {jO:Nat} {pb:U} {r0:Nat} {lk:U} {xd:Nat} {v9:U} (h1:ae ev=fk) (ad:ae e9=dS) (aj:ae h7=v3) (aE:ae jN=v4) (aX:ae k5=v5) (bw:ae mX=dX) (c5:ae jO=pb) (dZ:ae r0=lk) (eP:ae xd=v9) :∃ s:bg,ae=bS (bS (bS (bS (bS (bS (bS (bS (bS (s) ev fk) e9 dS) h7 v3) jN v4) k5 v5) mX dX) jO pb) r0 lk) xd v9:=⟨ae,by rw[dD h1,dD ad,dD aj,dD aE,dD aX,dD bw,dD c5,dD dZ,dD eP]⟩
theorem aam {ae:bg} {ev:Nat} {fk:U} {e9:Nat} {dS:U} {h7:Nat} {v3:U} {jN:Nat} {v4:U} {k5:Nat} {v5:U} {mX:Nat} {dX:U} {jO:Nat} {pb:U} {r0:Nat} {lk:U} {xd:Nat} {v9:U} {Ec:Nat} {Fq:U} {Ed:Nat} {Fr:U} (h1:ae ev=fk) (ad:ae e9=dS) (aj:ae h7=v3) (aE:ae jN=v4) (aX:ae k5=v5) (bw:ae mX=dX) (c5:ae jO=pb) (dZ:ae r0=lk) (eP:ae xd=v9) (mH:ae Ec=Fq) (uR:ae Ed=Fr) :∃ s:bg,ae=bS (bS (bS (bS (bS (bS (bS (bS (bS (bS (bS (s) ev fk) e9 dS) h7 v3) jN v4) k5 v5) mX dX) jO pb) r0 lk) xd v9) Ec Fq) Ed Fr:=⟨ae,by rw[dD h1,dD ad,dD aj,dD aE,dD aX,dD bw,dD c5,dD dZ,dD eP,dD mH,dD uR]⟩
theorem aom {ae:bg} {ev:Nat} {fk:U} {e9:Nat} {dS:U} {h7:Nat} {v3:U} {jN:Nat} {v4:U} {k5:Nat} {v5:U} {mX:Nat} {dX:U} {jO:Nat} {pb:U} {r0:Nat} {lk:U} {xd:Nat} {v9:U} {Ec:Nat} {Fq:U} {Ed:Nat} {Fr:U} {WF:Nat} {aao:U} (h1:ae ev=fk) (ad:ae e9=dS) (aj:ae h7=v3) (aE:ae jN=v4) (aX:ae k5=v5) (bw:ae mX=dX) (c5:ae jO=pb) (dZ:ae r0=lk) (eP:ae xd=v9) (mH:ae Ec=Fq) (uR:ae Ed=Fr) (K5:ae WF=aao) :∃ s:bg,ae=bS (bS (bS (bS (bS (bS (bS (bS (bS (bS (bS (bS (s) ev fk) e9 dS) h7 v3) jN v4) k5 v5) mX dX) jO pb) r0 lk) xd v9) Ec Fq) Ed Fr) WF aao:=⟨ae,by rw[dD h1,dD ad,dD aj,dD aE,dD aX,dD bw,dD c5,dD dZ,dD eP,dD mH,dD uR,dD K5]⟩
section
variable {α:Type}
@[simp] theorem uG (l:am) (z:Nat) (enc:α->List U) (s:cQ α) :dE l z (cB z enc s)=some ((s.l.map enc).flatten,s.l.length) :=by
 cases s<;>simp[cB,dE]
end
theorem amN {l:am} {b:Nat} {c:a7} (h:l[b]? = some c) :l.set b c=l:=by
 apply awM;intro j;rw[axi];by_cases ai:b=j
 ·subst ai; rw[if_pos rfl,if_pos (eu h)]; exact h.symm
 ·rw[if_neg ai]
theorem abS {l:am} {z by_ b:Nat} {es xs:List (List U)} {x:U} (ag:l[b]? = some (.cells (es.length*z) es.flatten)) (af:dE l z x=some (xs.flatten,xs.length)) (aw:∀ e∈es,e.length=z) (aD:z≠0) (ea:by_≠0)
  (dA:(es.length+xs.length)*by_<=cy) :
  gx l z by_ (.ar z b 0 es.length es.length (es.length*z)) x=some (.ar z b 0 (es++xs).length (es++xs).length ((es++xs).length*z),l.set b (.cells ((es++xs).length*z) (es++xs).flatten)) :=by
 unfold gx;rw[af];show hJ l z by_ _ xs.flatten xs.length=_;unfold hJ;cases xs with
 | nil=>simp[amN ag]
 | cons y bh=>
  rw[if_neg (by simp),if_neg (by omega)];simp only[ag];rw[if_pos ⟨trivial,trivial,dA⟩,if_neg (by simp),if_neg (by omega),if_pos trivial,avO (by rw[C7 aw]; exact avR _)];simp only[avW,awC]
theorem Qh {l:am} {z by_ b n m sz:Nat} {es xs:List (List U)} {x:U} (ag:l[b]? = some (.cells sz es.flatten)) (af:dE l z x=some (xs.flatten,m)) (aC:es.length=n) (hm:xs.length=m) (ak:sz=n*z) (aw:∀ e∈es,e.length=z) (aD:z≠0) (ea:by_≠0)
  (dA:(n+m)*by_<=cy) :
  gx l z by_ (.ar z b 0 n n sz) x=some (.ar z b 0 (n+m) (n+m) ((n+m)*z),l.set b (.cells ((n+m)*z) (es++xs).flatten)) :=by
 subst aC hm ak;rw[abS ag af aw aD ea dA];simp only[avW]
theorem eM {cs vs:List U} (h:vs.length=cs.length) :bt cs 0 vs=vs:=by
 simp only[bt,aw9,awI,axa];rw[awB (by omega),awp]
theorem QC (len cap:Nat) (k:IntKind) (i:Int) :gW len cap (some (.int k i)) none none=if 0<=i/\i<=len then some (i.toNat,len,cap) else none:=by
 unfold gW j0;by_cases h:0<=i/\i<=len
 ·simp only[if_pos h]
 ·simp only[if_neg h]
theorem J6 (len cap:Nat) (k:IntKind) (i:Int) :gW len cap none (some (.int k i)) none=if 0<=i/\i<=cap then some (0,i.toNat,cap) else none:=by
 unfold gW j0;by_cases h:0<=i/\i<=cap
 ·simp only[if_pos h]
 ·simp only[if_neg h]
theorem aci (len cap:Nat) (k k' : IntKind) (i j:Int) :gW len cap (some (.int k i)) (some (.int k' j)) none=if 0<=i/\i<=j/\j<=cap then some (i.toNat,j.toNat,cap) else none:=by
 unfold gW j0;by_cases h:0<=j/\j<=cap
 ·simp only[if_pos h];by_cases ad:0<=i/\i<=((j.toNat:Nat) :Int)
  ·simp only[if_pos ad]; rw[if_pos (by omega)]
  ·simp only[if_neg ad]; rw[if_neg (by omega)]
 ·simp only[if_neg h]; rw[if_neg (by omega)]
theorem Zx {α:Type} {z:Nat} {enc:α->List U} {l:List α} {k:IntKind} {i:Int} (h1:0<=i) (ad:i<=l.length) :fG (.ar z) (cB z enc (some l)) (some (.int k i)) none none=some (cB z enc (some (l.drop i.toNat))) :=by
 have aj:i.toNat<=l.length:=by omega
 simp only[fG,cB,if_true,QC,av8];rw[if_pos ⟨h1,ad⟩];simp only[avZ,Option.some.injEq,U.bQ.injEq,true_and];rw[avO (by simp),List.map_drop]
theorem OX {α:Type} {z:Nat} {enc:α->List U} {l:List α} {k:IntKind} {i:Int} (h1:0<=i) (ad:i<=l.length) :fG (.ar z) (cB z enc (some l)) none (some (.int k i)) none=some (cB z enc (some (l.take i.toNat))) :=by
 simp only[fG,cB,if_true,J6,av8];rw[if_pos ⟨h1,ad⟩];simp only[avZ,Option.some.injEq,U.bQ.injEq,true_and,aw2,ayt];rw[ax6]
theorem amU {α:Type} {z:Nat} {enc:α->List U} {l:List α} {k k' : IntKind} {i j:Int} (aD:0<=i) (h1:i<=j) (ad:j<=l.length) :fG (.ar z) (cB z enc (some l)) (some (.int k i)) (some (.int k' j)) none=some (cB z enc (some ((l.drop i.toNat).take (j.toNat - i.toNat)))) :=by
 simp only[fG,cB,if_true,aci,av8];rw[if_pos ⟨aD,h1,ad⟩];simp only[avZ,Option.some.injEq,U.bQ.injEq,true_and];rw[ax6,List.map_drop]
theorem map_set {α:Type} (l:List α) (k:Nat) (x:α) (enc:α->List U) :(l.map enc).set k (enc x)=(l.set k x).map enc:=by rw[List.map_set]
end

section
variable {P:Program}
def ZP (P:Program) (t:TypeId) :Option (List TypeId) :=match P.underlying t with
 | some (.struct fs)=>some (fs.toList.map (·.type))
 | _=>none
theorem Jg {cs:List U} (h:eo P [] cs) :cs=[] :=by cases h; rfl
theorem zP {t:TypeId} {k:IntKind} {ts:List TypeId} {cs:List U} (aN:P.underlying t=some (.int k)) (h:eo P (t::ts) cs) :∃ n cs',cs=.int k n::cs'/\k.min<=n/\n<=k.max/\eo P ts cs':=by
 cases h
 case int k' n cs' h1 ad qT h=>
  rw[aN] at qT; cases qT; exact⟨_,_,rfl,h1,ad,h⟩
 all_goals (exfalso; simp_all; done)
theorem Fo {t:TypeId} {fs ts:List TypeId} {cs:List U} (aN:ZP P t=some fs) (h:eo P (t::ts) cs) :eo P (fs++ts) cs:=by
 unfold ZP at aN;cases h
 case struct arn qT h=>rw[qT] at aN; cases aN; exact h
 all_goals (exfalso; simp_all; done)
theorem aod {t e:TypeId} {n:Nat} {ts:List TypeId} {cs:List U} (aN:P.underlying t=some (.array n e)) (h:eo P (t::ts) cs) :eo P (List.replicate n e++ts) cs:=by
 cases h
 case array fH hi qT h=>rw[aN] at qT; cases qT; exact h
 all_goals (exfalso; simp_all; done)
theorem aog {t e:TypeId} {ts:List TypeId} {cs:List U} (aN:P.underlying t=some (.slice e)) (h:eo P (t::ts) cs) :
  ∃ cs',eo P ts cs'/\(cs=.aT::cs'\/∃ es,cs=.bQ (P.cellsOf e) es::cs'/\es.length<=maxLen/\∀ r∈es,eo P [e] r) :=by
 cases h
 case aT fH cs' qT h=>exact⟨_,h,.inl rfl⟩
 case ar fH es cs' al aw ao qT h=>rw[aN] at qT; cases qT; exact⟨_,h,.inr ⟨es,rfl,al,ao⟩⟩
 all_goals (exfalso; simp_all; done)
theorem Zf {α:Type} {enc:α->List U} {Q:α->Prop}:∀ (es:List (List U)),(∀ r∈es,∃ x,r=enc x/\Q x)->∃ xs:List α,es=xs.map enc/\∀ x∈xs,Q x
 | [],_=>⟨[],rfl,fun x af=>by cases af⟩
 | r::es,h=>by
  obtain⟨x,rfl,af⟩:=h r (by simp);obtain⟨xs,rfl,Bq⟩:=Zf es (fun r az=>h r (by simp[az]));exact⟨x::xs,rfl,fun y ax=>by
   rcases awA.1 ax with rfl | ax
   ·exact af
   ·exact Bq y ax⟩
theorem Ps {α:Type} {t e:TypeId} {z:Nat} {enc:α->List U} {Q:α->Prop} {ts:List TypeId} {cs:List U} (aN:P.underlying t=some (.slice e)) (aw:P.cellsOf e=z) (ao:∀ r,eo P [e] r->∃ x,r=enc x/\Q x) (h:eo P (t::ts) cs) :
  ∃ (s:cQ α) (cs' : List U),cs=cB z enc s::cs'/\s.l.length<=maxLen/\(∀ x∈s.l,Q x)/\eo P ts cs':=by
 obtain⟨cs',h1,rfl | ⟨es,rfl,al,az⟩⟩:=aog aN h
 ·exact⟨none,cs',rfl,aw4 _,fun x af=>(by cases af),h1⟩
 ·obtain⟨xs,rfl,Bq⟩:=Zf (enc:=enc) (Q:=Q) es (fun r kZ=>ao r (az r kZ));refine⟨some xs,cs',?_,by simpa using al,Bq,h1⟩;rw[aw]; rfl
theorem aob {t:TypeId} {c:U} (aA:eB P t=some true) (h:uu P t c) :∃ cs,c=.aH cs/\eo P [t] cs:=by
 unfold uu at h; rw[aA] at h; exact h
theorem aag {t:TypeId} {c:U} (aA:eB P t=some false) (h:uu P t c) :eo P [t] [c] :=by
 unfold uu at h; rw[aA] at h; exact h
theorem Pr {t:TypeId} {ts:List TypeId} {cs:List U} (h:lR P (t::ts) cs) :∃ c cs',cs=c::cs'/\uu P t c/\lR P ts cs':=by
 cases h with
 | cons h1 ad=>exact⟨_,_,rfl,h1,ad⟩
theorem aoa {cs:List U} (h:lR P [] cs) :cs=[] :=by cases h; rfl
end

end Go.cb

namespace Go.cb
open Go Go.ChangeShapes Go.RowKit
theorem aac {H:Type} {enc:TypeId × Value->H} {P:Program} (al:laidOutB P=true) {W uv:World} (ag:Below W.heap.size W uv) :∀ {ts:List TypeId} {vs:List Value} {io:List (DataW H)} {cU:List MemPlace},
  (∀ t∈ts,P.readableRec t=true/\t<P.types.size)->DataW.TrodAll enc P W 0 (fun _=>true) true ts vs io cU->DataW.TrodAll enc P uv 0 (fun b=>decide (b<W.heap.size)) true ts vs io cU
 | [],vs,io,cU,_,h=>by
  obtain⟨rfl,rfl,rfl⟩:=trodAll_nil h;exact trodAll_mk0
 | t::ts,vs,io,cU,az,h=>by
  have aM:=h.lt;obtain⟨v,aoy,d,adu,a,b,rfl,rfl,rfl,h1,ad⟩:=trodAll_cons h;exact⟨a,b,Below.trod al (az t (by simp)).1 (az t (by simp)).2 h1 ag (fun x af=>aM x (by simp[af])),aac al ag (fun t aI=>az t (by simp[aI])) ad,rfl⟩
theorem ajK {P:Program} {G:Nat->U} (mQ:P.follows .mixedOrders=true) (kT:∀ g,(G g).closed=true) {f:FuncId} {ts:List TypeId} (D:Nat) (ay:∀ t∈ts,vB P D t=true) (ag6:laidOutB P=true)
  (cJ:∀ t∈ts,P.readableRec t=true/\t<P.types.size) (ajI:∀ cs,lR P ts cs->c7 P G f cs [] (c:=⟨fun r _=>r=.bool true⟩))
  {H:Type} {enc:TypeId × Value->H} {W:World} {hr:Nat} {args:Array Value} {io:List (DataW H)} {cU:List MemPlace} (aq:∀ g,fP W (fun _=>True) (G g) (.pointer (some ⟨g,0,none⟩)))
  (c1:∀ (j:Nat) t v,ts[j]? = some t->args[j]? = some v->Value.okWide P W .any hr t v) (h:DataW.TrodAll enc P W 0 (fun _=>true) true ts args.toList io cU) :
  Calls P f args W fun e w'=>e=.returned (.bool true)/\Below W.heap.size W w'/\DataW.TrodAll enc P w' 0 (fun b=>decide (b<W.heap.size)) true ts args.toList io cU:=by
 obtain⟨cs,Bh,bn,vg⟩:=Qm (A:=fun _=>True) (fun _=>trivial) ay (fun j t v aI au=>c1 j t v aI (by simpa using au)) h;exact (ajJ mQ kT (ajI cs Bh) aq (by rw[bn]; simp) (fun j c v ah au=>vg j c v ah (by simpa using au))).mono fun e w' ⟨ao,ag⟩=>⟨ao,ag,aac ag6 ag cJ h⟩
end Go.cb

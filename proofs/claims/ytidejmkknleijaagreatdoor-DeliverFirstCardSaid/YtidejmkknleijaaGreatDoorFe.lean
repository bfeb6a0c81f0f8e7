/-
  The canonical machine, part X: what must hold behind code without types holds behind the code.
-/
import Derived.Test.YtidejmkknleijaaGreatDoorFd
import GoSem.ClaimChange
import GoSem.ClaimWide
import Derived.ProofKit
set_option linter.unusedVariables false
set_option linter.unusedSimpArgs false
set_option linter.unnecessarySimpa false
namespace Go.bY
open Go
section
variable {P:Program} {G:Nat->U}
theorem Rh {op:Op} {m:c2} (hm:m8 P op=some m) (am:kJ op=false) :m.looks=true\/m.je=true:=by
 cases op<;>simp only[kJ,avI,reduceCtorEq] at am<;>simp only[m8] at hm<;>try (cases hm; done)
 case move=>cases hm; exact .inl rfl
 case assign=>cases hm; exact .inl rfl
 case pick=>cases hm; exact .inl rfl
 case alloc=>rw[map_some] at hm; obtain⟨_,_,rfl⟩:=hm; exact .inr rfl
 case box=>cases hm; exact .inr rfl
 case build=>simp only[bind_some,map_some] at hm; obtain⟨_,_,_,_,rfl⟩:=hm; exact .inl rfl
 case buildSlice=>simp only[bind_some,iG] at hm; obtain⟨_,_,_,_,_,_,_,rfl⟩:=hm; exact .inr rfl
 case load=>split at hm<;>cases hm<;>exact .inl rfl
 case nilCheck=>cases hm; exact .inl rfl
 case binOp=>cases hm; exact .inl rfl
 case unOp=>cases hm; exact .inl rfl
 case convert=>
  repeat' split at hm
  all_goals first | (cases hm; done) | (cases hm; exact .inl rfl)
 case makeInterface=>split at hm<;>cases hm; exact .inl rfl
 case makeFunc f a b=>cases f<;>simp only at hm<;>cases hm; exact .inl rfl
 case makeSlice=>simp only[bind_some,iG] at hm; obtain⟨_,_,_,_,_,_,_,_,_,rfl⟩:=hm; exact .inr rfl
 case slice=>rw[map_some] at hm; obtain⟨_,_,rfl⟩:=hm; exact .inl rfl
 case fieldAddr=>rw[bind_some] at hm; obtain⟨_,_,hm⟩:=hm; split at hm<;>cases hm; exact .inl rfl
 case field=>rw[bind_some] at hm; obtain⟨_,_,hm⟩:=hm; split at hm<;>cases hm<;>exact .inl rfl
 case indexAddr=>split at hm<;>cases hm<;>exact .inl rfl
 case index=>
  repeat' split at hm
  all_goals first | (cases hm; done) | (cases hm; exact .inl rfl)
 case extract=>cases hm; exact .inl rfl
 case call c=>
  split at hm
  ·rename_i b af;rw[af] at am;cases b<;>simp only[avI,reduceCtorEq] at am<;>unfold vd at hm<;>(repeat' split at hm)<;>first
    | (cases hm; done)
    | (cases hm; exact .inl rfl)
    | (rw[map_some] at hm; obtain⟨_,_,rfl⟩:=hm; exact .inl rfl)
    | (exfalso; simp only[reduceCtorEq] at *; done)
  ·rename_i f aE;rw[aE] at am; cases am
  ·cases hm
theorem Ri {op:Op} {m:c2} (hm:m8 P op=some m) (aV:sR P op=false) :m.reads=false/\m.je=false:=by
 cases op<;>simp only[sR,avI,reduceCtorEq] at aV<;>simp only[m8] at hm<;>try (cases hm; done)
 case move=>cases hm; exact⟨rfl,rfl⟩
 case assign=>cases hm; exact⟨rfl,rfl⟩
 case pick=>cases hm; exact⟨rfl,rfl⟩
 case build=>simp only[bind_some,map_some] at hm; obtain⟨_,_,_,_,rfl⟩:=hm; exact⟨rfl,rfl⟩
 case store=>rw[map_some] at hm; obtain⟨_,_,rfl⟩:=hm; exact⟨rfl,rfl⟩
 case nilCheck=>cases hm; exact⟨rfl,rfl⟩
 case binOp=>cases hm; exact⟨rfl,rfl⟩
 case unOp=>cases hm; exact⟨rfl,rfl⟩
 case makeInterface=>split at hm<;>cases hm; exact⟨rfl,rfl⟩
 case makeFunc f a b=>cases f<;>simp only at hm<;>cases hm; exact⟨rfl,rfl⟩
 case typeAssert=>rw[map_some] at hm; obtain⟨_,_,rfl⟩:=hm; exact⟨rfl,rfl⟩
 case slice=>rw[map_some] at hm; obtain⟨_,_,rfl⟩:=hm; exact⟨rfl,rfl⟩
 case fieldAddr=>rw[bind_some] at hm; obtain⟨_,_,hm⟩:=hm; split at hm<;>cases hm; exact⟨rfl,rfl⟩
 case field=>rw[bind_some] at hm; obtain⟨_,_,hm⟩:=hm; split at hm<;>cases hm<;>exact⟨rfl,rfl⟩
 case indexAddr=>split at hm<;>cases hm<;>exact⟨rfl,rfl⟩
 case index=>
  repeat' split at hm
  all_goals first | (cases hm; done) | (cases hm; exact⟨rfl,rfl⟩)
 case extract=>cases hm; exact⟨rfl,rfl⟩
 case next it b=>cases b<;>simp only[reduceCtorEq] at hm<;>cases hm; exact⟨rfl,rfl⟩
 case panic=>cases hm; exact⟨rfl,rfl⟩
 case lookup=>split at hm<;>(try cases hm; done); rw[map_some] at hm; obtain⟨_,_,rfl⟩:=hm; exact⟨rfl,rfl⟩
 case mapUpdate=>split at hm<;>cases hm; exact⟨rfl,rfl⟩
 case insert=>split at hm<;>cases hm; exact⟨rfl,rfl⟩
 case makeMap=>split at hm<;>cases hm; exact⟨rfl,rfl⟩
 case range=>split at hm<;>cases hm; exact⟨rfl,rfl⟩
 case call c=>
  split at hm
  ·rename_i b af;rw[af] at aV;unfold vd at hm
   repeat' split at hm
   all_goals first
    | (cases hm; done)
    | (exfalso; simp_all; done)
    | (cases hm; exact⟨rfl,rfl⟩)
    | (simp only[bind_some,map_some] at hm; obtain⟨_,_,rfl⟩:=hm; exact⟨rfl,rfl⟩)
    | (simp only[bind_some,map_some] at hm; obtain⟨_,_,_,_,rfl⟩:=hm; exact⟨rfl,rfl⟩)
    | (simp only[bind_some,iG] at hm; obtain⟨_,_,_,_,_,_,_,rfl⟩:=hm; exact⟨rfl,rfl⟩)
    | (simp only[bind_some,iG] at hm; obtain⟨_,_,_,_,_,_,_,_,_,rfl⟩:=hm; exact⟨rfl,rfl⟩)
  ·split at hm
   ·rw[iG] at hm; obtain⟨_,rfl⟩:=hm; exact⟨rfl,rfl⟩
   ·cases hm
  ·cases hm
inductive mX (P:Program) (G:Nat->U) (s:dd) (o:Oper) (σ:a8) (l:ao) (v:U) (l1:ao) :bM->Prop
 | pure (m:c2) (af:s.b=.gu m) (hm:m.looks=true) (al:l1=l) (ak:bN P (cS G σ) l m=some (v,l)) :mX P G s o σ l v l1 (.pure s.i v)
 | new (m:c2) (cs:List U) (af:s.b=.gu m) (hm:m.je=true) (al:l1=l++[.cells cs.length cs]) :mX P G s o σ l v l1 (.new s.i v cs)
 | gL (am:kJ o.op=true) (bD:l.length<=l1.length) :mX P G s o σ l v l1 (.gL s.i v (a7 l1))
theorem mX.idx {s:dd} {o:Oper} {σ:a8} {l l1:ao} {v:U} {t:bM} (k:mX P G s o σ l v l1 t) :t.idx=s.i:=by cases k<;>rfl
theorem mX.val {s:dd} {o:Oper} {σ:a8} {l l1:ao} {v:U} {t:bM} (k:mX P G s o σ l v l1 t) :t.val=v:=by cases k<;>rfl
theorem mX.next {s:dd} {o:Oper} {σ:a8} {l l1:ao} {v:U} {t:bM} (k:mX P G s o σ l v l1 t) :p6 (a7 l) t=a7 l1:=by
 cases k with
 | pure m af hm al ak=>rw[al]; rfl
 | new m cs af hm al=>rw[al,<-nN]; rfl
 | gL am _=>rfl
theorem ak7 {ops:Array Oper} {s:dd} {o:Oper} (ok:po P ops s o) {σ:a8} (aW:kT ops σ o=some true) {l:ao} {K:U->ao->Prop} (h:ih P G s.b σ l K) :
  ∃ v l1 t,mX P G s o σ l v l1 t/\w9 P G ops ⟨σ,a7 l⟩ t/\K v l1:=by
 obtain⟨v,l1,ad,ae,aj,aF⟩:=XL ok h;have kX:kJ o.op=true->∃ v l1 t,mX P G s o σ l v l1 t/\w9 P G ops ⟨σ,a7 l⟩ t/\K v l1:=fun am=>⟨v,l1,_,.gL am ae,⟨o,ok.here,aW,ad,by simpa using ae⟩,aj⟩
 cases af:s.b with
 | gu m=>
  have hm:=ok.gu m af;cases am:kJ o.op with
  | true=>exact kX am
  | false=>
   have ak:=aF m af (Rh hm am);rcases Rh hm am with al | aC
   ·have:=Vq al ak;subst this;exact⟨v,l1,_,.pure m af al rfl ak,⟨o,ok.here,aW⟩,aj⟩
   ·obtain⟨cs,mk,a6,bu,cL⟩:=ahY hm aC ak;exact⟨v,l1,_,.new m cs af aC cL,⟨o,mk,ok.here,aW,a6,bu⟩,aj⟩
 | mu f args=>
  obtain⟨c,iD,ah,_⟩:=ok.mu f args af;exact kX (by rw[iD]; simp only[kJ,ah])
 | mv x args=>
  obtain⟨c,iD,ah,_⟩:=ok.mv x args af;exact kX (by rw[iD]; simp only[kJ,ah])
 | nT x name args=>
  obtain⟨c,iD,ah,_⟩:=ok.nT x name args af;exact kX (by rw[iD]; simp only[kJ,ah])
inductive kt (P:Program) (G:Nat->U) (ops:Array Oper) :List dd->a8->ao->iQ->List (bM × a8 × ao)->a8->ao->Prop
 | nil {σ l seen}:kt P G ops [] σ l seen [] σ l
 | skip {s o r σ l seen es bE l'}:po P ops s o->kT ops σ o=some false->kt P G ops r (hG σ s.dst gy) l seen es bE l'->kt P G ops (s::r) σ l seen ((.skip s.i,σ,l) ::es) bE l'
 | step {s o r σ l v l1 t seen es bE l'}:po P ops s o->mX P G s o σ l v l1 t->w9 P G ops ⟨σ,a7 l⟩ t->pw s.hN seen l1->
   kt P G ops r (hG σ s.dst v) l1 (rC s.cb s.i (lW P G s.b σ v l l1) seen) es bE l'->kt P G ops (s::r) σ l seen ((t,σ,l) ::es) bE l'
theorem Nj {ops:Array Oper} {K:a8->ao->Prop}:∀ {s:List dd} {σ:a8} {l:ao} {seen:iQ},(∀ x∈s,∃ o,po P ops x o)->jY P G s σ l seen K->∃ es bE l',kt P G ops s σ l seen es bE l'/\K bE l'
 | [],σ,l,seen,_,h=>⟨[],σ,l,.nil,h⟩
 | s::r,σ,l,seen,c0,h=>by
  obtain⟨o,ok⟩:=c0 s (by simp);rcases UK ok h with ⟨aW,h⟩ | ⟨aW,h⟩
  ·obtain⟨v,l1,t,ad,ae,aj,aF⟩:=ak7 ok aW h;obtain⟨es,bE,l',a6,bu⟩:=Nj (fun x ag=>c0 x (by simp[ag])) aF;exact⟨_,bE,l',.step ok ad ae aj a6,bu⟩
  ·obtain⟨es,bE,l',a6,bu⟩:=Nj (fun x ag=>c0 x (by simp[ag])) h;exact⟨_,bE,l',.skip ok aW a6,bu⟩
theorem Nl {K:a8->ao->Prop}:∀ {s:List dd} {σ:a8} {l:ao},(∀ x∈s,x.cb=false)->i1 P G s σ l K->jY P G s σ l [] K
 | [],σ,l,_,h=>h
 | s::r,σ,l,ar,h=>by
  have mono:∀ (b:qp) (K eZ:U->ao->Prop),(∀ v l,K v l->eZ v l)->ih P G b σ l K->ih P G b σ l eZ:=by
   intro b K eZ aU h;cases b with
   | gu m=>simp only[ih,y2] at h ⊢; obtain⟨v,ad,ae⟩:=h; exact⟨v,ad,Vh aU ae⟩
   | mu f args=>obtain⟨r,l',ad,ae,aj⟩:=h; exact⟨r,l',ad,ae,aU _ _ aj⟩
   | mv x args=>
    simp only[ih,u3] at h ⊢;split at h
    ·obtain⟨aI,r,l',ad,ae,aj⟩:=h; exact⟨aI,r,l',ad,ae,aU _ _ aj⟩
    ·cases h
   | nT x name args=>
    simp only[ih,u2] at h ⊢;split at h
    ·split at h
     ·obtain⟨aI,r,l',ad,ae,aj⟩:=h; exact⟨aI,r,l',ad,ae,aU _ _ aj⟩
     ·cases h
    ·cases h
  have acd:∀ (g:Option (Option Tmp × Bool)) (p q ci dQ:Prop),(p->ci)->(q->dQ)->p3 σ g p q->p3 σ g ci dQ:=by
   intro g p q ci dQ av bj h;unfold p3 at h ⊢;split at h
   ·exact av h
   ·rename_i d w;simp only[rh] at h ⊢;split at h
    ·rw[DK] at h ⊢;rcases h with ⟨a,b⟩ | ⟨a,b⟩
     ·exact .inl ⟨a,av b⟩
     ·exact .inr ⟨a,bj b⟩
    ·cases h
    ·exact bj h
   ·exact bj h
  have CY:s.cb=false:=ar s (by simp);refine acd _ _ _ _ _ (mono _ _ _ fun v l' h=>?_) (fun h=>Nl (fun x ag=>ar x (by simp[ag])) h) h;refine⟨trivial,?_⟩;rw[CY];exact Nl (fun x ag=>ar x (by simp[ag])) h
theorem mX.len {s:dd} {o:Oper} {σ:a8} {l l1:ao} {v:U} {t:bM} (k:mX P G s o σ l v l1 t) :l.length<=l1.length:=by
 cases k with
 | pure m af hm al ak=>rw[al]; exact as3 _
 | new m cs af hm al=>rw[al]; simp
 | gL am bD=>exact bD
theorem kt.len {ops:Array Oper} {s:List dd} {σ bE:a8} {l l' : ao} {seen:iQ} {es:List (bM × a8 × ao)} (h:kt P G ops s σ l seen es bE l') :l.length<=l'.length:=by
 induction h with
 | nil=>exact as3 _
 | skip _ _ _ aS=>exact aS
 | step _ k _ _ _ aS=>exact atR k.len aS
def tD (es:List (bM × a8 × ao)) (l' : ao) (q:Nat) :ao:=match es[q]? with | some x=>x.2.2 | none=>l'
theorem kt.here {ops:Array Oper} {s:List dd} {σ bE:a8} {l l' : ao} {seen:iQ} {es:List (bM × a8 × ao)} (h:kt P G ops s σ l seen es bE l') :tD es l' 0=l:=by
 cases h<;>rfl
theorem kt.idx {ops:Array Oper} {s:List dd} {σ bE:a8} {l l' : ao} {seen:iQ} {es:List (bM × a8 × ao)} (h:kt P G ops s σ l seen es bE l') :es.map (fun e=>e.1.idx)=s.map (·.i) :=by
 induction h with
 | nil=>rfl
 | skip _ _ _ aS=>simp only[atr,aS]; rfl
 | step _ k _ _ _ aS=>simp only[atr,aS,k.idx]
theorem kt.at {ops:Array Oper} {s:List dd} {σ bE:a8} {l l' : ao} {seen:iQ} {es:List (bM × a8 × ao)} (h:kt P G ops s σ l seen es bE l') :
  (∀ (p:Nat) (e:bM × a8 × ao),es[p]? = some e->w9 P G ops ⟨e.2.1,a7 e.2.2⟩ e.1/\g6 ops ⟨σ,a7 l⟩ (es.map (·.1)) p=⟨e.2.1,a7 e.2.2⟩)/\g6 ops ⟨σ,a7 l⟩ (es.map (·.1)) es.length=⟨bE,a7 l'⟩:=by
 induction h with
 | nil=>exact⟨fun p e am=>by simp at am,rfl⟩
 | @skip s o r σ l seen es bE l' ok aW _ aS=>
  have ka:mf ops ⟨σ,a7 l⟩ (.skip s.i)=⟨hG σ s.dst gy,a7 l⟩:=by simp only[mf,xn,bM.idx,ok.here,auI,bM.val,p6,ok.dst]
  refine⟨fun p e am=>?_,?_⟩
  ·cases p with
   | zero=>simp only[ats,Option.some.injEq] at am; subst am; exact⟨⟨o,ok.here,aW⟩,rfl⟩
   | succ p=>
    simp only[atJ] at am;obtain⟨ad,ae⟩:=aS.1 p e am;refine⟨ad,?_⟩;rw[atr,Ii,ka]; exact ae
  ·rw[atr,atk,Ii,ka]; exact aS.2
 | @step s o r σ l v l1 t seen es bE l' ok k ak ah _ aS=>
  have ka:mf ops ⟨σ,a7 l⟩ t=⟨hG σ s.dst v,a7 l1⟩:=by simp only[mf,xn,k.idx,ok.here,auI,k.val,k.next,ok.dst]
  refine⟨fun p e am=>?_,?_⟩
  ·cases p with
   | zero=>simp only[ats,Option.some.injEq] at am; subst am; exact⟨ak,rfl⟩
   | succ p=>
    simp only[atJ] at am;obtain⟨ad,ae⟩:=aS.1 p e am;refine⟨ad,?_⟩;rw[atr,Ii,ka]; exact ae
  ·rw[atr,atk,Ii,ka]; exact aS.2
theorem kt.still {ops:Array Oper} {s:List dd} {σ bE:a8} {l l' : ao} {seen:iQ} {es:List (bM × a8 × ao)} (h:kt P G ops s σ l seen es bE l') (j:Nat) (S:ao->Prop)
  (pP:∀ l x,S l->S (l++x)) (aI:S l) :∀ q,q<=es.length->(∀ (p:Nat) (e:bM × a8 × ao),p<q->es[p]? = some e->e.1.jz=true->(j,S)∈seen/\∃ x,s[p]? = some x/\j∈x.hN)->S (tD es l' q) :=by
 have aav:∀ {ids:List Nat} {seen:iQ} {l:ao},pw ids seen l->(j,S)∈seen->j∈ids->S l:=by
  intro ids seen l ah hm az
  induction seen with
  | nil=>cases hm
  | cons e r aS=>
   obtain⟨ad,ae⟩:=ah;rcases at0.1 hm with rfl | hm
   ·exact ad (by simpa using az)
   ·exact aS ae hm
 induction h with
 | nil=>
  intro q bj _; simp only[atF] at bj; obtain rfl:q=0:=by omega
  exact aI
 | @skip s o r σ l seen es bE l' ok aW _ aS=>
  intro q bj zU;cases q with
  | zero=>exact aI
  | succ q=>exact aS aI q (by simpa using bj) (fun p e av am c6=>by
    obtain⟨ad,x,ae,aj⟩:=zU (p+1) e (by omega) (by simpa using am) c6;exact⟨ad,x,by simpa using ae,aj⟩)
 | @step s o r σ l v l1 t seen es bE l' ok k ak ah _ aS=>
  intro q bj zU;cases q with
  | zero=>exact aI
  | succ q=>
   have ad:S l1:=by
    cases k with
    | pure m af hm al _=>rw[al]; exact aI
    | new m cs af hm al=>rw[al]; exact pP _ _ aI
    | gL am _=>
     obtain⟨ad,x,ae,aj⟩:=zU 0 _ (by omega) rfl rfl;simp only[ats,Option.some.injEq] at ae;subst ae;exact aav ah ad aj
   refine aS ad q (by simpa using bj) (fun p e av am c6=>?_);obtain⟨ad,x,ae,aj⟩:=zU (p+1) e (by omega) (by simpa using am) c6;refine⟨?_,x,by simpa using ae,aj⟩;unfold rC;cases s.cb with
   | false=>exact ad
   | true=>exact avv _ ad
theorem kt.split {ops:Array Oper} {s:List dd} {σ bE:a8} {l l' : ao} {seen:iQ} {es:List (bM × a8 × ao)} (h:kt P G ops s σ l seen es bE l') :∀ (p:Nat) (e:bM × a8 × ao),es[p]? = some e->e.1.tY=false->
  ∃ x o v l1 wz,s[p]? = some x/\po P ops x o/\mX P G x o e.2.1 e.2.2 v l1 e.1 ∧
   kt P G ops (s.drop (p+1)) (hG e.2.1 x.dst v) l1 (rC x.cb x.i (lW P G x.b e.2.1 v e.2.2 l1) wz) (es.drop (p+1)) bE l':=by
 induction h with
 | nil=>intro p e am; simp at am
 | @skip s o r σ l seen es bE l' ok aW _ aS=>
  intro p e am hd;cases p with
  | zero=>simp only[ats,Option.some.injEq] at am; subst am; cases hd
  | succ p=>
   obtain⟨x,dt,v,l1,wz,ad,ae,aj,aF⟩:=aS p e (by simpa using am) hd;exact⟨x,dt,v,l1,wz,by simpa using ad,ae,aj,by simpa using aF⟩
 | @step s o r σ l v l1 t seen es bE l' ok k ak ah tr aS=>
  intro p e am hd;cases p with
  | zero=>
   simp only[ats,Option.some.injEq] at am; subst am;exact⟨s,o,v,l1,seen,rfl,ok,k,by simpa using tr⟩
  | succ p=>
   obtain⟨x,dt,v,l1,wz,ad,ae,aj,aF⟩:=aS p e (by simpa using am) hd;exact⟨x,dt,v,l1,wz,by simpa using ad,ae,aj,by simpa using aF⟩
end

section
variable {P:Program} {G:Nat->U}
theorem Wf {ms:List Nat} {ops:Array Oper}:∀ (ord done kX:List Nat),(∀ i∈ord,i<ops.size)->(ou P ms ops ord done kX).map (·.1)=ord
 | [],_,_,_=>rfl
 | i::r,done,kX,h=>by
  unfold ou;have az:i<ops.size:=h i (by simp);rw[at5 az];simp only;split<;>simp only[atr]<;>rw[Wf r _ _ fun j ai=>h j (by simp[ai])]
theorem MX {ms:List Nat} {ops:Array Oper}:∀ (ord done kX:List Nat) (p i:Nat) (hN:List Nat),(∀ i∈ord,i<ops.size)->(ou P ms ops ord done kX)[p]? = some (i,hN)->
  (∃ o,ops[i]? = some o/\kJ o.op=true)->∀ j,(j∈done\/∃ jX,jX<p/\ord[jX]? = some j)->(∃ o,ops[j]? = some o/\sR P o.op=true)->(∀ e∈kX,o6 ms e j=false)->
  (∀ (ci mc:Nat) (o:Oper),ci<=p->ord[ci]? = some mc->ops[mc]? = some o->kJ o.op=true->(ci=p\/o.guard=none)->o6 ms mc j=false)->j∈hN
 | [],done,kX,p,i,hN,_,av,_,_,_,_,_,_=>by simp[ou] at av
 | x::r,done,kX,p,i,hN,kE,av,am,j,ai,aV,Gm,Af=>by
  unfold ou at av;have ag:x<ops.size:=kE x (by simp);rw[at5 ag] at av;have La:ops[x]? = some ops[x] :=at5 ag;simp only at av;have ay:∀ i∈r,i<ops.size:=fun j ai=>kE j (by simp[ai])
  cases c6:kJ ops[x].op with
  | true=>
   rw[c6] at av;simp only at av;cases p with
   | zero=>
    simp only[ats,Option.some.injEq,Prod.mk.injEq] at av;obtain⟨rfl,rfl⟩:=av;obtain⟨o,ad,ae⟩:=aV;rcases ai with ai | ⟨jX,TV,_⟩
    ·refine at6.2 ⟨ai,?_⟩;simp only[ad,ae,aus,av4,as7,atN];exact⟨by simp[Af 0 x ops[x] (as3 _) (by simp) La c6 (.inl rfl)],fun e am=>by simp[Gm e am]⟩
    ·omega
   | succ p=>
    simp only[atJ] at av;refine MX r _ _ p i hN ay av am j ?_ aV ?_ ?_
    ·rcases ai with ai | ⟨jX,TV,ai⟩
     ·exact .inl (by simp[ai])
     ·cases jX with
      | zero=>simp only[ats,Option.some.injEq] at ai; exact .inl (by simp[ai])
      | succ jX=>exact .inr ⟨jX,by omega,by simpa using ai⟩
    ·intro e gN;cases aw:ops[x].guard with
     | none=>
      rw[aw] at gN;rcases at0.1 gN with rfl | gN
      ·exact Af 0 e ops[e] (by omega) (by simp) La c6 (.inr aw)
      ·exact Gm e gN
     | some fS=>rw[aw] at gN; exact Gm e gN
    ·intro ci mc o ir gF au xy aw;exact Af (ci+1) mc o (by omega) (by simpa using gF) au xy (by rcases aw with rfl | aw; exact .inl rfl; exact .inr aw)
  | false=>
   rw[c6] at av;simp only at av;cases p with
   | zero=>
    simp only[ats,Option.some.injEq,Prod.mk.injEq] at av;obtain⟨rfl,rfl⟩:=av;obtain⟨o,ad,ae⟩:=am;rw[La] at ad; cases ad;rw[c6] at ae; cases ae
   | succ p=>
    simp only[atJ] at av;refine MX r _ _ p i hN ay av am j ?_ aV Gm ?_
    ·rcases ai with ai | ⟨jX,TV,ai⟩
     ·exact .inl (by simp[ai])
     ·cases jX with
      | zero=>simp only[ats,Option.some.injEq] at ai; exact .inl (by simp[ai])
      | succ jX=>exact .inr ⟨jX,by omega,by simpa using ai⟩
    ·intro ci mc o ir gF au xy aw;exact Af (ci+1) mc o (by omega) (by simpa using gF) au xy (by rcases aw with rfl | aw; exact .inl rfl; exact .inr aw)
theorem Rz {ms:List Nat} {ops:Array Oper}:∀ {ord:List Nat},BZ ms ops ord=true->∀ (p ci i j:Nat) (o:Oper),ord[p]? = some i->ord[ci]? = some j->p<ci->ops[i]? = some o->kJ o.op=true->o6 ms j i=true
 | [],_,p,ci,i,j,o,av,_,_,_,_=>by simp at av
 | x::r,h,p,ci,i,j,o,av,ir,aK,au,am=>by
  simp only[BZ,as7] at h;cases ci with
  | zero=>omega
  | succ ci=>
   simp only[atJ] at ir;cases p with
   | zero=>
    simp only[ats,Option.some.injEq] at av;subst av;rw[au] at h;simp only[am,Bool.not_true,Bool.false_or,atN] at h;exact h.1 j (ata ir)
   | succ p=>exact Rz h.2 p ci i j o (by simpa using av) ir (by omega) au am
theorem Hw {α j0:Type} {f:α->Option j0}:∀ {l:List α} {r:List j0},l.mapM f=some r->∀ (p:Nat) (x:j0),r[p]? = some x->∃ a,l[p]? = some a/\f a=some x
 | [],r,h,p,x,ag=>by simp at h; subst h; simp at ag
 | a::l,r,h,p,x,ag=>by
  rw[auu] at h;simp only[Option.bind_eq_bind,bind_some,auD,Option.some.injEq] at h;obtain⟨b,ad,cx,ae,rfl⟩:=h;cases p with
  | zero=>simp only[ats,Option.some.injEq] at ag; subst ag; exact⟨a,rfl,ad⟩
  | succ p=>obtain⟨c9,aj,aF⟩:=Hw ae p x (by simpa using ag); exact⟨c9,by simpa using aj,aF⟩
theorem Mw {α j0:Type} {f:α->Option j0}:∀ {l:List α} {r:List j0},l.mapM f=some r->r.length=l.length
 | [],r,h=>by simp at h; subst h; rfl
 | a::l,r,h=>by
  rw[auu] at h;simp only[Option.bind_eq_bind,bind_some,auD,Option.some.injEq] at h;obtain⟨b,ad,cx,ae,rfl⟩:=h;simp[Mw ae]
theorem adI (es:List (bM × a8 × ao)) (l' : ao) (n q:Nat) :tD (es.drop n) l' q=tD es l' (n+q) :=by
 unfold tD; rw[atH]
theorem abd {id N' : Nat} {ops:Array Oper} {wD:List dd} (bb:∀ (i:Nat) (o:Oper),ops[i]? = some o->jH N' o.dst=true)
  (kE:MQ (i0 ops) ops (fE (i0 ops) ops)=true) (adH:BZ (i0 ops) ops (fE (i0 ops) ops)=true)
  (b3:(ou P (i0 ops) ops (fE (i0 ops) ops) [] []).mapM (fun p=>A9 P ops p.1 p.2 (((ou P (i0 ops) ops (fE (i0 ops) ops) [] []).flatMap (·.2)).contains p.1))=some wD)
  {σ bE:a8} {l l' : ao} {es:List (bM × a8 × ao)} (tr:kt P G ops wD σ l [] es bE l') :dv P G (.code (.region id ops true) N' σ (a7 l) .normal bE (a7 l')) :=by
 simp only[MQ,as7] at kE;obtain⟨⟨⟨⟨iv,gP⟩,o0⟩,km⟩,wd⟩:=kE;have Lm:∀ i∈fE (i0 ops) ops,i<ops.size:=fun i az=>by
  rw[atN] at km;simpa [av3] using km i az
 have TZ:(ou P (i0 ops) ops (fE (i0 ops) ops) [] []).map (·.1)=fE (i0 ops) ops:=Wf _ _ _ Lm;have k9:∀ (p:Nat) (x:dd),wD[p]? = some x->∃ o,po P ops x o/\(ou P (i0 ops) ops (fE (i0 ops) ops) [] [])[p]? = some (x.i,x.hN) ∧
   x.cb=((ou P (i0 ops) ops (fE (i0 ops) ops) [] []).flatMap (·.2)).contains x.i:=fun p x ag=>by
  obtain⟨a,ad,ae⟩:=Hw b3 p x ag;obtain⟨o,aj,aF,a6,bu⟩:=EA ae;exact⟨o,aj,by rw[ad,aF,a6],by rw[bu,aF]⟩
 have Ub:∀ (p:Nat) (x:dd),wD[p]? = some x->(fE (i0 ops) ops)[p]? = some x.i:=fun p x ag=>by
  obtain⟨o,_,ad,_⟩:=k9 p x ag;rw[<-TZ,as5,ad]; rfl
 have vA:∀ (p:Nat) (e:bM × a8 × ao),es[p]? = some e->∃ x,wD[p]? = some x/\x.i=e.1.idx:=fun p e am=>by
  have:=congrArg (·[p]?) tr.idx;simp only[as5,am,as9] at this;cases ag:wD[p]? with
  | none=>rw[ag] at this; cases this
  | some x=>rw[ag] at this; simp only[as9,Option.some.injEq] at this; exact⟨x,rfl,this.symm⟩
 have sh:∀ (p:Nat) (e:bM × a8 × ao),es[p]? = some e->(fE (i0 ops) ops)[p]? = some e.1.idx:=fun p e am=>by
  obtain⟨x,ad,ae⟩:=vA p e am;rw[Ub p x ad,ae]
 have fI:∀ (p:Nat) (t:bM),(es.map (·.1))[p]? = some t->∃ e,es[p]? = some e/\e.1=t:=fun p t aV=>by simpa using aV
 have xJ:∀ (p:Nat) (e:bM × a8 × ao),es[p]? = some e->e.1.jz=true->∃ o,ops[e.1.idx]? = some o/\kJ o.op=true/\(kT ops e.2.1 o=some true) :=fun p e am c6=>by
  have hd:e.1.tY=false:=by cases h:e.1<;>rw[h] at c6<;>first | rfl | cases c6
  obtain⟨x,o,v,l1,wz,ad,ae,aj,aF⟩:=tr.split p e am hd;have pZ:=(tr.at.1 p e am).1;have dP:=aj.idx;have aR:=ae.here;rw[<-dP] at aR;refine⟨o,aR,?_,?_⟩
  ·revert c6;generalize e.1=t at aj;intro c6;cases aj with
   | pure=>cases c6
   | new=>cases c6
   | gL am _=>exact am
  ·revert pZ c6 aR;generalize e.1=t;intro c6 pZ aR;cases t<;>first | (cases c6; done) | skip
   obtain⟨dt,a6,bu,_⟩:=pZ;simp only[bM.idx] at aR;rw[aR] at a6; cases a6;exact bu
 have gv:yY ops (o6 (i0 ops)) (es.map (·.1)) :=by
  refine⟨aa9 iv,fun i az=>?_,fun p ci t gx av ir am=>?_,fun p t av=>?_,fun p ci t gx av ir aK=>?_,fun p ci t gx av ir aK c6=>?_⟩
  ·rw[atN] at wd;have:=wd i (by simpa using az);have hm:i∈fE (i0 ops) ops:=by simpa using this
   have lI:(es.map (·.1)).map bM.idx=fE (i0 ops) ops:=by
    rw[auJ];show es.map (fun e=>e.1.idx)=_;rw[tr.idx,<-TZ];apply atO;intro p;rw[as5,as5];cases ag:wD[p]? with
    | none=>
     have:(ou P (i0 ops) ops (fE (i0 ops) ops) [] [])[p]? = none:=by
      rw[au8] at ag ⊢;rw[<-Mw b3]; exact ag
     rw[this]; rfl
    | some x=>obtain⟨o,_,ad,_⟩:=k9 p x ag; rw[ad]; rfl
   rw[<-lI] at hm;obtain⟨t,ad,ae⟩:=atx.1 hm;obtain⟨p,av⟩:=auG ad;exact⟨p,t,av,ae⟩
  ·obtain⟨e,aO,aT⟩:=fI p t av;obtain⟨fy,Cb,Cd⟩:=fI ci gx ir;have a2:=sh p e aO;have bd:=sh ci fy Cb;rw[aT] at a2; rw[Cd] at bd;rcases auj p ci with h | h | h
   ·exact absurd am (HK gP p ci _ _ a2 bd h).1
   ·exact h
   ·exact absurd am.symm (HK gP ci p _ _ bd a2 h).1
  ·obtain⟨e,aO,aT⟩:=fI p t av;have a2:=sh p e aO;rw[aT] at a2;exact Lm _ (ata a2)
  ·obtain⟨e,aO,aT⟩:=fI p t av;obtain⟨fy,Cb,Cd⟩:=fI ci gx ir;have a2:=sh p e aO;have bd:=sh ci fy Cb;rw[aT] at a2; rw[Cd] at bd;exact (HK gP p ci _ _ a2 bd aK).2
  ·obtain⟨e,aO,aT⟩:=fI p t av;obtain⟨fy,Cb,Cd⟩:=fI ci gx ir;obtain⟨o,cX,dC,_⟩:=xJ p e aO (by rw[aT]; exact c6);have a2:=sh p e aO;have bd:=sh ci fy Cb;rw[aT] at a2 cX; rw[Cd] at bd;exact Rz adH p ci _ _ o a2 bd aK cX dC
 have ma:∀ q,q<=es.length->(g6 ops ⟨σ,a7 l⟩ (es.map (·.1)) q).h=a7 (tD es l' q) :=fun q bj=>by
  unfold tD;cases am:es[q]? with
  | none=>
   have:q=es.length:=by rw[au8] at am; omega
   rw[this,tr.at.2]
  | some e=>rw[(tr.at.1 q e am).2]
 have qi:IR P G ops (o6 (i0 ops)) ⟨σ,a7 l⟩ (es.map (·.1)) :=by
  refine⟨fun p t av=>?_,fun q bj p t apr av cU=>?_⟩
  ·obtain⟨e,aO,aT⟩:=fI p t av;obtain⟨b0,b5⟩:=tr.at.1 p e aO;rw[b5,<-aT]; exact b0
  ·obtain⟨e,aO,aT⟩:=fI p t av;obtain⟨b0,b5⟩:=tr.at.1 p e aO;have aff:q<=es.length:=by
    rcases bj with rfl | ⟨alp,bj,_⟩
    ·simp
    ·obtain⟨eq,aZ,_⟩:=fI q alp bj;exact auC (as0.1 aZ).1
   rw[ma q aff,b5];cases hd:e.1.tY with
   | true=>rw[<-aT]; cases h:e.1<;>rw[h] at hd<;>first | trivial | cases hd
   | false=>
    obtain⟨x,o,v,l1,wz,ad,ae,aj,aF⟩:=tr.split p e aO hd;obtain⟨dt,go,gZ,aeq⟩:=k9 p x ad;have mL:dt=o:=by have a:=go.here; have b:=ae.here; rw[a] at b; exact Option.some.inj b
    subst mL;have ask:sR P dt.op=true->∀ (ci:Nat) (fy:bM × a8 × ao),ci<q - (p+1)->(es.drop (p+1))[ci]? = some fy->fy.1.jz=true->
      (x.i,lW P G x.b e.2.1 v e.2.2 l1)∈rC x.cb x.i (lW P G x.b e.2.1 v e.2.2 l1) wz/\∃ y,(wD.drop (p+1))[ci]? = some y/\x.i∈y.hN:=by
     intro aV ci fy ir gN xy;rw[atH] at gN;obtain⟨y,bU,b8⟩:=vA _ fy gN;obtain⟨sF,ei,hg,_⟩:=k9 _ y bU;obtain⟨aiq,iH,yf,tZ⟩:=xJ _ fy gN xy;have cZ:x.i∈y.hN:=by
      refine MX _ _ _ _ _ _ Lm hg ⟨aiq,by rw[b8]; exact iH,yf⟩ x.i (.inr ⟨p,by omega,Ub p x ad⟩) ⟨dt,ae.here,aV⟩ (fun e am=>by cases am) ?_;intro sG afR HE apm ad5 TT FR aw
      -- what is at p'' was carried out
      have aK:sG<es.length:=by
       have:=(as0.1 gN).1;omega
      have lI:es[sG]? = some es[sG] :=as4 aK;have hV:=sh _ _ lI;rw[ad5] at hV;have tH:afR=es[sG].1.idx:=Option.some.inj hV;have acC:es[sG].1.jz=true:=by
       cases vI:es[sG].1.tY with
       | true=>
        exfalso;rcases aw with rfl | aw
        ·rw[lI] at gN;cases gN;cases h:es[p+1+ci].1<;>rw[h] at xy vI<;>first | (cases vI; done) | (cases xy; done)
        ·have pZ:=(tr.at.1 _ _ lI).1;cases h:es[sG].1<;>rw[h] at vI pZ tH<;>first | (cases vI; done) | skip
         obtain⟨o0,eQ,eG⟩:=pZ;simp only[bM.idx] at tH;rw[<-tH,TT] at eQ; cases eQ;simp[kT,aw] at eG
       | false=>
        obtain⟨Bn,o0,fj,gg,asq,eQ,eG,v4,_⟩:=tr.split _ _ lI vI;have ad7:=v4.idx;have Tl:=eG.here;rw[<-ad7,<-tH,TT] at Tl; cases Tl;revert v4;generalize es[sG].1=t3;intro v4;cases v4 with
        | pure m af hm _ _=>
         exfalso;have ah:=eG.gu m af;have:kJ HE.op=false:=by
          revert ah hm;cases HE.op<;>simp only[m8]<;>intro hm ah<;>first | rfl | (exfalso; revert ah hm; done) | skip
          case store=>rw[map_some] at ah; obtain⟨_,_,rfl⟩:=ah; cases hm
          case call c=>
           split at ah
           ·rename_i b af;unfold kJ;simp only[af];unfold vd at ah
            repeat' split at ah
            all_goals first
             | rfl
             | (cases ah; done)
             | (cases ah; cases hm; done)
             | (simp only[bind_some,map_some] at ah; obtain⟨_,_,rfl⟩:=ah; cases hm; done)
             | (simp only[bind_some,map_some] at ah; obtain⟨_,_,_,_,rfl⟩:=ah; cases hm; done)
             | (simp only[bind_some,iG] at ah; obtain⟨_,_,_,_,_,_,_,rfl⟩:=ah; cases hm; done)
             | (simp only[bind_some,iG] at ah; obtain⟨_,_,_,_,_,_,_,_,_,rfl⟩:=ah; cases hm; done)
           ·split at ah
            ·rw[iG] at ah; obtain⟨_,rfl⟩:=ah; cases hm
            ·cases ah
           ·cases ah
          case next it b=>(cases b<;>simp only[reduceCtorEq] at ah<;>cases ah<;>cases hm)
          case lookup=>split at ah<;>(try cases ah; done); rw[map_some] at ah; obtain⟨_,_,rfl⟩:=ah; cases hm
          case mapUpdate=>split at ah<;>cases ah; cases hm
          case insert=>split at ah<;>cases ah; cases hm
          case panic=>(cases ah; cases hm)
          case makeMap=>split at ah<;>cases ah; cases hm
          case range=>split at ah<;>cases ah; cases hm
          case typeAssert=>rw[map_some] at ah; obtain⟨_,_,rfl⟩:=ah; cases hm
          all_goals (cases ah)
         rw[this] at FR; cases FR
        | new m cs af hm _=>
         exfalso;have ah:=eG.gu m af;have:kJ HE.op=false:=by
          revert ah hm;cases HE.op<;>simp only[m8]<;>intro hm ah<;>first | rfl | (exfalso; revert ah hm; done) | skip
          case store=>rw[map_some] at ah; obtain⟨_,_,rfl⟩:=ah; cases hm
          case panic=>(cases ah; cases hm)
          case call c=>
           split at ah
           ·rename_i b af;unfold kJ;simp only[af];unfold vd at ah
            repeat' split at ah
            all_goals first
             | rfl
             | (cases ah; done)
             | (cases ah; cases hm; done)
             | (simp only[bind_some,map_some] at ah; obtain⟨_,_,rfl⟩:=ah; cases hm; done)
             | (simp only[bind_some,map_some] at ah; obtain⟨_,_,_,_,rfl⟩:=ah; cases hm; done)
             | (simp only[bind_some,iG] at ah; obtain⟨_,_,_,_,_,_,_,rfl⟩:=ah; cases hm; done)
             | (simp only[bind_some,iG] at ah; obtain⟨_,_,_,_,_,_,_,_,_,rfl⟩:=ah; cases hm; done)
           ·split at ah
            ·rw[iG] at ah; obtain⟨_,rfl⟩:=ah; cases hm
            ·cases ah
           ·cases ah
          case next it b=>(cases b<;>simp only[reduceCtorEq] at ah<;>cases ah<;>cases hm)
          case lookup=>split at ah<;>(try cases ah; done); rw[map_some] at ah; obtain⟨_,_,rfl⟩:=ah; cases hm
          case mapUpdate=>split at ah<;>cases ah; cases hm
          case insert=>split at ah<;>cases ah; cases hm
          case makeMap=>split at ah<;>cases ah; cases hm
          case range=>split at ah<;>cases ah; cases hm
          case typeAssert=>rw[map_some] at ah; obtain⟨_,_,rfl⟩:=ah; cases hm
          all_goals (cases ah)
         rw[this] at FR; cases FR
        | gL _ _=>rfl
      have:=cU sG es[sG].1 (by omega) (by simp[lI]) acC;rw[tH,ae.here |> fun _=>(aj.idx).symm,aT];exact this
     refine⟨?_,y,by rw[atH]; exact bU,cZ⟩;have:x.cb=true:=by
      rw[aeq];simp only[List.contains_iff_mem,List.mem_flatMap];exact⟨(y.i,y.hN),ata hg,cZ⟩
     rw[this];exact avG
    have FL:sR P dt.op=true->(∀ l Bm,lW P G x.b e.2.1 v e.2.2 l1 l->lW P G x.b e.2.1 v e.2.2 l1 (l++Bm))->lW P G x.b e.2.1 v e.2.2 l1 l1->lW P G x.b e.2.1 v e.2.2 l1 (tD es l' q) :=by
     intro aV pP aI;have:=aF.still x.i _ pP aI (q - (p+1)) (by simp only[at7]; omega) (ask aV)
     rwa [adI,show p+1+(q - (p+1))=q by omega] at this
    rw[<-aT];revert aj FL ask aT;generalize e.1=t1;intro aT aj ask FL;cases aj with
    | gL=>trivial
    | pure m af hm al ak=>
     intro gP od;rw[ae.here] at od; cases od;have ah:=ae.gu m af;cases ay:m.reads with
     | false=>exact HB ah (ahl hm ay ak)
     | true=>
      have aV:sR P dt.op=true:=by
       cases h:sR P dt.op with
       | true=>rfl
       | false=>rw[(Ri ah h).1] at ay; cases ay
      have x0:m.je=false:=by cases m<;>first | rfl | cases ay
      have b3:∀ bo,lW P G x.b e.2.1 v e.2.2 l1 bo<->bN P (cS G e.2.1) bo m=some (v,bo) :=fun bo=>by rw[af]; simp only[lW,x0]
      have:=FL aV (fun bo Bm h=>by rw[b3] at h ⊢; exact ahk hm h) (by rw[b3,al]; exact ak);rw[b3] at this;exact HB ah this
    | new m cs af hm al=>
     have ah:=ae.gu m af;have aV:sR P dt.op=true:=by
      cases h:sR P dt.op with
      | true=>rfl
      | false=>rw[(Ri ah h).2] at hm; cases hm
     have b3:∀ bo:ao,lW P G x.b e.2.1 v e.2.2 l1 bo<->bo[e.2.2.length]? = some (.cells cs.length cs) :=fun bo=>by
      rw[af,al]; simp only[lW,hm]; rw[atl (as3 _)]; simp
     have:=FL aV (fun bo Bm h=>by rw[b3] at h ⊢; rw[as2 (cp h)]; exact h) (by rw[b3,al,atl (as3 _)]; simp);rw[b3] at this;show (a7 (tD es l' q)).f (a7 e.2.2).n=_;rw[kr,EW,this]
 have:=dv.aa8 (id:=id) gv bb qi;rw[ate,tr.at.2] at this;exact this
end

section
variable {P:Program} {G:Nat->U}
theorem I5 {ops:Array Oper} {f:Nat->Option dd}:∀ {is:List Nat} {s:List dd} {os:List Oper},(∀ i x,f i=some x->∃ o,po P ops x o/\x.i=i)->is.mapM f=some s->is.map (fun i=>ops[i]?)=os.map some->nM P ops s os
 | [],s,os,aE,h,au=>by
  simp at h; subst h;cases os with
  | nil=>exact .nil
  | cons=>simp at au
 | i::is,s,os,aE,h,au=>by
  rw[auu] at h;simp only[Option.bind_eq_bind,bind_some,auD,Option.some.injEq] at h;obtain⟨x,ad,ga,ae,rfl⟩:=h;cases os with
  | nil=>simp at au
  | cons o os=>
   simp only[atr,List.cons.injEq] at au;obtain⟨dt,ok,az⟩:=aE i x ad;have:dt=o:=by have:=ok.here; rw[az,au.1] at this; exact (Option.some.inj this).symm
   subst this;exact .cons ok (I5 aE ae au.2)
theorem aaH {N N' id:Nat} (fo:N<=N') {ops:Array Oper} {draw:Bool} {c:fw} (ah:Jx P N ops draw=some c) {σ:a8} {l:ao} {K:hk} (h:run P G c σ l K) :
  ∃ e bE l',dv P G (.code (.region id ops draw) N' σ (a7 l) e bE (a7 l'))/\l.length<=l'.length/\K e bE l':=by
 unfold Jx at ah;split at ah
 ·cases ah
 ·rename_i pO;have bb:∀ (i:Nat) (o:Oper),ops[i]? = some o->jH N' o.dst=true:=fun i o au=>by
   rw[atN] at pO;have:=pO o (by simpa using Array.mem_of_getElem? au);unfold jH at this ⊢;split at this
   ·rename_i d _; exact decide_eq_true (auB (of_decide_eq_true this) fo)
   ·rfl
  split at ah
  ·rw[map_some] at ah;obtain⟨s,ad,rfl⟩:=ah;have dL:nM P ops s ops.toList:=by
    refine I5 (fun i x ag=>?_) ad ?_
    ·obtain⟨o,ae,aj,_⟩:=EA ag; exact⟨o,ae,aj⟩
    ·apply atO;intro p;rw[as5,as5];by_cases av:p<ops.size
     ·rw[atC av]; simp[av]
     ·rw[atd (by simp; omega),atd (by simp; omega)]; rfl
   obtain⟨bE,l',ae,aj,aF⟩:=Es bb dL h;exact⟨.normal,bE,l',.region ae,aj,aF⟩
  ·simp only at ah;split at ah
   ·cases ah
   ·rename_i tA;simp only[as7] at tA;split at ah
    ·cases ah
    ·rename_i s ak;have c0:∀ x∈s,∃ o,po P ops x o:=fun x ag=>by
      obtain⟨p,av⟩:=auG ag;obtain⟨a,_,ae⟩:=Hw ak p x av;obtain⟨o,aj,_⟩:=EA ae;exact⟨o,aj⟩
     have fin:jY P G s σ l [] (K .normal)->∃ e bE l',dv P G (.code (.region id ops true) N' σ (a7 l) e bE (a7 l'))/\l.length<=l'.length/\K e bE l':=fun h=>by
      obtain⟨es,bE,l',ad,ae⟩:=Nj c0 h;exact⟨.normal,bE,l',abd bb tA.1 tA.2 ak ad,ad.len,ae⟩
     split at ah
     ·rename_i zU;cases ah;refine fin (Nl (fun x ag=>?_) h)
      obtain⟨p,av⟩:=auG ag;obtain⟨a,_,ae⟩:=Hw ak p x av;obtain⟨o,_,_,_,aj⟩:=EA ae;rw[aj,zU]; rfl
     ·cases ah;exact fin h
theorem Xi {N N' : Nat} (fo:N<=N') :∀ (code:Code) (c:fw),comp P N code=some c->∀ (σ:a8) (l:ao) (K:hk),run P G c σ l K->
  ∃ e bE l',dv P G (.code code N' σ (a7 l) e bE (a7 l'))/\l.length<=l'.length/\K e bE l':=by
 intro code
 induction code with
 | skip=>intro c ah σ l K h; cases ah; exact⟨_,_,_,.skip _ _ _,as3 _,h⟩
 | label n=>intro c ah σ l K h; cases ah; exact⟨_,_,_,.label _ _ _ _,as3 _,h⟩
 | ret=>intro c ah σ l K h; cases ah; exact⟨_,_,_,.ret _ _ _,as3 _,h⟩
 | exit id=>intro c ah σ l K h; cases ah; exact⟨_,_,_,.exit _ _ _ _,as3 _,h⟩
 | region id ops draw=>intro c ah σ l K h; exact aaH fo ah h
 | seq a b LV LW=>
  intro c ah σ l K h;have mk:∀ (zb ly:fw),comp P N a=some zb->comp P N b=some ly->run P G zb σ l (oo (fun σ l=>run P G ly σ l K) K)->∃ e bE l',dv P G (.code (.seq a b) N' σ (a7 l) e bE (a7 l'))/\l.length<=l'.length/\K e bE l':=by
   intro zb ly aB af h;obtain⟨e,hZ,l1,ad,ae,aj⟩:=LV zb aB σ l _ h;cases e with
   | normal=>
    obtain⟨e,yW,bo,aF,a6,bu⟩:=LW ly af hZ l1 K aj;exact⟨e,yW,bo,.Xq ad aF,atR ae a6,bu⟩
   | exit id=>exact⟨_,hZ,l1,.Nv ad (by intro h; cases h),ae,aj⟩
   | ret=>exact⟨_,hZ,l1,.Nv ad (by intro h; cases h),ae,aj⟩
  simp only[comp] at ah;split at ah
  ·rename_i bc aB af;cases ah;exact mk _ _ aB af h
  ·rename_i c9 _ aB af;cases ah;refine mk _ _ aB af ?_;have:oo (fun σ l=>run P G .skip σ l K) K=K:=by
    funext e σ l;cases e<;>rfl
   rw[this]; exact h
  ·rename_i c9 bc _ _ aB af;cases ah;exact mk _ _ aB af h
  ·cases ah
 | cond c x y LZ L0=>
  intro Fq ah σ l K h;simp only[comp] at ah;split at ah
  ·rename_i Oc ER ag aJ;cases ah;simp only[run,yg] at h;split at h
   ·rename_i b af;rw[DK] at h;rcases h with ⟨rfl,h⟩ | ⟨rfl,h⟩
    ·obtain⟨e,hZ,l1,ad,ae,aj⟩:=LZ Oc ag σ l K h;exact⟨e,hZ,l1,.cond af ad,ae,aj⟩
    ·obtain⟨e,hZ,l1,ad,ae,aj⟩:=L0 ER aJ σ l K h;exact⟨e,hZ,l1,.cond af ad,ae,aj⟩
   ·cases h
  ·cases ah
 | block id c aS=>
  intro Fq ah σ l K h;simp only[comp,map_some] at ah;obtain⟨c',ad,rfl⟩:=ah;obtain⟨e,hZ,l1,ae,aj,aF⟩:=aS c' ad σ l _ h;cases e with
  | normal=>exact⟨_,hZ,l1,.Fg ae (by intro h; cases h),aj,aF⟩
  | ret=>exact⟨_,hZ,l1,.Fg ae (by intro h; cases h),aj,aF⟩
  | exit sp=>
   simp only[rg] at aF;split at aF
   ·rename_i af;obtain rfl:=kM af;exact⟨_,hZ,l1,.Pg ae,aj,aF⟩
   ·rename_i af;exact⟨_,hZ,l1,.Fg ae (by intro h; cases h; rw[avs] at af; cases af),aj,aF⟩
 | loop c aS=>
  intro Fq ah σ l K h;simp only[comp,map_some] at ah;obtain⟨c',ad,rfl⟩:=ah;obtain⟨n,h⟩:=h
  induction n generalizing σ l with
  | zero=>cases h
  | succ n LY=>
   obtain⟨e,hZ,l1,ae,aj,aF⟩:=aS c' ad σ l _ h;cases e with
   | normal=>
    obtain⟨e,yW,bo,a6,bu,cL⟩:=LY hZ l1 aF;exact⟨e,yW,bo,.AD ae a6,atR aj bu,cL⟩
   | exit id=>exact⟨_,hZ,l1,.Mp ae (by intro h; cases h),aj,aF⟩
   | ret=>exact⟨_,hZ,l1,.Mp ae (by intro h; cases h),aj,aF⟩
 | scope c aS=>
  intro Fq ah σ l K h;obtain⟨e,hZ,l1,ae,aj,aF⟩:=aS Fq ah σ l K h;exact⟨e,hZ,l1,.scope ae,aj,aF⟩
 | _=>intro c ah; cases ah
def Jw (P:Program) :ResultVar->Option c2
 | .tmp t=>some (.fL (.tmp t))
 | .cell a t=>m8 P (.load t (.tmp a))
def vf (P:Program) (f:FuncId) :Option (List c2) :=match P.funcs[f]? with
 | some fn=>fn.results.toList.mapM (Jw P)
 | none=>none
def om (P:Program) (G:Nat->U) (K:U->ao->Prop) (σ:a8) (l:ao) :List c2->List U->Prop
 | [],acc=>K (wG acc) l
 | m::r,acc=>W (bN P (cS G σ) l m) (c:=⟨fun x=>om P G K σ l r (acc++[x.1])⟩)
def DJ (P:Program) (G:Nat->U) (ms:List c2) (K:U->ao->Prop) :hk:=fun e σ l=>match e with
 | .exit _=>False
 | .normal=>om P G K σ l ms []
 | .ret=>om P G K σ l ms []
def lv (args:List U) :a8:=fun t=>args.getD t gy
theorem UL {K:U->ao->Prop} {σ:a8} {l:ao}:∀ {nE:List ResultVar} {ms:List c2} {acc:List U},nE.mapM (Jw P)=some ms->om P G K σ l ms acc->∃ vs,wr P (a7 l) σ nE=some vs/\K (wG (acc++vs)) l
 | [],ms,acc,hm,h=>by simp at hm; subst hm; exact⟨[],rfl,by simpa [om] using h⟩
 | r::nE,ms,acc,hm,h=>by
  rw[auu] at hm;simp only[Option.bind_eq_bind,bind_some,auD,Option.some.injEq] at hm;obtain⟨m,ad,arM,ae,rfl⟩:=hm;simp only[om,y2] at h;obtain⟨⟨v,l1⟩,aj,aF⟩:=h;obtain⟨vs,a6,bu⟩:=UL ae aF;refine⟨v::vs,?_,by simpa using bu⟩;have:A3 P (a7 l) σ r=some v:=by
   cases r with
   | tmp t=>cases ad; simp only[bN,Option.some.injEq,Prod.mk.injEq] at aj; rw[<-aj.1]; rfl
   | cell a t=>
    have dH:m8 P (.load t (.tmp a))=some m:=ad;have:=HB dH aj;simp only[cW] at this;unfold A3;show sy P (a7 l) t (cS G σ (.tmp a))=some v;cases al:sy P (a7 l) t (cS G σ (.tmp a)) with
    | none=>rw[al] at this; cases this
    | some x=>rw[al] at this; simp only[as9,Option.some.injEq,pn.val.injEq] at this; rw[this.1]
  simp only[wr,this,a6]
theorem Fp {f:FuncId} {c:fw} {ms:List c2} (ah:ve P f=some c) (ay:vf P f=some ms) {args:List U} {l:ao} {K:s1}
  (h:run P G c (lv args) l (DJ P G ms K.k)) :dh P G f args l (c:=K) :=by
 unfold ve at ah;unfold vf at ay;split at ah
 ·rename_i fn iB;split at ah
  ·rename_i body af;rw[iB] at ay;obtain⟨e,bE,l',ad,ae,aj⟩:=Xi (N':=args.length+(fn.ntmps - args.length)) (by omega) body c ah _ _ _ h;have fin:(e=.normal\/e=.ret)->om P G K.k bE l' ms []->dh P G f args l (c:=K) :=fun am aj=>by
    obtain⟨vs,aF,a6⟩:=UL ay aj;exact⟨wG vs,l',.inline iB af ad am (by simp only[A2,aF]; rfl),ae,by simpa using a6⟩
   cases e with
   | normal=>exact fin (.inl rfl) aj
   | ret=>exact fin (.inr rfl) aj
   | exit id=>cases aj
  ·cases ah
 ·cases ah
theorem XK {b:qp} {σ:a8} {l:ao} {K eZ:U->ao->Prop} (aU:∀ v l,K v l->eZ v l) (h:ih P G b σ l K) :ih P G b σ l eZ:=by
 cases b with
 | gu m=>simp only[ih,y2] at h ⊢; obtain⟨v,ad,ae⟩:=h; exact⟨v,ad,Vh aU ae⟩
 | mu f args=>obtain⟨r,l',ad,ae,aj⟩:=h; exact⟨r,l',ad,ae,aU _ _ aj⟩
 | mv x args=>
  simp only[ih,u3] at h ⊢;split at h
  ·obtain⟨aI,r,l',ad,ae,aj⟩:=h; exact⟨aI,r,l',ad,ae,aU _ _ aj⟩
  ·cases h
 | nT x name args=>
  simp only[ih,u2] at h ⊢;split at h
  ·split at h
   ·obtain⟨aI,r,l',ad,ae,aj⟩:=h; exact⟨aI,r,l',ad,ae,aU _ _ aj⟩
   ·cases h
  ·cases h
theorem UJ {σ:a8} {g:Option (Option Tmp × Bool)} {p q ci dQ:Prop} (av:p->ci) (bj:q->dQ) (h:p3 σ g p q) :p3 σ g ci dQ:=by
 unfold p3 at h ⊢;split at h
 ·exact av h
 ·simp only[rh] at h ⊢;split at h
  ·rw[DK] at h ⊢;rcases h with ⟨a,b⟩ | ⟨a,b⟩
   ·exact .inl ⟨a,av b⟩
   ·exact .inr ⟨a,bj b⟩
  ·cases h
  ·exact bj h
 ·exact bj h
theorem Nn {K eZ:a8->ao->Prop} (aU:∀ σ l,K σ l->eZ σ l) :∀ {s:List dd} {σ:a8} {l:ao},i1 P G s σ l K->i1 P G s σ l eZ
 | [],_,_,h=>aU _ _ h
 | s::r,_,_,h=>UJ (XK fun _ _ h=>Nn aU h) (fun h=>Nn aU h) h
theorem Ni {K eZ:a8->ao->Prop} (aU:∀ σ l,K σ l->eZ σ l) :∀ {s:List dd} {σ:a8} {l:ao} {seen:iQ},jY P G s σ l seen K->jY P G s σ l seen eZ
 | [],_,_,_,h=>aU _ _ h
 | s::r,_,_,_,h=>UJ (XK fun _ _ h=>⟨h.1,Ni aU h.2⟩) (fun h=>Ni aU h) h
theorem DL {k k' : a8->ao->Prop} {K eZ:hk} (ar:∀ σ l,k σ l->k' σ l) (aU:∀ e σ l,K e σ l->eZ e σ l) :∀ e σ l,oo k K e σ l->oo k' eZ e σ l:=by
 intro e σ l h; cases e<;>first | exact ar _ _ h | exact aU _ _ _ h
theorem Nq:∀ {c:fw} {σ:a8} {l:ao} {K eZ:hk},(∀ e σ l,K e σ l->eZ e σ l)->run P G c σ l K->run P G c σ l eZ:=by
 intro c
 induction c with
 | skip=>intro σ l K eZ aU h; exact aU _ _ _ h
 | ret=>intro σ l K eZ aU h; exact aU _ _ _ h
 | exit id=>intro σ l K eZ aU h; exact aU _ _ _ h
 | lk s=>intro σ l K eZ aU h; exact Nn (aU _) h
 | xm s=>intro σ l K eZ aU h; exact Ni (aU _) h
 | seq a b LV LW=>intro σ l K eZ aU h; exact LV (DL (fun σ l h=>LW aU h) aU) h
 | cond c x y LZ L0=>
  intro σ l K eZ aU h;simp only[run,yg] at h ⊢;split at h
  ·rw[DK] at h ⊢;rcases h with ⟨a,b⟩ | ⟨a,b⟩
   ·exact .inl ⟨a,LZ aU b⟩
   ·exact .inr ⟨a,L0 aU b⟩
  ·cases h
 | block id c aS=>
  intro σ l K eZ aU h;refine aS (fun e σ l h=>?_) h;cases e with
  | normal=>exact aU _ _ _ h
  | ret=>exact aU _ _ _ h
  | exit sp=>
   simp only[rg] at h ⊢;split at h
   ·exact aU _ _ _ h
   ·exact aU _ _ _ h
 | loop c aS=>
  intro σ l K eZ aU h;obtain⟨n,h⟩:=h;refine⟨n,?_⟩
  induction n generalizing σ l with
  | zero=>cases h
  | succ n LY=>exact aS (DL (fun σ l h=>LY h) aU) h
theorem dh.mono {f:FuncId} {args:List U} {l:ao} {K eZ:s1} (aU:∀ v l,K.k v l->eZ.k v l) (h:dh P G f args l (c:=K)) :dh P G f args l (c:=eZ) :=by
 obtain⟨r,l',ad,ae,aj⟩:=h; exact⟨r,l',ad,ae,aU _ _ aj⟩
theorem DU {c:fw} {K:II} (I:Nat->a8->ao->Prop) (step:∀ n σ l,I n σ l->run P G c σ l (oo (fun σ l=>∃ hs,hs<n/\I hs σ l) K.k)) :∀ n σ l,I n σ l->EX (run P G c) σ l (c:=K) :=by
 intro n
 induction n using Nat.strongRecOn with
 | _ n aS=>
  intro σ l h
  -- fuel n+1 is enough
  have Cl:∀ (m n:Nat),n<=m->∀ σ l,I n σ l->AD (run P G c) (m+1) σ l K.k:=by
   intro m
   induction m with
   | zero=>
    intro n aC σ l h;obtain rfl:n=0:=by omega
    exact Nq (DL (fun σ l ⟨hs,ad,_⟩=>by omega) (fun _ _ _ h=>h)) (step 0 σ l h)
   | succ m LX=>
    intro n aC σ l h;exact Nq (DL (fun σ l ⟨hs,ad,ae⟩=>LX hs (by omega) σ l ae) (fun _ _ _ h=>h)) (step n σ l h)
  exact⟨n+1,Cl n n (as3 _) σ l h⟩
theorem cB {c:fw} {K:II} (n:Nat) (I:Nat->a8->ao->Prop) (step:∀ k σ l,k<=n->I k σ l->run P G c σ l (oo (fun σ l=>k<n/\I (k+1) σ l) K.k)) {σ:a8} {l:ao} (h:I 0 σ l) :EX (run P G c) σ l (c:=K) :=by
 refine DU (fun m σ l=>∃ k,k+m=n/\I k σ l) (fun m σ l ⟨k,ar,h⟩=>?_) n σ l ⟨0,by omega,h⟩;exact Nq (DL (fun σ l ⟨ad,ae⟩=>⟨m - 1,by omega,k+1,by omega,ae⟩) (fun _ _ _ h=>h)) (step k σ l (by omega) h)
end

section
variable {P:Program} {G:Nat->U}
@[simp ↓] theorem asp (σ:a8) (l:ao) (K:hk) :run P G .skip σ l K=K .normal σ l:=id rfl
@[simp ↓] theorem asn (σ:a8) (l:ao) (K:hk) :run P G .ret σ l K=K .ret σ l:=id rfl
@[simp ↓] theorem asj (i:Nat) (σ:a8) (l:ao) (K:hk) :run P G (.exit i) σ l K=K (.exit i) σ l:=id rfl
@[simp ↓] theorem asm (s:List dd) (σ:a8) (l:ao) (K:hk) :run P G (.lk s) σ l K=i1 P G s σ l (K .normal) :=id rfl
@[simp ↓] theorem asi (s:List dd) (σ:a8) (l:ao) (K:hk) :run P G (.xm s) σ l K=jY P G s σ l [] (K .normal) :=id rfl
@[simp ↓] theorem aso (a b:fw) (σ:a8) (l:ao) (K:hk) :run P G (.seq a b) σ l K=run P G a σ l (oo (fun σ l=>run P G b σ l K) K) :=id rfl
@[simp ↓] theorem ash (c:Operand) (x y:fw) (σ:a8) (l:ao) (K:hk) :run P G (.cond c x y) σ l K=yg (cS G σ c) (c:=⟨run P G x σ l K,run P G y σ l K⟩) :=id rfl
@[simp ↓] theorem asg (i:Nat) (c:fw) (σ:a8) (l:ao) (K:hk) :run P G (.block i c) σ l K=run P G c σ l (rg i K) :=id rfl
@[simp ↓] theorem asl (c:fw) (σ:a8) (l:ao) (K:hk) :run P G (.loop c) σ l K=EX (run P G c) σ l (c:=⟨K⟩) :=id rfl
@[simp ↓] theorem ap7 (k:a8->ao->Prop) (K:hk) (σ:a8) (l:ao) :oo k K .normal σ l=k σ l:=id rfl
@[simp ↓] theorem ap6 (k:a8->ao->Prop) (K:hk) (i:Nat) (σ:a8) (l:ao) :oo k K (.exit i) σ l=K (.exit i) σ l:=id rfl
@[simp ↓] theorem ap8 (k:a8->ao->Prop) (K:hk) (σ:a8) (l:ao) :oo k K .ret σ l=K .ret σ l:=id rfl
@[simp ↓] theorem apQ (i:Nat) (K:hk) (σ:a8) (l:ao) :rg i K .normal σ l=K .normal σ l:=id rfl
@[simp ↓] theorem apR (i:Nat) (K:hk) (σ:a8) (l:ao) :rg i K .ret σ l=K .ret σ l:=id rfl
def v0 (p:Prop) [Decidable p] [c:Bu] :Prop:=if p then c.p else c.q
@[simp ↓] theorem apP (i j:Nat) (K:hk) (σ:a8) (l:ao) :rg i K (.exit j) σ l=v0 (j=i) (c:=⟨K .normal σ l,K (.exit j) σ l⟩) :=by
 unfold rg v0;by_cases h:j=i
 ·simp only[sB h,if_pos h]
 ·simp only[jT h,if_neg h]
@[simp ↓] theorem apW (i:Nat) (x y:Prop) :v0 (i=i) (c:=⟨x,y⟩)=x:=by simp[v0]
@[simp] theorem apX (x y:Prop) :v0 True (c:=⟨x,y⟩)=x:=by simp[v0]
@[simp] theorem apV (x y:Prop) :v0 False (c:=⟨x,y⟩)=y:=by simp[v0]
@[simp ↓] theorem apT (ms:List c2) (K:U->ao->Prop) (σ:a8) (l:ao) :DJ P G ms K .normal σ l=om P G K σ l ms [] :=id rfl
@[simp ↓] theorem apU (ms:List c2) (K:U->ao->Prop) (σ:a8) (l:ao) :DJ P G ms K .ret σ l=om P G K σ l ms [] :=id rfl
@[simp ↓] theorem ap5 (K:U->ao->Prop) (σ:a8) (l:ao) (acc:List U) :om P G K σ l [] acc=K (wG acc) l:=id rfl
@[simp ↓] theorem ap4 (K:U->ao->Prop) (σ:a8) (l:ao) (m:c2) (r:List c2) (acc:List U) :om P G K σ l (m::r) acc=W (bN P (cS G σ) l m) (c:=⟨fun x=>om P G K σ l r (acc++[x.1])⟩) :=id rfl
@[simp] theorem asE (v:U) :wG [v]=v:=id rfl
@[simp] theorem asF (v w:U) (r:List U) :wG (v::w::r)=.bv (v::w::r) :=id rfl
@[simp ↓] theorem asf (σ:a8) (l:ao) (K:a8->ao->Prop) :i1 P G [] σ l K=K σ l:=id rfl
@[simp ↓] theorem ase (i:Nat) (dst:Option Tmp) (m:c2) (c:List Nat) (k:Bool) (r:List dd) (σ:a8) (l:ao) (K:a8->ao->Prop) :
  i1 P G (⟨i,dst,none,.gu m,c,k⟩::r) σ l K=W (bN P (cS G σ) l m) (c:=⟨fun x=>ej m x.1 x.2 fun v l'=>i1 P G r (hG σ dst v) l' K⟩) :=id rfl
@[simp ↓] theorem asa (i:Nat) (dst:Option Tmp) (f:FuncId) (args:List Operand) (c:List Nat) (k:Bool) (r:List dd) (σ:a8) (l:ao) (K:a8->ao->Prop) :
  i1 P G (⟨i,dst,none,.mu f args,c,k⟩::r) σ l K=dh P G f (args.map (cS G σ)) l (c:=⟨fun v l'=>i1 P G r (hG σ dst v) l' K⟩) :=id rfl
@[simp ↓] theorem asc (i:Nat) (dst:Option Tmp) (x:Operand) (args:List Operand) (c:List Nat) (k:Bool) (r:List dd) (σ:a8) (l:ao) (K:a8->ao->Prop) :
  i1 P G (⟨i,dst,none,.mv x args,c,k⟩::r) σ l K=u3 P G (cS G σ x) (args.map (cS G σ)) l (c:=⟨fun v l'=>i1 P G r (hG σ dst v) l' K⟩) :=id rfl
@[simp ↓] theorem asb (i:Nat) (dst:Option Tmp) (x:Operand) (name:String) (args:List Operand) (c:List Nat) (k:Bool) (r:List dd) (σ:a8) (l:ao) (K:a8->ao->Prop) :
  i1 P G (⟨i,dst,none,.nT x name args,c,k⟩::r) σ l K=u2 P G name (cS G σ x) (args.map (cS G σ)) l (c:=⟨fun v l'=>i1 P G r (hG σ dst v) l' K⟩) :=id rfl
@[simp ↓] theorem anD (name:String) (t:TypeId) (v:U) (args:List U) (l:ao) (c:s1) :
  u2 P G name (.hq t v) args l (c:=c)=(match yn P t name with | some g=>j8 P g=true/\dh P G g (v::args) l (c:=c) | none=>False) :=id rfl
@[simp ↓] theorem asd (i:Nat) (dst:Option Tmp) (d:Tmp) (w:Bool) (b:qp) (c:List Nat) (k:Bool) (r:List dd) (σ:a8) (l:ao) (K:a8->ao->Prop) :
  i1 P G (⟨i,dst,some (some d,w),b,c,k⟩::r) σ l K=rh (σ d) w (c:=⟨i1 P G (⟨i,dst,none,b,c,k⟩::r) σ l K,i1 P G r (hG σ dst gy) l K⟩) :=id rfl
@[simp ↓] theorem ar9 (σ:a8) (l:ao) (seen:iQ) (K:a8->ao->Prop) :jY P G [] σ l seen K=K σ l:=id rfl
@[simp ↓] theorem ar8 (i:Nat) (dst:Option Tmp) (m:c2) (c:List Nat) (k:Bool) (r:List dd) (σ:a8) (l:ao) (seen:iQ) (K:a8->ao->Prop) :
  jY P G (⟨i,dst,none,.gu m,c,k⟩::r) σ l seen K=W (bN P (cS G σ) l m) (c:=⟨fun x=>ej m x.1 x.2 fun v l'=>pw c seen l'/\jY P G r (hG σ dst v) l' (rC k i (lW P G (.gu m) σ v l l') seen) K⟩) :=id rfl
@[simp ↓] theorem ar5 (i:Nat) (dst:Option Tmp) (f:FuncId) (args:List Operand) (c:List Nat) (k:Bool) (r:List dd) (σ:a8) (l:ao) (seen:iQ) (K:a8->ao->Prop) :
  jY P G (⟨i,dst,none,.mu f args,c,k⟩::r) σ l seen K=dh P G f (args.map (cS G σ)) l (c:=⟨fun v l'=>pw c seen l'/\jY P G r (hG σ dst v) l' (rC k i (fun _=>True) seen) K⟩) :=id rfl
@[simp ↓] theorem ar6 (i:Nat) (dst:Option Tmp) (x:Operand) (args:List Operand) (c:List Nat) (k:Bool) (r:List dd) (σ:a8) (l:ao) (seen:iQ) (K:a8->ao->Prop) :
  jY P G (⟨i,dst,none,.mv x args,c,k⟩::r) σ l seen K=u3 P G (cS G σ x) (args.map (cS G σ)) l (c:=⟨fun v l'=>pw c seen l'/\jY P G r (hG σ dst v) l' (rC k i (fun _=>True) seen) K⟩) :=id rfl
@[simp ↓] theorem ar7 (i:Nat) (dst:Option Tmp) (d:Tmp) (w:Bool) (b:qp) (c:List Nat) (k:Bool) (r:List dd) (σ:a8) (l:ao) (seen:iQ) (K:a8->ao->Prop) :
  jY P G (⟨i,dst,some (some d,w),b,c,k⟩::r) σ l seen K=rh (σ d) w (c:=⟨jY P G (⟨i,dst,none,b,c,k⟩::r) σ l seen K,jY P G r (hG σ dst gy) l seen K⟩) :=id rfl
@[simp] theorem anY (ids:List Nat) (l:ao) :pw ids [] l=True:=id rfl
@[simp] theorem anX (ids:List Nat) (e:Nat × (ao->Prop)) (r:iQ) (l:ao) :pw ids (e::r) l=((ids.contains e.1=true->e.2 l)/\pw ids r l) :=id rfl
@[simp] theorem ass (i:Nat) (p:ao->Prop) (s:iQ) :rC true i p s=(i,p) ::s:=id rfl
@[simp] theorem asr (i:Nat) (p:ao->Prop) (s:iQ) :rC false i p s=s:=id rfl
@[simp] theorem asy (m:c2) (σ:a8) (v:U) (l l' l1:ao) :lW P G (.gu m) σ v l l' l1=(match m.je with | true=>l1[l.length]? = l'[l.length]? | false=>bN P (cS G σ) l1 m=some (v,l1)) :=id rfl
@[simp ↓] theorem aqI (x:Operand) (v:U) (l:ao) (K:U->ao->Prop) :ej (.fL x) v l K=K v l:=id rfl
@[simp ↓] theorem aqL (c a b:Operand) (v:U) (l:ao) (K:U->ao->Prop) :ej (.pick c a b) v l K=K v l:=id rfl
@[simp ↓] theorem ap9 (z:List U) (v:U) (l:ao) (K:U->ao->Prop) :ej (.alloc z) v l K=K v l:=id rfl
@[simp ↓] theorem aqe (x:Operand) (v:U) (l:ao) (K:U->ao->Prop) :ej (.box x) v l K=K v l:=id rfl
@[simp ↓] theorem aqd (z:List U) (ps:List (Nat × Nat × Operand)) (v:U) (l:ao) (K:U->ao->Prop) :ej (.BF z ps) v l K=K v l:=id rfl
@[simp ↓] theorem aqf (z:Nat) (zero:List U) (n:Nat) (ps:List (Nat × Operand)) (v:U) (l:ao) (K:U->ao->Prop) :ej (.qD z zero n ps) v l K=K v l:=id rfl
@[simp ↓] theorem aqw (a:Operand) (v:U) (l:ao) (K:U->ao->Prop) :ej (.nx a) v l K=K v l:=id rfl
@[simp ↓] theorem aqx (n:Nat) (a:Operand) (v:U) (l:ao) (K:U->ao->Prop) :ej (.lU n a) v l K=K v l:=id rfl
@[simp ↓] theorem aqO (n:Nat) (a x:Operand) (v:U) (l:ao) (K:U->ao->Prop) :ej (.st n a x) v l K=K v l:=id rfl
@[simp ↓] theorem aqJ (x:Operand) (v:U) (l:ao) (K:U->ao->Prop) :ej (.D0 x) v l K=K v l:=id rfl
@[simp ↓] theorem aqc (o:BinOp) (t:TypeId) (x y:Operand) (v:U) (l:ao) (K:U->ao->Prop) :ej (.bin o t x y) v l K=K v l:=id rfl
@[simp ↓] theorem aqQ (o:UnOp) (x:Operand) (v:U) (l:ao) (K:U->ao->Prop) :ej (.un o x) v l K=K v l:=id rfl
@[simp ↓] theorem aqi (k:IntKind) (x:Operand) (v:U) (l:ao) (K:U->ao->Prop) :ej (.ze k x) v l K=K v l:=id rfl
@[simp ↓] theorem aqn (x:Operand) (v:U) (l:ao) (K:U->ao->Prop) :ej (.zq x) v l K=K v l:=id rfl
@[simp ↓] theorem aqh (x:Operand) (v:U) (l:ao) (K:U->ao->Prop) :ej (.td x) v l K=K v l:=id rfl
@[simp ↓] theorem aqm (x:Operand) (v:U) (l:ao) (K:U->ao->Prop) :ej (.zp x) v l K=K v l:=id rfl
@[simp ↓] theorem aqE (t:TypeId) (x:Operand) (v:U) (l:ao) (K:U->ao->Prop) :ej (.yq t x) v l K=K v l:=id rfl
@[simp ↓] theorem aqP (t:TypeId) (z:U) (ok:Bool) (x:Operand) (v:U) (l:ao) (K:U->ao->Prop) :ej (.Ba t z ok x) v l K=K v l:=id rfl
@[simp ↓] theorem aqD (f:FuncId) (a b:List Operand) (v:U) (l:ao) (K:U->ao->Prop) :ej (.yp f a b) v l K=K v l:=id rfl
@[simp ↓] theorem aqG (z b:Nat) (zero:List U) (x y:Operand) (v:U) (l:ao) (K:U->ao->Prop) :ej (.rm z b zero x y) v l K=K v l:=id rfl
@[simp ↓] theorem aqN (df:j1) (x:Operand) (cG az cH:Option Operand) (v:U) (l:ao) (K:U->ao->Prop) :ej (.slice df x cG az cH) v l K=K v l:=id rfl
@[simp ↓] theorem aqp (n:Nat) (x:Operand) (v:U) (l:ao) (K:U->ao->Prop) :ej (.pB n x) v l K=K v l:=id rfl
@[simp ↓] theorem aqq (n:Nat) (x:Operand) (v:U) (l:ao) (K:U->ao->Prop) :ej (.B8 n x) v l K=K v l:=id rfl
@[simp ↓] theorem aqr (n m:Nat) (x:Operand) (v:U) (l:ao) (K:U->ao->Prop) :ej (.B9 n m x) v l K=K v l:=id rfl
@[simp ↓] theorem aqs (df:j1) (x y:Operand) (v:U) (l:ao) (K:U->ao->Prop) :ej (.vR df x y) v l K=K v l:=id rfl
@[simp ↓] theorem aqt (n z:Nat) (x y:Operand) (v:U) (l:ao) (K:U->ao->Prop) :ej (.DC n z x y) v l K=K v l:=id rfl
@[simp ↓] theorem aqu (n z:Nat) (x y:Operand) (v:U) (l:ao) (K:U->ao->Prop) :ej (.DD n z x y) v l K=K v l:=id rfl
@[simp ↓] theorem aqv (x y:Operand) (v:U) (l:ao) (K:U->ao->Prop) :ej (.DH x y) v l K=K v l:=id rfl
@[simp ↓] theorem aqo (x:Operand) (n:Nat) (v:U) (l:ao) (K:U->ao->Prop) :ej (.ext x n) v l K=K v l:=id rfl
@[simp ↓] theorem aqy (df:j1) (x:Operand) (v:U) (l:ao) (K:U->ao->Prop) :ej (.len df x) v l K=K v l:=id rfl
@[simp ↓] theorem aqg (df:j1) (x:Operand) (v:U) (l:ao) (K:U->ao->Prop) :ej (.cap df x) v l K=K v l:=id rfl
@[simp ↓] theorem aqb (z b:Nat) (zero:List U) (x y:Operand) (v:U) (l:ao) (K:U->ao->Prop) :ej (.uU z b zero x y) v l K=K v l:=id rfl
@[simp ↓] theorem aql (z:Nat) (x y:Operand) (v:U) (l:ao) (K:U->ao->Prop) :ej (.vj z x y) v l K=K v l:=id rfl
@[simp ↓] theorem aqj (zero:List U) (x:Operand) (v:U) (l:ao) (K:U->ao->Prop) :ej (.vb zero x) v l K=K v l:=id rfl
@[simp ↓] theorem aqC (x y:Operand) (v:U) (l:ao) (K:U->ao->Prop) :ej (.min x y) v l K=K v l:=id rfl
@[simp ↓] theorem aqB (x y:Operand) (v:U) (l:ao) (K:U->ao->Prop) :ej (.max x y) v l K=K v l:=id rfl
@[simp ↓] theorem aqa (z b:Nat) (x y:Operand) (v:U) (l:ao) (K:U->ao->Prop) :ej (.app z b x y) v l K=c8 v l (c:=⟨K⟩) :=id rfl
theorem c8.cb {v:U} {l:ao} {K:U->ao->Prop} (h:K v l) :c8 v l (c:=⟨K⟩) :=.inl h
@[simp] theorem apJ (a:Operand) :(c2.nx a).je=false:=id rfl
@[simp] theorem apK (n:Nat) (a:Operand) :(c2.lU n a).je=false:=id rfl
@[simp] theorem apG (k:IntKind) (a:Operand) :(c2.ze k a).je=false:=id rfl
@[simp] theorem apI (a:Operand) :(c2.zq a).je=false:=id rfl
@[simp] theorem apF (a:Operand) :(c2.td a).je=false:=id rfl
@[simp] theorem apH (a:Operand) :(c2.zp a).je=false:=id rfl
@[simp] theorem apC (z:List U) :(c2.alloc z).je=true:=id rfl
@[simp] theorem apD (a:Operand) :(c2.box a).je=true:=id rfl
@[simp] theorem apE (z:Nat) (zero:List U) (n:Nat) (ps:List (Nat × Operand)) :(c2.qD z zero n ps).je=true:=id rfl
@[simp] theorem apL (z b:Nat) (zero:List U) (x y:Operand) :(c2.rm z b zero x y).je=true:=id rfl
@[simp] theorem arW (l l' : ao) (x:Option U) (v:U) :(dz l x=some (v,l'))=(x=some v/\l'=l) :=propext gH
@[simp ↓] theorem amY {α:Type} (x:α) (k:α->Prop) :W (some x) (c:=⟨k⟩)=k x:=id rfl
@[simp ↓] theorem amX (l:ao) (o:Option U) (k:U × ao->Prop) :W (dz l o) (c:=⟨k⟩)=W o (c:=⟨fun v=>k (v,l)⟩) :=by unfold W dz; cases o<;>rfl
@[simp ↓] theorem amW {α j0:Type} (o:Option α) (f:α->j0) (k:j0->Prop) :W (o.map f) (c:=⟨k⟩)=W o (c:=⟨fun v=>k (f v)⟩) :=by unfold W; cases o<;>rfl
@[simp ↓] theorem amV {α:Type} (p:Prop) [Decidable p] (x:α) (k:α->Prop) :W (if p then some x else none) (c:=⟨k⟩)=(p/\k x) :=by unfold W; by_cases h:p<;>simp[h]
@[simp ↓] theorem apS (b:Bool) (p q:Prop) :yg (.bool b) (c:=⟨p,q⟩)=ri b (c:=⟨p,q⟩) :=id rfl
@[simp ↓] theorem ap3 (p q:Prop) :ri true (c:=⟨p,q⟩)=p:=id rfl
@[simp ↓] theorem ap2 (p q:Prop) :ri false (c:=⟨p,q⟩)=q:=id rfl
@[simp ↓] theorem apZ (b:Bool) (p q:Prop) :rh (.bool b) true (c:=⟨p,q⟩)=ri b (c:=⟨p,q⟩) :=by cases b<;>rfl
@[simp ↓] theorem apY (b:Bool) (p q:Prop) :rh (.bool b) false (c:=⟨p,q⟩)=ri b (c:=⟨q,p⟩) :=by cases b<;>rfl
@[simp ↓] theorem ap0 (w:Bool) (p q:Prop) :rh gy w (c:=⟨p,q⟩)=q:=id rfl
@[simp ↓] theorem ap1 (w:Bool) (p q:Prop) :rh (.bv []) w (c:=⟨p,q⟩)=q:=id rfl
theorem oX {b:Bool} {p q:Prop} (ad:b=true->p) (ae:b=false->q) :ri b (c:=⟨p,q⟩) :=by cases b; exact ae rfl; exact ad rfl
@[simp ↓] theorem arY (σ:a8) (d:Tmp) (v:U) :hG σ (some d) v=bw σ d v:=id rfl
@[simp ↓] theorem arX (σ:a8) (v:U) :hG σ none v=σ:=id rfl
@[simp] theorem aoA {α:Type} (s:Nat->α) (d:Nat) (v:α) (t:Nat) :bw s d v t=if t=d then v else s t:=id rfl
@[simp] theorem amZ (args:List U) (t:Nat) :lv args t=args.getD t gy:=id rfl
@[simp] theorem aoq (σ:a8) (t:Tmp) :cS G σ (.tmp t)=σ t:=id rfl
@[simp] theorem aoh (σ:a8) (f:FuncId) :cS G σ (.func f)=.fn f [] [] :=id rfl
@[simp] theorem aoi (σ:a8) (g:Nat) :cS G σ (.global g)=G g:=id rfl
@[simp] theorem aoj (σ:a8) (k:IntKind) (n:Int) :cS G σ (.const (.int k n))=.int k n:=id rfl
@[simp] theorem aog (σ:a8) (b:Bool) :cS G σ (.const (.bool b))=.bool b:=id rfl
@[simp] theorem aop (σ:a8) (s:ByteArray) :cS G σ (.const (.string s))=.str s.data.toList:=id rfl
@[simp] theorem aoo (σ:a8) :cS G σ (.const (.slice none 0 0))=.aH:=id rfl
@[simp] theorem aon (σ:a8) :cS G σ (.const (.pointer none))=.kk:=id rfl
@[simp] theorem aom (σ:a8) :cS G σ (.const (.map none))=.iI:=id rfl
@[simp] theorem aok (σ:a8) :cS G σ (.const .nilFunc)=.ki:=id rfl
@[simp] theorem aol (σ:a8) :cS G σ (.const .nilIface)=.kj:=id rfl
@[simp] theorem aor (σ:a8) :cS G σ (.const (.tuple #[]))=.bv [] :=id rfl
variable (aA:Operand->U) (l:ao)
@[simp ↓] theorem arC (x:Operand) :bN P aA l (.fL x)=some (aA x,l) :=id rfl
@[simp ↓] theorem arF (c a b:Operand) :bN P aA l (.pick c a b)=dz l (Ed (aA c) (aA a) (aA b)) :=id rfl
@[simp ↓] theorem aq0 (z:List U) :bN P aA l (.alloc z)=some (.ptr l.length 0 z.length,l++[.cells z.length z]) :=id rfl
@[simp ↓] theorem aq5 (x:Operand) :bN P aA l (.box x)=(aA x).cells.map fun cs=>(.ptr l.length 0 cs.length,l++[.cells cs.length cs]) :=id rfl
@[simp ↓] theorem aq4 (zero:List U) (ps:List (Nat × Nat × Operand)) :bN P aA l (.BF zero ps)=dz l ((pt zero (ps.map fun p=>(p.1,p.2.1,aA p.2.2))).map .aG) :=id rfl
@[simp ↓] theorem aq6 (z:Nat) (zero:List U) (len:Nat) (ps:List (Nat × Operand)) :bN P aA l (.qD z zero len ps)=(hQ (fun i=>some (i*z,z)) (dx zero len) (ps.map fun p=>(p.1,aA p.2))).map fun cs=>(.aq z l.length 0 len len (len*z),l++[.cells (len*z) cs]) :=id rfl
@[simp ↓] theorem arp (a:Operand) :bN P aA l (.nx a)=dz l ((g4 l (aA a)).bind fun x=>x.1[x.2]?) :=id rfl
@[simp ↓] theorem arq (n:Nat) (a:Operand) :bN P aA l (.lU n a)=dz l ((g4 l (aA a)).bind fun x=>sH n x.1 x.2) :=id rfl
@[simp ↓] theorem arI (n:Nat) (a x:Operand) :bN P aA l (.st n a x)=(lX n l (aA a) (aA x)).map fun l'=>(gy,l') :=id rfl
@[simp ↓] theorem arD (x:Operand) :bN P aA l (.D0 x)=dz l (ys (aA x)) :=id rfl
@[simp ↓] theorem aq3 (o:BinOp) (t:TypeId) (x y:Operand) :bN P aA l (.bin o t x y)=dz l (gD P o t (aA x) (aA y)) :=id rfl
@[simp ↓] theorem arK (o:UnOp) (x:Operand) :bN P aA l (.un o x)=dz l (qk o (aA x)) :=id rfl
@[simp ↓] theorem aq9 (k:IntKind) (x:Operand) :bN P aA l (.ze k x)=dz l (zf k (aA x)) :=id rfl
@[simp ↓] theorem arf (x:Operand) :bN P aA l (.zq x)=dz l (Fw (aA x)) :=id rfl
@[simp ↓] theorem aq8 (x:Operand) :bN P aA l (.td x)=dz l (u5 l (aA x)) :=id rfl
@[simp ↓] theorem ard (x:Operand) :bN P aA l (.zp x)=dz l (vk (aA x)) :=id rfl
@[simp ↓] theorem ary (t:TypeId) (x:Operand) :bN P aA l (.yq t x)=some (.hq t (aA x),l) :=id rfl
@[simp ↓] theorem arJ (t:TypeId) (z:U) (ok:Bool) (x:Operand) :bN P aA l (.Ba t z ok x)=dz l (Bb t z ok (aA x)) :=id rfl
@[simp ↓] theorem arx (f:FuncId) (a b:List Operand) :bN P aA l (.yp f a b)=some (.fn f (a.map aA) (b.map aA),l) :=id rfl
@[simp ↓] theorem arA (z by_:Nat) (zero:List U) (a c:Operand) :bN P aA l (.rm z by_ zero a c)=rn z by_ zero l (aA a) (aA c) :=id rfl
@[simp ↓] theorem arH (df:j1) (x:Operand) (cG az cH:Option Operand) :bN P aA l (.slice df x cG az cH)=dz l (fF df (aA x) (cG.map aA) (az.map aA) (cH.map aA)) :=id rfl
@[simp ↓] theorem ari (off:Nat) (x:Operand) :bN P aA l (.pB off x)=dz l (m7 (aA x) off) :=id rfl
@[simp ↓] theorem arj (off:Nat) (x:Operand) :bN P aA l (.B8 off x)=dz l (Ca off (aA x)) :=id rfl
@[simp ↓] theorem ark (n off:Nat) (x:Operand) :bN P aA l (.B9 n off x)=dz l (zC n off (aA x)) :=id rfl
@[simp ↓] theorem arl (df:j1) (x i:Operand) :bN P aA l (.vR df x i)=dz l (cN df (aA x) (aA i)) :=id rfl
@[simp ↓] theorem arm (n z:Nat) (x i:Operand) :bN P aA l (.DC n z x i)=dz l (DE n z (aA x) (aA i)) :=id rfl
@[simp ↓] theorem arn (n z:Nat) (x i:Operand) :bN P aA l (.DD n z x i)=dz l (DF n z (aA x) (aA i)) :=id rfl
@[simp ↓] theorem aro (x i:Operand) :bN P aA l (.DH x i)=dz l (yd (aA x) (aA i)) :=id rfl
@[simp ↓] theorem arh (x:Operand) (i:Nat) :bN P aA l (.ext x i)=dz l (B6 (aA x) i) :=id rfl
@[simp ↓] theorem ars (df:j1) (x:Operand) :bN P aA l (.len df x)=dz l (cv df (aA x)) :=id rfl
@[simp ↓] theorem aq7 (df:j1) (x:Operand) :bN P aA l (.cap df x)=dz l (tc df (aA x)) :=id rfl
@[simp ↓] theorem aq1 (z by_:Nat) (s x:Operand) :bN P aA l (.app z by_ s x)=gT l z by_ (aA s) (aA x) :=id rfl
@[simp ↓] theorem aq2 (z by_:Nat) (zero:List U) (s x:Operand) :bN P aA l (.uU z by_ zero s x)=qB l z by_ zero (aA s) (aA x) :=id rfl
@[simp ↓] theorem arc (z:Nat) (d x:Operand) :bN P aA l (.vj z d x)=zo z l (aA d) (aA x) :=id rfl
@[simp ↓] theorem ara (zero:List U) (x:Operand) :bN P aA l (.vb zero x)=(va zero l (aA x)).map fun l'=>(.bv [],l') :=id rfl
@[simp ↓] theorem arw (x y:Operand) :bN P aA l (.min x y)=dz l (sA (aA x) (aA y)) :=id rfl
@[simp ↓] theorem arv (x y:Operand) :bN P aA l (.max x y)=dz l (ug (aA x) (aA y)) :=id rfl
@[simp] theorem arU (t:Bool) (a b:U) :Ed (.bool t) a b=some (if t=true then a else b) :=id rfl
@[simp] theorem anJ (cs:List U) :(U.aG cs).cells=some cs:=id rfl
@[simp] theorem anN (k:IntKind) (n:Int) :(U.int k n).cells=some [.int k n] :=id rfl
@[simp] theorem anK (b:Bool) :(U.bool b).cells=some [.bool b] :=id rfl
@[simp] theorem anW (s:List UInt8) :(U.str s).cells=some [.str s] :=id rfl
@[simp] theorem anS:U.aH.cells=some [.aH] :=id rfl
@[simp] theorem anR:U.kk.cells=some [.kk] :=id rfl
@[simp] theorem anP:U.ki.cells=some [.ki] :=id rfl
@[simp] theorem anQ:U.iI.cells=some [.iI] :=id rfl
@[simp] theorem anU (z:Nat) (es:List (List U)) :(U.aX z es).cells=some [.aX z es] :=id rfl
@[simp] theorem anV (z b o n c s:Nat) :(U.aq z b o n c s).cells=some [.aq z b o n c s] :=id rfl
@[simp] theorem anT (b o s:Nat) :(U.ptr b o s).cells=some [.ptr b o s] :=id rfl
@[simp] theorem anM (f:FuncId) (a b:List U) :(U.fn f a b).cells=some [.fn f a b] :=id rfl
@[simp] theorem anO (b:Nat) :(U.mp b).cells=some [.mp b] :=id rfl
@[simp] theorem anH (b off sz k:Nat) :m7 (.ptr b off sz) k=some (.ptr b (off+k) sz) :=id rfl
@[simp] theorem anI (cs:List U) (off k:Nat) :m7 (.bK cs off) k=some (.bK cs (off+k)) :=id rfl
@[simp] theorem arO (b o s:Nat) :ys (.ptr b o s)=some (.ptr b o s) :=id rfl
@[simp] theorem arP (cs:List U) (o:Nat) :ys (.bK cs o)=some (.bK cs o) :=id rfl
@[simp] theorem arN (f:FuncId) (a b:List U) :ys (.fn f a b)=some (.fn f a b) :=id rfl
def M6 (x:Option aY) (off sz:Nat) :Option (List U × Nat) :=match x with
 | some (.cells n cs)=>if n=sz then some (cs,off) else none
 | _=>none
@[simp] theorem ar0 (b off sz:Nat) :g4 l (.ptr b off sz)=M6 l[b]? off sz:=by
 unfold g4 M6; rfl
@[simp] theorem arZ (n:Nat) (cs:List U) (off sz:Nat) :M6 (some (.cells n cs)) off sz=if n=sz then some (cs,off) else none:=id rfl
@[simp] theorem ar1 (cs:List U) (off:Nat) :g4 l (.bK cs off)=some (cs,off) :=id rfl
def NI (n:Nat) (l:ao) (b off sz:Nat) (vs:List U) (x:Option aY) :Option ao:=match x with
 | some (.cells m cs)=>if m=sz/\vs.length=n/\off+n<=m then some (l.set b (.cells m (bg cs off vs))) else none
 | _=>none
@[simp] theorem asA (n b off sz:Nat) (v:U) :lX n l (.ptr b off sz) v=v.cells.bind fun vs=>NI n l b off sz vs l[b]?:=by
 unfold lX NI;cases v.cells<;>rfl
@[simp] theorem asz (n b off sz:Nat) (vs:List U) (m:Nat) (cs:List U) :NI n l b off sz vs (some (.cells m cs))=if m=sz/\vs.length=n/\off+n<=m then some (l.set b (.cells m (bg cs off vs))) else none:=id rfl
@[simp] theorem arT (n:Nat) (cs:List U) (off:Nat) :sH n cs off=if off+n<=cs.length then some (.aG ((cs.drop off).take n)) else none:=id rfl
@[simp] theorem asx (a:U) (cs vs:List U) (off:Nat) :bg (a::cs) (off+1) vs=a::bg cs off vs:=by
 simp only[bg,List.take_succ_cons,atV,show off+1+vs.length=(off+vs.length)+1 by omega,List.drop_succ_cons]
@[simp] theorem akV (a v:U) (cs vs:List U) :bg (a::cs) 0 (v::vs)=v::bg cs 0 vs:=by simp[bg]
@[simp] theorem akX (cs:List U) :bg cs 0 []=cs:=by simp[bg]
@[simp] theorem asw (vs:List U) :bg [] 0 vs=vs:=by simp[bg]
@[simp] theorem anh (zero:List U) :pt zero []=some zero:=id rfl
theorem ZR (zero:List U) (off size:Nat) (v:U) (r:List (Nat × Nat × U)) :pt zero ((off,size,v) ::r)=v.cells.bind fun vs=>if vs.length=size/\off+size<=zero.length then pt (bg zero off vs) r else none:=by
 rw[pt]; cases v.cells<;>rfl
attribute [simp] ZR
@[simp] theorem aou (lh:Nat->Option (Nat × Nat)) (zero:List U) :hQ lh zero []=some zero:=id rfl
@[simp] theorem aot (lh:Nat->Option (Nat × Nat)) (zero:List U) (i:Nat) (v:U) (r:List (Nat × U)) :hQ lh zero ((i,v) ::r)=(lh i).bind fun q=>v.cells.bind fun vs=>if vs.length=q.2/\q.1+q.2<=zero.length then hQ lh (bg zero q.1 vs) r else none:=by
 rw[hQ];cases lh i with
 | none=>rfl
 | some q=>cases v.cells<;>rfl
@[simp] theorem ar3 (zero:List U) :dx zero 0=[] :=id rfl
@[simp] theorem ar4 (zero:List U) (n:Nat) :dx zero (n+1)=zero++dx zero n:=id rfl
@[simp] theorem am9 (o:BinOp) (t:TypeId) (k:IntKind) (a:Int) (k' : IntKind) (b:Int) :gD P o t (.int k a) (.int k' b)=cm o k a k' b:=id rfl
@[simp] theorem anf (o:BinOp) (t:TypeId) (a b:List UInt8) :gD P o t (.str a) (.str b)=uY o a b:=id rfl
@[simp] theorem anb (k:IntKind) (a b:Int) :cm .lss k a k b=some (.bool (decide (a<b))) :=by simp[cm]
@[simp] theorem ana (k:IntKind) (a b:Int) :cm .leq k a k b=some (.bool (decide (a<=b))) :=by simp[cm]
@[simp] theorem am8 (k:IntKind) (a b:Int) :cm .gtr k a k b=some (.bool (decide (b<a))) :=by simp[cm]
@[simp] theorem am7 (k:IntKind) (a b:Int) :cm .geq k a k b=some (.bool (decide (b<=a))) :=by simp[cm]
@[simp] theorem am6 (k:IntKind) (a b:Int) :cm .eql k a k b=some (.bool (decide (a=b))) :=by
 have:(a == b)=decide (a=b) :=by by_cases h:a=b<;>simp[h]
 simp[cm,this]
@[simp] theorem ane (k:IntKind) (a b:Int) :cm .neq k a k b=some (.bool (!decide (a=b))) :=by
 have:(a != b)=!decide (a=b) :=by by_cases h:a=b<;>simp[h]
 simp[cm,this]
@[simp] theorem am5 (k:IntKind) (a b:Int) :cm .add k a k b=some (.int k (k.wrap (a+b))) :=by simp[cm]
@[simp] theorem ang (k:IntKind) (a b:Int) :cm .sub k a k b=some (.int k (k.wrap (a - b))) :=by simp[cm]
@[simp] theorem anc (k:IntKind) (a b:Int) :cm .mul k a k b=some (.int k (k.wrap (a*b))) :=by simp[cm]
@[simp] theorem asO (b:Bool) :qk .not (.bool b)=some (.bool (!b)) :=id rfl
@[simp] theorem asN (k:IntKind) (n:Int) :qk .neg (.int k n)=some (.int k (k.wrap (0 - n))) :=id rfl
@[simp] theorem anZ (k k' : IntKind) (n:Int) :zf k (.int k' n)=some (.int k (k.wrap n)) :=id rfl
@[simp] theorem apy (z du:Nat) (es:List (List U)) (k:IntKind) (i:Int) :cN (.aq z) (.aX du es) (.int k i)=if z=du/\0<=i then (es[i.toNat]?).map fun cs=>.bK cs 0 else none:=id rfl
@[simp] theorem apz (z du b off len cap sz:Nat) (k:IntKind) (i:Int) :cN (.aq z) (.aq du b off len cap sz) (.int k i)=if z=du/\0<=i/\i<len then some (.ptr b (off+i.toNat*z) sz) else none:=id rfl
@[simp] theorem apx (n z:Nat) (x:U) (k:IntKind) (i:Int) :cN (.arr n z) x (.int k i)=if 0<=i/\i<n then m7 x (i.toNat*z) else none:=id rfl
@[simp] theorem aqV (z:Nat) :cv (.aq z) .aH=some (.int .i64 0) :=id rfl
@[simp] theorem aqX (z du b o n c s:Nat) :cv (.aq z) (.aq du b o n c s)=some (.int .i64 n) :=id rfl
@[simp] theorem aqW (z du:Nat) (es:List (List U)) :cv (.aq z) (.aX du es)=some (.int .i64 es.length) :=id rfl
@[simp] theorem aqY (s:List UInt8) :cv .str (.str s)=some (.int .i64 s.length) :=id rfl
@[simp] theorem aqU (n z:Nat) (x:U) :cv (.arr n z) x=some (.int .i64 n) :=id rfl
@[simp] theorem aos (vs:List U) (i:Nat) :B6 (.bv vs) i=vs[i]?:=id rfl
@[simp] theorem aov (cs:List U) (off:Nat) :Ca off (.aG cs)=cs[off]?:=id rfl
@[simp] theorem aow (n off:Nat) (cs:List U) :zC n off (.aG cs)=sH n cs off:=id rfl
end

section
variable {P:Program} {G:Nat->U}
inductive jo (l:ao) :U->U->Prop
 | same (c:U) (h:c.closed=true) :jo l c c
 | aG (cs cs' : List U) (al:cs'.length=cs.length) (h:∀ (j:Nat) (c c' : U),cs[j]? = some c->cs'[j]? = some c'->jo l c c') :jo l (.aG cs) (.aG cs')
 | bv (cs cs' : List U) (al:cs'.length=cs.length) (h:∀ (j:Nat) (c c' : U),cs[j]? = some c->cs'[j]? = some c'->jo l c c') :jo l (.bv cs) (.bv cs')
 | aq (z b off len cap sz:Nat) (cs:List U) (es:List (List U)) (af:l[b]? = some (.cells sz cs)) (al:es.length=len) (ax:∀ e∈es,e.length=z)
   (cZ:off+len*z<=cs.length)
   (h:∀ (i j:Nat) (e:List U) (c c' : U),es[i]? = some e->e[j]? = some c'->cs[off+(i*z+j)]? = some c->jo l c c') :jo l (.aq z b off len cap sz) (.aX z es)
 | rE (z b off cap sz:Nat) :jo l (.aq z b off 0 cap sz) (.aX z [])
theorem ajU {w:World} {R:Nat->Prop} {B:Nat} {l:ao} {μ:cg} (rel:bI R B w (a7 l) μ) :∀ {c c' : U},jo l c c'->∀ {v:Value},aN w R (a7 l) μ c v->dV w R c' v:=by
 intro c c' ay
 induction ay with
 | same c h=>
  intro v ap;exact (dV.up (rZ ap h) fun k _ ar=>⟨ar.1,fun ⟨b,m,ad,ae,aj⟩=>by cases ae⟩:aN w R aM.empty (fun _=>none) _ v)
 | aG cs cs' al h aS=>
  intro v ap;cases ap with
  | aG _ vs hD ad ap=>
   refine .aG cs' vs (by omega) ad (fun j c' v ai fQ=>?_);have aK:j<cs.length:=by rw[<-al]; exact (as0.1 ai).1
   exact aS j cs[j] c' (as4 aK) ai (ap j cs[j] v (as4 aK) fQ)
 | bv cs cs' al h aS=>
  intro v ap;cases ap with
  | bv _ vs hD ap=>
   refine .bv cs' vs (by omega) (fun j c' v ai fQ=>?_);have aK:j<cs.length:=by rw[<-al]; exact (as0.1 ai).1
   exact aS j cs[j] c' (as4 aK) ai (ap j cs[j] v (as4 aK) fQ)
 | rE z b off cap sz=>
  intro v ap;cases ap with
  | aq _ _ _ _ _ _ cap' cs m af hm al au ah=>exact .fZ z _ cap'
  | ht _ _ _ _ _ _ cap' a al ah aw=>exact .fZ z _ cap'
  | iN _ _ _ _ a cs m af hm=>exact .fZ z a 0
 | aq z b off len cap sz cs es af al ax cZ h aS=>
  intro v ap;have qQ:(a7 l).f b=.cells sz cs:=lq.2 af;cases ap with
  | iN _ _ _ _ a hA m dX kB=>
   obtain rfl:=atI.1 al;exact .fZ z a 0
  | ht _ _ _ _ _ _ cap' a al ah aw=>
   exfalso;rcases aw with aw | ⟨n,hA,aw,aK⟩
   ·rw[qQ] at aw; cases aw
   ·rw[qQ] at aw; cases aw; omega
  | aq _ _ _ _ _ _ cap' hA m dX hm iX au ah=>
   rw[qQ] at dX; cases dX;have iA:=rel.blk b m hm;rw[qQ] at iA;obtain⟨cY,eM,arr,t,eU,aW,aB,aE,mE⟩:=iA;have di:len<=cap':=by rcases ah with ⟨_,h⟩ | ⟨_,h,_⟩<;>omega
   have jI:R m.r:=rel.up _ (rel.base b m (by rw[qQ]; rfl) hm);subst al;have oS:∀ i j,i<es.length->j<z->∃ c v,cs[off+(i*z+j)]? = some c/\arr[m.s+(off+(i*z+j))]? = some v/\v.oneCell'=true/\aN w R (a7 l) μ c v:=by
    intro i j az ai;have aK:off+(i*z+j)<cs.length:=by
     have:i*z+z<=es.length*z:=by rw[<-atL]; exact as6 _ az
     omega
    obtain⟨v,ad,ae,aj⟩:=mE _ _ (as4 aK);exact⟨_,v,as4 aK,ad,ae,aj⟩
   refine .aX z es m.r (m.s+off) cap' (fun i j=>(arr[m.s+(off+(i*z+j))]?).getD undef) di ax (fun i j az ai=>?_) (fun i e am j c' ai=>?_)
   ·obtain⟨c,v,ad,ae,aj,aF⟩:=oS i j az ai;refine⟨?_,?_,jI,fun ⟨b,m,ad,ae,aj⟩=>by cases ae⟩
    ·simp only[World.cell?,aW,ae,atM,avd];rw[show m.s+off+(i*z+j)=m.s+(off+(i*z+j)) by omega,ae]; rfl
    ·rw[ae]; exact aj
   ·have az:i<es.length:=(as0.1 am).1;have mH:j<z:=by rw[<-ax e (ata am)]; exact (as0.1 ai).1
    obtain⟨c,v,ad,ae,aj,aF⟩:=oS i j az mH;simp only[ae,atM];exact aS i j e c c' am ai ad aF
theorem bW (fz:P.follows .mixedOrders=true) (h4:∀ g,(G g).closed=true) {f:FuncId} {args:List U} {r:U} (h:dh P G f args [] (c:=⟨fun qa l=>jo l qa r⟩)) :bA P G f args r:=by
 obtain⟨qa,l',ad,ae,aj⟩:=h;intro w A vs aw al ap;refine (NU (A:=A) fz h4 ad aw al ap).mono ?_;rintro e w' ⟨v,μ',rfl,af,rel,ay⟩;exact⟨v,rfl,af,ajU rel aj ay⟩
theorem a4 {f:FuncId} {args:List U} {r:U} {l:ao} {K:U->ao->Prop} (av:bA P G f args r) (ah:a5 args=true) (h:K r l) :dh P G f args l (c:=⟨K⟩) :=
 ⟨r,l,.pure av ah,as3 _,h⟩
theorem ag9 (fz:P.follows .mixedOrders=true) (h4:∀ g,(G g).closed=true) {f:FuncId} {args:List U} (h:dh P G f args [] (c:=⟨fun r _=>r=.bool true⟩))
  {w:World} {A:Nat->Prop} {vs:Array Value} (aw:∀ g,dV w A (G g) (.pointer (some ⟨g,0,none⟩))) (al:vs.size=args.length)
  (ap:∀ (j:Nat) (c:U) (v:Value),args[j]? = some c->vs[j]? = some v->dV w A c v) :
  Calls P f vs w fun e w'=>e=.returned (.bool true)/\RowKit.Below w.heap.size w w':=by
 obtain⟨qa,l',ad,ae,rfl⟩:=h;exact alo fz h4 ad aw al ap
end

section
variable {P:Program}
inductive dB (P:Program) :List TypeId->List U->Prop
 | nil:dB P [] []
 | bool {t:TypeId} {b:Bool} {ts:List TypeId} {cs:List U} (aL:P.underlying t=some .bool) (h:dB P ts cs) :dB P (t::ts) (.bool b::cs)
 | int {t:TypeId} {k:IntKind} {n:Int} {ts:List TypeId} {cs:List U} (aL:P.underlying t=some (.int k)) (ad:k.min<=n) (ae:n<=k.max) (h:dB P ts cs) :dB P (t::ts) (.int k n::cs)
 | str {t:TypeId} {s:List UInt8} {ts:List TypeId} {cs:List U} (aL:P.underlying t=some .string) (ak:s.length<=maxLen) (h:dB P ts cs) :dB P (t::ts) (.str s::cs)
 | aH {t e:TypeId} {ts:List TypeId} {cs:List U} (aL:P.underlying t=some (.slice e)) (h:dB P ts cs) :dB P (t::ts) (.aH::cs)
 | aq {t e:TypeId} {es:List (List U)} {ts:List TypeId} {cs:List U} (aL:P.underlying t=some (.slice e)) (al:es.length<=maxLen) (ax:∀ r∈es,r.length=P.cellsOf e) (am:∀ r∈es,dB P [e] r) (h:dB P ts cs) :dB P (t::ts) (.aX (P.cellsOf e) es::cs)
 | struct {t:TypeId} {fs:Array Field} {ts:List TypeId} {cs:List U} (aL:P.underlying t=some (.struct fs)) (h:dB P (fs.toList.map (·.type)++ts) cs) :dB P (t::ts) cs
 | array {t e:TypeId} {n:Nat} {ts:List TypeId} {cs:List U} (aL:P.underlying t=some (.array n e)) (h:dB P (List.replicate n e++ts) cs) :dB P (t::ts) cs
def vg (P:Program) :List Field->Nat->Option Nat
 | [],o=>some o
 | f::r,o=>if f.offset=o then vg P r (o+P.cellsOf f.type) else none
def uo (P:Program) :Nat->TypeId->Bool
 | 0,_=>false
 | d+1,t=>match P.underlying t with
  | some .bool | some (.int _) | some .string=>true
  | some (.slice e)=>decide (0<P.cellsOf e)&&uo P d e
  | some (.struct fs)=>decide (vg P fs.toList 0=some (P.cellsOf t))&&fs.toList.all fun f=>uo P d f.type
  | some (.array n e)=>decide (n*P.cellsOf e=P.cellsOf t)&&uo P d e
  | _=>false
structure pp (P:Program) (w:World) (A:Nat->Prop) (ts:List TypeId) (vs:List Value) (cs:List U) :Prop where
 len:cs.length=vs.length
 ty:∀ qj cs',dB P qj cs'->dB P (ts++qj) (cs++cs')
 pe:∀ (j:Nat) (c:U) (v:Value),cs[j]? = some c->vs[j]? = some v->dV w A c v/\v.oneCell'=true
theorem pp.nil {w:World} {A:Nat->Prop}:pp P w A [] [] [] :=⟨rfl,fun _ _ h=>h,fun j c v h=>by simp at h⟩
theorem pp.app {w:World} {A:Nat->Prop} {ts qj:List TypeId} {vs Ip:List Value} {cs cs' : List U} (a:pp P w A ts vs cs) (b:pp P w A qj Ip cs') :pp P w A (ts++qj) (vs++Ip) (cs++cs') :=by
 refine⟨by simp[a.len,b.len],fun asD aod h=>by rw[atK,atK]; exact a.ty _ _ (b.ty _ _ h),fun j c v ah ap=>?_⟩;by_cases h:j<cs.length
 ·rw[as2 h] at ah;rw[as2 (by rw[<-a.len]; exact h)] at ap;exact a.pe j c v ah ap
 ·rw[atl (by omega)] at ah;rw[atl (by rw[<-a.len]; omega)] at ap;rw[<-a.len] at ap;exact b.pe _ c v ah ap
theorem Hy {α j0:Type} {f:α->Option j0}:∀ {l:List α} {r:List j0},l.mapM f=some r->∀ (p:Nat) (a:α),l[p]? = some a->∃ x,r[p]? = some x/\f a=some x
 | [],r,h,p,a,aB=>by simp at aB
 | a0::l,r,h,p,a,aB=>by
  rw[auu] at h;simp only[Option.bind_eq_bind,bind_some,auD,Option.some.injEq] at h;obtain⟨b,ad,cx,ae,rfl⟩:=h;cases p with
  | zero=>simp only[ats,Option.some.injEq] at aB; subst aB; exact⟨b,rfl,ad⟩
  | succ p=>obtain⟨x,aj,aF⟩:=Hy ae p a (by simpa using aB); exact⟨x,by simpa using aj,aF⟩
theorem D6 {w:World} {A:Nat->Prop} {c:U} {v:Value} (h:dV w A c v) (ad:v.oneCell'=true) :∀ (j:Nat) (c' : U) (a3:Value),[c][j]? = some c'->[v][j]? = some a3->dV w A c' a3/\a3.oneCell'=true:=by
 intro j c' a3 ah ap;cases j with
 | zero=>simp only[ats,Option.some.injEq] at ah ap; subst ah ap; exact⟨h,ad⟩
 | succ j=>simp at ah
theorem alq {H:Type} {enc:TypeId × Value->H} {w:World} {base:Nat} {spare:Nat->Bool} {held:Bool} {fuel:Nat} {t:TypeId} {vs:List Value} {x:DataW H × List MemPlace}
  (aL:P.underlying t=some .bool) (h:DataW.trod enc P w base spare held (fuel+1) t vs=some x) :∃ b,vs=[.bool b] :=by
 unfold DataW.trod at h;rw[aL] at h;split at h
 case h_1 b _=>exact⟨b,rfl⟩
 all_goals first | (cases h; done) | (rename_i heq; cases heq; done) | (rename_i heq _; cases heq; done) | (rename_i heq _ _; cases heq; done) | (rename_i heq _ _ _; cases heq; done) | (simp_all; done)
theorem trod_int {H:Type} {enc:TypeId × Value->H} {w:World} {base:Nat} {spare:Nat->Bool} {held:Bool} {fuel:Nat} {t:TypeId} {k:IntKind} {vs:List Value} {x:DataW H × List MemPlace}
  (aL:P.underlying t=some (.int k)) (h:DataW.trod enc P w base spare held (fuel+1) t vs=some x) :∃ n,vs=[.int k n]/\k.min<=n/\n<=k.max:=by
 unfold DataW.trod at h;rw[aL] at h;split at h<;>simp only[reduceCtorEq,Option.some.injEq,TypeDesc.int.injEq] at *<;>try (exfalso; simp_all; done)
 rename_i hf k' n heq;subst heq;split at h
 ·rename_i ah;obtain⟨rfl,aW⟩:=ah;simp only[Lit.wf,as7,decide_eq_true_eq] at aW;exact⟨n,rfl,aW.1,aW.2⟩
 ·cases h
theorem als {H:Type} {enc:TypeId × Value->H} {w:World} {base:Nat} {spare:Nat->Bool} {held:Bool} {fuel:Nat} {t:TypeId} {vs:List Value} {x:DataW H × List MemPlace}
  (aL:P.underlying t=some .string) (h:DataW.trod enc P w base spare held (fuel+1) t vs=some x) :∃ s,vs=[.string s]/\s.size<=maxLen:=by
 unfold DataW.trod at h;rw[aL] at h;split at h<;>simp only[reduceCtorEq,Option.some.injEq] at *<;>try (exfalso; simp_all; done)
 split at h
 ·rename_i s _ ak; exact⟨s,rfl,ak⟩
 ·cases h
theorem alr {H:Type} {enc:TypeId × Value->H} {w:World} {base:Nat} {spare:Nat->Bool} {held:Bool} {fuel:Nat} {t e:TypeId} {vs:List Value} {x:DataW H × List MemPlace}
  (aL:P.underlying t=some (.slice e)) (h:DataW.trod enc P w base spare held (fuel+1) t vs=some x) :
  vs=[.slice none 0 0]\/∃ a len cap,vs=[.slice (some a) len cap]/\len<=cap/\cap<=maxLen/\∃ FA,(List.range len).mapM (fun i=>(w.cells? base (a.add (i*P.cellsOf e)) (P.cellsOf e)).bind (DataW.trod enc P w base spare held fuel e))=some FA:=by
 unfold DataW.trod at h;rw[aL] at h;split at h<;>simp only[reduceCtorEq,Option.some.injEq,TypeDesc.slice.injEq] at *<;>try (exfalso; simp_all; done)
 ·exact .inl trivial
 ·rename_i fm a len cap heq;subst heq;split at h
  ·rename_i ah;rw[bind_some] at h;obtain⟨FA,ad,_⟩:=h;exact .inr ⟨a,len,cap,rfl,ah.2.1,ah.2.2,FA,ad⟩
  ·cases h
theorem alt {H:Type} {enc:TypeId × Value->H} {w:World} {base:Nat} {spare:Nat->Bool} {held:Bool} {fuel:Nat} {t:TypeId} {fs:Array Field} {vs:List Value} {x:DataW H × List MemPlace}
  (aL:P.underlying t=some (.struct fs)) (h:DataW.trod enc P w base spare held (fuel+1) t vs=some x) :
  vs.length=P.cellsOf t/\∃ xs,(fs.toList.mapM fun f=>DataW.trod enc P w base spare held fuel f.type ((vs.drop f.offset).take (P.cellsOf f.type)))=some xs:=by
 unfold DataW.trod at h;rw[aL] at h;split at h<;>simp only[reduceCtorEq,Option.some.injEq,TypeDesc.struct.injEq] at *<;>try (exfalso; simp_all; done)
 rename_i aoz heq;subst heq;split at h
 ·rename_i ah;rw[map_some] at h;obtain⟨xs,ad,_⟩:=h;exact⟨ah,xs,ad⟩
 ·cases h
theorem trod_array {H:Type} {enc:TypeId × Value->H} {w:World} {base:Nat} {spare:Nat->Bool} {held:Bool} {fuel:Nat} {t e:TypeId} {n:Nat} {vs:List Value} {x:DataW H × List MemPlace}
  (aL:P.underlying t=some (.array n e)) (h:DataW.trod enc P w base spare held (fuel+1) t vs=some x) :
  vs.length=P.cellsOf t/\∃ xs,((List.range n).mapM fun i=>DataW.trod enc P w base spare held fuel e ((vs.drop (i*P.cellsOf e)).take (P.cellsOf e)))=some xs:=by
 unfold DataW.trod at h;rw[aL] at h;split at h<;>simp only[reduceCtorEq,Option.some.injEq,TypeDesc.array.injEq] at *<;>try (exfalso; simp_all; done)
 rename_i ahV fm heq;obtain⟨rfl,rfl⟩:=heq;split at h
 ·rename_i ah;rw[map_some] at h;obtain⟨xs,ad,_⟩:=h;exact⟨ah,xs,ad⟩
 ·cases h
theorem Zo (a:Addr) (x j:Nat) :a.add (x+j)=(a.add x).add j:=by
 unfold Addr.add;by_cases ag:x=0
 ·subst ag; simp
 ·by_cases ai:j=0
  ·subst ai; simp
  ·rw[if_neg (by omega),if_neg ag,if_neg ai];simp only[auA]
theorem add_plain (b o n:Nat) :(Addr.mk b o none).add n=⟨b,o+n,none⟩:=by
 unfold Addr.add;by_cases aC:n=0
 ·subst aC; simp
 ·rw[if_neg aC]
theorem X6 {H:Type} {enc:TypeId × Value->H} {w:World} {A:Nat->Prop} (dm:∀ k,A k) {base:Nat} {spare:Nat->Bool} {held:Bool}:∀ (fuel:Nat) (D:Nat) (t:TypeId) (vs:List Value) (d:DataW H) (ps:List MemPlace),
  uo P D t=true->DataW.trod enc P w base spare held fuel t vs=some (d,ps)->∃ cs,pp P w A [t] vs cs
 | 0,_,_,_,_,_,_,h=>by simp[DataW.trod] at h
 | fuel+1,0,t,vs,d,ps,av,h=>by cases av
 | fuel+1,D+1,t,vs,d,ps,av,h=>by
  have aS:=fun t vs d ps av h=>X6 dm (enc:=enc) (w:=w) (base:=base) (spare:=spare) (held:=held) fuel D t vs d ps av h
  unfold uo at av;split at av
  ·rename_i aL;obtain⟨b,rfl⟩:=alq aL h;exact⟨[.bool b],⟨rfl,fun qj cs' h=>.bool aL h,D6 (.bool b) rfl⟩⟩
  ·rename_i k aL;obtain⟨n,rfl,ad,ae⟩:=trod_int aL h;exact⟨[.int k n],⟨rfl,fun qj cs' h=>.int aL ad ae h,D6 (.int k n) rfl⟩⟩
  ·rename_i aL;obtain⟨s,rfl,ad⟩:=als aL h;exact⟨[.str s.data.toList],⟨rfl,fun qj cs' h=>.str aL (show s.data.toList.length<=maxLen from ad) h,D6 (.str s) rfl⟩⟩
  ·rename_i e aL;simp only[as7,decide_eq_true_eq] at av;rcases alr aL h with rfl | ⟨a,len,cap,rfl,pQ,ff,FA,am⟩
   ·exact⟨[.aH],⟨rfl,fun qj cs' h=>.aH aL h,D6 .aH rfl⟩⟩
   ·have cJ:∀ i,i<len->∃ ez row,w.cells? base (a.add (i*P.cellsOf e)) (P.cellsOf e)=some ez/\pp P w A [e] ez row:=fun i az=>by
     obtain⟨x,_,ag⟩:=Hy am i i (by rw[atC az]);rw[bind_some] at ag;obtain⟨ez,ad,ae⟩:=ag;obtain⟨row,aj⟩:=aS e ez x.1 x.2 av.2 ae;exact⟨ez,row,ad,aj⟩
    have pL:∃ (ez:Nat->List Value) (rows:Nat->List U),∀ i,i<len->w.cells? base (a.add (i*P.cellsOf e)) (P.cellsOf e)=some (ez i)/\pp P w A [e] (ez i) (rows i) :=by
     refine⟨fun i=>if az:i<len then (cJ i az).choose else [],fun i=>if az:i<len then (cJ i az).choose_spec.choose else [],fun i az=>?_⟩;simp only[dif_pos az];exact (cJ i az).choose_spec.choose_spec
    obtain⟨ez,rows,ap⟩:=pL;have lF:∀ i,i<len->(ez i).length=P.cellsOf e/\∀ j,j<P.cellsOf e->∃ v,(ez i)[j]? = some v/\w.cell? (a.add (i*P.cellsOf e+j))=some v:=fun i az=>by
     have ad:=(ap i az).1;unfold World.cells? at ad;split at ad
     ·refine⟨by rw[Mw ad]; simp,fun j ai=>?_⟩;obtain⟨v,ae,aj⟩:=Hy ad j j (by rw[atC ai]);refine⟨v,ae,?_⟩;rw[<-aj,Zo]
     ·cases ad
    let es:=(List.range len).map rows
    have lI:∀ (i:Nat) (r:List U),es[i]? = some r->i<len/\r=rows i:=fun i r ay=>by
     simp only[es,as5] at ay;by_cases az:i<len
     ·rw[atC az] at ay; simp only[as9,Option.some.injEq] at ay; exact⟨az,ay.symm⟩
     ·rw[atd (by simp; omega)] at ay; cases ay
    have bD:es.length=len:=by simp[es]
    have ax:∀ r∈es,r.length=P.cellsOf e:=fun r ay=>by
     obtain⟨i,az⟩:=auG ay;obtain⟨ad,rfl⟩:=lI i r az;rw[(ap i ad).2.len,(lF i ad).1]
    have Ai:∀ r∈es,dB P [e] r:=fun r ay=>by
     obtain⟨i,az⟩:=auG ay;obtain⟨ad,rfl⟩:=lI i r az;have:=(ap i ad).2.ty [] [] .nil;simpa using this
    refine⟨[.aX (P.cellsOf e) es],⟨rfl,fun qj cs' h=>.aq aL (by omega) ax Ai h,D6 ?_ rfl⟩⟩;by_cases aI:len=0
    ·subst aI;exact .fZ _ _ _
    ·obtain⟨sT,_,jP⟩:=(lF 0 (by omega)).2 0 av.1;have T9:a.spot=none:=by
      unfold World.cell? at jP;split at jP
      ·split at jP
       ·cases jP
       ·rename_i ak;rw[show 0*P.cellsOf e+0=0 by omega] at ak;simp only[Addr.add,if_true] at ak;cases q8:a.spot with
        | none=>rfl
        | some x=>rw[q8] at ak; simp at ak
      ·cases jP
     obtain⟨blk,off,spot⟩:=a;simp only at T9;subst T9;have key:=aN.aX (w:=w) (R:=A) (h:=aM.empty) (μ:=fun _=>none) (P.cellsOf e) es blk off cap (fun i j=>((ez i)[j]?).getD undef) (by omega) ax
      (fun i j az ai=>by
       rw[bD] at az;obtain⟨v,ad,ae⟩:=(lF i az).2 j ai;obtain⟨c,ah⟩:∃ c,(rows i)[j]? = some c:=by
        have:j<(rows i).length:=by rw[(ap i az).2.len,(lF i az).1]; exact ai
        exact⟨_,as4 this⟩
       refine⟨?_,?_,dm _,fun ⟨b,m,ad,ae,aj⟩=>by cases ae⟩
       ·rw[ad,atM,<-add_plain]; exact ae
       ·rw[ad,atM]; exact ((ap i az).2.pe j c v ah ad).2)
      (fun i r ay j c ah=>by
       obtain⟨az,rfl⟩:=lI i r ay;have ai:j<P.cellsOf e:=by rw[<-(lF i az).1,<-(ap i az).2.len]; exact (as0.1 ah).1
       obtain⟨v,ad,ae⟩:=(lF i az).2 j ai;rw[ad,atM];exact ((ap i az).2.pe j c v ah ad).1)
     rw[bD] at key;exact key
  ·rename_i fs aL;simp only[as7,decide_eq_true_eq,atN] at av;obtain⟨bD,xs,ag⟩:=alt aL h;have Cl:∀ (fs:List Field) (o:Nat) (xs:List (DataW H × List MemPlace)),vg P fs o=some vs.length->o<=vs.length->(∀ f∈fs,uo P D f.type=true)->
     (fs.mapM fun f=>DataW.trod enc P w base spare held fuel f.type ((vs.drop f.offset).take (P.cellsOf f.type)))=some xs->∃ cs,pp P w A (fs.map (·.type)) (vs.drop o) cs:=by
    intro fs
    induction fs with
    | nil=>intro o xs ah au _ _; simp only[vg,Option.some.injEq] at ah; rw[ah,List.drop_length]; exact⟨[],.nil⟩
    | cons f fs afX=>
     intro o xs ah au gZ hm;simp only[vg] at ah;split at ah
     ·rename_i adR;rw[auu] at hm;simp only[Option.bind_eq_bind,bind_some,auD,Option.some.injEq] at hm;obtain⟨x,ad,amL,ae,_⟩:=hm;have aeF:∀ (fs:List Field) (o n:Nat),vg P fs o=some n->o<=n:=by
       intro fs
       induction fs with
       | nil=>intro o n h; simp only[vg,Option.some.injEq] at h; omega
       | cons g gs afY=>
        intro o n h;simp only[vg] at h;split at h
        ·have:=afY _ _ h; omega
        ·cases h
      have dY:=aeF _ _ _ ah;obtain⟨b0,bL⟩:=aS f.type _ x.1 x.2 (gZ f (by simp)) ad;obtain⟨b5,w2⟩:=afX _ amL ah dY (fun g aw=>gZ g (by simp[aw])) ae;refine⟨b0++b5,?_⟩;have:=bL.app w2;rw[adR,show List.drop (o+P.cellsOf f.type) vs=List.drop (P.cellsOf f.type) (List.drop o vs) by rw[avC],at3] at this;exact this
     ·cases ah
   obtain⟨cs,aW⟩:=Cl fs.toList 0 xs (by rw[bD]; exact av.1) (auc _) av.2 ag;rw[auf] at aW;exact⟨cs,⟨aW.len,fun qj cs' h=>.struct aL (aW.ty _ _ h),aW.pe⟩⟩
  ·rename_i n e aL;simp only[as7,decide_eq_true_eq] at av;obtain⟨bD,xs,ag⟩:=trod_array aL h;have ae6:∀ i,i<n->∃ c,pp P w A [e] ((vs.drop (i*P.cellsOf e)).take (P.cellsOf e)) c:=fun i az=>by
    obtain⟨x,_,ad⟩:=Hy ag i i (by rw[atC az]);exact aS e _ x.1 x.2 av.2 ad
   have Cl:∀ m,m<=n->∃ cs,pp P w A (List.replicate m e) (vs.drop ((n - m)*P.cellsOf e)) cs:=by
    intro m
    induction m with
    | zero=>intro _; rw[avh,atE (by omega)]; exact⟨[],.nil⟩
    | succ m LX=>
     intro hm;obtain⟨b0,bL⟩:=ae6 (n - (m+1)) (by omega);obtain⟨b5,w2⟩:=LX (by omega);refine⟨b0++b5,?_⟩;have:=bL.app w2;have vA:(n - m)*P.cellsOf e=(n - (m+1))*P.cellsOf e+P.cellsOf e:=by rw[<-atL]; congr 1; omega
     rw[vA,<-avC,at3] at this;exact this
   obtain⟨cs,aW⟩:=Cl n (as3 _);rw[auZ,avb,auf] at aW;exact⟨cs,⟨aW.len,fun qj cs' h=>.array aL (aW.ty _ _ h),aW.pe⟩⟩
  ·cases av
def s7 (P:Program) (t:TypeId) (c:U) :Prop:=match eo P t with
 | some true=>∃ cs,c=.aG cs/\dB P [t] cs
 | _=>dB P [t] [c]
inductive lu (P:Program) :List TypeId->List U->Prop
 | nil:lu P [] []
 | cons {t:TypeId} {c:U} {ts:List TypeId} {cs:List U}:s7 P t c->lu P ts cs->lu P (t::ts) (c::cs)
theorem OW {H:Type} {enc:TypeId × Value->H} {w:World} {A:Nat->Prop} (dm:∀ k,A k) {base hx:Nat} {spare:Nat->Bool} {held:Bool} {D:Nat}:∀ {ts:List TypeId} {vs:List Value} {im:List (DataW H)} {ps:List MemPlace},
  (∀ t∈ts,uo P D t=true)->(∀ (j:Nat) t v,ts[j]? = some t->vs[j]? = some v->Value.okWide P w .any hx t v)->DataW.TrodAll enc P w base spare held ts vs im ps->
  ∃ cs,lu P ts cs/\cs.length=vs.length/\∀ (j:Nat) (c:U) (v:Value),cs[j]? = some c->vs[j]? = some v->dV w A c v
 | [],[],_,_,_,_,_=>⟨[],.nil,rfl,fun j c v h=>by simp at h⟩
 | [],_::_,im,_,_,_,h=>by cases im<;>cases h
 | _::_,[],im,_,_,_,h=>by cases im<;>cases h
 | _::_,_::_,[],_,_,_,h=>by cases h
 | t::ts,v::vs,d::im,ps,av,c0,h=>by
  obtain⟨p,q,⟨fuel,aV⟩,ay,_⟩:=h;obtain⟨cs,ad,ae,aj⟩:=OW dm (fun t aV=>av t (by simp[aV])) (fun j t v aV ap=>c0 (j+1) t v (by simpa using aV) (by simpa using ap)) ay;obtain⟨b0,bL⟩:=X6 dm fuel D t v.cells.toList d p (av t (by simp)) aV;have Ai:dB P [t] b0:=by simpa using bL.ty [] [] .nil
  have ap:=c0 0 t v rfl rfl;have fin:∀ c,s7 P t c->dV w A c v->∃ cs,lu P (t::ts) cs/\cs.length=(v::vs).length/\∀ (j:Nat) (c:U) (a3:Value),cs[j]? = some c->(v::vs)[j]? = some a3->dV w A c a3:=fun c ah kz=>
   ⟨c::cs,.cons ah ad,by simp[ae],fun j c' a3 ai fQ=>by
    cases j with
    | zero=>simp only[ats,Option.some.injEq] at ai fQ; subst ai fQ; exact kz
    | succ j=>exact aj j c' a3 (by simpa using ai) (by simpa using fQ)⟩
  unfold Value.okWide at ap;have agg:eo P t=(P.underlying t).map fun d=>match d with | .struct _ | .array _ _=>true | _=>false:=rfl
  cases aL:P.underlying t with
  | none=>
   exfalso;have:=av t (by simp);cases D with
   | zero=>cases this
   | succ D=>unfold uo at this; rw[aL] at this; cases this
  | some Rt=>
   rw[aL] at ap agg;have agt:(∃ cs,v=.agg cs)->eo P t=some true->∃ cs,lu P (t::ts) cs/\cs.length=(v::vs).length/\∀ (j:Nat) (c:U) (a3:Value),cs[j]? = some c->(v::vs)[j]? = some a3->dV w A c a3:=by
    rintro⟨xs,rfl⟩ oQ;refine fin (.aG b0) (by unfold s7; rw[oQ]; exact⟨b0,rfl,Ai⟩) (.aG b0 xs (by have:=bL.len; simp only[Value.cells,auN] at this; exact this.symm) (fun j x ag=>?_) (fun j c x ah ag=>?_))
    ·have aK:j<b0.length:=by rw[bL.len]; simp only[Value.cells,auN]; exact (att.1 ag).1
     exact (bL.pe j b0[j] x (as4 aK) (by simpa [Value.cells] using ag)).2
    ·exact (bL.pe j c x ah (by simpa [Value.cells] using ag)).1
   have agv:(∀ xs,v≠.agg xs)->eo P t=some false->∃ cs,lu P (t::ts) cs/\cs.length=(v::vs).length/\∀ (j:Nat) (c:U) (a3:Value),cs[j]? = some c->(v::vs)[j]? = some a3->dV w A c a3:=by
    intro bV oQ;have lF:v.cells.toList=[v] :=by cases v<;>first | rfl | exact absurd rfl (bV _)
    have al:=bL.len;rw[lF] at al;obtain⟨c,rfl⟩:∃ c,b0=[c] :=List.length_eq_one_iff.1 al;refine fin c (by unfold s7; rw[oQ]; exact Ai) (bL.pe 0 c v rfl (by rw[lF]; rfl)).1
   have ah9:Cell.okWide P w .any hx t v->∀ xs,v≠.agg xs:=by
    rintro ah xs rfl;unfold Cell.okWide at ah;rw[aL] at ah;cases Rt<;>simp[Cell.ok,aL] at ah
   cases Rt<;>simp only[as9] at agg<;>first
    | exact agt (by obtain⟨cs,h,_⟩:=ap; exact⟨cs,h⟩) agg
    | exact agv (ah9 ap) agg
end
abbrev c3 (α:Type) :=Option (List α)
def c3.l {α:Type} (s:c3 α) :List α:=s.getD []
@[simp] theorem c3.aqS {α:Type}:c3.l (none:c3 α)=[] :=rfl
@[simp] theorem c3.AA {α:Type} (l:List α) :c3.l (some l)=l:=rfl
def cA {α:Type} (z:Nat) (enc:α->List U) :c3 α->U
 | none=>.aH
 | some l=>.aX z (l.map enc)
section
variable {α:Type} {z:Nat} {enc:α->List U}
@[simp] theorem sx (s:c3 α) :cv (.aq z) (cA z enc s)=some (.int .i64 s.l.length) :=by cases s<;>simp[cA,c3.l]
@[simp] theorem tX (s:c3 α) (k:IntKind) (i:Int) :cN (.aq z) (cA z enc s) (.int k i)=if 0<=i then (s.l[i.toNat]?).map fun x=>.bK (enc x) 0 else none:=by
 cases s with
 | none=>by_cases h:0<=i<;>simp[cA,c3.l,cN,h]
 | some l=>by_cases h:0<=i<;>simp[cA,c3.l,h,Function.comp_def]
@[simp] theorem anL (s:c3 α) :(cA z enc s).cells=some [cA z enc s] :=by cases s<;>rfl
theorem BR (h:∀ x,a5 (enc x)=true) (s:c3 α) :(cA z enc s).closed=true:=by
 cases s with
 | none=>rfl
 | some l=>
  simp only[cA,U.closed]
  induction l with
  | nil=>rfl
  | cons x l aS=>simp only[atr,BP,h,aS,auO]
end
theorem wrap_i64 {n:Int} (ad:-9223372036854775808<=n) (ae:n<9223372036854775808) :IntKind.i64.wrap n=n:=by
 have aQ:(2 ^ IntKind.i64.bits:Int)=18446744073709551616:=by decide
 have bx:(2 ^ (IntKind.i64.bits - 1) :Int)=9223372036854775808:=by decide
 have fc:IntKind.i64.signed=true:=rfl;simp only[IntKind.wrap,aQ,bx,fc,aus,decide_eq_true_eq];split<;>omega
theorem bP {α:Type} {l:List α} {k:Nat} (h:k<l.length) :∃ x,l[k]? = some x/\x∈l:=⟨l[k],as4 h,List.getElem_mem h⟩
section
variable {P:Program} {G:Nat->U}
theorem Jh {t e:TypeId} (aL:P.underlying t=some (.slice e)) {α:Type} (z:Nat) (enc:α->List U) (s:c3 α) :gD P .eql t (cA z enc s) .aH=some (.bool s.isNone) :=by
 cases s<;>simp[cA,gD,xp,eC,aL]
theorem abs {e:TypeId} {k:IntKind} (aL:P.underlying e=some (.int k)) (aB:eo P e=some false) {D:Nat} (x y:List Int) :∀ (n i:Nat),i+n=x.length->i+n=y.length->
  eC.r1 P (eC P (D+1)) e 1 (x.map (.int k)) (y.map (.int k)) n i=some (decide (x.drop i=y.drop i)) :=by
 intro n
 induction n with
 | zero=>intro i ag aJ; rw[atE (by omega),atE (by omega)]; simp[eC.r1]
 | succ n aS=>
  intro i ag aJ;have tU:x[i]? = some x[i] :=as4 (by omega);have afN:y[i]? = some y[i] :=as4 (by omega);unfold eC.r1;simp only[MR aB,aux,as5,tU,afN,as9];have am:eC P (D+1) e (.int k x[i]) (.int k y[i])=some (decide (x[i]=y[i])) :=by
   unfold eC;rw[aL];simp only[if_true];by_cases h:x[i]=y[i]<;>simp[h]
  rw[am];have S6:x.drop i=x[i] ::x.drop (i+1) :=atZ (by omega);have S7:y.drop i=y[i] ::y.drop (i+1) :=atZ (by omega);by_cases h:x[i]=y[i]
  ·simp only[h,decide_true];rw[aS (i+1) (by omega) (by omega)];refine congrArg some (decide_eq_decide.2 ?_);rw[S6,S7,h];simp only[List.cons.injEq,true_and]
  ·simp only[h,decide_false];refine congrArg some (decide_eq_false ?_).symm;rw[S6,S7];simp only[List.cons.injEq,h,false_and,not_false_eq_true]
theorem abz {t e:TypeId} {k:IntKind} {n:Nat} (aV:P.underlying t=some (.array n e)) (aL:P.underlying e=some (.int k)) (aB:eo P e=some false) (ak:cu P e=some 1) {x y:List Int} (ag:x.length=n) (aJ:y.length=n) {D:Nat} :
  eC P (D+2) t (.aG (x.map (.int k))) (.aG (y.map (.int k)))=some (decide (x=y)) :=by
 unfold eC;rw[aV];simp only[ak];rw[abs aL aB x y n 0 (by omega) (by omega)];simp
theorem xt {z:Nat} {es:List (List U)} (ax:∀ e∈es,e.length=z) :es.flatten.length=es.length*z:=by
 induction es with
 | nil=>simp
 | cons e es aS=>rw[atW,as8,ax e (by simp),aS fun e am=>ax e (by simp[am]),atk,atL,Nat.add_comm]
theorem zA {z:Nat} {es:List (List U)} (ax:∀ e∈es,e.length=z) {i j:Nat} {e:List U} (am:es[i]? = some e) (ai:j<z) :es.flatten[i*z+j]? = e[j]?:=by
 induction es generalizing i with
 | nil=>simp at am
 | cons x es aS=>
  have ag:x.length=z:=ax x (by simp);cases i with
  | zero=>
   simp only[ats,Option.some.injEq] at am;subst am;rw[atW,avb,aue,as2 (by omega)]
  | succ i=>
   simp only[atJ] at am;rw[atW,atl (by rw[ag,atL]; omega),ag,show (i+1)*z+j - z=i*z+j by rw[atL]; omega];exact aS (fun e am=>ax e (by simp[am])) am
theorem abU {z:Nat} {es:List (List U)} (ax:∀ e∈es,e.length=z) {i j:Nat} {e vs:List U} (am:es[i]? = some e) (ai:j+vs.length<=z) :bg es.flatten (i*z+j) vs=(es.set i (bg e j vs)).flatten:=by
 have az:i<es.length:=(as0.1 am).1;have dY:e.length=z:=ax e (ata am);have bb:es.drop i=e::es.drop (i+1) :=by rw[atZ az]; congr 1; rw[as4 az] at am; exact Option.some.inj am
 have k8:(es.set i (bg e j vs)).flatten=(es.take i).flatten++(bg e j vs++(es.drop (i+1)).flatten) :=by
  rw[aur,if_pos az,atT,atW]
 have afv:es.flatten=(es.take i).flatten++(e++(es.drop (i+1)).flatten) :=by
  conv=>lhs; rw[<-at3 i es]
  rw[bb,atT,atW]
 have bD:(es.take i).flatten.length=i*z:=by
  rw[xt (z:=z) fun e am=>ax e (atw am),ati,auy (by omega)]
 rw[k8,afv];simp only[bg];rw[auK,as1 (by omega),bD,show i*z+j - i*z=j by omega,atG (by omega),
  List.drop_append,atE (by omega),bD,show i*z+j+vs.length - i*z=j+vs.length by omega,at1,atY (by omega)]
 simp only[atK]
theorem cR {σ:a8} {i:Nat} {v:U} (h:σ i=v) :bw σ i v=σ:=by
 funext t; simp only[bw]; split<;>simp_all
theorem qm {σ:a8} {cP:Nat} {cj:U} {dT:Nat} {b2:U} (ad:σ cP=cj) (ae:σ dT=b2) :∃ s:a8,σ=bw (bw (s) cP cj) dT b2:=⟨σ,by rw[cR ad,cR ae]⟩
theorem ln {σ:a8} {cP:Nat} {cj:U} {dT:Nat} {b2:U} {g1:Nat} {fj:U} (ad:σ cP=cj) (ae:σ dT=b2) (aj:σ g1=fj) :∃ s:a8,σ=bw (bw (bw (s) cP cj) dT b2) g1 fj:=⟨σ,by rw[cR ad,cR ae,cR aj]⟩
theorem i2 {σ:a8} {cP:Nat} {cj:U} {dT:Nat} {b2:U} {g1:Nat} {fj:U} {fR:Nat} {gI:U} (ad:σ cP=cj) (ae:σ dT=b2) (aj:σ g1=fj) (aF:σ fR=gI) :∃ s:a8,σ=bw (bw (bw (bw (s) cP cj) dT b2) g1 fj) fR gI:=⟨σ,by rw[cR ad,cR ae,cR aj,cR aF]⟩
theorem lo {σ:a8} {cP:Nat} {cj:U} {dT:Nat} {b2:U} {g1:Nat} {fj:U} {fR:Nat} {gI:U} {jx:Nat} {hK:U} (ad:σ cP=cj) (ae:σ dT=b2) (aj:σ g1=fj) (aF:σ fR=gI) (a6:σ jx=hK) :∃ s:a8,σ=bw (bw (bw (bw (bw (s) cP cj) dT b2) g1 fj) fR gI) jx hK:=⟨σ,by rw[cR ad,cR ae,cR aj,cR aF,cR a6]⟩
theorem wL {σ:a8} {cP:Nat} {cj:U} {dT:Nat} {b2:U} {g1:Nat} {fj:U} {fR:Nat} {gI:U} {jx:Nat} {hK:U} {jy:Nat} {e6:U} (ad:σ cP=cj) (ae:σ dT=b2) (aj:σ g1=fj) (aF:σ fR=gI) (a6:σ jx=hK) (bu:σ jy=e6) :∃ s:a8,σ=bw (bw (bw (bw (bw (bw (s) cP cj) dT b2) g1 fj) fR gI) jx hK) jy e6:=⟨σ,by rw[cR ad,cR ae,cR aj,cR aF,cR a6,cR bu]⟩
theorem Yf {σ:a8} {cP:Nat} {cj:U} {dT:Nat} {b2:U} {g1:Nat} {fj:U} {fR:Nat} {gI:U} {jx:Nat} {hK:U} {jy:Nat} {e6:U} {iF:Nat} {ml:U} (ad:σ cP=cj) (ae:σ dT=b2) (aj:σ g1=fj) (aF:σ fR=gI) (a6:σ jx=hK) (bu:σ jy=e6) (cL:σ iF=ml) :∃ s:a8,σ=bw (bw (bw (bw (bw (bw (bw (s) cP cj) dT b2) g1 fj) fR gI) jx hK) jy e6) iF ml:=⟨σ,by rw[cR ad,cR ae,cR aj,cR aF,cR a6,cR bu,cR cL]⟩
theorem Yg {σ:a8} {cP:Nat} {cj:U} {dT:Nat} {b2:U} {g1:Nat} {fj:U} {fR:Nat} {gI:U} {jx:Nat} {hK:U} {jy:Nat} {e6:U} {iF:Nat} {ml:U} {oi:Nat} {jD:U} (ad:σ cP=cj) (ae:σ dT=b2) (aj:σ g1=fj) (aF:σ fR=gI) (a6:σ jx=hK) (bu:σ jy=e6) (cL:σ iF=ml) (gM:σ oi=jD) :∃ s:a8,σ=bw (bw (bw (bw (bw (bw (bw (bw (s) cP cj) dT b2) g1 fj) fR gI) jx hK) jy e6) iF ml) oi jD:=⟨σ,by rw[cR ad,cR ae,cR aj,cR aF,cR a6,cR bu,cR cL,cR gM]⟩
theorem Yh {σ:a8} {cP:Nat} {cj:U} {dT:Nat} {b2:U} {g1:Nat} {fj:U} {fR:Nat} {gI:U} {jx:Nat} {hK:U} {jy:Nat} {e6:U} {iF:Nat} {ml:U} {oi:Nat} {jD:U} {rf:Nat} {rG:U} (ad:σ cP=cj) (ae:σ dT=b2) (aj:σ g1=fj) (aF:σ fR=gI) (a6:σ jx=hK) (bu:σ jy=e6) (cL:σ iF=ml) (gM:σ oi=jD) (gE:σ rf=rG) :∃ s:a8,σ=bw (bw (bw (bw (bw (bw (bw (bw (bw (s) cP cj) dT b2) g1 fj) fR gI) jx hK) jy e6) iF ml) oi jD) rf rG:=⟨σ,by rw[cR ad,cR ae,cR aj,cR aF,cR a6,cR bu,cR cL,cR gM,cR gE]⟩
theorem alN {σ:a8} {cP:Nat} {cj:U} {dT:Nat} {b2:U} {g1:Nat} {fj:U} {fR:Nat} {gI:U} {jx:Nat} {hK:U} {jy:Nat} {e6:U} {iF:Nat} {ml:U} {oi:Nat} {jD:U} {rf:Nat} {rG:U} {vO:Nat} {wM:U} (ad:σ cP=cj) (ae:σ dT=b2) (aj:σ g1=fj) (aF:σ fR=gI) (a6:σ jx=hK) (bu:σ jy=e6) (cL:σ iF=ml) (gM:σ oi=jD) (gE:σ rf=rG) (kZ:σ vO=wM) :∃ s:a8,σ=bw (bw (bw (bw (bw (bw (bw (bw (bw (bw (s) cP cj) dT b2) g1 fj) fR gI) jx hK) jy e6) iF ml) oi jD) rf rG) vO wM:=⟨σ,by rw[cR ad,cR ae,cR aj,cR aF,cR a6,cR bu,cR cL,cR gM,cR gE,cR kZ]⟩
theorem alO {σ:a8} {cP:Nat} {cj:U} {dT:Nat} {b2:U} {g1:Nat} {fj:U} {fR:Nat} {gI:U} {jx:Nat} {hK:U} {jy:Nat} {e6:U} {iF:Nat} {ml:U} {oi:Nat} {jD:U} {rf:Nat} {rG:U} {vO:Nat} {wM:U} {Du:Nat} {EH:U} (ad:σ cP=cj) (ae:σ dT=b2) (aj:σ g1=fj) (aF:σ fR=gI) (a6:σ jx=hK) (bu:σ jy=e6) (cL:σ iF=ml) (gM:σ oi=jD) (gE:σ rf=rG) (kZ:σ vO=wM) (xx:σ Du=EH) :∃ s:a8,σ=bw (bw (bw (bw (bw (bw (bw (bw (bw (bw (bw (s) cP cj) dT b2) g1 fj) fR gI) jx hK) jy e6) iF ml) oi jD) rf rG) vO wM) Du EH:=⟨σ,by rw[cR ad,cR ae,cR aj,cR aF,cR a6,cR bu,cR cL,cR gM,cR gE,cR kZ,cR xx]⟩
theorem alP {σ:a8} {cP:Nat} {cj:U} {dT:Nat} {b2:U} {g1:Nat} {fj:U} {fR:Nat} {gI:U} {jx:Nat} {hK:U} {jy:Nat} {e6:U} {iF:Nat} {ml:U} {oi:Nat} {jD:U} {rf:Nat} {rG:U} {vO:Nat} {wM:U} {Du:Nat} {EH:U} {Us:Nat} {Yi:U} (ad:σ cP=cj) (ae:σ dT=b2) (aj:σ g1=fj) (aF:σ fR=gI) (a6:σ jx=hK) (bu:σ jy=e6) (cL:σ iF=ml) (gM:σ oi=jD) (gE:σ rf=rG) (kZ:σ vO=wM) (xx:σ Du=EH) (J3:σ Us=Yi) :∃ s:a8,σ=bw (bw (bw (bw (bw (bw (bw (bw (bw (bw (bw (bw (s) cP cj) dT b2) g1 fj) fR gI) jx hK) jy e6) iF ml) oi jD) rf rG) vO wM) Du EH) Us Yi:=⟨σ,by rw[cR ad,cR ae,cR aj,cR aF,cR a6,cR bu,cR cL,cR gM,cR gE,cR kZ,cR xx,cR J3]⟩
section
variable {α:Type}
@[simp] theorem vh (l:ao) (z:Nat) (enc:α->List U) (s:c3 α) :ds l z (cA z enc s)=some ((s.l.map enc).flatten,s.l.length) :=by
 cases s<;>simp[cA,ds]
end
theorem akD {l:ao} {b:Nat} {c:aY} (h:l[b]? = some c) :l.set b c=l:=by
 apply atO;intro j;rw[at9];by_cases ai:b=j
 ·subst ai; rw[if_pos rfl,if_pos (cp h)]; exact h.symm
 ·rw[if_neg ai]
theorem Zy {l:ao} {z by_ b:Nat} {es xs:List (List U)} {x:U} (af:l[b]? = some (.cells (es.length*z) es.flatten)) (ag:ds l z x=some (xs.flatten,xs.length)) (ax:∀ e∈es,e.length=z) (aI:z≠0) (dI:by_≠0)
  (dy:(es.length+xs.length)*by_<=ct) :
  gT l z by_ (.aq z b 0 es.length es.length (es.length*z)) x=some (.aq z b 0 (es++xs).length (es++xs).length ((es++xs).length*z),l.set b (.cells ((es++xs).length*z) (es++xs).flatten)) :=by
 unfold gT;rw[ag];show jq l z by_ _ xs.flatten xs.length=_;unfold jq;cases xs with
 | nil=>simp[akD af]
 | cons y bQ=>
  rw[if_neg (by simp),if_neg (by omega)];simp only[af];rw[if_pos ⟨trivial,trivial,dy⟩,if_neg (by simp),if_neg (by omega),if_pos trivial,as1 (by rw[xt ax]; exact as3 _)];simp only[as8,atT]
theorem OQ {l:ao} {z by_ b n m sz:Nat} {es xs:List (List U)} {x:U} (af:l[b]? = some (.cells sz es.flatten)) (ag:ds l z x=some (xs.flatten,m)) (aC:es.length=n) (hm:xs.length=m) (ak:sz=n*z) (ax:∀ e∈es,e.length=z) (aI:z≠0) (dI:by_≠0)
  (dy:(n+m)*by_<=ct) :
  gT l z by_ (.aq z b 0 n n sz) x=some (.aq z b 0 (n+m) (n+m) ((n+m)*z),l.set b (.cells ((n+m)*z) (es++xs).flatten)) :=by
 subst aC hm ak;rw[Zy af ag ax aI dI dy];simp only[as8]
theorem hu {cs vs:List U} (h:vs.length=cs.length) :bg cs 0 vs=vs:=by
 simp only[bg,aui,at1,aue];rw[atE (by omega),atB]
theorem Pj (len cap:Nat) (k:IntKind) (i:Int) :gV len cap (some (.int k i)) none none=if 0<=i/\i<=len then some (i.toNat,len,cap) else none:=by
 unfold gV ku;by_cases h:0<=i/\i<=len
 ·simp only[if_pos h]
 ·simp only[if_neg h]
theorem Jm (len cap:Nat) (k:IntKind) (i:Int) :gV len cap none (some (.int k i)) none=if 0<=i/\i<=cap then some (0,i.toNat,cap) else none:=by
 unfold gV ku;by_cases h:0<=i/\i<=cap
 ·simp only[if_pos h]
 ·simp only[if_neg h]
theorem ZX (len cap:Nat) (k k' : IntKind) (i j:Int) :gV len cap (some (.int k i)) (some (.int k' j)) none=if 0<=i/\i<=j/\j<=cap then some (i.toNat,j.toNat,cap) else none:=by
 unfold gV ku;by_cases h:0<=j/\j<=cap
 ·simp only[if_pos h];by_cases ae:0<=i/\i<=((j.toNat:Nat) :Int)
  ·simp only[if_pos ae]; rw[if_pos (by omega)]
  ·simp only[if_neg ae]; rw[if_neg (by omega)]
 ·simp only[if_neg h]; rw[if_neg (by omega)]
theorem Xu {α:Type} {z:Nat} {enc:α->List U} {l:List α} {k:IntKind} {i:Int} (ad:0<=i) (ae:i<=l.length) :fF (.aq z) (cA z enc (some l)) (some (.int k i)) none none=some (cA z enc (some (l.drop i.toNat))) :=by
 have aj:i.toNat<=l.length:=by omega
 simp only[fF,cA,if_true,Pj,ate];rw[if_pos ⟨ad,ae⟩];simp only[as9,Option.some.injEq,U.aX.injEq,true_and];rw[as1 (by simp),List.map_drop]
theorem Xw {α:Type} {z:Nat} {enc:α->List U} {l:List α} {k:IntKind} {i:Int} (ad:0<=i) (ae:i<=l.length) :fF (.aq z) (cA z enc (some l)) none (some (.int k i)) none=some (cA z enc (some (l.take i.toNat))) :=by
 simp only[fF,cA,if_true,Jm,ate];rw[if_pos ⟨ad,ae⟩];simp only[as9,Option.some.injEq,U.aX.injEq,true_and,auf,avh];rw[avp]
theorem akO {α:Type} {z:Nat} {enc:α->List U} {l:List α} {k k' : IntKind} {i j:Int} (aI:0<=i) (ad:i<=j) (ae:j<=l.length) :fF (.aq z) (cA z enc (some l)) (some (.int k i)) (some (.int k' j)) none=some (cA z enc (some ((l.drop i.toNat).take (j.toNat - i.toNat)))) :=by
 simp only[fF,cA,if_true,ZX,ate];rw[if_pos ⟨aI,ad,ae⟩];simp only[as9,Option.some.injEq,U.aX.injEq,true_and];rw[avp,List.map_drop]
theorem map_set {α:Type} (l:List α) (k:Nat) (x:α) (enc:α->List U) :(l.map enc).set k (enc x)=(l.set k x).map enc:=by rw[List.map_set]
end

section
variable {P:Program}
def XO (P:Program) (t:TypeId) :Option (List TypeId) :=match P.underlying t with
 | some (.struct fs)=>some (fs.toList.map (·.type))
 | _=>none
theorem EF {cs:List U} (h:dB P [] cs) :cs=[] :=by cases h; rfl
theorem uB {t:TypeId} {k:IntKind} {ts:List TypeId} {cs:List U} (aL:P.underlying t=some (.int k)) (h:dB P (t::ts) cs) :∃ n cs',cs=.int k n::cs'/\k.min<=n/\n<=k.max/\dB P ts cs':=by
 cases h
 case int k' n cs' ad ae oW h=>
  rw[aL] at oW; cases oW; exact⟨_,_,rfl,ad,ae,h⟩
 all_goals (exfalso; simp_all; done)
theorem alC {t:TypeId} {ts:List TypeId} {cs:List U} (aL:P.underlying t=some .bool) (h:dB P (t::ts) cs) :∃ b cs',cs=.bool b::cs'/\dB P ts cs':=by
 cases h
 case bool b cs' oW h=>exact⟨_,_,rfl,h⟩
 all_goals (exfalso; simp_all; done)
theorem wI {t:TypeId} {fs ts:List TypeId} {cs:List U} (aL:XO P t=some fs) (h:dB P (t::ts) cs) :dB P (fs++ts) cs:=by
 unfold XO at aL;cases h
 case struct aoy oW h=>rw[oW] at aL; cases aL; exact h
 all_goals (exfalso; simp_all; done)
theorem alB {t e:TypeId} {n:Nat} {ts:List TypeId} {cs:List U} (aL:P.underlying t=some (.array n e)) (h:dB P (t::ts) cs) :dB P (List.replicate n e++ts) cs:=by
 cases h
 case array fy hs oW h=>rw[aL] at oW; cases oW; exact h
 all_goals (exfalso; simp_all; done)
theorem alG {t e:TypeId} {ts:List TypeId} {cs:List U} (aL:P.underlying t=some (.slice e)) (h:dB P (t::ts) cs) :
  ∃ cs',dB P ts cs'/\(cs=.aH::cs'\/∃ es,cs=.aX (P.cellsOf e) es::cs'/\es.length<=maxLen/\∀ r∈es,dB P [e] r) :=by
 cases h
 case aH fy cs' oW h=>exact⟨_,h,.inl rfl⟩
 case aq fy es cs' al ax am oW h=>rw[aL] at oW; cases oW; exact⟨_,h,.inr ⟨es,rfl,al,am⟩⟩
 all_goals (exfalso; simp_all; done)
theorem Xd {α:Type} {enc:α->List U} {Q:α->Prop}:∀ (es:List (List U)),(∀ r∈es,∃ x,r=enc x/\Q x)->∃ xs:List α,es=xs.map enc/\∀ x∈xs,Q x
 | [],_=>⟨[],rfl,fun x ag=>by cases ag⟩
 | r::es,h=>by
  obtain⟨x,rfl,ag⟩:=h r (by simp);obtain⟨xs,rfl,Ap⟩:=Xd es (fun r ay=>h r (by simp[ay]));exact⟨x::xs,rfl,fun y aJ=>by
   rcases at0.1 aJ with rfl | aJ
   ·exact ag
   ·exact Ap y aJ⟩
theorem NW {α:Type} {t e:TypeId} {z:Nat} {enc:α->List U} {Q:α->Prop} {ts:List TypeId} {cs:List U} (aL:P.underlying t=some (.slice e)) (ax:P.cellsOf e=z) (am:∀ r,dB P [e] r->∃ x,r=enc x/\Q x) (h:dB P (t::ts) cs) :
  ∃ (s:c3 α) (cs' : List U),cs=cA z enc s::cs'/\s.l.length<=maxLen/\(∀ x∈s.l,Q x)/\dB P ts cs':=by
 obtain⟨cs',ad,rfl | ⟨es,rfl,al,ay⟩⟩:=alG aL h
 ·exact⟨none,cs',rfl,auc _,fun x ag=>(by cases ag),ad⟩
 ·obtain⟨xs,rfl,Ap⟩:=Xd (enc:=enc) (Q:=Q) es (fun r oU=>am r (ay r oU));refine⟨some xs,cs',?_,by simpa using al,Ap,ad⟩;rw[ax]; rfl
theorem Ya {t:TypeId} {c:U} (aB:eo P t=some true) (h:s7 P t c) :∃ cs,c=.aG cs/\dB P [t] cs:=by
 unfold s7 at h; rw[aB] at h; exact h
theorem alz {t:TypeId} {c:U} (aB:eo P t=some false) (h:s7 P t c) :dB P [t] [c] :=by
 unfold s7 at h; rw[aB] at h; exact h
theorem NV {t:TypeId} {ts:List TypeId} {cs:List U} (h:lu P (t::ts) cs) :∃ c cs',cs=c::cs'/\s7 P t c/\lu P ts cs':=by
 cases h with
 | cons ad ae=>exact⟨_,_,rfl,ad,ae⟩
theorem alx {cs:List U} (h:lu P [] cs) :cs=[] :=by cases h; rfl
end

end Go.bY

namespace Go.bY
open Go Go.ChangeShapes Go.RowKit
theorem X4 {H:Type} {enc:TypeId × Value->H} {P:Program} (al:laidOutB P=true) {W eK:World} (af:Below W.heap.size W eK) :∀ {ts:List TypeId} {vs:List Value} {im:List (DataW H)} {ps:List MemPlace},
  (∀ t∈ts,P.readableRec t=true/\t<P.types.size)->DataW.TrodAll enc P W 0 (fun _=>true) true ts vs im ps->DataW.TrodAll enc P eK 0 (fun b=>decide (b<W.heap.size)) true ts vs im ps
 | [],vs,im,ps,_,h=>by
  obtain⟨rfl,rfl,rfl⟩:=trodAll_nil h;exact trodAll_mk0
 | t::ts,vs,im,ps,ay,h=>by
  have aK:=h.lt;obtain⟨v,al7,d,abe,a,b,rfl,rfl,rfl,ad,ae⟩:=trodAll_cons h;exact⟨a,b,Below.trod al (ay t (by simp)).1 (ay t (by simp)).2 ad af (fun x ag=>aK x (by simp[ag])),X4 al af (fun t aV=>ay t (by simp[aV])) ae,rfl⟩
theorem aha {P:Program} {G:Nat->U} (fz:P.follows .mixedOrders=true) (h4:∀ g,(G g).closed=true) {f:FuncId} {ts:List TypeId} (D:Nat) (av:∀ t∈ts,uo P D t=true) (aer:laidOutB P=true)
  (cJ:∀ t∈ts,P.readableRec t=true/\t<P.types.size) (ag8:∀ cs,lu P ts cs->dh P G f cs [] (c:=⟨fun r _=>r=.bool true⟩))
  {H:Type} {enc:TypeId × Value->H} {W:World} {hx:Nat} {args:Array Value} {im:List (DataW H)} {ps:List MemPlace} (aw:∀ g,dV W (fun _=>True) (G g) (.pointer (some ⟨g,0,none⟩)))
  (c0:∀ (j:Nat) t v,ts[j]? = some t->args[j]? = some v->Value.okWide P W .any hx t v) (h:DataW.TrodAll enc P W 0 (fun _=>true) true ts args.toList im ps) :
  Calls P f args W fun e w'=>e=.returned (.bool true)/\Below W.heap.size W w'/\DataW.TrodAll enc P w' 0 (fun b=>decide (b<W.heap.size)) true ts args.toList im ps:=by
 obtain⟨cs,Ai,bD,tT⟩:=OW (A:=fun _=>True) (fun _=>trivial) av (fun j t v aV ap=>c0 j t v aV (by simpa using ap)) h;exact (ag9 fz h4 (ag8 cs Ai) aw (by rw[bD]; simp) (fun j c v ah ap=>tT j c v ah (by simpa using ap))).mono fun e w' ⟨am,af⟩=>⟨am,af,X4 aer af cJ h⟩
end Go.bY

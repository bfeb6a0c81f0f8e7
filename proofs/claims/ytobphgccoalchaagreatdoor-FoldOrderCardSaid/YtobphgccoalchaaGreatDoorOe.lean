/-
  The canonical machine, part X: what must hold behind code without types holds behind the code.
-/
import Derived.Test.YtobphgccoalchaaGreatDoorOd
import GoSem.ClaimChange
import GoSem.ClaimWide
import Derived.ProofKit
set_option linter.unusedVariables false
set_option linter.unusedSimpArgs false
set_option linter.unnecessarySimpa false
namespace Go.cb
open Go
section
variable {P:Program} {G:Nat->U}
theorem RV {op:Op} {m:dk} (hm:nr P op=some m) (am:kG op=false) :m.looks=true\/m.i1=true:=by
 cases op<;>simp only[kG,awK,reduceCtorEq] at am<;>simp only[nr] at hm<;>try (cases hm; done)
 case move=>cases hm; exact .inl rfl
 case assign=>cases hm; exact .inl rfl
 case pick=>cases hm; exact .inl rfl
 case alloc=>rw[map_some] at hm; obtain⟨_,_,rfl⟩:=hm; exact .inr rfl
 case box=>cases hm; exact .inr rfl
 case build=>simp only[bind_some,map_some] at hm; obtain⟨_,_,_,_,rfl⟩:=hm; exact .inl rfl
 case buildSlice=>simp only[bind_some,im] at hm; obtain⟨_,_,_,_,_,_,_,rfl⟩:=hm; exact .inr rfl
 case load=>split at hm<;>cases hm<;>exact .inl rfl
 case nilCheck=>cases hm; exact .inl rfl
 case binOp=>cases hm; exact .inl rfl
 case unOp=>cases hm; exact .inl rfl
 case convert=>
  repeat' split at hm
  all_goals first | (cases hm; done) | (cases hm; exact .inl rfl)
 case makeInterface=>split at hm<;>cases hm; exact .inl rfl
 case makeFunc f a b=>cases f<;>simp only at hm<;>cases hm; exact .inl rfl
 case makeSlice=>simp only[bind_some,im] at hm; obtain⟨_,_,_,_,_,_,_,_,_,rfl⟩:=hm; exact .inr rfl
 case slice=>rw[map_some] at hm; obtain⟨_,_,rfl⟩:=hm; exact .inl rfl
 case fieldAddr=>rw[bind_some] at hm; obtain⟨_,_,hm⟩:=hm; split at hm<;>cases hm; exact .inl rfl
 case field=>rw[bind_some] at hm; obtain⟨_,_,hm⟩:=hm; split at hm<;>cases hm<;>exact .inl rfl
 case indexAddr=>split at hm<;>cases hm<;>exact .inl rfl
 case index=>
  repeat' split at hm
  all_goals first | (cases hm; done) | (cases hm; exact .inl rfl)
 case extract=>cases hm; exact .inl rfl
 case call c=>
  split at hm
  ·rename_i b ag;rw[ag] at am;cases b<;>simp only[awK,reduceCtorEq] at am<;>unfold vO at hm<;>(repeat' split at hm)<;>first
    | (cases hm; done)
    | (cases hm; exact .inl rfl)
    | (rw[map_some] at hm; obtain⟨_,_,rfl⟩:=hm; exact .inl rfl)
    | (exfalso; simp only[reduceCtorEq] at *; done)
  ·rename_i f aD;rw[aD] at am; cases am
  ·cases hm
theorem RW {op:Op} {m:dk} (hm:nr P op=some m) (aH:tB P op=false) :m.reads=false/\m.i1=false:=by
 cases op<;>simp only[tB,awK,reduceCtorEq] at aH<;>simp only[nr] at hm<;>try (cases hm; done)
 case move=>cases hm; exact⟨rfl,rfl⟩
 case assign=>cases hm; exact⟨rfl,rfl⟩
 case pick=>cases hm; exact⟨rfl,rfl⟩
 case build=>simp only[bind_some,map_some] at hm; obtain⟨_,_,_,_,rfl⟩:=hm; exact⟨rfl,rfl⟩
 case store=>rw[map_some] at hm; obtain⟨_,_,rfl⟩:=hm; exact⟨rfl,rfl⟩
 case nilCheck=>cases hm; exact⟨rfl,rfl⟩
 case binOp=>cases hm; exact⟨rfl,rfl⟩
 case unOp=>cases hm; exact⟨rfl,rfl⟩
 case makeInterface=>split at hm<;>cases hm; exact⟨rfl,rfl⟩
 case makeFunc f a b=>cases f<;>simp only at hm<;>cases hm; exact⟨rfl,rfl⟩
 case typeAssert=>rw[map_some] at hm; obtain⟨_,_,rfl⟩:=hm; exact⟨rfl,rfl⟩
 case slice=>rw[map_some] at hm; obtain⟨_,_,rfl⟩:=hm; exact⟨rfl,rfl⟩
 case fieldAddr=>rw[bind_some] at hm; obtain⟨_,_,hm⟩:=hm; split at hm<;>cases hm; exact⟨rfl,rfl⟩
 case field=>rw[bind_some] at hm; obtain⟨_,_,hm⟩:=hm; split at hm<;>cases hm<;>exact⟨rfl,rfl⟩
 case indexAddr=>split at hm<;>cases hm<;>exact⟨rfl,rfl⟩
 case index=>
  repeat' split at hm
  all_goals first | (cases hm; done) | (cases hm; exact⟨rfl,rfl⟩)
 case extract=>cases hm; exact⟨rfl,rfl⟩
 case next it b=>cases b<;>simp only[reduceCtorEq] at hm<;>cases hm; exact⟨rfl,rfl⟩
 case panic=>cases hm; exact⟨rfl,rfl⟩
 case lookup=>split at hm<;>(try cases hm; done); rw[map_some] at hm; obtain⟨_,_,rfl⟩:=hm; exact⟨rfl,rfl⟩
 case mapUpdate=>split at hm<;>cases hm; exact⟨rfl,rfl⟩
 case insert=>split at hm<;>cases hm; exact⟨rfl,rfl⟩
 case makeMap=>split at hm<;>cases hm; exact⟨rfl,rfl⟩
 case range=>split at hm<;>cases hm; exact⟨rfl,rfl⟩
 case call c=>
  split at hm
  ·rename_i b ag;rw[ag] at aH;unfold vO at hm
   repeat' split at hm
   all_goals first
    | (cases hm; done)
    | (exfalso; simp_all; done)
    | (cases hm; exact⟨rfl,rfl⟩)
    | (simp only[bind_some,map_some] at hm; obtain⟨_,_,rfl⟩:=hm; exact⟨rfl,rfl⟩)
    | (simp only[bind_some,map_some] at hm; obtain⟨_,_,_,_,rfl⟩:=hm; exact⟨rfl,rfl⟩)
    | (simp only[bind_some,im] at hm; obtain⟨_,_,_,_,_,_,_,rfl⟩:=hm; exact⟨rfl,rfl⟩)
    | (simp only[bind_some,im] at hm; obtain⟨_,_,_,_,_,_,_,_,_,rfl⟩:=hm; exact⟨rfl,rfl⟩)
  ·split at hm
   ·rw[im] at hm; obtain⟨_,rfl⟩:=hm; exact⟨rfl,rfl⟩
   ·cases hm
  ·cases hm
inductive nd (P:Program) (G:Nat->U) (s:eA) (o:Oper) (ae:a8) (l:ao) (v:U) (l1:ao) :bN->Prop
 | pure (m:dk) (ag:s.b=.gV m) (hm:m.looks=true) (al:l1=l) (ak:bQ P (c2 G ae) l m=some (v,l)) :nd P G s o ae l v l1 (.pure s.i v)
 | new (m:dk) (cs:List U) (ag:s.b=.gV m) (hm:m.i1=true) (al:l1=l++[.cells cs.length cs]) :nd P G s o ae l v l1 (.new s.i v cs)
 | gC (am:kG o.op=true) (bl:l.length<=l1.length) :nd P G s o ae l v l1 (.gC s.i v (bU l1))
theorem nd.idx {s:eA} {o:Oper} {ae:a8} {l l1:ao} {v:U} {t:bN} (k:nd P G s o ae l v l1 t) :t.idx=s.i:=by cases k<;>rfl
theorem nd.val {s:eA} {o:Oper} {ae:a8} {l l1:ao} {v:U} {t:bN} (k:nd P G s o ae l v l1 t) :t.val=v:=by cases k<;>rfl
theorem nd.next {s:eA} {o:Oper} {ae:a8} {l l1:ao} {v:U} {t:bN} (k:nd P G s o ae l v l1 t) :qC (bU l) t=bU l1:=by
 cases k with
 | pure m ag hm al ak=>rw[al]; rfl
 | new m cs ag hm al=>rw[al,<-lo]; rfl
 | gC am _=>rfl
theorem alH {ops:Array Oper} {s:eA} {o:Oper} (ok:pQ P ops s o) {ae:a8} (hw:kS ops ae o=some true) {l:ao} {K:U->ao->Prop} (h:hW P G s.b ae l K) :
  ∃ v l1 t,nd P G s o ae l v l1 t/\xy P G ops ⟨ae,bU l⟩ t/\K v l1:=by
 obtain⟨v,l1,h1,ad,aj,aF⟩:=Yr ok h;have kY:kG o.op=true->∃ v l1 t,nd P G s o ae l v l1 t/\xy P G ops ⟨ae,bU l⟩ t/\K v l1:=fun am=>⟨v,l1,_,.gC am ad,⟨o,ok.here,hw,h1,by simpa using ad⟩,aj⟩
 cases ag:s.b with
 | gV m=>
  have hm:=ok.gV m ag;cases am:kG o.op with
  | true=>exact kY am
  | false=>
   have ak:=aF m ag (RV hm am);rcases RV hm am with al | aC
   ·have:=V4 al ak;subst this;exact⟨v,l1,_,.pure m ag al rfl ak,⟨o,ok.here,hw⟩,aj⟩
   ·obtain⟨cs,mk,aU,bt,c8⟩:=aix hm aC ak;exact⟨v,l1,_,.new m cs ag aC c8,⟨o,mk,ok.here,hw,aU,bt⟩,aj⟩
 | mG f args=>
  obtain⟨c,gO,ah,_⟩:=ok.mG f args ag;exact kY (by rw[gO]; simp only[kG,ah])
 | nm x args=>
  obtain⟨c,gO,ah,_⟩:=ok.nm x args ag;exact kY (by rw[gO]; simp only[kG,ah])
 | n4 x name args=>
  obtain⟨c,gO,ah,_⟩:=ok.n4 x name args ag;exact kY (by rw[gO]; simp only[kG,ah])
inductive kq (P:Program) (G:Nat->U) (ops:Array Oper) :List eA->a8->ao->iy->List (bN × a8 × ao)->a8->ao->Prop
 | nil {ae l seen}:kq P G ops [] ae l seen [] ae l
 | skip {s o r ae l seen es b4 l'}:pQ P ops s o->kS ops ae o=some false->kq P G ops r (ht ae s.dst hv) l seen es b4 l'->kq P G ops (s::r) ae l seen ((.skip s.i,ae,l) ::es) b4 l'
 | step {s o r ae l v l1 t seen es b4 l'}:pQ P ops s o->nd P G s o ae l v l1 t->xy P G ops ⟨ae,bU l⟩ t->pW s.hz seen l1->
   kq P G ops r (ht ae s.dst v) l1 (r0 s.cy s.i (lW P G s.b ae v l l1) seen) es b4 l'->kq P G ops (s::r) ae l seen ((t,ae,l) ::es) b4 l'
theorem Nv {ops:Array Oper} {K:a8->ao->Prop}:∀ {s:List eA} {ae:a8} {l:ao} {seen:iy},(∀ x∈s,∃ o,pQ P ops x o)->jV P G s ae l seen K->∃ es b4 l',kq P G ops s ae l seen es b4 l'/\K b4 l'
 | [],ae,l,seen,_,h=>⟨[],ae,l,.nil,h⟩
 | s::r,ae,l,seen,df,h=>by
  obtain⟨o,ok⟩:=df s (by simp);rcases VD ok h with ⟨hw,h⟩ | ⟨hw,h⟩
  ·obtain⟨v,l1,t,h1,ad,aj,aF⟩:=alH ok hw h;obtain⟨es,b4,l',aU,bt⟩:=Nv (fun x af=>df x (by simp[af])) aF;exact⟨_,b4,l',.step ok h1 ad aj aU,bt⟩
  ·obtain⟨es,b4,l',aU,bt⟩:=Nv (fun x af=>df x (by simp[af])) h;exact⟨_,b4,l',.skip ok hw aU,bt⟩
theorem Nx {K:a8->ao->Prop}:∀ {s:List eA} {ae:a8} {l:ao},(∀ x∈s,x.cy=false)->jF P G s ae l K->jV P G s ae l [] K
 | [],ae,l,_,h=>h
 | s::r,ae,l,hk,h=>by
  have mono:∀ (b:qU) (K gI:U->ao->Prop),(∀ v l,K v l->gI v l)->hW P G b ae l K->hW P G b ae l gI:=by
   intro b K gI aV h;cases b with
   | gV m=>simp only[hW,zx] at h ⊢; obtain⟨v,h1,ad⟩:=h; exact⟨v,h1,VS aV ad⟩
   | mG f args=>obtain⟨r,l',h1,ad,aj⟩:=h; exact⟨r,l',h1,ad,aV _ _ aj⟩
   | nm x args=>
    simp only[hW,vE] at h ⊢;split at h
    ·obtain⟨aE,r,l',h1,ad,aj⟩:=h; exact⟨aE,r,l',h1,ad,aV _ _ aj⟩
    ·cases h
   | n4 x name args=>
    simp only[hW,vD] at h ⊢;split at h
    ·split at h
     ·obtain⟨aE,r,l',h1,ad,aj⟩:=h; exact⟨aE,r,l',h1,ad,aV _ _ aj⟩
     ·cases h
    ·cases h
  have adg:∀ (g:Option (Option Tmp × Bool)) (p q bS fF:Prop),(p->bS)->(q->fF)->qA ae g p q->qA ae g bS fF:=by
   intro g p q bS fF ay aZ h;unfold qA at h ⊢;split at h
   ·exact ay h
   ·rename_i d w;simp only[rI] at h ⊢;split at h
    ·rw[DG] at h ⊢;rcases h with ⟨a,b⟩ | ⟨a,b⟩
     ·exact .inl ⟨a,ay b⟩
     ·exact .inr ⟨a,aZ b⟩
    ·cases h
    ·exact aZ h
   ·exact aZ h
  have rs:s.cy=false:=hk s (by simp);refine adg _ _ _ _ _ (mono _ _ _ fun v l' h=>?_) (fun h=>Nx (fun x af=>hk x (by simp[af])) h) h;refine⟨trivial,?_⟩;rw[rs];exact Nx (fun x af=>hk x (by simp[af])) h
theorem nd.len {s:eA} {o:Oper} {ae:a8} {l l1:ao} {v:U} {t:bN} (k:nd P G s o ae l v l1 t) :l.length<=l1.length:=by
 cases k with
 | pure m ag hm al ak=>rw[al]; exact atW _
 | new m cs ag hm al=>rw[al]; simp
 | gC am bl=>exact bl
theorem kq.len {ops:Array Oper} {s:List eA} {ae b4:a8} {l l' : ao} {seen:iy} {es:List (bN × a8 × ao)} (h:kq P G ops s ae l seen es b4 l') :l.length<=l'.length:=by
 induction h with
 | nil=>exact atW _
 | skip _ _ _ aI=>exact aI
 | step _ k _ _ _ aI=>exact avn k.len aI
def uu (es:List (bN × a8 × ao)) (l' : ao) (q:Nat) :ao:=match es[q]? with | some x=>x.2.2 | none=>l'
theorem kq.here {ops:Array Oper} {s:List eA} {ae b4:a8} {l l' : ao} {seen:iy} {es:List (bN × a8 × ao)} (h:kq P G ops s ae l seen es b4 l') :uu es l' 0=l:=by
 cases h<;>rfl
theorem kq.idx {ops:Array Oper} {s:List eA} {ae b4:a8} {l l' : ao} {seen:iy} {es:List (bN × a8 × ao)} (h:kq P G ops s ae l seen es b4 l') :es.map (fun e=>e.1.idx)=s.map (·.i) :=by
 induction h with
 | nil=>rfl
 | skip _ _ _ aI=>simp only[aus,aI]; rfl
 | step _ k _ _ _ aI=>simp only[aus,aI,k.idx]
theorem kq.at {ops:Array Oper} {s:List eA} {ae b4:a8} {l l' : ao} {seen:iy} {es:List (bN × a8 × ao)} (h:kq P G ops s ae l seen es b4 l') :
  (∀ (p:Nat) (e:bN × a8 × ao),es[p]? = some e->xy P G ops ⟨e.2.1,bU e.2.2⟩ e.1/\gY ops ⟨ae,bU l⟩ (es.map (·.1)) p=⟨e.2.1,bU e.2.2⟩)/\gY ops ⟨ae,bU l⟩ (es.map (·.1)) es.length=⟨b4,bU l'⟩:=by
 induction h with
 | nil=>exact⟨fun p e am=>by simp at am,rfl⟩
 | @skip s o r ae l seen es b4 l' ok hw _ aI=>
  have h6:mw ops ⟨ae,bU l⟩ (.skip s.i)=⟨ht ae s.dst hv,bU l⟩:=by simp only[mw,xM,bN.idx,ok.here,avy,bN.val,qC,ok.dst]
  refine⟨fun p e am=>?_,?_⟩
  ·cases p with
   | zero=>simp only[aul,Option.some.injEq] at am; subst am; exact⟨⟨o,ok.here,hw⟩,rfl⟩
   | succ p=>
    simp only[auF] at am;obtain⟨h1,ad⟩:=aI.1 p e am;refine⟨h1,?_⟩;rw[aus,H8,h6]; exact ad
  ·rw[aus,auf,H8,h6]; exact aI.2
 | @step s o r ae l v l1 t seen es b4 l' ok k ak ah _ aI=>
  have h6:mw ops ⟨ae,bU l⟩ t=⟨ht ae s.dst v,bU l1⟩:=by simp only[mw,xM,k.idx,ok.here,avy,k.val,k.next,ok.dst]
  refine⟨fun p e am=>?_,?_⟩
  ·cases p with
   | zero=>simp only[aul,Option.some.injEq] at am; subst am; exact⟨ak,rfl⟩
   | succ p=>
    simp only[auF] at am;obtain⟨h1,ad⟩:=aI.1 p e am;refine⟨h1,?_⟩;rw[aus,H8,h6]; exact ad
  ·rw[aus,auf,H8,h6]; exact aI.2
theorem kq.still {ops:Array Oper} {s:List eA} {ae b4:a8} {l l' : ao} {seen:iy} {es:List (bN × a8 × ao)} (h:kq P G ops s ae l seen es b4 l') (j:Nat) (S:ao->Prop)
  (qi:∀ l x,S l->S (l++x)) (aE:S l) :∀ q,q<=es.length->(∀ (p:Nat) (e:bN × a8 × ao),p<q->es[p]? = some e->e.1.jA=true->(j,S)∈seen/\∃ x,s[p]? = some x/\j∈x.hz)->S (uu es l' q) :=by
 have abi:∀ {ids:List Nat} {seen:iy} {l:ao},pW ids seen l->(j,S)∈seen->j∈ids->S l:=by
  intro ids seen l ah hm av
  induction seen with
  | nil=>cases hm
  | cons e r aI=>
   obtain⟨h1,ad⟩:=ah;rcases auG.1 hm with rfl | hm
   ·exact h1 (by simpa using av)
   ·exact aI ad hm
 induction h with
 | nil=>
  intro q aZ _; simp only[auy] at aZ; obtain rfl:q=0:=by omega
  exact aE
 | @skip s o r ae l seen es b4 l' ok hw _ aI=>
  intro q aZ Ab;cases q with
  | zero=>exact aE
  | succ q=>exact aI aE q (by simpa using aZ) (fun p e ay am eQ=>by
    obtain⟨h1,x,ad,aj⟩:=Ab (p+1) e (by omega) (by simpa using am) eQ;exact⟨h1,x,by simpa using ad,aj⟩)
 | @step s o r ae l v l1 t seen es b4 l' ok k ak ah _ aI=>
  intro q aZ Ab;cases q with
  | zero=>exact aE
  | succ q=>
   have h1:S l1:=by
    cases k with
    | pure m ag hm al _=>rw[al]; exact aE
    | new m cs ag hm al=>rw[al]; exact qi _ _ aE
    | gC am _=>
     obtain⟨h1,x,ad,aj⟩:=Ab 0 _ (by omega) rfl rfl;simp only[aul,Option.some.injEq] at ad;subst ad;exact abi ah h1 aj
   refine aI h1 q (by simpa using aZ) (fun p e ay am eQ=>?_);obtain⟨h1,x,ad,aj⟩:=Ab (p+1) e (by omega) (by simpa using am) eQ;refine⟨?_,x,by simpa using ad,aj⟩;unfold r0;cases s.cy with
   | false=>exact h1
   | true=>exact awv _ h1
theorem kq.split {ops:Array Oper} {s:List eA} {ae b4:a8} {l l' : ao} {seen:iy} {es:List (bN × a8 × ao)} (h:kq P G ops s ae l seen es b4 l') :∀ (p:Nat) (e:bN × a8 × ao),es[p]? = some e->e.1.uM=false->
  ∃ x o v l1 xc,s[p]? = some x/\pQ P ops x o/\nd P G x o e.2.1 e.2.2 v l1 e.1 ∧
   kq P G ops (s.drop (p+1)) (ht e.2.1 x.dst v) l1 (r0 x.cy x.i (lW P G x.b e.2.1 v e.2.2 l1) xc) (es.drop (p+1)) b4 l':=by
 induction h with
 | nil=>intro p e am; simp at am
 | @skip s o r ae l seen es b4 l' ok hw _ aI=>
  intro p e am g1;cases p with
  | zero=>simp only[aul,Option.some.injEq] at am; subst am; cases g1
  | succ p=>
   obtain⟨x,cR,v,l1,xc,h1,ad,aj,aF⟩:=aI p e (by simpa using am) g1;exact⟨x,cR,v,l1,xc,by simpa using h1,ad,aj,by simpa using aF⟩
 | @step s o r ae l v l1 t seen es b4 l' ok k ak ah tr aI=>
  intro p e am g1;cases p with
  | zero=>
   simp only[aul,Option.some.injEq] at am; subst am;exact⟨s,o,v,l1,seen,rfl,ok,k,by simpa using tr⟩
  | succ p=>
   obtain⟨x,cR,v,l1,xc,h1,ad,aj,aF⟩:=aI p e (by simpa using am) g1;exact⟨x,cR,v,l1,xc,by simpa using h1,ad,aj,by simpa using aF⟩
end

section
variable {P:Program} {G:Nat->U}
theorem WX {ms:List Nat} {ops:Array Oper}:∀ (kj done kY:List Nat),(∀ i∈kj,i<ops.size)->(oz P ms ops kj done kY).map (·.1)=kj
 | [],_,_,_=>rfl
 | i::r,done,kY,h=>by
  unfold oz;have av:i<ops.size:=h i (by simp);rw[avk av];simp only;split<;>simp only[aus]<;>rw[WX r _ _ fun j ai=>h j (by simp[ai])]
theorem M0 {ms:List Nat} {ops:Array Oper}:∀ (kj done kY:List Nat) (p i:Nat) (hz:List Nat),(∀ i∈kj,i<ops.size)->(oz P ms ops kj done kY)[p]? = some (i,hz)->
  (∃ o,ops[i]? = some o/\kG o.op=true)->∀ j,(j∈done\/∃ gf,gf<p/\kj[gf]? = some j)->(∃ o,ops[j]? = some o/\tB P o.op=true)->(∀ e∈kY,pu ms e j=false)->
  (∀ (bS jx:Nat) (o:Oper),bS<=p->kj[bS]? = some jx->ops[jx]? = some o->kG o.op=true->(bS=p\/o.guard=none)->pu ms jx j=false)->j∈hz
 | [],done,kY,p,i,hz,_,ay,_,_,_,_,_,_=>by simp[oz] at ay
 | x::r,done,kY,p,i,hz,nI,ay,am,j,ai,aH,Gh,Ax=>by
  unfold oz at ay;have af:x<ops.size:=nI x (by simp);rw[avk af] at ay;have Lo:ops[x]? = some ops[x] :=avk af;simp only at ay;have az:∀ i∈r,i<ops.size:=fun j ai=>nI j (by simp[ai])
  cases eQ:kG ops[x].op with
  | true=>
   rw[eQ] at ay;simp only at ay;cases p with
   | zero=>
    simp only[aul,Option.some.injEq,Prod.mk.injEq] at ay;obtain⟨rfl,rfl⟩:=ay;obtain⟨o,h1,ad⟩:=aH;rcases ai with ai | ⟨gf,UO,_⟩
    ·refine auS.2 ⟨ai,?_⟩;simp only[h1,ad,auQ,axc,atY,auK];exact⟨by simp[Ax 0 x ops[x] (atW _) (by simp) Lo eQ (.inl rfl)],fun e am=>by simp[Gh e am]⟩
    ·omega
   | succ p=>
    simp only[auF] at ay;refine M0 r _ _ p i hz az ay am j ?_ aH ?_ ?_
    ·rcases ai with ai | ⟨gf,UO,ai⟩
     ·exact .inl (by simp[ai])
     ·cases gf with
      | zero=>simp only[aul,Option.some.injEq] at ai; exact .inl (by simp[ai])
      | succ gf=>exact .inr ⟨gf,by omega,by simpa using ai⟩
    ·intro e ga;cases ar:ops[x].guard with
     | none=>
      rw[ar] at ga;rcases auG.1 ga with rfl | ga
      ·exact Ax 0 e ops[e] (by omega) (by simp) Lo eQ (.inr ar)
      ·exact Gh e ga
     | some kI=>rw[ar] at ga; exact Gh e ga
    ·intro bS jx o gc gw ap xY ar;exact Ax (bS+1) jx o (by omega) (by simpa using gw) ap xY (by rcases ar with rfl | ar; exact .inl rfl; exact .inr ar)
  | false=>
   rw[eQ] at ay;simp only at ay;cases p with
   | zero=>
    simp only[aul,Option.some.injEq,Prod.mk.injEq] at ay;obtain⟨rfl,rfl⟩:=ay;obtain⟨o,h1,ad⟩:=am;rw[Lo] at h1; cases h1;rw[eQ] at ad; cases ad
   | succ p=>
    simp only[auF] at ay;refine M0 r _ _ p i hz az ay am j ?_ aH Gh ?_
    ·rcases ai with ai | ⟨gf,UO,ai⟩
     ·exact .inl (by simp[ai])
     ·cases gf with
      | zero=>simp only[aul,Option.some.injEq] at ai; exact .inl (by simp[ai])
      | succ gf=>exact .inr ⟨gf,by omega,by simpa using ai⟩
    ·intro bS jx o gc gw ap xY ar;exact Ax (bS+1) jx o (by omega) (by simpa using gw) ap xY (by rcases ar with rfl | ar; exact .inl rfl; exact .inr ar)
theorem Sa {ms:List Nat} {ops:Array Oper}:∀ {kj:List Nat},Cm ms ops kj=true->∀ (p bS i j:Nat) (o:Oper),kj[p]? = some i->kj[bS]? = some j->p<bS->ops[i]? = some o->kG o.op=true->pu ms j i=true
 | [],_,p,bS,i,j,o,ay,_,_,_,_=>by simp at ay
 | x::r,h,p,bS,i,j,o,ay,gc,aN,ap,am=>by
  simp only[Cm,atY] at h;cases bS with
  | zero=>omega
  | succ bS=>
   simp only[auF] at gc;cases p with
   | zero=>
    simp only[aul,Option.some.injEq] at ay;subst ay;rw[ap] at h;simp only[am,Bool.not_true,av7,auK] at h;exact h.1 j (at3 gc)
   | succ p=>exact Sa h.2 p bS i j o (by simpa using ay) gc (by omega) ap am
theorem Hn {α jY:Type} {f:α->Option jY}:∀ {l:List α} {r:List jY},l.mapM f=some r->∀ (p:Nat) (x:jY),r[p]? = some x->∃ a,l[p]? = some a/\f a=some x
 | [],r,h,p,x,af=>by simp at h; subst h; simp at af
 | a::l,r,h,p,x,af=>by
  rw[avA] at h;simp only[Option.bind_eq_bind,bind_some,avI,Option.some.injEq] at h;obtain⟨b,h1,ct,ad,rfl⟩:=h;cases p with
  | zero=>simp only[aul,Option.some.injEq] at af; subst af; exact⟨a,rfl,h1⟩
  | succ p=>obtain⟨e9,aj,aF⟩:=Hn ad p x (by simpa using af); exact⟨e9,by simpa using aj,aF⟩
theorem Mz {α jY:Type} {f:α->Option jY}:∀ {l:List α} {r:List jY},l.mapM f=some r->r.length=l.length
 | [],r,h=>by simp at h; subst h; rfl
 | a::l,r,h=>by
  rw[avA] at h;simp only[Option.bind_eq_bind,bind_some,avI,Option.some.injEq] at h;obtain⟨b,h1,ct,ad,rfl⟩:=h;simp[Mz ad]
theorem aeN (es:List (bN × a8 × ao)) (l' : ao) (n q:Nat) :uu (es.drop n) l' q=uu es l' (n+q) :=by
 unfold uu; rw[auC]
theorem abW {id N' : Nat} {ops:Array Oper} {xh:List eA} (bH:∀ (i:Nat) (o:Oper),ops[i]? = some o->p0 N' o.dst=true)
  (nI:MP (iI ops) ops (fH (iI ops) ops)=true) (aeM:Cm (iI ops) ops (fH (iI ops) ops)=true)
  (ch:(oz P (iI ops) ops (fH (iI ops) ops) [] []).mapM (fun p=>Es P ops p.1 p.2 (((oz P (iI ops) ops (fH (iI ops) ops) [] []).flatMap (·.2)).contains p.1))=some xh)
  {ae b4:a8} {l l' : ao} {es:List (bN × a8 × ao)} (tr:kq P G ops xh ae l [] es b4 l') :dA P G (.code (.region id ops true) N' ae (bU l) .normal b4 (bU l')) :=by
 simp only[MP,atY] at nI;obtain⟨⟨⟨⟨A0,po⟩,rV⟩,uY⟩,i5⟩:=nI;have LA:∀ i∈fH (iI ops) ops,i<ops.size:=fun i av=>by
  rw[auK] at uY;simpa [axb] using uY i av
 have US:(oz P (iI ops) ops (fH (iI ops) ops) [] []).map (·.1)=fH (iI ops) ops:=WX _ _ _ LA;have GQ:∀ (p:Nat) (x:eA),xh[p]? = some x->∃ o,pQ P ops x o/\(oz P (iI ops) ops (fH (iI ops) ops) [] [])[p]? = some (x.i,x.hz) ∧
   x.cy=((oz P (iI ops) ops (fH (iI ops) ops) [] []).flatMap (·.2)).contains x.i:=fun p x af=>by
  obtain⟨a,h1,ad⟩:=Hn ch p x af;obtain⟨o,aj,aF,aU,bt⟩:=Ia ad;exact⟨o,aj,by rw[h1,aF,aU],by rw[bt,aF]⟩
 have U7:∀ (p:Nat) (x:eA),xh[p]? = some x->(fH (iI ops) ops)[p]? = some x.i:=fun p x af=>by
  obtain⟨o,_,h1,_⟩:=GQ p x af;rw[<-US,at0,h1]; rfl
 have wm:∀ (p:Nat) (e:bN × a8 × ao),es[p]? = some e->∃ x,xh[p]? = some x/\x.i=e.1.idx:=fun p e am=>by
  have:=congrArg (·[p]?) tr.idx;simp only[at0,am,at1] at this;cases af:xh[p]? with
  | none=>rw[af] at this; cases this
  | some x=>rw[af] at this; simp only[at1,Option.some.injEq] at this; exact⟨x,rfl,this.symm⟩
 have sU:∀ (p:Nat) (e:bN × a8 × ao),es[p]? = some e->(fH (iI ops) ops)[p]? = some e.1.idx:=fun p e am=>by
  obtain⟨x,h1,ad⟩:=wm p e am;rw[U7 p x h1,ad]
 have dU:∀ (p:Nat) (t:bN),(es.map (·.1))[p]? = some t->∃ e,es[p]? = some e/\e.1=t:=fun p t aH=>by simpa using aH
 have yf:∀ (p:Nat) (e:bN × a8 × ao),es[p]? = some e->e.1.jA=true->∃ o,ops[e.1.idx]? = some o/\kG o.op=true/\(kS ops e.2.1 o=some true) :=fun p e am eQ=>by
  have g1:e.1.uM=false:=by cases h:e.1<;>rw[h] at eQ<;>first | rfl | cases eQ
  obtain⟨x,o,v,l1,xc,h1,ad,aj,aF⟩:=tr.split p e am g1;have Az:=(tr.at.1 p e am).1;have fJ:=aj.idx;have aG:=ad.here;rw[<-fJ] at aG;refine⟨o,aG,?_,?_⟩
  ·revert eQ;generalize e.1=t at aj;intro eQ;cases aj with
   | pure=>cases eQ
   | new=>cases eQ
   | gC am _=>exact am
  ·revert Az eQ aG;generalize e.1=t;intro eQ Az aG;cases t<;>first | (cases eQ; done) | skip
   obtain⟨cR,aU,bt,_⟩:=Az;simp only[bN.idx] at aG;rw[aG] at aU; cases aU;exact bt
 have go:zu ops (pu (iI ops)) (es.map (·.1)) :=by
  refine⟨abU A0,fun i av=>?_,fun p bS t gu ay gc am=>?_,fun p t ay=>?_,fun p bS t gu ay gc aN=>?_,fun p bS t gu ay gc aN eQ=>?_⟩
  ·rw[auK] at i5;have:=i5 i (by simpa using av);have hm:i∈fH (iI ops) ops:=by simpa using this
   have jn:(es.map (·.1)).map bN.idx=fH (iI ops) ops:=by
    rw[avF];show es.map (fun e=>e.1.idx)=_;rw[tr.idx,<-US];apply auD;intro p;rw[at0,at0];cases af:xh[p]? with
    | none=>
     have:(oz P (iI ops) ops (fH (iI ops) ops) [] [])[p]? = none:=by
      rw[av9] at af ⊢;rw[<-Mz ch]; exact af
     rw[this]; rfl
    | some x=>obtain⟨o,_,h1,_⟩:=GQ p x af; rw[h1]; rfl
   rw[<-jn] at hm;obtain⟨t,h1,ad⟩:=auo.1 hm;obtain⟨p,ay⟩:=avK h1;exact⟨p,t,ay,ad⟩
  ·obtain⟨e,aM,aT⟩:=dU p t ay;obtain⟨fw,uf,Cy⟩:=dU bS gu gc;have aX:=sU p e aM;have a6:=sU bS fw uf;rw[aT] at aX; rw[Cy] at a6;rcases au8 p bS with h | h | h
   ·exact absurd am (HE po p bS _ _ aX a6 h).1
   ·exact h
   ·exact absurd am.symm (HE po bS p _ _ a6 aX h).1
  ·obtain⟨e,aM,aT⟩:=dU p t ay;have aX:=sU p e aM;rw[aT] at aX;exact LA _ (at3 aX)
  ·obtain⟨e,aM,aT⟩:=dU p t ay;obtain⟨fw,uf,Cy⟩:=dU bS gu gc;have aX:=sU p e aM;have a6:=sU bS fw uf;rw[aT] at aX; rw[Cy] at a6;exact (HE po p bS _ _ aX a6 aN).2
  ·obtain⟨e,aM,aT⟩:=dU p t ay;obtain⟨fw,uf,Cy⟩:=dU bS gu gc;obtain⟨o,dW,dB,_⟩:=yf p e aM (by rw[aT]; exact eQ);have aX:=sU p e aM;have a6:=sU bS fw uf;rw[aT] at aX dW; rw[Cy] at a6;exact Sa aeM p bS _ _ o aX a6 aN dW dB
 have ke:∀ q,q<=es.length->(gY ops ⟨ae,bU l⟩ (es.map (·.1)) q).h=bU (uu es l' q) :=fun q aZ=>by
  unfold uu;cases am:es[q]? with
  | none=>
   have:q=es.length:=by rw[av9] at am; omega
   rw[this,tr.at.2]
  | some e=>rw[(tr.at.1 q e am).2]
 have qL:IH P G ops (pu (iI ops)) ⟨ae,bU l⟩ (es.map (·.1)) :=by
  refine⟨fun p t ay=>?_,fun q aZ p t aqn ay dH=>?_⟩
  ·obtain⟨e,aM,aT⟩:=dU p t ay;obtain⟨cW,dv⟩:=tr.at.1 p e aM;rw[dv,<-aT]; exact cW
  ·obtain⟨e,aM,aT⟩:=dU p t ay;obtain⟨cW,dv⟩:=tr.at.1 p e aM;have lG:q<=es.length:=by
    rcases aZ with rfl | ⟨al3,aZ,_⟩
    ·simp
    ·obtain⟨eq,a7,_⟩:=dU q al3 aZ;exact av0 (atU.1 a7).1
   rw[ke q lG,dv];cases g1:e.1.uM with
   | true=>rw[<-aT]; cases h:e.1<;>rw[h] at g1<;>first | trivial | cases g1
   | false=>
    obtain⟨x,o,v,l1,xc,h1,ad,aj,aF⟩:=tr.split p e aM g1;obtain⟨cR,gE,gy,afo⟩:=GQ p x h1;have mm:cR=o:=by have a:=gE.here; have b:=ad.here; rw[a] at b; exact Option.some.inj b
    subst mm;have ask:tB P cR.op=true->∀ (bS:Nat) (fw:bN × a8 × ao),bS<q - (p+1)->(es.drop (p+1))[bS]? = some fw->fw.1.jA=true->
      (x.i,lW P G x.b e.2.1 v e.2.2 l1)∈r0 x.cy x.i (lW P G x.b e.2.1 v e.2.2 l1) xc/\∃ y,(xh.drop (p+1))[bS]? = some y/\x.i∈y.hz:=by
     intro aH bS fw gc ga xY;rw[auC] at ga;obtain⟨y,b6,bJ⟩:=wm _ fw ga;obtain⟨ti,c0,di,_⟩:=GQ _ y b6;obtain⟨aiQ,i4,ahy,aqL⟩:=yf _ fw ga xY;have dQ:x.i∈y.hz:=by
      refine M0 _ _ _ _ _ _ LA di ⟨aiQ,by rw[bJ]; exact i4,ahy⟩ x.i (.inr ⟨p,by omega,U7 p x h1⟩) ⟨cR,ad.here,aH⟩ (fun e am=>by cases am) ?_;intro tj LV Hv aqi ae5 UM FR ar
      -- what is at p'' was carried out
      have aN:tj<es.length:=by
       have:=(atU.1 ga).1;omega
      have jn:es[tj]? = some es[tj] :=atX aN;have fm:=sU _ _ jn;rw[ae5] at fm;have uw:LV=es[tj].1.idx:=Option.some.inj fm;have adJ:es[tj].1.jA=true:=by
       cases Dk:es[tj].1.uM with
       | true=>
        exfalso;rcases ar with rfl | ar
        ·rw[jn] at ga;cases ga;cases h:es[p+1+bS].1<;>rw[h] at xY Dk<;>first | (cases Dk; done) | (cases xY; done)
        ·have Az:=(tr.at.1 _ _ jn).1;cases h:es[tj].1<;>rw[h] at Dk Az uw<;>first | (cases Dk; done) | skip
         obtain⟨rV,kL,ki⟩:=Az;simp only[bN.idx] at uw;rw[<-uw,UM] at kL; cases kL;simp[kS,ar] at ki
       | false=>
        obtain⟨Bx,rV,v3,fe,atn,kL,ki,wP,_⟩:=tr.split _ _ jn Dk;have ae7:=wP.idx;have Ua:=ki.here;rw[<-ae7,<-uw,UM] at Ua; cases Ua;revert wP;generalize es[tj].1=t3;intro wP;cases wP with
        | pure m ag hm _ _=>
         exfalso;have ah:=ki.gV m ag;have:kG Hv.op=false:=by
          revert ah hm;cases Hv.op<;>simp only[nr]<;>intro hm ah<;>first | rfl | (exfalso; revert ah hm; done) | skip
          case store=>rw[map_some] at ah; obtain⟨_,_,rfl⟩:=ah; cases hm
          case call c=>
           split at ah
           ·rename_i b ag;unfold kG;simp only[ag];unfold vO at ah
            repeat' split at ah
            all_goals first
             | rfl
             | (cases ah; done)
             | (cases ah; cases hm; done)
             | (simp only[bind_some,map_some] at ah; obtain⟨_,_,rfl⟩:=ah; cases hm; done)
             | (simp only[bind_some,map_some] at ah; obtain⟨_,_,_,_,rfl⟩:=ah; cases hm; done)
             | (simp only[bind_some,im] at ah; obtain⟨_,_,_,_,_,_,_,rfl⟩:=ah; cases hm; done)
             | (simp only[bind_some,im] at ah; obtain⟨_,_,_,_,_,_,_,_,_,rfl⟩:=ah; cases hm; done)
           ·split at ah
            ·rw[im] at ah; obtain⟨_,rfl⟩:=ah; cases hm
            ·cases ah
           ·cases ah
          case next it b=>(cases b<;>simp only[reduceCtorEq] at ah<;>cases ah<;>cases hm)
          case lookup=>split at ah<;>(try cases ah; done); rw[map_some] at ah; obtain⟨_,_,rfl⟩:=ah; cases hm
          case mapUpdate=>split at ah<;>cases ah; cases hm
          case insert=>split at ah<;>cases ah; cases hm
          case panic=>(cases ah; cases hm)
          case makeMap=>split at ah<;>cases ah; cases hm
          case range=>split at ah<;>cases ah; cases hm
          case typeAssert=>rw[map_some] at ah; obtain⟨_,_,rfl⟩:=ah; cases hm
          all_goals (cases ah)
         rw[this] at FR; cases FR
        | new m cs ag hm _=>
         exfalso;have ah:=ki.gV m ag;have:kG Hv.op=false:=by
          revert ah hm;cases Hv.op<;>simp only[nr]<;>intro hm ah<;>first | rfl | (exfalso; revert ah hm; done) | skip
          case store=>rw[map_some] at ah; obtain⟨_,_,rfl⟩:=ah; cases hm
          case panic=>(cases ah; cases hm)
          case call c=>
           split at ah
           ·rename_i b ag;unfold kG;simp only[ag];unfold vO at ah
            repeat' split at ah
            all_goals first
             | rfl
             | (cases ah; done)
             | (cases ah; cases hm; done)
             | (simp only[bind_some,map_some] at ah; obtain⟨_,_,rfl⟩:=ah; cases hm; done)
             | (simp only[bind_some,map_some] at ah; obtain⟨_,_,_,_,rfl⟩:=ah; cases hm; done)
             | (simp only[bind_some,im] at ah; obtain⟨_,_,_,_,_,_,_,rfl⟩:=ah; cases hm; done)
             | (simp only[bind_some,im] at ah; obtain⟨_,_,_,_,_,_,_,_,_,rfl⟩:=ah; cases hm; done)
           ·split at ah
            ·rw[im] at ah; obtain⟨_,rfl⟩:=ah; cases hm
            ·cases ah
           ·cases ah
          case next it b=>(cases b<;>simp only[reduceCtorEq] at ah<;>cases ah<;>cases hm)
          case lookup=>split at ah<;>(try cases ah; done); rw[map_some] at ah; obtain⟨_,_,rfl⟩:=ah; cases hm
          case mapUpdate=>split at ah<;>cases ah; cases hm
          case insert=>split at ah<;>cases ah; cases hm
          case makeMap=>split at ah<;>cases ah; cases hm
          case range=>split at ah<;>cases ah; cases hm
          case typeAssert=>rw[map_some] at ah; obtain⟨_,_,rfl⟩:=ah; cases hm
          all_goals (cases ah)
         rw[this] at FR; cases FR
        | gC _ _=>rfl
      have:=dH tj es[tj].1 (by omega) (by simp[jn]) adJ;rw[uw,ad.here |> fun _=>(aj.idx).symm,aT];exact this
     refine⟨?_,y,by rw[auC]; exact b6,dQ⟩;have:x.cy=true:=by
      rw[afo];simp only[List.contains_iff_mem,awS];exact⟨(y.i,y.hz),at3 di,dQ⟩
     rw[this];exact awI
    have FH:tB P cR.op=true->(∀ l Bw,lW P G x.b e.2.1 v e.2.2 l1 l->lW P G x.b e.2.1 v e.2.2 l1 (l++Bw))->lW P G x.b e.2.1 v e.2.2 l1 l1->lW P G x.b e.2.1 v e.2.2 l1 (uu es l' q) :=by
     intro aH qi aE;have:=aF.still x.i _ qi aE (q - (p+1)) (by simp only[au4]; omega) (ask aH)
     rwa [aeN,show p+1+(q - (p+1))=q by omega] at this
    rw[<-aT];revert aj FH ask aT;generalize e.1=t1;intro aT aj ask FH;cases aj with
    | gC=>trivial
    | pure m ag hm al ak=>
     intro po lE;rw[ad.here] at lE; cases lE;have ah:=ad.gV m ag;cases az:m.reads with
     | false=>exact Ht ah (aie hm az ak)
     | true=>
      have aH:tB P cR.op=true:=by
       cases h:tB P cR.op with
       | true=>rfl
       | false=>rw[(RW ah h).1] at az; cases az
      have yt:m.i1=false:=by cases m<;>first | rfl | cases az
      have ch:∀ bX,lW P G x.b e.2.1 v e.2.2 l1 bX<->bQ P (c2 G e.2.1) bX m=some (v,bX) :=fun bX=>by rw[ag]; simp only[lW,yt]
      have:=FH aH (fun bX Bw h=>by rw[ch] at h ⊢; exact aid hm h) (by rw[ch,al]; exact ak);rw[ch] at this;exact Ht ah this
    | new m cs ag hm al=>
     have ah:=ad.gV m ag;have aH:tB P cR.op=true:=by
      cases h:tB P cR.op with
      | true=>rfl
      | false=>rw[(RW ah h).2] at hm; cases hm
     have ch:∀ bX:ao,lW P G x.b e.2.1 v e.2.2 l1 bX<->bX[e.2.2.length]? = some (.cells cs.length cs) :=fun bX=>by
      rw[ag,al]; simp only[lW,hm]; rw[at8 (atW _)]; simp
     have:=FH aH (fun bX Bw h=>by rw[ch] at h ⊢; rw[atV (e1 h)]; exact h) (by rw[ch,al,at8 (atW _)]; simp);rw[ch] at this;show (bU (uu es l' q)).f (bU e.2.2).n=_;rw[pM,vk,this]
 have:=dA.abT (id:=id) go bH qL;rw[auh,tr.at.2] at this;exact this
end

section
variable {P:Program} {G:Nat->U}
theorem OX {ops:Array Oper} {f:Nat->Option eA}:∀ {is:List Nat} {s:List eA} {os:List Oper},(∀ i x,f i=some x->∃ o,pQ P ops x o/\x.i=i)->is.mapM f=some s->is.map (fun i=>ops[i]?)=os.map some->zp P ops s os
 | [],s,os,aD,h,ap=>by
  simp at h; subst h;cases os with
  | nil=>exact .nil
  | cons=>simp at ap
 | i::is,s,os,aD,h,ap=>by
  rw[avA] at h;simp only[Option.bind_eq_bind,bind_some,avI,Option.some.injEq] at h;obtain⟨x,h1,fp,ad,rfl⟩:=h;cases os with
  | nil=>simp at ap
  | cons o os=>
   simp only[aus,List.cons.injEq] at ap;obtain⟨cR,ok,av⟩:=aD i x h1;have:cR=o:=by have:=ok.here; rw[av,ap.1] at this; exact (Option.some.inj this).symm
   subst this;exact .cons ok (OX aD ad ap.2)
theorem abx {N N' id:Nat} (fv:N<=N') {ops:Array Oper} {draw:Bool} {c:fW} (ah:Ju P N ops draw=some c) {ae:a8} {l:ao} {K:hd} (h:run P G c ae l K) :
  ∃ e b4 l',dA P G (.code (.region id ops draw) N' ae (bU l) e b4 (bU l'))/\l.length<=l'.length/\K e b4 l':=by
 unfold Ju at ah;split at ah
 ·cases ah
 ·rename_i qe;have bH:∀ (i:Nat) (o:Oper),ops[i]? = some o->p0 N' o.dst=true:=fun i o ap=>by
   rw[auK] at qe;have:=qe o (by simpa using Array.mem_of_getElem? ap);unfold p0 at this ⊢;split at this
   ·rename_i d _; exact decide_eq_true (awf (of_decide_eq_true this) fv)
   ·rfl
  split at ah
  ·rw[map_some] at ah;obtain⟨s,h1,rfl⟩:=ah;have eH:zp P ops s ops.toList:=by
    refine OX (fun i x af=>?_) h1 ?_
    ·obtain⟨o,ad,aj,_⟩:=Ia af; exact⟨o,ad,aj⟩
    ·apply auD;intro p;rw[at0,at0];by_cases ay:p<ops.size
     ·rw[auw ay]; simp[ay]
     ·rw[at6 (by simp; omega),at6 (by simp; omega)]; rfl
   obtain⟨b4,l',ad,aj,aF⟩:=Nz bH eH h;exact⟨.normal,b4,l',.region ad,aj,aF⟩
  ·simp only at ah;split at ah
   ·cases ah
   ·rename_i KH;simp only[atY] at KH;split at ah
    ·cases ah
    ·rename_i s ak;have df:∀ x∈s,∃ o,pQ P ops x o:=fun x af=>by
      obtain⟨p,ay⟩:=avK af;obtain⟨a,_,ad⟩:=Hn ak p x ay;obtain⟨o,aj,_⟩:=Ia ad;exact⟨o,aj⟩
     have fin:jV P G s ae l [] (K .normal)->∃ e b4 l',dA P G (.code (.region id ops true) N' ae (bU l) e b4 (bU l'))/\l.length<=l'.length/\K e b4 l':=fun h=>by
      obtain⟨es,b4,l',h1,ad⟩:=Nv df h;exact⟨.normal,b4,l',abW bH KH.1 KH.2 ak h1,h1.len,ad⟩
     split at ah
     ·rename_i Ab;cases ah;refine fin (Nx (fun x af=>?_) h)
      obtain⟨p,ay⟩:=avK af;obtain⟨a,_,ad⟩:=Hn ak p x ay;obtain⟨o,_,_,_,aj⟩:=Ia ad;rw[aj,Ab]; rfl
     ·cases ah;exact fin h
theorem akE {N N' : Nat} (fv:N<=N') :∀ (code:Code) (c:fW),comp P N code=some c->∀ (ae:a8) (l:ao) (K:hd),run P G c ae l K->
  ∃ e b4 l',dA P G (.code code N' ae (bU l) e b4 (bU l'))/\l.length<=l'.length/\K e b4 l':=by
 intro code
 induction code with
 | skip=>intro c ah ae l K h; cases ah; exact⟨_,_,_,.skip _ _ _,atW _,h⟩
 | label n=>intro c ah ae l K h; cases ah; exact⟨_,_,_,.label _ _ _ _,atW _,h⟩
 | ret=>intro c ah ae l K h; cases ah; exact⟨_,_,_,.ret _ _ _,atW _,h⟩
 | exit id=>intro c ah ae l K h; cases ah; exact⟨_,_,_,.exit _ _ _ _,atW _,h⟩
 | region id ops draw=>intro c ah ae l K h; exact abx fv ah h
 | seq a b LY LZ=>
  intro c ah ae l K h;have mk:∀ (zG pV:fW),comp P N a=some zG->comp P N b=some pV->run P G zG ae l (ot (fun ae l=>run P G pV ae l K) K)->∃ e b4 l',dA P G (.code (.seq a b) N' ae (bU l) e b4 (bU l'))/\l.length<=l'.length/\K e b4 l':=by
   intro zG pV ax ag h;obtain⟨e,jb,l1,h1,ad,aj⟩:=LY zG ax ae l _ h;cases e with
   | normal=>
    obtain⟨e,OG,bX,aF,aU,bt⟩:=LZ pV ag jb l1 K aj;exact⟨e,OG,bX,.X8 h1 aF,avn ad aU,bt⟩
   | exit id=>exact⟨_,jb,l1,.NL h1 (by intro h; cases h),ad,aj⟩
   | ret=>exact⟨_,jb,l1,.NL h1 (by intro h; cases h),ad,aj⟩
  simp only[comp] at ah;split at ah
  ·rename_i br ax ag;cases ah;exact mk _ _ ax ag h
  ·rename_i e9 _ ax ag;cases ah;refine mk _ _ ax ag ?_;have:ot (fun ae l=>run P G .skip ae l K) K=K:=by
    funext e ae l;cases e<;>rfl
   rw[this]; exact h
  ·rename_i e9 br _ _ ax ag;cases ah;exact mk _ _ ax ag h
  ·cases ah
 | cond c x y L2 L3=>
  intro Fe ah ae l K h;simp only[comp] at ah;split at ah
  ·rename_i jX EJ af aA;cases ah;simp only[run,yL] at h;split at h
   ·rename_i b ag;rw[DG] at h;rcases h with ⟨rfl,h⟩ | ⟨rfl,h⟩
    ·obtain⟨e,jb,l1,h1,ad,aj⟩:=L2 jX af ae l K h;exact⟨e,jb,l1,.cond ag h1,ad,aj⟩
    ·obtain⟨e,jb,l1,h1,ad,aj⟩:=L3 EJ aA ae l K h;exact⟨e,jb,l1,.cond ag h1,ad,aj⟩
   ·cases h
  ·cases ah
 | block id c aI=>
  intro Fe ah ae l K h;simp only[comp,map_some] at ah;obtain⟨c',h1,rfl⟩:=ah;obtain⟨e,jb,l1,ad,aj,aF⟩:=aI c' h1 ae l _ h;cases e with
  | normal=>exact⟨_,jb,l1,.E5 ad (by intro h; cases h),aj,aF⟩
  | ret=>exact⟨_,jb,l1,.E5 ad (by intro h; cases h),aj,aF⟩
  | exit s2=>
   simp only[rH] at aF;split at aF
   ·rename_i ag;obtain rfl:=kM ag;exact⟨_,jb,l1,.Pr ad,aj,aF⟩
   ·rename_i ag;exact⟨_,jb,l1,.E5 ad (by intro h; cases h; rw[awQ] at ag; cases ag),aj,aF⟩
 | loop c aI=>
  intro Fe ah ae l K h;simp only[comp,map_some] at ah;obtain⟨c',h1,rfl⟩:=ah;obtain⟨n,h⟩:=h
  induction n generalizing ae l with
  | zero=>cases h
  | succ n L1=>
   obtain⟨e,jb,l1,ad,aj,aF⟩:=aI c' h1 ae l _ h;cases e with
   | normal=>
    obtain⟨e,OG,bX,aU,bt,c8⟩:=L1 jb l1 aF;exact⟨e,OG,bX,.AR ad aU,avn aj bt,c8⟩
   | exit id=>exact⟨_,jb,l1,.Ms ad (by intro h; cases h),aj,aF⟩
   | ret=>exact⟨_,jb,l1,.Ms ad (by intro h; cases h),aj,aF⟩
 | scope c aI=>
  intro Fe ah ae l K h;obtain⟨e,jb,l1,ad,aj,aF⟩:=aI Fe ah ae l K h;exact⟨e,jb,l1,.scope ad,aj,aF⟩
 | _=>intro c ah; cases ah
def Jt (P:Program) :ResultVar->Option dk
 | .tmp t=>some (.gd (.tmp t))
 | .cell a t=>nr P (.load t (.tmp a))
def vQ (P:Program) (f:FuncId) :Option (List dk) :=match P.funcs[f]? with
 | some fn=>fn.results.toList.mapM (Jt P)
 | none=>none
def oq (P:Program) (G:Nat->U) (K:U->ao->Prop) (ae:a8) (l:ao) :List dk->List U->Prop
 | [],acc=>K (xj acc) l
 | m::r,acc=>W (bQ P (c2 G ae) l m) (c:=⟨fun x=>oq P G K ae l r (acc++[x.1])⟩)
def DF (P:Program) (G:Nat->U) (ms:List dk) (K:U->ao->Prop) :hd:=fun e ae l=>match e with
 | .exit _=>False
 | .normal=>oq P G K ae l ms []
 | .ret=>oq P G K ae l ms []
def zB (args:List U) :a8:=fun t=>args.getD t hv
theorem VE {K:U->ao->Prop} {ae:a8} {l:ao}:∀ {nT:List ResultVar} {ms:List dk} {acc:List U},nT.mapM (Jt P)=some ms->oq P G K ae l ms acc->∃ vs,w6 P (bU l) ae nT=some vs/\K (xj (acc++vs)) l
 | [],ms,acc,hm,h=>by simp at hm; subst hm; exact⟨[],rfl,by simpa [oq] using h⟩
 | r::nT,ms,acc,hm,h=>by
  rw[avA] at hm;simp only[Option.bind_eq_bind,bind_some,avI,Option.some.injEq] at hm;obtain⟨m,h1,asK,ad,rfl⟩:=hm;simp only[oq,zx] at h;obtain⟨⟨v,l1⟩,aj,aF⟩:=h;obtain⟨vs,aU,bt⟩:=VE ad aF;refine⟨v::vs,?_,by simpa using bt⟩;have:Bg P (bU l) ae r=some v:=by
   cases r with
   | tmp t=>cases h1; simp only[bQ,Option.some.injEq,Prod.mk.injEq] at aj; rw[<-aj.1]; rfl
   | cell a t=>
    have cN:nr P (.load t (.tmp a))=some m:=h1;have:=Ht cN aj;simp only[c5] at this;unfold Bg;show s7 P (bU l) t (c2 G ae (.tmp a))=some v;cases al:s7 P (bU l) t (c2 G ae (.tmp a)) with
    | none=>rw[al] at this; cases this
    | some x=>rw[al] at this; simp only[at1,Option.some.injEq,pO.val.injEq] at this; rw[this.1]
  simp only[w6,this,aU]
theorem Fc {f:FuncId} {c:fW} {ms:List dk} (ah:vP P f=some c) (az:vQ P f=some ms) {args:List U} {l:ao} {K:tH}
  (h:run P G c (zB args) l (DF P G ms K.k)) :cY P G f args l (c:=K) :=by
 unfold vP at ah;unfold vQ at az;split at ah
 ·rename_i fn ky;split at ah
  ·rename_i body ag;rw[ky] at az;obtain⟨e,b4,l',h1,ad,aj⟩:=akE (N':=args.length+(fn.ntmps - args.length)) (by omega) body c ah _ _ _ h;have fin:(e=.normal\/e=.ret)->oq P G K.k b4 l' ms []->cY P G f args l (c:=K) :=fun am aj=>by
    obtain⟨vs,aF,aU⟩:=VE az aj;exact⟨xj vs,l',.inline ky ag h1 am (by simp only[H0,aF]; rfl),ad,by simpa using aU⟩
   cases e with
   | normal=>exact fin (.inl rfl) aj
   | ret=>exact fin (.inr rfl) aj
   | exit id=>cases aj
  ·cases ah
 ·cases ah
theorem Yq {b:qU} {ae:a8} {l:ao} {K gI:U->ao->Prop} (aV:∀ v l,K v l->gI v l) (h:hW P G b ae l K) :hW P G b ae l gI:=by
 cases b with
 | gV m=>simp only[hW,zx] at h ⊢; obtain⟨v,h1,ad⟩:=h; exact⟨v,h1,VS aV ad⟩
 | mG f args=>obtain⟨r,l',h1,ad,aj⟩:=h; exact⟨r,l',h1,ad,aV _ _ aj⟩
 | nm x args=>
  simp only[hW,vE] at h ⊢;split at h
  ·obtain⟨aE,r,l',h1,ad,aj⟩:=h; exact⟨aE,r,l',h1,ad,aV _ _ aj⟩
  ·cases h
 | n4 x name args=>
  simp only[hW,vD] at h ⊢;split at h
  ·split at h
   ·obtain⟨aE,r,l',h1,ad,aj⟩:=h; exact⟨aE,r,l',h1,ad,aV _ _ aj⟩
   ·cases h
  ·cases h
theorem VC {ae:a8} {g:Option (Option Tmp × Bool)} {p q bS fF:Prop} (ay:p->bS) (aZ:q->fF) (h:qA ae g p q) :qA ae g bS fF:=by
 unfold qA at h ⊢;split at h
 ·exact ay h
 ·simp only[rI] at h ⊢;split at h
  ·rw[DG] at h ⊢;rcases h with ⟨a,b⟩ | ⟨a,b⟩
   ·exact .inl ⟨a,ay b⟩
   ·exact .inr ⟨a,aZ b⟩
  ·cases h
  ·exact aZ h
 ·exact aZ h
theorem Ny {K gI:a8->ao->Prop} (aV:∀ ae l,K ae l->gI ae l) :∀ {s:List eA} {ae:a8} {l:ao},jF P G s ae l K->jF P G s ae l gI
 | [],_,_,h=>aV _ _ h
 | s::r,_,_,h=>VC (Yq fun _ _ h=>Ny aV h) (fun h=>Ny aV h) h
theorem Nu {K gI:a8->ao->Prop} (aV:∀ ae l,K ae l->gI ae l) :∀ {s:List eA} {ae:a8} {l:ao} {seen:iy},jV P G s ae l seen K->jV P G s ae l seen gI
 | [],_,_,_,h=>aV _ _ h
 | s::r,_,_,_,h=>VC (Yq fun _ _ h=>⟨h.1,Nu aV h.2⟩) (fun h=>Nu aV h) h
theorem DH {k k' : a8->ao->Prop} {K gI:hd} (hk:∀ ae l,k ae l->k' ae l) (aV:∀ e ae l,K e ae l->gI e ae l) :∀ e ae l,ot k K e ae l->ot k' gI e ae l:=by
 intro e ae l h; cases e<;>first | exact hk _ _ h | exact aV _ _ _ h
theorem ND:∀ {c:fW} {ae:a8} {l:ao} {K gI:hd},(∀ e ae l,K e ae l->gI e ae l)->run P G c ae l K->run P G c ae l gI:=by
 intro c
 induction c with
 | skip=>intro ae l K gI aV h; exact aV _ _ _ h
 | ret=>intro ae l K gI aV h; exact aV _ _ _ h
 | exit id=>intro ae l K gI aV h; exact aV _ _ _ h
 | w5 s=>intro ae l K gI aV h; exact Ny (aV _) h
 | xL s=>intro ae l K gI aV h; exact Nu (aV _) h
 | seq a b LY LZ=>intro ae l K gI aV h; exact LY (DH (fun ae l h=>LZ aV h) aV) h
 | cond c x y L2 L3=>
  intro ae l K gI aV h;simp only[run,yL] at h ⊢;split at h
  ·rw[DG] at h ⊢;rcases h with ⟨a,b⟩ | ⟨a,b⟩
   ·exact .inl ⟨a,L2 aV b⟩
   ·exact .inr ⟨a,L3 aV b⟩
  ·cases h
 | block id c aI=>
  intro ae l K gI aV h;refine aI (fun e ae l h=>?_) h;cases e with
  | normal=>exact aV _ _ _ h
  | ret=>exact aV _ _ _ h
  | exit s2=>
   simp only[rH] at h ⊢;split at h
   ·exact aV _ _ _ h
   ·exact aV _ _ _ h
 | loop c aI=>
  intro ae l K gI aV h;obtain⟨n,h⟩:=h;refine⟨n,?_⟩
  induction n generalizing ae l with
  | zero=>cases h
  | succ n L1=>exact aI (DH (fun ae l h=>L1 h) aV) h
theorem cY.mono {f:FuncId} {args:List U} {l:ao} {K gI:tH} (aV:∀ v l,K.k v l->gI.k v l) (h:cY P G f args l (c:=K)) :cY P G f args l (c:=gI) :=by
 obtain⟨r,l',h1,ad,aj⟩:=h; exact⟨r,l',h1,ad,aV _ _ aj⟩
theorem uS {c:fW} {K:IA} (I:Nat->a8->ao->Prop) (step:∀ n ae l,I n ae l->run P G c ae l (ot (fun ae l=>∃ g6,g6<n/\I g6 ae l) K.k)) :∀ n ae l,I n ae l->EM (run P G c) ae l (c:=K) :=by
 intro n
 induction n using Nat.strongRecOn with
 | _ n aI=>
  intro ae l h
  -- fuel n+1 is enough
  have CB:∀ (m n:Nat),n<=m->∀ ae l,I n ae l->AR (run P G c) (m+1) ae l K.k:=by
   intro m
   induction m with
   | zero=>
    intro n aC ae l h;obtain rfl:n=0:=by omega
    exact ND (DH (fun ae l ⟨g6,h1,_⟩=>by omega) (fun _ _ _ h=>h)) (step 0 ae l h)
   | succ m L0=>
    intro n aC ae l h;exact ND (DH (fun ae l ⟨g6,h1,ad⟩=>L0 g6 (by omega) ae l ad) (fun _ _ _ h=>h)) (step n ae l h)
  exact⟨n+1,CB n n (atW _) ae l h⟩
theorem cF {c:fW} {K:IA} (n:Nat) (I:Nat->a8->ao->Prop) (step:∀ k ae l,k<=n->I k ae l->run P G c ae l (ot (fun ae l=>k<n/\I (k+1) ae l) K.k)) {ae:a8} {l:ao} (h:I 0 ae l) :EM (run P G c) ae l (c:=K) :=by
 refine uS (fun m ae l=>∃ k,k+m=n/\I k ae l) (fun m ae l ⟨k,hk,h⟩=>?_) n ae l ⟨0,by omega,h⟩;exact ND (DH (fun ae l ⟨h1,ad⟩=>⟨m - 1,by omega,k+1,by omega,ad⟩) (fun _ _ _ h=>h)) (step k ae l (by omega) h)
end

section
variable {P:Program} {G:Nat->U}
@[simp ↓] theorem atm (ae:a8) (l:ao) (K:hd) :run P G .skip ae l K=K .normal ae l:=id rfl
@[simp ↓] theorem atk (ae:a8) (l:ao) (K:hd) :run P G .ret ae l K=K .ret ae l:=id rfl
@[simp ↓] theorem ath (i:Nat) (ae:a8) (l:ao) (K:hd) :run P G (.exit i) ae l K=K (.exit i) ae l:=id rfl
@[simp ↓] theorem atj (s:List eA) (ae:a8) (l:ao) (K:hd) :run P G (.w5 s) ae l K=jF P G s ae l (K .normal) :=id rfl
@[simp ↓] theorem atg (s:List eA) (ae:a8) (l:ao) (K:hd) :run P G (.xL s) ae l K=jV P G s ae l [] (K .normal) :=id rfl
@[simp ↓] theorem atl (a b:fW) (ae:a8) (l:ao) (K:hd) :run P G (.seq a b) ae l K=run P G a ae l (ot (fun ae l=>run P G b ae l K) K) :=id rfl
@[simp ↓] theorem atf (c:Operand) (x y:fW) (ae:a8) (l:ao) (K:hd) :run P G (.cond c x y) ae l K=yL (c2 G ae c) (c:=⟨run P G x ae l K,run P G y ae l K⟩) :=id rfl
@[simp ↓] theorem ate (i:Nat) (c:fW) (ae:a8) (l:ao) (K:hd) :run P G (.block i c) ae l K=run P G c ae l (rH i K) :=id rfl
@[simp ↓] theorem ati (c:fW) (ae:a8) (l:ao) (K:hd) :run P G (.loop c) ae l K=EM (run P G c) ae l (c:=⟨K⟩) :=id rfl
@[simp ↓] theorem aq4 (k:a8->ao->Prop) (K:hd) (ae:a8) (l:ao) :ot k K .normal ae l=k ae l:=id rfl
@[simp ↓] theorem aq3 (k:a8->ao->Prop) (K:hd) (i:Nat) (ae:a8) (l:ao) :ot k K (.exit i) ae l=K (.exit i) ae l:=id rfl
@[simp ↓] theorem aq5 (k:a8->ao->Prop) (K:hd) (ae:a8) (l:ao) :ot k K .ret ae l=K .ret ae l:=id rfl
@[simp ↓] theorem aqN (i:Nat) (K:hd) (ae:a8) (l:ao) :rH i K .normal ae l=K .normal ae l:=id rfl
@[simp ↓] theorem aqO (i:Nat) (K:hd) (ae:a8) (l:ao) :rH i K .ret ae l=K .ret ae l:=id rfl
def wJ (p:Prop) [Decidable p] [c:BK] :Prop:=if p then c.p else c.q
@[simp ↓] theorem aqM (i j:Nat) (K:hd) (ae:a8) (l:ao) :rH i K (.exit j) ae l=wJ (j=i) (c:=⟨K .normal ae l,K (.exit j) ae l⟩) :=by
 unfold rH wJ;by_cases h:j=i
 ·simp only[tb h,if_pos h]
 ·simp only[jU h,if_neg h]
@[simp ↓] theorem aqT (i:Nat) (x y:Prop) :wJ (i=i) (c:=⟨x,y⟩)=x:=by simp[wJ]
@[simp] theorem aqU (x y:Prop) :wJ True (c:=⟨x,y⟩)=x:=by simp[wJ]
@[simp] theorem aqS (x y:Prop) :wJ False (c:=⟨x,y⟩)=y:=by simp[wJ]
@[simp ↓] theorem aqQ (ms:List dk) (K:U->ao->Prop) (ae:a8) (l:ao) :DF P G ms K .normal ae l=oq P G K ae l ms [] :=id rfl
@[simp ↓] theorem aqR (ms:List dk) (K:U->ao->Prop) (ae:a8) (l:ao) :DF P G ms K .ret ae l=oq P G K ae l ms [] :=id rfl
@[simp ↓] theorem aq2 (K:U->ao->Prop) (ae:a8) (l:ao) (acc:List U) :oq P G K ae l [] acc=K (xj acc) l:=id rfl
@[simp ↓] theorem aq1 (K:U->ao->Prop) (ae:a8) (l:ao) (m:dk) (r:List dk) (acc:List U) :oq P G K ae l (m::r) acc=W (bQ P (c2 G ae) l m) (c:=⟨fun x=>oq P G K ae l r (acc++[x.1])⟩) :=id rfl
@[simp] theorem aty (v:U) :xj [v]=v:=id rfl
@[simp] theorem atz (v w:U) (r:List U) :xj (v::w::r)=.bE (v::w::r) :=id rfl
@[simp ↓] theorem atd (ae:a8) (l:ao) (K:a8->ao->Prop) :jF P G [] ae l K=K ae l:=id rfl
@[simp ↓] theorem atc (i:Nat) (dst:Option Tmp) (m:dk) (c:List Nat) (k:Bool) (r:List eA) (ae:a8) (l:ao) (K:a8->ao->Prop) :
  jF P G (⟨i,dst,none,.gV m,c,k⟩::r) ae l K=W (bQ P (c2 G ae) l m) (c:=⟨fun x=>eI m x.1 x.2 fun v l'=>jF P G r (ht ae dst v) l' K⟩) :=id rfl
@[simp ↓] theorem as8 (i:Nat) (dst:Option Tmp) (f:FuncId) (args:List Operand) (c:List Nat) (k:Bool) (r:List eA) (ae:a8) (l:ao) (K:a8->ao->Prop) :
  jF P G (⟨i,dst,none,.mG f args,c,k⟩::r) ae l K=cY P G f (args.map (c2 G ae)) l (c:=⟨fun v l'=>jF P G r (ht ae dst v) l' K⟩) :=id rfl
@[simp ↓] theorem ata (i:Nat) (dst:Option Tmp) (x:Operand) (args:List Operand) (c:List Nat) (k:Bool) (r:List eA) (ae:a8) (l:ao) (K:a8->ao->Prop) :
  jF P G (⟨i,dst,none,.nm x args,c,k⟩::r) ae l K=vE P G (c2 G ae x) (args.map (c2 G ae)) l (c:=⟨fun v l'=>jF P G r (ht ae dst v) l' K⟩) :=id rfl
@[simp ↓] theorem as9 (i:Nat) (dst:Option Tmp) (x:Operand) (name:String) (args:List Operand) (c:List Nat) (k:Bool) (r:List eA) (ae:a8) (l:ao) (K:a8->ao->Prop) :
  jF P G (⟨i,dst,none,.n4 x name args,c,k⟩::r) ae l K=vD P G name (c2 G ae x) (args.map (c2 G ae)) l (c:=⟨fun v l'=>jF P G r (ht ae dst v) l' K⟩) :=id rfl
@[simp ↓] theorem aox (name:String) (t:TypeId) (v:U) (args:List U) (l:ao) (c:tH) :
  vD P G name (.gQ t v) args l (c:=c)=(match yV P t name with | some g=>hE P g=true/\cY P G g (v::args) l (c:=c) | none=>False) :=id rfl
@[simp ↓] theorem atb (i:Nat) (dst:Option Tmp) (d:Tmp) (w:Bool) (b:qU) (c:List Nat) (k:Bool) (r:List eA) (ae:a8) (l:ao) (K:a8->ao->Prop) :
  jF P G (⟨i,dst,some (some d,w),b,c,k⟩::r) ae l K=rI (ae d) w (c:=⟨jF P G (⟨i,dst,none,b,c,k⟩::r) ae l K,jF P G r (ht ae dst hv) l K⟩) :=id rfl
@[simp ↓] theorem as7 (ae:a8) (l:ao) (seen:iy) (K:a8->ao->Prop) :jV P G [] ae l seen K=K ae l:=id rfl
@[simp ↓] theorem as6 (i:Nat) (dst:Option Tmp) (m:dk) (c:List Nat) (k:Bool) (r:List eA) (ae:a8) (l:ao) (seen:iy) (K:a8->ao->Prop) :
  jV P G (⟨i,dst,none,.gV m,c,k⟩::r) ae l seen K=W (bQ P (c2 G ae) l m) (c:=⟨fun x=>eI m x.1 x.2 fun v l'=>pW c seen l'/\jV P G r (ht ae dst v) l' (r0 k i (lW P G (.gV m) ae v l l') seen) K⟩) :=id rfl
@[simp ↓] theorem as3 (i:Nat) (dst:Option Tmp) (f:FuncId) (args:List Operand) (c:List Nat) (k:Bool) (r:List eA) (ae:a8) (l:ao) (seen:iy) (K:a8->ao->Prop) :
  jV P G (⟨i,dst,none,.mG f args,c,k⟩::r) ae l seen K=cY P G f (args.map (c2 G ae)) l (c:=⟨fun v l'=>pW c seen l'/\jV P G r (ht ae dst v) l' (r0 k i (fun _=>True) seen) K⟩) :=id rfl
@[simp ↓] theorem as4 (i:Nat) (dst:Option Tmp) (x:Operand) (args:List Operand) (c:List Nat) (k:Bool) (r:List eA) (ae:a8) (l:ao) (seen:iy) (K:a8->ao->Prop) :
  jV P G (⟨i,dst,none,.nm x args,c,k⟩::r) ae l seen K=vE P G (c2 G ae x) (args.map (c2 G ae)) l (c:=⟨fun v l'=>pW c seen l'/\jV P G r (ht ae dst v) l' (r0 k i (fun _=>True) seen) K⟩) :=id rfl
@[simp ↓] theorem as5 (i:Nat) (dst:Option Tmp) (d:Tmp) (w:Bool) (b:qU) (c:List Nat) (k:Bool) (r:List eA) (ae:a8) (l:ao) (seen:iy) (K:a8->ao->Prop) :
  jV P G (⟨i,dst,some (some d,w),b,c,k⟩::r) ae l seen K=rI (ae d) w (c:=⟨jV P G (⟨i,dst,none,b,c,k⟩::r) ae l seen K,jV P G r (ht ae dst hv) l seen K⟩) :=id rfl
@[simp] theorem aoR (ids:List Nat) (l:ao) :pW ids [] l=True:=id rfl
@[simp] theorem aoQ (ids:List Nat) (e:Nat × (ao->Prop)) (r:iy) (l:ao) :pW ids (e::r) l=((ids.contains e.1=true->e.2 l)/\pW ids r l) :=id rfl
@[simp] theorem atp (i:Nat) (p:ao->Prop) (s:iy) :r0 true i p s=(i,p) ::s:=id rfl
@[simp] theorem ato (i:Nat) (p:ao->Prop) (s:iy) :r0 false i p s=s:=id rfl
@[simp] theorem atv (m:dk) (ae:a8) (v:U) (l l' l1:ao) :lW P G (.gV m) ae v l l' l1=(match m.i1 with | true=>l1[l.length]? = l'[l.length]? | false=>bQ P (c2 G ae) l1 m=some (v,l1)) :=id rfl
@[simp ↓] theorem arI (x:Operand) (v:U) (l:ao) (K:U->ao->Prop) :eI (.gd x) v l K=K v l:=id rfl
@[simp ↓] theorem arL (c a b:Operand) (v:U) (l:ao) (K:U->ao->Prop) :eI (.pick c a b) v l K=K v l:=id rfl
@[simp ↓] theorem aq6 (z:List U) (v:U) (l:ao) (K:U->ao->Prop) :eI (.alloc z) v l K=K v l:=id rfl
@[simp ↓] theorem arb (x:Operand) (v:U) (l:ao) (K:U->ao->Prop) :eI (.box x) v l K=K v l:=id rfl
@[simp ↓] theorem ara (z:List U) (cJ:List (Nat × Nat × Operand)) (v:U) (l:ao) (K:U->ao->Prop) :eI (.BV z cJ) v l K=K v l:=id rfl
@[simp ↓] theorem arc (z:Nat) (zero:List U) (n:Nat) (cJ:List (Nat × Operand)) (v:U) (l:ao) (K:U->ao->Prop) :eI (.q4 z zero n cJ) v l K=K v l:=id rfl
@[simp ↓] theorem arw (a:Operand) (v:U) (l:ao) (K:U->ao->Prop) :eI (.ld1 a) v l K=K v l:=id rfl
@[simp ↓] theorem arx (n:Nat) (a:Operand) (v:U) (l:ao) (K:U->ao->Prop) :eI (.uP n a) v l K=K v l:=id rfl
@[simp ↓] theorem arO (n:Nat) (a x:Operand) (v:U) (l:ao) (K:U->ao->Prop) :eI (.st n a x) v l K=K v l:=id rfl
@[simp ↓] theorem arJ (x:Operand) (v:U) (l:ao) (K:U->ao->Prop) :eI (.DR x) v l K=K v l:=id rfl
@[simp ↓] theorem aq9 (o:BinOp) (t:TypeId) (x y:Operand) (v:U) (l:ao) (K:U->ao->Prop) :eI (.bin o t x y) v l K=K v l:=id rfl
@[simp ↓] theorem arQ (o:UnOp) (x:Operand) (v:U) (l:ao) (K:U->ao->Prop) :eI (.un o x) v l K=K v l:=id rfl
@[simp ↓] theorem arh (k:IntKind) (x:Operand) (v:U) (l:ao) (K:U->ao->Prop) :eI (.zJ k x) v l K=K v l:=id rfl
@[simp ↓] theorem arm (x:Operand) (v:U) (l:ao) (K:U->ao->Prop) :eI (.zQ x) v l K=K v l:=id rfl
@[simp ↓] theorem arf (x:Operand) (v:U) (l:ao) (K:U->ao->Prop) :eI (.tX x) v l K=K v l:=id rfl
@[simp ↓] theorem arl (x:Operand) (v:U) (l:ao) (K:U->ao->Prop) :eI (.zP x) v l K=K v l:=id rfl
@[simp ↓] theorem arE (t:TypeId) (x:Operand) (v:U) (l:ao) (K:U->ao->Prop) :eI (.yX t x) v l K=K v l:=id rfl
@[simp ↓] theorem arP (t:TypeId) (z:U) (ok:Bool) (x:Operand) (v:U) (l:ao) (K:U->ao->Prop) :eI (.Bl t z ok x) v l K=K v l:=id rfl
@[simp ↓] theorem arD (f:FuncId) (a b:List Operand) (v:U) (l:ao) (K:U->ao->Prop) :eI (.yW f a b) v l K=K v l:=id rfl
@[simp ↓] theorem arG (z b:Nat) (zero:List U) (x y:Operand) (v:U) (l:ao) (K:U->ao->Prop) :eI (.rQ z b zero x y) v l K=K v l:=id rfl
@[simp ↓] theorem arN (dm:j0) (x:Operand) (cV av cO:Option Operand) (v:U) (l:ao) (K:U->ao->Prop) :eI (.slice dm x cV av cO) v l K=K v l:=id rfl
@[simp ↓] theorem aro (n:Nat) (x:Operand) (v:U) (l:ao) (K:U->ao->Prop) :eI (.Cs n x) v l K=K v l:=id rfl
@[simp ↓] theorem arp (n:Nat) (x:Operand) (v:U) (l:ao) (K:U->ao->Prop) :eI (.Cv n x) v l K=K v l:=id rfl
@[simp ↓] theorem arq (n m:Nat) (x:Operand) (v:U) (l:ao) (K:U->ao->Prop) :eI (.Cw n m x) v l K=K v l:=id rfl
@[simp ↓] theorem ars (dm:j0) (x y:Operand) (v:U) (l:ao) (K:U->ao->Prop) :eI (.AL dm x y) v l K=K v l:=id rfl
@[simp ↓] theorem art (n z:Nat) (x y:Operand) (v:U) (l:ao) (K:U->ao->Prop) :eI (.Dz n z x y) v l K=K v l:=id rfl
@[simp ↓] theorem aru (n z:Nat) (x y:Operand) (v:U) (l:ao) (K:U->ao->Prop) :eI (.DA n z x y) v l K=K v l:=id rfl
@[simp ↓] theorem arv (x y:Operand) (v:U) (l:ao) (K:U->ao->Prop) :eI (.DD x y) v l K=K v l:=id rfl
@[simp ↓] theorem arn (x:Operand) (n:Nat) (v:U) (l:ao) (K:U->ao->Prop) :eI (.ext x n) v l K=K v l:=id rfl
@[simp ↓] theorem ary (dm:j0) (x:Operand) (v:U) (l:ao) (K:U->ao->Prop) :eI (.len dm x) v l K=K v l:=id rfl
@[simp ↓] theorem ard (dm:j0) (x:Operand) (v:U) (l:ao) (K:U->ao->Prop) :eI (.cap dm x) v l K=K v l:=id rfl
@[simp ↓] theorem aq8 (z b:Nat) (zero:List U) (x y:Operand) (v:U) (l:ao) (K:U->ao->Prop) :eI (.vx z b zero x y) v l K=K v l:=id rfl
@[simp ↓] theorem ark (z:Nat) (x y:Operand) (v:U) (l:ao) (K:U->ao->Prop) :eI (.vT z x y) v l K=K v l:=id rfl
@[simp ↓] theorem ari (zero:List U) (x:Operand) (v:U) (l:ao) (K:U->ao->Prop) :eI (.vL zero x) v l K=K v l:=id rfl
@[simp ↓] theorem arC (x y:Operand) (v:U) (l:ao) (K:U->ao->Prop) :eI (.min x y) v l K=K v l:=id rfl
@[simp ↓] theorem arB (x y:Operand) (v:U) (l:ao) (K:U->ao->Prop) :eI (.max x y) v l K=K v l:=id rfl
@[simp ↓] theorem aq7 (z b:Nat) (x y:Operand) (v:U) (l:ao) (K:U->ao->Prop) :eI (.app z b x y) v l K=dT v l (c:=⟨K⟩) :=id rfl
theorem dT.cy {v:U} {l:ao} {K:U->ao->Prop} (h:K v l) :dT v l (c:=⟨K⟩) :=.inl h
@[simp] theorem aqF (a:Operand) :(dk.ld1 a).i1=false:=id rfl
@[simp] theorem aqG (n:Nat) (a:Operand) :(dk.uP n a).i1=false:=id rfl
@[simp] theorem aqC (k:IntKind) (a:Operand) :(dk.zJ k a).i1=false:=id rfl
@[simp] theorem aqE (a:Operand) :(dk.zQ a).i1=false:=id rfl
@[simp] theorem aqB (a:Operand) :(dk.tX a).i1=false:=id rfl
@[simp] theorem aqD (a:Operand) :(dk.zP a).i1=false:=id rfl
@[simp] theorem aqy (z:List U) :(dk.alloc z).i1=true:=id rfl
@[simp] theorem aqz (a:Operand) :(dk.box a).i1=true:=id rfl
@[simp] theorem aqA (z:Nat) (zero:List U) (n:Nat) (cJ:List (Nat × Operand)) :(dk.q4 z zero n cJ).i1=true:=id rfl
@[simp] theorem aqH (z b:Nat) (zero:List U) (x y:Operand) :(dk.rQ z b zero x y).i1=true:=id rfl
@[simp] theorem asU (l l' : ao) (x:Option U) (v:U) :(dI l x=some (v,l'))=(x=some v/\l'=l) :=propext gB
@[simp ↓] theorem anO {α:Type} (x:α) (k:α->Prop) :W (some x) (c:=⟨k⟩)=k x:=id rfl
@[simp ↓] theorem anN (l:ao) (o:Option U) (k:U × ao->Prop) :W (dI l o) (c:=⟨k⟩)=W o (c:=⟨fun v=>k (v,l)⟩) :=by unfold W dI; cases o<;>rfl
@[simp ↓] theorem anM {α jY:Type} (o:Option α) (f:α->jY) (k:jY->Prop) :W (o.map f) (c:=⟨k⟩)=W o (c:=⟨fun v=>k (f v)⟩) :=by unfold W; cases o<;>rfl
@[simp ↓] theorem anL {α:Type} (p:Prop) [Decidable p] (x:α) (k:α->Prop) :W (if p then some x else none) (c:=⟨k⟩)=(p/\k x) :=by unfold W; by_cases h:p<;>simp[h]
@[simp ↓] theorem aqP (b:Bool) (p q:Prop) :yL (.bool b) (c:=⟨p,q⟩)=rJ b (c:=⟨p,q⟩) :=id rfl
@[simp ↓] theorem aq0 (p q:Prop) :rJ true (c:=⟨p,q⟩)=p:=id rfl
@[simp ↓] theorem aqZ (p q:Prop) :rJ false (c:=⟨p,q⟩)=q:=id rfl
@[simp ↓] theorem aqW (b:Bool) (p q:Prop) :rI (.bool b) true (c:=⟨p,q⟩)=rJ b (c:=⟨p,q⟩) :=by cases b<;>rfl
@[simp ↓] theorem aqV (b:Bool) (p q:Prop) :rI (.bool b) false (c:=⟨p,q⟩)=rJ b (c:=⟨q,p⟩) :=by cases b<;>rfl
@[simp ↓] theorem aqX (w:Bool) (p q:Prop) :rI hv w (c:=⟨p,q⟩)=q:=id rfl
@[simp ↓] theorem aqY (w:Bool) (p q:Prop) :rI (.bE []) w (c:=⟨p,q⟩)=q:=id rfl
theorem ip {b:Bool} {p q:Prop} (h1:b=true->p) (ad:b=false->q) :rJ b (c:=⟨p,q⟩) :=by cases b; exact ad rfl; exact h1 rfl
@[simp ↓] theorem asW (ae:a8) (d:Tmp) (v:U) :ht ae (some d) v=bO ae d v:=id rfl
@[simp ↓] theorem asV (ae:a8) (v:U) :ht ae none v=ae:=id rfl
@[simp] theorem apu {α:Type} (s:Nat->α) (d:Nat) (v:α) (t:Nat) :bO s d v t=if t=d then v else s t:=id rfl
@[simp] theorem anU (args:List U) (t:Nat) :zB args t=args.getD t hv:=id rfl
@[simp] theorem apj (ae:a8) (t:Tmp) :c2 G ae (.tmp t)=ae t:=id rfl
@[simp] theorem apa (ae:a8) (f:FuncId) :c2 G ae (.func f)=.fn f [] [] :=id rfl
@[simp] theorem apb (ae:a8) (g:Nat) :c2 G ae (.global g)=G g:=id rfl
@[simp] theorem apc (ae:a8) (k:IntKind) (n:Int) :c2 G ae (.const (.int k n))=.int k n:=id rfl
@[simp] theorem ao9 (ae:a8) (b:Bool) :c2 G ae (.const (.bool b))=.bool b:=id rfl
@[simp] theorem api (ae:a8) (s:ByteArray) :c2 G ae (.const (.string s))=.str s.data.toList:=id rfl
@[simp] theorem aph (ae:a8) :c2 G ae (.const (.slice none 0 0))=.aW:=id rfl
@[simp] theorem apg (ae:a8) :c2 G ae (.const (.pointer none))=.jE:=id rfl
@[simp] theorem apf (ae:a8) :c2 G ae (.const (.map none))=.hS:=id rfl
@[simp] theorem apd (ae:a8) :c2 G ae (.const .nilFunc)=.jC:=id rfl
@[simp] theorem ape (ae:a8) :c2 G ae (.const .nilIface)=.jD:=id rfl
@[simp] theorem apk (ae:a8) :c2 G ae (.const (.tuple #[]))=.bE [] :=id rfl
variable (aB:Operand->U) (l:ao)
@[simp ↓] theorem asA (x:Operand) :bQ P aB l (.gd x)=some (aB x,l) :=id rfl
@[simp ↓] theorem asD (c a b:Operand) :bQ P aB l (.pick c a b)=dI l (D3 (aB c) (aB a) (aB b)) :=id rfl
@[simp ↓] theorem ar0 (z:List U) :bQ P aB l (.alloc z)=some (.ptr l.length 0 z.length,l++[.cells z.length z]) :=id rfl
@[simp ↓] theorem ar5 (x:Operand) :bQ P aB l (.box x)=(aB x).cells.map fun cs=>(.ptr l.length 0 cs.length,l++[.cells cs.length cs]) :=id rfl
@[simp ↓] theorem ar4 (zero:List U) (cJ:List (Nat × Nat × Operand)) :bQ P aB l (.BV zero cJ)=dI l ((pT zero (cJ.map fun p=>(p.1,p.2.1,aB p.2.2))).map .aJ) :=id rfl
@[simp ↓] theorem ar6 (z:Nat) (zero:List U) (len:Nat) (cJ:List (Nat × Operand)) :bQ P aB l (.q4 z zero len cJ)=(hD (fun i=>some (i*z,z)) (dy zero len) (cJ.map fun p=>(p.1,aB p.2))).map fun cs=>(.au z l.length 0 len len (len*z),l++[.cells (len*z) cs]) :=id rfl
@[simp ↓] theorem aso (a:Operand) :bQ P aB l (.ld1 a)=dI l ((eM l (aB a)).bind fun x=>x.1[x.2]?) :=id rfl
@[simp ↓] theorem asp (n:Nat) (a:Operand) :bQ P aB l (.uP n a)=dI l ((eM l (aB a)).bind fun x=>tk n x.1 x.2) :=id rfl
@[simp ↓] theorem asG (n:Nat) (a x:Operand) :bQ P aB l (.st n a x)=(km n l (aB a) (aB x)).map fun l'=>(hv,l') :=id rfl
@[simp ↓] theorem asB (x:Operand) :bQ P aB l (.DR x)=dI l (yY (aB x)) :=id rfl
@[simp ↓] theorem ar3 (o:BinOp) (t:TypeId) (x y:Operand) :bQ P aB l (.bin o t x y)=dI l (gv P o t (aB x) (aB y)) :=id rfl
@[simp ↓] theorem asI (o:UnOp) (x:Operand) :bQ P aB l (.un o x)=dI l (qO o (aB x)) :=id rfl
@[simp ↓] theorem ar9 (k:IntKind) (x:Operand) :bQ P aB l (.zJ k x)=dI l (B6 k (aB x)) :=id rfl
@[simp ↓] theorem ase (x:Operand) :bQ P aB l (.zQ x)=dI l (Fo (aB x)) :=id rfl
@[simp ↓] theorem ar8 (x:Operand) :bQ P aB l (.tX x)=dI l (vG l (aB x)) :=id rfl
@[simp ↓] theorem asd (x:Operand) :bQ P aB l (.zP x)=dI l (vU (aB x)) :=id rfl
@[simp ↓] theorem asw (t:TypeId) (x:Operand) :bQ P aB l (.yX t x)=some (.gQ t (aB x),l) :=id rfl
@[simp ↓] theorem asH (t:TypeId) (z:U) (ok:Bool) (x:Operand) :bQ P aB l (.Bl t z ok x)=dI l (Bm t z ok (aB x)) :=id rfl
@[simp ↓] theorem asv (f:FuncId) (a b:List Operand) :bQ P aB l (.yW f a b)=some (.fn f (a.map aB) (b.map aB),l) :=id rfl
@[simp ↓] theorem asy (z by_:Nat) (zero:List U) (a c:Operand) :bQ P aB l (.rQ z by_ zero a c)=rR z by_ zero l (aB a) (aB c) :=id rfl
@[simp ↓] theorem asF (dm:j0) (x:Operand) (cV av cO:Option Operand) :bQ P aB l (.slice dm x cV av cO)=dI l (gq dm (aB x) (cV.map aB) (av.map aB) (cO.map aB)) :=id rfl
@[simp ↓] theorem asg (off:Nat) (x:Operand) :bQ P aB l (.Cs off x)=dI l (nq (aB x) off) :=id rfl
@[simp ↓] theorem ash (off:Nat) (x:Operand) :bQ P aB l (.Cv off x)=dI l (Cx off (aB x)) :=id rfl
@[simp ↓] theorem asi (n off:Nat) (x:Operand) :bQ P aB l (.Cw n off x)=dI l (zZ n off (aB x)) :=id rfl
@[simp ↓] theorem asj (dm:j0) (x i:Operand) :bQ P aB l (.AL dm x i)=dI l (cg dm (aB x) (aB i)) :=id rfl
@[simp ↓] theorem asl (n z:Nat) (x i:Operand) :bQ P aB l (.Dz n z x i)=dI l (DB n z (aB x) (aB i)) :=id rfl
@[simp ↓] theorem asm (n z:Nat) (x i:Operand) :bQ P aB l (.DA n z x i)=dI l (DC n z (aB x) (aB i)) :=id rfl
@[simp ↓] theorem asn (x i:Operand) :bQ P aB l (.DD x i)=dI l (yI (aB x) (aB i)) :=id rfl
@[simp ↓] theorem asf (x:Operand) (i:Nat) :bQ P aB l (.ext x i)=dI l (Cr (aB x) i) :=id rfl
@[simp ↓] theorem asq (dm:j0) (x:Operand) :bQ P aB l (.len dm x)=dI l (cz dm (aB x)) :=id rfl
@[simp ↓] theorem ar7 (dm:j0) (x:Operand) :bQ P aB l (.cap dm x)=dI l (tW dm (aB x)) :=id rfl
@[simp ↓] theorem ar1 (z by_:Nat) (s x:Operand) :bQ P aB l (.app z by_ s x)=iP l z by_ (aB s) (aB x) :=id rfl
@[simp ↓] theorem ar2 (z by_:Nat) (zero:List U) (s x:Operand) :bQ P aB l (.vx z by_ zero s x)=q3 l z by_ zero (aB s) (aB x) :=id rfl
@[simp ↓] theorem asc (z:Nat) (d x:Operand) :bQ P aB l (.vT z d x)=zO z l (aB d) (aB x) :=id rfl
@[simp ↓] theorem asa (zero:List U) (x:Operand) :bQ P aB l (.vL zero x)=(sr zero l (aB x)).map fun l'=>(.bE [],l') :=id rfl
@[simp ↓] theorem asu (x y:Operand) :bQ P aB l (.min x y)=dI l (AW (aB x) (aB y)) :=id rfl
@[simp ↓] theorem ast (x y:Operand) :bQ P aB l (.max x y)=dI l (uU (aB x) (aB y)) :=id rfl
@[simp] theorem asT (t:Bool) (a b:U) :D3 (.bool t) a b=some (if t=true then a else b) :=id rfl
@[simp] theorem RG (cs:List U) :(U.aJ cs).cells=some cs:=id rfl
@[simp] theorem aoG (k:IntKind) (n:Int) :(U.int k n).cells=some [.int k n] :=id rfl
@[simp] theorem aoD (b:Bool) :(U.bool b).cells=some [.bool b] :=id rfl
@[simp] theorem aoP (s:List UInt8) :(U.str s).cells=some [.str s] :=id rfl
@[simp] theorem aoL:U.aW.cells=some [.aW] :=id rfl
@[simp] theorem aoK:U.jE.cells=some [.jE] :=id rfl
@[simp] theorem aoI:U.jC.cells=some [.jC] :=id rfl
@[simp] theorem aoJ:U.hS.cells=some [.hS] :=id rfl
@[simp] theorem aoN (z:Nat) (es:List (List U)) :(U.bR z es).cells=some [.bR z es] :=id rfl
@[simp] theorem aoO (z b o n c s:Nat) :(U.au z b o n c s).cells=some [.au z b o n c s] :=id rfl
@[simp] theorem aoM (b o s:Nat) :(U.ptr b o s).cells=some [.ptr b o s] :=id rfl
@[simp] theorem aoF (f:FuncId) (a b:List U) :(U.fn f a b).cells=some [.fn f a b] :=id rfl
@[simp] theorem aoH (b:Nat) :(U.mp b).cells=some [.mp b] :=id rfl
@[simp] theorem aoB (b off sz k:Nat) :nq (.ptr b off sz) k=some (.ptr b (off+k) sz) :=id rfl
@[simp] theorem aoC (cs:List U) (off k:Nat) :nq (.b3 cs off) k=some (.b3 cs (off+k)) :=id rfl
@[simp] theorem asN (b o s:Nat) :yY (.ptr b o s)=some (.ptr b o s) :=id rfl
@[simp] theorem asO (cs:List U) (o:Nat) :yY (.b3 cs o)=some (.b3 cs o) :=id rfl
@[simp] theorem asM (f:FuncId) (a b:List U) :yY (.fn f a b)=some (.fn f a b) :=id rfl
def m5 (x:Option a2) (off sz:Nat) :Option (List U × Nat) :=match x with
 | some (.cells n cs)=>if n=sz then some (cs,off) else none
 | _=>none
@[simp] theorem asY (b off sz:Nat) :eM l (.ptr b off sz)=m5 l[b]? off sz:=by
 unfold eM m5; rfl
@[simp] theorem asX (n:Nat) (cs:List U) (off sz:Nat) :m5 (some (.cells n cs)) off sz=if n=sz then some (cs,off) else none:=id rfl
@[simp] theorem asZ (cs:List U) (off:Nat) :eM l (.b3 cs off)=some (cs,off) :=id rfl
def NZ (n:Nat) (l:ao) (b off sz:Nat) (vs:List U) (x:Option a2) :Option ao:=match x with
 | some (.cells m cs)=>if m=sz/\vs.length=n/\off+n<=m then some (l.set b (.cells m (bu cs off vs))) else none
 | _=>none
@[simp] theorem Yo (n b off sz:Nat) (v:U) :km n l (.ptr b off sz) v=v.cells.bind fun vs=>NZ n l b off sz vs l[b]?:=by
 unfold km NZ;cases v.cells<;>rfl
@[simp] theorem alE (n b off sz:Nat) (vs:List U) (m:Nat) (cs:List U) :NZ n l b off sz vs (some (.cells m cs))=if m=sz/\vs.length=n/\off+n<=m then some (l.set b (.cells m (bu cs off vs))) else none:=id rfl
@[simp] theorem asS (n:Nat) (cs:List U) (off:Nat) :tk n cs off=if off+n<=cs.length then some (.aJ ((cs.drop off).take n)) else none:=id rfl
@[simp] theorem atu (a:U) (cs vs:List U) (off:Nat) :bu (a::cs) (off+1) vs=a::bu cs off vs:=by
 simp only[bu,List.take_succ_cons,au5,show off+1+vs.length=(off+vs.length)+1 by omega,awB]
@[simp] theorem alm (a v:U) (cs vs:List U) :bu (a::cs) 0 (v::vs)=v::bu cs 0 vs:=by simp[bu]
@[simp] theorem alo (cs:List U) :bu cs 0 []=cs:=by simp[bu]
@[simp] theorem att (vs:List U) :bu [] 0 vs=vs:=by simp[bu]
@[simp] theorem aoa (zero:List U) :pT zero []=some zero:=id rfl
theorem aaH (zero:List U) (off size:Nat) (v:U) (r:List (Nat × Nat × U)) :pT zero ((off,size,v) ::r)=v.cells.bind fun vs=>if vs.length=size/\off+size<=zero.length then pT (bu zero off vs) r else none:=by
 rw[pT]; cases v.cells<;>rfl
attribute [simp] aaH
@[simp] theorem apn (lc:Nat->Option (Nat × Nat)) (zero:List U) :hD lc zero []=some zero:=id rfl
@[simp] theorem apm (lc:Nat->Option (Nat × Nat)) (zero:List U) (i:Nat) (v:U) (r:List (Nat × U)) :hD lc zero ((i,v) ::r)=(lc i).bind fun q=>v.cells.bind fun vs=>if vs.length=q.2/\q.1+q.2<=zero.length then hD lc (bu zero q.1 vs) r else none:=by
 rw[hD];cases lc i with
 | none=>rfl
 | some q=>cases v.cells<;>rfl
@[simp] theorem as1 (zero:List U) :dy zero 0=[] :=id rfl
@[simp] theorem as2 (zero:List U) (n:Nat) :dy zero (n+1)=zero++dy zero n:=id rfl
@[simp] theorem an3 (o:BinOp) (t:TypeId) (k:IntKind) (a:Int) (k' : IntKind) (b:Int) :gv P o t (.int k a) (.int k' b)=cu o k a k' b:=id rfl
@[simp] theorem an8 (o:BinOp) (t:TypeId) (a b:List UInt8) :gv P o t (.str a) (.str b)=oR o a b:=id rfl
@[simp] theorem an5 (k:IntKind) (a b:Int) :cu .lss k a k b=some (.bool (decide (a<b))) :=by simp[cu]
@[simp] theorem an4 (k:IntKind) (a b:Int) :cu .leq k a k b=some (.bool (decide (a<=b))) :=by simp[cu]
@[simp] theorem an2 (k:IntKind) (a b:Int) :cu .gtr k a k b=some (.bool (decide (b<a))) :=by simp[cu]
@[simp] theorem an1 (k:IntKind) (a b:Int) :cu .geq k a k b=some (.bool (decide (b<=a))) :=by simp[cu]
@[simp] theorem an0 (k:IntKind) (a b:Int) :cu .eql k a k b=some (.bool (decide (a=b))) :=by
 have:(a == b)=decide (a=b) :=by by_cases h:a=b<;>simp[h]
 simp[cu,this]
@[simp] theorem an7 (k:IntKind) (a b:Int) :cu .neq k a k b=some (.bool (!decide (a=b))) :=by
 have:(a != b)=!decide (a=b) :=by by_cases h:a=b<;>simp[h]
 simp[cu,this]
@[simp] theorem anZ (k:IntKind) (a b:Int) :cu .add k a k b=some (.int k (k.wrap (a+b))) :=by simp[cu]
@[simp] theorem an9 (k:IntKind) (a b:Int) :cu .sub k a k b=some (.int k (k.wrap (a - b))) :=by simp[cu]
@[simp] theorem an6 (k:IntKind) (a b:Int) :cu .mul k a k b=some (.int k (k.wrap (a*b))) :=by simp[cu]
@[simp] theorem atH (b:Bool) :qO .not (.bool b)=some (.bool (!b)) :=id rfl
@[simp] theorem atG (k:IntKind) (n:Int) :qO .neg (.int k n)=some (.int k (k.wrap (0 - n))) :=id rfl
@[simp] theorem aoS (k k' : IntKind) (n:Int) :B6 k (.int k' n)=some (.int k (k.wrap n)) :=id rfl
@[simp] theorem aqu (z dz:Nat) (es:List (List U)) (k:IntKind) (i:Int) :cg (.au z) (.bR dz es) (.int k i)=if z=dz/\0<=i then (es[i.toNat]?).map fun cs=>.b3 cs 0 else none:=id rfl
@[simp] theorem aqv (z dz b off len cap sz:Nat) (k:IntKind) (i:Int) :cg (.au z) (.au dz b off len cap sz) (.int k i)=if z=dz/\0<=i/\i<len then some (.ptr b (off+i.toNat*z) sz) else none:=id rfl
@[simp] theorem aqt (n z:Nat) (x:U) (k:IntKind) (i:Int) :cg (.arr n z) x (.int k i)=if 0<=i/\i<n then nq x (i.toNat*z) else none:=id rfl
@[simp] theorem arV (z:Nat) :cz (.au z) .aW=some (.int .i64 0) :=id rfl
@[simp] theorem arX (z dz b o n c s:Nat) :cz (.au z) (.au dz b o n c s)=some (.int .i64 n) :=id rfl
@[simp] theorem arW (z dz:Nat) (es:List (List U)) :cz (.au z) (.bR dz es)=some (.int .i64 es.length) :=id rfl
@[simp] theorem arY (s:List UInt8) :cz .str (.str s)=some (.int .i64 s.length) :=id rfl
@[simp] theorem arU (n z:Nat) (x:U) :cz (.arr n z) x=some (.int .i64 n) :=id rfl
@[simp] theorem apl (vs:List U) (i:Nat) :Cr (.bE vs) i=vs[i]?:=id rfl
@[simp] theorem apo (cs:List U) (off:Nat) :Cx off (.aJ cs)=cs[off]?:=id rfl
@[simp] theorem apq (n off:Nat) (cs:List U) :zZ n off (.aJ cs)=tk n cs off:=id rfl
end

section
variable {P:Program} {G:Nat->U}
inductive Rd (l:ao) :U->U->Prop
 | same (c:U) (h:c.closed=true) :Rd l c c
 | aJ (cs cs' : List U) (al:cs'.length=cs.length) (h:∀ (j:Nat) (c c' : U),cs[j]? = some c->cs'[j]? = some c'->Rd l c c') :Rd l (.aJ cs) (.aJ cs')
 | bE (cs cs' : List U) (al:cs'.length=cs.length) (h:∀ (j:Nat) (c c' : U),cs[j]? = some c->cs'[j]? = some c'->Rd l c c') :Rd l (.bE cs) (.bE cs')
 | au (z b off len cap sz:Nat) (cs:List U) (es:List (List U)) (ag:l[b]? = some (.cells sz cs)) (al:es.length=len) (aw:∀ e∈es,e.length=z)
   (dQ:off+len*z<=cs.length)
   (h:∀ (i j:Nat) (e:List U) (c c' : U),es[i]? = some e->e[j]? = some c'->cs[off+(i*z+j)]? = some c->Rd l c c') :Rd l (.au z b off len cap sz) (.bR z es)
 | r2 (z b off cap sz:Nat) :Rd l (.au z b off 0 cap sz) (.bR z [])
theorem aj8 {w:World} {R:Nat->Prop} {B:Nat} {l:ao} {μ:cP} (rel:b9 R B w (bU l) μ) :∀ {c c' : U},Rd l c c'->∀ {v:Value},aP w R (bU l) μ c v->fD w R c' v:=by
 intro c c' az
 induction az with
 | same c h=>
  intro v aq;exact (fD.up (xG aq h) fun k _ hk=>⟨hk.1,fun ⟨b,m,h1,ad,aj⟩=>by cases ad⟩:aP w R aO.empty (fun _=>none) _ v)
 | aJ cs cs' al h aI=>
  intro v aq;cases aq with
  | aJ _ vs gk h1 aq=>
   refine .aJ cs' vs (by omega) h1 (fun j c' v ai fy=>?_);have aN:j<cs.length:=by rw[<-al]; exact (atU.1 ai).1
   exact aI j cs[j] c' (atX aN) ai (aq j cs[j] v (atX aN) fy)
 | bE cs cs' al h aI=>
  intro v aq;cases aq with
  | bE _ vs gk aq=>
   refine .bE cs' vs (by omega) (fun j c' v ai fy=>?_);have aN:j<cs.length:=by rw[<-al]; exact (atU.1 ai).1
   exact aI j cs[j] c' (atX aN) ai (aq j cs[j] v (atX aN) fy)
 | r2 z b off cap sz=>
  intro v aq;cases aq with
  | au _ _ _ _ _ _ cap' cs m ag hm al ap ah=>exact .fO z _ cap'
  | gH _ _ _ _ _ _ cap' a al ah ar=>exact .fO z _ cap'
  | hV _ _ _ _ a cs m ag hm=>exact .fO z a 0
 | au z b off len cap sz cs es ag al aw dQ h aI=>
  intro v aq;have rk:(bU l).f b=.cells sz cs:=lY.2 ag;cases aq with
  | hV _ _ _ _ a hB m fT kf=>
   obtain rfl:=auE.1 al;exact .fO z a 0
  | gH _ _ _ _ _ _ cap' a al ah ar=>
   exfalso;rcases ar with ar | ⟨n,hB,ar,aN⟩
   ·rw[rk] at ar; cases ar
   ·rw[rk] at ar; cases ar; omega
  | au _ _ _ _ _ _ cap' hB m fT hm g0 ap ah=>
   rw[rk] at fT; cases fT;have hblk:=rel.blk b m hm;rw[rk] at hblk;obtain⟨ci,ce,arr,t,gh,hw,ax,aD,mM⟩:=hblk;have c3:len<=cap':=by rcases ah with ⟨_,h⟩ | ⟨_,h,_⟩<;>omega
   have og:R m.r:=rel.up _ (rel.base b m (by rw[rk]; rfl) hm);subst al;have rl:∀ i j,i<es.length->j<z->∃ c v,cs[off+(i*z+j)]? = some c/\arr[m.s+(off+(i*z+j))]? = some v/\v.oneCell'=true/\aP w R (bU l) μ c v:=by
    intro i j av ai;have aN:off+(i*z+j)<cs.length:=by
     have:i*z+z<=es.length*z:=by rw[<-auI]; exact at2 _ av
     omega
    obtain⟨v,h1,ad,aj⟩:=mM _ _ (atX aN);exact⟨_,v,atX aN,h1,ad,aj⟩
   refine .bR z es m.r (m.s+off) cap' (fun i j=>(arr[m.s+(off+(i*z+j))]?).getD undef) c3 aw (fun i j av ai=>?_) (fun i e am j c' ai=>?_)
   ·obtain⟨c,v,h1,ad,aj,aF⟩:=rl i j av ai;refine⟨?_,?_,og,fun ⟨b,m,h1,ad,aj⟩=>by cases ad⟩
    ·simp only[World.cell?,hw,ad,auJ,avR];rw[show m.s+off+(i*z+j)=m.s+(off+(i*z+j)) by omega,ad]; rfl
    ·rw[ad]; exact aj
   ·have av:i<es.length:=(atU.1 am).1;have mR:j<z:=by rw[<-aw e (at3 am)]; exact (atU.1 ai).1
    obtain⟨c,v,h1,ad,aj,aF⟩:=rl i j av mR;simp only[ad,auJ];exact aI i j e c c' am ai h1 aF
theorem bK (mj:P.follows .mixedOrders=true) (kw:∀ g,(G g).closed=true) {f:FuncId} {args:List U} {r:U} (h:cY P G f args [] (c:=⟨fun lf l=>Rd l lf r⟩)) :bw P G f args r:=by
 obtain⟨lf,l',h1,ad,aj⟩:=h;intro w A vs ar al aq;refine (Og (A:=A) mj kw h1 ar al aq).mono ?_;rintro e w' ⟨v,μ',rfl,ag,rel,az⟩;exact⟨v,rfl,ag,aj8 rel aj az⟩
theorem a1 {f:FuncId} {args:List U} {r:U} {l:ao} {K:U->ao->Prop} (ay:bw P G f args r) (ah:bg args=true) (h:K r l) :cY P G f args l (c:=⟨K⟩) :=
 ⟨r,l,.pure ay ah,atW _,h⟩
theorem ah1 (mj:P.follows .mixedOrders=true) (kw:∀ g,(G g).closed=true) {f:FuncId} {args:List U} (h:cY P G f args [] (c:=⟨fun r _=>r=.bool true⟩))
  {w:World} {A:Nat->Prop} {vs:Array Value} (ar:∀ g,fD w A (G g) (.pointer (some ⟨g,0,none⟩))) (al:vs.size=args.length)
  (aq:∀ (j:Nat) (c:U) (v:Value),args[j]? = some c->vs[j]? = some v->fD w A c v) :
  Calls P f vs w fun e w'=>e=.returned (.bool true)/\RowKit.Below w.heap.size w w':=by
 obtain⟨lf,l',h1,ad,rfl⟩:=h;exact al1 mj kw h1 ar al aq
end

section
variable {P:Program}
inductive ea (P:Program) :List TypeId->List U->Prop
 | nil:ea P [] []
 | bool {t:TypeId} {b:Bool} {ts:List TypeId} {cs:List U} (aL:P.underlying t=some .bool) (h:ea P ts cs) :ea P (t::ts) (.bool b::cs)
 | int {t:TypeId} {k:IntKind} {n:Int} {ts:List TypeId} {cs:List U} (aL:P.underlying t=some (.int k)) (h1:k.min<=n) (ad:n<=k.max) (h:ea P ts cs) :ea P (t::ts) (.int k n::cs)
 | str {t:TypeId} {s:List UInt8} {ts:List TypeId} {cs:List U} (aL:P.underlying t=some .string) (ak:s.length<=maxLen) (h:ea P ts cs) :ea P (t::ts) (.str s::cs)
 | aW {t e:TypeId} {ts:List TypeId} {cs:List U} (aL:P.underlying t=some (.slice e)) (h:ea P ts cs) :ea P (t::ts) (.aW::cs)
 | au {t e:TypeId} {es:List (List U)} {ts:List TypeId} {cs:List U} (aL:P.underlying t=some (.slice e)) (al:es.length<=maxLen) (aw:∀ r∈es,r.length=P.cellsOf e) (am:∀ r∈es,ea P [e] r) (h:ea P ts cs) :ea P (t::ts) (.bR (P.cellsOf e) es::cs)
 | struct {t:TypeId} {fs:Array Field} {ts:List TypeId} {cs:List U} (aL:P.underlying t=some (.struct fs)) (h:ea P (fs.toList.map (·.type)++ts) cs) :ea P (t::ts) cs
 | array {t e:TypeId} {n:Nat} {ts:List TypeId} {cs:List U} (aL:P.underlying t=some (.array n e)) (h:ea P (List.replicate n e++ts) cs) :ea P (t::ts) cs
def vR (P:Program) :List Field->Nat->Option Nat
 | [],o=>some o
 | f::r,o=>if f.offset=o then vR P r (o+P.cellsOf f.type) else none
def u1 (P:Program) :Nat->TypeId->Bool
 | 0,_=>false
 | d+1,t=>match P.underlying t with
  | some .bool | some (.int _) | some .string=>true
  | some (.slice e)=>decide (0<P.cellsOf e)&&u1 P d e
  | some (.struct fs)=>decide (vR P fs.toList 0=some (P.cellsOf t))&&fs.toList.all fun f=>u1 P d f.type
  | some (.array n e)=>decide (n*P.cellsOf e=P.cellsOf t)&&u1 P d e
  | _=>false
structure pS (P:Program) (w:World) (A:Nat->Prop) (ts:List TypeId) (vs:List Value) (cs:List U) :Prop where
 len:cs.length=vs.length
 ty:∀ qM cs',ea P qM cs'->ea P (ts++qM) (cs++cs')
 qR:∀ (j:Nat) (c:U) (v:Value),cs[j]? = some c->vs[j]? = some v->fD w A c v/\v.oneCell'=true
theorem pS.nil {w:World} {A:Nat->Prop}:pS P w A [] [] [] :=⟨rfl,fun _ _ h=>h,fun j c v h=>by simp at h⟩
theorem pS.app {w:World} {A:Nat->Prop} {ts qM:List TypeId} {vs Il:List Value} {cs cs' : List U} (a:pS P w A ts vs cs) (b:pS P w A qM Il cs') :pS P w A (ts++qM) (vs++Il) (cs++cs') :=by
 refine⟨by simp[a.len,b.len],fun atx ao6 h=>by rw[aut,aut]; exact a.ty _ _ (b.ty _ _ h),fun j c v ah aq=>?_⟩;by_cases h:j<cs.length
 ·rw[atV h] at ah;rw[atV (by rw[<-a.len]; exact h)] at aq;exact a.qR j c v ah aq
 ·rw[at8 (by omega)] at ah;rw[at8 (by rw[<-a.len]; omega)] at aq;rw[<-a.len] at aq;exact b.qR _ c v ah aq
theorem Ho {α jY:Type} {f:α->Option jY}:∀ {l:List α} {r:List jY},l.mapM f=some r->∀ (p:Nat) (a:α),l[p]? = some a->∃ x,r[p]? = some x/\f a=some x
 | [],r,h,p,a,ax=>by simp at ax
 | a0::l,r,h,p,a,ax=>by
  rw[avA] at h;simp only[Option.bind_eq_bind,bind_some,avI,Option.some.injEq] at h;obtain⟨b,h1,ct,ad,rfl⟩:=h;cases p with
  | zero=>simp only[aul,Option.some.injEq] at ax; subst ax; exact⟨b,rfl,h1⟩
  | succ p=>obtain⟨x,aj,aF⟩:=Ho ad p a (by simpa using ax); exact⟨x,by simpa using aj,aF⟩
theorem DW {w:World} {A:Nat->Prop} {c:U} {v:Value} (h:fD w A c v) (h1:v.oneCell'=true) :∀ (j:Nat) (c' : U) (aY:Value),[c][j]? = some c'->[v][j]? = some aY->fD w A c' aY/\aY.oneCell'=true:=by
 intro j c' aY ah aq;cases j with
 | zero=>simp only[aul,Option.some.injEq] at ah aq; subst ah aq; exact⟨h,h1⟩
 | succ j=>simp at ah
theorem al4 {H:Type} {enc:TypeId × Value->H} {w:World} {base:Nat} {spare:Nat->Bool} {held:Bool} {fuel:Nat} {t:TypeId} {vs:List Value} {x:DataW H × List MemPlace}
  (aL:P.underlying t=some .bool) (h:DataW.trod enc P w base spare held (fuel+1) t vs=some x) :∃ b,vs=[.bool b] :=by
 unfold DataW.trod at h;rw[aL] at h;split at h
 case h_1 b _=>exact⟨b,rfl⟩
 all_goals first | (cases h; done) | (rename_i heq; cases heq; done) | (rename_i heq _; cases heq; done) | (rename_i heq _ _; cases heq; done) | (rename_i heq _ _ _; cases heq; done) | (simp_all; done)
theorem trod_int {H:Type} {enc:TypeId × Value->H} {w:World} {base:Nat} {spare:Nat->Bool} {held:Bool} {fuel:Nat} {t:TypeId} {k:IntKind} {vs:List Value} {x:DataW H × List MemPlace}
  (aL:P.underlying t=some (.int k)) (h:DataW.trod enc P w base spare held (fuel+1) t vs=some x) :∃ n,vs=[.int k n]/\k.min<=n/\n<=k.max:=by
 unfold DataW.trod at h;rw[aL] at h;split at h<;>simp only[reduceCtorEq,Option.some.injEq,TypeDesc.int.injEq] at *<;>try (exfalso; simp_all; done)
 rename_i gT k' n heq;subst heq;split at h
 ·rename_i ah;obtain⟨rfl,hw⟩:=ah;simp only[Lit.wf,atY,decide_eq_true_eq] at hw;exact⟨n,rfl,hw.1,hw.2⟩
 ·cases h
theorem al6 {H:Type} {enc:TypeId × Value->H} {w:World} {base:Nat} {spare:Nat->Bool} {held:Bool} {fuel:Nat} {t:TypeId} {vs:List Value} {x:DataW H × List MemPlace}
  (aL:P.underlying t=some .string) (h:DataW.trod enc P w base spare held (fuel+1) t vs=some x) :∃ s,vs=[.string s]/\s.size<=maxLen:=by
 unfold DataW.trod at h;rw[aL] at h;split at h<;>simp only[reduceCtorEq,Option.some.injEq] at *<;>try (exfalso; simp_all; done)
 split at h
 ·rename_i s _ ak; exact⟨s,rfl,ak⟩
 ·cases h
theorem al5 {H:Type} {enc:TypeId × Value->H} {w:World} {base:Nat} {spare:Nat->Bool} {held:Bool} {fuel:Nat} {t e:TypeId} {vs:List Value} {x:DataW H × List MemPlace}
  (aL:P.underlying t=some (.slice e)) (h:DataW.trod enc P w base spare held (fuel+1) t vs=some x) :
  vs=[.slice none 0 0]\/∃ a len cap,vs=[.slice (some a) len cap]/\len<=cap/\cap<=maxLen/\∃ Ft,(List.range len).mapM (fun i=>(w.cells? base (a.add (i*P.cellsOf e)) (P.cellsOf e)).bind (DataW.trod enc P w base spare held fuel e))=some Ft:=by
 unfold DataW.trod at h;rw[aL] at h;split at h<;>simp only[reduceCtorEq,Option.some.injEq,TypeDesc.slice.injEq] at *<;>try (exfalso; simp_all; done)
 ·exact .inl trivial
 ·rename_i hM a len cap heq;subst heq;split at h
  ·rename_i ah;rw[bind_some] at h;obtain⟨Ft,h1,_⟩:=h;exact .inr ⟨a,len,cap,rfl,ah.2.1,ah.2.2,Ft,h1⟩
  ·cases h
theorem al7 {H:Type} {enc:TypeId × Value->H} {w:World} {base:Nat} {spare:Nat->Bool} {held:Bool} {fuel:Nat} {t:TypeId} {fs:Array Field} {vs:List Value} {x:DataW H × List MemPlace}
  (aL:P.underlying t=some (.struct fs)) (h:DataW.trod enc P w base spare held (fuel+1) t vs=some x) :
  vs.length=P.cellsOf t/\∃ xs,(fs.toList.mapM fun f=>DataW.trod enc P w base spare held fuel f.type ((vs.drop f.offset).take (P.cellsOf f.type)))=some xs:=by
 unfold DataW.trod at h;rw[aL] at h;split at h<;>simp only[reduceCtorEq,Option.some.injEq,TypeDesc.struct.injEq] at *<;>try (exfalso; simp_all; done)
 rename_i apt heq;subst heq;split at h
 ·rename_i ah;rw[map_some] at h;obtain⟨xs,h1,_⟩:=h;exact⟨ah,xs,h1⟩
 ·cases h
theorem trod_array {H:Type} {enc:TypeId × Value->H} {w:World} {base:Nat} {spare:Nat->Bool} {held:Bool} {fuel:Nat} {t e:TypeId} {n:Nat} {vs:List Value} {x:DataW H × List MemPlace}
  (aL:P.underlying t=some (.array n e)) (h:DataW.trod enc P w base spare held (fuel+1) t vs=some x) :
  vs.length=P.cellsOf t/\∃ xs,((List.range n).mapM fun i=>DataW.trod enc P w base spare held fuel e ((vs.drop (i*P.cellsOf e)).take (P.cellsOf e)))=some xs:=by
 unfold DataW.trod at h;rw[aL] at h;split at h<;>simp only[reduceCtorEq,Option.some.injEq,TypeDesc.array.injEq] at *<;>try (exfalso; simp_all; done)
 rename_i asL hM heq;obtain⟨rfl,rfl⟩:=heq;split at h
 ·rename_i ah;rw[map_some] at h;obtain⟨xs,h1,_⟩:=h;exact⟨ah,xs,h1⟩
 ·cases h
theorem Z7 (a:Addr) (x j:Nat) :a.add (x+j)=(a.add x).add j:=by
 unfold Addr.add;by_cases af:x=0
 ·subst af; simp
 ·by_cases ai:j=0
  ·subst ai; simp
  ·rw[if_neg (by omega),if_neg af,if_neg ai];simp only[avx]
theorem add_plain (b o n:Nat) :(Addr.mk b o none).add n=⟨b,o+n,none⟩:=by
 unfold Addr.add;by_cases aC:n=0
 ·subst aC; simp
 ·rw[if_neg aC]
theorem YP {H:Type} {enc:TypeId × Value->H} {w:World} {A:Nat->Prop} (cL:∀ k,A k) {base:Nat} {spare:Nat->Bool} {held:Bool}:∀ (fuel:Nat) (D:Nat) (t:TypeId) (vs:List Value) (d:DataW H) (cJ:List MemPlace),
  u1 P D t=true->DataW.trod enc P w base spare held fuel t vs=some (d,cJ)->∃ cs,pS P w A [t] vs cs
 | 0,_,_,_,_,_,_,h=>by simp[DataW.trod] at h
 | fuel+1,0,t,vs,d,cJ,ay,h=>by cases ay
 | fuel+1,D+1,t,vs,d,cJ,ay,h=>by
  have aI:=fun t vs d cJ ay h=>YP cL (enc:=enc) (w:=w) (base:=base) (spare:=spare) (held:=held) fuel D t vs d cJ ay h
  unfold u1 at ay;split at ay
  ·rename_i aL;obtain⟨b,rfl⟩:=al4 aL h;exact⟨[.bool b],⟨rfl,fun qM cs' h=>.bool aL h,DW (.bool b) rfl⟩⟩
  ·rename_i k aL;obtain⟨n,rfl,h1,ad⟩:=trod_int aL h;exact⟨[.int k n],⟨rfl,fun qM cs' h=>.int aL h1 ad h,DW (.int k n) rfl⟩⟩
  ·rename_i aL;obtain⟨s,rfl,h1⟩:=al6 aL h;exact⟨[.str s.data.toList],⟨rfl,fun qM cs' h=>.str aL (show s.data.toList.length<=maxLen from h1) h,DW (.str s) rfl⟩⟩
  ·rename_i e aL;simp only[atY,decide_eq_true_eq] at ay;rcases al5 aL h with rfl | ⟨a,len,cap,rfl,mi,gi,Ft,am⟩
   ·exact⟨[.aW],⟨rfl,fun qM cs' h=>.aW aL h,DW .aW rfl⟩⟩
   ·have cE:∀ i,i<len->∃ ey row,w.cells? base (a.add (i*P.cellsOf e)) (P.cellsOf e)=some ey/\pS P w A [e] ey row:=fun i av=>by
     obtain⟨x,_,af⟩:=Ho am i i (by rw[auw av]);rw[bind_some] at af;obtain⟨ey,h1,ad⟩:=af;obtain⟨row,aj⟩:=aI e ey x.1 x.2 ay.2 ad;exact⟨ey,row,h1,aj⟩
    have x9:∃ (ey:Nat->List Value) (rows:Nat->List U),∀ i,i<len->w.cells? base (a.add (i*P.cellsOf e)) (P.cellsOf e)=some (ey i)/\pS P w A [e] (ey i) (rows i) :=by
     refine⟨fun i=>if av:i<len then (cE i av).choose else [],fun i=>if av:i<len then (cE i av).choose_spec.choose else [],fun i av=>?_⟩;simp only[dif_pos av];exact (cE i av).choose_spec.choose_spec
    obtain⟨ey,rows,aq⟩:=x9;have jl:∀ i,i<len->(ey i).length=P.cellsOf e/\∀ j,j<P.cellsOf e->∃ v,(ey i)[j]? = some v/\w.cell? (a.add (i*P.cellsOf e+j))=some v:=fun i av=>by
     have h1:=(aq i av).1;unfold World.cells? at h1;split at h1
     ·refine⟨by rw[Mz h1]; simp,fun j ai=>?_⟩;obtain⟨v,ad,aj⟩:=Ho h1 j j (by rw[auw ai]);refine⟨v,ad,?_⟩;rw[<-aj,Z7]
     ·cases h1
    let es:=(List.range len).map rows
    have jn:∀ (i:Nat) (r:List U),es[i]? = some r->i<len/\r=rows i:=fun i r az=>by
     simp only[es,at0] at az;by_cases av:i<len
     ·rw[auw av] at az; simp only[at1,Option.some.injEq] at az; exact⟨av,az.symm⟩
     ·rw[at6 (by simp; omega)] at az; cases az
    have bl:es.length=len:=by simp[es]
    have aw:∀ r∈es,r.length=P.cellsOf e:=fun r az=>by
     obtain⟨i,av⟩:=avK az;obtain⟨h1,rfl⟩:=jn i r av;rw[(aq i h1).2.len,(jl i h1).1]
    have AC:∀ r∈es,ea P [e] r:=fun r az=>by
     obtain⟨i,av⟩:=avK az;obtain⟨h1,rfl⟩:=jn i r av;have:=(aq i h1).2.ty [] [] .nil;simpa using this
    refine⟨[.bR (P.cellsOf e) es],⟨rfl,fun qM cs' h=>.au aL (by omega) aw AC h,DW ?_ rfl⟩⟩;by_cases aE:len=0
    ·subst aE;exact .fO _ _ _
    ·obtain⟨v0,_,iH⟩:=(jl 0 (by omega)).2 0 ay.1;have U6:a.spot=none:=by
      unfold World.cell? at iH;split at iH
      ·split at iH
       ·cases iH
       ·rename_i ak;rw[show 0*P.cellsOf e+0=0 by omega] at ak;simp only[Addr.add,if_true] at ak;cases js:a.spot with
        | none=>rfl
        | some x=>rw[js] at ak; simp at ak
      ·cases iH
     obtain⟨blk,off,spot⟩:=a;simp only at U6;subst U6;have key:=aP.bR (w:=w) (R:=A) (h:=aO.empty) (μ:=fun _=>none) (P.cellsOf e) es blk off cap (fun i j=>((ey i)[j]?).getD undef) (by omega) aw
      (fun i j av ai=>by
       rw[bl] at av;obtain⟨v,h1,ad⟩:=(jl i av).2 j ai;obtain⟨c,ah⟩:∃ c,(rows i)[j]? = some c:=by
        have:j<(rows i).length:=by rw[(aq i av).2.len,(jl i av).1]; exact ai
        exact⟨_,atX this⟩
       refine⟨?_,?_,cL _,fun ⟨b,m,h1,ad,aj⟩=>by cases ad⟩
       ·rw[h1,auJ,<-add_plain]; exact ad
       ·rw[h1,auJ]; exact ((aq i av).2.qR j c v ah h1).2)
      (fun i r az j c ah=>by
       obtain⟨av,rfl⟩:=jn i r az;have ai:j<P.cellsOf e:=by rw[<-(jl i av).1,<-(aq i av).2.len]; exact (atU.1 ah).1
       obtain⟨v,h1,ad⟩:=(jl i av).2 j ai;rw[h1,auJ];exact ((aq i av).2.qR j c v ah h1).1)
     rw[bl] at key;exact key
  ·rename_i fs aL;simp only[atY,decide_eq_true_eq,auK] at ay;obtain⟨bl,xs,af⟩:=al7 aL h;have CB:∀ (fs:List Field) (o:Nat) (xs:List (DataW H × List MemPlace)),vR P fs o=some vs.length->o<=vs.length->(∀ f∈fs,u1 P D f.type=true)->
     (fs.mapM fun f=>DataW.trod enc P w base spare held fuel f.type ((vs.drop f.offset).take (P.cellsOf f.type)))=some xs->∃ cs,pS P w A (fs.map (·.type)) (vs.drop o) cs:=by
    intro fs
    induction fs with
    | nil=>intro o xs ah ap _ _; simp only[vR,Option.some.injEq] at ah; rw[ah,List.drop_length]; exact⟨[],.nil⟩
    | cons f fs agV=>
     intro o xs ah ap gy hm;simp only[vR] at ah;split at ah
     ·rename_i qg;rw[avA] at hm;simp only[Option.bind_eq_bind,bind_some,avI,Option.some.injEq] at hm;obtain⟨x,h1,anm,ad,_⟩:=hm;have afH:∀ (fs:List Field) (o n:Nat),vR P fs o=some n->o<=n:=by
       intro fs
       induction fs with
       | nil=>intro o n h; simp only[vR,Option.some.injEq] at h; omega
       | cons g gs agW=>
        intro o n h;simp only[vR] at h;split at h
        ·have:=agW _ _ h; omega
        ·cases h
      have dR:=afH _ _ _ ah;obtain⟨cW,b1⟩:=aI f.type _ x.1 x.2 (gy f (by simp)) h1;obtain⟨dv,w2⟩:=agV _ anm ah dR (fun g ar=>gy g (by simp[ar])) ad;refine⟨cW++dv,?_⟩;have:=b1.app w2;rw[qg,show List.drop (o+P.cellsOf f.type) vs=List.drop (P.cellsOf f.type) (List.drop o vs) by rw[awD],auz] at this;exact this
     ·cases ah
   obtain⟨cs,hw⟩:=CB fs.toList 0 xs (by rw[bl]; exact ay.1) (au7 _) ay.2 af;rw[au3] at hw;exact⟨cs,⟨hw.len,fun qM cs' h=>.struct aL (hw.ty _ _ h),hw.qR⟩⟩
  ·rename_i n e aL;simp only[atY,decide_eq_true_eq] at ay;obtain⟨bl,xs,af⟩:=trod_array aL h;have af6:∀ i,i<n->∃ c,pS P w A [e] ((vs.drop (i*P.cellsOf e)).take (P.cellsOf e)) c:=fun i av=>by
    obtain⟨x,_,h1⟩:=Ho af i i (by rw[auw av]);exact aI e _ x.1 x.2 ay.2 h1
   have CB:∀ m,m<=n->∃ cs,pS P w A (List.replicate m e) (vs.drop ((n - m)*P.cellsOf e)) cs:=by
    intro m
    induction m with
    | zero=>intro _; rw[aww,auB (by omega)]; exact⟨[],.nil⟩
    | succ m L0=>
     intro hm;obtain⟨cW,b1⟩:=af6 (n - (m+1)) (by omega);obtain⟨dv,w2⟩:=L0 (by omega);refine⟨cW++dv,?_⟩;have:=b1.app w2;have wm:(n - m)*P.cellsOf e=(n - (m+1))*P.cellsOf e+P.cellsOf e:=by rw[<-auI]; congr 1; omega
     rw[wm,<-awD,auz] at this;exact this
   obtain⟨cs,hw⟩:=CB n (atW _);rw[avY,awc,au3] at hw;exact⟨cs,⟨hw.len,fun qM cs' h=>.array aL (hw.ty _ _ h),hw.qR⟩⟩
  ·cases ay
def tO (P:Program) (t:TypeId) (c:U) :Prop:=match eo P t with
 | some true=>∃ cs,c=.aJ cs/\ea P [t] cs
 | _=>ea P [t] [c]
inductive mE (P:Program) :List TypeId->List U->Prop
 | nil:mE P [] []
 | cons {t:TypeId} {c:U} {ts:List TypeId} {cs:List U}:tO P t c->mE P ts cs->mE P (t::ts) (c::cs)
theorem Pc {H:Type} {enc:TypeId × Value->H} {w:World} {A:Nat->Prop} (cL:∀ k,A k) {base hf:Nat} {spare:Nat->Bool} {held:Bool} {D:Nat}:∀ {ts:List TypeId} {vs:List Value} {h0:List (DataW H)} {cJ:List MemPlace},
  (∀ t∈ts,u1 P D t=true)->(∀ (j:Nat) t v,ts[j]? = some t->vs[j]? = some v->Value.okWide P w .any hf t v)->DataW.TrodAll enc P w base spare held ts vs h0 cJ->
  ∃ cs,mE P ts cs/\cs.length=vs.length/\∀ (j:Nat) (c:U) (v:Value),cs[j]? = some c->vs[j]? = some v->fD w A c v
 | [],[],_,_,_,_,_=>⟨[],.nil,rfl,fun j c v h=>by simp at h⟩
 | [],_::_,h0,_,_,_,h=>by cases h0<;>cases h
 | _::_,[],h0,_,_,_,h=>by cases h0<;>cases h
 | _::_,_::_,[],_,_,_,h=>by cases h
 | t::ts,v::vs,d::h0,cJ,ay,df,h=>by
  obtain⟨p,q,⟨fuel,aH⟩,az,_⟩:=h;obtain⟨cs,h1,ad,aj⟩:=Pc cL (fun t aH=>ay t (by simp[aH])) (fun j t v aH aq=>df (j+1) t v (by simpa using aH) (by simpa using aq)) az;obtain⟨cW,b1⟩:=YP cL fuel D t v.cells.toList d p (ay t (by simp)) aH;have AC:ea P [t] cW:=by simpa using b1.ty [] [] .nil
  have aq:=df 0 t v rfl rfl;have fin:∀ c,tO P t c->fD w A c v->∃ cs,mE P (t::ts) cs/\cs.length=(v::vs).length/\∀ (j:Nat) (c:U) (aY:Value),cs[j]? = some c->(v::vs)[j]? = some aY->fD w A c aY:=fun c ah iW=>
   ⟨c::cs,.cons ah h1,by simp[ad],fun j c' aY ai fy=>by
    cases j with
    | zero=>simp only[aul,Option.some.injEq] at ai fy; subst ai fy; exact iW
    | succ j=>exact aj j c' aY (by simpa using ai) (by simpa using fy)⟩
  unfold Value.okWide at aq;have agg:eo P t=(P.underlying t).map fun d=>match d with | .struct _ | .array _ _=>true | _=>false:=rfl
  cases aL:P.underlying t with
  | none=>
   exfalso;have:=ay t (by simp);cases D with
   | zero=>cases this
   | succ D=>unfold u1 at this; rw[aL] at this; cases this
  | some R7=>
   rw[aL] at aq agg;have ahp:(∃ cs,v=.agg cs)->eo P t=some true->∃ cs,mE P (t::ts) cs/\cs.length=(v::vs).length/\∀ (j:Nat) (c:U) (aY:Value),cs[j]? = some c->(v::vs)[j]? = some aY->fD w A c aY:=by
    rintro⟨xs,rfl⟩ o2;refine fin (.aJ cW) (by unfold tO; rw[o2]; exact⟨cW,rfl,AC⟩) (.aJ cW xs (by have:=b1.len; simp only[Value.cells,avO] at this; exact this.symm) (fun j x af=>?_) (fun j c x ah af=>?_))
    ·have aN:j<cW.length:=by rw[b1.len]; simp only[Value.cells,avO]; exact (auv.1 af).1
     exact (b1.qR j cW[j] x (atX aN) (by simpa [Value.cells] using af)).2
    ·exact (b1.qR j c x ah (by simpa [Value.cells] using af)).1
   have ahr:(∀ xs,v≠.agg xs)->eo P t=some false->∃ cs,mE P (t::ts) cs/\cs.length=(v::vs).length/\∀ (j:Nat) (c:U) (aY:Value),cs[j]? = some c->(v::vs)[j]? = some aY->fD w A c aY:=by
    intro bz o2;have jl:v.cells.toList=[v] :=by cases v<;>first | rfl | exact absurd rfl (bz _)
    have al:=b1.len;rw[jl] at al;obtain⟨c,rfl⟩:∃ c,cW=[c] :=List.length_eq_one_iff.1 al;refine fin c (by unfold tO; rw[o2]; exact AC) (b1.qR 0 c v rfl (by rw[jl]; rfl)).1
   have aiG:Cell.okWide P w .any hf t v->∀ xs,v≠.agg xs:=by
    rintro ah xs rfl;unfold Cell.okWide at ah;rw[aL] at ah;cases R7<;>simp[Cell.ok,aL] at ah
   cases R7<;>simp only[at1] at agg<;>first
    | exact ahp (by obtain⟨cs,h,_⟩:=aq; exact⟨cs,h⟩) agg
    | exact ahr (aiG aq) agg
end
abbrev c6 (α:Type) :=Option (List α)
def c6.l {α:Type} (s:c6 α) :List α:=s.getD []
@[simp] theorem c6.arS {α:Type}:c6.l (none:c6 α)=[] :=rfl
@[simp] theorem c6.yN {α:Type} (l:List α) :c6.l (some l)=l:=rfl
def cI {α:Type} (z:Nat) (enc:α->List U) :c6 α->U
 | none=>.aW
 | some l=>.bR z (l.map enc)
section
variable {α:Type} {z:Nat} {enc:α->List U}
@[simp] theorem qB (s:c6 α) :cz (.au z) (cI z enc s)=some (.int .i64 s.l.length) :=by cases s<;>simp[cI,c6.l]
@[simp] theorem rF (s:c6 α) (k:IntKind) (i:Int) :cg (.au z) (cI z enc s) (.int k i)=if 0<=i then (s.l[i.toNat]?).map fun x=>.b3 (enc x) 0 else none:=by
 cases s with
 | none=>by_cases h:0<=i<;>simp[cI,c6.l,cg,h]
 | some l=>by_cases h:0<=i<;>simp[cI,c6.l,h,Function.comp_def]
@[simp] theorem aoE (s:c6 α) :(cI z enc s).cells=some [cI z enc s] :=by cases s<;>rfl
theorem vK (h:∀ x,bg (enc x)=true) (s:c6 α) :(cI z enc s).closed=true:=by
 cases s with
 | none=>rfl
 | some l=>
  simp only[cI,U.closed]
  induction l with
  | nil=>rfl
  | cons x l aI=>simp only[aus,B8,h,aI,avP]
end
theorem wrap_i64 {n:Int} (h1:-9223372036854775808<=n) (ad:n<9223372036854775808) :IntKind.i64.wrap n=n:=by
 have aQ:(2 ^ IntKind.i64.bits:Int)=18446744073709551616:=by decide
 have bF:(2 ^ (IntKind.i64.bits - 1) :Int)=9223372036854775808:=by decide
 have dn:IntKind.i64.signed=true:=rfl;simp only[IntKind.wrap,aQ,bF,dn,auQ,decide_eq_true_eq];split<;>omega
theorem bx {α:Type} {l:List α} {k:Nat} (h:k<l.length) :∃ x,l[k]? = some x/\x∈l:=⟨l[k],atX h,awo h⟩
section
variable {P:Program} {G:Nat->U}
theorem E3 {t e:TypeId} (aL:P.underlying t=some (.slice e)) {α:Type} (z:Nat) (enc:α->List U) (s:c6 α) :gv P .eql t (cI z enc s) .aW=some (.bool s.isNone) :=by
 cases s<;>simp[cI,gv,xO,eP,aL]
theorem ab9 {e:TypeId} {k:IntKind} (aL:P.underlying e=some (.int k)) (ax:eo P e=some false) {D:Nat} (x y:List Int) :∀ (n i:Nat),i+n=x.length->i+n=y.length->
  eP.sw P (eP P (D+1)) e 1 (x.map (.int k)) (y.map (.int k)) n i=some (decide (x.drop i=y.drop i)) :=by
 intro n
 induction n with
 | zero=>intro i af aA; rw[auB (by omega),auB (by omega)]; simp[eP.sw]
 | succ n aI=>
  intro i af aA;have mU:x[i]? = some x[i] :=atX (by omega);have agP:y[i]? = some y[i] :=atX (by omega);unfold eP.sw;simp only[MU ax,avo,at0,mU,agP,at1];have am:eP P (D+1) e (.int k x[i]) (.int k y[i])=some (decide (x[i]=y[i])) :=by
   unfold eP;rw[aL];simp only[if_true];by_cases h:x[i]=y[i]<;>simp[h]
  rw[am];have TW:x.drop i=x[i] ::x.drop (i+1) :=auU (by omega);have TX:y.drop i=y[i] ::y.drop (i+1) :=auU (by omega);by_cases h:x[i]=y[i]
  ·simp only[h,decide_true];rw[aI (i+1) (by omega) (by omega)];refine congrArg some (decide_eq_decide.2 ?_);rw[TW,TX,h];simp only[List.cons.injEq,true_and]
  ·simp only[h,decide_false];refine congrArg some (decide_eq_false ?_).symm;rw[TW,TX];simp only[List.cons.injEq,h,false_and,not_false_eq_true]
theorem ack {t e:TypeId} {k:IntKind} {n:Nat} (aH:P.underlying t=some (.array n e)) (aL:P.underlying e=some (.int k)) (ax:eo P e=some false) (ak:cB P e=some 1) {x y:List Int} (af:x.length=n) (aA:y.length=n) {D:Nat} :
  eP P (D+2) t (.aJ (x.map (.int k))) (.aJ (y.map (.int k)))=some (decide (x=y)) :=by
 unfold eP;rw[aH];simp only[ak];rw[ab9 aL ax x y n 0 (by omega) (by omega)];simp
theorem SC {z:Nat} {es:List (List U)} (aw:∀ e∈es,e.length=z) :es.flatten.length=es.length*z:=by
 induction es with
 | nil=>simp
 | cons e es aI=>rw[auW,at4,aw e (by simp),aI fun e am=>aw e (by simp[am]),auf,auI,Nat.add_comm]
theorem JN {z:Nat} {es:List (List U)} (aw:∀ e∈es,e.length=z) {i j:Nat} {e:List U} (am:es[i]? = some e) (ai:j<z) :es.flatten[i*z+j]? = e[j]?:=by
 induction es generalizing i with
 | nil=>simp at am
 | cons x es aI=>
  have af:x.length=z:=aw x (by simp);cases i with
  | zero=>
   simp only[aul,Option.some.injEq] at am;subst am;rw[auW,awc,avi,atV (by omega)]
  | succ i=>
   simp only[auF] at am;rw[auW,at8 (by rw[af,auI]; omega),af,show (i+1)*z+j - z=i*z+j by rw[auI]; omega];exact aI (fun e am=>aw e (by simp[am])) am
theorem dq {ae:a8} {i:Nat} {v:U} (h:ae i=v) :bO ae i v=ae:=by
 funext t; simp only[bO]; split<;>simp_all
theorem pE {ae:a8} {ej:Nat} {e8:U} {eZ:Nat} {dF:U} (h1:ae ej=e8) (ad:ae eZ=dF) :∃ s:a8,ae=bO (bO (s) ej e8) eZ dF:=⟨ae,by rw[dq h1,dq ad]⟩
theorem kQ {ae:a8} {ej:Nat} {e8:U} {eZ:Nat} {dF:U} {hP:Nat} {v3:U} (h1:ae ej=e8) (ad:ae eZ=dF) (aj:ae hP=v3) :∃ s:a8,ae=bO (bO (bO (s) ej e8) eZ dF) hP v3:=⟨ae,by rw[dq h1,dq ad,dq aj]⟩
theorem iw {ae:a8} {ej:Nat} {e8:U} {eZ:Nat} {dF:U} {hP:Nat} {v3:U} {jy:Nat} {v4:U} (h1:ae ej=e8) (ad:ae eZ=dF) (aj:ae hP=v3) (aF:ae jy=v4) :∃ s:a8,ae=bO (bO (bO (bO (s) ej e8) eZ dF) hP v3) jy v4:=⟨ae,by rw[dq h1,dq ad,dq aj,dq aF]⟩
theorem lk {ae:a8} {ej:Nat} {e8:U} {eZ:Nat} {dF:U} {hP:Nat} {v3:U} {jy:Nat} {v4:U} {kF:Nat} {v5:U} (h1:ae ej=e8) (ad:ae eZ=dF) (aj:ae hP=v3) (aF:ae jy=v4) (aU:ae kF=v5) :∃ s:a8,ae=bO (bO (bO (bO (bO (s) ej e8) eZ dF) hP v3) jy v4) kF v5:=⟨ae,by rw[dq h1,dq ad,dq aj,dq aF,dq aU]⟩
theorem zi {ae:a8} {ej:Nat} {e8:U} {eZ:Nat} {dF:U} {hP:Nat} {v3:U} {jy:Nat} {v4:U} {kF:Nat} {v5:U} {mr:Nat} {dK:U} (h1:ae ej=e8) (ad:ae eZ=dF) (aj:ae hP=v3) (aF:ae jy=v4) (aU:ae kF=v5) (bt:ae mr=dK) :∃ s:a8,ae=bO (bO (bO (bO (bO (bO (s) ej e8) eZ dF) hP v3) jy v4) kF v5) mr dK:=⟨ae,by rw[dq h1,dq ad,dq aj,dq aF,dq aU,dq bt]⟩
theorem Ii {ae:a8} {ej:Nat} {e8:U} {eZ:Nat} {dF:U} {hP:Nat} {v3:U} {jy:Nat} {v4:U} {kF:Nat} {v5:U} {mr:Nat} {dK:U} {jz:Nat} {oF:U} (h1:ae ej=e8) (ad:ae eZ=dF) (aj:ae hP=v3) (aF:ae jy=v4) (aU:ae kF=v5) (bt:ae mr=dK) (c8:ae jz=oF) :∃ s:a8,ae=bO (bO (bO (bO (bO (bO (bO (s) ej e8) eZ dF) hP v3) jy v4) kF v5) mr dK) jz oF:=⟨ae,by rw[dq h1,dq ad,dq aj,dq aF,dq aU,dq bt,dq c8]⟩
theorem YZ {ae:a8} {ej:Nat} {e8:U} {eZ:Nat} {dF:U} {hP:Nat} {v3:U} {jy:Nat} {v4:U} {kF:Nat} {v5:U} {mr:Nat} {dK:U} {jz:Nat} {oF:U} {rE:Nat} {kR:U} (h1:ae ej=e8) (ad:ae eZ=dF) (aj:ae hP=v3) (aF:ae jy=v4) (aU:ae kF=v5) (bt:ae mr=dK) (c8:ae jz=oF) (ed:ae rE=kR) :∃ s:a8,ae=bO (bO (bO (bO (bO (bO (bO (bO (s) ej e8) eZ dF) hP v3) jy v4) kF v5) mr dK) jz oF) rE kR:=⟨ae,by rw[dq h1,dq ad,dq aj,dq aF,dq aU,dq bt,dq c8,dq ed]⟩
theorem amq {ae:a8} {ej:Nat} {e8:U} {eZ:Nat} {dF:U} {hP:Nat} {v3:U} {jy:Nat} {v4:U} {kF:Nat} {v5:U} {mr:Nat} {dK:U} {jz:Nat} {oF:U} {rE:Nat} {kR:U} {wF:Nat} {v9:U} (h1:ae ej=e8) (ad:ae eZ=dF) (aj:ae hP=v3) (aF:ae jy=v4) (aU:ae kF=v5) (bt:ae mr=dK) (c8:ae jz=oF) (ed:ae rE=kR) (eG:ae wF=v9) :∃ s:a8,ae=bO (bO (bO (bO (bO (bO (bO (bO (bO (s) ej e8) eZ dF) hP v3) jy v4) kF v5) mr dK) jz oF) rE kR) wF v9:=⟨ae,by rw[dq h1,dq ad,dq aj,dq aF,dq aU,dq bt,dq c8,dq ed,dq eG]⟩
theorem YY {ae:a8} {ej:Nat} {e8:U} {eZ:Nat} {dF:U} {hP:Nat} {v3:U} {jy:Nat} {v4:U} {kF:Nat} {v5:U} {mr:Nat} {dK:U} {jz:Nat} {oF:U} {rE:Nat} {kR:U} {wF:Nat} {v9:U} {Dr:Nat} {EA:U} {Ds:Nat} {EB:U} (h1:ae ej=e8) (ad:ae eZ=dF) (aj:ae hP=v3) (aF:ae jy=v4) (aU:ae kF=v5) (bt:ae mr=dK) (c8:ae jz=oF) (ed:ae rE=kR) (eG:ae wF=v9) (mc:ae Dr=EA) (ul:ae Ds=EB) :∃ s:a8,ae=bO (bO (bO (bO (bO (bO (bO (bO (bO (bO (bO (s) ej e8) eZ dF) hP v3) jy v4) kF v5) mr dK) jz oF) rE kR) wF v9) Dr EA) Ds EB:=⟨ae,by rw[dq h1,dq ad,dq aj,dq aF,dq aU,dq bt,dq c8,dq ed,dq eG,dq mc,dq ul]⟩
theorem amp {ae:a8} {ej:Nat} {e8:U} {eZ:Nat} {dF:U} {hP:Nat} {v3:U} {jy:Nat} {v4:U} {kF:Nat} {v5:U} {mr:Nat} {dK:U} {jz:Nat} {oF:U} {rE:Nat} {kR:U} {wF:Nat} {v9:U} {Dr:Nat} {EA:U} {Ds:Nat} {EB:U} {Vo:Nat} {Y0:U} (h1:ae ej=e8) (ad:ae eZ=dF) (aj:ae hP=v3) (aF:ae jy=v4) (aU:ae kF=v5) (bt:ae mr=dK) (c8:ae jz=oF) (ed:ae rE=kR) (eG:ae wF=v9) (mc:ae Dr=EA) (ul:ae Ds=EB) (J9:ae Vo=Y0) :∃ s:a8,ae=bO (bO (bO (bO (bO (bO (bO (bO (bO (bO (bO (bO (s) ej e8) eZ dF) hP v3) jy v4) kF v5) mr dK) jz oF) rE kR) wF v9) Dr EA) Ds EB) Vo Y0:=⟨ae,by rw[dq h1,dq ad,dq aj,dq aF,dq aU,dq bt,dq c8,dq ed,dq eG,dq mc,dq ul,dq J9]⟩
section
variable {α:Type}
@[simp] theorem zM (l:ao) (z:Nat) (enc:α->List U) (s:c6 α) :dM l z (cI z enc s)=some ((s.l.map enc).flatten,s.l.length) :=by
 cases s<;>simp[cI,dM]
end
theorem fi {cs vs:List U} (h:vs.length=cs.length) :bu cs 0 vs=vs:=by
 simp only[bu,avd,auT,avi];rw[auB (by omega),auu]
theorem Pt (len cap:Nat) (k:IntKind) (i:Int) :gK len cap (some (.int k i)) none none=if 0<=i/\i<=len then some (i.toNat,len,cap) else none:=by
 unfold gK jJ;by_cases h:0<=i/\i<=len
 ·simp only[if_pos h]
 ·simp only[if_neg h]
theorem Ja (len cap:Nat) (k:IntKind) (i:Int) :gK len cap none (some (.int k i)) none=if 0<=i/\i<=cap then some (0,i.toNat,cap) else none:=by
 unfold gK jJ;by_cases h:0<=i/\i<=cap
 ·simp only[if_pos h]
 ·simp only[if_neg h]
theorem aaM (len cap:Nat) (k k' : IntKind) (i j:Int) :gK len cap (some (.int k i)) (some (.int k' j)) none=if 0<=i/\i<=j/\j<=cap then some (i.toNat,j.toNat,cap) else none:=by
 unfold gK jJ;by_cases h:0<=j/\j<=cap
 ·simp only[if_pos h];by_cases ad:0<=i/\i<=((j.toNat:Nat) :Int)
  ·simp only[if_pos ad]; rw[if_pos (by omega)]
  ·simp only[if_neg ad]; rw[if_neg (by omega)]
 ·simp only[if_neg h]; rw[if_neg (by omega)]
theorem ak1 {α:Type} {z:Nat} {enc:α->List U} {l:List α} {k:IntKind} {i:Int} (h1:0<=i) (ad:i<=l.length) :gq (.au z) (cI z enc (some l)) (some (.int k i)) none none=some (cI z enc (some (l.drop i.toNat))) :=by
 have aj:i.toNat<=l.length:=by omega
 simp only[gq,cI,if_true,Pt,auh];rw[if_pos ⟨h1,ad⟩];simp only[at1,Option.some.injEq,U.bR.injEq,true_and];rw[atT (by simp),List.map_drop]
theorem Yd {α:Type} {z:Nat} {enc:α->List U} {l:List α} {k:IntKind} {i:Int} (h1:0<=i) (ad:i<=l.length) :gq (.au z) (cI z enc (some l)) none (some (.int k i)) none=some (cI z enc (some (l.take i.toNat))) :=by
 simp only[gq,cI,if_true,Ja,auh];rw[if_pos ⟨h1,ad⟩];simp only[at1,Option.some.injEq,U.bR.injEq,true_and,au3,aww];rw[axd]
theorem ak2 {α:Type} {z:Nat} {enc:α->List U} {l:List α} {k k' : IntKind} {i j:Int} (aE:0<=i) (h1:i<=j) (ad:j<=l.length) :gq (.au z) (cI z enc (some l)) (some (.int k i)) (some (.int k' j)) none=some (cI z enc (some ((l.drop i.toNat).take (j.toNat - i.toNat)))) :=by
 simp only[gq,cI,if_true,aaM,auh];rw[if_pos ⟨aE,h1,ad⟩];simp only[at1,Option.some.injEq,U.bR.injEq,true_and];rw[axd,List.map_drop]
theorem map_set {α:Type} (l:List α) (k:Nat) (x:α) (enc:α->List U) :(l.map enc).set k (enc x)=(l.set k x).map enc:=by rw[List.map_set]
end

section
variable {P:Program}
def Yu (P:Program) (t:TypeId) :Option (List TypeId) :=match P.underlying t with
 | some (.struct fs)=>some (fs.toList.map (·.type))
 | _=>none
theorem Ig {cs:List U} (h:ea P [] cs) :cs=[] :=by cases h; rfl
theorem Bq {t:TypeId} {k:IntKind} {ts:List TypeId} {cs:List U} (aL:P.underlying t=some (.int k)) (h:ea P (t::ts) cs) :∃ n cs',cs=.int k n::cs'/\k.min<=n/\n<=k.max/\ea P ts cs':=by
 cases h
 case int k' n cs' h1 ad qx h=>
  rw[aL] at qx; cases qx; exact⟨_,_,rfl,h1,ad,h⟩
 all_goals (exfalso; simp_all; done)
theorem Ey {t:TypeId} {fs ts:List TypeId} {cs:List U} (aL:Yu P t=some fs) (h:ea P (t::ts) cs) :ea P (fs++ts) cs:=by
 unfold Yu at aL;cases h
 case struct aps qx h=>rw[qx] at aL; cases aL; exact h
 all_goals (exfalso; simp_all; done)
theorem amg {t e:TypeId} {n:Nat} {ts:List TypeId} {cs:List U} (aL:P.underlying t=some (.array n e)) (h:ea P (t::ts) cs) :ea P (List.replicate n e++ts) cs:=by
 cases h
 case array fw g6 qx h=>rw[aL] at qx; cases qx; exact h
 all_goals (exfalso; simp_all; done)
theorem amj {t e:TypeId} {ts:List TypeId} {cs:List U} (aL:P.underlying t=some (.slice e)) (h:ea P (t::ts) cs) :
  ∃ cs',ea P ts cs'/\(cs=.aW::cs'\/∃ es,cs=.bR (P.cellsOf e) es::cs'/\es.length<=maxLen/\∀ r∈es,ea P [e] r) :=by
 cases h
 case aW fw cs' qx h=>exact⟨_,h,.inl rfl⟩
 case au fw es cs' al aw am qx h=>rw[aL] at qx; cases qx; exact⟨_,h,.inr ⟨es,rfl,al,am⟩⟩
 all_goals (exfalso; simp_all; done)
theorem XU {α:Type} {enc:α->List U} {Q:α->Prop}:∀ (es:List (List U)),(∀ r∈es,∃ x,r=enc x/\Q x)->∃ xs:List α,es=xs.map enc/\∀ x∈xs,Q x
 | [],_=>⟨[],rfl,fun x af=>by cases af⟩
 | r::es,h=>by
  obtain⟨x,rfl,af⟩:=h r (by simp);obtain⟨xs,rfl,AK⟩:=XU es (fun r az=>h r (by simp[az]));exact⟨x::xs,rfl,fun y aA=>by
   rcases auG.1 aA with rfl | aA
   ·exact af
   ·exact AK y aA⟩
theorem Oh {α:Type} {t e:TypeId} {z:Nat} {enc:α->List U} {Q:α->Prop} {ts:List TypeId} {cs:List U} (aL:P.underlying t=some (.slice e)) (aw:P.cellsOf e=z) (am:∀ r,ea P [e] r->∃ x,r=enc x/\Q x) (h:ea P (t::ts) cs) :
  ∃ (s:c6 α) (cs' : List U),cs=cI z enc s::cs'/\s.l.length<=maxLen/\(∀ x∈s.l,Q x)/\ea P ts cs':=by
 obtain⟨cs',h1,rfl | ⟨es,rfl,al,az⟩⟩:=amj aL h
 ·exact⟨none,cs',rfl,au7 _,fun x af=>(by cases af),h1⟩
 ·obtain⟨xs,rfl,AK⟩:=XU (enc:=enc) (Q:=Q) es (fun r kB=>am r (az r kB));refine⟨some xs,cs',?_,by simpa using al,AK,h1⟩;rw[aw]; rfl
theorem amd {t:TypeId} {c:U} (ax:eo P t=some true) (h:tO P t c) :∃ cs,c=.aJ cs/\ea P [t] cs:=by
 unfold tO at h; rw[ax] at h; exact h
theorem ame {t:TypeId} {c:U} (ax:eo P t=some false) (h:tO P t c) :ea P [t] [c] :=by
 unfold tO at h; rw[ax] at h; exact h
theorem YR {t:TypeId} {ts:List TypeId} {cs:List U} (h:mE P (t::ts) cs) :∃ c cs',cs=c::cs'/\tO P t c/\mE P ts cs':=by
 cases h with
 | cons h1 ad=>exact⟨_,_,rfl,h1,ad⟩
theorem amc {cs:List U} (h:mE P [] cs) :cs=[] :=by cases h; rfl
end

end Go.cb

namespace Go.cb
open Go Go.ChangeShapes Go.RowKit
theorem YN {H:Type} {enc:TypeId × Value->H} {P:Program} (al:laidOutB P=true) {W tP:World} (ag:Below W.heap.size W tP) :∀ {ts:List TypeId} {vs:List Value} {h0:List (DataW H)} {cJ:List MemPlace},
  (∀ t∈ts,P.readableRec t=true/\t<P.types.size)->DataW.TrodAll enc P W 0 (fun _=>true) true ts vs h0 cJ->DataW.TrodAll enc P tP 0 (fun b=>decide (b<W.heap.size)) true ts vs h0 cJ
 | [],vs,h0,cJ,_,h=>by
  obtain⟨rfl,rfl,rfl⟩:=trodAll_nil h;exact trodAll_mk0
 | t::ts,vs,h0,cJ,az,h=>by
  have aN:=h.lt;obtain⟨v,amB,d,abX,a,b,rfl,rfl,rfl,h1,ad⟩:=trodAll_cons h;exact⟨a,b,Below.trod al (az t (by simp)).1 (az t (by simp)).2 h1 ag (fun x af=>aN x (by simp[af])),YN al ag (fun t aH=>az t (by simp[aH])) ad,rfl⟩
theorem ah2 {P:Program} {G:Nat->U} (mj:P.follows .mixedOrders=true) (kw:∀ g,(G g).closed=true) {f:FuncId} {ts:List TypeId} (D:Nat) (ay:∀ t∈ts,u1 P D t=true) (afs:laidOutB P=true)
  (cE:∀ t∈ts,P.readableRec t=true/\t<P.types.size) (ah0:∀ cs,mE P ts cs->cY P G f cs [] (c:=⟨fun r _=>r=.bool true⟩))
  {H:Type} {enc:TypeId × Value->H} {W:World} {hf:Nat} {args:Array Value} {h0:List (DataW H)} {cJ:List MemPlace} (ar:∀ g,fD W (fun _=>True) (G g) (.pointer (some ⟨g,0,none⟩)))
  (df:∀ (j:Nat) t v,ts[j]? = some t->args[j]? = some v->Value.okWide P W .any hf t v) (h:DataW.TrodAll enc P W 0 (fun _=>true) true ts args.toList h0 cJ) :
  Calls P f args W fun e w'=>e=.returned (.bool true)/\Below W.heap.size W w'/\DataW.TrodAll enc P w' 0 (fun b=>decide (b<W.heap.size)) true ts args.toList h0 cJ:=by
 obtain⟨cs,AC,bl,uG⟩:=Pc (A:=fun _=>True) (fun _=>trivial) ay (fun j t v aH aq=>df j t v aH (by simpa using aq)) h;exact (ah1 mj kw (ah0 cs AC) ar (by rw[bl]; simp) (fun j c v ah aq=>uG j c v ah (by simpa using aq))).mono fun e w' ⟨am,ag⟩=>⟨am,ag,YN afs ag cE h⟩
end Go.cb

/-
  The canonical machine, part X: what must hold behind code without types holds behind the code.
-/
import Derived.Test.YtginfboibgolaaaGreatDoorRd
import GoSem.ClaimChange
import GoSem.ClaimWide
import Derived.ProofKit
set_option linter.unusedVariables false
set_option linter.unusedSimpArgs false
set_option linter.unnecessarySimpa false
namespace Go.bJ
open Go
section
variable {P:Program} {G:Nat->U}
theorem Pf {op:Op} {m:cY} (hm:mu P op=some m) (ap:jK op=false) :m.looks=true\/m.ik=true:=by
 cases op<;>simp only[jK,atb,reduceCtorEq] at ap<;>simp only[mu] at hm<;>try (cases hm; done)
 case move=>cases hm; exact .inl rfl
 case assign=>cases hm; exact .inl rfl
 case pick=>cases hm; exact .inl rfl
 case alloc=>rw[map_some] at hm; obtain⟨_,_,rfl⟩:=hm; exact .inr rfl
 case box=>cases hm; exact .inr rfl
 case build=>simp only[bind_some,map_some] at hm; obtain⟨_,_,_,_,rfl⟩:=hm; exact .inl rfl
 case buildSlice=>simp only[bind_some,hM] at hm; obtain⟨_,_,_,_,_,_,_,rfl⟩:=hm; exact .inr rfl
 case load=>split at hm<;>cases hm<;>exact .inl rfl
 case nilCheck=>cases hm; exact .inl rfl
 case binOp=>cases hm; exact .inl rfl
 case unOp=>cases hm; exact .inl rfl
 case convert=>
  repeat' split at hm
  all_goals first | (cases hm; done) | (cases hm; exact .inl rfl)
 case makeInterface=>split at hm<;>cases hm; exact .inl rfl
 case makeFunc f a b=>cases f<;>simp only at hm<;>cases hm; exact .inl rfl
 case makeSlice=>simp only[bind_some,hM] at hm; obtain⟨_,_,_,_,_,_,_,_,_,rfl⟩:=hm; exact .inr rfl
 case slice=>rw[map_some] at hm; obtain⟨_,_,rfl⟩:=hm; exact .inl rfl
 case fieldAddr=>rw[bind_some] at hm; obtain⟨_,_,hm⟩:=hm; split at hm<;>cases hm; exact .inl rfl
 case field=>rw[bind_some] at hm; obtain⟨_,_,hm⟩:=hm; split at hm<;>cases hm<;>exact .inl rfl
 case indexAddr=>split at hm<;>cases hm<;>exact .inl rfl
 case index=>
  repeat' split at hm
  all_goals first | (cases hm; done) | (cases hm; exact .inl rfl)
 case extract=>cases hm; exact .inl rfl
 case call c=>
  split at hm
  ·rename_i b af;rw[af] at ap;cases b<;>simp only[atb,reduceCtorEq] at ap<;>unfold uo at hm<;>(repeat' split at hm)<;>first
    | (cases hm; done)
    | (cases hm; exact .inl rfl)
    | (rw[map_some] at hm; obtain⟨_,_,rfl⟩:=hm; exact .inl rfl)
    | (exfalso; simp only[reduceCtorEq] at *; done)
  ·rename_i f aA;rw[aA] at ap; cases ap
  ·cases hm
theorem Pg {op:Op} {m:cY} (hm:mu P op=some m) (aP:r4 P op=false) :m.reads=false/\m.ik=false:=by
 cases op<;>simp only[r4,atb,reduceCtorEq] at aP<;>simp only[mu] at hm<;>try (cases hm; done)
 case move=>cases hm; exact⟨rfl,rfl⟩
 case assign=>cases hm; exact⟨rfl,rfl⟩
 case pick=>cases hm; exact⟨rfl,rfl⟩
 case build=>simp only[bind_some,map_some] at hm; obtain⟨_,_,_,_,rfl⟩:=hm; exact⟨rfl,rfl⟩
 case store=>rw[map_some] at hm; obtain⟨_,_,rfl⟩:=hm; exact⟨rfl,rfl⟩
 case nilCheck=>cases hm; exact⟨rfl,rfl⟩
 case binOp=>cases hm; exact⟨rfl,rfl⟩
 case unOp=>cases hm; exact⟨rfl,rfl⟩
 case makeInterface=>split at hm<;>cases hm; exact⟨rfl,rfl⟩
 case makeFunc f a b=>cases f<;>simp only at hm<;>cases hm; exact⟨rfl,rfl⟩
 case typeAssert=>rw[map_some] at hm; obtain⟨_,_,rfl⟩:=hm; exact⟨rfl,rfl⟩
 case slice=>rw[map_some] at hm; obtain⟨_,_,rfl⟩:=hm; exact⟨rfl,rfl⟩
 case fieldAddr=>rw[bind_some] at hm; obtain⟨_,_,hm⟩:=hm; split at hm<;>cases hm; exact⟨rfl,rfl⟩
 case field=>rw[bind_some] at hm; obtain⟨_,_,hm⟩:=hm; split at hm<;>cases hm<;>exact⟨rfl,rfl⟩
 case indexAddr=>split at hm<;>cases hm<;>exact⟨rfl,rfl⟩
 case index=>
  repeat' split at hm
  all_goals first | (cases hm; done) | (cases hm; exact⟨rfl,rfl⟩)
 case extract=>cases hm; exact⟨rfl,rfl⟩
 case next it b=>cases b<;>simp only[reduceCtorEq] at hm<;>cases hm; exact⟨rfl,rfl⟩
 case panic=>cases hm; exact⟨rfl,rfl⟩
 case lookup=>split at hm<;>(try cases hm; done); rw[map_some] at hm; obtain⟨_,_,rfl⟩:=hm; exact⟨rfl,rfl⟩
 case mapUpdate=>split at hm<;>cases hm; exact⟨rfl,rfl⟩
 case insert=>split at hm<;>cases hm; exact⟨rfl,rfl⟩
 case makeMap=>split at hm<;>cases hm; exact⟨rfl,rfl⟩
 case range=>split at hm<;>cases hm; exact⟨rfl,rfl⟩
 case call c=>
  split at hm
  ·rename_i b af;rw[af] at aP;unfold uo at hm
   repeat' split at hm
   all_goals first
    | (cases hm; done)
    | (exfalso; simp_all; done)
    | (cases hm; exact⟨rfl,rfl⟩)
    | (simp only[bind_some,map_some] at hm; obtain⟨_,_,rfl⟩:=hm; exact⟨rfl,rfl⟩)
    | (simp only[bind_some,map_some] at hm; obtain⟨_,_,_,_,rfl⟩:=hm; exact⟨rfl,rfl⟩)
    | (simp only[bind_some,hM] at hm; obtain⟨_,_,_,_,_,_,_,rfl⟩:=hm; exact⟨rfl,rfl⟩)
    | (simp only[bind_some,hM] at hm; obtain⟨_,_,_,_,_,_,_,_,_,rfl⟩:=hm; exact⟨rfl,rfl⟩)
  ·split at hm
   ·rw[hM] at hm; obtain⟨_,rfl⟩:=hm; exact⟨rfl,rfl⟩
   ·cases hm
  ·cases hm
inductive md (P:Program) (G:Nat->U) (s:dI) (o:Oper) (ae:a2) (l:am) (v:U) (l1:am) :bC->Prop
 | pure (m:cY) (af:s.b=.go m) (hm:m.looks=true) (ak:l1=l) (al:bF P (cH G ae) l m=some (v,l)) :md P G s o ae l v l1 (.pure s.i v)
 | new (m:cY) (cs:List U) (af:s.b=.go m) (hm:m.ik=true) (ak:l1=l++[.cells cs.length cs]) :md P G s o ae l v l1 (.new s.i v cs)
 | fU (ap:jK o.op=true) (bc:l.length<=l1.length) :md P G s o ae l v l1 (.fU s.i v (bK l1))
theorem md.idx {s:dI} {o:Oper} {ae:a2} {l l1:am} {v:U} {t:bC} (k:md P G s o ae l v l1 t) :t.idx=s.i:=by cases k<;>rfl
theorem md.val {s:dI} {o:Oper} {ae:a2} {l l1:am} {v:U} {t:bC} (k:md P G s o ae l v l1 t) :t.val=v:=by cases k<;>rfl
theorem md.next {s:dI} {o:Oper} {ae:a2} {l l1:am} {v:U} {t:bC} (k:md P G s o ae l v l1 t) :pp (bK l) t=bK l1:=by
 cases k with
 | pure m af hm ak al=>rw[ak]; rfl
 | new m cs af hm ak=>rw[ak,<-lF]; rfl
 | fU ap _=>rfl
theorem aib {ops:Array Oper} {s:dI} {o:Oper} (ok:oO P ops s o) {ae:a2} (hw:jW ops ae o=some true) {l:am} {K:U->am->Prop} (h:hn P G s.b ae l K) :
  ∃ v l1 t,md P G s o ae l v l1 t/\v6 P G ops ⟨ae,bK l⟩ t/\K v l1:=by
 obtain⟨v,l1,h1,ad,aj,aC⟩:=Ve ok h;have j6:jK o.op=true->∃ v l1 t,md P G s o ae l v l1 t/\v6 P G ops ⟨ae,bK l⟩ t/\K v l1:=fun ap=>⟨v,l1,_,.fU ap ad,⟨o,ok.here,hw,h1,by simpa using ad⟩,aj⟩
 cases af:s.b with
 | go m=>
  have hm:=ok.go m af;cases ap:jK o.op with
  | true=>exact j6 ap
  | false=>
   have al:=aC m af (Pf hm ap);rcases Pf hm ap with ak | aD
   ·have:=Ti ak al;subst this;exact⟨v,l1,_,.pure m af ak rfl al,⟨o,ok.here,hw⟩,aj⟩
   ·obtain⟨cs,mk,aZ,bx,de⟩:=ae7 hm aD al;exact⟨v,l1,_,.new m cs af aD de,⟨o,mk,ok.here,hw,aZ,bx⟩,aj⟩
 | lL f args=>
  obtain⟨c,hL,ah,_⟩:=ok.lL f args af;exact j6 (by rw[hL]; simp only[jK,ah])
 | mm x args=>
  obtain⟨c,hL,ah,_⟩:=ok.mm x args af;exact j6 (by rw[hL]; simp only[jK,ah])
 | m3 x name args=>
  obtain⟨c,hL,ah,_⟩:=ok.m3 x name args af;exact j6 (by rw[hL]; simp only[jK,ah])
inductive jw (P:Program) (G:Nat->U) (ops:Array Oper) :List dI->a2->am->hT->List (bC × a2 × am)->a2->am->Prop
 | nil {ae l seen}:jw P G ops [] ae l seen [] ae l
 | skip {s o r ae l seen es bP l'}:oO P ops s o->jW ops ae o=some false->jw P G ops r (gV ae s.dst gX) l seen es bP l'->jw P G ops (s::r) ae l seen ((.skip s.i,ae,l) ::es) bP l'
 | step {s o r ae l v l1 t seen es bP l'}:oO P ops s o->md P G s o ae l v l1 t->v6 P G ops ⟨ae,bK l⟩ t->oU s.g1 seen l1->
   jw P G ops r (gV ae s.dst v) l1 (qK s.cr s.i (kQ P G s.b ae v l l1) seen) es bP l'->jw P G ops (s::r) ae l seen ((t,ae,l) ::es) bP l'
theorem LK {ops:Array Oper} {K:a2->am->Prop}:∀ {s:List dI} {ae:a2} {l:am} {seen:hT},(∀ x∈s,∃ o,oO P ops x o)->i7 P G s ae l seen K->∃ es bP l',jw P G ops s ae l seen es bP l'/\K bP l'
 | [],ae,l,seen,_,h=>⟨[],ae,l,.nil,h⟩
 | s::r,ae,l,seen,dN,h=>by
  obtain⟨o,ok⟩:=dN s (by simp);rcases SX ok h with ⟨hw,h⟩ | ⟨hw,h⟩
  ·obtain⟨v,l1,t,h1,ad,aj,aC⟩:=aib ok hw h;obtain⟨es,bP,l',aZ,bx⟩:=LK (fun x ag=>dN x (by simp[ag])) aC;exact⟨_,bP,l',.step ok h1 ad aj aZ,bx⟩
  ·obtain⟨es,bP,l',aZ,bx⟩:=LK (fun x ag=>dN x (by simp[ag])) h;exact⟨_,bP,l',.skip ok hw aZ,bx⟩
theorem LM {K:a2->am->Prop}:∀ {s:List dI} {ae:a2} {l:am},(∀ x∈s,x.cr=false)->iQ P G s ae l K->i7 P G s ae l [] K
 | [],ae,l,_,h=>h
 | s::r,ae,l,hk,h=>by
  have mono:∀ (b:pG) (K gd:U->am->Prop),(∀ v l,K v l->gd v l)->hn P G b ae l K->hn P G b ae l gd:=by
   intro b K gd aS h;cases b with
   | go m=>simp only[hn,yi] at h ⊢; obtain⟨v,h1,ad⟩:=h; exact⟨v,h1,S1 aS ad⟩
   | lL f args=>obtain⟨r,l',h1,ad,aj⟩:=h; exact⟨r,l',h1,ad,aS _ _ aj⟩
   | mm x args=>
    simp only[hn,ui] at h ⊢;split at h
    ·obtain⟨aE,r,l',h1,ad,aj⟩:=h; exact⟨aE,r,l',h1,ad,aS _ _ aj⟩
    ·cases h
   | m3 x name args=>
    simp only[hn,uh] at h ⊢;split at h
    ·split at h
     ·obtain⟨aE,r,l',h1,ad,aj⟩:=h; exact⟨aE,r,l',h1,ad,aS _ _ aj⟩
     ·cases h
    ·cases h
  have ZO:∀ (g:Option (Option Tmp × Bool)) (p q bT e5:Prop),(p->bT)->(q->e5)->pm ae g p q->pm ae g bT e5:=by
   intro g p q bT e5 aB bm h;unfold pm at h ⊢;split at h
   ·exact aB h
   ·rename_i d w;simp only[qt] at h ⊢;split at h
    ·rw[Cu] at h ⊢;rcases h with ⟨a,b⟩ | ⟨a,b⟩
     ·exact .inl ⟨a,aB b⟩
     ·exact .inr ⟨a,bm b⟩
    ·cases h
    ·exact bm h
   ·exact bm h
  have wS:s.cr=false:=hk s (by simp);refine ZO _ _ _ _ _ (mono _ _ _ fun v l' h=>?_) (fun h=>LM (fun x ag=>hk x (by simp[ag])) h) h;refine⟨trivial,?_⟩;rw[wS];exact LM (fun x ag=>hk x (by simp[ag])) h
theorem md.len {s:dI} {o:Oper} {ae:a2} {l l1:am} {v:U} {t:bC} (k:md P G s o ae l v l1 t) :l.length<=l1.length:=by
 cases k with
 | pure m af hm ak al=>rw[ak]; exact aqv _
 | new m cs af hm ak=>rw[ak]; simp
 | fU ap bc=>exact bc
theorem jw.len {ops:Array Oper} {s:List dI} {ae bP:a2} {l l' : am} {seen:hT} {es:List (bC × a2 × am)} (h:jw P G ops s ae l seen es bP l') :l.length<=l'.length:=by
 induction h with
 | nil=>exact aqv _
 | skip _ _ _ aJ=>exact aJ
 | step _ k _ _ _ aJ=>exact ar8 k.len aJ
def sU (es:List (bC × a2 × am)) (l' : am) (q:Nat) :am:=match es[q]? with | some x=>x.2.2 | none=>l'
theorem jw.here {ops:Array Oper} {s:List dI} {ae bP:a2} {l l' : am} {seen:hT} {es:List (bC × a2 × am)} (h:jw P G ops s ae l seen es bP l') :sU es l' 0=l:=by
 cases h<;>rfl
theorem jw.idx {ops:Array Oper} {s:List dI} {ae bP:a2} {l l' : am} {seen:hT} {es:List (bC × a2 × am)} (h:jw P G ops s ae l seen es bP l') :es.map (fun e=>e.1.idx)=s.map (·.i) :=by
 induction h with
 | nil=>rfl
 | skip _ _ _ aJ=>simp only[aqP,aJ]; rfl
 | step _ k _ _ _ aJ=>simp only[aqP,aJ,k.idx]
theorem jw.at {ops:Array Oper} {s:List dI} {ae bP:a2} {l l' : am} {seen:hT} {es:List (bC × a2 × am)} (h:jw P G ops s ae l seen es bP l') :
  (∀ (p:Nat) (e:bC × a2 × am),es[p]? = some e->v6 P G ops ⟨e.2.1,bK e.2.2⟩ e.1/\gu ops ⟨ae,bK l⟩ (es.map (·.1)) p=⟨e.2.1,bK e.2.2⟩)/\gu ops ⟨ae,bK l⟩ (es.map (·.1)) es.length=⟨bP,bK l'⟩:=by
 induction h with
 | nil=>exact⟨fun p e ap=>by simp at ap,rfl⟩
 | @skip s o r ae l seen es bP l' ok hw _ aJ=>
  have lS:lr ops ⟨ae,bK l⟩ (.skip s.i)=⟨gV ae s.dst gX,bK l⟩:=by simp only[lr,wm,bC.idx,ok.here,arF,bC.val,pp,ok.dst]
  refine⟨fun p e ap=>?_,?_⟩
  ·cases p with
   | zero=>simp only[aqQ,Option.some.injEq] at ap; subst ap; exact⟨⟨o,ok.here,hw⟩,rfl⟩
   | succ p=>
    simp only[aq2] at ap;obtain⟨h1,ad⟩:=aJ.1 p e ap;refine⟨h1,?_⟩;rw[aqP,GG,lS]; exact ad
  ·rw[aqP,aqH,GG,lS]; exact aJ.2
 | @step s o r ae l v l1 t seen es bP l' ok k al ah _ aJ=>
  have lS:lr ops ⟨ae,bK l⟩ t=⟨gV ae s.dst v,bK l1⟩:=by simp only[lr,wm,k.idx,ok.here,arF,k.val,k.next,ok.dst]
  refine⟨fun p e ap=>?_,?_⟩
  ·cases p with
   | zero=>simp only[aqQ,Option.some.injEq] at ap; subst ap; exact⟨al,rfl⟩
   | succ p=>
    simp only[aq2] at ap;obtain⟨h1,ad⟩:=aJ.1 p e ap;refine⟨h1,?_⟩;rw[aqP,GG,lS]; exact ad
  ·rw[aqP,aqH,GG,lS]; exact aJ.2
theorem jw.still {ops:Array Oper} {s:List dI} {ae bP:a2} {l l' : am} {seen:hT} {es:List (bC × a2 × am)} (h:jw P G ops s ae l seen es bP l') (j:Nat) (S:am->Prop)
  (o8:∀ l x,S l->S (l++x)) (aE:S l) :∀ q,q<=es.length->(∀ (p:Nat) (e:bC × a2 × am),p<q->es[p]? = some e->e.1.iJ=true->(j,S)∈seen/\∃ x,s[p]? = some x/\j∈x.g1)->S (sU es l' q) :=by
 have X4:∀ {ids:List Nat} {seen:hT} {l:am},oU ids seen l->(j,S)∈seen->j∈ids->S l:=by
  intro ids seen l ah hm ax
  induction seen with
  | nil=>cases hm
  | cons e r aJ=>
   obtain⟨h1,ad⟩:=ah;rcases arI.1 hm with rfl | hm
   ·exact h1 (by simpa using ax)
   ·exact aJ ad hm
 induction h with
 | nil=>
  intro q bm _; simp only[aq5] at bm; obtain rfl:q=0:=by omega
  exact aE
 | @skip s o r ae l seen es bP l' ok hw _ aJ=>
  intro q bm yU;cases q with
  | zero=>exact aE
  | succ q=>exact aJ aE q (by simpa using bm) (fun p e aB ap dV=>by
    obtain⟨h1,x,ad,aj⟩:=yU (p+1) e (by omega) (by simpa using ap) dV;exact⟨h1,x,by simpa using ad,aj⟩)
 | @step s o r ae l v l1 t seen es bP l' ok k al ah _ aJ=>
  intro q bm yU;cases q with
  | zero=>exact aE
  | succ q=>
   have h1:S l1:=by
    cases k with
    | pure m af hm ak _=>rw[ak]; exact aE
    | new m cs af hm ak=>rw[ak]; exact o8 _ _ aE
    | fU ap _=>
     obtain⟨h1,x,ad,aj⟩:=yU 0 _ (by omega) rfl rfl;simp only[aqQ,Option.some.injEq] at ad;subst ad;exact X4 ah h1 aj
   refine aJ h1 q (by simpa using bm) (fun p e aB ap dV=>?_);obtain⟨h1,x,ad,aj⟩:=yU (p+1) e (by omega) (by simpa using ap) dV;refine⟨?_,x,by simpa using ad,aj⟩;unfold qK;cases s.cr with
   | false=>exact h1
   | true=>exact asW _ h1
theorem jw.split {ops:Array Oper} {s:List dI} {ae bP:a2} {l l' : am} {seen:hT} {es:List (bC × a2 × am)} (h:jw P G ops s ae l seen es bP l') :∀ (p:Nat) (e:bC × a2 × am),es[p]? = some e->e.1.tf=false->
  ∃ x o v l1 vF,s[p]? = some x/\oO P ops x o/\md P G x o e.2.1 e.2.2 v l1 e.1 ∧
   jw P G ops (s.drop (p+1)) (gV e.2.1 x.dst v) l1 (qK x.cr x.i (kQ P G x.b e.2.1 v e.2.2 l1) vF) (es.drop (p+1)) bP l':=by
 induction h with
 | nil=>intro p e ap; simp at ap
 | @skip s o r ae l seen es bP l' ok hw _ aJ=>
  intro p e ap gw;cases p with
  | zero=>simp only[aqQ,Option.some.injEq] at ap; subst ap; cases gw
  | succ p=>
   obtain⟨x,cW,v,l1,vF,h1,ad,aj,aC⟩:=aJ p e (by simpa using ap) gw;exact⟨x,cW,v,l1,vF,by simpa using h1,ad,aj,by simpa using aC⟩
 | @step s o r ae l v l1 t seen es bP l' ok k al ah tr aJ=>
  intro p e ap gw;cases p with
  | zero=>
   simp only[aqQ,Option.some.injEq] at ap; subst ap;exact⟨s,o,v,l1,seen,rfl,ok,k,by simpa using tr⟩
  | succ p=>
   obtain⟨x,cW,v,l1,vF,h1,ad,aj,aC⟩:=aJ p e (by simpa using ap) gw;exact⟨x,cW,v,l1,vF,by simpa using h1,ad,aj,by simpa using aC⟩
end

section
variable {P:Program} {G:Nat->U}
theorem T1 {ms:List Nat} {ops:Array Oper}:∀ (jr done j6:List Nat),(∀ i∈jr,i<ops.size)->(nw P ms ops jr done j6).map (·.1)=jr
 | [],_,_,_=>rfl
 | i::r,done,j6,h=>by
  unfold nw;have ax:i<ops.size:=h i (by simp);rw[arP ax];simp only;split<;>simp only[aqP]<;>rw[T1 r _ _ fun j ai=>h j (by simp[ai])]
theorem Ll {ms:List Nat} {ops:Array Oper}:∀ (jr done j6:List Nat) (p i:Nat) (g1:List Nat),(∀ i∈jr,i<ops.size)->(nw P ms ops jr done j6)[p]? = some (i,g1)->
  (∃ o,ops[i]? = some o/\jK o.op=true)->∀ j,(j∈done\/∃ gp,gp<p/\jr[gp]? = some j)->(∃ o,ops[j]? = some o/\r4 P o.op=true)->(∀ e∈j6,ot ms e j=false)->
  (∀ (bT lk:Nat) (o:Oper),bT<=p->jr[bT]? = some lk->ops[lk]? = some o->jK o.op=true->(bT=p\/o.guard=none)->ot ms lk j=false)->j∈g1
 | [],done,j6,p,i,g1,_,aB,_,_,_,_,_,_=>by simp[nw] at aB
 | x::r,done,j6,p,i,g1,mJ,aB,ap,j,ai,aP,E5,zf=>by
  unfold nw at aB;have ag:x<ops.size:=mJ x (by simp);rw[arP ag] at aB;have JL:ops[x]? = some ops[x] :=arP ag;simp only at aB;have ay:∀ i∈r,i<ops.size:=fun j ai=>mJ j (by simp[ai])
  cases dV:jK ops[x].op with
  | true=>
   rw[dV] at aB;simp only at aB;cases p with
   | zero=>
    simp only[aqQ,Option.some.injEq,Prod.mk.injEq] at aB;obtain⟨rfl,rfl⟩:=aB;obtain⟨o,h1,ad⟩:=aP;rcases ai with ai | ⟨gp,R4,_⟩
    ·refine asl.2 ⟨ai,?_⟩;simp only[h1,ad,art,atD,aqw,ari];exact⟨by simp[zf 0 x ops[x] (aqv _) (by simp) JL dV (.inl rfl)],fun e ap=>by simp[E5 e ap]⟩
    ·omega
   | succ p=>
    simp only[aq2] at aB;refine Ll r _ _ p i g1 ay aB ap j ?_ aP ?_ ?_
    ·rcases ai with ai | ⟨gp,R4,ai⟩
     ·exact .inl (by simp[ai])
     ·cases gp with
      | zero=>simp only[aqQ,Option.some.injEq] at ai; exact .inl (by simp[ai])
      | succ gp=>exact .inr ⟨gp,by omega,by simpa using ai⟩
    ·intro e fW;cases au:ops[x].guard with
     | none=>
      rw[au] at fW;rcases arI.1 fW with rfl | fW
      ·exact zf 0 e ops[e] (by omega) (by simp) JL dV (.inr au)
      ·exact E5 e fW
     | some i3=>rw[au] at fW; exact E5 e fW
    ·intro bT lk o gR fP aq wy au;exact zf (bT+1) lk o (by omega) (by simpa using fP) aq wy (by rcases au with rfl | au; exact .inl rfl; exact .inr au)
  | false=>
   rw[dV] at aB;simp only at aB;cases p with
   | zero=>
    simp only[aqQ,Option.some.injEq,Prod.mk.injEq] at aB;obtain⟨rfl,rfl⟩:=aB;obtain⟨o,h1,ad⟩:=ap;rw[JL] at h1; cases h1;rw[dV] at ad; cases ad
   | succ p=>
    simp only[aq2] at aB;refine Ll r _ _ p i g1 ay aB ap j ?_ aP E5 ?_
    ·rcases ai with ai | ⟨gp,R4,ai⟩
     ·exact .inl (by simp[ai])
     ·cases gp with
      | zero=>simp only[aqQ,Option.some.injEq] at ai; exact .inl (by simp[ai])
      | succ gp=>exact .inr ⟨gp,by omega,by simpa using ai⟩
    ·intro bT lk o gR fP aq wy au;exact zf (bT+1) lk o (by omega) (by simpa using fP) aq wy (by rcases au with rfl | au; exact .inl rfl; exact .inr au)
theorem Pt {ms:List Nat} {ops:Array Oper}:∀ {jr:List Nat},A3 ms ops jr=true->∀ (p bT i j:Nat) (o:Oper),jr[p]? = some i->jr[bT]? = some j->p<bT->ops[i]? = some o->jK o.op=true->ot ms j i=true
 | [],_,p,bT,i,j,o,aB,_,_,_,_=>by simp at aB
 | x::r,h,p,bT,i,j,o,aB,gR,aL,aq,ap=>by
  simp only[A3,aqw] at h;cases bT with
  | zero=>omega
  | succ bT=>
   simp only[aq2] at gR;cases p with
   | zero=>
    simp only[aqQ,Option.some.injEq] at aB;subst aB;rw[aq] at h;simp only[ap,Bool.not_true,atf,ari] at h;exact h.1 j (aqI gR)
   | succ p=>exact Pt h.2 p bT i j o (by simpa using aB) gR (by omega) aq ap
theorem FW {α jc:Type} {f:α->Option jc}:∀ {l:List α} {r:List jc},l.mapM f=some r->∀ (p:Nat) (x:jc),r[p]? = some x->∃ a,l[p]? = some a/\f a=some x
 | [],r,h,p,x,ag=>by simp at h; subst h; simp at ag
 | a::l,r,h,p,x,ag=>by
  rw[ar2] at h;simp only[Option.bind_eq_bind,bind_some,asb,Option.some.injEq] at h;obtain⟨b,h1,cC,ad,rfl⟩:=h;cases p with
  | zero=>simp only[aqQ,Option.some.injEq] at ag; subst ag; exact⟨a,rfl,h1⟩
  | succ p=>obtain⟨eD,aj,aC⟩:=FW ad p x (by simpa using ag); exact⟨eD,by simpa using aj,aC⟩
theorem KV {α jc:Type} {f:α->Option jc}:∀ {l:List α} {r:List jc},l.mapM f=some r->r.length=l.length
 | [],r,h=>by simp at h; subst h; rfl
 | a::l,r,h=>by
  rw[ar2] at h;simp only[Option.bind_eq_bind,bind_some,asb,Option.some.injEq] at h;obtain⟨b,h1,cC,ad,rfl⟩:=h;simp[KV ad]
theorem abk (es:List (bC × a2 × am)) (l' : am) (n q:Nat) :sU (es.drop n) l' q=sU es l' (n+q) :=by
 unfold sU; rw[aq3]
theorem YI {id N' : Nat} {ops:Array Oper} {vJ:List dI} (br:∀ (i:Nat) (o:Oper),ops[i]? = some o->oZ N' o.dst=true)
  (mJ:Le (h9 ops) ops (e6 (h9 ops) ops)=true) (abj:A3 (h9 ops) ops (e6 (h9 ops) ops)=true)
  (b4:(nw P (h9 ops) ops (e6 (h9 ops) ops) [] []).mapM (fun p=>Dc P ops p.1 p.2 (((nw P (h9 ops) ops (e6 (h9 ops) ops) [] []).flatMap (·.2)).contains p.1))=some vJ)
  {ae bP:a2} {l l' : am} {es:List (bC × a2 × am)} (tr:jw P G ops vJ ae l [] es bP l') :c6 P G (.code (.region id ops true) N' ae (bK l) .normal bP (bK l')) :=by
 simp only[Le,aqw] at mJ;obtain⟨⟨⟨⟨xy,nu⟩,pq⟩,rK⟩,vp⟩:=mJ;have JV:∀ i∈e6 (h9 ops) ops,i<ops.size:=fun i ax=>by
  rw[ari] at rK;simpa [atC] using rK i ax
 have R9:(nw P (h9 ops) ops (e6 (h9 ops) ops) [] []).map (·.1)=e6 (h9 ops) ops:=T1 _ _ _ JV;have Fy:∀ (p:Nat) (x:dI),vJ[p]? = some x->∃ o,oO P ops x o/\(nw P (h9 ops) ops (e6 (h9 ops) ops) [] [])[p]? = some (x.i,x.g1) ∧
   x.cr=((nw P (h9 ops) ops (e6 (h9 ops) ops) [] []).flatMap (·.2)).contains x.i:=fun p x ag=>by
  obtain⟨a,h1,ad⟩:=FW b4 p x ag;obtain⟨o,aj,aC,aZ,bx⟩:=GJ ad;exact⟨o,aj,by rw[h1,aC,aZ],by rw[bx,aC]⟩
 have Sn:∀ (p:Nat) (x:dI),vJ[p]? = some x->(e6 (h9 ops) ops)[p]? = some x.i:=fun p x ag=>by
  obtain⟨o,_,h1,_⟩:=Fy p x ag;rw[<-R9,aqx,h1]; rfl
 have uM:∀ (p:Nat) (e:bC × a2 × am),es[p]? = some e->∃ x,vJ[p]? = some x/\x.i=e.1.idx:=fun p e ap=>by
  have:=congrArg (·[p]?) tr.idx;simp only[aqx,ap,aqy] at this;cases ag:vJ[p]? with
  | none=>rw[ag] at this; cases this
  | some x=>rw[ag] at this; simp only[aqy,Option.some.injEq] at this; exact⟨x,rfl,this.symm⟩
 have rv:∀ (p:Nat) (e:bC × a2 × am),es[p]? = some e->(e6 (h9 ops) ops)[p]? = some e.1.idx:=fun p e ap=>by
  obtain⟨x,h1,ad⟩:=uM p e ap;rw[Sn p x h1,ad]
 have eM:∀ (p:Nat) (t:bC),(es.map (·.1))[p]? = some t->∃ e,es[p]? = some e/\e.1=t:=fun p t aP=>by simpa using aP
 have wM:∀ (p:Nat) (e:bC × a2 × am),es[p]? = some e->e.1.iJ=true->∃ o,ops[e.1.idx]? = some o/\jK o.op=true/\(jW ops e.2.1 o=some true) :=fun p e ap dV=>by
  have gw:e.1.tf=false:=by cases h:e.1<;>rw[h] at dV<;>first | rfl | cases dV
  obtain⟨x,o,v,l1,vF,h1,ad,aj,aC⟩:=tr.split p e ap gw;have zh:=(tr.at.1 p e ap).1;have fm:=aj.idx;have aM:=ad.here;rw[<-fm] at aM;refine⟨o,aM,?_,?_⟩
  ·revert dV;generalize e.1=t at aj;intro dV;cases aj with
   | pure=>cases dV
   | new=>cases dV
   | fU ap _=>exact ap
  ·revert zh dV aM;generalize e.1=t;intro dV zh aM;cases t<;>first | (cases dV; done) | skip
   obtain⟨cW,aZ,bx,_⟩:=zh;simp only[bC.idx] at aM;rw[aM] at aZ; cases aZ;exact bx
 have fL:yf ops (ot (h9 ops)) (es.map (·.1)) :=by
  refine⟨YG xy,fun i ax=>?_,fun p bT t fN aB gR ap=>?_,fun p t aB=>?_,fun p bT t fN aB gR aL=>?_,fun p bT t fN aB gR aL dV=>?_⟩
  ·rw[ari] at vp;have:=vp i (by simpa using ax);have hm:i∈e6 (h9 ops) ops:=by simpa using this
   have iC:(es.map (·.1)).map bC.idx=e6 (h9 ops) ops:=by
    rw[asv];show es.map (fun e=>e.1.idx)=_;rw[tr.idx,<-R9];apply arp;intro p;rw[aqx,aqx];cases ag:vJ[p]? with
    | none=>
     have:(nw P (h9 ops) ops (e6 (h9 ops) ops) [] [])[p]? = none:=by
      rw[asB] at ag ⊢;rw[<-KV b4]; exact ag
     rw[this]; rfl
    | some x=>obtain⟨o,_,h1,_⟩:=Fy p x ag; rw[h1]; rfl
   rw[<-iC] at hm;obtain⟨t,h1,ad⟩:=aqR.1 hm;obtain⟨p,aB⟩:=asc h1;exact⟨p,t,aB,ad⟩
  ·obtain⟨e,aF,aQ⟩:=eM p t aB;obtain⟨eY,Bd,Be⟩:=eM bT fN gR;have a7:=rv p e aF;have bl:=rv bT eY Bd;rw[aQ] at a7; rw[Be] at bl;rcases arN p bT with h | h | h
   ·exact absurd ap (Gd nu p bT _ _ a7 bl h).1
   ·exact h
   ·exact absurd ap.symm (Gd nu bT p _ _ bl a7 h).1
  ·obtain⟨e,aF,aQ⟩:=eM p t aB;have a7:=rv p e aF;rw[aQ] at a7;exact JV _ (aqI a7)
  ·obtain⟨e,aF,aQ⟩:=eM p t aB;obtain⟨eY,Bd,Be⟩:=eM bT fN gR;have a7:=rv p e aF;have bl:=rv bT eY Bd;rw[aQ] at a7; rw[Be] at bl;exact (Gd nu p bT _ _ a7 bl aL).2
  ·obtain⟨e,aF,aQ⟩:=eM p t aB;obtain⟨eY,Bd,Be⟩:=eM bT fN gR;obtain⟨o,dU,dw,_⟩:=wM p e aF (by rw[aQ]; exact dV);have a7:=rv p e aF;have bl:=rv bT eY Bd;rw[aQ] at a7 dU; rw[Be] at bl;exact Pt abj p bT _ _ o a7 bl aL dU dw
 have jl:∀ q,q<=es.length->(gu ops ⟨ae,bK l⟩ (es.map (·.1)) q).h=bK (sU es l' q) :=fun q bm=>by
  unfold sU;cases ap:es[q]? with
  | none=>
   have:q=es.length:=by rw[asB] at ap; omega
   rw[this,tr.at.2]
  | some e=>rw[(tr.at.1 q e ap).2]
 have pz:Ho P G ops (ot (h9 ops)) ⟨ae,bK l⟩ (es.map (·.1)) :=by
  refine⟨fun p t aB=>?_,fun q bm p t amP aB eU=>?_⟩
  ·obtain⟨e,aF,aQ⟩:=eM p t aB;obtain⟨ci,dd⟩:=tr.at.1 p e aF;rw[dd,<-aQ]; exact ci
  ·obtain⟨e,aF,aQ⟩:=eM p t aB;obtain⟨ci,dd⟩:=tr.at.1 p e aF;have mK:q<=es.length:=by
    rcases bm with rfl | ⟨aiz,bm,_⟩
    ·simp
    ·obtain⟨eq,aW,_⟩:=eM q aiz bm;exact asu (aqr.1 aW).1
   rw[jl q mK,dd];cases gw:e.1.tf with
   | true=>rw[<-aQ]; cases h:e.1<;>rw[h] at gw<;>first | trivial | cases gw
   | false=>
    obtain⟨x,o,v,l1,vF,h1,ad,aj,aC⟩:=tr.split p e aF gw;obtain⟨cW,gD,jp,abW⟩:=Fy p x h1;have uT:cW=o:=by have a:=gD.here; have b:=ad.here; rw[a] at b; exact Option.some.inj b
    subst uT;have ask:r4 P cW.op=true->∀ (bT:Nat) (eY:bC × a2 × am),bT<q - (p+1)->(es.drop (p+1))[bT]? = some eY->eY.1.iJ=true->
      (x.i,kQ P G x.b e.2.1 v e.2.2 l1)∈qK x.cr x.i (kQ P G x.b e.2.1 v e.2.2 l1) vF/\∃ y,(vJ.drop (p+1))[bT]? = some y/\x.i∈y.g1:=by
     intro aP bT eY gR fW wy;rw[aq3] at fW;obtain⟨y,bL,bz⟩:=uM _ eY fW;obtain⟨rN,cO,dn,_⟩:=Fy _ y bL;obtain⟨afx,g6,vb,ane⟩:=wM _ eY fW wy;have fl:x.i∈y.g1:=by
      refine Ll _ _ _ _ _ _ JV dn ⟨afx,by rw[bz]; exact g6,vb⟩ x.i (.inr ⟨p,by omega,Sn p x h1⟩) ⟨cW,ad.here,aP⟩ (fun e ap=>by cases ap) ?_;intro rO ado F5 amL abD R2 EC au
      -- what is at p'' was carried out
      have aL:rO<es.length:=by
       have:=(aqr.1 fW).1;omega
      have iC:es[rO]? = some es[rO] :=aqu aL;have hv:=rv _ _ iC;rw[abD] at hv;have p9:ado=es[rO].1.idx:=Option.some.inj hv;have aan:es[rO].1.iJ=true:=by
       cases B6:es[rO].1.tf with
       | true=>
        exfalso;rcases au with rfl | au
        ·rw[iC] at fW;cases fW;cases h:es[p+1+bT].1<;>rw[h] at wy B6<;>first | (cases B6; done) | (cases wy; done)
        ·have zh:=(tr.at.1 _ _ iC).1;cases h:es[rO].1<;>rw[h] at B6 zh p9<;>first | (cases B6; done) | skip
         obtain⟨pq,lq,ko⟩:=zh;simp only[bC.idx] at p9;rw[<-p9,R2] at lq; cases lq;simp[jW,au] at ko
       | false=>
        obtain⟨Ak,pq,v3,dQ,apS,lq,ko,vj,_⟩:=tr.split _ _ iC B6;have abE:=vj.idx;have Rr:=ko.here;rw[<-abE,<-p9,R2] at Rr; cases Rr;revert vj;generalize es[rO].1=t3;intro vj;cases vj with
        | pure m af hm _ _=>
         exfalso;have ah:=ko.go m af;have:jK F5.op=false:=by
          revert ah hm;cases F5.op<;>simp only[mu]<;>intro hm ah<;>first | rfl | (exfalso; revert ah hm; done) | skip
          case store=>rw[map_some] at ah; obtain⟨_,_,rfl⟩:=ah; cases hm
          case call c=>
           split at ah
           ·rename_i b af;unfold jK;simp only[af];unfold uo at ah
            repeat' split at ah
            all_goals first
             | rfl
             | (cases ah; done)
             | (cases ah; cases hm; done)
             | (simp only[bind_some,map_some] at ah; obtain⟨_,_,rfl⟩:=ah; cases hm; done)
             | (simp only[bind_some,map_some] at ah; obtain⟨_,_,_,_,rfl⟩:=ah; cases hm; done)
             | (simp only[bind_some,hM] at ah; obtain⟨_,_,_,_,_,_,_,rfl⟩:=ah; cases hm; done)
             | (simp only[bind_some,hM] at ah; obtain⟨_,_,_,_,_,_,_,_,_,rfl⟩:=ah; cases hm; done)
           ·split at ah
            ·rw[hM] at ah; obtain⟨_,rfl⟩:=ah; cases hm
            ·cases ah
           ·cases ah
          case next it b=>(cases b<;>simp only[reduceCtorEq] at ah<;>cases ah<;>cases hm)
          case lookup=>split at ah<;>(try cases ah; done); rw[map_some] at ah; obtain⟨_,_,rfl⟩:=ah; cases hm
          case mapUpdate=>split at ah<;>cases ah; cases hm
          case insert=>split at ah<;>cases ah; cases hm
          case panic=>(cases ah; cases hm)
          case makeMap=>split at ah<;>cases ah; cases hm
          case range=>split at ah<;>cases ah; cases hm
          case typeAssert=>rw[map_some] at ah; obtain⟨_,_,rfl⟩:=ah; cases hm
          all_goals (cases ah)
         rw[this] at EC; cases EC
        | new m cs af hm _=>
         exfalso;have ah:=ko.go m af;have:jK F5.op=false:=by
          revert ah hm;cases F5.op<;>simp only[mu]<;>intro hm ah<;>first | rfl | (exfalso; revert ah hm; done) | skip
          case store=>rw[map_some] at ah; obtain⟨_,_,rfl⟩:=ah; cases hm
          case panic=>(cases ah; cases hm)
          case call c=>
           split at ah
           ·rename_i b af;unfold jK;simp only[af];unfold uo at ah
            repeat' split at ah
            all_goals first
             | rfl
             | (cases ah; done)
             | (cases ah; cases hm; done)
             | (simp only[bind_some,map_some] at ah; obtain⟨_,_,rfl⟩:=ah; cases hm; done)
             | (simp only[bind_some,map_some] at ah; obtain⟨_,_,_,_,rfl⟩:=ah; cases hm; done)
             | (simp only[bind_some,hM] at ah; obtain⟨_,_,_,_,_,_,_,rfl⟩:=ah; cases hm; done)
             | (simp only[bind_some,hM] at ah; obtain⟨_,_,_,_,_,_,_,_,_,rfl⟩:=ah; cases hm; done)
           ·split at ah
            ·rw[hM] at ah; obtain⟨_,rfl⟩:=ah; cases hm
            ·cases ah
           ·cases ah
          case next it b=>(cases b<;>simp only[reduceCtorEq] at ah<;>cases ah<;>cases hm)
          case lookup=>split at ah<;>(try cases ah; done); rw[map_some] at ah; obtain⟨_,_,rfl⟩:=ah; cases hm
          case mapUpdate=>split at ah<;>cases ah; cases hm
          case insert=>split at ah<;>cases ah; cases hm
          case makeMap=>split at ah<;>cases ah; cases hm
          case range=>split at ah<;>cases ah; cases hm
          case typeAssert=>rw[map_some] at ah; obtain⟨_,_,rfl⟩:=ah; cases hm
          all_goals (cases ah)
         rw[this] at EC; cases EC
        | fU _ _=>rfl
      have:=eU rO es[rO].1 (by omega) (by simp[iC]) aan;rw[p9,ad.here |> fun _=>(aj.idx).symm,aQ];exact this
     refine⟨?_,y,by rw[aq3]; exact bL,fl⟩;have:x.cr=true:=by
      rw[abW];simp only[List.contains_iff_mem,atn];exact⟨(y.i,y.g1),aqI dn,fl⟩
     rw[this];exact as9
    have Er:r4 P cW.op=true->(∀ l Aj,kQ P G x.b e.2.1 v e.2.2 l1 l->kQ P G x.b e.2.1 v e.2.2 l1 (l++Aj))->kQ P G x.b e.2.1 v e.2.2 l1 l1->kQ P G x.b e.2.1 v e.2.2 l1 (sU es l' q) :=by
     intro aP o8 aE;have:=aC.still x.i _ o8 aE (q - (p+1)) (by simp only[arA]; omega) (ask aP)
     rwa [abk,show p+1+(q - (p+1))=q by omega] at this
    rw[<-aQ];revert aj Er ask aQ;generalize e.1=t1;intro aQ aj ask Er;cases aj with
    | fU=>trivial
    | pure m af hm ak al=>
     intro nu lT;rw[ad.here] at lT; cases lT;have ah:=ad.go m af;cases ay:m.reads with
     | false=>exact F2 ah (aeE hm ay al)
     | true=>
      have aP:r4 P cW.op=true:=by
       cases h:r4 P cW.op with
       | true=>rfl
       | false=>rw[(Pg ah h).1] at ay; cases ay
      have w3:m.ik=false:=by cases m<;>first | rfl | cases ay
      have b4:∀ bZ,kQ P G x.b e.2.1 v e.2.2 l1 bZ<->bF P (cH G e.2.1) bZ m=some (v,bZ) :=fun bZ=>by rw[af]; simp only[kQ,w3]
      have:=Er aP (fun bZ Aj h=>by rw[b4] at h ⊢; exact aeD hm h) (by rw[b4,ak]; exact al);rw[b4] at this;exact F2 ah this
    | new m cs af hm ak=>
     have ah:=ad.go m af;have aP:r4 P cW.op=true:=by
      cases h:r4 P cW.op with
      | true=>rfl
      | false=>rw[(Pg ah h).2] at hm; cases hm
     have b4:∀ bZ:am,kQ P G x.b e.2.1 v e.2.2 l1 bZ<->bZ[e.2.2.length]? = some (.cells cs.length cs) :=fun bZ=>by
      rw[af,ak]; simp only[kQ,hm]; rw[aqB (aqv _)]; simp
     have:=Er aP (fun bZ Aj h=>by rw[b4] at h ⊢; rw[aqt (fy h)]; exact h) (by rw[b4,ak,aqB (aqv _)]; simp);rw[b4] at this;show (bK (sU es l' q)).f (bK e.2.2).n=_;rw[mb,yc,this]
 have:=c6.YF (id:=id) fL br pz;rw[aqS,tr.at.2] at this;exact this
end

section
variable {P:Program} {G:Nat->U}
theorem Nd {ops:Array Oper} {f:Nat->Option dI}:∀ {is:List Nat} {s:List dI} {os:List Oper},(∀ i x,f i=some x->∃ o,oO P ops x o/\x.i=i)->is.mapM f=some s->is.map (fun i=>ops[i]?)=os.map some->ya P ops s os
 | [],s,os,aA,h,aq=>by
  simp at h; subst h;cases os with
  | nil=>exact .nil
  | cons=>simp at aq
 | i::is,s,os,aA,h,aq=>by
  rw[ar2] at h;simp only[Option.bind_eq_bind,bind_some,asb,Option.some.injEq] at h;obtain⟨x,h1,fM,ad,rfl⟩:=h;cases os with
  | nil=>simp at aq
  | cons o os=>
   simp only[aqP,List.cons.injEq] at aq;obtain⟨cW,ok,ax⟩:=aA i x h1;have:cW=o:=by have:=ok.here; rw[ax,aq.1] at this; exact (Option.some.inj this).symm
   subst this;exact .cons ok (Nd aA ad aq.2)
theorem Yj {N N' id:Nat} (eP:N<=N') {ops:Array Oper} {draw:Bool} {c:fr} (ah:H7 P N ops draw=some c) {ae:a2} {l:am} {K:gf} (h:run P G c ae l K) :
  ∃ e bP l',c6 P G (.code (.region id ops draw) N' ae (bK l) e bP (bK l'))/\l.length<=l'.length/\K e bP l':=by
 unfold H7 at ah;split at ah
 ·cases ah
 ·rename_i o7;have br:∀ (i:Nat) (o:Oper),ops[i]? = some o->oZ N' o.dst=true:=fun i o aq=>by
   rw[ari] at o7;have:=o7 o (by simpa using Array.mem_of_getElem? aq);unfold oZ at this ⊢;split at this
   ·rename_i d _; exact decide_eq_true (as7 (of_decide_eq_true this) eP)
   ·rfl
  split at ah
  ·rw[map_some] at ah;obtain⟨s,h1,rfl⟩:=ah;have eT:ya P ops s ops.toList:=by
    refine Nd (fun i x ag=>?_) h1 ?_
    ·obtain⟨o,ad,aj,_⟩:=GJ ag; exact⟨o,ad,aj⟩
    ·apply arp;intro p;rw[aqx,aqx];by_cases aB:p<ops.size
     ·rw[aq1 aB]; simp[aB]
     ·rw[aqJ (by simp; omega),aqJ (by simp; omega)]; rfl
   obtain⟨bP,l',ad,aj,aC⟩:=LO br eT h;exact⟨.normal,bP,l',.region ad,aj,aC⟩
  ·simp only at ah;split at ah
   ·cases ah
   ·rename_i By;simp only[aqw] at By;split at ah
    ·cases ah
    ·rename_i s al;have dN:∀ x∈s,∃ o,oO P ops x o:=fun x ag=>by
      obtain⟨p,aB⟩:=asc ag;obtain⟨a,_,ad⟩:=FW al p x aB;obtain⟨o,aj,_⟩:=GJ ad;exact⟨o,aj⟩
     have fin:i7 P G s ae l [] (K .normal)->∃ e bP l',c6 P G (.code (.region id ops true) N' ae (bK l) e bP (bK l'))/\l.length<=l'.length/\K e bP l':=fun h=>by
      obtain⟨es,bP,l',h1,ad⟩:=LK dN h;exact⟨.normal,bP,l',YI br By.1 By.2 al h1,h1.len,ad⟩
     split at ah
     ·rename_i yU;cases ah;refine fin (LM (fun x ag=>?_) h)
      obtain⟨p,aB⟩:=asc ag;obtain⟨a,_,ad⟩:=FW al p x aB;obtain⟨o,_,_,_,aj⟩:=GJ ad;rw[aj,yU]; rfl
     ·cases ah;exact fin h
theorem ahd {N N' : Nat} (eP:N<=N') :∀ (code:Code) (c:fr),comp P N code=some c->∀ (ae:a2) (l:am) (K:gf),run P G c ae l K->
  ∃ e bP l',c6 P G (.code code N' ae (bK l) e bP (bK l'))/\l.length<=l'.length/\K e bP l':=by
 intro code
 induction code with
 | skip=>intro c ah ae l K h; cases ah; exact⟨_,_,_,.skip _ _ _,aqv _,h⟩
 | label n=>intro c ah ae l K h; cases ah; exact⟨_,_,_,.label _ _ _ _,aqv _,h⟩
 | ret=>intro c ah ae l K h; cases ah; exact⟨_,_,_,.ret _ _ _,aqv _,h⟩
 | exit id=>intro c ah ae l K h; cases ah; exact⟨_,_,_,.exit _ _ _ _,aqv _,h⟩
 | region id ops draw=>intro c ah ae l K h; exact Yj eP ah h
 | seq a b Kj Kk=>
  intro c ah ae l K h;have mk:∀ (yr iU:fr),comp P N a=some yr->comp P N b=some iU->run P G yr ae l (mQ (fun ae l=>run P G iU ae l K) K)->∃ e bP l',c6 P G (.code (.seq a b) N' ae (bK l) e bP (bK l'))/\l.length<=l'.length/\K e bP l':=by
   intro yr iU az af h;obtain⟨e,iu,l1,h1,ad,aj⟩:=Kj yr az ae l _ h;cases e with
   | normal=>
    obtain⟨e,MP,bZ,aC,aZ,bx⟩:=Kk iU af iu l1 K aj;exact⟨e,MP,bZ,.U0 h1 aC,ar8 ad aZ,bx⟩
   | exit id=>exact⟨_,iu,l1,.L1 h1 (by intro h; cases h),ad,aj⟩
   | ret=>exact⟨_,iu,l1,.L1 h1 (by intro h; cases h),ad,aj⟩
  simp only[comp] at ah;split at ah
  ·rename_i bf az af;cases ah;exact mk _ _ az af h
  ·rename_i eD _ az af;cases ah;refine mk _ _ az af ?_;have:mQ (fun ae l=>run P G .skip ae l K) K=K:=by
    funext e ae l;cases e<;>rfl
   rw[this]; exact h
  ·rename_i eD bf _ _ az af;cases ah;exact mk _ _ az af h
  ·cases ah
 | cond c x y Kn Ko=>
  intro DU ah ae l K h;simp only[comp] at ah;split at ah
  ·rename_i MJ Dp ag aG;cases ah;simp only[run,xj] at h;split at h
   ·rename_i b af;rw[Cu] at h;rcases h with ⟨rfl,h⟩ | ⟨rfl,h⟩
    ·obtain⟨e,iu,l1,h1,ad,aj⟩:=Kn MJ ag ae l K h;exact⟨e,iu,l1,.cond af h1,ad,aj⟩
    ·obtain⟨e,iu,l1,h1,ad,aj⟩:=Ko Dp aG ae l K h;exact⟨e,iu,l1,.cond af h1,ad,aj⟩
   ·cases h
  ·cases ah
 | block id c aJ=>
  intro DU ah ae l K h;simp only[comp,map_some] at ah;obtain⟨c',h1,rfl⟩:=ah;obtain⟨e,iu,l1,ad,aj,aC⟩:=aJ c' h1 ae l _ h;cases e with
  | normal=>exact⟨_,iu,l1,.DL ad (by intro h; cases h),aj,aC⟩
  | ret=>exact⟨_,iu,l1,.DL ad (by intro h; cases h),aj,aC⟩
  | exit rC=>
   simp only[qs] at aC;split at aC
   ·rename_i af;obtain rfl:=jM af;exact⟨_,iu,l1,.NJ ad,aj,aC⟩
   ·rename_i af;exact⟨_,iu,l1,.DL ad (by intro h; cases h; rw[atl] at af; cases af),aj,aC⟩
 | loop c aJ=>
  intro DU ah ae l K h;simp only[comp,map_some] at ah;obtain⟨c',h1,rfl⟩:=ah;obtain⟨n,h⟩:=h
  induction n generalizing ae l with
  | zero=>cases h
  | succ n Km=>
   obtain⟨e,iu,l1,ad,aj,aC⟩:=aJ c' h1 ae l _ h;cases e with
   | normal=>
    obtain⟨e,MP,bZ,aZ,bx,de⟩:=Km iu l1 aC;exact⟨e,MP,bZ,.zE ad aZ,ar8 aj bx,de⟩
   | exit id=>exact⟨_,iu,l1,.KN ad (by intro h; cases h),aj,aC⟩
   | ret=>exact⟨_,iu,l1,.KN ad (by intro h; cases h),aj,aC⟩
 | scope c aJ=>
  intro DU ah ae l K h;obtain⟨e,iu,l1,ad,aj,aC⟩:=aJ DU ah ae l K h;exact⟨e,iu,l1,.scope ad,aj,aC⟩
 | _=>intro c ah; cases ah
def H6 (P:Program) :ResultVar->Option cY
 | .tmp t=>some (.fF (.tmp t))
 | .cell a t=>mu P (.load t (.tmp a))
def wh (P:Program) (f:FuncId) :Option (List cY) :=match P.funcs[f]? with
 | some fn=>fn.results.toList.mapM (H6 P)
 | none=>none
def nq (P:Program) (G:Nat->U) (K:U->am->Prop) (ae:a2) (l:am) :List cY->List U->Prop
 | [],acc=>K (vL acc) l
 | m::r,acc=>W (bF P (cH G ae) l m) (c:=⟨fun x=>nq P G K ae l r (acc++[x.1])⟩)
def Ct (P:Program) (G:Nat->U) (ms:List cY) (K:U->am->Prop) :gf:=fun e ae l=>match e with
 | .exit _=>False
 | .normal=>nq P G K ae l ms []
 | .ret=>nq P G K ae l ms []
def yl (args:List U) :a2:=fun t=>args.getD t gX
theorem SY {K:U->am->Prop} {ae:a2} {l:am}:∀ {mV:List ResultVar} {ms:List cY} {acc:List U},mV.mapM (H6 P)=some ms->nq P G K ae l ms acc->∃ vs,vz P (bK l) ae mV=some vs/\K (vL (acc++vs)) l
 | [],ms,acc,hm,h=>by simp at hm; subst hm; exact⟨[],rfl,by simpa [nq] using h⟩
 | r::mV,ms,acc,hm,h=>by
  rw[ar2] at hm;simp only[Option.bind_eq_bind,bind_some,asb,Option.some.injEq] at hm;obtain⟨m,h1,apb,ad,rfl⟩:=hm;simp only[nq,yi] at h;obtain⟨⟨v,l1⟩,aj,aC⟩:=h;obtain⟨vs,aZ,bx⟩:=SY ad aC;refine⟨v::vs,?_,by simpa using bx⟩;have:zZ P (bK l) ae r=some v:=by
   cases r with
   | tmp t=>cases h1; simp only[bF,Option.some.injEq,Prod.mk.injEq] at aj; rw[<-aj.1]; rfl
   | cell a t=>
    have dK:mu P (.load t (.tmp a))=some m:=h1;have:=F2 dK aj;simp only[cJ] at this;unfold zZ;show rF P (bK l) t (cH G ae (.tmp a))=some v;cases ak:rF P (bK l) t (cH G ae (.tmp a)) with
    | none=>rw[ak] at this; cases this
    | some x=>rw[ak] at this; simp only[aqy,Option.some.injEq,oN.val.injEq] at this; rw[this.1]
  simp only[vz,this,aZ]
theorem DT {f:FuncId} {c:fr} {ms:List cY} (ah:wg P f=some c) (ay:wh P f=some ms) {args:List U} {l:am} {K:se}
  (h:run P G c (yl args) l (Ct P G ms K.k)) :c2 P G f args l (c:=K) :=by
 unfold wg at ah;unfold wh at ay;split at ah
 ·rename_i fn jE;split at ah
  ·rename_i body af;rw[jE] at ay;obtain⟨e,bP,l',h1,ad,aj⟩:=ahd (N':=args.length+(fn.ntmps - args.length)) (by omega) body c ah _ _ _ h;have fin:(e=.normal\/e=.ret)->nq P G K.k bP l' ms []->c2 P G f args l (c:=K) :=fun ap aj=>by
    obtain⟨vs,aC,aZ⟩:=SY ay aj;exact⟨vL vs,l',.inline jE af h1 ap (by simp only[Gv,aC]; rfl),ad,by simpa using aZ⟩
   cases e with
   | normal=>exact fin (.inl rfl) aj
   | ret=>exact fin (.inr rfl) aj
   | exit id=>cases aj
  ·cases ah
 ·cases ah
theorem Vd {b:pG} {ae:a2} {l:am} {K gd:U->am->Prop} (aS:∀ v l,K v l->gd v l) (h:hn P G b ae l K) :hn P G b ae l gd:=by
 cases b with
 | go m=>simp only[hn,yi] at h ⊢; obtain⟨v,h1,ad⟩:=h; exact⟨v,h1,S1 aS ad⟩
 | lL f args=>obtain⟨r,l',h1,ad,aj⟩:=h; exact⟨r,l',h1,ad,aS _ _ aj⟩
 | mm x args=>
  simp only[hn,ui] at h ⊢;split at h
  ·obtain⟨aE,r,l',h1,ad,aj⟩:=h; exact⟨aE,r,l',h1,ad,aS _ _ aj⟩
  ·cases h
 | m3 x name args=>
  simp only[hn,uh] at h ⊢;split at h
  ·split at h
   ·obtain⟨aE,r,l',h1,ad,aj⟩:=h; exact⟨aE,r,l',h1,ad,aS _ _ aj⟩
   ·cases h
  ·cases h
theorem SV {ae:a2} {g:Option (Option Tmp × Bool)} {p q bT e5:Prop} (aB:p->bT) (bm:q->e5) (h:pm ae g p q) :pm ae g bT e5:=by
 unfold pm at h ⊢;split at h
 ·exact aB h
 ·simp only[qt] at h ⊢;split at h
  ·rw[Cu] at h ⊢;rcases h with ⟨a,b⟩ | ⟨a,b⟩
   ·exact .inl ⟨a,aB b⟩
   ·exact .inr ⟨a,bm b⟩
  ·cases h
  ·exact bm h
 ·exact bm h
theorem LN {K gd:a2->am->Prop} (aS:∀ ae l,K ae l->gd ae l) :∀ {s:List dI} {ae:a2} {l:am},iQ P G s ae l K->iQ P G s ae l gd
 | [],_,_,h=>aS _ _ h
 | s::r,_,_,h=>SV (Vd fun _ _ h=>LN aS h) (fun h=>LN aS h) h
theorem LJ {K gd:a2->am->Prop} (aS:∀ ae l,K ae l->gd ae l) :∀ {s:List dI} {ae:a2} {l:am} {seen:hT},i7 P G s ae l seen K->i7 P G s ae l seen gd
 | [],_,_,_,h=>aS _ _ h
 | s::r,_,_,_,h=>SV (Vd fun _ _ h=>⟨h.1,LJ aS h.2⟩) (fun h=>LJ aS h) h
theorem Cv {k k' : a2->am->Prop} {K gd:gf} (hk:∀ ae l,k ae l->k' ae l) (aS:∀ e ae l,K e ae l->gd e ae l) :∀ e ae l,mQ k K e ae l->mQ k' gd e ae l:=by
 intro e ae l h; cases e<;>first | exact hk _ _ h | exact aS _ _ _ h
theorem C3:∀ {c:fr} {ae:a2} {l:am} {K gd:gf},(∀ e ae l,K e ae l->gd e ae l)->run P G c ae l K->run P G c ae l gd:=by
 intro c
 induction c with
 | skip=>intro ae l K gd aS h; exact aS _ _ _ h
 | ret=>intro ae l K gd aS h; exact aS _ _ _ h
 | exit id=>intro ae l K gd aS h; exact aS _ _ _ h
 | vy s=>intro ae l K gd aS h; exact LN (aS _) h
 | wk s=>intro ae l K gd aS h; exact LJ (aS _) h
 | seq a b Kj Kk=>intro ae l K gd aS h; exact Kj (Cv (fun ae l h=>Kk aS h) aS) h
 | cond c x y Kn Ko=>
  intro ae l K gd aS h;simp only[run,xj] at h ⊢;split at h
  ·rw[Cu] at h ⊢;rcases h with ⟨a,b⟩ | ⟨a,b⟩
   ·exact .inl ⟨a,Kn aS b⟩
   ·exact .inr ⟨a,Ko aS b⟩
  ·cases h
 | block id c aJ=>
  intro ae l K gd aS h;refine aJ (fun e ae l h=>?_) h;cases e with
  | normal=>exact aS _ _ _ h
  | ret=>exact aS _ _ _ h
  | exit rC=>
   simp only[qs] at h ⊢;split at h
   ·exact aS _ _ _ h
   ·exact aS _ _ _ h
 | loop c aJ=>
  intro ae l K gd aS h;obtain⟨n,h⟩:=h;refine⟨n,?_⟩
  induction n generalizing ae l with
  | zero=>cases h
  | succ n Km=>exact aJ (Cv (fun ae l h=>Km h) aS) h
theorem c2.mono {f:FuncId} {args:List U} {l:am} {K gd:se} (aS:∀ v l,K.k v l->gd.k v l) (h:c2 P G f args l (c:=K)) :c2 P G f args l (c:=gd) :=by
 obtain⟨r,l',h1,ad,aj⟩:=h; exact⟨r,l',h1,ad,aS _ _ aj⟩
theorem zF {c:fr} {K:Hb} (I:Nat->a2->am->Prop) (step:∀ n ae l,I n ae l->run P G c ae l (mQ (fun ae l=>∃ gH,gH<n/\I gH ae l) K.k)) :∀ n ae l,I n ae l->Dt (run P G c) ae l (c:=K) :=by
 intro n
 induction n using Nat.strongRecOn with
 | _ n aJ=>
  intro ae l h
  -- fuel n+1 is enough
  have Bh:∀ (m n:Nat),n<=m->∀ ae l,I n ae l->zE (run P G c) (m+1) ae l K.k:=by
   intro m
   induction m with
   | zero=>
    intro n aD ae l h;obtain rfl:n=0:=by omega
    exact C3 (Cv (fun ae l ⟨gH,h1,_⟩=>by omega) (fun _ _ _ h=>h)) (step 0 ae l h)
   | succ m Kl=>
    intro n aD ae l h;exact C3 (Cv (fun ae l ⟨gH,h1,ad⟩=>Kl gH (by omega) ae l ad) (fun _ _ _ h=>h)) (step n ae l h)
  exact⟨n+1,Bh n n (aqv _) ae l h⟩
theorem cE {c:fr} {K:Hb} (n:Nat) (I:Nat->a2->am->Prop) (step:∀ k ae l,k<=n->I k ae l->run P G c ae l (mQ (fun ae l=>k<n/\I (k+1) ae l) K.k)) {ae:a2} {l:am} (h:I 0 ae l) :Dt (run P G c) ae l (c:=K) :=by
 refine zF (fun m ae l=>∃ k,k+m=n/\I k ae l) (fun m ae l ⟨k,hk,h⟩=>?_) n ae l ⟨0,by omega,h⟩;exact C3 (Cv (fun ae l ⟨h1,ad⟩=>⟨m - 1,by omega,k+1,by omega,ad⟩) (fun _ _ _ h=>h)) (step k ae l (by omega) h)
end

section
variable {P:Program} {G:Nat->U}
@[simp ↓] theorem apR (ae:a2) (l:am) (K:gf) :run P G .skip ae l K=K .normal ae l:=id rfl
@[simp ↓] theorem apQ (ae:a2) (l:am) (K:gf) :run P G .ret ae l K=K .ret ae l:=id rfl
@[simp ↓] theorem apN (i:Nat) (ae:a2) (l:am) (K:gf) :run P G (.exit i) ae l K=K (.exit i) ae l:=id rfl
@[simp ↓] theorem apP (s:List dI) (ae:a2) (l:am) (K:gf) :run P G (.vy s) ae l K=iQ P G s ae l (K .normal) :=id rfl
@[simp ↓] theorem apM (s:List dI) (ae:a2) (l:am) (K:gf) :run P G (.wk s) ae l K=i7 P G s ae l [] (K .normal) :=id rfl
@[simp ↓] theorem Gy (a b:fr) (ae:a2) (l:am) (K:gf) :run P G (.seq a b) ae l K=run P G a ae l (mQ (fun ae l=>run P G b ae l K) K) :=id rfl
@[simp ↓] theorem apL (c:Operand) (x y:fr) (ae:a2) (l:am) (K:gf) :run P G (.cond c x y) ae l K=xj (cH G ae c) (c:=⟨run P G x ae l K,run P G y ae l K⟩) :=id rfl
@[simp ↓] theorem apK (i:Nat) (c:fr) (ae:a2) (l:am) (K:gf) :run P G (.block i c) ae l K=run P G c ae l (qs i K) :=id rfl
@[simp ↓] theorem apO (c:fr) (ae:a2) (l:am) (K:gf) :run P G (.loop c) ae l K=Dt (run P G c) ae l (c:=⟨K⟩) :=id rfl
@[simp ↓] theorem anx (k:a2->am->Prop) (K:gf) (ae:a2) (l:am) :mQ k K .normal ae l=k ae l:=id rfl
@[simp ↓] theorem anw (k:a2->am->Prop) (K:gf) (i:Nat) (ae:a2) (l:am) :mQ k K (.exit i) ae l=K (.exit i) ae l:=id rfl
@[simp ↓] theorem anz (k:a2->am->Prop) (K:gf) (ae:a2) (l:am) :mQ k K .ret ae l=K .ret ae l:=id rfl
@[simp ↓] theorem ang (i:Nat) (K:gf) (ae:a2) (l:am) :qs i K .normal ae l=K .normal ae l:=id rfl
@[simp ↓] theorem anh (i:Nat) (K:gf) (ae:a2) (l:am) :qs i K .ret ae l=K .ret ae l:=id rfl
def vd (p:Prop) [Decidable p] [c:Ar] :Prop:=if p then c.p else c.q
@[simp ↓] theorem anf (i j:Nat) (K:gf) (ae:a2) (l:am) :qs i K (.exit j) ae l=vd (j=i) (c:=⟨K .normal ae l,K (.exit j) ae l⟩) :=by
 unfold qs vd;by_cases h:j=i
 ·simp only[rJ h,if_pos h]
 ·simp only[i6 h,if_neg h]
@[simp ↓] theorem anm (i:Nat) (x y:Prop) :vd (i=i) (c:=⟨x,y⟩)=x:=by simp[vd]
@[simp] theorem ann (x y:Prop) :vd True (c:=⟨x,y⟩)=x:=by simp[vd]
@[simp] theorem anl (x y:Prop) :vd False (c:=⟨x,y⟩)=y:=by simp[vd]
@[simp ↓] theorem anj (ms:List cY) (K:U->am->Prop) (ae:a2) (l:am) :Ct P G ms K .normal ae l=nq P G K ae l ms [] :=id rfl
@[simp ↓] theorem ank (ms:List cY) (K:U->am->Prop) (ae:a2) (l:am) :Ct P G ms K .ret ae l=nq P G K ae l ms [] :=id rfl
@[simp ↓] theorem anv (K:U->am->Prop) (ae:a2) (l:am) (acc:List U) :nq P G K ae l [] acc=K (vL acc) l:=id rfl
@[simp ↓] theorem anu (K:U->am->Prop) (ae:a2) (l:am) (m:cY) (r:List cY) (acc:List U) :nq P G K ae l (m::r) acc=W (bF P (cH G ae) l m) (c:=⟨fun x=>nq P G K ae l r (acc++[x.1])⟩) :=id rfl
@[simp] theorem ap7 (v:U) :vL [v]=v:=id rfl
@[simp] theorem ap8 (v w:U) (r:List U) :vL (v::w::r)=.bu (v::w::r) :=id rfl
@[simp ↓] theorem apJ (ae:a2) (l:am) (K:a2->am->Prop) :iQ P G [] ae l K=K ae l:=id rfl
@[simp ↓] theorem apI (i:Nat) (dst:Option Tmp) (m:cY) (c:List Nat) (k:Bool) (r:List dI) (ae:a2) (l:am) (K:a2->am->Prop) :
  iQ P G (⟨i,dst,none,.go m,c,k⟩::r) ae l K=W (bF P (cH G ae) l m) (c:=⟨fun x=>dP m x.1 x.2 fun v l'=>iQ P G r (gV ae dst v) l' K⟩) :=id rfl
@[simp ↓] theorem apE (i:Nat) (dst:Option Tmp) (f:FuncId) (args:List Operand) (c:List Nat) (k:Bool) (r:List dI) (ae:a2) (l:am) (K:a2->am->Prop) :
  iQ P G (⟨i,dst,none,.lL f args,c,k⟩::r) ae l K=c2 P G f (args.map (cH G ae)) l (c:=⟨fun v l'=>iQ P G r (gV ae dst v) l' K⟩) :=id rfl
@[simp ↓] theorem apG (i:Nat) (dst:Option Tmp) (x:Operand) (args:List Operand) (c:List Nat) (k:Bool) (r:List dI) (ae:a2) (l:am) (K:a2->am->Prop) :
  iQ P G (⟨i,dst,none,.mm x args,c,k⟩::r) ae l K=ui P G (cH G ae x) (args.map (cH G ae)) l (c:=⟨fun v l'=>iQ P G r (gV ae dst v) l' K⟩) :=id rfl
@[simp ↓] theorem apF (i:Nat) (dst:Option Tmp) (x:Operand) (name:String) (args:List Operand) (c:List Nat) (k:Bool) (r:List dI) (ae:a2) (l:am) (K:a2->am->Prop) :
  iQ P G (⟨i,dst,none,.m3 x name args,c,k⟩::r) ae l K=uh P G name (cH G ae x) (args.map (cH G ae)) l (c:=⟨fun v l'=>iQ P G r (gV ae dst v) l' K⟩) :=id rfl
@[simp ↓] theorem akY (name:String) (t:TypeId) (v:U) (args:List U) (l:am) (c:se) :
  uh P G name (.fD t v) args l (c:=c)=(match qA P t name with | some g=>ht P g=true/\c2 P G g (v::args) l (c:=c) | none=>False) :=id rfl
@[simp ↓] theorem apH (i:Nat) (dst:Option Tmp) (d:Tmp) (w:Bool) (b:pG) (c:List Nat) (k:Bool) (r:List dI) (ae:a2) (l:am) (K:a2->am->Prop) :
  iQ P G (⟨i,dst,some (some d,w),b,c,k⟩::r) ae l K=qt (ae d) w (c:=⟨iQ P G (⟨i,dst,none,b,c,k⟩::r) ae l K,iQ P G r (gV ae dst gX) l K⟩) :=id rfl
@[simp ↓] theorem apD (ae:a2) (l:am) (seen:hT) (K:a2->am->Prop) :i7 P G [] ae l seen K=K ae l:=id rfl
@[simp ↓] theorem apC (i:Nat) (dst:Option Tmp) (m:cY) (c:List Nat) (k:Bool) (r:List dI) (ae:a2) (l:am) (seen:hT) (K:a2->am->Prop) :
  i7 P G (⟨i,dst,none,.go m,c,k⟩::r) ae l seen K=W (bF P (cH G ae) l m) (c:=⟨fun x=>dP m x.1 x.2 fun v l'=>oU c seen l'/\i7 P G r (gV ae dst v) l' (qK k i (kQ P G (.go m) ae v l l') seen) K⟩) :=id rfl
@[simp ↓] theorem apz (i:Nat) (dst:Option Tmp) (f:FuncId) (args:List Operand) (c:List Nat) (k:Bool) (r:List dI) (ae:a2) (l:am) (seen:hT) (K:a2->am->Prop) :
  i7 P G (⟨i,dst,none,.lL f args,c,k⟩::r) ae l seen K=c2 P G f (args.map (cH G ae)) l (c:=⟨fun v l'=>oU c seen l'/\i7 P G r (gV ae dst v) l' (qK k i (fun _=>True) seen) K⟩) :=id rfl
@[simp ↓] theorem apA (i:Nat) (dst:Option Tmp) (x:Operand) (args:List Operand) (c:List Nat) (k:Bool) (r:List dI) (ae:a2) (l:am) (seen:hT) (K:a2->am->Prop) :
  i7 P G (⟨i,dst,none,.mm x args,c,k⟩::r) ae l seen K=ui P G (cH G ae x) (args.map (cH G ae)) l (c:=⟨fun v l'=>oU c seen l'/\i7 P G r (gV ae dst v) l' (qK k i (fun _=>True) seen) K⟩) :=id rfl
@[simp ↓] theorem apB (i:Nat) (dst:Option Tmp) (d:Tmp) (w:Bool) (b:pG) (c:List Nat) (k:Bool) (r:List dI) (ae:a2) (l:am) (seen:hT) (K:a2->am->Prop) :
  i7 P G (⟨i,dst,some (some d,w),b,c,k⟩::r) ae l seen K=qt (ae d) w (c:=⟨i7 P G (⟨i,dst,none,b,c,k⟩::r) ae l seen K,i7 P G r (gV ae dst gX) l seen K⟩) :=id rfl
@[simp] theorem alg (ids:List Nat) (l:am) :oU ids [] l=True:=id rfl
@[simp] theorem alf (ids:List Nat) (e:Nat × (am->Prop)) (r:hT) (l:am) :oU ids (e::r) l=((ids.contains e.1=true->e.2 l)/\oU ids r l) :=id rfl
@[simp] theorem apU (i:Nat) (p:am->Prop) (s:hT) :qK true i p s=(i,p) ::s:=id rfl
@[simp] theorem apT (i:Nat) (p:am->Prop) (s:hT) :qK false i p s=s:=id rfl
@[simp] theorem ap0 (m:cY) (ae:a2) (v:U) (l l' l1:am) :kQ P G (.go m) ae v l l' l1=(match m.ik with | true=>l1[l.length]? = l'[l.length]? | false=>bF P (cH G ae) l1 m=some (v,l1)) :=id rfl
@[simp ↓] theorem an9 (x:Operand) (v:U) (l:am) (K:U->am->Prop) :dP (.fF x) v l K=K v l:=id rfl
@[simp ↓] theorem aoc (c a b:Operand) (v:U) (l:am) (K:U->am->Prop) :dP (.pick c a b) v l K=K v l:=id rfl
@[simp ↓] theorem anA (z:List U) (v:U) (l:am) (K:U->am->Prop) :dP (.alloc z) v l K=K v l:=id rfl
@[simp ↓] theorem anF (x:Operand) (v:U) (l:am) (K:U->am->Prop) :dP (.box x) v l K=K v l:=id rfl
@[simp ↓] theorem anE (z:List U) (ck:List (Nat × Nat × Operand)) (v:U) (l:am) (K:U->am->Prop) :dP (.AB z ck) v l K=K v l:=id rfl
@[simp ↓] theorem anG (z:Nat) (zero:List U) (n:Nat) (ck:List (Nat × Operand)) (v:U) (l:am) (K:U->am->Prop) :dP (.pQ z zero n ck) v l K=K v l:=id rfl
@[simp ↓] theorem anX (a:Operand) (v:U) (l:am) (K:U->am->Prop) :dP (.ld1 a) v l K=K v l:=id rfl
@[simp ↓] theorem anY (n:Nat) (a:Operand) (v:U) (l:am) (K:U->am->Prop) :dP (.ti n a) v l K=K v l:=id rfl
@[simp ↓] theorem aof (n:Nat) (a x:Operand) (v:U) (l:am) (K:U->am->Prop) :dP (.st n a x) v l K=K v l:=id rfl
@[simp ↓] theorem aoa (x:Operand) (v:U) (l:am) (K:U->am->Prop) :dP (.CD x) v l K=K v l:=id rfl
@[simp ↓] theorem anD (o:BinOp) (t:TypeId) (x y:Operand) (v:U) (l:am) (K:U->am->Prop) :dP (.bin o t x y) v l K=K v l:=id rfl
@[simp ↓] theorem aoh (o:UnOp) (x:Operand) (v:U) (l:am) (K:U->am->Prop) :dP (.un o x) v l K=K v l:=id rfl
@[simp ↓] theorem anJ (k:IntKind) (x:Operand) (v:U) (l:am) (K:U->am->Prop) :dP (.yu k x) v l K=K v l:=id rfl
@[simp ↓] theorem anO (x:Operand) (v:U) (l:am) (K:U->am->Prop) :dP (.yC x) v l K=K v l:=id rfl
@[simp ↓] theorem anI (x:Operand) (v:U) (l:am) (K:U->am->Prop) :dP (.sw x) v l K=K v l:=id rfl
@[simp ↓] theorem anN (x:Operand) (v:U) (l:am) (K:U->am->Prop) :dP (.yB x) v l K=K v l:=id rfl
@[simp ↓] theorem an5 (t:TypeId) (x:Operand) (v:U) (l:am) (K:U->am->Prop) :dP (.xu t x) v l K=K v l:=id rfl
@[simp ↓] theorem aog (t:TypeId) (z:U) (ok:Bool) (x:Operand) (v:U) (l:am) (K:U->am->Prop) :dP (.z8 t z ok x) v l K=K v l:=id rfl
@[simp ↓] theorem an4 (f:FuncId) (a b:List Operand) (v:U) (l:am) (K:U->am->Prop) :dP (.xt f a b) v l K=K v l:=id rfl
@[simp ↓] theorem an7 (z b:Nat) (zero:List U) (x y:Operand) (v:U) (l:am) (K:U->am->Prop) :dP (.qB z b zero x y) v l K=K v l:=id rfl
@[simp ↓] theorem aoe (cV:jf) (x:Operand) (cB ax ct:Option Operand) (v:U) (l:am) (K:U->am->Prop) :dP (.slice cV x cB ax ct) v l K=K v l:=id rfl
@[simp ↓] theorem anQ (n:Nat) (x:Operand) (v:U) (l:am) (K:U->am->Prop) :dP (.A9 n x) v l K=K v l:=id rfl
@[simp ↓] theorem anR (n:Nat) (x:Operand) (v:U) (l:am) (K:U->am->Prop) :dP (.Ba n x) v l K=K v l:=id rfl
@[simp ↓] theorem anS (n m:Nat) (x:Operand) (v:U) (l:am) (K:U->am->Prop) :dP (.Bb n m x) v l K=K v l:=id rfl
@[simp ↓] theorem anT (cV:jf) (x y:Operand) (v:U) (l:am) (K:U->am->Prop) :dP (.zw cV x y) v l K=K v l:=id rfl
@[simp ↓] theorem anU (n z:Nat) (x y:Operand) (v:U) (l:am) (K:U->am->Prop) :dP (.Cm n z x y) v l K=K v l:=id rfl
@[simp ↓] theorem anV (n z:Nat) (x y:Operand) (v:U) (l:am) (K:U->am->Prop) :dP (.Cn n z x y) v l K=K v l:=id rfl
@[simp ↓] theorem anW (x y:Operand) (v:U) (l:am) (K:U->am->Prop) :dP (.Cr x y) v l K=K v l:=id rfl
@[simp ↓] theorem anP (x:Operand) (n:Nat) (v:U) (l:am) (K:U->am->Prop) :dP (.ext x n) v l K=K v l:=id rfl
@[simp ↓] theorem anZ (cV:jf) (x:Operand) (v:U) (l:am) (K:U->am->Prop) :dP (.len cV x) v l K=K v l:=id rfl
@[simp ↓] theorem anH (cV:jf) (x:Operand) (v:U) (l:am) (K:U->am->Prop) :dP (.cap cV x) v l K=K v l:=id rfl
@[simp ↓] theorem anC (z b:Nat) (zero:List U) (x y:Operand) (v:U) (l:am) (K:U->am->Prop) :dP (.tY z b zero x y) v l K=K v l:=id rfl
@[simp ↓] theorem anM (z:Nat) (x y:Operand) (v:U) (l:am) (K:U->am->Prop) :dP (.us z x y) v l K=K v l:=id rfl
@[simp ↓] theorem anK (zero:List U) (x:Operand) (v:U) (l:am) (K:U->am->Prop) :dP (.ul zero x) v l K=K v l:=id rfl
@[simp ↓] theorem an3 (x y:Operand) (v:U) (l:am) (K:U->am->Prop) :dP (.min x y) v l K=K v l:=id rfl
@[simp ↓] theorem an2 (x y:Operand) (v:U) (l:am) (K:U->am->Prop) :dP (.max x y) v l K=K v l:=id rfl
@[simp ↓] theorem anB (z b:Nat) (x y:Operand) (v:U) (l:am) (K:U->am->Prop) :dP (.app z b x y) v l K=dq v l (c:=⟨K⟩) :=id rfl
theorem dq.cr {v:U} {l:am} {K:U->am->Prop} (h:K v l) :dq v l (c:=⟨K⟩) :=.inl h
@[simp] theorem am7 (a:Operand) :(cY.ld1 a).ik=false:=id rfl
@[simp] theorem am8 (n:Nat) (a:Operand) :(cY.ti n a).ik=false:=id rfl
@[simp] theorem am4 (k:IntKind) (a:Operand) :(cY.yu k a).ik=false:=id rfl
@[simp] theorem am6 (a:Operand) :(cY.yC a).ik=false:=id rfl
@[simp] theorem am3 (a:Operand) :(cY.sw a).ik=false:=id rfl
@[simp] theorem am5 (a:Operand) :(cY.yB a).ik=false:=id rfl
@[simp] theorem am0 (z:List U) :(cY.alloc z).ik=true:=id rfl
@[simp] theorem am1 (a:Operand) :(cY.box a).ik=true:=id rfl
@[simp] theorem am2 (z:Nat) (zero:List U) (n:Nat) (ck:List (Nat × Operand)) :(cY.pQ z zero n ck).ik=true:=id rfl
@[simp] theorem am9 (z b:Nat) (zero:List U) (x y:Operand) :(cY.qB z b zero x y).ik=true:=id rfl
@[simp] theorem apn (l l' : am) (x:Option U) (v:U) :(da l x=some (v,l'))=(x=some v/\l'=l) :=propext fS
@[simp ↓] theorem ake {α:Type} (x:α) (k:α->Prop) :W (some x) (c:=⟨k⟩)=k x:=id rfl
@[simp ↓] theorem akd (l:am) (o:Option U) (k:U × am->Prop) :W (da l o) (c:=⟨k⟩)=W o (c:=⟨fun v=>k (v,l)⟩) :=by unfold W da; cases o<;>rfl
@[simp ↓] theorem akc {α jc:Type} (o:Option α) (f:α->jc) (k:jc->Prop) :W (o.map f) (c:=⟨k⟩)=W o (c:=⟨fun v=>k (f v)⟩) :=by unfold W; cases o<;>rfl
@[simp ↓] theorem akb {α:Type} (p:Prop) [Decidable p] (x:α) (k:α->Prop) :W (if p then some x else none) (c:=⟨k⟩)=(p/\k x) :=by unfold W; by_cases h:p<;>simp[h]
@[simp ↓] theorem ani (b:Bool) (p q:Prop) :xj (.bool b) (c:=⟨p,q⟩)=qu b (c:=⟨p,q⟩) :=id rfl
@[simp ↓] theorem ant (p q:Prop) :qu true (c:=⟨p,q⟩)=p:=id rfl
@[simp ↓] theorem ans (p q:Prop) :qu false (c:=⟨p,q⟩)=q:=id rfl
@[simp ↓] theorem anp (b:Bool) (p q:Prop) :qt (.bool b) true (c:=⟨p,q⟩)=qu b (c:=⟨p,q⟩) :=by cases b<;>rfl
@[simp ↓] theorem ano (b:Bool) (p q:Prop) :qt (.bool b) false (c:=⟨p,q⟩)=qu b (c:=⟨q,p⟩) :=by cases b<;>rfl
@[simp ↓] theorem anq (w:Bool) (p q:Prop) :qt gX w (c:=⟨p,q⟩)=q:=id rfl
@[simp ↓] theorem anr (w:Bool) (p q:Prop) :qt (.bu []) w (c:=⟨p,q⟩)=q:=id rfl
theorem lY {b:Bool} {p q:Prop} (h1:b=true->p) (ad:b=false->q) :qu b (c:=⟨p,q⟩) :=by cases b; exact ad rfl; exact h1 rfl
@[simp ↓] theorem apq (ae:a2) (d:Tmp) (v:U) :gV ae (some d) v=bD ae d v:=id rfl
@[simp ↓] theorem apo (ae:a2) (v:U) :gV ae none v=ae:=id rfl
@[simp] theorem alT {α:Type} (s:Nat->α) (d:Nat) (v:α) (t:Nat) :bD s d v t=if t=d then v else s t:=id rfl
@[simp] theorem akj (args:List U) (t:Nat) :yl args t=args.getD t gX:=id rfl
@[simp] theorem alJ (ae:a2) (t:Tmp) :cH G ae (.tmp t)=ae t:=id rfl
@[simp] theorem alA (ae:a2) (f:FuncId) :cH G ae (.func f)=.fn f [] [] :=id rfl
@[simp] theorem alB (ae:a2) (g:Nat) :cH G ae (.global g)=G g:=id rfl
@[simp] theorem alC (ae:a2) (k:IntKind) (n:Int) :cH G ae (.const (.int k n))=.int k n:=id rfl
@[simp] theorem alz (ae:a2) (b:Bool) :cH G ae (.const (.bool b))=.bool b:=id rfl
@[simp] theorem alI (ae:a2) (s:ByteArray) :cH G ae (.const (.string s))=.str s.data.toList:=id rfl
@[simp] theorem alH (ae:a2) :cH G ae (.const (.slice none 0 0))=.aX:=id rfl
@[simp] theorem alG (ae:a2) :cH G ae (.const (.pointer none))=.iN:=id rfl
@[simp] theorem alF (ae:a2) :cH G ae (.const (.map none))=.hh:=id rfl
@[simp] theorem alD (ae:a2) :cH G ae (.const .nilFunc)=.iL:=id rfl
@[simp] theorem alE (ae:a2) :cH G ae (.const .nilIface)=.iM:=id rfl
@[simp] theorem alK (ae:a2) :cH G ae (.const (.tuple #[]))=.bu [] :=id rfl
variable (aw:Operand->U) (l:am)
@[simp ↓] theorem ao1 (x:Operand) :bF P aw l (.fF x)=some (aw x,l) :=id rfl
@[simp ↓] theorem ao4 (c a b:Operand) :bF P aw l (.pick c a b)=da l (CN (aw c) (aw a) (aw b)) :=id rfl
@[simp ↓] theorem aos (z:List U) :bF P aw l (.alloc z)=some (.ptr l.length 0 z.length,l++[.cells z.length z]) :=id rfl
@[simp ↓] theorem aox (x:Operand) :bF P aw l (.box x)=(aw x).cells.map fun cs=>(.ptr l.length 0 cs.length,l++[.cells cs.length cs]) :=id rfl
@[simp ↓] theorem aow (zero:List U) (ck:List (Nat × Nat × Operand)) :bF P aw l (.AB zero ck)=da l ((kW zero (ck.map fun p=>(p.1,p.2.1,aw p.2.2))).map .aI) :=id rfl
@[simp ↓] theorem aoy (z:Nat) (zero:List U) (len:Nat) (ck:List (Nat × Operand)) :bF P aw l (.pQ z zero len ck)=(g4 (fun i=>some (i*z,z)) (c4 zero len) (ck.map fun p=>(p.1,aw p.2))).map fun cs=>(.ar z l.length 0 len len (len*z),l++[.cells (len*z) cs]) :=id rfl
@[simp ↓] theorem aoP (a:Operand) :bF P aw l (.ld1 a)=da l ((dY l (aw a)).bind fun x=>x.1[x.2]?) :=id rfl
@[simp ↓] theorem aoQ (n:Nat) (a:Operand) :bF P aw l (.ti n a)=da l ((dY l (aw a)).bind fun x=>rP n x.1 x.2) :=id rfl
@[simp ↓] theorem ao7 (n:Nat) (a x:Operand) :bF P aw l (.st n a x)=(jT n l (aw a) (aw x)).map fun l'=>(gX,l') :=id rfl
@[simp ↓] theorem ao2 (x:Operand) :bF P aw l (.CD x)=da l (xw (aw x)) :=id rfl
@[simp ↓] theorem aov (o:BinOp) (t:TypeId) (x y:Operand) :bF P aw l (.bin o t x y)=da l (fG P o t (aw x) (aw y)) :=id rfl
@[simp ↓] theorem ao9 (o:UnOp) (x:Operand) :bF P aw l (.un o x)=da l (pB o (aw x)) :=id rfl
@[simp ↓] theorem aoB (k:IntKind) (x:Operand) :bF P aw l (.yu k x)=da l (AP k (aw x)) :=id rfl
@[simp ↓] theorem aoG (x:Operand) :bF P aw l (.yC x)=da l (D3 (aw x)) :=id rfl
@[simp ↓] theorem aoA (x:Operand) :bF P aw l (.sw x)=da l (q4 l (aw x)) :=id rfl
@[simp ↓] theorem aoF (x:Operand) :bF P aw l (.yB x)=da l (ut (aw x)) :=id rfl
@[simp ↓] theorem aoX (t:TypeId) (x:Operand) :bF P aw l (.xu t x)=some (.fD t (aw x),l) :=id rfl
@[simp ↓] theorem ao8 (t:TypeId) (z:U) (ok:Bool) (x:Operand) :bF P aw l (.z8 t z ok x)=da l (oB t z ok (aw x)) :=id rfl
@[simp ↓] theorem aoW (f:FuncId) (a b:List Operand) :bF P aw l (.xt f a b)=some (.fn f (a.map aw) (b.map aw),l) :=id rfl
@[simp ↓] theorem aoZ (z by_:Nat) (zero:List U) (a c:Operand) :bF P aw l (.qB z by_ zero a c)=qC z by_ zero l (aw a) (aw c) :=id rfl
@[simp ↓] theorem ao6 (cV:jf) (x:Operand) (cB ax ct:Option Operand) :bF P aw l (.slice cV x cB ax ct)=da l (gb cV (aw x) (cB.map aw) (ax.map aw) (ct.map aw)) :=id rfl
@[simp ↓] theorem aoI (off:Nat) (x:Operand) :bF P aw l (.A9 off x)=da l (mo (aw x) off) :=id rfl
@[simp ↓] theorem aoJ (off:Nat) (x:Operand) :bF P aw l (.Ba off x)=da l (Bc off (aw x)) :=id rfl
@[simp ↓] theorem aoK (n off:Nat) (x:Operand) :bF P aw l (.Bb n off x)=da l (yL n off (aw x)) :=id rfl
@[simp ↓] theorem aoL (cV:jf) (x i:Operand) :bF P aw l (.zw cV x i)=da l (cv cV (aw x) (aw i)) :=id rfl
@[simp ↓] theorem aoM (n z:Nat) (x i:Operand) :bF P aw l (.Cm n z x i)=da l (Co n z (aw x) (aw i)) :=id rfl
@[simp ↓] theorem aoN (n z:Nat) (x i:Operand) :bF P aw l (.Cn n z x i)=da l (Cp n z (aw x) (aw i)) :=id rfl
@[simp ↓] theorem aoO (x i:Operand) :bF P aw l (.Cr x i)=da l (xg (aw x) (aw i)) :=id rfl
@[simp ↓] theorem aoH (x:Operand) (i:Nat) :bF P aw l (.ext x i)=da l (A8 (aw x) i) :=id rfl
@[simp ↓] theorem aoR (cV:jf) (x:Operand) :bF P aw l (.len cV x)=da l (cL cV (aw x)) :=id rfl
@[simp ↓] theorem aoz (cV:jf) (x:Operand) :bF P aw l (.cap cV x)=da l (sv cV (aw x)) :=id rfl
@[simp ↓] theorem aot (z by_:Nat) (s x:Operand) :bF P aw l (.app z by_ s x)=iR l z by_ (aw s) (aw x) :=id rfl
@[simp ↓] theorem aou (z by_:Nat) (zero:List U) (s x:Operand) :bF P aw l (.tY z by_ zero s x)=pO l z by_ zero (aw s) (aw x) :=id rfl
@[simp ↓] theorem aoE (z:Nat) (d x:Operand) :bF P aw l (.us z d x)=yA z l (aw d) (aw x) :=id rfl
@[simp ↓] theorem aoC (zero:List U) (x:Operand) :bF P aw l (.ul zero x)=(q6 zero l (aw x)).map fun l'=>(.bu [],l') :=id rfl
@[simp ↓] theorem aoV (x y:Operand) :bF P aw l (.min x y)=da l (zH (aw x) (aw y)) :=id rfl
@[simp ↓] theorem aoU (x y:Operand) :bF P aw l (.max x y)=da l (tl (aw x) (aw y)) :=id rfl
@[simp] theorem apk (t:Bool) (a b:U) :CN (.bool t) a b=some (if t=true then a else b) :=id rfl
@[simp] theorem OU (cs:List U) :(U.aI cs).cells=some cs:=id rfl
@[simp] theorem AL (k:IntKind) (n:Int) :(U.int k n).cells=some [.int k n] :=id rfl
@[simp] theorem X0 (b:Bool) :(U.bool b).cells=some [.bool b] :=id rfl
@[simp] theorem X1 (s:List UInt8) :(U.str s).cells=some [.str s] :=id rfl
@[simp] theorem alb:U.aX.cells=some [.aX] :=id rfl
@[simp] theorem ala:U.iN.cells=some [.iN] :=id rfl
@[simp] theorem ak8:U.iL.cells=some [.iL] :=id rfl
@[simp] theorem ak9:U.hh.cells=some [.hh] :=id rfl
@[simp] theorem ald (z:Nat) (es:List (List U)) :(U.b0 z es).cells=some [.b0 z es] :=id rfl
@[simp] theorem ale (z b o n c s:Nat) :(U.ar z b o n c s).cells=some [.ar z b o n c s] :=id rfl
@[simp] theorem alc (b o s:Nat) :(U.ptr b o s).cells=some [.ptr b o s] :=id rfl
@[simp] theorem ak5 (f:FuncId) (a b:List U) :(U.fn f a b).cells=some [.fn f a b] :=id rfl
@[simp] theorem ak7 (b:Nat) :(U.mp b).cells=some [.mp b] :=id rfl
@[simp] theorem ak3 (b off sz k:Nat) :mo (.ptr b off sz) k=some (.ptr b (off+k) sz) :=id rfl
@[simp] theorem ak4 (cs:List U) (off k:Nat) :mo (.b5 cs off) k=some (.b5 cs (off+k)) :=id rfl
@[simp] theorem ape (b o s:Nat) :xw (.ptr b o s)=some (.ptr b o s) :=id rfl
@[simp] theorem apf (cs:List U) (o:Nat) :xw (.b5 cs o)=some (.b5 cs o) :=id rfl
@[simp] theorem apd (f:FuncId) (a b:List U) :xw (.fn f a b)=some (.fn f a b) :=id rfl
def CT (x:Option bg) (off sz:Nat) :Option (List U × Nat) :=match x with
 | some (.cells n cs)=>if n=sz then some (cs,off) else none
 | _=>none
@[simp] theorem apt (b off sz:Nat) :dY l (.ptr b off sz)=CT l[b]? off sz:=by
 unfold dY CT; rfl
@[simp] theorem aps (n:Nat) (cs:List U) (off sz:Nat) :CT (some (.cells n cs)) off sz=if n=sz then some (cs,off) else none:=id rfl
@[simp] theorem apu (cs:List U) (off:Nat) :dY l (.b5 cs off)=some (cs,off) :=id rfl
def Mb (n:Nat) (l:am) (b off sz:Nat) (vs:List U) (x:Option bg) :Option am:=match x with
 | some (.cells m cs)=>if m=sz/\vs.length=n/\off+n<=m then some (l.set b (.cells m (bn cs off vs))) else none
 | _=>none
@[simp] theorem ap2 (n b off sz:Nat) (v:U) :jT n l (.ptr b off sz) v=v.cells.bind fun vs=>Mb n l b off sz vs l[b]?:=by
 unfold jT Mb;cases v.cells<;>rfl
@[simp] theorem ap1 (n b off sz:Nat) (vs:List U) (m:Nat) (cs:List U) :Mb n l b off sz vs (some (.cells m cs))=if m=sz/\vs.length=n/\off+n<=m then some (l.set b (.cells m (bn cs off vs))) else none:=id rfl
@[simp] theorem apj (n:Nat) (cs:List U) (off:Nat) :rP n cs off=if off+n<=cs.length then some (.aI ((cs.drop off).take n)) else none:=id rfl
@[simp] theorem apZ (a:U) (cs vs:List U) (off:Nat) :bn (a::cs) (off+1) vs=a::bn cs off vs:=by
 simp only[bn,List.take_succ_cons,arw,show off+1+vs.length=(off+vs.length)+1 by omega,asA]
@[simp] theorem ahZ (a v:U) (cs vs:List U) :bn (a::cs) 0 (v::vs)=v::bn cs 0 vs:=by simp[bn]
@[simp] theorem ah1 (cs:List U) :bn cs 0 []=cs:=by simp[bn]
@[simp] theorem apY (vs:List U) :bn [] 0 vs=vs:=by simp[bn]
@[simp] theorem AC (zero:List U) :kW zero []=some zero:=id rfl
theorem pP (zero:List U) (off size:Nat) (v:U) (r:List (Nat × Nat × U)) :kW zero ((off,size,v) ::r)=v.cells.bind fun vs=>if vs.length=size/\off+size<=zero.length then kW (bn zero off vs) r else none:=by
 rw[kW]; cases v.cells<;>rfl
attribute [simp] pP
@[simp] theorem alN (ks:Nat->Option (Nat × Nat)) (zero:List U) :g4 ks zero []=some zero:=id rfl
@[simp] theorem alM (ks:Nat->Option (Nat × Nat)) (zero:List U) (i:Nat) (v:U) (r:List (Nat × U)) :g4 ks zero ((i,v) ::r)=(ks i).bind fun q=>v.cells.bind fun vs=>if vs.length=q.2/\q.1+q.2<=zero.length then g4 ks (bn zero q.1 vs) r else none:=by
 rw[g4];cases ks i with
 | none=>rfl
 | some q=>cases v.cells<;>rfl
@[simp] theorem apw (zero:List U) :c4 zero 0=[] :=id rfl
@[simp] theorem apx (zero:List U) (n:Nat) :c4 zero (n+1)=zero++c4 zero n:=id rfl
@[simp] theorem aku (o:BinOp) (t:TypeId) (k:IntKind) (a:Int) (k' : IntKind) (b:Int) :fG P o t (.int k a) (.int k' b)=b8 o k a k' b:=id rfl
@[simp] theorem akz (o:BinOp) (t:TypeId) (a b:List UInt8) :fG P o t (.str a) (.str b)=oR o a b:=id rfl
@[simp] theorem akw (k:IntKind) (a b:Int) :b8 .lss k a k b=some (.bool (decide (a<b))) :=by simp[b8]
@[simp] theorem akv (k:IntKind) (a b:Int) :b8 .leq k a k b=some (.bool (decide (a<=b))) :=by simp[b8]
@[simp] theorem akt (k:IntKind) (a b:Int) :b8 .gtr k a k b=some (.bool (decide (b<a))) :=by simp[b8]
@[simp] theorem aks (k:IntKind) (a b:Int) :b8 .geq k a k b=some (.bool (decide (b<=a))) :=by simp[b8]
@[simp] theorem akr (k:IntKind) (a b:Int) :b8 .eql k a k b=some (.bool (decide (a=b))) :=by
 have:(a == b)=decide (a=b) :=by by_cases h:a=b<;>simp[h]
 simp[b8,this]
@[simp] theorem aky (k:IntKind) (a b:Int) :b8 .neq k a k b=some (.bool (!decide (a=b))) :=by
 have:(a != b)=!decide (a=b) :=by by_cases h:a=b<;>simp[h]
 simp[b8,this]
@[simp] theorem akq (k:IntKind) (a b:Int) :b8 .add k a k b=some (.int k (k.wrap (a+b))) :=by simp[b8]
@[simp] theorem akA (k:IntKind) (a b:Int) :b8 .sub k a k b=some (.int k (k.wrap (a - b))) :=by simp[b8]
@[simp] theorem akx (k:IntKind) (a b:Int) :b8 .mul k a k b=some (.int k (k.wrap (a*b))) :=by simp[b8]
@[simp] theorem aqh (b:Bool) :pB .not (.bool b)=some (.bool (!b)) :=id rfl
@[simp] theorem aqg (k:IntKind) (n:Int) :pB .neg (.int k n)=some (.int k (k.wrap (0 - n))) :=id rfl
@[simp] theorem alh (k k' : IntKind) (n:Int) :AP k (.int k' n)=some (.int k (k.wrap n)) :=id rfl
@[simp] theorem amW (z c5:Nat) (es:List (List U)) (k:IntKind) (i:Int) :cv (.ar z) (.b0 c5 es) (.int k i)=if z=c5/\0<=i then (es[i.toNat]?).map fun cs=>.b5 cs 0 else none:=id rfl
@[simp] theorem amX (z c5 b off len cap sz:Nat) (k:IntKind) (i:Int) :cv (.ar z) (.ar c5 b off len cap sz) (.int k i)=if z=c5/\0<=i/\i<len then some (.ptr b (off+i.toNat*z) sz) else none:=id rfl
@[simp] theorem amV (n z:Nat) (x:U) (k:IntKind) (i:Int) :cv (.arr n z) x (.int k i)=if 0<=i/\i<n then mo x (i.toNat*z) else none:=id rfl
@[simp] theorem aon (z:Nat) :cL (.ar z) .aX=some (.int .i64 0) :=id rfl
@[simp] theorem aop (z c5 b o n c s:Nat) :cL (.ar z) (.ar c5 b o n c s)=some (.int .i64 n) :=id rfl
@[simp] theorem aoo (z c5:Nat) (es:List (List U)) :cL (.ar z) (.b0 c5 es)=some (.int .i64 es.length) :=id rfl
@[simp] theorem aoq (s:List UInt8) :cL .str (.str s)=some (.int .i64 s.length) :=id rfl
@[simp] theorem aom (n z:Nat) (x:U) :cL (.arr n z) x=some (.int .i64 n) :=id rfl
@[simp] theorem alL (vs:List U) (i:Nat) :A8 (.bu vs) i=vs[i]?:=id rfl
@[simp] theorem alO (cs:List U) (off:Nat) :Bc off (.aI cs)=cs[off]?:=id rfl
@[simp] theorem alP (n off:Nat) (cs:List U) :yL n off (.aI cs)=rP n cs off:=id rfl
end

section
variable {P:Program} {G:Nat->U}
inductive Rd (l:am) :U->U->Prop
 | same (c:U) (h:c.closed=true) :Rd l c c
 | aI (cs cs' : List U) (ak:cs'.length=cs.length) (h:∀ (j:Nat) (c c' : U),cs[j]? = some c->cs'[j]? = some c'->Rd l c c') :Rd l (.aI cs) (.aI cs')
 | bu (cs cs' : List U) (ak:cs'.length=cs.length) (h:∀ (j:Nat) (c c' : U),cs[j]? = some c->cs'[j]? = some c'->Rd l c c') :Rd l (.bu cs) (.bu cs')
 | ar (z b off len cap sz:Nat) (cs:List U) (es:List (List U)) (af:l[b]? = some (.cells sz cs)) (ak:es.length=len) (av:∀ e∈es,e.length=z)
   (fl:off+len*z<=cs.length)
   (h:∀ (i j:Nat) (e:List U) (c c' : U),es[i]? = some e->e[j]? = some c'->cs[off+(i*z+j)]? = some c->Rd l c c') :Rd l (.ar z b off len cap sz) (.b0 z es)
 | rZ (z b off cap sz:Nat) :Rd l (.ar z b off 0 cap sz) (.b0 z [])
theorem agK {w:World} {R:Nat->Prop} {B:Nat} {l:am} {μ:cu} (rel:bV R B w (bK l) μ) :∀ {c c' : U},Rd l c c'->∀ {v:Value},aO w R (bK l) μ c v->e3 w R c' v:=by
 intro c c' ay
 induction ay with
 | same c h=>
  intro v ao;exact (e3.up (wc ao h) fun k _ hk=>⟨hk.1,fun ⟨b,m,h1,ad,aj⟩=>by cases ad⟩:aO w R aN.empty (fun _=>none) _ v)
 | aI cs cs' ak h aJ=>
  intro v ao;cases ao with
  | aI _ vs gl h1 ao=>
   refine .aI cs' vs (by omega) h1 (fun j c' v ai eZ=>?_);have aL:j<cs.length:=by rw[<-ak]; exact (aqr.1 ai).1
   exact aJ j cs[j] c' (aqu aL) ai (ao j cs[j] v (aqu aL) eZ)
 | bu cs cs' ak h aJ=>
  intro v ao;cases ao with
  | bu _ vs gl ao=>
   refine .bu cs' vs (by omega) (fun j c' v ai eZ=>?_);have aL:j<cs.length:=by rw[<-ak]; exact (aqr.1 ai).1
   exact aJ j cs[j] c' (aqu aL) ai (ao j cs[j] v (aqu aL) eZ)
 | rZ z b off cap sz=>
  intro v ao;cases ao with
  | ar _ _ _ _ _ _ cap' cs m af hm ak aq ah=>exact .fe z _ cap'
  | ga _ _ _ _ _ _ cap' a ak ah au=>exact .fe z _ cap'
  | hl _ _ _ _ a cs m af hm=>exact .fe z a 0
 | ar z b off len cap sz cs es af ak av fl h aJ=>
  intro v ao;have p3:(bK l).f b=.cells sz cs:=lE.2 af;cases ao with
  | hl _ _ _ _ a hq m fI jo=>
   obtain rfl:=arf.1 ak;exact .fe z a 0
  | ga _ _ _ _ _ _ cap' a ak ah au=>
   exfalso;rcases au with au | ⟨n,hq,au,aL⟩
   ·rw[p3] at au; cases au
   ·rw[p3] at au; cases au; omega
  | ar _ _ _ _ _ _ cap' hq m fI hm fC aq ah=>
   rw[p3] at fI; cases fI;have hblk:=rel.blk b m hm;rw[p3] at hblk;obtain⟨cp,dt,arr,t,fH,hw,az,aA,lO⟩:=hblk;have cM:len<=cap':=by rcases ah with ⟨_,h⟩ | ⟨_,h,_⟩<;>omega
   have nd:R m.r:=rel.up _ (rel.base b m (by rw[p3]; rfl) hm);subst ak;have p4:∀ i j,i<es.length->j<z->∃ c v,cs[off+(i*z+j)]? = some c/\arr[m.s+(off+(i*z+j))]? = some v/\v.oneCell'=true/\aO w R (bK l) μ c v:=by
    intro i j ax ai;have aL:off+(i*z+j)<cs.length:=by
     have:i*z+z<=es.length*z:=by rw[<-ara]; exact aqz _ ax
     omega
    obtain⟨v,h1,ad,aj⟩:=lO _ _ (aqu aL);exact⟨_,v,aqu aL,h1,ad,aj⟩
   refine .b0 z es m.r (m.s+off) cap' (fun i j=>(arr[m.s+(off+(i*z+j))]?).getD undef) cM av (fun i j ax ai=>?_) (fun i e ap j c' ai=>?_)
   ·obtain⟨c,v,h1,ad,aj,aC⟩:=p4 i j ax ai;refine⟨?_,?_,nd,fun ⟨b,m,h1,ad,aj⟩=>by cases ad⟩
    ·simp only[World.cell?,hw,ad,arb,asi];rw[show m.s+off+(i*z+j)=m.s+(off+(i*z+j)) by omega,ad]; rfl
    ·rw[ad]; exact aj
   ·have ax:i<es.length:=(aqr.1 ap).1;have nj:j<z:=by rw[<-av e (aqI ap)]; exact (aqr.1 ai).1
    obtain⟨c,v,h1,ad,aj,aC⟩:=p4 i j ax nj;simp only[ad,arb];exact aJ i j e c c' ap ai h1 aC
theorem bt (mI:P.follows .mixedOrders=true) (k4:∀ g,(G g).closed=true) {f:FuncId} {args:List U} {r:U} (h:c2 P G f args [] (c:=⟨fun lz l=>Rd l lz r⟩)) :bi P G f args r:=by
 obtain⟨lz,l',h1,ad,aj⟩:=h;intro w A vs au ak ao;refine (Mp (A:=A) mI k4 h1 au ak ao).mono ?_;rintro e w' ⟨v,μ',rfl,af,rel,ay⟩;exact⟨v,rfl,af,agK rel aj ay⟩
theorem aU {f:FuncId} {args:List U} {r:U} {l:am} {K:U->am->Prop} (aB:bi P G f args r) (ah:aV args=true) (h:K r l) :c2 P G f args l (c:=⟨K⟩) :=
 ⟨r,l,.pure aB ah,aqv _,h⟩
theorem aep (mI:P.follows .mixedOrders=true) (k4:∀ g,(G g).closed=true) {f:FuncId} {args:List U} (h:c2 P G f args [] (c:=⟨fun r _=>r=.bool true⟩))
  {w:World} {A:Nat->Prop} {vs:Array Value} (au:∀ g,e3 w A (G g) (.pointer (some ⟨g,0,none⟩))) (ak:vs.size=args.length)
  (ao:∀ (j:Nat) (c:U) (v:Value),args[j]? = some c->vs[j]? = some v->e3 w A c v) :
  Calls P f vs w fun e w'=>e=.returned (.bool true)/\RowKit.Below w.heap.size w w':=by
 obtain⟨lz,l',h1,ad,rfl⟩:=h;exact aix mI k4 h1 au ak ao
end

section
variable {P:Program}
inductive cG (P:Program) :List TypeId->List U->Prop
 | nil:cG P [] []
 | bool {t:TypeId} {b:Bool} {ts:List TypeId} {cs:List U} (aK:P.underlying t=some .bool) (h:cG P ts cs) :cG P (t::ts) (.bool b::cs)
 | int {t:TypeId} {k:IntKind} {n:Int} {ts:List TypeId} {cs:List U} (aK:P.underlying t=some (.int k)) (h1:k.min<=n) (ad:n<=k.max) (h:cG P ts cs) :cG P (t::ts) (.int k n::cs)
 | str {t:TypeId} {s:List UInt8} {ts:List TypeId} {cs:List U} (aK:P.underlying t=some .string) (al:s.length<=maxLen) (h:cG P ts cs) :cG P (t::ts) (.str s::cs)
 | aX {t e:TypeId} {ts:List TypeId} {cs:List U} (aK:P.underlying t=some (.slice e)) (h:cG P ts cs) :cG P (t::ts) (.aX::cs)
 | ar {t e:TypeId} {es:List (List U)} {ts:List TypeId} {cs:List U} (aK:P.underlying t=some (.slice e)) (ak:es.length<=maxLen) (av:∀ r∈es,r.length=P.cellsOf e) (ap:∀ r∈es,cG P [e] r) (h:cG P ts cs) :cG P (t::ts) (.b0 (P.cellsOf e) es::cs)
 | struct {t:TypeId} {fs:Array Field} {ts:List TypeId} {cs:List U} (aK:P.underlying t=some (.struct fs)) (h:cG P (fs.toList.map (·.type)++ts) cs) :cG P (t::ts) cs
 | array {t e:TypeId} {n:Nat} {ts:List TypeId} {cs:List U} (aK:P.underlying t=some (.array n e)) (h:cG P (List.replicate n e++ts) cs) :cG P (t::ts) cs
def uq (P:Program) :List Field->Nat->Option Nat
 | [],o=>some o
 | f::r,o=>if f.offset=o then uq P r (o+P.cellsOf f.type) else none
def tv (P:Program) :Nat->TypeId->Bool
 | 0,_=>false
 | d+1,t=>match P.underlying t with
  | some .bool | some (.int _) | some .string=>true
  | some (.slice e)=>decide (0<P.cellsOf e)&&tv P d e
  | some (.struct fs)=>decide (uq P fs.toList 0=some (P.cellsOf t))&&fs.toList.all fun f=>tv P d f.type
  | some (.array n e)=>decide (n*P.cellsOf e=P.cellsOf t)&&tv P d e
  | _=>false
structure oQ (P:Program) (w:World) (A:Nat->Prop) (ts:List TypeId) (vs:List Value) (cs:List U) :Prop where
 len:cs.length=vs.length
 ty:∀ pA cs',cG P pA cs'->cG P (ts++pA) (cs++cs')
 pE:∀ (j:Nat) (c:U) (v:Value),cs[j]? = some c->vs[j]? = some v->e3 w A c v/\v.oneCell'=true
theorem oQ.nil {w:World} {A:Nat->Prop}:oQ P w A [] [] [] :=⟨rfl,fun _ _ h=>h,fun j c v h=>by simp at h⟩
theorem oQ.app {w:World} {A:Nat->Prop} {ts pA:List TypeId} {vs GU:List Value} {cs cs' : List U} (a:oQ P w A ts vs cs) (b:oQ P w A pA GU cs') :oQ P w A (ts++pA) (vs++GU) (cs++cs') :=by
 refine⟨by simp[a.len,b.len],fun ap6 alw h=>by rw[aq4,aq4]; exact a.ty _ _ (b.ty _ _ h),fun j c v ah ao=>?_⟩;by_cases h:j<cs.length
 ·rw[aqt h] at ah;rw[aqt (by rw[<-a.len]; exact h)] at ao;exact a.pE j c v ah ao
 ·rw[aqB (by omega)] at ah;rw[aqB (by rw[<-a.len]; omega)] at ao;rw[<-a.len] at ao;exact b.pE _ c v ah ao
theorem FX {α jc:Type} {f:α->Option jc}:∀ {l:List α} {r:List jc},l.mapM f=some r->∀ (p:Nat) (a:α),l[p]? = some a->∃ x,r[p]? = some x/\f a=some x
 | [],r,h,p,a,az=>by simp at az
 | a0::l,r,h,p,a,az=>by
  rw[ar2] at h;simp only[Option.bind_eq_bind,bind_some,asb,Option.some.injEq] at h;obtain⟨b,h1,cC,ad,rfl⟩:=h;cases p with
  | zero=>simp only[aqQ,Option.some.injEq] at az; subst az; exact⟨b,rfl,h1⟩
  | succ p=>obtain⟨x,aj,aC⟩:=FX ad p a (by simpa using az); exact⟨x,by simpa using aj,aC⟩
theorem CH {w:World} {A:Nat->Prop} {c:U} {v:Value} (h:e3 w A c v) (h1:v.oneCell'=true) :∀ (j:Nat) (c' : U) (a8:Value),[c][j]? = some c'->[v][j]? = some a8->e3 w A c' a8/\a8.oneCell'=true:=by
 intro j c' a8 ah ao;cases j with
 | zero=>simp only[aqQ,Option.some.injEq] at ah ao; subst ah ao; exact⟨h,h1⟩
 | succ j=>simp at ah
theorem aiA {H:Type} {enc:TypeId × Value->H} {w:World} {base:Nat} {spare:Nat->Bool} {held:Bool} {fuel:Nat} {t:TypeId} {vs:List Value} {x:DataW H × List MemPlace}
  (aK:P.underlying t=some .bool) (h:DataW.trod enc P w base spare held (fuel+1) t vs=some x) :∃ b,vs=[.bool b] :=by
 unfold DataW.trod at h;rw[aK] at h;split at h
 case h_1 b _=>exact⟨b,rfl⟩
 all_goals first | (cases h; done) | (rename_i heq; cases heq; done) | (rename_i heq _; cases heq; done) | (rename_i heq _ _; cases heq; done) | (rename_i heq _ _ _; cases heq; done) | (simp_all; done)
theorem trod_int {H:Type} {enc:TypeId × Value->H} {w:World} {base:Nat} {spare:Nat->Bool} {held:Bool} {fuel:Nat} {t:TypeId} {k:IntKind} {vs:List Value} {x:DataW H × List MemPlace}
  (aK:P.underlying t=some (.int k)) (h:DataW.trod enc P w base spare held (fuel+1) t vs=some x) :∃ n,vs=[.int k n]/\k.min<=n/\n<=k.max:=by
 unfold DataW.trod at h;rw[aK] at h;split at h<;>simp only[reduceCtorEq,Option.some.injEq,TypeDesc.int.injEq] at *<;>try (exfalso; simp_all; done)
 rename_i hC k' n heq;subst heq;split at h
 ·rename_i ah;obtain⟨rfl,hw⟩:=ah;simp only[Lit.wf,aqw,decide_eq_true_eq] at hw;exact⟨n,rfl,hw.1,hw.2⟩
 ·cases h
theorem aiC {H:Type} {enc:TypeId × Value->H} {w:World} {base:Nat} {spare:Nat->Bool} {held:Bool} {fuel:Nat} {t:TypeId} {vs:List Value} {x:DataW H × List MemPlace}
  (aK:P.underlying t=some .string) (h:DataW.trod enc P w base spare held (fuel+1) t vs=some x) :∃ s,vs=[.string s]/\s.size<=maxLen:=by
 unfold DataW.trod at h;rw[aK] at h;split at h<;>simp only[reduceCtorEq,Option.some.injEq] at *<;>try (exfalso; simp_all; done)
 split at h
 ·rename_i s _ al; exact⟨s,rfl,al⟩
 ·cases h
theorem aiB {H:Type} {enc:TypeId × Value->H} {w:World} {base:Nat} {spare:Nat->Bool} {held:Bool} {fuel:Nat} {t e:TypeId} {vs:List Value} {x:DataW H × List MemPlace}
  (aK:P.underlying t=some (.slice e)) (h:DataW.trod enc P w base spare held (fuel+1) t vs=some x) :
  vs=[.slice none 0 0]\/∃ a len cap,vs=[.slice (some a) len cap]/\len<=cap/\cap<=maxLen/\∃ D9,(List.range len).mapM (fun i=>(w.cells? base (a.add (i*P.cellsOf e)) (P.cellsOf e)).bind (DataW.trod enc P w base spare held fuel e))=some D9:=by
 unfold DataW.trod at h;rw[aK] at h;split at h<;>simp only[reduceCtorEq,Option.some.injEq,TypeDesc.slice.injEq] at *<;>try (exfalso; simp_all; done)
 ·exact .inl trivial
 ·rename_i eL a len cap heq;subst heq;split at h
  ·rename_i ah;rw[bind_some] at h;obtain⟨D9,h1,_⟩:=h;exact .inr ⟨a,len,cap,rfl,ah.2.1,ah.2.2,D9,h1⟩
  ·cases h
theorem aiD {H:Type} {enc:TypeId × Value->H} {w:World} {base:Nat} {spare:Nat->Bool} {held:Bool} {fuel:Nat} {t:TypeId} {fs:Array Field} {vs:List Value} {x:DataW H × List MemPlace}
  (aK:P.underlying t=some (.struct fs)) (h:DataW.trod enc P w base spare held (fuel+1) t vs=some x) :
  vs.length=P.cellsOf t/\∃ xs,(fs.toList.mapM fun f=>DataW.trod enc P w base spare held fuel f.type ((vs.drop f.offset).take (P.cellsOf f.type)))=some xs:=by
 unfold DataW.trod at h;rw[aK] at h;split at h<;>simp only[reduceCtorEq,Option.some.injEq,TypeDesc.struct.injEq] at *<;>try (exfalso; simp_all; done)
 rename_i alS heq;subst heq;split at h
 ·rename_i ah;rw[map_some] at h;obtain⟨xs,h1,_⟩:=h;exact⟨ah,xs,h1⟩
 ·cases h
theorem trod_array {H:Type} {enc:TypeId × Value->H} {w:World} {base:Nat} {spare:Nat->Bool} {held:Bool} {fuel:Nat} {t e:TypeId} {n:Nat} {vs:List Value} {x:DataW H × List MemPlace}
  (aK:P.underlying t=some (.array n e)) (h:DataW.trod enc P w base spare held (fuel+1) t vs=some x) :
  vs.length=P.cellsOf t/\∃ xs,((List.range n).mapM fun i=>DataW.trod enc P w base spare held fuel e ((vs.drop (i*P.cellsOf e)).take (P.cellsOf e)))=some xs:=by
 unfold DataW.trod at h;rw[aK] at h;split at h<;>simp only[reduceCtorEq,Option.some.injEq,TypeDesc.array.injEq] at *<;>try (exfalso; simp_all; done)
 rename_i apc eL heq;obtain⟨rfl,rfl⟩:=heq;split at h
 ·rename_i ah;rw[map_some] at h;obtain⟨xs,h1,_⟩:=h;exact⟨ah,xs,h1⟩
 ·cases h
theorem WN (a:Addr) (x j:Nat) :a.add (x+j)=(a.add x).add j:=by
 unfold Addr.add;by_cases ag:x=0
 ·subst ag; simp
 ·by_cases ai:j=0
  ·subst ai; simp
  ·rw[if_neg (by omega),if_neg ag,if_neg ai];simp only[ar0]
theorem add_plain (b o n:Nat) :(Addr.mk b o none).add n=⟨b,o+n,none⟩:=by
 unfold Addr.add;by_cases aD:n=0
 ·subst aD; simp
 ·rw[if_neg aD]
theorem Vw {H:Type} {enc:TypeId × Value->H} {w:World} {A:Nat->Prop} (cT:∀ k,A k) {base:Nat} {spare:Nat->Bool} {held:Bool}:∀ (fuel:Nat) (D:Nat) (t:TypeId) (vs:List Value) (d:DataW H) (ck:List MemPlace),
  tv P D t=true->DataW.trod enc P w base spare held fuel t vs=some (d,ck)->∃ cs,oQ P w A [t] vs cs
 | 0,_,_,_,_,_,_,h=>by simp[DataW.trod] at h
 | fuel+1,0,t,vs,d,ck,aB,h=>by cases aB
 | fuel+1,D+1,t,vs,d,ck,aB,h=>by
  have aJ:=fun t vs d ck aB h=>Vw cT (enc:=enc) (w:=w) (base:=base) (spare:=spare) (held:=held) fuel D t vs d ck aB h
  unfold tv at aB;split at aB
  ·rename_i aK;obtain⟨b,rfl⟩:=aiA aK h;exact⟨[.bool b],⟨rfl,fun pA cs' h=>.bool aK h,CH (.bool b) rfl⟩⟩
  ·rename_i k aK;obtain⟨n,rfl,h1,ad⟩:=trod_int aK h;exact⟨[.int k n],⟨rfl,fun pA cs' h=>.int aK h1 ad h,CH (.int k n) rfl⟩⟩
  ·rename_i aK;obtain⟨s,rfl,h1⟩:=aiC aK h;exact⟨[.str s.data.toList],⟨rfl,fun pA cs' h=>.str aK (show s.data.toList.length<=maxLen from h1) h,CH (.str s) rfl⟩⟩
  ·rename_i e aK;simp only[aqw,decide_eq_true_eq] at aB;rcases aiB aK h with rfl | ⟨a,len,cap,rfl,n4,h4,D9,ap⟩
   ·exact⟨[.aX],⟨rfl,fun pA cs' h=>.aX aK h,CH .aX rfl⟩⟩
   ·have cj:∀ i,i<len->∃ dH row,w.cells? base (a.add (i*P.cellsOf e)) (P.cellsOf e)=some dH/\oQ P w A [e] dH row:=fun i ax=>by
     obtain⟨x,_,ag⟩:=FX ap i i (by rw[aq1 ax]);rw[bind_some] at ag;obtain⟨dH,h1,ad⟩:=ag;obtain⟨row,aj⟩:=aJ e dH x.1 x.2 aB.2 ad;exact⟨dH,row,h1,aj⟩
    have Bx:∃ (dH:Nat->List Value) (rows:Nat->List U),∀ i,i<len->w.cells? base (a.add (i*P.cellsOf e)) (P.cellsOf e)=some (dH i)/\oQ P w A [e] (dH i) (rows i) :=by
     refine⟨fun i=>if ax:i<len then (cj i ax).choose else [],fun i=>if ax:i<len then (cj i ax).choose_spec.choose else [],fun i ax=>?_⟩;simp only[dif_pos ax];exact (cj i ax).choose_spec.choose_spec
    obtain⟨dH,rows,ao⟩:=Bx;have iB:∀ i,i<len->(dH i).length=P.cellsOf e/\∀ j,j<P.cellsOf e->∃ v,(dH i)[j]? = some v/\w.cell? (a.add (i*P.cellsOf e+j))=some v:=fun i ax=>by
     have h1:=(ao i ax).1;unfold World.cells? at h1;split at h1
     ·refine⟨by rw[KV h1]; simp,fun j ai=>?_⟩;obtain⟨v,ad,aj⟩:=FX h1 j j (by rw[aq1 ai]);refine⟨v,ad,?_⟩;rw[<-aj,WN]
     ·cases h1
    let es:=(List.range len).map rows
    have iC:∀ (i:Nat) (r:List U),es[i]? = some r->i<len/\r=rows i:=fun i r ay=>by
     simp only[es,aqx] at ay;by_cases ax:i<len
     ·rw[aq1 ax] at ay; simp only[aqy,Option.some.injEq] at ay; exact⟨ax,ay.symm⟩
     ·rw[aqJ (by simp; omega)] at ay; cases ay
    have bc:es.length=len:=by simp[es]
    have av:∀ r∈es,r.length=P.cellsOf e:=fun r ay=>by
     obtain⟨i,ax⟩:=asc ay;obtain⟨h1,rfl⟩:=iC i r ax;rw[(ao i h1).2.len,(iB i h1).1]
    have zj:∀ r∈es,cG P [e] r:=fun r ay=>by
     obtain⟨i,ax⟩:=asc ay;obtain⟨h1,rfl⟩:=iC i r ax;have:=(ao i h1).2.ty [] [] .nil;simpa using this
    refine⟨[.b0 (P.cellsOf e) es],⟨rfl,fun pA cs' h=>.ar aK (by omega) av zj h,CH ?_ rfl⟩⟩;by_cases aE:len=0
    ·subst aE;exact .fe _ _ _
    ·obtain⟨v0,_,ii⟩:=(iB 0 (by omega)).2 0 aB.1;have Sm:a.spot=none:=by
      unfold World.cell? at ii;split at ii
      ·split at ii
       ·cases ii
       ·rename_i al;rw[show 0*P.cellsOf e+0=0 by omega] at al;simp only[Addr.add,if_true] at al;cases ig:a.spot with
        | none=>rfl
        | some x=>rw[ig] at al; simp at al
      ·cases ii
     obtain⟨blk,off,spot⟩:=a;simp only at Sm;subst Sm;have key:=aO.b0 (w:=w) (R:=A) (h:=aN.empty) (μ:=fun _=>none) (P.cellsOf e) es blk off cap (fun i j=>((dH i)[j]?).getD undef) (by omega) av
      (fun i j ax ai=>by
       rw[bc] at ax;obtain⟨v,h1,ad⟩:=(iB i ax).2 j ai;obtain⟨c,ah⟩:∃ c,(rows i)[j]? = some c:=by
        have:j<(rows i).length:=by rw[(ao i ax).2.len,(iB i ax).1]; exact ai
        exact⟨_,aqu this⟩
       refine⟨?_,?_,cT _,fun ⟨b,m,h1,ad,aj⟩=>by cases ad⟩
       ·rw[h1,arb,<-add_plain]; exact ad
       ·rw[h1,arb]; exact ((ao i ax).2.pE j c v ah h1).2)
      (fun i r ay j c ah=>by
       obtain⟨ax,rfl⟩:=iC i r ay;have ai:j<P.cellsOf e:=by rw[<-(iB i ax).1,<-(ao i ax).2.len]; exact (aqr.1 ah).1
       obtain⟨v,h1,ad⟩:=(iB i ax).2 j ai;rw[h1,arb];exact ((ao i ax).2.pE j c v ah h1).1)
     rw[bc] at key;exact key
  ·rename_i fs aK;simp only[aqw,decide_eq_true_eq,ari] at aB;obtain⟨bc,xs,ag⟩:=aiD aK h;have Bh:∀ (fs:List Field) (o:Nat) (xs:List (DataW H × List MemPlace)),uq P fs o=some vs.length->o<=vs.length->(∀ f∈fs,tv P D f.type=true)->
     (fs.mapM fun f=>DataW.trod enc P w base spare held fuel f.type ((vs.drop f.offset).take (P.cellsOf f.type)))=some xs->∃ cs,oQ P w A (fs.map (·.type)) (vs.drop o) cs:=by
    intro fs
    induction fs with
    | nil=>intro o xs ah aq _ _; simp only[uq,Option.some.injEq] at ah; rw[ah,List.drop_length]; exact⟨[],.nil⟩
    | cons f fs ads=>
     intro o xs ah aq jp hm;simp only[uq] at ah;split at ah
     ·rename_i abu;rw[ar2] at hm;simp only[Option.bind_eq_bind,bind_some,asb,Option.some.injEq] at hm;obtain⟨x,h1,ajM,ad,_⟩:=hm;have acd:∀ (fs:List Field) (o n:Nat),uq P fs o=some n->o<=n:=by
       intro fs
       induction fs with
       | nil=>intro o n h; simp only[uq,Option.some.injEq] at h; omega
       | cons g gs adt=>
        intro o n h;simp only[uq] at h;split at h
        ·have:=adt _ _ h; omega
        ·cases h
      have eu:=acd _ _ _ ah;obtain⟨ci,bS⟩:=aJ f.type _ x.1 x.2 (jp f (by simp)) h1;obtain⟨dd,w2⟩:=ads _ ajM ah eu (fun g au=>jp g (by simp[au])) ad;refine⟨ci++dd,?_⟩;have:=bS.app w2;rw[abu,show List.drop (o+P.cellsOf f.type) vs=List.drop (P.cellsOf f.type) (List.drop o vs) by rw[as2],aq8] at this;exact this
     ·cases ah
   obtain⟨cs,hw⟩:=Bh fs.toList 0 xs (by rw[bc]; exact aB.1) (arE _) aB.2 ag;rw[ary] at hw;exact⟨cs,⟨hw.len,fun pA cs' h=>.struct aK (hw.ty _ _ h),hw.pE⟩⟩
  ·rename_i n e aK;simp only[aqw,decide_eq_true_eq] at aB;obtain⟨bc,xs,ag⟩:=trod_array aK h;have acF:∀ i,i<n->∃ c,oQ P w A [e] ((vs.drop (i*P.cellsOf e)).take (P.cellsOf e)) c:=fun i ax=>by
    obtain⟨x,_,h1⟩:=FX ag i i (by rw[aq1 ax]);exact aJ e _ x.1 x.2 aB.2 h1
   have Bh:∀ m,m<=n->∃ cs,oQ P w A (List.replicate m e) (vs.drop ((n - m)*P.cellsOf e)) cs:=by
    intro m
    induction m with
    | zero=>intro _; rw[asX,aq7 (by omega)]; exact⟨[],.nil⟩
    | succ m Kl=>
     intro hm;obtain⟨ci,bS⟩:=acF (n - (m+1)) (by omega);obtain⟨dd,w2⟩:=Kl (by omega);refine⟨ci++dd,?_⟩;have:=bS.app w2;have uM:(n - m)*P.cellsOf e=(n - (m+1))*P.cellsOf e+P.cellsOf e:=by rw[<-ara]; congr 1; omega
     rw[uM,<-as2,aq8] at this;exact this
   obtain⟨cs,hw⟩:=Bh n (aqv _);rw[ass,asE,ary] at hw;exact⟨cs,⟨hw.len,fun pA cs' h=>.array aK (hw.ty _ _ h),hw.pE⟩⟩
  ·cases aB
def sk (P:Program) (t:TypeId) (c:U) :Prop:=match dE P t with
 | some true=>∃ cs,c=.aI cs/\cG P [t] cs
 | _=>cG P [t] [c]
inductive lI (P:Program) :List TypeId->List U->Prop
 | nil:lI P [] []
 | cons {t:TypeId} {c:U} {ts:List TypeId} {cs:List U}:sk P t c->lI P ts cs->lI P (t::ts) (c::cs)
theorem Nr {H:Type} {enc:TypeId × Value->H} {w:World} {A:Nat->Prop} (cT:∀ k,A k) {base gN:Nat} {spare:Nat->Bool} {held:Bool} {D:Nat}:∀ {ts:List TypeId} {vs:List Value} {hs:List (DataW H)} {ck:List MemPlace},
  (∀ t∈ts,tv P D t=true)->(∀ (j:Nat) t v,ts[j]? = some t->vs[j]? = some v->Value.okWide P w .any gN t v)->DataW.TrodAll enc P w base spare held ts vs hs ck->
  ∃ cs,lI P ts cs/\cs.length=vs.length/\∀ (j:Nat) (c:U) (v:Value),cs[j]? = some c->vs[j]? = some v->e3 w A c v
 | [],[],_,_,_,_,_=>⟨[],.nil,rfl,fun j c v h=>by simp at h⟩
 | [],_::_,hs,_,_,_,h=>by cases hs<;>cases h
 | _::_,[],hs,_,_,_,h=>by cases hs<;>cases h
 | _::_,_::_,[],_,_,_,h=>by cases h
 | t::ts,v::vs,d::hs,ck,aB,dN,h=>by
  obtain⟨p,q,⟨fuel,aP⟩,ay,_⟩:=h;obtain⟨cs,h1,ad,aj⟩:=Nr cT (fun t aP=>aB t (by simp[aP])) (fun j t v aP ao=>dN (j+1) t v (by simpa using aP) (by simpa using ao)) ay;obtain⟨ci,bS⟩:=Vw cT fuel D t v.cells.toList d p (aB t (by simp)) aP;have zj:cG P [t] ci:=by simpa using bS.ty [] [] .nil
  have ao:=dN 0 t v rfl rfl;have fin:∀ c,sk P t c->e3 w A c v->∃ cs,lI P (t::ts) cs/\cs.length=(v::vs).length/\∀ (j:Nat) (c:U) (a8:Value),cs[j]? = some c->(v::vs)[j]? = some a8->e3 w A c a8:=fun c ah jk=>
   ⟨c::cs,.cons ah h1,by simp[ad],fun j c' a8 ai eZ=>by
    cases j with
    | zero=>simp only[aqQ,Option.some.injEq] at ai eZ; subst ai eZ; exact jk
    | succ j=>exact aj j c' a8 (by simpa using ai) (by simpa using eZ)⟩
  unfold Value.okWide at ao;have agg:dE P t=(P.underlying t).map fun d=>match d with | .struct _ | .array _ _=>true | _=>false:=rfl
  cases aK:P.underlying t with
  | none=>
   exfalso;have:=aB t (by simp);cases D with
   | zero=>cases this
   | succ D=>unfold tv at this; rw[aK] at this; cases this
  | some Pr=>
   rw[aK] at ao agg;have adQ:(∃ cs,v=.agg cs)->dE P t=some true->∃ cs,lI P (t::ts) cs/\cs.length=(v::vs).length/\∀ (j:Nat) (c:U) (a8:Value),cs[j]? = some c->(v::vs)[j]? = some a8->e3 w A c a8:=by
    rintro⟨xs,rfl⟩ nW;refine fin (.aI ci) (by unfold sk; rw[nW]; exact⟨ci,rfl,zj⟩) (.aI ci xs (by have:=bS.len; simp only[Value.cells,asf] at this; exact this.symm) (fun j x ag=>?_) (fun j c x ah ag=>?_))
    ·have aL:j<ci.length:=by rw[bS.len]; simp only[Value.cells,asf]; exact (aqX.1 ag).1
     exact (bS.pE j ci[j] x (aqu aL) (by simpa [Value.cells] using ag)).2
    ·exact (bS.pE j c x ah (by simpa [Value.cells] using ag)).1
   have adS:(∀ xs,v≠.agg xs)->dE P t=some false->∃ cs,lI P (t::ts) cs/\cs.length=(v::vs).length/\∀ (j:Nat) (c:U) (a8:Value),cs[j]? = some c->(v::vs)[j]? = some a8->e3 w A c a8:=by
    intro bY nW;have iB:v.cells.toList=[v] :=by cases v<;>first | rfl | exact absurd rfl (bY _)
    have ak:=bS.len;rw[iB] at ak;obtain⟨c,rfl⟩:∃ c,ci=[c] :=List.length_eq_one_iff.1 ak;refine fin c (by unfold sk; rw[nW]; exact zj) (bS.pE 0 c v rfl (by rw[iB]; rfl)).1
   have afk:Cell.okWide P w .any gN t v->∀ xs,v≠.agg xs:=by
    rintro ah xs rfl;unfold Cell.okWide at ah;rw[aK] at ah;cases Pr<;>simp[Cell.ok,aK] at ah
   cases Pr<;>simp only[aqy] at agg<;>first
    | exact adQ (by obtain⟨cs,h,_⟩:=ao; exact⟨cs,h⟩) agg
    | exact adS (afk ao) agg
end
abbrev ez (α:Type) :=Option (List α)
def ez.l {α:Type} (s:ez α) :List α:=s.getD []
@[simp] theorem ez.aok {α:Type}:ez.l (none:ez α)=[] :=rfl
@[simp] theorem ez.Ta {α:Type} (l:List α) :ez.l (some l)=l:=rfl
def cy {α:Type} (z:Nat) (enc:α->List U) :ez α->U
 | none=>.aX
 | some l=>.b0 z (l.map enc)
section
variable {α:Type} {z:Nat} {enc:α->List U}
@[simp] theorem nt (s:ez α) :cL (.ar z) (cy z enc s)=some (.int .i64 s.l.length) :=by cases s<;>simp[cy,ez.l]
@[simp] theorem rB (s:ez α) (k:IntKind) (i:Int) :cv (.ar z) (cy z enc s) (.int k i)=if 0<=i then (s.l[i.toNat]?).map fun x=>.b5 (enc x) 0 else none:=by
 cases s with
 | none=>by_cases h:0<=i<;>simp[cy,ez.l,cv,h]
 | some l=>by_cases h:0<=i<;>simp[cy,ez.l,h,Function.comp_def]
@[simp] theorem OV (s:ez α) :(cy z enc s).cells=some [cy z enc s] :=by cases s<;>rfl
theorem uk (h:∀ x,aV (enc x)=true) (s:ez α) :(cy z enc s).closed=true:=by
 cases s with
 | none=>rfl
 | some l=>
  simp only[cy,U.closed]
  induction l with
  | nil=>rfl
  | cons x l aJ=>simp only[aqP,AR,h,aJ,ar5]
end
theorem wrap_i64 {n:Int} (h1:-9223372036854775808<=n) (ad:n<9223372036854775808) :IntKind.i64.wrap n=n:=by
 have aR:(2 ^ IntKind.i64.bits:Int)=18446744073709551616:=by decide
 have bI:(2 ^ (IntKind.i64.bits - 1) :Int)=9223372036854775808:=by decide
 have dJ:IntKind.i64.signed=true:=rfl;simp only[IntKind.wrap,aR,bI,dJ,art,decide_eq_true_eq];split<;>omega
theorem bW {α:Type} {l:List α} {k:Nat} (h:k<l.length) :∃ x,l[k]? = some x/\x∈l:=⟨l[k],aqu h,asy h⟩
section
variable {P:Program} {G:Nat->U}
theorem DJ {t e:TypeId} (aK:P.underlying t=some (.slice e)) {α:Type} (z:Nat) (enc:α->List U) (s:ez α) :fG P .eql t (cy z enc s) .aX=some (.bool s.isNone) :=by
 cases s<;>simp[cy,fG,wq,ea,aK]
theorem YY {e:TypeId} {k:IntKind} (aK:P.underlying e=some (.int k)) (az:dE P e=some false) {D:Nat} (x y:List Int) :∀ (n i:Nat),i+n=x.length->i+n=y.length->
  ea.q8 P (ea P (D+1)) e 1 (x.map (.int k)) (y.map (.int k)) n i=some (decide (x.drop i=y.drop i)) :=by
 intro n
 induction n with
 | zero=>intro i ag aG; rw[aq7 (by omega),aq7 (by omega)]; simp[ea.q8]
 | succ n aJ=>
  intro i ag aG;have tb:x[i]? = some x[i] :=aqu (by omega);have adk:y[i]? = some y[i] :=aqu (by omega);unfold ea.q8;simp only[Lh az,arS,aqx,tb,adk,aqy];have ap:ea P (D+1) e (.int k x[i]) (.int k y[i])=some (decide (x[i]=y[i])) :=by
   unfold ea;rw[aK];simp only[if_true];by_cases h:x[i]=y[i]<;>simp[h]
  rw[ap];have Rc:x.drop i=x[i] ::x.drop (i+1) :=arm (by omega);have Re:y.drop i=y[i] ::y.drop (i+1) :=arm (by omega);by_cases h:x[i]=y[i]
  ·simp only[h,decide_true];rw[aJ (i+1) (by omega) (by omega)];refine congrArg some (decide_eq_decide.2 ?_);rw[Rc,Re,h];simp only[List.cons.injEq,true_and]
  ·simp only[h,decide_false];refine congrArg some (decide_eq_false ?_).symm;rw[Rc,Re];simp only[List.cons.injEq,h,false_and,not_false_eq_true]
theorem Y5 {t e:TypeId} {k:IntKind} {n:Nat} (aP:P.underlying t=some (.array n e)) (aK:P.underlying e=some (.int k)) (az:dE P e=some false) (al:cf P e=some 1) {x y:List Int} (ag:x.length=n) (aG:y.length=n) {D:Nat} :
  ea P (D+2) t (.aI (x.map (.int k))) (.aI (y.map (.int k)))=some (decide (x=y)) :=by
 unfold ea;rw[aP];simp only[al];rw[YY aK az x y n 0 (by omega) (by omega)];simp
theorem El {z:Nat} {es:List (List U)} (av:∀ e∈es,e.length=z) :es.flatten.length=es.length*z:=by
 induction es with
 | nil=>simp
 | cons e es aJ=>rw[aro,aqA,av e (by simp),aJ fun e ap=>av e (by simp[ap]),aqH,ara,Nat.add_comm]
theorem Ek {z:Nat} {es:List (List U)} (av:∀ e∈es,e.length=z) {i j:Nat} {e:List U} (ap:es[i]? = some e) (ai:j<z) :es.flatten[i*z+j]? = e[j]?:=by
 induction es generalizing i with
 | nil=>simp at ap
 | cons x es aJ=>
  have ag:x.length=z:=av x (by simp);cases i with
  | zero=>
   simp only[aqQ,Option.some.injEq] at ap;subst ap;rw[aro,asE,arD,aqt (by omega)]
  | succ i=>
   simp only[aq2] at ap;rw[aro,aqB (by rw[ag,ara]; omega),ag,show (i+1)*z+j - z=i*z+j by rw[ara]; omega];exact aJ (fun e ap=>av e (by simp[ap])) ap
theorem cZ {ae:a2} {i:Nat} {v:U} (h:ae i=v) :bD ae i v=ae:=by
 funext t; simp only[bD]; split<;>simp_all
theorem nA {ae:a2} {cU:Nat} {ff:U} {eA:Nat} {dv:U} (h1:ae cU=ff) (ad:ae eA=dv) :∃ s:a2,ae=bD (bD (s) cU ff) eA dv:=⟨ae,by rw[cZ h1,cZ ad]⟩
theorem lB {ae:a2} {cU:Nat} {ff:U} {eA:Nat} {dv:U} {hf:Nat} {v3:U} (h1:ae cU=ff) (ad:ae eA=dv) (aj:ae hf=v3) :∃ s:a2,ae=bD (bD (bD (s) cU ff) eA dv) hf v3:=⟨ae,by rw[cZ h1,cZ ad,cZ aj]⟩
theorem iq {ae:a2} {cU:Nat} {ff:U} {eA:Nat} {dv:U} {hf:Nat} {v3:U} {iH:Nat} {v4:U} (h1:ae cU=ff) (ad:ae eA=dv) (aj:ae hf=v3) (aC:ae iH=v4) :∃ s:a2,ae=bD (bD (bD (bD (s) cU ff) eA dv) hf v3) iH v4:=⟨ae,by rw[cZ h1,cZ ad,cZ aj,cZ aC]⟩
theorem lC {ae:a2} {cU:Nat} {ff:U} {eA:Nat} {dv:U} {hf:Nat} {v3:U} {iH:Nat} {v4:U} {jJ:Nat} {v5:U} (h1:ae cU=ff) (ad:ae eA=dv) (aj:ae hf=v3) (aC:ae iH=v4) (aZ:ae jJ=v5) :∃ s:a2,ae=bD (bD (bD (bD (bD (s) cU ff) eA dv) hf v3) iH v4) jJ v5:=⟨ae,by rw[cZ h1,cZ ad,cZ aj,cZ aC,cZ aZ]⟩
theorem Af {ae:a2} {cU:Nat} {ff:U} {eA:Nat} {dv:U} {hf:Nat} {v3:U} {iH:Nat} {v4:U} {jJ:Nat} {v5:U} {ll:Nat} {eH:U} (h1:ae cU=ff) (ad:ae eA=dv) (aj:ae hf=v3) (aC:ae iH=v4) (aZ:ae jJ=v5) (bx:ae ll=eH) :∃ s:a2,ae=bD (bD (bD (bD (bD (bD (s) cU ff) eA dv) hf v3) iH v4) jJ v5) ll eH:=⟨ae,by rw[cZ h1,cZ ad,cZ aj,cZ aC,cZ aZ,cZ bx]⟩
theorem VE {ae:a2} {cU:Nat} {ff:U} {eA:Nat} {dv:U} {hf:Nat} {v3:U} {iH:Nat} {v4:U} {jJ:Nat} {v5:U} {ll:Nat} {eH:U} {iI:Nat} {nB:U} (h1:ae cU=ff) (ad:ae eA=dv) (aj:ae hf=v3) (aC:ae iH=v4) (aZ:ae jJ=v5) (bx:ae ll=eH) (de:ae iI=nB) :∃ s:a2,ae=bD (bD (bD (bD (bD (bD (bD (s) cU ff) eA dv) hf v3) iH v4) jJ v5) ll eH) iI nB:=⟨ae,by rw[cZ h1,cZ ad,cZ aj,cZ aC,cZ aZ,cZ bx,cZ de]⟩
theorem VF {ae:a2} {cU:Nat} {ff:U} {eA:Nat} {dv:U} {hf:Nat} {v3:U} {iH:Nat} {v4:U} {jJ:Nat} {v5:U} {ll:Nat} {eH:U} {iI:Nat} {nB:U} {qr:Nat} {jU:U} (h1:ae cU=ff) (ad:ae eA=dv) (aj:ae hf=v3) (aC:ae iH=v4) (aZ:ae jJ=v5) (bx:ae ll=eH) (de:ae iI=nB) (eb:ae qr=jU) :∃ s:a2,ae=bD (bD (bD (bD (bD (bD (bD (bD (s) cU ff) eA dv) hf v3) iH v4) jJ v5) ll eH) iI nB) qr jU:=⟨ae,by rw[cZ h1,cZ ad,cZ aj,cZ aC,cZ aZ,cZ bx,cZ de,cZ eb]⟩
theorem aiW {ae:a2} {cU:Nat} {ff:U} {eA:Nat} {dv:U} {hf:Nat} {v3:U} {iH:Nat} {v4:U} {jJ:Nat} {v5:U} {ll:Nat} {eH:U} {iI:Nat} {nB:U} {qr:Nat} {jU:U} {u3:Nat} {v9:U} (h1:ae cU=ff) (ad:ae eA=dv) (aj:ae hf=v3) (aC:ae iH=v4) (aZ:ae jJ=v5) (bx:ae ll=eH) (de:ae iI=nB) (eb:ae qr=jU) (gk:ae u3=v9) :∃ s:a2,ae=bD (bD (bD (bD (bD (bD (bD (bD (bD (s) cU ff) eA dv) hf v3) iH v4) jJ v5) ll eH) iI nB) qr jU) u3 v9:=⟨ae,by rw[cZ h1,cZ ad,cZ aj,cZ aC,cZ aZ,cZ bx,cZ de,cZ eb,cZ gk]⟩
theorem VD {ae:a2} {cU:Nat} {ff:U} {eA:Nat} {dv:U} {hf:Nat} {v3:U} {iH:Nat} {v4:U} {jJ:Nat} {v5:U} {ll:Nat} {eH:U} {iI:Nat} {nB:U} {qr:Nat} {jU:U} {u3:Nat} {v9:U} {Cf:Nat} {Dg:U} {Cg:Nat} {Dh:U} (h1:ae cU=ff) (ad:ae eA=dv) (aj:ae hf=v3) (aC:ae iH=v4) (aZ:ae jJ=v5) (bx:ae ll=eH) (de:ae iI=nB) (eb:ae qr=jU) (gk:ae u3=v9) (k3:ae Cf=Dg) (sN:ae Cg=Dh) :∃ s:a2,ae=bD (bD (bD (bD (bD (bD (bD (bD (bD (bD (bD (s) cU ff) eA dv) hf v3) iH v4) jJ v5) ll eH) iI nB) qr jU) u3 v9) Cf Dg) Cg Dh:=⟨ae,by rw[cZ h1,cZ ad,cZ aj,cZ aC,cZ aZ,cZ bx,cZ de,cZ eb,cZ gk,cZ k3,cZ sN]⟩
theorem aiV {ae:a2} {cU:Nat} {ff:U} {eA:Nat} {dv:U} {hf:Nat} {v3:U} {iH:Nat} {v4:U} {jJ:Nat} {v5:U} {ll:Nat} {eH:U} {iI:Nat} {nB:U} {qr:Nat} {jU:U} {u3:Nat} {v9:U} {Cf:Nat} {Dg:U} {Cg:Nat} {Dh:U} {SE:Nat} {VG:U} (h1:ae cU=ff) (ad:ae eA=dv) (aj:ae hf=v3) (aC:ae iH=v4) (aZ:ae jJ=v5) (bx:ae ll=eH) (de:ae iI=nB) (eb:ae qr=jU) (gk:ae u3=v9) (k3:ae Cf=Dg) (sN:ae Cg=Dh) (II:ae SE=VG) :∃ s:a2,ae=bD (bD (bD (bD (bD (bD (bD (bD (bD (bD (bD (bD (s) cU ff) eA dv) hf v3) iH v4) jJ v5) ll eH) iI nB) qr jU) u3 v9) Cf Dg) Cg Dh) SE VG:=⟨ae,by rw[cZ h1,cZ ad,cZ aj,cZ aC,cZ aZ,cZ bx,cZ de,cZ eb,cZ gk,cZ k3,cZ sN,cZ II]⟩
section
variable {α:Type}
@[simp] theorem wi (l:am) (z:Nat) (enc:α->List U) (s:ez α) :c8 l z (cy z enc s)=some ((s.l.map enc).flatten,s.l.length) :=by
 cases s<;>simp[cy,c8]
end
theorem ahB {l:am} {b:Nat} {c:bg} (h:l[b]? = some c) :l.set b c=l:=by
 apply arp;intro j;rw[arO];by_cases ai:b=j
 ·subst ai; rw[if_pos rfl,if_pos (fy h)]; exact h.symm
 ·rw[if_neg ai]
theorem W2 {l:am} {z by_ b:Nat} {es xs:List (List U)} {x:U} (af:l[b]? = some (.cells (es.length*z) es.flatten)) (ag:c8 l z x=some (xs.flatten,xs.length)) (av:∀ e∈es,e.length=z) (aE:z≠0) (dz:by_≠0)
  (du:(es.length+xs.length)*by_<=cx) :
  iR l z by_ (.ar z b 0 es.length es.length (es.length*z)) x=some (.ar z b 0 (es++xs).length (es++xs).length ((es++xs).length*z),l.set b (.cells ((es++xs).length*z) (es++xs).flatten)) :=by
 unfold iR;rw[ag];show jx l z by_ _ xs.flatten xs.length=_;unfold jx;cases xs with
 | nil=>simp[ahB af]
 | cons y a1=>
  rw[if_neg (by simp),if_neg (by omega)];simp only[af];rw[if_pos ⟨trivial,trivial,du⟩,if_neg (by simp),if_neg (by omega),if_pos trivial,aqs (by rw[El av]; exact aqv _)];simp only[aqA,arj]
theorem W1 {l:am} {z by_ b n m sz:Nat} {es xs:List (List U)} {x:U} (af:l[b]? = some (.cells sz es.flatten)) (ag:c8 l z x=some (xs.flatten,m)) (aD:es.length=n) (hm:xs.length=m) (al:sz=n*z) (av:∀ e∈es,e.length=z) (aE:z≠0) (dz:by_≠0)
  (du:(n+m)*by_<=cx) :
  iR l z by_ (.ar z b 0 n n sz) x=some (.ar z b 0 (n+m) (n+m) ((n+m)*z),l.set b (.cells ((n+m)*z) (es++xs).flatten)) :=by
 subst aD hm al;rw[W2 af ag av aE dz du];simp only[aqA]
theorem Nl {l:am} {z by_ b m:Nat} {xs:List (List U)} {x:U} (af:l[b]? = some (.cells 0 [])) (ag:c8 l z x=some (xs.flatten,m)) (hm:xs.length=m) (aE:z≠0) (dz:by_≠0) (du:m*by_<=cx) :
  iR l z by_ (.ar z b 0 0 0 0) x=some (.ar z b 0 m m (m*z),l.set b (.cells (m*z) xs.flatten)) :=by
 have:=W1 (es:=[]) (n:=0) (by simpa using af) ag rfl hm (by simp) (by simp) aE dz (by simpa using du);simpa using this
theorem dq.P0 {z b n sz:Nat} {es:List (List U)} {l:am} {K:U->am->Prop} (cap:Nat) (af:l[b]? = some (.cells sz es.flatten)) (aD:es.length=n) (av:∀ e∈es,e.length=z) (h:K (.b0 z es) (l.set b .dead)) :dq (.ar z b 0 n cap sz) l (c:=⟨K⟩) :=by
 have aL:=fy af;have br:(bK (l.set b .dead)).f b=.dead:=by rw[mb,arO,if_pos rfl,if_pos aL]
 refine .inr ⟨_,_,⟨by simp,fun bf=>?_⟩,.ar z b 0 n cap sz es.flatten es (lE.2 af) br aD av (by rw[El av,aD]; omega) (fun i j e c c' ap ai ah=>?_),h⟩
 ·by_cases bO:bf=b
  ·subst bO; exact .inr ⟨sz,es.flatten,lE.2 af,.inl br⟩
  ·left;rw[mb,mb,arO,if_neg (by omega)]
 ·rw[arD,Ek av ap (by rw[<-av e (aqI ap)]; exact (aqr.1 ai).1),ai] at ah;cases ah;exact .same _
theorem eC {cs vs:List U} (h:vs.length=cs.length) :bn cs 0 vs=vs:=by
 simp only[bn,arJ,aru,arD];rw[aq7 (by omega),aqW]
theorem NL (len cap:Nat) (k:IntKind) (i:Int) :gh len cap (some (.int k i)) none none=if 0<=i/\i<=len then some (i.toNat,len,cap) else none:=by
 unfold gh iS;by_cases h:0<=i/\i<=len
 ·simp only[if_pos h]
 ·simp only[if_neg h]
theorem HO (len cap:Nat) (k:IntKind) (i:Int) :gh len cap none (some (.int k i)) none=if 0<=i/\i<=cap then some (0,i.toNat,cap) else none:=by
 unfold gh iS;by_cases h:0<=i/\i<=cap
 ·simp only[if_pos h]
 ·simp only[if_neg h]
theorem Xs (len cap:Nat) (k k' : IntKind) (i j:Int) :gh len cap (some (.int k i)) (some (.int k' j)) none=if 0<=i/\i<=j/\j<=cap then some (i.toNat,j.toNat,cap) else none:=by
 unfold gh iS;by_cases h:0<=j/\j<=cap
 ·simp only[if_pos h];by_cases ad:0<=i/\i<=((j.toNat:Nat) :Int)
  ·simp only[if_pos ad]; rw[if_pos (by omega)]
  ·simp only[if_neg ad]; rw[if_neg (by omega)]
 ·simp only[if_neg h]; rw[if_neg (by omega)]
theorem ahJ {α:Type} {z:Nat} {enc:α->List U} {l:List α} {k:IntKind} {i:Int} (h1:0<=i) (ad:i<=l.length) :gb (.ar z) (cy z enc (some l)) (some (.int k i)) none none=some (cy z enc (some (l.drop i.toNat))) :=by
 have aj:i.toNat<=l.length:=by omega
 simp only[gb,cy,if_true,NL,aqS];rw[if_pos ⟨h1,ad⟩];simp only[aqy,Option.some.injEq,U.b0.injEq,true_and];rw[aqs (by simp),List.map_drop]
theorem ahN {α:Type} {z:Nat} {enc:α->List U} {l:List α} {k:IntKind} {i:Int} (h1:0<=i) (ad:i<=l.length) :gb (.ar z) (cy z enc (some l)) none (some (.int k i)) none=some (cy z enc (some (l.take i.toNat))) :=by
 simp only[gb,cy,if_true,HO,aqS];rw[if_pos ⟨h1,ad⟩];simp only[aqy,Option.some.injEq,U.b0.injEq,true_and,ary,asX];rw[atE]
theorem ahK {α:Type} {z:Nat} {enc:α->List U} {l:List α} {k k' : IntKind} {i j:Int} (aE:0<=i) (h1:i<=j) (ad:j<=l.length) :gb (.ar z) (cy z enc (some l)) (some (.int k i)) (some (.int k' j)) none=some (cy z enc (some ((l.drop i.toNat).take (j.toNat - i.toNat)))) :=by
 simp only[gb,cy,if_true,Xs,aqS];rw[if_pos ⟨aE,h1,ad⟩];simp only[aqy,Option.some.injEq,U.b0.injEq,true_and];rw[atE,List.map_drop]
theorem map_set {α:Type} (l:List α) (k:Nat) (x:α) (enc:α->List U) :(l.map enc).set k (enc x)=(l.set k x).map enc:=by rw[List.map_set]
end

section
variable {P:Program}
def Vi (P:Program) (t:TypeId) :Option (List TypeId) :=match P.underlying t with
 | some (.struct fs)=>some (fs.toList.map (·.type))
 | _=>none
theorem Ad {cs:List U} (h:cG P [] cs) :cs=[] :=by cases h; rfl
theorem vM {t:TypeId} {k:IntKind} {ts:List TypeId} {cs:List U} (aK:P.underlying t=some (.int k)) (h:cG P (t::ts) cs) :∃ n cs',cs=.int k n::cs'/\k.min<=n/\n<=k.max/\cG P ts cs':=by
 cases h
 case int k' n cs' h1 ad og h=>
  rw[aK] at og; cases og; exact⟨_,_,rfl,h1,ad,h⟩
 all_goals (exfalso; simp_all; done)
theorem tJ {t:TypeId} {fs ts:List TypeId} {cs:List U} (aK:Vi P t=some fs) (h:cG P (t::ts) cs) :cG P (fs++ts) cs:=by
 unfold Vi at aK;cases h
 case struct alR og h=>rw[og] at aK; cases aK; exact h
 all_goals (exfalso; simp_all; done)
theorem Vz {t e:TypeId} {n:Nat} {ts:List TypeId} {cs:List U} (aK:P.underlying t=some (.array n e)) (h:cG P (t::ts) cs) :cG P (List.replicate n e++ts) cs:=by
 cases h
 case array eY gH og h=>rw[aK] at og; cases og; exact h
 all_goals (exfalso; simp_all; done)
theorem aiQ {t e:TypeId} {ts:List TypeId} {cs:List U} (aK:P.underlying t=some (.slice e)) (h:cG P (t::ts) cs) :
  ∃ cs',cG P ts cs'/\(cs=.aX::cs'\/∃ es,cs=.b0 (P.cellsOf e) es::cs'/\es.length<=maxLen/\∀ r∈es,cG P [e] r) :=by
 cases h
 case aX eY cs' og h=>exact⟨_,h,.inl rfl⟩
 case ar eY es cs' ak av ap og h=>rw[aK] at og; cases og; exact⟨_,h,.inr ⟨es,rfl,ak,ap⟩⟩
 all_goals (exfalso; simp_all; done)
theorem UQ {α:Type} {enc:α->List U} {Q:α->Prop}:∀ (es:List (List U)),(∀ r∈es,∃ x,r=enc x/\Q x)->∃ xs:List α,es=xs.map enc/\∀ x∈xs,Q x
 | [],_=>⟨[],rfl,fun x ag=>by cases ag⟩
 | r::es,h=>by
  obtain⟨x,rfl,ag⟩:=h r (by simp);obtain⟨xs,rfl,zu⟩:=UQ es (fun r ay=>h r (by simp[ay]));exact⟨x::xs,rfl,fun y aG=>by
   rcases arI.1 aG with rfl | aG
   ·exact ag
   ·exact zu y aG⟩
theorem Df {α:Type} {t e:TypeId} {z:Nat} {enc:α->List U} {Q:α->Prop} {ts:List TypeId} {cs:List U} (aK:P.underlying t=some (.slice e)) (av:P.cellsOf e=z) (ap:∀ r,cG P [e] r->∃ x,r=enc x/\Q x) (h:cG P (t::ts) cs) :
  ∃ (s:ez α) (cs' : List U),cs=cy z enc s::cs'/\s.l.length<=maxLen/\(∀ x∈s.l,Q x)/\cG P ts cs':=by
 obtain⟨cs',h1,rfl | ⟨es,rfl,ak,ay⟩⟩:=aiQ aK h
 ·exact⟨none,cs',rfl,arE _,fun x ag=>(by cases ag),h1⟩
 ·obtain⟨xs,rfl,zu⟩:=UQ (enc:=enc) (Q:=Q) es (fun r ob=>ap r (ay r ob));refine⟨some xs,cs',?_,by simpa using ak,zu,h1⟩;rw[av]; rfl
theorem aiK {t:TypeId} {c:U} (az:dE P t=some true) (h:sk P t c) :∃ cs,c=.aI cs/\cG P [t] cs:=by
 unfold sk at h; rw[az] at h; exact h
theorem aiL {t:TypeId} {c:U} (az:dE P t=some false) (h:sk P t c) :cG P [t] [c] :=by
 unfold sk at h; rw[az] at h; exact h
theorem Vy {t:TypeId} {ts:List TypeId} {cs:List U} (h:lI P (t::ts) cs) :∃ c cs',cs=c::cs'/\sk P t c/\lI P ts cs':=by
 cases h with
 | cons h1 ad=>exact⟨_,_,rfl,h1,ad⟩
theorem aiI {cs:List U} (h:lI P [] cs) :cs=[] :=by cases h; rfl
end

end Go.bJ

namespace Go.bJ
open Go Go.ChangeShapes Go.RowKit
theorem Vu {H:Type} {enc:TypeId × Value->H} {P:Program} (ak:laidOutB P=true) {W sl:World} (af:Below W.heap.size W sl) :∀ {ts:List TypeId} {vs:List Value} {hs:List (DataW H)} {ck:List MemPlace},
  (∀ t∈ts,P.readableRec t=true/\t<P.types.size)->DataW.TrodAll enc P W 0 (fun _=>true) true ts vs hs ck->DataW.TrodAll enc P sl 0 (fun b=>decide (b<W.heap.size)) true ts vs hs ck
 | [],vs,hs,ck,_,h=>by
  obtain⟨rfl,rfl,rfl⟩:=trodAll_nil h;exact trodAll_mk0
 | t::ts,vs,hs,ck,ay,h=>by
  have aL:=h.lt;obtain⟨v,ai9,d,YJ,a,b,rfl,rfl,rfl,h1,ad⟩:=trodAll_cons h;exact⟨a,b,Below.trod ak (ay t (by simp)).1 (ay t (by simp)).2 h1 af (fun x ag=>aL x (by simp[ag])),Vu ak af (fun t aP=>ay t (by simp[aP])) ad,rfl⟩
theorem aeq {P:Program} {G:Nat->U} (mI:P.follows .mixedOrders=true) (k4:∀ g,(G g).closed=true) {f:FuncId} {ts:List TypeId} (D:Nat) (aB:∀ t∈ts,tv P D t=true) (abZ:laidOutB P=true)
  (cj:∀ t∈ts,P.readableRec t=true/\t<P.types.size) (aeo:∀ cs,lI P ts cs->c2 P G f cs [] (c:=⟨fun r _=>r=.bool true⟩))
  {H:Type} {enc:TypeId × Value->H} {W:World} {gN:Nat} {args:Array Value} {hs:List (DataW H)} {ck:List MemPlace} (au:∀ g,e3 W (fun _=>True) (G g) (.pointer (some ⟨g,0,none⟩)))
  (dN:∀ (j:Nat) t v,ts[j]? = some t->args[j]? = some v->Value.okWide P W .any gN t v) (h:DataW.TrodAll enc P W 0 (fun _=>true) true ts args.toList hs ck) :
  Calls P f args W fun e w'=>e=.returned (.bool true)/\Below W.heap.size W w'/\DataW.TrodAll enc P w' 0 (fun b=>decide (b<W.heap.size)) true ts args.toList hs ck:=by
 obtain⟨cs,zj,bc,s9⟩:=Nr (A:=fun _=>True) (fun _=>trivial) aB (fun j t v aP ao=>dN j t v aP (by simpa using ao)) h;exact (aep mI k4 (aeo cs zj) au (by rw[bc]; simp) (fun j c v ah ao=>s9 j c v ah (by simpa using ao))).mono fun e w' ⟨ap,af⟩=>⟨ap,af,Vu abZ af cj h⟩
end Go.bJ

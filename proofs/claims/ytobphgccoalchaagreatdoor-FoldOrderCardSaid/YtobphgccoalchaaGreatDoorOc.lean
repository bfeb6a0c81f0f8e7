/-
  The canonical machine, part Im: maps, strings rune by rune, bytes compared.
-/
import Derived.Test.YtobphgccoalchaaGreatDoorOb
import Derived.Stop.SameAnswer
import Derived.Orders
import Derived.Still
import Derived.Scope
import Derived.LoopN
set_option linter.unusedVariables false
set_option linter.unusedSimpArgs false
set_option linter.unnecessarySimpa false
namespace Go.cb
open Go
section
variable {P:Program} {w:World} {R:Nat->Prop} {B:Nat} {h:aO} {μ:cP}
def ve:U->Value
 | .bool b=>.bool b
 | .int k n=>.int k n
 | .str s=>.string ⟨s.toArray⟩
 | _=>.tuple #[]
def zf:U->Value
 | .aJ cs=>.agg (cs.map ve).toArray
 | c=>ve c
theorem ajg {c:U} {v:Value} (ay:tl c=true) (aq:aP w R h μ c v) :v=ve c:=by
 cases c<;>simp[tl] at ay
 ·cases aq; rfl
 ·cases aq; rfl
 ·cases aq;rename_i bs;show Value.string bs=.string ⟨bs.data.toList.toArray⟩;congr 1
theorem G9 {t:TypeId} {c:U} (aD:k8 P t c=true) :∃ cs m,c=.aJ cs/\rK P 8 t=true/\eo P t=some true/\cB P t=some m/\cs.length=m/\∀ x∈cs,tl x=true:=by
 unfold k8 at aD;split at aD
 ·rename_i cs;simp only[atY] at aD;obtain⟨⟨h1,ad⟩,aj⟩:=aD;split at ad
  ·rename_i m ax ak;exact⟨cs,m,rfl,h1,ax,ak,auP ad,fun x af=>auK.1 aj x af⟩
  ·cases ad
 ·cases aD
theorem Mo {t:TypeId} {c:U} {v:Value} (aD:k8 P t c=true) (aq:aP w R h μ c v) :v=zf c:=by
 obtain⟨cs,m,rfl,_,_,_,_,hint⟩:=G9 aD;cases aq with
 | aJ _ vs al h1 aq=>
  show Value.agg vs=.agg (cs.map ve).toArray;congr 1;apply Array.ext_getElem?;intro j;have af:(cs.map ve).toArray[j]? = (cs[j]?).map ve:=by simp
  rw[af];cases ai:cs[j]? with
  | none=>simp only[Option.map_none]; rw[avv]; rw[al]; exact av9.1 ai
  | some c=>
   have aN:=(atU.1 ai).1;have mo:=aq j c vs[j] ai (avk (by omega));rw[avk (by omega)];simp only[at1,Option.some.injEq];exact ajg (hint c (at3 ai)) mo
theorem aa0 (a:ByteArray) :(a == a)=true:=by
 show (a.data == a.data)=true;exact beq_self_eq_true _
theorem akH {c:U} (n:Nat) (ah:tl c=true) :Instr.sameBits n (ve c) (ve c)=true:=by
 cases c<;>simp[tl] at ah<;>unfold ve Instr.sameBits
 ·simp
 ·simp
 ·exact aa0 _
theorem akG {t:TypeId} {c:U} (n:Nat) (aD:k8 P t c=true) :Instr.sameBits (n+1) (zf c) (zf c)=true:=by
 obtain⟨cs,m,rfl,_,_,_,_,hint⟩:=G9 aD;unfold zf Instr.sameBits;simp only[beq_self_eq_true,auQ,auK];rintro⟨x,y⟩ kE;rw[atZ] at kE;obtain⟨j,ai⟩:=kE;rw[List.getElem?_zip_eq_some] at ai;obtain⟨h1,ad⟩:=ai;rw[h1] at ad; cases ad;simp only[at0,awl] at h1;obtain⟨c,ah,rfl⟩:=h1;exact akH n (hint c (at3 ah))
theorem akB {t:TypeId} {c:U} (aD:k8 P t c=true) :(Instr.keyThatStays (zf c) (zf c)).run P w=.ok (zf c) w:=by
 unfold Instr.keyThatStays;rw[if_pos (akG 9999 aD)];simp
theorem JP {α:Type} {f:α->PUnit->Sem (ForInStep PUnit)}:∀ (l:List α),(∀ x∈l,(f x ⟨⟩).run P w=.ok (.yield ⟨⟩) w)->(forIn l ⟨⟩ f).run P w=.ok ⟨⟩ w
 | [],_=>by simp
 | x::l,aD=>by
  rw[List.forIn_cons];simp only[Sem.run_bind,aD x (by simp),Result.andThen_ok];exact JP l (fun y aA=>aD y (by simp[aA]))
theorem NB (em:Bool) :∀ (d n:Nat) (t:TypeId) (c:U) (v:Value),d<=n->rK P d t=true->aP w R h μ c v->(eo P t=some true->∃ cs m,c=.aJ cs/\cB P t=some m/\cs.length=m)->
  (Instr.checkKey em n t v).run P w=.ok () w
 | 0,_,_,_,_,_,hk,_,_=>by simp[rK] at hk
 | d+1,0,_,_,_,aC,_,_,_=>by omega
 | d+1,n+1,t,c,v,aC,hk,aq,ax=>by
  unfold rK at hk;split at hk
  ·rename_i aL; cases v<;>simp[Instr.checkKey,cA aL]
  ·rename_i aL; cases v<;>simp[Instr.checkKey,cA aL]
  ·rename_i aL; cases v<;>simp[Instr.checkKey,cA aL]
  ·rename_i len e m aL hm;have Kz:eo P t=some true:=by unfold eo; rw[aL]; rfl
   obtain⟨cs,cv,rfl,b5,al⟩:=ax Kz;rw[hm] at b5; cases b5;simp only[atY] at hk;obtain⟨pa,hN⟩:=hk;split at hN
   ·rename_i z a aw KB;simp only[atY] at hN;have dR:=auX hN.1;have uJ:=auX hN.2;obtain⟨vs,rfl,az⟩:=vw aq;unfold Instr.checkKey;simp only[Sem.run_bind,cA aL,Result.andThen_ok];rw[Std.Legacy.Range.forIn_eq_forIn_range'];rw[JP]
    ·simp
    intro i av;have c7:i<len:=by simp[Std.Legacy.Range.size] at av; omega
    have afg:i*z+z<=cs.length:=by
     have:i*z+z<=len*z:=by rw[<-auI]; exact at2 _ c7
     omega
    have ay:∃ c,hU P e cs (i*z)=some c/\(eo P e=some true->∃ cs' cv,c=.aJ cs'/\cB P e=some cv/\cs'.length=cv) :=by
     unfold hU;rw[KB,aw];cases a with
     | true=>exact⟨_,by simp only; rw[if_pos afg],fun _=>⟨_,z,rfl,rfl,by simp; omega⟩⟩
     | false=>exact⟨cs[i*z]'(by omega),by simp only; exact atX (by omega),fun h=>by cases h⟩
    obtain⟨c,ah,KG⟩:=ay;obtain⟨u,aj,aF⟩:=wY (P:=P) ah az;simp only[Sem.run_bind,fG aw,Result.andThen_ok,aj w];rw[NB em d n e c u (by omega) pa aF KG];simp
   ·cases hN
  ·rename_i fs m aL hm;have Kz:eo P t=some true:=by unfold eo; rw[aL]; rfl
   obtain⟨cs,cv,rfl,b5,al⟩:=ax Kz;rw[hm] at b5; cases b5;obtain⟨vs,rfl,az⟩:=vw aq;unfold Instr.checkKey;simp only[Sem.run_bind,cA aL,Result.andThen_ok];rw[<-Array.forIn_toList,JP]
   ·simp
   intro f aD;have Gs:=auK.1 hk f aD;simp only[atY] at Gs;obtain⟨pa,hN⟩:=Gs;split at hN
   ·rename_i z a aw KB;simp only[atY] at hN;have dR:=auX hN.1;have uJ:=auX hN.2;have ay:∃ c,hU P f.type cs f.offset=some c/\(eo P f.type=some true->∃ cs' cv,c=.aJ cs'/\cB P f.type=some cv/\cs'.length=cv) :=by
     unfold hU;rw[KB,aw];cases a with
     | true=>exact⟨_,by simp only; rw[if_pos (by omega)],fun _=>⟨_,z,rfl,rfl,by simp; omega⟩⟩
     | false=>exact⟨cs[f.offset]'(by omega),by simp only; exact atX (by omega),fun h=>by cases h⟩
    obtain⟨c,ah,KG⟩:=ay;obtain⟨u,aj,aF⟩:=wY (P:=P) ah az;have:=NB em d n f.type c u (by omega) pa aF KG;by_cases UJ:f.name= "_"
    ·simp[UJ]
    ·simp[UJ,aj w,this]
   ·cases hN
  ·cases hk
theorem XV {t:TypeId} {c:U} {v:Value} (em:Bool) (aD:k8 P t c=true) (aq:aP w R h μ c v) :(Instr.checkKey em 10000 t v).run P w=.ok () w:=by
 obtain⟨cs,m,rfl,h1,ad,aj,aF,_⟩:=G9 aD;exact NB em 8 10000 t _ v (by omega) h1 aq (fun _=>⟨cs,m,rfl,aj,aF⟩)
def tF (w:World) (R:Nat->Prop) (h:aO) (μ:cP) (es:List (U × U × Nat)) (du:List MapEntry) :Prop:=
 du.length=es.length/\∀ (j:Nat) (k v:U) (b:Nat),es[j]? = some (k,v,b)->∃ x:MapEntry,du[j]? = some x/\aP w R h μ k x.key/\aP w R h μ v x.val/\x.born=b
def OI (w:World) (R:Nat->Prop) (h:aO) (μ:cP) (k:U) (du:List MapEntry) (i:Nat) :Option (Nat × U)->Option (Nat × Value)->Prop
 | none,r=>r=none
 | some (j,v),r=>∃ pF,r=some (j,pF)/\aP w R h μ v pF/\i<=j/\∃ x,du[j - i]? = some x/\x.val=pF/\aP w R h μ k x.key
theorem ab8 {es:List (U × U × Nat)} {e:U × U × Nat} {x:MapEntry} {du:List MapEntry} (az:tF w R h μ (e::es) (x::du)) :tF w R h μ es du:=
 ⟨by have:=az.1; simp at this; exact this,fun j k v b ai=>az.2 (j+1) k v b (by simpa using ai)⟩
theorem ab7 {es:List (U × U × Nat)} {k v:U} {b:Nat} {x:MapEntry} {du:List MapEntry} (az:tF w R h μ ((k,v,b) ::es) (x::du)) :aP w R h μ k x.key/\aP w R h μ v x.val/\x.born=b:=by
 obtain⟨y,h1,ad⟩:=az.2 0 k v b rfl;simp at h1; subst h1; exact ad
theorem Su {cU:TypeId} {k:U} {hR:Value} (hk:aP w R h μ k hR) :∀ (es:List (U × U × Nat)) (du:List MapEntry) (i:Nat) (r:Option (Nat × U)),tF w R h μ es du->jK P cU k es i=some r->
  ∃ ct,(Instr.findAsking cU hR du i).run P w=.ok ct w/\OI w R h μ k du i r ct
 | [],du,i,r,az,aD=>by
  have:du=[] :=auE.1 az.1;subst this;simp only[jK,Option.some.injEq] at aD; subst aD;exact⟨none,by simp[Instr.findAsking],rfl⟩
 | (k',v,b) ::es,[],i,r,az,aD=>by have:=az.1; simp at this
 | (k',v,b) ::es,x::du,i,r,az,aD=>by
  obtain⟨h1,ad,aj⟩:=ab7 az;simp only[jK] at aD;split at aD
  ·cases aD
  rename_i er;split at aD
  ·rename_i heq;split at aD
   ·rename_i ael;simp only[Option.some.injEq] at aD; subst aD;have ho:=JG (P:=P) 10000 cU k k' true hR x.key heq hk h1;refine⟨some (i,x.val),?_,x.val,rfl,ad,atW _,x,by simp,rfl,?_⟩
    ·simp only[Instr.findAsking,Op.equal,Op.maxDepth,Sem.run_bind];rw[ho]; simp
    ·rw[U.beq_eq ael]; exact h1
   ·cases aD
  ·rename_i heq;have ho:=JG (P:=P) 10000 cU k k' false hR x.key heq hk h1;obtain⟨ct,aF,aU⟩:=Su hk es du (i+1) r (ab8 az) aD;refine⟨ct,?_,?_⟩
   ·simp only[Instr.findAsking,Op.equal,Op.maxDepth,Sem.run_bind];rw[ho]; simpa using aF
   ·cases r with
    | none=>exact aU
    | some wI=>
     obtain⟨pF,bt,c8,ed,y,eG,mc,ul⟩:=aU;exact⟨pF,bt,c8,by omega,y,by rw[show wI.1 - i=(wI.1 - (i+1))+1 by omega]; simpa using eG,mc,ul⟩
  ·cases aD
theorem XX {cU:TypeId} {k:U} {hR:Value} (hk:aP w R h μ k hR) (aD:k8 P cU k=true) {es:List (U × U × Nat)} {du:List MapEntry} {r:Option (Nat × U)} (az:tF w R h μ es du) (KP:jK P cU k es 0=some r) :
  ∃ ct,(Instr.findKey cU hR du).run P w=.ok ct w/\OI w R h μ k du 0 r ct:=by
 obtain⟨ct,h1,ad⟩:=Su hk es du 0 r az KP;refine⟨ct,?_,ad⟩;obtain⟨cs,m,rfl,aj,aF,_⟩:=G9 aD;unfold eo at aF;cases aL:P.underlying cU with
 | none=>rw[aL] at aF; cases aF
 | some d=>
  rw[aL] at aF;unfold Instr.findKey;simp only[Sem.run_bind,cA aL,Result.andThen_ok];cases du with
  | nil=>simpa [Instr.findNow,Instr.findAsking] using h1
  | cons x du=>
   have aC:Instr.findNow d hR (x::du) 0=none:=by
    cases d<;>simp at aF<;>simp[Instr.findNow,Instr.sameNow]
   rw[aC];exact h1
theorem aio (rel:b9 R B w h μ) {m:U} {gd:Value} {es:List (U × U × Nat)} (hm:mapOf h m=some es) (aq:aP w R h μ m gd) :
  (gd=.map none/\es=[])\/∃ b cj eN du,m=.mp b/\h.f b=.map es eN/\μ b=some cj/\gd=.map (some cj.r)/\w.heap[cj.r]? = some (.map du eN)/\tF w R h μ es du.toList:=by
 cases m<;>simp[mapOf] at hm
 ·subst hm; cases aq; exact .inl ⟨rfl,rfl⟩
 ·rename_i b;cases aq with
  | mp _ cj ag iF=>
   cases ah:h.f b<;>rw[ah] at hm<;>simp at hm;rename_i ao8 eN;subst hm;have hblk:=rel.blk b cj iF;rw[ah] at hblk;obtain⟨du,h1,ad,aj⟩:=hblk;refine .inr ⟨b,cj,eN,du,rfl,ah,iF,rfl,h1,by simpa using ad,fun j k v br ai=>?_⟩;obtain⟨x,aF,aU⟩:=aj j k v br ai;exact⟨x,by simpa using aF,aU⟩
theorem NC {r:Nat} {es:Array MapEntry} {eN:Nat} (ag:w.heap[r]? = some (.map es eN)) :(getObj r).run P w=.ok (.map es eN) w:=by simp[getObj,Sem.run,ag]
theorem XY {r:Nat} {s:ByteArray} {pos:Nat} (ag:w.heap[r]? = some (.stringIter s pos)) :(getObj r).run P w=.ok (.stringIter s pos) w:=by simp[getObj,Sem.run,ag]
theorem Zl {t:TypeId} {z:U} (aw:zo P t=some z) :∃ v,(zeroValue t).run P w=.ok v w/\aP w R h μ z v:=by
 unfold zo at aw;cases av:P.info? t with
 | none=>rw[av] at aw; cases aw
 | some i=>
  rw[av] at aw;simp only[avy] at aw;cases aq:i.zero with
  | none=>rw[aq] at aw; cases aw
  | some v=>
   rw[aq] at aw;simp only[at1,Option.some.injEq] at aw; subst aw;exact⟨v,X0 av aq,.wU v⟩
theorem aP.YQ {a b:U} {ie fl:Value} (ax:aP w R h μ a ie) (ag:aP w R h μ b fl) :aP w R h μ (.bE [a,b]) (.tuple #[ie,fl]) :=by
 refine .bE _ _ rfl fun j c v ah aq=>?_
 rcases j with _ | _ | j
 ·simp at ah aq; subst ah aq; exact ax
 ·simp at ah aq; subst ah aq; exact ag
 ·simp at ah
theorem aif (rel:b9 R B w h μ) {t:TypeId} {m k c:U} {gd hR:Value} {ok:Bool} (al:Hg P h t m k ok=some c) (hm:aP w R h μ m gd) (hk:aP w R h μ k hR) :
  ∃ v,(Instr.lookup t gd hR ok).run P w=.ok v w/\aP w R h μ c v:=by
 unfold Hg at al;split at al
 ·rename_i cU mI es aL sP;split at al
  ·cases al
  ·rename_i er;have abH:∀ du:List MapEntry,tF w R h μ es du->∃ ct,(Instr.findKey cU hR du).run P w=.ok ct w ∧
     ((∃ i v,ct=some (i,v)/\∃ ub,aP w R h μ ub v/\c=if ok then .bE [ub,.bool true] else ub)\/(ct=none/\∃ z,zo P mI=some z/\c=if ok then .bE [z,.bool false] else z)) :=by
    intro du az;cases lB:jK P cU k es 0 with
    | none=>rw[lB] at al; cases al
    | some r=>
     obtain⟨ct,h1,ad⟩:=XX hk er az lB;rw[lB] at al;refine⟨ct,h1,?_⟩;cases r with
     | none=>
      cases ad;simp only at al;cases aw:zo P mI with
      | none=>rw[aw] at al; cases al
      | some z=>
       rw[aw] at al;simp only[at1,Option.some.injEq] at al;exact .inr ⟨rfl,z,rfl,al.symm⟩
     | some wI=>
      obtain⟨pF,rfl,aF,_⟩:=ad;simp only[Option.some.injEq] at al;exact .inl ⟨_,pF,rfl,_,aF,al.symm⟩
   have fin:∀ (du:List MapEntry) (em:Bool),tF w R h μ es du->∀ m:Sem Value,m.run P w=(((Instr.checkKey em 10000 cU hR).bind fun _=>(Instr.findKey cU hR du).bind fun r=>match r with
     | some (_,v)=>pure (if ok=true then .tuple #[v,.bool true] else v)
     | none=>(zeroValue mI).bind fun z=>pure (if ok=true then .tuple #[z,.bool false] else z)) :Sem Value).run P w->∃ v,m.run P w=.ok v w/\aP w R h μ c v:=by
    intro du em az m hm;obtain⟨ct,h1,ad⟩:=abH du az;have F8:∀ {α jY:Type} (a:Sem α) (f:α->Sem jY),a.bind f=a >>= f:=fun _ _=>rfl
    simp only[F8,Sem.run_bind,XV em er hk,Result.andThen_ok,h1] at hm;rcases ad with ⟨i,v,rfl,ub,aj,rfl⟩ | ⟨rfl,z,aj,rfl⟩
    ·simp only at hm;cases ok
     ·exact⟨v,by simpa using hm,aj⟩
     ·exact⟨.tuple #[v,.bool true],by simpa using hm,aP.YQ aj (.bool _)⟩
    ·obtain⟨v,aF,aU⟩:=Zl (w:=w) (R:=R) (h:=h) (μ:=μ) aj;simp only[Sem.run_bind,aF,Result.andThen_ok] at hm;cases ok
     ·exact⟨v,by simpa using hm,aU⟩
     ·exact⟨.tuple #[v,.bool false],by simpa using hm,aP.YQ aU (.bool _)⟩
   have F8:∀ {α jY:Type} (a:Sem α) (f:α->Sem jY),a.bind f=a >>= f:=fun _ _=>rfl
   rcases aio rel sP hm with ⟨rfl,rfl⟩ | ⟨b,cj,eN,du,rfl,ag,iF,rfl,ke,az⟩
   ·refine fin [] true ⟨rfl,fun j k v b ai=>by simp at ai⟩ _ ?_;unfold Instr.lookup;simp only[F8,Sem.run_bind,cA aL,Result.andThen_ok,Sem.run_pure];cases dh:(Instr.checkKey true 10000 cU hR).run P w with
    | halt a b=>simp[dh]
    | ok a b1=>
     simp[dh];cases aeV:(Instr.findKey cU hR []).run P b1 with
     | halt a b=>simp
     | ok r w2=>
      simp;cases r with
      | none=>cases (zeroValue mI).run P w2<;>simp
      | some x=>simp
   ·refine fin du.toList du.isEmpty az _ ?_;unfold Instr.lookup;simp only[F8,Sem.run_bind,cA aL,Result.andThen_ok,Sem.run_pure,NC ke];cases dh:(Instr.checkKey du.isEmpty 10000 cU hR).run P w with
    | halt a b=>simp[dh]
    | ok a b1=>
     simp[dh];cases aeV:(Instr.findKey cU hR du.toList).run P b1 with
     | halt a b=>simp
     | ok r w2=>
      simp;cases r with
      | none=>cases (zeroValue mI).run P w2<;>simp
      | some x=>simp
 ·cases al
theorem ah5 (rel:b9 R B w h μ) {t ty:TypeId} {x c:U} {bI:Value} (ah:yQ P h t x=some c) (af:aP w R h μ x bI) :∃ v,(Builtin.len_ #[t] ty #[bI]).run P w=.ok v w/\aP w R h μ c v:=by
 unfold yQ at ah;split at ah
 ·rename_i cU mI b aL;split at ah
  ·rename_i es eN ag;simp only[Option.some.injEq] at ah; subst ah;cases af with
   | mp _ cj hk iF=>
    have hblk:=rel.blk b cj iF;rw[ag] at hblk;obtain⟨du,h1,ad,aj⟩:=hblk;exact⟨.int .i64 du.size,by simp[Builtin.len_,cA aL,NC h1,goInt],by rw[ad]; exact .int _ _⟩
  ·cases ah
 ·cases ah
theorem aim (rel:b9 R B w h μ) {t:TypeId} {r:Option Value} (aL:∃ k e,P.underlying t=some (.map k e)) (az:∀ x,r=some x->∃ k n,x=.int k n) :∃ v w' μ',(Instr.makeMap t r).run P w=.ok v w'/\dL w h μ w' (h.push (.map [] 0)) μ'/\b9 R B w' (h.push (.map [] 0)) μ'/\aP w' R (h.push (.map [] 0)) μ' (.mp h.n) v:=by
 have:=rel.W9 (w':=w.alloc (.map #[] 0)) (.map [] 0) (.map #[] 0) (k:=0) rfl rfl rfl rfl rfl ⟨#[],by show (w.heap.push _)[w.heap.size]? = _; simp,rfl,fun j k v b ai=>by simp at ai⟩;refine⟨.map (some w.heap.size),w.alloc (.map #[] 0),_,?_,this.1,this.2,?_⟩
 ·obtain⟨k,e,aL⟩:=aL;cases r with
  | none=>simp[Instr.makeMap,newObj,Sem.run]
  | some x=>
   obtain⟨k',n,rfl⟩:=az x rfl;simp[Instr.makeMap,newObj,Sem.run,cA aL,Go.asInt,Go.asIntOf]
 ·exact .mp h.n ⟨w.heap.size,0,0⟩ (by simp[ev,ou]) (by simp)
theorem Wd (rel:b9 R B w h μ) {t:TypeId} {m k x:U} {gd hR bI:Value} {h' : aO} (om:yU P h t m k x=some h') (hm:aP w R h μ m gd) (hk:aP w R h μ k hR) (af:aP w R h μ x bI) :
  ∃ w',(Instr.mapUpdate t gd hR bI).run P w=.ok () w'/\dL w h μ w' h' μ/\b9 R B w' h' μ:=by
 unfold yU at om;split at om
 ·rename_i cU mI b aL;split at om
  ·rename_i es eN ag;split at om
   ·cases om
   ·rename_i er;cases hm with
    | mp _ cj yl iF=>
     have hblk:=rel.blk b cj iF;rw[ag] at hblk;obtain⟨du,h1,ad,aj⟩:=hblk;have aN:cj.r<w.heap.size:=by
      rcases au9 cj.r w.heap.size with h | h
      ·exact h
      ·rw[avv h] at h1; cases h1
     have az:tF w R h μ es du.toList:=⟨by simpa using ad,fun j k v br ai=>by obtain⟨y,aF,aU⟩:=aj j k v br ai; exact⟨y,by simpa using aF,aU⟩⟩
     have mn:∀ o:Obj,(setObj cj.r o).run P w=.ok () { w with heap:=w.heap.setIfInBounds cj.r o }:=fun o=>by simp[setObj,Sem.run,h1]
     have kh:∀ (xP:List (U × U × Nat)) (zU:Array MapEntry) (B7:Nat),(∀ {w2:World} {ad:aO},Ext0 w h μ w2 ad μ->zU.size=xP.length/\∀ (j:Nat) (k v:U) (b:Nat),xP[j]? = some (k,v,b)->∃ x:MapEntry,zU[j]? = some x/\aP w2 R ad μ k x.key/\aP w2 R ad μ v x.val/\x.born=b)->
       dL w h μ { w with heap:=w.heap.setIfInBounds cj.r (.map zU B7) } (h.set b (.map xP B7)) μ/\b9 R B { w with heap:=w.heap.setIfInBounds cj.r (.map zU B7) } (h.set b (.map xP B7)) μ:=by
      intro xP zU B7 aZ;refine rel.eL (k:=0) ag rfl rfl iF rfl rfl rfl (by simp) (fun k hk=>?_) (fun e=>?_)
      ·simp only; rw[ave]; rw[if_neg (fun aG=>hk aG.symm)]
      ·obtain⟨q1,ff⟩:=aZ e;exact⟨zU,by simp only; rw[ave]; simp[aN],q1,ff⟩
     unfold Instr.mapUpdate;simp only[Sem.run_bind,cA aL,Result.andThen_ok,NC h1,XV false er hk];cases lB:jK P cU k es 0 with
     | none=>rw[lB] at om; cases om
     | some r=>
      rw[lB] at om;obtain⟨ct,aF,aU⟩:=XX hk er az lB;rw[aF];cases r with
      | none=>
       cases aU;simp only[Option.some.injEq] at om; subst om;have:=kh (es++[(k,x,eN)]) (du.push { key:=hR,val:=bI,born:=eN }) (eN+1) (fun e=>⟨by simp[ad],fun j k' aY br ai=>?_⟩)
       ·exact⟨_,by simp only[Result.andThen_ok]; rw[mn],this⟩
       ·rw[Array.getElem?_push];by_cases eX:j<es.length
        ·rw[atV eX] at ai;obtain⟨y,bt,c8,ed,eG⟩:=aj j k' aY br ai;exact⟨y,by rw[if_neg (by omega)]; exact bt,c8.nv e,ed.nv e,eG⟩
        ·rw[at8 (by omega)] at ai;have KY:j - es.length=0:=by
          rcases Nat.eq_zero_or_pos (j - es.length) with h | h
          ·exact h
          ·rw[at6 (by simp; omega)] at ai; cases ai
         rw[KY] at ai;simp at ai;obtain⟨rfl,rfl,rfl⟩:=ai;exact⟨_,by rw[if_pos (by omega)],hk.nv e,af.nv e,rfl⟩
      | some wI=>
       obtain⟨i,v⟩:=wI;obtain⟨pF,rfl,bt,_,y,c8,ed,eG⟩:=aU;simp only[Option.some.injEq] at om; subst om;have nw:du[i]? = some y:=by simpa using c8
       have aQ:y.key=hR:=by rw[Mo er eG,Mo er hk]
       have sN:(Instr.keyThatStays (((du[i]?).map (·.key)).getD hR) hR).run P w=.ok hR w:=by
        rw[nw];simp only[at1,auJ,aQ];rw[Mo er hk];exact akB er
       have:=kh (es.modify i fun e=>(k,x,e.2.2)) (du.modify i fun e=>{ e with key:=hR,val:=bI }) eN (fun e=>⟨by simp[ad],fun j k' aY br ai=>?_⟩)
       ·refine⟨_,?_,this⟩;simp only[Result.andThen_ok,Sem.run_bind,sN];rw[mn]
       ·rw[List.getElem?_modify] at ai;rw[avZ];cases nC:es[j]? with
        | none=>rw[nC] at ai; simp at ai
        | some hM=>
         obtain⟨gT,v0,hf⟩:=hM;rw[nC] at ai;obtain⟨EK,mc,ul,J9,Tc⟩:=aj j gT v0 hf nC;rw[mc];by_cases hi:i=j
         ·simp[hi] at ai;obtain⟨rfl,rfl,rfl⟩:=ai;exact⟨{ EK with key:=hR,val:=bI },by simp[hi],hk.nv e,af.nv e,Tc⟩
         ·simp[hi] at ai;obtain⟨rfl,rfl,rfl⟩:=ai;exact⟨EK,by simp[hi],ul.nv e,J9.nv e,Tc⟩
  ·cases om
 ·cases om
theorem aj0 (rel:b9 R B w h μ) {t:TypeId} {x c:U} {bI:Value} {h' : aO} (az:HR P h t x=some (c,h')) (af:aP w R h μ x bI) :
  ∃ v w' μ',(Instr.range t bI).run P w=.ok v w'/\dL w h μ w' h' μ'/\b9 R B w' h' μ'/\aP w' R h' μ' c v:=by
 unfold HR at az;split at az
 ·rename_i s aL;simp only[Option.some.injEq,Prod.mk.injEq] at az;obtain⟨rfl,rfl⟩:=az;cases af;rename_i bs;have:=rel.W9 (w':=w.alloc (.stringIter bs 0)) (.iter bs.data.toList 0) (.stringIter bs 0) (k:=1) rfl rfl rfl rfl rfl ⟨bs,rfl,by show (w.heap.push _)[w.heap.size]? = _; simp⟩;refine⟨.pointer (some ⟨w.heap.size,0,none⟩),w.alloc (.stringIter bs 0),_,?_,this.1,this.2,?_⟩
  ·simp[Instr.range,cA aL,newObj,Sem.run]
  ·exact .it h.n ⟨w.heap.size,0,0⟩ (by simp[ev,ou]) (by simp)
 ·cases az
theorem aiy (rel:b9 R B w h μ) {x c:U} {bI:Value} {h' : aO} {ty:TypeId} (az:AY h x=some (c,h')) (af:aP w R h μ x bI) :
  ∃ v w',(Instr.next bI true ty).run P w=.ok v w'/\dL w h μ w' h' μ/\b9 R B w' h' μ/\aP w' R h' μ c v:=by
 unfold AY at az;split at az
 ·rename_i b;split at az
  ·rename_i s pos ag;cases af with
   | it _ cj yl iF=>
    have hblk:=rel.blk b cj iF;rw[ag] at hblk;obtain⟨bs,rfl,h1⟩:=hblk;have aN:cj.r<w.heap.size:=by
     rcases au9 cj.r w.heap.size with h | h
     ·exact h
     ·rw[avv h] at h1; cases h1
    have p9:(⟨bs.data.toList.toArray⟩:ByteArray)=bs:=by cases bs; simp
    have g5:bs.data.toList.length=bs.size:=by rw[avO]; rfl
    rw[p9] at az;split at az
    ·rename_i ql;have ay:pos<bs.size:=by rw[<-g5]; rw[axb] at ql; exact ql
     simp only[Option.some.injEq,Prod.mk.injEq] at az;obtain⟨rfl,rfl⟩:=az;have:=rel.eL (w':={ w with heap:=w.heap.setIfInBounds cj.r (.stringIter bs (pos+(Utf8.decode bs pos).2)) }) (k:=1) (c':=.iter bs.data.toList (pos+(Utf8.decode bs pos).2)) ag rfl rfl iF rfl rfl rfl (by simp)
      (fun k hk=>by simp only; rw[ave]; rw[if_neg (fun aG=>hk aG.symm)]) (fun e=>⟨bs,rfl,by simp only; rw[ave]; simp[aN]⟩)
     refine⟨.tuple #[.bool true,.int .i64 pos,.int .i32 (Utf8.decode bs pos).1],_,?_,this.1,this.2,?_⟩
     ·simp only[Instr.next,Sem.run_bind,XY h1,Result.andThen_ok,if_pos ay];simp[setObj,Sem.run,h1,goInt]
     ·refine .bE _ _ rfl fun j c v ah aq=>?_
      rcases j with _ | _ | _ | j
      ·simp at ah aq; subst ah aq; exact .bool _
      ·simp at ah aq; subst ah aq; exact .int _ _
      ·simp at ah aq; subst ah aq; exact .int _ _
      ·simp at ah
    ·rename_i ql;have ay:¬ pos<bs.size:=by
      rw[<-g5]; intro aG;rw[<-axb] at aG; rw[aG] at ql; cases ql
     simp only[Option.some.injEq,Prod.mk.injEq] at az;obtain⟨rfl,rfl⟩:=az;refine⟨.tuple #[.bool false],w,?_,.refl _ _ _,rel,?_⟩
     ·simp only[Instr.next,Sem.run_bind,XY h1,Result.andThen_ok,if_neg ay];simp
     ·refine .bE _ _ rfl fun j c v ah aq=>?_
      rcases j with _ | j
      ·simp at ah aq; subst ah aq; exact .bool _
      ·simp at ah
  ·cases az
 ·cases az
theorem XW {blk:Nat}:∀ (n:Nat) (o:Nat) (ns:List Int) (acc:ByteArray),ns.length=n->(∀ j v,(ns.map (Value.int .u8))[j]? = some v->(load (⟨blk,o+j,none⟩:Addr)).run P w=.ok v w)->
  ∃ bs,(Extern.Bytes.loadBytes ⟨blk,o,none⟩ n acc).run P w=.ok bs w/\bs.data.toList=acc.data.toList++ns.map fun n=>UInt8.ofNat n.toNat
 | 0,o,ns,acc,al,_=>⟨acc,by simp[Extern.Bytes.loadBytes],by rw[auE.1 al]; simp⟩
 | n+1,o,[],acc,al,_=>by simp at al
 | n+1,o,x::ns,acc,al,h=>by
  have aE:=h 0 _ rfl;obtain⟨bs,h1,ad⟩:=XW n (o+1) ns (acc.push (UInt8.ofNat x.toNat)) (by simpa using al) (fun j v ai=>by
   have:=h (j+1) v (by simpa using ai);rw[show o+(j+1)=o+1+j by omega] at this;exact this)
  refine⟨bs,?_,?_⟩
  ·unfold Extern.Bytes.loadBytes;rw[awt] at aE;simp only[Sem.run_bind,aE,Result.andThen_ok,Addr.mF];exact h1
  ·rw[ad]; simp
theorem PA (rel:b9 R B w h μ) {x:U} {bI:Value} {l:List UInt8} (ag:sp h x=some l) (af:aP w R h μ x bI) :∃ bs,(Extern.Bytes.bytesOf bI).run P w=.ok bs w/\bs.data.toList=l:=by
 unfold sp at ag;split at ag
 ·simp only[Option.some.injEq] at ag; subst ag;cases af with
  | str bs=>exact⟨bs,by simp[Extern.Bytes.bytesOf],rfl⟩
 ·rename_i sR;split at ag
  ·rename_i cs n cD;obtain⟨bf,bl,vs,cE,lB⟩:=vS (P:=P) rel cD af;have aD:=lB n (atW _) w (fun _=>rfl);obtain⟨ns,rfl,rfl⟩:=Jd cs vs l ag cE.1 cE.2;have nH:ns.length=n:=by have:=cE.1; simp at this; omega
   have Dl:(ns.map (Value.int .u8)).take (n*1)=ns.map (Value.int .u8) :=atT (by simp; omega);rw[Dl] at aD;have KQ:∃ a len cap,bI=.slice a len cap:=by
    cases af<;>first | exact⟨_,_,_,rfl⟩ | (simp[contents] at cD; done) | (exact absurd rfl (sR _))
   obtain⟨a,len,cap,rfl⟩:=KQ;simp only[Builtin.lenOf,Sem.run_pure,Result.ok.injEq] at bl;obtain⟨rfl,_⟩:=bl;cases a with
   | none=>
    simp only[Builtin.firstCells,Sem.run_pure,Result.ok.injEq] at aD;have mT:ns=[] :=by
     have:=congrArg Array.toList aD.1;simpa using this.symm
    subst mT;exact⟨.empty,by simp[Extern.Bytes.bytesOf],rfl⟩
   | some a=>
    by_cases rv:len=0
    ·subst rv;have:ns=[] :=auE.1 nH;subst this;exact⟨.empty,by simp[Extern.Bytes.bytesOf,Extern.Bytes.loadBytes],rfl⟩
    have ax:∃ blk o,a=⟨blk,o,none⟩:=by
     cases af with
     | au=>exact⟨_,_,rfl⟩
     | bR=>exact⟨_,_,rfl⟩
     | fO=>exact absurd rfl rv
     | hV=>exact absurd rfl rv
     | bad=>simp[contents] at cD
     | gH _ _ _ _ _ _ _ _ h1 ad ar=>
      exfalso;simp only[contents] at cD;rcases ar with ar | ⟨n,hB,ar,aN⟩
      ·rw[ar] at cD; cases cD
      ·rw[ar] at cD;simp only at cD;split at cD
       ·rename_i aG; omega
       ·cases cD
    obtain⟨blk,o,rfl⟩:=ax;simp only[Builtin.firstCells,avo] at aD;unfold loadCells at aD;obtain⟨l,h1,ad,aj⟩:=loadCellsFrom_ok _ _ _ _ _ _ aD;have aF:l=ns.map (Value.int .u8) :=by
     have:=congrArg Array.toList ad;simpa using this.symm
    subst aF;obtain⟨bs,aU,bt⟩:=XW (P:=P) (w:=w) (blk:=blk) len o ns .empty nH (fun j v ai=>by
     have:=aj j v ai;rw[Addr.mF,avi] at this;exact this)
    exact⟨bs,by simpa [Extern.Bytes.bytesOf] using aU,by rw[bt]; rfl⟩
  ·cases ag
theorem RS:∀ (a b:List UInt8),(match (List.range (min a.length b.length)).find? fun i=>a.getD i 0 != b.getD i 0 with
  | some i=>if a.getD i 0<b.getD i 0 then (-1:Int) else 1
  | none=>if a.length<b.length then -1 else if a.length > b.length then 1 else 0)=n5 a b
 | [],[]=>by simp[n5]
 | [],_::_=>by simp[n5]
 | _::_,[]=>by simp[n5]
 | x::a,y::b=>by
  have aI:=RS a b;simp only[auf,Nat.add_min_add_right,List.range_succ_eq_map,awu,List.getD_cons_zero];by_cases kE:x=y
  ·subst kE;simp only[bne_self_eq_false,n5,if_true];rw[<-aI,List.find?_map];have Ao:((fun i=>(x::a).getD i 0 != (x::b).getD i 0) ∘ Nat.succ)=fun i=>a.getD i 0 != b.getD i 0:=by
    funext i; simp
   rw[Ao];cases aD:(List.range (min a.length b.length)).find? fun i=>a.getD i 0 != b.getD i 0 with
   | none=>simp only[Option.map_none]; congr 1<;>simp
   | some i=>simp
  ·have bz:(x != y)=true:=by simp[kE]
   simp only[bz,n5,if_neg kE,List.getD_cons_zero]
theorem Sw {α:Type} {p q:α->Bool}:∀ (l:List α),(∀ x∈l,p x=q x)->l.find? p=l.find? q
 | [],_=>rfl
 | x::l,h=>by
  rw[awu,awu,h x (by simp),Sw l (fun y aA=>h y (by simp[aA]))]
theorem zL (a b:ByteArray) :Extern.BytealgCompare.cmp a b=n5 a.data.toList b.data.toList:=by
 rw[<-RS];unfold Extern.BytealgCompare.cmp;have ar:∀ (a:ByteArray) (i:Nat),i<a.size->a[i]! = a.data.toList.getD i 0:=fun a i av=>by
  simp only[aug,avH];rw[getElem!_pos a i av];have:i<a.data.size:=av;rw[avk this]; rfl
 have al:∀ a:ByteArray,a.data.toList.length=a.size:=fun a=>by rw[avO]; rfl
 rw[al,al];have KP:(List.range (min a.size b.size)).find? (fun i=>a[i]! != b[i]!)=(List.range (min a.size b.size)).find? (fun i=>a.data.toList.getD i 0 != b.data.toList.getD i 0) :=by
  apply Sw;intro i av;have:=aux.1 av;rw[ar a i (by omega),ar b i (by omega)]
 rw[KP];cases aD:(List.range (min a.size b.size)).find? (fun i=>a.data.toList.getD i 0 != b.data.toList.getD i 0) with
 | none=>rfl
 | some i=>
  have:=aux.1 (awO aD);simp only;rw[ar a i (by omega),ar b i (by omega)]
theorem acK {fn:Func} (aC:fn.name= "internal/bytealg.Compare") (ap:fn.origin= ""\/fn.origin= "internal/bytealg.Compare") :Extern.find fn=some Extern.BytealgCompare.compare/\Extern.findNext fn=none:=by
 constructor
 ·unfold Extern.find;simp only[aC];rfl
 ·unfold Extern.findNext;simp only[aC];rcases ap with ap | ap<;>rw[ap]<;>rfl
theorem acq (rel:b9 R B w h μ) {f:FuncId} {fn:Func} {args:List U} {vs:Array Value} {c:U} (aD:P.funcs[f]? = some fn) (av:Dw fn=true) (ah:Cc h args=some c)
  (al:vs.size=args.length) (aq:∀ (j:Nat) (c:U) (v:Value),args[j]? = some c->vs[j]? = some v->aP w R h μ c v) :
  ∃ v,(callFunc f vs).run P w=.ok (.value v) w/\aP w R h μ c v:=by
 unfold Dw at av;simp only[atY,avT,beq_iff_eq] at av;obtain⟨⟨ag,aC⟩,ap⟩:=av;unfold Cc at ah;split at ah
 ·rename_i x y;split at ah
  ·rename_i a b ax bL;simp only[Option.some.injEq] at ah; subst ah;simp only[auf,auy] at al;have mT:vs=#[vs[0],vs[1]] :=by
    apply Array.ext
    ·simpa using al
    ·intro i h1 ad;rcases (show i=0\/i=1 by simp at ad; omega) with rfl | rfl<;>rfl
   obtain⟨ba,h1,ad⟩:=PA (P:=P) rel ax (aq 0 x vs[0] rfl (by simp[al]));obtain⟨bb,aj,aF⟩:=PA (P:=P) rel bL (aq 1 y vs[1] rfl (by simp[al]));obtain⟨aQ,bF⟩:=acK aC ap;refine⟨.int .i64 (n5 a b),?_,.int _ _⟩;rw[mT];have bz:fn.name≠ "runtime.NumGoroutine":=by rw[aC]; decide
   have ag:=awP.1 ag;have rn:Extern.BytealgCompare.compare #[vs[0],vs[1]]=(do pure (goInt (Extern.BytealgCompare.cmp (<-Extern.Bytes.bytesOf vs[0]) (<-Extern.Bytes.bytesOf vs[1])))) :=rfl;simp[callFunc,aD,bz,ag,aQ,bF,mark,Sem.run,rn,h1,aj,zL,ad,aF,goInt]
  ·cases ah
 ·cases ah
end

section
variable {P:Program} {w:World} {R:Nat->Prop} {B:Nat} {h:aO} {μ:cP}
inductive xt:Value->Value->Prop where
 | bool (a b:Bool) :xt (.bool a) (.bool b)
 | agg (a b:Array Value) :xt (.agg a) (.agg b)
 | slice (a:Option Addr) (l c:Nat) (e9:Option Addr) (l' c' : Nat) :xt (.slice a l c) (.slice e9 l' c')
theorem acg {d:Nat} {t:TypeId} {x y:U} {b:Bool} {bI fZ:Value} (am:eP P d t x y=some b) (af:aP w R h μ x bI) (aA:aP w R h μ y fZ)
  (av:∀ k a k' br,x=.int k a->y=.int k' br->False) (ak:∀ a br,x=.str a->y=.str br->False) :xt bI fZ:=by
 cases d with
 | zero=>simp[eP] at am
 | succ d=>
  unfold eP at am;split at am
  ·cases af; cases aA; exact .bool _ _
  ·exact (av _ _ _ _ rfl rfl).elim
  ·exact (ak _ _ rfl rfl).elim
  ·cases af; cases aA; exact .agg _ _
  ·cases af; cases aA; exact .agg _ _
  ·cases af; cases aA; exact .slice _ _ _ _ _ _
  ·cases af; cases aA<;>exact .slice _ _ _ _ _ _
  ·cases af; cases aA<;>exact .slice _ _ _ _ _ _
  ·cases af<;>cases aA<;>exact .slice _ _ _ _ _ _
  ·cases af<;>cases aA<;>exact .slice _ _ _ _ _ _
  ·cases am
theorem acb {op:BinOp} {t:TypeId} {u0 ti:Operand} {bI fZ:Value} (ak:xt bI fZ) (ar:∀ a b,bI=.agg a->fZ=.agg b->P.eqGuardType P.depth t=false) :(eqGuard op t u0 ti bI fZ).run P w=.ok () w:=by
 cases ak with
 | bool a b=>cases op<;>rfl
 | agg a b=>exact run_eqGuard_agg w op t u0 ti a b (ar a b rfl rfl)
 | slice=>cases op<;>rfl
theorem akA {t:TypeId} {bI fZ:Value} {b:Bool} (ak:xt bI fZ) (ga:(Op.equalIn 10000 t bI fZ).run P w=.ok b w) :
  (binOp .eql t bI fZ).run P w=.ok (.bool b) w/\(binOp .neq t bI fZ).run P w=.ok (.bool (!b)) w:=by
 have aZ:(Op.equal t bI fZ).run P w=.ok b w:=ga;cases ak<;>constructor<;>simp[binOp,aZ]
theorem aca {op:BinOp} {t:TypeId} {u0 ti:Operand} {k k' : IntKind} {a b:Int}:(eqGuard op t u0 ti (.int k a) (.int k' b)).run P w=.ok () w:=by
 cases op<;>rfl
theorem acd {op:BinOp} {t:TypeId} {u0 ti:Operand} {a b:ByteArray}:(eqGuard op t u0 ti (.string a) (.string b)).run P w=.ok () w:=by
 cases op<;>rfl
theorem aaC {op:BinOp} {t:TypeId} {u0 ti:Operand} {x y c:U} {bI fZ:Value} (ah:gv P op t x y=some c) (af:aP w R h μ x bI) (aA:aP w R h μ y fZ) :
  ∃ v,((do eqGuard op t u0 ti bI fZ; binOp op t bI fZ:Sem Value)).run P w=.ok v w/\aP w R h μ c v:=by
 unfold gv at ah;split at ah
 ·cases af; cases aA;obtain⟨v,h1,ad⟩:=aaD (P:=P) (w:=w) (R:=R) (h:=h) (μ:=μ) (t:=t) ah;exact⟨v,by simp[aca,h1],ad⟩
 ·cases af; cases aA;obtain⟨v,h1,ad⟩:=aaE (P:=P) (w:=w) (R:=R) (h:=h) (μ:=μ) (t:=t) ah;exact⟨v,by simp[acd,h1],ad⟩
 ·rename_i afM sR;have key:∀ b,xO P t x y=true->eP P 10000 t x y=some b->xt bI fZ/\(eqGuard op t u0 ti bI fZ).run P w=.ok () w ∧
    (binOp .eql t bI fZ).run P w=.ok (.bool b) w/\(binOp .neq t bI fZ).run P w=.ok (.bool (!b)) w:=by
   intro b df am;have pk:=acg am af aA afM sR;have ar:∀ a b,bI=.agg a->fZ=.agg b->P.eqGuardType P.depth t=false:=by
    rintro a b rfl rfl;cases af with
    | aJ cs _ _ _ _=>
     cases aA with
     | aJ cs' _ _ _ _=>simpa [xO] using df
     | bad=>simp[eP] at am
    | bad=>cases aA<;>simp[eP] at am
   have aZ:=JG 10000 t x y b bI fZ am af aA;obtain⟨b6,bJ⟩:=akA pk aZ;exact⟨pk,acb pk ar,b6,bJ⟩
  split at ah
  ·split at ah
   ·rename_i df;cases am:eP P 10000 t x y with
    | none=>rw[am] at ah; cases ah
    | some b=>
     rw[am] at ah;simp only[at1,Option.some.injEq] at ah; subst ah;obtain⟨_,b6,bJ,_⟩:=key b df am;exact⟨.bool b,by simp[b6,bJ],.bool _⟩
   ·cases ah
  ·split at ah
   ·rename_i df;cases am:eP P 10000 t x y with
    | none=>rw[am] at ah; cases ah
    | some b=>
     rw[am] at ah;simp only[at1,Option.some.injEq] at ah; subst ah;obtain⟨_,b6,_,bJ⟩:=key b df am;exact⟨.bool (!b),by simp[b6,bJ],.bool _⟩
   ·cases ah
  ·cases ah
theorem amn {op:UnOp} {x c:U} {bI:Value} (ah:qO op x=some c) (af:aP w R h μ x bI) :∃ v,(Op.unary op bI).run P w=.ok v w/\aP w R h μ c v:=by
 unfold qO at ah;split at ah
 ·simp only[Option.some.injEq] at ah; subst ah;cases af;exact⟨_,by simp[Op.unary],.bool _⟩
 ·simp only[Option.some.injEq] at ah; subst ah;cases af;refine⟨_,?_,.int _ _⟩;simp only[Op.unary]; rfl
 ·simp only[Option.some.injEq] at ah; subst ah;cases af;refine⟨_,?_,.int _ _⟩;simp only[Op.unary]; rfl
 ·cases ah
theorem MM {aB:Operand->U} {ek:Operand->Value} (c9:∀ x,aP w R h μ (aB x) (ek x)) (o:Option Operand) :xw w R h μ (o.map aB) (o.map ek) :=by
 cases o with
 | none=>trivial
 | some x=>exact c9 x
def BL (P:Program) (R:Nat->Prop) (B:Nat) (w:World) (h:aO) (μ:cP) (r:Result Next) :pO->Prop
 | .val c h'=>Good R B w h μ r c h'
 | .call f args h'=>h'=h/\∃ vs:Array Value,r=.ok (.enter f vs) w/\vs.size=args.length/\∀ (j:Nat) (c:U) (v:Value),args[j]? = some c->vs[j]? = some v->aP w R h μ c v
theorem Good.mk {r:Result Next} {c:U} {h' : aO} {v:Value} {w' : World} {μ' : cP} (az:r=.ok (.value v) w') (am:dL w h μ w' h' μ') (al:b9 R B w' h' μ') (aq:aP w' R h' μ' c v) :Good R B w h μ r c h':=
 ⟨v,w',μ',.inl az,am,al,aq⟩
theorem aaY (rel:b9 R B w h μ) {b:Builtin} {ts:Array TypeId} {ty:TypeId} {consts:Array Bool} {args:List U} {vs:Array Value} {r:pO} (ak:pU P h b ts.toList args=some r)
  (al:vs.size=args.length) (aq:∀ (j:Nat) (c:U) (v:Value),args[j]? = some c->vs[j]? = some v->aP w R h μ c v) :BL P R B w h μ ((builtin b ts ty consts vs).run P w) r:=by
 have one:∀ x,args=[x]->∃ bI,vs=#[bI]/\aP w R h μ x bI:=by
  intro x af;subst af;simp only[auf,auy] at al;refine⟨vs[0],?_,aq 0 x _ rfl (by simp[al])⟩;apply Array.ext
  ·simpa using al
  ·intro i h1 ad;have:i=0:=by omega
   subst this; rfl
 have two:∀ x y,args=[x,y]->∃ bI fZ,vs=#[bI,fZ]/\aP w R h μ x bI/\aP w R h μ y fZ:=by
  intro x y af;subst af;simp only[auf,auy] at al;refine⟨vs[0],vs[1],?_,aq 0 x _ rfl (by simp[al]),aq 1 y _ rfl (by simp[al])⟩;apply Array.ext
  ·simpa using al
  ·intro i h1 ad;rcases (show i=0\/i=1 by simp at ad; omega) with rfl | rfl<;>rfl
 have IZ:∀ t,ts.toList=[t]->ts=#[t] :=fun t aH=>by apply Array.toList_inj.1; simpa using aH
 have Pd:∀ t u,ts.toList=[t,u]->ts=#[t,u] :=fun t u aH=>by apply Array.toList_inj.1; simpa using aH
 unfold pU at ak;split at ak
 ·rename_i t x rC;obtain⟨bI,rfl,af⟩:=one x rfl;obtain rfl:=IZ t rC;split at ak
  ·rename_i c ah;simp only[Option.some.injEq] at ak; subst ak;obtain⟨v,h1,ad⟩:=ah5 (P:=P) (ty:=ty) rel ah af;exact Good.mk (by simp[builtin,h1]) (.refl _ _ _) rel ad
  cases ah:yP P t x with
  | none=>rw[ah] at ak; cases ak
  | some c=>
   rw[ah] at ak;simp only[at1,Option.some.injEq] at ak; subst ak;obtain⟨v,h1,ad⟩:=ah6 (P:=P) (u:=t) (ty:=ty) ah af;exact Good.mk (by simp[builtin,h1]) (.refl _ _ _) rel ad
 ·rename_i t u s x rC;obtain⟨pA,bI,rfl,sT,af⟩:=two s x rfl;obtain rfl:=Pd t u rC;split at ak
  ·rename_i k aL;cases ah:BR P h t s x with
   | none=>rw[ah] at ak; cases ak
   | some c=>
    obtain⟨c,h'⟩:=c;rw[ah] at ak;simp only[at1,Option.some.injEq] at ak; subst ak;obtain⟨v,w',μ',h1,ad,aj,aF⟩:=aao (ty:=ty) rel aL ah sT af;exact Good.mk (by simp[builtin,h1]) ad aj aF
  ·cases ak
  ·rename_i rx ol;cases ah:sm P h t s x with
   | none=>rw[ah] at ak; cases ak
   | some c=>
    obtain⟨c,h'⟩:=c;rw[ah] at ak;simp only[at1,Option.some.injEq] at ak; subst ak;have aL:AZ P u:=by
     cases bH:P.underlying u with
     | none=>exact absurd bH ol
     | some d=>exact⟨d,bH,fun k hk=>rx k (by rw[bH,hk])⟩
    obtain⟨v,w',μ',h1,ad,aj,aF⟩:=IY (ty:=ty) rel aL ah sT af;exact Good.mk (by simp[builtin,h1]) ad aj aF
 ·rename_i t u d x rC;obtain⟨Jy,bI,rfl,bH,af⟩:=two d x rfl;obtain rfl:=Pd t u rC;cases ah:zN P h t d x with
  | none=>rw[ah] at ak; cases ak
  | some c=>
   obtain⟨c,h'⟩:=c;rw[ah] at ak;simp only[at1,Option.some.injEq] at ak; subst ak;obtain⟨v,w',h1,ad,aj,aF⟩:=abG (u:=u) (ty:=ty) rel ah bH af;exact Good.mk (by simp[builtin,h1]) ad aj aF
 ·rename_i t x rC;obtain⟨bI,rfl,af⟩:=one x rfl;obtain rfl:=IZ t rC;cases ah:zH P t x with
  | none=>rw[ah] at ak; cases ak
  | some c=>
   rw[ah] at ak;simp only[at1,Option.some.injEq] at ak; subst ak;obtain⟨v,h1,ad⟩:=aa8 (P:=P) (ty:=ty) ah af;exact Good.mk (by simp[builtin,h1]) (.refl _ _ _) rel ad
 ·rename_i t x rC;obtain⟨bI,rfl,af⟩:=one x rfl;obtain rfl:=IZ t rC;cases ah:zK P h t x with
  | none=>rw[ah] at ak; cases ak
  | some h'=>
   rw[ah] at ak;simp only[at1,Option.some.injEq] at ak; subst ak;obtain⟨w',h1,ad,aj⟩:=abm (P:=P) (ty:=ty) rel ah af;exact Good.mk (v:=.tuple #[]) (by simp[builtin,h1]) ad aj (.bE [] #[] rfl (fun _ _ _ aG=>by simp at aG))
 ·rename_i x y;obtain⟨bI,fZ,rfl,af,aA⟩:=two x y rfl;cases ah:AW x y with
  | none=>rw[ah] at ak; cases ak
  | some c=>
   rw[ah] at ak;simp only[at1,Option.some.injEq] at ak; subst ak;unfold AW at ah;split at ah
   ·split at ah
    ·rename_i hk; subst hk;simp only[Option.some.injEq] at ah; subst ah;cases af; cases aA;refine Good.mk (v:=.int _ _) ?_ (.refl _ _ _) rel (.int _ _);simp[builtin,Builtin.min_,Builtin.min2]
    ·cases ah
   ·cases ah
 ·rename_i x y;obtain⟨bI,fZ,rfl,af,aA⟩:=two x y rfl;cases ah:uU x y with
  | none=>rw[ah] at ak; cases ak
  | some c=>
   rw[ah] at ak;simp only[at1,Option.some.injEq] at ak; subst ak;unfold uU at ah;split at ah
   ·split at ah
    ·rename_i hk; subst hk;simp only[Option.some.injEq] at ah; subst ah;cases af; cases aA;refine Good.mk (v:=.int _ _) ?_ (.refl _ _ _) rel (.int _ _);simp[builtin,Builtin.max_,Builtin.max2]
    ·cases ah
   ·cases ah
 ·cases ak
theorem RB {f:FuncId} {fn:Func} {vs:Array Value} (aD:P.funcs[f]? = some fn) (ag:fn.body.isSome=true) (aC:fn.name≠ "runtime.NumGoroutine") :(callFunc f vs).run P w=.ok (.enter f vs) w:=by
 have bL:fn.body≠none:=fun aG=>by rw[aG] at ag; cases ag
 simp[callFunc,aD,aC,bL]
theorem Mr {aB:Operand->U} {ek:Operand->Value} (c9:∀ x,aP w R h μ (aB x) (ek x)) (xs:Array Operand) :
  ∀ (j:Nat) (c:U) (v:Value),(xs.toList.map aB)[j]? = some c->(xs.map ek)[j]? = some v->aP w R h μ c v:=by
 intro j c v ai aq;rw[at0] at ai;rw[awe] at aq;cases ap:xs[j]? with
 | none=>simp[ap] at aq
 | some o=>
  simp[ap] at ai aq;subst ai aq;exact c9 o
theorem ais {t:TypeId} {name:String} {g:FuncId} (hm:yV P t name=some g) (u:Value) :(Go.method (P.types.size+Made.depth) t u name).run P w=.ok (g,u) w:=by
 unfold yV at hm;split at hm
 ·cases hm
 ·cases hm
 ·rename_i AD LK;split at hm
  ·rename_i i av;split at hm
   ·rename_i m aD;split at hm
    ·rename_i f ay ky;cases hm;obtain⟨k,hk⟩:∃ k,P.types.size+Made.depth=k+1:=⟨P.types.size+Made.depth - 1,by unfold Made.depth; omega⟩
     rw[hk];cases bH:P.underlying t with
     | none=>exact absurd bH LK
     | some d=>
      have aqj:m.path=#[] :=Array.toList_eq_nil_iff.1 ay;cases d<;>first
       | (exfalso; exact AD _ bH)
       | simp[Go.method,typeInfo,av,aD,ay,ky,follow,receiverAt,cA bH,Place.get]
    ·cases hm
   ·cases hm
  ·cases hm
theorem alQ {t OC:TypeId} {ok:Bool} {z c x:U} {v:Value} (aw:Ie P t=some z) (ah:Bm t z ok x=some c) (af:aP w R h μ x v) :
  ∃ aY,(Instr.typeAssert v OC t ok).run P w=.ok aY w/\aP w R h μ c aY:=by
 unfold Ie at aw;split at aw
 ·cases aw
 ·cases aw
 ·rename_i AD LK;cases bH:P.underlying t with
  | none=>exact absurd bH LK
  | some d=>
   obtain⟨zv,s1,lN⟩:=Zl (P:=P) (w:=w) (R:=R) (h:=h) (μ:=μ) aw;have two:∀ (a:U) (ie:Value) (q:Bool),aP w R h μ a ie->aP w R h μ (.bE [a,.bool q]) (.tuple #[ie,.bool q]) :=by
    intro a ie q ax;refine .bE _ _ rfl (fun j c v ai aq=>?_)
    match j,ai,aq with
    | 0,ai,aq=>simp at ai aq; subst ai aq; exact ax
    | 1,ai,aq=>simp at ai aq; subst ai aq; exact .bool q
    | j+2,ai,aq=>simp at ai
   cases x<;>simp only[Bm] at ah<;>try (cases ah; done)
   case jD=>
    cases af;cases ok<;>simp only at ah<;>cases ah;refine⟨.tuple #[zv,.bool false],?_,two _ _ _ lN⟩;cases d<;>first
     | (exfalso; exact AD _ bH)
     | simp[Instr.typeAssert,cA bH,s1]
   case gQ gu xE=>
    cases af with
    | gQ _ _ u aL=>
     split at ah
     ·rename_i aH;have aH:=auP aH;subst aH;cases ok<;>simp only at ah<;>cases ah
      ·refine⟨u,?_,aL⟩;cases d<;>first
        | (exfalso; exact AD _ bH)
        | simp[Instr.typeAssert,cA bH]
      ·refine⟨.tuple #[u,.bool true],?_,two _ _ _ aL⟩;cases d<;>first
        | (exfalso; exact AD _ bH)
        | simp[Instr.typeAssert,cA bH]
     ·rename_i aH;have aH:gu≠t:=fun h=>by rw[h,awQ] at aH; cases aH
      cases ok<;>simp only at ah<;>cases ah;refine⟨.tuple #[zv,.bool false],?_,two _ _ _ lN⟩;cases d<;>first
       | (exfalso; exact AD _ bH)
       | simp[Instr.typeAssert,cA bH,s1,aH]
theorem aa3 (rel:b9 R B w h μ) {aB:Operand->U} {ek:Operand->Value} (c9:∀ x,aP w R h μ (aB x) (ek x)) {c:Call} {ty:TypeId} {r:pO} (ak:vC P h aB c=some r) :
  BL P R B w h μ ((do let d <-resolve ek c ty; invoke d.target d.args:Sem Next).run P w) r:=by
 unfold vC at ak;split at ak
 ·rename_i b ag;have:=fun consts=>aaY (P:=P) (b:=b) (ts:=c.argTypes) (ty:=ty) (consts:=consts) (args:=c.args.toList.map aB) (vs:=c.args.map ek) rel ak (by simp)
   (fun j x v ai aq=>by
    rw[at0] at ai;rw[awe] at aq;cases ap:c.args[j]? with
    | none=>simp[ap] at aq
    | some o=>
     simp[ap] at ai aq;subst ai aq;exact c9 o)
  simp only[resolve,ag,Sem.run_bind,Sem.run_pure,Result.andThen_ok,invoke];exact this _
 ·rename_i f aD;split at ak
  ·rename_i g first fY ky
   have aq:=c9 f;rw[ky] at aq;cases wk:ek f with
   | func apr fs cs=>
    rw[wk] at aq;cases aq with
    | fn _ _ _ _ _ h1 ad aj aF=>
     split at ak
     ·rename_i fn Ao;have F1:∀ (j:Nat) (x:U) (v:Value),(first++c.args.toList.map aB++fY)[j]? = some x->(fs++c.args.map ek++cs)[j]? = some v->aP w R h μ x v:=by
       intro j x v ai lM;by_cases qk:j<first.length
       ·rw[aut,atV qk] at ai;rw[awd,auZ (by omega)] at lM;exact aj j x v ai lM
       ·by_cases ql:j<first.length+c.args.size
        ·rw[atV (by simp; omega),at8 (by omega),at0] at ai;rw[auZ (by simp; omega),av1 (by omega),awe,h1] at lM;cases ap:c.args[j - first.length]? with
         | none=>simp[ap] at lM
         | some o=>
          simp[ap] at ai lM;subst ai lM;exact c9 o
        ·rw[at8 (by simp; omega)] at ai;rw[av1 (by simp; omega)] at lM;refine aF _ x v ai ?_;simpa [h1] using lM
      split at ak
      ·rename_i jM;simp only[Option.some.injEq] at ak; subst ak;refine⟨rfl,fs++c.args.map ek++cs,?_,by simp[h1,ad],F1⟩;simp[resolve,aD,wk,Deferred.ofValue,invoke,RB Ao jM.1 jM.2]
      ·split at ak
       ·rename_i rn;cases dp:Cc h (first++c.args.toList.map aB++fY) with
        | none=>rw[dp] at ak; cases ak
        | some aoA=>
         rw[dp] at ak;simp only[at1,Option.some.injEq] at ak; subst ak;obtain⟨v,aQ,bF⟩:=acq (P:=P) (vs:=fs++c.args.map ek++cs) rel Ao rn dp (by simp[h1,ad]) F1;rw[awd] at aQ;exact Good.mk (by simp[resolve,aD,wk,Deferred.ofValue,invoke,aQ]) (.refl _ _ _) rel bF
       ·cases ak
     ·cases ak
   | _=>rw[wk] at aq; cases aq
  ·cases ak
 ·rename_i x name ah;split at ak
  ·rename_i t v0 af;have aq:=c9 x;rw[af] at aq;split at ak
   ·rename_i g hm;split at ak
    ·rename_i fn Ao;split at ak
     ·rename_i jM;simp only[Option.some.injEq] at ak; subst ak;cases wk:ek x with
      | iface gu u=>
       rw[wk] at aq;cases aq with
       | gQ _ _ _ aL=>
        refine⟨rfl,#[u]++c.args.map ek,?_,by simp; omega,?_⟩
        ·have afG:=ais (P:=P) (w:=w) hm u;have aE:(#[Value.iface t u]++c.args.map ek)[0]? = some (Value.iface t u) :=by rw[auZ (by simp)]; rfl
         have g5:(c.args.map ek).extract 0 c.args.size=c.args.map ek:=by
          apply Array.ext';simp[atT]
         simp[aE,g5,resolve,ah,wk,invoke,callMethod,afG,RB Ao jM.1 jM.2]
        ·intro j x v ai lM;cases j with
         | zero=>
          rw[auZ (by simp)] at lM;simp at ai lM; subst ai lM; exact aL
         | succ j=>
          rw[auF] at ai;rw[av1 (by simp)] at lM;exact Mr c9 c.args j x v ai (by simpa using lM)
      | _=>rw[wk] at aq; cases aq
     ·cases ak
    ·cases ak
   ·cases ak
  ·cases ak
theorem MW {aB:Operand->U} {ek:Operand->Value} (c9:∀ x,aP w R h μ (aB x) (ek x)) (cJ:Array (Nat × Operand)) :
  (cJ.map fun (i,x)=>(i,ek x)).size=(cJ.toList.map fun p=>(p.1,aB p.2)).length ∧
  ∀ (j:Nat) (p:Nat × U) (bS:Nat × Value),(cJ.toList.map fun p=>(p.1,aB p.2))[j]? = some p->(cJ.map fun (i,x)=>(i,ek x))[j]? = some bS->bS.1=p.1/\aP w R h μ p.2 bS.2:=by
 refine⟨by simp,fun j p bS ai eB=>?_⟩;rw[at0] at ai;rw[awe] at eB;cases ap:cJ[j]? with
 | none=>simp[ap] at eB
 | some o=>
  simp[ap] at ai eB;subst ai eB;exact⟨rfl,c9 o.2⟩
theorem NY (rel:b9 R B w h μ) {aB:Operand->U} {ek:Operand->Value} (c9:∀ x,aP w R h μ (aB x) (ek x)) (o:Oper) {r:pO} (ak:c5 P h aB o.op=some r) :
  BL P R B w h μ ((execOp ek o).run P w) r:=by
 obtain⟨dst,op,type,pos,after,guard⟩:=o;have pq:∀ {x:Option U} {m:Sem Value},(∀ c,x=some c->∃ v,m.run P w=.ok v w/\aP w R h μ c v)->x.map (fun y=>pO.val y h)=some r->
   BL P R B w h μ ((do pure (.value (<-m)) :Sem Next).run P w) r:=by
  intro x m af az;cases jv:x with
  | none=>rw[jv] at az; cases az
  | some c=>
   rw[jv] at az;simp only[at1,Option.some.injEq] at az; subst az;obtain⟨v,h1,ad⟩:=af c jv;exact Good.mk (by simp[h1]) (.refl _ _ _) rel ad
 have Hy:∀ {x:Option (U × aO)} {m:Sem Value},(∀ c h',x=some (c,h')->∃ v w' μ',m.run P w=.ok v w'/\dL w h μ w' h' μ'/\b9 R B w' h' μ'/\aP w' R h' μ' c v)->x.map (fun y=>pO.val y.1 y.2)=some r->
   BL P R B w h μ ((do pure (.value (<-m)) :Sem Next).run P w) r:=by
  intro x m af az;cases jv:x with
  | none=>rw[jv] at az; cases az
  | some c=>
   obtain⟨c,h'⟩:=c;rw[jv] at az;simp only[at1,Option.some.injEq] at az; subst az;obtain⟨v,w',μ',h1,ad,aj,aF⟩:=af c h' jv;exact Good.mk (by simp[h1]) ad aj aF
 cases op
 case move x=>
  simp only[c5,Option.some.injEq] at ak; subst ak;exact Good.mk (by simp[execOp]) (.refl _ _ _) rel (c9 x)
 case assign x=>
  simp only[c5,Option.some.injEq] at ak; subst ak;exact Good.mk (by simp[execOp]) (.refl _ _ _) rel (c9 x)
 case pick c a b=>
  simp only[c5] at ak;have iW:=c9 c;cases ah:aB c<;>rw[ah] at ak iW<;>simp only at ak<;>try (cases ak; done)
  simp only[Option.some.injEq] at ak; subst ak;cases aq:ek c<;>rw[aq] at iW<;>try (cases iW; done)
  cases iW;rename_i t;cases t
  ·exact Good.mk (v:=ek b) (by simp[execOp,aq,asBool]) (.refl _ _ _) rel (by simpa using c9 b)
  ·exact Good.mk (v:=ek a) (by simp[execOp,aq,asBool]) (.refl _ _ _) rel (by simpa using c9 a)
 case alloc t=>
  simp only[c5] at ak;cases aw:hJ P t with
  | none=>rw[aw] at ak; cases ak
  | some z=>
   rw[aw] at ak;simp only[at1,Option.some.injEq] at ak; subst ak;obtain⟨v,aq,az⟩:=xr (P:=P) (w:=w) (R:=R) (h:=h) (μ:=μ) aw;obtain⟨aX,a6,a3⟩:=EV rel (cs:=z) (vs:=v.cells) t az.1 az.2;exact Good.mk (by simp[execOp,Instr.alloc,aq,newVar,newRow]) aX a6 (a3 0)
 case box t x=>
  simp only[c5] at ak;cases aw:(aB x).cells with
  | none=>rw[aw] at ak; cases ak
  | some z=>
   rw[aw] at ak;simp only[at1,Option.some.injEq] at ak; subst ak;obtain⟨b6,bJ⟩:=Fg (c9 x) aw;obtain⟨aX,a6,a3⟩:=EV rel (cs:=z) (vs:=(ek x).cells) t b6 bJ;exact Good.mk (by simp[execOp,Instr.box,newVar,newRow]) aX a6 (a3 0)
 case build t parts=>
  obtain⟨b6,bJ⟩:=MW c9 parts;exact pq (fun c ah=>aaW ah b6 bJ) ak
 case buildSlice t len parts=>
  obtain⟨b6,bJ⟩:=MW c9 parts;exact Hy (fun c h' ah=>aaV rel ah b6 bJ) ak
 case load t a=>exact pq (fun c ah=>V0 rel ah (c9 a)) ak
 case store t a x=>
  simp only[c5] at ak;cases ch:Bk P h t (aB a) (aB x) with
  | none=>rw[ch] at ak; cases ak
  | some h'=>
   rw[ch] at ak;simp only[at1,Option.some.injEq] at ak; subst ak;obtain⟨w',h1,ad,aj⟩:=alG (P:=P) rel ch (c9 a) (c9 x);exact⟨undef,w',μ,.inr ⟨by simp[execOp,h1],rfl⟩,ad,aj,.bE [] #[] rfl (fun _ _ _ aG=>by simp at aG)⟩
 case nilCheck x=>
  simp only[c5] at ak;have aq:=c9 x;cases ah:aB x<;>rw[ah] at ak aq<;>simp only at ak<;>try (cases ak; done)
  all_goals
   simp only[Option.some.injEq] at ak; subst ak;cases af:ek x<;>rw[af] at aq<;>try (cases aq; done)
   rename_i y;refine Good.mk (v:=ek x) ?_ (.refl _ _ _) rel (by rw[af]; exact aq);cases aq<;>simp[execOp,af]
 case binOp op t x y atR=>exact pq (fun c ah=>aaC ah (c9 x) (c9 y)) ak
 case unOp op t x=>exact pq (fun c ah=>amn ah (c9 x)) ak
 case convert s d x=>
  simp only[c5] at ak;split at ak
  ·rename_i c ah;simp only[Option.some.injEq] at ak; subst ak;obtain⟨v,w',h1,ad,aj,aF⟩:=aaZ rel ah (c9 x);exact Good.mk (by simp[execOp,h1]) ad aj aF
  ·exact pq (fun c ah=>abE rel ah (c9 x)) ak
 case makeInterface t x=>
  simp only[c5] at ak;cases aL:P.underlying t with
  | none=>rw[aL] at ak; cases ak
  | some d=>
   rw[aL] at ak;cases d<;>simp only at ak<;>try (cases ak; done)
   all_goals
    simp only[Option.some.injEq] at ak; subst ak;exact Good.mk (v:=.iface t (ek x)) (by simp[execOp,Instr.makeInterface,cA aL]) (.refl _ _ _) rel (.gQ t _ _ (c9 x))
 case makeFunc fn first fY=>
  cases fn<;>simp only[c5] at ak<;>try (cases ak; done)
  simp only[Option.some.injEq] at ak; subst ak;exact Good.mk (by simp[execOp,Instr.makeFunc]) (.refl _ _ _) rel (.fn _ _ _ _ _ (by simp) (by simp) (Mr c9 first) (Mr c9 fY))
 case makeSlice t l c=>exact Hy (fun c' h' ah=>ain rel ah (c9 l) (c9 c)) ak
 case slice t x cV av cO=>exact pq (fun c ah=>ak3 rel ah (c9 x) (MM c9 cV) (MM c9 av) (MM c9 cO)) ak
 case fieldAddr s x f=>exact pq (fun c ah=>acC ah (c9 x)) ak
 case field t x f=>
  simp only[c5] at ak;split at ak
  ·rename_i cs fd af aD;have aq:=c9 x;rw[af] at aq;exact pq (fun c ah=>acD aD ah aq) ak
  ·cases ak
 case indexAddr t x i=>exact pq (fun c ah=>agX ah (c9 x) (c9 i)) ak
 case index t x i=>exact pq (fun c ah=>L4 ah (c9 x) (c9 i)) ak
 case extract x i=>
  simp only[c5] at ak;have aq:=c9 x;cases ah:aB x<;>rw[ah] at ak aq<;>simp only at ak<;>try (cases ak; done)
  rename_i vs;cases af:ek x<;>rw[af] at aq<;>try (cases aq; done)
  rename_i arr;cases aq with
  | bE _ _ al LP=>
   refine pq (m:=Instr.extract (ek x) i) (fun c ah=>?_) ak;have aN:i<arr.size:=by rw[al]; exact (atU.1 ah).1
   exact⟨arr[i],by simp[Instr.extract,af,aN],LP i c _ ah (by simp[aN])⟩
 case call c=>exact aa3 rel c9 ak
 case makeMap t r=>
  simp only[c5] at ak;split at ak
  ·rename_i k e aL az;simp only[Option.some.injEq] at ak; subst ak;obtain⟨v,w',μ',h1,ad,aj,aF⟩:=aim (P:=P) (t:=t) (r:=r.map ek) rel ⟨_,_,aL⟩ (fun x af=>by
    cases r with
    | none=>cases af
    | some o=>
     simp only[at1,Option.some.injEq] at af; subst af;simp only at az;cases av:asInt (aB o) with
     | none=>rw[av] at az; cases az
     | some n=>
      obtain⟨k,hk⟩:=sn av (c9 o);exact⟨k,n,hk⟩)
   exact Good.mk (by simp[execOp,h1]) ad aj aF
  ·cases ak
 case lookup t m k ok=>exact pq (fun c ah=>aif rel ah (c9 m) (c9 k)) ak
 case mapUpdate t m k x=>
  simp only[c5] at ak;cases ch:yU P h t (aB m) (aB k) (aB x) with
  | none=>rw[ch] at ak; cases ak
  | some h'=>
   rw[ch] at ak;simp only[at1,Option.some.injEq] at ak; subst ak;obtain⟨w',h1,ad,aj⟩:=Wd (P:=P) rel ch (c9 m) (c9 k) (c9 x);exact⟨undef,w',μ,.inr ⟨by simp[execOp,h1],rfl⟩,ad,aj,.bE [] #[] rfl (fun _ _ _ aG=>by simp at aG)⟩
 case insert t m k x=>
  simp only[c5] at ak;cases ch:yU P h t (aB m) (aB k) (aB x) with
  | none=>rw[ch] at ak; cases ak
  | some h'=>
   rw[ch] at ak;simp only[at1,Option.some.injEq] at ak; subst ak;obtain⟨w',h1,ad,aj⟩:=Wd (P:=P) rel ch (c9 m) (c9 k) (c9 x);exact⟨undef,w',μ,.inr ⟨by simp[execOp,h1],rfl⟩,ad,aj,.bE [] #[] rfl (fun _ _ _ aG=>by simp at aG)⟩
 case range t x=>exact Hy (fun c h' ah=>aj0 rel ah (c9 x)) ak
 case next it isS=>
  cases isS with
  | false=>simp only[c5] at ak; cases ak
  | true=>exact Hy (fun c h' ah=>by obtain⟨v,w',h1,ad,aj,aF⟩:=aiy (P:=P) (ty:=type) rel ah (c9 it); exact⟨v,w',μ,h1,ad,aj,aF⟩) ak
 case typeAssert x OC t ok=>
  simp only[c5] at ak;split at ak
  ·rename_i z aw;exact pq (fun c ah=>alQ aw ah (c9 x)) ak
  ·cases ak
 all_goals (simp only[c5] at ak; cases ak)
end
inductive sb where
 | normal
 | exit (id:Nat)
 | ret
def sb.out:sb->Exit
 | .normal=>.normal
 | .exit id=>.exit id
 | .ret=>.ret
def kS (ops:Array Oper) (ae:Nat->U) (o:Oper) :Option Bool:=
 match o.guard with
 | none=>some true
 | some (j,Bu)=>match (ops[j]?).bind (·.dst) with
  | none=>some false
  | some d=>match ae d with
   | .bool b=>some (b == Bu)
   | .bad=>none
   | _=>some false
def ht (ae:Nat->U) (dst:Option Tmp) (c:U) :Nat->U:=match dst with | some d=>bO ae d c | none=>ae
def p0 (N:Nat) (dst:Option Tmp) :Bool:=match dst with | some d=>decide (d<N) | none=>true
def Bg (P:Program) (h:aO) (ae:Nat->U) :ResultVar->Option U
 | .tmp t=>some (ae t)
 | .cell a t=>s7 P h t (ae a)
def w6 (P:Program) (h:aO) (ae:Nat->U) :List ResultVar->Option (List U)
 | []=>some []
 | r::nT=>match Bg P h ae r,w6 P h ae nT with
  | some v,some vs=>some (v::vs)
  | _,_=>none
def xj:List U->U
 | [v]=>v
 | vs=>.bE vs
def H0 (P:Program) (h:aO) (ae:Nat->U) (fn:Func) :Option U:=(w6 P h ae fn.results.toList).map xj
mutual
def U.closed:U->Bool
 | .aJ cs=>bg cs
 | .bE cs=>bg cs
 | .b3 cs _=>bg cs
 | .bR _ es=>B8 es
 | .fn _ a b=>bg a&&bg b
 | .gQ _ v=>v.closed
 | .ptr .. | .au .. | .mp _ | .it _=>false
 | _=>true
def bg:List U->Bool
 | []=>true
 | c::cs=>c.closed&&bg cs
def B8:List (List U)->Bool
 | []=>true
 | c::cs=>bg c&&B8 cs
end
def fD (w:World) (A:Nat->Prop) (c:U) (v:Value) :Prop:=aP w A aO.empty (fun _=>none) c v
structure zq (w w' : World) :Prop extends RowKit.Below w.heap.size w w' where
 drawn:w.drawn<=w'.drawn
def tG (G:Nat->U) (w:World) (R:Nat->Prop) (h:aO) (μ:cP) :Prop:=∀ g,(G g).closed=true/\aP w R h μ (G g) (.pointer (some ⟨g,0,none⟩))
def sd (P:Program) (G:Nat->U) (f:FuncId) (args:List U) (h:aO) (r:U) (h' : aO) :Prop:=
 ∀ (R:Nat->Prop) (B:Nat) (w:World) (μ:cP) (vs:Array Value),b9 R B w h μ->tG G w R h μ->vs.size=args.length->
  (∀ (j:Nat) (c:U) (v:Value),args[j]? = some c->vs[j]? = some v->aP w R h μ c v)->
  Calls P f vs w fun e w'=>∃ v μ',e=.returned v/\dL w h μ w' h' μ'/\b9 R B w' h' μ'/\aP w' R h' μ' r v
def bw (P:Program) (G:Nat->U) (f:FuncId) (args:List U) (r:U) :Prop:=
 ∀ (w:World) (A:Nat->Prop) (vs:Array Value),(∀ g,fD w A (G g) (.pointer (some ⟨g,0,none⟩)))->vs.size=args.length->
  (∀ (j:Nat) (c:U) (v:Value),args[j]? = some c->vs[j]? = some v->fD w A c v)->
  Calls P f vs w fun e w'=>∃ v,e=.returned v/\zq w w'/\fD w' (fun k=>A k\/w.heap.size<=k) r v
def jI (P:Program) (G:Nat->U) (f:FuncId) (args:List U) (r:U) :Prop:=
 ∀ (w:World) (A:Nat->Prop) (vs:Array Value),(∀ g,fD w A (G g) (.pointer (some ⟨g,0,none⟩)))->vs.size=args.length->
  (∀ (j:Nat) (c:U) (v:Value),args[j]? = some c->vs[j]? = some v->fD w A c v)->
  Calls P f vs w fun e w'=>∃ v,e=.returned v/\zq w w'/\fD w' (fun k=>w.heap.size<=k) r v
inductive fX (h:aO) :U->U->Prop
 | same (c:U) (ah:c.closed=true) :fX h c c
 | aJ (cs cs' : List U) (al:cs'.length=cs.length) (aq:∀ (j:Nat) (c c' : U),cs[j]? = some c->cs'[j]? = some c'->fX h c c') :fX h (.aJ cs) (.aJ cs')
 | bE (cs cs' : List U) (al:cs'.length=cs.length) (aq:∀ (j:Nat) (c c' : U),cs[j]? = some c->cs'[j]? = some c'->fX h c c') :fX h (.bE cs) (.bE cs')
 | au (z b off len cap sz:Nat) (cs:List U) (es:List (List U)) (ag:h.f b=.cells sz cs) (al:es.length=len) (aw:∀ e∈es,e.length=z)
   (dQ:off+len*z<=cs.length)
   (aq:∀ (i j:Nat) (e:List U) (c c' : U),es[i]? = some e->e[j]? = some c'->cs[off+(i*z+j)]? = some c->fX h c c') :fX h (.au z b off len cap sz) (.bR z es)
 | r2 (z b off cap sz:Nat) :fX h (.au z b off 0 cap sz) (.bR z [])
 | ptr (b off sz:Nat) (cs cs' : List U) (ag:h.f b=.cells sz cs) (al:cs'.length=cs.length) (aq:∀ (j:Nat) (c c' : U),cs[j]? = some c->cs'[j]? = some c'->fX h c c') :fX h (.ptr b off sz) (.b3 cs' off)
mutual
def U.flat:U->Bool
 | .aJ cs=>l7 cs
 | .bE cs=>l7 cs
 | .gQ _ v=>v.flat
 | .bool _ | .int .. | .str _ | .jE | .aW | .hS | .jC | .jD=>true
 | _=>false
def l7:List U->Bool
 | []=>true
 | c::cs=>c.flat&&l7 cs
end
inductive EL where
 | pure | new | gC
def nO (P:Program) (aB:Operand->U) :Op->Option (List U × (Nat->U))
 | .alloc t=>(hJ P t).map fun z=>(z,fun b=>.ptr b 0 z.length)
 | .box _ x=>(aB x).cells.map fun cs=>(cs,fun b=>.ptr b 0 cs.length)
 | .buildSlice t len parts=>match iD P t with
  | some e=>match cB P e,hJ P e with
   | some z,some zero=>if zero.length=z/\len*z<=16777216 then
     (hD (fun i=>some (i*z,z)) (dy zero len) (parts.toList.map fun p=>(p.1,aB p.2))).map fun cs=>(cs,fun b=>.au z b 0 len len (len*z))
    else none
   | _,_=>none
  | none=>none
 | .makeSlice t l c=>match iD P t,asInt (aB l),asInt (aB c) with
  | some e,some l,some c=>match cB P e,iQ P e,hJ P e with
   | some z,some by_,some zero=>
    if zero.length=z/\0<=l/\l<=c/\c<9223372036854775808/\by_*c<=cK then
     some (dy zero c.toNat,fun b=>.au z b 0 l.toNat c.toNat (c.toNat*z))
    else none
   | _,_,_=>none
  | _,_,_=>none
 | _=>none
def jW (ops:Array Oper) (t:Nat) :Option Nat:=(List.range ops.size).find? fun i=>match ops[i]? with | some o=>o.dst == some t | none=>false
def nu (ops:Array Oper) (pre:Nat->Nat->Bool) (val:Nat->U) (ae:Nat->U) (i:Nat) (o:Oper) :Nat->U:=fun t=>
 if (o.looksAt ops).contains t then
  match jW ops t with
  | some j=>if pre i j then val j else ae t
  | none=>ae t
 else .bad
structure tE (ops:Array Oper) (pre:Nat->Nat->Bool) :Prop where
 Cn:∀ (i:Nat) (o:Oper) (e:Edge),ops[i]? = some o->e∈o.after->Region.binds .any e=true->e.on<i
 chain:∀ (i:Nat) (o:Oper) (j:Nat),ops[i]? = some o->pre i j=true->∃ e∈o.after,Region.binds .any e=true/\(e.on=j\/pre e.on j=true)
 one:∀ (i:Nat) (o:Oper) (t:Tmp),ops[i]? = some o->o.dst=some t->jW ops t=some i
 acc:∀ (i:Nat) (o:Oper) (t:Tmp) (j:Nat),ops[i]? = some o->t∈o.looksAt ops->jW ops t=some j->pre i j=true\/pre j i=true\/j=i
 atq:Region.noSelect ops=true
def wZ (h:aO) (l:List (List U)) :aO:=l.foldl (fun h cs=>h.push (.cells cs.length cs)) h
def oM (h h' : aO) :Prop:=∃ l,h'=wZ h l
theorem Xb:∀ (l:List (List U)) (h:aO),(wZ h l).n=h.n+l.length
 | [],h=>rfl
 | c::l,h=>by
  have:=Xb l (h.push (.cells c.length c));simp only[wZ,List.foldl_cons,List.length_cons] at this ⊢;rw[this];simp only[ev,fB]; omega
theorem Xc:∀ (l:List (List U)) (h:aO) (b:Nat),b<h.n->(wZ h l).f b=h.f b
 | [],h,b,_=>rfl
 | c::l,h,b,ag=>by
  have:=Xc l (h.push (.cells c.length c)) b (by simp only[ev,fB]; omega);simp only[wZ,List.foldl_cons] at this ⊢;rw[this];simp only[ev,fB];exact cf _ _ _ _ (by omega)
theorem Xa:∀ (l:List (List U)) (h:aO),(∀ b,h.n<=b->h.f b=.none)->∀ b,(wZ h l).n<=b->(wZ h l).f b=.none
 | [],h,aD=>aD
 | c::l,h,aD=>by
  refine Xa l (h.push (.cells c.length c)) (fun b ag=>?_);simp only[ev,fB] at ag ⊢;rw[cf _ _ _ _ (by omega)];exact aD b (by omega)
theorem oM.n {h h' : aO} (g:oM h h') :h.n<=h'.n:=by obtain⟨l,rfl⟩:=g; rw[Xb]; omega
theorem oM.same {h h' : aO} (g:oM h h') (b:Nat) (ag:b<h.n) :h'.f b=h.f b:=by obtain⟨l,rfl⟩:=g; exact Xc l h b ag
theorem oM.fresh {h h' : aO} (g:oM h h') (aD:∀ b,h.n<=b->h.f b=.none) :∀ b,h'.n<=b->h'.f b=.none:=by obtain⟨l,rfl⟩:=g; exact Xa l h aD
inductive qZ (h ad:aO) :U->U->Prop
 | same (c:U) :qZ h ad c c
 | aJ (cs cs' : List U) (al:cs'.length=cs.length) (aq:∀ (j:Nat) (c c' : U),cs[j]? = some c->cs'[j]? = some c'->qZ h ad c c') :qZ h ad (.aJ cs) (.aJ cs')
 | au (z b off len cap sz:Nat) (cs:List U) (es:List (List U)) (ag:h.f b=.cells sz cs) (bH:ad.f b=.dead) (al:es.length=len) (aw:∀ e∈es,e.length=z)
   (dQ:off+len*z<=cs.length)
   (aq:∀ (i j:Nat) (e:List U) (c c' : U),es[i]? = some e->e[j]? = some c'->cs[off+(i*z+j)]? = some c->qZ h ad c c') :qZ h ad (.au z b off len cap sz) (.bR z es)
 | r2 (z b off cap sz:Nat) :qZ h ad (.au z b off 0 cap sz) (.bR z [])
structure q0 (h ad:aO) :Prop where
 n:ad.n=h.n
 blk:∀ b,ad.f b=h.f b\/∃ sz cs,h.f b=.cells sz cs/\(ad.f b=.dead\/∃ hB,ad.f b=.cells sz hB/\hB.length=cs.length/\∀ (j:Nat) (c dv:U),cs[j]? = some c->hB[j]? = some dv->qZ h ad c dv)
inductive J where
 | code (c:Code) (N:Nat) (ae:Nat->U) (h:aO) (e:sb) (b4:Nat->U) (h' : aO)
 | ops (all:Array Oper) (l:List Oper) (N:Nat) (ae:Nat->U) (h:aO) (b4:Nat->U) (h' : aO)
 | op (op:Op) (ae:Nat->U) (h:aO) (v:U) (h' : aO)
 | call (f:FuncId) (args:List U) (h:aO) (r:U) (h' : aO)
def zW (pre:Nat->Nat->Bool) (m:Nat) (ak:Nat->Nat) (i k:Nat) :Prop:=k<=m/\(∀ q,q<m->pre i (ak q)=true->q<k)/\∀ q,q<m->pre (ak q) i=true->k<=q
inductive dA (P:Program) (G:Nat->U) :J->Prop where
 | skip (N ae h) :dA P G (.code .skip N ae h .normal ae h)
 | label (l N ae h) :dA P G (.code (.label l) N ae h .normal ae h)
 | ret (N ae h) :dA P G (.code .ret N ae h .ret ae h)
 | exit (id N ae h) :dA P G (.code (.exit id) N ae h (.exit id) ae h)
 | X8 {a b N ae h jb h1 e b4 h'}:dA P G (.code a N ae h .normal jb h1)->dA P G (.code b N jb h1 e b4 h')->dA P G (.code (.seq a b) N ae h e b4 h')
 | NL {a b N ae h e b4 h'}:dA P G (.code a N ae h e b4 h')->e≠.normal->dA P G (.code (.seq a b) N ae h e b4 h')
 | cond {c x y N ae h b e b4 h'}:c2 G ae c=.bool b->dA P G (.code (if b then x else y) N ae h e b4 h')->dA P G (.code (.cond c x y) N ae h e b4 h')
 | E5 {id c N ae h e b4 h'}:dA P G (.code c N ae h e b4 h')->e≠.exit id->dA P G (.code (.block id c) N ae h e b4 h')
 | Pr {id c N ae h b4 h'}:dA P G (.code c N ae h (.exit id) b4 h')->dA P G (.code (.block id c) N ae h .normal b4 h')
 | AR {c N ae h jb h1 e b4 h'}:dA P G (.code c N ae h .normal jb h1)->dA P G (.code (.loop c) N jb h1 e b4 h')->dA P G (.code (.loop c) N ae h e b4 h')
 | Ms {c N ae h e b4 h'}:dA P G (.code c N ae h e b4 h')->e≠.normal->dA P G (.code (.loop c) N ae h e b4 h')
 | scope {c N ae h e b4 h'}:dA P G (.code c N ae h e b4 h')->dA P G (.code (.scope c) N ae h e b4 h')
 | region {id ops N ae h b4 h'}:dA P G (.ops ops ops.toList N ae h b4 h')->dA P G (.code (.region id ops false) N ae h .normal b4 h')
 | draw {id ops N ae h b4 h'} (pre:Nat->Nat->Bool) (val:Nat->U) (W:Nat->Bool) (cls:Nat->EL) (m:Nat) (ak:Nat->Nat) (fP sg:Nat->aO) (gJ:Nat->Nat) (cells:Nat->List U)
   (hu:tE ops pre)
   (qe:∀ (i:Nat) (o:Oper),ops[i]? = some o->p0 N o.dst=true)
   (aE:oM h (fP 0)) (hm:h'=fP m) (G2:b4=fun t=>match jW ops t with | some i=>val i | none=>ae t)
   (yf:∀ (i:Nat) (o:Oper),ops[i]? = some o->W i=true->cls i=.gC->∃ q,q<m/\ak q=i)
   (CW:∀ q,q<m->∃ o,ops[ak q]? = some o/\W (ak q)=true/\cls (ak q)=.gC)
   (nI:∀ q fF,q<m->fF<m->q<fF->pre (ak fF) (ak q)=true)
   (et:∀ q fF,q<m->fF<m->ak q=ak fF->q=fF)
   (wy:∀ (i:Nat) (o:Oper),ops[i]? = some o->kS ops (nu ops pre val ae i o) o=some (W i))
   (GN:∀ (i:Nat) (o:Oper),ops[i]? = some o->W i=false->val i=hv)
   (GF:∀ (i:Nat) (o:Oper),ops[i]? = some o->W i=true->cls i=.pure->∀ k,zW pre m ak i k->c5 P (fP k) (c2 G (nu ops pre val ae i o)) o.op=some (.val (val i) (fP k)))
   (lD:∀ (i:Nat) (o:Oper),ops[i]? = some o->W i=true->cls i=.new->∃ mk,nO P (c2 G (nu ops pre val ae i o)) o.op=some (cells i,mk)/\val i=mk (gJ i)/\h.n<=gJ i ∧
    ∀ k,zW pre m ak i k->(fP k).f (gJ i)=.cells (cells i).length (cells i))
   (F6:∀ (i j:Nat) (o cR:Oper),ops[i]? = some o->ops[j]? = some cR->W i=true->W j=true->cls i=.new->cls j=.new->gJ i=gJ j->i=j)
   (F7:∀ (i:Nat) (o:Oper) (q:Nat),ops[i]? = some o->W i=true->cls i=.new->q<m->gJ i<(fP q).n\/(sg q).n<=gJ i)
   (qi:∀ q,q<m->oM (sg q) (fP (q+1)))
   (jL:∀ (q:Nat) (o:Oper),q<m->ops[ak q]? = some o->dA P G (.op o.op (nu ops pre val ae (ak q) o) (fP q) (val (ak q)) (sg q))) :
   dA P G (.code (.region id ops true) N ae h .normal b4 h')
 | WC {all N ae h}:dA P G (.ops all [] N ae h ae h)
 | WE {all o l N ae h b4 h'}:kS all ae o=some false->p0 N o.dst=true->dA P G (.ops all l N (ht ae o.dst hv) h b4 h')->dA P G (.ops all (o::l) N ae h b4 h')
 | WD {all o l N ae h v h1 b4 h'}:kS all ae o=some true->p0 N o.dst=true->dA P G (.op o.op ae h v h1)->dA P G (.ops all l N (ht ae o.dst v) h1 b4 h')->dA P G (.ops all (o::l) N ae h b4 h')
 | HB {op ae h v h'}:c5 P h (c2 G ae) op=some (.val v h')->dA P G (.op op ae h v h')
 | A3 {op ae h f args h1 v h'}:c5 P h (c2 G ae) op=some (.call f args h1)->dA P G (.call f args h1 v h')->dA P G (.op op ae h v h')
 | Iq {op ae h v h' dF ad}:dA P G (.op op ae h v h')->q0 h' ad->qZ h' ad v dF->dA P G (.op op ae h dF ad)
 | inline {f fn c args h e b4 h' r}:P.funcs[f]? = some fn->fn.body=some c->
   dA P G (.code c (args.length+(fn.ntmps - args.length)) (fun t=>args.getD t hv) h e b4 h')->(e=.normal\/e=.ret)->H0 P h' b4 fn=some r->dA P G (.call f args h r h')
 | pure {f args h r}:bw P G f args r->bg args=true->dA P G (.call f args h r h)
 | M5 {f args iC h r}:bw P G f iC r->iC.length=args.length->(∀ (j:Nat) (c c' : U),args[j]? = some c->iC[j]? = some c'->fX h c c')->r.flat=true->dA P G (.call f args h r h)
 | ext {f args h r h'}:sd P G f args h r h'->dA P G (.call f args h r h')
 | M6 {f args iC h r}:jI P G f iC r->iC.length=args.length->(∀ (j:Nat) (c c' : U),args[j]? = some c->iC[j]? = some c'->fX h c c')->dA P G (.call f args h r h)
section
variable {P:Program} {G:Nat->U}
structure ni (N:Nat) (w:World) (R:Nat->Prop) (h:aO) (μ:cP) (ae:Nat->U) (a:Act) :Prop where
 size:a.tmps.size=N
 defers:a.defers=[]
 val:∀ t,aP w R h μ (ae t) (a.tmps.getD t undef)
theorem tG.ext {w w' : World} {R:Nat->Prop} {h h' : aO} {μ μ' : cP} (g:tG G w R h μ) (e:dL w h μ w' h' μ') :tG G w' R h' μ':=fun i=>⟨(g i).1,(g i).2.ext e⟩
theorem ni.ext {N:Nat} {w w' : World} {R:Nat->Prop} {h h' : aO} {μ μ' : cP} {ae:Nat->U} {a:Act} (s:ni N w R h μ ae a) (e:dL w h μ w' h' μ') :ni N w' R h' μ' ae a:=
 ⟨s.size,s.defers,fun t=>(s.val t).ext e⟩
theorem ni.c2 {N:Nat} {w:World} {R:Nat->Prop} {h:aO} {μ:cP} {ae:Nat->U} {a:Act} (s:ni N w R h μ ae a) (g:tG G w R h μ) (x:Operand) :aP w R h μ (c2 G ae x) (a.eval x) :=by
 cases x with
 | tmp t=>exact s.val t
 | const v=>exact aP.wU v
 | global i=>exact (g i).2
 | func f=>exact .fn f [] [] #[] #[] rfl rfl (fun _ _ _ aG=>by simp at aG) (fun _ _ _ aG=>by simp at aG)
theorem Ol {w:World} {R:Nat->Prop} {h:aO} {μ:cP}:aP w R h μ hv undef:=.bE [] #[] rfl (fun _ _ _ aG=>by simp at aG)
theorem ni.put {N:Nat} {w:World} {R:Nat->Prop} {h:aO} {μ:cP} {ae:Nat->U} {a:Act} (s:ni N w R h μ ae a) {dst:Option Tmp} (bH:p0 N dst=true) {c:U} {v:Value} (aq:aP w R h μ c v) :
  ni N w R h μ (ht ae dst c) (a.put dst v) :=by
 cases dst with
 | none=>exact s
 | some d=>
  have aN:d<a.tmps.size:=by rw[s.size]; simpa [p0] using bH
  refine⟨by simp[Act.put,s.size],s.defers,fun t=>?_⟩;simp only[ht,Act.put];by_cases aH:t=d
  ·subst aH;rw[j7];simp[aN];exact aq
  ·rw[cf _ _ _ _ aH];have:=s.val t;simpa [Array.getElem?_setIfInBounds_ne (Ne.symm aH)] using this
theorem Ow {w:World} {R:Nat->Prop} {h:aO} {μ:cP} {ops:Array Oper} {ae:Nat->U} {tmps:Array Value} {o:Oper} {b:Bool} (hw:kS ops ae o=some b)
  (aq:∀ d,(∃ j Bu,o.guard=some (j,Bu)/\(ops[j]?).bind (·.dst)=some d)->aP w R h μ (ae d) (tmps.getD d undef)) :Region.wanted o (yielded ops tmps)=b:=by
 unfold kS at hw;unfold Region.wanted;cases ar:o.guard with
 | none=>rw[ar] at hw; simpa using hw
 | some kI=>
  obtain⟨j,Bu⟩:=kI;rw[ar] at hw;simp only at hw ⊢;unfold yielded;cases bH:(ops[j]?).bind (·.dst) with
  | none=>
   rw[bH] at hw;simp only[Option.some.injEq] at hw;subst hw;simp
  | some d=>
   rw[bH] at hw;have AG:=aq d ⟨j,Bu,ar,bH⟩;simp only[Option.bind_some] at hw ⊢;cases aH:tmps[d]? with
   | none=>
    have aL:tmps.getD d undef=undef:=by simp[Array.getD_eq_getD_getElem?,aH]
    rw[aL] at AG;cases ah:ae d<;>rw[ah] at hw AG<;>simp at hw<;>try (subst hw; simp)
    all_goals cases AG
   | some v=>
    have aL:tmps.getD d undef=v:=by simp[Array.getD_eq_getD_getElem?,aH]
    rw[aL] at AG;cases ah:ae d<;>rw[ah] at hw AG<;>simp at hw
    all_goals (cases AG<;>(subst hw; simp))
def pI (P:Program) (n:Nat) (c:Code) (Q:Exit->Act->World->Prop) (a:Act) (w:World) :Prop:=
 match c with
 | .loop c'=>Code.rounds P c' Q n a w
 | c=>c.wp P Q a w
theorem pI.wp {n:Nat} {c:Code} {Q:Exit->Act->World->Prop} {a:Act} {w:World} (h:pI P n c Q a w) :c.wp P Q a w:=by
 cases c<;>first | exact wp_loop_rounds n h | exact h
def xx (P:Program) (G:Nat->U) :J->Prop
 | .code c N ae h e b4 h'=>∃ n,∀ (R:Nat->Prop) (B:Nat) (w:World) (μ:cP) (a:Act) (Q:Exit->Act->World->Prop),b9 R B w h μ->tG G w R h μ->ni N w R h μ ae a->
   (∀ e9 w' μ',dL w h μ w' h' μ'->b9 R B w' h' μ'->ni N w' R h' μ' b4 e9->Q e.out e9 w')->pI P n c Q a w
 | .ops all l N ae h b4 h'=>∀ (R:Nat->Prop) (B:Nat) (w:World) (μ:cP) (a:Act) (Q:Exit->Act->World->Prop),b9 R B w h μ->tG G w R h μ->ni N w R h μ ae a->
   (∀ e9 w' μ',dL w h μ w' h' μ'->b9 R B w' h' μ'->ni N w' R h' μ' b4 e9->Q .normal e9 w')->wpList P all Q l a w
 | .op op ae h v h'=>∀ (R:Nat->Prop) (B:Nat) (w:World) (μ:cP) (a:Act) (o:Oper) (K:Act->World->Prop) (Q:Exit->Act->World->Prop),o.op=op->b9 R B w h μ->tG G w R h μ->
   (∀ x,aP w R h μ (c2 G ae x) (a.eval x))->(∀ aY w' μ',dL w h μ w' h' μ'->b9 R B w' h' μ'->aP w' R h' μ' v aY->K (a.put o.dst aY) w')->o.wp P a w K Q
 | .call f args h r h'=>sd P G f args h r h'
theorem akm {N:Nat} {w:World} {R:Nat->Prop} {B:Nat} {h:aO} {μ:cP} {ae:Nat->U} {a:Act} (rel:b9 R B w h μ) (s:ni N w R h μ ae a) {fn:Func} {r:U} (az:H0 P h ae fn=some r) :
  ∃ v,(results fn a.tmps).run P w=.ok v w/\aP w R h μ r v:=by
 have one:∀ (x:ResultVar) (c:U),Bg P h ae x=some c->∃ v,(∀ F:ResultVar->Sem Value,(∀ t,F (.tmp t)=pure (a.tmps.getD t undef))->(∀ p t,F (.cell p t)=(do loadVar t (<-asAddr (a.tmps.getD p undef))))->(F x).run P w=.ok v w)/\aP w R h μ c v:=by
  intro x c af;cases x with
  | tmp t=>
   simp only[Bg,Option.some.injEq] at af; subst af;exact⟨_,fun F h1 _=>by rw[h1]; rfl,s.val t⟩
  | cell p t=>
   simp only[Bg] at af;obtain⟨v,h1,ad⟩:=V0 (P:=P) rel af (s.val p);refine⟨v,fun F _ o0=>?_,ad⟩;rw[o0];cases ay:a.tmps.getD p undef with
   | pointer OS=>
    cases OS with
    | none=>rw[ay] at h1; simp[Instr.loadAt,Instr.sureAddr] at h1
    | some OS=>rw[ay] at h1; simpa [Instr.loadAt,Instr.sureAddr,asAddr,ay] using h1
   | _=>rw[ay] at h1; simp[Instr.loadAt,Instr.sureAddr] at h1
 have all:∀ (l:List ResultVar) (cs:List U),w6 P h ae l=some cs->∃ vs:List Value,(∀ F:ResultVar->Sem Value,(∀ t,F (.tmp t)=pure (a.tmps.getD t undef))->(∀ p t,F (.cell p t)=(do loadVar t (<-asAddr (a.tmps.getD p undef))))->(l.mapM F).run P w=.ok vs w) ∧
   vs.length=cs.length/\∀ (j:Nat) (c:U) (v:Value),cs[j]? = some c->vs[j]? = some v->aP w R h μ c v:=by
  intro l
  induction l with
  | nil=>intro cs ah; simp only[w6,Option.some.injEq] at ah; subst ah; exact⟨[],fun F _ _=>by simp,rfl,fun _ _ _ aG=>by simp at aG⟩
  | cons x l aI=>
   intro cs ah;unfold w6 at ah;split at ah
   ·rename_i c cs' af al;simp only[Option.some.injEq] at ah; subst ah;obtain⟨v,h1,ad⟩:=one x c af;obtain⟨vs,aj,aF,aU⟩:=aI cs' al;refine⟨v::vs,fun F b6 bJ=>by simp only[List.mapM_cons,Sem.run_bind,h1 F b6 bJ,Result.andThen_ok,aj F b6 bJ,Sem.run_pure],by simp[aF],fun j c' aY ai aq=>?_⟩;cases j with
    | zero=>simp at ai aq; subst ai aq; exact ad
    | succ j=>exact aU j c' aY (by simpa using ai) (by simpa using aq)
   ·cases ah
 unfold H0 at az;cases al:w6 P h ae fn.results.toList with
 | none=>rw[al] at az; cases az
 | some cs=>
  rw[al] at az;simp only[Option.map_some,Option.some.injEq] at az; subst az;obtain⟨vs,h1,ad,aj⟩:=all _ _ al;have ho:(results fn a.tmps).run P w=.ok (if aG:vs.toArray.size=1 then vs.toArray[0] else .tuple vs.toArray) w:=by
   unfold results;rw[Array.mapM_eq_mapM_toList];simp only[Sem.run_bind,Sem.run_map];rw[h1 _ (fun _=>rfl) (fun _ _=>rfl)];simp
  refine⟨_,ho,?_⟩
  match cs,vs,ad,aj with
  | [],[],_,_=>exact .bE [] #[] rfl (fun _ _ _ aG=>by simp at aG)
  | [c],[v],_,aj=>exact aj 0 c v rfl rfl
  | c::c'::cs,v::aY::vs,ad,aj=>
   simp only[List.size_toArray,List.length_cons];rw[dif_neg (by omega)];exact .bE _ _ (by simpa using ad) (fun j x y ai aA=>aj j x y ai (by simpa using aA))
theorem xG {w:World} {R:Nat->Prop} {h:aO} {μ:cP} {c:U} {v:Value} (aq:aP w R h μ c v) :c.closed=true->fD w (fun k=>R k/\¬ l0 h μ k) c v:=by
 have al:∀ (cs:List U),bg cs=true->∀ (j:Nat) (c:U),cs[j]? = some c->c.closed=true:=by
  intro cs
  induction cs with
  | nil=>intro _ j c ai; simp at ai
  | cons x cs aI=>
   intro ah j c ai;simp only[bg,Bool.and_eq_true] at ah;cases j with
   | zero=>simp at ai; subst ai; exact ah.1
   | succ j=>exact aI ah.2 j c (by simpa using ai)
 have C5:∀ (es:List (List U)),B8 es=true->∀ (i:Nat) (e:List U),es[i]? = some e->bg e=true:=by
  intro es
  induction es with
  | nil=>intro _ j c ai; simp at ai
  | cons x cs aI=>
   intro ah j c ai;simp only[B8,Bool.and_eq_true] at ah;cases j with
   | zero=>simp at ai; subst ai; exact ah.1
   | succ j=>exact aI ah.2 j c (by simpa using ai)
 have cell:∀ b o v,Cell w R h μ b o v->Cell w (fun k=>R k/\¬ l0 h μ k) aO.empty (fun _=>none) b o v:=fun b o v ah=>
  ⟨ah.here,ah.one,⟨ah.ro,ah.free⟩,fun ⟨b,m,h1,ad,aj⟩=>by cases ad⟩
 unfold fD
 induction aq with
 | bool b=>exact fun _=>.bool b
 | int k n=>exact fun _=>.int k n
 | str bs=>exact fun _=>.str bs
 | jE=>exact fun _=>.jE
 | aW=>exact fun _=>.aW
 | hS=>exact fun _=>.hS
 | jC=>exact fun _=>.jC
 | jD=>exact fun _=>.jD
 | aJ cs vs bl h1 aq aI=>exact fun ah=>.aJ cs vs bl h1 fun j c v ai fy=>aI j c v ai fy (al cs (by simpa [U.closed] using ah) j c ai)
 | bE cs vs bl aq aI=>exact fun ah=>.bE cs vs bl fun j c v ai fy=>aI j c v ai fy (al cs (by simpa [U.closed] using ah) j c ai)
 | ptr=>exact fun ah=>by simp[U.closed] at ah
 | m2=>exact fun ah=>by simp[U.closed] at ah
 | b3 cs off blk o ey ah aq aI=>exact fun eb=>.b3 cs off blk o ey (fun j ai=>cell _ _ _ (ah j ai)) fun j c ai=>aI j c ai (al cs (by simpa [U.closed] using eb) j c ai)
 | au=>exact fun ah=>by simp[U.closed] at ah
 | gH=>exact fun ah=>by simp[U.closed] at ah
 | hV=>exact fun ah=>by simp[U.closed] at ah
 | bR z es blk off cap ey db aw ah aq aI=>exact fun eb=>.bR z es blk off cap ey db aw (fun i j av ai=>cell _ _ _ (ah i j av ai)) fun i e am j c ai=>aI i e am j c ai (al e (C5 es (by simpa [U.closed] using eb) i e am) j c ai)
 | fO z a cap=>exact fun _=>.fO z a cap
 | fn f first fY fs cs aD ah h1 ad dd hQ=>
  intro eb;simp only[U.closed,Bool.and_eq_true] at eb;exact .fn f first fY fs cs aD ah (fun j c v ai fy=>dd j c v ai fy (al _ eb.1 j c ai)) fun j c v ai fy=>hQ j c v ai fy (al _ eb.2 j c ai)
 | mp=>exact fun ah=>by simp[U.closed] at ah
 | it=>exact fun ah=>by simp[U.closed] at ah
 | gQ t c v aq aI=>exact fun eb=>.gQ t c v (aI (by simpa [U.closed] using eb))
 | mD l=>exact fun _=>.mD l
 | bad v=>exact fun _=>.bad v
theorem B9 {cs:List U} (ah:bg cs=true) :∀ (j:Nat) (c:U),cs[j]? = some c->c.closed=true:=by
 induction cs with
 | nil=>intro j c ai; simp at ai
 | cons x cs aI=>
  intro j c ai;simp only[bg,Bool.and_eq_true] at ah;cases j with
  | zero=>simp at ai; subst ai; exact ah.1
  | succ j=>exact aI ah.2 j c (by simpa using ai)
theorem fD.up {w:World} {A:Nat->Prop} {R:Nat->Prop} {h:aO} {μ:cP} {c:U} {v:Value} (aq:fD w A c v) (cL:∀ k,k<w.heap.size->A k->R k/\¬ l0 h μ k) :aP w R h μ c v:=by
 have cell:∀ b o v,Cell w A aO.empty (fun _=>none) b o v->Cell w R h μ b o v:=fun b o v ah=>
  have ag:b<w.heap.size:=World.block_lt_of_cell? _ _ ah.here
  ⟨ah.here,ah.one,(cL b ag ah.ro).1,(cL b ag ah.ro).2⟩
 unfold fD at aq
 induction aq with
 | bool b=>exact .bool b
 | int k n=>exact .int k n
 | str bs=>exact .str bs
 | jE=>exact .jE
 | aW=>exact .aW
 | hS=>exact .hS
 | jC=>exact .jC
 | jD=>exact .jD
 | aJ cs vs bl h1 aq aI=>exact .aJ cs vs bl h1 aI
 | bE cs vs bl aq aI=>exact .bE cs vs bl aI
 | ptr b off sz cs m ag hm=>cases hm
 | m2 b off sz a ar=>rcases ar with ar | ⟨n,cs,ar,_⟩<;>cases ar
 | b3 cs off blk o ey ah aq aI=>exact .b3 cs off blk o ey (fun j ai=>cell _ _ _ (ah j ai)) aI
 | au z b off len cap sz cap' cs m ag hm=>cases hm
 | gH z b off len cap sz cap' a al ah ar=>rcases ar with ar | ⟨n,cs,ar,_⟩<;>cases ar
 | hV z b off sz a cs m ag hm=>cases hm
 | bR z es blk off cap ey db aw ah aq aI=>exact .bR z es blk off cap ey db aw (fun i j av ai=>cell _ _ _ (ah i j av ai)) aI
 | fO z a cap=>exact .fO z a cap
 | fn f first fY fs cs aD ah h1 ad dd hQ=>exact .fn f first fY fs cs aD ah dd hQ
 | mp b m ag hm=>cases hm
 | it b m ag hm=>cases hm
 | gQ t c v aq aI=>exact .gQ t c v aI
 | mD l=>exact .mD l
 | bad v=>exact .bad v
theorem WL {R:Nat->Prop} {B:Nat} {w:World} {h:aO} {μ:cP} (rel:b9 R B w h μ) {k:Nat} (ap:l0 h μ k) :k<w.heap.size:=by
 obtain⟨b,m,h1,ad,rfl⟩:=ap;exact rel.lt h1 ad
theorem Ef {R:Nat->Prop} {B:Nat} {w w' : World} {h:aO} {μ:cP} (rel:b9 R B w h μ) (ag:zq w w') :dL w h μ w' h μ/\b9 R B w' h μ:=by
 have e:dL w h μ w' h μ:=⟨⟨ag.os,ag.tape,ag.output,ag.size,fun k hk _=>ag.block k hk,fun _ ap=>.inl ap,fun b sz cs m h1 ad=>.inl ⟨cs,h1,ad⟩,fun _ _ ar=>ar,fun _ _ _ h1 ad=>⟨h1,ad⟩,Nat.le_refl _,ag.drawn⟩,fun _ _ hm=>hm⟩
 refine⟨e,fun b m hm=>?_,rel.inj,rel.base,rel.fresh,rel.up,Nat.le_trans rel.size ag.size,rel.la⟩;cases al:live (h.f b) with
 | false=>cases ah:h.f b<;>first | trivial | (rw[ah] at al; cases al)
 | true=>exact (rel.blk b m hm).ext e.toExt0 (ag.block _ (rel.lt al hm))
theorem Xy {w:World} {R:Nat->Prop} {B:Nat} {h:aO} {μ:cP} (rel:b9 R B w h μ) :∀ {c c' : U},fX h c c'->∀ {v:Value},aP w R h μ c v->fD w R c' v:=by
 intro c c' az;have rl:∀ {b sz:Nat} {cs:List U} {m:M},h.f b=.cells sz cs->μ b=some m->∃ f:Nat->Value,∀ (j:Nat) (c:U),cs[j]? = some c->Cell w R aO.empty (fun _=>none) m.r (m.s+j) (f j)/\aP w R h μ c (f j) :=by
  intro b sz cs m ag hm;have hblk:=rel.blk b m hm;rw[ag] at hblk;obtain⟨ci,ce,arr,t,gh,hw,ax,aD,mM⟩:=hblk;have og:R m.r:=rel.up _ (rel.base b m (by rw[ag]; rfl) hm);refine⟨fun j=>(arr[m.s+j]?).getD undef,fun j c ai=>?_⟩;obtain⟨v,h1,ad,aj⟩:=mM _ _ ai;refine⟨⟨?_,by simp only[h1,Option.getD_some]; exact ad,og,fun ⟨b,m,h1,ad,aj⟩=>by cases ad⟩,by simp only[h1,Option.getD_some]; exact aj⟩;simp only[World.cell?,hw,h1,Option.getD_some,Option.isSome_none];rfl
 induction az with
 | same c ah=>
  intro v aq;exact (fD.up (xG aq ah) fun k _ hk=>⟨hk.1,fun ⟨b,m,h1,ad,aj⟩=>by cases ad⟩:aP w R aO.empty (fun _=>none) _ v)
 | aJ cs cs' al h aI=>
  intro v aq;cases aq with
  | aJ _ vs gk h1 aq=>
   refine .aJ cs' vs (by omega) h1 (fun j c' v ai fy=>?_);have aN:j<cs.length:=by rw[<-al]; exact (List.getElem?_eq_some_iff.1 ai).1
   exact aI j cs[j] c' (List.getElem?_eq_getElem aN) ai (aq j cs[j] v (List.getElem?_eq_getElem aN) fy)
 | bE cs cs' al h aI=>
  intro v aq;cases aq with
  | bE _ vs gk aq=>
   refine .bE cs' vs (by omega) (fun j c' v ai fy=>?_);have aN:j<cs.length:=by rw[<-al]; exact (List.getElem?_eq_some_iff.1 ai).1
   exact aI j cs[j] c' (List.getElem?_eq_getElem aN) ai (aq j cs[j] v (List.getElem?_eq_getElem aN) fy)
 | r2 z b off cap sz=>
  intro v aq;cases aq with
  | au _ _ _ _ _ _ cap' cs m ag hm al ap ah=>exact .fO z _ cap'
  | gH _ _ _ _ _ _ cap' a al ah ar=>exact .fO z _ cap'
  | hV _ _ _ _ a cs m ag hm=>exact .fO z a 0
 | ptr b off sz cs cs' ag al h aI=>
  intro v aq;cases aq with
  | m2 _ _ _ a ar=>
   exfalso;rcases ar with ar | ⟨n,hB,ar,aN⟩
   ·rw[ag] at ar; cases ar
   ·rw[ag] at ar; cases ar; omega
  | ptr _ _ _ hB m fT hm=>
   obtain⟨f,aD⟩:=rl ag hm;refine .b3 cs' off m.r m.s f (fun j ai=>?_) (fun j c' ai=>?_)
   ·exact (aD j cs[j] (List.getElem?_eq_getElem (by omega))).1
   ·have aN:j<cs.length:=by rw[<-al]; exact (List.getElem?_eq_some_iff.1 ai).1
    exact aI j cs[j] c' (List.getElem?_eq_getElem aN) ai (aD j cs[j] (List.getElem?_eq_getElem aN)).2
 | au z b off len cap sz cs es ag al aw dQ h aI=>
  intro v aq;cases aq with
  | hV _ _ _ _ a hB m fT kf=>
   obtain rfl:=List.length_eq_zero_iff.1 al;exact .fO z a 0
  | gH _ _ _ _ _ _ cap' a al ah ar=>
   exfalso;rcases ar with ar | ⟨n,hB,ar,aN⟩
   ·rw[ag] at ar; cases ar
   ·rw[ag] at ar; cases ar; omega
  | au _ _ _ _ _ _ cap' hB m fT hm g0 ap ah=>
   have c3:len<=cap':=by rcases ah with ⟨_,h⟩ | ⟨_,h,_⟩<;>omega
   obtain⟨f,aD⟩:=rl ag hm;subst al;have aN:∀ i j,i<es.length->j<z->off+(i*z+j)<cs.length:=by
    intro i j av ai;have:i*z+z<=es.length*z:=by rw[<-Nat.succ_mul]; exact Nat.mul_le_mul_right _ av
    omega
   refine .bR z es m.r (m.s+off) cap' (fun i j=>f (off+(i*z+j))) c3 aw (fun i j av ai=>?_) (fun i e am j c' ai=>?_)
   ·have:=(aD _ _ (List.getElem?_eq_getElem (aN i j av ai))).1;rw[<-Nat.add_assoc] at this;exact this
   ·have av:i<es.length:=(List.getElem?_eq_some_iff.1 am).1;have mR:j<z:=by rw[<-aw e (List.mem_of_getElem? am)]; exact (List.getElem?_eq_some_iff.1 ai).1
    exact aI i j e _ c' am ai (List.getElem?_eq_getElem (aN i j av mR)) (aD _ _ (List.getElem?_eq_getElem (aN i j av mR))).2
theorem FD:∀ {cs:List U},l7 cs=true->∀ (j:Nat) (c:U),cs[j]? = some c->c.flat=true:=by
 intro cs
 induction cs with
 | nil=>intro _ j c h; simp at h
 | cons x cs aI=>
  intro ah j c ai;simp only[l7,Bool.and_eq_true] at ah;cases j with
  | zero=>simp at ai; subst ai; exact ah.1
  | succ j=>exact aI ah.2 j c (by simpa using ai)
theorem SD {w w' : World} {A R:Nat->Prop} {h h' : aO} {μ μ' : cP} {c:U} {v:Value} (aq:aP w A h μ c v) (aD:c.flat=true) :aP w' R h' μ' c v:=by
 induction aq with
 | bool b=>exact .bool b
 | int k n=>exact .int k n
 | str bs=>exact .str bs
 | jE=>exact .jE
 | aW=>exact .aW
 | hS=>exact .hS
 | jC=>exact .jC
 | jD=>exact .jD
 | aJ cs vs bl h1 aq aI=>exact .aJ cs vs bl h1 (fun j c v ai fy=>aI j c v ai fy (FD (by simpa only [U.flat] using aD) j c ai))
 | bE cs vs bl aq aI=>exact .bE cs vs bl (fun j c v ai fy=>aI j c v ai fy (FD (by simpa only [U.flat] using aD) j c ai))
 | gQ t c v aq aI=>exact .gQ t c v (aI (by simpa only [U.flat] using aD))
 | mD l=>exact .mD l
 | _=>simp[U.flat] at aD
theorem ajn {f:FuncId} {args iC:List U} {r:U} {h:aO} (ay:bw P G f iC r) (bl:iC.length=args.length) (k6:∀ (j:Nat) (c c' : U),args[j]? = some c->iC[j]? = some c'->fX h c c')
  (fc:r.flat=true) :xx P G (.call f args h r h) :=by
 intro R B w μ vs rel g al aq;refine (ay w R vs (fun i=>?_) (by omega) (fun j c' v ai fy=>?_)).mono ?_
 ·exact (fD.up (xG (g i).2 (g i).1) fun k _ hk=>⟨hk.1,fun ⟨b,m,h1,ad,aj⟩=>by cases ad⟩:aP w R aO.empty (fun _=>none) _ _)
 ·have aN:j<args.length:=by rw[<-bl]; exact (List.getElem?_eq_some_iff.1 ai).1
  exact Xy rel (k6 j args[j] c' (List.getElem?_eq_getElem aN) ai) (aq j args[j] v (List.getElem?_eq_getElem aN) fy)
 ·rintro e w' ⟨v,rfl,ag,az⟩;obtain⟨b6,bJ⟩:=Ef rel ag;exact⟨v,μ,rfl,b6,bJ,SD az fc⟩
theorem ajo {f:FuncId} {args iC:List U} {r:U} {h:aO} (ay:jI P G f iC r) (bl:iC.length=args.length) (k6:∀ (j:Nat) (c c' : U),args[j]? = some c->iC[j]? = some c'->fX h c c') :xx P G (.call f args h r h) :=by
 intro R B w μ vs rel g al aq;refine (ay w R vs (fun i=>?_) (by omega) (fun j c' v ai fy=>?_)).mono ?_
 ·exact (fD.up (xG (g i).2 (g i).1) fun k _ hk=>⟨hk.1,fun ⟨b,m,h1,ad,aj⟩=>by cases ad⟩:aP w R aO.empty (fun _=>none) _ _)
 ·have aN:j<args.length:=by rw[<-bl]; exact (List.getElem?_eq_some_iff.1 ai).1
  exact Xy rel (k6 j args[j] c' (List.getElem?_eq_getElem aN) ai) (aq j args[j] v (List.getElem?_eq_getElem aN) fy)
 ·rintro e w' ⟨v,rfl,ag,az⟩;obtain⟨b6,bJ⟩:=Ef rel ag;exact⟨v,μ,rfl,b6,bJ,az.up fun k hk cL=>⟨rel.up k (Nat.le_trans rel.size cL),fun ap=>by have:=WL rel ap; omega⟩⟩
theorem jI.Ex {f:FuncId} {args:List U} {r:U} (ay:jI P G f args r) :bw P G f args r:=fun w A vs ar al aq=>
 (ay w A vs ar al aq).mono fun e w' ⟨v,h1,ad,aj⟩=>⟨v,h1,ad,(fD.up aj fun k _ hk=>⟨.inr hk,fun ⟨b,m,h1,ad,aj⟩=>by cases ad⟩:aP w' _ aO.empty (fun _=>none) _ _)⟩
theorem ajp {f:FuncId} {args:List U} {r:U} {h:aO} (ay:bw P G f args r) (ah:bg args=true) :xx P G (.call f args h r h) :=by
 intro R B w μ vs rel g al aq;refine (ay w (fun k=>R k/\¬ l0 h μ k) vs (fun i=>?_) al (fun j c v ai fy=>xG (aq j c v ai fy) (B9 ah j c ai))).mono ?_
 ·exact xG (g i).2 (g i).1
 ·rintro e w' ⟨v,rfl,ag,az⟩;obtain⟨b6,bJ⟩:=Ef rel ag;refine⟨v,μ,rfl,b6,bJ,az.up (fun k hk cL=>?_)⟩;rcases cL with cL | cL
  ·exact cL
  ·exact⟨rel.up k (Nat.le_trans rel.size cL),fun ap=>by have:=WL rel ap; omega⟩
end

section
variable {P:Program} {G:Nat->U}
theorem aiw {w:World} {R:Nat->Prop} {h:aO} {μ:cP} {aB:Operand->U} {ek:Operand->Value} (c9:∀ x,aP w R h μ (aB x) (ek x)) (o:Oper) {cs:List U} {mk:Nat->U} (aC:nO P aB o.op=some (cs,mk)) :
  ∃ v arr t,(execOp ek o).run P w=.ok (.value v) (w.alloc (.cells arr t))/\lq w R h μ cs arr ∧
   ∀ (w' : World) (tL:Nat->Prop) (h' : aO) (μ' : cP) (b:Nat),h'.f b=.cells cs.length cs->μ' b=some ⟨w.heap.size,0,arr.size⟩->aP w' tL h' μ' (mk b) v:=by
 obtain⟨dst,op,type,pos,after,guard⟩:=o;cases op<;>simp only[nO] at aC<;>try (cases aC; done)
 case alloc t=>
  cases aw:hJ P t with
  | none=>rw[aw] at aC; cases aC
  | some z=>
   rw[aw] at aC;simp only[Option.map_some,Option.some.injEq,Prod.mk.injEq] at aC;obtain⟨rfl,rfl⟩:=aC;obtain⟨v,aq,az⟩:=xr (P:=P) (w:=w) (R:=R) (h:=h) (μ:=μ) aw;refine⟨.pointer (some ⟨w.heap.size,0,none⟩),v.cells,t,by simp[execOp,Instr.alloc,aq,newVar,newRow],az,fun w' tL h' μ' b ag hm=>?_⟩;have:=aP.ptr (w:=w') (R:=tL) (h:=h') (μ:=μ') b 0 z.length z _ ag hm;simpa using this
 case box t x=>
  cases aw:(aB x).cells with
  | none=>rw[aw] at aC; cases aC
  | some z=>
   rw[aw] at aC;simp only[Option.map_some,Option.some.injEq,Prod.mk.injEq] at aC;obtain⟨rfl,rfl⟩:=aC;obtain⟨b6,bJ⟩:=Fg (c9 x) aw;refine⟨.pointer (some ⟨w.heap.size,0,none⟩),(ek x).cells,t,by simp[execOp,Instr.box,newVar,newRow],⟨b6,bJ⟩,fun w' tL h' μ' b ag hm=>?_⟩;have:=aP.ptr (w:=w') (R:=tL) (h:=h') (μ:=μ') b 0 z.length z _ ag hm;simpa using this
 case buildSlice t len parts=>
  cases am:iD P t with
  | none=>rw[am] at aC; cases aC
  | some e=>
  rw[am] at aC;simp only at aC;cases aw:cB P e with
  | none=>rw[aw] at aC; cases aC
  | some z=>
  cases iZ:hJ P e with
  | none=>rw[aw,iZ] at aC; cases aC
  | some zero=>
  rw[aw,iZ] at aC;simp only at aC;split at aC
  ·rename_i jM;cases aD:hD (fun i=>some (i*z,z)) (dy zero len) (parts.toList.map fun p=>(p.1,aB p.2)) with
   | none=>rw[aD] at aC; cases aC
   | some cs'=>
    rw[aD] at aC;simp only[Option.map_some,Option.some.injEq,Prod.mk.injEq] at aC;obtain⟨rfl,rfl⟩:=aC;obtain⟨b6,bJ⟩:=MW c9 parts;obtain⟨eb,arr,ho,ad⟩:=Pw am aw iZ jM.1 jM.2 aD b6 bJ;refine⟨.slice (some ⟨w.heap.size,0,none⟩) len len,arr,e,by simp[execOp,ho],ad,fun w' tL h' μ' b ag hm=>?_⟩;rw[eb] at ag;have:=aP.au (w:=w') (R:=tL) (h:=h') (μ:=μ') z b 0 len len (len*z) len _ _ ag hm (Nat.le_refl _) (by omega) (.inr ⟨by omega,Nat.le_refl _,by simp only; rw[ad.1,eb]; omega⟩);simpa using this
  ·cases aC
 case makeSlice t l c=>
  split at aC
  ·rename_i e li hA am gx dx;obtain⟨kl,lC⟩:=sn gx (c9 l);obtain⟨kc,iW⟩:=sn dx (c9 c);cases aw:cB P e with
   | none=>rw[aw] at aC; cases aC
   | some z=>
   cases ep:iQ P e with
   | none=>rw[aw,ep] at aC; cases aC
   | some by_=>
   cases iZ:hJ P e with
   | none=>rw[aw,ep,iZ] at aC; cases aC
   | some zero=>
   rw[aw,ep,iZ] at aC;simp only at aC;split at aC
   ·rename_i jM;obtain⟨hO,aE,mi,Ga,dN⟩:=jM;simp only[Option.some.injEq,Prod.mk.injEq] at aC;obtain⟨rfl,rfl⟩:=aC;obtain⟨bl,arr,ho,cE⟩:=Wa (w:=w) (R:=R) (h:=h) (μ:=μ) (kl:=kl) (kc:=kc) am aw ep iZ hO aE mi Ga dN;refine⟨.slice (some ⟨w.heap.size,0,none⟩) li.toNat hA.toNat,arr,e,by simp[execOp,lC,iW,ho],cE,fun w' tL h' μ' b ag hm=>?_⟩;rw[bl] at ag;have:=aP.au (w:=w') (R:=tL) (h:=h') (μ:=μ') z b 0 li.toNat hA.toNat (hA.toNat*z) hA.toNat _ _ ag hm (by omega) (by omega) (.inr ⟨by omega,Nat.le_refl _,by simp only; rw[cE.1,bl]; omega⟩);simpa using this
   ·cases aC
  ·cases aC
theorem oM.rel {R:Nat->Prop} {B:Nat} {w:World} {h h' : aO} {μ:cP} (g:oM h h') (rel:b9 R B w h μ) :dL w h μ w h' μ/\b9 R B w h' μ:=by
 have aN:∀ b m,μ b=some m->b<h.n:=fun b m hm=>rel.so hm
 have e:dL w h μ w h' μ:=by
  refine⟨⟨rfl,rfl,rfl,Nat.le_refl _,fun _ _ _=>rfl,?_,?_,?_,?_,g.n,Nat.le_refl _⟩,fun _ _ hm=>hm⟩
  ·rintro k ⟨b,m,al,hm,rfl⟩;rw[g.same b (aN b m hm)] at al;exact .inl ⟨b,m,al,hm,rfl⟩
  ·intro b sz cs m ag hm;exact .inl ⟨cs,by rw[g.same b (aN b m hm)]; exact ag,hm⟩
  ·rintro b sz ar;have ag:b<h.n:=by
    rcases Nat.lt_or_ge b h.n with h1 | h1
    ·exact h1
    ·have:=rel.fresh b h1;rcases ar with ar | ⟨n,cs,ar,_⟩<;>rw[this] at ar<;>cases ar
   rcases ar with ar | ⟨n,cs,ar,iX⟩
   ·exact .inl (by rw[g.same b ag]; exact ar)
   ·exact .inr ⟨n,cs,by rw[g.same b ag]; exact ar,iX⟩
  ·intro b k m ag hm;exact⟨by rw[g.same b (aN b m hm)]; exact ag,hm⟩
 refine⟨e,fun b m hm=>?_,fun b br m cv al db hm b5 az=>?_,fun b m al hm=>?_,g.fresh rel.fresh,rel.up,rel.size,fun b ag=>rel.la b (Nat.le_trans g.n ag)⟩
 ·rw[g.same b (aN b m hm)];exact (rel.blk b m hm).ext e.toExt0 rfl
 ·rw[g.same b (aN b m hm)] at al;rw[g.same br (aN br cv b5)] at db;exact rel.inj b br m cv al db hm b5 az
 ·rw[g.same b (aN b m hm)] at al;exact rel.base b m al hm
theorem YI {K:Act->World->Prop} {Q:Exit->Act->World->Prop} {e:sb} {a:Act} {w:World} (am:e≠.normal) (h:Q e.out a w) :Exit.then K Q e.out a w:=by
 cases e with
 | normal=>exact absurd rfl am
 | exit id=>exact h
 | ret=>exact h
theorem aaJ {id:Nat} {Q:Exit->Act->World->Prop} {e:sb} {a:Act} {w:World} (am:e≠.exit id) (h:Q e.out a w) :Exit.inBlock id Q e.out a w:=by
 cases e with
 | normal=>exact h
 | exit s2=>
  have:s2≠id:=fun aG=>am (by rw[aG])
  simpa [Exit.inBlock,sb.out,this] using h
 | ret=>exact h
def OH (P:Program) (G:Nat->U) :Prop:=
 ∀ {id:Nat} {ops:Array Oper} {N:Nat} {ae:Nat->U} {h:aO} {b4:Nat->U} {h' : aO} (pre:Nat->Nat->Bool) (val:Nat->U) (W:Nat->Bool) (cls:Nat->EL) (m:Nat) (ak:Nat->Nat) (fP sg:Nat->aO) (gJ:Nat->Nat) (cells:Nat->List U),
  tE ops pre->
  (∀ (i:Nat) (o:Oper),ops[i]? = some o->p0 N o.dst=true)->
  oM h (fP 0)->h'=fP m->(b4=fun t=>match jW ops t with | some i=>val i | none=>ae t)->
  (∀ (i:Nat) (o:Oper),ops[i]? = some o->W i=true->cls i=.gC->∃ q,q<m/\ak q=i)->
  (∀ q,q<m->∃ o,ops[ak q]? = some o/\W (ak q)=true/\cls (ak q)=.gC)->
  (∀ q fF,q<m->fF<m->q<fF->pre (ak fF) (ak q)=true)->
  (∀ q fF,q<m->fF<m->ak q=ak fF->q=fF)->
  (∀ (i:Nat) (o:Oper),ops[i]? = some o->kS ops (nu ops pre val ae i o) o=some (W i))->
  (∀ (i:Nat) (o:Oper),ops[i]? = some o->W i=false->val i=hv)->
  (∀ (i:Nat) (o:Oper),ops[i]? = some o->W i=true->cls i=.pure->∀ k,zW pre m ak i k->c5 P (fP k) (c2 G (nu ops pre val ae i o)) o.op=some (.val (val i) (fP k)))->
  (∀ (i:Nat) (o:Oper),ops[i]? = some o->W i=true->cls i=.new->∃ mk,nO P (c2 G (nu ops pre val ae i o)) o.op=some (cells i,mk)/\val i=mk (gJ i)/\h.n<=gJ i ∧
    ∀ k,zW pre m ak i k->(fP k).f (gJ i)=.cells (cells i).length (cells i))->
  (∀ (i j:Nat) (o cR:Oper),ops[i]? = some o->ops[j]? = some cR->W i=true->W j=true->cls i=.new->cls j=.new->gJ i=gJ j->i=j)->
  (∀ (i:Nat) (o:Oper) (q:Nat),ops[i]? = some o->W i=true->cls i=.new->q<m->gJ i<(fP q).n\/(sg q).n<=gJ i)->
  (∀ q,q<m->oM (sg q) (fP (q+1)))->
  (∀ (q:Nat) (o:Oper),q<m->ops[ak q]? = some o->xx P G (.op o.op (nu ops pre val ae (ak q) o) (fP q) (val (ak q)) (sg q)))->
  xx P G (.code (.region id ops true) N ae h .normal b4 h')
theorem q0.ext {h ad:aO} (k:q0 h ad) (w:World) (μ:cP) :dL w h μ w ad μ:=by
 refine⟨⟨rfl,rfl,rfl,Nat.le_refl _,fun _ _ _=>rfl,?_,?_,?_,?_,Nat.le_of_eq k.n.symm,Nat.le_refl _⟩,fun _ _ hm=>hm⟩
 ·rintro r ⟨b,m,al,hm,rfl⟩;refine .inl ⟨b,m,?_,hm,rfl⟩;rcases k.blk b with am | ⟨sz,cs,ah,_⟩
  ·rw[<-am]; exact al
  ·rw[ah]; rfl
 ·intro b sz cs m ag hm;rcases k.blk b with am | ⟨sz',cs',ah,bH | ⟨hB,CI,_⟩⟩
  ·exact .inl ⟨cs,by rw[am]; exact ag,hm⟩
  ·exact .inr (.inl bH)
  ·rw[ag] at ah; cases ah; exact .inl ⟨hB,CI,hm⟩
 ·rintro b sz (ag | ⟨n,cs,ag,aN⟩)
  ·rcases k.blk b with am | ⟨sz',cs',ah,_⟩
   ·exact .inl (am.trans ag)
   ·rw[ag] at ah; cases ah
  ·rcases k.blk b with am | ⟨sz',cs',ah,bH | ⟨hB,CI,_⟩⟩
   ·exact .inr ⟨n,cs,by rw[am]; exact ag,aN⟩
   ·exact .inl bH
   ·rw[ag] at ah; cases ah; exact .inr ⟨n,hB,CI,aN⟩
 ·intro b mX m ag hm;rcases k.blk b with am | ⟨sz',cs',ah,_⟩
  ·exact⟨by rw[am]; exact ag,hm⟩
  ·rw[ah] at ag; cases ag
theorem q0.live {h ad:aO} (k:q0 h ad) {b:Nat} (al:live (ad.f b)=true) :live (h.f b)=true:=by
 rcases k.blk b with am | ⟨sz,cs,ah,_⟩
 ·rw[<-am]; exact al
 ·rw[ah]; rfl
theorem q0.qR {R:Nat->Prop} {B:Nat} {w:World} {h ad:aO} {μ:cP} (rel:b9 R B w h μ) (k:q0 h ad) :∀ {c dv:U},qZ h ad c dv->∀ {v:Value},aP w R h μ c v->aP w R ad μ dv v:=by
 intro c dv az
 induction az with
 | same c=>intro v aq; exact aq.ext (k.ext w μ)
 | aJ cs cs' al h aI=>
  intro v aq;cases aq with
  | aJ _ vs gk h1 aq=>
   refine .aJ cs' vs (by omega) h1 (fun j c' v ai fy=>?_);have aN:j<cs.length:=by rw[<-al]; exact (List.getElem?_eq_some_iff.1 ai).1
   exact aI j cs[j] c' (List.getElem?_eq_getElem aN) ai (aq j cs[j] v (List.getElem?_eq_getElem aN) fy)
 | r2 z b off cap sz=>
  intro v aq;cases aq with
  | au _ _ _ _ _ _ cap' cs m ag hm al ap ah=>exact .fO z _ cap'
  | gH _ _ _ _ _ _ cap' a al ah ar=>exact .fO z _ cap'
  | hV _ _ _ _ a cs m ag hm=>exact .fO z a 0
 | au z b off len cap sz cs es ag bH al aw dQ aq aI=>
  intro v aq;cases aq with
  | hV _ _ _ _ a hB m fT kf=>
   obtain rfl:=List.length_eq_zero_iff.1 al;exact .fO z a 0
  | gH _ _ _ _ _ _ cap' a al ah ar=>
   exfalso;rcases ar with ar | ⟨n,hB,ar,aN⟩
   ·rw[ag] at ar; cases ar
   ·rw[ag] at ar; cases ar; omega
  | au _ _ _ _ _ _ cap' hB m fT hm g0 ap ah=>
   rw[ag] at fT; cases fT;have hblk:=rel.blk b m hm;rw[ag] at hblk;obtain⟨ci,ce,arr,t,gh,hw,ax,aD,mM⟩:=hblk;have c3:len<=cap':=by rcases ah with ⟨_,h⟩ | ⟨_,h,_⟩<;>omega
   have jp:Go.cb.live (h.f b)=true:=by rw[ag]; rfl
   have og:R m.r:=rel.up _ (rel.base b m jp hm);have dH:¬ l0 ad μ m.r:=by
    rintro⟨br,cv,db,b5,kB⟩;have:=rel.inj br b cv m (k.live db) jp b5 hm kB;subst this;rw[bH] at db; cases db
   subst al;have rl:∀ i j,i<es.length->j<z->∃ c v,cs[off+(i*z+j)]? = some c/\arr[m.s+(off+(i*z+j))]? = some v/\v.oneCell'=true/\aP w R h μ c v:=by
    intro i j av ai;have aN:off+(i*z+j)<cs.length:=by
     have:i*z+z<=es.length*z:=by rw[<-Nat.succ_mul]; exact Nat.mul_le_mul_right _ av
     omega
    obtain⟨v,h1,ad,aj⟩:=mM _ _ (List.getElem?_eq_getElem aN);exact⟨_,v,List.getElem?_eq_getElem aN,h1,ad,aj⟩
   refine .bR z es m.r (m.s+off) cap' (fun i j=>(arr[m.s+(off+(i*z+j))]?).getD undef) c3 aw (fun i j av ai=>?_) (fun i e am j c' ai=>?_)
   ·obtain⟨c,v,h1,ad,aj,aF⟩:=rl i j av ai;refine⟨?_,?_,og,dH⟩
    ·simp only[World.cell?,hw,ad,Option.getD_some,Option.isSome_none];rw[show m.s+off+(i*z+j)=m.s+(off+(i*z+j)) by omega,ad]; rfl
    ·rw[ad]; exact aj
   ·have av:i<es.length:=(List.getElem?_eq_some_iff.1 am).1;have mR:j<z:=by rw[<-aw e (List.mem_of_getElem? am)]; exact (List.getElem?_eq_some_iff.1 ai).1
    obtain⟨c,v,h1,ad,aj,aF⟩:=rl i j av mR;simp only[ad,Option.getD_some];exact aI i j e c c' am ai h1 aF
theorem q0.rel {R:Nat->Prop} {B:Nat} {w:World} {h ad:aO} {μ:cP} (rel:b9 R B w h μ) (k:q0 h ad) :b9 R B w ad μ:=by
 refine⟨?_,?_,?_,?_,rel.up,rel.size,?_⟩
 ·intro b m hm;have ag:=rel.blk b m hm;rcases k.blk b with am | ⟨sz,cs,ah,bH | ⟨hB,CI,bl,aq⟩⟩
  ·rw[am]; exact ag.ext (k.ext w μ).toExt0 rfl
  ·rw[bH]; trivial
  ·rw[CI];rw[ah] at ag;obtain⟨h1,gE,arr,t,gh,aj,aF,aU,bt⟩:=ag;refine⟨by omega,gE,arr,t,gh,aj,aF,aU,fun j dv ai=>?_⟩;have aN:j<cs.length:=by rw[<-bl]; exact (List.getElem?_eq_some_iff.1 ai).1
   obtain⟨v,aX,a6,a3⟩:=bt j cs[j] (List.getElem?_eq_getElem aN);exact⟨v,aX,a6,k.qR rel (aq j cs[j] dv (List.getElem?_eq_getElem aN) ai) a3⟩
 ·intro b br m cv al db hm b5 az;exact rel.inj b br m cv (k.live al) (k.live db) hm b5 az
 ·intro b m al hm;exact rel.base b m (k.live al) hm
 ·intro b ag;rw[k.n] at ag;rcases k.blk b with am | ⟨sz,cs,ah,_⟩
  ·rw[am]; exact rel.fresh b ag
  ·rw[rel.fresh b ag] at ah; cases ah
 ·intro b ag;rw[k.n] at ag;exact rel.la b ag
theorem alj (bH:OH P G) {j:J} (ai:dA P G j) :xx P G j:=by
 induction ai with
 | skip N ae h=>exact⟨0,fun R B w μ a Q rel g s k=>wp_skip (k a w μ (.refl _ _ _) rel s)⟩
 | label l N ae h=>exact⟨0,fun R B w μ a Q rel g s k=>wp_label (k a w μ (.refl _ _ _) rel s)⟩
 | ret N ae h=>exact⟨0,fun R B w μ a Q rel g s k=>wp_ret (k a w μ (.refl _ _ _) rel s)⟩
 | exit id N ae h=>exact⟨0,fun R B w μ a Q rel g s k=>wp_exit (k a w μ (.refl _ _ _) rel s)⟩
 | X8 h1 ad dd hQ=>
  obtain⟨lR,dd⟩:=dd;obtain⟨ow,hQ⟩:=hQ;exact⟨0,fun R B w μ a Q rel g s k=>wp_seq (pI.wp (dd R B w μ a _ rel g s fun aX b1 hc aQ dJ dE=>
   pI.wp (hQ R B b1 hc aX Q dJ (g.ext aQ) dE fun a6 w2 sa bF fg g9=>k a6 w2 sa (aQ.trans bF) fg g9)))⟩
 | NL h1 am dd=>
  obtain⟨lR,dd⟩:=dd;exact⟨0,fun R B w μ a Q rel g s k=>wp_seq (pI.wp (dd R B w μ a _ rel g s fun aX b1 hc aQ dJ dE=>YI am (k aX b1 hc aQ dJ dE)))⟩
 | cond ah h1 dd=>
  rename_i c x y N ae h b e b4 h';obtain⟨lR,dd⟩:=dd;refine⟨0,fun R B w μ a Q rel g s k=>?_⟩;have aq:=s.c2 g c;rw[ah] at aq;cases Al:a.eval c<;>rw[Al] at aq<;>try (cases aq; done)
  cases aq;exact wp_cond Al (pI.wp (dd R B w μ a Q rel g s k))
 | E5 h1 am dd=>
  obtain⟨lR,dd⟩:=dd;exact⟨0,fun R B w μ a Q rel g s k=>wp_block (pI.wp (dd R B w μ a _ rel g s fun aX b1 hc aQ dJ dE=>aaJ am (k aX b1 hc aQ dJ dE)))⟩
 | Pr h1 dd=>
  obtain⟨lR,dd⟩:=dd;exact⟨0,fun R B w μ a Q rel g s k=>wp_block (pI.wp (dd R B w μ a _ rel g s fun aX b1 hc aQ dJ dE=>by
   simp only[sb.out,Exit.inBlock,if_true];exact k aX b1 hc aQ dJ dE))⟩
 | AR h1 ad dd hQ=>
  obtain⟨lR,dd⟩:=dd;obtain⟨ow,hQ⟩:=hQ;exact⟨ow+1,fun R B w μ a Q rel g s k=>pI.wp (dd R B w μ a _ rel g s fun aX b1 hc aQ dJ dE=>
   hQ R B b1 hc aX Q dJ (g.ext aQ) dE fun a6 w2 sa bF fg g9=>k a6 w2 sa (aQ.trans bF) fg g9)⟩
 | Ms h1 am dd=>
  obtain⟨lR,dd⟩:=dd;exact⟨1,fun R B w μ a Q rel g s k=>pI.wp (dd R B w μ a _ rel g s fun aX b1 hc aQ dJ dE=>YI am (k aX b1 hc aQ dJ dE))⟩
 | scope h1 dd=>
  obtain⟨lR,dd⟩:=dd;rename_i c N ae h e b4 h';refine⟨0,fun R B w μ a Q rel g s k=>wp_scope_straight (pI.wp (dd R B w μ a _ rel g s fun aX b1 hc aQ dJ dE=>?_))⟩;have:=k aX b1 hc aQ dJ dE;cases e<;>exact this
 | region h1 dd=>exact⟨0,fun R B w μ a Q rel g s k=>wp_region_list (dd R B w μ a Q rel g s k)⟩
 | draw pre val W cls m ak fP sg gJ cells hu qe aE hm G2 yf CW nI et wy GN GF lD F6 F7 qi jL aI=>
  exact bH pre val W cls m ak fP sg gJ cells hu qe aE hm G2 yf CW nI et wy GN GF lD F6 F7 qi aI
 | WC=>exact fun R B w μ a Q rel g s k=>k a w μ (.refl _ _ _) rel s
 | WE hw Aj h1 dd=>
  intro R B w μ a Q rel g s k;have wy:=Ow (w:=w) (R:=R) (h:=_) (μ:=μ) (tmps:=a.tmps) hw (fun d _=>s.val d);unfold wpList;rw[if_neg (by rw[wy]; simp)];exact dd R B w μ _ Q rel g (s.put Aj Ol) k
 | WD hw Aj h1 ad dd hQ=>
  intro R B w μ a Q rel g s k;have wy:=Ow (w:=w) (R:=R) (h:=_) (μ:=μ) (tmps:=a.tmps) hw (fun d _=>s.val d);unfold wpList;rw[if_pos wy];refine .inl (dd R B w μ a _ _ Q rfl rel g (s.c2 g) fun aY b1 hc aQ dJ aq=>?_);exact hQ R B b1 hc _ Q dJ (g.ext aQ) ((s.ext aQ).put Aj aq) fun a6 w2 sa bF fg g9=>k a6 w2 sa (aQ.trans bF) fg g9
 | HB ak=>
  intro R B w μ a o K Q ap rel g c9 k;subst ap;have:=NY (P:=P) rel c9 o ak;obtain⟨v,w',μ',az,e,r,aq⟩:=this;unfold Oper.wp;rcases az with az | ⟨az,rfl⟩
  ·rw[az]; exact k v w' μ' e r aq
  ·rw[az]; exact k undef w' μ' e r aq
 | A3 ak h1 dd=>
  intro R B w μ a o K Q ap rel g c9 k;subst ap;obtain⟨rfl,vs,az,al,aq⟩:=NY (P:=P) rel c9 o ak;unfold Oper.wp;rw[az];refine (dd R B w μ vs rel g al aq).mono ?_;rintro e w' ⟨v,μ',rfl,aQ,dJ,mo⟩;exact k v w' μ' aQ dJ mo
 | Iq h1 kT aq dd=>
  intro R B w μ a o K Q ap rel g c9 k;refine dd R B w μ a o K Q ap rel g c9 fun aY w' μ' e r uG=>?_
  exact k aY w' μ' (e.trans (kT.ext w' μ')) (kT.rel r) (kT.qR r aq uG)
 | inline aD ag h1 am az dd=>
  rename_i f fn c args h e b4 h' r;obtain⟨lR,dd⟩:=dd;intro R B w μ vs rel g al aq;refine calls_of_wp aD ag (pI.wp (dd R B w μ _ _ rel g ⟨by simp[al],rfl,fun t=>?_⟩ fun aX b1 hc aQ dJ dE=>?_))
  ·by_cases aH:t<args.length
   ·have ax:args.getD t hv=args[t] :=by simp[List.getD,aH]
    have mT:(vs++Array.replicate (fn.ntmps - vs.size) undef).getD t undef=vs[t] :=by
     rw[Array.getD_eq_getD_getElem?,Array.getElem?_append_left (by omega)];simp[show t<vs.size by omega]
    rw[ax,mT];exact aq t _ _ (by simp[aH]) (by simp)
   ·have ax:args.getD t hv=hv:=by simp[List.getD,List.getElem?_eq_none (by omega:args.length<=t)]
    have mT:(vs++Array.replicate (fn.ntmps - vs.size) undef).getD t undef=undef:=by
     rw[Array.getD_eq_getD_getElem?,Array.getElem?_append_right (by omega),Array.getElem?_replicate];split<;>rfl
    rw[ax,mT];exact Ol
  ·obtain⟨v,b6,bJ⟩:=akm dJ dE az;have GI:dE.defers=dE.defers:=rfl;rcases am with rfl | rfl
   ·exact⟨dE.defers,v,b6,v,hc,rfl,aQ,dJ,bJ⟩
   ·exact⟨dE.defers,v,b6,v,hc,rfl,aQ,dJ,bJ⟩
 | pure ay ah=>exact ajp ay ah
 | M5 ay al az aD=>exact ajn ay al az aD
 | ext ak=>exact ak
 | M6 ay al az=>exact ajo ay al az
end

end Go.cb

/-
  The canonical machine, part Im: maps, strings rune by rune, bytes compared.
-/
import Derived.Test.YtidejmkknleijaaGreatDoorKb
import Derived.Stop.SameAnswer
import Derived.Orders
import Derived.Still
import Derived.Scope
import Derived.LoopN
set_option linter.unusedVariables false
set_option linter.unusedSimpArgs false
set_option linter.unnecessarySimpa false
namespace Go.ca
open Go
section
variable {P:Program} {w:World} {R:Nat->Prop} {B:Nat} {h:aW} {μ:cI}
def ss:U->Value
 | .bool b=>.bool b
 | .int k n=>.int k n
 | .str s=>.string ⟨s.toArray⟩
 | _=>.tuple #[]
def wo:U->Value
 | .aH cs=>.agg (cs.map ss).toArray
 | c=>ss c
theorem aav {c:U} {v:Value} (av:ua c=true) (aq:aP w R h μ c v) :v=ss c:=by
 cases c<;>simp[ua] at av
 ·cases aq; rfl
 ·cases aq; rfl
 ·cases aq;rename_i bs;show Value.string bs=.string ⟨bs.data.toList.toArray⟩;congr 1
theorem DE {t:TypeId} {c:U} (aI:ml P t c=true) :∃ cs m,c=.aH cs/\r5 P 8 t=true/\dZ P t=some true/\cC P t=some m/\cs.length=m/\∀ x∈cs,ua x=true:=by
 unfold ml at aI;split at aI
 ·rename_i cs;simp only[akh] at aI;obtain⟨⟨ad,af⟩,al⟩:=aI;split at af
  ·rename_i m aC ak;exact⟨cs,m,rfl,ad,aC,ak,alh af,fun x ai=>ak4.1 al x ai⟩
  ·cases af
 ·cases aI
theorem H2 {t:TypeId} {c:U} {v:Value} (aI:ml P t c=true) (aq:aP w R h μ c v) :v=wo c:=by
 obtain⟨cs,m,rfl,_,_,_,_,hint⟩:=DE aI;cases aq with
 | aH _ vs am ad aq=>
  show Value.agg vs=.agg (cs.map ss).toArray;congr 1;apply Array.ext_getElem?;intro j;have ai:(cs.map ss).toArray[j]? = (cs[j]?).map ss:=by simp
  rw[ai];cases aj:cs[j]? with
  | none=>simp only[Option.map_none]; rw[ame]; rw[am]; exact amr.1 aj
  | some c=>
   have aO:=(aj7.1 aj).1;have Ai:=aq j c vs[j] aj (alz (by omega));rw[alz (by omega)];simp only[akg,Option.some.injEq];exact aav (hint c (ake aj)) Ai
theorem Ta (a:ByteArray) :(a == a)=true:=by
 show (a.data == a.data)=true;exact beq_self_eq_true _
theorem ab3 {c:U} (n:Nat) (ah:ua c=true) :Instr.sameBits n (ss c) (ss c)=true:=by
 cases c<;>simp[ua] at ah<;>unfold ss Instr.sameBits
 ·simp
 ·simp
 ·exact Ta _
theorem ab2 {t:TypeId} {c:U} (n:Nat) (aI:ml P t c=true) :Instr.sameBits (n+1) (wo c) (wo c)=true:=by
 obtain⟨cs,m,rfl,_,_,_,_,hint⟩:=DE aI;unfold wo Instr.sameBits;simp only[beq_self_eq_true,alx,ak4];rintro⟨x,y⟩ jj;rw[akj] at jj;obtain⟨j,aj⟩:=jj;rw[alL] at aj;obtain⟨ad,af⟩:=aj;rw[ad] at af; cases af;simp only[akd,Option.map_eq_some_iff] at ad;obtain⟨c,ah,rfl⟩:=ad;exact ab3 n (hint c (ake ah))
theorem abS {t:TypeId} {c:U} (aI:ml P t c=true) :(Instr.keyThatStays (wo c) (wo c)).run P w=.ok (wo c) w:=by
 unfold Instr.keyThatStays;rw[if_pos (ab2 9999 aI)];simp
theorem FU {α:Type} {f:α->PUnit->Sem (ForInStep PUnit)}:∀ (l:List α),(∀ x∈l,(f x ⟨⟩).run P w=.ok (.yield ⟨⟩) w)->(forIn l ⟨⟩ f).run P w=.ok ⟨⟩ w
 | [],_=>by simp
 | x::l,aI=>by
  rw[List.forIn_cons];simp only[Sem.run_bind,aI x (by simp),Result.andThen_ok];exact FU l (fun y aL=>aI y (by simp[aL]))
theorem I7 (em:Bool) :∀ (d n:Nat) (t:TypeId) (c:U) (v:Value),d<=n->r5 P d t=true->aP w R h μ c v->(dZ P t=some true->∃ cs m,c=.aH cs/\cC P t=some m/\cs.length=m)->
  (Instr.checkKey em n t v).run P w=.ok () w
 | 0,_,_,_,_,_,ax,_,_=>by simp[r5] at ax
 | d+1,0,_,_,_,aD,_,_,_=>by omega
 | d+1,n+1,t,c,v,aD,ax,aq,aC=>by
  unfold r5 at ax;split at ax
  ·rename_i aM; cases v<;>simp[Instr.checkKey,cn aM]
  ·rename_i aM; cases v<;>simp[Instr.checkKey,cn aM]
  ·rename_i aM; cases v<;>simp[Instr.checkKey,cn aM]
  ·rename_i len e m aM hm;have Gl:dZ P t=some true:=by unfold dZ; rw[aM]; rfl
   obtain⟨cs,ck,rfl,bT,am⟩:=aC Gl;rw[hm] at bT; cases bT;simp only[akh] at ax;obtain⟨mY,kG⟩:=ax;split at kG
   ·rename_i z a aw Gp;simp only[akh] at kG;have er:=alU kG.1;have oN:=alU kG.2;obtain⟨vs,rfl,ay⟩:=sI aq;unfold Instr.checkKey;simp only[Sem.run_bind,cn aM,Result.andThen_ok];rw[Std.Legacy.Range.forIn_eq_forIn_range'];rw[FU]
    ·simp
    intro i aB;have eb:i<len:=by simp[Std.Legacy.Range.size] at aB; omega
    have WH:i*z+z<=cs.length:=by
     have:i*z+z<=len*z:=by rw[<-akK]; exact akc _ eb
     omega
    have av:∃ c,hz P e cs (i*z)=some c/\(dZ P e=some true->∃ cs' ck,c=.aH cs'/\cC P e=some ck/\cs'.length=ck) :=by
     unfold hz;rw[Gp,aw];cases a with
     | true=>exact⟨_,by simp only; rw[if_pos WH],fun _=>⟨_,z,rfl,rfl,by simp; omega⟩⟩
     | false=>exact⟨cs[i*z]'(by omega),by simp only; exact aka (by omega),fun h=>by cases h⟩
    obtain⟨c,ah,pt⟩:=av;obtain⟨u,al,aG⟩:=tZ (P:=P) ah ay;simp only[Sem.run_bind,fO aw,Result.andThen_ok,al w];rw[I7 em d n e c u (by omega) mY aG pt];simp
   ·cases kG
  ·rename_i fs m aM hm;have Gl:dZ P t=some true:=by unfold dZ; rw[aM]; rfl
   obtain⟨cs,ck,rfl,bT,am⟩:=aC Gl;rw[hm] at bT; cases bT;obtain⟨vs,rfl,ay⟩:=sI aq;unfold Instr.checkKey;simp only[Sem.run_bind,cn aM,Result.andThen_ok];rw[<-Array.forIn_toList,FU]
   ·simp
   intro f aI;have C1:=ak4.1 ax f aI;simp only[akh] at C1;obtain⟨mY,kG⟩:=C1;split at kG
   ·rename_i z a aw Gp;simp only[akh] at kG;have er:=alU kG.1;have oN:=alU kG.2;have av:∃ c,hz P f.type cs f.offset=some c/\(dZ P f.type=some true->∃ cs' ck,c=.aH cs'/\cC P f.type=some ck/\cs'.length=ck) :=by
     unfold hz;rw[Gp,aw];cases a with
     | true=>exact⟨_,by simp only; rw[if_pos (by omega)],fun _=>⟨_,z,rfl,rfl,by simp; omega⟩⟩
     | false=>exact⟨cs[f.offset]'(by omega),by simp only; exact aka (by omega),fun h=>by cases h⟩
    obtain⟨c,ah,pt⟩:=av;obtain⟨u,al,aG⟩:=tZ (P:=P) ah ay;have:=I7 em d n f.type c u (by omega) mY aG pt;by_cases qB:f.name= "_"
    ·simp[qB]
    ·simp[qB,al w,this]
   ·cases kG
  ·cases ax
theorem Qq {t:TypeId} {c:U} {v:Value} (em:Bool) (aI:ml P t c=true) (aq:aP w R h μ c v) :(Instr.checkKey em 10000 t v).run P w=.ok () w:=by
 obtain⟨cs,m,rfl,ad,af,al,aG,_⟩:=DE aI;exact I7 em 8 10000 t _ v (by omega) ad aq (fun _=>⟨cs,m,rfl,al,aG⟩)
def rf (w:World) (R:Nat->Prop) (h:aW) (μ:cI) (es:List (U × U × Nat)) (du:List MapEntry) :Prop:=
 du.length=es.length/\∀ (j:Nat) (k v:U) (b:Nat),es[j]? = some (k,v,b)->∃ x:MapEntry,du[j]? = some x/\aP w R h μ k x.key/\aP w R h μ v x.val/\x.born=b
def J4 (w:World) (R:Nat->Prop) (h:aW) (μ:cI) (k:U) (du:List MapEntry) (i:Nat) :Option (Nat × U)->Option (Nat × Value)->Prop
 | none,r=>r=none
 | some (j,v),r=>∃ nW,r=some (j,nW)/\aP w R h μ v nW/\i<=j/\∃ x,du[j - i]? = some x/\x.val=nW/\aP w R h μ k x.key
theorem Ug {es:List (U × U × Nat)} {e:U × U × Nat} {x:MapEntry} {du:List MapEntry} (ay:rf w R h μ (e::es) (x::du)) :rf w R h μ es du:=
 ⟨by have:=ay.1; simp at this; exact this,fun j k v b aj=>ay.2 (j+1) k v b (by simpa using aj)⟩
theorem Uf {es:List (U × U × Nat)} {k v:U} {b:Nat} {x:MapEntry} {du:List MapEntry} (ay:rf w R h μ ((k,v,b) ::es) (x::du)) :aP w R h μ k x.key/\aP w R h μ v x.val/\x.born=b:=by
 obtain⟨y,ad,af⟩:=ay.2 0 k v b rfl;simp at ad; subst ad; exact af
theorem LB {c8:TypeId} {k:U} {hx:Value} (ax:aP w R h μ k hx) :∀ (es:List (U × U × Nat)) (du:List MapEntry) (i:Nat) (r:Option (Nat × U)),rf w R h μ es du->lr P c8 k es i=some r->
  ∃ dT,(Instr.findAsking c8 hx du i).run P w=.ok dT w/\J4 w R h μ k du i r dT
 | [],du,i,r,ay,aI=>by
  have:du=[] :=akH.1 ay.1;subst this;simp only[lr,Option.some.injEq] at aI; subst aI;exact⟨none,by simp[Instr.findAsking],rfl⟩
 | (k',v,b) ::es,[],i,r,ay,aI=>by have:=ay.1; simp at this
 | (k',v,b) ::es,x::du,i,r,ay,aI=>by
  obtain⟨ad,af,al⟩:=Uf ay;simp only[lr] at aI;split at aI
  ·cases aI
  rename_i fg;split at aI
  ·rename_i heq;split at aI
   ·rename_i VM;simp only[Option.some.injEq] at aI; subst aI;have lD:=FM (P:=P) 10000 c8 k k' true hx x.key heq ax ad;refine⟨some (i,x.val),?_,x.val,rfl,af,akb _,x,by simp,rfl,?_⟩
    ·simp only[Instr.findAsking,Op.equal,Op.maxDepth,Sem.run_bind];rw[lD]; simp
    ·rw[U.beq_eq VM]; exact ad
   ·cases aI
  ·rename_i heq;have lD:=FM (P:=P) 10000 c8 k k' false hx x.key heq ax ad;obtain⟨dT,aG,a6⟩:=LB ax es du (i+1) r (Ug ay) aI;refine⟨dT,?_,?_⟩
   ·simp only[Instr.findAsking,Op.equal,Op.maxDepth,Sem.run_bind];rw[lD]; simpa using aG
   ·cases r with
    | none=>exact a6
    | some v0=>
     obtain⟨nW,bK,c9,gg,y,fV,j3,vr⟩:=a6;exact⟨nW,bK,c9,by omega,y,by rw[show v0.1 - i=(v0.1 - (i+1))+1 by omega]; simpa using fV,j3,vr⟩
  ·cases aI
theorem Qs {c8:TypeId} {k:U} {hx:Value} (ax:aP w R h μ k hx) (aI:ml P c8 k=true) {es:List (U × U × Nat)} {du:List MapEntry} {r:Option (Nat × U)} (ay:rf w R h μ es du) (GH:lr P c8 k es 0=some r) :
  ∃ dT,(Instr.findKey c8 hx du).run P w=.ok dT w/\J4 w R h μ k du 0 r dT:=by
 obtain⟨dT,ad,af⟩:=LB ax es du 0 r ay GH;refine⟨dT,?_,af⟩;obtain⟨cs,m,rfl,al,aG,_⟩:=DE aI;unfold dZ at aG;cases aM:P.underlying c8 with
 | none=>rw[aM] at aG; cases aG
 | some d=>
  rw[aM] at aG;unfold Instr.findKey;simp only[Sem.run_bind,cn aM,Result.andThen_ok];cases du with
  | nil=>simpa [Instr.findNow,Instr.findAsking] using ad
  | cons x du=>
   have aD:Instr.findNow d hx (x::du) 0=none:=by
    cases d<;>simp at aG<;>simp[Instr.findNow,Instr.sameNow]
   rw[aD];exact ad
theorem Zr (rel:bZ R B w h μ) {m:U} {k8:Value} {es:List (U × U × Nat)} (hm:mapOf h m=some es) (aq:aP w R h μ m k8) :
  (k8=.map none/\es=[])\/∃ b b2 e5 du,m=.mp b/\h.f b=.map es e5/\μ b=some b2/\k8=.map (some b2.r)/\w.heap[b2.r]? = some (.map du e5)/\rf w R h μ es du.toList:=by
 cases m<;>simp[mapOf] at hm
 ·subst hm; cases aq; exact .inl ⟨rfl,rfl⟩
 ·rename_i b;cases aq with
  | mp _ b2 ag md=>
   cases ah:h.f b<;>rw[ah] at hm<;>simp at hm;rename_i afz e5;subst hm;have hP:=rel.blk b b2 md;rw[ah] at hP;obtain⟨du,ad,af,al⟩:=hP;refine .inr ⟨b,b2,e5,du,rfl,ah,md,rfl,ad,by simpa using af,fun j k v bc aj=>?_⟩;obtain⟨x,aG,a6⟩:=al j k v bc aj;exact⟨x,by simpa using aG,a6⟩
theorem I8 {r:Nat} {es:Array MapEntry} {e5:Nat} (ag:w.heap[r]? = some (.map es e5)) :(getObj r).run P w=.ok (.map es e5) w:=by simp[getObj,Sem.run,ag]
theorem Qt {r:Nat} {s:ByteArray} {pos:Nat} (ag:w.heap[r]? = some (.stringIter s pos)) :(getObj r).run P w=.ok (.stringIter s pos) w:=by simp[getObj,Sem.run,ag]
theorem RU {t:TypeId} {z:U} (aw:ww P t=some z) :∃ v,(zeroValue t).run P w=.ok v w/\aP w R h μ z v:=by
 unfold ww at aw;cases aB:P.info? t with
 | none=>rw[aB] at aw; cases aw
 | some i=>
  rw[aB] at aw;simp only[al1] at aw;cases aq:i.zero with
  | none=>rw[aq] at aw; cases aw
  | some v=>
   rw[aq] at aw;simp only[akg,Option.some.injEq] at aw; subst aw;exact⟨v,Qw aB aq,.tW v⟩
theorem aP.Rf {a b:U} {hK mE:Value} (aC:aP w R h μ a hK) (ag:aP w R h μ b mE) :aP w R h μ (.bu [a,b]) (.tuple #[hK,mE]) :=by
 refine .bu _ _ rfl fun j c v ah aq=>?_
 rcases j with _ | _ | j
 ·simp at ah aq; subst ah aq; exact aC
 ·simp at ah aq; subst ah aq; exact ag
 ·simp at ah
theorem Zd (rel:bZ R B w h μ) {t:TypeId} {m k c:U} {k8 hx:Value} {ok:Bool} (am:DJ P h t m k ok=some c) (hm:aP w R h μ m k8) (ax:aP w R h μ k hx) :
  ∃ v,(Instr.lookup t k8 hx ok).run P w=.ok v w/\aP w R h μ c v:=by
 unfold DJ at am;split at am
 ·rename_i c8 lq es aM G1;split at am
  ·cases am
  ·rename_i fg;have TQ:∀ du:List MapEntry,rf w R h μ es du->∃ dT,(Instr.findKey c8 hx du).run P w=.ok dT w ∧
     ((∃ i v,dT=some (i,v)/\∃ vg,aP w R h μ vg v/\c=if ok then .bu [vg,.bool true] else vg)\/(dT=none/\∃ z,ww P lq=some z/\c=if ok then .bu [z,.bool false] else z)) :=by
    intro du ay;cases kC:lr P c8 k es 0 with
    | none=>rw[kC] at am; cases am
    | some r=>
     obtain⟨dT,ad,af⟩:=Qs ax fg ay kC;rw[kC] at am;refine⟨dT,ad,?_⟩;cases r with
     | none=>
      cases af;simp only at am;cases aw:ww P lq with
      | none=>rw[aw] at am; cases am
      | some z=>
       rw[aw] at am;simp only[akg,Option.some.injEq] at am;exact .inr ⟨rfl,z,rfl,am.symm⟩
     | some v0=>
      obtain⟨nW,rfl,aG,_⟩:=af;simp only[Option.some.injEq] at am;exact .inl ⟨_,nW,rfl,_,aG,am.symm⟩
   have l3:∀ (du:List MapEntry) (em:Bool),rf w R h μ es du->∀ m:Sem Value,m.run P w=(((Instr.checkKey em 10000 c8 hx).bind fun _=>(Instr.findKey c8 hx du).bind fun r=>match r with
     | some (_,v)=>pure (if ok=true then .tuple #[v,.bool true] else v)
     | none=>(zeroValue lq).bind fun z=>pure (if ok=true then .tuple #[z,.bool false] else z)) :Sem Value).run P w->∃ v,m.run P w=.ok v w/\aP w R h μ c v:=by
    intro du em ay m hm;obtain⟨dT,ad,af⟩:=TQ du ay;have CH:∀ {α i6:Type} (a:Sem α) (f:α->Sem i6),a.bind f=a >>= f:=fun _ _=>rfl
    simp only[CH,Sem.run_bind,Qq em fg ax,Result.andThen_ok,ad] at hm;rcases af with ⟨i,v,rfl,vg,al,rfl⟩ | ⟨rfl,z,al,rfl⟩
    ·simp only at hm;cases ok
     ·exact⟨v,by simpa using hm,al⟩
     ·exact⟨.tuple #[v,.bool true],by simpa using hm,aP.Rf al (.bool _)⟩
    ·obtain⟨v,aG,a6⟩:=RU (w:=w) (R:=R) (h:=h) (μ:=μ) al;simp only[Sem.run_bind,aG,Result.andThen_ok] at hm;cases ok
     ·exact⟨v,by simpa using hm,a6⟩
     ·exact⟨.tuple #[v,.bool false],by simpa using hm,aP.Rf a6 (.bool _)⟩
   have CH:∀ {α i6:Type} (a:Sem α) (f:α->Sem i6),a.bind f=a >>= f:=fun _ _=>rfl
   rcases Zr rel G1 hm with ⟨rfl,rfl⟩ | ⟨b,b2,e5,du,rfl,ag,md,rfl,k2,ay⟩
   ·refine l3 [] true ⟨rfl,fun j k v b aj=>by simp at aj⟩ _ ?_;unfold Instr.lookup;simp only[CH,Sem.run_bind,cn aM,Result.andThen_ok,Sem.run_pure];cases ff:(Instr.checkKey true 10000 c8 hx).run P w with
    | halt a b=>simp[ff]
    | ok a bV=>
     simp[ff];cases Wl:(Instr.findKey c8 hx []).run P bV with
     | halt a b=>simp
     | ok r w2=>
      simp;cases r with
      | none=>cases (zeroValue lq).run P w2<;>simp
      | some x=>simp
   ·refine l3 du.toList du.isEmpty ay _ ?_;unfold Instr.lookup;simp only[CH,Sem.run_bind,cn aM,Result.andThen_ok,Sem.run_pure,I8 k2];cases ff:(Instr.checkKey du.isEmpty 10000 c8 hx).run P w with
    | halt a b=>simp[ff]
    | ok a bV=>
     simp[ff];cases Wl:(Instr.findKey c8 hx du.toList).run P bV with
     | halt a b=>simp
     | ok r w2=>
      simp;cases r with
      | none=>cases (zeroValue lq).run P w2<;>simp
      | some x=>simp
 ·cases am
theorem Y4 (rel:bZ R B w h μ) {t ty:TypeId} {x c:U} {bA:Value} (ah:v6 P h t x=some c) (ai:aP w R h μ x bA) :∃ v,(Builtin.len_ #[t] ty #[bA]).run P w=.ok v w/\aP w R h μ c v:=by
 unfold v6 at ah;split at ah
 ·rename_i c8 lq b aM;split at ah
  ·rename_i es e5 ag;simp only[Option.some.injEq] at ah; subst ah;cases ai with
   | mp _ b2 ax md=>
    have hP:=rel.blk b b2 md;rw[ag] at hP;obtain⟨du,ad,af,al⟩:=hP;exact⟨.int .i64 du.size,by simp[Builtin.len_,cn aM,I8 ad,goInt],by rw[af]; exact .int _ _⟩
  ·cases ah
 ·cases ah
theorem Zp (rel:bZ R B w h μ) {t:TypeId} {r:Option Value} (aM:∃ k e,P.underlying t=some (.map k e)) (ay:∀ x,r=some x->∃ k n,x=.int k n) :∃ v w' μ',(Instr.makeMap t r).run P w=.ok v w'/\dB w h μ w' (h.push (.map [] 0)) μ'/\bZ R B w' (h.push (.map [] 0)) μ'/\aP w' R (h.push (.map [] 0)) μ' (.mp h.n) v:=by
 have:=rel.PJ (w':=w.alloc (.map #[] 0)) (.map [] 0) (.map #[] 0) (k:=0) rfl rfl rfl rfl rfl ⟨#[],by show (w.heap.push _)[w.heap.size]? = _; simp,rfl,fun j k v b aj=>by simp at aj⟩;refine⟨.map (some w.heap.size),w.alloc (.map #[] 0),_,?_,this.1,this.2,?_⟩
 ·obtain⟨k,e,aM⟩:=aM;cases r with
  | none=>simp[Instr.makeMap,newObj,Sem.run]
  | some x=>
   obtain⟨k',n,rfl⟩:=ay x rfl;simp[Instr.makeMap,newObj,Sem.run,cn aM,Go.asInt,Go.asIntOf]
 ·exact .mp h.n ⟨w.heap.size,0,0⟩ (by simp[eH,m6]) (by simp)
theorem OJ (rel:bZ R B w h μ) {t:TypeId} {m k x:U} {k8 hx bA:Value} {h' : aW} (m2:v7 P h t m k x=some h') (hm:aP w R h μ m k8) (ax:aP w R h μ k hx) (ai:aP w R h μ x bA) :
  ∃ w',(Instr.mapUpdate t k8 hx bA).run P w=.ok () w'/\dB w h μ w' h' μ/\bZ R B w' h' μ:=by
 unfold v7 at m2;split at m2
 ·rename_i c8 lq b aM;split at m2
  ·rename_i es e5 ag;split at m2
   ·cases m2
   ·rename_i fg;cases hm with
    | mp _ b2 WP md=>
     have hP:=rel.blk b b2 md;rw[ag] at hP;obtain⟨du,ad,af,al⟩:=hP;have aO:b2.r<w.heap.size:=by
      rcases akX b2.r w.heap.size with h | h
      ·exact h
      ·rw[ame h] at ad; cases ad
     have ay:rf w R h μ es du.toList:=⟨by simpa using af,fun j k v bc aj=>by obtain⟨y,aG,a6⟩:=al j k v bc aj; exact⟨y,by simpa using aG,a6⟩⟩
     have kf:∀ o:Obj,(setObj b2.r o).run P w=.ok () { w with heap:=w.heap.setIfInBounds b2.r o }:=fun o=>by simp[setObj,Sem.run,ad]
     have NI:∀ (zi:List (U × U × Nat)) (wZ:Array MapEntry) (y0:Nat),(∀ {w2:World} {af:aW},Ext0 w h μ w2 af μ->wZ.size=zi.length/\∀ (j:Nat) (k v:U) (b:Nat),zi[j]? = some (k,v,b)->∃ x:MapEntry,wZ[j]? = some x/\aP w2 R af μ k x.key/\aP w2 R af μ v x.val/\x.born=b)->
       dB w h μ { w with heap:=w.heap.setIfInBounds b2.r (.map wZ y0) } (h.set b (.map zi y0)) μ/\bZ R B { w with heap:=w.heap.setIfInBounds b2.r (.map wZ y0) } (h.set b (.map zi y0)) μ:=by
      intro zi wZ y0 a8;refine rel.PN (k:=0) ag rfl rfl md rfl rfl rfl (by simp) (fun k ax=>?_) (fun e=>?_)
      ·simp only; rw[alt]; rw[if_neg (fun aR=>ax aR.symm)]
      ·obtain⟨q1,cS⟩:=a8 e;exact⟨wZ,by simp only; rw[alt]; simp[aO],q1,cS⟩
     unfold Instr.mapUpdate;simp only[Sem.run_bind,cn aM,Result.andThen_ok,I8 ad,Qq false fg ax];cases kC:lr P c8 k es 0 with
     | none=>rw[kC] at m2; cases m2
     | some r=>
      rw[kC] at m2;obtain⟨dT,aG,a6⟩:=Qs ax fg ay kC;rw[aG];cases r with
      | none=>
       cases a6;simp only[Option.some.injEq] at m2; subst m2;have:=NI (es++[(k,x,e5)]) (du.push { key:=hx,val:=bA,born:=e5 }) (e5+1) (fun e=>⟨by simp[af],fun j k' a4 bc aj=>?_⟩)
       ·exact⟨_,by simp only[Result.andThen_ok]; rw[kf],this⟩
       ·rw[Array.getElem?_push];by_cases ev:j<es.length
        ·rw[aj8 ev] at aj;obtain⟨y,bK,c9,gg,fV⟩:=al j k' a4 bc aj;exact⟨y,by rw[if_neg (by omega)]; exact bK,c9.l2 e,gg.l2 e,fV⟩
        ·rw[akt (by omega)] at aj;have vF:j - es.length=0:=by
          rcases Nat.eq_zero_or_pos (j - es.length) with h | h
          ·exact h
          ·rw[akp (by simp; omega)] at aj; cases aj
         rw[vF] at aj;simp at aj;obtain⟨rfl,rfl,rfl⟩:=aj;exact⟨_,by rw[if_pos (by omega)],ax.l2 e,ai.l2 e,rfl⟩
      | some v0=>
       obtain⟨i,v⟩:=v0;obtain⟨nW,rfl,bK,_,y,c9,gg,fV⟩:=a6;simp only[Option.some.injEq] at m2; subst m2;have pn:du[i]? = some y:=by simpa using c9
       have aS:y.key=hx:=by rw[H2 fg fV,H2 fg ax]
       have th:(Instr.keyThatStays (((du[i]?).map (·.key)).getD hx) hx).run P w=.ok hx w:=by
        rw[pn];simp only[akg,akO,aS];rw[H2 fg ax];exact abS fg
       have:=NI (es.modify i fun e=>(k,x,e.2.2)) (du.modify i fun e=>{ e with key:=hx,val:=bA }) e5 (fun e=>⟨by simp[af],fun j k' a4 bc aj=>?_⟩)
       ·refine⟨_,?_,this⟩;simp only[Result.andThen_ok,Sem.run_bind,th];rw[kf]
       ·rw[List.getElem?_modify] at aj;rw[Array.getElem?_modify];cases l9:es[j]? with
        | none=>rw[l9] at aj; simp at aj
        | some hr=>
         obtain⟨iR,EE,gZ⟩:=hr;rw[l9] at aj;obtain⟨RQ,j3,vr,F0,L8⟩:=al j iR EE gZ l9;rw[j3];by_cases ma:i=j
         ·simp[ma] at aj;obtain⟨rfl,rfl,rfl⟩:=aj;exact⟨{ RQ with key:=hx,val:=bA },by simp[ma],ax.l2 e,ai.l2 e,L8⟩
         ·simp[ma] at aj;obtain⟨rfl,rfl,rfl⟩:=aj;exact⟨RQ,by simp[ma],vr.l2 e,F0.l2 e,L8⟩
  ·cases m2
 ·cases m2
theorem abi (rel:bZ R B w h μ) {t:TypeId} {x c:U} {bA:Value} {h' : aW} (ay:Ee P h t x=some (c,h')) (ai:aP w R h μ x bA) :
  ∃ v w' μ',(Instr.range t bA).run P w=.ok v w'/\dB w h μ w' h' μ'/\bZ R B w' h' μ'/\aP w' R h' μ' c v:=by
 unfold Ee at ay;split at ay
 ·rename_i s aM;simp only[Option.some.injEq,Prod.mk.injEq] at ay;obtain⟨rfl,rfl⟩:=ay;cases ai;rename_i bs;have:=rel.PJ (w':=w.alloc (.stringIter bs 0)) (.iter bs.data.toList 0) (.stringIter bs 0) (k:=1) rfl rfl rfl rfl rfl ⟨bs,rfl,by show (w.heap.push _)[w.heap.size]? = _; simp⟩;refine⟨.pointer (some ⟨w.heap.size,0,none⟩),w.alloc (.stringIter bs 0),_,?_,this.1,this.2,?_⟩
  ·simp[Instr.range,cn aM,newObj,Sem.run]
  ·exact .it h.n ⟨w.heap.size,0,0⟩ (by simp[eH,m6]) (by simp)
 ·cases ay
theorem ZH (rel:bZ R B w h μ) {x c:U} {bA:Value} {h' : aW} {ty:TypeId} (ay:DS h x=some (c,h')) (ai:aP w R h μ x bA) :
  ∃ v w',(Instr.next bA true ty).run P w=.ok v w'/\dB w h μ w' h' μ/\bZ R B w' h' μ/\aP w' R h' μ c v:=by
 unfold DS at ay;split at ay
 ·rename_i b;split at ay
  ·rename_i s pos ag;cases ai with
   | it _ b2 WP md=>
    have hP:=rel.blk b b2 md;rw[ag] at hP;obtain⟨bs,rfl,ad⟩:=hP;have aO:b2.r<w.heap.size:=by
     rcases akX b2.r w.heap.size with h | h
     ·exact h
     ·rw[ame h] at ad; cases ad
    have rC:(⟨bs.data.toList.toArray⟩:ByteArray)=bs:=by cases bs; simp
    have hv:bs.data.toList.length=bs.size:=by rw[al5]; rfl
    rw[rC] at ay;split at ay
    ·rename_i oF;have av:pos<bs.size:=by rw[<-hv]; rw[ank] at oF; exact oF
     simp only[Option.some.injEq,Prod.mk.injEq] at ay;obtain⟨rfl,rfl⟩:=ay;have:=rel.PN (w':={ w with heap:=w.heap.setIfInBounds b2.r (.stringIter bs (pos+(Utf8.decode bs pos).2)) }) (k:=1) (c':=.iter bs.data.toList (pos+(Utf8.decode bs pos).2)) ag rfl rfl md rfl rfl rfl (by simp)
      (fun k ax=>by simp only; rw[alt]; rw[if_neg (fun aR=>ax aR.symm)]) (fun e=>⟨bs,rfl,by simp only; rw[alt]; simp[aO]⟩)
     refine⟨.tuple #[.bool true,.int .i64 pos,.int .i32 (Utf8.decode bs pos).1],_,?_,this.1,this.2,?_⟩
     ·simp only[Instr.next,Sem.run_bind,Qt ad,Result.andThen_ok,if_pos av];simp[setObj,Sem.run,ad,goInt]
     ·refine .bu _ _ rfl fun j c v ah aq=>?_
      rcases j with _ | _ | _ | j
      ·simp at ah aq; subst ah aq; exact .bool _
      ·simp at ah aq; subst ah aq; exact .int _ _
      ·simp at ah aq; subst ah aq; exact .int _ _
      ·simp at ah
    ·rename_i oF;have av:¬ pos<bs.size:=by
      rw[<-hv]; intro aR;rw[<-ank] at aR; rw[aR] at oF; cases oF
     simp only[Option.some.injEq,Prod.mk.injEq] at ay;obtain⟨rfl,rfl⟩:=ay;refine⟨.tuple #[.bool false],w,?_,.refl _ _ _,rel,?_⟩
     ·simp only[Instr.next,Sem.run_bind,Qt ad,Result.andThen_ok,if_neg av];simp
     ·refine .bu _ _ rfl fun j c v ah aq=>?_
      rcases j with _ | j
      ·simp at ah aq; subst ah aq; exact .bool _
      ·simp at ah
  ·cases ay
 ·cases ay
theorem Qr {blk:Nat}:∀ (n:Nat) (o:Nat) (gA:List Int) (acc:ByteArray),gA.length=n->(∀ j v,(gA.map (Value.int .u8))[j]? = some v->(load (⟨blk,o+j,none⟩:Addr)).run P w=.ok v w)->
  ∃ bs,(Extern.Bytes.loadBytes ⟨blk,o,none⟩ n acc).run P w=.ok bs w/\bs.data.toList=acc.data.toList++gA.map fun n=>UInt8.ofNat n.toNat
 | 0,o,gA,acc,am,_=>⟨acc,by simp[Extern.Bytes.loadBytes],by rw[akH.1 am]; simp⟩
 | n+1,o,[],acc,am,_=>by simp at am
 | n+1,o,x::gA,acc,am,h=>by
  have aF:=h 0 _ rfl;obtain⟨bs,ad,af⟩:=Qr n (o+1) gA (acc.push (UInt8.ofNat x.toNat)) (by simpa using am) (fun j v aj=>by
   have:=h (j+1) v (by simpa using aj);rw[show o+(j+1)=o+1+j by omega] at this;exact this)
  refine⟨bs,?_,?_⟩
  ·unfold Extern.Bytes.loadBytes;rw[amw] at aF;simp only[Sem.run_bind,aF,Result.andThen_ok,Addr.lk];exact ad
  ·rw[af]; simp
theorem KT (rel:bZ R B w h μ) {x:U} {bA:Value} {l:List UInt8} (ag:sQ h x=some l) (ai:aP w R h μ x bA) :∃ bs,(Extern.Bytes.bytesOf bA).run P w=.ok bs w/\bs.data.toList=l:=by
 unfold sQ at ag;split at ag
 ·simp only[Option.some.injEq] at ag; subst ag;cases ai with
  | str bs=>exact⟨bs,by simp[Extern.Bytes.bytesOf],rfl⟩
 ·rename_i rR;split at ag
  ·rename_i cs n ea;obtain⟨bm,bC,vs,cX,kC⟩:=vd (P:=P) rel ea ai;have aI:=kC n (akb _) w (fun _=>rfl);obtain⟨gA,rfl,rfl⟩:=Fr cs vs l ag cX.1 cX.2;have jB:gA.length=n:=by have:=cX.1; simp at this; omega
   have Ah:(gA.map (Value.int .u8)).take (n*1)=gA.map (Value.int .u8) :=aj9 (by simp; omega);rw[Ah] at aI;have GI:∃ a len cap,bA=.slice a len cap:=by
    cases ai<;>first | exact⟨_,_,_,rfl⟩ | (simp[contents] at ea; done) | (exact absurd rfl (rR _))
   obtain⟨a,len,cap,rfl⟩:=GI;simp only[Builtin.lenOf,Sem.run_pure,Result.ok.injEq] at bC;obtain⟨rfl,_⟩:=bC;cases a with
   | none=>
    simp only[Builtin.firstCells,Sem.run_pure,Result.ok.injEq] at aI;have kL:gA=[] :=by
     have:=congrArg Array.toList aI.1;simpa using this.symm
    subst kL;exact⟨.empty,by simp[Extern.Bytes.bytesOf],rfl⟩
   | some a=>
    by_cases tj:len=0
    ·subst tj;have:gA=[] :=akH.1 jB;subst this;exact⟨.empty,by simp[Extern.Bytes.bytesOf,Extern.Bytes.loadBytes],rfl⟩
    have aC:∃ blk o,a=⟨blk,o,none⟩:=by
     cases ai with
     | ar=>exact⟨_,_,rfl⟩
     | b1=>exact⟨_,_,rfl⟩
     | fw=>exact absurd rfl tj
     | iT=>exact absurd rfl tj
     | bad=>simp[contents] at ea
     | hZ _ _ _ _ _ _ _ _ ad af aA=>
      exfalso;simp only[contents] at ea;rcases aA with aA | ⟨n,h4,aA,aO⟩
      ·rw[aA] at ea; cases ea
      ·rw[aA] at ea;simp only at ea;split at ea
       ·rename_i aR; omega
       ·cases ea
    obtain⟨blk,o,rfl⟩:=aC;simp only[Builtin.firstCells,alM] at aI;unfold loadCells at aI;obtain⟨l,ad,af,al⟩:=loadCellsFrom_ok _ _ _ _ _ _ aI;have aG:l=gA.map (Value.int .u8) :=by
     have:=congrArg Array.toList af;simpa using this.symm
    subst aG;obtain⟨bs,a6,bK⟩:=Qr (P:=P) (w:=w) (blk:=blk) len o gA .empty jB (fun j v aj=>by
     have:=al j v aj;rw[Addr.lk,alf] at this;exact this)
    exact⟨bs,by simpa [Extern.Bytes.bytesOf] using a6,by rw[bK]; rfl⟩
  ·cases ag
theorem K8:∀ (a b:List UInt8),(match (List.range (min a.length b.length)).find? fun i=>a.getD i 0 != b.getD i 0 with
  | some i=>if a.getD i 0<b.getD i 0 then (-1:Int) else 1
  | none=>if a.length<b.length then -1 else if a.length > b.length then 1 else 0)=np a b
 | [],[]=>by simp[np]
 | [],_::_=>by simp[np]
 | _::_,[]=>by simp[np]
 | x::a,y::b=>by
  have aQ:=K8 a b;simp only[akv,Nat.add_min_add_right,List.range_succ_eq_map,amJ,List.getD_cons_zero];by_cases jj:x=y
  ·subst jj;simp only[bne_self_eq_false,np,if_true];rw[<-aQ,List.find?_map];have xv:((fun i=>(x::a).getD i 0 != (x::b).getD i 0) ∘ Nat.succ)=fun i=>a.getD i 0 != b.getD i 0:=by
    funext i; simp
   rw[xv];cases aI:(List.range (min a.length b.length)).find? fun i=>a.getD i 0 != b.getD i 0 with
   | none=>simp only[Option.map_none]; congr 1<;>simp
   | some i=>simp
  ·have bW:(x != y)=true:=by simp[jj]
   simp only[bW,np,if_neg jj,List.getD_cons_zero]
theorem LD {α:Type} {p q:α->Bool}:∀ (l:List α),(∀ x∈l,p x=q x)->l.find? p=l.find? q
 | [],_=>rfl
 | x::l,h=>by
  rw[amJ,amJ,h x (by simp),LD l (fun y aL=>h y (by simp[aL]))]
theorem sW (a b:ByteArray) :Extern.BytealgCompare.cmp a b=np a.data.toList b.data.toList:=by
 rw[<-K8];unfold Extern.BytealgCompare.cmp;have aA:∀ (a:ByteArray) (i:Nat),i<a.size->a[i]! = a.data.toList.getD i 0:=fun a i aB=>by
  simp only[ako,alT];rw[getElem!_pos a i aB];have:i<a.data.size:=aB;rw[alz this]; rfl
 have am:∀ a:ByteArray,a.data.toList.length=a.size:=fun a=>by rw[al5]; rfl
 rw[am,am];have GH:(List.range (min a.size b.size)).find? (fun i=>a[i]! != b[i]!)=(List.range (min a.size b.size)).find? (fun i=>a.data.toList.getD i 0 != b.data.toList.getD i 0) :=by
  apply LD;intro i aB;have:=akM.1 aB;rw[aA a i (by omega),aA b i (by omega)]
 rw[GH];cases aI:(List.range (min a.size b.size)).find? (fun i=>a.data.toList.getD i 0 != b.data.toList.getD i 0) with
 | none=>rfl
 | some i=>
  have:=akM.1 (am1 aI);simp only;rw[aA a i (by omega),aA b i (by omega)]
theorem UE {fn:Func} (aD:fn.name= "internal/bytealg.Compare") (au:fn.origin= ""\/fn.origin= "internal/bytealg.Compare") :Extern.find fn=some Extern.BytealgCompare.compare/\Extern.findNext fn=none:=by
 constructor
 ·unfold Extern.find;simp only[aD];rfl
 ·unfold Extern.findNext;simp only[aD];rcases au with au | au<;>rw[au]<;>rfl
theorem Uu (rel:bZ R B w h μ) {f:FuncId} {fn:Func} {args:List U} {vs:Array Value} {c:U} (aI:P.funcs[f]? = some fn) (aB:Av fn=true) (ah:y5 h args=some c)
  (am:vs.size=args.length) (aq:∀ (j:Nat) (c:U) (v:Value),args[j]? = some c->vs[j]? = some v->aP w R h μ c v) :
  ∃ v,(callFunc f vs).run P w=.ok (.value v) w/\aP w R h μ c v:=by
 unfold Av at aB;simp only[akh,al8,beq_iff_eq] at aB;obtain⟨⟨ag,aD⟩,au⟩:=aB;unfold y5 at ah;split at ah
 ·rename_i x y;split at ah
  ·rename_i a b aC bN;simp only[Option.some.injEq] at ah; subst ah;simp only[akv,akR] at am;have kL:vs=#[vs[0],vs[1]] :=by
    apply Array.ext
    ·simpa using am
    ·intro i ad af;rcases (show i=0\/i=1 by simp at af; omega) with rfl | rfl<;>rfl
   obtain⟨ba,ad,af⟩:=KT (P:=P) rel aC (aq 0 x vs[0] rfl (by simp[am]));obtain⟨aep,al,aG⟩:=KT (P:=P) rel bN (aq 1 y vs[1] rfl (by simp[am]));obtain⟨aS,bv⟩:=UE aD au;refine⟨.int .i64 (np a b),?_,.int _ _⟩;rw[kL];have bW:fn.name≠ "runtime.NumGoroutine":=by rw[aD]; decide
   have ag:=am2.1 ag;have Gv:Extern.BytealgCompare.compare #[vs[0],vs[1]]=(do pure (goInt (Extern.BytealgCompare.cmp (<-Extern.Bytes.bytesOf vs[0]) (<-Extern.Bytes.bytesOf vs[1])))) :=rfl;simp[callFunc,aI,bW,ag,aS,bv,mark,Sem.run,Gv,ad,al,sW,af,aG,goInt]
  ·cases ah
 ·cases ah
end

section
variable {P:Program} {w:World} {R:Nat->Prop} {B:Nat} {h:aW} {μ:cI}
inductive uR:Value->Value->Prop where
 | bool (a b:Bool) :uR (.bool a) (.bool b)
 | agg (a b:Array Value) :uR (.agg a) (.agg b)
 | slice (a:Option Addr) (l c:Nat) (ey:Option Addr) (l' c' : Nat) :uR (.slice a l c) (.slice ey l' c')
theorem Um {d:Nat} {t:TypeId} {x y:U} {b:Bool} {bA fz:Value} (ao:ek P d t x y=some b) (ai:aP w R h μ x bA) (aL:aP w R h μ y fz)
  (aB:∀ k a k' bc,x=.int k a->y=.int k' bc->False) (ak:∀ a bc,x=.str a->y=.str bc->False) :uR bA fz:=by
 cases d with
 | zero=>simp[ek] at ao
 | succ d=>
  unfold ek at ao;split at ao
  ·cases ai; cases aL; exact .bool _ _
  ·exact (aB _ _ _ _ rfl rfl).elim
  ·exact (ak _ _ rfl rfl).elim
  ·cases ai; cases aL; exact .agg _ _
  ·cases ai; cases aL; exact .agg _ _
  ·cases ai; cases aL; exact .slice _ _ _ _ _ _
  ·cases ai; cases aL<;>exact .slice _ _ _ _ _ _
  ·cases ai; cases aL<;>exact .slice _ _ _ _ _ _
  ·cases ai<;>cases aL<;>exact .slice _ _ _ _ _ _
  ·cases ai<;>cases aL<;>exact .slice _ _ _ _ _ _
  ·cases ao
theorem Uj {op:BinOp} {t:TypeId} {sh qY:Operand} {bA fz:Value} (ak:uR bA fz) (aA:∀ a b,bA=.agg a->fz=.agg b->P.eqGuardType P.depth t=false) :(eqGuard op t sh qY bA fz).run P w=.ok () w:=by
 cases ak with
 | bool a b=>cases op<;>rfl
 | agg a b=>exact run_eqGuard_agg w op t sh qY a b (aA a b rfl rfl)
 | slice=>cases op<;>rfl
theorem abR {t:TypeId} {bA fz:Value} {b:Bool} (ak:uR bA fz) (gk:(Op.equalIn 10000 t bA fz).run P w=.ok b w) :
  (binOp .eql t bA fz).run P w=.ok (.bool b) w/\(binOp .neq t bA fz).run P w=.ok (.bool (!b)) w:=by
 have a8:(Op.equal t bA fz).run P w=.ok b w:=gk;cases ak<;>constructor<;>simp[binOp,a8]
theorem Ui {op:BinOp} {t:TypeId} {sh qY:Operand} {k k' : IntKind} {a b:Int}:(eqGuard op t sh qY (.int k a) (.int k' b)).run P w=.ok () w:=by
 cases op<;>rfl
theorem Uk {op:BinOp} {t:TypeId} {sh qY:Operand} {a b:ByteArray}:(eqGuard op t sh qY (.string a) (.string b)).run P w=.ok () w:=by
 cases op<;>rfl
theorem SK {op:BinOp} {t:TypeId} {sh qY:Operand} {x y c:U} {bA fz:Value} (ah:fT P op t x y=some c) (ai:aP w R h μ x bA) (aL:aP w R h μ y fz) :
  ∃ v,((do eqGuard op t sh qY bA fz; binOp op t bA fz:Sem Value)).run P w=.ok v w/\aP w R h μ c v:=by
 unfold fT at ah;split at ah
 ·cases ai; cases aL;obtain⟨v,ad,af⟩:=SL (P:=P) (w:=w) (R:=R) (h:=h) (μ:=μ) (t:=t) ah;exact⟨v,by simp[Ui,ad],af⟩
 ·cases ai; cases aL;obtain⟨v,ad,af⟩:=SM (P:=P) (w:=w) (R:=R) (h:=h) (μ:=μ) (t:=t) ah;exact⟨v,by simp[Uk,ad],af⟩
 ·rename_i tk rR;have key:∀ b,vj P t x y=true->ek P 10000 t x y=some b->uR bA fz/\(eqGuard op t sh qY bA fz).run P w=.ok () w ∧
    (binOp .eql t bA fz).run P w=.ok (.bool b) w/\(binOp .neq t bA fz).run P w=.ok (.bool (!b)) w:=by
   intro b c0 ao;have nz:=Um ao ai aL tk rR;have aA:∀ a b,bA=.agg a->fz=.agg b->P.eqGuardType P.depth t=false:=by
    rintro a b rfl rfl;cases ai with
    | aH cs _ _ _ _=>
     cases aL with
     | aH cs' _ _ _ _=>simpa [vj] using c0
     | bad=>simp[ek] at ao
    | bad=>cases aL<;>simp[ek] at ao
   have a8:=FM 10000 t x y b bA fz ao ai aL;obtain⟨b4,cx⟩:=abR nz a8;exact⟨nz,Uj nz aA,b4,cx⟩
  split at ah
  ·split at ah
   ·rename_i c0;cases ao:ek P 10000 t x y with
    | none=>rw[ao] at ah; cases ah
    | some b=>
     rw[ao] at ah;simp only[akg,Option.some.injEq] at ah; subst ah;obtain⟨_,b4,cx,_⟩:=key b c0 ao;exact⟨.bool b,by simp[b4,cx],.bool _⟩
   ·cases ah
  ·split at ah
   ·rename_i c0;cases ao:ek P 10000 t x y with
    | none=>rw[ao] at ah; cases ah
    | some b=>
     rw[ao] at ah;simp only[akg,Option.some.injEq] at ah; subst ah;obtain⟨_,b4,_,cx⟩:=key b c0 ao;exact⟨.bool (!b),by simp[b4,cx],.bool _⟩
   ·cases ah
  ·cases ah
theorem adm {op:UnOp} {x c:U} {bA:Value} (ah:p4 op x=some c) (ai:aP w R h μ x bA) :∃ v,(Op.unary op bA).run P w=.ok v w/\aP w R h μ c v:=by
 unfold p4 at ah;split at ah
 ·simp only[Option.some.injEq] at ah; subst ah;cases ai;exact⟨_,by simp[Op.unary],.bool _⟩
 ·simp only[Option.some.injEq] at ah; subst ah;cases ai;refine⟨_,?_,.int _ _⟩;simp only[Op.unary]; rfl
 ·simp only[Option.some.injEq] at ah; subst ah;cases ai;refine⟨_,?_,.int _ _⟩;simp only[Op.unary]; rfl
 ·cases ah
theorem Iu {aE:Operand->U} {dM:Operand->Value} (cU:∀ x,aP w R h μ (aE x) (dM x)) (o:Option Operand) :uV w R h μ (o.map aE) (o.map dM) :=by
 cases o with
 | none=>trivial
 | some x=>exact cU x
def yK (P:Program) (R:Nat->Prop) (B:Nat) (w:World) (h:aW) (μ:cI) (r:Result Next) :n4->Prop
 | .val c h'=>Good R B w h μ r c h'
 | .call f args h'=>h'=h/\∃ vs:Array Value,r=.ok (.enter f vs) w/\vs.size=args.length/\∀ (j:Nat) (c:U) (v:Value),args[j]? = some c->vs[j]? = some v->aP w R h μ c v
theorem Good.mk {r:Result Next} {c:U} {h' : aW} {v:Value} {w' : World} {μ' : cI} (ay:r=.ok (.value v) w') (ao:dB w h μ w' h' μ') (am:bZ R B w' h' μ') (aq:aP w' R h' μ' c v) :Good R B w h μ r c h':=
 ⟨v,w',μ',.inl ay,ao,am,aq⟩
theorem S7 (rel:bZ R B w h μ) {b:Builtin} {ts:Array TypeId} {ty:TypeId} {consts:Array Bool} {args:List U} {vs:Array Value} {r:n4} (ak:ob P h b ts.toList args=some r)
  (am:vs.size=args.length) (aq:∀ (j:Nat) (c:U) (v:Value),args[j]? = some c->vs[j]? = some v->aP w R h μ c v) :yK P R B w h μ ((builtin b ts ty consts vs).run P w) r:=by
 have one:∀ x,args=[x]->∃ bA,vs=#[bA]/\aP w R h μ x bA:=by
  intro x ai;subst ai;simp only[akv,akR] at am;refine⟨vs[0],?_,aq 0 x _ rfl (by simp[am])⟩;apply Array.ext
  ·simpa using am
  ·intro i ad af;have:i=0:=by omega
   subst this; rfl
 have two:∀ x y,args=[x,y]->∃ bA fz,vs=#[bA,fz]/\aP w R h μ x bA/\aP w R h μ y fz:=by
  intro x y ai;subst ai;simp only[akv,akR] at am;refine⟨vs[0],vs[1],?_,aq 0 x _ rfl (by simp[am]),aq 1 y _ rfl (by simp[am])⟩;apply Array.ext
  ·simpa using am
  ·intro i ad af;rcases (show i=0\/i=1 by simp at af; omega) with rfl | rfl<;>rfl
 have Fc:∀ t,ts.toList=[t]->ts=#[t] :=fun t a3=>by apply Array.toList_inj.1; simpa using a3
 have Kw:∀ t u,ts.toList=[t,u]->ts=#[t,u] :=fun t u a3=>by apply Array.toList_inj.1; simpa using a3
 unfold ob at ak;split at ak
 ·rename_i t x pH;obtain⟨bA,rfl,ai⟩:=one x rfl;obtain rfl:=Fc t pH;split at ak
  ·rename_i c ah;simp only[Option.some.injEq] at ak; subst ak;obtain⟨v,ad,af⟩:=Y4 (P:=P) (ty:=ty) rel ah ai;exact Good.mk (by simp[builtin,ad]) (.refl _ _ _) rel af
  cases ah:v5 P t x with
  | none=>rw[ah] at ak; cases ak
  | some c=>
   rw[ah] at ak;simp only[akg,Option.some.injEq] at ak; subst ak;obtain⟨v,ad,af⟩:=Y5 (P:=P) (u:=t) (ty:=ty) ah ai;exact Good.mk (by simp[builtin,ad]) (.refl _ _ _) rel af
 ·rename_i t u s x pH;obtain⟨nQ,bA,rfl,rW,ai⟩:=two s x rfl;obtain rfl:=Kw t u pH;split at ak
  ·rename_i k aM;cases ah:yQ P h t s x with
   | none=>rw[ah] at ak; cases ak
   | some c=>
    obtain⟨c,h'⟩:=c;rw[ah] at ak;simp only[akg,Option.some.injEq] at ak; subst ak;obtain⟨v,w',μ',ad,af,al,aG⟩:=Sz (ty:=ty) rel aM ah rW ai;exact Good.mk (by simp[builtin,ad]) af al aG
  ·cases ak
  ·rename_i qz rQ;cases ah:wB P h t s x with
   | none=>rw[ah] at ak; cases ak
   | some c=>
    obtain⟨c,h'⟩:=c;rw[ah] at ak;simp only[akg,Option.some.injEq] at ak; subst ak;have aM:DV P u:=by
     cases bh:P.underlying u with
     | none=>exact absurd bh rQ
     | some d=>exact⟨d,bh,fun k ax=>qz k (by rw[bh,ax])⟩
    obtain⟨v,w',μ',ad,af,al,aG⟩:=SA (ty:=ty) rel aM ah rW ai;exact Good.mk (by simp[builtin,ad]) af al aG
 ·rename_i t u d x pH;obtain⟨FF,bA,rfl,bh,ai⟩:=two d x rfl;obtain rfl:=Kw t u pH;cases ah:wT P h t d x with
  | none=>rw[ah] at ak; cases ak
  | some c=>
   obtain⟨c,h'⟩:=c;rw[ah] at ak;simp only[akg,Option.some.injEq] at ak; subst ak;obtain⟨v,w',ad,af,al,aG⟩:=TP (u:=u) (ty:=ty) rel ah bh ai;exact Good.mk (by simp[builtin,ad]) af al aG
 ·rename_i t x pH;obtain⟨bA,rfl,ai⟩:=one x rfl;obtain rfl:=Fc t pH;cases ah:wL P t x with
  | none=>rw[ah] at ak; cases ak
  | some c=>
   rw[ah] at ak;simp only[akg,Option.some.injEq] at ak; subst ak;obtain⟨v,ad,af⟩:=Tk (P:=P) (ty:=ty) ah ai;exact Good.mk (by simp[builtin,ad]) (.refl _ _ _) rel af
 ·rename_i t x pH;obtain⟨bA,rfl,ai⟩:=one x rfl;obtain rfl:=Fc t pH;cases ah:wN P h t x with
  | none=>rw[ah] at ak; cases ak
  | some h'=>
   rw[ah] at ak;simp only[akg,Option.some.injEq] at ak; subst ak;obtain⟨w',ad,af,al⟩:=Tx (P:=P) (ty:=ty) rel ah ai;exact Good.mk (v:=.tuple #[]) (by simp[builtin,ad]) af al (.bu [] #[] rfl (fun _ _ _ aR=>by simp at aR))
 ·rename_i x y;obtain⟨bA,fz,rfl,ai,aL⟩:=two x y rfl;cases ah:wa x y with
  | none=>rw[ah] at ak; cases ak
  | some c=>
   rw[ah] at ak;simp only[akg,Option.some.injEq] at ak; subst ak;unfold wa at ah;split at ah
   ·split at ah
    ·rename_i ax; subst ax;simp only[Option.some.injEq] at ah; subst ah;cases ai; cases aL;refine Good.mk (v:=.int _ _) ?_ (.refl _ _ _) rel (.int _ _);simp[builtin,Builtin.min_,Builtin.min2]
    ·cases ah
   ·cases ah
 ·rename_i x y;obtain⟨bA,fz,rfl,ai,aL⟩:=two x y rfl;cases ah:tP x y with
  | none=>rw[ah] at ak; cases ak
  | some c=>
   rw[ah] at ak;simp only[akg,Option.some.injEq] at ak; subst ak;unfold tP at ah;split at ah
   ·split at ah
    ·rename_i ax; subst ax;simp only[Option.some.injEq] at ah; subst ah;cases ai; cases aL;refine Good.mk (v:=.int _ _) ?_ (.refl _ _ _) rel (.int _ _);simp[builtin,Builtin.max_,Builtin.max2]
    ·cases ah
   ·cases ah
 ·cases ak
theorem KW {f:FuncId} {fn:Func} {vs:Array Value} (aI:P.funcs[f]? = some fn) (ag:fn.body.isSome=true) (aD:fn.name≠ "runtime.NumGoroutine") :(callFunc f vs).run P w=.ok (.enter f vs) w:=by
 have bN:fn.body≠none:=fun aR=>by rw[aR] at ag; cases ag
 simp[callFunc,aI,aD,bN]
theorem H4 {aE:Operand->U} {dM:Operand->Value} (cU:∀ x,aP w R h μ (aE x) (dM x)) (xs:Array Operand) :
  ∀ (j:Nat) (c:U) (v:Value),(xs.toList.map aE)[j]? = some c->(xs.map dM)[j]? = some v->aP w R h μ c v:=by
 intro j c v aj aq;rw[akd] at aj;rw[amx] at aq;cases au:xs[j]? with
 | none=>simp[au] at aq
 | some o=>
  simp[au] at aj aq;subst aj aq;exact cU o
theorem Zu {t:TypeId} {name:String} {g:FuncId} (hm:x2 P t name=some g) (u:Value) :(Go.method (P.types.size+Made.depth) t u name).run P w=.ok (g,u) w:=by
 unfold x2 at hm;split at hm
 ·cases hm
 ·cases hm
 ·rename_i xM Hs;split at hm
  ·rename_i i aB;split at hm
   ·rename_i m aI;split at hm
    ·rename_i f av jw;cases hm;obtain⟨k,ax⟩:∃ k,P.types.size+Made.depth=k+1:=⟨P.types.size+Made.depth - 1,by unfold Made.depth; omega⟩
     rw[ax];cases bh:P.underlying t with
     | none=>exact absurd bh Hs
     | some d=>
      have agw:m.path=#[] :=Array.toList_eq_nil_iff.1 av;cases d<;>first
       | (exfalso; exact xM _ bh)
       | simp[Go.method,typeInfo,aB,aI,av,jw,follow,receiverAt,cn bh,Place.get]
    ·cases hm
   ·cases hm
  ·cases hm
theorem acU {t JX:TypeId} {ok:Bool} {z c x:U} {v:Value} (aw:EA P t=some z) (ah:Bk t z ok x=some c) (ai:aP w R h μ x v) :
  ∃ a4,(Instr.typeAssert v JX t ok).run P w=.ok a4 w/\aP w R h μ c a4:=by
 unfold EA at aw;split at aw
 ·cases aw
 ·cases aw
 ·rename_i xM Hs;cases bh:P.underlying t with
  | none=>exact absurd bh Hs
  | some d=>
   obtain⟨zv,vZ,lE⟩:=RU (P:=P) (w:=w) (R:=R) (h:=h) (μ:=μ) aw;have two:∀ (a:U) (hK:Value) (q:Bool),aP w R h μ a hK->aP w R h μ (.bu [a,.bool q]) (.tuple #[hK,.bool q]) :=by
    intro a hK q aC;refine .bu _ _ rfl (fun j c v aj aq=>?_)
    match j,aj,aq with
    | 0,aj,aq=>simp at aj aq; subst aj aq; exact aC
    | 1,aj,aq=>simp at aj aq; subst aj aq; exact .bool q
    | j+2,aj,aq=>simp at aj
   cases x<;>simp only[Bk] at ah<;>try (cases ah; done)
   case jl=>
    cases ai;cases ok<;>simp only at ah<;>cases ah;refine⟨.tuple #[zv,.bool false],?_,two _ _ _ lE⟩;cases d<;>first
     | (exfalso; exact xM _ bh)
     | simp[Instr.typeAssert,cn bh,vZ]
   case hi fQ yV=>
    cases ai with
    | hi _ _ u aM=>
     split at ah
     ·rename_i a3;have a3:=alh a3;subst a3;cases ok<;>simp only at ah<;>cases ah
      ·refine⟨u,?_,aM⟩;cases d<;>first
        | (exfalso; exact xM _ bh)
        | simp[Instr.typeAssert,cn bh]
      ·refine⟨.tuple #[u,.bool true],?_,two _ _ _ aM⟩;cases d<;>first
        | (exfalso; exact xM _ bh)
        | simp[Instr.typeAssert,cn bh]
     ·rename_i a3;have a3:fQ≠t:=fun h=>by rw[h,am3] at a3; cases a3
      cases ok<;>simp only at ah<;>cases ah;refine⟨.tuple #[zv,.bool false],?_,two _ _ _ lE⟩;cases d<;>first
       | (exfalso; exact xM _ bh)
       | simp[Instr.typeAssert,cn bh,vZ,a3]
theorem Tg (rel:bZ R B w h μ) {aE:Operand->U} {dM:Operand->Value} (cU:∀ x,aP w R h μ (aE x) (dM x)) {c:Call} {ty:TypeId} {r:n4} (ak:sR P h aE c=some r) :
  yK P R B w h μ ((do let d <-resolve dM c ty; invoke d.target d.args:Sem Next).run P w) r:=by
 unfold sR at ak;split at ak
 ·rename_i b ag;have:=fun consts=>S7 (P:=P) (b:=b) (ts:=c.argTypes) (ty:=ty) (consts:=consts) (args:=c.args.toList.map aE) (vs:=c.args.map dM) rel ak (by simp)
   (fun j x v aj aq=>by
    rw[akd] at aj;rw[amx] at aq;cases au:c.args[j]? with
    | none=>simp[au] at aq
    | some o=>
     simp[au] at aj aq;subst aj aq;exact cU o)
  simp only[resolve,ag,Sem.run_bind,Sem.run_pure,Result.andThen_ok,invoke];exact this _
 ·rename_i f aI;split at ak
  ·rename_i g first gq jw
   have aq:=cU f;rw[jw] at aq;cases te:dM f with
   | func afR fs cs=>
    rw[te] at aq;cases aq with
    | fn _ _ _ _ _ ad af al aG=>
     split at ak
     ·rename_i fn xv;have CA:∀ (j:Nat) (x:U) (v:Value),(first++c.args.toList.map aE++gq)[j]? = some x->(fs++c.args.map dM++cs)[j]? = some v->aP w R h μ x v:=by
       intro j x v aj kJ;by_cases oE:j<first.length
       ·rw[akU,aj8 oE] at aj;rw[amT,alE (by omega)] at kJ;exact al j x v aj kJ
       ·by_cases oF:j<first.length+c.args.size
        ·rw[aj8 (by simp; omega),akt (by omega),akd] at aj;rw[alE (by simp; omega),aml (by omega),amx,ad] at kJ;cases au:c.args[j - first.length]? with
         | none=>simp[au] at kJ
         | some o=>
          simp[au] at aj kJ;subst aj kJ;exact cU o
        ·rw[akt (by simp; omega)] at aj;rw[aml (by simp; omega)] at kJ;refine aG _ x v aj ?_;simpa [ad] using kJ
      split at ak
      ·rename_i iX;simp only[Option.some.injEq] at ak; subst ak;refine⟨rfl,fs++c.args.map dM++cs,?_,by simp[ad,af],CA⟩;simp[resolve,aI,te,Deferred.ofValue,invoke,KW xv iX.1 iX.2]
      ·split at ak
       ·rename_i Gv;cases da:y5 h (first++c.args.toList.map aE++gq) with
        | none=>rw[da] at ak; cases ak
        | some ae0=>
         rw[da] at ak;simp only[akg,Option.some.injEq] at ak; subst ak;obtain⟨v,aS,bv⟩:=Uu (P:=P) (vs:=fs++c.args.map dM++cs) rel xv Gv da (by simp[ad,af]) CA;rw[amT] at aS;exact Good.mk (by simp[resolve,aI,te,Deferred.ofValue,invoke,aS]) (.refl _ _ _) rel bv
       ·cases ak
     ·cases ak
   | _=>rw[te] at aq; cases aq
  ·cases ak
 ·rename_i x name ah;split at ak
  ·rename_i t EE ai;have aq:=cU x;rw[ai] at aq;split at ak
   ·rename_i g hm;split at ak
    ·rename_i fn xv;split at ak
     ·rename_i iX;simp only[Option.some.injEq] at ak; subst ak;cases te:dM x with
      | iface fQ u=>
       rw[te] at aq;cases aq with
       | hi _ _ _ aM=>
        refine⟨rfl,#[u]++c.args.map dM,?_,by simp; omega,?_⟩
        ·have W2:=Zu (P:=P) (w:=w) hm u;have aF:(#[Value.iface t u]++c.args.map dM)[0]? = some (Value.iface t u) :=by rw[alE (by simp)]; rfl
         have hv:(c.args.map dM).extract 0 c.args.size=c.args.map dM:=by
          apply Array.ext';simp[aj9]
         simp[aF,hv,resolve,ah,te,invoke,callMethod,W2,KW xv iX.1 iX.2]
        ·intro j x v aj kJ;cases j with
         | zero=>
          rw[alE (by simp)] at kJ;simp at aj kJ; subst aj kJ; exact aM
         | succ j=>
          rw[akN] at aj;rw[aml (by simp)] at kJ;exact H4 cU c.args j x v aj (by simpa using kJ)
      | _=>rw[te] at aq; cases aq
     ·cases ak
    ·cases ak
   ·cases ak
  ·cases ak
theorem IA {aE:Operand->U} {dM:Operand->Value} (cU:∀ x,aP w R h μ (aE x) (dM x)) (ps:Array (Nat × Operand)) :
  (ps.map fun (i,x)=>(i,dM x)).size=(ps.toList.map fun p=>(p.1,aE p.2)).length ∧
  ∀ (j:Nat) (p:Nat × U) (cf:Nat × Value),(ps.toList.map fun p=>(p.1,aE p.2))[j]? = some p->(ps.map fun (i,x)=>(i,dM x))[j]? = some cf->cf.1=p.1/\aP w R h μ p.2 cf.2:=by
 refine⟨by simp,fun j p cf aj eX=>?_⟩;rw[akd] at aj;rw[amx] at eX;cases au:ps[j]? with
 | none=>simp[au] at eX
 | some o=>
  simp[au] at aj eX;subst aj eX;exact⟨rfl,cU o.2⟩
theorem Jo (rel:bZ R B w h μ) {aE:Operand->U} {dM:Operand->Value} (cU:∀ x,aP w R h μ (aE x) (dM x)) (o:Oper) {r:n4} (ak:cQ P h aE o.op=some r) :
  yK P R B w h μ ((execOp dM o).run P w) r:=by
 obtain⟨dst,op,type,pos,after,guard⟩:=o;have nG:∀ {x:Option U} {m:Sem Value},(∀ c,x=some c->∃ v,m.run P w=.ok v w/\aP w R h μ c v)->x.map (fun y=>n4.val y h)=some r->
   yK P R B w h μ ((do pure (.value (<-m)) :Sem Next).run P w) r:=by
  intro x m ai ay;cases eZ:x with
  | none=>rw[eZ] at ay; cases ay
  | some c=>
   rw[eZ] at ay;simp only[akg,Option.some.injEq] at ay; subst ay;obtain⟨v,ad,af⟩:=ai c eZ;exact Good.mk (by simp[ad]) (.refl _ _ _) rel af
 have DZ:∀ {x:Option (U × aW)} {m:Sem Value},(∀ c h',x=some (c,h')->∃ v w' μ',m.run P w=.ok v w'/\dB w h μ w' h' μ'/\bZ R B w' h' μ'/\aP w' R h' μ' c v)->x.map (fun y=>n4.val y.1 y.2)=some r->
   yK P R B w h μ ((do pure (.value (<-m)) :Sem Next).run P w) r:=by
  intro x m ai ay;cases eZ:x with
  | none=>rw[eZ] at ay; cases ay
  | some c=>
   obtain⟨c,h'⟩:=c;rw[eZ] at ay;simp only[akg,Option.some.injEq] at ay; subst ay;obtain⟨v,w',μ',ad,af,al,aG⟩:=ai c h' eZ;exact Good.mk (by simp[ad]) af al aG
 cases op
 case move x=>
  simp only[cQ,Option.some.injEq] at ak; subst ak;exact Good.mk (by simp[execOp]) (.refl _ _ _) rel (cU x)
 case assign x=>
  simp only[cQ,Option.some.injEq] at ak; subst ak;exact Good.mk (by simp[execOp]) (.refl _ _ _) rel (cU x)
 case pick c a b=>
  simp only[cQ] at ak;have k1:=cU c;cases ah:aE c<;>rw[ah] at ak k1<;>simp only at ak<;>try (cases ak; done)
  simp only[Option.some.injEq] at ak; subst ak;cases aq:dM c<;>rw[aq] at k1<;>try (cases k1; done)
  cases k1;rename_i t;cases t
  ·exact Good.mk (v:=dM b) (by simp[execOp,aq,asBool]) (.refl _ _ _) rel (by simpa using cU b)
  ·exact Good.mk (v:=dM a) (by simp[execOp,aq,asBool]) (.refl _ _ _) rel (by simpa using cU a)
 case alloc t=>
  simp only[cQ] at ak;cases aw:ho P t with
  | none=>rw[aw] at ak; cases ak
  | some z=>
   rw[aw] at ak;simp only[akg,Option.some.injEq] at ak; subst ak;obtain⟨v,aq,ay⟩:=uO (P:=P) (w:=w) (R:=R) (h:=h) (μ:=μ) aw;obtain⟨a2,bb,cr⟩:=BJ rel (cs:=z) (vs:=v.cells) t ay.1 ay.2;exact Good.mk (by simp[execOp,Instr.alloc,aq,newVar,newRow]) a2 bb (cr 0)
 case box t x=>
  simp only[cQ] at ak;cases aw:(aE x).cells with
  | none=>rw[aw] at ak; cases ak
  | some z=>
   rw[aw] at ak;simp only[akg,Option.some.injEq] at ak; subst ak;obtain⟨b4,cx⟩:=B1 (cU x) aw;obtain⟨a2,bb,cr⟩:=BJ rel (cs:=z) (vs:=(dM x).cells) t b4 cx;exact Good.mk (by simp[execOp,Instr.box,newVar,newRow]) a2 bb (cr 0)
 case build t parts=>
  obtain⟨b4,cx⟩:=IA cU parts;exact nG (fun c ah=>S5 ah b4 cx) ak
 case buildSlice t len parts=>
  obtain⟨b4,cx⟩:=IA cU parts;exact DZ (fun c h' ah=>S4 rel ah b4 cx) ak
 case load t a=>exact nG (fun c ah=>OC rel ah (cU a)) ak
 case store t a x=>
  simp only[cQ] at ak;cases bY:yp P h t (aE a) (aE x) with
  | none=>rw[bY] at ak; cases ak
  | some h'=>
   rw[bY] at ak;simp only[akg,Option.some.injEq] at ak; subst ak;obtain⟨w',ad,af,al⟩:=acJ (P:=P) rel bY (cU a) (cU x);exact⟨undef,w',μ,.inr ⟨by simp[execOp,ad],rfl⟩,af,al,.bu [] #[] rfl (fun _ _ _ aR=>by simp at aR)⟩
 case nilCheck x=>
  simp only[cQ] at ak;have aq:=cU x;cases ah:aE x<;>rw[ah] at ak aq<;>simp only at ak<;>try (cases ak; done)
  all_goals
   simp only[Option.some.injEq] at ak; subst ak;cases ai:dM x<;>rw[ai] at aq<;>try (cases aq; done)
   rename_i y;refine Good.mk (v:=dM x) ?_ (.refl _ _ _) rel (by rw[ai]; exact aq);cases aq<;>simp[execOp,ai]
 case binOp op t x y aj4=>exact nG (fun c ah=>SK ah (cU x) (cU y)) ak
 case unOp op t x=>exact nG (fun c ah=>adm ah (cU x)) ak
 case convert s d x=>
  simp only[cQ] at ak;split at ak
  ·rename_i c ah;simp only[Option.some.injEq] at ak; subst ak;obtain⟨v,w',ad,af,al,aG⟩:=S9 rel ah (cU x);exact Good.mk (by simp[execOp,ad]) af al aG
  ·exact nG (fun c ah=>TM rel ah (cU x)) ak
 case makeInterface t x=>
  simp only[cQ] at ak;cases aM:P.underlying t with
  | none=>rw[aM] at ak; cases ak
  | some d=>
   rw[aM] at ak;cases d<;>simp only at ak<;>try (cases ak; done)
   all_goals
    simp only[Option.some.injEq] at ak; subst ak;exact Good.mk (v:=.iface t (dM x)) (by simp[execOp,Instr.makeInterface,cn aM]) (.refl _ _ _) rel (.hi t _ _ (cU x))
 case makeFunc fn first gq=>
  cases fn<;>simp only[cQ] at ak<;>try (cases ak; done)
  simp only[Option.some.injEq] at ak; subst ak;exact Good.mk (by simp[execOp,Instr.makeFunc]) (.refl _ _ _) rel (.fn _ _ _ _ _ (by simp) (by simp) (H4 cU first) (H4 cU gq))
 case makeSlice t l c=>exact DZ (fun c' h' ah=>Zq rel ah (cU l) (cU c)) ak
 case slice t x cE aB cB=>exact nG (fun c ah=>acu rel ah (cU x) (Iu cU cE) (Iu cU aB) (Iu cU cB)) ak
 case fieldAddr s x f=>exact nG (fun c ah=>Uy ah (cU x)) ak
 case field t x f=>
  simp only[cQ] at ak;split at ak
  ·rename_i cs fd ai aI;have aq:=cU x;rw[ai] at aq;exact nG (fun c ah=>Uz aI ah aq) ak
  ·cases ak
 case indexAddr t x i=>exact nG (fun c ah=>Yk ah (cU x) (cU i)) ak
 case index t x i=>exact nG (fun c ah=>HQ ah (cU x) (cU i)) ak
 case extract x i=>
  simp only[cQ] at ak;have aq:=cU x;cases ah:aE x<;>rw[ah] at ak aq<;>simp only at ak<;>try (cases ak; done)
  rename_i vs;cases ai:dM x<;>rw[ai] at aq<;>try (cases aq; done)
  rename_i arr;cases aq with
  | bu _ _ am Hv=>
   refine nG (m:=Instr.extract (dM x) i) (fun c ah=>?_) ak;have aO:i<arr.size:=by rw[am]; exact (aj7.1 ah).1
   exact⟨arr[i],by simp[Instr.extract,ai,aO],Hv i c _ ah (by simp[aO])⟩
 case call c=>exact Tg rel cU ak
 case makeMap t r=>
  simp only[cQ] at ak;split at ak
  ·rename_i k e aM ay;simp only[Option.some.injEq] at ak; subst ak;obtain⟨v,w',μ',ad,af,al,aG⟩:=Zp (P:=P) (t:=t) (r:=r.map dM) rel ⟨_,_,aM⟩ (fun x ai=>by
    cases r with
    | none=>cases ai
    | some o=>
     simp only[akg,Option.some.injEq] at ai; subst ai;simp only at ay;cases aB:asInt (aE o) with
     | none=>rw[aB] at ay; cases ay
     | some n=>
      obtain⟨k,ax⟩:=qk aB (cU o);exact⟨k,n,ax⟩)
   exact Good.mk (by simp[execOp,ad]) af al aG
  ·cases ak
 case lookup t m k ok=>exact nG (fun c ah=>Zd rel ah (cU m) (cU k)) ak
 case mapUpdate t m k x=>
  simp only[cQ] at ak;cases bY:v7 P h t (aE m) (aE k) (aE x) with
  | none=>rw[bY] at ak; cases ak
  | some h'=>
   rw[bY] at ak;simp only[akg,Option.some.injEq] at ak; subst ak;obtain⟨w',ad,af,al⟩:=OJ (P:=P) rel bY (cU m) (cU k) (cU x);exact⟨undef,w',μ,.inr ⟨by simp[execOp,ad],rfl⟩,af,al,.bu [] #[] rfl (fun _ _ _ aR=>by simp at aR)⟩
 case insert t m k x=>
  simp only[cQ] at ak;cases bY:v7 P h t (aE m) (aE k) (aE x) with
  | none=>rw[bY] at ak; cases ak
  | some h'=>
   rw[bY] at ak;simp only[akg,Option.some.injEq] at ak; subst ak;obtain⟨w',ad,af,al⟩:=OJ (P:=P) rel bY (cU m) (cU k) (cU x);exact⟨undef,w',μ,.inr ⟨by simp[execOp,ad],rfl⟩,af,al,.bu [] #[] rfl (fun _ _ _ aR=>by simp at aR)⟩
 case range t x=>exact DZ (fun c h' ah=>abi rel ah (cU x)) ak
 case next it isS=>
  cases isS with
  | false=>simp only[cQ] at ak; cases ak
  | true=>exact DZ (fun c h' ah=>by obtain⟨v,w',ad,af,al,aG⟩:=ZH (P:=P) (ty:=type) rel ah (cU it); exact⟨v,w',μ,ad,af,al,aG⟩) ak
 case typeAssert x JX t ok=>
  simp only[cQ] at ak;split at ak
  ·rename_i z aw;exact nG (fun c ah=>acU aw ah (cU x)) ak
  ·cases ak
 all_goals (simp only[cQ] at ak; cases ak)
end
inductive sD where
 | normal
 | exit (id:Nat)
 | ret
def sD.out:sD->Exit
 | .normal=>.normal
 | .exit id=>.exit id
 | .ret=>.ret
def jV (ops:Array Oper) (ae:Nat->U) (o:Oper) :Option Bool:=
 match o.guard with
 | none=>some true
 | some (j,yx)=>match (ops[j]?).bind (·.dst) with
  | none=>some false
  | some d=>match ae d with
   | .bool b=>some (b == yx)
   | .bad=>none
   | _=>some false
def hn (ae:Nat->U) (dst:Option Tmp) (c:U) :Nat->U:=match dst with | some d=>bH ae d c | none=>ae
def oj (N:Nat) (dst:Option Tmp) :Bool:=match dst with | some d=>decide (d<N) | none=>true
def yi (P:Program) (h:aW) (ae:Nat->U) :ResultVar->Option U
 | .tmp t=>some (ae t)
 | .cell a t=>qT P h t (ae a)
def uh (P:Program) (h:aW) (ae:Nat->U) :List ResultVar->Option (List U)
 | []=>some []
 | r::Bc=>match yi P h ae r,uh P h ae Bc with
  | some v,some vs=>some (v::vs)
  | _,_=>none
def wq:List U->U
 | [v]=>v
 | vs=>.bu vs
def Ek (P:Program) (h:aW) (ae:Nat->U) (fn:Func) :Option U:=(uh P h ae fn.results.toList).map wq
mutual
def U.closed:U->Bool
 | .aH cs=>a1 cs
 | .bu cs=>a1 cs
 | .cg cs _=>a1 cs
 | .b1 _ es=>y1 es
 | .fn _ a b=>a1 a&&a1 b
 | .hi _ v=>v.closed
 | .ptr .. | .ar .. | .mp _ | .it _=>false
 | _=>true
def a1:List U->Bool
 | []=>true
 | c::cs=>c.closed&&a1 cs
def y1:List (List U)->Bool
 | []=>true
 | c::cs=>a1 c&&y1 cs
end
def fA (w:World) (A:Nat->Prop) (c:U) (v:Value) :Prop:=aP w A aW.empty (fun _=>none) c v
structure Bw (w w' : World) :Prop extends RowKit.Below w.heap.size w w' where
 drawn:w.drawn<=w'.drawn
def rg (G:Nat->U) (w:World) (R:Nat->Prop) (h:aW) (μ:cI) :Prop:=∀ g,(G g).closed=true/\aP w R h μ (G g) (.pointer (some ⟨g,0,none⟩))
def yF (P:Program) (G:Nat->U) (f:FuncId) (args:List U) (h:aW) (r:U) (h' : aW) :Prop:=
 ∀ (R:Nat->Prop) (B:Nat) (w:World) (μ:cI) (vs:Array Value),bZ R B w h μ->rg G w R h μ->vs.size=args.length->
  (∀ (j:Nat) (c:U) (v:Value),args[j]? = some c->vs[j]? = some v->aP w R h μ c v)->
  Calls P f vs w fun e w'=>∃ v μ',e=.returned v/\dB w h μ w' h' μ'/\bZ R B w' h' μ'/\aP w' R h' μ' r v
def bn (P:Program) (G:Nat->U) (f:FuncId) (args:List U) (r:U) :Prop:=
 ∀ (w:World) (A:Nat->Prop) (vs:Array Value),(∀ g,fA w A (G g) (.pointer (some ⟨g,0,none⟩)))->vs.size=args.length->
  (∀ (j:Nat) (c:U) (v:Value),args[j]? = some c->vs[j]? = some v->fA w A c v)->
  Calls P f vs w fun e w'=>∃ v,e=.returned v/\Bw w w'/\fA w' (fun k=>A k\/w.heap.size<=k) r v
def pb (P:Program) (G:Nat->U) (f:FuncId) (args:List U) (r:U) :Prop:=
 ∀ (w:World) (A:Nat->Prop) (vs:Array Value),(∀ g,fA w A (G g) (.pointer (some ⟨g,0,none⟩)))->vs.size=args.length->
  (∀ (j:Nat) (c:U) (v:Value),args[j]? = some c->vs[j]? = some v->fA w A c v)->
  Calls P f vs w fun e w'=>∃ v,e=.returned v/\Bw w w'/\fA w' (fun k=>w.heap.size<=k) r v
inductive fR (h:aW) :U->U->Prop
 | same (c:U) (ah:c.closed=true) :fR h c c
 | aH (cs cs' : List U) (am:cs'.length=cs.length) (aq:∀ (j:Nat) (c c' : U),cs[j]? = some c->cs'[j]? = some c'->fR h c c') :fR h (.aH cs) (.aH cs')
 | bu (cs cs' : List U) (am:cs'.length=cs.length) (aq:∀ (j:Nat) (c c' : U),cs[j]? = some c->cs'[j]? = some c'->fR h c c') :fR h (.bu cs) (.bu cs')
 | ar (z b off len cap sz:Nat) (cs:List U) (es:List (List U)) (ag:h.f b=.cells sz cs) (am:es.length=len) (aw:∀ e∈es,e.length=z)
   (dj:off+len*z<=cs.length)
   (aq:∀ (i j:Nat) (e:List U) (c c' : U),es[i]? = some e->e[j]? = some c'->cs[off+(i*z+j)]? = some c->fR h c c') :fR h (.ar z b off len cap sz) (.b1 z es)
 | so (z b off cap sz:Nat) :fR h (.ar z b off 0 cap sz) (.b1 z [])
 | ptr (b off sz:Nat) (cs cs' : List U) (ag:h.f b=.cells sz cs) (am:cs'.length=cs.length) (aq:∀ (j:Nat) (c c' : U),cs[j]? = some c->cs'[j]? = some c'->fR h c c') :fR h (.ptr b off sz) (.cg cs' off)
mutual
def U.flat:U->Bool
 | .aH cs=>kV cs
 | .bu cs=>kV cs
 | .hi _ v=>v.flat
 | .bool _ | .int .. | .str _ | .jm | .aK | .ia | .jk | .jl=>true
 | _=>false
def kV:List U->Bool
 | []=>true
 | c::cs=>c.flat&&kV cs
end
inductive Bx where
 | pure | new | gf
def mo (P:Program) (aE:Operand->U) :Op->Option (List U × (Nat->U))
 | .alloc t=>(ho P t).map fun z=>(z,fun b=>.ptr b 0 z.length)
 | .box _ x=>(aE x).cells.map fun cs=>(cs,fun b=>.ptr b 0 cs.length)
 | .buildSlice t len parts=>match jc P t with
  | some e=>match cC P e,ho P e with
   | some z,some zero=>if zero.length=z/\len*z<=16777216 then
     (ht (fun i=>some (i*z,z)) (dz zero len) (parts.toList.map fun p=>(p.1,aE p.2))).map fun cs=>(cs,fun b=>.ar z b 0 len len (len*z))
    else none
   | _,_=>none
  | none=>none
 | .makeSlice t l c=>match jc P t,asInt (aE l),asInt (aE c) with
  | some e,some l,some c=>match cC P e,lV P e,ho P e with
   | some z,some by_,some zero=>
    if zero.length=z/\0<=l/\l<=c/\c<9223372036854775808/\by_*c<=cF then
     some (dz zero c.toNat,fun b=>.ar z b 0 l.toNat c.toNat (c.toNat*z))
    else none
   | _,_,_=>none
  | _,_,_=>none
 | _=>none
def i5 (ops:Array Oper) (t:Nat) :Option Nat:=(List.range ops.size).find? fun i=>match ops[i]? with | some o=>o.dst == some t | none=>false
def l0 (ops:Array Oper) (pre:Nat->Nat->Bool) (val:Nat->U) (ae:Nat->U) (i:Nat) (o:Oper) :Nat->U:=fun t=>
 if (o.looksAt ops).contains t then
  match i5 ops t with
  | some j=>if pre i j then val j else ae t
  | none=>ae t
 else .bad
structure re (ops:Array Oper) (pre:Nat->Nat->Bool) :Prop where
 zf:∀ (i:Nat) (o:Oper) (e:Edge),ops[i]? = some o->e∈o.after->Region.binds .any e=true->e.on<i
 chain:∀ (i:Nat) (o:Oper) (j:Nat),ops[i]? = some o->pre i j=true->∃ e∈o.after,Region.binds .any e=true/\(e.on=j\/pre e.on j=true)
 one:∀ (i:Nat) (o:Oper) (t:Tmp),ops[i]? = some o->o.dst=some t->i5 ops t=some i
 acc:∀ (i:Nat) (o:Oper) (t:Tmp) (j:Nat),ops[i]? = some o->t∈o.looksAt ops->i5 ops t=some j->pre i j=true\/pre j i=true\/j=i
 ajz:Region.noSelect ops=true
def ub (h:aW) (l:List (List U)) :aW:=l.foldl (fun h cs=>h.push (.cells cs.length cs)) h
def na (h h' : aW) :Prop:=∃ l,h'=ub h l
theorem PL:∀ (l:List (List U)) (h:aW),(ub h l).n=h.n+l.length
 | [],h=>rfl
 | c::l,h=>by
  have:=PL l (h.push (.cells c.length c));simp only[ub,List.foldl_cons,List.length_cons] at this ⊢;rw[this];simp only[eH,fv]; omega
theorem PM:∀ (l:List (List U)) (h:aW) (b:Nat),b<h.n->(ub h l).f b=h.f b
 | [],h,b,_=>rfl
 | c::l,h,b,ag=>by
  have:=PM l (h.push (.cells c.length c)) b (by simp only[eH,fv]; omega);simp only[ub,List.foldl_cons] at this ⊢;rw[this];simp only[eH,fv];exact b8 _ _ _ _ (by omega)
theorem PK:∀ (l:List (List U)) (h:aW),(∀ b,h.n<=b->h.f b=.none)->∀ b,(ub h l).n<=b->(ub h l).f b=.none
 | [],h,aI=>aI
 | c::l,h,aI=>by
  refine PK l (h.push (.cells c.length c)) (fun b ag=>?_);simp only[eH,fv] at ag ⊢;rw[b8 _ _ _ _ (by omega)];exact aI b (by omega)
theorem na.n {h h' : aW} (g:na h h') :h.n<=h'.n:=by obtain⟨l,rfl⟩:=g; rw[PL]; omega
theorem na.same {h h' : aW} (g:na h h') (b:Nat) (ag:b<h.n) :h'.f b=h.f b:=by obtain⟨l,rfl⟩:=g; exact PM l h b ag
theorem na.fresh {h h' : aW} (g:na h h') (aI:∀ b,h.n<=b->h.f b=.none) :∀ b,h'.n<=b->h'.f b=.none:=by obtain⟨l,rfl⟩:=g; exact PK l h aI
inductive lQ (h af:aW) :U->U->Prop
 | same (c:U) :lQ h af c c
 | aH (cs cs' : List U) (am:cs'.length=cs.length) (aq:∀ (j:Nat) (c c' : U),cs[j]? = some c->cs'[j]? = some c'->lQ h af c c') :lQ h af (.aH cs) (.aH cs')
 | ar (z b off len cap sz:Nat) (cs:List U) (es:List (List U)) (ag:h.f b=.cells sz cs) (bh:af.f b=.dead) (am:es.length=len) (aw:∀ e∈es,e.length=z)
   (dj:off+len*z<=cs.length)
   (aq:∀ (i j:Nat) (e:List U) (c c' : U),es[i]? = some e->e[j]? = some c'->cs[off+(i*z+j)]? = some c->lQ h af c c') :lQ h af (.ar z b off len cap sz) (.b1 z es)
 | so (z b off cap sz:Nat) :lQ h af (.ar z b off 0 cap sz) (.b1 z [])
structure lT (h af:aW) :Prop where
 n:af.n=h.n
 blk:∀ b,af.f b=h.f b\/∃ sz cs,h.f b=.cells sz cs/\(af.f b=.dead\/∃ h4,af.f b=.cells sz h4/\h4.length=cs.length/\∀ (j:Nat) (c ce:U),cs[j]? = some c->h4[j]? = some ce->lQ h af c ce)
inductive J where
 | code (c:Code) (N:Nat) (ae:Nat->U) (h:aW) (e:sD) (bS:Nat->U) (h' : aW)
 | ops (all:Array Oper) (l:List Oper) (N:Nat) (ae:Nat->U) (h:aW) (bS:Nat->U) (h' : aW)
 | op (op:Op) (ae:Nat->U) (h:aW) (v:U) (h' : aW)
 | call (f:FuncId) (args:List U) (h:aW) (r:U) (h' : aW)
def w0 (pre:Nat->Nat->Bool) (m:Nat) (ak:Nat->Nat) (i k:Nat) :Prop:=k<=m/\(∀ q,q<m->pre i (ak q)=true->q<k)/\∀ q,q<m->pre (ak q) i=true->k<=q
inductive dh (P:Program) (G:Nat->U) :J->Prop where
 | skip (N ae h) :dh P G (.code .skip N ae h .normal ae h)
 | label (l N ae h) :dh P G (.code (.label l) N ae h .normal ae h)
 | ret (N ae h) :dh P G (.code .ret N ae h .ret ae h)
 | exit (id N ae h) :dh P G (.code (.exit id) N ae h (.exit id) ae h)
 | QC {a b N ae h iH ad e bS h'}:dh P G (.code a N ae h .normal iH ad)->dh P G (.code b N iH ad e bS h')->dh P G (.code (.seq a b) N ae h e bS h')
 | Jd {a b N ae h e bS h'}:dh P G (.code a N ae h e bS h')->e≠.normal->dh P G (.code (.seq a b) N ae h e bS h')
 | cond {c x y N ae h b e bS h'}:dv G ae c=.bool b->dh P G (.code (if b then x else y) N ae h e bS h')->dh P G (.code (.cond c x y) N ae h e bS h')
 | BR {id c N ae h e bS h'}:dh P G (.code c N ae h e bS h')->e≠.exit id->dh P G (.code (.block id c) N ae h e bS h')
 | KK {id c N ae h bS h'}:dh P G (.code c N ae h (.exit id) bS h')->dh P G (.code (.block id c) N ae h .normal bS h')
 | x0 {c N ae h iH ad e bS h'}:dh P G (.code c N ae h .normal iH ad)->dh P G (.code (.loop c) N iH ad e bS h')->dh P G (.code (.loop c) N ae h e bS h')
 | H5 {c N ae h e bS h'}:dh P G (.code c N ae h e bS h')->e≠.normal->dh P G (.code (.loop c) N ae h e bS h')
 | scope {c N ae h e bS h'}:dh P G (.code c N ae h e bS h')->dh P G (.code (.scope c) N ae h e bS h')
 | region {id ops N ae h bS h'}:dh P G (.ops ops ops.toList N ae h bS h')->dh P G (.code (.region id ops false) N ae h .normal bS h')
 | draw {id ops N ae h bS h'} (pre:Nat->Nat->Bool) (val:Nat->U) (W:Nat->Bool) (cls:Nat->Bx) (m:Nat) (ak:Nat->Nat) (fj qc:Nat->aW) (go:Nat->Nat) (cells:Nat->List U)
   (g7:re ops pre)
   (oA:∀ (i:Nat) (o:Oper),ops[i]? = some o->oj N o.dst=true)
   (aF:na h (fj 0)) (hm:h'=fj m) (Ds:bS=fun t=>match i5 ops t with | some i=>val i | none=>ae t)
   (vC:∀ (i:Nat) (o:Oper),ops[i]? = some o->W i=true->cls i=.gf->∃ q,q<m/\ak q=i)
   (zR:∀ q,q<m->∃ o,ops[ak q]? = some o/\W (ak q)=true/\cls (ak q)=.gf)
   (me:∀ q dE,q<m->dE<m->q<dE->pre (ak dE) (ak q)=true)
   (py:∀ q dE,q<m->dE<m->ak q=ak dE->q=dE)
   (tw:∀ (i:Nat) (o:Oper),ops[i]? = some o->jV ops (l0 ops pre val ae i o) o=some (W i))
   (Dl:∀ (i:Nat) (o:Oper),ops[i]? = some o->W i=false->val i=ie)
   (Dg:∀ (i:Nat) (o:Oper),ops[i]? = some o->W i=true->cls i=.pure->∀ k,w0 pre m ak i k->cQ P (fj k) (dv G (l0 ops pre val ae i o)) o.op=some (.val (val i) (fj k)))
   (vQ:∀ (i:Nat) (o:Oper),ops[i]? = some o->W i=true->cls i=.new->∃ mk,mo P (dv G (l0 ops pre val ae i o)) o.op=some (cells i,mk)/\val i=mk (go i)/\h.n<=go i ∧
    ∀ k,w0 pre m ak i k->(fj k).f (go i)=.cells (cells i).length (cells i))
   (CF:∀ (i j:Nat) (o df:Oper),ops[i]? = some o->ops[j]? = some df->W i=true->W j=true->cls i=.new->cls j=.new->go i=go j->i=j)
   (CG:∀ (i:Nat) (o:Oper) (q:Nat),ops[i]? = some o->W i=true->cls i=.new->q<m->go i<(fj q).n\/(qc q).n<=go i)
   (oC:∀ q,q<m->na (qc q) (fj (q+1)))
   (xq:∀ (q:Nat) (o:Oper),q<m->ops[ak q]? = some o->dh P G (.op o.op (l0 ops pre val ae (ak q) o) (fj q) (val (ak q)) (qc q))) :
   dh P G (.code (.region id ops true) N ae h .normal bS h')
 | O8 {all N ae h}:dh P G (.ops all [] N ae h ae h)
 | Pa {all o l N ae h bS h'}:jV all ae o=some false->oj N o.dst=true->dh P G (.ops all l N (hn ae o.dst ie) h bS h')->dh P G (.ops all (o::l) N ae h bS h')
 | O9 {all o l N ae h v ad bS h'}:jV all ae o=some true->oj N o.dst=true->dh P G (.op o.op ae h v ad)->dh P G (.ops all l N (hn ae o.dst v) ad bS h')->dh P G (.ops all (o::l) N ae h bS h')
 | D3 {op ae h v h'}:cQ P h (dv G ae) op=some (.val v h')->dh P G (.op op ae h v h')
 | ya {op ae h f args ad v h'}:cQ P h (dv G ae) op=some (.call f args ad)->dh P G (.call f args ad v h')->dh P G (.op op ae h v h')
 | EL {op ae h v h' bP af}:dh P G (.op op ae h v h')->lT h' af->lQ h' af v bP->dh P G (.op op ae h bP af)
 | inline {f fn c args h e bS h' r}:P.funcs[f]? = some fn->fn.body=some c->
   dh P G (.code c (args.length+(fn.ntmps - args.length)) (fun t=>args.getD t ie) h e bS h')->(e=.normal\/e=.ret)->Ek P h' bS fn=some r->dh P G (.call f args h r h')
 | pure {f args h r}:bn P G f args r->a1 args=true->dh P G (.call f args h r h)
 | PG {f args i9 h r}:bn P G f i9 r->i9.length=args.length->(∀ (j:Nat) (c c' : U),args[j]? = some c->i9[j]? = some c'->fR h c c')->r.flat=true->dh P G (.call f args h r h)
 | ext {f args h r h'}:yF P G f args h r h'->dh P G (.call f args h r h')
 | PH {f args i9 h r}:pb P G f i9 r->i9.length=args.length->(∀ (j:Nat) (c c' : U),args[j]? = some c->i9[j]? = some c'->fR h c c')->dh P G (.call f args h r h)
section
variable {P:Program} {G:Nat->U}
structure lR (N:Nat) (w:World) (R:Nat->Prop) (h:aW) (μ:cI) (ae:Nat->U) (a:Act) :Prop where
 size:a.tmps.size=N
 defers:a.defers=[]
 val:∀ t,aP w R h μ (ae t) (a.tmps.getD t undef)
theorem rg.ext {w w' : World} {R:Nat->Prop} {h h' : aW} {μ μ' : cI} (g:rg G w R h μ) (e:dB w h μ w' h' μ') :rg G w' R h' μ':=fun i=>⟨(g i).1,(g i).2.ext e⟩
theorem lR.ext {N:Nat} {w w' : World} {R:Nat->Prop} {h h' : aW} {μ μ' : cI} {ae:Nat->U} {a:Act} (s:lR N w R h μ ae a) (e:dB w h μ w' h' μ') :lR N w' R h' μ' ae a:=
 ⟨s.size,s.defers,fun t=>(s.val t).ext e⟩
theorem lR.dv {N:Nat} {w:World} {R:Nat->Prop} {h:aW} {μ:cI} {ae:Nat->U} {a:Act} (s:lR N w R h μ ae a) (g:rg G w R h μ) (x:Operand) :aP w R h μ (dv G ae x) (a.eval x) :=by
 cases x with
 | tmp t=>exact s.val t
 | const v=>exact aP.tW v
 | global i=>exact (g i).2
 | func f=>exact .fn f [] [] #[] #[] rfl rfl (fun _ _ _ aR=>by simp at aR) (fun _ _ _ aR=>by simp at aR)
theorem JF {w:World} {R:Nat->Prop} {h:aW} {μ:cI}:aP w R h μ ie undef:=.bu [] #[] rfl (fun _ _ _ aR=>by simp at aR)
theorem lR.put {N:Nat} {w:World} {R:Nat->Prop} {h:aW} {μ:cI} {ae:Nat->U} {a:Act} (s:lR N w R h μ ae a) {dst:Option Tmp} (bh:oj N dst=true) {c:U} {v:Value} (aq:aP w R h μ c v) :
  lR N w R h μ (hn ae dst c) (a.put dst v) :=by
 cases dst with
 | none=>exact s
 | some d=>
  have aO:d<a.tmps.size:=by rw[s.size]; simpa [oj] using bh
  refine⟨by simp[Act.put,s.size],s.defers,fun t=>?_⟩;simp only[hn,Act.put];by_cases a3:t=d
  ·subst a3;rw[nr];simp[aO];exact aq
  ·rw[b8 _ _ _ _ a3];have:=s.val t;simpa [Array.getElem?_setIfInBounds_ne (Ne.symm a3)] using this
theorem JM {w:World} {R:Nat->Prop} {h:aW} {μ:cI} {ops:Array Oper} {ae:Nat->U} {tmps:Array Value} {o:Oper} {b:Bool} (aV:jV ops ae o=some b)
  (aq:∀ d,(∃ j yx,o.guard=some (j,yx)/\(ops[j]?).bind (·.dst)=some d)->aP w R h μ (ae d) (tmps.getD d undef)) :Region.wanted o (yielded ops tmps)=b:=by
 unfold jV at aV;unfold Region.wanted;cases aA:o.guard with
 | none=>rw[aA] at aV; simpa using aV
 | some fm=>
  obtain⟨j,yx⟩:=fm;rw[aA] at aV;simp only at aV ⊢;unfold yielded;cases bh:(ops[j]?).bind (·.dst) with
  | none=>
   rw[bh] at aV;simp only[Option.some.injEq] at aV;subst aV;simp
  | some d=>
   rw[bh] at aV;have xP:=aq d ⟨j,yx,aA,bh⟩;simp only[Option.bind_some] at aV ⊢;cases a3:tmps[d]? with
   | none=>
    have aM:tmps.getD d undef=undef:=by simp[Array.getD_eq_getD_getElem?,a3]
    rw[aM] at xP;cases ah:ae d<;>rw[ah] at aV xP<;>simp at aV<;>try (subst aV; simp)
    all_goals cases xP
   | some v=>
    have aM:tmps.getD d undef=v:=by simp[Array.getD_eq_getD_getElem?,a3]
    rw[aM] at xP;cases ah:ae d<;>rw[ah] at aV xP<;>simp at aV
    all_goals (cases xP<;>(subst aV; simp))
def n0 (P:Program) (n:Nat) (c:Code) (Q:Exit->Act->World->Prop) (a:Act) (w:World) :Prop:=
 match c with
 | .loop c'=>Code.rounds P c' Q n a w
 | c=>c.wp P Q a w
theorem n0.wp {n:Nat} {c:Code} {Q:Exit->Act->World->Prop} {a:Act} {w:World} (h:n0 P n c Q a w) :c.wp P Q a w:=by
 cases c<;>first | exact wp_loop_rounds n h | exact h
def uY (P:Program) (G:Nat->U) :J->Prop
 | .code c N ae h e bS h'=>∃ n,∀ (R:Nat->Prop) (B:Nat) (w:World) (μ:cI) (a:Act) (Q:Exit->Act->World->Prop),bZ R B w h μ->rg G w R h μ->lR N w R h μ ae a->
   (∀ ey w' μ',dB w h μ w' h' μ'->bZ R B w' h' μ'->lR N w' R h' μ' bS ey->Q e.out ey w')->n0 P n c Q a w
 | .ops all l N ae h bS h'=>∀ (R:Nat->Prop) (B:Nat) (w:World) (μ:cI) (a:Act) (Q:Exit->Act->World->Prop),bZ R B w h μ->rg G w R h μ->lR N w R h μ ae a->
   (∀ ey w' μ',dB w h μ w' h' μ'->bZ R B w' h' μ'->lR N w' R h' μ' bS ey->Q .normal ey w')->wpList P all Q l a w
 | .op op ae h v h'=>∀ (R:Nat->Prop) (B:Nat) (w:World) (μ:cI) (a:Act) (o:Oper) (K:Act->World->Prop) (Q:Exit->Act->World->Prop),o.op=op->bZ R B w h μ->rg G w R h μ->
   (∀ x,aP w R h μ (dv G ae x) (a.eval x))->(∀ a4 w' μ',dB w h μ w' h' μ'->bZ R B w' h' μ'->aP w' R h' μ' v a4->K (a.put o.dst a4) w')->o.wp P a w K Q
 | .call f args h r h'=>yF P G f args h r h'
theorem abF {N:Nat} {w:World} {R:Nat->Prop} {B:Nat} {h:aW} {μ:cI} {ae:Nat->U} {a:Act} (rel:bZ R B w h μ) (s:lR N w R h μ ae a) {fn:Func} {r:U} (ay:Ek P h ae fn=some r) :
  ∃ v,(results fn a.tmps).run P w=.ok v w/\aP w R h μ r v:=by
 have one:∀ (x:ResultVar) (c:U),yi P h ae x=some c->∃ v,(∀ F:ResultVar->Sem Value,(∀ t,F (.tmp t)=pure (a.tmps.getD t undef))->(∀ p t,F (.cell p t)=(do loadVar t (<-asAddr (a.tmps.getD p undef))))->(F x).run P w=.ok v w)/\aP w R h μ c v:=by
  intro x c ai;cases x with
  | tmp t=>
   simp only[yi,Option.some.injEq] at ai; subst ai;exact⟨_,fun F ad _=>by rw[ad]; rfl,s.val t⟩
  | cell p t=>
   simp only[yi] at ai;obtain⟨v,ad,af⟩:=OC (P:=P) rel ai (s.val p);refine⟨v,fun F _ vv=>?_,af⟩;rw[vv];cases av:a.tmps.getD p undef with
   | pointer Kh=>
    cases Kh with
    | none=>rw[av] at ad; simp[Instr.loadAt,Instr.sureAddr] at ad
    | some Kh=>rw[av] at ad; simpa [Instr.loadAt,Instr.sureAddr,asAddr,av] using ad
   | _=>rw[av] at ad; simp[Instr.loadAt,Instr.sureAddr] at ad
 have all:∀ (l:List ResultVar) (cs:List U),uh P h ae l=some cs->∃ vs:List Value,(∀ F:ResultVar->Sem Value,(∀ t,F (.tmp t)=pure (a.tmps.getD t undef))->(∀ p t,F (.cell p t)=(do loadVar t (<-asAddr (a.tmps.getD p undef))))->(l.mapM F).run P w=.ok vs w) ∧
   vs.length=cs.length/\∀ (j:Nat) (c:U) (v:Value),cs[j]? = some c->vs[j]? = some v->aP w R h μ c v:=by
  intro l
  induction l with
  | nil=>intro cs ah; simp only[uh,Option.some.injEq] at ah; subst ah; exact⟨[],fun F _ _=>by simp,rfl,fun _ _ _ aR=>by simp at aR⟩
  | cons x l aQ=>
   intro cs ah;unfold uh at ah;split at ah
   ·rename_i c cs' ai am;simp only[Option.some.injEq] at ah; subst ah;obtain⟨v,ad,af⟩:=one x c ai;obtain⟨vs,al,aG,a6⟩:=aQ cs' am;refine⟨v::vs,fun F b4 cx=>by simp only[List.mapM_cons,Sem.run_bind,ad F b4 cx,Result.andThen_ok,al F b4 cx,Sem.run_pure],by simp[aG],fun j c' a4 aj aq=>?_⟩;cases j with
    | zero=>simp at aj aq; subst aj aq; exact af
    | succ j=>exact a6 j c' a4 (by simpa using aj) (by simpa using aq)
   ·cases ah
 unfold Ek at ay;cases am:uh P h ae fn.results.toList with
 | none=>rw[am] at ay; cases ay
 | some cs=>
  rw[am] at ay;simp only[Option.map_some,Option.some.injEq] at ay; subst ay;obtain⟨vs,ad,af,al⟩:=all _ _ am;have lD:(results fn a.tmps).run P w=.ok (if aR:vs.toArray.size=1 then vs.toArray[0] else .tuple vs.toArray) w:=by
   unfold results;rw[Array.mapM_eq_mapM_toList];simp only[Sem.run_bind,Sem.run_map];rw[ad _ (fun _=>rfl) (fun _ _=>rfl)];simp
  refine⟨_,lD,?_⟩
  match cs,vs,af,al with
  | [],[],_,_=>exact .bu [] #[] rfl (fun _ _ _ aR=>by simp at aR)
  | [c],[v],_,al=>exact al 0 c v rfl rfl
  | c::c'::cs,v::a4::vs,af,al=>
   simp only[List.size_toArray,List.length_cons];rw[dif_neg (by omega)];exact .bu _ _ (by simpa using af) (fun j x y aj aL=>al j x y aj (by simpa using aL))
theorem wP {w:World} {R:Nat->Prop} {h:aW} {μ:cI} {c:U} {v:Value} (aq:aP w R h μ c v) :c.closed=true->fA w (fun k=>R k/\¬ nc h μ k) c v:=by
 have am:∀ (cs:List U),a1 cs=true->∀ (j:Nat) (c:U),cs[j]? = some c->c.closed=true:=by
  intro cs
  induction cs with
  | nil=>intro _ j c aj; simp at aj
  | cons x cs aQ=>
   intro ah j c aj;simp only[a1,Bool.and_eq_true] at ah;cases j with
   | zero=>simp at aj; subst aj; exact ah.1
   | succ j=>exact aQ ah.2 j c (by simpa using aj)
 have z2:∀ (es:List (List U)),y1 es=true->∀ (i:Nat) (e:List U),es[i]? = some e->a1 e=true:=by
  intro es
  induction es with
  | nil=>intro _ j c aj; simp at aj
  | cons x cs aQ=>
   intro ah j c aj;simp only[y1,Bool.and_eq_true] at ah;cases j with
   | zero=>simp at aj; subst aj; exact ah.1
   | succ j=>exact aQ ah.2 j c (by simpa using aj)
 have cell:∀ b o v,Cell w R h μ b o v->Cell w (fun k=>R k/\¬ nc h μ k) aW.empty (fun _=>none) b o v:=fun b o v ah=>
  ⟨ah.here,ah.one,⟨ah.ro,ah.free⟩,fun ⟨b,m,ad,af,al⟩=>by cases af⟩
 unfold fA
 induction aq with
 | bool b=>exact fun _=>.bool b
 | int k n=>exact fun _=>.int k n
 | str bs=>exact fun _=>.str bs
 | jm=>exact fun _=>.jm
 | aK=>exact fun _=>.aK
 | ia=>exact fun _=>.ia
 | jk=>exact fun _=>.jk
 | jl=>exact fun _=>.jl
 | aH cs vs bC ad aq aQ=>exact fun ah=>.aH cs vs bC ad fun j c v aj fk=>aQ j c v aj fk (am cs (by simpa [U.closed] using ah) j c aj)
 | bu cs vs bC aq aQ=>exact fun ah=>.bu cs vs bC fun j c v aj fk=>aQ j c v aj fk (am cs (by simpa [U.closed] using ah) j c aj)
 | ptr=>exact fun ah=>by simp[U.closed] at ah
 | m9=>exact fun ah=>by simp[U.closed] at ah
 | cg cs off blk o eL ah aq aQ=>exact fun eQ=>.cg cs off blk o eL (fun j aj=>cell _ _ _ (ah j aj)) fun j c aj=>aQ j c aj (am cs (by simpa [U.closed] using eQ) j c aj)
 | ar=>exact fun ah=>by simp[U.closed] at ah
 | hZ=>exact fun ah=>by simp[U.closed] at ah
 | iT=>exact fun ah=>by simp[U.closed] at ah
 | b1 z es blk off cap eL c4 aw ah aq aQ=>exact fun eQ=>.b1 z es blk off cap eL c4 aw (fun i j aB aj=>cell _ _ _ (ah i j aB aj)) fun i e ao j c aj=>aQ i e ao j c aj (am e (z2 es (by simpa [U.closed] using eQ) i e ao) j c aj)
 | fw z a cap=>exact fun _=>.fw z a cap
 | fn f first gq fs cs aI ah ad af dV mh=>
  intro eQ;simp only[U.closed,Bool.and_eq_true] at eQ;exact .fn f first gq fs cs aI ah (fun j c v aj fk=>dV j c v aj fk (am _ eQ.1 j c aj)) fun j c v aj fk=>mh j c v aj fk (am _ eQ.2 j c aj)
 | mp=>exact fun ah=>by simp[U.closed] at ah
 | it=>exact fun ah=>by simp[U.closed] at ah
 | hi t c v aq aQ=>exact fun eQ=>.hi t c v (aQ (by simpa [U.closed] using eQ))
 | mF l=>exact fun _=>.mF l
 | bad v=>exact fun _=>.bad v
theorem y2 {cs:List U} (ah:a1 cs=true) :∀ (j:Nat) (c:U),cs[j]? = some c->c.closed=true:=by
 induction cs with
 | nil=>intro j c aj; simp at aj
 | cons x cs aQ=>
  intro j c aj;simp only[a1,Bool.and_eq_true] at ah;cases j with
  | zero=>simp at aj; subst aj; exact ah.1
  | succ j=>exact aQ ah.2 j c (by simpa using aj)
theorem fA.up {w:World} {A:Nat->Prop} {R:Nat->Prop} {h:aW} {μ:cI} {c:U} {v:Value} (aq:fA w A c v) (dQ:∀ k,k<w.heap.size->A k->R k/\¬ nc h μ k) :aP w R h μ c v:=by
 have cell:∀ b o v,Cell w A aW.empty (fun _=>none) b o v->Cell w R h μ b o v:=fun b o v ah=>
  have ag:b<w.heap.size:=World.block_lt_of_cell? _ _ ah.here
  ⟨ah.here,ah.one,(dQ b ag ah.ro).1,(dQ b ag ah.ro).2⟩
 unfold fA at aq
 induction aq with
 | bool b=>exact .bool b
 | int k n=>exact .int k n
 | str bs=>exact .str bs
 | jm=>exact .jm
 | aK=>exact .aK
 | ia=>exact .ia
 | jk=>exact .jk
 | jl=>exact .jl
 | aH cs vs bC ad aq aQ=>exact .aH cs vs bC ad aQ
 | bu cs vs bC aq aQ=>exact .bu cs vs bC aQ
 | ptr b off sz cs m ag hm=>cases hm
 | m9 b off sz a aA=>rcases aA with aA | ⟨n,cs,aA,_⟩<;>cases aA
 | cg cs off blk o eL ah aq aQ=>exact .cg cs off blk o eL (fun j aj=>cell _ _ _ (ah j aj)) aQ
 | ar z b off len cap sz cap' cs m ag hm=>cases hm
 | hZ z b off len cap sz cap' a am ah aA=>rcases aA with aA | ⟨n,cs,aA,_⟩<;>cases aA
 | iT z b off sz a cs m ag hm=>cases hm
 | b1 z es blk off cap eL c4 aw ah aq aQ=>exact .b1 z es blk off cap eL c4 aw (fun i j aB aj=>cell _ _ _ (ah i j aB aj)) aQ
 | fw z a cap=>exact .fw z a cap
 | fn f first gq fs cs aI ah ad af dV mh=>exact .fn f first gq fs cs aI ah dV mh
 | mp b m ag hm=>cases hm
 | it b m ag hm=>cases hm
 | hi t c v aq aQ=>exact .hi t c v aQ
 | mF l=>exact .mF l
 | bad v=>exact .bad v
theorem Pg {R:Nat->Prop} {B:Nat} {w:World} {h:aW} {μ:cI} (rel:bZ R B w h μ) {k:Nat} (au:nc h μ k) :k<w.heap.size:=by
 obtain⟨b,m,ad,af,rfl⟩:=au;exact rel.lt ad af
theorem Eh {R:Nat->Prop} {B:Nat} {w w' : World} {h:aW} {μ:cI} (rel:bZ R B w h μ) (ag:Bw w w') :dB w h μ w' h μ/\bZ R B w' h μ:=by
 have e:dB w h μ w' h μ:=⟨⟨ag.os,ag.tape,ag.output,ag.size,fun k ax _=>ag.block k ax,fun _ au=>.inl au,fun b sz cs m ad af=>.inl ⟨cs,ad,af⟩,fun _ _ aA=>aA,fun _ _ _ ad af=>⟨ad,af⟩,Nat.le_refl _,ag.drawn⟩,fun _ _ hm=>hm⟩
 refine⟨e,fun b m hm=>?_,rel.inj,rel.base,rel.fresh,rel.up,Nat.le_trans rel.size ag.size,rel.km⟩;cases am:live (h.f b) with
 | false=>cases ah:h.f b<;>first | trivial | (rw[ah] at am; cases am)
 | true=>exact (rel.blk b m hm).ext e.toExt0 (ag.block _ (rel.lt am hm))
theorem P6 {w:World} {R:Nat->Prop} {B:Nat} {h:aW} {μ:cI} (rel:bZ R B w h μ) :∀ {c c' : U},fR h c c'->∀ {v:Value},aP w R h μ c v->fA w R c' v:=by
 intro c c' ay;have pu:∀ {b sz:Nat} {cs:List U} {m:M},h.f b=.cells sz cs->μ b=some m->∃ f:Nat->Value,∀ (j:Nat) (c:U),cs[j]? = some c->Cell w R aW.empty (fun _=>none) m.r (m.s+j) (f j)/\aP w R h μ c (f j) :=by
  intro b sz cs m ag hm;have hP:=rel.blk b m hm;rw[ag] at hP;obtain⟨cR,gH,arr,t,gu,aV,aC,aI,lw⟩:=hP;have rA:R m.r:=rel.up _ (rel.base b m (by rw[ag]; rfl) hm);refine⟨fun j=>(arr[m.s+j]?).getD undef,fun j c aj=>?_⟩;obtain⟨v,ad,af,al⟩:=lw _ _ aj;refine⟨⟨?_,by simp only[ad,Option.getD_some]; exact af,rA,fun ⟨b,m,ad,af,al⟩=>by cases af⟩,by simp only[ad,Option.getD_some]; exact al⟩;simp only[World.cell?,aV,ad,Option.getD_some,Option.isSome_none];rfl
 induction ay with
 | same c ah=>
  intro v aq;exact (fA.up (wP aq ah) fun k _ ax=>⟨ax.1,fun ⟨b,m,ad,af,al⟩=>by cases af⟩:aP w R aW.empty (fun _=>none) _ v)
 | aH cs cs' am h aQ=>
  intro v aq;cases aq with
  | aH _ vs hg ad aq=>
   refine .aH cs' vs (by omega) ad (fun j c' v aj fk=>?_);have aO:j<cs.length:=by rw[<-am]; exact (List.getElem?_eq_some_iff.1 aj).1
   exact aQ j cs[j] c' (List.getElem?_eq_getElem aO) aj (aq j cs[j] v (List.getElem?_eq_getElem aO) fk)
 | bu cs cs' am h aQ=>
  intro v aq;cases aq with
  | bu _ vs hg aq=>
   refine .bu cs' vs (by omega) (fun j c' v aj fk=>?_);have aO:j<cs.length:=by rw[<-am]; exact (List.getElem?_eq_some_iff.1 aj).1
   exact aQ j cs[j] c' (List.getElem?_eq_getElem aO) aj (aq j cs[j] v (List.getElem?_eq_getElem aO) fk)
 | so z b off cap sz=>
  intro v aq;cases aq with
  | ar _ _ _ _ _ _ cap' cs m ag hm am au ah=>exact .fw z _ cap'
  | hZ _ _ _ _ _ _ cap' a am ah aA=>exact .fw z _ cap'
  | iT _ _ _ _ a cs m ag hm=>exact .fw z a 0
 | ptr b off sz cs cs' ag am h aQ=>
  intro v aq;cases aq with
  | m9 _ _ _ a aA=>
   exfalso;rcases aA with aA | ⟨n,h4,aA,aO⟩
   ·rw[ag] at aA; cases aA
   ·rw[ag] at aA; cases aA; omega
  | ptr _ _ _ h4 m ft hm=>
   obtain⟨f,aI⟩:=pu ag hm;refine .cg cs' off m.r m.s f (fun j aj=>?_) (fun j c' aj=>?_)
   ·exact (aI j cs[j] (List.getElem?_eq_getElem (by omega))).1
   ·have aO:j<cs.length:=by rw[<-am]; exact (List.getElem?_eq_some_iff.1 aj).1
    exact aQ j cs[j] c' (List.getElem?_eq_getElem aO) aj (aI j cs[j] (List.getElem?_eq_getElem aO)).2
 | ar z b off len cap sz cs es ag am aw dj h aQ=>
  intro v aq;cases aq with
  | iT _ _ _ _ a h4 m ft g3=>
   obtain rfl:=List.length_eq_zero_iff.1 am;exact .fw z a 0
  | hZ _ _ _ _ _ _ cap' a am ah aA=>
   exfalso;rcases aA with aA | ⟨n,h4,aA,aO⟩
   ·rw[ag] at aA; cases aA
   ·rw[ag] at aA; cases aA; omega
  | ar _ _ _ _ _ _ cap' h4 m ft hm jy au ah=>
   have c3:len<=cap':=by rcases ah with ⟨_,h⟩ | ⟨_,h,_⟩<;>omega
   obtain⟨f,aI⟩:=pu ag hm;subst am;have aO:∀ i j,i<es.length->j<z->off+(i*z+j)<cs.length:=by
    intro i j aB aj;have:i*z+z<=es.length*z:=by rw[<-Nat.succ_mul]; exact Nat.mul_le_mul_right _ aB
    omega
   refine .b1 z es m.r (m.s+off) cap' (fun i j=>f (off+(i*z+j))) c3 aw (fun i j aB aj=>?_) (fun i e ao j c' aj=>?_)
   ·have:=(aI _ _ (List.getElem?_eq_getElem (aO i j aB aj))).1;rw[<-Nat.add_assoc] at this;exact this
   ·have aB:i<es.length:=(List.getElem?_eq_some_iff.1 ao).1;have oD:j<z:=by rw[<-aw e (List.mem_of_getElem? ao)]; exact (List.getElem?_eq_some_iff.1 aj).1
    exact aQ i j e _ c' ao aj (List.getElem?_eq_getElem (aO i j aB oD)) (aI _ _ (List.getElem?_eq_getElem (aO i j aB oD))).2
theorem Cf:∀ {cs:List U},kV cs=true->∀ (j:Nat) (c:U),cs[j]? = some c->c.flat=true:=by
 intro cs
 induction cs with
 | nil=>intro _ j c h; simp at h
 | cons x cs aQ=>
  intro ah j c aj;simp only[kV,Bool.and_eq_true] at ah;cases j with
  | zero=>simp at aj; subst aj; exact ah.1
  | succ j=>exact aQ ah.2 j c (by simpa using aj)
theorem LJ {w w' : World} {A R:Nat->Prop} {h h' : aW} {μ μ' : cI} {c:U} {v:Value} (aq:aP w A h μ c v) (aI:c.flat=true) :aP w' R h' μ' c v:=by
 induction aq with
 | bool b=>exact .bool b
 | int k n=>exact .int k n
 | str bs=>exact .str bs
 | jm=>exact .jm
 | aK=>exact .aK
 | ia=>exact .ia
 | jk=>exact .jk
 | jl=>exact .jl
 | aH cs vs bC ad aq aQ=>exact .aH cs vs bC ad (fun j c v aj fk=>aQ j c v aj fk (Cf (by simpa only [U.flat] using aI) j c aj))
 | bu cs vs bC aq aQ=>exact .bu cs vs bC (fun j c v aj fk=>aQ j c v aj fk (Cf (by simpa only [U.flat] using aI) j c aj))
 | hi t c v aq aQ=>exact .hi t c v (aQ (by simpa only [U.flat] using aI))
 | mF l=>exact .mF l
 | _=>simp[U.flat] at aI
theorem aaz {f:FuncId} {args i9:List U} {r:U} {h:aW} (av:bn P G f i9 r) (bC:i9.length=args.length) (kF:∀ (j:Nat) (c c' : U),args[j]? = some c->i9[j]? = some c'->fR h c c')
  (gI:r.flat=true) :uY P G (.call f args h r h) :=by
 intro R B w μ vs rel g am aq;refine (av w R vs (fun i=>?_) (by omega) (fun j c' v aj fk=>?_)).mono ?_
 ·exact (fA.up (wP (g i).2 (g i).1) fun k _ ax=>⟨ax.1,fun ⟨b,m,ad,af,al⟩=>by cases af⟩:aP w R aW.empty (fun _=>none) _ _)
 ·have aO:j<args.length:=by rw[<-bC]; exact (List.getElem?_eq_some_iff.1 aj).1
  exact P6 rel (kF j args[j] c' (List.getElem?_eq_getElem aO) aj) (aq j args[j] v (List.getElem?_eq_getElem aO) fk)
 ·rintro e w' ⟨v,rfl,ag,ay⟩;obtain⟨b4,cx⟩:=Eh rel ag;exact⟨v,μ,rfl,b4,cx,LJ ay gI⟩
theorem aaA {f:FuncId} {args i9:List U} {r:U} {h:aW} (av:pb P G f i9 r) (bC:i9.length=args.length) (kF:∀ (j:Nat) (c c' : U),args[j]? = some c->i9[j]? = some c'->fR h c c') :uY P G (.call f args h r h) :=by
 intro R B w μ vs rel g am aq;refine (av w R vs (fun i=>?_) (by omega) (fun j c' v aj fk=>?_)).mono ?_
 ·exact (fA.up (wP (g i).2 (g i).1) fun k _ ax=>⟨ax.1,fun ⟨b,m,ad,af,al⟩=>by cases af⟩:aP w R aW.empty (fun _=>none) _ _)
 ·have aO:j<args.length:=by rw[<-bC]; exact (List.getElem?_eq_some_iff.1 aj).1
  exact P6 rel (kF j args[j] c' (List.getElem?_eq_getElem aO) aj) (aq j args[j] v (List.getElem?_eq_getElem aO) fk)
 ·rintro e w' ⟨v,rfl,ag,ay⟩;obtain⟨b4,cx⟩:=Eh rel ag;exact⟨v,μ,rfl,b4,cx,ay.up fun k ax dQ=>⟨rel.up k (Nat.le_trans rel.size dQ),fun au=>by have:=Pg rel au; omega⟩⟩
theorem pb.EB {f:FuncId} {args:List U} {r:U} (av:pb P G f args r) :bn P G f args r:=fun w A vs aA am aq=>
 (av w A vs aA am aq).mono fun e w' ⟨v,ad,af,al⟩=>⟨v,ad,af,(fA.up al fun k _ ax=>⟨.inr ax,fun ⟨b,m,ad,af,al⟩=>by cases af⟩:aP w' _ aW.empty (fun _=>none) _ _)⟩
theorem aaB {f:FuncId} {args:List U} {r:U} {h:aW} (av:bn P G f args r) (ah:a1 args=true) :uY P G (.call f args h r h) :=by
 intro R B w μ vs rel g am aq;refine (av w (fun k=>R k/\¬ nc h μ k) vs (fun i=>?_) am (fun j c v aj fk=>wP (aq j c v aj fk) (y2 ah j c aj))).mono ?_
 ·exact wP (g i).2 (g i).1
 ·rintro e w' ⟨v,rfl,ag,ay⟩;obtain⟨b4,cx⟩:=Eh rel ag;refine⟨v,μ,rfl,b4,cx,ay.up (fun k ax dQ=>?_)⟩;rcases dQ with dQ | dQ
  ·exact dQ
  ·exact⟨rel.up k (Nat.le_trans rel.size dQ),fun au=>by have:=Pg rel au; omega⟩
end

section
variable {P:Program} {G:Nat->U}
theorem ZF {w:World} {R:Nat->Prop} {h:aW} {μ:cI} {aE:Operand->U} {dM:Operand->Value} (cU:∀ x,aP w R h μ (aE x) (dM x)) (o:Oper) {cs:List U} {mk:Nat->U} (aD:mo P aE o.op=some (cs,mk)) :
  ∃ v arr t,(execOp dM o).run P w=.ok (.value v) (w.alloc (.cells arr t))/\ks w R h μ cs arr ∧
   ∀ (w' : World) (rj:Nat->Prop) (h' : aW) (μ' : cI) (b:Nat),h'.f b=.cells cs.length cs->μ' b=some ⟨w.heap.size,0,arr.size⟩->aP w' rj h' μ' (mk b) v:=by
 obtain⟨dst,op,type,pos,after,guard⟩:=o;cases op<;>simp only[mo] at aD<;>try (cases aD; done)
 case alloc t=>
  cases aw:ho P t with
  | none=>rw[aw] at aD; cases aD
  | some z=>
   rw[aw] at aD;simp only[Option.map_some,Option.some.injEq,Prod.mk.injEq] at aD;obtain⟨rfl,rfl⟩:=aD;obtain⟨v,aq,ay⟩:=uO (P:=P) (w:=w) (R:=R) (h:=h) (μ:=μ) aw;refine⟨.pointer (some ⟨w.heap.size,0,none⟩),v.cells,t,by simp[execOp,Instr.alloc,aq,newVar,newRow],ay,fun w' rj h' μ' b ag hm=>?_⟩;have:=aP.ptr (w:=w') (R:=rj) (h:=h') (μ:=μ') b 0 z.length z _ ag hm;simpa using this
 case box t x=>
  cases aw:(aE x).cells with
  | none=>rw[aw] at aD; cases aD
  | some z=>
   rw[aw] at aD;simp only[Option.map_some,Option.some.injEq,Prod.mk.injEq] at aD;obtain⟨rfl,rfl⟩:=aD;obtain⟨b4,cx⟩:=B1 (cU x) aw;refine⟨.pointer (some ⟨w.heap.size,0,none⟩),(dM x).cells,t,by simp[execOp,Instr.box,newVar,newRow],⟨b4,cx⟩,fun w' rj h' μ' b ag hm=>?_⟩;have:=aP.ptr (w:=w') (R:=rj) (h:=h') (μ:=μ') b 0 z.length z _ ag hm;simpa using this
 case buildSlice t len parts=>
  cases ao:jc P t with
  | none=>rw[ao] at aD; cases aD
  | some e=>
  rw[ao] at aD;simp only at aD;cases aw:cC P e with
  | none=>rw[aw] at aD; cases aD
  | some z=>
  cases iw:ho P e with
  | none=>rw[aw,iw] at aD; cases aD
  | some zero=>
  rw[aw,iw] at aD;simp only at aD;split at aD
  ·rename_i iX;cases aI:ht (fun i=>some (i*z,z)) (dz zero len) (parts.toList.map fun p=>(p.1,aE p.2)) with
   | none=>rw[aI] at aD; cases aD
   | some cs'=>
    rw[aI] at aD;simp only[Option.map_some,Option.some.injEq,Prod.mk.injEq] at aD;obtain⟨rfl,rfl⟩:=aD;obtain⟨b4,cx⟩:=IA cU parts;obtain⟨eQ,arr,lD,af⟩:=KP ao aw iw iX.1 iX.2 aI b4 cx;refine⟨.slice (some ⟨w.heap.size,0,none⟩) len len,arr,e,by simp[execOp,lD],af,fun w' rj h' μ' b ag hm=>?_⟩;rw[eQ] at ag;have:=aP.ar (w:=w') (R:=rj) (h:=h') (μ:=μ') z b 0 len len (len*z) len _ _ ag hm (Nat.le_refl _) (by omega) (.inr ⟨by omega,Nat.le_refl _,by simp only; rw[af.1,eQ]; omega⟩);simpa using this
  ·cases aD
 case makeSlice t l c=>
  split at aD
  ·rename_i e li hb ao cv fK;obtain⟨kl,qy⟩:=qk cv (cU l);obtain⟨kc,k1⟩:=qk fK (cU c);cases aw:cC P e with
   | none=>rw[aw] at aD; cases aD
   | some z=>
   cases ep:lV P e with
   | none=>rw[aw,ep] at aD; cases aD
   | some by_=>
   cases iw:ho P e with
   | none=>rw[aw,ep,iw] at aD; cases aD
   | some zero=>
   rw[aw,ep,iw] at aD;simp only at aD;split at aD
   ·rename_i iX;obtain⟨kN,aF,z0,CK,ed⟩:=iX;simp only[Option.some.injEq,Prod.mk.injEq] at aD;obtain⟨rfl,rfl⟩:=aD;obtain⟨bC,arr,lD,cX⟩:=OH (w:=w) (R:=R) (h:=h) (μ:=μ) (kl:=kl) (kc:=kc) ao aw ep iw kN aF z0 CK ed;refine⟨.slice (some ⟨w.heap.size,0,none⟩) li.toNat hb.toNat,arr,e,by simp[execOp,qy,k1,lD],cX,fun w' rj h' μ' b ag hm=>?_⟩;rw[bC] at ag;have:=aP.ar (w:=w') (R:=rj) (h:=h') (μ:=μ') z b 0 li.toNat hb.toNat (hb.toNat*z) hb.toNat _ _ ag hm (by omega) (by omega) (.inr ⟨by omega,Nat.le_refl _,by simp only; rw[cX.1,bC]; omega⟩);simpa using this
   ·cases aD
  ·cases aD
theorem na.rel {R:Nat->Prop} {B:Nat} {w:World} {h h' : aW} {μ:cI} (g:na h h') (rel:bZ R B w h μ) :dB w h μ w h' μ/\bZ R B w h' μ:=by
 have aO:∀ b m,μ b=some m->b<h.n:=fun b m hm=>rel.pd hm
 have e:dB w h μ w h' μ:=by
  refine⟨⟨rfl,rfl,rfl,Nat.le_refl _,fun _ _ _=>rfl,?_,?_,?_,?_,g.n,Nat.le_refl _⟩,fun _ _ hm=>hm⟩
  ·rintro k ⟨b,m,am,hm,rfl⟩;rw[g.same b (aO b m hm)] at am;exact .inl ⟨b,m,am,hm,rfl⟩
  ·intro b sz cs m ag hm;exact .inl ⟨cs,by rw[g.same b (aO b m hm)]; exact ag,hm⟩
  ·rintro b sz aA;have ag:b<h.n:=by
    rcases Nat.lt_or_ge b h.n with ad | ad
    ·exact ad
    ·have:=rel.fresh b ad;rcases aA with aA | ⟨n,cs,aA,_⟩<;>rw[this] at aA<;>cases aA
   rcases aA with aA | ⟨n,cs,aA,jz⟩
   ·exact .inl (by rw[g.same b ag]; exact aA)
   ·exact .inr ⟨n,cs,by rw[g.same b ag]; exact aA,jz⟩
  ·intro b k m ag hm;exact⟨by rw[g.same b (aO b m hm)]; exact ag,hm⟩
 refine⟨e,fun b m hm=>?_,fun b bc m ck am c4 hm bT ay=>?_,fun b m am hm=>?_,g.fresh rel.fresh,rel.up,rel.size,fun b ag=>rel.km b (Nat.le_trans g.n ag)⟩
 ·rw[g.same b (aO b m hm)];exact (rel.blk b m hm).ext e.toExt0 rfl
 ·rw[g.same b (aO b m hm)] at am;rw[g.same bc (aO bc ck bT)] at c4;exact rel.inj b bc m ck am c4 hm bT ay
 ·rw[g.same b (aO b m hm)] at am;exact rel.base b m am hm
theorem Ra {K:Act->World->Prop} {Q:Exit->Act->World->Prop} {e:sD} {a:Act} {w:World} (ao:e≠.normal) (h:Q e.out a w) :Exit.then K Q e.out a w:=by
 cases e with
 | normal=>exact absurd rfl ao
 | exit id=>exact h
 | ret=>exact h
theorem SR {id:Nat} {Q:Exit->Act->World->Prop} {e:sD} {a:Act} {w:World} (ao:e≠.exit id) (h:Q e.out a w) :Exit.inBlock id Q e.out a w:=by
 cases e with
 | normal=>exact h
 | exit xU=>
  have:xU≠id:=fun aR=>ao (by rw[aR])
  simpa [Exit.inBlock,sD.out,this] using h
 | ret=>exact h
def J1 (P:Program) (G:Nat->U) :Prop:=
 ∀ {id:Nat} {ops:Array Oper} {N:Nat} {ae:Nat->U} {h:aW} {bS:Nat->U} {h' : aW} (pre:Nat->Nat->Bool) (val:Nat->U) (W:Nat->Bool) (cls:Nat->Bx) (m:Nat) (ak:Nat->Nat) (fj qc:Nat->aW) (go:Nat->Nat) (cells:Nat->List U),
  re ops pre->
  (∀ (i:Nat) (o:Oper),ops[i]? = some o->oj N o.dst=true)->
  na h (fj 0)->h'=fj m->(bS=fun t=>match i5 ops t with | some i=>val i | none=>ae t)->
  (∀ (i:Nat) (o:Oper),ops[i]? = some o->W i=true->cls i=.gf->∃ q,q<m/\ak q=i)->
  (∀ q,q<m->∃ o,ops[ak q]? = some o/\W (ak q)=true/\cls (ak q)=.gf)->
  (∀ q dE,q<m->dE<m->q<dE->pre (ak dE) (ak q)=true)->
  (∀ q dE,q<m->dE<m->ak q=ak dE->q=dE)->
  (∀ (i:Nat) (o:Oper),ops[i]? = some o->jV ops (l0 ops pre val ae i o) o=some (W i))->
  (∀ (i:Nat) (o:Oper),ops[i]? = some o->W i=false->val i=ie)->
  (∀ (i:Nat) (o:Oper),ops[i]? = some o->W i=true->cls i=.pure->∀ k,w0 pre m ak i k->cQ P (fj k) (dv G (l0 ops pre val ae i o)) o.op=some (.val (val i) (fj k)))->
  (∀ (i:Nat) (o:Oper),ops[i]? = some o->W i=true->cls i=.new->∃ mk,mo P (dv G (l0 ops pre val ae i o)) o.op=some (cells i,mk)/\val i=mk (go i)/\h.n<=go i ∧
    ∀ k,w0 pre m ak i k->(fj k).f (go i)=.cells (cells i).length (cells i))->
  (∀ (i j:Nat) (o df:Oper),ops[i]? = some o->ops[j]? = some df->W i=true->W j=true->cls i=.new->cls j=.new->go i=go j->i=j)->
  (∀ (i:Nat) (o:Oper) (q:Nat),ops[i]? = some o->W i=true->cls i=.new->q<m->go i<(fj q).n\/(qc q).n<=go i)->
  (∀ q,q<m->na (qc q) (fj (q+1)))->
  (∀ (q:Nat) (o:Oper),q<m->ops[ak q]? = some o->uY P G (.op o.op (l0 ops pre val ae (ak q) o) (fj q) (val (ak q)) (qc q)))->
  uY P G (.code (.region id ops true) N ae h .normal bS h')
theorem lT.ext {h af:aW} (k:lT h af) (w:World) (μ:cI) :dB w h μ w af μ:=by
 refine⟨⟨rfl,rfl,rfl,Nat.le_refl _,fun _ _ _=>rfl,?_,?_,?_,?_,Nat.le_of_eq k.n.symm,Nat.le_refl _⟩,fun _ _ hm=>hm⟩
 ·rintro r ⟨b,m,am,hm,rfl⟩;refine .inl ⟨b,m,?_,hm,rfl⟩;rcases k.blk b with ao | ⟨sz,cs,ah,_⟩
  ·rw[<-ao]; exact am
  ·rw[ah]; rfl
 ·intro b sz cs m ag hm;rcases k.blk b with ao | ⟨sz',cs',ah,bh | ⟨h4,zz,_⟩⟩
  ·exact .inl ⟨cs,by rw[ao]; exact ag,hm⟩
  ·exact .inr (.inl bh)
  ·rw[ag] at ah; cases ah; exact .inl ⟨h4,zz,hm⟩
 ·rintro b sz (ag | ⟨n,cs,ag,aO⟩)
  ·rcases k.blk b with ao | ⟨sz',cs',ah,_⟩
   ·exact .inl (ao.trans ag)
   ·rw[ag] at ah; cases ah
  ·rcases k.blk b with ao | ⟨sz',cs',ah,bh | ⟨h4,zz,_⟩⟩
   ·exact .inr ⟨n,cs,by rw[ao]; exact ag,aO⟩
   ·exact .inl bh
   ·rw[ag] at ah; cases ah; exact .inr ⟨n,h4,zz,aO⟩
 ·intro b lH m ag hm;rcases k.blk b with ao | ⟨sz',cs',ah,_⟩
  ·exact⟨by rw[ao]; exact ag,hm⟩
  ·rw[ah] at ag; cases ag
theorem lT.live {h af:aW} (k:lT h af) {b:Nat} (am:live (af.f b)=true) :live (h.f b)=true:=by
 rcases k.blk b with ao | ⟨sz,cs,ah,_⟩
 ·rw[<-ao]; exact am
 ·rw[ah]; rfl
theorem lT.nV {R:Nat->Prop} {B:Nat} {w:World} {h af:aW} {μ:cI} (rel:bZ R B w h μ) (k:lT h af) :∀ {c ce:U},lQ h af c ce->∀ {v:Value},aP w R h μ c v->aP w R af μ ce v:=by
 intro c ce ay
 induction ay with
 | same c=>intro v aq; exact aq.ext (k.ext w μ)
 | aH cs cs' am h aQ=>
  intro v aq;cases aq with
  | aH _ vs hg ad aq=>
   refine .aH cs' vs (by omega) ad (fun j c' v aj fk=>?_);have aO:j<cs.length:=by rw[<-am]; exact (List.getElem?_eq_some_iff.1 aj).1
   exact aQ j cs[j] c' (List.getElem?_eq_getElem aO) aj (aq j cs[j] v (List.getElem?_eq_getElem aO) fk)
 | so z b off cap sz=>
  intro v aq;cases aq with
  | ar _ _ _ _ _ _ cap' cs m ag hm am au ah=>exact .fw z _ cap'
  | hZ _ _ _ _ _ _ cap' a am ah aA=>exact .fw z _ cap'
  | iT _ _ _ _ a cs m ag hm=>exact .fw z a 0
 | ar z b off len cap sz cs es ag bh am aw dj aq aQ=>
  intro v aq;cases aq with
  | iT _ _ _ _ a h4 m ft g3=>
   obtain rfl:=List.length_eq_zero_iff.1 am;exact .fw z a 0
  | hZ _ _ _ _ _ _ cap' a am ah aA=>
   exfalso;rcases aA with aA | ⟨n,h4,aA,aO⟩
   ·rw[ag] at aA; cases aA
   ·rw[ag] at aA; cases aA; omega
  | ar _ _ _ _ _ _ cap' h4 m ft hm jy au ah=>
   rw[ag] at ft; cases ft;have hP:=rel.blk b m hm;rw[ag] at hP;obtain⟨cR,gH,arr,t,gu,aV,aC,aI,lw⟩:=hP;have c3:len<=cap':=by rcases ah with ⟨_,h⟩ | ⟨_,h,_⟩<;>omega
   have kD:Go.ca.live (h.f b)=true:=by rw[ag]; rfl
   have rA:R m.r:=rel.up _ (rel.base b m kD hm);have cH:¬ nc af μ m.r:=by
    rintro⟨bc,ck,c4,bT,ny⟩;have:=rel.inj bc b ck m (k.live c4) kD bT hm ny;subst this;rw[bh] at c4; cases c4
   subst am;have pu:∀ i j,i<es.length->j<z->∃ c v,cs[off+(i*z+j)]? = some c/\arr[m.s+(off+(i*z+j))]? = some v/\v.oneCell'=true/\aP w R h μ c v:=by
    intro i j aB aj;have aO:off+(i*z+j)<cs.length:=by
     have:i*z+z<=es.length*z:=by rw[<-Nat.succ_mul]; exact Nat.mul_le_mul_right _ aB
     omega
    obtain⟨v,ad,af,al⟩:=lw _ _ (List.getElem?_eq_getElem aO);exact⟨_,v,List.getElem?_eq_getElem aO,ad,af,al⟩
   refine .b1 z es m.r (m.s+off) cap' (fun i j=>(arr[m.s+(off+(i*z+j))]?).getD undef) c3 aw (fun i j aB aj=>?_) (fun i e ao j c' aj=>?_)
   ·obtain⟨c,v,ad,af,al,aG⟩:=pu i j aB aj;refine⟨?_,?_,rA,cH⟩
    ·simp only[World.cell?,aV,af,Option.getD_some,Option.isSome_none];rw[show m.s+off+(i*z+j)=m.s+(off+(i*z+j)) by omega,af]; rfl
    ·rw[af]; exact al
   ·have aB:i<es.length:=(List.getElem?_eq_some_iff.1 ao).1;have oD:j<z:=by rw[<-aw e (List.mem_of_getElem? ao)]; exact (List.getElem?_eq_some_iff.1 aj).1
    obtain⟨c,v,ad,af,al,aG⟩:=pu i j aB oD;simp only[af,Option.getD_some];exact aQ i j e c c' ao aj ad aG
theorem lT.rel {R:Nat->Prop} {B:Nat} {w:World} {h af:aW} {μ:cI} (rel:bZ R B w h μ) (k:lT h af) :bZ R B w af μ:=by
 refine⟨?_,?_,?_,?_,rel.up,rel.size,?_⟩
 ·intro b m hm;have ag:=rel.blk b m hm;rcases k.blk b with ao | ⟨sz,cs,ah,bh | ⟨h4,zz,bC,aq⟩⟩
  ·rw[ao]; exact ag.ext (k.ext w μ).toExt0 rfl
  ·rw[bh]; trivial
  ·rw[zz];rw[ah] at ag;obtain⟨ad,fI,arr,t,gu,al,aG,a6,bK⟩:=ag;refine⟨by omega,fI,arr,t,gu,al,aG,a6,fun j ce aj=>?_⟩;have aO:j<cs.length:=by rw[<-bC]; exact (List.getElem?_eq_some_iff.1 aj).1
   obtain⟨v,a2,bb,cr⟩:=bK j cs[j] (List.getElem?_eq_getElem aO);exact⟨v,a2,bb,k.nV rel (aq j cs[j] ce (List.getElem?_eq_getElem aO) aj) cr⟩
 ·intro b bc m ck am c4 hm bT ay;exact rel.inj b bc m ck (k.live am) (k.live c4) hm bT ay
 ·intro b m am hm;exact rel.base b m (k.live am) hm
 ·intro b ag;rw[k.n] at ag;rcases k.blk b with ao | ⟨sz,cs,ah,_⟩
  ·rw[ao]; exact rel.fresh b ag
  ·rw[rel.fresh b ag] at ah; cases ah
 ·intro b ag;rw[k.n] at ag;exact rel.km b ag
theorem acx (bh:J1 P G) {j:J} (aj:dh P G j) :uY P G j:=by
 induction aj with
 | skip N ae h=>exact⟨0,fun R B w μ a Q rel g s k=>wp_skip (k a w μ (.refl _ _ _) rel s)⟩
 | label l N ae h=>exact⟨0,fun R B w μ a Q rel g s k=>wp_label (k a w μ (.refl _ _ _) rel s)⟩
 | ret N ae h=>exact⟨0,fun R B w μ a Q rel g s k=>wp_ret (k a w μ (.refl _ _ _) rel s)⟩
 | exit id N ae h=>exact⟨0,fun R B w μ a Q rel g s k=>wp_exit (k a w μ (.refl _ _ _) rel s)⟩
 | QC ad af dV mh=>
  obtain⟨hk,dV⟩:=dV;obtain⟨jL,mh⟩:=mh;exact⟨0,fun R B w μ a Q rel g s k=>wp_seq (n0.wp (dV R B w μ a _ rel g s fun a2 bV iG aS e8 fP=>
   n0.wp (mh R B bV iG a2 Q e8 (g.ext aS) fP fun bb w2 qa bv dU i4=>k bb w2 qa (aS.trans bv) dU i4)))⟩
 | Jd ad ao dV=>
  obtain⟨hk,dV⟩:=dV;exact⟨0,fun R B w μ a Q rel g s k=>wp_seq (n0.wp (dV R B w μ a _ rel g s fun a2 bV iG aS e8 fP=>Ra ao (k a2 bV iG aS e8 fP)))⟩
 | cond ah ad dV=>
  rename_i c x y N ae h b e bS h';obtain⟨hk,dV⟩:=dV;refine⟨0,fun R B w μ a Q rel g s k=>?_⟩;have aq:=s.dv g c;rw[ah] at aq;cases CP:a.eval c<;>rw[CP] at aq<;>try (cases aq; done)
  cases aq;exact wp_cond CP (n0.wp (dV R B w μ a Q rel g s k))
 | BR ad ao dV=>
  obtain⟨hk,dV⟩:=dV;exact⟨0,fun R B w μ a Q rel g s k=>wp_block (n0.wp (dV R B w μ a _ rel g s fun a2 bV iG aS e8 fP=>SR ao (k a2 bV iG aS e8 fP)))⟩
 | KK ad dV=>
  obtain⟨hk,dV⟩:=dV;exact⟨0,fun R B w μ a Q rel g s k=>wp_block (n0.wp (dV R B w μ a _ rel g s fun a2 bV iG aS e8 fP=>by
   simp only[sD.out,Exit.inBlock,if_true];exact k a2 bV iG aS e8 fP))⟩
 | x0 ad af dV mh=>
  obtain⟨hk,dV⟩:=dV;obtain⟨jL,mh⟩:=mh;exact⟨jL+1,fun R B w μ a Q rel g s k=>n0.wp (dV R B w μ a _ rel g s fun a2 bV iG aS e8 fP=>
   mh R B bV iG a2 Q e8 (g.ext aS) fP fun bb w2 qa bv dU i4=>k bb w2 qa (aS.trans bv) dU i4)⟩
 | H5 ad ao dV=>
  obtain⟨hk,dV⟩:=dV;exact⟨1,fun R B w μ a Q rel g s k=>n0.wp (dV R B w μ a _ rel g s fun a2 bV iG aS e8 fP=>Ra ao (k a2 bV iG aS e8 fP))⟩
 | scope ad dV=>
  obtain⟨hk,dV⟩:=dV;rename_i c N ae h e bS h';refine⟨0,fun R B w μ a Q rel g s k=>wp_scope_straight (n0.wp (dV R B w μ a _ rel g s fun a2 bV iG aS e8 fP=>?_))⟩;have:=k a2 bV iG aS e8 fP;cases e<;>exact this
 | region ad dV=>exact⟨0,fun R B w μ a Q rel g s k=>wp_region_list (dV R B w μ a Q rel g s k)⟩
 | draw pre val W cls m ak fj qc go cells g7 oA aF hm Ds vC zR me py tw Dl Dg vQ CF CG oC xq aQ=>
  exact bh pre val W cls m ak fj qc go cells g7 oA aF hm Ds vC zR me py tw Dl Dg vQ CF CG oC aQ
 | O8=>exact fun R B w μ a Q rel g s k=>k a w μ (.refl _ _ _) rel s
 | Pa aV zP ad dV=>
  intro R B w μ a Q rel g s k;have tw:=JM (w:=w) (R:=R) (h:=_) (μ:=μ) (tmps:=a.tmps) aV (fun d _=>s.val d);unfold wpList;rw[if_neg (by rw[tw]; simp)];exact dV R B w μ _ Q rel g (s.put zP JF) k
 | O9 aV zP ad af dV mh=>
  intro R B w μ a Q rel g s k;have tw:=JM (w:=w) (R:=R) (h:=_) (μ:=μ) (tmps:=a.tmps) aV (fun d _=>s.val d);unfold wpList;rw[if_pos tw];refine .inl (dV R B w μ a _ _ Q rfl rel g (s.dv g) fun a4 bV iG aS e8 aq=>?_);exact mh R B bV iG _ Q e8 (g.ext aS) ((s.ext aS).put zP aq) fun bb w2 qa bv dU i4=>k bb w2 qa (aS.trans bv) dU i4
 | D3 ak=>
  intro R B w μ a o K Q au rel g cU k;subst au;have:=Jo (P:=P) rel cU o ak;obtain⟨v,w',μ',ay,e,r,aq⟩:=this;unfold Oper.wp;rcases ay with ay | ⟨ay,rfl⟩
  ·rw[ay]; exact k v w' μ' e r aq
  ·rw[ay]; exact k undef w' μ' e r aq
 | ya ak ad dV=>
  intro R B w μ a o K Q au rel g cU k;subst au;obtain⟨rfl,vs,ay,am,aq⟩:=Jo (P:=P) rel cU o ak;unfold Oper.wp;rw[ay];refine (dV R B w μ vs rel g am aq).mono ?_;rintro e w' ⟨v,μ',rfl,aS,e8,Ai⟩;exact k v w' μ' aS e8 Ai
 | EL ad hL aq dV=>
  intro R B w μ a o K Q au rel g cU k;refine dV R B w μ a o K Q au rel g cU fun a4 w' μ' e r Aj=>?_
  exact k a4 w' μ' (e.trans (hL.ext w' μ')) (hL.rel r) (hL.nV r aq Aj)
 | inline aI ag ad ao ay dV=>
  rename_i f fn c args h e bS h' r;obtain⟨hk,dV⟩:=dV;intro R B w μ vs rel g am aq;refine calls_of_wp aI ag (n0.wp (dV R B w μ _ _ rel g ⟨by simp[am],rfl,fun t=>?_⟩ fun a2 bV iG aS e8 fP=>?_))
  ·by_cases a3:t<args.length
   ·have aC:args.getD t ie=args[t] :=by simp[List.getD,a3]
    have kL:(vs++Array.replicate (fn.ntmps - vs.size) undef).getD t undef=vs[t] :=by
     rw[Array.getD_eq_getD_getElem?,Array.getElem?_append_left (by omega)];simp[show t<vs.size by omega]
    rw[aC,kL];exact aq t _ _ (by simp[a3]) (by simp)
   ·have aC:args.getD t ie=ie:=by simp[List.getD,List.getElem?_eq_none (by omega:args.length<=t)]
    have kL:(vs++Array.replicate (fn.ntmps - vs.size) undef).getD t undef=undef:=by
     rw[Array.getD_eq_getD_getElem?,Array.getElem?_append_right (by omega),Array.getElem?_replicate];split<;>rfl
    rw[aC,kL];exact JF
  ·obtain⟨v,b4,cx⟩:=abF e8 fP ay;have NP:fP.defers=fP.defers:=rfl;rcases ao with rfl | rfl
   ·exact⟨fP.defers,v,b4,v,iG,rfl,aS,e8,cx⟩
   ·exact⟨fP.defers,v,b4,v,iG,rfl,aS,e8,cx⟩
 | pure av ah=>exact aaB av ah
 | PG av am ay aI=>exact aaz av am ay aI
 | ext ak=>exact ak
 | PH av am ay=>exact aaA av am ay
end

end Go.ca

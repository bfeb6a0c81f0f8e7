/-
  The canonical machine, part Im: maps, strings rune by rune, bytes compared.
-/
import Derived.Test.YtidejmkknleijaaGreatDoorFb
import Derived.Stop.SameAnswer
import Derived.Orders
import Derived.Still
import Derived.Scope
import Derived.LoopN
set_option linter.unusedVariables false
set_option linter.unusedSimpArgs false
set_option linter.unnecessarySimpa false
namespace Go.bY
open Go
section
variable {P:Program} {w:World} {R:Nat->Prop} {B:Nat} {h:aM} {μ:cg}
def uA:U->Value
 | .bool b=>.bool b
 | .int k n=>.int k n
 | .str s=>.string ⟨s.toArray⟩
 | _=>.tuple #[]
def yL:U->Value
 | .aG cs=>.agg (cs.map uA).toArray
 | c=>uA c
theorem ai0 {c:U} {v:Value} (av:wk c=true) (ap:aN w R h μ c v) :v=uA c:=by
 cases c<;>simp[wk] at av
 ·cases ap; rfl
 ·cases ap; rfl
 ·cases ap;rename_i bs;show Value.string bs=.string ⟨bs.data.toList.toArray⟩;congr 1
theorem Hm {t:TypeId} {c:U} (aE:lS P t c=true) :∃ cs m,c=.aG cs/\ua P 8 t=true/\eo P t=some true/\cu P t=some m/\cs.length=m/\∀ x∈cs,wk x=true:=by
 unfold lS at aE;split at aE
 ·rename_i cs;simp only[as7] at aE;obtain⟨⟨ad,ae⟩,aj⟩:=aE;split at ae
  ·rename_i m aB ak;exact⟨cs,m,rfl,ad,aB,ak,atz ae,fun x ag=>atN.1 aj x ag⟩
  ·cases ae
 ·cases aE
theorem Mj {t:TypeId} {c:U} {v:Value} (aE:lS P t c=true) (ap:aN w R h μ c v) :v=yL c:=by
 obtain⟨cs,m,rfl,_,_,_,_,hint⟩:=Hm aE;cases ap with
 | aG _ vs al ad ap=>
  show Value.agg vs=.agg (cs.map uA).toArray;congr 1;apply Array.ext_getElem?;intro j;have ag:(cs.map uA).toArray[j]? = (cs[j]?).map uA:=by simp
  rw[ag];cases ai:cs[j]? with
  | none=>simp only[Option.map_none]; rw[auU]; rw[al]; exact au8.1 ai
  | some c=>
   have aK:=(as0.1 ai).1;have mN:=ap j c vs[j] ai (at5 (by omega));rw[at5 (by omega)];simp only[as9,Option.some.injEq];exact ai0 (hint c (ata ai)) mN
theorem aad (a:ByteArray) :(a == a)=true:=by
 show (a.data == a.data)=true;exact beq_self_eq_true _
theorem akt {c:U} (n:Nat) (ah:wk c=true) :Instr.sameBits n (uA c) (uA c)=true:=by
 cases c<;>simp[wk] at ah<;>unfold uA Instr.sameBits
 ·simp
 ·simp
 ·exact aad _
theorem aks {t:TypeId} {c:U} (n:Nat) (aE:lS P t c=true) :Instr.sameBits (n+1) (yL c) (yL c)=true:=by
 obtain⟨cs,m,rfl,_,_,_,_,hint⟩:=Hm aE;unfold yL Instr.sameBits;simp only[beq_self_eq_true,aus,atN];rintro⟨x,y⟩ lO;rw[atc] at lO;obtain⟨j,ai⟩:=lO;rw[auw] at ai;obtain⟨ad,ae⟩:=ai;rw[ad] at ae; cases ae;simp only[as5,Option.map_eq_some_iff] at ad;obtain⟨c,ah,rfl⟩:=ad;exact akt n (hint c (ata ah))
theorem akk {t:TypeId} {c:U} (aE:lS P t c=true) :(Instr.keyThatStays (yL c) (yL c)).run P w=.ok (yL c) w:=by
 unfold Instr.keyThatStays;rw[if_pos (aks 9999 aE)];simp
theorem JW {α:Type} {f:α->PUnit->Sem (ForInStep PUnit)}:∀ (l:List α),(∀ x∈l,(f x ⟨⟩).run P w=.ok (.yield ⟨⟩) w)->(forIn l ⟨⟩ f).run P w=.ok ⟨⟩ w
 | [],_=>by simp
 | x::l,aE=>by
  rw[List.forIn_cons];simp only[Sem.run_bind,aE x (by simp),Result.andThen_ok];exact JW l (fun y aJ=>aE y (by simp[aJ]))
theorem No (em:Bool) :∀ (d n:Nat) (t:TypeId) (c:U) (v:Value),d<=n->ua P d t=true->aN w R h μ c v->(eo P t=some true->∃ cs m,c=.aG cs/\cu P t=some m/\cs.length=m)->
  (Instr.checkKey em n t v).run P w=.ok () w
 | 0,_,_,_,_,_,ar,_,_=>by simp[ua] at ar
 | d+1,0,_,_,_,aC,_,_,_=>by omega
 | d+1,n+1,t,c,v,aC,ar,ap,aB=>by
  unfold ua at ar;split at ar
  ·rename_i aL; cases v<;>simp[Instr.checkKey,cr aL]
  ·rename_i aL; cases v<;>simp[Instr.checkKey,cr aL]
  ·rename_i aL; cases v<;>simp[Instr.checkKey,cr aL]
  ·rename_i len e m aL hm;have Ko:eo P t=some true:=by unfold eo; rw[aL]; rfl
   obtain⟨cs,ch,rfl,bR,al⟩:=aB Ko;rw[hm] at bR; cases bR;simp only[as7] at ar;obtain⟨mI,lL⟩:=ar;split at lL
   ·rename_i z a ax Kr;simp only[as7] at lL;have dY:=at2 lL.1;have p0:=at2 lL.2;obtain⟨vs,rfl,ay⟩:=uT ap;unfold Instr.checkKey;simp only[Sem.run_bind,cr aL,Result.andThen_ok];rw[Std.Legacy.Range.forIn_eq_forIn_range'];rw[JW]
    ·simp
    intro i az;have dS:i<len:=by simp[Std.Legacy.Range.size] at az; omega
    have aeh:i*z+z<=cs.length:=by
     have:i*z+z<=len*z:=by rw[<-atL]; exact as6 _ dS
     omega
    have av:∃ c,ic P e cs (i*z)=some c/\(eo P e=some true->∃ cs' ch,c=.aG cs'/\cu P e=some ch/\cs'.length=ch) :=by
     unfold ic;rw[Kr,ax];cases a with
     | true=>exact⟨_,by simp only; rw[if_pos aeh],fun _=>⟨_,z,rfl,rfl,by simp; omega⟩⟩
     | false=>exact⟨cs[i*z]'(by omega),by simp only; exact as4 (by omega),fun h=>by cases h⟩
    obtain⟨c,ah,qR⟩:=av;obtain⟨u,aj,aF⟩:=wj (P:=P) ah ay;simp only[Sem.run_bind,fD ax,Result.andThen_ok,aj w];rw[No em d n e c u (by omega) mI aF qR];simp
   ·cases lL
  ·rename_i fs m aL hm;have Ko:eo P t=some true:=by unfold eo; rw[aL]; rfl
   obtain⟨cs,ch,rfl,bR,al⟩:=aB Ko;rw[hm] at bR; cases bR;obtain⟨vs,rfl,ay⟩:=uT ap;unfold Instr.checkKey;simp only[Sem.run_bind,cr aL,Result.andThen_ok];rw[<-Array.forIn_toList,JW]
   ·simp
   intro f aE;have Gy:=atN.1 ar f aE;simp only[as7] at Gy;obtain⟨mI,lL⟩:=Gy;split at lL
   ·rename_i z a ax Kr;simp only[as7] at lL;have dY:=at2 lL.1;have p0:=at2 lL.2;have av:∃ c,ic P f.type cs f.offset=some c/\(eo P f.type=some true->∃ cs' ch,c=.aG cs'/\cu P f.type=some ch/\cs'.length=ch) :=by
     unfold ic;rw[Kr,ax];cases a with
     | true=>exact⟨_,by simp only; rw[if_pos (by omega)],fun _=>⟨_,z,rfl,rfl,by simp; omega⟩⟩
     | false=>exact⟨cs[f.offset]'(by omega),by simp only; exact as4 (by omega),fun h=>by cases h⟩
    obtain⟨c,ah,qR⟩:=av;obtain⟨u,aj,aF⟩:=wj (P:=P) ah ay;have:=No em d n f.type c u (by omega) mI aF qR;by_cases se:f.name= "_"
    ·simp[se]
    ·simp[se,aj w,this]
   ·cases lL
  ·cases ar
theorem Xe {t:TypeId} {c:U} {v:Value} (em:Bool) (aE:lS P t c=true) (ap:aN w R h μ c v) :(Instr.checkKey em 10000 t v).run P w=.ok () w:=by
 obtain⟨cs,m,rfl,ad,ae,aj,aF,_⟩:=Hm aE;exact No em 8 10000 t _ v (by omega) ad ap (fun _=>⟨cs,m,rfl,aj,aF⟩)
def sX (w:World) (R:Nat->Prop) (h:aM) (μ:cg) (es:List (U × U × Nat)) (dK:List MapEntry) :Prop:=
 dK.length=es.length/\∀ (j:Nat) (k v:U) (b:Nat),es[j]? = some (k,v,b)->∃ x:MapEntry,dK[j]? = some x/\aN w R h μ k x.key/\aN w R h μ v x.val/\x.born=b
def Ot (w:World) (R:Nat->Prop) (h:aM) (μ:cg) (k:U) (dK:List MapEntry) (i:Nat) :Option (Nat × U)->Option (Nat × Value)->Prop
 | none,r=>r=none
 | some (j,v),r=>∃ pf,r=some (j,pf)/\aN w R h μ v pf/\i<=j/\∃ x,dK[j - i]? = some x/\x.val=pf/\aN w R h μ k x.key
theorem abr {es:List (U × U × Nat)} {e:U × U × Nat} {x:MapEntry} {dK:List MapEntry} (ay:sX w R h μ (e::es) (x::dK)) :sX w R h μ es dK:=
 ⟨by have:=ay.1; simp at this; exact this,fun j k v b ai=>ay.2 (j+1) k v b (by simpa using ai)⟩
theorem abq {es:List (U × U × Nat)} {k v:U} {b:Nat} {x:MapEntry} {dK:List MapEntry} (ay:sX w R h μ ((k,v,b) ::es) (x::dK)) :aN w R h μ k x.key/\aN w R h μ v x.val/\x.born=b:=by
 obtain⟨y,ad,ae⟩:=ay.2 0 k v b rfl;simp at ad; subst ad; exact ae
theorem RN {cK:TypeId} {k:U} {ia:Value} (ar:aN w R h μ k ia) :∀ (es:List (U × U × Nat)) (dK:List MapEntry) (i:Nat) (r:Option (Nat × U)),sX w R h μ es dK->kY P cK k es i=some r->
  ∃ cx,(Instr.findAsking cK ia dK i).run P w=.ok cx w/\Ot w R h μ k dK i r cx
 | [],dK,i,r,ay,aE=>by
  have:dK=[] :=atI.1 ay.1;subst this;simp only[kY,Option.some.injEq] at aE; subst aE;exact⟨none,by simp[Instr.findAsking],rfl⟩
 | (k',v,b) ::es,[],i,r,ay,aE=>by have:=ay.1; simp at this
 | (k',v,b) ::es,x::dK,i,r,ay,aE=>by
  obtain⟨ad,ae,aj⟩:=abq ay;simp only[kY] at aE;split at aE
  ·cases aE
  rename_i eh;split at aE
  ·rename_i heq;split at aE
   ·rename_i adg;simp only[Option.some.injEq] at aE; subst aE;have fJ:=JM (P:=P) 10000 cK k k' true ia x.key heq ar ad;refine⟨some (i,x.val),?_,x.val,rfl,ae,as3 _,x,by simp,rfl,?_⟩
    ·simp only[Instr.findAsking,Op.equal,Op.maxDepth,Sem.run_bind];rw[fJ]; simp
    ·rw[U.beq_eq adg]; exact ad
   ·cases aE
  ·rename_i heq;have fJ:=JM (P:=P) 10000 cK k k' false ia x.key heq ar ad;obtain⟨cx,aF,a6⟩:=RN ar es dK (i+1) r (abr ay) aE;refine⟨cx,?_,?_⟩
   ·simp only[Instr.findAsking,Op.equal,Op.maxDepth,Sem.run_bind];rw[fJ]; simpa using aF
   ·cases r with
    | none=>exact a6
    | some vY=>
     obtain⟨pf,bu,cL,gM,y,gE,kZ,xx⟩:=a6;exact⟨pf,bu,cL,by omega,y,by rw[show vY.1 - i=(vY.1 - (i+1))+1 by omega]; simpa using gE,kZ,xx⟩
  ·cases aE
theorem Xg {cK:TypeId} {k:U} {ia:Value} (ar:aN w R h μ k ia) (aE:lS P cK k=true) {es:List (U × U × Nat)} {dK:List MapEntry} {r:Option (Nat × U)} (ay:sX w R h μ es dK) (KD:kY P cK k es 0=some r) :
  ∃ cx,(Instr.findKey cK ia dK).run P w=.ok cx w/\Ot w R h μ k dK 0 r cx:=by
 obtain⟨cx,ad,ae⟩:=RN ar es dK 0 r ay KD;refine⟨cx,?_,ae⟩;obtain⟨cs,m,rfl,aj,aF,_⟩:=Hm aE;unfold eo at aF;cases aL:P.underlying cK with
 | none=>rw[aL] at aF; cases aF
 | some d=>
  rw[aL] at aF;unfold Instr.findKey;simp only[Sem.run_bind,cr aL,Result.andThen_ok];cases dK with
  | nil=>simpa [Instr.findNow,Instr.findAsking] using ad
  | cons x dK=>
   have aC:Instr.findNow d ia (x::dK) 0=none:=by
    cases d<;>simp at aF<;>simp[Instr.findNow,Instr.sameNow]
   rw[aC];exact ad
theorem ahF (rel:bI R B w h μ) {m:U} {fL:Value} {es:List (U × U × Nat)} (hm:mapOf h m=some es) (ap:aN w R h μ m fL) :
  (fL=.map none/\es=[])\/∃ b b9 fb dK,m=.mp b/\h.f b=.map es fb/\μ b=some b9/\fL=.map (some b9.r)/\w.heap[b9.r]? = some (.map dK fb)/\sX w R h μ es dK.toList:=by
 cases m<;>simp[mapOf] at hm
 ·subst hm; cases ap; exact .inl ⟨rfl,rfl⟩
 ·rename_i b;cases ap with
  | mp _ b9 af nq=>
   cases ah:h.f b<;>rw[ah] at hm<;>simp at hm;rename_i aof fb;subst hm;have iA:=rel.blk b b9 nq;rw[ah] at iA;obtain⟨dK,ad,ae,aj⟩:=iA;refine .inr ⟨b,b9,fb,dK,rfl,ah,nq,rfl,ad,by simpa using ae,fun j k v bc ai=>?_⟩;obtain⟨x,aF,a6⟩:=aj j k v bc ai;exact⟨x,by simpa using aF,a6⟩
theorem Np {r:Nat} {es:Array MapEntry} {fb:Nat} (af:w.heap[r]? = some (.map es fb)) :(getObj r).run P w=.ok (.map es fb) w:=by simp[getObj,Sem.run,af]
theorem Xh {r:Nat} {s:ByteArray} {pos:Nat} (af:w.heap[r]? = some (.stringIter s pos)) :(getObj r).run P w=.ok (.stringIter s pos) w:=by simp[getObj,Sem.run,af]
theorem YP {t:TypeId} {z:U} (ax:yU P t=some z) :∃ v,(zeroValue t).run P w=.ok v w/\aN w R h μ z v:=by
 unfold yU at ax;cases az:P.info? t with
 | none=>rw[az] at ax; cases ax
 | some i=>
  rw[az] at ax;simp only[auI] at ax;cases ap:i.zero with
  | none=>rw[ap] at ax; cases ax
  | some v=>
   rw[ap] at ax;simp only[as9,Option.some.injEq] at ax; subst ax;exact⟨v,Xk az ap,.we v⟩
theorem aN.X7 {a b:U} {iw fa:Value} (aB:aN w R h μ a iw) (af:aN w R h μ b fa) :aN w R h μ (.bv [a,b]) (.tuple #[iw,fa]) :=by
 refine .bv _ _ rfl fun j c v ah ap=>?_
 rcases j with _ | _ | j
 ·simp at ah ap; subst ah ap; exact aB
 ·simp at ah ap; subst ah ap; exact af
 ·simp at ah
theorem ahm (rel:bI R B w h μ) {t:TypeId} {m k c:U} {fL ia:Value} {ok:Bool} (al:Hr P h t m k ok=some c) (hm:aN w R h μ m fL) (ar:aN w R h μ k ia) :
  ∃ v,(Instr.lookup t fL ia ok).run P w=.ok v w/\aN w R h μ c v:=by
 unfold Hr at al;split at al
 ·rename_i cK mz es aL C7;split at al
  ·cases al
  ·rename_i eh;have aaQ:∀ dK:List MapEntry,sX w R h μ es dK->∃ cx,(Instr.findKey cK ia dK).run P w=.ok cx w ∧
     ((∃ i v,cx=some (i,v)/\∃ xl,aN w R h μ xl v/\c=if ok then .bv [xl,.bool true] else xl)\/(cx=none/\∃ z,yU P mz=some z/\c=if ok then .bv [z,.bool false] else z)) :=by
    intro dK ay;cases lJ:kY P cK k es 0 with
    | none=>rw[lJ] at al; cases al
    | some r=>
     obtain⟨cx,ad,ae⟩:=Xg ar eh ay lJ;rw[lJ] at al;refine⟨cx,ad,?_⟩;cases r with
     | none=>
      cases ae;simp only at al;cases ax:yU P mz with
      | none=>rw[ax] at al; cases al
      | some z=>
       rw[ax] at al;simp only[as9,Option.some.injEq] at al;exact .inr ⟨rfl,z,rfl,al.symm⟩
     | some vY=>
      obtain⟨pf,rfl,aF,_⟩:=ae;simp only[Option.some.injEq] at al;exact .inl ⟨_,pf,rfl,_,aF,al.symm⟩
   have fin:∀ (dK:List MapEntry) (em:Bool),sX w R h μ es dK->∀ m:Sem Value,m.run P w=(((Instr.checkKey em 10000 cK ia).bind fun _=>(Instr.findKey cK ia dK).bind fun r=>match r with
     | some (_,v)=>pure (if ok=true then .tuple #[v,.bool true] else v)
     | none=>(zeroValue mz).bind fun z=>pure (if ok=true then .tuple #[z,.bool false] else z)) :Sem Value).run P w->∃ v,m.run P w=.ok v w/\aN w R h μ c v:=by
    intro dK em ay m hm;obtain⟨cx,ad,ae⟩:=aaQ dK ay;have Ga:∀ {α j0:Type} (a:Sem α) (f:α->Sem j0),a.bind f=a >>= f:=fun _ _=>rfl
    simp only[Ga,Sem.run_bind,Xe em eh ar,Result.andThen_ok,ad] at hm;rcases ae with ⟨i,v,rfl,xl,aj,rfl⟩ | ⟨rfl,z,aj,rfl⟩
    ·simp only at hm;cases ok
     ·exact⟨v,by simpa using hm,aj⟩
     ·exact⟨.tuple #[v,.bool true],by simpa using hm,aN.X7 aj (.bool _)⟩
    ·obtain⟨v,aF,a6⟩:=YP (w:=w) (R:=R) (h:=h) (μ:=μ) aj;simp only[Sem.run_bind,aF,Result.andThen_ok] at hm;cases ok
     ·exact⟨v,by simpa using hm,a6⟩
     ·exact⟨.tuple #[v,.bool false],by simpa using hm,aN.X7 a6 (.bool _)⟩
   have Ga:∀ {α j0:Type} (a:Sem α) (f:α->Sem j0),a.bind f=a >>= f:=fun _ _=>rfl
   rcases ahF rel C7 hm with ⟨rfl,rfl⟩ | ⟨b,b9,fb,dK,rfl,af,nq,rfl,ma,ay⟩
   ·refine fin [] true ⟨rfl,fun j k v b ai=>by simp at ai⟩ _ ?_;unfold Instr.lookup;simp only[Ga,Sem.run_bind,cr aL,Result.andThen_ok,Sem.run_pure];cases e2:(Instr.checkKey true 10000 cK ia).run P w with
    | halt a b=>simp[e2]
    | ok a bL=>
     simp[e2];cases adQ:(Instr.findKey cK ia []).run P bL with
     | halt a b=>simp
     | ok r w2=>
      simp;cases r with
      | none=>cases (zeroValue mz).run P w2<;>simp
      | some x=>simp
   ·refine fin dK.toList dK.isEmpty ay _ ?_;unfold Instr.lookup;simp only[Ga,Sem.run_bind,cr aL,Result.andThen_ok,Sem.run_pure,Np ma];cases e2:(Instr.checkKey dK.isEmpty 10000 cK ia).run P w with
    | halt a b=>simp[e2]
    | ok a bL=>
     simp[e2];cases adQ:(Instr.findKey cK ia dK.toList).run P bL with
     | halt a b=>simp
     | ok r w2=>
      simp;cases r with
      | none=>cases (zeroValue mz).run P w2<;>simp
      | some x=>simp
 ·cases al
theorem ahe (rel:bI R B w h μ) {t ty:TypeId} {x c:U} {bF:Value} (ah:yi P h t x=some c) (ag:aN w R h μ x bF) :∃ v,(Builtin.len_ #[t] ty #[bF]).run P w=.ok v w/\aN w R h μ c v:=by
 unfold yi at ah;split at ah
 ·rename_i cK mz b aL;split at ah
  ·rename_i es fb af;simp only[Option.some.injEq] at ah; subst ah;cases ag with
   | mp _ b9 ar nq=>
    have iA:=rel.blk b b9 nq;rw[af] at iA;obtain⟨dK,ad,ae,aj⟩:=iA;exact⟨.int .i64 dK.size,by simp[Builtin.len_,cr aL,Np ad,goInt],by rw[ae]; exact .int _ _⟩
  ·cases ah
 ·cases ah
theorem ahD (rel:bI R B w h μ) {t:TypeId} {r:Option Value} (aL:∃ k e,P.underlying t=some (.map k e)) (ay:∀ x,r=some x->∃ k n,x=.int k n) :∃ v w' μ',(Instr.makeMap t r).run P w=.ok v w'/\c5 w h μ w' (h.push (.map [] 0)) μ'/\bI R B w' (h.push (.map [] 0)) μ'/\aN w' R (h.push (.map [] 0)) μ' (.mp h.n) v:=by
 have:=rel.Wv (w':=w.alloc (.map #[] 0)) (.map [] 0) (.map #[] 0) (k:=0) rfl rfl rfl rfl rfl ⟨#[],by show (w.heap.push _)[w.heap.size]? = _; simp,rfl,fun j k v b ai=>by simp at ai⟩;refine⟨.map (some w.heap.size),w.alloc (.map #[] 0),_,?_,this.1,this.2,?_⟩
 ·obtain⟨k,e,aL⟩:=aL;cases r with
  | none=>simp[Instr.makeMap,newObj,Sem.run]
  | some x=>
   obtain⟨k',n,rfl⟩:=ay x rfl;simp[Instr.makeMap,newObj,Sem.run,cr aL,Go.asInt,Go.asIntOf]
 ·exact .mp h.n ⟨w.heap.size,0,0⟩ (by simp[eb,oq]) (by simp)
theorem Vz (rel:bI R B w h μ) {t:TypeId} {m k x:U} {fL ia bF:Value} {h' : aM} (og:ym P h t m k x=some h') (hm:aN w R h μ m fL) (ar:aN w R h μ k ia) (ag:aN w R h μ x bF) :
  ∃ w',(Instr.mapUpdate t fL ia bF).run P w=.ok () w'/\c5 w h μ w' h' μ/\bI R B w' h' μ:=by
 unfold ym at og;split at og
 ·rename_i cK mz b aL;split at og
  ·rename_i es fb af;split at og
   ·cases og
   ·rename_i eh;cases hm with
    | mp _ b9 aep nq=>
     have iA:=rel.blk b b9 nq;rw[af] at iA;obtain⟨dK,ad,ae,aj⟩:=iA;have aK:b9.r<w.heap.size:=by
      rcases aub b9.r w.heap.size with h | h
      ·exact h
      ·rw[auU h] at ad; cases ad
     have ay:sX w R h μ es dK.toList:=⟨by simpa using ae,fun j k v bc ai=>by obtain⟨y,aF,a6⟩:=aj j k v bc ai; exact⟨y,by simpa using aF,a6⟩⟩
     have k8:∀ o:Obj,(setObj b9.r o).run P w=.ok () { w with heap:=w.heap.setIfInBounds b9.r o }:=fun o=>by simp[setObj,Sem.run,ad]
     have T2:∀ (B3:List (U × U × Nat)) (zx:Array MapEntry) (BO:Nat),(∀ {w2:World} {ae:aM},Ext0 w h μ w2 ae μ->zx.size=B3.length/\∀ (j:Nat) (k v:U) (b:Nat),B3[j]? = some (k,v,b)->∃ x:MapEntry,zx[j]? = some x/\aN w2 R ae μ k x.key/\aN w2 R ae μ v x.val/\x.born=b)->
       c5 w h μ { w with heap:=w.heap.setIfInBounds b9.r (.map zx BO) } (h.set b (.map B3 BO)) μ/\bI R B { w with heap:=w.heap.setIfInBounds b9.r (.map zx BO) } (h.set b (.map B3 BO)) μ:=by
      intro B3 zx BO bj;refine rel.Wz (k:=0) af rfl rfl nq rfl rfl rfl (by simp) (fun k ar=>?_) (fun e=>?_)
      ·simp only; rw[aug]; rw[if_neg (fun aR=>ar aR.symm)]
      ·obtain⟨q1,db⟩:=bj e;exact⟨zx,by simp only; rw[aug]; simp[aK],q1,db⟩
     unfold Instr.mapUpdate;simp only[Sem.run_bind,cr aL,Result.andThen_ok,Np ad,Xe false eh ar];cases lJ:kY P cK k es 0 with
     | none=>rw[lJ] at og; cases og
     | some r=>
      rw[lJ] at og;obtain⟨cx,aF,a6⟩:=Xg ar eh ay lJ;rw[aF];cases r with
      | none=>
       cases a6;simp only[Option.some.injEq] at og; subst og;have:=T2 (es++[(k,x,fb)]) (dK.push { key:=ia,val:=bF,born:=fb }) (fb+1) (fun e=>⟨by simp[ae],fun j k' a3 bc ai=>?_⟩)
       ·exact⟨_,by simp only[Result.andThen_ok]; rw[k8],this⟩
       ·rw[Array.getElem?_push];by_cases eO:j<es.length
        ·rw[as2 eO] at ai;obtain⟨y,bu,cL,gM,gE⟩:=aj j k' a3 bc ai;exact⟨y,by rw[if_neg (by omega)]; exact bu,cL.mA e,gM.mA e,gE⟩
        ·rw[atl (by omega)] at ai;have xP:j - es.length=0:=by
          rcases Nat.eq_zero_or_pos (j - es.length) with h | h
          ·exact h
          ·rw[atd (by simp; omega)] at ai; cases ai
         rw[xP] at ai;simp at ai;obtain⟨rfl,rfl,rfl⟩:=ai;exact⟨_,by rw[if_pos (by omega)],ar.mA e,ag.mA e,rfl⟩
      | some vY=>
       obtain⟨i,v⟩:=vY;obtain⟨pf,rfl,bu,_,y,cL,gM,gE⟩:=a6;simp only[Option.some.injEq] at og; subst og;have qO:dK[i]? = some y:=by simpa using cL
       have aQ:y.key=ia:=by rw[Mj eh gE,Mj eh ar]
       have r8:(Instr.keyThatStays (((dK[i]?).map (·.key)).getD ia) ia).run P w=.ok ia w:=by
        rw[qO];simp only[as9,atM,aQ];rw[Mj eh ar];exact akk eh
       have:=T2 (es.modify i fun e=>(k,x,e.2.2)) (dK.modify i fun e=>{ e with key:=ia,val:=bF }) fb (fun e=>⟨by simp[ae],fun j k' a3 bc ai=>?_⟩)
       ·refine⟨_,?_,this⟩;simp only[Result.andThen_ok,Sem.run_bind,r8];rw[k8]
       ·rw[List.getElem?_modify] at ai;rw[Array.getElem?_modify];cases nj:es[j]? with
        | none=>rw[nj] at ai; simp at ai
        | some fm=>
         obtain⟨hf,sT,hx⟩:=fm;rw[nj] at ai;obtain⟨YL,kZ,xx,J3,Co⟩:=aj j hf sT hx nj;rw[kZ];by_cases nk:i=j
         ·simp[nk] at ai;obtain⟨rfl,rfl,rfl⟩:=ai;exact⟨{ YL with key:=ia,val:=bF },by simp[nk],ar.mA e,ag.mA e,Co⟩
         ·simp[nk] at ai;obtain⟨rfl,rfl,rfl⟩:=ai;exact⟨YL,by simp[nk],xx.mA e,J3.mA e,Co⟩
  ·cases og
 ·cases og
theorem ajN (rel:bI R B w h μ) {t:TypeId} {x c:U} {bF:Value} {h' : aM} (ay:HV P h t x=some (c,h')) (ag:aN w R h μ x bF) :
  ∃ v w' μ',(Instr.range t bF).run P w=.ok v w'/\c5 w h μ w' h' μ'/\bI R B w' h' μ'/\aN w' R h' μ' c v:=by
 unfold HV at ay;split at ay
 ·rename_i s aL;simp only[Option.some.injEq,Prod.mk.injEq] at ay;obtain⟨rfl,rfl⟩:=ay;cases ag;rename_i bs;have:=rel.Wv (w':=w.alloc (.stringIter bs 0)) (.iter bs.data.toList 0) (.stringIter bs 0) (k:=1) rfl rfl rfl rfl rfl ⟨bs,rfl,by show (w.heap.push _)[w.heap.size]? = _; simp⟩;refine⟨.pointer (some ⟨w.heap.size,0,none⟩),w.alloc (.stringIter bs 0),_,?_,this.1,this.2,?_⟩
  ·simp[Instr.range,cr aL,newObj,Sem.run]
  ·exact .it h.n ⟨w.heap.size,0,0⟩ (by simp[eb,oq]) (by simp)
 ·cases ay
theorem ahZ (rel:bI R B w h μ) {x c:U} {bF:Value} {h' : aM} {ty:TypeId} (ay:AG h x=some (c,h')) (ag:aN w R h μ x bF) :
  ∃ v w',(Instr.next bF true ty).run P w=.ok v w'/\c5 w h μ w' h' μ/\bI R B w' h' μ/\aN w' R h' μ c v:=by
 unfold AG at ay;split at ay
 ·rename_i b;split at ay
  ·rename_i s pos af;cases ag with
   | it _ b9 aep nq=>
    have iA:=rel.blk b b9 nq;rw[af] at iA;obtain⟨bs,rfl,ad⟩:=iA;have aK:b9.r<w.heap.size:=by
     rcases aub b9.r w.heap.size with h | h
     ·exact h
     ·rw[auU h] at ad; cases ad
    have tz:(⟨bs.data.toList.toArray⟩:ByteArray)=bs:=by cases bs; simp
    have hX:bs.data.toList.length=bs.size:=by rw[auN]; rfl
    rw[tz] at ay;split at ay
    ·rename_i pS;have av:pos<bs.size:=by rw[<-hX]; rw[av3] at pS; exact pS
     simp only[Option.some.injEq,Prod.mk.injEq] at ay;obtain⟨rfl,rfl⟩:=ay;have:=rel.Wz (w':={ w with heap:=w.heap.setIfInBounds b9.r (.stringIter bs (pos+(Utf8.decode bs pos).2)) }) (k:=1) (c':=.iter bs.data.toList (pos+(Utf8.decode bs pos).2)) af rfl rfl nq rfl rfl rfl (by simp)
      (fun k ar=>by simp only; rw[aug]; rw[if_neg (fun aR=>ar aR.symm)]) (fun e=>⟨bs,rfl,by simp only; rw[aug]; simp[aK]⟩)
     refine⟨.tuple #[.bool true,.int .i64 pos,.int .i32 (Utf8.decode bs pos).1],_,?_,this.1,this.2,?_⟩
     ·simp only[Instr.next,Sem.run_bind,Xh ad,Result.andThen_ok,if_pos av];simp[setObj,Sem.run,ad,goInt]
     ·refine .bv _ _ rfl fun j c v ah ap=>?_
      rcases j with _ | _ | _ | j
      ·simp at ah ap; subst ah ap; exact .bool _
      ·simp at ah ap; subst ah ap; exact .int _ _
      ·simp at ah ap; subst ah ap; exact .int _ _
      ·simp at ah
    ·rename_i pS;have av:¬ pos<bs.size:=by
      rw[<-hX]; intro aR;rw[<-av3] at aR; rw[aR] at pS; cases pS
     simp only[Option.some.injEq,Prod.mk.injEq] at ay;obtain⟨rfl,rfl⟩:=ay;refine⟨.tuple #[.bool false],w,?_,.refl _ _ _,rel,?_⟩
     ·simp only[Instr.next,Sem.run_bind,Xh ad,Result.andThen_ok,if_neg av];simp
     ·refine .bv _ _ rfl fun j c v ah ap=>?_
      rcases j with _ | j
      ·simp at ah ap; subst ah ap; exact .bool _
      ·simp at ah
  ·cases ay
 ·cases ay
theorem Xf {blk:Nat}:∀ (n:Nat) (o:Nat) (ns:List Int) (acc:ByteArray),ns.length=n->(∀ j v,(ns.map (Value.int .u8))[j]? = some v->(load (⟨blk,o+j,none⟩:Addr)).run P w=.ok v w)->
  ∃ bs,(Extern.Bytes.loadBytes ⟨blk,o,none⟩ n acc).run P w=.ok bs w/\bs.data.toList=acc.data.toList++ns.map fun n=>UInt8.ofNat n.toNat
 | 0,o,ns,acc,al,_=>⟨acc,by simp[Extern.Bytes.loadBytes],by rw[atI.1 al]; simp⟩
 | n+1,o,[],acc,al,_=>by simp at al
 | n+1,o,x::ns,acc,al,h=>by
  have aI:=h 0 _ rfl;obtain⟨bs,ad,ae⟩:=Xf n (o+1) ns (acc.push (UInt8.ofNat x.toNat)) (by simpa using al) (fun j v ai=>by
   have:=h (j+1) v (by simpa using ai);rw[show o+(j+1)=o+1+j by omega] at this;exact this)
  refine⟨bs,?_,?_⟩
  ·unfold Extern.Bytes.loadBytes;rw[ave] at aI;simp only[Sem.run_bind,aI,Result.andThen_ok,Addr.mq];exact ad
  ·rw[ae]; simp
theorem Pr (rel:bI R B w h μ) {x:U} {bF:Value} {l:List UInt8} (af:rY h x=some l) (ag:aN w R h μ x bF) :∃ bs,(Extern.Bytes.bytesOf bF).run P w=.ok bs w/\bs.data.toList=l:=by
 unfold rY at af;split at af
 ·simp only[Option.some.injEq] at af; subst af;cases ag with
  | str bs=>exact⟨bs,by simp[Extern.Bytes.bytesOf],rfl⟩
 ·rename_i sf;split at af
  ·rename_i cs n eg;obtain⟨bn,bD,vs,cJ,lJ⟩:=vi (P:=P) rel eg ag;have aE:=lJ n (as3 _) w (fun _=>rfl);obtain⟨ns,rfl,rfl⟩:=Jo cs vs l af cJ.1 cJ.2;have kD:ns.length=n:=by have:=cJ.1; simp at this; omega
   have Dn:(ns.map (Value.int .u8)).take (n*1)=ns.map (Value.int .u8) :=as1 (by simp; omega);rw[Dn] at aE;have KE:∃ a len cap,bF=.slice a len cap:=by
    cases ag<;>first | exact⟨_,_,_,rfl⟩ | (simp[contents] at eg; done) | (exact absurd rfl (sf _))
   obtain⟨a,len,cap,rfl⟩:=KE;simp only[Builtin.lenOf,Sem.run_pure,Result.ok.injEq] at bD;obtain⟨rfl,_⟩:=bD;cases a with
   | none=>
    simp only[Builtin.firstCells,Sem.run_pure,Result.ok.injEq] at aE;have jb:ns=[] :=by
     have:=congrArg Array.toList aE.1;simpa using this.symm
    subst jb;exact⟨.empty,by simp[Extern.Bytes.bytesOf],rfl⟩
   | some a=>
    by_cases vC:len=0
    ·subst vC;have:ns=[] :=atI.1 kD;subst this;exact⟨.empty,by simp[Extern.Bytes.bytesOf,Extern.Bytes.loadBytes],rfl⟩
    have aB:∃ blk o,a=⟨blk,o,none⟩:=by
     cases ag with
     | aq=>exact⟨_,_,rfl⟩
     | aX=>exact⟨_,_,rfl⟩
     | fZ=>exact absurd rfl vC
     | iN=>exact absurd rfl vC
     | bad=>simp[contents] at eg
     | ht _ _ _ _ _ _ _ _ ad ae aw=>
      exfalso;simp only[contents] at eg;rcases aw with aw | ⟨n,hA,aw,aK⟩
      ·rw[aw] at eg; cases eg
      ·rw[aw] at eg;simp only at eg;split at eg
       ·rename_i aR; omega
       ·cases eg
    obtain⟨blk,o,rfl⟩:=aB;simp only[Builtin.firstCells,aux] at aE;unfold loadCells at aE;obtain⟨l,ad,ae,aj⟩:=loadCellsFrom_ok _ _ _ _ _ _ aE;have aF:l=ns.map (Value.int .u8) :=by
     have:=congrArg Array.toList ae;simpa using this.symm
    subst aF;obtain⟨bs,a6,bu⟩:=Xf (P:=P) (w:=w) (blk:=blk) len o ns .empty kD (fun j v ai=>by
     have:=aj j v ai;rw[Addr.mq,aue] at this;exact this)
    exact⟨bs,by simpa [Extern.Bytes.bytesOf] using a6,by rw[bu]; rfl⟩
  ·cases af
theorem Rf:∀ (a b:List UInt8),(match (List.range (min a.length b.length)).find? fun i=>a.getD i 0 != b.getD i 0 with
  | some i=>if a.getD i 0<b.getD i 0 then (-1:Int) else 1
  | none=>if a.length<b.length then -1 else if a.length > b.length then 1 else 0)=nV a b
 | [],[]=>by simp[nV]
 | [],_::_=>by simp[nV]
 | _::_,[]=>by simp[nV]
 | x::a,y::b=>by
  have aS:=Rf a b;simp only[atk,Nat.add_min_add_right,List.range_succ_eq_map,avu,List.getD_cons_zero];by_cases lO:x=y
  ·subst lO;simp only[bne_self_eq_false,nV,if_true];rw[<-aS,List.find?_map];have z1:((fun i=>(x::a).getD i 0 != (x::b).getD i 0) ∘ Nat.succ)=fun i=>a.getD i 0 != b.getD i 0:=by
    funext i; simp
   rw[z1];cases aE:(List.range (min a.length b.length)).find? fun i=>a.getD i 0 != b.getD i 0 with
   | none=>simp only[Option.map_none]; congr 1<;>simp
   | some i=>simp
  ·have bV:(x != y)=true:=by simp[lO]
   simp only[bV,nV,if_neg lO,List.getD_cons_zero]
theorem RP {α:Type} {p q:α->Bool}:∀ (l:List α),(∀ x∈l,p x=q x)->l.find? p=l.find? q
 | [],_=>rfl
 | x::l,h=>by
  rw[avu,avu,h x (by simp),RP l (fun y aJ=>h y (by simp[aJ]))]
theorem vc (a b:ByteArray) :Extern.BytealgCompare.cmp a b=nV a.data.toList b.data.toList:=by
 rw[<-Rf];unfold Extern.BytealgCompare.cmp;have aw:∀ (a:ByteArray) (i:Nat),i<a.size->a[i]! = a.data.toList.getD i 0:=fun a i az=>by
  simp only[atf,auk];rw[getElem!_pos a i az];have:i<a.data.size:=az;rw[at5 this]; rfl
 have al:∀ a:ByteArray,a.data.toList.length=a.size:=fun a=>by rw[auN]; rfl
 rw[al,al];have KD:(List.range (min a.size b.size)).find? (fun i=>a[i]! != b[i]!)=(List.range (min a.size b.size)).find? (fun i=>a.data.toList.getD i 0 != b.data.toList.getD i 0) :=by
  apply RP;intro i az;have:=atA.1 az;rw[aw a i (by omega),aw b i (by omega)]
 rw[KD];cases aE:(List.range (min a.size b.size)).find? (fun i=>a.data.toList.getD i 0 != b.data.toList.getD i 0) with
 | none=>rfl
 | some i=>
  have:=atA.1 (avN aE);simp only;rw[aw a i (by omega),aw b i (by omega)]
theorem abP {fn:Func} (aC:fn.name= "internal/bytealg.Compare") (au:fn.origin= ""\/fn.origin= "internal/bytealg.Compare") :Extern.find fn=some Extern.BytealgCompare.compare/\Extern.findNext fn=none:=by
 constructor
 ·unfold Extern.find;simp only[aC];rfl
 ·unfold Extern.findNext;simp only[aC];rcases au with au | au<;>rw[au]<;>rfl
theorem abG (rel:bI R B w h μ) {f:FuncId} {fn:Func} {args:List U} {vs:Array Value} {c:U} (aE:P.funcs[f]? = some fn) (az:Dz fn=true) (ah:BT h args=some c)
  (al:vs.size=args.length) (ap:∀ (j:Nat) (c:U) (v:Value),args[j]? = some c->vs[j]? = some v->aN w R h μ c v) :
  ∃ v,(callFunc f vs).run P w=.ok (.value v) w/\aN w R h μ c v:=by
 unfold Dz at az;simp only[as7,auQ,beq_iff_eq] at az;obtain⟨⟨af,aC⟩,au⟩:=az;unfold BT at ah;split at ah
 ·rename_i x y;split at ah
  ·rename_i a b aB bJ;simp only[Option.some.injEq] at ah; subst ah;simp only[atk,atF] at al;have jb:vs=#[vs[0],vs[1]] :=by
    apply Array.ext
    ·simpa using al
    ·intro i ad ae;rcases (show i=0\/i=1 by simp at ae; omega) with rfl | rfl<;>rfl
   obtain⟨ba,ad,ae⟩:=Pr (P:=P) rel aB (ap 0 x vs[0] rfl (by simp[al]));obtain⟨am3,aj,aF⟩:=Pr (P:=P) rel bJ (ap 1 y vs[1] rfl (by simp[al]));obtain⟨aQ,bx⟩:=abP aC au;refine⟨.int .i64 (nV a b),?_,.int _ _⟩;rw[jb];have bV:fn.name≠ "runtime.NumGoroutine":=by rw[aC]; decide
   have af:=avO.1 af;have Kv:Extern.BytealgCompare.compare #[vs[0],vs[1]]=(do pure (goInt (Extern.BytealgCompare.cmp (<-Extern.Bytes.bytesOf vs[0]) (<-Extern.Bytes.bytesOf vs[1])))) :=rfl;simp[callFunc,aE,bV,af,aQ,bx,mark,Sem.run,Kv,ad,aj,vc,ae,aF,goInt]
  ·cases ah
 ·cases ah
end

section
variable {P:Program} {w:World} {R:Nat->Prop} {B:Nat} {h:aM} {μ:cg}
inductive w0:Value->Value->Prop where
 | bool (a b:Bool) :w0 (.bool a) (.bool b)
 | agg (a b:Array Value) :w0 (.agg a) (.agg b)
 | slice (a:Option Addr) (l c:Nat) (c9:Option Addr) (l' c' : Nat) :w0 (.slice a l c) (.slice c9 l' c')
theorem abx {d:Nat} {t:TypeId} {x y:U} {b:Bool} {bF gb:Value} (am:eC P d t x y=some b) (ag:aN w R h μ x bF) (aJ:aN w R h μ y gb)
  (az:∀ k a k' bc,x=.int k a->y=.int k' bc->False) (ak:∀ a bc,x=.str a->y=.str bc->False) :w0 bF gb:=by
 cases d with
 | zero=>simp[eC] at am
 | succ d=>
  unfold eC at am;split at am
  ·cases ag; cases aJ; exact .bool _ _
  ·exact (az _ _ _ _ rfl rfl).elim
  ·exact (ak _ _ rfl rfl).elim
  ·cases ag; cases aJ; exact .agg _ _
  ·cases ag; cases aJ; exact .agg _ _
  ·cases ag; cases aJ; exact .slice _ _ _ _ _ _
  ·cases ag; cases aJ<;>exact .slice _ _ _ _ _ _
  ·cases ag; cases aJ<;>exact .slice _ _ _ _ _ _
  ·cases ag<;>cases aJ<;>exact .slice _ _ _ _ _ _
  ·cases ag<;>cases aJ<;>exact .slice _ _ _ _ _ _
  ·cases am
theorem abu {op:BinOp} {t:TypeId} {um sF:Operand} {bF gb:Value} (ak:w0 bF gb) (aw:∀ a b,bF=.agg a->gb=.agg b->P.eqGuardType P.depth t=false) :(eqGuard op t um sF bF gb).run P w=.ok () w:=by
 cases ak with
 | bool a b=>cases op<;>rfl
 | agg a b=>exact run_eqGuard_agg w op t um sF a b (aw a b rfl rfl)
 | slice=>cases op<;>rfl
theorem akj {t:TypeId} {bF gb:Value} {b:Bool} (ak:w0 bF gb) (gN:(Op.equalIn 10000 t bF gb).run P w=.ok b w) :
  (binOp .eql t bF gb).run P w=.ok (.bool b) w/\(binOp .neq t bF gb).run P w=.ok (.bool (!b)) w:=by
 have bj:(Op.equal t bF gb).run P w=.ok b w:=gN;cases ak<;>constructor<;>simp[binOp,bj]
theorem abt {op:BinOp} {t:TypeId} {um sF:Operand} {k k' : IntKind} {a b:Int}:(eqGuard op t um sF (.int k a) (.int k' b)).run P w=.ok () w:=by
 cases op<;>rfl
theorem abv {op:BinOp} {t:TypeId} {um sF:Operand} {a b:ByteArray}:(eqGuard op t um sF (.string a) (.string b)).run P w=.ok () w:=by
 cases op<;>rfl
theorem ZM {op:BinOp} {t:TypeId} {um sF:Operand} {x y c:U} {bF gb:Value} (ah:gD P op t x y=some c) (ag:aN w R h μ x bF) (aJ:aN w R h μ y gb) :
  ∃ v,((do eqGuard op t um sF bF gb; binOp op t bF gb:Sem Value)).run P w=.ok v w/\aN w R h μ c v:=by
 unfold gD at ah;split at ah
 ·cases ag; cases aJ;obtain⟨v,ad,ae⟩:=ZN (P:=P) (w:=w) (R:=R) (h:=h) (μ:=μ) (t:=t) ah;exact⟨v,by simp[abt,ad],ae⟩
 ·cases ag; cases aJ;obtain⟨v,ad,ae⟩:=ZO (P:=P) (w:=w) (R:=R) (h:=h) (μ:=μ) (t:=t) ah;exact⟨v,by simp[abv,ad],ae⟩
 ·rename_i xZ sf;have key:∀ b,xp P t x y=true->eC P 10000 t x y=some b->w0 bF gb/\(eqGuard op t um sF bF gb).run P w=.ok () w ∧
    (binOp .eql t bF gb).run P w=.ok (.bool b) w/\(binOp .neq t bF gb).run P w=.ok (.bool (!b)) w:=by
   intro b c0 am;have oV:=abx am ag aJ xZ sf;have aw:∀ a b,bF=.agg a->gb=.agg b->P.eqGuardType P.depth t=false:=by
    rintro a b rfl rfl;cases ag with
    | aG cs _ _ _ _=>
     cases aJ with
     | aG cs' _ _ _ _=>simpa [xp] using c0
     | bad=>simp[eC] at am
    | bad=>cases aJ<;>simp[eC] at am
   have bj:=JM 10000 t x y b bF gb am ag aJ;obtain⟨bU,b8⟩:=akj oV bj;exact⟨oV,abu oV aw,bU,b8⟩
  split at ah
  ·split at ah
   ·rename_i c0;cases am:eC P 10000 t x y with
    | none=>rw[am] at ah; cases ah
    | some b=>
     rw[am] at ah;simp only[as9,Option.some.injEq] at ah; subst ah;obtain⟨_,bU,b8,_⟩:=key b c0 am;exact⟨.bool b,by simp[bU,b8],.bool _⟩
   ·cases ah
  ·split at ah
   ·rename_i c0;cases am:eC P 10000 t x y with
    | none=>rw[am] at ah; cases ah
    | some b=>
     rw[am] at ah;simp only[as9,Option.some.injEq] at ah; subst ah;obtain⟨_,bU,_,b8⟩:=key b c0 am;exact⟨.bool (!b),by simp[bU,b8],.bool _⟩
   ·cases ah
  ·cases ah
theorem alK {op:UnOp} {x c:U} {bF:Value} (ah:qk op x=some c) (ag:aN w R h μ x bF) :∃ v,(Op.unary op bF).run P w=.ok v w/\aN w R h μ c v:=by
 unfold qk at ah;split at ah
 ·simp only[Option.some.injEq] at ah; subst ah;cases ag;exact⟨_,by simp[Op.unary],.bool _⟩
 ·simp only[Option.some.injEq] at ah; subst ah;cases ag;refine⟨_,?_,.int _ _⟩;simp only[Op.unary]; rfl
 ·simp only[Option.some.injEq] at ah; subst ah;cases ag;refine⟨_,?_,.int _ _⟩;simp only[Op.unary]; rfl
 ·cases ah
theorem MO {aA:Operand->U} {dZ:Operand->Value} (c1:∀ x,aN w R h μ (aA x) (dZ x)) (o:Option Operand) :w6 w R h μ (o.map aA) (o.map dZ) :=by
 cases o with
 | none=>trivial
 | some x=>exact c1 x
def Bw (P:Program) (R:Nat->Prop) (B:Nat) (w:World) (h:aM) (μ:cg) (r:Result Next) :pn->Prop
 | .val c h'=>Good R B w h μ r c h'
 | .call f args h'=>h'=h/\∃ vs:Array Value,r=.ok (.enter f vs) w/\vs.size=args.length/\∀ (j:Nat) (c:U) (v:Value),args[j]? = some c->vs[j]? = some v->aN w R h μ c v
theorem Good.mk {r:Result Next} {c:U} {h' : aM} {v:Value} {w' : World} {μ' : cg} (ay:r=.ok (.value v) w') (am:c5 w h μ w' h' μ') (al:bI R B w' h' μ') (ap:aN w' R h' μ' c v) :Good R B w h μ r c h':=
 ⟨v,w',μ',.inl ay,am,al,ap⟩
theorem Z9 (rel:bI R B w h μ) {b:Builtin} {ts:Array TypeId} {ty:TypeId} {consts:Array Bool} {args:List U} {vs:Array Value} {r:pn} (ak:pu P h b ts.toList args=some r)
  (al:vs.size=args.length) (ap:∀ (j:Nat) (c:U) (v:Value),args[j]? = some c->vs[j]? = some v->aN w R h μ c v) :Bw P R B w h μ ((builtin b ts ty consts vs).run P w) r:=by
 have one:∀ x,args=[x]->∃ bF,vs=#[bF]/\aN w R h μ x bF:=by
  intro x ag;subst ag;simp only[atk,atF] at al;refine⟨vs[0],?_,ap 0 x _ rfl (by simp[al])⟩;apply Array.ext
  ·simpa using al
  ·intro i ad ae;have:i=0:=by omega
   subst this; rfl
 have two:∀ x y,args=[x,y]->∃ bF gb,vs=#[bF,gb]/\aN w R h μ x bF/\aN w R h μ y gb:=by
  intro x y ag;subst ag;simp only[atk,atF] at al;refine⟨vs[0],vs[1],?_,ap 0 x _ rfl (by simp[al]),ap 1 y _ rfl (by simp[al])⟩;apply Array.ext
  ·simpa using al
  ·intro i ad ae;rcases (show i=0\/i=1 by simp at ae; omega) with rfl | rfl<;>rfl
 have I8:∀ t,ts.toList=[t]->ts=#[t] :=fun t aV=>by apply Array.toList_inj.1; simpa using aV
 have OX:∀ t u,ts.toList=[t,u]->ts=#[t,u] :=fun t u aV=>by apply Array.toList_inj.1; simpa using aV
 unfold pu at ak;split at ak
 ·rename_i t x rb;obtain⟨bF,rfl,ag⟩:=one x rfl;obtain rfl:=I8 t rb;split at ak
  ·rename_i c ah;simp only[Option.some.injEq] at ak; subst ak;obtain⟨v,ad,ae⟩:=ahe (P:=P) (ty:=ty) rel ah ag;exact Good.mk (by simp[builtin,ad]) (.refl _ _ _) rel ae
  cases ah:yh P t x with
  | none=>rw[ah] at ak; cases ak
  | some c=>
   rw[ah] at ak;simp only[as9,Option.some.injEq] at ak; subst ak;obtain⟨v,ad,ae⟩:=ahf (P:=P) (u:=t) (ty:=ty) ah ag;exact Good.mk (by simp[builtin,ad]) (.refl _ _ _) rel ae
 ·rename_i t u s x rb;obtain⟨mV,bF,rfl,q6,ag⟩:=two s x rfl;obtain rfl:=OX t u rb;split at ak
  ·rename_i k aL;cases ah:BC P h t s x with
   | none=>rw[ah] at ak; cases ak
   | some c=>
    obtain⟨c,h'⟩:=c;rw[ah] at ak;simp only[as9,Option.some.injEq] at ak; subst ak;obtain⟨v,w',μ',ad,ae,aj,aF⟩:=Zz (ty:=ty) rel aL ah q6 ag;exact Good.mk (by simp[builtin,ad]) ae aj aF
  ·cases ak
  ·rename_i sb tN;cases ah:rV P h t s x with
   | none=>rw[ah] at ak; cases ak
   | some c=>
    obtain⟨c,h'⟩:=c;rw[ah] at ak;simp only[as9,Option.some.injEq] at ak; subst ak;have aL:AI P u:=by
     cases bb:P.underlying u with
     | none=>exact absurd bb tN
     | some d=>exact⟨d,bb,fun k ar=>sb k (by rw[bb,ar])⟩
    obtain⟨v,w',μ',ad,ae,aj,aF⟩:=I7 (ty:=ty) rel aL ah q6 ag;exact Good.mk (by simp[builtin,ad]) ae aj aF
 ·rename_i t u d x rb;obtain⟨JF,bF,rfl,bb,ag⟩:=two d x rfl;obtain rfl:=OX t u rb;cases ah:zn P h t d x with
  | none=>rw[ah] at ak; cases ak
  | some c=>
   obtain⟨c,h'⟩:=c;rw[ah] at ak;simp only[as9,Option.some.injEq] at ak; subst ak;obtain⟨v,w',ad,ae,aj,aF⟩:=aaP (u:=u) (ty:=ty) rel ah bb ag;exact Good.mk (by simp[builtin,ad]) ae aj aF
 ·rename_i t x rb;obtain⟨bF,rfl,ag⟩:=one x rfl;obtain rfl:=I8 t rb;cases ah:zc P t x with
  | none=>rw[ah] at ak; cases ak
  | some c=>
   rw[ah] at ak;simp only[as9,Option.some.injEq] at ak; subst ak;obtain⟨v,ad,ae⟩:=aam (P:=P) (ty:=ty) ah ag;exact Good.mk (by simp[builtin,ad]) (.refl _ _ _) rel ae
 ·rename_i t x rb;obtain⟨bF,rfl,ag⟩:=one x rfl;obtain rfl:=I8 t rb;cases ah:zg P h t x with
  | none=>rw[ah] at ak; cases ak
  | some h'=>
   rw[ah] at ak;simp only[as9,Option.some.injEq] at ak; subst ak;obtain⟨w',ad,ae,aj⟩:=aaz (P:=P) (ty:=ty) rel ah ag;exact Good.mk (v:=.tuple #[]) (by simp[builtin,ad]) ae aj (.bv [] #[] rfl (fun _ _ _ aR=>by simp at aR))
 ·rename_i x y;obtain⟨bF,gb,rfl,ag,aJ⟩:=two x y rfl;cases ah:sA x y with
  | none=>rw[ah] at ak; cases ak
  | some c=>
   rw[ah] at ak;simp only[as9,Option.some.injEq] at ak; subst ak;unfold sA at ah;split at ah
   ·split at ah
    ·rename_i ar; subst ar;simp only[Option.some.injEq] at ah; subst ah;cases ag; cases aJ;refine Good.mk (v:=.int _ _) ?_ (.refl _ _ _) rel (.int _ _);simp[builtin,Builtin.min_,Builtin.min2]
    ·cases ah
   ·cases ah
 ·rename_i x y;obtain⟨bF,gb,rfl,ag,aJ⟩:=two x y rfl;cases ah:ug x y with
  | none=>rw[ah] at ak; cases ak
  | some c=>
   rw[ah] at ak;simp only[as9,Option.some.injEq] at ak; subst ak;unfold ug at ah;split at ah
   ·split at ah
    ·rename_i ar; subst ar;simp only[Option.some.injEq] at ah; subst ah;cases ag; cases aJ;refine Good.mk (v:=.int _ _) ?_ (.refl _ _ _) rel (.int _ _);simp[builtin,Builtin.max_,Builtin.max2]
    ·cases ah
   ·cases ah
 ·cases ak
theorem Q0 {f:FuncId} {fn:Func} {vs:Array Value} (aE:P.funcs[f]? = some fn) (af:fn.body.isSome=true) (aC:fn.name≠ "runtime.NumGoroutine") :(callFunc f vs).run P w=.ok (.enter f vs) w:=by
 have bJ:fn.body≠none:=fun aR=>by rw[aR] at af; cases af
 simp[callFunc,aE,aC,bJ]
theorem Mn {aA:Operand->U} {dZ:Operand->Value} (c1:∀ x,aN w R h μ (aA x) (dZ x)) (xs:Array Operand) :
  ∀ (j:Nat) (c:U) (v:Value),(xs.toList.map aA)[j]? = some c->(xs.map dZ)[j]? = some v->aN w R h μ c v:=by
 intro j c v ai ap;rw[as5] at ai;rw[avf] at ap;cases au:xs[j]? with
 | none=>simp[au] at ap
 | some o=>
  simp[au] at ai ap;subst ai ap;exact c1 o
theorem ahJ {t:TypeId} {name:String} {g:FuncId} (hm:yn P t name=some g) (u:Value) :(Go.method (P.types.size+Made.depth) t u name).run P w=.ok (g,u) w:=by
 unfold yn at hm;split at hm
 ·cases hm
 ·cases hm
 ·rename_i Aj LA;split at hm
  ·rename_i i az;split at hm
   ·rename_i m aE;split at hm
    ·rename_i f av iB;cases hm;obtain⟨k,ar⟩:∃ k,P.types.size+Made.depth=k+1:=⟨P.types.size+Made.depth - 1,by unfold Made.depth; omega⟩
     rw[ar];cases bb:P.underlying t with
     | none=>exact absurd bb LA
     | some d=>
      have apn:m.path=#[] :=Array.toList_eq_nil_iff.1 av;cases d<;>first
       | (exfalso; exact Aj _ bb)
       | simp[Go.method,typeInfo,az,aE,av,iB,follow,receiverAt,cr bb,Place.get]
    ·cases hm
   ·cases hm
  ·cases hm
theorem alf {t Og:TypeId} {ok:Bool} {z c x:U} {v:Value} (ax:Im P t=some z) (ah:Bb t z ok x=some c) (ag:aN w R h μ x v) :
  ∃ a3,(Instr.typeAssert v Og t ok).run P w=.ok a3 w/\aN w R h μ c a3:=by
 unfold Im at ax;split at ax
 ·cases ax
 ·cases ax
 ·rename_i Aj LA;cases bb:P.underlying t with
  | none=>exact absurd bb LA
  | some d=>
   obtain⟨zv,ya,lP⟩:=YP (P:=P) (w:=w) (R:=R) (h:=h) (μ:=μ) ax;have two:∀ (a:U) (iw:Value) (q:Bool),aN w R h μ a iw->aN w R h μ (.bv [a,.bool q]) (.tuple #[iw,.bool q]) :=by
    intro a iw q aB;refine .bv _ _ rfl (fun j c v ai ap=>?_)
    match j,ai,ap with
    | 0,ai,ap=>simp at ai ap; subst ai ap; exact aB
    | 1,ai,ap=>simp at ai ap; subst ai ap; exact .bool q
    | j+2,ai,ap=>simp at ai
   cases x<;>simp only[Bb] at ah<;>try (cases ah; done)
   case kj=>
    cases ag;cases ok<;>simp only at ah<;>cases ah;refine⟨.tuple #[zv,.bool false],?_,two _ _ _ lP⟩;cases d<;>first
     | (exfalso; exact Aj _ bb)
     | simp[Instr.typeAssert,cr bb,ya]
   case hq gx tb=>
    cases ag with
    | hq _ _ u aL=>
     split at ah
     ·rename_i aV;have aV:=atz aV;subst aV;cases ok<;>simp only at ah<;>cases ah
      ·refine⟨u,?_,aL⟩;cases d<;>first
        | (exfalso; exact Aj _ bb)
        | simp[Instr.typeAssert,cr bb]
      ·refine⟨.tuple #[u,.bool true],?_,two _ _ _ aL⟩;cases d<;>first
        | (exfalso; exact Aj _ bb)
        | simp[Instr.typeAssert,cr bb]
     ·rename_i aV;have aV:gx≠t:=fun h=>by rw[h,avs] at aV; cases aV
      cases ok<;>simp only at ah<;>cases ah;refine⟨.tuple #[zv,.bool false],?_,two _ _ _ lP⟩;cases d<;>first
       | (exfalso; exact Aj _ bb)
       | simp[Instr.typeAssert,cr bb,ya,aV]
theorem aai (rel:bI R B w h μ) {aA:Operand->U} {dZ:Operand->Value} (c1:∀ x,aN w R h μ (aA x) (dZ x)) {c:Call} {ty:TypeId} {r:pn} (ak:u1 P h aA c=some r) :
  Bw P R B w h μ ((do let d <-resolve dZ c ty; invoke d.target d.args:Sem Next).run P w) r:=by
 unfold u1 at ak;split at ak
 ·rename_i b af;have:=fun consts=>Z9 (P:=P) (b:=b) (ts:=c.argTypes) (ty:=ty) (consts:=consts) (args:=c.args.toList.map aA) (vs:=c.args.map dZ) rel ak (by simp)
   (fun j x v ai ap=>by
    rw[as5] at ai;rw[avf] at ap;cases au:c.args[j]? with
    | none=>simp[au] at ap
    | some o=>
     simp[au] at ai ap;subst ai ap;exact c1 o)
  simp only[resolve,af,Sem.run_bind,Sem.run_pure,Result.andThen_ok,invoke];exact this _
 ·rename_i f aE;split at ak
  ·rename_i g first gn iB
   have ap:=c1 f;rw[iB] at ap;cases vy:dZ f with
   | func aox fs cs=>
    rw[vy] at ap;cases ap with
    | fn _ _ _ _ _ ad ae aj aF=>
     split at ak
     ·rename_i fn z1;have F3:∀ (j:Nat) (x:U) (v:Value),(first++c.args.toList.map aA++gn)[j]? = some x->(fs++c.args.map dZ++cs)[j]? = some v->aN w R h μ x v:=by
       intro j x v ai lN;by_cases pR:j<first.length
       ·rw[atK,as2 pR] at ai;rw[avc,aua (by omega)] at lN;exact aj j x v ai lN
       ·by_cases pS:j<first.length+c.args.size
        ·rw[as2 (by simp; omega),atl (by omega),as5] at ai;rw[aua (by simp; omega),auo (by omega),avf,ad] at lN;cases au:c.args[j - first.length]? with
         | none=>simp[au] at lN
         | some o=>
          simp[au] at ai lN;subst ai lN;exact c1 o
        ·rw[atl (by simp; omega)] at ai;rw[auo (by simp; omega)] at lN;refine aF _ x v ai ?_;simpa [ad] using lN
      split at ak
      ·rename_i jJ;simp only[Option.some.injEq] at ak; subst ak;refine⟨rfl,fs++c.args.map dZ++cs,?_,by simp[ad,ae],F3⟩;simp[resolve,aE,vy,Deferred.ofValue,invoke,Q0 z1 jJ.1 jJ.2]
      ·split at ak
       ·rename_i Kv;cases dn:BT h (first++c.args.toList.map aA++gn) with
        | none=>rw[dn] at ak; cases ak
        | some anG=>
         rw[dn] at ak;simp only[as9,Option.some.injEq] at ak; subst ak;obtain⟨v,aQ,bx⟩:=abG (P:=P) (vs:=fs++c.args.map dZ++cs) rel z1 Kv dn (by simp[ad,ae]) F3;rw[avc] at aQ;exact Good.mk (by simp[resolve,aE,vy,Deferred.ofValue,invoke,aQ]) (.refl _ _ _) rel bx
       ·cases ak
     ·cases ak
   | _=>rw[vy] at ap; cases ap
  ·cases ak
 ·rename_i x name ah;split at ak
  ·rename_i t sT ag;have ap:=c1 x;rw[ag] at ap;split at ak
   ·rename_i g hm;split at ak
    ·rename_i fn z1;split at ak
     ·rename_i jJ;simp only[Option.some.injEq] at ak; subst ak;cases vy:dZ x with
      | iface gx u=>
       rw[vy] at ap;cases ap with
       | hq _ _ _ aL=>
        refine⟨rfl,#[u]++c.args.map dZ,?_,by simp; omega,?_⟩
        ·have aeD:=ahJ (P:=P) (w:=w) hm u;have aI:(#[Value.iface t u]++c.args.map dZ)[0]? = some (Value.iface t u) :=by rw[aua (by simp)]; rfl
         have hX:(c.args.map dZ).extract 0 c.args.size=c.args.map dZ:=by
          apply Array.ext';simp[as1]
         simp[aI,hX,resolve,ah,vy,invoke,callMethod,aeD,Q0 z1 jJ.1 jJ.2]
        ·intro j x v ai lN;cases j with
         | zero=>
          rw[aua (by simp)] at lN;simp at ai lN; subst ai lN; exact aL
         | succ j=>
          rw[atJ] at ai;rw[auo (by simp)] at lN;exact Mn c1 c.args j x v ai (by simpa using lN)
      | _=>rw[vy] at ap; cases ap
     ·cases ak
    ·cases ak
   ·cases ak
  ·cases ak
theorem MU {aA:Operand->U} {dZ:Operand->Value} (c1:∀ x,aN w R h μ (aA x) (dZ x)) (ps:Array (Nat × Operand)) :
  (ps.map fun (i,x)=>(i,dZ x)).size=(ps.toList.map fun p=>(p.1,aA p.2)).length ∧
  ∀ (j:Nat) (p:Nat × U) (ci:Nat × Value),(ps.toList.map fun p=>(p.1,aA p.2))[j]? = some p->(ps.map fun (i,x)=>(i,dZ x))[j]? = some ci->ci.1=p.1/\aN w R h μ p.2 ci.2:=by
 refine⟨by simp,fun j p ci ai fp=>?_⟩;rw[as5] at ai;rw[avf] at fp;cases au:ps[j]? with
 | none=>simp[au] at fp
 | some o=>
  simp[au] at ai fp;subst ai fp;exact⟨rfl,c1 o.2⟩
theorem NH (rel:bI R B w h μ) {aA:Operand->U} {dZ:Operand->Value} (c1:∀ x,aN w R h μ (aA x) (dZ x)) (o:Oper) {r:pn} (ak:cW P h aA o.op=some r) :
  Bw P R B w h μ ((execOp dZ o).run P w) r:=by
 obtain⟨dst,op,type,pos,after,guard⟩:=o;have o1:∀ {x:Option U} {m:Sem Value},(∀ c,x=some c->∃ v,m.run P w=.ok v w/\aN w R h μ c v)->x.map (fun y=>pn.val y h)=some r->
   Bw P R B w h μ ((do pure (.value (<-m)) :Sem Next).run P w) r:=by
  intro x m ag ay;cases fK:x with
  | none=>rw[fK] at ay; cases ay
  | some c=>
   rw[fK] at ay;simp only[as9,Option.some.injEq] at ay; subst ay;obtain⟨v,ad,ae⟩:=ag c fK;exact Good.mk (by simp[ad]) (.refl _ _ _) rel ae
 have HF:∀ {x:Option (U × aM)} {m:Sem Value},(∀ c h',x=some (c,h')->∃ v w' μ',m.run P w=.ok v w'/\c5 w h μ w' h' μ'/\bI R B w' h' μ'/\aN w' R h' μ' c v)->x.map (fun y=>pn.val y.1 y.2)=some r->
   Bw P R B w h μ ((do pure (.value (<-m)) :Sem Next).run P w) r:=by
  intro x m ag ay;cases fK:x with
  | none=>rw[fK] at ay; cases ay
  | some c=>
   obtain⟨c,h'⟩:=c;rw[fK] at ay;simp only[as9,Option.some.injEq] at ay; subst ay;obtain⟨v,w',μ',ad,ae,aj,aF⟩:=ag c h' fK;exact Good.mk (by simp[ad]) ae aj aF
 cases op
 case move x=>
  simp only[cW,Option.some.injEq] at ak; subst ak;exact Good.mk (by simp[execOp]) (.refl _ _ _) rel (c1 x)
 case assign x=>
  simp only[cW,Option.some.injEq] at ak; subst ak;exact Good.mk (by simp[execOp]) (.refl _ _ _) rel (c1 x)
 case pick c a b=>
  simp only[cW] at ak;have kz:=c1 c;cases ah:aA c<;>rw[ah] at ak kz<;>simp only at ak<;>try (cases ak; done)
  simp only[Option.some.injEq] at ak; subst ak;cases ap:dZ c<;>rw[ap] at kz<;>try (cases kz; done)
  cases kz;rename_i t;cases t
  ·exact Good.mk (v:=dZ b) (by simp[execOp,ap,asBool]) (.refl _ _ _) rel (by simpa using c1 b)
  ·exact Good.mk (v:=dZ a) (by simp[execOp,ap,asBool]) (.refl _ _ _) rel (by simpa using c1 a)
 case alloc t=>
  simp only[cW] at ak;cases ax:hY P t with
  | none=>rw[ax] at ak; cases ak
  | some z=>
   rw[ax] at ak;simp only[as9,Option.some.injEq] at ak; subst ak;obtain⟨v,ap,ay⟩:=wZ (P:=P) (w:=w) (R:=R) (h:=h) (μ:=μ) ax;obtain⟨a2,bd,b4⟩:=Fa rel (cs:=z) (vs:=v.cells) t ay.1 ay.2;exact Good.mk (by simp[execOp,Instr.alloc,ap,newVar,newRow]) a2 bd (b4 0)
 case box t x=>
  simp only[cW] at ak;cases ax:(aA x).cells with
  | none=>rw[ax] at ak; cases ak
  | some z=>
   rw[ax] at ak;simp only[as9,Option.some.injEq] at ak; subst ak;obtain⟨bU,b8⟩:=Fs (c1 x) ax;obtain⟨a2,bd,b4⟩:=Fa rel (cs:=z) (vs:=(dZ x).cells) t bU b8;exact Good.mk (by simp[execOp,Instr.box,newVar,newRow]) a2 bd (b4 0)
 case build t parts=>
  obtain⟨bU,b8⟩:=MU c1 parts;exact o1 (fun c ah=>Z7 ah bU b8) ak
 case buildSlice t len parts=>
  obtain⟨bU,b8⟩:=MU c1 parts;exact HF (fun c h' ah=>Z6 rel ah bU b8) ak
 case load t a=>exact o1 (fun c ah=>Vm rel ah (c1 a)) ak
 case store t a x=>
  simp only[cW] at ak;cases b3:wE P h t (aA a) (aA x) with
  | none=>rw[b3] at ak; cases ak
  | some h'=>
   rw[b3] at ak;simp only[as9,Option.some.injEq] at ak; subst ak;obtain⟨w',ad,ae,aj⟩:=XI (P:=P) rel b3 (c1 a) (c1 x);exact⟨undef,w',μ,.inr ⟨by simp[execOp,ad],rfl⟩,ae,aj,.bv [] #[] rfl (fun _ _ _ aR=>by simp at aR)⟩
 case nilCheck x=>
  simp only[cW] at ak;have ap:=c1 x;cases ah:aA x<;>rw[ah] at ak ap<;>simp only at ak<;>try (cases ak; done)
  all_goals
   simp only[Option.some.injEq] at ak; subst ak;cases ag:dZ x<;>rw[ag] at ap<;>try (cases ap; done)
   rename_i y;refine Good.mk (v:=dZ x) ?_ (.refl _ _ _) rel (by rw[ag]; exact ap);cases ap<;>simp[execOp,ag]
 case binOp op t x y asW=>exact o1 (fun c ah=>ZM ah (c1 x) (c1 y)) ak
 case unOp op t x=>exact o1 (fun c ah=>alK ah (c1 x)) ak
 case convert s d x=>
  simp only[cW] at ak;split at ak
  ·rename_i c ah;simp only[Option.some.injEq] at ak; subst ak;obtain⟨v,w',ad,ae,aj,aF⟩:=aac rel ah (c1 x);exact Good.mk (by simp[execOp,ad]) ae aj aF
  ·exact o1 (fun c ah=>aaN rel ah (c1 x)) ak
 case makeInterface t x=>
  simp only[cW] at ak;cases aL:P.underlying t with
  | none=>rw[aL] at ak; cases ak
  | some d=>
   rw[aL] at ak;cases d<;>simp only at ak<;>try (cases ak; done)
   all_goals
    simp only[Option.some.injEq] at ak; subst ak;exact Good.mk (v:=.iface t (dZ x)) (by simp[execOp,Instr.makeInterface,cr aL]) (.refl _ _ _) rel (.hq t _ _ (c1 x))
 case makeFunc fn first gn=>
  cases fn<;>simp only[cW] at ak<;>try (cases ak; done)
  simp only[Option.some.injEq] at ak; subst ak;exact Good.mk (by simp[execOp,Instr.makeFunc]) (.refl _ _ _) rel (.fn _ _ _ _ _ (by simp) (by simp) (Mn c1 first) (Mn c1 gn))
 case makeSlice t l c=>exact HF (fun c' h' ah=>ahE rel ah (c1 l) (c1 c)) ak
 case slice t x cG az cH=>exact o1 (fun c ah=>akP rel ah (c1 x) (MO c1 cG) (MO c1 az) (MO c1 cH)) ak
 case fieldAddr s x f=>exact o1 (fun c ah=>abJ ah (c1 x)) ak
 case field t x f=>
  simp only[cW] at ak;split at ak
  ·rename_i cs fd ag aE;have ap:=c1 x;rw[ag] at ap;exact o1 (fun c ah=>abK aE ah ap) ak
  ·cases ak
 case indexAddr t x i=>exact o1 (fun c ah=>afZ ah (c1 x) (c1 i)) ak
 case index t x i=>exact o1 (fun c ah=>L1 ah (c1 x) (c1 i)) ak
 case extract x i=>
  simp only[cW] at ak;have ap:=c1 x;cases ah:aA x<;>rw[ah] at ak ap<;>simp only at ak<;>try (cases ak; done)
  rename_i vs;cases ag:dZ x<;>rw[ag] at ap<;>try (cases ap; done)
  rename_i arr;cases ap with
  | bv _ _ al LF=>
   refine o1 (m:=Instr.extract (dZ x) i) (fun c ah=>?_) ak;have aK:i<arr.size:=by rw[al]; exact (as0.1 ah).1
   exact⟨arr[i],by simp[Instr.extract,ag,aK],LF i c _ ah (by simp[aK])⟩
 case call c=>exact aai rel c1 ak
 case makeMap t r=>
  simp only[cW] at ak;split at ak
  ·rename_i k e aL ay;simp only[Option.some.injEq] at ak; subst ak;obtain⟨v,w',μ',ad,ae,aj,aF⟩:=ahD (P:=P) (t:=t) (r:=r.map dZ) rel ⟨_,_,aL⟩ (fun x ag=>by
    cases r with
    | none=>cases ag
    | some o=>
     simp only[as9,Option.some.injEq] at ag; subst ag;simp only at ay;cases az:asInt (aA o) with
     | none=>rw[az] at ay; cases ay
     | some n=>
      obtain⟨k,ar⟩:=rW az (c1 o);exact⟨k,n,ar⟩)
   exact Good.mk (by simp[execOp,ad]) ae aj aF
  ·cases ak
 case lookup t m k ok=>exact o1 (fun c ah=>ahm rel ah (c1 m) (c1 k)) ak
 case mapUpdate t m k x=>
  simp only[cW] at ak;cases b3:ym P h t (aA m) (aA k) (aA x) with
  | none=>rw[b3] at ak; cases ak
  | some h'=>
   rw[b3] at ak;simp only[as9,Option.some.injEq] at ak; subst ak;obtain⟨w',ad,ae,aj⟩:=Vz (P:=P) rel b3 (c1 m) (c1 k) (c1 x);exact⟨undef,w',μ,.inr ⟨by simp[execOp,ad],rfl⟩,ae,aj,.bv [] #[] rfl (fun _ _ _ aR=>by simp at aR)⟩
 case insert t m k x=>
  simp only[cW] at ak;cases b3:ym P h t (aA m) (aA k) (aA x) with
  | none=>rw[b3] at ak; cases ak
  | some h'=>
   rw[b3] at ak;simp only[as9,Option.some.injEq] at ak; subst ak;obtain⟨w',ad,ae,aj⟩:=Vz (P:=P) rel b3 (c1 m) (c1 k) (c1 x);exact⟨undef,w',μ,.inr ⟨by simp[execOp,ad],rfl⟩,ae,aj,.bv [] #[] rfl (fun _ _ _ aR=>by simp at aR)⟩
 case range t x=>exact HF (fun c h' ah=>ajN rel ah (c1 x)) ak
 case next it isS=>
  cases isS with
  | false=>simp only[cW] at ak; cases ak
  | true=>exact HF (fun c h' ah=>by obtain⟨v,w',ad,ae,aj,aF⟩:=ahZ (P:=P) (ty:=type) rel ah (c1 it); exact⟨v,w',μ,ad,ae,aj,aF⟩) ak
 case typeAssert x Og t ok=>
  simp only[cW] at ak;split at ak
  ·rename_i z ax;exact o1 (fun c ah=>alf ax ah (c1 x)) ak
  ·cases ak
 all_goals (simp only[cW] at ak; cases ak)
end
inductive rL where
 | normal
 | exit (id:Nat)
 | ret
def rL.out:rL->Exit
 | .normal=>.normal
 | .exit id=>.exit id
 | .ret=>.ret
def kT (ops:Array Oper) (σ:Nat->U) (o:Oper) :Option Bool:=
 match o.guard with
 | none=>some true
 | some (j,Bj)=>match (ops[j]?).bind (·.dst) with
  | none=>some false
  | some d=>match σ d with
   | .bool b=>some (b == Bj)
   | .bad=>none
   | _=>some false
def hG (σ:Nat->U) (dst:Option Tmp) (c:U) :Nat->U:=match dst with | some d=>bw σ d c | none=>σ
def jH (N:Nat) (dst:Option Tmp) :Bool:=match dst with | some d=>decide (d<N) | none=>true
def A3 (P:Program) (h:aM) (σ:Nat->U) :ResultVar->Option U
 | .tmp t=>some (σ t)
 | .cell a t=>sy P h t (σ a)
def wr (P:Program) (h:aM) (σ:Nat->U) :List ResultVar->Option (List U)
 | []=>some []
 | r::nE=>match A3 P h σ r,wr P h σ nE with
  | some v,some vs=>some (v::vs)
  | _,_=>none
def wG:List U->U
 | [v]=>v
 | vs=>.bv vs
def A2 (P:Program) (h:aM) (σ:Nat->U) (fn:Func) :Option U:=(wr P h σ fn.results.toList).map wG
mutual
def U.closed:U->Bool
 | .aG cs=>a5 cs
 | .bv cs=>a5 cs
 | .bK cs _=>a5 cs
 | .aX _ es=>BP es
 | .fn _ a b=>a5 a&&a5 b
 | .hq _ v=>v.closed
 | .ptr .. | .aq .. | .mp _ | .it _=>false
 | _=>true
def a5:List U->Bool
 | []=>true
 | c::cs=>c.closed&&a5 cs
def BP:List (List U)->Bool
 | []=>true
 | c::cs=>a5 c&&BP cs
end
def dV (w:World) (A:Nat->Prop) (c:U) (v:Value) :Prop:=aN w A aM.empty (fun _=>none) c v
structure fO (w w' : World) :Prop extends RowKit.Below w.heap.size w w' where
 drawn:w.drawn<=w'.drawn
def mm (G:Nat->U) (w:World) (R:Nat->Prop) (h:aM) (μ:cg) :Prop:=∀ g,(G g).closed=true/\aN w R h μ (G g) (.pointer (some ⟨g,0,none⟩))
def qq (P:Program) (G:Nat->U) (f:FuncId) (args:List U) (h:aM) (r:U) (h' : aM) :Prop:=
 ∀ (R:Nat->Prop) (B:Nat) (w:World) (μ:cg) (vs:Array Value),bI R B w h μ->mm G w R h μ->vs.size=args.length->
  (∀ (j:Nat) (c:U) (v:Value),args[j]? = some c->vs[j]? = some v->aN w R h μ c v)->
  Calls P f vs w fun e w'=>∃ v μ',e=.returned v/\c5 w h μ w' h' μ'/\bI R B w' h' μ'/\aN w' R h' μ' r v
def bA (P:Program) (G:Nat->U) (f:FuncId) (args:List U) (r:U) :Prop:=
 ∀ (w:World) (A:Nat->Prop) (vs:Array Value),(∀ g,dV w A (G g) (.pointer (some ⟨g,0,none⟩)))->vs.size=args.length->
  (∀ (j:Nat) (c:U) (v:Value),args[j]? = some c->vs[j]? = some v->dV w A c v)->
  Calls P f vs w fun e w'=>∃ v,e=.returned v/\fO w w'/\dV w' (fun k=>A k\/w.heap.size<=k) r v
def gl (P:Program) (G:Nat->U) (f:FuncId) (args:List U) (r:U) :Prop:=
 ∀ (w:World) (A:Nat->Prop) (vs:Array Value),(∀ g,dV w A (G g) (.pointer (some ⟨g,0,none⟩)))->vs.size=args.length->
  (∀ (j:Nat) (c:U) (v:Value),args[j]? = some c->vs[j]? = some v->dV w A c v)->
  Calls P f vs w fun e w'=>∃ v,e=.returned v/\fO w w'/\dV w' (fun k=>w.heap.size<=k) r v
inductive gm (h:aM) :U->U->Prop
 | same (c:U) (ah:c.closed=true) :gm h c c
 | aG (cs cs' : List U) (al:cs'.length=cs.length) (ap:∀ (j:Nat) (c c' : U),cs[j]? = some c->cs'[j]? = some c'->gm h c c') :gm h (.aG cs) (.aG cs')
 | bv (cs cs' : List U) (al:cs'.length=cs.length) (ap:∀ (j:Nat) (c c' : U),cs[j]? = some c->cs'[j]? = some c'->gm h c c') :gm h (.bv cs) (.bv cs')
 | aq (z b off len cap sz:Nat) (cs:List U) (es:List (List U)) (af:h.f b=.cells sz cs) (al:es.length=len) (ax:∀ e∈es,e.length=z)
   (cZ:off+len*z<=cs.length)
   (ap:∀ (i j:Nat) (e:List U) (c c' : U),es[i]? = some e->e[j]? = some c'->cs[off+(i*z+j)]? = some c->gm h c c') :gm h (.aq z b off len cap sz) (.aX z es)
 | rE (z b off cap sz:Nat) :gm h (.aq z b off 0 cap sz) (.aX z [])
 | ptr (b off sz:Nat) (cs cs' : List U) (af:h.f b=.cells sz cs) (al:cs'.length=cs.length) (ap:∀ (j:Nat) (c c' : U),cs[j]? = some c->cs'[j]? = some c'->gm h c c') :gm h (.ptr b off sz) (.bK cs' off)
mutual
def U.flat:U->Bool
 | .aG cs=>l4 cs
 | .bv cs=>l4 cs
 | .hq _ v=>v.flat
 | .bool _ | .int .. | .str _ | .kk | .aH | .iI | .ki | .kj=>true
 | _=>false
def l4:List U->Bool
 | []=>true
 | c::cs=>c.flat&&l4 cs
end
inductive ET where
 | pure | new | gL
def nA (P:Program) (aA:Operand->U) :Op->Option (List U × (Nat->U))
 | .alloc t=>(hY P t).map fun z=>(z,fun b=>.ptr b 0 z.length)
 | .box _ x=>(aA x).cells.map fun cs=>(cs,fun b=>.ptr b 0 cs.length)
 | .buildSlice t len parts=>match iT P t with
  | some e=>match cu P e,hY P e with
   | some z,some zero=>if zero.length=z/\len*z<=16777216 then
     (hQ (fun i=>some (i*z,z)) (dx zero len) (parts.toList.map fun p=>(p.1,aA p.2))).map fun cs=>(cs,fun b=>.aq z b 0 len len (len*z))
    else none
   | _,_=>none
  | none=>none
 | .makeSlice t l c=>match iT P t,asInt (aA l),asInt (aA c) with
  | some e,some l,some c=>match cu P e,kv P e,hY P e with
   | some z,some by_,some zero=>
    if zero.length=z/\0<=l/\l<=c/\c<9223372036854775808/\by_*c<=ct then
     some (dx zero c.toNat,fun b=>.aq z b 0 l.toNat c.toNat (c.toNat*z))
    else none
   | _,_,_=>none
  | _,_,_=>none
 | _=>none
def jZ (ops:Array Oper) (t:Nat) :Option Nat:=(List.range ops.size).find? fun i=>match ops[i]? with | some o=>o.dst == some t | none=>false
def nb (ops:Array Oper) (pre:Nat->Nat->Bool) (val:Nat->U) (σ:Nat->U) (i:Nat) (o:Oper) :Nat->U:=fun t=>
 if (o.looksAt ops).contains t then
  match jZ ops t with
  | some j=>if pre i j then val j else σ t
  | none=>σ t
 else .bad
structure sW (ops:Array Oper) (pre:Nat->Nat->Bool) :Prop where
 B0:∀ (i:Nat) (o:Oper) (e:Edge),ops[i]? = some o->e∈o.after->Region.binds .any e=true->e.on<i
 chain:∀ (i:Nat) (o:Oper) (j:Nat),ops[i]? = some o->pre i j=true->∃ e∈o.after,Region.binds .any e=true/\(e.on=j\/pre e.on j=true)
 one:∀ (i:Nat) (o:Oper) (t:Tmp),ops[i]? = some o->o.dst=some t->jZ ops t=some i
 acc:∀ (i:Nat) (o:Oper) (t:Tmp) (j:Nat),ops[i]? = some o->t∈o.looksAt ops->jZ ops t=some j->pre i j=true\/pre j i=true\/j=i
 ast:Region.noSelect ops=true
def wm (h:aM) (l:List (List U)) :aM:=l.foldl (fun h cs=>h.push (.cells cs.length cs)) h
def oA (h h' : aM) :Prop:=∃ l,h'=wm h l
theorem Wx:∀ (l:List (List U)) (h:aM),(wm h l).n=h.n+l.length
 | [],h=>rfl
 | c::l,h=>by
  have:=Wx l (h.push (.cells c.length c));simp only[wm,List.foldl_cons,List.length_cons] at this ⊢;rw[this];simp only[eb,ft]; omega
theorem Wy:∀ (l:List (List U)) (h:aM) (b:Nat),b<h.n->(wm h l).f b=h.f b
 | [],h,b,_=>rfl
 | c::l,h,b,af=>by
  have:=Wy l (h.push (.cells c.length c)) b (by simp only[eb,ft]; omega);simp only[wm,List.foldl_cons] at this ⊢;rw[this];simp only[eb,ft];exact b1 _ _ _ _ (by omega)
theorem Ww:∀ (l:List (List U)) (h:aM),(∀ b,h.n<=b->h.f b=.none)->∀ b,(wm h l).n<=b->(wm h l).f b=.none
 | [],h,aE=>aE
 | c::l,h,aE=>by
  refine Ww l (h.push (.cells c.length c)) (fun b af=>?_);simp only[eb,ft] at af ⊢;rw[b1 _ _ _ _ (by omega)];exact aE b (by omega)
theorem oA.n {h h' : aM} (g:oA h h') :h.n<=h'.n:=by obtain⟨l,rfl⟩:=g; rw[Wx]; omega
theorem oA.same {h h' : aM} (g:oA h h') (b:Nat) (af:b<h.n) :h'.f b=h.f b:=by obtain⟨l,rfl⟩:=g; exact Wy l h b af
theorem oA.fresh {h h' : aM} (g:oA h h') (aE:∀ b,h.n<=b->h.f b=.none) :∀ b,h'.n<=b->h'.f b=.none:=by obtain⟨l,rfl⟩:=g; exact Ww l h aE
inductive m0 (h ae:aM) :U->U->Prop
 | same (c:U) :m0 h ae c c
 | aG (cs cs' : List U) (al:cs'.length=cs.length) (ap:∀ (j:Nat) (c c' : U),cs[j]? = some c->cs'[j]? = some c'->m0 h ae c c') :m0 h ae (.aG cs) (.aG cs')
 | aq (z b off len cap sz:Nat) (cs:List U) (es:List (List U)) (af:h.f b=.cells sz cs) (bb:ae.f b=.dead) (al:es.length=len) (ax:∀ e∈es,e.length=z)
   (cZ:off+len*z<=cs.length)
   (ap:∀ (i j:Nat) (e:List U) (c c' : U),es[i]? = some e->e[j]? = some c'->cs[off+(i*z+j)]? = some c->m0 h ae c c') :m0 h ae (.aq z b off len cap sz) (.aX z es)
 | rE (z b off cap sz:Nat) :m0 h ae (.aq z b off 0 cap sz) (.aX z [])
structure m2 (h ae:aM) :Prop where
 n:ae.n=h.n
 blk:∀ b,ae.f b=h.f b\/∃ sz cs,h.f b=.cells sz cs/\(ae.f b=.dead\/∃ hA,ae.f b=.cells sz hA/\hA.length=cs.length/\∀ (j:Nat) (c b5:U),cs[j]? = some c->hA[j]? = some b5->m0 h ae c b5)
inductive J where
 | code (c:Code) (N:Nat) (σ:Nat->U) (h:aM) (e:rL) (bE:Nat->U) (h' : aM)
 | ops (all:Array Oper) (l:List Oper) (N:Nat) (σ:Nat->U) (h:aM) (bE:Nat->U) (h' : aM)
 | op (op:Op) (σ:Nat->U) (h:aM) (v:U) (h' : aM)
 | call (f:FuncId) (args:List U) (h:aM) (r:U) (h' : aM)
def zy (pre:Nat->Nat->Bool) (m:Nat) (ak:Nat->Nat) (i k:Nat) :Prop:=k<=m/\(∀ q,q<m->pre i (ak q)=true->q<k)/\∀ q,q<m->pre (ak q) i=true->k<=q
inductive dv (P:Program) (G:Nat->U) :J->Prop where
 | skip (N σ h) :dv P G (.code .skip N σ h .normal σ h)
 | label (l N σ h) :dv P G (.code (.label l) N σ h .normal σ h)
 | ret (N σ h) :dv P G (.code .ret N σ h .ret σ h)
 | exit (id N σ h) :dv P G (.code (.exit id) N σ h (.exit id) σ h)
 | Xq {a b N σ h hZ ad e bE h'}:dv P G (.code a N σ h .normal hZ ad)->dv P G (.code b N hZ ad e bE h')->dv P G (.code (.seq a b) N σ h e bE h')
 | Nv {a b N σ h e bE h'}:dv P G (.code a N σ h e bE h')->e≠.normal->dv P G (.code (.seq a b) N σ h e bE h')
 | cond {c x y N σ h b e bE h'}:cS G σ c=.bool b->dv P G (.code (if b then x else y) N σ h e bE h')->dv P G (.code (.cond c x y) N σ h e bE h')
 | Fg {id c N σ h e bE h'}:dv P G (.code c N σ h e bE h')->e≠.exit id->dv P G (.code (.block id c) N σ h e bE h')
 | Pg {id c N σ h bE h'}:dv P G (.code c N σ h (.exit id) bE h')->dv P G (.code (.block id c) N σ h .normal bE h')
 | AD {c N σ h hZ ad e bE h'}:dv P G (.code c N σ h .normal hZ ad)->dv P G (.code (.loop c) N hZ ad e bE h')->dv P G (.code (.loop c) N σ h e bE h')
 | Mp {c N σ h e bE h'}:dv P G (.code c N σ h e bE h')->e≠.normal->dv P G (.code (.loop c) N σ h e bE h')
 | scope {c N σ h e bE h'}:dv P G (.code c N σ h e bE h')->dv P G (.code (.scope c) N σ h e bE h')
 | region {id ops N σ h bE h'}:dv P G (.ops ops ops.toList N σ h bE h')->dv P G (.code (.region id ops false) N σ h .normal bE h')
 | draw {id ops N σ h bE h'} (pre:Nat->Nat->Bool) (val:Nat->U) (W:Nat->Bool) (cls:Nat->ET) (m:Nat) (ak:Nat->Nat) (fP rO:Nat->aM) (gU:Nat->Nat) (cells:Nat->List U)
   (hJ:sW ops pre)
   (pO:∀ (i:Nat) (o:Oper),ops[i]? = some o->jH N o.dst=true)
   (aI:oA h (fP 0)) (hm:h'=fP m) (Ha:bE=fun t=>match jZ ops t with | some i=>val i | none=>σ t)
   (xJ:∀ (i:Nat) (o:Oper),ops[i]? = some o->W i=true->cls i=.gL->∃ q,q<m/\ak q=i)
   (CQ:∀ q,q<m->∃ o,ops[ak q]? = some o/\W (ak q)=true/\cls (ak q)=.gL)
   (kE:∀ q dQ,q<m->dQ<m->q<dQ->pre (ak dQ) (ak q)=true)
   (qU:∀ q dQ,q<m->dQ<m->ak q=ak dQ->q=dQ)
   (sj:∀ (i:Nat) (o:Oper),ops[i]? = some o->kT ops (nb ops pre val σ i o) o=some (W i))
   (G3:∀ (i:Nat) (o:Oper),ops[i]? = some o->W i=false->val i=gy)
   (GU:∀ (i:Nat) (o:Oper),ops[i]? = some o->W i=true->cls i=.pure->∀ k,zy pre m ak i k->cW P (fP k) (cS G (nb ops pre val σ i o)) o.op=some (.val (val i) (fP k)))
   (xY:∀ (i:Nat) (o:Oper),ops[i]? = some o->W i=true->cls i=.new->∃ mk,nA P (cS G (nb ops pre val σ i o)) o.op=some (cells i,mk)/\val i=mk (gU i)/\h.n<=gU i ∧
    ∀ k,zy pre m ak i k->(fP k).f (gU i)=.cells (cells i).length (cells i))
   (F8:∀ (i j:Nat) (o dt:Oper),ops[i]? = some o->ops[j]? = some dt->W i=true->W j=true->cls i=.new->cls j=.new->gU i=gU j->i=j)
   (F9:∀ (i:Nat) (o:Oper) (q:Nat),ops[i]? = some o->W i=true->cls i=.new->q<m->gU i<(fP q).n\/(rO q).n<=gU i)
   (pP:∀ q,q<m->oA (rO q) (fP (q+1)))
   (vw:∀ (q:Nat) (o:Oper),q<m->ops[ak q]? = some o->dv P G (.op o.op (nb ops pre val σ (ak q) o) (fP q) (val (ak q)) (rO q))) :
   dv P G (.code (.region id ops true) N σ h .normal bE h')
 | VW {all N σ h}:dv P G (.ops all [] N σ h σ h)
 | VY {all o l N σ h bE h'}:kT all σ o=some false->jH N o.dst=true->dv P G (.ops all l N (hG σ o.dst gy) h bE h')->dv P G (.ops all (o::l) N σ h bE h')
 | VX {all o l N σ h v ad bE h'}:kT all σ o=some true->jH N o.dst=true->dv P G (.op o.op σ h v ad)->dv P G (.ops all l N (hG σ o.dst v) ad bE h')->dv P G (.ops all (o::l) N σ h bE h')
 | HI {op σ h v h'}:cW P h (cS G σ) op=some (.val v h')->dv P G (.op op σ h v h')
 | AM {op σ h f args ad v h'}:cW P h (cS G σ) op=some (.call f args ad)->dv P G (.call f args ad v h')->dv P G (.op op σ h v h')
 | Iv {op σ h v h' b2 ae}:dv P G (.op op σ h v h')->m2 h' ae->m0 h' ae v b2->dv P G (.op op σ h b2 ae)
 | inline {f fn c args h e bE h' r}:P.funcs[f]? = some fn->fn.body=some c->
   dv P G (.code c (args.length+(fn.ntmps - args.length)) (fun t=>args.getD t gy) h e bE h')->(e=.normal\/e=.ret)->A2 P h' bE fn=some r->dv P G (.call f args h r h')
 | pure {f args h r}:bA P G f args r->a5 args=true->dv P G (.call f args h r h)
 | MZ {f args iS h r}:bA P G f iS r->iS.length=args.length->(∀ (j:Nat) (c c' : U),args[j]? = some c->iS[j]? = some c'->gm h c c')->r.flat=true->dv P G (.call f args h r h)
 | ext {f args h r h'}:qq P G f args h r h'->dv P G (.call f args h r h')
 | M0 {f args iS h r}:gl P G f iS r->iS.length=args.length->(∀ (j:Nat) (c c' : U),args[j]? = some c->iS[j]? = some c'->gm h c c')->dv P G (.call f args h r h)
section
variable {P:Program} {G:Nat->U}
structure iy (N:Nat) (w:World) (R:Nat->Prop) (h:aM) (μ:cg) (σ:Nat->U) (a:Act) :Prop where
 size:a.tmps.size=N
 defers:a.defers=[]
 val:∀ t,aN w R h μ (σ t) (a.tmps.getD t undef)
theorem mm.ext {w w' : World} {R:Nat->Prop} {h h' : aM} {μ μ' : cg} (g:mm G w R h μ) (e:c5 w h μ w' h' μ') :mm G w' R h' μ':=fun i=>⟨(g i).1,(g i).2.ext e⟩
theorem iy.ext {N:Nat} {w w' : World} {R:Nat->Prop} {h h' : aM} {μ μ' : cg} {σ:Nat->U} {a:Act} (s:iy N w R h μ σ a) (e:c5 w h μ w' h' μ') :iy N w' R h' μ' σ a:=
 ⟨s.size,s.defers,fun t=>(s.val t).ext e⟩
theorem iy.cS {N:Nat} {w:World} {R:Nat->Prop} {h:aM} {μ:cg} {σ:Nat->U} {a:Act} (s:iy N w R h μ σ a) (g:mm G w R h μ) (x:Operand) :aN w R h μ (cS G σ x) (a.eval x) :=by
 cases x with
 | tmp t=>exact s.val t
 | const v=>exact aN.we v
 | global i=>exact (g i).2
 | func f=>exact .fn f [] [] #[] #[] rfl rfl (fun _ _ _ aR=>by simp at aR) (fun _ _ _ aR=>by simp at aR)
theorem EG {w:World} {R:Nat->Prop} {h:aM} {μ:cg}:aN w R h μ gy undef:=.bv [] #[] rfl (fun _ _ _ aR=>by simp at aR)
theorem iy.put {N:Nat} {w:World} {R:Nat->Prop} {h:aM} {μ:cg} {σ:Nat->U} {a:Act} (s:iy N w R h μ σ a) {dst:Option Tmp} (bb:jH N dst=true) {c:U} {v:Value} (ap:aN w R h μ c v) :
  iy N w R h μ (hG σ dst c) (a.put dst v) :=by
 cases dst with
 | none=>exact s
 | some d=>
  have aK:d<a.tmps.size:=by rw[s.size]; simpa [jH] using bb
  refine⟨by simp[Act.put,s.size],s.defers,fun t=>?_⟩;simp only[hG,Act.put];by_cases aV:t=d
  ·subst aV;rw[hB];simp[aK];exact ap
  ·rw[b1 _ _ _ _ aV];have:=s.val t;simpa [Array.getElem?_setIfInBounds_ne (Ne.symm aV)] using this
theorem N7 {w:World} {R:Nat->Prop} {h:aM} {μ:cg} {ops:Array Oper} {σ:Nat->U} {tmps:Array Value} {o:Oper} {b:Bool} (aW:kT ops σ o=some b)
  (ap:∀ d,(∃ j Bj,o.guard=some (j,Bj)/\(ops[j]?).bind (·.dst)=some d)->aN w R h μ (σ d) (tmps.getD d undef)) :Region.wanted o (yielded ops tmps)=b:=by
 unfold kT at aW;unfold Region.wanted;cases aw:o.guard with
 | none=>rw[aw] at aW; simpa using aW
 | some fS=>
  obtain⟨j,Bj⟩:=fS;rw[aw] at aW;simp only at aW ⊢;unfold yielded;cases bb:(ops[j]?).bind (·.dst) with
  | none=>
   rw[bb] at aW;simp only[Option.some.injEq] at aW;subst aW;simp
  | some d=>
   rw[bb] at aW;have Am:=ap d ⟨j,Bj,aw,bb⟩;simp only[Option.bind_some] at aW ⊢;cases aV:tmps[d]? with
   | none=>
    have aL:tmps.getD d undef=undef:=by simp[Array.getD_eq_getD_getElem?,aV]
    rw[aL] at Am;cases ah:σ d<;>rw[ah] at aW Am<;>simp at aW<;>try (subst aW; simp)
    all_goals cases Am
   | some v=>
    have aL:tmps.getD d undef=v:=by simp[Array.getD_eq_getD_getElem?,aV]
    rw[aL] at Am;cases ah:σ d<;>rw[ah] at aW Am<;>simp at aW
    all_goals (cases Am<;>(subst aW; simp))
def ox (P:Program) (n:Nat) (c:Code) (Q:Exit->Act->World->Prop) (a:Act) (w:World) :Prop:=
 match c with
 | .loop c'=>Code.rounds P c' Q n a w
 | c=>c.wp P Q a w
theorem ox.wp {n:Nat} {c:Code} {Q:Exit->Act->World->Prop} {a:Act} {w:World} (h:ox P n c Q a w) :c.wp P Q a w:=by
 cases c<;>first | exact wp_loop_rounds n h | exact h
def w8 (P:Program) (G:Nat->U) :J->Prop
 | .code c N σ h e bE h'=>∃ n,∀ (R:Nat->Prop) (B:Nat) (w:World) (μ:cg) (a:Act) (Q:Exit->Act->World->Prop),bI R B w h μ->mm G w R h μ->iy N w R h μ σ a->
   (∀ c9 w' μ',c5 w h μ w' h' μ'->bI R B w' h' μ'->iy N w' R h' μ' bE c9->Q e.out c9 w')->ox P n c Q a w
 | .ops all l N σ h bE h'=>∀ (R:Nat->Prop) (B:Nat) (w:World) (μ:cg) (a:Act) (Q:Exit->Act->World->Prop),bI R B w h μ->mm G w R h μ->iy N w R h μ σ a->
   (∀ c9 w' μ',c5 w h μ w' h' μ'->bI R B w' h' μ'->iy N w' R h' μ' bE c9->Q .normal c9 w')->wpList P all Q l a w
 | .op op σ h v h'=>∀ (R:Nat->Prop) (B:Nat) (w:World) (μ:cg) (a:Act) (o:Oper) (K:Act->World->Prop) (Q:Exit->Act->World->Prop),o.op=op->bI R B w h μ->mm G w R h μ->
   (∀ x,aN w R h μ (cS G σ x) (a.eval x))->(∀ a3 w' μ',c5 w h μ w' h' μ'->bI R B w' h' μ'->aN w' R h' μ' v a3->K (a.put o.dst a3) w')->o.wp P a w K Q
 | .call f args h r h'=>qq P G f args h r h'
theorem W8 {N:Nat} {w:World} {R:Nat->Prop} {B:Nat} {h:aM} {μ:cg} {σ:Nat->U} {a:Act} (rel:bI R B w h μ) (s:iy N w R h μ σ a) {fn:Func} {r:U} (ay:A2 P h σ fn=some r) :
  ∃ v,(results fn a.tmps).run P w=.ok v w/\aN w R h μ r v:=by
 have one:∀ (x:ResultVar) (c:U),A3 P h σ x=some c->∃ v,(∀ F:ResultVar->Sem Value,(∀ t,F (.tmp t)=pure (a.tmps.getD t undef))->(∀ p t,F (.cell p t)=(do loadVar t (<-asAddr (a.tmps.getD p undef))))->(F x).run P w=.ok v w)/\aN w R h μ c v:=by
  intro x c ag;cases x with
  | tmp t=>
   simp only[A3,Option.some.injEq] at ag; subst ag;exact⟨_,fun F ad _=>by rw[ad]; rfl,s.val t⟩
  | cell p t=>
   simp only[A3] at ag;obtain⟨v,ad,ae⟩:=Vm (P:=P) rel ag (s.val p);refine⟨v,fun F _ tq=>?_,ae⟩;rw[tq];cases av:a.tmps.getD p undef with
   | pointer E7=>
    cases E7 with
    | none=>rw[av] at ad; simp[Instr.loadAt,Instr.sureAddr] at ad
    | some E7=>rw[av] at ad; simpa [Instr.loadAt,Instr.sureAddr,asAddr,av] using ad
   | _=>rw[av] at ad; simp[Instr.loadAt,Instr.sureAddr] at ad
 have all:∀ (l:List ResultVar) (cs:List U),wr P h σ l=some cs->∃ vs:List Value,(∀ F:ResultVar->Sem Value,(∀ t,F (.tmp t)=pure (a.tmps.getD t undef))->(∀ p t,F (.cell p t)=(do loadVar t (<-asAddr (a.tmps.getD p undef))))->(l.mapM F).run P w=.ok vs w) ∧
   vs.length=cs.length/\∀ (j:Nat) (c:U) (v:Value),cs[j]? = some c->vs[j]? = some v->aN w R h μ c v:=by
  intro l
  induction l with
  | nil=>intro cs ah; simp only[wr,Option.some.injEq] at ah; subst ah; exact⟨[],fun F _ _=>by simp,rfl,fun _ _ _ aR=>by simp at aR⟩
  | cons x l aS=>
   intro cs ah;unfold wr at ah;split at ah
   ·rename_i c cs' ag al;simp only[Option.some.injEq] at ah; subst ah;obtain⟨v,ad,ae⟩:=one x c ag;obtain⟨vs,aj,aF,a6⟩:=aS cs' al;refine⟨v::vs,fun F bU b8=>by simp only[List.mapM_cons,Sem.run_bind,ad F bU b8,Result.andThen_ok,aj F bU b8,Sem.run_pure],by simp[aF],fun j c' a3 ai ap=>?_⟩;cases j with
    | zero=>simp at ai ap; subst ai ap; exact ae
    | succ j=>exact a6 j c' a3 (by simpa using ai) (by simpa using ap)
   ·cases ah
 unfold A2 at ay;cases al:wr P h σ fn.results.toList with
 | none=>rw[al] at ay; cases ay
 | some cs=>
  rw[al] at ay;simp only[Option.map_some,Option.some.injEq] at ay; subst ay;obtain⟨vs,ad,ae,aj⟩:=all _ _ al;have fJ:(results fn a.tmps).run P w=.ok (if aR:vs.toArray.size=1 then vs.toArray[0] else .tuple vs.toArray) w:=by
   unfold results;rw[Array.mapM_eq_mapM_toList];simp only[Sem.run_bind,Sem.run_map];rw[ad _ (fun _=>rfl) (fun _ _=>rfl)];simp
  refine⟨_,fJ,?_⟩
  match cs,vs,ae,aj with
  | [],[],_,_=>exact .bv [] #[] rfl (fun _ _ _ aR=>by simp at aR)
  | [c],[v],_,aj=>exact aj 0 c v rfl rfl
  | c::c'::cs,v::a3::vs,ae,aj=>
   simp only[List.size_toArray,List.length_cons];rw[dif_neg (by omega)];exact .bv _ _ (by simpa using ae) (fun j x y ai aJ=>aj j x y ai (by simpa using aJ))
theorem rZ {w:World} {R:Nat->Prop} {h:aM} {μ:cg} {c:U} {v:Value} (ap:aN w R h μ c v) :c.closed=true->dV w (fun k=>R k/\¬ Own h μ k) c v:=by
 have al:∀ (cs:List U),a5 cs=true->∀ (j:Nat) (c:U),cs[j]? = some c->c.closed=true:=by
  intro cs
  induction cs with
  | nil=>intro _ j c ai; simp at ai
  | cons x cs aS=>
   intro ah j c ai;simp only[a5,Bool.and_eq_true] at ah;cases j with
   | zero=>simp at ai; subst ai; exact ah.1
   | succ j=>exact aS ah.2 j c (by simpa using ai)
 have C4:∀ (es:List (List U)),BP es=true->∀ (i:Nat) (e:List U),es[i]? = some e->a5 e=true:=by
  intro es
  induction es with
  | nil=>intro _ j c ai; simp at ai
  | cons x cs aS=>
   intro ah j c ai;simp only[BP,Bool.and_eq_true] at ah;cases j with
   | zero=>simp at ai; subst ai; exact ah.1
   | succ j=>exact aS ah.2 j c (by simpa using ai)
 have cell:∀ b o v,Cell w R h μ b o v->Cell w (fun k=>R k/\¬ Own h μ k) aM.empty (fun _=>none) b o v:=fun b o v ah=>
  ⟨ah.here,ah.one,⟨ah.ro,ah.free⟩,fun ⟨b,m,ad,ae,aj⟩=>by cases ae⟩
 unfold dV
 induction ap with
 | bool b=>exact fun _=>.bool b
 | int k n=>exact fun _=>.int k n
 | str bs=>exact fun _=>.str bs
 | kk=>exact fun _=>.kk
 | aH=>exact fun _=>.aH
 | iI=>exact fun _=>.iI
 | ki=>exact fun _=>.ki
 | kj=>exact fun _=>.kj
 | aG cs vs bD ad ap aS=>exact fun ah=>.aG cs vs bD ad fun j c v ai fQ=>aS j c v ai fQ (al cs (by simpa [U.closed] using ah) j c ai)
 | bv cs vs bD ap aS=>exact fun ah=>.bv cs vs bD fun j c v ai fQ=>aS j c v ai fQ (al cs (by simpa [U.closed] using ah) j c ai)
 | ptr=>exact fun ah=>by simp[U.closed] at ah
 | mT=>exact fun ah=>by simp[U.closed] at ah
 | bK cs off blk o ez ah ap aS=>exact fun ew=>.bK cs off blk o ez (fun j ai=>cell _ _ _ (ah j ai)) fun j c ai=>aS j c ai (al cs (by simpa [U.closed] using ew) j c ai)
 | aq=>exact fun ah=>by simp[U.closed] at ah
 | ht=>exact fun ah=>by simp[U.closed] at ah
 | iN=>exact fun ah=>by simp[U.closed] at ah
 | aX z es blk off cap ez dj ax ah ap aS=>exact fun ew=>.aX z es blk off cap ez dj ax (fun i j az ai=>cell _ _ _ (ah i j az ai)) fun i e am j c ai=>aS i e am j c ai (al e (C4 es (by simpa [U.closed] using ew) i e am) j c ai)
 | fZ z a cap=>exact fun _=>.fZ z a cap
 | fn f first gn fs cs aE ah ad ae et nv=>
  intro ew;simp only[U.closed,Bool.and_eq_true] at ew;exact .fn f first gn fs cs aE ah (fun j c v ai fQ=>et j c v ai fQ (al _ ew.1 j c ai)) fun j c v ai fQ=>nv j c v ai fQ (al _ ew.2 j c ai)
 | mp=>exact fun ah=>by simp[U.closed] at ah
 | it=>exact fun ah=>by simp[U.closed] at ah
 | hq t c v ap aS=>exact fun ew=>.hq t c v (aS (by simpa [U.closed] using ew))
 | hj l=>exact fun _=>.hj l
 | bad v=>exact fun _=>.bad v
theorem zh {cs:List U} (ah:a5 cs=true) :∀ (j:Nat) (c:U),cs[j]? = some c->c.closed=true:=by
 induction cs with
 | nil=>intro j c ai; simp at ai
 | cons x cs aS=>
  intro j c ai;simp only[a5,Bool.and_eq_true] at ah;cases j with
  | zero=>simp at ai; subst ai; exact ah.1
  | succ j=>exact aS ah.2 j c (by simpa using ai)
theorem dV.up {w:World} {A:Nat->Prop} {R:Nat->Prop} {h:aM} {μ:cg} {c:U} {v:Value} (ap:dV w A c v) (dm:∀ k,k<w.heap.size->A k->R k/\¬ Own h μ k) :aN w R h μ c v:=by
 have cell:∀ b o v,Cell w A aM.empty (fun _=>none) b o v->Cell w R h μ b o v:=fun b o v ah=>
  have af:b<w.heap.size:=World.block_lt_of_cell? _ _ ah.here
  ⟨ah.here,ah.one,(dm b af ah.ro).1,(dm b af ah.ro).2⟩
 unfold dV at ap
 induction ap with
 | bool b=>exact .bool b
 | int k n=>exact .int k n
 | str bs=>exact .str bs
 | kk=>exact .kk
 | aH=>exact .aH
 | iI=>exact .iI
 | ki=>exact .ki
 | kj=>exact .kj
 | aG cs vs bD ad ap aS=>exact .aG cs vs bD ad aS
 | bv cs vs bD ap aS=>exact .bv cs vs bD aS
 | ptr b off sz cs m af hm=>cases hm
 | mT b off sz a aw=>rcases aw with aw | ⟨n,cs,aw,_⟩<;>cases aw
 | bK cs off blk o ez ah ap aS=>exact .bK cs off blk o ez (fun j ai=>cell _ _ _ (ah j ai)) aS
 | aq z b off len cap sz cap' cs m af hm=>cases hm
 | ht z b off len cap sz cap' a al ah aw=>rcases aw with aw | ⟨n,cs,aw,_⟩<;>cases aw
 | iN z b off sz a cs m af hm=>cases hm
 | aX z es blk off cap ez dj ax ah ap aS=>exact .aX z es blk off cap ez dj ax (fun i j az ai=>cell _ _ _ (ah i j az ai)) aS
 | fZ z a cap=>exact .fZ z a cap
 | fn f first gn fs cs aE ah ad ae et nv=>exact .fn f first gn fs cs aE ah et nv
 | mp b m af hm=>cases hm
 | it b m af hm=>cases hm
 | hq t c v ap aS=>exact .hq t c v aS
 | hj l=>exact .hj l
 | bad v=>exact .bad v
theorem V5 {R:Nat->Prop} {B:Nat} {w:World} {h:aM} {μ:cg} (rel:bI R B w h μ) {k:Nat} (au:Own h μ k) :k<w.heap.size:=by
 obtain⟨b,m,ad,ae,rfl⟩:=au;exact rel.lt ad ae
theorem wq {R:Nat->Prop} {B:Nat} {w w' : World} {h:aM} {μ:cg} (rel:bI R B w h μ) (af:fO w w') :c5 w h μ w' h μ/\bI R B w' h μ:=by
 have e:c5 w h μ w' h μ:=⟨⟨af.os,af.tape,af.output,af.size,fun k ar _=>af.block k ar,fun _ au=>.inl au,fun b sz cs m ad ae=>.inl ⟨cs,ad,ae⟩,fun _ _ aw=>aw,fun _ _ _ ad ae=>⟨ad,ae⟩,Nat.le_refl _,af.drawn⟩,fun _ _ hm=>hm⟩
 refine⟨e,fun b m hm=>?_,rel.inj,rel.base,rel.fresh,rel.up,Nat.le_trans rel.size af.size,rel.lf⟩;cases al:live (h.f b) with
 | false=>cases ah:h.f b<;>first | trivial | (rw[ah] at al; cases al)
 | true=>exact (rel.blk b m hm).ext e.toExt0 (af.block _ (rel.lt al hm))
theorem WS {w:World} {R:Nat->Prop} {B:Nat} {h:aM} {μ:cg} (rel:bI R B w h μ) :∀ {c c' : U},gm h c c'->∀ {v:Value},aN w R h μ c v->dV w R c' v:=by
 intro c c' ay;have oS:∀ {b sz:Nat} {cs:List U} {m:M},h.f b=.cells sz cs->μ b=some m->∃ f:Nat->Value,∀ (j:Nat) (c:U),cs[j]? = some c->Cell w R aM.empty (fun _=>none) m.r (m.s+j) (f j)/\aN w R h μ c (f j) :=by
  intro b sz cs m af hm;have iA:=rel.blk b m hm;rw[af] at iA;obtain⟨cY,eM,arr,t,eU,aW,aB,aE,mE⟩:=iA;have jI:R m.r:=rel.up _ (rel.base b m (by rw[af]; rfl) hm);refine⟨fun j=>(arr[m.s+j]?).getD undef,fun j c ai=>?_⟩;obtain⟨v,ad,ae,aj⟩:=mE _ _ ai;refine⟨⟨?_,by simp only[ad,Option.getD_some]; exact ae,jI,fun ⟨b,m,ad,ae,aj⟩=>by cases ae⟩,by simp only[ad,Option.getD_some]; exact aj⟩;simp only[World.cell?,aW,ad,Option.getD_some,Option.isSome_none];rfl
 induction ay with
 | same c ah=>
  intro v ap;exact (dV.up (rZ ap ah) fun k _ ar=>⟨ar.1,fun ⟨b,m,ad,ae,aj⟩=>by cases ae⟩:aN w R aM.empty (fun _=>none) _ v)
 | aG cs cs' al h aS=>
  intro v ap;cases ap with
  | aG _ vs hD ad ap=>
   refine .aG cs' vs (by omega) ad (fun j c' v ai fQ=>?_);have aK:j<cs.length:=by rw[<-al]; exact (List.getElem?_eq_some_iff.1 ai).1
   exact aS j cs[j] c' (List.getElem?_eq_getElem aK) ai (ap j cs[j] v (List.getElem?_eq_getElem aK) fQ)
 | bv cs cs' al h aS=>
  intro v ap;cases ap with
  | bv _ vs hD ap=>
   refine .bv cs' vs (by omega) (fun j c' v ai fQ=>?_);have aK:j<cs.length:=by rw[<-al]; exact (List.getElem?_eq_some_iff.1 ai).1
   exact aS j cs[j] c' (List.getElem?_eq_getElem aK) ai (ap j cs[j] v (List.getElem?_eq_getElem aK) fQ)
 | rE z b off cap sz=>
  intro v ap;cases ap with
  | aq _ _ _ _ _ _ cap' cs m af hm al au ah=>exact .fZ z _ cap'
  | ht _ _ _ _ _ _ cap' a al ah aw=>exact .fZ z _ cap'
  | iN _ _ _ _ a cs m af hm=>exact .fZ z a 0
 | ptr b off sz cs cs' af al h aS=>
  intro v ap;cases ap with
  | mT _ _ _ a aw=>
   exfalso;rcases aw with aw | ⟨n,hA,aw,aK⟩
   ·rw[af] at aw; cases aw
   ·rw[af] at aw; cases aw; omega
  | ptr _ _ _ hA m dX hm=>
   obtain⟨f,aE⟩:=oS af hm;refine .bK cs' off m.r m.s f (fun j ai=>?_) (fun j c' ai=>?_)
   ·exact (aE j cs[j] (List.getElem?_eq_getElem (by omega))).1
   ·have aK:j<cs.length:=by rw[<-al]; exact (List.getElem?_eq_some_iff.1 ai).1
    exact aS j cs[j] c' (List.getElem?_eq_getElem aK) ai (aE j cs[j] (List.getElem?_eq_getElem aK)).2
 | aq z b off len cap sz cs es af al ax cZ h aS=>
  intro v ap;cases ap with
  | iN _ _ _ _ a hA m dX kB=>
   obtain rfl:=List.length_eq_zero_iff.1 al;exact .fZ z a 0
  | ht _ _ _ _ _ _ cap' a al ah aw=>
   exfalso;rcases aw with aw | ⟨n,hA,aw,aK⟩
   ·rw[af] at aw; cases aw
   ·rw[af] at aw; cases aw; omega
  | aq _ _ _ _ _ _ cap' hA m dX hm iX au ah=>
   have di:len<=cap':=by rcases ah with ⟨_,h⟩ | ⟨_,h,_⟩<;>omega
   obtain⟨f,aE⟩:=oS af hm;subst al;have aK:∀ i j,i<es.length->j<z->off+(i*z+j)<cs.length:=by
    intro i j az ai;have:i*z+z<=es.length*z:=by rw[<-Nat.succ_mul]; exact Nat.mul_le_mul_right _ az
    omega
   refine .aX z es m.r (m.s+off) cap' (fun i j=>f (off+(i*z+j))) di ax (fun i j az ai=>?_) (fun i e am j c' ai=>?_)
   ·have:=(aE _ _ (List.getElem?_eq_getElem (aK i j az ai))).1;rw[<-Nat.add_assoc] at this;exact this
   ·have az:i<es.length:=(List.getElem?_eq_some_iff.1 am).1;have mH:j<z:=by rw[<-ax e (List.mem_of_getElem? am)]; exact (List.getElem?_eq_some_iff.1 ai).1
    exact aS i j e _ c' am ai (List.getElem?_eq_getElem (aK i j az mH)) (aE _ _ (List.getElem?_eq_getElem (aK i j az mH))).2
theorem FH:∀ {cs:List U},l4 cs=true->∀ (j:Nat) (c:U),cs[j]? = some c->c.flat=true:=by
 intro cs
 induction cs with
 | nil=>intro _ j c h; simp at h
 | cons x cs aS=>
  intro ah j c ai;simp only[l4,Bool.and_eq_true] at ah;cases j with
  | zero=>simp at ai; subst ai; exact ah.1
  | succ j=>exact aS ah.2 j c (by simpa using ai)
theorem RU {w w' : World} {A R:Nat->Prop} {h h' : aM} {μ μ' : cg} {c:U} {v:Value} (ap:aN w A h μ c v) (aE:c.flat=true) :aN w' R h' μ' c v:=by
 induction ap with
 | bool b=>exact .bool b
 | int k n=>exact .int k n
 | str bs=>exact .str bs
 | kk=>exact .kk
 | aH=>exact .aH
 | iI=>exact .iI
 | ki=>exact .ki
 | kj=>exact .kj
 | aG cs vs bD ad ap aS=>exact .aG cs vs bD ad (fun j c v ai fQ=>aS j c v ai fQ (FH (by simpa only [U.flat] using aE) j c ai))
 | bv cs vs bD ap aS=>exact .bv cs vs bD (fun j c v ai fQ=>aS j c v ai fQ (FH (by simpa only [U.flat] using aE) j c ai))
 | hq t c v ap aS=>exact .hq t c v (aS (by simpa only [U.flat] using aE))
 | hj l=>exact .hj l
 | _=>simp[U.flat] at aE
theorem ai7 {f:FuncId} {args iS:List U} {r:U} {h:aM} (av:bA P G f iS r) (bD:iS.length=args.length) (mM:∀ (j:Nat) (c c' : U),args[j]? = some c->iS[j]? = some c'->gm h c c')
  (eW:r.flat=true) :w8 P G (.call f args h r h) :=by
 intro R B w μ vs rel g al ap;refine (av w R vs (fun i=>?_) (by omega) (fun j c' v ai fQ=>?_)).mono ?_
 ·exact (dV.up (rZ (g i).2 (g i).1) fun k _ ar=>⟨ar.1,fun ⟨b,m,ad,ae,aj⟩=>by cases ae⟩:aN w R aM.empty (fun _=>none) _ _)
 ·have aK:j<args.length:=by rw[<-bD]; exact (List.getElem?_eq_some_iff.1 ai).1
  exact WS rel (mM j args[j] c' (List.getElem?_eq_getElem aK) ai) (ap j args[j] v (List.getElem?_eq_getElem aK) fQ)
 ·rintro e w' ⟨v,rfl,af,ay⟩;obtain⟨bU,b8⟩:=wq rel af;exact⟨v,μ,rfl,bU,b8,RU ay eW⟩
theorem ai8 {f:FuncId} {args iS:List U} {r:U} {h:aM} (av:gl P G f iS r) (bD:iS.length=args.length) (mM:∀ (j:Nat) (c c' : U),args[j]? = some c->iS[j]? = some c'->gm h c c') :w8 P G (.call f args h r h) :=by
 intro R B w μ vs rel g al ap;refine (av w R vs (fun i=>?_) (by omega) (fun j c' v ai fQ=>?_)).mono ?_
 ·exact (dV.up (rZ (g i).2 (g i).1) fun k _ ar=>⟨ar.1,fun ⟨b,m,ad,ae,aj⟩=>by cases ae⟩:aN w R aM.empty (fun _=>none) _ _)
 ·have aK:j<args.length:=by rw[<-bD]; exact (List.getElem?_eq_some_iff.1 ai).1
  exact WS rel (mM j args[j] c' (List.getElem?_eq_getElem aK) ai) (ap j args[j] v (List.getElem?_eq_getElem aK) fQ)
 ·rintro e w' ⟨v,rfl,af,ay⟩;obtain⟨bU,b8⟩:=wq rel af;exact⟨v,μ,rfl,bU,b8,ay.up fun k ar dm=>⟨rel.up k (Nat.le_trans rel.size dm),fun au=>by have:=V5 rel au; omega⟩⟩
theorem gl.ED {f:FuncId} {args:List U} {r:U} (av:gl P G f args r) :bA P G f args r:=fun w A vs aw al ap=>
 (av w A vs aw al ap).mono fun e w' ⟨v,ad,ae,aj⟩=>⟨v,ad,ae,(dV.up aj fun k _ ar=>⟨.inr ar,fun ⟨b,m,ad,ae,aj⟩=>by cases ae⟩:aN w' _ aM.empty (fun _=>none) _ _)⟩
theorem ai9 {f:FuncId} {args:List U} {r:U} {h:aM} (av:bA P G f args r) (ah:a5 args=true) :w8 P G (.call f args h r h) :=by
 intro R B w μ vs rel g al ap;refine (av w (fun k=>R k/\¬ Own h μ k) vs (fun i=>?_) al (fun j c v ai fQ=>rZ (ap j c v ai fQ) (zh ah j c ai))).mono ?_
 ·exact rZ (g i).2 (g i).1
 ·rintro e w' ⟨v,rfl,af,ay⟩;obtain⟨bU,b8⟩:=wq rel af;refine⟨v,μ,rfl,bU,b8,ay.up (fun k ar dm=>?_)⟩;rcases dm with dm | dm
  ·exact dm
  ·exact⟨rel.up k (Nat.le_trans rel.size dm),fun au=>by have:=V5 rel au; omega⟩
end

section
variable {P:Program} {G:Nat->U}
theorem ahX {w:World} {R:Nat->Prop} {h:aM} {μ:cg} {aA:Operand->U} {dZ:Operand->Value} (c1:∀ x,aN w R h μ (aA x) (dZ x)) (o:Oper) {cs:List U} {mk:Nat->U} (aC:nA P aA o.op=some (cs,mk)) :
  ∃ v arr t,(execOp dZ o).run P w=.ok (.value v) (w.alloc (.cells arr t))/\ls w R h μ cs arr ∧
   ∀ (w' : World) (s4:Nat->Prop) (h' : aM) (μ' : cg) (b:Nat),h'.f b=.cells cs.length cs->μ' b=some ⟨w.heap.size,0,arr.size⟩->aN w' s4 h' μ' (mk b) v:=by
 obtain⟨dst,op,type,pos,after,guard⟩:=o;cases op<;>simp only[nA] at aC<;>try (cases aC; done)
 case alloc t=>
  cases ax:hY P t with
  | none=>rw[ax] at aC; cases aC
  | some z=>
   rw[ax] at aC;simp only[Option.map_some,Option.some.injEq,Prod.mk.injEq] at aC;obtain⟨rfl,rfl⟩:=aC;obtain⟨v,ap,ay⟩:=wZ (P:=P) (w:=w) (R:=R) (h:=h) (μ:=μ) ax;refine⟨.pointer (some ⟨w.heap.size,0,none⟩),v.cells,t,by simp[execOp,Instr.alloc,ap,newVar,newRow],ay,fun w' s4 h' μ' b af hm=>?_⟩;have:=aN.ptr (w:=w') (R:=s4) (h:=h') (μ:=μ') b 0 z.length z _ af hm;simpa using this
 case box t x=>
  cases ax:(aA x).cells with
  | none=>rw[ax] at aC; cases aC
  | some z=>
   rw[ax] at aC;simp only[Option.map_some,Option.some.injEq,Prod.mk.injEq] at aC;obtain⟨rfl,rfl⟩:=aC;obtain⟨bU,b8⟩:=Fs (c1 x) ax;refine⟨.pointer (some ⟨w.heap.size,0,none⟩),(dZ x).cells,t,by simp[execOp,Instr.box,newVar,newRow],⟨bU,b8⟩,fun w' s4 h' μ' b af hm=>?_⟩;have:=aN.ptr (w:=w') (R:=s4) (h:=h') (μ:=μ') b 0 z.length z _ af hm;simpa using this
 case buildSlice t len parts=>
  cases am:iT P t with
  | none=>rw[am] at aC; cases aC
  | some e=>
  rw[am] at aC;simp only at aC;cases ax:cu P e with
  | none=>rw[ax] at aC; cases aC
  | some z=>
  cases jd:hY P e with
  | none=>rw[ax,jd] at aC; cases aC
  | some zero=>
  rw[ax,jd] at aC;simp only at aC;split at aC
  ·rename_i jJ;cases aE:hQ (fun i=>some (i*z,z)) (dx zero len) (parts.toList.map fun p=>(p.1,aA p.2)) with
   | none=>rw[aE] at aC; cases aC
   | some cs'=>
    rw[aE] at aC;simp only[Option.map_some,Option.some.injEq,Prod.mk.injEq] at aC;obtain⟨rfl,rfl⟩:=aC;obtain⟨bU,b8⟩:=MU c1 parts;obtain⟨ew,arr,fJ,ae⟩:=Pm am ax jd jJ.1 jJ.2 aE bU b8;refine⟨.slice (some ⟨w.heap.size,0,none⟩) len len,arr,e,by simp[execOp,fJ],ae,fun w' s4 h' μ' b af hm=>?_⟩;rw[ew] at af;have:=aN.aq (w:=w') (R:=s4) (h:=h') (μ:=μ') z b 0 len len (len*z) len _ _ af hm (Nat.le_refl _) (by omega) (.inr ⟨by omega,Nat.le_refl _,by simp only; rw[ae.1,ew]; omega⟩);simpa using this
  ·cases aC
 case makeSlice t l c=>
  split at aC
  ·rename_i e li hO am cT fW;obtain⟨kl,pT⟩:=rW cT (c1 l);obtain⟨kc,kz⟩:=rW fW (c1 c);cases ax:cu P e with
   | none=>rw[ax] at aC; cases aC
   | some z=>
   cases dI:kv P e with
   | none=>rw[ax,dI] at aC; cases aC
   | some by_=>
   cases jd:hY P e with
   | none=>rw[ax,dI,jd] at aC; cases aC
   | some zero=>
   rw[ax,dI,jd] at aC;simp only at aC;split at aC
   ·rename_i jJ;obtain⟨h9,aI,pQ,Gf,dy⟩:=jJ;simp only[Option.some.injEq,Prod.mk.injEq] at aC;obtain⟨rfl,rfl⟩:=aC;obtain⟨bD,arr,fJ,cJ⟩:=Vw (w:=w) (R:=R) (h:=h) (μ:=μ) (kl:=kl) (kc:=kc) am ax dI jd h9 aI pQ Gf dy;refine⟨.slice (some ⟨w.heap.size,0,none⟩) li.toNat hO.toNat,arr,e,by simp[execOp,pT,kz,fJ],cJ,fun w' s4 h' μ' b af hm=>?_⟩;rw[bD] at af;have:=aN.aq (w:=w') (R:=s4) (h:=h') (μ:=μ') z b 0 li.toNat hO.toNat (hO.toNat*z) hO.toNat _ _ af hm (by omega) (by omega) (.inr ⟨by omega,Nat.le_refl _,by simp only; rw[cJ.1,bD]; omega⟩);simpa using this
   ·cases aC
  ·cases aC
theorem oA.rel {R:Nat->Prop} {B:Nat} {w:World} {h h' : aM} {μ:cg} (g:oA h h') (rel:bI R B w h μ) :c5 w h μ w h' μ/\bI R B w h' μ:=by
 have aK:∀ b m,μ b=some m->b<h.n:=fun b m hm=>rel.m4 hm
 have e:c5 w h μ w h' μ:=by
  refine⟨⟨rfl,rfl,rfl,Nat.le_refl _,fun _ _ _=>rfl,?_,?_,?_,?_,g.n,Nat.le_refl _⟩,fun _ _ hm=>hm⟩
  ·rintro k ⟨b,m,al,hm,rfl⟩;rw[g.same b (aK b m hm)] at al;exact .inl ⟨b,m,al,hm,rfl⟩
  ·intro b sz cs m af hm;exact .inl ⟨cs,by rw[g.same b (aK b m hm)]; exact af,hm⟩
  ·rintro b sz aw;have af:b<h.n:=by
    rcases Nat.lt_or_ge b h.n with ad | ad
    ·exact ad
    ·have:=rel.fresh b ad;rcases aw with aw | ⟨n,cs,aw,_⟩<;>rw[this] at aw<;>cases aw
   rcases aw with aw | ⟨n,cs,aw,kA⟩
   ·exact .inl (by rw[g.same b af]; exact aw)
   ·exact .inr ⟨n,cs,by rw[g.same b af]; exact aw,kA⟩
  ·intro b k m af hm;exact⟨by rw[g.same b (aK b m hm)]; exact af,hm⟩
 refine⟨e,fun b m hm=>?_,fun b bc m ch al dj hm bR ay=>?_,fun b m al hm=>?_,g.fresh rel.fresh,rel.up,rel.size,fun b af=>rel.lf b (Nat.le_trans g.n af)⟩
 ·rw[g.same b (aK b m hm)];exact (rel.blk b m hm).ext e.toExt0 rfl
 ·rw[g.same b (aK b m hm)] at al;rw[g.same bc (aK bc ch bR)] at dj;exact rel.inj b bc m ch al dj hm bR ay
 ·rw[g.same b (aK b m hm)] at al;exact rel.base b m al hm
theorem X2 {K:Act->World->Prop} {Q:Exit->Act->World->Prop} {e:rL} {a:Act} {w:World} (am:e≠.normal) (h:Q e.out a w) :Exit.then K Q e.out a w:=by
 cases e with
 | normal=>exact absurd rfl am
 | exit id=>exact h
 | ret=>exact h
theorem ZT {id:Nat} {Q:Exit->Act->World->Prop} {e:rL} {a:Act} {w:World} (am:e≠.exit id) (h:Q e.out a w) :Exit.inBlock id Q e.out a w:=by
 cases e with
 | normal=>exact h
 | exit sp=>
  have:sp≠id:=fun aR=>am (by rw[aR])
  simpa [Exit.inBlock,rL.out,this] using h
 | ret=>exact h
def On (P:Program) (G:Nat->U) :Prop:=
 ∀ {id:Nat} {ops:Array Oper} {N:Nat} {σ:Nat->U} {h:aM} {bE:Nat->U} {h' : aM} (pre:Nat->Nat->Bool) (val:Nat->U) (W:Nat->Bool) (cls:Nat->ET) (m:Nat) (ak:Nat->Nat) (fP rO:Nat->aM) (gU:Nat->Nat) (cells:Nat->List U),
  sW ops pre->
  (∀ (i:Nat) (o:Oper),ops[i]? = some o->jH N o.dst=true)->
  oA h (fP 0)->h'=fP m->(bE=fun t=>match jZ ops t with | some i=>val i | none=>σ t)->
  (∀ (i:Nat) (o:Oper),ops[i]? = some o->W i=true->cls i=.gL->∃ q,q<m/\ak q=i)->
  (∀ q,q<m->∃ o,ops[ak q]? = some o/\W (ak q)=true/\cls (ak q)=.gL)->
  (∀ q dQ,q<m->dQ<m->q<dQ->pre (ak dQ) (ak q)=true)->
  (∀ q dQ,q<m->dQ<m->ak q=ak dQ->q=dQ)->
  (∀ (i:Nat) (o:Oper),ops[i]? = some o->kT ops (nb ops pre val σ i o) o=some (W i))->
  (∀ (i:Nat) (o:Oper),ops[i]? = some o->W i=false->val i=gy)->
  (∀ (i:Nat) (o:Oper),ops[i]? = some o->W i=true->cls i=.pure->∀ k,zy pre m ak i k->cW P (fP k) (cS G (nb ops pre val σ i o)) o.op=some (.val (val i) (fP k)))->
  (∀ (i:Nat) (o:Oper),ops[i]? = some o->W i=true->cls i=.new->∃ mk,nA P (cS G (nb ops pre val σ i o)) o.op=some (cells i,mk)/\val i=mk (gU i)/\h.n<=gU i ∧
    ∀ k,zy pre m ak i k->(fP k).f (gU i)=.cells (cells i).length (cells i))->
  (∀ (i j:Nat) (o dt:Oper),ops[i]? = some o->ops[j]? = some dt->W i=true->W j=true->cls i=.new->cls j=.new->gU i=gU j->i=j)->
  (∀ (i:Nat) (o:Oper) (q:Nat),ops[i]? = some o->W i=true->cls i=.new->q<m->gU i<(fP q).n\/(rO q).n<=gU i)->
  (∀ q,q<m->oA (rO q) (fP (q+1)))->
  (∀ (q:Nat) (o:Oper),q<m->ops[ak q]? = some o->w8 P G (.op o.op (nb ops pre val σ (ak q) o) (fP q) (val (ak q)) (rO q)))->
  w8 P G (.code (.region id ops true) N σ h .normal bE h')
theorem m2.ext {h ae:aM} (k:m2 h ae) (w:World) (μ:cg) :c5 w h μ w ae μ:=by
 refine⟨⟨rfl,rfl,rfl,Nat.le_refl _,fun _ _ _=>rfl,?_,?_,?_,?_,Nat.le_of_eq k.n.symm,Nat.le_refl _⟩,fun _ _ hm=>hm⟩
 ·rintro r ⟨b,m,al,hm,rfl⟩;refine .inl ⟨b,m,?_,hm,rfl⟩;rcases k.blk b with am | ⟨sz,cs,ah,_⟩
  ·rw[<-am]; exact al
  ·rw[ah]; rfl
 ·intro b sz cs m af hm;rcases k.blk b with am | ⟨sz',cs',ah,bb | ⟨hA,Cp,_⟩⟩
  ·exact .inl ⟨cs,by rw[am]; exact af,hm⟩
  ·exact .inr (.inl bb)
  ·rw[af] at ah; cases ah; exact .inl ⟨hA,Cp,hm⟩
 ·rintro b sz (af | ⟨n,cs,af,aK⟩)
  ·rcases k.blk b with am | ⟨sz',cs',ah,_⟩
   ·exact .inl (am.trans af)
   ·rw[af] at ah; cases ah
  ·rcases k.blk b with am | ⟨sz',cs',ah,bb | ⟨hA,Cp,_⟩⟩
   ·exact .inr ⟨n,cs,by rw[am]; exact af,aK⟩
   ·exact .inl bb
   ·rw[af] at ah; cases ah; exact .inr ⟨n,hA,Cp,aK⟩
 ·intro b mQ m af hm;rcases k.blk b with am | ⟨sz',cs',ah,_⟩
  ·exact⟨by rw[am]; exact af,hm⟩
  ·rw[ah] at af; cases af
theorem m2.live {h ae:aM} (k:m2 h ae) {b:Nat} (al:live (ae.f b)=true) :live (h.f b)=true:=by
 rcases k.blk b with am | ⟨sz,cs,ah,_⟩
 ·rw[<-am]; exact al
 ·rw[ah]; rfl
theorem m2.pe {R:Nat->Prop} {B:Nat} {w:World} {h ae:aM} {μ:cg} (rel:bI R B w h μ) (k:m2 h ae) :∀ {c b5:U},m0 h ae c b5->∀ {v:Value},aN w R h μ c v->aN w R ae μ b5 v:=by
 intro c b5 ay
 induction ay with
 | same c=>intro v ap; exact ap.ext (k.ext w μ)
 | aG cs cs' al h aS=>
  intro v ap;cases ap with
  | aG _ vs hD ad ap=>
   refine .aG cs' vs (by omega) ad (fun j c' v ai fQ=>?_);have aK:j<cs.length:=by rw[<-al]; exact (List.getElem?_eq_some_iff.1 ai).1
   exact aS j cs[j] c' (List.getElem?_eq_getElem aK) ai (ap j cs[j] v (List.getElem?_eq_getElem aK) fQ)
 | rE z b off cap sz=>
  intro v ap;cases ap with
  | aq _ _ _ _ _ _ cap' cs m af hm al au ah=>exact .fZ z _ cap'
  | ht _ _ _ _ _ _ cap' a al ah aw=>exact .fZ z _ cap'
  | iN _ _ _ _ a cs m af hm=>exact .fZ z a 0
 | aq z b off len cap sz cs es af bb al ax cZ ap aS=>
  intro v ap;cases ap with
  | iN _ _ _ _ a hA m dX kB=>
   obtain rfl:=List.length_eq_zero_iff.1 al;exact .fZ z a 0
  | ht _ _ _ _ _ _ cap' a al ah aw=>
   exfalso;rcases aw with aw | ⟨n,hA,aw,aK⟩
   ·rw[af] at aw; cases aw
   ·rw[af] at aw; cases aw; omega
  | aq _ _ _ _ _ _ cap' hA m dX hm iX au ah=>
   rw[af] at dX; cases dX;have iA:=rel.blk b m hm;rw[af] at iA;obtain⟨cY,eM,arr,t,eU,aW,aB,aE,mE⟩:=iA;have di:len<=cap':=by rcases ah with ⟨_,h⟩ | ⟨_,h,_⟩<;>omega
   have jN:Go.bY.live (h.f b)=true:=by rw[af]; rfl
   have jI:R m.r:=rel.up _ (rel.base b m jN hm);have cU:¬ Own ae μ m.r:=by
    rintro⟨bc,ch,dj,bR,oU⟩;have:=rel.inj bc b ch m (k.live dj) jN bR hm oU;subst this;rw[bb] at dj; cases dj
   subst al;have oS:∀ i j,i<es.length->j<z->∃ c v,cs[off+(i*z+j)]? = some c/\arr[m.s+(off+(i*z+j))]? = some v/\v.oneCell'=true/\aN w R h μ c v:=by
    intro i j az ai;have aK:off+(i*z+j)<cs.length:=by
     have:i*z+z<=es.length*z:=by rw[<-Nat.succ_mul]; exact Nat.mul_le_mul_right _ az
     omega
    obtain⟨v,ad,ae,aj⟩:=mE _ _ (List.getElem?_eq_getElem aK);exact⟨_,v,List.getElem?_eq_getElem aK,ad,ae,aj⟩
   refine .aX z es m.r (m.s+off) cap' (fun i j=>(arr[m.s+(off+(i*z+j))]?).getD undef) di ax (fun i j az ai=>?_) (fun i e am j c' ai=>?_)
   ·obtain⟨c,v,ad,ae,aj,aF⟩:=oS i j az ai;refine⟨?_,?_,jI,cU⟩
    ·simp only[World.cell?,aW,ae,Option.getD_some,Option.isSome_none];rw[show m.s+off+(i*z+j)=m.s+(off+(i*z+j)) by omega,ae]; rfl
    ·rw[ae]; exact aj
   ·have az:i<es.length:=(List.getElem?_eq_some_iff.1 am).1;have mH:j<z:=by rw[<-ax e (List.mem_of_getElem? am)]; exact (List.getElem?_eq_some_iff.1 ai).1
    obtain⟨c,v,ad,ae,aj,aF⟩:=oS i j az mH;simp only[ae,Option.getD_some];exact aS i j e c c' am ai ad aF
theorem m2.rel {R:Nat->Prop} {B:Nat} {w:World} {h ae:aM} {μ:cg} (rel:bI R B w h μ) (k:m2 h ae) :bI R B w ae μ:=by
 refine⟨?_,?_,?_,?_,rel.up,rel.size,?_⟩
 ·intro b m hm;have af:=rel.blk b m hm;rcases k.blk b with am | ⟨sz,cs,ah,bb | ⟨hA,Cp,bD,ap⟩⟩
  ·rw[am]; exact af.ext (k.ext w μ).toExt0 rfl
  ·rw[bb]; trivial
  ·rw[Cp];rw[ah] at af;obtain⟨ad,go,arr,t,eU,aj,aF,a6,bu⟩:=af;refine⟨by omega,go,arr,t,eU,aj,aF,a6,fun j b5 ai=>?_⟩;have aK:j<cs.length:=by rw[<-bD]; exact (List.getElem?_eq_some_iff.1 ai).1
   obtain⟨v,a2,bd,b4⟩:=bu j cs[j] (List.getElem?_eq_getElem aK);exact⟨v,a2,bd,k.pe rel (ap j cs[j] b5 (List.getElem?_eq_getElem aK) ai) b4⟩
 ·intro b bc m ch al dj hm bR ay;exact rel.inj b bc m ch (k.live al) (k.live dj) hm bR ay
 ·intro b m al hm;exact rel.base b m (k.live al) hm
 ·intro b af;rw[k.n] at af;rcases k.blk b with am | ⟨sz,cs,ah,_⟩
  ·rw[am]; exact rel.fresh b af
  ·rw[rel.fresh b af] at ah; cases ah
 ·intro b af;rw[k.n] at af;exact rel.lf b af
theorem akS (bb:On P G) {j:J} (ai:dv P G j) :w8 P G j:=by
 induction ai with
 | skip N σ h=>exact⟨0,fun R B w μ a Q rel g s k=>wp_skip (k a w μ (.refl _ _ _) rel s)⟩
 | label l N σ h=>exact⟨0,fun R B w μ a Q rel g s k=>wp_label (k a w μ (.refl _ _ _) rel s)⟩
 | ret N σ h=>exact⟨0,fun R B w μ a Q rel g s k=>wp_ret (k a w μ (.refl _ _ _) rel s)⟩
 | exit id N σ h=>exact⟨0,fun R B w μ a Q rel g s k=>wp_exit (k a w μ (.refl _ _ _) rel s)⟩
 | Xq ad ae et nv=>
  obtain⟨kh,et⟩:=et;obtain⟨p5,nv⟩:=nv;exact⟨0,fun R B w μ a Q rel g s k=>wp_seq (ox.wp (et R B w μ a _ rel g s fun a2 bL gR aQ c7 cQ=>
   ox.wp (nv R B bL gR a2 Q c7 (g.ext aQ) cQ fun bd w2 oy bx dU ie=>k bd w2 oy (aQ.trans bx) dU ie)))⟩
 | Nv ad am et=>
  obtain⟨kh,et⟩:=et;exact⟨0,fun R B w μ a Q rel g s k=>wp_seq (ox.wp (et R B w μ a _ rel g s fun a2 bL gR aQ c7 cQ=>X2 am (k a2 bL gR aQ c7 cQ)))⟩
 | cond ah ad et=>
  rename_i c x y N σ h b e bE h';obtain⟨kh,et⟩:=et;refine⟨0,fun R B w μ a Q rel g s k=>?_⟩;have ap:=s.cS g c;rw[ah] at ap;cases r5:a.eval c<;>rw[r5] at ap<;>try (cases ap; done)
  cases ap;exact wp_cond r5 (ox.wp (et R B w μ a Q rel g s k))
 | Fg ad am et=>
  obtain⟨kh,et⟩:=et;exact⟨0,fun R B w μ a Q rel g s k=>wp_block (ox.wp (et R B w μ a _ rel g s fun a2 bL gR aQ c7 cQ=>ZT am (k a2 bL gR aQ c7 cQ)))⟩
 | Pg ad et=>
  obtain⟨kh,et⟩:=et;exact⟨0,fun R B w μ a Q rel g s k=>wp_block (ox.wp (et R B w μ a _ rel g s fun a2 bL gR aQ c7 cQ=>by
   simp only[rL.out,Exit.inBlock,if_true];exact k a2 bL gR aQ c7 cQ))⟩
 | AD ad ae et nv=>
  obtain⟨kh,et⟩:=et;obtain⟨p5,nv⟩:=nv;exact⟨p5+1,fun R B w μ a Q rel g s k=>ox.wp (et R B w μ a _ rel g s fun a2 bL gR aQ c7 cQ=>
   nv R B bL gR a2 Q c7 (g.ext aQ) cQ fun bd w2 oy bx dU ie=>k bd w2 oy (aQ.trans bx) dU ie)⟩
 | Mp ad am et=>
  obtain⟨kh,et⟩:=et;exact⟨1,fun R B w μ a Q rel g s k=>ox.wp (et R B w μ a _ rel g s fun a2 bL gR aQ c7 cQ=>X2 am (k a2 bL gR aQ c7 cQ))⟩
 | scope ad et=>
  obtain⟨kh,et⟩:=et;rename_i c N σ h e bE h';refine⟨0,fun R B w μ a Q rel g s k=>wp_scope_straight (ox.wp (et R B w μ a _ rel g s fun a2 bL gR aQ c7 cQ=>?_))⟩;have:=k a2 bL gR aQ c7 cQ;cases e<;>exact this
 | region ad et=>exact⟨0,fun R B w μ a Q rel g s k=>wp_region_list (et R B w μ a Q rel g s k)⟩
 | draw pre val W cls m ak fP rO gU cells hJ pO aI hm Ha xJ CQ kE qU sj G3 GU xY F8 F9 pP vw aS=>
  exact bb pre val W cls m ak fP rO gU cells hJ pO aI hm Ha xJ CQ kE qU sj G3 GU xY F8 F9 pP aS
 | VW=>exact fun R B w μ a Q rel g s k=>k a w μ (.refl _ _ _) rel s
 | VY aW CO ad et=>
  intro R B w μ a Q rel g s k;have sj:=N7 (w:=w) (R:=R) (h:=_) (μ:=μ) (tmps:=a.tmps) aW (fun d _=>s.val d);unfold wpList;rw[if_neg (by rw[sj]; simp)];exact et R B w μ _ Q rel g (s.put CO EG) k
 | VX aW CO ad ae et nv=>
  intro R B w μ a Q rel g s k;have sj:=N7 (w:=w) (R:=R) (h:=_) (μ:=μ) (tmps:=a.tmps) aW (fun d _=>s.val d);unfold wpList;rw[if_pos sj];refine .inl (et R B w μ a _ _ Q rfl rel g (s.cS g) fun a3 bL gR aQ c7 ap=>?_);exact nv R B bL gR _ Q c7 (g.ext aQ) ((s.ext aQ).put CO ap) fun bd w2 oy bx dU ie=>k bd w2 oy (aQ.trans bx) dU ie
 | HI ak=>
  intro R B w μ a o K Q au rel g c1 k;subst au;have:=NH (P:=P) rel c1 o ak;obtain⟨v,w',μ',ay,e,r,ap⟩:=this;unfold Oper.wp;rcases ay with ay | ⟨ay,rfl⟩
  ·rw[ay]; exact k v w' μ' e r ap
  ·rw[ay]; exact k undef w' μ' e r ap
 | AM ak ad et=>
  intro R B w μ a o K Q au rel g c1 k;subst au;obtain⟨rfl,vs,ay,al,ap⟩:=NH (P:=P) rel c1 o ak;unfold Oper.wp;rw[ay];refine (et R B w μ vs rel g al ap).mono ?_;rintro e w' ⟨v,μ',rfl,aQ,c7,mN⟩;exact k v w' μ' aQ c7 mN
 | Iv ad ix ap et=>
  intro R B w μ a o K Q au rel g c1 k;refine et R B w μ a o K Q au rel g c1 fun a3 w' μ' e r tT=>?_
  exact k a3 w' μ' (e.trans (ix.ext w' μ')) (ix.rel r) (ix.pe r ap tT)
 | inline aE af ad am ay et=>
  rename_i f fn c args h e bE h' r;obtain⟨kh,et⟩:=et;intro R B w μ vs rel g al ap;refine calls_of_wp aE af (ox.wp (et R B w μ _ _ rel g ⟨by simp[al],rfl,fun t=>?_⟩ fun a2 bL gR aQ c7 cQ=>?_))
  ·by_cases aV:t<args.length
   ·have aB:args.getD t gy=args[t] :=by simp[List.getD,aV]
    have jb:(vs++Array.replicate (fn.ntmps - vs.size) undef).getD t undef=vs[t] :=by
     rw[Array.getD_eq_getD_getElem?,Array.getElem?_append_left (by omega)];simp[show t<vs.size by omega]
    rw[aB,jb];exact ap t _ _ (by simp[aV]) (by simp)
   ·have aB:args.getD t gy=gy:=by simp[List.getD,List.getElem?_eq_none (by omega:args.length<=t)]
    have jb:(vs++Array.replicate (fn.ntmps - vs.size) undef).getD t undef=undef:=by
     rw[Array.getD_eq_getD_getElem?,Array.getElem?_append_right (by omega),Array.getElem?_replicate];split<;>rfl
    rw[aB,jb];exact EG
  ·obtain⟨v,bU,b8⟩:=W8 c7 cQ ay;have tR:cQ.defers=cQ.defers:=rfl;rcases am with rfl | rfl
   ·exact⟨cQ.defers,v,bU,v,gR,rfl,aQ,c7,b8⟩
   ·exact⟨cQ.defers,v,bU,v,gR,rfl,aQ,c7,b8⟩
 | pure av ah=>exact ai9 av ah
 | MZ av al ay aE=>exact ai7 av al ay aE
 | ext ak=>exact ak
 | M0 av al ay=>exact ai8 av al ay
end

end Go.bY

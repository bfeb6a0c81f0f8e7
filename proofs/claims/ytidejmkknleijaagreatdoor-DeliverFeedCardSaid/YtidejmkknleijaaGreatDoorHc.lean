/-
  The canonical machine, part Im: maps, strings rune by rune, bytes compared.
-/
import Derived.Test.YtidejmkknleijaaGreatDoorHb
import Derived.Stop.SameAnswer
import Derived.Orders
import Derived.Still
import Derived.Scope
import Derived.LoopN
set_option linter.unusedVariables false
set_option linter.unusedSimpArgs false
set_option linter.unnecessarySimpa false
namespace Go.bV
open Go
section
variable {P:Program} {w:World} {R:Nat->Prop} {B:Nat} {h:aO} {μ:cr}
def wd:U->Value
 | .bool b=>.bool b
 | .int k n=>.int k n
 | .str s=>.string ⟨s.toArray⟩
 | _=>.tuple #[]
def Aq:U->Value
 | .aH cs=>.agg (cs.map wd).toArray
 | c=>wd c
theorem amo {c:U} {v:Value} (au:x0 c=true) (ao:aQ w R h μ c v) :v=wd c:=by
 cases c<;>simp[x0] at au
 ·cases ao; rfl
 ·cases ao; rfl
 ·cases ao;rename_i bs;show Value.string bs=.string ⟨bs.data.toList.toArray⟩;congr 1
theorem Js {t:TypeId} {c:U} (aF:mx P t c=true) :∃ cs m,c=.aH cs/\vN P 8 t=true/\ev P t=some true/\cC P t=some m/\cs.length=m/\∀ x∈cs,x0 x=true:=by
 unfold mx at aF;split at aF
 ·rename_i cs;simp only[awZ] at aF;obtain⟨⟨ad,ae⟩,aj⟩:=aF;split at ae
  ·rename_i m aE ak;exact⟨cs,m,rfl,ad,aE,ak,axt ae,fun x ag=>axx.1 aj x ag⟩
  ·cases ae
 ·cases aF
theorem Ov {t:TypeId} {c:U} {v:Value} (aF:mx P t c=true) (ao:aQ w R h μ c v) :v=Aq c:=by
 obtain⟨cs,m,rfl,_,_,_,_,hint⟩:=Js aF;cases ao with
 | aH _ vs al ad ao=>
  show Value.agg vs=.agg (cs.map wd).toArray;congr 1;apply Array.ext_getElem?;intro j;have ag:(cs.map wd).toArray[j]? = (cs[j]?).map wd:=by simp
  rw[ag];cases ai:cs[j]? with
  | none=>simp only[Option.map_none]; rw[ayQ]; rw[al]; exact ayq.1 ai
  | some c=>
   have aL:=(awQ.1 ai).1;have nA:=ao j c vs[j] ai (axZ (by omega));rw[axZ (by omega)];simp only[aw0,Option.some.injEq];exact amo (hint c (awY ai)) nA
theorem ac8 (a:ByteArray) :(a == a)=true:=by
 show (a.data == a.data)=true;exact beq_self_eq_true _
theorem aob {c:U} (n:Nat) (ah:x0 c=true) :Instr.sameBits n (wd c) (wd c)=true:=by
 cases c<;>simp[x0] at ah<;>unfold wd Instr.sameBits
 ·simp
 ·simp
 ·exact ac8 _
theorem aoa {t:TypeId} {c:U} (n:Nat) (aF:mx P t c=true) :Instr.sameBits (n+1) (Aq c) (Aq c)=true:=by
 obtain⟨cs,m,rfl,_,_,_,_,hint⟩:=Js aF;unfold Aq Instr.sameBits;simp only[beq_self_eq_true,ayn,axx];rintro⟨x,y⟩ mr;rw[aw3] at mr;obtain⟨j,ai⟩:=mr;rw[ayr] at ai;obtain⟨ad,ae⟩:=ai;rw[ad] at ae; cases ae;simp only[awV,Option.map_eq_some_iff] at ad;obtain⟨c,ah,rfl⟩:=ad;exact aob n (hint c (awY ah))
theorem an0 {t:TypeId} {c:U} (aF:mx P t c=true) :(Instr.keyThatStays (Aq c) (Aq c)).run P w=.ok (Aq c) w:=by
 unfold Instr.keyThatStays;rw[if_pos (aoa 9999 aF)];simp
theorem L5 {α:Type} {f:α->PUnit->Sem (ForInStep PUnit)}:∀ (l:List α),(∀ x∈l,(f x ⟨⟩).run P w=.ok (.yield ⟨⟩) w)->(forIn l ⟨⟩ f).run P w=.ok ⟨⟩ w
 | [],_=>by simp
 | x::l,aF=>by
  rw[List.forIn_cons];simp only[Sem.run_bind,aF x (by simp),Result.andThen_ok];exact L5 l (fun y aI=>aF y (by simp[aI]))
theorem PN (em:Bool) :∀ (d n:Nat) (t:TypeId) (c:U) (v:Value),d<=n->vN P d t=true->aQ w R h μ c v->(ev P t=some true->∃ cs m,c=.aH cs/\cC P t=some m/\cs.length=m)->
  (Instr.checkKey em n t v).run P w=.ok () w
 | 0,_,_,_,_,_,ar,_,_=>by simp[vN] at ar
 | d+1,0,_,_,_,aC,_,_,_=>by omega
 | d+1,n+1,t,c,v,aC,ar,ao,aE=>by
  unfold vN at ar;split at ar
  ·rename_i aM; cases v<;>simp[Instr.checkKey,cB aM]
  ·rename_i aM; cases v<;>simp[Instr.checkKey,cB aM]
  ·rename_i aM; cases v<;>simp[Instr.checkKey,cB aM]
  ·rename_i len e m aM hm;have My:ev P t=some true:=by unfold ev; rw[aM]; rfl
   obtain⟨cs,ct,rfl,bX,al⟩:=aE My;rw[hm] at bX; cases bX;simp only[awZ] at ar;obtain⟨lg,mo⟩:=ar;split at mo
   ·rename_i z a aw MB;simp only[awZ] at mo;have dN:=axW mo.1;have re:=axW mo.2;obtain⟨vs,rfl,az⟩:=wx ao;unfold Instr.checkKey;simp only[Sem.run_bind,cB aM,Result.andThen_ok];rw[Std.Legacy.Range.forIn_eq_forIn_range'];rw[L5]
    ·simp
    intro i ay;have ec:i<len:=by simp[Std.Legacy.Range.size] at ay; omega
    have ahk:i*z+z<=cs.length:=by
     have:i*z+z<=len*z:=by rw[<-axw]; exact awX _ ec
     omega
    have au:∃ c,iB P e cs (i*z)=some c/\(ev P e=some true->∃ cs' ct,c=.aH cs'/\cC P e=some ct/\cs'.length=ct) :=by
     unfold iB;rw[MB,aw];cases a with
     | true=>exact⟨_,by simp only; rw[if_pos ahk],fun _=>⟨_,z,rfl,rfl,by simp; omega⟩⟩
     | false=>exact⟨cs[i*z]'(by omega),by simp only; exact awT (by omega),fun h=>by cases h⟩
    obtain⟨c,ah,r8⟩:=au;obtain⟨u,aj,aD⟩:=xZ (P:=P) ah az;simp only[Sem.run_bind,fQ aw,Result.andThen_ok,aj w];rw[PN em d n e c u (by omega) lg aD r8];simp
   ·cases mo
  ·rename_i fs m aM hm;have My:ev P t=some true:=by unfold ev; rw[aM]; rfl
   obtain⟨cs,ct,rfl,bX,al⟩:=aE My;rw[hm] at bX; cases bX;obtain⟨vs,rfl,az⟩:=wx ao;unfold Instr.checkKey;simp only[Sem.run_bind,cB aM,Result.andThen_ok];rw[<-Array.forIn_toList,L5]
   ·simp
   intro f aF;have IH:=axx.1 ar f aF;simp only[awZ] at IH;obtain⟨lg,mo⟩:=IH;split at mo
   ·rename_i z a aw MB;simp only[awZ] at mo;have dN:=axW mo.1;have re:=axW mo.2;have au:∃ c,iB P f.type cs f.offset=some c/\(ev P f.type=some true->∃ cs' ct,c=.aH cs'/\cC P f.type=some ct/\cs'.length=ct) :=by
     unfold iB;rw[MB,aw];cases a with
     | true=>exact⟨_,by simp only; rw[if_pos (by omega)],fun _=>⟨_,z,rfl,rfl,by simp; omega⟩⟩
     | false=>exact⟨cs[f.offset]'(by omega),by simp only; exact awT (by omega),fun h=>by cases h⟩
    obtain⟨c,ah,r8⟩:=au;obtain⟨u,aj,aD⟩:=xZ (P:=P) ah az;have:=PN em d n f.type c u (by omega) lg aD r8;by_cases tG:f.name= "_"
    ·simp[tG]
    ·simp[tG,aj w,this]
   ·cases mo
  ·cases ar
theorem ZS {t:TypeId} {c:U} {v:Value} (em:Bool) (aF:mx P t c=true) (ao:aQ w R h μ c v) :(Instr.checkKey em 10000 t v).run P w=.ok () w:=by
 obtain⟨cs,m,rfl,ad,ae,aj,aD,_⟩:=Js aF;exact PN em 8 10000 t _ v (by omega) ad ao (fun _=>⟨cs,m,rfl,aj,aD⟩)
def uA (w:World) (R:Nat->Prop) (h:aO) (μ:cr) (es:List (U × U × Nat)) (dW:List MapEntry) :Prop:=
 dW.length=es.length/\∀ (j:Nat) (k v:U) (b:Nat),es[j]? = some (k,v,b)->∃ x:MapEntry,dW[j]? = some x/\aQ w R h μ k x.key/\aQ w R h μ v x.val/\x.born=b
def QQ (w:World) (R:Nat->Prop) (h:aO) (μ:cr) (k:U) (dW:List MapEntry) (i:Nat) :Option (Nat × U)->Option (Nat × Value)->Prop
 | none,r=>r=none
 | some (j,v),r=>∃ qo,r=some (j,qo)/\aQ w R h μ v qo/\i<=j/\∃ x,dW[j - i]? = some x/\x.val=qo/\aQ w R h μ k x.key
theorem aet {es:List (U × U × Nat)} {e:U × U × Nat} {x:MapEntry} {dW:List MapEntry} (az:uA w R h μ (e::es) (x::dW)) :uA w R h μ es dW:=
 ⟨by have:=az.1; simp at this; exact this,fun j k v b ai=>az.2 (j+1) k v b (by simpa using ai)⟩
theorem aes {es:List (U × U × Nat)} {k v:U} {b:Nat} {x:MapEntry} {dW:List MapEntry} (az:uA w R h μ ((k,v,b) ::es) (x::dW)) :aQ w R h μ k x.key/\aQ w R h μ v x.val/\x.born=b:=by
 obtain⟨y,ad,ae⟩:=az.2 0 k v b rfl;simp at ad; subst ad; exact ae
theorem Uf {cS:TypeId} {k:U} {iy:Value} (ar:aQ w R h μ k iy) :∀ (es:List (U × U × Nat)) (dW:List MapEntry) (i:Nat) (r:Option (Nat × U)),uA w R h μ es dW->lJ P cS k es i=some r->
  ∃ r',(Instr.findAsking cS iy dW i).run P w=.ok r' w/\QQ w R h μ k dW i r r'
 | [],dW,i,r,az,aF=>by
  have:dW=[] :=axF.1 az.1;subst this;simp only[lJ,Option.some.injEq] at aF; subst aF;exact⟨none,by simp[Instr.findAsking],rfl⟩
 | (k',v,b) ::es,[],i,r,az,aF=>by have:=az.1; simp at this
 | (k',v,b) ::es,x::dW,i,r,az,aF=>by
  obtain⟨ad,ae,aj⟩:=aes az;simp only[lJ] at aF;split at aF
  ·cases aF
  rename_i eA;split at aF
  ·rename_i heq;split at aF
   ·rename_i agj;simp only[Option.some.injEq] at aF; subst aF;have fV:=LV (P:=P) 10000 cS k k' true iy x.key heq ar ad;refine⟨some (i,x.val),?_,x.val,rfl,ae,awU _,x,by simp,rfl,?_⟩
    ·simp only[Instr.findAsking,Op.equal,Op.maxDepth,Sem.run_bind];rw[fV]; simp
    ·rw[U.beq_eq agj]; exact ad
   ·cases aF
  ·rename_i heq;have fV:=LV (P:=P) 10000 cS k k' false iy x.key heq ar ad;obtain⟨r',aD,a2⟩:=Uf ar es dW (i+1) r (aet az) aF;refine⟨r',?_,?_⟩
   ·simp only[Instr.findAsking,Op.equal,Op.maxDepth,Sem.run_bind];rw[fV]; simpa using aD
   ·cases r with
    | none=>exact a2
    | some xD=>
     obtain⟨qo,bv,dr,gp,y,gh,lK,y5⟩:=a2;exact⟨qo,bv,dr,by omega,y,by rw[show xD.1 - i=(xD.1 - (i+1))+1 by omega]; simpa using gh,lK,y5⟩
  ·cases aF
theorem ZU {cS:TypeId} {k:U} {iy:Value} (ar:aQ w R h μ k iy) (aF:mx P cS k=true) {es:List (U × U × Nat)} {dW:List MapEntry} {r:Option (Nat × U)} (az:uA w R h μ es dW) (MM:lJ P cS k es 0=some r) :
  ∃ r',(Instr.findKey cS iy dW).run P w=.ok r' w/\QQ w R h μ k dW 0 r r':=by
 obtain⟨r',ad,ae⟩:=Uf ar es dW 0 r az MM;refine⟨r',?_,ae⟩;obtain⟨cs,m,rfl,aj,aD,_⟩:=Js aF;unfold ev at aD;cases aM:P.underlying cS with
 | none=>rw[aM] at aD; cases aD
 | some d=>
  rw[aM] at aD;unfold Instr.findKey;simp only[Sem.run_bind,cB aM,Result.andThen_ok];cases dW with
  | nil=>simpa [Instr.findNow,Instr.findAsking] using ad
  | cons x dW=>
   have aC:Instr.findNow d iy (x::dW) 0=none:=by
    cases d<;>simp at aD<;>simp[Instr.findNow,Instr.sameNow]
   rw[aC];exact ad
theorem akP (rel:bP R B w h μ) {m:U} {fX:Value} {es:List (U × U × Nat)} (hm:mapOf h m=some es) (ao:aQ w R h μ m fX) :
  (fX=.map none/\es=[])\/∃ b ch fq dW,m=.mp b/\h.f b=.map es fq/\μ b=some ch/\fX=.map (some ch.r)/\w.heap[ch.r]? = some (.map dW fq)/\uA w R h μ es dW.toList:=by
 cases m<;>simp[mapOf] at hm
 ·subst hm; cases ao; exact .inl ⟨rfl,rfl⟩
 ·rename_i b;cases ao with
  | mp _ ch af oh=>
   cases ah:h.f b<;>rw[ah] at hm<;>simp at hm;rename_i ar5 fq;subst hm;have iQ:=rel.blk b ch oh;rw[ah] at iQ;obtain⟨dW,ad,ae,aj⟩:=iQ;refine .inr ⟨b,ch,fq,dW,rfl,ah,oh,rfl,ad,by simpa using ae,fun j k v aZ ai=>?_⟩;obtain⟨x,aD,a2⟩:=aj j k v aZ ai;exact⟨x,by simpa using aD,a2⟩
theorem PO {r:Nat} {es:Array MapEntry} {fq:Nat} (af:w.heap[r]? = some (.map es fq)) :(getObj r).run P w=.ok (.map es fq) w:=by simp[getObj,Sem.run,af]
theorem ZV {r:Nat} {s:ByteArray} {pos:Nat} (af:w.heap[r]? = some (.stringIter s pos)) :(getObj r).run P w=.ok (.stringIter s pos) w:=by simp[getObj,Sem.run,af]
theorem abG {t:TypeId} {z:U} (aw:AD P t=some z) :∃ v,(zeroValue t).run P w=.ok v w/\aQ w R h μ z v:=by
 unfold AD at aw;cases ay:P.info? t with
 | none=>rw[ay] at aw; cases aw
 | some i=>
  rw[ay] at aw;simp only[ayG] at aw;cases ao:i.zero with
  | none=>rw[ao] at aw; cases aw
  | some v=>
   rw[ao] at aw;simp only[aw0,Option.some.injEq] at aw; subst aw;exact⟨v,ZY ay ao,.xV v⟩
theorem aQ.aaV {a b:U} {iN fp:Value} (aE:aQ w R h μ a iN) (af:aQ w R h μ b fp) :aQ w R h μ (.bq [a,b]) (.tuple #[iN,fp]) :=by
 refine .bq _ _ rfl fun j c v ah ao=>?_
 rcases j with _ | _ | j
 ·simp at ah ao; subst ah ao; exact aE
 ·simp at ah ao; subst ah ao; exact af
 ·simp at ah
theorem akt (rel:bP R B w h μ) {t:TypeId} {m k c:U} {fX iy:Value} {ok:Bool} (al:Jx P h t m k ok=some c) (hm:aQ w R h μ m fX) (ar:aQ w R h μ k iy) :
  ∃ v,(Instr.lookup t fX iy ok).run P w=.ok v w/\aQ w R h μ c v:=by
 unfold Jx at al;split at al
 ·rename_i cS nj es aM EV;split at al
  ·cases al
  ·rename_i eA;have adT:∀ dW:List MapEntry,uA w R h μ es dW->∃ r',(Instr.findKey cS iy dW).run P w=.ok r' w ∧
     ((∃ i v,r'=some (i,v)/\∃ yV,aQ w R h μ yV v/\c=if ok then .bq [yV,.bool true] else yV)\/(r'=none/\∃ z,AD P nj=some z/\c=if ok then .bq [z,.bool false] else z)) :=by
    intro dW az;cases ml:lJ P cS k es 0 with
    | none=>rw[ml] at al; cases al
    | some r=>
     obtain⟨r',ad,ae⟩:=ZU ar eA az ml;rw[ml] at al;refine⟨r',ad,?_⟩;cases r with
     | none=>
      cases ae;simp only at al;cases aw:AD P nj with
      | none=>rw[aw] at al; cases al
      | some z=>
       rw[aw] at al;simp only[aw0,Option.some.injEq] at al;exact .inr ⟨rfl,z,rfl,al.symm⟩
     | some xD=>
      obtain⟨qo,rfl,aD,_⟩:=ae;simp only[Option.some.injEq] at al;exact .inl ⟨_,qo,rfl,_,aD,al.symm⟩
   have fin:∀ (dW:List MapEntry) (em:Bool),uA w R h μ es dW->∀ m:Sem Value,m.run P w=(((Instr.checkKey em 10000 cS iy).bind fun _=>(Instr.findKey cS iy dW).bind fun r=>match r with
     | some (_,v)=>pure (if ok=true then .tuple #[v,.bool true] else v)
     | none=>(zeroValue nj).bind fun z=>pure (if ok=true then .tuple #[z,.bool false] else z)) :Sem Value).run P w->∃ v,m.run P w=.ok v w/\aQ w R h μ c v:=by
    intro dW em az m hm;obtain⟨r',ad,ae⟩:=adT dW az;have Ih:∀ {α kB:Type} (a:Sem α) (f:α->Sem kB),a.bind f=a >>= f:=fun _ _=>rfl
    simp only[Ih,Sem.run_bind,ZS em eA ar,Result.andThen_ok,ad] at hm;rcases ae with ⟨i,v,rfl,yV,aj,rfl⟩ | ⟨rfl,z,aj,rfl⟩
    ·simp only at hm;cases ok
     ·exact⟨v,by simpa using hm,aj⟩
     ·exact⟨.tuple #[v,.bool true],by simpa using hm,aQ.aaV aj (.bool _)⟩
    ·obtain⟨v,aD,a2⟩:=abG (w:=w) (R:=R) (h:=h) (μ:=μ) aj;simp only[Sem.run_bind,aD,Result.andThen_ok] at hm;cases ok
     ·exact⟨v,by simpa using hm,a2⟩
     ·exact⟨.tuple #[v,.bool false],by simpa using hm,aQ.aaV a2 (.bool _)⟩
   have Ih:∀ {α kB:Type} (a:Sem α) (f:α->Sem kB),a.bind f=a >>= f:=fun _ _=>rfl
   rcases akP rel EV hm with ⟨rfl,rfl⟩ | ⟨b,ch,fq,dW,rfl,af,oh,rfl,mQ,az⟩
   ·refine fin [] true ⟨rfl,fun j k v b ai=>by simp at ai⟩ _ ?_;unfold Instr.lookup;simp only[Ih,Sem.run_bind,cB aM,Result.andThen_ok,Sem.run_pure];cases fc:(Instr.checkKey true 10000 cS iy).run P w with
    | halt a b=>simp[fc]
    | ok a bO=>
     simp[fc];cases agT:(Instr.findKey cS iy []).run P bO with
     | halt a b=>simp
     | ok r w2=>
      simp;cases r with
      | none=>cases (zeroValue nj).run P w2<;>simp
      | some x=>simp
   ·refine fin dW.toList dW.isEmpty az _ ?_;unfold Instr.lookup;simp only[Ih,Sem.run_bind,cB aM,Result.andThen_ok,Sem.run_pure,PO mQ];cases fc:(Instr.checkKey dW.isEmpty 10000 cS iy).run P w with
    | halt a b=>simp[fc]
    | ok a bO=>
     simp[fc];cases agT:(Instr.findKey cS iy dW.toList).run P bO with
     | halt a b=>simp
     | ok r w2=>
      simp;cases r with
      | none=>cases (zeroValue nj).run P w2<;>simp
      | some x=>simp
 ·cases al
theorem akg (rel:bP R B w h μ) {t ty:TypeId} {x c:U} {bH:Value} (ah:zT P h t x=some c) (ag:aQ w R h μ x bH) :∃ v,(Builtin.len_ #[t] ty #[bH]).run P w=.ok v w/\aQ w R h μ c v:=by
 unfold zT at ah;split at ah
 ·rename_i cS nj b aM;split at ah
  ·rename_i es fq af;simp only[Option.some.injEq] at ah; subst ah;cases ag with
   | mp _ ch ar oh=>
    have iQ:=rel.blk b ch oh;rw[af] at iQ;obtain⟨dW,ad,ae,aj⟩:=iQ;exact⟨.int .i64 dW.size,by simp[Builtin.len_,cB aM,PO ad,goInt],by rw[ae]; exact .int _ _⟩
  ·cases ah
 ·cases ah
theorem akN (rel:bP R B w h μ) {t:TypeId} {r:Option Value} (aM:∃ k e,P.underlying t=some (.map k e)) (az:∀ x,r=some x->∃ k n,x=.int k n) :∃ v w' μ',(Instr.makeMap t r).run P w=.ok v w'/\dg w h μ w' (h.push (.map [] 0)) μ'/\bP R B w' (h.push (.map [] 0)) μ'/\aQ w' R (h.push (.map [] 0)) μ' (.mp h.n) v:=by
 have:=rel.Za (w':=w.alloc (.map #[] 0)) (.map [] 0) (.map #[] 0) (k:=0) rfl rfl rfl rfl rfl ⟨#[],by show (w.heap.push _)[w.heap.size]? = _; simp,rfl,fun j k v b ai=>by simp at ai⟩;refine⟨.map (some w.heap.size),w.alloc (.map #[] 0),_,?_,this.1,this.2,?_⟩
 ·obtain⟨k,e,aM⟩:=aM;cases r with
  | none=>simp[Instr.makeMap,newObj,Sem.run]
  | some x=>
   obtain⟨k',n,rfl⟩:=az x rfl;simp[Instr.makeMap,newObj,Sem.run,cB aM,Go.asInt,Go.asIntOf]
 ·exact .mp h.n ⟨w.heap.size,0,0⟩ (by simp[ep,pl]) (by simp)
theorem X8 (rel:bP R B w h μ) {t:TypeId} {m k x:U} {fX iy bH:Value} {h' : aO} (pe:zX P h t m k x=some h') (hm:aQ w R h μ m fX) (ar:aQ w R h μ k iy) (ag:aQ w R h μ x bH) :
  ∃ w',(Instr.mapUpdate t fX iy bH).run P w=.ok () w'/\dg w h μ w' h' μ/\bP R B w' h' μ:=by
 unfold zX at pe;split at pe
 ·rename_i cS nj b aM;split at pe
  ·rename_i es fq af;split at pe
   ·cases pe
   ·rename_i eA;cases hm with
    | mp _ ch ahr oh=>
     have iQ:=rel.blk b ch oh;rw[af] at iQ;obtain⟨dW,ad,ae,aj⟩:=iQ;have aL:ch.r<w.heap.size:=by
      rcases ax1 ch.r w.heap.size with h | h
      ·exact h
      ·rw[ayQ h] at ad; cases ad
     have az:uA w R h μ es dW.toList:=⟨by simpa using ae,fun j k v aZ ai=>by obtain⟨y,aD,a2⟩:=aj j k v aZ ai; exact⟨y,by simpa using aD,a2⟩⟩
     have lS:∀ o:Obj,(setObj ch.r o).run P w=.ok () { w with heap:=w.heap.setIfInBounds ch.r o }:=fun o=>by simp[setObj,Sem.run,ad]
     have Wy:∀ (DO:List (U × U × Nat)) (Be:Array MapEntry) (DA:Nat),(∀ {w2:World} {ae:aO},Ext0 w h μ w2 ae μ->Be.size=DO.length/\∀ (j:Nat) (k v:U) (b:Nat),DO[j]? = some (k,v,b)->∃ x:MapEntry,Be[j]? = some x/\aQ w2 R ae μ k x.key/\aQ w2 R ae μ v x.val/\x.born=b)->
       dg w h μ { w with heap:=w.heap.setIfInBounds ch.r (.map Be DA) } (h.set b (.map DO DA)) μ/\bP R B { w with heap:=w.heap.setIfInBounds ch.r (.map Be DA) } (h.set b (.map DO DA)) μ:=by
      intro DO Be DA aN;refine rel.Ze (k:=0) af rfl rfl oh rfl rfl rfl (by simp) (fun k ar=>?_) (fun e=>?_)
      ·simp only; rw[ax6]; rw[if_neg (fun aT=>ar aT.symm)]
      ·obtain⟨q1,dn⟩:=aN e;exact⟨Be,by simp only; rw[ax6]; simp[aL],q1,dn⟩
     unfold Instr.mapUpdate;simp only[Sem.run_bind,cB aM,Result.andThen_ok,PO ad,ZS false eA ar];cases ml:lJ P cS k es 0 with
     | none=>rw[ml] at pe; cases pe
     | some r=>
      rw[ml] at pe;obtain⟨r',aD,a2⟩:=ZU ar eA az ml;rw[aD];cases r with
      | none=>
       cases a2;simp only[Option.some.injEq] at pe; subst pe;have:=Wy (es++[(k,x,fq)]) (dW.push { key:=iy,val:=bH,born:=fq }) (fq+1) (fun e=>⟨by simp[ae],fun j k' v' aZ ai=>?_⟩)
       ·exact⟨_,by simp only[Result.andThen_ok]; rw[lS],this⟩
       ·rw[Array.getElem?_push];by_cases et:j<es.length
        ·rw[awS et] at ai;obtain⟨y,bv,dr,gp,gh⟩:=aj j k' v' aZ ai;exact⟨y,by rw[if_neg (by omega)]; exact bv,dr.nk e,gp.nk e,gh⟩
        ·rw[aw6 (by omega)] at ai;have zk:j - es.length=0:=by
          rcases Nat.eq_zero_or_pos (j - es.length) with h | h
          ·exact h
          ·rw[aw5 (by simp; omega)] at ai; cases ai
         rw[zk] at ai;simp at ai;obtain⟨rfl,rfl,rfl⟩:=ai;exact⟨_,by rw[if_pos (by omega)],ar.nk e,ag.nk e,rfl⟩
      | some xD=>
       obtain⟨i,v⟩:=xD;obtain⟨qo,rfl,bv,_,y,dr,gp,gh⟩:=a2;simp only[Option.some.injEq] at pe; subst pe;have r5:dW[i]? = some y:=by simpa using dr
       have aS:y.key=iy:=by rw[Ov eA gh,Ov eA ar]
       have tC:(Instr.keyThatStays (((dW[i]?).map (·.key)).getD iy) iy).run P w=.ok iy w:=by
        rw[r5];simp only[aw0,axI,aS];rw[Ov eA ar];exact an0 eA
       have:=Wy (es.modify i fun e=>(k,x,e.2.2)) (dW.modify i fun e=>{ e with key:=iy,val:=bH }) fq (fun e=>⟨by simp[ae],fun j k' v' aZ ai=>?_⟩)
       ·refine⟨_,?_,this⟩;simp only[Result.andThen_ok,Sem.run_bind,tC];rw[lS]
       ·rw[List.getElem?_modify] at ai;rw[Array.getElem?_modify];cases oa:es[j]? with
        | none=>rw[oa] at ai; simp at ai
        | some fA=>
         obtain⟨hz,v0,hr⟩:=fA;rw[oa] at ai;obtain⟨abB,lK,y5,Md,D7⟩:=aj j hz v0 hr oa;rw[lK];by_cases hf:i=j
         ·simp[hf] at ai;obtain⟨rfl,rfl,rfl⟩:=ai;exact⟨{ abB with key:=iy,val:=bH },by simp[hf],ar.nk e,ag.nk e,D7⟩
         ·simp[hf] at ai;obtain⟨rfl,rfl,rfl⟩:=ai;exact⟨abB,by simp[hf],y5.nk e,Md.nk e,D7⟩
  ·cases pe
 ·cases pe
theorem ann (rel:bP R B w h μ) {t:TypeId} {x c:U} {bH:Value} {h' : aO} (az:J4 P h t x=some (c,h')) (ag:aQ w R h μ x bH) :
  ∃ v w' μ',(Instr.range t bH).run P w=.ok v w'/\dg w h μ w' h' μ'/\bP R B w' h' μ'/\aQ w' R h' μ' c v:=by
 unfold J4 at az;split at az
 ·rename_i s aM;simp only[Option.some.injEq,Prod.mk.injEq] at az;obtain⟨rfl,rfl⟩:=az;cases ag;rename_i bs;have:=rel.Za (w':=w.alloc (.stringIter bs 0)) (.iter bs.data.toList 0) (.stringIter bs 0) (k:=1) rfl rfl rfl rfl rfl ⟨bs,rfl,by show (w.heap.push _)[w.heap.size]? = _; simp⟩;refine⟨.pointer (some ⟨w.heap.size,0,none⟩),w.alloc (.stringIter bs 0),_,?_,this.1,this.2,?_⟩
  ·simp[Instr.range,cB aM,newObj,Sem.run]
  ·exact .it h.n ⟨w.heap.size,0,0⟩ (by simp[ep,pl]) (by simp)
 ·cases az
theorem ale (rel:bP R B w h μ) {x c:U} {bH:Value} {h' : aO} {ty:TypeId} (az:Co h x=some (c,h')) (ag:aQ w R h μ x bH) :
  ∃ v w',(Instr.next bH true ty).run P w=.ok v w'/\dg w h μ w' h' μ/\bP R B w' h' μ/\aQ w' R h' μ c v:=by
 unfold Co at az;split at az
 ·rename_i b;split at az
  ·rename_i s pos af;cases ag with
   | it _ ch ahr oh=>
    have iQ:=rel.blk b ch oh;rw[af] at iQ;obtain⟨bs,rfl,ad⟩:=iQ;have aL:ch.r<w.heap.size:=by
     rcases ax1 ch.r w.heap.size with h | h
     ·exact h
     ·rw[ayQ h] at ad; cases ad
    have ld:(⟨bs.data.toList.toArray⟩:ByteArray)=bs:=by cases bs; simp
    have hL:bs.data.toList.length=bs.size:=by rw[ayK]; rfl
    rw[ld] at az;split at az
    ·rename_i q6;have au:pos<bs.size:=by rw[<-hL]; rw[azW] at q6; exact q6
     simp only[Option.some.injEq,Prod.mk.injEq] at az;obtain⟨rfl,rfl⟩:=az;have:=rel.Ze (w':={ w with heap:=w.heap.setIfInBounds ch.r (.stringIter bs (pos+(Utf8.decode bs pos).2)) }) (k:=1) (c':=.iter bs.data.toList (pos+(Utf8.decode bs pos).2)) af rfl rfl oh rfl rfl rfl (by simp)
      (fun k ar=>by simp only; rw[ax6]; rw[if_neg (fun aT=>ar aT.symm)]) (fun e=>⟨bs,rfl,by simp only; rw[ax6]; simp[aL]⟩)
     refine⟨.tuple #[.bool true,.int .i64 pos,.int .i32 (Utf8.decode bs pos).1],_,?_,this.1,this.2,?_⟩
     ·simp only[Instr.next,Sem.run_bind,ZV ad,Result.andThen_ok,if_pos au];simp[setObj,Sem.run,ad,goInt]
     ·refine .bq _ _ rfl fun j c v ah ao=>?_
      rcases j with _ | _ | _ | j
      ·simp at ah ao; subst ah ao; exact .bool _
      ·simp at ah ao; subst ah ao; exact .int _ _
      ·simp at ah ao; subst ah ao; exact .int _ _
      ·simp at ah
    ·rename_i q6;have au:¬ pos<bs.size:=by
      rw[<-hL]; intro aT;rw[<-azW] at aT; rw[aT] at q6; cases q6
     simp only[Option.some.injEq,Prod.mk.injEq] at az;obtain⟨rfl,rfl⟩:=az;refine⟨.tuple #[.bool false],w,?_,.refl _ _ _,rel,?_⟩
     ·simp only[Instr.next,Sem.run_bind,ZV ad,Result.andThen_ok,if_neg au];simp
     ·refine .bq _ _ rfl fun j c v ah ao=>?_
      rcases j with _ | j
      ·simp at ah ao; subst ah ao; exact .bool _
      ·simp at ah
  ·cases az
 ·cases az
theorem ZT {blk:Nat}:∀ (n:Nat) (o:Nat) (ns:List Int) (acc:ByteArray),ns.length=n->(∀ j v,(ns.map (Value.int .u8))[j]? = some v->(load (⟨blk,o+j,none⟩:Addr)).run P w=.ok v w)->
  ∃ bs,(Extern.Bytes.loadBytes ⟨blk,o,none⟩ n acc).run P w=.ok bs w/\bs.data.toList=acc.data.toList++ns.map fun n=>UInt8.ofNat n.toNat
 | 0,o,ns,acc,al,_=>⟨acc,by simp[Extern.Bytes.loadBytes],by rw[axF.1 al]; simp⟩
 | n+1,o,[],acc,al,_=>by simp at al
 | n+1,o,x::ns,acc,al,h=>by
  have aJ:=h 0 _ rfl;obtain⟨bs,ad,ae⟩:=ZT n (o+1) ns (acc.push (UInt8.ofNat x.toNat)) (by simpa using al) (fun j v ai=>by
   have:=h (j+1) v (by simpa using ai);rw[show o+(j+1)=o+1+j by omega] at this;exact this)
  refine⟨bs,?_,?_⟩
  ·unfold Extern.Bytes.loadBytes;rw[ayW] at aJ;simp only[Sem.run_bind,aJ,Result.andThen_ok,Addr.m9];exact ad
  ·rw[ae]; simp
theorem RL (rel:bP R B w h μ) {x:U} {bH:Value} {l:List UInt8} (af:tk h x=some l) (ag:aQ w R h μ x bH) :∃ bs,(Extern.Bytes.bytesOf bH).run P w=.ok bs w/\bs.data.toList=l:=by
 unfold tk at af;split at af
 ·simp only[Option.some.injEq] at af; subst af;cases ag with
  | str bs=>exact⟨bs,by simp[Extern.Bytes.bytesOf],rfl⟩
 ·rename_i tH;split at af
  ·rename_i cs n ez;obtain⟨bp,bA,vs,b0,ml⟩:=wW (P:=P) rel ez ag;have aF:=ml n (awU _) w (fun _=>rfl);obtain⟨ns,rfl,rfl⟩:=Ls cs vs l af b0.1 b0.2;have km:ns.length=n:=by have:=b0.1; simp at this; omega
   have Fb:(ns.map (Value.int .u8)).take (n*1)=ns.map (Value.int .u8) :=awR (by simp; omega);rw[Fb] at aF;have MN:∃ a len cap,bH=.slice a len cap:=by
    cases ag<;>first | exact⟨_,_,_,rfl⟩ | (simp[contents] at ez; done) | (exact absurd rfl (tH _))
   obtain⟨a,len,cap,rfl⟩:=MN;simp only[Builtin.lenOf,Sem.run_pure,Result.ok.injEq] at bA;obtain⟨rfl,_⟩:=bA;cases a with
   | none=>
    simp only[Builtin.firstCells,Sem.run_pure,Result.ok.injEq] at aF;have ix:ns=[] :=by
     have:=congrArg Array.toList aF.1;simpa using this.symm
    subst ix;exact⟨.empty,by simp[Extern.Bytes.bytesOf],rfl⟩
   | some a=>
    by_cases xi:len=0
    ·subst xi;have:ns=[] :=axF.1 km;subst this;exact⟨.empty,by simp[Extern.Bytes.bytesOf,Extern.Bytes.loadBytes],rfl⟩
    have aE:∃ blk o,a=⟨blk,o,none⟩:=by
     cases ag with
     | aq=>exact⟨_,_,rfl⟩
     | a1=>exact⟨_,_,rfl⟩
     | gv=>exact absurd rfl xi
     | i3=>exact absurd rfl xi
     | bad=>simp[contents] at ez
     | hO _ _ _ _ _ _ _ _ ad ae ax=>
      exfalso;simp only[contents] at ez;rcases ax with ax | ⟨n,hT,ax,aL⟩
      ·rw[ax] at ez; cases ez
      ·rw[ax] at ez;simp only at ez;split at ez
       ·rename_i aT; omega
       ·cases ez
    obtain⟨blk,o,rfl⟩:=aE;simp only[Builtin.firstCells,ayt] at aF;unfold loadCells at aF;obtain⟨l,ad,ae,aj⟩:=loadCellsFrom_ok _ _ _ _ _ _ aF;have aD:l=ns.map (Value.int .u8) :=by
     have:=congrArg Array.toList ae;simpa using this.symm
    subst aD;obtain⟨bs,a2,bv⟩:=ZT (P:=P) (w:=w) (blk:=blk) len o ns .empty km (fun j v ai=>by
     have:=aj j v ai;rw[Addr.m9,axV] at this;exact this)
    exact⟨bs,by simpa [Extern.Bytes.bytesOf] using a2,by rw[bv]; rfl⟩
  ·cases af
theorem TG:∀ (a b:List UInt8),(match (List.range (min a.length b.length)).find? fun i=>a.getD i 0 != b.getD i 0 with
  | some i=>if a.getD i 0<b.getD i 0 then (-1:Int) else 1
  | none=>if a.length<b.length then -1 else if a.length > b.length then 1 else 0)=oW a b
 | [],[]=>by simp[oW]
 | [],_::_=>by simp[oW]
 | _::_,[]=>by simp[oW]
 | x::a,y::b=>by
  have aR:=TG a b;simp only[axa,Nat.add_min_add_right,List.range_succ_eq_map,azm,List.getD_cons_zero];by_cases mr:x=y
  ·subst mr;simp only[bne_self_eq_false,oW,if_true];rw[<-aR,List.find?_map];have BI:((fun i=>(x::a).getD i 0 != (x::b).getD i 0) ∘ Nat.succ)=fun i=>a.getD i 0 != b.getD i 0:=by
    funext i; simp
   rw[BI];cases aF:(List.range (min a.length b.length)).find? fun i=>a.getD i 0 != b.getD i 0 with
   | none=>simp only[Option.map_none]; congr 1<;>simp
   | some i=>simp
  ·have bY:(x != y)=true:=by simp[mr]
   simp only[bY,oW,if_neg mr,List.getD_cons_zero]
theorem Uh {α:Type} {p q:α->Bool}:∀ (l:List α),(∀ x∈l,p x=q x)->l.find? p=l.find? q
 | [],_=>rfl
 | x::l,h=>by
  rw[azm,azm,h x (by simp),Uh l (fun y aI=>h y (by simp[aI]))]
theorem wQ (a b:ByteArray) :Extern.BytealgCompare.cmp a b=oW a.data.toList b.data.toList:=by
 rw[<-TG];unfold Extern.BytealgCompare.cmp;have ax:∀ (a:ByteArray) (i:Nat),i<a.size->a[i]! = a.data.toList.getD i 0:=fun a i ay=>by
  simp only[aw7,ayd];rw[getElem!_pos a i ay];have:i<a.data.size:=ay;rw[axZ this]; rfl
 have al:∀ a:ByteArray,a.data.toList.length=a.size:=fun a=>by rw[ayK]; rfl
 rw[al,al];have MM:(List.range (min a.size b.size)).find? (fun i=>a[i]! != b[i]!)=(List.range (min a.size b.size)).find? (fun i=>a.data.toList.getD i 0 != b.data.toList.getD i 0) :=by
  apply Uh;intro i ay;have:=axz.1 ay;rw[ax a i (by omega),ax b i (by omega)]
 rw[MM];cases aF:(List.range (min a.size b.size)).find? (fun i=>a.data.toList.getD i 0 != b.data.toList.getD i 0) with
 | none=>rfl
 | some i=>
  have:=axz.1 (azD aF);simp only;rw[ax a i (by omega),ax b i (by omega)]
theorem aeR {fn:Func} (aC:fn.name= "internal/bytealg.Compare") (av:fn.origin= ""\/fn.origin= "internal/bytealg.Compare") :Extern.find fn=some Extern.BytealgCompare.compare/\Extern.findNext fn=none:=by
 constructor
 ·unfold Extern.find;simp only[aC];rfl
 ·unfold Extern.findNext;simp only[aC];rcases av with av | av<;>rw[av]<;>rfl
theorem aeH (rel:bP R B w h μ) {f:FuncId} {fn:Func} {args:List U} {vs:Array Value} {c:U} (aF:P.funcs[f]? = some fn) (ay:Fo fn=true) (ah:DD h args=some c)
  (al:vs.size=args.length) (ao:∀ (j:Nat) (c:U) (v:Value),args[j]? = some c->vs[j]? = some v->aQ w R h μ c v) :
  ∃ v,(callFunc f vs).run P w=.ok (.value v) w/\aQ w R h μ c v:=by
 unfold Fo at ay;simp only[awZ,ayN,beq_iff_eq] at ay;obtain⟨⟨af,aC⟩,av⟩:=ay;unfold DD at ah;split at ah
 ·rename_i x y;split at ah
  ·rename_i a b aE bN;simp only[Option.some.injEq] at ah; subst ah;simp only[axa,axB] at al;have ix:vs=#[vs[0],vs[1]] :=by
    apply Array.ext
    ·simpa using al
    ·intro i ad ae;rcases (show i=0\/i=1 by simp at ae; omega) with rfl | rfl<;>rfl
   obtain⟨ba,ad,ae⟩:=RL (P:=P) rel aE (ao 0 x vs[0] rfl (by simp[al]));obtain⟨aqT,aj,aD⟩:=RL (P:=P) rel bN (ao 1 y vs[1] rfl (by simp[al]));obtain⟨aS,bt⟩:=aeR aC av;refine⟨.int .i64 (oW a b),?_,.int _ _⟩;rw[ix];have bY:fn.name≠ "runtime.NumGoroutine":=by rw[aC]; decide
   have af:=azE.1 af;have ME:Extern.BytealgCompare.compare #[vs[0],vs[1]]=(do pure (goInt (Extern.BytealgCompare.cmp (<-Extern.Bytes.bytesOf vs[0]) (<-Extern.Bytes.bytesOf vs[1])))) :=rfl;simp[callFunc,aF,bY,af,aS,bt,mark,Sem.run,ME,ad,aj,wQ,ae,aD,goInt]
  ·cases ah
 ·cases ah
end

section
variable {P:Program} {w:World} {R:Nat->Prop} {B:Nat} {h:aO} {μ:cr}
inductive yD:Value->Value->Prop where
 | bool (a b:Bool) :yD (.bool a) (.bool b)
 | agg (a b:Array Value) :yD (.agg a) (.agg b)
 | slice (a:Option Addr) (l c:Nat) (cV:Option Addr) (l' c' : Nat) :yD (.slice a l c) (.slice cV l' c')
theorem aez {d:Nat} {t:TypeId} {x y:U} {b:Bool} {bH gx:Value} (am:eH P d t x y=some b) (ag:aQ w R h μ x bH) (aI:aQ w R h μ y gx)
  (ay:∀ k a k' aZ,x=.int k a->y=.int k' aZ->False) (ak:∀ a aZ,x=.str a->y=.str aZ->False) :yD bH gx:=by
 cases d with
 | zero=>simp[eH] at am
 | succ d=>
  unfold eH at am;split at am
  ·cases ag; cases aI; exact .bool _ _
  ·exact (ay _ _ _ _ rfl rfl).elim
  ·exact (ak _ _ rfl rfl).elim
  ·cases ag; cases aI; exact .agg _ _
  ·cases ag; cases aI; exact .agg _ _
  ·cases ag; cases aI; exact .slice _ _ _ _ _ _
  ·cases ag; cases aI<;>exact .slice _ _ _ _ _ _
  ·cases ag; cases aI<;>exact .slice _ _ _ _ _ _
  ·cases ag<;>cases aI<;>exact .slice _ _ _ _ _ _
  ·cases ag<;>cases aI<;>exact .slice _ _ _ _ _ _
  ·cases am
theorem aew {op:BinOp} {t:TypeId} {vY ud:Operand} {bH gx:Value} (ak:yD bH gx) (ax:∀ a b,bH=.agg a->gx=.agg b->P.eqGuardType P.depth t=false) :(eqGuard op t vY ud bH gx).run P w=.ok () w:=by
 cases ak with
 | bool a b=>cases op<;>rfl
 | agg a b=>exact run_eqGuard_agg w op t vY ud a b (ax a b rfl rfl)
 | slice=>cases op<;>rfl
theorem anZ {t:TypeId} {bH gx:Value} {b:Bool} (ak:yD bH gx) (g6:(Op.equalIn 10000 t bH gx).run P w=.ok b w) :
  (binOp .eql t bH gx).run P w=.ok (.bool b) w/\(binOp .neq t bH gx).run P w=.ok (.bool (!b)) w:=by
 have aN:(Op.equal t bH gx).run P w=.ok b w:=g6;cases ak<;>constructor<;>simp[binOp,aN]
theorem aev {op:BinOp} {t:TypeId} {vY ud:Operand} {k k' : IntKind} {a b:Int}:(eqGuard op t vY ud (.int k a) (.int k' b)).run P w=.ok () w:=by
 cases op<;>rfl
theorem aex {op:BinOp} {t:TypeId} {vY ud:Operand} {a b:ByteArray}:(eqGuard op t vY ud (.string a) (.string b)).run P w=.ok () w:=by
 cases op<;>rfl
theorem acG {op:BinOp} {t:TypeId} {vY ud:Operand} {x y c:U} {bH gx:Value} (ah:fz P op t x y=some c) (ag:aQ w R h μ x bH) (aI:aQ w R h μ y gx) :
  ∃ v,((do eqGuard op t vY ud bH gx; binOp op t bH gx:Sem Value)).run P w=.ok v w/\aQ w R h μ c v:=by
 unfold fz at ah;split at ah
 ·cases ag; cases aI;obtain⟨v,ad,ae⟩:=acH (P:=P) (w:=w) (R:=R) (h:=h) (μ:=μ) (t:=t) ah;exact⟨v,by simp[aev,ad],ae⟩
 ·cases ag; cases aI;obtain⟨v,ad,ae⟩:=acI (P:=P) (w:=w) (R:=R) (h:=h) (μ:=μ) (t:=t) ah;exact⟨v,by simp[aex,ad],ae⟩
 ·rename_i zu tH;have key:∀ b,uV P t x y=true->eH P 10000 t x y=some b->yD bH gx/\(eqGuard op t vY ud bH gx).run P w=.ok () w ∧
    (binOp .eql t bH gx).run P w=.ok (.bool b) w/\(binOp .neq t bH gx).run P w=.ok (.bool (!b)) w:=by
   intro b cM am;have pY:=aez am ag aI zu tH;have ax:∀ a b,bH=.agg a->gx=.agg b->P.eqGuardType P.depth t=false:=by
    rintro a b rfl rfl;cases ag with
    | aH cs _ _ _ _=>
     cases aI with
     | aH cs' _ _ _ _=>simpa [uV] using cM
     | bad=>simp[eH] at am
    | bad=>cases aI<;>simp[eH] at am
   have aN:=LV 10000 t x y b bH gx am ag aI;obtain⟨bZ,ce⟩:=anZ pY aN;exact⟨pY,aew pY ax,bZ,ce⟩
  split at ah
  ·split at ah
   ·rename_i cM;cases am:eH P 10000 t x y with
    | none=>rw[am] at ah; cases ah
    | some b=>
     rw[am] at ah;simp only[aw0,Option.some.injEq] at ah; subst ah;obtain⟨_,bZ,ce,_⟩:=key b cM am;exact⟨.bool b,by simp[bZ,ce],.bool _⟩
   ·cases ah
  ·split at ah
   ·rename_i cM;cases am:eH P 10000 t x y with
    | none=>rw[am] at ah; cases ah
    | some b=>
     rw[am] at ah;simp only[aw0,Option.some.injEq] at ah; subst ah;obtain⟨_,bZ,_,ce⟩:=key b cM am;exact⟨.bool (!b),by simp[bZ,ce],.bool _⟩
   ·cases ah
  ·cases ah
theorem apA {op:UnOp} {x c:U} {bH:Value} (ah:rB op x=some c) (ag:aQ w R h μ x bH) :∃ v,(Op.unary op bH).run P w=.ok v w/\aQ w R h μ c v:=by
 unfold rB at ah;split at ah
 ·simp only[Option.some.injEq] at ah; subst ah;cases ag;exact⟨_,by simp[Op.unary],.bool _⟩
 ·simp only[Option.some.injEq] at ah; subst ah;cases ag;refine⟨_,?_,.int _ _⟩;simp only[Op.unary]; rfl
 ·simp only[Option.some.injEq] at ah; subst ah;cases ag;refine⟨_,?_,.int _ _⟩;simp only[Op.unary]; rfl
 ·cases ah
theorem O3 {aB:Operand->U} {ek:Operand->Value} (c9:∀ x,aQ w R h μ (aB x) (ek x)) (o:Option Operand) :yH w R h μ (o.map aB) (o.map ek) :=by
 cases o with
 | none=>trivial
 | some x=>exact c9 x
def Dd (P:Program) (R:Nat->Prop) (B:Nat) (w:World) (h:aO) (μ:cr) (r:Result Next) :qw->Prop
 | .val c h'=>Good R B w h μ r c h'
 | .call f args h'=>h'=h/\∃ vs:Array Value,r=.ok (.enter f vs) w/\vs.size=args.length/\∀ (j:Nat) (c:U) (v:Value),args[j]? = some c->vs[j]? = some v->aQ w R h μ c v
theorem Good.mk {r:Result Next} {c:U} {h' : aO} {v:Value} {w' : World} {μ' : cr} (az:r=.ok (.value v) w') (am:dg w h μ w' h' μ') (al:bP R B w' h' μ') (ao:aQ w' R h' μ' c v) :Good R B w h μ r c h':=
 ⟨v,w',μ',.inl az,am,al,ao⟩
theorem ac6 (rel:bP R B w h μ) {b:Builtin} {ts:Array TypeId} {ty:TypeId} {consts:Array Bool} {args:List U} {vs:Array Value} {r:qw} (ak:qE P h b ts.toList args=some r)
  (al:vs.size=args.length) (ao:∀ (j:Nat) (c:U) (v:Value),args[j]? = some c->vs[j]? = some v->aQ w R h μ c v) :Dd P R B w h μ ((builtin b ts ty consts vs).run P w) r:=by
 have one:∀ x,args=[x]->∃ bH,vs=#[bH]/\aQ w R h μ x bH:=by
  intro x ag;subst ag;simp only[axa,axB] at al;refine⟨vs[0],?_,ao 0 x _ rfl (by simp[al])⟩;apply Array.ext
  ·simpa using al
  ·intro i ad ae;have:i=0:=by omega
   subst this; rfl
 have two:∀ x y,args=[x,y]->∃ bH gx,vs=#[bH,gx]/\aQ w R h μ x bH/\aQ w R h μ y gx:=by
  intro x y ag;subst ag;simp only[axa,axB] at al;refine⟨vs[0],vs[1],?_,ao 0 x _ rfl (by simp[al]),ao 1 y _ rfl (by simp[al])⟩;apply Array.ext
  ·simpa using al
  ·intro i ad ae;rcases (show i=0\/i=1 by simp at ae; omega) with rfl | rfl<;>rfl
 have Le:∀ t,ts.toList=[t]->ts=#[t] :=fun t aX=>by apply Array.toList_inj.1; simpa using aX
 have Rk:∀ t u,ts.toList=[t,u]->ts=#[t,u] :=fun t u aX=>by apply Array.toList_inj.1; simpa using aX
 unfold qE at ak;split at ak
 ·rename_i t x ol;obtain⟨bH,rfl,ag⟩:=one x rfl;obtain rfl:=Le t ol;split at ak
  ·rename_i c ah;simp only[Option.some.injEq] at ak; subst ak;obtain⟨v,ad,ae⟩:=akg (P:=P) (ty:=ty) rel ah ag;exact Good.mk (by simp[builtin,ad]) (.refl _ _ _) rel ae
  cases ah:zS P t x with
  | none=>rw[ah] at ak; cases ak
  | some c=>
   rw[ah] at ak;simp only[aw0,Option.some.injEq] at ak; subst ak;obtain⟨v,ad,ae⟩:=akh (P:=P) (u:=t) (ty:=ty) ah ag;exact Good.mk (by simp[builtin,ad]) (.refl _ _ _) rel ae
 ·rename_i t u s x ol;obtain⟨nL,bH,rfl,pX,ag⟩:=two s x rfl;obtain rfl:=Rk t u ol;split at ak
  ·rename_i k aM;cases ah:Dl P h t s x with
   | none=>rw[ah] at ak; cases ak
   | some c=>
    obtain⟨c,h'⟩:=c;rw[ah] at ak;simp only[aw0,Option.some.injEq] at ak; subst ak;obtain⟨v,w',μ',ad,ae,aj,aD⟩:=acr (ty:=ty) rel aM ah pX ag;exact Good.mk (by simp[builtin,ad]) ae aj aD
  ·cases ak
  ·rename_i pS vt;cases ah:tf P h t s x with
   | none=>rw[ah] at ak; cases ak
   | some c=>
    obtain⟨c,h'⟩:=c;rw[ah] at ak;simp only[aw0,Option.some.injEq] at ak; subst ak;have aM:Cq P u:=by
     cases bg:P.underlying u with
     | none=>exact absurd bg vt
     | some d=>exact⟨d,bg,fun k ar=>pS k (by rw[bg,ar])⟩
    obtain⟨v,w',μ',ad,ae,aj,aD⟩:=Ld (ty:=ty) rel aM ah pX ag;exact Good.mk (by simp[builtin,ad]) ae aj aD
 ·rename_i t u d x ol;obtain⟨LN,bH,rfl,bg,ag⟩:=two d x rfl;obtain rfl:=Rk t u ol;cases ah:A4 P h t d x with
  | none=>rw[ah] at ak; cases ak
  | some c=>
   obtain⟨c,h'⟩:=c;rw[ah] at ak;simp only[aw0,Option.some.injEq] at ak; subst ak;obtain⟨v,w',ad,ae,aj,aD⟩:=adS (u:=u) (ty:=ty) rel ah bg ag;exact Good.mk (by simp[builtin,ad]) ae aj aD
 ·rename_i t x ol;obtain⟨bH,rfl,ag⟩:=one x rfl;obtain rfl:=Le t ol;cases ah:AV P t x with
  | none=>rw[ah] at ak; cases ak
  | some c=>
   rw[ah] at ak;simp only[aw0,Option.some.injEq] at ak; subst ak;obtain⟨v,ad,ae⟩:=adj (P:=P) (ty:=ty) ah ag;exact Good.mk (by simp[builtin,ad]) (.refl _ _ _) rel ae
 ·rename_i t x ol;obtain⟨bH,rfl,ag⟩:=one x rfl;obtain rfl:=Le t ol;cases ah:AZ P h t x with
  | none=>rw[ah] at ak; cases ak
  | some h'=>
   rw[ah] at ak;simp only[aw0,Option.some.injEq] at ak; subst ak;obtain⟨w',ad,ae,aj⟩:=ady (P:=P) (ty:=ty) rel ah ag;exact Good.mk (v:=.tuple #[]) (by simp[builtin,ad]) ae aj (.bq [] #[] rfl (fun _ _ _ aT=>by simp at aT))
 ·rename_i x y;obtain⟨bH,gx,rfl,ag,aI⟩:=two x y rfl;cases ah:xO x y with
  | none=>rw[ah] at ak; cases ak
  | some c=>
   rw[ah] at ak;simp only[aw0,Option.some.injEq] at ak; subst ak;unfold xO at ah;split at ah
   ·split at ah
    ·rename_i ar; subst ar;simp only[Option.some.injEq] at ah; subst ah;cases ag; cases aI;refine Good.mk (v:=.int _ _) ?_ (.refl _ _ _) rel (.int _ _);simp[builtin,Builtin.min_,Builtin.min2]
    ·cases ah
   ·cases ah
 ·rename_i x y;obtain⟨bH,gx,rfl,ag,aI⟩:=two x y rfl;cases ah:vS x y with
  | none=>rw[ah] at ak; cases ak
  | some c=>
   rw[ah] at ak;simp only[aw0,Option.some.injEq] at ak; subst ak;unfold vS at ah;split at ah
   ·split at ah
    ·rename_i ar; subst ar;simp only[Option.some.injEq] at ah; subst ah;cases ag; cases aI;refine Good.mk (v:=.int _ _) ?_ (.refl _ _ _) rel (.int _ _);simp[builtin,Builtin.max_,Builtin.max2]
    ·cases ah
   ·cases ah
 ·cases ak
theorem Tl {f:FuncId} {fn:Func} {vs:Array Value} (aF:P.funcs[f]? = some fn) (af:fn.body.isSome=true) (aC:fn.name≠ "runtime.NumGoroutine") :(callFunc f vs).run P w=.ok (.enter f vs) w:=by
 have bN:fn.body≠none:=fun aT=>by rw[aT] at af; cases af
 simp[callFunc,aF,aC,bN]
theorem OA {aB:Operand->U} {ek:Operand->Value} (c9:∀ x,aQ w R h μ (aB x) (ek x)) (xs:Array Operand) :
  ∀ (j:Nat) (c:U) (v:Value),(xs.toList.map aB)[j]? = some c->(xs.map ek)[j]? = some v->aQ w R h μ c v:=by
 intro j c v ai ao;rw[awV] at ai;rw[ay9] at ao;cases av:xs[j]? with
 | none=>simp[av] at ao
 | some o=>
  simp[av] at ai ao;subst ai ao;exact c9 o
theorem akT {t:TypeId} {name:String} {g:FuncId} (hm:zY P t name=some g) (u:Value) :(Go.method (P.types.size+Made.depth) t u name).run P w=.ok (g,u) w:=by
 unfold zY at hm;split at hm
 ·cases hm
 ·cases hm
 ·rename_i B3 NK;split at hm
  ·rename_i i ay;split at hm
   ·rename_i m aF;split at hm
    ·rename_i f au iR;cases hm;obtain⟨k,ar⟩:∃ k,P.types.size+Made.depth=k+1:=⟨P.types.size+Made.depth - 1,by unfold Made.depth; omega⟩
     rw[ar];cases bg:P.underlying t with
     | none=>exact absurd bg NK
     | some d=>
      have atg:m.path=#[] :=Array.toList_eq_nil_iff.1 au;cases d<;>first
       | (exfalso; exact B3 _ bg)
       | simp[Go.method,typeInfo,ay,aF,au,iR,follow,receiverAt,cB bg,Place.get]
    ·cases hm
   ·cases hm
  ·cases hm
theorem ao3 {t QG:TypeId} {ok:Bool} {z c x:U} {v:Value} (aw:Kw P t=some z) (ah:CT t z ok x=some c) (ag:aQ w R h μ x v) :
  ∃ v',(Instr.typeAssert v QG t ok).run P w=.ok v' w/\aQ w R h μ c v':=by
 unfold Kw at aw;split at aw
 ·cases aw
 ·cases aw
 ·rename_i B3 NK;cases bg:P.underlying t with
  | none=>exact absurd bg NK
  | some d=>
   obtain⟨zv,zK,mu⟩:=abG (P:=P) (w:=w) (R:=R) (h:=h) (μ:=μ) aw;have two:∀ (a:U) (iN:Value) (q:Bool),aQ w R h μ a iN->aQ w R h μ (.bq [a,.bool q]) (.tuple #[iN,.bool q]) :=by
    intro a iN q aE;refine .bq _ _ rfl (fun j c v ai ao=>?_)
    match j,ai,ao with
    | 0,ai,ao=>simp at ai ao; subst ai ao; exact aE
    | 1,ai,ao=>simp at ai ao; subst ai ao; exact .bool q
    | j+2,ai,ao=>simp at ai
   cases x<;>simp only[CT] at ah<;>try (cases ah; done)
   case kU=>
    cases ag;cases ok<;>simp only at ah<;>cases ah;refine⟨.tuple #[zv,.bool false],?_,two _ _ _ mu⟩;cases d<;>first
     | (exfalso; exact B3 _ bg)
     | simp[Instr.typeAssert,cB bg,zK]
   case hM gT rY=>
    cases ag with
    | hM _ _ u aM=>
     split at ah
     ·rename_i aX;have aX:=axt aX;subst aX;cases ok<;>simp only at ah<;>cases ah
      ·refine⟨u,?_,aM⟩;cases d<;>first
        | (exfalso; exact B3 _ bg)
        | simp[Instr.typeAssert,cB bg]
      ·refine⟨.tuple #[u,.bool true],?_,two _ _ _ aM⟩;cases d<;>first
        | (exfalso; exact B3 _ bg)
        | simp[Instr.typeAssert,cB bg]
     ·rename_i aX;have aX:gT≠t:=fun h=>by rw[h,azk] at aX; cases aX
      cases ok<;>simp only at ah<;>cases ah;refine⟨.tuple #[zv,.bool false],?_,two _ _ _ mu⟩;cases d<;>first
       | (exfalso; exact B3 _ bg)
       | simp[Instr.typeAssert,cB bg,zK,aX]
theorem adf (rel:bP R B w h μ) {aB:Operand->U} {ek:Operand->Value} (c9:∀ x,aQ w R h μ (aB x) (ek x)) {c:Call} {ty:TypeId} {r:qw} (ak:wG P h aB c=some r) :
  Dd P R B w h μ ((do let d <-resolve ek c ty; invoke d.target d.args:Sem Next).run P w) r:=by
 unfold wG at ak;split at ak
 ·rename_i b af;have:=fun consts=>ac6 (P:=P) (b:=b) (ts:=c.argTypes) (ty:=ty) (consts:=consts) (args:=c.args.toList.map aB) (vs:=c.args.map ek) rel ak (by simp)
   (fun j x v ai ao=>by
    rw[awV] at ai;rw[ay9] at ao;cases av:c.args[j]? with
    | none=>simp[av] at ao
    | some o=>
     simp[av] at ai ao;subst ai ao;exact c9 o)
  simp only[resolve,af,Sem.run_bind,Sem.run_pure,Result.andThen_ok,invoke];exact this _
 ·rename_i f aF;split at ak
  ·rename_i g first gL iR
   have ao:=c9 f;rw[iR] at ao;cases xf:ek f with
   | func aso fs cs=>
    rw[xf] at ao;cases ao with
    | fn _ _ _ _ _ ad ae aj aD=>
     split at ak
     ·rename_i fn BI;have H8:∀ (j:Nat) (x:U) (v:Value),(first++c.args.toList.map aB++gL)[j]? = some x->(fs++c.args.map ek++cs)[j]? = some v->aQ w R h μ x v:=by
       intro j x v ai mq;by_cases q5:j<first.length
       ·rw[axH,awS q5] at ai;rw[ay7,ax3 (by omega)] at mq;exact aj j x v ai mq
       ·by_cases q6:j<first.length+c.args.size
        ·rw[awS (by simp; omega),aw6 (by omega),awV] at ai;rw[ax3 (by simp; omega),ayg (by omega),ay9,ad] at mq;cases av:c.args[j - first.length]? with
         | none=>simp[av] at mq
         | some o=>
          simp[av] at ai mq;subst ai mq;exact c9 o
        ·rw[aw6 (by simp; omega)] at ai;rw[ayg (by simp; omega)] at mq;refine aD _ x v ai ?_;simpa [ad] using mq
      split at ak
      ·rename_i kh;simp only[Option.some.injEq] at ak; subst ak;refine⟨rfl,fs++c.args.map ek++cs,?_,by simp[ad,ae],H8⟩;simp[resolve,aF,xf,Deferred.ofValue,invoke,Tl BI kh.1 kh.2]
      ·split at ak
       ·rename_i ME;cases c8:DD h (first++c.args.toList.map aB++gL) with
        | none=>rw[c8] at ak; cases ak
        | some arx=>
         rw[c8] at ak;simp only[aw0,Option.some.injEq] at ak; subst ak;obtain⟨v,aS,bt⟩:=aeH (P:=P) (vs:=fs++c.args.map ek++cs) rel BI ME c8 (by simp[ad,ae]) H8;rw[ay7] at aS;exact Good.mk (by simp[resolve,aF,xf,Deferred.ofValue,invoke,aS]) (.refl _ _ _) rel bt
       ·cases ak
     ·cases ak
   | _=>rw[xf] at ao; cases ao
  ·cases ak
 ·rename_i x name ah;split at ak
  ·rename_i t v0 ag;have ao:=c9 x;rw[ag] at ao;split at ak
   ·rename_i g hm;split at ak
    ·rename_i fn BI;split at ak
     ·rename_i kh;simp only[Option.some.injEq] at ak; subst ak;cases xf:ek x with
      | iface gT u=>
       rw[xf] at ao;cases ao with
       | hM _ _ _ aM=>
        refine⟨rfl,#[u]++c.args.map ek,?_,by simp; omega,?_⟩
        ·have ahF:=akT (P:=P) (w:=w) hm u;have aJ:(#[Value.iface t u]++c.args.map ek)[0]? = some (Value.iface t u) :=by rw[ax3 (by simp)]; rfl
         have hL:(c.args.map ek).extract 0 c.args.size=c.args.map ek:=by
          apply Array.ext';simp[awR]
         simp[aJ,hL,resolve,ah,xf,invoke,callMethod,ahF,Tl BI kh.1 kh.2]
        ·intro j x v ai mq;cases j with
         | zero=>
          rw[ax3 (by simp)] at mq;simp at ai mq; subst ai mq; exact aM
         | succ j=>
          rw[axG] at ai;rw[ayg (by simp)] at mq;exact OA c9 c.args j x v ai (by simpa using mq)
      | _=>rw[xf] at ao; cases ao
     ·cases ak
    ·cases ak
   ·cases ak
  ·cases ak
theorem Pc {aB:Operand->U} {ek:Operand->Value} (c9:∀ x,aQ w R h μ (aB x) (ek x)) (ps:Array (Nat × Operand)) :
  (ps.map fun (i,x)=>(i,ek x)).size=(ps.toList.map fun p=>(p.1,aB p.2)).length ∧
  ∀ (j:Nat) (p:Nat × U) (cv:Nat × Value),(ps.toList.map fun p=>(p.1,aB p.2))[j]? = some p->(ps.map fun (i,x)=>(i,ek x))[j]? = some cv->cv.1=p.1/\aQ w R h μ p.2 cv.2:=by
 refine⟨by simp,fun j p cv ai fl=>?_⟩;rw[awV] at ai;rw[ay9] at fl;cases av:ps[j]? with
 | none=>simp[av] at fl
 | some o=>
  simp[av] at ai fl;subst ai fl;exact⟨rfl,c9 o.2⟩
theorem P8 (rel:bP R B w h μ) {aB:Operand->U} {ek:Operand->Value} (c9:∀ x,aQ w R h μ (aB x) (ek x)) (o:Oper) {r:qw} (ak:c4 P h aB o.op=some r) :
  Dd P R B w h μ ((execOp ek o).run P w) r:=by
 obtain⟨dst,op,type,pos,after,guard⟩:=o;have p6:∀ {x:Option U} {m:Sem Value},(∀ c,x=some c->∃ v,m.run P w=.ok v w/\aQ w R h μ c v)->x.map (fun y=>qw.val y h)=some r->
   Dd P R B w h μ ((do pure (.value (<-m)) :Sem Next).run P w) r:=by
  intro x m ag az;cases fW:x with
  | none=>rw[fW] at az; cases az
  | some c=>
   rw[fW] at az;simp only[aw0,Option.some.injEq] at az; subst az;obtain⟨v,ad,ae⟩:=ag c fW;exact Good.mk (by simp[ad]) (.refl _ _ _) rel ae
 have JK:∀ {x:Option (U × aO)} {m:Sem Value},(∀ c h',x=some (c,h')->∃ v w' μ',m.run P w=.ok v w'/\dg w h μ w' h' μ'/\bP R B w' h' μ'/\aQ w' R h' μ' c v)->x.map (fun y=>qw.val y.1 y.2)=some r->
   Dd P R B w h μ ((do pure (.value (<-m)) :Sem Next).run P w) r:=by
  intro x m ag az;cases fW:x with
  | none=>rw[fW] at az; cases az
  | some c=>
   obtain⟨c,h'⟩:=c;rw[fW] at az;simp only[aw0,Option.some.injEq] at az; subst az;obtain⟨v,w',μ',ad,ae,aj,aD⟩:=ag c h' fW;exact Good.mk (by simp[ad]) ae aj aD
 cases op
 case move x=>
  simp only[c4,Option.some.injEq] at ak; subst ak;exact Good.mk (by simp[execOp]) (.refl _ _ _) rel (c9 x)
 case assign x=>
  simp only[c4,Option.some.injEq] at ak; subst ak;exact Good.mk (by simp[execOp]) (.refl _ _ _) rel (c9 x)
 case pick c a b=>
  simp only[c4] at ak;have lf:=c9 c;cases ah:aB c<;>rw[ah] at ak lf<;>simp only at ak<;>try (cases ak; done)
  simp only[Option.some.injEq] at ak; subst ak;cases ao:ek c<;>rw[ao] at lf<;>try (cases lf; done)
  cases lf;rename_i t;cases t
  ·exact Good.mk (v:=ek b) (by simp[execOp,ao,asBool]) (.refl _ _ _) rel (by simpa using c9 b)
  ·exact Good.mk (v:=ek a) (by simp[execOp,ao,asBool]) (.refl _ _ _) rel (by simpa using c9 a)
 case alloc t=>
  simp only[c4] at ak;cases aw:ik P t with
  | none=>rw[aw] at ak; cases ak
  | some z=>
   rw[aw] at ak;simp only[aw0,Option.some.injEq] at ak; subst ak;obtain⟨v,ao,az⟩:=yC (P:=P) (w:=w) (R:=R) (h:=h) (μ:=μ) aw;obtain⟨a8,bh,b6⟩:=He rel (cs:=z) (vs:=v.cells) t az.1 az.2;exact Good.mk (by simp[execOp,Instr.alloc,ao,newVar,newRow]) a8 bh (b6 0)
 case box t x=>
  simp only[c4] at ak;cases aw:(aB x).cells with
  | none=>rw[aw] at ak; cases ak
  | some z=>
   rw[aw] at ak;simp only[aw0,Option.some.injEq] at ak; subst ak;obtain⟨bZ,ce⟩:=Hv (c9 x) aw;obtain⟨a8,bh,b6⟩:=He rel (cs:=z) (vs:=(ek x).cells) t bZ ce;exact Good.mk (by simp[execOp,Instr.box,newVar,newRow]) a8 bh (b6 0)
 case build t parts=>
  obtain⟨bZ,ce⟩:=Pc c9 parts;exact p6 (fun c ah=>ac4 ah bZ ce) ak
 case buildSlice t len parts=>
  obtain⟨bZ,ce⟩:=Pc c9 parts;exact JK (fun c h' ah=>ac3 rel ah bZ ce) ak
 case load t a=>exact p6 (fun c ah=>XV rel ah (c9 a)) ak
 case store t a x=>
  simp only[c4] at ak;cases bE:yh P h t (aB a) (aB x) with
  | none=>rw[bE] at ak; cases ak
  | some h'=>
   rw[bE] at ak;simp only[aw0,Option.some.injEq] at ak; subst ak;obtain⟨w',ad,ae,aj⟩:=aas (P:=P) rel bE (c9 a) (c9 x);exact⟨undef,w',μ,.inr ⟨by simp[execOp,ad],rfl⟩,ae,aj,.bq [] #[] rfl (fun _ _ _ aT=>by simp at aT)⟩
 case nilCheck x=>
  simp only[c4] at ak;have ao:=c9 x;cases ah:aB x<;>rw[ah] at ak ao<;>simp only at ak<;>try (cases ak; done)
  all_goals
   simp only[Option.some.injEq] at ak; subst ak;cases ag:ek x<;>rw[ag] at ao<;>try (cases ao; done)
   rename_i y;refine Good.mk (v:=ek x) ?_ (.refl _ _ _) rel (by rw[ag]; exact ao);cases ao<;>simp[execOp,ag]
 case binOp op t x y awM=>exact p6 (fun c ah=>acG ah (c9 x) (c9 y)) ak
 case unOp op t x=>exact p6 (fun c ah=>apA ah (c9 x)) ak
 case convert s d x=>
  simp only[c4] at ak;split at ak
  ·rename_i c ah;simp only[Option.some.injEq] at ak; subst ak;obtain⟨v,w',ad,ae,aj,aD⟩:=ac7 rel ah (c9 x);exact Good.mk (by simp[execOp,ad]) ae aj aD
  ·exact p6 (fun c ah=>adQ rel ah (c9 x)) ak
 case makeInterface t x=>
  simp only[c4] at ak;cases aM:P.underlying t with
  | none=>rw[aM] at ak; cases ak
  | some d=>
   rw[aM] at ak;cases d<;>simp only at ak<;>try (cases ak; done)
   all_goals
    simp only[Option.some.injEq] at ak; subst ak;exact Good.mk (v:=.iface t (ek x)) (by simp[execOp,Instr.makeInterface,cB aM]) (.refl _ _ _) rel (.hM t _ _ (c9 x))
 case makeFunc fn first gL=>
  cases fn<;>simp only[c4] at ak<;>try (cases ak; done)
  simp only[Option.some.injEq] at ak; subst ak;exact Good.mk (by simp[execOp,Instr.makeFunc]) (.refl _ _ _) rel (.fn _ _ _ _ _ (by simp) (by simp) (OA c9 first) (OA c9 gL))
 case makeSlice t l c=>exact JK (fun c' h' ah=>akO rel ah (c9 l) (c9 c)) ak
 case slice t x cK ay cL=>exact p6 (fun c ah=>aoz rel ah (c9 x) (O3 c9 cK) (O3 c9 ay) (O3 c9 cL)) ak
 case fieldAddr s x f=>exact p6 (fun c ah=>aeL ah (c9 x)) ak
 case field t x f=>
  simp only[c4] at ak;split at ak
  ·rename_i cs fd ag aF;have ao:=c9 x;rw[ag] at ao;exact p6 (fun c ah=>aeM aF ah ao) ak
  ·cases ak
 case indexAddr t x i=>exact p6 (fun c ah=>ai2 ah (c9 x) (c9 i)) ak
 case index t x i=>exact p6 (fun c ah=>Ob ah (c9 x) (c9 i)) ak
 case extract x i=>
  simp only[c4] at ak;have ao:=c9 x;cases ah:aB x<;>rw[ah] at ak ao<;>simp only at ak<;>try (cases ak; done)
  rename_i vs;cases ag:ek x<;>rw[ag] at ao<;>try (cases ao; done)
  rename_i arr;cases ao with
  | bq _ _ al NP=>
   refine p6 (m:=Instr.extract (ek x) i) (fun c ah=>?_) ak;have aL:i<arr.size:=by rw[al]; exact (awQ.1 ah).1
   exact⟨arr[i],by simp[Instr.extract,ag,aL],NP i c _ ah (by simp[aL])⟩
 case call c=>exact adf rel c9 ak
 case makeMap t r=>
  simp only[c4] at ak;split at ak
  ·rename_i k e aM az;simp only[Option.some.injEq] at ak; subst ak;obtain⟨v,w',μ',ad,ae,aj,aD⟩:=akN (P:=P) (t:=t) (r:=r.map ek) rel ⟨_,_,aM⟩ (fun x ag=>by
    cases r with
    | none=>cases ag
    | some o=>
     simp only[aw0,Option.some.injEq] at ag; subst ag;simp only at az;cases ay:asInt (aB o) with
     | none=>rw[ay] at az; cases az
     | some n=>
      obtain⟨k,ar⟩:=tg ay (c9 o);exact⟨k,n,ar⟩)
   exact Good.mk (by simp[execOp,ad]) ae aj aD
  ·cases ak
 case lookup t m k ok=>exact p6 (fun c ah=>akt rel ah (c9 m) (c9 k)) ak
 case mapUpdate t m k x=>
  simp only[c4] at ak;cases bE:zX P h t (aB m) (aB k) (aB x) with
  | none=>rw[bE] at ak; cases ak
  | some h'=>
   rw[bE] at ak;simp only[aw0,Option.some.injEq] at ak; subst ak;obtain⟨w',ad,ae,aj⟩:=X8 (P:=P) rel bE (c9 m) (c9 k) (c9 x);exact⟨undef,w',μ,.inr ⟨by simp[execOp,ad],rfl⟩,ae,aj,.bq [] #[] rfl (fun _ _ _ aT=>by simp at aT)⟩
 case insert t m k x=>
  simp only[c4] at ak;cases bE:zX P h t (aB m) (aB k) (aB x) with
  | none=>rw[bE] at ak; cases ak
  | some h'=>
   rw[bE] at ak;simp only[aw0,Option.some.injEq] at ak; subst ak;obtain⟨w',ad,ae,aj⟩:=X8 (P:=P) rel bE (c9 m) (c9 k) (c9 x);exact⟨undef,w',μ,.inr ⟨by simp[execOp,ad],rfl⟩,ae,aj,.bq [] #[] rfl (fun _ _ _ aT=>by simp at aT)⟩
 case range t x=>exact JK (fun c h' ah=>ann rel ah (c9 x)) ak
 case next it isS=>
  cases isS with
  | false=>simp only[c4] at ak; cases ak
  | true=>exact JK (fun c h' ah=>by obtain⟨v,w',ad,ae,aj,aD⟩:=ale (P:=P) (ty:=type) rel ah (c9 it); exact⟨v,w',μ,ad,ae,aj,aD⟩) ak
 case typeAssert x QG t ok=>
  simp only[c4] at ak;split at ak
  ·rename_i z aw;exact p6 (fun c ah=>ao3 aw ah (c9 x)) ak
  ·cases ak
 all_goals (simp only[c4] at ak; cases ak)
end
inductive s4 where
 | normal
 | exit (id:Nat)
 | ret
def s4.out:s4->Exit
 | .normal=>.normal
 | .exit id=>.exit id
 | .ret=>.ret
def lE (ops:Array Oper) (σ:Nat->U) (o:Oper) :Option Bool:=
 match o.guard with
 | none=>some true
 | some (j,C2)=>match (ops[j]?).bind (·.dst) with
  | none=>some false
  | some d=>match σ d with
   | .bool b=>some (b == C2)
   | .bad=>none
   | _=>some false
def h1 (σ:Nat->U) (dst:Option Tmp) (c:U) :Nat->U:=match dst with | some d=>bB σ d c | none=>σ
def kf (N:Nat) (dst:Option Tmp) :Bool:=match dst with | some d=>decide (d<N) | none=>true
def CK (P:Program) (h:aO) (σ:Nat->U) :ResultVar->Option U
 | .tmp t=>some (σ t)
 | .cell a t=>tZ P h t (σ a)
def x5 (P:Program) (h:aO) (σ:Nat->U) :List ResultVar->Option (List U)
 | []=>some []
 | r::oD=>match CK P h σ r,x5 P h σ oD with
  | some v,some vs=>some (v::vs)
  | _,_=>none
def yl:List U->U
 | [v]=>v
 | vs=>.bq vs
def CJ (P:Program) (h:aO) (σ:Nat->U) (fn:Func) :Option U:=(x5 P h σ fn.results.toList).map yl
mutual
def U.closed:U->Bool
 | .aH cs=>a4 cs
 | .bq cs=>a4 cs
 | .bM cs _=>a4 cs
 | .a1 _ es=>uR es
 | .fn _ a b=>a4 a&&a4 b
 | .hM _ v=>v.closed
 | .ptr .. | .aq .. | .mp _ | .it _=>false
 | _=>true
def a4:List U->Bool
 | []=>true
 | c::cs=>c.closed&&a4 cs
def uR:List (List U)->Bool
 | []=>true
 | c::cs=>a4 c&&uR cs
end
def eh (w:World) (A:Nat->Prop) (c:U) (v:Value) :Prop:=aQ w A aO.empty (fun _=>none) c v
structure gb (w w' : World) :Prop extends RowKit.Below w.heap.size w w' where
 drawn:w.drawn<=w'.drawn
def m5 (G:Nat->U) (w:World) (R:Nat->Prop) (h:aO) (μ:cr) :Prop:=∀ g,(G g).closed=true/\aQ w R h μ (G g) (.pointer (some ⟨g,0,none⟩))
def rI (P:Program) (G:Nat->U) (f:FuncId) (args:List U) (h:aO) (r:U) (h' : aO) :Prop:=
 ∀ (R:Nat->Prop) (B:Nat) (w:World) (μ:cr) (vs:Array Value),bP R B w h μ->m5 G w R h μ->vs.size=args.length->
  (∀ (j:Nat) (c:U) (v:Value),args[j]? = some c->vs[j]? = some v->aQ w R h μ c v)->
  Calls P f vs w fun e w'=>∃ v μ',e=.returned v/\dg w h μ w' h' μ'/\bP R B w' h' μ'/\aQ w' R h' μ' r v
def bw (P:Program) (G:Nat->U) (f:FuncId) (args:List U) (r:U) :Prop:=
 ∀ (w:World) (A:Nat->Prop) (vs:Array Value),(∀ g,eh w A (G g) (.pointer (some ⟨g,0,none⟩)))->vs.size=args.length->
  (∀ (j:Nat) (c:U) (v:Value),args[j]? = some c->vs[j]? = some v->eh w A c v)->
  Calls P f vs w fun e w'=>∃ v,e=.returned v/\gb w w'/\eh w' (fun k=>A k\/w.heap.size<=k) r v
def gI (P:Program) (G:Nat->U) (f:FuncId) (args:List U) (r:U) :Prop:=
 ∀ (w:World) (A:Nat->Prop) (vs:Array Value),(∀ g,eh w A (G g) (.pointer (some ⟨g,0,none⟩)))->vs.size=args.length->
  (∀ (j:Nat) (c:U) (v:Value),args[j]? = some c->vs[j]? = some v->eh w A c v)->
  Calls P f vs w fun e w'=>∃ v,e=.returned v/\gb w w'/\eh w' (fun k=>w.heap.size<=k) r v
inductive gJ (h:aO) :U->U->Prop
 | same (c:U) (ah:c.closed=true) :gJ h c c
 | aH (cs cs' : List U) (al:cs'.length=cs.length) (ao:∀ (j:Nat) (c c' : U),cs[j]? = some c->cs'[j]? = some c'->gJ h c c') :gJ h (.aH cs) (.aH cs')
 | bq (cs cs' : List U) (al:cs'.length=cs.length) (ao:∀ (j:Nat) (c c' : U),cs[j]? = some c->cs'[j]? = some c'->gJ h c c') :gJ h (.bq cs) (.bq cs')
 | aq (z b off len cap sz:Nat) (cs:List U) (es:List (List U)) (af:h.f b=.cells sz cs) (al:es.length=len) (aw:∀ e∈es,e.length=z)
   (c7:off+len*z<=cs.length)
   (ao:∀ (i j:Nat) (e:List U) (c c' : U),es[i]? = some e->e[j]? = some c'->cs[off+(i*z+j)]? = some c->gJ h c c') :gJ h (.aq z b off len cap sz) (.a1 z es)
 | sV (z b off cap sz:Nat) :gJ h (.aq z b off 0 cap sz) (.a1 z [])
 | ptr (b off sz:Nat) (cs cs' : List U) (af:h.f b=.cells sz cs) (al:cs'.length=cs.length) (ao:∀ (j:Nat) (c c' : U),cs[j]? = some c->cs'[j]? = some c'->gJ h c c') :gJ h (.ptr b off sz) (.bM cs' off)
mutual
def U.flat:U->Bool
 | .aH cs=>mL cs
 | .bq cs=>mL cs
 | .hM _ v=>v.flat
 | .bool _ | .int .. | .str _ | .kV | .aG | .iY | .kT | .kU=>true
 | _=>false
def mL:List U->Bool
 | []=>true
 | c::cs=>c.flat&&mL cs
end
inductive GV where
 | pure | new | g3
def ow (P:Program) (aB:Operand->U) :Op->Option (List U × (Nat->U))
 | .alloc t=>(ik P t).map fun z=>(z,fun b=>.ptr b 0 z.length)
 | .box _ x=>(aB x).cells.map fun cs=>(cs,fun b=>.ptr b 0 cs.length)
 | .buildSlice t len parts=>match jc P t with
  | some e=>match cC P e,ik P e with
   | some z,some zero=>if zero.length=z/\len*z<=16777216 then
     (hU (fun i=>some (i*z,z)) (dH zero len) (parts.toList.map fun p=>(p.1,aB p.2))).map fun cs=>(cs,fun b=>.aq z b 0 len len (len*z))
    else none
   | _,_=>none
  | none=>none
 | .makeSlice t l c=>match jc P t,asInt (aB l),asInt (aB c) with
  | some e,some l,some c=>match cC P e,k7 P e,ik P e with
   | some z,some by_,some zero=>
    if zero.length=z/\0<=l/\l<=c/\c<9223372036854775808/\by_*c<=ci then
     some (dH zero c.toNat,fun b=>.aq z b 0 l.toNat c.toNat (c.toNat*z))
    else none
   | _,_,_=>none
  | _,_,_=>none
 | _=>none
def kA (ops:Array Oper) (t:Nat) :Option Nat:=(List.range ops.size).find? fun i=>match ops[i]? with | some o=>o.dst == some t | none=>false
def n1 (ops:Array Oper) (pre:Nat->Nat->Bool) (val:Nat->U) (σ:Nat->U) (i:Nat) (o:Oper) :Nat->U:=fun t=>
 if (o.looksAt ops).contains t then
  match kA ops t with
  | some j=>if pre i j then val j else σ t
  | none=>σ t
 else .bad
structure uz (ops:Array Oper) (pre:Nat->Nat->Bool) :Prop where
 DJ:∀ (i:Nat) (o:Oper) (e:Edge),ops[i]? = some o->e∈o.after->Region.binds .any e=true->e.on<i
 chain:∀ (i:Nat) (o:Oper) (j:Nat),ops[i]? = some o->pre i j=true->∃ e∈o.after,Region.binds .any e=true/\(e.on=j\/pre e.on j=true)
 one:∀ (i:Nat) (o:Oper) (t:Tmp),ops[i]? = some o->o.dst=some t->kA ops t=some i
 acc:∀ (i:Nat) (o:Oper) (t:Tmp) (j:Nat),ops[i]? = some o->t∈o.looksAt ops->kA ops t=some j->pre i j=true\/pre j i=true\/j=i
 awj:Region.noSelect ops=true
def x1 (h:aO) (l:List (List U)) :aO:=l.foldl (fun h cs=>h.push (.cells cs.length cs)) h
def px (h h' : aO) :Prop:=∃ l,h'=x1 h l
theorem Zc:∀ (l:List (List U)) (h:aO),(x1 h l).n=h.n+l.length
 | [],h=>rfl
 | c::l,h=>by
  have:=Zc l (h.push (.cells c.length c));simp only[x1,List.foldl_cons,List.length_cons] at this ⊢;rw[this];simp only[ep,fJ]; omega
theorem Zd:∀ (l:List (List U)) (h:aO) (b:Nat),b<h.n->(x1 h l).f b=h.f b
 | [],h,b,_=>rfl
 | c::l,h,b,af=>by
  have:=Zd l (h.push (.cells c.length c)) b (by simp only[ep,fJ]; omega);simp only[x1,List.foldl_cons] at this ⊢;rw[this];simp only[ep,fJ];exact b5 _ _ _ _ (by omega)
theorem Zb:∀ (l:List (List U)) (h:aO),(∀ b,h.n<=b->h.f b=.none)->∀ b,(x1 h l).n<=b->(x1 h l).f b=.none
 | [],h,aF=>aF
 | c::l,h,aF=>by
  refine Zb l (h.push (.cells c.length c)) (fun b af=>?_);simp only[ep,fJ] at af ⊢;rw[b5 _ _ _ _ (by omega)];exact aF b (by omega)
theorem px.n {h h' : aO} (g:px h h') :h.n<=h'.n:=by obtain⟨l,rfl⟩:=g; rw[Zc]; omega
theorem px.same {h h' : aO} (g:px h h') (b:Nat) (af:b<h.n) :h'.f b=h.f b:=by obtain⟨l,rfl⟩:=g; exact Zd l h b af
theorem px.fresh {h h' : aO} (g:px h h') (aF:∀ b,h.n<=b->h.f b=.none) :∀ b,h'.n<=b->h'.f b=.none:=by obtain⟨l,rfl⟩:=g; exact Zb l h aF
inductive nQ (h ae:aO) :U->U->Prop
 | same (c:U) :nQ h ae c c
 | aH (cs cs' : List U) (al:cs'.length=cs.length) (ao:∀ (j:Nat) (c c' : U),cs[j]? = some c->cs'[j]? = some c'->nQ h ae c c') :nQ h ae (.aH cs) (.aH cs')
 | aq (z b off len cap sz:Nat) (cs:List U) (es:List (List U)) (af:h.f b=.cells sz cs) (bg:ae.f b=.dead) (al:es.length=len) (aw:∀ e∈es,e.length=z)
   (c7:off+len*z<=cs.length)
   (ao:∀ (i j:Nat) (e:List U) (c c' : U),es[i]? = some e->e[j]? = some c'->cs[off+(i*z+j)]? = some c->nQ h ae c c') :nQ h ae (.aq z b off len cap sz) (.a1 z es)
 | sV (z b off cap sz:Nat) :nQ h ae (.aq z b off 0 cap sz) (.a1 z [])
structure nS (h ae:aO) :Prop where
 n:ae.n=h.n
 blk:∀ b,ae.f b=h.f b\/∃ sz cs,h.f b=.cells sz cs/\(ae.f b=.dead\/∃ hT,ae.f b=.cells sz hT/\hT.length=cs.length/\∀ (j:Nat) (c b7:U),cs[j]? = some c->hT[j]? = some b7->nQ h ae c b7)
inductive J where
 | code (c:Code) (N:Nat) (σ:Nat->U) (h:aO) (e:s4) (bG:Nat->U) (h' : aO)
 | ops (all:Array Oper) (l:List Oper) (N:Nat) (σ:Nat->U) (h:aO) (bG:Nat->U) (h' : aO)
 | op (op:Op) (σ:Nat->U) (h:aO) (v:U) (h' : aO)
 | call (f:FuncId) (args:List U) (h:aO) (r:U) (h' : aO)
def Bf (pre:Nat->Nat->Bool) (m:Nat) (ak:Nat->Nat) (i k:Nat) :Prop:=k<=m/\(∀ q,q<m->pre i (ak q)=true->q<k)/\∀ q,q<m->pre (ak q) i=true->k<=q
inductive dJ (P:Program) (G:Nat->U) :J->Prop where
 | skip (N σ h) :dJ P G (.code .skip N σ h .normal σ h)
 | label (l N σ h) :dJ P G (.code (.label l) N σ h .normal σ h)
 | ret (N σ h) :dJ P G (.code .ret N σ h .ret σ h)
 | exit (id N σ h) :dJ P G (.code (.exit id) N σ h (.exit id) σ h)
 | Z7 {a b N σ h il ad e bG h'}:dJ P G (.code a N σ h .normal il ad)->dJ P G (.code b N il ad e bG h')->dJ P G (.code (.seq a b) N σ h e bG h')
 | PV {a b N σ h e bG h'}:dJ P G (.code a N σ h e bG h')->e≠.normal->dJ P G (.code (.seq a b) N σ h e bG h')
 | cond {c x y N σ h b e bG h'}:c2 G σ c=.bool b->dJ P G (.code (if b then x else y) N σ h e bG h')->dJ P G (.code (.cond c x y) N σ h e bG h')
 | Hk {id c N σ h e bG h'}:dJ P G (.code c N σ h e bG h')->e≠.exit id->dJ P G (.code (.block id c) N σ h e bG h')
 | RB {id c N σ h bG h'}:dJ P G (.code c N σ h (.exit id) bG h')->dJ P G (.code (.block id c) N σ h .normal bG h')
 | Cl {c N σ h il ad e bG h'}:dJ P G (.code c N σ h .normal il ad)->dJ P G (.code (.loop c) N il ad e bG h')->dJ P G (.code (.loop c) N σ h e bG h')
 | OC {c N σ h e bG h'}:dJ P G (.code c N σ h e bG h')->e≠.normal->dJ P G (.code (.loop c) N σ h e bG h')
 | scope {c N σ h e bG h'}:dJ P G (.code c N σ h e bG h')->dJ P G (.code (.scope c) N σ h e bG h')
 | region {id ops N σ h bG h'}:dJ P G (.ops ops ops.toList N σ h bG h')->dJ P G (.code (.region id ops false) N σ h .normal bG h')
 | draw {id ops N σ h bG h'} (pre:Nat->Nat->Bool) (val:Nat->U) (W:Nat->Bool) (cls:Nat->GV) (m:Nat) (ak:Nat->Nat) (gc s7:Nat->aO) (hb:Nat->Nat) (cells:Nat->List U)
   (h4:uz ops pre)
   (qZ:∀ (i:Nat) (o:Oper),ops[i]? = some o->kf N o.dst=true)
   (aJ:px h (gc 0)) (hm:h'=gc m) (Jh:bG=fun t=>match kA ops t with | some i=>val i | none=>σ t)
   (zf:∀ (i:Nat) (o:Oper),ops[i]? = some o->W i=true->cls i=.g3->∃ q,q<m/\ak q=i)
   (EC:∀ q,q<m->∃ o,ops[ak q]? = some o/\W (ak q)=true/\cls (ak q)=.g3)
   (lk:∀ q q',q<m->q'<m->q<q'->pre (ak q') (ak q)=true)
   (sd:∀ q q',q<m->q'<m->ak q=ak q'->q=q')
   (tN:∀ (i:Nat) (o:Oper),ops[i]? = some o->lE ops (n1 ops pre val σ i o) o=some (W i))
   (xn:∀ (i:Nat) (o:Oper),ops[i]? = some o->W i=false->val i=gU)
   (I4:∀ (i:Nat) (o:Oper),ops[i]? = some o->W i=true->cls i=.pure->∀ k,Bf pre m ak i k->c4 P (gc k) (c2 G (n1 ops pre val σ i o)) o.op=some (.val (val i) (gc k)))
   (pT:∀ (i:Nat) (o:Oper),ops[i]? = some o->W i=true->cls i=.new->∃ mk,ow P (c2 G (n1 ops pre val σ i o)) o.op=some (cells i,mk)/\val i=mk (hb i)/\h.n<=hb i ∧
    ∀ k,Bf pre m ak i k->(gc k).f (hb i)=.cells (cells i).length (cells i))
   (Ie:∀ (i j:Nat) (o dG:Oper),ops[i]? = some o->ops[j]? = some dG->W i=true->W j=true->cls i=.new->cls j=.new->hb i=hb j->i=j)
   (Ig:∀ (i:Nat) (o:Oper) (q:Nat),ops[i]? = some o->W i=true->cls i=.new->q<m->hb i<(gc q).n\/(s7 q).n<=hb i)
   (q2:∀ q,q<m->px (s7 q) (gc (q+1)))
   (xd:∀ (q:Nat) (o:Oper),q<m->ops[ak q]? = some o->dJ P G (.op o.op (n1 ops pre val σ (ak q) o) (gc q) (val (ak q)) (s7 q))) :
   dJ P G (.code (.region id ops true) N σ h .normal bG h')
 | Yx {all N σ h}:dJ P G (.ops all [] N σ h σ h)
 | Yz {all o l N σ h bG h'}:lE all σ o=some false->kf N o.dst=true->dJ P G (.ops all l N (h1 σ o.dst gU) h bG h')->dJ P G (.ops all (o::l) N σ h bG h')
 | Yy {all o l N σ h v ad bG h'}:lE all σ o=some true->kf N o.dst=true->dJ P G (.op o.op σ h v ad)->dJ P G (.ops all l N (h1 σ o.dst v) ad bG h')->dJ P G (.ops all (o::l) N σ h bG h')
 | JP {op σ h v h'}:c4 P h (c2 G σ) op=some (.val v h')->dJ P G (.op op σ h v h')
 | Cu {op σ h f args ad v h'}:c4 P h (c2 G σ) op=some (.call f args ad)->dJ P G (.call f args ad v h')->dJ P G (.op op σ h v h')
 | KI {op σ h v h' b4 ae}:dJ P G (.op op σ h v h')->nS h' ae->nQ h' ae v b4->dJ P G (.op op σ h b4 ae)
 | inline {f fn c args h e bG h' r}:P.funcs[f]? = some fn->fn.body=some c->
   dJ P G (.code c (args.length+(fn.ntmps - args.length)) (fun t=>args.getD t gU) h e bG h')->(e=.normal\/e=.ret)->CJ P h' bG fn=some r->dJ P G (.call f args h r h')
 | pure {f args h r}:bw P G f args r->a4 args=true->dJ P G (.call f args h r h)
 | Pn {f args jb h r}:bw P G f jb r->jb.length=args.length->(∀ (j:Nat) (c c' : U),args[j]? = some c->jb[j]? = some c'->gJ h c c')->r.flat=true->dJ P G (.call f args h r h)
 | ext {f args h r h'}:rI P G f args h r h'->dJ P G (.call f args h r h')
 | Po {f args jb h r}:gI P G f jb r->jb.length=args.length->(∀ (j:Nat) (c c' : U),args[j]? = some c->jb[j]? = some c'->gJ h c c')->dJ P G (.call f args h r h)
section
variable {P:Program} {G:Nat->U}
structure iP (N:Nat) (w:World) (R:Nat->Prop) (h:aO) (μ:cr) (σ:Nat->U) (a:Act) :Prop where
 size:a.tmps.size=N
 defers:a.defers=[]
 val:∀ t,aQ w R h μ (σ t) (a.tmps.getD t undef)
theorem m5.ext {w w' : World} {R:Nat->Prop} {h h' : aO} {μ μ' : cr} (g:m5 G w R h μ) (e:dg w h μ w' h' μ') :m5 G w' R h' μ':=fun i=>⟨(g i).1,(g i).2.ext e⟩
theorem iP.ext {N:Nat} {w w' : World} {R:Nat->Prop} {h h' : aO} {μ μ' : cr} {σ:Nat->U} {a:Act} (s:iP N w R h μ σ a) (e:dg w h μ w' h' μ') :iP N w' R h' μ' σ a:=
 ⟨s.size,s.defers,fun t=>(s.val t).ext e⟩
theorem iP.c2 {N:Nat} {w:World} {R:Nat->Prop} {h:aO} {μ:cr} {σ:Nat->U} {a:Act} (s:iP N w R h μ σ a) (g:m5 G w R h μ) (x:Operand) :aQ w R h μ (c2 G σ x) (a.eval x) :=by
 cases x with
 | tmp t=>exact s.val t
 | const v=>exact aQ.xV v
 | global i=>exact (g i).2
 | func f=>exact .fn f [] [] #[] #[] rfl rfl (fun _ _ _ aT=>by simp at aT) (fun _ _ _ aT=>by simp at aT)
theorem Gz {w:World} {R:Nat->Prop} {h:aO} {μ:cr}:aQ w R h μ gU undef:=.bq [] #[] rfl (fun _ _ _ aT=>by simp at aT)
theorem iP.put {N:Nat} {w:World} {R:Nat->Prop} {h:aO} {μ:cr} {σ:Nat->U} {a:Act} (s:iP N w R h μ σ a) {dst:Option Tmp} (bg:kf N dst=true) {c:U} {v:Value} (ao:aQ w R h μ c v) :
  iP N w R h μ (h1 σ dst c) (a.put dst v) :=by
 cases dst with
 | none=>exact s
 | some d=>
  have aL:d<a.tmps.size:=by rw[s.size]; simpa [kf] using bg
  refine⟨by simp[Act.put,s.size],s.defers,fun t=>?_⟩;simp only[h1,Act.put];by_cases aX:t=d
  ·subst aX;rw[hV];simp[aL];exact ao
  ·rw[b5 _ _ _ _ aX];have:=s.val t;simpa [Array.getElem?_setIfInBounds_ne (Ne.symm aX)] using this
theorem Qy {w:World} {R:Nat->Prop} {h:aO} {μ:cr} {ops:Array Oper} {σ:Nat->U} {tmps:Array Value} {o:Oper} {b:Bool} (aP:lE ops σ o=some b)
  (ao:∀ d,(∃ j C2,o.guard=some (j,C2)/\(ops[j]?).bind (·.dst)=some d)->aQ w R h μ (σ d) (tmps.getD d undef)) :Region.wanted o (yielded ops tmps)=b:=by
 unfold lE at aP;unfold Region.wanted;cases ax:o.guard with
 | none=>rw[ax] at aP; simpa using aP
 | some fE=>
  obtain⟨j,C2⟩:=fE;rw[ax] at aP;simp only at aP ⊢;unfold yielded;cases bg:(ops[j]?).bind (·.dst) with
  | none=>
   rw[bg] at aP;simp only[Option.some.injEq] at aP;subst aP;simp
  | some d=>
   rw[bg] at aP;have B6:=ao d ⟨j,C2,ax,bg⟩;simp only[Option.bind_some] at aP ⊢;cases aX:tmps[d]? with
   | none=>
    have aM:tmps.getD d undef=undef:=by simp[Array.getD_eq_getD_getElem?,aX]
    rw[aM] at B6;cases ah:σ d<;>rw[ah] at aP B6<;>simp at aP<;>try (subst aP; simp)
    all_goals cases B6
   | some v=>
    have aM:tmps.getD d undef=v:=by simp[Array.getD_eq_getD_getElem?,aX]
    rw[aM] at B6;cases ah:σ d<;>rw[ah] at aP B6<;>simp at aP
    all_goals (cases B6<;>(subst aP; simp))
def pu (P:Program) (n:Nat) (c:Code) (Q:Exit->Act->World->Prop) (a:Act) (w:World) :Prop:=
 match c with
 | .loop c'=>Code.rounds P c' Q n a w
 | c=>c.wp P Q a w
theorem pu.wp {n:Nat} {c:Code} {Q:Exit->Act->World->Prop} {a:Act} {w:World} (h:pu P n c Q a w) :c.wp P Q a w:=by
 cases c<;>first | exact wp_loop_rounds n h | exact h
def yJ (P:Program) (G:Nat->U) :J->Prop
 | .code c N σ h e bG h'=>∃ n,∀ (R:Nat->Prop) (B:Nat) (w:World) (μ:cr) (a:Act) (Q:Exit->Act->World->Prop),bP R B w h μ->m5 G w R h μ->iP N w R h μ σ a->
   (∀ cV w' μ',dg w h μ w' h' μ'->bP R B w' h' μ'->iP N w' R h' μ' bG cV->Q e.out cV w')->pu P n c Q a w
 | .ops all l N σ h bG h'=>∀ (R:Nat->Prop) (B:Nat) (w:World) (μ:cr) (a:Act) (Q:Exit->Act->World->Prop),bP R B w h μ->m5 G w R h μ->iP N w R h μ σ a->
   (∀ cV w' μ',dg w h μ w' h' μ'->bP R B w' h' μ'->iP N w' R h' μ' bG cV->Q .normal cV w')->wpList P all Q l a w
 | .op op σ h v h'=>∀ (R:Nat->Prop) (B:Nat) (w:World) (μ:cr) (a:Act) (o:Oper) (K:Act->World->Prop) (Q:Exit->Act->World->Prop),o.op=op->bP R B w h μ->m5 G w R h μ->
   (∀ x,aQ w R h μ (c2 G σ x) (a.eval x))->(∀ v' w' μ',dg w h μ w' h' μ'->bP R B w' h' μ'->aQ w' R h' μ' v v'->K (a.put o.dst v') w')->o.wp P a w K Q
 | .call f args h r h'=>rI P G f args h r h'
theorem ZL {N:Nat} {w:World} {R:Nat->Prop} {B:Nat} {h:aO} {μ:cr} {σ:Nat->U} {a:Act} (rel:bP R B w h μ) (s:iP N w R h μ σ a) {fn:Func} {r:U} (az:CJ P h σ fn=some r) :
  ∃ v,(results fn a.tmps).run P w=.ok v w/\aQ w R h μ r v:=by
 have one:∀ (x:ResultVar) (c:U),CK P h σ x=some c->∃ v,(∀ F:ResultVar->Sem Value,(∀ t,F (.tmp t)=pure (a.tmps.getD t undef))->(∀ p t,F (.cell p t)=(do loadVar t (<-asAddr (a.tmps.getD p undef))))->(F x).run P w=.ok v w)/\aQ w R h μ c v:=by
  intro x c ag;cases x with
  | tmp t=>
   simp only[CK,Option.some.injEq] at ag; subst ag;exact⟨_,fun F ad _=>by rw[ad]; rfl,s.val t⟩
  | cell p t=>
   simp only[CK] at ag;obtain⟨v,ad,ae⟩:=XV (P:=P) rel ag (s.val p);refine⟨v,fun F _ o2=>?_,ae⟩;rw[o2];cases au:a.tmps.getD p undef with
   | pointer Q4=>
    cases Q4 with
    | none=>rw[au] at ad; simp[Instr.loadAt,Instr.sureAddr] at ad
    | some Q4=>rw[au] at ad; simpa [Instr.loadAt,Instr.sureAddr,asAddr,au] using ad
   | _=>rw[au] at ad; simp[Instr.loadAt,Instr.sureAddr] at ad
 have all:∀ (l:List ResultVar) (cs:List U),x5 P h σ l=some cs->∃ vs:List Value,(∀ F:ResultVar->Sem Value,(∀ t,F (.tmp t)=pure (a.tmps.getD t undef))->(∀ p t,F (.cell p t)=(do loadVar t (<-asAddr (a.tmps.getD p undef))))->(l.mapM F).run P w=.ok vs w) ∧
   vs.length=cs.length/\∀ (j:Nat) (c:U) (v:Value),cs[j]? = some c->vs[j]? = some v->aQ w R h μ c v:=by
  intro l
  induction l with
  | nil=>intro cs ah; simp only[x5,Option.some.injEq] at ah; subst ah; exact⟨[],fun F _ _=>by simp,rfl,fun _ _ _ aT=>by simp at aT⟩
  | cons x l aR=>
   intro cs ah;unfold x5 at ah;split at ah
   ·rename_i c cs' ag al;simp only[Option.some.injEq] at ah; subst ah;obtain⟨v,ad,ae⟩:=one x c ag;obtain⟨vs,aj,aD,a2⟩:=aR cs' al;refine⟨v::vs,fun F bZ ce=>by simp only[List.mapM_cons,Sem.run_bind,ad F bZ ce,Result.andThen_ok,aj F bZ ce,Sem.run_pure],by simp[aD],fun j c' v' ai ao=>?_⟩;cases j with
    | zero=>simp at ai ao; subst ai ao; exact ae
    | succ j=>exact a2 j c' v' (by simpa using ai) (by simpa using ao)
   ·cases ah
 unfold CJ at az;cases al:x5 P h σ fn.results.toList with
 | none=>rw[al] at az; cases az
 | some cs=>
  rw[al] at az;simp only[Option.map_some,Option.some.injEq] at az; subst az;obtain⟨vs,ad,ae,aj⟩:=all _ _ al;have fV:(results fn a.tmps).run P w=.ok (if aT:vs.toArray.size=1 then vs.toArray[0] else .tuple vs.toArray) w:=by
   unfold results;rw[Array.mapM_eq_mapM_toList];simp only[Sem.run_bind,Sem.run_map];rw[ad _ (fun _=>rfl) (fun _ _=>rfl)];simp
  refine⟨_,fV,?_⟩
  match cs,vs,ae,aj with
  | [],[],_,_=>exact .bq [] #[] rfl (fun _ _ _ aT=>by simp at aT)
  | [c],[v],_,aj=>exact aj 0 c v rfl rfl
  | c::c'::cs,v::v'::vs,ae,aj=>
   simp only[List.size_toArray,List.length_cons];rw[dif_neg (by omega)];exact .bq _ _ (by simpa using ae) (fun j x y ai aI=>aj j x y ai (by simpa using aI))
theorem tm {w:World} {R:Nat->Prop} {h:aO} {μ:cr} {c:U} {v:Value} (ao:aQ w R h μ c v) :c.closed=true->eh w (fun k=>R k/\¬ Own h μ k) c v:=by
 have al:∀ (cs:List U),a4 cs=true->∀ (j:Nat) (c:U),cs[j]? = some c->c.closed=true:=by
  intro cs
  induction cs with
  | nil=>intro _ j c ai; simp at ai
  | cons x cs aR=>
   intro ah j c ai;simp only[a4,Bool.and_eq_true] at ah;cases j with
   | zero=>simp at ai; subst ai; exact ah.1
   | succ j=>exact aR ah.2 j c (by simpa using ai)
 have ER:∀ (es:List (List U)),uR es=true->∀ (i:Nat) (e:List U),es[i]? = some e->a4 e=true:=by
  intro es
  induction es with
  | nil=>intro _ j c ai; simp at ai
  | cons x cs aR=>
   intro ah j c ai;simp only[uR,Bool.and_eq_true] at ah;cases j with
   | zero=>simp at ai; subst ai; exact ah.1
   | succ j=>exact aR ah.2 j c (by simpa using ai)
 have cell:∀ b o v,Cell w R h μ b o v->Cell w (fun k=>R k/\¬ Own h μ k) aO.empty (fun _=>none) b o v:=fun b o v ah=>
  ⟨ah.here,ah.one,⟨ah.ro,ah.free⟩,fun ⟨b,m,ad,ae,aj⟩=>by cases ae⟩
 unfold eh
 induction ao with
 | bool b=>exact fun _=>.bool b
 | int k n=>exact fun _=>.int k n
 | str bs=>exact fun _=>.str bs
 | kV=>exact fun _=>.kV
 | aG=>exact fun _=>.aG
 | iY=>exact fun _=>.iY
 | kT=>exact fun _=>.kT
 | kU=>exact fun _=>.kU
 | aH cs vs bA ad ao aR=>exact fun ah=>.aH cs vs bA ad fun j c v ai gi=>aR j c v ai gi (al cs (by simpa [U.closed] using ah) j c ai)
 | bq cs vs bA ao aR=>exact fun ah=>.bq cs vs bA fun j c v ai gi=>aR j c v ai gi (al cs (by simpa [U.closed] using ah) j c ai)
 | ptr=>exact fun ah=>by simp[U.closed] at ah
 | nI=>exact fun ah=>by simp[U.closed] at ah
 | bM cs off blk o eJ ah ao aR=>exact fun eb=>.bM cs off blk o eJ (fun j ai=>cell _ _ _ (ah j ai)) fun j c ai=>aR j c ai (al cs (by simpa [U.closed] using eb) j c ai)
 | aq=>exact fun ah=>by simp[U.closed] at ah
 | hO=>exact fun ah=>by simp[U.closed] at ah
 | i3=>exact fun ah=>by simp[U.closed] at ah
 | a1 z es blk off cap eJ dx aw ah ao aR=>exact fun eb=>.a1 z es blk off cap eJ dx aw (fun i j ay ai=>cell _ _ _ (ah i j ay ai)) fun i e am j c ai=>aR i e am j c ai (al e (ER es (by simpa [U.closed] using eb) i e am) j c ai)
 | gv z a cap=>exact fun _=>.gv z a cap
 | fn f first gL fs cs aF ah ad ae eF oo=>
  intro eb;simp only[U.closed,Bool.and_eq_true] at eb;exact .fn f first gL fs cs aF ah (fun j c v ai gi=>eF j c v ai gi (al _ eb.1 j c ai)) fun j c v ai gi=>oo j c v ai gi (al _ eb.2 j c ai)
 | mp=>exact fun ah=>by simp[U.closed] at ah
 | it=>exact fun ah=>by simp[U.closed] at ah
 | hM t c v ao aR=>exact fun eb=>.hM t c v (aR (by simpa [U.closed] using eb))
 | hE l=>exact fun _=>.hE l
 | bad v=>exact fun _=>.bad v
theorem yR {cs:List U} (ah:a4 cs=true) :∀ (j:Nat) (c:U),cs[j]? = some c->c.closed=true:=by
 induction cs with
 | nil=>intro j c ai; simp at ai
 | cons x cs aR=>
  intro j c ai;simp only[a4,Bool.and_eq_true] at ah;cases j with
  | zero=>simp at ai; subst ai; exact ah.1
  | succ j=>exact aR ah.2 j c (by simpa using ai)
theorem eh.up {w:World} {A:Nat->Prop} {R:Nat->Prop} {h:aO} {μ:cr} {c:U} {v:Value} (ao:eh w A c v) (dA:∀ k,k<w.heap.size->A k->R k/\¬ Own h μ k) :aQ w R h μ c v:=by
 have cell:∀ b o v,Cell w A aO.empty (fun _=>none) b o v->Cell w R h μ b o v:=fun b o v ah=>
  have af:b<w.heap.size:=World.block_lt_of_cell? _ _ ah.here
  ⟨ah.here,ah.one,(dA b af ah.ro).1,(dA b af ah.ro).2⟩
 unfold eh at ao
 induction ao with
 | bool b=>exact .bool b
 | int k n=>exact .int k n
 | str bs=>exact .str bs
 | kV=>exact .kV
 | aG=>exact .aG
 | iY=>exact .iY
 | kT=>exact .kT
 | kU=>exact .kU
 | aH cs vs bA ad ao aR=>exact .aH cs vs bA ad aR
 | bq cs vs bA ao aR=>exact .bq cs vs bA aR
 | ptr b off sz cs m af hm=>cases hm
 | nI b off sz a ax=>rcases ax with ax | ⟨n,cs,ax,_⟩<;>cases ax
 | bM cs off blk o eJ ah ao aR=>exact .bM cs off blk o eJ (fun j ai=>cell _ _ _ (ah j ai)) aR
 | aq z b off len cap sz cap' cs m af hm=>cases hm
 | hO z b off len cap sz cap' a al ah ax=>rcases ax with ax | ⟨n,cs,ax,_⟩<;>cases ax
 | i3 z b off sz a cs m af hm=>cases hm
 | a1 z es blk off cap eJ dx aw ah ao aR=>exact .a1 z es blk off cap eJ dx aw (fun i j ay ai=>cell _ _ _ (ah i j ay ai)) aR
 | gv z a cap=>exact .gv z a cap
 | fn f first gL fs cs aF ah ad ae eF oo=>exact .fn f first gL fs cs aF ah eF oo
 | mp b m af hm=>cases hm
 | it b m af hm=>cases hm
 | hM t c v ao aR=>exact .hM t c v aR
 | hE l=>exact .hE l
 | bad v=>exact .bad v
theorem YH {R:Nat->Prop} {B:Nat} {w:World} {h:aO} {μ:cr} (rel:bP R B w h μ) {k:Nat} (av:Own h μ k) :k<w.heap.size:=by
 obtain⟨b,m,ad,ae,rfl⟩:=av;exact rel.lt ad ae
theorem x4 {R:Nat->Prop} {B:Nat} {w w' : World} {h:aO} {μ:cr} (rel:bP R B w h μ) (af:gb w w') :dg w h μ w' h μ/\bP R B w' h μ:=by
 have e:dg w h μ w' h μ:=⟨⟨af.os,af.tape,af.output,af.size,fun k ar _=>af.block k ar,fun _ av=>.inl av,fun b sz cs m ad ae=>.inl ⟨cs,ad,ae⟩,fun _ _ ax=>ax,fun _ _ _ ad ae=>⟨ad,ae⟩,Nat.le_refl _,af.drawn⟩,fun _ _ hm=>hm⟩
 refine⟨e,fun b m hm=>?_,rel.inj,rel.base,rel.fresh,rel.up,Nat.le_trans rel.size af.size,rel.lX⟩;cases al:live (h.f b) with
 | false=>cases ah:h.f b<;>first | trivial | (rw[ah] at al; cases al)
 | true=>exact (rel.blk b m hm).ext e.toExt0 (af.block _ (rel.lt al hm))
theorem Zv {w:World} {R:Nat->Prop} {B:Nat} {h:aO} {μ:cr} (rel:bP R B w h μ) :∀ {c c' : U},gJ h c c'->∀ {v:Value},aQ w R h μ c v->eh w R c' v:=by
 intro c c' az;have r9:∀ {b sz:Nat} {cs:List U} {m:M},h.f b=.cells sz cs->μ b=some m->∃ f:Nat->Value,∀ (j:Nat) (c:U),cs[j]? = some c->Cell w R aO.empty (fun _=>none) m.r (m.s+j) (f j)/\aQ w R h μ c (f j) :=by
  intro b sz cs m af hm;have iQ:=rel.blk b m hm;rw[af] at iQ;obtain⟨c6,ew,arr,t,e4,aP,aE,aF,np⟩:=iQ;have kg:R m.r:=rel.up _ (rel.base b m (by rw[af]; rfl) hm);refine⟨fun j=>(arr[m.s+j]?).getD undef,fun j c ai=>?_⟩;obtain⟨v,ad,ae,aj⟩:=np _ _ ai;refine⟨⟨?_,by simp only[ad,Option.getD_some]; exact ae,kg,fun ⟨b,m,ad,ae,aj⟩=>by cases ae⟩,by simp only[ad,Option.getD_some]; exact aj⟩;simp only[World.cell?,aP,ad,Option.getD_some,Option.isSome_none];rfl
 induction az with
 | same c ah=>
  intro v ao;exact (eh.up (tm ao ah) fun k _ ar=>⟨ar.1,fun ⟨b,m,ad,ae,aj⟩=>by cases ae⟩:aQ w R aO.empty (fun _=>none) _ v)
 | aH cs cs' al h aR=>
  intro v ao;cases ao with
  | aH _ vs hY ad ao=>
   refine .aH cs' vs (by omega) ad (fun j c' v ai gi=>?_);have aL:j<cs.length:=by rw[<-al]; exact (List.getElem?_eq_some_iff.1 ai).1
   exact aR j cs[j] c' (List.getElem?_eq_getElem aL) ai (ao j cs[j] v (List.getElem?_eq_getElem aL) gi)
 | bq cs cs' al h aR=>
  intro v ao;cases ao with
  | bq _ vs hY ao=>
   refine .bq cs' vs (by omega) (fun j c' v ai gi=>?_);have aL:j<cs.length:=by rw[<-al]; exact (List.getElem?_eq_some_iff.1 ai).1
   exact aR j cs[j] c' (List.getElem?_eq_getElem aL) ai (ao j cs[j] v (List.getElem?_eq_getElem aL) gi)
 | sV z b off cap sz=>
  intro v ao;cases ao with
  | aq _ _ _ _ _ _ cap' cs m af hm al av ah=>exact .gv z _ cap'
  | hO _ _ _ _ _ _ cap' a al ah ax=>exact .gv z _ cap'
  | i3 _ _ _ _ a cs m af hm=>exact .gv z a 0
 | ptr b off sz cs cs' af al h aR=>
  intro v ao;cases ao with
  | nI _ _ _ a ax=>
   exfalso;rcases ax with ax | ⟨n,hT,ax,aL⟩
   ·rw[af] at ax; cases ax
   ·rw[af] at ax; cases ax; omega
  | ptr _ _ _ hT m ej hm=>
   obtain⟨f,aF⟩:=r9 af hm;refine .bM cs' off m.r m.s f (fun j ai=>?_) (fun j c' ai=>?_)
   ·exact (aF j cs[j] (List.getElem?_eq_getElem (by omega))).1
   ·have aL:j<cs.length:=by rw[<-al]; exact (List.getElem?_eq_some_iff.1 ai).1
    exact aR j cs[j] c' (List.getElem?_eq_getElem aL) ai (aF j cs[j] (List.getElem?_eq_getElem aL)).2
 | aq z b off len cap sz cs es af al aw c7 h aR=>
  intro v ao;cases ao with
  | i3 _ _ _ _ a hT m ej lj=>
   obtain rfl:=List.length_eq_zero_iff.1 al;exact .gv z a 0
  | hO _ _ _ _ _ _ cap' a al ah ax=>
   exfalso;rcases ax with ax | ⟨n,hT,ax,aL⟩
   ·rw[af] at ax; cases ax
   ·rw[af] at ax; cases ax; omega
  | aq _ _ _ _ _ _ cap' hT m ej hm jk av ah=>
   have cZ:len<=cap':=by rcases ah with ⟨_,h⟩ | ⟨_,h,_⟩<;>omega
   obtain⟨f,aF⟩:=r9 af hm;subst al;have aL:∀ i j,i<es.length->j<z->off+(i*z+j)<cs.length:=by
    intro i j ay ai;have:i*z+z<=es.length*z:=by rw[<-Nat.succ_mul]; exact Nat.mul_le_mul_right _ ay
    omega
   refine .a1 z es m.r (m.s+off) cap' (fun i j=>f (off+(i*z+j))) cZ aw (fun i j ay ai=>?_) (fun i e am j c' ai=>?_)
   ·have:=(aF _ _ (List.getElem?_eq_getElem (aL i j ay ai))).1;rw[<-Nat.add_assoc] at this;exact this
   ·have ay:i<es.length:=(List.getElem?_eq_some_iff.1 am).1;have nu:j<z:=by rw[<-aw e (List.mem_of_getElem? am)]; exact (List.getElem?_eq_some_iff.1 ai).1
    exact aR i j e _ c' am ai (List.getElem?_eq_getElem (aL i j ay nu)) (aF _ _ (List.getElem?_eq_getElem (aL i j ay nu))).2
theorem HM:∀ {cs:List U},mL cs=true->∀ (j:Nat) (c:U),cs[j]? = some c->c.flat=true:=by
 intro cs
 induction cs with
 | nil=>intro _ j c h; simp at h
 | cons x cs aR=>
  intro ah j c ai;simp only[mL,Bool.and_eq_true] at ah;cases j with
  | zero=>simp at ai; subst ai; exact ah.1
  | succ j=>exact aR ah.2 j c (by simpa using ai)
theorem Un {w w' : World} {A R:Nat->Prop} {h h' : aO} {μ μ' : cr} {c:U} {v:Value} (ao:aQ w A h μ c v) (aF:c.flat=true) :aQ w' R h' μ' c v:=by
 induction ao with
 | bool b=>exact .bool b
 | int k n=>exact .int k n
 | str bs=>exact .str bs
 | kV=>exact .kV
 | aG=>exact .aG
 | iY=>exact .iY
 | kT=>exact .kT
 | kU=>exact .kU
 | aH cs vs bA ad ao aR=>exact .aH cs vs bA ad (fun j c v ai gi=>aR j c v ai gi (HM (by simpa only [U.flat] using aF) j c ai))
 | bq cs vs bA ao aR=>exact .bq cs vs bA (fun j c v ai gi=>aR j c v ai gi (HM (by simpa only [U.flat] using aF) j c ai))
 | hM t c v ao aR=>exact .hM t c v (aR (by simpa only [U.flat] using aF))
 | hE l=>exact .hE l
 | _=>simp[U.flat] at aF
theorem amF {f:FuncId} {args jb:List U} {r:U} {h:aO} (au:bw P G f jb r) (bA:jb.length=args.length) (mn:∀ (j:Nat) (c c' : U),args[j]? = some c->jb[j]? = some c'->gJ h c c')
  (hu:r.flat=true) :yJ P G (.call f args h r h) :=by
 intro R B w μ vs rel g al ao;refine (au w R vs (fun i=>?_) (by omega) (fun j c' v ai gi=>?_)).mono ?_
 ·exact (eh.up (tm (g i).2 (g i).1) fun k _ ar=>⟨ar.1,fun ⟨b,m,ad,ae,aj⟩=>by cases ae⟩:aQ w R aO.empty (fun _=>none) _ _)
 ·have aL:j<args.length:=by rw[<-bA]; exact (List.getElem?_eq_some_iff.1 ai).1
  exact Zv rel (mn j args[j] c' (List.getElem?_eq_getElem aL) ai) (ao j args[j] v (List.getElem?_eq_getElem aL) gi)
 ·rintro e w' ⟨v,rfl,af,az⟩;obtain⟨bZ,ce⟩:=x4 rel af;exact⟨v,μ,rfl,bZ,ce,Un az hu⟩
theorem amG {f:FuncId} {args jb:List U} {r:U} {h:aO} (au:gI P G f jb r) (bA:jb.length=args.length) (mn:∀ (j:Nat) (c c' : U),args[j]? = some c->jb[j]? = some c'->gJ h c c') :yJ P G (.call f args h r h) :=by
 intro R B w μ vs rel g al ao;refine (au w R vs (fun i=>?_) (by omega) (fun j c' v ai gi=>?_)).mono ?_
 ·exact (eh.up (tm (g i).2 (g i).1) fun k _ ar=>⟨ar.1,fun ⟨b,m,ad,ae,aj⟩=>by cases ae⟩:aQ w R aO.empty (fun _=>none) _ _)
 ·have aL:j<args.length:=by rw[<-bA]; exact (List.getElem?_eq_some_iff.1 ai).1
  exact Zv rel (mn j args[j] c' (List.getElem?_eq_getElem aL) ai) (ao j args[j] v (List.getElem?_eq_getElem aL) gi)
 ·rintro e w' ⟨v,rfl,af,az⟩;obtain⟨bZ,ce⟩:=x4 rel af;exact⟨v,μ,rfl,bZ,ce,az.up fun k ar dA=>⟨rel.up k (Nat.le_trans rel.size dA),fun av=>by have:=YH rel av; omega⟩⟩
theorem gI.Gw {f:FuncId} {args:List U} {r:U} (au:gI P G f args r) :bw P G f args r:=fun w A vs ax al ao=>
 (au w A vs ax al ao).mono fun e w' ⟨v,ad,ae,aj⟩=>⟨v,ad,ae,(eh.up aj fun k _ ar=>⟨.inr ar,fun ⟨b,m,ad,ae,aj⟩=>by cases ae⟩:aQ w' _ aO.empty (fun _=>none) _ _)⟩
theorem amH {f:FuncId} {args:List U} {r:U} {h:aO} (au:bw P G f args r) (ah:a4 args=true) :yJ P G (.call f args h r h) :=by
 intro R B w μ vs rel g al ao;refine (au w (fun k=>R k/\¬ Own h μ k) vs (fun i=>?_) al (fun j c v ai gi=>tm (ao j c v ai gi) (yR ah j c ai))).mono ?_
 ·exact tm (g i).2 (g i).1
 ·rintro e w' ⟨v,rfl,af,az⟩;obtain⟨bZ,ce⟩:=x4 rel af;refine⟨v,μ,rfl,bZ,ce,az.up (fun k ar dA=>?_)⟩;rcases dA with dA | dA
  ·exact dA
  ·exact⟨rel.up k (Nat.le_trans rel.size dA),fun av=>by have:=YH rel av; omega⟩
end

section
variable {P:Program} {G:Nat->U}
theorem OT {w:World} {R:Nat->Prop} {h:aO} {μ:cr} {aB:Operand->U} {ek:Operand->Value} (c9:∀ x,aQ w R h μ (aB x) (ek x)) (o:Oper) {cs:List U} {mk:Nat->U} (aC:ow P aB o.op=some (cs,mk)) :
  ∃ v arr t,(execOp ek o).run P w=.ok (.value v) (w.alloc (.cells arr t))/\l7 w R h μ cs arr ∧
   ∀ (w' : World) (uI:Nat->Prop) (h' : aO) (μ' : cr) (b:Nat),h'.f b=.cells cs.length cs->μ' b=some ⟨w.heap.size,0,arr.size⟩->aQ w' uI h' μ' (mk b) v:=by
 obtain⟨dst,op,type,pos,after,guard⟩:=o;cases op<;>simp only[ow] at aC<;>try (cases aC; done)
 case alloc t=>
  cases aw:ik P t with
  | none=>rw[aw] at aC; cases aC
  | some z=>
   rw[aw] at aC;simp only[Option.map_some,Option.some.injEq,Prod.mk.injEq] at aC;obtain⟨rfl,rfl⟩:=aC;obtain⟨v,ao,az⟩:=yC (P:=P) (w:=w) (R:=R) (h:=h) (μ:=μ) aw;refine⟨.pointer (some ⟨w.heap.size,0,none⟩),v.cells,t,by simp[execOp,Instr.alloc,ao,newVar,newRow],az,fun w' uI h' μ' b af hm=>?_⟩;have:=aQ.ptr (w:=w') (R:=uI) (h:=h') (μ:=μ') b 0 z.length z _ af hm;simpa using this
 case box t x=>
  cases aw:(aB x).cells with
  | none=>rw[aw] at aC; cases aC
  | some z=>
   rw[aw] at aC;simp only[Option.map_some,Option.some.injEq,Prod.mk.injEq] at aC;obtain⟨rfl,rfl⟩:=aC;obtain⟨bZ,ce⟩:=Hv (c9 x) aw;refine⟨.pointer (some ⟨w.heap.size,0,none⟩),(ek x).cells,t,by simp[execOp,Instr.box,newVar,newRow],⟨bZ,ce⟩,fun w' uI h' μ' b af hm=>?_⟩;have:=aQ.ptr (w:=w') (R:=uI) (h:=h') (μ:=μ') b 0 z.length z _ af hm;simpa using this
 case buildSlice t len parts=>
  cases am:jc P t with
  | none=>rw[am] at aC; cases aC
  | some e=>
  rw[am] at aC;simp only at aC;cases aw:cC P e with
  | none=>rw[aw] at aC; cases aC
  | some z=>
  cases jA:ik P e with
  | none=>rw[aw,jA] at aC; cases aC
  | some zero=>
  rw[aw,jA] at aC;simp only at aC;split at aC
  ·rename_i kh;cases aF:hU (fun i=>some (i*z,z)) (dH zero len) (parts.toList.map fun p=>(p.1,aB p.2)) with
   | none=>rw[aF] at aC; cases aC
   | some cs'=>
    rw[aF] at aC;simp only[Option.map_some,Option.some.injEq,Prod.mk.injEq] at aC;obtain⟨rfl,rfl⟩:=aC;obtain⟨bZ,ce⟩:=Pc c9 parts;obtain⟨eb,arr,fV,ae⟩:=RG am aw jA kh.1 kh.2 aF bZ ce;refine⟨.slice (some ⟨w.heap.size,0,none⟩) len len,arr,e,by simp[execOp,fV],ae,fun w' uI h' μ' b af hm=>?_⟩;rw[eb] at af;have:=aQ.aq (w:=w') (R:=uI) (h:=h') (μ:=μ') z b 0 len len (len*z) len _ _ af hm (Nat.le_refl _) (by omega) (.inr ⟨by omega,Nat.le_refl _,by simp only; rw[ae.1,eb]; omega⟩);simpa using this
  ·cases aC
 case makeSlice t l c=>
  split at aC
  ·rename_i e li h8 am dO fF;obtain⟨kl,og⟩:=tg dO (c9 l);obtain⟨kc,lf⟩:=tg fF (c9 c);cases aw:cC P e with
   | none=>rw[aw] at aC; cases aC
   | some z=>
   cases dM:k7 P e with
   | none=>rw[aw,dM] at aC; cases aC
   | some by_=>
   cases jA:ik P e with
   | none=>rw[aw,dM,jA] at aC; cases aC
   | some zero=>
   rw[aw,dM,jA] at aC;simp only at aC;split at aC
   ·rename_i kh;obtain⟨ii,aJ,q4,Im,dC⟩:=kh;simp only[Option.some.injEq,Prod.mk.injEq] at aC;obtain⟨rfl,rfl⟩:=aC;obtain⟨bA,arr,fV,b0⟩:=X5 (w:=w) (R:=R) (h:=h) (μ:=μ) (kl:=kl) (kc:=kc) am aw dM jA ii aJ q4 Im dC;refine⟨.slice (some ⟨w.heap.size,0,none⟩) li.toNat h8.toNat,arr,e,by simp[execOp,og,lf,fV],b0,fun w' uI h' μ' b af hm=>?_⟩;rw[bA] at af;have:=aQ.aq (w:=w') (R:=uI) (h:=h') (μ:=μ') z b 0 li.toNat h8.toNat (h8.toNat*z) h8.toNat _ _ af hm (by omega) (by omega) (.inr ⟨by omega,Nat.le_refl _,by simp only; rw[b0.1,bA]; omega⟩);simpa using this
   ·cases aC
  ·cases aC
theorem px.rel {R:Nat->Prop} {B:Nat} {w:World} {h h' : aO} {μ:cr} (g:px h h') (rel:bP R B w h μ) :dg w h μ w h' μ/\bP R B w h' μ:=by
 have aL:∀ b m,μ b=some m->b<h.n:=fun b m hm=>rel.nU hm
 have e:dg w h μ w h' μ:=by
  refine⟨⟨rfl,rfl,rfl,Nat.le_refl _,fun _ _ _=>rfl,?_,?_,?_,?_,g.n,Nat.le_refl _⟩,fun _ _ hm=>hm⟩
  ·rintro k ⟨b,m,al,hm,rfl⟩;rw[g.same b (aL b m hm)] at al;exact .inl ⟨b,m,al,hm,rfl⟩
  ·intro b sz cs m af hm;exact .inl ⟨cs,by rw[g.same b (aL b m hm)]; exact af,hm⟩
  ·rintro b sz ax;have af:b<h.n:=by
    rcases Nat.lt_or_ge b h.n with ad | ad
    ·exact ad
    ·have:=rel.fresh b ad;rcases ax with ax | ⟨n,cs,ax,_⟩<;>rw[this] at ax<;>cases ax
   rcases ax with ax | ⟨n,cs,ax,lh⟩
   ·exact .inl (by rw[g.same b af]; exact ax)
   ·exact .inr ⟨n,cs,by rw[g.same b af]; exact ax,lh⟩
  ·intro b k m af hm;exact⟨by rw[g.same b (aL b m hm)]; exact af,hm⟩
 refine⟨e,fun b m hm=>?_,fun b aZ m ct al dx hm bX az=>?_,fun b m al hm=>?_,g.fresh rel.fresh,rel.up,rel.size,fun b af=>rel.lX b (Nat.le_trans g.n af)⟩
 ·rw[g.same b (aL b m hm)];exact (rel.blk b m hm).ext e.toExt0 rfl
 ·rw[g.same b (aL b m hm)] at al;rw[g.same aZ (aL aZ ct bX)] at dx;exact rel.inj b aZ m ct al dx hm bX az
 ·rw[g.same b (aL b m hm)] at al;exact rel.base b m al hm
theorem aaQ {K:Act->World->Prop} {Q:Exit->Act->World->Prop} {e:s4} {a:Act} {w:World} (am:e≠.normal) (h:Q e.out a w) :Exit.then K Q e.out a w:=by
 cases e with
 | normal=>exact absurd rfl am
 | exit id=>exact h
 | ret=>exact h
theorem acP {id:Nat} {Q:Exit->Act->World->Prop} {e:s4} {a:Act} {w:World} (am:e≠.exit id) (h:Q e.out a w) :Exit.inBlock id Q e.out a w:=by
 cases e with
 | normal=>exact h
 | exit tS=>
  have:tS≠id:=fun aT=>am (by rw[aT])
  simpa [Exit.inBlock,s4.out,this] using h
 | ret=>exact h
def QN (P:Program) (G:Nat->U) :Prop:=
 ∀ {id:Nat} {ops:Array Oper} {N:Nat} {σ:Nat->U} {h:aO} {bG:Nat->U} {h' : aO} (pre:Nat->Nat->Bool) (val:Nat->U) (W:Nat->Bool) (cls:Nat->GV) (m:Nat) (ak:Nat->Nat) (gc s7:Nat->aO) (hb:Nat->Nat) (cells:Nat->List U),
  uz ops pre->
  (∀ (i:Nat) (o:Oper),ops[i]? = some o->kf N o.dst=true)->
  px h (gc 0)->h'=gc m->(bG=fun t=>match kA ops t with | some i=>val i | none=>σ t)->
  (∀ (i:Nat) (o:Oper),ops[i]? = some o->W i=true->cls i=.g3->∃ q,q<m/\ak q=i)->
  (∀ q,q<m->∃ o,ops[ak q]? = some o/\W (ak q)=true/\cls (ak q)=.g3)->
  (∀ q q',q<m->q'<m->q<q'->pre (ak q') (ak q)=true)->
  (∀ q q',q<m->q'<m->ak q=ak q'->q=q')->
  (∀ (i:Nat) (o:Oper),ops[i]? = some o->lE ops (n1 ops pre val σ i o) o=some (W i))->
  (∀ (i:Nat) (o:Oper),ops[i]? = some o->W i=false->val i=gU)->
  (∀ (i:Nat) (o:Oper),ops[i]? = some o->W i=true->cls i=.pure->∀ k,Bf pre m ak i k->c4 P (gc k) (c2 G (n1 ops pre val σ i o)) o.op=some (.val (val i) (gc k)))->
  (∀ (i:Nat) (o:Oper),ops[i]? = some o->W i=true->cls i=.new->∃ mk,ow P (c2 G (n1 ops pre val σ i o)) o.op=some (cells i,mk)/\val i=mk (hb i)/\h.n<=hb i ∧
    ∀ k,Bf pre m ak i k->(gc k).f (hb i)=.cells (cells i).length (cells i))->
  (∀ (i j:Nat) (o dG:Oper),ops[i]? = some o->ops[j]? = some dG->W i=true->W j=true->cls i=.new->cls j=.new->hb i=hb j->i=j)->
  (∀ (i:Nat) (o:Oper) (q:Nat),ops[i]? = some o->W i=true->cls i=.new->q<m->hb i<(gc q).n\/(s7 q).n<=hb i)->
  (∀ q,q<m->px (s7 q) (gc (q+1)))->
  (∀ (q:Nat) (o:Oper),q<m->ops[ak q]? = some o->yJ P G (.op o.op (n1 ops pre val σ (ak q) o) (gc q) (val (ak q)) (s7 q)))->
  yJ P G (.code (.region id ops true) N σ h .normal bG h')
theorem nS.ext {h ae:aO} (k:nS h ae) (w:World) (μ:cr) :dg w h μ w ae μ:=by
 refine⟨⟨rfl,rfl,rfl,Nat.le_refl _,fun _ _ _=>rfl,?_,?_,?_,?_,Nat.le_of_eq k.n.symm,Nat.le_refl _⟩,fun _ _ hm=>hm⟩
 ·rintro r ⟨b,m,al,hm,rfl⟩;refine .inl ⟨b,m,?_,hm,rfl⟩;rcases k.blk b with am | ⟨sz,cs,ah,_⟩
  ·rw[<-am]; exact al
  ·rw[ah]; rfl
 ·intro b sz cs m af hm;rcases k.blk b with am | ⟨sz',cs',ah,bg | ⟨hT,D8,_⟩⟩
  ·exact .inl ⟨cs,by rw[am]; exact af,hm⟩
  ·exact .inr (.inl bg)
  ·rw[af] at ah; cases ah; exact .inl ⟨hT,D8,hm⟩
 ·rintro b sz (af | ⟨n,cs,af,aL⟩)
  ·rcases k.blk b with am | ⟨sz',cs',ah,_⟩
   ·exact .inl (am.trans af)
   ·rw[af] at ah; cases ah
  ·rcases k.blk b with am | ⟨sz',cs',ah,bg | ⟨hT,D8,_⟩⟩
   ·exact .inr ⟨n,cs,by rw[am]; exact af,aL⟩
   ·exact .inl bg
   ·rw[af] at ah; cases ah; exact .inr ⟨n,hT,D8,aL⟩
 ·intro b nF m af hm;rcases k.blk b with am | ⟨sz',cs',ah,_⟩
  ·exact⟨by rw[am]; exact af,hm⟩
  ·rw[ah] at af; cases af
theorem nS.live {h ae:aO} (k:nS h ae) {b:Nat} (al:live (ae.f b)=true) :live (h.f b)=true:=by
 rcases k.blk b with am | ⟨sz,cs,ah,_⟩
 ·rw[<-am]; exact al
 ·rw[ah]; rfl
theorem nS.qm {R:Nat->Prop} {B:Nat} {w:World} {h ae:aO} {μ:cr} (rel:bP R B w h μ) (k:nS h ae) :∀ {c b7:U},nQ h ae c b7->∀ {v:Value},aQ w R h μ c v->aQ w R ae μ b7 v:=by
 intro c b7 az
 induction az with
 | same c=>intro v ao; exact ao.ext (k.ext w μ)
 | aH cs cs' al h aR=>
  intro v ao;cases ao with
  | aH _ vs hY ad ao=>
   refine .aH cs' vs (by omega) ad (fun j c' v ai gi=>?_);have aL:j<cs.length:=by rw[<-al]; exact (List.getElem?_eq_some_iff.1 ai).1
   exact aR j cs[j] c' (List.getElem?_eq_getElem aL) ai (ao j cs[j] v (List.getElem?_eq_getElem aL) gi)
 | sV z b off cap sz=>
  intro v ao;cases ao with
  | aq _ _ _ _ _ _ cap' cs m af hm al av ah=>exact .gv z _ cap'
  | hO _ _ _ _ _ _ cap' a al ah ax=>exact .gv z _ cap'
  | i3 _ _ _ _ a cs m af hm=>exact .gv z a 0
 | aq z b off len cap sz cs es af bg al aw c7 ao aR=>
  intro v ao;cases ao with
  | i3 _ _ _ _ a hT m ej lj=>
   obtain rfl:=List.length_eq_zero_iff.1 al;exact .gv z a 0
  | hO _ _ _ _ _ _ cap' a al ah ax=>
   exfalso;rcases ax with ax | ⟨n,hT,ax,aL⟩
   ·rw[af] at ax; cases ax
   ·rw[af] at ax; cases ax; omega
  | aq _ _ _ _ _ _ cap' hT m ej hm jk av ah=>
   rw[af] at ej; cases ej;have iQ:=rel.blk b m hm;rw[af] at iQ;obtain⟨c6,ew,arr,t,e4,aP,aE,aF,np⟩:=iQ;have cZ:len<=cap':=by rcases ah with ⟨_,h⟩ | ⟨_,h,_⟩<;>omega
   have kj:Go.bV.live (h.f b)=true:=by rw[af]; rfl
   have kg:R m.r:=rel.up _ (rel.base b m kj hm);have cR:¬ Own ae μ m.r:=by
    rintro⟨aZ,ct,dx,bX,pW⟩;have:=rel.inj aZ b ct m (k.live dx) kj bX hm pW;subst this;rw[bg] at dx; cases dx
   subst al;have r9:∀ i j,i<es.length->j<z->∃ c v,cs[off+(i*z+j)]? = some c/\arr[m.s+(off+(i*z+j))]? = some v/\v.oneCell'=true/\aQ w R h μ c v:=by
    intro i j ay ai;have aL:off+(i*z+j)<cs.length:=by
     have:i*z+z<=es.length*z:=by rw[<-Nat.succ_mul]; exact Nat.mul_le_mul_right _ ay
     omega
    obtain⟨v,ad,ae,aj⟩:=np _ _ (List.getElem?_eq_getElem aL);exact⟨_,v,List.getElem?_eq_getElem aL,ad,ae,aj⟩
   refine .a1 z es m.r (m.s+off) cap' (fun i j=>(arr[m.s+(off+(i*z+j))]?).getD undef) cZ aw (fun i j ay ai=>?_) (fun i e am j c' ai=>?_)
   ·obtain⟨c,v,ad,ae,aj,aD⟩:=r9 i j ay ai;refine⟨?_,?_,kg,cR⟩
    ·simp only[World.cell?,aP,ae,Option.getD_some,Option.isSome_none];rw[show m.s+off+(i*z+j)=m.s+(off+(i*z+j)) by omega,ae]; rfl
    ·rw[ae]; exact aj
   ·have ay:i<es.length:=(List.getElem?_eq_some_iff.1 am).1;have nu:j<z:=by rw[<-aw e (List.mem_of_getElem? am)]; exact (List.getElem?_eq_some_iff.1 ai).1
    obtain⟨c,v,ad,ae,aj,aD⟩:=r9 i j ay nu;simp only[ae,Option.getD_some];exact aR i j e c c' am ai ad aD
theorem nS.rel {R:Nat->Prop} {B:Nat} {w:World} {h ae:aO} {μ:cr} (rel:bP R B w h μ) (k:nS h ae) :bP R B w ae μ:=by
 refine⟨?_,?_,?_,?_,rel.up,rel.size,?_⟩
 ·intro b m hm;have af:=rel.blk b m hm;rcases k.blk b with am | ⟨sz,cs,ah,bg | ⟨hT,D8,bA,ao⟩⟩
  ·rw[am]; exact af.ext (k.ext w μ).toExt0 rfl
  ·rw[bg]; trivial
  ·rw[D8];rw[ah] at af;obtain⟨ad,e5,arr,t,e4,aj,aD,a2,bv⟩:=af;refine⟨by omega,e5,arr,t,e4,aj,aD,a2,fun j b7 ai=>?_⟩;have aL:j<cs.length:=by rw[<-bA]; exact (List.getElem?_eq_some_iff.1 ai).1
   obtain⟨v,a8,bh,b6⟩:=bv j cs[j] (List.getElem?_eq_getElem aL);exact⟨v,a8,bh,k.qm rel (ao j cs[j] b7 (List.getElem?_eq_getElem aL) ai) b6⟩
 ·intro b aZ m ct al dx hm bX az;exact rel.inj b aZ m ct (k.live al) (k.live dx) hm bX az
 ·intro b m al hm;exact rel.base b m (k.live al) hm
 ·intro b af;rw[k.n] at af;rcases k.blk b with am | ⟨sz,cs,ah,_⟩
  ·rw[am]; exact rel.fresh b af
  ·rw[rel.fresh b af] at ah; cases ah
 ·intro b af;rw[k.n] at af;exact rel.lX b af
theorem aoC (bg:QN P G) {j:J} (ai:dJ P G j) :yJ P G j:=by
 induction ai with
 | skip N σ h=>exact⟨0,fun R B w μ a Q rel g s k=>wp_skip (k a w μ (.refl _ _ _) rel s)⟩
 | label l N σ h=>exact⟨0,fun R B w μ a Q rel g s k=>wp_label (k a w μ (.refl _ _ _) rel s)⟩
 | ret N σ h=>exact⟨0,fun R B w μ a Q rel g s k=>wp_ret (k a w μ (.refl _ _ _) rel s)⟩
 | exit id N σ h=>exact⟨0,fun R B w μ a Q rel g s k=>wp_exit (k a w μ (.refl _ _ _) rel s)⟩
 | Z7 ad ae eF oo=>
  obtain⟨jn,eF⟩:=eF;obtain⟨rj,oo⟩:=oo;exact⟨0,fun R B w μ a Q rel g s k=>wp_seq (pu.wp (eF R B w μ a _ rel g s fun a8 bO ha aS da c0=>
   pu.wp (oo R B bO ha a8 Q da (g.ext aS) c0 fun bh w2 pv bt dj iC=>k bh w2 pv (aS.trans bt) dj iC)))⟩
 | PV ad am eF=>
  obtain⟨jn,eF⟩:=eF;exact⟨0,fun R B w μ a Q rel g s k=>wp_seq (pu.wp (eF R B w μ a _ rel g s fun a8 bO ha aS da c0=>aaQ am (k a8 bO ha aS da c0)))⟩
 | cond ah ad eF=>
  rename_i c x y N σ h b e bG h';obtain⟨jn,eF⟩:=eF;refine⟨0,fun R B w μ a Q rel g s k=>?_⟩;have ao:=s.c2 g c;rw[ah] at ao;cases tx:a.eval c<;>rw[tx] at ao<;>try (cases ao; done)
  cases ao;exact wp_cond tx (pu.wp (eF R B w μ a Q rel g s k))
 | Hk ad am eF=>
  obtain⟨jn,eF⟩:=eF;exact⟨0,fun R B w μ a Q rel g s k=>wp_block (pu.wp (eF R B w μ a _ rel g s fun a8 bO ha aS da c0=>acP am (k a8 bO ha aS da c0)))⟩
 | RB ad eF=>
  obtain⟨jn,eF⟩:=eF;exact⟨0,fun R B w μ a Q rel g s k=>wp_block (pu.wp (eF R B w μ a _ rel g s fun a8 bO ha aS da c0=>by
   simp only[s4.out,Exit.inBlock,if_true];exact k a8 bO ha aS da c0))⟩
 | Cl ad ae eF oo=>
  obtain⟨jn,eF⟩:=eF;obtain⟨rj,oo⟩:=oo;exact⟨rj+1,fun R B w μ a Q rel g s k=>pu.wp (eF R B w μ a _ rel g s fun a8 bO ha aS da c0=>
   oo R B bO ha a8 Q da (g.ext aS) c0 fun bh w2 pv bt dj iC=>k bh w2 pv (aS.trans bt) dj iC)⟩
 | OC ad am eF=>
  obtain⟨jn,eF⟩:=eF;exact⟨1,fun R B w μ a Q rel g s k=>pu.wp (eF R B w μ a _ rel g s fun a8 bO ha aS da c0=>aaQ am (k a8 bO ha aS da c0))⟩
 | scope ad eF=>
  obtain⟨jn,eF⟩:=eF;rename_i c N σ h e bG h';refine⟨0,fun R B w μ a Q rel g s k=>wp_scope_straight (pu.wp (eF R B w μ a _ rel g s fun a8 bO ha aS da c0=>?_))⟩;have:=k a8 bO ha aS da c0;cases e<;>exact this
 | region ad eF=>exact⟨0,fun R B w μ a Q rel g s k=>wp_region_list (eF R B w μ a Q rel g s k)⟩
 | draw pre val W cls m ak gc s7 hb cells h4 qZ aJ hm Jh zf EC lk sd tN xn I4 pT Ie Ig q2 xd aR=>
  exact bg pre val W cls m ak gc s7 hb cells h4 qZ aJ hm Jh zf EC lk sd tN xn I4 pT Ie Ig q2 aR
 | Yx=>exact fun R B w μ a Q rel g s k=>k a w μ (.refl _ _ _) rel s
 | Yz aP EA ad eF=>
  intro R B w μ a Q rel g s k;have tN:=Qy (w:=w) (R:=R) (h:=_) (μ:=μ) (tmps:=a.tmps) aP (fun d _=>s.val d);unfold wpList;rw[if_neg (by rw[tN]; simp)];exact eF R B w μ _ Q rel g (s.put EA Gz) k
 | Yy aP EA ad ae eF oo=>
  intro R B w μ a Q rel g s k;have tN:=Qy (w:=w) (R:=R) (h:=_) (μ:=μ) (tmps:=a.tmps) aP (fun d _=>s.val d);unfold wpList;rw[if_pos tN];refine .inl (eF R B w μ a _ _ Q rfl rel g (s.c2 g) fun v' bO ha aS da ao=>?_);exact oo R B bO ha _ Q da (g.ext aS) ((s.ext aS).put EA ao) fun bh w2 pv bt dj iC=>k bh w2 pv (aS.trans bt) dj iC
 | JP ak=>
  intro R B w μ a o K Q av rel g c9 k;subst av;have:=P8 (P:=P) rel c9 o ak;obtain⟨v,w',μ',az,e,r,ao⟩:=this;unfold Oper.wp;rcases az with az | ⟨az,rfl⟩
  ·rw[az]; exact k v w' μ' e r ao
  ·rw[az]; exact k undef w' μ' e r ao
 | Cu ak ad eF=>
  intro R B w μ a o K Q av rel g c9 k;subst av;obtain⟨rfl,vs,az,al,ao⟩:=P8 (P:=P) rel c9 o ak;unfold Oper.wp;rw[az];refine (eF R B w μ vs rel g al ao).mono ?_;rintro e w' ⟨v,μ',rfl,aS,da,nA⟩;exact k v w' μ' aS da nA
 | KI ad iO ao eF=>
  intro R B w μ a o K Q av rel g c9 k;refine eF R B w μ a o K Q av rel g c9 fun v' w' μ' e r vE=>?_
  exact k v' w' μ' (e.trans (iO.ext w' μ')) (iO.rel r) (iO.qm r ao vE)
 | inline aF af ad am az eF=>
  rename_i f fn c args h e bG h' r;obtain⟨jn,eF⟩:=eF;intro R B w μ vs rel g al ao;refine calls_of_wp aF af (pu.wp (eF R B w μ _ _ rel g ⟨by simp[al],rfl,fun t=>?_⟩ fun a8 bO ha aS da c0=>?_))
  ·by_cases aX:t<args.length
   ·have aE:args.getD t gU=args[t] :=by simp[List.getD,aX]
    have ix:(vs++Array.replicate (fn.ntmps - vs.size) undef).getD t undef=vs[t] :=by
     rw[Array.getD_eq_getD_getElem?,Array.getElem?_append_left (by omega)];simp[show t<vs.size by omega]
    rw[aE,ix];exact ao t _ _ (by simp[aX]) (by simp)
   ·have aE:args.getD t gU=gU:=by simp[List.getD,List.getElem?_eq_none (by omega:args.length<=t)]
    have ix:(vs++Array.replicate (fn.ntmps - vs.size) undef).getD t undef=undef:=by
     rw[Array.getD_eq_getD_getElem?,Array.getElem?_append_right (by omega),Array.getElem?_replicate];split<;>rfl
    rw[aE,ix];exact Gz
  ·obtain⟨v,bZ,ce⟩:=ZL da c0 az;have vz:c0.defers=c0.defers:=rfl;rcases am with rfl | rfl
   ·exact⟨c0.defers,v,bZ,v,ha,rfl,aS,da,ce⟩
   ·exact⟨c0.defers,v,bZ,v,ha,rfl,aS,da,ce⟩
 | pure au ah=>exact amH au ah
 | Pn au al az aF=>exact amF au al az aF
 | ext ak=>exact ak
 | Po au al az=>exact amG au al az
end

end Go.bV

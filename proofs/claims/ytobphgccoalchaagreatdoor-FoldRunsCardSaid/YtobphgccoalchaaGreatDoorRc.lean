/-
  The canonical machine, part Im: maps, strings rune by rune, bytes compared.
-/
import Derived.Test.YtobphgccoalchaaGreatDoorRb
import Derived.Stop.SameAnswer
import Derived.Orders
import Derived.Still
import Derived.Scope
import Derived.LoopN
set_option linter.unusedVariables false
set_option linter.unusedSimpArgs false
set_option linter.unnecessarySimpa false
namespace Go.cf
open Go
section
variable {P:Program} {w:World} {R:Nat->Prop} {B:Nat} {h:a6} {μ:cR}
def vn:ad->Value
 | .bool b=>.bool b
 | .int k n=>.int k n
 | .str s=>.string ⟨s.toArray⟩
 | _=>.tuple #[]
def zx:ad->Value
 | .aI cs=>.agg (cs.map vn).toArray
 | c=>vn c
theorem aha {c:ad} {v:Value} (aC:tD c=true) (aw:aS w R h μ c v) :v=vn c:=by
 cases c<;>simp[tD] at aC
 ·cases aw; rfl
 ·cases aw; rfl
 ·cases aw;rename_i bs;show Value.string bs=.string ⟨bs.data.toList.toArray⟩;congr 1
theorem HE {t:TypeId} {c:ad} (aD:nx P t c=true) :∃ cs m,c=.aI cs/\r3 P 8 t=true/\eA P t=some true/\cG P t=some m/\cs.length=m/\∀ x∈cs,tD x=true:=by
 unfold nx at aD;split at aD
 ·rename_i cs;simp only[ar3] at aD;obtain⟨⟨h1,ae⟩,al⟩:=aD;split at ae
  ·rename_i m az ak;exact⟨cs,m,rfl,h1,az,ak,as7 ae,fun x ai=>asZ.1 al x ai⟩
  ·cases ae
 ·cases aD
theorem MF {t:TypeId} {c:ad} {v:Value} (aD:nx P t c=true) (aw:aS w R h μ c v) :v=zx c:=by
 obtain⟨cs,m,rfl,_,_,_,_,hint⟩:=HE aD;cases aw with
 | aI _ vs am h1 aw=>
  show Value.agg vs=.agg (cs.map vn).toArray;congr 1;apply Array.ext_getElem?;intro j;have ai:(cs.map vn).toArray[j]? = (cs[j]?).map vn:=by simp
  rw[ai];cases aj:cs[j]? with
  | none=>simp only[Option.map_none]; rw[atI]; rw[am]; exact aut.1 aj
  | some c=>
   have aM:=(arY.1 aj).1;have mq:=aw j c vs[j] aj (atz (by omega));rw[atz (by omega)];simp only[asb,Option.some.injEq];exact aha (hint c (ar4 aj)) mq
theorem Zf (a:ByteArray) :(a == a)=true:=by
 show (a.data == a.data)=true;exact beq_self_eq_true _
theorem aiK {c:ad} (n:Nat) (ah:tD c=true) :Instr.sameBits n (vn c) (vn c)=true:=by
 cases c<;>simp[tD] at ah<;>unfold vn Instr.sameBits
 ·simp
 ·simp
 ·exact Zf _
theorem aiJ {t:TypeId} {c:ad} (n:Nat) (aD:nx P t c=true) :Instr.sameBits (n+1) (zx c) (zx c)=true:=by
 obtain⟨cs,m,rfl,_,_,_,_,hint⟩:=HE aD;unfold zx Instr.sameBits;simp only[beq_self_eq_true,asM,asZ];rintro⟨x,y⟩ lg;rw[ar6] at lg;obtain⟨j,aj⟩:=lg;rw[List.getElem?_zip_eq_some] at aj;obtain⟨h1,ae⟩:=aj;rw[h1] at ae; cases ae;simp only[ar5,auF] at h1;obtain⟨c,ah,rfl⟩:=h1;exact aiK n (hint c (ar4 ah))
theorem aiE {t:TypeId} {c:ad} (aD:nx P t c=true) :(Instr.keyThatStays (zx c) (zx c)).run P w=.ok (zx c) w:=by
 unfold Instr.keyThatStays;rw[if_pos (aiJ 9999 aD)];simp
theorem Kb {α:Type} {f:α->PUnit->Sem (ForInStep PUnit)}:∀ (l:List α),(∀ x∈l,(f x ⟨⟩).run P w=.ok (.yield ⟨⟩) w)->(forIn l ⟨⟩ f).run P w=.ok ⟨⟩ w
 | [],_=>by simp
 | x::l,aD=>by
  rw[List.forIn_cons];simp only[Sem.run_bind,aD x (by simp),Result.andThen_ok];exact Kb l (fun y ay=>aD y (by simp[ay]))
theorem NT (em:Bool) :∀ (d n:Nat) (t:TypeId) (c:ad) (v:Value),d<=n->r3 P d t=true->aS w R h μ c v->(eA P t=some true->∃ cs m,c=.aI cs/\cG P t=some m/\cs.length=m)->
  (Instr.checkKey em n t v).run P w=.ok () w
 | 0,_,_,_,_,_,hk,_,_=>by simp[r3] at hk
 | d+1,0,_,_,_,aF,_,_,_=>by omega
 | d+1,n+1,t,c,v,aF,hk,aw,az=>by
  unfold r3 at hk;split at hk
  ·rename_i aP; cases v<;>simp[Instr.checkKey,cF aP]
  ·rename_i aP; cases v<;>simp[Instr.checkKey,cF aP]
  ·rename_i aP; cases v<;>simp[Instr.checkKey,cF aP]
  ·rename_i len e m aP hm;have KS:eA P t=some true:=by unfold eA; rw[aP]; rfl
   obtain⟨cs,cD,rfl,b9,am⟩:=az KS;rw[hm] at b9; cases b9;simp only[ar3] at hk;obtain⟨mg,ia⟩:=hk;split at ia
   ·rename_i z a av KU;simp only[ar3] at ia;have dT:=atY ia.1;have uW:=atY ia.2;obtain⟨vs,rfl,aA⟩:=vF aw;unfold Instr.checkKey;simp only[Sem.run_bind,cF aP,Result.andThen_ok];rw[Std.Legacy.Range.forIn_eq_forIn_range'];rw[Kb]
    ·simp
    intro i ax;have cY:i<len:=by simp[Std.Legacy.Range.size] at ax; omega
    have adp:i*z+z<=cs.length:=by
     have:i*z+z<=len*z:=by rw[<-asB]; exact ar2 _ cY
     omega
    have aC:∃ c,ij P e cs (i*z)=some c/\(eA P e=some true->∃ cs' cD,c=.aI cs'/\cG P e=some cD/\cs'.length=cD) :=by
     unfold ij;rw[KU,av];cases a with
     | true=>exact⟨_,by simp only; rw[if_pos adp],fun _=>⟨_,z,rfl,rfl,by simp; omega⟩⟩
     | false=>exact⟨cs[i*z]'(by omega),by simp only; exact ar1 (by omega),fun h=>by cases h⟩
    obtain⟨c,ah,KZ⟩:=aC;obtain⟨u,al,aE⟩:=xf (P:=P) ah aA;simp only[Sem.run_bind,fT av,Result.andThen_ok,al w];rw[NT em d n e c u (by omega) mg aE KZ];simp
   ·cases ia
  ·rename_i fs m aP hm;have KS:eA P t=some true:=by unfold eA; rw[aP]; rfl
   obtain⟨cs,cD,rfl,b9,am⟩:=az KS;rw[hm] at b9; cases b9;obtain⟨vs,rfl,aA⟩:=vF aw;unfold Instr.checkKey;simp only[Sem.run_bind,cF aP,Result.andThen_ok];rw[<-Array.forIn_toList,Kb]
   ·simp
   intro f aD;have GR:=asZ.1 hk f aD;simp only[ar3] at GR;obtain⟨mg,ia⟩:=GR;split at ia
   ·rename_i z a av KU;simp only[ar3] at ia;have dT:=atY ia.1;have uW:=atY ia.2;have aC:∃ c,ij P f.type cs f.offset=some c/\(eA P f.type=some true->∃ cs' cD,c=.aI cs'/\cG P f.type=some cD/\cs'.length=cD) :=by
     unfold ij;rw[KU,av];cases a with
     | true=>exact⟨_,by simp only; rw[if_pos (by omega)],fun _=>⟨_,z,rfl,rfl,by simp; omega⟩⟩
     | false=>exact⟨cs[f.offset]'(by omega),by simp only; exact ar1 (by omega),fun h=>by cases h⟩
    obtain⟨c,ah,KZ⟩:=aC;obtain⟨u,al,aE⟩:=xf (P:=P) ah aA;have:=NT em d n f.type c u (by omega) mg aE KZ;by_cases Dl:f.name= "_"
    ·simp[Dl]
    ·simp[Dl,al w,this]
   ·cases ia
  ·cases hk
theorem We {t:TypeId} {c:ad} {v:Value} (em:Bool) (aD:nx P t c=true) (aw:aS w R h μ c v) :(Instr.checkKey em 10000 t v).run P w=.ok () w:=by
 obtain⟨cs,m,rfl,h1,ae,al,aE,_⟩:=HE aD;exact NT em 8 10000 t _ v (by omega) h1 aw (fun _=>⟨cs,m,rfl,al,aE⟩)
def tU (w:World) (R:Nat->Prop) (h:a6) (μ:cR) (es:List (ad × ad × Nat)) (dH:List MapEntry) :Prop:=
 dH.length=es.length/\∀ (j:Nat) (k v:ad) (b:Nat),es[j]? = some (k,v,b)->∃ x:MapEntry,dH[j]? = some x/\aS w R h μ k x.key/\aS w R h μ v x.val/\x.born=b
def OZ (w:World) (R:Nat->Prop) (h:a6) (μ:cR) (k:ad) (dH:List MapEntry) (i:Nat) :Option (Nat × ad)->Option (Nat × Value)->Prop
 | none,r=>r=none
 | some (j,v),r=>∃ pV,r=some (j,pV)/\aS w R h μ v pV/\i<=j/\∃ x,dH[j - i]? = some x/\x.val=pV/\aS w R h μ k x.key
theorem aan {es:List (ad × ad × Nat)} {e:ad × ad × Nat} {x:MapEntry} {dH:List MapEntry} (aA:tU w R h μ (e::es) (x::dH)) :tU w R h μ es dH:=
 ⟨by have:=aA.1; simp at this; exact this,fun j k v b aj=>aA.2 (j+1) k v b (by simpa using aj)⟩
theorem aam {es:List (ad × ad × Nat)} {k v:ad} {b:Nat} {x:MapEntry} {dH:List MapEntry} (aA:tU w R h μ ((k,v,b) ::es) (x::dH)) :aS w R h μ k x.key/\aS w R h μ v x.val/\x.born=b:=by
 obtain⟨y,h1,ae⟩:=aA.2 0 k v b rfl;simp at h1; subst h1; exact ae
theorem QJ {dD:TypeId} {k:ad} {ie:Value} (hk:aS w R h μ k ie) :∀ (es:List (ad × ad × Nat)) (dH:List MapEntry) (i:Nat) (r:Option (Nat × ad)),tU w R h μ es dH->lF P dD k es i=some r->
  ∃ dI,(Instr.findAsking dD ie dH i).run P w=.ok dI w/\OZ w R h μ k dH i r dI
 | [],dH,i,r,aA,aD=>by
  have:dH=[] :=asF.1 aA.1;subst this;simp only[lF,Option.some.injEq] at aD; subst aD;exact⟨none,by simp[Instr.findAsking],rfl⟩
 | (k',v,b) ::es,[],i,r,aA,aD=>by have:=aA.1; simp at this
 | (k',v,b) ::es,x::dH,i,r,aA,aD=>by
  obtain⟨h1,ae,al⟩:=aam aA;simp only[lF] at aD;split at aD
  ·cases aD
  rename_i e8;split at aD
  ·rename_i heq;split at aD
   ·rename_i acs;simp only[Option.some.injEq] at aD; subst aD;have iO:=J4 (P:=P) 10000 dD k k' true ie x.key heq hk h1;refine⟨some (i,x.val),?_,x.val,rfl,ae,ar0 _,x,by simp,rfl,?_⟩
    ·simp only[Instr.findAsking,Op.equal,Op.maxDepth,Sem.run_bind];rw[iO]; simp
    ·rw[ad.beq_eq acs]; exact h1
   ·cases aD
  ·rename_i heq;have iO:=J4 (P:=P) 10000 dD k k' false ie x.key heq hk h1;obtain⟨dI,aE,aU⟩:=QJ hk es dH (i+1) r (aan aA) aD;refine⟨dI,?_,?_⟩
   ·simp only[Instr.findAsking,Op.equal,Op.maxDepth,Sem.run_bind];rw[iO]; simpa using aE
   ·cases r with
    | none=>exact aU
    | some wZ=>
     obtain⟨pV,bz,dy,eQ,y,ev,mQ,uy⟩:=aU;exact⟨pV,bz,dy,by omega,y,by rw[show wZ.1 - i=(wZ.1 - (i+1))+1 by omega]; simpa using ev,mQ,uy⟩
  ·cases aD
theorem Wg {dD:TypeId} {k:ad} {ie:Value} (hk:aS w R h μ k ie) (aD:nx P dD k=true) {es:List (ad × ad × Nat)} {dH:List MapEntry} {r:Option (Nat × ad)} (aA:tU w R h μ es dH) (K9:lF P dD k es 0=some r) :
  ∃ dI,(Instr.findKey dD ie dH).run P w=.ok dI w/\OZ w R h μ k dH 0 r dI:=by
 obtain⟨dI,h1,ae⟩:=QJ hk es dH 0 r aA K9;refine⟨dI,?_,ae⟩;obtain⟨cs,m,rfl,al,aE,_⟩:=HE aD;unfold eA at aE;cases aP:P.underlying dD with
 | none=>rw[aP] at aE; cases aE
 | some d=>
  rw[aP] at aE;unfold Instr.findKey;simp only[Sem.run_bind,cF aP,Result.andThen_ok];cases dH with
  | nil=>simpa [Instr.findNow,Instr.findAsking] using h1
  | cons x dH=>
   have aF:Instr.findNow d ie (x::dH) 0=none:=by
    cases d<;>simp at aE<;>simp[Instr.findNow,Instr.sameNow]
   rw[aF];exact h1
theorem agi (rel:cc R B w h μ) {m:ad} {gO:Value} {es:List (ad × ad × Nat)} (hm:mapOf h m=some es) (aw:aS w R h μ m gO) :
  (gO=.map none/\es=[])\/∃ b cr fl dH,m=.mp b/\h.f b=.map es fl/\μ b=some cr/\gO=.map (some cr.r)/\w.heap[cr.r]? = some (.map dH fl)/\tU w R h μ es dH.toList:=by
 cases m<;>simp[mapOf] at hm
 ·subst hm; cases aw; exact .inl ⟨rfl,rfl⟩
 ·rename_i b;cases aw with
  | mp _ cr ag i7=>
   cases ah:h.f b<;>rw[ah] at hm<;>simp at hm;rename_i am2 fl;subst hm;have hblk:=rel.blk b cr i7;rw[ah] at hblk;obtain⟨dH,h1,ae,al⟩:=hblk;refine .inr ⟨b,cr,fl,dH,rfl,ah,i7,rfl,h1,by simpa using ae,fun j k v bw aj=>?_⟩;obtain⟨x,aE,aU⟩:=al j k v bw aj;exact⟨x,by simpa using aE,aU⟩
theorem NU {r:Nat} {es:Array MapEntry} {fl:Nat} (ag:w.heap[r]? = some (.map es fl)) :(getObj r).run P w=.ok (.map es fl) w:=by simp[getObj,Sem.run,ag]
theorem Wh {r:Nat} {s:ByteArray} {pos:Nat} (ag:w.heap[r]? = some (.stringIter s pos)) :(getObj r).run P w=.ok (.stringIter s pos) w:=by simp[getObj,Sem.run,ag]
theorem Xw {t:TypeId} {z:ad} (av:zF P t=some z) :∃ v,(zeroValue t).run P w=.ok v w/\aS w R h μ z v:=by
 unfold zF at av;cases ax:P.info? t with
 | none=>rw[ax] at av; cases av
 | some i=>
  rw[ax] at av;simp only[atM] at av;cases aw:i.zero with
  | none=>rw[aw] at av; cases av
  | some v=>
   rw[aw] at av;simp only[asb,Option.some.injEq] at av; subst av;exact⟨v,Wj ax aw,.xb v⟩
theorem aS.W1 {a b:ad} {iJ fq:Value} (az:aS w R h μ a iJ) (ag:aS w R h μ b fq) :aS w R h μ (.bJ [a,b]) (.tuple #[iJ,fq]) :=by
 refine .bJ _ _ rfl fun j c v ah aw=>?_
 rcases j with _ | _ | j
 ·simp at ah aw; subst ah aw; exact az
 ·simp at ah aw; subst ah aw; exact ag
 ·simp at ah
theorem af9 (rel:cc R B w h μ) {t:TypeId} {m k c:ad} {gO ie:Value} {ok:Bool} (am:HM P h t m k ok=some c) (hm:aS w R h μ m gO) (hk:aS w R h μ k ie) :
  ∃ v,(Instr.lookup t gO ie ok).run P w=.ok v w/\aS w R h μ c v:=by
 unfold HM at am;split at am
 ·rename_i dD nk es aP wF;split at am
  ·cases am
  ·rename_i e8;have ZV:∀ dH:List MapEntry,tU w R h μ es dH->∃ dI,(Instr.findKey dD ie dH).run P w=.ok dI w ∧
     ((∃ i v,dI=some (i,v)/\∃ um,aS w R h μ um v/\c=if ok then .bJ [um,.bool true] else um)\/(dI=none/\∃ z,zF P nk=some z/\c=if ok then .bJ [z,.bool false] else z)) :=by
    intro dH aA;cases mf:lF P dD k es 0 with
    | none=>rw[mf] at am; cases am
    | some r=>
     obtain⟨dI,h1,ae⟩:=Wg hk e8 aA mf;rw[mf] at am;refine⟨dI,h1,?_⟩;cases r with
     | none=>
      cases ae;simp only at am;cases av:zF P nk with
      | none=>rw[av] at am; cases am
      | some z=>
       rw[av] at am;simp only[asb,Option.some.injEq] at am;exact .inr ⟨rfl,z,rfl,am.symm⟩
     | some wZ=>
      obtain⟨pV,rfl,aE,_⟩:=ae;simp only[Option.some.injEq] at am;exact .inl ⟨_,pV,rfl,_,aE,am.symm⟩
   have fin:∀ (dH:List MapEntry) (em:Bool),tU w R h μ es dH->∀ m:Sem Value,m.run P w=(((Instr.checkKey em 10000 dD ie).bind fun _=>(Instr.findKey dD ie dH).bind fun r=>match r with
     | some (_,v)=>pure (if ok=true then .tuple #[v,.bool true] else v)
     | none=>(zeroValue nk).bind fun z=>pure (if ok=true then .tuple #[z,.bool false] else z)) :Sem Value).run P w->∃ v,m.run P w=.ok v w/\aS w R h μ c v:=by
    intro dH em aA m hm;obtain⟨dI,h1,ae⟩:=ZV dH aA;have Gv:∀ {α kA:Type} (a:Sem α) (f:α->Sem kA),a.bind f=a >>= f:=fun _ _=>rfl
    simp only[Gv,Sem.run_bind,We em e8 hk,Result.andThen_ok,h1] at hm;rcases ae with ⟨i,v,rfl,um,al,rfl⟩ | ⟨rfl,z,al,rfl⟩
    ·simp only at hm;cases ok
     ·exact⟨v,by simpa using hm,al⟩
     ·exact⟨.tuple #[v,.bool true],by simpa using hm,aS.W1 al (.bool _)⟩
    ·obtain⟨v,aE,aU⟩:=Xw (w:=w) (R:=R) (h:=h) (μ:=μ) al;simp only[Sem.run_bind,aE,Result.andThen_ok] at hm;cases ok
     ·exact⟨v,by simpa using hm,aU⟩
     ·exact⟨.tuple #[v,.bool false],by simpa using hm,aS.W1 aU (.bool _)⟩
   have Gv:∀ {α kA:Type} (a:Sem α) (f:α->Sem kA),a.bind f=a >>= f:=fun _ _=>rfl
   rcases agi rel wF hm with ⟨rfl,rfl⟩ | ⟨b,cr,fl,dH,rfl,ag,i7,rfl,kN,aA⟩
   ·refine fin [] true ⟨rfl,fun j k v b aj=>by simp at aj⟩ _ ?_;unfold Instr.lookup;simp only[Gv,Sem.run_bind,cF aP,Result.andThen_ok,Sem.run_pure];cases cO:(Instr.checkKey true 10000 dD ie).run P w with
    | halt a b=>simp[cO]
    | ok a bX=>
     simp[cO];cases ac2:(Instr.findKey dD ie []).run P bX with
     | halt a b=>simp
     | ok r w2=>
      simp;cases r with
      | none=>cases (zeroValue nk).run P w2<;>simp
      | some x=>simp
   ·refine fin dH.toList dH.isEmpty aA _ ?_;unfold Instr.lookup;simp only[Gv,Sem.run_bind,cF aP,Result.andThen_ok,Sem.run_pure,NU kN];cases cO:(Instr.checkKey dH.isEmpty 10000 dD ie).run P w with
    | halt a b=>simp[cO]
    | ok a bX=>
     simp[cO];cases ac2:(Instr.findKey dD ie dH.toList).run P bX with
     | halt a b=>simp
     | ok r w2=>
      simp;cases r with
      | none=>cases (zeroValue nk).run P w2<;>simp
      | some x=>simp
 ·cases am
theorem afZ (rel:cc R B w h μ) {t ty:TypeId} {x c:ad} {bL:Value} (ah:y7 P h t x=some c) (ai:aS w R h μ x bL) :∃ v,(Builtin.len_ #[t] ty #[bL]).run P w=.ok v w/\aS w R h μ c v:=by
 unfold y7 at ah;split at ah
 ·rename_i dD nk b aP;split at ah
  ·rename_i es fl ag;simp only[Option.some.injEq] at ah; subst ah;cases ai with
   | mp _ cr hk i7=>
    have hblk:=rel.blk b cr i7;rw[ag] at hblk;obtain⟨dH,h1,ae,al⟩:=hblk;exact⟨.int .i64 dH.size,by simp[Builtin.len_,cF aP,NU h1,goInt],by rw[ae]; exact .int _ _⟩
  ·cases ah
 ·cases ah
theorem agf (rel:cc R B w h μ) {t:TypeId} {r:Option Value} (aP:∃ k e,P.underlying t=some (.map k e)) (aA:∀ x,r=some x->∃ k n,x=.int k n) :∃ v w' μ',(Instr.makeMap t r).run P w=.ok v w'/\dQ w h μ w' (h.push (.map [] 0)) μ'/\cc R B w' (h.push (.map [] 0)) μ'/\aS w' R (h.push (.map [] 0)) μ' (.mp h.n) v:=by
 have:=rel.Vp (w':=w.alloc (.map #[] 0)) (.map [] 0) (.map #[] 0) (k:=0) rfl rfl rfl rfl rfl ⟨#[],by show (w.heap.push _)[w.heap.size]? = _; simp,rfl,fun j k v b aj=>by simp at aj⟩;refine⟨.map (some w.heap.size),w.alloc (.map #[] 0),_,?_,this.1,this.2,?_⟩
 ·obtain⟨k,e,aP⟩:=aP;cases r with
  | none=>simp[Instr.makeMap,newObj,Sem.run]
  | some x=>
   obtain⟨k',n,rfl⟩:=aA x rfl;simp[Instr.makeMap,newObj,Sem.run,cF aP,Go.asInt,Go.asIntOf]
 ·exact .mp h.n ⟨w.heap.size,0,0⟩ (by simp[eH,oQ]) (by simp)
theorem Uk (rel:cc R B w h μ) {t:TypeId} {m k x:ad} {gO ie bL:Value} {h' : a6} (oP:zc P h t m k x=some h') (hm:aS w R h μ m gO) (hk:aS w R h μ k ie) (ai:aS w R h μ x bL) :
  ∃ w',(Instr.mapUpdate t gO ie bL).run P w=.ok () w'/\dQ w h μ w' h' μ/\cc R B w' h' μ:=by
 unfold zc at oP;split at oP
 ·rename_i dD nk b aP;split at oP
  ·rename_i es fl ag;split at oP
   ·cases oP
   ·rename_i e8;cases hm with
    | mp _ cr rR i7=>
     have hblk:=rel.blk b cr i7;rw[ag] at hblk;obtain⟨dH,h1,ae,al⟩:=hblk;have aM:cr.r<w.heap.size:=by
      rcases as3 cr.r w.heap.size with h | h
      ·exact h
      ·rw[atI h] at h1; cases h1
     have aA:tU w R h μ es dH.toList:=⟨by simpa using ae,fun j k v bw aj=>by obtain⟨y,aE,aU⟩:=al j k v bw aj; exact⟨y,by simpa using aE,aU⟩⟩
     have kR:∀ o:Obj,(setObj cr.r o).run P w=.ok () { w with heap:=w.heap.setIfInBounds cr.r o }:=fun o=>by simp[setObj,Sem.run,h1]
     have iB:∀ (x5:List (ad × ad × Nat)) (Af:Array MapEntry) (Co:Nat),(∀ {w2:World} {ae:a6},Ext0 w h μ w2 ae μ->Af.size=x5.length/\∀ (j:Nat) (k v:ad) (b:Nat),x5[j]? = some (k,v,b)->∃ x:MapEntry,Af[j]? = some x/\aS w2 R ae μ k x.key/\aS w2 R ae μ v x.val/\x.born=b)->
       dQ w h μ { w with heap:=w.heap.setIfInBounds cr.r (.map Af Co) } (h.set b (.map x5 Co)) μ/\cc R B { w with heap:=w.heap.setIfInBounds cr.r (.map Af Co) } (h.set b (.map x5 Co)) μ:=by
      intro x5 Af Co bd;refine rel.eS (k:=0) ag rfl rfl i7 rfl rfl rfl (by simp) (fun k hk=>?_) (fun e=>?_)
      ·simp only; rw[atu]; rw[if_neg (fun aH=>hk aH.symm)]
      ·obtain⟨q1,dE⟩:=bd e;exact⟨Af,by simp only; rw[atu]; simp[aM],q1,dE⟩
     unfold Instr.mapUpdate;simp only[Sem.run_bind,cF aP,Result.andThen_ok,NU h1,We false e8 hk];cases mf:lF P dD k es 0 with
     | none=>rw[mf] at oP; cases oP
     | some r=>
      rw[mf] at oP;obtain⟨dI,aE,aU⟩:=Wg hk e8 aA mf;rw[aE];cases r with
      | none=>
       cases aU;simp only[Option.some.injEq] at oP; subst oP;have:=iB (es++[(k,x,fl)]) (dH.push { key:=ie,val:=bL,born:=fl }) (fl+1) (fun e=>⟨by simp[ae],fun j k' a8 bw aj=>?_⟩)
       ·exact⟨_,by simp only[Result.andThen_ok]; rw[kR],this⟩
       ·rw[Array.getElem?_push];by_cases e3:j<es.length
        ·rw[arZ e3] at aj;obtain⟨y,bz,dy,eQ,ev⟩:=al j k' a8 bw aj;exact⟨y,by rw[if_neg (by omega)]; exact bz,dy.nR e,eQ.nR e,ev⟩
        ·rw[ar8 (by omega)] at aj;have Lh:j - es.length=0:=by
          rcases Nat.eq_zero_or_pos (j - es.length) with h | h
          ·exact h
          ·rw[ase (by simp; omega)] at aj; cases aj
         rw[Lh] at aj;simp at aj;obtain⟨rfl,rfl,rfl⟩:=aj;exact⟨_,by rw[if_pos (by omega)],hk.nR e,ai.nR e,rfl⟩
      | some wZ=>
       obtain⟨i,v⟩:=wZ;obtain⟨pV,rfl,bz,_,y,dy,eQ,ev⟩:=aU;simp only[Option.some.injEq] at oP; subst oP;have nV:dH[i]? = some y:=by simpa using dy
       have aR:y.key=ie:=by rw[MF e8 ev,MF e8 hk]
       have mY:(Instr.keyThatStays (((dH[i]?).map (·.key)).getD ie) ie).run P w=.ok ie w:=by
        rw[nV];simp only[asb,asT,aR];rw[MF e8 hk];exact aiE e8
       have:=iB (es.modify i fun e=>(k,x,e.2.2)) (dH.modify i fun e=>{ e with key:=ie,val:=bL }) fl (fun e=>⟨by simp[ae],fun j k' a8 bw aj=>?_⟩)
       ·refine⟨_,?_,this⟩;simp only[Result.andThen_ok,Sem.run_bind,mY];rw[kR]
       ·rw[List.getElem?_modify] at aj;rw[auj];cases nZ:es[j]? with
        | none=>rw[nZ] at aj; simp at aj
        | some h8=>
         obtain⟨g7,v0,hF⟩:=h8;rw[nZ] at aj;obtain⟨EU,mQ,uy,Kt,Rv⟩:=al j g7 v0 hF nZ;rw[mQ];by_cases iy:i=j
         ·simp[iy] at aj;obtain⟨rfl,rfl,rfl⟩:=aj;exact⟨{ EU with key:=ie,val:=bL },by simp[iy],hk.nR e,ai.nR e,Rv⟩
         ·simp[iy] at aj;obtain⟨rfl,rfl,rfl⟩:=aj;exact⟨EU,by simp[iy],uy.nR e,Kt.nR e,Rv⟩
  ·cases oP
 ·cases oP
theorem ah1 (rel:cc R B w h μ) {t:TypeId} {x c:ad} {bL:Value} {h' : a6} (aA:Io P h t x=some (c,h')) (ai:aS w R h μ x bL) :
  ∃ v w' μ',(Instr.range t bL).run P w=.ok v w'/\dQ w h μ w' h' μ'/\cc R B w' h' μ'/\aS w' R h' μ' c v:=by
 unfold Io at aA;split at aA
 ·rename_i s aP;simp only[Option.some.injEq,Prod.mk.injEq] at aA;obtain⟨rfl,rfl⟩:=aA;cases ai;rename_i bs;have:=rel.Vp (w':=w.alloc (.stringIter bs 0)) (.iter bs.data.toList 0) (.stringIter bs 0) (k:=1) rfl rfl rfl rfl rfl ⟨bs,rfl,by show (w.heap.push _)[w.heap.size]? = _; simp⟩;refine⟨.pointer (some ⟨w.heap.size,0,none⟩),w.alloc (.stringIter bs 0),_,?_,this.1,this.2,?_⟩
  ·simp[Instr.range,cF aP,newObj,Sem.run]
  ·exact .it h.n ⟨w.heap.size,0,0⟩ (by simp[eH,oQ]) (by simp)
 ·cases aA
theorem ags (rel:cc R B w h μ) {x c:ad} {bL:Value} {h' : a6} {ty:TypeId} (aA:HY h x=some (c,h')) (ai:aS w R h μ x bL) :
  ∃ v w',(Instr.next bL true ty).run P w=.ok v w'/\dQ w h μ w' h' μ/\cc R B w' h' μ/\aS w' R h' μ c v:=by
 unfold HY at aA;split at aA
 ·rename_i b;split at aA
  ·rename_i s pos ag;cases ai with
   | it _ cr rR i7=>
    have hblk:=rel.blk b cr i7;rw[ag] at hblk;obtain⟨bs,rfl,h1⟩:=hblk;have aM:cr.r<w.heap.size:=by
     rcases as3 cr.r w.heap.size with h | h
     ·exact h
     ·rw[atI h] at h1; cases h1
    have qp:(⟨bs.data.toList.toArray⟩:ByteArray)=bs:=by cases bs; simp
    have ht:bs.data.toList.length=bs.size:=by rw[at5]; rfl
    rw[qp] at aA;split at aA
    ·rename_i qD;have aC:pos<bs.size:=by rw[<-ht]; rw[avz] at qD; exact qD
     simp only[Option.some.injEq,Prod.mk.injEq] at aA;obtain⟨rfl,rfl⟩:=aA;have:=rel.eS (w':={ w with heap:=w.heap.setIfInBounds cr.r (.stringIter bs (pos+(Utf8.decode bs pos).2)) }) (k:=1) (c':=.iter bs.data.toList (pos+(Utf8.decode bs pos).2)) ag rfl rfl i7 rfl rfl rfl (by simp)
      (fun k hk=>by simp only; rw[atu]; rw[if_neg (fun aH=>hk aH.symm)]) (fun e=>⟨bs,rfl,by simp only; rw[atu]; simp[aM]⟩)
     refine⟨.tuple #[.bool true,.int .i64 pos,.int .i32 (Utf8.decode bs pos).1],_,?_,this.1,this.2,?_⟩
     ·simp only[Instr.next,Sem.run_bind,Wh h1,Result.andThen_ok,if_pos aC];simp[setObj,Sem.run,h1,goInt]
     ·refine .bJ _ _ rfl fun j c v ah aw=>?_
      rcases j with _ | _ | _ | j
      ·simp at ah aw; subst ah aw; exact .bool _
      ·simp at ah aw; subst ah aw; exact .int _ _
      ·simp at ah aw; subst ah aw; exact .int _ _
      ·simp at ah
    ·rename_i qD;have aC:¬ pos<bs.size:=by
      rw[<-ht]; intro aH;rw[<-avz] at aH; rw[aH] at qD; cases qD
     simp only[Option.some.injEq,Prod.mk.injEq] at aA;obtain⟨rfl,rfl⟩:=aA;refine⟨.tuple #[.bool false],w,?_,.refl _ _ _,rel,?_⟩
     ·simp only[Instr.next,Sem.run_bind,Wh h1,Result.andThen_ok,if_neg aC];simp
     ·refine .bJ _ _ rfl fun j c v ah aw=>?_
      rcases j with _ | j
      ·simp at ah aw; subst ah aw; exact .bool _
      ·simp at ah
  ·cases aA
 ·cases aA
theorem Wf {blk:Nat}:∀ (n:Nat) (o:Nat) (ns:List Int) (acc:ByteArray),ns.length=n->(∀ j v,(ns.map (Value.int .u8))[j]? = some v->(load (⟨blk,o+j,none⟩:Addr)).run P w=.ok v w)->
  ∃ bs,(Extern.Bytes.loadBytes ⟨blk,o,none⟩ n acc).run P w=.ok bs w/\bs.data.toList=acc.data.toList++ns.map fun n=>UInt8.ofNat n.toNat
 | 0,o,ns,acc,am,_=>⟨acc,by simp[Extern.Bytes.loadBytes],by rw[asF.1 am]; simp⟩
 | n+1,o,[],acc,am,_=>by simp at am
 | n+1,o,x::ns,acc,am,h=>by
  have aB:=h 0 _ rfl;obtain⟨bs,h1,ae⟩:=Wf n (o+1) ns (acc.push (UInt8.ofNat x.toNat)) (by simpa using am) (fun j v aj=>by
   have:=h (j+1) v (by simpa using aj);rw[show o+(j+1)=o+1+j by omega] at this;exact this)
  refine⟨bs,?_,?_⟩
  ·unfold Extern.Bytes.loadBytes;rw[auQ] at aB;simp only[Sem.run_bind,aB,Result.andThen_ok,Addr.ni];exact h1
  ·rw[ae]; simp
theorem PS (rel:cc R B w h μ) {x:ad} {bL:Value} {l:List UInt8} (ag:vM h x=some l) (ai:aS w R h μ x bL) :∃ bs,(Extern.Bytes.bytesOf bL).run P w=.ok bs w/\bs.data.toList=l:=by
 unfold vM at ag;split at ag
 ·simp only[Option.some.injEq] at ag; subst ag;cases ai with
  | str bs=>exact⟨bs,by simp[Extern.Bytes.bytesOf],rfl⟩
 ·rename_i s7;split at ag
  ·rename_i cs n b6;obtain⟨a2,bn,vs,cI,mf⟩:=vX (P:=P) rel b6 ai;have aD:=mf n (ar0 _) w (fun _=>rfl);obtain⟨ns,rfl,rfl⟩:=JB cs vs l ag cI.1 cI.2;have n3:ns.length=n:=by have:=cI.1; simp at this; omega
   have DA:(ns.map (Value.int .u8)).take (n*1)=ns.map (Value.int .u8) :=arX (by simp; omega);rw[DA] at aD;have La:∃ a len cap,bL=.slice a len cap:=by
    cases ai<;>first | exact⟨_,_,_,rfl⟩ | (simp[contents] at b6; done) | (exact absurd rfl (s7 _))
   obtain⟨a,len,cap,rfl⟩:=La;simp only[Builtin.lenOf,Sem.run_pure,Result.ok.injEq] at bn;obtain⟨rfl,_⟩:=bn;cases a with
   | none=>
    simp only[Builtin.firstCells,Sem.run_pure,Result.ok.injEq] at aD;have nv:ns=[] :=by
     have:=congrArg Array.toList aD.1;simpa using this.symm
    subst nv;exact⟨.empty,by simp[Extern.Bytes.bytesOf],rfl⟩
   | some a=>
    by_cases rU:len=0
    ·subst rU;have:ns=[] :=asF.1 n3;subst this;exact⟨.empty,by simp[Extern.Bytes.bytesOf,Extern.Bytes.loadBytes],rfl⟩
    have az:∃ blk o,a=⟨blk,o,none⟩:=by
     cases ai with
     | au=>exact⟨_,_,rfl⟩
     | cq=>exact⟨_,_,rfl⟩
     | fY=>exact absurd rfl rU
     | ik=>exact absurd rfl rU
     | bad=>simp[contents] at b6
     | gX _ _ _ _ _ _ _ _ h1 ae ar=>
      exfalso;simp only[contents] at b6;rcases ar with ar | ⟨n,hW,ar,aM⟩
      ·rw[ar] at b6; cases b6
      ·rw[ar] at b6;simp only at b6;split at b6
       ·rename_i aH; omega
       ·cases b6
    obtain⟨blk,o,rfl⟩:=az;simp only[Builtin.firstCells,atC] at aD;unfold loadCells at aD;obtain⟨l,h1,ae,al⟩:=loadCellsFrom_ok _ _ _ _ _ _ aD;have aE:l=ns.map (Value.int .u8) :=by
     have:=congrArg Array.toList ae;simpa using this.symm
    subst aE;obtain⟨bs,aU,bz⟩:=Wf (P:=P) (w:=w) (blk:=blk) len o ns .empty n3 (fun j v aj=>by
     have:=al j v aj;rw[Addr.ni,as8] at this;exact this)
    exact⟨bs,by simpa [Extern.Bytes.bytesOf] using aU,by rw[bz]; rfl⟩
  ·cases ag
theorem P6:∀ (a b:List UInt8),(match (List.range (min a.length b.length)).find? fun i=>a.getD i 0 != b.getD i 0 with
  | some i=>if a.getD i 0<b.getD i 0 then (-1:Int) else 1
  | none=>if a.length<b.length then -1 else if a.length > b.length then 1 else 0)=pg a b
 | [],[]=>by simp[pg]
 | [],_::_=>by simp[pg]
 | _::_,[]=>by simp[pg]
 | x::a,y::b=>by
  have aO:=P6 a b;simp only[asp,Nat.add_min_add_right,List.range_succ_eq_map,auR,List.getD_cons_zero];by_cases lg:x=y
  ·subst lg;simp only[bne_self_eq_false,pg,if_true];rw[<-aO,List.find?_map];have AH:((fun i=>(x::a).getD i 0 != (x::b).getD i 0) ∘ Nat.succ)=fun i=>a.getD i 0 != b.getD i 0:=by
    funext i; simp
   rw[AH];cases aD:(List.range (min a.length b.length)).find? fun i=>a.getD i 0 != b.getD i 0 with
   | none=>simp only[Option.map_none]; congr 1<;>simp
   | some i=>simp
  ·have bU:(x != y)=true:=by simp[lg]
   simp only[bU,pg,if_neg lg,List.getD_cons_zero]
theorem QL {α:Type} {p q:α->Bool}:∀ (l:List α),(∀ x∈l,p x=q x)->l.find? p=l.find? q
 | [],_=>rfl
 | x::l,h=>by
  rw[auR,auR,h x (by simp),QL l (fun y ay=>h y (by simp[ay]))]
theorem z7 (a b:ByteArray) :Extern.BytealgCompare.cmp a b=pg a.data.toList b.data.toList:=by
 rw[<-P6];unfold Extern.BytealgCompare.cmp;have ar:∀ (a:ByteArray) (i:Nat),i<a.size->a[i]! = a.data.toList.getD i 0:=fun a i ax=>by
  simp only[asq,atX];rw[getElem!_pos a i ax];have:i<a.data.size:=ax;rw[atz this]; rfl
 have am:∀ a:ByteArray,a.data.toList.length=a.size:=fun a=>by rw[at5]; rfl
 rw[am,am];have K9:(List.range (min a.size b.size)).find? (fun i=>a[i]! != b[i]!)=(List.range (min a.size b.size)).find? (fun i=>a.data.toList.getD i 0 != b.data.toList.getD i 0) :=by
  apply QL;intro i ax;have:=asJ.1 ax;rw[ar a i (by omega),ar b i (by omega)]
 rw[K9];cases aD:(List.range (min a.size b.size)).find? (fun i=>a.data.toList.getD i 0 != b.data.toList.getD i 0) with
 | none=>rfl
 | some i=>
  have:=asJ.1 (ava aD);simp only;rw[ar a i (by omega),ar b i (by omega)]
theorem aaV {fn:Func} (aF:fn.name= "internal/bytealg.Compare") (aq:fn.origin= ""\/fn.origin= "internal/bytealg.Compare") :Extern.find fn=some Extern.BytealgCompare.compare/\Extern.findNext fn=none:=by
 constructor
 ·unfold Extern.find;simp only[aF];rfl
 ·unfold Extern.findNext;simp only[aF];rcases aq with aq | aq<;>rw[aq]<;>rfl
theorem aaC (rel:cc R B w h μ) {f:FuncId} {fn:Func} {args:List ad} {vs:Array Value} {c:ad} (aD:P.funcs[f]? = some fn) (ax:DM fn=true) (ah:Cs h args=some c)
  (am:vs.size=args.length) (aw:∀ (j:Nat) (c:ad) (v:Value),args[j]? = some c->vs[j]? = some v->aS w R h μ c v) :
  ∃ v,(callFunc f vs).run P w=.ok (.value v) w/\aS w R h μ c v:=by
 unfold DM at ax;simp only[ar3,atZ,beq_iff_eq] at ax;obtain⟨⟨ag,aF⟩,aq⟩:=ax;unfold Cs at ah;split at ah
 ·rename_i x y;split at ah
  ·rename_i a b az bS;simp only[Option.some.injEq] at ah; subst ah;simp only[asp,asU] at am;have nv:vs=#[vs[0],vs[1]] :=by
    apply Array.ext
    ·simpa using am
    ·intro i h1 ae;rcases (show i=0\/i=1 by simp at ae; omega) with rfl | rfl<;>rfl
   obtain⟨ba,h1,ae⟩:=PS (P:=P) rel az (aw 0 x vs[0] rfl (by simp[am]));obtain⟨bb,al,aE⟩:=PS (P:=P) rel bS (aw 1 y vs[1] rfl (by simp[am]));obtain⟨aR,bE⟩:=aaV aF aq;refine⟨.int .i64 (pg a b),?_,.int _ _⟩;rw[nv];have bU:fn.name≠ "runtime.NumGoroutine":=by rw[aF]; decide
   have ag:=avb.1 ag;have rJ:Extern.BytealgCompare.compare #[vs[0],vs[1]]=(do pure (goInt (Extern.BytealgCompare.cmp (<-Extern.Bytes.bytesOf vs[0]) (<-Extern.Bytes.bytesOf vs[1])))) :=rfl;simp[callFunc,aD,bU,ag,aR,bE,mark,Sem.run,rJ,h1,al,z7,ae,aE,goInt]
  ·cases ah
 ·cases ah
end

section
variable {P:Program} {w:World} {R:Nat->Prop} {B:Nat} {h:a6} {μ:cR}
inductive xI:Value->Value->Prop where
 | bool (a b:Bool) :xI (.bool a) (.bool b)
 | agg (a b:Array Value) :xI (.agg a) (.agg b)
 | slice (a:Option Addr) (l c:Nat) (fc:Option Addr) (l' c' : Nat) :xI (.slice a l c) (.slice fc l' c')
theorem aas {d:Nat} {t:TypeId} {x y:ad} {b:Bool} {bL gn:Value} (ao:eW P d t x y=some b) (ai:aS w R h μ x bL) (ay:aS w R h μ y gn)
  (ax:∀ k a k' bw,x=.int k a->y=.int k' bw->False) (ak:∀ a bw,x=.str a->y=.str bw->False) :xI bL gn:=by
 cases d with
 | zero=>simp[eW] at ao
 | succ d=>
  unfold eW at ao;split at ao
  ·cases ai; cases ay; exact .bool _ _
  ·exact (ax _ _ _ _ rfl rfl).elim
  ·exact (ak _ _ rfl rfl).elim
  ·cases ai; cases ay; exact .agg _ _
  ·cases ai; cases ay; exact .agg _ _
  ·cases ai; cases ay; exact .slice _ _ _ _ _ _
  ·cases ai; cases ay<;>exact .slice _ _ _ _ _ _
  ·cases ai; cases ay<;>exact .slice _ _ _ _ _ _
  ·cases ai<;>cases ay<;>exact .slice _ _ _ _ _ _
  ·cases ai<;>cases ay<;>exact .slice _ _ _ _ _ _
  ·cases ao
theorem aaq {op:BinOp} {t:TypeId} {vb tB:Operand} {bL gn:Value} (ak:xI bL gn) (ar:∀ a b,bL=.agg a->gn=.agg b->P.eqGuardType P.depth t=false) :(eqGuard op t vb tB bL gn).run P w=.ok () w:=by
 cases ak with
 | bool a b=>cases op<;>rfl
 | agg a b=>exact run_eqGuard_agg w op t vb tB a b (ar a b rfl rfl)
 | slice=>cases op<;>rfl
theorem aiD {t:TypeId} {bL gn:Value} {b:Bool} (ak:xI bL gn) (gd:(Op.equalIn 10000 t bL gn).run P w=.ok b w) :
  (binOp .eql t bL gn).run P w=.ok (.bool b) w/\(binOp .neq t bL gn).run P w=.ok (.bool (!b)) w:=by
 have bd:(Op.equal t bL gn).run P w=.ok b w:=gd;cases ak<;>constructor<;>simp[binOp,bd]
theorem aap {op:BinOp} {t:TypeId} {vb tB:Operand} {k k' : IntKind} {a b:Int}:(eqGuard op t vb tB (.int k a) (.int k' b)).run P w=.ok () w:=by
 cases op<;>rfl
theorem aar {op:BinOp} {t:TypeId} {vb tB:Operand} {a b:ByteArray}:(eqGuard op t vb tB (.string a) (.string b)).run P w=.ok () w:=by
 cases op<;>rfl
theorem YQ {op:BinOp} {t:TypeId} {vb tB:Operand} {x y c:ad} {bL gn:Value} (ah:gq P op t x y=some c) (ai:aS w R h μ x bL) (ay:aS w R h μ y gn) :
  ∃ v,((do eqGuard op t vb tB bL gn; binOp op t bL gn:Sem Value)).run P w=.ok v w/\aS w R h μ c v:=by
 unfold gq at ah;split at ah
 ·cases ai; cases ay;obtain⟨v,h1,ae⟩:=YR (P:=P) (w:=w) (R:=R) (h:=h) (μ:=μ) (t:=t) ah;exact⟨v,by simp[aap,h1],ae⟩
 ·cases ai; cases ay;obtain⟨v,h1,ae⟩:=YS (P:=P) (w:=w) (R:=R) (h:=h) (μ:=μ) (t:=t) ah;exact⟨v,by simp[aar,h1],ae⟩
 ·rename_i adS s7;have key:∀ b,x4 P t x y=true->eW P 10000 t x y=some b->xI bL gn/\(eqGuard op t vb tB bL gn).run P w=.ok () w ∧
    (binOp .eql t bL gn).run P w=.ok (.bool b) w/\(binOp .neq t bL gn).run P w=.ok (.bool (!b)) w:=by
   intro b da ao;have pC:=aas ao ai ay adS s7;have ar:∀ a b,bL=.agg a->gn=.agg b->P.eqGuardType P.depth t=false:=by
    rintro a b rfl rfl;cases ai with
    | aI cs _ _ _ _=>
     cases ay with
     | aI cs' _ _ _ _=>simpa [x4] using da
     | bad=>simp[eW] at ao
    | bad=>cases ay<;>simp[eW] at ao
   have bd:=J4 10000 t x y b bL gn ao ai ay;obtain⟨ce,bI⟩:=aiD pC bd;exact⟨pC,aaq pC ar,ce,bI⟩
  split at ah
  ·split at ah
   ·rename_i da;cases ao:eW P 10000 t x y with
    | none=>rw[ao] at ah; cases ah
    | some b=>
     rw[ao] at ah;simp only[asb,Option.some.injEq] at ah; subst ah;obtain⟨_,ce,bI,_⟩:=key b da ao;exact⟨.bool b,by simp[ce,bI],.bool _⟩
   ·cases ah
  ·split at ah
   ·rename_i da;cases ao:eW P 10000 t x y with
    | none=>rw[ao] at ah; cases ah
    | some b=>
     rw[ao] at ah;simp only[asb,Option.some.injEq] at ah; subst ah;obtain⟨_,ce,_,bI⟩:=key b da ao;exact⟨.bool (!b),by simp[ce,bI],.bool _⟩
   ·cases ah
  ·cases ah
theorem akr {op:UnOp} {x c:ad} {bL:Value} (ah:so op x=some c) (ai:aS w R h μ x bL) :∃ v,(Op.unary op bL).run P w=.ok v w/\aS w R h μ c v:=by
 unfold so at ah;split at ah
 ·simp only[Option.some.injEq] at ah; subst ah;cases ai;exact⟨_,by simp[Op.unary],.bool _⟩
 ·simp only[Option.some.injEq] at ah; subst ah;cases ai;refine⟨_,?_,.int _ _⟩;simp only[Op.unary]; rfl
 ·simp only[Option.some.injEq] at ah; subst ah;cases ai;refine⟨_,?_,.int _ _⟩;simp only[Op.unary]; rfl
 ·cases ah
theorem M5 {aG:Operand->ad} {ey:Operand->Value} (dj:∀ x,aS w R h μ (aG x) (ey x)) (o:Option Operand) :xN w R h μ (o.map aG) (o.map ey) :=by
 cases o with
 | none=>trivial
 | some x=>exact dj x
def B5 (P:Program) (R:Nat->Prop) (B:Nat) (w:World) (h:a6) (μ:cR) (r:Result Next) :p2->Prop
 | .val c h'=>Good R B w h μ r c h'
 | .call f args h'=>h'=h/\∃ vs:Array Value,r=.ok (.enter f vs) w/\vs.size=args.length/\∀ (j:Nat) (c:ad) (v:Value),args[j]? = some c->vs[j]? = some v->aS w R h μ c v
theorem Good.mk {r:Result Next} {c:ad} {h' : a6} {v:Value} {w' : World} {μ' : cR} (aA:r=.ok (.value v) w') (ao:dQ w h μ w' h' μ') (am:cc R B w' h' μ') (aw:aS w' R h' μ' c v) :Good R B w h μ r c h':=
 ⟨v,w',μ',.inl aA,ao,am,aw⟩
theorem Zc (rel:cc R B w h μ) {b:Builtin} {ts:Array TypeId} {ty:TypeId} {consts:Array Bool} {args:List ad} {vs:Array Value} {r:p2} (ak:p7 P h b ts.toList args=some r)
  (am:vs.size=args.length) (aw:∀ (j:Nat) (c:ad) (v:Value),args[j]? = some c->vs[j]? = some v->aS w R h μ c v) :B5 P R B w h μ ((builtin b ts ty consts vs).run P w) r:=by
 have one:∀ x,args=[x]->∃ bL,vs=#[bL]/\aS w R h μ x bL:=by
  intro x ai;subst ai;simp only[asp,asU] at am;refine⟨vs[0],?_,aw 0 x _ rfl (by simp[am])⟩;apply Array.ext
  ·simpa using am
  ·intro i h1 ae;have:i=0:=by omega
   subst this; rfl
 have two:∀ x y,args=[x,y]->∃ bL gn,vs=#[bL,gn]/\aS w R h μ x bL/\aS w R h μ y gn:=by
  intro x y ai;subst ai;simp only[asp,asU] at am;refine⟨vs[0],vs[1],?_,aw 0 x _ rfl (by simp[am]),aw 1 y _ rfl (by simp[am])⟩;apply Array.ext
  ·simpa using am
  ·intro i h1 ae;rcases (show i=0\/i=1 by simp at ae; omega) with rfl | rfl<;>rfl
 have Jp:∀ t,ts.toList=[t]->ts=#[t] :=fun t aJ=>by apply Array.toList_inj.1; simpa using aJ
 have Px:∀ t u,ts.toList=[t,u]->ts=#[t,u] :=fun t u aJ=>by apply Array.toList_inj.1; simpa using aJ
 unfold p7 at ak;split at ak
 ·rename_i t x r0;obtain⟨bL,rfl,ai⟩:=one x rfl;obtain rfl:=Jp t r0;split at ak
  ·rename_i c ah;simp only[Option.some.injEq] at ak; subst ak;obtain⟨v,h1,ae⟩:=afZ (P:=P) (ty:=ty) rel ah ai;exact Good.mk (by simp[builtin,h1]) (.refl _ _ _) rel ae
  cases ah:y6 P t x with
  | none=>rw[ah] at ak; cases ak
  | some c=>
   rw[ah] at ak;simp only[asb,Option.some.injEq] at ak; subst ak;obtain⟨v,h1,ae⟩:=af0 (P:=P) (u:=t) (ty:=ty) ah ai;exact Good.mk (by simp[builtin,h1]) (.refl _ _ _) rel ae
 ·rename_i t u s x r0;obtain⟨pS,bL,rfl,wL,ai⟩:=two s x rfl;obtain rfl:=Px t u r0;split at ak
  ·rename_i k aP;cases ah:Cb P h t s x with
   | none=>rw[ah] at ak; cases ak
   | some c=>
    obtain⟨c,h'⟩:=c;rw[ah] at ak;simp only[asb,Option.some.injEq] at ak; subst ak;obtain⟨v,w',μ',h1,ae,al,aE⟩:=YF (ty:=ty) rel aP ah wL ai;exact Good.mk (by simp[builtin,h1]) ae al aE
  ·cases ak
  ·rename_i rV oM;cases ah:sI P h t s x with
   | none=>rw[ah] at ak; cases ak
   | some c=>
    obtain⟨c,h'⟩:=c;rw[ah] at ak;simp only[asb,Option.some.injEq] at ak; subst ak;have aP:Bq P u:=by
     cases bN:P.underlying u with
     | none=>exact absurd bN oM
     | some d=>exact⟨d,bN,fun k hk=>rV k (by rw[bN,hk])⟩
    obtain⟨v,w',μ',h1,ae,al,aE⟩:=Jn (ty:=ty) rel aP ah wL ai;exact Good.mk (by simp[builtin,h1]) ae al aE
 ·rename_i t u d x r0;obtain⟨JV,bL,rfl,bN,ai⟩:=two d x rfl;obtain rfl:=Px t u r0;cases ah:z8 P h t d x with
  | none=>rw[ah] at ak; cases ak
  | some c=>
   obtain⟨c,h'⟩:=c;rw[ah] at ak;simp only[asb,Option.some.injEq] at ak; subst ak;obtain⟨v,w',h1,ae,al,aE⟩:=ZU (u:=u) (ty:=ty) rel ah bN ai;exact Good.mk (by simp[builtin,h1]) ae al aE
 ·rename_i t x r0;obtain⟨bL,rfl,ai⟩:=one x rfl;obtain rfl:=Jp t r0;cases ah:zY P t x with
  | none=>rw[ah] at ak; cases ak
  | some c=>
   rw[ah] at ak;simp only[asb,Option.some.injEq] at ak; subst ak;obtain⟨v,h1,ae⟩:=Zn (P:=P) (ty:=ty) ah ai;exact Good.mk (by simp[builtin,h1]) (.refl _ _ _) rel ae
 ·rename_i t x r0;obtain⟨bL,rfl,ai⟩:=one x rfl;obtain rfl:=Jp t r0;cases ah:z2 P h t x with
  | none=>rw[ah] at ak; cases ak
  | some h'=>
   rw[ah] at ak;simp only[asb,Option.some.injEq] at ak; subst ak;obtain⟨w',h1,ae,al⟩:=Zz (P:=P) (ty:=ty) rel ah ai;exact Good.mk (v:=.tuple #[]) (by simp[builtin,h1]) ae al (.bJ [] #[] rfl (fun _ _ _ aH=>by simp at aH))
 ·rename_i x y;obtain⟨bL,gn,rfl,ai,ay⟩:=two x y rfl;cases ah:DY x y with
  | none=>rw[ah] at ak; cases ak
  | some c=>
   rw[ah] at ak;simp only[asb,Option.some.injEq] at ak; subst ak;unfold DY at ah;split at ah
   ·split at ah
    ·rename_i hk; subst hk;simp only[Option.some.injEq] at ah; subst ah;cases ai; cases ay;refine Good.mk (v:=.int _ _) ?_ (.refl _ _ _) rel (.int _ _);simp[builtin,Builtin.min_,Builtin.min2]
    ·cases ah
   ·cases ah
 ·rename_i x y;obtain⟨bL,gn,rfl,ai,ay⟩:=two x y rfl;cases ah:w5 x y with
  | none=>rw[ah] at ak; cases ak
  | some c=>
   rw[ah] at ak;simp only[asb,Option.some.injEq] at ak; subst ak;unfold w5 at ah;split at ah
   ·split at ah
    ·rename_i hk; subst hk;simp only[Option.some.injEq] at ah; subst ah;cases ai; cases ay;refine Good.mk (v:=.int _ _) ?_ (.refl _ _ _) rel (.int _ _);simp[builtin,Builtin.max_,Builtin.max2]
    ·cases ah
   ·cases ah
 ·cases ak
theorem PU {f:FuncId} {fn:Func} {vs:Array Value} (aD:P.funcs[f]? = some fn) (ag:fn.body.isSome=true) (aF:fn.name≠ "runtime.NumGoroutine") :(callFunc f vs).run P w=.ok (.enter f vs) w:=by
 have bS:fn.body≠none:=fun aH=>by rw[aH] at ag; cases ag
 simp[callFunc,aD,aF,bS]
theorem MI {aG:Operand->ad} {ey:Operand->Value} (dj:∀ x,aS w R h μ (aG x) (ey x)) (xs:Array Operand) :
  ∀ (j:Nat) (c:ad) (v:Value),(xs.toList.map aG)[j]? = some c->(xs.map ey)[j]? = some v->aS w R h μ c v:=by
 intro j c v aj aw;rw[ar5] at aj;rw[aux] at aw;cases aq:xs[j]? with
 | none=>simp[aq] at aw
 | some o=>
  simp[aq] at aj aw;subst aj aw;exact dj o
theorem agm {t:TypeId} {name:String} {g:FuncId} (hm:Bm P t name=some g) (u:Value) :(Go.method (P.types.size+Made.depth) t u name).run P w=.ok (g,u) w:=by
 unfold Bm at hm;split at hm
 ·cases hm
 ·cases hm
 ·rename_i A1 L4;split at hm
  ·rename_i i ax;split at hm
   ·rename_i m aD;split at hm
    ·rename_i f aC nr;cases hm;obtain⟨k,hk⟩:∃ k,P.types.size+Made.depth=k+1:=⟨P.types.size+Made.depth - 1,by unfold Made.depth; omega⟩
     rw[hk];cases bN:P.underlying t with
     | none=>exact absurd bN L4
     | some d=>
      have aon:m.path=#[] :=Array.toList_eq_nil_iff.1 aC;cases d<;>first
       | (exfalso; exact A1 _ bN)
       | simp[Go.method,typeInfo,ax,aD,aC,nr,follow,receiverAt,cF bN,Place.get]
    ·cases hm
   ·cases hm
  ·cases hm
theorem ajS {t OV:TypeId} {ok:Bool} {z c x:ad} {v:Value} (av:II P t=some z) (ah:EE t z ok x=some c) (ai:aS w R h μ x v) :
  ∃ a8,(Instr.typeAssert v OV t ok).run P w=.ok a8 w/\aS w R h μ c a8:=by
 unfold II at av;split at av
 ·cases av
 ·cases av
 ·rename_i A1 L4;cases bN:P.underlying t with
  | none=>exact absurd bN L4
  | some d=>
   obtain⟨zv,tg,mu⟩:=Xw (P:=P) (w:=w) (R:=R) (h:=h) (μ:=μ) av;have two:∀ (a:ad) (iJ:Value) (q:Bool),aS w R h μ a iJ->aS w R h μ (.bJ [a,.bool q]) (.tuple #[iJ,.bool q]) :=by
    intro a iJ q az;refine .bJ _ _ rfl (fun j c v aj aw=>?_)
    match j,aj,aw with
    | 0,aj,aw=>simp at aj aw; subst aj aw; exact az
    | 1,aj,aw=>simp at aj aw; subst aj aw; exact .bool q
    | j+2,aj,aw=>simp at aj
   cases x<;>simp only[EE] at ah<;>try (cases ah; done)
   case j9=>
    cases ai;cases ok<;>simp only at ah<;>cases ah;refine⟨.tuple #[zv,.bool false],?_,two _ _ _ mu⟩;cases d<;>first
     | (exfalso; exact A1 _ bN)
     | simp[Instr.typeAssert,cF bN,tg]
   case hu gH xS=>
    cases ai with
    | hu _ _ u aP=>
     split at ah
     ·rename_i aJ;have aJ:=as7 aJ;subst aJ;cases ok<;>simp only at ah<;>cases ah
      ·refine⟨u,?_,aP⟩;cases d<;>first
        | (exfalso; exact A1 _ bN)
        | simp[Instr.typeAssert,cF bN]
      ·refine⟨.tuple #[u,.bool true],?_,two _ _ _ aP⟩;cases d<;>first
        | (exfalso; exact A1 _ bN)
        | simp[Instr.typeAssert,cF bN]
     ·rename_i aJ;have aJ:gH≠t:=fun h=>by rw[h,avc] at aJ; cases aJ
      cases ok<;>simp only at ah<;>cases ah;refine⟨.tuple #[zv,.bool false],?_,two _ _ _ mu⟩;cases d<;>first
       | (exfalso; exact A1 _ bN)
       | simp[Instr.typeAssert,cF bN,tg,aJ]
theorem Zj (rel:cc R B w h μ) {aG:Operand->ad} {ey:Operand->Value} (dj:∀ x,aS w R h μ (aG x) (ey x)) {c:Call} {ty:TypeId} {r:p2} (ak:vN P h aG c=some r) :
  B5 P R B w h μ ((do let d <-resolve ey c ty; invoke d.target d.args:Sem Next).run P w) r:=by
 unfold vN at ak;split at ak
 ·rename_i b ag;have:=fun consts=>Zc (P:=P) (b:=b) (ts:=c.argTypes) (ty:=ty) (consts:=consts) (args:=c.args.toList.map aG) (vs:=c.args.map ey) rel ak (by simp)
   (fun j x v aj aw=>by
    rw[ar5] at aj;rw[aux] at aw;cases aq:c.args[j]? with
    | none=>simp[aq] at aw
    | some o=>
     simp[aq] at aj aw;subst aj aw;exact dj o)
  simp only[resolve,ag,Sem.run_bind,Sem.run_pure,Result.andThen_ok,invoke];exact this _
 ·rename_i f aD;split at ak
  ·rename_i g first gJ nr
   have aw:=dj f;rw[nr] at aw;cases wx:ey f with
   | func anm fs cs=>
    rw[wx] at aw;cases aw with
    | fn _ _ _ _ _ h1 ae al aE=>
     split at ak
     ·rename_i fn AH;have Gn:∀ (j:Nat) (x:ad) (v:Value),(first++c.args.toList.map aG++gJ)[j]? = some x->(fs++c.args.map ey++cs)[j]? = some v->aS w R h μ x v:=by
       intro j x v aj j1;by_cases qC:j<first.length
       ·rw[ass,arZ qC] at aj;rw[auw,atj (by omega)] at j1;exact al j x v aj j1
       ·by_cases qD:j<first.length+c.args.size
        ·rw[arZ (by simp; omega),ar8 (by omega),ar5] at aj;rw[atj (by simp; omega),auk (by omega),aux,h1] at j1;cases aq:c.args[j - first.length]? with
         | none=>simp[aq] at j1
         | some o=>
          simp[aq] at aj j1;subst aj j1;exact dj o
        ·rw[ar8 (by simp; omega)] at aj;rw[auk (by simp; omega)] at j1;refine aE _ x v aj ?_;simpa [h1] using j1
      split at ak
      ·rename_i kj;simp only[Option.some.injEq] at ak; subst ak;refine⟨rfl,fs++c.args.map ey++cs,?_,by simp[h1,ae],Gn⟩;simp[resolve,aD,wx,Deferred.ofValue,invoke,PU AH kj.1 kj.2]
      ·split at ak
       ·rename_i rJ;cases du:Cs h (first++c.args.toList.map aG++gJ) with
        | none=>rw[du] at ak; cases ak
        | some amu=>
         rw[du] at ak;simp only[asb,Option.some.injEq] at ak; subst ak;obtain⟨v,aR,bE⟩:=aaC (P:=P) (vs:=fs++c.args.map ey++cs) rel AH rJ du (by simp[h1,ae]) Gn;rw[auw] at aR;exact Good.mk (by simp[resolve,aD,wx,Deferred.ofValue,invoke,aR]) (.refl _ _ _) rel bE
       ·cases ak
     ·cases ak
   | _=>rw[wx] at aw; cases aw
  ·cases ak
 ·rename_i x name ah;split at ak
  ·rename_i t v0 ai;have aw:=dj x;rw[ai] at aw;split at ak
   ·rename_i g hm;split at ak
    ·rename_i fn AH;split at ak
     ·rename_i kj;simp only[Option.some.injEq] at ak; subst ak;cases wx:ey x with
      | iface gH u=>
       rw[wx] at aw;cases aw with
       | hu _ _ _ aP=>
        refine⟨rfl,#[u]++c.args.map ey,?_,by simp; omega,?_⟩
        ·have adM:=agm (P:=P) (w:=w) hm u;have aB:(#[Value.iface t u]++c.args.map ey)[0]? = some (Value.iface t u) :=by rw[atj (by simp)]; rfl
         have ht:(c.args.map ey).extract 0 c.args.size=c.args.map ey:=by
          apply Array.ext';simp[arX]
         simp[aB,ht,resolve,ah,wx,invoke,callMethod,adM,PU AH kj.1 kj.2]
        ·intro j x v aj j1;cases j with
         | zero=>
          rw[atj (by simp)] at j1;simp at aj j1; subst aj j1; exact aP
         | succ j=>
          rw[asP] at aj;rw[auk (by simp)] at j1;exact MI dj c.args j x v aj (by simpa using j1)
      | _=>rw[wx] at aw; cases aw
     ·cases ak
    ·cases ak
   ·cases ak
  ·cases ak
theorem Ni {aG:Operand->ad} {ey:Operand->Value} (dj:∀ x,aS w R h μ (aG x) (ey x)) (cT:Array (Nat × Operand)) :
  (cT.map fun (i,x)=>(i,ey x)).size=(cT.toList.map fun p=>(p.1,aG p.2)).length ∧
  ∀ (j:Nat) (p:Nat × ad) (bZ:Nat × Value),(cT.toList.map fun p=>(p.1,aG p.2))[j]? = some p->(cT.map fun (i,x)=>(i,ey x))[j]? = some bZ->bZ.1=p.1/\aS w R h μ p.2 bZ.2:=by
 refine⟨by simp,fun j p bZ aj ep=>?_⟩;rw[ar5] at aj;rw[aux] at ep;cases aq:cT[j]? with
 | none=>simp[aq] at ep
 | some o=>
  simp[aq] at aj ep;subst aj ep;exact⟨rfl,dj o.2⟩
theorem Og (rel:cc R B w h μ) {aG:Operand->ad} {ey:Operand->Value} (dj:∀ x,aS w R h μ (aG x) (ey x)) (o:Oper) {r:p2} (ak:df P h aG o.op=some r) :
  B5 P R B w h μ ((execOp ey o).run P w) r:=by
 obtain⟨dst,op,type,pos,after,guard⟩:=o;have pI:∀ {x:Option ad} {m:Sem Value},(∀ c,x=some c->∃ v,m.run P w=.ok v w/\aS w R h μ c v)->x.map (fun y=>p2.val y h)=some r->
   B5 P R B w h μ ((do pure (.value (<-m)) :Sem Next).run P w) r:=by
  intro x m ai aA;cases fI:x with
  | none=>rw[fI] at aA; cases aA
  | some c=>
   rw[fI] at aA;simp only[asb,Option.some.injEq] at aA; subst aA;obtain⟨v,h1,ae⟩:=ai c fI;exact Good.mk (by simp[h1]) (.refl _ _ _) rel ae
 have H4:∀ {x:Option (ad × a6)} {m:Sem Value},(∀ c h',x=some (c,h')->∃ v w' μ',m.run P w=.ok v w'/\dQ w h μ w' h' μ'/\cc R B w' h' μ'/\aS w' R h' μ' c v)->x.map (fun y=>p2.val y.1 y.2)=some r->
   B5 P R B w h μ ((do pure (.value (<-m)) :Sem Next).run P w) r:=by
  intro x m ai aA;cases fI:x with
  | none=>rw[fI] at aA; cases aA
  | some c=>
   obtain⟨c,h'⟩:=c;rw[fI] at aA;simp only[asb,Option.some.injEq] at aA; subst aA;obtain⟨v,w',μ',h1,ae,al,aE⟩:=ai c h' fI;exact Good.mk (by simp[h1]) ae al aE
 cases op
 case move x=>
  simp only[df,Option.some.injEq] at ak; subst ak;exact Good.mk (by simp[execOp]) (.refl _ _ _) rel (dj x)
 case assign x=>
  simp only[df,Option.some.injEq] at ak; subst ak;exact Good.mk (by simp[execOp]) (.refl _ _ _) rel (dj x)
 case pick c a b=>
  simp only[df] at ak;have kk:=dj c;cases ah:aG c<;>rw[ah] at ak kk<;>simp only at ak<;>try (cases ak; done)
  simp only[Option.some.injEq] at ak; subst ak;cases aw:ey c<;>rw[aw] at kk<;>try (cases kk; done)
  cases kk;rename_i t;cases t
  ·exact Good.mk (v:=ey b) (by simp[execOp,aw,asBool]) (.refl _ _ _) rel (by simpa using dj b)
  ·exact Good.mk (v:=ey a) (by simp[execOp,aw,asBool]) (.refl _ _ _) rel (by simpa using dj a)
 case alloc t=>
  simp only[df] at ak;cases av:h5 P t with
  | none=>rw[av] at ak; cases ak
  | some z=>
   rw[av] at ak;simp only[asb,Option.some.injEq] at ak; subst ak;obtain⟨v,aw,aA⟩:=xF (P:=P) (w:=w) (R:=R) (h:=h) (μ:=μ) av;obtain⟨aX,bg,a3⟩:=E6 rel (cs:=z) (vs:=v.cells) t aA.1 aA.2;exact Good.mk (by simp[execOp,Instr.alloc,aw,newVar,newRow]) aX bg (a3 0)
 case box t x=>
  simp only[df] at ak;cases av:(aG x).cells with
  | none=>rw[av] at ak; cases ak
  | some z=>
   rw[av] at ak;simp only[asb,Option.some.injEq] at ak; subst ak;obtain⟨ce,bI⟩:=Fo (dj x) av;obtain⟨aX,bg,a3⟩:=E6 rel (cs:=z) (vs:=(ey x).cells) t ce bI;exact Good.mk (by simp[execOp,Instr.box,newVar,newRow]) aX bg (a3 0)
 case build t parts=>
  obtain⟨ce,bI⟩:=Ni dj parts;exact pI (fun c ah=>Za ah ce bI) ak
 case buildSlice t len parts=>
  obtain⟨ce,bI⟩:=Ni dj parts;exact H4 (fun c h' ah=>Y9 rel ah ce bI) ak
 case load t a=>exact pI (fun c ah=>Uf rel ah (dj a)) ak
 case store t a x=>
  simp only[df] at ak;cases b1:BJ P h t (aG a) (aG x) with
  | none=>rw[b1] at ak; cases ak
  | some h'=>
   rw[b1] at ak;simp only[asb,Option.some.injEq] at ak; subst ak;obtain⟨w',h1,ae,al⟩:=ajF (P:=P) rel b1 (dj a) (dj x);exact⟨undef,w',μ,.inr ⟨by simp[execOp,h1],rfl⟩,ae,al,.bJ [] #[] rfl (fun _ _ _ aH=>by simp at aH)⟩
 case nilCheck x=>
  simp only[df] at ak;have aw:=dj x;cases ah:aG x<;>rw[ah] at ak aw<;>simp only at ak<;>try (cases ak; done)
  all_goals
   simp only[Option.some.injEq] at ak; subst ak;cases ai:ey x<;>rw[ai] at aw<;>try (cases aw; done)
   rename_i y;refine Good.mk (v:=ey x) ?_ (.refl _ _ _) rel (by rw[ai]; exact aw);cases aw<;>simp[execOp,ai]
 case binOp op t x y arV=>exact pI (fun c ah=>YQ ah (dj x) (dj y)) ak
 case unOp op t x=>exact pI (fun c ah=>akr ah (dj x)) ak
 case convert s d x=>
  simp only[df] at ak;split at ak
  ·rename_i c ah;simp only[Option.some.injEq] at ak; subst ak;obtain⟨v,w',h1,ae,al,aE⟩:=Ze rel ah (dj x);exact Good.mk (by simp[execOp,h1]) ae al aE
  ·exact pI (fun c ah=>ZS rel ah (dj x)) ak
 case makeInterface t x=>
  simp only[df] at ak;cases aP:P.underlying t with
  | none=>rw[aP] at ak; cases ak
  | some d=>
   rw[aP] at ak;cases d<;>simp only at ak<;>try (cases ak; done)
   all_goals
    simp only[Option.some.injEq] at ak; subst ak;exact Good.mk (v:=.iface t (ey x)) (by simp[execOp,Instr.makeInterface,cF aP]) (.refl _ _ _) rel (.hu t _ _ (dj x))
 case makeFunc fn first gJ=>
  cases fn<;>simp only[df] at ak<;>try (cases ak; done)
  simp only[Option.some.injEq] at ak; subst ak;exact Good.mk (by simp[execOp,Instr.makeFunc]) (.refl _ _ _) rel (.fn _ _ _ _ _ (by simp) (by simp) (MI dj first) (MI dj gJ))
 case makeSlice t l c=>exact H4 (fun c' h' ah=>agh rel ah (dj l) (dj c)) ak
 case slice t x c0 ax cX=>exact pI (fun c ah=>ai8 rel ah (dj x) (M5 dj c0) (M5 dj ax) (M5 dj cX)) ak
 case fieldAddr s x f=>exact pI (fun c ah=>aaN ah (dj x)) ak
 case field t x f=>
  simp only[df] at ak;split at ak
  ·rename_i cs fd ai aD;have aw:=dj x;rw[ai] at aw;exact pI (fun c ah=>aaO aD ah aw) ak
  ·cases ak
 case indexAddr t x i=>exact pI (fun c ah=>aeZ ah (dj x) (dj i)) ak
 case index t x i=>exact pI (fun c ah=>Mo ah (dj x) (dj i)) ak
 case extract x i=>
  simp only[df] at ak;have aw:=dj x;cases ah:aG x<;>rw[ah] at ak aw<;>simp only at ak<;>try (cases ak; done)
  rename_i vs;cases ai:ey x<;>rw[ai] at aw<;>try (cases aw; done)
  rename_i arr;cases aw with
  | bJ _ _ am L9=>
   refine pI (m:=Instr.extract (ey x) i) (fun c ah=>?_) ak;have aM:i<arr.size:=by rw[am]; exact (arY.1 ah).1
   exact⟨arr[i],by simp[Instr.extract,ai,aM],L9 i c _ ah (by simp[aM])⟩
 case call c=>exact Zj rel dj ak
 case makeMap t r=>
  simp only[df] at ak;split at ak
  ·rename_i k e aP aA;simp only[Option.some.injEq] at ak; subst ak;obtain⟨v,w',μ',h1,ae,al,aE⟩:=agf (P:=P) (t:=t) (r:=r.map ey) rel ⟨_,_,aP⟩ (fun x ai=>by
    cases r with
    | none=>cases ai
    | some o=>
     simp only[asb,Option.some.injEq] at ai; subst ai;simp only at aA;cases ax:asInt (aG o) with
     | none=>rw[ax] at aA; cases aA
     | some n=>
      obtain⟨k,hk⟩:=sJ ax (dj o);exact⟨k,n,hk⟩)
   exact Good.mk (by simp[execOp,h1]) ae al aE
  ·cases ak
 case lookup t m k ok=>exact pI (fun c ah=>af9 rel ah (dj m) (dj k)) ak
 case mapUpdate t m k x=>
  simp only[df] at ak;cases b1:zc P h t (aG m) (aG k) (aG x) with
  | none=>rw[b1] at ak; cases ak
  | some h'=>
   rw[b1] at ak;simp only[asb,Option.some.injEq] at ak; subst ak;obtain⟨w',h1,ae,al⟩:=Uk (P:=P) rel b1 (dj m) (dj k) (dj x);exact⟨undef,w',μ,.inr ⟨by simp[execOp,h1],rfl⟩,ae,al,.bJ [] #[] rfl (fun _ _ _ aH=>by simp at aH)⟩
 case insert t m k x=>
  simp only[df] at ak;cases b1:zc P h t (aG m) (aG k) (aG x) with
  | none=>rw[b1] at ak; cases ak
  | some h'=>
   rw[b1] at ak;simp only[asb,Option.some.injEq] at ak; subst ak;obtain⟨w',h1,ae,al⟩:=Uk (P:=P) rel b1 (dj m) (dj k) (dj x);exact⟨undef,w',μ,.inr ⟨by simp[execOp,h1],rfl⟩,ae,al,.bJ [] #[] rfl (fun _ _ _ aH=>by simp at aH)⟩
 case range t x=>exact H4 (fun c h' ah=>ah1 rel ah (dj x)) ak
 case next it isS=>
  cases isS with
  | false=>simp only[df] at ak; cases ak
  | true=>exact H4 (fun c h' ah=>by obtain⟨v,w',h1,ae,al,aE⟩:=ags (P:=P) (ty:=type) rel ah (dj it); exact⟨v,w',μ,h1,ae,al,aE⟩) ak
 case typeAssert x OV t ok=>
  simp only[df] at ak;split at ak
  ·rename_i z av;exact pI (fun c ah=>ajS av ah (dj x)) ak
  ·cases ak
 all_goals (simp only[df] at ak; cases ak)
end
inductive vu where
 | normal
 | exit (id:Nat)
 | ret
def vu.out:vu->Exit
 | .normal=>.normal
 | .exit id=>.exit id
 | .ret=>.ret
def lv (ops:Array Oper) (af:Nat->ad) (o:Oper) :Option Bool:=
 match o.guard with
 | none=>some true
 | some (j,BS)=>match (ops[j]?).bind (·.dst) with
  | none=>some false
  | some d=>match af d with
   | .bool b=>some (b == BS)
   | .bad=>none
   | _=>some false
def h3 (af:Nat->ad) (dst:Option Tmp) (c:ad) :Nat->ad:=match dst with | some d=>bY af d c | none=>af
def qf (N:Nat) (dst:Option Tmp) :Bool:=match dst with | some d=>decide (d<N) | none=>true
def BB (P:Program) (h:a6) (af:Nat->ad) :ResultVar->Option ad
 | .tmp t=>some (af t)
 | .cell a t=>tu P h t (af a)
def xk (P:Program) (h:a6) (af:Nat->ad) :List ResultVar->Option (List ad)
 | []=>some []
 | r::Eu=>match BB P h af r,xk P h af Eu with
  | some v,some vs=>some (v::vs)
  | _,_=>none
def zy:List ad->ad
 | [v]=>v
 | vs=>.bJ vs
def Iu (P:Program) (h:a6) (af:Nat->ad) (fn:Func) :Option ad:=(xk P h af fn.results.toList).map zy
mutual
def ad.closed:ad->Bool
 | .aI cs=>aZ cs
 | .bJ cs=>aZ cs
 | .b0 cs _=>aZ cs
 | .cq _ es=>Cp es
 | .fn _ a b=>aZ a&&aZ b
 | .hu _ v=>v.closed
 | .ptr .. | .au .. | .mp _ | .it _=>false
 | _=>true
def aZ:List ad->Bool
 | []=>true
 | c::cs=>c.closed&&aZ cs
def Cp:List (List ad)->Bool
 | []=>true
 | c::cs=>aZ c&&Cp cs
end
def fO (w:World) (A:Nat->Prop) (c:ad) (v:Value) :Prop:=aS w A a6.empty (fun _=>none) c v
structure zH (w w' : World) :Prop extends RowKit.Below w.heap.size w w' where
 drawn:w.drawn<=w'.drawn
def tV (G:Nat->ad) (w:World) (R:Nat->Prop) (h:a6) (μ:cR) :Prop:=∀ g,(G g).closed=true/\aS w R h μ (G g) (.pointer (some ⟨g,0,none⟩))
def sv (P:Program) (G:Nat->ad) (f:FuncId) (args:List ad) (h:a6) (r:ad) (h' : a6) :Prop:=
 ∀ (R:Nat->Prop) (B:Nat) (w:World) (μ:cR) (vs:Array Value),cc R B w h μ->tV G w R h μ->vs.size=args.length->
  (∀ (j:Nat) (c:ad) (v:Value),args[j]? = some c->vs[j]? = some v->aS w R h μ c v)->
  Calls P f vs w fun e w'=>∃ v μ',e=.returned v/\dQ w h μ w' h' μ'/\cc R B w' h' μ'/\aS w' R h' μ' r v
def bx (P:Program) (G:Nat->ad) (f:FuncId) (args:List ad) (r:ad) :Prop:=
 ∀ (w:World) (A:Nat->Prop) (vs:Array Value),(∀ g,fO w A (G g) (.pointer (some ⟨g,0,none⟩)))->vs.size=args.length->
  (∀ (j:Nat) (c:ad) (v:Value),args[j]? = some c->vs[j]? = some v->fO w A c v)->
  Calls P f vs w fun e w'=>∃ v,e=.returned v/\zH w w'/\fO w' (fun k=>A k\/w.heap.size<=k) r v
def p1 (P:Program) (G:Nat->ad) (f:FuncId) (args:List ad) (r:ad) :Prop:=
 ∀ (w:World) (A:Nat->Prop) (vs:Array Value),(∀ g,fO w A (G g) (.pointer (some ⟨g,0,none⟩)))->vs.size=args.length->
  (∀ (j:Nat) (c:ad) (v:Value),args[j]? = some c->vs[j]? = some v->fO w A c v)->
  Calls P f vs w fun e w'=>∃ v,e=.returned v/\zH w w'/\fO w' (fun k=>w.heap.size<=k) r v
inductive go (h:a6) :ad->ad->Prop
 | same (c:ad) (ah:c.closed=true) :go h c c
 | aI (cs cs' : List ad) (am:cs'.length=cs.length) (aw:∀ (j:Nat) (c c' : ad),cs[j]? = some c->cs'[j]? = some c'->go h c c') :go h (.aI cs) (.aI cs')
 | bJ (cs cs' : List ad) (am:cs'.length=cs.length) (aw:∀ (j:Nat) (c c' : ad),cs[j]? = some c->cs'[j]? = some c'->go h c c') :go h (.bJ cs) (.bJ cs')
 | au (z b off len cap sz:Nat) (cs:List ad) (es:List (List ad)) (ag:h.f b=.cells sz cs) (am:es.length=len) (av:∀ e∈es,e.length=z)
   (cZ:off+len*z<=cs.length)
   (aw:∀ (i j:Nat) (e:List ad) (c c' : ad),es[i]? = some e->e[j]? = some c'->cs[off+(i*z+j)]? = some c->go h c c') :go h (.au z b off len cap sz) (.cq z es)
 | vk (z b off cap sz:Nat) :go h (.au z b off 0 cap sz) (.cq z [])
 | ptr (b off sz:Nat) (cs cs' : List ad) (ag:h.f b=.cells sz cs) (am:cs'.length=cs.length) (aw:∀ (j:Nat) (c c' : ad),cs[j]? = some c->cs'[j]? = some c'->go h c c') :go h (.ptr b off sz) (.b0 cs' off)
mutual
def ad.flat:ad->Bool
 | .aI cs=>mL cs
 | .bJ cs=>mL cs
 | .hu _ v=>v.flat
 | .bool _ | .int .. | .str _ | .ka | .aV | .iE | .j8 | .j9=>true
 | _=>false
def mL:List ad->Bool
 | []=>true
 | c::cs=>c.flat&&mL cs
end
inductive EX where
 | pure | new | gT
def oc (P:Program) (aG:Operand->ad) :Op->Option (List ad × (Nat->ad))
 | .alloc t=>(h5 P t).map fun z=>(z,fun b=>.ptr b 0 z.length)
 | .box _ x=>(aG x).cells.map fun cs=>(cs,fun b=>.ptr b 0 cs.length)
 | .buildSlice t len parts=>match i2 P t with
  | some e=>match cG P e,h5 P e with
   | some z,some zero=>if zero.length=z/\len*z<=16777216 then
     (h9 (fun i=>some (i*z,z)) (dZ zero len) (parts.toList.map fun p=>(p.1,aG p.2))).map fun cs=>(cs,fun b=>.au z b 0 len len (len*z))
    else none
   | _,_=>none
  | none=>none
 | .makeSlice t l c=>match i2 P t,asInt (aG l),asInt (aG c) with
  | some e,some l,some c=>match cG P e,jn P e,h5 P e with
   | some z,some by_,some zero=>
    if zero.length=z/\0<=l/\l<=c/\c<9223372036854775808/\by_*c<=cK then
     some (dZ zero c.toNat,fun b=>.au z b 0 l.toNat c.toNat (c.toNat*z))
    else none
   | _,_,_=>none
  | _,_,_=>none
 | _=>none
def kz (ops:Array Oper) (t:Nat) :Option Nat:=(List.range ops.size).find? fun i=>match ops[i]? with | some o=>o.dst == some t | none=>false
def nQ (ops:Array Oper) (pre:Nat->Nat->Bool) (val:Nat->ad) (af:Nat->ad) (i:Nat) (o:Oper) :Nat->ad:=fun t=>
 if (o.looksAt ops).contains t then
  match kz ops t with
  | some j=>if pre i j then val j else af t
  | none=>af t
 else .bad
structure tT (ops:Array Oper) (pre:Nat->Nat->Bool) :Prop where
 CE:∀ (i:Nat) (o:Oper) (e:Edge),ops[i]? = some o->e∈o.after->Region.binds .any e=true->e.on<i
 chain:∀ (i:Nat) (o:Oper) (j:Nat),ops[i]? = some o->pre i j=true->∃ e∈o.after,Region.binds .any e=true/\(e.on=j\/pre e.on j=true)
 one:∀ (i:Nat) (o:Oper) (t:Tmp),ops[i]? = some o->o.dst=some t->kz ops t=some i
 acc:∀ (i:Nat) (o:Oper) (t:Tmp) (j:Nat),ops[i]? = some o->t∈o.looksAt ops->kz ops t=some j->pre i j=true\/pre j i=true\/j=i
 aru:Region.noSelect ops=true
def xg (h:a6) (l:List (List ad)) :a6:=l.foldl (fun h cs=>h.push (.cells cs.length cs)) h
def o5 (h h' : a6) :Prop:=∃ l,h'=xg h l
theorem Vr:∀ (l:List (List ad)) (h:a6),(xg h l).n=h.n+l.length
 | [],h=>rfl
 | c::l,h=>by
  have:=Vr l (h.push (.cells c.length c));simp only[xg,List.foldl_cons,List.length_cons] at this ⊢;rw[this];simp only[eH,fL]; omega
theorem Vs:∀ (l:List (List ad)) (h:a6) (b:Nat),b<h.n->(xg h l).f b=h.f b
 | [],h,b,_=>rfl
 | c::l,h,b,ag=>by
  have:=Vs l (h.push (.cells c.length c)) b (by simp only[eH,fL]; omega);simp only[xg,List.foldl_cons] at this ⊢;rw[this];simp only[eH,fL];exact cp _ _ _ _ (by omega)
theorem Vq:∀ (l:List (List ad)) (h:a6),(∀ b,h.n<=b->h.f b=.none)->∀ b,(xg h l).n<=b->(xg h l).f b=.none
 | [],h,aD=>aD
 | c::l,h,aD=>by
  refine Vq l (h.push (.cells c.length c)) (fun b ag=>?_);simp only[eH,fL] at ag ⊢;rw[cp _ _ _ _ (by omega)];exact aD b (by omega)
theorem o5.n {h h' : a6} (g:o5 h h') :h.n<=h'.n:=by obtain⟨l,rfl⟩:=g; rw[Vr]; omega
theorem o5.same {h h' : a6} (g:o5 h h') (b:Nat) (ag:b<h.n) :h'.f b=h.f b:=by obtain⟨l,rfl⟩:=g; exact Vs l h b ag
theorem o5.fresh {h h' : a6} (g:o5 h h') (aD:∀ b,h.n<=b->h.f b=.none) :∀ b,h'.n<=b->h'.f b=.none:=by obtain⟨l,rfl⟩:=g; exact Vq l h aD
inductive rm (h ae:a6) :ad->ad->Prop
 | same (c:ad) :rm h ae c c
 | aI (cs cs' : List ad) (am:cs'.length=cs.length) (aw:∀ (j:Nat) (c c' : ad),cs[j]? = some c->cs'[j]? = some c'->rm h ae c c') :rm h ae (.aI cs) (.aI cs')
 | au (z b off len cap sz:Nat) (cs:List ad) (es:List (List ad)) (ag:h.f b=.cells sz cs) (bN:ae.f b=.dead) (am:es.length=len) (av:∀ e∈es,e.length=z)
   (cZ:off+len*z<=cs.length)
   (aw:∀ (i j:Nat) (e:List ad) (c c' : ad),es[i]? = some e->e[j]? = some c'->cs[off+(i*z+j)]? = some c->rm h ae c c') :rm h ae (.au z b off len cap sz) (.cq z es)
 | vk (z b off cap sz:Nat) :rm h ae (.au z b off 0 cap sz) (.cq z [])
structure rn (h ae:a6) :Prop where
 n:ae.n=h.n
 blk:∀ b,ae.f b=h.f b\/∃ sz cs,h.f b=.cells sz cs/\(ae.f b=.dead\/∃ hW,ae.f b=.cells sz hW/\hW.length=cs.length/\∀ (j:Nat) (c dk:ad),cs[j]? = some c->hW[j]? = some dk->rm h ae c dk)
inductive J where
 | code (c:Code) (N:Nat) (af:Nat->ad) (h:a6) (e:vu) (b7:Nat->ad) (h' : a6)
 | ops (all:Array Oper) (l:List Oper) (N:Nat) (af:Nat->ad) (h:a6) (b7:Nat->ad) (h' : a6)
 | op (op:Op) (af:Nat->ad) (h:a6) (v:ad) (h' : a6)
 | call (f:FuncId) (args:List ad) (h:a6) (r:ad) (h' : a6)
def Ag (pre:Nat->Nat->Bool) (m:Nat) (ak:Nat->Nat) (i k:Nat) :Prop:=k<=m/\(∀ q,q<m->pre i (ak q)=true->q<k)/\∀ q,q<m->pre (ak q) i=true->k<=q
inductive dL (P:Program) (G:Nat->ad) :J->Prop where
 | skip (N af h) :dL P G (.code .skip N af h .normal af h)
 | label (l N af h) :dL P G (.code (.label l) N af h .normal af h)
 | ret (N af h) :dL P G (.code .ret N af h .ret af h)
 | exit (id N af h) :dL P G (.code (.exit id) N af h (.exit id) af h)
 | Wp {a b N af h jN h1 e b7 h'}:dL P G (.code a N af h .normal jN h1)->dL P G (.code b N jN h1 e b7 h')->dL P G (.code (.seq a b) N af h e b7 h')
 | N5 {a b N af h e b7 h'}:dL P G (.code a N af h e b7 h')->e≠.normal->dL P G (.code (.seq a b) N af h e b7 h')
 | cond {c x y N af h b e b7 h'}:dR G af c=.bool b->dL P G (.code (if b then x else y) N af h e b7 h')->dL P G (.code (.cond c x y) N af h e b7 h')
 | Fg {id c N af h e b7 h'}:dL P G (.code c N af h e b7 h')->e≠.exit id->dL P G (.code (.block id c) N af h e b7 h')
 | PJ {id c N af h b7 h'}:dL P G (.code c N af h (.exit id) b7 h')->dL P G (.code (.block id c) N af h .normal b7 h')
 | Bk {c N af h jN h1 e b7 h'}:dL P G (.code c N af h .normal jN h1)->dL P G (.code (.loop c) N jN h1 e b7 h')->dL P G (.code (.loop c) N af h e b7 h')
 | MK {c N af h e b7 h'}:dL P G (.code c N af h e b7 h')->e≠.normal->dL P G (.code (.loop c) N af h e b7 h')
 | scope {c N af h e b7 h'}:dL P G (.code c N af h e b7 h')->dL P G (.code (.scope c) N af h e b7 h')
 | region {id ops N af h b7 h'}:dL P G (.ops ops ops.toList N af h b7 h')->dL P G (.code (.region id ops false) N af h .normal b7 h')
 | draw {id ops N af h b7 h'} (pre:Nat->Nat->Bool) (val:Nat->ad) (W:Nat->Bool) (cls:Nat->EX) (m:Nat) (ak:Nat->Nat) (ga sA:Nat->a6) (g0:Nat->Nat) (cells:Nat->List ad)
   (hR:tT ops pre)
   (qu:∀ (i:Nat) (o:Oper),ops[i]? = some o->qf N o.dst=true)
   (aB:o5 h (ga 0)) (hm:h'=ga m) (Ho:b7=fun t=>match kz ops t with | some i=>val i | none=>af t)
   (ys:∀ (i:Nat) (o:Oper),ops[i]? = some o->W i=true->cls i=.gT->∃ q,q<m/\ak q=i)
   (C6:∀ q,q<m->∃ o,ops[ak q]? = some o/\W (ak q)=true/\cls (ak q)=.gT)
   (n4:∀ q fS,q<m->fS<m->q<fS->pre (ak fS) (ak q)=true)
   (e2:∀ q fS,q<m->fS<m->ak q=ak fS->q=fS)
   (wQ:∀ (i:Nat) (o:Oper),ops[i]? = some o->lv ops (nQ ops pre val af i o) o=some (W i))
   (AY:∀ (i:Nat) (o:Oper),ops[i]? = some o->W i=false->val i=jg)
   (G6:∀ (i:Nat) (o:Oper),ops[i]? = some o->W i=true->cls i=.pure->∀ k,Ag pre m ak i k->df P (ga k) (dR G (nQ ops pre val af i o)) o.op=some (.val (val i) (ga k)))
   (mi:∀ (i:Nat) (o:Oper),ops[i]? = some o->W i=true->cls i=.new->∃ mk,oc P (dR G (nQ ops pre val af i o)) o.op=some (cells i,mk)/\val i=mk (g0 i)/\h.n<=g0 i ∧
    ∀ k,Ag pre m ak i k->(ga k).f (g0 i)=.cells (cells i).length (cells i))
   (Gt:∀ (i j:Nat) (o ck:Oper),ops[i]? = some o->ops[j]? = some ck->W i=true->W j=true->cls i=.new->cls j=.new->g0 i=g0 j->i=j)
   (Gu:∀ (i:Nat) (o:Oper) (q:Nat),ops[i]? = some o->W i=true->cls i=.new->q<m->g0 i<(ga q).n\/(sA q).n<=g0 i)
   (qy:∀ q,q<m->o5 (sA q) (ga (q+1)))
   (hr:∀ (q:Nat) (o:Oper),q<m->ops[ak q]? = some o->dL P G (.op o.op (nQ ops pre val af (ak q) o) (ga q) (val (ak q)) (sA q))) :
   dL P G (.code (.region id ops true) N af h .normal b7 h')
 | UO {all N af h}:dL P G (.ops all [] N af h af h)
 | UQ {all o l N af h b7 h'}:lv all af o=some false->qf N o.dst=true->dL P G (.ops all l N (h3 af o.dst jg) h b7 h')->dL P G (.ops all (o::l) N af h b7 h')
 | UP {all o l N af h v h1 b7 h'}:lv all af o=some true->qf N o.dst=true->dL P G (.op o.op af h v h1)->dL P G (.ops all l N (h3 af o.dst v) h1 b7 h')->dL P G (.ops all (o::l) N af h b7 h')
 | H6 {op af h v h'}:df P h (dR G af) op=some (.val v h')->dL P G (.op op af h v h')
 | Bv {op af h f args h1 v h'}:df P h (dR G af) op=some (.call f args h1)->dL P G (.call f args h1 v h')->dL P G (.op op af h v h')
 | IX {op af h v h' dz ae}:dL P G (.op op af h v h')->rn h' ae->rm h' ae v dz->dL P G (.op op af h dz ae)
 | inline {f fn c args h e b7 h' r}:P.funcs[f]? = some fn->fn.body=some c->
   dL P G (.code c (args.length+(fn.ntmps - args.length)) (fun t=>args.getD t jg) h e b7 h')->(e=.normal\/e=.ret)->Iu P h' b7 fn=some r->dL P G (.call f args h r h')
 | pure {f args h r}:bx P G f args r->aZ args=true->dL P G (.call f args h r h)
 | Vm {f args kF h r}:bx P G f kF r->kF.length=args.length->(∀ (j:Nat) (c c' : ad),args[j]? = some c->kF[j]? = some c'->go h c c')->r.flat=true->dL P G (.call f args h r h)
 | ext {f args h r h'}:sv P G f args h r h'->dL P G (.call f args h r h')
 | Vn {f args kF h r}:p1 P G f kF r->kF.length=args.length->(∀ (j:Nat) (c c' : ad),args[j]? = some c->kF[j]? = some c'->go h c c')->dL P G (.call f args h r h)
section
variable {P:Program} {G:Nat->ad}
structure nK (N:Nat) (w:World) (R:Nat->Prop) (h:a6) (μ:cR) (af:Nat->ad) (a:Act) :Prop where
 size:a.tmps.size=N
 defers:a.defers=[]
 val:∀ t,aS w R h μ (af t) (a.tmps.getD t undef)
theorem tV.ext {w w' : World} {R:Nat->Prop} {h h' : a6} {μ μ' : cR} (g:tV G w R h μ) (e:dQ w h μ w' h' μ') :tV G w' R h' μ':=fun i=>⟨(g i).1,(g i).2.ext e⟩
theorem nK.ext {N:Nat} {w w' : World} {R:Nat->Prop} {h h' : a6} {μ μ' : cR} {af:Nat->ad} {a:Act} (s:nK N w R h μ af a) (e:dQ w h μ w' h' μ') :nK N w' R h' μ' af a:=
 ⟨s.size,s.defers,fun t=>(s.val t).ext e⟩
theorem nK.dR {N:Nat} {w:World} {R:Nat->Prop} {h:a6} {μ:cR} {af:Nat->ad} {a:Act} (s:nK N w R h μ af a) (g:tV G w R h μ) (x:Operand) :aS w R h μ (dR G af x) (a.eval x) :=by
 cases x with
 | tmp t=>exact s.val t
 | const v=>exact aS.xb v
 | global i=>exact (g i).2
 | func f=>exact .fn f [] [] #[] #[] rfl rfl (fun _ _ _ aH=>by simp at aH) (fun _ _ _ aH=>by simp at aH)
theorem OH {w:World} {R:Nat->Prop} {h:a6} {μ:cR}:aS w R h μ jg undef:=.bJ [] #[] rfl (fun _ _ _ aH=>by simp at aH)
theorem nK.put {N:Nat} {w:World} {R:Nat->Prop} {h:a6} {μ:cR} {af:Nat->ad} {a:Act} (s:nK N w R h μ af a) {dst:Option Tmp} (bN:qf N dst=true) {c:ad} {v:Value} (aw:aS w R h μ c v) :
  nK N w R h μ (h3 af dst c) (a.put dst v) :=by
 cases dst with
 | none=>exact s
 | some d=>
  have aM:d<a.tmps.size:=by rw[s.size]; simpa [qf] using bN
  refine⟨by simp[Act.put,s.size],s.defers,fun t=>?_⟩;simp only[h3,Act.put];by_cases aJ:t=d
  ·subst aJ;rw[kL];simp[aM];exact aw
  ·rw[cp _ _ _ _ aJ];have:=s.val t;simpa [Array.getElem?_setIfInBounds_ne (Ne.symm aJ)] using this
theorem OP {w:World} {R:Nat->Prop} {h:a6} {μ:cR} {ops:Array Oper} {af:Nat->ad} {tmps:Array Value} {o:Oper} {b:Bool} (hw:lv ops af o=some b)
  (aw:∀ d,(∃ j BS,o.guard=some (j,BS)/\(ops[j]?).bind (·.dst)=some d)->aS w R h μ (af d) (tmps.getD d undef)) :Region.wanted o (yielded ops tmps)=b:=by
 unfold lv at hw;unfold Region.wanted;cases ar:o.guard with
 | none=>rw[ar] at hw; simpa using hw
 | some lS=>
  obtain⟨j,BS⟩:=lS;rw[ar] at hw;simp only at hw ⊢;unfold yielded;cases bN:(ops[j]?).bind (·.dst) with
  | none=>
   rw[bN] at hw;simp only[Option.some.injEq] at hw;subst hw;simp
  | some d=>
   rw[bN] at hw;have A4:=aw d ⟨j,BS,ar,bN⟩;simp only[Option.bind_some] at hw ⊢;cases aJ:tmps[d]? with
   | none=>
    have aP:tmps.getD d undef=undef:=by simp[Array.getD_eq_getD_getElem?,aJ]
    rw[aP] at A4;cases ah:af d<;>rw[ah] at hw A4<;>simp at hw<;>try (subst hw; simp)
    all_goals cases A4
   | some v=>
    have aP:tmps.getD d undef=v:=by simp[Array.getD_eq_getD_getElem?,aJ]
    rw[aP] at A4;cases ah:af d<;>rw[ah] at hw A4<;>simp at hw
    all_goals (cases A4<;>(subst hw; simp))
def pY (P:Program) (n:Nat) (c:Code) (Q:Exit->Act->World->Prop) (a:Act) (w:World) :Prop:=
 match c with
 | .loop c'=>Code.rounds P c' Q n a w
 | c=>c.wp P Q a w
theorem pY.wp {n:Nat} {c:Code} {Q:Exit->Act->World->Prop} {a:Act} {w:World} (h:pY P n c Q a w) :c.wp P Q a w:=by
 cases c<;>first | exact wp_loop_rounds n h | exact h
def xO (P:Program) (G:Nat->ad) :J->Prop
 | .code c N af h e b7 h'=>∃ n,∀ (R:Nat->Prop) (B:Nat) (w:World) (μ:cR) (a:Act) (Q:Exit->Act->World->Prop),cc R B w h μ->tV G w R h μ->nK N w R h μ af a->
   (∀ fc w' μ',dQ w h μ w' h' μ'->cc R B w' h' μ'->nK N w' R h' μ' b7 fc->Q e.out fc w')->pY P n c Q a w
 | .ops all l N af h b7 h'=>∀ (R:Nat->Prop) (B:Nat) (w:World) (μ:cR) (a:Act) (Q:Exit->Act->World->Prop),cc R B w h μ->tV G w R h μ->nK N w R h μ af a->
   (∀ fc w' μ',dQ w h μ w' h' μ'->cc R B w' h' μ'->nK N w' R h' μ' b7 fc->Q .normal fc w')->wpList P all Q l a w
 | .op op af h v h'=>∀ (R:Nat->Prop) (B:Nat) (w:World) (μ:cR) (a:Act) (o:Oper) (K:Act->World->Prop) (Q:Exit->Act->World->Prop),o.op=op->cc R B w h μ->tV G w R h μ->
   (∀ x,aS w R h μ (dR G af x) (a.eval x))->(∀ a8 w' μ',dQ w h μ w' h' μ'->cc R B w' h' μ'->aS w' R h' μ' v a8->K (a.put o.dst a8) w')->o.wp P a w K Q
 | .call f args h r h'=>sv P G f args h r h'
theorem air {N:Nat} {w:World} {R:Nat->Prop} {B:Nat} {h:a6} {μ:cR} {af:Nat->ad} {a:Act} (rel:cc R B w h μ) (s:nK N w R h μ af a) {fn:Func} {r:ad} (aA:Iu P h af fn=some r) :
  ∃ v,(results fn a.tmps).run P w=.ok v w/\aS w R h μ r v:=by
 have one:∀ (x:ResultVar) (c:ad),BB P h af x=some c->∃ v,(∀ F:ResultVar->Sem Value,(∀ t,F (.tmp t)=pure (a.tmps.getD t undef))->(∀ p t,F (.cell p t)=(do loadVar t (<-asAddr (a.tmps.getD p undef))))->(F x).run P w=.ok v w)/\aS w R h μ c v:=by
  intro x c ai;cases x with
  | tmp t=>
   simp only[BB,Option.some.injEq] at ai; subst ai;exact⟨_,fun F h1 _=>by rw[h1]; rfl,s.val t⟩
  | cell p t=>
   simp only[BB] at ai;obtain⟨v,h1,ae⟩:=Uf (P:=P) rel ai (s.val p);refine⟨v,fun F _ lG=>?_,ae⟩;rw[lG];cases aC:a.tmps.getD p undef with
   | pointer Pd=>
    cases Pd with
    | none=>rw[aC] at h1; simp[Instr.loadAt,Instr.sureAddr] at h1
    | some Pd=>rw[aC] at h1; simpa [Instr.loadAt,Instr.sureAddr,asAddr,aC] using h1
   | _=>rw[aC] at h1; simp[Instr.loadAt,Instr.sureAddr] at h1
 have all:∀ (l:List ResultVar) (cs:List ad),xk P h af l=some cs->∃ vs:List Value,(∀ F:ResultVar->Sem Value,(∀ t,F (.tmp t)=pure (a.tmps.getD t undef))->(∀ p t,F (.cell p t)=(do loadVar t (<-asAddr (a.tmps.getD p undef))))->(l.mapM F).run P w=.ok vs w) ∧
   vs.length=cs.length/\∀ (j:Nat) (c:ad) (v:Value),cs[j]? = some c->vs[j]? = some v->aS w R h μ c v:=by
  intro l
  induction l with
  | nil=>intro cs ah; simp only[xk,Option.some.injEq] at ah; subst ah; exact⟨[],fun F _ _=>by simp,rfl,fun _ _ _ aH=>by simp at aH⟩
  | cons x l aO=>
   intro cs ah;unfold xk at ah;split at ah
   ·rename_i c cs' ai am;simp only[Option.some.injEq] at ah; subst ah;obtain⟨v,h1,ae⟩:=one x c ai;obtain⟨vs,al,aE,aU⟩:=aO cs' am;refine⟨v::vs,fun F ce bI=>by simp only[List.mapM_cons,Sem.run_bind,h1 F ce bI,Result.andThen_ok,al F ce bI,Sem.run_pure],by simp[aE],fun j c' a8 aj aw=>?_⟩;cases j with
    | zero=>simp at aj aw; subst aj aw; exact ae
    | succ j=>exact aU j c' a8 (by simpa using aj) (by simpa using aw)
   ·cases ah
 unfold Iu at aA;cases am:xk P h af fn.results.toList with
 | none=>rw[am] at aA; cases aA
 | some cs=>
  rw[am] at aA;simp only[Option.map_some,Option.some.injEq] at aA; subst aA;obtain⟨vs,h1,ae,al⟩:=all _ _ am;have iO:(results fn a.tmps).run P w=.ok (if aH:vs.toArray.size=1 then vs.toArray[0] else .tuple vs.toArray) w:=by
   unfold results;rw[Array.mapM_eq_mapM_toList];simp only[Sem.run_bind,Sem.run_map];rw[h1 _ (fun _=>rfl) (fun _ _=>rfl)];simp
  refine⟨_,iO,?_⟩
  match cs,vs,ae,al with
  | [],[],_,_=>exact .bJ [] #[] rfl (fun _ _ _ aH=>by simp at aH)
  | [c],[v],_,al=>exact al 0 c v rfl rfl
  | c::c'::cs,v::a8::vs,ae,al=>
   simp only[List.size_toArray,List.length_cons];rw[dif_neg (by omega)];exact .bJ _ _ (by simpa using ae) (fun j x y aj ay=>al j x y aj (by simpa using ay))
theorem xX {w:World} {R:Nat->Prop} {h:a6} {μ:cR} {c:ad} {v:Value} (aw:aS w R h μ c v) :c.closed=true->fO w (fun k=>R k/\¬ mF h μ k) c v:=by
 have am:∀ (cs:List ad),aZ cs=true->∀ (j:Nat) (c:ad),cs[j]? = some c->c.closed=true:=by
  intro cs
  induction cs with
  | nil=>intro _ j c aj; simp at aj
  | cons x cs aO=>
   intro ah j c aj;simp only[aZ,Bool.and_eq_true] at ah;cases j with
   | zero=>simp at aj; subst aj; exact ah.1
   | succ j=>exact aO ah.2 j c (by simpa using aj)
 have Dj:∀ (es:List (List ad)),Cp es=true->∀ (i:Nat) (e:List ad),es[i]? = some e->aZ e=true:=by
  intro es
  induction es with
  | nil=>intro _ j c aj; simp at aj
  | cons x cs aO=>
   intro ah j c aj;simp only[Cp,Bool.and_eq_true] at ah;cases j with
   | zero=>simp at aj; subst aj; exact ah.1
   | succ j=>exact aO ah.2 j c (by simpa using aj)
 have cell:∀ b o v,Cell w R h μ b o v->Cell w (fun k=>R k/\¬ mF h μ k) a6.empty (fun _=>none) b o v:=fun b o v ah=>
  ⟨ah.here,ah.one,⟨ah.ro,ah.free⟩,fun ⟨b,m,h1,ae,al⟩=>by cases ae⟩
 unfold fO
 induction aw with
 | bool b=>exact fun _=>.bool b
 | int k n=>exact fun _=>.int k n
 | str bs=>exact fun _=>.str bs
 | ka=>exact fun _=>.ka
 | aV=>exact fun _=>.aV
 | iE=>exact fun _=>.iE
 | j8=>exact fun _=>.j8
 | j9=>exact fun _=>.j9
 | aI cs vs bn h1 aw aO=>exact fun ah=>.aI cs vs bn h1 fun j c v aj fG=>aO j c v aj fG (am cs (by simpa [ad.closed] using ah) j c aj)
 | bJ cs vs bn aw aO=>exact fun ah=>.bJ cs vs bn fun j c v aj fG=>aO j c v aj fG (am cs (by simpa [ad.closed] using ah) j c aj)
 | ptr=>exact fun ah=>by simp[ad.closed] at ah
 | nz=>exact fun ah=>by simp[ad.closed] at ah
 | b0 cs off blk o eI ah aw aO=>exact fun eE=>.b0 cs off blk o eI (fun j aj=>cell _ _ _ (ah j aj)) fun j c aj=>aO j c aj (am cs (by simpa [ad.closed] using eE) j c aj)
 | au=>exact fun ah=>by simp[ad.closed] at ah
 | gX=>exact fun ah=>by simp[ad.closed] at ah
 | ik=>exact fun ah=>by simp[ad.closed] at ah
 | cq z es blk off cap eI dp av ah aw aO=>exact fun eE=>.cq z es blk off cap eI dp av (fun i j ax aj=>cell _ _ _ (ah i j ax aj)) fun i e ao j c aj=>aO i e ao j c aj (am e (Dj es (by simpa [ad.closed] using eE) i e ao) j c aj)
 | fY z a cap=>exact fun _=>.fY z a cap
 | fn f first gJ fs cs aD ah h1 ae dq ic=>
  intro eE;simp only[ad.closed,Bool.and_eq_true] at eE;exact .fn f first gJ fs cs aD ah (fun j c v aj fG=>dq j c v aj fG (am _ eE.1 j c aj)) fun j c v aj fG=>ic j c v aj fG (am _ eE.2 j c aj)
 | mp=>exact fun ah=>by simp[ad.closed] at ah
 | it=>exact fun ah=>by simp[ad.closed] at ah
 | hu t c v aw aO=>exact fun eE=>.hu t c v (aO (by simpa [ad.closed] using eE))
 | nf l=>exact fun _=>.nf l
 | bad v=>exact fun _=>.bad v
theorem Cq {cs:List ad} (ah:aZ cs=true) :∀ (j:Nat) (c:ad),cs[j]? = some c->c.closed=true:=by
 induction cs with
 | nil=>intro j c aj; simp at aj
 | cons x cs aO=>
  intro j c aj;simp only[aZ,Bool.and_eq_true] at ah;cases j with
  | zero=>simp at aj; subst aj; exact ah.1
  | succ j=>exact aO ah.2 j c (by simpa using aj)
theorem fO.up {w:World} {A:Nat->Prop} {R:Nat->Prop} {h:a6} {μ:cR} {c:ad} {v:Value} (aw:fO w A c v) (cv:∀ k,k<w.heap.size->A k->R k/\¬ mF h μ k) :aS w R h μ c v:=by
 have cell:∀ b o v,Cell w A a6.empty (fun _=>none) b o v->Cell w R h μ b o v:=fun b o v ah=>
  have ag:b<w.heap.size:=World.block_lt_of_cell? _ _ ah.here
  ⟨ah.here,ah.one,(cv b ag ah.ro).1,(cv b ag ah.ro).2⟩
 unfold fO at aw
 induction aw with
 | bool b=>exact .bool b
 | int k n=>exact .int k n
 | str bs=>exact .str bs
 | ka=>exact .ka
 | aV=>exact .aV
 | iE=>exact .iE
 | j8=>exact .j8
 | j9=>exact .j9
 | aI cs vs bn h1 aw aO=>exact .aI cs vs bn h1 aO
 | bJ cs vs bn aw aO=>exact .bJ cs vs bn aO
 | ptr b off sz cs m ag hm=>cases hm
 | nz b off sz a ar=>rcases ar with ar | ⟨n,cs,ar,_⟩<;>cases ar
 | b0 cs off blk o eI ah aw aO=>exact .b0 cs off blk o eI (fun j aj=>cell _ _ _ (ah j aj)) aO
 | au z b off len cap sz cap' cs m ag hm=>cases hm
 | gX z b off len cap sz cap' a am ah ar=>rcases ar with ar | ⟨n,cs,ar,_⟩<;>cases ar
 | ik z b off sz a cs m ag hm=>cases hm
 | cq z es blk off cap eI dp av ah aw aO=>exact .cq z es blk off cap eI dp av (fun i j ax aj=>cell _ _ _ (ah i j ax aj)) aO
 | fY z a cap=>exact .fY z a cap
 | fn f first gJ fs cs aD ah h1 ae dq ic=>exact .fn f first gJ fs cs aD ah dq ic
 | mp b m ag hm=>cases hm
 | it b m ag hm=>cases hm
 | hu t c v aw aO=>exact .hu t c v aO
 | nf l=>exact .nf l
 | bad v=>exact .bad v
theorem U1 {R:Nat->Prop} {B:Nat} {w:World} {h:a6} {μ:cR} (rel:cc R B w h μ) {k:Nat} (aq:mF h μ k) :k<w.heap.size:=by
 obtain⟨b,m,h1,ae,rfl⟩:=aq;exact rel.lt h1 ae
theorem Es {R:Nat->Prop} {B:Nat} {w w' : World} {h:a6} {μ:cR} (rel:cc R B w h μ) (ag:zH w w') :dQ w h μ w' h μ/\cc R B w' h μ:=by
 have e:dQ w h μ w' h μ:=⟨⟨ag.os,ag.tape,ag.output,ag.size,fun k hk _=>ag.block k hk,fun _ aq=>.inl aq,fun b sz cs m h1 ae=>.inl ⟨cs,h1,ae⟩,fun _ _ ar=>ar,fun _ _ _ h1 ae=>⟨h1,ae⟩,Nat.le_refl _,ag.drawn⟩,fun _ _ hm=>hm⟩
 refine⟨e,fun b m hm=>?_,rel.inj,rel.base,rel.fresh,rel.up,Nat.le_trans rel.size ag.size,rel.lT⟩;cases am:live (h.f b) with
 | false=>cases ah:h.f b<;>first | trivial | (rw[ah] at am; cases am)
 | true=>exact (rel.blk b m hm).ext e.toExt0 (ag.block _ (rel.lt am hm))
theorem VP {w:World} {R:Nat->Prop} {B:Nat} {h:a6} {μ:cR} (rel:cc R B w h μ) :∀ {c c' : ad},go h c c'->∀ {v:Value},aS w R h μ c v->fO w R c' v:=by
 intro c c' aA;have nY:∀ {b sz:Nat} {cs:List ad} {m:M},h.f b=.cells sz cs->μ b=some m->∃ f:Nat->Value,∀ (j:Nat) (c:ad),cs[j]? = some c->Cell w R a6.empty (fun _=>none) m.r (m.s+j) (f j)/\aS w R h μ c (f j) :=by
  intro b sz cs m ag hm;have hblk:=rel.blk b m hm;rw[ag] at hblk;obtain⟨cb,cM,arr,t,gB,hw,az,aD,np⟩:=hblk;have pk:R m.r:=rel.up _ (rel.base b m (by rw[ag]; rfl) hm);refine⟨fun j=>(arr[m.s+j]?).getD undef,fun j c aj=>?_⟩;obtain⟨v,h1,ae,al⟩:=np _ _ aj;refine⟨⟨?_,by simp only[h1,Option.getD_some]; exact ae,pk,fun ⟨b,m,h1,ae,al⟩=>by cases ae⟩,by simp only[h1,Option.getD_some]; exact al⟩;simp only[World.cell?,hw,h1,Option.getD_some,Option.isSome_none];rfl
 induction aA with
 | same c ah=>
  intro v aw;exact (fO.up (xX aw ah) fun k _ hk=>⟨hk.1,fun ⟨b,m,h1,ae,al⟩=>by cases ae⟩:aS w R a6.empty (fun _=>none) _ v)
 | aI cs cs' am h aO=>
  intro v aw;cases aw with
  | aI _ vs gj h1 aw=>
   refine .aI cs' vs (by omega) h1 (fun j c' v aj fG=>?_);have aM:j<cs.length:=by rw[<-am]; exact (List.getElem?_eq_some_iff.1 aj).1
   exact aO j cs[j] c' (List.getElem?_eq_getElem aM) aj (aw j cs[j] v (List.getElem?_eq_getElem aM) fG)
 | bJ cs cs' am h aO=>
  intro v aw;cases aw with
  | bJ _ vs gj aw=>
   refine .bJ cs' vs (by omega) (fun j c' v aj fG=>?_);have aM:j<cs.length:=by rw[<-am]; exact (List.getElem?_eq_some_iff.1 aj).1
   exact aO j cs[j] c' (List.getElem?_eq_getElem aM) aj (aw j cs[j] v (List.getElem?_eq_getElem aM) fG)
 | vk z b off cap sz=>
  intro v aw;cases aw with
  | au _ _ _ _ _ _ cap' cs m ag hm am aq ah=>exact .fY z _ cap'
  | gX _ _ _ _ _ _ cap' a am ah ar=>exact .fY z _ cap'
  | ik _ _ _ _ a cs m ag hm=>exact .fY z a 0
 | ptr b off sz cs cs' ag am h aO=>
  intro v aw;cases aw with
  | nz _ _ _ a ar=>
   exfalso;rcases ar with ar | ⟨n,hW,ar,aM⟩
   ·rw[ag] at ar; cases ar
   ·rw[ag] at ar; cases ar; omega
  | ptr _ _ _ hW m fm hm=>
   obtain⟨f,aD⟩:=nY ag hm;refine .b0 cs' off m.r m.s f (fun j aj=>?_) (fun j c' aj=>?_)
   ·exact (aD j cs[j] (List.getElem?_eq_getElem (by omega))).1
   ·have aM:j<cs.length:=by rw[<-am]; exact (List.getElem?_eq_some_iff.1 aj).1
    exact aO j cs[j] c' (List.getElem?_eq_getElem aM) aj (aD j cs[j] (List.getElem?_eq_getElem aM)).2
 | au z b off len cap sz cs es ag am av cZ h aO=>
  intro v aw;cases aw with
  | ik _ _ _ _ a hW m fm i6=>
   obtain rfl:=List.length_eq_zero_iff.1 am;exact .fY z a 0
  | gX _ _ _ _ _ _ cap' a am ah ar=>
   exfalso;rcases ar with ar | ⟨n,hW,ar,aM⟩
   ·rw[ag] at ar; cases ar
   ·rw[ag] at ar; cases ar; omega
  | au _ _ _ _ _ _ cap' hW m fm hm gk aq ah=>
   have c9:len<=cap':=by rcases ah with ⟨_,h⟩ | ⟨_,h,_⟩<;>omega
   obtain⟨f,aD⟩:=nY ag hm;subst am;have aM:∀ i j,i<es.length->j<z->off+(i*z+j)<cs.length:=by
    intro i j ax aj;have:i*z+z<=es.length*z:=by rw[<-Nat.succ_mul]; exact Nat.mul_le_mul_right _ ax
    omega
   refine .cq z es m.r (m.s+off) cap' (fun i j=>f (off+(i*z+j))) c9 av (fun i j ax aj=>?_) (fun i e ao j c' aj=>?_)
   ·have:=(aD _ _ (List.getElem?_eq_getElem (aM i j ax aj))).1;rw[<-Nat.add_assoc] at this;exact this
   ·have ax:i<es.length:=(List.getElem?_eq_some_iff.1 ao).1;have qz:j<z:=by rw[<-av e (List.mem_of_getElem? ao)]; exact (List.getElem?_eq_some_iff.1 aj).1
    exact aO i j e _ c' ao aj (List.getElem?_eq_getElem (aM i j ax qz)) (aD _ _ (List.getElem?_eq_getElem (aM i j ax qz))).2
theorem FO:∀ {cs:List ad},mL cs=true->∀ (j:Nat) (c:ad),cs[j]? = some c->c.flat=true:=by
 intro cs
 induction cs with
 | nil=>intro _ j c h; simp at h
 | cons x cs aO=>
  intro ah j c aj;simp only[mL,Bool.and_eq_true] at ah;cases j with
  | zero=>simp at aj; subst aj; exact ah.1
  | succ j=>exact aO ah.2 j c (by simpa using aj)
theorem QS {w w' : World} {A R:Nat->Prop} {h h' : a6} {μ μ' : cR} {c:ad} {v:Value} (aw:aS w A h μ c v) (aD:c.flat=true) :aS w' R h' μ' c v:=by
 induction aw with
 | bool b=>exact .bool b
 | int k n=>exact .int k n
 | str bs=>exact .str bs
 | ka=>exact .ka
 | aV=>exact .aV
 | iE=>exact .iE
 | j8=>exact .j8
 | j9=>exact .j9
 | aI cs vs bn h1 aw aO=>exact .aI cs vs bn h1 (fun j c v aj fG=>aO j c v aj fG (FO (by simpa only [ad.flat] using aD) j c aj))
 | bJ cs vs bn aw aO=>exact .bJ cs vs bn (fun j c v aj fG=>aO j c v aj fG (FO (by simpa only [ad.flat] using aD) j c aj))
 | hu t c v aw aO=>exact .hu t c v (aO (by simpa only [ad.flat] using aD))
 | nf l=>exact .nf l
 | _=>simp[ad.flat] at aD
theorem ahg {f:FuncId} {args kF:List ad} {r:ad} {h:a6} (aC:bx P G f kF r) (bn:kF.length=args.length) (oN:∀ (j:Nat) (c c' : ad),args[j]? = some c->kF[j]? = some c'->go h c c')
  (eo:r.flat=true) :xO P G (.call f args h r h) :=by
 intro R B w μ vs rel g am aw;refine (aC w R vs (fun i=>?_) (by omega) (fun j c' v aj fG=>?_)).mono ?_
 ·exact (fO.up (xX (g i).2 (g i).1) fun k _ hk=>⟨hk.1,fun ⟨b,m,h1,ae,al⟩=>by cases ae⟩:aS w R a6.empty (fun _=>none) _ _)
 ·have aM:j<args.length:=by rw[<-bn]; exact (List.getElem?_eq_some_iff.1 aj).1
  exact VP rel (oN j args[j] c' (List.getElem?_eq_getElem aM) aj) (aw j args[j] v (List.getElem?_eq_getElem aM) fG)
 ·rintro e w' ⟨v,rfl,ag,aA⟩;obtain⟨ce,bI⟩:=Es rel ag;exact⟨v,μ,rfl,ce,bI,QS aA eo⟩
theorem ahh {f:FuncId} {args kF:List ad} {r:ad} {h:a6} (aC:p1 P G f kF r) (bn:kF.length=args.length) (oN:∀ (j:Nat) (c c' : ad),args[j]? = some c->kF[j]? = some c'->go h c c') :xO P G (.call f args h r h) :=by
 intro R B w μ vs rel g am aw;refine (aC w R vs (fun i=>?_) (by omega) (fun j c' v aj fG=>?_)).mono ?_
 ·exact (fO.up (xX (g i).2 (g i).1) fun k _ hk=>⟨hk.1,fun ⟨b,m,h1,ae,al⟩=>by cases ae⟩:aS w R a6.empty (fun _=>none) _ _)
 ·have aM:j<args.length:=by rw[<-bn]; exact (List.getElem?_eq_some_iff.1 aj).1
  exact VP rel (oN j args[j] c' (List.getElem?_eq_getElem aM) aj) (aw j args[j] v (List.getElem?_eq_getElem aM) fG)
 ·rintro e w' ⟨v,rfl,ag,aA⟩;obtain⟨ce,bI⟩:=Es rel ag;exact⟨v,μ,rfl,ce,bI,aA.up fun k hk cv=>⟨rel.up k (Nat.le_trans rel.size cv),fun aq=>by have:=U1 rel aq; omega⟩⟩
theorem p1.IJ {f:FuncId} {args:List ad} {r:ad} (aC:p1 P G f args r) :bx P G f args r:=fun w A vs ar am aw=>
 (aC w A vs ar am aw).mono fun e w' ⟨v,h1,ae,al⟩=>⟨v,h1,ae,(fO.up al fun k _ hk=>⟨.inr hk,fun ⟨b,m,h1,ae,al⟩=>by cases ae⟩:aS w' _ a6.empty (fun _=>none) _ _)⟩
theorem ahi {f:FuncId} {args:List ad} {r:ad} {h:a6} (aC:bx P G f args r) (ah:aZ args=true) :xO P G (.call f args h r h) :=by
 intro R B w μ vs rel g am aw;refine (aC w (fun k=>R k/\¬ mF h μ k) vs (fun i=>?_) am (fun j c v aj fG=>xX (aw j c v aj fG) (Cq ah j c aj))).mono ?_
 ·exact xX (g i).2 (g i).1
 ·rintro e w' ⟨v,rfl,ag,aA⟩;obtain⟨ce,bI⟩:=Es rel ag;refine⟨v,μ,rfl,ce,bI,aA.up (fun k hk cv=>?_)⟩;rcases cv with cv | cv
  ·exact cv
  ·exact⟨rel.up k (Nat.le_trans rel.size cv),fun aq=>by have:=U1 rel aq; omega⟩
end

section
variable {P:Program} {G:Nat->ad}
theorem agq {w:World} {R:Nat->Prop} {h:a6} {μ:cR} {aG:Operand->ad} {ey:Operand->Value} (dj:∀ x,aS w R h μ (aG x) (ey x)) (o:Oper) {cs:List ad} {mk:Nat->ad} (aF:oc P aG o.op=some (cs,mk)) :
  ∃ v arr t,(execOp ey o).run P w=.ok (.value v) (w.alloc (.cells arr t))/\l5 w R h μ cs arr ∧
   ∀ (w' : World) (tZ:Nat->Prop) (h' : a6) (μ' : cR) (b:Nat),h'.f b=.cells cs.length cs->μ' b=some ⟨w.heap.size,0,arr.size⟩->aS w' tZ h' μ' (mk b) v:=by
 obtain⟨dst,op,type,pos,after,guard⟩:=o;cases op<;>simp only[oc] at aF<;>try (cases aF; done)
 case alloc t=>
  cases av:h5 P t with
  | none=>rw[av] at aF; cases aF
  | some z=>
   rw[av] at aF;simp only[Option.map_some,Option.some.injEq,Prod.mk.injEq] at aF;obtain⟨rfl,rfl⟩:=aF;obtain⟨v,aw,aA⟩:=xF (P:=P) (w:=w) (R:=R) (h:=h) (μ:=μ) av;refine⟨.pointer (some ⟨w.heap.size,0,none⟩),v.cells,t,by simp[execOp,Instr.alloc,aw,newVar,newRow],aA,fun w' tZ h' μ' b ag hm=>?_⟩;have:=aS.ptr (w:=w') (R:=tZ) (h:=h') (μ:=μ') b 0 z.length z _ ag hm;simpa using this
 case box t x=>
  cases av:(aG x).cells with
  | none=>rw[av] at aF; cases aF
  | some z=>
   rw[av] at aF;simp only[Option.map_some,Option.some.injEq,Prod.mk.injEq] at aF;obtain⟨rfl,rfl⟩:=aF;obtain⟨ce,bI⟩:=Fo (dj x) av;refine⟨.pointer (some ⟨w.heap.size,0,none⟩),(ey x).cells,t,by simp[execOp,Instr.box,newVar,newRow],⟨ce,bI⟩,fun w' tZ h' μ' b ag hm=>?_⟩;have:=aS.ptr (w:=w') (R:=tZ) (h:=h') (μ:=μ') b 0 z.length z _ ag hm;simpa using this
 case buildSlice t len parts=>
  cases ao:i2 P t with
  | none=>rw[ao] at aF; cases aF
  | some e=>
  rw[ao] at aF;simp only at aF;cases av:cG P e with
  | none=>rw[av] at aF; cases aF
  | some z=>
  cases jB:h5 P e with
  | none=>rw[av,jB] at aF; cases aF
  | some zero=>
  rw[av,jB] at aF;simp only at aF;split at aF
  ·rename_i kj;cases aD:h9 (fun i=>some (i*z,z)) (dZ zero len) (parts.toList.map fun p=>(p.1,aG p.2)) with
   | none=>rw[aD] at aF; cases aF
   | some cs'=>
    rw[aD] at aF;simp only[Option.map_some,Option.some.injEq,Prod.mk.injEq] at aF;obtain⟨rfl,rfl⟩:=aF;obtain⟨ce,bI⟩:=Ni dj parts;obtain⟨eE,arr,iO,ae⟩:=PO ao av jB kj.1 kj.2 aD ce bI;refine⟨.slice (some ⟨w.heap.size,0,none⟩) len len,arr,e,by simp[execOp,iO],ae,fun w' tZ h' μ' b ag hm=>?_⟩;rw[eE] at ag;have:=aS.au (w:=w') (R:=tZ) (h:=h') (μ:=μ') z b 0 len len (len*z) len _ _ ag hm (Nat.le_refl _) (by omega) (.inr ⟨by omega,Nat.le_refl _,by simp only; rw[ae.1,eE]; omega⟩);simpa using this
  ·cases aF
 case makeSlice t l c=>
  split at aF
  ·rename_i e li hV ao g5 cJ;obtain⟨kl,qE⟩:=sJ g5 (dj l);obtain⟨kc,kk⟩:=sJ cJ (dj c);cases av:cG P e with
   | none=>rw[av] at aF; cases aF
   | some z=>
   cases eD:jn P e with
   | none=>rw[av,eD] at aF; cases aF
   | some by_=>
   cases jB:h5 P e with
   | none=>rw[av,eD,jB] at aF; cases aF
   | some zero=>
   rw[av,eD,jB] at aF;simp only at aF;split at aF
   ·rename_i kj;obtain⟨ib,aB,pw,Gy,dO⟩:=kj;simp only[Option.some.injEq,Prod.mk.injEq] at aF;obtain⟨rfl,rfl⟩:=aF;obtain⟨bn,arr,iO,cI⟩:=Ui (w:=w) (R:=R) (h:=h) (μ:=μ) (kl:=kl) (kc:=kc) ao av eD jB ib aB pw Gy dO;refine⟨.slice (some ⟨w.heap.size,0,none⟩) li.toNat hV.toNat,arr,e,by simp[execOp,qE,kk,iO],cI,fun w' tZ h' μ' b ag hm=>?_⟩;rw[bn] at ag;have:=aS.au (w:=w') (R:=tZ) (h:=h') (μ:=μ') z b 0 li.toNat hV.toNat (hV.toNat*z) hV.toNat _ _ ag hm (by omega) (by omega) (.inr ⟨by omega,Nat.le_refl _,by simp only; rw[cI.1,bn]; omega⟩);simpa using this
   ·cases aF
  ·cases aF
theorem o5.rel {R:Nat->Prop} {B:Nat} {w:World} {h h' : a6} {μ:cR} (g:o5 h h') (rel:cc R B w h μ) :dQ w h μ w h' μ/\cc R B w h' μ:=by
 have aM:∀ b m,μ b=some m->b<h.n:=fun b m hm=>rel.sK hm
 have e:dQ w h μ w h' μ:=by
  refine⟨⟨rfl,rfl,rfl,Nat.le_refl _,fun _ _ _=>rfl,?_,?_,?_,?_,g.n,Nat.le_refl _⟩,fun _ _ hm=>hm⟩
  ·rintro k ⟨b,m,am,hm,rfl⟩;rw[g.same b (aM b m hm)] at am;exact .inl ⟨b,m,am,hm,rfl⟩
  ·intro b sz cs m ag hm;exact .inl ⟨cs,by rw[g.same b (aM b m hm)]; exact ag,hm⟩
  ·rintro b sz ar;have ag:b<h.n:=by
    rcases Nat.lt_or_ge b h.n with h1 | h1
    ·exact h1
    ·have:=rel.fresh b h1;rcases ar with ar | ⟨n,cs,ar,_⟩<;>rw[this] at ar<;>cases ar
   rcases ar with ar | ⟨n,cs,ar,jz⟩
   ·exact .inl (by rw[g.same b ag]; exact ar)
   ·exact .inr ⟨n,cs,by rw[g.same b ag]; exact ar,jz⟩
  ·intro b k m ag hm;exact⟨by rw[g.same b (aM b m hm)]; exact ag,hm⟩
 refine⟨e,fun b m hm=>?_,fun b bw m cD am dp hm b9 aA=>?_,fun b m am hm=>?_,g.fresh rel.fresh,rel.up,rel.size,fun b ag=>rel.lT b (Nat.le_trans g.n ag)⟩
 ·rw[g.same b (aM b m hm)];exact (rel.blk b m hm).ext e.toExt0 rfl
 ·rw[g.same b (aM b m hm)] at am;rw[g.same bw (aM bw cD b9)] at dp;exact rel.inj b bw m cD am dp hm b9 aA
 ·rw[g.same b (aM b m hm)] at am;exact rel.base b m am hm
theorem WV {K:Act->World->Prop} {Q:Exit->Act->World->Prop} {e:vu} {a:Act} {w:World} (ao:e≠.normal) (h:Q e.out a w) :Exit.then K Q e.out a w:=by
 cases e with
 | normal=>exact absurd rfl ao
 | exit id=>exact h
 | ret=>exact h
theorem YX {id:Nat} {Q:Exit->Act->World->Prop} {e:vu} {a:Act} {w:World} (ao:e≠.exit id) (h:Q e.out a w) :Exit.inBlock id Q e.out a w:=by
 cases e with
 | normal=>exact h
 | exit Ba=>
  have:Ba≠id:=fun aH=>ao (by rw[aH])
  simpa [Exit.inBlock,vu.out,this] using h
 | ret=>exact h
def OY (P:Program) (G:Nat->ad) :Prop:=
 ∀ {id:Nat} {ops:Array Oper} {N:Nat} {af:Nat->ad} {h:a6} {b7:Nat->ad} {h' : a6} (pre:Nat->Nat->Bool) (val:Nat->ad) (W:Nat->Bool) (cls:Nat->EX) (m:Nat) (ak:Nat->Nat) (ga sA:Nat->a6) (g0:Nat->Nat) (cells:Nat->List ad),
  tT ops pre->
  (∀ (i:Nat) (o:Oper),ops[i]? = some o->qf N o.dst=true)->
  o5 h (ga 0)->h'=ga m->(b7=fun t=>match kz ops t with | some i=>val i | none=>af t)->
  (∀ (i:Nat) (o:Oper),ops[i]? = some o->W i=true->cls i=.gT->∃ q,q<m/\ak q=i)->
  (∀ q,q<m->∃ o,ops[ak q]? = some o/\W (ak q)=true/\cls (ak q)=.gT)->
  (∀ q fS,q<m->fS<m->q<fS->pre (ak fS) (ak q)=true)->
  (∀ q fS,q<m->fS<m->ak q=ak fS->q=fS)->
  (∀ (i:Nat) (o:Oper),ops[i]? = some o->lv ops (nQ ops pre val af i o) o=some (W i))->
  (∀ (i:Nat) (o:Oper),ops[i]? = some o->W i=false->val i=jg)->
  (∀ (i:Nat) (o:Oper),ops[i]? = some o->W i=true->cls i=.pure->∀ k,Ag pre m ak i k->df P (ga k) (dR G (nQ ops pre val af i o)) o.op=some (.val (val i) (ga k)))->
  (∀ (i:Nat) (o:Oper),ops[i]? = some o->W i=true->cls i=.new->∃ mk,oc P (dR G (nQ ops pre val af i o)) o.op=some (cells i,mk)/\val i=mk (g0 i)/\h.n<=g0 i ∧
    ∀ k,Ag pre m ak i k->(ga k).f (g0 i)=.cells (cells i).length (cells i))->
  (∀ (i j:Nat) (o ck:Oper),ops[i]? = some o->ops[j]? = some ck->W i=true->W j=true->cls i=.new->cls j=.new->g0 i=g0 j->i=j)->
  (∀ (i:Nat) (o:Oper) (q:Nat),ops[i]? = some o->W i=true->cls i=.new->q<m->g0 i<(ga q).n\/(sA q).n<=g0 i)->
  (∀ q,q<m->o5 (sA q) (ga (q+1)))->
  (∀ (q:Nat) (o:Oper),q<m->ops[ak q]? = some o->xO P G (.op o.op (nQ ops pre val af (ak q) o) (ga q) (val (ak q)) (sA q)))->
  xO P G (.code (.region id ops true) N af h .normal b7 h')
theorem rn.ext {h ae:a6} (k:rn h ae) (w:World) (μ:cR) :dQ w h μ w ae μ:=by
 refine⟨⟨rfl,rfl,rfl,Nat.le_refl _,fun _ _ _=>rfl,?_,?_,?_,?_,Nat.le_of_eq k.n.symm,Nat.le_refl _⟩,fun _ _ hm=>hm⟩
 ·rintro r ⟨b,m,am,hm,rfl⟩;refine .inl ⟨b,m,?_,hm,rfl⟩;rcases k.blk b with ao | ⟨sz,cs,ah,_⟩
  ·rw[<-ao]; exact am
  ·rw[ah]; rfl
 ·intro b sz cs m ag hm;rcases k.blk b with ao | ⟨sz',cs',ah,bN | ⟨hW,CQ,_⟩⟩
  ·exact .inl ⟨cs,by rw[ao]; exact ag,hm⟩
  ·exact .inr (.inl bN)
  ·rw[ag] at ah; cases ah; exact .inl ⟨hW,CQ,hm⟩
 ·rintro b sz (ag | ⟨n,cs,ag,aM⟩)
  ·rcases k.blk b with ao | ⟨sz',cs',ah,_⟩
   ·exact .inl (ao.trans ag)
   ·rw[ag] at ah; cases ah
  ·rcases k.blk b with ao | ⟨sz',cs',ah,bN | ⟨hW,CQ,_⟩⟩
   ·exact .inr ⟨n,cs,by rw[ao]; exact ag,aM⟩
   ·exact .inl bN
   ·rw[ag] at ah; cases ah; exact .inr ⟨n,hW,CQ,aM⟩
 ·intro b kV m ag hm;rcases k.blk b with ao | ⟨sz',cs',ah,_⟩
  ·exact⟨by rw[ao]; exact ag,hm⟩
  ·rw[ah] at ag; cases ag
theorem rn.live {h ae:a6} (k:rn h ae) {b:Nat} (am:live (ae.f b)=true) :live (h.f b)=true:=by
 rcases k.blk b with ao | ⟨sz,cs,ah,_⟩
 ·rw[<-ao]; exact am
 ·rw[ah]; rfl
theorem rn.rg {R:Nat->Prop} {B:Nat} {w:World} {h ae:a6} {μ:cR} (rel:cc R B w h μ) (k:rn h ae) :∀ {c dk:ad},rm h ae c dk->∀ {v:Value},aS w R h μ c v->aS w R ae μ dk v:=by
 intro c dk aA
 induction aA with
 | same c=>intro v aw; exact aw.ext (k.ext w μ)
 | aI cs cs' am h aO=>
  intro v aw;cases aw with
  | aI _ vs gj h1 aw=>
   refine .aI cs' vs (by omega) h1 (fun j c' v aj fG=>?_);have aM:j<cs.length:=by rw[<-am]; exact (List.getElem?_eq_some_iff.1 aj).1
   exact aO j cs[j] c' (List.getElem?_eq_getElem aM) aj (aw j cs[j] v (List.getElem?_eq_getElem aM) fG)
 | vk z b off cap sz=>
  intro v aw;cases aw with
  | au _ _ _ _ _ _ cap' cs m ag hm am aq ah=>exact .fY z _ cap'
  | gX _ _ _ _ _ _ cap' a am ah ar=>exact .fY z _ cap'
  | ik _ _ _ _ a cs m ag hm=>exact .fY z a 0
 | au z b off len cap sz cs es ag bN am av cZ aw aO=>
  intro v aw;cases aw with
  | ik _ _ _ _ a hW m fm i6=>
   obtain rfl:=List.length_eq_zero_iff.1 am;exact .fY z a 0
  | gX _ _ _ _ _ _ cap' a am ah ar=>
   exfalso;rcases ar with ar | ⟨n,hW,ar,aM⟩
   ·rw[ag] at ar; cases ar
   ·rw[ag] at ar; cases ar; omega
  | au _ _ _ _ _ _ cap' hW m fm hm gk aq ah=>
   rw[ag] at fm; cases fm;have hblk:=rel.blk b m hm;rw[ag] at hblk;obtain⟨cb,cM,arr,t,gB,hw,az,aD,np⟩:=hblk;have c9:len<=cap':=by rcases ah with ⟨_,h⟩ | ⟨_,h,_⟩<;>omega
   have oL:Go.cf.live (h.f b)=true:=by rw[ag]; rfl
   have pk:R m.r:=rel.up _ (rel.base b m oL hm);have dY:¬ mF ae μ m.r:=by
    rintro⟨bw,cD,dp,b9,lb⟩;have:=rel.inj bw b cD m (k.live dp) oL b9 hm lb;subst this;rw[bN] at dp; cases dp
   subst am;have nY:∀ i j,i<es.length->j<z->∃ c v,cs[off+(i*z+j)]? = some c/\arr[m.s+(off+(i*z+j))]? = some v/\v.oneCell'=true/\aS w R h μ c v:=by
    intro i j ax aj;have aM:off+(i*z+j)<cs.length:=by
     have:i*z+z<=es.length*z:=by rw[<-Nat.succ_mul]; exact Nat.mul_le_mul_right _ ax
     omega
    obtain⟨v,h1,ae,al⟩:=np _ _ (List.getElem?_eq_getElem aM);exact⟨_,v,List.getElem?_eq_getElem aM,h1,ae,al⟩
   refine .cq z es m.r (m.s+off) cap' (fun i j=>(arr[m.s+(off+(i*z+j))]?).getD undef) c9 av (fun i j ax aj=>?_) (fun i e ao j c' aj=>?_)
   ·obtain⟨c,v,h1,ae,al,aE⟩:=nY i j ax aj;refine⟨?_,?_,pk,dY⟩
    ·simp only[World.cell?,hw,ae,Option.getD_some,Option.isSome_none];rw[show m.s+off+(i*z+j)=m.s+(off+(i*z+j)) by omega,ae]; rfl
    ·rw[ae]; exact al
   ·have ax:i<es.length:=(List.getElem?_eq_some_iff.1 ao).1;have qz:j<z:=by rw[<-av e (List.mem_of_getElem? ao)]; exact (List.getElem?_eq_some_iff.1 aj).1
    obtain⟨c,v,h1,ae,al,aE⟩:=nY i j ax qz;simp only[ae,Option.getD_some];exact aO i j e c c' ao aj h1 aE
theorem rn.rel {R:Nat->Prop} {B:Nat} {w:World} {h ae:a6} {μ:cR} (rel:cc R B w h μ) (k:rn h ae) :cc R B w ae μ:=by
 refine⟨?_,?_,?_,?_,rel.up,rel.size,?_⟩
 ·intro b m hm;have ag:=rel.blk b m hm;rcases k.blk b with ao | ⟨sz,cs,ah,bN | ⟨hW,CQ,bn,aw⟩⟩
  ·rw[ao]; exact ag.ext (k.ext w μ).toExt0 rfl
  ·rw[bN]; trivial
  ·rw[CQ];rw[ah] at ag;obtain⟨h1,gh,arr,t,gB,al,aE,aU,bz⟩:=ag;refine⟨by omega,gh,arr,t,gB,al,aE,aU,fun j dk aj=>?_⟩;have aM:j<cs.length:=by rw[<-bn]; exact (List.getElem?_eq_some_iff.1 aj).1
   obtain⟨v,aX,bg,a3⟩:=bz j cs[j] (List.getElem?_eq_getElem aM);exact⟨v,aX,bg,k.rg rel (aw j cs[j] dk (List.getElem?_eq_getElem aM) aj) a3⟩
 ·intro b bw m cD am dp hm b9 aA;exact rel.inj b bw m cD (k.live am) (k.live dp) hm b9 aA
 ·intro b m am hm;exact rel.base b m (k.live am) hm
 ·intro b ag;rw[k.n] at ag;rcases k.blk b with ao | ⟨sz,cs,ah,_⟩
  ·rw[ao]; exact rel.fresh b ag
  ·rw[rel.fresh b ag] at ah; cases ah
 ·intro b ag;rw[k.n] at ag;exact rel.lT b ag
theorem ajo (bN:OY P G) {j:J} (aj:dL P G j) :xO P G j:=by
 induction aj with
 | skip N af h=>exact⟨0,fun R B w μ a Q rel g s k=>wp_skip (k a w μ (.refl _ _ _) rel s)⟩
 | label l N af h=>exact⟨0,fun R B w μ a Q rel g s k=>wp_label (k a w μ (.refl _ _ _) rel s)⟩
 | ret N af h=>exact⟨0,fun R B w μ a Q rel g s k=>wp_ret (k a w μ (.refl _ _ _) rel s)⟩
 | exit id N af h=>exact⟨0,fun R B w μ a Q rel g s k=>wp_exit (k a w μ (.refl _ _ _) rel s)⟩
 | Wp h1 ae dq ic=>
  obtain⟨my,dq⟩:=dq;obtain⟨ny,ic⟩:=ic;exact⟨0,fun R B w μ a Q rel g s k=>wp_seq (pY.wp (dq R B w μ a _ rel g s fun aX bX hE aR fz fZ=>
   pY.wp (ic R B bX hE aX Q fz (g.ext aR) fZ fun bg w2 su bE fp ho=>k bg w2 su (aR.trans bE) fp ho)))⟩
 | N5 h1 ao dq=>
  obtain⟨my,dq⟩:=dq;exact⟨0,fun R B w μ a Q rel g s k=>wp_seq (pY.wp (dq R B w μ a _ rel g s fun aX bX hE aR fz fZ=>WV ao (k aX bX hE aR fz fZ)))⟩
 | cond ah h1 dq=>
  rename_i c x y N af h b e b7 h';obtain⟨my,dq⟩:=dq;refine⟨0,fun R B w μ a Q rel g s k=>?_⟩;have aw:=s.dR g c;rw[ah] at aw;cases GH:a.eval c<;>rw[GH] at aw<;>try (cases aw; done)
  cases aw;exact wp_cond GH (pY.wp (dq R B w μ a Q rel g s k))
 | Fg h1 ao dq=>
  obtain⟨my,dq⟩:=dq;exact⟨0,fun R B w μ a Q rel g s k=>wp_block (pY.wp (dq R B w μ a _ rel g s fun aX bX hE aR fz fZ=>YX ao (k aX bX hE aR fz fZ)))⟩
 | PJ h1 dq=>
  obtain⟨my,dq⟩:=dq;exact⟨0,fun R B w μ a Q rel g s k=>wp_block (pY.wp (dq R B w μ a _ rel g s fun aX bX hE aR fz fZ=>by
   simp only[vu.out,Exit.inBlock,if_true];exact k aX bX hE aR fz fZ))⟩
 | Bk h1 ae dq ic=>
  obtain⟨my,dq⟩:=dq;obtain⟨ny,ic⟩:=ic;exact⟨ny+1,fun R B w μ a Q rel g s k=>pY.wp (dq R B w μ a _ rel g s fun aX bX hE aR fz fZ=>
   ic R B bX hE aX Q fz (g.ext aR) fZ fun bg w2 su bE fp ho=>k bg w2 su (aR.trans bE) fp ho)⟩
 | MK h1 ao dq=>
  obtain⟨my,dq⟩:=dq;exact⟨1,fun R B w μ a Q rel g s k=>pY.wp (dq R B w μ a _ rel g s fun aX bX hE aR fz fZ=>WV ao (k aX bX hE aR fz fZ))⟩
 | scope h1 dq=>
  obtain⟨my,dq⟩:=dq;rename_i c N af h e b7 h';refine⟨0,fun R B w μ a Q rel g s k=>wp_scope_straight (pY.wp (dq R B w μ a _ rel g s fun aX bX hE aR fz fZ=>?_))⟩;have:=k aX bX hE aR fz fZ;cases e<;>exact this
 | region h1 dq=>exact⟨0,fun R B w μ a Q rel g s k=>wp_region_list (dq R B w μ a Q rel g s k)⟩
 | draw pre val W cls m ak ga sA g0 cells hR qu aB hm Ho ys C6 n4 e2 wQ AY G6 mi Gt Gu qy hr aO=>
  exact bN pre val W cls m ak ga sA g0 cells hR qu aB hm Ho ys C6 n4 e2 wQ AY G6 mi Gt Gu qy aO
 | UO=>exact fun R B w μ a Q rel g s k=>k a w μ (.refl _ _ _) rel s
 | UQ hw AE h1 dq=>
  intro R B w μ a Q rel g s k;have wQ:=OP (w:=w) (R:=R) (h:=_) (μ:=μ) (tmps:=a.tmps) hw (fun d _=>s.val d);unfold wpList;rw[if_neg (by rw[wQ]; simp)];exact dq R B w μ _ Q rel g (s.put AE OH) k
 | UP hw AE h1 ae dq ic=>
  intro R B w μ a Q rel g s k;have wQ:=OP (w:=w) (R:=R) (h:=_) (μ:=μ) (tmps:=a.tmps) hw (fun d _=>s.val d);unfold wpList;rw[if_pos wQ];refine .inl (dq R B w μ a _ _ Q rfl rel g (s.dR g) fun a8 bX hE aR fz aw=>?_);exact ic R B bX hE _ Q fz (g.ext aR) ((s.ext aR).put AE aw) fun bg w2 su bE fp ho=>k bg w2 su (aR.trans bE) fp ho
 | H6 ak=>
  intro R B w μ a o K Q aq rel g dj k;subst aq;have:=Og (P:=P) rel dj o ak;obtain⟨v,w',μ',aA,e,r,aw⟩:=this;unfold Oper.wp;rcases aA with aA | ⟨aA,rfl⟩
  ·rw[aA]; exact k v w' μ' e r aw
  ·rw[aA]; exact k undef w' μ' e r aw
 | Bv ak h1 dq=>
  intro R B w μ a o K Q aq rel g dj k;subst aq;obtain⟨rfl,vs,aA,am,aw⟩:=Og (P:=P) rel dj o ak;unfold Oper.wp;rw[aA];refine (dq R B w μ vs rel g am aw).mono ?_;rintro e w' ⟨v,μ',rfl,aR,fz,mq⟩;exact k v w' μ' aR fz mq
 | IX h1 lx aw dq=>
  intro R B w μ a o K Q aq rel g dj k;refine dq R B w μ a o K Q aq rel g dj fun a8 w' μ' e r uS=>?_
  exact k a8 w' μ' (e.trans (lx.ext w' μ')) (lx.rel r) (lx.rg r aw uS)
 | inline aD ag h1 ao aA dq=>
  rename_i f fn c args h e b7 h' r;obtain⟨my,dq⟩:=dq;intro R B w μ vs rel g am aw;refine calls_of_wp aD ag (pY.wp (dq R B w μ _ _ rel g ⟨by simp[am],rfl,fun t=>?_⟩ fun aX bX hE aR fz fZ=>?_))
  ·by_cases aJ:t<args.length
   ·have az:args.getD t jg=args[t] :=by simp[List.getD,aJ]
    have nv:(vs++Array.replicate (fn.ntmps - vs.size) undef).getD t undef=vs[t] :=by
     rw[Array.getD_eq_getD_getElem?,Array.getElem?_append_left (by omega)];simp[show t<vs.size by omega]
    rw[az,nv];exact aw t _ _ (by simp[aJ]) (by simp)
   ·have az:args.getD t jg=jg:=by simp[List.getD,List.getElem?_eq_none (by omega:args.length<=t)]
    have nv:(vs++Array.replicate (fn.ntmps - vs.size) undef).getD t undef=undef:=by
     rw[Array.getD_eq_getD_getElem?,Array.getElem?_append_right (by omega),Array.getElem?_replicate];split<;>rfl
    rw[az,nv];exact OH
  ·obtain⟨v,ce,bI⟩:=air fz fZ aA;have aot:fZ.defers=fZ.defers:=rfl;rcases ao with rfl | rfl
   ·exact⟨fZ.defers,v,ce,v,hE,rfl,aR,fz,bI⟩
   ·exact⟨fZ.defers,v,ce,v,hE,rfl,aR,fz,bI⟩
 | pure aC ah=>exact ahi aC ah
 | Vm aC am aA aD=>exact ahg aC am aA aD
 | ext ak=>exact ak
 | Vn aC am aA=>exact ahh aC am aA
end

end Go.cf

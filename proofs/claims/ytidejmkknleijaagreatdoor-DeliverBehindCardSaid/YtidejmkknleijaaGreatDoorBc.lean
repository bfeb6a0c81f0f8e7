/-
  The canonical machine, part Im: maps, strings rune by rune, bytes compared.
-/
import Derived.Test.YtidejmkknleijaaGreatDoorBb
import Derived.Stop.SameAnswer
import Derived.Orders
import Derived.Still
import Derived.Scope
import Derived.LoopN
set_option linter.unusedVariables false
set_option linter.unusedSimpArgs false
set_option linter.unnecessarySimpa false
namespace Go.b0
open Go
section
variable {P:Program} {w:World} {R:Nat->Prop} {B:Nat} {h:aN} {μ:ck}
def vc:U->Value
 | .bool b=>.bool b
 | .int k n=>.int k n
 | .str s=>.string ⟨s.toArray⟩
 | _=>.tuple #[]
def zm:U->Value
 | .aF cs=>.agg (cs.map vc).toArray
 | c=>vc c
theorem akl {c:U} {v:Value} (av:wV c=true) (ap:aO w R h μ c v) :v=vc c:=by
 cases c<;>simp[wV] at av
 ·cases ap; rfl
 ·cases ap; rfl
 ·cases ap;rename_i bs;show Value.string bs=.string ⟨bs.data.toList.toArray⟩;congr 1
theorem HV {t:TypeId} {c:U} (aE:l4 P t c=true) :∃ cs m,c=.aF cs/\uO P 8 t=true/\eJ P t=some true/\cz P t=some m/\cs.length=m/\∀ x∈cs,wV x=true:=by
 unfold l4 at aE;split at aE
 ·rename_i cs;simp only[aus] at aE;obtain⟨⟨ad,ae⟩,aj⟩:=aE;split at ae
  ·rename_i m aC ak;exact⟨cs,m,rfl,ad,aC,ak,auW ae,fun x af=>ava.1 aj x af⟩
  ·cases ae
 ·cases aE
theorem MS {t:TypeId} {c:U} {v:Value} (aE:l4 P t c=true) (ap:aO w R h μ c v) :v=zm c:=by
 obtain⟨cs,m,rfl,_,_,_,_,hint⟩:=HV aE;cases ap with
 | aF _ vs al ad ap=>
  show Value.agg vs=.agg (cs.map vc).toArray;congr 1;apply Array.ext_getElem?;intro j;have af:(cs.map vc).toArray[j]? = (cs[j]?).map vc:=by simp
  rw[af];cases ai:cs[j]? with
  | none=>simp only[Option.map_none]; rw[awl]; rw[al]; exact aww.1 ai
  | some c=>
   have aL:=(auk.1 ai).1;have m7:=ap j c vs[j] ai (avs (by omega));rw[avs (by omega)];simp only[auv,Option.some.injEq];exact akl (hint c (aut ai)) m7
theorem aa8 (a:ByteArray) :(a == a)=true:=by
 show (a.data == a.data)=true;exact beq_self_eq_true _
theorem alN {c:U} (n:Nat) (ah:wV c=true) :Instr.sameBits n (vc c) (vc c)=true:=by
 cases c<;>simp[wV] at ah<;>unfold vc Instr.sameBits
 ·simp
 ·simp
 ·exact aa8 _
theorem alM {t:TypeId} {c:U} (n:Nat) (aE:l4 P t c=true) :Instr.sameBits (n+1) (zm c) (zm c)=true:=by
 obtain⟨cs,m,rfl,_,_,_,_,hint⟩:=HV aE;unfold zm Instr.sameBits;simp only[beq_self_eq_true,avR,ava];rintro⟨x,y⟩ l0;rw[aur] at l0;obtain⟨j,ai⟩:=l0;rw[avB] at ai;obtain⟨ad,ae⟩:=ai;rw[ad] at ae; cases ae;simp only[auq,Option.map_eq_some_iff] at ad;obtain⟨c,ah,rfl⟩:=ad;exact alN n (hint c (aut ah))
theorem alE {t:TypeId} {c:U} (aE:l4 P t c=true) :(Instr.keyThatStays (zm c) (zm c)).run P w=.ok (zm c) w:=by
 unfold Instr.keyThatStays;rw[if_pos (alM 9999 aE)];simp
theorem Ku {α:Type} {f:α->PUnit->Sem (ForInStep PUnit)}:∀ (l:List α),(∀ x∈l,(f x ⟨⟩).run P w=.ok (.yield ⟨⟩) w)->(forIn l ⟨⟩ f).run P w=.ok ⟨⟩ w
 | [],_=>by simp
 | x::l,aE=>by
  rw[List.forIn_cons];simp only[Sem.run_bind,aE x (by simp),Result.andThen_ok];exact Ku l (fun y aJ=>aE y (by simp[aJ]))
theorem NY (em:Bool) :∀ (d n:Nat) (t:TypeId) (c:U) (v:Value),d<=n->uO P d t=true->aO w R h μ c v->(eJ P t=some true->∃ cs m,c=.aF cs/\cz P t=some m/\cs.length=m)->
  (Instr.checkKey em n t v).run P w=.ok () w
 | 0,_,_,_,_,_,ar,_,_=>by simp[uO] at ar
 | d+1,0,_,_,_,aD,_,_,_=>by omega
 | d+1,n+1,t,c,v,aD,ar,ap,aC=>by
  unfold uO at ar;split at ar
  ·rename_i aM; cases v<;>simp[Instr.checkKey,cx aM]
  ·rename_i aM; cases v<;>simp[Instr.checkKey,cx aM]
  ·rename_i aM; cases v<;>simp[Instr.checkKey,cx aM]
  ·rename_i len e m aM hm;have KV:eJ P t=some true:=by unfold eJ; rw[aM]; rfl
   obtain⟨cs,cm,rfl,bW,al⟩:=aC KV;rw[hm] at bW; cases bW;simp only[aus] at ar;obtain⟨lU,lX⟩:=ar;split at lX
   ·rename_i z a ax KY;simp only[aus] at lX;have dO:=avq lX.1;have qp:=avq lX.2;obtain⟨vs,rfl,az⟩:=vw ap;unfold Instr.checkKey;simp only[Sem.run_bind,cx aM,Result.andThen_ok];rw[Std.Legacy.Range.forIn_eq_forIn_range'];rw[Ku]
    ·simp
    intro i ay;have dH:i<len:=by simp[Std.Legacy.Range.size] at ay; omega
    have afn:i*z+z<=cs.length:=by
     have:i*z+z<=len*z:=by rw[<-au2]; exact aup _ dH
     omega
    have av:∃ c,iq P e cs (i*z)=some c/\(eJ P e=some true->∃ cs' cm,c=.aF cs'/\cz P e=some cm/\cs'.length=cm) :=by
     unfold iq;rw[KY,ax];cases a with
     | true=>exact⟨_,by simp only; rw[if_pos afn],fun _=>⟨_,z,rfl,rfl,by simp; omega⟩⟩
     | false=>exact⟨cs[i*z]'(by omega),by simp only; exact auo (by omega),fun h=>by cases h⟩
    obtain⟨c,ah,rk⟩:=av;obtain⟨u,aj,aG⟩:=wU (P:=P) ah az;simp only[Sem.run_bind,fK ax,Result.andThen_ok,aj w];rw[NY em d n e c u (by omega) lU aG rk];simp
   ·cases lX
  ·rename_i fs m aM hm;have KV:eJ P t=some true:=by unfold eJ; rw[aM]; rfl
   obtain⟨cs,cm,rfl,bW,al⟩:=aC KV;rw[hm] at bW; cases bW;obtain⟨vs,rfl,az⟩:=vw ap;unfold Instr.checkKey;simp only[Sem.run_bind,cx aM,Result.andThen_ok];rw[<-Array.forIn_toList,Ku]
   ·simp
   intro f aE;have Hc:=ava.1 ar f aE;simp only[aus] at Hc;obtain⟨lU,lX⟩:=Hc;split at lX
   ·rename_i z a ax KY;simp only[aus] at lX;have dO:=avq lX.1;have qp:=avq lX.2;have av:∃ c,iq P f.type cs f.offset=some c/\(eJ P f.type=some true->∃ cs' cm,c=.aF cs'/\cz P f.type=some cm/\cs'.length=cm) :=by
     unfold iq;rw[KY,ax];cases a with
     | true=>exact⟨_,by simp only; rw[if_pos (by omega)],fun _=>⟨_,z,rfl,rfl,by simp; omega⟩⟩
     | false=>exact⟨cs[f.offset]'(by omega),by simp only; exact auo (by omega),fun h=>by cases h⟩
    obtain⟨c,ah,rk⟩:=av;obtain⟨u,aj,aG⟩:=wU (P:=P) ah az;have:=NY em d n f.type c u (by omega) lU aG rk;by_cases sN:f.name= "_"
    ·simp[sN]
    ·simp[sN,aj w,this]
   ·cases lX
  ·cases ar
theorem XZ {t:TypeId} {c:U} {v:Value} (em:Bool) (aE:l4 P t c=true) (ap:aO w R h μ c v) :(Instr.checkKey em 10000 t v).run P w=.ok () w:=by
 obtain⟨cs,m,rfl,ad,ae,aj,aG,_⟩:=HV aE;exact NY em 8 10000 t _ v (by omega) ad ap (fun _=>⟨cs,m,rfl,aj,aG⟩)
def tB (w:World) (R:Nat->Prop) (h:aN) (μ:ck) (es:List (U × U × Nat)) (dT:List MapEntry) :Prop:=
 dT.length=es.length/\∀ (j:Nat) (k v:U) (b:Nat),es[j]? = some (k,v,b)->∃ x:MapEntry,dT[j]? = some x/\aO w R h μ k x.key/\aO w R h μ v x.val/\x.born=b
def O7 (w:World) (R:Nat->Prop) (h:aN) (μ:ck) (k:U) (dT:List MapEntry) (i:Nat) :Option (Nat × U)->Option (Nat × Value)->Prop
 | none,r=>r=none
 | some (j,v),r=>∃ pI,r=some (j,pI)/\aO w R h μ v pI/\i<=j/\∃ x,dT[j - i]? = some x/\x.val=pI/\aO w R h μ k x.key
theorem acq {es:List (U × U × Nat)} {e:U × U × Nat} {x:MapEntry} {dT:List MapEntry} (az:tB w R h μ (e::es) (x::dT)) :tB w R h μ es dT:=
 ⟨by have:=az.1; simp at this; exact this,fun j k v b ai=>az.2 (j+1) k v b (by simpa using ai)⟩
theorem acp {es:List (U × U × Nat)} {k v:U} {b:Nat} {x:MapEntry} {dT:List MapEntry} (az:tB w R h μ ((k,v,b) ::es) (x::dT)) :aO w R h μ k x.key/\aO w R h μ v x.val/\x.born=b:=by
 obtain⟨y,ad,ae⟩:=az.2 0 k v b rfl;simp at ad; subst ad; exact ae
theorem Sy {cP:TypeId} {k:U} {ip:Value} (ar:aO w R h μ k ip) :∀ (es:List (U × U × Nat)) (dT:List MapEntry) (i:Nat) (r:Option (Nat × U)),tB w R h μ es dT->lf P cP k es i=some r->
  ∃ cB,(Instr.findAsking cP ip dT i).run P w=.ok cB w/\O7 w R h μ k dT i r cB
 | [],dT,i,r,az,aE=>by
  have:dT=[] :=au4.1 az.1;subst this;simp only[lf,Option.some.injEq] at aE; subst aE;exact⟨none,by simp[Instr.findAsking],rfl⟩
 | (k',v,b) ::es,[],i,r,az,aE=>by have:=az.1; simp at this
 | (k',v,b) ::es,x::dT,i,r,az,aE=>by
  obtain⟨ad,ae,aj⟩:=acp az;simp only[lf] at aE;split at aE
  ·cases aE
  rename_i eC;split at aE
  ·rename_i heq;split at aE
   ·rename_i aem;simp only[Option.some.injEq] at aE; subst aE;have fQ:=Kk (P:=P) 10000 cP k k' true ip x.key heq ar ad;refine⟨some (i,x.val),?_,x.val,rfl,ae,aun _,x,by simp,rfl,?_⟩
    ·simp only[Instr.findAsking,Op.equal,Op.maxDepth,Sem.run_bind];rw[fQ]; simp
    ·rw[U.beq_eq aem]; exact ad
   ·cases aE
  ·rename_i heq;have fQ:=Kk (P:=P) 10000 cP k k' false ip x.key heq ar ad;obtain⟨cB,aG,bh⟩:=Sy ar es dT (i+1) r (acq az) aE;refine⟨cB,?_,?_⟩
   ·simp only[Instr.findAsking,Op.equal,Op.maxDepth,Sem.run_bind];rw[fQ]; simpa using aG
   ·cases r with
    | none=>exact bh
    | some wC=>
     obtain⟨pI,bF,dz,g0,y,gP,lh,x7⟩:=bh;exact⟨pI,bF,dz,by omega,y,by rw[show wC.1 - i=(wC.1 - (i+1))+1 by omega]; simpa using gP,lh,x7⟩
  ·cases aE
theorem X1 {cP:TypeId} {k:U} {ip:Value} (ar:aO w R h μ k ip) (aE:l4 P cP k=true) {es:List (U × U × Nat)} {dT:List MapEntry} {r:Option (Nat × U)} (az:tB w R h μ es dT) (Ld:lf P cP k es 0=some r) :
  ∃ cB,(Instr.findKey cP ip dT).run P w=.ok cB w/\O7 w R h μ k dT 0 r cB:=by
 obtain⟨cB,ad,ae⟩:=Sy ar es dT 0 r az Ld;refine⟨cB,?_,ae⟩;obtain⟨cs,m,rfl,aj,aG,_⟩:=HV aE;unfold eJ at aG;cases aM:P.underlying cP with
 | none=>rw[aM] at aG; cases aG
 | some d=>
  rw[aM] at aG;unfold Instr.findKey;simp only[Sem.run_bind,cx aM,Result.andThen_ok];cases dT with
  | nil=>simpa [Instr.findNow,Instr.findAsking] using ad
  | cons x dT=>
   have aD:Instr.findNow d ip (x::dT) 0=none:=by
    cases d<;>simp at aG<;>simp[Instr.findNow,Instr.sameNow]
   rw[aD];exact ad
theorem aiY (rel:bN R B w h μ) {m:U} {fR:Value} {es:List (U × U × Nat)} (hm:mapOf h m=some es) (ap:aO w R h μ m fR) :
  (fR=.map none/\es=[])\/∃ b cf eh dT,m=.mp b/\h.f b=.map es eh/\μ b=some cf/\fR=.map (some cf.r)/\w.heap[cf.r]? = some (.map dT eh)/\tB w R h μ es dT.toList:=by
 cases m<;>simp[mapOf] at hm
 ·subst hm; cases ap; exact .inl ⟨rfl,rfl⟩
 ·rename_i b;cases ap with
  | mp _ cf ag nK=>
   cases ah:h.f b<;>rw[ah] at hm<;>simp at hm;rename_i apv eh;subst hm;have iI:=rel.blk b cf nK;rw[ah] at iI;obtain⟨dT,ad,ae,aj⟩:=iI;refine .inr ⟨b,cf,eh,dT,rfl,ah,nK,rfl,ad,by simpa using ae,fun j k v bg ai=>?_⟩;obtain⟨x,aG,bh⟩:=aj j k v bg ai;exact⟨x,by simpa using aG,bh⟩
theorem NZ {r:Nat} {es:Array MapEntry} {eh:Nat} (ag:w.heap[r]? = some (.map es eh)) :(getObj r).run P w=.ok (.map es eh) w:=by simp[getObj,Sem.run,ag]
theorem X2 {r:Nat} {s:ByteArray} {pos:Nat} (ag:w.heap[r]? = some (.stringIter s pos)) :(getObj r).run P w=.ok (.stringIter s pos) w:=by simp[getObj,Sem.run,ag]
theorem ZK {t:TypeId} {z:U} (ax:zx P t=some z) :∃ v,(zeroValue t).run P w=.ok v w/\aO w R h μ z v:=by
 unfold zx at ax;cases ay:P.info? t with
 | none=>rw[ay] at ax; cases ax
 | some i=>
  rw[ay] at ax;simp only[av8] at ax;cases ap:i.zero with
  | none=>rw[ap] at ax; cases ax
  | some v=>
   rw[ap] at ax;simp only[auv,Option.some.injEq] at ax; subst ax;exact⟨v,X5 ay ap,.wR v⟩
theorem aO.YY {a b:U} {iF fm:Value} (aC:aO w R h μ a iF) (ag:aO w R h μ b fm) :aO w R h μ (.bt [a,b]) (.tuple #[iF,fm]) :=by
 refine .bt _ _ rfl fun j c v ah ap=>?_
 rcases j with _ | _ | j
 ·simp at ah ap; subst ah ap; exact aC
 ·simp at ah ap; subst ah ap; exact ag
 ·simp at ah
theorem aiE (rel:bN R B w h μ) {t:TypeId} {m k c:U} {fR ip:Value} {ok:Bool} (al:H0 P h t m k ok=some c) (hm:aO w R h μ m fR) (ar:aO w R h μ k ip) :
  ∃ v,(Instr.lookup t fR ip ok).run P w=.ok v w/\aO w R h μ c v:=by
 unfold H0 at al;split at al
 ·rename_i cP mV es aM DG;split at al
  ·cases al
  ·rename_i eC;have abN:∀ dT:List MapEntry,tB w R h μ es dT->∃ cB,(Instr.findKey cP ip dT).run P w=.ok cB w ∧
     ((∃ i v,cB=some (i,v)/\∃ xV,aO w R h μ xV v/\c=if ok then .bt [xV,.bool true] else xV)\/(cB=none/\∃ z,zx P mV=some z/\c=if ok then .bt [z,.bool false] else z)) :=by
    intro dT az;cases lT:lf P cP k es 0 with
    | none=>rw[lT] at al; cases al
    | some r=>
     obtain⟨cB,ad,ae⟩:=X1 ar eC az lT;rw[lT] at al;refine⟨cB,ad,?_⟩;cases r with
     | none=>
      cases ae;simp only at al;cases ax:zx P mV with
      | none=>rw[ax] at al; cases al
      | some z=>
       rw[ax] at al;simp only[auv,Option.some.injEq] at al;exact .inr ⟨rfl,z,rfl,al.symm⟩
     | some wC=>
      obtain⟨pI,rfl,aG,_⟩:=ae;simp only[Option.some.injEq] at al;exact .inl ⟨_,pI,rfl,_,aG,al.symm⟩
   have fin:∀ (dT:List MapEntry) (em:Bool),tB w R h μ es dT->∀ m:Sem Value,m.run P w=(((Instr.checkKey em 10000 cP ip).bind fun _=>(Instr.findKey cP ip dT).bind fun r=>match r with
     | some (_,v)=>pure (if ok=true then .tuple #[v,.bool true] else v)
     | none=>(zeroValue mV).bind fun z=>pure (if ok=true then .tuple #[z,.bool false] else z)) :Sem Value).run P w->∃ v,m.run P w=.ok v w/\aO w R h μ c v:=by
    intro dT em az m hm;obtain⟨cB,ad,ae⟩:=abN dT az;have GK:∀ {α kj:Type} (a:Sem α) (f:α->Sem kj),a.bind f=a >>= f:=fun _ _=>rfl
    simp only[GK,Sem.run_bind,XZ em eC ar,Result.andThen_ok,ad] at hm;rcases ae with ⟨i,v,rfl,xV,aj,rfl⟩ | ⟨rfl,z,aj,rfl⟩
    ·simp only at hm;cases ok
     ·exact⟨v,by simpa using hm,aj⟩
     ·exact⟨.tuple #[v,.bool true],by simpa using hm,aO.YY aj (.bool _)⟩
    ·obtain⟨v,aG,bh⟩:=ZK (w:=w) (R:=R) (h:=h) (μ:=μ) aj;simp only[Sem.run_bind,aG,Result.andThen_ok] at hm;cases ok
     ·exact⟨v,by simpa using hm,bh⟩
     ·exact⟨.tuple #[v,.bool false],by simpa using hm,aO.YY bh (.bool _)⟩
   have GK:∀ {α kj:Type} (a:Sem α) (f:α->Sem kj),a.bind f=a >>= f:=fun _ _=>rfl
   rcases aiY rel DG hm with ⟨rfl,rfl⟩ | ⟨b,cf,eh,dT,rfl,ag,nK,rfl,mn,az⟩
   ·refine fin [] true ⟨rfl,fun j k v b ai=>by simp at ai⟩ _ ?_;unfold Instr.lookup;simp only[GK,Sem.run_bind,cx aM,Result.andThen_ok,Sem.run_pure];cases ei:(Instr.checkKey true 10000 cP ip).run P w with
    | halt a b=>simp[ei]
    | ok a bL=>
     simp[ei];cases aeW:(Instr.findKey cP ip []).run P bL with
     | halt a b=>simp
     | ok r w2=>
      simp;cases r with
      | none=>cases (zeroValue mV).run P w2<;>simp
      | some x=>simp
   ·refine fin dT.toList dT.isEmpty az _ ?_;unfold Instr.lookup;simp only[GK,Sem.run_bind,cx aM,Result.andThen_ok,Sem.run_pure,NZ mn];cases ei:(Instr.checkKey dT.isEmpty 10000 cP ip).run P w with
    | halt a b=>simp[ei]
    | ok a bL=>
     simp[ei];cases aeW:(Instr.findKey cP ip dT.toList).run P bL with
     | halt a b=>simp
     | ok r w2=>
      simp;cases r with
      | none=>cases (zeroValue mV).run P w2<;>simp
      | some x=>simp
 ·cases al
theorem aiv (rel:bN R B w h μ) {t ty:TypeId} {x c:U} {bE:Value} (ah:yT P h t x=some c) (af:aO w R h μ x bE) :∃ v,(Builtin.len_ #[t] ty #[bE]).run P w=.ok v w/\aO w R h μ c v:=by
 unfold yT at ah;split at ah
 ·rename_i cP mV b aM;split at ah
  ·rename_i es eh ag;simp only[Option.some.injEq] at ah; subst ah;cases af with
   | mp _ cf ar nK=>
    have iI:=rel.blk b cf nK;rw[ag] at iI;obtain⟨dT,ad,ae,aj⟩:=iI;exact⟨.int .i64 dT.size,by simp[Builtin.len_,cx aM,NZ ad,goInt],by rw[ae]; exact .int _ _⟩
  ·cases ah
 ·cases ah
theorem aiW (rel:bN R B w h μ) {t:TypeId} {r:Option Value} (aM:∃ k e,P.underlying t=some (.map k e)) (az:∀ x,r=some x->∃ k n,x=.int k n) :∃ v w' μ',(Instr.makeMap t r).run P w=.ok v w'/\df w h μ w' (h.push (.map [] 0)) μ'/\bN R B w' (h.push (.map [] 0)) μ'/\aO w' R (h.push (.map [] 0)) μ' (.mp h.n) v:=by
 have:=rel.Xh (w':=w.alloc (.map #[] 0)) (.map [] 0) (.map #[] 0) (k:=0) rfl rfl rfl rfl rfl ⟨#[],by show (w.heap.push _)[w.heap.size]? = _; simp,rfl,fun j k v b ai=>by simp at ai⟩;refine⟨.map (some w.heap.size),w.alloc (.map #[] 0),_,?_,this.1,this.2,?_⟩
 ·obtain⟨k,e,aM⟩:=aM;cases r with
  | none=>simp[Instr.makeMap,newObj,Sem.run]
  | some x=>
   obtain⟨k',n,rfl⟩:=az x rfl;simp[Instr.makeMap,newObj,Sem.run,cx aM,Go.asInt,Go.asIntOf]
 ·exact .mp h.n ⟨w.heap.size,0,0⟩ (by simp[er,oM]) (by simp)
theorem Wi (rel:bN R B w h μ) {t:TypeId} {m k x:U} {fR ip bE:Value} {h' : aN} (oE:yY P h t m k x=some h') (hm:aO w R h μ m fR) (ar:aO w R h μ k ip) (af:aO w R h μ x bE) :
  ∃ w',(Instr.mapUpdate t fR ip bE).run P w=.ok () w'/\df w h μ w' h' μ/\bN R B w' h' μ:=by
 unfold yY at oE;split at oE
 ·rename_i cP mV b aM;split at oE
  ·rename_i es eh ag;split at oE
   ·cases oE
   ·rename_i eC;cases hm with
    | mp _ cf afv nK=>
     have iI:=rel.blk b cf nK;rw[ag] at iI;obtain⟨dT,ad,ae,aj⟩:=iI;have aL:cf.r<w.heap.size:=by
      rcases avy cf.r w.heap.size with h | h
      ·exact h
      ·rw[awl h] at ad; cases ad
     have az:tB w R h μ es dT.toList:=⟨by simpa using ae,fun j k v bg ai=>by obtain⟨y,aG,bh⟩:=aj j k v bg ai; exact⟨y,by simpa using aG,bh⟩⟩
     have lr:∀ o:Obj,(setObj cf.r o).run P w=.ok () { w with heap:=w.heap.setIfInBounds cf.r o }:=fun o=>by simp[setObj,Sem.run,ad]
     have UK:∀ (CA:List (U × U × Nat)) (z6:Array MapEntry) (Cl:Nat),(∀ {w2:World} {ae:aN},Ext0 w h μ w2 ae μ->z6.size=CA.length/\∀ (j:Nat) (k v:U) (b:Nat),CA[j]? = some (k,v,b)->∃ x:MapEntry,z6[j]? = some x/\aO w2 R ae μ k x.key/\aO w2 R ae μ v x.val/\x.born=b)->
       df w h μ { w with heap:=w.heap.setIfInBounds cf.r (.map z6 Cl) } (h.set b (.map CA Cl)) μ/\bN R B { w with heap:=w.heap.setIfInBounds cf.r (.map z6 Cl) } (h.set b (.map CA Cl)) μ:=by
      intro CA z6 Cl a7;refine rel.Xl (k:=0) ag rfl rfl nK rfl rfl rfl (by simp) (fun k ar=>?_) (fun e=>?_)
      ·simp only; rw[avD]; rw[if_neg (fun aS=>ar aS.symm)]
      ·obtain⟨q1,cV⟩:=a7 e;exact⟨z6,by simp only; rw[avD]; simp[aL],q1,cV⟩
     unfold Instr.mapUpdate;simp only[Sem.run_bind,cx aM,Result.andThen_ok,NZ ad,XZ false eC ar];cases lT:lf P cP k es 0 with
     | none=>rw[lT] at oE; cases oE
     | some r=>
      rw[lT] at oE;obtain⟨cB,aG,bh⟩:=X1 ar eC az lT;rw[aG];cases r with
      | none=>
       cases bh;simp only[Option.some.injEq] at oE; subst oE;have:=UK (es++[(k,x,eh)]) (dT.push { key:=ip,val:=bE,born:=eh }) (eh+1) (fun e=>⟨by simp[ae],fun j k' a6 bg ai=>?_⟩)
       ·exact⟨_,by simp only[Result.andThen_ok]; rw[lr],this⟩
       ·rw[Array.getElem?_push];by_cases eK:j<es.length
        ·rw[aum eK] at ai;obtain⟨y,bF,dz,g0,gP⟩:=aj j k' a6 bg ai;exact⟨y,by rw[if_neg (by omega)]; exact bF,dz.mW e,g0.mW e,gP⟩
        ·rw[auJ (by omega)] at ai;have yo:j - es.length=0:=by
          rcases Nat.eq_zero_or_pos (j - es.length) with h | h
          ·exact h
          ·rw[auC (by simp; omega)] at ai; cases ai
         rw[yo] at ai;simp at ai;obtain⟨rfl,rfl,rfl⟩:=ai;exact⟨_,by rw[if_pos (by omega)],ar.mW e,af.mW e,rfl⟩
      | some wC=>
       obtain⟨i,v⟩:=wC;obtain⟨pI,rfl,bF,_,y,dz,g0,gP⟩:=bh;simp only[Option.some.injEq] at oE; subst oE;have rg:dT[i]? = some y:=by simpa using dz
       have aP:y.key=ip:=by rw[MS eC gP,MS eC ar]
       have sH:(Instr.keyThatStays (((dT[i]?).map (·.key)).getD ip) ip).run P w=.ok ip w:=by
        rw[rg];simp only[auv,au6,aP];rw[MS eC ar];exact alE eC
       have:=UK (es.modify i fun e=>(k,x,e.2.2)) (dT.modify i fun e=>{ e with key:=ip,val:=bE }) eh (fun e=>⟨by simp[ae],fun j k' a6 bg ai=>?_⟩)
       ·refine⟨_,?_,this⟩;simp only[Result.andThen_ok,Sem.run_bind,sH];rw[lr]
       ·rw[List.getElem?_modify] at ai;rw[Array.getElem?_modify];cases nG:es[j]? with
        | none=>rw[nG] at ai; simp at ai
        | some fu=>
         obtain⟨hu,tu,hL⟩:=fu;rw[nG] at ai;obtain⟨ZE,lh,x7,KA,CY⟩:=aj j hu tu hL nG;rw[lh];by_cases mo:i=j
         ·simp[mo] at ai;obtain⟨rfl,rfl,rfl⟩:=ai;exact⟨{ ZE with key:=ip,val:=bE },by simp[mo],ar.mW e,af.mW e,CY⟩
         ·simp[mo] at ai;obtain⟨rfl,rfl,rfl⟩:=ai;exact⟨ZE,by simp[mo],x7.mW e,KA.mW e,CY⟩
  ·cases oE
 ·cases oE
theorem ak8 (rel:bN R B w h μ) {t:TypeId} {x c:U} {bE:Value} {h' : aN} (az:Iw P h t x=some (c,h')) (af:aO w R h μ x bE) :
  ∃ v w' μ',(Instr.range t bE).run P w=.ok v w'/\df w h μ w' h' μ'/\bN R B w' h' μ'/\aO w' R h' μ' c v:=by
 unfold Iw at az;split at az
 ·rename_i s aM;simp only[Option.some.injEq,Prod.mk.injEq] at az;obtain⟨rfl,rfl⟩:=az;cases af;rename_i bs;have:=rel.Xh (w':=w.alloc (.stringIter bs 0)) (.iter bs.data.toList 0) (.stringIter bs 0) (k:=1) rfl rfl rfl rfl rfl ⟨bs,rfl,by show (w.heap.push _)[w.heap.size]? = _; simp⟩;refine⟨.pointer (some ⟨w.heap.size,0,none⟩),w.alloc (.stringIter bs 0),_,?_,this.1,this.2,?_⟩
  ·simp[Instr.range,cx aM,newObj,Sem.run]
  ·exact .it h.n ⟨w.heap.size,0,0⟩ (by simp[er,oM]) (by simp)
 ·cases az
theorem ajk (rel:bN R B w h μ) {x c:U} {bE:Value} {h' : aN} {ty:TypeId} (az:Be h x=some (c,h')) (af:aO w R h μ x bE) :
  ∃ v w',(Instr.next bE true ty).run P w=.ok v w'/\df w h μ w' h' μ/\bN R B w' h' μ/\aO w' R h' μ c v:=by
 unfold Be at az;split at az
 ·rename_i b;split at az
  ·rename_i s pos ag;cases af with
   | it _ cf afv nK=>
    have iI:=rel.blk b cf nK;rw[ag] at iI;obtain⟨bs,rfl,ad⟩:=iI;have aL:cf.r<w.heap.size:=by
     rcases avy cf.r w.heap.size with h | h
     ·exact h
     ·rw[awl h] at ad; cases ad
    have um:(⟨bs.data.toList.toArray⟩:ByteArray)=bs:=by cases bs; simp
    have h9:bs.data.toList.length=bs.size:=by rw[awd]; rfl
    rw[um] at az;split at az
    ·rename_i qh;have av:pos<bs.size:=by rw[<-h9]; rw[axq] at qh; exact qh
     simp only[Option.some.injEq,Prod.mk.injEq] at az;obtain⟨rfl,rfl⟩:=az;have:=rel.Xl (w':={ w with heap:=w.heap.setIfInBounds cf.r (.stringIter bs (pos+(Utf8.decode bs pos).2)) }) (k:=1) (c':=.iter bs.data.toList (pos+(Utf8.decode bs pos).2)) ag rfl rfl nK rfl rfl rfl (by simp)
      (fun k ar=>by simp only; rw[avD]; rw[if_neg (fun aS=>ar aS.symm)]) (fun e=>⟨bs,rfl,by simp only; rw[avD]; simp[aL]⟩)
     refine⟨.tuple #[.bool true,.int .i64 pos,.int .i32 (Utf8.decode bs pos).1],_,?_,this.1,this.2,?_⟩
     ·simp only[Instr.next,Sem.run_bind,X2 ad,Result.andThen_ok,if_pos av];simp[setObj,Sem.run,ad,goInt]
     ·refine .bt _ _ rfl fun j c v ah ap=>?_
      rcases j with _ | _ | _ | j
      ·simp at ah ap; subst ah ap; exact .bool _
      ·simp at ah ap; subst ah ap; exact .int _ _
      ·simp at ah ap; subst ah ap; exact .int _ _
      ·simp at ah
    ·rename_i qh;have av:¬ pos<bs.size:=by
      rw[<-h9]; intro aS;rw[<-axq] at aS; rw[aS] at qh; cases qh
     simp only[Option.some.injEq,Prod.mk.injEq] at az;obtain⟨rfl,rfl⟩:=az;refine⟨.tuple #[.bool false],w,?_,.refl _ _ _,rel,?_⟩
     ·simp only[Instr.next,Sem.run_bind,X2 ad,Result.andThen_ok,if_neg av];simp
     ·refine .bt _ _ rfl fun j c v ah ap=>?_
      rcases j with _ | j
      ·simp at ah ap; subst ah ap; exact .bool _
      ·simp at ah
  ·cases az
 ·cases az
theorem X0 {blk:Nat}:∀ (n:Nat) (o:Nat) (ns:List Int) (acc:ByteArray),ns.length=n->(∀ j v,(ns.map (Value.int .u8))[j]? = some v->(load (⟨blk,o+j,none⟩:Addr)).run P w=.ok v w)->
  ∃ bs,(Extern.Bytes.loadBytes ⟨blk,o,none⟩ n acc).run P w=.ok bs w/\bs.data.toList=acc.data.toList++ns.map fun n=>UInt8.ofNat n.toNat
 | 0,o,ns,acc,al,_=>⟨acc,by simp[Extern.Bytes.loadBytes],by rw[au4.1 al]; simp⟩
 | n+1,o,[],acc,al,_=>by simp at al
 | n+1,o,x::ns,acc,al,h=>by
  have aI:=h 0 _ rfl;obtain⟨bs,ad,ae⟩:=X0 n (o+1) ns (acc.push (UInt8.ofNat x.toNat)) (by simpa using al) (fun j v ai=>by
   have:=h (j+1) v (by simpa using ai);rw[show o+(j+1)=o+1+j by omega] at this;exact this)
  refine⟨bs,?_,?_⟩
  ·unfold Extern.Bytes.loadBytes;rw[awA] at aI;simp only[Sem.run_bind,aI,Result.andThen_ok,Addr.mN];exact ad
  ·rw[ae]; simp
theorem P9 (rel:bN R B w h μ) {x:U} {bE:Value} {l:List UInt8} (ag:sr h x=some l) (af:aO w R h μ x bE) :∃ bs,(Extern.Bytes.bytesOf bE).run P w=.ok bs w/\bs.data.toList=l:=by
 unfold sr at ag;split at ag
 ·simp only[Option.some.injEq] at ag; subst ag;cases af with
  | str bs=>exact⟨bs,by simp[Extern.Bytes.bytesOf],rfl⟩
 ·rename_i sO;split at ag
  ·rename_i cs n dJ;obtain⟨bd,bC,vs,cA,lT⟩:=vT (P:=P) rel dJ af;have aE:=lT n (aun _) w (fun _=>rfl);obtain⟨ns,rfl,rfl⟩:=JY cs vs l ag cA.1 cA.2;have kR:ns.length=n:=by have:=cA.1; simp at this; omega
   have DV:(ns.map (Value.int .u8)).take (n*1)=ns.map (Value.int .u8) :=aul (by simp; omega);rw[DV] at aE;have Le:∃ a len cap,bE=.slice a len cap:=by
    cases af<;>first | exact⟨_,_,_,rfl⟩ | (simp[contents] at dJ; done) | (exact absurd rfl (sO _))
   obtain⟨a,len,cap,rfl⟩:=Le;simp only[Builtin.lenOf,Sem.run_pure,Result.ok.injEq] at bC;obtain⟨rfl,_⟩:=bC;cases a with
   | none=>
    simp only[Builtin.firstCells,Sem.run_pure,Result.ok.injEq] at aE;have jm:ns=[] :=by
     have:=congrArg Array.toList aE.1;simpa using this.symm
    subst jm;exact⟨.empty,by simp[Extern.Bytes.bytesOf],rfl⟩
   | some a=>
    by_cases sK:len=0
    ·subst sK;have:ns=[] :=au4.1 kR;subst this;exact⟨.empty,by simp[Extern.Bytes.bytesOf,Extern.Bytes.loadBytes],rfl⟩
    have aC:∃ blk o,a=⟨blk,o,none⟩:=by
     cases af with
     | aq=>exact⟨_,_,rfl⟩
     | aZ=>exact⟨_,_,rfl⟩
     | gk=>exact absurd rfl sK
     | iV=>exact absurd rfl sK
     | bad=>simp[contents] at dJ
     | hI _ _ _ _ _ _ _ _ ad ae aw=>
      exfalso;simp only[contents] at dJ;rcases aw with aw | ⟨n,hO,aw,aL⟩
      ·rw[aw] at dJ; cases dJ
      ·rw[aw] at dJ;simp only at dJ;split at dJ
       ·rename_i aS; omega
       ·cases dJ
    obtain⟨blk,o,rfl⟩:=aC;simp only[Builtin.firstCells,avX] at aE;unfold loadCells at aE;obtain⟨l,ad,ae,aj⟩:=loadCellsFrom_ok _ _ _ _ _ _ aE;have aG:l=ns.map (Value.int .u8) :=by
     have:=congrArg Array.toList ae;simpa using this.symm
    subst aG;obtain⟨bs,bh,bF⟩:=X0 (P:=P) (w:=w) (blk:=blk) len o ns .empty kR (fun j v ai=>by
     have:=aj j v ai;rw[Addr.mN,avz] at this;exact this)
    exact⟨bs,by simpa [Extern.Bytes.bytesOf] using bh,by rw[bF]; rfl⟩
  ·cases ag
theorem RZ:∀ (a b:List UInt8),(match (List.range (min a.length b.length)).find? fun i=>a.getD i 0 != b.getD i 0 with
  | some i=>if a.getD i 0<b.getD i 0 then (-1:Int) else 1
  | none=>if a.length<b.length then -1 else if a.length > b.length then 1 else 0)=ol a b
 | [],[]=>by simp[ol]
 | [],_::_=>by simp[ol]
 | _::_,[]=>by simp[ol]
 | x::a,y::b=>by
  have aR:=RZ a b;simp only[auF,Nat.add_min_add_right,List.range_succ_eq_map,awP,List.getD_cons_zero];by_cases l0:x=y
  ·subst l0;simp only[bne_self_eq_false,ol,if_true];rw[<-aR,List.find?_map];have AE:((fun i=>(x::a).getD i 0 != (x::b).getD i 0) ∘ Nat.succ)=fun i=>a.getD i 0 != b.getD i 0:=by
    funext i; simp
   rw[AE];cases aE:(List.range (min a.length b.length)).find? fun i=>a.getD i 0 != b.getD i 0 with
   | none=>simp only[Option.map_none]; congr 1<;>simp
   | some i=>simp
  ·have bP:(x != y)=true:=by simp[l0]
   simp only[bP,ol,if_neg l0,List.getD_cons_zero]
theorem Sz {α:Type} {p q:α->Bool}:∀ (l:List α),(∀ x∈l,p x=q x)->l.find? p=l.find? q
 | [],_=>rfl
 | x::l,h=>by
  rw[awP,awP,h x (by simp),Sz l (fun y aJ=>h y (by simp[aJ]))]
theorem vN (a b:ByteArray) :Extern.BytealgCompare.cmp a b=ol a.data.toList b.data.toList:=by
 rw[<-RZ];unfold Extern.BytealgCompare.cmp;have aw:∀ (a:ByteArray) (i:Nat),i<a.size->a[i]! = a.data.toList.getD i 0:=fun a i ay=>by
  simp only[auB,avJ];rw[getElem!_pos a i ay];have:i<a.data.size:=ay;rw[avs this]; rfl
 have al:∀ a:ByteArray,a.data.toList.length=a.size:=fun a=>by rw[awd]; rfl
 rw[al,al];have Ld:(List.range (min a.size b.size)).find? (fun i=>a[i]! != b[i]!)=(List.range (min a.size b.size)).find? (fun i=>a.data.toList.getD i 0 != b.data.toList.getD i 0) :=by
  apply Sz;intro i ay;have:=auZ.1 ay;rw[aw a i (by omega),aw b i (by omega)]
 rw[Ld];cases aE:(List.range (min a.size b.size)).find? (fun i=>a.data.toList.getD i 0 != b.data.toList.getD i 0) with
 | none=>rfl
 | some i=>
  have:=auZ.1 (aw7 aE);simp only;rw[aw a i (by omega),aw b i (by omega)]
theorem acP {fn:Func} (aD:fn.name= "internal/bytealg.Compare") (au:fn.origin= ""\/fn.origin= "internal/bytealg.Compare") :Extern.find fn=some Extern.BytealgCompare.compare/\Extern.findNext fn=none:=by
 constructor
 ·unfold Extern.find;simp only[aD];rfl
 ·unfold Extern.findNext;simp only[aD];rcases au with au | au<;>rw[au]<;>rfl
theorem acG (rel:bN R B w h μ) {f:FuncId} {fn:Func} {args:List U} {vs:Array Value} {c:U} (aE:P.funcs[f]? = some fn) (ay:D7 fn=true) (ah:Cq h args=some c)
  (al:vs.size=args.length) (ap:∀ (j:Nat) (c:U) (v:Value),args[j]? = some c->vs[j]? = some v->aO w R h μ c v) :
  ∃ v,(callFunc f vs).run P w=.ok (.value v) w/\aO w R h μ c v:=by
 unfold D7 at ay;simp only[aus,awh,beq_iff_eq] at ay;obtain⟨⟨ag,aD⟩,au⟩:=ay;unfold Cq at ah;split at ah
 ·rename_i x y;split at ah
  ·rename_i a b aC bO;simp only[Option.some.injEq] at ah; subst ah;simp only[auF,au1] at al;have jm:vs=#[vs[0],vs[1]] :=by
    apply Array.ext
    ·simpa using al
    ·intro i ad ae;rcases (show i=0\/i=1 by simp at ae; omega) with rfl | rfl<;>rfl
   obtain⟨ba,ad,ae⟩:=P9 (P:=P) rel aC (ap 0 x vs[0] rfl (by simp[al]));obtain⟨aok,aj,aG⟩:=P9 (P:=P) rel bO (ap 1 y vs[1] rfl (by simp[al]));obtain⟨aP,bw⟩:=acP aD au;refine⟨.int .i64 (ol a b),?_,.int _ _⟩;rw[jm];have bP:fn.name≠ "runtime.NumGoroutine":=by rw[aD]; decide
   have ag:=aw8.1 ag;have K3:Extern.BytealgCompare.compare #[vs[0],vs[1]]=(do pure (goInt (Extern.BytealgCompare.cmp (<-Extern.Bytes.bytesOf vs[0]) (<-Extern.Bytes.bytesOf vs[1])))) :=rfl;simp[callFunc,aE,bP,ag,aP,bw,mark,Sem.run,K3,ad,aj,vN,ae,aG,goInt]
  ·cases ah
 ·cases ah
end

section
variable {P:Program} {w:World} {R:Nat->Prop} {B:Nat} {h:aN} {μ:ck}
inductive xC:Value->Value->Prop where
 | bool (a b:Bool) :xC (.bool a) (.bool b)
 | agg (a b:Array Value) :xC (.agg a) (.agg b)
 | slice (a:Option Addr) (l c:Nat) (dj:Option Addr) (l' c' : Nat) :xC (.slice a l c) (.slice dj l' c')
theorem acx {d:Nat} {t:TypeId} {x y:U} {b:Bool} {bE gm:Value} (am:eU P d t x y=some b) (af:aO w R h μ x bE) (aJ:aO w R h μ y gm)
  (ay:∀ k a k' bg,x=.int k a->y=.int k' bg->False) (ak:∀ a bg,x=.str a->y=.str bg->False) :xC bE gm:=by
 cases d with
 | zero=>simp[eU] at am
 | succ d=>
  unfold eU at am;split at am
  ·cases af; cases aJ; exact .bool _ _
  ·exact (ay _ _ _ _ rfl rfl).elim
  ·exact (ak _ _ rfl rfl).elim
  ·cases af; cases aJ; exact .agg _ _
  ·cases af; cases aJ; exact .agg _ _
  ·cases af; cases aJ; exact .slice _ _ _ _ _ _
  ·cases af; cases aJ<;>exact .slice _ _ _ _ _ _
  ·cases af; cases aJ<;>exact .slice _ _ _ _ _ _
  ·cases af<;>cases aJ<;>exact .slice _ _ _ _ _ _
  ·cases af<;>cases aJ<;>exact .slice _ _ _ _ _ _
  ·cases am
theorem acu {op:BinOp} {t:TypeId} {u0 tc:Operand} {bE gm:Value} (ak:xC bE gm) (aw:∀ a b,bE=.agg a->gm=.agg b->P.eqGuardType P.depth t=false) :(eqGuard op t u0 tc bE gm).run P w=.ok () w:=by
 cases ak with
 | bool a b=>cases op<;>rfl
 | agg a b=>exact run_eqGuard_agg w op t u0 tc a b (aw a b rfl rfl)
 | slice=>cases op<;>rfl
theorem alD {t:TypeId} {bE gm:Value} {b:Bool} (ak:xC bE gm) (g2:(Op.equalIn 10000 t bE gm).run P w=.ok b w) :
  (binOp .eql t bE gm).run P w=.ok (.bool b) w/\(binOp .neq t bE gm).run P w=.ok (.bool (!b)) w:=by
 have a7:(Op.equal t bE gm).run P w=.ok b w:=g2;cases ak<;>constructor<;>simp[binOp,a7]
theorem acs {op:BinOp} {t:TypeId} {u0 tc:Operand} {k k' : IntKind} {a b:Int}:(eqGuard op t u0 tc (.int k a) (.int k' b)).run P w=.ok () w:=by
 cases op<;>rfl
theorem acv {op:BinOp} {t:TypeId} {u0 tc:Operand} {a b:ByteArray}:(eqGuard op t u0 tc (.string a) (.string b)).run P w=.ok () w:=by
 cases op<;>rfl
theorem aaJ {op:BinOp} {t:TypeId} {u0 tc:Operand} {x y c:U} {bE gm:Value} (ah:gN P op t x y=some c) (af:aO w R h μ x bE) (aJ:aO w R h μ y gm) :
  ∃ v,((do eqGuard op t u0 tc bE gm; binOp op t bE gm:Sem Value)).run P w=.ok v w/\aO w R h μ c v:=by
 unfold gN at ah;split at ah
 ·cases af; cases aJ;obtain⟨v,ad,ae⟩:=aaK (P:=P) (w:=w) (R:=R) (h:=h) (μ:=μ) (t:=t) ah;exact⟨v,by simp[acs,ad],ae⟩
 ·cases af; cases aJ;obtain⟨v,ad,ae⟩:=aaL (P:=P) (w:=w) (R:=R) (h:=h) (μ:=μ) (t:=t) ah;exact⟨v,by simp[acv,ad],ae⟩
 ·rename_i yC sO;have key:∀ b,xZ P t x y=true->eU P 10000 t x y=some b->xC bE gm/\(eqGuard op t u0 tc bE gm).run P w=.ok () w ∧
    (binOp .eql t bE gm).run P w=.ok (.bool b) w/\(binOp .neq t bE gm).run P w=.ok (.bool (!b)) w:=by
   intro b c4 am;have pj:=acx am af aJ yC sO;have aw:∀ a b,bE=.agg a->gm=.agg b->P.eqGuardType P.depth t=false:=by
    rintro a b rfl rfl;cases af with
    | aF cs _ _ _ _=>
     cases aJ with
     | aF cs' _ _ _ _=>simpa [xZ] using c4
     | bad=>simp[eU] at am
    | bad=>cases aJ<;>simp[eU] at am
   have a7:=Kk 10000 t x y b bE gm am af aJ;obtain⟨bZ,cc⟩:=alD pj a7;exact⟨pj,acu pj aw,bZ,cc⟩
  split at ah
  ·split at ah
   ·rename_i c4;cases am:eU P 10000 t x y with
    | none=>rw[am] at ah; cases ah
    | some b=>
     rw[am] at ah;simp only[auv,Option.some.injEq] at ah; subst ah;obtain⟨_,bZ,cc,_⟩:=key b c4 am;exact⟨.bool b,by simp[bZ,cc],.bool _⟩
   ·cases ah
  ·split at ah
   ·rename_i c4;cases am:eU P 10000 t x y with
    | none=>rw[am] at ah; cases ah
    | some b=>
     rw[am] at ah;simp only[auv,Option.some.injEq] at ah; subst ah;obtain⟨_,bZ,_,cc⟩:=key b c4 am;exact⟨.bool (!b),by simp[bZ,cc],.bool _⟩
   ·cases ah
  ·cases ah
theorem am2 {op:UnOp} {x c:U} {bE:Value} (ah:qM op x=some c) (af:aO w R h μ x bE) :∃ v,(Op.unary op bE).run P w=.ok v w/\aO w R h μ c v:=by
 unfold qM at ah;split at ah
 ·simp only[Option.some.injEq] at ah; subst ah;cases af;exact⟨_,by simp[Op.unary],.bool _⟩
 ·simp only[Option.some.injEq] at ah; subst ah;cases af;refine⟨_,?_,.int _ _⟩;simp only[Op.unary]; rfl
 ·simp only[Option.some.injEq] at ah; subst ah;cases af;refine⟨_,?_,.int _ _⟩;simp only[Op.unary]; rfl
 ·cases ah
theorem Nn {aA:Operand->U} {ek:Operand->Value} (c9:∀ x,aO w R h μ (aA x) (ek x)) (o:Option Operand) :xH w R h μ (o.map aA) (o.map ek) :=by
 cases o with
 | none=>trivial
 | some x=>exact c9 x
def B1 (P:Program) (R:Nat->Prop) (B:Nat) (w:World) (h:aN) (μ:ck) (r:Result Next) :pQ->Prop
 | .val c h'=>Good R B w h μ r c h'
 | .call f args h'=>h'=h/\∃ vs:Array Value,r=.ok (.enter f vs) w/\vs.size=args.length/\∀ (j:Nat) (c:U) (v:Value),args[j]? = some c->vs[j]? = some v->aO w R h μ c v
theorem Good.mk {r:Result Next} {c:U} {h' : aN} {v:Value} {w' : World} {μ' : ck} (az:r=.ok (.value v) w') (am:df w h μ w' h' μ') (al:bN R B w' h' μ') (ap:aO w' R h' μ' c v) :Good R B w h μ r c h':=
 ⟨v,w',μ',.inl az,am,al,ap⟩
theorem aa6 (rel:bN R B w h μ) {b:Builtin} {ts:Array TypeId} {ty:TypeId} {consts:Array Bool} {args:List U} {vs:Array Value} {r:pQ} (ak:pV P h b ts.toList args=some r)
  (al:vs.size=args.length) (ap:∀ (j:Nat) (c:U) (v:Value),args[j]? = some c->vs[j]? = some v->aO w R h μ c v) :B1 P R B w h μ ((builtin b ts ty consts vs).run P w) r:=by
 have one:∀ x,args=[x]->∃ bE,vs=#[bE]/\aO w R h μ x bE:=by
  intro x af;subst af;simp only[auF,au1] at al;refine⟨vs[0],?_,ap 0 x _ rfl (by simp[al])⟩;apply Array.ext
  ·simpa using al
  ·intro i ad ae;have:i=0:=by omega
   subst this; rfl
 have two:∀ x y,args=[x,y]->∃ bE gm,vs=#[bE,gm]/\aO w R h μ x bE/\aO w R h μ y gm:=by
  intro x y af;subst af;simp only[auF,au1] at al;refine⟨vs[0],vs[1],?_,ap 0 x _ rfl (by simp[al]),ap 1 y _ rfl (by simp[al])⟩;apply Array.ext
  ·simpa using al
  ·intro i ad ae;rcases (show i=0\/i=1 by simp at ae; omega) with rfl | rfl<;>rfl
 have JJ:∀ t,ts.toList=[t]->ts=#[t] :=fun t aW=>by apply Array.toList_inj.1; simpa using aW
 have PD:∀ t u,ts.toList=[t,u]->ts=#[t,u] :=fun t u aW=>by apply Array.toList_inj.1; simpa using aW
 unfold pV at ak;split at ak
 ·rename_i t x rH;obtain⟨bE,rfl,af⟩:=one x rfl;obtain rfl:=JJ t rH;split at ak
  ·rename_i c ah;simp only[Option.some.injEq] at ak; subst ak;obtain⟨v,ad,ae⟩:=aiv (P:=P) (ty:=ty) rel ah af;exact Good.mk (by simp[builtin,ad]) (.refl _ _ _) rel ae
  cases ah:yS P t x with
  | none=>rw[ah] at ak; cases ak
  | some c=>
   rw[ah] at ak;simp only[auv,Option.some.injEq] at ak; subst ak;obtain⟨v,ad,ae⟩:=aiw (P:=P) (u:=t) (ty:=ty) ah af;exact Good.mk (by simp[builtin,ad]) (.refl _ _ _) rel ae
 ·rename_i t u s x rH;obtain⟨ni,bE,rfl,rD,af⟩:=two s x rfl;obtain rfl:=PD t u rH;split at ak
  ·rename_i k aM;cases ah:B9 P h t s x with
   | none=>rw[ah] at ak; cases ak
   | some c=>
    obtain⟨c,h'⟩:=c;rw[ah] at ak;simp only[auv,Option.some.injEq] at ak; subst ak;obtain⟨v,w',μ',ad,ae,aj,aG⟩:=aaw (ty:=ty) rel aM ah rD af;exact Good.mk (by simp[builtin,ad]) ae aj aG
  ·cases ak
  ·rename_i sL rx;cases ah:so P h t s x with
   | none=>rw[ah] at ak; cases ak
   | some c=>
    obtain⟨c,h'⟩:=c;rw[ah] at ak;simp only[auv,Option.some.injEq] at ak; subst ak;have aM:Bg P u:=by
     cases bf:P.underlying u with
     | none=>exact absurd bf rx
     | some d=>exact⟨d,bf,fun k ar=>sL k (by rw[bf,ar])⟩
    obtain⟨v,w',μ',ad,ae,aj,aG⟩:=JI (ty:=ty) rel aM ah rD af;exact Good.mk (by simp[builtin,ad]) ae aj aG
 ·rename_i t u d x rH;obtain⟨Kd,bE,rfl,bf,af⟩:=two d x rfl;obtain rfl:=PD t u rH;cases ah:zZ P h t d x with
  | none=>rw[ah] at ak; cases ak
  | some c=>
   obtain⟨c,h'⟩:=c;rw[ah] at ak;simp only[auv,Option.some.injEq] at ak; subst ak;obtain⟨v,w',ad,ae,aj,aG⟩:=abM (u:=u) (ty:=ty) rel ah bf af;exact Good.mk (by simp[builtin,ad]) ae aj aG
 ·rename_i t x rH;obtain⟨bE,rfl,af⟩:=one x rfl;obtain rfl:=JJ t rH;cases ah:zP P t x with
  | none=>rw[ah] at ak; cases ak
  | some c=>
   rw[ah] at ak;simp only[auv,Option.some.injEq] at ak; subst ak;obtain⟨v,ad,ae⟩:=abi (P:=P) (ty:=ty) ah af;exact Good.mk (by simp[builtin,ad]) (.refl _ _ _) rel ae
 ·rename_i t x rH;obtain⟨bE,rfl,af⟩:=one x rfl;obtain rfl:=JJ t rH;cases ah:zT P h t x with
  | none=>rw[ah] at ak; cases ak
  | some h'=>
   rw[ah] at ak;simp only[auv,Option.some.injEq] at ak; subst ak;obtain⟨w',ad,ae,aj⟩:=abv (P:=P) (ty:=ty) rel ah af;exact Good.mk (v:=.tuple #[]) (by simp[builtin,ad]) ae aj (.bt [] #[] rfl (fun _ _ _ aS=>by simp at aS))
 ·rename_i x y;obtain⟨bE,gm,rfl,af,aJ⟩:=two x y rfl;cases ah:wL x y with
  | none=>rw[ah] at ak; cases ak
  | some c=>
   rw[ah] at ak;simp only[auv,Option.some.injEq] at ak; subst ak;unfold wL at ah;split at ah
   ·split at ah
    ·rename_i ar; subst ar;simp only[Option.some.injEq] at ah; subst ah;cases af; cases aJ;refine Good.mk (v:=.int _ _) ?_ (.refl _ _ _) rel (.int _ _);simp[builtin,Builtin.min_,Builtin.min2]
    ·cases ah
   ·cases ah
 ·rename_i x y;obtain⟨bE,gm,rfl,af,aJ⟩:=two x y rfl;cases ah:uT x y with
  | none=>rw[ah] at ak; cases ak
  | some c=>
   rw[ah] at ak;simp only[auv,Option.some.injEq] at ak; subst ak;unfold uT at ah;split at ah
   ·split at ah
    ·rename_i ar; subst ar;simp only[Option.some.injEq] at ah; subst ah;cases af; cases aJ;refine Good.mk (v:=.int _ _) ?_ (.refl _ _ _) rel (.int _ _);simp[builtin,Builtin.max_,Builtin.max2]
    ·cases ah
   ·cases ah
 ·cases ak
theorem RK {f:FuncId} {fn:Func} {vs:Array Value} (aE:P.funcs[f]? = some fn) (ag:fn.body.isSome=true) (aD:fn.name≠ "runtime.NumGoroutine") :(callFunc f vs).run P w=.ok (.enter f vs) w:=by
 have bO:fn.body≠none:=fun aS=>by rw[aS] at ag; cases ag
 simp[callFunc,aE,aD,bO]
theorem MX {aA:Operand->U} {ek:Operand->Value} (c9:∀ x,aO w R h μ (aA x) (ek x)) (xs:Array Operand) :
  ∀ (j:Nat) (c:U) (v:Value),(xs.toList.map aA)[j]? = some c->(xs.map ek)[j]? = some v->aO w R h μ c v:=by
 intro j c v ai ap;rw[auq] at ai;rw[awB] at ap;cases au:xs[j]? with
 | none=>simp[au] at ap
 | some o=>
  simp[au] at ai ap;subst ai ap;exact c9 o
theorem ai2 {t:TypeId} {name:String} {g:FuncId} (hm:yZ P t name=some g) (u:Value) :(Go.method (P.types.size+Made.depth) t u name).run P w=.ok (g,u) w:=by
 unfold yZ at hm;split at hm
 ·cases hm
 ·cases hm
 ·rename_i AP L8;split at hm
  ·rename_i i ay;split at hm
   ·rename_i m aE;split at hm
    ·rename_i f av il;cases hm;obtain⟨k,ar⟩:∃ k,P.types.size+Made.depth=k+1:=⟨P.types.size+Made.depth - 1,by unfold Made.depth; omega⟩
     rw[ar];cases bf:P.underlying t with
     | none=>exact absurd bf L8
     | some d=>
      have aqG:m.path=#[] :=Array.toList_eq_nil_iff.1 av;cases d<;>first
       | (exfalso; exact AP _ bf)
       | simp[Go.method,typeInfo,ay,aE,av,il,follow,receiverAt,cx bf,Place.get]
    ·cases hm
   ·cases hm
  ·cases hm
theorem amx {t OW:TypeId} {ok:Bool} {z c x:U} {v:Value} (ax:I0 P t=some z) (ah:BG t z ok x=some c) (af:aO w R h μ x v) :
  ∃ a6,(Instr.typeAssert v OW t ok).run P w=.ok a6 w/\aO w R h μ c a6:=by
 unfold I0 at ax;split at ax
 ·cases ax
 ·cases ax
 ·rename_i AP L8;cases bf:P.underlying t with
  | none=>exact absurd bf L8
  | some d=>
   obtain⟨zv,qr,l2⟩:=ZK (P:=P) (w:=w) (R:=R) (h:=h) (μ:=μ) ax;have two:∀ (a:U) (iF:Value) (q:Bool),aO w R h μ a iF->aO w R h μ (.bt [a,.bool q]) (.tuple #[iF,.bool q]) :=by
    intro a iF q aC;refine .bt _ _ rfl (fun j c v ai ap=>?_)
    match j,ai,ap with
    | 0,ai,ap=>simp at ai ap; subst ai ap; exact aC
    | 1,ai,ap=>simp at ai ap; subst ai ap; exact .bool q
    | j+2,ai,ap=>simp at ai
   cases x<;>simp only[BG] at ah<;>try (cases ah; done)
   case kB=>
    cases af;cases ok<;>simp only at ah<;>cases ah;refine⟨.tuple #[zv,.bool false],?_,two _ _ _ l2⟩;cases d<;>first
     | (exfalso; exact AP _ bf)
     | simp[Instr.typeAssert,cx bf,qr]
   case hF gK tR=>
    cases af with
    | hF _ _ u aM=>
     split at ah
     ·rename_i aW;have aW:=auW aW;subst aW;cases ok<;>simp only at ah<;>cases ah
      ·refine⟨u,?_,aM⟩;cases d<;>first
        | (exfalso; exact AP _ bf)
        | simp[Instr.typeAssert,cx bf]
      ·refine⟨.tuple #[u,.bool true],?_,two _ _ _ aM⟩;cases d<;>first
        | (exfalso; exact AP _ bf)
        | simp[Instr.typeAssert,cx bf]
     ·rename_i aW;have aW:gK≠t:=fun h=>by rw[h,awN] at aW; cases aW
      cases ok<;>simp only at ah<;>cases ah;refine⟨.tuple #[zv,.bool false],?_,two _ _ _ l2⟩;cases d<;>first
       | (exfalso; exact AP _ bf)
       | simp[Instr.typeAssert,cx bf,qr,aW]
theorem abe (rel:bN R B w h μ) {aA:Operand->U} {ek:Operand->Value} (c9:∀ x,aO w R h μ (aA x) (ek x)) {c:Call} {ty:TypeId} {r:pQ} (ak:vF P h aA c=some r) :
  B1 P R B w h μ ((do let d <-resolve ek c ty; invoke d.target d.args:Sem Next).run P w) r:=by
 unfold vF at ak;split at ak
 ·rename_i b ag;have:=fun consts=>aa6 (P:=P) (b:=b) (ts:=c.argTypes) (ty:=ty) (consts:=consts) (args:=c.args.toList.map aA) (vs:=c.args.map ek) rel ak (by simp)
   (fun j x v ai ap=>by
    rw[auq] at ai;rw[awB] at ap;cases au:c.args[j]? with
    | none=>simp[au] at ap
    | some o=>
     simp[au] at ai ap;subst ai ap;exact c9 o)
  simp only[resolve,ag,Sem.run_bind,Sem.run_pure,Result.andThen_ok,invoke];exact this _
 ·rename_i f aE;split at ak
  ·rename_i g first gB il
   have ap:=c9 f;rw[il] at ap;cases wa:ek f with
   | func apN fs cs=>
    rw[wa] at ap;cases ap with
    | fn _ _ _ _ _ ad ae aj aG=>
     split at ak
     ·rename_i fn AE;have GC:∀ (j:Nat) (x:U) (v:Value),(first++c.args.toList.map aA++gB)[j]? = some x->(fs++c.args.map ek++cs)[j]? = some v->aO w R h μ x v:=by
       intro j x v ai lZ;by_cases qg:j<first.length
       ·rw[au3,aum qg] at ai;rw[awy,avw (by omega)] at lZ;exact aj j x v ai lZ
       ·by_cases qh:j<first.length+c.args.size
        ·rw[aum (by simp; omega),auJ (by omega),auq] at ai;rw[avw (by simp; omega),avN (by omega),awB,ad] at lZ;cases au:c.args[j - first.length]? with
         | none=>simp[au] at lZ
         | some o=>
          simp[au] at ai lZ;subst ai lZ;exact c9 o
        ·rw[auJ (by simp; omega)] at ai;rw[avN (by simp; omega)] at lZ;refine aG _ x v ai ?_;simpa [ad] using lZ
      split at ak
      ·rename_i j2;simp only[Option.some.injEq] at ak; subst ak;refine⟨rfl,fs++c.args.map ek++cs,?_,by simp[ad,ae],GC⟩;simp[resolve,aE,wa,Deferred.ofValue,invoke,RK AE j2.1 j2.2]
      ·split at ak
       ·rename_i K3;cases de:Cq h (first++c.args.toList.map aA++gB) with
        | none=>rw[de] at ak; cases ak
        | some aoV=>
         rw[de] at ak;simp only[auv,Option.some.injEq] at ak; subst ak;obtain⟨v,aP,bw⟩:=acG (P:=P) (vs:=fs++c.args.map ek++cs) rel AE K3 de (by simp[ad,ae]) GC;rw[awy] at aP;exact Good.mk (by simp[resolve,aE,wa,Deferred.ofValue,invoke,aP]) (.refl _ _ _) rel bw
       ·cases ak
     ·cases ak
   | _=>rw[wa] at ap; cases ap
  ·cases ak
 ·rename_i x name ah;split at ak
  ·rename_i t tu af;have ap:=c9 x;rw[af] at ap;split at ak
   ·rename_i g hm;split at ak
    ·rename_i fn AE;split at ak
     ·rename_i j2;simp only[Option.some.injEq] at ak; subst ak;cases wa:ek x with
      | iface gK u=>
       rw[wa] at ap;cases ap with
       | hF _ _ _ aM=>
        refine⟨rfl,#[u]++c.args.map ek,?_,by simp; omega,?_⟩
        ·have afM:=ai2 (P:=P) (w:=w) hm u;have aI:(#[Value.iface t u]++c.args.map ek)[0]? = some (Value.iface t u) :=by rw[avw (by simp)]; rfl
         have h9:(c.args.map ek).extract 0 c.args.size=c.args.map ek:=by
          apply Array.ext';simp[aul]
         simp[aI,h9,resolve,ah,wa,invoke,callMethod,afM,RK AE j2.1 j2.2]
        ·intro j x v ai lZ;cases j with
         | zero=>
          rw[avw (by simp)] at lZ;simp at ai lZ; subst ai lZ; exact aM
         | succ j=>
          rw[au5] at ai;rw[avN (by simp)] at lZ;exact MX c9 c.args j x v ai (by simpa using lZ)
      | _=>rw[wa] at ap; cases ap
     ·cases ak
    ·cases ak
   ·cases ak
  ·cases ak
theorem Nv {aA:Operand->U} {ek:Operand->Value} (c9:∀ x,aO w R h μ (aA x) (ek x)) (ps:Array (Nat × Operand)) :
  (ps.map fun (i,x)=>(i,ek x)).size=(ps.toList.map fun p=>(p.1,aA p.2)).length ∧
  ∀ (j:Nat) (p:Nat × U) (cp:Nat × Value),(ps.toList.map fun p=>(p.1,aA p.2))[j]? = some p->(ps.map fun (i,x)=>(i,ek x))[j]? = some cp->cp.1=p.1/\aO w R h μ p.2 cp.2:=by
 refine⟨by simp,fun j p cp ai eD=>?_⟩;rw[auq] at ai;rw[awB] at eD;cases au:ps[j]? with
 | none=>simp[au] at eD
 | some o=>
  simp[au] at ai eD;subst ai eD;exact⟨rfl,c9 o.2⟩
theorem Ol (rel:bN R B w h μ) {aA:Operand->U} {ek:Operand->Value} (c9:∀ x,aO w R h μ (aA x) (ek x)) (o:Oper) {r:pQ} (ak:c6 P h aA o.op=some r) :
  B1 P R B w h μ ((execOp ek o).run P w) r:=by
 obtain⟨dst,op,type,pos,after,guard⟩:=o;have pq:∀ {x:Option U} {m:Sem Value},(∀ c,x=some c->∃ v,m.run P w=.ok v w/\aO w R h μ c v)->x.map (fun y=>pQ.val y h)=some r->
   B1 P R B w h μ ((do pure (.value (<-m)) :Sem Next).run P w) r:=by
  intro x m af az;cases eX:x with
  | none=>rw[eX] at az; cases az
  | some c=>
   rw[eX] at az;simp only[auv,Option.some.injEq] at az; subst az;obtain⟨v,ad,ae⟩:=af c eX;exact Good.mk (by simp[ad]) (.refl _ _ _) rel ae
 have Ig:∀ {x:Option (U × aN)} {m:Sem Value},(∀ c h',x=some (c,h')->∃ v w' μ',m.run P w=.ok v w'/\df w h μ w' h' μ'/\bN R B w' h' μ'/\aO w' R h' μ' c v)->x.map (fun y=>pQ.val y.1 y.2)=some r->
   B1 P R B w h μ ((do pure (.value (<-m)) :Sem Next).run P w) r:=by
  intro x m af az;cases eX:x with
  | none=>rw[eX] at az; cases az
  | some c=>
   obtain⟨c,h'⟩:=c;rw[eX] at az;simp only[auv,Option.some.injEq] at az; subst az;obtain⟨v,w',μ',ad,ae,aj,aG⟩:=af c h' eX;exact Good.mk (by simp[ad]) ae aj aG
 cases op
 case move x=>
  simp only[c6,Option.some.injEq] at ak; subst ak;exact Good.mk (by simp[execOp]) (.refl _ _ _) rel (c9 x)
 case assign x=>
  simp only[c6,Option.some.injEq] at ak; subst ak;exact Good.mk (by simp[execOp]) (.refl _ _ _) rel (c9 x)
 case pick c a b=>
  simp only[c6] at ak;have jK:=c9 c;cases ah:aA c<;>rw[ah] at ak jK<;>simp only at ak<;>try (cases ak; done)
  simp only[Option.some.injEq] at ak; subst ak;cases ap:ek c<;>rw[ap] at jK<;>try (cases jK; done)
  cases jK;rename_i t;cases t
  ·exact Good.mk (v:=ek b) (by simp[execOp,ap,asBool]) (.refl _ _ _) rel (by simpa using c9 b)
  ·exact Good.mk (v:=ek a) (by simp[execOp,ap,asBool]) (.refl _ _ _) rel (by simpa using c9 a)
 case alloc t=>
  simp only[c6] at ak;cases ax:ic P t with
  | none=>rw[ax] at ak; cases ak
  | some z=>
   rw[ax] at ak;simp only[auv,Option.some.injEq] at ak; subst ak;obtain⟨v,ap,az⟩:=xB (P:=P) (w:=w) (R:=R) (h:=h) (μ:=μ) ax;obtain⟨a2,a9,bV⟩:=FD rel (cs:=z) (vs:=v.cells) t az.1 az.2;exact Good.mk (by simp[execOp,Instr.alloc,ap,newVar,newRow]) a2 a9 (bV 0)
 case box t x=>
  simp only[c6] at ak;cases ax:(aA x).cells with
  | none=>rw[ax] at ak; cases ak
  | some z=>
   rw[ax] at ak;simp only[auv,Option.some.injEq] at ak; subst ak;obtain⟨bZ,cc⟩:=FV (c9 x) ax;obtain⟨a2,a9,bV⟩:=FD rel (cs:=z) (vs:=(ek x).cells) t bZ cc;exact Good.mk (by simp[execOp,Instr.box,newVar,newRow]) a2 a9 (bV 0)
 case build t parts=>
  obtain⟨bZ,cc⟩:=Nv c9 parts;exact pq (fun c ah=>aa4 ah bZ cc) ak
 case buildSlice t len parts=>
  obtain⟨bZ,cc⟩:=Nv c9 parts;exact Ig (fun c h' ah=>aa3 rel ah bZ cc) ak
 case load t a=>exact pq (fun c ah=>V4 rel ah (c9 a)) ak
 case store t a x=>
  simp only[c6] at ak;cases b5:xf P h t (aA a) (aA x) with
  | none=>rw[b5] at ak; cases ak
  | some h'=>
   rw[b5] at ak;simp only[auv,Option.some.injEq] at ak; subst ak;obtain⟨w',ad,ae,aj⟩:=Yx (P:=P) rel b5 (c9 a) (c9 x);exact⟨undef,w',μ,.inr ⟨by simp[execOp,ad],rfl⟩,ae,aj,.bt [] #[] rfl (fun _ _ _ aS=>by simp at aS)⟩
 case nilCheck x=>
  simp only[c6] at ak;have ap:=c9 x;cases ah:aA x<;>rw[ah] at ak ap<;>simp only at ak<;>try (cases ak; done)
  all_goals
   simp only[Option.some.injEq] at ak; subst ak;cases af:ek x<;>rw[af] at ap<;>try (cases ap; done)
   rename_i y;refine Good.mk (v:=ek x) ?_ (.refl _ _ _) rel (by rw[af]; exact ap);cases ap<;>simp[execOp,af]
 case binOp op t x y aug=>exact pq (fun c ah=>aaJ ah (c9 x) (c9 y)) ak
 case unOp op t x=>exact pq (fun c ah=>am2 ah (c9 x)) ak
 case convert s d x=>
  simp only[c6] at ak;split at ak
  ·rename_i c ah;simp only[Option.some.injEq] at ak; subst ak;obtain⟨v,w',ad,ae,aj,aG⟩:=aa7 rel ah (c9 x);exact Good.mk (by simp[execOp,ad]) ae aj aG
  ·exact pq (fun c ah=>abK rel ah (c9 x)) ak
 case makeInterface t x=>
  simp only[c6] at ak;cases aM:P.underlying t with
  | none=>rw[aM] at ak; cases ak
  | some d=>
   rw[aM] at ak;cases d<;>simp only at ak<;>try (cases ak; done)
   all_goals
    simp only[Option.some.injEq] at ak; subst ak;exact Good.mk (v:=.iface t (ek x)) (by simp[execOp,Instr.makeInterface,cx aM]) (.refl _ _ _) rel (.hF t _ _ (c9 x))
 case makeFunc fn first gB=>
  cases fn<;>simp only[c6] at ak<;>try (cases ak; done)
  simp only[Option.some.injEq] at ak; subst ak;exact Good.mk (by simp[execOp,Instr.makeFunc]) (.refl _ _ _) rel (.fn _ _ _ _ _ (by simp) (by simp) (MX c9 first) (MX c9 gB))
 case makeSlice t l c=>exact Ig (fun c' h' ah=>aiX rel ah (c9 l) (c9 c)) ak
 case slice t x cJ ay cK=>exact pq (fun c ah=>al7 rel ah (c9 x) (Nn c9 cJ) (Nn c9 ay) (Nn c9 cK)) ak
 case fieldAddr s x f=>exact pq (fun c ah=>acJ ah (c9 x)) ak
 case field t x f=>
  simp only[c6] at ak;split at ak
  ·rename_i cs fd af aE;have ap:=c9 x;rw[af] at ap;exact pq (fun c ah=>acK aE ah ap) ak
  ·cases ak
 case indexAddr t x i=>exact pq (fun c ah=>ahg ah (c9 x) (c9 i)) ak
 case index t x i=>exact pq (fun c ah=>MA ah (c9 x) (c9 i)) ak
 case extract x i=>
  simp only[c6] at ak;have ap:=c9 x;cases ah:aA x<;>rw[ah] at ak ap<;>simp only at ak<;>try (cases ak; done)
  rename_i vs;cases af:ek x<;>rw[af] at ap<;>try (cases ap; done)
  rename_i arr;cases ap with
  | bt _ _ al Mc=>
   refine pq (m:=Instr.extract (ek x) i) (fun c ah=>?_) ak;have aL:i<arr.size:=by rw[al]; exact (auk.1 ah).1
   exact⟨arr[i],by simp[Instr.extract,af,aL],Mc i c _ ah (by simp[aL])⟩
 case call c=>exact abe rel c9 ak
 case makeMap t r=>
  simp only[c6] at ak;split at ak
  ·rename_i k e aM az;simp only[Option.some.injEq] at ak; subst ak;obtain⟨v,w',μ',ad,ae,aj,aG⟩:=aiW (P:=P) (t:=t) (r:=r.map ek) rel ⟨_,_,aM⟩ (fun x af=>by
    cases r with
    | none=>cases af
    | some o=>
     simp only[auv,Option.some.injEq] at af; subst af;simp only at az;cases ay:asInt (aA o) with
     | none=>rw[ay] at az; cases az
     | some n=>
      obtain⟨k,ar⟩:=sp ay (c9 o);exact⟨k,n,ar⟩)
   exact Good.mk (by simp[execOp,ad]) ae aj aG
  ·cases ak
 case lookup t m k ok=>exact pq (fun c ah=>aiE rel ah (c9 m) (c9 k)) ak
 case mapUpdate t m k x=>
  simp only[c6] at ak;cases b5:yY P h t (aA m) (aA k) (aA x) with
  | none=>rw[b5] at ak; cases ak
  | some h'=>
   rw[b5] at ak;simp only[auv,Option.some.injEq] at ak; subst ak;obtain⟨w',ad,ae,aj⟩:=Wi (P:=P) rel b5 (c9 m) (c9 k) (c9 x);exact⟨undef,w',μ,.inr ⟨by simp[execOp,ad],rfl⟩,ae,aj,.bt [] #[] rfl (fun _ _ _ aS=>by simp at aS)⟩
 case insert t m k x=>
  simp only[c6] at ak;cases b5:yY P h t (aA m) (aA k) (aA x) with
  | none=>rw[b5] at ak; cases ak
  | some h'=>
   rw[b5] at ak;simp only[auv,Option.some.injEq] at ak; subst ak;obtain⟨w',ad,ae,aj⟩:=Wi (P:=P) rel b5 (c9 m) (c9 k) (c9 x);exact⟨undef,w',μ,.inr ⟨by simp[execOp,ad],rfl⟩,ae,aj,.bt [] #[] rfl (fun _ _ _ aS=>by simp at aS)⟩
 case range t x=>exact Ig (fun c h' ah=>ak8 rel ah (c9 x)) ak
 case next it isS=>
  cases isS with
  | false=>simp only[c6] at ak; cases ak
  | true=>exact Ig (fun c h' ah=>by obtain⟨v,w',ad,ae,aj,aG⟩:=ajk (P:=P) (ty:=type) rel ah (c9 it); exact⟨v,w',μ,ad,ae,aj,aG⟩) ak
 case typeAssert x OW t ok=>
  simp only[c6] at ak;split at ak
  ·rename_i z ax;exact pq (fun c ah=>amx ax ah (c9 x)) ak
  ·cases ak
 all_goals (simp only[c6] at ak; cases ak)
end
inductive sf where
 | normal
 | exit (id:Nat)
 | ret
def sf.out:sf->Exit
 | .normal=>.normal
 | .exit id=>.exit id
 | .ret=>.ret
def k7 (ops:Array Oper) (σ:Nat->U) (o:Oper) :Option Bool:=
 match o.guard with
 | none=>some true
 | some (j,BP)=>match (ops[j]?).bind (·.dst) with
  | none=>some false
  | some d=>match σ d with
   | .bool b=>some (b == BP)
   | .bad=>none
   | _=>some false
def hV (σ:Nat->U) (dst:Option Tmp) (c:U) :Nat->U:=match dst with | some d=>bB σ d c | none=>σ
def jZ (N:Nat) (dst:Option Tmp) :Bool:=match dst with | some d=>decide (d<N) | none=>true
def By (P:Program) (h:aN) (σ:Nat->U) :ResultVar->Option U
 | .tmp t=>some (σ t)
 | .cell a t=>s6 P h t (σ a)
def w1 (P:Program) (h:aN) (σ:Nat->U) :List ResultVar->Option (List U)
 | []=>some []
 | r::n1=>match By P h σ r,w1 P h σ n1 with
  | some v,some vs=>some (v::vs)
  | _,_=>none
def xh:List U->U
 | [v]=>v
 | vs=>.bt vs
def Bx (P:Program) (h:aN) (σ:Nat->U) (fn:Func) :Option U:=(w1 P h σ fn.results.toList).map xh
mutual
def U.closed:U->Bool
 | .aF cs=>a5 cs
 | .bt cs=>a5 cs
 | .bM cs _=>a5 cs
 | .aZ _ es=>Cm es
 | .fn _ a b=>a5 a&&a5 b
 | .hF _ v=>v.closed
 | .ptr .. | .aq .. | .mp _ | .it _=>false
 | _=>true
def a5:List U->Bool
 | []=>true
 | c::cs=>c.closed&&a5 cs
def Cm:List (List U)->Bool
 | []=>true
 | c::cs=>a5 c&&Cm cs
end
def ed (w:World) (A:Nat->Prop) (c:U) (v:Value) :Prop:=aO w A aN.empty (fun _=>none) c v
structure fW (w w' : World) :Prop extends RowKit.Below w.heap.size w w' where
 drawn:w.drawn<=w'.drawn
def mI (G:Nat->U) (w:World) (R:Nat->Prop) (h:aN) (μ:ck) :Prop:=∀ g,(G g).closed=true/\aO w R h μ (G g) (.pointer (some ⟨g,0,none⟩))
def qS (P:Program) (G:Nat->U) (f:FuncId) (args:List U) (h:aN) (r:U) (h' : aN) :Prop:=
 ∀ (R:Nat->Prop) (B:Nat) (w:World) (μ:ck) (vs:Array Value),bN R B w h μ->mI G w R h μ->vs.size=args.length->
  (∀ (j:Nat) (c:U) (v:Value),args[j]? = some c->vs[j]? = some v->aO w R h μ c v)->
  Calls P f vs w fun e w'=>∃ v μ',e=.returned v/\df w h μ w' h' μ'/\bN R B w' h' μ'/\aO w' R h' μ' r v
def bz (P:Program) (G:Nat->U) (f:FuncId) (args:List U) (r:U) :Prop:=
 ∀ (w:World) (A:Nat->Prop) (vs:Array Value),(∀ g,ed w A (G g) (.pointer (some ⟨g,0,none⟩)))->vs.size=args.length->
  (∀ (j:Nat) (c:U) (v:Value),args[j]? = some c->vs[j]? = some v->ed w A c v)->
  Calls P f vs w fun e w'=>∃ v,e=.returned v/\fW w w'/\ed w' (fun k=>A k\/w.heap.size<=k) r v
def gy (P:Program) (G:Nat->U) (f:FuncId) (args:List U) (r:U) :Prop:=
 ∀ (w:World) (A:Nat->Prop) (vs:Array Value),(∀ g,ed w A (G g) (.pointer (some ⟨g,0,none⟩)))->vs.size=args.length->
  (∀ (j:Nat) (c:U) (v:Value),args[j]? = some c->vs[j]? = some v->ed w A c v)->
  Calls P f vs w fun e w'=>∃ v,e=.returned v/\fW w w'/\ed w' (fun k=>w.heap.size<=k) r v
inductive gA (h:aN) :U->U->Prop
 | same (c:U) (ah:c.closed=true) :gA h c c
 | aF (cs cs' : List U) (al:cs'.length=cs.length) (ap:∀ (j:Nat) (c c' : U),cs[j]? = some c->cs'[j]? = some c'->gA h c c') :gA h (.aF cs) (.aF cs')
 | bt (cs cs' : List U) (al:cs'.length=cs.length) (ap:∀ (j:Nat) (c c' : U),cs[j]? = some c->cs'[j]? = some c'->gA h c c') :gA h (.bt cs) (.bt cs')
 | aq (z b off len cap sz:Nat) (cs:List U) (es:List (List U)) (ag:h.f b=.cells sz cs) (al:es.length=len) (ax:∀ e∈es,e.length=z)
   (cQ:off+len*z<=cs.length)
   (ap:∀ (i j:Nat) (e:List U) (c c' : U),es[i]? = some e->e[j]? = some c'->cs[off+(i*z+j)]? = some c->gA h c c') :gA h (.aq z b off len cap sz) (.aZ z es)
 | r8 (z b off cap sz:Nat) :gA h (.aq z b off 0 cap sz) (.aZ z [])
 | ptr (b off sz:Nat) (cs cs' : List U) (ag:h.f b=.cells sz cs) (al:cs'.length=cs.length) (ap:∀ (j:Nat) (c c' : U),cs[j]? = some c->cs'[j]? = some c'->gA h c c') :gA h (.ptr b off sz) (.bM cs' off)
mutual
def U.flat:U->Bool
 | .aF cs=>mf cs
 | .bt cs=>mf cs
 | .hF _ v=>v.flat
 | .bool _ | .int .. | .str _ | .kC | .aH | .iQ | .kA | .kB=>true
 | _=>false
def mf:List U->Bool
 | []=>true
 | c::cs=>c.flat&&mf cs
end
inductive Fr where
 | pure | new | gY
def nV (P:Program) (aA:Operand->U) :Op->Option (List U × (Nat->U))
 | .alloc t=>(ic P t).map fun z=>(z,fun b=>.ptr b 0 z.length)
 | .box _ x=>(aA x).cells.map fun cs=>(cs,fun b=>.ptr b 0 cs.length)
 | .buildSlice t len parts=>match i3 P t with
  | some e=>match cz P e,ic P e with
   | some z,some zero=>if zero.length=z/\len*z<=16777216 then
     (h4 (fun i=>some (i*z,z)) (dC zero len) (parts.toList.map fun p=>(p.1,aA p.2))).map fun cs=>(cs,fun b=>.aq z b 0 len len (len*z))
    else none
   | _,_=>none
  | none=>none
 | .makeSlice t l c=>match i3 P t,asInt (aA l),asInt (aA c) with
  | some e,some l,some c=>match cz P e,kL P e,ic P e with
   | some z,some by_,some zero=>
    if zero.length=z/\0<=l/\l<=c/\c<9223372036854775808/\by_*c<=cw then
     some (dC zero c.toNat,fun b=>.aq z b 0 l.toNat c.toNat (c.toNat*z))
    else none
   | _,_,_=>none
  | _,_,_=>none
 | _=>none
def ki (ops:Array Oper) (t:Nat) :Option Nat:=(List.range ops.size).find? fun i=>match ops[i]? with | some o=>o.dst == some t | none=>false
def nC (ops:Array Oper) (pre:Nat->Nat->Bool) (val:Nat->U) (σ:Nat->U) (i:Nat) (o:Oper) :Nat->U:=fun t=>
 if (o.looksAt ops).contains t then
  match ki ops t with
  | some j=>if pre i j then val j else σ t
  | none=>σ t
 else .bad
structure tA (ops:Array Oper) (pre:Nat->Nat->Bool) :Prop where
 Cx:∀ (i:Nat) (o:Oper) (e:Edge),ops[i]? = some o->e∈o.after->Region.binds .any e=true->e.on<i
 chain:∀ (i:Nat) (o:Oper) (j:Nat),ops[i]? = some o->pre i j=true->∃ e∈o.after,Region.binds .any e=true/\(e.on=j\/pre e.on j=true)
 one:∀ (i:Nat) (o:Oper) (t:Tmp),ops[i]? = some o->o.dst=some t->ki ops t=some i
 acc:∀ (i:Nat) (o:Oper) (t:Tmp) (j:Nat),ops[i]? = some o->t∈o.looksAt ops->ki ops t=some j->pre i j=true\/pre j i=true\/j=i
 atM:Region.noSelect ops=true
def wW (h:aN) (l:List (List U)) :aN:=l.foldl (fun h cs=>h.push (.cells cs.length cs)) h
def oV (h h' : aN) :Prop:=∃ l,h'=wW h l
theorem Xj:∀ (l:List (List U)) (h:aN),(wW h l).n=h.n+l.length
 | [],h=>rfl
 | c::l,h=>by
  have:=Xj l (h.push (.cells c.length c));simp only[wW,List.foldl_cons,List.length_cons] at this ⊢;rw[this];simp only[er,fx]; omega
theorem Xk:∀ (l:List (List U)) (h:aN) (b:Nat),b<h.n->(wW h l).f b=h.f b
 | [],h,b,_=>rfl
 | c::l,h,b,ag=>by
  have:=Xk l (h.push (.cells c.length c)) b (by simp only[er,fx]; omega);simp only[wW,List.foldl_cons] at this ⊢;rw[this];simp only[er,fx];exact b2 _ _ _ _ (by omega)
theorem Xi:∀ (l:List (List U)) (h:aN),(∀ b,h.n<=b->h.f b=.none)->∀ b,(wW h l).n<=b->(wW h l).f b=.none
 | [],h,aE=>aE
 | c::l,h,aE=>by
  refine Xi l (h.push (.cells c.length c)) (fun b ag=>?_);simp only[er,fx] at ag ⊢;rw[b2 _ _ _ _ (by omega)];exact aE b (by omega)
theorem oV.n {h h' : aN} (g:oV h h') :h.n<=h'.n:=by obtain⟨l,rfl⟩:=g; rw[Xj]; omega
theorem oV.same {h h' : aN} (g:oV h h') (b:Nat) (ag:b<h.n) :h'.f b=h.f b:=by obtain⟨l,rfl⟩:=g; exact Xk l h b ag
theorem oV.fresh {h h' : aN} (g:oV h h') (aE:∀ b,h.n<=b->h.f b=.none) :∀ b,h'.n<=b->h'.f b=.none:=by obtain⟨l,rfl⟩:=g; exact Xi l h aE
inductive np (h ae:aN) :U->U->Prop
 | same (c:U) :np h ae c c
 | aF (cs cs' : List U) (al:cs'.length=cs.length) (ap:∀ (j:Nat) (c c' : U),cs[j]? = some c->cs'[j]? = some c'->np h ae c c') :np h ae (.aF cs) (.aF cs')
 | aq (z b off len cap sz:Nat) (cs:List U) (es:List (List U)) (ag:h.f b=.cells sz cs) (bf:ae.f b=.dead) (al:es.length=len) (ax:∀ e∈es,e.length=z)
   (cQ:off+len*z<=cs.length)
   (ap:∀ (i j:Nat) (e:List U) (c c' : U),es[i]? = some e->e[j]? = some c'->cs[off+(i*z+j)]? = some c->np h ae c c') :np h ae (.aq z b off len cap sz) (.aZ z es)
 | r8 (z b off cap sz:Nat) :np h ae (.aq z b off 0 cap sz) (.aZ z [])
structure nr (h ae:aN) :Prop where
 n:ae.n=h.n
 blk:∀ b,ae.f b=h.f b\/∃ sz cs,h.f b=.cells sz cs/\(ae.f b=.dead\/∃ hO,ae.f b=.cells sz hO/\hO.length=cs.length/\∀ (j:Nat) (c b9:U),cs[j]? = some c->hO[j]? = some b9->np h ae c b9)
inductive J where
 | code (c:Code) (N:Nat) (σ:Nat->U) (h:aN) (e:sf) (bD:Nat->U) (h' : aN)
 | ops (all:Array Oper) (l:List Oper) (N:Nat) (σ:Nat->U) (h:aN) (bD:Nat->U) (h' : aN)
 | op (op:Op) (σ:Nat->U) (h:aN) (v:U) (h' : aN)
 | call (f:FuncId) (args:List U) (h:aN) (r:U) (h' : aN)
def z7 (pre:Nat->Nat->Bool) (m:Nat) (ak:Nat->Nat) (i k:Nat) :Prop:=k<=m/\(∀ q,q<m->pre i (ak q)=true->q<k)/\∀ q,q<m->pre (ak q) i=true->k<=q
inductive dG (P:Program) (G:Nat->U) :J->Prop where
 | skip (N σ h) :dG P G (.code .skip N σ h .normal σ h)
 | label (l N σ h) :dG P G (.code (.label l) N σ h .normal σ h)
 | ret (N σ h) :dG P G (.code .ret N σ h .ret σ h)
 | exit (id N σ h) :dG P G (.code (.exit id) N σ h (.exit id) σ h)
 | Ye {a b N σ h ie ad e bD h'}:dG P G (.code a N σ h .normal ie ad)->dG P G (.code b N ie ad e bD h')->dG P G (.code (.seq a b) N σ h e bD h')
 | N6 {a b N σ h e bD h'}:dG P G (.code a N σ h e bD h')->e≠.normal->dG P G (.code (.seq a b) N σ h e bD h')
 | cond {c x y N σ h b e bD h'}:c3 G σ c=.bool b->dG P G (.code (if b then x else y) N σ h e bD h')->dG P G (.code (.cond c x y) N σ h e bD h')
 | FK {id c N σ h e bD h'}:dG P G (.code c N σ h e bD h')->e≠.exit id->dG P G (.code (.block id c) N σ h e bD h')
 | PZ {id c N σ h bD h'}:dG P G (.code c N σ h (.exit id) bD h')->dG P G (.code (.block id c) N σ h .normal bD h')
 | Bb {c N σ h ie ad e bD h'}:dG P G (.code c N σ h .normal ie ad)->dG P G (.code (.loop c) N ie ad e bD h')->dG P G (.code (.loop c) N σ h e bD h')
 | MZ {c N σ h e bD h'}:dG P G (.code c N σ h e bD h')->e≠.normal->dG P G (.code (.loop c) N σ h e bD h')
 | scope {c N σ h e bD h'}:dG P G (.code c N σ h e bD h')->dG P G (.code (.scope c) N σ h e bD h')
 | region {id ops N σ h bD h'}:dG P G (.ops ops ops.toList N σ h bD h')->dG P G (.code (.region id ops false) N σ h .normal bD h')
 | draw {id ops N σ h bD h'} (pre:Nat->Nat->Bool) (val:Nat->U) (W:Nat->Bool) (cls:Nat->Fr) (m:Nat) (ak:Nat->Nat) (fX si:Nat->aN) (g7:Nat->Nat) (cells:Nat->List U)
   (hY:tA ops pre)
   (qd:∀ (i:Nat) (o:Oper),ops[i]? = some o->jZ N o.dst=true)
   (aI:oV h (fX 0)) (hm:h'=fX m) (HK:bD=fun t=>match ki ops t with | some i=>val i | none=>σ t)
   (yi:∀ (i:Nat) (o:Oper),ops[i]? = some o->W i=true->cls i=.gY->∃ q,q<m/\ak q=i)
   (Dp:∀ q,q<m->∃ o,ops[ak q]? = some o/\W (ak q)=true/\cls (ak q)=.gY)
   (kS:∀ q eb,q<m->eb<m->q<eb->pre (ak eb) (ak q)=true)
   (nH:∀ q eb,q<m->eb<m->ak q=ak eb->q=eb)
   (sS:∀ (i:Nat) (o:Oper),ops[i]? = some o->k7 ops (nC ops pre val σ i o) o=some (W i))
   (HC:∀ (i:Nat) (o:Oper),ops[i]? = some o->W i=false->val i=gL)
   (Hu:∀ (i:Nat) (o:Oper),ops[i]? = some o->W i=true->cls i=.pure->∀ k,z7 pre m ak i k->c6 P (fX k) (c3 G (nC ops pre val σ i o)) o.op=some (.val (val i) (fX k)))
   (yB:∀ (i:Nat) (o:Oper),ops[i]? = some o->W i=true->cls i=.new->∃ mk,nV P (c3 G (nC ops pre val σ i o)) o.op=some (cells i,mk)/\val i=mk (g7 i)/\h.n<=g7 i ∧
    ∀ k,z7 pre m ak i k->(fX k).f (g7 i)=.cells (cells i).length (cells i))
   (GI:∀ (i j:Nat) (o dw:Oper),ops[i]? = some o->ops[j]? = some dw->W i=true->W j=true->cls i=.new->cls j=.new->g7 i=g7 j->i=j)
   (GJ:∀ (i:Nat) (o:Oper) (q:Nat),ops[i]? = some o->W i=true->cls i=.new->q<m->g7 i<(fX q).n\/(si q).n<=g7 i)
   (qe:∀ q,q<m->oV (si q) (fX (q+1)))
   (ox:∀ (q:Nat) (o:Oper),q<m->ops[ak q]? = some o->dG P G (.op o.op (nC ops pre val σ (ak q) o) (fX q) (val (ak q)) (si q))) :
   dG P G (.code (.region id ops true) N σ h .normal bD h')
 | WI {all N σ h}:dG P G (.ops all [] N σ h σ h)
 | WK {all o l N σ h bD h'}:k7 all σ o=some false->jZ N o.dst=true->dG P G (.ops all l N (hV σ o.dst gL) h bD h')->dG P G (.ops all (o::l) N σ h bD h')
 | WJ {all o l N σ h v ad bD h'}:k7 all σ o=some true->jZ N o.dst=true->dG P G (.op o.op σ h v ad)->dG P G (.ops all l N (hV σ o.dst v) ad bD h')->dG P G (.ops all (o::l) N σ h bD h')
 | Ik {op σ h v h'}:c6 P h (c3 G σ) op=some (.val v h')->dG P G (.op op σ h v h')
 | Bj {op σ h f args ad v h'}:c6 P h (c3 G σ) op=some (.call f args ad)->dG P G (.call f args ad v h')->dG P G (.op op σ h v h')
 | Jb {op σ h v h' bU ae}:dG P G (.op op σ h v h')->nr h' ae->np h' ae v bU->dG P G (.op op σ h bU ae)
 | inline {f fn c args h e bD h' r}:P.funcs[f]? = some fn->fn.body=some c->
   dG P G (.code c (args.length+(fn.ntmps - args.length)) (fun t=>args.getD t gL) h e bD h')->(e=.normal\/e=.ret)->Bx P h' bD fn=some r->dG P G (.call f args h r h')
 | pure {f args h r}:bz P G f args r->a5 args=true->dG P G (.call f args h r h)
 | NC {f args i1 h r}:bz P G f i1 r->i1.length=args.length->(∀ (j:Nat) (c c' : U),args[j]? = some c->i1[j]? = some c'->gA h c c')->r.flat=true->dG P G (.call f args h r h)
 | ext {f args h r h'}:qS P G f args h r h'->dG P G (.call f args h r h')
 | ND {f args i1 h r}:gy P G f i1 r->i1.length=args.length->(∀ (j:Nat) (c c' : U),args[j]? = some c->i1[j]? = some c'->gA h c c')->dG P G (.call f args h r h)
section
variable {P:Program} {G:Nat->U}
structure iH (N:Nat) (w:World) (R:Nat->Prop) (h:aN) (μ:ck) (σ:Nat->U) (a:Act) :Prop where
 size:a.tmps.size=N
 defers:a.defers=[]
 val:∀ t,aO w R h μ (σ t) (a.tmps.getD t undef)
theorem mI.ext {w w' : World} {R:Nat->Prop} {h h' : aN} {μ μ' : ck} (g:mI G w R h μ) (e:df w h μ w' h' μ') :mI G w' R h' μ':=fun i=>⟨(g i).1,(g i).2.ext e⟩
theorem iH.ext {N:Nat} {w w' : World} {R:Nat->Prop} {h h' : aN} {μ μ' : ck} {σ:Nat->U} {a:Act} (s:iH N w R h μ σ a) (e:df w h μ w' h' μ') :iH N w' R h' μ' σ a:=
 ⟨s.size,s.defers,fun t=>(s.val t).ext e⟩
theorem iH.c3 {N:Nat} {w:World} {R:Nat->Prop} {h:aN} {μ:ck} {σ:Nat->U} {a:Act} (s:iH N w R h μ σ a) (g:mI G w R h μ) (x:Operand) :aO w R h μ (c3 G σ x) (a.eval x) :=by
 cases x with
 | tmp t=>exact s.val t
 | const v=>exact aO.wR v
 | global i=>exact (g i).2
 | func f=>exact .fn f [] [] #[] #[] rfl rfl (fun _ _ _ aS=>by simp at aS) (fun _ _ _ aS=>by simp at aS)
theorem Fb {w:World} {R:Nat->Prop} {h:aN} {μ:ck}:aO w R h μ gL undef:=.bt [] #[] rfl (fun _ _ _ aS=>by simp at aS)
theorem iH.put {N:Nat} {w:World} {R:Nat->Prop} {h:aN} {μ:ck} {σ:Nat->U} {a:Act} (s:iH N w R h μ σ a) {dst:Option Tmp} (bf:jZ N dst=true) {c:U} {v:Value} (ap:aO w R h μ c v) :
  iH N w R h μ (hV σ dst c) (a.put dst v) :=by
 cases dst with
 | none=>exact s
 | some d=>
  have aL:d<a.tmps.size:=by rw[s.size]; simpa [jZ] using bf
  refine⟨by simp[Act.put,s.size],s.defers,fun t=>?_⟩;simp only[hV,Act.put];by_cases aW:t=d
  ·subst aW;rw[hP];simp[aL];exact ap
  ·rw[b2 _ _ _ _ aW];have:=s.val t;simpa [Array.getElem?_setIfInBounds_ne (Ne.symm aW)] using this
theorem ON {w:World} {R:Nat->Prop} {h:aN} {μ:ck} {ops:Array Oper} {σ:Nat->U} {tmps:Array Value} {o:Oper} {b:Bool} (aX:k7 ops σ o=some b)
  (ap:∀ d,(∃ j BP,o.guard=some (j,BP)/\(ops[j]?).bind (·.dst)=some d)->aO w R h μ (σ d) (tmps.getD d undef)) :Region.wanted o (yielded ops tmps)=b:=by
 unfold k7 at aX;unfold Region.wanted;cases aw:o.guard with
 | none=>rw[aw] at aX; simpa using aX
 | some gd=>
  obtain⟨j,BP⟩:=gd;rw[aw] at aX;simp only at aX ⊢;unfold yielded;cases bf:(ops[j]?).bind (·.dst) with
  | none=>
   rw[bf] at aX;simp only[Option.some.injEq] at aX;subst aX;simp
  | some d=>
   rw[bf] at aX;have AU:=ap d ⟨j,BP,aw,bf⟩;simp only[Option.bind_some] at aX ⊢;cases aW:tmps[d]? with
   | none=>
    have aM:tmps.getD d undef=undef:=by simp[Array.getD_eq_getD_getElem?,aW]
    rw[aM] at AU;cases ah:σ d<;>rw[ah] at aX AU<;>simp at aX<;>try (subst aX; simp)
    all_goals cases AU
   | some v=>
    have aM:tmps.getD d undef=v:=by simp[Array.getD_eq_getD_getElem?,aW]
    rw[aM] at AU;cases ah:σ d<;>rw[ah] at aX AU<;>simp at aX
    all_goals (cases AU<;>(subst aX; simp))
def oS (P:Program) (n:Nat) (c:Code) (Q:Exit->Act->World->Prop) (a:Act) (w:World) :Prop:=
 match c with
 | .loop c'=>Code.rounds P c' Q n a w
 | c=>c.wp P Q a w
theorem oS.wp {n:Nat} {c:Code} {Q:Exit->Act->World->Prop} {a:Act} {w:World} (h:oS P n c Q a w) :c.wp P Q a w:=by
 cases c<;>first | exact wp_loop_rounds n h | exact h
def xJ (P:Program) (G:Nat->U) :J->Prop
 | .code c N σ h e bD h'=>∃ n,∀ (R:Nat->Prop) (B:Nat) (w:World) (μ:ck) (a:Act) (Q:Exit->Act->World->Prop),bN R B w h μ->mI G w R h μ->iH N w R h μ σ a->
   (∀ dj w' μ',df w h μ w' h' μ'->bN R B w' h' μ'->iH N w' R h' μ' bD dj->Q e.out dj w')->oS P n c Q a w
 | .ops all l N σ h bD h'=>∀ (R:Nat->Prop) (B:Nat) (w:World) (μ:ck) (a:Act) (Q:Exit->Act->World->Prop),bN R B w h μ->mI G w R h μ->iH N w R h μ σ a->
   (∀ dj w' μ',df w h μ w' h' μ'->bN R B w' h' μ'->iH N w' R h' μ' bD dj->Q .normal dj w')->wpList P all Q l a w
 | .op op σ h v h'=>∀ (R:Nat->Prop) (B:Nat) (w:World) (μ:ck) (a:Act) (o:Oper) (K:Act->World->Prop) (Q:Exit->Act->World->Prop),o.op=op->bN R B w h μ->mI G w R h μ->
   (∀ x,aO w R h μ (c3 G σ x) (a.eval x))->(∀ a6 w' μ',df w h μ w' h' μ'->bN R B w' h' μ'->aO w' R h' μ' v a6->K (a.put o.dst a6) w')->o.wp P a w K Q
 | .call f args h r h'=>qS P G f args h r h'
theorem XT {N:Nat} {w:World} {R:Nat->Prop} {B:Nat} {h:aN} {μ:ck} {σ:Nat->U} {a:Act} (rel:bN R B w h μ) (s:iH N w R h μ σ a) {fn:Func} {r:U} (az:Bx P h σ fn=some r) :
  ∃ v,(results fn a.tmps).run P w=.ok v w/\aO w R h μ r v:=by
 have one:∀ (x:ResultVar) (c:U),By P h σ x=some c->∃ v,(∀ F:ResultVar->Sem Value,(∀ t,F (.tmp t)=pure (a.tmps.getD t undef))->(∀ p t,F (.cell p t)=(do loadVar t (<-asAddr (a.tmps.getD p undef))))->(F x).run P w=.ok v w)/\aO w R h μ c v:=by
  intro x c af;cases x with
  | tmp t=>
   simp only[By,Option.some.injEq] at af; subst af;exact⟨_,fun F ad _=>by rw[ad]; rfl,s.val t⟩
  | cell p t=>
   simp only[By] at af;obtain⟨v,ad,ae⟩:=V4 (P:=P) rel af (s.val p);refine⟨v,fun F _ ot=>?_,ae⟩;rw[ot];cases av:a.tmps.getD p undef with
   | pointer Pm=>
    cases Pm with
    | none=>rw[av] at ad; simp[Instr.loadAt,Instr.sureAddr] at ad
    | some Pm=>rw[av] at ad; simpa [Instr.loadAt,Instr.sureAddr,asAddr,av] using ad
   | _=>rw[av] at ad; simp[Instr.loadAt,Instr.sureAddr] at ad
 have all:∀ (l:List ResultVar) (cs:List U),w1 P h σ l=some cs->∃ vs:List Value,(∀ F:ResultVar->Sem Value,(∀ t,F (.tmp t)=pure (a.tmps.getD t undef))->(∀ p t,F (.cell p t)=(do loadVar t (<-asAddr (a.tmps.getD p undef))))->(l.mapM F).run P w=.ok vs w) ∧
   vs.length=cs.length/\∀ (j:Nat) (c:U) (v:Value),cs[j]? = some c->vs[j]? = some v->aO w R h μ c v:=by
  intro l
  induction l with
  | nil=>intro cs ah; simp only[w1,Option.some.injEq] at ah; subst ah; exact⟨[],fun F _ _=>by simp,rfl,fun _ _ _ aS=>by simp at aS⟩
  | cons x l aR=>
   intro cs ah;unfold w1 at ah;split at ah
   ·rename_i c cs' af al;simp only[Option.some.injEq] at ah; subst ah;obtain⟨v,ad,ae⟩:=one x c af;obtain⟨vs,aj,aG,bh⟩:=aR cs' al;refine⟨v::vs,fun F bZ cc=>by simp only[List.mapM_cons,Sem.run_bind,ad F bZ cc,Result.andThen_ok,aj F bZ cc,Sem.run_pure],by simp[aG],fun j c' a6 ai ap=>?_⟩;cases j with
    | zero=>simp at ai ap; subst ai ap; exact ae
    | succ j=>exact bh j c' a6 (by simpa using ai) (by simpa using ap)
   ·cases ah
 unfold Bx at az;cases al:w1 P h σ fn.results.toList with
 | none=>rw[al] at az; cases az
 | some cs=>
  rw[al] at az;simp only[Option.map_some,Option.some.injEq] at az; subst az;obtain⟨vs,ad,ae,aj⟩:=all _ _ al;have fQ:(results fn a.tmps).run P w=.ok (if aS:vs.toArray.size=1 then vs.toArray[0] else .tuple vs.toArray) w:=by
   unfold results;rw[Array.mapM_eq_mapM_toList];simp only[Sem.run_bind,Sem.run_map];rw[ad _ (fun _=>rfl) (fun _ _=>rfl)];simp
  refine⟨_,fQ,?_⟩
  match cs,vs,ae,aj with
  | [],[],_,_=>exact .bt [] #[] rfl (fun _ _ _ aS=>by simp at aS)
  | [c],[v],_,aj=>exact aj 0 c v rfl rfl
  | c::c'::cs,v::a6::vs,ae,aj=>
   simp only[List.size_toArray,List.length_cons];rw[dif_neg (by omega)];exact .bt _ _ (by simpa using ae) (fun j x y ai aJ=>aj j x y ai (by simpa using aJ))
theorem sv {w:World} {R:Nat->Prop} {h:aN} {μ:ck} {c:U} {v:Value} (ap:aO w R h μ c v) :c.closed=true->ed w (fun k=>R k/\¬ Own h μ k) c v:=by
 have al:∀ (cs:List U),a5 cs=true->∀ (j:Nat) (c:U),cs[j]? = some c->c.closed=true:=by
  intro cs
  induction cs with
  | nil=>intro _ j c ai; simp at ai
  | cons x cs aR=>
   intro ah j c ai;simp only[a5,Bool.and_eq_true] at ah;cases j with
   | zero=>simp at ai; subst ai; exact ah.1
   | succ j=>exact aR ah.2 j c (by simpa using ai)
 have DE:∀ (es:List (List U)),Cm es=true->∀ (i:Nat) (e:List U),es[i]? = some e->a5 e=true:=by
  intro es
  induction es with
  | nil=>intro _ j c ai; simp at ai
  | cons x cs aR=>
   intro ah j c ai;simp only[Cm,Bool.and_eq_true] at ah;cases j with
   | zero=>simp at ai; subst ai; exact ah.1
   | succ j=>exact aR ah.2 j c (by simpa using ai)
 have cell:∀ b o v,Cell w R h μ b o v->Cell w (fun k=>R k/\¬ Own h μ k) aN.empty (fun _=>none) b o v:=fun b o v ah=>
  ⟨ah.here,ah.one,⟨ah.ro,ah.free⟩,fun ⟨b,m,ad,ae,aj⟩=>by cases ae⟩
 unfold ed
 induction ap with
 | bool b=>exact fun _=>.bool b
 | int k n=>exact fun _=>.int k n
 | str bs=>exact fun _=>.str bs
 | kC=>exact fun _=>.kC
 | aH=>exact fun _=>.aH
 | iQ=>exact fun _=>.iQ
 | kA=>exact fun _=>.kA
 | kB=>exact fun _=>.kB
 | aF cs vs bC ad ap aR=>exact fun ah=>.aF cs vs bC ad fun j c v ai ga=>aR j c v ai ga (al cs (by simpa [U.closed] using ah) j c ai)
 | bt cs vs bC ap aR=>exact fun ah=>.bt cs vs bC fun j c v ai ga=>aR j c v ai ga (al cs (by simpa [U.closed] using ah) j c ai)
 | ptr=>exact fun ah=>by simp[U.closed] at ah
 | nf=>exact fun ah=>by simp[U.closed] at ah
 | bM cs off blk o eR ah ap aR=>exact fun ea=>.bM cs off blk o eR (fun j ai=>cell _ _ _ (ah j ai)) fun j c ai=>aR j c ai (al cs (by simpa [U.closed] using ea) j c ai)
 | aq=>exact fun ah=>by simp[U.closed] at ah
 | hI=>exact fun ah=>by simp[U.closed] at ah
 | iV=>exact fun ah=>by simp[U.closed] at ah
 | aZ z es blk off cap eR dt ax ah ap aR=>exact fun ea=>.aZ z es blk off cap eR dt ax (fun i j ay ai=>cell _ _ _ (ah i j ay ai)) fun i e am j c ai=>aR i e am j c ai (al e (DE es (by simpa [U.closed] using ea) i e am) j c ai)
 | gk z a cap=>exact fun _=>.gk z a cap
 | fn f first gB fs cs aE ah ad ae eM nP=>
  intro ea;simp only[U.closed,Bool.and_eq_true] at ea;exact .fn f first gB fs cs aE ah (fun j c v ai ga=>eM j c v ai ga (al _ ea.1 j c ai)) fun j c v ai ga=>nP j c v ai ga (al _ ea.2 j c ai)
 | mp=>exact fun ah=>by simp[U.closed] at ah
 | it=>exact fun ah=>by simp[U.closed] at ah
 | hF t c v ap aR=>exact fun ea=>.hF t c v (aR (by simpa [U.closed] using ea))
 | hz l=>exact fun _=>.hz l
 | bad v=>exact fun _=>.bad v
theorem zU {cs:List U} (ah:a5 cs=true) :∀ (j:Nat) (c:U),cs[j]? = some c->c.closed=true:=by
 induction cs with
 | nil=>intro j c ai; simp at ai
 | cons x cs aR=>
  intro j c ai;simp only[a5,Bool.and_eq_true] at ah;cases j with
  | zero=>simp at ai; subst ai; exact ah.1
  | succ j=>exact aR ah.2 j c (by simpa using ai)
theorem ed.up {w:World} {A:Nat->Prop} {R:Nat->Prop} {h:aN} {μ:ck} {c:U} {v:Value} (ap:ed w A c v) (du:∀ k,k<w.heap.size->A k->R k/\¬ Own h μ k) :aO w R h μ c v:=by
 have cell:∀ b o v,Cell w A aN.empty (fun _=>none) b o v->Cell w R h μ b o v:=fun b o v ah=>
  have ag:b<w.heap.size:=World.block_lt_of_cell? _ _ ah.here
  ⟨ah.here,ah.one,(du b ag ah.ro).1,(du b ag ah.ro).2⟩
 unfold ed at ap
 induction ap with
 | bool b=>exact .bool b
 | int k n=>exact .int k n
 | str bs=>exact .str bs
 | kC=>exact .kC
 | aH=>exact .aH
 | iQ=>exact .iQ
 | kA=>exact .kA
 | kB=>exact .kB
 | aF cs vs bC ad ap aR=>exact .aF cs vs bC ad aR
 | bt cs vs bC ap aR=>exact .bt cs vs bC aR
 | ptr b off sz cs m ag hm=>cases hm
 | nf b off sz a aw=>rcases aw with aw | ⟨n,cs,aw,_⟩<;>cases aw
 | bM cs off blk o eR ah ap aR=>exact .bM cs off blk o eR (fun j ai=>cell _ _ _ (ah j ai)) aR
 | aq z b off len cap sz cap' cs m ag hm=>cases hm
 | hI z b off len cap sz cap' a al ah aw=>rcases aw with aw | ⟨n,cs,aw,_⟩<;>cases aw
 | iV z b off sz a cs m ag hm=>cases hm
 | aZ z es blk off cap eR dt ax ah ap aR=>exact .aZ z es blk off cap eR dt ax (fun i j ay ai=>cell _ _ _ (ah i j ay ai)) aR
 | gk z a cap=>exact .gk z a cap
 | fn f first gB fs cs aE ah ad ae eM nP=>exact .fn f first gB fs cs aE ah eM nP
 | mp b m ag hm=>cases hm
 | it b m ag hm=>cases hm
 | hF t c v ap aR=>exact .hF t c v aR
 | hz l=>exact .hz l
 | bad v=>exact .bad v
theorem WS {R:Nat->Prop} {B:Nat} {w:World} {h:aN} {μ:ck} (rel:bN R B w h μ) {k:Nat} (au:Own h μ k) :k<w.heap.size:=by
 obtain⟨b,m,ad,ae,rfl⟩:=au;exact rel.lt ad ae
theorem w0 {R:Nat->Prop} {B:Nat} {w w' : World} {h:aN} {μ:ck} (rel:bN R B w h μ) (ag:fW w w') :df w h μ w' h μ/\bN R B w' h μ:=by
 have e:df w h μ w' h μ:=⟨⟨ag.os,ag.tape,ag.output,ag.size,fun k ar _=>ag.block k ar,fun _ au=>.inl au,fun b sz cs m ad ae=>.inl ⟨cs,ad,ae⟩,fun _ _ aw=>aw,fun _ _ _ ad ae=>⟨ad,ae⟩,Nat.le_refl _,ag.drawn⟩,fun _ _ hm=>hm⟩
 refine⟨e,fun b m hm=>?_,rel.inj,rel.base,rel.fresh,rel.up,Nat.le_trans rel.size ag.size,rel.lw⟩;cases al:live (h.f b) with
 | false=>cases ah:h.f b<;>first | trivial | (rw[ah] at al; cases al)
 | true=>exact (rel.blk b m hm).ext e.toExt0 (ag.block _ (rel.lt al hm))
theorem XD {w:World} {R:Nat->Prop} {B:Nat} {h:aN} {μ:ck} (rel:bN R B w h μ) :∀ {c c' : U},gA h c c'->∀ {v:Value},aO w R h μ c v->ed w R c' v:=by
 intro c c' az;have rl:∀ {b sz:Nat} {cs:List U} {m:M},h.f b=.cells sz cs->μ b=some m->∃ f:Nat->Value,∀ (j:Nat) (c:U),cs[j]? = some c->Cell w R aN.empty (fun _=>none) m.r (m.s+j) (f j)/\aO w R h μ c (f j) :=by
  intro b sz cs m ag hm;have iI:=rel.blk b m hm;rw[ag] at iI;obtain⟨cW,dI,arr,t,fa,aX,aC,aE,m0⟩:=iI;have j0:R m.r:=rel.up _ (rel.base b m (by rw[ag]; rfl) hm);refine⟨fun j=>(arr[m.s+j]?).getD undef,fun j c ai=>?_⟩;obtain⟨v,ad,ae,aj⟩:=m0 _ _ ai;refine⟨⟨?_,by simp only[ad,Option.getD_some]; exact ae,j0,fun ⟨b,m,ad,ae,aj⟩=>by cases ae⟩,by simp only[ad,Option.getD_some]; exact aj⟩;simp only[World.cell?,aX,ad,Option.getD_some,Option.isSome_none];rfl
 induction az with
 | same c ah=>
  intro v ap;exact (ed.up (sv ap ah) fun k _ ar=>⟨ar.1,fun ⟨b,m,ad,ae,aj⟩=>by cases ae⟩:aO w R aN.empty (fun _=>none) _ v)
 | aF cs cs' al h aR=>
  intro v ap;cases ap with
  | aF _ vs hR ad ap=>
   refine .aF cs' vs (by omega) ad (fun j c' v ai ga=>?_);have aL:j<cs.length:=by rw[<-al]; exact (List.getElem?_eq_some_iff.1 ai).1
   exact aR j cs[j] c' (List.getElem?_eq_getElem aL) ai (ap j cs[j] v (List.getElem?_eq_getElem aL) ga)
 | bt cs cs' al h aR=>
  intro v ap;cases ap with
  | bt _ vs hR ap=>
   refine .bt cs' vs (by omega) (fun j c' v ai ga=>?_);have aL:j<cs.length:=by rw[<-al]; exact (List.getElem?_eq_some_iff.1 ai).1
   exact aR j cs[j] c' (List.getElem?_eq_getElem aL) ai (ap j cs[j] v (List.getElem?_eq_getElem aL) ga)
 | r8 z b off cap sz=>
  intro v ap;cases ap with
  | aq _ _ _ _ _ _ cap' cs m ag hm al au ah=>exact .gk z _ cap'
  | hI _ _ _ _ _ _ cap' a al ah aw=>exact .gk z _ cap'
  | iV _ _ _ _ a cs m ag hm=>exact .gk z a 0
 | ptr b off sz cs cs' ag al h aR=>
  intro v ap;cases ap with
  | nf _ _ _ a aw=>
   exfalso;rcases aw with aw | ⟨n,hO,aw,aL⟩
   ·rw[ag] at aw; cases aw
   ·rw[ag] at aw; cases aw; omega
  | ptr _ _ _ hO m dW hm=>
   obtain⟨f,aE⟩:=rl ag hm;refine .bM cs' off m.r m.s f (fun j ai=>?_) (fun j c' ai=>?_)
   ·exact (aE j cs[j] (List.getElem?_eq_getElem (by omega))).1
   ·have aL:j<cs.length:=by rw[<-al]; exact (List.getElem?_eq_some_iff.1 ai).1
    exact aR j cs[j] c' (List.getElem?_eq_getElem aL) ai (aE j cs[j] (List.getElem?_eq_getElem aL)).2
 | aq z b off len cap sz cs es ag al ax cQ h aR=>
  intro v ap;cases ap with
  | iV _ _ _ _ a hO m dW ku=>
   obtain rfl:=List.length_eq_zero_iff.1 al;exact .gk z a 0
  | hI _ _ _ _ _ _ cap' a al ah aw=>
   exfalso;rcases aw with aw | ⟨n,hO,aw,aL⟩
   ·rw[ag] at aw; cases aw
   ·rw[ag] at aw; cases aw; omega
  | aq _ _ _ _ _ _ cap' hO m dW hm i7 au ah=>
   have dg:len<=cap':=by rcases ah with ⟨_,h⟩ | ⟨_,h,_⟩<;>omega
   obtain⟨f,aE⟩:=rl ag hm;subst al;have aL:∀ i j,i<es.length->j<z->off+(i*z+j)<cs.length:=by
    intro i j ay ai;have:i*z+z<=es.length*z:=by rw[<-Nat.succ_mul]; exact Nat.mul_le_mul_right _ ay
    omega
   refine .aZ z es m.r (m.s+off) cap' (fun i j=>f (off+(i*z+j))) dg ax (fun i j ay ai=>?_) (fun i e am j c' ai=>?_)
   ·have:=(aE _ _ (List.getElem?_eq_getElem (aL i j ay ai))).1;rw[<-Nat.add_assoc] at this;exact this
   ·have ay:i<es.length:=(List.getElem?_eq_some_iff.1 am).1;have m3:j<z:=by rw[<-ax e (List.mem_of_getElem? am)]; exact (List.getElem?_eq_some_iff.1 ai).1
    exact aR i j e _ c' am ai (List.getElem?_eq_getElem (aL i j ay m3)) (aE _ _ (List.getElem?_eq_getElem (aL i j ay m3))).2
theorem Ge:∀ {cs:List U},mf cs=true->∀ (j:Nat) (c:U),cs[j]? = some c->c.flat=true:=by
 intro cs
 induction cs with
 | nil=>intro _ j c h; simp at h
 | cons x cs aR=>
  intro ah j c ai;simp only[mf,Bool.and_eq_true] at ah;cases j with
  | zero=>simp at ai; subst ai; exact ah.1
  | succ j=>exact aR ah.2 j c (by simpa using ai)
theorem SF {w w' : World} {A R:Nat->Prop} {h h' : aN} {μ μ' : ck} {c:U} {v:Value} (ap:aO w A h μ c v) (aE:c.flat=true) :aO w' R h' μ' c v:=by
 induction ap with
 | bool b=>exact .bool b
 | int k n=>exact .int k n
 | str bs=>exact .str bs
 | kC=>exact .kC
 | aH=>exact .aH
 | iQ=>exact .iQ
 | kA=>exact .kA
 | kB=>exact .kB
 | aF cs vs bC ad ap aR=>exact .aF cs vs bC ad (fun j c v ai ga=>aR j c v ai ga (Ge (by simpa only [U.flat] using aE) j c ai))
 | bt cs vs bC ap aR=>exact .bt cs vs bC (fun j c v ai ga=>aR j c v ai ga (Ge (by simpa only [U.flat] using aE) j c ai))
 | hF t c v ap aR=>exact .hF t c v (aR (by simpa only [U.flat] using aE))
 | hz l=>exact .hz l
 | _=>simp[U.flat] at aE
theorem aks {f:FuncId} {args i1:List U} {r:U} {h:aN} (av:bz P G f i1 r) (bC:i1.length=args.length) (m6:∀ (j:Nat) (c c' : U),args[j]? = some c->i1[j]? = some c'->gA h c c')
  (hp:r.flat=true) :xJ P G (.call f args h r h) :=by
 intro R B w μ vs rel g al ap;refine (av w R vs (fun i=>?_) (by omega) (fun j c' v ai ga=>?_)).mono ?_
 ·exact (ed.up (sv (g i).2 (g i).1) fun k _ ar=>⟨ar.1,fun ⟨b,m,ad,ae,aj⟩=>by cases ae⟩:aO w R aN.empty (fun _=>none) _ _)
 ·have aL:j<args.length:=by rw[<-bC]; exact (List.getElem?_eq_some_iff.1 ai).1
  exact XD rel (m6 j args[j] c' (List.getElem?_eq_getElem aL) ai) (ap j args[j] v (List.getElem?_eq_getElem aL) ga)
 ·rintro e w' ⟨v,rfl,ag,az⟩;obtain⟨bZ,cc⟩:=w0 rel ag;exact⟨v,μ,rfl,bZ,cc,SF az hp⟩
theorem akt {f:FuncId} {args i1:List U} {r:U} {h:aN} (av:gy P G f i1 r) (bC:i1.length=args.length) (m6:∀ (j:Nat) (c c' : U),args[j]? = some c->i1[j]? = some c'->gA h c c') :xJ P G (.call f args h r h) :=by
 intro R B w μ vs rel g al ap;refine (av w R vs (fun i=>?_) (by omega) (fun j c' v ai ga=>?_)).mono ?_
 ·exact (ed.up (sv (g i).2 (g i).1) fun k _ ar=>⟨ar.1,fun ⟨b,m,ad,ae,aj⟩=>by cases ae⟩:aO w R aN.empty (fun _=>none) _ _)
 ·have aL:j<args.length:=by rw[<-bC]; exact (List.getElem?_eq_some_iff.1 ai).1
  exact XD rel (m6 j args[j] c' (List.getElem?_eq_getElem aL) ai) (ap j args[j] v (List.getElem?_eq_getElem aL) ga)
 ·rintro e w' ⟨v,rfl,ag,az⟩;obtain⟨bZ,cc⟩:=w0 rel ag;exact⟨v,μ,rfl,bZ,cc,az.up fun k ar du=>⟨rel.up k (Nat.le_trans rel.size du),fun au=>by have:=WS rel au; omega⟩⟩
theorem gy.Fa {f:FuncId} {args:List U} {r:U} (av:gy P G f args r) :bz P G f args r:=fun w A vs aw al ap=>
 (av w A vs aw al ap).mono fun e w' ⟨v,ad,ae,aj⟩=>⟨v,ad,ae,(ed.up aj fun k _ ar=>⟨.inr ar,fun ⟨b,m,ad,ae,aj⟩=>by cases ae⟩:aO w' _ aN.empty (fun _=>none) _ _)⟩
theorem aku {f:FuncId} {args:List U} {r:U} {h:aN} (av:bz P G f args r) (ah:a5 args=true) :xJ P G (.call f args h r h) :=by
 intro R B w μ vs rel g al ap;refine (av w (fun k=>R k/\¬ Own h μ k) vs (fun i=>?_) al (fun j c v ai ga=>sv (ap j c v ai ga) (zU ah j c ai))).mono ?_
 ·exact sv (g i).2 (g i).1
 ·rintro e w' ⟨v,rfl,ag,az⟩;obtain⟨bZ,cc⟩:=w0 rel ag;refine⟨v,μ,rfl,bZ,cc,az.up (fun k ar du=>?_)⟩;rcases du with du | du
  ·exact du
  ·exact⟨rel.up k (Nat.le_trans rel.size du),fun au=>by have:=WS rel au; omega⟩
end

section
variable {P:Program} {G:Nat->U}
theorem aji {w:World} {R:Nat->Prop} {h:aN} {μ:ck} {aA:Operand->U} {ek:Operand->Value} (c9:∀ x,aO w R h μ (aA x) (ek x)) (o:Oper) {cs:List U} {mk:Nat->U} (aD:nV P aA o.op=some (cs,mk)) :
  ∃ v arr t,(execOp ek o).run P w=.ok (.value v) (w.alloc (.cells arr t))/\lF w R h μ cs arr ∧
   ∀ (w' : World) (tI:Nat->Prop) (h' : aN) (μ' : ck) (b:Nat),h'.f b=.cells cs.length cs->μ' b=some ⟨w.heap.size,0,arr.size⟩->aO w' tI h' μ' (mk b) v:=by
 obtain⟨dst,op,type,pos,after,guard⟩:=o;cases op<;>simp only[nV] at aD<;>try (cases aD; done)
 case alloc t=>
  cases ax:ic P t with
  | none=>rw[ax] at aD; cases aD
  | some z=>
   rw[ax] at aD;simp only[Option.map_some,Option.some.injEq,Prod.mk.injEq] at aD;obtain⟨rfl,rfl⟩:=aD;obtain⟨v,ap,az⟩:=xB (P:=P) (w:=w) (R:=R) (h:=h) (μ:=μ) ax;refine⟨.pointer (some ⟨w.heap.size,0,none⟩),v.cells,t,by simp[execOp,Instr.alloc,ap,newVar,newRow],az,fun w' tI h' μ' b ag hm=>?_⟩;have:=aO.ptr (w:=w') (R:=tI) (h:=h') (μ:=μ') b 0 z.length z _ ag hm;simpa using this
 case box t x=>
  cases ax:(aA x).cells with
  | none=>rw[ax] at aD; cases aD
  | some z=>
   rw[ax] at aD;simp only[Option.map_some,Option.some.injEq,Prod.mk.injEq] at aD;obtain⟨rfl,rfl⟩:=aD;obtain⟨bZ,cc⟩:=FV (c9 x) ax;refine⟨.pointer (some ⟨w.heap.size,0,none⟩),(ek x).cells,t,by simp[execOp,Instr.box,newVar,newRow],⟨bZ,cc⟩,fun w' tI h' μ' b ag hm=>?_⟩;have:=aO.ptr (w:=w') (R:=tI) (h:=h') (μ:=μ') b 0 z.length z _ ag hm;simpa using this
 case buildSlice t len parts=>
  cases am:i3 P t with
  | none=>rw[am] at aD; cases aD
  | some e=>
  rw[am] at aD;simp only at aD;cases ax:cz P e with
  | none=>rw[ax] at aD; cases aD
  | some z=>
  cases jn:ic P e with
  | none=>rw[ax,jn] at aD; cases aD
  | some zero=>
  rw[ax,jn] at aD;simp only at aD;split at aD
  ·rename_i j2;cases aE:h4 (fun i=>some (i*z,z)) (dC zero len) (parts.toList.map fun p=>(p.1,aA p.2)) with
   | none=>rw[aE] at aD; cases aD
   | some cs'=>
    rw[aE] at aD;simp only[Option.map_some,Option.some.injEq,Prod.mk.injEq] at aD;obtain⟨rfl,rfl⟩:=aD;obtain⟨bZ,cc⟩:=Nv c9 parts;obtain⟨ea,arr,fQ,ae⟩:=P4 am ax jn j2.1 j2.2 aE bZ cc;refine⟨.slice (some ⟨w.heap.size,0,none⟩) len len,arr,e,by simp[execOp,fQ],ae,fun w' tI h' μ' b ag hm=>?_⟩;rw[ea] at ag;have:=aO.aq (w:=w') (R:=tI) (h:=h') (μ:=μ') z b 0 len len (len*z) len _ _ ag hm (Nat.le_refl _) (by omega) (.inr ⟨by omega,Nat.le_refl _,by simp only; rw[ae.1,ea]; omega⟩);simpa using this
  ·cases aD
 case makeSlice t l c=>
  split at aD
  ·rename_i e li h2 am dp fj;obtain⟨kl,qi⟩:=sp dp (c9 l);obtain⟨kc,jK⟩:=sp fj (c9 c);cases ax:cz P e with
   | none=>rw[ax] at aD; cases aD
   | some z=>
   cases dQ:kL P e with
   | none=>rw[ax,dQ] at aD; cases aD
   | some by_=>
   cases jn:ic P e with
   | none=>rw[ax,dQ,jn] at aD; cases aD
   | some zero=>
   rw[ax,dQ,jn] at aD;simp only at aD;split at aD
   ·rename_i j2;obtain⟨io,aI,qf,GO,dL⟩:=j2;simp only[Option.some.injEq,Prod.mk.injEq] at aD;obtain⟨rfl,rfl⟩:=aD;obtain⟨bC,arr,fQ,cA⟩:=Wf (w:=w) (R:=R) (h:=h) (μ:=μ) (kl:=kl) (kc:=kc) am ax dQ jn io aI qf GO dL;refine⟨.slice (some ⟨w.heap.size,0,none⟩) li.toNat h2.toNat,arr,e,by simp[execOp,qi,jK,fQ],cA,fun w' tI h' μ' b ag hm=>?_⟩;rw[bC] at ag;have:=aO.aq (w:=w') (R:=tI) (h:=h') (μ:=μ') z b 0 li.toNat h2.toNat (h2.toNat*z) h2.toNat _ _ ag hm (by omega) (by omega) (.inr ⟨by omega,Nat.le_refl _,by simp only; rw[cA.1,bC]; omega⟩);simpa using this
   ·cases aD
  ·cases aD
theorem oV.rel {R:Nat->Prop} {B:Nat} {w:World} {h h' : aN} {μ:ck} (g:oV h h') (rel:bN R B w h μ) :df w h μ w h' μ/\bN R B w h' μ:=by
 have aL:∀ b m,μ b=some m->b<h.n:=fun b m hm=>rel.nu hm
 have e:df w h μ w h' μ:=by
  refine⟨⟨rfl,rfl,rfl,Nat.le_refl _,fun _ _ _=>rfl,?_,?_,?_,?_,g.n,Nat.le_refl _⟩,fun _ _ hm=>hm⟩
  ·rintro k ⟨b,m,al,hm,rfl⟩;rw[g.same b (aL b m hm)] at al;exact .inl ⟨b,m,al,hm,rfl⟩
  ·intro b sz cs m ag hm;exact .inl ⟨cs,by rw[g.same b (aL b m hm)]; exact ag,hm⟩
  ·rintro b sz aw;have ag:b<h.n:=by
    rcases Nat.lt_or_ge b h.n with ad | ad
    ·exact ad
    ·have:=rel.fresh b ad;rcases aw with aw | ⟨n,cs,aw,_⟩<;>rw[this] at aw<;>cases aw
   rcases aw with aw | ⟨n,cs,aw,kQ⟩
   ·exact .inl (by rw[g.same b ag]; exact aw)
   ·exact .inr ⟨n,cs,by rw[g.same b ag]; exact aw,kQ⟩
  ·intro b k m ag hm;exact⟨by rw[g.same b (aL b m hm)]; exact ag,hm⟩
 refine⟨e,fun b m hm=>?_,fun b bg m cm al dt hm bW az=>?_,fun b m al hm=>?_,g.fresh rel.fresh,rel.up,rel.size,fun b ag=>rel.lw b (Nat.le_trans g.n ag)⟩
 ·rw[g.same b (aL b m hm)];exact (rel.blk b m hm).ext e.toExt0 rfl
 ·rw[g.same b (aL b m hm)] at al;rw[g.same bg (aL bg cm bW)] at dt;exact rel.inj b bg m cm al dt hm bW az
 ·rw[g.same b (aL b m hm)] at al;exact rel.base b m al hm
theorem YT {K:Act->World->Prop} {Q:Exit->Act->World->Prop} {e:sf} {a:Act} {w:World} (am:e≠.normal) (h:Q e.out a w) :Exit.then K Q e.out a w:=by
 cases e with
 | normal=>exact absurd rfl am
 | exit id=>exact h
 | ret=>exact h
theorem aaQ {id:Nat} {Q:Exit->Act->World->Prop} {e:sf} {a:Act} {w:World} (am:e≠.exit id) (h:Q e.out a w) :Exit.inBlock id Q e.out a w:=by
 cases e with
 | normal=>exact h
 | exit sX=>
  have:sX≠id:=fun aS=>am (by rw[aS])
  simpa [Exit.inBlock,sf.out,this] using h
 | ret=>exact h
def O2 (P:Program) (G:Nat->U) :Prop:=
 ∀ {id:Nat} {ops:Array Oper} {N:Nat} {σ:Nat->U} {h:aN} {bD:Nat->U} {h' : aN} (pre:Nat->Nat->Bool) (val:Nat->U) (W:Nat->Bool) (cls:Nat->Fr) (m:Nat) (ak:Nat->Nat) (fX si:Nat->aN) (g7:Nat->Nat) (cells:Nat->List U),
  tA ops pre->
  (∀ (i:Nat) (o:Oper),ops[i]? = some o->jZ N o.dst=true)->
  oV h (fX 0)->h'=fX m->(bD=fun t=>match ki ops t with | some i=>val i | none=>σ t)->
  (∀ (i:Nat) (o:Oper),ops[i]? = some o->W i=true->cls i=.gY->∃ q,q<m/\ak q=i)->
  (∀ q,q<m->∃ o,ops[ak q]? = some o/\W (ak q)=true/\cls (ak q)=.gY)->
  (∀ q eb,q<m->eb<m->q<eb->pre (ak eb) (ak q)=true)->
  (∀ q eb,q<m->eb<m->ak q=ak eb->q=eb)->
  (∀ (i:Nat) (o:Oper),ops[i]? = some o->k7 ops (nC ops pre val σ i o) o=some (W i))->
  (∀ (i:Nat) (o:Oper),ops[i]? = some o->W i=false->val i=gL)->
  (∀ (i:Nat) (o:Oper),ops[i]? = some o->W i=true->cls i=.pure->∀ k,z7 pre m ak i k->c6 P (fX k) (c3 G (nC ops pre val σ i o)) o.op=some (.val (val i) (fX k)))->
  (∀ (i:Nat) (o:Oper),ops[i]? = some o->W i=true->cls i=.new->∃ mk,nV P (c3 G (nC ops pre val σ i o)) o.op=some (cells i,mk)/\val i=mk (g7 i)/\h.n<=g7 i ∧
    ∀ k,z7 pre m ak i k->(fX k).f (g7 i)=.cells (cells i).length (cells i))->
  (∀ (i j:Nat) (o dw:Oper),ops[i]? = some o->ops[j]? = some dw->W i=true->W j=true->cls i=.new->cls j=.new->g7 i=g7 j->i=j)->
  (∀ (i:Nat) (o:Oper) (q:Nat),ops[i]? = some o->W i=true->cls i=.new->q<m->g7 i<(fX q).n\/(si q).n<=g7 i)->
  (∀ q,q<m->oV (si q) (fX (q+1)))->
  (∀ (q:Nat) (o:Oper),q<m->ops[ak q]? = some o->xJ P G (.op o.op (nC ops pre val σ (ak q) o) (fX q) (val (ak q)) (si q)))->
  xJ P G (.code (.region id ops true) N σ h .normal bD h')
theorem nr.ext {h ae:aN} (k:nr h ae) (w:World) (μ:ck) :df w h μ w ae μ:=by
 refine⟨⟨rfl,rfl,rfl,Nat.le_refl _,fun _ _ _=>rfl,?_,?_,?_,?_,Nat.le_of_eq k.n.symm,Nat.le_refl _⟩,fun _ _ hm=>hm⟩
 ·rintro r ⟨b,m,al,hm,rfl⟩;refine .inl ⟨b,m,?_,hm,rfl⟩;rcases k.blk b with am | ⟨sz,cs,ah,_⟩
  ·rw[<-am]; exact al
  ·rw[ah]; rfl
 ·intro b sz cs m ag hm;rcases k.blk b with am | ⟨sz',cs',ah,bf | ⟨hO,CZ,_⟩⟩
  ·exact .inl ⟨cs,by rw[am]; exact ag,hm⟩
  ·exact .inr (.inl bf)
  ·rw[ag] at ah; cases ah; exact .inl ⟨hO,CZ,hm⟩
 ·rintro b sz (ag | ⟨n,cs,ag,aL⟩)
  ·rcases k.blk b with am | ⟨sz',cs',ah,_⟩
   ·exact .inl (am.trans ag)
   ·rw[ag] at ah; cases ah
  ·rcases k.blk b with am | ⟨sz',cs',ah,bf | ⟨hO,CZ,_⟩⟩
   ·exact .inr ⟨n,cs,by rw[am]; exact ag,aL⟩
   ·exact .inl bf
   ·rw[ag] at ah; cases ah; exact .inr ⟨n,hO,CZ,aL⟩
 ·intro b na m ag hm;rcases k.blk b with am | ⟨sz',cs',ah,_⟩
  ·exact⟨by rw[am]; exact ag,hm⟩
  ·rw[ah] at ag; cases ag
theorem nr.live {h ae:aN} (k:nr h ae) {b:Nat} (al:live (ae.f b)=true) :live (h.f b)=true:=by
 rcases k.blk b with am | ⟨sz,cs,ah,_⟩
 ·rw[<-am]; exact al
 ·rw[ah]; rfl
theorem nr.pH {R:Nat->Prop} {B:Nat} {w:World} {h ae:aN} {μ:ck} (rel:bN R B w h μ) (k:nr h ae) :∀ {c b9:U},np h ae c b9->∀ {v:Value},aO w R h μ c v->aO w R ae μ b9 v:=by
 intro c b9 az
 induction az with
 | same c=>intro v ap; exact ap.ext (k.ext w μ)
 | aF cs cs' al h aR=>
  intro v ap;cases ap with
  | aF _ vs hR ad ap=>
   refine .aF cs' vs (by omega) ad (fun j c' v ai ga=>?_);have aL:j<cs.length:=by rw[<-al]; exact (List.getElem?_eq_some_iff.1 ai).1
   exact aR j cs[j] c' (List.getElem?_eq_getElem aL) ai (ap j cs[j] v (List.getElem?_eq_getElem aL) ga)
 | r8 z b off cap sz=>
  intro v ap;cases ap with
  | aq _ _ _ _ _ _ cap' cs m ag hm al au ah=>exact .gk z _ cap'
  | hI _ _ _ _ _ _ cap' a al ah aw=>exact .gk z _ cap'
  | iV _ _ _ _ a cs m ag hm=>exact .gk z a 0
 | aq z b off len cap sz cs es ag bf al ax cQ ap aR=>
  intro v ap;cases ap with
  | iV _ _ _ _ a hO m dW ku=>
   obtain rfl:=List.length_eq_zero_iff.1 al;exact .gk z a 0
  | hI _ _ _ _ _ _ cap' a al ah aw=>
   exfalso;rcases aw with aw | ⟨n,hO,aw,aL⟩
   ·rw[ag] at aw; cases aw
   ·rw[ag] at aw; cases aw; omega
  | aq _ _ _ _ _ _ cap' hO m dW hm i7 au ah=>
   rw[ag] at dW; cases dW;have iI:=rel.blk b m hm;rw[ag] at iI;obtain⟨cW,dI,arr,t,fa,aX,aC,aE,m0⟩:=iI;have dg:len<=cap':=by rcases ah with ⟨_,h⟩ | ⟨_,h,_⟩<;>omega
   have j5:Go.b0.live (h.f b)=true:=by rw[ag]; rfl
   have j0:R m.r:=rel.up _ (rel.base b m j5 hm);have cR:¬ Own ae μ m.r:=by
    rintro⟨bg,cm,dt,bW,ph⟩;have:=rel.inj bg b cm m (k.live dt) j5 bW hm ph;subst this;rw[bf] at dt; cases dt
   subst al;have rl:∀ i j,i<es.length->j<z->∃ c v,cs[off+(i*z+j)]? = some c/\arr[m.s+(off+(i*z+j))]? = some v/\v.oneCell'=true/\aO w R h μ c v:=by
    intro i j ay ai;have aL:off+(i*z+j)<cs.length:=by
     have:i*z+z<=es.length*z:=by rw[<-Nat.succ_mul]; exact Nat.mul_le_mul_right _ ay
     omega
    obtain⟨v,ad,ae,aj⟩:=m0 _ _ (List.getElem?_eq_getElem aL);exact⟨_,v,List.getElem?_eq_getElem aL,ad,ae,aj⟩
   refine .aZ z es m.r (m.s+off) cap' (fun i j=>(arr[m.s+(off+(i*z+j))]?).getD undef) dg ax (fun i j ay ai=>?_) (fun i e am j c' ai=>?_)
   ·obtain⟨c,v,ad,ae,aj,aG⟩:=rl i j ay ai;refine⟨?_,?_,j0,cR⟩
    ·simp only[World.cell?,aX,ae,Option.getD_some,Option.isSome_none];rw[show m.s+off+(i*z+j)=m.s+(off+(i*z+j)) by omega,ae]; rfl
    ·rw[ae]; exact aj
   ·have ay:i<es.length:=(List.getElem?_eq_some_iff.1 am).1;have m3:j<z:=by rw[<-ax e (List.mem_of_getElem? am)]; exact (List.getElem?_eq_some_iff.1 ai).1
    obtain⟨c,v,ad,ae,aj,aG⟩:=rl i j ay m3;simp only[ae,Option.getD_some];exact aR i j e c c' am ai ad aG
theorem nr.rel {R:Nat->Prop} {B:Nat} {w:World} {h ae:aN} {μ:ck} (rel:bN R B w h μ) (k:nr h ae) :bN R B w ae μ:=by
 refine⟨?_,?_,?_,?_,rel.up,rel.size,?_⟩
 ·intro b m hm;have ag:=rel.blk b m hm;rcases k.blk b with am | ⟨sz,cs,ah,bf | ⟨hO,CZ,bC,ap⟩⟩
  ·rw[am]; exact ag.ext (k.ext w μ).toExt0 rfl
  ·rw[bf]; trivial
  ·rw[CZ];rw[ah] at ag;obtain⟨ad,gC,arr,t,fa,aj,aG,bh,bF⟩:=ag;refine⟨by omega,gC,arr,t,fa,aj,aG,bh,fun j b9 ai=>?_⟩;have aL:j<cs.length:=by rw[<-bC]; exact (List.getElem?_eq_some_iff.1 ai).1
   obtain⟨v,a2,a9,bV⟩:=bF j cs[j] (List.getElem?_eq_getElem aL);exact⟨v,a2,a9,k.pH rel (ap j cs[j] b9 (List.getElem?_eq_getElem aL) ai) bV⟩
 ·intro b bg m cm al dt hm bW az;exact rel.inj b bg m cm (k.live al) (k.live dt) hm bW az
 ·intro b m al hm;exact rel.base b m (k.live al) hm
 ·intro b ag;rw[k.n] at ag;rcases k.blk b with am | ⟨sz,cs,ah,_⟩
  ·rw[am]; exact rel.fresh b ag
  ·rw[rel.fresh b ag] at ah; cases ah
 ·intro b ag;rw[k.n] at ag;exact rel.lw b ag
theorem ama (bf:O2 P G) {j:J} (ai:dG P G j) :xJ P G j:=by
 induction ai with
 | skip N σ h=>exact⟨0,fun R B w μ a Q rel g s k=>wp_skip (k a w μ (.refl _ _ _) rel s)⟩
 | label l N σ h=>exact⟨0,fun R B w μ a Q rel g s k=>wp_label (k a w μ (.refl _ _ _) rel s)⟩
 | ret N σ h=>exact⟨0,fun R B w μ a Q rel g s k=>wp_ret (k a w μ (.refl _ _ _) rel s)⟩
 | exit id N σ h=>exact⟨0,fun R B w μ a Q rel g s k=>wp_exit (k a w μ (.refl _ _ _) rel s)⟩
 | Ye ad ae eM nP=>
  obtain⟨iP,eM⟩:=eM;obtain⟨mz,nP⟩:=nP;exact⟨0,fun R B w μ a Q rel g s k=>wp_seq (oS.wp (eM R B w μ a _ rel g s fun a2 bL g5 aP dh cY=>
   oS.wp (nP R B bL g5 a2 Q dh (g.ext aP) cY fun a9 w2 oT bw dY hX=>k a9 w2 oT (aP.trans bw) dY hX)))⟩
 | N6 ad am eM=>
  obtain⟨iP,eM⟩:=eM;exact⟨0,fun R B w μ a Q rel g s k=>wp_seq (oS.wp (eM R B w μ a _ rel g s fun a2 bL g5 aP dh cY=>YT am (k a2 bL g5 aP dh cY)))⟩
 | cond ah ad eM=>
  rename_i c x y N σ h b e bD h';obtain⟨iP,eM⟩:=eM;refine⟨0,fun R B w μ a Q rel g s k=>?_⟩;have ap:=s.c3 g c;rw[ah] at ap;cases sD:a.eval c<;>rw[sD] at ap<;>try (cases ap; done)
  cases ap;exact wp_cond sD (oS.wp (eM R B w μ a Q rel g s k))
 | FK ad am eM=>
  obtain⟨iP,eM⟩:=eM;exact⟨0,fun R B w μ a Q rel g s k=>wp_block (oS.wp (eM R B w μ a _ rel g s fun a2 bL g5 aP dh cY=>aaQ am (k a2 bL g5 aP dh cY)))⟩
 | PZ ad eM=>
  obtain⟨iP,eM⟩:=eM;exact⟨0,fun R B w μ a Q rel g s k=>wp_block (oS.wp (eM R B w μ a _ rel g s fun a2 bL g5 aP dh cY=>by
   simp only[sf.out,Exit.inBlock,if_true];exact k a2 bL g5 aP dh cY))⟩
 | Bb ad ae eM nP=>
  obtain⟨iP,eM⟩:=eM;obtain⟨mz,nP⟩:=nP;exact⟨mz+1,fun R B w μ a Q rel g s k=>oS.wp (eM R B w μ a _ rel g s fun a2 bL g5 aP dh cY=>
   nP R B bL g5 a2 Q dh (g.ext aP) cY fun a9 w2 oT bw dY hX=>k a9 w2 oT (aP.trans bw) dY hX)⟩
 | MZ ad am eM=>
  obtain⟨iP,eM⟩:=eM;exact⟨1,fun R B w μ a Q rel g s k=>oS.wp (eM R B w μ a _ rel g s fun a2 bL g5 aP dh cY=>YT am (k a2 bL g5 aP dh cY))⟩
 | scope ad eM=>
  obtain⟨iP,eM⟩:=eM;rename_i c N σ h e bD h';refine⟨0,fun R B w μ a Q rel g s k=>wp_scope_straight (oS.wp (eM R B w μ a _ rel g s fun a2 bL g5 aP dh cY=>?_))⟩;have:=k a2 bL g5 aP dh cY;cases e<;>exact this
 | region ad eM=>exact⟨0,fun R B w μ a Q rel g s k=>wp_region_list (eM R B w μ a Q rel g s k)⟩
 | draw pre val W cls m ak fX si g7 cells hY qd aI hm HK yi Dp kS nH sS HC Hu yB GI GJ qe ox aR=>
  exact bf pre val W cls m ak fX si g7 cells hY qd aI hm HK yi Dp kS nH sS HC Hu yB GI GJ qe aR
 | WI=>exact fun R B w μ a Q rel g s k=>k a w μ (.refl _ _ _) rel s
 | WK aX Dn ad eM=>
  intro R B w μ a Q rel g s k;have sS:=ON (w:=w) (R:=R) (h:=_) (μ:=μ) (tmps:=a.tmps) aX (fun d _=>s.val d);unfold wpList;rw[if_neg (by rw[sS]; simp)];exact eM R B w μ _ Q rel g (s.put Dn Fb) k
 | WJ aX Dn ad ae eM nP=>
  intro R B w μ a Q rel g s k;have sS:=ON (w:=w) (R:=R) (h:=_) (μ:=μ) (tmps:=a.tmps) aX (fun d _=>s.val d);unfold wpList;rw[if_pos sS];refine .inl (eM R B w μ a _ _ Q rfl rel g (s.c3 g) fun a6 bL g5 aP dh ap=>?_);exact nP R B bL g5 _ Q dh (g.ext aP) ((s.ext aP).put Dn ap) fun a9 w2 oT bw dY hX=>k a9 w2 oT (aP.trans bw) dY hX
 | Ik ak=>
  intro R B w μ a o K Q au rel g c9 k;subst au;have:=Ol (P:=P) rel c9 o ak;obtain⟨v,w',μ',az,e,r,ap⟩:=this;unfold Oper.wp;rcases az with az | ⟨az,rfl⟩
  ·rw[az]; exact k v w' μ' e r ap
  ·rw[az]; exact k undef w' μ' e r ap
 | Bj ak ad eM=>
  intro R B w μ a o K Q au rel g c9 k;subst au;obtain⟨rfl,vs,az,al,ap⟩:=Ol (P:=P) rel c9 o ak;unfold Oper.wp;rw[az];refine (eM R B w μ vs rel g al ap).mono ?_;rintro e w' ⟨v,μ',rfl,aP,dh,m7⟩;exact k v w' μ' aP dh m7
 | Jb ad iG ap eM=>
  intro R B w μ a o K Q au rel g c9 k;refine eM R B w μ a o K Q au rel g c9 fun a6 w' μ' e r uF=>?_
  exact k a6 w' μ' (e.trans (iG.ext w' μ')) (iG.rel r) (iG.pH r ap uF)
 | inline aE ag ad am az eM=>
  rename_i f fn c args h e bD h' r;obtain⟨iP,eM⟩:=eM;intro R B w μ vs rel g al ap;refine calls_of_wp aE ag (oS.wp (eM R B w μ _ _ rel g ⟨by simp[al],rfl,fun t=>?_⟩ fun a2 bL g5 aP dh cY=>?_))
  ·by_cases aW:t<args.length
   ·have aC:args.getD t gL=args[t] :=by simp[List.getD,aW]
    have jm:(vs++Array.replicate (fn.ntmps - vs.size) undef).getD t undef=vs[t] :=by
     rw[Array.getD_eq_getD_getElem?,Array.getElem?_append_left (by omega)];simp[show t<vs.size by omega]
    rw[aC,jm];exact ap t _ _ (by simp[aW]) (by simp)
   ·have aC:args.getD t gL=gL:=by simp[List.getD,List.getElem?_eq_none (by omega:args.length<=t)]
    have jm:(vs++Array.replicate (fn.ntmps - vs.size) undef).getD t undef=undef:=by
     rw[Array.getD_eq_getD_getElem?,Array.getElem?_append_right (by omega),Array.getElem?_replicate];split<;>rfl
    rw[aC,jm];exact Fb
  ·obtain⟨v,bZ,cc⟩:=XT dh cY az;have uC:cY.defers=cY.defers:=rfl;rcases am with rfl | rfl
   ·exact⟨cY.defers,v,bZ,v,g5,rfl,aP,dh,cc⟩
   ·exact⟨cY.defers,v,bZ,v,g5,rfl,aP,dh,cc⟩
 | pure av ah=>exact aku av ah
 | NC av al az aE=>exact aks av al az aE
 | ext ak=>exact ak
 | ND av al az=>exact akt av al az
end

end Go.b0

/-
  The canonical machine, part Im: maps, strings rune by rune, bytes compared.
-/
import Derived.Test.YtobphgccoalchaaGreatDoorUb
import Derived.Stop.SameAnswer
import Derived.Orders
import Derived.Still
import Derived.Scope
import Derived.LoopN
set_option linter.unusedVariables false
set_option linter.unusedSimpArgs false
set_option linter.unnecessarySimpa false
namespace Go.cb
open Go
section
variable {P:Program} {w:World} {R:Nat->Prop} {B:Nat} {h:aQ} {μ:cX}
def vN:U->Value
 | .bool b=>.bool b
 | .int k n=>.int k n
 | .str s=>.string ⟨s.toArray⟩
 | _=>.tuple #[]
def zO:U->Value
 | .aH cs=>.agg (cs.map vN).toArray
 | c=>vN c
theorem ak2 {c:U} {v:Value} (ay:tP c=true) (au:aS w R h μ c v) :v=vN c:=by
 cases c<;>simp[tP] at ay
 ·cases au; rfl
 ·cases au; rfl
 ·cases au;rename_i bs;show Value.string bs=.string ⟨bs.data.toList.toArray⟩;congr 1
theorem H1 {t:TypeId} {c:U} (aF:lB P t c=true) :∃ cs m,c=.aH cs/\r6 P 8 t=true/\eB P t=some true/\cM P t=some m/\cs.length=m/\∀ x∈cs,tP x=true:=by
 unfold lB at aF;split at aF
 ·rename_i cs;simp only[avU] at aF;obtain⟨⟨h1,ad⟩,aj⟩:=aF;split at ad
  ·rename_i m aA ak;exact⟨cs,m,rfl,h1,aA,ak,awK ad,fun x af=>awG.1 aj x af⟩
  ·cases ad
 ·cases aF
theorem Ns {t:TypeId} {c:U} {v:Value} (aF:lB P t c=true) (au:aS w R h μ c v) :v=zO c:=by
 obtain⟨cs,m,rfl,_,_,_,_,hint⟩:=H1 aF;cases au with
 | aH _ vs al h1 au=>
  show Value.agg vs=.agg (cs.map vN).toArray;congr 1;apply Array.ext_getElem?;intro j;have af:(cs.map vN).toArray[j]? = (cs[j]?).map vN:=by simp
  rw[af];cases ai:cs[j]? with
  | none=>simp only[Option.map_none]; rw[axs]; rw[al]; exact ax8.1 ai
  | some c=>
   have aM:=(avP.1 ai).1;have mU:=au j c vs[j] ai (axk (by omega));rw[axk (by omega)];simp only[avZ,Option.some.injEq];exact ak2 (hint c (avY ai)) mU
theorem acx (a:ByteArray) :(a == a)=true:=by
 show (a.data == a.data)=true;exact beq_self_eq_true _
theorem amA {c:U} (n:Nat) (ah:tP c=true) :Instr.sameBits n (vN c) (vN c)=true:=by
 cases c<;>simp[tP] at ah<;>unfold vN Instr.sameBits
 ·simp
 ·simp
 ·exact acx _
theorem amz {t:TypeId} {c:U} (n:Nat) (aF:lB P t c=true) :Instr.sameBits (n+1) (zO c) (zO c)=true:=by
 obtain⟨cs,m,rfl,_,_,_,_,hint⟩:=H1 aF;unfold zO Instr.sameBits;simp only[beq_self_eq_true,awL,awG];rintro⟨x,y⟩ k3;rw[avT] at k3;obtain⟨j,ai⟩:=k3;rw[List.getElem?_zip_eq_some] at ai;obtain⟨h1,ad⟩:=ai;rw[h1] at ad; cases ad;simp only[avV,ayj] at h1;obtain⟨c,ah,rfl⟩:=h1;exact amA n (hint c (avY ah))
theorem amu {t:TypeId} {c:U} (aF:lB P t c=true) :(Instr.keyThatStays (zO c) (zO c)).run P w=.ok (zO c) w:=by
 unfold Instr.keyThatStays;rw[if_pos (amz 9999 aF)];simp
theorem KM {α:Type} {f:α->PUnit->Sem (ForInStep PUnit)}:∀ (l:List α),(∀ x∈l,(f x ⟨⟩).run P w=.ok (.yield ⟨⟩) w)->(forIn l ⟨⟩ f).run P w=.ok ⟨⟩ w
 | [],_=>by simp
 | x::l,aF=>by
  rw[List.forIn_cons];simp only[Sem.run_bind,aF x (by simp),Result.andThen_ok];exact KM l (fun y ax=>aF y (by simp[ax]))
theorem OI (em:Bool) :∀ (d n:Nat) (t:TypeId) (c:U) (v:Value),d<=n->r6 P d t=true->aS w R h μ c v->(eB P t=some true->∃ cs m,c=.aH cs/\cM P t=some m/\cs.length=m)->
  (Instr.checkKey em n t v).run P w=.ok () w
 | 0,_,_,_,_,_,hk,_,_=>by simp[r6] at hk
 | d+1,0,_,_,_,aC,_,_,_=>by omega
 | d+1,n+1,t,c,v,aC,hk,au,aA=>by
  unfold r6 at hk;split at hk
  ·rename_i aN; cases v<;>simp[Instr.checkKey,cL aN]
  ·rename_i aN; cases v<;>simp[Instr.checkKey,cL aN]
  ·rename_i aN; cases v<;>simp[Instr.checkKey,cL aN]
  ·rename_i len e m aN hm;have Lx:eB P t=some true:=by unfold eB; rw[aN]; rfl
   obtain⟨cs,cF,rfl,b7,al⟩:=aA Lx;rw[hm] at b7; cases b7;simp only[avU] at hk;obtain⟨ob,h5⟩:=hk;split at h5
   ·rename_i z a aw LA;simp only[avU] at h5;have dw:=awU h5.1;have qW:=awU h5.2;obtain⟨vs,rfl,az⟩:=wa au;unfold Instr.checkKey;simp only[Sem.run_bind,cL aN,Result.andThen_ok];rw[Std.Legacy.Range.forIn_eq_forIn_range'];rw[KM]
    ·simp
    intro i av;have c3:i<len:=by simp[Std.Legacy.Range.size] at av; omega
    have agU:i*z+z<=cs.length:=by
     have:i*z+z<=len*z:=by rw[<-awD]; exact avX _ c3
     omega
    have ay:∃ c,ic P e cs (i*z)=some c/\(eB P e=some true->∃ cs' cF,c=.aH cs'/\cM P e=some cF/\cs'.length=cF) :=by
     unfold ic;rw[LA,aw];cases a with
     | true=>exact⟨_,by simp only; rw[if_pos agU],fun _=>⟨_,z,rfl,rfl,by simp; omega⟩⟩
     | false=>exact⟨cs[i*z]'(by omega),by simp only; exact avS (by omega),fun h=>by cases h⟩
    obtain⟨c,ah,LH⟩:=ay;obtain⟨u,aj,aE⟩:=tO (P:=P) ah az;simp only[Sem.run_bind,fS aw,Result.andThen_ok,aj w];rw[OI em d n e c u (by omega) ob aE LH];simp
   ·cases h5
  ·rename_i fs m aN hm;have Lx:eB P t=some true:=by unfold eB; rw[aN]; rfl
   obtain⟨cs,cF,rfl,b7,al⟩:=aA Lx;rw[hm] at b7; cases b7;obtain⟨vs,rfl,az⟩:=wa au;unfold Instr.checkKey;simp only[Sem.run_bind,cL aN,Result.andThen_ok];rw[<-Array.forIn_toList,KM]
   ·simp
   intro f aF;have Hq:=awG.1 hk f aF;simp only[avU] at Hq;obtain⟨ob,h5⟩:=Hq;split at h5
   ·rename_i z a aw LA;simp only[avU] at h5;have dw:=awU h5.1;have qW:=awU h5.2;have ay:∃ c,ic P f.type cs f.offset=some c/\(eB P f.type=some true->∃ cs' cF,c=.aH cs'/\cM P f.type=some cF/\cs'.length=cF) :=by
     unfold ic;rw[LA,aw];cases a with
     | true=>exact⟨_,by simp only; rw[if_pos (by omega)],fun _=>⟨_,z,rfl,rfl,by simp; omega⟩⟩
     | false=>exact⟨cs[f.offset]'(by omega),by simp only; exact avS (by omega),fun h=>by cases h⟩
    obtain⟨c,ah,LH⟩:=ay;obtain⟨u,aj,aE⟩:=tO (P:=P) ah az;have:=OI em d n f.type c u (by omega) ob aE LH;by_cases V0:f.name= "_"
    ·simp[V0]
    ·simp[V0,aj w,this]
   ·cases h5
  ·cases hk
theorem Zg {t:TypeId} {c:U} {v:Value} (em:Bool) (aF:lB P t c=true) (au:aS w R h μ c v) :(Instr.checkKey em 10000 t v).run P w=.ok () w:=by
 obtain⟨cs,m,rfl,h1,ad,aj,aE,_⟩:=H1 aF;exact OI em 8 10000 t _ v (by omega) h1 au (fun _=>⟨cs,m,rfl,aj,aE⟩)
def ui (w:World) (R:Nat->Prop) (h:aQ) (μ:cX) (es:List (U × U × Nat)) (dK:List MapEntry) :Prop:=
 dK.length=es.length/\∀ (j:Nat) (k v:U) (b:Nat),es[j]? = some (k,v,b)->∃ x:MapEntry,dK[j]? = some x/\aS w R h μ k x.key/\aS w R h μ v x.val/\x.born=b
def PR (w:World) (R:Nat->Prop) (h:aQ) (μ:cX) (k:U) (dK:List MapEntry) (i:Nat) :Option (Nat × U)->Option (Nat × Value)->Prop
 | none,r=>r=none
 | some (j,v),r=>∃ p3,r=some (j,p3)/\aS w R h μ v p3/\i<=j/\∃ x,dK[j - i]? = some x/\x.val=p3/\aS w R h μ k x.key
theorem adF {es:List (U × U × Nat)} {e:U × U × Nat} {x:MapEntry} {dK:List MapEntry} (az:ui w R h μ (e::es) (x::dK)) :ui w R h μ es dK:=
 ⟨by have:=az.1; simp at this; exact this,fun j k v b ai=>az.2 (j+1) k v b (by simpa using ai)⟩
theorem adE {es:List (U × U × Nat)} {k v:U} {b:Nat} {x:MapEntry} {dK:List MapEntry} (az:ui w R h μ ((k,v,b) ::es) (x::dK)) :aS w R h μ k x.key/\aS w R h μ v x.val/\x.born=b:=by
 obtain⟨y,h1,ad⟩:=az.2 0 k v b rfl;simp at h1; subst h1; exact ad
theorem TH {c2:TypeId} {k:U} {h9:Value} (hk:aS w R h μ k h9) :∀ (es:List (U × U × Nat)) (dK:List MapEntry) (i:Nat) (r:Option (Nat × U)),ui w R h μ es dK->j1 P c2 k es i=some r->
  ∃ ct,(Instr.findAsking c2 h9 dK i).run P w=.ok ct w/\PR w R h μ k dK i r ct
 | [],dK,i,r,az,aF=>by
  have:dK=[] :=awt.1 az.1;subst this;simp only[j1,Option.some.injEq] at aF; subst aF;exact⟨none,by simp[Instr.findAsking],rfl⟩
 | (k',v,b) ::es,[],i,r,az,aF=>by have:=az.1; simp at this
 | (k',v,b) ::es,x::dK,i,r,az,aF=>by
  obtain⟨h1,ad,aj⟩:=adE az;simp only[j1] at aF;split at aF
  ·cases aF
  rename_i eE;split at aF
  ·rename_i heq;split at aF
   ·rename_i af0;simp only[Option.some.injEq] at aF; subst aF;have hv:=KE (P:=P) 10000 c2 k k' true h9 x.key heq hk h1;refine⟨some (i,x.val),?_,x.val,rfl,ad,avR _,x,by simp,rfl,?_⟩
    ·simp only[Instr.findAsking,Op.equal,Op.maxDepth,Sem.run_bind];rw[hv]; simp
    ·rw[U.beq_eq af0]; exact h1
   ·cases aF
  ·rename_i heq;have hv:=KE (P:=P) 10000 c2 k k' false h9 x.key heq hk h1;obtain⟨ct,aE,aX⟩:=TH hk es dK (i+1) r (adF az) aF;refine⟨ct,?_,?_⟩
   ·simp only[Instr.findAsking,Op.equal,Op.maxDepth,Sem.run_bind];rw[hv]; simpa using aE
   ·cases r with
    | none=>exact aX
    | some xh=>
     obtain⟨p3,bw,c5,dZ,y,eP,mH,uR⟩:=aX;exact⟨p3,bw,c5,by omega,y,by rw[show xh.1 - i=(xh.1 - (i+1))+1 by omega]; simpa using eP,mH,uR⟩
  ·cases aF
theorem Zi {c2:TypeId} {k:U} {h9:Value} (hk:aS w R h μ k h9) (aF:lB P c2 k=true) {es:List (U × U × Nat)} {dK:List MapEntry} {r:Option (Nat × U)} (az:ui w R h μ es dK) (LQ:j1 P c2 k es 0=some r) :
  ∃ ct,(Instr.findKey c2 h9 dK).run P w=.ok ct w/\PR w R h μ k dK 0 r ct:=by
 obtain⟨ct,h1,ad⟩:=TH hk es dK 0 r az LQ;refine⟨ct,?_,ad⟩;obtain⟨cs,m,rfl,aj,aE,_⟩:=H1 aF;unfold eB at aE;cases aN:P.underlying c2 with
 | none=>rw[aN] at aE; cases aE
 | some d=>
  rw[aN] at aE;unfold Instr.findKey;simp only[Sem.run_bind,cL aN,Result.andThen_ok];cases dK with
  | nil=>simpa [Instr.findNow,Instr.findAsking] using h1
  | cons x dK=>
   have aC:Instr.findNow d h9 (x::dK) 0=none:=by
    cases d<;>simp at aE<;>simp[Instr.findNow,Instr.sameNow]
   rw[aC];exact h1
theorem aj6 (rel:cc R B w h μ) {m:U} {gu:Value} {es:List (U × U × Nat)} (hm:mapOf h m=some es) (au:aS w R h μ m gu) :
  (gu=.map none/\es=[])\/∃ b cn eX dK,m=.mp b/\h.f b=.map es eX/\μ b=some cn/\gu=.map (some cn.r)/\w.heap[cn.r]? = some (.map dK eX)/\ui w R h μ es dK.toList:=by
 cases m<;>simp[mapOf] at hm
 ·subst hm; cases au; exact .inl ⟨rfl,rfl⟩
 ·rename_i b;cases au with
  | mp _ cn ag iT=>
   cases ah:h.f b<;>rw[ah] at hm<;>simp at hm;rename_i aq2 eX;subst hm;have hblk:=rel.blk b cn iT;rw[ah] at hblk;obtain⟨dK,h1,ad,aj⟩:=hblk;refine .inr ⟨b,cn,eX,dK,rfl,ah,iT,rfl,h1,by simpa using ad,fun j k v bu ai=>?_⟩;obtain⟨x,aE,aX⟩:=aj j k v bu ai;exact⟨x,by simpa using aE,aX⟩
theorem OJ {r:Nat} {es:Array MapEntry} {eX:Nat} (ag:w.heap[r]? = some (.map es eX)) :(getObj r).run P w=.ok (.map es eX) w:=by simp[getObj,Sem.run,ag]
theorem Zj {r:Nat} {s:ByteArray} {pos:Nat} (ag:w.heap[r]? = some (.stringIter s pos)) :(getObj r).run P w=.ok (.stringIter s pos) w:=by simp[getObj,Sem.run,ag]
theorem aaL {t:TypeId} {z:U} (aw:zY P t=some z) :∃ v,(zeroValue t).run P w=.ok v w/\aS w R h μ z v:=by
 unfold zY at aw;cases av:P.info? t with
 | none=>rw[av] at aw; cases aw
 | some i=>
  rw[av] at aw;simp only[axv] at aw;cases au:i.zero with
  | none=>rw[au] at aw; cases aw
  | some v=>
   rw[au] at aw;simp only[avZ,Option.some.injEq] at aw; subst aw;exact⟨v,Zl av au,.xu v⟩
theorem aS.aaf {a b:U} {iD fz:Value} (aA:aS w R h μ a iD) (ag:aS w R h μ b fz) :aS w R h μ (.bG [a,b]) (.tuple #[iD,fz]) :=by
 refine .bG _ _ rfl fun j c v ah au=>?_
 rcases j with _ | _ | j
 ·simp at ah au; subst ah au; exact aA
 ·simp at ah au; subst ah au; exact ag
 ·simp at ah
theorem ajX (rel:cc R B w h μ) {t:TypeId} {m k c:U} {gu h9:Value} {ok:Bool} (al:H9 P h t m k ok=some c) (hm:aS w R h μ m gu) (hk:aS w R h μ k h9) :
  ∃ v,(Instr.lookup t gu h9 ok).run P w=.ok v w/\aS w R h μ c v:=by
 unfold H9 at al;split at al
 ·rename_i c2 nb es aN tj;split at al
  ·cases al
  ·rename_i eE;have ade:∀ dK:List MapEntry,ui w R h μ es dK->∃ ct,(Instr.findKey c2 h9 dK).run P w=.ok ct w ∧
     ((∃ i v,ct=some (i,v)/\∃ uH,aS w R h μ uH v/\c=if ok then .bG [uH,.bool true] else uH)\/(ct=none/\∃ z,zY P nb=some z/\c=if ok then .bG [z,.bool false] else z)) :=by
    intro dK az;cases lZ:j1 P c2 k es 0 with
    | none=>rw[lZ] at al; cases al
    | some r=>
     obtain⟨ct,h1,ad⟩:=Zi hk eE az lZ;rw[lZ] at al;refine⟨ct,h1,?_⟩;cases r with
     | none=>
      cases ad;simp only at al;cases aw:zY P nb with
      | none=>rw[aw] at al; cases al
      | some z=>
       rw[aw] at al;simp only[avZ,Option.some.injEq] at al;exact .inr ⟨rfl,z,rfl,al.symm⟩
     | some xh=>
      obtain⟨p3,rfl,aE,_⟩:=ad;simp only[Option.some.injEq] at al;exact .inl ⟨_,p3,rfl,_,aE,al.symm⟩
   have fin:∀ (dK:List MapEntry) (em:Bool),ui w R h μ es dK->∀ m:Sem Value,m.run P w=(((Instr.checkKey em 10000 c2 h9).bind fun _=>(Instr.findKey c2 h9 dK).bind fun r=>match r with
     | some (_,v)=>pure (if ok=true then .tuple #[v,.bool true] else v)
     | none=>(zeroValue nb).bind fun z=>pure (if ok=true then .tuple #[z,.bool false] else z)) :Sem Value).run P w->∃ v,m.run P w=.ok v w/\aS w R h μ c v:=by
    intro dK em az m hm;obtain⟨ct,h1,ad⟩:=ade dK az;have G8:∀ {α ko:Type} (a:Sem α) (f:α->Sem ko),a.bind f=a >>= f:=fun _ _=>rfl
    simp only[G8,Sem.run_bind,Zg em eE hk,Result.andThen_ok,h1] at hm;rcases ad with ⟨i,v,rfl,uH,aj,rfl⟩ | ⟨rfl,z,aj,rfl⟩
    ·simp only at hm;cases ok
     ·exact⟨v,by simpa using hm,aj⟩
     ·exact⟨.tuple #[v,.bool true],by simpa using hm,aS.aaf aj (.bool _)⟩
    ·obtain⟨v,aE,aX⟩:=aaL (w:=w) (R:=R) (h:=h) (μ:=μ) aj;simp only[Sem.run_bind,aE,Result.andThen_ok] at hm;cases ok
     ·exact⟨v,by simpa using hm,aX⟩
     ·exact⟨.tuple #[v,.bool false],by simpa using hm,aS.aaf aX (.bool _)⟩
   have G8:∀ {α ko:Type} (a:Sem α) (f:α->Sem ko),a.bind f=a >>= f:=fun _ _=>rfl
   rcases aj6 rel tj hm with ⟨rfl,rfl⟩ | ⟨b,cn,eX,dK,rfl,ag,iT,rfl,kA,az⟩
   ·refine fin [] true ⟨rfl,fun j k v b ai=>by simp at ai⟩ _ ?_;unfold Instr.lookup;simp only[G8,Sem.run_bind,cL aN,Result.andThen_ok,Sem.run_pure];cases c0:(Instr.checkKey true 10000 c2 h9).run P w with
    | halt a b=>simp[c0]
    | ok a b2=>
     simp[c0];cases agz:(Instr.findKey c2 h9 []).run P b2 with
     | halt a b=>simp
     | ok r w2=>
      simp;cases r with
      | none=>cases (zeroValue nb).run P w2<;>simp
      | some x=>simp
   ·refine fin dK.toList dK.isEmpty az _ ?_;unfold Instr.lookup;simp only[G8,Sem.run_bind,cL aN,Result.andThen_ok,Sem.run_pure,OJ kA];cases c0:(Instr.checkKey dK.isEmpty 10000 c2 h9).run P w with
    | halt a b=>simp[c0]
    | ok a b2=>
     simp[c0];cases agz:(Instr.findKey c2 h9 dK.toList).run P b2 with
     | halt a b=>simp
     | ok r w2=>
      simp;cases r with
      | none=>cases (zeroValue nb).run P w2<;>simp
      | some x=>simp
 ·cases al
theorem ajN (rel:cc R B w h μ) {t ty:TypeId} {x c:U} {bK:Value} (ah:zl P h t x=some c) (af:aS w R h μ x bK) :∃ v,(Builtin.len_ #[t] ty #[bK]).run P w=.ok v w/\aS w R h μ c v:=by
 unfold zl at ah;split at ah
 ·rename_i c2 nb b aN;split at ah
  ·rename_i es eX ag;simp only[Option.some.injEq] at ah; subst ah;cases af with
   | mp _ cn hk iT=>
    have hblk:=rel.blk b cn iT;rw[ag] at hblk;obtain⟨dK,h1,ad,aj⟩:=hblk;exact⟨.int .i64 dK.size,by simp[Builtin.len_,cL aN,OJ h1,goInt],by rw[ad]; exact .int _ _⟩
  ·cases ah
 ·cases ah
theorem aj4 (rel:cc R B w h μ) {t:TypeId} {r:Option Value} (aN:∃ k e,P.underlying t=some (.map k e)) (az:∀ x,r=some x->∃ k n,x=.int k n) :∃ v w' μ',(Instr.makeMap t r).run P w=.ok v w'/\dY w h μ w' (h.push (.map [] 0)) μ'/\cc R B w' (h.push (.map [] 0)) μ'/\aS w' R (h.push (.map [] 0)) μ' (.mp h.n) v:=by
 have:=rel.Yr (w':=w.alloc (.map #[] 0)) (.map [] 0) (.map #[] 0) (k:=0) rfl rfl rfl rfl rfl ⟨#[],by show (w.heap.push _)[w.heap.size]? = _; simp,rfl,fun j k v b ai=>by simp at ai⟩;refine⟨.map (some w.heap.size),w.alloc (.map #[] 0),_,?_,this.1,this.2,?_⟩
 ·obtain⟨k,e,aN⟩:=aN;cases r with
  | none=>simp[Instr.makeMap,newObj,Sem.run]
  | some x=>
   obtain⟨k',n,rfl⟩:=az x rfl;simp[Instr.makeMap,newObj,Sem.run,cL aN,Go.asInt,Go.asIntOf]
 ·exact .mp h.n ⟨w.heap.size,0,0⟩ (by simp[eG,o3]) (by simp)
theorem Xw (rel:cc R B w h μ) {t:TypeId} {m k x:U} {gu h9 bK:Value} {h' : aQ} (oY:zp P h t m k x=some h') (hm:aS w R h μ m gu) (hk:aS w R h μ k h9) (af:aS w R h μ x bK) :
  ∃ w',(Instr.mapUpdate t gu h9 bK).run P w=.ok () w'/\dY w h μ w' h' μ/\cc R B w' h' μ:=by
 unfold zp at oY;split at oY
 ·rename_i c2 nb b aN;split at oY
  ·rename_i es eX ag;split at oY
   ·cases oY
   ·rename_i eE;cases hm with
    | mp _ cn yR iT=>
     have hblk:=rel.blk b cn iT;rw[ag] at hblk;obtain⟨dK,h1,ad,aj⟩:=hblk;have aM:cn.r<w.heap.size:=by
      rcases aw6 cn.r w.heap.size with h | h
      ·exact h
      ·rw[axs h] at h1; cases h1
     have az:ui w R h μ es dK.toList:=⟨by simpa using ad,fun j k v bu ai=>by obtain⟨y,aE,aX⟩:=aj j k v bu ai; exact⟨y,by simpa using aE,aX⟩⟩
     have mS:∀ o:Obj,(setObj cn.r o).run P w=.ok () { w with heap:=w.heap.setIfInBounds cn.r o }:=fun o=>by simp[setObj,Sem.run,h1]
     have ix:∀ (ym:List (U × U × Nat)) (Az:Array MapEntry) (CK:Nat),(∀ {w2:World} {ad:aQ},Ext0 w h μ w2 ad μ->Az.size=ym.length/\∀ (j:Nat) (k v:U) (b:Nat),ym[j]? = some (k,v,b)->∃ x:MapEntry,Az[j]? = some x/\aS w2 R ad μ k x.key/\aS w2 R ad μ v x.val/\x.born=b)->
       dY w h μ { w with heap:=w.heap.setIfInBounds cn.r (.map Az CK) } (h.set b (.map ym CK)) μ/\cc R B { w with heap:=w.heap.setIfInBounds cn.r (.map Az CK) } (h.set b (.map ym CK)) μ:=by
      intro ym Az CK aW;refine rel.eV (k:=0) ag rfl rfl iT rfl rfl rfl (by simp) (fun k hk=>?_) (fun e=>?_)
      ·simp only; rw[axb]; rw[if_neg (fun aG=>hk aG.symm)]
      ·obtain⟨q1,ft⟩:=aW e;exact⟨Az,by simp only; rw[axb]; simp[aM],q1,ft⟩
     unfold Instr.mapUpdate;simp only[Sem.run_bind,cL aN,Result.andThen_ok,OJ h1,Zg false eE hk];cases lZ:j1 P c2 k es 0 with
     | none=>rw[lZ] at oY; cases oY
     | some r=>
      rw[lZ] at oY;obtain⟨ct,aE,aX⟩:=Zi hk eE az lZ;rw[aE];cases r with
      | none=>
       cases aX;simp only[Option.some.injEq] at oY; subst oY;have:=ix (es++[(k,x,eX)]) (dK.push { key:=h9,val:=bK,born:=eX }) (eX+1) (fun e=>⟨by simp[ad],fun j k' aZ bu ai=>?_⟩)
       ·exact⟨_,by simp only[Result.andThen_ok]; rw[mS],this⟩
       ·rw[Array.getElem?_push];by_cases e7:j<es.length
        ·rw[avQ e7] at ai;obtain⟨y,bw,c5,dZ,eP⟩:=aj j k' aZ bu ai;exact⟨y,by rw[if_neg (by omega)]; exact bw,c5.nY e,dZ.nY e,eP⟩
        ·rw[av2 (by omega)] at ai;have L0:j - es.length=0:=by
          rcases Nat.eq_zero_or_pos (j - es.length) with h | h
          ·exact h
          ·rw[av5 (by simp; omega)] at ai; cases ai
         rw[L0] at ai;simp at ai;obtain⟨rfl,rfl,rfl⟩:=ai;exact⟨_,by rw[if_pos (by omega)],hk.nY e,af.nY e,rfl⟩
      | some xh=>
       obtain⟨i,v⟩:=xh;obtain⟨p3,rfl,bw,_,y,c5,dZ,eP⟩:=aX;simp only[Option.some.injEq] at oY; subst oY;have n0:dK[i]? = some y:=by simpa using c5
       have aR:y.key=h9:=by rw[Ns eE eP,Ns eE hk]
       have th:(Instr.keyThatStays (((dK[i]?).map (·.key)).getD h9) h9).run P w=.ok h9 w:=by
        rw[n0];simp only[avZ,awF,aR];rw[Ns eE hk];exact amu eE
       have:=ix (es.modify i fun e=>(k,x,e.2.2)) (dK.modify i fun e=>{ e with key:=h9,val:=bK }) eX (fun e=>⟨by simp[ad],fun j k' aZ bu ai=>?_⟩)
       ·refine⟨_,?_,this⟩;simp only[Result.andThen_ok,Sem.run_bind,th];rw[mS]
       ·rw[List.getElem?_modify] at ai;rw[axY];cases oa:es[j]? with
        | none=>rw[oa] at ai; simp at ai
        | some h2=>
         obtain⟨g3,v0,hr⟩:=h2;rw[oa] at ai;obtain⟨FA,mH,uR,K5,Ur⟩:=aj j g3 v0 hr oa;rw[mH];by_cases hu:i=j
         ·simp[hu] at ai;obtain⟨rfl,rfl,rfl⟩:=ai;exact⟨{ FA with key:=h9,val:=bK },by simp[hu],hk.nY e,af.nY e,Ur⟩
         ·simp[hu] at ai;obtain⟨rfl,rfl,rfl⟩:=ai;exact⟨FA,by simp[hu],uR.nY e,K5.nY e,Ur⟩
  ·cases oY
 ·cases oY
theorem alQ (rel:cc R B w h μ) {t:TypeId} {x c:U} {bK:Value} {h' : aQ} (az:IL P h t x=some (c,h')) (af:aS w R h μ x bK) :
  ∃ v w' μ',(Instr.range t bK).run P w=.ok v w'/\dY w h μ w' h' μ'/\cc R B w' h' μ'/\aS w' R h' μ' c v:=by
 unfold IL at az;split at az
 ·rename_i s aN;simp only[Option.some.injEq,Prod.mk.injEq] at az;obtain⟨rfl,rfl⟩:=az;cases af;rename_i bs;have:=rel.Yr (w':=w.alloc (.stringIter bs 0)) (.iter bs.data.toList 0) (.stringIter bs 0) (k:=1) rfl rfl rfl rfl rfl ⟨bs,rfl,by show (w.heap.push _)[w.heap.size]? = _; simp⟩;refine⟨.pointer (some ⟨w.heap.size,0,none⟩),w.alloc (.stringIter bs 0),_,?_,this.1,this.2,?_⟩
  ·simp[Instr.range,cL aN,newObj,Sem.run]
  ·exact .it h.n ⟨w.heap.size,0,0⟩ (by simp[eG,o3]) (by simp)
 ·cases az
theorem akg (rel:cc R B w h μ) {x c:U} {bK:Value} {h' : aQ} {ty:TypeId} (az:BA h x=some (c,h')) (af:aS w R h μ x bK) :
  ∃ v w',(Instr.next bK true ty).run P w=.ok v w'/\dY w h μ w' h' μ/\cc R B w' h' μ/\aS w' R h' μ c v:=by
 unfold BA at az;split at az
 ·rename_i b;split at az
  ·rename_i s pos ag;cases af with
   | it _ cn yR iT=>
    have hblk:=rel.blk b cn iT;rw[ag] at hblk;obtain⟨bs,rfl,h1⟩:=hblk;have aM:cn.r<w.heap.size:=by
     rcases aw6 cn.r w.heap.size with h | h
     ·exact h
     ·rw[axs h] at h1; cases h1
    have qw:(⟨bs.data.toList.toArray⟩:ByteArray)=bs:=by cases bs; simp
    have hh:bs.data.toList.length=bs.size:=by rw[axO]; rfl
    rw[qw] at az;split at az
    ·rename_i qI;have ay:pos<bs.size:=by rw[<-hh]; rw[ay8] at qI; exact qI
     simp only[Option.some.injEq,Prod.mk.injEq] at az;obtain⟨rfl,rfl⟩:=az;have:=rel.eV (w':={ w with heap:=w.heap.setIfInBounds cn.r (.stringIter bs (pos+(Utf8.decode bs pos).2)) }) (k:=1) (c':=.iter bs.data.toList (pos+(Utf8.decode bs pos).2)) ag rfl rfl iT rfl rfl rfl (by simp)
      (fun k hk=>by simp only; rw[axb]; rw[if_neg (fun aG=>hk aG.symm)]) (fun e=>⟨bs,rfl,by simp only; rw[axb]; simp[aM]⟩)
     refine⟨.tuple #[.bool true,.int .i64 pos,.int .i32 (Utf8.decode bs pos).1],_,?_,this.1,this.2,?_⟩
     ·simp only[Instr.next,Sem.run_bind,Zj h1,Result.andThen_ok,if_pos ay];simp[setObj,Sem.run,h1,goInt]
     ·refine .bG _ _ rfl fun j c v ah au=>?_
      rcases j with _ | _ | _ | j
      ·simp at ah au; subst ah au; exact .bool _
      ·simp at ah au; subst ah au; exact .int _ _
      ·simp at ah au; subst ah au; exact .int _ _
      ·simp at ah
    ·rename_i qI;have ay:¬ pos<bs.size:=by
      rw[<-hh]; intro aG;rw[<-ay8] at aG; rw[aG] at qI; cases qI
     simp only[Option.some.injEq,Prod.mk.injEq] at az;obtain⟨rfl,rfl⟩:=az;refine⟨.tuple #[.bool false],w,?_,.refl _ _ _,rel,?_⟩
     ·simp only[Instr.next,Sem.run_bind,Zj h1,Result.andThen_ok,if_neg ay];simp
     ·refine .bG _ _ rfl fun j c v ah au=>?_
      rcases j with _ | j
      ·simp at ah au; subst ah au; exact .bool _
      ·simp at ah
  ·cases az
 ·cases az
theorem Zh {blk:Nat}:∀ (n:Nat) (o:Nat) (ns:List Int) (acc:ByteArray),ns.length=n->(∀ j v,(ns.map (Value.int .u8))[j]? = some v->(load (⟨blk,o+j,none⟩:Addr)).run P w=.ok v w)->
  ∃ bs,(Extern.Bytes.loadBytes ⟨blk,o,none⟩ n acc).run P w=.ok bs w/\bs.data.toList=acc.data.toList++ns.map fun n=>UInt8.ofNat n.toNat
 | 0,o,ns,acc,al,_=>⟨acc,by simp[Extern.Bytes.loadBytes],by rw[awt.1 al]; simp⟩
 | n+1,o,[],acc,al,_=>by simp at al
 | n+1,o,x::ns,acc,al,h=>by
  have aD:=h 0 _ rfl;obtain⟨bs,h1,ad⟩:=Zh n (o+1) ns (acc.push (UInt8.ofNat x.toNat)) (by simpa using al) (fun j v ai=>by
   have:=h (j+1) v (by simpa using ai);rw[show o+(j+1)=o+1+j by omega] at this;exact this)
  refine⟨bs,?_,?_⟩
  ·unfold Extern.Bytes.loadBytes;rw[ayd] at aD;simp only[Sem.run_bind,aD,Result.andThen_ok,Addr.m6];exact h1
  ·rw[ad]; simp
theorem QJ (rel:cc R B w h μ) {x:U} {bK:Value} {l:List UInt8} (ag:sT h x=some l) (af:aS w R h μ x bK) :∃ bs,(Extern.Bytes.bytesOf bK).run P w=.ok bs w/\bs.data.toList=l:=by
 unfold sT at ag;split at ag
 ·simp only[Option.some.injEq] at ag; subst ag;cases af with
  | str bs=>exact⟨bs,by simp[Extern.Bytes.bytesOf],rfl⟩
 ·rename_i tl;split at ag
  ·rename_i cs n cz;obtain⟨bf,bn,vs,cJ,lZ⟩:=wB (P:=P) rel cz af;have aF:=lZ n (avR _) w (fun _=>rfl);obtain⟨ns,rfl,rfl⟩:=J9 cs vs l ag cJ.1 cJ.2;have l5:ns.length=n:=by have:=cJ.1; simp at this; omega
   have D5:(ns.map (Value.int .u8)).take (n*1)=ns.map (Value.int .u8) :=avO (by simp; omega);rw[D5] at aF;have LR:∃ a len cap,bK=.slice a len cap:=by
    cases af<;>first | exact⟨_,_,_,rfl⟩ | (simp[contents] at cz; done) | (exact absurd rfl (tl _))
   obtain⟨a,len,cap,rfl⟩:=LR;simp only[Builtin.lenOf,Sem.run_pure,Result.ok.injEq] at bn;obtain⟨rfl,_⟩:=bn;cases a with
   | none=>
    simp only[Builtin.firstCells,Sem.run_pure,Result.ok.injEq] at aF;have np:ns=[] :=by
     have:=congrArg Array.toList aF.1;simpa using this.symm
    subst np;exact⟨.empty,by simp[Extern.Bytes.bytesOf],rfl⟩
   | some a=>
    by_cases og:len=0
    ·subst og;have:ns=[] :=awt.1 l5;subst this;exact⟨.empty,by simp[Extern.Bytes.bytesOf,Extern.Bytes.loadBytes],rfl⟩
    have aA:∃ blk o,a=⟨blk,o,none⟩:=by
     cases af with
     | ar=>exact⟨_,_,rfl⟩
     | bQ=>exact⟨_,_,rfl⟩
     | fY=>exact absurd rfl og
     | ig=>exact absurd rfl og
     | bad=>simp[contents] at cz
     | gR _ _ _ _ _ _ _ _ h1 ad aq=>
      exfalso;simp only[contents] at cz;rcases aq with aq | ⟨n,hN,aq,aM⟩
      ·rw[aq] at cz; cases cz
      ·rw[aq] at cz;simp only at cz;split at cz
       ·rename_i aG; omega
       ·cases cz
    obtain⟨blk,o,rfl⟩:=aA;simp only[Builtin.firstCells,axn] at aF;unfold loadCells at aF;obtain⟨l,h1,ad,aj⟩:=loadCellsFrom_ok _ _ _ _ _ _ aF;have aE:l=ns.map (Value.int .u8) :=by
     have:=congrArg Array.toList ad;simpa using this.symm
    subst aE;obtain⟨bs,aX,bw⟩:=Zh (P:=P) (w:=w) (blk:=blk) len o ns .empty l5 (fun j v ai=>by
     have:=aj j v ai;rw[Addr.m6,axa] at this;exact this)
    exact⟨bs,by simpa [Extern.Bytes.bytesOf] using aX,by rw[bw]; rfl⟩
  ·cases ag
theorem S4:∀ (a b:List UInt8),(match (List.range (min a.length b.length)).find? fun i=>a.getD i 0 != b.getD i 0 with
  | some i=>if a.getD i 0<b.getD i 0 then (-1:Int) else 1
  | none=>if a.length<b.length then -1 else if a.length > b.length then 1 else 0)=oN a b
 | [],[]=>by simp[oN]
 | [],_::_=>by simp[oN]
 | _::_,[]=>by simp[oN]
 | x::a,y::b=>by
  have aJ:=S4 a b;simp only[awa,Nat.add_min_add_right,List.range_succ_eq_map,ayr,List.getD_cons_zero];by_cases k3:x=y
  ·subst k3;simp only[bne_self_eq_false,oN,if_true];rw[<-aJ,List.find?_map];have A2:((fun i=>(x::a).getD i 0 != (x::b).getD i 0) ∘ Nat.succ)=fun i=>a.getD i 0 != b.getD i 0:=by
    funext i; simp
   rw[A2];cases aF:(List.range (min a.length b.length)).find? fun i=>a.getD i 0 != b.getD i 0 with
   | none=>simp only[Option.map_none]; congr 1<;>simp
   | some i=>simp
  ·have bI:(x != y)=true:=by simp[k3]
   simp only[bI,oN,if_neg k3,List.getD_cons_zero]
theorem TJ {α:Type} {p q:α->Bool}:∀ (l:List α),(∀ x∈l,p x=q x)->l.find? p=l.find? q
 | [],_=>rfl
 | x::l,h=>by
  rw[ayr,ayr,h x (by simp),TJ l (fun y ax=>h y (by simp[ax]))]
theorem Aq (a b:ByteArray) :Extern.BytealgCompare.cmp a b=oN a.data.toList b.data.toList:=by
 rw[<-S4];unfold Extern.BytealgCompare.cmp;have aq:∀ (a:ByteArray) (i:Nat),i<a.size->a[i]! = a.data.toList.getD i 0:=fun a i av=>by
  simp only[awe,axG];rw[getElem!_pos a i av];have:i<a.data.size:=av;rw[axk this]; rfl
 have al:∀ a:ByteArray,a.data.toList.length=a.size:=fun a=>by rw[axO]; rfl
 rw[al,al];have LQ:(List.range (min a.size b.size)).find? (fun i=>a[i]! != b[i]!)=(List.range (min a.size b.size)).find? (fun i=>a.data.toList.getD i 0 != b.data.toList.getD i 0) :=by
  apply TJ;intro i av;have:=aws.1 av;rw[aq a i (by omega),aq b i (by omega)]
 rw[LQ];cases aF:(List.range (min a.size b.size)).find? (fun i=>a.data.toList.getD i 0 != b.data.toList.getD i 0) with
 | none=>rfl
 | some i=>
  have:=aws.1 (ayK aF);simp only;rw[aq a i (by omega),aq b i (by omega)]
theorem aeb {fn:Func} (aC:fn.name= "internal/bytealg.Compare") (ap:fn.origin= ""\/fn.origin= "internal/bytealg.Compare") :Extern.find fn=some Extern.BytealgCompare.compare/\Extern.findNext fn=none:=by
 constructor
 ·unfold Extern.find;simp only[aC];rfl
 ·unfold Extern.findNext;simp only[aC];rcases ap with ap | ap<;>rw[ap]<;>rfl
theorem adU (rel:cc R B w h μ) {f:FuncId} {fn:Func} {args:List U} {vs:Array Value} {c:U} (aF:P.funcs[f]? = some fn) (av:Eh fn=true) (ah:CO h args=some c)
  (al:vs.size=args.length) (au:∀ (j:Nat) (c:U) (v:Value),args[j]? = some c->vs[j]? = some v->aS w R h μ c v) :
  ∃ v,(callFunc f vs).run P w=.ok (.value v) w/\aS w R h μ c v:=by
 unfold Eh at av;simp only[avU,axT,beq_iff_eq] at av;obtain⟨⟨ag,aC⟩,ap⟩:=av;unfold CO at ah;split at ah
 ·rename_i x y;split at ah
  ·rename_i a b aA bO;simp only[Option.some.injEq] at ah; subst ah;simp only[awa,awu] at al;have np:vs=#[vs[0],vs[1]] :=by
    apply Array.ext
    ·simpa using al
    ·intro i h1 ad;rcases (show i=0\/i=1 by simp at ad; omega) with rfl | rfl<;>rfl
   obtain⟨ba,h1,ad⟩:=QJ (P:=P) rel aA (au 0 x vs[0] rfl (by simp[al]));obtain⟨bb,aj,aE⟩:=QJ (P:=P) rel bO (au 1 y vs[1] rfl (by simp[al]));obtain⟨aR,bJ⟩:=aeb aC ap;refine⟨.int .i64 (oN a b),?_,.int _ _⟩;rw[np];have bI:fn.name≠ "runtime.NumGoroutine":=by rw[aC]; decide
   have ag:=ayL.1 ag;have rP:Extern.BytealgCompare.compare #[vs[0],vs[1]]=(do pure (goInt (Extern.BytealgCompare.cmp (<-Extern.Bytes.bytesOf vs[0]) (<-Extern.Bytes.bytesOf vs[1])))) :=rfl;simp[callFunc,aF,bI,ag,aR,bJ,mark,Sem.run,rP,h1,aj,Aq,ad,aE,goInt]
  ·cases ah
 ·cases ah
end

section
variable {P:Program} {w:World} {R:Nat->Prop} {B:Nat} {h:aQ} {μ:cX}
inductive x2:Value->Value->Prop where
 | bool (a b:Bool) :x2 (.bool a) (.bool b)
 | agg (a b:Array Value) :x2 (.agg a) (.agg b)
 | slice (a:Option Addr) (l c:Nat) (fl:Option Addr) (l' c' : Nat) :x2 (.slice a l c) (.slice fl l' c')
theorem adK {d:Nat} {t:TypeId} {x y:U} {b:Bool} {bK gm:Value} (ao:eZ P d t x y=some b) (af:aS w R h μ x bK) (ax:aS w R h μ y gm)
  (av:∀ k a k' bu,x=.int k a->y=.int k' bu->False) (ak:∀ a bu,x=.str a->y=.str bu->False) :x2 bK gm:=by
 cases d with
 | zero=>simp[eZ] at ao
 | succ d=>
  unfold eZ at ao;split at ao
  ·cases af; cases ax; exact .bool _ _
  ·exact (av _ _ _ _ rfl rfl).elim
  ·exact (ak _ _ rfl rfl).elim
  ·cases af; cases ax; exact .agg _ _
  ·cases af; cases ax; exact .agg _ _
  ·cases af; cases ax; exact .slice _ _ _ _ _ _
  ·cases af; cases ax<;>exact .slice _ _ _ _ _ _
  ·cases af; cases ax<;>exact .slice _ _ _ _ _ _
  ·cases af<;>cases ax<;>exact .slice _ _ _ _ _ _
  ·cases af<;>cases ax<;>exact .slice _ _ _ _ _ _
  ·cases ao
theorem adI {op:BinOp} {t:TypeId} {vA tL:Operand} {bK gm:Value} (ak:x2 bK gm) (aq:∀ a b,bK=.agg a->gm=.agg b->P.eqGuardType P.depth t=false) :(eqGuard op t vA tL bK gm).run P w=.ok () w:=by
 cases ak with
 | bool a b=>cases op<;>rfl
 | agg a b=>exact run_eqGuard_agg w op t vA tL a b (aq a b rfl rfl)
 | slice=>cases op<;>rfl
theorem amt {t:TypeId} {bK gm:Value} {b:Bool} (ak:x2 bK gm) (gn:(Op.equalIn 10000 t bK gm).run P w=.ok b w) :
  (binOp .eql t bK gm).run P w=.ok (.bool b) w/\(binOp .neq t bK gm).run P w=.ok (.bool (!b)) w:=by
 have aW:(Op.equal t bK gm).run P w=.ok b w:=gn;cases ak<;>constructor<;>simp[binOp,aW]
theorem adH {op:BinOp} {t:TypeId} {vA tL:Operand} {k k' : IntKind} {a b:Int}:(eqGuard op t vA tL (.int k a) (.int k' b)).run P w=.ok () w:=by
 cases op<;>rfl
theorem adJ {op:BinOp} {t:TypeId} {vA tL:Operand} {a b:ByteArray}:(eqGuard op t vA tL (.string a) (.string b)).run P w=.ok () w:=by
 cases op<;>rfl
theorem ab7 {op:BinOp} {t:TypeId} {vA tL:Operand} {x y c:U} {bK gm:Value} (ah:gH P op t x y=some c) (af:aS w R h μ x bK) (ax:aS w R h μ y gm) :
  ∃ v,((do eqGuard op t vA tL bK gm; binOp op t bK gm:Sem Value)).run P w=.ok v w/\aS w R h μ c v:=by
 unfold gH at ah;split at ah
 ·cases af; cases ax;obtain⟨v,h1,ad⟩:=ab8 (P:=P) (w:=w) (R:=R) (h:=h) (μ:=μ) (t:=t) ah;exact⟨v,by simp[adH,h1],ad⟩
 ·cases af; cases ax;obtain⟨v,h1,ad⟩:=ab9 (P:=P) (w:=w) (R:=R) (h:=h) (μ:=μ) (t:=t) ah;exact⟨v,by simp[adJ,h1],ad⟩
 ·rename_i ahr tl;have key:∀ b,yl P t x y=true->eZ P 10000 t x y=some b->x2 bK gm/\(eqGuard op t vA tL bK gm).run P w=.ok () w ∧
    (binOp .eql t bK gm).run P w=.ok (.bool b) w/\(binOp .neq t bK gm).run P w=.ok (.bool (!b)) w:=by
   intro b c1 ao;have mT:=adK ao af ax ahr tl;have aq:∀ a b,bK=.agg a->gm=.agg b->P.eqGuardType P.depth t=false:=by
    rintro a b rfl rfl;cases af with
    | aH cs _ _ _ _=>
     cases ax with
     | aH cs' _ _ _ _=>simpa [yl] using c1
     | bad=>simp[eZ] at ao
    | bad=>cases ax<;>simp[eZ] at ao
   have aW:=KE 10000 t x y b bK gm ao af ax;obtain⟨ce,bP⟩:=amt mT aW;exact⟨mT,adI mT aq,ce,bP⟩
  split at ah
  ·split at ah
   ·rename_i c1;cases ao:eZ P 10000 t x y with
    | none=>rw[ao] at ah; cases ah
    | some b=>
     rw[ao] at ah;simp only[avZ,Option.some.injEq] at ah; subst ah;obtain⟨_,ce,bP,_⟩:=key b c1 ao;exact⟨.bool b,by simp[ce,bP],.bool _⟩
   ·cases ah
  ·split at ah
   ·rename_i c1;cases ao:eZ P 10000 t x y with
    | none=>rw[ao] at ah; cases ah
    | some b=>
     rw[ao] at ah;simp only[avZ,Option.some.injEq] at ah; subst ah;obtain⟨_,ce,_,bP⟩:=key b c1 ao;exact⟨.bool (!b),by simp[ce,bP],.bool _⟩
   ·cases ah
  ·cases ah
theorem aok {op:UnOp} {x c:U} {bK:Value} (ah:rg op x=some c) (af:aS w R h μ x bK) :∃ v,(Op.unary op bK).run P w=.ok v w/\aS w R h μ c v:=by
 unfold rg at ah;split at ah
 ·simp only[Option.some.injEq] at ah; subst ah;cases af;exact⟨_,by simp[Op.unary],.bool _⟩
 ·simp only[Option.some.injEq] at ah; subst ah;cases af;refine⟨_,?_,.int _ _⟩;simp only[Op.unary]; rfl
 ·simp only[Option.some.injEq] at ah; subst ah;cases af;refine⟨_,?_,.int _ _⟩;simp only[Op.unary]; rfl
 ·cases ah
theorem NR {aB:Operand->U} {ey:Operand->Value} (dm:∀ x,aS w R h μ (aB x) (ey x)) (o:Option Operand) :x5 w R h μ (o.map aB) (o.map ey) :=by
 cases o with
 | none=>trivial
 | some x=>exact dm x
def Co (P:Program) (R:Nat->Prop) (B:Nat) (w:World) (h:aQ) (μ:cX) (r:Result Next) :qa->Prop
 | .val c h'=>Good R B w h μ r c h'
 | .call f args h'=>h'=h/\∃ vs:Array Value,r=.ok (.enter f vs) w/\vs.size=args.length/\∀ (j:Nat) (c:U) (v:Value),args[j]? = some c->vs[j]? = some v->aS w R h μ c v
theorem Good.mk {r:Result Next} {c:U} {h' : aQ} {v:Value} {w' : World} {μ' : cX} (az:r=.ok (.value v) w') (ao:dY w h μ w' h' μ') (al:cc R B w' h' μ') (au:aS w' R h' μ' c v) :Good R B w h μ r c h':=
 ⟨v,w',μ',.inl az,ao,al,au⟩
theorem acv (rel:cc R B w h μ) {b:Builtin} {ts:Array TypeId} {ty:TypeId} {consts:Array Bool} {args:List U} {vs:Array Value} {r:qa} (ak:qg P h b ts.toList args=some r)
  (al:vs.size=args.length) (au:∀ (j:Nat) (c:U) (v:Value),args[j]? = some c->vs[j]? = some v->aS w R h μ c v) :Co P R B w h μ ((builtin b ts ty consts vs).run P w) r:=by
 have one:∀ x,args=[x]->∃ bK,vs=#[bK]/\aS w R h μ x bK:=by
  intro x af;subst af;simp only[awa,awu] at al;refine⟨vs[0],?_,au 0 x _ rfl (by simp[al])⟩;apply Array.ext
  ·simpa using al
  ·intro i h1 ad;have:i=0:=by omega
   subst this; rfl
 have two:∀ x y,args=[x,y]->∃ bK gm,vs=#[bK,gm]/\aS w R h μ x bK/\aS w R h μ y gm:=by
  intro x y af;subst af;simp only[awa,awu] at al;refine⟨vs[0],vs[1],?_,au 0 x _ rfl (by simp[al]),au 1 y _ rfl (by simp[al])⟩;apply Array.ext
  ·simpa using al
  ·intro i h1 ad;rcases (show i=0\/i=1 by simp at ad; omega) with rfl | rfl<;>rfl
 have JV:∀ t,ts.toList=[t]->ts=#[t] :=fun t aI=>by apply Array.toList_inj.1; simpa using aI
 have Qn:∀ t u,ts.toList=[t,u]->ts=#[t,u] :=fun t u aI=>by apply Array.toList_inj.1; simpa using aI
 unfold qg at ak;split at ak
 ·rename_i t x rZ;obtain⟨bK,rfl,af⟩:=one x rfl;obtain rfl:=JV t rZ;split at ak
  ·rename_i c ah;simp only[Option.some.injEq] at ak; subst ak;obtain⟨v,h1,ad⟩:=ajN (P:=P) (ty:=ty) rel ah af;exact Good.mk (by simp[builtin,h1]) (.refl _ _ _) rel ad
  cases ah:zk P t x with
  | none=>rw[ah] at ak; cases ak
  | some c=>
   rw[ah] at ak;simp only[avZ,Option.some.injEq] at ak; subst ak;obtain⟨v,h1,ad⟩:=ajO (P:=P) (u:=t) (ty:=ty) ah af;exact Good.mk (by simp[builtin,h1]) (.refl _ _ _) rel ad
 ·rename_i t u s x rZ;obtain⟨pY,bK,rfl,tn,af⟩:=two s x rfl;obtain rfl:=Qn t u rZ;split at ak
  ·rename_i k aN;cases ah:Cu P h t s x with
   | none=>rw[ah] at ak; cases ak
   | some c=>
    obtain⟨c,h'⟩:=c;rw[ah] at ak;simp only[avZ,Option.some.injEq] at ak; subst ak;obtain⟨v,w',μ',h1,ad,aj,aE⟩:=abT (ty:=ty) rel aN ah tn af;exact Good.mk (by simp[builtin,h1]) ad aj aE
  ·cases ak
  ·rename_i rT oX;cases ah:sP P h t s x with
   | none=>rw[ah] at ak; cases ak
   | some c=>
    obtain⟨c,h'⟩:=c;rw[ah] at ak;simp only[avZ,Option.some.injEq] at ak; subst ak;have aN:BB P u:=by
     cases bC:P.underlying u with
     | none=>exact absurd bC oX
     | some d=>exact⟨d,bC,fun k hk=>rT k (by rw[bC,hk])⟩
    obtain⟨v,w',μ',h1,ad,aj,aE⟩:=JU (ty:=ty) rel aN ah tn af;exact Good.mk (by simp[builtin,h1]) ad aj aE
 ·rename_i t u d x rZ;obtain⟨Kw,bK,rfl,bC,af⟩:=two d x rfl;obtain rfl:=Qn t u rZ;cases ah:Ar P h t d x with
  | none=>rw[ah] at ak; cases ak
  | some c=>
   obtain⟨c,h'⟩:=c;rw[ah] at ak;simp only[avZ,Option.some.injEq] at ak; subst ak;obtain⟨v,w',h1,ad,aj,aE⟩:=adc (u:=u) (ty:=ty) rel ah bC af;exact Good.mk (by simp[builtin,h1]) ad aj aE
 ·rename_i t x rZ;obtain⟨bK,rfl,af⟩:=one x rfl;obtain rfl:=JV t rZ;cases ah:Al P t x with
  | none=>rw[ah] at ak; cases ak
  | some c=>
   rw[ah] at ak;simp only[avZ,Option.some.injEq] at ak; subst ak;obtain⟨v,h1,ad⟩:=acF (P:=P) (ty:=ty) ah af;exact Good.mk (by simp[builtin,h1]) (.refl _ _ _) rel ad
 ·rename_i t x rZ;obtain⟨bK,rfl,af⟩:=one x rfl;obtain rfl:=JV t rZ;cases ah:Ap P h t x with
  | none=>rw[ah] at ak; cases ak
  | some h'=>
   rw[ah] at ak;simp only[avZ,Option.some.injEq] at ak; subst ak;obtain⟨w',h1,ad,aj⟩:=acR (P:=P) (ty:=ty) rel ah af;exact Good.mk (v:=.tuple #[]) (by simp[builtin,h1]) ad aj (.bG [] #[] rfl (fun _ _ _ aG=>by simp at aG))
 ·rename_i x y;obtain⟨bK,gm,rfl,af,ax⟩:=two x y rfl;cases ah:By x y with
  | none=>rw[ah] at ak; cases ak
  | some c=>
   rw[ah] at ak;simp only[avZ,Option.some.injEq] at ak; subst ak;unfold By at ah;split at ah
   ·split at ah
    ·rename_i hk; subst hk;simp only[Option.some.injEq] at ah; subst ah;cases af; cases ax;refine Good.mk (v:=.int _ _) ?_ (.refl _ _ _) rel (.int _ _);simp[builtin,Builtin.min_,Builtin.min2]
    ·cases ah
   ·cases ah
 ·rename_i x y;obtain⟨bK,gm,rfl,af,ax⟩:=two x y rfl;cases ah:vu x y with
  | none=>rw[ah] at ak; cases ak
  | some c=>
   rw[ah] at ak;simp only[avZ,Option.some.injEq] at ak; subst ak;unfold vu at ah;split at ah
   ·split at ah
    ·rename_i hk; subst hk;simp only[Option.some.injEq] at ah; subst ah;cases af; cases ax;refine Good.mk (v:=.int _ _) ?_ (.refl _ _ _) rel (.int _ _);simp[builtin,Builtin.max_,Builtin.max2]
    ·cases ah
   ·cases ah
 ·cases ak
theorem SM {f:FuncId} {fn:Func} {vs:Array Value} (aF:P.funcs[f]? = some fn) (ag:fn.body.isSome=true) (aC:fn.name≠ "runtime.NumGoroutine") :(callFunc f vs).run P w=.ok (.enter f vs) w:=by
 have bO:fn.body≠none:=fun aG=>by rw[aG] at ag; cases ag
 simp[callFunc,aF,aC,bO]
theorem Nw {aB:Operand->U} {ey:Operand->Value} (dm:∀ x,aS w R h μ (aB x) (ey x)) (xs:Array Operand) :
  ∀ (j:Nat) (c:U) (v:Value),(xs.toList.map aB)[j]? = some c->(xs.map ey)[j]? = some v->aS w R h μ c v:=by
 intro j c v ai au;rw[avV] at ai;rw[aye] at au;cases ap:xs[j]? with
 | none=>simp[ap] at au
 | some o=>
  simp[ap] at ai au;subst ai au;exact dm o
theorem aka {t:TypeId} {name:String} {g:FuncId} (hm:zq P t name=some g) (u:Value) :(Go.method (P.types.size+Made.depth) t u name).run P w=.ok (g,u) w:=by
 unfold zq at hm;split at hm
 ·cases hm
 ·cases hm
 ·rename_i Bi MM;split at hm
  ·rename_i i av;split at hm
   ·rename_i m aF;split at hm
    ·rename_i f ay kV;cases hm;obtain⟨k,hk⟩:∃ k,P.types.size+Made.depth=k+1:=⟨P.types.size+Made.depth - 1,by unfold Made.depth; omega⟩
     rw[hk];cases bC:P.underlying t with
     | none=>exact absurd bC MM
     | some d=>
      have ash:m.path=#[] :=Array.toList_eq_nil_iff.1 ay;cases d<;>first
       | (exfalso; exact Bi _ bC)
       | simp[Go.method,typeInfo,av,aF,ay,kV,follow,receiverAt,cL bC,Place.get]
    ·cases hm
   ·cases hm
  ·cases hm
theorem anL {t PJ:TypeId} {ok:Bool} {z c x:U} {v:Value} (aw:Jd P t=some z) (ah:B2 t z ok x=some c) (af:aS w R h μ x v) :
  ∃ aZ,(Instr.typeAssert v PJ t ok).run P w=.ok aZ w/\aS w R h μ c aZ:=by
 unfold Jd at aw;split at aw
 ·cases aw
 ·cases aw
 ·rename_i Bi MM;cases bC:P.underlying t with
  | none=>exact absurd bC MM
  | some d=>
   obtain⟨zv,tu,mf⟩:=aaL (P:=P) (w:=w) (R:=R) (h:=h) (μ:=μ) aw;have two:∀ (a:U) (iD:Value) (q:Bool),aS w R h μ a iD->aS w R h μ (.bG [a,.bool q]) (.tuple #[iD,.bool q]) :=by
    intro a iD q aA;refine .bG _ _ rfl (fun j c v ai au=>?_)
    match j,ai,au with
    | 0,ai,au=>simp at ai au; subst ai au; exact aA
    | 1,ai,au=>simp at ai au; subst ai au; exact .bool q
    | j+2,ai,au=>simp at ai
   cases x<;>simp only[B2] at ah<;>try (cases ah; done)
   case jT=>
    cases af;cases ok<;>simp only at ah<;>cases ah;refine⟨.tuple #[zv,.bool false],?_,two _ _ _ mf⟩;cases d<;>first
     | (exfalso; exact Bi _ bC)
     | simp[Instr.typeAssert,cL bC,tu]
   case g0 gf yd=>
    cases af with
    | g0 _ _ u aN=>
     split at ah
     ·rename_i aI;have aI:=awK aI;subst aI;cases ok<;>simp only at ah<;>cases ah
      ·refine⟨u,?_,aN⟩;cases d<;>first
        | (exfalso; exact Bi _ bC)
        | simp[Instr.typeAssert,cL bC]
      ·refine⟨.tuple #[u,.bool true],?_,two _ _ _ aN⟩;cases d<;>first
        | (exfalso; exact Bi _ bC)
        | simp[Instr.typeAssert,cL bC]
     ·rename_i aI;have aI:gf≠t:=fun h=>by rw[h,ayM] at aI; cases aI
      cases ok<;>simp only at ah<;>cases ah;refine⟨.tuple #[zv,.bool false],?_,two _ _ _ mf⟩;cases d<;>first
       | (exfalso; exact Bi _ bC)
       | simp[Instr.typeAssert,cL bC,tu,aI]
theorem acA (rel:cc R B w h μ) {aB:Operand->U} {ey:Operand->Value} (dm:∀ x,aS w R h μ (aB x) (ey x)) {c:Call} {ty:TypeId} {r:qa} (ak:wh P h aB c=some r) :
  Co P R B w h μ ((do let d <-resolve ey c ty; invoke d.target d.args:Sem Next).run P w) r:=by
 unfold wh at ak;split at ak
 ·rename_i b ag;have:=fun consts=>acv (P:=P) (b:=b) (ts:=c.argTypes) (ty:=ty) (consts:=consts) (args:=c.args.toList.map aB) (vs:=c.args.map ey) rel ak (by simp)
   (fun j x v ai au=>by
    rw[avV] at ai;rw[aye] at au;cases ap:c.args[j]? with
    | none=>simp[ap] at au
    | some o=>
     simp[ap] at ai au;subst ai au;exact dm o)
  simp only[resolve,ag,Sem.run_bind,Sem.run_pure,Result.andThen_ok,invoke];exact this _
 ·rename_i f aF;split at ak
  ·rename_i g first gi kV
   have au:=dm f;rw[kV] at au;cases wV:ey f with
   | func arm fs cs=>
    rw[wV] at au;cases au with
    | fn _ _ _ _ _ h1 ad aj aE=>
     split at ak
     ·rename_i fn A2;have G1:∀ (j:Nat) (x:U) (v:Value),(first++c.args.toList.map aB++gi)[j]? = some x->(fs++c.args.map ey++cs)[j]? = some v->aS w R h μ x v:=by
       intro j x v ai me;by_cases qH:j<first.length
       ·rw[awo,avQ qH] at ai;rw[ayc,awX (by omega)] at me;exact aj j x v ai me
       ·by_cases qI:j<first.length+c.args.size
        ·rw[avQ (by simp; omega),av2 (by omega),avV] at ai;rw[awX (by simp; omega),ax1 (by omega),aye,h1] at me;cases ap:c.args[j - first.length]? with
         | none=>simp[ap] at me
         | some o=>
          simp[ap] at ai me;subst ai me;exact dm o
        ·rw[av2 (by simp; omega)] at ai;rw[ax1 (by simp; omega)] at me;refine aE _ x v ai ?_;simpa [h1] using me
      split at ak
      ·rename_i j7;simp only[Option.some.injEq] at ak; subst ak;refine⟨rfl,fs++c.args.map ey++cs,?_,by simp[h1,ad],G1⟩;simp[resolve,aF,wV,Deferred.ofValue,invoke,SM A2 j7.1 j7.2]
      ·split at ak
       ·rename_i rP;cases dC:CO h (first++c.args.toList.map aB++gi) with
        | none=>rw[dC] at ak; cases ak
        | some aqu=>
         rw[dC] at ak;simp only[avZ,Option.some.injEq] at ak; subst ak;obtain⟨v,aR,bJ⟩:=adU (P:=P) (vs:=fs++c.args.map ey++cs) rel A2 rP dC (by simp[h1,ad]) G1;rw[ayc] at aR;exact Good.mk (by simp[resolve,aF,wV,Deferred.ofValue,invoke,aR]) (.refl _ _ _) rel bJ
       ·cases ak
     ·cases ak
   | _=>rw[wV] at au; cases au
  ·cases ak
 ·rename_i x name ah;split at ak
  ·rename_i t v0 af;have au:=dm x;rw[af] at au;split at ak
   ·rename_i g hm;split at ak
    ·rename_i fn A2;split at ak
     ·rename_i j7;simp only[Option.some.injEq] at ak; subst ak;cases wV:ey x with
      | iface gf u=>
       rw[wV] at au;cases au with
       | g0 _ _ _ aN=>
        refine⟨rfl,#[u]++c.args.map ey,?_,by simp; omega,?_⟩
        ·have ahl:=aka (P:=P) (w:=w) hm u;have aD:(#[Value.iface t u]++c.args.map ey)[0]? = some (Value.iface t u) :=by rw[awX (by simp)]; rfl
         have hh:(c.args.map ey).extract 0 c.args.size=c.args.map ey:=by
          apply Array.ext';simp[avO]
         simp[aD,hh,resolve,ah,wV,invoke,callMethod,ahl,SM A2 j7.1 j7.2]
        ·intro j x v ai me;cases j with
         | zero=>
          rw[awX (by simp)] at me;simp at ai me; subst ai me; exact aN
         | succ j=>
          rw[awx] at ai;rw[ax1 (by simp)] at me;exact Nw dm c.args j x v ai (by simpa using me)
      | _=>rw[wV] at au; cases au
     ·cases ak
    ·cases ak
   ·cases ak
  ·cases ak
theorem N1 {aB:Operand->U} {ey:Operand->Value} (dm:∀ x,aS w R h μ (aB x) (ey x)) (cU:Array (Nat × Operand)) :
  (cU.map fun (i,x)=>(i,ey x)).size=(cU.toList.map fun p=>(p.1,aB p.2)).length ∧
  ∀ (j:Nat) (p:Nat × U) (bV:Nat × Value),(cU.toList.map fun p=>(p.1,aB p.2))[j]? = some p->(cU.map fun (i,x)=>(i,ey x))[j]? = some bV->bV.1=p.1/\aS w R h μ p.2 bV.2:=by
 refine⟨by simp,fun j p bV ai dv=>?_⟩;rw[avV] at ai;rw[aye] at dv;cases ap:cU[j]? with
 | none=>simp[ap] at dv
 | some o=>
  simp[ap] at ai dv;subst ai dv;exact⟨rfl,dm o.2⟩
theorem O5 (rel:cc R B w h μ) {aB:Operand->U} {ey:Operand->Value} (dm:∀ x,aS w R h μ (aB x) (ey x)) (o:Oper) {r:qa} (ak:di P h aB o.op=some r) :
  Co P R B w h μ ((execOp ey o).run P w) r:=by
 obtain⟨dst,op,type,pos,after,guard⟩:=o;have pO:∀ {x:Option U} {m:Sem Value},(∀ c,x=some c->∃ v,m.run P w=.ok v w/\aS w R h μ c v)->x.map (fun y=>qa.val y h)=some r->
   Co P R B w h μ ((do pure (.value (<-m)) :Sem Next).run P w) r:=by
  intro x m af az;cases gL:x with
  | none=>rw[gL] at az; cases az
  | some c=>
   rw[gL] at az;simp only[avZ,Option.some.injEq] at az; subst az;obtain⟨v,h1,ad⟩:=af c gL;exact Good.mk (by simp[h1]) (.refl _ _ _) rel ad
 have Ir:∀ {x:Option (U × aQ)} {m:Sem Value},(∀ c h',x=some (c,h')->∃ v w' μ',m.run P w=.ok v w'/\dY w h μ w' h' μ'/\cc R B w' h' μ'/\aS w' R h' μ' c v)->x.map (fun y=>qa.val y.1 y.2)=some r->
   Co P R B w h μ ((do pure (.value (<-m)) :Sem Next).run P w) r:=by
  intro x m af az;cases gL:x with
  | none=>rw[gL] at az; cases az
  | some c=>
   obtain⟨c,h'⟩:=c;rw[gL] at az;simp only[avZ,Option.some.injEq] at az; subst az;obtain⟨v,w',μ',h1,ad,aj,aE⟩:=af c h' gL;exact Good.mk (by simp[h1]) ad aj aE
 cases op
 case move x=>
  simp only[di,Option.some.injEq] at ak; subst ak;exact Good.mk (by simp[execOp]) (.refl _ _ _) rel (dm x)
 case assign x=>
  simp only[di,Option.some.injEq] at ak; subst ak;exact Good.mk (by simp[execOp]) (.refl _ _ _) rel (dm x)
 case pick c a b=>
  simp only[di] at ak;have jc:=dm c;cases ah:aB c<;>rw[ah] at ak jc<;>simp only at ak<;>try (cases ak; done)
  simp only[Option.some.injEq] at ak; subst ak;cases au:ey c<;>rw[au] at jc<;>try (cases jc; done)
  cases jc;rename_i t;cases t
  ·exact Good.mk (v:=ey b) (by simp[execOp,au,asBool]) (.refl _ _ _) rel (by simpa using dm b)
  ·exact Good.mk (v:=ey a) (by simp[execOp,au,asBool]) (.refl _ _ _) rel (by simpa using dm a)
 case alloc t=>
  simp only[di] at ak;cases aw:hV P t with
  | none=>rw[aw] at ak; cases ak
  | some z=>
   rw[aw] at ak;simp only[avZ,Option.some.injEq] at ak; subst ak;obtain⟨v,au,az⟩:=x0 (P:=P) (w:=w) (R:=R) (h:=h) (μ:=μ) aw;obtain⟨aV,a1,a3⟩:=FK rel (cs:=z) (vs:=v.cells) t az.1 az.2;exact Good.mk (by simp[execOp,Instr.alloc,au,newVar,newRow]) aV a1 (a3 0)
 case box t x=>
  simp only[di] at ak;cases aw:(aB x).cells with
  | none=>rw[aw] at ak; cases ak
  | some z=>
   rw[aw] at ak;simp only[avZ,Option.some.injEq] at ak; subst ak;obtain⟨ce,bP⟩:=F3 (dm x) aw;obtain⟨aV,a1,a3⟩:=FK rel (cs:=z) (vs:=(ey x).cells) t ce bP;exact Good.mk (by simp[execOp,Instr.box,newVar,newRow]) aV a1 (a3 0)
 case build t parts=>
  obtain⟨ce,bP⟩:=N1 dm parts;exact pO (fun c ah=>acs ah ce bP) ak
 case buildSlice t len parts=>
  obtain⟨ce,bP⟩:=N1 dm parts;exact Ir (fun c h' ah=>acr rel ah ce bP) ak
 case load t a=>exact pO (fun c ah=>Xj rel ah (dm a)) ak
 case store t a x=>
  simp only[di] at ak;cases ci:BZ P h t (aB a) (aB x) with
  | none=>rw[ci] at ak; cases ak
  | some h'=>
   rw[ci] at ak;simp only[avZ,Option.some.injEq] at ak; subst ak;obtain⟨w',h1,ad,aj⟩:=anz (P:=P) rel ci (dm a) (dm x);exact⟨undef,w',μ,.inr ⟨by simp[execOp,h1],rfl⟩,ad,aj,.bG [] #[] rfl (fun _ _ _ aG=>by simp at aG)⟩
 case nilCheck x=>
  simp only[di] at ak;have au:=dm x;cases ah:aB x<;>rw[ah] at ak au<;>simp only at ak<;>try (cases ak; done)
  all_goals
   simp only[Option.some.injEq] at ak; subst ak;cases af:ey x<;>rw[af] at au<;>try (cases au; done)
   rename_i y;refine Good.mk (v:=ey x) ?_ (.refl _ _ _) rel (by rw[af]; exact au);cases au<;>simp[execOp,af]
 case binOp op t x y avM=>exact pO (fun c ah=>ab7 ah (dm x) (dm y)) ak
 case unOp op t x=>exact pO (fun c ah=>aok ah (dm x)) ak
 case convert s d x=>
  simp only[di] at ak;split at ak
  ·rename_i c ah;simp only[Option.some.injEq] at ak; subst ak;obtain⟨v,w',h1,ad,aj,aE⟩:=acw rel ah (dm x);exact Good.mk (by simp[execOp,h1]) ad aj aE
  ·exact pO (fun c ah=>ada rel ah (dm x)) ak
 case makeInterface t x=>
  simp only[di] at ak;cases aN:P.underlying t with
  | none=>rw[aN] at ak; cases ak
  | some d=>
   rw[aN] at ak;cases d<;>simp only at ak<;>try (cases ak; done)
   all_goals
    simp only[Option.some.injEq] at ak; subst ak;exact Good.mk (v:=.iface t (ey x)) (by simp[execOp,Instr.makeInterface,cL aN]) (.refl _ _ _) rel (.g0 t _ _ (dm x))
 case makeFunc fn first gi=>
  cases fn<;>simp only[di] at ak<;>try (cases ak; done)
  simp only[Option.some.injEq] at ak; subst ak;exact Good.mk (by simp[execOp,Instr.makeFunc]) (.refl _ _ _) rel (.fn _ _ _ _ _ (by simp) (by simp) (Nw dm first) (Nw dm gi))
 case makeSlice t l c=>exact Ir (fun c' h' ah=>aj5 rel ah (dm l) (dm c)) ak
 case slice t x cV av cW=>exact pO (fun c ah=>amV rel ah (dm x) (NR dm cV) (NR dm av) (NR dm cW)) ak
 case fieldAddr s x f=>exact pO (fun c ah=>ad3 ah (dm x)) ak
 case field t x f=>
  simp only[di] at ak;split at ak
  ·rename_i cs fd af aF;have au:=dm x;rw[af] at au;exact pO (fun c ah=>ad4 aF ah au) ak
  ·cases ak
 case indexAddr t x i=>exact pO (fun c ah=>aiF ah (dm x) (dm i)) ak
 case index t x i=>exact pO (fun c ah=>M5 ah (dm x) (dm i)) ak
 case extract x i=>
  simp only[di] at ak;have au:=dm x;cases ah:aB x<;>rw[ah] at ak au<;>simp only at ak<;>try (cases ak; done)
  rename_i vs;cases af:ey x<;>rw[af] at au<;>try (cases au; done)
  rename_i arr;cases au with
  | bG _ _ al MR=>
   refine pO (m:=Instr.extract (ey x) i) (fun c ah=>?_) ak;have aM:i<arr.size:=by rw[al]; exact (avP.1 ah).1
   exact⟨arr[i],by simp[Instr.extract,af,aM],MR i c _ ah (by simp[aM])⟩
 case call c=>exact acA rel dm ak
 case makeMap t r=>
  simp only[di] at ak;split at ak
  ·rename_i k e aN az;simp only[Option.some.injEq] at ak; subst ak;obtain⟨v,w',μ',h1,ad,aj,aE⟩:=aj4 (P:=P) (t:=t) (r:=r.map ey) rel ⟨_,_,aN⟩ (fun x af=>by
    cases r with
    | none=>cases af
    | some o=>
     simp only[avZ,Option.some.injEq] at af; subst af;simp only at az;cases av:asInt (aB o) with
     | none=>rw[av] at az; cases az
     | some n=>
      obtain⟨k,hk⟩:=sQ av (dm o);exact⟨k,n,hk⟩)
   exact Good.mk (by simp[execOp,h1]) ad aj aE
  ·cases ak
 case lookup t m k ok=>exact pO (fun c ah=>ajX rel ah (dm m) (dm k)) ak
 case mapUpdate t m k x=>
  simp only[di] at ak;cases ci:zp P h t (aB m) (aB k) (aB x) with
  | none=>rw[ci] at ak; cases ak
  | some h'=>
   rw[ci] at ak;simp only[avZ,Option.some.injEq] at ak; subst ak;obtain⟨w',h1,ad,aj⟩:=Xw (P:=P) rel ci (dm m) (dm k) (dm x);exact⟨undef,w',μ,.inr ⟨by simp[execOp,h1],rfl⟩,ad,aj,.bG [] #[] rfl (fun _ _ _ aG=>by simp at aG)⟩
 case insert t m k x=>
  simp only[di] at ak;cases ci:zp P h t (aB m) (aB k) (aB x) with
  | none=>rw[ci] at ak; cases ak
  | some h'=>
   rw[ci] at ak;simp only[avZ,Option.some.injEq] at ak; subst ak;obtain⟨w',h1,ad,aj⟩:=Xw (P:=P) rel ci (dm m) (dm k) (dm x);exact⟨undef,w',μ,.inr ⟨by simp[execOp,h1],rfl⟩,ad,aj,.bG [] #[] rfl (fun _ _ _ aG=>by simp at aG)⟩
 case range t x=>exact Ir (fun c h' ah=>alQ rel ah (dm x)) ak
 case next it isS=>
  cases isS with
  | false=>simp only[di] at ak; cases ak
  | true=>exact Ir (fun c h' ah=>by obtain⟨v,w',h1,ad,aj,aE⟩:=akg (P:=P) (ty:=type) rel ah (dm it); exact⟨v,w',μ,h1,ad,aj,aE⟩) ak
 case typeAssert x PJ t ok=>
  simp only[di] at ak;split at ak
  ·rename_i z aw;exact pO (fun c ah=>anL aw ah (dm x)) ak
  ·cases ak
 all_goals (simp only[di] at ak; cases ak)
end
inductive sF where
 | normal
 | exit (id:Nat)
 | ret
def sF.out:sF->Exit
 | .normal=>.normal
 | .exit id=>.exit id
 | .ret=>.ret
def ll (ops:Array Oper) (ae:Nat->U) (o:Oper) :Option Bool:=
 match o.guard with
 | none=>some true
 | some (j,B7)=>match (ops[j]?).bind (·.dst) with
  | none=>some false
  | some d=>match ae d with
   | .bool b=>some (b == B7)
   | .bad=>none
   | _=>some false
def hD (ae:Nat->U) (dst:Option Tmp) (c:U) :Nat->U:=match dst with | some d=>bS ae d c | none=>ae
def qm (N:Nat) (dst:Option Tmp) :Bool:=match dst with | some d=>decide (d<N) | none=>true
def BT (P:Program) (h:aQ) (ae:Nat->U) :ResultVar->Option U
 | .tmp t=>some (ae t)
 | .cell a t=>tB P h t (ae a)
def xF (P:Program) (h:aQ) (ae:Nat->U) :List ResultVar->Option (List U)
 | []=>some []
 | r::oz=>match BT P h ae r,xF P h ae oz with
  | some v,some vs=>some (v::vs)
  | _,_=>none
def xS:List U->U
 | [v]=>v
 | vs=>.bG vs
def IZ (P:Program) (h:aQ) (ae:Nat->U) (fn:Func) :Option U:=(xF P h ae fn.results.toList).map xS
mutual
def U.closed:U->Bool
 | .aH cs=>bd cs
 | .bG cs=>bd cs
 | .b3 cs _=>bd cs
 | .bQ _ es=>CL es
 | .fn _ a b=>bd a&&bd b
 | .g0 _ v=>v.closed
 | .ptr .. | .ar .. | .mp _ | .it _=>false
 | _=>true
def bd:List U->Bool
 | []=>true
 | c::cs=>c.closed&&bd cs
def CL:List (List U)->Bool
 | []=>true
 | c::cs=>bd c&&CL cs
end
def fP (w:World) (A:Nat->Prop) (c:U) (v:Value) :Prop:=aS w A aQ.empty (fun _=>none) c v
structure z1 (w w' : World) :Prop extends RowKit.Below w.heap.size w w' where
 drawn:w.drawn<=w'.drawn
def uj (G:Nat->U) (w:World) (R:Nat->Prop) (h:aQ) (μ:cX) :Prop:=∀ g,(G g).closed=true/\aS w R h μ (G g) (.pointer (some ⟨g,0,none⟩))
def sG (P:Program) (G:Nat->U) (f:FuncId) (args:List U) (h:aQ) (r:U) (h' : aQ) :Prop:=
 ∀ (R:Nat->Prop) (B:Nat) (w:World) (μ:cX) (vs:Array Value),cc R B w h μ->uj G w R h μ->vs.size=args.length->
  (∀ (j:Nat) (c:U) (v:Value),args[j]? = some c->vs[j]? = some v->aS w R h μ c v)->
  Calls P f vs w fun e w'=>∃ v μ',e=.returned v/\dY w h μ w' h' μ'/\cc R B w' h' μ'/\aS w' R h' μ' r v
def bz (P:Program) (G:Nat->U) (f:FuncId) (args:List U) (r:U) :Prop:=
 ∀ (w:World) (A:Nat->Prop) (vs:Array Value),(∀ g,fP w A (G g) (.pointer (some ⟨g,0,none⟩)))->vs.size=args.length->
  (∀ (j:Nat) (c:U) (v:Value),args[j]? = some c->vs[j]? = some v->fP w A c v)->
  Calls P f vs w fun e w'=>∃ v,e=.returned v/\z1 w w'/\fP w' (fun k=>A k\/w.heap.size<=k) r v
def jZ (P:Program) (G:Nat->U) (f:FuncId) (args:List U) (r:U) :Prop:=
 ∀ (w:World) (A:Nat->Prop) (vs:Array Value),(∀ g,fP w A (G g) (.pointer (some ⟨g,0,none⟩)))->vs.size=args.length->
  (∀ (j:Nat) (c:U) (v:Value),args[j]? = some c->vs[j]? = some v->fP w A c v)->
  Calls P f vs w fun e w'=>∃ v,e=.returned v/\z1 w w'/\fP w' (fun k=>w.heap.size<=k) r v
inductive gh (h:aQ) :U->U->Prop
 | same (c:U) (ah:c.closed=true) :gh h c c
 | aH (cs cs' : List U) (al:cs'.length=cs.length) (au:∀ (j:Nat) (c c' : U),cs[j]? = some c->cs'[j]? = some c'->gh h c c') :gh h (.aH cs) (.aH cs')
 | bG (cs cs' : List U) (al:cs'.length=cs.length) (au:∀ (j:Nat) (c c' : U),cs[j]? = some c->cs'[j]? = some c'->gh h c c') :gh h (.bG cs) (.bG cs')
 | ar (z b off len cap sz:Nat) (cs:List U) (es:List (List U)) (ag:h.f b=.cells sz cs) (al:es.length=len) (aw:∀ e∈es,e.length=z)
   (ec:off+len*z<=cs.length)
   (au:∀ (i j:Nat) (e:List U) (c c' : U),es[i]? = some e->e[j]? = some c'->cs[off+(i*z+j)]? = some c->gh h c c') :gh h (.ar z b off len cap sz) (.bQ z es)
 | su (z b off cap sz:Nat) :gh h (.ar z b off 0 cap sz) (.bQ z [])
 | ptr (b off sz:Nat) (cs cs' : List U) (ag:h.f b=.cells sz cs) (al:cs'.length=cs.length) (au:∀ (j:Nat) (c c' : U),cs[j]? = some c->cs'[j]? = some c'->gh h c c') :gh h (.ptr b off sz) (.b3 cs' off)
mutual
def U.flat:U->Bool
 | .aH cs=>mB cs
 | .bG cs=>mB cs
 | .g0 _ v=>v.flat
 | .bool _ | .int .. | .str _ | .jU | .aT | .ia | .jS | .jT=>true
 | _=>false
def mB:List U->Bool
 | []=>true
 | c::cs=>c.flat&&mB cs
end
inductive FB where
 | pure | new | gO
def ot (P:Program) (aB:Operand->U) :Op->Option (List U × (Nat->U))
 | .alloc t=>(hV P t).map fun z=>(z,fun b=>.ptr b 0 z.length)
 | .box _ x=>(aB x).cells.map fun cs=>(cs,fun b=>.ptr b 0 cs.length)
 | .buildSlice t len parts=>match iR P t with
  | some e=>match cM P e,hV P e with
   | some z,some zero=>if zero.length=z/\len*z<=16777216 then
     (hP (fun i=>some (i*z,z)) (dN zero len) (parts.toList.map fun p=>(p.1,aB p.2))).map fun cs=>(cs,fun b=>.ar z b 0 len len (len*z))
    else none
   | _,_=>none
  | none=>none
 | .makeSlice t l c=>match iR P t,asInt (aB l),asInt (aB c) with
  | some e,some l,some c=>match cM P e,i5 P e,hV P e with
   | some z,some by_,some zero=>
    if zero.length=z/\0<=l/\l<=c/\c<9223372036854775808/\by_*c<=cy then
     some (dN zero c.toNat,fun b=>.ar z b 0 l.toNat c.toNat (c.toNat*z))
    else none
   | _,_,_=>none
  | _,_,_=>none
 | _=>none
def km (ops:Array Oper) (t:Nat) :Option Nat:=(List.range ops.size).find? fun i=>match ops[i]? with | some o=>o.dst == some t | none=>false
def nX (ops:Array Oper) (pre:Nat->Nat->Bool) (val:Nat->U) (ae:Nat->U) (i:Nat) (o:Oper) :Nat->U:=fun t=>
 if (o.looksAt ops).contains t then
  match km ops t with
  | some j=>if pre i j then val j else ae t
  | none=>ae t
 else .bad
structure uh (ops:Array Oper) (pre:Nat->Nat->Bool) :Prop where
 CZ:∀ (i:Nat) (o:Oper) (e:Edge),ops[i]? = some o->e∈o.after->Region.binds .any e=true->e.on<i
 chain:∀ (i:Nat) (o:Oper) (j:Nat),ops[i]? = some o->pre i j=true->∃ e∈o.after,Region.binds .any e=true/\(e.on=j\/pre e.on j=true)
 one:∀ (i:Nat) (o:Oper) (t:Tmp),ops[i]? = some o->o.dst=some t->km ops t=some i
 acc:∀ (i:Nat) (o:Oper) (t:Tmp) (j:Nat),ops[i]? = some o->t∈o.looksAt ops->km ops t=some j->pre i j=true\/pre j i=true\/j=i
 avl:Region.noSelect ops=true
def xy (h:aQ) (l:List (List U)) :aQ:=l.foldl (fun h cs=>h.push (.cells cs.length cs)) h
def pi (h h' : aQ) :Prop:=∃ l,h'=xy h l
theorem Yt:∀ (l:List (List U)) (h:aQ),(xy h l).n=h.n+l.length
 | [],h=>rfl
 | c::l,h=>by
  have:=Yt l (h.push (.cells c.length c));simp only[xy,List.foldl_cons,List.length_cons] at this ⊢;rw[this];simp only[eG,fN]; omega
theorem Yu:∀ (l:List (List U)) (h:aQ) (b:Nat),b<h.n->(xy h l).f b=h.f b
 | [],h,b,_=>rfl
 | c::l,h,b,ag=>by
  have:=Yu l (h.push (.cells c.length c)) b (by simp only[eG,fN]; omega);simp only[xy,List.foldl_cons] at this ⊢;rw[this];simp only[eG,fN];exact cm _ _ _ _ (by omega)
theorem Ys:∀ (l:List (List U)) (h:aQ),(∀ b,h.n<=b->h.f b=.none)->∀ b,(xy h l).n<=b->(xy h l).f b=.none
 | [],h,aF=>aF
 | c::l,h,aF=>by
  refine Ys l (h.push (.cells c.length c)) (fun b ag=>?_);simp only[eG,fN] at ag ⊢;rw[cm _ _ _ _ (by omega)];exact aF b (by omega)
theorem pi.n {h h' : aQ} (g:pi h h') :h.n<=h'.n:=by obtain⟨l,rfl⟩:=g; rw[Yt]; omega
theorem pi.same {h h' : aQ} (g:pi h h') (b:Nat) (ag:b<h.n) :h'.f b=h.f b:=by obtain⟨l,rfl⟩:=g; exact Yu l h b ag
theorem pi.fresh {h h' : aQ} (g:pi h h') (aF:∀ b,h.n<=b->h.f b=.none) :∀ b,h'.n<=b->h'.f b=.none:=by obtain⟨l,rfl⟩:=g; exact Ys l h aF
inductive rr (h ad:aQ) :U->U->Prop
 | same (c:U) :rr h ad c c
 | aH (cs cs' : List U) (al:cs'.length=cs.length) (au:∀ (j:Nat) (c c' : U),cs[j]? = some c->cs'[j]? = some c'->rr h ad c c') :rr h ad (.aH cs) (.aH cs')
 | ar (z b off len cap sz:Nat) (cs:List U) (es:List (List U)) (ag:h.f b=.cells sz cs) (bC:ad.f b=.dead) (al:es.length=len) (aw:∀ e∈es,e.length=z)
   (ec:off+len*z<=cs.length)
   (au:∀ (i j:Nat) (e:List U) (c c' : U),es[i]? = some e->e[j]? = some c'->cs[off+(i*z+j)]? = some c->rr h ad c c') :rr h ad (.ar z b off len cap sz) (.bQ z es)
 | su (z b off cap sz:Nat) :rr h ad (.ar z b off 0 cap sz) (.bQ z [])
structure rs (h ad:aQ) :Prop where
 n:ad.n=h.n
 blk:∀ b,ad.f b=h.f b\/∃ sz cs,h.f b=.cells sz cs/\(ad.f b=.dead\/∃ hN,ad.f b=.cells sz hN/\hN.length=cs.length/\∀ (j:Nat) (c dJ:U),cs[j]? = some c->hN[j]? = some dJ->rr h ad c dJ)
inductive J where
 | code (c:Code) (N:Nat) (ae:Nat->U) (h:aQ) (e:sF) (b6:Nat->U) (h' : aQ)
 | ops (all:Array Oper) (l:List Oper) (N:Nat) (ae:Nat->U) (h:aQ) (b6:Nat->U) (h' : aQ)
 | op (op:Op) (ae:Nat->U) (h:aQ) (v:U) (h' : aQ)
 | call (f:FuncId) (args:List U) (h:aQ) (r:U) (h' : aQ)
def AB (pre:Nat->Nat->Bool) (m:Nat) (ak:Nat->Nat) (i k:Nat) :Prop:=k<=m/\(∀ q,q<m->pre i (ak q)=true->q<k)/\∀ q,q<m->pre (ak q) i=true->k<=q
inductive dP (P:Program) (G:Nat->U) :J->Prop where
 | skip (N ae h) :dP P G (.code .skip N ae h .normal ae h)
 | label (l N ae h) :dP P G (.code (.label l) N ae h .normal ae h)
 | ret (N ae h) :dP P G (.code .ret N ae h .ret ae h)
 | exit (id N ae h) :dP P G (.code (.exit id) N ae h (.exit id) ae h)
 | Zt {a b N ae h jv h1 e b6 h'}:dP P G (.code a N ae h .normal jv h1)->dP P G (.code b N jv h1 e b6 h')->dP P G (.code (.seq a b) N ae h e b6 h')
 | OT {a b N ae h e b6 h'}:dP P G (.code a N ae h e b6 h')->e≠.normal->dP P G (.code (.seq a b) N ae h e b6 h')
 | cond {c x y N ae h b e b6 h'}:da G ae c=.bool b->dP P G (.code (if b then x else y) N ae h e b6 h')->dP P G (.code (.cond c x y) N ae h e b6 h')
 | FU {id c N ae h e b6 h'}:dP P G (.code c N ae h e b6 h')->e≠.exit id->dP P G (.code (.block id c) N ae h e b6 h')
 | QA {id c N ae h b6 h'}:dP P G (.code c N ae h (.exit id) b6 h')->dP P G (.code (.block id c) N ae h .normal b6 h')
 | Bw {c N ae h jv h1 e b6 h'}:dP P G (.code c N ae h .normal jv h1)->dP P G (.code (.loop c) N jv h1 e b6 h')->dP P G (.code (.loop c) N ae h e b6 h')
 | Nx {c N ae h e b6 h'}:dP P G (.code c N ae h e b6 h')->e≠.normal->dP P G (.code (.loop c) N ae h e b6 h')
 | scope {c N ae h e b6 h'}:dP P G (.code c N ae h e b6 h')->dP P G (.code (.scope c) N ae h e b6 h')
 | region {id ops N ae h b6 h'}:dP P G (.ops ops ops.toList N ae h b6 h')->dP P G (.code (.region id ops false) N ae h .normal b6 h')
 | draw {id ops N ae h b6 h'} (pre:Nat->Nat->Bool) (val:Nat->U) (W:Nat->Bool) (cls:Nat->FB) (m:Nat) (ak:Nat->Nat) (fZ sJ:Nat->aQ) (gV:Nat->Nat) (cells:Nat->List U)
   (hE:uh ops pre)
   (qB:∀ (i:Nat) (o:Oper),ops[i]? = some o->qm N o.dst=true)
   (aD:pi h (fZ 0)) (hm:h'=fZ m) (HU:b6=fun t=>match km ops t with | some i=>val i | none=>ae t)
   (yL:∀ (i:Nat) (o:Oper),ops[i]? = some o->W i=true->cls i=.gO->∃ q,q<m/\ak q=i)
   (DD:∀ q,q<m->∃ o,ops[ak q]? = some o/\W (ak q)=true/\cls (ak q)=.gO)
   (oi:∀ q fR,q<m->fR<m->q<fR->pre (ak fR) (ak q)=true)
   (dz:∀ q fR,q<m->fR<m->ak q=ak fR->q=fR)
   (w6:∀ (i:Nat) (o:Oper),ops[i]? = some o->ll ops (nX ops pre val ae i o) o=some (W i))
   (HK:∀ (i:Nat) (o:Oper),ops[i]? = some o->W i=false->val i=hF)
   (HD:∀ (i:Nat) (o:Oper),ops[i]? = some o->W i=true->cls i=.pure->∀ k,AB pre m ak i k->di P (fZ k) (da G (nX ops pre val ae i o)) o.op=some (.val (val i) (fZ k)))
   (l4:∀ (i:Nat) (o:Oper),ops[i]? = some o->W i=true->cls i=.new->∃ mk,ot P (da G (nX ops pre val ae i o)) o.op=some (cells i,mk)/\val i=mk (gV i)/\h.n<=gV i ∧
    ∀ k,AB pre m ak i k->(fZ k).f (gV i)=.cells (cells i).length (cells i))
   (G6:∀ (i j:Nat) (o cO:Oper),ops[i]? = some o->ops[j]? = some cO->W i=true->W j=true->cls i=.new->cls j=.new->gV i=gV j->i=j)
   (G7:∀ (i:Nat) (o:Oper) (q:Nat),ops[i]? = some o->W i=true->cls i=.new->q<m->gV i<(fZ q).n\/(sJ q).n<=gV i)
   (qF:∀ q,q<m->pi (sJ q) (fZ (q+1)))
   (j6:∀ (q:Nat) (o:Oper),q<m->ops[ak q]? = some o->dP P G (.op o.op (nX ops pre val ae (ak q) o) (fZ q) (val (ak q)) (sJ q))) :
   dP P G (.code (.region id ops true) N ae h .normal b6 h')
 | XW {all N ae h}:dP P G (.ops all [] N ae h ae h)
 | XY {all o l N ae h b6 h'}:ll all ae o=some false->qm N o.dst=true->dP P G (.ops all l N (hD ae o.dst hF) h b6 h')->dP P G (.ops all (o::l) N ae h b6 h')
 | XX {all o l N ae h v h1 b6 h'}:ll all ae o=some true->qm N o.dst=true->dP P G (.op o.op ae h v h1)->dP P G (.ops all l N (hD ae o.dst v) h1 b6 h')->dP P G (.ops all (o::l) N ae h b6 h')
 | Iu {op ae h v h'}:di P h (da G ae) op=some (.val v h')->dP P G (.op op ae h v h')
 | BF {op ae h f args h1 v h'}:di P h (da G ae) op=some (.call f args h1)->dP P G (.call f args h1 v h')->dP P G (.op op ae h v h')
 | Jr {op ae h v h' dS ad}:dP P G (.op op ae h v h')->rs h' ad->rr h' ad v dS->dP P G (.op op ae h dS ad)
 | inline {f fn c args h e b6 h' r}:P.funcs[f]? = some fn->fn.body=some c->
   dP P G (.code c (args.length+(fn.ntmps - args.length)) (fun t=>args.getD t hF) h e b6 h')->(e=.normal\/e=.ret)->IZ P h' b6 fn=some r->dP P G (.call f args h r h')
 | pure {f args h r}:bz P G f args r->bd args=true->dP P G (.call f args h r h)
 | Ob {f args iP h r}:bz P G f iP r->iP.length=args.length->(∀ (j:Nat) (c c' : U),args[j]? = some c->iP[j]? = some c'->gh h c c')->r.flat=true->dP P G (.call f args h r h)
 | ext {f args h r h'}:sG P G f args h r h'->dP P G (.call f args h r h')
 | Oc {f args iP h r}:jZ P G f iP r->iP.length=args.length->(∀ (j:Nat) (c c' : U),args[j]? = some c->iP[j]? = some c'->gh h c c')->dP P G (.call f args h r h)
section
variable {P:Program} {G:Nat->U}
structure nN (N:Nat) (w:World) (R:Nat->Prop) (h:aQ) (μ:cX) (ae:Nat->U) (a:Act) :Prop where
 size:a.tmps.size=N
 defers:a.defers=[]
 val:∀ t,aS w R h μ (ae t) (a.tmps.getD t undef)
theorem uj.ext {w w' : World} {R:Nat->Prop} {h h' : aQ} {μ μ' : cX} (g:uj G w R h μ) (e:dY w h μ w' h' μ') :uj G w' R h' μ':=fun i=>⟨(g i).1,(g i).2.ext e⟩
theorem nN.ext {N:Nat} {w w' : World} {R:Nat->Prop} {h h' : aQ} {μ μ' : cX} {ae:Nat->U} {a:Act} (s:nN N w R h μ ae a) (e:dY w h μ w' h' μ') :nN N w' R h' μ' ae a:=
 ⟨s.size,s.defers,fun t=>(s.val t).ext e⟩
theorem nN.da {N:Nat} {w:World} {R:Nat->Prop} {h:aQ} {μ:cX} {ae:Nat->U} {a:Act} (s:nN N w R h μ ae a) (g:uj G w R h μ) (x:Operand) :aS w R h μ (da G ae x) (a.eval x) :=by
 cases x with
 | tmp t=>exact s.val t
 | const v=>exact aS.xu v
 | global i=>exact (g i).2
 | func f=>exact .fn f [] [] #[] #[] rfl rfl (fun _ _ _ aG=>by simp at aG) (fun _ _ _ aG=>by simp at aG)
theorem Pv {w:World} {R:Nat->Prop} {h:aQ} {μ:cX}:aS w R h μ hF undef:=.bG [] #[] rfl (fun _ _ _ aG=>by simp at aG)
theorem nN.put {N:Nat} {w:World} {R:Nat->Prop} {h:aQ} {μ:cX} {ae:Nat->U} {a:Act} (s:nN N w R h μ ae a) {dst:Option Tmp} (bC:qm N dst=true) {c:U} {v:Value} (au:aS w R h μ c v) :
  nN N w R h μ (hD ae dst c) (a.put dst v) :=by
 cases dst with
 | none=>exact s
 | some d=>
  have aM:d<a.tmps.size:=by rw[s.size]; simpa [qm] using bC
  refine⟨by simp[Act.put,s.size],s.defers,fun t=>?_⟩;simp only[hD,Act.put];by_cases aI:t=d
  ·subst aI;rw[kw];simp[aM];exact au
  ·rw[cm _ _ _ _ aI];have:=s.val t;simpa [Array.getElem?_setIfInBounds_ne (Ne.symm aI)] using this
theorem PD {w:World} {R:Nat->Prop} {h:aQ} {μ:cX} {ops:Array Oper} {ae:Nat->U} {tmps:Array Value} {o:Oper} {b:Bool} (hw:ll ops ae o=some b)
  (au:∀ d,(∃ j B7,o.guard=some (j,B7)/\(ops[j]?).bind (·.dst)=some d)->aS w R h μ (ae d) (tmps.getD d undef)) :Region.wanted o (yielded ops tmps)=b:=by
 unfold ll at hw;unfold Region.wanted;cases aq:o.guard with
 | none=>rw[aq] at hw; simpa using hw
 | some k8=>
  obtain⟨j,B7⟩:=k8;rw[aq] at hw;simp only at hw ⊢;unfold yielded;cases bC:(ops[j]?).bind (·.dst) with
  | none=>
   rw[bC] at hw;simp only[Option.some.injEq] at hw;subst hw;simp
  | some d=>
   rw[bC] at hw;have Bl:=au d ⟨j,B7,aq,bC⟩;simp only[Option.bind_some] at hw ⊢;cases aI:tmps[d]? with
   | none=>
    have aN:tmps.getD d undef=undef:=by simp[Array.getD_eq_getD_getElem?,aI]
    rw[aN] at Bl;cases ah:ae d<;>rw[ah] at hw Bl<;>simp at hw<;>try (subst hw; simp)
    all_goals cases Bl
   | some v=>
    have aN:tmps.getD d undef=v:=by simp[Array.getD_eq_getD_getElem?,aI]
    rw[aN] at Bl;cases ah:ae d<;>rw[ah] at hw Bl<;>simp at hw
    all_goals (cases Bl<;>(subst hw; simp))
def p6 (P:Program) (n:Nat) (c:Code) (Q:Exit->Act->World->Prop) (a:Act) (w:World) :Prop:=
 match c with
 | .loop c'=>Code.rounds P c' Q n a w
 | c=>c.wp P Q a w
theorem p6.wp {n:Nat} {c:Code} {Q:Exit->Act->World->Prop} {a:Act} {w:World} (h:p6 P n c Q a w) :c.wp P Q a w:=by
 cases c<;>first | exact wp_loop_rounds n h | exact h
def x6 (P:Program) (G:Nat->U) :J->Prop
 | .code c N ae h e b6 h'=>∃ n,∀ (R:Nat->Prop) (B:Nat) (w:World) (μ:cX) (a:Act) (Q:Exit->Act->World->Prop),cc R B w h μ->uj G w R h μ->nN N w R h μ ae a->
   (∀ fl w' μ',dY w h μ w' h' μ'->cc R B w' h' μ'->nN N w' R h' μ' b6 fl->Q e.out fl w')->p6 P n c Q a w
 | .ops all l N ae h b6 h'=>∀ (R:Nat->Prop) (B:Nat) (w:World) (μ:cX) (a:Act) (Q:Exit->Act->World->Prop),cc R B w h μ->uj G w R h μ->nN N w R h μ ae a->
   (∀ fl w' μ',dY w h μ w' h' μ'->cc R B w' h' μ'->nN N w' R h' μ' b6 fl->Q .normal fl w')->wpList P all Q l a w
 | .op op ae h v h'=>∀ (R:Nat->Prop) (B:Nat) (w:World) (μ:cX) (a:Act) (o:Oper) (K:Act->World->Prop) (Q:Exit->Act->World->Prop),o.op=op->cc R B w h μ->uj G w R h μ->
   (∀ x,aS w R h μ (da G ae x) (a.eval x))->(∀ aZ w' μ',dY w h μ w' h' μ'->cc R B w' h' μ'->aS w' R h' μ' v aZ->K (a.put o.dst aZ) w')->o.wp P a w K Q
 | .call f args h r h'=>sG P G f args h r h'
theorem ame {N:Nat} {w:World} {R:Nat->Prop} {B:Nat} {h:aQ} {μ:cX} {ae:Nat->U} {a:Act} (rel:cc R B w h μ) (s:nN N w R h μ ae a) {fn:Func} {r:U} (az:IZ P h ae fn=some r) :
  ∃ v,(results fn a.tmps).run P w=.ok v w/\aS w R h μ r v:=by
 have one:∀ (x:ResultVar) (c:U),BT P h ae x=some c->∃ v,(∀ F:ResultVar->Sem Value,(∀ t,F (.tmp t)=pure (a.tmps.getD t undef))->(∀ p t,F (.cell p t)=(do loadVar t (<-asAddr (a.tmps.getD p undef))))->(F x).run P w=.ok v w)/\aS w R h μ c v:=by
  intro x c af;cases x with
  | tmp t=>
   simp only[BT,Option.some.injEq] at af; subst af;exact⟨_,fun F h1 _=>by rw[h1]; rfl,s.val t⟩
  | cell p t=>
   simp only[BT] at af;obtain⟨v,h1,ad⟩:=Xj (P:=P) rel af (s.val p);refine⟨v,fun F _ h3=>?_,ad⟩;rw[h3];cases ay:a.tmps.getD p undef with
   | pointer P1=>
    cases P1 with
    | none=>rw[ay] at h1; simp[Instr.loadAt,Instr.sureAddr] at h1
    | some P1=>rw[ay] at h1; simpa [Instr.loadAt,Instr.sureAddr,asAddr,ay] using h1
   | _=>rw[ay] at h1; simp[Instr.loadAt,Instr.sureAddr] at h1
 have all:∀ (l:List ResultVar) (cs:List U),xF P h ae l=some cs->∃ vs:List Value,(∀ F:ResultVar->Sem Value,(∀ t,F (.tmp t)=pure (a.tmps.getD t undef))->(∀ p t,F (.cell p t)=(do loadVar t (<-asAddr (a.tmps.getD p undef))))->(l.mapM F).run P w=.ok vs w) ∧
   vs.length=cs.length/\∀ (j:Nat) (c:U) (v:Value),cs[j]? = some c->vs[j]? = some v->aS w R h μ c v:=by
  intro l
  induction l with
  | nil=>intro cs ah; simp only[xF,Option.some.injEq] at ah; subst ah; exact⟨[],fun F _ _=>by simp,rfl,fun _ _ _ aG=>by simp at aG⟩
  | cons x l aJ=>
   intro cs ah;unfold xF at ah;split at ah
   ·rename_i c cs' af al;simp only[Option.some.injEq] at ah; subst ah;obtain⟨v,h1,ad⟩:=one x c af;obtain⟨vs,aj,aE,aX⟩:=aJ cs' al;refine⟨v::vs,fun F ce bP=>by simp only[List.mapM_cons,Sem.run_bind,h1 F ce bP,Result.andThen_ok,aj F ce bP,Sem.run_pure],by simp[aE],fun j c' aZ ai au=>?_⟩;cases j with
    | zero=>simp at ai au; subst ai au; exact ad
    | succ j=>exact aX j c' aZ (by simpa using ai) (by simpa using au)
   ·cases ah
 unfold IZ at az;cases al:xF P h ae fn.results.toList with
 | none=>rw[al] at az; cases az
 | some cs=>
  rw[al] at az;simp only[Option.map_some,Option.some.injEq] at az; subst az;obtain⟨vs,h1,ad,aj⟩:=all _ _ al;have hv:(results fn a.tmps).run P w=.ok (if aG:vs.toArray.size=1 then vs.toArray[0] else .tuple vs.toArray) w:=by
   unfold results;rw[Array.mapM_eq_mapM_toList];simp only[Sem.run_bind,Sem.run_map];rw[h1 _ (fun _=>rfl) (fun _ _=>rfl)];simp
  refine⟨_,hv,?_⟩
  match cs,vs,ad,aj with
  | [],[],_,_=>exact .bG [] #[] rfl (fun _ _ _ aG=>by simp at aG)
  | [c],[v],_,aj=>exact aj 0 c v rfl rfl
  | c::c'::cs,v::aZ::vs,ad,aj=>
   simp only[List.size_toArray,List.length_cons];rw[dif_neg (by omega)];exact .bG _ _ (by simpa using ad) (fun j x y ai ax=>aj j x y ai (by simpa using ax))
theorem ye {w:World} {R:Nat->Prop} {h:aQ} {μ:cX} {c:U} {v:Value} (au:aS w R h μ c v) :c.closed=true->fP w (fun k=>R k/\¬ mw h μ k) c v:=by
 have al:∀ (cs:List U),bd cs=true->∀ (j:Nat) (c:U),cs[j]? = some c->c.closed=true:=by
  intro cs
  induction cs with
  | nil=>intro _ j c ai; simp at ai
  | cons x cs aJ=>
   intro ah j c ai;simp only[bd,Bool.and_eq_true] at ah;cases j with
   | zero=>simp at ai; subst ai; exact ah.1
   | succ j=>exact aJ ah.2 j c (by simpa using ai)
 have DO:∀ (es:List (List U)),CL es=true->∀ (i:Nat) (e:List U),es[i]? = some e->bd e=true:=by
  intro es
  induction es with
  | nil=>intro _ j c ai; simp at ai
  | cons x cs aJ=>
   intro ah j c ai;simp only[CL,Bool.and_eq_true] at ah;cases j with
   | zero=>simp at ai; subst ai; exact ah.1
   | succ j=>exact aJ ah.2 j c (by simpa using ai)
 have cell:∀ b o v,Cell w R h μ b o v->Cell w (fun k=>R k/\¬ mw h μ k) aQ.empty (fun _=>none) b o v:=fun b o v ah=>
  ⟨ah.here,ah.one,⟨ah.ro,ah.free⟩,fun ⟨b,m,h1,ad,aj⟩=>by cases ad⟩
 unfold fP
 induction au with
 | bool b=>exact fun _=>.bool b
 | int k n=>exact fun _=>.int k n
 | str bs=>exact fun _=>.str bs
 | jU=>exact fun _=>.jU
 | aT=>exact fun _=>.aT
 | ia=>exact fun _=>.ia
 | jS=>exact fun _=>.jS
 | jT=>exact fun _=>.jT
 | aH cs vs bn h1 au aJ=>exact fun ah=>.aH cs vs bn h1 fun j c v ai fK=>aJ j c v ai fK (al cs (by simpa [U.closed] using ah) j c ai)
 | bG cs vs bn au aJ=>exact fun ah=>.bG cs vs bn fun j c v ai fK=>aJ j c v ai fK (al cs (by simpa [U.closed] using ah) j c ai)
 | ptr=>exact fun ah=>by simp[U.closed] at ah
 | nw=>exact fun ah=>by simp[U.closed] at ah
 | b3 cs off blk o eI ah au aJ=>exact fun ej=>.b3 cs off blk o eI (fun j ai=>cell _ _ _ (ah j ai)) fun j c ai=>aJ j c ai (al cs (by simpa [U.closed] using ej) j c ai)
 | ar=>exact fun ah=>by simp[U.closed] at ah
 | gR=>exact fun ah=>by simp[U.closed] at ah
 | ig=>exact fun ah=>by simp[U.closed] at ah
 | bQ z es blk off cap eI dr aw ah au aJ=>exact fun ej=>.bQ z es blk off cap eI dr aw (fun i j av ai=>cell _ _ _ (ah i j av ai)) fun i e ao j c ai=>aJ i e ao j c ai (al e (DO es (by simpa [U.closed] using ej) i e ao) j c ai)
 | fY z a cap=>exact fun _=>.fY z a cap
 | fn f first gi fs cs aF ah h1 ad ds h8=>
  intro ej;simp only[U.closed,Bool.and_eq_true] at ej;exact .fn f first gi fs cs aF ah (fun j c v ai fK=>ds j c v ai fK (al _ ej.1 j c ai)) fun j c v ai fK=>h8 j c v ai fK (al _ ej.2 j c ai)
 | mp=>exact fun ah=>by simp[U.closed] at ah
 | it=>exact fun ah=>by simp[U.closed] at ah
 | g0 t c v au aJ=>exact fun ej=>.g0 t c v (aJ (by simpa [U.closed] using ej))
 | m5 l=>exact fun _=>.m5 l
 | bad v=>exact fun _=>.bad v
theorem CM {cs:List U} (ah:bd cs=true) :∀ (j:Nat) (c:U),cs[j]? = some c->c.closed=true:=by
 induction cs with
 | nil=>intro j c ai; simp at ai
 | cons x cs aJ=>
  intro j c ai;simp only[bd,Bool.and_eq_true] at ah;cases j with
  | zero=>simp at ai; subst ai; exact ah.1
  | succ j=>exact aJ ah.2 j c (by simpa using ai)
theorem fP.up {w:World} {A:Nat->Prop} {R:Nat->Prop} {h:aQ} {μ:cX} {c:U} {v:Value} (au:fP w A c v) (cN:∀ k,k<w.heap.size->A k->R k/\¬ mw h μ k) :aS w R h μ c v:=by
 have cell:∀ b o v,Cell w A aQ.empty (fun _=>none) b o v->Cell w R h μ b o v:=fun b o v ah=>
  have ag:b<w.heap.size:=World.block_lt_of_cell? _ _ ah.here
  ⟨ah.here,ah.one,(cN b ag ah.ro).1,(cN b ag ah.ro).2⟩
 unfold fP at au
 induction au with
 | bool b=>exact .bool b
 | int k n=>exact .int k n
 | str bs=>exact .str bs
 | jU=>exact .jU
 | aT=>exact .aT
 | ia=>exact .ia
 | jS=>exact .jS
 | jT=>exact .jT
 | aH cs vs bn h1 au aJ=>exact .aH cs vs bn h1 aJ
 | bG cs vs bn au aJ=>exact .bG cs vs bn aJ
 | ptr b off sz cs m ag hm=>cases hm
 | nw b off sz a aq=>rcases aq with aq | ⟨n,cs,aq,_⟩<;>cases aq
 | b3 cs off blk o eI ah au aJ=>exact .b3 cs off blk o eI (fun j ai=>cell _ _ _ (ah j ai)) aJ
 | ar z b off len cap sz cap' cs m ag hm=>cases hm
 | gR z b off len cap sz cap' a al ah aq=>rcases aq with aq | ⟨n,cs,aq,_⟩<;>cases aq
 | ig z b off sz a cs m ag hm=>cases hm
 | bQ z es blk off cap eI dr aw ah au aJ=>exact .bQ z es blk off cap eI dr aw (fun i j av ai=>cell _ _ _ (ah i j av ai)) aJ
 | fY z a cap=>exact .fY z a cap
 | fn f first gi fs cs aF ah h1 ad ds h8=>exact .fn f first gi fs cs aF ah ds h8
 | mp b m ag hm=>cases hm
 | it b m ag hm=>cases hm
 | g0 t c v au aJ=>exact .g0 t c v aJ
 | m5 l=>exact .m5 l
 | bad v=>exact .bad v
theorem X4 {R:Nat->Prop} {B:Nat} {w:World} {h:aQ} {μ:cX} (rel:cc R B w h μ) {k:Nat} (ap:mw h μ k) :k<w.heap.size:=by
 obtain⟨b,m,h1,ad,rfl⟩:=ap;exact rel.lt h1 ad
theorem E3 {R:Nat->Prop} {B:Nat} {w w' : World} {h:aQ} {μ:cX} (rel:cc R B w h μ) (ag:z1 w w') :dY w h μ w' h μ/\cc R B w' h μ:=by
 have e:dY w h μ w' h μ:=⟨⟨ag.os,ag.tape,ag.output,ag.size,fun k hk _=>ag.block k hk,fun _ ap=>.inl ap,fun b sz cs m h1 ad=>.inl ⟨cs,h1,ad⟩,fun _ _ aq=>aq,fun _ _ _ h1 ad=>⟨h1,ad⟩,Nat.le_refl _,ag.drawn⟩,fun _ _ hm=>hm⟩
 refine⟨e,fun b m hm=>?_,rel.inj,rel.base,rel.fresh,rel.up,Nat.le_trans rel.size ag.size,rel.lD⟩;cases al:live (h.f b) with
 | false=>cases ah:h.f b<;>first | trivial | (rw[ah] at al; cases al)
 | true=>exact (rel.blk b m hm).ext e.toExt0 (ag.block _ (rel.lt al hm))
theorem YT {w:World} {R:Nat->Prop} {B:Nat} {h:aQ} {μ:cX} (rel:cc R B w h μ) :∀ {c c' : U},gh h c c'->∀ {v:Value},aS w R h μ c v->fP w R c' v:=by
 intro c c' az;have rN:∀ {b sz:Nat} {cs:List U} {m:M},h.f b=.cells sz cs->μ b=some m->∃ f:Nat->Value,∀ (j:Nat) (c:U),cs[j]? = some c->Cell w R aQ.empty (fun _=>none) m.r (m.s+j) (f j)/\aS w R h μ c (f j) :=by
  intro b sz cs m ag hm;have hblk:=rel.blk b m hm;rw[ag] at hblk;obtain⟨cd,bM,arr,t,gy,hw,aA,aF,nh⟩:=hblk;have pu:R m.r:=rel.up _ (rel.base b m (by rw[ag]; rfl) hm);refine⟨fun j=>(arr[m.s+j]?).getD undef,fun j c ai=>?_⟩;obtain⟨v,h1,ad,aj⟩:=nh _ _ ai;refine⟨⟨?_,by simp only[h1,Option.getD_some]; exact ad,pu,fun ⟨b,m,h1,ad,aj⟩=>by cases ad⟩,by simp only[h1,Option.getD_some]; exact aj⟩;simp only[World.cell?,hw,h1,Option.getD_some,Option.isSome_none];rfl
 induction az with
 | same c ah=>
  intro v au;exact (fP.up (ye au ah) fun k _ hk=>⟨hk.1,fun ⟨b,m,h1,ad,aj⟩=>by cases ad⟩:aS w R aQ.empty (fun _=>none) _ v)
 | aH cs cs' al h aJ=>
  intro v au;cases au with
  | aH _ vs gC h1 au=>
   refine .aH cs' vs (by omega) h1 (fun j c' v ai fK=>?_);have aM:j<cs.length:=by rw[<-al]; exact (List.getElem?_eq_some_iff.1 ai).1
   exact aJ j cs[j] c' (List.getElem?_eq_getElem aM) ai (au j cs[j] v (List.getElem?_eq_getElem aM) fK)
 | bG cs cs' al h aJ=>
  intro v au;cases au with
  | bG _ vs gC au=>
   refine .bG cs' vs (by omega) (fun j c' v ai fK=>?_);have aM:j<cs.length:=by rw[<-al]; exact (List.getElem?_eq_some_iff.1 ai).1
   exact aJ j cs[j] c' (List.getElem?_eq_getElem aM) ai (au j cs[j] v (List.getElem?_eq_getElem aM) fK)
 | su z b off cap sz=>
  intro v au;cases au with
  | ar _ _ _ _ _ _ cap' cs m ag hm al ap ah=>exact .fY z _ cap'
  | gR _ _ _ _ _ _ cap' a al ah aq=>exact .fY z _ cap'
  | ig _ _ _ _ a cs m ag hm=>exact .fY z a 0
 | ptr b off sz cs cs' ag al h aJ=>
  intro v au;cases au with
  | nw _ _ _ a aq=>
   exfalso;rcases aq with aq | ⟨n,hN,aq,aM⟩
   ·rw[ag] at aq; cases aq
   ·rw[ag] at aq; cases aq; omega
  | ptr _ _ _ hN m gb hm=>
   obtain⟨f,aF⟩:=rN ag hm;refine .b3 cs' off m.r m.s f (fun j ai=>?_) (fun j c' ai=>?_)
   ·exact (aF j cs[j] (List.getElem?_eq_getElem (by omega))).1
   ·have aM:j<cs.length:=by rw[<-al]; exact (List.getElem?_eq_some_iff.1 ai).1
    exact aJ j cs[j] c' (List.getElem?_eq_getElem aM) ai (aF j cs[j] (List.getElem?_eq_getElem aM)).2
 | ar z b off len cap sz cs es ag al aw ec h aJ=>
  intro v au;cases au with
  | ig _ _ _ _ a hN m gb kB=>
   obtain rfl:=List.length_eq_zero_iff.1 al;exact .fY z a 0
  | gR _ _ _ _ _ _ cap' a al ah aq=>
   exfalso;rcases aq with aq | ⟨n,hN,aq,aM⟩
   ·rw[ag] at aq; cases aq
   ·rw[ag] at aq; cases aq; omega
  | ar _ _ _ _ _ _ cap' hN m gb hm hR ap ah=>
   have db:len<=cap':=by rcases ah with ⟨_,h⟩ | ⟨_,h,_⟩<;>omega
   obtain⟨f,aF⟩:=rN ag hm;subst al;have aM:∀ i j,i<es.length->j<z->off+(i*z+j)<cs.length:=by
    intro i j av ai;have:i*z+z<=es.length*z:=by rw[<-Nat.succ_mul]; exact Nat.mul_le_mul_right _ av
    omega
   refine .bQ z es m.r (m.s+off) cap' (fun i j=>f (off+(i*z+j))) db aw (fun i j av ai=>?_) (fun i e ao j c' ai=>?_)
   ·have:=(aF _ _ (List.getElem?_eq_getElem (aM i j av ai))).1;rw[<-Nat.add_assoc] at this;exact this
   ·have av:i<es.length:=(List.getElem?_eq_some_iff.1 ao).1;have nl:j<z:=by rw[<-aw e (List.mem_of_getElem? ao)]; exact (List.getElem?_eq_some_iff.1 ai).1
    exact aJ i j e _ c' ao ai (List.getElem?_eq_getElem (aM i j av nl)) (aF _ _ (List.getElem?_eq_getElem (aM i j av nl))).2
theorem Gq:∀ {cs:List U},mB cs=true->∀ (j:Nat) (c:U),cs[j]? = some c->c.flat=true:=by
 intro cs
 induction cs with
 | nil=>intro _ j c h; simp at h
 | cons x cs aJ=>
  intro ah j c ai;simp only[mB,Bool.and_eq_true] at ah;cases j with
  | zero=>simp at ai; subst ai; exact ah.1
  | succ j=>exact aJ ah.2 j c (by simpa using ai)
theorem TQ {w w' : World} {A R:Nat->Prop} {h h' : aQ} {μ μ' : cX} {c:U} {v:Value} (au:aS w A h μ c v) (aF:c.flat=true) :aS w' R h' μ' c v:=by
 induction au with
 | bool b=>exact .bool b
 | int k n=>exact .int k n
 | str bs=>exact .str bs
 | jU=>exact .jU
 | aT=>exact .aT
 | ia=>exact .ia
 | jS=>exact .jS
 | jT=>exact .jT
 | aH cs vs bn h1 au aJ=>exact .aH cs vs bn h1 (fun j c v ai fK=>aJ j c v ai fK (Gq (by simpa only [U.flat] using aF) j c ai))
 | bG cs vs bn au aJ=>exact .bG cs vs bn (fun j c v ai fK=>aJ j c v ai fK (Gq (by simpa only [U.flat] using aF) j c ai))
 | g0 t c v au aJ=>exact .g0 t c v (aJ (by simpa only [U.flat] using aF))
 | m5 l=>exact .m5 l
 | _=>simp[U.flat] at aF
theorem alb {f:FuncId} {args iP:List U} {r:U} {h:aQ} (ay:bz P G f iP r) (bn:iP.length=args.length) (kD:∀ (j:Nat) (c c' : U),args[j]? = some c->iP[j]? = some c'->gh h c c')
  (fc:r.flat=true) :x6 P G (.call f args h r h) :=by
 intro R B w μ vs rel g al au;refine (ay w R vs (fun i=>?_) (by omega) (fun j c' v ai fK=>?_)).mono ?_
 ·exact (fP.up (ye (g i).2 (g i).1) fun k _ hk=>⟨hk.1,fun ⟨b,m,h1,ad,aj⟩=>by cases ad⟩:aS w R aQ.empty (fun _=>none) _ _)
 ·have aM:j<args.length:=by rw[<-bn]; exact (List.getElem?_eq_some_iff.1 ai).1
  exact YT rel (kD j args[j] c' (List.getElem?_eq_getElem aM) ai) (au j args[j] v (List.getElem?_eq_getElem aM) fK)
 ·rintro e w' ⟨v,rfl,ag,az⟩;obtain⟨ce,bP⟩:=E3 rel ag;exact⟨v,μ,rfl,ce,bP,TQ az fc⟩
theorem alc {f:FuncId} {args iP:List U} {r:U} {h:aQ} (ay:jZ P G f iP r) (bn:iP.length=args.length) (kD:∀ (j:Nat) (c c' : U),args[j]? = some c->iP[j]? = some c'->gh h c c') :x6 P G (.call f args h r h) :=by
 intro R B w μ vs rel g al au;refine (ay w R vs (fun i=>?_) (by omega) (fun j c' v ai fK=>?_)).mono ?_
 ·exact (fP.up (ye (g i).2 (g i).1) fun k _ hk=>⟨hk.1,fun ⟨b,m,h1,ad,aj⟩=>by cases ad⟩:aS w R aQ.empty (fun _=>none) _ _)
 ·have aM:j<args.length:=by rw[<-bn]; exact (List.getElem?_eq_some_iff.1 ai).1
  exact YT rel (kD j args[j] c' (List.getElem?_eq_getElem aM) ai) (au j args[j] v (List.getElem?_eq_getElem aM) fK)
 ·rintro e w' ⟨v,rfl,ag,az⟩;obtain⟨ce,bP⟩:=E3 rel ag;exact⟨v,μ,rfl,ce,bP,az.up fun k hk cN=>⟨rel.up k (Nat.le_trans rel.size cN),fun ap=>by have:=X4 rel ap; omega⟩⟩
theorem jZ.Fm {f:FuncId} {args:List U} {r:U} (ay:jZ P G f args r) :bz P G f args r:=fun w A vs aq al au=>
 (ay w A vs aq al au).mono fun e w' ⟨v,h1,ad,aj⟩=>⟨v,h1,ad,(fP.up aj fun k _ hk=>⟨.inr hk,fun ⟨b,m,h1,ad,aj⟩=>by cases ad⟩:aS w' _ aQ.empty (fun _=>none) _ _)⟩
theorem ald {f:FuncId} {args:List U} {r:U} {h:aQ} (ay:bz P G f args r) (ah:bd args=true) :x6 P G (.call f args h r h) :=by
 intro R B w μ vs rel g al au;refine (ay w (fun k=>R k/\¬ mw h μ k) vs (fun i=>?_) al (fun j c v ai fK=>ye (au j c v ai fK) (CM ah j c ai))).mono ?_
 ·exact ye (g i).2 (g i).1
 ·rintro e w' ⟨v,rfl,ag,az⟩;obtain⟨ce,bP⟩:=E3 rel ag;refine⟨v,μ,rfl,ce,bP,az.up (fun k hk cN=>?_)⟩;rcases cN with cN | cN
  ·exact cN
  ·exact⟨rel.up k (Nat.le_trans rel.size cN),fun ap=>by have:=X4 rel ap; omega⟩
end

section
variable {P:Program} {G:Nat->U}
theorem ake {w:World} {R:Nat->Prop} {h:aQ} {μ:cX} {aB:Operand->U} {ey:Operand->Value} (dm:∀ x,aS w R h μ (aB x) (ey x)) (o:Oper) {cs:List U} {mk:Nat->U} (aC:ot P aB o.op=some (cs,mk)) :
  ∃ v arr t,(execOp ey o).run P w=.ok (.value v) (w.alloc (.cells arr t))/\lQ w R h μ cs arr ∧
   ∀ (w' : World) (uq:Nat->Prop) (h' : aQ) (μ' : cX) (b:Nat),h'.f b=.cells cs.length cs->μ' b=some ⟨w.heap.size,0,arr.size⟩->aS w' uq h' μ' (mk b) v:=by
 obtain⟨dst,op,type,pos,after,guard⟩:=o;cases op<;>simp only[ot] at aC<;>try (cases aC; done)
 case alloc t=>
  cases aw:hV P t with
  | none=>rw[aw] at aC; cases aC
  | some z=>
   rw[aw] at aC;simp only[Option.map_some,Option.some.injEq,Prod.mk.injEq] at aC;obtain⟨rfl,rfl⟩:=aC;obtain⟨v,au,az⟩:=x0 (P:=P) (w:=w) (R:=R) (h:=h) (μ:=μ) aw;refine⟨.pointer (some ⟨w.heap.size,0,none⟩),v.cells,t,by simp[execOp,Instr.alloc,au,newVar,newRow],az,fun w' uq h' μ' b ag hm=>?_⟩;have:=aS.ptr (w:=w') (R:=uq) (h:=h') (μ:=μ') b 0 z.length z _ ag hm;simpa using this
 case box t x=>
  cases aw:(aB x).cells with
  | none=>rw[aw] at aC; cases aC
  | some z=>
   rw[aw] at aC;simp only[Option.map_some,Option.some.injEq,Prod.mk.injEq] at aC;obtain⟨rfl,rfl⟩:=aC;obtain⟨ce,bP⟩:=F3 (dm x) aw;refine⟨.pointer (some ⟨w.heap.size,0,none⟩),(ey x).cells,t,by simp[execOp,Instr.box,newVar,newRow],⟨ce,bP⟩,fun w' uq h' μ' b ag hm=>?_⟩;have:=aS.ptr (w:=w') (R:=uq) (h:=h') (μ:=μ') b 0 z.length z _ ag hm;simpa using this
 case buildSlice t len parts=>
  cases ao:iR P t with
  | none=>rw[ao] at aC; cases aC
  | some e=>
  rw[ao] at aC;simp only at aC;cases aw:cM P e with
  | none=>rw[aw] at aC; cases aC
  | some z=>
  cases jj:hV P e with
  | none=>rw[aw,jj] at aC; cases aC
  | some zero=>
  rw[aw,jj] at aC;simp only at aC;split at aC
  ·rename_i j7;cases aF:hP (fun i=>some (i*z,z)) (dN zero len) (parts.toList.map fun p=>(p.1,aB p.2)) with
   | none=>rw[aF] at aC; cases aC
   | some cs'=>
    rw[aF] at aC;simp only[Option.map_some,Option.some.injEq,Prod.mk.injEq] at aC;obtain⟨rfl,rfl⟩:=aC;obtain⟨ce,bP⟩:=N1 dm parts;obtain⟨ej,arr,hv,ad⟩:=QF ao aw jj j7.1 j7.2 aF ce bP;refine⟨.slice (some ⟨w.heap.size,0,none⟩) len len,arr,e,by simp[execOp,hv],ad,fun w' uq h' μ' b ag hm=>?_⟩;rw[ej] at ag;have:=aS.ar (w:=w') (R:=uq) (h:=h') (μ:=μ') z b 0 len len (len*z) len _ _ ag hm (Nat.le_refl _) (by omega) (.inr ⟨by omega,Nat.le_refl _,by simp only; rw[ad.1,ej]; omega⟩);simpa using this
  ·cases aC
 case makeSlice t l c=>
  split at aC
  ·rename_i e li hM ao fE dh;obtain⟨kl,l2⟩:=sQ fE (dm l);obtain⟨kc,jc⟩:=sQ dh (dm c);cases aw:cM P e with
   | none=>rw[aw] at aC; cases aC
   | some z=>
   cases ea:i5 P e with
   | none=>rw[aw,ea] at aC; cases aC
   | some by_=>
   cases jj:hV P e with
   | none=>rw[aw,ea,jj] at aC; cases aC
   | some zero=>
   rw[aw,ea,jj] at aC;simp only at aC;split at aC
   ·rename_i j7;obtain⟨h6,aD,mP,Ha,dA⟩:=j7;simp only[Option.some.injEq,Prod.mk.injEq] at aC;obtain⟨rfl,rfl⟩:=aC;obtain⟨bn,arr,hv,cJ⟩:=Xt (w:=w) (R:=R) (h:=h) (μ:=μ) (kl:=kl) (kc:=kc) ao aw ea jj h6 aD mP Ha dA;refine⟨.slice (some ⟨w.heap.size,0,none⟩) li.toNat hM.toNat,arr,e,by simp[execOp,l2,jc,hv],cJ,fun w' uq h' μ' b ag hm=>?_⟩;rw[bn] at ag;have:=aS.ar (w:=w') (R:=uq) (h:=h') (μ:=μ') z b 0 li.toNat hM.toNat (hM.toNat*z) hM.toNat _ _ ag hm (by omega) (by omega) (.inr ⟨by omega,Nat.le_refl _,by simp only; rw[cJ.1,bn]; omega⟩);simpa using this
   ·cases aC
  ·cases aC
theorem pi.rel {R:Nat->Prop} {B:Nat} {w:World} {h h' : aQ} {μ:cX} (g:pi h h') (rel:cc R B w h μ) :dY w h μ w h' μ/\cc R B w h' μ:=by
 have aM:∀ b m,μ b=some m->b<h.n:=fun b m hm=>rel.sS hm
 have e:dY w h μ w h' μ:=by
  refine⟨⟨rfl,rfl,rfl,Nat.le_refl _,fun _ _ _=>rfl,?_,?_,?_,?_,g.n,Nat.le_refl _⟩,fun _ _ hm=>hm⟩
  ·rintro k ⟨b,m,al,hm,rfl⟩;rw[g.same b (aM b m hm)] at al;exact .inl ⟨b,m,al,hm,rfl⟩
  ·intro b sz cs m ag hm;exact .inl ⟨cs,by rw[g.same b (aM b m hm)]; exact ag,hm⟩
  ·rintro b sz aq;have ag:b<h.n:=by
    rcases Nat.lt_or_ge b h.n with h1 | h1
    ·exact h1
    ·have:=rel.fresh b h1;rcases aq with aq | ⟨n,cs,aq,_⟩<;>rw[this] at aq<;>cases aq
   rcases aq with aq | ⟨n,cs,aq,jd⟩
   ·exact .inl (by rw[g.same b ag]; exact aq)
   ·exact .inr ⟨n,cs,by rw[g.same b ag]; exact aq,jd⟩
  ·intro b k m ag hm;exact⟨by rw[g.same b (aM b m hm)]; exact ag,hm⟩
 refine⟨e,fun b m hm=>?_,fun b bu m cF al dr hm b7 az=>?_,fun b m al hm=>?_,g.fresh rel.fresh,rel.up,rel.size,fun b ag=>rel.lD b (Nat.le_trans g.n ag)⟩
 ·rw[g.same b (aM b m hm)];exact (rel.blk b m hm).ext e.toExt0 rfl
 ·rw[g.same b (aM b m hm)] at al;rw[g.same bu (aM bu cF b7)] at dr;exact rel.inj b bu m cF al dr hm b7 az
 ·rw[g.same b (aM b m hm)] at al;exact rel.base b m al hm
theorem Z5 {K:Act->World->Prop} {Q:Exit->Act->World->Prop} {e:sF} {a:Act} {w:World} (ao:e≠.normal) (h:Q e.out a w) :Exit.then K Q e.out a w:=by
 cases e with
 | normal=>exact absurd rfl ao
 | exit id=>exact h
 | ret=>exact h
theorem acf {id:Nat} {Q:Exit->Act->World->Prop} {e:sF} {a:Act} {w:World} (ao:e≠.exit id) (h:Q e.out a w) :Exit.inBlock id Q e.out a w:=by
 cases e with
 | normal=>exact h
 | exit tv=>
  have:tv≠id:=fun aG=>ao (by rw[aG])
  simpa [Exit.inBlock,sF.out,this] using h
 | ret=>exact h
def PM (P:Program) (G:Nat->U) :Prop:=
 ∀ {id:Nat} {ops:Array Oper} {N:Nat} {ae:Nat->U} {h:aQ} {b6:Nat->U} {h' : aQ} (pre:Nat->Nat->Bool) (val:Nat->U) (W:Nat->Bool) (cls:Nat->FB) (m:Nat) (ak:Nat->Nat) (fZ sJ:Nat->aQ) (gV:Nat->Nat) (cells:Nat->List U),
  uh ops pre->
  (∀ (i:Nat) (o:Oper),ops[i]? = some o->qm N o.dst=true)->
  pi h (fZ 0)->h'=fZ m->(b6=fun t=>match km ops t with | some i=>val i | none=>ae t)->
  (∀ (i:Nat) (o:Oper),ops[i]? = some o->W i=true->cls i=.gO->∃ q,q<m/\ak q=i)->
  (∀ q,q<m->∃ o,ops[ak q]? = some o/\W (ak q)=true/\cls (ak q)=.gO)->
  (∀ q fR,q<m->fR<m->q<fR->pre (ak fR) (ak q)=true)->
  (∀ q fR,q<m->fR<m->ak q=ak fR->q=fR)->
  (∀ (i:Nat) (o:Oper),ops[i]? = some o->ll ops (nX ops pre val ae i o) o=some (W i))->
  (∀ (i:Nat) (o:Oper),ops[i]? = some o->W i=false->val i=hF)->
  (∀ (i:Nat) (o:Oper),ops[i]? = some o->W i=true->cls i=.pure->∀ k,AB pre m ak i k->di P (fZ k) (da G (nX ops pre val ae i o)) o.op=some (.val (val i) (fZ k)))->
  (∀ (i:Nat) (o:Oper),ops[i]? = some o->W i=true->cls i=.new->∃ mk,ot P (da G (nX ops pre val ae i o)) o.op=some (cells i,mk)/\val i=mk (gV i)/\h.n<=gV i ∧
    ∀ k,AB pre m ak i k->(fZ k).f (gV i)=.cells (cells i).length (cells i))->
  (∀ (i j:Nat) (o cO:Oper),ops[i]? = some o->ops[j]? = some cO->W i=true->W j=true->cls i=.new->cls j=.new->gV i=gV j->i=j)->
  (∀ (i:Nat) (o:Oper) (q:Nat),ops[i]? = some o->W i=true->cls i=.new->q<m->gV i<(fZ q).n\/(sJ q).n<=gV i)->
  (∀ q,q<m->pi (sJ q) (fZ (q+1)))->
  (∀ (q:Nat) (o:Oper),q<m->ops[ak q]? = some o->x6 P G (.op o.op (nX ops pre val ae (ak q) o) (fZ q) (val (ak q)) (sJ q)))->
  x6 P G (.code (.region id ops true) N ae h .normal b6 h')
theorem rs.ext {h ad:aQ} (k:rs h ad) (w:World) (μ:cX) :dY w h μ w ad μ:=by
 refine⟨⟨rfl,rfl,rfl,Nat.le_refl _,fun _ _ _=>rfl,?_,?_,?_,?_,Nat.le_of_eq k.n.symm,Nat.le_refl _⟩,fun _ _ hm=>hm⟩
 ·rintro r ⟨b,m,al,hm,rfl⟩;refine .inl ⟨b,m,?_,hm,rfl⟩;rcases k.blk b with ao | ⟨sz,cs,ah,_⟩
  ·rw[<-ao]; exact al
  ·rw[ah]; rfl
 ·intro b sz cs m ag hm;rcases k.blk b with ao | ⟨sz',cs',ah,bC | ⟨hN,Dm,_⟩⟩
  ·exact .inl ⟨cs,by rw[ao]; exact ag,hm⟩
  ·exact .inr (.inl bC)
  ·rw[ag] at ah; cases ah; exact .inl ⟨hN,Dm,hm⟩
 ·rintro b sz (ag | ⟨n,cs,ag,aM⟩)
  ·rcases k.blk b with ao | ⟨sz',cs',ah,_⟩
   ·exact .inl (ao.trans ag)
   ·rw[ag] at ah; cases ah
  ·rcases k.blk b with ao | ⟨sz',cs',ah,bC | ⟨hN,Dm,_⟩⟩
   ·exact .inr ⟨n,cs,by rw[ao]; exact ag,aM⟩
   ·exact .inl bC
   ·rw[ag] at ah; cases ah; exact .inr ⟨n,hN,Dm,aM⟩
 ·intro b nt m ag hm;rcases k.blk b with ao | ⟨sz',cs',ah,_⟩
  ·exact⟨by rw[ao]; exact ag,hm⟩
  ·rw[ah] at ag; cases ag
theorem rs.live {h ad:aQ} (k:rs h ad) {b:Nat} (al:live (ad.f b)=true) :live (h.f b)=true:=by
 rcases k.blk b with ao | ⟨sz,cs,ah,_⟩
 ·rw[<-ao]; exact al
 ·rw[ah]; rfl
theorem rs.ri {R:Nat->Prop} {B:Nat} {w:World} {h ad:aQ} {μ:cX} (rel:cc R B w h μ) (k:rs h ad) :∀ {c dJ:U},rr h ad c dJ->∀ {v:Value},aS w R h μ c v->aS w R ad μ dJ v:=by
 intro c dJ az
 induction az with
 | same c=>intro v au; exact au.ext (k.ext w μ)
 | aH cs cs' al h aJ=>
  intro v au;cases au with
  | aH _ vs gC h1 au=>
   refine .aH cs' vs (by omega) h1 (fun j c' v ai fK=>?_);have aM:j<cs.length:=by rw[<-al]; exact (List.getElem?_eq_some_iff.1 ai).1
   exact aJ j cs[j] c' (List.getElem?_eq_getElem aM) ai (au j cs[j] v (List.getElem?_eq_getElem aM) fK)
 | su z b off cap sz=>
  intro v au;cases au with
  | ar _ _ _ _ _ _ cap' cs m ag hm al ap ah=>exact .fY z _ cap'
  | gR _ _ _ _ _ _ cap' a al ah aq=>exact .fY z _ cap'
  | ig _ _ _ _ a cs m ag hm=>exact .fY z a 0
 | ar z b off len cap sz cs es ag bC al aw ec au aJ=>
  intro v au;cases au with
  | ig _ _ _ _ a hN m gb kB=>
   obtain rfl:=List.length_eq_zero_iff.1 al;exact .fY z a 0
  | gR _ _ _ _ _ _ cap' a al ah aq=>
   exfalso;rcases aq with aq | ⟨n,hN,aq,aM⟩
   ·rw[ag] at aq; cases aq
   ·rw[ag] at aq; cases aq; omega
  | ar _ _ _ _ _ _ cap' hN m gb hm hR ap ah=>
   rw[ag] at gb; cases gb;have hblk:=rel.blk b m hm;rw[ag] at hblk;obtain⟨cd,bM,arr,t,gy,hw,aA,aF,nh⟩:=hblk;have db:len<=cap':=by rcases ah with ⟨_,h⟩ | ⟨_,h,_⟩<;>omega
   have oW:Go.cb.live (h.f b)=true:=by rw[ag]; rfl
   have pu:R m.r:=rel.up _ (rel.base b m oW hm);have dM:¬ mw ad μ m.r:=by
    rintro⟨bu,cF,dr,b7,kZ⟩;have:=rel.inj bu b cF m (k.live dr) oW b7 hm kZ;subst this;rw[bC] at dr; cases dr
   subst al;have rN:∀ i j,i<es.length->j<z->∃ c v,cs[off+(i*z+j)]? = some c/\arr[m.s+(off+(i*z+j))]? = some v/\v.oneCell'=true/\aS w R h μ c v:=by
    intro i j av ai;have aM:off+(i*z+j)<cs.length:=by
     have:i*z+z<=es.length*z:=by rw[<-Nat.succ_mul]; exact Nat.mul_le_mul_right _ av
     omega
    obtain⟨v,h1,ad,aj⟩:=nh _ _ (List.getElem?_eq_getElem aM);exact⟨_,v,List.getElem?_eq_getElem aM,h1,ad,aj⟩
   refine .bQ z es m.r (m.s+off) cap' (fun i j=>(arr[m.s+(off+(i*z+j))]?).getD undef) db aw (fun i j av ai=>?_) (fun i e ao j c' ai=>?_)
   ·obtain⟨c,v,h1,ad,aj,aE⟩:=rN i j av ai;refine⟨?_,?_,pu,dM⟩
    ·simp only[World.cell?,hw,ad,Option.getD_some,Option.isSome_none];rw[show m.s+off+(i*z+j)=m.s+(off+(i*z+j)) by omega,ad]; rfl
    ·rw[ad]; exact aj
   ·have av:i<es.length:=(List.getElem?_eq_some_iff.1 ao).1;have nl:j<z:=by rw[<-aw e (List.mem_of_getElem? ao)]; exact (List.getElem?_eq_some_iff.1 ai).1
    obtain⟨c,v,h1,ad,aj,aE⟩:=rN i j av nl;simp only[ad,Option.getD_some];exact aJ i j e c c' ao ai h1 aE
theorem rs.rel {R:Nat->Prop} {B:Nat} {w:World} {h ad:aQ} {μ:cX} (rel:cc R B w h μ) (k:rs h ad) :cc R B w ad μ:=by
 refine⟨?_,?_,?_,?_,rel.up,rel.size,?_⟩
 ·intro b m hm;have ag:=rel.blk b m hm;rcases k.blk b with ao | ⟨sz,cs,ah,bC | ⟨hN,Dm,bn,au⟩⟩
  ·rw[ao]; exact ag.ext (k.ext w μ).toExt0 rfl
  ·rw[bC]; trivial
  ·rw[Dm];rw[ah] at ag;obtain⟨h1,gP,arr,t,gy,aj,aE,aX,bw⟩:=ag;refine⟨by omega,gP,arr,t,gy,aj,aE,aX,fun j dJ ai=>?_⟩;have aM:j<cs.length:=by rw[<-bn]; exact (List.getElem?_eq_some_iff.1 ai).1
   obtain⟨v,aV,a1,a3⟩:=bw j cs[j] (List.getElem?_eq_getElem aM);exact⟨v,aV,a1,k.ri rel (au j cs[j] dJ (List.getElem?_eq_getElem aM) ai) a3⟩
 ·intro b bu m cF al dr hm b7 az;exact rel.inj b bu m cF (k.live al) (k.live dr) hm b7 az
 ·intro b m al hm;exact rel.base b m (k.live al) hm
 ·intro b ag;rw[k.n] at ag;rcases k.blk b with ao | ⟨sz,cs,ah,_⟩
  ·rw[ao]; exact rel.fresh b ag
  ·rw[rel.fresh b ag] at ah; cases ah
 ·intro b ag;rw[k.n] at ag;exact rel.lD b ag
theorem anb (bC:PM P G) {j:J} (ai:dP P G j) :x6 P G j:=by
 induction ai with
 | skip N ae h=>exact⟨0,fun R B w μ a Q rel g s k=>wp_skip (k a w μ (.refl _ _ _) rel s)⟩
 | label l N ae h=>exact⟨0,fun R B w μ a Q rel g s k=>wp_label (k a w μ (.refl _ _ _) rel s)⟩
 | ret N ae h=>exact⟨0,fun R B w μ a Q rel g s k=>wp_ret (k a w μ (.refl _ _ _) rel s)⟩
 | exit id N ae h=>exact⟨0,fun R B w μ a Q rel g s k=>wp_exit (k a w μ (.refl _ _ _) rel s)⟩
 | Zt h1 ad ds h8=>
  obtain⟨mj,ds⟩:=ds;obtain⟨o5,h8⟩:=h8;exact⟨0,fun R B w μ a Q rel g s k=>wp_seq (p6.wp (ds R B w μ a _ rel g s fun aV b2 hp aR dW dR=>
   p6.wp (h8 R B b2 hp aV Q dW (g.ext aR) dR fun a1 w2 sE bJ fu hl=>k a1 w2 sE (aR.trans bJ) fu hl)))⟩
 | OT h1 ao ds=>
  obtain⟨mj,ds⟩:=ds;exact⟨0,fun R B w μ a Q rel g s k=>wp_seq (p6.wp (ds R B w μ a _ rel g s fun aV b2 hp aR dW dR=>Z5 ao (k aV b2 hp aR dW dR)))⟩
 | cond ah h1 ds=>
  rename_i c x y N ae h b e b6 h';obtain⟨mj,ds⟩:=ds;refine⟨0,fun R B w μ a Q rel g s k=>?_⟩;have au:=s.da g c;rw[ah] at au;cases AZ:a.eval c<;>rw[AZ] at au<;>try (cases au; done)
  cases au;exact wp_cond AZ (p6.wp (ds R B w μ a Q rel g s k))
 | FU h1 ao ds=>
  obtain⟨mj,ds⟩:=ds;exact⟨0,fun R B w μ a Q rel g s k=>wp_block (p6.wp (ds R B w μ a _ rel g s fun aV b2 hp aR dW dR=>acf ao (k aV b2 hp aR dW dR)))⟩
 | QA h1 ds=>
  obtain⟨mj,ds⟩:=ds;exact⟨0,fun R B w μ a Q rel g s k=>wp_block (p6.wp (ds R B w μ a _ rel g s fun aV b2 hp aR dW dR=>by
   simp only[sF.out,Exit.inBlock,if_true];exact k aV b2 hp aR dW dR))⟩
 | Bw h1 ad ds h8=>
  obtain⟨mj,ds⟩:=ds;obtain⟨o5,h8⟩:=h8;exact⟨o5+1,fun R B w μ a Q rel g s k=>p6.wp (ds R B w μ a _ rel g s fun aV b2 hp aR dW dR=>
   h8 R B b2 hp aV Q dW (g.ext aR) dR fun a1 w2 sE bJ fu hl=>k a1 w2 sE (aR.trans bJ) fu hl)⟩
 | Nx h1 ao ds=>
  obtain⟨mj,ds⟩:=ds;exact⟨1,fun R B w μ a Q rel g s k=>p6.wp (ds R B w μ a _ rel g s fun aV b2 hp aR dW dR=>Z5 ao (k aV b2 hp aR dW dR))⟩
 | scope h1 ds=>
  obtain⟨mj,ds⟩:=ds;rename_i c N ae h e b6 h';refine⟨0,fun R B w μ a Q rel g s k=>wp_scope_straight (p6.wp (ds R B w μ a _ rel g s fun aV b2 hp aR dW dR=>?_))⟩;have:=k aV b2 hp aR dW dR;cases e<;>exact this
 | region h1 ds=>exact⟨0,fun R B w μ a Q rel g s k=>wp_region_list (ds R B w μ a Q rel g s k)⟩
 | draw pre val W cls m ak fZ sJ gV cells hE qB aD hm HU yL DD oi dz w6 HK HD l4 G6 G7 qF j6 aJ=>
  exact bC pre val W cls m ak fZ sJ gV cells hE qB aD hm HU yL DD oi dz w6 HK HD l4 G6 G7 qF aJ
 | XW=>exact fun R B w μ a Q rel g s k=>k a w μ (.refl _ _ _) rel s
 | XY hw AX h1 ds=>
  intro R B w μ a Q rel g s k;have w6:=PD (w:=w) (R:=R) (h:=_) (μ:=μ) (tmps:=a.tmps) hw (fun d _=>s.val d);unfold wpList;rw[if_neg (by rw[w6]; simp)];exact ds R B w μ _ Q rel g (s.put AX Pv) k
 | XX hw AX h1 ad ds h8=>
  intro R B w μ a Q rel g s k;have w6:=PD (w:=w) (R:=R) (h:=_) (μ:=μ) (tmps:=a.tmps) hw (fun d _=>s.val d);unfold wpList;rw[if_pos w6];refine .inl (ds R B w μ a _ _ Q rfl rel g (s.da g) fun aZ b2 hp aR dW au=>?_);exact h8 R B b2 hp _ Q dW (g.ext aR) ((s.ext aR).put AX au) fun a1 w2 sE bJ fu hl=>k a1 w2 sE (aR.trans bJ) fu hl
 | Iu ak=>
  intro R B w μ a o K Q ap rel g dm k;subst ap;have:=O5 (P:=P) rel dm o ak;obtain⟨v,w',μ',az,e,r,au⟩:=this;unfold Oper.wp;rcases az with az | ⟨az,rfl⟩
  ·rw[az]; exact k v w' μ' e r au
  ·rw[az]; exact k undef w' μ' e r au
 | BF ak h1 ds=>
  intro R B w μ a o K Q ap rel g dm k;subst ap;obtain⟨rfl,vs,az,al,au⟩:=O5 (P:=P) rel dm o ak;unfold Oper.wp;rw[az];refine (ds R B w μ vs rel g al au).mono ?_;rintro e w' ⟨v,μ',rfl,aR,dW,mU⟩;exact k v w' μ' aR dW mU
 | Jr h1 lm au ds=>
  intro R B w μ a o K Q ap rel g dm k;refine ds R B w μ a o K Q ap rel g dm fun aZ w' μ' e r vg=>?_
  exact k aZ w' μ' (e.trans (lm.ext w' μ')) (lm.rel r) (lm.ri r au vg)
 | inline aF ag h1 ao az ds=>
  rename_i f fn c args h e b6 h' r;obtain⟨mj,ds⟩:=ds;intro R B w μ vs rel g al au;refine calls_of_wp aF ag (p6.wp (ds R B w μ _ _ rel g ⟨by simp[al],rfl,fun t=>?_⟩ fun aV b2 hp aR dW dR=>?_))
  ·by_cases aI:t<args.length
   ·have aA:args.getD t hF=args[t] :=by simp[List.getD,aI]
    have np:(vs++Array.replicate (fn.ntmps - vs.size) undef).getD t undef=vs[t] :=by
     rw[Array.getD_eq_getD_getElem?,Array.getElem?_append_left (by omega)];simp[show t<vs.size by omega]
    rw[aA,np];exact au t _ _ (by simp[aI]) (by simp)
   ·have aA:args.getD t hF=hF:=by simp[List.getD,List.getElem?_eq_none (by omega:args.length<=t)]
    have np:(vs++Array.replicate (fn.ntmps - vs.size) undef).getD t undef=undef:=by
     rw[Array.getD_eq_getD_getElem?,Array.getElem?_append_right (by omega),Array.getElem?_replicate];split<;>rfl
    rw[aA,np];exact Pv
  ·obtain⟨v,ce,bP⟩:=ame dW dR az;have Bd:dR.defers=dR.defers:=rfl;rcases ao with rfl | rfl
   ·exact⟨dR.defers,v,ce,v,hp,rfl,aR,dW,bP⟩
   ·exact⟨dR.defers,v,ce,v,hp,rfl,aR,dW,bP⟩
 | pure ay ah=>exact ald ay ah
 | Ob ay al az aF=>exact alb ay al az aF
 | ext ak=>exact ak
 | Oc ay al az=>exact alc ay al az
end

end Go.cb

/-
  The canonical machine, part Im: maps, strings rune by rune, bytes compared.
-/
import Derived.Test.YtobphgccoalchaaGreatDoorDb
import Derived.Stop.SameAnswer
import Derived.Orders
import Derived.Still
import Derived.Scope
import Derived.LoopN
set_option linter.unusedVariables false
set_option linter.unusedSimpArgs false
set_option linter.unnecessarySimpa false
namespace Go.ct
open Go
section
variable {P:Program} {w:World} {R:Nat->Prop} {B:Nat} {h:bh} {μ:dd}
def uL:ad->Value
 | .bool b=>.bool b
 | .int k n=>.int k n
 | .str s=>.string ⟨s.toArray⟩
 | _=>.tuple #[]
def yH:ad->Value
 | .aM cs=>.agg (cs.map uL).toArray
 | c=>uL c
theorem apm {c:ad} {v:Value} (aF:wh c=true) (ay:aZ w R h μ c v) :v=uL c:=by
 cases c<;>simp[wh] at aF
 ·cases ay; rfl
 ·cases ay; rfl
 ·cases ay;rename_i bs;show Value.string bs=.string ⟨bs.data.toList.toArray⟩;congr 1
theorem Gr {t:TypeId} {c:ad} (aL:nU P t c=true) :∃ cs m,c=.aM cs/\ul P 8 t=true/\e8 P t=some true/\c5 P t=some m/\cs.length=m/\∀ x∈cs,wh x=true:=by
 unfold nU at aL;split at aL
 ·rename_i cs;simp only[aCQ] at aL;obtain⟨⟨h1,ag⟩,aq⟩:=aL;split at ag
  ·rename_i m aD ap;exact⟨cs,m,rfl,h1,aD,ap,aDP ag,fun x al=>aDO.1 aq x al⟩
  ·cases ag
 ·cases aL
theorem Lq {t:TypeId} {c:ad} {v:Value} (aL:nU P t c=true) (ay:aZ w R h μ c v) :v=yH c:=by
 obtain⟨cs,m,rfl,_,_,_,_,hint⟩:=Gr aL;cases ay with
 | aM _ vs ar h1 ay=>
  show Value.agg vs=.agg (cs.map uL).toArray;congr 1;apply Array.ext_getElem?;intro j;have al:(cs.map uL).toArray[j]? = (cs[j]?).map uL:=by simp
  rw[al];cases am:cs[j]? with
  | none=>simp only[Option.map_none]; rw[aEl]; rw[ar]; exact aE6.1 am
  | some c=>
   have aP:=(aCJ.1 am).1;have l7:=ay j c vs[j] am (aEc (by omega));rw[aEc (by omega)];simp only[aCR,Option.some.injEq];exact apm (hint c (aCP am)) l7
theorem ae0 (a:ByteArray) :(a == a)=true:=by
 show (a.data == a.data)=true;exact beq_self_eq_true _
theorem at4 {c:ad} (n:Nat) (ak:wh c=true) :Instr.sameBits n (uL c) (uL c)=true:=by
 cases c<;>simp[wh] at ak<;>unfold uL Instr.sameBits
 ·simp
 ·simp
 ·exact ae0 _
theorem at3 {t:TypeId} {c:ad} (n:Nat) (aL:nU P t c=true) :Instr.sameBits (n+1) (yH c) (yH c)=true:=by
 obtain⟨cs,m,rfl,_,_,_,_,hint⟩:=Gr aL;unfold yH Instr.sameBits;simp only[beq_self_eq_true,aDL,aDO];rintro⟨x,y⟩ ni;rw[aCY] at ni;obtain⟨j,am⟩:=ni;rw[List.getElem?_zip_eq_some] at am;obtain⟨h1,ag⟩:=am;rw[h1] at ag; cases ag;simp only[aCO,aFi] at h1;obtain⟨c,ak,rfl⟩:=h1;exact at4 n (hint c (aCP ak))
theorem atX {t:TypeId} {c:ad} (aL:nU P t c=true) :(Instr.keyThatStays (yH c) (yH c)).run P w=.ok (yH c) w:=by
 unfold Instr.keyThatStays;rw[if_pos (at3 9999 aL)];simp
theorem IY {α:Type} {f:α->PUnit->Sem (ForInStep PUnit)}:∀ (l:List α),(∀ x∈l,(f x ⟨⟩).run P w=.ok (.yield ⟨⟩) w)->(forIn l ⟨⟩ f).run P w=.ok ⟨⟩ w
 | [],_=>by simp
 | x::l,aL=>by
  rw[List.forIn_cons];simp only[Sem.run_bind,aL x (by simp),Result.andThen_ok];exact IY l (fun y aE=>aL y (by simp[aE]))
theorem Mz (em:Bool) :∀ (d n:Nat) (t:TypeId) (c:ad) (v:Value),d<=n->ul P d t=true->aZ w R h μ c v->(e8 P t=some true->∃ cs m,c=.aM cs/\c5 P t=some m/\cs.length=m)->
  (Instr.checkKey em n t v).run P w=.ok () w
 | 0,_,_,_,_,_,hk,_,_=>by simp[ul] at hk
 | d+1,0,_,_,_,aI,_,_,_=>by omega
 | d+1,n+1,t,c,v,aI,hk,ay,aD=>by
  unfold ul at hk;split at hk
  ·rename_i aS; cases v<;>simp[Instr.checkKey,cZ aS]
  ·rename_i aS; cases v<;>simp[Instr.checkKey,cZ aS]
  ·rename_i aS; cases v<;>simp[Instr.checkKey,cZ aS]
  ·rename_i len e m aS hm;have JE:e8 P t=some true:=by unfold e8; rw[aS]; rfl
   obtain⟨cs,cV,rfl,cl,ar⟩:=aD JE;rw[hm] at cl; cases cl;simp only[aCQ] at hk;obtain⟨lE,jy⟩:=hk;split at jy
   ·rename_i z a az JH;simp only[aCQ] at jy;have eD:=aED jy.1;have rp:=aED jy.2;obtain⟨vs,rfl,aC⟩:=u0 ay;unfold Instr.checkKey;simp only[Sem.run_bind,cZ aS,Result.andThen_ok];rw[Std.Legacy.Range.forIn_eq_forIn_range'];rw[IY]
    ·simp
    intro i aB;have dZ:i<len:=by simp[Std.Legacy.Range.size] at aB; omega
    have alK:i*z+z<=cs.length:=by
     have:i*z+z<=len*z:=by rw[<-aDj]; exact aCN _ dZ
     omega
    have aF:∃ c,iv P e cs (i*z)=some c/\(e8 P e=some true->∃ cs' cV,c=.aM cs'/\c5 P e=some cV/\cs'.length=cV) :=by
     unfold iv;rw[JH,az];cases a with
     | true=>exact⟨_,by simp only; rw[if_pos alK],fun _=>⟨_,z,rfl,rfl,by simp; omega⟩⟩
     | false=>exact⟨cs[i*z]'(by omega),by simp only; exact aCM (by omega),fun h=>by cases h⟩
    obtain⟨c,ak,xF⟩:=aF;obtain⟨u,aq,aH⟩:=wg (P:=P) ak aC;simp only[Sem.run_bind,gh az,Result.andThen_ok,aq w];rw[Mz em d n e c u (by omega) lE aH xF];simp
   ·cases jy
  ·rename_i fs m aS hm;have JE:e8 P t=some true:=by unfold e8; rw[aS]; rfl
   obtain⟨cs,cV,rfl,cl,ar⟩:=aD JE;rw[hm] at cl; cases cl;obtain⟨vs,rfl,aC⟩:=u0 ay;unfold Instr.checkKey;simp only[Sem.run_bind,cZ aS,Result.andThen_ok];rw[<-Array.forIn_toList,IY]
   ·simp
   intro f aL;have vC:=aDO.1 hk f aL;simp only[aCQ] at vC;obtain⟨lE,jy⟩:=vC;split at jy
   ·rename_i z a az JH;simp only[aCQ] at jy;have eD:=aED jy.1;have rp:=aED jy.2;have aF:∃ c,iv P f.type cs f.offset=some c/\(e8 P f.type=some true->∃ cs' cV,c=.aM cs'/\c5 P f.type=some cV/\cs'.length=cV) :=by
     unfold iv;rw[JH,az];cases a with
     | true=>exact⟨_,by simp only; rw[if_pos (by omega)],fun _=>⟨_,z,rfl,rfl,by simp; omega⟩⟩
     | false=>exact⟨cs[f.offset]'(by omega),by simp only; exact aCM (by omega),fun h=>by cases h⟩
    obtain⟨c,ak,xF⟩:=aF;obtain⟨u,aq,aH⟩:=wg (P:=P) ak aC;have:=Mz em d n f.type c u (by omega) lE aH xF;by_cases CF:f.name= "_"
    ·simp[CF]
    ·simp[CF,aq w,this]
   ·cases jy
  ·cases hk
theorem acg {t:TypeId} {c:ad} {v:Value} (em:Bool) (aL:nU P t c=true) (ay:aZ w R h μ c v) :(Instr.checkKey em 10000 t v).run P w=.ok () w:=by
 obtain⟨cs,m,rfl,h1,ag,aq,aH,_⟩:=Gr aL;exact Mz em 8 10000 t _ v (by omega) h1 ay (fun _=>⟨cs,m,rfl,aq,aH⟩)
def tf (w:World) (R:Nat->Prop) (h:bh) (μ:dd) (es:List (ad × ad × Nat)) (ef:List MapEntry) :Prop:=
 ef.length=es.length/\∀ (j:Nat) (k v:ad) (b:Nat),es[j]? = some (k,v,b)->∃ x:MapEntry,ef[j]? = some x/\aZ w R h μ k x.key/\aZ w R h μ v x.val/\x.born=b
def NE (w:World) (R:Nat->Prop) (h:bh) (μ:dd) (k:ad) (ef:List MapEntry) (i:Nat) :Option (Nat × ad)->Option (Nat × Value)->Prop
 | none,r=>r=none
 | some (j,v),r=>∃ pC,r=some (j,pC)/\aZ w R h μ v pC/\i<=j/\∃ x,ef[j - i]? = some x/\x.val=pC/\aZ w R h μ k x.key
theorem ai8 {es:List (ad × ad × Nat)} {e:ad × ad × Nat} {x:MapEntry} {ef:List MapEntry} (aC:tf w R h μ (e::es) (x::ef)) :tf w R h μ es ef:=
 ⟨by have:=aC.1; simp at this; exact this,fun j k v b am=>aC.2 (j+1) k v b (by simpa using am)⟩
theorem ai7 {es:List (ad × ad × Nat)} {k v:ad} {b:Nat} {x:MapEntry} {ef:List MapEntry} (aC:tf w R h μ ((k,v,b) ::es) (x::ef)) :aZ w R h μ k x.key/\aZ w R h μ v x.val/\x.born=b:=by
 obtain⟨y,h1,ag⟩:=aC.2 0 k v b rfl;simp at h1; subst h1; exact ag
theorem SE {dQ:TypeId} {k:ad} {ip:Value} (hk:aZ w R h μ k ip) :∀ (es:List (ad × ad × Nat)) (ef:List MapEntry) (i:Nat) (r:Option (Nat × ad)),tf w R h μ es ef->m0 P dQ k es i=some r->
  ∃ dU,(Instr.findAsking dQ ip ef i).run P w=.ok dU w/\NE w R h μ k ef i r dU
 | [],ef,i,r,aC,aL=>by
  have:ef=[] :=aDk.1 aC.1;subst this;simp only[m0,Option.some.injEq] at aL; subst aL;exact⟨none,by simp[Instr.findAsking],rfl⟩
 | (k',v,b) ::es,[],i,r,aC,aL=>by have:=aC.1; simp at this
 | (k',v,b) ::es,x::ef,i,r,aC,aL=>by
  obtain⟨h1,ag,aq⟩:=ai7 aC;simp only[m0] at aL;split at aL
  ·cases aL
  rename_i fv;split at aL
  ·rename_i heq;split at aL
   ·rename_i akU;simp only[Option.some.injEq] at aL; subst aL;have iY:=IP (P:=P) 10000 dQ k k' true ip x.key heq hk h1;refine⟨some (i,x.val),?_,x.val,rfl,ag,aCL _,x,by simp,rfl,?_⟩
    ·simp only[Instr.findAsking,Op.equal,Op.maxDepth,Sem.run_bind];rw[iY]; simp
    ·rw[ad.beq_eq akU]; exact h1
   ·cases aL
  ·rename_i heq;have iY:=IP (P:=P) 10000 dQ k k' false ip x.key heq hk h1;obtain⟨dU,aH,bd⟩:=SE hk es ef (i+1) r (ai8 aC) aL;refine⟨dU,?_,?_⟩
   ·simp only[Instr.findAsking,Op.equal,Op.maxDepth,Sem.run_bind];rw[iY]; simpa using aH
   ·cases r with
    | none=>exact bd
    | some yb=>
     obtain⟨pC,bM,dq,fl,y,fC,mr,xl⟩:=bd;exact⟨pC,bM,dq,by omega,y,by rw[show yb.1 - i=(yb.1 - (i+1))+1 by omega]; simpa using fC,mr,xl⟩
  ·cases aL
theorem aci {dQ:TypeId} {k:ad} {ip:Value} (hk:aZ w R h μ k ip) (aL:nU P dQ k=true) {es:List (ad × ad × Nat)} {ef:List MapEntry} {r:Option (Nat × ad)} (aC:tf w R h μ es ef) (JS:m0 P dQ k es 0=some r) :
  ∃ dU,(Instr.findKey dQ ip ef).run P w=.ok dU w/\NE w R h μ k ef 0 r dU:=by
 obtain⟨dU,h1,ag⟩:=SE hk es ef 0 r aC JS;refine⟨dU,?_,ag⟩;obtain⟨cs,m,rfl,aq,aH,_⟩:=Gr aL;unfold e8 at aH;cases aS:P.underlying dQ with
 | none=>rw[aS] at aH; cases aH
 | some d=>
  rw[aS] at aH;unfold Instr.findKey;simp only[Sem.run_bind,cZ aS,Result.andThen_ok];cases ef with
  | nil=>simpa [Instr.findNow,Instr.findAsking] using h1
  | cons x ef=>
   have aI:Instr.findNow d ip (x::ef) 0=none:=by
    cases d<;>simp at aH<;>simp[Instr.findNow,Instr.sameNow]
   rw[aI];exact h1
theorem aoD (rel:cp R B w h μ) {m:ad} {aO:Value} {es:List (ad × ad × Nat)} (hm:mapOf h m=some es) (ay:aZ w R h μ m aO) :
  (aO=.map none/\es=[])\/∃ b cF gS ef,m=.mp b/\h.f b=.map es gS/\μ b=some cF/\aO=.map (some cF.r)/\w.heap[cF.r]? = some (.map ef gS)/\tf w R h μ es ef.toList:=by
 cases m<;>simp[mapOf] at hm
 ·subst hm; cases ay; exact .inl ⟨rfl,rfl⟩
 ·rename_i b;cases ay with
  | mp _ cF ai jf=>
   cases ak:h.f b<;>rw[ak] at hm<;>simp at hm;rename_i axY gS;subst hm;have hblk:=rel.blk b cF jf;rw[ak] at hblk;obtain⟨ef,h1,ag,aq⟩:=hblk;refine .inr ⟨b,cF,gS,ef,rfl,ak,jf,rfl,h1,by simpa using ag,fun j k v bK am=>?_⟩;obtain⟨x,aH,bd⟩:=aq j k v bK am;exact⟨x,by simpa using aH,bd⟩
theorem MA {r:Nat} {es:Array MapEntry} {gS:Nat} (ai:w.heap[r]? = some (.map es gS)) :(getObj r).run P w=.ok (.map es gS) w:=by simp[getObj,Sem.run,ai]
theorem acj {r:Nat} {s:ByteArray} {pos:Nat} (ai:w.heap[r]? = some (.stringIter s pos)) :(getObj r).run P w=.ok (.stringIter s pos) w:=by simp[getObj,Sem.run,ai]
theorem adp {t:TypeId} {z:ad} (az:yR P t=some z) :∃ v,(zeroValue t).run P w=.ok v w/\aZ w R h μ z v:=by
 unfold yR at az;cases aB:P.info? t with
 | none=>rw[aB] at az; cases az
 | some i=>
  rw[aB] at az;simp only[aEp] at az;cases ay:i.zero with
  | none=>rw[ay] at az; cases az
  | some v=>
   rw[ay] at az;simp only[aCR,Option.some.injEq] at az; subst az;exact⟨v,acl aB ay,.wb v⟩
theorem aZ.acW {a b:ad} {iU fN:Value} (aD:aZ w R h μ a iU) (ai:aZ w R h μ b fN) :aZ w R h μ (.b5 [a,b]) (.tuple #[iU,fN]) :=by
 refine .b5 _ _ rfl fun j c v ak ay=>?_
 rcases j with _ | _ | j
 ·simp at ak ay; subst ak ay; exact aD
 ·simp at ak ay; subst ak ay; exact ai
 ·simp at ak
theorem aov (rel:cp R B w h μ) {t:TypeId} {m k c:ad} {aO ip:Value} {ok:Bool} (ar:Gz P h t m k ok=some c) (hm:aZ w R h μ m aO) (hk:aZ w R h μ k ip) :
  ∃ v,(Instr.lookup t aO ip ok).run P w=.ok v w/\aZ w R h μ c v:=by
 unfold Gz at ar;split at ar
 ·rename_i dQ mZ es aS sy;split at ar
  ·cases ar
  ·rename_i fv;have aiH:∀ ef:List MapEntry,tf w R h μ es ef->∃ dU,(Instr.findKey dQ ip ef).run P w=.ok dU w ∧
     ((∃ i v,dU=some (i,v)/\∃ tx,aZ w R h μ tx v/\c=if ok then .b5 [tx,.bool true] else tx)\/(dU=none/\∃ z,yR P mZ=some z/\c=if ok then .b5 [z,.bool false] else z)) :=by
    intro ef aC;cases lZ:m0 P dQ k es 0 with
    | none=>rw[lZ] at ar; cases ar
    | some r=>
     obtain⟨dU,h1,ag⟩:=aci hk fv aC lZ;rw[lZ] at ar;refine⟨dU,h1,?_⟩;cases r with
     | none=>
      cases ag;simp only at ar;cases az:yR P mZ with
      | none=>rw[az] at ar; cases ar
      | some z=>
       rw[az] at ar;simp only[aCR,Option.some.injEq] at ar;exact .inr ⟨rfl,z,rfl,ar.symm⟩
     | some yb=>
      obtain⟨pC,rfl,aH,_⟩:=ag;simp only[Option.some.injEq] at ar;exact .inl ⟨_,pC,rfl,_,aH,ar.symm⟩
   have fin:∀ (ef:List MapEntry) (em:Bool),tf w R h μ es ef->∀ m:Sem Value,m.run P w=(((Instr.checkKey em 10000 dQ ip).bind fun _=>(Instr.findKey dQ ip ef).bind fun r=>match r with
     | some (_,v)=>pure (if ok=true then .tuple #[v,.bool true] else v)
     | none=>(zeroValue mZ).bind fun z=>pure (if ok=true then .tuple #[z,.bool false] else z)) :Sem Value).run P w->∃ v,m.run P w=.ok v w/\aZ w R h μ c v:=by
    intro ef em aC m hm;obtain⟨dU,h1,ag⟩:=aiH ef aC;have Fy:∀ {α kr:Type} (a:Sem α) (f:α->Sem kr),a.bind f=a >>= f:=fun _ _=>rfl
    simp only[Fy,Sem.run_bind,acg em fv hk,Result.andThen_ok,h1] at hm;rcases ag with ⟨i,v,rfl,tx,aq,rfl⟩ | ⟨rfl,z,aq,rfl⟩
    ·simp only at hm;cases ok
     ·exact⟨v,by simpa using hm,aq⟩
     ·exact⟨.tuple #[v,.bool true],by simpa using hm,aZ.acW aq (.bool _)⟩
    ·obtain⟨v,aH,bd⟩:=adp (w:=w) (R:=R) (h:=h) (μ:=μ) aq;simp only[Sem.run_bind,aH,Result.andThen_ok] at hm;cases ok
     ·exact⟨v,by simpa using hm,bd⟩
     ·exact⟨.tuple #[v,.bool false],by simpa using hm,aZ.acW bd (.bool _)⟩
   have Fy:∀ {α kr:Type} (a:Sem α) (f:α->Sem kr),a.bind f=a >>= f:=fun _ _=>rfl
   rcases aoD rel sy hm with ⟨rfl,rfl⟩ | ⟨b,cF,gS,ef,rfl,ai,jf,rfl,kB,aC⟩
   ·refine fin [] true ⟨rfl,fun j k v b am=>by simp at am⟩ _ ?_;unfold Instr.lookup;simp only[Fy,Sem.run_bind,cZ aS,Result.andThen_ok,Sem.run_pure];cases cU:(Instr.checkKey true 10000 dQ ip).run P w with
    | halt a b=>simp[cU]
    | ok a cb=>
     simp[cU];cases alr:(Instr.findKey dQ ip []).run P cb with
     | halt a b=>simp
     | ok r w2=>
      simp;cases r with
      | none=>cases (zeroValue mZ).run P w2<;>simp
      | some x=>simp
   ·refine fin ef.toList ef.isEmpty aC _ ?_;unfold Instr.lookup;simp only[Fy,Sem.run_bind,cZ aS,Result.andThen_ok,Sem.run_pure,MA kB];cases cU:(Instr.checkKey ef.isEmpty 10000 dQ ip).run P w with
    | halt a b=>simp[cU]
    | ok a cb=>
     simp[cU];cases alr:(Instr.findKey dQ ip ef.toList).run P cb with
     | halt a b=>simp
     | ok r w2=>
      simp;cases r with
      | none=>cases (zeroValue mZ).run P w2<;>simp
      | some x=>simp
 ·cases ar
theorem aol (rel:cp R B w h μ) {t ty:TypeId} {x c:ad} {bY:Value} (ak:yf P h t x=some c) (al:aZ w R h μ x bY) :∃ v,(Builtin.len_ #[t] ty #[bY]).run P w=.ok v w/\aZ w R h μ c v:=by
 unfold yf at ak;split at ak
 ·rename_i dQ mZ b aS;split at ak
  ·rename_i es gS ai;simp only[Option.some.injEq] at ak; subst ak;cases al with
   | mp _ cF hk jf=>
    have hblk:=rel.blk b cF jf;rw[ai] at hblk;obtain⟨ef,h1,ag,aq⟩:=hblk;exact⟨.int .i64 ef.size,by simp[Builtin.len_,cZ aS,MA h1,goInt],by rw[ag]; exact .int _ _⟩
  ·cases ak
 ·cases ak
theorem aoB (rel:cp R B w h μ) {t:TypeId} {r:Option Value} (aS:∃ k e,P.underlying t=some (.map k e)) (aC:∀ x,r=some x->∃ k n,x=.int k n) :∃ v w' μ',(Instr.makeMap t r).run P w=.ok v w'/\ej w h μ w' (h.push (.map [] 0)) μ'/\cp R B w' (h.push (.map [] 0)) μ'/\aZ w' R (h.push (.map [] 0)) μ' (.mp h.n) v:=by
 have:=rel.Yv (w':=w.alloc (.map #[] 0)) (.map [] 0) (.map #[] 0) (k:=0) rfl rfl rfl rfl rfl ⟨#[],by show (w.heap.push _)[w.heap.size]? = _; simp,rfl,fun j k v b am=>by simp at am⟩;refine⟨.map (some w.heap.size),w.alloc (.map #[] 0),_,?_,this.1,this.2,?_⟩
 ·obtain⟨k,e,aS⟩:=aS;cases r with
  | none=>simp[Instr.makeMap,newObj,Sem.run]
  | some x=>
   obtain⟨k',n,rfl⟩:=aC x rfl;simp[Instr.makeMap,newObj,Sem.run,cZ aS,Go.asInt,Go.asIntOf]
 ·exact .mp h.n ⟨w.heap.size,0,0⟩ (by simp[eS,oC]) (by simp)
theorem Xw (rel:cp R B w h μ) {t:TypeId} {m k x:ad} {aO ip bY:Value} {h' : bh} (oz:yi P h t m k x=some h') (hm:aZ w R h μ m aO) (hk:aZ w R h μ k ip) (al:aZ w R h μ x bY) :
  ∃ w',(Instr.mapUpdate t aO ip bY).run P w=.ok () w'/\ej w h μ w' h' μ/\cp R B w' h' μ:=by
 unfold yi at oz;split at oz
 ·rename_i dQ mZ b aS;split at oz
  ·rename_i es gS ai;split at oz
   ·cases oz
   ·rename_i fv;cases hm with
    | mp _ cF alQ jf=>
     have hblk:=rel.blk b cF jf;rw[ai] at hblk;obtain⟨ef,h1,ag,aq⟩:=hblk;have aP:cF.r<w.heap.size:=by
      rcases aDK cF.r w.heap.size with h | h
      ·exact h
      ·rw[aEl h] at h1; cases h1
     have aC:tf w R h μ es ef.toList:=⟨by simpa using ag,fun j k v bK am=>by obtain⟨y,aH,bd⟩:=aq j k v bK am; exact⟨y,by simpa using aH,bd⟩⟩
     have kD:∀ o:Obj,(setObj cF.r o).run P w=.ok () { w with heap:=w.heap.setIfInBounds cF.r o }:=fun o=>by simp[setObj,Sem.run,h1]
     have nd:∀ (zh:List (ad × ad × Nat)) (zi:Array MapEntry) (Bw:Nat),(∀ {w2:World} {ag:bh},Ext0 w h μ w2 ag μ->zi.size=zh.length/\∀ (j:Nat) (k v:ad) (b:Nat),zh[j]? = some (k,v,b)->∃ x:MapEntry,zi[j]? = some x/\aZ w2 R ag μ k x.key/\aZ w2 R ag μ v x.val/\x.born=b)->
       ej w h μ { w with heap:=w.heap.setIfInBounds cF.r (.map zi Bw) } (h.set b (.map zh Bw)) μ/\cp R B { w with heap:=w.heap.setIfInBounds cF.r (.map zi Bw) } (h.set b (.map zh Bw)) μ:=by
      intro zh zi Bw bD;refine rel.hT (k:=0) ai rfl rfl jf rfl rfl rfl (by simp) (fun k hk=>?_) (fun e=>?_)
      ·simp only; rw[aD8]; rw[if_neg (fun aR=>hk aR.symm)]
      ·obtain⟨q1,fh⟩:=bD e;exact⟨zi,by simp only; rw[aD8]; simp[aP],q1,fh⟩
     unfold Instr.mapUpdate;simp only[Sem.run_bind,cZ aS,Result.andThen_ok,MA h1,acg false fv hk];cases lZ:m0 P dQ k es 0 with
     | none=>rw[lZ] at oz; cases oz
     | some r=>
      rw[lZ] at oz;obtain⟨dU,aH,bd⟩:=aci hk fv aC lZ;rw[aH];cases r with
      | none=>
       cases bd;simp only[Option.some.injEq] at oz; subst oz;have:=nd (es++[(k,x,gS)]) (ef.push { key:=ip,val:=bY,born:=gS }) (gS+1) (fun e=>⟨by simp[ag],fun j k' bl bK am=>?_⟩)
       ·exact⟨_,by simp only[Result.andThen_ok]; rw[kD],this⟩
       ·rw[Array.getElem?_push];by_cases eW:j<es.length
        ·rw[aCK eW] at am;obtain⟨y,bM,dq,fl,fC⟩:=aq j k' bl bK am;exact⟨y,by rw[if_neg (by omega)]; exact bM,dq.nE e,fl.nE e,fC⟩
        ·rw[aCT (by omega)] at am;have Cx:j - es.length=0:=by
          rcases Nat.eq_zero_or_pos (j - es.length) with h | h
          ·exact h
          ·rw[aC0 (by simp; omega)] at am; cases am
         rw[Cx] at am;simp at am;obtain⟨rfl,rfl,rfl⟩:=am;exact⟨_,by rw[if_pos (by omega)],hk.nE e,al.nE e,rfl⟩
      | some yb=>
       obtain⟨i,v⟩:=yb;obtain⟨pC,rfl,bM,_,y,dq,fl,fC⟩:=bd;simp only[Option.some.injEq] at oz; subst oz;have nG:ef[i]? = some y:=by simpa using dq
       have a2:y.key=ip:=by rw[Lq fv fC,Lq fv hk]
       have mA:(Instr.keyThatStays (((ef[i]?).map (·.key)).getD ip) ip).run P w=.ok ip w:=by
        rw[nG];simp only[aCR,aDA,a2];rw[Lq fv hk];exact atX fv
       have:=nd (es.modify i fun e=>(k,x,e.2.2)) (ef.modify i fun e=>{ e with key:=ip,val:=bY }) gS (fun e=>⟨by simp[ag],fun j k' bl bK am=>?_⟩)
       ·refine⟨_,?_,this⟩;simp only[Result.andThen_ok,Sem.run_bind,mA];rw[kD]
       ·rw[List.getElem?_modify] at am;rw[aEY];cases nK:es[j]? with
        | none=>rw[nK] at am; simp at am
        | some ih=>
         obtain⟨hh,v0,hL⟩:=ih;rw[nK] at am;obtain⟨adm,mr,xl,Je,Tk⟩:=aq j hh v0 hL nK;rw[mr];by_cases jx:i=j
         ·simp[jx] at am;obtain⟨rfl,rfl,rfl⟩:=am;exact⟨{ adm with key:=ip,val:=bY },by simp[jx],hk.nE e,al.nE e,Tk⟩
         ·simp[jx] at am;obtain⟨rfl,rfl,rfl⟩:=am;exact⟨adm,by simp[jx],xl.nE e,Je.nE e,Tk⟩
  ·cases oz
 ·cases oz
theorem ato (rel:cp R B w h μ) {t:TypeId} {x c:ad} {bY:Value} {h' : bh} (aC:He P h t x=some (c,h')) (al:aZ w R h μ x bY) :
  ∃ v w' μ',(Instr.range t bY).run P w=.ok v w'/\ej w h μ w' h' μ'/\cp R B w' h' μ'/\aZ w' R h' μ' c v:=by
 unfold He at aC;split at aC
 ·rename_i s aS;simp only[Option.some.injEq,Prod.mk.injEq] at aC;obtain⟨rfl,rfl⟩:=aC;cases al;rename_i bs;have:=rel.Yv (w':=w.alloc (.stringIter bs 0)) (.iter bs.data.toList 0) (.stringIter bs 0) (k:=1) rfl rfl rfl rfl rfl ⟨bs,rfl,by show (w.heap.push _)[w.heap.size]? = _; simp⟩;refine⟨.pointer (some ⟨w.heap.size,0,none⟩),w.alloc (.stringIter bs 0),_,?_,this.1,this.2,?_⟩
  ·simp[Instr.range,cZ aS,newObj,Sem.run]
  ·exact .it h.n ⟨w.heap.size,0,0⟩ (by simp[eS,oC]) (by simp)
 ·cases aC
theorem aoM (rel:cp R B w h μ) {x c:ad} {bY:Value} {h' : bh} {ty:TypeId} (aC:GM h x=some (c,h')) (al:aZ w R h μ x bY) :
  ∃ v w',(Instr.next bY true ty).run P w=.ok v w'/\ej w h μ w' h' μ/\cp R B w' h' μ/\aZ w' R h' μ c v:=by
 unfold GM at aC;split at aC
 ·rename_i b;split at aC
  ·rename_i s pos ai;cases al with
   | it _ cF alQ jf=>
    have hblk:=rel.blk b cF jf;rw[ai] at hblk;obtain⟨bs,rfl,h1⟩:=hblk;have aP:cF.r<w.heap.size:=by
     rcases aDK cF.r w.heap.size with h | h
     ·exact h
     ·rw[aEl h] at h1; cases h1
    have p0:(⟨bs.data.toList.toArray⟩:ByteArray)=bs:=by cases bs; simp
    have h6:bs.data.toList.length=bs.size:=by rw[aEK]; rfl
    rw[p0] at aC;split at aC
    ·rename_i pd;have aF:pos<bs.size:=by rw[<-h6]; rw[aF8] at pd; exact pd
     simp only[Option.some.injEq,Prod.mk.injEq] at aC;obtain⟨rfl,rfl⟩:=aC;have:=rel.hT (w':={ w with heap:=w.heap.setIfInBounds cF.r (.stringIter bs (pos+(Utf8.decode bs pos).2)) }) (k:=1) (c':=.iter bs.data.toList (pos+(Utf8.decode bs pos).2)) ai rfl rfl jf rfl rfl rfl (by simp)
      (fun k hk=>by simp only; rw[aD8]; rw[if_neg (fun aR=>hk aR.symm)]) (fun e=>⟨bs,rfl,by simp only; rw[aD8]; simp[aP]⟩)
     refine⟨.tuple #[.bool true,.int .i64 pos,.int .i32 (Utf8.decode bs pos).1],_,?_,this.1,this.2,?_⟩
     ·simp only[Instr.next,Sem.run_bind,acj h1,Result.andThen_ok,if_pos aF];simp[setObj,Sem.run,h1,goInt]
     ·refine .b5 _ _ rfl fun j c v ak ay=>?_
      rcases j with _ | _ | _ | j
      ·simp at ak ay; subst ak ay; exact .bool _
      ·simp at ak ay; subst ak ay; exact .int _ _
      ·simp at ak ay; subst ak ay; exact .int _ _
      ·simp at ak
    ·rename_i pd;have aF:¬ pos<bs.size:=by
      rw[<-h6]; intro aR;rw[<-aF8] at aR; rw[aR] at pd; cases pd
     simp only[Option.some.injEq,Prod.mk.injEq] at aC;obtain⟨rfl,rfl⟩:=aC;refine⟨.tuple #[.bool false],w,?_,.refl _ _ _,rel,?_⟩
     ·simp only[Instr.next,Sem.run_bind,acj h1,Result.andThen_ok,if_neg aF];simp
     ·refine .b5 _ _ rfl fun j c v ak ay=>?_
      rcases j with _ | j
      ·simp at ak ay; subst ak ay; exact .bool _
      ·simp at ak
  ·cases aC
 ·cases aC
theorem ach {blk:Nat}:∀ (n:Nat) (o:Nat) (ns:List Int) (acc:ByteArray),ns.length=n->(∀ j v,(ns.map (Value.int .u8))[j]? = some v->(load (⟨blk,o+j,none⟩:Addr)).run P w=.ok v w)->
  ∃ bs,(Extern.Bytes.loadBytes ⟨blk,o,none⟩ n acc).run P w=.ok bs w/\bs.data.toList=acc.data.toList++ns.map fun n=>UInt8.ofNat n.toNat
 | 0,o,ns,acc,ar,_=>⟨acc,by simp[Extern.Bytes.loadBytes],by rw[aDk.1 ar]; simp⟩
 | n+1,o,[],acc,ar,_=>by simp at ar
 | n+1,o,x::ns,acc,ar,h=>by
  have aG:=h 0 _ rfl;obtain⟨bs,h1,ag⟩:=ach n (o+1) ns (acc.push (UInt8.ofNat x.toNat)) (by simpa using ar) (fun j v am=>by
   have:=h (j+1) v (by simpa using am);rw[show o+(j+1)=o+1+j by omega] at this;exact this)
  refine⟨bs,?_,?_⟩
  ·unfold Extern.Bytes.loadBytes;rw[aFq] at aG;simp only[Sem.run_bind,aG,Result.andThen_ok,Addr.mW];exact h1
  ·rw[ag]; simp
theorem OC (rel:cp R B w h μ) {x:ad} {bY:Value} {l:List UInt8} (ai:u7 h x=some l) (al:aZ w R h μ x bY) :∃ bs,(Extern.Bytes.bytesOf bY).run P w=.ok bs w/\bs.data.toList=l:=by
 unfold u7 at ai;split at ai
 ·simp only[Option.some.injEq] at ai; subst ai;cases al with
  | str bs=>exact⟨bs,by simp[Extern.Bytes.bytesOf],rfl⟩
 ·rename_i sB;split at ai
  ·rename_i cs n cQ;obtain⟨bm,bu,vs,cW,lZ⟩:=vj (P:=P) rel cQ al;have aL:=lZ n (aCL _) w (fun _=>rfl);obtain⟨ns,rfl,rfl⟩:=Im cs vs l ai cW.1 cW.2;have nO:ns.length=n:=by have:=cW.1; simp at this; omega
   have CZ:(ns.map (Value.int .u8)).take (n*1)=ns.map (Value.int .u8) :=aCI (by simp; omega);rw[CZ] at aL;have JT:∃ a len cap,bY=.slice a len cap:=by
    cases al<;>first | exact⟨_,_,_,rfl⟩ | (simp[contents] at cQ; done) | (exact absurd rfl (sB _))
   obtain⟨a,len,cap,rfl⟩:=JT;simp only[Builtin.lenOf,Sem.run_pure,Result.ok.injEq] at bu;obtain⟨rfl,_⟩:=bu;cases a with
   | none=>
    simp only[Builtin.firstCells,Sem.run_pure,Result.ok.injEq] at aL;have nh:ns=[] :=by
     have:=congrArg Array.toList aL.1;simpa using this.symm
    subst nh;exact⟨.empty,by simp[Extern.Bytes.bytesOf],rfl⟩
   | some a=>
    by_cases tW:len=0
    ·subst tW;have:ns=[] :=aDk.1 nO;subst this;exact⟨.empty,by simp[Extern.Bytes.bytesOf,Extern.Bytes.loadBytes],rfl⟩
    have aD:∃ blk o,a=⟨blk,o,none⟩:=by
     cases al with
     | av=>exact⟨_,_,rfl⟩
     | cr=>exact⟨_,_,rfl⟩
     | go=>exact absurd rfl tW
     | iy=>exact absurd rfl tW
     | bad=>simp[contents] at cQ
     | g4 _ _ _ _ _ _ _ _ h1 ag aA=>
      exfalso;simp only[contents] at cQ;rcases aA with aA | ⟨n,iF,aA,aP⟩
      ·rw[aA] at cQ; cases cQ
      ·rw[aA] at cQ;simp only at cQ;split at cQ
       ·rename_i aR; omega
       ·cases cQ
    obtain⟨blk,o,rfl⟩:=aD;simp only[Builtin.firstCells,aEk] at aL;unfold loadCells at aL;obtain⟨l,h1,ag,aq⟩:=loadCellsFrom_ok _ _ _ _ _ _ aL;have aH:l=ns.map (Value.int .u8) :=by
     have:=congrArg Array.toList ag;simpa using this.symm
    subst aH;obtain⟨bs,bd,bM⟩:=ach (P:=P) (w:=w) (blk:=blk) len o ns .empty nO (fun j v am=>by
     have:=aq j v am;rw[Addr.mW,aDT] at this;exact this)
    exact⟨bs,by simpa [Extern.Bytes.bytesOf] using bd,by rw[bM]; rfl⟩
  ·cases ai
theorem R3:∀ (a b:List UInt8),(match (List.range (min a.length b.length)).find? fun i=>a.getD i 0 != b.getD i 0 with
  | some i=>if a.getD i 0<b.getD i 0 then (-1:Int) else 1
  | none=>if a.length<b.length then -1 else if a.length > b.length then 1 else 0)=oV a b
 | [],[]=>by simp[oV]
 | [],_::_=>by simp[oV]
 | _::_,[]=>by simp[oV]
 | x::a,y::b=>by
  have aY:=R3 a b;simp only[aC6,Nat.add_min_add_right,List.range_succ_eq_map,aFr,List.getD_cons_zero];by_cases ni:x=y
  ·subst ni;simp only[bne_self_eq_false,oV,if_true];rw[<-aY,List.find?_map];have zP:((fun i=>(x::a).getD i 0 != (x::b).getD i 0) ∘ Nat.succ)=fun i=>a.getD i 0 != b.getD i 0:=by
    funext i; simp
   rw[zP];cases aL:(List.range (min a.length b.length)).find? fun i=>a.getD i 0 != b.getD i 0 with
   | none=>simp only[Option.map_none]; congr 1<;>simp
   | some i=>simp
  ·have b2:(x != y)=true:=by simp[ni]
   simp only[b2,oV,if_neg ni,List.getD_cons_zero]
theorem SG {α:Type} {p q:α->Bool}:∀ (l:List α),(∀ x∈l,p x=q x)->l.find? p=l.find? q
 | [],_=>rfl
 | x::l,h=>by
  rw[aFr,aFr,h x (by simp),SG l (fun y aE=>h y (by simp[aE]))]
theorem y9 (a b:ByteArray) :Extern.BytealgCompare.cmp a b=oV a.data.toList b.data.toList:=by
 rw[<-R3];unfold Extern.BytealgCompare.cmp;have aA:∀ (a:ByteArray) (i:Nat),i<a.size->a[i]! = a.data.toList.getD i 0:=fun a i aB=>by
  simp only[aC2,aEC];rw[getElem!_pos a i aB];have:i<a.data.size:=aB;rw[aEc this]; rfl
 have ar:∀ a:ByteArray,a.data.toList.length=a.size:=fun a=>by rw[aEK]; rfl
 rw[ar,ar];have JS:(List.range (min a.size b.size)).find? (fun i=>a[i]! != b[i]!)=(List.range (min a.size b.size)).find? (fun i=>a.data.toList.getD i 0 != b.data.toList.getD i 0) :=by
  apply SG;intro i aB;have:=aDw.1 aB;rw[aA a i (by omega),aA b i (by omega)]
 rw[JS];cases aL:(List.range (min a.size b.size)).find? (fun i=>a.data.toList.getD i 0 != b.data.toList.getD i 0) with
 | none=>rfl
 | some i=>
  have:=aDw.1 (aFM aL);simp only;rw[aA a i (by omega),aA b i (by omega)]
theorem ajC {fn:Func} (aI:fn.name= "internal/bytealg.Compare") (ax:fn.origin= ""\/fn.origin= "internal/bytealg.Compare") :Extern.find fn=some Extern.BytealgCompare.compare/\Extern.findNext fn=none:=by
 constructor
 ·unfold Extern.find;simp only[aI];rfl
 ·unfold Extern.findNext;simp only[aI];rcases ax with ax | ax<;>rw[ax]<;>rfl
theorem ajp (rel:cp R B w h μ) {f:FuncId} {fn:Func} {args:List ad} {vs:Array Value} {c:ad} (aL:P.funcs[f]? = some fn) (aB:Db fn=true) (ak:BA h args=some c)
  (ar:vs.size=args.length) (ay:∀ (j:Nat) (c:ad) (v:Value),args[j]? = some c->vs[j]? = some v->aZ w R h μ c v) :
  ∃ v,(callFunc f vs).run P w=.ok (.value v) w/\aZ w R h μ c v:=by
 unfold Db at aB;simp only[aCQ,aE7,beq_iff_eq] at aB;obtain⟨⟨ai,aI⟩,ax⟩:=aB;unfold BA at ak;split at ak
 ·rename_i x y;split at ak
  ·rename_i a b aD ca;simp only[Option.some.injEq] at ak; subst ak;simp only[aC6,aDx] at ar;have nh:vs=#[vs[0],vs[1]] :=by
    apply Array.ext
    ·simpa using ar
    ·intro i h1 ag;rcases (show i=0\/i=1 by simp at ag; omega) with rfl | rfl<;>rfl
   obtain⟨ba,h1,ag⟩:=OC (P:=P) rel aD (ay 0 x vs[0] rfl (by simp[ar]));obtain⟨bb,aq,aH⟩:=OC (P:=P) rel ca (ay 1 y vs[1] rfl (by simp[ar]));obtain⟨a2,b7⟩:=ajC aI ax;refine⟨.int .i64 (oV a b),?_,.int _ _⟩;rw[nh];have b2:fn.name≠ "runtime.NumGoroutine":=by rw[aI]; decide
   have ai:=aFN.1 ai;have tQ:Extern.BytealgCompare.compare #[vs[0],vs[1]]=(do pure (goInt (Extern.BytealgCompare.cmp (<-Extern.Bytes.bytesOf vs[0]) (<-Extern.Bytes.bytesOf vs[1])))) :=rfl;simp[callFunc,aL,b2,ai,a2,b7,mark,Sem.run,tQ,h1,aq,y9,ag,aH,goInt]
  ·cases ak
 ·cases ak
end

section
variable {P:Program} {w:World} {R:Nat->Prop} {B:Nat} {h:bh} {μ:dd}
inductive wO:Value->Value->Prop where
 | bool (a b:Bool) :wO (.bool a) (.bool b)
 | agg (a b:Array Value) :wO (.agg a) (.agg b)
 | slice (a:Option Addr) (l c:Nat) (fA:Option Addr) (l' c' : Nat) :wO (.slice a l c) (.slice fA l' c')
theorem ajf {d:Nat} {t:TypeId} {x y:ad} {b:Bool} {bY gG:Value} (au:fk P d t x y=some b) (al:aZ w R h μ x bY) (aE:aZ w R h μ y gG)
  (aB:∀ k a k' bK,x=.int k a->y=.int k' bK->False) (ap:∀ a bK,x=.str a->y=.str bK->False) :wO bY gG:=by
 cases d with
 | zero=>simp[fk] at au
 | succ d=>
  unfold fk at au;split at au
  ·cases al; cases aE; exact .bool _ _
  ·exact (aB _ _ _ _ rfl rfl).elim
  ·exact (ap _ _ rfl rfl).elim
  ·cases al; cases aE; exact .agg _ _
  ·cases al; cases aE; exact .agg _ _
  ·cases al; cases aE; exact .slice _ _ _ _ _ _
  ·cases al; cases aE<;>exact .slice _ _ _ _ _ _
  ·cases al; cases aE<;>exact .slice _ _ _ _ _ _
  ·cases al<;>cases aE<;>exact .slice _ _ _ _ _ _
  ·cases al<;>cases aE<;>exact .slice _ _ _ _ _ _
  ·cases au
theorem ajb {op:BinOp} {t:TypeId} {uw sX:Operand} {bY gG:Value} (ap:wO bY gG) (aA:∀ a b,bY=.agg a->gG=.agg b->P.eqGuardType P.depth t=false) :(eqGuard op t uw sX bY gG).run P w=.ok () w:=by
 cases ap with
 | bool a b=>cases op<;>rfl
 | agg a b=>exact run_eqGuard_agg w op t uw sX a b (aA a b rfl rfl)
 | slice=>cases op<;>rfl
theorem atW {t:TypeId} {bY gG:Value} {b:Bool} (ap:wO bY gG) (gM:(Op.equalIn 10000 t bY gG).run P w=.ok b w) :
  (binOp .eql t bY gG).run P w=.ok (.bool b) w/\(binOp .neq t bY gG).run P w=.ok (.bool (!b)) w:=by
 have bD:(Op.equal t bY gG).run P w=.ok b w:=gM;cases ap<;>constructor<;>simp[binOp,bD]
theorem aja {op:BinOp} {t:TypeId} {uw sX:Operand} {k k' : IntKind} {a b:Int}:(eqGuard op t uw sX (.int k a) (.int k' b)).run P w=.ok () w:=by
 cases op<;>rfl
theorem ajc {op:BinOp} {t:TypeId} {uw sX:Operand} {a b:ByteArray}:(eqGuard op t uw sX (.string a) (.string b)).run P w=.ok () w:=by
 cases op<;>rfl
theorem aeB {op:BinOp} {t:TypeId} {uw sX:Operand} {x y c:ad} {bY gG:Value} (ak:gu P op t x y=some c) (al:aZ w R h μ x bY) (aE:aZ w R h μ y gG) :
  ∃ v,((do eqGuard op t uw sX bY gG; binOp op t bY gG:Sem Value)).run P w=.ok v w/\aZ w R h μ c v:=by
 unfold gu at ak;split at ak
 ·cases al; cases aE;obtain⟨v,h1,ag⟩:=aeC (P:=P) (w:=w) (R:=R) (h:=h) (μ:=μ) (t:=t) ak;exact⟨v,by simp[aja,h1],ag⟩
 ·cases al; cases aE;obtain⟨v,h1,ag⟩:=aeD (P:=P) (w:=w) (R:=R) (h:=h) (μ:=μ) (t:=t) ak;exact⟨v,by simp[ajc,h1],ag⟩
 ·rename_i amb sB;have key:∀ b,xc P t x y=true->fk P 10000 t x y=some b->wO bY gG/\(eqGuard op t uw sX bY gG).run P w=.ok () w ∧
    (binOp .eql t bY gG).run P w=.ok (.bool b) w/\(binOp .neq t bY gG).run P w=.ok (.bool (!b)) w:=by
   intro b fa au;have pi:=ajf au al aE amb sB;have aA:∀ a b,bY=.agg a->gG=.agg b->P.eqGuardType P.depth t=false:=by
    rintro a b rfl rfl;cases al with
    | aM cs _ _ _ _=>
     cases aE with
     | aM cs' _ _ _ _=>simpa [xc] using fa
     | bad=>simp[fk] at au
    | bad=>cases aE<;>simp[fk] at au
   have bD:=IP 10000 t x y b bY gG au al aE;obtain⟨cn,cc⟩:=atW pi bD;exact⟨pi,ajb pi aA,cn,cc⟩
  split at ak
  ·split at ak
   ·rename_i fa;cases au:fk P 10000 t x y with
    | none=>rw[au] at ak; cases ak
    | some b=>
     rw[au] at ak;simp only[aCR,Option.some.injEq] at ak; subst ak;obtain⟨_,cn,cc,_⟩:=key b fa au;exact⟨.bool b,by simp[cn,cc],.bool _⟩
   ·cases ak
  ·split at ak
   ·rename_i fa;cases au:fk P 10000 t x y with
    | none=>rw[au] at ak; cases ak
    | some b=>
     rw[au] at ak;simp only[aCR,Option.some.injEq] at ak; subst ak;obtain⟨_,cn,_,cc⟩:=key b fa au;exact⟨.bool (!b),by simp[cn,cc],.bool _⟩
   ·cases ak
  ·cases ak
theorem avw {op:UnOp} {x c:ad} {bY:Value} (ak:rL op x=some c) (al:aZ w R h μ x bY) :∃ v,(Op.unary op bY).run P w=.ok v w/\aZ w R h μ c v:=by
 unfold rL at ak;split at ak
 ·simp only[Option.some.injEq] at ak; subst ak;cases al;exact⟨_,by simp[Op.unary],.bool _⟩
 ·simp only[Option.some.injEq] at ak; subst ak;cases al;refine⟨_,?_,.int _ _⟩;simp only[Op.unary]; rfl
 ·simp only[Option.some.injEq] at ak; subst ak;cases al;refine⟨_,?_,.int _ _⟩;simp only[Op.unary]; rfl
 ·cases ak
theorem LU {aN:Operand->ad} {eM:Operand->Value} (dy:∀ x,aZ w R h μ (aN x) (eM x)) (o:Option Operand) :wT w R h μ (o.map aN) (o.map eM) :=by
 cases o with
 | none=>trivial
 | some x=>exact dy x
def Bi (P:Program) (R:Nat->Prop) (B:Nat) (w:World) (h:bh) (μ:dd) (r:Result Next) :pH->Prop
 | .val c h'=>Good R B w h μ r c h'
 | .call f args h'=>h'=h/\∃ vs:Array Value,r=.ok (.enter f vs) w/\vs.size=args.length/\∀ (j:Nat) (c:ad) (v:Value),args[j]? = some c->vs[j]? = some v->aZ w R h μ c v
theorem Good.mk {r:Result Next} {c:ad} {h' : bh} {v:Value} {w' : World} {μ' : dd} (aC:r=.ok (.value v) w') (au:ej w h μ w' h' μ') (ar:cp R B w' h' μ') (ay:aZ w' R h' μ' c v) :Good R B w h μ r c h':=
 ⟨v,w',μ',.inl aC,au,ar,ay⟩
theorem aeX (rel:cp R B w h μ) {b:Builtin} {ts:Array TypeId} {ty:TypeId} {consts:Array Bool} {args:List ad} {vs:Array Value} {r:pH} (ap:pL P h b ts.toList args=some r)
  (ar:vs.size=args.length) (ay:∀ (j:Nat) (c:ad) (v:Value),args[j]? = some c->vs[j]? = some v->aZ w R h μ c v) :Bi P R B w h μ ((builtin b ts ty consts vs).run P w) r:=by
 have one:∀ x,args=[x]->∃ bY,vs=#[bY]/\aZ w R h μ x bY:=by
  intro x al;subst al;simp only[aC6,aDx] at ar;refine⟨vs[0],?_,ay 0 x _ rfl (by simp[ar])⟩;apply Array.ext
  ·simpa using ar
  ·intro i h1 ag;have:i=0:=by omega
   subst this; rfl
 have two:∀ x y,args=[x,y]->∃ bY gG,vs=#[bY,gG]/\aZ w R h μ x bY/\aZ w R h μ y gG:=by
  intro x y al;subst al;simp only[aC6,aDx] at ar;refine⟨vs[0],vs[1],?_,ay 0 x _ rfl (by simp[ar]),ay 1 y _ rfl (by simp[ar])⟩;apply Array.ext
  ·simpa using ar
  ·intro i h1 ag;rcases (show i=0\/i=1 by simp at ag; omega) with rfl | rfl<;>rfl
 have Ia:∀ t,ts.toList=[t]->ts=#[t] :=fun t aQ=>by apply Array.toList_inj.1; simpa using aQ
 have Ob:∀ t u,ts.toList=[t,u]->ts=#[t,u] :=fun t u aQ=>by apply Array.toList_inj.1; simpa using aQ
 unfold pL at ap;split at ap
 ·rename_i t x l6;obtain⟨bY,rfl,al⟩:=one x rfl;obtain rfl:=Ia t l6;split at ap
  ·rename_i c ak;simp only[Option.some.injEq] at ap; subst ap;obtain⟨v,h1,ag⟩:=aol (P:=P) (ty:=ty) rel ak al;exact Good.mk (by simp[builtin,h1]) (.refl _ _ _) rel ag
  cases ak:ye P t x with
  | none=>rw[ak] at ap; cases ap
  | some c=>
   rw[ak] at ap;simp only[aCR,Option.some.injEq] at ap; subst ap;obtain⟨v,h1,ag⟩:=aom (P:=P) (u:=t) (ty:=ty) ak al;exact Good.mk (by simp[builtin,h1]) (.refl _ _ _) rel ag
 ·rename_i t u s x l6;obtain⟨af,bY,rfl,vK,al⟩:=two s x rfl;obtain rfl:=Ob t u l6;split at ap
  ·rename_i k aS;cases ak:Bn P h t s x with
   | none=>rw[ak] at ap; cases ap
   | some c=>
    obtain⟨c,h'⟩:=c;rw[ak] at ap;simp only[aCR,Option.some.injEq] at ap; subst ap;obtain⟨v,w',μ',h1,ag,aq,aH⟩:=aes (ty:=ty) rel aS ak vK al;exact Good.mk (by simp[builtin,h1]) ag aq aH
  ·cases ap
  ·rename_i ri qc;cases ak:r2 P h t s x with
   | none=>rw[ak] at ap; cases ap
   | some c=>
    obtain⟨c,h'⟩:=c;rw[ak] at ap;simp only[aCR,Option.some.injEq] at ap; subst ap;have aS:AH P u:=by
     cases bX:P.underlying u with
     | none=>exact absurd bX qc
     | some d=>exact⟨d,bX,fun k hk=>ri k (by rw[bX,hk])⟩
    obtain⟨v,w',μ',h1,ag,aq,aH⟩:=H9 (ty:=ty) rel aS ak vK al;exact Good.mk (by simp[builtin,h1]) ag aq aH
 ·rename_i t u d x l6;obtain⟨IE,bY,rfl,bX,al⟩:=two d x rfl;obtain rfl:=Ob t u l6;cases ak:za P h t d x with
  | none=>rw[ak] at ap; cases ap
  | some c=>
   obtain⟨c,h'⟩:=c;rw[ak] at ap;simp only[aCR,Option.some.injEq] at ap; subst ap;obtain⟨v,w',h1,ag,aq,aH⟩:=aiG (u:=u) (ty:=ty) rel ak bX al;exact Good.mk (by simp[builtin,h1]) ag aq aH
 ·rename_i t x l6;obtain⟨bY,rfl,al⟩:=one x rfl;obtain rfl:=Ia t l6;cases ak:y6 P t x with
  | none=>rw[ak] at ap; cases ap
  | some c=>
   rw[ak] at ap;simp only[aCR,Option.some.injEq] at ap; subst ap;obtain⟨v,h1,ag⟩:=aia (P:=P) (ty:=ty) ak al;exact Good.mk (by simp[builtin,h1]) (.refl _ _ _) rel ag
 ·rename_i t x l6;obtain⟨bY,rfl,al⟩:=one x rfl;obtain rfl:=Ia t l6;cases ak:y8 P h t x with
  | none=>rw[ak] at ap; cases ap
  | some h'=>
   rw[ak] at ap;simp only[aCR,Option.some.injEq] at ap; subst ap;obtain⟨w',h1,ag,aq⟩:=ail (P:=P) (ty:=ty) rel ak al;exact Good.mk (v:=.tuple #[]) (by simp[builtin,h1]) ag aq (.b5 [] #[] rfl (fun _ _ _ aR=>by simp at aR))
 ·rename_i x y;obtain⟨bY,gG,rfl,al,aE⟩:=two x y rfl;cases ak:Dl x y with
  | none=>rw[ak] at ap; cases ap
  | some c=>
   rw[ak] at ap;simp only[aCR,Option.some.injEq] at ap; subst ap;unfold Dl at ak;split at ak
   ·split at ak
    ·rename_i hk; subst hk;simp only[Option.some.injEq] at ak; subst ak;cases al; cases aE;refine Good.mk (v:=.int _ _) ?_ (.refl _ _ _) rel (.int _ _);simp[builtin,Builtin.min_,Builtin.min2]
    ·cases ak
   ·cases ak
 ·rename_i x y;obtain⟨bY,gG,rfl,al,aE⟩:=two x y rfl;cases ak:v2 x y with
  | none=>rw[ak] at ap; cases ap
  | some c=>
   rw[ak] at ap;simp only[aCR,Option.some.injEq] at ap; subst ap;unfold v2 at ak;split at ak
   ·split at ak
    ·rename_i hk; subst hk;simp only[Option.some.injEq] at ak; subst ak;cases al; cases aE;refine Good.mk (v:=.int _ _) ?_ (.refl _ _ _) rel (.int _ _);simp[builtin,Builtin.max_,Builtin.max2]
    ·cases ak
   ·cases ak
 ·cases ap
theorem RM {f:FuncId} {fn:Func} {vs:Array Value} (aL:P.funcs[f]? = some fn) (ai:fn.body.isSome=true) (aI:fn.name≠ "runtime.NumGoroutine") :(callFunc f vs).run P w=.ok (.enter f vs) w:=by
 have ca:fn.body≠none:=fun aR=>by rw[aR] at ai; cases ai
 simp[callFunc,aL,aI,ca]
theorem Lx {aN:Operand->ad} {eM:Operand->Value} (dy:∀ x,aZ w R h μ (aN x) (eM x)) (xs:Array Operand) :
  ∀ (j:Nat) (c:ad) (v:Value),(xs.toList.map aN)[j]? = some c->(xs.map eM)[j]? = some v->aZ w R h μ c v:=by
 intro j c v am ay;rw[aCO] at am;rw[aFa] at ay;cases ax:xs[j]? with
 | none=>simp[ax] at ay
 | some o=>
  simp[ax] at am ay;subst am ay;exact dy o
theorem aoG {t:TypeId} {name:String} {g:FuncId} (hm:AE P t name=some g) (u:Value) :(Go.method (P.types.size+Made.depth) t u name).run P w=.ok (g,u) w:=by
 unfold AE at hm;split at hm
 ·cases hm
 ·cases hm
 ·rename_i Ad KK;split at hm
  ·rename_i i aB;split at hm
   ·rename_i m aL;split at hm
    ·rename_i f aF m6;cases hm;obtain⟨k,hk⟩:∃ k,P.types.size+Made.depth=k+1:=⟨P.types.size+Made.depth - 1,by unfold Made.depth; omega⟩
     rw[hk];cases bX:P.underlying t with
     | none=>exact absurd bX KK
     | some d=>
      have aza:m.path=#[] :=Array.toList_eq_nil_iff.1 aF;cases d<;>first
       | (exfalso; exact Ad _ bX)
       | simp[Go.method,typeInfo,aB,aL,aF,m6,follow,receiverAt,cZ bX,Place.get]
    ·cases hm
   ·cases hm
  ·cases hm
theorem au3 {t NB:TypeId} {ok:Bool} {z c x:ad} {v:Value} (az:Hy P t=some z) (ak:D4 t z ok x=some c) (al:aZ w R h μ x v) :
  ∃ bl,(Instr.typeAssert v NB t ok).run P w=.ok bl w/\aZ w R h μ c bl:=by
 unfold Hy at az;split at az
 ·cases az
 ·cases az
 ·rename_i Ad KK;cases bX:P.underlying t with
  | none=>exact absurd bX KK
  | some d=>
   obtain⟨zv,sH,l8⟩:=adp (P:=P) (w:=w) (R:=R) (h:=h) (μ:=μ) az;have two:∀ (a:ad) (iU:Value) (q:Bool),aZ w R h μ a iU->aZ w R h μ (.b5 [a,.bool q]) (.tuple #[iU,.bool q]) :=by
    intro a iU q aD;refine .b5 _ _ rfl (fun j c v am ay=>?_)
    match j,am,ay with
    | 0,am,ay=>simp at am ay; subst am ay; exact aD
    | 1,am,ay=>simp at am ay; subst am ay; exact .bool q
    | j+2,am,ay=>simp at am
   cases x<;>simp only[D4] at ak<;>try (cases ak; done)
   case j4=>
    cases al;cases ok<;>simp only at ak<;>cases ak;refine⟨.tuple #[zv,.bool false],?_,two _ _ _ l8⟩;cases d<;>first
     | (exfalso; exact Ad _ bX)
     | simp[Instr.typeAssert,cZ bX,sH]
   case hD gP wY=>
    cases al with
    | hD _ _ u aS=>
     split at ak
     ·rename_i aQ;have aQ:=aDP aQ;subst aQ;cases ok<;>simp only at ak<;>cases ak
      ·refine⟨u,?_,aS⟩;cases d<;>first
        | (exfalso; exact Ad _ bX)
        | simp[Instr.typeAssert,cZ bX]
      ·refine⟨.tuple #[u,.bool true],?_,two _ _ _ aS⟩;cases d<;>first
        | (exfalso; exact Ad _ bX)
        | simp[Instr.typeAssert,cZ bX]
     ·rename_i aQ;have aQ:gP≠t:=fun h=>by rw[h,aFP] at aQ; cases aQ
      cases ok<;>simp only at ak<;>cases ak;refine⟨.tuple #[zv,.bool false],?_,two _ _ _ l8⟩;cases d<;>first
       | (exfalso; exact Ad _ bX)
       | simp[Instr.typeAssert,cZ bX,sH,aQ]
theorem ah6 (rel:cp R B w h μ) {aN:Operand->ad} {eM:Operand->Value} (dy:∀ x,aZ w R h μ (aN x) (eM x)) {c:Call} {ty:TypeId} {r:pH} (ap:va P h aN c=some r) :
  Bi P R B w h μ ((do let d <-resolve eM c ty; invoke d.target d.args:Sem Next).run P w) r:=by
 unfold va at ap;split at ap
 ·rename_i b ai;have:=fun consts=>aeX (P:=P) (b:=b) (ts:=c.argTypes) (ty:=ty) (consts:=consts) (args:=c.args.toList.map aN) (vs:=c.args.map eM) rel ap (by simp)
   (fun j x v am ay=>by
    rw[aCO] at am;rw[aFa] at ay;cases ax:c.args[j]? with
    | none=>simp[ax] at ay
    | some o=>
     simp[ax] at am ay;subst am ay;exact dy o)
  simp only[resolve,ai,Sem.run_bind,Sem.run_pure,Result.andThen_ok,invoke];exact this _
 ·rename_i f aL;split at ap
  ·rename_i g first gQ m6
   have ay:=dy f;rw[m6] at ay;cases vA:eM f with
   | func ayg fs cs=>
    rw[vA] at ay;cases ay with
    | fn _ _ _ _ _ h1 ag aq aH=>
     split at ap
     ·rename_i fn zP;have Fq:∀ (j:Nat) (x:ad) (v:Value),(first++c.args.toList.map aN++gQ)[j]? = some x->(fs++c.args.map eM++cs)[j]? = some v->aZ w R h μ x v:=by
       intro j x v am j0;by_cases qa:j<first.length
       ·rw[aDa,aCK qa] at am;rw[aE9,aDZ (by omega)] at j0;exact aq j x v am j0
       ·by_cases pd:j<first.length+c.args.size
        ·rw[aCK (by simp; omega),aCT (by omega),aCO] at am;rw[aDZ (by simp; omega),aE0 (by omega),aFa,h1] at j0;cases ax:c.args[j - first.length]? with
         | none=>simp[ax] at j0
         | some o=>
          simp[ax] at am j0;subst am j0;exact dy o
        ·rw[aCT (by simp; omega)] at am;rw[aE0 (by simp; omega)] at j0;refine aH _ x v am ?_;simpa [h1] using j0
      split at ap
      ·rename_i kf;simp only[Option.some.injEq] at ap; subst ap;refine⟨rfl,fs++c.args.map eM++cs,?_,by simp[h1,ag],Fq⟩;simp[resolve,aL,vA,Deferred.ofValue,invoke,RM zP kf.1 kf.2]
      ·split at ap
       ·rename_i tQ;cases dM:BA h (first++c.args.toList.map aN++gQ) with
        | none=>rw[dM] at ap; cases ap
        | some axq=>
         rw[dM] at ap;simp only[aCR,Option.some.injEq] at ap; subst ap;obtain⟨v,a2,b7⟩:=ajp (P:=P) (vs:=fs++c.args.map eM++cs) rel zP tQ dM (by simp[h1,ag]) Fq;rw[aE9] at a2;exact Good.mk (by simp[resolve,aL,vA,Deferred.ofValue,invoke,a2]) (.refl _ _ _) rel b7
       ·cases ap
     ·cases ap
   | _=>rw[vA] at ay; cases ay
  ·cases ap
 ·rename_i x name ak;split at ap
  ·rename_i t v0 al;have ay:=dy x;rw[al] at ay;split at ap
   ·rename_i g hm;split at ap
    ·rename_i fn zP;split at ap
     ·rename_i kf;simp only[Option.some.injEq] at ap; subst ap;cases vA:eM x with
      | iface gP u=>
       rw[vA] at ay;cases ay with
       | hD _ _ _ aS=>
        refine⟨rfl,#[u]++c.args.map eM,?_,by simp; omega,?_⟩
        ·have al5:=aoG (P:=P) (w:=w) hm u;have aG:(#[Value.iface t u]++c.args.map eM)[0]? = some (Value.iface t u) :=by rw[aDZ (by simp)]; rfl
         have h6:(c.args.map eM).extract 0 c.args.size=c.args.map eM:=by
          apply Array.ext';simp[aCI]
         simp[aG,h6,resolve,ak,vA,invoke,callMethod,al5,RM zP kf.1 kf.2]
        ·intro j x v am j0;cases j with
         | zero=>
          rw[aDZ (by simp)] at j0;simp at am j0; subst am j0; exact aS
         | succ j=>
          rw[aDz] at am;rw[aE0 (by simp)] at j0;exact Lx dy c.args j x v am (by simpa using j0)
      | _=>rw[vA] at ay; cases ay
     ·cases ap
    ·cases ap
   ·cases ap
  ·cases ap
theorem L3 {aN:Operand->ad} {eM:Operand->Value} (dy:∀ x,aZ w R h μ (aN x) (eM x)) (di:Array (Nat × Operand)) :
  (di.map fun (i,x)=>(i,eM x)).size=(di.toList.map fun p=>(p.1,aN p.2)).length ∧
  ∀ (j:Nat) (p:Nat × ad) (ch:Nat × Value),(di.toList.map fun p=>(p.1,aN p.2))[j]? = some p->(di.map fun (i,x)=>(i,eM x))[j]? = some ch->ch.1=p.1/\aZ w R h μ p.2 ch.2:=by
 refine⟨by simp,fun j p ch am fp=>?_⟩;rw[aCO] at am;rw[aFa] at fp;cases ax:di[j]? with
 | none=>simp[ax] at fp
 | some o=>
  simp[ax] at am fp;subst am fp;exact⟨rfl,dy o.2⟩
theorem MP (rel:cp R B w h μ) {aN:Operand->ad} {eM:Operand->Value} (dy:∀ x,aZ w R h μ (aN x) (eM x)) (o:Oper) {r:pH} (ap:dw P h aN o.op=some r) :
  Bi P R B w h μ ((execOp eM o).run P w) r:=by
 obtain⟨dst,op,type,pos,after,guard⟩:=o;have pq:∀ {x:Option ad} {m:Sem Value},(∀ c,x=some c->∃ v,m.run P w=.ok v w/\aZ w R h μ c v)->x.map (fun y=>pH.val y h)=some r->
   Bi P R B w h μ ((do pure (.value (<-m)) :Sem Next).run P w) r:=by
  intro x m al aC;cases jz:x with
  | none=>rw[jz] at aC; cases aC
  | some c=>
   rw[jz] at aC;simp only[aCR,Option.some.injEq] at aC; subst aC;obtain⟨v,h1,ag⟩:=al c jz;exact Good.mk (by simp[h1]) (.refl _ _ _) rel ag
 have GU:∀ {x:Option (ad × bh)} {m:Sem Value},(∀ c h',x=some (c,h')->∃ v w' μ',m.run P w=.ok v w'/\ej w h μ w' h' μ'/\cp R B w' h' μ'/\aZ w' R h' μ' c v)->x.map (fun y=>pH.val y.1 y.2)=some r->
   Bi P R B w h μ ((do pure (.value (<-m)) :Sem Next).run P w) r:=by
  intro x m al aC;cases jz:x with
  | none=>rw[jz] at aC; cases aC
  | some c=>
   obtain⟨c,h'⟩:=c;rw[jz] at aC;simp only[aCR,Option.some.injEq] at aC; subst aC;obtain⟨v,w',μ',h1,ag,aq,aH⟩:=al c h' jz;exact Good.mk (by simp[h1]) ag aq aH
 cases op
 case move x=>
  simp only[dw,Option.some.injEq] at ap; subst ap;exact Good.mk (by simp[execOp]) (.refl _ _ _) rel (dy x)
 case assign x=>
  simp only[dw,Option.some.injEq] at ap; subst ap;exact Good.mk (by simp[execOp]) (.refl _ _ _) rel (dy x)
 case pick c a b=>
  simp only[dw] at ap;have kY:=dy c;cases ak:aN c<;>rw[ak] at ap kY<;>simp only at ap<;>try (cases ap; done)
  simp only[Option.some.injEq] at ap; subst ap;cases ay:eM c<;>rw[ay] at kY<;>try (cases kY; done)
  cases kY;rename_i t;cases t
  ·exact Good.mk (v:=eM b) (by simp[execOp,ay,asBool]) (.refl _ _ _) rel (by simpa using dy b)
  ·exact Good.mk (v:=eM a) (by simp[execOp,ay,asBool]) (.refl _ _ _) rel (by simpa using dy a)
 case alloc t=>
  simp only[dw] at ap;cases az:ia P t with
  | none=>rw[az] at ap; cases ap
  | some z=>
   rw[az] at ap;simp only[aCR,Option.some.injEq] at ap; subst ap;obtain⟨v,ay,aC⟩:=wM (P:=P) (w:=w) (R:=R) (h:=h) (μ:=μ) az;obtain⟨br,bI,a3⟩:=Eo rel (cs:=z) (vs:=v.cells) t aC.1 aC.2;exact Good.mk (by simp[execOp,Instr.alloc,ay,newVar,newRow]) br bI (a3 0)
 case box t x=>
  simp only[dw] at ap;cases az:(aN x).cells with
  | none=>rw[az] at ap; cases ap
  | some z=>
   rw[az] at ap;simp only[aCR,Option.some.injEq] at ap; subst ap;obtain⟨cn,cc⟩:=ED (dy x) az;obtain⟨br,bI,a3⟩:=Eo rel (cs:=z) (vs:=(eM x).cells) t cn cc;exact Good.mk (by simp[execOp,Instr.box,newVar,newRow]) br bI (a3 0)
 case build t parts=>
  obtain⟨cn,cc⟩:=L3 dy parts;exact pq (fun c ak=>aeV ak cn cc) ap
 case buildSlice t len parts=>
  obtain⟨cn,cc⟩:=L3 dy parts;exact GU (fun c h' ak=>aeU rel ak cn cc) ap
 case load t a=>exact pq (fun c ak=>Xr rel ak (dy a)) ap
 case store t a x=>
  simp only[dw] at ap;cases cL:A2 P h t (aN a) (aN x) with
  | none=>rw[cL] at ap; cases ap
  | some h'=>
   rw[cL] at ap;simp only[aCR,Option.some.injEq] at ap; subst ap;obtain⟨w',h1,ag,aq⟩:=auR (P:=P) rel cL (dy a) (dy x);exact⟨undef,w',μ,.inr ⟨by simp[execOp,h1],rfl⟩,ag,aq,.b5 [] #[] rfl (fun _ _ _ aR=>by simp at aR)⟩
 case nilCheck x=>
  simp only[dw] at ap;have ay:=dy x;cases ak:aN x<;>rw[ak] at ap ay<;>simp only at ap<;>try (cases ap; done)
  all_goals
   simp only[Option.some.injEq] at ap; subst ap;cases al:eM x<;>rw[al] at ay<;>try (cases ay; done)
   rename_i y;refine Good.mk (v:=eM x) ?_ (.refl _ _ _) rel (by rw[al]; exact ay);cases ay<;>simp[execOp,al]
 case binOp op t x y aCG=>exact pq (fun c ak=>aeB ak (dy x) (dy y)) ap
 case unOp op t x=>exact pq (fun c ak=>avw ak (dy x)) ap
 case convert s d x=>
  simp only[dw] at ap;split at ap
  ·rename_i c ak;simp only[Option.some.injEq] at ap; subst ap;obtain⟨v,w',h1,ag,aq,aH⟩:=aeZ rel ak (dy x);exact Good.mk (by simp[execOp,h1]) ag aq aH
  ·exact pq (fun c ak=>aiE rel ak (dy x)) ap
 case makeInterface t x=>
  simp only[dw] at ap;cases aS:P.underlying t with
  | none=>rw[aS] at ap; cases ap
  | some d=>
   rw[aS] at ap;cases d<;>simp only at ap<;>try (cases ap; done)
   all_goals
    simp only[Option.some.injEq] at ap; subst ap;exact Good.mk (v:=.iface t (eM x)) (by simp[execOp,Instr.makeInterface,cZ aS]) (.refl _ _ _) rel (.hD t _ _ (dy x))
 case makeFunc fn first gQ=>
  cases fn<;>simp only[dw] at ap<;>try (cases ap; done)
  simp only[Option.some.injEq] at ap; subst ap;exact Good.mk (by simp[execOp,Instr.makeFunc]) (.refl _ _ _) rel (.fn _ _ _ _ _ (by simp) (by simp) (Lx dy first) (Lx dy gQ))
 case makeSlice t l c=>exact GU (fun c' h' ak=>aoC rel ak (dy l) (dy c)) ap
 case slice t x dn aB dg=>exact pq (fun c ak=>aur rel ak (dy x) (LU dy dn) (LU dy aB) (LU dy dg)) ap
 case fieldAddr s x f=>exact pq (fun c ak=>ajx ak (dy x)) ap
 case field t x f=>
  simp only[dw] at ap;split at ap
  ·rename_i cs fd al aL;have ay:=dy x;rw[al] at ay;exact pq (fun c ak=>ajy aL ak ay) ap
  ·cases ap
 case indexAddr t x i=>exact pq (fun c ak=>anf ak (dy x) (dy i)) ap
 case index t x i=>exact pq (fun c ak=>K2 ak (dy x) (dy i)) ap
 case extract x i=>
  simp only[dw] at ap;have ay:=dy x;cases ak:aN x<;>rw[ak] at ap ay<;>simp only at ap<;>try (cases ap; done)
  rename_i vs;cases al:eM x<;>rw[al] at ay<;>try (cases ay; done)
  rename_i arr;cases ay with
  | b5 _ _ ar KP=>
   refine pq (m:=Instr.extract (eM x) i) (fun c ak=>?_) ap;have aP:i<arr.size:=by rw[ar]; exact (aCJ.1 ak).1
   exact⟨arr[i],by simp[Instr.extract,al,aP],KP i c _ ak (by simp[aP])⟩
 case call c=>exact ah6 rel dy ap
 case makeMap t r=>
  simp only[dw] at ap;split at ap
  ·rename_i k e aS aC;simp only[Option.some.injEq] at ap; subst ap;obtain⟨v,w',μ',h1,ag,aq,aH⟩:=aoB (P:=P) (t:=t) (r:=r.map eM) rel ⟨_,_,aS⟩ (fun x al=>by
    cases r with
    | none=>cases al
    | some o=>
     simp only[aCR,Option.some.injEq] at al; subst al;simp only at aC;cases aB:asInt (aN o) with
     | none=>rw[aB] at aC; cases aC
     | some n=>
      obtain⟨k,hk⟩:=r3 aB (dy o);exact⟨k,n,hk⟩)
   exact Good.mk (by simp[execOp,h1]) ag aq aH
  ·cases ap
 case lookup t m k ok=>exact pq (fun c ak=>aov rel ak (dy m) (dy k)) ap
 case mapUpdate t m k x=>
  simp only[dw] at ap;cases cL:yi P h t (aN m) (aN k) (aN x) with
  | none=>rw[cL] at ap; cases ap
  | some h'=>
   rw[cL] at ap;simp only[aCR,Option.some.injEq] at ap; subst ap;obtain⟨w',h1,ag,aq⟩:=Xw (P:=P) rel cL (dy m) (dy k) (dy x);exact⟨undef,w',μ,.inr ⟨by simp[execOp,h1],rfl⟩,ag,aq,.b5 [] #[] rfl (fun _ _ _ aR=>by simp at aR)⟩
 case insert t m k x=>
  simp only[dw] at ap;cases cL:yi P h t (aN m) (aN k) (aN x) with
  | none=>rw[cL] at ap; cases ap
  | some h'=>
   rw[cL] at ap;simp only[aCR,Option.some.injEq] at ap; subst ap;obtain⟨w',h1,ag,aq⟩:=Xw (P:=P) rel cL (dy m) (dy k) (dy x);exact⟨undef,w',μ,.inr ⟨by simp[execOp,h1],rfl⟩,ag,aq,.b5 [] #[] rfl (fun _ _ _ aR=>by simp at aR)⟩
 case range t x=>exact GU (fun c h' ak=>ato rel ak (dy x)) ap
 case next it isS=>
  cases isS with
  | false=>simp only[dw] at ap; cases ap
  | true=>exact GU (fun c h' ak=>by obtain⟨v,w',h1,ag,aq,aH⟩:=aoM (P:=P) (ty:=type) rel ak (dy it); exact⟨v,w',μ,h1,ag,aq,aH⟩) ap
 case typeAssert x NB t ok=>
  simp only[dw] at ap;split at ap
  ·rename_i z az;exact pq (fun c ak=>au3 az ak (dy x)) ap
  ·cases ap
 all_goals (simp only[dw] at ap; cases ap)
end
inductive uR where
 | normal
 | exit (id:Nat)
 | ret
def uR.out:uR->Exit
 | .normal=>.normal
 | .exit id=>.exit id
 | .ret=>.ret
def ll (ops:Array Oper) (ah:Nat->ad) (o:Oper) :Option Bool:=
 match o.guard with
 | none=>some true
 | some (j,Ba)=>match (ops[j]?).bind (·.dst) with
  | none=>some false
  | some d=>match ah d with
   | .bool b=>some (b == Ba)
   | .bad=>none
   | _=>some false
def h8 (ah:Nat->ad) (dst:Option Tmp) (c:ad) :Nat->ad:=match dst with | some d=>ck ah d c | none=>ah
def pU (N:Nat) (dst:Option Tmp) :Bool:=match dst with | some d=>decide (d<N) | none=>true
def AX (P:Program) (h:bh) (ah:Nat->ad) :ResultVar->Option ad
 | .tmp t=>some (ah t)
 | .cell a t=>sQ P h t (ah a)
def wr (P:Program) (h:bh) (ah:Nat->ad) :List ResultVar->Option (List ad)
 | []=>some []
 | r::DR=>match AX P h ah r,wr P h ah DR with
  | some v,some vs=>some (v::vs)
  | _,_=>none
def yI:List ad->ad
 | [v]=>v
 | vs=>.b5 vs
def Hj (P:Program) (h:bh) (ah:Nat->ad) (fn:Func) :Option ad:=(wr P h ah fn.results.toList).map yI
mutual
def ad.closed:ad->Bool
 | .aM cs=>a7 cs
 | .b5 cs=>a7 cs
 | .cm cs _=>a7 cs
 | .cr _ es=>Bx es
 | .fn _ a b=>a7 a&&a7 b
 | .hD _ v=>v.closed
 | .ptr .. | .av .. | .mp _ | .it _=>false
 | _=>true
def a7:List ad->Bool
 | []=>true
 | c::cs=>c.closed&&a7 cs
def Bx:List (List ad)->Bool
 | []=>true
 | c::cs=>a7 c&&Bx cs
end
def gc (w:World) (A:Nat->Prop) (c:ad) (v:Value) :Prop:=aZ w A bh.empty (fun _=>none) c v
structure yT (w w' : World) :Prop extends RowKit.Below w.heap.size w w' where
 drawn:w.drawn<=w'.drawn
def tg (G:Nat->ad) (w:World) (R:Nat->Prop) (h:bh) (μ:dd) :Prop:=∀ g,(G g).closed=true/\aZ w R h μ (G g) (.pointer (some ⟨g,0,none⟩))
def rT (P:Program) (G:Nat->ad) (f:FuncId) (args:List ad) (h:bh) (r:ad) (h' : bh) :Prop:=
 ∀ (R:Nat->Prop) (B:Nat) (w:World) (μ:dd) (vs:Array Value),cp R B w h μ->tg G w R h μ->vs.size=args.length->
  (∀ (j:Nat) (c:ad) (v:Value),args[j]? = some c->vs[j]? = some v->aZ w R h μ c v)->
  Calls P f vs w fun e w'=>∃ v μ',e=.returned v/\ej w h μ w' h' μ'/\cp R B w' h' μ'/\aZ w' R h' μ' r v
def bE (P:Program) (G:Nat->ad) (f:FuncId) (args:List ad) (r:ad) :Prop:=
 ∀ (w:World) (A:Nat->Prop) (vs:Array Value),(∀ g,gc w A (G g) (.pointer (some ⟨g,0,none⟩)))->vs.size=args.length->
  (∀ (j:Nat) (c:ad) (v:Value),args[j]? = some c->vs[j]? = some v->gc w A c v)->
  Calls P f vs w fun e w'=>∃ v,e=.returned v/\yT w w'/\gc w' (fun k=>A k\/w.heap.size<=k) r v
def pG (P:Program) (G:Nat->ad) (f:FuncId) (args:List ad) (r:ad) :Prop:=
 ∀ (w:World) (A:Nat->Prop) (vs:Array Value),(∀ g,gc w A (G g) (.pointer (some ⟨g,0,none⟩)))->vs.size=args.length->
  (∀ (j:Nat) (c:ad) (v:Value),args[j]? = some c->vs[j]? = some v->gc w A c v)->
  Calls P f vs w fun e w'=>∃ v,e=.returned v/\yT w w'/\gc w' (fun k=>w.heap.size<=k) r v
inductive gH (h:bh) :ad->ad->Prop
 | same (c:ad) (ak:c.closed=true) :gH h c c
 | aM (cs cs' : List ad) (ar:cs'.length=cs.length) (ay:∀ (j:Nat) (c c' : ad),cs[j]? = some c->cs'[j]? = some c'->gH h c c') :gH h (.aM cs) (.aM cs')
 | b5 (cs cs' : List ad) (ar:cs'.length=cs.length) (ay:∀ (j:Nat) (c c' : ad),cs[j]? = some c->cs'[j]? = some c'->gH h c c') :gH h (.b5 cs) (.b5 cs')
 | av (z b off len cap sz:Nat) (cs:List ad) (es:List (List ad)) (ai:h.f b=.cells sz cs) (ar:es.length=len) (az:∀ e∈es,e.length=z)
   (ea:off+len*z<=cs.length)
   (ay:∀ (i j:Nat) (e:List ad) (c c' : ad),es[i]? = some e->e[j]? = some c'->cs[off+(i*z+j)]? = some c->gH h c c') :gH h (.av z b off len cap sz) (.cr z es)
 | uI (z b off cap sz:Nat) :gH h (.av z b off 0 cap sz) (.cr z [])
 | ptr (b off sz:Nat) (cs cs' : List ad) (ai:h.f b=.cells sz cs) (ar:cs'.length=cs.length) (ay:∀ (j:Nat) (c c' : ad),cs[j]? = some c->cs'[j]? = some c'->gH h c c') :gH h (.ptr b off sz) (.cm cs' off)
mutual
def ad.flat:ad->Bool
 | .aM cs=>mn cs
 | .b5 cs=>mn cs
 | .hD _ v=>v.flat
 | .bool _ | .int .. | .str _ | .j5 | .aK | .iq | .jD | .j4=>true
 | _=>false
def mn:List ad->Bool
 | []=>true
 | c::cs=>c.flat&&mn cs
end
inductive Eg where
 | pure | new | g0
def nW (P:Program) (aN:Operand->ad) :Op->Option (List ad × (Nat->ad))
 | .alloc t=>(ia P t).map fun z=>(z,fun b=>.ptr b 0 z.length)
 | .box _ x=>(aN x).cells.map fun cs=>(cs,fun b=>.ptr b 0 cs.length)
 | .buildSlice t len parts=>match i7 P t with
  | some e=>match c5 P e,ia P e with
   | some z,some zero=>if zero.length=z/\len*z<=16777216 then
     (ii (fun i=>some (i*z,z)) (ey zero len) (parts.toList.map fun p=>(p.1,aN p.2))).map fun cs=>(cs,fun b=>.av z b 0 len len (len*z))
    else none
   | _,_=>none
  | none=>none
 | .makeSlice t l c=>match i7 P t,asInt (aN l),asInt (aN c) with
  | some e,some l,some c=>match c5 P e,jp P e,ia P e with
   | some z,some by_,some zero=>
    if zero.length=z/\0<=l/\l<=c/\c<9223372036854775808/\by_*c<=c4 then
     some (ey zero c.toNat,fun b=>.av z b 0 l.toNat c.toNat (c.toNat*z))
    else none
   | _,_,_=>none
  | _,_,_=>none
 | _=>none
def kq (ops:Array Oper) (t:Nat) :Option Nat:=(List.range ops.size).find? fun i=>match ops[i]? with | some o=>o.dst == some t | none=>false
def nD (ops:Array Oper) (pre:Nat->Nat->Bool) (val:Nat->ad) (ah:Nat->ad) (i:Nat) (o:Oper) :Nat->ad:=fun t=>
 if (o.looksAt ops).contains t then
  match kq ops t with
  | some j=>if pre i j then val j else ah t
  | none=>ah t
 else .bad
structure te (ops:Array Oper) (pre:Nat->Nat->Bool) :Prop where
 BK:∀ (i:Nat) (o:Oper) (e:Edge),ops[i]? = some o->e∈o.after->Region.binds .any e=true->e.on<i
 chain:∀ (i:Nat) (o:Oper) (j:Nat),ops[i]? = some o->pre i j=true->∃ e∈o.after,Region.binds .any e=true/\(e.on=j\/pre e.on j=true)
 one:∀ (i:Nat) (o:Oper) (t:Tmp),ops[i]? = some o->o.dst=some t->kq ops t=some i
 acc:∀ (i:Nat) (o:Oper) (t:Tmp) (j:Nat),ops[i]? = some o->t∈o.looksAt ops->kq ops t=some j->pre i j=true\/pre j i=true\/j=i
 aCf:Region.noSelect ops=true
def wi (h:bh) (l:List (List ad)) :bh:=l.foldl (fun h cs=>h.push (.cells cs.length cs)) h
def oL (h h' : bh) :Prop:=∃ l,h'=wi h l
theorem Yx:∀ (l:List (List ad)) (h:bh),(wi h l).n=h.n+l.length
 | [],h=>rfl
 | c::l,h=>by
  have:=Yx l (h.push (.cells c.length c));simp only[wi,List.foldl_cons,List.length_cons] at this ⊢;rw[this];simp only[eS,ga]; omega
theorem Yy:∀ (l:List (List ad)) (h:bh) (b:Nat),b<h.n->(wi h l).f b=h.f b
 | [],h,b,_=>rfl
 | c::l,h,b,ai=>by
  have:=Yy l (h.push (.cells c.length c)) b (by simp only[eS,ga]; omega);simp only[wi,List.foldl_cons] at this ⊢;rw[this];simp only[eS,ga];exact cB _ _ _ _ (by omega)
theorem Yw:∀ (l:List (List ad)) (h:bh),(∀ b,h.n<=b->h.f b=.none)->∀ b,(wi h l).n<=b->(wi h l).f b=.none
 | [],h,aL=>aL
 | c::l,h,aL=>by
  refine Yw l (h.push (.cells c.length c)) (fun b ai=>?_);simp only[eS,ga] at ai ⊢;rw[cB _ _ _ _ (by omega)];exact aL b (by omega)
theorem oL.n {h h' : bh} (g:oL h h') :h.n<=h'.n:=by obtain⟨l,rfl⟩:=g; rw[Yx]; omega
theorem oL.same {h h' : bh} (g:oL h h') (b:Nat) (ai:b<h.n) :h'.f b=h.f b:=by obtain⟨l,rfl⟩:=g; exact Yy l h b ai
theorem oL.fresh {h h' : bh} (g:oL h h') (aL:∀ b,h.n<=b->h.f b=.none) :∀ b,h'.n<=b->h'.f b=.none:=by obtain⟨l,rfl⟩:=g; exact Yw l h aL
inductive qP (h ag:bh) :ad->ad->Prop
 | same (c:ad) :qP h ag c c
 | aM (cs cs' : List ad) (ar:cs'.length=cs.length) (ay:∀ (j:Nat) (c c' : ad),cs[j]? = some c->cs'[j]? = some c'->qP h ag c c') :qP h ag (.aM cs) (.aM cs')
 | av (z b off len cap sz:Nat) (cs:List ad) (es:List (List ad)) (ai:h.f b=.cells sz cs) (bX:ag.f b=.dead) (ar:es.length=len) (az:∀ e∈es,e.length=z)
   (ea:off+len*z<=cs.length)
   (ay:∀ (i j:Nat) (e:List ad) (c c' : ad),es[i]? = some e->e[j]? = some c'->cs[off+(i*z+j)]? = some c->qP h ag c c') :qP h ag (.av z b off len cap sz) (.cr z es)
 | uI (z b off cap sz:Nat) :qP h ag (.av z b off 0 cap sz) (.cr z [])
structure qQ (h ag:bh) :Prop where
 n:ag.n=h.n
 blk:∀ b,ag.f b=h.f b\/∃ sz cs,h.f b=.cells sz cs/\(ag.f b=.dead\/∃ iF,ag.f b=.cells sz iF/\iF.length=cs.length/\∀ (j:Nat) (c dF:ad),cs[j]? = some c->iF[j]? = some dF->qP h ag c dF)
inductive J where
 | code (c:Code) (N:Nat) (ah:Nat->ad) (h:bh) (e:uR) (ci:Nat->ad) (h' : bh)
 | ops (all:Array Oper) (l:List Oper) (N:Nat) (ah:Nat->ad) (h:bh) (ci:Nat->ad) (h' : bh)
 | op (op:Op) (ah:Nat->ad) (h:bh) (v:ad) (h' : bh)
 | call (f:FuncId) (args:List ad) (h:bh) (r:ad) (h' : bh)
def zk (pre:Nat->Nat->Bool) (m:Nat) (ap:Nat->Nat) (i k:Nat) :Prop:=k<=m/\(∀ q,q<m->pre i (ap q)=true->q<k)/\∀ q,q<m->pre (ap q) i=true->k<=q
inductive dW (P:Program) (G:Nat->ad) :J->Prop where
 | skip (N ah h) :dW P G (.code .skip N ah h .normal ah h)
 | label (l N ah h) :dW P G (.code (.label l) N ah h .normal ah h)
 | ret (N ah h) :dW P G (.code .ret N ah h .ret ah h)
 | exit (id N ah h) :dW P G (.code (.exit id) N ah h (.exit id) ah h)
 | acr {a b N ah h jO h1 e ci h'}:dW P G (.code a N ah h .normal jO h1)->dW P G (.code b N jO h1 e ci h')->dW P G (.code (.seq a b) N ah h e ci h')
 | MI {a b N ah h e ci h'}:dW P G (.code a N ah h e ci h')->e≠.normal->dW P G (.code (.seq a b) N ah h e ci h')
 | cond {c x y N ah h b e ci h'}:ek G ah c=.bool b->dW P G (.code (if b then x else y) N ah h e ci h')->dW P G (.code (.cond c x y) N ah h e ci h')
 | Eu {id c N ah h e ci h'}:dW P G (.code c N ah h e ci h')->e≠.exit id->dW P G (.code (.block id c) N ah h e ci h')
 | Ot {id c N ah h ci h'}:dW P G (.code c N ah h (.exit id) ci h')->dW P G (.code (.block id c) N ah h .normal ci h')
 | AD {c N ah h jO h1 e ci h'}:dW P G (.code c N ah h .normal jO h1)->dW P G (.code (.loop c) N jO h1 e ci h')->dW P G (.code (.loop c) N ah h e ci h')
 | Ly {c N ah h e ci h'}:dW P G (.code c N ah h e ci h')->e≠.normal->dW P G (.code (.loop c) N ah h e ci h')
 | scope {c N ah h e ci h'}:dW P G (.code c N ah h e ci h')->dW P G (.code (.scope c) N ah h e ci h')
 | region {id ops N ah h ci h'}:dW P G (.ops ops ops.toList N ah h ci h')->dW P G (.code (.region id ops false) N ah h .normal ci h')
 | draw {id ops N ah h ci h'} (pre:Nat->Nat->Bool) (val:Nat->ad) (W:Nat->Bool) (cls:Nat->Eg) (m:Nat) (ap:Nat->Nat) (gp rW:Nat->bh) (ha:Nat->Nat) (cells:Nat->List ad)
   (hV:te ops pre)
   (p6:∀ (i:Nat) (o:Oper),ops[i]? = some o->pU N o.dst=true)
   (aG:oL h (gp 0)) (hm:h'=gp m) (Gi:ci=fun t=>match kq ops t with | some i=>val i | none=>ah t)
   (xJ:∀ (i:Nat) (o:Oper),ops[i]? = some o->W i=true->cls i=.g0->∃ q,q<m/\ap q=i)
   (Cp:∀ q,q<m->∃ o,ops[ap q]? = some o/\W (ap q)=true/\cls (ap q)=.g0)
   (nP:∀ q gf,q<m->gf<m->q<gf->pre (ap gf) (ap q)=true)
   (hO:∀ q gf,q<m->gf<m->ap q=ap gf->q=gf)
   (vO:∀ (i:Nat) (o:Oper),ops[i]? = some o->ll ops (nD ops pre val ah i o) o=some (W i))
   (z8:∀ (i:Nat) (o:Oper),ops[i]? = some o->W i=false->val i=jk)
   (F0:∀ (i:Nat) (o:Oper),ops[i]? = some o->W i=true->cls i=.pure->∀ k,zk pre m ap i k->dw P (gp k) (ek G (nD ops pre val ah i o)) o.op=some (.val (val i) (gp k)))
   (pf:∀ (i:Nat) (o:Oper),ops[i]? = some o->W i=true->cls i=.new->∃ mk,nW P (ek G (nD ops pre val ah i o)) o.op=some (cells i,mk)/\val i=mk (ha i)/\h.n<=ha i ∧
    ∀ k,zk pre m ap i k->(gp k).f (ha i)=.cells (cells i).length (cells i))
   (Fw:∀ (i j:Nat) (o eh:Oper),ops[i]? = some o->ops[j]? = some eh->W i=true->W j=true->cls i=.new->cls j=.new->ha i=ha j->i=j)
   (Fx:∀ (i:Nat) (o:Oper) (q:Nat),ops[i]? = some o->W i=true->cls i=.new->q<m->ha i<(gp q).n\/(rW q).n<=ha i)
   (p7:∀ q,q<m->oL (rW q) (gp (q+1)))
   (jv:∀ (q:Nat) (o:Oper),q<m->ops[ap q]? = some o->dW P G (.op o.op (nD ops pre val ah (ap q) o) (gp q) (val (ap q)) (rW q))) :
   dW P G (.code (.region id ops true) N ah h .normal ci h')
 | XZ {all N ah h}:dW P G (.ops all [] N ah h ah h)
 | X1 {all o l N ah h ci h'}:ll all ah o=some false->pU N o.dst=true->dW P G (.ops all l N (h8 ah o.dst jk) h ci h')->dW P G (.ops all (o::l) N ah h ci h')
 | X0 {all o l N ah h v h1 ci h'}:ll all ah o=some true->pU N o.dst=true->dW P G (.op o.op ah h v h1)->dW P G (.ops all l N (h8 ah o.dst v) h1 ci h')->dW P G (.ops all (o::l) N ah h ci h')
 | GY {op ah h v h'}:dw P h (ek G ah) op=some (.val v h')->dW P G (.op op ah h v h')
 | AM {op ah h f args h1 v h'}:dw P h (ek G ah) op=some (.call f args h1)->dW P G (.call f args h1 v h')->dW P G (.op op ah h v h')
 | HI {op ah h v h' ei ag}:dW P G (.op op ah h v h')->qQ h' ag->qP h' ag v ei->dW P G (.op op ah h ei ag)
 | inline {f fn c args h e ci h' r}:P.funcs[f]? = some fn->fn.body=some c->
   dW P G (.code c (args.length+(fn.ntmps - args.length)) (fun t=>args.getD t jk) h e ci h')->(e=.normal\/e=.ret)->Hj P h' ci fn=some r->dW P G (.call f args h r h')
 | pure {f args h r}:bE P G f args r->a7 args=true->dW P G (.call f args h r h)
 | Ys {f args kv h r}:bE P G f kv r->kv.length=args.length->(∀ (j:Nat) (c c' : ad),args[j]? = some c->kv[j]? = some c'->gH h c c')->r.flat=true->dW P G (.call f args h r h)
 | ext {f args h r h'}:rT P G f args h r h'->dW P G (.call f args h r h')
 | Yt {f args kv h r}:pG P G f kv r->kv.length=args.length->(∀ (j:Nat) (c c' : ad),args[j]? = some c->kv[j]? = some c'->gH h c c')->dW P G (.call f args h r h)
section
variable {P:Program} {G:Nat->ad}
structure ny (N:Nat) (w:World) (R:Nat->Prop) (h:bh) (μ:dd) (ah:Nat->ad) (a:Act) :Prop where
 size:a.tmps.size=N
 defers:a.defers=[]
 val:∀ t,aZ w R h μ (ah t) (a.tmps.getD t undef)
theorem tg.ext {w w' : World} {R:Nat->Prop} {h h' : bh} {μ μ' : dd} (g:tg G w R h μ) (e:ej w h μ w' h' μ') :tg G w' R h' μ':=fun i=>⟨(g i).1,(g i).2.ext e⟩
theorem ny.ext {N:Nat} {w w' : World} {R:Nat->Prop} {h h' : bh} {μ μ' : dd} {ah:Nat->ad} {a:Act} (s:ny N w R h μ ah a) (e:ej w h μ w' h' μ') :ny N w' R h' μ' ah a:=
 ⟨s.size,s.defers,fun t=>(s.val t).ext e⟩
theorem ny.ek {N:Nat} {w:World} {R:Nat->Prop} {h:bh} {μ:dd} {ah:Nat->ad} {a:Act} (s:ny N w R h μ ah a) (g:tg G w R h μ) (x:Operand) :aZ w R h μ (ek G ah x) (a.eval x) :=by
 cases x with
 | tmp t=>exact s.val t
 | const v=>exact aZ.wb v
 | global i=>exact (g i).2
 | func f=>exact .fn f [] [] #[] #[] rfl rfl (fun _ _ _ aR=>by simp at aR) (fun _ _ _ aR=>by simp at aR)
theorem Ng {w:World} {R:Nat->Prop} {h:bh} {μ:dd}:aZ w R h μ jk undef:=.b5 [] #[] rfl (fun _ _ _ aR=>by simp at aR)
theorem ny.put {N:Nat} {w:World} {R:Nat->Prop} {h:bh} {μ:dd} {ah:Nat->ad} {a:Act} (s:ny N w R h μ ah a) {dst:Option Tmp} (bX:pU N dst=true) {c:ad} {v:Value} (ay:aZ w R h μ c v) :
  ny N w R h μ (h8 ah dst c) (a.put dst v) :=by
 cases dst with
 | none=>exact s
 | some d=>
  have aP:d<a.tmps.size:=by rw[s.size]; simpa [pU] using bX
  refine⟨by simp[Act.put,s.size],s.defers,fun t=>?_⟩;simp only[h8,Act.put];by_cases aQ:t=d
  ·subst aQ;rw[kz];simp[aP];exact ay
  ·rw[cB _ _ _ _ aQ];have:=s.val t;simpa [Array.getElem?_setIfInBounds_ne (Ne.symm aQ)] using this
theorem Nv {w:World} {R:Nat->Prop} {h:bh} {μ:dd} {ops:Array Oper} {ah:Nat->ad} {tmps:Array Value} {o:Oper} {b:Bool} (hw:ll ops ah o=some b)
  (ay:∀ d,(∃ j Ba,o.guard=some (j,Ba)/\(ops[j]?).bind (·.dst)=some d)->aZ w R h μ (ah d) (tmps.getD d undef)) :Region.wanted o (yielded ops tmps)=b:=by
 unfold ll at hw;unfold Region.wanted;cases aA:o.guard with
 | none=>rw[aA] at hw; simpa using hw
 | some qr=>
  obtain⟨j,Ba⟩:=qr;rw[aA] at hw;simp only at hw ⊢;unfold yielded;cases bX:(ops[j]?).bind (·.dst) with
  | none=>
   rw[bX] at hw;simp only[Option.some.injEq] at hw;subst hw;simp
  | some d=>
   rw[bX] at hw;have Ag:=ay d ⟨j,Ba,aA,bX⟩;simp only[Option.bind_some] at hw ⊢;cases aQ:tmps[d]? with
   | none=>
    have aS:tmps.getD d undef=undef:=by simp[Array.getD_eq_getD_getElem?,aQ]
    rw[aS] at Ag;cases ak:ah d<;>rw[ak] at hw Ag<;>simp at hw<;>try (subst hw; simp)
    all_goals cases Ag
   | some v=>
    have aS:tmps.getD d undef=v:=by simp[Array.getD_eq_getD_getElem?,aQ]
    rw[aS] at Ag;cases ak:ah d<;>rw[ak] at hw Ag<;>simp at hw
    all_goals (cases Ag<;>(subst hw; simp))
def pF (P:Program) (n:Nat) (c:Code) (Q:Exit->Act->World->Prop) (a:Act) (w:World) :Prop:=
 match c with
 | .loop c'=>Code.rounds P c' Q n a w
 | c=>c.wp P Q a w
theorem pF.wp {n:Nat} {c:Code} {Q:Exit->Act->World->Prop} {a:Act} {w:World} (h:pF P n c Q a w) :c.wp P Q a w:=by
 cases c<;>first | exact wp_loop_rounds n h | exact h
def wU (P:Program) (G:Nat->ad) :J->Prop
 | .code c N ah h e ci h'=>∃ n,∀ (R:Nat->Prop) (B:Nat) (w:World) (μ:dd) (a:Act) (Q:Exit->Act->World->Prop),cp R B w h μ->tg G w R h μ->ny N w R h μ ah a->
   (∀ fA w' μ',ej w h μ w' h' μ'->cp R B w' h' μ'->ny N w' R h' μ' ci fA->Q e.out fA w')->pF P n c Q a w
 | .ops all l N ah h ci h'=>∀ (R:Nat->Prop) (B:Nat) (w:World) (μ:dd) (a:Act) (Q:Exit->Act->World->Prop),cp R B w h μ->tg G w R h μ->ny N w R h μ ah a->
   (∀ fA w' μ',ej w h μ w' h' μ'->cp R B w' h' μ'->ny N w' R h' μ' ci fA->Q .normal fA w')->wpList P all Q l a w
 | .op op ah h v h'=>∀ (R:Nat->Prop) (B:Nat) (w:World) (μ:dd) (a:Act) (o:Oper) (K:Act->World->Prop) (Q:Exit->Act->World->Prop),o.op=op->cp R B w h μ->tg G w R h μ->
   (∀ x,aZ w R h μ (ek G ah x) (a.eval x))->(∀ bl w' μ',ej w h μ w' h' μ'->cp R B w' h' μ'->aZ w' R h' μ' v bl->K (a.put o.dst bl) w')->o.wp P a w K Q
 | .call f args h r h'=>rT P G f args h r h'
theorem atN {N:Nat} {w:World} {R:Nat->Prop} {B:Nat} {h:bh} {μ:dd} {ah:Nat->ad} {a:Act} (rel:cp R B w h μ) (s:ny N w R h μ ah a) {fn:Func} {r:ad} (aC:Hj P h ah fn=some r) :
  ∃ v,(results fn a.tmps).run P w=.ok v w/\aZ w R h μ r v:=by
 have one:∀ (x:ResultVar) (c:ad),AX P h ah x=some c->∃ v,(∀ F:ResultVar->Sem Value,(∀ t,F (.tmp t)=pure (a.tmps.getD t undef))->(∀ p t,F (.cell p t)=(do loadVar t (<-asAddr (a.tmps.getD p undef))))->(F x).run P w=.ok v w)/\aZ w R h μ c v:=by
  intro x c al;cases x with
  | tmp t=>
   simp only[AX,Option.some.injEq] at al; subst al;exact⟨_,fun F h1 _=>by rw[h1]; rfl,s.val t⟩
  | cell p t=>
   simp only[AX] at al;obtain⟨v,h1,ag⟩:=Xr (P:=P) rel al (s.val p);refine⟨v,fun F _ nH=>?_,ag⟩;rw[nH];cases aF:a.tmps.getD p undef with
   | pointer NU=>
    cases NU with
    | none=>rw[aF] at h1; simp[Instr.loadAt,Instr.sureAddr] at h1
    | some NU=>rw[aF] at h1; simpa [Instr.loadAt,Instr.sureAddr,asAddr,aF] using h1
   | _=>rw[aF] at h1; simp[Instr.loadAt,Instr.sureAddr] at h1
 have all:∀ (l:List ResultVar) (cs:List ad),wr P h ah l=some cs->∃ vs:List Value,(∀ F:ResultVar->Sem Value,(∀ t,F (.tmp t)=pure (a.tmps.getD t undef))->(∀ p t,F (.cell p t)=(do loadVar t (<-asAddr (a.tmps.getD p undef))))->(l.mapM F).run P w=.ok vs w) ∧
   vs.length=cs.length/\∀ (j:Nat) (c:ad) (v:Value),cs[j]? = some c->vs[j]? = some v->aZ w R h μ c v:=by
  intro l
  induction l with
  | nil=>intro cs ak; simp only[wr,Option.some.injEq] at ak; subst ak; exact⟨[],fun F _ _=>by simp,rfl,fun _ _ _ aR=>by simp at aR⟩
  | cons x l aY=>
   intro cs ak;unfold wr at ak;split at ak
   ·rename_i c cs' al ar;simp only[Option.some.injEq] at ak; subst ak;obtain⟨v,h1,ag⟩:=one x c al;obtain⟨vs,aq,aH,bd⟩:=aY cs' ar;refine⟨v::vs,fun F cn cc=>by simp only[List.mapM_cons,Sem.run_bind,h1 F cn cc,Result.andThen_ok,aq F cn cc,Sem.run_pure],by simp[aH],fun j c' bl am ay=>?_⟩;cases j with
    | zero=>simp at am ay; subst am ay; exact ag
    | succ j=>exact bd j c' bl (by simpa using am) (by simpa using ay)
   ·cases ak
 unfold Hj at aC;cases ar:wr P h ah fn.results.toList with
 | none=>rw[ar] at aC; cases aC
 | some cs=>
  rw[ar] at aC;simp only[Option.map_some,Option.some.injEq] at aC; subst aC;obtain⟨vs,h1,ag,aq⟩:=all _ _ ar;have iY:(results fn a.tmps).run P w=.ok (if aR:vs.toArray.size=1 then vs.toArray[0] else .tuple vs.toArray) w:=by
   unfold results;rw[Array.mapM_eq_mapM_toList];simp only[Sem.run_bind,Sem.run_map];rw[h1 _ (fun _=>rfl) (fun _ _=>rfl)];simp
  refine⟨_,iY,?_⟩
  match cs,vs,ag,aq with
  | [],[],_,_=>exact .b5 [] #[] rfl (fun _ _ _ aR=>by simp at aR)
  | [c],[v],_,aq=>exact aq 0 c v rfl rfl
  | c::c'::cs,v::bl::vs,ag,aq=>
   simp only[List.size_toArray,List.length_cons];rw[dif_neg (by omega)];exact .b5 _ _ (by simpa using ag) (fun j x y am aE=>aq j x y am (by simpa using aE))
theorem w1 {w:World} {R:Nat->Prop} {h:bh} {μ:dd} {c:ad} {v:Value} (ay:aZ w R h μ c v) :c.closed=true->gc w (fun k=>R k/\¬ mh h μ k) c v:=by
 have ar:∀ (cs:List ad),a7 cs=true->∀ (j:Nat) (c:ad),cs[j]? = some c->c.closed=true:=by
  intro cs
  induction cs with
  | nil=>intro _ j c am; simp at am
  | cons x cs aY=>
   intro ak j c am;simp only[a7,Bool.and_eq_true] at ak;cases j with
   | zero=>simp at am; subst am; exact ak.1
   | succ j=>exact aY ak.2 j c (by simpa using am)
 have xV:∀ (es:List (List ad)),Bx es=true->∀ (i:Nat) (e:List ad),es[i]? = some e->a7 e=true:=by
  intro es
  induction es with
  | nil=>intro _ j c am; simp at am
  | cons x cs aY=>
   intro ak j c am;simp only[Bx,Bool.and_eq_true] at ak;cases j with
   | zero=>simp at am; subst am; exact ak.1
   | succ j=>exact aY ak.2 j c (by simpa using am)
 have cell:∀ b o v,Cell w R h μ b o v->Cell w (fun k=>R k/\¬ mh h μ k) bh.empty (fun _=>none) b o v:=fun b o v ak=>
  ⟨ak.here,ak.one,⟨ak.ro,ak.free⟩,fun ⟨b,m,h1,ag,aq⟩=>by cases ag⟩
 unfold gc
 induction ay with
 | bool b=>exact fun _=>.bool b
 | int k n=>exact fun _=>.int k n
 | str bs=>exact fun _=>.str bs
 | j5=>exact fun _=>.j5
 | aK=>exact fun _=>.aK
 | iq=>exact fun _=>.iq
 | jD=>exact fun _=>.jD
 | j4=>exact fun _=>.j4
 | aM cs vs bu h1 ay aY=>exact fun ak=>.aM cs vs bu h1 fun j c v am fX=>aY j c v am fX (ar cs (by simpa [ad.closed] using ak) j c am)
 | b5 cs vs bu ay aY=>exact fun ak=>.b5 cs vs bu fun j c v am fX=>aY j c v am fX (ar cs (by simpa [ad.closed] using ak) j c am)
 | ptr=>exact fun ak=>by simp[ad.closed] at ak
 | nn=>exact fun ak=>by simp[ad.closed] at ak
 | cm cs off blk o eT ak ay aY=>exact fun eB=>.cm cs off blk o eT (fun j am=>cell _ _ _ (ak j am)) fun j c am=>aY j c am (ar cs (by simpa [ad.closed] using eB) j c am)
 | av=>exact fun ak=>by simp[ad.closed] at ak
 | g4=>exact fun ak=>by simp[ad.closed] at ak
 | iy=>exact fun ak=>by simp[ad.closed] at ak
 | cr z es blk off cap eT dN az ak ay aY=>exact fun eB=>.cr z es blk off cap eT dN az (fun i j aB am=>cell _ _ _ (ak i j aB am)) fun i e au j c am=>aY i e au j c am (ar e (xV es (by simpa [ad.closed] using eB) i e au) j c am)
 | go z a cap=>exact fun _=>.go z a cap
 | fn f first gQ fs cs aL ak h1 ag eX mG=>
  intro eB;simp only[ad.closed,Bool.and_eq_true] at eB;exact .fn f first gQ fs cs aL ak (fun j c v am fX=>eX j c v am fX (ar _ eB.1 j c am)) fun j c v am fX=>mG j c v am fX (ar _ eB.2 j c am)
 | mp=>exact fun ak=>by simp[ad.closed] at ak
 | it=>exact fun ak=>by simp[ad.closed] at ak
 | hD t c v ay aY=>exact fun eB=>.hD t c v (aY (by simpa [ad.closed] using eB))
 | mT l=>exact fun _=>.mT l
 | bad v=>exact fun _=>.bad v
theorem By {cs:List ad} (ak:a7 cs=true) :∀ (j:Nat) (c:ad),cs[j]? = some c->c.closed=true:=by
 induction cs with
 | nil=>intro j c am; simp at am
 | cons x cs aY=>
  intro j c am;simp only[a7,Bool.and_eq_true] at ak;cases j with
  | zero=>simp at am; subst am; exact ak.1
  | succ j=>exact aY ak.2 j c (by simpa using am)
theorem gc.up {w:World} {A:Nat->Prop} {R:Nat->Prop} {h:bh} {μ:dd} {c:ad} {v:Value} (ay:gc w A c v) (c9:∀ k,k<w.heap.size->A k->R k/\¬ mh h μ k) :aZ w R h μ c v:=by
 have cell:∀ b o v,Cell w A bh.empty (fun _=>none) b o v->Cell w R h μ b o v:=fun b o v ak=>
  have ai:b<w.heap.size:=World.block_lt_of_cell? _ _ ak.here
  ⟨ak.here,ak.one,(c9 b ai ak.ro).1,(c9 b ai ak.ro).2⟩
 unfold gc at ay
 induction ay with
 | bool b=>exact .bool b
 | int k n=>exact .int k n
 | str bs=>exact .str bs
 | j5=>exact .j5
 | aK=>exact .aK
 | iq=>exact .iq
 | jD=>exact .jD
 | j4=>exact .j4
 | aM cs vs bu h1 ay aY=>exact .aM cs vs bu h1 aY
 | b5 cs vs bu ay aY=>exact .b5 cs vs bu aY
 | ptr b off sz cs m ai hm=>cases hm
 | nn b off sz a aA=>rcases aA with aA | ⟨n,cs,aA,_⟩<;>cases aA
 | cm cs off blk o eT ak ay aY=>exact .cm cs off blk o eT (fun j am=>cell _ _ _ (ak j am)) aY
 | av z b off len cap sz cap' cs m ai hm=>cases hm
 | g4 z b off len cap sz cap' a ar ak aA=>rcases aA with aA | ⟨n,cs,aA,_⟩<;>cases aA
 | iy z b off sz a cs m ai hm=>cases hm
 | cr z es blk off cap eT dN az ak ay aY=>exact .cr z es blk off cap eT dN az (fun i j aB am=>cell _ _ _ (ak i j aB am)) aY
 | go z a cap=>exact .go z a cap
 | fn f first gQ fs cs aL ak h1 ag eX mG=>exact .fn f first gQ fs cs aL ak eX mG
 | mp b m ai hm=>cases hm
 | it b m ai hm=>cases hm
 | hD t c v ay aY=>exact .hD t c v aY
 | mT l=>exact .mT l
 | bad v=>exact .bad v
theorem X9 {R:Nat->Prop} {B:Nat} {w:World} {h:bh} {μ:dd} (rel:cp R B w h μ) {k:Nat} (ax:mh h μ k) :k<w.heap.size:=by
 obtain⟨b,m,h1,ag,rfl⟩:=ax;exact rel.lt h1 ag
theorem DO {R:Nat->Prop} {B:Nat} {w w' : World} {h:bh} {μ:dd} (rel:cp R B w h μ) (ai:yT w w') :ej w h μ w' h μ/\cp R B w' h μ:=by
 have e:ej w h μ w' h μ:=⟨⟨ai.os,ai.tape,ai.output,ai.size,fun k hk _=>ai.block k hk,fun _ ax=>.inl ax,fun b sz cs m h1 ag=>.inl ⟨cs,h1,ag⟩,fun _ _ aA=>aA,fun _ _ _ h1 ag=>⟨h1,ag⟩,Nat.le_refl _,ai.drawn⟩,fun _ _ hm=>hm⟩
 refine⟨e,fun b m hm=>?_,rel.inj,rel.base,rel.fresh,rel.up,Nat.le_trans rel.size ai.size,rel.lL⟩;cases ar:live (h.f b) with
 | false=>cases ak:h.f b<;>first | trivial | (rw[ak] at ar; cases ar)
 | true=>exact (rel.blk b m hm).ext e.toExt0 (ai.block _ (rel.lt ar hm))
theorem abU {w:World} {R:Nat->Prop} {B:Nat} {h:bh} {μ:dd} (rel:cp R B w h μ) :∀ {c c' : ad},gH h c c'->∀ {v:Value},aZ w R h μ c v->gc w R c' v:=by
 intro c c' aC;have q6:∀ {b sz:Nat} {cs:List ad} {m:M},h.f b=.cells sz cs->μ b=some m->∃ f:Nat->Value,∀ (j:Nat) (c:ad),cs[j]? = some c->Cell w R bh.empty (fun _=>none) m.r (m.s+j) (f j)/\aZ w R h μ c (f j) :=by
  intro b sz cs m ai hm;have hblk:=rel.blk b m hm;rw[ai] at hblk;obtain⟨bT,dH,arr,t,gL,hw,aD,aL,m5⟩:=hblk;have oj:R m.r:=rel.up _ (rel.base b m (by rw[ai]; rfl) hm);refine⟨fun j=>(arr[m.s+j]?).getD undef,fun j c am=>?_⟩;obtain⟨v,h1,ag,aq⟩:=m5 _ _ am;refine⟨⟨?_,by simp only[h1,Option.getD_some]; exact ag,oj,fun ⟨b,m,h1,ag,aq⟩=>by cases ag⟩,by simp only[h1,Option.getD_some]; exact aq⟩;simp only[World.cell?,hw,h1,Option.getD_some,Option.isSome_none];rfl
 induction aC with
 | same c ak=>
  intro v ay;exact (gc.up (w1 ay ak) fun k _ hk=>⟨hk.1,fun ⟨b,m,h1,ag,aq⟩=>by cases ag⟩:aZ w R bh.empty (fun _=>none) _ v)
 | aM cs cs' ar h aY=>
  intro v ay;cases ay with
  | aM _ vs gW h1 ay=>
   refine .aM cs' vs (by omega) h1 (fun j c' v am fX=>?_);have aP:j<cs.length:=by rw[<-ar]; exact (List.getElem?_eq_some_iff.1 am).1
   exact aY j cs[j] c' (List.getElem?_eq_getElem aP) am (ay j cs[j] v (List.getElem?_eq_getElem aP) fX)
 | b5 cs cs' ar h aY=>
  intro v ay;cases ay with
  | b5 _ vs gW ay=>
   refine .b5 cs' vs (by omega) (fun j c' v am fX=>?_);have aP:j<cs.length:=by rw[<-ar]; exact (List.getElem?_eq_some_iff.1 am).1
   exact aY j cs[j] c' (List.getElem?_eq_getElem aP) am (ay j cs[j] v (List.getElem?_eq_getElem aP) fX)
 | uI z b off cap sz=>
  intro v ay;cases ay with
  | av _ _ _ _ _ _ cap' cs m ai hm ar ax ak=>exact .go z _ cap'
  | g4 _ _ _ _ _ _ cap' a ar ak aA=>exact .go z _ cap'
  | iy _ _ _ _ a cs m ai hm=>exact .go z a 0
 | ptr b off sz cs cs' ai ar h aY=>
  intro v ay;cases ay with
  | nn _ _ _ a aA=>
   exfalso;rcases aA with aA | ⟨n,iF,aA,aP⟩
   ·rw[ai] at aA; cases aA
   ·rw[ai] at aA; cases aA; omega
  | ptr _ _ _ iF m gK hm=>
   obtain⟨f,aL⟩:=q6 ai hm;refine .cm cs' off m.r m.s f (fun j am=>?_) (fun j c' am=>?_)
   ·exact (aL j cs[j] (List.getElem?_eq_getElem (by omega))).1
   ·have aP:j<cs.length:=by rw[<-ar]; exact (List.getElem?_eq_some_iff.1 am).1
    exact aY j cs[j] c' (List.getElem?_eq_getElem aP) am (aL j cs[j] (List.getElem?_eq_getElem aP)).2
 | av z b off len cap sz cs es ai ar az ea h aY=>
  intro v ay;cases ay with
  | iy _ _ _ _ a iF m gK lG=>
   obtain rfl:=List.length_eq_zero_iff.1 ar;exact .go z a 0
  | g4 _ _ _ _ _ _ cap' a ar ak aA=>
   exfalso;rcases aA with aA | ⟨n,iF,aA,aP⟩
   ·rw[ai] at aA; cases aA
   ·rw[ai] at aA; cases aA; omega
  | av _ _ _ _ _ _ cap' iF m gK hm gk ax ak=>
   have dv:len<=cap':=by rcases ak with ⟨_,h⟩ | ⟨_,h,_⟩<;>omega
   obtain⟨f,aL⟩:=q6 ai hm;subst ar;have aP:∀ i j,i<es.length->j<z->off+(i*z+j)<cs.length:=by
    intro i j aB am;have:i*z+z<=es.length*z:=by rw[<-Nat.succ_mul]; exact Nat.mul_le_mul_right _ aB
    omega
   refine .cr z es m.r (m.s+off) cap' (fun i j=>f (off+(i*z+j))) dv az (fun i j aB am=>?_) (fun i e au j c' am=>?_)
   ·have:=(aL _ _ (List.getElem?_eq_getElem (aP i j aB am))).1;rw[<-Nat.add_assoc] at this;exact this
   ·have aB:i<es.length:=(List.getElem?_eq_some_iff.1 au).1;have p8:j<z:=by rw[<-az e (List.mem_of_getElem? au)]; exact (List.getElem?_eq_some_iff.1 am).1
    exact aY i j e _ c' au am (List.getElem?_eq_getElem (aP i j aB p8)) (aL _ _ (List.getElem?_eq_getElem (aP i j aB p8))).2
theorem EV:∀ {cs:List ad},mn cs=true->∀ (j:Nat) (c:ad),cs[j]? = some c->c.flat=true:=by
 intro cs
 induction cs with
 | nil=>intro _ j c h; simp at h
 | cons x cs aY=>
  intro ak j c am;simp only[mn,Bool.and_eq_true] at ak;cases j with
  | zero=>simp at am; subst am; exact ak.1
  | succ j=>exact aY ak.2 j c (by simpa using am)
theorem SN {w w' : World} {A R:Nat->Prop} {h h' : bh} {μ μ' : dd} {c:ad} {v:Value} (ay:aZ w A h μ c v) (aL:c.flat=true) :aZ w' R h' μ' c v:=by
 induction ay with
 | bool b=>exact .bool b
 | int k n=>exact .int k n
 | str bs=>exact .str bs
 | j5=>exact .j5
 | aK=>exact .aK
 | iq=>exact .iq
 | jD=>exact .jD
 | j4=>exact .j4
 | aM cs vs bu h1 ay aY=>exact .aM cs vs bu h1 (fun j c v am fX=>aY j c v am fX (EV (by simpa only [ad.flat] using aL) j c am))
 | b5 cs vs bu ay aY=>exact .b5 cs vs bu (fun j c v am fX=>aY j c v am fX (EV (by simpa only [ad.flat] using aL) j c am))
 | hD t c v ay aY=>exact .hD t c v (aY (by simpa only [ad.flat] using aL))
 | mT l=>exact .mT l
 | _=>simp[ad.flat] at aL
theorem apu {f:FuncId} {args kv:List ad} {r:ad} {h:bh} (aF:bE P G f kv r) (bu:kv.length=args.length) (nf:∀ (j:Nat) (c c' : ad),args[j]? = some c->kv[j]? = some c'->gH h c c')
  (e1:r.flat=true) :wU P G (.call f args h r h) :=by
 intro R B w μ vs rel g ar ay;refine (aF w R vs (fun i=>?_) (by omega) (fun j c' v am fX=>?_)).mono ?_
 ·exact (gc.up (w1 (g i).2 (g i).1) fun k _ hk=>⟨hk.1,fun ⟨b,m,h1,ag,aq⟩=>by cases ag⟩:aZ w R bh.empty (fun _=>none) _ _)
 ·have aP:j<args.length:=by rw[<-bu]; exact (List.getElem?_eq_some_iff.1 am).1
  exact abU rel (nf j args[j] c' (List.getElem?_eq_getElem aP) am) (ay j args[j] v (List.getElem?_eq_getElem aP) fX)
 ·rintro e w' ⟨v,rfl,ai,aC⟩;obtain⟨cn,cc⟩:=DO rel ai;exact⟨v,μ,rfl,cn,cc,SN aC e1⟩
theorem apv {f:FuncId} {args kv:List ad} {r:ad} {h:bh} (aF:pG P G f kv r) (bu:kv.length=args.length) (nf:∀ (j:Nat) (c c' : ad),args[j]? = some c->kv[j]? = some c'->gH h c c') :wU P G (.call f args h r h) :=by
 intro R B w μ vs rel g ar ay;refine (aF w R vs (fun i=>?_) (by omega) (fun j c' v am fX=>?_)).mono ?_
 ·exact (gc.up (w1 (g i).2 (g i).1) fun k _ hk=>⟨hk.1,fun ⟨b,m,h1,ag,aq⟩=>by cases ag⟩:aZ w R bh.empty (fun _=>none) _ _)
 ·have aP:j<args.length:=by rw[<-bu]; exact (List.getElem?_eq_some_iff.1 am).1
  exact abU rel (nf j args[j] c' (List.getElem?_eq_getElem aP) am) (ay j args[j] v (List.getElem?_eq_getElem aP) fX)
 ·rintro e w' ⟨v,rfl,ai,aC⟩;obtain⟨cn,cc⟩:=DO rel ai;exact⟨v,μ,rfl,cn,cc,aC.up fun k hk c9=>⟨rel.up k (Nat.le_trans rel.size c9),fun ax=>by have:=X9 rel ax; omega⟩⟩
theorem pG.Hz {f:FuncId} {args:List ad} {r:ad} (aF:pG P G f args r) :bE P G f args r:=fun w A vs aA ar ay=>
 (aF w A vs aA ar ay).mono fun e w' ⟨v,h1,ag,aq⟩=>⟨v,h1,ag,(gc.up aq fun k _ hk=>⟨.inr hk,fun ⟨b,m,h1,ag,aq⟩=>by cases ag⟩:aZ w' _ bh.empty (fun _=>none) _ _)⟩
theorem apw {f:FuncId} {args:List ad} {r:ad} {h:bh} (aF:bE P G f args r) (ak:a7 args=true) :wU P G (.call f args h r h) :=by
 intro R B w μ vs rel g ar ay;refine (aF w (fun k=>R k/\¬ mh h μ k) vs (fun i=>?_) ar (fun j c v am fX=>w1 (ay j c v am fX) (By ak j c am))).mono ?_
 ·exact w1 (g i).2 (g i).1
 ·rintro e w' ⟨v,rfl,ai,aC⟩;obtain⟨cn,cc⟩:=DO rel ai;refine⟨v,μ,rfl,cn,cc,aC.up (fun k hk c9=>?_)⟩;rcases c9 with c9 | c9
  ·exact c9
  ·exact⟨rel.up k (Nat.le_trans rel.size c9),fun ax=>by have:=X9 rel ax; omega⟩
end

section
variable {P:Program} {G:Nat->ad}
theorem aoK {w:World} {R:Nat->Prop} {h:bh} {μ:dd} {aN:Operand->ad} {eM:Operand->Value} (dy:∀ x,aZ w R h μ (aN x) (eM x)) (o:Oper) {cs:List ad} {mk:Nat->ad} (aI:nW P aN o.op=some (cs,mk)) :
  ∃ v arr t,(execOp eM o).run P w=.ok (.value v) (w.alloc (.cells arr t))/\lU w R h μ cs arr ∧
   ∀ (w' : World) (ti:Nat->Prop) (h' : bh) (μ' : dd) (b:Nat),h'.f b=.cells cs.length cs->μ' b=some ⟨w.heap.size,0,arr.size⟩->aZ w' ti h' μ' (mk b) v:=by
 obtain⟨dst,op,type,pos,after,guard⟩:=o;cases op<;>simp only[nW] at aI<;>try (cases aI; done)
 case alloc t=>
  cases az:ia P t with
  | none=>rw[az] at aI; cases aI
  | some z=>
   rw[az] at aI;simp only[Option.map_some,Option.some.injEq,Prod.mk.injEq] at aI;obtain⟨rfl,rfl⟩:=aI;obtain⟨v,ay,aC⟩:=wM (P:=P) (w:=w) (R:=R) (h:=h) (μ:=μ) az;refine⟨.pointer (some ⟨w.heap.size,0,none⟩),v.cells,t,by simp[execOp,Instr.alloc,ay,newVar,newRow],aC,fun w' ti h' μ' b ai hm=>?_⟩;have:=aZ.ptr (w:=w') (R:=ti) (h:=h') (μ:=μ') b 0 z.length z _ ai hm;simpa using this
 case box t x=>
  cases az:(aN x).cells with
  | none=>rw[az] at aI; cases aI
  | some z=>
   rw[az] at aI;simp only[Option.map_some,Option.some.injEq,Prod.mk.injEq] at aI;obtain⟨rfl,rfl⟩:=aI;obtain⟨cn,cc⟩:=ED (dy x) az;refine⟨.pointer (some ⟨w.heap.size,0,none⟩),(eM x).cells,t,by simp[execOp,Instr.box,newVar,newRow],⟨cn,cc⟩,fun w' ti h' μ' b ai hm=>?_⟩;have:=aZ.ptr (w:=w') (R:=ti) (h:=h') (μ:=μ') b 0 z.length z _ ai hm;simpa using this
 case buildSlice t len parts=>
  cases au:i7 P t with
  | none=>rw[au] at aI; cases aI
  | some e=>
  rw[au] at aI;simp only at aI;cases az:c5 P e with
  | none=>rw[az] at aI; cases aI
  | some z=>
  cases jA:ia P e with
  | none=>rw[az,jA] at aI; cases aI
  | some zero=>
  rw[az,jA] at aI;simp only at aI;split at aI
  ·rename_i kf;cases aL:ii (fun i=>some (i*z,z)) (ey zero len) (parts.toList.map fun p=>(p.1,aN p.2)) with
   | none=>rw[aL] at aI; cases aI
   | some cs'=>
    rw[aL] at aI;simp only[Option.map_some,Option.some.injEq,Prod.mk.injEq] at aI;obtain⟨rfl,rfl⟩:=aI;obtain⟨cn,cc⟩:=L3 dy parts;obtain⟨eB,arr,iY,ag⟩:=Oy au az jA kf.1 kf.2 aL cn cc;refine⟨.slice (some ⟨w.heap.size,0,none⟩) len len,arr,e,by simp[execOp,iY],ag,fun w' ti h' μ' b ai hm=>?_⟩;rw[eB] at ai;have:=aZ.av (w:=w') (R:=ti) (h:=h') (μ:=μ') z b 0 len len (len*z) len _ _ ai hm (Nat.le_refl _) (by omega) (.inr ⟨by omega,Nat.le_refl _,by simp only; rw[ag.1,eB]; omega⟩);simpa using this
  ·cases aI
 case makeSlice t l c=>
  split at aI
  ·rename_i e li h0 au jY dY;obtain⟨kl,qb⟩:=r3 jY (dy l);obtain⟨kc,kY⟩:=r3 dY (dy c);cases az:c5 P e with
   | none=>rw[az] at aI; cases aI
   | some z=>
   cases eQ:jp P e with
   | none=>rw[az,eQ] at aI; cases aI
   | some by_=>
   cases jA:ia P e with
   | none=>rw[az,eQ,jA] at aI; cases aI
   | some zero=>
   rw[az,eQ,jA] at aI;simp only at aI;split at aI
   ·rename_i kf;obtain⟨il,aG,pb,FC,eb⟩:=kf;simp only[Option.some.injEq,Prod.mk.injEq] at aI;obtain⟨rfl,rfl⟩:=aI;obtain⟨bu,arr,iY,cW⟩:=Xu (w:=w) (R:=R) (h:=h) (μ:=μ) (kl:=kl) (kc:=kc) au az eQ jA il aG pb FC eb;refine⟨.slice (some ⟨w.heap.size,0,none⟩) li.toNat h0.toNat,arr,e,by simp[execOp,qb,kY,iY],cW,fun w' ti h' μ' b ai hm=>?_⟩;rw[bu] at ai;have:=aZ.av (w:=w') (R:=ti) (h:=h') (μ:=μ') z b 0 li.toNat h0.toNat (h0.toNat*z) h0.toNat _ _ ai hm (by omega) (by omega) (.inr ⟨by omega,Nat.le_refl _,by simp only; rw[cW.1,bu]; omega⟩);simpa using this
   ·cases aI
  ·cases aI
theorem oL.rel {R:Nat->Prop} {B:Nat} {w:World} {h h' : bh} {μ:dd} (g:oL h h') (rel:cp R B w h μ) :ej w h μ w h' μ/\cp R B w h' μ:=by
 have aP:∀ b m,μ b=some m->b<h.n:=fun b m hm=>rel.r4 hm
 have e:ej w h μ w h' μ:=by
  refine⟨⟨rfl,rfl,rfl,Nat.le_refl _,fun _ _ _=>rfl,?_,?_,?_,?_,g.n,Nat.le_refl _⟩,fun _ _ hm=>hm⟩
  ·rintro k ⟨b,m,ar,hm,rfl⟩;rw[g.same b (aP b m hm)] at ar;exact .inl ⟨b,m,ar,hm,rfl⟩
  ·intro b sz cs m ai hm;exact .inl ⟨cs,by rw[g.same b (aP b m hm)]; exact ai,hm⟩
  ·rintro b sz aA;have ai:b<h.n:=by
    rcases Nat.lt_or_ge b h.n with h1 | h1
    ·exact h1
    ·have:=rel.fresh b h1;rcases aA with aA | ⟨n,cs,aA,_⟩<;>rw[this] at aA<;>cases aA
   rcases aA with aA | ⟨n,cs,aA,h4⟩
   ·exact .inl (by rw[g.same b ai]; exact aA)
   ·exact .inr ⟨n,cs,by rw[g.same b ai]; exact aA,h4⟩
  ·intro b k m ai hm;exact⟨by rw[g.same b (aP b m hm)]; exact ai,hm⟩
 refine⟨e,fun b m hm=>?_,fun b bK m cV ar dN hm cl aC=>?_,fun b m ar hm=>?_,g.fresh rel.fresh,rel.up,rel.size,fun b ai=>rel.lL b (Nat.le_trans g.n ai)⟩
 ·rw[g.same b (aP b m hm)];exact (rel.blk b m hm).ext e.toExt0 rfl
 ·rw[g.same b (aP b m hm)] at ar;rw[g.same bK (aP bK cV cl)] at dN;exact rel.inj b bK m cV ar dN hm cl aC
 ·rw[g.same b (aP b m hm)] at ar;exact rel.base b m ar hm
theorem acR {K:Act->World->Prop} {Q:Exit->Act->World->Prop} {e:uR} {a:Act} {w:World} (au:e≠.normal) (h:Q e.out a w) :Exit.then K Q e.out a w:=by
 cases e with
 | normal=>exact absurd rfl au
 | exit id=>exact h
 | ret=>exact h
theorem aeI {id:Nat} {Q:Exit->Act->World->Prop} {e:uR} {a:Act} {w:World} (au:e≠.exit id) (h:Q e.out a w) :Exit.inBlock id Q e.out a w:=by
 cases e with
 | normal=>exact h
 | exit Aq=>
  have:Aq≠id:=fun aR=>au (by rw[aR])
  simpa [Exit.inBlock,uR.out,this] using h
 | ret=>exact h
def ND (P:Program) (G:Nat->ad) :Prop:=
 ∀ {id:Nat} {ops:Array Oper} {N:Nat} {ah:Nat->ad} {h:bh} {ci:Nat->ad} {h' : bh} (pre:Nat->Nat->Bool) (val:Nat->ad) (W:Nat->Bool) (cls:Nat->Eg) (m:Nat) (ap:Nat->Nat) (gp rW:Nat->bh) (ha:Nat->Nat) (cells:Nat->List ad),
  te ops pre->
  (∀ (i:Nat) (o:Oper),ops[i]? = some o->pU N o.dst=true)->
  oL h (gp 0)->h'=gp m->(ci=fun t=>match kq ops t with | some i=>val i | none=>ah t)->
  (∀ (i:Nat) (o:Oper),ops[i]? = some o->W i=true->cls i=.g0->∃ q,q<m/\ap q=i)->
  (∀ q,q<m->∃ o,ops[ap q]? = some o/\W (ap q)=true/\cls (ap q)=.g0)->
  (∀ q gf,q<m->gf<m->q<gf->pre (ap gf) (ap q)=true)->
  (∀ q gf,q<m->gf<m->ap q=ap gf->q=gf)->
  (∀ (i:Nat) (o:Oper),ops[i]? = some o->ll ops (nD ops pre val ah i o) o=some (W i))->
  (∀ (i:Nat) (o:Oper),ops[i]? = some o->W i=false->val i=jk)->
  (∀ (i:Nat) (o:Oper),ops[i]? = some o->W i=true->cls i=.pure->∀ k,zk pre m ap i k->dw P (gp k) (ek G (nD ops pre val ah i o)) o.op=some (.val (val i) (gp k)))->
  (∀ (i:Nat) (o:Oper),ops[i]? = some o->W i=true->cls i=.new->∃ mk,nW P (ek G (nD ops pre val ah i o)) o.op=some (cells i,mk)/\val i=mk (ha i)/\h.n<=ha i ∧
    ∀ k,zk pre m ap i k->(gp k).f (ha i)=.cells (cells i).length (cells i))->
  (∀ (i j:Nat) (o eh:Oper),ops[i]? = some o->ops[j]? = some eh->W i=true->W j=true->cls i=.new->cls j=.new->ha i=ha j->i=j)->
  (∀ (i:Nat) (o:Oper) (q:Nat),ops[i]? = some o->W i=true->cls i=.new->q<m->ha i<(gp q).n\/(rW q).n<=ha i)->
  (∀ q,q<m->oL (rW q) (gp (q+1)))->
  (∀ (q:Nat) (o:Oper),q<m->ops[ap q]? = some o->wU P G (.op o.op (nD ops pre val ah (ap q) o) (gp q) (val (ap q)) (rW q)))->
  wU P G (.code (.region id ops true) N ah h .normal ci h')
theorem qQ.ext {h ag:bh} (k:qQ h ag) (w:World) (μ:dd) :ej w h μ w ag μ:=by
 refine⟨⟨rfl,rfl,rfl,Nat.le_refl _,fun _ _ _=>rfl,?_,?_,?_,?_,Nat.le_of_eq k.n.symm,Nat.le_refl _⟩,fun _ _ hm=>hm⟩
 ·rintro r ⟨b,m,ar,hm,rfl⟩;refine .inl ⟨b,m,?_,hm,rfl⟩;rcases k.blk b with au | ⟨sz,cs,ak,_⟩
  ·rw[<-au]; exact ar
  ·rw[ak]; rfl
 ·intro b sz cs m ai hm;rcases k.blk b with au | ⟨sz',cs',ak,bX | ⟨iF,B2,_⟩⟩
  ·exact .inl ⟨cs,by rw[au]; exact ai,hm⟩
  ·exact .inr (.inl bX)
  ·rw[ai] at ak; cases ak; exact .inl ⟨iF,B2,hm⟩
 ·rintro b sz (ai | ⟨n,cs,ai,aP⟩)
  ·rcases k.blk b with au | ⟨sz',cs',ak,_⟩
   ·exact .inl (au.trans ai)
   ·rw[ai] at ak; cases ak
  ·rcases k.blk b with au | ⟨sz',cs',ak,bX | ⟨iF,B2,_⟩⟩
   ·exact .inr ⟨n,cs,by rw[au]; exact ai,aP⟩
   ·exact .inl bX
   ·rw[ai] at ak; cases ak; exact .inr ⟨n,iF,B2,aP⟩
 ·intro b nk m ai hm;rcases k.blk b with au | ⟨sz',cs',ak,_⟩
  ·exact⟨by rw[au]; exact ai,hm⟩
  ·rw[ak] at ai; cases ai
theorem qQ.live {h ag:bh} (k:qQ h ag) {b:Nat} (ar:live (ag.f b)=true) :live (h.f b)=true:=by
 rcases k.blk b with au | ⟨sz,cs,ak,_⟩
 ·rw[<-au]; exact ar
 ·rw[ak]; rfl
theorem qQ.qK {R:Nat->Prop} {B:Nat} {w:World} {h ag:bh} {μ:dd} (rel:cp R B w h μ) (k:qQ h ag) :∀ {c dF:ad},qP h ag c dF->∀ {v:Value},aZ w R h μ c v->aZ w R ag μ dF v:=by
 intro c dF aC
 induction aC with
 | same c=>intro v ay; exact ay.ext (k.ext w μ)
 | aM cs cs' ar h aY=>
  intro v ay;cases ay with
  | aM _ vs gW h1 ay=>
   refine .aM cs' vs (by omega) h1 (fun j c' v am fX=>?_);have aP:j<cs.length:=by rw[<-ar]; exact (List.getElem?_eq_some_iff.1 am).1
   exact aY j cs[j] c' (List.getElem?_eq_getElem aP) am (ay j cs[j] v (List.getElem?_eq_getElem aP) fX)
 | uI z b off cap sz=>
  intro v ay;cases ay with
  | av _ _ _ _ _ _ cap' cs m ai hm ar ax ak=>exact .go z _ cap'
  | g4 _ _ _ _ _ _ cap' a ar ak aA=>exact .go z _ cap'
  | iy _ _ _ _ a cs m ai hm=>exact .go z a 0
 | av z b off len cap sz cs es ai bX ar az ea ay aY=>
  intro v ay;cases ay with
  | iy _ _ _ _ a iF m gK lG=>
   obtain rfl:=List.length_eq_zero_iff.1 ar;exact .go z a 0
  | g4 _ _ _ _ _ _ cap' a ar ak aA=>
   exfalso;rcases aA with aA | ⟨n,iF,aA,aP⟩
   ·rw[ai] at aA; cases aA
   ·rw[ai] at aA; cases aA; omega
  | av _ _ _ _ _ _ cap' iF m gK hm gk ax ak=>
   rw[ai] at gK; cases gK;have hblk:=rel.blk b m hm;rw[ai] at hblk;obtain⟨bT,dH,arr,t,gL,hw,aD,aL,m5⟩:=hblk;have dv:len<=cap':=by rcases ak with ⟨_,h⟩ | ⟨_,h,_⟩<;>omega
   have iX:Go.ct.live (h.f b)=true:=by rw[ai]; rfl
   have oj:R m.r:=rel.up _ (rel.base b m iX hm);have fT:¬ mh ag μ m.r:=by
    rintro⟨bK,cV,dN,cl,lH⟩;have:=rel.inj bK b cV m (k.live dN) iX cl hm lH;subst this;rw[bX] at dN; cases dN
   subst ar;have q6:∀ i j,i<es.length->j<z->∃ c v,cs[off+(i*z+j)]? = some c/\arr[m.s+(off+(i*z+j))]? = some v/\v.oneCell'=true/\aZ w R h μ c v:=by
    intro i j aB am;have aP:off+(i*z+j)<cs.length:=by
     have:i*z+z<=es.length*z:=by rw[<-Nat.succ_mul]; exact Nat.mul_le_mul_right _ aB
     omega
    obtain⟨v,h1,ag,aq⟩:=m5 _ _ (List.getElem?_eq_getElem aP);exact⟨_,v,List.getElem?_eq_getElem aP,h1,ag,aq⟩
   refine .cr z es m.r (m.s+off) cap' (fun i j=>(arr[m.s+(off+(i*z+j))]?).getD undef) dv az (fun i j aB am=>?_) (fun i e au j c' am=>?_)
   ·obtain⟨c,v,h1,ag,aq,aH⟩:=q6 i j aB am;refine⟨?_,?_,oj,fT⟩
    ·simp only[World.cell?,hw,ag,Option.getD_some,Option.isSome_none];rw[show m.s+off+(i*z+j)=m.s+(off+(i*z+j)) by omega,ag]; rfl
    ·rw[ag]; exact aq
   ·have aB:i<es.length:=(List.getElem?_eq_some_iff.1 au).1;have p8:j<z:=by rw[<-az e (List.mem_of_getElem? au)]; exact (List.getElem?_eq_some_iff.1 am).1
    obtain⟨c,v,h1,ag,aq,aH⟩:=q6 i j aB p8;simp only[ag,Option.getD_some];exact aY i j e c c' au am h1 aH
theorem qQ.rel {R:Nat->Prop} {B:Nat} {w:World} {h ag:bh} {μ:dd} (rel:cp R B w h μ) (k:qQ h ag) :cp R B w ag μ:=by
 refine⟨?_,?_,?_,?_,rel.up,rel.size,?_⟩
 ·intro b m hm;have ai:=rel.blk b m hm;rcases k.blk b with au | ⟨sz,cs,ak,bX | ⟨iF,B2,bu,ay⟩⟩
  ·rw[au]; exact ai.ext (k.ext w μ).toExt0 rfl
  ·rw[bX]; trivial
  ·rw[B2];rw[ak] at ai;obtain⟨h1,eV,arr,t,gL,aq,aH,bd,bM⟩:=ai;refine⟨by omega,eV,arr,t,gL,aq,aH,bd,fun j dF am=>?_⟩;have aP:j<cs.length:=by rw[<-bu]; exact (List.getElem?_eq_some_iff.1 am).1
   obtain⟨v,br,bI,a3⟩:=bM j cs[j] (List.getElem?_eq_getElem aP);exact⟨v,br,bI,k.qK rel (ay j cs[j] dF (List.getElem?_eq_getElem aP) am) a3⟩
 ·intro b bK m cV ar dN hm cl aC;exact rel.inj b bK m cV (k.live ar) (k.live dN) hm cl aC
 ·intro b m ar hm;exact rel.base b m (k.live ar) hm
 ·intro b ai;rw[k.n] at ai;rcases k.blk b with au | ⟨sz,cs,ak,_⟩
  ·rw[au]; exact rel.fresh b ai
  ·rw[rel.fresh b ai] at ak; cases ak
 ·intro b ai;rw[k.n] at ai;exact rel.lL b ai
theorem auE (bX:ND P G) {j:J} (am:dW P G j) :wU P G j:=by
 induction am with
 | skip N ah h=>exact⟨0,fun R B w μ a Q rel g s k=>wp_skip (k a w μ (.refl _ _ _) rel s)⟩
 | label l N ah h=>exact⟨0,fun R B w μ a Q rel g s k=>wp_label (k a w μ (.refl _ _ _) rel s)⟩
 | ret N ah h=>exact⟨0,fun R B w μ a Q rel g s k=>wp_ret (k a w μ (.refl _ _ _) rel s)⟩
 | exit id N ah h=>exact⟨0,fun R B w μ a Q rel g s k=>wp_exit (k a w μ (.refl _ _ _) rel s)⟩
 | acr h1 ag eX mG=>
  obtain⟨lM,eX⟩:=eX;obtain⟨nl,mG⟩:=mG;exact⟨0,fun R B w μ a Q rel g s k=>wp_seq (pF.wp (eX R B w μ a _ rel g s fun br cb hJ a2 gC hF=>
   pF.wp (mG R B cb hJ br Q gC (g.ext a2) hF fun bI w2 rS b7 gg jG=>k bI w2 rS (a2.trans b7) gg jG)))⟩
 | MI h1 au eX=>
  obtain⟨lM,eX⟩:=eX;exact⟨0,fun R B w μ a Q rel g s k=>wp_seq (pF.wp (eX R B w μ a _ rel g s fun br cb hJ a2 gC hF=>acR au (k br cb hJ a2 gC hF)))⟩
 | cond ak h1 eX=>
  rename_i c x y N ah h b e ci h';obtain⟨lM,eX⟩:=eX;refine⟨0,fun R B w μ a Q rel g s k=>?_⟩;have ay:=s.ek g c;rw[ak] at ay;cases FH:a.eval c<;>rw[FH] at ay<;>try (cases ay; done)
  cases ay;exact wp_cond FH (pF.wp (eX R B w μ a Q rel g s k))
 | Eu h1 au eX=>
  obtain⟨lM,eX⟩:=eX;exact⟨0,fun R B w μ a Q rel g s k=>wp_block (pF.wp (eX R B w μ a _ rel g s fun br cb hJ a2 gC hF=>aeI au (k br cb hJ a2 gC hF)))⟩
 | Ot h1 eX=>
  obtain⟨lM,eX⟩:=eX;exact⟨0,fun R B w μ a Q rel g s k=>wp_block (pF.wp (eX R B w μ a _ rel g s fun br cb hJ a2 gC hF=>by
   simp only[uR.out,Exit.inBlock,if_true];exact k br cb hJ a2 gC hF))⟩
 | AD h1 ag eX mG=>
  obtain⟨lM,eX⟩:=eX;obtain⟨nl,mG⟩:=mG;exact⟨nl+1,fun R B w μ a Q rel g s k=>pF.wp (eX R B w μ a _ rel g s fun br cb hJ a2 gC hF=>
   mG R B cb hJ br Q gC (g.ext a2) hF fun bI w2 rS b7 gg jG=>k bI w2 rS (a2.trans b7) gg jG)⟩
 | Ly h1 au eX=>
  obtain⟨lM,eX⟩:=eX;exact⟨1,fun R B w μ a Q rel g s k=>pF.wp (eX R B w μ a _ rel g s fun br cb hJ a2 gC hF=>acR au (k br cb hJ a2 gC hF))⟩
 | scope h1 eX=>
  obtain⟨lM,eX⟩:=eX;rename_i c N ah h e ci h';refine⟨0,fun R B w μ a Q rel g s k=>wp_scope_straight (pF.wp (eX R B w μ a _ rel g s fun br cb hJ a2 gC hF=>?_))⟩;have:=k br cb hJ a2 gC hF;cases e<;>exact this
 | region h1 eX=>exact⟨0,fun R B w μ a Q rel g s k=>wp_region_list (eX R B w μ a Q rel g s k)⟩
 | draw pre val W cls m ap gp rW ha cells hV p6 aG hm Gi xJ Cp nP hO vO z8 F0 pf Fw Fx p7 jv aY=>
  exact bX pre val W cls m ap gp rW ha cells hV p6 aG hm Gi xJ Cp nP hO vO z8 F0 pf Fw Fx p7 aY
 | XZ=>exact fun R B w μ a Q rel g s k=>k a w μ (.refl _ _ _) rel s
 | X1 hw zL h1 eX=>
  intro R B w μ a Q rel g s k;have vO:=Nv (w:=w) (R:=R) (h:=_) (μ:=μ) (tmps:=a.tmps) hw (fun d _=>s.val d);unfold wpList;rw[if_neg (by rw[vO]; simp)];exact eX R B w μ _ Q rel g (s.put zL Ng) k
 | X0 hw zL h1 ag eX mG=>
  intro R B w μ a Q rel g s k;have vO:=Nv (w:=w) (R:=R) (h:=_) (μ:=μ) (tmps:=a.tmps) hw (fun d _=>s.val d);unfold wpList;rw[if_pos vO];refine .inl (eX R B w μ a _ _ Q rfl rel g (s.ek g) fun bl cb hJ a2 gC ay=>?_);exact mG R B cb hJ _ Q gC (g.ext a2) ((s.ext a2).put zL ay) fun bI w2 rS b7 gg jG=>k bI w2 rS (a2.trans b7) gg jG
 | GY ap=>
  intro R B w μ a o K Q ax rel g dy k;subst ax;have:=MP (P:=P) rel dy o ap;obtain⟨v,w',μ',aC,e,r,ay⟩:=this;unfold Oper.wp;rcases aC with aC | ⟨aC,rfl⟩
  ·rw[aC]; exact k v w' μ' e r ay
  ·rw[aC]; exact k undef w' μ' e r ay
 | AM ap h1 eX=>
  intro R B w μ a o K Q ax rel g dy k;subst ax;obtain⟨rfl,vs,aC,ar,ay⟩:=MP (P:=P) rel dy o ap;unfold Oper.wp;rw[aC];refine (eX R B w μ vs rel g ar ay).mono ?_;rintro e w' ⟨v,μ',rfl,a2,gC,l7⟩;exact k v w' μ' a2 gC l7
 | HI h1 lm ay eX=>
  intro R B w μ a o K Q ax rel g dy k;refine eX R B w μ a o K Q ax rel g dy fun bl w' μ' e r uf=>?_
  exact k bl w' μ' (e.trans (lm.ext w' μ')) (lm.rel r) (lm.qK r ay uf)
 | inline aL ai h1 au aC eX=>
  rename_i f fn c args h e ci h' r;obtain⟨lM,eX⟩:=eX;intro R B w μ vs rel g ar ay;refine calls_of_wp aL ai (pF.wp (eX R B w μ _ _ rel g ⟨by simp[ar],rfl,fun t=>?_⟩ fun br cb hJ a2 gC hF=>?_))
  ·by_cases aQ:t<args.length
   ·have aD:args.getD t jk=args[t] :=by simp[List.getD,aQ]
    have nh:(vs++Array.replicate (fn.ntmps - vs.size) undef).getD t undef=vs[t] :=by
     rw[Array.getD_eq_getD_getElem?,Array.getElem?_append_left (by omega)];simp[show t<vs.size by omega]
    rw[aD,nh];exact ay t _ _ (by simp[aQ]) (by simp)
   ·have aD:args.getD t jk=jk:=by simp[List.getD,List.getElem?_eq_none (by omega:args.length<=t)]
    have nh:(vs++Array.replicate (fn.ntmps - vs.size) undef).getD t undef=undef:=by
     rw[Array.getD_eq_getD_getElem?,Array.getElem?_append_right (by omega),Array.getElem?_replicate];split<;>rfl
    rw[aD,nh];exact Ng
  ·obtain⟨v,cn,cc⟩:=atN gC hF aC;have azf:hF.defers=hF.defers:=rfl;rcases au with rfl | rfl
   ·exact⟨hF.defers,v,cn,v,hJ,rfl,a2,gC,cc⟩
   ·exact⟨hF.defers,v,cn,v,hJ,rfl,a2,gC,cc⟩
 | pure aF ak=>exact apw aF ak
 | Ys aF ar aC aL=>exact apu aF ar aC aL
 | ext ap=>exact ap
 | Yt aF ar aC=>exact apv aF ar aC
end

end Go.ct

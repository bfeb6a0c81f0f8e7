/-
  The canonical machine, part Im: maps, strings rune by rune, bytes compared.
-/
import Derived.Test.YtobphgccoalchaaGreatDoorQb
import Derived.Stop.SameAnswer
import Derived.Orders
import Derived.Still
import Derived.Scope
import Derived.LoopN
set_option linter.unusedVariables false
set_option linter.unusedSimpArgs false
set_option linter.unnecessarySimpa false
namespace Go.b2
open Go
section
variable {P:Program} {w:World} {R:Nat->Prop} {B:Nat} {h:aN} {μ:cH}
def uS:U->Value
 | .bool b=>.bool b
 | .int k n=>.int k n
 | .str s=>.string ⟨s.toArray⟩
 | _=>.tuple #[]
def yP:U->Value
 | .aM cs=>.agg (cs.map uS).toArray
 | c=>uS c
theorem aiy {c:U} {v:Value} (ay:sY c=true) (aq:aO w R h μ c v) :v=uS c:=by
 cases c<;>simp[sY] at ay
 ·cases aq; rfl
 ·cases aq; rfl
 ·cases aq;rename_i bs;show Value.string bs=.string ⟨bs.data.toList.toArray⟩;congr 1
theorem Gw {t:TypeId} {c:U} (aD:kL P t c=true) :∃ cs m,c=.aM cs/\rf P 8 t=true/\dW P t=some true/\cv P t=some m/\cs.length=m/\∀ x∈cs,sY x=true:=by
 unfold kL at aD;split at aD
 ·rename_i cs;simp only[atv] at aD;obtain⟨⟨h1,ad⟩,aj⟩:=aD;split at ad
  ·rename_i m aB al;exact⟨cs,m,rfl,h1,aB,al,auj ad,fun x af=>aue.1 aj x af⟩
  ·cases ad
 ·cases aD
theorem LJ {t:TypeId} {c:U} {v:Value} (aD:kL P t c=true) (aq:aO w R h μ c v) :v=yP c:=by
 obtain⟨cs,m,rfl,_,_,_,_,hint⟩:=Gw aD;cases aq with
 | aM _ vs ak h1 aq=>
  show Value.agg vs=.agg (cs.map uS).toArray;congr 1;apply Array.ext_getElem?;intro j;have af:(cs.map uS).toArray[j]? = (cs[j]?).map uS:=by simp
  rw[af];cases ai:cs[j]? with
  | none=>simp only[Option.map_none]; rw[au2]; rw[ak]; exact avD.1 ai
  | some c=>
   have aK:=(atq.1 ai).1;have mm:=aq j c vs[j] ai (auT (by omega));rw[auT (by omega)];simp only[atA,Option.some.injEq];exact aiy (hint c (atz ai)) mm
theorem aah (a:ByteArray) :(a == a)=true:=by
 show (a.data == a.data)=true;exact beq_self_eq_true _
theorem aj4 {c:U} (n:Nat) (ah:sY c=true) :Instr.sameBits n (uS c) (uS c)=true:=by
 cases c<;>simp[sY] at ah<;>unfold uS Instr.sameBits
 ·simp
 ·simp
 ·exact aah _
theorem aj3 {t:TypeId} {c:U} (n:Nat) (aD:kL P t c=true) :Instr.sameBits (n+1) (yP c) (yP c)=true:=by
 obtain⟨cs,m,rfl,_,_,_,_,hint⟩:=Gw aD;unfold yP Instr.sameBits;simp only[beq_self_eq_true,auu,aue];rintro⟨x,y⟩ kb;rw[atx] at kb;obtain⟨j,ai⟩:=kb;rw[List.getElem?_zip_eq_some] at ai;obtain⟨h1,ad⟩:=ai;rw[h1] at ad; cases ad;simp only[atw,avP] at h1;obtain⟨c,ah,rfl⟩:=h1;exact aj4 n (hint c (atz ah))
theorem ajY {t:TypeId} {c:U} (aD:kL P t c=true) :(Instr.keyThatStays (yP c) (yP c)).run P w=.ok (yP c) w:=by
 unfold Instr.keyThatStays;rw[if_pos (aj3 9999 aD)];simp
theorem Jg {α:Type} {f:α->PUnit->Sem (ForInStep PUnit)}:∀ (l:List α),(∀ x∈l,(f x ⟨⟩).run P w=.ok (.yield ⟨⟩) w)->(forIn l ⟨⟩ f).run P w=.ok ⟨⟩ w
 | [],_=>by simp
 | x::l,aD=>by
  rw[List.forIn_cons];simp only[Sem.run_bind,aD x (by simp),Result.andThen_ok];exact Jg l (fun y az=>aD y (by simp[az]))
theorem MW (em:Bool) :∀ (d n:Nat) (t:TypeId) (c:U) (v:Value),d<=n->rf P d t=true->aO w R h μ c v->(dW P t=some true->∃ cs m,c=.aM cs/\cv P t=some m/\cs.length=m)->
  (Instr.checkKey em n t v).run P w=.ok () w
 | 0,_,_,_,_,_,hk,_,_=>by simp[rf] at hk
 | d+1,0,_,_,_,aC,_,_,_=>by omega
 | d+1,n+1,t,c,v,aC,hk,aq,aB=>by
  unfold rf at hk;split at hk
  ·rename_i aJ; cases v<;>simp[Instr.checkKey,cu aJ]
  ·rename_i aJ; cases v<;>simp[Instr.checkKey,cu aJ]
  ·rename_i aJ; cases v<;>simp[Instr.checkKey,cu aJ]
  ·rename_i len e m aJ hm;have JY:dW P t=some true:=by unfold dW; rw[aJ]; rfl
   obtain⟨cs,cn,rfl,bZ,ak⟩:=aB JY;rw[hm] at bZ; cases bZ;simp only[atv] at hk;obtain⟨oL,jl⟩:=hk;split at jl
   ·rename_i z a aw J1;simp only[atv] at jl;have dO:=aur jl.1;have q8:=aur jl.2;obtain⟨vs,rfl,ax⟩:=u6 aq;unfold Instr.checkKey;simp only[Sem.run_bind,cu aJ,Result.andThen_ok];rw[Std.Legacy.Range.forIn_eq_forIn_range'];rw[Jg]
    ·simp
    intro i av;have du:i<len:=by simp[Std.Legacy.Range.size] at av; omega
    have aev:i*z+z<=cs.length:=by
     have:i*z+z<=len*z:=by rw[<-aua]; exact aty _ du
     omega
    have ay:∃ c,hC P e cs (i*z)=some c/\(dW P e=some true->∃ cs' cn,c=.aM cs'/\cv P e=some cn/\cs'.length=cn) :=by
     unfold hC;rw[J1,aw];cases a with
     | true=>exact⟨_,by simp only; rw[if_pos aev],fun _=>⟨_,z,rfl,rfl,by simp; omega⟩⟩
     | false=>exact⟨cs[i*z]'(by omega),by simp only; exact atu (by omega),fun h=>by cases h⟩
    obtain⟨c,ah,J5⟩:=ay;obtain⟨u,aj,aF⟩:=wu (P:=P) ah ax;simp only[Sem.run_bind,fm aw,Result.andThen_ok,aj w];rw[MW em d n e c u (by omega) oL aF J5];simp
   ·cases jl
  ·rename_i fs m aJ hm;have JY:dW P t=some true:=by unfold dW; rw[aJ]; rfl
   obtain⟨cs,cn,rfl,bZ,ak⟩:=aB JY;rw[hm] at bZ; cases bZ;obtain⟨vs,rfl,ax⟩:=u6 aq;unfold Instr.checkKey;simp only[Sem.run_bind,cu aJ,Result.andThen_ok];rw[<-Array.forIn_toList,Jg]
   ·simp
   intro f aD;have vM:=aue.1 hk f aD;simp only[atv] at vM;obtain⟨oL,jl⟩:=vM;split at jl
   ·rename_i z a aw J1;simp only[atv] at jl;have dO:=aur jl.1;have q8:=aur jl.2;have ay:∃ c,hC P f.type cs f.offset=some c/\(dW P f.type=some true->∃ cs' cn,c=.aM cs'/\cv P f.type=some cn/\cs'.length=cn) :=by
     unfold hC;rw[J1,aw];cases a with
     | true=>exact⟨_,by simp only; rw[if_pos (by omega)],fun _=>⟨_,z,rfl,rfl,by simp; omega⟩⟩
     | false=>exact⟨cs[f.offset]'(by omega),by simp only; exact atu (by omega),fun h=>by cases h⟩
    obtain⟨c,ah,J5⟩:=ay;obtain⟨u,aj,aF⟩:=wu (P:=P) ah ax;have:=MW em d n f.type c u (by omega) oL aF J5;by_cases Ue:f.name= "_"
    ·simp[Ue]
    ·simp[Ue,aj w,this]
   ·cases jl
  ·cases hk
theorem Xg {t:TypeId} {c:U} {v:Value} (em:Bool) (aD:kL P t c=true) (aq:aO w R h μ c v) :(Instr.checkKey em 10000 t v).run P w=.ok () w:=by
 obtain⟨cs,m,rfl,h1,ad,aj,aF,_⟩:=Gw aD;exact MW em 8 10000 t _ v (by omega) h1 aq (fun _=>⟨cs,m,rfl,aj,aF⟩)
def th (w:World) (R:Nat->Prop) (h:aN) (μ:cH) (es:List (U × U × Nat)) (ds:List MapEntry) :Prop:=
 ds.length=es.length/\∀ (j:Nat) (k v:U) (b:Nat),es[j]? = some (k,v,b)->∃ x:MapEntry,ds[j]? = some x/\aO w R h μ k x.key/\aO w R h μ v x.val/\x.born=b
def N0 (w:World) (R:Nat->Prop) (h:aN) (μ:cH) (k:U) (ds:List MapEntry) (i:Nat) :Option (Nat × U)->Option (Nat × Value)->Prop
 | none,r=>r=none
 | some (j,v),r=>∃ pg,r=some (j,pg)/\aO w R h μ v pg/\i<=j/\∃ x,ds[j - i]? = some x/\x.val=pg/\aO w R h μ k x.key
theorem abp {es:List (U × U × Nat)} {e:U × U × Nat} {x:MapEntry} {ds:List MapEntry} (ax:th w R h μ (e::es) (x::ds)) :th w R h μ es ds:=
 ⟨by have:=ax.1; simp at this; exact this,fun j k v b ai=>ax.2 (j+1) k v b (by simpa using ai)⟩
theorem abo {es:List (U × U × Nat)} {k v:U} {b:Nat} {x:MapEntry} {ds:List MapEntry} (ax:th w R h μ ((k,v,b) ::es) (x::ds)) :aO w R h μ k x.key/\aO w R h μ v x.val/\x.born=b:=by
 obtain⟨y,h1,ad⟩:=ax.2 0 k v b rfl;simp at h1; subst h1; exact ad
theorem RR {cM:TypeId} {k:U} {hz:Value} (hk:aO w R h μ k hz) :∀ (es:List (U × U × Nat)) (ds:List MapEntry) (i:Nat) (r:Option (Nat × U)),th w R h μ es ds->jd P cM k es i=some r->
  ∃ cr,(Instr.findAsking cM hz ds i).run P w=.ok cr w/\N0 w R h μ k ds i r cr
 | [],ds,i,r,ax,aD=>by
  have:ds=[] :=aug.1 ax.1;subst this;simp only[jd,Option.some.injEq] at aD; subst aD;exact⟨none,by simp[Instr.findAsking],rfl⟩
 | (k',v,b) ::es,[],i,r,ax,aD=>by have:=ax.1; simp at this
 | (k',v,b) ::es,x::ds,i,r,ax,aD=>by
  obtain⟨h1,ad,aj⟩:=abo ax;simp only[jd] at aD;split at aD
  ·cases aD
  rename_i dX;split at aD
  ·rename_i heq;split at aD
   ·rename_i adE;simp only[Option.some.injEq] at aD; subst aD;have g7:=I8 (P:=P) 10000 cM k k' true hz x.key heq hk h1;refine⟨some (i,x.val),?_,x.val,rfl,ad,att _,x,by simp,rfl,?_⟩
    ·simp only[Instr.findAsking,Op.equal,Op.maxDepth,Sem.run_bind];rw[g7]; simp
    ·rw[U.beq_eq adE]; exact h1
   ·cases aD
  ·rename_i heq;have g7:=I8 (P:=P) 10000 cM k k' false hz x.key heq hk h1;obtain⟨cr,aF,aW⟩:=RR hk es ds (i+1) r (abp ax) aD;refine⟨cr,?_,?_⟩
   ·simp only[Instr.findAsking,Op.equal,Op.maxDepth,Sem.run_bind];rw[g7]; simpa using aF
   ·cases r with
    | none=>exact aW
    | some wb=>
     obtain⟨pg,bt,dq,eA,y,eX,lC,tR⟩:=aW;exact⟨pg,bt,dq,by omega,y,by rw[show wb.1 - i=(wb.1 - (i+1))+1 by omega]; simpa using eX,lC,tR⟩
  ·cases aD
theorem Xi {cM:TypeId} {k:U} {hz:Value} (hk:aO w R h μ k hz) (aD:kL P cM k=true) {es:List (U × U × Nat)} {ds:List MapEntry} {r:Option (Nat × U)} (ax:th w R h μ es ds) (Kd:jd P cM k es 0=some r) :
  ∃ cr,(Instr.findKey cM hz ds).run P w=.ok cr w/\N0 w R h μ k ds 0 r cr:=by
 obtain⟨cr,h1,ad⟩:=RR hk es ds 0 r ax Kd;refine⟨cr,?_,ad⟩;obtain⟨cs,m,rfl,aj,aF,_⟩:=Gw aD;unfold dW at aF;cases aJ:P.underlying cM with
 | none=>rw[aJ] at aF; cases aF
 | some d=>
  rw[aJ] at aF;unfold Instr.findKey;simp only[Sem.run_bind,cu aJ,Result.andThen_ok];cases ds with
  | nil=>simpa [Instr.findNow,Instr.findAsking] using h1
  | cons x ds=>
   have aC:Instr.findNow d hz (x::ds) 0=none:=by
    cases d<;>simp at aF<;>simp[Instr.findNow,Instr.sameNow]
   rw[aC];exact h1
theorem ahC (rel:b3 R B w h μ) {m:U} {fS:Value} {es:List (U × U × Nat)} (hm:mapOf h m=some es) (aq:aO w R h μ m fS) :
  (fS=.map none/\es=[])\/∃ b cg ey ds,m=.mp b/\h.f b=.map es ey/\μ b=some cg/\fS=.map (some cg.r)/\w.heap[cg.r]? = some (.map ds ey)/\th w R h μ es ds.toList:=by
 cases m<;>simp[mapOf] at hm
 ·subst hm; cases aq; exact .inl ⟨rfl,rfl⟩
 ·rename_i b;cases aq with
  | mp _ cg ag iq=>
   cases ah:h.f b<;>rw[ah] at hm<;>simp at hm;rename_i aoy ey;subst hm;have hblk:=rel.blk b cg iq;rw[ah] at hblk;obtain⟨ds,h1,ad,aj⟩:=hblk;refine .inr ⟨b,cg,ey,ds,rfl,ah,iq,rfl,h1,by simpa using ad,fun j k v bi ai=>?_⟩;obtain⟨x,aF,aW⟩:=aj j k v bi ai;exact⟨x,by simpa using aF,aW⟩
theorem MX {r:Nat} {es:Array MapEntry} {ey:Nat} (ag:w.heap[r]? = some (.map es ey)) :(getObj r).run P w=.ok (.map es ey) w:=by simp[getObj,Sem.run,ag]
theorem Xj {r:Nat} {s:ByteArray} {pos:Nat} (ag:w.heap[r]? = some (.stringIter s pos)) :(getObj r).run P w=.ok (.stringIter s pos) w:=by simp[getObj,Sem.run,ag]
theorem YF {t:TypeId} {z:U} (aw:yX P t=some z) :∃ v,(zeroValue t).run P w=.ok v w/\aO w R h μ z v:=by
 unfold yX at aw;cases av:P.info? t with
 | none=>rw[av] at aw; cases aw
 | some i=>
  rw[av] at aw;simp only[au5] at aw;cases aq:i.zero with
  | none=>rw[aq] at aw; cases aw
  | some v=>
   rw[aq] at aw;simp only[atA,Option.some.injEq] at aw; subst aw;exact⟨v,Xl av aq,.wr v⟩
theorem aO.X6 {a b:U} {h3 e0:Value} (aB:aO w R h μ a h3) (ag:aO w R h μ b e0) :aO w R h μ (.bG [a,b]) (.tuple #[h3,e0]) :=by
 refine .bG _ _ rfl fun j c v ah aq=>?_
 rcases j with _ | _ | j
 ·simp at ah aq; subst ah aq; exact aB
 ·simp at ah aq; subst ah aq; exact ag
 ·simp at ah
theorem aht (rel:b3 R B w h μ) {t:TypeId} {m k c:U} {fS hz:Value} {ok:Bool} (ak:GH P h t m k ok=some c) (hm:aO w R h μ m fS) (hk:aO w R h μ k hz) :
  ∃ v,(Instr.lookup t fS hz ok).run P w=.ok v w/\aO w R h μ c v:=by
 unfold GH at ak;split at ak
 ·rename_i cM l8 es aJ xW;split at ak
  ·cases ak
  ·rename_i dX;have aaU:∀ ds:List MapEntry,th w R h μ es ds->∃ cr,(Instr.findKey cM hz ds).run P w=.ok cr w ∧
     ((∃ i v,cr=some (i,v)/\∃ tH,aO w R h μ tH v/\c=if ok then .bG [tH,.bool true] else tH)\/(cr=none/\∃ z,yX P l8=some z/\c=if ok then .bG [z,.bool false] else z)) :=by
    intro ds ax;cases k2:jd P cM k es 0 with
    | none=>rw[k2] at ak; cases ak
    | some r=>
     obtain⟨cr,h1,ad⟩:=Xi hk dX ax k2;rw[k2] at ak;refine⟨cr,h1,?_⟩;cases r with
     | none=>
      cases ad;simp only at ak;cases aw:yX P l8 with
      | none=>rw[aw] at ak; cases ak
      | some z=>
       rw[aw] at ak;simp only[atA,Option.some.injEq] at ak;exact .inr ⟨rfl,z,rfl,ak.symm⟩
     | some wb=>
      obtain⟨pg,rfl,aF,_⟩:=ad;simp only[Option.some.injEq] at ak;exact .inl ⟨_,pg,rfl,_,aF,ak.symm⟩
   have fin:∀ (ds:List MapEntry) (em:Bool),th w R h μ es ds->∀ m:Sem Value,m.run P w=(((Instr.checkKey em 10000 cM hz).bind fun _=>(Instr.findKey cM hz ds).bind fun r=>match r with
     | some (_,v)=>pure (if ok=true then .tuple #[v,.bool true] else v)
     | none=>(zeroValue l8).bind fun z=>pure (if ok=true then .tuple #[z,.bool false] else z)) :Sem Value).run P w->∃ v,m.run P w=.ok v w/\aO w R h μ c v:=by
    intro ds em ax m hm;obtain⟨cr,h1,ad⟩:=aaU ds ax;have FD:∀ {α jB:Type} (a:Sem α) (f:α->Sem jB),a.bind f=a >>= f:=fun _ _=>rfl
    simp only[FD,Sem.run_bind,Xg em dX hk,Result.andThen_ok,h1] at hm;rcases ad with ⟨i,v,rfl,tH,aj,rfl⟩ | ⟨rfl,z,aj,rfl⟩
    ·simp only at hm;cases ok
     ·exact⟨v,by simpa using hm,aj⟩
     ·exact⟨.tuple #[v,.bool true],by simpa using hm,aO.X6 aj (.bool _)⟩
    ·obtain⟨v,aF,aW⟩:=YF (w:=w) (R:=R) (h:=h) (μ:=μ) aj;simp only[Sem.run_bind,aF,Result.andThen_ok] at hm;cases ok
     ·exact⟨v,by simpa using hm,aW⟩
     ·exact⟨.tuple #[v,.bool false],by simpa using hm,aO.X6 aW (.bool _)⟩
   have FD:∀ {α jB:Type} (a:Sem α) (f:α->Sem jB),a.bind f=a >>= f:=fun _ _=>rfl
   rcases ahC rel xW hm with ⟨rfl,rfl⟩ | ⟨b,cg,ey,ds,rfl,ag,iq,rfl,jN,ax⟩
   ·refine fin [] true ⟨rfl,fun j k v b ai=>by simp at ai⟩ _ ?_;unfold Instr.lookup;simp only[FD,Sem.run_bind,cu aJ,Result.andThen_ok,Sem.run_pure];cases dr:(Instr.checkKey true 10000 cM hz).run P w with
    | halt a b=>simp[dr]
    | ok a bW=>
     simp[dr];cases aeb:(Instr.findKey cM hz []).run P bW with
     | halt a b=>simp
     | ok r w2=>
      simp;cases r with
      | none=>cases (zeroValue l8).run P w2<;>simp
      | some x=>simp
   ·refine fin ds.toList ds.isEmpty ax _ ?_;unfold Instr.lookup;simp only[FD,Sem.run_bind,cu aJ,Result.andThen_ok,Sem.run_pure,MX jN];cases dr:(Instr.checkKey ds.isEmpty 10000 cM hz).run P w with
    | halt a b=>simp[dr]
    | ok a bW=>
     simp[dr];cases aeb:(Instr.findKey cM hz ds.toList).run P bW with
     | halt a b=>simp
     | ok r w2=>
      simp;cases r with
      | none=>cases (zeroValue l8).run P w2<;>simp
      | some x=>simp
 ·cases ak
theorem ahk (rel:b3 R B w h μ) {t ty:TypeId} {x c:U} {bE:Value} (ah:yl P h t x=some c) (af:aO w R h μ x bE) :∃ v,(Builtin.len_ #[t] ty #[bE]).run P w=.ok v w/\aO w R h μ c v:=by
 unfold yl at ah;split at ah
 ·rename_i cM l8 b aJ;split at ah
  ·rename_i es ey ag;simp only[Option.some.injEq] at ah; subst ah;cases af with
   | mp _ cg hk iq=>
    have hblk:=rel.blk b cg iq;rw[ag] at hblk;obtain⟨ds,h1,ad,aj⟩:=hblk;exact⟨.int .i64 ds.size,by simp[Builtin.len_,cu aJ,MX h1,goInt],by rw[ad]; exact .int _ _⟩
  ·cases ah
 ·cases ah
theorem ahA (rel:b3 R B w h μ) {t:TypeId} {r:Option Value} (aJ:∃ k e,P.underlying t=some (.map k e)) (ax:∀ x,r=some x->∃ k n,x=.int k n) :∃ v w' μ',(Instr.makeMap t r).run P w=.ok v w'/\dx w h μ w' (h.push (.map [] 0)) μ'/\b3 R B w' (h.push (.map [] 0)) μ'/\aO w' R (h.push (.map [] 0)) μ' (.mp h.n) v:=by
 have:=rel.Wy (w':=w.alloc (.map #[] 0)) (.map [] 0) (.map #[] 0) (k:=0) rfl rfl rfl rfl rfl ⟨#[],by show (w.heap.push _)[w.heap.size]? = _; simp,rfl,fun j k v b ai=>by simp at ai⟩;refine⟨.map (some w.heap.size),w.alloc (.map #[] 0),_,?_,this.1,this.2,?_⟩
 ·obtain⟨k,e,aJ⟩:=aJ;cases r with
  | none=>simp[Instr.makeMap,newObj,Sem.run]
  | some x=>
   obtain⟨k',n,rfl⟩:=ax x rfl;simp[Instr.makeMap,newObj,Sem.run,cu aJ,Go.asInt,Go.asIntOf]
 ·exact .mp h.n ⟨w.heap.size,0,0⟩ (by simp[eb,n0]) (by simp)
theorem VI (rel:b3 R B w h μ) {t:TypeId} {m k x:U} {fS hz bE:Value} {h' : aN} (nX:yp P h t m k x=some h') (hm:aO w R h μ m fS) (hk:aO w R h μ k hz) (af:aO w R h μ x bE) :
  ∃ w',(Instr.mapUpdate t fS hz bE).run P w=.ok () w'/\dx w h μ w' h' μ/\b3 R B w' h' μ:=by
 unfold yp at nX;split at nX
 ·rename_i cM l8 b aJ;split at nX
  ·rename_i es ey ag;split at nX
   ·cases nX
   ·rename_i dX;cases hm with
    | mp _ cg xR iq=>
     have hblk:=rel.blk b cg iq;rw[ag] at hblk;obtain⟨ds,h1,ad,aj⟩:=hblk;have aK:cg.r<w.heap.size:=by
      rcases auA cg.r w.heap.size with h | h
      ·exact h
      ·rw[au2 h] at h1; cases h1
     have ax:th w R h μ es ds.toList:=⟨by simpa using ad,fun j k v bi ai=>by obtain⟨y,aF,aW⟩:=aj j k v bi ai; exact⟨y,by simpa using aF,aW⟩⟩
     have lN:∀ o:Obj,(setObj cg.r o).run P w=.ok () { w with heap:=w.heap.setIfInBounds cg.r o }:=fun o=>by simp[setObj,Sem.run,h1]
     have lM:∀ (zt:List (U × U × Nat)) (zu:Array MapEntry) (BG:Nat),(∀ {w2:World} {ad:aN},Ext0 w h μ w2 ad μ->zu.size=zt.length/\∀ (j:Nat) (k v:U) (b:Nat),zt[j]? = some (k,v,b)->∃ x:MapEntry,zu[j]? = some x/\aO w2 R ad μ k x.key/\aO w2 R ad μ v x.val/\x.born=b)->
       dx w h μ { w with heap:=w.heap.setIfInBounds cg.r (.map zu BG) } (h.set b (.map zt BG)) μ/\b3 R B { w with heap:=w.heap.setIfInBounds cg.r (.map zu BG) } (h.set b (.map zt BG)) μ:=by
      intro zt zu BG aZ;refine rel.gG (k:=0) ag rfl rfl iq rfl rfl rfl (by simp) (fun k hk=>?_) (fun e=>?_)
      ·simp only; rw[auG]; rw[if_neg (fun aG=>hk aG.symm)]
      ·obtain⟨q1,gn⟩:=aZ e;exact⟨zu,by simp only; rw[auG]; simp[aK],q1,gn⟩
     unfold Instr.mapUpdate;simp only[Sem.run_bind,cu aJ,Result.andThen_ok,MX h1,Xg false dX hk];cases k2:jd P cM k es 0 with
     | none=>rw[k2] at nX; cases nX
     | some r=>
      rw[k2] at nX;obtain⟨cr,aF,aW⟩:=Xi hk dX ax k2;rw[aF];cases r with
      | none=>
       cases aW;simp only[Option.some.injEq] at nX; subst nX;have:=lM (es++[(k,x,ey)]) (ds.push { key:=hz,val:=bE,born:=ey }) (ey+1) (fun e=>⟨by simp[ad],fun j k' aY bi ai=>?_⟩)
       ·exact⟨_,by simp only[Result.andThen_ok]; rw[lN],this⟩
       ·rw[Array.getElem?_push];by_cases eO:j<es.length
        ·rw[ats eO] at ai;obtain⟨y,bt,dq,eA,eX⟩:=aj j k' aY bi ai;exact⟨y,by rw[if_neg (by omega)]; exact bt,dq.mY e,eA.mY e,eX⟩
        ·rw[atC (by omega)] at ai;have CB:j - es.length=0:=by
          rcases Nat.eq_zero_or_pos (j - es.length) with h | h
          ·exact h
          ·rw[atG (by simp; omega)] at ai; cases ai
         rw[CB] at ai;simp at ai;obtain⟨rfl,rfl,rfl⟩:=ai;exact⟨_,by rw[if_pos (by omega)],hk.mY e,af.mY e,rfl⟩
      | some wb=>
       obtain⟨i,v⟩:=wb;obtain⟨pg,rfl,bt,_,y,dq,eA,eX⟩:=aW;simp only[Option.some.injEq] at nX; subst nX;have se:ds[i]? = some y:=by simpa using dq
       have aQ:y.key=hz:=by rw[LJ dX eX,LJ dX hk]
       have vN:(Instr.keyThatStays (((ds[i]?).map (·.key)).getD hz) hz).run P w=.ok hz w:=by
        rw[se];simp only[atA,aud,aQ];rw[LJ dX hk];exact ajY dX
       have:=lM (es.modify i fun e=>(k,x,e.2.2)) (ds.modify i fun e=>{ e with key:=hz,val:=bE }) ey (fun e=>⟨by simp[ad],fun j k' aY bi ai=>?_⟩)
       ·refine⟨_,?_,this⟩;simp only[Result.andThen_ok,Sem.run_bind,vN];rw[lN]
       ·rw[List.getElem?_modify] at ai;rw[avu];cases m8:es[j]? with
        | none=>rw[m8] at ai; simp at ai
        | some gw=>
         obtain⟨i4,v0,g4⟩:=gw;rw[m8] at ai;obtain⟨YC,lC,tR,Ju,Sy⟩:=aj j i4 v0 g4 m8;rw[lC];by_cases ho:i=j
         ·simp[ho] at ai;obtain⟨rfl,rfl,rfl⟩:=ai;exact⟨{ YC with key:=hz,val:=bE },by simp[ho],hk.mY e,af.mY e,Sy⟩
         ·simp[ho] at ai;obtain⟨rfl,rfl,rfl⟩:=ai;exact⟨YC,by simp[ho],tR.mY e,Ju.mY e,Sy⟩
  ·cases nX
 ·cases nX
theorem ajm (rel:b3 R B w h μ) {t:TypeId} {x c:U} {bE:Value} {h' : aN} (ax:Hk P h t x=some (c,h')) (af:aO w R h μ x bE) :
  ∃ v w' μ',(Instr.range t bE).run P w=.ok v w'/\dx w h μ w' h' μ'/\b3 R B w' h' μ'/\aO w' R h' μ' c v:=by
 unfold Hk at ax;split at ax
 ·rename_i s aJ;simp only[Option.some.injEq,Prod.mk.injEq] at ax;obtain⟨rfl,rfl⟩:=ax;cases af;rename_i bs;have:=rel.Wy (w':=w.alloc (.stringIter bs 0)) (.iter bs.data.toList 0) (.stringIter bs 0) (k:=1) rfl rfl rfl rfl rfl ⟨bs,rfl,by show (w.heap.push _)[w.heap.size]? = _; simp⟩;refine⟨.pointer (some ⟨w.heap.size,0,none⟩),w.alloc (.stringIter bs 0),_,?_,this.1,this.2,?_⟩
  ·simp[Instr.range,cu aJ,newObj,Sem.run]
  ·exact .it h.n ⟨w.heap.size,0,0⟩ (by simp[eb,n0]) (by simp)
 ·cases ax
theorem ahN (rel:b3 R B w h μ) {x c:U} {bE:Value} {h' : aN} {ty:TypeId} (ax:Au h x=some (c,h')) (af:aO w R h μ x bE) :
  ∃ v w',(Instr.next bE true ty).run P w=.ok v w'/\dx w h μ w' h' μ/\b3 R B w' h' μ/\aO w' R h' μ c v:=by
 unfold Au at ax;split at ax
 ·rename_i b;split at ax
  ·rename_i s pos ag;cases af with
   | it _ cg xR iq=>
    have hblk:=rel.blk b cg iq;rw[ag] at hblk;obtain⟨bs,rfl,h1⟩:=hblk;have aK:cg.r<w.heap.size:=by
     rcases auA cg.r w.heap.size with h | h
     ·exact h
     ·rw[au2 h] at h1; cases h1
    have pL:(⟨bs.data.toList.toArray⟩:ByteArray)=bs:=by cases bs; simp
    have hq:bs.data.toList.length=bs.size:=by rw[avh]; rfl
    rw[pL] at ax;split at ax
    ·rename_i oP;have ay:pos<bs.size:=by rw[<-hq]; rw[awE] at oP; exact oP
     simp only[Option.some.injEq,Prod.mk.injEq] at ax;obtain⟨rfl,rfl⟩:=ax;have:=rel.gG (w':={ w with heap:=w.heap.setIfInBounds cg.r (.stringIter bs (pos+(Utf8.decode bs pos).2)) }) (k:=1) (c':=.iter bs.data.toList (pos+(Utf8.decode bs pos).2)) ag rfl rfl iq rfl rfl rfl (by simp)
      (fun k hk=>by simp only; rw[auG]; rw[if_neg (fun aG=>hk aG.symm)]) (fun e=>⟨bs,rfl,by simp only; rw[auG]; simp[aK]⟩)
     refine⟨.tuple #[.bool true,.int .i64 pos,.int .i32 (Utf8.decode bs pos).1],_,?_,this.1,this.2,?_⟩
     ·simp only[Instr.next,Sem.run_bind,Xj h1,Result.andThen_ok,if_pos ay];simp[setObj,Sem.run,h1,goInt]
     ·refine .bG _ _ rfl fun j c v ah aq=>?_
      rcases j with _ | _ | _ | j
      ·simp at ah aq; subst ah aq; exact .bool _
      ·simp at ah aq; subst ah aq; exact .int _ _
      ·simp at ah aq; subst ah aq; exact .int _ _
      ·simp at ah
    ·rename_i oP;have ay:¬ pos<bs.size:=by
      rw[<-hq]; intro aG;rw[<-awE] at aG; rw[aG] at oP; cases oP
     simp only[Option.some.injEq,Prod.mk.injEq] at ax;obtain⟨rfl,rfl⟩:=ax;refine⟨.tuple #[.bool false],w,?_,.refl _ _ _,rel,?_⟩
     ·simp only[Instr.next,Sem.run_bind,Xj h1,Result.andThen_ok,if_neg ay];simp
     ·refine .bG _ _ rfl fun j c v ah aq=>?_
      rcases j with _ | j
      ·simp at ah aq; subst ah aq; exact .bool _
      ·simp at ah
  ·cases ax
 ·cases ax
theorem Xh {blk:Nat}:∀ (n:Nat) (o:Nat) (ns:List Int) (acc:ByteArray),ns.length=n->(∀ j v,(ns.map (Value.int .u8))[j]? = some v->(load (⟨blk,o+j,none⟩:Addr)).run P w=.ok v w)->
  ∃ bs,(Extern.Bytes.loadBytes ⟨blk,o,none⟩ n acc).run P w=.ok bs w/\bs.data.toList=acc.data.toList++ns.map fun n=>UInt8.ofNat n.toNat
 | 0,o,ns,acc,ak,_=>⟨acc,by simp[Extern.Bytes.loadBytes],by rw[aug.1 ak]; simp⟩
 | n+1,o,[],acc,ak,_=>by simp at ak
 | n+1,o,x::ns,acc,ak,h=>by
  have aE:=h 0 _ rfl;obtain⟨bs,h1,ad⟩:=Xh n (o+1) ns (acc.push (UInt8.ofNat x.toNat)) (by simpa using ak) (fun j v ai=>by
   have:=h (j+1) v (by simpa using ai);rw[show o+(j+1)=o+1+j by omega] at this;exact this)
  refine⟨bs,?_,?_⟩
  ·unfold Extern.Bytes.loadBytes;rw[avY] at aE;simp only[Sem.run_bind,aE,Result.andThen_ok,Addr.l3];exact h1
  ·rw[ad]; simp
theorem OZ (rel:b3 R B w h μ) {x:U} {bE:Value} {l:List UInt8} (ag:r1 h x=some l) (af:aO w R h μ x bE) :∃ bs,(Extern.Bytes.bytesOf bE).run P w=.ok bs w/\bs.data.toList=l:=by
 unfold r1 at ag;split at ag
 ·simp only[Option.some.injEq] at ag; subst ag;cases af with
  | str bs=>exact⟨bs,by simp[Extern.Bytes.bytesOf],rfl⟩
 ·rename_i sr;split at ag
  ·rename_i cs n dj;obtain⟨bn,bh,vs,cC,k2⟩:=vq (P:=P) rel dj af;have aD:=k2 n (att _) w (fun _=>rfl);obtain⟨ns,rfl,rfl⟩:=IB cs vs l ag cC.1 cC.2;have nf:ns.length=n:=by have:=cC.1; simp at this; omega
   have CS:(ns.map (Value.int .u8)).take (n*1)=ns.map (Value.int .u8) :=atr (by simp; omega);rw[CS] at aD;have Ke:∃ a len cap,bE=.slice a len cap:=by
    cases af<;>first | exact⟨_,_,_,rfl⟩ | (simp[contents] at dj; done) | (exact absurd rfl (sr _))
   obtain⟨a,len,cap,rfl⟩:=Ke;simp only[Builtin.lenOf,Sem.run_pure,Result.ok.injEq] at bh;obtain⟨rfl,_⟩:=bh;cases a with
   | none=>
    simp only[Builtin.firstCells,Sem.run_pure,Result.ok.injEq] at aD;have mn:ns=[] :=by
     have:=congrArg Array.toList aD.1;simpa using this.symm
    subst mn;exact⟨.empty,by simp[Extern.Bytes.bytesOf],rfl⟩
   | some a=>
    by_cases ub:len=0
    ·subst ub;have:ns=[] :=aug.1 nf;subst this;exact⟨.empty,by simp[Extern.Bytes.bytesOf,Extern.Bytes.loadBytes],rfl⟩
    have aB:∃ blk o,a=⟨blk,o,none⟩:=by
     cases af with
     | au=>exact⟨_,_,rfl⟩
     | bD=>exact⟨_,_,rfl⟩
     | fw=>exact absurd rfl ub
     | hF=>exact absurd rfl ub
     | bad=>simp[contents] at dj
     | go _ _ _ _ _ _ _ _ h1 ad ar=>
      exfalso;simp only[contents] at dj;rcases ar with ar | ⟨n,hL,ar,aK⟩
      ·rw[ar] at dj; cases dj
      ·rw[ar] at dj;simp only at dj;split at dj
       ·rename_i aG; omega
       ·cases dj
    obtain⟨blk,o,rfl⟩:=aB;simp only[Builtin.firstCells,auW] at aD;unfold loadCells at aD;obtain⟨l,h1,ad,aj⟩:=loadCellsFrom_ok _ _ _ _ _ _ aD;have aF:l=ns.map (Value.int .u8) :=by
     have:=congrArg Array.toList ad;simpa using this.symm
    subst aF;obtain⟨bs,aW,bt⟩:=Xh (P:=P) (w:=w) (blk:=blk) len o ns .empty nf (fun j v ai=>by
     have:=aj j v ai;rw[Addr.l3,auF] at this;exact this)
    exact⟨bs,by simpa [Extern.Bytes.bytesOf] using aW,by rw[bt]; rfl⟩
  ·cases ag
theorem Rj:∀ (a b:List UInt8),(match (List.range (min a.length b.length)).find? fun i=>a.getD i 0 != b.getD i 0 with
  | some i=>if a.getD i 0<b.getD i 0 then (-1:Int) else 1
  | none=>if a.length<b.length then -1 else if a.length > b.length then 1 else 0)=nI a b
 | [],[]=>by simp[nI]
 | [],_::_=>by simp[nI]
 | _::_,[]=>by simp[nI]
 | x::a,y::b=>by
  have aH:=Rj a b;simp only[atL,Nat.add_min_add_right,List.range_succ_eq_map,avZ,List.getD_cons_zero];by_cases kb:x=y
  ·subst kb;simp only[bne_self_eq_false,nI,if_true];rw[<-aH,List.find?_map];have zS:((fun i=>(x::a).getD i 0 != (x::b).getD i 0) ∘ Nat.succ)=fun i=>a.getD i 0 != b.getD i 0:=by
    funext i; simp
   rw[zS];cases aD:(List.range (min a.length b.length)).find? fun i=>a.getD i 0 != b.getD i 0 with
   | none=>simp only[Option.map_none]; congr 1<;>simp
   | some i=>simp
  ·have bx:(x != y)=true:=by simp[kb]
   simp only[bx,nI,if_neg kb,List.getD_cons_zero]
theorem RT {α:Type} {p q:α->Bool}:∀ (l:List α),(∀ x∈l,p x=q x)->l.find? p=l.find? q
 | [],_=>rfl
 | x::l,h=>by
  rw[avZ,avZ,h x (by simp),RT l (fun y az=>h y (by simp[az]))]
theorem zl (a b:ByteArray) :Extern.BytealgCompare.cmp a b=nI a.data.toList b.data.toList:=by
 rw[<-Rj];unfold Extern.BytealgCompare.cmp;have ar:∀ (a:ByteArray) (i:Nat),i<a.size->a[i]! = a.data.toList.getD i 0:=fun a i av=>by
  simp only[atE,au9];rw[getElem!_pos a i av];have:i<a.data.size:=av;rw[auT this]; rfl
 have ak:∀ a:ByteArray,a.data.toList.length=a.size:=fun a=>by rw[avh]; rfl
 rw[ak,ak];have Kd:(List.range (min a.size b.size)).find? (fun i=>a[i]! != b[i]!)=(List.range (min a.size b.size)).find? (fun i=>a.data.toList.getD i 0 != b.data.toList.getD i 0) :=by
  apply RT;intro i av;have:=at4.1 av;rw[ar a i (by omega),ar b i (by omega)]
 rw[Kd];cases aD:(List.range (min a.size b.size)).find? (fun i=>a.data.toList.getD i 0 != b.data.toList.getD i 0) with
 | none=>rfl
 | some i=>
  have:=at4.1 (awh aD);simp only;rw[ar a i (by omega),ar b i (by omega)]
theorem abS {fn:Func} (aC:fn.name= "internal/bytealg.Compare") (ap:fn.origin= ""\/fn.origin= "internal/bytealg.Compare") :Extern.find fn=some Extern.BytealgCompare.compare/\Extern.findNext fn=none:=by
 constructor
 ·unfold Extern.find;simp only[aC];rfl
 ·unfold Extern.findNext;simp only[aC];rcases ap with ap | ap<;>rw[ap]<;>rfl
theorem abG (rel:b3 R B w h μ) {f:FuncId} {fn:Func} {args:List U} {vs:Array Value} {c:U} (aD:P.funcs[f]? = some fn) (av:C4 fn=true) (ah:BJ h args=some c)
  (ak:vs.size=args.length) (aq:∀ (j:Nat) (c:U) (v:Value),args[j]? = some c->vs[j]? = some v->aO w R h μ c v) :
  ∃ v,(callFunc f vs).run P w=.ok (.value v) w/\aO w R h μ c v:=by
 unfold C4 at av;simp only[atv,avm,beq_iff_eq] at av;obtain⟨⟨ag,aC⟩,ap⟩:=av;unfold BJ at ah;split at ah
 ·rename_i x y;split at ah
  ·rename_i a b aB bH;simp only[Option.some.injEq] at ah; subst ah;simp only[atL,at7] at ak;have mn:vs=#[vs[0],vs[1]] :=by
    apply Array.ext
    ·simpa using ak
    ·intro i h1 ad;rcases (show i=0\/i=1 by simp at ad; omega) with rfl | rfl<;>rfl
   obtain⟨ba,h1,ad⟩:=OZ (P:=P) rel aB (aq 0 x vs[0] rfl (by simp[ak]));obtain⟨anl,aj,aF⟩:=OZ (P:=P) rel bH (aq 1 y vs[1] rfl (by simp[ak]));obtain⟨aQ,bF⟩:=abS aC ap;refine⟨.int .i64 (nI a b),?_,.int _ _⟩;rw[mn];have bx:fn.name≠ "runtime.NumGoroutine":=by rw[aC]; decide
   have ag:=awi.1 ag;have tU:Extern.BytealgCompare.compare #[vs[0],vs[1]]=(do pure (goInt (Extern.BytealgCompare.cmp (<-Extern.Bytes.bytesOf vs[0]) (<-Extern.Bytes.bytesOf vs[1])))) :=rfl;simp[callFunc,aD,bx,ag,aQ,bF,mark,Sem.run,tU,h1,aj,zl,ad,aF,goInt]
  ·cases ah
 ·cases ah
end

section
variable {P:Program} {w:World} {R:Nat->Prop} {B:Nat} {h:aN} {μ:cH}
inductive wZ:Value->Value->Prop where
 | bool (a b:Bool) :wZ (.bool a) (.bool b)
 | agg (a b:Array Value) :wZ (.agg a) (.agg b)
 | slice (a:Option Addr) (l c:Nat) (eQ:Option Addr) (l' c' : Nat) :wZ (.slice a l c) (.slice eQ l' c')
theorem abw {d:Nat} {t:TypeId} {x y:U} {b:Bool} {bE fN:Value} (ao:ez P d t x y=some b) (af:aO w R h μ x bE) (az:aO w R h μ y fN)
  (av:∀ k a k' bi,x=.int k a->y=.int k' bi->False) (al:∀ a bi,x=.str a->y=.str bi->False) :wZ bE fN:=by
 cases d with
 | zero=>simp[ez] at ao
 | succ d=>
  unfold ez at ao;split at ao
  ·cases af; cases az; exact .bool _ _
  ·exact (av _ _ _ _ rfl rfl).elim
  ·exact (al _ _ rfl rfl).elim
  ·cases af; cases az; exact .agg _ _
  ·cases af; cases az; exact .agg _ _
  ·cases af; cases az; exact .slice _ _ _ _ _ _
  ·cases af; cases az<;>exact .slice _ _ _ _ _ _
  ·cases af; cases az<;>exact .slice _ _ _ _ _ _
  ·cases af<;>cases az<;>exact .slice _ _ _ _ _ _
  ·cases af<;>cases az<;>exact .slice _ _ _ _ _ _
  ·cases ao
theorem abs {op:BinOp} {t:TypeId} {uF sV:Operand} {bE fN:Value} (al:wZ bE fN) (ar:∀ a b,bE=.agg a->fN=.agg b->P.eqGuardType P.depth t=false) :(eqGuard op t uF sV bE fN).run P w=.ok () w:=by
 cases al with
 | bool a b=>cases op<;>rfl
 | agg a b=>exact run_eqGuard_agg w op t uF sV a b (ar a b rfl rfl)
 | slice=>cases op<;>rfl
theorem ajX {t:TypeId} {bE fN:Value} {b:Bool} (al:wZ bE fN) (gk:(Op.equalIn 10000 t bE fN).run P w=.ok b w) :
  (binOp .eql t bE fN).run P w=.ok (.bool b) w/\(binOp .neq t bE fN).run P w=.ok (.bool (!b)) w:=by
 have aZ:(Op.equal t bE fN).run P w=.ok b w:=gk;cases al<;>constructor<;>simp[binOp,aZ]
theorem abr {op:BinOp} {t:TypeId} {uF sV:Operand} {k k' : IntKind} {a b:Int}:(eqGuard op t uF sV (.int k a) (.int k' b)).run P w=.ok () w:=by
 cases op<;>rfl
theorem abt {op:BinOp} {t:TypeId} {uF sV:Operand} {a b:ByteArray}:(eqGuard op t uF sV (.string a) (.string b)).run P w=.ok () w:=by
 cases op<;>rfl
theorem ZR {op:BinOp} {t:TypeId} {uF sV:Operand} {x y c:U} {bE fN:Value} (ah:gi P op t x y=some c) (af:aO w R h μ x bE) (az:aO w R h μ y fN) :
  ∃ v,((do eqGuard op t uF sV bE fN; binOp op t bE fN:Sem Value)).run P w=.ok v w/\aO w R h μ c v:=by
 unfold gi at ah;split at ah
 ·cases af; cases az;obtain⟨v,h1,ad⟩:=ZS (P:=P) (w:=w) (R:=R) (h:=h) (μ:=μ) (t:=t) ah;exact⟨v,by simp[abr,h1],ad⟩
 ·cases af; cases az;obtain⟨v,h1,ad⟩:=ZT (P:=P) (w:=w) (R:=R) (h:=h) (μ:=μ) (t:=t) ah;exact⟨v,by simp[abt,h1],ad⟩
 ·rename_i aeY sr;have key:∀ b,xk P t x y=true->ez P 10000 t x y=some b->wZ bE fN/\(eqGuard op t uF sV bE fN).run P w=.ok () w ∧
    (binOp .eql t bE fN).run P w=.ok (.bool b) w/\(binOp .neq t bE fN).run P w=.ok (.bool (!b)) w:=by
   intro b dG ao;have oW:=abw ao af az aeY sr;have ar:∀ a b,bE=.agg a->fN=.agg b->P.eqGuardType P.depth t=false:=by
    rintro a b rfl rfl;cases af with
    | aM cs _ _ _ _=>
     cases az with
     | aM cs' _ _ _ _=>simpa [xk] using dG
     | bad=>simp[ez] at ao
    | bad=>cases az<;>simp[ez] at ao
   have aZ:=I8 10000 t x y b bE fN ao af az;obtain⟨b9,b0⟩:=ajX oW aZ;exact⟨oW,abs oW ar,b9,b0⟩
  split at ah
  ·split at ah
   ·rename_i dG;cases ao:ez P 10000 t x y with
    | none=>rw[ao] at ah; cases ah
    | some b=>
     rw[ao] at ah;simp only[atA,Option.some.injEq] at ah; subst ah;obtain⟨_,b9,b0,_⟩:=key b dG ao;exact⟨.bool b,by simp[b9,b0],.bool _⟩
   ·cases ah
  ·split at ah
   ·rename_i dG;cases ao:ez P 10000 t x y with
    | none=>rw[ao] at ah; cases ah
    | some b=>
     rw[ao] at ah;simp only[atA,Option.some.injEq] at ah; subst ah;obtain⟨_,b9,_,b0⟩:=key b dG ao;exact⟨.bool (!b),by simp[b9,b0],.bool _⟩
   ·cases ah
  ·cases ah
theorem alJ {op:UnOp} {x c:U} {bE:Value} (ah:qs op x=some c) (af:aO w R h μ x bE) :∃ v,(Op.unary op bE).run P w=.ok v w/\aO w R h μ c v:=by
 unfold qs at ah;split at ah
 ·simp only[Option.some.injEq] at ah; subst ah;cases af;exact⟨_,by simp[Op.unary],.bool _⟩
 ·simp only[Option.some.injEq] at ah; subst ah;cases af;refine⟨_,?_,.int _ _⟩;simp only[Op.unary]; rfl
 ·simp only[Option.some.injEq] at ah; subst ah;cases af;refine⟨_,?_,.int _ _⟩;simp only[Op.unary]; rfl
 ·cases ah
theorem Ma {aA:Operand->U} {dV:Operand->Value} (cY:∀ x,aO w R h μ (aA x) (dV x)) (o:Option Operand) :w4 w R h μ (o.map aA) (o.map dV) :=by
 cases o with
 | none=>trivial
 | some x=>exact cY x
def Bh (P:Program) (R:Nat->Prop) (B:Nat) (w:World) (h:aN) (μ:cH) (r:Result Next) :pp->Prop
 | .val c h'=>Good R B w h μ r c h'
 | .call f args h'=>h'=h/\∃ vs:Array Value,r=.ok (.enter f vs) w/\vs.size=args.length/\∀ (j:Nat) (c:U) (v:Value),args[j]? = some c->vs[j]? = some v->aO w R h μ c v
theorem Good.mk {r:Result Next} {c:U} {h' : aN} {v:Value} {w' : World} {μ' : cH} (ax:r=.ok (.value v) w') (ao:dx w h μ w' h' μ') (ak:b3 R B w' h' μ') (aq:aO w' R h' μ' c v) :Good R B w h μ r c h':=
 ⟨v,w',μ',.inl ax,ao,ak,aq⟩
theorem aaf (rel:b3 R B w h μ) {b:Builtin} {ts:Array TypeId} {ty:TypeId} {consts:Array Bool} {args:List U} {vs:Array Value} {r:pp} (al:pw P h b ts.toList args=some r)
  (ak:vs.size=args.length) (aq:∀ (j:Nat) (c:U) (v:Value),args[j]? = some c->vs[j]? = some v->aO w R h μ c v) :Bh P R B w h μ ((builtin b ts ty consts vs).run P w) r:=by
 have one:∀ x,args=[x]->∃ bE,vs=#[bE]/\aO w R h μ x bE:=by
  intro x af;subst af;simp only[atL,at7] at ak;refine⟨vs[0],?_,aq 0 x _ rfl (by simp[ak])⟩;apply Array.ext
  ·simpa using ak
  ·intro i h1 ad;have:i=0:=by omega
   subst this; rfl
 have two:∀ x y,args=[x,y]->∃ bE fN,vs=#[bE,fN]/\aO w R h μ x bE/\aO w R h μ y fN:=by
  intro x y af;subst af;simp only[atL,at7] at ak;refine⟨vs[0],vs[1],?_,aq 0 x _ rfl (by simp[ak]),aq 1 y _ rfl (by simp[ak])⟩;apply Array.ext
  ·simpa using ak
  ·intro i h1 ad;rcases (show i=0\/i=1 by simp at ad; omega) with rfl | rfl<;>rfl
 have In:∀ t,ts.toList=[t]->ts=#[t] :=fun t aI=>by apply Array.toList_inj.1; simpa using aI
 have OA:∀ t u,ts.toList=[t,u]->ts=#[t,u] :=fun t u aI=>by apply Array.toList_inj.1; simpa using aI
 unfold pw at al;split at al
 ·rename_i t x nh;obtain⟨bE,rfl,af⟩:=one x rfl;obtain rfl:=In t nh;split at al
  ·rename_i c ah;simp only[Option.some.injEq] at al; subst al;obtain⟨v,h1,ad⟩:=ahk (P:=P) (ty:=ty) rel ah af;exact Good.mk (by simp[builtin,h1]) (.refl _ _ _) rel ad
  cases ah:yk P t x with
  | none=>rw[ah] at al; cases al
  | some c=>
   rw[ah] at al;simp only[atA,Option.some.injEq] at al; subst al;obtain⟨v,h1,ad⟩:=ahl (P:=P) (u:=t) (ty:=ty) ah af;exact Good.mk (by simp[builtin,h1]) (.refl _ _ _) rel ad
 ·rename_i t u s x nh;obtain⟨pd,bE,rfl,su,af⟩:=two s x rfl;obtain rfl:=OA t u nh;split at al
  ·rename_i k aJ;cases ah:Bp P h t s x with
   | none=>rw[ah] at al; cases al
   | some c=>
    obtain⟨c,h'⟩:=c;rw[ah] at al;simp only[atA,Option.some.injEq] at al; subst al;obtain⟨v,w',μ',h1,ad,aj,aF⟩:=ZD (ty:=ty) rel aJ ah su af;exact Good.mk (by simp[builtin,h1]) ad aj aF
  ·cases al
  ·rename_i oR nV;cases ah:rY P h t s x with
   | none=>rw[ah] at al; cases al
   | some c=>
    obtain⟨c,h'⟩:=c;rw[ah] at al;simp only[atA,Option.some.injEq] at al; subst al;have aJ:Av P u:=by
     cases bq:P.underlying u with
     | none=>exact absurd bq nV
     | some d=>exact⟨d,bq,fun k hk=>oR k (by rw[bq,hk])⟩
    obtain⟨v,w',μ',h1,ad,aj,aF⟩:=Im (ty:=ty) rel aJ ah su af;exact Good.mk (by simp[builtin,h1]) ad aj aF
 ·rename_i t u d x nh;obtain⟨I1,bE,rfl,bq,af⟩:=two d x rfl;obtain rfl:=OA t u nh;cases ah:zm P h t d x with
  | none=>rw[ah] at al; cases al
  | some c=>
   obtain⟨c,h'⟩:=c;rw[ah] at al;simp only[atA,Option.some.injEq] at al; subst al;obtain⟨v,w',h1,ad,aj,aF⟩:=aaT (u:=u) (ty:=ty) rel ah bq af;exact Good.mk (by simp[builtin,h1]) ad aj aF
 ·rename_i t x nh;obtain⟨bE,rfl,af⟩:=one x rfl;obtain rfl:=In t nh;cases ah:ze P t x with
  | none=>rw[ah] at al; cases al
  | some c=>
   rw[ah] at al;simp only[atA,Option.some.injEq] at al; subst al;obtain⟨v,h1,ad⟩:=aao (P:=P) (ty:=ty) ah af;exact Good.mk (by simp[builtin,h1]) (.refl _ _ _) rel ad
 ·rename_i t x nh;obtain⟨bE,rfl,af⟩:=one x rfl;obtain rfl:=In t nh;cases ah:zi P h t x with
  | none=>rw[ah] at al; cases al
  | some h'=>
   rw[ah] at al;simp only[atA,Option.some.injEq] at al; subst al;obtain⟨w',h1,ad,aj⟩:=aaA (P:=P) (ty:=ty) rel ah af;exact Good.mk (v:=.tuple #[]) (by simp[builtin,h1]) ad aj (.bG [] #[] rfl (fun _ _ _ aG=>by simp at aG))
 ·rename_i x y;obtain⟨bE,fN,rfl,af,az⟩:=two x y rfl;cases ah:Ar x y with
  | none=>rw[ah] at al; cases al
  | some c=>
   rw[ah] at al;simp only[atA,Option.some.injEq] at al; subst al;unfold Ar at ah;split at ah
   ·split at ah
    ·rename_i hk; subst hk;simp only[Option.some.injEq] at ah; subst ah;cases af; cases az;refine Good.mk (v:=.int _ _) ?_ (.refl _ _ _) rel (.int _ _);simp[builtin,Builtin.min_,Builtin.min2]
    ·cases ah
   ·cases ah
 ·rename_i x y;obtain⟨bE,fN,rfl,af,az⟩:=two x y rfl;cases ah:uz x y with
  | none=>rw[ah] at al; cases al
  | some c=>
   rw[ah] at al;simp only[atA,Option.some.injEq] at al; subst al;unfold uz at ah;split at ah
   ·split at ah
    ·rename_i hk; subst hk;simp only[Option.some.injEq] at ah; subst ah;cases af; cases az;refine Good.mk (v:=.int _ _) ?_ (.refl _ _ _) rel (.int _ _);simp[builtin,Builtin.max_,Builtin.max2]
    ·cases ah
   ·cases ah
 ·cases al
theorem Q1 {f:FuncId} {fn:Func} {vs:Array Value} (aD:P.funcs[f]? = some fn) (ag:fn.body.isSome=true) (aC:fn.name≠ "runtime.NumGoroutine") :(callFunc f vs).run P w=.ok (.enter f vs) w:=by
 have bH:fn.body≠none:=fun aG=>by rw[aG] at ag; cases ag
 simp[callFunc,aD,aC,bH]
theorem LM {aA:Operand->U} {dV:Operand->Value} (cY:∀ x,aO w R h μ (aA x) (dV x)) (xs:Array Operand) :
  ∀ (j:Nat) (c:U) (v:Value),(xs.toList.map aA)[j]? = some c->(xs.map dV)[j]? = some v->aO w R h μ c v:=by
 intro j c v ai aq;rw[atw] at ai;rw[avI] at aq;cases ap:xs[j]? with
 | none=>simp[ap] at aq
 | some o=>
  simp[ap] at ai aq;subst ai aq;exact cY o
theorem ahG {t:TypeId} {name:String} {g:FuncId} (hm:yq P t name=some g) (u:Value) :(Go.method (P.types.size+Made.depth) t u name).run P w=.ok (g,u) w:=by
 unfold yq at hm;split at hm
 ·cases hm
 ·cases hm
 ·rename_i Ab K5;split at hm
  ·rename_i i av;split at hm
   ·rename_i m aD;split at hm
    ·rename_i f ay j5;cases hm;obtain⟨k,hk⟩:∃ k,P.types.size+Made.depth=k+1:=⟨P.types.size+Made.depth - 1,by unfold Made.depth; omega⟩
     rw[hk];cases bq:P.underlying t with
     | none=>exact absurd bq K5
     | some d=>
      have apN:m.path=#[] :=Array.toList_eq_nil_iff.1 ay;cases d<;>first
       | (exfalso; exact Ab _ bq)
       | simp[Go.method,typeInfo,av,aD,ay,j5,follow,receiverAt,cu bq,Place.get]
    ·cases hm
   ·cases hm
  ·cases hm
theorem ak5 {t NU:TypeId} {ok:Bool} {z c x:U} {v:Value} (aw:HI P t=some z) (ah:AV t z ok x=some c) (af:aO w R h μ x v) :
  ∃ aY,(Instr.typeAssert v NU t ok).run P w=.ok aY w/\aO w R h μ c aY:=by
 unfold HI at aw;split at aw
 ·cases aw
 ·cases aw
 ·rename_i Ab K5;cases bq:P.underlying t with
  | none=>exact absurd bq K5
  | some d=>
   obtain⟨zv,sE,lc⟩:=YF (P:=P) (w:=w) (R:=R) (h:=h) (μ:=μ) aw;have two:∀ (a:U) (h3:Value) (q:Bool),aO w R h μ a h3->aO w R h μ (.bG [a,.bool q]) (.tuple #[h3,.bool q]) :=by
    intro a h3 q aB;refine .bG _ _ rfl (fun j c v ai aq=>?_)
    match j,ai,aq with
    | 0,ai,aq=>simp at ai aq; subst ai aq; exact aB
    | 1,ai,aq=>simp at ai aq; subst ai aq; exact .bool q
    | j+2,ai,aq=>simp at ai
   cases x<;>simp only[AV] at ah<;>try (cases ah; done)
   case i7=>
    cases af;cases ok<;>simp only at ah<;>cases ah;refine⟨.tuple #[zv,.bool false],?_,two _ _ _ lc⟩;cases d<;>first
     | (exfalso; exact Ab _ bq)
     | simp[Instr.typeAssert,cu bq,sE]
   case gA gb h5=>
    cases af with
    | gA _ _ u aJ=>
     split at ah
     ·rename_i aI;have aI:=auj aI;subst aI;cases ok<;>simp only at ah<;>cases ah
      ·refine⟨u,?_,aJ⟩;cases d<;>first
        | (exfalso; exact Ab _ bq)
        | simp[Instr.typeAssert,cu bq]
      ·refine⟨.tuple #[u,.bool true],?_,two _ _ _ aJ⟩;cases d<;>first
        | (exfalso; exact Ab _ bq)
        | simp[Instr.typeAssert,cu bq]
     ·rename_i aI;have aI:gb≠t:=fun h=>by rw[h,awj] at aI; cases aI
      cases ok<;>simp only at ah<;>cases ah;refine⟨.tuple #[zv,.bool false],?_,two _ _ _ lc⟩;cases d<;>first
       | (exfalso; exact Ab _ bq)
       | simp[Instr.typeAssert,cu bq,sE,aI]
theorem aak (rel:b3 R B w h μ) {aA:Operand->U} {dV:Operand->Value} (cY:∀ x,aO w R h μ (aA x) (dV x)) {c:Call} {ty:TypeId} {r:pp} (al:vd P h aA c=some r) :
  Bh P R B w h μ ((do let d <-resolve dV c ty; invoke d.target d.args:Sem Next).run P w) r:=by
 unfold vd at al;split at al
 ·rename_i b ag;have:=fun consts=>aaf (P:=P) (b:=b) (ts:=c.argTypes) (ty:=ty) (consts:=consts) (args:=c.args.toList.map aA) (vs:=c.args.map dV) rel al (by simp)
   (fun j x v ai aq=>by
    rw[atw] at ai;rw[avI] at aq;cases ap:c.args[j]? with
    | none=>simp[ap] at aq
    | some o=>
     simp[ap] at ai aq;subst ai aq;exact cY o)
  simp only[resolve,ag,Sem.run_bind,Sem.run_pure,Result.andThen_ok,invoke];exact this _
 ·rename_i f aD;split at al
  ·rename_i g first fI j5
   have aq:=cY f;rw[j5] at aq;cases vJ:dV f with
   | func aoQ fs cs=>
    rw[vJ] at aq;cases aq with
    | fn _ _ _ _ _ h1 ad aj aF=>
     split at al
     ·rename_i fn zS;have Fw:∀ (j:Nat) (x:U) (v:Value),(first++c.args.toList.map aA++fI)[j]? = some x->(fs++c.args.map dV++cs)[j]? = some v->aO w R h μ x v:=by
       intro j x v ai lb;by_cases pU:j<first.length
       ·rw[at1,ats pU] at ai;rw[avH,aut (by omega)] at lb;exact aj j x v ai lb
       ·by_cases oP:j<first.length+c.args.size
        ·rw[ats (by simp; omega),atC (by omega),atw] at ai;rw[aut (by simp; omega),avx (by omega),avI,h1] at lb;cases ap:c.args[j - first.length]? with
         | none=>simp[ap] at lb
         | some o=>
          simp[ap] at ai lb;subst ai lb;exact cY o
        ·rw[atC (by simp; omega)] at ai;rw[avx (by simp; omega)] at lb;refine aF _ x v ai ?_;simpa [h1] using lb
      split at al
      ·rename_i jh;simp only[Option.some.injEq] at al; subst al;refine⟨rfl,fs++c.args.map dV++cs,?_,by simp[h1,ad],Fw⟩;simp[resolve,aD,vJ,Deferred.ofValue,invoke,Q1 zS jh.1 jh.2]
      ·split at al
       ·rename_i tU;cases de:BJ h (first++c.args.toList.map aA++fI) with
        | none=>rw[de] at al; cases al
        | some an0=>
         rw[de] at al;simp only[atA,Option.some.injEq] at al; subst al;obtain⟨v,aQ,bF⟩:=abG (P:=P) (vs:=fs++c.args.map dV++cs) rel zS tU de (by simp[h1,ad]) Fw;rw[avH] at aQ;exact Good.mk (by simp[resolve,aD,vJ,Deferred.ofValue,invoke,aQ]) (.refl _ _ _) rel bF
       ·cases al
     ·cases al
   | _=>rw[vJ] at aq; cases aq
  ·cases al
 ·rename_i x name ah;split at al
  ·rename_i t v0 af;have aq:=cY x;rw[af] at aq;split at al
   ·rename_i g hm;split at al
    ·rename_i fn zS;split at al
     ·rename_i jh;simp only[Option.some.injEq] at al; subst al;cases vJ:dV x with
      | iface gb u=>
       rw[vJ] at aq;cases aq with
       | gA _ _ _ aJ=>
        refine⟨rfl,#[u]++c.args.map dV,?_,by simp; omega,?_⟩
        ·have aeS:=ahG (P:=P) (w:=w) hm u;have aE:(#[Value.iface t u]++c.args.map dV)[0]? = some (Value.iface t u) :=by rw[aut (by simp)]; rfl
         have hq:(c.args.map dV).extract 0 c.args.size=c.args.map dV:=by
          apply Array.ext';simp[atr]
         simp[aE,hq,resolve,ah,vJ,invoke,callMethod,aeS,Q1 zS jh.1 jh.2]
        ·intro j x v ai lb;cases j with
         | zero=>
          rw[aut (by simp)] at lb;simp at ai lb; subst ai lb; exact aJ
         | succ j=>
          rw[at5] at ai;rw[avx (by simp)] at lb;exact LM cY c.args j x v ai (by simpa using lb)
      | _=>rw[vJ] at aq; cases aq
     ·cases al
    ·cases al
   ·cases al
  ·cases al
theorem Mk {aA:Operand->U} {dV:Operand->Value} (cY:∀ x,aO w R h μ (aA x) (dV x)) (cE:Array (Nat × Operand)) :
  (cE.map fun (i,x)=>(i,dV x)).size=(cE.toList.map fun p=>(p.1,aA p.2)).length ∧
  ∀ (j:Nat) (p:Nat × U) (bI:Nat × Value),(cE.toList.map fun p=>(p.1,aA p.2))[j]? = some p->(cE.map fun (i,x)=>(i,dV x))[j]? = some bI->bI.1=p.1/\aO w R h μ p.2 bI.2:=by
 refine⟨by simp,fun j p bI ai ej=>?_⟩;rw[atw] at ai;rw[avI] at ej;cases ap:cE[j]? with
 | none=>simp[ap] at ej
 | some o=>
  simp[ap] at ai ej;subst ai ej;exact⟨rfl,cY o.2⟩
theorem Nf (rel:b3 R B w h μ) {aA:Operand->U} {dV:Operand->Value} (cY:∀ x,aO w R h μ (aA x) (dV x)) (o:Oper) {r:pp} (al:cV P h aA o.op=some r) :
  Bh P R B w h μ ((execOp dV o).run P w) r:=by
 obtain⟨dst,op,type,pos,after,guard⟩:=o;have o3:∀ {x:Option U} {m:Sem Value},(∀ c,x=some c->∃ v,m.run P w=.ok v w/\aO w R h μ c v)->x.map (fun y=>pp.val y h)=some r->
   Bh P R B w h μ ((do pure (.value (<-m)) :Sem Next).run P w) r:=by
  intro x m af ax;cases q6:x with
  | none=>rw[q6] at ax; cases ax
  | some c=>
   rw[q6] at ax;simp only[atA,Option.some.injEq] at ax; subst ax;obtain⟨v,h1,ad⟩:=af c q6;exact Good.mk (by simp[h1]) (.refl _ _ _) rel ad
 have G2:∀ {x:Option (U × aN)} {m:Sem Value},(∀ c h',x=some (c,h')->∃ v w' μ',m.run P w=.ok v w'/\dx w h μ w' h' μ'/\b3 R B w' h' μ'/\aO w' R h' μ' c v)->x.map (fun y=>pp.val y.1 y.2)=some r->
   Bh P R B w h μ ((do pure (.value (<-m)) :Sem Next).run P w) r:=by
  intro x m af ax;cases q6:x with
  | none=>rw[q6] at ax; cases ax
  | some c=>
   obtain⟨c,h'⟩:=c;rw[q6] at ax;simp only[atA,Option.some.injEq] at ax; subst ax;obtain⟨v,w',μ',h1,ad,aj,aF⟩:=af c h' q6;exact Good.mk (by simp[h1]) ad aj aF
 cases op
 case move x=>
  simp only[cV,Option.some.injEq] at al; subst al;exact Good.mk (by simp[execOp]) (.refl _ _ _) rel (cY x)
 case assign x=>
  simp only[cV,Option.some.injEq] at al; subst al;exact Good.mk (by simp[execOp]) (.refl _ _ _) rel (cY x)
 case pick c a b=>
  simp only[cV] at al;have jM:=cY c;cases ah:aA c<;>rw[ah] at al jM<;>simp only at al<;>try (cases al; done)
  simp only[Option.some.injEq] at al; subst al;cases aq:dV c<;>rw[aq] at jM<;>try (cases jM; done)
  cases jM;rename_i t;cases t
  ·exact Good.mk (v:=dV b) (by simp[execOp,aq,asBool]) (.refl _ _ _) rel (by simpa using cY b)
  ·exact Good.mk (v:=dV a) (by simp[execOp,aq,asBool]) (.refl _ _ _) rel (by simpa using cY a)
 case alloc t=>
  simp only[cV] at al;cases aw:hs P t with
  | none=>rw[aw] at al; cases al
  | some z=>
   rw[aw] at al;simp only[atA,Option.some.injEq] at al; subst al;obtain⟨v,aq,ax⟩:=wY (P:=P) (w:=w) (R:=R) (h:=h) (μ:=μ) aw;obtain⟨aS,aX,a3⟩:=Ek rel (cs:=z) (vs:=v.cells) t ax.1 ax.2;exact Good.mk (by simp[execOp,Instr.alloc,aq,newVar,newRow]) aS aX (a3 0)
 case box t x=>
  simp only[cV] at al;cases aw:(aA x).cells with
  | none=>rw[aw] at al; cases al
  | some z=>
   rw[aw] at al;simp only[atA,Option.some.injEq] at al; subst al;obtain⟨b9,b0⟩:=EB (cY x) aw;obtain⟨aS,aX,a3⟩:=Ek rel (cs:=z) (vs:=(dV x).cells) t b9 b0;exact Good.mk (by simp[execOp,Instr.box,newVar,newRow]) aS aX (a3 0)
 case build t parts=>
  obtain⟨b9,b0⟩:=Mk cY parts;exact o3 (fun c ah=>aad ah b9 b0) al
 case buildSlice t len parts=>
  obtain⟨b9,b0⟩:=Mk cY parts;exact G2 (fun c h' ah=>aac rel ah b9 b0) al
 case load t a=>exact o3 (fun c ah=>Vv rel ah (cY a)) al
 case store t a x=>
  simp only[cV] at al;cases cw:AR P h t (aA a) (aA x) with
  | none=>rw[cw] at al; cases al
  | some h'=>
   rw[cw] at al;simp only[atA,Option.some.injEq] at al; subst al;obtain⟨w',h1,ad,aj⟩:=akW (P:=P) rel cw (cY a) (cY x);exact⟨undef,w',μ,.inr ⟨by simp[execOp,h1],rfl⟩,ad,aj,.bG [] #[] rfl (fun _ _ _ aG=>by simp at aG)⟩
 case nilCheck x=>
  simp only[cV] at al;have aq:=cY x;cases ah:aA x<;>rw[ah] at al aq<;>simp only at al<;>try (cases al; done)
  all_goals
   simp only[Option.some.injEq] at al; subst al;cases af:dV x<;>rw[af] at aq<;>try (cases aq; done)
   rename_i y;refine Good.mk (v:=dV x) ?_ (.refl _ _ _) rel (by rw[af]; exact aq);cases aq<;>simp[execOp,af]
 case binOp op t x y ato=>exact o3 (fun c ah=>ZR ah (cY x) (cY y)) al
 case unOp op t x=>exact o3 (fun c ah=>alJ ah (cY x)) al
 case convert s d x=>
  simp only[cV] at al;split at al
  ·rename_i c ah;simp only[Option.some.injEq] at al; subst al;obtain⟨v,w',h1,ad,aj,aF⟩:=aag rel ah (cY x);exact Good.mk (by simp[execOp,h1]) ad aj aF
  ·exact o3 (fun c ah=>aaR rel ah (cY x)) al
 case makeInterface t x=>
  simp only[cV] at al;cases aJ:P.underlying t with
  | none=>rw[aJ] at al; cases al
  | some d=>
   rw[aJ] at al;cases d<;>simp only at al<;>try (cases al; done)
   all_goals
    simp only[Option.some.injEq] at al; subst al;exact Good.mk (v:=.iface t (dV x)) (by simp[execOp,Instr.makeInterface,cu aJ]) (.refl _ _ _) rel (.gA t _ _ (cY x))
 case makeFunc fn first fI=>
  cases fn<;>simp only[cV] at al<;>try (cases al; done)
  simp only[Option.some.injEq] at al; subst al;exact Good.mk (by simp[execOp,Instr.makeFunc]) (.refl _ _ _) rel (.fn _ _ _ _ _ (by simp) (by simp) (LM cY first) (LM cY fI))
 case makeSlice t l c=>exact G2 (fun c' h' ah=>ahB rel ah (cY l) (cY c)) al
 case slice t x cN av cG=>exact o3 (fun c ah=>ako rel ah (cY x) (Ma cY cN) (Ma cY av) (Ma cY cG)) al
 case fieldAddr s x f=>exact o3 (fun c ah=>abM ah (cY x)) al
 case field t x f=>
  simp only[cV] at al;split at al
  ·rename_i cs fd af aD;have aq:=cY x;rw[af] at aq;exact o3 (fun c ah=>abN aD ah aq) al
  ·cases al
 case indexAddr t x i=>exact o3 (fun c ah=>af7 ah (cY x) (cY i)) al
 case index t x i=>exact o3 (fun c ah=>Lq ah (cY x) (cY i)) al
 case extract x i=>
  simp only[cV] at al;have aq:=cY x;cases ah:aA x<;>rw[ah] at al aq<;>simp only at al<;>try (cases al; done)
  rename_i vs;cases af:dV x<;>rw[af] at aq<;>try (cases aq; done)
  rename_i arr;cases aq with
  | bG _ _ ak Lb=>
   refine o3 (m:=Instr.extract (dV x) i) (fun c ah=>?_) al;have aK:i<arr.size:=by rw[ak]; exact (atq.1 ah).1
   exact⟨arr[i],by simp[Instr.extract,af,aK],Lb i c _ ah (by simp[aK])⟩
 case call c=>exact aak rel cY al
 case makeMap t r=>
  simp only[cV] at al;split at al
  ·rename_i k e aJ ax;simp only[Option.some.injEq] at al; subst al;obtain⟨v,w',μ',h1,ad,aj,aF⟩:=ahA (P:=P) (t:=t) (r:=r.map dV) rel ⟨_,_,aJ⟩ (fun x af=>by
    cases r with
    | none=>cases af
    | some o=>
     simp only[atA,Option.some.injEq] at af; subst af;simp only at ax;cases av:asInt (aA o) with
     | none=>rw[av] at ax; cases ax
     | some n=>
      obtain⟨k,hk⟩:=rZ av (cY o);exact⟨k,n,hk⟩)
   exact Good.mk (by simp[execOp,h1]) ad aj aF
  ·cases al
 case lookup t m k ok=>exact o3 (fun c ah=>aht rel ah (cY m) (cY k)) al
 case mapUpdate t m k x=>
  simp only[cV] at al;cases cw:yp P h t (aA m) (aA k) (aA x) with
  | none=>rw[cw] at al; cases al
  | some h'=>
   rw[cw] at al;simp only[atA,Option.some.injEq] at al; subst al;obtain⟨w',h1,ad,aj⟩:=VI (P:=P) rel cw (cY m) (cY k) (cY x);exact⟨undef,w',μ,.inr ⟨by simp[execOp,h1],rfl⟩,ad,aj,.bG [] #[] rfl (fun _ _ _ aG=>by simp at aG)⟩
 case insert t m k x=>
  simp only[cV] at al;cases cw:yp P h t (aA m) (aA k) (aA x) with
  | none=>rw[cw] at al; cases al
  | some h'=>
   rw[cw] at al;simp only[atA,Option.some.injEq] at al; subst al;obtain⟨w',h1,ad,aj⟩:=VI (P:=P) rel cw (cY m) (cY k) (cY x);exact⟨undef,w',μ,.inr ⟨by simp[execOp,h1],rfl⟩,ad,aj,.bG [] #[] rfl (fun _ _ _ aG=>by simp at aG)⟩
 case range t x=>exact G2 (fun c h' ah=>ajm rel ah (cY x)) al
 case next it isS=>
  cases isS with
  | false=>simp only[cV] at al; cases al
  | true=>exact G2 (fun c h' ah=>by obtain⟨v,w',h1,ad,aj,aF⟩:=ahN (P:=P) (ty:=type) rel ah (cY it); exact⟨v,w',μ,h1,ad,aj,aF⟩) al
 case typeAssert x NU t ok=>
  simp only[cV] at al;split at al
  ·rename_i z aw;exact o3 (fun c ah=>ak5 aw ah (cY x)) al
  ·cases al
 all_goals (simp only[cV] at al; cases al)
end
inductive rO where
 | normal
 | exit (id:Nat)
 | ret
def rO.out:rO->Exit
 | .normal=>.normal
 | .exit id=>.exit id
 | .ret=>.ret
def ks (ops:Array Oper) (ae:Nat->U) (o:Oper) :Option Bool:=
 match o.guard with
 | none=>some true
 | some (j,A2)=>match (ops[j]?).bind (·.dst) with
  | none=>some false
  | some d=>match ae d with
   | .bool b=>some (b == A2)
   | .bad=>none
   | _=>some false
def hc (ae:Nat->U) (dst:Option Tmp) (c:U) :Nat->U:=match dst with | some d=>bL ae d c | none=>ae
def pF (N:Nat) (dst:Option Tmp) :Bool:=match dst with | some d=>decide (d<N) | none=>true
def AO (P:Program) (h:aN) (ae:Nat->U) :ResultVar->Option U
 | .tmp t=>some (ae t)
 | .cell a t=>sK P h t (ae a)
def wB (P:Program) (h:aN) (ae:Nat->U) :List ResultVar->Option (List U)
 | []=>some []
 | r::nw=>match AO P h ae r,wB P h ae nw with
  | some v,some vs=>some (v::vs)
  | _,_=>none
def wP:List U->U
 | [v]=>v
 | vs=>.bG vs
def Ht (P:Program) (h:aN) (ae:Nat->U) (fn:Func) :Option U:=(wB P h ae fn.results.toList).map wP
mutual
def U.closed:U->Bool
 | .aM cs=>bm cs
 | .bG cs=>bm cs
 | .b6 cs _=>bm cs
 | .bD _ es=>BH es
 | .fn _ a b=>bm a&&bm b
 | .gA _ v=>v.closed
 | .ptr .. | .au .. | .mp _ | .it _=>false
 | _=>true
def bm:List U->Bool
 | []=>true
 | c::cs=>c.closed&&bm cs
def BH:List (List U)->Bool
 | []=>true
 | c::cs=>bm c&&BH cs
end
def fi (w:World) (A:Nat->Prop) (c:U) (v:Value) :Prop:=aO w A aN.empty (fun _=>none) c v
structure yZ (w w' : World) :Prop extends RowKit.Below w.heap.size w w' where
 drawn:w.drawn<=w'.drawn
def ti (G:Nat->U) (w:World) (R:Nat->Prop) (h:aN) (μ:cH) :Prop:=∀ g,(G g).closed=true/\aO w R h μ (G g) (.pointer (some ⟨g,0,none⟩))
def rP (P:Program) (G:Nat->U) (f:FuncId) (args:List U) (h:aN) (r:U) (h' : aN) :Prop:=
 ∀ (R:Nat->Prop) (B:Nat) (w:World) (μ:cH) (vs:Array Value),b3 R B w h μ->ti G w R h μ->vs.size=args.length->
  (∀ (j:Nat) (c:U) (v:Value),args[j]? = some c->vs[j]? = some v->aO w R h μ c v)->
  Calls P f vs w fun e w'=>∃ v μ',e=.returned v/\dx w h μ w' h' μ'/\b3 R B w' h' μ'/\aO w' R h' μ' r v
def bw (P:Program) (G:Nat->U) (f:FuncId) (args:List U) (r:U) :Prop:=
 ∀ (w:World) (A:Nat->Prop) (vs:Array Value),(∀ g,fi w A (G g) (.pointer (some ⟨g,0,none⟩)))->vs.size=args.length->
  (∀ (j:Nat) (c:U) (v:Value),args[j]? = some c->vs[j]? = some v->fi w A c v)->
  Calls P f vs w fun e w'=>∃ v,e=.returned v/\yZ w w'/\fi w' (fun k=>A k\/w.heap.size<=k) r v
def ja (P:Program) (G:Nat->U) (f:FuncId) (args:List U) (r:U) :Prop:=
 ∀ (w:World) (A:Nat->Prop) (vs:Array Value),(∀ g,fi w A (G g) (.pointer (some ⟨g,0,none⟩)))->vs.size=args.length->
  (∀ (j:Nat) (c:U) (v:Value),args[j]? = some c->vs[j]? = some v->fi w A c v)->
  Calls P f vs w fun e w'=>∃ v,e=.returned v/\yZ w w'/\fi w' (fun k=>w.heap.size<=k) r v
inductive fH (h:aN) :U->U->Prop
 | same (c:U) (ah:c.closed=true) :fH h c c
 | aM (cs cs' : List U) (ak:cs'.length=cs.length) (aq:∀ (j:Nat) (c c' : U),cs[j]? = some c->cs'[j]? = some c'->fH h c c') :fH h (.aM cs) (.aM cs')
 | bG (cs cs' : List U) (ak:cs'.length=cs.length) (aq:∀ (j:Nat) (c c' : U),cs[j]? = some c->cs'[j]? = some c'->fH h c c') :fH h (.bG cs) (.bG cs')
 | au (z b off len cap sz:Nat) (cs:List U) (es:List (List U)) (ag:h.f b=.cells sz cs) (ak:es.length=len) (aw:∀ e∈es,e.length=z)
   (eG:off+len*z<=cs.length)
   (aq:∀ (i j:Nat) (e:List U) (c c' : U),es[i]? = some e->e[j]? = some c'->cs[off+(i*z+j)]? = some c->fH h c c') :fH h (.au z b off len cap sz) (.bD z es)
 | rF (z b off cap sz:Nat) :fH h (.au z b off 0 cap sz) (.bD z [])
 | ptr (b off sz:Nat) (cs cs' : List U) (ag:h.f b=.cells sz cs) (ak:cs'.length=cs.length) (aq:∀ (j:Nat) (c c' : U),cs[j]? = some c->cs'[j]? = some c'->fH h c c') :fH h (.ptr b off sz) (.b6 cs' off)
mutual
def U.flat:U->Bool
 | .aM cs=>lz cs
 | .bG cs=>lz cs
 | .gA _ v=>v.flat
 | .bool _ | .int .. | .str _ | .i8 | .a1 | .hA | .i6 | .i7=>true
 | _=>false
def lz:List U->Bool
 | []=>true
 | c::cs=>c.flat&&lz cs
end
inductive Ec where
 | pure | new | gj
def nn (P:Program) (aA:Operand->U) :Op->Option (List U × (Nat->U))
 | .alloc t=>(hs P t).map fun z=>(z,fun b=>.ptr b 0 z.length)
 | .box _ x=>(aA x).cells.map fun cs=>(cs,fun b=>.ptr b 0 cs.length)
 | .buildSlice t len parts=>match io P t with
  | some e=>match cv P e,hs P e with
   | some z,some zero=>if zero.length=z/\len*z<=16777216 then
     (hl (fun i=>some (i*z,z)) (dk zero len) (parts.toList.map fun p=>(p.1,aA p.2))).map fun cs=>(cs,fun b=>.au z b 0 len len (len*z))
    else none
   | _,_=>none
  | none=>none
 | .makeSlice t l c=>match io P t,asInt (aA l),asInt (aA c) with
  | some e,some l,some c=>match cv P e,jc P e,hs P e with
   | some z,some by_,some zero=>
    if zero.length=z/\0<=l/\l<=c/\c<9223372036854775808/\by_*c<=ct then
     some (dk zero c.toNat,fun b=>.au z b 0 l.toNat c.toNat (c.toNat*z))
    else none
   | _,_,_=>none
  | _,_,_=>none
 | _=>none
def jy (ops:Array Oper) (t:Nat) :Option Nat:=(List.range ops.size).find? fun i=>match ops[i]? with | some o=>o.dst == some t | none=>false
def mX (ops:Array Oper) (pre:Nat->Nat->Bool) (val:Nat->U) (ae:Nat->U) (i:Nat) (o:Oper) :Nat->U:=fun t=>
 if (o.looksAt ops).contains t then
  match jy ops t with
  | some j=>if pre i j then val j else ae t
  | none=>ae t
 else .bad
structure tg (ops:Array Oper) (pre:Nat->Nat->Bool) :Prop where
 BT:∀ (i:Nat) (o:Oper) (e:Edge),ops[i]? = some o->e∈o.after->Region.binds .any e=true->e.on<i
 chain:∀ (i:Nat) (o:Oper) (j:Nat),ops[i]? = some o->pre i j=true->∃ e∈o.after,Region.binds .any e=true/\(e.on=j\/pre e.on j=true)
 one:∀ (i:Nat) (o:Oper) (t:Tmp),ops[i]? = some o->o.dst=some t->jy ops t=some i
 acc:∀ (i:Nat) (o:Oper) (t:Tmp) (j:Nat),ops[i]? = some o->t∈o.looksAt ops->jy ops t=some j->pre i j=true\/pre j i=true\/j=i
 asX:Region.noSelect ops=true
def wv (h:aN) (l:List (List U)) :aN:=l.foldl (fun h cs=>h.push (.cells cs.length cs)) h
def om (h h' : aN) :Prop:=∃ l,h'=wv h l
theorem WA:∀ (l:List (List U)) (h:aN),(wv h l).n=h.n+l.length
 | [],h=>rfl
 | c::l,h=>by
  have:=WA l (h.push (.cells c.length c));simp only[wv,List.foldl_cons,List.length_cons] at this ⊢;rw[this];simp only[eb,ff]; omega
theorem WB:∀ (l:List (List U)) (h:aN) (b:Nat),b<h.n->(wv h l).f b=h.f b
 | [],h,b,_=>rfl
 | c::l,h,b,ag=>by
  have:=WB l (h.push (.cells c.length c)) b (by simp only[eb,ff]; omega);simp only[wv,List.foldl_cons] at this ⊢;rw[this];simp only[eb,ff];exact cb _ _ _ _ (by omega)
theorem Wz:∀ (l:List (List U)) (h:aN),(∀ b,h.n<=b->h.f b=.none)->∀ b,(wv h l).n<=b->(wv h l).f b=.none
 | [],h,aD=>aD
 | c::l,h,aD=>by
  refine Wz l (h.push (.cells c.length c)) (fun b ag=>?_);simp only[eb,ff] at ag ⊢;rw[cb _ _ _ _ (by omega)];exact aD b (by omega)
theorem om.n {h h' : aN} (g:om h h') :h.n<=h'.n:=by obtain⟨l,rfl⟩:=g; rw[WA]; omega
theorem om.same {h h' : aN} (g:om h h') (b:Nat) (ag:b<h.n) :h'.f b=h.f b:=by obtain⟨l,rfl⟩:=g; exact WB l h b ag
theorem om.fresh {h h' : aN} (g:om h h') (aD:∀ b,h.n<=b->h.f b=.none) :∀ b,h'.n<=b->h'.f b=.none:=by obtain⟨l,rfl⟩:=g; exact Wz l h aD
inductive qB (h ad:aN) :U->U->Prop
 | same (c:U) :qB h ad c c
 | aM (cs cs' : List U) (ak:cs'.length=cs.length) (aq:∀ (j:Nat) (c c' : U),cs[j]? = some c->cs'[j]? = some c'->qB h ad c c') :qB h ad (.aM cs) (.aM cs')
 | au (z b off len cap sz:Nat) (cs:List U) (es:List (List U)) (ag:h.f b=.cells sz cs) (bq:ad.f b=.dead) (ak:es.length=len) (aw:∀ e∈es,e.length=z)
   (eG:off+len*z<=cs.length)
   (aq:∀ (i j:Nat) (e:List U) (c c' : U),es[i]? = some e->e[j]? = some c'->cs[off+(i*z+j)]? = some c->qB h ad c c') :qB h ad (.au z b off len cap sz) (.bD z es)
 | rF (z b off cap sz:Nat) :qB h ad (.au z b off 0 cap sz) (.bD z [])
structure qC (h ad:aN) :Prop where
 n:ad.n=h.n
 blk:∀ b,ad.f b=h.f b\/∃ sz cs,h.f b=.cells sz cs/\(ad.f b=.dead\/∃ hL,ad.f b=.cells sz hL/\hL.length=cs.length/\∀ (j:Nat) (c cy:U),cs[j]? = some c->hL[j]? = some cy->qB h ad c cy)
inductive J where
 | code (c:Code) (N:Nat) (ae:Nat->U) (h:aN) (e:rO) (bY:Nat->U) (h' : aN)
 | ops (all:Array Oper) (l:List Oper) (N:Nat) (ae:Nat->U) (h:aN) (bY:Nat->U) (h' : aN)
 | op (op:Op) (ae:Nat->U) (h:aN) (v:U) (h' : aN)
 | call (f:FuncId) (args:List U) (h:aN) (r:U) (h' : aN)
def zw (pre:Nat->Nat->Bool) (m:Nat) (al:Nat->Nat) (i k:Nat) :Prop:=k<=m/\(∀ q,q<m->pre i (al q)=true->q<k)/\∀ q,q<m->pre (al q) i=true->k<=q
inductive dn (P:Program) (G:Nat->U) :J->Prop where
 | skip (N ae h) :dn P G (.code .skip N ae h .normal ae h)
 | label (l N ae h) :dn P G (.code (.label l) N ae h .normal ae h)
 | ret (N ae h) :dn P G (.code .ret N ae h .ret ae h)
 | exit (id N ae h) :dn P G (.code (.exit id) N ae h (.exit id) ae h)
 | Xq {a b N ae h iK h1 e bY h'}:dn P G (.code a N ae h .normal iK h1)->dn P G (.code b N iK h1 e bY h')->dn P G (.code (.seq a b) N ae h e bY h')
 | M4 {a b N ae h e bY h'}:dn P G (.code a N ae h e bY h')->e≠.normal->dn P G (.code (.seq a b) N ae h e bY h')
 | cond {c x y N ae h b e bY h'}:cR G ae c=.bool b->dn P G (.code (if b then x else y) N ae h e bY h')->dn P G (.code (.cond c x y) N ae h e bY h')
 | Es {id c N ae h e bY h'}:dn P G (.code c N ae h e bY h')->e≠.exit id->dn P G (.code (.block id c) N ae h e bY h')
 | OP {id c N ae h bY h'}:dn P G (.code c N ae h (.exit id) bY h')->dn P G (.code (.block id c) N ae h .normal bY h')
 | Ao {c N ae h iK h1 e bY h'}:dn P G (.code c N ae h .normal iK h1)->dn P G (.code (.loop c) N iK h1 e bY h')->dn P G (.code (.loop c) N ae h e bY h')
 | LN {c N ae h e bY h'}:dn P G (.code c N ae h e bY h')->e≠.normal->dn P G (.code (.loop c) N ae h e bY h')
 | scope {c N ae h e bY h'}:dn P G (.code c N ae h e bY h')->dn P G (.code (.scope c) N ae h e bY h')
 | region {id ops N ae h bY h'}:dn P G (.ops ops ops.toList N ae h bY h')->dn P G (.code (.region id ops false) N ae h .normal bY h')
 | draw {id ops N ae h bY h'} (pre:Nat->Nat->Bool) (val:Nat->U) (W:Nat->Bool) (cls:Nat->Ec) (m:Nat) (al:Nat->Nat) (fy rS:Nat->aN) (gu:Nat->Nat) (cells:Nat->List U)
   (hd:tg ops pre)
   (pQ:∀ (i:Nat) (o:Oper),ops[i]? = some o->pF N o.dst=true)
   (aE:om h (fy 0)) (hm:h'=fy m) (Gn:bY=fun t=>match jy ops t with | some i=>val i | none=>ae t)
   (xL:∀ (i:Nat) (o:Oper),ops[i]? = some o->W i=true->cls i=.gj->∃ q,q<m/\al q=i)
   (Ct:∀ q,q<m->∃ o,ops[al q]? = some o/\W (al q)=true/\cls (al q)=.gj)
   (ng:∀ q fl,q<m->fl<m->q<fl->pre (al fl) (al q)=true)
   (dY:∀ q fl,q<m->fl<m->al q=al fl->q=fl)
   (vX:∀ (i:Nat) (o:Oper),ops[i]? = some o->ks ops (mX ops pre val ae i o) o=some (W i))
   (Ge:∀ (i:Nat) (o:Oper),ops[i]? = some o->W i=false->val i=he)
   (F6:∀ (i:Nat) (o:Oper),ops[i]? = some o->W i=true->cls i=.pure->∀ k,zw pre m al i k->cV P (fy k) (cR G (mX ops pre val ae i o)) o.op=some (.val (val i) (fy k)))
   (nd:∀ (i:Nat) (o:Oper),ops[i]? = some o->W i=true->cls i=.new->∃ mk,nn P (cR G (mX ops pre val ae i o)) o.op=some (cells i,mk)/\val i=mk (gu i)/\h.n<=gu i ∧
    ∀ k,zw pre m al i k->(fy k).f (gu i)=.cells (cells i).length (cells i))
   (FB:∀ (i j:Nat) (o cJ:Oper),ops[i]? = some o->ops[j]? = some cJ->W i=true->W j=true->cls i=.new->cls j=.new->gu i=gu j->i=j)
   (FC:∀ (i:Nat) (o:Oper) (q:Nat),ops[i]? = some o->W i=true->cls i=.new->q<m->gu i<(fy q).n\/(rS q).n<=gu i)
   (pS:∀ q,q<m->om (rS q) (fy (q+1)))
   (pM:∀ (q:Nat) (o:Oper),q<m->ops[al q]? = some o->dn P G (.op o.op (mX ops pre val ae (al q) o) (fy q) (val (al q)) (rS q))) :
   dn P G (.code (.region id ops true) N ae h .normal bY h')
 | V4 {all N ae h}:dn P G (.ops all [] N ae h ae h)
 | V6 {all o l N ae h bY h'}:ks all ae o=some false->pF N o.dst=true->dn P G (.ops all l N (hc ae o.dst he) h bY h')->dn P G (.ops all (o::l) N ae h bY h')
 | V5 {all o l N ae h v h1 bY h'}:ks all ae o=some true->pF N o.dst=true->dn P G (.op o.op ae h v h1)->dn P G (.ops all l N (hc ae o.dst v) h1 bY h')->dn P G (.ops all (o::l) N ae h bY h')
 | G5 {op ae h v h'}:cV P h (cR G ae) op=some (.val v h')->dn P G (.op op ae h v h')
 | Az {op ae h f args h1 v h'}:cV P h (cR G ae) op=some (.call f args h1)->dn P G (.call f args h1 v h')->dn P G (.op op ae h v h')
 | HR {op ae h v h' dJ ad}:dn P G (.op op ae h v h')->qC h' ad->qB h' ad v dJ->dn P G (.op op ae h dJ ad)
 | inline {f fn c args h e bY h' r}:P.funcs[f]? = some fn->fn.body=some c->
   dn P G (.code c (args.length+(fn.ntmps - args.length)) (fun t=>args.getD t he) h e bY h')->(e=.normal\/e=.ret)->Ht P h' bY fn=some r->dn P G (.call f args h r h')
 | pure {f args h r}:bw P G f args r->bm args=true->dn P G (.call f args h r h)
 | Mt {f args im h r}:bw P G f im r->im.length=args.length->(∀ (j:Nat) (c c' : U),args[j]? = some c->im[j]? = some c'->fH h c c')->r.flat=true->dn P G (.call f args h r h)
 | ext {f args h r h'}:rP P G f args h r h'->dn P G (.call f args h r h')
 | Mu {f args im h r}:ja P G f im r->im.length=args.length->(∀ (j:Nat) (c c' : U),args[j]? = some c->im[j]? = some c'->fH h c c')->dn P G (.call f args h r h)
section
variable {P:Program} {G:Nat->U}
structure mN (N:Nat) (w:World) (R:Nat->Prop) (h:aN) (μ:cH) (ae:Nat->U) (a:Act) :Prop where
 size:a.tmps.size=N
 defers:a.defers=[]
 val:∀ t,aO w R h μ (ae t) (a.tmps.getD t undef)
theorem ti.ext {w w' : World} {R:Nat->Prop} {h h' : aN} {μ μ' : cH} (g:ti G w R h μ) (e:dx w h μ w' h' μ') :ti G w' R h' μ':=fun i=>⟨(g i).1,(g i).2.ext e⟩
theorem mN.ext {N:Nat} {w w' : World} {R:Nat->Prop} {h h' : aN} {μ μ' : cH} {ae:Nat->U} {a:Act} (s:mN N w R h μ ae a) (e:dx w h μ w' h' μ') :mN N w' R h' μ' ae a:=
 ⟨s.size,s.defers,fun t=>(s.val t).ext e⟩
theorem mN.cR {N:Nat} {w:World} {R:Nat->Prop} {h:aN} {μ:cH} {ae:Nat->U} {a:Act} (s:mN N w R h μ ae a) (g:ti G w R h μ) (x:Operand) :aO w R h μ (cR G ae x) (a.eval x) :=by
 cases x with
 | tmp t=>exact s.val t
 | const v=>exact aO.wr v
 | global i=>exact (g i).2
 | func f=>exact .fn f [] [] #[] #[] rfl rfl (fun _ _ _ aG=>by simp at aG) (fun _ _ _ aG=>by simp at aG)
theorem NF {w:World} {R:Nat->Prop} {h:aN} {μ:cH}:aO w R h μ he undef:=.bG [] #[] rfl (fun _ _ _ aG=>by simp at aG)
theorem mN.put {N:Nat} {w:World} {R:Nat->Prop} {h:aN} {μ:cH} {ae:Nat->U} {a:Act} (s:mN N w R h μ ae a) {dst:Option Tmp} (bq:pF N dst=true) {c:U} {v:Value} (aq:aO w R h μ c v) :
  mN N w R h μ (hc ae dst c) (a.put dst v) :=by
 cases dst with
 | none=>exact s
 | some d=>
  have aK:d<a.tmps.size:=by rw[s.size]; simpa [pF] using bq
  refine⟨by simp[Act.put,s.size],s.defers,fun t=>?_⟩;simp only[hc,Act.put];by_cases aI:t=d
  ·subst aI;rw[jK];simp[aK];exact aq
  ·rw[cb _ _ _ _ aI];have:=s.val t;simpa [Array.getElem?_setIfInBounds_ne (Ne.symm aI)] using this
theorem NP {w:World} {R:Nat->Prop} {h:aN} {μ:cH} {ops:Array Oper} {ae:Nat->U} {tmps:Array Value} {o:Oper} {b:Bool} (hw:ks ops ae o=some b)
  (aq:∀ d,(∃ j A2,o.guard=some (j,A2)/\(ops[j]?).bind (·.dst)=some d)->aO w R h μ (ae d) (tmps.getD d undef)) :Region.wanted o (yielded ops tmps)=b:=by
 unfold ks at hw;unfold Region.wanted;cases ar:o.guard with
 | none=>rw[ar] at hw; simpa using hw
 | some kj=>
  obtain⟨j,A2⟩:=kj;rw[ar] at hw;simp only at hw ⊢;unfold yielded;cases bq:(ops[j]?).bind (·.dst) with
  | none=>
   rw[bq] at hw;simp only[Option.some.injEq] at hw;subst hw;simp
  | some d=>
   rw[bq] at hw;have Ae:=aq d ⟨j,A2,ar,bq⟩;simp only[Option.bind_some] at hw ⊢;cases aI:tmps[d]? with
   | none=>
    have aJ:tmps.getD d undef=undef:=by simp[Array.getD_eq_getD_getElem?,aI]
    rw[aJ] at Ae;cases ah:ae d<;>rw[ah] at hw Ae<;>simp at hw<;>try (subst hw; simp)
    all_goals cases Ae
   | some v=>
    have aJ:tmps.getD d undef=v:=by simp[Array.getD_eq_getD_getElem?,aI]
    rw[aJ] at Ae;cases ah:ae d<;>rw[ah] at hw Ae<;>simp at hw
    all_goals (cases Ae<;>(subst hw; simp))
def pk (P:Program) (n:Nat) (c:Code) (Q:Exit->Act->World->Prop) (a:Act) (w:World) :Prop:=
 match c with
 | .loop c'=>Code.rounds P c' Q n a w
 | c=>c.wp P Q a w
theorem pk.wp {n:Nat} {c:Code} {Q:Exit->Act->World->Prop} {a:Act} {w:World} (h:pk P n c Q a w) :c.wp P Q a w:=by
 cases c<;>first | exact wp_loop_rounds n h | exact h
def w5 (P:Program) (G:Nat->U) :J->Prop
 | .code c N ae h e bY h'=>∃ n,∀ (R:Nat->Prop) (B:Nat) (w:World) (μ:cH) (a:Act) (Q:Exit->Act->World->Prop),b3 R B w h μ->ti G w R h μ->mN N w R h μ ae a->
   (∀ eQ w' μ',dx w h μ w' h' μ'->b3 R B w' h' μ'->mN N w' R h' μ' bY eQ->Q e.out eQ w')->pk P n c Q a w
 | .ops all l N ae h bY h'=>∀ (R:Nat->Prop) (B:Nat) (w:World) (μ:cH) (a:Act) (Q:Exit->Act->World->Prop),b3 R B w h μ->ti G w R h μ->mN N w R h μ ae a->
   (∀ eQ w' μ',dx w h μ w' h' μ'->b3 R B w' h' μ'->mN N w' R h' μ' bY eQ->Q .normal eQ w')->wpList P all Q l a w
 | .op op ae h v h'=>∀ (R:Nat->Prop) (B:Nat) (w:World) (μ:cH) (a:Act) (o:Oper) (K:Act->World->Prop) (Q:Exit->Act->World->Prop),o.op=op->b3 R B w h μ->ti G w R h μ->
   (∀ x,aO w R h μ (cR G ae x) (a.eval x))->(∀ aY w' μ',dx w h μ w' h' μ'->b3 R B w' h' μ'->aO w' R h' μ' v aY->K (a.put o.dst aY) w')->o.wp P a w K Q
 | .call f args h r h'=>rP P G f args h r h'
theorem ajJ {N:Nat} {w:World} {R:Nat->Prop} {B:Nat} {h:aN} {μ:cH} {ae:Nat->U} {a:Act} (rel:b3 R B w h μ) (s:mN N w R h μ ae a) {fn:Func} {r:U} (ax:Ht P h ae fn=some r) :
  ∃ v,(results fn a.tmps).run P w=.ok v w/\aO w R h μ r v:=by
 have one:∀ (x:ResultVar) (c:U),AO P h ae x=some c->∃ v,(∀ F:ResultVar->Sem Value,(∀ t,F (.tmp t)=pure (a.tmps.getD t undef))->(∀ p t,F (.cell p t)=(do loadVar t (<-asAddr (a.tmps.getD p undef))))->(F x).run P w=.ok v w)/\aO w R h μ c v:=by
  intro x c af;cases x with
  | tmp t=>
   simp only[AO,Option.some.injEq] at af; subst af;exact⟨_,fun F h1 _=>by rw[h1]; rfl,s.val t⟩
  | cell p t=>
   simp only[AO] at af;obtain⟨v,h1,ad⟩:=Vv (P:=P) rel af (s.val p);refine⟨v,fun F _ xx=>?_,ad⟩;rw[xx];cases ay:a.tmps.getD p undef with
   | pointer Ob=>
    cases Ob with
    | none=>rw[ay] at h1; simp[Instr.loadAt,Instr.sureAddr] at h1
    | some Ob=>rw[ay] at h1; simpa [Instr.loadAt,Instr.sureAddr,asAddr,ay] using h1
   | _=>rw[ay] at h1; simp[Instr.loadAt,Instr.sureAddr] at h1
 have all:∀ (l:List ResultVar) (cs:List U),wB P h ae l=some cs->∃ vs:List Value,(∀ F:ResultVar->Sem Value,(∀ t,F (.tmp t)=pure (a.tmps.getD t undef))->(∀ p t,F (.cell p t)=(do loadVar t (<-asAddr (a.tmps.getD p undef))))->(l.mapM F).run P w=.ok vs w) ∧
   vs.length=cs.length/\∀ (j:Nat) (c:U) (v:Value),cs[j]? = some c->vs[j]? = some v->aO w R h μ c v:=by
  intro l
  induction l with
  | nil=>intro cs ah; simp only[wB,Option.some.injEq] at ah; subst ah; exact⟨[],fun F _ _=>by simp,rfl,fun _ _ _ aG=>by simp at aG⟩
  | cons x l aH=>
   intro cs ah;unfold wB at ah;split at ah
   ·rename_i c cs' af ak;simp only[Option.some.injEq] at ah; subst ah;obtain⟨v,h1,ad⟩:=one x c af;obtain⟨vs,aj,aF,aW⟩:=aH cs' ak;refine⟨v::vs,fun F b9 b0=>by simp only[List.mapM_cons,Sem.run_bind,h1 F b9 b0,Result.andThen_ok,aj F b9 b0,Sem.run_pure],by simp[aF],fun j c' aY ai aq=>?_⟩;cases j with
    | zero=>simp at ai aq; subst ai aq; exact ad
    | succ j=>exact aW j c' aY (by simpa using ai) (by simpa using aq)
   ·cases ah
 unfold Ht at ax;cases ak:wB P h ae fn.results.toList with
 | none=>rw[ak] at ax; cases ax
 | some cs=>
  rw[ak] at ax;simp only[Option.map_some,Option.some.injEq] at ax; subst ax;obtain⟨vs,h1,ad,aj⟩:=all _ _ ak;have g7:(results fn a.tmps).run P w=.ok (if aG:vs.toArray.size=1 then vs.toArray[0] else .tuple vs.toArray) w:=by
   unfold results;rw[Array.mapM_eq_mapM_toList];simp only[Sem.run_bind,Sem.run_map];rw[h1 _ (fun _=>rfl) (fun _ _=>rfl)];simp
  refine⟨_,g7,?_⟩
  match cs,vs,ad,aj with
  | [],[],_,_=>exact .bG [] #[] rfl (fun _ _ _ aG=>by simp at aG)
  | [c],[v],_,aj=>exact aj 0 c v rfl rfl
  | c::c'::cs,v::aY::vs,ad,aj=>
   simp only[List.size_toArray,List.length_cons];rw[dif_neg (by omega)];exact .bG _ _ (by simpa using ad) (fun j x y ai az=>aj j x y ai (by simpa using az))
theorem xa {w:World} {R:Nat->Prop} {h:aN} {μ:cH} {c:U} {v:Value} (aq:aO w R h μ c v) :c.closed=true->fi w (fun k=>R k/\¬ lu h μ k) c v:=by
 have ak:∀ (cs:List U),bm cs=true->∀ (j:Nat) (c:U),cs[j]? = some c->c.closed=true:=by
  intro cs
  induction cs with
  | nil=>intro _ j c ai; simp at ai
  | cons x cs aH=>
   intro ah j c ai;simp only[bm,Bool.and_eq_true] at ah;cases j with
   | zero=>simp at ai; subst ai; exact ah.1
   | succ j=>exact aH ah.2 j c (by simpa using ai)
 have xV:∀ (es:List (List U)),BH es=true->∀ (i:Nat) (e:List U),es[i]? = some e->bm e=true:=by
  intro es
  induction es with
  | nil=>intro _ j c ai; simp at ai
  | cons x cs aH=>
   intro ah j c ai;simp only[BH,Bool.and_eq_true] at ah;cases j with
   | zero=>simp at ai; subst ai; exact ah.1
   | succ j=>exact aH ah.2 j c (by simpa using ai)
 have cell:∀ b o v,Cell w R h μ b o v->Cell w (fun k=>R k/\¬ lu h μ k) aN.empty (fun _=>none) b o v:=fun b o v ah=>
  ⟨ah.here,ah.one,⟨ah.ro,ah.free⟩,fun ⟨b,m,h1,ad,aj⟩=>by cases ad⟩
 unfold fi
 induction aq with
 | bool b=>exact fun _=>.bool b
 | int k n=>exact fun _=>.int k n
 | str bs=>exact fun _=>.str bs
 | i8=>exact fun _=>.i8
 | a1=>exact fun _=>.a1
 | hA=>exact fun _=>.hA
 | i6=>exact fun _=>.i6
 | i7=>exact fun _=>.i7
 | aM cs vs bh h1 aq aH=>exact fun ah=>.aM cs vs bh h1 fun j c v ai fe=>aH j c v ai fe (ak cs (by simpa [U.closed] using ah) j c ai)
 | bG cs vs bh aq aH=>exact fun ah=>.bG cs vs bh fun j c v ai fe=>aH j c v ai fe (ak cs (by simpa [U.closed] using ah) j c ai)
 | ptr=>exact fun ah=>by simp[U.closed] at ah
 | mz=>exact fun ah=>by simp[U.closed] at ah
 | b6 cs off blk o ed ah aq aH=>exact fun dE=>.b6 cs off blk o ed (fun j ai=>cell _ _ _ (ah j ai)) fun j c ai=>aH j c ai (ak cs (by simpa [U.closed] using dE) j c ai)
 | au=>exact fun ah=>by simp[U.closed] at ah
 | go=>exact fun ah=>by simp[U.closed] at ah
 | hF=>exact fun ah=>by simp[U.closed] at ah
 | bD z es blk off cap ed c1 aw ah aq aH=>exact fun dE=>.bD z es blk off cap ed c1 aw (fun i j av ai=>cell _ _ _ (ah i j av ai)) fun i e ao j c ai=>aH i e ao j c ai (ak e (xV es (by simpa [U.closed] using dE) i e ao) j c ai)
 | fw z a cap=>exact fun _=>.fw z a cap
 | fn f first fI fs cs aD ah h1 ad c2 hy=>
  intro dE;simp only[U.closed,Bool.and_eq_true] at dE;exact .fn f first fI fs cs aD ah (fun j c v ai fe=>c2 j c v ai fe (ak _ dE.1 j c ai)) fun j c v ai fe=>hy j c v ai fe (ak _ dE.2 j c ai)
 | mp=>exact fun ah=>by simp[U.closed] at ah
 | it=>exact fun ah=>by simp[U.closed] at ah
 | gA t c v aq aH=>exact fun dE=>.gA t c v (aH (by simpa [U.closed] using dE))
 | lW l=>exact fun _=>.lW l
 | bad v=>exact fun _=>.bad v
theorem BI {cs:List U} (ah:bm cs=true) :∀ (j:Nat) (c:U),cs[j]? = some c->c.closed=true:=by
 induction cs with
 | nil=>intro j c ai; simp at ai
 | cons x cs aH=>
  intro j c ai;simp only[bm,Bool.and_eq_true] at ah;cases j with
  | zero=>simp at ai; subst ai; exact ah.1
  | succ j=>exact aH ah.2 j c (by simpa using ai)
theorem fi.up {w:World} {A:Nat->Prop} {R:Nat->Prop} {h:aN} {μ:cH} {c:U} {v:Value} (aq:fi w A c v) (cz:∀ k,k<w.heap.size->A k->R k/\¬ lu h μ k) :aO w R h μ c v:=by
 have cell:∀ b o v,Cell w A aN.empty (fun _=>none) b o v->Cell w R h μ b o v:=fun b o v ah=>
  have ag:b<w.heap.size:=World.block_lt_of_cell? _ _ ah.here
  ⟨ah.here,ah.one,(cz b ag ah.ro).1,(cz b ag ah.ro).2⟩
 unfold fi at aq
 induction aq with
 | bool b=>exact .bool b
 | int k n=>exact .int k n
 | str bs=>exact .str bs
 | i8=>exact .i8
 | a1=>exact .a1
 | hA=>exact .hA
 | i6=>exact .i6
 | i7=>exact .i7
 | aM cs vs bh h1 aq aH=>exact .aM cs vs bh h1 aH
 | bG cs vs bh aq aH=>exact .bG cs vs bh aH
 | ptr b off sz cs m ag hm=>cases hm
 | mz b off sz a ar=>rcases ar with ar | ⟨n,cs,ar,_⟩<;>cases ar
 | b6 cs off blk o ed ah aq aH=>exact .b6 cs off blk o ed (fun j ai=>cell _ _ _ (ah j ai)) aH
 | au z b off len cap sz cap' cs m ag hm=>cases hm
 | go z b off len cap sz cap' a ak ah ar=>rcases ar with ar | ⟨n,cs,ar,_⟩<;>cases ar
 | hF z b off sz a cs m ag hm=>cases hm
 | bD z es blk off cap ed c1 aw ah aq aH=>exact .bD z es blk off cap ed c1 aw (fun i j av ai=>cell _ _ _ (ah i j av ai)) aH
 | fw z a cap=>exact .fw z a cap
 | fn f first fI fs cs aD ah h1 ad c2 hy=>exact .fn f first fI fs cs aD ah c2 hy
 | mp b m ag hm=>cases hm
 | it b m ag hm=>cases hm
 | gA t c v aq aH=>exact .gA t c v aH
 | lW l=>exact .lW l
 | bad v=>exact .bad v
theorem Wd {R:Nat->Prop} {B:Nat} {w:World} {h:aN} {μ:cH} (rel:b3 R B w h μ) {k:Nat} (ap:lu h μ k) :k<w.heap.size:=by
 obtain⟨b,m,h1,ad,rfl⟩:=ap;exact rel.lt h1 ad
theorem DL {R:Nat->Prop} {B:Nat} {w w' : World} {h:aN} {μ:cH} (rel:b3 R B w h μ) (ag:yZ w w') :dx w h μ w' h μ/\b3 R B w' h μ:=by
 have e:dx w h μ w' h μ:=⟨⟨ag.os,ag.tape,ag.output,ag.size,fun k hk _=>ag.block k hk,fun _ ap=>.inl ap,fun b sz cs m h1 ad=>.inl ⟨cs,h1,ad⟩,fun _ _ ar=>ar,fun _ _ _ h1 ad=>⟨h1,ad⟩,Nat.le_refl _,ag.drawn⟩,fun _ _ hm=>hm⟩
 refine⟨e,fun b m hm=>?_,rel.inj,rel.base,rel.fresh,rel.up,Nat.le_trans rel.size ag.size,rel.kM⟩;cases ak:live (h.f b) with
 | false=>cases ah:h.f b<;>first | trivial | (rw[ah] at ak; cases ak)
 | true=>exact (rel.blk b m hm).ext e.toExt0 (ag.block _ (rel.lt ak hm))
theorem WU {w:World} {R:Nat->Prop} {B:Nat} {h:aN} {μ:cH} (rel:b3 R B w h μ) :∀ {c c' : U},fH h c c'->∀ {v:Value},aO w R h μ c v->fi w R c' v:=by
 intro c c' ax;have oF:∀ {b sz:Nat} {cs:List U} {m:M},h.f b=.cells sz cs->μ b=some m->∃ f:Nat->Value,∀ (j:Nat) (c:U),cs[j]? = some c->Cell w R aN.empty (fun _=>none) m.r (m.s+j) (f j)/\aO w R h μ c (f j) :=by
  intro b sz cs m ag hm;have hblk:=rel.blk b m hm;rw[ag] at hblk;obtain⟨ce,ci,arr,t,fV,hw,aB,aD,md⟩:=hblk;have tS:R m.r:=rel.up _ (rel.base b m (by rw[ag]; rfl) hm);refine⟨fun j=>(arr[m.s+j]?).getD undef,fun j c ai=>?_⟩;obtain⟨v,h1,ad,aj⟩:=md _ _ ai;refine⟨⟨?_,by simp only[h1,Option.getD_some]; exact ad,tS,fun ⟨b,m,h1,ad,aj⟩=>by cases ad⟩,by simp only[h1,Option.getD_some]; exact aj⟩;simp only[World.cell?,hw,h1,Option.getD_some,Option.isSome_none];rfl
 induction ax with
 | same c ah=>
  intro v aq;exact (fi.up (xa aq ah) fun k _ hk=>⟨hk.1,fun ⟨b,m,h1,ad,aj⟩=>by cases ad⟩:aO w R aN.empty (fun _=>none) _ v)
 | aM cs cs' ak h aH=>
  intro v aq;cases aq with
  | aM _ vs fW h1 aq=>
   refine .aM cs' vs (by omega) h1 (fun j c' v ai fe=>?_);have aK:j<cs.length:=by rw[<-ak]; exact (List.getElem?_eq_some_iff.1 ai).1
   exact aH j cs[j] c' (List.getElem?_eq_getElem aK) ai (aq j cs[j] v (List.getElem?_eq_getElem aK) fe)
 | bG cs cs' ak h aH=>
  intro v aq;cases aq with
  | bG _ vs fW aq=>
   refine .bG cs' vs (by omega) (fun j c' v ai fe=>?_);have aK:j<cs.length:=by rw[<-ak]; exact (List.getElem?_eq_some_iff.1 ai).1
   exact aH j cs[j] c' (List.getElem?_eq_getElem aK) ai (aq j cs[j] v (List.getElem?_eq_getElem aK) fe)
 | rF z b off cap sz=>
  intro v aq;cases aq with
  | au _ _ _ _ _ _ cap' cs m ag hm ak ap ah=>exact .fw z _ cap'
  | go _ _ _ _ _ _ cap' a ak ah ar=>exact .fw z _ cap'
  | hF _ _ _ _ a cs m ag hm=>exact .fw z a 0
 | ptr b off sz cs cs' ag ak h aH=>
  intro v aq;cases aq with
  | mz _ _ _ a ar=>
   exfalso;rcases ar with ar | ⟨n,hL,ar,aK⟩
   ·rw[ag] at ar; cases ar
   ·rw[ag] at ar; cases ar; omega
  | ptr _ _ _ hL m e9 hm=>
   obtain⟨f,aD⟩:=oF ag hm;refine .b6 cs' off m.r m.s f (fun j ai=>?_) (fun j c' ai=>?_)
   ·exact (aD j cs[j] (List.getElem?_eq_getElem (by omega))).1
   ·have aK:j<cs.length:=by rw[<-ak]; exact (List.getElem?_eq_some_iff.1 ai).1
    exact aH j cs[j] c' (List.getElem?_eq_getElem aK) ai (aD j cs[j] (List.getElem?_eq_getElem aK)).2
 | au z b off len cap sz cs es ag ak aw eG h aH=>
  intro v aq;cases aq with
  | hF _ _ _ _ a hL m e9 iY=>
   obtain rfl:=List.length_eq_zero_iff.1 ak;exact .fw z a 0
  | go _ _ _ _ _ _ cap' a ak ah ar=>
   exfalso;rcases ar with ar | ⟨n,hL,ar,aK⟩
   ·rw[ag] at ar; cases ar
   ·rw[ag] at ar; cases ar; omega
  | au _ _ _ _ _ _ cap' hL m e9 hm gX ap ah=>
   have cS:len<=cap':=by rcases ah with ⟨_,h⟩ | ⟨_,h,_⟩<;>omega
   obtain⟨f,aD⟩:=oF ag hm;subst ak;have aK:∀ i j,i<es.length->j<z->off+(i*z+j)<cs.length:=by
    intro i j av ai;have:i*z+z<=es.length*z:=by rw[<-Nat.succ_mul]; exact Nat.mul_le_mul_right _ av
    omega
   refine .bD z es m.r (m.s+off) cap' (fun i j=>f (off+(i*z+j))) cS aw (fun i j av ai=>?_) (fun i e ao j c' ai=>?_)
   ·have:=(aD _ _ (List.getElem?_eq_getElem (aK i j av ai))).1;rw[<-Nat.add_assoc] at this;exact this
   ·have av:i<es.length:=(List.getElem?_eq_some_iff.1 ao).1;have mf:j<z:=by rw[<-aw e (List.mem_of_getElem? ao)]; exact (List.getElem?_eq_some_iff.1 ai).1
    exact aH i j e _ c' ao ai (List.getElem?_eq_getElem (aK i j av mf)) (aD _ _ (List.getElem?_eq_getElem (aK i j av mf))).2
theorem EX:∀ {cs:List U},lz cs=true->∀ (j:Nat) (c:U),cs[j]? = some c->c.flat=true:=by
 intro cs
 induction cs with
 | nil=>intro _ j c h; simp at h
 | cons x cs aH=>
  intro ah j c ai;simp only[lz,Bool.and_eq_true] at ah;cases j with
  | zero=>simp at ai; subst ai; exact ah.1
  | succ j=>exact aH ah.2 j c (by simpa using ai)
theorem RZ {w w' : World} {A R:Nat->Prop} {h h' : aN} {μ μ' : cH} {c:U} {v:Value} (aq:aO w A h μ c v) (aD:c.flat=true) :aO w' R h' μ' c v:=by
 induction aq with
 | bool b=>exact .bool b
 | int k n=>exact .int k n
 | str bs=>exact .str bs
 | i8=>exact .i8
 | a1=>exact .a1
 | hA=>exact .hA
 | i6=>exact .i6
 | i7=>exact .i7
 | aM cs vs bh h1 aq aH=>exact .aM cs vs bh h1 (fun j c v ai fe=>aH j c v ai fe (EX (by simpa only [U.flat] using aD) j c ai))
 | bG cs vs bh aq aH=>exact .bG cs vs bh (fun j c v ai fe=>aH j c v ai fe (EX (by simpa only [U.flat] using aD) j c ai))
 | gA t c v aq aH=>exact .gA t c v (aH (by simpa only [U.flat] using aD))
 | lW l=>exact .lW l
 | _=>simp[U.flat] at aD
theorem aiH {f:FuncId} {args im:List U} {r:U} {h:aN} (ay:bw P G f im r) (bh:im.length=args.length) (kJ:∀ (j:Nat) (c c' : U),args[j]? = some c->im[j]? = some c'->fH h c c')
  (fL:r.flat=true) :w5 P G (.call f args h r h) :=by
 intro R B w μ vs rel g ak aq;refine (ay w R vs (fun i=>?_) (by omega) (fun j c' v ai fe=>?_)).mono ?_
 ·exact (fi.up (xa (g i).2 (g i).1) fun k _ hk=>⟨hk.1,fun ⟨b,m,h1,ad,aj⟩=>by cases ad⟩:aO w R aN.empty (fun _=>none) _ _)
 ·have aK:j<args.length:=by rw[<-bh]; exact (List.getElem?_eq_some_iff.1 ai).1
  exact WU rel (kJ j args[j] c' (List.getElem?_eq_getElem aK) ai) (aq j args[j] v (List.getElem?_eq_getElem aK) fe)
 ·rintro e w' ⟨v,rfl,ag,ax⟩;obtain⟨b9,b0⟩:=DL rel ag;exact⟨v,μ,rfl,b9,b0,RZ ax fL⟩
theorem aiI {f:FuncId} {args im:List U} {r:U} {h:aN} (ay:ja P G f im r) (bh:im.length=args.length) (kJ:∀ (j:Nat) (c c' : U),args[j]? = some c->im[j]? = some c'->fH h c c') :w5 P G (.call f args h r h) :=by
 intro R B w μ vs rel g ak aq;refine (ay w R vs (fun i=>?_) (by omega) (fun j c' v ai fe=>?_)).mono ?_
 ·exact (fi.up (xa (g i).2 (g i).1) fun k _ hk=>⟨hk.1,fun ⟨b,m,h1,ad,aj⟩=>by cases ad⟩:aO w R aN.empty (fun _=>none) _ _)
 ·have aK:j<args.length:=by rw[<-bh]; exact (List.getElem?_eq_some_iff.1 ai).1
  exact WU rel (kJ j args[j] c' (List.getElem?_eq_getElem aK) ai) (aq j args[j] v (List.getElem?_eq_getElem aK) fe)
 ·rintro e w' ⟨v,rfl,ag,ax⟩;obtain⟨b9,b0⟩:=DL rel ag;exact⟨v,μ,rfl,b9,b0,ax.up fun k hk cz=>⟨rel.up k (Nat.le_trans rel.size cz),fun ap=>by have:=Wd rel ap; omega⟩⟩
theorem ja.D0 {f:FuncId} {args:List U} {r:U} (ay:ja P G f args r) :bw P G f args r:=fun w A vs ar ak aq=>
 (ay w A vs ar ak aq).mono fun e w' ⟨v,h1,ad,aj⟩=>⟨v,h1,ad,(fi.up aj fun k _ hk=>⟨.inr hk,fun ⟨b,m,h1,ad,aj⟩=>by cases ad⟩:aO w' _ aN.empty (fun _=>none) _ _)⟩
theorem aiJ {f:FuncId} {args:List U} {r:U} {h:aN} (ay:bw P G f args r) (ah:bm args=true) :w5 P G (.call f args h r h) :=by
 intro R B w μ vs rel g ak aq;refine (ay w (fun k=>R k/\¬ lu h μ k) vs (fun i=>?_) ak (fun j c v ai fe=>xa (aq j c v ai fe) (BI ah j c ai))).mono ?_
 ·exact xa (g i).2 (g i).1
 ·rintro e w' ⟨v,rfl,ag,ax⟩;obtain⟨b9,b0⟩:=DL rel ag;refine⟨v,μ,rfl,b9,b0,ax.up (fun k hk cz=>?_)⟩;rcases cz with cz | cz
  ·exact cz
  ·exact⟨rel.up k (Nat.le_trans rel.size cz),fun ap=>by have:=Wd rel ap; omega⟩
end

section
variable {P:Program} {G:Nat->U}
theorem ahL {w:World} {R:Nat->Prop} {h:aN} {μ:cH} {aA:Operand->U} {dV:Operand->Value} (cY:∀ x,aO w R h μ (aA x) (dV x)) (o:Oper) {cs:List U} {mk:Nat->U} (aC:nn P aA o.op=some (cs,mk)) :
  ∃ v arr t,(execOp dV o).run P w=.ok (.value v) (w.alloc (.cells arr t))/\kW w R h μ cs arr ∧
   ∀ (w' : World) (tm:Nat->Prop) (h' : aN) (μ' : cH) (b:Nat),h'.f b=.cells cs.length cs->μ' b=some ⟨w.heap.size,0,arr.size⟩->aO w' tm h' μ' (mk b) v:=by
 obtain⟨dst,op,type,pos,after,guard⟩:=o;cases op<;>simp only[nn] at aC<;>try (cases aC; done)
 case alloc t=>
  cases aw:hs P t with
  | none=>rw[aw] at aC; cases aC
  | some z=>
   rw[aw] at aC;simp only[Option.map_some,Option.some.injEq,Prod.mk.injEq] at aC;obtain⟨rfl,rfl⟩:=aC;obtain⟨v,aq,ax⟩:=wY (P:=P) (w:=w) (R:=R) (h:=h) (μ:=μ) aw;refine⟨.pointer (some ⟨w.heap.size,0,none⟩),v.cells,t,by simp[execOp,Instr.alloc,aq,newVar,newRow],ax,fun w' tm h' μ' b ag hm=>?_⟩;have:=aO.ptr (w:=w') (R:=tm) (h:=h') (μ:=μ') b 0 z.length z _ ag hm;simpa using this
 case box t x=>
  cases aw:(aA x).cells with
  | none=>rw[aw] at aC; cases aC
  | some z=>
   rw[aw] at aC;simp only[Option.map_some,Option.some.injEq,Prod.mk.injEq] at aC;obtain⟨rfl,rfl⟩:=aC;obtain⟨b9,b0⟩:=EB (cY x) aw;refine⟨.pointer (some ⟨w.heap.size,0,none⟩),(dV x).cells,t,by simp[execOp,Instr.box,newVar,newRow],⟨b9,b0⟩,fun w' tm h' μ' b ag hm=>?_⟩;have:=aO.ptr (w:=w') (R:=tm) (h:=h') (μ:=μ') b 0 z.length z _ ag hm;simpa using this
 case buildSlice t len parts=>
  cases ao:io P t with
  | none=>rw[ao] at aC; cases aC
  | some e=>
  rw[ao] at aC;simp only at aC;cases aw:cv P e with
  | none=>rw[aw] at aC; cases aC
  | some z=>
  cases iE:hs P e with
  | none=>rw[aw,iE] at aC; cases aC
  | some zero=>
  rw[aw,iE] at aC;simp only at aC;split at aC
  ·rename_i jh;cases aD:hl (fun i=>some (i*z,z)) (dk zero len) (parts.toList.map fun p=>(p.1,aA p.2)) with
   | none=>rw[aD] at aC; cases aC
   | some cs'=>
    rw[aD] at aC;simp only[Option.map_some,Option.some.injEq,Prod.mk.injEq] at aC;obtain⟨rfl,rfl⟩:=aC;obtain⟨b9,b0⟩:=Mk cY parts;obtain⟨dE,arr,g7,ad⟩:=OV ao aw iE jh.1 jh.2 aD b9 b0;refine⟨.slice (some ⟨w.heap.size,0,none⟩) len len,arr,e,by simp[execOp,g7],ad,fun w' tm h' μ' b ag hm=>?_⟩;rw[dE] at ag;have:=aO.au (w:=w') (R:=tm) (h:=h') (μ:=μ') z b 0 len len (len*z) len _ _ ag hm (Nat.le_refl _) (by omega) (.inr ⟨by omega,Nat.le_refl _,by simp only; rw[ad.1,dE]; omega⟩);simpa using this
  ·cases aC
 case makeSlice t l c=>
  split at aC
  ·rename_i e li hi ao gN eN;obtain⟨kl,k3⟩:=rZ gN (cY l);obtain⟨kc,jM⟩:=rZ eN (cY c);cases aw:cv P e with
   | none=>rw[aw] at aC; cases aC
   | some z=>
   cases dD:jc P e with
   | none=>rw[aw,dD] at aC; cases aC
   | some by_=>
   cases iE:hs P e with
   | none=>rw[aw,dD,iE] at aC; cases aC
   | some zero=>
   rw[aw,dD,iE] at aC;simp only at aC;split at aC
   ·rename_i jh;obtain⟨hv,aE,lI,FF,df⟩:=jh;simp only[Option.some.injEq,Prod.mk.injEq] at aC;obtain⟨rfl,rfl⟩:=aC;obtain⟨bh,arr,g7,cC⟩:=VF (w:=w) (R:=R) (h:=h) (μ:=μ) (kl:=kl) (kc:=kc) ao aw dD iE hv aE lI FF df;refine⟨.slice (some ⟨w.heap.size,0,none⟩) li.toNat hi.toNat,arr,e,by simp[execOp,k3,jM,g7],cC,fun w' tm h' μ' b ag hm=>?_⟩;rw[bh] at ag;have:=aO.au (w:=w') (R:=tm) (h:=h') (μ:=μ') z b 0 li.toNat hi.toNat (hi.toNat*z) hi.toNat _ _ ag hm (by omega) (by omega) (.inr ⟨by omega,Nat.le_refl _,by simp only; rw[cC.1,bh]; omega⟩);simpa using this
   ·cases aC
  ·cases aC
theorem om.rel {R:Nat->Prop} {B:Nat} {w:World} {h h' : aN} {μ:cH} (g:om h h') (rel:b3 R B w h μ) :dx w h μ w h' μ/\b3 R B w h' μ:=by
 have aK:∀ b m,μ b=some m->b<h.n:=fun b m hm=>rel.r0 hm
 have e:dx w h μ w h' μ:=by
  refine⟨⟨rfl,rfl,rfl,Nat.le_refl _,fun _ _ _=>rfl,?_,?_,?_,?_,g.n,Nat.le_refl _⟩,fun _ _ hm=>hm⟩
  ·rintro k ⟨b,m,ak,hm,rfl⟩;rw[g.same b (aK b m hm)] at ak;exact .inl ⟨b,m,ak,hm,rfl⟩
  ·intro b sz cs m ag hm;exact .inl ⟨cs,by rw[g.same b (aK b m hm)]; exact ag,hm⟩
  ·rintro b sz ar;have ag:b<h.n:=by
    rcases Nat.lt_or_ge b h.n with h1 | h1
    ·exact h1
    ·have:=rel.fresh b h1;rcases ar with ar | ⟨n,cs,ar,_⟩<;>rw[this] at ar<;>cases ar
   rcases ar with ar | ⟨n,cs,ar,iX⟩
   ·exact .inl (by rw[g.same b ag]; exact ar)
   ·exact .inr ⟨n,cs,by rw[g.same b ag]; exact ar,iX⟩
  ·intro b k m ag hm;exact⟨by rw[g.same b (aK b m hm)]; exact ag,hm⟩
 refine⟨e,fun b m hm=>?_,fun b bi m cn ak c1 hm bZ ax=>?_,fun b m ak hm=>?_,g.fresh rel.fresh,rel.up,rel.size,fun b ag=>rel.kM b (Nat.le_trans g.n ag)⟩
 ·rw[g.same b (aK b m hm)];exact (rel.blk b m hm).ext e.toExt0 rfl
 ·rw[g.same b (aK b m hm)] at ak;rw[g.same bi (aK bi cn bZ)] at c1;exact rel.inj b bi m cn ak c1 hm bZ ax
 ·rw[g.same b (aK b m hm)] at ak;exact rel.base b m ak hm
theorem XY {K:Act->World->Prop} {Q:Exit->Act->World->Prop} {e:rO} {a:Act} {w:World} (ao:e≠.normal) (h:Q e.out a w) :Exit.then K Q e.out a w:=by
 cases e with
 | normal=>exact absurd rfl ao
 | exit id=>exact h
 | ret=>exact h
theorem ZY {id:Nat} {Q:Exit->Act->World->Prop} {e:rO} {a:Act} {w:World} (ao:e≠.exit id) (h:Q e.out a w) :Exit.inBlock id Q e.out a w:=by
 cases e with
 | normal=>exact h
 | exit sF=>
  have:sF≠id:=fun aG=>ao (by rw[aG])
  simpa [Exit.inBlock,rO.out,this] using h
 | ret=>exact h
def NZ (P:Program) (G:Nat->U) :Prop:=
 ∀ {id:Nat} {ops:Array Oper} {N:Nat} {ae:Nat->U} {h:aN} {bY:Nat->U} {h' : aN} (pre:Nat->Nat->Bool) (val:Nat->U) (W:Nat->Bool) (cls:Nat->Ec) (m:Nat) (al:Nat->Nat) (fy rS:Nat->aN) (gu:Nat->Nat) (cells:Nat->List U),
  tg ops pre->
  (∀ (i:Nat) (o:Oper),ops[i]? = some o->pF N o.dst=true)->
  om h (fy 0)->h'=fy m->(bY=fun t=>match jy ops t with | some i=>val i | none=>ae t)->
  (∀ (i:Nat) (o:Oper),ops[i]? = some o->W i=true->cls i=.gj->∃ q,q<m/\al q=i)->
  (∀ q,q<m->∃ o,ops[al q]? = some o/\W (al q)=true/\cls (al q)=.gj)->
  (∀ q fl,q<m->fl<m->q<fl->pre (al fl) (al q)=true)->
  (∀ q fl,q<m->fl<m->al q=al fl->q=fl)->
  (∀ (i:Nat) (o:Oper),ops[i]? = some o->ks ops (mX ops pre val ae i o) o=some (W i))->
  (∀ (i:Nat) (o:Oper),ops[i]? = some o->W i=false->val i=he)->
  (∀ (i:Nat) (o:Oper),ops[i]? = some o->W i=true->cls i=.pure->∀ k,zw pre m al i k->cV P (fy k) (cR G (mX ops pre val ae i o)) o.op=some (.val (val i) (fy k)))->
  (∀ (i:Nat) (o:Oper),ops[i]? = some o->W i=true->cls i=.new->∃ mk,nn P (cR G (mX ops pre val ae i o)) o.op=some (cells i,mk)/\val i=mk (gu i)/\h.n<=gu i ∧
    ∀ k,zw pre m al i k->(fy k).f (gu i)=.cells (cells i).length (cells i))->
  (∀ (i j:Nat) (o cJ:Oper),ops[i]? = some o->ops[j]? = some cJ->W i=true->W j=true->cls i=.new->cls j=.new->gu i=gu j->i=j)->
  (∀ (i:Nat) (o:Oper) (q:Nat),ops[i]? = some o->W i=true->cls i=.new->q<m->gu i<(fy q).n\/(rS q).n<=gu i)->
  (∀ q,q<m->om (rS q) (fy (q+1)))->
  (∀ (q:Nat) (o:Oper),q<m->ops[al q]? = some o->w5 P G (.op o.op (mX ops pre val ae (al q) o) (fy q) (val (al q)) (rS q)))->
  w5 P G (.code (.region id ops true) N ae h .normal bY h')
theorem qC.ext {h ad:aN} (k:qC h ad) (w:World) (μ:cH) :dx w h μ w ad μ:=by
 refine⟨⟨rfl,rfl,rfl,Nat.le_refl _,fun _ _ _=>rfl,?_,?_,?_,?_,Nat.le_of_eq k.n.symm,Nat.le_refl _⟩,fun _ _ hm=>hm⟩
 ·rintro r ⟨b,m,ak,hm,rfl⟩;refine .inl ⟨b,m,?_,hm,rfl⟩;rcases k.blk b with ao | ⟨sz,cs,ah,_⟩
  ·rw[<-ao]; exact ak
  ·rw[ah]; rfl
 ·intro b sz cs m ag hm;rcases k.blk b with ao | ⟨sz',cs',ah,bq | ⟨hL,Cd,_⟩⟩
  ·exact .inl ⟨cs,by rw[ao]; exact ag,hm⟩
  ·exact .inr (.inl bq)
  ·rw[ag] at ah; cases ah; exact .inl ⟨hL,Cd,hm⟩
 ·rintro b sz (ag | ⟨n,cs,ag,aK⟩)
  ·rcases k.blk b with ao | ⟨sz',cs',ah,_⟩
   ·exact .inl (ao.trans ag)
   ·rw[ag] at ah; cases ah
  ·rcases k.blk b with ao | ⟨sz',cs',ah,bq | ⟨hL,Cd,_⟩⟩
   ·exact .inr ⟨n,cs,by rw[ao]; exact ag,aK⟩
   ·exact .inl bq
   ·rw[ag] at ah; cases ah; exact .inr ⟨n,hL,Cd,aK⟩
 ·intro b mr m ag hm;rcases k.blk b with ao | ⟨sz',cs',ah,_⟩
  ·exact⟨by rw[ao]; exact ag,hm⟩
  ·rw[ah] at ag; cases ag
theorem qC.live {h ad:aN} (k:qC h ad) {b:Nat} (ak:live (ad.f b)=true) :live (h.f b)=true:=by
 rcases k.blk b with ao | ⟨sz,cs,ah,_⟩
 ·rw[<-ao]; exact ak
 ·rw[ah]; rfl
theorem qC.qw {R:Nat->Prop} {B:Nat} {w:World} {h ad:aN} {μ:cH} (rel:b3 R B w h μ) (k:qC h ad) :∀ {c cy:U},qB h ad c cy->∀ {v:Value},aO w R h μ c v->aO w R ad μ cy v:=by
 intro c cy ax
 induction ax with
 | same c=>intro v aq; exact aq.ext (k.ext w μ)
 | aM cs cs' ak h aH=>
  intro v aq;cases aq with
  | aM _ vs fW h1 aq=>
   refine .aM cs' vs (by omega) h1 (fun j c' v ai fe=>?_);have aK:j<cs.length:=by rw[<-ak]; exact (List.getElem?_eq_some_iff.1 ai).1
   exact aH j cs[j] c' (List.getElem?_eq_getElem aK) ai (aq j cs[j] v (List.getElem?_eq_getElem aK) fe)
 | rF z b off cap sz=>
  intro v aq;cases aq with
  | au _ _ _ _ _ _ cap' cs m ag hm ak ap ah=>exact .fw z _ cap'
  | go _ _ _ _ _ _ cap' a ak ah ar=>exact .fw z _ cap'
  | hF _ _ _ _ a cs m ag hm=>exact .fw z a 0
 | au z b off len cap sz cs es ag bq ak aw eG aq aH=>
  intro v aq;cases aq with
  | hF _ _ _ _ a hL m e9 iY=>
   obtain rfl:=List.length_eq_zero_iff.1 ak;exact .fw z a 0
  | go _ _ _ _ _ _ cap' a ak ah ar=>
   exfalso;rcases ar with ar | ⟨n,hL,ar,aK⟩
   ·rw[ag] at ar; cases ar
   ·rw[ag] at ar; cases ar; omega
  | au _ _ _ _ _ _ cap' hL m e9 hm gX ap ah=>
   rw[ag] at e9; cases e9;have hblk:=rel.blk b m hm;rw[ag] at hblk;obtain⟨ce,ci,arr,t,fV,hw,aB,aD,md⟩:=hblk;have cS:len<=cap':=by rcases ah with ⟨_,h⟩ | ⟨_,h,_⟩<;>omega
   have lH:Go.b2.live (h.f b)=true:=by rw[ag]; rfl
   have tS:R m.r:=rel.up _ (rel.base b m lH hm);have dF:¬ lu ad μ m.r:=by
    rintro⟨bi,cn,c1,bZ,j8⟩;have:=rel.inj bi b cn m (k.live c1) lH bZ hm j8;subst this;rw[bq] at c1; cases c1
   subst ak;have oF:∀ i j,i<es.length->j<z->∃ c v,cs[off+(i*z+j)]? = some c/\arr[m.s+(off+(i*z+j))]? = some v/\v.oneCell'=true/\aO w R h μ c v:=by
    intro i j av ai;have aK:off+(i*z+j)<cs.length:=by
     have:i*z+z<=es.length*z:=by rw[<-Nat.succ_mul]; exact Nat.mul_le_mul_right _ av
     omega
    obtain⟨v,h1,ad,aj⟩:=md _ _ (List.getElem?_eq_getElem aK);exact⟨_,v,List.getElem?_eq_getElem aK,h1,ad,aj⟩
   refine .bD z es m.r (m.s+off) cap' (fun i j=>(arr[m.s+(off+(i*z+j))]?).getD undef) cS aw (fun i j av ai=>?_) (fun i e ao j c' ai=>?_)
   ·obtain⟨c,v,h1,ad,aj,aF⟩:=oF i j av ai;refine⟨?_,?_,tS,dF⟩
    ·simp only[World.cell?,hw,ad,Option.getD_some,Option.isSome_none];rw[show m.s+off+(i*z+j)=m.s+(off+(i*z+j)) by omega,ad]; rfl
    ·rw[ad]; exact aj
   ·have av:i<es.length:=(List.getElem?_eq_some_iff.1 ao).1;have mf:j<z:=by rw[<-aw e (List.mem_of_getElem? ao)]; exact (List.getElem?_eq_some_iff.1 ai).1
    obtain⟨c,v,h1,ad,aj,aF⟩:=oF i j av mf;simp only[ad,Option.getD_some];exact aH i j e c c' ao ai h1 aF
theorem qC.rel {R:Nat->Prop} {B:Nat} {w:World} {h ad:aN} {μ:cH} (rel:b3 R B w h μ) (k:qC h ad) :b3 R B w ad μ:=by
 refine⟨?_,?_,?_,?_,rel.up,rel.size,?_⟩
 ·intro b m hm;have ag:=rel.blk b m hm;rcases k.blk b with ao | ⟨sz,cs,ah,bq | ⟨hL,Cd,bh,aq⟩⟩
  ·rw[ao]; exact ag.ext (k.ext w μ).toExt0 rfl
  ·rw[bq]; trivial
  ·rw[Cd];rw[ah] at ag;obtain⟨h1,gS,arr,t,fV,aj,aF,aW,bt⟩:=ag;refine⟨by omega,gS,arr,t,fV,aj,aF,aW,fun j cy ai=>?_⟩;have aK:j<cs.length:=by rw[<-bh]; exact (List.getElem?_eq_some_iff.1 ai).1
   obtain⟨v,aS,aX,a3⟩:=bt j cs[j] (List.getElem?_eq_getElem aK);exact⟨v,aS,aX,k.qw rel (aq j cs[j] cy (List.getElem?_eq_getElem aK) ai) a3⟩
 ·intro b bi m cn ak c1 hm bZ ax;exact rel.inj b bi m cn (k.live ak) (k.live c1) hm bZ ax
 ·intro b m ak hm;exact rel.base b m (k.live ak) hm
 ·intro b ag;rw[k.n] at ag;rcases k.blk b with ao | ⟨sz,cs,ah,_⟩
  ·rw[ao]; exact rel.fresh b ag
  ·rw[rel.fresh b ag] at ah; cases ah
 ·intro b ag;rw[k.n] at ag;exact rel.kM b ag
theorem akC (bq:NZ P G) {j:J} (ai:dn P G j) :w5 P G j:=by
 induction ai with
 | skip N ae h=>exact⟨0,fun R B w μ a Q rel g s k=>wp_skip (k a w μ (.refl _ _ _) rel s)⟩
 | label l N ae h=>exact⟨0,fun R B w μ a Q rel g s k=>wp_label (k a w μ (.refl _ _ _) rel s)⟩
 | ret N ae h=>exact⟨0,fun R B w μ a Q rel g s k=>wp_ret (k a w μ (.refl _ _ _) rel s)⟩
 | exit id N ae h=>exact⟨0,fun R B w μ a Q rel g s k=>wp_exit (k a w μ (.refl _ _ _) rel s)⟩
 | Xq h1 ad c2 hy=>
  obtain⟨lj,c2⟩:=c2;obtain⟨n2,hy⟩:=hy;exact⟨0,fun R B w μ a Q rel g s k=>wp_seq (pk.wp (c2 R B w μ a _ rel g s fun aS bW g2 aQ ec c9=>
   pk.wp (hy R B bW g2 aS Q ec (g.ext aQ) c9 fun aX w2 rN bF fg hE=>k aX w2 rN (aQ.trans bF) fg hE)))⟩
 | M4 h1 ao c2=>
  obtain⟨lj,c2⟩:=c2;exact⟨0,fun R B w μ a Q rel g s k=>wp_seq (pk.wp (c2 R B w μ a _ rel g s fun aS bW g2 aQ ec c9=>XY ao (k aS bW g2 aQ ec c9)))⟩
 | cond ah h1 c2=>
  rename_i c x y N ae h b e bY h';obtain⟨lj,c2⟩:=c2;refine⟨0,fun R B w μ a Q rel g s k=>?_⟩;have aq:=s.cR g c;rw[ah] at aq;cases zQ:a.eval c<;>rw[zQ] at aq<;>try (cases aq; done)
  cases aq;exact wp_cond zQ (pk.wp (c2 R B w μ a Q rel g s k))
 | Es h1 ao c2=>
  obtain⟨lj,c2⟩:=c2;exact⟨0,fun R B w μ a Q rel g s k=>wp_block (pk.wp (c2 R B w μ a _ rel g s fun aS bW g2 aQ ec c9=>ZY ao (k aS bW g2 aQ ec c9)))⟩
 | OP h1 c2=>
  obtain⟨lj,c2⟩:=c2;exact⟨0,fun R B w μ a Q rel g s k=>wp_block (pk.wp (c2 R B w μ a _ rel g s fun aS bW g2 aQ ec c9=>by
   simp only[rO.out,Exit.inBlock,if_true];exact k aS bW g2 aQ ec c9))⟩
 | Ao h1 ad c2 hy=>
  obtain⟨lj,c2⟩:=c2;obtain⟨n2,hy⟩:=hy;exact⟨n2+1,fun R B w μ a Q rel g s k=>pk.wp (c2 R B w μ a _ rel g s fun aS bW g2 aQ ec c9=>
   hy R B bW g2 aS Q ec (g.ext aQ) c9 fun aX w2 rN bF fg hE=>k aX w2 rN (aQ.trans bF) fg hE)⟩
 | LN h1 ao c2=>
  obtain⟨lj,c2⟩:=c2;exact⟨1,fun R B w μ a Q rel g s k=>pk.wp (c2 R B w μ a _ rel g s fun aS bW g2 aQ ec c9=>XY ao (k aS bW g2 aQ ec c9))⟩
 | scope h1 c2=>
  obtain⟨lj,c2⟩:=c2;rename_i c N ae h e bY h';refine⟨0,fun R B w μ a Q rel g s k=>wp_scope_straight (pk.wp (c2 R B w μ a _ rel g s fun aS bW g2 aQ ec c9=>?_))⟩;have:=k aS bW g2 aQ ec c9;cases e<;>exact this
 | region h1 c2=>exact⟨0,fun R B w μ a Q rel g s k=>wp_region_list (c2 R B w μ a Q rel g s k)⟩
 | draw pre val W cls m al fy rS gu cells hd pQ aE hm Gn xL Ct ng dY vX Ge F6 nd FB FC pS pM aH=>
  exact bq pre val W cls m al fy rS gu cells hd pQ aE hm Gn xL Ct ng dY vX Ge F6 nd FB FC pS aH
 | V4=>exact fun R B w μ a Q rel g s k=>k a w μ (.refl _ _ _) rel s
 | V6 hw zO h1 c2=>
  intro R B w μ a Q rel g s k;have vX:=NP (w:=w) (R:=R) (h:=_) (μ:=μ) (tmps:=a.tmps) hw (fun d _=>s.val d);unfold wpList;rw[if_neg (by rw[vX]; simp)];exact c2 R B w μ _ Q rel g (s.put zO NF) k
 | V5 hw zO h1 ad c2 hy=>
  intro R B w μ a Q rel g s k;have vX:=NP (w:=w) (R:=R) (h:=_) (μ:=μ) (tmps:=a.tmps) hw (fun d _=>s.val d);unfold wpList;rw[if_pos vX];refine .inl (c2 R B w μ a _ _ Q rfl rel g (s.cR g) fun aY bW g2 aQ ec aq=>?_);exact hy R B bW g2 _ Q ec (g.ext aQ) ((s.ext aQ).put zO aq) fun aX w2 rN bF fg hE=>k aX w2 rN (aQ.trans bF) fg hE
 | G5 al=>
  intro R B w μ a o K Q ap rel g cY k;subst ap;have:=Nf (P:=P) rel cY o al;obtain⟨v,w',μ',ax,e,r,aq⟩:=this;unfold Oper.wp;rcases ax with ax | ⟨ax,rfl⟩
  ·rw[ax]; exact k v w' μ' e r aq
  ·rw[ax]; exact k undef w' μ' e r aq
 | Az al h1 c2=>
  intro R B w μ a o K Q ap rel g cY k;subst ap;obtain⟨rfl,vs,ax,ak,aq⟩:=Nf (P:=P) rel cY o al;unfold Oper.wp;rw[ax];refine (c2 R B w μ vs rel g ak aq).mono ?_;rintro e w' ⟨v,μ',rfl,aQ,ec,mm⟩;exact k v w' μ' aQ ec mm
 | HR h1 kt aq c2=>
  intro R B w μ a o K Q ap rel g cY k;refine c2 R B w μ a o K Q ap rel g cY fun aY w' μ' e r uj=>?_
  exact k aY w' μ' (e.trans (kt.ext w' μ')) (kt.rel r) (kt.qw r aq uj)
 | inline aD ag h1 ao ax c2=>
  rename_i f fn c args h e bY h' r;obtain⟨lj,c2⟩:=c2;intro R B w μ vs rel g ak aq;refine calls_of_wp aD ag (pk.wp (c2 R B w μ _ _ rel g ⟨by simp[ak],rfl,fun t=>?_⟩ fun aS bW g2 aQ ec c9=>?_))
  ·by_cases aI:t<args.length
   ·have aB:args.getD t he=args[t] :=by simp[List.getD,aI]
    have mn:(vs++Array.replicate (fn.ntmps - vs.size) undef).getD t undef=vs[t] :=by
     rw[Array.getD_eq_getD_getElem?,Array.getElem?_append_left (by omega)];simp[show t<vs.size by omega]
    rw[aB,mn];exact aq t _ _ (by simp[aI]) (by simp)
   ·have aB:args.getD t he=he:=by simp[List.getD,List.getElem?_eq_none (by omega:args.length<=t)]
    have mn:(vs++Array.replicate (fn.ntmps - vs.size) undef).getD t undef=undef:=by
     rw[Array.getD_eq_getD_getElem?,Array.getElem?_append_right (by omega),Array.getElem?_replicate];split<;>rfl
    rw[aB,mn];exact NF
  ·obtain⟨v,b9,b0⟩:=ajJ ec c9 ax;have F9:c9.defers=c9.defers:=rfl;rcases ao with rfl | rfl
   ·exact⟨c9.defers,v,b9,v,g2,rfl,aQ,ec,b0⟩
   ·exact⟨c9.defers,v,b9,v,g2,rfl,aQ,ec,b0⟩
 | pure ay ah=>exact aiJ ay ah
 | Mt ay ak ax aD=>exact aiH ay ak ax aD
 | ext al=>exact al
 | Mu ay ak ax=>exact aiI ay ak ax
end

end Go.b2

/-
  The canonical machine, part Im: maps, strings rune by rune, bytes compared.
-/
import Derived.Test.YtginfboibgolaaaGreatDoorRb
import Derived.Stop.SameAnswer
import Derived.Orders
import Derived.Still
import Derived.Scope
import Derived.LoopN
set_option linter.unusedVariables false
set_option linter.unusedSimpArgs false
set_option linter.unnecessarySimpa false
namespace Go.bJ
open Go
section
variable {P:Program} {w:World} {R:Nat->Prop} {B:Nat} {h:aN} {μ:cu}
def tI:U->Value
 | .bool b=>.bool b
 | .int k n=>.int k n
 | .str s=>.string ⟨s.toArray⟩
 | _=>.tuple #[]
def x0:U->Value
 | .aI cs=>.agg (cs.map tI).toArray
 | c=>tI c
theorem afT {c:U} {v:Value} (aB:rQ c=true) (ao:aO w R h μ c v) :v=tI c:=by
 cases c<;>simp[rQ] at aB
 ·cases ao; rfl
 ·cases ao; rfl
 ·cases ao;rename_i bs;show Value.string bs=.string ⟨bs.data.toList.toArray⟩;congr 1
theorem FI {t:TypeId} {c:U} (aA:kn P t c=true) :∃ cs m,c=.aI cs/\qv P 8 t=true/\dE P t=some true/\cf P t=some m/\cs.length=m/\∀ x∈cs,rQ x=true:=by
 unfold kn at aA;split at aA
 ·rename_i cs;simp only[aqw] at aA;obtain⟨⟨h1,ad⟩,aj⟩:=aA;split at ad
  ·rename_i m az al;exact⟨cs,m,rfl,h1,az,al,arl ad,fun x ag=>ari.1 aj x ag⟩
  ·cases ad
 ·cases aA
theorem KH {t:TypeId} {c:U} {v:Value} (aA:kn P t c=true) (ao:aO w R h μ c v) :v=x0 c:=by
 obtain⟨cs,m,rfl,_,_,_,_,hint⟩:=FI aA;cases ao with
 | aI _ vs ak h1 ao=>
  show Value.agg vs=.agg (cs.map tI).toArray;congr 1;apply Array.ext_getElem?;intro j;have ag:(cs.map tI).toArray[j]? = (cs[j]?).map tI:=by simp
  rw[ag];cases ai:cs[j]? with
  | none=>simp only[Option.map_none]; rw[arY]; rw[ak]; exact asB.1 ai
  | some c=>
   have aL:=(aqr.1 ai).1;have lV:=ao j c vs[j] ai (arP (by omega));rw[arP (by omega)];simp only[aqy,Option.some.injEq];exact afT (hint c (aqI ai)) lV
theorem XH (a:ByteArray) :(a == a)=true:=by
 show (a.data == a.data)=true;exact beq_self_eq_true _
theorem ahn {c:U} (n:Nat) (ah:rQ c=true) :Instr.sameBits n (tI c) (tI c)=true:=by
 cases c<;>simp[rQ] at ah<;>unfold tI Instr.sameBits
 ·simp
 ·simp
 ·exact XH _
theorem ahm {t:TypeId} {c:U} (n:Nat) (aA:kn P t c=true) :Instr.sameBits (n+1) (x0 c) (x0 c)=true:=by
 obtain⟨cs,m,rfl,_,_,_,_,hint⟩:=FI aA;unfold x0 Instr.sameBits;simp only[beq_self_eq_true,art,ari];rintro⟨x,y⟩ kM;rw[aqU] at kM;obtain⟨j,ai⟩:=kM;rw[List.getElem?_zip_eq_some] at ai;obtain⟨h1,ad⟩:=ai;rw[h1] at ad; cases ad;simp only[aqx,asL] at h1;obtain⟨c,ah,rfl⟩:=h1;exact ahn n (hint c (aqI ah))
theorem aha {t:TypeId} {c:U} (aA:kn P t c=true) :(Instr.keyThatStays (x0 c) (x0 c)).run P w=.ok (x0 c) w:=by
 unfold Instr.keyThatStays;rw[if_pos (ahm 9999 aA)];simp
theorem Iu {α:Type} {f:α->PUnit->Sem (ForInStep PUnit)}:∀ (l:List α),(∀ x∈l,(f x ⟨⟩).run P w=.ok (.yield ⟨⟩) w)->(forIn l ⟨⟩ f).run P w=.ok ⟨⟩ w
 | [],_=>by simp
 | x::l,aA=>by
  rw[List.forIn_cons];simp only[Sem.run_bind,aA x (by simp),Result.andThen_ok];exact Iu l (fun y aG=>aA y (by simp[aG]))
theorem LQ (em:Bool) :∀ (d n:Nat) (t:TypeId) (c:U) (v:Value),d<=n->qv P d t=true->aO w R h μ c v->(dE P t=some true->∃ cs m,c=.aI cs/\cf P t=some m/\cs.length=m)->
  (Instr.checkKey em n t v).run P w=.ok () w
 | 0,_,_,_,_,_,hk,_,_=>by simp[qv] at hk
 | d+1,0,_,_,_,aD,_,_,_=>by omega
 | d+1,n+1,t,c,v,aD,hk,ao,az=>by
  unfold qv at hk;split at hk
  ·rename_i aK; cases v<;>simp[Instr.checkKey,ce aK]
  ·rename_i aK; cases v<;>simp[Instr.checkKey,ce aK]
  ·rename_i aK; cases v<;>simp[Instr.checkKey,ce aK]
  ·rename_i len e m aK hm;have Ja:dE P t=some true:=by unfold dE; rw[aK]; rfl
   obtain⟨cs,ca,rfl,bR,ak⟩:=az Ja;rw[hm] at bR; cases bR;simp only[aqw] at hk;obtain⟨n2,i1⟩:=hk;split at i1
   ·rename_i z a av Je;simp only[aqw] at i1;have eu:=asa i1.1;have qp:=asa i1.2;obtain⟨vs,rfl,ay⟩:=tX ao;unfold Instr.checkKey;simp only[Sem.run_bind,ce aK,Result.andThen_ok];rw[Std.Legacy.Range.forIn_eq_forIn_range'];rw[Iu]
    ·simp
    intro i ax;have fk:i<len:=by simp[Std.Legacy.Range.size] at ax; omega
    have abO:i*z+z<=cs.length:=by
     have:i*z+z<=len*z:=by rw[<-ara]; exact aqz _ fk
     omega
    have aB:∃ c,hj P e cs (i*z)=some c/\(dE P e=some true->∃ cs' ca,c=.aI cs'/\cf P e=some ca/\cs'.length=ca) :=by
     unfold hj;rw[Je,av];cases a with
     | true=>exact⟨_,by simp only; rw[if_pos abO],fun _=>⟨_,z,rfl,rfl,by simp; omega⟩⟩
     | false=>exact⟨cs[i*z]'(by omega),by simp only; exact aqu (by omega),fun h=>by cases h⟩
    obtain⟨c,ah,yY⟩:=aB;obtain⟨u,aj,aC⟩:=vt (P:=P) ah ay;simp only[Sem.run_bind,fp av,Result.andThen_ok,aj w];rw[LQ em d n e c u (by omega) n2 aC yY];simp
   ·cases i1
  ·rename_i fs m aK hm;have Ja:dE P t=some true:=by unfold dE; rw[aK]; rfl
   obtain⟨cs,ca,rfl,bR,ak⟩:=az Ja;rw[hm] at bR; cases bR;obtain⟨vs,rfl,ay⟩:=tX ao;unfold Instr.checkKey;simp only[Sem.run_bind,ce aK,Result.andThen_ok];rw[<-Array.forIn_toList,Iu]
   ·simp
   intro f aA;have Ff:=ari.1 hk f aA;simp only[aqw] at Ff;obtain⟨n2,i1⟩:=Ff;split at i1
   ·rename_i z a av Je;simp only[aqw] at i1;have eu:=asa i1.1;have qp:=asa i1.2;have aB:∃ c,hj P f.type cs f.offset=some c/\(dE P f.type=some true->∃ cs' ca,c=.aI cs'/\cf P f.type=some ca/\cs'.length=ca) :=by
     unfold hj;rw[Je,av];cases a with
     | true=>exact⟨_,by simp only; rw[if_pos (by omega)],fun _=>⟨_,z,rfl,rfl,by simp; omega⟩⟩
     | false=>exact⟨cs[f.offset]'(by omega),by simp only; exact aqu (by omega),fun h=>by cases h⟩
    obtain⟨c,ah,yY⟩:=aB;obtain⟨u,aj,aC⟩:=vt (P:=P) ah ay;have:=LQ em d n f.type c u (by omega) n2 aC yY;by_cases RZ:f.name= "_"
    ·simp[RZ]
    ·simp[RZ,aj w,this]
   ·cases i1
  ·cases hk
theorem UR {t:TypeId} {c:U} {v:Value} (em:Bool) (aA:kn P t c=true) (ao:aO w R h μ c v) :(Instr.checkKey em 10000 t v).run P w=.ok () w:=by
 obtain⟨cs,m,rfl,h1,ad,aj,aC,_⟩:=FI aA;exact LQ em 8 10000 t _ v (by omega) h1 ao (fun _=>⟨cs,m,rfl,aj,aC⟩)
def sa (w:World) (R:Nat->Prop) (h:aN) (μ:cu) (es:List (U × U × Nat)) (c9:List MapEntry) :Prop:=
 c9.length=es.length/\∀ (j:Nat) (k v:U) (b:Nat),es[j]? = some (k,v,b)->∃ x:MapEntry,c9[j]? = some x/\aO w R h μ k x.key/\aO w R h μ v x.val/\x.born=b
def MV (w:World) (R:Nat->Prop) (h:aN) (μ:cu) (k:U) (c9:List MapEntry) (i:Nat) :Option (Nat × U)->Option (Nat × Value)->Prop
 | none,r=>r=none
 | some (j,v),r=>∃ oF,r=some (j,oF)/\aO w R h μ v oF/\i<=j/\∃ x,c9[j - i]? = some x/\x.val=oF/\aO w R h μ k x.key
theorem YX {es:List (U × U × Nat)} {e:U × U × Nat} {x:MapEntry} {c9:List MapEntry} (ay:sa w R h μ (e::es) (x::c9)) :sa w R h μ es c9:=
 ⟨by have:=ay.1; simp at this; exact this,fun j k v b ai=>ay.2 (j+1) k v b (by simpa using ai)⟩
theorem YW {es:List (U × U × Nat)} {k v:U} {b:Nat} {x:MapEntry} {c9:List MapEntry} (ay:sa w R h μ ((k,v,b) ::es) (x::c9)) :aO w R h μ k x.key/\aO w R h μ v x.val/\x.born=b:=by
 obtain⟨y,h1,ad⟩:=ay.2 0 k v b rfl;simp at h1; subst h1; exact ad
theorem PI {cA:TypeId} {k:U} {hg:Value} (hk:aO w R h μ k hg) :∀ (es:List (U × U × Nat)) (c9:List MapEntry) (i:Nat) (r:Option (Nat × U)),sa w R h μ es c9->iW P cA k es i=some r->
  ∃ cC,(Instr.findAsking cA hg c9 i).run P w=.ok cC w/\MV w R h μ k c9 i r cC
 | [],c9,i,r,ay,aA=>by
  have:c9=[] :=arf.1 ay.1;subst this;simp only[iW,Option.some.injEq] at aA; subst aA;exact⟨none,by simp[Instr.findAsking],rfl⟩
 | (k',v,b) ::es,[],i,r,ay,aA=>by have:=ay.1; simp at this
 | (k',v,b) ::es,x::c9,i,r,ay,aA=>by
  obtain⟨h1,ad,aj⟩:=YW ay;simp only[iW] at aA;split at aA
  ·cases aA
  rename_i dW;split at aA
  ·rename_i heq;split at aA
   ·rename_i aaT;simp only[Option.some.injEq] at aA; subst aA;have hB:=Il (P:=P) 10000 cA k k' true hg x.key heq hk h1;refine⟨some (i,x.val),?_,x.val,rfl,ad,aqv _,x,by simp,rfl,?_⟩
    ·simp only[Instr.findAsking,Op.equal,Op.maxDepth,Sem.run_bind];rw[hB]; simp
    ·rw[U.beq_eq aaT]; exact h1
   ·cases aA
  ·rename_i heq;have hB:=Il (P:=P) 10000 cA k k' false hg x.key heq hk h1;obtain⟨cC,aC,aZ⟩:=PI hk es c9 (i+1) r (YX ay) aA;refine⟨cC,?_,?_⟩
   ·simp only[Instr.findAsking,Op.equal,Op.maxDepth,Sem.run_bind];rw[hB]; simpa using aC
   ·cases r with
    | none=>exact aZ
    | some va=>
     obtain⟨oF,bx,de,eb,y,gk,k3,sN⟩:=aZ;exact⟨oF,bx,de,by omega,y,by rw[show va.1 - i=(va.1 - (i+1))+1 by omega]; simpa using gk,k3,sN⟩
  ·cases aA
theorem UT {cA:TypeId} {k:U} {hg:Value} (hk:aO w R h μ k hg) (aA:kn P cA k=true) {es:List (U × U × Nat)} {c9:List MapEntry} {r:Option (Nat × U)} (ay:sa w R h μ es c9) (Jn:iW P cA k es 0=some r) :
  ∃ cC,(Instr.findKey cA hg c9).run P w=.ok cC w/\MV w R h μ k c9 0 r cC:=by
 obtain⟨cC,h1,ad⟩:=PI hk es c9 0 r ay Jn;refine⟨cC,?_,ad⟩;obtain⟨cs,m,rfl,aj,aC,_⟩:=FI aA;unfold dE at aC;cases aK:P.underlying cA with
 | none=>rw[aK] at aC; cases aC
 | some d=>
  rw[aK] at aC;unfold Instr.findKey;simp only[Sem.run_bind,ce aK,Result.andThen_ok];cases c9 with
  | nil=>simpa [Instr.findNow,Instr.findAsking] using h1
  | cons x c9=>
   have aD:Instr.findNow d hg (x::c9) 0=none:=by
    cases d<;>simp at aC<;>simp[Instr.findNow,Instr.sameNow]
   rw[aD];exact h1
theorem aeU (rel:bV R B w h μ) {m:U} {fF:Value} {es:List (U × U × Nat)} (hm:mapOf h m=some es) (ao:aO w R h μ m fF) :
  (fF=.map none/\es=[])\/∃ b b3 dZ c9,m=.mp b/\h.f b=.map es dZ/\μ b=some b3/\fF=.map (some b3.r)/\w.heap[b3.r]? = some (.map c9 dZ)/\sa w R h μ es c9.toList:=by
 cases m<;>simp[mapOf] at hm
 ·subst hm; cases ao; exact .inl ⟨rfl,rfl⟩
 ·rename_i b;cases ao with
  | mp _ b3 af h6=>
   cases ah:h.f b<;>rw[ah] at hm<;>simp at hm;rename_i aly dZ;subst hm;have hblk:=rel.blk b b3 h6;rw[ah] at hblk;obtain⟨c9,h1,ad,aj⟩:=hblk;refine .inr ⟨b,b3,dZ,c9,rfl,ah,h6,rfl,h1,by simpa using ad,fun j k v bf ai=>?_⟩;obtain⟨x,aC,aZ⟩:=aj j k v bf ai;exact⟨x,by simpa using aC,aZ⟩
theorem LR {r:Nat} {es:Array MapEntry} {dZ:Nat} (af:w.heap[r]? = some (.map es dZ)) :(getObj r).run P w=.ok (.map es dZ) w:=by simp[getObj,Sem.run,af]
theorem UU {r:Nat} {s:ByteArray} {pos:Nat} (af:w.heap[r]? = some (.stringIter s pos)) :(getObj r).run P w=.ok (.stringIter s pos) w:=by simp[getObj,Sem.run,af]
theorem V2 {t:TypeId} {z:U} (av:x8 P t=some z) :∃ v,(zeroValue t).run P w=.ok v w/\aO w R h μ z v:=by
 unfold x8 at av;cases ax:P.info? t with
 | none=>rw[ax] at av; cases av
 | some i=>
  rw[ax] at av;simp only[arF] at av;cases ao:i.zero with
  | none=>rw[ao] at av; cases av
  | some v=>
   rw[ao] at av;simp only[aqy,Option.some.injEq] at av; subst av;exact⟨v,UW ax ao,.vq v⟩
theorem aO.Vx {a b:U} {hE gc:Value} (az:aO w R h μ a hE) (af:aO w R h μ b gc) :aO w R h μ (.bu [a,b]) (.tuple #[hE,gc]) :=by
 refine .bu _ _ rfl fun j c v ah ao=>?_
 rcases j with _ | _ | j
 ·simp at ah ao; subst ah ao; exact az
 ·simp at ah ao; subst ah ao; exact af
 ·simp at ah
theorem aeF (rel:bV R B w h μ) {t:TypeId} {m k c:U} {fF hg:Value} {ok:Bool} (ak:FR P h t m k ok=some c) (hm:aO w R h μ m fF) (hk:aO w R h μ k hg) :
  ∃ v,(Instr.lookup t fF hg ok).run P w=.ok v w/\aO w R h μ c v:=by
 unfold FR at ak;split at ak
 ·rename_i cA lM es aK wY;split at ak
  ·cases ak
  ·rename_i dW;have Yt:∀ c9:List MapEntry,sa w R h μ es c9->∃ cC,(Instr.findKey cA hg c9).run P w=.ok cC w ∧
     ((∃ i v,cC=some (i,v)/\∃ sB,aO w R h μ sB v/\c=if ok then .bu [sB,.bool true] else sB)\/(cC=none/\∃ z,x8 P lM=some z/\c=if ok then .bu [z,.bool false] else z)) :=by
    intro c9 ay;cases kG:iW P cA k es 0 with
    | none=>rw[kG] at ak; cases ak
    | some r=>
     obtain⟨cC,h1,ad⟩:=UT hk dW ay kG;rw[kG] at ak;refine⟨cC,h1,?_⟩;cases r with
     | none=>
      cases ad;simp only at ak;cases av:x8 P lM with
      | none=>rw[av] at ak; cases ak
      | some z=>
       rw[av] at ak;simp only[aqy,Option.some.injEq] at ak;exact .inr ⟨rfl,z,rfl,ak.symm⟩
     | some va=>
      obtain⟨oF,rfl,aC,_⟩:=ad;simp only[Option.some.injEq] at ak;exact .inl ⟨_,oF,rfl,_,aC,ak.symm⟩
   have fin:∀ (c9:List MapEntry) (em:Bool),sa w R h μ es c9->∀ m:Sem Value,m.run P w=(((Instr.checkKey em 10000 cA hg).bind fun _=>(Instr.findKey cA hg c9).bind fun r=>match r with
     | some (_,v)=>pure (if ok=true then .tuple #[v,.bool true] else v)
     | none=>(zeroValue lM).bind fun z=>pure (if ok=true then .tuple #[z,.bool false] else z)) :Sem Value).run P w->∃ v,m.run P w=.ok v w/\aO w R h μ c v:=by
    intro c9 em ay m hm;obtain⟨cC,h1,ad⟩:=Yt c9 ay;have EW:∀ {α jc:Type} (a:Sem α) (f:α->Sem jc),a.bind f=a >>= f:=fun _ _=>rfl
    simp only[EW,Sem.run_bind,UR em dW hk,Result.andThen_ok,h1] at hm;rcases ad with ⟨i,v,rfl,sB,aj,rfl⟩ | ⟨rfl,z,aj,rfl⟩
    ·simp only at hm;cases ok
     ·exact⟨v,by simpa using hm,aj⟩
     ·exact⟨.tuple #[v,.bool true],by simpa using hm,aO.Vx aj (.bool _)⟩
    ·obtain⟨v,aC,aZ⟩:=V2 (w:=w) (R:=R) (h:=h) (μ:=μ) aj;simp only[Sem.run_bind,aC,Result.andThen_ok] at hm;cases ok
     ·exact⟨v,by simpa using hm,aZ⟩
     ·exact⟨.tuple #[v,.bool false],by simpa using hm,aO.Vx aZ (.bool _)⟩
   have EW:∀ {α jc:Type} (a:Sem α) (f:α->Sem jc),a.bind f=a >>= f:=fun _ _=>rfl
   rcases aeU rel wY hm with ⟨rfl,rfl⟩ | ⟨b,b3,dZ,c9,rfl,af,h6,rfl,jl,ay⟩
   ·refine fin [] true ⟨rfl,fun j k v b ai=>by simp at ai⟩ _ ?_;unfold Instr.lookup;simp only[EW,Sem.run_bind,ce aK,Result.andThen_ok,Sem.run_pure];cases cz:(Instr.checkKey true 10000 cA hg).run P w with
    | halt a b=>simp[cz]
    | ok a bS=>
     simp[cz];cases abt:(Instr.findKey cA hg []).run P bS with
     | halt a b=>simp
     | ok r w2=>
      simp;cases r with
      | none=>cases (zeroValue lM).run P w2<;>simp
      | some x=>simp
   ·refine fin c9.toList c9.isEmpty ay _ ?_;unfold Instr.lookup;simp only[EW,Sem.run_bind,ce aK,Result.andThen_ok,Sem.run_pure,LR jl];cases cz:(Instr.checkKey c9.isEmpty 10000 cA hg).run P w with
    | halt a b=>simp[cz]
    | ok a bS=>
     simp[cz];cases abt:(Instr.findKey cA hg c9.toList).run P bS with
     | halt a b=>simp
     | ok r w2=>
      simp;cases r with
      | none=>cases (zeroValue lM).run P w2<;>simp
      | some x=>simp
 ·cases ak
theorem aet (rel:bV R B w h μ) {t ty:TypeId} {x c:U} {bw:Value} (ah:xm P h t x=some c) (ag:aO w R h μ x bw) :∃ v,(Builtin.len_ #[t] ty #[bw]).run P w=.ok v w/\aO w R h μ c v:=by
 unfold xm at ah;split at ah
 ·rename_i cA lM b aK;split at ah
  ·rename_i es dZ af;simp only[Option.some.injEq] at ah; subst ah;cases ag with
   | mp _ b3 hk h6=>
    have hblk:=rel.blk b b3 h6;rw[af] at hblk;obtain⟨c9,h1,ad,aj⟩:=hblk;exact⟨.int .i64 c9.size,by simp[Builtin.len_,ce aK,LR h1,goInt],by rw[ad]; exact .int _ _⟩
  ·cases ah
 ·cases ah
theorem aeS (rel:bV R B w h μ) {t:TypeId} {r:Option Value} (aK:∃ k e,P.underlying t=some (.map k e)) (ay:∀ x,r=some x->∃ k n,x=.int k n) :∃ v w' μ',(Instr.makeMap t r).run P w=.ok v w'/\db w h μ w' (h.push (.map [] 0)) μ'/\bV R B w' (h.push (.map [] 0)) μ'/\aO w' R (h.push (.map [] 0)) μ' (.mp h.n) v:=by
 have:=rel.Ua (w':=w.alloc (.map #[] 0)) (.map [] 0) (.map #[] 0) (k:=0) rfl rfl rfl rfl rfl ⟨#[],by show (w.heap.push _)[w.heap.size]? = _; simp,rfl,fun j k v b ai=>by simp at ai⟩;refine⟨.map (some w.heap.size),w.alloc (.map #[] 0),_,?_,this.1,this.2,?_⟩
 ·obtain⟨k,e,aK⟩:=aK;cases r with
  | none=>simp[Instr.makeMap,newObj,Sem.run]
  | some x=>
   obtain⟨k',n,rfl⟩:=ay x rfl;simp[Instr.makeMap,newObj,Sem.run,ce aK,Go.asInt,Go.asIntOf]
 ·exact .mp h.n ⟨w.heap.size,0,0⟩ (by simp[dG,nr]) (by simp)
theorem To (rel:bV R B w h μ) {t:TypeId} {m k x:U} {fF hg bw:Value} {h' : aN} (nm:xq P h t m k x=some h') (hm:aO w R h μ m fF) (hk:aO w R h μ k hg) (ag:aO w R h μ x bw) :
  ∃ w',(Instr.mapUpdate t fF hg bw).run P w=.ok () w'/\db w h μ w' h' μ/\bV R B w' h' μ:=by
 unfold xq at nm;split at nm
 ·rename_i cA lM b aK;split at nm
  ·rename_i es dZ af;split at nm
   ·cases nm
   ·rename_i dW;cases hm with
    | mp _ b3 qb h6=>
     have hblk:=rel.blk b b3 h6;rw[af] at hblk;obtain⟨c9,h1,ad,aj⟩:=hblk;have aL:b3.r<w.heap.size:=by
      rcases arC b3.r w.heap.size with h | h
      ·exact h
      ·rw[arY h] at h1; cases h1
     have ay:sa w R h μ es c9.toList:=⟨by simpa using ad,fun j k v bf ai=>by obtain⟨y,aC,aZ⟩:=aj j k v bf ai; exact⟨y,by simpa using aC,aZ⟩⟩
     have lj:∀ o:Obj,(setObj b3.r o).run P w=.ok () { w with heap:=w.heap.setIfInBounds b3.r o }:=fun o=>by simp[setObj,Sem.run,h1]
     have lU:∀ (yG:List (U × U × Nat)) (yH:Array MapEntry) (AQ:Nat),(∀ {w2:World} {ad:aN},Ext0 w h μ w2 ad μ->yH.size=yG.length/\∀ (j:Nat) (k v:U) (b:Nat),yG[j]? = some (k,v,b)->∃ x:MapEntry,yH[j]? = some x/\aO w2 R ad μ k x.key/\aO w2 R ad μ v x.val/\x.born=b)->
       db w h μ { w with heap:=w.heap.setIfInBounds b3.r (.map yH AQ) } (h.set b (.map yG AQ)) μ/\bV R B { w with heap:=w.heap.setIfInBounds b3.r (.map yH AQ) } (h.set b (.map yG AQ)) μ:=by
      intro yG yH AQ bm;refine rel.kt (k:=0) af rfl rfl h6 rfl rfl rfl (by simp) (fun k hk=>?_) (fun e=>?_)
      ·simp only; rw[arK]; rw[if_neg (fun aM=>hk aM.symm)]
      ·obtain⟨q1,fZ⟩:=bm e;exact⟨yH,by simp only; rw[arK]; simp[aL],q1,fZ⟩
     unfold Instr.mapUpdate;simp only[Sem.run_bind,ce aK,Result.andThen_ok,LR h1,UR false dW hk];cases kG:iW P cA k es 0 with
     | none=>rw[kG] at nm; cases nm
     | some r=>
      rw[kG] at nm;obtain⟨cC,aC,aZ⟩:=UT hk dW ay kG;rw[aC];cases r with
      | none=>
       cases aZ;simp only[Option.some.injEq] at nm; subst nm;have:=lU (es++[(k,x,dZ)]) (c9.push { key:=hg,val:=bw,born:=dZ }) (dZ+1) (fun e=>⟨by simp[ad],fun j k' a8 bf ai=>?_⟩)
       ·exact⟨_,by simp only[Result.andThen_ok]; rw[lj],this⟩
       ·rw[Array.getElem?_push];by_cases eN:j<es.length
        ·rw[aqt eN] at ai;obtain⟨y,bx,de,eb,gk⟩:=aj j k' a8 bf ai;exact⟨y,by rw[if_neg (by omega)]; exact bx,de.my e,eb.my e,gk⟩
        ·rw[aqB (by omega)] at ai;have BM:j - es.length=0:=by
          rcases Nat.eq_zero_or_pos (j - es.length) with h | h
          ·exact h
          ·rw[aqJ (by simp; omega)] at ai; cases ai
         rw[BM] at ai;simp at ai;obtain⟨rfl,rfl,rfl⟩:=ai;exact⟨_,by rw[if_pos (by omega)],hk.my e,ag.my e,rfl⟩
      | some va=>
       obtain⟨i,v⟩:=va;obtain⟨oF,rfl,bx,_,y,de,eb,gk⟩:=aZ;simp only[Option.some.injEq] at nm; subst nm;have re:c9[i]? = some y:=by simpa using de
       have aR:y.key=hg:=by rw[KH dW gk,KH dW hk]
       have uO:(Instr.keyThatStays (((c9[i]?).map (·.key)).getD hg) hg).run P w=.ok hg w:=by
        rw[re];simp only[aqy,arb,aR];rw[KH dW hk];exact aha dW
       have:=lU (es.modify i fun e=>(k,x,e.2.2)) (c9.modify i fun e=>{ e with key:=hg,val:=bw }) dZ (fun e=>⟨by simp[ad],fun j k' a8 bf ai=>?_⟩)
       ·refine⟨_,?_,this⟩;simp only[Result.andThen_ok,Sem.run_bind,uO];rw[lj]
       ·rw[List.getElem?_modify] at ai;rw[ast];cases mE:es[j]? with
        | none=>rw[mE] at ai; simp at ai
        | some eL=>
         obtain⟨hC,v0,gN⟩:=eL;rw[mE] at ai;obtain⟨VZ,k3,sN,II,Qp⟩:=aj j hC v0 gN mE;rw[k3];by_cases hx:i=j
         ·simp[hx] at ai;obtain⟨rfl,rfl,rfl⟩:=ai;exact⟨{ VZ with key:=hg,val:=bw },by simp[hx],hk.my e,ag.my e,Qp⟩
         ·simp[hx] at ai;obtain⟨rfl,rfl,rfl⟩:=ai;exact⟨VZ,by simp[hx],sN.my e,II.my e,Qp⟩
  ·cases nm
 ·cases nm
theorem agE (rel:bV R B w h μ) {t:TypeId} {x c:U} {bw:Value} {h' : aN} (ay:Gp P h t x=some (c,h')) (ag:aO w R h μ x bw) :
  ∃ v w' μ',(Instr.range t bw).run P w=.ok v w'/\db w h μ w' h' μ'/\bV R B w' h' μ'/\aO w' R h' μ' c v:=by
 unfold Gp at ay;split at ay
 ·rename_i s aK;simp only[Option.some.injEq,Prod.mk.injEq] at ay;obtain⟨rfl,rfl⟩:=ay;cases ag;rename_i bs;have:=rel.Ua (w':=w.alloc (.stringIter bs 0)) (.iter bs.data.toList 0) (.stringIter bs 0) (k:=1) rfl rfl rfl rfl rfl ⟨bs,rfl,by show (w.heap.push _)[w.heap.size]? = _; simp⟩;refine⟨.pointer (some ⟨w.heap.size,0,none⟩),w.alloc (.stringIter bs 0),_,?_,this.1,this.2,?_⟩
  ·simp[Instr.range,ce aK,newObj,Sem.run]
  ·exact .it h.n ⟨w.heap.size,0,0⟩ (by simp[dG,nr]) (by simp)
 ·cases ay
theorem ae8 (rel:bV R B w h μ) {x c:U} {bw:Value} {h' : aN} {ty:TypeId} (ay:zK h x=some (c,h')) (ag:aO w R h μ x bw) :
  ∃ v w',(Instr.next bw true ty).run P w=.ok v w'/\db w h μ w' h' μ/\bV R B w' h' μ/\aO w' R h' μ c v:=by
 unfold zK at ay;split at ay
 ·rename_i b;split at ay
  ·rename_i s pos af;cases ag with
   | it _ b3 qb h6=>
    have hblk:=rel.blk b b3 h6;rw[af] at hblk;obtain⟨bs,rfl,h1⟩:=hblk;have aL:b3.r<w.heap.size:=by
     rcases arC b3.r w.heap.size with h | h
     ·exact h
     ·rw[arY h] at h1; cases h1
    have sS:(⟨bs.data.toList.toArray⟩:ByteArray)=bs:=by cases bs; simp
    have gF:bs.data.toList.length=bs.size:=by rw[asf]; rfl
    rw[sS] at ay;split at ay
    ·rename_i n5;have aB:pos<bs.size:=by rw[<-gF]; rw[atC] at n5; exact n5
     simp only[Option.some.injEq,Prod.mk.injEq] at ay;obtain⟨rfl,rfl⟩:=ay;have:=rel.kt (w':={ w with heap:=w.heap.setIfInBounds b3.r (.stringIter bs (pos+(Utf8.decode bs pos).2)) }) (k:=1) (c':=.iter bs.data.toList (pos+(Utf8.decode bs pos).2)) af rfl rfl h6 rfl rfl rfl (by simp)
      (fun k hk=>by simp only; rw[arK]; rw[if_neg (fun aM=>hk aM.symm)]) (fun e=>⟨bs,rfl,by simp only; rw[arK]; simp[aL]⟩)
     refine⟨.tuple #[.bool true,.int .i64 pos,.int .i32 (Utf8.decode bs pos).1],_,?_,this.1,this.2,?_⟩
     ·simp only[Instr.next,Sem.run_bind,UU h1,Result.andThen_ok,if_pos aB];simp[setObj,Sem.run,h1,goInt]
     ·refine .bu _ _ rfl fun j c v ah ao=>?_
      rcases j with _ | _ | _ | j
      ·simp at ah ao; subst ah ao; exact .bool _
      ·simp at ah ao; subst ah ao; exact .int _ _
      ·simp at ah ao; subst ah ao; exact .int _ _
      ·simp at ah
    ·rename_i n5;have aB:¬ pos<bs.size:=by
      rw[<-gF]; intro aM;rw[<-atC] at aM; rw[aM] at n5; cases n5
     simp only[Option.some.injEq,Prod.mk.injEq] at ay;obtain⟨rfl,rfl⟩:=ay;refine⟨.tuple #[.bool false],w,?_,.refl _ _ _,rel,?_⟩
     ·simp only[Instr.next,Sem.run_bind,UU h1,Result.andThen_ok,if_neg aB];simp
     ·refine .bu _ _ rfl fun j c v ah ao=>?_
      rcases j with _ | j
      ·simp at ah ao; subst ah ao; exact .bool _
      ·simp at ah
  ·cases ay
 ·cases ay
theorem US {blk:Nat}:∀ (n:Nat) (o:Nat) (ns:List Int) (acc:ByteArray),ns.length=n->(∀ j v,(ns.map (Value.int .u8))[j]? = some v->(load (⟨blk,o+j,none⟩:Addr)).run P w=.ok v w)->
  ∃ bs,(Extern.Bytes.loadBytes ⟨blk,o,none⟩ n acc).run P w=.ok bs w/\bs.data.toList=acc.data.toList++ns.map fun n=>UInt8.ofNat n.toNat
 | 0,o,ns,acc,ak,_=>⟨acc,by simp[Extern.Bytes.loadBytes],by rw[arf.1 ak]; simp⟩
 | n+1,o,[],acc,ak,_=>by simp at ak
 | n+1,o,x::ns,acc,ak,h=>by
  have aE:=h 0 _ rfl;obtain⟨bs,h1,ad⟩:=US n (o+1) ns (acc.push (UInt8.ofNat x.toNat)) (by simpa using ak) (fun j v ai=>by
   have:=h (j+1) v (by simpa using ai);rw[show o+(j+1)=o+1+j by omega] at this;exact this)
  refine⟨bs,?_,?_⟩
  ·unfold Extern.Bytes.loadBytes;rw[asU] at aE;simp only[Sem.run_bind,aE,Result.andThen_ok,Addr.lK];exact h1
  ·rw[ad]; simp
theorem NU (rel:bV R B w h μ) {x:U} {bw:Value} {l:List UInt8} (af:q3 h x=some l) (ag:aO w R h μ x bw) :∃ bs,(Extern.Bytes.bytesOf bw).run P w=.ok bs w/\bs.data.toList=l:=by
 unfold q3 at af;split at af
 ·simp only[Option.some.injEq] at af; subst af;cases ag with
  | str bs=>exact⟨bs,by simp[Extern.Bytes.bytesOf],rfl⟩
 ·rename_i rs;split at af
  ·rename_i cs n c7;obtain⟨bB,bc,vs,cj,kG⟩:=ur (P:=P) rel c7 ag;have aA:=kG n (aqv _) w (fun _=>rfl);obtain⟨ns,rfl,rfl⟩:=HQ cs vs l af cj.1 cj.2;have lh:ns.length=n:=by have:=cj.1; simp at this; omega
   have B7:(ns.map (Value.int .u8)).take (n*1)=ns.map (Value.int .u8) :=aqs (by simp; omega);rw[B7] at aA;have Jo:∃ a len cap,bw=.slice a len cap:=by
    cases ag<;>first | exact⟨_,_,_,rfl⟩ | (simp[contents] at c7; done) | (exact absurd rfl (rs _))
   obtain⟨a,len,cap,rfl⟩:=Jo;simp only[Builtin.lenOf,Sem.run_pure,Result.ok.injEq] at bc;obtain⟨rfl,_⟩:=bc;cases a with
   | none=>
    simp only[Builtin.firstCells,Sem.run_pure,Result.ok.injEq] at aA;have lW:ns=[] :=by
     have:=congrArg Array.toList aA.1;simpa using this.symm
    subst lW;exact⟨.empty,by simp[Extern.Bytes.bytesOf],rfl⟩
   | some a=>
    by_cases s1:len=0
    ·subst s1;have:ns=[] :=arf.1 lh;subst this;exact⟨.empty,by simp[Extern.Bytes.bytesOf,Extern.Bytes.loadBytes],rfl⟩
    have az:∃ blk o,a=⟨blk,o,none⟩:=by
     cases ag with
     | ar=>exact⟨_,_,rfl⟩
     | b0=>exact⟨_,_,rfl⟩
     | fe=>exact absurd rfl s1
     | hl=>exact absurd rfl s1
     | bad=>simp[contents] at c7
     | ga _ _ _ _ _ _ _ _ h1 ad au=>
      exfalso;simp only[contents] at c7;rcases au with au | ⟨n,hq,au,aL⟩
      ·rw[au] at c7; cases c7
      ·rw[au] at c7;simp only at c7;split at c7
       ·rename_i aM; omega
       ·cases c7
    obtain⟨blk,o,rfl⟩:=az;simp only[Builtin.firstCells,arS] at aA;unfold loadCells at aA;obtain⟨l,h1,ad,aj⟩:=loadCellsFrom_ok _ _ _ _ _ _ aA;have aC:l=ns.map (Value.int .u8) :=by
     have:=congrArg Array.toList ad;simpa using this.symm
    subst aC;obtain⟨bs,aZ,bx⟩:=US (P:=P) (w:=w) (blk:=blk) len o ns .empty lh (fun j v ai=>by
     have:=aj j v ai;rw[Addr.lK,arD] at this;exact this)
    exact⟨bs,by simpa [Extern.Bytes.bytesOf] using aZ,by rw[bx]; rfl⟩
  ·cases af
theorem Pb:∀ (a b:List UInt8),(match (List.range (min a.length b.length)).find? fun i=>a.getD i 0 != b.getD i 0 with
  | some i=>if a.getD i 0<b.getD i 0 then (-1:Int) else 1
  | none=>if a.length<b.length then -1 else if a.length > b.length then 1 else 0)=m4 a b
 | [],[]=>by simp[m4]
 | [],_::_=>by simp[m4]
 | _::_,[]=>by simp[m4]
 | x::a,y::b=>by
  have aJ:=Pb a b;simp only[aqH,Nat.add_min_add_right,List.range_succ_eq_map,asV,List.getD_cons_zero];by_cases kM:x=y
  ·subst kM;simp only[bne_self_eq_false,m4,if_true];rw[<-aJ,List.find?_map];have y4:((fun i=>(x::a).getD i 0 != (x::b).getD i 0) ∘ Nat.succ)=fun i=>a.getD i 0 != b.getD i 0:=by
    funext i; simp
   rw[y4];cases aA:(List.range (min a.length b.length)).find? fun i=>a.getD i 0 != b.getD i 0 with
   | none=>simp only[Option.map_none]; congr 1<;>simp
   | some i=>simp
  ·have bY:(x != y)=true:=by simp[kM]
   simp only[bY,m4,if_neg kM,List.getD_cons_zero]
theorem PK {α:Type} {p q:α->Bool}:∀ (l:List α),(∀ x∈l,p x=q x)->l.find? p=l.find? q
 | [],_=>rfl
 | x::l,h=>by
  rw[asV,asV,h x (by simp),PK l (fun y aG=>h y (by simp[aG]))]
theorem yy (a b:ByteArray) :Extern.BytealgCompare.cmp a b=m4 a.data.toList b.data.toList:=by
 rw[<-Pb];unfold Extern.BytealgCompare.cmp;have au:∀ (a:ByteArray) (i:Nat),i<a.size->a[i]! = a.data.toList.getD i 0:=fun a i ax=>by
  simp only[aqD,ar9];rw[getElem!_pos a i ax];have:i<a.data.size:=ax;rw[arP this]; rfl
 have ak:∀ a:ByteArray,a.data.toList.length=a.size:=fun a=>by rw[asf]; rfl
 rw[ak,ak];have Jn:(List.range (min a.size b.size)).find? (fun i=>a[i]! != b[i]!)=(List.range (min a.size b.size)).find? (fun i=>a.data.toList.getD i 0 != b.data.toList.getD i 0) :=by
  apply PK;intro i ax;have:=aqZ.1 ax;rw[au a i (by omega),au b i (by omega)]
 rw[Jn];cases aA:(List.range (min a.size b.size)).find? (fun i=>a.data.toList.getD i 0 != b.data.toList.getD i 0) with
 | none=>rfl
 | some i=>
  have:=aqZ.1 (atj aA);simp only;rw[au a i (by omega),au b i (by omega)]
theorem Zr {fn:Func} (aD:fn.name= "internal/bytealg.Compare") (aq:fn.origin= ""\/fn.origin= "internal/bytealg.Compare") :Extern.find fn=some Extern.BytealgCompare.compare/\Extern.findNext fn=none:=by
 constructor
 ·unfold Extern.find;simp only[aD];rfl
 ·unfold Extern.findNext;simp only[aD];rcases aq with aq | aq<;>rw[aq]<;>rfl
theorem Zc (rel:bV R B w h μ) {f:FuncId} {fn:Func} {args:List U} {vs:Array Value} {c:U} (aA:P.funcs[f]? = some fn) (ax:Cj fn=true) (ah:AX h args=some c)
  (ak:vs.size=args.length) (ao:∀ (j:Nat) (c:U) (v:Value),args[j]? = some c->vs[j]? = some v->aO w R h μ c v) :
  ∃ v,(callFunc f vs).run P w=.ok (.value v) w/\aO w R h μ c v:=by
 unfold Cj at ax;simp only[aqw,asC,beq_iff_eq] at ax;obtain⟨⟨af,aD⟩,aq⟩:=ax;unfold AX at ah;split at ah
 ·rename_i x y;split at ah
  ·rename_i a b az bH;simp only[Option.some.injEq] at ah; subst ah;simp only[aqH,aq5] at ak;have lW:vs=#[vs[0],vs[1]] :=by
    apply Array.ext
    ·simpa using ak
    ·intro i h1 ad;rcases (show i=0\/i=1 by simp at ad; omega) with rfl | rfl<;>rfl
   obtain⟨ba,h1,ad⟩:=NU (P:=P) rel az (ao 0 x vs[0] rfl (by simp[ak]));obtain⟨ako,aj,aC⟩:=NU (P:=P) rel bH (ao 1 y vs[1] rfl (by simp[ak]));obtain⟨aR,bI⟩:=Zr aD aq;refine⟨.int .i64 (m4 a b),?_,.int _ _⟩;rw[lW];have bY:fn.name≠ "runtime.NumGoroutine":=by rw[aD]; decide
   have af:=atk.1 af;have sT:Extern.BytealgCompare.compare #[vs[0],vs[1]]=(do pure (goInt (Extern.BytealgCompare.cmp (<-Extern.Bytes.bytesOf vs[0]) (<-Extern.Bytes.bytesOf vs[1])))) :=rfl;simp[callFunc,aA,bY,af,aR,bI,mark,Sem.run,sT,h1,aj,yy,ad,aC,goInt]
  ·cases ah
 ·cases ah
end

section
variable {P:Program} {w:World} {R:Nat->Prop} {B:Nat} {h:aN} {μ:cu}
inductive vX:Value->Value->Prop where
 | bool (a b:Bool) :vX (.bool a) (.bool b)
 | agg (a b:Array Value) :vX (.agg a) (.agg b)
 | slice (a:Option Addr) (l c:Nat) (eD:Option Addr) (l' c' : Nat) :vX (.slice a l c) (.slice eD l' c')
theorem Y2 {d:Nat} {t:TypeId} {x y:U} {b:Bool} {bw fz:Value} (ap:ea P d t x y=some b) (ag:aO w R h μ x bw) (aG:aO w R h μ y fz)
  (ax:∀ k a k' bf,x=.int k a->y=.int k' bf->False) (al:∀ a bf,x=.str a->y=.str bf->False) :vX bw fz:=by
 cases d with
 | zero=>simp[ea] at ap
 | succ d=>
  unfold ea at ap;split at ap
  ·cases ag; cases aG; exact .bool _ _
  ·exact (ax _ _ _ _ rfl rfl).elim
  ·exact (al _ _ rfl rfl).elim
  ·cases ag; cases aG; exact .agg _ _
  ·cases ag; cases aG; exact .agg _ _
  ·cases ag; cases aG; exact .slice _ _ _ _ _ _
  ·cases ag; cases aG<;>exact .slice _ _ _ _ _ _
  ·cases ag; cases aG<;>exact .slice _ _ _ _ _ _
  ·cases ag<;>cases aG<;>exact .slice _ _ _ _ _ _
  ·cases ag<;>cases aG<;>exact .slice _ _ _ _ _ _
  ·cases ap
theorem Y0 {op:BinOp} {t:TypeId} {tu rN:Operand} {bw fz:Value} (al:vX bw fz) (au:∀ a b,bw=.agg a->fz=.agg b->P.eqGuardType P.depth t=false) :(eqGuard op t tu rN bw fz).run P w=.ok () w:=by
 cases al with
 | bool a b=>cases op<;>rfl
 | agg a b=>exact run_eqGuard_agg w op t tu rN a b (au a b rfl rfl)
 | slice=>cases op<;>rfl
theorem ag9 {t:TypeId} {bw fz:Value} {b:Bool} (al:vX bw fz) (fW:(Op.equalIn 10000 t bw fz).run P w=.ok b w) :
  (binOp .eql t bw fz).run P w=.ok (.bool b) w/\(binOp .neq t bw fz).run P w=.ok (.bool (!b)) w:=by
 have bm:(Op.equal t bw fz).run P w=.ok b w:=fW;cases al<;>constructor<;>simp[binOp,bm]
theorem YZ {op:BinOp} {t:TypeId} {tu rN:Operand} {k k' : IntKind} {a b:Int}:(eqGuard op t tu rN (.int k a) (.int k' b)).run P w=.ok () w:=by
 cases op<;>rfl
theorem Y1 {op:BinOp} {t:TypeId} {tu rN:Operand} {a b:ByteArray}:(eqGuard op t tu rN (.string a) (.string b)).run P w=.ok () w:=by
 cases op<;>rfl
theorem Xe {op:BinOp} {t:TypeId} {tu rN:Operand} {x y c:U} {bw fz:Value} (ah:fG P op t x y=some c) (ag:aO w R h μ x bw) (aG:aO w R h μ y fz) :
  ∃ v,((do eqGuard op t tu rN bw fz; binOp op t bw fz:Sem Value)).run P w=.ok v w/\aO w R h μ c v:=by
 unfold fG at ah;split at ah
 ·cases ag; cases aG;obtain⟨v,h1,ad⟩:=Xf (P:=P) (w:=w) (R:=R) (h:=h) (μ:=μ) (t:=t) ah;exact⟨v,by simp[YZ,h1],ad⟩
 ·cases ag; cases aG;obtain⟨v,h1,ad⟩:=Xg (P:=P) (w:=w) (R:=R) (h:=h) (μ:=μ) (t:=t) ah;exact⟨v,by simp[Y1,h1],ad⟩
 ·rename_i acl rs;have key:∀ b,wq P t x y=true->ea P 10000 t x y=some b->vX bw fz/\(eqGuard op t tu rN bw fz).run P w=.ok () w ∧
    (binOp .eql t bw fz).run P w=.ok (.bool b) w/\(binOp .neq t bw fz).run P w=.ok (.bool (!b)) w:=by
   intro b dN ap;have od:=Y2 ap ag aG acl rs;have au:∀ a b,bw=.agg a->fz=.agg b->P.eqGuardType P.depth t=false:=by
    rintro a b rfl rfl;cases ag with
    | aI cs _ _ _ _=>
     cases aG with
     | aI cs' _ _ _ _=>simpa [wq] using dN
     | bad=>simp[ea] at ap
    | bad=>cases aG<;>simp[ea] at ap
   have bm:=Il 10000 t x y b bw fz ap ag aG;obtain⟨bL,bz⟩:=ag9 od bm;exact⟨od,Y0 od au,bL,bz⟩
  split at ah
  ·split at ah
   ·rename_i dN;cases ap:ea P 10000 t x y with
    | none=>rw[ap] at ah; cases ah
    | some b=>
     rw[ap] at ah;simp only[aqy,Option.some.injEq] at ah; subst ah;obtain⟨_,bL,bz,_⟩:=key b dN ap;exact⟨.bool b,by simp[bL,bz],.bool _⟩
   ·cases ah
  ·split at ah
   ·rename_i dN;cases ap:ea P 10000 t x y with
    | none=>rw[ap] at ah; cases ah
    | some b=>
     rw[ap] at ah;simp only[aqy,Option.some.injEq] at ah; subst ah;obtain⟨_,bL,_,bz⟩:=key b dN ap;exact⟨.bool (!b),by simp[bL,bz],.bool _⟩
   ·cases ah
  ·cases ah
theorem aiT {op:UnOp} {x c:U} {bw:Value} (ah:pB op x=some c) (ag:aO w R h μ x bw) :∃ v,(Op.unary op bw).run P w=.ok v w/\aO w R h μ c v:=by
 unfold pB at ah;split at ah
 ·simp only[Option.some.injEq] at ah; subst ah;cases ag;exact⟨_,by simp[Op.unary],.bool _⟩
 ·simp only[Option.some.injEq] at ah; subst ah;cases ag;refine⟨_,?_,.int _ _⟩;simp only[Op.unary]; rfl
 ·simp only[Option.some.injEq] at ah; subst ah;cases ag;refine⟨_,?_,.int _ _⟩;simp only[Op.unary]; rfl
 ·cases ah
theorem La {aw:Operand->U} {dC:Operand->Value} (cK:∀ x,aO w R h μ (aw x) (dC x)) (o:Option Operand) :v1 w R h μ (o.map aw) (o.map dC) :=by
 cases o with
 | none=>trivial
 | some x=>exact cK x
def As (P:Program) (R:Nat->Prop) (B:Nat) (w:World) (h:aN) (μ:cu) (r:Result Next) :oN->Prop
 | .val c h'=>Good R B w h μ r c h'
 | .call f args h'=>h'=h/\∃ vs:Array Value,r=.ok (.enter f vs) w/\vs.size=args.length/\∀ (j:Nat) (c:U) (v:Value),args[j]? = some c->vs[j]? = some v->aO w R h μ c v
theorem Good.mk {r:Result Next} {c:U} {h' : aN} {v:Value} {w' : World} {μ' : cu} (ay:r=.ok (.value v) w') (ap:db w h μ w' h' μ') (ak:bV R B w' h' μ') (ao:aO w' R h' μ' c v) :Good R B w h μ r c h':=
 ⟨v,w',μ',.inl ay,ap,ak,ao⟩
theorem XE (rel:bV R B w h μ) {b:Builtin} {ts:Array TypeId} {ty:TypeId} {consts:Array Bool} {args:List U} {vs:Array Value} {r:oN} (al:oS P h b ts.toList args=some r)
  (ak:vs.size=args.length) (ao:∀ (j:Nat) (c:U) (v:Value),args[j]? = some c->vs[j]? = some v->aO w R h μ c v) :As P R B w h μ ((builtin b ts ty consts vs).run P w) r:=by
 have one:∀ x,args=[x]->∃ bw,vs=#[bw]/\aO w R h μ x bw:=by
  intro x ag;subst ag;simp only[aqH,aq5] at ak;refine⟨vs[0],?_,ao 0 x _ rfl (by simp[ak])⟩;apply Array.ext
  ·simpa using ak
  ·intro i h1 ad;have:i=0:=by omega
   subst this; rfl
 have two:∀ x y,args=[x,y]->∃ bw fz,vs=#[bw,fz]/\aO w R h μ x bw/\aO w R h μ y fz:=by
  intro x y ag;subst ag;simp only[aqH,aq5] at ak;refine⟨vs[0],vs[1],?_,ao 0 x _ rfl (by simp[ak]),ao 1 y _ rfl (by simp[ak])⟩;apply Array.ext
  ·simpa using ak
  ·intro i h1 ad;rcases (show i=0\/i=1 by simp at ad; omega) with rfl | rfl<;>rfl
 have HB:∀ t,ts.toList=[t]->ts=#[t] :=fun t aP=>by apply Array.toList_inj.1; simpa using aP
 have Ns:∀ t u,ts.toList=[t,u]->ts=#[t,u] :=fun t u aP=>by apply Array.toList_inj.1; simpa using aP
 unfold oS at al;split at al
 ·rename_i t x mM;obtain⟨bw,rfl,ag⟩:=one x rfl;obtain rfl:=HB t mM;split at al
  ·rename_i c ah;simp only[Option.some.injEq] at al; subst al;obtain⟨v,h1,ad⟩:=aet (P:=P) (ty:=ty) rel ah ag;exact Good.mk (by simp[builtin,h1]) (.refl _ _ _) rel ad
  cases ah:xl P t x with
  | none=>rw[ah] at al; cases al
  | some c=>
   rw[ah] at al;simp only[aqy,Option.some.injEq] at al; subst al;obtain⟨v,h1,ad⟩:=aeu (P:=P) (u:=t) (ty:=ty) ah ag;exact Good.mk (by simp[builtin,h1]) (.refl _ _ _) rel ad
 ·rename_i t u s x mM;obtain⟨oA,bw,rfl,ru,ag⟩:=two s x rfl;obtain rfl:=Ns t u mM;split at al
  ·rename_i k aK;cases ah:Ay P h t s x with
   | none=>rw[ah] at al; cases al
   | some c=>
    obtain⟨c,h'⟩:=c;rw[ah] at al;simp only[aqy,Option.some.injEq] at al; subst al;obtain⟨v,w',μ',h1,ad,aj,aC⟩:=W3 (ty:=ty) rel aK ah ru ag;exact Good.mk (by simp[builtin,h1]) ad aj aC
  ·cases al
  ·rename_i s2 qg;cases ah:qZ P h t s x with
   | none=>rw[ah] at al; cases al
   | some c=>
    obtain⟨c,h'⟩:=c;rw[ah] at al;simp only[aqy,Option.some.injEq] at al; subst al;have aK:zL P u:=by
     cases br:P.underlying u with
     | none=>exact absurd br qg
     | some d=>exact⟨d,br,fun k hk=>s2 k (by rw[br,hk])⟩
    obtain⟨v,w',μ',h1,ad,aj,aC⟩:=HA (ty:=ty) rel aK ah ru ag;exact Good.mk (by simp[builtin,h1]) ad aj aC
 ·rename_i t u d x mM;obtain⟨Ib,bw,rfl,br,ag⟩:=two d x rfl;obtain rfl:=Ns t u mM;cases ah:yz P h t d x with
  | none=>rw[ah] at al; cases al
  | some c=>
   obtain⟨c,h'⟩:=c;rw[ah] at al;simp only[aqy,Option.some.injEq] at al; subst al;obtain⟨v,w',h1,ad,aj,aC⟩:=Ys (u:=u) (ty:=ty) rel ah br ag;exact Good.mk (by simp[builtin,h1]) ad aj aC
 ·rename_i t x mM;obtain⟨bw,rfl,ag⟩:=one x rfl;obtain rfl:=HB t mM;cases ah:ys P t x with
  | none=>rw[ah] at al; cases al
  | some c=>
   rw[ah] at al;simp only[aqy,Option.some.injEq] at al; subst al;obtain⟨v,h1,ad⟩:=XQ (P:=P) (ty:=ty) ah ag;exact Good.mk (by simp[builtin,h1]) (.refl _ _ _) rel ad
 ·rename_i t x mM;obtain⟨bw,rfl,ag⟩:=one x rfl;obtain rfl:=HB t mM;cases ah:yv P h t x with
  | none=>rw[ah] at al; cases al
  | some h'=>
   rw[ah] at al;simp only[aqy,Option.some.injEq] at al; subst al;obtain⟨w',h1,ad,aj⟩:=X9 (P:=P) (ty:=ty) rel ah ag;exact Good.mk (v:=.tuple #[]) (by simp[builtin,h1]) ad aj (.bu [] #[] rfl (fun _ _ _ aM=>by simp at aM))
 ·rename_i x y;obtain⟨bw,fz,rfl,ag,aG⟩:=two x y rfl;cases ah:zH x y with
  | none=>rw[ah] at al; cases al
  | some c=>
   rw[ah] at al;simp only[aqy,Option.some.injEq] at al; subst al;unfold zH at ah;split at ah
   ·split at ah
    ·rename_i hk; subst hk;simp only[Option.some.injEq] at ah; subst ah;cases ag; cases aG;refine Good.mk (v:=.int _ _) ?_ (.refl _ _ _) rel (.int _ _);simp[builtin,Builtin.min_,Builtin.min2]
    ·cases ah
   ·cases ah
 ·rename_i x y;obtain⟨bw,fz,rfl,ag,aG⟩:=two x y rfl;cases ah:tl x y with
  | none=>rw[ah] at al; cases al
  | some c=>
   rw[ah] at al;simp only[aqy,Option.some.injEq] at al; subst al;unfold tl at ah;split at ah
   ·split at ah
    ·rename_i hk; subst hk;simp only[Option.some.injEq] at ah; subst ah;cases ag; cases aG;refine Good.mk (v:=.int _ _) ?_ (.refl _ _ _) rel (.int _ _);simp[builtin,Builtin.max_,Builtin.max2]
    ·cases ah
   ·cases ah
 ·cases al
theorem OO {f:FuncId} {fn:Func} {vs:Array Value} (aA:P.funcs[f]? = some fn) (af:fn.body.isSome=true) (aD:fn.name≠ "runtime.NumGoroutine") :(callFunc f vs).run P w=.ok (.enter f vs) w:=by
 have bH:fn.body≠none:=fun aM=>by rw[aM] at af; cases af
 simp[callFunc,aA,aD,bH]
theorem KM {aw:Operand->U} {dC:Operand->Value} (cK:∀ x,aO w R h μ (aw x) (dC x)) (xs:Array Operand) :
  ∀ (j:Nat) (c:U) (v:Value),(xs.toList.map aw)[j]? = some c->(xs.map dC)[j]? = some v->aO w R h μ c v:=by
 intro j c v ai ao;rw[aqx] at ai;rw[asG] at ao;cases aq:xs[j]? with
 | none=>simp[aq] at ao
 | some o=>
  simp[aq] at ai ao;subst ai ao;exact cK o
theorem aeY {t:TypeId} {name:String} {g:FuncId} (hm:qA P t name=some g) (u:Value) :(Go.method (P.types.size+Made.depth) t u name).run P w=.ok (g,u) w:=by
 unfold qA at hm;split at hm
 ·cases hm
 ·cases hm
 ·rename_i zk Ka;split at hm
  ·rename_i i ax;split at hm
   ·rename_i m aA;split at hm
    ·rename_i f aB jE;cases hm;obtain⟨k,hk⟩:∃ k,P.types.size+Made.depth=k+1:=⟨P.types.size+Made.depth - 1,by unfold Made.depth; omega⟩
     rw[hk];cases br:P.underlying t with
     | none=>exact absurd br Ka
     | some d=>
      have amM:m.path=#[] :=Array.toList_eq_nil_iff.1 aB;cases d<;>first
       | (exfalso; exact zk _ br)
       | simp[Go.method,typeInfo,ax,aA,aB,jE,follow,receiverAt,ce br,Place.get]
    ·cases hm
   ·cases hm
  ·cases hm
theorem ain {t MN:TypeId} {ok:Bool} {z c x:U} {v:Value} (av:GO P t=some z) (ah:oB t z ok x=some c) (ag:aO w R h μ x v) :
  ∃ a8,(Instr.typeAssert v MN t ok).run P w=.ok a8 w/\aO w R h μ c a8:=by
 unfold GO at av;split at av
 ·cases av
 ·cases av
 ·rename_i zk Ka;cases br:P.underlying t with
  | none=>exact absurd br Ka
  | some d=>
   obtain⟨zv,rA,kN⟩:=V2 (P:=P) (w:=w) (R:=R) (h:=h) (μ:=μ) av;have two:∀ (a:U) (hE:Value) (q:Bool),aO w R h μ a hE->aO w R h μ (.bu [a,.bool q]) (.tuple #[hE,.bool q]) :=by
    intro a hE q az;refine .bu _ _ rfl (fun j c v ai ao=>?_)
    match j,ai,ao with
    | 0,ai,ao=>simp at ai ao; subst ai ao; exact az
    | 1,ai,ao=>simp at ai ao; subst ai ao; exact .bool q
    | j+2,ai,ao=>simp at ai
   cases x<;>simp only[oB] at ah<;>try (cases ah; done)
   case iM=>
    cases ag;cases ok<;>simp only at ah<;>cases ah;refine⟨.tuple #[zv,.bool false],?_,two _ _ _ kN⟩;cases d<;>first
     | (exfalso; exact zk _ br)
     | simp[Instr.typeAssert,ce br,rA]
   case fD fN gB=>
    cases ag with
    | fD _ _ u aK=>
     split at ah
     ·rename_i aP;have aP:=arl aP;subst aP;cases ok<;>simp only at ah<;>cases ah
      ·refine⟨u,?_,aK⟩;cases d<;>first
        | (exfalso; exact zk _ br)
        | simp[Instr.typeAssert,ce br]
      ·refine⟨.tuple #[u,.bool true],?_,two _ _ _ aK⟩;cases d<;>first
        | (exfalso; exact zk _ br)
        | simp[Instr.typeAssert,ce br]
     ·rename_i aP;have aP:fN≠t:=fun h=>by rw[h,atl] at aP; cases aP
      cases ok<;>simp only at ah<;>cases ah;refine⟨.tuple #[zv,.bool false],?_,two _ _ _ kN⟩;cases d<;>first
       | (exfalso; exact zk _ br)
       | simp[Instr.typeAssert,ce br,rA,aP]
theorem XJ (rel:bV R B w h μ) {aw:Operand->U} {dC:Operand->Value} (cK:∀ x,aO w R h μ (aw x) (dC x)) {c:Call} {ty:TypeId} {r:oN} (al:ug P h aw c=some r) :
  As P R B w h μ ((do let d <-resolve dC c ty; invoke d.target d.args:Sem Next).run P w) r:=by
 unfold ug at al;split at al
 ·rename_i b af;have:=fun consts=>XE (P:=P) (b:=b) (ts:=c.argTypes) (ty:=ty) (consts:=consts) (args:=c.args.toList.map aw) (vs:=c.args.map dC) rel al (by simp)
   (fun j x v ai ao=>by
    rw[aqx] at ai;rw[asG] at ao;cases aq:c.args[j]? with
    | none=>simp[aq] at ao
    | some o=>
     simp[aq] at ai ao;subst ai ao;exact cK o)
  simp only[resolve,af,Sem.run_bind,Sem.run_pure,Result.andThen_ok,invoke];exact this _
 ·rename_i f aA;split at al
  ·rename_i g first fu jE
   have ao:=cK f;rw[jE] at ao;cases uL:dC f with
   | func alQ fs cs=>
    rw[uL] at ao;cases ao with
    | fn _ _ _ _ _ h1 ad aj aC=>
     split at al
     ·rename_i fn y4;have EP:∀ (j:Nat) (x:U) (v:Value),(first++c.args.toList.map aw++fu)[j]? = some x->(fs++c.args.map dC++cs)[j]? = some v->aO w R h μ x v:=by
       intro j x v ai kL;by_cases pa:j<first.length
       ·rw[aq4,aqt pa] at ai;rw[asF,arv (by omega)] at kL;exact aj j x v ai kL
       ·by_cases n5:j<first.length+c.args.size
        ·rw[aqt (by simp; omega),aqB (by omega),aqx] at ai;rw[arv (by simp; omega),asx (by omega),asG,h1] at kL;cases aq:c.args[j - first.length]? with
         | none=>simp[aq] at kL
         | some o=>
          simp[aq] at ai kL;subst ai kL;exact cK o
        ·rw[aqB (by simp; omega)] at ai;rw[asx (by simp; omega)] at kL;refine aC _ x v ai ?_;simpa [h1] using kL
      split at al
      ·rename_i iZ;simp only[Option.some.injEq] at al; subst al;refine⟨rfl,fs++c.args.map dC++cs,?_,by simp[h1,ad],EP⟩;simp[resolve,aA,uL,Deferred.ofValue,invoke,OO y4 iZ.1 iZ.2]
      ·split at al
       ·rename_i sT;cases cF:AX h (first++c.args.toList.map aw++fu) with
        | none=>rw[cF] at al; cases al
        | some ak2=>
         rw[cF] at al;simp only[aqy,Option.some.injEq] at al; subst al;obtain⟨v,aR,bI⟩:=Zc (P:=P) (vs:=fs++c.args.map dC++cs) rel y4 sT cF (by simp[h1,ad]) EP;rw[asF] at aR;exact Good.mk (by simp[resolve,aA,uL,Deferred.ofValue,invoke,aR]) (.refl _ _ _) rel bI
       ·cases al
     ·cases al
   | _=>rw[uL] at ao; cases ao
  ·cases al
 ·rename_i x name ah;split at al
  ·rename_i t v0 ag;have ao:=cK x;rw[ag] at ao;split at al
   ·rename_i g hm;split at al
    ·rename_i fn y4;split at al
     ·rename_i iZ;simp only[Option.some.injEq] at al; subst al;cases uL:dC x with
      | iface fN u=>
       rw[uL] at ao;cases ao with
       | fD _ _ _ aK=>
        refine⟨rfl,#[u]++c.args.map dC,?_,by simp; omega,?_⟩
        ·have acb:=aeY (P:=P) (w:=w) hm u;have aE:(#[Value.iface t u]++c.args.map dC)[0]? = some (Value.iface t u) :=by rw[arv (by simp)]; rfl
         have gF:(c.args.map dC).extract 0 c.args.size=c.args.map dC:=by
          apply Array.ext';simp[aqs]
         simp[aE,gF,resolve,ah,uL,invoke,callMethod,acb,OO y4 iZ.1 iZ.2]
        ·intro j x v ai kL;cases j with
         | zero=>
          rw[arv (by simp)] at kL;simp at ai kL; subst ai kL; exact aK
         | succ j=>
          rw[aq2] at ai;rw[asx (by simp)] at kL;exact KM cK c.args j x v ai (by simpa using kL)
      | _=>rw[uL] at ao; cases ao
     ·cases al
    ·cases al
   ·cases al
  ·cases al
theorem Lj {aw:Operand->U} {dC:Operand->Value} (cK:∀ x,aO w R h μ (aw x) (dC x)) (ck:Array (Nat × Operand)) :
  (ck.map fun (i,x)=>(i,dC x)).size=(ck.toList.map fun p=>(p.1,aw p.2)).length ∧
  ∀ (j:Nat) (p:Nat × U) (bT:Nat × Value),(ck.toList.map fun p=>(p.1,aw p.2))[j]? = some p->(ck.map fun (i,x)=>(i,dC x))[j]? = some bT->bT.1=p.1/\aO w R h μ p.2 bT.2:=by
 refine⟨by simp,fun j p bT ai e4=>?_⟩;rw[aqx] at ai;rw[asG] at e4;cases aq:ck[j]? with
 | none=>simp[aq] at e4
 | some o=>
  simp[aq] at ai e4;subst ai e4;exact⟨rfl,cK o.2⟩
theorem Ma (rel:bV R B w h μ) {aw:Operand->U} {dC:Operand->Value} (cK:∀ x,aO w R h μ (aw x) (dC x)) (o:Oper) {r:oN} (al:cJ P h aw o.op=some r) :
  As P R B w h μ ((execOp dC o).run P w) r:=by
 obtain⟨dst,op,type,pos,after,guard⟩:=o;have ol:∀ {x:Option U} {m:Sem Value},(∀ c,x=some c->∃ v,m.run P w=.ok v w/\aO w R h μ c v)->x.map (fun y=>oN.val y h)=some r->
   As P R B w h μ ((do pure (.value (<-m)) :Sem Next).run P w) r:=by
  intro x m ag ay;cases np:x with
  | none=>rw[np] at ay; cases ay
  | some c=>
   rw[np] at ay;simp only[aqy,Option.some.injEq] at ay; subst ay;obtain⟨v,h1,ad⟩:=ag c np;exact Good.mk (by simp[h1]) (.refl _ _ _) rel ad
 have F7:∀ {x:Option (U × aN)} {m:Sem Value},(∀ c h',x=some (c,h')->∃ v w' μ',m.run P w=.ok v w'/\db w h μ w' h' μ'/\bV R B w' h' μ'/\aO w' R h' μ' c v)->x.map (fun y=>oN.val y.1 y.2)=some r->
   As P R B w h μ ((do pure (.value (<-m)) :Sem Next).run P w) r:=by
  intro x m ag ay;cases np:x with
  | none=>rw[np] at ay; cases ay
  | some c=>
   obtain⟨c,h'⟩:=c;rw[np] at ay;simp only[aqy,Option.some.injEq] at ay; subst ay;obtain⟨v,w',μ',h1,ad,aj,aC⟩:=ag c h' np;exact Good.mk (by simp[h1]) ad aj aC
 cases op
 case move x=>
  simp only[cJ,Option.some.injEq] at al; subst al;exact Good.mk (by simp[execOp]) (.refl _ _ _) rel (cK x)
 case assign x=>
  simp only[cJ,Option.some.injEq] at al; subst al;exact Good.mk (by simp[execOp]) (.refl _ _ _) rel (cK x)
 case pick c a b=>
  simp only[cJ] at al;have jk:=cK c;cases ah:aw c<;>rw[ah] at al jk<;>simp only at al<;>try (cases al; done)
  simp only[Option.some.injEq] at al; subst al;cases ao:dC c<;>rw[ao] at jk<;>try (cases jk; done)
  cases jk;rename_i t;cases t
  ·exact Good.mk (v:=dC b) (by simp[execOp,ao,asBool]) (.refl _ _ _) rel (by simpa using cK b)
  ·exact Good.mk (v:=dC a) (by simp[execOp,ao,asBool]) (.refl _ _ _) rel (by simpa using cK a)
 case alloc t=>
  simp only[cJ] at al;cases av:g9 P t with
  | none=>rw[av] at al; cases al
  | some z=>
   rw[av] at al;simp only[aqy,Option.some.injEq] at al; subst al;obtain⟨v,ao,ay⟩:=vW (P:=P) (w:=w) (R:=R) (h:=h) (μ:=μ) av;obtain⟨a7,bl,a3⟩:=DD rel (cs:=z) (vs:=v.cells) t ay.1 ay.2;exact Good.mk (by simp[execOp,Instr.alloc,ao,newVar,newRow]) a7 bl (a3 0)
 case box t x=>
  simp only[cJ] at al;cases av:(aw x).cells with
  | none=>rw[av] at al; cases al
  | some z=>
   rw[av] at al;simp only[aqy,Option.some.injEq] at al; subst al;obtain⟨bL,bz⟩:=DW (cK x) av;obtain⟨a7,bl,a3⟩:=DD rel (cs:=z) (vs:=(dC x).cells) t bL bz;exact Good.mk (by simp[execOp,Instr.box,newVar,newRow]) a7 bl (a3 0)
 case build t parts=>
  obtain⟨bL,bz⟩:=Lj cK parts;exact ol (fun c ah=>XC ah bL bz) al
 case buildSlice t len parts=>
  obtain⟨bL,bz⟩:=Lj cK parts;exact F7 (fun c h' ah=>XB rel ah bL bz) al
 case load t a=>exact ol (fun c ah=>FN rel ah (cK a)) al
 case store t a x=>
  simp only[cJ] at al;cases b4:z7 P h t (aw a) (aw x) with
  | none=>rw[b4] at al; cases al
  | some h'=>
   rw[b4] at al;simp only[aqy,Option.some.injEq] at al; subst al;obtain⟨w',h1,ad,aj⟩:=aia (P:=P) rel b4 (cK a) (cK x);exact⟨undef,w',μ,.inr ⟨by simp[execOp,h1],rfl⟩,ad,aj,.bu [] #[] rfl (fun _ _ _ aM=>by simp at aM)⟩
 case nilCheck x=>
  simp only[cJ] at al;have ao:=cK x;cases ah:aw x<;>rw[ah] at al ao<;>simp only at al<;>try (cases al; done)
  all_goals
   simp only[Option.some.injEq] at al; subst al;cases ag:dC x<;>rw[ag] at ao<;>try (cases ao; done)
   rename_i y;refine Good.mk (v:=dC x) ?_ (.refl _ _ _) rel (by rw[ag]; exact ao);cases ao<;>simp[execOp,ag]
 case binOp op t x y aqp=>exact ol (fun c ah=>Xe ah (cK x) (cK y)) al
 case unOp op t x=>exact ol (fun c ah=>aiT ah (cK x)) al
 case convert s d x=>
  simp only[cJ] at al;split at al
  ·rename_i c ah;simp only[Option.some.injEq] at al; subst al;obtain⟨v,w',h1,ad,aj,aC⟩:=XG rel ah (cK x);exact Good.mk (by simp[execOp,h1]) ad aj aC
  ·exact ol (fun c ah=>Yq rel ah (cK x)) al
 case makeInterface t x=>
  simp only[cJ] at al;cases aK:P.underlying t with
  | none=>rw[aK] at al; cases al
  | some d=>
   rw[aK] at al;cases d<;>simp only at al<;>try (cases al; done)
   all_goals
    simp only[Option.some.injEq] at al; subst al;exact Good.mk (v:=.iface t (dC x)) (by simp[execOp,Instr.makeInterface,ce aK]) (.refl _ _ _) rel (.fD t _ _ (cK x))
 case makeFunc fn first fu=>
  cases fn<;>simp only[cJ] at al<;>try (cases al; done)
  simp only[Option.some.injEq] at al; subst al;exact Good.mk (by simp[execOp,Instr.makeFunc]) (.refl _ _ _) rel (.fn _ _ _ _ _ (by simp) (by simp) (KM cK first) (KM cK fu))
 case makeSlice t l c=>exact F7 (fun c' h' ah=>aeT rel ah (cK l) (cK c)) al
 case slice t x cB ax ct=>exact ol (fun c ah=>ahL rel ah (cK x) (La cK cB) (La cK ax) (La cK ct)) al
 case fieldAddr s x f=>exact ol (fun c ah=>Zl ah (cK x)) al
 case field t x f=>
  simp only[cJ] at al;split at al
  ·rename_i cs fd ag aA;have ao:=cK x;rw[ag] at ao;exact ol (fun c ah=>Zm aA ah ao) al
  ·cases al
 case indexAddr t x i=>exact ol (fun c ah=>adu ah (cK x) (cK i)) al
 case index t x i=>exact ol (fun c ah=>Kp ah (cK x) (cK i)) al
 case extract x i=>
  simp only[cJ] at al;have ao:=cK x;cases ah:aw x<;>rw[ah] at al ao<;>simp only at al<;>try (cases al; done)
  rename_i vs;cases ag:dC x<;>rw[ag] at ao<;>try (cases ao; done)
  rename_i arr;cases ao with
  | bu _ _ ak zp=>
   refine ol (m:=Instr.extract (dC x) i) (fun c ah=>?_) al;have aL:i<arr.size:=by rw[ak]; exact (aqr.1 ah).1
   exact⟨arr[i],by simp[Instr.extract,ag,aL],zp i c _ ah (by simp[aL])⟩
 case call c=>exact XJ rel cK al
 case makeMap t r=>
  simp only[cJ] at al;split at al
  ·rename_i k e aK ay;simp only[Option.some.injEq] at al; subst al;obtain⟨v,w',μ',h1,ad,aj,aC⟩:=aeS (P:=P) (t:=t) (r:=r.map dC) rel ⟨_,_,aK⟩ (fun x ag=>by
    cases r with
    | none=>cases ag
    | some o=>
     simp only[aqy,Option.some.injEq] at ag; subst ag;simp only at ay;cases ax:asInt (aw o) with
     | none=>rw[ax] at ay; cases ay
     | some n=>
      obtain⟨k,hk⟩:=q0 ax (cK o);exact⟨k,n,hk⟩)
   exact Good.mk (by simp[execOp,h1]) ad aj aC
  ·cases al
 case lookup t m k ok=>exact ol (fun c ah=>aeF rel ah (cK m) (cK k)) al
 case mapUpdate t m k x=>
  simp only[cJ] at al;cases b4:xq P h t (aw m) (aw k) (aw x) with
  | none=>rw[b4] at al; cases al
  | some h'=>
   rw[b4] at al;simp only[aqy,Option.some.injEq] at al; subst al;obtain⟨w',h1,ad,aj⟩:=To (P:=P) rel b4 (cK m) (cK k) (cK x);exact⟨undef,w',μ,.inr ⟨by simp[execOp,h1],rfl⟩,ad,aj,.bu [] #[] rfl (fun _ _ _ aM=>by simp at aM)⟩
 case insert t m k x=>
  simp only[cJ] at al;cases b4:xq P h t (aw m) (aw k) (aw x) with
  | none=>rw[b4] at al; cases al
  | some h'=>
   rw[b4] at al;simp only[aqy,Option.some.injEq] at al; subst al;obtain⟨w',h1,ad,aj⟩:=To (P:=P) rel b4 (cK m) (cK k) (cK x);exact⟨undef,w',μ,.inr ⟨by simp[execOp,h1],rfl⟩,ad,aj,.bu [] #[] rfl (fun _ _ _ aM=>by simp at aM)⟩
 case range t x=>exact F7 (fun c h' ah=>agE rel ah (cK x)) al
 case next it isS=>
  cases isS with
  | false=>simp only[cJ] at al; cases al
  | true=>exact F7 (fun c h' ah=>by obtain⟨v,w',h1,ad,aj,aC⟩:=ae8 (P:=P) (ty:=type) rel ah (cK it); exact⟨v,w',μ,h1,ad,aj,aC⟩) al
 case typeAssert x MN t ok=>
  simp only[cJ] at al;split at al
  ·rename_i z av;exact ol (fun c ah=>ain av ah (cK x)) al
  ·cases al
 all_goals (simp only[cJ] at al; cases al)
end
inductive qS where
 | normal
 | exit (id:Nat)
 | ret
def qS.out:qS->Exit
 | .normal=>.normal
 | .exit id=>.exit id
 | .ret=>.ret
def jW (ops:Array Oper) (ae:Nat->U) (o:Oper) :Option Bool:=
 match o.guard with
 | none=>some true
 | some (j,Ah)=>match (ops[j]?).bind (·.dst) with
  | none=>some false
  | some d=>match ae d with
   | .bool b=>some (b == Ah)
   | .bad=>none
   | _=>some false
def gV (ae:Nat->U) (dst:Option Tmp) (c:U) :Nat->U:=match dst with | some d=>bD ae d c | none=>ae
def oZ (N:Nat) (dst:Option Tmp) :Bool:=match dst with | some d=>decide (d<N) | none=>true
def zZ (P:Program) (h:aN) (ae:Nat->U) :ResultVar->Option U
 | .tmp t=>some (ae t)
 | .cell a t=>rF P h t (ae a)
def vz (P:Program) (h:aN) (ae:Nat->U) :List ResultVar->Option (List U)
 | []=>some []
 | r::mV=>match zZ P h ae r,vz P h ae mV with
  | some v,some vs=>some (v::vs)
  | _,_=>none
def vL:List U->U
 | [v]=>v
 | vs=>.bu vs
def Gv (P:Program) (h:aN) (ae:Nat->U) (fn:Func) :Option U:=(vz P h ae fn.results.toList).map vL
mutual
def U.closed:U->Bool
 | .aI cs=>aV cs
 | .bu cs=>aV cs
 | .b5 cs _=>aV cs
 | .b0 _ es=>AR es
 | .fn _ a b=>aV a&&aV b
 | .fD _ v=>v.closed
 | .ptr .. | .ar .. | .mp _ | .it _=>false
 | _=>true
def aV:List U->Bool
 | []=>true
 | c::cs=>c.closed&&aV cs
def AR:List (List U)->Bool
 | []=>true
 | c::cs=>aV c&&AR cs
end
def e3 (w:World) (A:Nat->Prop) (c:U) (v:Value) :Prop:=aO w A aN.empty (fun _=>none) c v
structure yb (w w' : World) :Prop extends RowKit.Below w.heap.size w w' where
 drawn:w.drawn<=w'.drawn
def sb (G:Nat->U) (w:World) (R:Nat->Prop) (h:aN) (μ:cu) :Prop:=∀ g,(G g).closed=true/\aO w R h μ (G g) (.pointer (some ⟨g,0,none⟩))
def r8 (P:Program) (G:Nat->U) (f:FuncId) (args:List U) (h:aN) (r:U) (h' : aN) :Prop:=
 ∀ (R:Nat->Prop) (B:Nat) (w:World) (μ:cu) (vs:Array Value),bV R B w h μ->sb G w R h μ->vs.size=args.length->
  (∀ (j:Nat) (c:U) (v:Value),args[j]? = some c->vs[j]? = some v->aO w R h μ c v)->
  Calls P f vs w fun e w'=>∃ v μ',e=.returned v/\db w h μ w' h' μ'/\bV R B w' h' μ'/\aO w' R h' μ' r v
def bi (P:Program) (G:Nat->U) (f:FuncId) (args:List U) (r:U) :Prop:=
 ∀ (w:World) (A:Nat->Prop) (vs:Array Value),(∀ g,e3 w A (G g) (.pointer (some ⟨g,0,none⟩)))->vs.size=args.length->
  (∀ (j:Nat) (c:U) (v:Value),args[j]? = some c->vs[j]? = some v->e3 w A c v)->
  Calls P f vs w fun e w'=>∃ v,e=.returned v/\yb w w'/\e3 w' (fun k=>A k\/w.heap.size<=k) r v
def nI (P:Program) (G:Nat->U) (f:FuncId) (args:List U) (r:U) :Prop:=
 ∀ (w:World) (A:Nat->Prop) (vs:Array Value),(∀ g,e3 w A (G g) (.pointer (some ⟨g,0,none⟩)))->vs.size=args.length->
  (∀ (j:Nat) (c:U) (v:Value),args[j]? = some c->vs[j]? = some v->e3 w A c v)->
  Calls P f vs w fun e w'=>∃ v,e=.returned v/\yb w w'/\e3 w' (fun k=>w.heap.size<=k) r v
inductive ft (h:aN) :U->U->Prop
 | same (c:U) (ah:c.closed=true) :ft h c c
 | aI (cs cs' : List U) (ak:cs'.length=cs.length) (ao:∀ (j:Nat) (c c' : U),cs[j]? = some c->cs'[j]? = some c'->ft h c c') :ft h (.aI cs) (.aI cs')
 | bu (cs cs' : List U) (ak:cs'.length=cs.length) (ao:∀ (j:Nat) (c c' : U),cs[j]? = some c->cs'[j]? = some c'->ft h c c') :ft h (.bu cs) (.bu cs')
 | ar (z b off len cap sz:Nat) (cs:List U) (es:List (List U)) (af:h.f b=.cells sz cs) (ak:es.length=len) (av:∀ e∈es,e.length=z)
   (fl:off+len*z<=cs.length)
   (ao:∀ (i j:Nat) (e:List U) (c c' : U),es[i]? = some e->e[j]? = some c'->cs[off+(i*z+j)]? = some c->ft h c c') :ft h (.ar z b off len cap sz) (.b0 z es)
 | rZ (z b off cap sz:Nat) :ft h (.ar z b off 0 cap sz) (.b0 z [])
 | ptr (b off sz:Nat) (cs cs' : List U) (af:h.f b=.cells sz cs) (ak:cs'.length=cs.length) (ao:∀ (j:Nat) (c c' : U),cs[j]? = some c->cs'[j]? = some c'->ft h c c') :ft h (.ptr b off sz) (.b5 cs' off)
mutual
def U.flat:U->Bool
 | .aI cs=>k0 cs
 | .bu cs=>k0 cs
 | .fD _ v=>v.flat
 | .bool _ | .int .. | .str _ | .iN | .aX | .hh | .iL | .iM=>true
 | _=>false
def k0:List U->Bool
 | []=>true
 | c::cs=>c.flat&&k0 cs
end
inductive Dr where
 | pure | new | fU
def mR (P:Program) (aw:Operand->U) :Op->Option (List U × (Nat->U))
 | .alloc t=>(g9 P t).map fun z=>(z,fun b=>.ptr b 0 z.length)
 | .box _ x=>(aw x).cells.map fun cs=>(cs,fun b=>.ptr b 0 cs.length)
 | .buildSlice t len parts=>match hY P t with
  | some e=>match cf P e,g9 P e with
   | some z,some zero=>if zero.length=z/\len*z<=16777216 then
     (g4 (fun i=>some (i*z,z)) (c4 zero len) (parts.toList.map fun p=>(p.1,aw p.2))).map fun cs=>(cs,fun b=>.ar z b 0 len len (len*z))
    else none
   | _,_=>none
  | none=>none
 | .makeSlice t l c=>match hY P t,asInt (aw l),asInt (aw c) with
  | some e,some l,some c=>match cf P e,iT P e,g9 P e with
   | some z,some by_,some zero=>
    if zero.length=z/\0<=l/\l<=c/\c<9223372036854775808/\by_*c<=cx then
     some (c4 zero c.toNat,fun b=>.ar z b 0 l.toNat c.toNat (c.toNat*z))
    else none
   | _,_,_=>none
  | _,_,_=>none
 | _=>none
def ja (ops:Array Oper) (t:Nat) :Option Nat:=(List.range ops.size).find? fun i=>match ops[i]? with | some o=>o.dst == some t | none=>false
def mx (ops:Array Oper) (pre:Nat->Nat->Bool) (val:Nat->U) (ae:Nat->U) (i:Nat) (o:Oper) :Nat->U:=fun t=>
 if (o.looksAt ops).contains t then
  match ja ops t with
  | some j=>if pre i j then val j else ae t
  | none=>ae t
 else .bad
structure r9 (ops:Array Oper) (pre:Nat->Nat->Bool) :Prop where
 A4:∀ (i:Nat) (o:Oper) (e:Edge),ops[i]? = some o->e∈o.after->Region.binds .any e=true->e.on<i
 chain:∀ (i:Nat) (o:Oper) (j:Nat),ops[i]? = some o->pre i j=true->∃ e∈o.after,Region.binds .any e=true/\(e.on=j\/pre e.on j=true)
 one:∀ (i:Nat) (o:Oper) (t:Tmp),ops[i]? = some o->o.dst=some t->ja ops t=some i
 acc:∀ (i:Nat) (o:Oper) (t:Tmp) (j:Nat),ops[i]? = some o->t∈o.looksAt ops->ja ops t=some j->pre i j=true\/pre j i=true\/j=i
 apV:Region.noSelect ops=true
def vu (h:aN) (l:List (List U)) :aN:=l.foldl (fun h cs=>h.push (.cells cs.length cs)) h
def nE (h h' : aN) :Prop:=∃ l,h'=vu h l
theorem Uc:∀ (l:List (List U)) (h:aN),(vu h l).n=h.n+l.length
 | [],h=>rfl
 | c::l,h=>by
  have:=Uc l (h.push (.cells c.length c));simp only[vu,List.foldl_cons,List.length_cons] at this ⊢;rw[this];simp only[dG,e0]; omega
theorem Ud:∀ (l:List (List U)) (h:aN) (b:Nat),b<h.n->(vu h l).f b=h.f b
 | [],h,b,_=>rfl
 | c::l,h,b,af=>by
  have:=Ud l (h.push (.cells c.length c)) b (by simp only[dG,e0]; omega);simp only[vu,List.foldl_cons] at this ⊢;rw[this];simp only[dG,e0];exact b2 _ _ _ _ (by omega)
theorem Ub:∀ (l:List (List U)) (h:aN),(∀ b,h.n<=b->h.f b=.none)->∀ b,(vu h l).n<=b->(vu h l).f b=.none
 | [],h,aA=>aA
 | c::l,h,aA=>by
  refine Ub l (h.push (.cells c.length c)) (fun b af=>?_);simp only[dG,e0] at af ⊢;rw[b2 _ _ _ _ (by omega)];exact aA b (by omega)
theorem nE.n {h h' : aN} (g:nE h h') :h.n<=h'.n:=by obtain⟨l,rfl⟩:=g; rw[Uc]; omega
theorem nE.same {h h' : aN} (g:nE h h') (b:Nat) (af:b<h.n) :h'.f b=h.f b:=by obtain⟨l,rfl⟩:=g; exact Ud l h b af
theorem nE.fresh {h h' : aN} (g:nE h h') (aA:∀ b,h.n<=b->h.f b=.none) :∀ b,h'.n<=b->h'.f b=.none:=by obtain⟨l,rfl⟩:=g; exact Ub l h aA
inductive pL (h ad:aN) :U->U->Prop
 | same (c:U) :pL h ad c c
 | aI (cs cs' : List U) (ak:cs'.length=cs.length) (ao:∀ (j:Nat) (c c' : U),cs[j]? = some c->cs'[j]? = some c'->pL h ad c c') :pL h ad (.aI cs) (.aI cs')
 | ar (z b off len cap sz:Nat) (cs:List U) (es:List (List U)) (af:h.f b=.cells sz cs) (br:ad.f b=.dead) (ak:es.length=len) (av:∀ e∈es,e.length=z)
   (fl:off+len*z<=cs.length)
   (ao:∀ (i j:Nat) (e:List U) (c c' : U),es[i]? = some e->e[j]? = some c'->cs[off+(i*z+j)]? = some c->pL h ad c c') :pL h ad (.ar z b off len cap sz) (.b0 z es)
 | rZ (z b off cap sz:Nat) :pL h ad (.ar z b off 0 cap sz) (.b0 z [])
structure pM (h ad:aN) :Prop where
 n:ad.n=h.n
 blk:∀ b,ad.f b=h.f b\/∃ sz cs,h.f b=.cells sz cs/\(ad.f b=.dead\/∃ hq,ad.f b=.cells sz hq/\hq.length=cs.length/\∀ (j:Nat) (c dd:U),cs[j]? = some c->hq[j]? = some dd->pL h ad c dd)
inductive J where
 | code (c:Code) (N:Nat) (ae:Nat->U) (h:aN) (e:qS) (bP:Nat->U) (h' : aN)
 | ops (all:Array Oper) (l:List Oper) (N:Nat) (ae:Nat->U) (h:aN) (bP:Nat->U) (h' : aN)
 | op (op:Op) (ae:Nat->U) (h:aN) (v:U) (h' : aN)
 | call (f:FuncId) (args:List U) (h:aN) (r:U) (h' : aN)
def yI (pre:Nat->Nat->Bool) (m:Nat) (al:Nat->Nat) (i k:Nat) :Prop:=k<=m/\(∀ q,q<m->pre i (al q)=true->q<k)/\∀ q,q<m->pre (al q) i=true->k<=q
inductive c6 (P:Program) (G:Nat->U) :J->Prop where
 | skip (N ae h) :c6 P G (.code .skip N ae h .normal ae h)
 | label (l N ae h) :c6 P G (.code (.label l) N ae h .normal ae h)
 | ret (N ae h) :c6 P G (.code .ret N ae h .ret ae h)
 | exit (id N ae h) :c6 P G (.code (.exit id) N ae h (.exit id) ae h)
 | U0 {a b N ae h iu h1 e bP h'}:c6 P G (.code a N ae h .normal iu h1)->c6 P G (.code b N iu h1 e bP h')->c6 P G (.code (.seq a b) N ae h e bP h')
 | L1 {a b N ae h e bP h'}:c6 P G (.code a N ae h e bP h')->e≠.normal->c6 P G (.code (.seq a b) N ae h e bP h')
 | cond {c x y N ae h b e bP h'}:cH G ae c=.bool b->c6 P G (.code (if b then x else y) N ae h e bP h')->c6 P G (.code (.cond c x y) N ae h e bP h')
 | DL {id c N ae h e bP h'}:c6 P G (.code c N ae h e bP h')->e≠.exit id->c6 P G (.code (.block id c) N ae h e bP h')
 | NJ {id c N ae h bP h'}:c6 P G (.code c N ae h (.exit id) bP h')->c6 P G (.code (.block id c) N ae h .normal bP h')
 | zE {c N ae h iu h1 e bP h'}:c6 P G (.code c N ae h .normal iu h1)->c6 P G (.code (.loop c) N iu h1 e bP h')->c6 P G (.code (.loop c) N ae h e bP h')
 | KN {c N ae h e bP h'}:c6 P G (.code c N ae h e bP h')->e≠.normal->c6 P G (.code (.loop c) N ae h e bP h')
 | scope {c N ae h e bP h'}:c6 P G (.code c N ae h e bP h')->c6 P G (.code (.scope c) N ae h e bP h')
 | region {id ops N ae h bP h'}:c6 P G (.ops ops ops.toList N ae h bP h')->c6 P G (.code (.region id ops false) N ae h .normal bP h')
 | draw {id ops N ae h bP h'} (pre:Nat->Nat->Bool) (val:Nat->U) (W:Nat->Bool) (cls:Nat->Dr) (m:Nat) (al:Nat->Nat) (fg qV:Nat->aN) (gg:Nat->Nat) (cells:Nat->List U)
   (gW:r9 ops pre)
   (o7:∀ (i:Nat) (o:Oper),ops[i]? = some o->oZ N o.dst=true)
   (aE:nE h (fg 0)) (hm:h'=fg m) (FC:bP=fun t=>match ja ops t with | some i=>val i | none=>ae t)
   (wM:∀ (i:Nat) (o:Oper),ops[i]? = some o->W i=true->cls i=.fU->∃ q,q<m/\al q=i)
   (BD:∀ q,q<m->∃ o,ops[al q]? = some o/\W (al q)=true/\cls (al q)=.fU)
   (mJ:∀ q e5,q<m->e5<m->q<e5->pre (al e5) (al q)=true)
   (jm:∀ q e5,q<m->e5<m->al q=al e5->q=e5)
   (uW:∀ (i:Nat) (o:Oper),ops[i]? = some o->jW ops (mx ops pre val ae i o) o=some (W i))
   (Fx:∀ (i:Nat) (o:Oper),ops[i]? = some o->W i=false->val i=gX)
   (Fp:∀ (i:Nat) (o:Oper),ops[i]? = some o->W i=true->cls i=.pure->∀ k,yI pre m al i k->cJ P (fg k) (cH G (mx ops pre val ae i o)) o.op=some (.val (val i) (fg k)))
   (s4:∀ (i:Nat) (o:Oper),ops[i]? = some o->W i=true->cls i=.new->∃ mk,mR P (cH G (mx ops pre val ae i o)) o.op=some (cells i,mk)/\val i=mk (gg i)/\h.n<=gg i ∧
    ∀ k,yI pre m al i k->(fg k).f (gg i)=.cells (cells i).length (cells i))
   (EU:∀ (i j:Nat) (o cW:Oper),ops[i]? = some o->ops[j]? = some cW->W i=true->W j=true->cls i=.new->cls j=.new->gg i=gg j->i=j)
   (EV:∀ (i:Nat) (o:Oper) (q:Nat),ops[i]? = some o->W i=true->cls i=.new->q<m->gg i<(fg q).n\/(qV q).n<=gg i)
   (o8:∀ q,q<m->nE (qV q) (fg (q+1)))
   (o4:∀ (q:Nat) (o:Oper),q<m->ops[al q]? = some o->c6 P G (.op o.op (mx ops pre val ae (al q) o) (fg q) (val (al q)) (qV q))) :
   c6 P G (.code (.region id ops true) N ae h .normal bP h')
 | TH {all N ae h}:c6 P G (.ops all [] N ae h ae h)
 | TJ {all o l N ae h bP h'}:jW all ae o=some false->oZ N o.dst=true->c6 P G (.ops all l N (gV ae o.dst gX) h bP h')->c6 P G (.ops all (o::l) N ae h bP h')
 | TI {all o l N ae h v h1 bP h'}:jW all ae o=some true->oZ N o.dst=true->c6 P G (.op o.op ae h v h1)->c6 P G (.ops all l N (gV ae o.dst v) h1 bP h')->c6 P G (.ops all (o::l) N ae h bP h')
 | Ga {op ae h v h'}:cJ P h (cH G ae) op=some (.val v h')->c6 P G (.op op ae h v h')
 | zR {op ae h f args h1 v h'}:cJ P h (cH G ae) op=some (.call f args h1)->c6 P G (.call f args h1 v h')->c6 P G (.op op ae h v h')
 | G1 {op ae h v h' dv ad}:c6 P G (.op op ae h v h')->pM h' ad->pL h' ad v dv->c6 P G (.op op ae h dv ad)
 | inline {f fn c args h e bP h' r}:P.funcs[f]? = some fn->fn.body=some c->
   c6 P G (.code c (args.length+(fn.ntmps - args.length)) (fun t=>args.getD t gX) h e bP h')->(e=.normal\/e=.ret)->Gv P h' bP fn=some r->c6 P G (.call f args h r h')
 | pure {f args h r}:bi P G f args r->aV args=true->c6 P G (.call f args h r h)
 | Lo {f args hV h r}:bi P G f hV r->hV.length=args.length->(∀ (j:Nat) (c c' : U),args[j]? = some c->hV[j]? = some c'->ft h c c')->r.flat=true->c6 P G (.call f args h r h)
 | ext {f args h r h'}:r8 P G f args h r h'->c6 P G (.call f args h r h')
 | Lp {f args hV h r}:nI P G f hV r->hV.length=args.length->(∀ (j:Nat) (c c' : U),args[j]? = some c->hV[j]? = some c'->ft h c c')->c6 P G (.call f args h r h)
section
variable {P:Program} {G:Nat->U}
structure mh (N:Nat) (w:World) (R:Nat->Prop) (h:aN) (μ:cu) (ae:Nat->U) (a:Act) :Prop where
 size:a.tmps.size=N
 defers:a.defers=[]
 val:∀ t,aO w R h μ (ae t) (a.tmps.getD t undef)
theorem sb.ext {w w' : World} {R:Nat->Prop} {h h' : aN} {μ μ' : cu} (g:sb G w R h μ) (e:db w h μ w' h' μ') :sb G w' R h' μ':=fun i=>⟨(g i).1,(g i).2.ext e⟩
theorem mh.ext {N:Nat} {w w' : World} {R:Nat->Prop} {h h' : aN} {μ μ' : cu} {ae:Nat->U} {a:Act} (s:mh N w R h μ ae a) (e:db w h μ w' h' μ') :mh N w' R h' μ' ae a:=
 ⟨s.size,s.defers,fun t=>(s.val t).ext e⟩
theorem mh.cH {N:Nat} {w:World} {R:Nat->Prop} {h:aN} {μ:cu} {ae:Nat->U} {a:Act} (s:mh N w R h μ ae a) (g:sb G w R h μ) (x:Operand) :aO w R h μ (cH G ae x) (a.eval x) :=by
 cases x with
 | tmp t=>exact s.val t
 | const v=>exact aO.vq v
 | global i=>exact (g i).2
 | func f=>exact .fn f [] [] #[] #[] rfl rfl (fun _ _ _ aM=>by simp at aM) (fun _ _ _ aM=>by simp at aM)
theorem Mx {w:World} {R:Nat->Prop} {h:aN} {μ:cu}:aO w R h μ gX undef:=.bu [] #[] rfl (fun _ _ _ aM=>by simp at aM)
theorem mh.put {N:Nat} {w:World} {R:Nat->Prop} {h:aN} {μ:cu} {ae:Nat->U} {a:Act} (s:mh N w R h μ ae a) {dst:Option Tmp} (br:oZ N dst=true) {c:U} {v:Value} (ao:aO w R h μ c v) :
  mh N w R h μ (gV ae dst c) (a.put dst v) :=by
 cases dst with
 | none=>exact s
 | some d=>
  have aL:d<a.tmps.size:=by rw[s.size]; simpa [oZ] using br
  refine⟨by simp[Act.put,s.size],s.defers,fun t=>?_⟩;simp only[gV,Act.put];by_cases aP:t=d
  ·subst aP;rw[jj];simp[aL];exact ao
  ·rw[b2 _ _ _ _ aP];have:=s.val t;simpa [Array.getElem?_setIfInBounds_ne (Ne.symm aP)] using this
theorem MH {w:World} {R:Nat->Prop} {h:aN} {μ:cu} {ops:Array Oper} {ae:Nat->U} {tmps:Array Value} {o:Oper} {b:Bool} (hw:jW ops ae o=some b)
  (ao:∀ d,(∃ j Ah,o.guard=some (j,Ah)/\(ops[j]?).bind (·.dst)=some d)->aO w R h μ (ae d) (tmps.getD d undef)) :Region.wanted o (yielded ops tmps)=b:=by
 unfold jW at hw;unfold Region.wanted;cases au:o.guard with
 | none=>rw[au] at hw; simpa using hw
 | some i3=>
  obtain⟨j,Ah⟩:=i3;rw[au] at hw;simp only at hw ⊢;unfold yielded;cases br:(ops[j]?).bind (·.dst) with
  | none=>
   rw[br] at hw;simp only[Option.some.injEq] at hw;subst hw;simp
  | some d=>
   rw[br] at hw;have zn:=ao d ⟨j,Ah,au,br⟩;simp only[Option.bind_some] at hw ⊢;cases aP:tmps[d]? with
   | none=>
    have aK:tmps.getD d undef=undef:=by simp[Array.getD_eq_getD_getElem?,aP]
    rw[aK] at zn;cases ah:ae d<;>rw[ah] at hw zn<;>simp at hw<;>try (subst hw; simp)
    all_goals cases zn
   | some v=>
    have aK:tmps.getD d undef=v:=by simp[Array.getD_eq_getD_getElem?,aP]
    rw[aK] at zn;cases ah:ae d<;>rw[ah] at hw zn<;>simp at hw
    all_goals (cases zn<;>(subst hw; simp))
def oI (P:Program) (n:Nat) (c:Code) (Q:Exit->Act->World->Prop) (a:Act) (w:World) :Prop:=
 match c with
 | .loop c'=>Code.rounds P c' Q n a w
 | c=>c.wp P Q a w
theorem oI.wp {n:Nat} {c:Code} {Q:Exit->Act->World->Prop} {a:Act} {w:World} (h:oI P n c Q a w) :c.wp P Q a w:=by
 cases c<;>first | exact wp_loop_rounds n h | exact h
def v2 (P:Program) (G:Nat->U) :J->Prop
 | .code c N ae h e bP h'=>∃ n,∀ (R:Nat->Prop) (B:Nat) (w:World) (μ:cu) (a:Act) (Q:Exit->Act->World->Prop),bV R B w h μ->sb G w R h μ->mh N w R h μ ae a->
   (∀ eD w' μ',db w h μ w' h' μ'->bV R B w' h' μ'->mh N w' R h' μ' bP eD->Q e.out eD w')->oI P n c Q a w
 | .ops all l N ae h bP h'=>∀ (R:Nat->Prop) (B:Nat) (w:World) (μ:cu) (a:Act) (Q:Exit->Act->World->Prop),bV R B w h μ->sb G w R h μ->mh N w R h μ ae a->
   (∀ eD w' μ',db w h μ w' h' μ'->bV R B w' h' μ'->mh N w' R h' μ' bP eD->Q .normal eD w')->wpList P all Q l a w
 | .op op ae h v h'=>∀ (R:Nat->Prop) (B:Nat) (w:World) (μ:cu) (a:Act) (o:Oper) (K:Act->World->Prop) (Q:Exit->Act->World->Prop),o.op=op->bV R B w h μ->sb G w R h μ->
   (∀ x,aO w R h μ (cH G ae x) (a.eval x))->(∀ a8 w' μ',db w h μ w' h' μ'->bV R B w' h' μ'->aO w' R h' μ' v a8->K (a.put o.dst a8) w')->o.wp P a w K Q
 | .call f args h r h'=>r8 P G f args h r h'
theorem agZ {N:Nat} {w:World} {R:Nat->Prop} {B:Nat} {h:aN} {μ:cu} {ae:Nat->U} {a:Act} (rel:bV R B w h μ) (s:mh N w R h μ ae a) {fn:Func} {r:U} (ay:Gv P h ae fn=some r) :
  ∃ v,(results fn a.tmps).run P w=.ok v w/\aO w R h μ r v:=by
 have one:∀ (x:ResultVar) (c:U),zZ P h ae x=some c->∃ v,(∀ F:ResultVar->Sem Value,(∀ t,F (.tmp t)=pure (a.tmps.getD t undef))->(∀ p t,F (.cell p t)=(do loadVar t (<-asAddr (a.tmps.getD p undef))))->(F x).run P w=.ok v w)/\aO w R h μ c v:=by
  intro x c ag;cases x with
  | tmp t=>
   simp only[zZ,Option.some.injEq] at ag; subst ag;exact⟨_,fun F h1 _=>by rw[h1]; rfl,s.val t⟩
  | cell p t=>
   simp only[zZ] at ag;obtain⟨v,h1,ad⟩:=FN (P:=P) rel ag (s.val p);refine⟨v,fun F _ wz=>?_,ad⟩;rw[wz];cases aB:a.tmps.getD p undef with
   | pointer M9=>
    cases M9 with
    | none=>rw[aB] at h1; simp[Instr.loadAt,Instr.sureAddr] at h1
    | some M9=>rw[aB] at h1; simpa [Instr.loadAt,Instr.sureAddr,asAddr,aB] using h1
   | _=>rw[aB] at h1; simp[Instr.loadAt,Instr.sureAddr] at h1
 have all:∀ (l:List ResultVar) (cs:List U),vz P h ae l=some cs->∃ vs:List Value,(∀ F:ResultVar->Sem Value,(∀ t,F (.tmp t)=pure (a.tmps.getD t undef))->(∀ p t,F (.cell p t)=(do loadVar t (<-asAddr (a.tmps.getD p undef))))->(l.mapM F).run P w=.ok vs w) ∧
   vs.length=cs.length/\∀ (j:Nat) (c:U) (v:Value),cs[j]? = some c->vs[j]? = some v->aO w R h μ c v:=by
  intro l
  induction l with
  | nil=>intro cs ah; simp only[vz,Option.some.injEq] at ah; subst ah; exact⟨[],fun F _ _=>by simp,rfl,fun _ _ _ aM=>by simp at aM⟩
  | cons x l aJ=>
   intro cs ah;unfold vz at ah;split at ah
   ·rename_i c cs' ag ak;simp only[Option.some.injEq] at ah; subst ah;obtain⟨v,h1,ad⟩:=one x c ag;obtain⟨vs,aj,aC,aZ⟩:=aJ cs' ak;refine⟨v::vs,fun F bL bz=>by simp only[List.mapM_cons,Sem.run_bind,h1 F bL bz,Result.andThen_ok,aj F bL bz,Sem.run_pure],by simp[aC],fun j c' a8 ai ao=>?_⟩;cases j with
    | zero=>simp at ai ao; subst ai ao; exact ad
    | succ j=>exact aZ j c' a8 (by simpa using ai) (by simpa using ao)
   ·cases ah
 unfold Gv at ay;cases ak:vz P h ae fn.results.toList with
 | none=>rw[ak] at ay; cases ay
 | some cs=>
  rw[ak] at ay;simp only[Option.map_some,Option.some.injEq] at ay; subst ay;obtain⟨vs,h1,ad,aj⟩:=all _ _ ak;have hB:(results fn a.tmps).run P w=.ok (if aM:vs.toArray.size=1 then vs.toArray[0] else .tuple vs.toArray) w:=by
   unfold results;rw[Array.mapM_eq_mapM_toList];simp only[Sem.run_bind,Sem.run_map];rw[h1 _ (fun _=>rfl) (fun _ _=>rfl)];simp
  refine⟨_,hB,?_⟩
  match cs,vs,ad,aj with
  | [],[],_,_=>exact .bu [] #[] rfl (fun _ _ _ aM=>by simp at aM)
  | [c],[v],_,aj=>exact aj 0 c v rfl rfl
  | c::c'::cs,v::a8::vs,ad,aj=>
   simp only[List.size_toArray,List.length_cons];rw[dif_neg (by omega)];exact .bu _ _ (by simpa using ad) (fun j x y ai aG=>aj j x y ai (by simpa using aG))
theorem wc {w:World} {R:Nat->Prop} {h:aN} {μ:cu} {c:U} {v:Value} (ao:aO w R h μ c v) :c.closed=true->e3 w (fun k=>R k/\¬ kS h μ k) c v:=by
 have ak:∀ (cs:List U),aV cs=true->∀ (j:Nat) (c:U),cs[j]? = some c->c.closed=true:=by
  intro cs
  induction cs with
  | nil=>intro _ j c ai; simp at ai
  | cons x cs aJ=>
   intro ah j c ai;simp only[aV,Bool.and_eq_true] at ah;cases j with
   | zero=>simp at ai; subst ai; exact ah.1
   | succ j=>exact aJ ah.2 j c (by simpa using ai)
 have wX:∀ (es:List (List U)),AR es=true->∀ (i:Nat) (e:List U),es[i]? = some e->aV e=true:=by
  intro es
  induction es with
  | nil=>intro _ j c ai; simp at ai
  | cons x cs aJ=>
   intro ah j c ai;simp only[AR,Bool.and_eq_true] at ah;cases j with
   | zero=>simp at ai; subst ai; exact ah.1
   | succ j=>exact aJ ah.2 j c (by simpa using ai)
 have cell:∀ b o v,Cell w R h μ b o v->Cell w (fun k=>R k/\¬ kS h μ k) aN.empty (fun _=>none) b o v:=fun b o v ah=>
  ⟨ah.here,ah.one,⟨ah.ro,ah.free⟩,fun ⟨b,m,h1,ad,aj⟩=>by cases ad⟩
 unfold e3
 induction ao with
 | bool b=>exact fun _=>.bool b
 | int k n=>exact fun _=>.int k n
 | str bs=>exact fun _=>.str bs
 | iN=>exact fun _=>.iN
 | aX=>exact fun _=>.aX
 | hh=>exact fun _=>.hh
 | iL=>exact fun _=>.iL
 | iM=>exact fun _=>.iM
 | aI cs vs bc h1 ao aJ=>exact fun ah=>.aI cs vs bc h1 fun j c v ai eZ=>aJ j c v ai eZ (ak cs (by simpa [U.closed] using ah) j c ai)
 | bu cs vs bc ao aJ=>exact fun ah=>.bu cs vs bc fun j c v ai eZ=>aJ j c v ai eZ (ak cs (by simpa [U.closed] using ah) j c ai)
 | ptr=>exact fun ah=>by simp[U.closed] at ah
 | l2=>exact fun ah=>by simp[U.closed] at ah
 | b5 cs off blk o dH ah ao aJ=>exact fun di=>.b5 cs off blk o dH (fun j ai=>cell _ _ _ (ah j ai)) fun j c ai=>aJ j c ai (ak cs (by simpa [U.closed] using di) j c ai)
 | ar=>exact fun ah=>by simp[U.closed] at ah
 | ga=>exact fun ah=>by simp[U.closed] at ah
 | hl=>exact fun ah=>by simp[U.closed] at ah
 | b0 z es blk off cap dH cN av ah ao aJ=>exact fun di=>.b0 z es blk off cap dH cN av (fun i j ax ai=>cell _ _ _ (ah i j ax ai)) fun i e ap j c ai=>aJ i e ap j c ai (ak e (wX es (by simpa [U.closed] using di) i e ap) j c ai)
 | fe z a cap=>exact fun _=>.fe z a cap
 | fn f first fu fs cs aA ah h1 ad dO ln=>
  intro di;simp only[U.closed,Bool.and_eq_true] at di;exact .fn f first fu fs cs aA ah (fun j c v ai eZ=>dO j c v ai eZ (ak _ di.1 j c ai)) fun j c v ai eZ=>ln j c v ai eZ (ak _ di.2 j c ai)
 | mp=>exact fun ah=>by simp[U.closed] at ah
 | it=>exact fun ah=>by simp[U.closed] at ah
 | fD t c v ao aJ=>exact fun di=>.fD t c v (aJ (by simpa [U.closed] using di))
 | lD l=>exact fun _=>.lD l
 | bad v=>exact fun _=>.bad v
theorem AU {cs:List U} (ah:aV cs=true) :∀ (j:Nat) (c:U),cs[j]? = some c->c.closed=true:=by
 induction cs with
 | nil=>intro j c ai; simp at ai
 | cons x cs aJ=>
  intro j c ai;simp only[aV,Bool.and_eq_true] at ah;cases j with
  | zero=>simp at ai; subst ai; exact ah.1
  | succ j=>exact aJ ah.2 j c (by simpa using ai)
theorem e3.up {w:World} {A:Nat->Prop} {R:Nat->Prop} {h:aN} {μ:cu} {c:U} {v:Value} (ao:e3 w A c v) (cT:∀ k,k<w.heap.size->A k->R k/\¬ kS h μ k) :aO w R h μ c v:=by
 have cell:∀ b o v,Cell w A aN.empty (fun _=>none) b o v->Cell w R h μ b o v:=fun b o v ah=>
  have af:b<w.heap.size:=World.block_lt_of_cell? _ _ ah.here
  ⟨ah.here,ah.one,(cT b af ah.ro).1,(cT b af ah.ro).2⟩
 unfold e3 at ao
 induction ao with
 | bool b=>exact .bool b
 | int k n=>exact .int k n
 | str bs=>exact .str bs
 | iN=>exact .iN
 | aX=>exact .aX
 | hh=>exact .hh
 | iL=>exact .iL
 | iM=>exact .iM
 | aI cs vs bc h1 ao aJ=>exact .aI cs vs bc h1 aJ
 | bu cs vs bc ao aJ=>exact .bu cs vs bc aJ
 | ptr b off sz cs m af hm=>cases hm
 | l2 b off sz a au=>rcases au with au | ⟨n,cs,au,_⟩<;>cases au
 | b5 cs off blk o dH ah ao aJ=>exact .b5 cs off blk o dH (fun j ai=>cell _ _ _ (ah j ai)) aJ
 | ar z b off len cap sz cap' cs m af hm=>cases hm
 | ga z b off len cap sz cap' a ak ah au=>rcases au with au | ⟨n,cs,au,_⟩<;>cases au
 | hl z b off sz a cs m af hm=>cases hm
 | b0 z es blk off cap dH cN av ah ao aJ=>exact .b0 z es blk off cap dH cN av (fun i j ax ai=>cell _ _ _ (ah i j ax ai)) aJ
 | fe z a cap=>exact .fe z a cap
 | fn f first fu fs cs aA ah h1 ad dO ln=>exact .fn f first fu fs cs aA ah dO ln
 | mp b m af hm=>cases hm
 | it b m af hm=>cases hm
 | fD t c v ao aJ=>exact .fD t c v aJ
 | lD l=>exact .lD l
 | bad v=>exact .bad v
theorem TR {R:Nat->Prop} {B:Nat} {w:World} {h:aN} {μ:cu} (rel:bV R B w h μ) {k:Nat} (aq:kS h μ k) :k<w.heap.size:=by
 obtain⟨b,m,h1,ad,rfl⟩:=aq;exact rel.lt h1 ad
theorem CX {R:Nat->Prop} {B:Nat} {w w' : World} {h:aN} {μ:cu} (rel:bV R B w h μ) (af:yb w w') :db w h μ w' h μ/\bV R B w' h μ:=by
 have e:db w h μ w' h μ:=⟨⟨af.os,af.tape,af.output,af.size,fun k hk _=>af.block k hk,fun _ aq=>.inl aq,fun b sz cs m h1 ad=>.inl ⟨cs,h1,ad⟩,fun _ _ au=>au,fun _ _ _ h1 ad=>⟨h1,ad⟩,Nat.le_refl _,af.drawn⟩,fun _ _ hm=>hm⟩
 refine⟨e,fun b m hm=>?_,rel.inj,rel.base,rel.fresh,rel.up,Nat.le_trans rel.size af.size,rel.kp⟩;cases ak:live (h.f b) with
 | false=>cases ah:h.f b<;>first | trivial | (rw[ah] at ak; cases ak)
 | true=>exact (rel.blk b m hm).ext e.toExt0 (af.block _ (rel.lt ak hm))
theorem Uw {w:World} {R:Nat->Prop} {B:Nat} {h:aN} {μ:cu} (rel:bV R B w h μ) :∀ {c c' : U},ft h c c'->∀ {v:Value},aO w R h μ c v->e3 w R c' v:=by
 intro c c' ay;have p4:∀ {b sz:Nat} {cs:List U} {m:M},h.f b=.cells sz cs->μ b=some m->∃ f:Nat->Value,∀ (j:Nat) (c:U),cs[j]? = some c->Cell w R aN.empty (fun _=>none) m.r (m.s+j) (f j)/\aO w R h μ c (f j) :=by
  intro b sz cs m af hm;have hblk:=rel.blk b m hm;rw[af] at hblk;obtain⟨cp,dt,arr,t,fH,hw,az,aA,lO⟩:=hblk;have nd:R m.r:=rel.up _ (rel.base b m (by rw[af]; rfl) hm);refine⟨fun j=>(arr[m.s+j]?).getD undef,fun j c ai=>?_⟩;obtain⟨v,h1,ad,aj⟩:=lO _ _ ai;refine⟨⟨?_,by simp only[h1,Option.getD_some]; exact ad,nd,fun ⟨b,m,h1,ad,aj⟩=>by cases ad⟩,by simp only[h1,Option.getD_some]; exact aj⟩;simp only[World.cell?,hw,h1,Option.getD_some,Option.isSome_none];rfl
 induction ay with
 | same c ah=>
  intro v ao;exact (e3.up (wc ao ah) fun k _ hk=>⟨hk.1,fun ⟨b,m,h1,ad,aj⟩=>by cases ad⟩:aO w R aN.empty (fun _=>none) _ v)
 | aI cs cs' ak h aJ=>
  intro v ao;cases ao with
  | aI _ vs gl h1 ao=>
   refine .aI cs' vs (by omega) h1 (fun j c' v ai eZ=>?_);have aL:j<cs.length:=by rw[<-ak]; exact (List.getElem?_eq_some_iff.1 ai).1
   exact aJ j cs[j] c' (List.getElem?_eq_getElem aL) ai (ao j cs[j] v (List.getElem?_eq_getElem aL) eZ)
 | bu cs cs' ak h aJ=>
  intro v ao;cases ao with
  | bu _ vs gl ao=>
   refine .bu cs' vs (by omega) (fun j c' v ai eZ=>?_);have aL:j<cs.length:=by rw[<-ak]; exact (List.getElem?_eq_some_iff.1 ai).1
   exact aJ j cs[j] c' (List.getElem?_eq_getElem aL) ai (ao j cs[j] v (List.getElem?_eq_getElem aL) eZ)
 | rZ z b off cap sz=>
  intro v ao;cases ao with
  | ar _ _ _ _ _ _ cap' cs m af hm ak aq ah=>exact .fe z _ cap'
  | ga _ _ _ _ _ _ cap' a ak ah au=>exact .fe z _ cap'
  | hl _ _ _ _ a cs m af hm=>exact .fe z a 0
 | ptr b off sz cs cs' af ak h aJ=>
  intro v ao;cases ao with
  | l2 _ _ _ a au=>
   exfalso;rcases au with au | ⟨n,hq,au,aL⟩
   ·rw[af] at au; cases au
   ·rw[af] at au; cases au; omega
  | ptr _ _ _ hq m fI hm=>
   obtain⟨f,aA⟩:=p4 af hm;refine .b5 cs' off m.r m.s f (fun j ai=>?_) (fun j c' ai=>?_)
   ·exact (aA j cs[j] (List.getElem?_eq_getElem (by omega))).1
   ·have aL:j<cs.length:=by rw[<-ak]; exact (List.getElem?_eq_some_iff.1 ai).1
    exact aJ j cs[j] c' (List.getElem?_eq_getElem aL) ai (aA j cs[j] (List.getElem?_eq_getElem aL)).2
 | ar z b off len cap sz cs es af ak av fl h aJ=>
  intro v ao;cases ao with
  | hl _ _ _ _ a hq m fI jo=>
   obtain rfl:=List.length_eq_zero_iff.1 ak;exact .fe z a 0
  | ga _ _ _ _ _ _ cap' a ak ah au=>
   exfalso;rcases au with au | ⟨n,hq,au,aL⟩
   ·rw[af] at au; cases au
   ·rw[af] at au; cases au; omega
  | ar _ _ _ _ _ _ cap' hq m fI hm fC aq ah=>
   have cM:len<=cap':=by rcases ah with ⟨_,h⟩ | ⟨_,h,_⟩<;>omega
   obtain⟨f,aA⟩:=p4 af hm;subst ak;have aL:∀ i j,i<es.length->j<z->off+(i*z+j)<cs.length:=by
    intro i j ax ai;have:i*z+z<=es.length*z:=by rw[<-Nat.succ_mul]; exact Nat.mul_le_mul_right _ ax
    omega
   refine .b0 z es m.r (m.s+off) cap' (fun i j=>f (off+(i*z+j))) cM av (fun i j ax ai=>?_) (fun i e ap j c' ai=>?_)
   ·have:=(aA _ _ (List.getElem?_eq_getElem (aL i j ax ai))).1;rw[<-Nat.add_assoc] at this;exact this
   ·have ax:i<es.length:=(List.getElem?_eq_some_iff.1 ap).1;have nj:j<z:=by rw[<-av e (List.mem_of_getElem? ap)]; exact (List.getElem?_eq_some_iff.1 ai).1
    exact aJ i j e _ c' ap ai (List.getElem?_eq_getElem (aL i j ax nj)) (aA _ _ (List.getElem?_eq_getElem (aL i j ax nj))).2
theorem Ei:∀ {cs:List U},k0 cs=true->∀ (j:Nat) (c:U),cs[j]? = some c->c.flat=true:=by
 intro cs
 induction cs with
 | nil=>intro _ j c h; simp at h
 | cons x cs aJ=>
  intro ah j c ai;simp only[k0,Bool.and_eq_true] at ah;cases j with
  | zero=>simp at ai; subst ai; exact ah.1
  | succ j=>exact aJ ah.2 j c (by simpa using ai)
theorem PR {w w' : World} {A R:Nat->Prop} {h h' : aN} {μ μ' : cu} {c:U} {v:Value} (ao:aO w A h μ c v) (aA:c.flat=true) :aO w' R h' μ' c v:=by
 induction ao with
 | bool b=>exact .bool b
 | int k n=>exact .int k n
 | str bs=>exact .str bs
 | iN=>exact .iN
 | aX=>exact .aX
 | hh=>exact .hh
 | iL=>exact .iL
 | iM=>exact .iM
 | aI cs vs bc h1 ao aJ=>exact .aI cs vs bc h1 (fun j c v ai eZ=>aJ j c v ai eZ (Ei (by simpa only [U.flat] using aA) j c ai))
 | bu cs vs bc ao aJ=>exact .bu cs vs bc (fun j c v ai eZ=>aJ j c v ai eZ (Ei (by simpa only [U.flat] using aA) j c ai))
 | fD t c v ao aJ=>exact .fD t c v (aJ (by simpa only [U.flat] using aA))
 | lD l=>exact .lD l
 | _=>simp[U.flat] at aA
theorem af0 {f:FuncId} {args hV:List U} {r:U} {h:aN} (aB:bi P G f hV r) (bc:hV.length=args.length) (iF:∀ (j:Nat) (c c' : U),args[j]? = some c->hV[j]? = some c'->ft h c c')
  (fj:r.flat=true) :v2 P G (.call f args h r h) :=by
 intro R B w μ vs rel g ak ao;refine (aB w R vs (fun i=>?_) (by omega) (fun j c' v ai eZ=>?_)).mono ?_
 ·exact (e3.up (wc (g i).2 (g i).1) fun k _ hk=>⟨hk.1,fun ⟨b,m,h1,ad,aj⟩=>by cases ad⟩:aO w R aN.empty (fun _=>none) _ _)
 ·have aL:j<args.length:=by rw[<-bc]; exact (List.getElem?_eq_some_iff.1 ai).1
  exact Uw rel (iF j args[j] c' (List.getElem?_eq_getElem aL) ai) (ao j args[j] v (List.getElem?_eq_getElem aL) eZ)
 ·rintro e w' ⟨v,rfl,af,ay⟩;obtain⟨bL,bz⟩:=CX rel af;exact⟨v,μ,rfl,bL,bz,PR ay fj⟩
theorem af1 {f:FuncId} {args hV:List U} {r:U} {h:aN} (aB:nI P G f hV r) (bc:hV.length=args.length) (iF:∀ (j:Nat) (c c' : U),args[j]? = some c->hV[j]? = some c'->ft h c c') :v2 P G (.call f args h r h) :=by
 intro R B w μ vs rel g ak ao;refine (aB w R vs (fun i=>?_) (by omega) (fun j c' v ai eZ=>?_)).mono ?_
 ·exact (e3.up (wc (g i).2 (g i).1) fun k _ hk=>⟨hk.1,fun ⟨b,m,h1,ad,aj⟩=>by cases ad⟩:aO w R aN.empty (fun _=>none) _ _)
 ·have aL:j<args.length:=by rw[<-bc]; exact (List.getElem?_eq_some_iff.1 ai).1
  exact Uw rel (iF j args[j] c' (List.getElem?_eq_getElem aL) ai) (ao j args[j] v (List.getElem?_eq_getElem aL) eZ)
 ·rintro e w' ⟨v,rfl,af,ay⟩;obtain⟨bL,bz⟩:=CX rel af;exact⟨v,μ,rfl,bL,bz,ay.up fun k hk cT=>⟨rel.up k (Nat.le_trans rel.size cT),fun aq=>by have:=TR rel aq; omega⟩⟩
theorem nI.GQ {f:FuncId} {args:List U} {r:U} (aB:nI P G f args r) :bi P G f args r:=fun w A vs au ak ao=>
 (aB w A vs au ak ao).mono fun e w' ⟨v,h1,ad,aj⟩=>⟨v,h1,ad,(e3.up aj fun k _ hk=>⟨.inr hk,fun ⟨b,m,h1,ad,aj⟩=>by cases ad⟩:aO w' _ aN.empty (fun _=>none) _ _)⟩
theorem af2 {f:FuncId} {args:List U} {r:U} {h:aN} (aB:bi P G f args r) (ah:aV args=true) :v2 P G (.call f args h r h) :=by
 intro R B w μ vs rel g ak ao;refine (aB w (fun k=>R k/\¬ kS h μ k) vs (fun i=>?_) ak (fun j c v ai eZ=>wc (ao j c v ai eZ) (AU ah j c ai))).mono ?_
 ·exact wc (g i).2 (g i).1
 ·rintro e w' ⟨v,rfl,af,ay⟩;obtain⟨bL,bz⟩:=CX rel af;refine⟨v,μ,rfl,bL,bz,ay.up (fun k hk cT=>?_)⟩;rcases cT with cT | cT
  ·exact cT
  ·exact⟨rel.up k (Nat.le_trans rel.size cT),fun aq=>by have:=TR rel aq; omega⟩
end

section
variable {P:Program} {G:Nat->U}
theorem ae6 {w:World} {R:Nat->Prop} {h:aN} {μ:cu} {aw:Operand->U} {dC:Operand->Value} (cK:∀ x,aO w R h μ (aw x) (dC x)) (o:Oper) {cs:List U} {mk:Nat->U} (aD:mR P aw o.op=some (cs,mk)) :
  ∃ v arr t,(execOp dC o).run P w=.ok (.value v) (w.alloc (.cells arr t))/\ky w R h μ cs arr ∧
   ∀ (w' : World) (sh:Nat->Prop) (h' : aN) (μ' : cu) (b:Nat),h'.f b=.cells cs.length cs->μ' b=some ⟨w.heap.size,0,arr.size⟩->aO w' sh h' μ' (mk b) v:=by
 obtain⟨dst,op,type,pos,after,guard⟩:=o;cases op<;>simp only[mR] at aD<;>try (cases aD; done)
 case alloc t=>
  cases av:g9 P t with
  | none=>rw[av] at aD; cases aD
  | some z=>
   rw[av] at aD;simp only[Option.map_some,Option.some.injEq,Prod.mk.injEq] at aD;obtain⟨rfl,rfl⟩:=aD;obtain⟨v,ao,ay⟩:=vW (P:=P) (w:=w) (R:=R) (h:=h) (μ:=μ) av;refine⟨.pointer (some ⟨w.heap.size,0,none⟩),v.cells,t,by simp[execOp,Instr.alloc,ao,newVar,newRow],ay,fun w' sh h' μ' b af hm=>?_⟩;have:=aO.ptr (w:=w') (R:=sh) (h:=h') (μ:=μ') b 0 z.length z _ af hm;simpa using this
 case box t x=>
  cases av:(aw x).cells with
  | none=>rw[av] at aD; cases aD
  | some z=>
   rw[av] at aD;simp only[Option.map_some,Option.some.injEq,Prod.mk.injEq] at aD;obtain⟨rfl,rfl⟩:=aD;obtain⟨bL,bz⟩:=DW (cK x) av;refine⟨.pointer (some ⟨w.heap.size,0,none⟩),(dC x).cells,t,by simp[execOp,Instr.box,newVar,newRow],⟨bL,bz⟩,fun w' sh h' μ' b af hm=>?_⟩;have:=aO.ptr (w:=w') (R:=sh) (h:=h') (μ:=μ') b 0 z.length z _ af hm;simpa using this
 case buildSlice t len parts=>
  cases ap:hY P t with
  | none=>rw[ap] at aD; cases aD
  | some e=>
  rw[ap] at aD;simp only at aD;cases av:cf P e with
  | none=>rw[av] at aD; cases aD
  | some z=>
  cases ij:g9 P e with
  | none=>rw[av,ij] at aD; cases aD
  | some zero=>
  rw[av,ij] at aD;simp only at aD;split at aD
  ·rename_i iZ;cases aA:g4 (fun i=>some (i*z,z)) (c4 zero len) (parts.toList.map fun p=>(p.1,aw p.2)) with
   | none=>rw[aA] at aD; cases aD
   | some cs'=>
    rw[aA] at aD;simp only[Option.map_some,Option.some.injEq,Prod.mk.injEq] at aD;obtain⟨rfl,rfl⟩:=aD;obtain⟨bL,bz⟩:=Lj cK parts;obtain⟨di,arr,hB,ad⟩:=NP ap av ij iZ.1 iZ.2 aA bL bz;refine⟨.slice (some ⟨w.heap.size,0,none⟩) len len,arr,e,by simp[execOp,hB],ad,fun w' sh h' μ' b af hm=>?_⟩;rw[di] at af;have:=aO.ar (w:=w') (R:=sh) (h:=h') (μ:=μ') z b 0 len len (len*z) len _ _ af hm (Nat.le_refl _) (by omega) (.inr ⟨by omega,Nat.le_refl _,by simp only; rw[ad.1,di]; omega⟩);simpa using this
  ·cases aD
 case makeSlice t l c=>
  split at aD
  ·rename_i e li g2 ap hz er;obtain⟨kl,pb⟩:=q0 hz (cK l);obtain⟨kc,jk⟩:=q0 er (cK c);cases av:cf P e with
   | none=>rw[av] at aD; cases aD
   | some z=>
   cases dz:iT P e with
   | none=>rw[av,dz] at aD; cases aD
   | some by_=>
   cases ij:g9 P e with
   | none=>rw[av,dz,ij] at aD; cases aD
   | some zero=>
   rw[av,dz,ij] at aD;simp only at aD;split at aD
   ·rename_i iZ;obtain⟨he,aE,n4,EY,du⟩:=iZ;simp only[Option.some.injEq,Prod.mk.injEq] at aD;obtain⟨rfl,rfl⟩:=aD;obtain⟨bc,arr,hB,cj⟩:=Tl (w:=w) (R:=R) (h:=h) (μ:=μ) (kl:=kl) (kc:=kc) ap av dz ij he aE n4 EY du;refine⟨.slice (some ⟨w.heap.size,0,none⟩) li.toNat g2.toNat,arr,e,by simp[execOp,pb,jk,hB],cj,fun w' sh h' μ' b af hm=>?_⟩;rw[bc] at af;have:=aO.ar (w:=w') (R:=sh) (h:=h') (μ:=μ') z b 0 li.toNat g2.toNat (g2.toNat*z) g2.toNat _ _ af hm (by omega) (by omega) (.inr ⟨by omega,Nat.le_refl _,by simp only; rw[cj.1,bc]; omega⟩);simpa using this
   ·cases aD
  ·cases aD
theorem nE.rel {R:Nat->Prop} {B:Nat} {w:World} {h h' : aN} {μ:cu} (g:nE h h') (rel:bV R B w h μ) :db w h μ w h' μ/\bV R B w h' μ:=by
 have aL:∀ b m,μ b=some m->b<h.n:=fun b m hm=>rel.q2 hm
 have e:db w h μ w h' μ:=by
  refine⟨⟨rfl,rfl,rfl,Nat.le_refl _,fun _ _ _=>rfl,?_,?_,?_,?_,g.n,Nat.le_refl _⟩,fun _ _ hm=>hm⟩
  ·rintro k ⟨b,m,ak,hm,rfl⟩;rw[g.same b (aL b m hm)] at ak;exact .inl ⟨b,m,ak,hm,rfl⟩
  ·intro b sz cs m af hm;exact .inl ⟨cs,by rw[g.same b (aL b m hm)]; exact af,hm⟩
  ·rintro b sz au;have af:b<h.n:=by
    rcases Nat.lt_or_ge b h.n with h1 | h1
    ·exact h1
    ·have:=rel.fresh b h1;rcases au with au | ⟨n,cs,au,_⟩<;>rw[this] at au<;>cases au
   rcases au with au | ⟨n,cs,au,iD⟩
   ·exact .inl (by rw[g.same b af]; exact au)
   ·exact .inr ⟨n,cs,by rw[g.same b af]; exact au,iD⟩
  ·intro b k m af hm;exact⟨by rw[g.same b (aL b m hm)]; exact af,hm⟩
 refine⟨e,fun b m hm=>?_,fun b bf m ca ak cN hm bR ay=>?_,fun b m ak hm=>?_,g.fresh rel.fresh,rel.up,rel.size,fun b af=>rel.kp b (Nat.le_trans g.n af)⟩
 ·rw[g.same b (aL b m hm)];exact (rel.blk b m hm).ext e.toExt0 rfl
 ·rw[g.same b (aL b m hm)] at ak;rw[g.same bf (aL bf ca bR)] at cN;exact rel.inj b bf m ca ak cN hm bR ay
 ·rw[g.same b (aL b m hm)] at ak;exact rel.base b m ak hm
theorem Vr {K:Act->World->Prop} {Q:Exit->Act->World->Prop} {e:qS} {a:Act} {w:World} (ap:e≠.normal) (h:Q e.out a w) :Exit.then K Q e.out a w:=by
 cases e with
 | normal=>exact absurd rfl ap
 | exit id=>exact h
 | ret=>exact h
theorem Xp {id:Nat} {Q:Exit->Act->World->Prop} {e:qS} {a:Act} {w:World} (ap:e≠.exit id) (h:Q e.out a w) :Exit.inBlock id Q e.out a w:=by
 cases e with
 | normal=>exact h
 | exit rC=>
  have:rC≠id:=fun aM=>ap (by rw[aM])
  simpa [Exit.inBlock,qS.out,this] using h
 | ret=>exact h
def MS (P:Program) (G:Nat->U) :Prop:=
 ∀ {id:Nat} {ops:Array Oper} {N:Nat} {ae:Nat->U} {h:aN} {bP:Nat->U} {h' : aN} (pre:Nat->Nat->Bool) (val:Nat->U) (W:Nat->Bool) (cls:Nat->Dr) (m:Nat) (al:Nat->Nat) (fg qV:Nat->aN) (gg:Nat->Nat) (cells:Nat->List U),
  r9 ops pre->
  (∀ (i:Nat) (o:Oper),ops[i]? = some o->oZ N o.dst=true)->
  nE h (fg 0)->h'=fg m->(bP=fun t=>match ja ops t with | some i=>val i | none=>ae t)->
  (∀ (i:Nat) (o:Oper),ops[i]? = some o->W i=true->cls i=.fU->∃ q,q<m/\al q=i)->
  (∀ q,q<m->∃ o,ops[al q]? = some o/\W (al q)=true/\cls (al q)=.fU)->
  (∀ q e5,q<m->e5<m->q<e5->pre (al e5) (al q)=true)->
  (∀ q e5,q<m->e5<m->al q=al e5->q=e5)->
  (∀ (i:Nat) (o:Oper),ops[i]? = some o->jW ops (mx ops pre val ae i o) o=some (W i))->
  (∀ (i:Nat) (o:Oper),ops[i]? = some o->W i=false->val i=gX)->
  (∀ (i:Nat) (o:Oper),ops[i]? = some o->W i=true->cls i=.pure->∀ k,yI pre m al i k->cJ P (fg k) (cH G (mx ops pre val ae i o)) o.op=some (.val (val i) (fg k)))->
  (∀ (i:Nat) (o:Oper),ops[i]? = some o->W i=true->cls i=.new->∃ mk,mR P (cH G (mx ops pre val ae i o)) o.op=some (cells i,mk)/\val i=mk (gg i)/\h.n<=gg i ∧
    ∀ k,yI pre m al i k->(fg k).f (gg i)=.cells (cells i).length (cells i))->
  (∀ (i j:Nat) (o cW:Oper),ops[i]? = some o->ops[j]? = some cW->W i=true->W j=true->cls i=.new->cls j=.new->gg i=gg j->i=j)->
  (∀ (i:Nat) (o:Oper) (q:Nat),ops[i]? = some o->W i=true->cls i=.new->q<m->gg i<(fg q).n\/(qV q).n<=gg i)->
  (∀ q,q<m->nE (qV q) (fg (q+1)))->
  (∀ (q:Nat) (o:Oper),q<m->ops[al q]? = some o->v2 P G (.op o.op (mx ops pre val ae (al q) o) (fg q) (val (al q)) (qV q)))->
  v2 P G (.code (.region id ops true) N ae h .normal bP h')
theorem pM.ext {h ad:aN} (k:pM h ad) (w:World) (μ:cu) :db w h μ w ad μ:=by
 refine⟨⟨rfl,rfl,rfl,Nat.le_refl _,fun _ _ _=>rfl,?_,?_,?_,?_,Nat.le_of_eq k.n.symm,Nat.le_refl _⟩,fun _ _ hm=>hm⟩
 ·rintro r ⟨b,m,ak,hm,rfl⟩;refine .inl ⟨b,m,?_,hm,rfl⟩;rcases k.blk b with ap | ⟨sz,cs,ah,_⟩
  ·rw[<-ap]; exact ak
  ·rw[ah]; rfl
 ·intro b sz cs m af hm;rcases k.blk b with ap | ⟨sz',cs',ah,br | ⟨hq,Bj,_⟩⟩
  ·exact .inl ⟨cs,by rw[ap]; exact af,hm⟩
  ·exact .inr (.inl br)
  ·rw[af] at ah; cases ah; exact .inl ⟨hq,Bj,hm⟩
 ·rintro b sz (af | ⟨n,cs,af,aL⟩)
  ·rcases k.blk b with ap | ⟨sz',cs',ah,_⟩
   ·exact .inl (ap.trans af)
   ·rw[af] at ah; cases ah
  ·rcases k.blk b with ap | ⟨sz',cs',ah,br | ⟨hq,Bj,_⟩⟩
   ·exact .inr ⟨n,cs,by rw[ap]; exact af,aL⟩
   ·exact .inl br
   ·rw[af] at ah; cases ah; exact .inr ⟨n,hq,Bj,aL⟩
 ·intro b lZ m af hm;rcases k.blk b with ap | ⟨sz',cs',ah,_⟩
  ·exact⟨by rw[ap]; exact af,hm⟩
  ·rw[ah] at af; cases af
theorem pM.live {h ad:aN} (k:pM h ad) {b:Nat} (ak:live (ad.f b)=true) :live (h.f b)=true:=by
 rcases k.blk b with ap | ⟨sz,cs,ah,_⟩
 ·rw[<-ap]; exact ak
 ·rw[ah]; rfl
theorem pM.pE {R:Nat->Prop} {B:Nat} {w:World} {h ad:aN} {μ:cu} (rel:bV R B w h μ) (k:pM h ad) :∀ {c dd:U},pL h ad c dd->∀ {v:Value},aO w R h μ c v->aO w R ad μ dd v:=by
 intro c dd ay
 induction ay with
 | same c=>intro v ao; exact ao.ext (k.ext w μ)
 | aI cs cs' ak h aJ=>
  intro v ao;cases ao with
  | aI _ vs gl h1 ao=>
   refine .aI cs' vs (by omega) h1 (fun j c' v ai eZ=>?_);have aL:j<cs.length:=by rw[<-ak]; exact (List.getElem?_eq_some_iff.1 ai).1
   exact aJ j cs[j] c' (List.getElem?_eq_getElem aL) ai (ao j cs[j] v (List.getElem?_eq_getElem aL) eZ)
 | rZ z b off cap sz=>
  intro v ao;cases ao with
  | ar _ _ _ _ _ _ cap' cs m af hm ak aq ah=>exact .fe z _ cap'
  | ga _ _ _ _ _ _ cap' a ak ah au=>exact .fe z _ cap'
  | hl _ _ _ _ a cs m af hm=>exact .fe z a 0
 | ar z b off len cap sz cs es af br ak av fl ao aJ=>
  intro v ao;cases ao with
  | hl _ _ _ _ a hq m fI jo=>
   obtain rfl:=List.length_eq_zero_iff.1 ak;exact .fe z a 0
  | ga _ _ _ _ _ _ cap' a ak ah au=>
   exfalso;rcases au with au | ⟨n,hq,au,aL⟩
   ·rw[af] at au; cases au
   ·rw[af] at au; cases au; omega
  | ar _ _ _ _ _ _ cap' hq m fI hm fC aq ah=>
   rw[af] at fI; cases fI;have hblk:=rel.blk b m hm;rw[af] at hblk;obtain⟨cp,dt,arr,t,fH,hw,az,aA,lO⟩:=hblk;have cM:len<=cap':=by rcases ah with ⟨_,h⟩ | ⟨_,h,_⟩<;>omega
   have uP:Go.bJ.live (h.f b)=true:=by rw[af]; rfl
   have nd:R m.r:=rel.up _ (rel.base b m uP hm);have eU:¬ kS ad μ m.r:=by
    rintro⟨bf,ca,cN,bR,ob⟩;have:=rel.inj bf b ca m (k.live cN) uP bR hm ob;subst this;rw[br] at cN; cases cN
   subst ak;have p4:∀ i j,i<es.length->j<z->∃ c v,cs[off+(i*z+j)]? = some c/\arr[m.s+(off+(i*z+j))]? = some v/\v.oneCell'=true/\aO w R h μ c v:=by
    intro i j ax ai;have aL:off+(i*z+j)<cs.length:=by
     have:i*z+z<=es.length*z:=by rw[<-Nat.succ_mul]; exact Nat.mul_le_mul_right _ ax
     omega
    obtain⟨v,h1,ad,aj⟩:=lO _ _ (List.getElem?_eq_getElem aL);exact⟨_,v,List.getElem?_eq_getElem aL,h1,ad,aj⟩
   refine .b0 z es m.r (m.s+off) cap' (fun i j=>(arr[m.s+(off+(i*z+j))]?).getD undef) cM av (fun i j ax ai=>?_) (fun i e ap j c' ai=>?_)
   ·obtain⟨c,v,h1,ad,aj,aC⟩:=p4 i j ax ai;refine⟨?_,?_,nd,eU⟩
    ·simp only[World.cell?,hw,ad,Option.getD_some,Option.isSome_none];rw[show m.s+off+(i*z+j)=m.s+(off+(i*z+j)) by omega,ad]; rfl
    ·rw[ad]; exact aj
   ·have ax:i<es.length:=(List.getElem?_eq_some_iff.1 ap).1;have nj:j<z:=by rw[<-av e (List.mem_of_getElem? ap)]; exact (List.getElem?_eq_some_iff.1 ai).1
    obtain⟨c,v,h1,ad,aj,aC⟩:=p4 i j ax nj;simp only[ad,Option.getD_some];exact aJ i j e c c' ap ai h1 aC
theorem pM.rel {R:Nat->Prop} {B:Nat} {w:World} {h ad:aN} {μ:cu} (rel:bV R B w h μ) (k:pM h ad) :bV R B w ad μ:=by
 refine⟨?_,?_,?_,?_,rel.up,rel.size,?_⟩
 ·intro b m hm;have af:=rel.blk b m hm;rcases k.blk b with ap | ⟨sz,cs,ah,br | ⟨hq,Bj,bc,ao⟩⟩
  ·rw[ap]; exact af.ext (k.ext w μ).toExt0 rfl
  ·rw[br]; trivial
  ·rw[Bj];rw[ah] at af;obtain⟨h1,gD,arr,t,fH,aj,aC,aZ,bx⟩:=af;refine⟨by omega,gD,arr,t,fH,aj,aC,aZ,fun j dd ai=>?_⟩;have aL:j<cs.length:=by rw[<-bc]; exact (List.getElem?_eq_some_iff.1 ai).1
   obtain⟨v,a7,bl,a3⟩:=bx j cs[j] (List.getElem?_eq_getElem aL);exact⟨v,a7,bl,k.pE rel (ao j cs[j] dd (List.getElem?_eq_getElem aL) ai) a3⟩
 ·intro b bf m ca ak cN hm bR ay;exact rel.inj b bf m ca (k.live ak) (k.live cN) hm bR ay
 ·intro b m ak hm;exact rel.base b m (k.live ak) hm
 ·intro b af;rw[k.n] at af;rcases k.blk b with ap | ⟨sz,cs,ah,_⟩
  ·rw[ap]; exact rel.fresh b af
  ·rw[rel.fresh b af] at ah; cases ah
 ·intro b af;rw[k.n] at af;exact rel.kp b af
theorem ahX (br:MS P G) {j:J} (ai:c6 P G j) :v2 P G j:=by
 induction ai with
 | skip N ae h=>exact⟨0,fun R B w μ a Q rel g s k=>wp_skip (k a w μ (.refl _ _ _) rel s)⟩
 | label l N ae h=>exact⟨0,fun R B w μ a Q rel g s k=>wp_label (k a w μ (.refl _ _ _) rel s)⟩
 | ret N ae h=>exact⟨0,fun R B w μ a Q rel g s k=>wp_ret (k a w μ (.refl _ _ _) rel s)⟩
 | exit id N ae h=>exact⟨0,fun R B w μ a Q rel g s k=>wp_exit (k a w μ (.refl _ _ _) rel s)⟩
 | U0 h1 ad dO ln=>
  obtain⟨kq,dO⟩:=dO;obtain⟨pn,ln⟩:=ln;exact⟨0,fun R B w μ a Q rel g s k=>wp_seq (oI.wp (dO R B w μ a _ rel g s fun a7 bS gK aR dS cQ=>
   oI.wp (ln R B bS gK a7 Q dS (g.ext aR) cQ fun bl w2 qR bI fc g8=>k bl w2 qR (aR.trans bI) fc g8)))⟩
 | L1 h1 ap dO=>
  obtain⟨kq,dO⟩:=dO;exact⟨0,fun R B w μ a Q rel g s k=>wp_seq (oI.wp (dO R B w μ a _ rel g s fun a7 bS gK aR dS cQ=>Vr ap (k a7 bS gK aR dS cQ)))⟩
 | cond ah h1 dO=>
  rename_i c x y N ae h b e bP h';obtain⟨kq,dO⟩:=dO;refine⟨0,fun R B w μ a Q rel g s k=>?_⟩;have ao:=s.cH g c;rw[ah] at ao;cases E6:a.eval c<;>rw[E6] at ao<;>try (cases ao; done)
  cases ao;exact wp_cond E6 (oI.wp (dO R B w μ a Q rel g s k))
 | DL h1 ap dO=>
  obtain⟨kq,dO⟩:=dO;exact⟨0,fun R B w μ a Q rel g s k=>wp_block (oI.wp (dO R B w μ a _ rel g s fun a7 bS gK aR dS cQ=>Xp ap (k a7 bS gK aR dS cQ)))⟩
 | NJ h1 dO=>
  obtain⟨kq,dO⟩:=dO;exact⟨0,fun R B w μ a Q rel g s k=>wp_block (oI.wp (dO R B w μ a _ rel g s fun a7 bS gK aR dS cQ=>by
   simp only[qS.out,Exit.inBlock,if_true];exact k a7 bS gK aR dS cQ))⟩
 | zE h1 ad dO ln=>
  obtain⟨kq,dO⟩:=dO;obtain⟨pn,ln⟩:=ln;exact⟨pn+1,fun R B w μ a Q rel g s k=>oI.wp (dO R B w μ a _ rel g s fun a7 bS gK aR dS cQ=>
   ln R B bS gK a7 Q dS (g.ext aR) cQ fun bl w2 qR bI fc g8=>k bl w2 qR (aR.trans bI) fc g8)⟩
 | KN h1 ap dO=>
  obtain⟨kq,dO⟩:=dO;exact⟨1,fun R B w μ a Q rel g s k=>oI.wp (dO R B w μ a _ rel g s fun a7 bS gK aR dS cQ=>Vr ap (k a7 bS gK aR dS cQ))⟩
 | scope h1 dO=>
  obtain⟨kq,dO⟩:=dO;rename_i c N ae h e bP h';refine⟨0,fun R B w μ a Q rel g s k=>wp_scope_straight (oI.wp (dO R B w μ a _ rel g s fun a7 bS gK aR dS cQ=>?_))⟩;have:=k a7 bS gK aR dS cQ;cases e<;>exact this
 | region h1 dO=>exact⟨0,fun R B w μ a Q rel g s k=>wp_region_list (dO R B w μ a Q rel g s k)⟩
 | draw pre val W cls m al fg qV gg cells gW o7 aE hm FC wM BD mJ jm uW Fx Fp s4 EU EV o8 o4 aJ=>
  exact br pre val W cls m al fg qV gg cells gW o7 aE hm FC wM BD mJ jm uW Fx Fp s4 EU EV o8 aJ
 | TH=>exact fun R B w μ a Q rel g s k=>k a w μ (.refl _ _ _) rel s
 | TJ hw y0 h1 dO=>
  intro R B w μ a Q rel g s k;have uW:=MH (w:=w) (R:=R) (h:=_) (μ:=μ) (tmps:=a.tmps) hw (fun d _=>s.val d);unfold wpList;rw[if_neg (by rw[uW]; simp)];exact dO R B w μ _ Q rel g (s.put y0 Mx) k
 | TI hw y0 h1 ad dO ln=>
  intro R B w μ a Q rel g s k;have uW:=MH (w:=w) (R:=R) (h:=_) (μ:=μ) (tmps:=a.tmps) hw (fun d _=>s.val d);unfold wpList;rw[if_pos uW];refine .inl (dO R B w μ a _ _ Q rfl rel g (s.cH g) fun a8 bS gK aR dS ao=>?_);exact ln R B bS gK _ Q dS (g.ext aR) ((s.ext aR).put y0 ao) fun bl w2 qR bI fc g8=>k bl w2 qR (aR.trans bI) fc g8
 | Ga al=>
  intro R B w μ a o K Q aq rel g cK k;subst aq;have:=Ma (P:=P) rel cK o al;obtain⟨v,w',μ',ay,e,r,ao⟩:=this;unfold Oper.wp;rcases ay with ay | ⟨ay,rfl⟩
  ·rw[ay]; exact k v w' μ' e r ao
  ·rw[ay]; exact k undef w' μ' e r ao
 | zR al h1 dO=>
  intro R B w μ a o K Q aq rel g cK k;subst aq;obtain⟨rfl,vs,ay,ak,ao⟩:=Ma (P:=P) rel cK o al;unfold Oper.wp;rw[ay];refine (dO R B w μ vs rel g ak ao).mono ?_;rintro e w' ⟨v,μ',rfl,aR,dS,lV⟩;exact k v w' μ' aR dS lV
 | G1 h1 jX ao dO=>
  intro R B w μ a o K Q aq rel g cK k;refine dO R B w μ a o K Q aq rel g cK fun a8 w' μ' e r s9=>?_
  exact k a8 w' μ' (e.trans (jX.ext w' μ')) (jX.rel r) (jX.pE r ao s9)
 | inline aA af h1 ap ay dO=>
  rename_i f fn c args h e bP h' r;obtain⟨kq,dO⟩:=dO;intro R B w μ vs rel g ak ao;refine calls_of_wp aA af (oI.wp (dO R B w μ _ _ rel g ⟨by simp[ak],rfl,fun t=>?_⟩ fun a7 bS gK aR dS cQ=>?_))
  ·by_cases aP:t<args.length
   ·have az:args.getD t gX=args[t] :=by simp[List.getD,aP]
    have lW:(vs++Array.replicate (fn.ntmps - vs.size) undef).getD t undef=vs[t] :=by
     rw[Array.getD_eq_getD_getElem?,Array.getElem?_append_left (by omega)];simp[show t<vs.size by omega]
    rw[az,lW];exact ao t _ _ (by simp[aP]) (by simp)
   ·have az:args.getD t gX=gX:=by simp[List.getD,List.getElem?_eq_none (by omega:args.length<=t)]
    have lW:(vs++Array.replicate (fn.ntmps - vs.size) undef).getD t undef=undef:=by
     rw[Array.getD_eq_getD_getElem?,Array.getElem?_append_right (by omega),Array.getElem?_replicate];split<;>rfl
    rw[az,lW];exact Mx
  ·obtain⟨v,bL,bz⟩:=agZ dS cQ ay;have Fs:cQ.defers=cQ.defers:=rfl;rcases ap with rfl | rfl
   ·exact⟨cQ.defers,v,bL,v,gK,rfl,aR,dS,bz⟩
   ·exact⟨cQ.defers,v,bL,v,gK,rfl,aR,dS,bz⟩
 | pure aB ah=>exact af2 aB ah
 | Lo aB ak ay aA=>exact af0 aB ak ay aA
 | ext al=>exact al
 | Lp aB ak ay=>exact af1 aB ak ay
end

end Go.bJ

/-
  The canonical machine, part Im: maps, strings rune by rune, bytes compared.
-/
import Derived.Test.YtboebmmklamaeaaGreatDoorWb
import Derived.Stop.SameAnswer
import Derived.Orders
import Derived.Still
import Derived.Scope
import Derived.LoopN
set_option linter.unusedVariables false
set_option linter.unusedSimpArgs false
set_option linter.unnecessarySimpa false
namespace Go.cj
open Go
section
variable {P:Program} {w:World} {R:Nat->Prop} {B:Nat} {h:aR} {μ:cD}
def sy:ae->Value
 | .bool b=>.bool b
 | .int k n=>.int k n
 | .str s=>.string ⟨s.toArray⟩
 | _=>.tuple #[]
def vS:ae->Value
 | .aV cs=>.agg (cs.map sy).toArray
 | c=>sy c
theorem amj {c:ae} {v:Value} (aG:qP c=true) (ax:aU w R h μ c v) :v=sy c:=by
 cases c<;>simp[qP] at aG
 ·cases ax; rfl
 ·cases ax; rfl
 ·cases ax;rename_i bs;show Value.string bs=.string ⟨bs.data.toList.toArray⟩;congr 1
theorem C3 {t:TypeId} {c:ae} (aJ:jI P t c=true) :∃ cs m,c=.aV cs/\pf P 8 t=true/\dC P t=some true/\cr P t=some m/\cs.length=m/\∀ x∈cs,qP x=true:=by
 unfold jI at aJ;split at aJ
 ·rename_i cs;simp only[Bool.and_eq_true] at aJ;obtain⟨⟨h1,ag⟩,aq⟩:=aJ;split at ag
  ·rename_i m aI au;exact⟨cs,m,rfl,h1,aI,au,Nat.eq_of_beq_eq_true ag,fun x ak=>List.all_eq_true.1 aq x ak⟩
  ·cases ag
 ·cases aJ
theorem JO {t:TypeId} {c:ae} {v:Value} (aJ:jI P t c=true) (ax:aU w R h μ c v) :v=vS c:=by
 obtain⟨cs,m,rfl,_,_,_,_,hint⟩:=C3 aJ;cases ax with
 | aV _ vs ar h1 ax=>
  show Value.agg vs=.agg (cs.map sy).toArray;congr 1;apply Array.ext_getElem?;intro j;have ak:(cs.map sy).toArray[j]? = (cs[j]?).map sy:=by simp
  rw[ak];cases am:cs[j]? with
  | none=>simp only[Option.map_none]; rw[Array.getElem?_eq_none]; rw[ar]; exact List.getElem?_eq_none_iff.1 am
  | some c=>
   have aS:=(List.getElem?_eq_some_iff.1 am).1;have kW:=ax j c vs[j] am (Array.getElem?_eq_getElem (by omega));rw[Array.getElem?_eq_getElem (by omega)];simp only[Option.map_some,Option.some.injEq];exact amj (hint c (List.mem_of_getElem? am)) kW
theorem aeg (a:ByteArray) :(a == a)=true:=by
 show (a.data == a.data)=true;exact beq_self_eq_true _
theorem aoc {c:ae} (n:Nat) (al:qP c=true) :Instr.sameBits n (sy c) (sy c)=true:=by
 cases c<;>simp[qP] at al<;>unfold sy Instr.sameBits
 ·simp
 ·simp
 ·exact aeg _
theorem aob {t:TypeId} {c:ae} (n:Nat) (aJ:jI P t c=true) :Instr.sameBits (n+1) (vS c) (vS c)=true:=by
 obtain⟨cs,m,rfl,_,_,_,_,hint⟩:=C3 aJ;unfold vS Instr.sameBits;simp only[beq_self_eq_true,Bool.true_and,List.all_eq_true];rintro⟨x,y⟩ m1;rw[List.mem_iff_getElem?] at m1;obtain⟨j,am⟩:=m1;rw[List.getElem?_zip_eq_some] at am;obtain⟨h1,ag⟩:=am;rw[h1] at ag; cases ag;simp only[List.getElem?_map,Option.map_eq_some_iff] at h1;obtain⟨c,al,rfl⟩:=h1;exact aoc n (hint c (List.mem_of_getElem? al))
theorem an6 {t:TypeId} {c:ae} (aJ:jI P t c=true) :(Instr.keyThatStays (vS c) (vS c)).run P w=.ok (vS c) w:=by
 unfold Instr.keyThatStays;rw[if_pos (aob 9999 aJ)];simp
theorem HA {α:Type} {f:α->PUnit->Sem (ForInStep PUnit)}:∀ (l:List α),(∀ x∈l,(f x ⟨⟩).run P w=.ok (.yield ⟨⟩) w)->(forIn l ⟨⟩ f).run P w=.ok ⟨⟩ w
 | [],_=>by simp
 | x::l,aJ=>by
  rw[List.forIn_cons];simp only[Sem.run_bind,aJ x (by simp),Result.andThen_ok];exact HA l (fun y aP=>aJ y (by simp[aP]))
theorem M8 (em:Bool) :∀ (d n:Nat) (t:TypeId) (c:ae) (v:Value),d<=n->pf P d t=true->aU w R h μ c v->(dC P t=some true->∃ cs m,c=.aV cs/\cr P t=some m/\cs.length=m)->
  (Instr.checkKey em n t v).run P w=.ok () w
 | 0,_,_,_,_,_,aF,_,_=>by simp[pf] at aF
 | d+1,0,_,_,_,aH,_,_,_=>by omega
 | d+1,n+1,t,c,v,aH,aF,ax,aI=>by
  unfold pf at aF;split at aF
  ·rename_i aL; cases v<;>simp[Instr.checkKey,cq aL]
  ·rename_i aL; cases v<;>simp[Instr.checkKey,cq aL]
  ·rename_i aL; cases v<;>simp[Instr.checkKey,cq aL]
  ·rename_i len e m aL hm;have H5:dC P t=some true:=by unfold dC; rw[aL]; rfl
   obtain⟨cs,ck,rfl,b1,ar⟩:=aI H5;rw[hm] at b1; cases b1;simp only[Bool.and_eq_true] at aF;obtain⟨oZ,jF⟩:=aF;split at jF
   ·rename_i z a aC H8;simp only[Bool.and_eq_true] at jF;have dO:=Nat.le_of_ble_eq_true jF.1;have o8:=Nat.le_of_ble_eq_true jF.2;obtain⟨vs,rfl,aD⟩:=sK ax;unfold Instr.checkKey;simp only[Sem.run_bind,cq aL,Result.andThen_ok];rw[Std.Legacy.Range.forIn_eq_forIn_range'];rw[HA]
    ·simp
    intro i aA;have d5:i<len:=by simp[Std.Legacy.Range.size] at aA; omega
    have aii:i*z+z<=cs.length:=by
     have:i*z+z<=len*z:=by rw[<-Nat.succ_mul]; exact Nat.mul_le_mul_right _ d5
     omega
    have aG:∃ c,gQ P e cs (i*z)=some c/\(dC P e=some true->∃ cs' ck,c=.aV cs'/\cr P e=some ck/\cs'.length=ck) :=by
     unfold gQ;rw[H8,aC];cases a with
     | true=>exact⟨_,by simp only; rw[if_pos aii],fun _=>⟨_,z,rfl,rfl,by simp; omega⟩⟩
     | false=>exact⟨cs[i*z]'(by omega),by simp only; exact List.getElem?_eq_getElem (by omega),fun h=>by cases h⟩
    obtain⟨c,al,Ib⟩:=aG;obtain⟨u,aq,aK⟩:=tT (P:=P) al aD;simp only[Sem.run_bind,e5 aC,Result.andThen_ok,aq w];rw[M8 em d n e c u (by omega) oZ aK Ib];simp
   ·cases jF
  ·rename_i fs m aL hm;have H5:dC P t=some true:=by unfold dC; rw[aL]; rfl
   obtain⟨cs,ck,rfl,b1,ar⟩:=aI H5;rw[hm] at b1; cases b1;obtain⟨vs,rfl,aD⟩:=sK ax;unfold Instr.checkKey;simp only[Sem.run_bind,cq aL,Result.andThen_ok];rw[<-Array.forIn_toList,HA]
   ·simp
   intro f aJ;have tn:=List.all_eq_true.1 aF f aJ;simp only[Bool.and_eq_true] at tn;obtain⟨oZ,jF⟩:=tn;split at jF
   ·rename_i z a aC H8;simp only[Bool.and_eq_true] at jF;have dO:=Nat.le_of_ble_eq_true jF.1;have o8:=Nat.le_of_ble_eq_true jF.2;have aG:∃ c,gQ P f.type cs f.offset=some c/\(dC P f.type=some true->∃ cs' ck,c=.aV cs'/\cr P f.type=some ck/\cs'.length=ck) :=by
     unfold gQ;rw[H8,aC];cases a with
     | true=>exact⟨_,by simp only; rw[if_pos (by omega)],fun _=>⟨_,z,rfl,rfl,by simp; omega⟩⟩
     | false=>exact⟨cs[f.offset]'(by omega),by simp only; exact List.getElem?_eq_getElem (by omega),fun h=>by cases h⟩
    obtain⟨c,al,Ib⟩:=aG;obtain⟨u,aq,aK⟩:=tT (P:=P) al aD;have:=M8 em d n f.type c u (by omega) oZ aK Ib;by_cases UI:f.name= "_"
    ·simp[UI]
    ·simp[UI,aq w,this]
   ·cases jF
  ·cases aF
theorem abn {t:TypeId} {c:ae} {v:Value} (em:Bool) (aJ:jI P t c=true) (ax:aU w R h μ c v) :(Instr.checkKey em 10000 t v).run P w=.ok () w:=by
 obtain⟨cs,m,rfl,h1,ag,aq,aK,_⟩:=C3 aJ;exact M8 em 8 10000 t _ v (by omega) h1 ax (fun _=>⟨cs,m,rfl,aq,aK⟩)
def q9 (w:World) (R:Nat->Prop) (h:aR) (μ:cD) (es:List (ae × ae × Nat)) (de:List MapEntry) :Prop:=
 de.length=es.length/\∀ (j:Nat) (k v:ae) (b:Nat),es[j]? = some (k,v,b)->∃ x:MapEntry,de[j]? = some x/\aU w R h μ k x.key/\aU w R h μ v x.val/\x.born=b
def N2 (w:World) (R:Nat->Prop) (h:aR) (μ:cD) (k:ae) (de:List MapEntry) (i:Nat) :Option (Nat × ae)->Option (Nat × Value)->Prop
 | none,r=>r=none
 | some (j,v),r=>∃ nj,r=some (j,nj)/\aU w R h μ v nj/\i<=j/\∃ x,de[j - i]? = some x/\x.val=nj/\aU w R h μ k x.key
theorem afQ {es:List (ae × ae × Nat)} {e:ae × ae × Nat} {x:MapEntry} {de:List MapEntry} (aD:q9 w R h μ (e::es) (x::de)) :q9 w R h μ es de:=
 ⟨by have:=aD.1; simp at this; exact this,fun j k v b am=>aD.2 (j+1) k v b (by simpa using am)⟩
theorem afP {es:List (ae × ae × Nat)} {k v:ae} {b:Nat} {x:MapEntry} {de:List MapEntry} (aD:q9 w R h μ ((k,v,b) ::es) (x::de)) :aU w R h μ k x.key/\aU w R h μ v x.val/\x.born=b:=by
 obtain⟨y,h1,ag⟩:=aD.2 0 k v b rfl;simp at h1; subst h1; exact ag
theorem SD {cK:TypeId} {k:ae} {gP:Value} (aF:aU w R h μ k gP) :∀ (es:List (ae × ae × Nat)) (de:List MapEntry) (i:Nat) (r:Option (Nat × ae)),q9 w R h μ es de->ia P cK k es i=some r->
  ∃ co,(Instr.findAsking cK gP de i).run P w=.ok co w/\N2 w R h μ k de i r co
 | [],de,i,r,aD,aJ=>by
  have:de=[] :=List.length_eq_zero_iff.1 aD.1;subst this;simp only[ia,Option.some.injEq] at aJ; subst aJ;exact⟨none,by simp[Instr.findAsking],rfl⟩
 | (k',v,b) ::es,[],i,r,aD,aJ=>by have:=aD.1; simp at this
 | (k',v,b) ::es,x::de,i,r,aD,aJ=>by
  obtain⟨h1,ag,aq⟩:=afP aD;simp only[ia] at aJ;split at aJ
  ·cases aJ
  rename_i dF;split at aJ
  ·rename_i heq;split at aJ
   ·rename_i ahr;simp only[Option.some.injEq] at aJ; subst aJ;have g3:=Hq (P:=P) 10000 cK k k' true gP x.key heq aF h1;refine⟨some (i,x.val),?_,x.val,rfl,ag,Nat.le_refl _,x,by simp,rfl,?_⟩
    ·simp only[Instr.findAsking,Op.equal,Op.maxDepth,Sem.run_bind];rw[g3]; simp
    ·rw[ae.beq_eq ahr]; exact h1
   ·cases aJ
  ·rename_i heq;have g3:=Hq (P:=P) 10000 cK k k' false gP x.key heq aF h1;obtain⟨co,aK,bg⟩:=SD aF es de (i+1) r (afQ aD) aJ;refine⟨co,?_,?_⟩
   ·simp only[Instr.findAsking,Op.equal,Op.maxDepth,Sem.run_bind];rw[g3]; simpa using aK
   ·cases r with
    | none=>exact bg
    | some r6=>
     obtain⟨nj,bL,et,gd,y,fe,kk,uS⟩:=bg;exact⟨nj,bL,et,by omega,y,by rw[show r6.1 - i=(r6.1 - (i+1))+1 by omega]; simpa using fe,kk,uS⟩
  ·cases aJ
theorem abp {cK:TypeId} {k:ae} {gP:Value} (aF:aU w R h μ k gP) (aJ:jI P cK k=true) {es:List (ae × ae × Nat)} {de:List MapEntry} {r:Option (Nat × ae)} (aD:q9 w R h μ es de) (Ik:ia P cK k es 0=some r) :
  ∃ co,(Instr.findKey cK gP de).run P w=.ok co w/\N2 w R h μ k de 0 r co:=by
 obtain⟨co,h1,ag⟩:=SD aF es de 0 r aD Ik;refine⟨co,?_,ag⟩;obtain⟨cs,m,rfl,aq,aK,_⟩:=C3 aJ;unfold dC at aK;cases aL:P.underlying cK with
 | none=>rw[aL] at aK; cases aK
 | some d=>
  rw[aL] at aK;unfold Instr.findKey;simp only[Sem.run_bind,cq aL,Result.andThen_ok];cases de with
  | nil=>simpa [Instr.findNow,Instr.findAsking] using h1
  | cons x de=>
   have aH:Instr.findNow d gP (x::de) 0=none:=by
    cases d<;>simp at aK<;>simp[Instr.findNow,Instr.sameNow]
   rw[aH];exact h1
theorem alq (rel:b6 R B w h μ) {m:ae} {ap:Value} {es:List (ae × ae × Nat)} (hm:mapOf h m=some es) (ax:aU w R h μ m ap) :
  (ap=.map none/\es=[])\/∃ b cf dX de,m=.mp b/\h.f b=.map es dX/\μ b=some cf/\ap=.map (some cf.r)/\w.heap[cf.r]? = some (.map de dX)/\q9 w R h μ es de.toList:=by
 cases m<;>simp[mapOf] at hm
 ·subst hm; cases ax; exact .inl ⟨rfl,rfl⟩
 ·rename_i b;cases ax with
  | mp _ cf aj hp=>
   cases al:h.f b<;>rw[al] at hm<;>simp at hm;rename_i ar3 dX;subst hm;have f0:=rel.blk b cf hp;rw[al] at f0;obtain⟨de,h1,ag,aq⟩:=f0;refine .inr ⟨b,cf,dX,de,rfl,al,hp,rfl,h1,by simpa using ag,fun j k v bu am=>?_⟩;obtain⟨x,aK,bg⟩:=aq j k v bu am;exact⟨x,by simpa using aK,bg⟩
theorem M9 {r:Nat} {es:Array MapEntry} {dX:Nat} (aj:w.heap[r]? = some (.map es dX)) :(getObj r).run P w=.ok (.map es dX) w:=by simp[getObj,Sem.run,aj]
theorem abq {r:Nat} {s:ByteArray} {pos:Nat} (aj:w.heap[r]? = some (.stringIter s pos)) :(getObj r).run P w=.ok (.stringIter s pos) w:=by simp[getObj,Sem.run,aj]
theorem acL {t:TypeId} {z:ae} (aC:v1 P t=some z) :∃ v,(zeroValue t).run P w=.ok v w/\aU w R h μ z v:=by
 unfold v1 at aC;cases aA:P.info? t with
 | none=>rw[aA] at aC; cases aC
 | some i=>
  rw[aA] at aC;simp only[Option.bind_some] at aC;cases ax:i.zero with
  | none=>rw[ax] at aC; cases aC
  | some v=>
   rw[ax] at aC;simp only[Option.map_some,Option.some.injEq] at aC; subst aC;exact⟨v,abs aA ax,.tS v⟩
theorem aU.acd {a b:ae} {g8 gq:Value} (aI:aU w R h μ a g8) (aj:aU w R h μ b gq) :aU w R h μ (.bP [a,b]) (.tuple #[g8,gq]) :=by
 refine .bP _ _ rfl fun j c v al ax=>?_
 rcases j with _ | _ | j
 ·simp at al ax; subst al ax; exact aI
 ·simp at al ax; subst al ax; exact aj
 ·simp at al
theorem ali (rel:b6 R B w h μ) {t:TypeId} {m k c:ae} {ap gP:Value} {ok:Bool} (ar:Db P h t m k ok=some c) (hm:aU w R h μ m ap) (aF:aU w R h μ k gP) :
  ∃ v,(Instr.lookup t ap gP ok).run P w=.ok v w/\aU w R h μ c v:=by
 unfold Db at ar;split at ar
 ·rename_i cK kK es aL zs;split at ar
  ·cases ar
  ·rename_i dF;have afr:∀ de:List MapEntry,q9 w R h μ es de->∃ co,(Instr.findKey cK gP de).run P w=.ok co w ∧
     ((∃ i v,co=some (i,v)/\∃ rs,aU w R h μ rs v/\c=if ok then .bP [rs,.bool true] else rs)\/(co=none/\∃ z,v1 P kK=some z/\c=if ok then .bP [z,.bool false] else z)) :=by
    intro de aD;cases jT:ia P cK k es 0 with
    | none=>rw[jT] at ar; cases ar
    | some r=>
     obtain⟨co,h1,ag⟩:=abp aF dF aD jT;rw[jT] at ar;refine⟨co,h1,?_⟩;cases r with
     | none=>
      cases ag;simp only at ar;cases aC:v1 P kK with
      | none=>rw[aC] at ar; cases ar
      | some z=>
       rw[aC] at ar;simp only[Option.map_some,Option.some.injEq] at ar;exact .inr ⟨rfl,z,rfl,ar.symm⟩
     | some r6=>
      obtain⟨nj,rfl,aK,_⟩:=ag;simp only[Option.some.injEq] at ar;exact .inl ⟨_,nj,rfl,_,aK,ar.symm⟩
   have fin:∀ (de:List MapEntry) (em:Bool),q9 w R h μ es de->∀ m:Sem Value,m.run P w=(((Instr.checkKey em 10000 cK gP).bind fun _=>(Instr.findKey cK gP de).bind fun r=>match r with
     | some (_,v)=>pure (if ok=true then .tuple #[v,.bool true] else v)
     | none=>(zeroValue kK).bind fun z=>pure (if ok=true then .tuple #[z,.bool false] else z)) :Sem Value).run P w->∃ v,m.run P w=.ok v w/\aU w R h μ c v:=by
    intro de em aD m hm;obtain⟨co,h1,ag⟩:=afr de aD;have Ca:∀ {α iq:Type} (a:Sem α) (f:α->Sem iq),a.bind f=a >>= f:=fun _ _=>rfl
    simp only[Ca,Sem.run_bind,abn em dF aF,Result.andThen_ok,h1] at hm;rcases ag with ⟨i,v,rfl,rs,aq,rfl⟩ | ⟨rfl,z,aq,rfl⟩
    ·simp only at hm;cases ok
     ·exact⟨v,by simpa using hm,aq⟩
     ·exact⟨.tuple #[v,.bool true],by simpa using hm,aU.acd aq (.bool _)⟩
    ·obtain⟨v,aK,bg⟩:=acL (w:=w) (R:=R) (h:=h) (μ:=μ) aq;simp only[Sem.run_bind,aK,Result.andThen_ok] at hm;cases ok
     ·exact⟨v,by simpa using hm,bg⟩
     ·exact⟨.tuple #[v,.bool false],by simpa using hm,aU.acd bg (.bool _)⟩
   have Ca:∀ {α iq:Type} (a:Sem α) (f:α->Sem iq),a.bind f=a >>= f:=fun _ _=>rfl
   rcases alq rel zs hm with ⟨rfl,rfl⟩ | ⟨b,cf,dX,de,rfl,aj,hp,rfl,iz,aD⟩
   ·refine fin [] true ⟨rfl,fun j k v b am=>by simp at am⟩ _ ?_;unfold Instr.lookup;simp only[Ca,Sem.run_bind,cq aL,Result.andThen_ok,Sem.run_pure];cases dU:(Instr.checkKey true 10000 cK gP).run P w with
    | halt a b=>simp[dU]
    | ok a b5=>
     simp[dU];cases ahY:(Instr.findKey cK gP []).run P b5 with
     | halt a b=>simp
     | ok r w2=>
      simp;cases r with
      | none=>cases (zeroValue kK).run P w2<;>simp
      | some x=>simp
   ·refine fin de.toList de.isEmpty aD _ ?_;unfold Instr.lookup;simp only[Ca,Sem.run_bind,cq aL,Result.andThen_ok,Sem.run_pure,M9 iz];cases dU:(Instr.checkKey de.isEmpty 10000 cK gP).run P w with
    | halt a b=>simp[dU]
    | ok a b5=>
     simp[dU];cases ahY:(Instr.findKey cK gP de.toList).run P b5 with
     | halt a b=>simp
     | ok r w2=>
      simp;cases r with
      | none=>cases (zeroValue kK).run P w2<;>simp
      | some x=>simp
 ·cases ar
theorem ak9 (rel:b6 R B w h μ) {t ty:TypeId} {x c:ae} {bG:Value} (al:vx P h t x=some c) (ak:aU w R h μ x bG) :∃ v,(Builtin.len_ #[t] ty #[bG]).run P w=.ok v w/\aU w R h μ c v:=by
 unfold vx at al;split at al
 ·rename_i cK kK b aL;split at al
  ·rename_i es dX aj;simp only[Option.some.injEq] at al; subst al;cases ak with
   | mp _ cf aF hp=>
    have f0:=rel.blk b cf hp;rw[aj] at f0;obtain⟨de,h1,ag,aq⟩:=f0;exact⟨.int .i64 de.size,by simp[Builtin.len_,cq aL,M9 h1,goInt],by rw[ag]; exact .int _ _⟩
  ·cases al
 ·cases al
theorem alo (rel:b6 R B w h μ) {t:TypeId} {r:Option Value} (aL:∃ k e,P.underlying t=some (.map k e)) (aD:∀ x,r=some x->∃ k n,x=.int k n) :∃ v w' μ',(Instr.makeMap t r).run P w=.ok v w'/\di w h μ w' (h.push (.map [] 0)) μ'/\b6 R B w' (h.push (.map [] 0)) μ'/\aU w' R (h.push (.map [] 0)) μ' (.mp h.n) v:=by
 have:=rel.X3 (w':=w.alloc (.map #[] 0)) (.map [] 0) (.map #[] 0) (k:=0) rfl rfl rfl rfl rfl ⟨#[],by show (w.heap.push _)[w.heap.size]? = _; simp,rfl,fun j k v b am=>by simp at am⟩;refine⟨.map (some w.heap.size),w.alloc (.map #[] 0),_,?_,this.1,this.2,?_⟩
 ·obtain⟨k,e,aL⟩:=aL;cases r with
  | none=>simp[Instr.makeMap,newObj,Sem.run]
  | some x=>
   obtain⟨k',n,rfl⟩:=aD x rfl;simp[Instr.makeMap,newObj,Sem.run,cq aL,Go.asInt,Go.asIntOf]
 ·exact .mp h.n ⟨w.heap.size,0,0⟩ (by simp[dH,ma]) (by simp)
theorem Xd (rel:b6 R B w h μ) {t:TypeId} {m k x:ae} {ap gP bG:Value} {h' : aR} (l6:vz P h t m k x=some h') (hm:aU w R h μ m ap) (aF:aU w R h μ k gP) (ak:aU w R h μ x bG) :
  ∃ w',(Instr.mapUpdate t ap gP bG).run P w=.ok () w'/\di w h μ w' h' μ/\b6 R B w' h' μ:=by
 unfold vz at l6;split at l6
 ·rename_i cK kK b aL;split at l6
  ·rename_i es dX aj;split at l6
   ·cases l6
   ·rename_i dF;cases hm with
    | mp _ cf qh hp=>
     have f0:=rel.blk b cf hp;rw[aj] at f0;obtain⟨de,h1,ag,aq⟩:=f0;have aS:cf.r<w.heap.size:=by
      rcases Nat.lt_or_ge cf.r w.heap.size with h | h
      ·exact h
      ·rw[Array.getElem?_eq_none h] at h1; cases h1
     have aD:q9 w R h μ es de.toList:=⟨by simpa using ag,fun j k v bu am=>by obtain⟨y,aK,bg⟩:=aq j k v bu am; exact⟨y,by simpa using aK,bg⟩⟩
     have ly:∀ o:Obj,(setObj cf.r o).run P w=.ok () { w with heap:=w.heap.setIfInBounds cf.r o }:=fun o=>by simp[setObj,Sem.run,h1]
     have w9:∀ (wz:List (ae × ae × Nat)) (wA:Array MapEntry) (yC:Nat),(∀ {w2:World} {ag:aR},Ext0 w h μ w2 ag μ->wA.size=wz.length/\∀ (j:Nat) (k v:ae) (b:Nat),wz[j]? = some (k,v,b)->∃ x:MapEntry,wA[j]? = some x/\aU w2 R ag μ k x.key/\aU w2 R ag μ v x.val/\x.born=b)->
       di w h μ { w with heap:=w.heap.setIfInBounds cf.r (.map wA yC) } (h.set b (.map wz yC)) μ/\b6 R B { w with heap:=w.heap.setIfInBounds cf.r (.map wA yC) } (h.set b (.map wz yC)) μ:=by
      intro wz wA yC bp;refine rel.X7 (k:=0) aj rfl rfl hp rfl rfl rfl (by simp) (fun k aF=>?_) (fun e=>?_)
      ·simp only; rw[Array.getElem?_setIfInBounds]; rw[if_neg (fun aQ=>aF aQ.symm)]
      ·obtain⟨q1,im⟩:=bp e;exact⟨wA,by simp only; rw[Array.getElem?_setIfInBounds]; simp[aS],q1,im⟩
     unfold Instr.mapUpdate;simp only[Sem.run_bind,cq aL,Result.andThen_ok,M9 h1,abn false dF aF];cases jT:ia P cK k es 0 with
     | none=>rw[jT] at l6; cases l6
     | some r=>
      rw[jT] at l6;obtain⟨co,aK,bg⟩:=abp aF dF aD jT;rw[aK];cases r with
      | none=>
       cases bg;simp only[Option.some.injEq] at l6; subst l6;have:=w9 (es++[(k,x,dX)]) (de.push { key:=gP,val:=bG,born:=dX }) (dX+1) (fun e=>⟨by simp[ag],fun j k' bc bu am=>?_⟩)
       ·exact⟨_,by simp only[Result.andThen_ok]; rw[ly],this⟩
       ·rw[Array.getElem?_push];by_cases eD:j<es.length
        ·rw[List.getElem?_append_left eD] at am;obtain⟨y,bL,et,gd,fe⟩:=aq j k' bc bu am;exact⟨y,by rw[if_neg (by omega)]; exact bL,et.ln e,gd.ln e,fe⟩
        ·rw[List.getElem?_append_right (by omega)] at am;have zl:j - es.length=0:=by
          rcases Nat.eq_zero_or_pos (j - es.length) with h | h
          ·exact h
          ·rw[List.getElem?_eq_none (by simp; omega)] at am; cases am
         rw[zl] at am;simp at am;obtain⟨rfl,rfl,rfl⟩:=am;exact⟨_,by rw[if_pos (by omega)],aF.ln e,ak.ln e,rfl⟩
      | some r6=>
       obtain⟨i,v⟩:=r6;obtain⟨nj,rfl,bL,_,y,et,gd,fe⟩:=bg;simp only[Option.some.injEq] at l6; subst l6;have y1:de[i]? = some y:=by simpa using et
       have a1:y.key=gP:=by rw[JO dF fe,JO dF aF]
       have tp:(Instr.keyThatStays (((de[i]?).map (·.key)).getD gP) gP).run P w=.ok gP w:=by
        rw[y1];simp only[Option.map_some,Option.getD_some,a1];rw[JO dF aF];exact an6 dF
       have:=w9 (es.modify i fun e=>(k,x,e.2.2)) (de.modify i fun e=>{ e with key:=gP,val:=bG }) dX (fun e=>⟨by simp[ag],fun j k' bc bu am=>?_⟩)
       ·refine⟨_,?_,this⟩;simp only[Result.andThen_ok,Sem.run_bind,tp];rw[ly]
       ·rw[List.getElem?_modify] at am;rw[Array.getElem?_modify];cases lu:es[j]? with
        | none=>rw[lu] at am; simp at am
        | some gL=>
         obtain⟨hY,v0,gb⟩:=gL;rw[lu] at am;obtain⟨acI,kk,uS,HN,Te⟩:=aq j hY v0 gb lu;rw[kk];by_cases iA:i=j
         ·simp[iA] at am;obtain⟨rfl,rfl,rfl⟩:=am;exact⟨{ acI with key:=gP,val:=bG },by simp[iA],aF.ln e,ak.ln e,Te⟩
         ·simp[iA] at am;obtain⟨rfl,rfl,rfl⟩:=am;exact⟨acI,by simp[iA],uS.ln e,HN.ln e,Te⟩
  ·cases l6
 ·cases l6
theorem anz (rel:b6 R B w h μ) {t:TypeId} {x c:ae} {bG:Value} {h' : aR} (aD:DD P h t x=some (c,h')) (ak:aU w R h μ x bG) :
  ∃ v w' μ',(Instr.range t bG).run P w=.ok v w'/\di w h μ w' h' μ'/\b6 R B w' h' μ'/\aU w' R h' μ' c v:=by
 unfold DD at aD;split at aD
 ·rename_i s aL;simp only[Option.some.injEq,Prod.mk.injEq] at aD;obtain⟨rfl,rfl⟩:=aD;cases ak;rename_i bs;have:=rel.X3 (w':=w.alloc (.stringIter bs 0)) (.iter bs.data.toList 0) (.stringIter bs 0) (k:=1) rfl rfl rfl rfl rfl ⟨bs,rfl,by show (w.heap.push _)[w.heap.size]? = _; simp⟩;refine⟨.pointer (some ⟨w.heap.size,0,none⟩),w.alloc (.stringIter bs 0),_,?_,this.1,this.2,?_⟩
  ·simp[Instr.range,cq aL,newObj,Sem.run]
  ·exact .it h.n ⟨w.heap.size,0,0⟩ (by simp[dH,ma]) (by simp)
 ·cases aD
theorem alz (rel:b6 R B w h μ) {x c:ae} {bG:Value} {h' : aR} {ty:TypeId} (aD:xy h x=some (c,h')) (ak:aU w R h μ x bG) :
  ∃ v w',(Instr.next bG true ty).run P w=.ok v w'/\di w h μ w' h' μ/\b6 R B w' h' μ/\aU w' R h' μ c v:=by
 unfold xy at aD;split at aD
 ·rename_i b;split at aD
  ·rename_i s pos aj;cases ak with
   | it _ cf qh hp=>
    have f0:=rel.blk b cf hp;rw[aj] at f0;obtain⟨bs,rfl,h1⟩:=f0;have aS:cf.r<w.heap.size:=by
     rcases Nat.lt_or_ge cf.r w.heap.size with h | h
     ·exact h
     ·rw[Array.getElem?_eq_none h] at h1; cases h1
    have nO:(⟨bs.data.toList.toArray⟩:ByteArray)=bs:=by cases bs; simp
    have gE:bs.data.toList.length=bs.size:=by rw[Array.length_toList]; rfl
    rw[nO] at aD;split at aD
    ·rename_i mS;have aG:pos<bs.size:=by rw[<-gE]; rw[Nat.blt_eq] at mS; exact mS
     simp only[Option.some.injEq,Prod.mk.injEq] at aD;obtain⟨rfl,rfl⟩:=aD;have:=rel.X7 (w':={ w with heap:=w.heap.setIfInBounds cf.r (.stringIter bs (pos+(Utf8.decode bs pos).2)) }) (k:=1) (c':=.iter bs.data.toList (pos+(Utf8.decode bs pos).2)) aj rfl rfl hp rfl rfl rfl (by simp)
      (fun k aF=>by simp only; rw[Array.getElem?_setIfInBounds]; rw[if_neg (fun aQ=>aF aQ.symm)]) (fun e=>⟨bs,rfl,by simp only; rw[Array.getElem?_setIfInBounds]; simp[aS]⟩)
     refine⟨.tuple #[.bool true,.int .i64 pos,.int .i32 (Utf8.decode bs pos).1],_,?_,this.1,this.2,?_⟩
     ·simp only[Instr.next,Sem.run_bind,abq h1,Result.andThen_ok,if_pos aG];simp[setObj,Sem.run,h1,goInt]
     ·refine .bP _ _ rfl fun j c v al ax=>?_
      rcases j with _ | _ | _ | j
      ·simp at al ax; subst al ax; exact .bool _
      ·simp at al ax; subst al ax; exact .int _ _
      ·simp at al ax; subst al ax; exact .int _ _
      ·simp at al
    ·rename_i mS;have aG:¬ pos<bs.size:=by
      rw[<-gE]; intro aQ;rw[<-Nat.blt_eq] at aQ; rw[aQ] at mS; cases mS
     simp only[Option.some.injEq,Prod.mk.injEq] at aD;obtain⟨rfl,rfl⟩:=aD;refine⟨.tuple #[.bool false],w,?_,.refl _ _ _,rel,?_⟩
     ·simp only[Instr.next,Sem.run_bind,abq h1,Result.andThen_ok,if_neg aG];simp
     ·refine .bP _ _ rfl fun j c v al ax=>?_
      rcases j with _ | j
      ·simp at al ax; subst al ax; exact .bool _
      ·simp at al
  ·cases aD
 ·cases aD
theorem abo {blk:Nat}:∀ (n:Nat) (o:Nat) (ns:List Int) (acc:ByteArray),ns.length=n->(∀ j v,(ns.map (Value.int .u8))[j]? = some v->(load (⟨blk,o+j,none⟩:Addr)).run P w=.ok v w)->
  ∃ bs,(Extern.Bytes.loadBytes ⟨blk,o,none⟩ n acc).run P w=.ok bs w/\bs.data.toList=acc.data.toList++ns.map fun n=>UInt8.ofNat n.toNat
 | 0,o,ns,acc,ar,_=>⟨acc,by simp[Extern.Bytes.loadBytes],by rw[List.length_eq_zero_iff.1 ar]; simp⟩
 | n+1,o,[],acc,ar,_=>by simp at ar
 | n+1,o,x::ns,acc,ar,h=>by
  have aO:=h 0 _ rfl;obtain⟨bs,h1,ag⟩:=abo n (o+1) ns (acc.push (UInt8.ofNat x.toNat)) (by simpa using ar) (fun j v am=>by
   have:=h (j+1) v (by simpa using am);rw[show o+(j+1)=o+1+j by omega] at this;exact this)
  refine⟨bs,?_,?_⟩
  ·unfold Extern.Bytes.loadBytes;rw[Nat.add_zero] at aO;simp only[Sem.run_bind,aO,Result.andThen_ok,Addr.kH];exact h1
  ·rw[ag]; simp
theorem O1 (rel:b6 R B w h μ) {x:ae} {bG:Value} {l:List UInt8} (aj:pU h x=some l) (ak:aU w R h μ x bG) :∃ bs,(Extern.Bytes.bytesOf bG).run P w=.ok bs w/\bs.data.toList=l:=by
 unfold pU at aj;split at aj
 ·simp only[Option.some.injEq] at aj; subst aj;cases ak with
  | str bs=>exact⟨bs,by simp[Extern.Bytes.bytesOf],rfl⟩
 ·rename_i ql;split at aj
  ·rename_i cs n ds;obtain⟨bJ,bw,vs,cA,jT⟩:=s1 (P:=P) rel ds ak;have aJ:=jT n (Nat.le_refl _) w (fun _=>rfl);obtain⟨ns,rfl,rfl⟩:=EP cs vs l aj cA.1 cA.2;have lw:ns.length=n:=by have:=cA.1; simp at this; omega
   have zD:(ns.map (Value.int .u8)).take (n*1)=ns.map (Value.int .u8) :=List.take_of_length_le (by simp; omega);rw[zD] at aJ;have Il:∃ a len cap,bG=.slice a len cap:=by
    cases ak<;>first | exact⟨_,_,_,rfl⟩ | (simp[contents] at ds; done) | (exact absurd rfl (ql _))
   obtain⟨a,len,cap,rfl⟩:=Il;simp only[Builtin.lenOf,Sem.run_pure,Result.ok.injEq] at bw;obtain⟨rfl,_⟩:=bw;cases a with
   | none=>
    simp only[Builtin.firstCells,Sem.run_pure,Result.ok.injEq] at aJ;have kX:ns=[] :=by
     have:=congrArg Array.toList aJ.1;simpa using this.symm
    subst kX;exact⟨.empty,by simp[Extern.Bytes.bytesOf],rfl⟩
   | some a=>
    by_cases rR:len=0
    ·subst rR;have:ns=[] :=List.length_eq_zero_iff.1 lw;subst this;exact⟨.empty,by simp[Extern.Bytes.bytesOf,Extern.Bytes.loadBytes],rfl⟩
    have aI:∃ blk o,a=⟨blk,o,none⟩:=by
     cases ak with
     | ao=>exact⟨_,_,rfl⟩
     | bW=>exact⟨_,_,rfl⟩
     | e1=>exact absurd rfl rR
     | gR=>exact absurd rfl rR
     | bad=>simp[contents] at ds
     | fE _ _ _ _ _ _ _ _ h1 ag ay=>
      exfalso;simp only[contents] at ds;rcases ay with ay | ⟨n,gW,ay,aS⟩
      ·rw[ay] at ds; cases ds
      ·rw[ay] at ds;simp only at ds;split at ds
       ·rename_i aQ; omega
       ·cases ds
    obtain⟨blk,o,rfl⟩:=aI;simp only[Builtin.firstCells,Nat.mul_one] at aJ;unfold loadCells at aJ;obtain⟨l,h1,ag,aq⟩:=loadCellsFrom_ok _ _ _ _ _ _ aJ;have aK:l=ns.map (Value.int .u8) :=by
     have:=congrArg Array.toList ag;simpa using this.symm
    subst aK;obtain⟨bs,bg,bL⟩:=abo (P:=P) (w:=w) (blk:=blk) len o ns .empty lw (fun j v am=>by
     have:=aq j v am;rw[Addr.kH,Nat.zero_add] at this;exact this)
    exact⟨bs,by simpa [Extern.Bytes.bytesOf] using bg,by rw[bL]; rfl⟩
  ·cases aj
theorem R2:∀ (a b:List UInt8),(match (List.range (min a.length b.length)).find? fun i=>a.getD i 0 != b.getD i 0 with
  | some i=>if a.getD i 0<b.getD i 0 then (-1:Int) else 1
  | none=>if a.length<b.length then -1 else if a.length > b.length then 1 else 0)=lT a b
 | [],[]=>by simp[lT]
 | [],_::_=>by simp[lT]
 | _::_,[]=>by simp[lT]
 | x::a,y::b=>by
  have aM:=R2 a b;simp only[List.length_cons,Nat.add_min_add_right,List.range_succ_eq_map,List.find?_cons,List.getD_cons_zero];by_cases m1:x=y
  ·subst m1;simp only[bne_self_eq_false,lT,if_true];rw[<-aM,List.find?_map];have wW:((fun i=>(x::a).getD i 0 != (x::b).getD i 0) ∘ Nat.succ)=fun i=>a.getD i 0 != b.getD i 0:=by
    funext i; simp
   rw[wW];cases aJ:(List.range (min a.length b.length)).find? fun i=>a.getD i 0 != b.getD i 0 with
   | none=>simp only[Option.map_none]; congr 1<;>simp
   | some i=>simp
  ·have b7:(x != y)=true:=by simp[m1]
   simp only[b7,lT,if_neg m1,List.getD_cons_zero]
theorem SF {α:Type} {p q:α->Bool}:∀ (l:List α),(∀ x∈l,p x=q x)->l.find? p=l.find? q
 | [],_=>rfl
 | x::l,h=>by
  rw[List.find?_cons,List.find?_cons,h x (by simp),SF l (fun y aP=>h y (by simp[aP]))]
theorem wq (a b:ByteArray) :Extern.BytealgCompare.cmp a b=lT a.data.toList b.data.toList:=by
 rw[<-R2];unfold Extern.BytealgCompare.cmp;have ay:∀ (a:ByteArray) (i:Nat),i<a.size->a[i]! = a.data.toList.getD i 0:=fun a i aA=>by
  simp only[List.getD_eq_getElem?_getD,Array.getElem?_toList];rw[getElem!_pos a i aA];have:i<a.data.size:=aA;rw[Array.getElem?_eq_getElem this]; rfl
 have ar:∀ a:ByteArray,a.data.toList.length=a.size:=fun a=>by rw[Array.length_toList]; rfl
 rw[ar,ar];have Ik:(List.range (min a.size b.size)).find? (fun i=>a[i]! != b[i]!)=(List.range (min a.size b.size)).find? (fun i=>a.data.toList.getD i 0 != b.data.toList.getD i 0) :=by
  apply SF;intro i aA;have:=List.mem_range.1 aA;rw[ay a i (by omega),ay b i (by omega)]
 rw[Ik];cases aJ:(List.range (min a.size b.size)).find? (fun i=>a.data.toList.getD i 0 != b.data.toList.getD i 0) with
 | none=>rfl
 | some i=>
  have:=List.mem_range.1 (List.mem_of_find?_eq_some aJ);simp only;rw[ay a i (by omega),ay b i (by omega)]
theorem agd {fn:Func} (aH:fn.name= "internal/bytealg.Compare") (az:fn.origin= ""\/fn.origin= "internal/bytealg.Compare") :Extern.find fn=some Extern.BytealgCompare.compare/\Extern.findNext fn=none:=by
 constructor
 ·unfold Extern.find;simp only[aH];rfl
 ·unfold Extern.findNext;simp only[aH];rcases az with az | az<;>rw[az]<;>rfl
theorem af5 (rel:b6 R B w h μ) {f:FuncId} {fn:Func} {args:List ae} {vs:Array Value} {c:ae} (aJ:P.funcs[f]? = some fn) (aA:zO fn=true) (al:yG h args=some c)
  (ar:vs.size=args.length) (ax:∀ (j:Nat) (c:ae) (v:Value),args[j]? = some c->vs[j]? = some v->aU w R h μ c v) :
  ∃ v,(callFunc f vs).run P w=.ok (.value v) w/\aU w R h μ c v:=by
 unfold zO at aA;simp only[Bool.and_eq_true,Bool.or_eq_true,beq_iff_eq] at aA;obtain⟨⟨aj,aH⟩,az⟩:=aA;unfold yG at al;split at al
 ·rename_i x y;split at al
  ·rename_i a b aI bK;simp only[Option.some.injEq] at al; subst al;simp only[List.length_cons,List.length_nil] at ar;have kX:vs=#[vs[0],vs[1]] :=by
    apply Array.ext
    ·simpa using ar
    ·intro i h1 ag;rcases (show i=0\/i=1 by simp at ag; omega) with rfl | rfl<;>rfl
   obtain⟨ba,h1,ag⟩:=O1 (P:=P) rel aI (ax 0 x vs[0] rfl (by simp[ar]));obtain⟨aqO,aq,aK⟩:=O1 (P:=P) rel bK (ax 1 y vs[1] rfl (by simp[ar]));obtain⟨a1,b3⟩:=agd aH az;refine⟨.int .i64 (lT a b),?_,.int _ _⟩;rw[kX];have b7:fn.name≠ "runtime.NumGoroutine":=by rw[aH]; decide
   have aj:=Option.isNone_iff_eq_none.1 aj;have rJ:Extern.BytealgCompare.compare #[vs[0],vs[1]]=(do pure (goInt (Extern.BytealgCompare.cmp (<-Extern.Bytes.bytesOf vs[0]) (<-Extern.Bytes.bytesOf vs[1])))) :=rfl;simp[callFunc,aJ,b7,aj,a1,b3,mark,Sem.run,rJ,h1,aq,wq,ag,aK,goInt]
  ·cases al
 ·cases al
end
section
variable {P:Program} {w:World} {R:Nat->Prop} {B:Nat} {h:aR} {μ:cD}
inductive uw:Value->Value->Prop where
 | bool (a b:Bool) :uw (.bool a) (.bool b)
 | agg (a b:Array Value) :uw (.agg a) (.agg b)
 | slice (a:Option Addr) (l c:Nat) (en:Option Addr) (l' c' : Nat) :uw (.slice a l c) (.slice en l' c')
theorem afV {d:Nat} {t:TypeId} {x y:ae} {b:Bool} {bG fb:Value} (aw:dT P d t x y=some b) (ak:aU w R h μ x bG) (aP:aU w R h μ y fb)
  (aA:∀ k a k' bu,x=.int k a->y=.int k' bu->False) (au:∀ a bu,x=.str a->y=.str bu->False) :uw bG fb:=by
 cases d with
 | zero=>simp[dT] at aw
 | succ d=>
  unfold dT at aw;split at aw
  ·cases ak; cases aP; exact .bool _ _
  ·exact (aA _ _ _ _ rfl rfl).elim
  ·exact (au _ _ rfl rfl).elim
  ·cases ak; cases aP; exact .agg _ _
  ·cases ak; cases aP; exact .agg _ _
  ·cases ak; cases aP; exact .slice _ _ _ _ _ _
  ·cases ak; cases aP<;>exact .slice _ _ _ _ _ _
  ·cases ak; cases aP<;>exact .slice _ _ _ _ _ _
  ·cases ak<;>cases aP<;>exact .slice _ _ _ _ _ _
  ·cases ak<;>cases aP<;>exact .slice _ _ _ _ _ _
  ·cases aw
theorem afT {op:BinOp} {t:TypeId} {sk qM:Operand} {bG fb:Value} (au:uw bG fb) (ay:∀ a b,bG=.agg a->fb=.agg b->P.eqGuardType P.depth t=false) :(eqGuard op t sk qM bG fb).run P w=.ok () w:=by
 cases au with
 | bool a b=>cases op<;>rfl
 | agg a b=>exact run_eqGuard_agg w op t sk qM a b (ay a b rfl rfl)
 | slice=>cases op<;>rfl
theorem an5 {t:TypeId} {bG fb:Value} {b:Bool} (au:uw bG fb) (fB:(Op.equalIn 10000 t bG fb).run P w=.ok b w) :
  (binOp .eql t bG fb).run P w=.ok (.bool b) w/\(binOp .neq t bG fb).run P w=.ok (.bool (!b)) w:=by
 have bp:(Op.equal t bG fb).run P w=.ok b w:=fB;cases au<;>constructor<;>simp[binOp,bp]
theorem afS {op:BinOp} {t:TypeId} {sk qM:Operand} {k k' : IntKind} {a b:Int}:(eqGuard op t sk qM (.int k a) (.int k' b)).run P w=.ok () w:=by
 cases op<;>rfl
theorem afU {op:BinOp} {t:TypeId} {sk qM:Operand} {a b:ByteArray}:(eqGuard op t sk qM (.string a) (.string b)).run P w=.ok () w:=by
 cases op<;>rfl
theorem adR {op:BinOp} {t:TypeId} {sk qM:Operand} {x y c:ae} {bG fb:Value} (al:fw P op t x y=some c) (ak:aU w R h μ x bG) (aP:aU w R h μ y fb) :
  ∃ v,((do eqGuard op t sk qM bG fb; binOp op t bG fb:Sem Value)).run P w=.ok v w/\aU w R h μ c v:=by
 unfold fw at al;split at al
 ·cases ak; cases aP;obtain⟨v,h1,ag⟩:=adS (P:=P) (w:=w) (R:=R) (h:=h) (μ:=μ) (t:=t) al;exact⟨v,by simp[afS,h1],ag⟩
 ·cases ak; cases aP;obtain⟨v,h1,ag⟩:=adT (P:=P) (w:=w) (R:=R) (h:=h) (μ:=μ) (t:=t) al;exact⟨v,by simp[afU,h1],ag⟩
 ·rename_i aiK ql;have key:∀ b,s6 P t x y=true->dT P 10000 t x y=some b->uw bG fb/\(eqGuard op t sk qM bG fb).run P w=.ok () w ∧
    (binOp .eql t bG fb).run P w=.ok (.bool b) w/\(binOp .neq t bG fb).run P w=.ok (.bool (!b)) w:=by
   intro b dP aw;have mX:=afV aw ak aP aiK ql;have ay:∀ a b,bG=.agg a->fb=.agg b->P.eqGuardType P.depth t=false:=by
    rintro a b rfl rfl;cases ak with
    | aV cs _ _ _ _=>
     cases aP with
     | aV cs' _ _ _ _=>simpa [s6] using dP
     | bad=>simp[dT] at aw
    | bad=>cases aP<;>simp[dT] at aw
   have bp:=Hq 10000 t x y b bG fb aw ak aP;obtain⟨cc,ch⟩:=an5 mX bp;exact⟨mX,afT mX ay,cc,ch⟩
  split at al
  ·split at al
   ·rename_i dP;cases aw:dT P 10000 t x y with
    | none=>rw[aw] at al; cases al
    | some b=>
     rw[aw] at al;simp only[Option.map_some,Option.some.injEq] at al; subst al;obtain⟨_,cc,ch,_⟩:=key b dP aw;exact⟨.bool b,by simp[cc,ch],.bool _⟩
   ·cases al
  ·split at al
   ·rename_i dP;cases aw:dT P 10000 t x y with
    | none=>rw[aw] at al; cases al
    | some b=>
     rw[aw] at al;simp only[Option.map_some,Option.some.injEq] at al; subst al;obtain⟨_,cc,_,ch⟩:=key b dP aw;exact⟨.bool (!b),by simp[cc,ch],.bool _⟩
   ·cases al
  ·cases al
theorem apt {op:UnOp} {x c:ae} {bG:Value} (al:ot op x=some c) (ak:aU w R h μ x bG) :∃ v,(Op.unary op bG).run P w=.ok v w/\aU w R h μ c v:=by
 unfold ot at al;split at al
 ·simp only[Option.some.injEq] at al; subst al;cases ak;exact⟨_,by simp[Op.unary],.bool _⟩
 ·simp only[Option.some.injEq] at al; subst al;cases ak;refine⟨_,?_,.int _ _⟩;simp only[Op.unary]; rfl
 ·simp only[Option.some.injEq] at al; subst al;cases ak;refine⟨_,?_,.int _ _⟩;simp only[Op.unary]; rfl
 ·cases al
theorem Kj {aB:Operand->ae} {dA:Operand->Value} (cZ:∀ x,aU w R h μ (aB x) (dA x)) (o:Option Operand) :uz w R h μ (o.map aB) (o.map dA) :=by
 cases o with
 | none=>trivial
 | some x=>exact cZ x
def yd (P:Program) (R:Nat->Prop) (B:Nat) (w:World) (h:aR) (μ:cD) (r:Result Next) :nu->Prop
 | .val c h'=>Good R B w h μ r c h'
 | .call f args h'=>h'=h/\∃ vs:Array Value,r=.ok (.enter f vs) w/\vs.size=args.length/\∀ (j:Nat) (c:ae) (v:Value),args[j]? = some c->vs[j]? = some v->aU w R h μ c v
theorem Good.mk {r:Result Next} {c:ae} {h' : aR} {v:Value} {w' : World} {μ' : cD} (aD:r=.ok (.value v) w') (aw:di w h μ w' h' μ') (ar:b6 R B w' h' μ') (ax:aU w' R h' μ' c v) :Good R B w h μ r c h':=
 ⟨v,w',μ',.inl aD,aw,ar,ax⟩
theorem aee (rel:b6 R B w h μ) {b:Builtin} {ts:Array TypeId} {ty:TypeId} {consts:Array Bool} {args:List ae} {vs:Array Value} {r:nu} (au:nB P h b ts.toList args=some r)
  (ar:vs.size=args.length) (ax:∀ (j:Nat) (c:ae) (v:Value),args[j]? = some c->vs[j]? = some v->aU w R h μ c v) :yd P R B w h μ ((builtin b ts ty consts vs).run P w) r:=by
 have one:∀ x,args=[x]->∃ bG,vs=#[bG]/\aU w R h μ x bG:=by
  intro x ak;subst ak;simp only[List.length_cons,List.length_nil] at ar;refine⟨vs[0],?_,ax 0 x _ rfl (by simp[ar])⟩;apply Array.ext
  ·simpa using ar
  ·intro i h1 ag;have:i=0:=by omega
   subst this; rfl
 have two:∀ x y,args=[x,y]->∃ bG fb,vs=#[bG,fb]/\aU w R h μ x bG/\aU w R h μ y fb:=by
  intro x y ak;subst ak;simp only[List.length_cons,List.length_nil] at ar;refine⟨vs[0],vs[1],?_,ax 0 x _ rfl (by simp[ar]),ax 1 y _ rfl (by simp[ar])⟩;apply Array.ext
  ·simpa using ar
  ·intro i h1 ag;rcases (show i=0\/i=1 by simp at ag; omega) with rfl | rfl<;>rfl
 have EB:∀ t,ts.toList=[t]->ts=#[t] :=fun t aW=>by apply Array.toList_inj.1; simpa using aW
 have OA:∀ t u,ts.toList=[t,u]->ts=#[t,u] :=fun t u aW=>by apply Array.toList_inj.1; simpa using aW
 unfold nB at au;split at au
 ·rename_i t x lz;obtain⟨bG,rfl,ak⟩:=one x rfl;obtain rfl:=EB t lz;split at au
  ·rename_i c al;simp only[Option.some.injEq] at au; subst au;obtain⟨v,h1,ag⟩:=ak9 (P:=P) (ty:=ty) rel al ak;exact Good.mk (by simp[builtin,h1]) (.refl _ _ _) rel ag
  cases al:vw P t x with
  | none=>rw[al] at au; cases au
  | some c=>
   rw[al] at au;simp only[Option.map_some,Option.some.injEq] at au; subst au;obtain⟨v,h1,ag⟩:=ala (P:=P) (u:=t) (ty:=ty) al ak;exact Good.mk (by simp[builtin,h1]) (.refl _ _ _) rel ag
 ·rename_i t u s x lz;obtain⟨af,bG,rfl,qp,ak⟩:=two s x rfl;obtain rfl:=OA t u lz;split at au
  ·rename_i k aL;cases al:yn P h t s x with
   | none=>rw[al] at au; cases au
   | some c=>
    obtain⟨c,h'⟩:=c;rw[al] at au;simp only[Option.map_some,Option.some.injEq] at au; subst au;obtain⟨v,w',μ',h1,ag,aq,aK⟩:=adF (ty:=ty) rel aL al qp ak;exact Good.mk (by simp[builtin,h1]) ag aq aK
  ·cases au
  ·rename_i rS qk;cases al:pR P h t s x with
   | none=>rw[al] at au; cases au
   | some c=>
    obtain⟨c,h'⟩:=c;rw[al] at au;simp only[Option.map_some,Option.some.injEq] at au; subst au;have aL:xB P u:=by
     cases bD:P.underlying u with
     | none=>exact absurd bD qk
     | some d=>exact⟨d,bD,fun k aF=>rS k (by rw[bD,aF])⟩
    obtain⟨v,w',μ',h1,ag,aq,aK⟩:=EA (ty:=ty) rel aL al qp ak;exact Good.mk (by simp[builtin,h1]) ag aq aK
 ·rename_i t u d x lz;obtain⟨Hi,bG,rfl,bD,ak⟩:=two d x rfl;obtain rfl:=OA t u lz;cases al:wr P h t d x with
  | none=>rw[al] at au; cases au
  | some c=>
   obtain⟨c,h'⟩:=c;rw[al] at au;simp only[Option.map_some,Option.some.injEq] at au; subst au;obtain⟨v,w',h1,ag,aq,aK⟩:=afq (u:=u) (ty:=ty) rel al bD ak;exact Good.mk (by simp[builtin,h1]) ag aq aK
 ·rename_i t x lz;obtain⟨bG,rfl,ak⟩:=one x rfl;obtain rfl:=EB t lz;cases al:wm P t x with
  | none=>rw[al] at au; cases au
  | some c=>
   rw[al] at au;simp only[Option.map_some,Option.some.injEq] at au; subst au;obtain⟨v,h1,ag⟩:=aeX (P:=P) (ty:=ty) al ak;exact Good.mk (by simp[builtin,h1]) (.refl _ _ _) rel ag
 ·rename_i t x lz;obtain⟨bG,rfl,ak⟩:=one x rfl;obtain rfl:=EB t lz;cases al:wo P h t x with
  | none=>rw[al] at au; cases au
  | some h'=>
   rw[al] at au;simp only[Option.map_some,Option.some.injEq] at au; subst au;obtain⟨w',h1,ag,aq⟩:=afa (P:=P) (ty:=ty) rel al ak;exact Good.mk (v:=.tuple #[]) (by simp[builtin,h1]) ag aq (.bP [] #[] rfl (fun _ _ _ aQ=>by simp at aQ))
 ·rename_i x y;obtain⟨bG,fb,rfl,ak,aP⟩:=two x y rfl;cases al:xw x y with
  | none=>rw[al] at au; cases au
  | some c=>
   rw[al] at au;simp only[Option.map_some,Option.some.injEq] at au; subst au;unfold xw at al;split at al
   ·split at al
    ·rename_i aF; subst aF;simp only[Option.some.injEq] at al; subst al;cases ak; cases aP;refine Good.mk (v:=.int _ _) ?_ (.refl _ _ _) rel (.int _ _);simp[builtin,Builtin.min_,Builtin.min2]
    ·cases al
   ·cases al
 ·rename_i x y;obtain⟨bG,fb,rfl,ak,aP⟩:=two x y rfl;cases al:sd x y with
  | none=>rw[al] at au; cases au
  | some c=>
   rw[al] at au;simp only[Option.map_some,Option.some.injEq] at au; subst au;unfold sd at al;split at al
   ·split at al
    ·rename_i aF; subst aF;simp only[Option.some.injEq] at al; subst al;cases ak; cases aP;refine Good.mk (v:=.int _ _) ?_ (.refl _ _ _) rel (.int _ _);simp[builtin,Builtin.max_,Builtin.max2]
    ·cases al
   ·cases al
 ·cases au
theorem RL {f:FuncId} {fn:Func} {vs:Array Value} (aJ:P.funcs[f]? = some fn) (aj:fn.body.isSome=true) (aH:fn.name≠ "runtime.NumGoroutine") :(callFunc f vs).run P w=.ok (.enter f vs) w:=by
 have bK:fn.body≠none:=fun aQ=>by rw[aQ] at aj; cases aj
 simp[callFunc,aJ,aH,bK]
theorem JW {aB:Operand->ae} {dA:Operand->Value} (cZ:∀ x,aU w R h μ (aB x) (dA x)) (xs:Array Operand) :
  ∀ (j:Nat) (c:ae) (v:Value),(xs.toList.map aB)[j]? = some c->(xs.map dA)[j]? = some v->aU w R h μ c v:=by
 intro j c v am ax;rw[List.getElem?_map] at am;rw[Array.getElem?_map] at ax;cases az:xs[j]? with
 | none=>simp[az] at ax
 | some o=>
  simp[az] at am ax;subst am ax;exact cZ o
theorem alt {t:TypeId} {name:String} {g:FuncId} (hm:vA P t name=some g) (u:Value) :(Go.method (P.types.size+Made.depth) t u name).run P w=.ok (g,u) w:=by
 unfold vA at hm;split at hm
 ·cases hm
 ·cases hm
 ·rename_i xe Jd;split at hm
  ·rename_i i aA;split at hm
   ·rename_i m aJ;split at hm
    ·rename_i f aG iX;cases hm;obtain⟨k,aF⟩:∃ k,P.types.size+Made.depth=k+1:=⟨P.types.size+Made.depth - 1,by unfold Made.depth; omega⟩
     rw[aF];cases bD:P.underlying t with
     | none=>exact absurd bD Jd
     | some d=>
      have atk:m.path=#[] :=Array.toList_eq_nil_iff.1 aG;cases d<;>first
       | (exfalso; exact xe _ bD)
       | simp[Go.method,typeInfo,aA,aJ,aG,iX,follow,receiverAt,cq bD,Place.get]
    ·cases hm
   ·cases hm
  ·cases hm
theorem aoZ {t NY:TypeId} {ok:Bool} {z c x:ae} {v:Value} (aC:D0 P t=some z) (al:xX t z ok x=some c) (ak:aU w R h μ x v) :
  ∃ bc,(Instr.typeAssert v NY t ok).run P w=.ok bc w/\aU w R h μ c bc:=by
 unfold D0 at aC;split at aC
 ·cases aC
 ·cases aC
 ·rename_i xe Jd;cases bD:P.underlying t with
  | none=>exact absurd bD Jd
  | some d=>
   obtain⟨zv,qw,j0⟩:=acL (P:=P) (w:=w) (R:=R) (h:=h) (μ:=μ) aC;have two:∀ (a:ae) (g8:Value) (q:Bool),aU w R h μ a g8->aU w R h μ (.bP [a,.bool q]) (.tuple #[g8,.bool q]) :=by
    intro a g8 q aI;refine .bP _ _ rfl (fun j c v am ax=>?_)
    match j,am,ax with
    | 0,am,ax=>simp at am ax; subst am ax; exact aI
    | 1,am,ax=>simp at am ax; subst am ax; exact .bool q
    | j+2,am,ax=>simp at am
   cases x<;>simp only[xX] at al<;>try (cases al; done)
   case hZ=>
    cases ak;cases ok<;>simp only at al<;>cases al;refine⟨.tuple #[zv,.bool false],?_,two _ _ _ j0⟩;cases d<;>first
     | (exfalso; exact xe _ bD)
     | simp[Instr.typeAssert,cq bD,qw]
   case fK fp uE=>
    cases ak with
    | fK _ _ u aL=>
     split at al
     ·rename_i aW;have aW:=Nat.eq_of_beq_eq_true aW;subst aW;cases ok<;>simp only at al<;>cases al
      ·refine⟨u,?_,aL⟩;cases d<;>first
        | (exfalso; exact xe _ bD)
        | simp[Instr.typeAssert,cq bD]
      ·refine⟨.tuple #[u,.bool true],?_,two _ _ _ aL⟩;cases d<;>first
        | (exfalso; exact xe _ bD)
        | simp[Instr.typeAssert,cq bD]
     ·rename_i aW;have aW:fp≠t:=fun h=>by rw[h,Nat.beq_refl] at aW; cases aW
      cases ok<;>simp only at al<;>cases al;refine⟨.tuple #[zv,.bool false],?_,two _ _ _ j0⟩;cases d<;>first
       | (exfalso; exact xe _ bD)
       | simp[Instr.typeAssert,cq bD,qw,aW]
theorem aeU (rel:b6 R B w h μ) {aB:Operand->ae} {dA:Operand->Value} (cZ:∀ x,aU w R h μ (aB x) (dA x)) {c:Call} {ty:TypeId} {r:nu} (au:sQ P h aB c=some r) :
  yd P R B w h μ ((do let d <-resolve dA c ty; invoke d.target d.args:Sem Next).run P w) r:=by
 unfold sQ at au;split at au
 ·rename_i b aj;have:=fun consts=>aee (P:=P) (b:=b) (ts:=c.argTypes) (ty:=ty) (consts:=consts) (args:=c.args.toList.map aB) (vs:=c.args.map dA) rel au (by simp)
   (fun j x v am ax=>by
    rw[List.getElem?_map] at am;rw[Array.getElem?_map] at ax;cases az:c.args[j]? with
    | none=>simp[az] at ax
    | some o=>
     simp[az] at am ax;subst am ax;exact cZ o)
  simp only[resolve,aj,Sem.run_bind,Sem.run_pure,Result.andThen_ok,invoke];exact this _
 ·rename_i f aJ;split at au
  ·rename_i g first e6 iX
   have ax:=cZ f;rw[iX] at ax;cases tk:dA f with
   | func asn fs cs=>
    rw[tk] at ax;cases ax with
    | fn _ _ _ _ _ h1 ag aq aK=>
     split at au
     ·rename_i fn wW;have B3:∀ (j:Nat) (x:ae) (v:Value),(first++c.args.toList.map aB++e6)[j]? = some x->(fs++c.args.map dA++cs)[j]? = some v->aU w R h μ x v:=by
       intro j x v am jY;by_cases nT:j<first.length
       ·rw[List.append_assoc,List.getElem?_append_left nT] at am;rw[Array.append_assoc,Array.getElem?_append_left (by omega)] at jY;exact aq j x v am jY
       ·by_cases mS:j<first.length+c.args.size
        ·rw[List.getElem?_append_left (by simp; omega),List.getElem?_append_right (by omega),List.getElem?_map] at am;rw[Array.getElem?_append_left (by simp; omega),Array.getElem?_append_right (by omega),Array.getElem?_map,h1] at jY;cases az:c.args[j - first.length]? with
         | none=>simp[az] at jY
         | some o=>
          simp[az] at am jY;subst am jY;exact cZ o
        ·rw[List.getElem?_append_right (by simp; omega)] at am;rw[Array.getElem?_append_right (by simp; omega)] at jY;refine aK _ x v am ?_;simpa [h1] using jY
      split at au
      ·rename_i ic;simp only[Option.some.injEq] at au; subst au;refine⟨rfl,fs++c.args.map dA++cs,?_,by simp[h1,ag],B3⟩;simp[resolve,aJ,tk,Deferred.ofValue,invoke,RL wW ic.1 ic.2]
      ·split at au
       ·rename_i rJ;cases c7:yG h (first++c.args.toList.map aB++e6) with
        | none=>rw[c7] at au; cases au
        | some arv=>
         rw[c7] at au;simp only[Option.map_some,Option.some.injEq] at au; subst au;obtain⟨v,a1,b3⟩:=af5 (P:=P) (vs:=fs++c.args.map dA++cs) rel wW rJ c7 (by simp[h1,ag]) B3;rw[Array.append_assoc] at a1;exact Good.mk (by simp[resolve,aJ,tk,Deferred.ofValue,invoke,a1]) (.refl _ _ _) rel b3
       ·cases au
     ·cases au
   | _=>rw[tk] at ax; cases ax
  ·cases au
 ·rename_i x name al;split at au
  ·rename_i t v0 ak;have ax:=cZ x;rw[ak] at ax;split at au
   ·rename_i g hm;split at au
    ·rename_i fn wW;split at au
     ·rename_i ic;simp only[Option.some.injEq] at au; subst au;cases tk:dA x with
      | iface fp u=>
       rw[tk] at ax;cases ax with
       | fK _ _ _ aL=>
        refine⟨rfl,#[u]++c.args.map dA,?_,by simp; omega,?_⟩
        ·have aiE:=alt (P:=P) (w:=w) hm u;have aO:(#[Value.iface t u]++c.args.map dA)[0]? = some (Value.iface t u) :=by rw[Array.getElem?_append_left (by simp)]; rfl
         have gE:(c.args.map dA).extract 0 c.args.size=c.args.map dA:=by
          apply Array.ext';simp[List.take_of_length_le]
         simp[aO,gE,resolve,al,tk,invoke,callMethod,aiE,RL wW ic.1 ic.2]
        ·intro j x v am jY;cases j with
         | zero=>
          rw[Array.getElem?_append_left (by simp)] at jY;simp at am jY; subst am jY; exact aL
         | succ j=>
          rw[List.getElem?_cons_succ] at am;rw[Array.getElem?_append_right (by simp)] at jY;exact JW cZ c.args j x v am (by simpa using jY)
      | _=>rw[tk] at ax; cases ax
     ·cases au
    ·cases au
   ·cases au
  ·cases au
theorem Ks {aB:Operand->ae} {dA:Operand->Value} (cZ:∀ x,aU w R h μ (aB x) (dA x)) (cy:Array (Nat × Operand)) :
  (cy.map fun (i,x)=>(i,dA x)).size=(cy.toList.map fun p=>(p.1,aB p.2)).length ∧
  ∀ (j:Nat) (p:Nat × ae) (bX:Nat × Value),(cy.toList.map fun p=>(p.1,aB p.2))[j]? = some p->(cy.map fun (i,x)=>(i,dA x))[j]? = some bX->bX.1=p.1/\aU w R h μ p.2 bX.2:=by
 refine⟨by simp,fun j p bX am ev=>?_⟩;rw[List.getElem?_map] at am;rw[Array.getElem?_map] at ev;cases az:cy[j]? with
 | none=>simp[az] at ev
 | some o=>
  simp[az] at am ev;subst am ev;exact⟨rfl,cZ o.2⟩
theorem Nq (rel:b6 R B w h μ) {aB:Operand->ae} {dA:Operand->Value} (cZ:∀ x,aU w R h μ (aB x) (dA x)) (o:Oper) {r:nu} (au:cW P h aB o.op=some r) :
  yd P R B w h μ ((execOp dA o).run P w) r:=by
 obtain⟨dst,op,type,pos,after,guard⟩:=o;have m5:∀ {x:Option ae} {m:Sem Value},(∀ c,x=some c->∃ v,m.run P w=.ok v w/\aU w R h μ c v)->x.map (fun y=>nu.val y h)=some r->
   yd P R B w h μ ((do pure (.value (<-m)) :Sem Next).run P w) r:=by
  intro x m ak aD;cases o7:x with
  | none=>rw[o7] at aD; cases aD
  | some c=>
   rw[o7] at aD;simp only[Option.map_some,Option.some.injEq] at aD; subst aD;obtain⟨v,h1,ag⟩:=ak c o7;exact Good.mk (by simp[h1]) (.refl _ _ _) rel ag
 have Dn:∀ {x:Option (ae × aR)} {m:Sem Value},(∀ c h',x=some (c,h')->∃ v w' μ',m.run P w=.ok v w'/\di w h μ w' h' μ'/\b6 R B w' h' μ'/\aU w' R h' μ' c v)->x.map (fun y=>nu.val y.1 y.2)=some r->
   yd P R B w h μ ((do pure (.value (<-m)) :Sem Next).run P w) r:=by
  intro x m ak aD;cases o7:x with
  | none=>rw[o7] at aD; cases aD
  | some c=>
   obtain⟨c,h'⟩:=c;rw[o7] at aD;simp only[Option.map_some,Option.some.injEq] at aD; subst aD;obtain⟨v,w',μ',h1,ag,aq,aK⟩:=ak c h' o7;exact Good.mk (by simp[h1]) ag aq aK
 cases op
 case move x=>
  simp only[cW,Option.some.injEq] at au; subst au;exact Good.mk (by simp[execOp]) (.refl _ _ _) rel (cZ x)
 case assign x=>
  simp only[cW,Option.some.injEq] at au; subst au;exact Good.mk (by simp[execOp]) (.refl _ _ _) rel (cZ x)
 case pick c a b=>
  simp only[cW] at au;have iW:=cZ c;cases al:aB c<;>rw[al] at au iW<;>simp only at au<;>try (cases au; done)
  simp only[Option.some.injEq] at au; subst au;cases ax:dA c<;>rw[ax] at iW<;>try (cases iW; done)
  cases iW;rename_i t;cases t
  ·exact Good.mk (v:=dA b) (by simp[execOp,ax,asBool]) (.refl _ _ _) rel (by simpa using cZ b)
  ·exact Good.mk (v:=dA a) (by simp[execOp,ax,asBool]) (.refl _ _ _) rel (by simpa using cZ a)
 case alloc t=>
  simp only[cW] at au;cases aC:gH P t with
  | none=>rw[aC] at au; cases au
  | some z=>
   rw[aC] at au;simp only[Option.map_some,Option.some.injEq] at au; subst au;obtain⟨v,ax,aD⟩:=uv (P:=P) (w:=w) (R:=R) (h:=h) (μ:=μ) aC;obtain⟨bt,bE,a3⟩:=A2 rel (cs:=z) (vs:=v.cells) t aD.1 aD.2;exact Good.mk (by simp[execOp,Instr.alloc,ax,newVar,newRow]) bt bE (a3 0)
 case box t x=>
  simp only[cW] at au;cases aC:(aB x).cells with
  | none=>rw[aC] at au; cases au
  | some z=>
   rw[aC] at au;simp only[Option.map_some,Option.some.injEq] at au; subst au;obtain⟨cc,ch⟩:=Bj (cZ x) aC;obtain⟨bt,bE,a3⟩:=A2 rel (cs:=z) (vs:=(dA x).cells) t cc ch;exact Good.mk (by simp[execOp,Instr.box,newVar,newRow]) bt bE (a3 0)
 case build t ew=>
  obtain⟨cc,ch⟩:=Ks cZ ew;exact m5 (fun c al=>aec al cc ch) au
 case buildSlice t len ew=>
  obtain⟨cc,ch⟩:=Ks cZ ew;exact Dn (fun c h' al=>aeb rel al cc ch) au
 case load t a=>exact m5 (fun c al=>W3 rel al (cZ a)) au
 case store t a x=>
  simp only[cW] at au;cases cI:xV P h t (aB a) (aB x) with
  | none=>rw[cI] at au; cases au
  | some h'=>
   rw[cI] at au;simp only[Option.map_some,Option.some.injEq] at au; subst au;obtain⟨w',h1,ag,aq⟩:=aoR (P:=P) rel cI (cZ a) (cZ x);exact⟨undef,w',μ,.inr ⟨by simp[execOp,h1],rfl⟩,ag,aq,.bP [] #[] rfl (fun _ _ _ aQ=>by simp at aQ)⟩
 case nilCheck x=>
  simp only[cW] at au;have ax:=cZ x;cases al:aB x<;>rw[al] at au ax<;>simp only at au<;>try (cases au; done)
  all_goals
   simp only[Option.some.injEq] at au; subst au;cases ak:dA x<;>rw[ak] at ax<;>try (cases ax; done)
   rename_i y;refine Good.mk (v:=dA x) ?_ (.refl _ _ _) rel (by rw[ak]; exact ax);cases ax<;>simp[execOp,ak]
 case binOp op t x y awX=>exact m5 (fun c al=>adR al (cZ x) (cZ y)) au
 case unOp op t x=>exact m5 (fun c al=>apt al (cZ x)) au
 case convert s d x=>
  simp only[cW] at au;split at au
  ·rename_i c al;simp only[Option.some.injEq] at au; subst au;obtain⟨v,w',h1,ag,aq,aK⟩:=aef rel al (cZ x);exact Good.mk (by simp[execOp,h1]) ag aq aK
  ·exact m5 (fun c al=>afo rel al (cZ x)) au
 case makeInterface t x=>
  simp only[cW] at au;cases aL:P.underlying t with
  | none=>rw[aL] at au; cases au
  | some d=>
   rw[aL] at au;cases d<;>simp only at au<;>try (cases au; done)
   all_goals
    simp only[Option.some.injEq] at au; subst au;exact Good.mk (v:=.iface t (dA x)) (by simp[execOp,Instr.makeInterface,cq aL]) (.refl _ _ _) rel (.fK t _ _ (cZ x))
 case makeFunc fn first e6=>
  cases fn<;>simp only[cW] at au<;>try (cases au; done)
  simp only[Option.some.injEq] at au; subst au;exact Good.mk (by simp[execOp,Instr.makeFunc]) (.refl _ _ _) rel (.fn _ _ _ _ _ (by simp) (by simp) (JW cZ first) (JW cZ e6))
 case makeSlice t l c=>exact Dn (fun c' h' al=>alp rel al (cZ l) (cZ c)) au
 case slice t x cP aA cB=>exact m5 (fun c al=>aot rel al (cZ x) (Kj cZ cP) (Kj cZ aA) (Kj cZ cB)) au
 case fieldAddr s x f=>exact m5 (fun c al=>aga al (cZ x)) au
 case field t x f=>
  simp only[cW] at au;split at au
  ·rename_i cs fd ak aJ;have ax:=cZ x;rw[ak] at ax;exact m5 (fun c al=>agb aJ al ax) au
  ·cases au
 case indexAddr t x i=>exact m5 (fun c al=>ajL al (cZ x) (cZ i)) au
 case index t x i=>exact m5 (fun c al=>Jz al (cZ x) (cZ i)) au
 case extract x i=>
  simp only[cW] at au;have ax:=cZ x;cases al:aB x<;>rw[al] at au ax<;>simp only at au<;>try (cases au; done)
  rename_i vs;cases ak:dA x<;>rw[ak] at ax<;>try (cases ax; done)
  rename_i arr;cases ax with
  | bP _ _ ar Ji=>
   refine m5 (m:=Instr.extract (dA x) i) (fun c al=>?_) au;have aS:i<arr.size:=by rw[ar]; exact (List.getElem?_eq_some_iff.1 al).1
   exact⟨arr[i],by simp[Instr.extract,ak,aS],Ji i c _ al (by simp[aS])⟩
 case call c=>exact aeU rel cZ au
 case makeMap t r=>
  simp only[cW] at au;split at au
  ·rename_i k e aL aD;simp only[Option.some.injEq] at au; subst au;obtain⟨v,w',μ',h1,ag,aq,aK⟩:=alo (P:=P) (t:=t) (r:=r.map dA) rel ⟨_,_,aL⟩ (fun x ak=>by
    cases r with
    | none=>cases ak
    | some o=>
     simp only[Option.map_some,Option.some.injEq] at ak; subst ak;simp only at aD;cases aA:asInt (aB o) with
     | none=>rw[aA] at aD; cases aD
     | some n=>
      obtain⟨k,aF⟩:=pS aA (cZ o);exact⟨k,n,aF⟩)
   exact Good.mk (by simp[execOp,h1]) ag aq aK
  ·cases au
 case lookup t m k ok=>exact m5 (fun c al=>ali rel al (cZ m) (cZ k)) au
 case mapUpdate t m k x=>
  simp only[cW] at au;cases cI:vz P h t (aB m) (aB k) (aB x) with
  | none=>rw[cI] at au; cases au
  | some h'=>
   rw[cI] at au;simp only[Option.map_some,Option.some.injEq] at au; subst au;obtain⟨w',h1,ag,aq⟩:=Xd (P:=P) rel cI (cZ m) (cZ k) (cZ x);exact⟨undef,w',μ,.inr ⟨by simp[execOp,h1],rfl⟩,ag,aq,.bP [] #[] rfl (fun _ _ _ aQ=>by simp at aQ)⟩
 case insert t m k x=>
  simp only[cW] at au;cases cI:vz P h t (aB m) (aB k) (aB x) with
  | none=>rw[cI] at au; cases au
  | some h'=>
   rw[cI] at au;simp only[Option.map_some,Option.some.injEq] at au; subst au;obtain⟨w',h1,ag,aq⟩:=Xd (P:=P) rel cI (cZ m) (cZ k) (cZ x);exact⟨undef,w',μ,.inr ⟨by simp[execOp,h1],rfl⟩,ag,aq,.bP [] #[] rfl (fun _ _ _ aQ=>by simp at aQ)⟩
 case range t x=>exact Dn (fun c h' al=>anz rel al (cZ x)) au
 case next it isS=>
  cases isS with
  | false=>simp only[cW] at au; cases au
  | true=>exact Dn (fun c h' al=>by obtain⟨v,w',h1,ag,aq,aK⟩:=alz (P:=P) (ty:=type) rel al (cZ it); exact⟨v,w',μ,h1,ag,aq,aK⟩) au
 case typeAssert x NY t ok=>
  simp only[cW] at au;split at au
  ·rename_i z aC;exact m5 (fun c al=>aoZ aC al (cZ x)) au
  ·cases au
 all_goals (simp only[cW] at au; cases au)
end
inductive pK where
 | normal
 | exit (id:Nat)
 | ret
def pK.out:pK->Exit
 | .normal=>.normal
 | .exit id=>.exit id
 | .ret=>.ret
def jh (ops:Array Oper) (ah:Nat->ae) (o:Oper) :Option Bool:=
 match o.guard with
 | none=>some true
 | some (j,x4)=>match (ops[j]?).bind (·.dst) with
  | none=>some false
  | some d=>match ah d with
   | .bool b=>some (b == x4)
   | .bad=>none
   | _=>some false
def gn (ah:Nat->ae) (dst:Option Tmp) (c:ae) :Nat->ae:=match dst with | some d=>bM ah d c | none=>ah
def nI (N:Nat) (dst:Option Tmp) :Bool:=match dst with | some d=>decide (d<N) | none=>true
def xS (P:Program) (h:aR) (ah:Nat->ae) :ResultVar->Option ae
 | .tmp t=>some (ah t)
 | .cell a t=>qD P h t (ah a)
def t2 (P:Program) (h:aR) (ah:Nat->ae) :List ResultVar->Option (List ae)
 | []=>some []
 | r::lJ=>match xS P h ah r,t2 P h ah lJ with
  | some v,some vs=>some (v::vs)
  | _,_=>none
def uj:List ae->ae
 | [v]=>v
 | vs=>.bP vs
def DK (P:Program) (h:aR) (ah:Nat->ae) (fn:Func) :Option ae:=(t2 P h ah fn.results.toList).map uj
mutual
def ae.closed:ae->Bool
 | .aV cs=>bV cs
 | .bP cs=>bV cs
 | .cp cs _=>bV cs
 | .bW _ es=>yD es
 | .fn _ a b=>bV a&&bV b
 | .fK _ v=>v.closed
 | .ptr .. | .ao .. | .mp _ | .it _=>false
 | _=>true
def bV:List ae->Bool
 | []=>true
 | c::cs=>c.closed&&bV cs
def yD:List (List ae)->Bool
 | []=>true
 | c::cs=>bV c&&yD cs
end
def eN (w:World) (A:Nat->Prop) (c:ae) (v:Value) :Prop:=aU w A aR.empty (fun _=>none) c v
structure v6 (w w' : World) :Prop extends RowKit.Below w.heap.size w w' where
 drawn:w.drawn<=w'.drawn
def ra (G:Nat->ae) (w:World) (R:Nat->Prop) (h:aR) (μ:cD) :Prop:=∀ g,(G g).closed=true/\aU w R h μ (G g) (.pointer (some ⟨g,0,none⟩))
def q7 (P:Program) (G:Nat->ae) (f:FuncId) (args:List ae) (h:aR) (r:ae) (h' : aR) :Prop:=
 ∀ (R:Nat->Prop) (B:Nat) (w:World) (μ:cD) (vs:Array Value),b6 R B w h μ->ra G w R h μ->vs.size=args.length->
  (∀ (j:Nat) (c:ae) (v:Value),args[j]? = some c->vs[j]? = some v->aU w R h μ c v)->
  Calls P f vs w fun e w'=>∃ v μ',e=.returned v/\di w h μ w' h' μ'/\b6 R B w' h' μ'/\aU w' R h' μ' r v
def bT (P:Program) (G:Nat->ae) (f:FuncId) (args:List ae) (r:ae) :Prop:=
 ∀ (w:World) (A:Nat->Prop) (vs:Array Value),(∀ g,eN w A (G g) (.pointer (some ⟨g,0,none⟩)))->vs.size=args.length->
  (∀ (j:Nat) (c:ae) (v:Value),args[j]? = some c->vs[j]? = some v->eN w A c v)->
  Calls P f vs w fun e w'=>∃ v,e=.returned v/\v6 w w'/\eN w' (fun k=>A k\/w.heap.size<=k) r v
def h6 (P:Program) (G:Nat->ae) (f:FuncId) (args:List ae) (r:ae) :Prop:=
 ∀ (w:World) (A:Nat->Prop) (vs:Array Value),(∀ g,eN w A (G g) (.pointer (some ⟨g,0,none⟩)))->vs.size=args.length->
  (∀ (j:Nat) (c:ae) (v:Value),args[j]? = some c->vs[j]? = some v->eN w A c v)->
  Calls P f vs w fun e w'=>∃ v,e=.returned v/\v6 w w'/\eN w' (fun k=>w.heap.size<=k) r v
inductive fc (h:aR) :ae->ae->Prop
 | same (c:ae) (al:c.closed=true) :fc h c c
 | aV (cs cs' : List ae) (ar:cs'.length=cs.length) (ax:∀ (j:Nat) (c c' : ae),cs[j]? = some c->cs'[j]? = some c'->fc h c c') :fc h (.aV cs) (.aV cs')
 | bP (cs cs' : List ae) (ar:cs'.length=cs.length) (ax:∀ (j:Nat) (c c' : ae),cs[j]? = some c->cs'[j]? = some c'->fc h c c') :fc h (.bP cs) (.bP cs')
 | ao (z b off len cap sz:Nat) (cs:List ae) (es:List (List ae)) (aj:h.f b=.cells sz cs) (ar:es.length=len) (aC:∀ e∈es,e.length=z)
   (ec:off+len*z<=cs.length)
   (ax:∀ (i j:Nat) (e:List ae) (c c' : ae),es[i]? = some e->e[j]? = some c'->cs[off+(i*z+j)]? = some c->fc h c c') :fc h (.ao z b off len cap sz) (.bW z es)
 | pA (z b off cap sz:Nat) :fc h (.ao z b off 0 cap sz) (.bW z [])
 | ptr (b off sz:Nat) (cs cs' : List ae) (aj:h.f b=.cells sz cs) (ar:cs'.length=cs.length) (ax:∀ (j:Nat) (c c' : ae),cs[j]? = some c->cs'[j]? = some c'->fc h c c') :fc h (.ptr b off sz) (.cp cs' off)
mutual
def ae.flat:ae->Bool
 | .aV cs=>kg cs
 | .bP cs=>kg cs
 | .fK _ v=>v.flat
 | .bool _ | .int .. | .str _ | .h0 | .aZ | .gG | .hC | .hZ=>true
 | _=>false
def kg:List ae->Bool
 | []=>true
 | c::cs=>c.flat&&kg cs
end
inductive AU where
 | pure | new | fx
def lF (P:Program) (aB:Operand->ae) :Op->Option (List ae × (Nat->ae))
 | .alloc t=>(gH P t).map fun z=>(z,fun b=>.ptr b 0 z.length)
 | .box _ x=>(aB x).cells.map fun cs=>(cs,fun b=>.ptr b 0 cs.length)
 | .buildSlice t len ew=>match hl P t with
  | some e=>match cr P e,gH P e with
   | some z,some zero=>if zero.length=z/\len*z<=16777216 then
     (gB (fun i=>some (i*z,z)) (dd zero len) (ew.toList.map fun p=>(p.1,aB p.2))).map fun cs=>(cs,fun b=>.ao z b 0 len len (len*z))
    else none
   | _,_=>none
  | none=>none
 | .makeSlice t l c=>match hl P t,asInt (aB l),asInt (aB c) with
  | some e,some l,some c=>match cr P e,iT P e,gH P e with
   | some z,some by_,some zero=>
    if zero.length=z/\0<=l/\l<=c/\c<9223372036854775808/\by_*c<=cQ then
     some (dd zero c.toNat,fun b=>.ao z b 0 l.toNat c.toNat (c.toNat*z))
    else none
   | _,_,_=>none
  | _,_,_=>none
 | _=>none
def ip (ops:Array Oper) (t:Nat) :Option Nat:=(List.range ops.size).find? fun i=>match ops[i]? with | some o=>o.dst == some t | none=>false
def lm (ops:Array Oper) (pre:Nat->Nat->Bool) (val:Nat->ae) (ah:Nat->ae) (i:Nat) (o:Oper) :Nat->ae:=fun t=>
 if (o.looksAt ops).contains t then
  match ip ops t with
  | some j=>if pre i j then val j else ah t
  | none=>ah t
 else .bad
structure q8 (ops:Array Oper) (pre:Nat->Nat->Bool) :Prop where
 yO:∀ (i:Nat) (o:Oper) (e:Edge),ops[i]? = some o->e∈o.after->Region.binds .any e=true->e.on<i
 chain:∀ (i:Nat) (o:Oper) (j:Nat),ops[i]? = some o->pre i j=true->∃ e∈o.after,Region.binds .any e=true/\(e.on=j\/pre e.on j=true)
 one:∀ (i:Nat) (o:Oper) (t:Tmp),ops[i]? = some o->o.dst=some t->ip ops t=some i
 acc:∀ (i:Nat) (o:Oper) (t:Tmp) (j:Nat),ops[i]? = some o->t∈o.looksAt ops->ip ops t=some j->pre i j=true\/pre j i=true\/j=i
 awt:Region.noSelect ops=true
def tU (h:aR) (l:List (List ae)) :aR:=l.foldl (fun h cs=>h.push (.cells cs.length cs)) h
def mn (h h' : aR) :Prop:=∃ l,h'=tU h l
theorem X5:∀ (l:List (List ae)) (h:aR),(tU h l).n=h.n+l.length
 | [],h=>rfl
 | c::l,h=>by
  have:=X5 l (h.push (.cells c.length c));simp only[tU,List.foldl_cons,List.length_cons] at this ⊢;rw[this];simp only[dH,eK]; omega
theorem X6:∀ (l:List (List ae)) (h:aR) (b:Nat),b<h.n->(tU h l).f b=h.f b
 | [],h,b,_=>rfl
 | c::l,h,b,aj=>by
  have:=X6 l (h.push (.cells c.length c)) b (by simp only[dH,eK]; omega);simp only[tU,List.foldl_cons] at this ⊢;rw[this];simp only[dH,eK];exact ca _ _ _ _ (by omega)
theorem X4:∀ (l:List (List ae)) (h:aR),(∀ b,h.n<=b->h.f b=.none)->∀ b,(tU h l).n<=b->(tU h l).f b=.none
 | [],h,aJ=>aJ
 | c::l,h,aJ=>by
  refine X4 l (h.push (.cells c.length c)) (fun b aj=>?_);simp only[dH,eK] at aj ⊢;rw[ca _ _ _ _ (by omega)];exact aJ b (by omega)
theorem mn.n {h h' : aR} (g:mn h h') :h.n<=h'.n:=by obtain⟨l,rfl⟩:=g; rw[X5]; omega
theorem mn.same {h h' : aR} (g:mn h h') (b:Nat) (aj:b<h.n) :h'.f b=h.f b:=by obtain⟨l,rfl⟩:=g; exact X6 l h b aj
theorem mn.fresh {h h' : aR} (g:mn h h') (aJ:∀ b,h.n<=b->h.f b=.none) :∀ b,h'.n<=b->h'.f b=.none:=by obtain⟨l,rfl⟩:=g; exact X4 l h aJ
inductive oD (h ag:aR) :ae->ae->Prop
 | same (c:ae) :oD h ag c c
 | aV (cs cs' : List ae) (ar:cs'.length=cs.length) (ax:∀ (j:Nat) (c c' : ae),cs[j]? = some c->cs'[j]? = some c'->oD h ag c c') :oD h ag (.aV cs) (.aV cs')
 | ao (z b off len cap sz:Nat) (cs:List ae) (es:List (List ae)) (aj:h.f b=.cells sz cs) (bD:ag.f b=.dead) (ar:es.length=len) (aC:∀ e∈es,e.length=z)
   (ec:off+len*z<=cs.length)
   (ax:∀ (i j:Nat) (e:List ae) (c c' : ae),es[i]? = some e->e[j]? = some c'->cs[off+(i*z+j)]? = some c->oD h ag c c') :oD h ag (.ao z b off len cap sz) (.bW z es)
 | pA (z b off cap sz:Nat) :oD h ag (.ao z b off 0 cap sz) (.bW z [])
structure oE (h ag:aR) :Prop where
 n:ag.n=h.n
 blk:∀ b,ag.f b=h.f b\/∃ sz cs,h.f b=.cells sz cs/\(ag.f b=.dead\/∃ gW,ag.f b=.cells sz gW/\gW.length=cs.length/\∀ (j:Nat) (c dm:ae),cs[j]? = some c->gW[j]? = some dm->oD h ag c dm)
inductive J where
 | code (c:Code) (N:Nat) (ah:Nat->ae) (h:aR) (e:pK) (bZ:Nat->ae) (h' : aR)
 | ops (all:Array Oper) (l:List Oper) (N:Nat) (ah:Nat->ae) (h:aR) (bZ:Nat->ae) (h' : aR)
 | op (op:Op) (ah:Nat->ae) (h:aR) (v:ae) (h' : aR)
 | call (f:FuncId) (args:List ae) (h:aR) (r:ae) (h' : aR)
def wB (pre:Nat->Nat->Bool) (m:Nat) (au:Nat->Nat) (i k:Nat) :Prop:=k<=m/\(∀ q,q<m->pre i (au q)=true->q<k)/\∀ q,q<m->pre (au q) i=true->k<=q
inductive da (P:Program) (G:Nat->ae) :J->Prop where
 | skip (N ah h) :da P G (.code .skip N ah h .normal ah h)
 | label (l N ah h) :da P G (.code (.label l) N ah h .normal ah h)
 | ret (N ah h) :da P G (.code .ret N ah h .ret ah h)
 | exit (id N ah h) :da P G (.code (.exit id) N ah h (.exit id) ah h)
 | abz {a b N ah h hI h1 e bZ h'}:da P G (.code a N ah h .normal hI h1)->da P G (.code b N hI h1 e bZ h')->da P G (.code (.seq a b) N ah h e bZ h')
 | Nf {a b N ah h e bZ h'}:da P G (.code a N ah h e bZ h')->e≠.normal->da P G (.code (.seq a b) N ah h e bZ h')
 | cond {c x y N ah h b e bZ h'}:cT G ah c=.bool b->da P G (.code (if b then x else y) N ah h e bZ h')->da P G (.code (.cond c x y) N ah h e bZ h')
 | A7 {id c N ah h e bZ h'}:da P G (.code c N ah h e bZ h')->e≠.exit id->da P G (.code (.block id c) N ah h e bZ h')
 | OS {id c N ah h bZ h'}:da P G (.code c N ah h (.exit id) bZ h')->da P G (.code (.block id c) N ah h .normal bZ h')
 | xt {c N ah h hI h1 e bZ h'}:da P G (.code c N ah h .normal hI h1)->da P G (.code (.loop c) N hI h1 e bZ h')->da P G (.code (.loop c) N ah h e bZ h')
 | JX {c N ah h e bZ h'}:da P G (.code c N ah h e bZ h')->e≠.normal->da P G (.code (.loop c) N ah h e bZ h')
 | scope {c N ah h e bZ h'}:da P G (.code c N ah h e bZ h')->da P G (.code (.scope c) N ah h e bZ h')
 | region {id ops N ah h bZ h'}:da P G (.ops ops ops.toList N ah h bZ h')->da P G (.code (.region id ops false) N ah h .normal bZ h')
 | draw {id ops N ah h bZ h'} (pre:Nat->Nat->Bool) (val:Nat->ae) (W:Nat->Bool) (cls:Nat->AU) (m:Nat) (au:Nat->Nat) (e2 pN:Nat->aR) (fG:Nat->Nat) (cells:Nat->List ae)
   (go:q8 ops pre)
   (nQ:∀ (i:Nat) (o:Oper),ops[i]? = some o->nI N o.dst=true)
   (aO:mn h (e2 0)) (hm:h'=e2 m) (CX:bZ=fun t=>match ip ops t with | some i=>val i | none=>ah t)
   (u9:∀ (i:Nat) (o:Oper),ops[i]? = some o->W i=true->cls i=.fx->∃ q,q<m/\au q=i)
   (zd:∀ q,q<m->∃ o,ops[au q]? = some o/\W (au q)=true/\cls (au q)=.fx)
   (lx:∀ q eU,q<m->eU<m->q<eU->pre (au eU) (au q)=true)
   (gg:∀ q eU,q<m->eU<m->au q=au eU->q=eU)
   (tA:∀ (i:Nat) (o:Oper),ops[i]? = some o->jh ops (lm ops pre val ah i o) o=some (W i))
   (CO:∀ (i:Nat) (o:Oper),ops[i]? = some o->W i=false->val i=gp)
   (CG:∀ (i:Nat) (o:Oper),ops[i]? = some o->W i=true->cls i=.pure->∀ k,wB pre m au i k->cW P (e2 k) (cT G (lm ops pre val ah i o)) o.op=some (.val (val i) (e2 k)))
   (nW:∀ (i:Nat) (o:Oper),ops[i]? = some o->W i=true->cls i=.new->∃ mk,lF P (cT G (lm ops pre val ah i o)) o.op=some (cells i,mk)/\val i=mk (fG i)/\h.n<=fG i ∧
    ∀ k,wB pre m au i k->(e2 k).f (fG i)=.cells (cells i).length (cells i))
   (B8:∀ (i j:Nat) (o cC:Oper),ops[i]? = some o->ops[j]? = some cC->W i=true->W j=true->cls i=.new->cls j=.new->fG i=fG j->i=j)
   (B9:∀ (i:Nat) (o:Oper) (q:Nat),ops[i]? = some o->W i=true->cls i=.new->q<m->fG i<(e2 q).n\/(pN q).n<=fG i)
   (nR:∀ q,q<m->mn (pN q) (e2 (q+1)))
   (kN:∀ (q:Nat) (o:Oper),q<m->ops[au q]? = some o->da P G (.op o.op (lm ops pre val ah (au q) o) (e2 q) (val (au q)) (pN q))) :
   da P G (.code (.region id ops true) N ah h .normal bZ h')
 | XC {all N ah h}:da P G (.ops all [] N ah h ah h)
 | XE {all o l N ah h bZ h'}:jh all ah o=some false->nI N o.dst=true->da P G (.ops all l N (gn ah o.dst gp) h bZ h')->da P G (.ops all (o::l) N ah h bZ h')
 | XD {all o l N ah h v h1 bZ h'}:jh all ah o=some true->nI N o.dst=true->da P G (.op o.op ah h v h1)->da P G (.ops all l N (gn ah o.dst v) h1 bZ h')->da P G (.ops all (o::l) N ah h bZ h')
 | Dp {op ah h v h'}:cW P h (cT G ah) op=some (.val v h')->da P G (.op op ah h v h')
 | xG {op ah h f args h1 v h'}:cW P h (cT G ah) op=some (.call f args h1)->da P G (.call f args h1 v h')->da P G (.op op ah h v h')
 | Ea {op ah h v h' dt ag}:da P G (.op op ah h v h')->oE h' ag->oD h' ag v dt->da P G (.op op ah h dt ag)
 | inline {f fn c args h e bZ h' r}:P.funcs[f]? = some fn->fn.body=some c->
   da P G (.code c (args.length+(fn.ntmps - args.length)) (fun t=>args.getD t gp) h e bZ h')->(e=.normal\/e=.ret)->DK P h' bZ fn=some r->da P G (.call f args h r h')
 | pure {f args h r}:bT P G f args r->bV args=true->da P G (.call f args h r h)
 | KC {f args hk h r}:bT P G f hk r->hk.length=args.length->(∀ (j:Nat) (c c' : ae),args[j]? = some c->hk[j]? = some c'->fc h c c')->r.flat=true->da P G (.call f args h r h)
 | ext {f args h r h'}:q7 P G f args h r h'->da P G (.call f args h r h')
 | KD {f args hk h r}:h6 P G f hk r->hk.length=args.length->(∀ (j:Nat) (c c' : ae),args[j]? = some c->hk[j]? = some c'->fc h c c')->da P G (.call f args h r h)
section
variable {P:Program} {G:Nat->ae}
structure ld (N:Nat) (w:World) (R:Nat->Prop) (h:aR) (μ:cD) (ah:Nat->ae) (a:Act) :Prop where
 size:a.tmps.size=N
 defers:a.defers=[]
 val:∀ t,aU w R h μ (ah t) (a.tmps.getD t undef)
theorem ra.ext {w w' : World} {R:Nat->Prop} {h h' : aR} {μ μ' : cD} (g:ra G w R h μ) (e:di w h μ w' h' μ') :ra G w' R h' μ':=fun i=>⟨(g i).1,(g i).2.ext e⟩
theorem ld.ext {N:Nat} {w w' : World} {R:Nat->Prop} {h h' : aR} {μ μ' : cD} {ah:Nat->ae} {a:Act} (s:ld N w R h μ ah a) (e:di w h μ w' h' μ') :ld N w' R h' μ' ah a:=
 ⟨s.size,s.defers,fun t=>(s.val t).ext e⟩
theorem ld.cT {N:Nat} {w:World} {R:Nat->Prop} {h:aR} {μ:cD} {ah:Nat->ae} {a:Act} (s:ld N w R h μ ah a) (g:ra G w R h μ) (x:Operand) :aU w R h μ (cT G ah x) (a.eval x) :=by
 cases x with
 | tmp t=>exact s.val t
 | const v=>exact aU.tS v
 | global i=>exact (g i).2
 | func f=>exact .fn f [] [] #[] #[] rfl rfl (fun _ _ _ aQ=>by simp at aQ) (fun _ _ _ aQ=>by simp at aQ)
theorem NJ {w:World} {R:Nat->Prop} {h:aR} {μ:cD}:aU w R h μ gp undef:=.bP [] #[] rfl (fun _ _ _ aQ=>by simp at aQ)
theorem ld.put {N:Nat} {w:World} {R:Nat->Prop} {h:aR} {μ:cD} {ah:Nat->ae} {a:Act} (s:ld N w R h μ ah a) {dst:Option Tmp} (bD:nI N dst=true) {c:ae} {v:Value} (ax:aU w R h μ c v) :
  ld N w R h μ (gn ah dst c) (a.put dst v) :=by
 cases dst with
 | none=>exact s
 | some d=>
  have aS:d<a.tmps.size:=by rw[s.size]; simpa [nI] using bD
  refine⟨by simp[Act.put,s.size],s.defers,fun t=>?_⟩;simp only[gn,Act.put];by_cases aW:t=d
  ·subst aW;rw[iy];simp[aS];exact ax
  ·rw[ca _ _ _ _ aW];have:=s.val t;simpa [Array.getElem?_setIfInBounds_ne (Ne.symm aW)] using this
theorem NS {w:World} {R:Nat->Prop} {h:aR} {μ:cD} {ops:Array Oper} {ah:Nat->ae} {tmps:Array Value} {o:Oper} {b:Bool} (bx:jh ops ah o=some b)
  (ax:∀ d,(∃ j x4,o.guard=some (j,x4)/\(ops[j]?).bind (·.dst)=some d)->aU w R h μ (ah d) (tmps.getD d undef)) :Region.wanted o (yielded ops tmps)=b:=by
 unfold jh at bx;unfold Region.wanted;cases ay:o.guard with
 | none=>rw[ay] at bx; simpa using bx
 | some n8=>
  obtain⟨j,x4⟩:=n8;rw[ay] at bx;simp only at bx ⊢;unfold yielded;cases bD:(ops[j]?).bind (·.dst) with
  | none=>
   rw[bD] at bx;simp only[Option.some.injEq] at bx;subst bx;simp
  | some d=>
   rw[bD] at bx;have xh:=ax d ⟨j,x4,ay,bD⟩;simp only[Option.bind_some] at bx ⊢;cases aW:tmps[d]? with
   | none=>
    have aL:tmps.getD d undef=undef:=by simp[Array.getD_eq_getD_getElem?,aW]
    rw[aL] at xh;cases al:ah d<;>rw[al] at bx xh<;>simp at bx<;>try (subst bx; simp)
    all_goals cases xh
   | some v=>
    have aL:tmps.getD d undef=v:=by simp[Array.getD_eq_getD_getElem?,aW]
    rw[aL] at xh;cases al:ah d<;>rw[al] at bx xh<;>simp at bx
    all_goals (cases xh<;>(subst bx; simp))
def nm (P:Program) (n:Nat) (c:Code) (Q:Exit->Act->World->Prop) (a:Act) (w:World) :Prop:=
 match c with
 | .loop c'=>Code.rounds P c' Q n a w
 | c=>c.wp P Q a w
theorem nm.wp {n:Nat} {c:Code} {Q:Exit->Act->World->Prop} {a:Act} {w:World} (h:nm P n c Q a w) :c.wp P Q a w:=by
 cases c<;>first | exact wp_loop_rounds n h | exact h
def uA (P:Program) (G:Nat->ae) :J->Prop
 | .code c N ah h e bZ h'=>∃ n,∀ (R:Nat->Prop) (B:Nat) (w:World) (μ:cD) (a:Act) (Q:Exit->Act->World->Prop),b6 R B w h μ->ra G w R h μ->ld N w R h μ ah a->
   (∀ en w' μ',di w h μ w' h' μ'->b6 R B w' h' μ'->ld N w' R h' μ' bZ en->Q e.out en w')->nm P n c Q a w
 | .ops all l N ah h bZ h'=>∀ (R:Nat->Prop) (B:Nat) (w:World) (μ:cD) (a:Act) (Q:Exit->Act->World->Prop),b6 R B w h μ->ra G w R h μ->ld N w R h μ ah a->
   (∀ en w' μ',di w h μ w' h' μ'->b6 R B w' h' μ'->ld N w' R h' μ' bZ en->Q .normal en w')->wpList P all Q l a w
 | .op op ah h v h'=>∀ (R:Nat->Prop) (B:Nat) (w:World) (μ:cD) (a:Act) (o:Oper) (K:Act->World->Prop) (Q:Exit->Act->World->Prop),o.op=op->b6 R B w h μ->ra G w R h μ->
   (∀ x,aU w R h μ (cT G ah x) (a.eval x))->(∀ bc w' μ',di w h μ w' h' μ'->b6 R B w' h' μ'->aU w' R h' μ' v bc->K (a.put o.dst bc) w')->o.wp P a w K Q
 | .call f args h r h'=>q7 P G f args h r h'
theorem anW {N:Nat} {w:World} {R:Nat->Prop} {B:Nat} {h:aR} {μ:cD} {ah:Nat->ae} {a:Act} (rel:b6 R B w h μ) (s:ld N w R h μ ah a) {fn:Func} {r:ae} (aD:DK P h ah fn=some r) :
  ∃ v,(results fn a.tmps).run P w=.ok v w/\aU w R h μ r v:=by
 have one:∀ (x:ResultVar) (c:ae),xS P h ah x=some c->∃ v,(∀ F:ResultVar->Sem Value,(∀ t,F (.tmp t)=pure (a.tmps.getD t undef))->(∀ p t,F (.cell p t)=(do loadVar t (<-asAddr (a.tmps.getD p undef))))->(F x).run P w=.ok v w)/\aU w R h μ c v:=by
  intro x c ak;cases x with
  | tmp t=>
   simp only[xS,Option.some.injEq] at ak; subst ak;exact⟨_,fun F h1 _=>by rw[h1]; rfl,s.val t⟩
  | cell p t=>
   simp only[xS] at ak;obtain⟨v,h1,ag⟩:=W3 (P:=P) rel ak (s.val p);refine⟨v,fun F _ uW=>?_,ag⟩;rw[uW];cases aG:a.tmps.getD p undef with
   | pointer Oc=>
    cases Oc with
    | none=>rw[aG] at h1; simp[Instr.loadAt,Instr.sureAddr] at h1
    | some Oc=>rw[aG] at h1; simpa [Instr.loadAt,Instr.sureAddr,asAddr,aG] using h1
   | _=>rw[aG] at h1; simp[Instr.loadAt,Instr.sureAddr] at h1
 have all:∀ (l:List ResultVar) (cs:List ae),t2 P h ah l=some cs->∃ vs:List Value,(∀ F:ResultVar->Sem Value,(∀ t,F (.tmp t)=pure (a.tmps.getD t undef))->(∀ p t,F (.cell p t)=(do loadVar t (<-asAddr (a.tmps.getD p undef))))->(l.mapM F).run P w=.ok vs w) ∧
   vs.length=cs.length/\∀ (j:Nat) (c:ae) (v:Value),cs[j]? = some c->vs[j]? = some v->aU w R h μ c v:=by
  intro l
  induction l with
  | nil=>intro cs al; simp only[t2,Option.some.injEq] at al; subst al; exact⟨[],fun F _ _=>by simp,rfl,fun _ _ _ aQ=>by simp at aQ⟩
  | cons x l aM=>
   intro cs al;unfold t2 at al;split at al
   ·rename_i c cs' ak ar;simp only[Option.some.injEq] at al; subst al;obtain⟨v,h1,ag⟩:=one x c ak;obtain⟨vs,aq,aK,bg⟩:=aM cs' ar;refine⟨v::vs,fun F cc ch=>by simp only[List.mapM_cons,Sem.run_bind,h1 F cc ch,Result.andThen_ok,aq F cc ch,Sem.run_pure],by simp[aK],fun j c' bc am ax=>?_⟩;cases j with
    | zero=>simp at am ax; subst am ax; exact ag
    | succ j=>exact bg j c' bc (by simpa using am) (by simpa using ax)
   ·cases al
 unfold DK at aD;cases ar:t2 P h ah fn.results.toList with
 | none=>rw[ar] at aD; cases aD
 | some cs=>
  rw[ar] at aD;simp only[Option.map_some,Option.some.injEq] at aD; subst aD;obtain⟨vs,h1,ag,aq⟩:=all _ _ ar;have g3:(results fn a.tmps).run P w=.ok (if aQ:vs.toArray.size=1 then vs.toArray[0] else .tuple vs.toArray) w:=by
   unfold results;rw[Array.mapM_eq_mapM_toList];simp only[Sem.run_bind,Sem.run_map];rw[h1 _ (fun _=>rfl) (fun _ _=>rfl)];simp
  refine⟨_,g3,?_⟩
  match cs,vs,ag,aq with
  | [],[],_,_=>exact .bP [] #[] rfl (fun _ _ _ aQ=>by simp at aQ)
  | [c],[v],_,aq=>exact aq 0 c v rfl rfl
  | c::c'::cs,v::bc::vs,ag,aq=>
   simp only[List.size_toArray,List.length_cons];rw[dif_neg (by omega)];exact .bP _ _ (by simpa using ag) (fun j x y am aP=>aq j x y am (by simpa using aP))
theorem uG {w:World} {R:Nat->Prop} {h:aR} {μ:cD} {c:ae} {v:Value} (ax:aU w R h μ c v) :c.closed=true->eN w (fun k=>R k/\¬ ka h μ k) c v:=by
 have ar:∀ (cs:List ae),bV cs=true->∀ (j:Nat) (c:ae),cs[j]? = some c->c.closed=true:=by
  intro cs
  induction cs with
  | nil=>intro _ j c am; simp at am
  | cons x cs aM=>
   intro al j c am;simp only[bV,Bool.and_eq_true] at al;cases j with
   | zero=>simp at am; subst am; exact al.1
   | succ j=>exact aM al.2 j c (by simpa using am)
 have vf:∀ (es:List (List ae)),yD es=true->∀ (i:Nat) (e:List ae),es[i]? = some e->bV e=true:=by
  intro es
  induction es with
  | nil=>intro _ j c am; simp at am
  | cons x cs aM=>
   intro al j c am;simp only[yD,Bool.and_eq_true] at al;cases j with
   | zero=>simp at am; subst am; exact al.1
   | succ j=>exact aM al.2 j c (by simpa using am)
 have cell:∀ b o v,Cell w R h μ b o v->Cell w (fun k=>R k/\¬ ka h μ k) aR.empty (fun _=>none) b o v:=fun b o v al=>
  ⟨al.here,al.one,⟨al.ro,al.free⟩,fun ⟨b,m,h1,ag,aq⟩=>by cases ag⟩
 unfold eN
 induction ax with
 | bool b=>exact fun _=>.bool b
 | int k n=>exact fun _=>.int k n
 | str bs=>exact fun _=>.str bs
 | h0=>exact fun _=>.h0
 | aZ=>exact fun _=>.aZ
 | gG=>exact fun _=>.gG
 | hC=>exact fun _=>.hC
 | hZ=>exact fun _=>.hZ
 | aV cs vs bw h1 ax aM=>exact fun al=>.aV cs vs bw h1 fun j c v am eH=>aM j c v am eH (ar cs (by simpa [ae.closed] using al) j c am)
 | bP cs vs bw ax aM=>exact fun al=>.bP cs vs bw fun j c v am eH=>aM j c v am eH (ar cs (by simpa [ae.closed] using al) j c am)
 | ptr=>exact fun al=>by simp[ae.closed] at al
 | k0=>exact fun al=>by simp[ae.closed] at al
 | cp cs off blk o dI al ax aM=>exact fun dZ=>.cp cs off blk o dI (fun j am=>cell _ _ _ (al j am)) fun j c am=>aM j c am (ar cs (by simpa [ae.closed] using dZ) j c am)
 | ao=>exact fun al=>by simp[ae.closed] at al
 | fE=>exact fun al=>by simp[ae.closed] at al
 | gR=>exact fun al=>by simp[ae.closed] at al
 | bW z es blk off cap dI c1 aC al ax aM=>exact fun dZ=>.bW z es blk off cap dI c1 aC (fun i j aA am=>cell _ _ _ (al i j aA am)) fun i e aw j c am=>aM i e aw j c am (ar e (vf es (by simpa [ae.closed] using dZ) i e aw) j c am)
 | e1 z a cap=>exact fun _=>.e1 z a cap
 | fn f first e6 fs cs aJ al h1 ag dL ku=>
  intro dZ;simp only[ae.closed,Bool.and_eq_true] at dZ;exact .fn f first e6 fs cs aJ al (fun j c v am eH=>dL j c v am eH (ar _ dZ.1 j c am)) fun j c v am eH=>ku j c v am eH (ar _ dZ.2 j c am)
 | mp=>exact fun al=>by simp[ae.closed] at al
 | it=>exact fun al=>by simp[ae.closed] at al
 | fK t c v ax aM=>exact fun dZ=>.fK t c v (aM (by simpa [ae.closed] using dZ))
 | kC l=>exact fun _=>.kC l
 | bad v=>exact fun _=>.bad v
theorem yE {cs:List ae} (al:bV cs=true) :∀ (j:Nat) (c:ae),cs[j]? = some c->c.closed=true:=by
 induction cs with
 | nil=>intro j c am; simp at am
 | cons x cs aM=>
  intro j c am;simp only[bV,Bool.and_eq_true] at al;cases j with
  | zero=>simp at am; subst am; exact al.1
  | succ j=>exact aM al.2 j c (by simpa using am)
theorem eN.up {w:World} {A:Nat->Prop} {R:Nat->Prop} {h:aR} {μ:cD} {c:ae} {v:Value} (ax:eN w A c v) (cR:∀ k,k<w.heap.size->A k->R k/\¬ ka h μ k) :aU w R h μ c v:=by
 have cell:∀ b o v,Cell w A aR.empty (fun _=>none) b o v->Cell w R h μ b o v:=fun b o v al=>
  have aj:b<w.heap.size:=World.block_lt_of_cell? _ _ al.here
  ⟨al.here,al.one,(cR b aj al.ro).1,(cR b aj al.ro).2⟩
 unfold eN at ax
 induction ax with
 | bool b=>exact .bool b
 | int k n=>exact .int k n
 | str bs=>exact .str bs
 | h0=>exact .h0
 | aZ=>exact .aZ
 | gG=>exact .gG
 | hC=>exact .hC
 | hZ=>exact .hZ
 | aV cs vs bw h1 ax aM=>exact .aV cs vs bw h1 aM
 | bP cs vs bw ax aM=>exact .bP cs vs bw aM
 | ptr b off sz cs m aj hm=>cases hm
 | k0 b off sz a ay=>rcases ay with ay | ⟨n,cs,ay,_⟩<;>cases ay
 | cp cs off blk o dI al ax aM=>exact .cp cs off blk o dI (fun j am=>cell _ _ _ (al j am)) aM
 | ao z b off len cap sz cap' cs m aj hm=>cases hm
 | fE z b off len cap sz cap' a ar al ay=>rcases ay with ay | ⟨n,cs,ay,_⟩<;>cases ay
 | gR z b off sz a cs m aj hm=>cases hm
 | bW z es blk off cap dI c1 aC al ax aM=>exact .bW z es blk off cap dI c1 aC (fun i j aA am=>cell _ _ _ (al i j aA am)) aM
 | e1 z a cap=>exact .e1 z a cap
 | fn f first e6 fs cs aJ al h1 ag dL ku=>exact .fn f first e6 fs cs aJ al dL ku
 | mp b m aj hm=>cases hm
 | it b m aj hm=>cases hm
 | fK t c v ax aM=>exact .fK t c v aM
 | kC l=>exact .kC l
 | bad v=>exact .bad v
theorem XK {R:Nat->Prop} {B:Nat} {w:World} {h:aR} {μ:cD} (rel:b6 R B w h μ) {k:Nat} (az:ka h μ k) :k<w.heap.size:=by
 obtain⟨b,m,h1,ag,rfl⟩:=az;exact rel.lt h1 ag
theorem Au {R:Nat->Prop} {B:Nat} {w w' : World} {h:aR} {μ:cD} (rel:b6 R B w h μ) (aj:v6 w w') :di w h μ w' h μ/\b6 R B w' h μ:=by
 have e:di w h μ w' h μ:=⟨⟨aj.os,aj.tape,aj.output,aj.size,fun k aF _=>aj.block k aF,fun _ az=>.inl az,fun b sz cs m h1 ag=>.inl ⟨cs,h1,ag⟩,fun _ _ ay=>ay,fun _ _ _ h1 ag=>⟨h1,ag⟩,Nat.le_refl _,aj.drawn⟩,fun _ _ hm=>hm⟩
 refine⟨e,fun b m hm=>?_,rel.inj,rel.base,rel.fresh,rel.up,Nat.le_trans rel.size aj.size,rel.jJ⟩;cases ar:live (h.f b) with
 | false=>cases al:h.f b<;>first | trivial | (rw[al] at ar; cases ar)
 | true=>exact (rel.blk b m hm).ext e.toExt0 (aj.block _ (rel.lt ar hm))
theorem aa2 {w:World} {R:Nat->Prop} {B:Nat} {h:aR} {μ:cD} (rel:b6 R B w h μ) :∀ {c c' : ae},fc h c c'->∀ {v:Value},aU w R h μ c v->eN w R c' v:=by
 intro c c' aD;have oP:∀ {b sz:Nat} {cs:List ae} {m:M},h.f b=.cells sz cs->μ b=some m->∃ f:Nat->Value,∀ (j:Nat) (c:ae),cs[j]? = some c->Cell w R aR.empty (fun _=>none) m.r (m.s+j) (f j)/\aU w R h μ c (f j) :=by
  intro b sz cs m aj hm;have f0:=rel.blk b m hm;rw[aj] at f0;obtain⟨cH,eu,arr,t,fh,bx,aI,aJ,kO⟩:=f0;have rE:R m.r:=rel.up _ (rel.base b m (by rw[aj]; rfl) hm);refine⟨fun j=>(arr[m.s+j]?).getD undef,fun j c am=>?_⟩;obtain⟨v,h1,ag,aq⟩:=kO _ _ am;refine⟨⟨?_,by simp only[h1,Option.getD_some]; exact ag,rE,fun ⟨b,m,h1,ag,aq⟩=>by cases ag⟩,by simp only[h1,Option.getD_some]; exact aq⟩;simp only[World.cell?,bx,h1,Option.getD_some,Option.isSome_none];rfl
 induction aD with
 | same c al=>
  intro v ax;exact (eN.up (uG ax al) fun k _ aF=>⟨aF.1,fun ⟨b,m,h1,ag,aq⟩=>by cases ag⟩:aU w R aR.empty (fun _=>none) _ v)
 | aV cs cs' ar h aM=>
  intro v ax;cases ax with
  | aV _ vs fI h1 ax=>
   refine .aV cs' vs (by omega) h1 (fun j c' v am eH=>?_);have aS:j<cs.length:=by rw[<-ar]; exact (List.getElem?_eq_some_iff.1 am).1
   exact aM j cs[j] c' (List.getElem?_eq_getElem aS) am (ax j cs[j] v (List.getElem?_eq_getElem aS) eH)
 | bP cs cs' ar h aM=>
  intro v ax;cases ax with
  | bP _ vs fI ax=>
   refine .bP cs' vs (by omega) (fun j c' v am eH=>?_);have aS:j<cs.length:=by rw[<-ar]; exact (List.getElem?_eq_some_iff.1 am).1
   exact aM j cs[j] c' (List.getElem?_eq_getElem aS) am (ax j cs[j] v (List.getElem?_eq_getElem aS) eH)
 | pA z b off cap sz=>
  intro v ax;cases ax with
  | ao _ _ _ _ _ _ cap' cs m aj hm ar az al=>exact .e1 z _ cap'
  | fE _ _ _ _ _ _ cap' a ar al ay=>exact .e1 z _ cap'
  | gR _ _ _ _ a cs m aj hm=>exact .e1 z a 0
 | ptr b off sz cs cs' aj ar h aM=>
  intro v ax;cases ax with
  | k0 _ _ _ a ay=>
   exfalso;rcases ay with ay | ⟨n,gW,ay,aS⟩
   ·rw[aj] at ay; cases ay
   ·rw[aj] at ay; cases ay; omega
  | ptr _ _ _ gW m fz hm=>
   obtain⟨f,aJ⟩:=oP aj hm;refine .cp cs' off m.r m.s f (fun j am=>?_) (fun j c' am=>?_)
   ·exact (aJ j cs[j] (List.getElem?_eq_getElem (by omega))).1
   ·have aS:j<cs.length:=by rw[<-ar]; exact (List.getElem?_eq_some_iff.1 am).1
    exact aM j cs[j] c' (List.getElem?_eq_getElem aS) am (aJ j cs[j] (List.getElem?_eq_getElem aS)).2
 | ao z b off len cap sz cs es aj ar aC ec h aM=>
  intro v ax;cases ax with
  | gR _ _ _ _ a gW m fz jC=>
   obtain rfl:=List.length_eq_zero_iff.1 ar;exact .e1 z a 0
  | fE _ _ _ _ _ _ cap' a ar al ay=>
   exfalso;rcases ay with ay | ⟨n,gW,ay,aS⟩
   ·rw[aj] at ay; cases ay
   ·rw[aj] at ay; cases ay; omega
  | ao _ _ _ _ _ _ cap' gW m fz hm gC az al=>
   have cX:len<=cap':=by rcases al with ⟨_,h⟩ | ⟨_,h,_⟩<;>omega
   obtain⟨f,aJ⟩:=oP aj hm;subst ar;have aS:∀ i j,i<es.length->j<z->off+(i*z+j)<cs.length:=by
    intro i j aA am;have:i*z+z<=es.length*z:=by rw[<-Nat.succ_mul]; exact Nat.mul_le_mul_right _ aA
    omega
   refine .bW z es m.r (m.s+off) cap' (fun i j=>f (off+(i*z+j))) cX aC (fun i j aA am=>?_) (fun i e aw j c' am=>?_)
   ·have:=(aJ _ _ (List.getElem?_eq_getElem (aS i j aA am))).1;rw[<-Nat.add_assoc] at this;exact this
   ·have aA:i<es.length:=(List.getElem?_eq_some_iff.1 aw).1;have kQ:j<z:=by rw[<-aC e (List.mem_of_getElem? aw)]; exact (List.getElem?_eq_some_iff.1 am).1
    exact aM i j e _ c' aw am (List.getElem?_eq_getElem (aS i j aA kQ)) (aJ _ _ (List.getElem?_eq_getElem (aS i j aA kQ))).2
theorem BG:∀ {cs:List ae},kg cs=true->∀ (j:Nat) (c:ae),cs[j]? = some c->c.flat=true:=by
 intro cs
 induction cs with
 | nil=>intro _ j c h; simp at h
 | cons x cs aM=>
  intro al j c am;simp only[kg,Bool.and_eq_true] at al;cases j with
  | zero=>simp at am; subst am; exact al.1
  | succ j=>exact aM al.2 j c (by simpa using am)
theorem SL {w w' : World} {A R:Nat->Prop} {h h' : aR} {μ μ' : cD} {c:ae} {v:Value} (ax:aU w A h μ c v) (aJ:c.flat=true) :aU w' R h' μ' c v:=by
 induction ax with
 | bool b=>exact .bool b
 | int k n=>exact .int k n
 | str bs=>exact .str bs
 | h0=>exact .h0
 | aZ=>exact .aZ
 | gG=>exact .gG
 | hC=>exact .hC
 | hZ=>exact .hZ
 | aV cs vs bw h1 ax aM=>exact .aV cs vs bw h1 (fun j c v am eH=>aM j c v am eH (BG (by simpa only [ae.flat] using aJ) j c am))
 | bP cs vs bw ax aM=>exact .bP cs vs bw (fun j c v am eH=>aM j c v am eH (BG (by simpa only [ae.flat] using aJ) j c am))
 | fK t c v ax aM=>exact .fK t c v (aM (by simpa only [ae.flat] using aJ))
 | kC l=>exact .kC l
 | _=>simp[ae.flat] at aJ
theorem amp {f:FuncId} {args hk:List ae} {r:ae} {h:aR} (aG:bT P G f hk r) (bw:hk.length=args.length) (l4:∀ (j:Nat) (c c' : ae),args[j]? = some c->hk[j]? = some c'->fc h c c')
  (fT:r.flat=true) :uA P G (.call f args h r h) :=by
 intro R B w μ vs rel g ar ax;refine (aG w R vs (fun i=>?_) (by omega) (fun j c' v am eH=>?_)).mono ?_
 ·exact (eN.up (uG (g i).2 (g i).1) fun k _ aF=>⟨aF.1,fun ⟨b,m,h1,ag,aq⟩=>by cases ag⟩:aU w R aR.empty (fun _=>none) _ _)
 ·have aS:j<args.length:=by rw[<-bw]; exact (List.getElem?_eq_some_iff.1 am).1
  exact aa2 rel (l4 j args[j] c' (List.getElem?_eq_getElem aS) am) (ax j args[j] v (List.getElem?_eq_getElem aS) eH)
 ·rintro e w' ⟨v,rfl,aj,aD⟩;obtain⟨cc,ch⟩:=Au rel aj;exact⟨v,μ,rfl,cc,ch,SL aD fT⟩
theorem amq {f:FuncId} {args hk:List ae} {r:ae} {h:aR} (aG:h6 P G f hk r) (bw:hk.length=args.length) (l4:∀ (j:Nat) (c c' : ae),args[j]? = some c->hk[j]? = some c'->fc h c c') :uA P G (.call f args h r h) :=by
 intro R B w μ vs rel g ar ax;refine (aG w R vs (fun i=>?_) (by omega) (fun j c' v am eH=>?_)).mono ?_
 ·exact (eN.up (uG (g i).2 (g i).1) fun k _ aF=>⟨aF.1,fun ⟨b,m,h1,ag,aq⟩=>by cases ag⟩:aU w R aR.empty (fun _=>none) _ _)
 ·have aS:j<args.length:=by rw[<-bw]; exact (List.getElem?_eq_some_iff.1 am).1
  exact aa2 rel (l4 j args[j] c' (List.getElem?_eq_getElem aS) am) (ax j args[j] v (List.getElem?_eq_getElem aS) eH)
 ·rintro e w' ⟨v,rfl,aj,aD⟩;obtain⟨cc,ch⟩:=Au rel aj;exact⟨v,μ,rfl,cc,ch,aD.up fun k aF cR=>⟨rel.up k (Nat.le_trans rel.size cR),fun az=>by have:=XK rel az; omega⟩⟩
theorem h6.x1 {f:FuncId} {args:List ae} {r:ae} (aG:h6 P G f args r) :bT P G f args r:=fun w A vs ay ar ax=>
 (aG w A vs ay ar ax).mono fun e w' ⟨v,h1,ag,aq⟩=>⟨v,h1,ag,(eN.up aq fun k _ aF=>⟨.inr aF,fun ⟨b,m,h1,ag,aq⟩=>by cases ag⟩:aU w' _ aR.empty (fun _=>none) _ _)⟩
theorem amr {f:FuncId} {args:List ae} {r:ae} {h:aR} (aG:bT P G f args r) (al:bV args=true) :uA P G (.call f args h r h) :=by
 intro R B w μ vs rel g ar ax;refine (aG w (fun k=>R k/\¬ ka h μ k) vs (fun i=>?_) ar (fun j c v am eH=>uG (ax j c v am eH) (yE al j c am))).mono ?_
 ·exact uG (g i).2 (g i).1
 ·rintro e w' ⟨v,rfl,aj,aD⟩;obtain⟨cc,ch⟩:=Au rel aj;refine⟨v,μ,rfl,cc,ch,aD.up (fun k aF cR=>?_)⟩;rcases cR with cR | cR
  ·exact cR
  ·exact⟨rel.up k (Nat.le_trans rel.size cR),fun az=>by have:=XK rel az; omega⟩
end
section
variable {P:Program} {G:Nat->ae}
theorem Xm {w:World} {R:Nat->Prop} {h:aR} {μ:cD} {aB:Operand->ae} {dA:Operand->Value} (cZ:∀ x,aU w R h μ (aB x) (dA x)) (o:Oper) {cs:List ae} {mk:Nat->ae} (aH:lF P aB o.op=some (cs,mk)) :
  ∃ v arr t,(execOp dA o).run P w=.ok (.value v) (w.alloc (.cells arr t))/\jP w R h μ cs arr ∧
   ∀ (w' : World) (re:Nat->Prop) (h' : aR) (μ' : cD) (b:Nat),h'.f b=.cells cs.length cs->μ' b=some ⟨w.heap.size,0,arr.size⟩->aU w' re h' μ' (mk b) v:=by
 obtain⟨dst,op,type,pos,after,guard⟩:=o;cases op<;>simp only[lF] at aH<;>try (cases aH; done)
 case alloc t=>
  cases aC:gH P t with
  | none=>rw[aC] at aH; cases aH
  | some z=>
   rw[aC] at aH;simp only[Option.map_some,Option.some.injEq,Prod.mk.injEq] at aH;obtain⟨rfl,rfl⟩:=aH;obtain⟨v,ax,aD⟩:=uv (P:=P) (w:=w) (R:=R) (h:=h) (μ:=μ) aC;refine⟨.pointer (some ⟨w.heap.size,0,none⟩),v.cells,t,by simp[execOp,Instr.alloc,ax,newVar,newRow],aD,fun w' re h' μ' b aj hm=>?_⟩;have:=aU.ptr (w:=w') (R:=re) (h:=h') (μ:=μ') b 0 z.length z _ aj hm;simpa using this
 case box t x=>
  cases aC:(aB x).cells with
  | none=>rw[aC] at aH; cases aH
  | some z=>
   rw[aC] at aH;simp only[Option.map_some,Option.some.injEq,Prod.mk.injEq] at aH;obtain⟨rfl,rfl⟩:=aH;obtain⟨cc,ch⟩:=Bj (cZ x) aC;refine⟨.pointer (some ⟨w.heap.size,0,none⟩),(dA x).cells,t,by simp[execOp,Instr.box,newVar,newRow],⟨cc,ch⟩,fun w' re h' μ' b aj hm=>?_⟩;have:=aU.ptr (w:=w') (R:=re) (h:=h') (μ:=μ') b 0 z.length z _ aj hm;simpa using this
 case buildSlice t len ew=>
  cases aw:hl P t with
  | none=>rw[aw] at aH; cases aH
  | some e=>
  rw[aw] at aH;simp only at aH;cases aC:cr P e with
  | none=>rw[aC] at aH; cases aH
  | some z=>
  cases hA:gH P e with
  | none=>rw[aC,hA] at aH; cases aH
  | some zero=>
  rw[aC,hA] at aH;simp only at aH;split at aH
  ·rename_i ic;cases aJ:gB (fun i=>some (i*z,z)) (dd zero len) (ew.toList.map fun p=>(p.1,aB p.2)) with
   | none=>rw[aJ] at aH; cases aH
   | some cs'=>
    rw[aJ] at aH;simp only[Option.map_some,Option.some.injEq,Prod.mk.injEq] at aH;obtain⟨rfl,rfl⟩:=aH;obtain⟨cc,ch⟩:=Ks cZ ew;obtain⟨dZ,arr,g3,ag⟩:=OX aw aC hA ic.1 ic.2 aJ cc ch;refine⟨.slice (some ⟨w.heap.size,0,none⟩) len len,arr,e,by simp[execOp,g3],ag,fun w' re h' μ' b aj hm=>?_⟩;rw[dZ] at aj;have:=aU.ao (w:=w') (R:=re) (h:=h') (μ:=μ') z b 0 len len (len*z) len _ _ aj hm (Nat.le_refl _) (by omega) (.inr ⟨by omega,Nat.le_refl _,by simp only; rw[ag.1,dZ]; omega⟩);simpa using this
  ·cases aH
 case makeSlice t l c=>
  split at aH
  ·rename_i e li gx aw hT e4;obtain⟨kl,nU⟩:=pS hT (cZ l);obtain⟨kc,iW⟩:=pS e4 (cZ c);cases aC:cr P e with
   | none=>rw[aC] at aH; cases aH
   | some z=>
   cases dE:iT P e with
   | none=>rw[aC,dE] at aH; cases aH
   | some by_=>
   cases hA:gH P e with
   | none=>rw[aC,dE,hA] at aH; cases aH
   | some zero=>
   rw[aC,dE,hA] at aH;simp only at aH;split at aH
   ·rename_i ic;obtain⟨gN,aO,mP,Cc,dk⟩:=ic;simp only[Option.some.injEq,Prod.mk.injEq] at aH;obtain⟨rfl,rfl⟩:=aH;obtain⟨bw,arr,g3,cA⟩:=Xa (w:=w) (R:=R) (h:=h) (μ:=μ) (kl:=kl) (kc:=kc) aw aC dE hA gN aO mP Cc dk;refine⟨.slice (some ⟨w.heap.size,0,none⟩) li.toNat gx.toNat,arr,e,by simp[execOp,nU,iW,g3],cA,fun w' re h' μ' b aj hm=>?_⟩;rw[bw] at aj;have:=aU.ao (w:=w') (R:=re) (h:=h') (μ:=μ') z b 0 li.toNat gx.toNat (gx.toNat*z) gx.toNat _ _ aj hm (by omega) (by omega) (.inr ⟨by omega,Nat.le_refl _,by simp only; rw[cA.1,bw]; omega⟩);simpa using this
   ·cases aH
  ·cases aH
theorem mn.rel {R:Nat->Prop} {B:Nat} {w:World} {h h' : aR} {μ:cD} (g:mn h h') (rel:b6 R B w h μ) :di w h μ w h' μ/\b6 R B w h' μ:=by
 have aS:∀ b m,μ b=some m->b<h.n:=fun b m hm=>rel.pT hm
 have e:di w h μ w h' μ:=by
  refine⟨⟨rfl,rfl,rfl,Nat.le_refl _,fun _ _ _=>rfl,?_,?_,?_,?_,g.n,Nat.le_refl _⟩,fun _ _ hm=>hm⟩
  ·rintro k ⟨b,m,ar,hm,rfl⟩;rw[g.same b (aS b m hm)] at ar;exact .inl ⟨b,m,ar,hm,rfl⟩
  ·intro b sz cs m aj hm;exact .inl ⟨cs,by rw[g.same b (aS b m hm)]; exact aj,hm⟩
  ·rintro b sz ay;have aj:b<h.n:=by
    rcases Nat.lt_or_ge b h.n with h1 | h1
    ·exact h1
    ·have:=rel.fresh b h1;rcases ay with ay | ⟨n,cs,ay,_⟩<;>rw[this] at ay<;>cases ay
   rcases ay with ay | ⟨n,cs,ay,hU⟩
   ·exact .inl (by rw[g.same b aj]; exact ay)
   ·exact .inr ⟨n,cs,by rw[g.same b aj]; exact ay,hU⟩
  ·intro b k m aj hm;exact⟨by rw[g.same b (aS b m hm)]; exact aj,hm⟩
 refine⟨e,fun b m hm=>?_,fun b bu m ck ar c1 hm b1 aD=>?_,fun b m ar hm=>?_,g.fresh rel.fresh,rel.up,rel.size,fun b aj=>rel.jJ b (Nat.le_trans g.n aj)⟩
 ·rw[g.same b (aS b m hm)];exact (rel.blk b m hm).ext e.toExt0 rfl
 ·rw[g.same b (aS b m hm)] at ar;rw[g.same bu (aS bu ck b1)] at c1;exact rel.inj b bu m ck ar c1 hm b1 aD
 ·rw[g.same b (aS b m hm)] at ar;exact rel.base b m ar hm
theorem ab7 {K:Act->World->Prop} {Q:Exit->Act->World->Prop} {e:pK} {a:Act} {w:World} (aw:e≠.normal) (h:Q e.out a w) :Exit.then K Q e.out a w:=by
 cases e with
 | normal=>exact absurd rfl aw
 | exit id=>exact h
 | ret=>exact h
theorem adZ {id:Nat} {Q:Exit->Act->World->Prop} {e:pK} {a:Act} {w:World} (aw:e≠.exit id) (h:Q e.out a w) :Exit.inBlock id Q e.out a w:=by
 cases e with
 | normal=>exact h
 | exit qx=>
  have:qx≠id:=fun aQ=>aw (by rw[aQ])
  simpa [Exit.inBlock,pK.out,this] using h
 | ret=>exact h
def N1 (P:Program) (G:Nat->ae) :Prop:=
 ∀ {id:Nat} {ops:Array Oper} {N:Nat} {ah:Nat->ae} {h:aR} {bZ:Nat->ae} {h' : aR} (pre:Nat->Nat->Bool) (val:Nat->ae) (W:Nat->Bool) (cls:Nat->AU) (m:Nat) (au:Nat->Nat) (e2 pN:Nat->aR) (fG:Nat->Nat) (cells:Nat->List ae),
  q8 ops pre->
  (∀ (i:Nat) (o:Oper),ops[i]? = some o->nI N o.dst=true)->
  mn h (e2 0)->h'=e2 m->(bZ=fun t=>match ip ops t with | some i=>val i | none=>ah t)->
  (∀ (i:Nat) (o:Oper),ops[i]? = some o->W i=true->cls i=.fx->∃ q,q<m/\au q=i)->
  (∀ q,q<m->∃ o,ops[au q]? = some o/\W (au q)=true/\cls (au q)=.fx)->
  (∀ q eU,q<m->eU<m->q<eU->pre (au eU) (au q)=true)->
  (∀ q eU,q<m->eU<m->au q=au eU->q=eU)->
  (∀ (i:Nat) (o:Oper),ops[i]? = some o->jh ops (lm ops pre val ah i o) o=some (W i))->
  (∀ (i:Nat) (o:Oper),ops[i]? = some o->W i=false->val i=gp)->
  (∀ (i:Nat) (o:Oper),ops[i]? = some o->W i=true->cls i=.pure->∀ k,wB pre m au i k->cW P (e2 k) (cT G (lm ops pre val ah i o)) o.op=some (.val (val i) (e2 k)))->
  (∀ (i:Nat) (o:Oper),ops[i]? = some o->W i=true->cls i=.new->∃ mk,lF P (cT G (lm ops pre val ah i o)) o.op=some (cells i,mk)/\val i=mk (fG i)/\h.n<=fG i ∧
    ∀ k,wB pre m au i k->(e2 k).f (fG i)=.cells (cells i).length (cells i))->
  (∀ (i j:Nat) (o cC:Oper),ops[i]? = some o->ops[j]? = some cC->W i=true->W j=true->cls i=.new->cls j=.new->fG i=fG j->i=j)->
  (∀ (i:Nat) (o:Oper) (q:Nat),ops[i]? = some o->W i=true->cls i=.new->q<m->fG i<(e2 q).n\/(pN q).n<=fG i)->
  (∀ q,q<m->mn (pN q) (e2 (q+1)))->
  (∀ (q:Nat) (o:Oper),q<m->ops[au q]? = some o->uA P G (.op o.op (lm ops pre val ah (au q) o) (e2 q) (val (au q)) (pN q)))->
  uA P G (.code (.region id ops true) N ah h .normal bZ h')
theorem oE.ext {h ag:aR} (k:oE h ag) (w:World) (μ:cD) :di w h μ w ag μ:=by
 refine⟨⟨rfl,rfl,rfl,Nat.le_refl _,fun _ _ _=>rfl,?_,?_,?_,?_,Nat.le_of_eq k.n.symm,Nat.le_refl _⟩,fun _ _ hm=>hm⟩
 ·rintro r ⟨b,m,ar,hm,rfl⟩;refine .inl ⟨b,m,?_,hm,rfl⟩;rcases k.blk b with aw | ⟨sz,cs,al,_⟩
  ·rw[<-aw]; exact ar
  ·rw[al]; rfl
 ·intro b sz cs m aj hm;rcases k.blk b with aw | ⟨sz',cs',al,bD | ⟨gW,y0,_⟩⟩
  ·exact .inl ⟨cs,by rw[aw]; exact aj,hm⟩
  ·exact .inr (.inl bD)
  ·rw[aj] at al; cases al; exact .inl ⟨gW,y0,hm⟩
 ·rintro b sz (aj | ⟨n,cs,aj,aS⟩)
  ·rcases k.blk b with aw | ⟨sz',cs',al,_⟩
   ·exact .inl (aw.trans aj)
   ·rw[aj] at al; cases al
  ·rcases k.blk b with aw | ⟨sz',cs',al,bD | ⟨gW,y0,_⟩⟩
   ·exact .inr ⟨n,cs,by rw[aw]; exact aj,aS⟩
   ·exact .inl bD
   ·rw[aj] at al; cases al; exact .inr ⟨n,gW,y0,aS⟩
 ·intro b iE m aj hm;rcases k.blk b with aw | ⟨sz',cs',al,_⟩
  ·exact⟨by rw[aw]; exact aj,hm⟩
  ·rw[al] at aj; cases aj
theorem oE.live {h ag:aR} (k:oE h ag) {b:Nat} (ar:live (ag.f b)=true) :live (h.f b)=true:=by
 rcases k.blk b with aw | ⟨sz,cs,al,_⟩
 ·rw[<-aw]; exact ar
 ·rw[al]; rfl
theorem oE.ow {R:Nat->Prop} {B:Nat} {w:World} {h ag:aR} {μ:cD} (rel:b6 R B w h μ) (k:oE h ag) :∀ {c dm:ae},oD h ag c dm->∀ {v:Value},aU w R h μ c v->aU w R ag μ dm v:=by
 intro c dm aD
 induction aD with
 | same c=>intro v ax; exact ax.ext (k.ext w μ)
 | aV cs cs' ar h aM=>
  intro v ax;cases ax with
  | aV _ vs fI h1 ax=>
   refine .aV cs' vs (by omega) h1 (fun j c' v am eH=>?_);have aS:j<cs.length:=by rw[<-ar]; exact (List.getElem?_eq_some_iff.1 am).1
   exact aM j cs[j] c' (List.getElem?_eq_getElem aS) am (ax j cs[j] v (List.getElem?_eq_getElem aS) eH)
 | pA z b off cap sz=>
  intro v ax;cases ax with
  | ao _ _ _ _ _ _ cap' cs m aj hm ar az al=>exact .e1 z _ cap'
  | fE _ _ _ _ _ _ cap' a ar al ay=>exact .e1 z _ cap'
  | gR _ _ _ _ a cs m aj hm=>exact .e1 z a 0
 | ao z b off len cap sz cs es aj bD ar aC ec ax aM=>
  intro v ax;cases ax with
  | gR _ _ _ _ a gW m fz jC=>
   obtain rfl:=List.length_eq_zero_iff.1 ar;exact .e1 z a 0
  | fE _ _ _ _ _ _ cap' a ar al ay=>
   exfalso;rcases ay with ay | ⟨n,gW,ay,aS⟩
   ·rw[aj] at ay; cases ay
   ·rw[aj] at ay; cases ay; omega
  | ao _ _ _ _ _ _ cap' gW m fz hm gC az al=>
   rw[aj] at fz; cases fz;have f0:=rel.blk b m hm;rw[aj] at f0;obtain⟨cH,eu,arr,t,fh,bx,aI,aJ,kO⟩:=f0;have cX:len<=cap':=by rcases al with ⟨_,h⟩ | ⟨_,h,_⟩<;>omega
   have w0:Go.cj.live (h.f b)=true:=by rw[aj]; rfl
   have rE:R m.r:=rel.up _ (rel.base b m w0 hm);have eE:¬ ka ag μ m.r:=by
    rintro⟨bu,ck,c1,b1,jD⟩;have:=rel.inj bu b ck m (k.live c1) w0 b1 hm jD;subst this;rw[bD] at c1; cases c1
   subst ar;have oP:∀ i j,i<es.length->j<z->∃ c v,cs[off+(i*z+j)]? = some c/\arr[m.s+(off+(i*z+j))]? = some v/\v.oneCell'=true/\aU w R h μ c v:=by
    intro i j aA am;have aS:off+(i*z+j)<cs.length:=by
     have:i*z+z<=es.length*z:=by rw[<-Nat.succ_mul]; exact Nat.mul_le_mul_right _ aA
     omega
    obtain⟨v,h1,ag,aq⟩:=kO _ _ (List.getElem?_eq_getElem aS);exact⟨_,v,List.getElem?_eq_getElem aS,h1,ag,aq⟩
   refine .bW z es m.r (m.s+off) cap' (fun i j=>(arr[m.s+(off+(i*z+j))]?).getD undef) cX aC (fun i j aA am=>?_) (fun i e aw j c' am=>?_)
   ·obtain⟨c,v,h1,ag,aq,aK⟩:=oP i j aA am;refine⟨?_,?_,rE,eE⟩
    ·simp only[World.cell?,bx,ag,Option.getD_some,Option.isSome_none];rw[show m.s+off+(i*z+j)=m.s+(off+(i*z+j)) by omega,ag]; rfl
    ·rw[ag]; exact aq
   ·have aA:i<es.length:=(List.getElem?_eq_some_iff.1 aw).1;have kQ:j<z:=by rw[<-aC e (List.mem_of_getElem? aw)]; exact (List.getElem?_eq_some_iff.1 am).1
    obtain⟨c,v,h1,ag,aq,aK⟩:=oP i j aA kQ;simp only[ag,Option.getD_some];exact aM i j e c c' aw am h1 aK
theorem oE.rel {R:Nat->Prop} {B:Nat} {w:World} {h ag:aR} {μ:cD} (rel:b6 R B w h μ) (k:oE h ag) :b6 R B w ag μ:=by
 refine⟨?_,?_,?_,?_,rel.up,rel.size,?_⟩
 ·intro b m hm;have aj:=rel.blk b m hm;rcases k.blk b with aw | ⟨sz,cs,al,bD | ⟨gW,y0,bw,ax⟩⟩
  ·rw[aw]; exact aj.ext (k.ext w μ).toExt0 rfl
  ·rw[bD]; trivial
  ·rw[y0];rw[al] at aj;obtain⟨h1,fX,arr,t,fh,aq,aK,bg,bL⟩:=aj;refine⟨by omega,fX,arr,t,fh,aq,aK,bg,fun j dm am=>?_⟩;have aS:j<cs.length:=by rw[<-bw]; exact (List.getElem?_eq_some_iff.1 am).1
   obtain⟨v,bt,bE,a3⟩:=bL j cs[j] (List.getElem?_eq_getElem aS);exact⟨v,bt,bE,k.ow rel (ax j cs[j] dm (List.getElem?_eq_getElem aS) am) a3⟩
 ·intro b bu m ck ar c1 hm b1 aD;exact rel.inj b bu m ck (k.live ar) (k.live c1) hm b1 aD
 ·intro b m ar hm;exact rel.base b m (k.live ar) hm
 ·intro b aj;rw[k.n] at aj;rcases k.blk b with aw | ⟨sz,cs,al,_⟩
  ·rw[aw]; exact rel.fresh b aj
  ·rw[rel.fresh b aj] at al; cases al
 ·intro b aj;rw[k.n] at aj;exact rel.jJ b aj
theorem aoF (bD:N1 P G) {j:J} (am:da P G j) :uA P G j:=by
 induction am with
 | skip N ah h=>exact⟨0,fun R B w μ a Q rel g s k=>wp_skip (k a w μ (.refl _ _ _) rel s)⟩
 | label l N ah h=>exact⟨0,fun R B w μ a Q rel g s k=>wp_label (k a w μ (.refl _ _ _) rel s)⟩
 | ret N ah h=>exact⟨0,fun R B w μ a Q rel g s k=>wp_ret (k a w μ (.refl _ _ _) rel s)⟩
 | exit id N ah h=>exact⟨0,fun R B w μ a Q rel g s k=>wp_exit (k a w μ (.refl _ _ _) rel s)⟩
 | abz h1 ag dL ku=>
  obtain⟨lE,dL⟩:=dL;obtain⟨qH,ku⟩:=ku;exact⟨0,fun R B w μ a Q rel g s k=>wp_seq (nm.wp (dL R B w μ a _ rel g s fun bt b5 f8 a1 d6 dx=>
   nm.wp (ku R B b5 f8 bt Q d6 (g.ext a1) dx fun bE w2 pJ b3 e9 lK=>k bE w2 pJ (a1.trans b3) e9 lK)))⟩
 | Nf h1 aw dL=>
  obtain⟨lE,dL⟩:=dL;exact⟨0,fun R B w μ a Q rel g s k=>wp_seq (nm.wp (dL R B w μ a _ rel g s fun bt b5 f8 a1 d6 dx=>ab7 aw (k bt b5 f8 a1 d6 dx)))⟩
 | cond al h1 dL=>
  rename_i c x y N ah h b e bZ h';obtain⟨lE,dL⟩:=dL;refine⟨0,fun R B w μ a Q rel g s k=>?_⟩;have ax:=s.cT g c;rw[al] at ax;cases Cm:a.eval c<;>rw[Cm] at ax<;>try (cases ax; done)
  cases ax;exact wp_cond Cm (nm.wp (dL R B w μ a Q rel g s k))
 | A7 h1 aw dL=>
  obtain⟨lE,dL⟩:=dL;exact⟨0,fun R B w μ a Q rel g s k=>wp_block (nm.wp (dL R B w μ a _ rel g s fun bt b5 f8 a1 d6 dx=>adZ aw (k bt b5 f8 a1 d6 dx)))⟩
 | OS h1 dL=>
  obtain⟨lE,dL⟩:=dL;exact⟨0,fun R B w μ a Q rel g s k=>wp_block (nm.wp (dL R B w μ a _ rel g s fun bt b5 f8 a1 d6 dx=>by
   simp only[pK.out,Exit.inBlock,if_true];exact k bt b5 f8 a1 d6 dx))⟩
 | xt h1 ag dL ku=>
  obtain⟨lE,dL⟩:=dL;obtain⟨qH,ku⟩:=ku;exact⟨qH+1,fun R B w μ a Q rel g s k=>nm.wp (dL R B w μ a _ rel g s fun bt b5 f8 a1 d6 dx=>
   ku R B b5 f8 bt Q d6 (g.ext a1) dx fun bE w2 pJ b3 e9 lK=>k bE w2 pJ (a1.trans b3) e9 lK)⟩
 | JX h1 aw dL=>
  obtain⟨lE,dL⟩:=dL;exact⟨1,fun R B w μ a Q rel g s k=>nm.wp (dL R B w μ a _ rel g s fun bt b5 f8 a1 d6 dx=>ab7 aw (k bt b5 f8 a1 d6 dx))⟩
 | scope h1 dL=>
  obtain⟨lE,dL⟩:=dL;rename_i c N ah h e bZ h';refine⟨0,fun R B w μ a Q rel g s k=>wp_scope_straight (nm.wp (dL R B w μ a _ rel g s fun bt b5 f8 a1 d6 dx=>?_))⟩;have:=k bt b5 f8 a1 d6 dx;cases e<;>exact this
 | region h1 dL=>exact⟨0,fun R B w μ a Q rel g s k=>wp_region_list (dL R B w μ a Q rel g s k)⟩
 | draw pre val W cls m au e2 pN fG cells go nQ aO hm CX u9 zd lx gg tA CO CG nW B8 B9 nR kN aM=>
  exact bD pre val W cls m au e2 pN fG cells go nQ aO hm CX u9 zd lx gg tA CO CG nW B8 B9 nR aM
 | XC=>exact fun R B w μ a Q rel g s k=>k a w μ (.refl _ _ _) rel s
 | XE bx wS h1 dL=>
  intro R B w μ a Q rel g s k;have tA:=NS (w:=w) (R:=R) (h:=_) (μ:=μ) (tmps:=a.tmps) bx (fun d _=>s.val d);unfold wpList;rw[if_neg (by rw[tA]; simp)];exact dL R B w μ _ Q rel g (s.put wS NJ) k
 | XD bx wS h1 ag dL ku=>
  intro R B w μ a Q rel g s k;have tA:=NS (w:=w) (R:=R) (h:=_) (μ:=μ) (tmps:=a.tmps) bx (fun d _=>s.val d);unfold wpList;rw[if_pos tA];refine .inl (dL R B w μ a _ _ Q rfl rel g (s.cT g) fun bc b5 f8 a1 d6 ax=>?_);exact ku R B b5 f8 _ Q d6 (g.ext a1) ((s.ext a1).put wS ax) fun bE w2 pJ b3 e9 lK=>k bE w2 pJ (a1.trans b3) e9 lK
 | Dp au=>
  intro R B w μ a o K Q az rel g cZ k;subst az;have:=Nq (P:=P) rel cZ o au;obtain⟨v,w',μ',aD,e,r,ax⟩:=this;unfold Oper.wp;rcases aD with aD | ⟨aD,rfl⟩
  ·rw[aD]; exact k v w' μ' e r ax
  ·rw[aD]; exact k undef w' μ' e r ax
 | xG au h1 dL=>
  intro R B w μ a o K Q az rel g cZ k;subst az;obtain⟨rfl,vs,aD,ar,ax⟩:=Nq (P:=P) rel cZ o au;unfold Oper.wp;rw[aD];refine (dL R B w μ vs rel g ar ax).mono ?_;rintro e w' ⟨v,μ',rfl,a1,d6,kW⟩;exact k v w' μ' a1 d6 kW
 | Ea h1 ji ax dL=>
  intro R B w μ a o K Q az rel g cZ k;refine dL R B w μ a o K Q az rel g cZ fun bc w' μ' e r rY=>?_
  exact k bc w' μ' (e.trans (ji.ext w' μ')) (ji.rel r) (ji.ow r ax rY)
 | inline aJ aj h1 aw aD dL=>
  rename_i f fn c args h e bZ h' r;obtain⟨lE,dL⟩:=dL;intro R B w μ vs rel g ar ax;refine calls_of_wp aJ aj (nm.wp (dL R B w μ _ _ rel g ⟨by simp[ar],rfl,fun t=>?_⟩ fun bt b5 f8 a1 d6 dx=>?_))
  ·by_cases aW:t<args.length
   ·have aI:args.getD t gp=args[t] :=by simp[List.getD,aW]
    have kX:(vs++Array.replicate (fn.ntmps - vs.size) undef).getD t undef=vs[t] :=by
     rw[Array.getD_eq_getD_getElem?,Array.getElem?_append_left (by omega)];simp[show t<vs.size by omega]
    rw[aI,kX];exact ax t _ _ (by simp[aW]) (by simp)
   ·have aI:args.getD t gp=gp:=by simp[List.getD,List.getElem?_eq_none (by omega:args.length<=t)]
    have kX:(vs++Array.replicate (fn.ntmps - vs.size) undef).getD t undef=undef:=by
     rw[Array.getD_eq_getD_getElem?,Array.getElem?_append_right (by omega),Array.getElem?_replicate];split<;>rfl
    rw[aI,kX];exact NJ
  ·obtain⟨v,cc,ch⟩:=anW d6 dx aD;have CJ:dx.defers=dx.defers:=rfl;rcases aw with rfl | rfl
   ·exact⟨dx.defers,v,cc,v,f8,rfl,a1,d6,ch⟩
   ·exact⟨dx.defers,v,cc,v,f8,rfl,a1,d6,ch⟩
 | pure aG al=>exact amr aG al
 | KC aG ar aD aJ=>exact amp aG ar aD aJ
 | ext au=>exact au
 | KD aG ar aD=>exact amq aG ar aD
end
end Go.cj

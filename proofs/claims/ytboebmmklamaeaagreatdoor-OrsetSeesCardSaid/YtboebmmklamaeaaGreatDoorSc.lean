/-
  The canonical machine, part Im: maps, strings rune by rune, bytes compared.
-/
import Derived.Test.YtboebmmklamaeaaGreatDoorSb
import Derived.Stop.SameAnswer
import Derived.Orders
import Derived.Still
import Derived.Scope
import Derived.LoopN
set_option linter.unusedVariables false
set_option linter.unusedSimpArgs false
set_option linter.unnecessarySimpa false
namespace Go.cl
open Go
section
variable {P:Program} {w:World} {R:Nat->Prop} {B:Nat} {h:aM} {μ:cG}
def sd:ae->Value
 | .bool b=>.bool b
 | .int k n=>.int k n
 | .str s=>.string ⟨s.toArray⟩
 | _=>.tuple #[]
def vI:ae->Value
 | .aS cs=>.agg (cs.map sd).toArray
 | c=>sd c
theorem ajW {c:ae} {v:Value} (aF:qr c=true) (ax:aP w R h μ c v) :v=sd c:=by
 cases c<;>simp[qr] at aF
 ·cases ax; rfl
 ·cases ax; rfl
 ·cases ax;rename_i bs;show Value.string bs=.string ⟨bs.data.toList.toArray⟩;congr 1
theorem CO {t:TypeId} {c:ae} (aJ:jB P t c=true) :∃ cs m,c=.aS cs/\o3 P 8 t=true/\dM P t=some true/\cv P t=some m/\cs.length=m/\∀ x∈cs,qr x=true:=by
 unfold jB at aJ;split at aJ
 ·rename_i cs;simp only[Bool.and_eq_true] at aJ;obtain⟨⟨h1,af⟩,ap⟩:=aJ;split at af
  ·rename_i m aG ar;exact⟨cs,m,rfl,h1,aG,ar,Nat.eq_of_beq_eq_true af,fun x aj=>List.all_eq_true.1 ap x aj⟩
  ·cases af
 ·cases aJ
theorem Jy {t:TypeId} {c:ae} {v:Value} (aJ:jB P t c=true) (ax:aP w R h μ c v) :v=vI c:=by
 obtain⟨cs,m,rfl,_,_,_,_,hint⟩:=CO aJ;cases ax with
 | aS _ vs aq h1 ax=>
  show Value.agg vs=.agg (cs.map sd).toArray;congr 1;apply Array.ext_getElem?;intro j;have aj:(cs.map sd).toArray[j]? = (cs[j]?).map sd:=by simp
  rw[aj];cases am:cs[j]? with
  | none=>simp only[Option.map_none]; rw[Array.getElem?_eq_none]; rw[aq]; exact List.getElem?_eq_none_iff.1 am
  | some c=>
   have aN:=(List.getElem?_eq_some_iff.1 am).1;have kY:=ax j c vs[j] am (Array.getElem?_eq_getElem (by omega));rw[Array.getElem?_eq_getElem (by omega)];simp only[Option.map_some,Option.some.injEq];exact ajW (hint c (List.mem_of_getElem? am)) kY
theorem acK (a:ByteArray) :(a == a)=true:=by
 show (a.data == a.data)=true;exact beq_self_eq_true _
theorem alt {c:ae} (n:Nat) (ak:qr c=true) :Instr.sameBits n (sd c) (sd c)=true:=by
 cases c<;>simp[qr] at ak<;>unfold sd Instr.sameBits
 ·simp
 ·simp
 ·exact acK _
theorem als {t:TypeId} {c:ae} (n:Nat) (aJ:jB P t c=true) :Instr.sameBits (n+1) (vI c) (vI c)=true:=by
 obtain⟨cs,m,rfl,_,_,_,_,hint⟩:=CO aJ;unfold vI Instr.sameBits;simp only[beq_self_eq_true,Bool.true_and,List.all_eq_true];rintro⟨x,y⟩ m2;rw[List.mem_iff_getElem?] at m2;obtain⟨j,am⟩:=m2;rw[List.getElem?_zip_eq_some] at am;obtain⟨h1,af⟩:=am;rw[h1] at af; cases af;simp only[List.getElem?_map,Option.map_eq_some_iff] at h1;obtain⟨c,ak,rfl⟩:=h1;exact alt n (hint c (List.mem_of_getElem? ak))
theorem alj {t:TypeId} {c:ae} (aJ:jB P t c=true) :(Instr.keyThatStays (vI c) (vI c)).run P w=.ok (vI c) w:=by
 unfold Instr.keyThatStays;rw[if_pos (als 9999 aJ)];simp
theorem Hn {α:Type} {f:α->PUnit->Sem (ForInStep PUnit)}:∀ (l:List α),(∀ x∈l,(f x ⟨⟩).run P w=.ok (.yield ⟨⟩) w)->(forIn l ⟨⟩ f).run P w=.ok ⟨⟩ w
 | [],_=>by simp
 | x::l,aJ=>by
  rw[List.forIn_cons];simp only[Sem.run_bind,aJ x (by simp),Result.andThen_ok];exact Hn l (fun y aO=>aJ y (by simp[aO]))
theorem MP (em:Bool) :∀ (d n:Nat) (t:TypeId) (c:ae) (v:Value),d<=n->o3 P d t=true->aP w R h μ c v->(dM P t=some true->∃ cs m,c=.aS cs/\cv P t=some m/\cs.length=m)->
  (Instr.checkKey em n t v).run P w=.ok () w
 | 0,_,_,_,_,_,aE,_,_=>by simp[o3] at aE
 | d+1,0,_,_,_,aI,_,_,_=>by omega
 | d+1,n+1,t,c,v,aI,aE,ax,aG=>by
  unfold o3 at aE;split at aE
  ·rename_i aL; cases v<;>simp[Instr.checkKey,cu aL]
  ·rename_i aL; cases v<;>simp[Instr.checkKey,cu aL]
  ·rename_i aL; cases v<;>simp[Instr.checkKey,cu aL]
  ·rename_i len e m aL hm;have HQ:dM P t=some true:=by unfold dM; rw[aL]; rfl
   obtain⟨cs,cp,rfl,bZ,aq⟩:=aG HQ;rw[hm] at bZ; cases bZ;simp only[Bool.and_eq_true] at aE;obtain⟨l7,jx⟩:=aE;split at jx
   ·rename_i z a aB HS;simp only[Bool.and_eq_true] at jx;have dv:=Nat.le_of_ble_eq_true jx.1;have rG:=Nat.le_of_ble_eq_true jx.2;obtain⟨vs,rfl,aC⟩:=sn ax;unfold Instr.checkKey;simp only[Sem.run_bind,cu aL,Result.andThen_ok];rw[Std.Legacy.Range.forIn_eq_forIn_range'];rw[Hn]
    ·simp
    intro i aA;have d1:i<len:=by simp[Std.Legacy.Range.size] at aA; omega
    have age:i*z+z<=cs.length:=by
     have:i*z+z<=len*z:=by rw[<-Nat.succ_mul]; exact Nat.mul_le_mul_right _ d1
     omega
    have aF:∃ c,gR P e cs (i*z)=some c/\(dM P e=some true->∃ cs' cp,c=.aS cs'/\cv P e=some cp/\cs'.length=cp) :=by
     unfold gR;rw[HS,aB];cases a with
     | true=>exact⟨_,by simp only; rw[if_pos age],fun _=>⟨_,z,rfl,rfl,by simp; omega⟩⟩
     | false=>exact⟨cs[i*z]'(by omega),by simp only; exact List.getElem?_eq_getElem (by omega),fun h=>by cases h⟩
    obtain⟨c,ak,uL⟩:=aF;obtain⟨u,ap,aH⟩:=tA (P:=P) ak aC;simp only[Sem.run_bind,e4 aB,Result.andThen_ok,ap w];rw[MP em d n e c u (by omega) l7 aH uL];simp
   ·cases jx
  ·rename_i fs m aL hm;have HQ:dM P t=some true:=by unfold dM; rw[aL]; rfl
   obtain⟨cs,cp,rfl,bZ,aq⟩:=aG HQ;rw[hm] at bZ; cases bZ;obtain⟨vs,rfl,aC⟩:=sn ax;unfold Instr.checkKey;simp only[Sem.run_bind,cu aL,Result.andThen_ok];rw[<-Array.forIn_toList,Hn]
   ·simp
   intro f aJ;have Cj:=List.all_eq_true.1 aE f aJ;simp only[Bool.and_eq_true] at Cj;obtain⟨l7,jx⟩:=Cj;split at jx
   ·rename_i z a aB HS;simp only[Bool.and_eq_true] at jx;have dv:=Nat.le_of_ble_eq_true jx.1;have rG:=Nat.le_of_ble_eq_true jx.2;have aF:∃ c,gR P f.type cs f.offset=some c/\(dM P f.type=some true->∃ cs' cp,c=.aS cs'/\cv P f.type=some cp/\cs'.length=cp) :=by
     unfold gR;rw[HS,aB];cases a with
     | true=>exact⟨_,by simp only; rw[if_pos (by omega)],fun _=>⟨_,z,rfl,rfl,by simp; omega⟩⟩
     | false=>exact⟨cs[f.offset]'(by omega),by simp only; exact List.getElem?_eq_getElem (by omega),fun h=>by cases h⟩
    obtain⟨c,ak,uL⟩:=aF;obtain⟨u,ap,aH⟩:=tA (P:=P) ak aC;have:=MP em d n f.type c u (by omega) l7 aH uL;by_cases TX:f.name= "_"
    ·simp[TX]
    ·simp[TX,ap w,this]
   ·cases jx
  ·cases aE
theorem ZY {t:TypeId} {c:ae} {v:Value} (em:Bool) (aJ:jB P t c=true) (ax:aP w R h μ c v) :(Instr.checkKey em 10000 t v).run P w=.ok () w:=by
 obtain⟨cs,m,rfl,h1,af,ap,aH,_⟩:=CO aJ;exact MP em 8 10000 t _ v (by omega) h1 ax (fun _=>⟨cs,m,rfl,ap,aH⟩)
def qL (w:World) (R:Nat->Prop) (h:aM) (μ:cG) (es:List (ae × ae × Nat)) (dg:List MapEntry) :Prop:=
 dg.length=es.length/\∀ (j:Nat) (k v:ae) (b:Nat),es[j]? = some (k,v,b)->∃ x:MapEntry,dg[j]? = some x/\aP w R h μ k x.key/\aP w R h μ v x.val/\x.born=b
def ND (w:World) (R:Nat->Prop) (h:aM) (μ:cG) (k:ae) (dg:List MapEntry) (i:Nat) :Option (Nat × ae)->Option (Nat × Value)->Prop
 | none,r=>r=none
 | some (j,v),r=>∃ nk,r=some (j,nk)/\aP w R h μ v nk/\i<=j/\∃ x,dg[j - i]? = some x/\x.val=nk/\aP w R h μ k x.key
theorem adS {es:List (ae × ae × Nat)} {e:ae × ae × Nat} {x:MapEntry} {dg:List MapEntry} (aC:qL w R h μ (e::es) (x::dg)) :qL w R h μ es dg:=
 ⟨by have:=aC.1; simp at this; exact this,fun j k v b am=>aC.2 (j+1) k v b (by simpa using am)⟩
theorem adR {es:List (ae × ae × Nat)} {k v:ae} {b:Nat} {x:MapEntry} {dg:List MapEntry} (aC:qL w R h μ ((k,v,b) ::es) (x::dg)) :aP w R h μ k x.key/\aP w R h μ v x.val/\x.born=b:=by
 obtain⟨y,h1,af⟩:=aC.2 0 k v b rfl;simp at h1; subst h1; exact af
theorem RR {cN:TypeId} {k:ae} {gQ:Value} (aE:aP w R h μ k gQ) :∀ (es:List (ae × ae × Nat)) (dg:List MapEntry) (i:Nat) (r:Option (Nat × ae)),qL w R h μ es dg->ig P cN k es i=some r->
  ∃ cw,(Instr.findAsking cN gQ dg i).run P w=.ok cw w/\ND w R h μ k dg i r cw
 | [],dg,i,r,aC,aJ=>by
  have:dg=[] :=List.length_eq_zero_iff.1 aC.1;subst this;simp only[ig,Option.some.injEq] at aJ; subst aJ;exact⟨none,by simp[Instr.findAsking],rfl⟩
 | (k',v,b) ::es,[],i,r,aC,aJ=>by have:=aC.1; simp at this
 | (k',v,b) ::es,x::dg,i,r,aC,aJ=>by
  obtain⟨h1,af,ap⟩:=adR aC;simp only[ig] at aJ;split at aJ
  ·cases aJ
  rename_i dF;split at aJ
  ·rename_i heq;split at aJ
   ·rename_i afo;simp only[Option.some.injEq] at aJ; subst aJ;have g8:=Hf (P:=P) 10000 cN k k' true gQ x.key heq aE h1;refine⟨some (i,x.val),?_,x.val,rfl,af,Nat.le_refl _,x,by simp,rfl,?_⟩
    ·simp only[Instr.findAsking,Op.equal,Op.maxDepth,Sem.run_bind];rw[g8]; simp
    ·rw[ae.beq_eq afo]; exact h1
   ·cases aJ
  ·rename_i heq;have g8:=Hf (P:=P) 10000 cN k k' false gQ x.key heq aE h1;obtain⟨cw,aH,bc⟩:=RR aE es dg (i+1) r (adS aC) aJ;refine⟨cw,?_,?_⟩
   ·simp only[Instr.findAsking,Op.equal,Op.maxDepth,Sem.run_bind];rw[g8]; simpa using aH
   ·cases r with
    | none=>exact bc
    | some rL=>
     obtain⟨nk,bM,eE,gN,y,fb,lq,uA⟩:=bc;exact⟨nk,bM,eE,by omega,y,by rw[show rL.1 - i=(rL.1 - (i+1))+1 by omega]; simpa using fb,lq,uA⟩
  ·cases aJ
theorem Z0 {cN:TypeId} {k:ae} {gQ:Value} (aE:aP w R h μ k gQ) (aJ:jB P cN k=true) {es:List (ae × ae × Nat)} {dg:List MapEntry} {r:Option (Nat × ae)} (aC:qL w R h μ es dg) (H5:ig P cN k es 0=some r) :
  ∃ cw,(Instr.findKey cN gQ dg).run P w=.ok cw w/\ND w R h μ k dg 0 r cw:=by
 obtain⟨cw,h1,af⟩:=RR aE es dg 0 r aC H5;refine⟨cw,?_,af⟩;obtain⟨cs,m,rfl,ap,aH,_⟩:=CO aJ;unfold dM at aH;cases aL:P.underlying cN with
 | none=>rw[aL] at aH; cases aH
 | some d=>
  rw[aL] at aH;unfold Instr.findKey;simp only[Sem.run_bind,cu aL,Result.andThen_ok];cases dg with
  | nil=>simpa [Instr.findNow,Instr.findAsking] using h1
  | cons x dg=>
   have aI:Instr.findNow d gQ (x::dg) 0=none:=by
    cases d<;>simp at aH<;>simp[Instr.findNow,Instr.sameNow]
   rw[aI];exact h1
theorem ai4 (rel:b5 R B w h μ) {m:ae} {av:Value} {es:List (ae × ae × Nat)} (hm:mapOf h m=some es) (ax:aP w R h μ m av) :
  (av=.map none/\es=[])\/∃ b cf dW dg,m=.mp b/\h.f b=.map es dW/\μ b=some cf/\av=.map (some cf.r)/\w.heap[cf.r]? = some (.map dg dW)/\qL w R h μ es dg.toList:=by
 cases m<;>simp[mapOf] at hm
 ·subst hm; cases ax; exact .inl ⟨rfl,rfl⟩
 ·rename_i b;cases ax with
  | mp _ cf ai hv=>
   cases ak:h.f b<;>rw[ak] at hm<;>simp at hm;rename_i apk dW;subst hm;have f8:=rel.blk b cf hv;rw[ak] at f8;obtain⟨dg,h1,af,ap⟩:=f8;refine .inr ⟨b,cf,dW,dg,rfl,ak,hv,rfl,h1,by simpa using af,fun j k v bo am=>?_⟩;obtain⟨x,aH,bc⟩:=ap j k v bo am;exact⟨x,by simpa using aH,bc⟩
theorem MQ {r:Nat} {es:Array MapEntry} {dW:Nat} (ai:w.heap[r]? = some (.map es dW)) :(getObj r).run P w=.ok (.map es dW) w:=by simp[getObj,Sem.run,ai]
theorem Z1 {r:Nat} {s:ByteArray} {pos:Nat} (ai:w.heap[r]? = some (.stringIter s pos)) :(getObj r).run P w=.ok (.stringIter s pos) w:=by simp[getObj,Sem.run,ai]
theorem abl {t:TypeId} {z:ae} (aB:vQ P t=some z) :∃ v,(zeroValue t).run P w=.ok v w/\aP w R h μ z v:=by
 unfold vQ at aB;cases aA:P.info? t with
 | none=>rw[aA] at aB; cases aB
 | some i=>
  rw[aA] at aB;simp only[Option.bind_some] at aB;cases ax:i.zero with
  | none=>rw[ax] at aB; cases aB
  | some v=>
   rw[ax] at aB;simp only[Option.map_some,Option.some.injEq] at aB; subst aB;exact⟨v,Z3 aA ax,.tv v⟩
theorem aP.aaO {a b:ae} {hc gw:Value} (aG:aP w R h μ a hc) (ai:aP w R h μ b gw) :aP w R h μ (.bU [a,b]) (.tuple #[hc,gw]) :=by
 refine .bU _ _ rfl fun j c v ak ax=>?_
 rcases j with _ | _ | j
 ·simp at ak ax; subst ak ax; exact aG
 ·simp at ak ax; subst ak ax; exact ai
 ·simp at ak
theorem aiX (rel:b5 R B w h μ) {t:TypeId} {m k c:ae} {av gQ:Value} {ok:Bool} (aq:CV P h t m k ok=some c) (hm:aP w R h μ m av) (aE:aP w R h μ k gQ) :
  ∃ v,(Instr.lookup t av gQ ok).run P w=.ok v w/\aP w R h μ c v:=by
 unfold CV at aq;split at aq
 ·rename_i cN kK es aL y4;split at aq
  ·cases aq
  ·rename_i dF;have adt:∀ dg:List MapEntry,qL w R h μ es dg->∃ cw,(Instr.findKey cN gQ dg).run P w=.ok cw w ∧
     ((∃ i v,cw=some (i,v)/\∃ q2,aP w R h μ q2 v/\c=if ok then .bU [q2,.bool true] else q2)\/(cw=none/\∃ z,vQ P kK=some z/\c=if ok then .bU [z,.bool false] else z)) :=by
    intro dg aC;cases jL:ig P cN k es 0 with
    | none=>rw[jL] at aq; cases aq
    | some r=>
     obtain⟨cw,h1,af⟩:=Z0 aE dF aC jL;rw[jL] at aq;refine⟨cw,h1,?_⟩;cases r with
     | none=>
      cases af;simp only at aq;cases aB:vQ P kK with
      | none=>rw[aB] at aq; cases aq
      | some z=>
       rw[aB] at aq;simp only[Option.map_some,Option.some.injEq] at aq;exact .inr ⟨rfl,z,rfl,aq.symm⟩
     | some rL=>
      obtain⟨nk,rfl,aH,_⟩:=af;simp only[Option.some.injEq] at aq;exact .inl ⟨_,nk,rfl,_,aH,aq.symm⟩
   have fin:∀ (dg:List MapEntry) (em:Bool),qL w R h μ es dg->∀ m:Sem Value,m.run P w=(((Instr.checkKey em 10000 cN gQ).bind fun _=>(Instr.findKey cN gQ dg).bind fun r=>match r with
     | some (_,v)=>pure (if ok=true then .tuple #[v,.bool true] else v)
     | none=>(zeroValue kK).bind fun z=>pure (if ok=true then .tuple #[z,.bool false] else z)) :Sem Value).run P w->∃ v,m.run P w=.ok v w/\aP w R h μ c v:=by
    intro dg em aC m hm;obtain⟨cw,h1,af⟩:=adt dg aC;have BV:∀ {α iu:Type} (a:Sem α) (f:α->Sem iu),a.bind f=a >>= f:=fun _ _=>rfl
    simp only[BV,Sem.run_bind,ZY em dF aE,Result.andThen_ok,h1] at hm;rcases af with ⟨i,v,rfl,q2,ap,rfl⟩ | ⟨rfl,z,ap,rfl⟩
    ·simp only at hm;cases ok
     ·exact⟨v,by simpa using hm,ap⟩
     ·exact⟨.tuple #[v,.bool true],by simpa using hm,aP.aaO ap (.bool _)⟩
    ·obtain⟨v,aH,bc⟩:=abl (w:=w) (R:=R) (h:=h) (μ:=μ) ap;simp only[Sem.run_bind,aH,Result.andThen_ok] at hm;cases ok
     ·exact⟨v,by simpa using hm,bc⟩
     ·exact⟨.tuple #[v,.bool false],by simpa using hm,aP.aaO bc (.bool _)⟩
   have BV:∀ {α iu:Type} (a:Sem α) (f:α->Sem iu),a.bind f=a >>= f:=fun _ _=>rfl
   rcases ai4 rel y4 hm with ⟨rfl,rfl⟩ | ⟨b,cf,dW,dg,rfl,ai,hv,rfl,iC,aC⟩
   ·refine fin [] true ⟨rfl,fun j k v b am=>by simp at am⟩ _ ?_;unfold Instr.lookup;simp only[BV,Sem.run_bind,cu aL,Result.andThen_ok,Sem.run_pure];cases ea:(Instr.checkKey true 10000 cN gQ).run P w with
    | halt a b=>simp[ea]
    | ok a b4=>
     simp[ea];cases afV:(Instr.findKey cN gQ []).run P b4 with
     | halt a b=>simp
     | ok r w2=>
      simp;cases r with
      | none=>cases (zeroValue kK).run P w2<;>simp
      | some x=>simp
   ·refine fin dg.toList dg.isEmpty aC _ ?_;unfold Instr.lookup;simp only[BV,Sem.run_bind,cu aL,Result.andThen_ok,Sem.run_pure,MQ iC];cases ea:(Instr.checkKey dg.isEmpty 10000 cN gQ).run P w with
    | halt a b=>simp[ea]
    | ok a b4=>
     simp[ea];cases afV:(Instr.findKey cN gQ dg.toList).run P b4 with
     | halt a b=>simp
     | ok r w2=>
      simp;cases r with
      | none=>cases (zeroValue kK).run P w2<;>simp
      | some x=>simp
 ·cases aq
theorem aiN (rel:b5 R B w h μ) {t ty:TypeId} {x c:ae} {bK:Value} (ak:vl P h t x=some c) (aj:aP w R h μ x bK) :∃ v,(Builtin.len_ #[t] ty #[bK]).run P w=.ok v w/\aP w R h μ c v:=by
 unfold vl at ak;split at ak
 ·rename_i cN kK b aL;split at ak
  ·rename_i es dW ai;simp only[Option.some.injEq] at ak; subst ak;cases aj with
   | mp _ cf aE hv=>
    have f8:=rel.blk b cf hv;rw[ai] at f8;obtain⟨dg,h1,af,ap⟩:=f8;exact⟨.int .i64 dg.size,by simp[Builtin.len_,cu aL,MQ h1,goInt],by rw[af]; exact .int _ _⟩
  ·cases ak
 ·cases ak
theorem ai2 (rel:b5 R B w h μ) {t:TypeId} {r:Option Value} (aL:∃ k e,P.underlying t=some (.map k e)) (aC:∀ x,r=some x->∃ k n,x=.int k n) :∃ v w' μ',(Instr.makeMap t r).run P w=.ok v w'/\dk w h μ w' (h.push (.map [] 0)) μ'/\b5 R B w' (h.push (.map [] 0)) μ'/\aP w' R (h.push (.map [] 0)) μ' (.mp h.n) v:=by
 have:=rel.W5 (w':=w.alloc (.map #[] 0)) (.map [] 0) (.map #[] 0) (k:=0) rfl rfl rfl rfl rfl ⟨#[],by show (w.heap.push _)[w.heap.size]? = _; simp,rfl,fun j k v b am=>by simp at am⟩;refine⟨.map (some w.heap.size),w.alloc (.map #[] 0),_,?_,this.1,this.2,?_⟩
 ·obtain⟨k,e,aL⟩:=aL;cases r with
  | none=>simp[Instr.makeMap,newObj,Sem.run]
  | some x=>
   obtain⟨k',n,rfl⟩:=aC x rfl;simp[Instr.makeMap,newObj,Sem.run,cu aL,Go.asInt,Go.asIntOf]
 ·exact .mp h.n ⟨w.heap.size,0,0⟩ (by simp[dJ,mm]) (by simp)
theorem Wf (rel:b5 R B w h μ) {t:TypeId} {m k x:ae} {av gQ bK:Value} {h' : aM} (md:vp P h t m k x=some h') (hm:aP w R h μ m av) (aE:aP w R h μ k gQ) (aj:aP w R h μ x bK) :
  ∃ w',(Instr.mapUpdate t av gQ bK).run P w=.ok () w'/\dk w h μ w' h' μ/\b5 R B w' h' μ:=by
 unfold vp at md;split at md
 ·rename_i cN kK b aL;split at md
  ·rename_i es dW ai;split at md
   ·cases md
   ·rename_i dF;cases hm with
    | mp _ cf oP hv=>
     have f8:=rel.blk b cf hv;rw[ai] at f8;obtain⟨dg,h1,af,ap⟩:=f8;have aN:cf.r<w.heap.size:=by
      rcases Nat.lt_or_ge cf.r w.heap.size with h | h
      ·exact h
      ·rw[Array.getElem?_eq_none h] at h1; cases h1
     have aC:qL w R h μ es dg.toList:=⟨by simpa using af,fun j k v bo am=>by obtain⟨y,aH,bc⟩:=ap j k v bo am; exact⟨y,by simpa using aH,bc⟩⟩
     have lA:∀ o:Obj,(setObj cf.r o).run P w=.ok () { w with heap:=w.heap.setIfInBounds cf.r o }:=fun o=>by simp[setObj,Sem.run,h1]
     have rz:∀ (wr:List (ae × ae × Nat)) (ws:Array MapEntry) (yd:Nat),(∀ {w2:World} {af:aM},Ext0 w h μ w2 af μ->ws.size=wr.length/\∀ (j:Nat) (k v:ae) (b:Nat),wr[j]? = some (k,v,b)->∃ x:MapEntry,ws[j]? = some x/\aP w2 R af μ k x.key/\aP w2 R af μ v x.val/\x.born=b)->
       dk w h μ { w with heap:=w.heap.setIfInBounds cf.r (.map ws yd) } (h.set b (.map wr yd)) μ/\b5 R B { w with heap:=w.heap.setIfInBounds cf.r (.map ws yd) } (h.set b (.map wr yd)) μ:=by
      intro wr ws yd bp;refine rel.W9 (k:=0) ai rfl rfl hv rfl rfl rfl (by simp) (fun k aE=>?_) (fun e=>?_)
      ·simp only; rw[Array.getElem?_setIfInBounds]; rw[if_neg (fun aR=>aE aR.symm)]
      ·obtain⟨q1,hz⟩:=bp e;exact⟨ws,by simp only; rw[Array.getElem?_setIfInBounds]; simp[aN],q1,hz⟩
     unfold Instr.mapUpdate;simp only[Sem.run_bind,cu aL,Result.andThen_ok,MQ h1,ZY false dF aE];cases jL:ig P cN k es 0 with
     | none=>rw[jL] at md; cases md
     | some r=>
      rw[jL] at md;obtain⟨cw,aH,bc⟩:=Z0 aE dF aC jL;rw[aH];cases r with
      | none=>
       cases bc;simp only[Option.some.injEq] at md; subst md;have:=rz (es++[(k,x,dW)]) (dg.push { key:=gQ,val:=bK,born:=dW }) (dW+1) (fun e=>⟨by simp[af],fun j k' bf bo am=>?_⟩)
       ·exact⟨_,by simp only[Result.andThen_ok]; rw[lA],this⟩
       ·rw[Array.getElem?_push];by_cases eQ:j<es.length
        ·rw[List.getElem?_append_left eQ] at am;obtain⟨y,bM,eE,gN,fb⟩:=ap j k' bf bo am;exact⟨y,by rw[if_neg (by omega)]; exact bM,eE.lo e,gN.lo e,fb⟩
        ·rw[List.getElem?_append_right (by omega)] at am;have Ic:j - es.length=0:=by
          rcases Nat.eq_zero_or_pos (j - es.length) with h | h
          ·exact h
          ·rw[List.getElem?_eq_none (by simp; omega)] at am; cases am
         rw[Ic] at am;simp at am;obtain⟨rfl,rfl,rfl⟩:=am;exact⟨_,by rw[if_pos (by omega)],aE.lo e,aj.lo e,rfl⟩
      | some rL=>
       obtain⟨i,v⟩:=rL;obtain⟨nk,rfl,bM,_,y,eE,gN,fb⟩:=bc;simp only[Option.some.injEq] at md; subst md;have yD:dg[i]? = some y:=by simpa using eE
       have a1:y.key=gQ:=by rw[Jy dF fb,Jy dF aE]
       have s4:(Instr.keyThatStays (((dg[i]?).map (·.key)).getD gQ) gQ).run P w=.ok gQ w:=by
        rw[yD];simp only[Option.map_some,Option.getD_some,a1];rw[Jy dF aE];exact alj dF
       have:=rz (es.modify i fun e=>(k,x,e.2.2)) (dg.modify i fun e=>{ e with key:=gQ,val:=bK }) dW (fun e=>⟨by simp[af],fun j k' bf bo am=>?_⟩)
       ·refine⟨_,?_,this⟩;simp only[Result.andThen_ok,Sem.run_bind,s4];rw[lA]
       ·rw[List.getElem?_modify] at am;rw[Array.getElem?_modify];cases lv:es[j]? with
        | none=>rw[lv] at am; simp at am
        | some gM=>
         obtain⟨h9,v0,gh⟩:=gM;rw[lv] at am;obtain⟨abj,lq,uA,Hz,Ss⟩:=ap j h9 v0 gh lv;rw[lq];by_cases iD:i=j
         ·simp[iD] at am;obtain⟨rfl,rfl,rfl⟩:=am;exact⟨{ abj with key:=gQ,val:=bK },by simp[iD],aE.lo e,aj.lo e,Ss⟩
         ·simp[iD] at am;obtain⟨rfl,rfl,rfl⟩:=am;exact⟨abj,by simp[iD],uA.lo e,Hz.lo e,Ss⟩
  ·cases md
 ·cases md
theorem akL (rel:b5 R B w h μ) {t:TypeId} {x c:ae} {bK:Value} {h' : aM} (aC:Dr P h t x=some (c,h')) (aj:aP w R h μ x bK) :
  ∃ v w' μ',(Instr.range t bK).run P w=.ok v w'/\dk w h μ w' h' μ'/\b5 R B w' h' μ'/\aP w' R h' μ' c v:=by
 unfold Dr at aC;split at aC
 ·rename_i s aL;simp only[Option.some.injEq,Prod.mk.injEq] at aC;obtain⟨rfl,rfl⟩:=aC;cases aj;rename_i bs;have:=rel.W5 (w':=w.alloc (.stringIter bs 0)) (.iter bs.data.toList 0) (.stringIter bs 0) (k:=1) rfl rfl rfl rfl rfl ⟨bs,rfl,by show (w.heap.push _)[w.heap.size]? = _; simp⟩;refine⟨.pointer (some ⟨w.heap.size,0,none⟩),w.alloc (.stringIter bs 0),_,?_,this.1,this.2,?_⟩
  ·simp[Instr.range,cu aL,newObj,Sem.run]
  ·exact .it h.n ⟨w.heap.size,0,0⟩ (by simp[dJ,mm]) (by simp)
 ·cases aC
theorem ajd (rel:b5 R B w h μ) {x c:ae} {bK:Value} {h' : aM} {ty:TypeId} (aC:xo h x=some (c,h')) (aj:aP w R h μ x bK) :
  ∃ v w',(Instr.next bK true ty).run P w=.ok v w'/\dk w h μ w' h' μ/\b5 R B w' h' μ/\aP w' R h' μ c v:=by
 unfold xo at aC;split at aC
 ·rename_i b;split at aC
  ·rename_i s pos ai;cases aj with
   | it _ cf oP hv=>
    have f8:=rel.blk b cf hv;rw[ai] at f8;obtain⟨bs,rfl,h1⟩:=f8;have aN:cf.r<w.heap.size:=by
     rcases Nat.lt_or_ge cf.r w.heap.size with h | h
     ·exact h
     ·rw[Array.getElem?_eq_none h] at h1; cases h1
    have nJ:(⟨bs.data.toList.toArray⟩:ByteArray)=bs:=by cases bs; simp
    have gH:bs.data.toList.length=bs.size:=by rw[Array.length_toList]; rfl
    rw[nJ] at aC;split at aC
    ·rename_i nQ;have aF:pos<bs.size:=by rw[<-gH]; rw[Nat.blt_eq] at nQ; exact nQ
     simp only[Option.some.injEq,Prod.mk.injEq] at aC;obtain⟨rfl,rfl⟩:=aC;have:=rel.W9 (w':={ w with heap:=w.heap.setIfInBounds cf.r (.stringIter bs (pos+(Utf8.decode bs pos).2)) }) (k:=1) (c':=.iter bs.data.toList (pos+(Utf8.decode bs pos).2)) ai rfl rfl hv rfl rfl rfl (by simp)
      (fun k aE=>by simp only; rw[Array.getElem?_setIfInBounds]; rw[if_neg (fun aR=>aE aR.symm)]) (fun e=>⟨bs,rfl,by simp only; rw[Array.getElem?_setIfInBounds]; simp[aN]⟩)
     refine⟨.tuple #[.bool true,.int .i64 pos,.int .i32 (Utf8.decode bs pos).1],_,?_,this.1,this.2,?_⟩
     ·simp only[Instr.next,Sem.run_bind,Z1 h1,Result.andThen_ok,if_pos aF];simp[setObj,Sem.run,h1,goInt]
     ·refine .bU _ _ rfl fun j c v ak ax=>?_
      rcases j with _ | _ | _ | j
      ·simp at ak ax; subst ak ax; exact .bool _
      ·simp at ak ax; subst ak ax; exact .int _ _
      ·simp at ak ax; subst ak ax; exact .int _ _
      ·simp at ak
    ·rename_i nQ;have aF:¬ pos<bs.size:=by
      rw[<-gH]; intro aR;rw[<-Nat.blt_eq] at aR; rw[aR] at nQ; cases nQ
     simp only[Option.some.injEq,Prod.mk.injEq] at aC;obtain⟨rfl,rfl⟩:=aC;refine⟨.tuple #[.bool false],w,?_,.refl _ _ _,rel,?_⟩
     ·simp only[Instr.next,Sem.run_bind,Z1 h1,Result.andThen_ok,if_neg aF];simp
     ·refine .bU _ _ rfl fun j c v ak ax=>?_
      rcases j with _ | j
      ·simp at ak ax; subst ak ax; exact .bool _
      ·simp at ak
  ·cases aC
 ·cases aC
theorem ZZ {blk:Nat}:∀ (n:Nat) (o:Nat) (ns:List Int) (acc:ByteArray),ns.length=n->(∀ j v,(ns.map (Value.int .u8))[j]? = some v->(load (⟨blk,o+j,none⟩:Addr)).run P w=.ok v w)->
  ∃ bs,(Extern.Bytes.loadBytes ⟨blk,o,none⟩ n acc).run P w=.ok bs w/\bs.data.toList=acc.data.toList++ns.map fun n=>UInt8.ofNat n.toNat
 | 0,o,ns,acc,aq,_=>⟨acc,by simp[Extern.Bytes.loadBytes],by rw[List.length_eq_zero_iff.1 aq]; simp⟩
 | n+1,o,[],acc,aq,_=>by simp at aq
 | n+1,o,x::ns,acc,aq,h=>by
  have aQ:=h 0 _ rfl;obtain⟨bs,h1,af⟩:=ZZ n (o+1) ns (acc.push (UInt8.ofNat x.toNat)) (by simpa using aq) (fun j v am=>by
   have:=h (j+1) v (by simpa using am);rw[show o+(j+1)=o+1+j by omega] at this;exact this)
  refine⟨bs,?_,?_⟩
  ·unfold Extern.Bytes.loadBytes;rw[Nat.add_zero] at aQ;simp only[Sem.run_bind,aQ,Result.andThen_ok,Addr.kF];exact h1
  ·rw[af]; simp
theorem OD (rel:b5 R B w h μ) {x:ae} {bK:Value} {l:List UInt8} (ai:pE h x=some l) (aj:aP w R h μ x bK) :∃ bs,(Extern.Bytes.bytesOf bK).run P w=.ok bs w/\bs.data.toList=l:=by
 unfold pE at ai;split at ai
 ·simp only[Option.some.injEq] at ai; subst ai;cases aj with
  | str bs=>exact⟨bs,by simp[Extern.Bytes.bytesOf],rfl⟩
 ·rename_i p2;split at ai
  ·rename_i cs n da;obtain⟨bE,bz,vs,cB,jL⟩:=sH (P:=P) rel da aj;have aJ:=jL n (Nat.le_refl _) w (fun _=>rfl);obtain⟨ns,rfl,rfl⟩:=EB cs vs l ai cB.1 cB.2;have ly:ns.length=n:=by have:=cB.1; simp at this; omega
   have zg:(ns.map (Value.int .u8)).take (n*1)=ns.map (Value.int .u8) :=List.take_of_length_le (by simp; omega);rw[zg] at aJ;have H6:∃ a len cap,bK=.slice a len cap:=by
    cases aj<;>first | exact⟨_,_,_,rfl⟩ | (simp[contents] at da; done) | (exact absurd rfl (p2 _))
   obtain⟨a,len,cap,rfl⟩:=H6;simp only[Builtin.lenOf,Sem.run_pure,Result.ok.injEq] at bz;obtain⟨rfl,_⟩:=bz;cases a with
   | none=>
    simp only[Builtin.firstCells,Sem.run_pure,Result.ok.injEq] at aJ;have kZ:ns=[] :=by
     have:=congrArg Array.toList aJ.1;simpa using this.symm
    subst kZ;exact⟨.empty,by simp[Extern.Bytes.bytesOf],rfl⟩
   | some a=>
    by_cases rx:len=0
    ·subst rx;have:ns=[] :=List.length_eq_zero_iff.1 ly;subst this;exact⟨.empty,by simp[Extern.Bytes.bytesOf,Extern.Bytes.loadBytes],rfl⟩
    have aG:∃ blk o,a=⟨blk,o,none⟩:=by
     cases aj with
     | ao=>exact⟨_,_,rfl⟩
     | b6=>exact⟨_,_,rfl⟩
     | eZ=>exact absurd rfl rx
     | gS=>exact absurd rfl rx
     | bad=>simp[contents] at da
     | fA _ _ _ _ _ _ _ _ h1 af az=>
      exfalso;simp only[contents] at da;rcases az with az | ⟨n,g0,az,aN⟩
      ·rw[az] at da; cases da
      ·rw[az] at da;simp only at da;split at da
       ·rename_i aR; omega
       ·cases da
    obtain⟨blk,o,rfl⟩:=aG;simp only[Builtin.firstCells,Nat.mul_one] at aJ;unfold loadCells at aJ;obtain⟨l,h1,af,ap⟩:=loadCellsFrom_ok _ _ _ _ _ _ aJ;have aH:l=ns.map (Value.int .u8) :=by
     have:=congrArg Array.toList af;simpa using this.symm
    subst aH;obtain⟨bs,bc,bM⟩:=ZZ (P:=P) (w:=w) (blk:=blk) len o ns .empty ly (fun j v am=>by
     have:=ap j v am;rw[Addr.kF,Nat.zero_add] at this;exact this)
    exact⟨bs,by simpa [Extern.Bytes.bytesOf] using bc,by rw[bM]; rfl⟩
  ·cases ai
theorem Rh:∀ (a b:List UInt8),(match (List.range (min a.length b.length)).find? fun i=>a.getD i 0 != b.getD i 0 with
  | some i=>if a.getD i 0<b.getD i 0 then (-1:Int) else 1
  | none=>if a.length<b.length then -1 else if a.length > b.length then 1 else 0)=lX a b
 | [],[]=>by simp[lX]
 | [],_::_=>by simp[lX]
 | _::_,[]=>by simp[lX]
 | x::a,y::b=>by
  have aK:=Rh a b;simp only[List.length_cons,Nat.add_min_add_right,List.range_succ_eq_map,List.find?_cons,List.getD_cons_zero];by_cases m2:x=y
  ·subst m2;simp only[bne_self_eq_false,lX,if_true];rw[<-aK,List.find?_map];have wP:((fun i=>(x::a).getD i 0 != (x::b).getD i 0) ∘ Nat.succ)=fun i=>a.getD i 0 != b.getD i 0:=by
    funext i; simp
   rw[wP];cases aJ:(List.range (min a.length b.length)).find? fun i=>a.getD i 0 != b.getD i 0 with
   | none=>simp only[Option.map_none]; congr 1<;>simp
   | some i=>simp
  ·have b0:(x != y)=true:=by simp[m2]
   simp only[b0,lX,if_neg m2,List.getD_cons_zero]
theorem RT {α:Type} {p q:α->Bool}:∀ (l:List α),(∀ x∈l,p x=q x)->l.find? p=l.find? q
 | [],_=>rfl
 | x::l,h=>by
  rw[List.find?_cons,List.find?_cons,h x (by simp),RT l (fun y aO=>h y (by simp[aO]))]
theorem wg (a b:ByteArray) :Extern.BytealgCompare.cmp a b=lX a.data.toList b.data.toList:=by
 rw[<-Rh];unfold Extern.BytealgCompare.cmp;have az:∀ (a:ByteArray) (i:Nat),i<a.size->a[i]! = a.data.toList.getD i 0:=fun a i aA=>by
  simp only[List.getD_eq_getElem?_getD,Array.getElem?_toList];rw[getElem!_pos a i aA];have:i<a.data.size:=aA;rw[Array.getElem?_eq_getElem this]; rfl
 have aq:∀ a:ByteArray,a.data.toList.length=a.size:=fun a=>by rw[Array.length_toList]; rfl
 rw[aq,aq];have H5:(List.range (min a.size b.size)).find? (fun i=>a[i]! != b[i]!)=(List.range (min a.size b.size)).find? (fun i=>a.data.toList.getD i 0 != b.data.toList.getD i 0) :=by
  apply RT;intro i aA;have:=List.mem_range.1 aA;rw[az a i (by omega),az b i (by omega)]
 rw[H5];cases aJ:(List.range (min a.size b.size)).find? (fun i=>a.data.toList.getD i 0 != b.data.toList.getD i 0) with
 | none=>rfl
 | some i=>
  have:=List.mem_range.1 (List.mem_of_find?_eq_some aJ);simp only;rw[az a i (by omega),az b i (by omega)]
theorem aef {fn:Func} (aI:fn.name= "internal/bytealg.Compare") (ay:fn.origin= ""\/fn.origin= "internal/bytealg.Compare") :Extern.find fn=some Extern.BytealgCompare.compare/\Extern.findNext fn=none:=by
 constructor
 ·unfold Extern.find;simp only[aI];rfl
 ·unfold Extern.findNext;simp only[aI];rcases ay with ay | ay<;>rw[ay]<;>rfl
theorem ad6 (rel:b5 R B w h μ) {f:FuncId} {fn:Func} {args:List ae} {vs:Array Value} {c:ae} (aJ:P.funcs[f]? = some fn) (aA:zr fn=true) (ak:yh h args=some c)
  (aq:vs.size=args.length) (ax:∀ (j:Nat) (c:ae) (v:Value),args[j]? = some c->vs[j]? = some v->aP w R h μ c v) :
  ∃ v,(callFunc f vs).run P w=.ok (.value v) w/\aP w R h μ c v:=by
 unfold zr at aA;simp only[Bool.and_eq_true,Bool.or_eq_true,beq_iff_eq] at aA;obtain⟨⟨ai,aI⟩,ay⟩:=aA;unfold yh at ak;split at ak
 ·rename_i x y;split at ak
  ·rename_i a b aG bL;simp only[Option.some.injEq] at ak; subst ak;simp only[List.length_cons,List.length_nil] at aq;have kZ:vs=#[vs[0],vs[1]] :=by
    apply Array.ext
    ·simpa using aq
    ·intro i h1 af;rcases (show i=0\/i=1 by simp at af; omega) with rfl | rfl<;>rfl
   obtain⟨ba,h1,af⟩:=OD (P:=P) rel aG (ax 0 x vs[0] rfl (by simp[aq]));obtain⟨an8,ap,aH⟩:=OD (P:=P) rel bL (ax 1 y vs[1] rfl (by simp[aq]));obtain⟨a1,b7⟩:=aef aI ay;refine⟨.int .i64 (lX a b),?_,.int _ _⟩;rw[kZ];have b0:fn.name≠ "runtime.NumGoroutine":=by rw[aI]; decide
   have ai:=Option.isNone_iff_eq_none.1 ai;have rj:Extern.BytealgCompare.compare #[vs[0],vs[1]]=(do pure (goInt (Extern.BytealgCompare.cmp (<-Extern.Bytes.bytesOf vs[0]) (<-Extern.Bytes.bytesOf vs[1])))) :=rfl;simp[callFunc,aJ,b0,ai,a1,b7,mark,Sem.run,rj,h1,ap,wg,af,aH,goInt]
  ·cases ak
 ·cases ak
end
section
variable {P:Program} {w:World} {R:Nat->Prop} {B:Nat} {h:aM} {μ:cG}
inductive ua:Value->Value->Prop where
 | bool (a b:Bool) :ua (.bool a) (.bool b)
 | agg (a b:Array Value) :ua (.agg a) (.agg b)
 | slice (a:Option Addr) (l c:Nat) (eo:Option Addr) (l' c' : Nat) :ua (.slice a l c) (.slice eo l' c')
theorem adX {d:Nat} {t:TypeId} {x y:ae} {b:Bool} {bK e9:Value} (aw:dX P d t x y=some b) (aj:aP w R h μ x bK) (aO:aP w R h μ y e9)
  (aA:∀ k a k' bo,x=.int k a->y=.int k' bo->False) (ar:∀ a bo,x=.str a->y=.str bo->False) :ua bK e9:=by
 cases d with
 | zero=>simp[dX] at aw
 | succ d=>
  unfold dX at aw;split at aw
  ·cases aj; cases aO; exact .bool _ _
  ·exact (aA _ _ _ _ rfl rfl).elim
  ·exact (ar _ _ rfl rfl).elim
  ·cases aj; cases aO; exact .agg _ _
  ·cases aj; cases aO; exact .agg _ _
  ·cases aj; cases aO; exact .slice _ _ _ _ _ _
  ·cases aj; cases aO<;>exact .slice _ _ _ _ _ _
  ·cases aj; cases aO<;>exact .slice _ _ _ _ _ _
  ·cases aj<;>cases aO<;>exact .slice _ _ _ _ _ _
  ·cases aj<;>cases aO<;>exact .slice _ _ _ _ _ _
  ·cases aw
theorem adV {op:BinOp} {t:TypeId} {r0 qo:Operand} {bK e9:Value} (ar:ua bK e9) (az:∀ a b,bK=.agg a->e9=.agg b->P.eqGuardType P.depth t=false) :(eqGuard op t r0 qo bK e9).run P w=.ok () w:=by
 cases ar with
 | bool a b=>cases op<;>rfl
 | agg a b=>exact run_eqGuard_agg w op t r0 qo a b (az a b rfl rfl)
 | slice=>cases op<;>rfl
theorem ali {t:TypeId} {bK e9:Value} {b:Bool} (ar:ua bK e9) (fy:(Op.equalIn 10000 t bK e9).run P w=.ok b w) :
  (binOp .eql t bK e9).run P w=.ok (.bool b) w/\(binOp .neq t bK e9).run P w=.ok (.bool (!b)) w:=by
 have bp:(Op.equal t bK e9).run P w=.ok b w:=fy;cases ar<;>constructor<;>simp[binOp,bp]
theorem adU {op:BinOp} {t:TypeId} {r0 qo:Operand} {k k' : IntKind} {a b:Int}:(eqGuard op t r0 qo (.int k a) (.int k' b)).run P w=.ok () w:=by
 cases op<;>rfl
theorem adW {op:BinOp} {t:TypeId} {r0 qo:Operand} {a b:ByteArray}:(eqGuard op t r0 qo (.string a) (.string b)).run P w=.ok () w:=by
 cases op<;>rfl
theorem ack {op:BinOp} {t:TypeId} {r0 qo:Operand} {x y c:ae} {bK e9:Value} (ak:fD P op t x y=some c) (aj:aP w R h μ x bK) (aO:aP w R h μ y e9) :
  ∃ v,((do eqGuard op t r0 qo bK e9; binOp op t bK e9:Sem Value)).run P w=.ok v w/\aP w R h μ c v:=by
 unfold fD at ak;split at ak
 ·cases aj; cases aO;obtain⟨v,h1,af⟩:=acl (P:=P) (w:=w) (R:=R) (h:=h) (μ:=μ) (t:=t) ak;exact⟨v,by simp[adU,h1],af⟩
 ·cases aj; cases aO;obtain⟨v,h1,af⟩:=acm (P:=P) (w:=w) (R:=R) (h:=h) (μ:=μ) (t:=t) ak;exact⟨v,by simp[adW,h1],af⟩
 ·rename_i agH p2;have key:∀ b,ut P t x y=true->dX P 10000 t x y=some b->ua bK e9/\(eqGuard op t r0 qo bK e9).run P w=.ok () w ∧
    (binOp .eql t bK e9).run P w=.ok (.bool b) w/\(binOp .neq t bK e9).run P w=.ok (.bool (!b)) w:=by
   intro b dG aw;have m0:=adX aw aj aO agH p2;have az:∀ a b,bK=.agg a->e9=.agg b->P.eqGuardType P.depth t=false:=by
    rintro a b rfl rfl;cases aj with
    | aS cs _ _ _ _=>
     cases aO with
     | aS cs' _ _ _ _=>simpa [ut] using dG
     | bad=>simp[dX] at aw
    | bad=>cases aO<;>simp[dX] at aw
   have bp:=Hf 10000 t x y b bK e9 aw aj aO;obtain⟨cd,ce⟩:=ali m0 bp;exact⟨m0,adV m0 az,cd,ce⟩
  split at ak
  ·split at ak
   ·rename_i dG;cases aw:dX P 10000 t x y with
    | none=>rw[aw] at ak; cases ak
    | some b=>
     rw[aw] at ak;simp only[Option.map_some,Option.some.injEq] at ak; subst ak;obtain⟨_,cd,ce,_⟩:=key b dG aw;exact⟨.bool b,by simp[cd,ce],.bool _⟩
   ·cases ak
  ·split at ak
   ·rename_i dG;cases aw:dX P 10000 t x y with
    | none=>rw[aw] at ak; cases ak
    | some b=>
     rw[aw] at ak;simp only[Option.map_some,Option.some.injEq] at ak; subst ak;obtain⟨_,cd,_,ce⟩:=key b dG aw;exact⟨.bool (!b),by simp[cd,ce],.bool _⟩
   ·cases ak
  ·cases ak
theorem amS {op:UnOp} {x c:ae} {bK:Value} (ak:oh op x=some c) (aj:aP w R h μ x bK) :∃ v,(Op.unary op bK).run P w=.ok v w/\aP w R h μ c v:=by
 unfold oh at ak;split at ak
 ·simp only[Option.some.injEq] at ak; subst ak;cases aj;exact⟨_,by simp[Op.unary],.bool _⟩
 ·simp only[Option.some.injEq] at ak; subst ak;cases aj;refine⟨_,?_,.int _ _⟩;simp only[Op.unary]; rfl
 ·simp only[Option.some.injEq] at ak; subst ak;cases aj;refine⟨_,?_,.int _ _⟩;simp only[Op.unary]; rfl
 ·cases ak
theorem J2 {aD:Operand->ae} {dD:Operand->Value} (cX:∀ x,aP w R h μ (aD x) (dD x)) (o:Option Operand) :ud w R h μ (o.map aD) (o.map dD) :=by
 cases o with
 | none=>trivial
 | some x=>exact cX x
def xY (P:Program) (R:Nat->Prop) (B:Nat) (w:World) (h:aM) (μ:cG) (r:Result Next) :nt->Prop
 | .val c h'=>Good R B w h μ r c h'
 | .call f args h'=>h'=h/\∃ vs:Array Value,r=.ok (.enter f vs) w/\vs.size=args.length/\∀ (j:Nat) (c:ae) (v:Value),args[j]? = some c->vs[j]? = some v->aP w R h μ c v
theorem Good.mk {r:Result Next} {c:ae} {h' : aM} {v:Value} {w' : World} {μ' : cG} (aC:r=.ok (.value v) w') (aw:dk w h μ w' h' μ') (aq:b5 R B w' h' μ') (ax:aP w' R h' μ' c v) :Good R B w h μ r c h':=
 ⟨v,w',μ',.inl aC,aw,aq,ax⟩
theorem acH (rel:b5 R B w h μ) {b:Builtin} {ts:Array TypeId} {ty:TypeId} {consts:Array Bool} {args:List ae} {vs:Array Value} {r:nt} (ar:nz P h b ts.toList args=some r)
  (aq:vs.size=args.length) (ax:∀ (j:Nat) (c:ae) (v:Value),args[j]? = some c->vs[j]? = some v->aP w R h μ c v) :xY P R B w h μ ((builtin b ts ty consts vs).run P w) r:=by
 have one:∀ x,args=[x]->∃ bK,vs=#[bK]/\aP w R h μ x bK:=by
  intro x aj;subst aj;simp only[List.length_cons,List.length_nil] at aq;refine⟨vs[0],?_,ax 0 x _ rfl (by simp[aq])⟩;apply Array.ext
  ·simpa using aq
  ·intro i h1 af;have:i=0:=by omega
   subst this; rfl
 have two:∀ x y,args=[x,y]->∃ bK e9,vs=#[bK,e9]/\aP w R h μ x bK/\aP w R h μ y e9:=by
  intro x y aj;subst aj;simp only[List.length_cons,List.length_nil] at aq;refine⟨vs[0],vs[1],?_,ax 0 x _ rfl (by simp[aq]),ax 1 y _ rfl (by simp[aq])⟩;apply Array.ext
  ·simpa using aq
  ·intro i h1 af;rcases (show i=0\/i=1 by simp at af; omega) with rfl | rfl<;>rfl
 have Em:∀ t,ts.toList=[t]->ts=#[t] :=fun t aU=>by apply Array.toList_inj.1; simpa using aU
 have N9:∀ t u,ts.toList=[t,u]->ts=#[t,u] :=fun t u aU=>by apply Array.toList_inj.1; simpa using aU
 unfold nz at ar;split at ar
 ·rename_i t x oW;obtain⟨bK,rfl,aj⟩:=one x rfl;obtain rfl:=Em t oW;split at ar
  ·rename_i c ak;simp only[Option.some.injEq] at ar; subst ar;obtain⟨v,h1,af⟩:=aiN (P:=P) (ty:=ty) rel ak aj;exact Good.mk (by simp[builtin,h1]) (.refl _ _ _) rel af
  cases ak:vk P t x with
  | none=>rw[ak] at ar; cases ar
  | some c=>
   rw[ak] at ar;simp only[Option.map_some,Option.some.injEq] at ar; subst ar;obtain⟨v,h1,af⟩:=aiO (P:=P) (u:=t) (ty:=ty) ak aj;exact Good.mk (by simp[builtin,h1]) (.refl _ _ _) rel af
 ·rename_i t u s x oW;obtain⟨ag,bK,rfl,p6,aj⟩:=two s x rfl;obtain rfl:=N9 t u oW;split at ar
  ·rename_i k aL;cases ak:x3 P h t s x with
   | none=>rw[ak] at ar; cases ar
   | some c=>
    obtain⟨c,h'⟩:=c;rw[ak] at ar;simp only[Option.map_some,Option.some.injEq] at ar; subst ar;obtain⟨v,w',μ',h1,af,ap,aH⟩:=aca (ty:=ty) rel aL ak p6 aj;exact Good.mk (by simp[builtin,h1]) af ap aH
  ·cases ar
  ·rename_i ry p1;cases ak:pB P h t s x with
   | none=>rw[ak] at ar; cases ar
   | some c=>
    obtain⟨c,h'⟩:=c;rw[ak] at ar;simp only[Option.map_some,Option.some.injEq] at ar; subst ar;have aL:xq P u:=by
     cases bJ:P.underlying u with
     | none=>exact absurd bJ p1
     | some d=>exact⟨d,bJ,fun k aE=>ry k (by rw[bJ,aE])⟩
    obtain⟨v,w',μ',h1,af,ap,aH⟩:=El (ty:=ty) rel aL ak p6 aj;exact Good.mk (by simp[builtin,h1]) af ap aH
 ·rename_i t u d x oW;obtain⟨G6,bK,rfl,bJ,aj⟩:=two d x rfl;obtain rfl:=N9 t u oW;cases ak:wi P h t d x with
  | none=>rw[ak] at ar; cases ar
  | some c=>
   obtain⟨c,h'⟩:=c;rw[ak] at ar;simp only[Option.map_some,Option.some.injEq] at ar; subst ar;obtain⟨v,w',h1,af,ap,aH⟩:=ads (u:=u) (ty:=ty) rel ak bJ aj;exact Good.mk (by simp[builtin,h1]) af ap aH
 ·rename_i t x oW;obtain⟨bK,rfl,aj⟩:=one x rfl;obtain rfl:=Em t oW;cases ak:wa P t x with
  | none=>rw[ak] at ar; cases ar
  | some c=>
   rw[ak] at ar;simp only[Option.map_some,Option.some.injEq] at ar; subst ar;obtain⟨v,h1,af⟩:=acY (P:=P) (ty:=ty) ak aj;exact Good.mk (by simp[builtin,h1]) (.refl _ _ _) rel af
 ·rename_i t x oW;obtain⟨bK,rfl,aj⟩:=one x rfl;obtain rfl:=Em t oW;cases ak:wc P h t x with
  | none=>rw[ak] at ar; cases ar
  | some h'=>
   rw[ak] at ar;simp only[Option.map_some,Option.some.injEq] at ar; subst ar;obtain⟨w',h1,af,ap⟩:=ada (P:=P) (ty:=ty) rel ak aj;exact Good.mk (v:=.tuple #[]) (by simp[builtin,h1]) af ap (.bU [] #[] rfl (fun _ _ _ aR=>by simp at aR))
 ·rename_i x y;obtain⟨bK,e9,rfl,aj,aO⟩:=two x y rfl;cases ak:xm x y with
  | none=>rw[ak] at ar; cases ar
  | some c=>
   rw[ak] at ar;simp only[Option.map_some,Option.some.injEq] at ar; subst ar;unfold xm at ak;split at ak
   ·split at ak
    ·rename_i aE; subst aE;simp only[Option.some.injEq] at ak; subst ak;cases aj; cases aO;refine Good.mk (v:=.int _ _) ?_ (.refl _ _ _) rel (.int _ _);simp[builtin,Builtin.min_,Builtin.min2]
    ·cases ak
   ·cases ak
 ·rename_i x y;obtain⟨bK,e9,rfl,aj,aO⟩:=two x y rfl;cases ak:rS x y with
  | none=>rw[ak] at ar; cases ar
  | some c=>
   rw[ak] at ar;simp only[Option.map_some,Option.some.injEq] at ar; subst ar;unfold rS at ak;split at ak
   ·split at ak
    ·rename_i aE; subst aE;simp only[Option.some.injEq] at ak; subst ak;cases aj; cases aO;refine Good.mk (v:=.int _ _) ?_ (.refl _ _ _) rel (.int _ _);simp[builtin,Builtin.max_,Builtin.max2]
    ·cases ak
   ·cases ak
 ·cases ar
theorem Q0 {f:FuncId} {fn:Func} {vs:Array Value} (aJ:P.funcs[f]? = some fn) (ai:fn.body.isSome=true) (aI:fn.name≠ "runtime.NumGoroutine") :(callFunc f vs).run P w=.ok (.enter f vs) w:=by
 have bL:fn.body≠none:=fun aR=>by rw[aR] at ai; cases ai
 simp[callFunc,aJ,aI,bL]
theorem JG {aD:Operand->ae} {dD:Operand->Value} (cX:∀ x,aP w R h μ (aD x) (dD x)) (xs:Array Operand) :
  ∀ (j:Nat) (c:ae) (v:Value),(xs.toList.map aD)[j]? = some c->(xs.map dD)[j]? = some v->aP w R h μ c v:=by
 intro j c v am ax;rw[List.getElem?_map] at am;rw[Array.getElem?_map] at ax;cases ay:xs[j]? with
 | none=>simp[ay] at ax
 | some o=>
  simp[ay] at am ax;subst am ax;exact cX o
theorem ai7 {t:TypeId} {name:String} {g:FuncId} (hm:vq P t name=some g) (u:Value) :(Go.method (P.types.size+Made.depth) t u name).run P w=.ok (g,u) w:=by
 unfold vq at hm;split at hm
 ·cases hm
 ·cases hm
 ·rename_i w8 I1;split at hm
  ·rename_i i aA;split at hm
   ·rename_i m aJ;split at hm
    ·rename_i f aF iW;cases hm;obtain⟨k,aE⟩:∃ k,P.types.size+Made.depth=k+1:=⟨P.types.size+Made.depth - 1,by unfold Made.depth; omega⟩
     rw[aE];cases bJ:P.underlying t with
     | none=>exact absurd bJ I1
     | some d=>
      have aqG:m.path=#[] :=Array.toList_eq_nil_iff.1 aF;cases d<;>first
       | (exfalso; exact w8 _ bJ)
       | simp[Go.method,typeInfo,aA,aJ,aF,iW,follow,receiverAt,cu bJ,Place.get]
    ·cases hm
   ·cases hm
  ·cases hm
theorem amn {t NA:TypeId} {ok:Bool} {z c x:ae} {v:Value} (aB:DL P t=some z) (ak:xL t z ok x=some c) (aj:aP w R h μ x v) :
  ∃ bf,(Instr.typeAssert v NA t ok).run P w=.ok bf w/\aP w R h μ c bf:=by
 unfold DL at aB;split at aB
 ·cases aB
 ·cases aB
 ·rename_i w8 I1;cases bJ:P.underlying t with
  | none=>exact absurd bJ I1
  | some d=>
   obtain⟨zv,ve,jU⟩:=abl (P:=P) (w:=w) (R:=R) (h:=h) (μ:=μ) aB;have two:∀ (a:ae) (hc:Value) (q:Bool),aP w R h μ a hc->aP w R h μ (.bU [a,.bool q]) (.tuple #[hc,.bool q]) :=by
    intro a hc q aG;refine .bU _ _ rfl (fun j c v am ax=>?_)
    match j,am,ax with
    | 0,am,ax=>simp at am ax; subst am ax; exact aG
    | 1,am,ax=>simp at am ax; subst am ax; exact .bool q
    | j+2,am,ax=>simp at am
   cases x<;>simp only[xL] at ak<;>try (cases ak; done)
   case ia=>
    cases aj;cases ok<;>simp only at ak<;>cases ak;refine⟨.tuple #[zv,.bool false],?_,two _ _ _ jU⟩;cases d<;>first
     | (exfalso; exact w8 _ bJ)
     | simp[Instr.typeAssert,cu bJ,ve]
   case fH fo uk=>
    cases aj with
    | fH _ _ u aL=>
     split at ak
     ·rename_i aU;have aU:=Nat.eq_of_beq_eq_true aU;subst aU;cases ok<;>simp only at ak<;>cases ak
      ·refine⟨u,?_,aL⟩;cases d<;>first
        | (exfalso; exact w8 _ bJ)
        | simp[Instr.typeAssert,cu bJ]
      ·refine⟨.tuple #[u,.bool true],?_,two _ _ _ aL⟩;cases d<;>first
        | (exfalso; exact w8 _ bJ)
        | simp[Instr.typeAssert,cu bJ]
     ·rename_i aU;have aU:fo≠t:=fun h=>by rw[h,Nat.beq_refl] at aU; cases aU
      cases ok<;>simp only at ak<;>cases ak;refine⟨.tuple #[zv,.bool false],?_,two _ _ _ jU⟩;cases d<;>first
       | (exfalso; exact w8 _ bJ)
       | simp[Instr.typeAssert,cu bJ,ve,aU]
theorem acU (rel:b5 R B w h μ) {aD:Operand->ae} {dD:Operand->Value} (cX:∀ x,aP w R h μ (aD x) (dD x)) {c:Call} {ty:TypeId} {r:nt} (ar:sv P h aD c=some r) :
  xY P R B w h μ ((do let d <-resolve dD c ty; invoke d.target d.args:Sem Next).run P w) r:=by
 unfold sv at ar;split at ar
 ·rename_i b ai;have:=fun consts=>acH (P:=P) (b:=b) (ts:=c.argTypes) (ty:=ty) (consts:=consts) (args:=c.args.toList.map aD) (vs:=c.args.map dD) rel ar (by simp)
   (fun j x v am ax=>by
    rw[List.getElem?_map] at am;rw[Array.getElem?_map] at ax;cases ay:c.args[j]? with
    | none=>simp[ay] at ax
    | some o=>
     simp[ay] at am ax;subst am ax;exact cX o)
  simp only[resolve,ai,Sem.run_bind,Sem.run_pure,Result.andThen_ok,invoke];exact this _
 ·rename_i f aJ;split at ar
  ·rename_i g first e5 iW
   have ax:=cX f;rw[iW] at ax;cases s1:dD f with
   | func apE fs cs=>
    rw[s1] at ax;cases ax with
    | fn _ _ _ _ _ h1 af ap aH=>
     split at ar
     ·rename_i fn wP;have BO:∀ (j:Nat) (x:ae) (v:Value),(first++c.args.toList.map aD++e5)[j]? = some x->(fs++c.args.map dD++cs)[j]? = some v->aP w R h μ x v:=by
       intro j x v am jT;by_cases nP:j<first.length
       ·rw[List.append_assoc,List.getElem?_append_left nP] at am;rw[Array.append_assoc,Array.getElem?_append_left (by omega)] at jT;exact ap j x v am jT
       ·by_cases nQ:j<first.length+c.args.size
        ·rw[List.getElem?_append_left (by simp; omega),List.getElem?_append_right (by omega),List.getElem?_map] at am;rw[Array.getElem?_append_left (by simp; omega),Array.getElem?_append_right (by omega),Array.getElem?_map,h1] at jT;cases ay:c.args[j - first.length]? with
         | none=>simp[ay] at jT
         | some o=>
          simp[ay] at am jT;subst am jT;exact cX o
        ·rw[List.getElem?_append_right (by simp; omega)] at am;rw[Array.getElem?_append_right (by simp; omega)] at jT;refine aH _ x v am ?_;simpa [h1] using jT
      split at ar
      ·rename_i ii;simp only[Option.some.injEq] at ar; subst ar;refine⟨rfl,fs++c.args.map dD++cs,?_,by simp[h1,af],BO⟩;simp[resolve,aJ,s1,Deferred.ofValue,invoke,Q0 wP ii.1 ii.2]
      ·split at ar
       ·rename_i rj;cases c4:yh h (first++c.args.toList.map aD++e5) with
        | none=>rw[c4] at ar; cases ar
        | some aoM=>
         rw[c4] at ar;simp only[Option.map_some,Option.some.injEq] at ar; subst ar;obtain⟨v,a1,b7⟩:=ad6 (P:=P) (vs:=fs++c.args.map dD++cs) rel wP rj c4 (by simp[h1,af]) BO;rw[Array.append_assoc] at a1;exact Good.mk (by simp[resolve,aJ,s1,Deferred.ofValue,invoke,a1]) (.refl _ _ _) rel b7
       ·cases ar
     ·cases ar
   | _=>rw[s1] at ax; cases ax
  ·cases ar
 ·rename_i x name ak;split at ar
  ·rename_i t v0 aj;have ax:=cX x;rw[aj] at ax;split at ar
   ·rename_i g hm;split at ar
    ·rename_i fn wP;split at ar
     ·rename_i ii;simp only[Option.some.injEq] at ar; subst ar;cases s1:dD x with
      | iface fo u=>
       rw[s1] at ax;cases ax with
       | fH _ _ _ aL=>
        refine⟨rfl,#[u]++c.args.map dD,?_,by simp; omega,?_⟩
        ·have agB:=ai7 (P:=P) (w:=w) hm u;have aQ:(#[Value.iface t u]++c.args.map dD)[0]? = some (Value.iface t u) :=by rw[Array.getElem?_append_left (by simp)]; rfl
         have gH:(c.args.map dD).extract 0 c.args.size=c.args.map dD:=by
          apply Array.ext';simp[List.take_of_length_le]
         simp[aQ,gH,resolve,ak,s1,invoke,callMethod,agB,Q0 wP ii.1 ii.2]
        ·intro j x v am jT;cases j with
         | zero=>
          rw[Array.getElem?_append_left (by simp)] at jT;simp at am jT; subst am jT; exact aL
         | succ j=>
          rw[List.getElem?_cons_succ] at am;rw[Array.getElem?_append_right (by simp)] at jT;exact JG cX c.args j x v am (by simpa using jT)
      | _=>rw[s1] at ax; cases ax
     ·cases ar
    ·cases ar
   ·cases ar
  ·cases ar
theorem Ka {aD:Operand->ae} {dD:Operand->Value} (cX:∀ x,aP w R h μ (aD x) (dD x)) (cx:Array (Nat × Operand)) :
  (cx.map fun (i,x)=>(i,dD x)).size=(cx.toList.map fun p=>(p.1,aD p.2)).length ∧
  ∀ (j:Nat) (p:Nat × ae) (bV:Nat × Value),(cx.toList.map fun p=>(p.1,aD p.2))[j]? = some p->(cx.map fun (i,x)=>(i,dD x))[j]? = some bV->bV.1=p.1/\aP w R h μ p.2 bV.2:=by
 refine⟨by simp,fun j p bV am et=>?_⟩;rw[List.getElem?_map] at am;rw[Array.getElem?_map] at et;cases ay:cx[j]? with
 | none=>simp[ay] at et
 | some o=>
  simp[ay] at am et;subst am et;exact⟨rfl,cX o.2⟩
theorem M6 (rel:b5 R B w h μ) {aD:Operand->ae} {dD:Operand->Value} (cX:∀ x,aP w R h μ (aD x) (dD x)) (o:Oper) {r:nt} (ar:cV P h aD o.op=some r) :
  xY P R B w h μ ((execOp dD o).run P w) r:=by
 obtain⟨dst,op,type,pos,after,guard⟩:=o;have m5:∀ {x:Option ae} {m:Sem Value},(∀ c,x=some c->∃ v,m.run P w=.ok v w/\aP w R h μ c v)->x.map (fun y=>nt.val y h)=some r->
   xY P R B w h μ ((do pure (.value (<-m)) :Sem Next).run P w) r:=by
  intro x m aj aC;cases mf:x with
  | none=>rw[mf] at aC; cases aC
  | some c=>
   rw[mf] at aC;simp only[Option.map_some,Option.some.injEq] at aC; subst aC;obtain⟨v,h1,af⟩:=aj c mf;exact Good.mk (by simp[h1]) (.refl _ _ _) rel af
 have C6:∀ {x:Option (ae × aM)} {m:Sem Value},(∀ c h',x=some (c,h')->∃ v w' μ',m.run P w=.ok v w'/\dk w h μ w' h' μ'/\b5 R B w' h' μ'/\aP w' R h' μ' c v)->x.map (fun y=>nt.val y.1 y.2)=some r->
   xY P R B w h μ ((do pure (.value (<-m)) :Sem Next).run P w) r:=by
  intro x m aj aC;cases mf:x with
  | none=>rw[mf] at aC; cases aC
  | some c=>
   obtain⟨c,h'⟩:=c;rw[mf] at aC;simp only[Option.map_some,Option.some.injEq] at aC; subst aC;obtain⟨v,w',μ',h1,af,ap,aH⟩:=aj c h' mf;exact Good.mk (by simp[h1]) af ap aH
 cases op
 case move x=>
  simp only[cV,Option.some.injEq] at ar; subst ar;exact Good.mk (by simp[execOp]) (.refl _ _ _) rel (cX x)
 case assign x=>
  simp only[cV,Option.some.injEq] at ar; subst ar;exact Good.mk (by simp[execOp]) (.refl _ _ _) rel (cX x)
 case pick c a b=>
  simp only[cV] at ar;have iV:=cX c;cases ak:aD c<;>rw[ak] at ar iV<;>simp only at ar<;>try (cases ar; done)
  simp only[Option.some.injEq] at ar; subst ar;cases ax:dD c<;>rw[ax] at iV<;>try (cases iV; done)
  cases iV;rename_i t;cases t
  ·exact Good.mk (v:=dD b) (by simp[execOp,ax,asBool]) (.refl _ _ _) rel (by simpa using cX b)
  ·exact Good.mk (v:=dD a) (by simp[execOp,ax,asBool]) (.refl _ _ _) rel (by simpa using cX a)
 case alloc t=>
  simp only[cV] at ar;cases aB:gK P t with
  | none=>rw[aB] at ar; cases ar
  | some z=>
   rw[aB] at ar;simp only[Option.map_some,Option.some.injEq] at ar; subst ar;obtain⟨v,ax,aC⟩:=t7 (P:=P) (w:=w) (R:=R) (h:=h) (μ:=μ) aB;obtain⟨bn,bA,a3⟩:=AM rel (cs:=z) (vs:=v.cells) t aC.1 aC.2;exact Good.mk (by simp[execOp,Instr.alloc,ax,newVar,newRow]) bn bA (a3 0)
 case box t x=>
  simp only[cV] at ar;cases aB:(aD x).cells with
  | none=>rw[aB] at ar; cases ar
  | some z=>
   rw[aB] at ar;simp only[Option.map_some,Option.some.injEq] at ar; subst ar;obtain⟨cd,ce⟩:=A6 (cX x) aB;obtain⟨bn,bA,a3⟩:=AM rel (cs:=z) (vs:=(dD x).cells) t cd ce;exact Good.mk (by simp[execOp,Instr.box,newVar,newRow]) bn bA (a3 0)
 case build t ev=>
  obtain⟨cd,ce⟩:=Ka cX ev;exact m5 (fun c ak=>acF ak cd ce) ar
 case buildSlice t len ev=>
  obtain⟨cd,ce⟩:=Ka cX ev;exact C6 (fun c h' ak=>acE rel ak cd ce) ar
 case load t a=>exact m5 (fun c ak=>V6 rel ak (cX a)) ar
 case store t a x=>
  simp only[cV] at ar;cases cm:xI P h t (aD a) (aD x) with
  | none=>rw[cm] at ar; cases ar
  | some h'=>
   rw[cm] at ar;simp only[Option.map_some,Option.some.injEq] at ar; subst ar;obtain⟨w',h1,af,ap⟩:=amb (P:=P) rel cm (cX a) (cX x);exact⟨undef,w',μ,.inr ⟨by simp[execOp,h1],rfl⟩,af,ap,.bU [] #[] rfl (fun _ _ _ aR=>by simp at aR)⟩
 case nilCheck x=>
  simp only[cV] at ar;have ax:=cX x;cases ak:aD x<;>rw[ak] at ar ax<;>simp only at ar<;>try (cases ar; done)
  all_goals
   simp only[Option.some.injEq] at ar; subst ar;cases aj:dD x<;>rw[aj] at ax<;>try (cases ax; done)
   rename_i y;refine Good.mk (v:=dD x) ?_ (.refl _ _ _) rel (by rw[aj]; exact ax);cases ax<;>simp[execOp,aj]
 case binOp op t x y auo=>exact m5 (fun c ak=>ack ak (cX x) (cX y)) ar
 case unOp op t x=>exact m5 (fun c ak=>amS ak (cX x)) ar
 case convert s d x=>
  simp only[cV] at ar;split at ar
  ·rename_i c ak;simp only[Option.some.injEq] at ar; subst ar;obtain⟨v,w',h1,af,ap,aH⟩:=acJ rel ak (cX x);exact Good.mk (by simp[execOp,h1]) af ap aH
  ·exact m5 (fun c ak=>adq rel ak (cX x)) ar
 case makeInterface t x=>
  simp only[cV] at ar;cases aL:P.underlying t with
  | none=>rw[aL] at ar; cases ar
  | some d=>
   rw[aL] at ar;cases d<;>simp only at ar<;>try (cases ar; done)
   all_goals
    simp only[Option.some.injEq] at ar; subst ar;exact Good.mk (v:=.iface t (dD x)) (by simp[execOp,Instr.makeInterface,cu aL]) (.refl _ _ _) rel (.fH t _ _ (cX x))
 case makeFunc fn first e5=>
  cases fn<;>simp only[cV] at ar<;>try (cases ar; done)
  simp only[Option.some.injEq] at ar; subst ar;exact Good.mk (by simp[execOp,Instr.makeFunc]) (.refl _ _ _) rel (.fn _ _ _ _ _ (by simp) (by simp) (JG cX first) (JG cX e5))
 case makeSlice t l c=>exact C6 (fun c' h' ak=>ai3 rel ak (cX l) (cX c)) ar
 case slice t x cI aA cF=>exact m5 (fun c ak=>alO rel ak (cX x) (J2 cX cI) (J2 cX aA) (J2 cX cF)) ar
 case fieldAddr s x f=>exact m5 (fun c ak=>aec ak (cX x)) ar
 case field t x f=>
  simp only[cV] at ar;split at ar
  ·rename_i cs fd aj aJ;have ax:=cX x;rw[aj] at ax;exact m5 (fun c ak=>aed aJ ak ax) ar
  ·cases ar
 case indexAddr t x i=>exact m5 (fun c ak=>ahO ak (cX x) (cX i)) ar
 case index t x i=>exact m5 (fun c ak=>Jk ak (cX x) (cX i)) ar
 case extract x i=>
  simp only[cV] at ar;have ax:=cX x;cases ak:aD x<;>rw[ak] at ar ax<;>simp only at ar<;>try (cases ar; done)
  rename_i vs;cases aj:dD x<;>rw[aj] at ax<;>try (cases ax; done)
  rename_i arr;cases ax with
  | bU _ _ aq I6=>
   refine m5 (m:=Instr.extract (dD x) i) (fun c ak=>?_) ar;have aN:i<arr.size:=by rw[aq]; exact (List.getElem?_eq_some_iff.1 ak).1
   exact⟨arr[i],by simp[Instr.extract,aj,aN],I6 i c _ ak (by simp[aN])⟩
 case call c=>exact acU rel cX ar
 case makeMap t r=>
  simp only[cV] at ar;split at ar
  ·rename_i k e aL aC;simp only[Option.some.injEq] at ar; subst ar;obtain⟨v,w',μ',h1,af,ap,aH⟩:=ai2 (P:=P) (t:=t) (r:=r.map dD) rel ⟨_,_,aL⟩ (fun x aj=>by
    cases r with
    | none=>cases aj
    | some o=>
     simp only[Option.map_some,Option.some.injEq] at aj; subst aj;simp only at aC;cases aA:asInt (aD o) with
     | none=>rw[aA] at aC; cases aC
     | some n=>
      obtain⟨k,aE⟩:=pC aA (cX o);exact⟨k,n,aE⟩)
   exact Good.mk (by simp[execOp,h1]) af ap aH
  ·cases ar
 case lookup t m k ok=>exact m5 (fun c ak=>aiX rel ak (cX m) (cX k)) ar
 case mapUpdate t m k x=>
  simp only[cV] at ar;cases cm:vp P h t (aD m) (aD k) (aD x) with
  | none=>rw[cm] at ar; cases ar
  | some h'=>
   rw[cm] at ar;simp only[Option.map_some,Option.some.injEq] at ar; subst ar;obtain⟨w',h1,af,ap⟩:=Wf (P:=P) rel cm (cX m) (cX k) (cX x);exact⟨undef,w',μ,.inr ⟨by simp[execOp,h1],rfl⟩,af,ap,.bU [] #[] rfl (fun _ _ _ aR=>by simp at aR)⟩
 case insert t m k x=>
  simp only[cV] at ar;cases cm:vp P h t (aD m) (aD k) (aD x) with
  | none=>rw[cm] at ar; cases ar
  | some h'=>
   rw[cm] at ar;simp only[Option.map_some,Option.some.injEq] at ar; subst ar;obtain⟨w',h1,af,ap⟩:=Wf (P:=P) rel cm (cX m) (cX k) (cX x);exact⟨undef,w',μ,.inr ⟨by simp[execOp,h1],rfl⟩,af,ap,.bU [] #[] rfl (fun _ _ _ aR=>by simp at aR)⟩
 case range t x=>exact C6 (fun c h' ak=>akL rel ak (cX x)) ar
 case next it isS=>
  cases isS with
  | false=>simp only[cV] at ar; cases ar
  | true=>exact C6 (fun c h' ak=>by obtain⟨v,w',h1,af,ap,aH⟩:=ajd (P:=P) (ty:=type) rel ak (cX it); exact⟨v,w',μ,h1,af,ap,aH⟩) ar
 case typeAssert x NA t ok=>
  simp only[cV] at ar;split at ar
  ·rename_i z aB;exact m5 (fun c ak=>amn aB ak (cX x)) ar
  ·cases ar
 all_goals (simp only[cV] at ar; cases ar)
end
inductive pu where
 | normal
 | exit (id:Nat)
 | ret
def pu.out:pu->Exit
 | .normal=>.normal
 | .exit id=>.exit id
 | .ret=>.ret
def je (ops:Array Oper) (ah:Nat->ae) (o:Oper) :Option Bool:=
 match o.guard with
 | none=>some true
 | some (j,xQ)=>match (ops[j]?).bind (·.dst) with
  | none=>some false
  | some d=>match ah d with
   | .bool b=>some (b == xQ)
   | .bad=>none
   | _=>some false
def gp (ah:Nat->ae) (dst:Option Tmp) (c:ae) :Nat->ae:=match dst with | some d=>bO ah d c | none=>ah
def nE (N:Nat) (dst:Option Tmp) :Bool:=match dst with | some d=>decide (d<N) | none=>true
def xF (P:Program) (h:aM) (ah:Nat->ae) :ResultVar->Option ae
 | .tmp t=>some (ah t)
 | .cell a t=>qg P h t (ah a)
def tG (P:Program) (h:aM) (ah:Nat->ae) :List ResultVar->Option (List ae)
 | []=>some []
 | r::lJ=>match xF P h ah r,tG P h ah lJ with
  | some v,some vs=>some (v::vs)
  | _,_=>none
def tS:List ae->ae
 | [v]=>v
 | vs=>.bU vs
def Dx (P:Program) (h:aM) (ah:Nat->ae) (fn:Func) :Option ae:=(tG P h ah fn.results.toList).map tS
mutual
def ae.closed:ae->Bool
 | .aS cs=>bP cs
 | .bU cs=>bP cs
 | .cn cs _=>bP cs
 | .b6 _ es=>ye es
 | .fn _ a b=>bP a&&bP b
 | .fH _ v=>v.closed
 | .ptr .. | .ao .. | .mp _ | .it _=>false
 | _=>true
def bP:List ae->Bool
 | []=>true
 | c::cs=>c.closed&&bP cs
def ye:List (List ae)->Bool
 | []=>true
 | c::cs=>bP c&&ye cs
end
def eN (w:World) (A:Nat->Prop) (c:ae) (v:Value) :Prop:=aP w A aM.empty (fun _=>none) c v
structure vS (w w' : World) :Prop extends RowKit.Below w.heap.size w w' where
 drawn:w.drawn<=w'.drawn
def qM (G:Nat->ae) (w:World) (R:Nat->Prop) (h:aM) (μ:cG) :Prop:=∀ g,(G g).closed=true/\aP w R h μ (G g) (.pointer (some ⟨g,0,none⟩))
def qJ (P:Program) (G:Nat->ae) (f:FuncId) (args:List ae) (h:aM) (r:ae) (h' : aM) :Prop:=
 ∀ (R:Nat->Prop) (B:Nat) (w:World) (μ:cG) (vs:Array Value),b5 R B w h μ->qM G w R h μ->vs.size=args.length->
  (∀ (j:Nat) (c:ae) (v:Value),args[j]? = some c->vs[j]? = some v->aP w R h μ c v)->
  Calls P f vs w fun e w'=>∃ v μ',e=.returned v/\dk w h μ w' h' μ'/\b5 R B w' h' μ'/\aP w' R h' μ' r v
def bT (P:Program) (G:Nat->ae) (f:FuncId) (args:List ae) (r:ae) :Prop:=
 ∀ (w:World) (A:Nat->Prop) (vs:Array Value),(∀ g,eN w A (G g) (.pointer (some ⟨g,0,none⟩)))->vs.size=args.length->
  (∀ (j:Nat) (c:ae) (v:Value),args[j]? = some c->vs[j]? = some v->eN w A c v)->
  Calls P f vs w fun e w'=>∃ v,e=.returned v/\vS w w'/\eN w' (fun k=>A k\/w.heap.size<=k) r v
def lf (P:Program) (G:Nat->ae) (f:FuncId) (args:List ae) (r:ae) :Prop:=
 ∀ (w:World) (A:Nat->Prop) (vs:Array Value),(∀ g,eN w A (G g) (.pointer (some ⟨g,0,none⟩)))->vs.size=args.length->
  (∀ (j:Nat) (c:ae) (v:Value),args[j]? = some c->vs[j]? = some v->eN w A c v)->
  Calls P f vs w fun e w'=>∃ v,e=.returned v/\vS w w'/\eN w' (fun k=>w.heap.size<=k) r v
inductive fa (h:aM) :ae->ae->Prop
 | same (c:ae) (ak:c.closed=true) :fa h c c
 | aS (cs cs' : List ae) (aq:cs'.length=cs.length) (ax:∀ (j:Nat) (c c' : ae),cs[j]? = some c->cs'[j]? = some c'->fa h c c') :fa h (.aS cs) (.aS cs')
 | bU (cs cs' : List ae) (aq:cs'.length=cs.length) (ax:∀ (j:Nat) (c c' : ae),cs[j]? = some c->cs'[j]? = some c'->fa h c c') :fa h (.bU cs) (.bU cs')
 | ao (z b off len cap sz:Nat) (cs:List ae) (es:List (List ae)) (ai:h.f b=.cells sz cs) (aq:es.length=len) (aB:∀ e∈es,e.length=z)
   (d2:off+len*z<=cs.length)
   (ax:∀ (i j:Nat) (e:List ae) (c c' : ae),es[i]? = some e->e[j]? = some c'->cs[off+(i*z+j)]? = some c->fa h c c') :fa h (.ao z b off len cap sz) (.b6 z es)
 | pl (z b off cap sz:Nat) :fa h (.ao z b off 0 cap sz) (.b6 z [])
 | ptr (b off sz:Nat) (cs cs' : List ae) (ai:h.f b=.cells sz cs) (aq:cs'.length=cs.length) (ax:∀ (j:Nat) (c c' : ae),cs[j]? = some c->cs'[j]? = some c'->fa h c c') :fa h (.ptr b off sz) (.cn cs' off)
mutual
def ae.flat:ae->Bool
 | .aS cs=>kf cs
 | .bU cs=>kf cs
 | .fH _ v=>v.flat
 | .bool _ | .int .. | .str _ | .ib | .a6 | .gJ | .hQ | .ia=>true
 | _=>false
def kf:List ae->Bool
 | []=>true
 | c::cs=>c.flat&&kf cs
end
inductive Ay where
 | pure | new | fv
def lE (P:Program) (aD:Operand->ae) :Op->Option (List ae × (Nat->ae))
 | .alloc t=>(gK P t).map fun z=>(z,fun b=>.ptr b 0 z.length)
 | .box _ x=>(aD x).cells.map fun cs=>(cs,fun b=>.ptr b 0 cs.length)
 | .buildSlice t len ev=>match hp P t with
  | some e=>match cv P e,gK P e with
   | some z,some zero=>if zero.length=z/\len*z<=16777216 then
     (gF (fun i=>some (i*z,z)) (dp zero len) (ev.toList.map fun p=>(p.1,aD p.2))).map fun cs=>(cs,fun b=>.ao z b 0 len len (len*z))
    else none
   | _,_=>none
  | none=>none
 | .makeSlice t l c=>match hp P t,asInt (aD l),asInt (aD c) with
  | some e,some l,some c=>match cv P e,iR P e,gK P e with
   | some z,some by_,some zero=>
    if zero.length=z/\0<=l/\l<=c/\c<9223372036854775808/\by_*c<=cJ then
     some (dp zero c.toNat,fun b=>.ao z b 0 l.toNat c.toNat (c.toNat*z))
    else none
   | _,_,_=>none
  | _,_,_=>none
 | _=>none
def ir (ops:Array Oper) (t:Nat) :Option Nat:=(List.range ops.size).find? fun i=>match ops[i]? with | some o=>o.dst == some t | none=>false
def ln (ops:Array Oper) (pre:Nat->Nat->Bool) (val:Nat->ae) (ah:Nat->ae) (i:Nat) (o:Oper) :Nat->ae:=fun t=>
 if (o.looksAt ops).contains t then
  match ir ops t with
  | some j=>if pre i j then val j else ah t
  | none=>ah t
 else .bad
structure qK (ops:Array Oper) (pre:Nat->Nat->Bool) :Prop where
 yo:∀ (i:Nat) (o:Oper) (e:Edge),ops[i]? = some o->e∈o.after->Region.binds .any e=true->e.on<i
 chain:∀ (i:Nat) (o:Oper) (j:Nat),ops[i]? = some o->pre i j=true->∃ e∈o.after,Region.binds .any e=true/\(e.on=j\/pre e.on j=true)
 one:∀ (i:Nat) (o:Oper) (t:Tmp),ops[i]? = some o->o.dst=some t->ir ops t=some i
 acc:∀ (i:Nat) (o:Oper) (t:Tmp) (j:Nat),ops[i]? = some o->t∈o.looksAt ops->ir ops t=some j->pre i j=true\/pre j i=true\/j=i
 atT:Region.noSelect ops=true
def tB (h:aM) (l:List (List ae)) :aM:=l.foldl (fun h cs=>h.push (.cells cs.length cs)) h
def mB (h h' : aM) :Prop:=∃ l,h'=tB h l
theorem W7:∀ (l:List (List ae)) (h:aM),(tB h l).n=h.n+l.length
 | [],h=>rfl
 | c::l,h=>by
  have:=W7 l (h.push (.cells c.length c));simp only[tB,List.foldl_cons,List.length_cons] at this ⊢;rw[this];simp only[dJ,eK]; omega
theorem W8:∀ (l:List (List ae)) (h:aM) (b:Nat),b<h.n->(tB h l).f b=h.f b
 | [],h,b,_=>rfl
 | c::l,h,b,ai=>by
  have:=W8 l (h.push (.cells c.length c)) b (by simp only[dJ,eK]; omega);simp only[tB,List.foldl_cons] at this ⊢;rw[this];simp only[dJ,eK];exact cb _ _ _ _ (by omega)
theorem W6:∀ (l:List (List ae)) (h:aM),(∀ b,h.n<=b->h.f b=.none)->∀ b,(tB h l).n<=b->(tB h l).f b=.none
 | [],h,aJ=>aJ
 | c::l,h,aJ=>by
  refine W6 l (h.push (.cells c.length c)) (fun b ai=>?_);simp only[dJ,eK] at ai ⊢;rw[cb _ _ _ _ (by omega)];exact aJ b (by omega)
theorem mB.n {h h' : aM} (g:mB h h') :h.n<=h'.n:=by obtain⟨l,rfl⟩:=g; rw[W7]; omega
theorem mB.same {h h' : aM} (g:mB h h') (b:Nat) (ai:b<h.n) :h'.f b=h.f b:=by obtain⟨l,rfl⟩:=g; exact W8 l h b ai
theorem mB.fresh {h h' : aM} (g:mB h h') (aJ:∀ b,h.n<=b->h.f b=.none) :∀ b,h'.n<=b->h'.f b=.none:=by obtain⟨l,rfl⟩:=g; exact W6 l h aJ
inductive ou (h af:aM) :ae->ae->Prop
 | same (c:ae) :ou h af c c
 | aS (cs cs' : List ae) (aq:cs'.length=cs.length) (ax:∀ (j:Nat) (c c' : ae),cs[j]? = some c->cs'[j]? = some c'->ou h af c c') :ou h af (.aS cs) (.aS cs')
 | ao (z b off len cap sz:Nat) (cs:List ae) (es:List (List ae)) (ai:h.f b=.cells sz cs) (bJ:af.f b=.dead) (aq:es.length=len) (aB:∀ e∈es,e.length=z)
   (d2:off+len*z<=cs.length)
   (ax:∀ (i j:Nat) (e:List ae) (c c' : ae),es[i]? = some e->e[j]? = some c'->cs[off+(i*z+j)]? = some c->ou h af c c') :ou h af (.ao z b off len cap sz) (.b6 z es)
 | pl (z b off cap sz:Nat) :ou h af (.ao z b off 0 cap sz) (.b6 z [])
structure ov (h af:aM) :Prop where
 n:af.n=h.n
 blk:∀ b,af.f b=h.f b\/∃ sz cs,h.f b=.cells sz cs/\(af.f b=.dead\/∃ g0,af.f b=.cells sz g0/\g0.length=cs.length/\∀ (j:Nat) (c de:ae),cs[j]? = some c->g0[j]? = some de->ou h af c de)
inductive J where
 | code (c:Code) (N:Nat) (ah:Nat->ae) (h:aM) (e:pu) (bY:Nat->ae) (h' : aM)
 | ops (all:Array Oper) (l:List Oper) (N:Nat) (ah:Nat->ae) (h:aM) (bY:Nat->ae) (h' : aM)
 | op (op:Op) (ah:Nat->ae) (h:aM) (v:ae) (h' : aM)
 | call (f:FuncId) (args:List ae) (h:aM) (r:ae) (h' : aM)
def wt (pre:Nat->Nat->Bool) (m:Nat) (ar:Nat->Nat) (i k:Nat) :Prop:=k<=m/\(∀ q,q<m->pre i (ar q)=true->q<k)/\∀ q,q<m->pre (ar q) i=true->k<=q
inductive dd (P:Program) (G:Nat->ae) :J->Prop where
 | skip (N ah h) :dd P G (.code .skip N ah h .normal ah h)
 | label (l N ah h) :dd P G (.code (.label l) N ah h .normal ah h)
 | ret (N ah h) :dd P G (.code .ret N ah h .ret ah h)
 | exit (id N ah h) :dd P G (.code (.exit id) N ah h (.exit id) ah h)
 | aad {a b N ah h hW h1 e bY h'}:dd P G (.code a N ah h .normal hW h1)->dd P G (.code b N hW h1 e bY h')->dd P G (.code (.seq a b) N ah h e bY h')
 | MW {a b N ah h e bY h'}:dd P G (.code a N ah h e bY h')->e≠.normal->dd P G (.code (.seq a b) N ah h e bY h')
 | cond {c x y N ah h b e bY h'}:cU G ah c=.bool b->dd P G (.code (if b then x else y) N ah h e bY h')->dd P G (.code (.cond c x y) N ah h e bY h')
 | AR {id c N ah h e bY h'}:dd P G (.code c N ah h e bY h')->e≠.exit id->dd P G (.code (.block id c) N ah h e bY h')
 | Ou {id c N ah h bY h'}:dd P G (.code c N ah h (.exit id) bY h')->dd P G (.code (.block id c) N ah h .normal bY h')
 | xl {c N ah h hW h1 e bY h'}:dd P G (.code c N ah h .normal hW h1)->dd P G (.code (.loop c) N hW h1 e bY h')->dd P G (.code (.loop c) N ah h e bY h')
 | JH {c N ah h e bY h'}:dd P G (.code c N ah h e bY h')->e≠.normal->dd P G (.code (.loop c) N ah h e bY h')
 | scope {c N ah h e bY h'}:dd P G (.code c N ah h e bY h')->dd P G (.code (.scope c) N ah h e bY h')
 | region {id ops N ah h bY h'}:dd P G (.ops ops ops.toList N ah h bY h')->dd P G (.code (.region id ops false) N ah h .normal bY h')
 | draw {id ops N ah h bY h'} (pre:Nat->Nat->Bool) (val:Nat->ae) (W:Nat->Bool) (cls:Nat->Ay) (m:Nat) (ar:Nat->Nat) (e1 px:Nat->aM) (fC:Nat->Nat) (cells:Nat->List ae)
   (gu:qK ops pre)
   (nM:∀ (i:Nat) (o:Oper),ops[i]? = some o->nE N o.dst=true)
   (aQ:mB h (e1 0)) (hm:h'=e1 m) (CJ:bY=fun t=>match ir ops t with | some i=>val i | none=>ah t)
   (uQ:∀ (i:Nat) (o:Oper),ops[i]? = some o->W i=true->cls i=.fv->∃ q,q<m/\ar q=i)
   (yP:∀ q,q<m->∃ o,ops[ar q]? = some o/\W (ar q)=true/\cls (ar q)=.fv)
   (lz:∀ q eT,q<m->eT<m->q<eT->pre (ar eT) (ar q)=true)
   (gk:∀ q eT,q<m->eT<m->ar q=ar eT->q=eT)
   (tb:∀ (i:Nat) (o:Oper),ops[i]? = some o->je ops (ln ops pre val ah i o) o=some (W i))
   (CA:∀ (i:Nat) (o:Oper),ops[i]? = some o->W i=false->val i=gv)
   (Cs:∀ (i:Nat) (o:Oper),ops[i]? = some o->W i=true->cls i=.pure->∀ k,wt pre m ar i k->cV P (e1 k) (cU G (ln ops pre val ah i o)) o.op=some (.val (val i) (e1 k)))
   (nT:∀ (i:Nat) (o:Oper),ops[i]? = some o->W i=true->cls i=.new->∃ mk,lE P (cU G (ln ops pre val ah i o)) o.op=some (cells i,mk)/\val i=mk (fC i)/\h.n<=fC i ∧
    ∀ k,wt pre m ar i k->(e1 k).f (fC i)=.cells (cells i).length (cells i))
   (BT:∀ (i j:Nat) (o ci:Oper),ops[i]? = some o->ops[j]? = some ci->W i=true->W j=true->cls i=.new->cls j=.new->fC i=fC j->i=j)
   (BU:∀ (i:Nat) (o:Oper) (q:Nat),ops[i]? = some o->W i=true->cls i=.new->q<m->fC i<(e1 q).n\/(px q).n<=fC i)
   (nN:∀ q,q<m->mB (px q) (e1 (q+1)))
   (kO:∀ (q:Nat) (o:Oper),q<m->ops[ar q]? = some o->dd P G (.op o.op (ln ops pre val ah (ar q) o) (e1 q) (val (ar q)) (px q))) :
   dd P G (.code (.region id ops true) N ah h .normal bY h')
 | WE {all N ah h}:dd P G (.ops all [] N ah h ah h)
 | WG {all o l N ah h bY h'}:je all ah o=some false->nE N o.dst=true->dd P G (.ops all l N (gp ah o.dst gv) h bY h')->dd P G (.ops all (o::l) N ah h bY h')
 | WF {all o l N ah h v h1 bY h'}:je all ah o=some true->nE N o.dst=true->dd P G (.op o.op ah h v h1)->dd P G (.ops all l N (gp ah o.dst v) h1 bY h')->dd P G (.ops all (o::l) N ah h bY h')
 | Da {op ah h v h'}:cV P h (cU G ah) op=some (.val v h')->dd P G (.op op ah h v h')
 | xw {op ah h f args h1 v h'}:cV P h (cU G ah) op=some (.call f args h1)->dd P G (.call f args h1 v h')->dd P G (.op op ah h v h')
 | DV {op ah h v h' dx af}:dd P G (.op op ah h v h')->ov h' af->ou h' af v dx->dd P G (.op op ah h dx af)
 | inline {f fn c args h e bY h' r}:P.funcs[f]? = some fn->fn.body=some c->
   dd P G (.code c (args.length+(fn.ntmps - args.length)) (fun t=>args.getD t gv) h e bY h')->(e=.normal\/e=.ret)->Dx P h' bY fn=some r->dd P G (.call f args h r h')
 | pure {f args h r}:bT P G f args r->bP args=true->dd P G (.call f args h r h)
 | Kh {f args hl h r}:bT P G f hl r->hl.length=args.length->(∀ (j:Nat) (c c' : ae),args[j]? = some c->hl[j]? = some c'->fa h c c')->r.flat=true->dd P G (.call f args h r h)
 | ext {f args h r h'}:qJ P G f args h r h'->dd P G (.call f args h r h')
 | Ki {f args hl h r}:lf P G f hl r->hl.length=args.length->(∀ (j:Nat) (c c' : ae),args[j]? = some c->hl[j]? = some c'->fa h c c')->dd P G (.call f args h r h)
section
variable {P:Program} {G:Nat->ae}
structure lg (N:Nat) (w:World) (R:Nat->Prop) (h:aM) (μ:cG) (ah:Nat->ae) (a:Act) :Prop where
 size:a.tmps.size=N
 defers:a.defers=[]
 val:∀ t,aP w R h μ (ah t) (a.tmps.getD t undef)
theorem qM.ext {w w' : World} {R:Nat->Prop} {h h' : aM} {μ μ' : cG} (g:qM G w R h μ) (e:dk w h μ w' h' μ') :qM G w' R h' μ':=fun i=>⟨(g i).1,(g i).2.ext e⟩
theorem lg.ext {N:Nat} {w w' : World} {R:Nat->Prop} {h h' : aM} {μ μ' : cG} {ah:Nat->ae} {a:Act} (s:lg N w R h μ ah a) (e:dk w h μ w' h' μ') :lg N w' R h' μ' ah a:=
 ⟨s.size,s.defers,fun t=>(s.val t).ext e⟩
theorem lg.cU {N:Nat} {w:World} {R:Nat->Prop} {h:aM} {μ:cG} {ah:Nat->ae} {a:Act} (s:lg N w R h μ ah a) (g:qM G w R h μ) (x:Operand) :aP w R h μ (cU G ah x) (a.eval x) :=by
 cases x with
 | tmp t=>exact s.val t
 | const v=>exact aP.tv v
 | global i=>exact (g i).2
 | func f=>exact .fn f [] [] #[] #[] rfl rfl (fun _ _ _ aR=>by simp at aR) (fun _ _ _ aR=>by simp at aR)
theorem Np {w:World} {R:Nat->Prop} {h:aM} {μ:cG}:aP w R h μ gv undef:=.bU [] #[] rfl (fun _ _ _ aR=>by simp at aR)
theorem lg.put {N:Nat} {w:World} {R:Nat->Prop} {h:aM} {μ:cG} {ah:Nat->ae} {a:Act} (s:lg N w R h μ ah a) {dst:Option Tmp} (bJ:nE N dst=true) {c:ae} {v:Value} (ax:aP w R h μ c v) :
  lg N w R h μ (gp ah dst c) (a.put dst v) :=by
 cases dst with
 | none=>exact s
 | some d=>
  have aN:d<a.tmps.size:=by rw[s.size]; simpa [nE] using bJ
  refine⟨by simp[Act.put,s.size],s.defers,fun t=>?_⟩;simp only[gp,Act.put];by_cases aU:t=d
  ·subst aU;rw[iA];simp[aN];exact ax
  ·rw[cb _ _ _ _ aU];have:=s.val t;simpa [Array.getElem?_setIfInBounds_ne (Ne.symm aU)] using this
theorem Nv {w:World} {R:Nat->Prop} {h:aM} {μ:cG} {ops:Array Oper} {ah:Nat->ae} {tmps:Array Value} {o:Oper} {b:Bool} (bt:je ops ah o=some b)
  (ax:∀ d,(∃ j xQ,o.guard=some (j,xQ)/\(ops[j]?).bind (·.dst)=some d)->aP w R h μ (ah d) (tmps.getD d undef)) :Region.wanted o (yielded ops tmps)=b:=by
 unfold je at bt;unfold Region.wanted;cases az:o.guard with
 | none=>rw[az] at bt; simpa using bt
 | some n2=>
  obtain⟨j,xQ⟩:=n2;rw[az] at bt;simp only at bt ⊢;unfold yielded;cases bJ:(ops[j]?).bind (·.dst) with
  | none=>
   rw[bJ] at bt;simp only[Option.some.injEq] at bt;subst bt;simp
  | some d=>
   rw[bJ] at bt;have xb:=ax d ⟨j,xQ,az,bJ⟩;simp only[Option.bind_some] at bt ⊢;cases aU:tmps[d]? with
   | none=>
    have aL:tmps.getD d undef=undef:=by simp[Array.getD_eq_getD_getElem?,aU]
    rw[aL] at xb;cases ak:ah d<;>rw[ak] at bt xb<;>simp at bt<;>try (subst bt; simp)
    all_goals cases xb
   | some v=>
    have aL:tmps.getD d undef=v:=by simp[Array.getD_eq_getD_getElem?,aU]
    rw[aL] at xb;cases ak:ah d<;>rw[ak] at bt xb<;>simp at bt
    all_goals (cases xb<;>(subst bt; simp))
def nn (P:Program) (n:Nat) (c:Code) (Q:Exit->Act->World->Prop) (a:Act) (w:World) :Prop:=
 match c with
 | .loop c'=>Code.rounds P c' Q n a w
 | c=>c.wp P Q a w
theorem nn.wp {n:Nat} {c:Code} {Q:Exit->Act->World->Prop} {a:Act} {w:World} (h:nn P n c Q a w) :c.wp P Q a w:=by
 cases c<;>first | exact wp_loop_rounds n h | exact h
def uf (P:Program) (G:Nat->ae) :J->Prop
 | .code c N ah h e bY h'=>∃ n,∀ (R:Nat->Prop) (B:Nat) (w:World) (μ:cG) (a:Act) (Q:Exit->Act->World->Prop),b5 R B w h μ->qM G w R h μ->lg N w R h μ ah a->
   (∀ eo w' μ',dk w h μ w' h' μ'->b5 R B w' h' μ'->lg N w' R h' μ' bY eo->Q e.out eo w')->nn P n c Q a w
 | .ops all l N ah h bY h'=>∀ (R:Nat->Prop) (B:Nat) (w:World) (μ:cG) (a:Act) (Q:Exit->Act->World->Prop),b5 R B w h μ->qM G w R h μ->lg N w R h μ ah a->
   (∀ eo w' μ',dk w h μ w' h' μ'->b5 R B w' h' μ'->lg N w' R h' μ' bY eo->Q .normal eo w')->wpList P all Q l a w
 | .op op ah h v h'=>∀ (R:Nat->Prop) (B:Nat) (w:World) (μ:cG) (a:Act) (o:Oper) (K:Act->World->Prop) (Q:Exit->Act->World->Prop),o.op=op->b5 R B w h μ->qM G w R h μ->
   (∀ x,aP w R h μ (cU G ah x) (a.eval x))->(∀ bf w' μ',dk w h μ w' h' μ'->b5 R B w' h' μ'->aP w' R h' μ' v bf->K (a.put o.dst bf) w')->o.wp P a w K Q
 | .call f args h r h'=>qJ P G f args h r h'
theorem ak9 {N:Nat} {w:World} {R:Nat->Prop} {B:Nat} {h:aM} {μ:cG} {ah:Nat->ae} {a:Act} (rel:b5 R B w h μ) (s:lg N w R h μ ah a) {fn:Func} {r:ae} (aC:Dx P h ah fn=some r) :
  ∃ v,(results fn a.tmps).run P w=.ok v w/\aP w R h μ r v:=by
 have one:∀ (x:ResultVar) (c:ae),xF P h ah x=some c->∃ v,(∀ F:ResultVar->Sem Value,(∀ t,F (.tmp t)=pure (a.tmps.getD t undef))->(∀ p t,F (.cell p t)=(do loadVar t (<-asAddr (a.tmps.getD p undef))))->(F x).run P w=.ok v w)/\aP w R h μ c v:=by
  intro x c aj;cases x with
  | tmp t=>
   simp only[xF,Option.some.injEq] at aj; subst aj;exact⟨_,fun F h1 _=>by rw[h1]; rfl,s.val t⟩
  | cell p t=>
   simp only[xF] at aj;obtain⟨v,h1,af⟩:=V6 (P:=P) rel aj (s.val p);refine⟨v,fun F _ uD=>?_,af⟩;rw[uD];cases aF:a.tmps.getD p undef with
   | pointer NQ=>
    cases NQ with
    | none=>rw[aF] at h1; simp[Instr.loadAt,Instr.sureAddr] at h1
    | some NQ=>rw[aF] at h1; simpa [Instr.loadAt,Instr.sureAddr,asAddr,aF] using h1
   | _=>rw[aF] at h1; simp[Instr.loadAt,Instr.sureAddr] at h1
 have all:∀ (l:List ResultVar) (cs:List ae),tG P h ah l=some cs->∃ vs:List Value,(∀ F:ResultVar->Sem Value,(∀ t,F (.tmp t)=pure (a.tmps.getD t undef))->(∀ p t,F (.cell p t)=(do loadVar t (<-asAddr (a.tmps.getD p undef))))->(l.mapM F).run P w=.ok vs w) ∧
   vs.length=cs.length/\∀ (j:Nat) (c:ae) (v:Value),cs[j]? = some c->vs[j]? = some v->aP w R h μ c v:=by
  intro l
  induction l with
  | nil=>intro cs ak; simp only[tG,Option.some.injEq] at ak; subst ak; exact⟨[],fun F _ _=>by simp,rfl,fun _ _ _ aR=>by simp at aR⟩
  | cons x l aK=>
   intro cs ak;unfold tG at ak;split at ak
   ·rename_i c cs' aj aq;simp only[Option.some.injEq] at ak; subst ak;obtain⟨v,h1,af⟩:=one x c aj;obtain⟨vs,ap,aH,bc⟩:=aK cs' aq;refine⟨v::vs,fun F cd ce=>by simp only[List.mapM_cons,Sem.run_bind,h1 F cd ce,Result.andThen_ok,ap F cd ce,Sem.run_pure],by simp[aH],fun j c' bf am ax=>?_⟩;cases j with
    | zero=>simp at am ax; subst am ax; exact af
    | succ j=>exact bc j c' bf (by simpa using am) (by simpa using ax)
   ·cases ak
 unfold Dx at aC;cases aq:tG P h ah fn.results.toList with
 | none=>rw[aq] at aC; cases aC
 | some cs=>
  rw[aq] at aC;simp only[Option.map_some,Option.some.injEq] at aC; subst aC;obtain⟨vs,h1,af,ap⟩:=all _ _ aq;have g8:(results fn a.tmps).run P w=.ok (if aR:vs.toArray.size=1 then vs.toArray[0] else .tuple vs.toArray) w:=by
   unfold results;rw[Array.mapM_eq_mapM_toList];simp only[Sem.run_bind,Sem.run_map];rw[h1 _ (fun _=>rfl) (fun _ _=>rfl)];simp
  refine⟨_,g8,?_⟩
  match cs,vs,af,ap with
  | [],[],_,_=>exact .bU [] #[] rfl (fun _ _ _ aR=>by simp at aR)
  | [c],[v],_,ap=>exact ap 0 c v rfl rfl
  | c::c'::cs,v::bf::vs,af,ap=>
   simp only[List.size_toArray,List.length_cons];rw[dif_neg (by omega)];exact .bU _ _ (by simpa using af) (fun j x y am aO=>ap j x y am (by simpa using aO))
theorem um {w:World} {R:Nat->Prop} {h:aM} {μ:cG} {c:ae} {v:Value} (ax:aP w R h μ c v) :c.closed=true->eN w (fun k=>R k/\¬ j6 h μ k) c v:=by
 have aq:∀ (cs:List ae),bP cs=true->∀ (j:Nat) (c:ae),cs[j]? = some c->c.closed=true:=by
  intro cs
  induction cs with
  | nil=>intro _ j c am; simp at am
  | cons x cs aK=>
   intro ak j c am;simp only[bP,Bool.and_eq_true] at ak;cases j with
   | zero=>simp at am; subst am; exact ak.1
   | succ j=>exact aK ak.2 j c (by simpa using am)
 have y1:∀ (es:List (List ae)),ye es=true->∀ (i:Nat) (e:List ae),es[i]? = some e->bP e=true:=by
  intro es
  induction es with
  | nil=>intro _ j c am; simp at am
  | cons x cs aK=>
   intro ak j c am;simp only[ye,Bool.and_eq_true] at ak;cases j with
   | zero=>simp at am; subst am; exact ak.1
   | succ j=>exact aK ak.2 j c (by simpa using am)
 have cell:∀ b o v,Cell w R h μ b o v->Cell w (fun k=>R k/\¬ j6 h μ k) aM.empty (fun _=>none) b o v:=fun b o v ak=>
  ⟨ak.here,ak.one,⟨ak.ro,ak.free⟩,fun ⟨b,m,h1,af,ap⟩=>by cases af⟩
 unfold eN
 induction ax with
 | bool b=>exact fun _=>.bool b
 | int k n=>exact fun _=>.int k n
 | str bs=>exact fun _=>.str bs
 | ib=>exact fun _=>.ib
 | a6=>exact fun _=>.a6
 | gJ=>exact fun _=>.gJ
 | hQ=>exact fun _=>.hQ
 | ia=>exact fun _=>.ia
 | aS cs vs bz h1 ax aK=>exact fun ak=>.aS cs vs bz h1 fun j c v am eI=>aK j c v am eI (aq cs (by simpa [ae.closed] using ak) j c am)
 | bU cs vs bz ax aK=>exact fun ak=>.bU cs vs bz fun j c v am eI=>aK j c v am eI (aq cs (by simpa [ae.closed] using ak) j c am)
 | ptr=>exact fun ak=>by simp[ae.closed] at ak
 | k3=>exact fun ak=>by simp[ae.closed] at ak
 | cn cs off blk o dK ak ax aK=>exact fun er=>.cn cs off blk o dK (fun j am=>cell _ _ _ (ak j am)) fun j c am=>aK j c am (aq cs (by simpa [ae.closed] using er) j c am)
 | ao=>exact fun ak=>by simp[ae.closed] at ak
 | fA=>exact fun ak=>by simp[ae.closed] at ak
 | gS=>exact fun ak=>by simp[ae.closed] at ak
 | b6 z es blk off cap dK cZ aB ak ax aK=>exact fun er=>.b6 z es blk off cap dK cZ aB (fun i j aA am=>cell _ _ _ (ak i j aA am)) fun i e aw j c am=>aK i e aw j c am (aq e (y1 es (by simpa [ae.closed] using er) i e aw) j c am)
 | eZ z a cap=>exact fun _=>.eZ z a cap
 | fn f first e5 fs cs aJ ak h1 af dQ ku=>
  intro er;simp only[ae.closed,Bool.and_eq_true] at er;exact .fn f first e5 fs cs aJ ak (fun j c v am eI=>dQ j c v am eI (aq _ er.1 j c am)) fun j c v am eI=>ku j c v am eI (aq _ er.2 j c am)
 | mp=>exact fun ak=>by simp[ae.closed] at ak
 | it=>exact fun ak=>by simp[ae.closed] at ak
 | fH t c v ax aK=>exact fun er=>.fH t c v (aK (by simpa [ae.closed] using er))
 | kD l=>exact fun _=>.kD l
 | bad v=>exact fun _=>.bad v
theorem yf {cs:List ae} (ak:bP cs=true) :∀ (j:Nat) (c:ae),cs[j]? = some c->c.closed=true:=by
 induction cs with
 | nil=>intro j c am; simp at am
 | cons x cs aK=>
  intro j c am;simp only[bP,Bool.and_eq_true] at ak;cases j with
  | zero=>simp at am; subst am; exact ak.1
  | succ j=>exact aK ak.2 j c (by simpa using am)
theorem eN.up {w:World} {A:Nat->Prop} {R:Nat->Prop} {h:aM} {μ:cG} {c:ae} {v:Value} (ax:eN w A c v) (cA:∀ k,k<w.heap.size->A k->R k/\¬ j6 h μ k) :aP w R h μ c v:=by
 have cell:∀ b o v,Cell w A aM.empty (fun _=>none) b o v->Cell w R h μ b o v:=fun b o v ak=>
  have ai:b<w.heap.size:=World.block_lt_of_cell? _ _ ak.here
  ⟨ak.here,ak.one,(cA b ai ak.ro).1,(cA b ai ak.ro).2⟩
 unfold eN at ax
 induction ax with
 | bool b=>exact .bool b
 | int k n=>exact .int k n
 | str bs=>exact .str bs
 | ib=>exact .ib
 | a6=>exact .a6
 | gJ=>exact .gJ
 | hQ=>exact .hQ
 | ia=>exact .ia
 | aS cs vs bz h1 ax aK=>exact .aS cs vs bz h1 aK
 | bU cs vs bz ax aK=>exact .bU cs vs bz aK
 | ptr b off sz cs m ai hm=>cases hm
 | k3 b off sz a az=>rcases az with az | ⟨n,cs,az,_⟩<;>cases az
 | cn cs off blk o dK ak ax aK=>exact .cn cs off blk o dK (fun j am=>cell _ _ _ (ak j am)) aK
 | ao z b off len cap sz cap' cs m ai hm=>cases hm
 | fA z b off len cap sz cap' a aq ak az=>rcases az with az | ⟨n,cs,az,_⟩<;>cases az
 | gS z b off sz a cs m ai hm=>cases hm
 | b6 z es blk off cap dK cZ aB ak ax aK=>exact .b6 z es blk off cap dK cZ aB (fun i j aA am=>cell _ _ _ (ak i j aA am)) aK
 | eZ z a cap=>exact .eZ z a cap
 | fn f first e5 fs cs aJ ak h1 af dQ ku=>exact .fn f first e5 fs cs aJ ak dQ ku
 | mp b m ai hm=>cases hm
 | it b m ai hm=>cases hm
 | fH t c v ax aK=>exact .fH t c v aK
 | kD l=>exact .kD l
 | bad v=>exact .bad v
theorem WM {R:Nat->Prop} {B:Nat} {w:World} {h:aM} {μ:cG} (rel:b5 R B w h μ) {k:Nat} (ay:j6 h μ k) :k<w.heap.size:=by
 obtain⟨b,m,h1,af,rfl⟩:=ay;exact rel.lt h1 af
theorem z1 {R:Nat->Prop} {B:Nat} {w w' : World} {h:aM} {μ:cG} (rel:b5 R B w h μ) (ai:vS w w') :dk w h μ w' h μ/\b5 R B w' h μ:=by
 have e:dk w h μ w' h μ:=⟨⟨ai.os,ai.tape,ai.output,ai.size,fun k aE _=>ai.block k aE,fun _ ay=>.inl ay,fun b sz cs m h1 af=>.inl ⟨cs,h1,af⟩,fun _ _ az=>az,fun _ _ _ h1 af=>⟨h1,af⟩,Nat.le_refl _,ai.drawn⟩,fun _ _ hm=>hm⟩
 refine⟨e,fun b m hm=>?_,rel.inj,rel.base,rel.fresh,rel.up,Nat.le_trans rel.size ai.size,rel.jC⟩;cases aq:live (h.f b) with
 | false=>cases ak:h.f b<;>first | trivial | (rw[ak] at aq; cases aq)
 | true=>exact (rel.blk b m hm).ext e.toExt0 (ai.block _ (rel.lt aq hm))
theorem ZF {w:World} {R:Nat->Prop} {B:Nat} {h:aM} {μ:cG} (rel:b5 R B w h μ) :∀ {c c' : ae},fa h c c'->∀ {v:Value},aP w R h μ c v->eN w R c' v:=by
 intro c c' aC;have oI:∀ {b sz:Nat} {cs:List ae} {m:M},h.f b=.cells sz cs->μ b=some m->∃ f:Nat->Value,∀ (j:Nat) (c:ae),cs[j]? = some c->Cell w R aM.empty (fun _=>none) m.r (m.s+j) (f j)/\aP w R h μ c (f j) :=by
  intro b sz cs m ai hm;have f8:=rel.blk b m hm;rw[ai] at f8;obtain⟨cL,d9,arr,t,fe,bt,aG,aJ,kP⟩:=f8;have rg:R m.r:=rel.up _ (rel.base b m (by rw[ai]; rfl) hm);refine⟨fun j=>(arr[m.s+j]?).getD undef,fun j c am=>?_⟩;obtain⟨v,h1,af,ap⟩:=kP _ _ am;refine⟨⟨?_,by simp only[h1,Option.getD_some]; exact af,rg,fun ⟨b,m,h1,af,ap⟩=>by cases af⟩,by simp only[h1,Option.getD_some]; exact ap⟩;simp only[World.cell?,bt,h1,Option.getD_some,Option.isSome_none];rfl
 induction aC with
 | same c ak=>
  intro v ax;exact (eN.up (um ax ak) fun k _ aE=>⟨aE.1,fun ⟨b,m,h1,af,ap⟩=>by cases af⟩:aP w R aM.empty (fun _=>none) _ v)
 | aS cs cs' aq h aK=>
  intro v ax;cases ax with
  | aS _ vs fF h1 ax=>
   refine .aS cs' vs (by omega) h1 (fun j c' v am eI=>?_);have aN:j<cs.length:=by rw[<-aq]; exact (List.getElem?_eq_some_iff.1 am).1
   exact aK j cs[j] c' (List.getElem?_eq_getElem aN) am (ax j cs[j] v (List.getElem?_eq_getElem aN) eI)
 | bU cs cs' aq h aK=>
  intro v ax;cases ax with
  | bU _ vs fF ax=>
   refine .bU cs' vs (by omega) (fun j c' v am eI=>?_);have aN:j<cs.length:=by rw[<-aq]; exact (List.getElem?_eq_some_iff.1 am).1
   exact aK j cs[j] c' (List.getElem?_eq_getElem aN) am (ax j cs[j] v (List.getElem?_eq_getElem aN) eI)
 | pl z b off cap sz=>
  intro v ax;cases ax with
  | ao _ _ _ _ _ _ cap' cs m ai hm aq ay ak=>exact .eZ z _ cap'
  | fA _ _ _ _ _ _ cap' a aq ak az=>exact .eZ z _ cap'
  | gS _ _ _ _ a cs m ai hm=>exact .eZ z a 0
 | ptr b off sz cs cs' ai aq h aK=>
  intro v ax;cases ax with
  | k3 _ _ _ a az=>
   exfalso;rcases az with az | ⟨n,g0,az,aN⟩
   ·rw[ai] at az; cases az
   ·rw[ai] at az; cases az; omega
  | ptr _ _ _ g0 m e6 hm=>
   obtain⟨f,aJ⟩:=oI ai hm;refine .cn cs' off m.r m.s f (fun j am=>?_) (fun j c' am=>?_)
   ·exact (aJ j cs[j] (List.getElem?_eq_getElem (by omega))).1
   ·have aN:j<cs.length:=by rw[<-aq]; exact (List.getElem?_eq_some_iff.1 am).1
    exact aK j cs[j] c' (List.getElem?_eq_getElem aN) am (aJ j cs[j] (List.getElem?_eq_getElem aN)).2
 | ao z b off len cap sz cs es ai aq aB d2 h aK=>
  intro v ax;cases ax with
  | gS _ _ _ _ a g0 m e6 jO=>
   obtain rfl:=List.length_eq_zero_iff.1 aq;exact .eZ z a 0
  | fA _ _ _ _ _ _ cap' a aq ak az=>
   exfalso;rcases az with az | ⟨n,g0,az,aN⟩
   ·rw[ai] at az; cases az
   ·rw[ai] at az; cases az; omega
  | ao _ _ _ _ _ _ cap' g0 m e6 hm hK ay ak=>
   have cY:len<=cap':=by rcases ak with ⟨_,h⟩ | ⟨_,h,_⟩<;>omega
   obtain⟨f,aJ⟩:=oI ai hm;subst aq;have aN:∀ i j,i<es.length->j<z->off+(i*z+j)<cs.length:=by
    intro i j aA am;have:i*z+z<=es.length*z:=by rw[<-Nat.succ_mul]; exact Nat.mul_le_mul_right _ aA
    omega
   refine .b6 z es m.r (m.s+off) cap' (fun i j=>f (off+(i*z+j))) cY aB (fun i j aA am=>?_) (fun i e aw j c' am=>?_)
   ·have:=(aJ _ _ (List.getElem?_eq_getElem (aN i j aA am))).1;rw[<-Nat.add_assoc] at this;exact this
   ·have aA:i<es.length:=(List.getElem?_eq_some_iff.1 aw).1;have kR:j<z:=by rw[<-aB e (List.mem_of_getElem? aw)]; exact (List.getElem?_eq_some_iff.1 am).1
    exact aK i j e _ c' aw am (List.getElem?_eq_getElem (aN i j aA kR)) (aJ _ _ (List.getElem?_eq_getElem (aN i j aA kR))).2
theorem Bq:∀ {cs:List ae},kf cs=true->∀ (j:Nat) (c:ae),cs[j]? = some c->c.flat=true:=by
 intro cs
 induction cs with
 | nil=>intro _ j c h; simp at h
 | cons x cs aK=>
  intro ak j c am;simp only[kf,Bool.and_eq_true] at ak;cases j with
  | zero=>simp at am; subst am; exact ak.1
  | succ j=>exact aK ak.2 j c (by simpa using am)
theorem RY {w w' : World} {A R:Nat->Prop} {h h' : aM} {μ μ' : cG} {c:ae} {v:Value} (ax:aP w A h μ c v) (aJ:c.flat=true) :aP w' R h' μ' c v:=by
 induction ax with
 | bool b=>exact .bool b
 | int k n=>exact .int k n
 | str bs=>exact .str bs
 | ib=>exact .ib
 | a6=>exact .a6
 | gJ=>exact .gJ
 | hQ=>exact .hQ
 | ia=>exact .ia
 | aS cs vs bz h1 ax aK=>exact .aS cs vs bz h1 (fun j c v am eI=>aK j c v am eI (Bq (by simpa only [ae.flat] using aJ) j c am))
 | bU cs vs bz ax aK=>exact .bU cs vs bz (fun j c v am eI=>aK j c v am eI (Bq (by simpa only [ae.flat] using aJ) j c am))
 | fH t c v ax aK=>exact .fH t c v (aK (by simpa only [ae.flat] using aJ))
 | kD l=>exact .kD l
 | _=>simp[ae.flat] at aJ
theorem aj2 {f:FuncId} {args hl:List ae} {r:ae} {h:aM} (aF:bT P G f hl r) (bz:hl.length=args.length) (kX:∀ (j:Nat) (c c' : ae),args[j]? = some c->hl[j]? = some c'->fa h c c')
  (fE:r.flat=true) :uf P G (.call f args h r h) :=by
 intro R B w μ vs rel g aq ax;refine (aF w R vs (fun i=>?_) (by omega) (fun j c' v am eI=>?_)).mono ?_
 ·exact (eN.up (um (g i).2 (g i).1) fun k _ aE=>⟨aE.1,fun ⟨b,m,h1,af,ap⟩=>by cases af⟩:aP w R aM.empty (fun _=>none) _ _)
 ·have aN:j<args.length:=by rw[<-bz]; exact (List.getElem?_eq_some_iff.1 am).1
  exact ZF rel (kX j args[j] c' (List.getElem?_eq_getElem aN) am) (ax j args[j] v (List.getElem?_eq_getElem aN) eI)
 ·rintro e w' ⟨v,rfl,ai,aC⟩;obtain⟨cd,ce⟩:=z1 rel ai;exact⟨v,μ,rfl,cd,ce,RY aC fE⟩
theorem aj3 {f:FuncId} {args hl:List ae} {r:ae} {h:aM} (aF:lf P G f hl r) (bz:hl.length=args.length) (kX:∀ (j:Nat) (c c' : ae),args[j]? = some c->hl[j]? = some c'->fa h c c') :uf P G (.call f args h r h) :=by
 intro R B w μ vs rel g aq ax;refine (aF w R vs (fun i=>?_) (by omega) (fun j c' v am eI=>?_)).mono ?_
 ·exact (eN.up (um (g i).2 (g i).1) fun k _ aE=>⟨aE.1,fun ⟨b,m,h1,af,ap⟩=>by cases af⟩:aP w R aM.empty (fun _=>none) _ _)
 ·have aN:j<args.length:=by rw[<-bz]; exact (List.getElem?_eq_some_iff.1 am).1
  exact ZF rel (kX j args[j] c' (List.getElem?_eq_getElem aN) am) (ax j args[j] v (List.getElem?_eq_getElem aN) eI)
 ·rintro e w' ⟨v,rfl,ai,aC⟩;obtain⟨cd,ce⟩:=z1 rel ai;exact⟨v,μ,rfl,cd,ce,aC.up fun k aE cA=>⟨rel.up k (Nat.le_trans rel.size cA),fun ay=>by have:=WM rel ay; omega⟩⟩
theorem lf.Aj {f:FuncId} {args:List ae} {r:ae} (aF:lf P G f args r) :bT P G f args r:=fun w A vs az aq ax=>
 (aF w A vs az aq ax).mono fun e w' ⟨v,h1,af,ap⟩=>⟨v,h1,af,(eN.up ap fun k _ aE=>⟨.inr aE,fun ⟨b,m,h1,af,ap⟩=>by cases af⟩:aP w' _ aM.empty (fun _=>none) _ _)⟩
theorem aj4 {f:FuncId} {args:List ae} {r:ae} {h:aM} (aF:bT P G f args r) (ak:bP args=true) :uf P G (.call f args h r h) :=by
 intro R B w μ vs rel g aq ax;refine (aF w (fun k=>R k/\¬ j6 h μ k) vs (fun i=>?_) aq (fun j c v am eI=>um (ax j c v am eI) (yf ak j c am))).mono ?_
 ·exact um (g i).2 (g i).1
 ·rintro e w' ⟨v,rfl,ai,aC⟩;obtain⟨cd,ce⟩:=z1 rel ai;refine⟨v,μ,rfl,cd,ce,aC.up (fun k aE cA=>?_)⟩;rcases cA with cA | cA
  ·exact cA
  ·exact⟨rel.up k (Nat.le_trans rel.size cA),fun ay=>by have:=WM rel ay; omega⟩
end
section
variable {P:Program} {G:Nat->ae}
theorem Wn {w:World} {R:Nat->Prop} {h:aM} {μ:cG} {aD:Operand->ae} {dD:Operand->Value} (cX:∀ x,aP w R h μ (aD x) (dD x)) (o:Oper) {cs:List ae} {mk:Nat->ae} (aI:lE P aD o.op=some (cs,mk)) :
  ∃ v arr t,(execOp dD o).run P w=.ok (.value v) (w.alloc (.cells arr t))/\jJ w R h μ cs arr ∧
   ∀ (w' : World) (qQ:Nat->Prop) (h' : aM) (μ' : cG) (b:Nat),h'.f b=.cells cs.length cs->μ' b=some ⟨w.heap.size,0,arr.size⟩->aP w' qQ h' μ' (mk b) v:=by
 obtain⟨dst,op,type,pos,after,guard⟩:=o;cases op<;>simp only[lE] at aI<;>try (cases aI; done)
 case alloc t=>
  cases aB:gK P t with
  | none=>rw[aB] at aI; cases aI
  | some z=>
   rw[aB] at aI;simp only[Option.map_some,Option.some.injEq,Prod.mk.injEq] at aI;obtain⟨rfl,rfl⟩:=aI;obtain⟨v,ax,aC⟩:=t7 (P:=P) (w:=w) (R:=R) (h:=h) (μ:=μ) aB;refine⟨.pointer (some ⟨w.heap.size,0,none⟩),v.cells,t,by simp[execOp,Instr.alloc,ax,newVar,newRow],aC,fun w' qQ h' μ' b ai hm=>?_⟩;have:=aP.ptr (w:=w') (R:=qQ) (h:=h') (μ:=μ') b 0 z.length z _ ai hm;simpa using this
 case box t x=>
  cases aB:(aD x).cells with
  | none=>rw[aB] at aI; cases aI
  | some z=>
   rw[aB] at aI;simp only[Option.map_some,Option.some.injEq,Prod.mk.injEq] at aI;obtain⟨rfl,rfl⟩:=aI;obtain⟨cd,ce⟩:=A6 (cX x) aB;refine⟨.pointer (some ⟨w.heap.size,0,none⟩),(dD x).cells,t,by simp[execOp,Instr.box,newVar,newRow],⟨cd,ce⟩,fun w' qQ h' μ' b ai hm=>?_⟩;have:=aP.ptr (w:=w') (R:=qQ) (h:=h') (μ:=μ') b 0 z.length z _ ai hm;simpa using this
 case buildSlice t len ev=>
  cases aw:hp P t with
  | none=>rw[aw] at aI; cases aI
  | some e=>
  rw[aw] at aI;simp only at aI;cases aB:cv P e with
  | none=>rw[aB] at aI; cases aI
  | some z=>
  cases hO:gK P e with
  | none=>rw[aB,hO] at aI; cases aI
  | some zero=>
  rw[aB,hO] at aI;simp only at aI;split at aI
  ·rename_i ii;cases aJ:gF (fun i=>some (i*z,z)) (dp zero len) (ev.toList.map fun p=>(p.1,aD p.2)) with
   | none=>rw[aJ] at aI; cases aI
   | some cs'=>
    rw[aJ] at aI;simp only[Option.map_some,Option.some.injEq,Prod.mk.injEq] at aI;obtain⟨rfl,rfl⟩:=aI;obtain⟨cd,ce⟩:=Ka cX ev;obtain⟨er,arr,g8,af⟩:=Oz aw aB hO ii.1 ii.2 aJ cd ce;refine⟨.slice (some ⟨w.heap.size,0,none⟩) len len,arr,e,by simp[execOp,g8],af,fun w' qQ h' μ' b ai hm=>?_⟩;rw[er] at ai;have:=aP.ao (w:=w') (R:=qQ) (h:=h') (μ:=μ') z b 0 len len (len*z) len _ _ ai hm (Nat.le_refl _) (by omega) (.inr ⟨by omega,Nat.le_refl _,by simp only; rw[af.1,er]; omega⟩);simpa using this
  ·cases aI
 case makeSlice t l c=>
  split at aI
  ·rename_i e li gC aw h5 eA;obtain⟨kl,nR⟩:=pC h5 (cX l);obtain⟨kc,iV⟩:=pC eA (cX c);cases aB:cv P e with
   | none=>rw[aB] at aI; cases aI
   | some z=>
   cases dE:iR P e with
   | none=>rw[aB,dE] at aI; cases aI
   | some by_=>
   cases hO:gK P e with
   | none=>rw[aB,dE,hO] at aI; cases aI
   | some zero=>
   rw[aB,dE,hO] at aI;simp only at aI;split at aI
   ·rename_i ii;obtain⟨gO,aQ,mV,B0,ds⟩:=ii;simp only[Option.some.injEq,Prod.mk.injEq] at aI;obtain⟨rfl,rfl⟩:=aI;obtain⟨bz,arr,g8,cB⟩:=Wc (w:=w) (R:=R) (h:=h) (μ:=μ) (kl:=kl) (kc:=kc) aw aB dE hO gO aQ mV B0 ds;refine⟨.slice (some ⟨w.heap.size,0,none⟩) li.toNat gC.toNat,arr,e,by simp[execOp,nR,iV,g8],cB,fun w' qQ h' μ' b ai hm=>?_⟩;rw[bz] at ai;have:=aP.ao (w:=w') (R:=qQ) (h:=h') (μ:=μ') z b 0 li.toNat gC.toNat (gC.toNat*z) gC.toNat _ _ ai hm (by omega) (by omega) (.inr ⟨by omega,Nat.le_refl _,by simp only; rw[cB.1,bz]; omega⟩);simpa using this
   ·cases aI
  ·cases aI
theorem mB.rel {R:Nat->Prop} {B:Nat} {w:World} {h h' : aM} {μ:cG} (g:mB h h') (rel:b5 R B w h μ) :dk w h μ w h' μ/\b5 R B w h' μ:=by
 have aN:∀ b m,μ b=some m->b<h.n:=fun b m hm=>rel.pD hm
 have e:dk w h μ w h' μ:=by
  refine⟨⟨rfl,rfl,rfl,Nat.le_refl _,fun _ _ _=>rfl,?_,?_,?_,?_,g.n,Nat.le_refl _⟩,fun _ _ hm=>hm⟩
  ·rintro k ⟨b,m,aq,hm,rfl⟩;rw[g.same b (aN b m hm)] at aq;exact .inl ⟨b,m,aq,hm,rfl⟩
  ·intro b sz cs m ai hm;exact .inl ⟨cs,by rw[g.same b (aN b m hm)]; exact ai,hm⟩
  ·rintro b sz az;have ai:b<h.n:=by
    rcases Nat.lt_or_ge b h.n with h1 | h1
    ·exact h1
    ·have:=rel.fresh b h1;rcases az with az | ⟨n,cs,az,_⟩<;>rw[this] at az<;>cases az
   rcases az with az | ⟨n,cs,az,jN⟩
   ·exact .inl (by rw[g.same b ai]; exact az)
   ·exact .inr ⟨n,cs,by rw[g.same b ai]; exact az,jN⟩
  ·intro b k m ai hm;exact⟨by rw[g.same b (aN b m hm)]; exact ai,hm⟩
 refine⟨e,fun b m hm=>?_,fun b bo m cp aq cZ hm bZ aC=>?_,fun b m aq hm=>?_,g.fresh rel.fresh,rel.up,rel.size,fun b ai=>rel.jC b (Nat.le_trans g.n ai)⟩
 ·rw[g.same b (aN b m hm)];exact (rel.blk b m hm).ext e.toExt0 rfl
 ·rw[g.same b (aN b m hm)] at aq;rw[g.same bo (aN bo cp bZ)] at cZ;exact rel.inj b bo m cp aq cZ hm bZ aC
 ·rw[g.same b (aN b m hm)] at aq;exact rel.base b m aq hm
theorem aaJ {K:Act->World->Prop} {Q:Exit->Act->World->Prop} {e:pu} {a:Act} {w:World} (aw:e≠.normal) (h:Q e.out a w) :Exit.then K Q e.out a w:=by
 cases e with
 | normal=>exact absurd rfl aw
 | exit id=>exact h
 | ret=>exact h
theorem acr {id:Nat} {Q:Exit->Act->World->Prop} {e:pu} {a:Act} {w:World} (aw:e≠.exit id) (h:Q e.out a w) :Exit.inBlock id Q e.out a w:=by
 cases e with
 | normal=>exact h
 | exit qd=>
  have:qd≠id:=fun aR=>aw (by rw[aR])
  simpa [Exit.inBlock,pu.out,this] using h
 | ret=>exact h
def NC (P:Program) (G:Nat->ae) :Prop:=
 ∀ {id:Nat} {ops:Array Oper} {N:Nat} {ah:Nat->ae} {h:aM} {bY:Nat->ae} {h' : aM} (pre:Nat->Nat->Bool) (val:Nat->ae) (W:Nat->Bool) (cls:Nat->Ay) (m:Nat) (ar:Nat->Nat) (e1 px:Nat->aM) (fC:Nat->Nat) (cells:Nat->List ae),
  qK ops pre->
  (∀ (i:Nat) (o:Oper),ops[i]? = some o->nE N o.dst=true)->
  mB h (e1 0)->h'=e1 m->(bY=fun t=>match ir ops t with | some i=>val i | none=>ah t)->
  (∀ (i:Nat) (o:Oper),ops[i]? = some o->W i=true->cls i=.fv->∃ q,q<m/\ar q=i)->
  (∀ q,q<m->∃ o,ops[ar q]? = some o/\W (ar q)=true/\cls (ar q)=.fv)->
  (∀ q eT,q<m->eT<m->q<eT->pre (ar eT) (ar q)=true)->
  (∀ q eT,q<m->eT<m->ar q=ar eT->q=eT)->
  (∀ (i:Nat) (o:Oper),ops[i]? = some o->je ops (ln ops pre val ah i o) o=some (W i))->
  (∀ (i:Nat) (o:Oper),ops[i]? = some o->W i=false->val i=gv)->
  (∀ (i:Nat) (o:Oper),ops[i]? = some o->W i=true->cls i=.pure->∀ k,wt pre m ar i k->cV P (e1 k) (cU G (ln ops pre val ah i o)) o.op=some (.val (val i) (e1 k)))->
  (∀ (i:Nat) (o:Oper),ops[i]? = some o->W i=true->cls i=.new->∃ mk,lE P (cU G (ln ops pre val ah i o)) o.op=some (cells i,mk)/\val i=mk (fC i)/\h.n<=fC i ∧
    ∀ k,wt pre m ar i k->(e1 k).f (fC i)=.cells (cells i).length (cells i))->
  (∀ (i j:Nat) (o ci:Oper),ops[i]? = some o->ops[j]? = some ci->W i=true->W j=true->cls i=.new->cls j=.new->fC i=fC j->i=j)->
  (∀ (i:Nat) (o:Oper) (q:Nat),ops[i]? = some o->W i=true->cls i=.new->q<m->fC i<(e1 q).n\/(px q).n<=fC i)->
  (∀ q,q<m->mB (px q) (e1 (q+1)))->
  (∀ (q:Nat) (o:Oper),q<m->ops[ar q]? = some o->uf P G (.op o.op (ln ops pre val ah (ar q) o) (e1 q) (val (ar q)) (px q)))->
  uf P G (.code (.region id ops true) N ah h .normal bY h')
theorem ov.ext {h af:aM} (k:ov h af) (w:World) (μ:cG) :dk w h μ w af μ:=by
 refine⟨⟨rfl,rfl,rfl,Nat.le_refl _,fun _ _ _=>rfl,?_,?_,?_,?_,Nat.le_of_eq k.n.symm,Nat.le_refl _⟩,fun _ _ hm=>hm⟩
 ·rintro r ⟨b,m,aq,hm,rfl⟩;refine .inl ⟨b,m,?_,hm,rfl⟩;rcases k.blk b with aw | ⟨sz,cs,ak,_⟩
  ·rw[<-aw]; exact aq
  ·rw[ak]; rfl
 ·intro b sz cs m ai hm;rcases k.blk b with aw | ⟨sz',cs',ak,bJ | ⟨g0,yC,_⟩⟩
  ·exact .inl ⟨cs,by rw[aw]; exact ai,hm⟩
  ·exact .inr (.inl bJ)
  ·rw[ai] at ak; cases ak; exact .inl ⟨g0,yC,hm⟩
 ·rintro b sz (ai | ⟨n,cs,ai,aN⟩)
  ·rcases k.blk b with aw | ⟨sz',cs',ak,_⟩
   ·exact .inl (aw.trans ai)
   ·rw[ai] at ak; cases ak
  ·rcases k.blk b with aw | ⟨sz',cs',ak,bJ | ⟨g0,yC,_⟩⟩
   ·exact .inr ⟨n,cs,by rw[aw]; exact ai,aN⟩
   ·exact .inl bJ
   ·rw[ai] at ak; cases ak; exact .inr ⟨n,g0,yC,aN⟩
 ·intro b iF m ai hm;rcases k.blk b with aw | ⟨sz',cs',ak,_⟩
  ·exact⟨by rw[aw]; exact ai,hm⟩
  ·rw[ak] at ai; cases ai
theorem ov.live {h af:aM} (k:ov h af) {b:Nat} (aq:live (af.f b)=true) :live (h.f b)=true:=by
 rcases k.blk b with aw | ⟨sz,cs,ak,_⟩
 ·rw[<-aw]; exact aq
 ·rw[ak]; rfl
theorem ov.ol {R:Nat->Prop} {B:Nat} {w:World} {h af:aM} {μ:cG} (rel:b5 R B w h μ) (k:ov h af) :∀ {c de:ae},ou h af c de->∀ {v:Value},aP w R h μ c v->aP w R af μ de v:=by
 intro c de aC
 induction aC with
 | same c=>intro v ax; exact ax.ext (k.ext w μ)
 | aS cs cs' aq h aK=>
  intro v ax;cases ax with
  | aS _ vs fF h1 ax=>
   refine .aS cs' vs (by omega) h1 (fun j c' v am eI=>?_);have aN:j<cs.length:=by rw[<-aq]; exact (List.getElem?_eq_some_iff.1 am).1
   exact aK j cs[j] c' (List.getElem?_eq_getElem aN) am (ax j cs[j] v (List.getElem?_eq_getElem aN) eI)
 | pl z b off cap sz=>
  intro v ax;cases ax with
  | ao _ _ _ _ _ _ cap' cs m ai hm aq ay ak=>exact .eZ z _ cap'
  | fA _ _ _ _ _ _ cap' a aq ak az=>exact .eZ z _ cap'
  | gS _ _ _ _ a cs m ai hm=>exact .eZ z a 0
 | ao z b off len cap sz cs es ai bJ aq aB d2 ax aK=>
  intro v ax;cases ax with
  | gS _ _ _ _ a g0 m e6 jO=>
   obtain rfl:=List.length_eq_zero_iff.1 aq;exact .eZ z a 0
  | fA _ _ _ _ _ _ cap' a aq ak az=>
   exfalso;rcases az with az | ⟨n,g0,az,aN⟩
   ·rw[ai] at az; cases az
   ·rw[ai] at az; cases az; omega
  | ao _ _ _ _ _ _ cap' g0 m e6 hm hK ay ak=>
   rw[ai] at e6; cases e6;have f8:=rel.blk b m hm;rw[ai] at f8;obtain⟨cL,d9,arr,t,fe,bt,aG,aJ,kP⟩:=f8;have cY:len<=cap':=by rcases ak with ⟨_,h⟩ | ⟨_,h,_⟩<;>omega
   have nO:Go.cl.live (h.f b)=true:=by rw[ai]; rfl
   have rg:R m.r:=rel.up _ (rel.base b m nO hm);have eG:¬ j6 af μ m.r:=by
    rintro⟨bo,cp,cZ,bZ,jv⟩;have:=rel.inj bo b cp m (k.live cZ) nO bZ hm jv;subst this;rw[bJ] at cZ; cases cZ
   subst aq;have oI:∀ i j,i<es.length->j<z->∃ c v,cs[off+(i*z+j)]? = some c/\arr[m.s+(off+(i*z+j))]? = some v/\v.oneCell'=true/\aP w R h μ c v:=by
    intro i j aA am;have aN:off+(i*z+j)<cs.length:=by
     have:i*z+z<=es.length*z:=by rw[<-Nat.succ_mul]; exact Nat.mul_le_mul_right _ aA
     omega
    obtain⟨v,h1,af,ap⟩:=kP _ _ (List.getElem?_eq_getElem aN);exact⟨_,v,List.getElem?_eq_getElem aN,h1,af,ap⟩
   refine .b6 z es m.r (m.s+off) cap' (fun i j=>(arr[m.s+(off+(i*z+j))]?).getD undef) cY aB (fun i j aA am=>?_) (fun i e aw j c' am=>?_)
   ·obtain⟨c,v,h1,af,ap,aH⟩:=oI i j aA am;refine⟨?_,?_,rg,eG⟩
    ·simp only[World.cell?,bt,af,Option.getD_some,Option.isSome_none];rw[show m.s+off+(i*z+j)=m.s+(off+(i*z+j)) by omega,af]; rfl
    ·rw[af]; exact ap
   ·have aA:i<es.length:=(List.getElem?_eq_some_iff.1 aw).1;have kR:j<z:=by rw[<-aB e (List.mem_of_getElem? aw)]; exact (List.getElem?_eq_some_iff.1 am).1
    obtain⟨c,v,h1,af,ap,aH⟩:=oI i j aA kR;simp only[af,Option.getD_some];exact aK i j e c c' aw am h1 aH
theorem ov.rel {R:Nat->Prop} {B:Nat} {w:World} {h af:aM} {μ:cG} (rel:b5 R B w h μ) (k:ov h af) :b5 R B w af μ:=by
 refine⟨?_,?_,?_,?_,rel.up,rel.size,?_⟩
 ·intro b m hm;have ai:=rel.blk b m hm;rcases k.blk b with aw | ⟨sz,cs,ak,bJ | ⟨g0,yC,bz,ax⟩⟩
  ·rw[aw]; exact ai.ext (k.ext w μ).toExt0 rfl
  ·rw[bJ]; trivial
  ·rw[yC];rw[ak] at ai;obtain⟨h1,f3,arr,t,fe,ap,aH,bc,bM⟩:=ai;refine⟨by omega,f3,arr,t,fe,ap,aH,bc,fun j de am=>?_⟩;have aN:j<cs.length:=by rw[<-bz]; exact (List.getElem?_eq_some_iff.1 am).1
   obtain⟨v,bn,bA,a3⟩:=bM j cs[j] (List.getElem?_eq_getElem aN);exact⟨v,bn,bA,k.ol rel (ax j cs[j] de (List.getElem?_eq_getElem aN) am) a3⟩
 ·intro b bo m cp aq cZ hm bZ aC;exact rel.inj b bo m cp (k.live aq) (k.live cZ) hm bZ aC
 ·intro b m aq hm;exact rel.base b m (k.live aq) hm
 ·intro b ai;rw[k.n] at ai;rcases k.blk b with aw | ⟨sz,cs,ak,_⟩
  ·rw[aw]; exact rel.fresh b ai
  ·rw[rel.fresh b ai] at ak; cases ak
 ·intro b ai;rw[k.n] at ai;exact rel.jC b ai
theorem alZ (bJ:NC P G) {j:J} (am:dd P G j) :uf P G j:=by
 induction am with
 | skip N ah h=>exact⟨0,fun R B w μ a Q rel g s k=>wp_skip (k a w μ (.refl _ _ _) rel s)⟩
 | label l N ah h=>exact⟨0,fun R B w μ a Q rel g s k=>wp_label (k a w μ (.refl _ _ _) rel s)⟩
 | ret N ah h=>exact⟨0,fun R B w μ a Q rel g s k=>wp_ret (k a w μ (.refl _ _ _) rel s)⟩
 | exit id N ah h=>exact⟨0,fun R B w μ a Q rel g s k=>wp_exit (k a w μ (.refl _ _ _) rel s)⟩
 | aad h1 af dQ ku=>
  obtain⟨lD,dQ⟩:=dQ;obtain⟨ql,ku⟩:=ku;exact⟨0,fun R B w μ a Q rel g s k=>wp_seq (nn.wp (dQ R B w μ a _ rel g s fun bn b4 gf a1 d3 dC=>
   nn.wp (ku R B b4 gf bn Q d3 (g.ext a1) dC fun bA w2 pt b7 e8 mq=>k bA w2 pt (a1.trans b7) e8 mq)))⟩
 | MW h1 aw dQ=>
  obtain⟨lD,dQ⟩:=dQ;exact⟨0,fun R B w μ a Q rel g s k=>wp_seq (nn.wp (dQ R B w μ a _ rel g s fun bn b4 gf a1 d3 dC=>aaJ aw (k bn b4 gf a1 d3 dC)))⟩
 | cond ak h1 dQ=>
  rename_i c x y N ah h b e bY h';obtain⟨lD,dQ⟩:=dQ;refine⟨0,fun R B w μ a Q rel g s k=>?_⟩;have ax:=s.cU g c;rw[ak] at ax;cases B9:a.eval c<;>rw[B9] at ax<;>try (cases ax; done)
  cases ax;exact wp_cond B9 (nn.wp (dQ R B w μ a Q rel g s k))
 | AR h1 aw dQ=>
  obtain⟨lD,dQ⟩:=dQ;exact⟨0,fun R B w μ a Q rel g s k=>wp_block (nn.wp (dQ R B w μ a _ rel g s fun bn b4 gf a1 d3 dC=>acr aw (k bn b4 gf a1 d3 dC)))⟩
 | Ou h1 dQ=>
  obtain⟨lD,dQ⟩:=dQ;exact⟨0,fun R B w μ a Q rel g s k=>wp_block (nn.wp (dQ R B w μ a _ rel g s fun bn b4 gf a1 d3 dC=>by
   simp only[pu.out,Exit.inBlock,if_true];exact k bn b4 gf a1 d3 dC))⟩
 | xl h1 af dQ ku=>
  obtain⟨lD,dQ⟩:=dQ;obtain⟨ql,ku⟩:=ku;exact⟨ql+1,fun R B w μ a Q rel g s k=>nn.wp (dQ R B w μ a _ rel g s fun bn b4 gf a1 d3 dC=>
   ku R B b4 gf bn Q d3 (g.ext a1) dC fun bA w2 pt b7 e8 mq=>k bA w2 pt (a1.trans b7) e8 mq)⟩
 | JH h1 aw dQ=>
  obtain⟨lD,dQ⟩:=dQ;exact⟨1,fun R B w μ a Q rel g s k=>nn.wp (dQ R B w μ a _ rel g s fun bn b4 gf a1 d3 dC=>aaJ aw (k bn b4 gf a1 d3 dC))⟩
 | scope h1 dQ=>
  obtain⟨lD,dQ⟩:=dQ;rename_i c N ah h e bY h';refine⟨0,fun R B w μ a Q rel g s k=>wp_scope_straight (nn.wp (dQ R B w μ a _ rel g s fun bn b4 gf a1 d3 dC=>?_))⟩;have:=k bn b4 gf a1 d3 dC;cases e<;>exact this
 | region h1 dQ=>exact⟨0,fun R B w μ a Q rel g s k=>wp_region_list (dQ R B w μ a Q rel g s k)⟩
 | draw pre val W cls m ar e1 px fC cells gu nM aQ hm CJ uQ yP lz gk tb CA Cs nT BT BU nN kO aK=>
  exact bJ pre val W cls m ar e1 px fC cells gu nM aQ hm CJ uQ yP lz gk tb CA Cs nT BT BU nN aK
 | WE=>exact fun R B w μ a Q rel g s k=>k a w μ (.refl _ _ _) rel s
 | WG bt wK h1 dQ=>
  intro R B w μ a Q rel g s k;have tb:=Nv (w:=w) (R:=R) (h:=_) (μ:=μ) (tmps:=a.tmps) bt (fun d _=>s.val d);unfold wpList;rw[if_neg (by rw[tb]; simp)];exact dQ R B w μ _ Q rel g (s.put wK Np) k
 | WF bt wK h1 af dQ ku=>
  intro R B w μ a Q rel g s k;have tb:=Nv (w:=w) (R:=R) (h:=_) (μ:=μ) (tmps:=a.tmps) bt (fun d _=>s.val d);unfold wpList;rw[if_pos tb];refine .inl (dQ R B w μ a _ _ Q rfl rel g (s.cU g) fun bf b4 gf a1 d3 ax=>?_);exact ku R B b4 gf _ Q d3 (g.ext a1) ((s.ext a1).put wK ax) fun bA w2 pt b7 e8 mq=>k bA w2 pt (a1.trans b7) e8 mq
 | Da ar=>
  intro R B w μ a o K Q ay rel g cX k;subst ay;have:=M6 (P:=P) rel cX o ar;obtain⟨v,w',μ',aC,e,r,ax⟩:=this;unfold Oper.wp;rcases aC with aC | ⟨aC,rfl⟩
  ·rw[aC]; exact k v w' μ' e r ax
  ·rw[aC]; exact k undef w' μ' e r ax
 | xw ar h1 dQ=>
  intro R B w μ a o K Q ay rel g cX k;subst ay;obtain⟨rfl,vs,aC,aq,ax⟩:=M6 (P:=P) rel cX o ar;unfold Oper.wp;rw[aC];refine (dQ R B w μ vs rel g aq ax).mono ?_;rintro e w' ⟨v,μ',rfl,a1,d3,kY⟩;exact k v w' μ' a1 d3 kY
 | DV h1 jf ax dQ=>
  intro R B w μ a o K Q ay rel g cX k;refine dQ R B w μ a o K Q ay rel g cX fun bf w' μ' e r rD=>?_
  exact k bf w' μ' (e.trans (jf.ext w' μ')) (jf.rel r) (jf.ol r ax rD)
 | inline aJ ai h1 aw aC dQ=>
  rename_i f fn c args h e bY h' r;obtain⟨lD,dQ⟩:=dQ;intro R B w μ vs rel g aq ax;refine calls_of_wp aJ ai (nn.wp (dQ R B w μ _ _ rel g ⟨by simp[aq],rfl,fun t=>?_⟩ fun bn b4 gf a1 d3 dC=>?_))
  ·by_cases aU:t<args.length
   ·have aG:args.getD t gv=args[t] :=by simp[List.getD,aU]
    have kZ:(vs++Array.replicate (fn.ntmps - vs.size) undef).getD t undef=vs[t] :=by
     rw[Array.getD_eq_getD_getElem?,Array.getElem?_append_left (by omega)];simp[show t<vs.size by omega]
    rw[aG,kZ];exact ax t _ _ (by simp[aU]) (by simp)
   ·have aG:args.getD t gv=gv:=by simp[List.getD,List.getElem?_eq_none (by omega:args.length<=t)]
    have kZ:(vs++Array.replicate (fn.ntmps - vs.size) undef).getD t undef=undef:=by
     rw[Array.getD_eq_getD_getElem?,Array.getElem?_append_right (by omega),Array.getElem?_replicate];split<;>rfl
    rw[aG,kZ];exact Np
  ·obtain⟨v,cd,ce⟩:=ak9 d3 dC aC;have Cv:dC.defers=dC.defers:=rfl;rcases aw with rfl | rfl
   ·exact⟨dC.defers,v,cd,v,gf,rfl,a1,d3,ce⟩
   ·exact⟨dC.defers,v,cd,v,gf,rfl,a1,d3,ce⟩
 | pure aF ak=>exact aj4 aF ak
 | Kh aF aq aC aJ=>exact aj2 aF aq aC aJ
 | ext ar=>exact ar
 | Ki aF aq aC=>exact aj3 aF aq aC
end
end Go.cl

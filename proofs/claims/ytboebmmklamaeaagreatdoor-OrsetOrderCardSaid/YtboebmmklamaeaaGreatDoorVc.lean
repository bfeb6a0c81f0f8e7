/-
  The canonical machine, part Im: maps, strings rune by rune, bytes compared.
-/
import Derived.Test.YtboebmmklamaeaaGreatDoorVb
import Derived.Stop.SameAnswer
import Derived.Orders
import Derived.Still
import Derived.Scope
import Derived.LoopN
set_option linter.unusedVariables false
set_option linter.unusedSimpArgs false
set_option linter.unnecessarySimpa false
namespace Go.cn
open Go
section
variable {P:Program} {w:World} {R:Nat->Prop} {B:Nat} {h:aQ} {μ:cJ}
def s3:ae->Value
 | .bool b=>.bool b
 | .int k n=>.int k n
 | .str s=>.string ⟨s.toArray⟩
 | _=>.tuple #[]
def ww:ae->Value
 | .aV cs=>.agg (cs.map s3).toArray
 | c=>s3 c
theorem amU {c:ae} {v:Value} (aE:rh c=true) (ax:aR w R h μ c v) :v=s3 c:=by
 cases c<;>simp[rh] at aE
 ·cases ax; rfl
 ·cases ax; rfl
 ·cases ax;rename_i bs;show Value.string bs=.string ⟨bs.data.toList.toArray⟩;congr 1
theorem DK {t:TypeId} {c:ae} (aI:j5 P t c=true) :∃ cs m,c=.aV cs/\pH P 8 t=true/\dM P t=some true/\cz P t=some m/\cs.length=m/\∀ x∈cs,rh x=true:=by
 unfold j5 at aI;split at aI
 ·rename_i cs;simp only[Bool.and_eq_true] at aI;obtain⟨⟨h1,ag⟩,ap⟩:=aI;split at ag
  ·rename_i m aG ar;exact⟨cs,m,rfl,h1,aG,ar,Nat.eq_of_beq_eq_true ag,fun x aj=>List.all_eq_true.1 ap x aj⟩
  ·cases ag
 ·cases aI
theorem KS {t:TypeId} {c:ae} {v:Value} (aI:j5 P t c=true) (ax:aR w R h μ c v) :v=ww c:=by
 obtain⟨cs,m,rfl,_,_,_,_,hint⟩:=DK aI;cases ax with
 | aV _ vs au h1 ax=>
  show Value.agg vs=.agg (cs.map s3).toArray;congr 1;apply Array.ext_getElem?;intro j;have aj:(cs.map s3).toArray[j]? = (cs[j]?).map s3:=by simp
  rw[aj];cases am:cs[j]? with
  | none=>simp only[Option.map_none]; rw[Array.getElem?_eq_none]; rw[au]; exact List.getElem?_eq_none_iff.1 am
  | some c=>
   have aP:=(List.getElem?_eq_some_iff.1 am).1;have lw:=ax j c vs[j] am (Array.getElem?_eq_getElem (by omega));rw[Array.getElem?_eq_getElem (by omega)];simp only[Option.map_some,Option.some.injEq];exact amU (hint c (List.mem_of_getElem? am)) lw
theorem ae1 (a:ByteArray) :(a == a)=true:=by
 show (a.data == a.data)=true;exact beq_self_eq_true _
theorem aoH {c:ae} (n:Nat) (al:rh c=true) :Instr.sameBits n (s3 c) (s3 c)=true:=by
 cases c<;>simp[rh] at al<;>unfold s3 Instr.sameBits
 ·simp
 ·simp
 ·exact ae1 _
theorem aoG {t:TypeId} {c:ae} (n:Nat) (aI:j5 P t c=true) :Instr.sameBits (n+1) (ww c) (ww c)=true:=by
 obtain⟨cs,m,rfl,_,_,_,_,hint⟩:=DK aI;unfold ww Instr.sameBits;simp only[beq_self_eq_true,Bool.true_and,List.all_eq_true];rintro⟨x,y⟩ nB;rw[List.mem_iff_getElem?] at nB;obtain⟨j,am⟩:=nB;rw[List.getElem?_zip_eq_some] at am;obtain⟨h1,ag⟩:=am;rw[h1] at ag; cases ag;simp only[List.getElem?_map,Option.map_eq_some_iff] at h1;obtain⟨c,al,rfl⟩:=h1;exact aoH n (hint c (List.mem_of_getElem? al))
theorem aoz {t:TypeId} {c:ae} (aI:j5 P t c=true) :(Instr.keyThatStays (ww c) (ww c)).run P w=.ok (ww c) w:=by
 unfold Instr.keyThatStays;rw[if_pos (aoG 9999 aI)];simp
theorem Ix {α:Type} {f:α->PUnit->Sem (ForInStep PUnit)}:∀ (l:List α),(∀ x∈l,(f x ⟨⟩).run P w=.ok (.yield ⟨⟩) w)->(forIn l ⟨⟩ f).run P w=.ok ⟨⟩ w
 | [],_=>by simp
 | x::l,aI=>by
  rw[List.forIn_cons];simp only[Sem.run_bind,aI x (by simp),Result.andThen_ok];exact Ix l (fun y aK=>aI y (by simp[aK]))
theorem Om (em:Bool) :∀ (d n:Nat) (t:TypeId) (c:ae) (v:Value),d<=n->pH P d t=true->aR w R h μ c v->(dM P t=some true->∃ cs m,c=.aV cs/\cz P t=some m/\cs.length=m)->
  (Instr.checkKey em n t v).run P w=.ok () w
 | 0,_,_,_,_,_,hk,_,_=>by simp[pH] at hk
 | d+1,0,_,_,_,aH,_,_,_=>by omega
 | d+1,n+1,t,c,v,aH,hk,ax,aG=>by
  unfold pH at hk;split at hk
  ·rename_i aM; cases v<;>simp[Instr.checkKey,cy aM]
  ·rename_i aM; cases v<;>simp[Instr.checkKey,cy aM]
  ·rename_i aM; cases v<;>simp[Instr.checkKey,cy aM]
  ·rename_i len e m aM hm;have I5:dM P t=some true:=by unfold dM; rw[aM]; rfl
   obtain⟨cs,cu,rfl,b8,au⟩:=aG I5;rw[hm] at b8; cases b8;simp only[Bool.and_eq_true] at hk;obtain⟨ps,hT⟩:=hk;split at hT
   ·rename_i z a aB I7;simp only[Bool.and_eq_true] at hT;have du:=Nat.le_of_ble_eq_true hT.1;have sy:=Nat.le_of_ble_eq_true hT.2;obtain⟨vs,rfl,aC⟩:=td ax;unfold Instr.checkKey;simp only[Sem.run_bind,cy aM,Result.andThen_ok];rw[Std.Legacy.Range.forIn_eq_forIn_range'];rw[Ix]
    ·simp
    intro i aA;have dI:i<len:=by simp[Std.Legacy.Range.size] at aA; omega
    have ai1:i*z+z<=cs.length:=by
     have:i*z+z<=len*z:=by rw[<-Nat.succ_mul]; exact Nat.mul_le_mul_right _ dI
     omega
    have aE:∃ c,hh P e cs (i*z)=some c/\(dM P e=some true->∃ cs' cu,c=.aV cs'/\cz P e=some cu/\cs'.length=cu) :=by
     unfold hh;rw[I7,aB];cases a with
     | true=>exact⟨_,by simp only; rw[if_pos ai1],fun _=>⟨_,z,rfl,rfl,by simp; omega⟩⟩
     | false=>exact⟨cs[i*z]'(by omega),by simp only; exact List.getElem?_eq_getElem (by omega),fun h=>by cases h⟩
    obtain⟨c,al,Jb⟩:=aE;obtain⟨u,ap,aJ⟩:=uu (P:=P) al aC;simp only[Sem.run_bind,fr aB,Result.andThen_ok,ap w];rw[Om em d n e c u (by omega) ps aJ Jb];simp
   ·cases hT
  ·rename_i fs m aM hm;have I5:dM P t=some true:=by unfold dM; rw[aM]; rfl
   obtain⟨cs,cu,rfl,b8,au⟩:=aG I5;rw[hm] at b8; cases b8;obtain⟨vs,rfl,aC⟩:=td ax;unfold Instr.checkKey;simp only[Sem.run_bind,cy aM,Result.andThen_ok];rw[<-Array.forIn_toList,Ix]
   ·simp
   intro f aI;have Df:=List.all_eq_true.1 hk f aI;simp only[Bool.and_eq_true] at Df;obtain⟨ps,hT⟩:=Df;split at hT
   ·rename_i z a aB I7;simp only[Bool.and_eq_true] at hT;have du:=Nat.le_of_ble_eq_true hT.1;have sy:=Nat.le_of_ble_eq_true hT.2;have aE:∃ c,hh P f.type cs f.offset=some c/\(dM P f.type=some true->∃ cs' cu,c=.aV cs'/\cz P f.type=some cu/\cs'.length=cu) :=by
     unfold hh;rw[I7,aB];cases a with
     | true=>exact⟨_,by simp only; rw[if_pos (by omega)],fun _=>⟨_,z,rfl,rfl,by simp; omega⟩⟩
     | false=>exact⟨cs[f.offset]'(by omega),by simp only; exact List.getElem?_eq_getElem (by omega),fun h=>by cases h⟩
    obtain⟨c,al,Jb⟩:=aE;obtain⟨u,ap,aJ⟩:=uu (P:=P) al aC;have:=Om em d n f.type c u (by omega) ps aJ Jb;by_cases VE:f.name= "_"
    ·simp[VE]
    ·simp[VE,ap w,this]
   ·cases hT
  ·cases hk
theorem acf {t:TypeId} {c:ae} {v:Value} (em:Bool) (aI:j5 P t c=true) (ax:aR w R h μ c v) :(Instr.checkKey em 10000 t v).run P w=.ok () w:=by
 obtain⟨cs,m,rfl,h1,ag,ap,aJ,_⟩:=DK aI;exact Om em 8 10000 t _ v (by omega) h1 ax (fun _=>⟨cs,m,rfl,ap,aJ⟩)
def rB (w:World) (R:Nat->Prop) (h:aQ) (μ:cJ) (es:List (ae × ae × Nat)) (dn:List MapEntry) :Prop:=
 dn.length=es.length/\∀ (j:Nat) (k v:ae) (b:Nat),es[j]? = some (k,v,b)->∃ x:MapEntry,dn[j]? = some x/\aR w R h μ k x.key/\aR w R h μ v x.val/\x.born=b
def Pj (w:World) (R:Nat->Prop) (h:aQ) (μ:cJ) (k:ae) (dn:List MapEntry) (i:Nat) :Option (Nat × ae)->Option (Nat × Value)->Prop
 | none,r=>r=none
 | some (j,v),r=>∃ nU,r=some (j,nU)/\aR w R h μ v nU/\i<=j/\∃ x,dn[j - i]? = some x/\x.val=nU/\aR w R h μ k x.key
theorem agw {es:List (ae × ae × Nat)} {e:ae × ae × Nat} {x:MapEntry} {dn:List MapEntry} (aC:rB w R h μ (e::es) (x::dn)) :rB w R h μ es dn:=
 ⟨by have:=aC.1; simp at this; exact this,fun j k v b am=>aC.2 (j+1) k v b (by simpa using am)⟩
theorem agv {es:List (ae × ae × Nat)} {k v:ae} {b:Nat} {x:MapEntry} {dn:List MapEntry} (aC:rB w R h μ ((k,v,b) ::es) (x::dn)) :aR w R h μ k x.key/\aR w R h μ v x.val/\x.born=b:=by
 obtain⟨y,h1,ag⟩:=aC.2 0 k v b rfl;simp at h1; subst h1; exact ag
theorem TF {cP:TypeId} {k:ae} {hg:Value} (hk:aR w R h μ k hg) :∀ (es:List (ae × ae × Nat)) (dn:List MapEntry) (i:Nat) (r:Option (Nat × ae)),rB w R h μ es dn->iQ P cP k es i=some r->
  ∃ cx,(Instr.findAsking cP hg dn i).run P w=.ok cx w/\Pj w R h μ k dn i r cx
 | [],dn,i,r,aC,aI=>by
  have:dn=[] :=List.length_eq_zero_iff.1 aC.1;subst this;simp only[iQ,Option.some.injEq] at aI; subst aI;exact⟨none,by simp[Instr.findAsking],rfl⟩
 | (k',v,b) ::es,[],i,r,aC,aI=>by have:=aC.1; simp at this
 | (k',v,b) ::es,x::dn,i,r,aC,aI=>by
  obtain⟨h1,ag,ap⟩:=agv aC;simp only[iQ] at aI;split at aI
  ·cases aI
  rename_i dP;split at aI
  ·rename_i heq;split at aI
   ·rename_i ah8;simp only[Option.some.injEq] at aI; subst aI;have hv:=Ip (P:=P) 10000 cP k k' true hg x.key heq hk h1;refine⟨some (i,x.val),?_,x.val,rfl,ag,Nat.le_refl _,x,by simp,rfl,?_⟩
    ·simp only[Instr.findAsking,Op.equal,Op.maxDepth,Sem.run_bind];rw[hv]; simp
    ·rw[ae.beq_eq ah8]; exact h1
   ·cases aI
  ·rename_i heq;have hv:=Ip (P:=P) 10000 cP k k' false hg x.key heq hk h1;obtain⟨cx,aJ,bd⟩:=TF hk es dn (i+1) r (agw aC) aI;refine⟨cx,?_,?_⟩
   ·simp only[Instr.findAsking,Op.equal,Op.maxDepth,Sem.run_bind];rw[hv]; simpa using aJ
   ·cases r with
    | none=>exact bd
    | some ui=>
     obtain⟨nU,bL,eN,hd,y,fL,lV,vk⟩:=bd;exact⟨nU,bL,eN,by omega,y,by rw[show ui.1 - i=(ui.1 - (i+1))+1 by omega]; simpa using fL,lV,vk⟩
  ·cases aI
theorem ach {cP:TypeId} {k:ae} {hg:Value} (hk:aR w R h μ k hg) (aI:j5 P cP k=true) {es:List (ae × ae × Nat)} {dn:List MapEntry} {r:Option (Nat × ae)} (aC:rB w R h μ es dn) (Jj:iQ P cP k es 0=some r) :
  ∃ cx,(Instr.findKey cP hg dn).run P w=.ok cx w/\Pj w R h μ k dn 0 r cx:=by
 obtain⟨cx,h1,ag⟩:=TF hk es dn 0 r aC Jj;refine⟨cx,?_,ag⟩;obtain⟨cs,m,rfl,ap,aJ,_⟩:=DK aI;unfold dM at aJ;cases aM:P.underlying cP with
 | none=>rw[aM] at aJ; cases aJ
 | some d=>
  rw[aM] at aJ;unfold Instr.findKey;simp only[Sem.run_bind,cy aM,Result.andThen_ok];cases dn with
  | nil=>simpa [Instr.findNow,Instr.findAsking] using h1
  | cons x dn=>
   have aH:Instr.findNow d hg (x::dn) 0=none:=by
    cases d<;>simp at aJ<;>simp[Instr.findNow,Instr.sameNow]
   rw[aH];exact h1
theorem al2 (rel:cc R B w h μ) {m:ae} {aq:Value} {es:List (ae × ae × Nat)} (hm:mapOf h m=some es) (ax:aR w R h μ m aq) :
  (aq=.map none/\es=[])\/∃ b cj ei dn,m=.mp b/\h.f b=.map es ei/\μ b=some cj/\aq=.map (some cj.r)/\w.heap[cj.r]? = some (.map dn ei)/\rB w R h μ es dn.toList:=by
 cases m<;>simp[mapOf] at hm
 ·subst hm; cases ax; exact .inl ⟨rfl,rfl⟩
 ·rename_i b;cases ax with
  | mp _ cj ai hS=>
   cases al:h.f b<;>rw[al] at hm<;>simp at hm;rename_i asH ei;subst hm;have hblk:=rel.blk b cj hS;rw[al] at hblk;obtain⟨dn,h1,ag,ap⟩:=hblk;refine .inr ⟨b,cj,ei,dn,rfl,al,hS,rfl,h1,by simpa using ag,fun j k v bx am=>?_⟩;obtain⟨x,aJ,bd⟩:=ap j k v bx am;exact⟨x,by simpa using aJ,bd⟩
theorem On {r:Nat} {es:Array MapEntry} {ei:Nat} (ai:w.heap[r]? = some (.map es ei)) :(getObj r).run P w=.ok (.map es ei) w:=by simp[getObj,Sem.run,ai]
theorem aci {r:Nat} {s:ByteArray} {pos:Nat} (ai:w.heap[r]? = some (.stringIter s pos)) :(getObj r).run P w=.ok (.stringIter s pos) w:=by simp[getObj,Sem.run,ai]
theorem adz {t:TypeId} {z:ae} (aB:wC P t=some z) :∃ v,(zeroValue t).run P w=.ok v w/\aR w R h μ z v:=by
 unfold wC at aB;cases aA:P.info? t with
 | none=>rw[aA] at aB; cases aB
 | some i=>
  rw[aA] at aB;simp only[Option.bind_some] at aB;cases ax:i.zero with
  | none=>rw[ax] at aB; cases aB
  | some v=>
   rw[ax] at aB;simp only[Option.map_some,Option.some.injEq] at aB; subst aB;exact⟨v,ack aA ax,.ut v⟩
theorem aR.ac2 {a b:ae} {hz gU:Value} (aG:aR w R h μ a hz) (ai:aR w R h μ b gU) :aR w R h μ (.bU [a,b]) (.tuple #[hz,gU]) :=by
 refine .bU _ _ rfl fun j c v al ax=>?_
 rcases j with _ | _ | j
 ·simp at al ax; subst al ax; exact aG
 ·simp at al ax; subst al ax; exact ai
 ·simp at al
theorem alV (rel:cc R B w h μ) {t:TypeId} {m k c:ae} {aq hg:Value} {ok:Bool} (au:DR P h t m k ok=some c) (hm:aR w R h μ m aq) (hk:aR w R h μ k hg) :
  ∃ v,(Instr.lookup t aq hg ok).run P w=.ok v w/\aR w R h μ c v:=by
 unfold DR at au;split at au
 ·rename_i cP lj es aM tV;split at au
  ·cases au
  ·rename_i dP;have af6:∀ dn:List MapEntry,rB w R h μ es dn->∃ cx,(Instr.findKey cP hg dn).run P w=.ok cx w ∧
     ((∃ i v,cx=some (i,v)/\∃ rS,aR w R h μ rS v/\c=if ok then .bU [rS,.bool true] else rS)\/(cx=none/\∃ z,wC P lj=some z/\c=if ok then .bU [z,.bool false] else z)) :=by
    intro dn aC;cases kk:iQ P cP k es 0 with
    | none=>rw[kk] at au; cases au
    | some r=>
     obtain⟨cx,h1,ag⟩:=ach hk dP aC kk;rw[kk] at au;refine⟨cx,h1,?_⟩;cases r with
     | none=>
      cases ag;simp only at au;cases aB:wC P lj with
      | none=>rw[aB] at au; cases au
      | some z=>
       rw[aB] at au;simp only[Option.map_some,Option.some.injEq] at au;exact .inr ⟨rfl,z,rfl,au.symm⟩
     | some ui=>
      obtain⟨nU,rfl,aJ,_⟩:=ag;simp only[Option.some.injEq] at au;exact .inl ⟨_,nU,rfl,_,aJ,au.symm⟩
   have fin:∀ (dn:List MapEntry) (em:Bool),rB w R h μ es dn->∀ m:Sem Value,m.run P w=(((Instr.checkKey em 10000 cP hg).bind fun _=>(Instr.findKey cP hg dn).bind fun r=>match r with
     | some (_,v)=>pure (if ok=true then .tuple #[v,.bool true] else v)
     | none=>(zeroValue lj).bind fun z=>pure (if ok=true then .tuple #[z,.bool false] else z)) :Sem Value).run P w->∃ v,m.run P w=.ok v w/\aR w R h μ c v:=by
    intro dn em aC m hm;obtain⟨cx,h1,ag⟩:=af6 dn aC;have CY:∀ {α i2:Type} (a:Sem α) (f:α->Sem i2),a.bind f=a >>= f:=fun _ _=>rfl
    simp only[CY,Sem.run_bind,acf em dP hk,Result.andThen_ok,h1] at hm;rcases ag with ⟨i,v,rfl,rS,ap,rfl⟩ | ⟨rfl,z,ap,rfl⟩
    ·simp only at hm;cases ok
     ·exact⟨v,by simpa using hm,ap⟩
     ·exact⟨.tuple #[v,.bool true],by simpa using hm,aR.ac2 ap (.bool _)⟩
    ·obtain⟨v,aJ,bd⟩:=adz (w:=w) (R:=R) (h:=h) (μ:=μ) ap;simp only[Sem.run_bind,aJ,Result.andThen_ok] at hm;cases ok
     ·exact⟨v,by simpa using hm,bd⟩
     ·exact⟨.tuple #[v,.bool false],by simpa using hm,aR.ac2 bd (.bool _)⟩
   have CY:∀ {α i2:Type} (a:Sem α) (f:α->Sem i2),a.bind f=a >>= f:=fun _ _=>rfl
   rcases al2 rel tV hm with ⟨rfl,rfl⟩ | ⟨b,cj,ei,dn,rfl,ai,hS,rfl,i8,aC⟩
   ·refine fin [] true ⟨rfl,fun j k v b am=>by simp at am⟩ _ ?_;unfold Instr.lookup;simp only[CY,Sem.run_bind,cy aM,Result.andThen_ok,Sem.run_pure];cases dW:(Instr.checkKey true 10000 cP hg).run P w with
    | halt a b=>simp[dW]
    | ok a cb=>
     simp[dW];cases aiI:(Instr.findKey cP hg []).run P cb with
     | halt a b=>simp
     | ok r w2=>
      simp;cases r with
      | none=>cases (zeroValue lj).run P w2<;>simp
      | some x=>simp
   ·refine fin dn.toList dn.isEmpty aC _ ?_;unfold Instr.lookup;simp only[CY,Sem.run_bind,cy aM,Result.andThen_ok,Sem.run_pure,On i8];cases dW:(Instr.checkKey dn.isEmpty 10000 cP hg).run P w with
    | halt a b=>simp[dW]
    | ok a cb=>
     simp[dW];cases aiI:(Instr.findKey cP hg dn.toList).run P cb with
     | halt a b=>simp
     | ok r w2=>
      simp;cases r with
      | none=>cases (zeroValue lj).run P w2<;>simp
      | some x=>simp
 ·cases au
theorem alL (rel:cc R B w h μ) {t ty:TypeId} {x c:ae} {bJ:Value} (al:wa P h t x=some c) (aj:aR w R h μ x bJ) :∃ v,(Builtin.len_ #[t] ty #[bJ]).run P w=.ok v w/\aR w R h μ c v:=by
 unfold wa at al;split at al
 ·rename_i cP lj b aM;split at al
  ·rename_i es ei ai;simp only[Option.some.injEq] at al; subst al;cases aj with
   | mp _ cj hk hS=>
    have hblk:=rel.blk b cj hS;rw[ai] at hblk;obtain⟨dn,h1,ag,ap⟩:=hblk;exact⟨.int .i64 dn.size,by simp[Builtin.len_,cy aM,On h1,goInt],by rw[ag]; exact .int _ _⟩
  ·cases al
 ·cases al
theorem al0 (rel:cc R B w h μ) {t:TypeId} {r:Option Value} (aM:∃ k e,P.underlying t=some (.map k e)) (aC:∀ x,r=some x->∃ k n,x=.int k n) :∃ v w' μ',(Instr.makeMap t r).run P w=.ok v w'/\dr w h μ w' (h.push (.map [] 0)) μ'/\cc R B w' (h.push (.map [] 0)) μ'/\aR w' R (h.push (.map [] 0)) μ' (.mp h.n) v:=by
 have:=rel.YV (w':=w.alloc (.map #[] 0)) (.map [] 0) (.map #[] 0) (k:=0) rfl rfl rfl rfl rfl ⟨#[],by show (w.heap.push _)[w.heap.size]? = _; simp,rfl,fun j k v b am=>by simp at am⟩;refine⟨.map (some w.heap.size),w.alloc (.map #[] 0),_,?_,this.1,this.2,?_⟩
 ·obtain⟨k,e,aM⟩:=aM;cases r with
  | none=>simp[Instr.makeMap,newObj,Sem.run]
  | some x=>
   obtain⟨k',n,rfl⟩:=aC x rfl;simp[Instr.makeMap,newObj,Sem.run,cy aM,Go.asInt,Go.asIntOf]
 ·exact .mp h.n ⟨w.heap.size,0,0⟩ (by simp[dR,mO]) (by simp)
theorem X8 (rel:cc R B w h μ) {t:TypeId} {m k x:ae} {aq hg bJ:Value} {h' : aQ} (mK:wd P h t m k x=some h') (hm:aR w R h μ m aq) (hk:aR w R h μ k hg) (aj:aR w R h μ x bJ) :
  ∃ w',(Instr.mapUpdate t aq hg bJ).run P w=.ok () w'/\dr w h μ w' h' μ/\cc R B w' h' μ:=by
 unfold wd at mK;split at mK
 ·rename_i cP lj b aM;split at mK
  ·rename_i es ei ai;split at mK
   ·cases mK
   ·rename_i dP;cases hm with
    | mp _ cj vH hS=>
     have hblk:=rel.blk b cj hS;rw[ai] at hblk;obtain⟨dn,h1,ag,ap⟩:=hblk;have aP:cj.r<w.heap.size:=by
      rcases Nat.lt_or_ge cj.r w.heap.size with h | h
      ·exact h
      ·rw[Array.getElem?_eq_none h] at h1; cases h1
     have aC:rB w R h μ es dn.toList:=⟨by simpa using ag,fun j k v bx am=>by obtain⟨y,aJ,bd⟩:=ap j k v bx am; exact⟨y,by simpa using aJ,bd⟩⟩
     have l8:∀ o:Obj,(setObj cj.r o).run P w=.ok () { w with heap:=w.heap.setIfInBounds cj.r o }:=fun o=>by simp[setObj,Sem.run,h1]
     have xL:∀ (w3:List (ae × ae × Nat)) (w4:Array MapEntry) (zm:Nat),(∀ {w2:World} {ag:aQ},Ext0 w h μ w2 ag μ->w4.size=w3.length/\∀ (j:Nat) (k v:ae) (b:Nat),w3[j]? = some (k,v,b)->∃ x:MapEntry,w4[j]? = some x/\aR w2 R ag μ k x.key/\aR w2 R ag μ v x.val/\x.born=b)->
       dr w h μ { w with heap:=w.heap.setIfInBounds cj.r (.map w4 zm) } (h.set b (.map w3 zm)) μ/\cc R B { w with heap:=w.heap.setIfInBounds cj.r (.map w4 zm) } (h.set b (.map w3 zm)) μ:=by
      intro w3 w4 zm bp;refine rel.YZ (k:=0) ai rfl rfl hS rfl rfl rfl (by simp) (fun k hk=>?_) (fun e=>?_)
      ·simp only; rw[Array.getElem?_setIfInBounds]; rw[if_neg (fun aN=>hk aN.symm)]
      ·obtain⟨q1,iZ⟩:=bp e;exact⟨w4,by simp only; rw[Array.getElem?_setIfInBounds]; simp[aP],q1,iZ⟩
     unfold Instr.mapUpdate;simp only[Sem.run_bind,cy aM,Result.andThen_ok,On h1,acf false dP hk];cases kk:iQ P cP k es 0 with
     | none=>rw[kk] at mK; cases mK
     | some r=>
      rw[kk] at mK;obtain⟨cx,aJ,bd⟩:=ach hk dP aC kk;rw[aJ];cases r with
      | none=>
       cases bd;simp only[Option.some.injEq] at mK; subst mK;have:=xL (es++[(k,x,ei)]) (dn.push { key:=hg,val:=bJ,born:=ei }) (ei+1) (fun e=>⟨by simp[ag],fun j k' bf bx am=>?_⟩)
       ·exact⟨_,by simp only[Result.andThen_ok]; rw[l8],this⟩
       ·rw[Array.getElem?_push];by_cases eR:j<es.length
        ·rw[List.getElem?_append_left eR] at am;obtain⟨y,bL,eN,hd,fL⟩:=ap j k' bf bx am;exact⟨y,by rw[if_neg (by omega)]; exact bL,eN.lU e,hd.lU e,fL⟩
        ·rw[List.getElem?_append_right (by omega)] at am;have Jt:j - es.length=0:=by
          rcases Nat.eq_zero_or_pos (j - es.length) with h | h
          ·exact h
          ·rw[List.getElem?_eq_none (by simp; omega)] at am; cases am
         rw[Jt] at am;simp at am;obtain⟨rfl,rfl,rfl⟩:=am;exact⟨_,by rw[if_pos (by omega)],hk.lU e,aj.lU e,rfl⟩
      | some ui=>
       obtain⟨i,v⟩:=ui;obtain⟨nU,rfl,bL,_,y,eN,hd,fL⟩:=bd;simp only[Option.some.injEq] at mK; subst mK;have zS:dn[i]? = some y:=by simpa using eN
       have aZ:y.key=hg:=by rw[KS dP fL,KS dP hk]
       have tR:(Instr.keyThatStays (((dn[i]?).map (·.key)).getD hg) hg).run P w=.ok hg w:=by
        rw[zS];simp only[Option.map_some,Option.getD_some,aZ];rw[KS dP hk];exact aoz dP
       have:=xL (es.modify i fun e=>(k,x,e.2.2)) (dn.modify i fun e=>{ e with key:=hg,val:=bJ }) ei (fun e=>⟨by simp[ag],fun j k' bf bx am=>?_⟩)
       ·refine⟨_,?_,this⟩;simp only[Result.andThen_ok,Sem.run_bind,tR];rw[l8]
       ·rw[List.getElem?_modify] at am;rw[Array.getElem?_modify];cases l0:es[j]? with
        | none=>rw[l0] at am; simp at am
        | some hc=>
         obtain⟨gj,v0,gG⟩:=hc;rw[l0] at am;obtain⟨adw,lV,vk,IH,Ug⟩:=ap j gj v0 gG l0;rw[lV];by_cases iy:i=j
         ·simp[iy] at am;obtain⟨rfl,rfl,rfl⟩:=am;exact⟨{ adw with key:=hg,val:=bJ },by simp[iy],hk.lU e,aj.lU e,Ug⟩
         ·simp[iy] at am;obtain⟨rfl,rfl,rfl⟩:=am;exact⟨adw,by simp[iy],vk.lU e,IH.lU e,Ug⟩
  ·cases mK
 ·cases mK
theorem an2 (rel:cc R B w h μ) {t:TypeId} {x c:ae} {bJ:Value} {h' : aQ} (aC:Em P h t x=some (c,h')) (aj:aR w R h μ x bJ) :
  ∃ v w' μ',(Instr.range t bJ).run P w=.ok v w'/\dr w h μ w' h' μ'/\cc R B w' h' μ'/\aR w' R h' μ' c v:=by
 unfold Em at aC;split at aC
 ·rename_i s aM;simp only[Option.some.injEq,Prod.mk.injEq] at aC;obtain⟨rfl,rfl⟩:=aC;cases aj;rename_i bs;have:=rel.YV (w':=w.alloc (.stringIter bs 0)) (.iter bs.data.toList 0) (.stringIter bs 0) (k:=1) rfl rfl rfl rfl rfl ⟨bs,rfl,by show (w.heap.push _)[w.heap.size]? = _; simp⟩;refine⟨.pointer (some ⟨w.heap.size,0,none⟩),w.alloc (.stringIter bs 0),_,?_,this.1,this.2,?_⟩
  ·simp[Instr.range,cy aM,newObj,Sem.run]
  ·exact .it h.n ⟨w.heap.size,0,0⟩ (by simp[dR,mO]) (by simp)
 ·cases aC
theorem ama (rel:cc R B w h μ) {x c:ae} {bJ:Value} {h' : aQ} {ty:TypeId} (aC:yd h x=some (c,h')) (aj:aR w R h μ x bJ) :
  ∃ v w',(Instr.next bJ true ty).run P w=.ok v w'/\dr w h μ w' h' μ/\cc R B w' h' μ/\aR w' R h' μ c v:=by
 unfold yd at aC;split at aC
 ·rename_i b;split at aC
  ·rename_i s pos ai;cases aj with
   | it _ cj vH hS=>
    have hblk:=rel.blk b cj hS;rw[ai] at hblk;obtain⟨bs,rfl,h1⟩:=hblk;have aP:cj.r<w.heap.size:=by
     rcases Nat.lt_or_ge cj.r w.heap.size with h | h
     ·exact h
     ·rw[Array.getElem?_eq_none h] at h1; cases h1
    have ov:(⟨bs.data.toList.toArray⟩:ByteArray)=bs:=by cases bs; simp
    have g4:bs.data.toList.length=bs.size:=by rw[Array.length_toList]; rfl
    rw[ov] at aC;split at aC
    ·rename_i oB;have aE:pos<bs.size:=by rw[<-g4]; rw[Nat.blt_eq] at oB; exact oB
     simp only[Option.some.injEq,Prod.mk.injEq] at aC;obtain⟨rfl,rfl⟩:=aC;have:=rel.YZ (w':={ w with heap:=w.heap.setIfInBounds cj.r (.stringIter bs (pos+(Utf8.decode bs pos).2)) }) (k:=1) (c':=.iter bs.data.toList (pos+(Utf8.decode bs pos).2)) ai rfl rfl hS rfl rfl rfl (by simp)
      (fun k hk=>by simp only; rw[Array.getElem?_setIfInBounds]; rw[if_neg (fun aN=>hk aN.symm)]) (fun e=>⟨bs,rfl,by simp only; rw[Array.getElem?_setIfInBounds]; simp[aP]⟩)
     refine⟨.tuple #[.bool true,.int .i64 pos,.int .i32 (Utf8.decode bs pos).1],_,?_,this.1,this.2,?_⟩
     ·simp only[Instr.next,Sem.run_bind,aci h1,Result.andThen_ok,if_pos aE];simp[setObj,Sem.run,h1,goInt]
     ·refine .bU _ _ rfl fun j c v al ax=>?_
      rcases j with _ | _ | _ | j
      ·simp at al ax; subst al ax; exact .bool _
      ·simp at al ax; subst al ax; exact .int _ _
      ·simp at al ax; subst al ax; exact .int _ _
      ·simp at al
    ·rename_i oB;have aE:¬ pos<bs.size:=by
      rw[<-g4]; intro aN;rw[<-Nat.blt_eq] at aN; rw[aN] at oB; cases oB
     simp only[Option.some.injEq,Prod.mk.injEq] at aC;obtain⟨rfl,rfl⟩:=aC;refine⟨.tuple #[.bool false],w,?_,.refl _ _ _,rel,?_⟩
     ·simp only[Instr.next,Sem.run_bind,aci h1,Result.andThen_ok,if_neg aE];simp
     ·refine .bU _ _ rfl fun j c v al ax=>?_
      rcases j with _ | j
      ·simp at al ax; subst al ax; exact .bool _
      ·simp at al
  ·cases aC
 ·cases aC
theorem acg {blk:Nat}:∀ (n:Nat) (o:Nat) (ns:List Int) (acc:ByteArray),ns.length=n->(∀ j v,(ns.map (Value.int .u8))[j]? = some v->(load (⟨blk,o+j,none⟩:Addr)).run P w=.ok v w)->
  ∃ bs,(Extern.Bytes.loadBytes ⟨blk,o,none⟩ n acc).run P w=.ok bs w/\bs.data.toList=acc.data.toList++ns.map fun n=>UInt8.ofNat n.toNat
 | 0,o,ns,acc,au,_=>⟨acc,by simp[Extern.Bytes.loadBytes],by rw[List.length_eq_zero_iff.1 au]; simp⟩
 | n+1,o,[],acc,au,_=>by simp at au
 | n+1,o,x::ns,acc,au,h=>by
  have aT:=h 0 _ rfl;obtain⟨bs,h1,ag⟩:=acg n (o+1) ns (acc.push (UInt8.ofNat x.toNat)) (by simpa using au) (fun j v am=>by
   have:=h (j+1) v (by simpa using am);rw[show o+(j+1)=o+1+j by omega] at this;exact this)
  refine⟨bs,?_,?_⟩
  ·unfold Extern.Bytes.loadBytes;rw[Nat.add_zero] at aT;simp only[Sem.run_bind,aT,Result.andThen_ok,Addr.lg];exact h1
  ·rw[ag]; simp
theorem P9 (rel:cc R B w h μ) {x:ae} {bJ:Value} {l:List UInt8} (ai:qk h x=some l) (aj:aR w R h μ x bJ) :∃ bs,(Extern.Bytes.bytesOf bJ).run P w=.ok bs w/\bs.data.toList=l:=by
 unfold qk at ai;split at ai
 ·simp only[Option.some.injEq] at ai; subst ai;cases aj with
  | str bs=>exact⟨bs,by simp[Extern.Bytes.bytesOf],rfl⟩
 ·rename_i qL;split at ai
  ·rename_i cs n dp;obtain⟨bF,bA,vs,cF,kk⟩:=tv (P:=P) rel dp aj;have aI:=kk n (Nat.le_refl _) w (fun _=>rfl);obtain⟨ns,rfl,rfl⟩:=FD cs vs l ai cF.1 cF.2;have l6:ns.length=n:=by have:=cF.1; simp at this; omega
   have Aw:(ns.map (Value.int .u8)).take (n*1)=ns.map (Value.int .u8) :=List.take_of_length_le (by simp; omega);rw[Aw] at aI;have Jk:∃ a len cap,bJ=.slice a len cap:=by
    cases aj<;>first | exact⟨_,_,_,rfl⟩ | (simp[contents] at dp; done) | (exact absurd rfl (qL _))
   obtain⟨a,len,cap,rfl⟩:=Jk;simp only[Builtin.lenOf,Sem.run_pure,Result.ok.injEq] at bA;obtain⟨rfl,_⟩:=bA;cases a with
   | none=>
    simp only[Builtin.firstCells,Sem.run_pure,Result.ok.injEq] at aI;have lx:ns=[] :=by
     have:=congrArg Array.toList aI.1;simpa using this.symm
    subst lx;exact⟨.empty,by simp[Extern.Bytes.bytesOf],rfl⟩
   | some a=>
    by_cases so:len=0
    ·subst so;have:ns=[] :=List.length_eq_zero_iff.1 l6;subst this;exact⟨.empty,by simp[Extern.Bytes.bytesOf,Extern.Bytes.loadBytes],rfl⟩
    have aG:∃ blk o,a=⟨blk,o,none⟩:=by
     cases aj with
     | ao=>exact⟨_,_,rfl⟩
     | b0=>exact⟨_,_,rfl⟩
     | fo=>exact absurd rfl so
     | hi=>exact absurd rfl so
     | bad=>simp[contents] at dp
     | fZ _ _ _ _ _ _ _ _ h1 ag az=>
      exfalso;simp only[contents] at dp;rcases az with az | ⟨n,ho,az,aP⟩
      ·rw[az] at dp; cases dp
      ·rw[az] at dp;simp only at dp;split at dp
       ·rename_i aN; omega
       ·cases dp
    obtain⟨blk,o,rfl⟩:=aG;simp only[Builtin.firstCells,Nat.mul_one] at aI;unfold loadCells at aI;obtain⟨l,h1,ag,ap⟩:=loadCellsFrom_ok _ _ _ _ _ _ aI;have aJ:l=ns.map (Value.int .u8) :=by
     have:=congrArg Array.toList ag;simpa using this.symm
    subst aJ;obtain⟨bs,bd,bL⟩:=acg (P:=P) (w:=w) (blk:=blk) len o ns .empty l6 (fun j v am=>by
     have:=ap j v am;rw[Addr.lg,Nat.zero_add] at this;exact this)
    exact⟨bs,by simpa [Extern.Bytes.bytesOf] using bd,by rw[bL]; rfl⟩
  ·cases ai
theorem S8:∀ (a b:List UInt8),(match (List.range (min a.length b.length)).find? fun i=>a.getD i 0 != b.getD i 0 with
  | some i=>if a.getD i 0<b.getD i 0 then (-1:Int) else 1
  | none=>if a.length<b.length then -1 else if a.length > b.length then 1 else 0)=mA a b
 | [],[]=>by simp[mA]
 | [],_::_=>by simp[mA]
 | _::_,[]=>by simp[mA]
 | x::a,y::b=>by
  have aL:=S8 a b;simp only[List.length_cons,Nat.add_min_add_right,List.range_succ_eq_map,List.find?_cons,List.getD_cons_zero];by_cases nB:x=y
  ·subst nB;simp only[bne_self_eq_false,mA,if_true];rw[<-aL,List.find?_map];have xy:((fun i=>(x::a).getD i 0 != (x::b).getD i 0) ∘ Nat.succ)=fun i=>a.getD i 0 != b.getD i 0:=by
    funext i; simp
   rw[xy];cases aI:(List.range (min a.length b.length)).find? fun i=>a.getD i 0 != b.getD i 0 with
   | none=>simp only[Option.map_none]; congr 1<;>simp
   | some i=>simp
  ·have bY:(x != y)=true:=by simp[nB]
   simp only[bY,mA,if_neg nB,List.getD_cons_zero]
theorem TH {α:Type} {p q:α->Bool}:∀ (l:List α),(∀ x∈l,p x=q x)->l.find? p=l.find? q
 | [],_=>rfl
 | x::l,h=>by
  rw[List.find?_cons,List.find?_cons,h x (by simp),TH l (fun y aK=>h y (by simp[aK]))]
theorem wV (a b:ByteArray) :Extern.BytealgCompare.cmp a b=mA a.data.toList b.data.toList:=by
 rw[<-S8];unfold Extern.BytealgCompare.cmp;have az:∀ (a:ByteArray) (i:Nat),i<a.size->a[i]! = a.data.toList.getD i 0:=fun a i aA=>by
  simp only[List.getD_eq_getElem?_getD,Array.getElem?_toList];rw[getElem!_pos a i aA];have:i<a.data.size:=aA;rw[Array.getElem?_eq_getElem this]; rfl
 have au:∀ a:ByteArray,a.data.toList.length=a.size:=fun a=>by rw[Array.length_toList]; rfl
 rw[au,au];have Jj:(List.range (min a.size b.size)).find? (fun i=>a[i]! != b[i]!)=(List.range (min a.size b.size)).find? (fun i=>a.data.toList.getD i 0 != b.data.toList.getD i 0) :=by
  apply TH;intro i aA;have:=List.mem_range.1 aA;rw[az a i (by omega),az b i (by omega)]
 rw[Jj];cases aI:(List.range (min a.size b.size)).find? (fun i=>a.data.toList.getD i 0 != b.data.toList.getD i 0) with
 | none=>rfl
 | some i=>
  have:=List.mem_range.1 (List.mem_of_find?_eq_some aI);simp only;rw[az a i (by omega),az b i (by omega)]
theorem agU {fn:Func} (aH:fn.name= "internal/bytealg.Compare") (ay:fn.origin= ""\/fn.origin= "internal/bytealg.Compare") :Extern.find fn=some Extern.BytealgCompare.compare/\Extern.findNext fn=none:=by
 constructor
 ·unfold Extern.find;simp only[aH];rfl
 ·unfold Extern.findNext;simp only[aH];rcases ay with ay | ay<;>rw[ay]<;>rfl
theorem agK (rel:cc R B w h μ) {f:FuncId} {fn:Func} {args:List ae} {vs:Array Value} {c:ae} (aI:P.funcs[f]? = some fn) (aA:AI fn=true) (al:zs h args=some c)
  (au:vs.size=args.length) (ax:∀ (j:Nat) (c:ae) (v:Value),args[j]? = some c->vs[j]? = some v->aR w R h μ c v) :
  ∃ v,(callFunc f vs).run P w=.ok (.value v) w/\aR w R h μ c v:=by
 unfold AI at aA;simp only[Bool.and_eq_true,Bool.or_eq_true,beq_iff_eq] at aA;obtain⟨⟨ai,aH⟩,ay⟩:=aA;unfold zs at al;split at al
 ·rename_i x y;split at al
  ·rename_i a b aG bP;simp only[Option.some.injEq] at al; subst al;simp only[List.length_cons,List.length_nil] at au;have lx:vs=#[vs[0],vs[1]] :=by
    apply Array.ext
    ·simpa using au
    ·intro i h1 ag;rcases (show i=0\/i=1 by simp at ag; omega) with rfl | rfl<;>rfl
   obtain⟨ba,h1,ag⟩:=P9 (P:=P) rel aG (ax 0 x vs[0] rfl (by simp[au]));obtain⟨bb,ap,aJ⟩:=P9 (P:=P) rel bP (ax 1 y vs[1] rfl (by simp[au]));obtain⟨aZ,b4⟩:=agU aH ay;refine⟨.int .i64 (mA a b),?_,.int _ _⟩;rw[lx];have bY:fn.name≠ "runtime.NumGoroutine":=by rw[aH]; decide
   have ai:=Option.isNone_iff_eq_none.1 ai;have sb:Extern.BytealgCompare.compare #[vs[0],vs[1]]=(do pure (goInt (Extern.BytealgCompare.cmp (<-Extern.Bytes.bytesOf vs[0]) (<-Extern.Bytes.bytesOf vs[1])))) :=rfl;simp[callFunc,aI,bY,ai,aZ,b4,mark,Sem.run,sb,h1,ap,wV,ag,aJ,goInt]
  ·cases al
 ·cases al
end
section
variable {P:Program} {w:World} {R:Nat->Prop} {B:Nat} {h:aQ} {μ:cJ}
inductive uY:Value->Value->Prop where
 | bool (a b:Bool) :uY (.bool a) (.bool b)
 | agg (a b:Array Value) :uY (.agg a) (.agg b)
 | slice (a:Option Addr) (l c:Nat) (eL:Option Addr) (l' c' : Nat) :uY (.slice a l c) (.slice eL l' c')
theorem agB {d:Nat} {t:TypeId} {x y:ae} {b:Bool} {bJ fx:Value} (aw:ej P d t x y=some b) (aj:aR w R h μ x bJ) (aK:aR w R h μ y fx)
  (aA:∀ k a k' bx,x=.int k a->y=.int k' bx->False) (ar:∀ a bx,x=.str a->y=.str bx->False) :uY bJ fx:=by
 cases d with
 | zero=>simp[ej] at aw
 | succ d=>
  unfold ej at aw;split at aw
  ·cases aj; cases aK; exact .bool _ _
  ·exact (aA _ _ _ _ rfl rfl).elim
  ·exact (ar _ _ rfl rfl).elim
  ·cases aj; cases aK; exact .agg _ _
  ·cases aj; cases aK; exact .agg _ _
  ·cases aj; cases aK; exact .slice _ _ _ _ _ _
  ·cases aj; cases aK<;>exact .slice _ _ _ _ _ _
  ·cases aj; cases aK<;>exact .slice _ _ _ _ _ _
  ·cases aj<;>cases aK<;>exact .slice _ _ _ _ _ _
  ·cases aj<;>cases aK<;>exact .slice _ _ _ _ _ _
  ·cases aw
theorem agz {op:BinOp} {t:TypeId} {sR rc:Operand} {bJ fx:Value} (ar:uY bJ fx) (az:∀ a b,bJ=.agg a->fx=.agg b->P.eqGuardType P.depth t=false) :(eqGuard op t sR rc bJ fx).run P w=.ok () w:=by
 cases ar with
 | bool a b=>cases op<;>rfl
 | agg a b=>exact run_eqGuard_agg w op t sR rc a b (az a b rfl rfl)
 | slice=>cases op<;>rfl
theorem aoy {t:TypeId} {bJ fx:Value} {b:Bool} (ar:uY bJ fx) (fW:(Op.equalIn 10000 t bJ fx).run P w=.ok b w) :
  (binOp .eql t bJ fx).run P w=.ok (.bool b) w/\(binOp .neq t bJ fx).run P w=.ok (.bool (!b)) w:=by
 have bp:(Op.equal t bJ fx).run P w=.ok b w:=fW;cases ar<;>constructor<;>simp[binOp,bp]
theorem agy {op:BinOp} {t:TypeId} {sR rc:Operand} {k k' : IntKind} {a b:Int}:(eqGuard op t sR rc (.int k a) (.int k' b)).run P w=.ok () w:=by
 cases op<;>rfl
theorem agA {op:BinOp} {t:TypeId} {sR rc:Operand} {a b:ByteArray}:(eqGuard op t sR rc (.string a) (.string b)).run P w=.ok () w:=by
 cases op<;>rfl
theorem aeD {op:BinOp} {t:TypeId} {sR rc:Operand} {x y c:ae} {bJ fx:Value} (al:gc P op t x y=some c) (aj:aR w R h μ x bJ) (aK:aR w R h μ y fx) :
  ∃ v,((do eqGuard op t sR rc bJ fx; binOp op t bJ fx:Sem Value)).run P w=.ok v w/\aR w R h μ c v:=by
 unfold gc at al;split at al
 ·cases aj; cases aK;obtain⟨v,h1,ag⟩:=aeE (P:=P) (w:=w) (R:=R) (h:=h) (μ:=μ) (t:=t) al;exact⟨v,by simp[agy,h1],ag⟩
 ·cases aj; cases aK;obtain⟨v,h1,ag⟩:=aeF (P:=P) (w:=w) (R:=R) (h:=h) (μ:=μ) (t:=t) al;exact⟨v,by simp[agA,h1],ag⟩
 ·rename_i ajs qL;have key:∀ b,vg P t x y=true->ej P 10000 t x y=some b->uY bJ fx/\(eqGuard op t sR rc bJ fx).run P w=.ok () w ∧
    (binOp .eql t bJ fx).run P w=.ok (.bool b) w/\(binOp .neq t bJ fx).run P w=.ok (.bool (!b)) w:=by
   intro b eb aw;have nx:=agB aw aj aK ajs qL;have az:∀ a b,bJ=.agg a->fx=.agg b->P.eqGuardType P.depth t=false:=by
    rintro a b rfl rfl;cases aj with
    | aV cs _ _ _ _=>
     cases aK with
     | aV cs' _ _ _ _=>simpa [vg] using eb
     | bad=>simp[ej] at aw
    | bad=>cases aK<;>simp[ej] at aw
   have bp:=Ip 10000 t x y b bJ fx aw aj aK;obtain⟨ci,b6⟩:=aoy nx bp;exact⟨nx,agz nx az,ci,b6⟩
  split at al
  ·split at al
   ·rename_i eb;cases aw:ej P 10000 t x y with
    | none=>rw[aw] at al; cases al
    | some b=>
     rw[aw] at al;simp only[Option.map_some,Option.some.injEq] at al; subst al;obtain⟨_,ci,b6,_⟩:=key b eb aw;exact⟨.bool b,by simp[ci,b6],.bool _⟩
   ·cases al
  ·split at al
   ·rename_i eb;cases aw:ej P 10000 t x y with
    | none=>rw[aw] at al; cases al
    | some b=>
     rw[aw] at al;simp only[Option.map_some,Option.some.injEq] at al; subst al;obtain⟨_,ci,_,b6⟩:=key b eb aw;exact⟨.bool (!b),by simp[ci,b6],.bool _⟩
   ·cases al
  ·cases al
theorem ap7 {op:UnOp} {x c:ae} {bJ:Value} (al:o1 op x=some c) (aj:aR w R h μ x bJ) :∃ v,(Op.unary op bJ).run P w=.ok v w/\aR w R h μ c v:=by
 unfold o1 at al;split at al
 ·simp only[Option.some.injEq] at al; subst al;cases aj;exact⟨_,by simp[Op.unary],.bool _⟩
 ·simp only[Option.some.injEq] at al; subst al;cases aj;refine⟨_,?_,.int _ _⟩;simp only[Op.unary]; rfl
 ·simp only[Option.some.injEq] at al; subst al;cases aj;refine⟨_,?_,.int _ _⟩;simp only[Op.unary]; rfl
 ·cases al
theorem Lk {aD:Operand->ae} {dL:Operand->Value} (c4:∀ x,aR w R h μ (aD x) (dL x)) (o:Option Operand) :u0 w R h μ (o.map aD) (o.map dL) :=by
 cases o with
 | none=>trivial
 | some x=>exact c4 x
def yZ (P:Program) (R:Nat->Prop) (B:Nat) (w:World) (h:aQ) (μ:cJ) (r:Result Next) :n3->Prop
 | .val c h'=>Good R B w h μ r c h'
 | .call f args h'=>h'=h/\∃ vs:Array Value,r=.ok (.enter f vs) w/\vs.size=args.length/\∀ (j:Nat) (c:ae) (v:Value),args[j]? = some c->vs[j]? = some v->aR w R h μ c v
theorem Good.mk {r:Result Next} {c:ae} {h' : aQ} {v:Value} {w' : World} {μ' : cJ} (aC:r=.ok (.value v) w') (aw:dr w h μ w' h' μ') (au:cc R B w' h' μ') (ax:aR w' R h' μ' c v) :Good R B w h μ r c h':=
 ⟨v,w',μ',.inl aC,aw,au,ax⟩
theorem aeZ (rel:cc R B w h μ) {b:Builtin} {ts:Array TypeId} {ty:TypeId} {consts:Array Bool} {args:List ae} {vs:Array Value} {r:n3} (ar:oe P h b ts.toList args=some r)
  (au:vs.size=args.length) (ax:∀ (j:Nat) (c:ae) (v:Value),args[j]? = some c->vs[j]? = some v->aR w R h μ c v) :yZ P R B w h μ ((builtin b ts ty consts vs).run P w) r:=by
 have one:∀ x,args=[x]->∃ bJ,vs=#[bJ]/\aR w R h μ x bJ:=by
  intro x aj;subst aj;simp only[List.length_cons,List.length_nil] at au;refine⟨vs[0],?_,ax 0 x _ rfl (by simp[au])⟩;apply Array.ext
  ·simpa using au
  ·intro i h1 ag;have:i=0:=by omega
   subst this; rfl
 have two:∀ x y,args=[x,y]->∃ bJ fx,vs=#[bJ,fx]/\aR w R h μ x bJ/\aR w R h μ y fx:=by
  intro x y aj;subst aj;simp only[List.length_cons,List.length_nil] at au;refine⟨vs[0],vs[1],?_,ax 0 x _ rfl (by simp[au]),ax 1 y _ rfl (by simp[au])⟩;apply Array.ext
  ·simpa using au
  ·intro i h1 ag;rcases (show i=0\/i=1 by simp at ag; omega) with rfl | rfl<;>rfl
 have Fm:∀ t,ts.toList=[t]->ts=#[t] :=fun t aU=>by apply Array.toList_inj.1; simpa using aU
 have PM:∀ t u,ts.toList=[t,u]->ts=#[t,u] :=fun t u aU=>by apply Array.toList_inj.1; simpa using aU
 unfold oe at ar;split at ar
 ·rename_i t x py;obtain⟨bJ,rfl,aj⟩:=one x rfl;obtain rfl:=Fm t py;split at ar
  ·rename_i c al;simp only[Option.some.injEq] at ar; subst ar;obtain⟨v,h1,ag⟩:=alL (P:=P) (ty:=ty) rel al aj;exact Good.mk (by simp[builtin,h1]) (.refl _ _ _) rel ag
  cases al:v8 P t x with
  | none=>rw[al] at ar; cases ar
  | some c=>
   rw[al] at ar;simp only[Option.map_some,Option.some.injEq] at ar; subst ar;obtain⟨v,h1,ag⟩:=alM (P:=P) (u:=t) (ty:=ty) al aj;exact Good.mk (by simp[builtin,h1]) (.refl _ _ _) rel ag
 ·rename_i t u s x py;obtain⟨af,bJ,rfl,l7,aj⟩:=two s x rfl;obtain rfl:=PM t u py;split at ar
  ·rename_i k aM;cases al:y9 P h t s x with
   | none=>rw[al] at ar; cases ar
   | some c=>
    obtain⟨c,h'⟩:=c;rw[al] at ar;simp only[Option.map_some,Option.some.injEq] at ar; subst ar;obtain⟨v,w',μ',h1,ag,ap,aJ⟩:=aes (ty:=ty) rel aM al l7 aj;exact Good.mk (by simp[builtin,h1]) ag ap aJ
  ·cases ar
  ·rename_i pu pv;cases al:qh P h t s x with
   | none=>rw[al] at ar; cases ar
   | some c=>
    obtain⟨c,h'⟩:=c;rw[al] at ar;simp only[Option.map_some,Option.some.injEq] at ar; subst ar;have aM:yf P u:=by
     cases bN:P.underlying u with
     | none=>exact absurd bN pv
     | some d=>exact⟨d,bN,fun k hk=>pu k (by rw[bN,hk])⟩
    obtain⟨v,w',μ',h1,ag,ap,aJ⟩:=Fl (ty:=ty) rel aM al l7 aj;exact Good.mk (by simp[builtin,h1]) ag ap aJ
 ·rename_i t u d x py;obtain⟨Ih,bJ,rfl,bN,aj⟩:=two d x rfl;obtain rfl:=PM t u py;cases al:wW P h t d x with
  | none=>rw[al] at ar; cases ar
  | some c=>
   obtain⟨c,h'⟩:=c;rw[al] at ar;simp only[Option.map_some,Option.some.injEq] at ar; subst ar;obtain⟨v,w',h1,ag,ap,aJ⟩:=af5 (u:=u) (ty:=ty) rel al bN aj;exact Good.mk (by simp[builtin,h1]) ag ap aJ
 ·rename_i t x py;obtain⟨bJ,rfl,aj⟩:=one x rfl;obtain rfl:=Fm t py;cases al:wR P t x with
  | none=>rw[al] at ar; cases ar
  | some c=>
   rw[al] at ar;simp only[Option.map_some,Option.some.injEq] at ar; subst ar;obtain⟨v,h1,ag⟩:=afB (P:=P) (ty:=ty) al aj;exact Good.mk (by simp[builtin,h1]) (.refl _ _ _) rel ag
 ·rename_i t x py;obtain⟨bJ,rfl,aj⟩:=one x rfl;obtain rfl:=Fm t py;cases al:wT P h t x with
  | none=>rw[al] at ar; cases ar
  | some h'=>
   rw[al] at ar;simp only[Option.map_some,Option.some.injEq] at ar; subst ar;obtain⟨w',h1,ag,ap⟩:=afM (P:=P) (ty:=ty) rel al aj;exact Good.mk (v:=.tuple #[]) (by simp[builtin,h1]) ag ap (.bU [] #[] rfl (fun _ _ _ aN=>by simp at aN))
 ·rename_i x y;obtain⟨bJ,fx,rfl,aj,aK⟩:=two x y rfl;cases al:yb x y with
  | none=>rw[al] at ar; cases ar
  | some c=>
   rw[al] at ar;simp only[Option.map_some,Option.some.injEq] at ar; subst ar;unfold yb at al;split at al
   ·split at al
    ·rename_i hk; subst hk;simp only[Option.some.injEq] at al; subst al;cases aj; cases aK;refine Good.mk (v:=.int _ _) ?_ (.refl _ _ _) rel (.int _ _);simp[builtin,Builtin.min_,Builtin.min2]
    ·cases al
   ·cases al
 ·rename_i x y;obtain⟨bJ,fx,rfl,aj,aK⟩:=two x y rfl;cases al:sJ x y with
  | none=>rw[al] at ar; cases ar
  | some c=>
   rw[al] at ar;simp only[Option.map_some,Option.some.injEq] at ar; subst ar;unfold sJ at al;split at al
   ·split at al
    ·rename_i hk; subst hk;simp only[Option.some.injEq] at al; subst al;cases aj; cases aK;refine Good.mk (v:=.int _ _) ?_ (.refl _ _ _) rel (.int _ _);simp[builtin,Builtin.max_,Builtin.max2]
    ·cases al
   ·cases al
 ·cases ar
theorem SQ {f:FuncId} {fn:Func} {vs:Array Value} (aI:P.funcs[f]? = some fn) (ai:fn.body.isSome=true) (aH:fn.name≠ "runtime.NumGoroutine") :(callFunc f vs).run P w=.ok (.enter f vs) w:=by
 have bP:fn.body≠none:=fun aN=>by rw[aN] at ai; cases ai
 simp[callFunc,aI,aH,bP]
theorem KZ {aD:Operand->ae} {dL:Operand->Value} (c4:∀ x,aR w R h μ (aD x) (dL x)) (xs:Array Operand) :
  ∀ (j:Nat) (c:ae) (v:Value),(xs.toList.map aD)[j]? = some c->(xs.map dL)[j]? = some v->aR w R h μ c v:=by
 intro j c v am ax;rw[List.getElem?_map] at am;rw[Array.getElem?_map] at ax;cases ay:xs[j]? with
 | none=>simp[ay] at ax
 | some o=>
  simp[ay] at am ax;subst am ax;exact c4 o
theorem al5 {t:TypeId} {name:String} {g:FuncId} (hm:we P t name=some g) (u:Value) :(Go.method (P.types.size+Made.depth) t u name).run P w=.ok (g,u) w:=by
 unfold we at hm;split at hm
 ·cases hm
 ·cases hm
 ·rename_i xU Kj;split at hm
  ·rename_i i aA;split at hm
   ·rename_i m aI;split at hm
    ·rename_i f aE jo;cases hm;obtain⟨k,hk⟩:∃ k,P.types.size+Made.depth=k+1:=⟨P.types.size+Made.depth - 1,by unfold Made.depth; omega⟩
     rw[hk];cases bN:P.underlying t with
     | none=>exact absurd bN Kj
     | some d=>
      have atW:m.path=#[] :=Array.toList_eq_nil_iff.1 aE;cases d<;>first
       | (exfalso; exact xU _ bN)
       | simp[Go.method,typeInfo,aA,aI,aE,jo,follow,receiverAt,cy bN,Place.get]
    ·cases hm
   ·cases hm
  ·cases hm
theorem apC {t Pd:TypeId} {ok:Bool} {z c x:ae} {v:Value} (aB:EJ P t=some z) (al:yG t z ok x=some c) (aj:aR w R h μ x v) :
  ∃ bf,(Instr.typeAssert v Pd t ok).run P w=.ok bf w/\aR w R h μ c bf:=by
 unfold EJ at aB;split at aB
 ·cases aB
 ·cases aB
 ·rename_i xU Kj;cases bN:P.underlying t with
  | none=>exact absurd bN Kj
  | some d=>
   obtain⟨zv,qU,kw⟩:=adz (P:=P) (w:=w) (R:=R) (h:=h) (μ:=μ) aB;have two:∀ (a:ae) (hz:Value) (q:Bool),aR w R h μ a hz->aR w R h μ (.bU [a,.bool q]) (.tuple #[hz,.bool q]) :=by
    intro a hz q aG;refine .bU _ _ rfl (fun j c v am ax=>?_)
    match j,am,ax with
    | 0,am,ax=>simp at am ax; subst am ax; exact aG
    | 1,am,ax=>simp at am ax; subst am ax; exact .bool q
    | j+2,am,ax=>simp at am
   cases x<;>simp only[yG] at al<;>try (cases al; done)
   case iC=>
    cases aj;cases ok<;>simp only at al<;>cases al;refine⟨.tuple #[zv,.bool false],?_,two _ _ _ kw⟩;cases d<;>first
     | (exfalso; exact xU _ bN)
     | simp[Instr.typeAssert,cy bN,qU]
   case gg fJ u6=>
    cases aj with
    | gg _ _ u aM=>
     split at al
     ·rename_i aU;have aU:=Nat.eq_of_beq_eq_true aU;subst aU;cases ok<;>simp only at al<;>cases al
      ·refine⟨u,?_,aM⟩;cases d<;>first
        | (exfalso; exact xU _ bN)
        | simp[Instr.typeAssert,cy bN]
      ·refine⟨.tuple #[u,.bool true],?_,two _ _ _ aM⟩;cases d<;>first
        | (exfalso; exact xU _ bN)
        | simp[Instr.typeAssert,cy bN]
     ·rename_i aU;have aU:fJ≠t:=fun h=>by rw[h,Nat.beq_refl] at aU; cases aU
      cases ok<;>simp only at al<;>cases al;refine⟨.tuple #[zv,.bool false],?_,two _ _ _ kw⟩;cases d<;>first
       | (exfalso; exact xU _ bN)
       | simp[Instr.typeAssert,cy bN,qU,aU]
theorem afx (rel:cc R B w h μ) {aD:Operand->ae} {dL:Operand->Value} (c4:∀ x,aR w R h μ (aD x) (dL x)) {c:Call} {ty:TypeId} {r:n3} (ar:ti P h aD c=some r) :
  yZ P R B w h μ ((do let d <-resolve dL c ty; invoke d.target d.args:Sem Next).run P w) r:=by
 unfold ti at ar;split at ar
 ·rename_i b ai;have:=fun consts=>aeZ (P:=P) (b:=b) (ts:=c.argTypes) (ty:=ty) (consts:=consts) (args:=c.args.toList.map aD) (vs:=c.args.map dL) rel ar (by simp)
   (fun j x v am ax=>by
    rw[List.getElem?_map] at am;rw[Array.getElem?_map] at ax;cases ay:c.args[j]? with
    | none=>simp[ay] at ax
    | some o=>
     simp[ay] at am ax;subst am ax;exact c4 o)
  simp only[resolve,ai,Sem.run_bind,Sem.run_pure,Result.andThen_ok,invoke];exact this _
 ·rename_i f aI;split at ar
  ·rename_i g first ft jo
   have ax:=c4 f;rw[jo] at ax;cases tO:dL f with
   | func asZ fs cs=>
    rw[tO] at ax;cases ax with
    | fn _ _ _ _ _ h1 ag ap aJ=>
     split at ar
     ·rename_i fn xy;have CR:∀ (j:Nat) (x:ae) (v:Value),(first++c.args.toList.map aD++ft)[j]? = some x->(fs++c.args.map dL++cs)[j]? = some v->aR w R h μ x v:=by
       intro j x v am ku;by_cases oA:j<first.length
       ·rw[List.append_assoc,List.getElem?_append_left oA] at am;rw[Array.append_assoc,Array.getElem?_append_left (by omega)] at ku;exact ap j x v am ku
       ·by_cases oB:j<first.length+c.args.size
        ·rw[List.getElem?_append_left (by simp; omega),List.getElem?_append_right (by omega),List.getElem?_map] at am;rw[Array.getElem?_append_left (by simp; omega),Array.getElem?_append_right (by omega),Array.getElem?_map,h1] at ku;cases ay:c.args[j - first.length]? with
         | none=>simp[ay] at ku
         | some o=>
          simp[ay] at am ku;subst am ku;exact c4 o
        ·rw[List.getElem?_append_right (by simp; omega)] at am;rw[Array.getElem?_append_right (by simp; omega)] at ku;refine aJ _ x v am ?_;simpa [h1] using ku
      split at ar
      ·rename_i iR;simp only[Option.some.injEq] at ar; subst ar;refine⟨rfl,fs++c.args.map dL++cs,?_,by simp[h1,ag],CR⟩;simp[resolve,aI,tO,Deferred.ofValue,invoke,SQ xy iR.1 iR.2]
      ·split at ar
       ·rename_i sb;cases de:zs h (first++c.args.toList.map aD++ft) with
        | none=>rw[de] at ar; cases ar
        | some ar8=>
         rw[de] at ar;simp only[Option.map_some,Option.some.injEq] at ar; subst ar;obtain⟨v,aZ,b4⟩:=agK (P:=P) (vs:=fs++c.args.map dL++cs) rel xy sb de (by simp[h1,ag]) CR;rw[Array.append_assoc] at aZ;exact Good.mk (by simp[resolve,aI,tO,Deferred.ofValue,invoke,aZ]) (.refl _ _ _) rel b4
       ·cases ar
     ·cases ar
   | _=>rw[tO] at ax; cases ax
  ·cases ar
 ·rename_i x name al;split at ar
  ·rename_i t v0 aj;have ax:=c4 x;rw[aj] at ax;split at ar
   ·rename_i g hm;split at ar
    ·rename_i fn xy;split at ar
     ·rename_i iR;simp only[Option.some.injEq] at ar; subst ar;cases tO:dL x with
      | iface fJ u=>
       rw[tO] at ax;cases ax with
       | gg _ _ _ aM=>
        refine⟨rfl,#[u]++c.args.map dL,?_,by simp; omega,?_⟩
        ·have ajm:=al5 (P:=P) (w:=w) hm u;have aT:(#[Value.iface t u]++c.args.map dL)[0]? = some (Value.iface t u) :=by rw[Array.getElem?_append_left (by simp)]; rfl
         have g4:(c.args.map dL).extract 0 c.args.size=c.args.map dL:=by
          apply Array.ext';simp[List.take_of_length_le]
         simp[aT,g4,resolve,al,tO,invoke,callMethod,ajm,SQ xy iR.1 iR.2]
        ·intro j x v am ku;cases j with
         | zero=>
          rw[Array.getElem?_append_left (by simp)] at ku;simp at am ku; subst am ku; exact aM
         | succ j=>
          rw[List.getElem?_cons_succ] at am;rw[Array.getElem?_append_right (by simp)] at ku;exact KZ c4 c.args j x v am (by simpa using ku)
      | _=>rw[tO] at ax; cases ax
     ·cases ar
    ·cases ar
   ·cases ar
  ·cases ar
theorem Lu {aD:Operand->ae} {dL:Operand->Value} (c4:∀ x,aR w R h μ (aD x) (dL x)) (cH:Array (Nat × Operand)) :
  (cH.map fun (i,x)=>(i,dL x)).size=(cH.toList.map fun p=>(p.1,aD p.2)).length ∧
  ∀ (j:Nat) (p:Nat × ae) (bZ:Nat × Value),(cH.toList.map fun p=>(p.1,aD p.2))[j]? = some p->(cH.map fun (i,x)=>(i,dL x))[j]? = some bZ->bZ.1=p.1/\aR w R h μ p.2 bZ.2:=by
 refine⟨by simp,fun j p bZ am eo=>?_⟩;rw[List.getElem?_map] at am;rw[Array.getElem?_map] at eo;cases ay:cH[j]? with
 | none=>simp[ay] at eo
 | some o=>
  simp[ay] at am eo;subst am eo;exact⟨rfl,c4 o.2⟩
theorem OG (rel:cc R B w h μ) {aD:Operand->ae} {dL:Operand->Value} (c4:∀ x,aR w R h μ (aD x) (dL x)) (o:Oper) {r:n3} (ar:c1 P h aD o.op=some r) :
  yZ P R B w h μ ((execOp dL o).run P w) r:=by
 obtain⟨dst,op,type,pos,after,guard⟩:=o;have nI:∀ {x:Option ae} {m:Sem Value},(∀ c,x=some c->∃ v,m.run P w=.ok v w/\aR w R h μ c v)->x.map (fun y=>n3.val y h)=some r->
   yZ P R B w h μ ((do pure (.value (<-m)) :Sem Next).run P w) r:=by
  intro x m aj aC;cases kv:x with
  | none=>rw[kv] at aC; cases aC
  | some c=>
   rw[kv] at aC;simp only[Option.map_some,Option.some.injEq] at aC; subst aC;obtain⟨v,h1,ag⟩:=aj c kv;exact Good.mk (by simp[h1]) (.refl _ _ _) rel ag
 have D4:∀ {x:Option (ae × aQ)} {m:Sem Value},(∀ c h',x=some (c,h')->∃ v w' μ',m.run P w=.ok v w'/\dr w h μ w' h' μ'/\cc R B w' h' μ'/\aR w' R h' μ' c v)->x.map (fun y=>n3.val y.1 y.2)=some r->
   yZ P R B w h μ ((do pure (.value (<-m)) :Sem Next).run P w) r:=by
  intro x m aj aC;cases kv:x with
  | none=>rw[kv] at aC; cases aC
  | some c=>
   obtain⟨c,h'⟩:=c;rw[kv] at aC;simp only[Option.map_some,Option.some.injEq] at aC; subst aC;obtain⟨v,w',μ',h1,ag,ap,aJ⟩:=aj c h' kv;exact Good.mk (by simp[h1]) ag ap aJ
 cases op
 case move x=>
  simp only[c1,Option.some.injEq] at ar; subst ar;exact Good.mk (by simp[execOp]) (.refl _ _ _) rel (c4 x)
 case assign x=>
  simp only[c1,Option.some.injEq] at ar; subst ar;exact Good.mk (by simp[execOp]) (.refl _ _ _) rel (c4 x)
 case pick c a b=>
  simp only[c1] at ar;have kj:=c4 c;cases al:aD c<;>rw[al] at ar kj<;>simp only at ar<;>try (cases ar; done)
  simp only[Option.some.injEq] at ar; subst ar;cases ax:dL c<;>rw[ax] at kj<;>try (cases kj; done)
  cases kj;rename_i t;cases t
  ·exact Good.mk (v:=dL b) (by simp[execOp,ax,asBool]) (.refl _ _ _) rel (by simpa using c4 b)
  ·exact Good.mk (v:=dL a) (by simp[execOp,ax,asBool]) (.refl _ _ _) rel (by simpa using c4 a)
 case alloc t=>
  simp only[c1] at ar;cases aB:g9 P t with
  | none=>rw[aB] at ar; cases ar
  | some z=>
   rw[aB] at ar;simp only[Option.map_some,Option.some.injEq] at ar; subst ar;obtain⟨v,ax,aC⟩:=uX (P:=P) (w:=w) (R:=R) (h:=h) (μ:=μ) aB;obtain⟨bj,bz,a3⟩:=BQ rel (cs:=z) (vs:=v.cells) t aC.1 aC.2;exact Good.mk (by simp[execOp,Instr.alloc,ax,newVar,newRow]) bj bz (a3 0)
 case box t x=>
  simp only[c1] at ar;cases aB:(aD x).cells with
  | none=>rw[aB] at ar; cases ar
  | some z=>
   rw[aB] at ar;simp only[Option.map_some,Option.some.injEq] at ar; subst ar;obtain⟨ci,b6⟩:=B8 (c4 x) aB;obtain⟨bj,bz,a3⟩:=BQ rel (cs:=z) (vs:=(dL x).cells) t ci b6;exact Good.mk (by simp[execOp,Instr.box,newVar,newRow]) bj bz (a3 0)
 case build t parts=>
  obtain⟨ci,b6⟩:=Lu c4 parts;exact nI (fun c al=>aeX al ci b6) ar
 case buildSlice t len parts=>
  obtain⟨ci,b6⟩:=Lu c4 parts;exact D4 (fun c h' al=>aeW rel al ci b6) ar
 case load t a=>exact nI (fun c al=>XY rel al (c4 a)) ar
 case store t a x=>
  simp only[c1] at ar;cases cK:yD P h t (aD a) (aD x) with
  | none=>rw[cK] at ar; cases ar
  | some h'=>
   rw[cK] at ar;simp only[Option.map_some,Option.some.injEq] at ar; subst ar;obtain⟨w',h1,ag,ap⟩:=apt (P:=P) rel cK (c4 a) (c4 x);exact⟨undef,w',μ,.inr ⟨by simp[execOp,h1],rfl⟩,ag,ap,.bU [] #[] rfl (fun _ _ _ aN=>by simp at aN)⟩
 case nilCheck x=>
  simp only[c1] at ar;have ax:=c4 x;cases al:aD x<;>rw[al] at ar ax<;>simp only at ar<;>try (cases ar; done)
  all_goals
   simp only[Option.some.injEq] at ar; subst ar;cases aj:dL x<;>rw[aj] at ax<;>try (cases ax; done)
   rename_i y;refine Good.mk (v:=dL x) ?_ (.refl _ _ _) rel (by rw[aj]; exact ax);cases ax<;>simp[execOp,aj]
 case binOp op t x y axx=>exact nI (fun c al=>aeD al (c4 x) (c4 y)) ar
 case unOp op t x=>exact nI (fun c al=>ap7 al (c4 x)) ar
 case convert s d x=>
  simp only[c1] at ar;split at ar
  ·rename_i c al;simp only[Option.some.injEq] at ar; subst ar;obtain⟨v,w',h1,ag,ap,aJ⟩:=ae0 rel al (c4 x);exact Good.mk (by simp[execOp,h1]) ag ap aJ
  ·exact nI (fun c al=>af3 rel al (c4 x)) ar
 case makeInterface t x=>
  simp only[c1] at ar;cases aM:P.underlying t with
  | none=>rw[aM] at ar; cases ar
  | some d=>
   rw[aM] at ar;cases d<;>simp only at ar<;>try (cases ar; done)
   all_goals
    simp only[Option.some.injEq] at ar; subst ar;exact Good.mk (v:=.iface t (dL x)) (by simp[execOp,Instr.makeInterface,cy aM]) (.refl _ _ _) rel (.gg t _ _ (c4 x))
 case makeFunc fn first ft=>
  cases fn<;>simp only[c1] at ar<;>try (cases ar; done)
  simp only[Option.some.injEq] at ar; subst ar;exact Good.mk (by simp[execOp,Instr.makeFunc]) (.refl _ _ _) rel (.fn _ _ _ _ _ (by simp) (by simp) (KZ c4 first) (KZ c4 ft))
 case makeSlice t l c=>exact D4 (fun c' h' al=>al1 rel al (c4 l) (c4 c)) ar
 case slice t x cW aA cI=>exact nI (fun c al=>ao0 rel al (c4 x) (Lk c4 cW) (Lk c4 aA) (Lk c4 cI)) ar
 case fieldAddr s x f=>exact nI (fun c al=>agP al (c4 x)) ar
 case field t x f=>
  simp only[c1] at ar;split at ar
  ·rename_i cs fd aj aI;have ax:=c4 x;rw[aj] at ax;exact nI (fun c al=>agQ aI al ax) ar
  ·cases ar
 case indexAddr t x i=>exact nI (fun c al=>akx al (c4 x) (c4 i)) ar
 case index t x i=>exact nI (fun c al=>KD al (c4 x) (c4 i)) ar
 case extract x i=>
  simp only[c1] at ar;have ax:=c4 x;cases al:aD x<;>rw[al] at ar ax<;>simp only at ar<;>try (cases ar; done)
  rename_i vs;cases aj:dL x<;>rw[aj] at ax<;>try (cases ax; done)
  rename_i arr;cases ax with
  | bU _ _ au Ko=>
   refine nI (m:=Instr.extract (dL x) i) (fun c al=>?_) ar;have aP:i<arr.size:=by rw[au]; exact (List.getElem?_eq_some_iff.1 al).1
   exact⟨arr[i],by simp[Instr.extract,aj,aP],Ko i c _ al (by simp[aP])⟩
 case call c=>exact afx rel c4 ar
 case makeMap t r=>
  simp only[c1] at ar;split at ar
  ·rename_i k e aM aC;simp only[Option.some.injEq] at ar; subst ar;obtain⟨v,w',μ',h1,ag,ap,aJ⟩:=al0 (P:=P) (t:=t) (r:=r.map dL) rel ⟨_,_,aM⟩ (fun x aj=>by
    cases r with
    | none=>cases aj
    | some o=>
     simp only[Option.map_some,Option.some.injEq] at aj; subst aj;simp only at aC;cases aA:asInt (aD o) with
     | none=>rw[aA] at aC; cases aC
     | some n=>
      obtain⟨k,hk⟩:=qi aA (c4 o);exact⟨k,n,hk⟩)
   exact Good.mk (by simp[execOp,h1]) ag ap aJ
  ·cases ar
 case lookup t m k ok=>exact nI (fun c al=>alV rel al (c4 m) (c4 k)) ar
 case mapUpdate t m k x=>
  simp only[c1] at ar;cases cK:wd P h t (aD m) (aD k) (aD x) with
  | none=>rw[cK] at ar; cases ar
  | some h'=>
   rw[cK] at ar;simp only[Option.map_some,Option.some.injEq] at ar; subst ar;obtain⟨w',h1,ag,ap⟩:=X8 (P:=P) rel cK (c4 m) (c4 k) (c4 x);exact⟨undef,w',μ,.inr ⟨by simp[execOp,h1],rfl⟩,ag,ap,.bU [] #[] rfl (fun _ _ _ aN=>by simp at aN)⟩
 case insert t m k x=>
  simp only[c1] at ar;cases cK:wd P h t (aD m) (aD k) (aD x) with
  | none=>rw[cK] at ar; cases ar
  | some h'=>
   rw[cK] at ar;simp only[Option.map_some,Option.some.injEq] at ar; subst ar;obtain⟨w',h1,ag,ap⟩:=X8 (P:=P) rel cK (c4 m) (c4 k) (c4 x);exact⟨undef,w',μ,.inr ⟨by simp[execOp,h1],rfl⟩,ag,ap,.bU [] #[] rfl (fun _ _ _ aN=>by simp at aN)⟩
 case range t x=>exact D4 (fun c h' al=>an2 rel al (c4 x)) ar
 case next it isS=>
  cases isS with
  | false=>simp only[c1] at ar; cases ar
  | true=>exact D4 (fun c h' al=>by obtain⟨v,w',h1,ag,ap,aJ⟩:=ama (P:=P) (ty:=type) rel al (c4 it); exact⟨v,w',μ,h1,ag,ap,aJ⟩) ar
 case typeAssert x Pd t ok=>
  simp only[c1] at ar;split at ar
  ·rename_i z aB;exact nI (fun c al=>apC aB al (c4 x)) ar
  ·cases ar
 all_goals (simp only[c1] at ar; cases ar)
end
inductive qa where
 | normal
 | exit (id:Nat)
 | ret
def qa.out:qa->Exit
 | .normal=>.normal
 | .exit id=>.exit id
 | .ret=>.ret
def jH (ops:Array Oper) (ah:Nat->ae) (o:Oper) :Option Bool:=
 match o.guard with
 | none=>some true
 | some (j,yN)=>match (ops[j]?).bind (·.dst) with
  | none=>some false
  | some d=>match ah d with
   | .bool b=>some (b == yN)
   | .bad=>none
   | _=>some false
def gR (ah:Nat->ae) (dst:Option Tmp) (c:ae) :Nat->ae:=match dst with | some d=>b5 ah d c | none=>ah
def ol (N:Nat) (dst:Option Tmp) :Bool:=match dst with | some d=>decide (d<N) | none=>true
def yz (P:Program) (h:aQ) (ah:Nat->ae) :ResultVar->Option ae
 | .tmp t=>some (ah t)
 | .cell a t=>q0 P h t (ah a)
def uB (P:Program) (h:aQ) (ah:Nat->ae) :List ResultVar->Option (List ae)
 | []=>some []
 | r::mj=>match yz P h ah r,uB P h ah mj with
  | some v,some vs=>some (v::vs)
  | _,_=>none
def uN:List ae->ae
 | [v]=>v
 | vs=>.bU vs
def Eu (P:Program) (h:aQ) (ah:Nat->ae) (fn:Func) :Option ae:=(uB P h ah fn.results.toList).map uN
mutual
def ae.closed:ae->Bool
 | .aV cs=>bM cs
 | .bU cs=>bM cs
 | .cq cs _=>bM cs
 | .b0 _ es=>zn es
 | .fn _ a b=>bM a&&bM b
 | .gg _ v=>v.closed
 | .ptr .. | .ao .. | .mp _ | .it _=>false
 | _=>true
def bM:List ae->Bool
 | []=>true
 | c::cs=>c.closed&&bM cs
def zn:List (List ae)->Bool
 | []=>true
 | c::cs=>bM c&&zn cs
end
def e7 (w:World) (A:Nat->Prop) (c:ae) (v:Value) :Prop:=aR w A aQ.empty (fun _=>none) c v
structure wE (w w' : World) :Prop extends RowKit.Below w.heap.size w w' where
 drawn:w.drawn<=w'.drawn
def rC (G:Nat->ae) (w:World) (R:Nat->Prop) (h:aQ) (μ:cJ) :Prop:=∀ g,(G g).closed=true/\aR w R h μ (G g) (.pointer (some ⟨g,0,none⟩))
def rz (P:Program) (G:Nat->ae) (f:FuncId) (args:List ae) (h:aQ) (r:ae) (h' : aQ) :Prop:=
 ∀ (R:Nat->Prop) (B:Nat) (w:World) (μ:cJ) (vs:Array Value),cc R B w h μ->rC G w R h μ->vs.size=args.length->
  (∀ (j:Nat) (c:ae) (v:Value),args[j]? = some c->vs[j]? = some v->aR w R h μ c v)->
  Calls P f vs w fun e w'=>∃ v μ',e=.returned v/\dr w h μ w' h' μ'/\cc R B w' h' μ'/\aR w' R h' μ' r v
def bR (P:Program) (G:Nat->ae) (f:FuncId) (args:List ae) (r:ae) :Prop:=
 ∀ (w:World) (A:Nat->Prop) (vs:Array Value),(∀ g,e7 w A (G g) (.pointer (some ⟨g,0,none⟩)))->vs.size=args.length->
  (∀ (j:Nat) (c:ae) (v:Value),args[j]? = some c->vs[j]? = some v->e7 w A c v)->
  Calls P f vs w fun e w'=>∃ v,e=.returned v/\wE w w'/\e7 w' (fun k=>A k\/w.heap.size<=k) r v
def iI (P:Program) (G:Nat->ae) (f:FuncId) (args:List ae) (r:ae) :Prop:=
 ∀ (w:World) (A:Nat->Prop) (vs:Array Value),(∀ g,e7 w A (G g) (.pointer (some ⟨g,0,none⟩)))->vs.size=args.length->
  (∀ (j:Nat) (c:ae) (v:Value),args[j]? = some c->vs[j]? = some v->e7 w A c v)->
  Calls P f vs w fun e w'=>∃ v,e=.returned v/\wE w w'/\e7 w' (fun k=>w.heap.size<=k) r v
inductive fy (h:aQ) :ae->ae->Prop
 | same (c:ae) (al:c.closed=true) :fy h c c
 | aV (cs cs' : List ae) (au:cs'.length=cs.length) (ax:∀ (j:Nat) (c c' : ae),cs[j]? = some c->cs'[j]? = some c'->fy h c c') :fy h (.aV cs) (.aV cs')
 | bU (cs cs' : List ae) (au:cs'.length=cs.length) (ax:∀ (j:Nat) (c c' : ae),cs[j]? = some c->cs'[j]? = some c'->fy h c c') :fy h (.bU cs) (.bU cs')
 | ao (z b off len cap sz:Nat) (cs:List ae) (es:List (List ae)) (ai:h.f b=.cells sz cs) (au:es.length=len) (aB:∀ e∈es,e.length=z)
   (eA:off+len*z<=cs.length)
   (ax:∀ (i j:Nat) (e:List ae) (c c' : ae),es[i]? = some e->e[j]? = some c'->cs[off+(i*z+j)]? = some c->fy h c c') :fy h (.ao z b off len cap sz) (.b0 z es)
 | p0 (z b off cap sz:Nat) :fy h (.ao z b off 0 cap sz) (.b0 z [])
 | ptr (b off sz:Nat) (cs cs' : List ae) (ai:h.f b=.cells sz cs) (au:cs'.length=cs.length) (ax:∀ (j:Nat) (c c' : ae),cs[j]? = some c->cs'[j]? = some c'->fy h c c') :fy h (.ptr b off sz) (.cq cs' off)
mutual
def ae.flat:ae->Bool
 | .aV cs=>kM cs
 | .bU cs=>kM cs
 | .gg _ v=>v.flat
 | .bool _ | .int .. | .str _ | .iD | .aX | .g6 | .ie | .iC=>true
 | _=>false
def kM:List ae->Bool
 | []=>true
 | c::cs=>c.flat&&kM cs
end
inductive BI where
 | pure | new | fS
def mf (P:Program) (aD:Operand->ae) :Op->Option (List ae × (Nat->ae))
 | .alloc t=>(g9 P t).map fun z=>(z,fun b=>.ptr b 0 z.length)
 | .box _ x=>(aD x).cells.map fun cs=>(cs,fun b=>.ptr b 0 cs.length)
 | .buildSlice t len parts=>match hQ P t with
  | some e=>match cz P e,g9 P e with
   | some z,some zero=>if zero.length=z/\len*z<=16777216 then
     (gZ (fun i=>some (i*z,z)) (dm zero len) (parts.toList.map fun p=>(p.1,aD p.2))).map fun cs=>(cs,fun b=>.ao z b 0 len len (len*z))
    else none
   | _,_=>none
  | none=>none
 | .makeSlice t l c=>match hQ P t,asInt (aD l),asInt (aD c) with
  | some e,some l,some c=>match cz P e,iO P e,g9 P e with
   | some z,some by_,some zero=>
    if zero.length=z/\0<=l/\l<=c/\c<9223372036854775808/\by_*c<=cT then
     some (dm zero c.toNat,fun b=>.ao z b 0 l.toNat c.toNat (c.toNat*z))
    else none
   | _,_,_=>none
  | _,_,_=>none
 | _=>none
def i1 (ops:Array Oper) (t:Nat) :Option Nat:=(List.range ops.size).find? fun i=>match ops[i]? with | some o=>o.dst == some t | none=>false
def lT (ops:Array Oper) (pre:Nat->Nat->Bool) (val:Nat->ae) (ah:Nat->ae) (i:Nat) (o:Oper) :Nat->ae:=fun t=>
 if (o.looksAt ops).contains t then
  match i1 ops t with
  | some j=>if pre i j then val j else ah t
  | none=>ah t
 else .bad
structure rA (ops:Array Oper) (pre:Nat->Nat->Bool) :Prop where
 zD:∀ (i:Nat) (o:Oper) (e:Edge),ops[i]? = some o->e∈o.after->Region.binds .any e=true->e.on<i
 chain:∀ (i:Nat) (o:Oper) (j:Nat),ops[i]? = some o->pre i j=true->∃ e∈o.after,Region.binds .any e=true/\(e.on=j\/pre e.on j=true)
 one:∀ (i:Nat) (o:Oper) (t:Tmp),ops[i]? = some o->o.dst=some t->i1 ops t=some i
 acc:∀ (i:Nat) (o:Oper) (t:Tmp) (j:Nat),ops[i]? = some o->t∈o.looksAt ops->i1 ops t=some j->pre i j=true\/pre j i=true\/j=i
 aw5:Region.noSelect ops=true
def uw (h:aQ) (l:List (List ae)) :aQ:=l.foldl (fun h cs=>h.push (.cells cs.length cs)) h
def mZ (h h' : aQ) :Prop:=∃ l,h'=uw h l
theorem YX:∀ (l:List (List ae)) (h:aQ),(uw h l).n=h.n+l.length
 | [],h=>rfl
 | c::l,h=>by
  have:=YX l (h.push (.cells c.length c));simp only[uw,List.foldl_cons,List.length_cons] at this ⊢;rw[this];simp only[dR,e3]; omega
theorem YY:∀ (l:List (List ae)) (h:aQ) (b:Nat),b<h.n->(uw h l).f b=h.f b
 | [],h,b,_=>rfl
 | c::l,h,b,ai=>by
  have:=YY l (h.push (.cells c.length c)) b (by simp only[dR,e3]; omega);simp only[uw,List.foldl_cons] at this ⊢;rw[this];simp only[dR,e3];exact cg _ _ _ _ (by omega)
theorem YW:∀ (l:List (List ae)) (h:aQ),(∀ b,h.n<=b->h.f b=.none)->∀ b,(uw h l).n<=b->(uw h l).f b=.none
 | [],h,aI=>aI
 | c::l,h,aI=>by
  refine YW l (h.push (.cells c.length c)) (fun b ai=>?_);simp only[dR,e3] at ai ⊢;rw[cg _ _ _ _ (by omega)];exact aI b (by omega)
theorem mZ.n {h h' : aQ} (g:mZ h h') :h.n<=h'.n:=by obtain⟨l,rfl⟩:=g; rw[YX]; omega
theorem mZ.same {h h' : aQ} (g:mZ h h') (b:Nat) (ai:b<h.n) :h'.f b=h.f b:=by obtain⟨l,rfl⟩:=g; exact YY l h b ai
theorem mZ.fresh {h h' : aQ} (g:mZ h h') (aI:∀ b,h.n<=b->h.f b=.none) :∀ b,h'.n<=b->h'.f b=.none:=by obtain⟨l,rfl⟩:=g; exact YW l h aI
inductive pa (h ag:aQ) :ae->ae->Prop
 | same (c:ae) :pa h ag c c
 | aV (cs cs' : List ae) (au:cs'.length=cs.length) (ax:∀ (j:Nat) (c c' : ae),cs[j]? = some c->cs'[j]? = some c'->pa h ag c c') :pa h ag (.aV cs) (.aV cs')
 | ao (z b off len cap sz:Nat) (cs:List ae) (es:List (List ae)) (ai:h.f b=.cells sz cs) (bN:ag.f b=.dead) (au:es.length=len) (aB:∀ e∈es,e.length=z)
   (eA:off+len*z<=cs.length)
   (ax:∀ (i j:Nat) (e:List ae) (c c' : ae),es[i]? = some e->e[j]? = some c'->cs[off+(i*z+j)]? = some c->pa h ag c c') :pa h ag (.ao z b off len cap sz) (.b0 z es)
 | p0 (z b off cap sz:Nat) :pa h ag (.ao z b off 0 cap sz) (.b0 z [])
structure pb (h ag:aQ) :Prop where
 n:ag.n=h.n
 blk:∀ b,ag.f b=h.f b\/∃ sz cs,h.f b=.cells sz cs/\(ag.f b=.dead\/∃ ho,ag.f b=.cells sz ho/\ho.length=cs.length/\∀ (j:Nat) (c dB:ae),cs[j]? = some c->ho[j]? = some dB->pa h ag c dB)
inductive J where
 | code (c:Code) (N:Nat) (ah:Nat->ae) (h:aQ) (e:qa) (b7:Nat->ae) (h' : aQ)
 | ops (all:Array Oper) (l:List Oper) (N:Nat) (ah:Nat->ae) (h:aQ) (b7:Nat->ae) (h' : aQ)
 | op (op:Op) (ah:Nat->ae) (h:aQ) (v:ae) (h' : aQ)
 | call (f:FuncId) (args:List ae) (h:aQ) (r:ae) (h' : aQ)
def w5 (pre:Nat->Nat->Bool) (m:Nat) (ar:Nat->Nat) (i k:Nat) :Prop:=k<=m/\(∀ q,q<m->pre i (ar q)=true->q<k)/\∀ q,q<m->pre (ar q) i=true->k<=q
inductive dj (P:Program) (G:Nat->ae) :J->Prop where
 | skip (N ah h) :dj P G (.code .skip N ah h .normal ah h)
 | label (l N ah h) :dj P G (.code (.label l) N ah h .normal ah h)
 | ret (N ah h) :dj P G (.code .ret N ah h .ret ah h)
 | exit (id N ah h) :dj P G (.code (.exit id) N ah h (.exit id) ah h)
 | acr {a b N ah h il h1 e b7 h'}:dj P G (.code a N ah h .normal il h1)->dj P G (.code b N il h1 e b7 h')->dj P G (.code (.seq a b) N ah h e b7 h')
 | Oy {a b N ah h e b7 h'}:dj P G (.code a N ah h e b7 h')->e≠.normal->dj P G (.code (.seq a b) N ah h e b7 h')
 | cond {c x y N ah h b e b7 h'}:cY G ah c=.bool b->dj P G (.code (if b then x else y) N ah h e b7 h')->dj P G (.code (.cond c x y) N ah h e b7 h')
 | BW {id c N ah h e b7 h'}:dj P G (.code c N ah h e b7 h')->e≠.exit id->dj P G (.code (.block id c) N ah h e b7 h')
 | P0 {id c N ah h b7 h'}:dj P G (.code c N ah h (.exit id) b7 h')->dj P G (.code (.block id c) N ah h .normal b7 h')
 | x9 {c N ah h il h1 e b7 h'}:dj P G (.code c N ah h .normal il h1)->dj P G (.code (.loop c) N il h1 e b7 h')->dj P G (.code (.loop c) N ah h e b7 h')
 | K0 {c N ah h e b7 h'}:dj P G (.code c N ah h e b7 h')->e≠.normal->dj P G (.code (.loop c) N ah h e b7 h')
 | scope {c N ah h e b7 h'}:dj P G (.code c N ah h e b7 h')->dj P G (.code (.scope c) N ah h e b7 h')
 | region {id ops N ah h b7 h'}:dj P G (.ops ops ops.toList N ah h b7 h')->dj P G (.code (.region id ops false) N ah h .normal b7 h')
 | draw {id ops N ah h b7 h'} (pre:Nat->Nat->Bool) (val:Nat->ae) (W:Nat->Bool) (cls:Nat->BI) (m:Nat) (ar:Nat->Nat) (fp qd:Nat->aQ) (gb:Nat->Nat) (cells:Nat->List ae)
   (gS:rA ops pre)
   (ox:∀ (i:Nat) (o:Oper),ops[i]? = some o->ol N o.dst=true)
   (aT:mZ h (fp 0)) (hm:h'=fp m) (DE:b7=fun t=>match i1 ops t with | some i=>val i | none=>ah t)
   (vC:∀ (i:Nat) (o:Oper),ops[i]? = some o->W i=true->cls i=.fS->∃ q,q<m/\ar q=i)
   (Aa:∀ q,q<m->∃ o,ops[ar q]? = some o/\W (ar q)=true/\cls (ar q)=.fS)
   (kn:∀ q fe,q<m->fe<m->q<fe->pre (ar fe) (ar q)=true)
   (eV:∀ q fe,q<m->fe<m->ar q=ar fe->q=fe)
   (ua:∀ (i:Nat) (o:Oper),ops[i]? = some o->jH ops (lT ops pre val ah i o) o=some (W i))
   (Dx:∀ (i:Nat) (o:Oper),ops[i]? = some o->W i=false->val i=gT)
   (Dp:∀ (i:Nat) (o:Oper),ops[i]? = some o->W i=true->cls i=.pure->∀ k,w5 pre m ar i k->c1 P (fp k) (cY G (lT ops pre val ah i o)) o.op=some (.val (val i) (fp k)))
   (l5:∀ (i:Nat) (o:Oper),ops[i]? = some o->W i=true->cls i=.new->∃ mk,mf P (cY G (lT ops pre val ah i o)) o.op=some (cells i,mk)/\val i=mk (gb i)/\h.n<=gb i ∧
    ∀ k,w5 pre m ar i k->(fp k).f (gb i)=.cells (cells i).length (cells i))
   (CW:∀ (i j:Nat) (o c0:Oper),ops[i]? = some o->ops[j]? = some c0->W i=true->W j=true->cls i=.new->cls j=.new->gb i=gb j->i=j)
   (CX:∀ (i:Nat) (o:Oper) (q:Nat),ops[i]? = some o->W i=true->cls i=.new->q<m->gb i<(fp q).n\/(qd q).n<=gb i)
   (oy:∀ q,q<m->mZ (qd q) (fp (q+1)))
   (ln:∀ (q:Nat) (o:Oper),q<m->ops[ar q]? = some o->dj P G (.op o.op (lT ops pre val ah (ar q) o) (fp q) (val (ar q)) (qd q))) :
   dj P G (.code (.region id ops true) N ah h .normal b7 h')
 | Yu {all N ah h}:dj P G (.ops all [] N ah h ah h)
 | Yw {all o l N ah h b7 h'}:jH all ah o=some false->ol N o.dst=true->dj P G (.ops all l N (gR ah o.dst gT) h b7 h')->dj P G (.ops all (o::l) N ah h b7 h')
 | Yv {all o l N ah h v h1 b7 h'}:jH all ah o=some true->ol N o.dst=true->dj P G (.op o.op ah h v h1)->dj P G (.ops all l N (gR ah o.dst v) h1 b7 h')->dj P G (.ops all (o::l) N ah h b7 h')
 | D8 {op ah h v h'}:c1 P h (cY G ah) op=some (.val v h')->dj P G (.op op ah h v h')
 | yl {op ah h f args h1 v h'}:c1 P h (cY G ah) op=some (.call f args h1)->dj P G (.call f args h1 v h')->dj P G (.op op ah h v h')
 | ET {op ah h v h' ef ag}:dj P G (.op op ah h v h')->pb h' ag->pa h' ag v ef->dj P G (.op op ah h ef ag)
 | inline {f fn c args h e b7 h' r}:P.funcs[f]? = some fn->fn.body=some c->
   dj P G (.code c (args.length+(fn.ntmps - args.length)) (fun t=>args.getD t gT) h e b7 h')->(e=.normal\/e=.ret)->Eu P h' b7 fn=some r->dj P G (.call f args h r h')
 | pure {f args h r}:bR P G f args r->bM args=true->dj P G (.call f args h r h)
 | LH {f args hP h r}:bR P G f hP r->hP.length=args.length->(∀ (j:Nat) (c c' : ae),args[j]? = some c->hP[j]? = some c'->fy h c c')->r.flat=true->dj P G (.call f args h r h)
 | ext {f args h r h'}:rz P G f args h r h'->dj P G (.call f args h r h')
 | LI {f args hP h r}:iI P G f hP r->hP.length=args.length->(∀ (j:Nat) (c c' : ae),args[j]? = some c->hP[j]? = some c'->fy h c c')->dj P G (.call f args h r h)
section
variable {P:Program} {G:Nat->ae}
structure lM (N:Nat) (w:World) (R:Nat->Prop) (h:aQ) (μ:cJ) (ah:Nat->ae) (a:Act) :Prop where
 size:a.tmps.size=N
 defers:a.defers=[]
 val:∀ t,aR w R h μ (ah t) (a.tmps.getD t undef)
theorem rC.ext {w w' : World} {R:Nat->Prop} {h h' : aQ} {μ μ' : cJ} (g:rC G w R h μ) (e:dr w h μ w' h' μ') :rC G w' R h' μ':=fun i=>⟨(g i).1,(g i).2.ext e⟩
theorem lM.ext {N:Nat} {w w' : World} {R:Nat->Prop} {h h' : aQ} {μ μ' : cJ} {ah:Nat->ae} {a:Act} (s:lM N w R h μ ah a) (e:dr w h μ w' h' μ') :lM N w' R h' μ' ah a:=
 ⟨s.size,s.defers,fun t=>(s.val t).ext e⟩
theorem lM.cY {N:Nat} {w:World} {R:Nat->Prop} {h:aQ} {μ:cJ} {ah:Nat->ae} {a:Act} (s:lM N w R h μ ah a) (g:rC G w R h μ) (x:Operand) :aR w R h μ (cY G ah x) (a.eval x) :=by
 cases x with
 | tmp t=>exact s.val t
 | const v=>exact aR.ut v
 | global i=>exact (g i).2
 | func f=>exact .fn f [] [] #[] #[] rfl rfl (fun _ _ _ aN=>by simp at aN) (fun _ _ _ aN=>by simp at aN)
theorem OZ {w:World} {R:Nat->Prop} {h:aQ} {μ:cJ}:aR w R h μ gT undef:=.bU [] #[] rfl (fun _ _ _ aN=>by simp at aN)
theorem lM.put {N:Nat} {w:World} {R:Nat->Prop} {h:aQ} {μ:cJ} {ah:Nat->ae} {a:Act} (s:lM N w R h μ ah a) {dst:Option Tmp} (bN:ol N dst=true) {c:ae} {v:Value} (ax:aR w R h μ c v) :
  lM N w R h μ (gR ah dst c) (a.put dst v) :=by
 cases dst with
 | none=>exact s
 | some d=>
  have aP:d<a.tmps.size:=by rw[s.size]; simpa [ol] using bN
  refine⟨by simp[Act.put,s.size],s.defers,fun t=>?_⟩;simp only[gR,Act.put];by_cases aU:t=d
  ·subst aU;rw[i7];simp[aP];exact ax
  ·rw[cg _ _ _ _ aU];have:=s.val t;simpa [Array.getElem?_setIfInBounds_ne (Ne.symm aU)] using this
theorem O7 {w:World} {R:Nat->Prop} {h:aQ} {μ:cJ} {ops:Array Oper} {ah:Nat->ae} {tmps:Array Value} {o:Oper} {b:Bool} (bB:jH ops ah o=some b)
  (ax:∀ d,(∃ j yN,o.guard=some (j,yN)/\(ops[j]?).bind (·.dst)=some d)->aR w R h μ (ah d) (tmps.getD d undef)) :Region.wanted o (yielded ops tmps)=b:=by
 unfold jH at bB;unfold Region.wanted;cases az:o.guard with
 | none=>rw[az] at bB; simpa using bB
 | some nD=>
  obtain⟨j,yN⟩:=nD;rw[az] at bB;simp only at bB ⊢;unfold yielded;cases bN:(ops[j]?).bind (·.dst) with
  | none=>
   rw[bN] at bB;simp only[Option.some.injEq] at bB;subst bB;simp
  | some d=>
   rw[bN] at bB;have xX:=ax d ⟨j,yN,az,bN⟩;simp only[Option.bind_some] at bB ⊢;cases aU:tmps[d]? with
   | none=>
    have aM:tmps.getD d undef=undef:=by simp[Array.getD_eq_getD_getElem?,aU]
    rw[aM] at xX;cases al:ah d<;>rw[al] at bB xX<;>simp at bB<;>try (subst bB; simp)
    all_goals cases xX
   | some v=>
    have aM:tmps.getD d undef=v:=by simp[Array.getD_eq_getD_getElem?,aU]
    rw[aM] at xX;cases al:ah d<;>rw[al] at bB xX<;>simp at bB
    all_goals (cases xX<;>(subst bB; simp))
def nY (P:Program) (n:Nat) (c:Code) (Q:Exit->Act->World->Prop) (a:Act) (w:World) :Prop:=
 match c with
 | .loop c'=>Code.rounds P c' Q n a w
 | c=>c.wp P Q a w
theorem nY.wp {n:Nat} {c:Code} {Q:Exit->Act->World->Prop} {a:Act} {w:World} (h:nY P n c Q a w) :c.wp P Q a w:=by
 cases c<;>first | exact wp_loop_rounds n h | exact h
def u1 (P:Program) (G:Nat->ae) :J->Prop
 | .code c N ah h e b7 h'=>∃ n,∀ (R:Nat->Prop) (B:Nat) (w:World) (μ:cJ) (a:Act) (Q:Exit->Act->World->Prop),cc R B w h μ->rC G w R h μ->lM N w R h μ ah a->
   (∀ eL w' μ',dr w h μ w' h' μ'->cc R B w' h' μ'->lM N w' R h' μ' b7 eL->Q e.out eL w')->nY P n c Q a w
 | .ops all l N ah h b7 h'=>∀ (R:Nat->Prop) (B:Nat) (w:World) (μ:cJ) (a:Act) (Q:Exit->Act->World->Prop),cc R B w h μ->rC G w R h μ->lM N w R h μ ah a->
   (∀ eL w' μ',dr w h μ w' h' μ'->cc R B w' h' μ'->lM N w' R h' μ' b7 eL->Q .normal eL w')->wpList P all Q l a w
 | .op op ah h v h'=>∀ (R:Nat->Prop) (B:Nat) (w:World) (μ:cJ) (a:Act) (o:Oper) (K:Act->World->Prop) (Q:Exit->Act->World->Prop),o.op=op->cc R B w h μ->rC G w R h μ->
   (∀ x,aR w R h μ (cY G ah x) (a.eval x))->(∀ bf w' μ',dr w h μ w' h' μ'->cc R B w' h' μ'->aR w' R h' μ' v bf->K (a.put o.dst bf) w')->o.wp P a w K Q
 | .call f args h r h'=>rz P G f args h r h'
theorem aop {N:Nat} {w:World} {R:Nat->Prop} {B:Nat} {h:aQ} {μ:cJ} {ah:Nat->ae} {a:Act} (rel:cc R B w h μ) (s:lM N w R h μ ah a) {fn:Func} {r:ae} (aC:Eu P h ah fn=some r) :
  ∃ v,(results fn a.tmps).run P w=.ok v w/\aR w R h μ r v:=by
 have one:∀ (x:ResultVar) (c:ae),yz P h ah x=some c->∃ v,(∀ F:ResultVar->Sem Value,(∀ t,F (.tmp t)=pure (a.tmps.getD t undef))->(∀ p t,F (.cell p t)=(do loadVar t (<-asAddr (a.tmps.getD p undef))))->(F x).run P w=.ok v w)/\aR w R h μ c v:=by
  intro x c aj;cases x with
  | tmp t=>
   simp only[yz,Option.some.injEq] at aj; subst aj;exact⟨_,fun F h1 _=>by rw[h1]; rfl,s.val t⟩
  | cell p t=>
   simp only[yz] at aj;obtain⟨v,h1,ag⟩:=XY (P:=P) rel aj (s.val p);refine⟨v,fun F _ vp=>?_,ag⟩;rw[vp];cases aE:a.tmps.getD p undef with
   | pointer Pt=>
    cases Pt with
    | none=>rw[aE] at h1; simp[Instr.loadAt,Instr.sureAddr] at h1
    | some Pt=>rw[aE] at h1; simpa [Instr.loadAt,Instr.sureAddr,asAddr,aE] using h1
   | _=>rw[aE] at h1; simp[Instr.loadAt,Instr.sureAddr] at h1
 have all:∀ (l:List ResultVar) (cs:List ae),uB P h ah l=some cs->∃ vs:List Value,(∀ F:ResultVar->Sem Value,(∀ t,F (.tmp t)=pure (a.tmps.getD t undef))->(∀ p t,F (.cell p t)=(do loadVar t (<-asAddr (a.tmps.getD p undef))))->(l.mapM F).run P w=.ok vs w) ∧
   vs.length=cs.length/\∀ (j:Nat) (c:ae) (v:Value),cs[j]? = some c->vs[j]? = some v->aR w R h μ c v:=by
  intro l
  induction l with
  | nil=>intro cs al; simp only[uB,Option.some.injEq] at al; subst al; exact⟨[],fun F _ _=>by simp,rfl,fun _ _ _ aN=>by simp at aN⟩
  | cons x l aL=>
   intro cs al;unfold uB at al;split at al
   ·rename_i c cs' aj au;simp only[Option.some.injEq] at al; subst al;obtain⟨v,h1,ag⟩:=one x c aj;obtain⟨vs,ap,aJ,bd⟩:=aL cs' au;refine⟨v::vs,fun F ci b6=>by simp only[List.mapM_cons,Sem.run_bind,h1 F ci b6,Result.andThen_ok,ap F ci b6,Sem.run_pure],by simp[aJ],fun j c' bf am ax=>?_⟩;cases j with
    | zero=>simp at am ax; subst am ax; exact ag
    | succ j=>exact bd j c' bf (by simpa using am) (by simpa using ax)
   ·cases al
 unfold Eu at aC;cases au:uB P h ah fn.results.toList with
 | none=>rw[au] at aC; cases aC
 | some cs=>
  rw[au] at aC;simp only[Option.map_some,Option.some.injEq] at aC; subst aC;obtain⟨vs,h1,ag,ap⟩:=all _ _ au;have hv:(results fn a.tmps).run P w=.ok (if aN:vs.toArray.size=1 then vs.toArray[0] else .tuple vs.toArray) w:=by
   unfold results;rw[Array.mapM_eq_mapM_toList];simp only[Sem.run_bind,Sem.run_map];rw[h1 _ (fun _=>rfl) (fun _ _=>rfl)];simp
  refine⟨_,hv,?_⟩
  match cs,vs,ag,ap with
  | [],[],_,_=>exact .bU [] #[] rfl (fun _ _ _ aN=>by simp at aN)
  | [c],[v],_,ap=>exact ap 0 c v rfl rfl
  | c::c'::cs,v::bf::vs,ag,ap=>
   simp only[List.size_toArray,List.length_cons];rw[dif_neg (by omega)];exact .bU _ _ (by simpa using ag) (fun j x y am aK=>ap j x y am (by simpa using aK))
theorem u9 {w:World} {R:Nat->Prop} {h:aQ} {μ:cJ} {c:ae} {v:Value} (ax:aR w R h μ c v) :c.closed=true->e7 w (fun k=>R k/\¬ kG h μ k) c v:=by
 have au:∀ (cs:List ae),bM cs=true->∀ (j:Nat) (c:ae),cs[j]? = some c->c.closed=true:=by
  intro cs
  induction cs with
  | nil=>intro _ j c am; simp at am
  | cons x cs aL=>
   intro al j c am;simp only[bM,Bool.and_eq_true] at al;cases j with
   | zero=>simp at am; subst am; exact al.1
   | succ j=>exact aL al.2 j c (by simpa using am)
 have Ak:∀ (es:List (List ae)),zn es=true->∀ (i:Nat) (e:List ae),es[i]? = some e->bM e=true:=by
  intro es
  induction es with
  | nil=>intro _ j c am; simp at am
  | cons x cs aL=>
   intro al j c am;simp only[zn,Bool.and_eq_true] at al;cases j with
   | zero=>simp at am; subst am; exact al.1
   | succ j=>exact aL al.2 j c (by simpa using am)
 have cell:∀ b o v,Cell w R h μ b o v->Cell w (fun k=>R k/\¬ kG h μ k) aQ.empty (fun _=>none) b o v:=fun b o v al=>
  ⟨al.here,al.one,⟨al.ro,al.free⟩,fun ⟨b,m,h1,ag,ap⟩=>by cases ag⟩
 unfold e7
 induction ax with
 | bool b=>exact fun _=>.bool b
 | int k n=>exact fun _=>.int k n
 | str bs=>exact fun _=>.str bs
 | iD=>exact fun _=>.iD
 | aX=>exact fun _=>.aX
 | g6=>exact fun _=>.g6
 | ie=>exact fun _=>.ie
 | iC=>exact fun _=>.iC
 | aV cs vs bA h1 ax aL=>exact fun al=>.aV cs vs bA h1 fun j c v am e2=>aL j c v am e2 (au cs (by simpa [ae.closed] using al) j c am)
 | bU cs vs bA ax aL=>exact fun al=>.bU cs vs bA fun j c v am e2=>aL j c v am e2 (au cs (by simpa [ae.closed] using al) j c am)
 | ptr=>exact fun al=>by simp[ae.closed] at al
 | lC=>exact fun al=>by simp[ae.closed] at al
 | cq cs off blk o dS al ax aL=>exact fun ez=>.cq cs off blk o dS (fun j am=>cell _ _ _ (al j am)) fun j c am=>aL j c am (au cs (by simpa [ae.closed] using ez) j c am)
 | ao=>exact fun al=>by simp[ae.closed] at al
 | fZ=>exact fun al=>by simp[ae.closed] at al
 | hi=>exact fun al=>by simp[ae.closed] at al
 | b0 z es blk off cap dS c6 aB al ax aL=>exact fun ez=>.b0 z es blk off cap dS c6 aB (fun i j aA am=>cell _ _ _ (al i j aA am)) fun i e aw j c am=>aL i e aw j c am (au e (Ak es (by simpa [ae.closed] using ez) i e aw) j c am)
 | fo z a cap=>exact fun _=>.fo z a cap
 | fn f first ft fs cs aI al h1 ag dY k0=>
  intro ez;simp only[ae.closed,Bool.and_eq_true] at ez;exact .fn f first ft fs cs aI al (fun j c v am e2=>dY j c v am e2 (au _ ez.1 j c am)) fun j c v am e2=>k0 j c v am e2 (au _ ez.2 j c am)
 | mp=>exact fun al=>by simp[ae.closed] at al
 | it=>exact fun al=>by simp[ae.closed] at al
 | gg t c v ax aL=>exact fun ez=>.gg t c v (aL (by simpa [ae.closed] using ez))
 | la l=>exact fun _=>.la l
 | bad v=>exact fun _=>.bad v
theorem zo {cs:List ae} (al:bM cs=true) :∀ (j:Nat) (c:ae),cs[j]? = some c->c.closed=true:=by
 induction cs with
 | nil=>intro j c am; simp at am
 | cons x cs aL=>
  intro j c am;simp only[bM,Bool.and_eq_true] at al;cases j with
  | zero=>simp at am; subst am; exact al.1
  | succ j=>exact aL al.2 j c (by simpa using am)
theorem e7.up {w:World} {A:Nat->Prop} {R:Nat->Prop} {h:aQ} {μ:cJ} {c:ae} {v:Value} (ax:e7 w A c v) (c2:∀ k,k<w.heap.size->A k->R k/\¬ kG h μ k) :aR w R h μ c v:=by
 have cell:∀ b o v,Cell w A aQ.empty (fun _=>none) b o v->Cell w R h μ b o v:=fun b o v al=>
  have ai:b<w.heap.size:=World.block_lt_of_cell? _ _ al.here
  ⟨al.here,al.one,(c2 b ai al.ro).1,(c2 b ai al.ro).2⟩
 unfold e7 at ax
 induction ax with
 | bool b=>exact .bool b
 | int k n=>exact .int k n
 | str bs=>exact .str bs
 | iD=>exact .iD
 | aX=>exact .aX
 | g6=>exact .g6
 | ie=>exact .ie
 | iC=>exact .iC
 | aV cs vs bA h1 ax aL=>exact .aV cs vs bA h1 aL
 | bU cs vs bA ax aL=>exact .bU cs vs bA aL
 | ptr b off sz cs m ai hm=>cases hm
 | lC b off sz a az=>rcases az with az | ⟨n,cs,az,_⟩<;>cases az
 | cq cs off blk o dS al ax aL=>exact .cq cs off blk o dS (fun j am=>cell _ _ _ (al j am)) aL
 | ao z b off len cap sz cap' cs m ai hm=>cases hm
 | fZ z b off len cap sz cap' a au al az=>rcases az with az | ⟨n,cs,az,_⟩<;>cases az
 | hi z b off sz a cs m ai hm=>cases hm
 | b0 z es blk off cap dS c6 aB al ax aL=>exact .b0 z es blk off cap dS c6 aB (fun i j aA am=>cell _ _ _ (al i j aA am)) aL
 | fo z a cap=>exact .fo z a cap
 | fn f first ft fs cs aI al h1 ag dY k0=>exact .fn f first ft fs cs aI al dY k0
 | mp b m ai hm=>cases hm
 | it b m ai hm=>cases hm
 | gg t c v ax aL=>exact .gg t c v aL
 | la l=>exact .la l
 | bad v=>exact .bad v
theorem YC {R:Nat->Prop} {B:Nat} {w:World} {h:aQ} {μ:cJ} (rel:cc R B w h μ) {k:Nat} (ay:kG h μ k) :k<w.heap.size:=by
 obtain⟨b,m,h1,ag,rfl⟩:=ay;exact rel.lt h1 ag
theorem Bm {R:Nat->Prop} {B:Nat} {w w' : World} {h:aQ} {μ:cJ} (rel:cc R B w h μ) (ai:wE w w') :dr w h μ w' h μ/\cc R B w' h μ:=by
 have e:dr w h μ w' h μ:=⟨⟨ai.os,ai.tape,ai.output,ai.size,fun k hk _=>ai.block k hk,fun _ ay=>.inl ay,fun b sz cs m h1 ag=>.inl ⟨cs,h1,ag⟩,fun _ _ az=>az,fun _ _ _ h1 ag=>⟨h1,ag⟩,Nat.le_refl _,ai.drawn⟩,fun _ _ hm=>hm⟩
 refine⟨e,fun b m hm=>?_,rel.inj,rel.base,rel.fresh,rel.up,Nat.le_trans rel.size ai.size,rel.j6⟩;cases au:live (h.f b) with
 | false=>cases al:h.f b<;>first | trivial | (rw[al] at au; cases au)
 | true=>exact (rel.blk b m hm).ext e.toExt0 (ai.block _ (rel.lt au hm))
theorem abV {w:World} {R:Nat->Prop} {B:Nat} {h:aQ} {μ:cJ} (rel:cc R B w h μ) :∀ {c c' : ae},fy h c c'->∀ {v:Value},aR w R h μ c v->e7 w R c' v:=by
 intro c c' aC;have pm:∀ {b sz:Nat} {cs:List ae} {m:M},h.f b=.cells sz cs->μ b=some m->∃ f:Nat->Value,∀ (j:Nat) (c:ae),cs[j]? = some c->Cell w R aQ.empty (fun _=>none) m.r (m.s+j) (f j)/\aR w R h μ c (f j) :=by
  intro b sz cs m ai hm;have hblk:=rel.blk b m hm;rw[ai] at hblk;obtain⟨cp,dt,arr,t,fA,bB,aG,aI,lo⟩:=hblk;have r3:R m.r:=rel.up _ (rel.base b m (by rw[ai]; rfl) hm);refine⟨fun j=>(arr[m.s+j]?).getD undef,fun j c am=>?_⟩;obtain⟨v,h1,ag,ap⟩:=lo _ _ am;refine⟨⟨?_,by simp only[h1,Option.getD_some]; exact ag,r3,fun ⟨b,m,h1,ag,ap⟩=>by cases ag⟩,by simp only[h1,Option.getD_some]; exact ap⟩;simp only[World.cell?,bB,h1,Option.getD_some,Option.isSome_none];rfl
 induction aC with
 | same c al=>
  intro v ax;exact (e7.up (u9 ax al) fun k _ hk=>⟨hk.1,fun ⟨b,m,h1,ag,ap⟩=>by cases ag⟩:aR w R aQ.empty (fun _=>none) _ v)
 | aV cs cs' au h aL=>
  intro v ax;cases ax with
  | aV _ vs fD h1 ax=>
   refine .aV cs' vs (by omega) h1 (fun j c' v am e2=>?_);have aP:j<cs.length:=by rw[<-au]; exact (List.getElem?_eq_some_iff.1 am).1
   exact aL j cs[j] c' (List.getElem?_eq_getElem aP) am (ax j cs[j] v (List.getElem?_eq_getElem aP) e2)
 | bU cs cs' au h aL=>
  intro v ax;cases ax with
  | bU _ vs fD ax=>
   refine .bU cs' vs (by omega) (fun j c' v am e2=>?_);have aP:j<cs.length:=by rw[<-au]; exact (List.getElem?_eq_some_iff.1 am).1
   exact aL j cs[j] c' (List.getElem?_eq_getElem aP) am (ax j cs[j] v (List.getElem?_eq_getElem aP) e2)
 | p0 z b off cap sz=>
  intro v ax;cases ax with
  | ao _ _ _ _ _ _ cap' cs m ai hm au ay al=>exact .fo z _ cap'
  | fZ _ _ _ _ _ _ cap' a au al az=>exact .fo z _ cap'
  | hi _ _ _ _ a cs m ai hm=>exact .fo z a 0
 | ptr b off sz cs cs' ai au h aL=>
  intro v ax;cases ax with
  | lC _ _ _ a az=>
   exfalso;rcases az with az | ⟨n,ho,az,aP⟩
   ·rw[ai] at az; cases az
   ·rw[ai] at az; cases az; omega
  | ptr _ _ _ ho m fU hm=>
   obtain⟨f,aI⟩:=pm ai hm;refine .cq cs' off m.r m.s f (fun j am=>?_) (fun j c' am=>?_)
   ·exact (aI j cs[j] (List.getElem?_eq_getElem (by omega))).1
   ·have aP:j<cs.length:=by rw[<-au]; exact (List.getElem?_eq_some_iff.1 am).1
    exact aL j cs[j] c' (List.getElem?_eq_getElem aP) am (aI j cs[j] (List.getElem?_eq_getElem aP)).2
 | ao z b off len cap sz cs es ai au aB eA h aL=>
  intro v ax;cases ax with
  | hi _ _ _ _ a ho m fU jY=>
   obtain rfl:=List.length_eq_zero_iff.1 au;exact .fo z a 0
  | fZ _ _ _ _ _ _ cap' a au al az=>
   exfalso;rcases az with az | ⟨n,ho,az,aP⟩
   ·rw[ai] at az; cases az
   ·rw[ai] at az; cases az; omega
  | ao _ _ _ _ _ _ cap' ho m fU hm hD ay al=>
   have c3:len<=cap':=by rcases al with ⟨_,h⟩ | ⟨_,h,_⟩<;>omega
   obtain⟨f,aI⟩:=pm ai hm;subst au;have aP:∀ i j,i<es.length->j<z->off+(i*z+j)<cs.length:=by
    intro i j aA am;have:i*z+z<=es.length*z:=by rw[<-Nat.succ_mul]; exact Nat.mul_le_mul_right _ aA
    omega
   refine .b0 z es m.r (m.s+off) cap' (fun i j=>f (off+(i*z+j))) c3 aB (fun i j aA am=>?_) (fun i e aw j c' am=>?_)
   ·have:=(aI _ _ (List.getElem?_eq_getElem (aP i j aA am))).1;rw[<-Nat.add_assoc] at this;exact this
   ·have aA:i<es.length:=(List.getElem?_eq_some_iff.1 aw).1;have ls:j<z:=by rw[<-aB e (List.mem_of_getElem? aw)]; exact (List.getElem?_eq_some_iff.1 am).1
    exact aL i j e _ c' aw am (List.getElem?_eq_getElem (aP i j aA ls)) (aI _ _ (List.getElem?_eq_getElem (aP i j aA ls))).2
theorem Cv:∀ {cs:List ae},kM cs=true->∀ (j:Nat) (c:ae),cs[j]? = some c->c.flat=true:=by
 intro cs
 induction cs with
 | nil=>intro _ j c h; simp at h
 | cons x cs aL=>
  intro al j c am;simp only[kM,Bool.and_eq_true] at al;cases j with
  | zero=>simp at am; subst am; exact al.1
  | succ j=>exact aL al.2 j c (by simpa using am)
theorem TN {w w' : World} {A R:Nat->Prop} {h h' : aQ} {μ μ' : cJ} {c:ae} {v:Value} (ax:aR w A h μ c v) (aI:c.flat=true) :aR w' R h' μ' c v:=by
 induction ax with
 | bool b=>exact .bool b
 | int k n=>exact .int k n
 | str bs=>exact .str bs
 | iD=>exact .iD
 | aX=>exact .aX
 | g6=>exact .g6
 | ie=>exact .ie
 | iC=>exact .iC
 | aV cs vs bA h1 ax aL=>exact .aV cs vs bA h1 (fun j c v am e2=>aL j c v am e2 (Cv (by simpa only [ae.flat] using aI) j c am))
 | bU cs vs bA ax aL=>exact .bU cs vs bA (fun j c v am e2=>aL j c v am e2 (Cv (by simpa only [ae.flat] using aI) j c am))
 | gg t c v ax aL=>exact .gg t c v (aL (by simpa only [ae.flat] using aI))
 | la l=>exact .la l
 | _=>simp[ae.flat] at aI
theorem am1 {f:FuncId} {args hP:List ae} {r:ae} {h:aQ} (aE:bR P G f hP r) (bA:hP.length=args.length) (j2:∀ (j:Nat) (c c' : ae),args[j]? = some c->hP[j]? = some c'->fy h c c')
  (fv:r.flat=true) :u1 P G (.call f args h r h) :=by
 intro R B w μ vs rel g au ax;refine (aE w R vs (fun i=>?_) (by omega) (fun j c' v am e2=>?_)).mono ?_
 ·exact (e7.up (u9 (g i).2 (g i).1) fun k _ hk=>⟨hk.1,fun ⟨b,m,h1,ag,ap⟩=>by cases ag⟩:aR w R aQ.empty (fun _=>none) _ _)
 ·have aP:j<args.length:=by rw[<-bA]; exact (List.getElem?_eq_some_iff.1 am).1
  exact abV rel (j2 j args[j] c' (List.getElem?_eq_getElem aP) am) (ax j args[j] v (List.getElem?_eq_getElem aP) e2)
 ·rintro e w' ⟨v,rfl,ai,aC⟩;obtain⟨ci,b6⟩:=Bm rel ai;exact⟨v,μ,rfl,ci,b6,TN aC fv⟩
theorem am2 {f:FuncId} {args hP:List ae} {r:ae} {h:aQ} (aE:iI P G f hP r) (bA:hP.length=args.length) (j2:∀ (j:Nat) (c c' : ae),args[j]? = some c->hP[j]? = some c'->fy h c c') :u1 P G (.call f args h r h) :=by
 intro R B w μ vs rel g au ax;refine (aE w R vs (fun i=>?_) (by omega) (fun j c' v am e2=>?_)).mono ?_
 ·exact (e7.up (u9 (g i).2 (g i).1) fun k _ hk=>⟨hk.1,fun ⟨b,m,h1,ag,ap⟩=>by cases ag⟩:aR w R aQ.empty (fun _=>none) _ _)
 ·have aP:j<args.length:=by rw[<-bA]; exact (List.getElem?_eq_some_iff.1 am).1
  exact abV rel (j2 j args[j] c' (List.getElem?_eq_getElem aP) am) (ax j args[j] v (List.getElem?_eq_getElem aP) e2)
 ·rintro e w' ⟨v,rfl,ai,aC⟩;obtain⟨ci,b6⟩:=Bm rel ai;exact⟨v,μ,rfl,ci,b6,aC.up fun k hk c2=>⟨rel.up k (Nat.le_trans rel.size c2),fun ay=>by have:=YC rel ay; omega⟩⟩
theorem iI.yK {f:FuncId} {args:List ae} {r:ae} (aE:iI P G f args r) :bR P G f args r:=fun w A vs az au ax=>
 (aE w A vs az au ax).mono fun e w' ⟨v,h1,ag,ap⟩=>⟨v,h1,ag,(e7.up ap fun k _ hk=>⟨.inr hk,fun ⟨b,m,h1,ag,ap⟩=>by cases ag⟩:aR w' _ aQ.empty (fun _=>none) _ _)⟩
theorem am3 {f:FuncId} {args:List ae} {r:ae} {h:aQ} (aE:bR P G f args r) (al:bM args=true) :u1 P G (.call f args h r h) :=by
 intro R B w μ vs rel g au ax;refine (aE w (fun k=>R k/\¬ kG h μ k) vs (fun i=>?_) au (fun j c v am e2=>u9 (ax j c v am e2) (zo al j c am))).mono ?_
 ·exact u9 (g i).2 (g i).1
 ·rintro e w' ⟨v,rfl,ai,aC⟩;obtain⟨ci,b6⟩:=Bm rel ai;refine⟨v,μ,rfl,ci,b6,aC.up (fun k hk c2=>?_)⟩;rcases c2 with c2 | c2
  ·exact c2
  ·exact⟨rel.up k (Nat.le_trans rel.size c2),fun ay=>by have:=YC rel ay; omega⟩
end
section
variable {P:Program} {G:Nat->ae}
theorem Ld {w:World} {R:Nat->Prop} {h:aQ} {μ:cJ} {aD:Operand->ae} {dL:Operand->Value} (c4:∀ x,aR w R h μ (aD x) (dL x)) (o:Oper) {cs:List ae} {mk:Nat->ae} (aH:mf P aD o.op=some (cs,mk)) :
  ∃ v arr t,(execOp dL o).run P w=.ok (.value v) (w.alloc (.cells arr t))/\ke w R h μ cs arr ∧
   ∀ (w' : World) (rF:Nat->Prop) (h' : aQ) (μ' : cJ) (b:Nat),h'.f b=.cells cs.length cs->μ' b=some ⟨w.heap.size,0,arr.size⟩->aR w' rF h' μ' (mk b) v:=by
 obtain⟨dst,op,type,pos,after,guard⟩:=o;cases op<;>simp only[mf] at aH<;>try (cases aH; done)
 case alloc t=>
  cases aB:g9 P t with
  | none=>rw[aB] at aH; cases aH
  | some z=>
   rw[aB] at aH;simp only[Option.map_some,Option.some.injEq,Prod.mk.injEq] at aH;obtain⟨rfl,rfl⟩:=aH;obtain⟨v,ax,aC⟩:=uX (P:=P) (w:=w) (R:=R) (h:=h) (μ:=μ) aB;refine⟨.pointer (some ⟨w.heap.size,0,none⟩),v.cells,t,by simp[execOp,Instr.alloc,ax,newVar,newRow],aC,fun w' rF h' μ' b ai hm=>?_⟩;have:=aR.ptr (w:=w') (R:=rF) (h:=h') (μ:=μ') b 0 z.length z _ ai hm;simpa using this
 case box t x=>
  cases aB:(aD x).cells with
  | none=>rw[aB] at aH; cases aH
  | some z=>
   rw[aB] at aH;simp only[Option.map_some,Option.some.injEq,Prod.mk.injEq] at aH;obtain⟨rfl,rfl⟩:=aH;obtain⟨ci,b6⟩:=B8 (c4 x) aB;refine⟨.pointer (some ⟨w.heap.size,0,none⟩),(dL x).cells,t,by simp[execOp,Instr.box,newVar,newRow],⟨ci,b6⟩,fun w' rF h' μ' b ai hm=>?_⟩;have:=aR.ptr (w:=w') (R:=rF) (h:=h') (μ:=μ') b 0 z.length z _ ai hm;simpa using this
 case buildSlice t len parts=>
  cases aw:hQ P t with
  | none=>rw[aw] at aH; cases aH
  | some e=>
  rw[aw] at aH;simp only at aH;cases aB:cz P e with
  | none=>rw[aB] at aH; cases aH
  | some z=>
  cases ia:g9 P e with
  | none=>rw[aB,ia] at aH; cases aH
  | some zero=>
  rw[aB,ia] at aH;simp only at aH;split at aH
  ·rename_i iR;cases aI:gZ (fun i=>some (i*z,z)) (dm zero len) (parts.toList.map fun p=>(p.1,aD p.2)) with
   | none=>rw[aI] at aH; cases aH
   | some cs'=>
    rw[aI] at aH;simp only[Option.map_some,Option.some.injEq,Prod.mk.injEq] at aH;obtain⟨rfl,rfl⟩:=aH;obtain⟨ci,b6⟩:=Lu c4 parts;obtain⟨ez,arr,hv,ag⟩:=P5 aw aB ia iR.1 iR.2 aI ci b6;refine⟨.slice (some ⟨w.heap.size,0,none⟩) len len,arr,e,by simp[execOp,hv],ag,fun w' rF h' μ' b ai hm=>?_⟩;rw[ez] at ai;have:=aR.ao (w:=w') (R:=rF) (h:=h') (μ:=μ') z b 0 len len (len*z) len _ _ ai hm (Nat.le_refl _) (by omega) (.inr ⟨by omega,Nat.le_refl _,by simp only; rw[ag.1,ez]; omega⟩);simpa using this
  ·cases aH
 case makeSlice t l c=>
  split at aH
  ·rename_i e li gX aw gM fc;obtain⟨kl,km⟩:=qi gM (c4 l);obtain⟨kc,kj⟩:=qi fc (c4 c);cases aB:cz P e with
   | none=>rw[aB] at aH; cases aH
   | some z=>
   cases dO:iO P e with
   | none=>rw[aB,dO] at aH; cases aH
   | some by_=>
   cases ia:g9 P e with
   | none=>rw[aB,dO,ia] at aH; cases aH
   | some zero=>
   rw[aB,dO,ia] at aH;simp only at aH;split at aH
   ·rename_i iR;obtain⟨hf,aT,kV,C0,dy⟩:=iR;simp only[Option.some.injEq,Prod.mk.injEq] at aH;obtain⟨rfl,rfl⟩:=aH;obtain⟨bA,arr,hv,cF⟩:=X5 (w:=w) (R:=R) (h:=h) (μ:=μ) (kl:=kl) (kc:=kc) aw aB dO ia hf aT kV C0 dy;refine⟨.slice (some ⟨w.heap.size,0,none⟩) li.toNat gX.toNat,arr,e,by simp[execOp,km,kj,hv],cF,fun w' rF h' μ' b ai hm=>?_⟩;rw[bA] at ai;have:=aR.ao (w:=w') (R:=rF) (h:=h') (μ:=μ') z b 0 li.toNat gX.toNat (gX.toNat*z) gX.toNat _ _ ai hm (by omega) (by omega) (.inr ⟨by omega,Nat.le_refl _,by simp only; rw[cF.1,bA]; omega⟩);simpa using this
   ·cases aH
  ·cases aH
theorem mZ.rel {R:Nat->Prop} {B:Nat} {w:World} {h h' : aQ} {μ:cJ} (g:mZ h h') (rel:cc R B w h μ) :dr w h μ w h' μ/\cc R B w h' μ:=by
 have aP:∀ b m,μ b=some m->b<h.n:=fun b m hm=>rel.qj hm
 have e:dr w h μ w h' μ:=by
  refine⟨⟨rfl,rfl,rfl,Nat.le_refl _,fun _ _ _=>rfl,?_,?_,?_,?_,g.n,Nat.le_refl _⟩,fun _ _ hm=>hm⟩
  ·rintro k ⟨b,m,au,hm,rfl⟩;rw[g.same b (aP b m hm)] at au;exact .inl ⟨b,m,au,hm,rfl⟩
  ·intro b sz cs m ai hm;exact .inl ⟨cs,by rw[g.same b (aP b m hm)]; exact ai,hm⟩
  ·rintro b sz az;have ai:b<h.n:=by
    rcases Nat.lt_or_ge b h.n with h1 | h1
    ·exact h1
    ·have:=rel.fresh b h1;rcases az with az | ⟨n,cs,az,_⟩<;>rw[this] at az<;>cases az
   rcases az with az | ⟨n,cs,az,h7⟩
   ·exact .inl (by rw[g.same b ai]; exact az)
   ·exact .inr ⟨n,cs,by rw[g.same b ai]; exact az,h7⟩
  ·intro b k m ai hm;exact⟨by rw[g.same b (aP b m hm)]; exact ai,hm⟩
 refine⟨e,fun b m hm=>?_,fun b bx m cu au c6 hm b8 aC=>?_,fun b m au hm=>?_,g.fresh rel.fresh,rel.up,rel.size,fun b ai=>rel.j6 b (Nat.le_trans g.n ai)⟩
 ·rw[g.same b (aP b m hm)];exact (rel.blk b m hm).ext e.toExt0 rfl
 ·rw[g.same b (aP b m hm)] at au;rw[g.same bx (aP bx cu b8)] at c6;exact rel.inj b bx m cu au c6 hm b8 aC
 ·rw[g.same b (aP b m hm)] at au;exact rel.base b m au hm
theorem acV {K:Act->World->Prop} {Q:Exit->Act->World->Prop} {e:qa} {a:Act} {w:World} (aw:e≠.normal) (h:Q e.out a w) :Exit.then K Q e.out a w:=by
 cases e with
 | normal=>exact absurd rfl aw
 | exit id=>exact h
 | ret=>exact h
theorem aeK {id:Nat} {Q:Exit->Act->World->Prop} {e:qa} {a:Act} {w:World} (aw:e≠.exit id) (h:Q e.out a w) :Exit.inBlock id Q e.out a w:=by
 cases e with
 | normal=>exact h
 | exit qV=>
  have:qV≠id:=fun aN=>aw (by rw[aN])
  simpa [Exit.inBlock,qa.out,this] using h
 | ret=>exact h
def Ph (P:Program) (G:Nat->ae) :Prop:=
 ∀ {id:Nat} {ops:Array Oper} {N:Nat} {ah:Nat->ae} {h:aQ} {b7:Nat->ae} {h' : aQ} (pre:Nat->Nat->Bool) (val:Nat->ae) (W:Nat->Bool) (cls:Nat->BI) (m:Nat) (ar:Nat->Nat) (fp qd:Nat->aQ) (gb:Nat->Nat) (cells:Nat->List ae),
  rA ops pre->
  (∀ (i:Nat) (o:Oper),ops[i]? = some o->ol N o.dst=true)->
  mZ h (fp 0)->h'=fp m->(b7=fun t=>match i1 ops t with | some i=>val i | none=>ah t)->
  (∀ (i:Nat) (o:Oper),ops[i]? = some o->W i=true->cls i=.fS->∃ q,q<m/\ar q=i)->
  (∀ q,q<m->∃ o,ops[ar q]? = some o/\W (ar q)=true/\cls (ar q)=.fS)->
  (∀ q fe,q<m->fe<m->q<fe->pre (ar fe) (ar q)=true)->
  (∀ q fe,q<m->fe<m->ar q=ar fe->q=fe)->
  (∀ (i:Nat) (o:Oper),ops[i]? = some o->jH ops (lT ops pre val ah i o) o=some (W i))->
  (∀ (i:Nat) (o:Oper),ops[i]? = some o->W i=false->val i=gT)->
  (∀ (i:Nat) (o:Oper),ops[i]? = some o->W i=true->cls i=.pure->∀ k,w5 pre m ar i k->c1 P (fp k) (cY G (lT ops pre val ah i o)) o.op=some (.val (val i) (fp k)))->
  (∀ (i:Nat) (o:Oper),ops[i]? = some o->W i=true->cls i=.new->∃ mk,mf P (cY G (lT ops pre val ah i o)) o.op=some (cells i,mk)/\val i=mk (gb i)/\h.n<=gb i ∧
    ∀ k,w5 pre m ar i k->(fp k).f (gb i)=.cells (cells i).length (cells i))->
  (∀ (i j:Nat) (o c0:Oper),ops[i]? = some o->ops[j]? = some c0->W i=true->W j=true->cls i=.new->cls j=.new->gb i=gb j->i=j)->
  (∀ (i:Nat) (o:Oper) (q:Nat),ops[i]? = some o->W i=true->cls i=.new->q<m->gb i<(fp q).n\/(qd q).n<=gb i)->
  (∀ q,q<m->mZ (qd q) (fp (q+1)))->
  (∀ (q:Nat) (o:Oper),q<m->ops[ar q]? = some o->u1 P G (.op o.op (lT ops pre val ah (ar q) o) (fp q) (val (ar q)) (qd q)))->
  u1 P G (.code (.region id ops true) N ah h .normal b7 h')
theorem pb.ext {h ag:aQ} (k:pb h ag) (w:World) (μ:cJ) :dr w h μ w ag μ:=by
 refine⟨⟨rfl,rfl,rfl,Nat.le_refl _,fun _ _ _=>rfl,?_,?_,?_,?_,Nat.le_of_eq k.n.symm,Nat.le_refl _⟩,fun _ _ hm=>hm⟩
 ·rintro r ⟨b,m,au,hm,rfl⟩;refine .inl ⟨b,m,?_,hm,rfl⟩;rcases k.blk b with aw | ⟨sz,cs,al,_⟩
  ·rw[<-aw]; exact au
  ·rw[al]; rfl
 ·intro b sz cs m ai hm;rcases k.blk b with aw | ⟨sz',cs',al,bN | ⟨ho,zR,_⟩⟩
  ·exact .inl ⟨cs,by rw[aw]; exact ai,hm⟩
  ·exact .inr (.inl bN)
  ·rw[ai] at al; cases al; exact .inl ⟨ho,zR,hm⟩
 ·rintro b sz (ai | ⟨n,cs,ai,aP⟩)
  ·rcases k.blk b with aw | ⟨sz',cs',al,_⟩
   ·exact .inl (aw.trans ai)
   ·rw[ai] at al; cases al
  ·rcases k.blk b with aw | ⟨sz',cs',al,bN | ⟨ho,zR,_⟩⟩
   ·exact .inr ⟨n,cs,by rw[aw]; exact ai,aP⟩
   ·exact .inl bN
   ·rw[ai] at al; cases al; exact .inr ⟨n,ho,zR,aP⟩
 ·intro b lA m ai hm;rcases k.blk b with aw | ⟨sz',cs',al,_⟩
  ·exact⟨by rw[aw]; exact ai,hm⟩
  ·rw[al] at ai; cases ai
theorem pb.live {h ag:aQ} (k:pb h ag) {b:Nat} (au:live (ag.f b)=true) :live (h.f b)=true:=by
 rcases k.blk b with aw | ⟨sz,cs,al,_⟩
 ·rw[<-aw]; exact au
 ·rw[al]; rfl
theorem pb.o4 {R:Nat->Prop} {B:Nat} {w:World} {h ag:aQ} {μ:cJ} (rel:cc R B w h μ) (k:pb h ag) :∀ {c dB:ae},pa h ag c dB->∀ {v:Value},aR w R h μ c v->aR w R ag μ dB v:=by
 intro c dB aC
 induction aC with
 | same c=>intro v ax; exact ax.ext (k.ext w μ)
 | aV cs cs' au h aL=>
  intro v ax;cases ax with
  | aV _ vs fD h1 ax=>
   refine .aV cs' vs (by omega) h1 (fun j c' v am e2=>?_);have aP:j<cs.length:=by rw[<-au]; exact (List.getElem?_eq_some_iff.1 am).1
   exact aL j cs[j] c' (List.getElem?_eq_getElem aP) am (ax j cs[j] v (List.getElem?_eq_getElem aP) e2)
 | p0 z b off cap sz=>
  intro v ax;cases ax with
  | ao _ _ _ _ _ _ cap' cs m ai hm au ay al=>exact .fo z _ cap'
  | fZ _ _ _ _ _ _ cap' a au al az=>exact .fo z _ cap'
  | hi _ _ _ _ a cs m ai hm=>exact .fo z a 0
 | ao z b off len cap sz cs es ai bN au aB eA ax aL=>
  intro v ax;cases ax with
  | hi _ _ _ _ a ho m fU jY=>
   obtain rfl:=List.length_eq_zero_iff.1 au;exact .fo z a 0
  | fZ _ _ _ _ _ _ cap' a au al az=>
   exfalso;rcases az with az | ⟨n,ho,az,aP⟩
   ·rw[ai] at az; cases az
   ·rw[ai] at az; cases az; omega
  | ao _ _ _ _ _ _ cap' ho m fU hm hD ay al=>
   rw[ai] at fU; cases fU;have hblk:=rel.blk b m hm;rw[ai] at hblk;obtain⟨cp,dt,arr,t,fA,bB,aG,aI,lo⟩:=hblk;have c3:len<=cap':=by rcases al with ⟨_,h⟩ | ⟨_,h,_⟩<;>omega
   have sm:Go.cn.live (h.f b)=true:=by rw[ai]; rfl
   have r3:R m.r:=rel.up _ (rel.base b m sm hm);have eS:¬ kG ag μ m.r:=by
    rintro⟨bx,cu,c6,b8,jp⟩;have:=rel.inj bx b cu m (k.live c6) sm b8 hm jp;subst this;rw[bN] at c6; cases c6
   subst au;have pm:∀ i j,i<es.length->j<z->∃ c v,cs[off+(i*z+j)]? = some c/\arr[m.s+(off+(i*z+j))]? = some v/\v.oneCell'=true/\aR w R h μ c v:=by
    intro i j aA am;have aP:off+(i*z+j)<cs.length:=by
     have:i*z+z<=es.length*z:=by rw[<-Nat.succ_mul]; exact Nat.mul_le_mul_right _ aA
     omega
    obtain⟨v,h1,ag,ap⟩:=lo _ _ (List.getElem?_eq_getElem aP);exact⟨_,v,List.getElem?_eq_getElem aP,h1,ag,ap⟩
   refine .b0 z es m.r (m.s+off) cap' (fun i j=>(arr[m.s+(off+(i*z+j))]?).getD undef) c3 aB (fun i j aA am=>?_) (fun i e aw j c' am=>?_)
   ·obtain⟨c,v,h1,ag,ap,aJ⟩:=pm i j aA am;refine⟨?_,?_,r3,eS⟩
    ·simp only[World.cell?,bB,ag,Option.getD_some,Option.isSome_none];rw[show m.s+off+(i*z+j)=m.s+(off+(i*z+j)) by omega,ag]; rfl
    ·rw[ag]; exact ap
   ·have aA:i<es.length:=(List.getElem?_eq_some_iff.1 aw).1;have ls:j<z:=by rw[<-aB e (List.mem_of_getElem? aw)]; exact (List.getElem?_eq_some_iff.1 am).1
    obtain⟨c,v,h1,ag,ap,aJ⟩:=pm i j aA ls;simp only[ag,Option.getD_some];exact aL i j e c c' aw am h1 aJ
theorem pb.rel {R:Nat->Prop} {B:Nat} {w:World} {h ag:aQ} {μ:cJ} (rel:cc R B w h μ) (k:pb h ag) :cc R B w ag μ:=by
 refine⟨?_,?_,?_,?_,rel.up,rel.size,?_⟩
 ·intro b m hm;have ai:=rel.blk b m hm;rcases k.blk b with aw | ⟨sz,cs,al,bN | ⟨ho,zR,bA,ax⟩⟩
  ·rw[aw]; exact ai.ext (k.ext w μ).toExt0 rfl
  ·rw[bN]; trivial
  ·rw[zR];rw[al] at ai;obtain⟨h1,fT,arr,t,fA,ap,aJ,bd,bL⟩:=ai;refine⟨by omega,fT,arr,t,fA,ap,aJ,bd,fun j dB am=>?_⟩;have aP:j<cs.length:=by rw[<-bA]; exact (List.getElem?_eq_some_iff.1 am).1
   obtain⟨v,bj,bz,a3⟩:=bL j cs[j] (List.getElem?_eq_getElem aP);exact⟨v,bj,bz,k.o4 rel (ax j cs[j] dB (List.getElem?_eq_getElem aP) am) a3⟩
 ·intro b bx m cu au c6 hm b8 aC;exact rel.inj b bx m cu (k.live au) (k.live c6) hm b8 aC
 ·intro b m au hm;exact rel.base b m (k.live au) hm
 ·intro b ai;rw[k.n] at ai;rcases k.blk b with aw | ⟨sz,cs,al,_⟩
  ·rw[aw]; exact rel.fresh b ai
  ·rw[rel.fresh b ai] at al; cases al
 ·intro b ai;rw[k.n] at ai;exact rel.j6 b ai
theorem apc (bN:Ph P G) {j:J} (am:dj P G j) :u1 P G j:=by
 induction am with
 | skip N ah h=>exact⟨0,fun R B w μ a Q rel g s k=>wp_skip (k a w μ (.refl _ _ _) rel s)⟩
 | label l N ah h=>exact⟨0,fun R B w μ a Q rel g s k=>wp_label (k a w μ (.refl _ _ _) rel s)⟩
 | ret N ah h=>exact⟨0,fun R B w μ a Q rel g s k=>wp_ret (k a w μ (.refl _ _ _) rel s)⟩
 | exit id N ah h=>exact⟨0,fun R B w μ a Q rel g s k=>wp_exit (k a w μ (.refl _ _ _) rel s)⟩
 | acr h1 ag dY k0=>
  obtain⟨me,dY⟩:=dY;obtain⟨q5,k0⟩:=k0;exact⟨0,fun R B w μ a Q rel g s k=>wp_seq (nY.wp (dY R B w μ a _ rel g s fun bj cb gE aZ eB dZ=>
   nY.wp (k0 R B cb gE bj Q eB (g.ext aZ) dZ fun bz w2 p9 b4 fw mQ=>k bz w2 p9 (aZ.trans b4) fw mQ)))⟩
 | Oy h1 aw dY=>
  obtain⟨me,dY⟩:=dY;exact⟨0,fun R B w μ a Q rel g s k=>wp_seq (nY.wp (dY R B w μ a _ rel g s fun bj cb gE aZ eB dZ=>acV aw (k bj cb gE aZ eB dZ)))⟩
 | cond al h1 dY=>
  rename_i c x y N ah h b e b7 h';obtain⟨me,dY⟩:=dY;refine⟨0,fun R B w μ a Q rel g s k=>?_⟩;have ax:=s.cY g c;rw[al] at ax;cases xu:a.eval c<;>rw[xu] at ax<;>try (cases ax; done)
  cases ax;exact wp_cond xu (nY.wp (dY R B w μ a Q rel g s k))
 | BW h1 aw dY=>
  obtain⟨me,dY⟩:=dY;exact⟨0,fun R B w μ a Q rel g s k=>wp_block (nY.wp (dY R B w μ a _ rel g s fun bj cb gE aZ eB dZ=>aeK aw (k bj cb gE aZ eB dZ)))⟩
 | P0 h1 dY=>
  obtain⟨me,dY⟩:=dY;exact⟨0,fun R B w μ a Q rel g s k=>wp_block (nY.wp (dY R B w μ a _ rel g s fun bj cb gE aZ eB dZ=>by
   simp only[qa.out,Exit.inBlock,if_true];exact k bj cb gE aZ eB dZ))⟩
 | x9 h1 ag dY k0=>
  obtain⟨me,dY⟩:=dY;obtain⟨q5,k0⟩:=k0;exact⟨q5+1,fun R B w μ a Q rel g s k=>nY.wp (dY R B w μ a _ rel g s fun bj cb gE aZ eB dZ=>
   k0 R B cb gE bj Q eB (g.ext aZ) dZ fun bz w2 p9 b4 fw mQ=>k bz w2 p9 (aZ.trans b4) fw mQ)⟩
 | K0 h1 aw dY=>
  obtain⟨me,dY⟩:=dY;exact⟨1,fun R B w μ a Q rel g s k=>nY.wp (dY R B w μ a _ rel g s fun bj cb gE aZ eB dZ=>acV aw (k bj cb gE aZ eB dZ))⟩
 | scope h1 dY=>
  obtain⟨me,dY⟩:=dY;rename_i c N ah h e b7 h';refine⟨0,fun R B w μ a Q rel g s k=>wp_scope_straight (nY.wp (dY R B w μ a _ rel g s fun bj cb gE aZ eB dZ=>?_))⟩;have:=k bj cb gE aZ eB dZ;cases e<;>exact this
 | region h1 dY=>exact⟨0,fun R B w μ a Q rel g s k=>wp_region_list (dY R B w μ a Q rel g s k)⟩
 | draw pre val W cls m ar fp qd gb cells gS ox aT hm DE vC Aa kn eV ua Dx Dp l5 CW CX oy ln aL=>
  exact bN pre val W cls m ar fp qd gb cells gS ox aT hm DE vC Aa kn eV ua Dx Dp l5 CW CX oy aL
 | Yu=>exact fun R B w μ a Q rel g s k=>k a w μ (.refl _ _ _) rel s
 | Yw bB xq h1 dY=>
  intro R B w μ a Q rel g s k;have ua:=O7 (w:=w) (R:=R) (h:=_) (μ:=μ) (tmps:=a.tmps) bB (fun d _=>s.val d);unfold wpList;rw[if_neg (by rw[ua]; simp)];exact dY R B w μ _ Q rel g (s.put xq OZ) k
 | Yv bB xq h1 ag dY k0=>
  intro R B w μ a Q rel g s k;have ua:=O7 (w:=w) (R:=R) (h:=_) (μ:=μ) (tmps:=a.tmps) bB (fun d _=>s.val d);unfold wpList;rw[if_pos ua];refine .inl (dY R B w μ a _ _ Q rfl rel g (s.cY g) fun bf cb gE aZ eB ax=>?_);exact k0 R B cb gE _ Q eB (g.ext aZ) ((s.ext aZ).put xq ax) fun bz w2 p9 b4 fw mQ=>k bz w2 p9 (aZ.trans b4) fw mQ
 | D8 ar=>
  intro R B w μ a o K Q ay rel g c4 k;subst ay;have:=OG (P:=P) rel c4 o ar;obtain⟨v,w',μ',aC,e,r,ax⟩:=this;unfold Oper.wp;rcases aC with aC | ⟨aC,rfl⟩
  ·rw[aC]; exact k v w' μ' e r ax
  ·rw[aC]; exact k undef w' μ' e r ax
 | yl ar h1 dY=>
  intro R B w μ a o K Q ay rel g c4 k;subst ay;obtain⟨rfl,vs,aC,au,ax⟩:=OG (P:=P) rel c4 o ar;unfold Oper.wp;rw[aC];refine (dY R B w μ vs rel g au ax).mono ?_;rintro e w' ⟨v,μ',rfl,aZ,eB,lw⟩;exact k v w' μ' aZ eB lw
 | ET h1 jI ax dY=>
  intro R B w μ a o K Q ay rel g c4 k;refine dY R B w μ a o K Q ay rel g c4 fun bf w' μ' e r sv=>?_
  exact k bf w' μ' (e.trans (jI.ext w' μ')) (jI.rel r) (jI.o4 r ax sv)
 | inline aI ai h1 aw aC dY=>
  rename_i f fn c args h e b7 h' r;obtain⟨me,dY⟩:=dY;intro R B w μ vs rel g au ax;refine calls_of_wp aI ai (nY.wp (dY R B w μ _ _ rel g ⟨by simp[au],rfl,fun t=>?_⟩ fun bj cb gE aZ eB dZ=>?_))
  ·by_cases aU:t<args.length
   ·have aG:args.getD t gT=args[t] :=by simp[List.getD,aU]
    have lx:(vs++Array.replicate (fn.ntmps - vs.size) undef).getD t undef=vs[t] :=by
     rw[Array.getD_eq_getD_getElem?,Array.getElem?_append_left (by omega)];simp[show t<vs.size by omega]
    rw[aG,lx];exact ax t _ _ (by simp[aU]) (by simp)
   ·have aG:args.getD t gT=gT:=by simp[List.getD,List.getElem?_eq_none (by omega:args.length<=t)]
    have lx:(vs++Array.replicate (fn.ntmps - vs.size) undef).getD t undef=undef:=by
     rw[Array.getD_eq_getD_getElem?,Array.getElem?_append_right (by omega),Array.getElem?_replicate];split<;>rfl
    rw[aG,lx];exact OZ
  ·obtain⟨v,ci,b6⟩:=aop eB dZ aC;have Ds:dZ.defers=dZ.defers:=rfl;rcases aw with rfl | rfl
   ·exact⟨dZ.defers,v,ci,v,gE,rfl,aZ,eB,b6⟩
   ·exact⟨dZ.defers,v,ci,v,gE,rfl,aZ,eB,b6⟩
 | pure aE al=>exact am3 aE al
 | LH aE au aC aI=>exact am1 aE au aC aI
 | ext ar=>exact ar
 | LI aE au aC=>exact am2 aE au aC
end
end Go.cn

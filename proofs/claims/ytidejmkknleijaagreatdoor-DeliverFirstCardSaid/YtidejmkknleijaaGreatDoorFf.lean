/-
  The canonical machine, carried out on code without types (for calls without unknowns).
-/
import Derived.Test.YtidejmkknleijaaGreatDoorFe
import Derived.OpenShut
import Derived.Shelf.SlSortCmp.InsertionK
import Derived.Sort.LotA
set_option linter.unusedVariables false
set_option linter.unusedSimpArgs false
set_option linter.unnecessarySimpa false
namespace Go.bY
open Go
def XH (n:Nat) (h:aM) (p v:U) :Option aM:=
 match p,v.cells with
 | .ptr b off sz,some vs=>match h.f b with
  | .cells m cs=>if m=sz/\vs.length=n/\off+n<=m then some (h.set b (.cells m (bg cs off vs))) else none
  | _=>none
 | _,_=>none
def Fb (h:aM) (z by_:Nat) (s:U) (xs:List U) (n:Nat) :Option (U × aM) :=
 if n=0 then (match s with | .aH | .aX .. | .aq ..=>some (s,h) | _=>none)
 else if z=0\/by_=0 then none else match s with
  | .aH=>if n*by_<=ct then some (.aq z h.n 0 n n (n*z),h.push (.cells (n*z) xs)) else none
  | .aq du b off len cap sz=>match h.f b with
   | .cells m cs=>
    if m=sz/\z=du/\(len+n)*by_<=ct then
     if len+n<=cap then some (.aq z b off (len+n) cap sz,h.set b (.cells m (bg cs (off+len*z) xs)))
     else if off+cap*z<sz then some (.aq z h.n 0 (len+n) (len+n) ((len+n)*z),h.push (.cells ((len+n)*z) ((cs.drop off).take (len*z)++xs)))
     else if off=0 then some (.aq z b 0 (len+n) (len+n) ((len+n)*z),h.set b (.cells ((len+n)*z) (cs.take (len*z)++xs)))
     else some (.aq z h.n 0 (len+n) (len+n) ((len+n)*z),(h.set b .dead).push (.cells ((len+n)*z) ((cs.drop off).take (len*z)++xs)))
    else none
   | _=>none
  | _=>none
def Rn (z:Nat) (h:aM) (d x:U) :Option (U × aM) :=
 match contents h z x with
 | none=>none
 | some (xs,n)=>match d with
  | .aH=>some (.int .i64 0,h)
  | .aq du b off len _ sz=>match h.f b with
   | .cells m cs=>if m=sz/\z=du then some (.int .i64 ((min n len:Nat) :Int),h.set b (.cells m (bg cs off (xs.take (min n len*z))))) else none
   | _=>none
  | _=>none
def Q7 (zero:List U) (h:aM) :U->Option aM
 | .aH=>some h
 | .aX _ []=>some h
 | .aq z b off len _ sz=>if len=0 then some h else match h.f b with
  | .cells m cs=>if m=sz/\zero.length=z then some (h.set b (.cells m (bg cs off (dx zero len)))) else none
  | _=>none
 | _=>none
def VG (z by_:Nat) (zero:List U) (h:aM) (l c:U) :Option (U × aM) :=match l,c with
 | .int _ l,.int _ c=>if 0<=l/\l<=c/\c<9223372036854775808/\by_*c<=ct then
   some (.aq z h.n 0 l.toNat c.toNat (c.toNat*z),h.push (.cells (c.toNat*z) (dx zero c.toNat))) else none
 | _,_=>none
def Q1 (h:aM) (x:U) :Option U:=match x with
 | .aH=>some (.str [])
 | .str _=>none
 | x=>match contents h 1 x with | some (cs,_)=>(m5 cs).map .str | none=>none
def OM (h:aM) (z by_:Nat) (s x:U) :Option (U × aM) :=match contents h z x with
 | none=>none
 | some (xs,n)=>Fb h z by_ s xs n
def OO (h:aM) (z by_:Nat) (zero:List U) (s x:U) :Option (U × aM) :=match x with
 | .int _ n=>if 0<=n/\n<9223372036854775808/\n.toNat*by_<=ct then Fb h z by_ s (dx zero n.toNat) n.toNat else none
 | _=>none
def Re (h:aM) (x y:U) :Option U:=match rY h x,rY h y with
 | some a,some b=>some (.int .i64 (nV a b))
 | _,_=>none
def WQ (h:aM) (x:U) :Option (U × aM) :=match x with
 | .str s=>some (.it h.n,h.push (.iter s 0))
 | _=>none
def Vl (h:aM) (x:U) :Option U:=match x with
 | .iI=>some (.int .i64 0)
 | .mp b=>match h.f b with | .map es _=>some (.int .i64 es.length) | _=>none
 | _=>none
def Vr (P:Program) (h:aM) (cK:TypeId) (zero:U) (ok:Bool) (m k:U) :Option U:=
 match mapOf h m with
 | some es=>match lS P cK k with
  | false=>none
  | true=>match kY P cK k es 0 with
   | some (some (_,v))=>some (if ok then .bv [v,.bool true] else v)
   | some none=>some (if ok then .bv [zero,.bool false] else zero)
   | none=>none
 | none=>none
def Vx (P:Program) (h:aM) (cK:TypeId) (m k v:U) :Option aM:=
 match m with
 | .mp b=>match h.f b with
  | .map es fb=>match lS P cK k with
   | false=>none
   | true=>match kY P cK k es 0 with
    | some (some (i,_))=>some (h.set b (.map (es.modify i fun e=>(k,v,e.2.2)) fb))
    | some none=>some (h.set b (.map (es++[(k,v,fb)]) (fb+1)))
    | none=>none
  | _=>none
 | _=>none
def hF (h:aM) (x:Option U) :Option (U × aM) :=match x with | some v=>some (v,h) | none=>none
section
variable (P:Program)
def DX (aA:Operand->U) (h:aM) :c2->Option (U × aM)
 | .fL x=>some (aA x,h)
 | .pick c a b=>hF h (Ed (aA c) (aA a) (aA b))
 | .alloc zero=>some (.ptr h.n 0 zero.length,h.push (.cells zero.length zero))
 | .box x=>match (aA x).cells with | some cs=>some (.ptr h.n 0 cs.length,h.push (.cells cs.length cs)) | none=>none
 | .BF zero ps=>hF h ((pt zero (ps.map fun p=>(p.1,p.2.1,aA p.2.2))).map .aG)
 | .qD z zero len ps=>match hQ (fun i=>some (i*z,z)) (dx zero len) (ps.map fun p=>(p.1,aA p.2)) with | some cs=>some (.aq z h.n 0 len len (len*z),h.push (.cells (len*z) cs)) | none=>none
 | .nx a=>hF h (match reach h (aA a) with | some (cs,o)=>cs[o]? | none=>none)
 | .lU n a=>hF h (match reach h (aA a) with | some (cs,o)=>sH n cs o | none=>none)
 | .st n a x=>match XH n h (aA a) (aA x) with | some h'=>some (gy,h') | none=>none
 | .D0 x=>hF h (ys (aA x))
 | .bin o t x y=>hF h (gD P o t (aA x) (aA y))
 | .un o x=>hF h (qk o (aA x))
 | .ze k x=>hF h (zf k (aA x))
 | .zq x=>hF h (Fw (aA x))
 | .td x=>hF h (Q1 h (aA x))
 | .zp x=>hF h (vk (aA x))
 | .yq t x=>some (.hq t (aA x),h)
 | .Ba t z ok x=>hF h (Bb t z ok (aA x))
 | .yp f a b=>some (.fn f (a.map aA) (b.map aA),h)
 | .rm z by_ zero a c=>VG z by_ zero h (aA a) (aA c)
 | .slice df x cG az cH=>hF h (fF df (aA x) (cG.map aA) (az.map aA) (cH.map aA))
 | .pB off x=>hF h (m7 (aA x) off)
 | .B8 off x=>hF h (Ca off (aA x))
 | .B9 n off x=>hF h (zC n off (aA x))
 | .vR df x i=>hF h (cN df (aA x) (aA i))
 | .DC n z x i=>hF h (DE n z (aA x) (aA i))
 | .DD n z x i=>hF h (DF n z (aA x) (aA i))
 | .DH x i=>hF h (yd (aA x) (aA i))
 | .ext x i=>hF h (B6 (aA x) i)
 | .len df x=>hF h (cv df (aA x))
 | .cap df x=>hF h (tc df (aA x))
 | .app z by_ s x=>OM h z by_ (aA s) (aA x)
 | .uU z by_ zero s x=>OO h z by_ zero (aA s) (aA x)
 | .vj z d x=>Rn z h (aA d) (aA x)
 | .vb zero x=>match Q7 zero h (aA x) with | some h'=>some (.bv [],h') | none=>none
 | .min x y=>hF h (sA (aA x) (aA y))
 | .max x y=>hF h (ug (aA x) (aA y))
 | .ui x=>match x with
  | none=>some (.mp h.n,h.push (.map [] 0))
  | some o=>match asInt (aA o) with | some _=>some (.mp h.n,h.push (.map [] 0)) | none=>none
 | .yk cK zero ok m k=>hF h (Vr P h cK zero ok (aA m) (aA k))
 | .v8 cK m k x=>match Vx P h cK (aA m) (aA k) (aA x) with | some h'=>some (gy,h') | none=>none
 | .v1 x=>hF h (Vl h (aA x))
 | .ws x=>WQ h (aA x)
 | .wc x=>AG h (aA x)
 | .ca f r2 x y=>match DA f (aA r2) with | true=>hF h (Re h (aA x) (aA y)) | false=>none
 | .stop=>none
end
def o9 (r:U->Option U) :List U->Option (List U)
 | []=>some []
 | c::cs=>match r c with
  | some c'=>match o9 r cs with
   | some cs'=>some (c'::cs')
   | none=>none
  | none=>none
def ut (h:aM) :Nat->U->Option U
 | 0,_=>none
 | d+1,c=>match c with
  | .aG cs=>match o9 (ut h d) cs with | some cs'=>some (.aG cs') | none=>none
  | .bv cs=>match o9 (ut h d) cs with | some cs'=>some (.bv cs') | none=>none
  | .aq z b off len cap sz=>match Nat.beq len 0 with
   | true=>some (.aX z [])
   | false=>match h.f b with
    | .cells n cs=>match Nat.beq n sz&&Nat.ble (off+len*z) cs.length with
     | true=>match o9 (ut h d) ((cs.drop off).take (len*z)) with
      | some xs=>some (.aX z (l2 z len xs))
      | none=>none
     | false=>none
    | _=>none
  | .ptr b off sz=>match h.f b with
   | .cells n cs=>match Nat.beq n sz with
    | true=>match o9 (ut h d) cs with | some cs'=>some (.bK cs' off) | none=>none
    | false=>none
   | _=>none
  | c=>match c.closed with | true=>some c | false=>none
def OZ (x:U) :Option Int:=match x with
 | .int k i=>match k with | .i64=>some i | _=>none
 | _=>none
def oj (z:Nat) (cs vs:List U) (i len:Nat) :List U:=cs.take (i*z)++vs++(cs.drop (i*z)).take ((len - i)*z)++cs.drop ((len+1)*z)
def Dy (z by_:Nat) (h:aM) (s:U) (i:Nat) (h1:Nat) (vs:List U) :Option (U × aM) :=match s with
 | .aH=>if i=0/\by_<=ct then some (.aq z h.n 0 1 1 z,h.push (.cells z vs)) else none
 | .aq gA b off len cap sz=>match h.f b with
  | .cells m cs=>if m=cap*z/\sz=cap*z/\gA=z/\off=0/\h1≠b/\i<=len/\len<=cap/\(len+1)*by_<=ct then
    some (.aq z h.n 0 (len+1) (max cap (len+1)) (max cap (len+1)*z),(h.set b .dead).push (.cells (max cap (len+1)*z) (oj z cs vs i len))) else none
  | _=>none
 | _=>none
def sq (z by_:Nat) (args:List U) (h:aM) :Option (U × aM) :=match args with
 | [s,x,y]=>match OZ x,y with
  | some i,.aq fU h1 gP bo b5 ie=>match h.f h1 with
   | .cells eG vs=>if fU=z/\gP=0/\bo=1/\b5=1/\ie=z/\eG=z/\0<=i then Dy z by_ h s i.toNat h1 vs else none
   | _=>none
  | _,_=>none
 | _=>none
class qs (P:Program) (G:Nat->U) where
 get:FuncId->Option (Nat × Nat)
 ok:∀ f z by_,get f=some (z,by_)->∀ args h r h',sq z by_ args h=some (r,h')->qq P G f args h r h'
instance (priority:=10) arQ (P:Program) (G:Nat->U) :qs P G:=⟨fun _=>none,fun f z by_ h=>by cases h⟩
abbrev oz:=FuncId->List U->aM->Option (U × aM)
abbrev IK:=Option (rL × hn × aM)
mutual
def aY.beq:aY->aY->Bool
 | .none,y=>match y with | .none=>true | _=>false
 | .dead,y=>match y with | .dead=>true | _=>false
 | .cells n cs,y=>match y with | .cells hs cs'=>Nat.beq n hs&&fx cs cs' | _=>false
 | .map ..,_=>false
 | .iter ..,_=>false
end

section
variable (P:Program) (G:Nat->U)
def FO (s:hn) (g:Option (Option Tmp × Bool)) :Option Bool:=match g with
 | none=>some true
 | some (some d,w)=>match look s d with
  | .bool b=>some (b == w)
  | .bad=>none
  | _=>some false
 | some (none,_)=>some false
def BD (call:oz) (b:qp) (s:hn) (h:aM) :Option (U × aM) :=match b with
 | .gu m=>DX P (cS G (look s)) h m
 | .mu f args=>call f (args.map (cS G (look s))) h
 | .mv x args=>match cS G (look s) x with
  | .fn g first gn=>match j8 P g with
   | true=>call g (first++args.map (cS G (look s))++gn) h
   | false=>none
  | _=>none
 | .nT x name args=>match cS G (look s) x with
  | .hq t v=>match yn P t name with
   | some g=>match j8 P g with
    | true=>call g (v::args.map (cS G (look s))) h
    | false=>none
   | none=>none
  | _=>none
def Er (call:oz) :List dd->hn->aM->Option (hn × aM)
 | [],s,h=>some (s,h)
 | x::r,s,h=>match FO s x.g with
  | some true=>match BD P G call x.b s h with
   | some (v,h')=>Er call r (Eg s x.dst v) h'
   | none=>none
  | some false=>Er call r (Eg s x.dst gy) h
  | none=>none
def Ij (b:qp) (s:hn) (v:U) (h h' ad:aM) :Bool:=match b with
 | .gu m=>match m.je with
  | true=>aY.beq (ad.f h.n) (h'.f h.n)
  | false=>match m.looks with
   | true=>match DX P (cS G (look s)) ad m with
    | some (a3,_)=>U.beq a3 v
    | none=>false
   | false=>false
 | _=>true
def Ft (ids:List Nat) (h:aM) :List (Nat × (aM->Bool))->Bool
 | []=>true
 | e::r=>(!ids.contains e.1||e.2 h)&&Ft ids h r
def Ep (call:oz) :List dd->hn->aM->List (Nat × (aM->Bool))->Option (hn × aM)
 | [],s,h,_=>some (s,h)
 | x::r,s,h,seen=>match FO s x.g with
  | some true=>match BD P G call x.b s h with
   | some (v,h')=>match Ft x.hN h' seen with
    | true=>Ep call r (Eg s x.dst v) h' (match x.cb with | true=>(x.i,Ij P G x.b s v h h') ::seen | false=>seen)
    | false=>none
   | none=>none
  | some false=>Ep call r (Eg s x.dst gy) h seen
  | none=>none
def Q2 (call:oz) (aS:fw->hn->aM->IK) (c:fw) (s:hn) (h:aM) :IK:=
 match c with
 | .skip=>some (.normal,s,h)
 | .ret=>some (.ret,s,h)
 | .exit id=>some (.exit id,s,h)
 | .lk x=>match Er P G call x s h with
  | some (cQ,ad)=>some (.normal,cQ,ad)
  | none=>none
 | .xm x=>match Ep P G call x s h [] with
  | some (cQ,ad)=>some (.normal,cQ,ad)
  | none=>none
 | .seq a b=>match aS a s h with
  | some (.normal,cQ,ad)=>aS b cQ ad
  | r=>r
 | .cond c x y=>match cS G (look s) c with
  | .bool true=>aS x s h
  | .bool false=>aS y s h
  | _=>none
 | .block id c=>match aS c s h with
  | some (.exit sp,cQ,ad)=>match Nat.beq sp id with
   | true=>some (.normal,cQ,ad)
   | false=>some (.exit sp,cQ,ad)
  | r=>r
 | .loop c=>match aS c s h with
  | some (.normal,cQ,ad)=>aS (.loop c) cQ ad
  | r=>r
def Fr (call:oz) :Nat->fw->hn->aM->IK
 | 0=>fun _ _ _=>none
 | k+1=>Q2 P G call (Fr call k)
def En (s:hn) (h:aM) :List c2->List U->Option U
 | [],acc=>some (wG acc)
 | m::r,acc=>match DX P (cS G (look s)) h m with
  | some (v,_)=>En s h r (acc++[v])
  | none=>none
abbrev qt:=FuncId->Option (Bool × (List U->Option U))
abbrev uN:=FuncId->Option (fw × List c2)
def I9 (orc:qt) (f:FuncId) (args:List U) (h:aM) :Option U:=
 match orc f with
 | some (n,g)=>match o9 (ut h 20) args with
  | some iS=>match g iS with
   | some r=>match n||r.flat with | true=>some r | false=>none
   | none=>none
  | none=>none
 | none=>none
def QZ [qs P G] (orc:qt) (lm:uN) (fuel:Nat) (call:oz) :oz:=fun f args h=>
 match qs.get P G f with
 | some (z,by_)=>sq z by_ args h
 | none=>match I9 orc f args h with
 | some r=>some (r,h)
 | none=>match lm f with
  | none=>none
  | some (c,nE)=>match Fr P G call fuel c (AK 0 .nil args) h with
   | some (.normal,ga,h')=>match En P G ga h' nE [] with | some r=>some (r,h') | none=>none
   | some (.ret,ga,h')=>match En P G ga h' nE [] with | some r=>some (r,h') | none=>none
   | _=>none
def BL [qs P G] (orc:qt) (lm:uN) (fuel:Nat) :Nat->oz
 | 0=>fun _ _ _=>none
 | k+1=>QZ P G orc lm fuel (BL orc lm fuel k)
end
structure eA (h:aM) (l:ao) :Prop where
 n:h.n=l.length
 f:∀ b,h.f b=(a7 l).f b
theorem eA.nil:eA aM.empty [] :=⟨rfl,fun _=>rfl⟩
theorem eA.some {h:aM} {l:ao} (r:eA h l) {b:Nat} {c:aY} (ah:h.f b=c) (aC:c≠.none) :l[b]? = some c:=by
 rw[r.f,kr] at ah;split at ah
 ·rename_i c' ad; rw[ad,ah]
 ·exact absurd ah.symm aC
theorem eA.push {h:aM} {l:ao} (r:eA h l) (c:aY) :eA (h.push c) (l++[c]) :=
 ⟨by rw[ft,r.n]; simp,fun b=>by rw[eb,<-nN,eb,r.n,EW]; unfold bw; (split<;>first | rfl | exact r.f b)⟩
theorem eA.set {h:aM} {l:ao} (r:eA h l) {b:Nat} {tb:aY} (af:l[b]? = Option.some tb) (c:aY) :eA (h.set b c) (l.set b c) :=
 ⟨by rw[eS,r.n]; simp,fun bc=>by rw[dM,<-pl _ (cp af),dM]; unfold bw; (split<;>first | rfl | exact r.f bc)⟩
section
variable {P:Program} {G:Nat->U} {h h' : aM} {l:ao}
theorem eA.reach (r:eA h l) (p:U) :reach h p=g4 l p:=by
 rw[<-M7];cases p<;>try rfl
 simp only[bY.reach,r.f]
theorem eA.contents (r:eA h l) (z:Nat) (x:U) :contents h z x=ds l z x:=by
 rw[<-BU];cases x<;>try rfl
 simp only[bY.contents,r.f]
theorem eA.mapOf (r:eA h l) (x:U) :mapOf h x=v5 l x:=by
 cases x<;>try rfl
 rename_i b;simp only[bY.mapOf,v5,r.f,kr];cases l[b]? with
 | none=>rfl
 | some c=>cases c<;>rfl
theorem eA.bytes (r:eA h l) (x:U) :rY h x=oH l x:=by
 cases x<;>simp only[rY,oH,r.contents]<;>rfl
theorem ai6 {x:Option U} {v:U} (ag:hF h x=some (v,h')) :x=some v/\h'=h:=by
 cases x with
 | none=>cases ag
 | some y=>cases ag; exact⟨rfl,rfl⟩
theorem yt (r:eA h l) {x y:Option U} {v:U} (lO:x=y) (ag:hF h x=some (v,h')) :∃ l',dz l y=some (v,l')/\eA h' l':=by
 obtain⟨rfl,rfl⟩:=ai6 ag;exact⟨l,by rw[<-lO]; rfl,r⟩
theorem OS (r:eA h l) {z by_ n:Nat} {s v:U} {xs:List U} (ag:Fb h z by_ s xs n=some (v,h')) :∃ l',jq l z by_ s xs n=some (v,l')/\eA h' l':=by
 unfold Fb at ag;unfold jq;by_cases aC:n=0
 ·rw[if_pos aC] at ag ⊢;cases s<;>simp at ag ⊢<;>(obtain⟨rfl,rfl⟩:=ag; exact⟨l,⟨rfl,rfl⟩,r⟩)
 ·rw[if_neg aC] at ag ⊢;by_cases aI:z=0\/by_=0
  ·rw[if_pos aI] at ag; cases ag
  ·rw[if_neg aI] at ag ⊢;cases s<;>simp only at ag ⊢<;>try (cases ag; done)
   case aH=>
    by_cases ay:n*by_<=ct
    ·rw[if_pos ay] at ag ⊢; cases ag; exact⟨_,by rw[r.n],r.push _⟩
    ·rw[if_neg ay] at ag; cases ag
   case aq du b off len cap sz=>
    cases af:h.f b<;>rw[af] at ag<;>(try simp only at ag)<;>try (cases ag; done)
    rename_i m cs;have al:=r.some af (by simp);rw[al];simp only;by_cases ad:m=sz/\z=du/\(len+n)*by_<=ct
    ·rw[if_pos ad] at ag ⊢;by_cases ae:len+n<=cap
     ·rw[if_pos ae] at ag ⊢; cases ag; exact⟨_,rfl,r.set al _⟩
     ·rw[if_neg ae] at ag ⊢;by_cases aj:off+cap*z<sz
      ·rw[if_pos aj] at ag ⊢; cases ag; exact⟨_,by rw[r.n],r.push _⟩
      ·rw[if_neg aj] at ag ⊢;by_cases aF:off=0
       ·rw[if_pos aF] at ag ⊢; cases ag; exact⟨_,rfl,r.set al _⟩
       ·rw[if_neg aF] at ag ⊢; cases ag; exact⟨_,by rw[r.n],(r.set al _).push _⟩
    ·rw[if_neg ad] at ag; cases ag
theorem MA (r:eA h l) {aA:Operand->U} {m:c2} {v:U} (ag:DX P aA h m=some (v,h')) :∃ l',bN P aA l m=some (v,l')/\eA h' l':=by
 cases m<;>simp only[DX] at ag<;>simp only[bN]
 case fL=>cases ag; exact⟨l,rfl,r⟩
 case alloc=>cases ag; exact⟨_,by rw[r.n],r.push _⟩
 case box x=>
  cases ah:(aA x).cells with
  | none=>rw[ah] at ag; cases ag
  | some cs=>rw[ah] at ag; cases ag; exact⟨_,by simp only[Option.map_some,r.n],r.push _⟩
 case qD z zero n ps=>
  split at ag
  ·rename_i cs ah; cases ag; exact⟨_,by rw[ah]; simp only[Option.map_some,r.n],r.push _⟩
  ·cases ag
 case nx a=>
  rw[r.reach] at ag;refine yt r ?_ ag;cases g4 l (aA a)<;>rfl
 case lU n a=>
  rw[r.reach] at ag;refine yt r ?_ ag;cases g4 l (aA a)<;>rfl
 case st n a x=>
  unfold XH at ag;unfold lX;cases aB:aA a<;>rw[aB] at ag<;>(try simp only at ag)<;>try (cases ag; done)
  rename_i b off sz;cases ah:(aA x).cells with
  | none=>rw[ah] at ag; cases ag
  | some vs=>
   rw[ah] at ag;simp only at ag ⊢;cases af:h.f b<;>rw[af] at ag<;>(try simp only at ag)<;>try (cases ag; done)
   rename_i m cs;have al:=r.some af (by simp);rw[al];simp only;by_cases ad:m=sz/\vs.length=n/\off+n<=m
   ·rw[if_pos ad] at ag ⊢; cases ag; exact⟨_,rfl,r.set al _⟩
   ·rw[if_neg ad] at ag; cases ag
 case yq=>cases ag; exact⟨l,rfl,r⟩
 case yp=>cases ag; exact⟨l,rfl,r⟩
 case rm z by_ zero a c=>
  unfold VG at ag;unfold rn;cases aB:aA a<;>rw[aB] at ag<;>(try simp only at ag)<;>try (cases ag; done)
  cases ah:aA c<;>rw[ah] at ag<;>(try simp only at ag)<;>try (cases ag; done)
  simp only;split at ag
  ·rename_i ad; rw[if_pos ad]; cases ag; exact⟨_,by rw[r.n],r.push _⟩
  ·cases ag
 case td x=>
  refine yt r ?_ ag;unfold Q1 u5;cases aA x<;>simp only[r.contents]<;>rfl
 case app z by_ s x=>
  unfold OM at ag;unfold gT;rw[r.contents] at ag;split at ag
  ·cases ag
  ·rename_i xs n ah; rw[ah]; exact OS r ag
 case uU z by_ zero s x=>
  unfold OO at ag;unfold qB;cases ah:aA x<;>rw[ah] at ag<;>(try simp only at ag)<;>try (cases ag; done)
  simp only;split at ag
  ·rename_i ad; rw[if_pos ad]; exact OS r ag
  ·cases ag
 case vj z d x=>
  unfold Rn at ag;unfold zo;rw[r.contents] at ag;split at ag
  ·cases ag
  ·rename_i xs n ah;rw[ah];simp only;cases bb:aA d<;>rw[bb] at ag<;>(try simp only at ag)<;>try (cases ag; done)
   ·cases ag; exact⟨l,rfl,r⟩
   ·rename_i du b off len cap sz;cases af:h.f b<;>rw[af] at ag<;>(try simp only at ag)<;>try (cases ag; done)
    rename_i m cs;have al:=r.some af (by simp);simp only[al];split at ag
    ·rename_i ad; rw[if_pos ad]; cases ag; exact⟨_,rfl,r.set al _⟩
    ·cases ag
 case vb zero x=>
  unfold Q7 at ag;unfold va;cases bb:aA x<;>rw[bb] at ag<;>(try simp only at ag)<;>try (cases ag; done)
  ·cases ag; exact⟨l,rfl,r⟩
  ·rename_i z b off len cap sz;simp only;by_cases aI:len=0
   ·rw[if_pos aI] at ag ⊢; cases ag; exact⟨l,rfl,r⟩
   ·rw[if_neg aI] at ag ⊢;cases af:h.f b<;>rw[af] at ag<;>(try simp only at ag)<;>try (cases ag; done)
    rename_i m cs;have al:=r.some af (by simp);rw[al];simp only;by_cases ad:m=sz/\zero.length=z
    ·rw[if_pos ad] at ag ⊢; cases ag; exact⟨_,rfl,r.set al _⟩
    ·rw[if_neg ad] at ag; cases ag
  ·rename_i z es;cases es<;>simp only at ag
   ·cases ag; exact⟨l,rfl,r⟩
   ·cases ag
 case ui x=>
  cases x with
  | none=>cases ag; exact⟨_,by rw[r.n],r.push _⟩
  | some o=>
   simp only at ag ⊢;split at ag
   ·rename_i n aC; rw[aC]; cases ag; exact⟨_,by simp only[r.n],r.push _⟩
   ·cases ag
 case yk cK zero ok m k=>
  refine yt r ?_ ag;unfold Vr AC;rw[r.mapOf];split
  ·rename_i es lI; rw[lI]; rfl
  ·rename_i lI; rw[lI]
 case v8 cK m k x=>
  unfold Vx at ag;unfold v6;cases hm:aA m<;>rw[hm] at ag<;>(try simp only at ag)<;>try (cases ag; done)
  rename_i b;simp only;cases af:h.f b<;>rw[af] at ag<;>(try simp only at ag)<;>try (cases ag; done)
  rename_i es fb;have al:=r.some af (by simp);rw[al];simp only;cases ar:lS P cK (aA k)<;>rw[ar] at ag<;>simp only at ag
  ·cases ag
  ·simp only;cases aE:kY P cK (aA k) es 0 with
   | none=>rw[aE] at ag; cases ag
   | some q=>
    rw[aE] at ag;cases q with
    | none=>cases ag; exact⟨_,rfl,r.set al _⟩
    | some vY=>cases ag; exact⟨_,rfl,r.set al _⟩
 case v1 x=>
  refine yt r ?_ ag;unfold Vl DS;cases aA x<;>try rfl
  rename_i b;simp only[r.f,kr];cases l[b]? with
  | none=>rfl
  | some c=>cases c<;>rfl
 case ws x=>
  unfold WQ at ag;unfold AW;cases bb:aA x<;>rw[bb] at ag<;>(try simp only at ag)<;>try (cases ag; done)
  cases ag; exact⟨_,by simp only[r.n],r.push _⟩
 case wc x=>
  unfold AG at ag;unfold uj;cases bb:aA x<;>rw[bb] at ag<;>(try simp only at ag)<;>try (cases ag; done)
  rename_i b;simp only;cases af:h.f b<;>rw[af] at ag<;>(try simp only at ag)<;>try (cases ag; done)
  have al:=r.some af (by simp);rw[al];simp only;split at ag
  ·rename_i ad; rw[ad]; cases ag; exact⟨_,rfl,r.set al _⟩
  ·rename_i ad; rw[ad]; cases ag; exact⟨_,rfl,r⟩
 case stop=>cases ag
 case ca f r2 x y=>
  split at ag
  ·rename_i ad;rw[ad];refine yt r ?_ ag;unfold Re cmpL;rw[r.bytes,r.bytes];cases oH l (aA x)<;>cases oH l (aA y)<;>rfl
  ·cases ag
 all_goals exact yt r rfl ag
theorem sK {f:U->Option U}:∀ {cs cs' : List U},o9 f cs=some cs'->cs'.length=cs.length
 | [],cs',h=>by cases h; rfl
 | c::cs,cs',h=>by
  unfold o9 at h;split at h
  ·split at h
   ·rename_i ad; cases h; simp[sK ad]
   ·cases h
  ·cases h
theorem sJ {f:U->Option U}:∀ {cs cs' : List U},o9 f cs=some cs'->∀ (j:Nat) (c c' : U),cs[j]? = some c->cs'[j]? = some c'->f c=some c'
 | [],cs',h,j,c,c',ah,_=>by simp at ah
 | c::cs,cs',h,j,d,JA,bb,tB=>by
  unfold o9 at h;split at h
  ·rename_i x ag;split at h
   ·rename_i ad;cases h;cases j with
    | zero=>simp at bb tB; subst bb tB; exact ag
    | succ j=>exact sJ ad j d JA (by simpa using bb) (by simpa using tB)
   ·cases h
  ·cases h
theorem AX:∀ (d:Nat) (c c' : U),ut h d c=some c'->gm h c c'
 | 0,c,c',ag=>by cases ag
 | d+1,c,c',ag=>by
  unfold ut at ag;split at ag
  ·split at ag
   ·rename_i ad; cases ag;exact .aG _ _ (sK ad) (fun j c c' ah ef=>AX d c c' (sJ ad j c c' ah ef))
   ·cases ag
  ·split at ag
   ·rename_i ad; cases ag;exact .bv _ _ (sK ad) (fun j c c' ah ef=>AX d c c' (sJ ad j c c' ah ef))
   ·cases ag
  ·rename_i z b off len cap sz;split at ag
   ·rename_i aI;cases ag;rw[Nat.eq_of_beq_eq_true aI];exact .rE z b off cap sz
   ·split at ag
    ·rename_i n cs af;split at ag
     ·rename_i c0;simp only[Bool.and_eq_true] at c0;have aC:=Nat.eq_of_beq_eq_true c0.1;have dY:=Nat.le_of_ble_eq_true c0.2;subst aC;split at ag
      ·rename_i xs ad;cases ag;have bn:=sK ad;simp only[List.length_take,List.length_drop] at bn;have afK:xs.length=len*z:=by omega
       have e2:∀ (i:Nat),i<len->(l2 z len xs)[i]? = some ((xs.drop (i*z)).take z) :=fun i az=>Fu len xs i az
       have eh:∀ i,i<len->i*z+z<=len*z:=fun i az=>by rw[<-Nat.succ_mul]; exact Nat.mul_le_mul_right _ az
       refine .aq z b off len cap n cs _ af (u7 _ _) (fun e am=>?_) dY (fun i j e c c' am ai ah=>?_)
       ·obtain⟨i,az⟩:=List.mem_iff_getElem?.1 am;have dS:i<len:=by
         have:=(List.getElem?_eq_some_iff.1 az).1;rw[u7] at this; exact this
        rw[e2 i dS] at az;cases az;have:=eh i dS;simp; omega
       ·have dS:i<len:=by
         have:=(List.getElem?_eq_some_iff.1 am).1;rw[u7] at this; exact this
        rw[e2 i dS] at am;cases am;have tE:=eh i dS;have mH:j<z:=by have:=(List.getElem?_eq_some_iff.1 ai).1; simp at this; omega
        rw[List.getElem?_take_of_lt mH,List.getElem?_drop] at ai;refine AX d c c' (sJ ad (i*z+j) c c' ?_ ai);rw[List.getElem?_take_of_lt (by omega),List.getElem?_drop];exact ah
      ·cases ag
     ·cases ag
    ·cases ag
  ·rename_i b off sz;split at ag
   ·rename_i n cs af;split at ag
    ·rename_i aC;split at ag
     ·rename_i ad;cases ag;rw[<-Nat.eq_of_beq_eq_true aC];exact .ptr b off n cs _ af (sK ad) (fun j c c' ah ef=>AX d c c' (sJ ad j c c' ah ef))
     ·cases ag
    ·cases ag
   ·cases ag
  ·split at ag
   ·rename_i ah; cases ag; exact .same _ ah
   ·cases ag
theorem gm.rep (r:eA h l) {c c' : U} (ay:gm h c c') :gm (a7 l) c c':=by
 induction ay with
 | same c ah=>exact .same c ah
 | aG cs cs' al ap aS=>exact .aG cs cs' al aS
 | bv cs cs' al ap aS=>exact .bv cs cs' al aS
 | aq z b off len cap sz cs es af al ax cZ ap aS=>exact .aq z b off len cap sz cs es (by rw[<-r.f]; exact af) al ax cZ aS
 | rE z b off cap sz=>exact .rE z b off cap sz
 | ptr b off sz cs cs' af al ap aS=>exact .ptr b off sz cs cs' (by rw[<-r.f]; exact af) al aS
def Bp (P:Program) (G:Nat->U) (call:oz) :Prop:=
 ∀ (f:FuncId) (args:List U) (h:aM) (v:U) (h' : aM) (l:ao),eA h l->call f args h=some (v,h')->∃ l',eA h' l'/\∀ K:U->ao->Prop,K v l'->dh P G f args l (c:=⟨K⟩)
theorem agT {m:c2} {v:U} {l:ao} {K:U->ao->Prop} (ar:K v l) :ej m v l K:=by
 cases m<;>first | exact ar | exact .inl ar
theorem O7 {call:oz} (ah:Bp P G call) (r:eA h l) {b:qp} {s:hn} {v:U} (ag:BD P G call b s h=some (v,h')) :
  ∃ l',eA h' l'/\(∀ K:U->ao->Prop,K v l'->ih P G b (look s) l K)/\(∀ m,b=.gu m->bN P (cS G (look s)) l m=some (v,l')) :=by
 cases b with
 | gu m=>
  obtain⟨l',ad,ae⟩:=MA r ag;refine⟨l',ae,fun K aU=>?_,fun ch hm=>by cases hm; exact ad⟩;show W (bN P (cS G (look s)) l m) (c:=⟨fun x=>ej m x.1 x.2 K⟩);rw[y2];exact⟨_,ad,agT aU⟩
 | mu f args=>
  obtain⟨l',ad,ae⟩:=ah f _ h v h' l r ag;exact⟨l',ad,ae,fun m hm=>by cases hm⟩
 | mv x args=>
  simp only[BD] at ag;cases aE:cS G (look s) x<;>rw[aE] at ag<;>(try simp only at ag)<;>try (cases ag; done)
  rename_i g first gn
  split at ag
  ·rename_i iB;obtain⟨l',ad,ae⟩:=ah g _ h v h' l r ag;refine⟨l',ad,fun K aU=>?_,fun m hm=>by cases hm⟩;show u3 P G (cS G (look s) x) _ l (c:=⟨K⟩);unfold u3;rw[aE];exact⟨iB,ae K aU⟩
  ·cases ag
 | nT x name args=>
  simp only[BD] at ag;cases aE:cS G (look s) x<;>rw[aE] at ag<;>(try simp only at ag)<;>try (cases ag; done)
  rename_i t sT;split at ag
  ·rename_i g hm;split at ag
   ·rename_i iB;obtain⟨l',ad,ae⟩:=ah g _ h v h' l r ag;refine⟨l',ad,fun K aU=>?_,fun m hm=>by cases hm⟩;show u2 P G name (cS G (look s) x) _ l (c:=⟨K⟩);unfold u2;rw[aE];simp only[hm];exact⟨iB,ae K aU⟩
   ·cases ag
  ·cases ag
theorem FP {s:hn} {g:Option (Option Tmp × Bool)} {b:Bool} (aw:FO s g=some b) {p q:Prop} (ar:if b then p else q) :p3 (look s) g p q:=by
 unfold FO at aw;unfold p3;split at aw
 ·cases aw; exact ar
 ·rename_i d w;simp only[rh];split at aw
  ·rename_i x ag;simp only[ag];cases aw;unfold ri;cases afL:(x == w)<;>rw[afL] at ar<;>simpa using ar
  ·cases aw
  ·rename_i ad ae;cases aw;cases ag:look s d<;>first | exact (by simpa using ar) | (exact absurd ag (ad _)) | (exact absurd ag ae)
 ·cases aw; simpa using ar
theorem Nk {call:oz} (ah:Bp P G call) :∀ (x:List dd) (s:hn) (h:aM) (l:ao) (ga:hn) (h' : aM),eA h l->Er P G call x s h=some (ga,h')->
  ∃ l',eA h' l'/\∀ K:a8->ao->Prop,K (look ga) l'->i1 P G x (look s) l K
 | [],s,h,l,ga,h',r,ag=>by cases ag; exact⟨l,r,fun K aU=>aU⟩
 | x::xs,s,h,l,ga,h',r,ag=>by
  unfold Er at ag;split at ag
  ·rename_i aw;split at ag
   ·rename_i v ad af;obtain⟨l1,c7,ae,_⟩:=O7 ah r af;obtain⟨l',cx,aj⟩:=Nk ah xs _ ad l1 ga h' c7 ag;refine⟨l',cx,fun K aU=>?_⟩;unfold i1;refine FP aw ?_;simp only[if_true];refine ae _ ?_;rw[<-Hq];exact aj K aU
   ·cases ag
  ·rename_i aw;obtain⟨l',cx,aj⟩:=Nk ah xs _ h l ga h' r ag;refine⟨l',cx,fun K aU=>?_⟩;unfold i1;refine FP aw ?_;simp only[Bool.false_eq_true,if_false];rw[<-Hq];exact aj K aU
  ·cases ag
theorem aY.beq_eq {a b:aY} (h:aY.beq a b=true) :a=b:=by
 cases a<;>cases b<;>simp[aY.beq] at h
 ·rfl
 ·rfl
 ·obtain⟨ad,ae⟩:=h;rw[ad,ta ae]
theorem ak4 {b:qp} {s:hn} {v:U} {ad:aM} {l' l1:ao} (r:eA h l) (cx:eA h' l') (c7:eA ad l1) (ag:Ij P G b s v h h' ad=true) (bD:∀ m,b=.gu m->m.je=true->∃ n cs,l'=l++[.cells n cs]) :lW P G b (look s) v l l' l1:=by
 unfold Ij at ag;unfold lW;split at ag
 ·rename_i m;simp only;cases aC:m.je with
  | true=>
   rw[aC] at ag;simp only at ag ⊢;have am:=aY.beq_eq ag;obtain⟨n,cs,rfl⟩:=bD m rfl aC;rw[r.n] at am;have ae:h'.f l.length=(a7 (l++[.cells n cs])).f l.length:=cx.f _;rw[kr] at ae;simp only[List.getElem?_append_right (Nat.le_refl _),Nat.sub_self,List.getElem?_cons_zero] at ae ⊢;exact c7.some (am.trans ae) (by simp)
  | false=>
   rw[aC] at ag;simp only at ag ⊢;split at ag
   ·rename_i tK;split at ag
    ·rename_i a3 ae hm;obtain⟨bo,aj,_⟩:=MA c7 hm;rw[U.beq_eq ag] at aj;rw[Vq tK aj] at aj;exact aj
    ·cases ag
   ·cases ag
 ·rename_i af;split
  ·rename_i m; exact absurd rfl (af m)
  ·trivial
inductive y0 (P:Program) (G:Nat->U) :List (Nat × (aM->Bool))->iQ->Prop
 | nil:y0 P G [] []
 | cons {i p q r cx}:(∀ h l,eA h l->p h=true->q l)->y0 P G r cx->y0 P G ((i,p) ::r) ((i,q) ::cx)
theorem Q4 (r:eA h l) {ids:List Nat}:∀ {a:List (Nat × (aM->Bool))} {b:iQ},y0 P G a b->Ft ids h a=true->pw ids b l
 | _,_,.nil,_=>trivial
 | _,_,.cons av ay,ag=>by
  unfold Ft at ag;simp only[Bool.and_eq_true,Bool.or_eq_true,Bool.not_eq_true'] at ag;unfold pw;refine⟨fun az=>?_,Q4 r ay ag.2⟩;rcases ag.1 with ad | ad
  ·rw[az] at ad; cases ad
  ·exact av h l r ad
theorem agu {aA:Operand->U} {l l' : ao} {m:c2} {v:U} (aC:m.je=true) (hm:bN P aA l m=some (v,l')) :∃ n cs,l'=l++[.cells n cs] :=by
 cases m<;>simp only[c2.je,Bool.false_eq_true,reduceCtorEq] at aC<;>simp only[bN,map_some,Option.some.injEq,Prod.mk.injEq] at hm
 case alloc=>obtain⟨_,rfl⟩:=hm; exact⟨_,_,rfl⟩
 case box=>obtain⟨_,_,_,rfl⟩:=hm; exact⟨_,_,rfl⟩
 case qD=>obtain⟨_,_,_,rfl⟩:=hm; exact⟨_,_,rfl⟩
 case rm=>
  unfold rn at hm
  repeat' split at hm
  all_goals first | (cases hm; done) | (cases hm; exact⟨_,_,rfl⟩)
theorem Nh {call:oz} (ah:Bp P G call) :∀ (x:List dd) (s:hn) (h:aM) (l:ao) (ga:hn) (h' : aM) (a:List (Nat × (aM->Bool))) (b:iQ),eA h l->y0 P G a b->Ep P G call x s h a=some (ga,h')->
  ∃ l',eA h' l'/\∀ K:a8->ao->Prop,K (look ga) l'->jY P G x (look s) l b K
 | [],s,h,l,ga,h',a,b,r,ak,ag=>by cases ag; exact⟨l,r,fun K aU=>aU⟩
 | x::xs,s,h,l,ga,h',a,b,r,ak,ag=>by
  unfold Ep at ag;split at ag
  ·rename_i aw;split at ag
   ·rename_i v ad af;obtain⟨l1,c7,ae,C7⟩:=O7 ah r af;split at ag
    ·rename_i e2;have q6:y0 P G (match x.cb with | true=>(x.i,Ij P G x.b s v h ad) ::a | false=>a) (rC x.cb x.i (lW P G x.b (look s) v l l1) b) :=by
      cases x.cb with
      | false=>exact ak
      | true=>
       refine .cons (fun ae bo dU av=>ak4 r c7 dU av (fun m hm aC=>agu aC (C7 m hm))) ak
     obtain⟨l',cx,aj⟩:=Nh ah xs _ ad l1 ga h' _ _ c7 q6 ag;refine⟨l',cx,fun K aU=>?_⟩;unfold jY;refine FP aw ?_;simp only[if_true];refine ae _ ⟨Q4 c7 ak e2,?_⟩;rw[<-Hq];exact aj K aU
    ·cases ag
   ·cases ag
  ·rename_i aw;obtain⟨l',cx,aj⟩:=Nh ah xs _ h l ga h' a b r ak ag;refine⟨l',cx,fun K aU=>?_⟩;unfold jY;refine FP aw ?_;simp only[Bool.false_eq_true,if_false];rw[<-Hq];exact aj K aU
  ·cases ag
theorem Jr {call:oz} (ah:Bp P G call) :∀ (fuel:Nat) (c:fw) (s:hn) (h:aM) (l:ao) (e:rL) (ga:hn) (h' : aM),eA h l->Fr P G call fuel c s h=some (e,ga,h')->
  ∃ l',eA h' l'/\∀ K:hk,K e (look ga) l'->run P G c (look s) l K
 | 0,c,s,h,l,e,ga,h',r,ag=>by cases ag
 | k+1,c,s,h,l,e,ga,h',r,ag=>by
  have aS:=Jr ah k;unfold Fr Q2 at ag;cases c with
  | skip=>cases ag; exact⟨l,r,fun K aU=>aU⟩
  | ret=>cases ag; exact⟨l,r,fun K aU=>aU⟩
  | exit id=>cases ag; exact⟨l,r,fun K aU=>aU⟩
  | lk x=>
   simp only at ag;split at ag
   ·rename_i cQ ad ay;cases ag;obtain⟨l',cx,ae⟩:=Nk ah x s h l ga h' r ay;exact⟨l',cx,fun K aU=>ae _ aU⟩
   ·cases ag
  | xm x=>
   simp only at ag;split at ag
   ·rename_i cQ ad ay;cases ag;obtain⟨l',cx,ae⟩:=Nh ah x s h l ga h' [] [] r .nil ay;exact⟨l',cx,fun K aU=>ae _ aU⟩
   ·cases ag
  | seq a b=>
   simp only at ag;split at ag
   ·rename_i cQ ad aB;obtain⟨l1,c7,ae⟩:=aS a s h l _ cQ ad r aB;obtain⟨l',cx,aj⟩:=aS b cQ ad l1 e ga h' c7 ag;refine⟨l',cx,fun K aU=>?_⟩;unfold run;exact ae _ (aj K aU)
   ·rename_i bV;obtain⟨l',cx,ae⟩:=aS a s h l e ga h' r ag;refine⟨l',cx,fun K aU=>?_⟩;unfold run;refine ae _ ?_;unfold oo;cases e with
    | normal=>exact absurd ag (bV _ _)
    | exit id=>exact aU
    | ret=>exact aU
  | cond c x y=>
   simp only at ag;split at ag
   ·rename_i kz;obtain⟨l',cx,ae⟩:=aS x s h l e ga h' r ag;refine⟨l',cx,fun K aU=>?_⟩;unfold run yg;rw[kz];exact ae K aU
   ·rename_i kz;obtain⟨l',cx,ae⟩:=aS y s h l e ga h' r ag;refine⟨l',cx,fun K aU=>?_⟩;unfold run yg;rw[kz];exact ae K aU
   ·cases ag
  | block id c=>
   simp only at ag;split at ag
   ·rename_i sp cQ ad aB;obtain⟨l',cx,ae⟩:=aS c s h l _ cQ ad r aB;split at ag
    ·rename_i hV;cases ag;refine⟨l',cx,fun K aU=>?_⟩;unfold run;refine ae _ ?_;unfold rg;simp only;rw[hV];exact aU
    ·rename_i hV;cases ag;refine⟨l',cx,fun K aU=>?_⟩;unfold run;refine ae _ ?_;unfold rg;simp only;rw[hV];exact aU
   ·rename_i bV;obtain⟨l',cx,ae⟩:=aS c s h l e ga h' r ag;refine⟨l',cx,fun K aU=>?_⟩;unfold run;refine ae _ ?_;unfold rg;cases e with
    | normal=>exact aU
    | exit id=>exact absurd ag (bV _ _ _)
    | ret=>exact aU
  | loop c=>
   simp only at ag;split at ag
   ·rename_i cQ ad aB;obtain⟨l1,c7,ae⟩:=aS c s h l _ cQ ad r aB;obtain⟨l',cx,aj⟩:=aS (.loop c) cQ ad l1 e ga h' c7 ag;refine⟨l',cx,fun K aU=>?_⟩;have aF:=aj K aU;unfold run at aF ⊢;obtain⟨n,aC⟩:=aF;exact⟨n+1,ae _ aC⟩
   ·rename_i bV;obtain⟨l',cx,ae⟩:=aS c s h l e ga h' r ag;refine⟨l',cx,fun K aU=>?_⟩;unfold run;refine⟨1,ae _ ?_⟩;unfold oo;cases e with
    | normal=>exact absurd ag (bV _ _)
    | exit id=>exact aU
    | ret=>exact aU
def Bt (P:Program) (G:Nat->U) (orc:qt) :Prop:=∀ f n g args r,orc f=some (n,g)->g args=some r->bA P G f args r/\(n=true->gl P G f args r)
def Bx (P:Program) (lm:uN) :Prop:=∀ f c nE,lm f=some (c,nE)->ve P f=some c/\vf P f=some nE
theorem Nc (r:eA h l) {s:hn}:∀ {ms:List c2} {acc:List U} {v:U},En P G s h ms acc=some v->∀ K:U->ao->Prop,K v l->om P G K (look s) l ms acc
 | [],acc,v,ag,K,aU=>by cases ag; exact aU
 | m::ms,acc,v,ag,K,aU=>by
  unfold En at ag;split at ag
  ·rename_i x ad hm;obtain⟨l1,ae,_⟩:=MA r hm;unfold om;rw[y2];exact⟨_,ae,Nc r ag K aU⟩
  ·cases ag
theorem Vn (args:List U) :look (AK 0 .nil args)=lv args:=by
 rw[Vo];funext t;unfold lv;by_cases aV:t<args.length
 ·rw[if_pos ⟨Nat.zero_le _,by omega⟩]; rfl
 ·rw[if_neg (by omega)];rw[List.getD_eq_getElem?_getD,List.getElem?_eq_none (by omega)]; rfl
theorem ZB {orc:qt} (au:Bt P G orc) {f:FuncId} {args:List U} {h:aM} {l:ao} {v:U} (r:eA h l) (ag:I9 orc f args h=some v) (K:U->ao->Prop) (aU:K v l) :dh P G f args l (c:=⟨K⟩) :=by
 unfold I9 at ag;split at ag
 ·rename_i n g aw;split at ag
  ·rename_i iS aB;split at ag
   ·rename_i a3 ap;split at ag
    ·rename_i aE;cases ag;obtain⟨iv,gP⟩:=au f n g iS v aw ap;cases n with
     | true=>exact⟨v,l,.M0 (gP rfl) (sK aB) (fun j c c' ah ef=>(AX 20 c c' (sJ aB j c c' ah ef)).rep r),Nat.le_refl _,aU⟩
     | false=>exact⟨v,l,.MZ iv (sK aB) (fun j c c' ah ef=>(AX 20 c c' (sJ aB j c c' ah ef)).rep r) aE,Nat.le_refl _,aU⟩
    ·cases ag
   ·cases ag
  ·cases ag
 ·cases ag
theorem agc (r:eA h l) {z by_ i h1:Nat} {s v:U} {vs:List U} (ag:Dy z by_ h s i h1 vs=some (v,h')) :∃ l',eA h' l'/\Dy z by_ (a7 l) s i h1 vs=some (v,a7 l')/\l.length<=l'.length:=by
 unfold Dy at ag ⊢;cases s<;>simp only at ag<;>try (cases ag; done)
 case aH=>
  split at ag
  ·rename_i ah;cases ag;refine⟨_,r.push _,?_,by simp⟩;simp only;rw[if_pos ah,nN,EW,r.n]
  ·cases ag
 case aq gA b off len cap sz=>
  simp only;rw[<-r.f b];cases af:h.f b<;>rw[af] at ag<;>(try simp only at ag)<;>try (cases ag; done)
  simp only;split at ag
  ·rename_i ah;rw[if_pos ah];cases ag;have al:=r.some af (by simp);refine⟨_,(r.set al _).push _,?_,by simp⟩;rw[pl _ (cp al),nN,EW,r.n]
  ·cases ag
theorem af9 (r:eA h l) {z by_:Nat} {args:List U} {v:U} (ag:sq z by_ args h=some (v,h')) :∃ l',eA h' l'/\sq z by_ args (a7 l)=some (v,a7 l')/\l.length<=l'.length:=by
 unfold sq at ag ⊢;split at ag
 ·rename_i s x y;split at ag
  ·rename_i i fU h1 gP bo b5 ie tU;rw[<-r.f h1];split at ag
   ·rename_i eG vs k2
    try rw[k2]
    try simp only
    split at ag
    ·rename_i ah
     try rw[if_pos ah]
     exact agc r ag
    ·cases ag
   ·cases ag
  ·cases ag
 ·cases ag
theorem Jq [qs P G] {orc:qt} {lm:uN} (au:Bt P G orc) (aV:Bx P lm) (fuel:Nat) :∀ k,Bp P G (BL P G orc lm fuel k)
 | 0=>fun f args h v h' l r ag=>by cases ag
 | k+1=>fun f args h v h' l r ag=>by
  have aS:=Jq au aV fuel k;unfold BL QZ at ag;split at ag
  ·rename_i z by_ aw;obtain⟨l',cx,ad,ae⟩:=af9 r ag;exact⟨l',cx,fun K aU=>⟨v,l',.ext (qs.ok f z by_ aw args (a7 l) v (a7 l') ad),ae,aU⟩⟩
  split at ag
  ·rename_i a3 ap;cases ag;exact⟨l,r,fun K aU=>ZB au r ap K aU⟩
  ·split at ag
   ·cases ag
   ·rename_i c nE afC;obtain⟨mD,l9⟩:=aV f c nE afC;split at ag
    ·rename_i cQ ad fJ;obtain⟨l1,c7,ae⟩:=Jr aS fuel c _ h l _ cQ ad r fJ;split at ag
     ·rename_i a3 tR;cases ag;refine⟨l1,c7,fun K aU=>Fp mD l9 ?_⟩;rw[<-Vn];exact ae _ (Nc c7 tR K aU)
     ·cases ag
    ·rename_i cQ ad fJ;obtain⟨l1,c7,ae⟩:=Jr aS fuel c _ h l _ cQ ad r fJ;split at ag
     ·rename_i a3 tR;cases ag;refine⟨l1,c7,fun K aU=>Fp mD l9 ?_⟩;rw[<-Vn];exact ae _ (Nc c7 tR K aU)
     ·cases ag
    ·cases ag
end
def Xl (P:Program) (G:Nat->U) [qs P G] (orc:qt) (lm:uN) (fuel k:Nat) (f:FuncId) (args:List U) (r:U) :Bool:=
 match BL P G orc lm fuel k f args aM.empty with
 | some (v,h)=>match ut h 20 v with
  | some a3=>U.beq a3 r
  | none=>false
 | none=>false
theorem aag {P:Program} {G:Nat->U} [qs P G] {orc:qt} {lm:uN} (au:Bt P G orc) (aV:Bx P lm) {fuel k:Nat} {f:FuncId} {args:List U} {b:Bool} (ag:Xl P G orc lm fuel k f args (.bool b)=true) :
  dh P G f args [] (c:=⟨fun r _=>r=.bool b⟩) :=by
 unfold Xl at ag;split at ag
 ·rename_i v h ah;split at ag
  ·rename_i a3 ap;obtain⟨l',_,ae⟩:=Jq au aV fuel k f args aM.empty v h [] eA.nil ah;refine ae _ ?_;have:=U.beq_eq ag;subst this;unfold ut at ap
   repeat' split at ap
   all_goals first | (cases ap; done) | (cases ap; rfl)
  ·cases ag
 ·cases ag
abbrev dg (t:Nat) :Operand:=.tmp t
def rep (n:Nat) (c:U) :List U:=List.replicate n c
abbrev mV (i d x:Nat) :dd:=⟨i,some d,none,.gu (.fL (.tmp x)),[],false⟩
abbrev fG (i d:Nat) (m:c2) :dd:=⟨i,some d,none,.gu m,[],false⟩
abbrev Eu (i:Nat) (m:c2) :dd:=⟨i,none,none,.gu m,[],false⟩
abbrev sc (i d:Nat) (f:FuncId) (args:List Operand) :dd:=⟨i,some d,none,.mu f args,[],false⟩
abbrev A5 (i d j:Nat) (w:Bool) (m:c2) :dd:=⟨i,some d,some (some j,w),.gu m,[],false⟩
@[simp] theorem ar2 (n:Nat) (c:U) :(rep n c).length=n:=by simp[rep]
def pj {α:Type} (p:Nat->α->Prop) :cy α->Prop
 | .nil=>True
 | .node l v r=>(∀ x,v=some x->p 0 x)/\pj (fun m=>p (2*m+1)) l/\pj (fun m=>p (2*m+2)) r
theorem I6 {α:Type}:∀ (t:cy α) (p:Nat->α->Prop),pj p t->∀ n x,t.get n=some x->p n x
 | .nil,p,h,n,x,ag=>by cases ag
 | .node l v r,p,h,n,x,ag=>by
  obtain⟨ad,ae,aj⟩:=h;unfold cy.get at ag;by_cases aI:n=0
  ·subst aI; exact ad x ag
  ·rw[jT aI] at ag;simp only at ag;by_cases au:n % 2=1
   ·rw[sB au] at ag;have:=I6 l _ ae _ x ag;rw[show 2*(n / 2)+1=n by omega] at this; exact this
   ·rw[jT au] at ag;have:=I6 r _ aj _ x ag;rw[show 2*(n / 2 - 1)+2=n by omega] at this; exact this
theorem bH {α:Type} {p:Nat->α->Prop}:pj p .nil:=trivial
theorem fl {α:Type} {p:Nat->α->Prop} {l r:cy α} (ad:pj (fun m=>p (2*m+1)) l) (ae:pj (fun m=>p (2*m+2)) r) :pj p (.node l none r) :=⟨fun x h=>(by cases h),ad,ae⟩
theorem ck {α:Type} {p:Nat->α->Prop} {l r:cy α} {x:α} (ag:p 0 x) (ad:pj (fun m=>p (2*m+1)) l) (ae:pj (fun m=>p (2*m+2)) r) :pj p (.node l (some x) r) :=⟨fun y h=>(by cases h; exact ag),ad,ae⟩
abbrev E0 (P:Program) (f:Nat) (x:fw × List c2) :Prop:=ve P f=some x.1/\vf P f=some x.2
theorem ali {P:Program} {t:cy (fw × List c2)} (h:pj (E0 P) t) :Bx P (fun f=>t.get f) :=fun f c nE ag=>I6 t _ h f (c,nE) ag
def u {w:Nat} (a:BitVec w) :Int:=(a.toNat:Int)
@[simp] theorem mg {w:Nat} (a:BitVec w) :BitVec.ofInt w (u a)=a:=by
 unfold u;rw[BitVec.ofInt_natCast,BitVec.ofNat_toNat,BitVec.setWidth_eq]
@[simp] theorem wK {w:Nat} (a b:BitVec w) :(u a=u b)<->a=b:=⟨fun h=>BitVec.eq_of_toNat_eq (by unfold u at h; exact Int.ofNat_inj.1 h),fun h=>by rw[h]⟩
@[simp] theorem asJ {w:Nat} (a b:BitVec w) :(u a<u b)<->a<b:=by unfold u; rw[Int.ofNat_lt]; rfl
@[simp] theorem asI {w:Nat} (a b:BitVec w) :(u a<=u b)<->a<=b:=by unfold u; rw[Int.ofNat_le]; rfl
@[simp] theorem asK {w:Nat} (a:BitVec w) :0<=u a:=Int.natCast_nonneg _
@[simp] theorem asL {w:Nat} (a:BitVec w) :(u a).toNat=a.toNat:=Int.toNat_natCast _
theorem asH {w:Nat} (a:BitVec w) :u a<2 ^ w:=by
 have:=a.isLt;unfold u
 exact_mod_cast this
@[simp] theorem arR {w:Nat} (a b:Int) :BitVec.ofInt w (a - b)=BitVec.ofInt w a - BitVec.ofInt w b:=by
 rw[Int.sub_eq_add_neg,BitVec.ofInt_add,BitVec.ofInt_neg,BitVec.sub_eq_add_neg]
attribute [simp] BitVec.ofInt_add BitVec.ofInt_mul
theorem p8 {w:Nat} (v:Nat) (a:BitVec w) :BitVec.ofInt v (u a)=a.setWidth v:=by
 unfold u;rw[BitVec.ofInt_natCast,BitVec.ofNat_toNat]
section
abbrev bz (a:BitVec 8) :U:=.int .u8 (u a)
@[simp] theorem EP (n:Int) :IntKind.u8.wrap n=u (BitVec.ofInt 8 n) :=by
 have aQ:(2 ^ IntKind.u8.bits:Int)=256:=by decide
 have fc:IntKind.u8.signed=false:=rfl;simp only[IntKind.wrap,aQ,fc,Bool.false_and,Bool.false_eq_true,if_false,u,BitVec.toNat_ofInt];have:(2 ^ 8:Nat)=256:=by decide
 rw[this];omega
@[simp] theorem asS (a:Int) :qk .xor (.int .u8 a)=some (.int .u8 (u (~~~(BitVec.ofInt 8 a)))) :=by
 show some (U.int .u8 (IntKind.u8.wrap (u (BitVec.ofInt 8 (255:Int) ^^^ BitVec.ofInt 8 a))))=_;rw[EP,mg];have:BitVec.ofInt 8 (255:Int)=BitVec.allOnes 8:=by decide
 rw[this,BitVec.allOnes_xor]
theorem Z2 (a:BitVec 8) (k' : IntKind) (n:Nat) :cm .shl .u8 (u a) k' (n:Int)=some (.int .u8 (u (a <<< n))) :=by
 have aI:¬((n:Int)<0) :=by omega
 show (if (n:Int)<0 then none else some (U.int .u8 (IntKind.u8.wrap ((a.toNat:Int)*2 ^ min (n:Int).toNat 8))))=_;rw[if_neg aI];congr 2;rw[EP,Int.toNat_natCast];unfold u;congr 1;have:((a.toNat:Int)*2 ^ min n 8)=((a.toNat*2 ^ min n 8:Nat) :Int) :=by rw[Int.natCast_mul,Int.natCast_pow]; rfl
 rw[this,BitVec.ofInt_natCast,BitVec.toNat_ofNat,BitVec.toNat_shiftLeft,Nat.shiftLeft_eq];rcases Nat.lt_or_ge n 8 with h | h
 ·rw[Nat.min_eq_left (Nat.le_of_lt h)]
 ·rw[Nat.min_eq_right h];have ad:a.toNat*2 ^ 8 % 2 ^ 8=0:=Nat.mul_mod_left _ _;obtain⟨m,rfl⟩:=Nat.exists_eq_add_of_le h;rw[ad,Nat.pow_add,Nat.mul_left_comm,Nat.mul_mod_right]
theorem Z5 (a:BitVec 8) (k' : IntKind) (n:Nat) :cm .shr .u8 (u a) k' (n:Int)=some (.int .u8 (u (a >>> n))) :=by
 have aI:¬((n:Int)<0) :=by omega
 show (if (n:Int)<0 then none else some (U.int .u8 ((a.toNat:Int).fdiv (2 ^ min (n:Int).toNat 8))))=_;rw[if_neg aI];congr 2;rw[Int.toNat_natCast];unfold u;have:((2:Int) ^ min n 8)=((2 ^ min n 8:Nat) :Int) :=by rw[Int.natCast_pow]; rfl
 rw[this,Int.fdiv_eq_ediv_of_nonneg _ (Int.natCast_nonneg _),<-Int.natCast_ediv,BitVec.toNat_ushiftRight,Nat.shiftRight_eq_div_pow];congr 1;rcases Nat.lt_or_ge n 8 with h | h
 ·rw[Nat.min_eq_left (Nat.le_of_lt h)]
 ·rw[Nat.min_eq_right h,Nat.div_eq_of_lt a.isLt,Nat.div_eq_of_lt (Nat.lt_of_lt_of_le a.isLt (Nat.pow_le_pow_right (by omega) h))]
@[simp] theorem anr (a:BitVec 8) (k' : IntKind) (n:Int) (h:0<=n) :cm .shl .u8 (u a) k' n=some (.int .u8 (u (a <<< n.toNat))) :=by
 obtain⟨m,rfl⟩:=Int.eq_ofNat_of_zero_le h;exact Z2 a k' m
@[simp] theorem anv (a:BitVec 8) (k' : IntKind) (n:Int) (h:0<=n) :cm .shr .u8 (u a) k' n=some (.int .u8 (u (a >>> n.toNat))) :=by
 obtain⟨m,rfl⟩:=Int.eq_ofNat_of_zero_le h;exact Z5 a k' m
@[simp] theorem ann (a b:BitVec 8) (h:b≠0#8) :cm .rem .u8 (u a) .u8 (u b)=some (.int .u8 (u (a % b))) :=by
 have af:(b.toNat:Int)≠0:=fun e=>h (BitVec.eq_of_toNat_eq (by simpa using e))
 show (if IntKind.u8=IntKind.u8/\(b.toNat:Int)≠0 then some (U.int .u8 ((a.toNat:Int).tmod b.toNat)) else none)=_;rw[if_pos ⟨rfl,af⟩];unfold u;rw[BitVec.toNat_umod];rfl
@[simp] theorem anC (a b:Int) :cm .xor .u8 a .u8 b=some (.int .u8 (u (BitVec.ofInt 8 a ^^^ BitVec.ofInt 8 b))) :=by
 show some (U.int .u8 (IntKind.u8.wrap (u (BitVec.ofInt 8 a ^^^ BitVec.ofInt 8 b))))=_;rw[EP,mg]
@[simp] theorem anl (a b:Int) :cm .or .u8 a .u8 b=some (.int .u8 (u (BitVec.ofInt 8 a ||| BitVec.ofInt 8 b))) :=by
 show some (U.int .u8 (IntKind.u8.wrap (u (BitVec.ofInt 8 a ||| BitVec.ofInt 8 b))))=_;rw[EP,mg]
@[simp] theorem am2 (a b:Int) :cm .and .u8 a .u8 b=some (.int .u8 (u (BitVec.ofInt 8 a &&& BitVec.ofInt 8 b))) :=by
 show some (U.int .u8 (IntKind.u8.wrap (u (BitVec.ofInt 8 a &&& BitVec.ofInt 8 b))))=_;rw[EP,mg]
end

section
abbrev Fy (a:BitVec 16) :U:=.int .u16 (u a)
@[simp] theorem EO (n:Int) :IntKind.u16.wrap n=u (BitVec.ofInt 16 n) :=by
 have aQ:(2 ^ IntKind.u16.bits:Int)=65536:=by decide
 have fc:IntKind.u16.signed=false:=rfl;simp only[IntKind.wrap,aQ,fc,Bool.false_and,Bool.false_eq_true,if_false,u,BitVec.toNat_ofInt];have:(2 ^ 16:Nat)=65536:=by decide
 rw[this];omega
@[simp] theorem asP (a:Int) :qk .xor (.int .u16 a)=some (.int .u16 (u (~~~(BitVec.ofInt 16 a)))) :=by
 show some (U.int .u16 (IntKind.u16.wrap (u (BitVec.ofInt 16 (65535:Int) ^^^ BitVec.ofInt 16 a))))=_;rw[EO,mg];have:BitVec.ofInt 16 (65535:Int)=BitVec.allOnes 16:=by decide
 rw[this,BitVec.allOnes_xor]
theorem Z0 (a:BitVec 16) (k' : IntKind) (n:Nat) :cm .shl .u16 (u a) k' (n:Int)=some (.int .u16 (u (a <<< n))) :=by
 have aI:¬((n:Int)<0) :=by omega
 show (if (n:Int)<0 then none else some (U.int .u16 (IntKind.u16.wrap ((a.toNat:Int)*2 ^ min (n:Int).toNat 16))))=_;rw[if_neg aI];congr 2;rw[EO,Int.toNat_natCast];unfold u;congr 1;have:((a.toNat:Int)*2 ^ min n 16)=((a.toNat*2 ^ min n 16:Nat) :Int) :=by rw[Int.natCast_mul,Int.natCast_pow]; rfl
 rw[this,BitVec.ofInt_natCast,BitVec.toNat_ofNat,BitVec.toNat_shiftLeft,Nat.shiftLeft_eq];rcases Nat.lt_or_ge n 16 with h | h
 ·rw[Nat.min_eq_left (Nat.le_of_lt h)]
 ·rw[Nat.min_eq_right h];have ad:a.toNat*2 ^ 16 % 2 ^ 16=0:=Nat.mul_mod_left _ _;obtain⟨m,rfl⟩:=Nat.exists_eq_add_of_le h;rw[ad,Nat.pow_add,Nat.mul_left_comm,Nat.mul_mod_right]
theorem Z3 (a:BitVec 16) (k' : IntKind) (n:Nat) :cm .shr .u16 (u a) k' (n:Int)=some (.int .u16 (u (a >>> n))) :=by
 have aI:¬((n:Int)<0) :=by omega
 show (if (n:Int)<0 then none else some (U.int .u16 ((a.toNat:Int).fdiv (2 ^ min (n:Int).toNat 16))))=_;rw[if_neg aI];congr 2;rw[Int.toNat_natCast];unfold u;have:((2:Int) ^ min n 16)=((2 ^ min n 16:Nat) :Int) :=by rw[Int.natCast_pow]; rfl
 rw[this,Int.fdiv_eq_ediv_of_nonneg _ (Int.natCast_nonneg _),<-Int.natCast_ediv,BitVec.toNat_ushiftRight,Nat.shiftRight_eq_div_pow];congr 1;rcases Nat.lt_or_ge n 16 with h | h
 ·rw[Nat.min_eq_left (Nat.le_of_lt h)]
 ·rw[Nat.min_eq_right h,Nat.div_eq_of_lt a.isLt,Nat.div_eq_of_lt (Nat.lt_of_lt_of_le a.isLt (Nat.pow_le_pow_right (by omega) h))]
@[simp] theorem ano (a:BitVec 16) (k' : IntKind) (n:Int) (h:0<=n) :cm .shl .u16 (u a) k' n=some (.int .u16 (u (a <<< n.toNat))) :=by
 obtain⟨m,rfl⟩:=Int.eq_ofNat_of_zero_le h;exact Z0 a k' m
@[simp] theorem ans (a:BitVec 16) (k' : IntKind) (n:Int) (h:0<=n) :cm .shr .u16 (u a) k' n=some (.int .u16 (u (a >>> n.toNat))) :=by
 obtain⟨m,rfl⟩:=Int.eq_ofNat_of_zero_le h;exact Z3 a k' m
@[simp] theorem anm (a b:BitVec 16) (h:b≠0#16) :cm .rem .u16 (u a) .u16 (u b)=some (.int .u16 (u (a % b))) :=by
 have af:(b.toNat:Int)≠0:=fun e=>h (BitVec.eq_of_toNat_eq (by simpa using e))
 show (if IntKind.u16=IntKind.u16/\(b.toNat:Int)≠0 then some (U.int .u16 ((a.toNat:Int).tmod b.toNat)) else none)=_;rw[if_pos ⟨rfl,af⟩];unfold u;rw[BitVec.toNat_umod];rfl
@[simp] theorem anz (a b:Int) :cm .xor .u16 a .u16 b=some (.int .u16 (u (BitVec.ofInt 16 a ^^^ BitVec.ofInt 16 b))) :=by
 show some (U.int .u16 (IntKind.u16.wrap (u (BitVec.ofInt 16 a ^^^ BitVec.ofInt 16 b))))=_;rw[EO,mg]
@[simp] theorem ani (a b:Int) :cm .or .u16 a .u16 b=some (.int .u16 (u (BitVec.ofInt 16 a ||| BitVec.ofInt 16 b))) :=by
 show some (U.int .u16 (IntKind.u16.wrap (u (BitVec.ofInt 16 a ||| BitVec.ofInt 16 b))))=_;rw[EO,mg]
@[simp] theorem am0 (a b:Int) :cm .and .u16 a .u16 b=some (.int .u16 (u (BitVec.ofInt 16 a &&& BitVec.ofInt 16 b))) :=by
 show some (U.int .u16 (IntKind.u16.wrap (u (BitVec.ofInt 16 a &&& BitVec.ofInt 16 b))))=_;rw[EO,mg]
end

section
abbrev br (a:BitVec 32) :U:=.int .u32 (u a)
@[simp] theorem Bl (n:Int) :IntKind.u32.wrap n=u (BitVec.ofInt 32 n) :=by
 have aQ:(2 ^ IntKind.u32.bits:Int)=4294967296:=by decide
 have fc:IntKind.u32.signed=false:=rfl;simp only[IntKind.wrap,aQ,fc,Bool.false_and,Bool.false_eq_true,if_false,u,BitVec.toNat_ofInt];have:(2 ^ 32:Nat)=4294967296:=by decide
 rw[this];omega
@[simp] theorem asQ (a:Int) :qk .xor (.int .u32 a)=some (.int .u32 (u (~~~(BitVec.ofInt 32 a)))) :=by
 show some (U.int .u32 (IntKind.u32.wrap (u (BitVec.ofInt 32 (4294967295:Int) ^^^ BitVec.ofInt 32 a))))=_;rw[Bl,mg];have:BitVec.ofInt 32 (4294967295:Int)=BitVec.allOnes 32:=by decide
 rw[this,BitVec.allOnes_xor]
theorem Z1 (a:BitVec 32) (k' : IntKind) (n:Nat) :cm .shl .u32 (u a) k' (n:Int)=some (.int .u32 (u (a <<< n))) :=by
 have aI:¬((n:Int)<0) :=by omega
 show (if (n:Int)<0 then none else some (U.int .u32 (IntKind.u32.wrap ((a.toNat:Int)*2 ^ min (n:Int).toNat 32))))=_;rw[if_neg aI];congr 2;rw[Bl,Int.toNat_natCast];unfold u;congr 1;have:((a.toNat:Int)*2 ^ min n 32)=((a.toNat*2 ^ min n 32:Nat) :Int) :=by rw[Int.natCast_mul,Int.natCast_pow]; rfl
 rw[this,BitVec.ofInt_natCast,BitVec.toNat_ofNat,BitVec.toNat_shiftLeft,Nat.shiftLeft_eq];rcases Nat.lt_or_ge n 32 with h | h
 ·rw[Nat.min_eq_left (Nat.le_of_lt h)]
 ·rw[Nat.min_eq_right h];have ad:a.toNat*2 ^ 32 % 2 ^ 32=0:=Nat.mul_mod_left _ _;obtain⟨m,rfl⟩:=Nat.exists_eq_add_of_le h;rw[ad,Nat.pow_add,Nat.mul_left_comm,Nat.mul_mod_right]
theorem Z4 (a:BitVec 32) (k' : IntKind) (n:Nat) :cm .shr .u32 (u a) k' (n:Int)=some (.int .u32 (u (a >>> n))) :=by
 have aI:¬((n:Int)<0) :=by omega
 show (if (n:Int)<0 then none else some (U.int .u32 ((a.toNat:Int).fdiv (2 ^ min (n:Int).toNat 32))))=_;rw[if_neg aI];congr 2;rw[Int.toNat_natCast];unfold u;have:((2:Int) ^ min n 32)=((2 ^ min n 32:Nat) :Int) :=by rw[Int.natCast_pow]; rfl
 rw[this,Int.fdiv_eq_ediv_of_nonneg _ (Int.natCast_nonneg _),<-Int.natCast_ediv,BitVec.toNat_ushiftRight,Nat.shiftRight_eq_div_pow];congr 1;rcases Nat.lt_or_ge n 32 with h | h
 ·rw[Nat.min_eq_left (Nat.le_of_lt h)]
 ·rw[Nat.min_eq_right h,Nat.div_eq_of_lt a.isLt,Nat.div_eq_of_lt (Nat.lt_of_lt_of_le a.isLt (Nat.pow_le_pow_right (by omega) h))]
@[simp] theorem anp (a:BitVec 32) (k' : IntKind) (n:Int) (h:0<=n) :cm .shl .u32 (u a) k' n=some (.int .u32 (u (a <<< n.toNat))) :=by
 obtain⟨m,rfl⟩:=Int.eq_ofNat_of_zero_le h;exact Z1 a k' m
@[simp] theorem ant (a:BitVec 32) (k' : IntKind) (n:Int) (h:0<=n) :cm .shr .u32 (u a) k' n=some (.int .u32 (u (a >>> n.toNat))) :=by
 obtain⟨m,rfl⟩:=Int.eq_ofNat_of_zero_le h;exact Z4 a k' m
@[simp] theorem ZY (a b:BitVec 32) (h:b≠0#32) :cm .rem .u32 (u a) .u32 (u b)=some (.int .u32 (u (a % b))) :=by
 have af:(b.toNat:Int)≠0:=fun e=>h (BitVec.eq_of_toNat_eq (by simpa using e))
 show (if IntKind.u32=IntKind.u32/\(b.toNat:Int)≠0 then some (U.int .u32 ((a.toNat:Int).tmod b.toNat)) else none)=_;rw[if_pos ⟨rfl,af⟩];unfold u;rw[BitVec.toNat_umod];rfl
@[simp] theorem anA (a b:Int) :cm .xor .u32 a .u32 b=some (.int .u32 (u (BitVec.ofInt 32 a ^^^ BitVec.ofInt 32 b))) :=by
 show some (U.int .u32 (IntKind.u32.wrap (u (BitVec.ofInt 32 a ^^^ BitVec.ofInt 32 b))))=_;rw[Bl,mg]
@[simp] theorem anj (a b:Int) :cm .or .u32 a .u32 b=some (.int .u32 (u (BitVec.ofInt 32 a ||| BitVec.ofInt 32 b))) :=by
 show some (U.int .u32 (IntKind.u32.wrap (u (BitVec.ofInt 32 a ||| BitVec.ofInt 32 b))))=_;rw[Bl,mg]
@[simp] theorem am1 (a b:Int) :cm .and .u32 a .u32 b=some (.int .u32 (u (BitVec.ofInt 32 a &&& BitVec.ofInt 32 b))) :=by
 show some (U.int .u32 (IntKind.u32.wrap (u (BitVec.ofInt 32 a &&& BitVec.ofInt 32 b))))=_;rw[Bl,mg]
end

section
abbrev dN (a:BitVec 64) :U:=.int .u64 (u a)
@[simp] theorem yQ (n:Int) :IntKind.u64.wrap n=u (BitVec.ofInt 64 n) :=by
 have aQ:(2 ^ IntKind.u64.bits:Int)=18446744073709551616:=by decide
 have fc:IntKind.u64.signed=false:=rfl;simp only[IntKind.wrap,aQ,fc,Bool.false_and,Bool.false_eq_true,if_false,u,BitVec.toNat_ofInt];have:(2 ^ 64:Nat)=18446744073709551616:=by decide
 rw[this];omega
@[simp] theorem asR (a:Int) :qk .xor (.int .u64 a)=some (.int .u64 (u (~~~(BitVec.ofInt 64 a)))) :=by
 show some (U.int .u64 (IntKind.u64.wrap (u (BitVec.ofInt 64 (18446744073709551615:Int) ^^^ BitVec.ofInt 64 a))))=_;rw[yQ,mg];have:BitVec.ofInt 64 (18446744073709551615:Int)=BitVec.allOnes 64:=by decide
 rw[this,BitVec.allOnes_xor]
theorem Pl (a:BitVec 64) (k' : IntKind) (n:Nat) :cm .shl .u64 (u a) k' (n:Int)=some (.int .u64 (u (a <<< n))) :=by
 have aI:¬((n:Int)<0) :=by omega
 show (if (n:Int)<0 then none else some (U.int .u64 (IntKind.u64.wrap ((a.toNat:Int)*2 ^ min (n:Int).toNat 64))))=_;rw[if_neg aI];congr 2;rw[yQ,Int.toNat_natCast];unfold u;congr 1;have:((a.toNat:Int)*2 ^ min n 64)=((a.toNat*2 ^ min n 64:Nat) :Int) :=by rw[Int.natCast_mul,Int.natCast_pow]; rfl
 rw[this,BitVec.ofInt_natCast,BitVec.toNat_ofNat,BitVec.toNat_shiftLeft,Nat.shiftLeft_eq];rcases Nat.lt_or_ge n 64 with h | h
 ·rw[Nat.min_eq_left (Nat.le_of_lt h)]
 ·rw[Nat.min_eq_right h];have ad:a.toNat*2 ^ 64 % 2 ^ 64=0:=Nat.mul_mod_left _ _;obtain⟨m,rfl⟩:=Nat.exists_eq_add_of_le h;rw[ad,Nat.pow_add,Nat.mul_left_comm,Nat.mul_mod_right]
theorem u0 (a:BitVec 64) (k' : IntKind) (n:Nat) :cm .shr .u64 (u a) k' (n:Int)=some (.int .u64 (u (a >>> n))) :=by
 have aI:¬((n:Int)<0) :=by omega
 show (if (n:Int)<0 then none else some (U.int .u64 ((a.toNat:Int).fdiv (2 ^ min (n:Int).toNat 64))))=_;rw[if_neg aI];congr 2;rw[Int.toNat_natCast];unfold u;have:((2:Int) ^ min n 64)=((2 ^ min n 64:Nat) :Int) :=by rw[Int.natCast_pow]; rfl
 rw[this,Int.fdiv_eq_ediv_of_nonneg _ (Int.natCast_nonneg _),<-Int.natCast_ediv,BitVec.toNat_ushiftRight,Nat.shiftRight_eq_div_pow];congr 1;rcases Nat.lt_or_ge n 64 with h | h
 ·rw[Nat.min_eq_left (Nat.le_of_lt h)]
 ·rw[Nat.min_eq_right h,Nat.div_eq_of_lt a.isLt,Nat.div_eq_of_lt (Nat.lt_of_lt_of_le a.isLt (Nat.pow_le_pow_right (by omega) h))]
@[simp] theorem anq (a:BitVec 64) (k' : IntKind) (n:Int) (h:0<=n) :cm .shl .u64 (u a) k' n=some (.int .u64 (u (a <<< n.toNat))) :=by
 obtain⟨m,rfl⟩:=Int.eq_ofNat_of_zero_le h;exact Pl a k' m
@[simp] theorem anu (a:BitVec 64) (k' : IntKind) (n:Int) (h:0<=n) :cm .shr .u64 (u a) k' n=some (.int .u64 (u (a >>> n.toNat))) :=by
 obtain⟨m,rfl⟩:=Int.eq_ofNat_of_zero_le h;exact u0 a k' m
@[simp] theorem y9 (a b:BitVec 64) (h:b≠0#64) :cm .rem .u64 (u a) .u64 (u b)=some (.int .u64 (u (a % b))) :=by
 have af:(b.toNat:Int)≠0:=fun e=>h (BitVec.eq_of_toNat_eq (by simpa using e))
 show (if IntKind.u64=IntKind.u64/\(b.toNat:Int)≠0 then some (U.int .u64 ((a.toNat:Int).tmod b.toNat)) else none)=_;rw[if_pos ⟨rfl,af⟩];unfold u;rw[BitVec.toNat_umod];rfl
@[simp] theorem anB (a b:Int) :cm .xor .u64 a .u64 b=some (.int .u64 (u (BitVec.ofInt 64 a ^^^ BitVec.ofInt 64 b))) :=by
 show some (U.int .u64 (IntKind.u64.wrap (u (BitVec.ofInt 64 a ^^^ BitVec.ofInt 64 b))))=_;rw[yQ,mg]
@[simp] theorem ank (a b:Int) :cm .or .u64 a .u64 b=some (.int .u64 (u (BitVec.ofInt 64 a ||| BitVec.ofInt 64 b))) :=by
 show some (U.int .u64 (IntKind.u64.wrap (u (BitVec.ofInt 64 a ||| BitVec.ofInt 64 b))))=_;rw[yQ,mg]
@[simp] theorem O5 (a b:Int) :cm .and .u64 a .u64 b=some (.int .u64 (u (BitVec.ofInt 64 a &&& BitVec.ofInt 64 b))) :=by
 show some (U.int .u64 (IntKind.u64.wrap (u (BitVec.ofInt 64 a &&& BitVec.ofInt 64 b))))=_;rw[yQ,mg]
end
@[simp] theorem aoa (a:BitVec 8) :BitVec.ofInt 16 (u a)=a.setWidth 16:=p8 16 a
@[simp] theorem aob (a:BitVec 8) :BitVec.ofInt 32 (u a)=a.setWidth 32:=p8 32 a
@[simp] theorem aoc (a:BitVec 8) :BitVec.ofInt 64 (u a)=a.setWidth 64:=p8 64 a
@[simp] theorem an3 (a:BitVec 16) :BitVec.ofInt 8 (u a)=a.setWidth 8:=p8 8 a
@[simp] theorem an1 (a:BitVec 16) :BitVec.ofInt 32 (u a)=a.setWidth 32:=p8 32 a
@[simp] theorem an2 (a:BitVec 16) :BitVec.ofInt 64 (u a)=a.setWidth 64:=p8 64 a
@[simp] theorem an6 (a:BitVec 32) :BitVec.ofInt 8 (u a)=a.setWidth 8:=p8 8 a
@[simp] theorem an4 (a:BitVec 32) :BitVec.ofInt 16 (u a)=a.setWidth 16:=p8 16 a
@[simp] theorem an5 (a:BitVec 32) :BitVec.ofInt 64 (u a)=a.setWidth 64:=p8 64 a
@[simp] theorem an9 (a:BitVec 64) :BitVec.ofInt 8 (u a)=a.setWidth 8:=p8 8 a
@[simp] theorem an7 (a:BitVec 64) :BitVec.ofInt 16 (u a)=a.setWidth 16:=p8 16 a
@[simp] theorem an8 (a:BitVec 64) :BitVec.ofInt 32 (u a)=a.setWidth 32:=p8 32 a
@[simp] theorem asM {w:Nat}:u (0#w)=0:=by simp[u]
theorem Jn (k:Nat) (c:Int) (ah:0<c) (ar:k<9223372036854775808) :cm .quo .i64 (k:Int) .i64 c=some (.int .i64 ((k / c.toNat:Nat) :Int)) :=by
 obtain⟨m,rfl⟩:=Int.eq_ofNat_of_zero_le (Int.le_of_lt ah);have hm:(m:Int)≠0:=by omega
 show (if IntKind.i64=IntKind.i64/\(m:Int)≠0 then some (U.int .i64 (IntKind.i64.wrap ((k:Int).tdiv m))) else none)=_;rw[if_pos ⟨rfl,hm⟩,Int.toNat_natCast];have:((k:Int).tdiv m)=((k / m:Nat) :Int) :=rfl;have ae:=Nat.div_le_self k m;rw[this];generalize k / m=q at ae;rw[wrap_i64 (by omega) (by omega)]
theorem y8 (k:Nat) (c:Int) (ah:0<c) :cm .rem .i64 (k:Int) .i64 c=some (.int .i64 ((k % c.toNat:Nat) :Int)) :=by
 obtain⟨m,rfl⟩:=Int.eq_ofNat_of_zero_le (Int.le_of_lt ah);have hm:(m:Int)≠0:=by omega
 show (if IntKind.i64=IntKind.i64/\(m:Int)≠0 then some (U.int .i64 ((k:Int).tmod m)) else none)=_;rw[if_pos ⟨rfl,hm⟩,Int.toNat_natCast];rfl
theorem W3 (k:IntKind) (w n:Nat) :rep n (.int k 0)=(List.replicate n (0#w)).map fun x=>.int k (u x) :=by
 simp[rep]
theorem pb {α:Type} (f:α->U) (l:List α) (i:Nat) (x:α) (h:i<l.length) :bg (l.map f) i [f x]=(l.set i x).map f:=by
 unfold bg;rw[List.set_eq_take_append_cons_drop,if_pos h];simp
theorem nJ {cs vs:List U} (h:vs.length=cs.length) :bg cs 0 vs=vs:=by
 unfold bg;rw[Nat.zero_add,List.take_zero,List.nil_append,h,List.drop_length,List.append_nil]
theorem aP {l:ao} {c c' : U} (h:c=c') (ah:c'.closed=true) :jo l c c':=by subst h; exact .same _ ah
theorem zB {α:Type} {z:Nat}:∀ (es:List (List α)),(∀ e∈es,e.length=z)->∀ (i j:Nat) (e:List α) (c:α),es[i]? = some e->e[j]? = some c->es.flatten[i*z+j]? = some c:=by
 intro es ax
 induction es with
 | nil=>intro i j e c am; simp at am
 | cons x es aS=>
  intro i j e c am ai;have ag:x.length=z:=ax x (by simp);cases i with
  | zero=>
   simp only[List.getElem?_cons_zero,Option.some.injEq] at am;subst am;rw[List.flatten_cons,Nat.zero_mul,Nat.zero_add,List.getElem?_append_left (List.getElem?_eq_some_iff.1 ai).1];exact ai
  | succ i=>
   simp only[List.getElem?_cons_succ] at am;rw[List.flatten_cons,List.getElem?_append_right (by rw[ag,Nat.succ_mul]; omega),ag,show (i+1)*z+j - z=i*z+j by rw[Nat.succ_mul]; omega];exact aS (fun e am=>ax e (by simp[am])) i j e c am ai
inductive s5 (l:ao) :List U->List U->Prop
 | nil:s5 l [] []
 | cons {c c' cs cs'}:gm (a7 l) c c'->s5 l cs cs'->s5 l (c::cs) (c'::cs')
theorem s5.len {l:ao}:∀ {a b:List U},s5 l a b->b.length=a.length
 | _,_,.nil=>rfl
 | _,_,.cons _ h=>by simp[h.len]
theorem s5.get {l:ao}:∀ {a b:List U},s5 l a b->∀ (j:Nat) (c c' : U),a[j]? = some c->b[j]? = some c'->gm (a7 l) c c'
 | _,_,.nil,j,c,c',h,_=>by simp at h
 | _,_,.cons ad ae,j,c,c',h,h'=>by
  cases j with
  | zero=>simp at h h'; subst h h'; exact ad
  | succ j=>exact ae.get j c c' (by simpa using h) (by simpa using h')
theorem lV {P:Program} {G:Nat->U} {f:FuncId} {args iS:List U} {r:U} {l:ao} {K:U->ao->Prop} (av:bA P G f iS r) (ay:s5 l args iS) (aE:r.flat=true) (h:K r l) :dh P G f args l (c:=⟨K⟩) :=
 ⟨r,l,.MZ av ay.len ay.get aE,Nat.le_refl _,h⟩
theorem Wu {P:Program} {G:Nat->U} {f:FuncId} {args iS:List U} {r:U} {l:ao} {K:U->ao->Prop} (av:gl P G f iS r) (ay:s5 l args iS) (h:K r l) :dh P G f args l (c:=⟨K⟩) :=
 ⟨r,l,.M0 av ay.len ay.get,Nat.le_refl _,h⟩
inductive ks (l:ao) :U->U->Prop
 | flat (c:U) (h:c.flat=true) :ks l c c
 | aG (cs cs' : List U) (al:cs'.length=cs.length) (h:∀ (j:Nat) (c c' : U),cs[j]? = some c->cs'[j]? = some c'->ks l c c') :ks l (.aG cs) (.aG cs')
 | bv (cs cs' : List U) (al:cs'.length=cs.length) (h:∀ (j:Nat) (c c' : U),cs[j]? = some c->cs'[j]? = some c'->ks l c c') :ks l (.bv cs) (.bv cs')
 | aq (z b off len cap sz:Nat) (cs:List U) (es:List (List U)) (af:l[b]? = some (.cells sz cs)) (al:es.length=len) (ax:∀ e∈es,e.length=z)
   (cZ:off+len*z<=cs.length)
   (h:∀ (i j:Nat) (e:List U) (c c' : U),es[i]? = some e->e[j]? = some c'->cs[off+(i*z+j)]? = some c->ks l c c') :ks l (.aq z b off len cap sz) (.aX z es)
 | rE (z b off cap sz:Nat) :ks l (.aq z b off 0 cap sz) (.aX z [])
 | fZ (z:Nat) :ks l (.aX z []) (.aX z [])
theorem ajS {w:World} {R:Nat->Prop} {B:Nat} {l:ao} {μ:cg} (rel:bI R B w (a7 l) μ) :∀ {c c' : U},ks l c c'->∀ {v:Value},aN w R (a7 l) μ c v->dV w (fun k=>B<=k) c' v:=by
 intro c c' ay
 induction ay with
 | flat c h=>intro v ap; exact RU ap h
 | aG cs cs' al h aS=>
  intro v ap;cases ap with
  | aG _ vs hD ad ap=>
   refine .aG cs' vs (by omega) ad (fun j c' v ai fQ=>?_);have aK:j<cs.length:=by rw[<-al]; exact (List.getElem?_eq_some_iff.1 ai).1
   exact aS j cs[j] c' (List.getElem?_eq_getElem aK) ai (ap j cs[j] v (List.getElem?_eq_getElem aK) fQ)
 | bv cs cs' al h aS=>
  intro v ap;cases ap with
  | bv _ vs hD ap=>
   refine .bv cs' vs (by omega) (fun j c' v ai fQ=>?_);have aK:j<cs.length:=by rw[<-al]; exact (List.getElem?_eq_some_iff.1 ai).1
   exact aS j cs[j] c' (List.getElem?_eq_getElem aK) ai (ap j cs[j] v (List.getElem?_eq_getElem aK) fQ)
 | rE z b off cap sz=>
  intro v ap;cases ap with
  | aq _ _ _ _ _ _ cap' cs m af hm al au ah=>exact .fZ z _ cap'
  | ht _ _ _ _ _ _ cap' a al ah aw=>exact .fZ z _ cap'
  | iN _ _ _ _ a cs m af hm=>exact .fZ z a 0
 | fZ z=>
  intro v ap;generalize am:([] :List (List U))=es at ap;generalize Ge:U.aX z es=tb at ap;cases ap<;>cases Ge
  ·subst am; exact .fZ z _ _
  ·exact .fZ z _ _
 | aq z b off len cap sz cs es af al ax cZ h aS=>
  intro v ap;have qQ:(a7 l).f b=.cells sz cs:=lq.2 af;cases ap with
  | iN _ _ _ _ a hA m dX kB=>
   obtain rfl:=List.length_eq_zero_iff.1 al;exact .fZ z a 0
  | ht _ _ _ _ _ _ cap' a al ah aw=>
   exfalso;rcases aw with aw | ⟨n,hA,aw,aK⟩
   ·rw[qQ] at aw; cases aw
   ·rw[qQ] at aw; cases aw; omega
  | aq _ _ _ _ _ _ cap' hA m dX hm iX au ah=>
   rw[qQ] at dX; cases dX;have iA:=rel.blk b m hm;rw[qQ] at iA;obtain⟨cY,eM,arr,t,eU,aW,aB,aE,mE⟩:=iA;have di:len<=cap':=by rcases ah with ⟨_,h⟩ | ⟨_,h,_⟩<;>omega
   have jI:B<=m.r:=rel.base b m (by rw[qQ]; rfl) hm;subst al;have oS:∀ i j,i<es.length->j<z->∃ c v,cs[off+(i*z+j)]? = some c/\arr[m.s+(off+(i*z+j))]? = some v/\v.oneCell'=true/\aN w R (a7 l) μ c v:=by
    intro i j az ai;have aK:off+(i*z+j)<cs.length:=by
     have:i*z+z<=es.length*z:=by rw[<-Nat.succ_mul]; exact Nat.mul_le_mul_right _ az
     omega
    obtain⟨v,ad,ae,aj⟩:=mE _ _ (List.getElem?_eq_getElem aK);exact⟨_,v,List.getElem?_eq_getElem aK,ad,ae,aj⟩
   refine .aX z es m.r (m.s+off) cap' (fun i j=>(arr[m.s+(off+(i*z+j))]?).getD undef) di ax (fun i j az ai=>?_) (fun i e am j c' ai=>?_)
   ·obtain⟨c,v,ad,ae,aj,aF⟩:=oS i j az ai;refine⟨?_,?_,jI,fun ⟨b,m,ad,ae,aj⟩=>by cases ae⟩
    ·simp only[World.cell?,aW,ae,Option.getD_some,Option.isSome_none];rw[show m.s+off+(i*z+j)=m.s+(off+(i*z+j)) by omega,ae]; rfl
    ·rw[ae]; exact aj
   ·have az:i<es.length:=(List.getElem?_eq_some_iff.1 am).1;have mH:j<z:=by rw[<-ax e (List.mem_of_getElem? am)]; exact (List.getElem?_eq_some_iff.1 ai).1
    obtain⟨c,v,ad,ae,aj,aF⟩:=oS i j az mH;simp only[ae,Option.getD_some];exact aS i j e c c' am ai ad aF
theorem AR {P:Program} {G:Nat->U} (fz:P.follows .mixedOrders=true) (h4:∀ g,(G g).closed=true) {f:FuncId} {args:List U} {r:U} (h:dh P G f args [] (c:=⟨fun qa l=>ks l qa r⟩)) :gl P G f args r:=by
 obtain⟨qa,l',ad,ae,aj⟩:=h;intro w A vs aw al ap;refine (NU (A:=A) fz h4 ad aw al ap).mono ?_;rintro e w' ⟨v,μ',rfl,af,rel,ay⟩;exact⟨v,rfl,af,ajS rel aj ay⟩
theorem WT {l:ao} {z b n cap sz:Nat} {es:List (List U)} {rest:List U} (af:l[b]? = some (.cells sz (es.flatten++rest))) (aC:es.length=n) (ax:∀ e∈es,e.length=z) (ah:∀ e∈es,l4 e=true) :ks l (.aq z b 0 n cap sz) (.aX z es) :=by
 have eW:=pC (z:=z) (es:=es) (fun e am=>ax e am);refine .aq z b 0 n cap sz _ es af aC ax (by rw[List.length_append,eW,aC]; omega) (fun i j e c c' am ai dn=>?_);have az:i<es.length:=(List.getElem?_eq_some_iff.1 am).1;have mH:j<z:=by rw[<-ax e (List.mem_of_getElem? am)]; exact (List.getElem?_eq_some_iff.1 ai).1
 have aK:i*z+j<es.flatten.length:=by
  rw[eW];have:i*z+z<=es.length*z:=by rw[<-Nat.succ_mul]; exact Nat.mul_le_mul_right _ az
  omega
 have ad:es.flatten[i*z+j]? = some c':=zB es ax i j e c' am ai;rw[Nat.zero_add,List.getElem?_append_left aK,ad] at dn;cases dn;exact .flat _ (FH (ah e (List.mem_of_getElem? am)) j _ ai)
theorem WR {l:ao} {c:U} (h:c.closed=true) :gm (a7 l) c c:=.same c h
@[simp] theorem apM (n z:Nat) (cs:List U) (k:IntKind) (i:Int) :DE n z (.aG cs) (.int k i)=if 0<=i/\i<n then cs[i.toNat*z]? else none:=id rfl
@[simp] theorem apN (n z:Nat) (cs:List U) (k:IntKind) (i:Int) :DF n z (.aG cs) (.int k i)=if 0<=i/\i<n then sH z cs (i.toNat*z) else none:=id rfl
@[simp] theorem Au (s:List UInt8) (k:IntKind) (i:Int) :yd (.str s) (.int k i)=if 0<=i then (s[i.toNat]?).map jr else none:=id rfl
theorem akC {α:Type} {l:List α} {i:Nat} {x:α} (h:l[i]? = some x) :l.set i x=l:=by
 obtain⟨az,rfl⟩:=List.getElem?_eq_some_iff.1 h;exact List.set_getElem_self az
theorem mw {α:Type} (f:α->U) (aE:∀ x,(f x).closed=true) :∀ l:List α,a5 (l.map f)=true
 | []=>rfl
 | x::l=>by simp only[List.map_cons,a5,aE,mw f aE l,Bool.and_self]
theorem Ra {α:Type} (f:α->U) (aE:∀ x,(f x).closed=true) (l:List α) :(U.aG (l.map f)).closed=true:=by simp only[U.closed]; exact mw f aE l
theorem zz {α:Type} (f:α->U) (aE:∀ x,(f x).flat=true) :∀ l:List α,l4 (l.map f)=true
 | []=>rfl
 | x::l=>by simp only[List.map_cons,l4,aE,zz f aE l,Bool.and_self]
theorem RT {α:Type} (f:α->U) (aE:∀ x,(f x).flat=true) (l:List α) :(U.aG (l.map f)).flat=true:=by simp only[U.flat]; exact zz f aE l
@[simp] theorem anF (z:Nat) :tc (.aq z) .aH=some (.int .i64 0) :=id rfl
@[simp] theorem anE (n z:Nat) (x:U) :tc (.arr n z) x=some (.int .i64 n) :=id rfl
theorem asu (z:Nat) (cG az cH:Option U) :fF (.aq z) .aH cG az cH=(gV 0 0 cG az cH).map fun _=>.aH:=rfl
@[simp] theorem asv (z:Nat) (k:IntKind) :fF (.aq z) .aH none (some (.int k 0)) none=some .aH:=id rfl
theorem Ex (z b off len cap sz:Nat) (cG az cH:Option U) :fF (.aq z) (.aq z b off len cap sz) cG az cH=(gV len cap cG az cH).map fun (l,aR,m)=>if m=l then .aq z b (off+l*z) 0 0 sz else .aq z b (off+l*z) (aR - l) (m - l) sz:=by
 simp[fF]
theorem HH {α:Type} {l:List α} {a:α} (h:l[0]? = some a) :∃ r,l=a::r:=by
 cases l with
 | nil=>simp at h
 | cons x l=>simp at h; subst h; exact⟨l,rfl⟩
theorem alv {α:Type} {l:List α} {b:α} (h:l[1]? = some b) :∃ a r,l=a::b::r:=by
 cases l with
 | nil=>simp at h
 | cons x l=>obtain⟨r,rfl⟩:=HH (l:=l) (by simpa using h); exact⟨x,r,rfl⟩
theorem Em (zero:List U) (n:Nat) :(dx zero n).length=n*zero.length:=by
 induction n with
 | zero=>simp[dx]
 | succ n aS=>simp[dx,aS,Nat.succ_mul,Nat.add_comm]
theorem El (zero:List U) (n:Nat) :dx zero n=(List.replicate n zero).flatten:=by
 induction n with
 | zero=>rfl
 | succ n aS=>rw[dx,aS,List.replicate_succ,List.flatten_cons]
inductive bO (z:Nat) (l:ao) :U->Nat->List (List U)->Prop
 | nil (j:Nat) :bO z l .aH j []
 | aq (j n cap sz:Nat) (cs:List U) (es:List (List U)) (af:l[j]? = some (.cells sz cs)) (al:cs.length=sz) (aC:es.length=n) (ax:∀ e∈es,e.length=z) (ah:n<=cap) (di:cap*z<=sz)
   (cY:cs.take (n*z)=es.flatten) :bO z l (.aq z j 0 n cap sz) j es
def cD:U->Bool | .aH=>true | _=>false
theorem kK {v:U}:cD v=true<->v=.aH:=by cases v<;>simp[cD]
theorem vT {α:Type} {v a3:U} {xs:List α} (h:a3=.aH<->v=.aH/\xs=[]) :cD a3=(cD v&&xs.isEmpty) :=by
 rw[Bool.eq_iff_iff,kK,h,Bool.and_eq_true,kK,List.isEmpty_iff]
def sN (z:Nat) (v:U) (es:List (List U)) :U:=match cD v with | true=>.aH | false=>.aX z es
section
variable {z:Nat} {l l' : ao} {v:U} {j:Nat} {es:List (List U)}
theorem bO.lt (h:bO z l v j es) :v=.aH\/j<l.length:=by
 cases h with
 | nil j=>exact .inl rfl
 | aq j n cap sz cs es af=>exact .inr (cp af)
theorem bO.row (h:bO z l v j es) :∀ e∈es,e.length=z:=by
 cases h with
 | nil j=>intro e am; cases am
 | aq j n cap sz cs es af al aC ax=>exact ax
theorem bO.cells (h:bO z l v j es) :v.cells=some [v] :=by cases h<;>rfl
theorem bO.len (h:bO z l v j es) :cv (.aq z) v=some (.int .i64 es.length) :=by
 cases h with
 | nil j=>rfl
 | aq j n cap sz cs es af al aC=>subst aC; rfl
theorem bO.frame (h:bO z l v j es) (ai:j<l.length->l'[j]? = l[j]?) :bO z l' v j es:=by
 cases h with
 | nil j=>exact .nil j
 | aq j n cap sz cs es af al aC ax ah di cY=>exact .aq j n cap sz cs es (by rw[ai (cp af)]; exact af) al aC ax ah di cY
theorem bO.lA (h:bO z l v j es) (ai:v=.aH\/l'[j]? = l[j]?) :bO z l' v j es:=by
 cases h with
 | nil j=>exact .nil j
 | aq j n cap sz cs es af al aC ax ah di cY=>
  rcases ai with ai | ai
  ·cases ai
  ·exact .aq j n cap sz cs es (by rw[ai]; exact af) al aC ax ah di cY
theorem bO.more (h:bO z l v j es) (x:ao) :bO z (l++x) v j es:=h.frame fun ai=>List.getElem?_append_left ai
theorem bO.contents (h:bO z l v j es) :ds l z v=some (es.flatten,es.length) :=by
 cases h with
 | nil j=>rfl
 | aq j n cap sz cs es af al aC ax ah di cY=>subst aC; simp only[ds,af,and_self,if_true,List.drop_zero,cY]
theorem bO.HX (h:bO z l v j es) (aE:∀ e∈es,l4 e=true) :ks l v (sN z v es) :=by
 cases h with
 | nil j=>exact .flat _ rfl
 | aq j n cap sz cs es af al aC ax ah di cY=>
  show ks l _ (.aX z es);refine WT (rest:=cs.drop (n*z)) ?_ aC ax aE;rw[af,<-cY,List.take_append_drop]
theorem bO.sL (h:bO z l v j es) (aE:∀ e∈es,a5 e=true) :gm (a7 l) v (sN z v es) :=by
 cases h with
 | nil j=>exact .same _ rfl
 | aq j n cap sz cs es af al aC ax ah di cY=>
  show gm (a7 l) _ (.aX z es);have qZ:n*z<=cs.length:=by rw[al]; exact Nat.le_trans (Nat.mul_le_mul_right _ ah) di
  refine .aq z j 0 n cap sz cs es (lq.2 af) aC ax (by omega) (fun i k e c c' am ar dn=>?_);have az:i<es.length:=(List.getElem?_eq_some_iff.1 am).1;have xT:k<z:=by rw[<-ax e (List.mem_of_getElem? am)]; exact (List.getElem?_eq_some_iff.1 ar).1
  have aK:i*z+k<n*z:=by
   have:i*z+z<=es.length*z:=by rw[<-Nat.succ_mul]; exact Nat.mul_le_mul_right _ az
   rw[aC] at this; omega
  have ad:es.flatten[i*z+k]? = some c':=zB es ax i k e c' am ar;rw[<-cY,List.getElem?_take_of_lt aK] at ad;rw[Nat.zero_add,ad] at dn;cases dn;exact .same _ (zh (aE e (List.mem_of_getElem? am)) k _ ar)
theorem HW {l:ao} {z b n cap sz:Nat} {es:List (List U)} {rest:List U} (af:l[b]? = some (.cells sz (es.flatten++rest))) (aC:es.length=n) (ax:∀ e∈es,e.length=z) (ah:∀ e∈es,a5 e=true) :gm (a7 l) (.aq z b 0 n cap sz) (.aX z es) :=by
 have eW:=pC (z:=z) (es:=es) (fun e am=>ax e am);refine .aq z b 0 n cap sz _ es (lq.2 af) aC ax (by rw[List.length_append,eW,aC]; omega) (fun i j e c c' am ai dn=>?_);have az:i<es.length:=(List.getElem?_eq_some_iff.1 am).1;have mH:j<z:=by rw[<-ax e (List.mem_of_getElem? am)]; exact (List.getElem?_eq_some_iff.1 ai).1
 have aK:i*z+j<es.flatten.length:=by
  rw[eW];have:i*z+z<=es.length*z:=by rw[<-Nat.succ_mul]; exact Nat.mul_le_mul_right _ az
  omega
 have ad:es.flatten[i*z+j]? = some c':=zB es ax i j e c' am ai;rw[Nat.zero_add,List.getElem?_append_left aK,ad] at dn;cases dn;exact .same _ (zh (ah e (List.mem_of_getElem? am)) j _ ai)
theorem ON (h:bO z l v j es) {by_ m:Nat} {xs:List (List U)} (hm:xs.length=m) (tV:∀ e∈xs,e.length=z) (aI:z≠0) (dI:by_≠0) (dy:(es.length+m)*by_<=ct) :
  ∃ a3 cn l',jq l z by_ v xs.flatten m=some (a3,l')/\bO z l' a3 cn (es++xs)/\l.length<=l'.length/\(∀ b,b<l.length->b≠j->l'[b]? = l[b]?)/\(cn=j\/l.length<=cn)/\(a3=.aH<->v=.aH/\xs=[]) :=by
 by_cases mb:m=0
 ·have ag:xs=[] :=List.length_eq_zero_iff.1 (by omega);subst ag;refine⟨v,j,l,?_,by simpa using h,Nat.le_refl _,fun _ _ _=>rfl,.inl rfl,by simp⟩;unfold jq;rw[if_pos mb];cases h<;>rfl
 have bn:xs.flatten.length=m*z:=by rw[pC tV,hm]
 have p1:∀ e∈es++xs,e.length=z:=fun e am=>by
  rcases List.mem_append.1 am with ad | ad
  ·exact h.row e ad
  ·exact tV e ad
 have bV:xs≠[] :=fun ag=>mb (by rw[<-hm,ag]; rfl)
 cases h with
 | nil j=>
  refine⟨.aq z l.length 0 m m (m*z),l.length,l++[.cells (m*z) xs.flatten],?_,?_,by simp,fun b af _=>List.getElem?_append_left af,.inr (Nat.le_refl _),by simp[bV]⟩
  ·unfold jq;rw[if_neg mb,if_neg (by omega)];simp only;rw[if_pos (by simpa using dy)]
  ·refine .aq _ _ _ _ xs.flatten _ (by simp) bn (by simpa using hm) p1 (Nat.le_refl _) (Nat.le_refl _) ?_;rw[List.take_of_length_le (by omega)]; rfl
 | aq j n cap sz cs es af al aC ax ah di cY=>
  subst aC;have qZ:es.length*z<=cap*z:=Nat.mul_le_mul_right _ ah;have GD:(es++xs).length=es.length+m:=by simp[hm]
  have eW:(es++xs).flatten=es.flatten++xs.flatten:=by simp
  have zZ:es.flatten.length=es.length*z:=pC ax;have lE:jq l z by_ (.aq z j 0 es.length cap sz) xs.flatten m =
    if es.length+m<=cap then some (.aq z j 0 (es.length+m) cap sz,l.set j (.cells sz (bg cs (es.length*z) xs.flatten)))
    else if cap*z<sz then some (.aq z l.length 0 (es.length+m) (es.length+m) ((es.length+m)*z),l++[.cells ((es.length+m)*z) (es.flatten++xs.flatten)])
    else some (.aq z j 0 (es.length+m) (es.length+m) ((es.length+m)*z),l.set j (.cells ((es.length+m)*z) (es.flatten++xs.flatten))) :=by
   unfold jq;rw[if_neg mb,if_neg (by omega)];simp only[af];rw[if_pos ⟨trivial,trivial,dy⟩];simp only[Nat.zero_add,List.drop_zero,cY,if_true]
  rw[lE];have eO:=cp af;split
  ·rename_i ad;have aeJ:(es.length+m)*z<=cap*z:=Nat.mul_le_mul_right _ ad;rw[Nat.add_mul] at aeJ;refine⟨_,j,_,rfl,?_,by simp,fun b bJ tx=>by rw[List.getElem?_set_ne (fun e=>tx e.symm)],.inl rfl,by simp⟩;refine .aq j _ cap sz (bg cs (es.length*z) xs.flatten) _ (by rw[List.getElem?_set_self eO]) ?_ GD p1 ad di ?_
   ·rw[yH (by omega)]; omega
   ·rw[eW];unfold bg;rw[cY,List.take_append_of_le_length (by simp[zZ,bn,Nat.add_mul]),List.take_of_length_le (by simp[zZ,bn,Nat.add_mul])]
  ·split
   ·refine⟨_,l.length,_,rfl,?_,by simp,fun b bJ _=>List.getElem?_append_left bJ,.inr (Nat.le_refl _),by simp⟩;refine .aq _ _ _ _ (es.flatten++xs.flatten) _ (by simp) (by simp[zZ,bn,Nat.add_mul]) GD p1 (Nat.le_refl _) (Nat.le_refl _) ?_;rw[eW,List.take_of_length_le (by simp[zZ,bn,Nat.add_mul])]
   ·refine⟨_,j,_,rfl,?_,by simp,fun b bJ tx=>by rw[List.getElem?_set_ne (fun e=>tx e.symm)],.inl rfl,by simp⟩;refine .aq j _ _ _ (es.flatten++xs.flatten) _ (by rw[List.getElem?_set_self eO]) (by simp[zZ,bn,Nat.add_mul]) GD p1 (Nat.le_refl _) (Nat.le_refl _) ?_;rw[eW,List.take_of_length_le (by simp[zZ,bn,Nat.add_mul])]
theorem oE (h:bO z l v j es) {by_:Nat} {x:U} {xs:List (List U)} (ag:ds l z x=some (xs.flatten,xs.length)) (tV:∀ e∈xs,e.length=z) (aI:z≠0) (dI:by_≠0) (dy:(es.length+xs.length)*by_<=ct) :
  ∃ a3 cn l',gT l z by_ v x=some (a3,l')/\bO z l' a3 cn (es++xs)/\l.length<=l'.length/\(∀ b,b<l.length->b≠j->l'[b]? = l[b]?)/\(cn=j\/l.length<=cn)/\(a3=.aH<->v=.aH/\xs=[]) :=by
 unfold gT;rw[ag];exact ON h rfl tV aI dI dy
theorem Zw (h:bO z l v j es) {by_ n:Nat} {k:IntKind} {zero:List U} (jd:zero.length=z) (aI:z≠0) (dI:by_≠0) (aC:n<9223372036854775808) (dy:(es.length+n)*by_<=ct) :
  ∃ a3 cn l',qB l z by_ zero v (.int k (n:Int))=some (a3,l')/\bO z l' a3 cn (es++List.replicate n zero)/\l.length<=l'.length/\(∀ b,b<l.length->b≠j->l'[b]? = l[b]?)/\(cn=j\/l.length<=cn)/\(a3=.aH<->v=.aH/\n=0) :=by
 have:=ON h (xs:=List.replicate n zero) (m:=n) (by simp) (fun e am=>by rw[(List.mem_replicate.1 am).2,jd]) aI dI dy;obtain⟨a3,cn,l',ad,ae⟩:=this;refine⟨a3,cn,l',?_,by simpa [List.replicate_eq_nil_iff] using ae⟩;unfold qB;simp only[Int.toNat_natCast];rw[if_pos ⟨by omega,by omega,by have:=Nat.le_trans (Nat.mul_le_mul_right by_ (Nat.le_add_left n es.length)) dy; exact this⟩,El];exact ad
theorem ZA {l:ao} {z by_ n:Nat} {v a3:U} {xs:List U} {pre rest:ao} {l' : ao} (ap:v=.aH\/∃ j n cap sz,v=.aq z j 0 n cap sz/\pre.length<=j) (h:jq (pre++rest) z by_ v xs n=some (a3,l')) :
  ∃ sM,l'=pre++sM:=by
 unfold jq at h;by_cases aC:n=0
 ·rw[if_pos aC] at h;rcases ap with rfl | ⟨j,m,cap,sz,rfl,ai⟩<;>(cases h; exact⟨_,rfl⟩)
 rw[if_neg aC] at h;by_cases aI:z=0\/by_=0
 ·rw[if_pos aI] at h; cases h
 rw[if_neg aI] at h;rcases ap with rfl | ⟨j,m,cap,sz,rfl,ai⟩
 ·simp only at h;split at h
  ·cases h; exact⟨_,by rw[List.append_assoc]⟩
  ·cases h
 ·simp only at h;split at h
  ·split at h
   ·split at h
    ·cases h; exact⟨_,by rw[List.set_append_right _ _ ai]⟩
    ·split at h
     ·cases h; exact⟨_,by rw[List.append_assoc]⟩
     ·split at h
      ·cases h; exact⟨_,by rw[List.set_append_right _ _ ai]⟩
      ·rename_i aR; exact absurd trivial aR
   ·cases h
  ·cases h
theorem xe {z by_:Nat} {v:U} {j:Nat} {es:List (List U)} {pre rest:ao} (h:bO z (pre++rest) v j es) (ai:v=.aH\/pre.length<=j) {x:U} {xs:List (List U)} (ag:ds (pre++rest) z x=some (xs.flatten,xs.length)) (tV:∀ e∈xs,e.length=z) (aI:z≠0) (dI:by_≠0)
  (dy:(es.length+xs.length)*by_<=ct) :
  ∃ a3 cn sM,gT (pre++rest) z by_ v x=some (a3,pre++sM)/\bO z (pre++sM) a3 cn (es++xs)/\(a3=.aH\/pre.length<=cn)/\cD a3=(cD v&&xs.isEmpty) :=by
 have aE:v=.aH\/∃ j n cap sz,v=.aq z j 0 n cap sz/\pre.length<=j:=by
  cases h with
  | nil j=>exact .inl rfl
  | aq j n cap sz cs es=>exact .inr ⟨j,n,cap,sz,rfl,ai.resolve_left (by simp)⟩
 obtain⟨a3,cn,l',ad,ae,aj,aF,a6,bu⟩:=oE h ag tV aI dI dy;have dH:=ad;unfold gT at dH;rw[ag] at dH;obtain⟨sM,rfl⟩:=ZA (l:=[]) aE dH;refine⟨a3,cn,sM,ad,ae,?_,vT bu⟩;rcases a6 with h | h
 ·rcases ai with ap | ai
  ·by_cases Ap:xs=[]
   ·exact .inl (bu.2 ⟨ap,Ap⟩)
   ·right;subst ap;have Ao:xs.length≠0:=fun e=>Ap (List.length_eq_zero_iff.1 e)
    simp only at dH;unfold jq at dH;rw[if_neg Ao] at dH;split at dH
    ·cases dH
    ·simp only at dH;split at dH
     ·obtain⟨rfl,_⟩:=Prod.mk.inj (Option.some.inj dH);generalize es++xs=E at ae;cases ae;simp
     ·cases dH
  ·right; omega
 ·right;rw[List.length_append] at h; omega
theorem bO.view (h:bO z l v j es) (ap:cD v=false) :∃ n cap sz cs,v=.aq z j 0 n cap sz/\l[j]? = some (.cells sz cs)/\cs.length=sz/\es.length=n/\n*z<=sz/\(∀ i e,es[i]? = some e->∀ m,m<z->cs[i*z+m]? = e[m]?)/\cs.take (n*z)=es.flatten:=by
 cases h with
 | nil j=>simp[cD] at ap
 | aq j n cap sz cs es af al aC ax ah di cY=>
  refine⟨n,cap,sz,cs,rfl,af,al,aC,Nat.le_trans (Nat.mul_le_mul_right _ ah) di,fun i e am m hm=>?_,cY⟩;have az:i<es.length:=(List.getElem?_eq_some_iff.1 am).1;have aK:i*z+m<n*z:=by
   have:i*z+z<=es.length*z:=by rw[<-Nat.succ_mul]; exact Nat.mul_le_mul_right _ az
   rw[aC] at this; omega
  have ad:=zA ax am hm;rw[<-ad,<-cY,List.getElem?_take_of_lt aK]
theorem bO.Ek {α:Type} {enc:α->List U} {xs:List α} (h:bO z l v j (xs.map enc)) (aE:∀ x,l4 (enc x)=true) (s:c3 α) (ak:cD v=s.isNone) (ag:s.l=xs) :ks l v (cA z enc s) :=by
 have ad:=h.HX (fun e am=>by obtain⟨x,_,rfl⟩:=List.mem_map.1 am; exact aE x);subst ag;unfold sN at ad;rw[ak] at ad;cases s with
 | none=>exact ad
 | some s=>exact ad
theorem bO.wo {α:Type} {enc:α->List U} {xs:List α} (h:bO z l v j (xs.map enc)) (aE:∀ x,a5 (enc x)=true) (s:c3 α) (ak:cD v=s.isNone) (ag:s.l=xs) :gm (a7 l) v (cA z enc s) :=by
 have ad:=h.sL (fun e am=>by obtain⟨x,_,rfl⟩:=List.mem_map.1 am; exact aE x);subst ag;unfold sN at ad;rw[ak] at ad;cases s with
 | none=>exact ad
 | some s=>exact ad
end
def AY (h:aM) :Nat->U->Option U
 | 0,_=>none
 | d+1,c=>match c with
  | .aG cs=>match o9 (AY h d) cs with | some cs'=>some (.aG cs') | none=>none
  | .bv cs=>match o9 (AY h d) cs with | some cs'=>some (.bv cs') | none=>none
  | .aq z b off len cap sz=>match Nat.beq len 0 with
   | true=>some (.aX z [])
   | false=>match h.f b with
    | .cells n cs=>match Nat.beq n sz&&Nat.ble (off+len*z) cs.length with
     | true=>match o9 (AY h d) ((cs.drop off).take (len*z)) with
      | some xs=>some (.aX z (l2 z len xs))
      | none=>none
     | false=>none
    | _=>none
  | c=>match c.flat with | true=>some c | false=>none
theorem HY {h:aM} {l:ao} (r:eA h l) :∀ (d:Nat) (c c' : U),AY h d c=some c'->ks l c c'
 | 0,c,c',ag=>by cases ag
 | d+1,c,c',ag=>by
  unfold AY at ag;split at ag
  ·split at ag
   ·rename_i ad; cases ag;exact .aG _ _ (sK ad) (fun j c c' ah ef=>HY r d c c' (sJ ad j c c' ah ef))
   ·cases ag
  ·split at ag
   ·rename_i ad; cases ag;exact .bv _ _ (sK ad) (fun j c c' ah ef=>HY r d c c' (sJ ad j c c' ah ef))
   ·cases ag
  ·rename_i z b off len cap sz;split at ag
   ·rename_i aI;cases ag;rw[Nat.eq_of_beq_eq_true aI];exact .rE z b off cap sz
   ·split at ag
    ·rename_i n cs af;split at ag
     ·rename_i c0;simp only[Bool.and_eq_true] at c0;have aC:=Nat.eq_of_beq_eq_true c0.1;have dY:=Nat.le_of_ble_eq_true c0.2;subst aC;split at ag
      ·rename_i xs ad;cases ag;have bn:=sK ad;simp only[List.length_take,List.length_drop] at bn;have afK:xs.length=len*z:=by omega
       have e2:∀ (i:Nat),i<len->(l2 z len xs)[i]? = some ((xs.drop (i*z)).take z) :=fun i az=>Fu len xs i az
       have eh:∀ i,i<len->i*z+z<=len*z:=fun i az=>by rw[<-Nat.succ_mul]; exact Nat.mul_le_mul_right _ az
       refine .aq z b off len cap n cs _ (r.some af (by simp)) (u7 _ _) (fun e am=>?_) dY (fun i j e c c' am ai ah=>?_)
       ·obtain⟨i,az⟩:=List.mem_iff_getElem?.1 am;have dS:i<len:=by
         have:=(List.getElem?_eq_some_iff.1 az).1;rw[u7] at this; exact this
        rw[e2 i dS] at az;cases az;have:=eh i dS;simp; omega
       ·have dS:i<len:=by
         have:=(List.getElem?_eq_some_iff.1 am).1;rw[u7] at this; exact this
        rw[e2 i dS] at am;cases am;have tE:=eh i dS;have mH:j<z:=by have:=(List.getElem?_eq_some_iff.1 ai).1; simp at this; omega
        rw[List.getElem?_take_of_lt mH,List.getElem?_drop] at ai;refine HY r d c c' (sJ ad (i*z+j) c c' ?_ ai);rw[List.getElem?_take_of_lt (by omega),List.getElem?_drop];exact ah
      ·cases ag
     ·cases ag
    ·cases ag
  ·split at ag
   ·rename_i ah; cases ag; exact .flat _ ah
   ·cases ag
def Xm (P:Program) (G:Nat->U) [qs P G] (orc:qt) (lm:uN) (fuel k:Nat) (f:FuncId) (args:List U) (r:U) :Bool:=
 match BL P G orc lm fuel k f args aM.empty with
 | some (v,h)=>match AY h 20 v with
  | some a3=>U.beq a3 r
  | none=>false
 | none=>false
theorem kQ {P:Program} {G:Nat->U} [qs P G] (fz:P.follows .mixedOrders=true) (h4:∀ g,(G g).closed=true) {orc:qt} {lm:uN} (au:Bt P G orc) (aV:Bx P lm) {fuel k:Nat} {f:FuncId} {args:List U} {r:U}
  (ag:Xm P G orc lm fuel k f args r=true) :gl P G f args r:=by
 unfold Xm at ag;split at ag
 ·rename_i v h ah;split at ag
  ·rename_i a3 ap;obtain⟨l',ay,ae⟩:=Jq au aV fuel k f args aM.empty v h [] eA.nil ah;have:=U.beq_eq ag;subst this;exact AR fz h4 (ae _ (HY ay 20 v a3 ap))
  ·cases ag
 ·cases ag
inductive gk (z:Nat) (l:ao) :U->Nat->List (List U)->Prop
 | nil (j:Nat) :gk z l .aH j []
 | aq (j off n cap sz:Nat) (cs:List U) (es:List (List U)) (af:l[j]? = some (.cells sz cs)) (al:cs.length=sz) (aC:es.length=n) (ax:∀ e∈es,e.length=z) (ah:n<=cap) (di:off+cap*z<=sz)
   (cY:(cs.drop off).take (n*z)=es.flatten) :gk z l (.aq z j off n cap sz) j es
section
variable {z:Nat} {l l' : ao} {v:U} {j:Nat} {es:List (List U)}
theorem bO.q (h:bO z l v j es) :gk z l v j es:=by
 cases h with
 | nil j=>exact .nil j
 | aq j n cap sz cs es af al aC ax ah di cY=>exact .aq j 0 n cap sz cs es af al aC ax ah (by omega) (by simpa using cY)
theorem gk.row (h:gk z l v j es) :∀ e∈es,e.length=z:=by
 cases h with
 | nil j=>intro e am; cases am
 | aq j off n cap sz cs es af al aC ax=>exact ax
theorem gk.lt (h:gk z l v j es) :v=.aH\/j<l.length:=by
 cases h with
 | nil j=>exact .inl rfl
 | aq j off n cap sz cs es af=>exact .inr (cp af)
theorem gk.cells (h:gk z l v j es) :v.cells=some [v] :=by cases h<;>rfl
theorem gk.len (h:gk z l v j es) :cv (.aq z) v=some (.int .i64 es.length) :=by
 cases h with
 | nil j=>rfl
 | aq j off n cap sz cs es af al aC=>subst aC; rfl
theorem gk.lA (h:gk z l v j es) (ai:v=.aH\/l'[j]? = l[j]?) :gk z l' v j es:=by
 cases h with
 | nil j=>exact .nil j
 | aq j off n cap sz cs es af al aC ax ah di cY=>
  rcases ai with ai | ai
  ·cases ai
  ·exact .aq j off n cap sz cs es (by rw[ai]; exact af) al aC ax ah di cY
theorem gk.more (h:gk z l v j es) (x:ao) :gk z (l++x) v j es:=h.lA (by
 rcases h.lt with h | h
 ·exact .inl h
 ·exact .inr (List.getElem?_append_left h))
theorem gk.MG (h:gk z l .aH j es) :es=[] :=by
 generalize ap:U.aH=w at h;cases h with
 | nil j=>rfl
 | aq=>cases ap
theorem gk.from (h:gk z l v j es) (ap:cD v=false) {k:IntKind} {i:Nat} (az:i<=es.length) :∃ a3,fF (.aq z) v (some (.int k (i:Int))) none none=some a3/\gk z l a3 j (es.drop i)/\cD a3=false:=by
 cases h with
 | nil j=>simp[cD] at ap
 | aq j off n cap sz cs es af al aC ax ah di cY=>
  subst aC;have tM:i*z+(cap - i)*z=cap*z:=by rw[<-Nat.add_mul]; congr 1; omega
  have TK:i*z+(es.length - i)*z=es.length*z:=by rw[<-Nat.add_mul]; congr 1; omega
  have dY:es.length*z<=cap*z:=Nat.mul_le_mul_right _ ah;have LN:∀ e∈es.drop i,e.length=z:=fun e am=>ax e (List.mem_of_mem_drop am)
  have eW:(es.drop i).flatten=(es.flatten).drop (i*z) :=by
   have ad:es.flatten=(es.take i).flatten++(es.drop i).flatten:=by rw[<-List.flatten_append,List.take_append_drop]
   have ae:(es.take i).flatten.length=i*z:=by
    rw[pC (z:=z) (fun e am=>ax e (List.mem_of_mem_take am)),List.length_take];congr 1; omega
   rw[ad,<-ae,List.drop_left]
  rw[Ex,Pj,if_pos ⟨by omega,by omega⟩];simp only[Int.toNat_natCast,Option.map_some,Option.some.injEq,exists_eq_left'];by_cases fW:cap=i
  ·rw[if_pos fW];have adJ:es.drop i=[] :=List.drop_of_length_le (by omega);refine⟨?_,rfl⟩;rw[adJ];exact .aq j _ 0 0 sz cs [] af al rfl (by simp) (Nat.le_refl _) (by omega) (by simp)
  ·rw[if_neg fW];refine⟨.aq j _ _ _ sz cs _ af al (by simp) LN (by omega) (by omega) ?_,rfl⟩;rw[eW,<-cY,List.drop_take,List.drop_drop];congr 1; omega
theorem gk.get (h:gk z l v j es) {k:IntKind} {i:Nat} {e:List U} (am:es[i]? = some e) :∃ p cs o,cN (.aq z) v (.int k (i:Int))=some p/\g4 l p=some (cs,o)/\o+z<=cs.length/\(cs.drop o).take z=e:=by
 cases h with
 | nil j=>simp at am
 | aq j off n cap sz cs es af al aC ax ah di cY=>
  subst aC;have az:=(List.getElem?_eq_some_iff.1 am).1;have ad:i*z+z<=es.length*z:=by rw[<-Nat.succ_mul]; exact Nat.mul_le_mul_right _ az
  have ae:es.length*z<=cap*z:=Nat.mul_le_mul_right _ ah;refine⟨.ptr j (off+i*z) sz,cs,off+i*z,?_,?_,by omega,?_⟩
  ·simp only[cN,Int.toNat_natCast];rw[if_pos ⟨trivial,by omega,by omega⟩]
  ·simp only[g4,af,if_true]
  ·have adM:=ax e (List.mem_of_getElem? am);apply List.ext_getElem?;intro m;by_cases hm:m<z
   ·rw[List.getElem?_take_of_lt hm,List.getElem?_drop,<-zA ax am hm,<-cY,List.getElem?_take_of_lt (by omega),List.getElem?_drop];congr 1; omega
   ·rw[List.getElem?_eq_none (by simp; omega),List.getElem?_eq_none (by omega)]
theorem gk.HX (h:gk z l v j es) (aE:∀ e∈es,l4 e=true) :ks l v (sN z v es) :=by
 cases h with
 | nil j=>exact .flat _ rfl
 | aq j off n cap sz cs es af al aC ax ah di cY=>
  show ks l _ (.aX z es);have qZ:off+n*z<=cs.length:=by rw[al]; have:=Nat.mul_le_mul_right z ah; omega
  refine .aq z j off n cap sz cs es af aC ax (by omega) (fun i k e c c' am ar dn=>?_);have az:i<es.length:=(List.getElem?_eq_some_iff.1 am).1;have xT:k<z:=by rw[<-ax e (List.mem_of_getElem? am)]; exact (List.getElem?_eq_some_iff.1 ar).1
  have aK:i*z+k<n*z:=by
   have:i*z+z<=es.length*z:=by rw[<-Nat.succ_mul]; exact Nat.mul_le_mul_right _ az
   rw[aC] at this; omega
  have ad:es.flatten[i*z+k]? = some c':=zB es ax i k e c' am ar;rw[<-cY,List.getElem?_take_of_lt aK,List.getElem?_drop] at ad;rw[ad] at dn;cases dn;exact .flat _ (FH (aE e (List.mem_of_getElem? am)) k _ ar)
theorem gk.sL (h:gk z l v j es) (aE:∀ e∈es,a5 e=true) :gm (a7 l) v (sN z v es) :=by
 cases h with
 | nil j=>exact .same _ rfl
 | aq j off n cap sz cs es af al aC ax ah di cY=>
  show gm (a7 l) _ (.aX z es);have qZ:off+n*z<=cs.length:=by rw[al]; have:=Nat.mul_le_mul_right z ah; omega
  refine .aq z j off n cap sz cs es (lq.2 af) aC ax (by omega) (fun i k e c c' am ar dn=>?_);have az:i<es.length:=(List.getElem?_eq_some_iff.1 am).1;have xT:k<z:=by rw[<-ax e (List.mem_of_getElem? am)]; exact (List.getElem?_eq_some_iff.1 ar).1
  have aK:i*z+k<n*z:=by
   have:i*z+z<=es.length*z:=by rw[<-Nat.succ_mul]; exact Nat.mul_le_mul_right _ az
   rw[aC] at this; omega
  have ad:es.flatten[i*z+k]? = some c':=zB es ax i k e c' am ar;rw[<-cY,List.getElem?_take_of_lt aK,List.getElem?_drop] at ad;rw[ad] at dn;cases dn;exact .same _ (zh (aE e (List.mem_of_getElem? am)) k _ ar)
theorem gk.rd (h:gk z l v j es) (aE:∀ e∈es,a5 e=true) :jo l v (sN z v es) :=by
 cases h with
 | nil j=>exact .same _ rfl
 | aq j off n cap sz cs es af al aC ax ah di cY=>
  show jo l _ (.aX z es);have qZ:off+n*z<=cs.length:=by rw[al]; have:=Nat.mul_le_mul_right z ah; omega
  refine .aq z j off n cap sz cs es af aC ax (by omega) (fun i k e c c' am ar dn=>?_);have az:i<es.length:=(List.getElem?_eq_some_iff.1 am).1;have xT:k<z:=by rw[<-ax e (List.mem_of_getElem? am)]; exact (List.getElem?_eq_some_iff.1 ar).1
  have aK:i*z+k<n*z:=by
   have:i*z+z<=es.length*z:=by rw[<-Nat.succ_mul]; exact Nat.mul_le_mul_right _ az
   rw[aC] at this; omega
  have ad:es.flatten[i*z+k]? = some c':=zB es ax i k e c' am ar;rw[<-cY,List.getElem?_take_of_lt aK,List.getElem?_drop] at ad;rw[ad] at dn;cases dn;exact .same _ (zh (aE e (List.mem_of_getElem? am)) k _ ar)
theorem gk.AZ {α:Type} {enc:α->List U} {xs:List α} (h:gk z l v j (xs.map enc)) (aE:∀ x,a5 (enc x)=true) (s:c3 α) (ak:cD v=s.isNone) (ag:s.l=xs) :jo l v (cA z enc s) :=by
 have ad:=h.rd (fun e am=>by obtain⟨x,_,rfl⟩:=List.mem_map.1 am; exact aE x);subst ag;unfold sN at ad;rw[ak] at ad;cases s with
 | none=>exact ad
 | some s=>exact ad
theorem gk.Ek {α:Type} {enc:α->List U} {xs:List α} (h:gk z l v j (xs.map enc)) (aE:∀ x,l4 (enc x)=true) (s:c3 α) (ak:cD v=s.isNone) (ag:s.l=xs) :ks l v (cA z enc s) :=by
 have ad:=h.HX (fun e am=>by obtain⟨x,_,rfl⟩:=List.mem_map.1 am; exact aE x);subst ag;unfold sN at ad;rw[ak] at ad;cases s with
 | none=>exact ad
 | some s=>exact ad
theorem gk.wo {α:Type} {enc:α->List U} {xs:List α} (h:gk z l v j (xs.map enc)) (aE:∀ x,a5 (enc x)=true) (s:c3 α) (ak:cD v=s.isNone) (ag:s.l=xs) :gm (a7 l) v (cA z enc s) :=by
 have ad:=h.sL (fun e am=>by obtain⟨x,_,rfl⟩:=List.mem_map.1 am; exact aE x);subst ag;unfold sN at ad;rw[ak] at ad;cases s with
 | none=>exact ad
 | some s=>exact ad
end
theorem ZP {P:Program} {t:TypeId} {xs bQ:List U} {r:Bool} (aw:P.eqGuardType P.depth t=false) (h:eC P 10000 t (.aG xs) (.aG bQ)=some r) :gD P .eql t (.aG xs) (.aG bQ)=some (.bool r) :=by
 simp only[gD,xp,aw,Bool.not_false,if_true,h]; rfl
theorem ZQ {P:Program} {t:TypeId} {xs bQ:List U} {r:Bool} (aw:P.eqGuardType P.depth t=false) (h:eC P 10000 t (.aG xs) (.aG bQ)=some r) :gD P .neq t (.aG xs) (.aG bQ)=some (.bool (!r)) :=by
 simp only[gD,xp,aw,Bool.not_false,if_true,h]; rfl
end Go.bY

namespace Go.bY
open Go Go.ChangeShapes Go.RowKit
theorem aiM (k:Nat) :¬ Own aM.empty (fun _=>none) k:=by
 rintro⟨b,m,al,_,_⟩;simp[aM.empty,aM.f,live,cy.get] at al
theorem acb {H:Type} {enc:TypeId × Value->H} {P:Program} {w:World} {base:Nat} {spare:Nat->Bool} {held:Bool} {fuel:Nat} {AH:String} {g t e n:Nat} {cs:Array Value} {x:DataW H × List MemPlace} (cc:List Int)
  (aw:P.globalNamed AH=some g) (ap:w.var? P AH=some cs) (aL:P.underlying t=some (.array n e)) (am:P.underlying e=some (.int .u32)) (ah:P.cellsOf e=1) (bb:DataW.trod enc P w base spare held fuel t cs.toList=some x)
  (ag:x.1=.agg (cc.map fun k=>.lit (.int .u32 k))) :dV w (fun _=>True) (.bK (cc.map fun k=>.int .u32 k) 0) (.pointer (some ⟨g,0,none⟩)) :=by
 obtain⟨xs,m,rfl,Ao,bD,aC,adL⟩:=DataW.trod_array aL bb;rw[Ao] at ag;simp only[DataW.agg.injEq] at ag;have r8:cc.length=n:=by have:=congrArg List.length ag; simp at this; omega
 have mE:∀ j k,cc[j]? = some k->w.cell? ⟨g,j,none⟩=some (.int .u32 k) :=by
  intro j k ai;have jM:j<n:=by have:=(as0.1 ai).1; omega
  have ad:=adL j jM;rw[ah,aux] at ad;have Gx:j<xs.length:=by omega
  rw[as4 Gx] at ad;obtain⟨k',aQ,bx,_⟩:=DataW.trod_int am ad;have aj:=congrArg (fun l=>l[j]?) ag;simp only[as5,as4 Gx,ai,as9,Option.some.injEq] at aj;rw[bx] at aj;have r7:k'=k:=by simpa using aj
  subst r7;have aF:=World.var?_cell aw ap j;rw[aF];have a6:(cs.toList.drop j)[0]? = some (Value.int .u32 k') :=by
   have:((cs.toList.drop j).take 1)[0]? = some (Value.int .u32 k') :=by rw[aQ]; rfl
   rw[List.getElem?_take] at this;simpa using this
  rw[atH] at a6;simpa using a6
 refine .bK _ 0 g 0 (fun j=>.int .u32 (cc.getD j 0)) (fun j ai=>?_) (fun j c ai=>?_)
 ·rw[ate] at ai;refine⟨?_,rfl,trivial,aiM g⟩;rw[aue,mE j cc[j] (as4 ai),atf,as4 ai];rfl
 ·rw[as5] at ai;cases ar:cc[j]? with
  | none=>rw[ar] at ai; cases ai
  | some k=>
   rw[ar] at ai;cases ai;rw[atf,ar];exact .int _ _
theorem X5 {H:Type} {enc:TypeId × Value->H} {P:Program} {w:World} {base:Nat} {spare:Nat->Bool} {held:Bool}:∀ {ts:List TypeId} {vs:List Value} {im:List (DataW H)} {ps:List MemPlace},
  DataW.TrodAll enc P w base spare held ts vs im ps->im.length=ts.length
 | [],vs,im,ps,h=>by obtain⟨rfl,rfl,rfl⟩:=trodAll_nil h; rfl
 | t::ts,vs,im,ps,h=>by
  obtain⟨v,al7,d,abe,a,b,rfl,rfl,rfl,ad,ae⟩:=trodAll_cons h;simp[X5 ae]
end Go.bY

namespace Go.bY
open Go
def jg:List (FuncId × Bool × (List U->Option U))->qt
 | [],_=>none
 | e::r,f=>match Nat.beq f e.1 with | true=>some e.2 | false=>jg r f
abbrev s3 (P:Program) (G:Nat->U) (e:FuncId × Bool × (List U->Option U)) :Prop:=∀ args r,e.2.2 args=some r->bA P G e.1 args r/\(e.2.1=true->gl P G e.1 args r)
theorem jW {P:Program} {G:Nat->U}:∀ {l:List (FuncId × Bool × (List U->Option U))},(∀ e∈l,s3 P G e)->Bt P G (jg l)
 | [],_,f,n,g,args,r,aE,_=>by cases aE
 | e::l,h,f,n,g,args,r,aE,aw=>by
  unfold jg at aE;split at aE
  ·rename_i af;have:=atz af;subst this;have am:e.2=(n,g) :=Option.some.inj aE;have:=h e (by simp) args r (by rw[am]; exact aw);rw[am] at this;exact this
  ·exact jW (fun x ag=>h x (by simp[ag])) f n g args r aE aw
def h0 (P:Program) (G:Nat->U) :List (FuncId × Bool × (List U->Option U))->Prop
 | []=>True
 | e::r=>s3 P G e/\h0 P G r
theorem h0.mem {P:Program} {G:Nat->U}:∀ {l:List (FuncId × Bool × (List U->Option U))},h0 P G l->∀ e∈l,s3 P G e
 | e::l,h,x,ag=>by
  rcases at0.1 ag with rfl | ag
  ·exact h.1
  ·exact h0.mem h.2 x ag
theorem j3 {P:Program} {G:Nat->U}:h0 P G [] :=trivial
theorem ev {P:Program} {G:Nat->U} {e:FuncId × Bool × (List U->Option U)} {l:List (FuncId × Bool × (List U->Option U))} (h:s3 P G e) (ae:h0 P G l) :h0 P G (e::l) :=⟨h,ae⟩
def iL:List (List U × U)->List U->Option U
 | [],_=>none
 | e::r,args=>match fx args e.1 with | true=>some e.2 | false=>iL r args
def Bo (P:Program) (G:Nat->U) (f:FuncId) :List (List U × U)->Prop
 | []=>True
 | e::r=>gl P G f e.1 e.2/\Bo P G f r
theorem jp {P:Program} {G:Nat->U} {f:FuncId}:Bo P G f [] :=trivial
theorem gC {P:Program} {G:Nat->U} {f:FuncId} {a:List U} {r:U} {l:List (List U × U)} (h:gl P G f a r) (ae:Bo P G f l) :Bo P G f ((a,r) ::l) :=⟨h,ae⟩
theorem ji {P:Program} {G:Nat->U} {f:FuncId}:∀ {l:List (List U × U)},Bo P G f l->s3 P G (f,true,iL l)
 | [],_,args,r,h=>by cases h
 | e::l,ar,args,r,h=>by
  simp only[iL] at h;split at h
  ·rename_i af;cases h;rw[ta af];exact⟨ar.1.ED,fun _=>ar.1⟩
  ·exact ji ar.2 args r h
def bf (l:List Nat) :List U:=l.map fun n=>.int .u8 (.ofNat n)
def cf (n:Int) :U:=.int .i64 n
def hr (l:List U) :List (List U) :=l.map fun c=>[c]
end Go.bY

namespace Go.bY
open Go Go.Proofs Go.Shelf Go.Sort Go.RowKit
def sorted {X:Type} (aar:X->X->Int) (xs:List X) :List X:=xs.mergeSort fun x y=>!ltOf aar y x
section
variable {P:Program} {G:Nat->U} {X:Type} {enc:X->List U} {k:Nat}
theorem Xb (ar:∀ x,(enc x).length=k) (xs:List X) {j:Nat} (ai:j<xs.length*k) :∃ x c,xs[j / k]? = some x/\(enc x)[j % k]? = some c/\((xs.map enc).flatten)[j]? = some c:=by
 have CY:0<k:=Nat.pos_of_ne_zero fun h=>by subst h; simp at ai
 have ad:j / k<xs.length:=Nat.div_lt_of_lt_mul (by rw[avQ]; exact ai);have ae:j % k<k:=auS _ CY;refine⟨xs[j / k],(enc xs[j / k])[j % k]'(by rw[ar]; exact ae),as4 ad,as4 _,?_⟩;have aj:(xs.map enc)[j / k]? = some (enc xs[j / k]) :=by rw[as5,as4 ad]; rfl
 have aF:=zA (z:=k) (fun e am=>by obtain⟨x,_,rfl⟩:=atx.1 am; exact ar x) aj ae;rw[avQ,Nat.div_add_mod] at aF;rw[aF];exact as4 _
end

end Go.bY

namespace Go.bY
open Go
section
variable {P:Program} {l:ao} {aA:Operand->U}
@[simp ↓] theorem arz:bN P aA l (.ui none)=some (.mp l.length,l++[.map [] 0]) :=id rfl
@[simp ↓] theorem aru (cK:TypeId) (zero:U) (ok:Bool) (m k:Operand) :bN P aA l (.yk cK zero ok m k)=dz l (AC P l cK zero ok (aA m) (aA k)) :=id rfl
@[simp ↓] theorem arB (cK:TypeId) (m k x:Operand) :bN P aA l (.v8 cK m k x)=(v6 P l cK (aA m) (aA k) (aA x)).map fun l'=>(gy,l') :=id rfl
@[simp ↓] theorem art (x:Operand) :bN P aA l (.v1 x)=dz l (DS l (aA x)) :=id rfl
@[simp ↓] theorem arG (x:Operand) :bN P aA l (.ws x)=AW l (aA x) :=id rfl
@[simp ↓] theorem arE (x:Operand) :bN P aA l (.wc x)=uj l (aA x) :=id rfl
@[simp ↓] theorem aqF (x:Option Operand) (v:U) (K:U->ao->Prop) :ej (.ui x) v l K=K v l:=id rfl
@[simp ↓] theorem aqA (cK:TypeId) (zero:U) (ok:Bool) (m k:Operand) (v:U) (K:U->ao->Prop) :ej (.yk cK zero ok m k) v l K=K v l:=id rfl
@[simp ↓] theorem aqH (cK:TypeId) (m k x:Operand) (v:U) (K:U->ao->Prop) :ej (.v8 cK m k x) v l K=K v l:=id rfl
@[simp ↓] theorem aqz (x:Operand) (v:U) (K:U->ao->Prop) :ej (.v1 x) v l K=K v l:=id rfl
@[simp ↓] theorem aqM (x:Operand) (v:U) (K:U->ao->Prop) :ej (.ws x) v l K=K v l:=id rfl
@[simp ↓] theorem aqK (x:Operand) (v:U) (K:U->ao->Prop) :ej (.wc x) v l K=K v l:=id rfl
end

section
variable {z:Nat} {l l' : ao} {v:U} {j:Nat} {es:List (List U)}
theorem xd (h:bO z l v j es) {by_:Nat} {x:U} {xs:List (List U)} (ag:ds l z x=some (xs.flatten,xs.length)) (tV:∀ e∈xs,e.length=z) (aI:z≠0) (dI:by_≠0) (dy:(es.length+xs.length)*by_<=ct) :
  ∃ a3 cn l',gT l z by_ v x=some (a3,l')/\bO z l' a3 cn (es++xs)/\l.length<=l'.length/\(∀ b,b<l.length->v=.aH\/b≠j->l'[b]? = l[b]?)/\(l.length<=cn\/(v≠.aH/\cn=j)\/a3=.aH)/\cD a3=(cD v&&xs.isEmpty) :=by
 by_cases ap:v=.aH
 ·subst ap;have am:es=[] :=h.q.MG;subst am;obtain⟨a3,cn,l1,ad,ae,aj,aF,a6,bu⟩:=oE (.nil (z:=z) (l:=l) (l.length+1)) ag tV aI dI dy;refine⟨a3,cn,l1,ad,ae,aj,fun b af _=>aF b af (by omega),?_,vT bu⟩;rcases a6 with a6 | a6
  ·exact .inl (by omega)
  ·exact .inl a6
 ·obtain⟨a3,cn,l1,ad,ae,aj,aF,a6,bu⟩:=oE h ag tV aI dI dy;refine⟨a3,cn,l1,ad,ae,aj,fun b af aC=>aF b af (aC.resolve_left ap),?_,vT bu⟩;rcases a6 with a6 | a6
  ·exact .inr (.inl ⟨ap,a6⟩)
  ·exact .inl a6
theorem bO.cb (h:bO z l v j es) (aE:∀ b,b<l.length->b=j->l'[b]? = l[b]?) :bO z l' v j es:=h.frame fun ai=>aE j ai rfl
theorem c8.FI {K:U->ao->Prop} (h:bO z l v j es) (ap:cD v=false) (aU:K (.aX z es) (l.set j .dead)) :c8 v l (c:=⟨K⟩) :=by
 cases h with
 | nil j=>cases ap
 | aq j n cap sz cs es af al aC ax ah di cY=>
 have aK:=cp af;have bb:(a7 (l.set j .dead)).f j=.dead:=by rw[kr,at9,if_pos rfl,if_pos aK]
 have dY:n*z<=cap*z:=as6 _ ah;refine .inr ⟨_,_,⟨by simp,fun bc=>?_⟩,.aq z j 0 n cap sz cs es (lq.2 af) bb aC ax (by omega) (fun i k e c c' am ar mD=>?_),aU⟩
 ·by_cases b6:bc=j
  ·subst b6; exact .inr ⟨sz,cs,lq.2 af,.inl bb⟩
  ·left;rw[kr,kr,at9,if_neg (by omega)]
 ·have xT:k<z:=by rw[<-ax e (ata am)]; exact (as0.1 ar).1
  have az:=(as0.1 am).1;have hm:i*z+z<=n*z:=by rw[<-atL]; exact as6 _ (by omega)
  have ad:=zA ax am xT;rw[<-cY,atp (by omega),ar] at ad;rw[aue,ad] at mD;cases mD;exact .same _
end
inductive m1 where
 | b
 | i (k:IntKind)
 | s
def NS:m1->U->Bool
 | .b,.bool _=>true
 | .i k,.int k' _=>decide (k=k')
 | .s,.str _=>true
 | _,_=>false
def jf:List m1->List U->Bool
 | [],[]=>true
 | k::cc,c::cs=>NS k c&&jf cc cs
 | _,_=>false
theorem D4:∀ {cc:List m1} {cs:List U},jf cc cs=true->cs.length=cc.length
 | [],[],_=>rfl
 | [],_::_,h=>by cases h
 | _::_,[],h=>by cases h
 | k::cc,c::cs,h=>by simp only[jf,as7] at h; simp[D4 h.2]
theorem D5:∀ {l r:List m1} {m:List U},jf (l++r) m=true->∃ eQ eG,m=eQ++eG/\jf l eQ=true/\jf r eG=true
 | [],r,m,h=>⟨[],m,rfl,rfl,h⟩
 | k::l,r,[],h=>by cases h
 | k::l,r,c::m,h=>by
  simp only[atV,jf,as7] at h;obtain⟨eQ,eG,rfl,ad,ae⟩:=D5 h.2;exact⟨c::eQ,eG,rfl,by simp[jf,h.1,ad],ae⟩
theorem VS {k:IntKind} {xs:List U} (h:jf [.i k] xs=true) :∃ p,xs=[.int k p] :=by
 cases xs with
 | nil=>cases h
 | cons c r=>
  simp only[jf,as7] at h;cases r with
  | cons _ _=>cases h.2
  | nil=>
   cases c<;>simp only[NS] at h<;>try (cases h.1; done)
   rename_i k' p;have ar:k=k':=by simpa using h.1
   subst ar;exact⟨p,rfl⟩
theorem Jg:∀ {jF iP lp pi:List U},jF.length=iP.length->fx (jF++lp) (iP++pi)=(fx jF iP&&fx lp pi)
 | [],[],_,_,_=>by simp[fx]
 | [],_::_,_,_,h=>by simp at h
 | _::_,[],_,_,h=>by simp at h
 | a::jF,b::iP,lp,pi,h=>by
  simp only[atk,Nat.add_right_cancel_iff] at h;simp only[atV,fx,Jg h,Bool.and_assoc]
section
variable (P:Program)
def Hn (f:TypeId->Option (List m1)) :List Field->Nat->Option (List m1)
 | [],_=>some []
 | fd::fs,o=>match f fd.type,cu P fd.type with
  | some l,some z=>match fd.name != "_"&&Nat.beq fd.offset o&&Nat.beq l.length z with
   | true=>match Hn f fs (o+z) with
    | some r=>some (l++r)
    | none=>none
   | false=>none
  | _,_=>none
def sw:Nat->TypeId->Option (List m1)
 | 0,_=>none
 | d+1,t=>match P.underlying t with
  | some .bool=>some [.b]
  | some (.int k)=>some [.i k]
  | some .string=>some [.s]
  | some (.array n e)=>match sw d e,cu P e with
   | some l,some z=>match Nat.beq l.length z with
    | true=>some (List.replicate n l).flatten
    | false=>none
   | _,_=>none
  | some (.struct fs)=>match P.stoodInHeld t with
   | false=>Hn P (sw d) fs.toList 0
   | true=>none
  | _=>none
def lx (t:TypeId) (l:List U) :Option U:=match eo P t with
 | some true=>some (.aG l)
 | some false=>l[0]?
 | none=>none
end
variable {P:Program}
theorem HN {t:TypeId} {z:Nat} (ax:cu P t=some z) {pre mid post:List U} (hm:mid.length=z) (aw:eo P t=some false->mid.length=1) :ic P t (pre++(mid++post)) pre.length=lx P t mid:=by
 unfold ic lx;rw[ax];cases aB:eo P t with
 | none=>rfl
 | some g=>
  cases g with
  | true=>
   simp only;rw[if_pos (by simp; omega),List.drop_left,atG (by omega),as1 (by omega)]
  | false=>
   have:=aw aB;simp only;rw[atl (by omega),auZ,as2 (by omega)]
def EqAt (P:Program) (f:TypeId->Option (List m1)) (eq:TypeId->U->U->Option Bool) :Prop:=
 ∀ t cc,f t=some cc->(eo P t=some false->cc.length=1)/\∀ xs bQ,jf cc xs=true->jf cc bQ=true->∃ a b,lx P t xs=some a/\lx P t bQ=some b/\eq t a b=some (fx xs bQ)
theorem RF {f:TypeId->Option (List m1)} {eq:TypeId->U->U->Option Bool} (am:EqAt P f eq) :∀ (fs:List Field) (o:Nat) (cc:List m1),Hn P f fs o=some cc->∀ (o7 o8 cH oZ:List U),o7.length=o->o8.length=o->jf cc cH=true->jf cc oZ=true->
  eC.eqFields P eq (o7++cH) (o8++oZ) fs=some (fx cH oZ)
 | [],o,cc,h,o7,o8,cH,oZ,ag,aJ,rj,ub=>by
  cases h;cases cH with
  | nil=>cases oZ with | nil=>rfl | cons _ _=>cases ub
  | cons _ _=>cases rj
 | fd::fs,o,cc,h,o7,o8,cH,oZ,ag,aJ,rj,ub=>by
  unfold Hn at h;split at h
  ·rename_i l z al ax;split at h
   ·rename_i ah;simp only[as7,bne_iff_ne,ne_eq] at ah;split at h
    ·rename_i r ay;cases h;obtain⟨jF,lp,rfl,a2,bd⟩:=D5 rj;obtain⟨iP,pi,rfl,cX,dC⟩:=D5 ub;have au:fd.offset=o:=atz ah.1.2;have GI:l.length=z:=atz ah.2;obtain⟨aO,aT⟩:=am _ _ al;obtain⟨a,b,qH,qI,xo⟩:=aT jF iP a2 cX;have Mr:=D4 a2;have Ms:=D4 cX;unfold eC.eqFields;rw[if_neg ah.1.1,au];rw[show ic P fd.type (o7++(jF++lp)) o=some a by rw[<-ag,HN ax (by omega) (fun h=>by rw[Mr]; exact aO h)]; exact qH];rw[show ic P fd.type (o8++(iP++pi)) o=some b by rw[<-aJ,HN ax (by omega) (fun h=>by rw[Ms]; exact aO h)]; exact qI];simp only[xo];rw[Jg (by omega)];have aS:=RF am fs (o+z) r ay (o7++jF) (o8++iP) lp pi (by simp; omega) (by simp; omega) bd dC;rw[atK,atK] at aS;cases fx jF iP with
     | true=>simpa using aS
     | false=>simp
    ·cases h
   ·cases h
  ·cases h
theorem RE {eq:TypeId->U->U->Option Bool} {e:TypeId} {l:List m1} {z:Nat} (ax:cu P e=some z) (GI:l.length=z) (aw:eo P e=some false->l.length=1)
  (am:∀ xs bQ,jf l xs=true->jf l bQ=true->∃ a b,lx P e xs=some a/\lx P e bQ=some b/\eq e a b=some (fx xs bQ)) :∀ (n i:Nat) (o7 o8 cH oZ:List U),o7.length=i*z->o8.length=i*z->jf (List.replicate n l).flatten cH=true->jf (List.replicate n l).flatten oZ=true->
  eC.r1 P eq e z (o7++cH) (o8++oZ) n i=some (fx cH oZ)
 | 0,i,o7,o8,cH,oZ,ag,aJ,rj,ub=>by
  simp only[List.replicate_zero,List.flatten_nil] at rj ub;cases cH with
  | nil=>cases oZ with | nil=>rfl | cons _ _=>cases ub
  | cons _ _=>cases rj
 | n+1,i,o7,o8,cH,oZ,ag,aJ,rj,ub=>by
  rw[atP,atW] at rj ub;obtain⟨jF,lp,rfl,a2,bd⟩:=D5 rj;obtain⟨iP,pi,rfl,cX,dC⟩:=D5 ub;obtain⟨a,b,qH,qI,xo⟩:=am jF iP a2 cX;have Mr:=D4 a2;have Ms:=D4 cX;unfold eC.r1;rw[show ic P e (o7++(jF++lp)) (i*z)=some a by rw[<-ag,HN ax (by omega) (fun h=>by rw[Mr]; exact aw h)]; exact qH];rw[show ic P e (o8++(iP++pi)) (i*z)=some b by rw[<-aJ,HN ax (by omega) (fun h=>by rw[Ms]; exact aw h)]; exact qI];simp only[xo];rw[Jg (by omega)];have aS:=RE ax GI aw am n (i+1) (o7++jF) (o8++iP) lp pi (by simp[atL]; omega) (by simp[atL]; omega) bd dC;rw[atK,atK] at aS;cases fx jF iP with
  | true=>simpa using aS
  | false=>simp
theorem JN:∀ (d D:Nat),d<=D->EqAt P (sw P d) (eC P D)
 | 0,D,_,t,cc,h=>by cases h
 | d+1,0,bb,t,cc,h=>by omega
 | d+1,D+1,bb,t,cc,h=>by
  have aS:=JN d D (by omega);unfold sw at h;split at h
  ·rename_i aL;have aB:eo P t=some false:=by unfold eo; rw[aL]; rfl
   cases h;refine⟨fun _=>rfl,fun xs bQ ag aJ=>?_⟩
   match xs,bQ,ag,aJ with
   | [.bool p],[.bool q],_,_=>
    refine⟨.bool p,.bool q,by simp[lx,aB],by simp[lx,aB],?_⟩;unfold eC; rw[aL];cases p<;>cases q<;>rfl
  ·rename_i k aL;have aB:eo P t=some false:=by unfold eo; rw[aL]; rfl
   cases h;refine⟨fun _=>rfl,fun xs bQ ag aJ=>?_⟩;obtain⟨p,rfl⟩:=VS ag;obtain⟨q,rfl⟩:=VS aJ
   ·refine⟨.int k p,.int k q,by simp[lx,aB],by simp[lx,aB],?_⟩;unfold eC; rw[aL];by_cases h:p=q<;>simp[fx,U.beq,h]
  ·rename_i aL;have aB:eo P t=some false:=by unfold eo; rw[aL]; rfl
   cases h;refine⟨fun _=>rfl,fun xs bQ ag aJ=>?_⟩
   match xs,bQ,ag,aJ with
   | [.str p],[.str q],_,_=>
    refine⟨.str p,.str q,by simp[lx,aB],by simp[lx,aB],?_⟩;unfold eC; rw[aL];by_cases h:p=q<;>simp[fx,U.beq,h]
  ·rename_i n e aL;have aB:eo P t=some true:=by unfold eo; rw[aL]; rfl
   split at h
   ·rename_i l z al ax;split at h
    ·rename_i GI;cases h;obtain⟨aO,aT⟩:=aS _ _ al;refine⟨fun h=>(by rw[aB] at h; cases h),fun xs bQ ag aJ=>⟨.aG xs,.aG bQ,by simp[lx,aB],by simp[lx,aB],?_⟩⟩;unfold eC; rw[aL];simp only[ax];exact RE ax (atz GI) aO aT n 0 [] [] xs bQ (by simp) (by simp) ag aJ
    ·cases h
   ·cases h
  ·rename_i fs aL;have aB:eo P t=some true:=by unfold eo; rw[aL]; rfl
   split at h
   ·rename_i ak;refine⟨fun h=>(by rw[aB] at h; cases h),fun xs bQ ag aJ=>⟨.aG xs,.aG bQ,by simp[lx,aB],by simp[lx,aB],?_⟩⟩;unfold eC; rw[aL];simp only[ak,auh,if_false];exact RF aS fs.toList 0 cc h [] [] xs bQ rfl rfl ag aJ
   ·cases h
  ·cases h
theorem Ff {t:TypeId} {cc:List m1} (ar:sw P 20 t=some cc) (aB:eo P t=some true) (aw:P.eqGuardType P.depth t=false) {xs bQ:List U} (ag:jf cc xs=true) (aJ:jf cc bQ=true) :gD P .eql t (.aG xs) (.aG bQ)=some (.bool (fx xs bQ)) :=by
 obtain⟨a,b,qH,qI,xo⟩:=(JN (P:=P) 20 10000 (by omega) t cc ar).2 xs bQ ag aJ;simp only[lx,aB,Option.some.injEq] at qH qI;subst qH; subst qI;exact ZP aw xo
theorem Pf {t:TypeId} {cc:List m1} (ar:sw P 20 t=some cc) (aB:eo P t=some true) (aw:P.eqGuardType P.depth t=false) {xs bQ:List U} (ag:jf cc xs=true) (aJ:jf cc bQ=true) :gD P .neq t (.aG xs) (.aG bQ)=some (.bool (!fx xs bQ)) :=by
 obtain⟨a,b,qH,qI,xo⟩:=(JN (P:=P) 20 10000 (by omega) t cc ar).2 xs bQ ag aJ;simp only[lx,aB,Option.some.injEq] at qH qI;subst qH; subst qI;exact ZQ aw xo
end Go.bY

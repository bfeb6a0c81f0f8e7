/-
  The canonical machine, carried out on code without types (for calls without unknowns).
-/
import Derived.Test.YtboebmmklamaeaaGreatDoorVe
import Derived.OpenShut
import Derived.Shelf.SlSortCmp.InsertionK
import Derived.Sort.LotA
set_option linter.unusedVariables false
set_option linter.unusedSimpArgs false
set_option linter.unnecessarySimpa false
namespace Go.cn
open Go
def acD (n:Nat) (h:aQ) (p v:ae) :Option aQ:=
 match p,v.cells with
 | .ptr b off sz,some vs=>match h.f b with
  | .cells m cs=>if m=sz/\vs.length=n/\off+n<=m then some (h.set b (.cells m (bS cs off vs))) else none
  | _=>none
 | _,_=>none
def BR (h:aQ) (z by_:Nat) (s:ae) (xs:List ae) (n:Nat) :Option (ae × aQ) :=
 if n=0 then (match s with | .aX | .b0 .. | .ao ..=>some (s,h) | _=>none)
 else if z=0\/by_=0 then none else match s with
  | .aX=>if n*by_<=cT then some (.ao z h.n 0 n n (n*z),h.push (.cells (n*z) xs)) else none
  | .ao di b off len cap sz=>match h.f b with
   | .cells m cs=>
    if m=sz/\z=di/\(len+n)*by_<=cT then
     if len+n<=cap then some (.ao z b off (len+n) cap sz,h.set b (.cells m (bS cs (off+len*z) xs)))
     else if off+cap*z<sz then some (.ao z h.n 0 (len+n) (len+n) ((len+n)*z),h.push (.cells ((len+n)*z) ((cs.drop off).take (len*z)++xs)))
     else if off=0 then some (.ao z b 0 (len+n) (len+n) ((len+n)*z),h.set b (.cells ((len+n)*z) (cs.take (len*z)++xs)))
     else some (.ao z h.n 0 (len+n) (len+n) ((len+n)*z),(h.set b .dead).push (.cells ((len+n)*z) ((cs.drop off).take (len*z)++xs)))
    else none
   | _=>none
  | _=>none
def Tg (z:Nat) (h:aQ) (d x:ae) :Option (ae × aQ) :=
 match contents h z x with
 | none=>none
 | some (xs,n)=>match d with
  | .aX=>some (.int .i64 0,h)
  | .ao di b off len _ sz=>match h.f b with
   | .cells m cs=>if m=sz/\z=di then some (.int .i64 ((min n len:Nat) :Int),h.set b (.cells m (bS cs off (xs.take (min n len*z))))) else none
   | _=>none
  | _=>none
def S1 (zero:List ae) (h:aQ) :ae->Option aQ
 | .aX=>some h
 | .b0 _ []=>some h
 | .ao z b off len _ sz=>if len=0 then some h else match h.f b with
  | .cells m cs=>if m=sz/\zero.length=z then some (h.set b (.cells m (bS cs off (dm zero len)))) else none
  | _=>none
 | _=>none
def Ye (z by_:Nat) (zero:List ae) (h:aQ) (l c:ae) :Option (ae × aQ) :=match l,c with
 | .int _ l,.int _ c=>if 0<=l/\l<=c/\c<9223372036854775808/\by_*c<=cT then
   some (.ao z h.n 0 l.toNat c.toNat (c.toNat*z),h.push (.cells (c.toNat*z) (dm zero c.toNat))) else none
 | _,_=>none
def SR (h:aQ) (x:ae) :Option ae:=match x with
 | .aX=>some (.str [])
 | .str _=>none
 | x=>match contents h 1 x with | some (cs,_)=>(lO cs).map .str | none=>none
def PC (h:aQ) (z by_:Nat) (s x:ae) :Option (ae × aQ) :=match contents h z x with
 | none=>none
 | some (xs,n)=>BR h z by_ s xs n
def PG (h:aQ) (z by_:Nat) (zero:List ae) (s x:ae) :Option (ae × aQ) :=match x with
 | .int _ n=>if 0<=n/\n<9223372036854775808/\n.toNat*by_<=cT then BR h z by_ s (dm zero n.toNat) n.toNat else none
 | _=>none
def S7 (h:aQ) (x y:ae) :Option ae:=match qk h x,qk h y with
 | some a,some b=>some (.int .i64 (mA a b))
 | _,_=>none
def abT (h:aQ) (x:ae) :Option (ae × aQ) :=match x with
 | .str s=>some (.it h.n,h.push (.iter s 0))
 | _=>none
def XX (h:aQ) (x:ae) :Option ae:=match x with
 | .g6=>some (.int .i64 0)
 | .mp b=>match h.f b with | .map es _=>some (.int .i64 es.length) | _=>none
 | _=>none
def X3 (P:Program) (h:aQ) (cP:TypeId) (zero:ae) (ok:Bool) (m k:ae) :Option ae:=
 match mapOf h m with
 | some es=>match j5 P cP k with
  | false=>none
  | true=>match iQ P cP k es 0 with
   | some (some (_,v))=>some (if ok then .bU [v,.bool true] else v)
   | some none=>some (if ok then .bU [zero,.bool false] else zero)
   | none=>none
 | none=>none
def X6 (P:Program) (h:aQ) (cP:TypeId) (m k v:ae) :Option aQ:=
 match m with
 | .mp b=>match h.f b with
  | .map es ei=>match j5 P cP k with
   | false=>none
   | true=>match iQ P cP k es 0 with
    | some (some (i,_))=>some (h.set b (.map (es.modify i fun e=>(k,v,e.2.2)) ei))
    | some none=>some (h.set b (.map (es++[(k,v,ei)]) (ei+1)))
    | none=>none
  | _=>none
 | _=>none
def gQ (h:aQ) (x:Option ae) :Option (ae × aQ) :=match x with | some v=>some (v,h) | none=>none
section
variable (P:Program)
def AX (aD:Operand->ae) (h:aQ) :a6->Option (ae × aQ)
 | .aq x=>some (aD x,h)
 | .pick c a b=>gQ h (A9 (aD c) (aD a) (aD b))
 | .alloc zero=>some (.ptr h.n 0 zero.length,h.push (.cells zero.length zero))
 | .box x=>match (aD x).cells with | some cs=>some (.ptr h.n 0 cs.length,h.push (.cells cs.length cs)) | none=>none
 | .eh zero cH=>gQ h ((od zero (cH.map fun p=>(p.1,p.2.1,aD p.2.2))).map .aV)
 | .cQ z zero len cH=>match gZ (fun i=>some (i*z,z)) (dm zero len) (cH.map fun p=>(p.1,aD p.2)) with | some cs=>some (.ao z h.n 0 len len (len*z),h.push (.cells (len*z) cs)) | none=>none
 | .ld1 a=>gQ h (match reach h (aD a) with | some (cs,o)=>cs[o]? | none=>none)
 | .aW n a=>gQ h (match reach h (aD a) with | some (cs,o)=>rg n cs o | none=>none)
 | .st n a x=>match acD n h (aD a) (aD x) with | some h'=>some (gT,h') | none=>none
 | .mg x=>gQ h (wg (aD x))
 | .bin o t x y=>gQ h (gc P o t (aD x) (aD y))
 | .un o x=>gQ h (o1 o (aD x))
 | .cB k x=>gQ h (zl k (aD x))
 | .wY x=>gQ h (Cg (aD x))
 | .rR x=>gQ h (SR h (aD x))
 | .qp x=>gQ h (tx (aD x))
 | .sK t x=>some (.gg t (aD x),h)
 | .yF t z ok x=>gQ h (yG t z ok (aD x))
 | .pM f a b=>some (.fn f (a.map aD) (b.map aD),h)
 | .lB z by_ zero a c=>Ye z by_ zero h (aD a) (aD c)
 | .slice db x cW aA cI=>gQ h (fQ db (aD x) (cW.map aD) (aA.map aD) (cI.map aD))
 | .aO off x=>gQ h (my (aD x) off)
 | .w8 off x=>gQ h (zJ off (aD x))
 | .w9 n off x=>gQ h (xa n off (aD x))
 | .bm db x i=>gQ h (cS db (aD x) (aD i))
 | .v1 n z x i=>gQ h (AM n z (aD x) (aD i))
 | .AL n z x i=>gQ h (AN n z (aD x) (aD i))
 | .pC x i=>gQ h (v2 (aD x) (aD i))
 | .ext x i=>gQ h (zH (aD x) i)
 | .len db x=>gQ h (c8 db (aD x))
 | .cap db x=>gQ h (rQ db (aD x))
 | .app z by_ s x=>PC h z by_ (aD s) (aD x)
 | .qg z by_ zero s x=>PG h z by_ zero (aD s) (aD x)
 | .tw z d x=>Tg z h (aD d) (aD x)
 | .qn zero x=>match S1 zero h (aD x) with | some h'=>some (.bU [],h') | none=>none
 | .min x y=>gQ h (yb (aD x) (aD y))
 | .max x y=>gQ h (sJ (aD x) (aD y))
 | .pN x=>match x with
  | none=>some (.mp h.n,h.push (.map [] 0))
  | some o=>match asInt (aD o) with | some _=>some (.mp h.n,h.push (.map [] 0)) | none=>none
 | .sH cP zero ok m k=>gQ h (X3 P h cP zero ok (aD m) (aD k))
 | .q4 cP m k x=>match X6 P h cP (aD m) (aD k) (aD x) with | some h'=>some (gT,h') | none=>none
 | .ul x=>gQ h (XX h (aD x))
 | .sW x=>abT h (aD x)
 | .sN x=>yd h (aD x)
 | .cN f qt x y=>match AJ f (aD qt) with | true=>gQ h (S7 h (aD x) (aD y)) | false=>none
 | .stop=>none
end
def nQ (r:ae->Option ae) :List ae->Option (List ae)
 | []=>some []
 | c::cs=>match r c with
  | some c'=>match nQ r cs with
   | some cs'=>some (c'::cs')
   | none=>none
  | none=>none
def sU (h:aQ) :Nat->ae->Option ae
 | 0,_=>none
 | d+1,c=>match c with
  | .aV cs=>match nQ (sU h d) cs with | some cs'=>some (.aV cs') | none=>none
  | .bU cs=>match nQ (sU h d) cs with | some cs'=>some (.bU cs') | none=>none
  | .ao z b off len cap sz=>match Nat.beq len 0 with
   | true=>some (.b0 z [])
   | false=>match h.f b with
    | .cells n cs=>match Nat.beq n sz&&Nat.ble (off+len*z) cs.length with
     | true=>match nQ (sU h d) ((cs.drop off).take (len*z)) with
      | some xs=>some (.b0 z (kJ z len xs))
      | none=>none
     | false=>none
    | _=>none
  | .ptr b off sz=>match h.f b with
   | .cells n cs=>match Nat.beq n sz with
    | true=>match nQ (sU h d) cs with | some cs'=>some (.cq cs' off) | none=>none
    | false=>none
   | _=>none
  | c=>match c.closed with | true=>some c | false=>none
def PO (x:ae) :Option Int:=match x with
 | .int k i=>match k with | .i64=>some i | _=>none
 | _=>none
def lz (z:Nat) (cs vs:List ae) (i len:Nat) :List ae:=cs.take (i*z)++vs++(cs.drop (i*z)).take ((len - i)*z)++cs.drop ((len+1)*z)
def AH (z by_:Nat) (h:aQ) (s:ae) (i:Nat) (bv:Nat) (vs:List ae) :Option (ae × aQ) :=match s with
 | .aX=>if i=0/\by_<=cT then some (.ao z h.n 0 1 1 z,h.push (.cells z vs)) else none
 | .ao lH b off len cap sz=>match h.f b with
  | .cells m cs=>if m=cap*z/\sz=cap*z/\lH=z/\off=0/\bv≠b/\i<=len/\len<=cap/\(len+1)*by_<=cT then
    some (.ao z h.n 0 (len+1) (max cap (len+1)) (max cap (len+1)*z),(h.set b .dead).push (.cells (max cap (len+1)*z) (lz z cs vs i len))) else none
  | _=>none
 | _=>none
def sB (z by_:Nat) (args:List ae) (h:aQ) :Option (ae × aQ) :=match args with
 | [s,x,y]=>match PO x,y with
  | some i,.ao iH bv nG ce dB mQ=>match h.f bv with
   | .cells jc vs=>if iH=z/\nG=0/\ce=1/\dB=1/\mQ=z/\jc=z/\0<=i then AH z by_ h s i.toNat bv vs else none
   | _=>none
  | _,_=>none
 | _=>none
class o9 (P:Program) (G:Nat->ae) where
 get:FuncId->Option (Nat × Nat)
 ok:∀ f z by_,get f=some (z,by_)->∀ args h r h',sB z by_ args h=some (r,h')->rz P G f args h r h'
instance (priority:=10) awq (P:Program) (G:Nat->ae) :o9 P G:=⟨fun _=>none,fun f z by_ h=>by cases h⟩
abbrev mX:=FuncId->List ae->aQ->Option (ae × aQ)
abbrev E2:=Option (qa × gw × aQ)
mutual
def bt.beq:bt->bt->Bool
 | .none,y=>match y with | .none=>true | _=>false
 | .dead,y=>match y with | .dead=>true | _=>false
 | .cells n cs,y=>match y with | .cells gB cs'=>Nat.beq n gB&&e8 cs cs' | _=>false
 | .map ..,_=>false
 | .iter ..,_=>false
end
section
variable (P:Program) (G:Nat->ae)
def CF (s:gw) (g:Option (Option Tmp × Bool)) :Option Bool:=match g with
 | none=>some true
 | some (some d,w)=>match look s d with
  | .bool b=>some (b == w)
  | .bad=>none
  | _=>some false
 | some (none,_)=>some false
def za (call:mX) (b:o6) (s:gw) (h:aQ) :Option (ae × aQ) :=match b with
 | .cG m=>AX P (cY G (look s)) h m
 | .cR f args=>call f (args.map (cY G (look s))) h
 | .gW x args=>match cY G (look s) x with
  | .fn g first ft=>match h5 P g with
   | true=>call g (first++args.map (cY G (look s))++ft) h
   | false=>none
  | _=>none
 | .m8 x name args=>match cY G (look s) x with
  | .gg t v=>match we P t name with
   | some g=>match h5 P g with
    | true=>call g (v::args.map (cY G (look s))) h
    | false=>none
   | none=>none
  | _=>none
def Br (call:mX) :List dT->gw->aQ->Option (gw × aQ)
 | [],s,h=>some (s,h)
 | x::r,s,h=>match CF s x.g with
  | some true=>match za P G call x.b s h with
   | some (v,h')=>Br call r (Bd s x.dst v) h'
   | none=>none
  | some false=>Br call r (Bd s x.dst gT) h
  | none=>none
def ED (b:o6) (s:gw) (v:ae) (h h' h1:aQ) :Bool:=match b with
 | .cG m=>match m.ic with
  | true=>bt.beq (h1.f h.n) (h'.f h.n)
  | false=>match m.looks with
   | true=>match AX P (cY G (look s)) h1 m with
    | some (bf,_)=>ae.beq bf v
    | none=>false
   | false=>false
 | _=>true
def B9 (ids:List Nat) (h:aQ) :List (Nat × (aQ->Bool))->Bool
 | []=>true
 | e::r=>(!ids.contains e.1||e.2 h)&&B9 ids h r
def Bq (call:mX) :List dT->gw->aQ->List (Nat × (aQ->Bool))->Option (gw × aQ)
 | [],s,h,_=>some (s,h)
 | x::r,s,h,seen=>match CF s x.g with
  | some true=>match za P G call x.b s h with
   | some (v,h')=>match B9 x.h2 h' seen with
    | true=>Bq call r (Bd s x.dst v) h' (match x.cM with | true=>(x.i,ED P G x.b s v h h') ::seen | false=>seen)
    | false=>none
   | none=>none
  | some false=>Bq call r (Bd s x.dst gT) h seen
  | none=>none
def SS (call:mX) (aL:aS->gw->aQ->E2) (c:aS) (s:gw) (h:aQ) :E2:=
 match c with
 | .skip=>some (.normal,s,h)
 | .ret=>some (.ret,s,h)
 | .exit id=>some (.exit id,s,h)
 | .ak x=>match Br P G call x s h with
  | some (dZ,h1)=>some (.normal,dZ,h1)
  | none=>none
 | .gJ x=>match Bq P G call x s h [] with
  | some (dZ,h1)=>some (.normal,dZ,h1)
  | none=>none
 | .seq a b=>match aL a s h with
  | some (.normal,dZ,h1)=>aL b dZ h1
  | r=>r
 | .cond c x y=>match cY G (look s) c with
  | .bool true=>aL x s h
  | .bool false=>aL y s h
  | _=>none
 | .block id c=>match aL c s h with
  | some (.exit qV,dZ,h1)=>match Nat.beq qV id with
   | true=>some (.normal,dZ,h1)
   | false=>some (.exit qV,dZ,h1)
  | r=>r
 | .loop c=>match aL c s h with
  | some (.normal,dZ,h1)=>aL (.loop c) dZ h1
  | r=>r
def B7 (call:mX) :Nat->aS->gw->aQ->E2
 | 0=>fun _ _ _=>none
 | k+1=>SS P G call (B7 call k)
def Bn (s:gw) (h:aQ) :List a6->List ae->Option ae
 | [],acc=>some (uN acc)
 | m::r,acc=>match AX P (cY G (look s)) h m with
  | some (v,_)=>Bn s h r (acc++[v])
  | none=>none
abbrev n2:=FuncId->Option (Bool × (List ae->Option ae))
abbrev s9:=FuncId->Option (aS × List a6)
def Fo (orc:n2) (f:FuncId) (args:List ae) (h:aQ) :Option ae:=
 match orc f with
 | some (n,g)=>match nQ (sU h 20) args with
  | some hP=>match g hP with
   | some r=>match n||r.flat with | true=>some r | false=>none
   | none=>none
  | none=>none
 | none=>none
def SP [o9 P G] (orc:n2) (ka:s9) (fuel:Nat) (call:mX) :mX:=fun f args h=>
 match o9.get P G f with
 | some (z,by_)=>sB z by_ args h
 | none=>match Fo orc f args h with
 | some r=>some (r,h)
 | none=>match ka f with
  | none=>none
  | some (c,mj)=>match B7 P G call fuel c (yi 0 .nil args) h with
   | some (.normal,eY,h')=>match Bn P G eY h' mj [] with | some r=>some (r,h') | none=>none
   | some (.ret,eY,h')=>match Bn P G eY h' mj [] with | some r=>some (r,h') | none=>none
   | _=>none
def zj [o9 P G] (orc:n2) (ka:s9) (fuel:Nat) :Nat->mX
 | 0=>fun _ _ _=>none
 | k+1=>SP P G orc ka fuel (zj orc ka fuel k)
end
structure eu (h:aQ) (l:av) :Prop where
 n:h.n=l.length
 f:∀ b,h.f b=(b3 l).f b
theorem eu.nil:eu aQ.empty [] :=⟨rfl,fun _=>rfl⟩
theorem eu.some {h:aQ} {l:av} (r:eu h l) {b:Nat} {c:bt} (al:h.f b=c) (aH:c≠.none) :l[b]? = some c:=by
 rw[r.f,n1] at al;split at al
 ·rename_i c' h1; rw[h1,al]
 ·exact absurd al.symm aH
theorem eu.push {h:aQ} {l:av} (r:eu h l) (c:bt) :eu (h.push c) (l++[c]) :=
 ⟨by rw[e3,r.n]; simp,fun b=>by rw[dR,<-lb,dR,r.n,wF]; unfold b5; (split<;>first | rfl | exact r.f b)⟩
theorem eu.set {h:aQ} {l:av} (r:eu h l) {b:Nat} {u6:bt} (ai:l[b]? = Option.some u6) (c:bt) :eu (h.set b c) (l.set b c) :=
 ⟨by rw[eI,r.n]; simp,fun bx=>by rw[dz,<-m0 _ (e9 ai),dz]; unfold b5; (split<;>first | rfl | exact r.f bx)⟩
section
variable {P:Program} {G:Nat->ae} {h h' : aQ} {l:av}
theorem eu.reach (r:eu h l) (p:ae) :reach h p=eC l p:=by
 rw[<-N6];cases p<;>try rfl
 simp only[cn.reach,r.f]
theorem eu.contents (r:eu h l) (z:Nat) (x:ae) :contents h z x=dv l z x:=by
 rw[<-zt];cases x<;>try rfl
 simp only[cn.contents,r.f]
theorem eu.mapOf (r:eu h l) (x:ae) :mapOf h x=q2 l x:=by
 cases x<;>try rfl
 rename_i b;simp only[cn.mapOf,q2,r.f,n1];cases l[b]? with
 | none=>rfl
 | some c=>cases c<;>rfl
theorem eu.bytes (r:eu h l) (x:ae) :qk h x=m7 l x:=by
 cases x<;>simp only[qk,m7,r.contents]<;>rfl
theorem am0 {x:Option ae} {v:ae} (aj:gQ h x=some (v,h')) :x=some v/\h'=h:=by
 cases x with
 | none=>cases aj
 | some y=>cases aj; exact⟨rfl,rfl⟩
theorem wh (r:eu h l) {x y:Option ae} {v:ae} (nB:x=y) (aj:gQ h x=some (v,h')) :∃ l',dq l y=some (v,l')/\eu h' l':=by
 obtain⟨rfl,rfl⟩:=am0 aj;exact⟨l,by rw[<-nB]; rfl,r⟩
theorem PH (r:eu h l) {z by_ n:Nat} {s v:ae} {xs:List ae} (aj:BR h z by_ s xs n=some (v,h')) :∃ l',h0 l z by_ s xs n=some (v,l')/\eu h' l':=by
 unfold BR at aj;unfold h0;by_cases aH:n=0
 ·rw[if_pos aH] at aj ⊢;cases s<;>simp at aj ⊢<;>(obtain⟨rfl,rfl⟩:=aj; exact⟨l,⟨rfl,rfl⟩,r⟩)
 ·rw[if_neg aH] at aj ⊢;by_cases aT:z=0\/by_=0
  ·rw[if_pos aT] at aj; cases aj
  ·rw[if_neg aT] at aj ⊢;cases s<;>simp only at aj ⊢<;>try (cases aj; done)
   case aX=>
    by_cases aC:n*by_<=cT
    ·rw[if_pos aC] at aj ⊢; cases aj; exact⟨_,by rw[r.n],r.push _⟩
    ·rw[if_neg aC] at aj; cases aj
   case ao di b off len cap sz=>
    cases ai:h.f b<;>rw[ai] at aj<;>(try simp only at aj)<;>try (cases aj; done)
    rename_i m cs;have au:=r.some ai (by simp);rw[au];simp only;by_cases h1:m=sz/\z=di/\(len+n)*by_<=cT
    ·rw[if_pos h1] at aj ⊢;by_cases ag:len+n<=cap
     ·rw[if_pos ag] at aj ⊢; cases aj; exact⟨_,rfl,r.set au _⟩
     ·rw[if_neg ag] at aj ⊢;by_cases ap:off+cap*z<sz
      ·rw[if_pos ap] at aj ⊢; cases aj; exact⟨_,by rw[r.n],r.push _⟩
      ·rw[if_neg ap] at aj ⊢;by_cases aJ:off=0
       ·rw[if_pos aJ] at aj ⊢; cases aj; exact⟨_,rfl,r.set au _⟩
       ·rw[if_neg aJ] at aj ⊢; cases aj; exact⟨_,by rw[r.n],(r.set au _).push _⟩
    ·rw[if_neg h1] at aj; cases aj
theorem K9 (r:eu h l) {aD:Operand->ae} {m:a6} {v:ae} (aj:AX P aD h m=some (v,h')) :∃ l',bW P aD l m=some (v,l')/\eu h' l':=by
 cases m<;>simp only[AX] at aj<;>simp only[bW]
 case aq=>cases aj; exact⟨l,rfl,r⟩
 case alloc=>cases aj; exact⟨_,by rw[r.n],r.push _⟩
 case box x=>
  cases al:(aD x).cells with
  | none=>rw[al] at aj; cases aj
  | some cs=>rw[al] at aj; cases aj; exact⟨_,by simp only[Option.map_some,r.n],r.push _⟩
 case cQ z zero n cH=>
  split at aj
  ·rename_i cs al; cases aj; exact⟨_,by rw[al]; simp only[Option.map_some,r.n],r.push _⟩
  ·cases aj
 case ld1 a=>
  rw[r.reach] at aj;refine wh r ?_ aj;cases eC l (aD a)<;>rfl
 case aW n a=>
  rw[r.reach] at aj;refine wh r ?_ aj;cases eC l (aD a)<;>rfl
 case st n a x=>
  unfold acD at aj;unfold jF;cases aG:aD a<;>rw[aG] at aj<;>(try simp only at aj)<;>try (cases aj; done)
  rename_i b off sz;cases al:(aD x).cells with
  | none=>rw[al] at aj; cases aj
  | some vs=>
   rw[al] at aj;simp only at aj ⊢;cases ai:h.f b<;>rw[ai] at aj<;>(try simp only at aj)<;>try (cases aj; done)
   rename_i m cs;have au:=r.some ai (by simp);rw[au];simp only;by_cases h1:m=sz/\vs.length=n/\off+n<=m
   ·rw[if_pos h1] at aj ⊢; cases aj; exact⟨_,rfl,r.set au _⟩
   ·rw[if_neg h1] at aj; cases aj
 case sK=>cases aj; exact⟨l,rfl,r⟩
 case pM=>cases aj; exact⟨l,rfl,r⟩
 case lB z by_ zero a c=>
  unfold Ye at aj;unfold pO;cases aG:aD a<;>rw[aG] at aj<;>(try simp only at aj)<;>try (cases aj; done)
  cases al:aD c<;>rw[al] at aj<;>(try simp only at aj)<;>try (cases aj; done)
  simp only;split at aj
  ·rename_i h1; rw[if_pos h1]; cases aj; exact⟨_,by rw[r.n],r.push _⟩
  ·cases aj
 case rR x=>
  refine wh r ?_ aj;unfold SR tm;cases aD x<;>simp only[r.contents]<;>rfl
 case app z by_ s x=>
  unfold PC at aj;unfold iL;rw[r.contents] at aj;split at aj
  ·cases aj
  ·rename_i xs n al; rw[al]; exact PH r aj
 case qg z by_ zero s x=>
  unfold PG at aj;unfold pe;cases al:aD x<;>rw[al] at aj<;>(try simp only at aj)<;>try (cases aj; done)
  simp only;split at aj
  ·rename_i h1; rw[if_pos h1]; exact PH r aj
  ·cases aj
 case tw z d x=>
  unfold Tg at aj;unfold wX;rw[r.contents] at aj;split at aj
  ·cases aj
  ·rename_i xs n al;rw[al];simp only;cases bN:aD d<;>rw[bN] at aj<;>(try simp only at aj)<;>try (cases aj; done)
   ·cases aj; exact⟨l,rfl,r⟩
   ·rename_i di b off len cap sz;cases ai:h.f b<;>rw[ai] at aj<;>(try simp only at aj)<;>try (cases aj; done)
    rename_i m cs;have au:=r.some ai (by simp);simp only[au];split at aj
    ·rename_i h1; rw[if_pos h1]; cases aj; exact⟨_,rfl,r.set au _⟩
    ·cases aj
 case qn zero x=>
  unfold S1 at aj;unfold qm;cases bN:aD x<;>rw[bN] at aj<;>(try simp only at aj)<;>try (cases aj; done)
  ·cases aj; exact⟨l,rfl,r⟩
  ·rename_i z b off len cap sz;simp only;by_cases aT:len=0
   ·rw[if_pos aT] at aj ⊢; cases aj; exact⟨l,rfl,r⟩
   ·rw[if_neg aT] at aj ⊢;cases ai:h.f b<;>rw[ai] at aj<;>(try simp only at aj)<;>try (cases aj; done)
    rename_i m cs;have au:=r.some ai (by simp);rw[au];simp only;by_cases h1:m=sz/\zero.length=z
    ·rw[if_pos h1] at aj ⊢; cases aj; exact⟨_,rfl,r.set au _⟩
    ·rw[if_neg h1] at aj; cases aj
  ·rename_i z es;cases es<;>simp only at aj
   ·cases aj; exact⟨l,rfl,r⟩
   ·cases aj
 case pN x=>
  cases x with
  | none=>cases aj; exact⟨_,by rw[r.n],r.push _⟩
  | some o=>
   simp only at aj ⊢;split at aj
   ·rename_i n aH; rw[aH]; cases aj; exact⟨_,by simp only[r.n],r.push _⟩
   ·cases aj
 case sH cP zero ok m k=>
  refine wh r ?_ aj;unfold X3 um;rw[r.mapOf];split
  ·rename_i es iS; rw[iS]; rfl
  ·rename_i iS; rw[iS]
 case q4 cP m k x=>
  unfold X6 at aj;unfold q3;cases hm:aD m<;>rw[hm] at aj<;>(try simp only at aj)<;>try (cases aj; done)
  rename_i b;simp only;cases ai:h.f b<;>rw[ai] at aj<;>(try simp only at aj)<;>try (cases aj; done)
  rename_i es ei;have au:=r.some ai (by simp);rw[au];simp only;cases hk:j5 P cP (aD k)<;>rw[hk] at aj<;>simp only at aj
  ·cases aj
  ·simp only;cases aI:iQ P cP (aD k) es 0 with
   | none=>rw[aI] at aj; cases aj
   | some q=>
    rw[aI] at aj;cases q with
    | none=>cases aj; exact⟨_,rfl,r.set au _⟩
    | some ui=>cases aj; exact⟨_,rfl,r.set au _⟩
 case ul x=>
  refine wh r ?_ aj;unfold XX AV;cases aD x<;>try rfl
  rename_i b;simp only[r.f,n1];cases l[b]? with
  | none=>rfl
  | some c=>cases c<;>rfl
 case sW x=>
  unfold abT at aj;unfold yv;cases bN:aD x<;>rw[bN] at aj<;>(try simp only at aj)<;>try (cases aj; done)
  cases aj; exact⟨_,by simp only[r.n],r.push _⟩
 case sN x=>
  unfold yd at aj;unfold sM;cases bN:aD x<;>rw[bN] at aj<;>(try simp only at aj)<;>try (cases aj; done)
  rename_i b;simp only;cases ai:h.f b<;>rw[ai] at aj<;>(try simp only at aj)<;>try (cases aj; done)
  have au:=r.some ai (by simp);rw[au];simp only;split at aj
  ·rename_i h1; rw[h1]; cases aj; exact⟨_,rfl,r.set au _⟩
  ·rename_i h1; rw[h1]; cases aj; exact⟨_,rfl,r⟩
 case stop=>cases aj
 case cN f qt x y=>
  split at aj
  ·rename_i h1;rw[h1];refine wh r ?_ aj;unfold S7 cmpL;rw[r.bytes,r.bytes];cases m7 l (aD x)<;>cases m7 l (aD y)<;>rfl
  ·cases aj
 all_goals exact wh r rfl aj
theorem rk {f:ae->Option ae}:∀ {cs cs' : List ae},nQ f cs=some cs'->cs'.length=cs.length
 | [],cs',h=>by cases h; rfl
 | c::cs,cs',h=>by
  unfold nQ at h;split at h
  ·split at h
   ·rename_i h1; cases h; simp[rk h1]
   ·cases h
  ·cases h
theorem rj {f:ae->Option ae}:∀ {cs cs' : List ae},nQ f cs=some cs'->∀ (j:Nat) (c c' : ae),cs[j]? = some c->cs'[j]? = some c'->f c=some c'
 | [],cs',h,j,c,c',al,_=>by simp at al
 | c::cs,cs',h,j,d,pg,bN,ow=>by
  unfold nQ at h;split at h
  ·rename_i x aj;split at h
   ·rename_i h1;cases h;cases j with
    | zero=>simp at bN ow; subst bN ow; exact aj
    | succ j=>exact rj h1 j d pg (by simpa using bN) (by simpa using ow)
   ·cases h
  ·cases h
theorem yw:∀ (d:Nat) (c c' : ae),sU h d c=some c'->fy h c c'
 | 0,c,c',aj=>by cases aj
 | d+1,c,c',aj=>by
  unfold sU at aj;split at aj
  ·split at aj
   ·rename_i h1; cases aj;exact .aV _ _ (rk h1) (fun j c c' al fi=>yw d c c' (rj h1 j c c' al fi))
   ·cases aj
  ·split at aj
   ·rename_i h1; cases aj;exact .bU _ _ (rk h1) (fun j c c' al fi=>yw d c c' (rj h1 j c c' al fi))
   ·cases aj
  ·rename_i z b off len cap sz;split at aj
   ·rename_i aT;cases aj;rw[Nat.eq_of_beq_eq_true aT];exact .p0 z b off cap sz
   ·split at aj
    ·rename_i n cs ai;split at aj
     ·rename_i eb;simp only[Bool.and_eq_true] at eb;have aH:=Nat.eq_of_beq_eq_true eb.1;have du:=Nat.le_of_ble_eq_true eb.2;subst aH;split at aj
      ·rename_i xs h1;cases aj;have bF:=rk h1;simp only[List.length_take,List.length_drop] at bF;have sw:xs.length=len*z:=by omega
       have dW:∀ (i:Nat),i<len->(kJ z len xs)[i]? = some ((xs.drop (i*z)).take z) :=fun i aA=>Ca len xs i aA
       have dP:∀ i,i<len->i*z+z<=len*z:=fun i aA=>by rw[<-Nat.succ_mul]; exact Nat.mul_le_mul_right _ aA
       refine .ao z b off len cap n cs _ ai (tn _ _) (fun e aw=>?_) du (fun i j e c c' aw am al=>?_)
       ·obtain⟨i,aA⟩:=List.mem_iff_getElem?.1 aw;have dI:i<len:=by
         have:=(List.getElem?_eq_some_iff.1 aA).1;rw[tn] at this; exact this
        rw[dW i dI] at aA;cases aA;have:=dP i dI;simp; omega
       ·have dI:i<len:=by
         have:=(List.getElem?_eq_some_iff.1 aw).1;rw[tn] at this; exact this
        rw[dW i dI] at aw;cases aw;have xx:=dP i dI;have ls:j<z:=by have:=(List.getElem?_eq_some_iff.1 am).1; simp at this; omega
        rw[List.getElem?_take_of_lt ls,List.getElem?_drop] at am;refine yw d c c' (rj h1 (i*z+j) c c' ?_ am);rw[List.getElem?_take_of_lt (by omega),List.getElem?_drop];exact al
      ·cases aj
     ·cases aj
    ·cases aj
  ·rename_i b off sz;split at aj
   ·rename_i n cs ai;split at aj
    ·rename_i aH;split at aj
     ·rename_i h1;cases aj;rw[<-Nat.eq_of_beq_eq_true aH];exact .ptr b off n cs _ ai (rk h1) (fun j c c' al fi=>yw d c c' (rj h1 j c c' al fi))
     ·cases aj
    ·cases aj
   ·cases aj
  ·split at aj
   ·rename_i al; cases aj; exact .same _ al
   ·cases aj
theorem fy.rep (r:eu h l) {c c' : ae} (aC:fy h c c') :fy (b3 l) c c':=by
 induction aC with
 | same c al=>exact .same c al
 | aV cs cs' au ax aL=>exact .aV cs cs' au aL
 | bU cs cs' au ax aL=>exact .bU cs cs' au aL
 | ao z b off len cap sz cs es ai au aB eA ax aL=>exact .ao z b off len cap sz cs es (by rw[<-r.f]; exact ai) au aB eA aL
 | p0 z b off cap sz=>exact .p0 z b off cap sz
 | ptr b off sz cs cs' ai au ax aL=>exact .ptr b off sz cs cs' (by rw[<-r.f]; exact ai) au aL
def yT (P:Program) (G:Nat->ae) (call:mX) :Prop:=
 ∀ (f:FuncId) (args:List ae) (h:aQ) (v:ae) (h' : aQ) (l:av),eu h l->call f args h=some (v,h')->∃ l',eu h' l'/\∀ K:ae->av->Prop,K v l'->dh P G f args l (c:=⟨K⟩)
theorem ak9 {m:a6} {v:ae} {l:av} {K:ae->av->Prop} (hk:K v l) :ec m v l K:=by
 cases m<;>first | exact hk | exact .inl hk
theorem PT {call:mX} (al:yT P G call) (r:eu h l) {b:o6} {s:gw} {v:ae} (aj:za P G call b s h=some (v,h')) :
  ∃ l',eu h' l'/\(∀ K:ae->av->Prop,K v l'->hj P G b (look s) l K)/\(∀ m,b=.cG m->bW P (cY G (look s)) l m=some (v,l')) :=by
 cases b with
 | cG m=>
  obtain⟨l',h1,ag⟩:=K9 r aj;refine⟨l',ag,fun K a8=>?_,fun cu hm=>by cases hm; exact h1⟩;show W (bW P (cY G (look s)) l m) (c:=⟨fun x=>ec m x.1 x.2 K⟩);rw[wK];exact⟨_,h1,ak9 a8⟩
 | cR f args=>
  obtain⟨l',h1,ag⟩:=al f _ h v h' l r aj;exact⟨l',h1,ag,fun m hm=>by cases hm⟩
 | gW x args=>
  simp only[za] at aj;cases aI:cY G (look s) x<;>rw[aI] at aj<;>(try simp only at aj)<;>try (cases aj; done)
  rename_i g first ft
  split at aj
  ·rename_i jo;obtain⟨l',h1,ag⟩:=al g _ h v h' l r aj;refine⟨l',h1,fun K a8=>?_,fun m hm=>by cases hm⟩;show tk P G (cY G (look s) x) _ l (c:=⟨K⟩);unfold tk;rw[aI];exact⟨jo,ag K a8⟩
  ·cases aj
 | m8 x name args=>
  simp only[za] at aj;cases aI:cY G (look s) x<;>rw[aI] at aj<;>(try simp only at aj)<;>try (cases aj; done)
  rename_i t v0;split at aj
  ·rename_i g hm;split at aj
   ·rename_i jo;obtain⟨l',h1,ag⟩:=al g _ h v h' l r aj;refine⟨l',h1,fun K a8=>?_,fun m hm=>by cases hm⟩;show tj P G name (cY G (look s) x) _ l (c:=⟨K⟩);unfold tj;rw[aI];simp only[hm];exact⟨jo,ag K a8⟩
   ·cases aj
  ·cases aj
theorem CG {s:gw} {g:Option (Option Tmp × Bool)} {b:Bool} (az:CF s g=some b) {p q:Prop} (hk:if b then p else q) :oN (look s) g p q:=by
 unfold CF at az;unfold oN;split at az
 ·cases az; exact hk
 ·rename_i d w;simp only[pF];split at az
  ·rename_i x aj;simp only[aj];cases az;unfold pG;cases akk:(x == w)<;>rw[akk] at hk<;>simpa using hk
  ·cases az
  ·rename_i h1 ag;cases az;cases aj:look s d<;>first | exact (by simpa using hk) | (exact absurd aj (h1 _)) | (exact absurd aj ag)
 ·cases az; simpa using hk
theorem Oh {call:mX} (al:yT P G call) :∀ (x:List dT) (s:gw) (h:aQ) (l:av) (eY:gw) (h' : aQ),eu h l->Br P G call x s h=some (eY,h')->
  ∃ l',eu h' l'/\∀ K:bi->av->Prop,K (look eY) l'->iG P G x (look s) l K
 | [],s,h,l,eY,h',r,aj=>by cases aj; exact⟨l,r,fun K a8=>a8⟩
 | x::xs,s,h,l,eY,h',r,aj=>by
  unfold Br at aj;split at aj
  ·rename_i az;split at aj
   ·rename_i v h1 ai;obtain⟨l1,eB,ag,_⟩:=PT al r ai;obtain⟨l',cx,ap⟩:=Oh al xs _ h1 l1 eY h' eB aj;refine⟨l',cx,fun K a8=>?_⟩;unfold iG;refine CG az ?_;simp only[if_true];refine ag _ ?_;rw[<-DQ];exact ap K a8
   ·cases aj
  ·rename_i az;obtain⟨l',cx,ap⟩:=Oh al xs _ h l eY h' r aj;refine⟨l',cx,fun K a8=>?_⟩;unfold iG;refine CG az ?_;simp only[Bool.false_eq_true,if_false];rw[<-DQ];exact ap K a8
  ·cases aj
theorem bt.beq_eq {a b:bt} (h:bt.beq a b=true) :a=b:=by
 cases a<;>cases b<;>simp[bt.beq] at h
 ·rfl
 ·rfl
 ·obtain⟨h1,ag⟩:=h;rw[h1,rM ag]
theorem apq {b:o6} {s:gw} {v:ae} {h1:aQ} {l' l1:av} (r:eu h l) (cx:eu h' l') (eB:eu h1 l1) (aj:ED P G b s v h h' h1=true) (bA:∀ m,b=.cG m->m.ic=true->∃ n cs,l'=l++[.cells n cs]) :kB P G b (look s) v l l' l1:=by
 unfold ED at aj;unfold kB;split at aj
 ·rename_i m;simp only;cases aH:m.ic with
  | true=>
   rw[aH] at aj;simp only at aj ⊢;have aw:=bt.beq_eq aj;obtain⟨n,cs,rfl⟩:=bA m rfl aH;rw[r.n] at aw;have ag:h'.f l.length=(b3 (l++[.cells n cs])).f l.length:=cx.f _;rw[n1] at ag;simp only[List.getElem?_append_right (Nat.le_refl _),Nat.sub_self,List.getElem?_cons_zero] at ag ⊢;exact eB.some (aw.trans ag) (by simp)
  | false=>
   rw[aH] at aj;simp only at aj ⊢;split at aj
   ·rename_i jX;split at aj
    ·rename_i bf ag hm;obtain⟨ce,ap,_⟩:=K9 eB hm;rw[ae.beq_eq aj] at ap;rw[X2 jX ap] at ap;exact ap
    ·cases aj
   ·cases aj
 ·rename_i ai;split
  ·rename_i m; exact absurd rfl (ai m)
  ·trivial
inductive wJ (P:Program) (G:Nat->ae) :List (Nat × (aQ->Bool))->hM->Prop
 | nil:wJ P G [] []
 | cons {i p q r cx}:(∀ h l,eu h l->p h=true->q l)->wJ P G r cx->wJ P G ((i,p) ::r) ((i,q) ::cx)
theorem SZ (r:eu h l) {ids:List Nat}:∀ {a:List (Nat × (aQ->Bool))} {b:hM},wJ P G a b->B9 ids h a=true->og ids b l
 | _,_,.nil,_=>trivial
 | _,_,.cons aE aC,aj=>by
  unfold B9 at aj;simp only[Bool.and_eq_true,Bool.or_eq_true,Bool.not_eq_true'] at aj;unfold og;refine⟨fun aA=>?_,SZ r aC aj.2⟩;rcases aj.1 with h1 | h1
  ·rw[aA] at h1; cases h1
  ·exact aE h l r h1
theorem akU {aD:Operand->ae} {l l' : av} {m:a6} {v:ae} (aH:m.ic=true) (hm:bW P aD l m=some (v,l')) :∃ n cs,l'=l++[.cells n cs] :=by
 cases m<;>simp only[a6.ic,Bool.false_eq_true,reduceCtorEq] at aH<;>simp only[bW,map_some,Option.some.injEq,Prod.mk.injEq] at hm
 case alloc=>obtain⟨_,rfl⟩:=hm; exact⟨_,_,rfl⟩
 case box=>obtain⟨_,_,_,rfl⟩:=hm; exact⟨_,_,rfl⟩
 case cQ=>obtain⟨_,_,_,rfl⟩:=hm; exact⟨_,_,rfl⟩
 case lB=>
  unfold pO at hm
  repeat' split at hm
  all_goals first | (cases hm; done) | (cases hm; exact⟨_,_,rfl⟩)
theorem Oe {call:mX} (al:yT P G call) :∀ (x:List dT) (s:gw) (h:aQ) (l:av) (eY:gw) (h' : aQ) (a:List (Nat × (aQ->Bool))) (b:hM),eu h l->wJ P G a b->Bq P G call x s h a=some (eY,h')->
  ∃ l',eu h' l'/\∀ K:bi->av->Prop,K (look eY) l'->i0 P G x (look s) l b K
 | [],s,h,l,eY,h',a,b,r,ar,aj=>by cases aj; exact⟨l,r,fun K a8=>a8⟩
 | x::xs,s,h,l,eY,h',a,b,r,ar,aj=>by
  unfold Bq at aj;split at aj
  ·rename_i az;split at aj
   ·rename_i v h1 ai;obtain⟨l1,eB,ag,tV⟩:=PT al r ai;split at aj
    ·rename_i dW;have l7:wJ P G (match x.cM with | true=>(x.i,ED P G x.b s v h h1) ::a | false=>a) (pY x.cM x.i (kB P G x.b (look s) v l l1) b) :=by
      cases x.cM with
      | false=>exact ar
      | true=>
       refine .cons (fun ag ce fw aE=>apq r eB fw aE (fun m hm aH=>akU aH (tV m hm))) ar
     obtain⟨l',cx,ap⟩:=Oe al xs _ h1 l1 eY h' _ _ eB l7 aj;refine⟨l',cx,fun K a8=>?_⟩;unfold i0;refine CG az ?_;simp only[if_true];refine ag _ ⟨SZ eB ar dW,?_⟩;rw[<-DQ];exact ap K a8
    ·cases aj
   ·cases aj
  ·rename_i az;obtain⟨l',cx,ap⟩:=Oe al xs _ h l eY h' a b r ar aj;refine⟨l',cx,fun K a8=>?_⟩;unfold i0;refine CG az ?_;simp only[Bool.false_eq_true,if_false];rw[<-DQ];exact ap K a8
  ·cases aj
theorem H7 {call:mX} (al:yT P G call) :∀ (fuel:Nat) (c:aS) (s:gw) (h:aQ) (l:av) (e:qa) (eY:gw) (h' : aQ),eu h l->B7 P G call fuel c s h=some (e,eY,h')->
  ∃ l',eu h' l'/\∀ K:gF,K e (look eY) l'->run P G c (look s) l K
 | 0,c,s,h,l,e,eY,h',r,aj=>by cases aj
 | k+1,c,s,h,l,e,eY,h',r,aj=>by
  have aL:=H7 al k;unfold B7 SS at aj;cases c with
  | skip=>cases aj; exact⟨l,r,fun K a8=>a8⟩
  | ret=>cases aj; exact⟨l,r,fun K a8=>a8⟩
  | exit id=>cases aj; exact⟨l,r,fun K a8=>a8⟩
  | ak x=>
   simp only at aj;split at aj
   ·rename_i dZ h1 aC;cases aj;obtain⟨l',cx,ag⟩:=Oh al x s h l eY h' r aC;exact⟨l',cx,fun K a8=>ag _ a8⟩
   ·cases aj
  | gJ x=>
   simp only at aj;split at aj
   ·rename_i dZ h1 aC;cases aj;obtain⟨l',cx,ag⟩:=Oe al x s h l eY h' [] [] r .nil aC;exact⟨l',cx,fun K a8=>ag _ a8⟩
   ·cases aj
  | seq a b=>
   simp only at aj;split at aj
   ·rename_i dZ h1 aG;obtain⟨l1,eB,ag⟩:=aL a s h l _ dZ h1 r aG;obtain⟨l',cx,ap⟩:=aL b dZ h1 l1 e eY h' eB aj;refine⟨l',cx,fun K a8=>?_⟩;unfold run;exact ag _ (ap K a8)
   ·rename_i bY;obtain⟨l',cx,ag⟩:=aL a s h l e eY h' r aj;refine⟨l',cx,fun K a8=>?_⟩;unfold run;refine ag _ ?_;unfold mN;cases e with
    | normal=>exact absurd aj (bY _ _)
    | exit id=>exact a8
    | ret=>exact a8
  | cond c x y=>
   simp only at aj;split at aj
   ·rename_i kj;obtain⟨l',cx,ag⟩:=aL x s h l e eY h' r aj;refine⟨l',cx,fun K a8=>?_⟩;unfold run v7;rw[kj];exact ag K a8
   ·rename_i kj;obtain⟨l',cx,ag⟩:=aL y s h l e eY h' r aj;refine⟨l',cx,fun K a8=>?_⟩;unfold run v7;rw[kj];exact ag K a8
   ·cases aj
  | block id c=>
   simp only at aj;split at aj
   ·rename_i qV dZ h1 aG;obtain⟨l',cx,ag⟩:=aL c s h l _ dZ h1 r aG;split at aj
    ·rename_i hr;cases aj;refine⟨l',cx,fun K a8=>?_⟩;unfold run;refine ag _ ?_;unfold pE;simp only;rw[hr];exact a8
    ·rename_i hr;cases aj;refine⟨l',cx,fun K a8=>?_⟩;unfold run;refine ag _ ?_;unfold pE;simp only;rw[hr];exact a8
   ·rename_i bY;obtain⟨l',cx,ag⟩:=aL c s h l e eY h' r aj;refine⟨l',cx,fun K a8=>?_⟩;unfold run;refine ag _ ?_;unfold pE;cases e with
    | normal=>exact a8
    | exit id=>exact absurd aj (bY _ _ _)
    | ret=>exact a8
  | loop c=>
   simp only at aj;split at aj
   ·rename_i dZ h1 aG;obtain⟨l1,eB,ag⟩:=aL c s h l _ dZ h1 r aG;obtain⟨l',cx,ap⟩:=aL (.loop c) dZ h1 l1 e eY h' eB aj;refine⟨l',cx,fun K a8=>?_⟩;have aJ:=ap K a8;unfold run at aJ ⊢;obtain⟨n,aH⟩:=aJ;exact⟨n+1,ag _ aH⟩
   ·rename_i bY;obtain⟨l',cx,ag⟩:=aL c s h l e eY h' r aj;refine⟨l',cx,fun K a8=>?_⟩;unfold run;refine⟨1,ag _ ?_⟩;unfold mN;cases e with
    | normal=>exact absurd aj (bY _ _)
    | exit id=>exact a8
    | ret=>exact a8
def wH (P:Program) (G:Nat->ae) (orc:n2) :Prop:=∀ f n g args r,orc f=some (n,g)->g args=some r->bR P G f args r/\(n=true->iI P G f args r)
def y0 (P:Program) (ka:s9) :Prop:=∀ f c mj,ka f=some (c,mj)->bq P f=some c/\br P f=some mj
theorem Oc (r:eu h l) {s:gw}:∀ {ms:List a6} {acc:List ae} {v:ae},Bn P G s h ms acc=some v->∀ K:ae->av->Prop,K v l->mM P G K (look s) l ms acc
 | [],acc,v,aj,K,a8=>by cases aj; exact a8
 | m::ms,acc,v,aj,K,a8=>by
  unfold Bn at aj;split at aj
  ·rename_i x h1 hm;obtain⟨l1,ag,_⟩:=K9 r hm;unfold mM;rw[wK];exact⟨_,ag,Oc r aj K a8⟩
  ·cases aj
theorem XZ (args:List ae) :look (yi 0 .nil args)=BS args:=by
 rw[X0];funext t;unfold BS;by_cases aU:t<args.length
 ·rw[if_pos ⟨Nat.zero_le _,by omega⟩]; rfl
 ·rw[if_neg (by omega)];rw[List.getD_eq_getElem?_getD,List.getElem?_eq_none (by omega)]; rfl
theorem aeu {orc:n2} (ay:wH P G orc) {f:FuncId} {args:List ae} {h:aQ} {l:av} {v:ae} (r:eu h l) (aj:Fo orc f args h=some v) (K:ae->av->Prop) (a8:K v l) :dh P G f args l (c:=⟨K⟩) :=by
 unfold Fo at aj;split at aj
 ·rename_i n g az;split at aj
  ·rename_i hP aG;split at aj
   ·rename_i bf ax;split at aj
    ·rename_i aI;cases aj;obtain⟨yg,nG⟩:=ay f n g hP v az ax;cases n with
     | true=>exact⟨v,l,.LI (nG rfl) (rk aG) (fun j c c' al fi=>(yw 20 c c' (rj aG j c c' al fi)).rep r),Nat.le_refl _,a8⟩
     | false=>exact⟨v,l,.LH yg (rk aG) (fun j c c' al fi=>(yw 20 c c' (rj aG j c c' al fi)).rep r) aI,Nat.le_refl _,a8⟩
    ·cases aj
   ·cases aj
  ·cases aj
 ·cases aj
theorem akH (r:eu h l) {z by_ i bv:Nat} {s v:ae} {vs:List ae} (aj:AH z by_ h s i bv vs=some (v,h')) :∃ l',eu h' l'/\AH z by_ (b3 l) s i bv vs=some (v,b3 l')/\l.length<=l'.length:=by
 unfold AH at aj ⊢;cases s<;>simp only at aj<;>try (cases aj; done)
 case aX=>
  split at aj
  ·rename_i al;cases aj;refine⟨_,r.push _,?_,by simp⟩;simp only;rw[if_pos al,lb,wF,r.n]
  ·cases aj
 case ao lH b off len cap sz=>
  simp only;rw[<-r.f b];cases ai:h.f b<;>rw[ai] at aj<;>(try simp only at aj)<;>try (cases aj; done)
  simp only;split at aj
  ·rename_i al;rw[if_pos al];cases aj;have au:=r.some ai (by simp);refine⟨_,(r.set au _).push _,?_,by simp⟩;rw[m0 _ (e9 au),lb,wF,r.n]
  ·cases aj
theorem akF (r:eu h l) {z by_:Nat} {args:List ae} {v:ae} (aj:sB z by_ args h=some (v,h')) :∃ l',eu h' l'/\sB z by_ args (b3 l)=some (v,b3 l')/\l.length<=l'.length:=by
 unfold sB at aj ⊢;split at aj
 ·rename_i s x y;split at aj
  ·rename_i i iH bv nG ce dB mQ j3;rw[<-r.f bv];split at aj
   ·rename_i jc vs iw
    try rw[iw]
    try simp only
    split at aj
    ·rename_i al
     try rw[if_pos al]
     exact akH r aj
    ·cases aj
   ·cases aj
  ·cases aj
 ·cases aj
theorem H3 [o9 P G] {orc:n2} {ka:s9} (ay:wH P G orc) (aU:y0 P ka) (fuel:Nat) :∀ k,yT P G (zj P G orc ka fuel k)
 | 0=>fun f args h v h' l r aj=>by cases aj
 | k+1=>fun f args h v h' l r aj=>by
  have aL:=H3 ay aU fuel k;unfold zj SP at aj;split at aj
  ·rename_i z by_ az;obtain⟨l',cx,h1,ag⟩:=akF r aj;exact⟨l',cx,fun K a8=>⟨v,l',.ext (o9.ok f z by_ az args (b3 l) v (b3 l') h1),ag,a8⟩⟩
  split at aj
  ·rename_i bf ax;cases aj;exact⟨l,r,fun K a8=>aeu ay r ax K a8⟩
  ·split at aj
   ·cases aj
   ·rename_i c mj akc;obtain⟨qF,jV⟩:=aU f c mj akc;split at aj
    ·rename_i dZ h1 hv;obtain⟨l1,eB,ag⟩:=H7 aL fuel c _ h l _ dZ h1 r hv;split at aj
     ·rename_i bf Ds;cases aj;refine⟨l1,eB,fun K a8=>bH qF jV ?_⟩;rw[<-XZ];exact ag _ (Oc eB Ds K a8)
     ·cases aj
    ·rename_i dZ h1 hv;obtain⟨l1,eB,ag⟩:=H7 aL fuel c _ h l _ dZ h1 r hv;split at aj
     ·rename_i bf Ds;cases aj;refine⟨l1,eB,fun K a8=>bH qF jV ?_⟩;rw[<-XZ];exact ag _ (Oc eB Ds K a8)
     ·cases aj
    ·cases aj
end
def acl (P:Program) (G:Nat->ae) [o9 P G] (orc:n2) (ka:s9) (fuel k:Nat) (f:FuncId) (args:List ae) (r:ae) :Bool:=
 match zj P G orc ka fuel k f args aQ.empty with
 | some (v,h)=>match sU h 20 v with
  | some bf=>ae.beq bf r
  | none=>false
 | none=>false
theorem afw {P:Program} {G:Nat->ae} [o9 P G] {orc:n2} {ka:s9} (ay:wH P G orc) (aU:y0 P ka) {fuel k:Nat} {f:FuncId} {args:List ae} {b:Bool} (aj:acl P G orc ka fuel k f args (.bool b)=true) :
  dh P G f args [] (c:=⟨fun r _=>r=.bool b⟩) :=by
 unfold acl at aj;split at aj
 ·rename_i v h al;split at aj
  ·rename_i bf ax;obtain⟨l',_,ag⟩:=H3 ay aU fuel k f args aQ.empty v h [] eu.nil al;refine ag _ ?_;have:=ae.beq_eq aj;subst this;unfold sU at ax
   repeat' split at ax
   all_goals first | (cases ax; done) | (cases ax; rfl)
  ·cases aj
 ·cases aj
abbrev U (t:Nat) :Operand:=.tmp t
def rep (n:Nat) (c:ae) :List ae:=List.replicate n c
abbrev af (i d x:Nat) :dT:=⟨i,some d,none,.cG (.aq (.tmp x)),[],false⟩
abbrev ad (i d:Nat) (m:a6) :dT:=⟨i,some d,none,.cG m,[],false⟩
abbrev bG (i:Nat) (m:a6) :dT:=⟨i,none,none,.cG m,[],false⟩
abbrev sc (i d:Nat) (f:FuncId) (args:List Operand) :dT:=⟨i,some d,none,.cR f args,[],false⟩
abbrev aF (i d j:Nat) (w:Bool) (m:a6) :dT:=⟨i,some d,some (some j,w),.cG m,[],false⟩
@[simp] theorem awF (n:Nat) (c:ae) :(rep n c).length=n:=by simp[rep]
def nZ {α:Type} (p:Nat->α->Prop) :cD α->Prop
 | .nil=>True
 | .node l v r=>(∀ x,v=some x->p 0 x)/\nZ (fun m=>p (2*m+1)) l/\nZ (fun m=>p (2*m+2)) r
theorem Fk {α:Type}:∀ (t:cD α) (p:Nat->α->Prop),nZ p t->∀ n x,t.get n=some x->p n x
 | .nil,p,h,n,x,aj=>by cases aj
 | .node l v r,p,h,n,x,aj=>by
  obtain⟨h1,ag,ap⟩:=h;unfold cD.get at aj;by_cases aT:n=0
  ·subst aT; exact h1 x aj
  ·rw[iY aT] at aj;simp only at aj;by_cases ay:n % 2=1
   ·rw[q7 ay] at aj;have:=Fk l _ ag _ x aj;rw[show 2*(n / 2)+1=n by omega] at this; exact this
   ·rw[iY ay] at aj;have:=Fk r _ ap _ x aj;rw[show 2*(n / 2 - 1)+2=n by omega] at this; exact this
theorem bg {α:Type} {p:Nat->α->Prop}:nZ p .nil:=trivial
theorem iK {α:Type} {p:Nat->α->Prop} {l r:cD α} (h1:nZ (fun m=>p (2*m+1)) l) (ag:nZ (fun m=>p (2*m+2)) r) :nZ p (.node l none r) :=⟨fun x h=>(by cases h),h1,ag⟩
theorem bu {α:Type} {p:Nat->α->Prop} {l r:cD α} {x:α} (aj:p 0 x) (h1:nZ (fun m=>p (2*m+1)) l) (ag:nZ (fun m=>p (2*m+2)) r) :nZ p (.node l (some x) r) :=⟨fun y h=>(by cases h; exact aj),h1,ag⟩
abbrev Pn (P:Program) (f:Nat) (x:aS × List a6) :Prop:=bq P f=some x.1/\br P f=some x.2
theorem apF {P:Program} {t:cD (aS × List a6)} (h:nZ (Pn P) t) :y0 P (fun f=>t.get f) :=fun f c mj aj=>Fk t _ h f (c,mj) aj
def amh:n2:=fun _=>none
theorem Yj (P:Program) (G:Nat->ae) :wH P G amh:=fun f n g args r h=>by cases h
def u {w:Nat} (a:BitVec w) :Int:=(a.toNat:Int)
@[simp] theorem k3 {w:Nat} (a:BitVec w) :BitVec.ofInt w (u a)=a:=by
 unfold u;rw[BitVec.ofInt_natCast,BitVec.ofNat_toNat,BitVec.setWidth_eq]
@[simp] theorem ru {w:Nat} (a b:BitVec w) :(u a=u b)<->a=b:=⟨fun h=>BitVec.eq_of_toNat_eq (by unfold u at h; exact Int.ofNat_inj.1 h),fun h=>by rw[h]⟩
@[simp] theorem axi {w:Nat} (a b:BitVec w) :(u a<u b)<->a<b:=by unfold u; rw[Int.ofNat_lt]; rfl
@[simp] theorem axh {w:Nat} (a b:BitVec w) :(u a<=u b)<->a<=b:=by unfold u; rw[Int.ofNat_le]; rfl
@[simp] theorem axj {w:Nat} (a:BitVec w) :0<=u a:=Int.natCast_nonneg _
@[simp] theorem axk {w:Nat} (a:BitVec w) :(u a).toNat=a.toNat:=Int.toNat_natCast _
theorem axg {w:Nat} (a:BitVec w) :u a<2 ^ w:=by
 have:=a.isLt;unfold u
 exact_mod_cast this
@[simp] theorem awr {w:Nat} (a b:Int) :BitVec.ofInt w (a - b)=BitVec.ofInt w a - BitVec.ofInt w b:=by
 rw[Int.sub_eq_add_neg,BitVec.ofInt_add,BitVec.ofInt_neg,BitVec.sub_eq_add_neg]
attribute [simp] BitVec.ofInt_add BitVec.ofInt_mul
theorem oR {w:Nat} (v:Nat) (a:BitVec w) :BitVec.ofInt v (u a)=a.setWidth v:=by
 unfold u;rw[BitVec.ofInt_natCast,BitVec.ofNat_toNat]
section
abbrev bI (a:BitVec 8) :ae:=.int .u8 (u a)
@[simp] theorem BF (n:Int) :IntKind.u8.wrap n=u (BitVec.ofInt 8 n) :=by
 have aZ:(2 ^ IntKind.u8.bits:Int)=256:=by decide
 have dC:IntKind.u8.signed=false:=rfl;simp only[IntKind.wrap,aZ,dC,Bool.false_and,Bool.false_eq_true,if_false,u,BitVec.toNat_ofInt];have:(2 ^ 8:Nat)=256:=by decide
 rw[this];omega
@[simp] theorem axr (a:Int) :o1 .xor (.int .u8 a)=some (.int .u8 (u (~~~(BitVec.ofInt 8 a)))) :=by
 show some (ae.int .u8 (IntKind.u8.wrap (u (BitVec.ofInt 8 (255:Int) ^^^ BitVec.ofInt 8 a))))=_;rw[BF,k3];have:BitVec.ofInt 8 (255:Int)=BitVec.allOnes 8:=by decide
 rw[this,BitVec.allOnes_xor]
theorem aeS (a:BitVec 8) (k' : IntKind) (n:Nat) :cr .shl .u8 (u a) k' (n:Int)=some (.int .u8 (u (a <<< n))) :=by
 have aT:¬((n:Int)<0) :=by omega
 show (if (n:Int)<0 then none else some (ae.int .u8 (IntKind.u8.wrap ((a.toNat:Int)*2 ^ min (n:Int).toNat 8))))=_;rw[if_neg aT];congr 2;rw[BF,Int.toNat_natCast];unfold u;congr 1;have:((a.toNat:Int)*2 ^ min n 8)=((a.toNat*2 ^ min n 8:Nat) :Int) :=by rw[Int.natCast_mul,Int.natCast_pow]; rfl
 rw[this,BitVec.ofInt_natCast,BitVec.toNat_ofNat,BitVec.toNat_shiftLeft,Nat.shiftLeft_eq];rcases Nat.lt_or_ge n 8 with h | h
 ·rw[Nat.min_eq_left (Nat.le_of_lt h)]
 ·rw[Nat.min_eq_right h];have h1:a.toNat*2 ^ 8 % 2 ^ 8=0:=Nat.mul_mod_left _ _;obtain⟨m,rfl⟩:=Nat.exists_eq_add_of_le h;rw[h1,Nat.pow_add,Nat.mul_left_comm,Nat.mul_mod_right]
theorem aeV (a:BitVec 8) (k' : IntKind) (n:Nat) :cr .shr .u8 (u a) k' (n:Int)=some (.int .u8 (u (a >>> n))) :=by
 have aT:¬((n:Int)<0) :=by omega
 show (if (n:Int)<0 then none else some (ae.int .u8 ((a.toNat:Int).fdiv (2 ^ min (n:Int).toNat 8))))=_;rw[if_neg aT];congr 2;rw[Int.toNat_natCast];unfold u;have:((2:Int) ^ min n 8)=((2 ^ min n 8:Nat) :Int) :=by rw[Int.natCast_pow]; rfl
 rw[this,Int.fdiv_eq_ediv_of_nonneg _ (Int.natCast_nonneg _),<-Int.natCast_ediv,BitVec.toNat_ushiftRight,Nat.shiftRight_eq_div_pow];congr 1;rcases Nat.lt_or_ge n 8 with h | h
 ·rw[Nat.min_eq_left (Nat.le_of_lt h)]
 ·rw[Nat.min_eq_right h,Nat.div_eq_of_lt a.isLt,Nat.div_eq_of_lt (Nat.lt_of_lt_of_le a.isLt (Nat.pow_le_pow_right (by omega) h))]
@[simp] theorem arQ (a:BitVec 8) (k' : IntKind) (n:Int) (h:0<=n) :cr .shl .u8 (u a) k' n=some (.int .u8 (u (a <<< n.toNat))) :=by
 obtain⟨m,rfl⟩:=Int.eq_ofNat_of_zero_le h;exact aeS a k' m
@[simp] theorem arU (a:BitVec 8) (k' : IntKind) (n:Int) (h:0<=n) :cr .shr .u8 (u a) k' n=some (.int .u8 (u (a >>> n.toNat))) :=by
 obtain⟨m,rfl⟩:=Int.eq_ofNat_of_zero_le h;exact aeV a k' m
@[simp] theorem arM (a b:BitVec 8) (h:b≠0#8) :cr .rem .u8 (u a) .u8 (u b)=some (.int .u8 (u (a % b))) :=by
 have ai:(b.toNat:Int)≠0:=fun e=>h (BitVec.eq_of_toNat_eq (by simpa using e))
 show (if IntKind.u8=IntKind.u8/\(b.toNat:Int)≠0 then some (ae.int .u8 ((a.toNat:Int).tmod b.toNat)) else none)=_;rw[if_pos ⟨rfl,ai⟩];unfold u;rw[BitVec.toNat_umod];rfl
@[simp] theorem ar2 (a b:Int) :cr .xor .u8 a .u8 b=some (.int .u8 (u (BitVec.ofInt 8 a ^^^ BitVec.ofInt 8 b))) :=by
 show some (ae.int .u8 (IntKind.u8.wrap (u (BitVec.ofInt 8 a ^^^ BitVec.ofInt 8 b))))=_;rw[BF,k3]
@[simp] theorem arK (a b:Int) :cr .or .u8 a .u8 b=some (.int .u8 (u (BitVec.ofInt 8 a ||| BitVec.ofInt 8 b))) :=by
 show some (ae.int .u8 (IntKind.u8.wrap (u (BitVec.ofInt 8 a ||| BitVec.ofInt 8 b))))=_;rw[BF,k3]
@[simp] theorem art (a b:Int) :cr .and .u8 a .u8 b=some (.int .u8 (u (BitVec.ofInt 8 a &&& BitVec.ofInt 8 b))) :=by
 show some (ae.int .u8 (IntKind.u8.wrap (u (BitVec.ofInt 8 a &&& BitVec.ofInt 8 b))))=_;rw[BF,k3]
end
section
abbrev Ci (a:BitVec 16) :ae:=.int .u16 (u a)
@[simp] theorem BE (n:Int) :IntKind.u16.wrap n=u (BitVec.ofInt 16 n) :=by
 have aZ:(2 ^ IntKind.u16.bits:Int)=65536:=by decide
 have dC:IntKind.u16.signed=false:=rfl;simp only[IntKind.wrap,aZ,dC,Bool.false_and,Bool.false_eq_true,if_false,u,BitVec.toNat_ofInt];have:(2 ^ 16:Nat)=65536:=by decide
 rw[this];omega
@[simp] theorem axo (a:Int) :o1 .xor (.int .u16 a)=some (.int .u16 (u (~~~(BitVec.ofInt 16 a)))) :=by
 show some (ae.int .u16 (IntKind.u16.wrap (u (BitVec.ofInt 16 (65535:Int) ^^^ BitVec.ofInt 16 a))))=_;rw[BE,k3];have:BitVec.ofInt 16 (65535:Int)=BitVec.allOnes 16:=by decide
 rw[this,BitVec.allOnes_xor]
theorem aeQ (a:BitVec 16) (k' : IntKind) (n:Nat) :cr .shl .u16 (u a) k' (n:Int)=some (.int .u16 (u (a <<< n))) :=by
 have aT:¬((n:Int)<0) :=by omega
 show (if (n:Int)<0 then none else some (ae.int .u16 (IntKind.u16.wrap ((a.toNat:Int)*2 ^ min (n:Int).toNat 16))))=_;rw[if_neg aT];congr 2;rw[BE,Int.toNat_natCast];unfold u;congr 1;have:((a.toNat:Int)*2 ^ min n 16)=((a.toNat*2 ^ min n 16:Nat) :Int) :=by rw[Int.natCast_mul,Int.natCast_pow]; rfl
 rw[this,BitVec.ofInt_natCast,BitVec.toNat_ofNat,BitVec.toNat_shiftLeft,Nat.shiftLeft_eq];rcases Nat.lt_or_ge n 16 with h | h
 ·rw[Nat.min_eq_left (Nat.le_of_lt h)]
 ·rw[Nat.min_eq_right h];have h1:a.toNat*2 ^ 16 % 2 ^ 16=0:=Nat.mul_mod_left _ _;obtain⟨m,rfl⟩:=Nat.exists_eq_add_of_le h;rw[h1,Nat.pow_add,Nat.mul_left_comm,Nat.mul_mod_right]
theorem aeT (a:BitVec 16) (k' : IntKind) (n:Nat) :cr .shr .u16 (u a) k' (n:Int)=some (.int .u16 (u (a >>> n))) :=by
 have aT:¬((n:Int)<0) :=by omega
 show (if (n:Int)<0 then none else some (ae.int .u16 ((a.toNat:Int).fdiv (2 ^ min (n:Int).toNat 16))))=_;rw[if_neg aT];congr 2;rw[Int.toNat_natCast];unfold u;have:((2:Int) ^ min n 16)=((2 ^ min n 16:Nat) :Int) :=by rw[Int.natCast_pow]; rfl
 rw[this,Int.fdiv_eq_ediv_of_nonneg _ (Int.natCast_nonneg _),<-Int.natCast_ediv,BitVec.toNat_ushiftRight,Nat.shiftRight_eq_div_pow];congr 1;rcases Nat.lt_or_ge n 16 with h | h
 ·rw[Nat.min_eq_left (Nat.le_of_lt h)]
 ·rw[Nat.min_eq_right h,Nat.div_eq_of_lt a.isLt,Nat.div_eq_of_lt (Nat.lt_of_lt_of_le a.isLt (Nat.pow_le_pow_right (by omega) h))]
@[simp] theorem arN (a:BitVec 16) (k' : IntKind) (n:Int) (h:0<=n) :cr .shl .u16 (u a) k' n=some (.int .u16 (u (a <<< n.toNat))) :=by
 obtain⟨m,rfl⟩:=Int.eq_ofNat_of_zero_le h;exact aeQ a k' m
@[simp] theorem arR (a:BitVec 16) (k' : IntKind) (n:Int) (h:0<=n) :cr .shr .u16 (u a) k' n=some (.int .u16 (u (a >>> n.toNat))) :=by
 obtain⟨m,rfl⟩:=Int.eq_ofNat_of_zero_le h;exact aeT a k' m
@[simp] theorem arL (a b:BitVec 16) (h:b≠0#16) :cr .rem .u16 (u a) .u16 (u b)=some (.int .u16 (u (a % b))) :=by
 have ai:(b.toNat:Int)≠0:=fun e=>h (BitVec.eq_of_toNat_eq (by simpa using e))
 show (if IntKind.u16=IntKind.u16/\(b.toNat:Int)≠0 then some (ae.int .u16 ((a.toNat:Int).tmod b.toNat)) else none)=_;rw[if_pos ⟨rfl,ai⟩];unfold u;rw[BitVec.toNat_umod];rfl
@[simp] theorem arZ (a b:Int) :cr .xor .u16 a .u16 b=some (.int .u16 (u (BitVec.ofInt 16 a ^^^ BitVec.ofInt 16 b))) :=by
 show some (ae.int .u16 (IntKind.u16.wrap (u (BitVec.ofInt 16 a ^^^ BitVec.ofInt 16 b))))=_;rw[BE,k3]
@[simp] theorem arH (a b:Int) :cr .or .u16 a .u16 b=some (.int .u16 (u (BitVec.ofInt 16 a ||| BitVec.ofInt 16 b))) :=by
 show some (ae.int .u16 (IntKind.u16.wrap (u (BitVec.ofInt 16 a ||| BitVec.ofInt 16 b))))=_;rw[BE,k3]
@[simp] theorem arq (a b:Int) :cr .and .u16 a .u16 b=some (.int .u16 (u (BitVec.ofInt 16 a &&& BitVec.ofInt 16 b))) :=by
 show some (ae.int .u16 (IntKind.u16.wrap (u (BitVec.ofInt 16 a &&& BitVec.ofInt 16 b))))=_;rw[BE,k3]
end
section
abbrev bE (a:BitVec 32) :ae:=.int .u32 (u a)
@[simp] theorem yO (n:Int) :IntKind.u32.wrap n=u (BitVec.ofInt 32 n) :=by
 have aZ:(2 ^ IntKind.u32.bits:Int)=4294967296:=by decide
 have dC:IntKind.u32.signed=false:=rfl;simp only[IntKind.wrap,aZ,dC,Bool.false_and,Bool.false_eq_true,if_false,u,BitVec.toNat_ofInt];have:(2 ^ 32:Nat)=4294967296:=by decide
 rw[this];omega
@[simp] theorem axp (a:Int) :o1 .xor (.int .u32 a)=some (.int .u32 (u (~~~(BitVec.ofInt 32 a)))) :=by
 show some (ae.int .u32 (IntKind.u32.wrap (u (BitVec.ofInt 32 (4294967295:Int) ^^^ BitVec.ofInt 32 a))))=_;rw[yO,k3];have:BitVec.ofInt 32 (4294967295:Int)=BitVec.allOnes 32:=by decide
 rw[this,BitVec.allOnes_xor]
theorem aeR (a:BitVec 32) (k' : IntKind) (n:Nat) :cr .shl .u32 (u a) k' (n:Int)=some (.int .u32 (u (a <<< n))) :=by
 have aT:¬((n:Int)<0) :=by omega
 show (if (n:Int)<0 then none else some (ae.int .u32 (IntKind.u32.wrap ((a.toNat:Int)*2 ^ min (n:Int).toNat 32))))=_;rw[if_neg aT];congr 2;rw[yO,Int.toNat_natCast];unfold u;congr 1;have:((a.toNat:Int)*2 ^ min n 32)=((a.toNat*2 ^ min n 32:Nat) :Int) :=by rw[Int.natCast_mul,Int.natCast_pow]; rfl
 rw[this,BitVec.ofInt_natCast,BitVec.toNat_ofNat,BitVec.toNat_shiftLeft,Nat.shiftLeft_eq];rcases Nat.lt_or_ge n 32 with h | h
 ·rw[Nat.min_eq_left (Nat.le_of_lt h)]
 ·rw[Nat.min_eq_right h];have h1:a.toNat*2 ^ 32 % 2 ^ 32=0:=Nat.mul_mod_left _ _;obtain⟨m,rfl⟩:=Nat.exists_eq_add_of_le h;rw[h1,Nat.pow_add,Nat.mul_left_comm,Nat.mul_mod_right]
theorem aeU (a:BitVec 32) (k' : IntKind) (n:Nat) :cr .shr .u32 (u a) k' (n:Int)=some (.int .u32 (u (a >>> n))) :=by
 have aT:¬((n:Int)<0) :=by omega
 show (if (n:Int)<0 then none else some (ae.int .u32 ((a.toNat:Int).fdiv (2 ^ min (n:Int).toNat 32))))=_;rw[if_neg aT];congr 2;rw[Int.toNat_natCast];unfold u;have:((2:Int) ^ min n 32)=((2 ^ min n 32:Nat) :Int) :=by rw[Int.natCast_pow]; rfl
 rw[this,Int.fdiv_eq_ediv_of_nonneg _ (Int.natCast_nonneg _),<-Int.natCast_ediv,BitVec.toNat_ushiftRight,Nat.shiftRight_eq_div_pow];congr 1;rcases Nat.lt_or_ge n 32 with h | h
 ·rw[Nat.min_eq_left (Nat.le_of_lt h)]
 ·rw[Nat.min_eq_right h,Nat.div_eq_of_lt a.isLt,Nat.div_eq_of_lt (Nat.lt_of_lt_of_le a.isLt (Nat.pow_le_pow_right (by omega) h))]
@[simp] theorem arO (a:BitVec 32) (k' : IntKind) (n:Int) (h:0<=n) :cr .shl .u32 (u a) k' n=some (.int .u32 (u (a <<< n.toNat))) :=by
 obtain⟨m,rfl⟩:=Int.eq_ofNat_of_zero_le h;exact aeR a k' m
@[simp] theorem arS (a:BitVec 32) (k' : IntKind) (n:Int) (h:0<=n) :cr .shr .u32 (u a) k' n=some (.int .u32 (u (a >>> n.toNat))) :=by
 obtain⟨m,rfl⟩:=Int.eq_ofNat_of_zero_le h;exact aeU a k' m
@[simp] theorem aeO (a b:BitVec 32) (h:b≠0#32) :cr .rem .u32 (u a) .u32 (u b)=some (.int .u32 (u (a % b))) :=by
 have ai:(b.toNat:Int)≠0:=fun e=>h (BitVec.eq_of_toNat_eq (by simpa using e))
 show (if IntKind.u32=IntKind.u32/\(b.toNat:Int)≠0 then some (ae.int .u32 ((a.toNat:Int).tmod b.toNat)) else none)=_;rw[if_pos ⟨rfl,ai⟩];unfold u;rw[BitVec.toNat_umod];rfl
@[simp] theorem ar0 (a b:Int) :cr .xor .u32 a .u32 b=some (.int .u32 (u (BitVec.ofInt 32 a ^^^ BitVec.ofInt 32 b))) :=by
 show some (ae.int .u32 (IntKind.u32.wrap (u (BitVec.ofInt 32 a ^^^ BitVec.ofInt 32 b))))=_;rw[yO,k3]
@[simp] theorem arI (a b:Int) :cr .or .u32 a .u32 b=some (.int .u32 (u (BitVec.ofInt 32 a ||| BitVec.ofInt 32 b))) :=by
 show some (ae.int .u32 (IntKind.u32.wrap (u (BitVec.ofInt 32 a ||| BitVec.ofInt 32 b))))=_;rw[yO,k3]
@[simp] theorem ars (a b:Int) :cr .and .u32 a .u32 b=some (.int .u32 (u (BitVec.ofInt 32 a &&& BitVec.ofInt 32 b))) :=by
 show some (ae.int .u32 (IntKind.u32.wrap (u (BitVec.ofInt 32 a &&& BitVec.ofInt 32 b))))=_;rw[yO,k3]
end
section
abbrev dG (a:BitVec 64) :ae:=.int .u64 (u a)
@[simp] theorem uV (n:Int) :IntKind.u64.wrap n=u (BitVec.ofInt 64 n) :=by
 have aZ:(2 ^ IntKind.u64.bits:Int)=18446744073709551616:=by decide
 have dC:IntKind.u64.signed=false:=rfl;simp only[IntKind.wrap,aZ,dC,Bool.false_and,Bool.false_eq_true,if_false,u,BitVec.toNat_ofInt];have:(2 ^ 64:Nat)=18446744073709551616:=by decide
 rw[this];omega
@[simp] theorem axq (a:Int) :o1 .xor (.int .u64 a)=some (.int .u64 (u (~~~(BitVec.ofInt 64 a)))) :=by
 show some (ae.int .u64 (IntKind.u64.wrap (u (BitVec.ofInt 64 (18446744073709551615:Int) ^^^ BitVec.ofInt 64 a))))=_;rw[uV,k3];have:BitVec.ofInt 64 (18446744073709551615:Int)=BitVec.allOnes 64:=by decide
 rw[this,BitVec.allOnes_xor]
theorem P4 (a:BitVec 64) (k' : IntKind) (n:Nat) :cr .shl .u64 (u a) k' (n:Int)=some (.int .u64 (u (a <<< n))) :=by
 have aT:¬((n:Int)<0) :=by omega
 show (if (n:Int)<0 then none else some (ae.int .u64 (IntKind.u64.wrap ((a.toNat:Int)*2 ^ min (n:Int).toNat 64))))=_;rw[if_neg aT];congr 2;rw[uV,Int.toNat_natCast];unfold u;congr 1;have:((a.toNat:Int)*2 ^ min n 64)=((a.toNat*2 ^ min n 64:Nat) :Int) :=by rw[Int.natCast_mul,Int.natCast_pow]; rfl
 rw[this,BitVec.ofInt_natCast,BitVec.toNat_ofNat,BitVec.toNat_shiftLeft,Nat.shiftLeft_eq];rcases Nat.lt_or_ge n 64 with h | h
 ·rw[Nat.min_eq_left (Nat.le_of_lt h)]
 ·rw[Nat.min_eq_right h];have h1:a.toNat*2 ^ 64 % 2 ^ 64=0:=Nat.mul_mod_left _ _;obtain⟨m,rfl⟩:=Nat.exists_eq_add_of_le h;rw[h1,Nat.pow_add,Nat.mul_left_comm,Nat.mul_mod_right]
theorem rN (a:BitVec 64) (k' : IntKind) (n:Nat) :cr .shr .u64 (u a) k' (n:Int)=some (.int .u64 (u (a >>> n))) :=by
 have aT:¬((n:Int)<0) :=by omega
 show (if (n:Int)<0 then none else some (ae.int .u64 ((a.toNat:Int).fdiv (2 ^ min (n:Int).toNat 64))))=_;rw[if_neg aT];congr 2;rw[Int.toNat_natCast];unfold u;have:((2:Int) ^ min n 64)=((2 ^ min n 64:Nat) :Int) :=by rw[Int.natCast_pow]; rfl
 rw[this,Int.fdiv_eq_ediv_of_nonneg _ (Int.natCast_nonneg _),<-Int.natCast_ediv,BitVec.toNat_ushiftRight,Nat.shiftRight_eq_div_pow];congr 1;rcases Nat.lt_or_ge n 64 with h | h
 ·rw[Nat.min_eq_left (Nat.le_of_lt h)]
 ·rw[Nat.min_eq_right h,Nat.div_eq_of_lt a.isLt,Nat.div_eq_of_lt (Nat.lt_of_lt_of_le a.isLt (Nat.pow_le_pow_right (by omega) h))]
@[simp] theorem arP (a:BitVec 64) (k' : IntKind) (n:Int) (h:0<=n) :cr .shl .u64 (u a) k' n=some (.int .u64 (u (a <<< n.toNat))) :=by
 obtain⟨m,rfl⟩:=Int.eq_ofNat_of_zero_le h;exact P4 a k' m
@[simp] theorem arT (a:BitVec 64) (k' : IntKind) (n:Int) (h:0<=n) :cr .shr .u64 (u a) k' n=some (.int .u64 (u (a >>> n.toNat))) :=by
 obtain⟨m,rfl⟩:=Int.eq_ofNat_of_zero_le h;exact rN a k' m
@[simp] theorem wO (a b:BitVec 64) (h:b≠0#64) :cr .rem .u64 (u a) .u64 (u b)=some (.int .u64 (u (a % b))) :=by
 have ai:(b.toNat:Int)≠0:=fun e=>h (BitVec.eq_of_toNat_eq (by simpa using e))
 show (if IntKind.u64=IntKind.u64/\(b.toNat:Int)≠0 then some (ae.int .u64 ((a.toNat:Int).tmod b.toNat)) else none)=_;rw[if_pos ⟨rfl,ai⟩];unfold u;rw[BitVec.toNat_umod];rfl
@[simp] theorem ar1 (a b:Int) :cr .xor .u64 a .u64 b=some (.int .u64 (u (BitVec.ofInt 64 a ^^^ BitVec.ofInt 64 b))) :=by
 show some (ae.int .u64 (IntKind.u64.wrap (u (BitVec.ofInt 64 a ^^^ BitVec.ofInt 64 b))))=_;rw[uV,k3]
@[simp] theorem arJ (a b:Int) :cr .or .u64 a .u64 b=some (.int .u64 (u (BitVec.ofInt 64 a ||| BitVec.ofInt 64 b))) :=by
 show some (ae.int .u64 (IntKind.u64.wrap (u (BitVec.ofInt 64 a ||| BitVec.ofInt 64 b))))=_;rw[uV,k3]
@[simp] theorem PR (a b:Int) :cr .and .u64 a .u64 b=some (.int .u64 (u (BitVec.ofInt 64 a &&& BitVec.ofInt 64 b))) :=by
 show some (ae.int .u64 (IntKind.u64.wrap (u (BitVec.ofInt 64 a &&& BitVec.ofInt 64 b))))=_;rw[uV,k3]
end
@[simp] theorem asC (a:BitVec 8) :BitVec.ofInt 16 (u a)=a.setWidth 16:=oR 16 a
@[simp] theorem asD (a:BitVec 8) :BitVec.ofInt 32 (u a)=a.setWidth 32:=oR 32 a
@[simp] theorem asE (a:BitVec 8) :BitVec.ofInt 64 (u a)=a.setWidth 64:=oR 64 a
@[simp] theorem asv (a:BitVec 16) :BitVec.ofInt 8 (u a)=a.setWidth 8:=oR 8 a
@[simp] theorem ast (a:BitVec 16) :BitVec.ofInt 32 (u a)=a.setWidth 32:=oR 32 a
@[simp] theorem asu (a:BitVec 16) :BitVec.ofInt 64 (u a)=a.setWidth 64:=oR 64 a
@[simp] theorem asy (a:BitVec 32) :BitVec.ofInt 8 (u a)=a.setWidth 8:=oR 8 a
@[simp] theorem asw (a:BitVec 32) :BitVec.ofInt 16 (u a)=a.setWidth 16:=oR 16 a
@[simp] theorem asx (a:BitVec 32) :BitVec.ofInt 64 (u a)=a.setWidth 64:=oR 64 a
@[simp] theorem asB (a:BitVec 64) :BitVec.ofInt 8 (u a)=a.setWidth 8:=oR 8 a
@[simp] theorem asz (a:BitVec 64) :BitVec.ofInt 16 (u a)=a.setWidth 16:=oR 16 a
@[simp] theorem asA (a:BitVec 64) :BitVec.ofInt 32 (u a)=a.setWidth 32:=oR 32 a
@[simp] theorem axl {w:Nat}:u (0#w)=0:=by simp[u]
theorem FB (k:Nat) (c:Int) (al:0<c) (hk:k<9223372036854775808) :cr .quo .i64 (k:Int) .i64 c=some (.int .i64 ((k / c.toNat:Nat) :Int)) :=by
 obtain⟨m,rfl⟩:=Int.eq_ofNat_of_zero_le (Int.le_of_lt al);have hm:(m:Int)≠0:=by omega
 show (if IntKind.i64=IntKind.i64/\(m:Int)≠0 then some (ae.int .i64 (IntKind.i64.wrap ((k:Int).tdiv m))) else none)=_;rw[if_pos ⟨rfl,hm⟩,Int.toNat_natCast];have:((k:Int).tdiv m)=((k / m:Nat) :Int) :=rfl;have ag:=Nat.div_le_self k m;rw[this];generalize k / m=q at ag;rw[wrap_i64 (by omega) (by omega)]
theorem zd (k:Nat) (c:Int) (al:0<c) :cr .rem .i64 (k:Int) .i64 c=some (.int .i64 ((k % c.toNat:Nat) :Int)) :=by
 obtain⟨m,rfl⟩:=Int.eq_ofNat_of_zero_le (Int.le_of_lt al);have hm:(m:Int)≠0:=by omega
 show (if IntKind.i64=IntKind.i64/\(m:Int)≠0 then some (ae.int .i64 ((k:Int).tmod m)) else none)=_;rw[if_pos ⟨rfl,hm⟩,Int.toNat_natCast];rfl
theorem ab4 (k:IntKind) (w n:Nat) :rep n (.int k 0)=(List.replicate n (0#w)).map fun x=>.int k (u x) :=by
 simp[rep]
theorem mR {α:Type} (f:α->ae) (l:List α) (i:Nat) (x:α) (h:i<l.length) :bS (l.map f) i [f x]=(l.set i x).map f:=by
 unfold bS;rw[List.set_eq_take_append_cons_drop,if_pos h];simp
theorem mn {cs vs:List ae} (h:vs.length=cs.length) :bS cs 0 vs=vs:=by
 unfold bS;rw[Nat.zero_add,List.take_zero,List.nil_append,h,List.drop_length,List.append_nil]
theorem a1 {l:av} {c c' : ae} (h:c=c') (al:c'.closed=true) :Rd l c c':=by subst h; exact .same _ al
theorem w7 {α:Type} {z:Nat}:∀ (es:List (List α)),(∀ e∈es,e.length=z)->∀ (i j:Nat) (e:List α) (c:α),es[i]? = some e->e[j]? = some c->es.flatten[i*z+j]? = some c:=by
 intro es aB
 induction es with
 | nil=>intro i j e c aw; simp at aw
 | cons x es aL=>
  intro i j e c aw am;have aj:x.length=z:=aB x (by simp);cases i with
  | zero=>
   simp only[List.getElem?_cons_zero,Option.some.injEq] at aw;subst aw;rw[List.flatten_cons,Nat.zero_mul,Nat.zero_add,List.getElem?_append_left (List.getElem?_eq_some_iff.1 am).1];exact am
  | succ i=>
   simp only[List.getElem?_cons_succ] at aw;rw[List.flatten_cons,List.getElem?_append_right (by rw[aj,Nat.succ_mul]; omega),aj,show (i+1)*z+j - z=i*z+j by rw[Nat.succ_mul]; omega];exact aL (fun e aw=>aB e (by simp[aw])) i j e c aw am
inductive rG (l:av) :List ae->List ae->Prop
 | nil:rG l [] []
 | cons {c c' cs cs'}:fy (b3 l) c c'->rG l cs cs'->rG l (c::cs) (c'::cs')
theorem rG.len {l:av}:∀ {a b:List ae},rG l a b->b.length=a.length
 | _,_,.nil=>rfl
 | _,_,.cons _ h=>by simp[h.len]
theorem rG.get {l:av}:∀ {a b:List ae},rG l a b->∀ (j:Nat) (c c' : ae),a[j]? = some c->b[j]? = some c'->fy (b3 l) c c'
 | _,_,.nil,j,c,c',h,_=>by simp at h
 | _,_,.cons h1 ag,j,c,c',h,h'=>by
  cases j with
  | zero=>simp at h h'; subst h h'; exact h1
  | succ j=>exact ag.get j c c' (by simpa using h) (by simpa using h')
theorem iF {P:Program} {G:Nat->ae} {f:FuncId} {args hP:List ae} {r:ae} {l:av} {K:ae->av->Prop} (aE:bR P G f hP r) (aC:rG l args hP) (aI:r.flat=true) (h:K r l) :dh P G f args l (c:=⟨K⟩) :=
 ⟨r,l,.LH aE aC.len aC.get aI,Nat.le_refl _,h⟩
theorem YU {P:Program} {G:Nat->ae} {f:FuncId} {args hP:List ae} {r:ae} {l:av} {K:ae->av->Prop} (aE:iI P G f hP r) (aC:rG l args hP) (h:K r l) :dh P G f args l (c:=⟨K⟩) :=
 ⟨r,l,.LI aE aC.len aC.get,Nat.le_refl _,h⟩
inductive ji (l:av) :ae->ae->Prop
 | flat (c:ae) (h:c.flat=true) :ji l c c
 | aV (cs cs' : List ae) (au:cs'.length=cs.length) (h:∀ (j:Nat) (c c' : ae),cs[j]? = some c->cs'[j]? = some c'->ji l c c') :ji l (.aV cs) (.aV cs')
 | bU (cs cs' : List ae) (au:cs'.length=cs.length) (h:∀ (j:Nat) (c c' : ae),cs[j]? = some c->cs'[j]? = some c'->ji l c c') :ji l (.bU cs) (.bU cs')
 | ao (z b off len cap sz:Nat) (cs:List ae) (es:List (List ae)) (ai:l[b]? = some (.cells sz cs)) (au:es.length=len) (aB:∀ e∈es,e.length=z)
   (eA:off+len*z<=cs.length)
   (h:∀ (i j:Nat) (e:List ae) (c c' : ae),es[i]? = some e->e[j]? = some c'->cs[off+(i*z+j)]? = some c->ji l c c') :ji l (.ao z b off len cap sz) (.b0 z es)
 | p0 (z b off cap sz:Nat) :ji l (.ao z b off 0 cap sz) (.b0 z [])
 | fo (z:Nat) :ji l (.b0 z []) (.b0 z [])
theorem an9 {w:World} {R:Nat->Prop} {B:Nat} {l:av} {μ:cJ} (rel:cc R B w (b3 l) μ) :∀ {c c' : ae},ji l c c'->∀ {v:Value},aR w R (b3 l) μ c v->e7 w (fun k=>B<=k) c' v:=by
 intro c c' aC
 induction aC with
 | flat c h=>intro v ax; exact TN ax h
 | aV cs cs' au h aL=>
  intro v ax;cases ax with
  | aV _ vs fD h1 ax=>
   refine .aV cs' vs (by omega) h1 (fun j c' v am e2=>?_);have aP:j<cs.length:=by rw[<-au]; exact (List.getElem?_eq_some_iff.1 am).1
   exact aL j cs[j] c' (List.getElem?_eq_getElem aP) am (ax j cs[j] v (List.getElem?_eq_getElem aP) e2)
 | bU cs cs' au h aL=>
  intro v ax;cases ax with
  | bU _ vs fD ax=>
   refine .bU cs' vs (by omega) (fun j c' v am e2=>?_);have aP:j<cs.length:=by rw[<-au]; exact (List.getElem?_eq_some_iff.1 am).1
   exact aL j cs[j] c' (List.getElem?_eq_getElem aP) am (ax j cs[j] v (List.getElem?_eq_getElem aP) e2)
 | p0 z b off cap sz=>
  intro v ax;cases ax with
  | ao _ _ _ _ _ _ cap' cs m ai hm au ay al=>exact .fo z _ cap'
  | fZ _ _ _ _ _ _ cap' a au al az=>exact .fo z _ cap'
  | hi _ _ _ _ a cs m ai hm=>exact .fo z a 0
 | fo z=>
  intro v ax;generalize aw:([] :List (List ae))=es at ax;generalize xm:ae.b0 z es=u6 at ax;cases ax<;>cases xm
  ·subst aw; exact .fo z _ _
  ·exact .fo z _ _
 | ao z b off len cap sz cs es ai au aB eA h aL=>
  intro v ax;have pl:(b3 l).f b=.cells sz cs:=mv.2 ai;cases ax with
  | hi _ _ _ _ a ho m fU jY=>
   obtain rfl:=List.length_eq_zero_iff.1 au;exact .fo z a 0
  | fZ _ _ _ _ _ _ cap' a au al az=>
   exfalso;rcases az with az | ⟨n,ho,az,aP⟩
   ·rw[pl] at az; cases az
   ·rw[pl] at az; cases az; omega
  | ao _ _ _ _ _ _ cap' ho m fU hm hD ay al=>
   rw[pl] at fU; cases fU;have hblk:=rel.blk b m hm;rw[pl] at hblk;obtain⟨cp,dt,arr,t,fA,bB,aG,aI,lo⟩:=hblk;have c3:len<=cap':=by rcases al with ⟨_,h⟩ | ⟨_,h,_⟩<;>omega
   have r3:B<=m.r:=rel.base b m (by rw[pl]; rfl) hm;subst au;have pm:∀ i j,i<es.length->j<z->∃ c v,cs[off+(i*z+j)]? = some c/\arr[m.s+(off+(i*z+j))]? = some v/\v.oneCell'=true/\aR w R (b3 l) μ c v:=by
    intro i j aA am;have aP:off+(i*z+j)<cs.length:=by
     have:i*z+z<=es.length*z:=by rw[<-Nat.succ_mul]; exact Nat.mul_le_mul_right _ aA
     omega
    obtain⟨v,h1,ag,ap⟩:=lo _ _ (List.getElem?_eq_getElem aP);exact⟨_,v,List.getElem?_eq_getElem aP,h1,ag,ap⟩
   refine .b0 z es m.r (m.s+off) cap' (fun i j=>(arr[m.s+(off+(i*z+j))]?).getD undef) c3 aB (fun i j aA am=>?_) (fun i e aw j c' am=>?_)
   ·obtain⟨c,v,h1,ag,ap,aJ⟩:=pm i j aA am;refine⟨?_,?_,r3,fun ⟨b,m,h1,ag,ap⟩=>by cases ag⟩
    ·simp only[World.cell?,bB,ag,Option.getD_some,Option.isSome_none];rw[show m.s+off+(i*z+j)=m.s+(off+(i*z+j)) by omega,ag]; rfl
    ·rw[ag]; exact ap
   ·have aA:i<es.length:=(List.getElem?_eq_some_iff.1 aw).1;have ls:j<z:=by rw[<-aB e (List.mem_of_getElem? aw)]; exact (List.getElem?_eq_some_iff.1 am).1
    obtain⟨c,v,h1,ag,ap,aJ⟩:=pm i j aA ls;simp only[ag,Option.getD_some];exact aL i j e c c' aw am h1 aJ
theorem Bc {P:Program} {G:Nat->ae} (kX:P.follows .mixedOrders=true) (jS:∀ g,(G g).closed=true) {f:FuncId} {args:List ae} {r:ae} (h:dh P G f args [] (c:=⟨fun k4 l=>ji l k4 r⟩)) :iI P G f args r:=by
 obtain⟨k4,l',h1,ag,ap⟩:=h;intro w A vs az au ax;refine (OU (A:=A) kX jS h1 az au ax).mono ?_;rintro e w' ⟨v,μ',rfl,ai,rel,aC⟩;exact⟨v,rfl,ai,an9 rel ap aC⟩
theorem an8 {l:av} {z b n cap sz:Nat} {es:List (List ae)} {rest:List ae} (ai:l[b]? = some (.cells sz (es.flatten++rest))) (aH:es.length=n) (aB:∀ e∈es,e.length=z) (al:∀ e∈es,kM e=true) :ji l (.ao z b 0 n cap sz) (.b0 z es) :=by
 have fv:=lk (z:=z) (es:=es) (fun e aw=>aB e aw);refine .ao z b 0 n cap sz _ es ai aH aB (by rw[List.length_append,fv,aH]; omega) (fun i j e c c' aw am de=>?_);have aA:i<es.length:=(List.getElem?_eq_some_iff.1 aw).1;have ls:j<z:=by rw[<-aB e (List.mem_of_getElem? aw)]; exact (List.getElem?_eq_some_iff.1 am).1
 have aP:i*z+j<es.flatten.length:=by
  rw[fv];have:i*z+z<=es.length*z:=by rw[<-Nat.succ_mul]; exact Nat.mul_le_mul_right _ aA
  omega
 have h1:es.flatten[i*z+j]? = some c':=w7 es aB i j e c' aw am;rw[Nat.zero_add,List.getElem?_append_left aP,h1] at de;cases de;exact .flat _ (Cv (al e (List.mem_of_getElem? aw)) j _ am)
theorem abU {l:av} {c:ae} (h:c.closed=true) :fy (b3 l) c c:=.same c h
@[simp] theorem aum (n z:Nat) (cs:List ae) (k:IntKind) (i:Int) :AM n z (.aV cs) (.int k i)=if 0<=i/\i<n then cs[i.toNat*z]? else none:=id rfl
@[simp] theorem aun (n z:Nat) (cs:List ae) (k:IntKind) (i:Int) :AN n z (.aV cs) (.int k i)=if 0<=i/\i<n then rg z cs (i.toNat*z) else none:=id rfl
@[simp] theorem x7 (s:List UInt8) (k:IntKind) (i:Int) :v2 (.str s) (.int k i)=if 0<=i then (s[i.toNat]?).map iq else none:=id rfl
theorem aoQ {α:Type} {l:List α} {i:Nat} {x:α} (h:l[i]? = some x) :l.set i x=l:=by
 obtain⟨aA,rfl⟩:=List.getElem?_eq_some_iff.1 h;exact List.set_getElem_self aA
theorem kK {α:Type} (f:α->ae) (aI:∀ x,(f x).closed=true) :∀ l:List α,bM (l.map f)=true
 | []=>rfl
 | x::l=>by simp only[List.map_cons,bM,aI,kK f aI l,Bool.and_self]
theorem S3 {α:Type} (f:α->ae) (aI:∀ x,(f x).closed=true) (l:List α) :(ae.aV (l.map f)).closed=true:=by simp only[ae.closed]; exact kK f aI l
theorem w6 {α:Type} (f:α->ae) (aI:∀ x,(f x).flat=true) :∀ l:List α,kM (l.map f)=true
 | []=>rfl
 | x::l=>by simp only[List.map_cons,kM,aI,w6 f aI l,Bool.and_self]
theorem TL {α:Type} (f:α->ae) (aI:∀ x,(f x).flat=true) (l:List α) :(ae.aV (l.map f)).flat=true:=by simp only[ae.flat]; exact w6 f aI l
@[simp] theorem ar7 (z:Nat) :rQ (.ao z) .aX=some (.int .i64 0) :=id rfl
@[simp] theorem ar6 (n z:Nat) (x:ae) :rQ (.arr n z) x=some (.int .i64 n) :=id rfl
theorem aw6 (z:Nat) (cW aA cI:Option ae) :fQ (.ao z) .aX cW aA cI=(gd 0 0 cW aA cI).map fun _=>.aX:=rfl
@[simp] theorem aw7 (z:Nat) (k:IntKind) :fQ (.ao z) .aX none (some (.int k 0)) none=some .aX:=id rfl
theorem ws (z b off len cap sz:Nat) (cW aA cI:Option ae) :fQ (.ao z) (.ao z b off len cap sz) cW aA cI=(gd len cap cW aA cI).map fun (l,aN,m)=>if m=l then .ao z b (off+l*z) 0 0 sz else .ao z b (off+l*z) (aN - l) (m - l) sz:=by
 simp[fQ]
theorem A2 {α:Type} {l:List α} {a:α} (h:l[0]? = some a) :∃ r,l=a::r:=by
 cases l with
 | nil=>simp at h
 | cons x l=>simp at h; subst h; exact⟨l,rfl⟩
theorem apT {α:Type} {l:List α} {b:α} (h:l[1]? = some b) :∃ a r,l=a::b::r:=by
 cases l with
 | nil=>simp at h
 | cons x l=>obtain⟨r,rfl⟩:=A2 (l:=l) (by simpa using h); exact⟨x,r,rfl⟩
theorem yy (zero:List ae) (n:Nat) :(dm zero n).length=n*zero.length:=by
 induction n with
 | zero=>simp[dm]
 | succ n aL=>simp[dm,aL,Nat.succ_mul,Nat.add_comm]
theorem Es (zero:List ae) (n:Nat) :dm zero n=(List.replicate n zero).flatten:=by
 induction n with
 | zero=>rfl
 | succ n aL=>rw[dm,aL,List.replicate_succ,List.flatten_cons]
inductive bX (z:Nat) (l:av) :ae->Nat->List (List ae)->Prop
 | nil (j:Nat) :bX z l .aX j []
 | ao (j n cap sz:Nat) (cs:List ae) (es:List (List ae)) (ai:l[j]? = some (.cells sz cs)) (au:cs.length=sz) (aH:es.length=n) (aB:∀ e∈es,e.length=z) (al:n<=cap) (c3:cap*z<=sz)
   (cp:cs.take (n*z)=es.flatten) :bX z l (.ao z j 0 n cap sz) j es
def cU:ae->Bool | .aX=>true | _=>false
theorem iW {v:ae}:cU v=true<->v=.aX:=by cases v<;>simp[cU]
theorem sC {α:Type} {v bf:ae} {xs:List α} (h:bf=.aX<->v=.aX/\xs=[]) :cU bf=(cU v&&xs.isEmpty) :=by
 rw[Bool.eq_iff_iff,iW,h,Bool.and_eq_true,iW,List.isEmpty_iff]
def rn (z:Nat) (v:ae) (es:List (List ae)) :ae:=match cU v with | true=>.aX | false=>.b0 z es
section
variable {z:Nat} {l l' : av} {v:ae} {j:Nat} {es:List (List ae)}
theorem bX.lt (h:bX z l v j es) :v=.aX\/j<l.length:=by
 cases h with
 | nil j=>exact .inl rfl
 | ao j n cap sz cs es ai=>exact .inr (e9 ai)
theorem bX.row (h:bX z l v j es) :∀ e∈es,e.length=z:=by
 cases h with
 | nil j=>intro e aw; cases aw
 | ao j n cap sz cs es ai au aH aB=>exact aB
theorem bX.cells (h:bX z l v j es) :v.cells=some [v] :=by cases h<;>rfl
theorem bX.len (h:bX z l v j es) :c8 (.ao z) v=some (.int .i64 es.length) :=by
 cases h with
 | nil j=>rfl
 | ao j n cap sz cs es ai au aH=>subst aH; rfl
theorem bX.frame (h:bX z l v j es) (am:j<l.length->l'[j]? = l[j]?) :bX z l' v j es:=by
 cases h with
 | nil j=>exact .nil j
 | ao j n cap sz cs es ai au aH aB al c3 cp=>exact .ao j n cap sz cs es (by rw[am (e9 ai)]; exact ai) au aH aB al c3 cp
theorem bX.zK (h:bX z l v j es) (am:v=.aX\/l'[j]? = l[j]?) :bX z l' v j es:=by
 cases h with
 | nil j=>exact .nil j
 | ao j n cap sz cs es ai au aH aB al c3 cp=>
  rcases am with am | am
  ·cases am
  ·exact .ao j n cap sz cs es (by rw[am]; exact ai) au aH aB al c3 cp
theorem bX.more (h:bX z l v j es) (x:av) :bX z (l++x) v j es:=h.frame fun am=>List.getElem?_append_left am
theorem bX.contents (h:bX z l v j es) :dv l z v=some (es.flatten,es.length) :=by
 cases h with
 | nil j=>rfl
 | ao j n cap sz cs es ai au aH aB al c3 cp=>subst aH; simp only[dv,ai,and_self,if_true,List.drop_zero,cp]
theorem bX.En (h:bX z l v j es) (aI:∀ e∈es,kM e=true) :ji l v (rn z v es) :=by
 cases h with
 | nil j=>exact .flat _ rfl
 | ao j n cap sz cs es ai au aH aB al c3 cp=>
  show ji l _ (.b0 z es);refine an8 (rest:=cs.drop (n*z)) ?_ aH aB aI;rw[ai,<-cp,List.take_append_drop]
theorem bX.pW (h:bX z l v j es) (aI:∀ e∈es,bM e=true) :fy (b3 l) v (rn z v es) :=by
 cases h with
 | nil j=>exact .same _ rfl
 | ao j n cap sz cs es ai au aH aB al c3 cp=>
  show fy (b3 l) _ (.b0 z es);have oD:n*z<=cs.length:=by rw[au]; exact Nat.le_trans (Nat.mul_le_mul_right _ al) c3
  refine .ao z j 0 n cap sz cs es (mv.2 ai) aH aB (by omega) (fun i k e c c' aw hk de=>?_);have aA:i<es.length:=(List.getElem?_eq_some_iff.1 aw).1;have JA:k<z:=by rw[<-aB e (List.mem_of_getElem? aw)]; exact (List.getElem?_eq_some_iff.1 hk).1
  have aP:i*z+k<n*z:=by
   have:i*z+z<=es.length*z:=by rw[<-Nat.succ_mul]; exact Nat.mul_le_mul_right _ aA
   rw[aH] at this; omega
  have h1:es.flatten[i*z+k]? = some c':=w7 es aB i k e c' aw hk;rw[<-cp,List.getElem?_take_of_lt aP] at h1;rw[Nat.zero_add,h1] at de;cases de;exact .same _ (zo (aI e (List.mem_of_getElem? aw)) k _ hk)
theorem Bg {l:av} {z b n cap sz:Nat} {es:List (List ae)} {rest:List ae} (ai:l[b]? = some (.cells sz (es.flatten++rest))) (aH:es.length=n) (aB:∀ e∈es,e.length=z) (al:∀ e∈es,bM e=true) :fy (b3 l) (.ao z b 0 n cap sz) (.b0 z es) :=by
 have fv:=lk (z:=z) (es:=es) (fun e aw=>aB e aw);refine .ao z b 0 n cap sz _ es (mv.2 ai) aH aB (by rw[List.length_append,fv,aH]; omega) (fun i j e c c' aw am de=>?_);have aA:i<es.length:=(List.getElem?_eq_some_iff.1 aw).1;have ls:j<z:=by rw[<-aB e (List.mem_of_getElem? aw)]; exact (List.getElem?_eq_some_iff.1 am).1
 have aP:i*z+j<es.flatten.length:=by
  rw[fv];have:i*z+z<=es.length*z:=by rw[<-Nat.succ_mul]; exact Nat.mul_le_mul_right _ aA
  omega
 have h1:es.flatten[i*z+j]? = some c':=w7 es aB i j e c' aw am;rw[Nat.zero_add,List.getElem?_append_left aP,h1] at de;cases de;exact .same _ (zo (al e (List.mem_of_getElem? aw)) j _ am)
theorem PD (h:bX z l v j es) {by_ m:Nat} {xs:List (List ae)} (hm:xs.length=m) (ly:∀ e∈xs,e.length=z) (aT:z≠0) (dO:by_≠0) (dy:(es.length+m)*by_<=cT) :
  ∃ bf ct l',h0 l z by_ v xs.flatten m=some (bf,l')/\bX z l' bf ct (es++xs)/\l.length<=l'.length/\(∀ b,b<l.length->b≠j->l'[b]? = l[b]?)/\(ct=j\/l.length<=ct)/\(bf=.aX<->v=.aX/\xs=[]) :=by
 by_cases iT:m=0
 ·have aj:xs=[] :=List.length_eq_zero_iff.1 (by omega);subst aj;refine⟨v,j,l,?_,by simpa using h,Nat.le_refl _,fun _ _ _=>rfl,.inl rfl,by simp⟩;unfold h0;rw[if_pos iT];cases h<;>rfl
 have bF:xs.flatten.length=m*z:=by rw[lk ly,hm]
 have kY:∀ e∈es++xs,e.length=z:=fun e aw=>by
  rcases List.mem_append.1 aw with h1 | h1
  ·exact h.row e h1
  ·exact ly e h1
 have bY:xs≠[] :=fun aj=>iT (by rw[<-hm,aj]; rfl)
 cases h with
 | nil j=>
  refine⟨.ao z l.length 0 m m (m*z),l.length,l++[.cells (m*z) xs.flatten],?_,?_,by simp,fun b ai _=>List.getElem?_append_left ai,.inr (Nat.le_refl _),by simp[bY]⟩
  ·unfold h0;rw[if_neg iT,if_neg (by omega)];simp only;rw[if_pos (by simpa using dy)]
  ·refine .ao _ _ _ _ xs.flatten _ (by simp) bF (by simpa using hm) kY (Nat.le_refl _) (Nat.le_refl _) ?_;rw[List.take_of_length_le (by omega)]; rfl
 | ao j n cap sz cs es ai au aH aB al c3 cp=>
  subst aH;have oD:es.length*z<=cap*z:=Nat.mul_le_mul_right _ al;have tT:(es++xs).length=es.length+m:=by simp[hm]
  have fv:(es++xs).flatten=es.flatten++xs.flatten:=by simp
  have nj:es.flatten.length=es.length*z:=lk aB;have ou:h0 l z by_ (.ao z j 0 es.length cap sz) xs.flatten m =
    if es.length+m<=cap then some (.ao z j 0 (es.length+m) cap sz,l.set j (.cells sz (bS cs (es.length*z) xs.flatten)))
    else if cap*z<sz then some (.ao z l.length 0 (es.length+m) (es.length+m) ((es.length+m)*z),l++[.cells ((es.length+m)*z) (es.flatten++xs.flatten)])
    else some (.ao z j 0 (es.length+m) (es.length+m) ((es.length+m)*z),l.set j (.cells ((es.length+m)*z) (es.flatten++xs.flatten))) :=by
   unfold h0;rw[if_neg iT,if_neg (by omega)];simp only[ai];rw[if_pos ⟨trivial,trivial,dy⟩];simp only[Nat.zero_add,List.drop_zero,cp,if_true]
  rw[ou];have eR:=e9 ai;split
  ·rename_i h1;have JJ:(es.length+m)*z<=cap*z:=Nat.mul_le_mul_right _ h1;rw[Nat.add_mul] at JJ;refine⟨_,j,_,rfl,?_,by simp,fun b bP g1=>by rw[List.getElem?_set_ne (fun e=>g1 e.symm)],.inl rfl,by simp⟩;refine .ao j _ cap sz (bS cs (es.length*z) xs.flatten) _ (by rw[List.getElem?_set_self eR]) ?_ tT kY h1 c3 ?_
   ·rw[p1 (by omega)]; omega
   ·rw[fv];unfold bS;rw[cp,List.take_append_of_le_length (by simp[nj,bF,Nat.add_mul]),List.take_of_length_le (by simp[nj,bF,Nat.add_mul])]
  ·split
   ·refine⟨_,l.length,_,rfl,?_,by simp,fun b bP _=>List.getElem?_append_left bP,.inr (Nat.le_refl _),by simp⟩;refine .ao _ _ _ _ (es.flatten++xs.flatten) _ (by simp) (by simp[nj,bF,Nat.add_mul]) tT kY (Nat.le_refl _) (Nat.le_refl _) ?_;rw[fv,List.take_of_length_le (by simp[nj,bF,Nat.add_mul])]
   ·refine⟨_,j,_,rfl,?_,by simp,fun b bP g1=>by rw[List.getElem?_set_ne (fun e=>g1 e.symm)],.inl rfl,by simp⟩;refine .ao j _ _ _ (es.flatten++xs.flatten) _ (by rw[List.getElem?_set_self eR]) (by simp[nj,bF,Nat.add_mul]) tT kY (Nat.le_refl _) (Nat.le_refl _) ?_;rw[fv,List.take_of_length_le (by simp[nj,bF,Nat.add_mul])]
theorem m5 (h:bX z l v j es) {by_:Nat} {x:ae} {xs:List (List ae)} (aj:dv l z x=some (xs.flatten,xs.length)) (ly:∀ e∈xs,e.length=z) (aT:z≠0) (dO:by_≠0) (dy:(es.length+xs.length)*by_<=cT) :
  ∃ bf ct l',iL l z by_ v x=some (bf,l')/\bX z l' bf ct (es++xs)/\l.length<=l'.length/\(∀ b,b<l.length->b≠j->l'[b]? = l[b]?)/\(ct=j\/l.length<=ct)/\(bf=.aX<->v=.aX/\xs=[]) :=by
 unfold iL;rw[aj];exact PD h rfl ly aT dO dy
theorem aer (h:bX z l v j es) {by_ n:Nat} {k:IntKind} {zero:List ae} (ia:zero.length=z) (aT:z≠0) (dO:by_≠0) (aH:n<9223372036854775808) (dy:(es.length+n)*by_<=cT) :
  ∃ bf ct l',pe l z by_ zero v (.int k (n:Int))=some (bf,l')/\bX z l' bf ct (es++List.replicate n zero)/\l.length<=l'.length/\(∀ b,b<l.length->b≠j->l'[b]? = l[b]?)/\(ct=j\/l.length<=ct)/\(bf=.aX<->v=.aX/\n=0) :=by
 have:=PD h (xs:=List.replicate n zero) (m:=n) (by simp) (fun e aw=>by rw[(List.mem_replicate.1 aw).2,ia]) aT dO dy;obtain⟨bf,ct,l',h1,ag⟩:=this;refine⟨bf,ct,l',?_,by simpa [List.replicate_eq_nil_iff] using ag⟩;unfold pe;simp only[Int.toNat_natCast];rw[if_pos ⟨by omega,by omega,by have:=Nat.le_trans (Nat.mul_le_mul_right by_ (Nat.le_add_left n es.length)) dy; exact this⟩,Es];exact h1
theorem aet {l:av} {z by_ n:Nat} {v bf:ae} {xs:List ae} {pre rest:av} {l' : av} (ax:v=.aX\/∃ j n cap sz,v=.ao z j 0 n cap sz/\pre.length<=j) (h:h0 (pre++rest) z by_ v xs n=some (bf,l')) :
  ∃ kA,l'=pre++kA:=by
 unfold h0 at h;by_cases aH:n=0
 ·rw[if_pos aH] at h;rcases ax with rfl | ⟨j,m,cap,sz,rfl,am⟩<;>(cases h; exact⟨_,rfl⟩)
 rw[if_neg aH] at h;by_cases aT:z=0\/by_=0
 ·rw[if_pos aT] at h; cases h
 rw[if_neg aT] at h;rcases ax with rfl | ⟨j,m,cap,sz,rfl,am⟩
 ·simp only at h;split at h
  ·cases h; exact⟨_,by rw[List.append_assoc]⟩
  ·cases h
 ·simp only at h;split at h
  ·split at h
   ·split at h
    ·cases h; exact⟨_,by rw[List.set_append_right _ _ am]⟩
    ·split at h
     ·cases h; exact⟨_,by rw[List.append_assoc]⟩
     ·split at h
      ·cases h; exact⟨_,by rw[List.set_append_right _ _ am]⟩
      ·rename_i aN; exact absurd trivial aN
   ·cases h
  ·cases h
theorem y8 {z by_:Nat} {v:ae} {j:Nat} {es:List (List ae)} {pre rest:av} (h:bX z (pre++rest) v j es) (am:v=.aX\/pre.length<=j) {x:ae} {xs:List (List ae)} (aj:dv (pre++rest) z x=some (xs.flatten,xs.length)) (ly:∀ e∈xs,e.length=z) (aT:z≠0) (dO:by_≠0)
  (dy:(es.length+xs.length)*by_<=cT) :
  ∃ bf ct kA,iL (pre++rest) z by_ v x=some (bf,pre++kA)/\bX z (pre++kA) bf ct (es++xs)/\(bf=.aX\/pre.length<=ct)/\cU bf=(cU v&&xs.isEmpty) :=by
 have aI:v=.aX\/∃ j n cap sz,v=.ao z j 0 n cap sz/\pre.length<=j:=by
  cases h with
  | nil j=>exact .inl rfl
  | ao j n cap sz cs es=>exact .inr ⟨j,n,cap,sz,rfl,am.resolve_left (by simp)⟩
 obtain⟨bf,ct,l',h1,ag,ap,aJ,bd,bL⟩:=m5 h aj ly aT dO dy;have dH:=h1;unfold iL at dH;rw[aj] at dH;obtain⟨kA,rfl⟩:=aet (l:=[]) aI dH;refine⟨bf,ct,kA,h1,ag,?_,sC bL⟩;rcases bd with h | h
 ·rcases am with ax | am
  ·by_cases x3:xs=[]
   ·exact .inl (bL.2 ⟨ax,x3⟩)
   ·right;subst ax;have x1:xs.length≠0:=fun e=>x3 (List.length_eq_zero_iff.1 e)
    simp only at dH;unfold h0 at dH;rw[if_neg x1] at dH;split at dH
    ·cases dH
    ·simp only at dH;split at dH
     ·obtain⟨rfl,_⟩:=Prod.mk.inj (Option.some.inj dH);generalize es++xs=E at ag;cases ag;simp
     ·cases dH
  ·right; omega
 ·right;rw[List.length_append] at h; omega
theorem bX.view (h:bX z l v j es) (ax:cU v=false) :∃ n cap sz cs,v=.ao z j 0 n cap sz/\l[j]? = some (.cells sz cs)/\cs.length=sz/\es.length=n/\n*z<=sz/\(∀ i e,es[i]? = some e->∀ m,m<z->cs[i*z+m]? = e[m]?)/\cs.take (n*z)=es.flatten:=by
 cases h with
 | nil j=>simp[cU] at ax
 | ao j n cap sz cs es ai au aH aB al c3 cp=>
  refine⟨n,cap,sz,cs,rfl,ai,au,aH,Nat.le_trans (Nat.mul_le_mul_right _ al) c3,fun i e aw m hm=>?_,cp⟩;have aA:i<es.length:=(List.getElem?_eq_some_iff.1 aw).1;have aP:i*z+m<n*z:=by
   have:i*z+z<=es.length*z:=by rw[<-Nat.succ_mul]; exact Nat.mul_le_mul_right _ aA
   rw[aH] at this; omega
  have h1:=Iv aB aw hm;rw[<-h1,<-cp,List.getElem?_take_of_lt aP]
theorem bX.Bi {α:Type} {enc:α->List ae} {xs:List α} (h:bX z l v j (xs.map enc)) (aI:∀ x,kM (enc x)=true) (s:dk α) (ar:cU v=s.isNone) (aj:s.l=xs) :ji l v (cO z enc s) :=by
 have h1:=h.En (fun e aw=>by obtain⟨x,_,rfl⟩:=List.mem_map.1 aw; exact aI x);subst aj;unfold rn at h1;rw[ar] at h1;cases s with
 | none=>exact h1
 | some s=>exact h1
theorem bX.pX {α:Type} {enc:α->List ae} {xs:List α} (h:bX z l v j (xs.map enc)) (aI:∀ x,bM (enc x)=true) (s:dk α) (ar:cU v=s.isNone) (aj:s.l=xs) :fy (b3 l) v (cO z enc s) :=by
 have h1:=h.pW (fun e aw=>by obtain⟨x,_,rfl⟩:=List.mem_map.1 aw; exact aI x);subst aj;unfold rn at h1;rw[ar] at h1;cases s with
 | none=>exact h1
 | some s=>exact h1
end
def yx (h:aQ) :Nat->ae->Option ae
 | 0,_=>none
 | d+1,c=>match c with
  | .aV cs=>match nQ (yx h d) cs with | some cs'=>some (.aV cs') | none=>none
  | .bU cs=>match nQ (yx h d) cs with | some cs'=>some (.bU cs') | none=>none
  | .ao z b off len cap sz=>match Nat.beq len 0 with
   | true=>some (.b0 z [])
   | false=>match h.f b with
    | .cells n cs=>match Nat.beq n sz&&Nat.ble (off+len*z) cs.length with
     | true=>match nQ (yx h d) ((cs.drop off).take (len*z)) with
      | some xs=>some (.b0 z (kJ z len xs))
      | none=>none
     | false=>none
    | _=>none
  | c=>match c.flat with | true=>some c | false=>none
theorem Eo {h:aQ} {l:av} (r:eu h l) :∀ (d:Nat) (c c' : ae),yx h d c=some c'->ji l c c'
 | 0,c,c',aj=>by cases aj
 | d+1,c,c',aj=>by
  unfold yx at aj;split at aj
  ·split at aj
   ·rename_i h1; cases aj;exact .aV _ _ (rk h1) (fun j c c' al fi=>Eo r d c c' (rj h1 j c c' al fi))
   ·cases aj
  ·split at aj
   ·rename_i h1; cases aj;exact .bU _ _ (rk h1) (fun j c c' al fi=>Eo r d c c' (rj h1 j c c' al fi))
   ·cases aj
  ·rename_i z b off len cap sz;split at aj
   ·rename_i aT;cases aj;rw[Nat.eq_of_beq_eq_true aT];exact .p0 z b off cap sz
   ·split at aj
    ·rename_i n cs ai;split at aj
     ·rename_i eb;simp only[Bool.and_eq_true] at eb;have aH:=Nat.eq_of_beq_eq_true eb.1;have du:=Nat.le_of_ble_eq_true eb.2;subst aH;split at aj
      ·rename_i xs h1;cases aj;have bF:=rk h1;simp only[List.length_take,List.length_drop] at bF;have sw:xs.length=len*z:=by omega
       have dW:∀ (i:Nat),i<len->(kJ z len xs)[i]? = some ((xs.drop (i*z)).take z) :=fun i aA=>Ca len xs i aA
       have dP:∀ i,i<len->i*z+z<=len*z:=fun i aA=>by rw[<-Nat.succ_mul]; exact Nat.mul_le_mul_right _ aA
       refine .ao z b off len cap n cs _ (r.some ai (by simp)) (tn _ _) (fun e aw=>?_) du (fun i j e c c' aw am al=>?_)
       ·obtain⟨i,aA⟩:=List.mem_iff_getElem?.1 aw;have dI:i<len:=by
         have:=(List.getElem?_eq_some_iff.1 aA).1;rw[tn] at this; exact this
        rw[dW i dI] at aA;cases aA;have:=dP i dI;simp; omega
       ·have dI:i<len:=by
         have:=(List.getElem?_eq_some_iff.1 aw).1;rw[tn] at this; exact this
        rw[dW i dI] at aw;cases aw;have xx:=dP i dI;have ls:j<z:=by have:=(List.getElem?_eq_some_iff.1 am).1; simp at this; omega
        rw[List.getElem?_take_of_lt ls,List.getElem?_drop] at am;refine Eo r d c c' (rj h1 (i*z+j) c c' ?_ am);rw[List.getElem?_take_of_lt (by omega),List.getElem?_drop];exact al
      ·cases aj
     ·cases aj
    ·cases aj
  ·split at aj
   ·rename_i al; cases aj; exact .flat _ al
   ·cases aj
def acm (P:Program) (G:Nat->ae) [o9 P G] (orc:n2) (ka:s9) (fuel k:Nat) (f:FuncId) (args:List ae) (r:ae) :Bool:=
 match zj P G orc ka fuel k f args aQ.empty with
 | some (v,h)=>match yx h 20 v with
  | some bf=>ae.beq bf r
  | none=>false
 | none=>false
theorem wm {P:Program} {G:Nat->ae} [o9 P G] (kX:P.follows .mixedOrders=true) (jS:∀ g,(G g).closed=true) {orc:n2} {ka:s9} (ay:wH P G orc) (aU:y0 P ka) {fuel k:Nat} {f:FuncId} {args:List ae} {r:ae}
  (aj:acm P G orc ka fuel k f args r=true) :iI P G f args r:=by
 unfold acm at aj;split at aj
 ·rename_i v h al;split at aj
  ·rename_i bf ax;obtain⟨l',aC,ag⟩:=H3 ay aU fuel k f args aQ.empty v h [] eu.nil al;have:=ae.beq_eq aj;subst this;exact Bc kX jS (ag _ (Eo aC 20 v bf ax))
  ·cases aj
 ·cases aj
inductive ea (z:Nat) (l:av) :ae->Nat->List (List ae)->Prop
 | nil (j:Nat) :ea z l .aX j []
 | ao (j off n cap sz:Nat) (cs:List ae) (es:List (List ae)) (ai:l[j]? = some (.cells sz cs)) (au:cs.length=sz) (aH:es.length=n) (aB:∀ e∈es,e.length=z) (al:n<=cap) (c3:off+cap*z<=sz)
   (cp:(cs.drop off).take (n*z)=es.flatten) :ea z l (.ao z j off n cap sz) j es
section
variable {z:Nat} {l l' : av} {v:ae} {j:Nat} {es:List (List ae)}
theorem bX.q (h:bX z l v j es) :ea z l v j es:=by
 cases h with
 | nil j=>exact .nil j
 | ao j n cap sz cs es ai au aH aB al c3 cp=>exact .ao j 0 n cap sz cs es ai au aH aB al (by omega) (by simpa using cp)
theorem ea.row (h:ea z l v j es) :∀ e∈es,e.length=z:=by
 cases h with
 | nil j=>intro e aw; cases aw
 | ao j off n cap sz cs es ai au aH aB=>exact aB
theorem ea.lt (h:ea z l v j es) :v=.aX\/j<l.length:=by
 cases h with
 | nil j=>exact .inl rfl
 | ao j off n cap sz cs es ai=>exact .inr (e9 ai)
theorem ea.cells (h:ea z l v j es) :v.cells=some [v] :=by cases h<;>rfl
theorem ea.len (h:ea z l v j es) :c8 (.ao z) v=some (.int .i64 es.length) :=by
 cases h with
 | nil j=>rfl
 | ao j off n cap sz cs es ai au aH=>subst aH; rfl
theorem ea.zK (h:ea z l v j es) (am:v=.aX\/l'[j]? = l[j]?) :ea z l' v j es:=by
 cases h with
 | nil j=>exact .nil j
 | ao j off n cap sz cs es ai au aH aB al c3 cp=>
  rcases am with am | am
  ·cases am
  ·exact .ao j off n cap sz cs es (by rw[am]; exact ai) au aH aB al c3 cp
theorem ea.more (h:ea z l v j es) (x:av) :ea z (l++x) v j es:=h.zK (by
 rcases h.lt with h | h
 ·exact .inl h
 ·exact .inr (List.getElem?_append_left h))
theorem ea.ye (h:ea z l .aX j es) :es=[] :=by
 generalize ax:ae.aX=w at h;cases h with
 | nil j=>rfl
 | ao=>cases ax
theorem aeq (h:ea z l v j es) {by_ m:Nat} {xs:List (List ae)} (hm:xs.length=m) (ly:∀ e∈xs,e.length=z) (aT:z≠0) (dO:by_≠0) (dy:(es.length+m)*by_<=cT) :
  ∃ bf ct l',h0 l z by_ v xs.flatten m=some (bf,l')/\ea z l' bf ct (es++xs)/\l.length<=l'.length/\(∀ b,b<l.length->(v=.aX\/b≠j)->l'[b]? = l[b]?)/\(bf=.aX\/(v≠.aX/\ct=j)\/l.length<=ct)/\(bf=.aX<->v=.aX/\xs=[]) :=by
 by_cases iT:m=0
 ·have aj:xs=[] :=List.length_eq_zero_iff.1 (by omega);subst aj;refine⟨v,j,l,?_,by simpa using h,Nat.le_refl _,fun _ _ _=>rfl,?_,by simp⟩
  ·unfold h0;rw[if_pos iT];cases h<;>rfl
  ·by_cases ax:v=.aX
   ·exact .inl ax
   ·exact .inr (.inl ⟨ax,rfl⟩)
 have bF:xs.flatten.length=m*z:=by rw[lk ly,hm]
 have kY:∀ e∈es++xs,e.length=z:=fun e aw=>by
  rcases List.mem_append.1 aw with h1 | h1
  ·exact h.row e h1
  ·exact ly e h1
 have bY:xs≠[] :=fun aj=>iT (by rw[<-hm,aj]; rfl)
 cases h with
 | nil j=>
  refine⟨.ao z l.length 0 m m (m*z),l.length,l++[.cells (m*z) xs.flatten],?_,?_,by simp,fun b ai _=>List.getElem?_append_left ai,.inr (.inr (Nat.le_refl _)),by simp[bY]⟩
  ·unfold h0;rw[if_neg iT,if_neg (by omega)];simp only;rw[if_pos (by simpa using dy)]
  ·refine .ao _ _ _ _ _ xs.flatten _ (by simp) bF (by simpa using hm) kY (Nat.le_refl _) (by omega) ?_;rw[List.drop_zero,List.take_of_length_le (by omega)]; rfl
 | ao j off n cap sz cs es ai au aH aB al c3 cp=>
  subst aH;have oD:es.length*z<=cap*z:=Nat.mul_le_mul_right _ al;have tT:(es++xs).length=es.length+m:=by simp[hm]
  have fv:(es++xs).flatten=es.flatten++xs.flatten:=by simp
  have nj:es.flatten.length=es.length*z:=lk aB;have ou:h0 l z by_ (.ao z j off es.length cap sz) xs.flatten m =
    if es.length+m<=cap then some (.ao z j off (es.length+m) cap sz,l.set j (.cells sz (bS cs (off+es.length*z) xs.flatten)))
    else if off+cap*z<sz then some (.ao z l.length 0 (es.length+m) (es.length+m) ((es.length+m)*z),l++[.cells ((es.length+m)*z) (es.flatten++xs.flatten)])
    else if off=0 then some (.ao z j 0 (es.length+m) (es.length+m) ((es.length+m)*z),l.set j (.cells ((es.length+m)*z) (cs.take (es.length*z)++xs.flatten)))
    else some (.ao z l.length 0 (es.length+m) (es.length+m) ((es.length+m)*z),l.set j .dead++[.cells ((es.length+m)*z) (es.flatten++xs.flatten)]) :=by
   unfold h0;rw[if_neg iT,if_neg (by omega)];simp only[ai];rw[if_pos ⟨trivial,trivial,dy⟩];simp only[cp]
  rw[ou];have eR:=e9 ai;have l5:∀ eZ:av,eZ.length=l.length->ea z (eZ++[.cells ((es.length+m)*z) (es.flatten++xs.flatten)]) (.ao z l.length 0 (es.length+m) (es.length+m) ((es.length+m)*z)) l.length (es++xs) :=fun eZ tS=>by
   refine .ao _ _ _ _ _ (es.flatten++xs.flatten) _ (by rw[<-tS]; simp) (by simp[nj,bF,Nat.add_mul]) tT kY (Nat.le_refl _) (by omega) ?_;rw[fv,List.drop_zero,List.take_of_length_le (by simp[nj,bF,Nat.add_mul])]
  split
  ·rename_i h1;have JJ:(es.length+m)*z<=cap*z:=Nat.mul_le_mul_right _ h1;rw[Nat.add_mul] at JJ;refine⟨_,j,_,rfl,?_,by simp,fun b bP g1=>by rw[List.getElem?_set_ne (fun e=>(g1.resolve_left (by simp)) e.symm)],.inr (.inl ⟨by simp,rfl⟩),by simp⟩;refine .ao j off _ cap sz (bS cs (off+es.length*z) xs.flatten) _ (by rw[List.getElem?_set_self eR]) ?_ tT kY h1 c3 ?_
   ·rw[p1 (by omega)]; omega
   ·rw[fv];unfold bS;have aU:cs.take (off+es.length*z)=cs.take off++es.flatten:=by rw[List.take_add,cp]
    have at2:(cs.take off).length=off:=by rw[List.length_take]; omega
    rw[aU,List.append_assoc,List.append_assoc,List.drop_append_of_le_length (by omega),List.drop_of_length_le (by omega),List.nil_append,<-List.append_assoc,List.take_append_of_le_length (by simp[nj,bF,Nat.add_mul]),List.take_of_length_le (by simp[nj,bF,Nat.add_mul])]
  ·split
   ·exact⟨_,l.length,_,rfl,l5 l rfl,by simp,fun b bP _=>List.getElem?_append_left bP,.inr (.inr (Nat.le_refl _)),by simp⟩
   ·split
    ·rename_i xG;subst xG;rw[List.drop_zero] at cp;refine⟨_,j,_,rfl,?_,by simp,fun b bP g1=>by rw[List.getElem?_set_ne (fun e=>(g1.resolve_left (by simp)) e.symm)],.inr (.inl ⟨by simp,rfl⟩),by simp⟩;refine .ao j 0 _ _ _ (cs.take (es.length*z)++xs.flatten) _ (by rw[List.getElem?_set_self eR]) (by rw[cp]; simp[nj,bF,Nat.add_mul]) tT kY (Nat.le_refl _) (by omega) ?_;rw[cp,fv,List.drop_zero,List.take_of_length_le (by simp[nj,bF,Nat.add_mul])]
    ·refine⟨_,l.length,_,rfl,l5 _ (by simp),by simp,fun b bP g1=>?_,.inr (.inr (Nat.le_refl _)),by simp⟩;rw[List.getElem?_append_left (by simpa using bP),List.getElem?_set_ne (fun e=>(g1.resolve_left (by simp)) e.symm)]
theorem amY {pre rest l' : av} (h:∀ b,b<pre.length->l'[b]? = (pre++rest)[b]?) (au:pre.length<=l'.length) :∃ kA,l'=pre++kA:=by
 refine⟨l'.drop pre.length,?_⟩;apply List.ext_getElem?;intro i;by_cases aA:i<pre.length
 ·rw[h i aA,List.getElem?_append_left aA,List.getElem?_append_left aA]
 ·rw[List.getElem?_append_right (by omega),List.getElem?_drop]; congr 1; omega
theorem PE {by_:Nat} {pre rest:av} (h:ea z (pre++rest) v j es) (am:v=.aX\/pre.length<=j) {x:ae} {xs:List (List ae)} (aj:dv (pre++rest) z x=some (xs.flatten,xs.length)) (ly:∀ e∈xs,e.length=z) (aT:z≠0) (dO:by_≠0)
  (dy:(es.length+xs.length)*by_<=cT) :
  ∃ bf ct kA,iL (pre++rest) z by_ v x=some (bf,pre++kA)/\ea z (pre++kA) bf ct (es++xs)/\(bf=.aX\/pre.length<=ct)/\cU bf=(cU v&&xs.isEmpty) ∧
   (∀ b,b<(pre++rest).length->(v=.aX\/b≠j)->(pre++kA)[b]? = (pre++rest)[b]?)/\(bf=.aX\/(v≠.aX/\ct=j)\/(pre++rest).length<=ct) :=by
 obtain⟨bf,ct,l',h1,ag,ap,aJ,bd,bL⟩:=aeq h (by_:=by_) rfl ly aT dO dy;have np:pre.length<=(pre++rest).length:=by simp
 obtain⟨kA,rfl⟩:=amY (pre:=pre) (rest:=rest) (l':=l') (fun b ai=>aJ b (by omega) (by
  rcases am with h | h
  ·exact .inl h
  ·exact .inr (by omega))) (by omega)
 refine⟨bf,ct,kA,?_,ag,?_,sC bL,aJ,bd⟩
 ·unfold iL; rw[aj]; exact h1
 ·rcases bd with h | ⟨h,h'⟩ | h
  ·exact .inl h
  ·rcases am with am | am
   ·exact absurd am h
   ·exact .inr (by omega)
  ·exact .inr (by omega)
theorem ea.from (h:ea z l v j es) (ax:cU v=false) {k:IntKind} {i:Nat} (aA:i<=es.length) :∃ bf,fQ (.ao z) v (some (.int k (i:Int))) none none=some bf/\ea z l bf j (es.drop i)/\cU bf=false:=by
 cases h with
 | nil j=>simp[cU] at ax
 | ao j off n cap sz cs es ai au aH aB al c3 cp=>
  subst aH;have sn:i*z+(cap - i)*z=cap*z:=by rw[<-Nat.add_mul]; congr 1; omega
  have Vy:i*z+(es.length - i)*z=es.length*z:=by rw[<-Nat.add_mul]; congr 1; omega
  have du:es.length*z<=cap*z:=Nat.mul_le_mul_right _ al;have Wg:∀ e∈es.drop i,e.length=z:=fun e aw=>aB e (List.mem_of_mem_drop aw)
  have fv:(es.drop i).flatten=(es.flatten).drop (i*z) :=by
   have h1:es.flatten=(es.take i).flatten++(es.drop i).flatten:=by rw[<-List.flatten_append,List.take_append_drop]
   have ag:(es.take i).flatten.length=i*z:=by
    rw[lk (z:=z) (fun e aw=>aB e (List.mem_of_mem_take aw)),List.length_take];congr 1; omega
   rw[h1,<-ag,List.drop_left]
  rw[ws,P2,if_pos ⟨by omega,by omega⟩];simp only[Int.toNat_natCast,Option.map_some,Option.some.injEq,exists_eq_left'];by_cases fc:cap=i
  ·rw[if_pos fc];have aiz:es.drop i=[] :=List.drop_of_length_le (by omega);refine⟨?_,rfl⟩;rw[aiz];exact .ao j _ 0 0 sz cs [] ai au rfl (by simp) (Nat.le_refl _) (by omega) (by simp)
  ·rw[if_neg fc];refine⟨.ao j _ _ _ sz cs _ ai au (by simp) Wg (by omega) (by omega) ?_,rfl⟩;rw[fv,<-cp,List.drop_take,List.drop_drop];congr 1; omega
theorem ea.get (h:ea z l v j es) {k:IntKind} {i:Nat} {e:List ae} (aw:es[i]? = some e) :∃ p cs o,cS (.ao z) v (.int k (i:Int))=some p/\eC l p=some (cs,o)/\o+z<=cs.length/\(cs.drop o).take z=e:=by
 cases h with
 | nil j=>simp at aw
 | ao j off n cap sz cs es ai au aH aB al c3 cp=>
  subst aH;have aA:=(List.getElem?_eq_some_iff.1 aw).1;have h1:i*z+z<=es.length*z:=by rw[<-Nat.succ_mul]; exact Nat.mul_le_mul_right _ aA
  have ag:es.length*z<=cap*z:=Nat.mul_le_mul_right _ al;refine⟨.ptr j (off+i*z) sz,cs,off+i*z,?_,?_,by omega,?_⟩
  ·simp only[cS,Int.toNat_natCast];rw[if_pos ⟨trivial,by omega,by omega⟩]
  ·simp only[eC,ai,if_true]
  ·have aiC:=aB e (List.mem_of_getElem? aw);apply List.ext_getElem?;intro m;by_cases hm:m<z
   ·rw[List.getElem?_take_of_lt hm,List.getElem?_drop,<-Iv aB aw hm,<-cp,List.getElem?_take_of_lt (by omega),List.getElem?_drop];congr 1; omega
   ·rw[List.getElem?_eq_none (by simp; omega),List.getElem?_eq_none (by omega)]
theorem ea.En (h:ea z l v j es) (aI:∀ e∈es,kM e=true) :ji l v (rn z v es) :=by
 cases h with
 | nil j=>exact .flat _ rfl
 | ao j off n cap sz cs es ai au aH aB al c3 cp=>
  show ji l _ (.b0 z es);have oD:off+n*z<=cs.length:=by rw[au]; have:=Nat.mul_le_mul_right z al; omega
  refine .ao z j off n cap sz cs es ai aH aB (by omega) (fun i k e c c' aw hk de=>?_);have aA:i<es.length:=(List.getElem?_eq_some_iff.1 aw).1;have JA:k<z:=by rw[<-aB e (List.mem_of_getElem? aw)]; exact (List.getElem?_eq_some_iff.1 hk).1
  have aP:i*z+k<n*z:=by
   have:i*z+z<=es.length*z:=by rw[<-Nat.succ_mul]; exact Nat.mul_le_mul_right _ aA
   rw[aH] at this; omega
  have h1:es.flatten[i*z+k]? = some c':=w7 es aB i k e c' aw hk;rw[<-cp,List.getElem?_take_of_lt aP,List.getElem?_drop] at h1;rw[h1] at de;cases de;exact .flat _ (Cv (aI e (List.mem_of_getElem? aw)) k _ hk)
theorem ea.pW (h:ea z l v j es) (aI:∀ e∈es,bM e=true) :fy (b3 l) v (rn z v es) :=by
 cases h with
 | nil j=>exact .same _ rfl
 | ao j off n cap sz cs es ai au aH aB al c3 cp=>
  show fy (b3 l) _ (.b0 z es);have oD:off+n*z<=cs.length:=by rw[au]; have:=Nat.mul_le_mul_right z al; omega
  refine .ao z j off n cap sz cs es (mv.2 ai) aH aB (by omega) (fun i k e c c' aw hk de=>?_);have aA:i<es.length:=(List.getElem?_eq_some_iff.1 aw).1;have JA:k<z:=by rw[<-aB e (List.mem_of_getElem? aw)]; exact (List.getElem?_eq_some_iff.1 hk).1
  have aP:i*z+k<n*z:=by
   have:i*z+z<=es.length*z:=by rw[<-Nat.succ_mul]; exact Nat.mul_le_mul_right _ aA
   rw[aH] at this; omega
  have h1:es.flatten[i*z+k]? = some c':=w7 es aB i k e c' aw hk;rw[<-cp,List.getElem?_take_of_lt aP,List.getElem?_drop] at h1;rw[h1] at de;cases de;exact .same _ (zo (aI e (List.mem_of_getElem? aw)) k _ hk)
theorem ea.rd (h:ea z l v j es) (aI:∀ e∈es,bM e=true) :Rd l v (rn z v es) :=by
 cases h with
 | nil j=>exact .same _ rfl
 | ao j off n cap sz cs es ai au aH aB al c3 cp=>
  show Rd l _ (.b0 z es);have oD:off+n*z<=cs.length:=by rw[au]; have:=Nat.mul_le_mul_right z al; omega
  refine .ao z j off n cap sz cs es ai aH aB (by omega) (fun i k e c c' aw hk de=>?_);have aA:i<es.length:=(List.getElem?_eq_some_iff.1 aw).1;have JA:k<z:=by rw[<-aB e (List.mem_of_getElem? aw)]; exact (List.getElem?_eq_some_iff.1 hk).1
  have aP:i*z+k<n*z:=by
   have:i*z+z<=es.length*z:=by rw[<-Nat.succ_mul]; exact Nat.mul_le_mul_right _ aA
   rw[aH] at this; omega
  have h1:es.flatten[i*z+k]? = some c':=w7 es aB i k e c' aw hk;rw[<-cp,List.getElem?_take_of_lt aP,List.getElem?_drop] at h1;rw[h1] at de;cases de;exact .same _ (zo (aI e (List.mem_of_getElem? aw)) k _ hk)
theorem ea.rl {α:Type} {enc:α->List ae} {xs:List α} (h:ea z l v j (xs.map enc)) (aI:∀ x,bM (enc x)=true) (s:dk α) (ar:cU v=s.isNone) (aj:s.l=xs) :Rd l v (cO z enc s) :=by
 have h1:=h.rd (fun e aw=>by obtain⟨x,_,rfl⟩:=List.mem_map.1 aw; exact aI x);subst aj;unfold rn at h1;rw[ar] at h1;cases s with
 | none=>exact h1
 | some s=>exact h1
theorem ea.Bi {α:Type} {enc:α->List ae} {xs:List α} (h:ea z l v j (xs.map enc)) (aI:∀ x,kM (enc x)=true) (s:dk α) (ar:cU v=s.isNone) (aj:s.l=xs) :ji l v (cO z enc s) :=by
 have h1:=h.En (fun e aw=>by obtain⟨x,_,rfl⟩:=List.mem_map.1 aw; exact aI x);subst aj;unfold rn at h1;rw[ar] at h1;cases s with
 | none=>exact h1
 | some s=>exact h1
theorem ea.pX {α:Type} {enc:α->List ae} {xs:List α} (h:ea z l v j (xs.map enc)) (aI:∀ x,bM (enc x)=true) (s:dk α) (ar:cU v=s.isNone) (aj:s.l=xs) :fy (b3 l) v (cO z enc s) :=by
 have h1:=h.pW (fun e aw=>by obtain⟨x,_,rfl⟩:=List.mem_map.1 aw; exact aI x);subst aj;unfold rn at h1;rw[ar] at h1;cases s with
 | none=>exact h1
 | some s=>exact h1
end
theorem aeG {P:Program} {t:TypeId} {xs bl:List ae} {r:Bool} (az:P.eqGuardType P.depth t=false) (h:ej P 10000 t (.aV xs) (.aV bl)=some r) :gc P .eql t (.aV xs) (.aV bl)=some (.bool r) :=by
 simp only[gc,vg,az,Bool.not_false,if_true,h]; rfl
theorem aeH {P:Program} {t:TypeId} {xs bl:List ae} {r:Bool} (az:P.eqGuardType P.depth t=false) (h:ej P 10000 t (.aV xs) (.aV bl)=some r) :gc P .neq t (.aV xs) (.aV bl)=some (.bool (!r)) :=by
 simp only[gc,vg,az,Bool.not_false,if_true,h]; rfl
end Go.cn

namespace Go.cn
open Go Go.ChangeShapes Go.RowKit
theorem amN (k:Nat) :¬ kG aQ.empty (fun _=>none) k:=by
 rintro⟨b,m,au,_,_⟩;simp[aQ.empty,aQ.f,live,cD.get] at au
theorem ahc {H:Type} {enc:TypeId × Value->H} {P:Program} {w:World} {base:Nat} {spare:Nat->Bool} {held:Bool} {fuel:Nat} {Yi:String} {g t e n:Nat} {cs:Array Value} {x:DataW H × List MemPlace} (bV:List Int)
  (az:P.globalNamed Yi=some g) (ax:w.var? P Yi=some cs) (aM:P.underlying t=some (.array n e)) (aw:P.underlying e=some (.int .u32)) (al:P.cellsOf e=1) (bN:DataW.trod enc P w base spare held fuel t cs.toList=some x)
  (aj:x.1=.agg (bV.map fun k=>.lit (.int .u32 k))) :e7 w (fun _=>True) (.cq (bV.map fun k=>.int .u32 k) 0) (.pointer (some ⟨g,0,none⟩)) :=by
 obtain⟨xs,m,rfl,x1,bA,aH,aiB⟩:=DataW.trod_array aM bN;rw[x1] at aj;simp only[DataW.agg.injEq] at aj;have tR:bV.length=n:=by have:=congrArg List.length aj; simp at this; omega
 have lo:∀ j k,bV[j]? = some k->w.cell? ⟨g,j,none⟩=some (.int .u32 k) :=by
  intro j k am;have lr:j<n:=by have:=(List.getElem?_eq_some_iff.1 am).1; omega
  have h1:=aiB j lr;rw[al,Nat.mul_one] at h1;have Vi:j<xs.length:=by omega
  rw[List.getElem?_eq_getElem Vi] at h1;obtain⟨k',aZ,b4,_⟩:=DataW.trod_int aw h1;have ap:=congrArg (fun l=>l[j]?) aj;simp only[List.getElem?_map,List.getElem?_eq_getElem Vi,am,Option.map_some,Option.some.injEq] at ap;rw[b4] at ap;have nn:k'=k:=by simpa using ap
  subst nn;have aJ:=World.var?_cell az ax j;rw[aJ];have bd:(cs.toList.drop j)[0]? = some (Value.int .u32 k') :=by
   have:((cs.toList.drop j).take 1)[0]? = some (Value.int .u32 k') :=by rw[aZ]; rfl
   rw[List.getElem?_take] at this;simpa using this
  rw[List.getElem?_drop] at bd;simpa using bd
 refine .cq _ 0 g 0 (fun j=>.int .u32 (bV.getD j 0)) (fun j am=>?_) (fun j c am=>?_)
 ·rw[List.length_map] at am;refine⟨?_,rfl,trivial,amN g⟩;rw[Nat.zero_add,lo j bV[j] (List.getElem?_eq_getElem am),List.getD_eq_getElem?_getD,List.getElem?_eq_getElem am];rfl
 ·rw[List.getElem?_map] at am;cases hk:bV[j]? with
  | none=>rw[hk] at am; cases am
  | some k=>
   rw[hk] at am;cases am;rw[List.getD_eq_getElem?_getD,hk];exact .int _ _
theorem ac0 {H:Type} {enc:TypeId × Value->H} {P:Program} {w:World} {base:Nat} {spare:Nat->Bool} {held:Bool}:∀ {ts:List TypeId} {vs:List Value} {hq:List (DataW H)} {cH:List MemPlace},
  DataW.TrodAll enc P w base spare held ts vs hq cH->hq.length=ts.length
 | [],vs,hq,cH,h=>by obtain⟨rfl,rfl,rfl⟩:=trodAll_nil h; rfl
 | t::ts,vs,hq,cH,h=>by
  obtain⟨v,aqk,d,agn,a,b,rfl,rfl,rfl,h1,ag⟩:=trodAll_cons h;simp[ac0 ag]
end Go.cn

namespace Go.cn
open Go
def sQ:List (FuncId × Bool × (List ae->Option ae))->n2
 | [],_=>none
 | e::r,f=>match Nat.beq f e.1 with | true=>some e.2 | false=>sQ r f
abbrev rE (P:Program) (G:Nat->ae) (e:FuncId × Bool × (List ae->Option ae)) :Prop:=∀ args r,e.2.2 args=some r->bR P G e.1 args r/\(e.2.1=true->iI P G e.1 args r)
theorem wi {P:Program} {G:Nat->ae}:∀ {l:List (FuncId × Bool × (List ae->Option ae))},(∀ e∈l,rE P G e)->wH P G (sQ l)
 | [],_,f,n,g,args,r,aI,_=>by cases aI
 | e::l,h,f,n,g,args,r,aI,az=>by
  unfold sQ at aI;split at aI
  ·rename_i ai;have:=Nat.eq_of_beq_eq_true ai;subst this;have aw:e.2=(n,g) :=Option.some.inj aI;have:=h e (by simp) args r (by rw[aw]; exact az);rw[aw] at this;exact this
  ·exact wi (fun x aj=>h x (by simp[aj])) f n g args r aI az
def mW (P:Program) (G:Nat->ae) :List (FuncId × Bool × (List ae->Option ae))->Prop
 | []=>True
 | e::r=>rE P G e/\mW P G r
theorem mW.mem {P:Program} {G:Nat->ae}:∀ {l:List (FuncId × Bool × (List ae->Option ae))},mW P G l->∀ e∈l,rE P G e
 | e::l,h,x,aj=>by
  rcases List.mem_cons.1 aj with rfl | aj
  ·exact h.1
  ·exact mW.mem h.2 x aj
theorem wL {P:Program} {G:Nat->ae}:mW P G [] :=trivial
theorem oa {P:Program} {G:Nat->ae} {e:FuncId × Bool × (List ae->Option ae)} {l:List (FuncId × Bool × (List ae->Option ae))} (h:rE P G e) (ag:mW P G l) :mW P G (e::l) :=⟨h,ag⟩
def A8:List (List ae × ae)->List ae->Option ae
 | [],_=>none
 | e::r,args=>match e8 args e.1 with | true=>some e.2 | false=>A8 r args
def yS (P:Program) (G:Nat->ae) (f:FuncId) :List (List ae × ae)->Prop
 | []=>True
 | e::r=>iI P G f e.1 e.2/\yS P G f r
theorem Py {P:Program} {G:Nat->ae} {f:FuncId}:yS P G f [] :=trivial
theorem y7 {P:Program} {G:Nat->ae} {f:FuncId} {a:List ae} {r:ae} {l:List (List ae × ae)} (h:iI P G f a r) (ag:yS P G f l) :yS P G f ((a,r) ::l) :=⟨h,ag⟩
theorem Lv {P:Program} {G:Nat->ae} {f:FuncId}:∀ {l:List (List ae × ae)},yS P G f l->rE P G (f,true,A8 l)
 | [],_,args,r,h=>by cases h
 | e::l,hk,args,r,h=>by
  simp only[A8] at h;split at h
  ·rename_i ai;cases h;rw[rM ai];exact⟨hk.1.yK,fun _=>hk.1⟩
  ·exact Lv hk.2 args r h
def da (l:List Nat) :List ae:=l.map fun n=>.int .u8 (.ofNat n)
def nC (n:Int) :ae:=.int .i64 n
def gO (l:List ae) :List (List ae) :=l.map fun c=>[c]
end Go.cn

namespace Go.cn
open Go Go.Proofs Go.Shelf Go.Sort Go.RowKit
def yp:ae->Bool | .bool _=>true | .int _ _=>true | .str _=>true | _=>false
def valOf:ae->Value | .bool b=>.bool b | .int k n=>.int k n | .str s=>.string ⟨s.toArray⟩ | _=>.bool false
theorem aqi {w:World} {R:Nat->Prop} {h:aQ} {μ:cJ} {c:ae} {v:Value} (aE:yp c=true) (ax:aR w R h μ c v) :v=valOf c:=by
 cases ax with
 | bool b=>rfl
 | int k n=>rfl
 | str bs=>obtain⟨⟨l⟩⟩:=bs; rfl
 | bad=>cases aE
 | _=>cases aE
theorem YK {w:World} {R:Nat->Prop} {h:aQ} {μ:cJ} {c:ae} (aE:yp c=true) :aR w R h μ c (valOf c) :=by
 cases c with
 | bool b=>exact .bool b
 | int k n=>exact .int k n
 | str s=>exact (.str ⟨s.toArray⟩:aR w R h μ (.str (ByteArray.mk s.toArray).data.toList) _)
 | _=>cases aE
theorem O4 (c:ae) :(valOf c).oneCell'=true:=by cases c<;>rfl
theorem afF {w W:World} {b o:Nat} (h:W.heap[b]? = w.heap[b]?) :W.cell? ⟨b,o,none⟩=w.cell? ⟨b,o,none⟩:=by simp[World.cell?,h]
theorem afG {w:World} {b o:Nat} {v:Value} (h:w.cell? ⟨b,o,none⟩=some v) :b<w.heap.size:=by
 apply Decidable.byContradiction;intro aH;simp only[World.cell?] at h;rw[Array.getElem?_eq_none (by omega)] at h;cases h
theorem aqh {w W:World} {A:Nat->Prop} (c2:∀ k,A k->k<w.heap.size->W.heap[k]? = w.heap[k]?) {c:ae} {v:Value} (ax:e7 w A c v) :e7 W A c v:=by
 unfold e7 at ax ⊢;generalize aN:aQ.empty=aT at ax ⊢;generalize hm:(fun _=>none:cJ)=p8 at ax ⊢;have ql:∀ {b o:Nat} {v:Value},Cell w A aT p8 b o v->Cell W A aT p8 b o v:=fun {b o v} k=>⟨(afF (c2 b k.ro (afG k.here))).trans k.here,k.one,k.ro,k.free⟩
 induction ax with
 | bool b=>exact .bool b
 | int k n=>exact .int k n
 | str bs=>exact .str bs
 | iD=>exact .iD
 | aX=>exact .aX
 | g6=>exact .g6
 | ie=>exact .ie
 | iC=>exact .iC
 | aV cs vs au h1 ax aL=>exact .aV cs vs au h1 aL
 | bU cs vs au ax aL=>exact .bU cs vs au aL
 | ptr b off sz cs m ai hS=>subst hm; cases hS
 | lC b off sz a az=>exact .lC b off sz a az
 | cq cs off blk o dS al ax aL=>exact .cq cs off blk o dS (fun j am=>ql (al j am)) aL
 | ao z b off len cap sz cap' cs m ai hS au ay al=>subst hm; cases hS
 | fZ z b off len cap sz cap' a au al az=>exact .fZ z b off len cap sz cap' a au al az
 | hi z b off sz a cs m ai hS=>subst hm; cases hS
 | b0 z es blk off cap dS au aB al ax aL=>exact .b0 z es blk off cap dS au aB (fun i j aA am=>ql (al i j aA am)) aL
 | fo z a cap=>exact .fo z a cap
 | fn f first ft fs cs aI al h1 ag dY k0=>exact .fn f first ft fs cs aI al dY k0
 | mp b m ai hS=>subst hm; cases hS
 | it b m ai hS=>subst hm; cases hS
 | gg t c v ax aL=>exact .gg t c v aL
 | la l=>exact .la l
 | bad v=>exact .bad v
theorem aeM {W w' : World} (h:wE W w') :∃ q os,w'=grow (W.drewN q) os:=by
 refine⟨w'.drawn - W.drawn,w'.heap.extract W.heap.size,?_⟩;have bN:=h.drawn;have ar:=h.size;obtain⟨C5,apB,Ie,Lo,amD⟩:=w';obtain⟨heap,tape,drawn,os,out⟩:=W;have aZ:Lo=os:=h.os;have b4:apB=tape:=h.tape;have dC:amD=out:=h.output;subst aZ b4 dC;have lR:C5=heap++C5.extract heap.size:=by
  apply Array.ext_getElem?;intro k;rw[Array.getElem?_append];split
  ·rename_i hk;exact h.block k hk
  ·rename_i hk;rw[Array.getElem?_extract];have l7:heap.size<=C5.size:=ar;by_cases nm:k<C5.size
   ·rw[if_pos (by omega),show heap.size+(k - heap.size)=k by omega]
   ·rw[if_neg (by omega),Array.getElem?_eq_none (by omega)]
 have Ij:Ie=drawn+(Ie - drawn) :=by
  have:drawn<=Ie:=bN;omega
 unfold grow World.drewN;simp only;rw[<-lR,<-Ij]
def E7 (P:Program) (f g:FuncId) (k:Nat) {X:Type} [Inhabited X] (ey:X->List Value) (hn:X->X->Int) :Prop:=
 ∀ (blk off cap:Nat) (d:Array X) (w:World),CmpLays P g #[] ey k hn blk off d.size w->HoldsK ey k w blk off d->blk<w.heap.size->d.size<4611686018427387904->
  Calls P f #[.slice (some ⟨blk,off,none⟩) d.size cap,.func (.func g) #[] #[]] w fun e w'=>e=.returned (.tuple #[])/\∃ pg n os,PermIn 0 d.size d pg/\SortedIn (ltOf hn) 0 d.size pg/\w'=sortWorldK ey k w blk off n pg os
def sorted {X:Type} (hn:X->X->Int) (xs:List X) :List X:=xs.mergeSort fun x y=>!ltOf hn y x
theorem acy {X:Type} (hn:X->X->Int) (xs:List X) :(sorted hn xs).length=xs.length:=List.length_mergeSort _
section
variable {P:Program} {G:Nat->ae} {X:Type} {enc:X->List ae} {k:Nat}
theorem Bp (hk:∀ x,(enc x).length=k) (xs:List X) {j:Nat} (am:j<xs.length*k) :∃ x c,xs[j / k]? = some x/\(enc x)[j % k]? = some c/\((xs.map enc).flatten)[j]? = some c:=by
 have si:0<k:=Nat.pos_of_ne_zero fun h=>by subst h; simp at am
 have h1:j / k<xs.length:=Nat.div_lt_of_lt_mul (by rw[Nat.mul_comm]; exact am);have ag:j % k<k:=Nat.mod_lt _ si;refine⟨xs[j / k],(enc xs[j / k])[j % k]'(by rw[hk]; exact ag),List.getElem?_eq_getElem h1,List.getElem?_eq_getElem _,?_⟩;have ap:(xs.map enc)[j / k]? = some (enc xs[j / k]) :=by rw[List.getElem?_map,List.getElem?_eq_getElem h1]; rfl
 have aJ:=Iv (z:=k) (fun e aw=>by obtain⟨x,_,rfl⟩:=List.mem_map.1 aw; exact hk x) ap ag;rw[Nat.mul_comm,Nat.div_add_mod] at aJ;rw[aJ];exact List.getElem?_eq_getElem _
theorem TK [Inhabited X] (hk:∀ x,(enc x).length=k) (xs:List X) {j:Nat} (am:j<xs.length*k) {c:ae} (al:((xs.map enc).flatten)[j]? = some c) :(flatK (fun x=>(enc x).map valOf) k xs.toArray)[j]! = valOf c:=by
 obtain⟨x,c',h1,ag,ap⟩:=Bp hk xs am;rw[ap] at al; cases al;rw[get_flatK _ _ _ _ (by simpa using am)];have aJ:xs.toArray[j / k]! = x:=by
  have aP:=(List.getElem?_eq_some_iff.1 h1).1;rw[getElem!_pos _ _ (by simpa using aP)];simpa using (List.getElem?_eq_some_iff.1 h1).2
 rw[aJ];obtain⟨bd,bL⟩:=List.getElem?_eq_some_iff.1 ag;rw[getElem!_pos _ _ (by simpa using bd)];simp[bL]
theorem ao9 [Inhabited X] {f g b off len cap sz:Nat} {cs:List ae} {xs:List X} {h:aQ} (hn:X->X->Int) (gx:E7 P f g k (fun x=>(enc x).map valOf) hn) (fq:SWO (ltOf hn)) (I6:∀ x y,ltOf hn x y=false->ltOf hn y x=false->x=y)
  (hk:∀ x,(enc x).length=k) (aE:∀ x,∀ c∈enc x,yp c=true) (sb:∀ x y,bR P G g [.aV (enc x),.aV (enc y)] (.int .i64 (hn x y)))
  (ai:h.f b=.cells sz cs) (bA:xs.length=len) (h1:0<len) (qy:len<4611686018427387904) (cp:(cs.drop off).take (len*k)=(xs.map enc).flatten) (eA:off+len*k<=sz) :
  rz P G f [.ao k b off len cap sz,.fn g [] []] h (.bU []) (h.set b (.cells sz (bS cs off ((sorted hn xs).map enc).flatten))) :=by
 intro R B w μ vs rel CA au ax;obtain⟨mT⟩:=vs
 match mT,au with
 | [v0,fR],_=>
 have h9:=ax 0 _ v0 rfl rfl;have lw:=ax 1 _ fR rfl rfl;have akb:¬ s7 h b sz:=by
  rintro (aT | ⟨n,mC,aT,ag⟩)
  ·rw[ai] at aT; cases aT
  ·rw[ai] at aT; cases aT; omega
 cases lw with
 | fn _ _ _ fs rS aI al _ _=>
 have lp:fs=#[] :=Array.eq_empty_of_size_eq_zero aI;have kj:rS=#[] :=Array.eq_empty_of_size_eq_zero al;subst lp kj;cases h9 with
 | fZ _ _ _ _ _ _ _ _ _ _ az=>exact absurd az akb
 | hi=>omega
 | ao _ _ _ _ _ _ cap' mC m jU hm kV ay de=>
 rw[ai] at jU; cases jU;have hblk:=rel.blk b m hm;rw[ai] at hblk;obtain⟨ez,dP,arr,e,fA,aC,dt,kU,ix⟩:=hblk;have jW:live (h.f b)=true:=by rw[ai]; rfl
 have h8:kG h μ m.r:=⟨b,m,jW,hm,rfl⟩
 have JI:=rel.lt jW hm;have nn:∀ j,j<len*k->∃ c,((xs.map enc).flatten)[j]? = some c/\cs[off+j]? = some c/\yp c=true:=by
  intro j am;obtain⟨x,c,aY,a2,bh⟩:=Bp hk xs (by rw[bA]; exact am);refine⟨c,bh,?_,aE x c (List.mem_of_getElem? a2)⟩;rw[<-cp,List.getElem?_take_of_lt am,List.getElem?_drop] at bh;exact bh
 have hH:HoldsK (fun x=>(enc x).map valOf) k w m.r (m.s+off) xs.toArray:=by
  intro j am;rw[size_flatK] at am;have eo:j<len*k:=by simpa [bA] using am
  obtain⟨c,aY,a2,bh⟩:=nn j eo;obtain⟨v,bK,bw,cl⟩:=ix (off+j) c a2;have aP:m.s+off+j<arr.size:=by
   have:=(Array.getElem?_eq_some_iff.1 bK).1;omega
  constructor
  ·simp only[World.cell?,aC,Option.isSome_none];rw[TK hk xs (by rw[bA]; exact eo) aY,<-aqi bh cl,Nat.add_assoc];exact bK
  ·simp only[World.frozen?,aC];rcases kU with aT | aT
   ·subst aT; simp
   ·simp; intro ap; omega
 have ail:CmpLays P g #[] (fun x=>(enc x).map valOf) k hn m.r (m.s+off) xs.toArray.size w:=by
  intro n os agd xq x y;obtain⟨W,fa⟩:∃ W,W=sortWorldK (fun x=>(enc x).map valOf) k w m.r (m.s+off) n agd os:=⟨_,rfl⟩
  have ahT:∀ i,i≠m.r->i<w.heap.size->W.heap[i]? = w.heap[i]?:=by
   intro i aA aP;rw[fa];show (((w.heap.modify m.r _)++os))[i]? = _;rw[Array.getElem?_append_left (by simpa using aP),Array.getElem?_modify,if_neg (fun h=>aA h.symm)]
  rw[<-fa];have c2:∀ i,(R i/\¬ kG h μ i)->i<w.heap.size->W.heap[i]? = w.heap[i]?:=fun i aA aP=>ahT i (fun aw=>aA.2 (by rw[aw]; exact h8)) aP
  have key:=sb x y W (fun i=>R i/\¬ kG h μ i) #[.agg ((enc x).map valOf).toArray,.agg ((enc y).map valOf).toArray] (fun Uc=>aqh c2 (u9 (CA Uc).2 (CA Uc).1)) rfl (fun j c v am e2=>by
   have one:∀ z:X,e7 W (fun i=>R i/\¬ kG h μ i) (.aV (enc z)) (.agg ((enc z).map valOf).toArray) :=fun z=>by
    refine .aV _ _ (by simp) (fun i v aA=>?_) (fun i c v aA Vf=>?_)
    ·simp only[List.getElem?_toArray,List.getElem?_map,Option.map_eq_some_iff] at aA;obtain⟨c,_,rfl⟩:=aA;exact O4 c
    ·simp only[List.getElem?_toArray,List.getElem?_map,Option.map_eq_some_iff] at Vf;obtain⟨c',ap,rfl⟩:=Vf;rw[aA] at ap; cases ap;exact YK (aE z c (List.mem_of_getElem? aA))
   match j with
   | 0=>simp at am e2; subst am e2; exact one x
   | 1=>simp at am e2; subst am e2; exact one y
   | j+2=>simp at am)
  refine key.mono ?_;rintro e w' ⟨v,rfl,fh,kr⟩;obtain⟨q,Lo,rfl⟩:=aeM fh;cases kr;exact⟨rfl,q,Lo,rfl⟩
 have ln:=gx m.r (m.s+off) cap' xs.toArray w ail hH JI (by simpa [bA] using qy);have oK:((xs.toArray.size:Nat) :Int)=(len:Int) :=by simp[bA]
 rw[show (xs.toArray.size)=len by simp[bA]] at ln;refine ln.mono ?_;rintro e0 w' ⟨rfl,pg,n,os,qA,lm,rfl⟩;have ow:pg.toList=sorted hn xs:=by
  have:=sorted_unique_holds fq I6 xs.toArray pg (by simpa [bA] using qA) (by simpa [bA] using lm);simpa [sorted] using this
 obtain⟨bl,AB⟩:∃ bl,bl=sorted hn xs:=⟨_,rfl⟩
 rw[<-AB] at ow ⊢;have ds:bl.length=len:=by rw[AB,acy,bA]
 have Jf:pg=bl.toArray:=by rw[<-ow]
 subst Jf;have fv:((bl.map enc).flatten).length=len*k:=by
  have:∀ l:List X,((l.map enc).flatten).length=l.length*k:=fun l=>by
   induction l with
   | nil=>simp
   | cons a l aL=>simp only[List.map_cons,List.flatten_cons,List.length_append,aL,hk,List.length_cons]; rw[Nat.succ_mul]; omega
  rw[this,ds]
 obtain⟨cb,js⟩:∃ cb,cb=putRowK (fun x=>(enc x).map valOf) k (Sort.ahead w n) m.r (m.s+off) bl.toArray:=⟨_,rfl⟩
 have i8:cb.heap=w.heap.modify m.r (onCells (putCells id (m.s+off) (flatK (fun x=>(enc x).map valOf) k bl.toArray))) :=by rw[js]; rfl
 have C2:off<=cs.length:=by omega
 obtain⟨ex,oU⟩:=rel.write (w':=cb) (sz':=sz) (cs':=bS cs off ((bl.map enc).flatten)) (arr':=putCells id (m.s+off) (flatK (fun x=>(enc x).map valOf) k bl.toArray) arr) ai hm aC dt kU (by rw[js]; rfl) (by rw[js]; rfl) (by rw[js]; rfl) (by rw[i8]; simp)
  (by rw[i8,Array.getElem?_modify,if_pos rfl,aC]; rfl) (fun i aA=>by rw[i8,Array.getElem?_modify,if_neg (fun h=>aA h.symm)]) (by simp[putCells])
  (by rw[p1 C2,fv]; omega) (Nat.le_refl _) dP (fun j c am=>by
   rw[OC C2,fv] at am;have eQ:(putCells id (m.s+off) (flatK (fun x=>(enc x).map valOf) k bl.toArray) arr)[m.s+j]? = (arr[m.s+j]?).map fun x=>if m.s+off<=m.s+j/\m.s+j<m.s+off+(flatK (fun x=>(enc x).map valOf) k bl.toArray).size then (flatK (fun x=>(enc x).map valOf) k bl.toArray)[m.s+j - (m.s+off)]! else x:=by
    unfold putCells; rw[Array.getElem?_mapIdx]; rfl
   rw[size_flatK] at eQ;by_cases De:j<off
   ·rw[if_pos De] at am;obtain⟨v,bK,bw,cl⟩:=ix j c am;refine⟨v,?_,bw,cl⟩;rw[eQ,bK,Option.map_some,if_neg (by omega)]
   ·rw[if_neg De] at am;by_cases oz:j<off+len*k
    ·rw[if_pos oz] at am;have eR:j - off<len*k:=by omega
     obtain⟨u6,aY,a2,bh⟩:=nn (j - off) eR;rw[show off+(j - off)=j by omega] at a2;obtain⟨v,bK,bw,cl⟩:=ix j u6 a2;obtain⟨x,cX,aZ,b4,dC⟩:=Bp hk bl (j:=j - off) (by rw[ds]; exact eR);rw[dC] at am; cases am;refine⟨valOf c,?_,O4 c,YK (aE x c (List.mem_of_getElem? b4))⟩;rw[eQ,bK,Option.map_some,if_pos (by simp[ds]; omega),show m.s+j - (m.s+off)=j - off by omega,TK hk bl (by rw[ds]; exact eR) dC]
    ·rw[if_neg oz] at am;obtain⟨v,bK,bw,cl⟩:=ix j c am;refine⟨v,?_,bw,cl⟩;rw[eQ,bK,Option.map_some,if_neg (by simp[ds]; omega)]) (by rw[js]; exact Nat.le_add_right _ _)
 have I9:wE cb (grow cb os) :=⟨⟨rfl,rfl,rfl,by simp[grow],fun i aA=>by simp only[grow]; rw[Array.getElem?_append_left aA]⟩,Nat.le_refl _⟩
 obtain⟨tB,rm⟩:=Bm oU I9;refine⟨_,μ,rfl,?_,?_,.bU [] #[] rfl (fun j c v am _=>by simp at am)⟩
 ·rw[js] at ex tB; exact ex.trans tB
 ·rw[js] at rm; exact rm
end
section
variable {P:Program} {G:Nat->ae} {X:Type} {enc:X->List ae} {k:Nat}
theorem acd {k:Nat}:∀ {es:List (List ae)},(∀ e∈es,e.length=k)->es.flatten.length=es.length*k
 | [],_=>by simp
 | e::es,h=>by
  rw[List.flatten_cons,List.length_append,h e (by simp),acd (fun x aj=>h x (by simp[aj])),List.length_cons,Nat.succ_mul]; omega
theorem ao5 [Inhabited X] {f g:Nat} (hn:X->X->Int) (gx:E7 P f g k (fun x=>(enc x).map valOf) hn) (fq:SWO (ltOf hn)) (I6:∀ x y,ltOf hn x y=false->ltOf hn y x=false->x=y)
  (hk:∀ x,(enc x).length=k) (aE:∀ x,∀ c∈enc x,yp c=true) (sb:∀ x y,bR P G g [.aV (enc x),.aV (enc y)] (.int .i64 (hn x y)))
  {l:av} {v:ae} {j:Nat} {xs:List X} (h8:ea k l v j (xs.map enc)) (qy:xs.length<4611686018427387904) {K:ae->av->Prop}
  (aT:xs=[]->dh P G f [v,.fn g [] []] l (c:=⟨K⟩))
  (a8:∀ l',l'.length=l.length->(∀ b,b≠j->l'[b]? = l[b]?)->ea k l' v j ((sorted hn xs).map enc)->K (.bU []) l') :dh P G f [v,.fn g [] []] l (c:=⟨K⟩) :=by
 cases xs with
 | nil=>exact aT rfl
 | cons x xs=>
 obtain⟨bl,AB⟩:∃ bl,bl=x::xs:=⟨_,rfl⟩
 rw[<-AB] at h8 qy a8;have j0:0<bl.length:=by rw[AB]; simp
 generalize iS:bl.map enc=es at h8;cases h8 with
 | nil j=>rw[List.map_eq_nil_iff] at iS; rw[iS] at j0; simp at j0
 | ao j off n cap sz cs es ai au aH aB al c3 cp=>
 subst iS;have qK:bl.length=n:=by simpa using aH
 have du:n*k<=cap*k:=Nat.mul_le_mul_right _ al;have eR:j<l.length:=(List.getElem?_eq_some_iff.1 ai).1;have ar:=ao9 (P:=P) (G:=G) (cap:=cap) hn gx fq I6 hk aE sb (h:=b3 l) (mv.2 ai) qK (by omega) (by omega) cp (by omega);rw[m0 _ eR] at ar;refine⟨_,_,.ext ar,by simp,?_⟩;have eT:((sorted hn bl).map enc).length=n:=by rw[List.length_map,acy,qK]
 have cF:∀ e∈(sorted hn bl).map enc,e.length=k:=fun e aw=>by obtain⟨x,_,rfl⟩:=List.mem_map.1 aw; exact hk x
 have fv:(((sorted hn bl).map enc).flatten).length=n*k:=by rw[acd cF,eT]
 have C2:off<=cs.length:=by omega
 refine a8 _ (by simp) (fun b g1=>by rw[List.getElem?_set_ne (fun h=>g1 h.symm)]) ?_;refine .ao j off n cap sz _ _ (List.getElem?_set_self eR) (by rw[p1 C2,fv]; omega) eT cF al c3 ?_;unfold bS;have h1:(List.take off cs).length=off:=by rw[List.length_take]; omega
 rw[List.append_assoc,List.drop_append_of_le_length (by omega),List.drop_of_length_le (by omega),List.nil_append,List.take_append_of_le_length (by omega),List.take_of_length_le (by omega)]
end
end Go.cn

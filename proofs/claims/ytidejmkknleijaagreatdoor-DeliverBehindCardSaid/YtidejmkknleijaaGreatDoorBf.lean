/-
  The canonical machine, carried out on code without types (for calls without unknowns).
-/
import Derived.Test.YtidejmkknleijaaGreatDoorBe
import Derived.OpenShut
import Derived.Shelf.SlSortCmp.InsertionK
import Derived.Sort.LotA
set_option linter.unusedVariables false
set_option linter.unusedSimpArgs false
set_option linter.unnecessarySimpa false
namespace Go.b0
open Go
def Yw (n:Nat) (h:aN) (p v:U) :Option aN:=
 match p,v.cells with
 | .ptr b off sz,some vs=>match h.f b with
  | .cells m cs=>if m=sz/\vs.length=n/\off+n<=m then some (h.set b (.cells m (a8 cs off vs))) else none
  | _=>none
 | _,_=>none
def FE (h:aN) (z by_:Nat) (s:U) (xs:List U) (n:Nat) :Option (U × aN) :=
 if n=0 then (match s with | .aH | .aZ .. | .aq ..=>some (s,h) | _=>none)
 else if z=0\/by_=0 then none else match s with
  | .aH=>if n*by_<=cw then some (.aq z h.n 0 n n (n*z),h.push (.cells (n*z) xs)) else none
  | .aq dF b off len cap sz=>match h.f b with
   | .cells m cs=>
    if m=sz/\z=dF/\(len+n)*by_<=cw then
     if len+n<=cap then some (.aq z b off (len+n) cap sz,h.set b (.cells m (a8 cs (off+len*z) xs)))
     else if off+cap*z<sz then some (.aq z h.n 0 (len+n) (len+n) ((len+n)*z),h.push (.cells ((len+n)*z) ((cs.drop off).take (len*z)++xs)))
     else if off=0 then some (.aq z b 0 (len+n) (len+n) ((len+n)*z),h.set b (.cells ((len+n)*z) (cs.take (len*z)++xs)))
     else some (.aq z h.n 0 (len+n) (len+n) ((len+n)*z),(h.set b .dead).push (.cells ((len+n)*z) ((cs.drop off).take (len*z)++xs)))
    else none
   | _=>none
  | _=>none
def R8 (z:Nat) (h:aN) (d x:U) :Option (U × aN) :=
 match contents h z x with
 | none=>none
 | some (xs,n)=>match d with
  | .aH=>some (.int .i64 0,h)
  | .aq dF b off len _ sz=>match h.f b with
   | .cells m cs=>if m=sz/\z=dF then some (.int .i64 ((min n len:Nat) :Int),h.set b (.cells m (a8 cs off (xs.take (min n len*z))))) else none
   | _=>none
  | _=>none
def RR (zero:List U) (h:aN) :U->Option aN
 | .aH=>some h
 | .aZ _ []=>some h
 | .aq z b off len _ sz=>if len=0 then some h else match h.f b with
  | .cells m cs=>if m=sz/\zero.length=z then some (h.set b (.cells m (a8 cs off (dC zero len)))) else none
  | _=>none
 | _=>none
def Wp (z by_:Nat) (zero:List U) (h:aN) (l c:U) :Option (U × aN) :=match l,c with
 | .int _ l,.int _ c=>if 0<=l/\l<=c/\c<9223372036854775808/\by_*c<=cw then
   some (.aq z h.n 0 l.toNat c.toNat (c.toNat*z),h.push (.cells (c.toNat*z) (dC zero c.toNat))) else none
 | _,_=>none
def RL (h:aN) (x:U) :Option U:=match x with
 | .aH=>some (.str [])
 | .str _=>none
 | x=>match contents h 1 x with | some (cs,_)=>(nv cs).map .str | none=>none
def Ps (h:aN) (z by_:Nat) (s x:U) :Option (U × aN) :=match contents h z x with
 | none=>none
 | some (xs,n)=>FE h z by_ s xs n
def Pu (h:aN) (z by_:Nat) (zero:List U) (s x:U) :Option (U × aN) :=match x with
 | .int _ n=>if 0<=n/\n<9223372036854775808/\n.toNat*by_<=cw then FE h z by_ s (dC zero n.toNat) n.toNat else none
 | _=>none
def RY (h:aN) (x y:U) :Option U:=match sr h x,sr h y with
 | some a,some b=>some (.int .i64 (ol a b))
 | _,_=>none
def XA (h:aN) (x:U) :Option (U × aN) :=match x with
 | .str s=>some (.it h.n,h.push (.iter s 0))
 | _=>none
def V3 (h:aN) (x:U) :Option U:=match x with
 | .iQ=>some (.int .i64 0)
 | .mp b=>match h.f b with | .map es _=>some (.int .i64 es.length) | _=>none
 | _=>none
def V9 (P:Program) (h:aN) (cP:TypeId) (zero:U) (ok:Bool) (m k:U) :Option U:=
 match mapOf h m with
 | some es=>match l4 P cP k with
  | false=>none
  | true=>match lf P cP k es 0 with
   | some (some (_,v))=>some (if ok then .bt [v,.bool true] else v)
   | some none=>some (if ok then .bt [zero,.bool false] else zero)
   | none=>none
 | none=>none
def Wg (P:Program) (h:aN) (cP:TypeId) (m k v:U) :Option aN:=
 match m with
 | .mp b=>match h.f b with
  | .map es eh=>match l4 P cP k with
   | false=>none
   | true=>match lf P cP k es 0 with
    | some (some (i,_))=>some (h.set b (.map (es.modify i fun e=>(k,v,e.2.2)) eh))
    | some none=>some (h.set b (.map (es++[(k,v,eh)]) (eh+1)))
    | none=>none
  | _=>none
 | _=>none
def hU (h:aN) (x:Option U) :Option (U × aN) :=match x with | some v=>some (v,h) | none=>none
section
variable (P:Program)
def Ex (aA:Operand->U) (h:aN) :da->Option (U × aN)
 | .fR x=>some (aA x,h)
 | .pick c a b=>hU h (EM (aA c) (aA a) (aA b))
 | .alloc zero=>some (.ptr h.n 0 zero.length,h.push (.cells zero.length zero))
 | .box x=>match (aA x).cells with | some cs=>some (.ptr h.n 0 cs.length,h.push (.cells cs.length cs)) | none=>none
 | .Cc zero ps=>hU h ((pU zero (ps.map fun p=>(p.1,p.2.1,aA p.2.2))).map .aF)
 | .q6 z zero len ps=>match h4 (fun i=>some (i*z,z)) (dC zero len) (ps.map fun p=>(p.1,aA p.2)) with | some cs=>some (.aq z h.n 0 len len (len*z),h.push (.cells (len*z) cs)) | none=>none
 | .nR a=>hU h (match reach h (aA a) with | some (cs,o)=>cs[o]? | none=>none)
 | .l6 n a=>hU h (match reach h (aA a) with | some (cs,o)=>te n cs o | none=>none)
 | .st n a x=>match Yw n h (aA a) (aA x) with | some h'=>some (gL,h') | none=>none
 | .EA x=>hU h (y4 (aA x))
 | .bin o t x y=>hU h (gN P o t (aA x) (aA y))
 | .un o x=>hU h (qM o (aA x))
 | .zR k x=>hU h (zS k (aA x))
 | .z2 x=>hU h (F1 (aA x))
 | .tT x=>hU h (RL h (aA x))
 | .z1 x=>hU h (vV (aA x))
 | .y2 t x=>some (.hF t (aA x),h)
 | .BF t z ok x=>hU h (BG t z ok (aA x))
 | .y1 f a b=>some (.fn f (a.map aA) (b.map aA),h)
 | .rT z by_ zero a c=>Wp z by_ zero h (aA a) (aA c)
 | .slice dq x cJ ay cK=>hU h (fl dq (aA x) (cJ.map aA) (ay.map aA) (cK.map aA))
 | .p1 off x=>hU h (nx (aA x) off)
 | .CF off x=>hU h (CH off (aA x))
 | .CG n off x=>hU h (Ab n off (aA x))
 | .wx dq x i=>hU h (cL dq (aA x) (aA i))
 | .Ea n z x i=>hU h (Ec n z (aA x) (aA i))
 | .Eb n z x i=>hU h (Ed n z (aA x) (aA i))
 | .Eg x i=>hU h (yP (aA x) (aA i))
 | .ext x i=>hU h (CD (aA x) i)
 | .len dq x=>hU h (ce dq (aA x))
 | .cap dq x=>hU h (tS dq (aA x))
 | .app z by_ s x=>Ps h z by_ (aA s) (aA x)
 | .vx z by_ zero s x=>Pu h z by_ zero (aA s) (aA x)
 | .vU z d x=>R8 z h (aA d) (aA x)
 | .vM zero x=>match RR zero h (aA x) with | some h'=>some (.bt [],h') | none=>none
 | .min x y=>hU h (wL (aA x) (aA y))
 | .max x y=>hU h (uT (aA x) (aA y))
 | .uV x=>match x with
  | none=>some (.mp h.n,h.push (.map [] 0))
  | some o=>match asInt (aA o) with | some _=>some (.mp h.n,h.push (.map [] 0)) | none=>none
 | .yV cP zero ok m k=>hU h (V9 P h cP zero ok (aA m) (aA k))
 | .wM cP m k x=>match Wg P h cP (aA m) (aA k) (aA x) with | some h'=>some (gL,h') | none=>none
 | .wF x=>hU h (V3 h (aA x))
 | .w3 x=>XA h (aA x)
 | .wQ x=>Be h (aA x)
 | .cg f sA x y=>match D8 f (aA sA) with | true=>hU h (RY h (aA x) (aA y)) | false=>none
 | .stop=>none
end
def pA (r:U->Option U) :List U->Option (List U)
 | []=>some []
 | c::cs=>match r c with
  | some c'=>match pA r cs with
   | some cs'=>some (c'::cs')
   | none=>none
  | none=>none
def u4 (h:aN) :Nat->U->Option U
 | 0,_=>none
 | d+1,c=>match c with
  | .aF cs=>match pA (u4 h d) cs with | some cs'=>some (.aF cs') | none=>none
  | .bt cs=>match pA (u4 h d) cs with | some cs'=>some (.bt cs') | none=>none
  | .aq z b off len cap sz=>match Nat.beq len 0 with
   | true=>some (.aZ z [])
   | false=>match h.f b with
    | .cells n cs=>match Nat.beq n sz&&Nat.ble (off+len*z) cs.length with
     | true=>match pA (u4 h d) ((cs.drop off).take (len*z)) with
      | some xs=>some (.aZ z (me z len xs))
      | none=>none
     | false=>none
    | _=>none
  | .ptr b off sz=>match h.f b with
   | .cells n cs=>match Nat.beq n sz with
    | true=>match pA (u4 h d) cs with | some cs'=>some (.bM cs' off) | none=>none
    | false=>none
   | _=>none
  | c=>match c.closed with | true=>some c | false=>none
def PF (x:U) :Option Int:=match x with
 | .int k i=>match k with | .i64=>some i | _=>none
 | _=>none
def oI (z:Nat) (cs vs:List U) (i len:Nat) :List U:=cs.take (i*z)++vs++(cs.drop (i*z)).take ((len - i)*z)++cs.drop ((len+1)*z)
def D6 (z by_:Nat) (h:aN) (s:U) (i:Nat) (ih:Nat) (vs:List U) :Option (U × aN) :=match s with
 | .aH=>if i=0/\by_<=cw then some (.aq z h.n 0 1 1 z,h.push (.cells z vs)) else none
 | .aq gw b off len cap sz=>match h.f b with
  | .cells m cs=>if m=cap*z/\sz=cap*z/\gw=z/\off=0/\ih≠b/\i<=len/\len<=cap/\(len+1)*by_<=cw then
    some (.aq z h.n 0 (len+1) (max cap (len+1)) (max cap (len+1)*z),(h.set b .dead).push (.cells (max cap (len+1)*z) (oI z cs vs i len))) else none
  | _=>none
 | _=>none
def sY (z by_:Nat) (args:List U) (h:aN) :Option (U × aN) :=match args with
 | [s,x,y]=>match PF x,y with
  | some i,.aq fV ih gI bj b9 hX=>match h.f ih with
   | .cells ej vs=>if fV=z/\gI=0/\bj=1/\b9=1/\hX=z/\ej=z/\0<=i then D6 z by_ h s i.toNat ih vs else none
   | _=>none
  | _,_=>none
 | _=>none
class qT (P:Program) (G:Nat->U) where
 get:FuncId->Option (Nat × Nat)
 ok:∀ f z by_,get f=some (z,by_)->∀ args h r h',sY z by_ args h=some (r,h')->qS P G f args h r h'
instance (priority:=10) ata (P:Program) (G:Nat->U) :qT P G:=⟨fun _=>none,fun f z by_ h=>by cases h⟩
abbrev oU:=FuncId->List U->aN->Option (U × aN)
abbrev Jn:=Option (sf × hB × aN)
mutual
def aV.beq:aV->aV->Bool
 | .none,y=>match y with | .none=>true | _=>false
 | .dead,y=>match y with | .dead=>true | _=>false
 | .cells n cs,y=>match y with | .cells hH cs'=>Nat.beq n hH&&fC cs cs' | _=>false
 | .map ..,_=>false
 | .iter ..,_=>false
end

section
variable (P:Program) (G:Nat->U)
def Gk (s:hB) (g:Option (Option Tmp × Bool)) :Option Bool:=match g with
 | none=>some true
 | some (some d,w)=>match look s d with
  | .bool b=>some (b == w)
  | .bad=>none
  | _=>some false
 | some (none,_)=>some false
def Ca (call:oU) (b:qR) (s:hB) (h:aN) :Option (U × aN) :=match b with
 | .gH m=>Ex P (c3 G (look s)) h m
 | .mP f args=>call f (args.map (c3 G (look s))) h
 | .mQ x args=>match c3 G (look s) x with
  | .fn g first gB=>match jH P g with
   | true=>call g (first++args.map (c3 G (look s))++gB) h
   | false=>none
  | _=>none
 | .oj x name args=>match c3 G (look s) x with
  | .hF t v=>match yZ P t name with
   | some g=>match jH P g with
    | true=>call g (v::args.map (c3 G (look s))) h
    | false=>none
   | none=>none
  | _=>none
def EZ (call:oU) :List dn->hB->aN->Option (hB × aN)
 | [],s,h=>some (s,h)
 | x::r,s,h=>match Gk s x.g with
  | some true=>match Ca P G call x.b s h with
   | some (v,h')=>EZ call r (EP s x.dst v) h'
   | none=>none
  | some false=>EZ call r (EP s x.dst gL) h
  | none=>none
def IV (b:qR) (s:hB) (v:U) (h h' ad:aN) :Bool:=match b with
 | .gH m=>match m.jo with
  | true=>aV.beq (ad.f h.n) (h'.f h.n)
  | false=>match m.looks with
   | true=>match Ex P (c3 G (look s)) ad m with
    | some (a6,_)=>U.beq a6 v
    | none=>false
   | false=>false
 | _=>true
def FW (ids:List Nat) (h:aN) :List (Nat × (aN->Bool))->Bool
 | []=>true
 | e::r=>(!ids.contains e.1||e.2 h)&&FW ids h r
def EY (call:oU) :List dn->hB->aN->List (Nat × (aN->Bool))->Option (hB × aN)
 | [],s,h,_=>some (s,h)
 | x::r,s,h,seen=>match Gk s x.g with
  | some true=>match Ca P G call x.b s h with
   | some (v,h')=>match FW x.h1 h' seen with
    | true=>EY call r (EP s x.dst v) h' (match x.cd with | true=>(x.i,IV P G x.b s v h h') ::seen | false=>seen)
    | false=>none
   | none=>none
  | some false=>EY call r (EP s x.dst gL) h seen
  | none=>none
def RM (call:oU) (aR:fB->hB->aN->Jn) (c:fB) (s:hB) (h:aN) :Jn:=
 match c with
 | .skip=>some (.normal,s,h)
 | .ret=>some (.ret,s,h)
 | .exit id=>some (.exit id,s,h)
 | .lz x=>match EZ P G call x s h with
  | some (cY,ad)=>some (.normal,cY,ad)
  | none=>none
 | .xW x=>match EY P G call x s h [] with
  | some (cY,ad)=>some (.normal,cY,ad)
  | none=>none
 | .seq a b=>match aR a s h with
  | some (.normal,cY,ad)=>aR b cY ad
  | r=>r
 | .cond c x y=>match c3 G (look s) c with
  | .bool true=>aR x s h
  | .bool false=>aR y s h
  | _=>none
 | .block id c=>match aR c s h with
  | some (.exit sX,cY,ad)=>match Nat.beq sX id with
   | true=>some (.normal,cY,ad)
   | false=>some (.exit sX,cY,ad)
  | r=>r
 | .loop c=>match aR c s h with
  | some (.normal,cY,ad)=>aR (.loop c) cY ad
  | r=>r
def FU (call:oU) :Nat->fB->hB->aN->Jn
 | 0=>fun _ _ _=>none
 | k+1=>RM P G call (FU call k)
def EV (s:hB) (h:aN) :List da->List U->Option U
 | [],acc=>some (xh acc)
 | m::r,acc=>match Ex P (c3 G (look s)) h m with
  | some (v,_)=>EV s h r (acc++[v])
  | none=>none
abbrev qV:=FuncId->Option (Bool × (List U->Option U))
abbrev vo:=FuncId->Option (fB × List da)
def JK (orc:qV) (f:FuncId) (args:List U) (h:aN) :Option U:=
 match orc f with
 | some (n,g)=>match pA (u4 h 20) args with
  | some i1=>match g i1 with
   | some r=>match n||r.flat with | true=>some r | false=>none
   | none=>none
  | none=>none
 | none=>none
def RJ [qT P G] (orc:qV) (lA:vo) (fuel:Nat) (call:oU) :oU:=fun f args h=>
 match qT.get P G f with
 | some (z,by_)=>sY z by_ args h
 | none=>match JK orc f args h with
 | some r=>some (r,h)
 | none=>match lA f with
  | none=>none
  | some (c,n1)=>match FU P G call fuel c (Bi 0 .nil args) h with
   | some (.normal,gl,h')=>match EV P G gl h' n1 [] with | some r=>some (r,h') | none=>none
   | some (.ret,gl,h')=>match EV P G gl h' n1 [] with | some r=>some (r,h') | none=>none
   | _=>none
def Ci [qT P G] (orc:qV) (lA:vo) (fuel:Nat) :Nat->oU
 | 0=>fun _ _ _=>none
 | k+1=>RJ P G orc lA fuel (Ci orc lA fuel k)
end
structure eS (h:aN) (l:ao) :Prop where
 n:h.n=l.length
 f:∀ b,h.f b=(bb l).f b
theorem eS.nil:eS aN.empty [] :=⟨rfl,fun _=>rfl⟩
theorem eS.some {h:aN} {l:ao} (r:eS h l) {b:Nat} {c:aV} (ah:h.f b=c) (aD:c≠.none) :l[b]? = some c:=by
 rw[r.f,kH] at ah;split at ah
 ·rename_i c' ad; rw[ad,ah]
 ·exact absurd ah.symm aD
theorem eS.push {h:aN} {l:ao} (r:eS h l) (c:aV) :eS (h.push c) (l++[c]) :=
 ⟨by rw[fx,r.n]; simp,fun b=>by rw[er,<-oe,er,r.n,Ft]; unfold bB; (split<;>first | rfl | exact r.f b)⟩
theorem eS.set {h:aN} {l:ao} (r:eS h l) {b:Nat} {tR:aV} (ag:l[b]? = Option.some tR) (c:aV) :eS (h.set b c) (l.set b c) :=
 ⟨by rw[e7,r.n]; simp,fun bg=>by rw[dZ,<-pO _ (b6 ag),dZ]; unfold bB; (split<;>first | rfl | exact r.f bg)⟩
section
variable {P:Program} {G:Nat->U} {h h' : aN} {l:ao}
theorem eS.reach (r:eS h l) (p:U) :reach h p=hg l p:=by
 rw[<-NJ];cases p<;>try rfl
 simp only[b0.reach,r.f]
theorem eS.contents (r:eS h l) (z:Nat) (x:U) :contents h z x=dD l z x:=by
 rw[<-Cs];cases x<;>try rfl
 simp only[b0.contents,r.f]
theorem eS.mapOf (r:eS h l) (x:U) :mapOf h x=s7 l x:=by
 cases x<;>try rfl
 rename_i b;simp only[b0.mapOf,s7,r.f,kH];cases l[b]? with
 | none=>rfl
 | some c=>cases c<;>rfl
theorem eS.bytes (r:eS h l) (x:U) :sr h x=o2 l x:=by
 cases x<;>simp only[sr,o2,r.contents]<;>rfl
theorem akr {x:Option U} {v:U} (af:hU h x=some (v,h')) :x=some v/\h'=h:=by
 cases x with
 | none=>cases af
 | some y=>cases af; exact⟨rfl,rfl⟩
theorem y5 (r:eS h l) {x y:Option U} {v:U} (l0:x=y) (af:hU h x=some (v,h')) :∃ l',dM l y=some (v,l')/\eS h' l':=by
 obtain⟨rfl,rfl⟩:=akr af;exact⟨l,by rw[<-l0]; rfl,r⟩
theorem Py (r:eS h l) {z by_ n:Nat} {s v:U} {xs:List U} (af:FE h z by_ s xs n=some (v,h')) :∃ l',jB l z by_ s xs n=some (v,l')/\eS h' l':=by
 unfold FE at af;unfold jB;by_cases aD:n=0
 ·rw[if_pos aD] at af ⊢;cases s<;>simp at af ⊢<;>(obtain⟨rfl,rfl⟩:=af; exact⟨l,⟨rfl,rfl⟩,r⟩)
 ·rw[if_neg aD] at af ⊢;by_cases aI:z=0\/by_=0
  ·rw[if_pos aI] at af; cases af
  ·rw[if_neg aI] at af ⊢;cases s<;>simp only at af ⊢<;>try (cases af; done)
   case aH=>
    by_cases az:n*by_<=cw
    ·rw[if_pos az] at af ⊢; cases af; exact⟨_,by rw[r.n],r.push _⟩
    ·rw[if_neg az] at af; cases af
   case aq dF b off len cap sz=>
    cases ag:h.f b<;>rw[ag] at af<;>(try simp only at af)<;>try (cases af; done)
    rename_i m cs;have al:=r.some ag (by simp);rw[al];simp only;by_cases ad:m=sz/\z=dF/\(len+n)*by_<=cw
    ·rw[if_pos ad] at af ⊢;by_cases ae:len+n<=cap
     ·rw[if_pos ae] at af ⊢; cases af; exact⟨_,rfl,r.set al _⟩
     ·rw[if_neg ae] at af ⊢;by_cases aj:off+cap*z<sz
      ·rw[if_pos aj] at af ⊢; cases af; exact⟨_,by rw[r.n],r.push _⟩
      ·rw[if_neg aj] at af ⊢;by_cases aG:off=0
       ·rw[if_pos aG] at af ⊢; cases af; exact⟨_,rfl,r.set al _⟩
       ·rw[if_neg aG] at af ⊢; cases af; exact⟨_,by rw[r.n],(r.set al _).push _⟩
    ·rw[if_neg ad] at af; cases af
theorem M9 (r:eS h l) {aA:Operand->U} {m:da} {v:U} (af:Ex P aA h m=some (v,h')) :∃ l',bT P aA l m=some (v,l')/\eS h' l':=by
 cases m<;>simp only[Ex] at af<;>simp only[bT]
 case fR=>cases af; exact⟨l,rfl,r⟩
 case alloc=>cases af; exact⟨_,by rw[r.n],r.push _⟩
 case box x=>
  cases ah:(aA x).cells with
  | none=>rw[ah] at af; cases af
  | some cs=>rw[ah] at af; cases af; exact⟨_,by simp only[Option.map_some,r.n],r.push _⟩
 case q6 z zero n ps=>
  split at af
  ·rename_i cs ah; cases af; exact⟨_,by rw[ah]; simp only[Option.map_some,r.n],r.push _⟩
  ·cases af
 case nR a=>
  rw[r.reach] at af;refine y5 r ?_ af;cases hg l (aA a)<;>rfl
 case l6 n a=>
  rw[r.reach] at af;refine y5 r ?_ af;cases hg l (aA a)<;>rfl
 case st n a x=>
  unfold Yw at af;unfold l9;cases aC:aA a<;>rw[aC] at af<;>(try simp only at af)<;>try (cases af; done)
  rename_i b off sz;cases ah:(aA x).cells with
  | none=>rw[ah] at af; cases af
  | some vs=>
   rw[ah] at af;simp only at af ⊢;cases ag:h.f b<;>rw[ag] at af<;>(try simp only at af)<;>try (cases af; done)
   rename_i m cs;have al:=r.some ag (by simp);rw[al];simp only;by_cases ad:m=sz/\vs.length=n/\off+n<=m
   ·rw[if_pos ad] at af ⊢; cases af; exact⟨_,rfl,r.set al _⟩
   ·rw[if_neg ad] at af; cases af
 case y2=>cases af; exact⟨l,rfl,r⟩
 case y1=>cases af; exact⟨l,rfl,r⟩
 case rT z by_ zero a c=>
  unfold Wp at af;unfold rU;cases aC:aA a<;>rw[aC] at af<;>(try simp only at af)<;>try (cases af; done)
  cases ah:aA c<;>rw[ah] at af<;>(try simp only at af)<;>try (cases af; done)
  simp only;split at af
  ·rename_i ad; rw[if_pos ad]; cases af; exact⟨_,by rw[r.n],r.push _⟩
  ·cases af
 case tT x=>
  refine y5 r ?_ af;unfold RL vI;cases aA x<;>simp only[r.contents]<;>rfl
 case app z by_ s x=>
  unfold Ps at af;unfold gX;rw[r.contents] at af;split at af
  ·cases af
  ·rename_i xs n ah; rw[ah]; exact Py r af
 case vx z by_ zero s x=>
  unfold Pu at af;unfold q4;cases ah:aA x<;>rw[ah] at af<;>(try simp only at af)<;>try (cases af; done)
  simp only;split at af
  ·rename_i ad; rw[if_pos ad]; exact Py r af
  ·cases af
 case vU z d x=>
  unfold R8 at af;unfold z0;rw[r.contents] at af;split at af
  ·cases af
  ·rename_i xs n ah;rw[ah];simp only;cases bf:aA d<;>rw[bf] at af<;>(try simp only at af)<;>try (cases af; done)
   ·cases af; exact⟨l,rfl,r⟩
   ·rename_i dF b off len cap sz;cases ag:h.f b<;>rw[ag] at af<;>(try simp only at af)<;>try (cases af; done)
    rename_i m cs;have al:=r.some ag (by simp);simp only[al];split at af
    ·rename_i ad; rw[if_pos ad]; cases af; exact⟨_,rfl,r.set al _⟩
    ·cases af
 case vM zero x=>
  unfold RR at af;unfold ss;cases bf:aA x<;>rw[bf] at af<;>(try simp only at af)<;>try (cases af; done)
  ·cases af; exact⟨l,rfl,r⟩
  ·rename_i z b off len cap sz;simp only;by_cases aI:len=0
   ·rw[if_pos aI] at af ⊢; cases af; exact⟨l,rfl,r⟩
   ·rw[if_neg aI] at af ⊢;cases ag:h.f b<;>rw[ag] at af<;>(try simp only at af)<;>try (cases af; done)
    rename_i m cs;have al:=r.some ag (by simp);rw[al];simp only;by_cases ad:m=sz/\zero.length=z
    ·rw[if_pos ad] at af ⊢; cases af; exact⟨_,rfl,r.set al _⟩
    ·rw[if_neg ad] at af; cases af
  ·rename_i z es;cases es<;>simp only at af
   ·cases af; exact⟨l,rfl,r⟩
   ·cases af
 case uV x=>
  cases x with
  | none=>cases af; exact⟨_,by rw[r.n],r.push _⟩
  | some o=>
   simp only at af ⊢;split at af
   ·rename_i n aD; rw[aD]; cases af; exact⟨_,by simp only[r.n],r.push _⟩
   ·cases af
 case yV cP zero ok m k=>
  refine y5 r ?_ af;unfold V9 wI;rw[r.mapOf];split
  ·rename_i es lS; rw[lS]; rfl
  ·rename_i lS; rw[lS]
 case wM cP m k x=>
  unfold Wg at af;unfold wJ;cases hm:aA m<;>rw[hm] at af<;>(try simp only at af)<;>try (cases af; done)
  rename_i b;simp only;cases ag:h.f b<;>rw[ag] at af<;>(try simp only at af)<;>try (cases af; done)
  rename_i es eh;have al:=r.some ag (by simp);rw[al];simp only;cases ar:l4 P cP (aA k)<;>rw[ar] at af<;>simp only at af
  ·cases af
  ·simp only;cases aE:lf P cP (aA k) es 0 with
   | none=>rw[aE] at af; cases af
   | some q=>
    rw[aE] at af;cases q with
    | none=>cases af; exact⟨_,rfl,r.set al _⟩
    | some wC=>cases af; exact⟨_,rfl,r.set al _⟩
 case wF x=>
  refine y5 r ?_ af;unfold V3 Es;cases aA x<;>try rfl
  rename_i b;simp only[r.f,kH];cases l[b]? with
  | none=>rfl
  | some c=>cases c<;>rfl
 case w3 x=>
  unfold XA at af;unfold Br;cases bf:aA x<;>rw[bf] at af<;>(try simp only at af)<;>try (cases af; done)
  cases af; exact⟨_,by simp only[r.n],r.push _⟩
 case wQ x=>
  unfold Be at af;unfold uW;cases bf:aA x<;>rw[bf] at af<;>(try simp only at af)<;>try (cases af; done)
  rename_i b;simp only;cases ag:h.f b<;>rw[ag] at af<;>(try simp only at af)<;>try (cases af; done)
  have al:=r.some ag (by simp);rw[al];simp only;split at af
  ·rename_i ad; rw[ad]; cases af; exact⟨_,rfl,r.set al _⟩
  ·rename_i ad; rw[ad]; cases af; exact⟨_,rfl,r⟩
 case stop=>cases af
 case cg f sA x y=>
  split at af
  ·rename_i ad;rw[ad];refine y5 r ?_ af;unfold RY cmpL;rw[r.bytes,r.bytes];cases o2 l (aA x)<;>cases o2 l (aA y)<;>rfl
  ·cases af
 all_goals exact y5 r rfl af
theorem ti {f:U->Option U}:∀ {cs cs' : List U},pA f cs=some cs'->cs'.length=cs.length
 | [],cs',h=>by cases h; rfl
 | c::cs,cs',h=>by
  unfold pA at h;split at h
  ·split at h
   ·rename_i ad; cases h; simp[ti ad]
   ·cases h
  ·cases h
theorem th {f:U->Option U}:∀ {cs cs' : List U},pA f cs=some cs'->∀ (j:Nat) (c c' : U),cs[j]? = some c->cs'[j]? = some c'->f c=some c'
 | [],cs',h,j,c,c',ah,_=>by simp at ah
 | c::cs,cs',h,j,d,J8,bf,ur=>by
  unfold pA at h;split at h
  ·rename_i x af;split at h
   ·rename_i ad;cases h;cases j with
    | zero=>simp at bf ur; subst bf ur; exact af
    | succ j=>exact th ad j d J8 (by simpa using bf) (by simpa using ur)
   ·cases h
  ·cases h
theorem Bs:∀ (d:Nat) (c c' : U),u4 h d c=some c'->gA h c c'
 | 0,c,c',af=>by cases af
 | d+1,c,c',af=>by
  unfold u4 at af;split at af
  ·split at af
   ·rename_i ad; cases af;exact .aF _ _ (ti ad) (fun j c c' ah eB=>Bs d c c' (th ad j c c' ah eB))
   ·cases af
  ·split at af
   ·rename_i ad; cases af;exact .bt _ _ (ti ad) (fun j c c' ah eB=>Bs d c c' (th ad j c c' ah eB))
   ·cases af
  ·rename_i z b off len cap sz;split at af
   ·rename_i aI;cases af;rw[Nat.eq_of_beq_eq_true aI];exact .r8 z b off cap sz
   ·split at af
    ·rename_i n cs ag;split at af
     ·rename_i c4;simp only[Bool.and_eq_true] at c4;have aD:=Nat.eq_of_beq_eq_true c4.1;have dO:=Nat.le_of_ble_eq_true c4.2;subst aD;split at af
      ·rename_i xs ad;cases af;have bd:=ti ad;simp only[List.length_take,List.length_drop] at bd;have ag0:xs.length=len*z:=by omega
       have ei:∀ (i:Nat),i<len->(me z len xs)[i]? = some ((xs.drop (i*z)).take z) :=fun i ay=>FX len xs i ay
       have eC:∀ i,i<len->i*z+z<=len*z:=fun i ay=>by rw[<-Nat.succ_mul]; exact Nat.mul_le_mul_right _ ay
       refine .aq z b off len cap n cs _ ag (vJ _ _) (fun e am=>?_) dO (fun i j e c c' am ai ah=>?_)
       ·obtain⟨i,ay⟩:=List.mem_iff_getElem?.1 am;have dH:i<len:=by
         have:=(List.getElem?_eq_some_iff.1 ay).1;rw[vJ] at this; exact this
        rw[ei i dH] at ay;cases ay;have:=eC i dH;simp; omega
       ·have dH:i<len:=by
         have:=(List.getElem?_eq_some_iff.1 am).1;rw[vJ] at this; exact this
        rw[ei i dH] at am;cases am;have AD:=eC i dH;have m3:j<z:=by have:=(List.getElem?_eq_some_iff.1 ai).1; simp at this; omega
        rw[List.getElem?_take_of_lt m3,List.getElem?_drop] at ai;refine Bs d c c' (th ad (i*z+j) c c' ?_ ai);rw[List.getElem?_take_of_lt (by omega),List.getElem?_drop];exact ah
      ·cases af
     ·cases af
    ·cases af
  ·rename_i b off sz;split at af
   ·rename_i n cs ag;split at af
    ·rename_i aD;split at af
     ·rename_i ad;cases af;rw[<-Nat.eq_of_beq_eq_true aD];exact .ptr b off n cs _ ag (ti ad) (fun j c c' ah eB=>Bs d c c' (th ad j c c' ah eB))
     ·cases af
    ·cases af
   ·cases af
  ·split at af
   ·rename_i ah; cases af; exact .same _ ah
   ·cases af
theorem gA.rep (r:eS h l) {c c' : U} (az:gA h c c') :gA (bb l) c c':=by
 induction az with
 | same c ah=>exact .same c ah
 | aF cs cs' al ap aR=>exact .aF cs cs' al aR
 | bt cs cs' al ap aR=>exact .bt cs cs' al aR
 | aq z b off len cap sz cs es ag al ax cQ ap aR=>exact .aq z b off len cap sz cs es (by rw[<-r.f]; exact ag) al ax cQ aR
 | r8 z b off cap sz=>exact .r8 z b off cap sz
 | ptr b off sz cs cs' ag al ap aR=>exact .ptr b off sz cs cs' (by rw[<-r.f]; exact ag) al aR
def BT (P:Program) (G:Nat->U) (call:oU) :Prop:=
 ∀ (f:FuncId) (args:List U) (h:aN) (v:U) (h' : aN) (l:ao),eS h l->call f args h=some (v,h')->∃ l',eS h' l'/\∀ K:U->ao->Prop,K v l'->c0 P G f args l (c:=⟨K⟩)
theorem ah9 {m:da} {v:U} {l:ao} {K:U->ao->Prop} (ar:K v l) :eG m v l K:=by
 cases m<;>first | exact ar | exact .inl ar
theorem PO {call:oU} (ah:BT P G call) (r:eS h l) {b:qR} {s:hB} {v:U} (af:Ca P G call b s h=some (v,h')) :
  ∃ l',eS h' l'/\(∀ K:U->ao->Prop,K v l'->iu P G b (look s) l K)/\(∀ m,b=.gH m->bT P (c3 G (look s)) l m=some (v,l')) :=by
 cases b with
 | gH m=>
  obtain⟨l',ad,ae⟩:=M9 r af;refine⟨l',ae,fun K aT=>?_,fun cm hm=>by cases hm; exact ad⟩;show W (bT P (c3 G (look s)) l m) (c:=⟨fun x=>eG m x.1 x.2 K⟩);rw[zF];exact⟨_,ad,ah9 aT⟩
 | mP f args=>
  obtain⟨l',ad,ae⟩:=ah f _ h v h' l r af;exact⟨l',ad,ae,fun m hm=>by cases hm⟩
 | mQ x args=>
  simp only[Ca] at af;cases aE:c3 G (look s) x<;>rw[aE] at af<;>(try simp only at af)<;>try (cases af; done)
  rename_i g first gB
  split at af
  ·rename_i il;obtain⟨l',ad,ae⟩:=ah g _ h v h' l r af;refine⟨l',ad,fun K aT=>?_,fun m hm=>by cases hm⟩;show vH P G (c3 G (look s) x) _ l (c:=⟨K⟩);unfold vH;rw[aE];exact⟨il,ae K aT⟩
  ·cases af
 | oj x name args=>
  simp only[Ca] at af;cases aE:c3 G (look s) x<;>rw[aE] at af<;>(try simp only at af)<;>try (cases af; done)
  rename_i t tu;split at af
  ·rename_i g hm;split at af
   ·rename_i il;obtain⟨l',ad,ae⟩:=ah g _ h v h' l r af;refine⟨l',ad,fun K aT=>?_,fun m hm=>by cases hm⟩;show vG P G name (c3 G (look s) x) _ l (c:=⟨K⟩);unfold vG;rw[aE];simp only[hm];exact⟨il,ae K aT⟩
   ·cases af
  ·cases af
theorem Gl {s:hB} {g:Option (Option Tmp × Bool)} {b:Bool} (aw:Gk s g=some b) {p q:Prop} (ar:if b then p else q) :qu (look s) g p q:=by
 unfold Gk at aw;unfold qu;split at aw
 ·cases aw; exact ar
 ·rename_i d w;simp only[rO];split at aw
  ·rename_i x af;simp only[af];cases aw;unfold rP;cases ag1:(x == w)<;>rw[ag1] at ar<;>simpa using ar
  ·cases aw
  ·rename_i ad ae;cases aw;cases af:look s d<;>first | exact (by simpa using ar) | (exact absurd af (ad _)) | (exact absurd af ae)
 ·cases aw; simpa using ar
theorem NU {call:oU} (ah:BT P G call) :∀ (x:List dn) (s:hB) (h:aN) (l:ao) (gl:hB) (h' : aN),eS h l->EZ P G call x s h=some (gl,h')->
  ∃ l',eS h' l'/\∀ K:bc->ao->Prop,K (look gl) l'->i9 P G x (look s) l K
 | [],s,h,l,gl,h',r,af=>by cases af; exact⟨l,r,fun K aT=>aT⟩
 | x::xs,s,h,l,gl,h',r,af=>by
  unfold EZ at af;split at af
  ·rename_i aw;split at af
   ·rename_i v ad ag;obtain⟨l1,dh,ae,_⟩:=PO ah r ag;obtain⟨l',cB,aj⟩:=NU ah xs _ ad l1 gl h' dh af;refine⟨l',cB,fun K aT=>?_⟩;unfold i9;refine Gl aw ?_;simp only[if_true];refine ae _ ?_;rw[<-HZ];exact aj K aT
   ·cases af
  ·rename_i aw;obtain⟨l',cB,aj⟩:=NU ah xs _ h l gl h' r af;refine⟨l',cB,fun K aT=>?_⟩;unfold i9;refine Gl aw ?_;simp only[Bool.false_eq_true,if_false];rw[<-HZ];exact aj K aT
  ·cases af
theorem aV.beq_eq {a b:aV} (h:aV.beq a b=true) :a=b:=by
 cases a<;>cases b<;>simp[aV.beq] at h
 ·rfl
 ·rfl
 ·obtain⟨ad,ae⟩:=h;rw[ad,tQ ae]
theorem amk {b:qR} {s:hB} {v:U} {ad:aN} {l' l1:ao} (r:eS h l) (cB:eS h' l') (dh:eS ad l1) (af:IV P G b s v h h' ad=true) (bC:∀ m,b=.gH m->m.jo=true->∃ n cs,l'=l++[.cells n cs]) :l8 P G b (look s) v l l' l1:=by
 unfold IV at af;unfold l8;split at af
 ·rename_i m;simp only;cases aD:m.jo with
  | true=>
   rw[aD] at af;simp only at af ⊢;have am:=aV.beq_eq af;obtain⟨n,cs,rfl⟩:=bC m rfl aD;rw[r.n] at am;have ae:h'.f l.length=(bb (l++[.cells n cs])).f l.length:=cB.f _;rw[kH] at ae;simp only[List.getElem?_append_right (Nat.le_refl _),Nat.sub_self,List.getElem?_cons_zero] at ae ⊢;exact dh.some (am.trans ae) (by simp)
  | false=>
   rw[aD] at af;simp only at af ⊢;split at af
   ·rename_i ru;split at af
    ·rename_i a6 ae hm;obtain⟨bj,aj,_⟩:=M9 dh hm;rw[U.beq_eq af] at aj;rw[V8 ru aj] at aj;exact aj
    ·cases af
   ·cases af
 ·rename_i ag;split
  ·rename_i m; exact absurd rfl (ag m)
  ·trivial
inductive zD (P:Program) (G:Nat->U) :List (Nat × (aN->Bool))->iZ->Prop
 | nil:zD P G [] []
 | cons {i p q r cB}:(∀ h l,eS h l->p h=true->q l)->zD P G r cB->zD P G ((i,p) ::r) ((i,q) ::cB)
theorem RO (r:eS h l) {ids:List Nat}:∀ {a:List (Nat × (aN->Bool))} {b:iZ},zD P G a b->FW ids h a=true->pX ids b l
 | _,_,.nil,_=>trivial
 | _,_,.cons av az,af=>by
  unfold FW at af;simp only[Bool.and_eq_true,Bool.or_eq_true,Bool.not_eq_true'] at af;unfold pX;refine⟨fun ay=>?_,RO r az af.2⟩;rcases af.1 with ad | ad
  ·rw[ay] at ad; cases ad
  ·exact av h l r ad
theorem ahL {aA:Operand->U} {l l' : ao} {m:da} {v:U} (aD:m.jo=true) (hm:bT P aA l m=some (v,l')) :∃ n cs,l'=l++[.cells n cs] :=by
 cases m<;>simp only[da.jo,Bool.false_eq_true,reduceCtorEq] at aD<;>simp only[bT,map_some,Option.some.injEq,Prod.mk.injEq] at hm
 case alloc=>obtain⟨_,rfl⟩:=hm; exact⟨_,_,rfl⟩
 case box=>obtain⟨_,_,_,rfl⟩:=hm; exact⟨_,_,rfl⟩
 case q6=>obtain⟨_,_,_,rfl⟩:=hm; exact⟨_,_,rfl⟩
 case rT=>
  unfold rU at hm
  repeat' split at hm
  all_goals first | (cases hm; done) | (cases hm; exact⟨_,_,rfl⟩)
theorem NR {call:oU} (ah:BT P G call) :∀ (x:List dn) (s:hB) (h:aN) (l:ao) (gl:hB) (h' : aN) (a:List (Nat × (aN->Bool))) (b:iZ),eS h l->zD P G a b->EY P G call x s h a=some (gl,h')->
  ∃ l',eS h' l'/\∀ K:bc->ao->Prop,K (look gl) l'->kh P G x (look s) l b K
 | [],s,h,l,gl,h',a,b,r,ak,af=>by cases af; exact⟨l,r,fun K aT=>aT⟩
 | x::xs,s,h,l,gl,h',a,b,r,ak,af=>by
  unfold EY at af;split at af
  ·rename_i aw;split at af
   ·rename_i v ad ag;obtain⟨l1,dh,ae,DG⟩:=PO ah r ag;split at af
    ·rename_i ei;have rD:zD P G (match x.cd with | true=>(x.i,IV P G x.b s v h ad) ::a | false=>a) (r6 x.cd x.i (l8 P G x.b (look s) v l l1) b) :=by
      cases x.cd with
      | false=>exact ak
      | true=>
       refine .cons (fun ae bj dY av=>amk r dh dY av (fun m hm aD=>ahL aD (DG m hm))) ak
     obtain⟨l',cB,aj⟩:=NR ah xs _ ad l1 gl h' _ _ dh rD af;refine⟨l',cB,fun K aT=>?_⟩;unfold kh;refine Gl aw ?_;simp only[if_true];refine ae _ ⟨RO dh ak ei,?_⟩;rw[<-HZ];exact aj K aT
    ·cases af
   ·cases af
  ·rename_i aw;obtain⟨l',cB,aj⟩:=NR ah xs _ h l gl h' a b r ak af;refine⟨l',cB,fun K aT=>?_⟩;unfold kh;refine Gl aw ?_;simp only[Bool.false_eq_true,if_false];rw[<-HZ];exact aj K aT
  ·cases af
theorem J1 {call:oU} (ah:BT P G call) :∀ (fuel:Nat) (c:fB) (s:hB) (h:aN) (l:ao) (e:sf) (gl:hB) (h' : aN),eS h l->FU P G call fuel c s h=some (e,gl,h')->
  ∃ l',eS h' l'/\∀ K:hA,K e (look gl) l'->run P G c (look s) l K
 | 0,c,s,h,l,e,gl,h',r,af=>by cases af
 | k+1,c,s,h,l,e,gl,h',r,af=>by
  have aR:=J1 ah k;unfold FU RM at af;cases c with
  | skip=>cases af; exact⟨l,r,fun K aT=>aT⟩
  | ret=>cases af; exact⟨l,r,fun K aT=>aT⟩
  | exit id=>cases af; exact⟨l,r,fun K aT=>aT⟩
  | lz x=>
   simp only at af;split at af
   ·rename_i cY ad az;cases af;obtain⟨l',cB,ae⟩:=NU ah x s h l gl h' r az;exact⟨l',cB,fun K aT=>ae _ aT⟩
   ·cases af
  | xW x=>
   simp only at af;split at af
   ·rename_i cY ad az;cases af;obtain⟨l',cB,ae⟩:=NR ah x s h l gl h' [] [] r .nil az;exact⟨l',cB,fun K aT=>ae _ aT⟩
   ·cases af
  | seq a b=>
   simp only at af;split at af
   ·rename_i cY ad aC;obtain⟨l1,dh,ae⟩:=aR a s h l _ cY ad r aC;obtain⟨l',cB,aj⟩:=aR b cY ad l1 e gl h' dh af;refine⟨l',cB,fun K aT=>?_⟩;unfold run;exact ae _ (aj K aT)
   ·rename_i bP;obtain⟨l',cB,ae⟩:=aR a s h l e gl h' r af;refine⟨l',cB,fun K aT=>?_⟩;unfold run;refine ae _ ?_;unfold oL;cases e with
    | normal=>exact absurd af (bP _ _)
    | exit id=>exact aT
    | ret=>exact aT
  | cond c x y=>
   simp only at af;split at af
   ·rename_i jK;obtain⟨l',cB,ae⟩:=aR x s h l e gl h' r af;refine⟨l',cB,fun K aT=>?_⟩;unfold run yR;rw[jK];exact ae K aT
   ·rename_i jK;obtain⟨l',cB,ae⟩:=aR y s h l e gl h' r af;refine⟨l',cB,fun K aT=>?_⟩;unfold run yR;rw[jK];exact ae K aT
   ·cases af
  | block id c=>
   simp only at af;split at af
   ·rename_i sX cY ad aC;obtain⟨l',cB,ae⟩:=aR c s h l _ cY ad r aC;split at af
    ·rename_i kt;cases af;refine⟨l',cB,fun K aT=>?_⟩;unfold run;refine ae _ ?_;unfold rN;simp only;rw[kt];exact aT
    ·rename_i kt;cases af;refine⟨l',cB,fun K aT=>?_⟩;unfold run;refine ae _ ?_;unfold rN;simp only;rw[kt];exact aT
   ·rename_i bP;obtain⟨l',cB,ae⟩:=aR c s h l e gl h' r af;refine⟨l',cB,fun K aT=>?_⟩;unfold run;refine ae _ ?_;unfold rN;cases e with
    | normal=>exact aT
    | exit id=>exact absurd af (bP _ _ _)
    | ret=>exact aT
  | loop c=>
   simp only at af;split at af
   ·rename_i cY ad aC;obtain⟨l1,dh,ae⟩:=aR c s h l _ cY ad r aC;obtain⟨l',cB,aj⟩:=aR (.loop c) cY ad l1 e gl h' dh af;refine⟨l',cB,fun K aT=>?_⟩;have aG:=aj K aT;unfold run at aG ⊢;obtain⟨n,aD⟩:=aG;exact⟨n+1,ae _ aD⟩
   ·rename_i bP;obtain⟨l',cB,ae⟩:=aR c s h l e gl h' r af;refine⟨l',cB,fun K aT=>?_⟩;unfold run;refine⟨1,ae _ ?_⟩;unfold oL;cases e with
    | normal=>exact absurd af (bP _ _)
    | exit id=>exact aT
    | ret=>exact aT
def BX (P:Program) (G:Nat->U) (orc:qV) :Prop:=∀ f n g args r,orc f=some (n,g)->g args=some r->bz P G f args r/\(n=true->gy P G f args r)
def B2 (P:Program) (lA:vo) :Prop:=∀ f c n1,lA f=some (c,n1)->vP P f=some c/\vQ P f=some n1
theorem NP (r:eS h l) {s:hB}:∀ {ms:List da} {acc:List U} {v:U},EV P G s h ms acc=some v->∀ K:U->ao->Prop,K v l->oK P G K (look s) l ms acc
 | [],acc,v,af,K,aT=>by cases af; exact aT
 | m::ms,acc,v,af,K,aT=>by
  unfold EV at af;split at af
  ·rename_i x ad hm;obtain⟨l1,ae,_⟩:=M9 r hm;unfold oK;rw[zF];exact⟨_,ae,NP r af K aT⟩
  ·cases af
theorem V5 (args:List U) :look (Bi 0 .nil args)=lG args:=by
 rw[V6];funext t;unfold lG;by_cases aW:t<args.length
 ·rw[if_pos ⟨Nat.zero_le _,by omega⟩]; rfl
 ·rw[if_neg (by omega)];rw[List.getD_eq_getElem?_getD,List.getElem?_eq_none (by omega)]; rfl
theorem aay {orc:qV} (au:BX P G orc) {f:FuncId} {args:List U} {h:aN} {l:ao} {v:U} (r:eS h l) (af:JK orc f args h=some v) (K:U->ao->Prop) (aT:K v l) :c0 P G f args l (c:=⟨K⟩) :=by
 unfold JK at af;split at af
 ·rename_i n g aw;split at af
  ·rename_i i1 aC;split at af
   ·rename_i a6 ap;split at af
    ·rename_i aE;cases af;obtain⟨hS,gI⟩:=au f n g i1 v aw ap;cases n with
     | true=>exact⟨v,l,.ND (gI rfl) (ti aC) (fun j c c' ah eB=>(Bs 20 c c' (th aC j c c' ah eB)).rep r),Nat.le_refl _,aT⟩
     | false=>exact⟨v,l,.NC hS (ti aC) (fun j c c' ah eB=>(Bs 20 c c' (th aC j c c' ah eB)).rep r) aE,Nat.le_refl _,aT⟩
    ·cases af
   ·cases af
  ·cases af
 ·cases af
theorem ahu (r:eS h l) {z by_ i ih:Nat} {s v:U} {vs:List U} (af:D6 z by_ h s i ih vs=some (v,h')) :∃ l',eS h' l'/\D6 z by_ (bb l) s i ih vs=some (v,bb l')/\l.length<=l'.length:=by
 unfold D6 at af ⊢;cases s<;>simp only at af<;>try (cases af; done)
 case aH=>
  split at af
  ·rename_i ah;cases af;refine⟨_,r.push _,?_,by simp⟩;simp only;rw[if_pos ah,oe,Ft,r.n]
  ·cases af
 case aq gw b off len cap sz=>
  simp only;rw[<-r.f b];cases ag:h.f b<;>rw[ag] at af<;>(try simp only at af)<;>try (cases af; done)
  simp only;split at af
  ·rename_i ah;rw[if_pos ah];cases af;have al:=r.some ag (by simp);refine⟨_,(r.set al _).push _,?_,by simp⟩;rw[pO _ (b6 al),oe,Ft,r.n]
  ·cases af
theorem ahr (r:eS h l) {z by_:Nat} {args:List U} {v:U} (af:sY z by_ args h=some (v,h')) :∃ l',eS h' l'/\sY z by_ args (bb l)=some (v,bb l')/\l.length<=l'.length:=by
 unfold sY at af ⊢;split at af
 ·rename_i s x y;split at af
  ·rename_i i fV ih gI bj b9 hX uG;rw[<-r.f ih];split at af
   ·rename_i ej vs lm
    try rw[lm]
    try simp only
    split at af
    ·rename_i ah
     try rw[if_pos ah]
     exact ahu r af
    ·cases af
   ·cases af
  ·cases af
 ·cases af
theorem J0 [qT P G] {orc:qV} {lA:vo} (au:BX P G orc) (aW:B2 P lA) (fuel:Nat) :∀ k,BT P G (Ci P G orc lA fuel k)
 | 0=>fun f args h v h' l r af=>by cases af
 | k+1=>fun f args h v h' l r af=>by
  have aR:=J0 au aW fuel k;unfold Ci RJ at af;split at af
  ·rename_i z by_ aw;obtain⟨l',cB,ad,ae⟩:=ahr r af;exact⟨l',cB,fun K aT=>⟨v,l',.ext (qT.ok f z by_ aw args (bb l) v (bb l') ad),ae,aT⟩⟩
  split at af
  ·rename_i a6 ap;cases af;exact⟨l,r,fun K aT=>aay au r ap K aT⟩
  ·split at af
   ·cases af
   ·rename_i c n1 agR;obtain⟨mZ,ml⟩:=aW f c n1 agR;split at af
    ·rename_i cY ad fQ;obtain⟨l1,dh,ae⟩:=J1 aR fuel c _ h l _ cY ad r fQ;split at af
     ·rename_i a6 uC;cases af;refine⟨l1,dh,fun K aT=>FS mZ ml ?_⟩;rw[<-V5];exact ae _ (NP dh uC K aT)
     ·cases af
    ·rename_i cY ad fQ;obtain⟨l1,dh,ae⟩:=J1 aR fuel c _ h l _ cY ad r fQ;split at af
     ·rename_i a6 uC;cases af;refine⟨l1,dh,fun K aT=>FS mZ ml ?_⟩;rw[<-V5];exact ae _ (NP dh uC K aT)
     ·cases af
    ·cases af
end
def X6 (P:Program) (G:Nat->U) [qT P G] (orc:qV) (lA:vo) (fuel k:Nat) (f:FuncId) (args:List U) (r:U) :Bool:=
 match Ci P G orc lA fuel k f args aN.empty with
 | some (v,h)=>match u4 h 20 v with
  | some a6=>U.beq a6 r
  | none=>false
 | none=>false
theorem abb {P:Program} {G:Nat->U} [qT P G] {orc:qV} {lA:vo} (au:BX P G orc) (aW:B2 P lA) {fuel k:Nat} {f:FuncId} {args:List U} {b:Bool} (af:X6 P G orc lA fuel k f args (.bool b)=true) :
  c0 P G f args [] (c:=⟨fun r _=>r=.bool b⟩) :=by
 unfold X6 at af;split at af
 ·rename_i v h ah;split at af
  ·rename_i a6 ap;obtain⟨l',_,ae⟩:=J0 au aW fuel k f args aN.empty v h [] eS.nil ah;refine ae _ ?_;have:=U.beq_eq af;subst this;unfold u4 at ap
   repeat' split at ap
   all_goals first | (cases ap; done) | (cases ap; rfl)
  ·cases af
 ·cases af
abbrev dr (t:Nat) :Operand:=.tmp t
def rep (n:Nat) (c:U) :List U:=List.replicate n c
abbrev ni (i d x:Nat) :dn:=⟨i,some d,none,.gH (.fR (.tmp x)),[],false⟩
abbrev fM (i d:Nat) (m:da) :dn:=⟨i,some d,none,.gH m,[],false⟩
abbrev E2 (i:Nat) (m:da) :dn:=⟨i,none,none,.gH m,[],false⟩
abbrev sc (i d:Nat) (f:FuncId) (args:List Operand) :dn:=⟨i,some d,none,.mP f args,[],false⟩
abbrev BA (i d j:Nat) (w:Bool) (m:da) :dn:=⟨i,some d,some (some j,w),.gH m,[],false⟩
@[simp] theorem atm (n:Nat) (c:U) :(rep n c).length=n:=by simp[rep]
def pM {α:Type} (p:Nat->α->Prop) :cC α->Prop
 | .nil=>True
 | .node l v r=>(∀ x,v=some x->p 0 x)/\pM (fun m=>p (2*m+1)) l/\pM (fun m=>p (2*m+2)) r
theorem JH {α:Type}:∀ (t:cC α) (p:Nat->α->Prop),pM p t->∀ n x,t.get n=some x->p n x
 | .nil,p,h,n,x,af=>by cases af
 | .node l v r,p,h,n,x,af=>by
  obtain⟨ad,ae,aj⟩:=h;unfold cC.get at af;by_cases aI:n=0
  ·subst aI; exact ad x af
  ·rw[ka aI] at af;simp only at af;by_cases au:n % 2=1
   ·rw[s8 au] at af;have:=JH l _ ae _ x af;rw[show 2*(n / 2)+1=n by omega] at this; exact this
   ·rw[ka au] at af;have:=JH r _ aj _ x af;rw[show 2*(n / 2 - 1)+2=n by omega] at this; exact this
theorem bH {α:Type} {p:Nat->α->Prop}:pM p .nil:=trivial
theorem ft {α:Type} {p:Nat->α->Prop} {l r:cC α} (ad:pM (fun m=>p (2*m+1)) l) (ae:pM (fun m=>p (2*m+2)) r) :pM p (.node l none r) :=⟨fun x h=>(by cases h),ad,ae⟩
theorem cq {α:Type} {p:Nat->α->Prop} {l r:cC α} {x:α} (af:p 0 x) (ad:pM (fun m=>p (2*m+1)) l) (ae:pM (fun m=>p (2*m+2)) r) :pM p (.node l (some x) r) :=⟨fun y h=>(by cases h; exact af),ad,ae⟩
abbrev Fy (P:Program) (f:Nat) (x:fB × List da) :Prop:=vP P f=some x.1/\vQ P f=some x.2
theorem amA {P:Program} {t:cC (fB × List da)} (h:pM (Fy P) t) :B2 P (fun f=>t.get f) :=fun f c n1 af=>JH t _ h f (c,n1) af
def u {w:Nat} (a:BitVec w) :Int:=(a.toNat:Int)
@[simp] theorem mB {w:Nat} (a:BitVec w) :BitVec.ofInt w (u a)=a:=by
 unfold u;rw[BitVec.ofInt_natCast,BitVec.ofNat_toNat,BitVec.setWidth_eq]
@[simp] theorem xl {w:Nat} (a b:BitVec w) :(u a=u b)<->a=b:=⟨fun h=>BitVec.eq_of_toNat_eq (by unfold u at h; exact Int.ofNat_inj.1 h),fun h=>by rw[h]⟩
@[simp] theorem at2 {w:Nat} (a b:BitVec w) :(u a<u b)<->a<b:=by unfold u; rw[Int.ofNat_lt]; rfl
@[simp] theorem at1 {w:Nat} (a b:BitVec w) :(u a<=u b)<->a<=b:=by unfold u; rw[Int.ofNat_le]; rfl
@[simp] theorem at3 {w:Nat} (a:BitVec w) :0<=u a:=Int.natCast_nonneg _
@[simp] theorem at4 {w:Nat} (a:BitVec w) :(u a).toNat=a.toNat:=Int.toNat_natCast _
theorem at0 {w:Nat} (a:BitVec w) :u a<2 ^ w:=by
 have:=a.isLt;unfold u
 exact_mod_cast this
@[simp] theorem atb {w:Nat} (a b:Int) :BitVec.ofInt w (a - b)=BitVec.ofInt w a - BitVec.ofInt w b:=by
 rw[Int.sub_eq_add_neg,BitVec.ofInt_add,BitVec.ofInt_neg,BitVec.sub_eq_add_neg]
attribute [simp] BitVec.ofInt_add BitVec.ofInt_mul
theorem qA {w:Nat} (v:Nat) (a:BitVec w) :BitVec.ofInt v (u a)=a.setWidth v:=by
 unfold u;rw[BitVec.ofInt_natCast,BitVec.ofNat_toNat]
section
abbrev bA (a:BitVec 8) :U:=.int .u8 (u a)
@[simp] theorem Fm (n:Int) :IntKind.u8.wrap n=u (BitVec.ofInt 8 n) :=by
 have aP:(2 ^ IntKind.u8.bits:Int)=256:=by decide
 have e3:IntKind.u8.signed=false:=rfl;simp only[IntKind.wrap,aP,e3,Bool.false_and,Bool.false_eq_true,if_false,u,BitVec.toNat_ofInt];have:(2 ^ 8:Nat)=256:=by decide
 rw[this];omega
@[simp] theorem aub (a:Int) :qM .xor (.int .u8 a)=some (.int .u8 (u (~~~(BitVec.ofInt 8 a)))) :=by
 show some (U.int .u8 (IntKind.u8.wrap (u (BitVec.ofInt 8 (255:Int) ^^^ BitVec.ofInt 8 a))))=_;rw[Fm,mB];have:BitVec.ofInt 8 (255:Int)=BitVec.allOnes 8:=by decide
 rw[this,BitVec.allOnes_xor]
theorem aaZ (a:BitVec 8) (k' : IntKind) (n:Nat) :ct .shl .u8 (u a) k' (n:Int)=some (.int .u8 (u (a <<< n))) :=by
 have aI:¬((n:Int)<0) :=by omega
 show (if (n:Int)<0 then none else some (U.int .u8 (IntKind.u8.wrap ((a.toNat:Int)*2 ^ min (n:Int).toNat 8))))=_;rw[if_neg aI];congr 2;rw[Fm,Int.toNat_natCast];unfold u;congr 1;have:((a.toNat:Int)*2 ^ min n 8)=((a.toNat*2 ^ min n 8:Nat) :Int) :=by rw[Int.natCast_mul,Int.natCast_pow]; rfl
 rw[this,BitVec.ofInt_natCast,BitVec.toNat_ofNat,BitVec.toNat_shiftLeft,Nat.shiftLeft_eq];rcases Nat.lt_or_ge n 8 with h | h
 ·rw[Nat.min_eq_left (Nat.le_of_lt h)]
 ·rw[Nat.min_eq_right h];have ad:a.toNat*2 ^ 8 % 2 ^ 8=0:=Nat.mul_mod_left _ _;obtain⟨m,rfl⟩:=Nat.exists_eq_add_of_le h;rw[ad,Nat.pow_add,Nat.mul_left_comm,Nat.mul_mod_right]
theorem aa2 (a:BitVec 8) (k' : IntKind) (n:Nat) :ct .shr .u8 (u a) k' (n:Int)=some (.int .u8 (u (a >>> n))) :=by
 have aI:¬((n:Int)<0) :=by omega
 show (if (n:Int)<0 then none else some (U.int .u8 ((a.toNat:Int).fdiv (2 ^ min (n:Int).toNat 8))))=_;rw[if_neg aI];congr 2;rw[Int.toNat_natCast];unfold u;have:((2:Int) ^ min n 8)=((2 ^ min n 8:Nat) :Int) :=by rw[Int.natCast_pow]; rfl
 rw[this,Int.fdiv_eq_ediv_of_nonneg _ (Int.natCast_nonneg _),<-Int.natCast_ediv,BitVec.toNat_ushiftRight,Nat.shiftRight_eq_div_pow];congr 1;rcases Nat.lt_or_ge n 8 with h | h
 ·rw[Nat.min_eq_left (Nat.le_of_lt h)]
 ·rw[Nat.min_eq_right h,Nat.div_eq_of_lt a.isLt,Nat.div_eq_of_lt (Nat.lt_of_lt_of_le a.isLt (Nat.pow_le_pow_right (by omega) h))]
@[simp] theorem aoH (a:BitVec 8) (k' : IntKind) (n:Int) (h:0<=n) :ct .shl .u8 (u a) k' n=some (.int .u8 (u (a <<< n.toNat))) :=by
 obtain⟨m,rfl⟩:=Int.eq_ofNat_of_zero_le h;exact aaZ a k' m
@[simp] theorem aoL (a:BitVec 8) (k' : IntKind) (n:Int) (h:0<=n) :ct .shr .u8 (u a) k' n=some (.int .u8 (u (a >>> n.toNat))) :=by
 obtain⟨m,rfl⟩:=Int.eq_ofNat_of_zero_le h;exact aa2 a k' m
@[simp] theorem aoD (a b:BitVec 8) (h:b≠0#8) :ct .rem .u8 (u a) .u8 (u b)=some (.int .u8 (u (a % b))) :=by
 have ag:(b.toNat:Int)≠0:=fun e=>h (BitVec.eq_of_toNat_eq (by simpa using e))
 show (if IntKind.u8=IntKind.u8/\(b.toNat:Int)≠0 then some (U.int .u8 ((a.toNat:Int).tmod b.toNat)) else none)=_;rw[if_pos ⟨rfl,ag⟩];unfold u;rw[BitVec.toNat_umod];rfl
@[simp] theorem aoR (a b:Int) :ct .xor .u8 a .u8 b=some (.int .u8 (u (BitVec.ofInt 8 a ^^^ BitVec.ofInt 8 b))) :=by
 show some (U.int .u8 (IntKind.u8.wrap (u (BitVec.ofInt 8 a ^^^ BitVec.ofInt 8 b))))=_;rw[Fm,mB]
@[simp] theorem aoB (a b:Int) :ct .or .u8 a .u8 b=some (.int .u8 (u (BitVec.ofInt 8 a ||| BitVec.ofInt 8 b))) :=by
 show some (U.int .u8 (IntKind.u8.wrap (u (BitVec.ofInt 8 a ||| BitVec.ofInt 8 b))))=_;rw[Fm,mB]
@[simp] theorem aoj (a b:Int) :ct .and .u8 a .u8 b=some (.int .u8 (u (BitVec.ofInt 8 a &&& BitVec.ofInt 8 b))) :=by
 show some (U.int .u8 (IntKind.u8.wrap (u (BitVec.ofInt 8 a &&& BitVec.ofInt 8 b))))=_;rw[Fm,mB]
end

section
abbrev F3 (a:BitVec 16) :U:=.int .u16 (u a)
@[simp] theorem Fl (n:Int) :IntKind.u16.wrap n=u (BitVec.ofInt 16 n) :=by
 have aP:(2 ^ IntKind.u16.bits:Int)=65536:=by decide
 have e3:IntKind.u16.signed=false:=rfl;simp only[IntKind.wrap,aP,e3,Bool.false_and,Bool.false_eq_true,if_false,u,BitVec.toNat_ofInt];have:(2 ^ 16:Nat)=65536:=by decide
 rw[this];omega
@[simp] theorem at8 (a:Int) :qM .xor (.int .u16 a)=some (.int .u16 (u (~~~(BitVec.ofInt 16 a)))) :=by
 show some (U.int .u16 (IntKind.u16.wrap (u (BitVec.ofInt 16 (65535:Int) ^^^ BitVec.ofInt 16 a))))=_;rw[Fl,mB];have:BitVec.ofInt 16 (65535:Int)=BitVec.allOnes 16:=by decide
 rw[this,BitVec.allOnes_xor]
theorem aaX (a:BitVec 16) (k' : IntKind) (n:Nat) :ct .shl .u16 (u a) k' (n:Int)=some (.int .u16 (u (a <<< n))) :=by
 have aI:¬((n:Int)<0) :=by omega
 show (if (n:Int)<0 then none else some (U.int .u16 (IntKind.u16.wrap ((a.toNat:Int)*2 ^ min (n:Int).toNat 16))))=_;rw[if_neg aI];congr 2;rw[Fl,Int.toNat_natCast];unfold u;congr 1;have:((a.toNat:Int)*2 ^ min n 16)=((a.toNat*2 ^ min n 16:Nat) :Int) :=by rw[Int.natCast_mul,Int.natCast_pow]; rfl
 rw[this,BitVec.ofInt_natCast,BitVec.toNat_ofNat,BitVec.toNat_shiftLeft,Nat.shiftLeft_eq];rcases Nat.lt_or_ge n 16 with h | h
 ·rw[Nat.min_eq_left (Nat.le_of_lt h)]
 ·rw[Nat.min_eq_right h];have ad:a.toNat*2 ^ 16 % 2 ^ 16=0:=Nat.mul_mod_left _ _;obtain⟨m,rfl⟩:=Nat.exists_eq_add_of_le h;rw[ad,Nat.pow_add,Nat.mul_left_comm,Nat.mul_mod_right]
theorem aa0 (a:BitVec 16) (k' : IntKind) (n:Nat) :ct .shr .u16 (u a) k' (n:Int)=some (.int .u16 (u (a >>> n))) :=by
 have aI:¬((n:Int)<0) :=by omega
 show (if (n:Int)<0 then none else some (U.int .u16 ((a.toNat:Int).fdiv (2 ^ min (n:Int).toNat 16))))=_;rw[if_neg aI];congr 2;rw[Int.toNat_natCast];unfold u;have:((2:Int) ^ min n 16)=((2 ^ min n 16:Nat) :Int) :=by rw[Int.natCast_pow]; rfl
 rw[this,Int.fdiv_eq_ediv_of_nonneg _ (Int.natCast_nonneg _),<-Int.natCast_ediv,BitVec.toNat_ushiftRight,Nat.shiftRight_eq_div_pow];congr 1;rcases Nat.lt_or_ge n 16 with h | h
 ·rw[Nat.min_eq_left (Nat.le_of_lt h)]
 ·rw[Nat.min_eq_right h,Nat.div_eq_of_lt a.isLt,Nat.div_eq_of_lt (Nat.lt_of_lt_of_le a.isLt (Nat.pow_le_pow_right (by omega) h))]
@[simp] theorem aoE (a:BitVec 16) (k' : IntKind) (n:Int) (h:0<=n) :ct .shl .u16 (u a) k' n=some (.int .u16 (u (a <<< n.toNat))) :=by
 obtain⟨m,rfl⟩:=Int.eq_ofNat_of_zero_le h;exact aaX a k' m
@[simp] theorem aoI (a:BitVec 16) (k' : IntKind) (n:Int) (h:0<=n) :ct .shr .u16 (u a) k' n=some (.int .u16 (u (a >>> n.toNat))) :=by
 obtain⟨m,rfl⟩:=Int.eq_ofNat_of_zero_le h;exact aa0 a k' m
@[simp] theorem aoC (a b:BitVec 16) (h:b≠0#16) :ct .rem .u16 (u a) .u16 (u b)=some (.int .u16 (u (a % b))) :=by
 have ag:(b.toNat:Int)≠0:=fun e=>h (BitVec.eq_of_toNat_eq (by simpa using e))
 show (if IntKind.u16=IntKind.u16/\(b.toNat:Int)≠0 then some (U.int .u16 ((a.toNat:Int).tmod b.toNat)) else none)=_;rw[if_pos ⟨rfl,ag⟩];unfold u;rw[BitVec.toNat_umod];rfl
@[simp] theorem aoO (a b:Int) :ct .xor .u16 a .u16 b=some (.int .u16 (u (BitVec.ofInt 16 a ^^^ BitVec.ofInt 16 b))) :=by
 show some (U.int .u16 (IntKind.u16.wrap (u (BitVec.ofInt 16 a ^^^ BitVec.ofInt 16 b))))=_;rw[Fl,mB]
@[simp] theorem aoy (a b:Int) :ct .or .u16 a .u16 b=some (.int .u16 (u (BitVec.ofInt 16 a ||| BitVec.ofInt 16 b))) :=by
 show some (U.int .u16 (IntKind.u16.wrap (u (BitVec.ofInt 16 a ||| BitVec.ofInt 16 b))))=_;rw[Fl,mB]
@[simp] theorem aoh (a b:Int) :ct .and .u16 a .u16 b=some (.int .u16 (u (BitVec.ofInt 16 a &&& BitVec.ofInt 16 b))) :=by
 show some (U.int .u16 (IntKind.u16.wrap (u (BitVec.ofInt 16 a &&& BitVec.ofInt 16 b))))=_;rw[Fl,mB]
end

section
abbrev bu (a:BitVec 32) :U:=.int .u32 (u a)
@[simp] theorem BR (n:Int) :IntKind.u32.wrap n=u (BitVec.ofInt 32 n) :=by
 have aP:(2 ^ IntKind.u32.bits:Int)=4294967296:=by decide
 have e3:IntKind.u32.signed=false:=rfl;simp only[IntKind.wrap,aP,e3,Bool.false_and,Bool.false_eq_true,if_false,u,BitVec.toNat_ofInt];have:(2 ^ 32:Nat)=4294967296:=by decide
 rw[this];omega
@[simp] theorem at9 (a:Int) :qM .xor (.int .u32 a)=some (.int .u32 (u (~~~(BitVec.ofInt 32 a)))) :=by
 show some (U.int .u32 (IntKind.u32.wrap (u (BitVec.ofInt 32 (4294967295:Int) ^^^ BitVec.ofInt 32 a))))=_;rw[BR,mB];have:BitVec.ofInt 32 (4294967295:Int)=BitVec.allOnes 32:=by decide
 rw[this,BitVec.allOnes_xor]
theorem aaY (a:BitVec 32) (k' : IntKind) (n:Nat) :ct .shl .u32 (u a) k' (n:Int)=some (.int .u32 (u (a <<< n))) :=by
 have aI:¬((n:Int)<0) :=by omega
 show (if (n:Int)<0 then none else some (U.int .u32 (IntKind.u32.wrap ((a.toNat:Int)*2 ^ min (n:Int).toNat 32))))=_;rw[if_neg aI];congr 2;rw[BR,Int.toNat_natCast];unfold u;congr 1;have:((a.toNat:Int)*2 ^ min n 32)=((a.toNat*2 ^ min n 32:Nat) :Int) :=by rw[Int.natCast_mul,Int.natCast_pow]; rfl
 rw[this,BitVec.ofInt_natCast,BitVec.toNat_ofNat,BitVec.toNat_shiftLeft,Nat.shiftLeft_eq];rcases Nat.lt_or_ge n 32 with h | h
 ·rw[Nat.min_eq_left (Nat.le_of_lt h)]
 ·rw[Nat.min_eq_right h];have ad:a.toNat*2 ^ 32 % 2 ^ 32=0:=Nat.mul_mod_left _ _;obtain⟨m,rfl⟩:=Nat.exists_eq_add_of_le h;rw[ad,Nat.pow_add,Nat.mul_left_comm,Nat.mul_mod_right]
theorem aa1 (a:BitVec 32) (k' : IntKind) (n:Nat) :ct .shr .u32 (u a) k' (n:Int)=some (.int .u32 (u (a >>> n))) :=by
 have aI:¬((n:Int)<0) :=by omega
 show (if (n:Int)<0 then none else some (U.int .u32 ((a.toNat:Int).fdiv (2 ^ min (n:Int).toNat 32))))=_;rw[if_neg aI];congr 2;rw[Int.toNat_natCast];unfold u;have:((2:Int) ^ min n 32)=((2 ^ min n 32:Nat) :Int) :=by rw[Int.natCast_pow]; rfl
 rw[this,Int.fdiv_eq_ediv_of_nonneg _ (Int.natCast_nonneg _),<-Int.natCast_ediv,BitVec.toNat_ushiftRight,Nat.shiftRight_eq_div_pow];congr 1;rcases Nat.lt_or_ge n 32 with h | h
 ·rw[Nat.min_eq_left (Nat.le_of_lt h)]
 ·rw[Nat.min_eq_right h,Nat.div_eq_of_lt a.isLt,Nat.div_eq_of_lt (Nat.lt_of_lt_of_le a.isLt (Nat.pow_le_pow_right (by omega) h))]
@[simp] theorem aoF (a:BitVec 32) (k' : IntKind) (n:Int) (h:0<=n) :ct .shl .u32 (u a) k' n=some (.int .u32 (u (a <<< n.toNat))) :=by
 obtain⟨m,rfl⟩:=Int.eq_ofNat_of_zero_le h;exact aaY a k' m
@[simp] theorem aoJ (a:BitVec 32) (k' : IntKind) (n:Int) (h:0<=n) :ct .shr .u32 (u a) k' n=some (.int .u32 (u (a >>> n.toNat))) :=by
 obtain⟨m,rfl⟩:=Int.eq_ofNat_of_zero_le h;exact aa1 a k' m
@[simp] theorem aaV (a b:BitVec 32) (h:b≠0#32) :ct .rem .u32 (u a) .u32 (u b)=some (.int .u32 (u (a % b))) :=by
 have ag:(b.toNat:Int)≠0:=fun e=>h (BitVec.eq_of_toNat_eq (by simpa using e))
 show (if IntKind.u32=IntKind.u32/\(b.toNat:Int)≠0 then some (U.int .u32 ((a.toNat:Int).tmod b.toNat)) else none)=_;rw[if_pos ⟨rfl,ag⟩];unfold u;rw[BitVec.toNat_umod];rfl
@[simp] theorem aoP (a b:Int) :ct .xor .u32 a .u32 b=some (.int .u32 (u (BitVec.ofInt 32 a ^^^ BitVec.ofInt 32 b))) :=by
 show some (U.int .u32 (IntKind.u32.wrap (u (BitVec.ofInt 32 a ^^^ BitVec.ofInt 32 b))))=_;rw[BR,mB]
@[simp] theorem aoz (a b:Int) :ct .or .u32 a .u32 b=some (.int .u32 (u (BitVec.ofInt 32 a ||| BitVec.ofInt 32 b))) :=by
 show some (U.int .u32 (IntKind.u32.wrap (u (BitVec.ofInt 32 a ||| BitVec.ofInt 32 b))))=_;rw[BR,mB]
@[simp] theorem aoi (a b:Int) :ct .and .u32 a .u32 b=some (.int .u32 (u (BitVec.ofInt 32 a &&& BitVec.ofInt 32 b))) :=by
 show some (U.int .u32 (IntKind.u32.wrap (u (BitVec.ofInt 32 a &&& BitVec.ofInt 32 b))))=_;rw[BR,mB]
end

section
abbrev dS (a:BitVec 64) :U:=.int .u64 (u a)
@[simp] theorem zr (n:Int) :IntKind.u64.wrap n=u (BitVec.ofInt 64 n) :=by
 have aP:(2 ^ IntKind.u64.bits:Int)=18446744073709551616:=by decide
 have e3:IntKind.u64.signed=false:=rfl;simp only[IntKind.wrap,aP,e3,Bool.false_and,Bool.false_eq_true,if_false,u,BitVec.toNat_ofInt];have:(2 ^ 64:Nat)=18446744073709551616:=by decide
 rw[this];omega
@[simp] theorem aua (a:Int) :qM .xor (.int .u64 a)=some (.int .u64 (u (~~~(BitVec.ofInt 64 a)))) :=by
 show some (U.int .u64 (IntKind.u64.wrap (u (BitVec.ofInt 64 (18446744073709551615:Int) ^^^ BitVec.ofInt 64 a))))=_;rw[zr,mB];have:BitVec.ofInt 64 (18446744073709551615:Int)=BitVec.allOnes 64:=by decide
 rw[this,BitVec.allOnes_xor]
theorem P3 (a:BitVec 64) (k' : IntKind) (n:Nat) :ct .shl .u64 (u a) k' (n:Int)=some (.int .u64 (u (a <<< n))) :=by
 have aI:¬((n:Int)<0) :=by omega
 show (if (n:Int)<0 then none else some (U.int .u64 (IntKind.u64.wrap ((a.toNat:Int)*2 ^ min (n:Int).toNat 64))))=_;rw[if_neg aI];congr 2;rw[zr,Int.toNat_natCast];unfold u;congr 1;have:((a.toNat:Int)*2 ^ min n 64)=((a.toNat*2 ^ min n 64:Nat) :Int) :=by rw[Int.natCast_mul,Int.natCast_pow]; rfl
 rw[this,BitVec.ofInt_natCast,BitVec.toNat_ofNat,BitVec.toNat_shiftLeft,Nat.shiftLeft_eq];rcases Nat.lt_or_ge n 64 with h | h
 ·rw[Nat.min_eq_left (Nat.le_of_lt h)]
 ·rw[Nat.min_eq_right h];have ad:a.toNat*2 ^ 64 % 2 ^ 64=0:=Nat.mul_mod_left _ _;obtain⟨m,rfl⟩:=Nat.exists_eq_add_of_le h;rw[ad,Nat.pow_add,Nat.mul_left_comm,Nat.mul_mod_right]
theorem vD (a:BitVec 64) (k' : IntKind) (n:Nat) :ct .shr .u64 (u a) k' (n:Int)=some (.int .u64 (u (a >>> n))) :=by
 have aI:¬((n:Int)<0) :=by omega
 show (if (n:Int)<0 then none else some (U.int .u64 ((a.toNat:Int).fdiv (2 ^ min (n:Int).toNat 64))))=_;rw[if_neg aI];congr 2;rw[Int.toNat_natCast];unfold u;have:((2:Int) ^ min n 64)=((2 ^ min n 64:Nat) :Int) :=by rw[Int.natCast_pow]; rfl
 rw[this,Int.fdiv_eq_ediv_of_nonneg _ (Int.natCast_nonneg _),<-Int.natCast_ediv,BitVec.toNat_ushiftRight,Nat.shiftRight_eq_div_pow];congr 1;rcases Nat.lt_or_ge n 64 with h | h
 ·rw[Nat.min_eq_left (Nat.le_of_lt h)]
 ·rw[Nat.min_eq_right h,Nat.div_eq_of_lt a.isLt,Nat.div_eq_of_lt (Nat.lt_of_lt_of_le a.isLt (Nat.pow_le_pow_right (by omega) h))]
@[simp] theorem aoG (a:BitVec 64) (k' : IntKind) (n:Int) (h:0<=n) :ct .shl .u64 (u a) k' n=some (.int .u64 (u (a <<< n.toNat))) :=by
 obtain⟨m,rfl⟩:=Int.eq_ofNat_of_zero_le h;exact P3 a k' m
@[simp] theorem aoK (a:BitVec 64) (k' : IntKind) (n:Int) (h:0<=n) :ct .shr .u64 (u a) k' n=some (.int .u64 (u (a >>> n.toNat))) :=by
 obtain⟨m,rfl⟩:=Int.eq_ofNat_of_zero_le h;exact vD a k' m
@[simp] theorem zM (a b:BitVec 64) (h:b≠0#64) :ct .rem .u64 (u a) .u64 (u b)=some (.int .u64 (u (a % b))) :=by
 have ag:(b.toNat:Int)≠0:=fun e=>h (BitVec.eq_of_toNat_eq (by simpa using e))
 show (if IntKind.u64=IntKind.u64/\(b.toNat:Int)≠0 then some (U.int .u64 ((a.toNat:Int).tmod b.toNat)) else none)=_;rw[if_pos ⟨rfl,ag⟩];unfold u;rw[BitVec.toNat_umod];rfl
@[simp] theorem aoQ (a b:Int) :ct .xor .u64 a .u64 b=some (.int .u64 (u (BitVec.ofInt 64 a ^^^ BitVec.ofInt 64 b))) :=by
 show some (U.int .u64 (IntKind.u64.wrap (u (BitVec.ofInt 64 a ^^^ BitVec.ofInt 64 b))))=_;rw[zr,mB]
@[simp] theorem aoA (a b:Int) :ct .or .u64 a .u64 b=some (.int .u64 (u (BitVec.ofInt 64 a ||| BitVec.ofInt 64 b))) :=by
 show some (U.int .u64 (IntKind.u64.wrap (u (BitVec.ofInt 64 a ||| BitVec.ofInt 64 b))))=_;rw[zr,mB]
@[simp] theorem PM (a b:Int) :ct .and .u64 a .u64 b=some (.int .u64 (u (BitVec.ofInt 64 a &&& BitVec.ofInt 64 b))) :=by
 show some (U.int .u64 (IntKind.u64.wrap (u (BitVec.ofInt 64 a &&& BitVec.ofInt 64 b))))=_;rw[zr,mB]
end
@[simp] theorem apq (a:BitVec 8) :BitVec.ofInt 16 (u a)=a.setWidth 16:=qA 16 a
@[simp] theorem apr (a:BitVec 8) :BitVec.ofInt 32 (u a)=a.setWidth 32:=qA 32 a
@[simp] theorem aps (a:BitVec 8) :BitVec.ofInt 64 (u a)=a.setWidth 64:=qA 64 a
@[simp] theorem api (a:BitVec 16) :BitVec.ofInt 8 (u a)=a.setWidth 8:=qA 8 a
@[simp] theorem apg (a:BitVec 16) :BitVec.ofInt 32 (u a)=a.setWidth 32:=qA 32 a
@[simp] theorem aph (a:BitVec 16) :BitVec.ofInt 64 (u a)=a.setWidth 64:=qA 64 a
@[simp] theorem apl (a:BitVec 32) :BitVec.ofInt 8 (u a)=a.setWidth 8:=qA 8 a
@[simp] theorem apj (a:BitVec 32) :BitVec.ofInt 16 (u a)=a.setWidth 16:=qA 16 a
@[simp] theorem apk (a:BitVec 32) :BitVec.ofInt 64 (u a)=a.setWidth 64:=qA 64 a
@[simp] theorem apo (a:BitVec 64) :BitVec.ofInt 8 (u a)=a.setWidth 8:=qA 8 a
@[simp] theorem apm (a:BitVec 64) :BitVec.ofInt 16 (u a)=a.setWidth 16:=qA 16 a
@[simp] theorem apn (a:BitVec 64) :BitVec.ofInt 32 (u a)=a.setWidth 32:=qA 32 a
@[simp] theorem at5 {w:Nat}:u (0#w)=0:=by simp[u]
theorem JX (k:Nat) (c:Int) (ah:0<c) (ar:k<9223372036854775808) :ct .quo .i64 (k:Int) .i64 c=some (.int .i64 ((k / c.toNat:Nat) :Int)) :=by
 obtain⟨m,rfl⟩:=Int.eq_ofNat_of_zero_le (Int.le_of_lt ah);have hm:(m:Int)≠0:=by omega
 show (if IntKind.i64=IntKind.i64/\(m:Int)≠0 then some (U.int .i64 (IntKind.i64.wrap ((k:Int).tdiv m))) else none)=_;rw[if_pos ⟨rfl,hm⟩,Int.toNat_natCast];have:((k:Int).tdiv m)=((k / m:Nat) :Int) :=rfl;have ae:=Nat.div_le_self k m;rw[this];generalize k / m=q at ae;rw[wrap_i64 (by omega) (by omega)]
theorem zL (k:Nat) (c:Int) (ah:0<c) :ct .rem .i64 (k:Int) .i64 c=some (.int .i64 ((k % c.toNat:Nat) :Int)) :=by
 obtain⟨m,rfl⟩:=Int.eq_ofNat_of_zero_le (Int.le_of_lt ah);have hm:(m:Int)≠0:=by omega
 show (if IntKind.i64=IntKind.i64/\(m:Int)≠0 then some (U.int .i64 ((k:Int).tmod m)) else none)=_;rw[if_pos ⟨rfl,hm⟩,Int.toNat_natCast];rfl
theorem XO (k:IntKind) (w n:Nat) :rep n (.int k 0)=(List.replicate n (0#w)).map fun x=>.int k (u x) :=by
 simp[rep]
theorem pD {α:Type} (f:α->U) (l:List α) (i:Nat) (x:α) (h:i<l.length) :a8 (l.map f) i [f x]=(l.set i x).map f:=by
 unfold a8;rw[List.set_eq_take_append_cons_drop,if_pos h];simp
theorem n5 {cs vs:List U} (h:vs.length=cs.length) :a8 cs 0 vs=vs:=by
 unfold a8;rw[Nat.zero_add,List.take_zero,List.nil_append,h,List.drop_length,List.append_nil]
theorem aQ {l:ao} {c c' : U} (h:c=c') (ah:c'.closed=true) :jz l c c':=by subst h; exact .same _ ah
theorem Aa {α:Type} {z:Nat}:∀ (es:List (List α)),(∀ e∈es,e.length=z)->∀ (i j:Nat) (e:List α) (c:α),es[i]? = some e->e[j]? = some c->es.flatten[i*z+j]? = some c:=by
 intro es ax
 induction es with
 | nil=>intro i j e c am; simp at am
 | cons x es aR=>
  intro i j e c am ai;have af:x.length=z:=ax x (by simp);cases i with
  | zero=>
   simp only[List.getElem?_cons_zero,Option.some.injEq] at am;subst am;rw[List.flatten_cons,Nat.zero_mul,Nat.zero_add,List.getElem?_append_left (List.getElem?_eq_some_iff.1 ai).1];exact ai
  | succ i=>
   simp only[List.getElem?_cons_succ] at am;rw[List.flatten_cons,List.getElem?_append_right (by rw[af,Nat.succ_mul]; omega),af,show (i+1)*z+j - z=i*z+j by rw[Nat.succ_mul]; omega];exact aR (fun e am=>ax e (by simp[am])) i j e c am ai
inductive tJ (l:ao) :List U->List U->Prop
 | nil:tJ l [] []
 | cons {c c' cs cs'}:gA (bb l) c c'->tJ l cs cs'->tJ l (c::cs) (c'::cs')
theorem tJ.len {l:ao}:∀ {a b:List U},tJ l a b->b.length=a.length
 | _,_,.nil=>rfl
 | _,_,.cons _ h=>by simp[h.len]
theorem tJ.get {l:ao}:∀ {a b:List U},tJ l a b->∀ (j:Nat) (c c' : U),a[j]? = some c->b[j]? = some c'->gA (bb l) c c'
 | _,_,.nil,j,c,c',h,_=>by simp at h
 | _,_,.cons ad ae,j,c,c',h,h'=>by
  cases j with
  | zero=>simp at h h'; subst h h'; exact ad
  | succ j=>exact ae.get j c c' (by simpa using h) (by simpa using h')
theorem l7 {P:Program} {G:Nat->U} {f:FuncId} {args i1:List U} {r:U} {l:ao} {K:U->ao->Prop} (av:bz P G f i1 r) (az:tJ l args i1) (aE:r.flat=true) (h:K r l) :c0 P G f args l (c:=⟨K⟩) :=
 ⟨r,l,.NC av az.len az.get aE,Nat.le_refl _,h⟩
theorem Xg {P:Program} {G:Nat->U} {f:FuncId} {args i1:List U} {r:U} {l:ao} {K:U->ao->Prop} (av:gy P G f i1 r) (az:tJ l args i1) (h:K r l) :c0 P G f args l (c:=⟨K⟩) :=
 ⟨r,l,.ND av az.len az.get,Nat.le_refl _,h⟩
inductive kJ (l:ao) :U->U->Prop
 | flat (c:U) (h:c.flat=true) :kJ l c c
 | aF (cs cs' : List U) (al:cs'.length=cs.length) (h:∀ (j:Nat) (c c' : U),cs[j]? = some c->cs'[j]? = some c'->kJ l c c') :kJ l (.aF cs) (.aF cs')
 | bt (cs cs' : List U) (al:cs'.length=cs.length) (h:∀ (j:Nat) (c c' : U),cs[j]? = some c->cs'[j]? = some c'->kJ l c c') :kJ l (.bt cs) (.bt cs')
 | aq (z b off len cap sz:Nat) (cs:List U) (es:List (List U)) (ag:l[b]? = some (.cells sz cs)) (al:es.length=len) (ax:∀ e∈es,e.length=z)
   (cQ:off+len*z<=cs.length)
   (h:∀ (i j:Nat) (e:List U) (c c' : U),es[i]? = some e->e[j]? = some c'->cs[off+(i*z+j)]? = some c->kJ l c c') :kJ l (.aq z b off len cap sz) (.aZ z es)
 | r8 (z b off cap sz:Nat) :kJ l (.aq z b off 0 cap sz) (.aZ z [])
 | gk (z:Nat) :kJ l (.aZ z []) (.aZ z [])
theorem alc {w:World} {R:Nat->Prop} {B:Nat} {l:ao} {μ:ck} (rel:bN R B w (bb l) μ) :∀ {c c' : U},kJ l c c'->∀ {v:Value},aO w R (bb l) μ c v->ed w (fun k=>B<=k) c' v:=by
 intro c c' az
 induction az with
 | flat c h=>intro v ap; exact SF ap h
 | aF cs cs' al h aR=>
  intro v ap;cases ap with
  | aF _ vs hR ad ap=>
   refine .aF cs' vs (by omega) ad (fun j c' v ai ga=>?_);have aL:j<cs.length:=by rw[<-al]; exact (List.getElem?_eq_some_iff.1 ai).1
   exact aR j cs[j] c' (List.getElem?_eq_getElem aL) ai (ap j cs[j] v (List.getElem?_eq_getElem aL) ga)
 | bt cs cs' al h aR=>
  intro v ap;cases ap with
  | bt _ vs hR ap=>
   refine .bt cs' vs (by omega) (fun j c' v ai ga=>?_);have aL:j<cs.length:=by rw[<-al]; exact (List.getElem?_eq_some_iff.1 ai).1
   exact aR j cs[j] c' (List.getElem?_eq_getElem aL) ai (ap j cs[j] v (List.getElem?_eq_getElem aL) ga)
 | r8 z b off cap sz=>
  intro v ap;cases ap with
  | aq _ _ _ _ _ _ cap' cs m ag hm al au ah=>exact .gk z _ cap'
  | hI _ _ _ _ _ _ cap' a al ah aw=>exact .gk z _ cap'
  | iV _ _ _ _ a cs m ag hm=>exact .gk z a 0
 | gk z=>
  intro v ap;generalize am:([] :List (List U))=es at ap;generalize Ay:U.aZ z es=tR at ap;cases ap<;>cases Ay
  ·subst am; exact .gk z _ _
  ·exact .gk z _ _
 | aq z b off len cap sz cs es ag al ax cQ h aR=>
  intro v ap;have rj:(bb l).f b=.cells sz cs:=lD.2 ag;cases ap with
  | iV _ _ _ _ a hO m dW ku=>
   obtain rfl:=List.length_eq_zero_iff.1 al;exact .gk z a 0
  | hI _ _ _ _ _ _ cap' a al ah aw=>
   exfalso;rcases aw with aw | ⟨n,hO,aw,aL⟩
   ·rw[rj] at aw; cases aw
   ·rw[rj] at aw; cases aw; omega
  | aq _ _ _ _ _ _ cap' hO m dW hm i7 au ah=>
   rw[rj] at dW; cases dW;have iI:=rel.blk b m hm;rw[rj] at iI;obtain⟨cW,dI,arr,t,fa,aX,aC,aE,m0⟩:=iI;have dg:len<=cap':=by rcases ah with ⟨_,h⟩ | ⟨_,h,_⟩<;>omega
   have j0:B<=m.r:=rel.base b m (by rw[rj]; rfl) hm;subst al;have rl:∀ i j,i<es.length->j<z->∃ c v,cs[off+(i*z+j)]? = some c/\arr[m.s+(off+(i*z+j))]? = some v/\v.oneCell'=true/\aO w R (bb l) μ c v:=by
    intro i j ay ai;have aL:off+(i*z+j)<cs.length:=by
     have:i*z+z<=es.length*z:=by rw[<-Nat.succ_mul]; exact Nat.mul_le_mul_right _ ay
     omega
    obtain⟨v,ad,ae,aj⟩:=m0 _ _ (List.getElem?_eq_getElem aL);exact⟨_,v,List.getElem?_eq_getElem aL,ad,ae,aj⟩
   refine .aZ z es m.r (m.s+off) cap' (fun i j=>(arr[m.s+(off+(i*z+j))]?).getD undef) dg ax (fun i j ay ai=>?_) (fun i e am j c' ai=>?_)
   ·obtain⟨c,v,ad,ae,aj,aG⟩:=rl i j ay ai;refine⟨?_,?_,j0,fun ⟨b,m,ad,ae,aj⟩=>by cases ae⟩
    ·simp only[World.cell?,aX,ae,Option.getD_some,Option.isSome_none];rw[show m.s+off+(i*z+j)=m.s+(off+(i*z+j)) by omega,ae]; rfl
    ·rw[ae]; exact aj
   ·have ay:i<es.length:=(List.getElem?_eq_some_iff.1 am).1;have m3:j<z:=by rw[<-ax e (List.mem_of_getElem? am)]; exact (List.getElem?_eq_some_iff.1 ai).1
    obtain⟨c,v,ad,ae,aj,aG⟩:=rl i j ay m3;simp only[ae,Option.getD_some];exact aR i j e c c' am ai ad aG
theorem Bp {P:Program} {G:Nat->U} (fH:P.follows .mixedOrders=true) (ij:∀ g,(G g).closed=true) {f:FuncId} {args:List U} {r:U} (h:c0 P G f args [] (c:=⟨fun qC l=>kJ l qC r⟩)) :gy P G f args r:=by
 obtain⟨qC,l',ad,ae,aj⟩:=h;intro w A vs aw al ap;refine (OB (A:=A) fH ij ad aw al ap).mono ?_;rintro e w' ⟨v,μ',rfl,ag,rel,az⟩;exact⟨v,rfl,ag,alc rel aj az⟩
theorem XE {l:ao} {z b n cap sz:Nat} {es:List (List U)} {rest:List U} (ag:l[b]? = some (.cells sz (es.flatten++rest))) (aD:es.length=n) (ax:∀ e∈es,e.length=z) (ah:∀ e∈es,mf e=true) :kJ l (.aq z b 0 n cap sz) (.aZ z es) :=by
 have hp:=o6 (z:=z) (es:=es) (fun e am=>ax e am);refine .aq z b 0 n cap sz _ es ag aD ax (by rw[List.length_append,hp,aD]; omega) (fun i j e c c' am ai de=>?_);have ay:i<es.length:=(List.getElem?_eq_some_iff.1 am).1;have m3:j<z:=by rw[<-ax e (List.mem_of_getElem? am)]; exact (List.getElem?_eq_some_iff.1 ai).1
 have aL:i*z+j<es.flatten.length:=by
  rw[hp];have:i*z+z<=es.length*z:=by rw[<-Nat.succ_mul]; exact Nat.mul_le_mul_right _ ay
  omega
 have ad:es.flatten[i*z+j]? = some c':=Aa es ax i j e c' am ai;rw[Nat.zero_add,List.getElem?_append_left aL,ad] at de;cases de;exact .flat _ (Ge (ah e (List.mem_of_getElem? am)) j _ ai)
theorem XC {l:ao} {c:U} (h:c.closed=true) :gA (bb l) c c:=.same c h
@[simp] theorem aq4 (n z:Nat) (cs:List U) (k:IntKind) (i:Int) :Ec n z (.aF cs) (.int k i)=if 0<=i/\i<n then cs[i.toNat*z]? else none:=id rfl
@[simp] theorem aq5 (n z:Nat) (cs:List U) (k:IntKind) (i:Int) :Ed n z (.aF cs) (.int k i)=if 0<=i/\i<n then te z cs (i.toNat*z) else none:=id rfl
@[simp] theorem A3 (s:List UInt8) (k:IntKind) (i:Int) :yP (.str s) (.int k i)=if 0<=i then (s[i.toNat]?).map jD else none:=id rfl
theorem alW {α:Type} {l:List α} {i:Nat} {x:α} (h:l[i]? = some x) :l.set i x=l:=by
 obtain⟨ay,rfl⟩:=List.getElem?_eq_some_iff.1 h;exact List.set_getElem_self ay
theorem mS {α:Type} (f:α->U) (aE:∀ x,(f x).closed=true) :∀ l:List α,a5 (l.map f)=true
 | []=>rfl
 | x::l=>by simp only[List.map_cons,a5,aE,mS f aE l,Bool.and_self]
theorem RU {α:Type} (f:α->U) (aE:∀ x,(f x).closed=true) (l:List α) :(U.aF (l.map f)).closed=true:=by simp only[U.closed]; exact mS f aE l
theorem z8 {α:Type} (f:α->U) (aE:∀ x,(f x).flat=true) :∀ l:List α,mf (l.map f)=true
 | []=>rfl
 | x::l=>by simp only[List.map_cons,mf,aE,z8 f aE l,Bool.and_self]
theorem SE {α:Type} (f:α->U) (aE:∀ x,(f x).flat=true) (l:List α) :(U.aF (l.map f)).flat=true:=by simp only[U.flat]; exact z8 f aE l
@[simp] theorem aoU (z:Nat) :tS (.aq z) .aH=some (.int .i64 0) :=id rfl
@[simp] theorem aoT (n z:Nat) (x:U) :tS (.arr n z) x=some (.int .i64 n) :=id rfl
theorem atN (z:Nat) (cJ ay cK:Option U) :fl (.aq z) .aH cJ ay cK=(gO 0 0 cJ ay cK).map fun _=>.aH:=rfl
@[simp] theorem atO (z:Nat) (k:IntKind) :fl (.aq z) .aH none (some (.int k 0)) none=some .aH:=id rfl
theorem zi (z b off len cap sz:Nat) (cJ ay cK:Option U) :fl (.aq z) (.aq z b off len cap sz) cJ ay cK=(gO len cap cJ ay cK).map fun (l,aS,m)=>if m=l then .aq z b (off+l*z) 0 0 sz else .aq z b (off+l*z) (aS - l) (m - l) sz:=by
 simp[fl]
theorem Ij {α:Type} {l:List α} {a:α} (h:l[0]? = some a) :∃ r,l=a::r:=by
 cases l with
 | nil=>simp at h
 | cons x l=>simp at h; subst h; exact⟨l,rfl⟩
theorem amO {α:Type} {l:List α} {b:α} (h:l[1]? = some b) :∃ a r,l=a::b::r:=by
 cases l with
 | nil=>simp at h
 | cons x l=>obtain⟨r,rfl⟩:=Ij (l:=l) (by simpa using h); exact⟨x,r,rfl⟩
theorem Bw (zero:List U) (n:Nat) :(dC zero n).length=n*zero.length:=by
 induction n with
 | zero=>simp[dC]
 | succ n aR=>simp[dC,aR,Nat.succ_mul,Nat.add_comm]
theorem EU (zero:List U) (n:Nat) :dC zero n=(List.replicate n zero).flatten:=by
 induction n with
 | zero=>rfl
 | succ n aR=>rw[dC,aR,List.replicate_succ,List.flatten_cons]
inductive bK (z:Nat) (l:ao) :U->Nat->List (List U)->Prop
 | nil (j:Nat) :bK z l .aH j []
 | aq (j n cap sz:Nat) (cs:List U) (es:List (List U)) (ag:l[j]? = some (.cells sz cs)) (al:cs.length=sz) (aD:es.length=n) (ax:∀ e∈es,e.length=z) (ah:n<=cap) (dg:cap*z<=sz)
   (cW:cs.take (n*z)=es.flatten) :bK z l (.aq z j 0 n cap sz) j es
def cF:U->Bool | .aH=>true | _=>false
theorem kZ {v:U}:cF v=true<->v=.aH:=by cases v<;>simp[cF]
theorem wz {α:Type} {v a6:U} {xs:List α} (h:a6=.aH<->v=.aH/\xs=[]) :cF a6=(cF v&&xs.isEmpty) :=by
 rw[Bool.eq_iff_iff,kZ,h,Bool.and_eq_true,kZ,List.isEmpty_iff]
def tl (z:Nat) (v:U) (es:List (List U)) :U:=match cF v with | true=>.aH | false=>.aZ z es
section
variable {z:Nat} {l l' : ao} {v:U} {j:Nat} {es:List (List U)}
theorem bK.lt (h:bK z l v j es) :v=.aH\/j<l.length:=by
 cases h with
 | nil j=>exact .inl rfl
 | aq j n cap sz cs es ag=>exact .inr (b6 ag)
theorem bK.row (h:bK z l v j es) :∀ e∈es,e.length=z:=by
 cases h with
 | nil j=>intro e am; cases am
 | aq j n cap sz cs es ag al aD ax=>exact ax
theorem bK.cells (h:bK z l v j es) :v.cells=some [v] :=by cases h<;>rfl
theorem bK.len (h:bK z l v j es) :ce (.aq z) v=some (.int .i64 es.length) :=by
 cases h with
 | nil j=>rfl
 | aq j n cap sz cs es ag al aD=>subst aD; rfl
theorem bK.frame (h:bK z l v j es) (ai:j<l.length->l'[j]? = l[j]?) :bK z l' v j es:=by
 cases h with
 | nil j=>exact .nil j
 | aq j n cap sz cs es ag al aD ax ah dg cW=>exact .aq j n cap sz cs es (by rw[ai (b6 ag)]; exact ag) al aD ax ah dg cW
theorem bK.lg (h:bK z l v j es) (ai:v=.aH\/l'[j]? = l[j]?) :bK z l' v j es:=by
 cases h with
 | nil j=>exact .nil j
 | aq j n cap sz cs es ag al aD ax ah dg cW=>
  rcases ai with ai | ai
  ·cases ai
  ·exact .aq j n cap sz cs es (by rw[ai]; exact ag) al aD ax ah dg cW
theorem bK.more (h:bK z l v j es) (x:ao) :bK z (l++x) v j es:=h.frame fun ai=>List.getElem?_append_left ai
theorem bK.contents (h:bK z l v j es) :dD l z v=some (es.flatten,es.length) :=by
 cases h with
 | nil j=>rfl
 | aq j n cap sz cs es ag al aD ax ah dg cW=>subst aD; simp only[dD,ag,and_self,if_true,List.drop_zero,cW]
theorem bK.Iy (h:bK z l v j es) (aE:∀ e∈es,mf e=true) :kJ l v (tl z v es) :=by
 cases h with
 | nil j=>exact .flat _ rfl
 | aq j n cap sz cs es ag al aD ax ah dg cW=>
  show kJ l _ (.aZ z es);refine XE (rest:=cs.drop (n*z)) ?_ aD ax aE;rw[ag,<-cW,List.take_append_drop]
theorem bK.tj (h:bK z l v j es) (aE:∀ e∈es,a5 e=true) :gA (bb l) v (tl z v es) :=by
 cases h with
 | nil j=>exact .same _ rfl
 | aq j n cap sz cs es ag al aD ax ah dg cW=>
  show gA (bb l) _ (.aZ z es);have rz:n*z<=cs.length:=by rw[al]; exact Nat.le_trans (Nat.mul_le_mul_right _ ah) dg
  refine .aq z j 0 n cap sz cs es (lD.2 ag) aD ax (by omega) (fun i k e c c' am ar de=>?_);have ay:i<es.length:=(List.getElem?_eq_some_iff.1 am).1;have yt:k<z:=by rw[<-ax e (List.mem_of_getElem? am)]; exact (List.getElem?_eq_some_iff.1 ar).1
  have aL:i*z+k<n*z:=by
   have:i*z+z<=es.length*z:=by rw[<-Nat.succ_mul]; exact Nat.mul_le_mul_right _ ay
   rw[aD] at this; omega
  have ad:es.flatten[i*z+k]? = some c':=Aa es ax i k e c' am ar;rw[<-cW,List.getElem?_take_of_lt aL] at ad;rw[Nat.zero_add,ad] at de;cases de;exact .same _ (zU (aE e (List.mem_of_getElem? am)) k _ ar)
theorem Ix {l:ao} {z b n cap sz:Nat} {es:List (List U)} {rest:List U} (ag:l[b]? = some (.cells sz (es.flatten++rest))) (aD:es.length=n) (ax:∀ e∈es,e.length=z) (ah:∀ e∈es,a5 e=true) :gA (bb l) (.aq z b 0 n cap sz) (.aZ z es) :=by
 have hp:=o6 (z:=z) (es:=es) (fun e am=>ax e am);refine .aq z b 0 n cap sz _ es (lD.2 ag) aD ax (by rw[List.length_append,hp,aD]; omega) (fun i j e c c' am ai de=>?_);have ay:i<es.length:=(List.getElem?_eq_some_iff.1 am).1;have m3:j<z:=by rw[<-ax e (List.mem_of_getElem? am)]; exact (List.getElem?_eq_some_iff.1 ai).1
 have aL:i*z+j<es.flatten.length:=by
  rw[hp];have:i*z+z<=es.length*z:=by rw[<-Nat.succ_mul]; exact Nat.mul_le_mul_right _ ay
  omega
 have ad:es.flatten[i*z+j]? = some c':=Aa es ax i j e c' am ai;rw[Nat.zero_add,List.getElem?_append_left aL,ad] at de;cases de;exact .same _ (zU (ah e (List.mem_of_getElem? am)) j _ ai)
theorem Pt (h:bK z l v j es) {by_ m:Nat} {xs:List (List U)} (hm:xs.length=m) (uH:∀ e∈xs,e.length=z) (aI:z≠0) (dQ:by_≠0) (dL:(es.length+m)*by_<=cw) :
  ∃ a6 b7 l',jB l z by_ v xs.flatten m=some (a6,l')/\bK z l' a6 b7 (es++xs)/\l.length<=l'.length/\(∀ b,b<l.length->b≠j->l'[b]? = l[b]?)/\(b7=j\/l.length<=b7)/\(a6=.aH<->v=.aH/\xs=[]) :=by
 by_cases mr:m=0
 ·have af:xs=[] :=List.length_eq_zero_iff.1 (by omega);subst af;refine⟨v,j,l,?_,by simpa using h,Nat.le_refl _,fun _ _ _=>rfl,.inl rfl,by simp⟩;unfold jB;rw[if_pos mr];cases h<;>rfl
 have bd:xs.flatten.length=m*z:=by rw[o6 uH,hm]
 have qq:∀ e∈es++xs,e.length=z:=fun e am=>by
  rcases List.mem_append.1 am with ad | ad
  ·exact h.row e ad
  ·exact uH e ad
 have bP:xs≠[] :=fun af=>mr (by rw[<-hm,af]; rfl)
 cases h with
 | nil j=>
  refine⟨.aq z l.length 0 m m (m*z),l.length,l++[.cells (m*z) xs.flatten],?_,?_,by simp,fun b ag _=>List.getElem?_append_left ag,.inr (Nat.le_refl _),by simp[bP]⟩
  ·unfold jB;rw[if_neg mr,if_neg (by omega)];simp only;rw[if_pos (by simpa using dL)]
  ·refine .aq _ _ _ _ xs.flatten _ (by simp) bd (by simpa using hm) qq (Nat.le_refl _) (Nat.le_refl _) ?_;rw[List.take_of_length_le (by omega)]; rfl
 | aq j n cap sz cs es ag al aD ax ah dg cW=>
  subst aD;have rz:es.length*z<=cap*z:=Nat.mul_le_mul_right _ ah;have Hf:(es++xs).length=es.length+m:=by simp[hm]
  have hp:(es++xs).flatten=es.flatten++xs.flatten:=by simp
  have AB:es.flatten.length=es.length*z:=o6 ax;have j1:jB l z by_ (.aq z j 0 es.length cap sz) xs.flatten m =
    if es.length+m<=cap then some (.aq z j 0 (es.length+m) cap sz,l.set j (.cells sz (a8 cs (es.length*z) xs.flatten)))
    else if cap*z<sz then some (.aq z l.length 0 (es.length+m) (es.length+m) ((es.length+m)*z),l++[.cells ((es.length+m)*z) (es.flatten++xs.flatten)])
    else some (.aq z j 0 (es.length+m) (es.length+m) ((es.length+m)*z),l.set j (.cells ((es.length+m)*z) (es.flatten++xs.flatten))) :=by
   unfold jB;rw[if_neg mr,if_neg (by omega)];simp only[ag];rw[if_pos ⟨trivial,trivial,dL⟩];simp only[Nat.zero_add,List.drop_zero,cW,if_true]
  rw[j1];have eK:=b6 ag;split
  ·rename_i ad;have afS:(es.length+m)*z<=cap*z:=Nat.mul_le_mul_right _ ad;rw[Nat.add_mul] at afS;refine⟨_,j,_,rfl,?_,by simp,fun b bO pd=>by rw[List.getElem?_set_ne (fun e=>pd e.symm)],.inl rfl,by simp⟩;refine .aq j _ cap sz (a8 cs (es.length*z) xs.flatten) _ (by rw[List.getElem?_set_self eK]) ?_ Hf qq ad dg ?_
   ·rw[xd (by omega)]; omega
   ·rw[hp];unfold a8;rw[cW,List.take_append_of_le_length (by simp[AB,bd,Nat.add_mul]),List.take_of_length_le (by simp[AB,bd,Nat.add_mul])]
  ·split
   ·refine⟨_,l.length,_,rfl,?_,by simp,fun b bO _=>List.getElem?_append_left bO,.inr (Nat.le_refl _),by simp⟩;refine .aq _ _ _ _ (es.flatten++xs.flatten) _ (by simp) (by simp[AB,bd,Nat.add_mul]) Hf qq (Nat.le_refl _) (Nat.le_refl _) ?_;rw[hp,List.take_of_length_le (by simp[AB,bd,Nat.add_mul])]
   ·refine⟨_,j,_,rfl,?_,by simp,fun b bO pd=>by rw[List.getElem?_set_ne (fun e=>pd e.symm)],.inl rfl,by simp⟩;refine .aq j _ _ _ (es.flatten++xs.flatten) _ (by rw[List.getElem?_set_self eK]) (by simp[AB,bd,Nat.add_mul]) Hf qq (Nat.le_refl _) (Nat.le_refl _) ?_;rw[hp,List.take_of_length_le (by simp[AB,bd,Nat.add_mul])]
theorem o0 (h:bK z l v j es) {by_:Nat} {x:U} {xs:List (List U)} (af:dD l z x=some (xs.flatten,xs.length)) (uH:∀ e∈xs,e.length=z) (aI:z≠0) (dQ:by_≠0) (dL:(es.length+xs.length)*by_<=cw) :
  ∃ a6 b7 l',gX l z by_ v x=some (a6,l')/\bK z l' a6 b7 (es++xs)/\l.length<=l'.length/\(∀ b,b<l.length->b≠j->l'[b]? = l[b]?)/\(b7=j\/l.length<=b7)/\(a6=.aH<->v=.aH/\xs=[]) :=by
 unfold gX;rw[af];exact Pt h rfl uH aI dQ dL
theorem aau (h:bK z l v j es) {by_ n:Nat} {k:IntKind} {zero:List U} (jn:zero.length=z) (aI:z≠0) (dQ:by_≠0) (aD:n<9223372036854775808) (dL:(es.length+n)*by_<=cw) :
  ∃ a6 b7 l',q4 l z by_ zero v (.int k (n:Int))=some (a6,l')/\bK z l' a6 b7 (es++List.replicate n zero)/\l.length<=l'.length/\(∀ b,b<l.length->b≠j->l'[b]? = l[b]?)/\(b7=j\/l.length<=b7)/\(a6=.aH<->v=.aH/\n=0) :=by
 have:=Pt h (xs:=List.replicate n zero) (m:=n) (by simp) (fun e am=>by rw[(List.mem_replicate.1 am).2,jn]) aI dQ dL;obtain⟨a6,b7,l',ad,ae⟩:=this;refine⟨a6,b7,l',?_,by simpa [List.replicate_eq_nil_iff] using ae⟩;unfold q4;simp only[Int.toNat_natCast];rw[if_pos ⟨by omega,by omega,by have:=Nat.le_trans (Nat.mul_le_mul_right by_ (Nat.le_add_left n es.length)) dL; exact this⟩,EU];exact ad
theorem aax {l:ao} {z by_ n:Nat} {v a6:U} {xs:List U} {pre rest:ao} {l' : ao} (ap:v=.aH\/∃ j n cap sz,v=.aq z j 0 n cap sz/\pre.length<=j) (h:jB (pre++rest) z by_ v xs n=some (a6,l')) :
  ∃ tk,l'=pre++tk:=by
 unfold jB at h;by_cases aD:n=0
 ·rw[if_pos aD] at h;rcases ap with rfl | ⟨j,m,cap,sz,rfl,ai⟩<;>(cases h; exact⟨_,rfl⟩)
 rw[if_neg aD] at h;by_cases aI:z=0\/by_=0
 ·rw[if_pos aI] at h; cases h
 rw[if_neg aI] at h;rcases ap with rfl | ⟨j,m,cap,sz,rfl,ai⟩
 ·simp only at h;split at h
  ·cases h; exact⟨_,by rw[List.append_assoc]⟩
  ·cases h
 ·simp only at h;split at h
  ·split at h
   ·split at h
    ·cases h; exact⟨_,by rw[List.set_append_right _ _ ai]⟩
    ·split at h
     ·cases h; exact⟨_,by rw[List.append_assoc]⟩
     ·split at h
      ·cases h; exact⟨_,by rw[List.set_append_right _ _ ai]⟩
      ·rename_i aS; exact absurd trivial aS
   ·cases h
  ·cases h
theorem xP {z by_:Nat} {v:U} {j:Nat} {es:List (List U)} {pre rest:ao} (h:bK z (pre++rest) v j es) (ai:v=.aH\/pre.length<=j) {x:U} {xs:List (List U)} (af:dD (pre++rest) z x=some (xs.flatten,xs.length)) (uH:∀ e∈xs,e.length=z) (aI:z≠0) (dQ:by_≠0)
  (dL:(es.length+xs.length)*by_<=cw) :
  ∃ a6 b7 tk,gX (pre++rest) z by_ v x=some (a6,pre++tk)/\bK z (pre++tk) a6 b7 (es++xs)/\(a6=.aH\/pre.length<=b7)/\cF a6=(cF v&&xs.isEmpty) :=by
 have aE:v=.aH\/∃ j n cap sz,v=.aq z j 0 n cap sz/\pre.length<=j:=by
  cases h with
  | nil j=>exact .inl rfl
  | aq j n cap sz cs es=>exact .inr ⟨j,n,cap,sz,rfl,ai.resolve_left (by simp)⟩
 obtain⟨a6,b7,l',ad,ae,aj,aG,bh,bF⟩:=o0 h af uH aI dQ dL;have ef:=ad;unfold gX at ef;rw[af] at ef;obtain⟨tk,rfl⟩:=aax (l:=[]) aE ef;refine⟨a6,b7,tk,ad,ae,?_,wz bF⟩;rcases bh with h | h
 ·rcases ai with ap | ai
  ·by_cases AY:xs=[]
   ·exact .inl (bF.2 ⟨ap,AY⟩)
   ·right;subst ap;have AW:xs.length≠0:=fun e=>AY (List.length_eq_zero_iff.1 e)
    simp only at ef;unfold jB at ef;rw[if_neg AW] at ef;split at ef
    ·cases ef
    ·simp only at ef;split at ef
     ·obtain⟨rfl,_⟩:=Prod.mk.inj (Option.some.inj ef);generalize es++xs=E at ae;cases ae;simp
     ·cases ef
  ·right; omega
 ·right;rw[List.length_append] at h; omega
theorem bK.view (h:bK z l v j es) (ap:cF v=false) :∃ n cap sz cs,v=.aq z j 0 n cap sz/\l[j]? = some (.cells sz cs)/\cs.length=sz/\es.length=n/\n*z<=sz/\(∀ i e,es[i]? = some e->∀ m,m<z->cs[i*z+m]? = e[m]?)/\cs.take (n*z)=es.flatten:=by
 cases h with
 | nil j=>simp[cF] at ap
 | aq j n cap sz cs es ag al aD ax ah dg cW=>
  refine⟨n,cap,sz,cs,rfl,ag,al,aD,Nat.le_trans (Nat.mul_le_mul_right _ ah) dg,fun i e am m hm=>?_,cW⟩;have ay:i<es.length:=(List.getElem?_eq_some_iff.1 am).1;have aL:i*z+m<n*z:=by
   have:i*z+z<=es.length*z:=by rw[<-Nat.succ_mul]; exact Nat.mul_le_mul_right _ ay
   rw[aD] at this; omega
  have ad:=z9 ax am hm;rw[<-ad,<-cW,List.getElem?_take_of_lt aL]
theorem bK.ET {α:Type} {enc:α->List U} {xs:List α} (h:bK z l v j (xs.map enc)) (aE:∀ x,mf (enc x)=true) (s:db α) (ak:cF v=s.isNone) (af:s.l=xs) :kJ l v (cE z enc s) :=by
 have ad:=h.Iy (fun e am=>by obtain⟨x,_,rfl⟩:=List.mem_map.1 am; exact aE x);subst af;unfold tl at ad;rw[ak] at ad;cases s with
 | none=>exact ad
 | some s=>exact ad
theorem bK.wZ {α:Type} {enc:α->List U} {xs:List α} (h:bK z l v j (xs.map enc)) (aE:∀ x,a5 (enc x)=true) (s:db α) (ak:cF v=s.isNone) (af:s.l=xs) :gA (bb l) v (cE z enc s) :=by
 have ad:=h.tj (fun e am=>by obtain⟨x,_,rfl⟩:=List.mem_map.1 am; exact aE x);subst af;unfold tl at ad;rw[ak] at ad;cases s with
 | none=>exact ad
 | some s=>exact ad
end
def Bt (h:aN) :Nat->U->Option U
 | 0,_=>none
 | d+1,c=>match c with
  | .aF cs=>match pA (Bt h d) cs with | some cs'=>some (.aF cs') | none=>none
  | .bt cs=>match pA (Bt h d) cs with | some cs'=>some (.bt cs') | none=>none
  | .aq z b off len cap sz=>match Nat.beq len 0 with
   | true=>some (.aZ z [])
   | false=>match h.f b with
    | .cells n cs=>match Nat.beq n sz&&Nat.ble (off+len*z) cs.length with
     | true=>match pA (Bt h d) ((cs.drop off).take (len*z)) with
      | some xs=>some (.aZ z (me z len xs))
      | none=>none
     | false=>none
    | _=>none
  | c=>match c.flat with | true=>some c | false=>none
theorem Iz {h:aN} {l:ao} (r:eS h l) :∀ (d:Nat) (c c' : U),Bt h d c=some c'->kJ l c c'
 | 0,c,c',af=>by cases af
 | d+1,c,c',af=>by
  unfold Bt at af;split at af
  ·split at af
   ·rename_i ad; cases af;exact .aF _ _ (ti ad) (fun j c c' ah eB=>Iz r d c c' (th ad j c c' ah eB))
   ·cases af
  ·split at af
   ·rename_i ad; cases af;exact .bt _ _ (ti ad) (fun j c c' ah eB=>Iz r d c c' (th ad j c c' ah eB))
   ·cases af
  ·rename_i z b off len cap sz;split at af
   ·rename_i aI;cases af;rw[Nat.eq_of_beq_eq_true aI];exact .r8 z b off cap sz
   ·split at af
    ·rename_i n cs ag;split at af
     ·rename_i c4;simp only[Bool.and_eq_true] at c4;have aD:=Nat.eq_of_beq_eq_true c4.1;have dO:=Nat.le_of_ble_eq_true c4.2;subst aD;split at af
      ·rename_i xs ad;cases af;have bd:=ti ad;simp only[List.length_take,List.length_drop] at bd;have ag0:xs.length=len*z:=by omega
       have ei:∀ (i:Nat),i<len->(me z len xs)[i]? = some ((xs.drop (i*z)).take z) :=fun i ay=>FX len xs i ay
       have eC:∀ i,i<len->i*z+z<=len*z:=fun i ay=>by rw[<-Nat.succ_mul]; exact Nat.mul_le_mul_right _ ay
       refine .aq z b off len cap n cs _ (r.some ag (by simp)) (vJ _ _) (fun e am=>?_) dO (fun i j e c c' am ai ah=>?_)
       ·obtain⟨i,ay⟩:=List.mem_iff_getElem?.1 am;have dH:i<len:=by
         have:=(List.getElem?_eq_some_iff.1 ay).1;rw[vJ] at this; exact this
        rw[ei i dH] at ay;cases ay;have:=eC i dH;simp; omega
       ·have dH:i<len:=by
         have:=(List.getElem?_eq_some_iff.1 am).1;rw[vJ] at this; exact this
        rw[ei i dH] at am;cases am;have AD:=eC i dH;have m3:j<z:=by have:=(List.getElem?_eq_some_iff.1 ai).1; simp at this; omega
        rw[List.getElem?_take_of_lt m3,List.getElem?_drop] at ai;refine Iz r d c c' (th ad (i*z+j) c c' ?_ ai);rw[List.getElem?_take_of_lt (by omega),List.getElem?_drop];exact ah
      ·cases af
     ·cases af
    ·cases af
  ·split at af
   ·rename_i ah; cases af; exact .flat _ ah
   ·cases af
def X7 (P:Program) (G:Nat->U) [qT P G] (orc:qV) (lA:vo) (fuel k:Nat) (f:FuncId) (args:List U) (r:U) :Bool:=
 match Ci P G orc lA fuel k f args aN.empty with
 | some (v,h)=>match Bt h 20 v with
  | some a6=>U.beq a6 r
  | none=>false
 | none=>false
theorem k4 {P:Program} {G:Nat->U} [qT P G] (fH:P.follows .mixedOrders=true) (ij:∀ g,(G g).closed=true) {orc:qV} {lA:vo} (au:BX P G orc) (aW:B2 P lA) {fuel k:Nat} {f:FuncId} {args:List U} {r:U}
  (af:X7 P G orc lA fuel k f args r=true) :gy P G f args r:=by
 unfold X7 at af;split at af
 ·rename_i v h ah;split at af
  ·rename_i a6 ap;obtain⟨l',az,ae⟩:=J0 au aW fuel k f args aN.empty v h [] eS.nil ah;have:=U.beq_eq af;subst this;exact Bp fH ij (ae _ (Iz az 20 v a6 ap))
  ·cases af
 ·cases af
inductive gx (z:Nat) (l:ao) :U->Nat->List (List U)->Prop
 | nil (j:Nat) :gx z l .aH j []
 | aq (j off n cap sz:Nat) (cs:List U) (es:List (List U)) (ag:l[j]? = some (.cells sz cs)) (al:cs.length=sz) (aD:es.length=n) (ax:∀ e∈es,e.length=z) (ah:n<=cap) (dg:off+cap*z<=sz)
   (cW:(cs.drop off).take (n*z)=es.flatten) :gx z l (.aq z j off n cap sz) j es
section
variable {z:Nat} {l l' : ao} {v:U} {j:Nat} {es:List (List U)}
theorem bK.q (h:bK z l v j es) :gx z l v j es:=by
 cases h with
 | nil j=>exact .nil j
 | aq j n cap sz cs es ag al aD ax ah dg cW=>exact .aq j 0 n cap sz cs es ag al aD ax ah (by omega) (by simpa using cW)
theorem gx.row (h:gx z l v j es) :∀ e∈es,e.length=z:=by
 cases h with
 | nil j=>intro e am; cases am
 | aq j off n cap sz cs es ag al aD ax=>exact ax
theorem gx.lt (h:gx z l v j es) :v=.aH\/j<l.length:=by
 cases h with
 | nil j=>exact .inl rfl
 | aq j off n cap sz cs es ag=>exact .inr (b6 ag)
theorem gx.cells (h:gx z l v j es) :v.cells=some [v] :=by cases h<;>rfl
theorem gx.len (h:gx z l v j es) :ce (.aq z) v=some (.int .i64 es.length) :=by
 cases h with
 | nil j=>rfl
 | aq j off n cap sz cs es ag al aD=>subst aD; rfl
theorem gx.lg (h:gx z l v j es) (ai:v=.aH\/l'[j]? = l[j]?) :gx z l' v j es:=by
 cases h with
 | nil j=>exact .nil j
 | aq j off n cap sz cs es ag al aD ax ah dg cW=>
  rcases ai with ai | ai
  ·cases ai
  ·exact .aq j off n cap sz cs es (by rw[ai]; exact ag) al aD ax ah dg cW
theorem gx.more (h:gx z l v j es) (x:ao) :gx z (l++x) v j es:=h.lg (by
 rcases h.lt with h | h
 ·exact .inl h
 ·exact .inr (List.getElem?_append_left h))
theorem gx.Ia (h:gx z l .aH j es) :es=[] :=by
 generalize ap:U.aH=w at h;cases h with
 | nil j=>rfl
 | aq=>cases ap
theorem gx.from (h:gx z l v j es) (ap:cF v=false) {k:IntKind} {i:Nat} (ay:i<=es.length) :∃ a6,fl (.aq z) v (some (.int k (i:Int))) none none=some a6/\gx z l a6 j (es.drop i)/\cF a6=false:=by
 cases h with
 | nil j=>simp[cF] at ap
 | aq j off n cap sz cs es ag al aD ax ah dg cW=>
  subst aD;have uy:i*z+(cap - i)*z=cap*z:=by rw[<-Nat.add_mul]; congr 1; omega
  have Ut:i*z+(es.length - i)*z=es.length*z:=by rw[<-Nat.add_mul]; congr 1; omega
  have dO:es.length*z<=cap*z:=Nat.mul_le_mul_right _ ah;have Mk:∀ e∈es.drop i,e.length=z:=fun e am=>ax e (List.mem_of_mem_drop am)
  have hp:(es.drop i).flatten=(es.flatten).drop (i*z) :=by
   have ad:es.flatten=(es.take i).flatten++(es.drop i).flatten:=by rw[<-List.flatten_append,List.take_append_drop]
   have ae:(es.take i).flatten.length=i*z:=by
    rw[o6 (z:=z) (fun e am=>ax e (List.mem_of_mem_take am)),List.length_take];congr 1; omega
   rw[ad,<-ae,List.drop_left]
  rw[zi,P1,if_pos ⟨by omega,by omega⟩];simp only[Int.toNat_natCast,Option.map_some,Option.some.injEq,exists_eq_left'];by_cases fj:cap=i
  ·rw[if_pos fj];have aeO:es.drop i=[] :=List.drop_of_length_le (by omega);refine⟨?_,rfl⟩;rw[aeO];exact .aq j _ 0 0 sz cs [] ag al rfl (by simp) (Nat.le_refl _) (by omega) (by simp)
  ·rw[if_neg fj];refine⟨.aq j _ _ _ sz cs _ ag al (by simp) Mk (by omega) (by omega) ?_,rfl⟩;rw[hp,<-cW,List.drop_take,List.drop_drop];congr 1; omega
theorem gx.get (h:gx z l v j es) {k:IntKind} {i:Nat} {e:List U} (am:es[i]? = some e) :∃ p cs o,cL (.aq z) v (.int k (i:Int))=some p/\hg l p=some (cs,o)/\o+z<=cs.length/\(cs.drop o).take z=e:=by
 cases h with
 | nil j=>simp at am
 | aq j off n cap sz cs es ag al aD ax ah dg cW=>
  subst aD;have ay:=(List.getElem?_eq_some_iff.1 am).1;have ad:i*z+z<=es.length*z:=by rw[<-Nat.succ_mul]; exact Nat.mul_le_mul_right _ ay
  have ae:es.length*z<=cap*z:=Nat.mul_le_mul_right _ ah;refine⟨.ptr j (off+i*z) sz,cs,off+i*z,?_,?_,by omega,?_⟩
  ·simp only[cL,Int.toNat_natCast];rw[if_pos ⟨trivial,by omega,by omega⟩]
  ·simp only[hg,ag,if_true]
  ·have aeR:=ax e (List.mem_of_getElem? am);apply List.ext_getElem?;intro m;by_cases hm:m<z
   ·rw[List.getElem?_take_of_lt hm,List.getElem?_drop,<-z9 ax am hm,<-cW,List.getElem?_take_of_lt (by omega),List.getElem?_drop];congr 1; omega
   ·rw[List.getElem?_eq_none (by simp; omega),List.getElem?_eq_none (by omega)]
theorem gx.Iy (h:gx z l v j es) (aE:∀ e∈es,mf e=true) :kJ l v (tl z v es) :=by
 cases h with
 | nil j=>exact .flat _ rfl
 | aq j off n cap sz cs es ag al aD ax ah dg cW=>
  show kJ l _ (.aZ z es);have rz:off+n*z<=cs.length:=by rw[al]; have:=Nat.mul_le_mul_right z ah; omega
  refine .aq z j off n cap sz cs es ag aD ax (by omega) (fun i k e c c' am ar de=>?_);have ay:i<es.length:=(List.getElem?_eq_some_iff.1 am).1;have yt:k<z:=by rw[<-ax e (List.mem_of_getElem? am)]; exact (List.getElem?_eq_some_iff.1 ar).1
  have aL:i*z+k<n*z:=by
   have:i*z+z<=es.length*z:=by rw[<-Nat.succ_mul]; exact Nat.mul_le_mul_right _ ay
   rw[aD] at this; omega
  have ad:es.flatten[i*z+k]? = some c':=Aa es ax i k e c' am ar;rw[<-cW,List.getElem?_take_of_lt aL,List.getElem?_drop] at ad;rw[ad] at de;cases de;exact .flat _ (Ge (aE e (List.mem_of_getElem? am)) k _ ar)
theorem gx.tj (h:gx z l v j es) (aE:∀ e∈es,a5 e=true) :gA (bb l) v (tl z v es) :=by
 cases h with
 | nil j=>exact .same _ rfl
 | aq j off n cap sz cs es ag al aD ax ah dg cW=>
  show gA (bb l) _ (.aZ z es);have rz:off+n*z<=cs.length:=by rw[al]; have:=Nat.mul_le_mul_right z ah; omega
  refine .aq z j off n cap sz cs es (lD.2 ag) aD ax (by omega) (fun i k e c c' am ar de=>?_);have ay:i<es.length:=(List.getElem?_eq_some_iff.1 am).1;have yt:k<z:=by rw[<-ax e (List.mem_of_getElem? am)]; exact (List.getElem?_eq_some_iff.1 ar).1
  have aL:i*z+k<n*z:=by
   have:i*z+z<=es.length*z:=by rw[<-Nat.succ_mul]; exact Nat.mul_le_mul_right _ ay
   rw[aD] at this; omega
  have ad:es.flatten[i*z+k]? = some c':=Aa es ax i k e c' am ar;rw[<-cW,List.getElem?_take_of_lt aL,List.getElem?_drop] at ad;rw[ad] at de;cases de;exact .same _ (zU (aE e (List.mem_of_getElem? am)) k _ ar)
theorem gx.rd (h:gx z l v j es) (aE:∀ e∈es,a5 e=true) :jz l v (tl z v es) :=by
 cases h with
 | nil j=>exact .same _ rfl
 | aq j off n cap sz cs es ag al aD ax ah dg cW=>
  show jz l _ (.aZ z es);have rz:off+n*z<=cs.length:=by rw[al]; have:=Nat.mul_le_mul_right z ah; omega
  refine .aq z j off n cap sz cs es ag aD ax (by omega) (fun i k e c c' am ar de=>?_);have ay:i<es.length:=(List.getElem?_eq_some_iff.1 am).1;have yt:k<z:=by rw[<-ax e (List.mem_of_getElem? am)]; exact (List.getElem?_eq_some_iff.1 ar).1
  have aL:i*z+k<n*z:=by
   have:i*z+z<=es.length*z:=by rw[<-Nat.succ_mul]; exact Nat.mul_le_mul_right _ ay
   rw[aD] at this; omega
  have ad:es.flatten[i*z+k]? = some c':=Aa es ax i k e c' am ar;rw[<-cW,List.getElem?_take_of_lt aL,List.getElem?_drop] at ad;rw[ad] at de;cases de;exact .same _ (zU (aE e (List.mem_of_getElem? am)) k _ ar)
theorem gx.u5 {α:Type} {enc:α->List U} {xs:List α} (h:gx z l v j (xs.map enc)) (aE:∀ x,a5 (enc x)=true) (s:db α) (ak:cF v=s.isNone) (af:s.l=xs) :jz l v (cE z enc s) :=by
 have ad:=h.rd (fun e am=>by obtain⟨x,_,rfl⟩:=List.mem_map.1 am; exact aE x);subst af;unfold tl at ad;rw[ak] at ad;cases s with
 | none=>exact ad
 | some s=>exact ad
theorem gx.ET {α:Type} {enc:α->List U} {xs:List α} (h:gx z l v j (xs.map enc)) (aE:∀ x,mf (enc x)=true) (s:db α) (ak:cF v=s.isNone) (af:s.l=xs) :kJ l v (cE z enc s) :=by
 have ad:=h.Iy (fun e am=>by obtain⟨x,_,rfl⟩:=List.mem_map.1 am; exact aE x);subst af;unfold tl at ad;rw[ak] at ad;cases s with
 | none=>exact ad
 | some s=>exact ad
theorem gx.wZ {α:Type} {enc:α->List U} {xs:List α} (h:gx z l v j (xs.map enc)) (aE:∀ x,a5 (enc x)=true) (s:db α) (ak:cF v=s.isNone) (af:s.l=xs) :gA (bb l) v (cE z enc s) :=by
 have ad:=h.tj (fun e am=>by obtain⟨x,_,rfl⟩:=List.mem_map.1 am; exact aE x);subst af;unfold tl at ad;rw[ak] at ad;cases s with
 | none=>exact ad
 | some s=>exact ad
end
theorem aaM {P:Program} {t:TypeId} {xs bJ:List U} {r:Bool} (aw:P.eqGuardType P.depth t=false) (h:eU P 10000 t (.aF xs) (.aF bJ)=some r) :gN P .eql t (.aF xs) (.aF bJ)=some (.bool r) :=by
 simp only[gN,xZ,aw,Bool.not_false,if_true,h]; rfl
theorem aaN {P:Program} {t:TypeId} {xs bJ:List U} {r:Bool} (aw:P.eqGuardType P.depth t=false) (h:eU P 10000 t (.aF xs) (.aF bJ)=some r) :gN P .neq t (.aF xs) (.aF bJ)=some (.bool (!r)) :=by
 simp only[gN,xZ,aw,Bool.not_false,if_true,h]; rfl
end Go.b0

namespace Go.b0
open Go Go.ChangeShapes Go.RowKit
theorem aj7 (k:Nat) :¬ Own aN.empty (fun _=>none) k:=by
 rintro⟨b,m,al,_,_⟩;simp[aN.empty,aN.f,live,cC.get] at al
theorem adc {H:Type} {enc:TypeId × Value->H} {P:Program} {w:World} {base:Nat} {spare:Nat->Bool} {held:Bool} {fuel:Nat} {Bf:String} {g t e n:Nat} {cs:Array Value} {x:DataW H × List MemPlace} (b8:List Int)
  (aw:P.globalNamed Bf=some g) (ap:w.var? P Bf=some cs) (aM:P.underlying t=some (.array n e)) (am:P.underlying e=some (.int .u32)) (ah:P.cellsOf e=1) (bf:DataW.trod enc P w base spare held fuel t cs.toList=some x)
  (af:x.1=.agg (b8.map fun k=>.lit (.int .u32 k))) :ed w (fun _=>True) (.bM (b8.map fun k=>.int .u32 k) 0) (.pointer (some ⟨g,0,none⟩)) :=by
 obtain⟨xs,m,rfl,AW,bC,aD,aeQ⟩:=DataW.trod_array aM bf;rw[AW] at af;simp only[DataW.agg.injEq] at af;have sH:b8.length=n:=by have:=congrArg List.length af; simp at this; omega
 have m0:∀ j k,b8[j]? = some k->w.cell? ⟨g,j,none⟩=some (.int .u32 k) :=by
  intro j k ai;have j4:j<n:=by have:=(auk.1 ai).1; omega
  have ad:=aeQ j j4;rw[ah,avX] at ad;have Hb:j<xs.length:=by omega
  rw[auo Hb] at ad;obtain⟨k',aP,bw,_⟩:=DataW.trod_int am ad;have aj:=congrArg (fun l=>l[j]?) af;simp only[auq,auo Hb,ai,auv,Option.some.injEq] at aj;rw[bw] at aj;have sF:k'=k:=by simpa using aj
  subst sF;have aG:=World.var?_cell aw ap j;rw[aG];have bh:(cs.toList.drop j)[0]? = some (Value.int .u32 k') :=by
   have:((cs.toList.drop j).take 1)[0]? = some (Value.int .u32 k') :=by rw[aP]; rfl
   rw[List.getElem?_take] at this;simpa using this
  rw[auY] at bh;simpa using bh
 refine .bM _ 0 g 0 (fun j=>.int .u32 (b8.getD j 0)) (fun j ai=>?_) (fun j c ai=>?_)
 ·rw[auw] at ai;refine⟨?_,rfl,trivial,aj7 g⟩;rw[avz,m0 j b8[j] (auo ai),auB,auo ai];rfl
 ·rw[auq] at ai;cases ar:b8[j]? with
  | none=>rw[ar] at ai; cases ai
  | some k=>
   rw[ar] at ai;cases ai;rw[auB,ar];exact .int _ _
theorem YW {H:Type} {enc:TypeId × Value->H} {P:Program} {w:World} {base:Nat} {spare:Nat->Bool} {held:Bool}:∀ {ts:List TypeId} {vs:List Value} {ix:List (DataW H)} {ps:List MemPlace},
  DataW.TrodAll enc P w base spare held ts vs ix ps->ix.length=ts.length
 | [],vs,ix,ps,h=>by obtain⟨rfl,rfl,rfl⟩:=trodAll_nil h; rfl
 | t::ts,vs,ix,ps,h=>by
  obtain⟨v,anq,d,acb,a,b,rfl,rfl,rfl,ad,ae⟩:=trodAll_cons h;simp[YW ae]
end Go.b0

namespace Go.b0
open Go
def jq:List (FuncId × Bool × (List U->Option U))->qV
 | [],_=>none
 | e::r,f=>match Nat.beq f e.1 with | true=>some e.2 | false=>jq r f
abbrev tH (P:Program) (G:Nat->U) (e:FuncId × Bool × (List U->Option U)) :Prop:=∀ args r,e.2.2 args=some r->bz P G e.1 args r/\(e.2.1=true->gy P G e.1 args r)
theorem kf {P:Program} {G:Nat->U}:∀ {l:List (FuncId × Bool × (List U->Option U))},(∀ e∈l,tH P G e)->BX P G (jq l)
 | [],_,f,n,g,args,r,aE,_=>by cases aE
 | e::l,h,f,n,g,args,r,aE,aw=>by
  unfold jq at aE;split at aE
  ·rename_i ag;have:=auW ag;subst this;have am:e.2=(n,g) :=Option.some.inj aE;have:=h e (by simp) args r (by rw[am]; exact aw);rw[am] at this;exact this
  ·exact kf (fun x af=>h x (by simp[af])) f n g args r aE aw
def ig (P:Program) (G:Nat->U) :List (FuncId × Bool × (List U->Option U))->Prop
 | []=>True
 | e::r=>tH P G e/\ig P G r
theorem ig.mem {P:Program} {G:Nat->U}:∀ {l:List (FuncId × Bool × (List U->Option U))},ig P G l->∀ e∈l,tH P G e
 | e::l,h,x,af=>by
  rcases avn.1 af with rfl | af
  ·exact h.1
  ·exact ig.mem h.2 x af
theorem kn {P:Program} {G:Nat->U}:ig P G [] :=trivial
theorem eP {P:Program} {G:Nat->U} {e:FuncId × Bool × (List U->Option U)} {l:List (FuncId × Bool × (List U->Option U))} (h:tH P G e) (ae:ig P G l) :ig P G (e::l) :=⟨h,ae⟩
def iT:List (List U × U)->List U->Option U
 | [],_=>none
 | e::r,args=>match fC args e.1 with | true=>some e.2 | false=>iT r args
def BS (P:Program) (G:Nat->U) (f:FuncId) :List (List U × U)->Prop
 | []=>True
 | e::r=>gy P G f e.1 e.2/\BS P G f r
theorem jA {P:Program} {G:Nat->U} {f:FuncId}:BS P G f [] :=trivial
theorem gM {P:Program} {G:Nat->U} {f:FuncId} {a:List U} {r:U} {l:List (List U × U)} (h:gy P G f a r) (ae:BS P G f l) :BS P G f ((a,r) ::l) :=⟨h,ae⟩
theorem js {P:Program} {G:Nat->U} {f:FuncId}:∀ {l:List (List U × U)},BS P G f l->tH P G (f,true,iT l)
 | [],_,args,r,h=>by cases h
 | e::l,ar,args,r,h=>by
  simp only[iT] at h;split at h
  ·rename_i ag;cases h;rw[tQ ag];exact⟨ar.1.Fa,fun _=>ar.1⟩
  ·exact js ar.2 args r h
def bm (l:List Nat) :List U:=l.map fun n=>.int .u8 (.ofNat n)
def cj (n:Int) :U:=.int .i64 n
def hG (l:List U) :List (List U) :=l.map fun c=>[c]
end Go.b0

namespace Go.b0
open Go Go.Proofs Go.Shelf Go.Sort Go.RowKit
def sorted {X:Type} (abn:X->X->Int) (xs:List X) :List X:=xs.mergeSort fun x y=>!ltOf abn y x
section
variable {P:Program} {G:Nat->U} {X:Type} {enc:X->List U} {k:Nat}
theorem XW (ar:∀ x,(enc x).length=k) (xs:List X) {j:Nat} (ai:j<xs.length*k) :∃ x c,xs[j / k]? = some x/\(enc x)[j % k]? = some c/\((xs.map enc).flatten)[j]? = some c:=by
 have jM:0<k:=Nat.pos_of_ne_zero fun h=>by subst h; simp at ai
 have ad:j / k<xs.length:=Nat.div_lt_of_lt_mul (by rw[axb]; exact ai);have ae:j % k<k:=awj _ jM;refine⟨xs[j / k],(enc xs[j / k])[j % k]'(by rw[ar]; exact ae),auo ad,auo _,?_⟩;have aj:(xs.map enc)[j / k]? = some (enc xs[j / k]) :=by rw[auq,auo ad]; rfl
 have aG:=z9 (z:=k) (fun e am=>by obtain⟨x,_,rfl⟩:=auR.1 am; exact ar x) aj ae;rw[axb,Nat.div_add_mod] at aG;rw[aG];exact auo _
end

end Go.b0

namespace Go.b0
open Go
section
variable {P:Program} {l:ao} {aA:Operand->U}
@[simp ↓] theorem asT:bT P aA l (.uV none)=some (.mp l.length,l++[.map [] 0]) :=id rfl
@[simp ↓] theorem asO (cP:TypeId) (zero:U) (ok:Bool) (m k:Operand) :bT P aA l (.yV cP zero ok m k)=dM l (wI P l cP zero ok (aA m) (aA k)) :=id rfl
@[simp ↓] theorem asV (cP:TypeId) (m k x:Operand) :bT P aA l (.wM cP m k x)=(wJ P l cP (aA m) (aA k) (aA x)).map fun l'=>(gL,l') :=id rfl
@[simp ↓] theorem asN (x:Operand) :bT P aA l (.wF x)=dM l (Es l (aA x)) :=id rfl
@[simp ↓] theorem as0 (x:Operand) :bT P aA l (.w3 x)=Br l (aA x) :=id rfl
@[simp ↓] theorem asY (x:Operand) :bT P aA l (.wQ x)=uW l (aA x) :=id rfl
@[simp ↓] theorem ar0 (x:Option Operand) (v:U) (K:U->ao->Prop) :eG (.uV x) v l K=K v l:=id rfl
@[simp ↓] theorem arV (cP:TypeId) (zero:U) (ok:Bool) (m k:Operand) (v:U) (K:U->ao->Prop) :eG (.yV cP zero ok m k) v l K=K v l:=id rfl
@[simp ↓] theorem ar2 (cP:TypeId) (m k x:Operand) (v:U) (K:U->ao->Prop) :eG (.wM cP m k x) v l K=K v l:=id rfl
@[simp ↓] theorem arU (x:Operand) (v:U) (K:U->ao->Prop) :eG (.wF x) v l K=K v l:=id rfl
@[simp ↓] theorem ar7 (x:Operand) (v:U) (K:U->ao->Prop) :eG (.w3 x) v l K=K v l:=id rfl
@[simp ↓] theorem ar5 (x:Operand) (v:U) (K:U->ao->Prop) :eG (.wQ x) v l K=K v l:=id rfl
end

section
variable {z:Nat} {l l' : ao} {v:U} {j:Nat} {es:List (List U)}
theorem xO (h:bK z l v j es) {by_:Nat} {x:U} {xs:List (List U)} (af:dD l z x=some (xs.flatten,xs.length)) (uH:∀ e∈xs,e.length=z) (aI:z≠0) (dQ:by_≠0) (dL:(es.length+xs.length)*by_<=cw) :
  ∃ a6 b7 l',gX l z by_ v x=some (a6,l')/\bK z l' a6 b7 (es++xs)/\l.length<=l'.length/\(∀ b,b<l.length->v=.aH\/b≠j->l'[b]? = l[b]?)/\(l.length<=b7\/(v≠.aH/\b7=j)\/a6=.aH)/\cF a6=(cF v&&xs.isEmpty) :=by
 by_cases ap:v=.aH
 ·subst ap;have am:es=[] :=h.q.Ia;subst am;obtain⟨a6,b7,l1,ad,ae,aj,aG,bh,bF⟩:=o0 (.nil (z:=z) (l:=l) (l.length+1)) af uH aI dQ dL;refine⟨a6,b7,l1,ad,ae,aj,fun b ag _=>aG b ag (by omega),?_,wz bF⟩;rcases bh with bh | bh
  ·exact .inl (by omega)
  ·exact .inl bh
 ·obtain⟨a6,b7,l1,ad,ae,aj,aG,bh,bF⟩:=o0 h af uH aI dQ dL;refine⟨a6,b7,l1,ad,ae,aj,fun b ag aD=>aG b ag (aD.resolve_left ap),?_,wz bF⟩;rcases bh with bh | bh
  ·exact .inr (.inl ⟨ap,bh⟩)
  ·exact .inl bh
theorem bK.cd (h:bK z l v j es) (aE:∀ b,b<l.length->b=j->l'[b]? = l[b]?) :bK z l' v j es:=h.frame fun ai=>aE j ai rfl
theorem c7.CI {K:U->ao->Prop} (h:bK z l v j es) (ap:cF v=false) (aT:K (.aZ z es) (l.set j .dead)) :c7 v l (c:=⟨K⟩) :=by
 cases h with
 | nil j=>cases ap
 | aq j n cap sz cs es ag al aD ax ah dg cW=>
 have aL:=b6 ag;have bf:(bb (l.set j .dead)).f j=.dead:=by rw[kH,avv,if_pos rfl,if_pos aL]
 have dO:n*z<=cap*z:=aup _ ah;refine .inr ⟨_,_,⟨by simp,fun bg=>?_⟩,.aq z j 0 n cap sz cs es (lD.2 ag) bf aD ax (by omega) (fun i k e c c' am ar mZ=>?_),aT⟩
 ·by_cases b4:bg=j
  ·subst b4; exact .inr ⟨sz,cs,lD.2 ag,.inl bf⟩
  ·left;rw[kH,kH,avv,if_neg (by omega)]
 ·have yt:k<z:=by rw[<-ax e (aut am)]; exact (auk.1 ar).1
  have ay:=(auk.1 am).1;have hm:i*z+z<=n*z:=by rw[<-au2]; exact aup _ (by omega)
  have ad:=z9 ax am yt;rw[<-cW,auI (by omega),ar] at ad;rw[avz,ad] at mZ;cases mZ;exact .same _
end
inductive nq where
 | b
 | i (k:IntKind)
 | s
def Oz:nq->U->Bool
 | .b,.bool _=>true
 | .i k,.int k' _=>decide (k=k')
 | .s,.str _=>true
 | _,_=>false
def jp:List nq->List U->Bool
 | [],[]=>true
 | k::b8,c::cs=>Oz k c&&jp b8 cs
 | _,_=>false
theorem EE:∀ {b8:List nq} {cs:List U},jp b8 cs=true->cs.length=b8.length
 | [],[],_=>rfl
 | [],_::_,h=>by cases h
 | _::_,[],h=>by cases h
 | k::b8,c::cs,h=>by simp only[jp,aus] at h; simp[EE h.2]
theorem EF:∀ {l r:List nq} {m:List U},jp (l++r) m=true->∃ eo ej,m=eo++ej/\jp l eo=true/\jp r ej=true
 | [],r,m,h=>⟨[],m,rfl,rfl,h⟩
 | k::l,r,[],h=>by cases h
 | k::l,r,c::m,h=>by
  simp only[avj,jp,aus] at h;obtain⟨eo,ej,rfl,ad,ae⟩:=EF h.2;exact⟨c::eo,ej,rfl,by simp[jp,h.1,ad],ae⟩
theorem WD {k:IntKind} {xs:List U} (h:jp [.i k] xs=true) :∃ p,xs=[.int k p] :=by
 cases xs with
 | nil=>cases h
 | cons c r=>
  simp only[jp,aus] at h;cases r with
  | cons _ _=>cases h.2
  | nil=>
   cases c<;>simp only[Oz] at h<;>try (cases h.1; done)
   rename_i k' p;have ar:k=k':=by simpa using h.1
   subst ar;exact⟨p,rfl⟩
theorem JQ:∀ {jW ja jX qQ:List U},jW.length=ja.length->fC (jW++jX) (ja++qQ)=(fC jW ja&&fC jX qQ)
 | [],[],_,_,_=>by simp[fC]
 | [],_::_,_,_,h=>by simp at h
 | _::_,[],_,_,h=>by simp at h
 | a::jW,b::ja,jX,qQ,h=>by
  simp only[auF,Nat.add_right_cancel_iff] at h;simp only[avj,fC,JQ h,Bool.and_assoc]
section
variable (P:Program)
def HW (f:TypeId->Option (List nq)) :List Field->Nat->Option (List nq)
 | [],_=>some []
 | fd::fs,o=>match f fd.type,cz P fd.type with
  | some l,some z=>match fd.name != "_"&&Nat.beq fd.offset o&&Nat.beq l.length z with
   | true=>match HW f fs (o+z) with
    | some r=>some (l++r)
    | none=>none
   | false=>none
  | _,_=>none
def s4:Nat->TypeId->Option (List nq)
 | 0,_=>none
 | d+1,t=>match P.underlying t with
  | some .bool=>some [.b]
  | some (.int k)=>some [.i k]
  | some .string=>some [.s]
  | some (.array n e)=>match s4 d e,cz P e with
   | some l,some z=>match Nat.beq l.length z with
    | true=>some (List.replicate n l).flatten
    | false=>none
   | _,_=>none
  | some (.struct fs)=>match P.stoodInHeld t with
   | false=>HW P (s4 d) fs.toList 0
   | true=>none
  | _=>none
def lI (t:TypeId) (l:List U) :Option U:=match eJ P t with
 | some true=>some (.aF l)
 | some false=>l[0]?
 | none=>none
end
variable {P:Program}
theorem Ip {t:TypeId} {z:Nat} (ax:cz P t=some z) {pre mid post:List U} (hm:mid.length=z) (aw:eJ P t=some false->mid.length=1) :iq P t (pre++(mid++post)) pre.length=lI P t mid:=by
 unfold iq lI;rw[ax];cases aC:eJ P t with
 | none=>rfl
 | some g=>
  cases g with
  | true=>
   simp only;rw[if_pos (by simp; omega),List.drop_left,auT (by omega),aul (by omega)]
  | false=>
   have:=aw aC;simp only;rw[auJ (by omega),awq,aum (by omega)]
def EqAt (P:Program) (f:TypeId->Option (List nq)) (eq:TypeId->U->U->Option Bool) :Prop:=
 ∀ t b8,f t=some b8->(eJ P t=some false->b8.length=1)/\∀ xs bJ,jp b8 xs=true->jp b8 bJ=true->∃ a b,lI P t xs=some a/\lI P t bJ=some b/\eq t a b=some (fC xs bJ)
theorem Sq {f:TypeId->Option (List nq)} {eq:TypeId->U->U->Option Bool} (am:EqAt P f eq) :∀ (fs:List Field) (o:Nat) (b8:List nq),HW P f fs o=some b8->∀ (px py cK pp:List U),px.length=o->py.length=o->jp b8 cK=true->jp b8 pp=true->
  eU.eqFields P eq (px++cK) (py++pp) fs=some (fC cK pp)
 | [],o,b8,h,px,py,cK,pp,af,aJ,rQ,uP=>by
  cases h;cases cK with
  | nil=>cases pp with | nil=>rfl | cons _ _=>cases uP
  | cons _ _=>cases rQ
 | fd::fs,o,b8,h,px,py,cK,pp,af,aJ,rQ,uP=>by
  unfold HW at h;split at h
  ·rename_i l z al ax;split at h
   ·rename_i ah;simp only[aus,bne_iff_ne,ne_eq] at ah;split at h
    ·rename_i r az;cases h;obtain⟨jW,jX,rfl,a2,a9⟩:=EF rQ;obtain⟨ja,qQ,rfl,c1,dx⟩:=EF uP;have au:fd.offset=o:=auW ah.1.2;have Hj:l.length=z:=auW ah.2;obtain⟨aK,aU⟩:=am _ _ al;obtain⟨a,b,q9,ra,xY⟩:=aU jW ja a2 c1;have M1:=EE a2;have M2:=EE c1;unfold eU.eqFields;rw[if_neg ah.1.1,au];rw[show iq P fd.type (px++(jW++jX)) o=some a by rw[<-af,Ip ax (by omega) (fun h=>by rw[M1]; exact aK h)]; exact q9];rw[show iq P fd.type (py++(ja++qQ)) o=some b by rw[<-aJ,Ip ax (by omega) (fun h=>by rw[M2]; exact aK h)]; exact ra];simp only[xY];rw[JQ (by omega)];have aR:=Sq am fs (o+z) r az (px++jW) (py++ja) jX qQ (by simp; omega) (by simp; omega) a9 dx;rw[au3,au3] at aR;cases fC jW ja with
     | true=>simpa using aR
     | false=>simp
    ·cases h
   ·cases h
  ·cases h
theorem Sp {eq:TypeId->U->U->Option Bool} {e:TypeId} {l:List nq} {z:Nat} (ax:cz P e=some z) (Hj:l.length=z) (aw:eJ P e=some false->l.length=1)
  (am:∀ xs bJ,jp l xs=true->jp l bJ=true->∃ a b,lI P e xs=some a/\lI P e bJ=some b/\eq e a b=some (fC xs bJ)) :∀ (n i:Nat) (px py cK pp:List U),px.length=i*z->py.length=i*z->jp (List.replicate n l).flatten cK=true->jp (List.replicate n l).flatten pp=true->
  eU.sy P eq e z (px++cK) (py++pp) n i=some (fC cK pp)
 | 0,i,px,py,cK,pp,af,aJ,rQ,uP=>by
  simp only[List.replicate_zero,List.flatten_nil] at rQ uP;cases cK with
  | nil=>cases pp with | nil=>rfl | cons _ _=>cases uP
  | cons _ _=>cases rQ
 | n+1,i,px,py,cK,pp,af,aJ,rQ,uP=>by
  rw[avc,au9] at rQ uP;obtain⟨jW,jX,rfl,a2,a9⟩:=EF rQ;obtain⟨ja,qQ,rfl,c1,dx⟩:=EF uP;obtain⟨a,b,q9,ra,xY⟩:=am jW ja a2 c1;have M1:=EE a2;have M2:=EE c1;unfold eU.sy;rw[show iq P e (px++(jW++jX)) (i*z)=some a by rw[<-af,Ip ax (by omega) (fun h=>by rw[M1]; exact aw h)]; exact q9];rw[show iq P e (py++(ja++qQ)) (i*z)=some b by rw[<-aJ,Ip ax (by omega) (fun h=>by rw[M2]; exact aw h)]; exact ra];simp only[xY];rw[JQ (by omega)];have aR:=Sp ax Hj aw am n (i+1) (px++jW) (py++ja) jX qQ (by simp[au2]; omega) (by simp[au2]; omega) a9 dx;rw[au3,au3] at aR;cases fC jW ja with
  | true=>simpa using aR
  | false=>simp
theorem Kl:∀ (d D:Nat),d<=D->EqAt P (s4 P d) (eU P D)
 | 0,D,_,t,b8,h=>by cases h
 | d+1,0,bf,t,b8,h=>by omega
 | d+1,D+1,bf,t,b8,h=>by
  have aR:=Kl d D (by omega);unfold s4 at h;split at h
  ·rename_i aM;have aC:eJ P t=some false:=by unfold eJ; rw[aM]; rfl
   cases h;refine⟨fun _=>rfl,fun xs bJ af aJ=>?_⟩
   match xs,bJ,af,aJ with
   | [.bool p],[.bool q],_,_=>
    refine⟨.bool p,.bool q,by simp[lI,aC],by simp[lI,aC],?_⟩;unfold eU; rw[aM];cases p<;>cases q<;>rfl
  ·rename_i k aM;have aC:eJ P t=some false:=by unfold eJ; rw[aM]; rfl
   cases h;refine⟨fun _=>rfl,fun xs bJ af aJ=>?_⟩;obtain⟨p,rfl⟩:=WD af;obtain⟨q,rfl⟩:=WD aJ
   ·refine⟨.int k p,.int k q,by simp[lI,aC],by simp[lI,aC],?_⟩;unfold eU; rw[aM];by_cases h:p=q<;>simp[fC,U.beq,h]
  ·rename_i aM;have aC:eJ P t=some false:=by unfold eJ; rw[aM]; rfl
   cases h;refine⟨fun _=>rfl,fun xs bJ af aJ=>?_⟩
   match xs,bJ,af,aJ with
   | [.str p],[.str q],_,_=>
    refine⟨.str p,.str q,by simp[lI,aC],by simp[lI,aC],?_⟩;unfold eU; rw[aM];by_cases h:p=q<;>simp[fC,U.beq,h]
  ·rename_i n e aM;have aC:eJ P t=some true:=by unfold eJ; rw[aM]; rfl
   split at h
   ·rename_i l z al ax;split at h
    ·rename_i Hj;cases h;obtain⟨aK,aU⟩:=aR _ _ al;refine⟨fun h=>(by rw[aC] at h; cases h),fun xs bJ af aJ=>⟨.aF xs,.aF bJ,by simp[lI,aC],by simp[lI,aC],?_⟩⟩;unfold eU; rw[aM];simp only[ax];exact Sp ax (auW Hj) aK aU n 0 [] [] xs bJ (by simp) (by simp) af aJ
    ·cases h
   ·cases h
  ·rename_i fs aM;have aC:eJ P t=some true:=by unfold eJ; rw[aM]; rfl
   split at h
   ·rename_i ak;refine⟨fun h=>(by rw[aC] at h; cases h),fun xs bJ af aJ=>⟨.aF xs,.aF bJ,by simp[lI,aC],by simp[lI,aC],?_⟩⟩;unfold eU; rw[aM];simp only[ak,avF,if_false];exact Sq aR fs.toList 0 b8 h [] [] xs bJ rfl rfl af aJ
   ·cases h
  ·cases h
theorem FJ {t:TypeId} {b8:List nq} (ar:s4 P 20 t=some b8) (aC:eJ P t=some true) (aw:P.eqGuardType P.depth t=false) {xs bJ:List U} (af:jp b8 xs=true) (aJ:jp b8 bJ=true) :gN P .eql t (.aF xs) (.aF bJ)=some (.bool (fC xs bJ)) :=by
 obtain⟨a,b,q9,ra,xY⟩:=(Kl (P:=P) 20 10000 (by omega) t b8 ar).2 xs bJ af aJ;simp only[lI,aC,Option.some.injEq] at q9 ra;subst q9; subst ra;exact aaM aw xY
theorem PY {t:TypeId} {b8:List nq} (ar:s4 P 20 t=some b8) (aC:eJ P t=some true) (aw:P.eqGuardType P.depth t=false) {xs bJ:List U} (af:jp b8 xs=true) (aJ:jp b8 bJ=true) :gN P .neq t (.aF xs) (.aF bJ)=some (.bool (!fC xs bJ)) :=by
 obtain⟨a,b,q9,ra,xY⟩:=(Kl (P:=P) 20 10000 (by omega) t b8 ar).2 xs bJ af aJ;simp only[lI,aC,Option.some.injEq] at q9 ra;subst q9; subst ra;exact aaN aw xY
end Go.b0

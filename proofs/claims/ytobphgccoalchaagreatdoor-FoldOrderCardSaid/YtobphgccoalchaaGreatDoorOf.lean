/-
  The canonical machine, carried out on code without types (for calls without unknowns).
-/
import Derived.Test.YtobphgccoalchaaGreatDoorOe
import Derived.OpenShut
import Derived.Shelf.SlSortCmp.InsertionK
import Derived.Sort.LotA
set_option linter.unusedVariables false
set_option linter.unusedSimpArgs false
set_option linter.unnecessarySimpa false
namespace Go.cb
open Go
def Yn (n:Nat) (h:aO) (p v:U) :Option aO:=
 match p,v.cells with
 | .ptr b off sz,some vs=>match h.f b with
  | .cells m cs=>if m=sz/\vs.length=n/\off+n<=m then some (h.set b (.cells m (bu cs off vs))) else none
  | _=>none
 | _,_=>none
def EY (h:aO) (z by_:Nat) (s:U) (xs:List U) (n:Nat) :Option (U × aO) :=
 if n=0 then (match s with | .aW | .bR .. | .au ..=>some (s,h) | _=>none)
 else if z=0\/by_=0 then none else match s with
  | .aW=>if n*by_<=cK then some (.au z h.n 0 n n (n*z),h.push (.cells (n*z) xs)) else none
  | .au dz b off len cap sz=>match h.f b with
   | .cells m cs=>
    if m=sz/\z=dz/\(len+n)*by_<=cK then
     if len+n<=cap then some (.au z b off (len+n) cap sz,h.set b (.cells m (bu cs (off+len*z) xs)))
     else if off+cap*z<sz then some (.au z h.n 0 (len+n) (len+n) ((len+n)*z),h.push (.cells ((len+n)*z) ((cs.drop off).take (len*z)++xs)))
     else if off=0 then some (.au z b 0 (len+n) (len+n) ((len+n)*z),h.set b (.cells ((len+n)*z) (cs.take (len*z)++xs)))
     else some (.au z h.n 0 (len+n) (len+n) ((len+n)*z),(h.set b .dead).push (.cells ((len+n)*z) ((cs.drop off).take (len*z)++xs)))
    else none
   | _=>none
  | _=>none
def R0 (z:Nat) (h:aO) (d x:U) :Option (U × aO) :=
 match contents h z x with
 | none=>none
 | some (xs,n)=>match d with
  | .aW=>some (.int .i64 0,h)
  | .au dz b off len _ sz=>match h.f b with
   | .cells m cs=>if m=sz/\z=dz then some (.int .i64 ((min n len:Nat) :Int),h.set b (.cells m (bu cs off (xs.take (min n len*z))))) else none
   | _=>none
  | _=>none
def RJ (zero:List U) (h:aO) :U->Option aO
 | .aW=>some h
 | .bR _ []=>some h
 | .au z b off len _ sz=>if len=0 then some h else match h.f b with
  | .cells m cs=>if m=sz/\zero.length=z then some (h.set b (.cells m (bu cs off (dy zero len)))) else none
  | _=>none
 | _=>none
def Wj (z by_:Nat) (zero:List U) (h:aO) (l c:U) :Option (U × aO) :=match l,c with
 | .int _ l,.int _ c=>if 0<=l/\l<=c/\c<9223372036854775808/\by_*c<=cK then
   some (.au z h.n 0 l.toNat c.toNat (c.toNat*z),h.push (.cells (c.toNat*z) (dy zero c.toNat))) else none
 | _,_=>none
def RC (h:aO) (x:U) :Option U:=match x with
 | .aW=>some (.str [])
 | .str _=>none
 | x=>match contents h 1 x with | some (cs,_)=>(nl cs).map .str | none=>none
def O1 (h:aO) (z by_:Nat) (s x:U) :Option (U × aO) :=match contents h z x with
 | none=>none
 | some (xs,n)=>EY h z by_ s xs n
def O6 (h:aO) (z by_:Nat) (zero:List U) (s x:U) :Option (U × aO) :=match x with
 | .int _ n=>if 0<=n/\n<9223372036854775808/\n.toNat*by_<=cK then EY h z by_ s (dy zero n.toNat) n.toNat else none
 | _=>none
def RP (h:aO) (x y:U) :Option U:=match sp h x,sp h y with
 | some a,some b=>some (.int .i64 (n5 a b))
 | _,_=>none
def Xv (h:aO) (x:U) :Option (U × aO) :=match x with
 | .str s=>some (.it h.n,h.push (.iter s 0))
 | _=>none
def VZ (h:aO) (x:U) :Option U:=match x with
 | .hS=>some (.int .i64 0)
 | .mp b=>match h.f b with | .map es _=>some (.int .i64 es.length) | _=>none
 | _=>none
def V5 (P:Program) (h:aO) (cU:TypeId) (zero:U) (ok:Bool) (m k:U) :Option U:=
 match mapOf h m with
 | some es=>match k8 P cU k with
  | false=>none
  | true=>match jK P cU k es 0 with
   | some (some (_,v))=>some (if ok then .bE [v,.bool true] else v)
   | some none=>some (if ok then .bE [zero,.bool false] else zero)
   | none=>none
 | none=>none
def Wb (P:Program) (h:aO) (cU:TypeId) (m k v:U) :Option aO:=
 match m with
 | .mp b=>match h.f b with
  | .map es eN=>match k8 P cU k with
   | false=>none
   | true=>match jK P cU k es 0 with
    | some (some (i,_))=>some (h.set b (.map (es.modify i fun e=>(k,v,e.2.2)) eN))
    | some none=>some (h.set b (.map (es++[(k,v,eN)]) (eN+1)))
    | none=>none
  | _=>none
 | _=>none
def hs (h:aO) (x:Option U) :Option (U × aO) :=match x with | some v=>some (v,h) | none=>none
section
variable (P:Program)
def DO (aB:Operand->U) (h:aO) :dk->Option (U × aO)
 | .gd x=>some (aB x,h)
 | .pick c a b=>hs h (D3 (aB c) (aB a) (aB b))
 | .alloc zero=>some (.ptr h.n 0 zero.length,h.push (.cells zero.length zero))
 | .box x=>match (aB x).cells with | some cs=>some (.ptr h.n 0 cs.length,h.push (.cells cs.length cs)) | none=>none
 | .BV zero cJ=>hs h ((pT zero (cJ.map fun p=>(p.1,p.2.1,aB p.2.2))).map .aJ)
 | .q4 z zero len cJ=>match hD (fun i=>some (i*z,z)) (dy zero len) (cJ.map fun p=>(p.1,aB p.2)) with | some cs=>some (.au z h.n 0 len len (len*z),h.push (.cells (len*z) cs)) | none=>none
 | .ld1 a=>hs h (match reach h (aB a) with | some (cs,o)=>cs[o]? | none=>none)
 | .uP n a=>hs h (match reach h (aB a) with | some (cs,o)=>tk n cs o | none=>none)
 | .st n a x=>match Yn n h (aB a) (aB x) with | some h'=>some (hv,h') | none=>none
 | .DR x=>hs h (yY (aB x))
 | .bin o t x y=>hs h (gv P o t (aB x) (aB y))
 | .un o x=>hs h (qO o (aB x))
 | .zJ k x=>hs h (B6 k (aB x))
 | .zQ x=>hs h (Fo (aB x))
 | .tX x=>hs h (RC h (aB x))
 | .zP x=>hs h (vU (aB x))
 | .yX t x=>some (.gQ t (aB x),h)
 | .Bl t z ok x=>hs h (Bm t z ok (aB x))
 | .yW f a b=>some (.fn f (a.map aB) (b.map aB),h)
 | .rQ z by_ zero a c=>Wj z by_ zero h (aB a) (aB c)
 | .slice dm x cV av cO=>hs h (gq dm (aB x) (cV.map aB) (av.map aB) (cO.map aB))
 | .Cs off x=>hs h (nq (aB x) off)
 | .Cv off x=>hs h (Cx off (aB x))
 | .Cw n off x=>hs h (zZ n off (aB x))
 | .AL dm x i=>hs h (cg dm (aB x) (aB i))
 | .Dz n z x i=>hs h (DB n z (aB x) (aB i))
 | .DA n z x i=>hs h (DC n z (aB x) (aB i))
 | .DD x i=>hs h (yI (aB x) (aB i))
 | .ext x i=>hs h (Cr (aB x) i)
 | .len dm x=>hs h (cz dm (aB x))
 | .cap dm x=>hs h (tW dm (aB x))
 | .app z by_ s x=>O1 h z by_ (aB s) (aB x)
 | .vx z by_ zero s x=>O6 h z by_ zero (aB s) (aB x)
 | .vT z d x=>R0 z h (aB d) (aB x)
 | .vL zero x=>match RJ zero h (aB x) with | some h'=>some (.bE [],h') | none=>none
 | .min x y=>hs h (AW (aB x) (aB y))
 | .max x y=>hs h (uU (aB x) (aB y))
 | .uV x=>match x with
  | none=>some (.mp h.n,h.push (.map [] 0))
  | some o=>match asInt (aB o) with | some _=>some (.mp h.n,h.push (.map [] 0)) | none=>none
 | .yR cU zero ok m k=>hs h (V5 P h cU zero ok (aB m) (aB k))
 | .wR cU m k x=>match Wb P h cU (aB m) (aB k) (aB x) with | some h'=>some (hv,h') | none=>none
 | .wK x=>hs h (VZ h (aB x))
 | .w8 x=>Xv h (aB x)
 | .wT x=>AY h (aB x)
 | .cq f sx x y=>match Dx f (aB sx) with | true=>hs h (RP h (aB x) (aB y)) | false=>none
 | .stop=>none
end
def py (r:U->Option U) :List U->Option (List U)
 | []=>some []
 | c::cs=>match r c with
  | some c'=>match py r cs with
   | some cs'=>some (c'::cs')
   | none=>none
  | none=>none
def u3 (h:aO) :Nat->U->Option U
 | 0,_=>none
 | d+1,c=>match c with
  | .aJ cs=>match py (u3 h d) cs with | some cs'=>some (.aJ cs') | none=>none
  | .bE cs=>match py (u3 h d) cs with | some cs'=>some (.bE cs') | none=>none
  | .au z b off len cap sz=>match Nat.beq len 0 with
   | true=>some (.bR z [])
   | false=>match h.f b with
    | .cells n cs=>match Nat.beq n sz&&Nat.ble (off+len*z) cs.length with
     | true=>match py (u3 h d) ((cs.drop off).take (len*z)) with
      | some xs=>some (.bR z (l5 z len xs))
      | none=>none
     | false=>none
    | _=>none
  | .ptr b off sz=>match h.f b with
   | .cells n cs=>match Nat.beq n sz with
    | true=>match py (u3 h d) cs with | some cs'=>some (.b3 cs' off) | none=>none
    | false=>none
   | _=>none
  | c=>match c.closed with | true=>some c | false=>none
def Pf (x:U) :Option Int:=match x with
 | .int k i=>match k with | .i64=>some i | _=>none
 | _=>none
def lP (z:Nat) (cs vs:List U) (i len:Nat) :List U:=cs.take (i*z)++vs++(cs.drop (i*z)).take ((len - i)*z)++cs.drop ((len+1)*z)
def Dv (z by_:Nat) (h:aO) (s:U) (i:Nat) (bv:Nat) (vs:List U) :Option (U × aO) :=match s with
 | .aW=>if i=0/\by_<=cK then some (.au z h.n 0 1 1 z,h.push (.cells z vs)) else none
 | .au na b off len cap sz=>match h.f b with
  | .cells m cs=>if m=cap*z/\sz=cap*z/\na=z/\off=0/\bv≠b/\i<=len/\len<=cap/\(len+1)*by_<=cK then
    some (.au z h.n 0 (len+1) (max cap (len+1)) (max cap (len+1)*z),(h.set b .dead).push (.cells (max cap (len+1)*z) (lP z cs vs i len))) else none
  | _=>none
 | _=>none
def s3 (z by_:Nat) (args:List U) (h:aO) :Option (U × aO) :=match args with
 | [s,x,y]=>match Pf x,y with
  | some i,.au ix bv po bX dv g9=>match h.f bv with
   | .cells ki vs=>if ix=z/\po=0/\bX=1/\dv=1/\g9=z/\ki=z/\0<=i then Dv z by_ h s i.toNat bv vs else none
   | _=>none
  | _,_=>none
 | _=>none
class qX (P:Program) (G:Nat->U) where
 get:FuncId->Option (Nat × Nat)
 ok:∀ f z by_,get f=some (z,by_)->∀ args h r h',s3 z by_ args h=some (r,h')->sd P G f args h r h'
instance (priority:=10) asP (P:Program) (G:Nat->U) :qX P G:=⟨fun _=>none,fun f z by_ h=>by cases h⟩
abbrev oJ:=FuncId->List U->aO->Option (U × aO)
abbrev IB:=Option (sb × g4 × aO)
mutual
def a2.beq:a2->a2->Bool
 | .none,y=>match y with | .none=>true | _=>false
 | .dead,y=>match y with | .dead=>true | _=>false
 | .cells n cs,y=>match y with | .cells g6 cs'=>Nat.beq n g6&&fu cs cs' | _=>false
 | .map ..,_=>false
 | .iter ..,_=>false
end

section
variable (P:Program) (G:Nat->U)
def FN (s:g4) (g:Option (Option Tmp × Bool)) :Option Bool:=match g with
 | none=>some true
 | some (some d,w)=>match look s d with
  | .bool b=>some (b == w)
  | .bad=>none
  | _=>some false
 | some (none,_)=>some false
def BS (call:oJ) (b:qU) (s:g4) (h:aO) :Option (U × aO) :=match b with
 | .gV m=>DO P (c2 G (look s)) h m
 | .mG f args=>call f (args.map (c2 G (look s))) h
 | .nm x args=>match c2 G (look s) x with
  | .fn g first fY=>match hE P g with
   | true=>call g (first++args.map (c2 G (look s))++fY) h
   | false=>none
  | _=>none
 | .n4 x name args=>match c2 G (look s) x with
  | .gQ t v=>match yV P t name with
   | some g=>match hE P g with
    | true=>call g (v::args.map (c2 G (look s))) h
    | false=>none
   | none=>none
  | _=>none
def Ej (call:oJ) :List eA->g4->aO->Option (g4 × aO)
 | [],s,h=>some (s,h)
 | x::r,s,h=>match FN s x.g with
  | some true=>match BS P G call x.b s h with
   | some (v,h')=>Ej call r (D7 s x.dst v) h'
   | none=>none
  | some false=>Ej call r (D7 s x.dst hv) h
  | none=>none
def H9 (b:qU) (s:g4) (v:U) (h h' h1:aO) :Bool:=match b with
 | .gV m=>match m.i1 with
  | true=>a2.beq (h1.f h.n) (h'.f h.n)
  | false=>match m.looks with
   | true=>match DO P (c2 G (look s)) h1 m with
    | some (aY,_)=>U.beq aY v
    | none=>false
   | false=>false
 | _=>true
def Fh (ids:List Nat) (h:aO) :List (Nat × (aO->Bool))->Bool
 | []=>true
 | e::r=>(!ids.contains e.1||e.2 h)&&Fh ids h r
def Ei (call:oJ) :List eA->g4->aO->List (Nat × (aO->Bool))->Option (g4 × aO)
 | [],s,h,_=>some (s,h)
 | x::r,s,h,seen=>match FN s x.g with
  | some true=>match BS P G call x.b s h with
   | some (v,h')=>match Fh x.hz h' seen with
    | true=>Ei call r (D7 s x.dst v) h' (match x.cy with | true=>(x.i,H9 P G x.b s v h h') ::seen | false=>seen)
    | false=>none
   | none=>none
  | some false=>Ei call r (D7 s x.dst hv) h seen
  | none=>none
def RD (call:oJ) (aI:fW->g4->aO->IB) (c:fW) (s:g4) (h:aO) :IB:=
 match c with
 | .skip=>some (.normal,s,h)
 | .ret=>some (.ret,s,h)
 | .exit id=>some (.exit id,s,h)
 | .w5 x=>match Ej P G call x s h with
  | some (dE,h1)=>some (.normal,dE,h1)
  | none=>none
 | .xL x=>match Ei P G call x s h [] with
  | some (dE,h1)=>some (.normal,dE,h1)
  | none=>none
 | .seq a b=>match aI a s h with
  | some (.normal,dE,h1)=>aI b dE h1
  | r=>r
 | .cond c x y=>match c2 G (look s) c with
  | .bool true=>aI x s h
  | .bool false=>aI y s h
  | _=>none
 | .block id c=>match aI c s h with
  | some (.exit s2,dE,h1)=>match Nat.beq s2 id with
   | true=>some (.normal,dE,h1)
   | false=>some (.exit s2,dE,h1)
  | r=>r
 | .loop c=>match aI c s h with
  | some (.normal,dE,h1)=>aI (.loop c) dE h1
  | r=>r
def Ff (call:oJ) :Nat->fW->g4->aO->IB
 | 0=>fun _ _ _=>none
 | k+1=>RD P G call (Ff call k)
def Eg (s:g4) (h:aO) :List dk->List U->Option U
 | [],acc=>some (xj acc)
 | m::r,acc=>match DO P (c2 G (look s)) h m with
  | some (v,_)=>Eg s h r (acc++[v])
  | none=>none
abbrev qY:=FuncId->Option (Bool × (List U->Option U))
abbrev vq:=FuncId->Option (fW × List dk)
def I0 (orc:qY) (f:FuncId) (args:List U) (h:aO) :Option U:=
 match orc f with
 | some (n,g)=>match py (u3 h 20) args with
  | some iC=>match g iC with
   | some r=>match n||r.flat with | true=>some r | false=>none
   | none=>none
  | none=>none
 | none=>none
def RA [qX P G] (orc:qY) (lj:vq) (fuel:Nat) (call:oJ) :oJ:=fun f args h=>
 match qX.get P G f with
 | some (z,by_)=>s3 z by_ args h
 | none=>match I0 orc f args h with
 | some r=>some (r,h)
 | none=>match lj f with
  | none=>none
  | some (c,nT)=>match Ff P G call fuel c (A2 0 .nil args) h with
   | some (.normal,fp,h')=>match Eg P G fp h' nT [] with | some r=>some (r,h') | none=>none
   | some (.ret,fp,h')=>match Eg P G fp h' nT [] with | some r=>some (r,h') | none=>none
   | _=>none
def B4 [qX P G] (orc:qY) (lj:vq) (fuel:Nat) :Nat->oJ
 | 0=>fun _ _ _=>none
 | k+1=>RA P G orc lj fuel (B4 orc lj fuel k)
end
structure eT (h:aO) (l:ao) :Prop where
 n:h.n=l.length
 f:∀ b,h.f b=(bU l).f b
theorem eT.nil:eT aO.empty [] :=⟨rfl,fun _=>rfl⟩
theorem eT.some {h:aO} {l:ao} (r:eT h l) {b:Nat} {c:a2} (ah:h.f b=c) (aC:c≠.none) :l[b]? = some c:=by
 rw[r.f,pM] at ah;split at ah
 ·rename_i c' h1; rw[h1,ah]
 ·exact absurd ah.symm aC
theorem eT.push {h:aO} {l:ao} (r:eT h l) (c:a2) :eT (h.push c) (l++[c]) :=
 ⟨by rw[fB,r.n]; simp,fun b=>by rw[ev,<-lo,ev,r.n,vk]; unfold bO; (split<;>first | rfl | exact r.f b)⟩
theorem eT.set {h:aO} {l:ao} (r:eT h l) {b:Nat} {xE:a2} (ag:l[b]? = Option.some xE) (c:a2) :eT (h.set b c) (l.set b c) :=
 ⟨by rw[e3,r.n]; simp,fun br=>by rw[dV,<-n2 _ (e1 ag),dV]; unfold bO; (split<;>first | rfl | exact r.f br)⟩
section
variable {P:Program} {G:Nat->U} {h h' : aO} {l:ao}
theorem eT.reach (r:eT h l) (p:U) :reach h p=eM l p:=by
 rw[<-Nf];cases p<;>try rfl
 simp only[cb.reach,r.f]
theorem eT.contents (r:eT h l) (z:Nat) (x:U) :contents h z x=dM l z x:=by
 rw[<-Ce];cases x<;>try rfl
 simp only[cb.contents,r.f]
theorem eT.mapOf (r:eT h l) (x:U) :mapOf h x=s8 l x:=by
 cases x<;>try rfl
 rename_i b;simp only[cb.mapOf,s8,r.f,pM];cases l[b]? with
 | none=>rfl
 | some c=>cases c<;>rfl
theorem eT.bytes (r:eT h l) (x:U) :sp h x=oS l x:=by
 cases x<;>simp only[sp,oS,r.contents]<;>rfl
theorem ajm {x:Option U} {v:U} (af:hs h x=some (v,h')) :x=some v/\h'=h:=by
 cases x with
 | none=>cases af
 | some y=>cases af; exact⟨rfl,rfl⟩
theorem yZ (r:eT h l) {x y:Option U} {v:U} (kE:x=y) (af:hs h x=some (v,h')) :∃ l',dI l y=some (v,l')/\eT h' l':=by
 obtain⟨rfl,rfl⟩:=ajm af;exact⟨l,by rw[<-kE]; rfl,r⟩
theorem O7 (r:eT h l) {z by_ n:Nat} {s v:U} {xs:List U} (af:EY h z by_ s xs n=some (v,h')) :∃ l',iB l z by_ s xs n=some (v,l')/\eT h' l':=by
 unfold EY at af;unfold iB;by_cases aC:n=0
 ·rw[if_pos aC] at af ⊢;cases s<;>simp at af ⊢<;>(obtain⟨rfl,rfl⟩:=af; exact⟨l,⟨rfl,rfl⟩,r⟩)
 ·rw[if_neg aC] at af ⊢;by_cases aE:z=0\/by_=0
  ·rw[if_pos aE] at af; cases af
  ·rw[if_neg aE] at af ⊢;cases s<;>simp only at af ⊢<;>try (cases af; done)
   case aW=>
    by_cases az:n*by_<=cK
    ·rw[if_pos az] at af ⊢; cases af; exact⟨_,by rw[r.n],r.push _⟩
    ·rw[if_neg az] at af; cases af
   case au dz b off len cap sz=>
    cases ag:h.f b<;>rw[ag] at af<;>(try simp only at af)<;>try (cases af; done)
    rename_i m cs;have al:=r.some ag (by simp);rw[al];simp only;by_cases h1:m=sz/\z=dz/\(len+n)*by_<=cK
    ·rw[if_pos h1] at af ⊢;by_cases ad:len+n<=cap
     ·rw[if_pos ad] at af ⊢; cases af; exact⟨_,rfl,r.set al _⟩
     ·rw[if_neg ad] at af ⊢;by_cases aj:off+cap*z<sz
      ·rw[if_pos aj] at af ⊢; cases af; exact⟨_,by rw[r.n],r.push _⟩
      ·rw[if_neg aj] at af ⊢;by_cases aF:off=0
       ·rw[if_pos aF] at af ⊢; cases af; exact⟨_,rfl,r.set al _⟩
       ·rw[if_neg aF] at af ⊢; cases af; exact⟨_,by rw[r.n],(r.set al _).push _⟩
    ·rw[if_neg h1] at af; cases af
theorem MB (r:eT h l) {aB:Operand->U} {m:dk} {v:U} (af:DO P aB h m=some (v,h')) :∃ l',bQ P aB l m=some (v,l')/\eT h' l':=by
 cases m<;>simp only[DO] at af<;>simp only[bQ]
 case gd=>cases af; exact⟨l,rfl,r⟩
 case alloc=>cases af; exact⟨_,by rw[r.n],r.push _⟩
 case box x=>
  cases ah:(aB x).cells with
  | none=>rw[ah] at af; cases af
  | some cs=>rw[ah] at af; cases af; exact⟨_,by simp only[Option.map_some,r.n],r.push _⟩
 case q4 z zero n cJ=>
  split at af
  ·rename_i cs ah; cases af; exact⟨_,by rw[ah]; simp only[Option.map_some,r.n],r.push _⟩
  ·cases af
 case ld1 a=>
  rw[r.reach] at af;refine yZ r ?_ af;cases eM l (aB a)<;>rfl
 case uP n a=>
  rw[r.reach] at af;refine yZ r ?_ af;cases eM l (aB a)<;>rfl
 case st n a x=>
  unfold Yn at af;unfold km;cases ax:aB a<;>rw[ax] at af<;>(try simp only at af)<;>try (cases af; done)
  rename_i b off sz;cases ah:(aB x).cells with
  | none=>rw[ah] at af; cases af
  | some vs=>
   rw[ah] at af;simp only at af ⊢;cases ag:h.f b<;>rw[ag] at af<;>(try simp only at af)<;>try (cases af; done)
   rename_i m cs;have al:=r.some ag (by simp);rw[al];simp only;by_cases h1:m=sz/\vs.length=n/\off+n<=m
   ·rw[if_pos h1] at af ⊢; cases af; exact⟨_,rfl,r.set al _⟩
   ·rw[if_neg h1] at af; cases af
 case yX=>cases af; exact⟨l,rfl,r⟩
 case yW=>cases af; exact⟨l,rfl,r⟩
 case rQ z by_ zero a c=>
  unfold Wj at af;unfold rR;cases ax:aB a<;>rw[ax] at af<;>(try simp only at af)<;>try (cases af; done)
  cases ah:aB c<;>rw[ah] at af<;>(try simp only at af)<;>try (cases af; done)
  simp only;split at af
  ·rename_i h1; rw[if_pos h1]; cases af; exact⟨_,by rw[r.n],r.push _⟩
  ·cases af
 case tX x=>
  refine yZ r ?_ af;unfold RC vG;cases aB x<;>simp only[r.contents]<;>rfl
 case app z by_ s x=>
  unfold O1 at af;unfold iP;rw[r.contents] at af;split at af
  ·cases af
  ·rename_i xs n ah; rw[ah]; exact O7 r af
 case vx z by_ zero s x=>
  unfold O6 at af;unfold q3;cases ah:aB x<;>rw[ah] at af<;>(try simp only at af)<;>try (cases af; done)
  simp only;split at af
  ·rename_i h1; rw[if_pos h1]; exact O7 r af
  ·cases af
 case vT z d x=>
  unfold R0 at af;unfold zO;rw[r.contents] at af;split at af
  ·cases af
  ·rename_i xs n ah;rw[ah];simp only;cases bH:aB d<;>rw[bH] at af<;>(try simp only at af)<;>try (cases af; done)
   ·cases af; exact⟨l,rfl,r⟩
   ·rename_i dz b off len cap sz;cases ag:h.f b<;>rw[ag] at af<;>(try simp only at af)<;>try (cases af; done)
    rename_i m cs;have al:=r.some ag (by simp);simp only[al];split at af
    ·rename_i h1; rw[if_pos h1]; cases af; exact⟨_,rfl,r.set al _⟩
    ·cases af
 case vL zero x=>
  unfold RJ at af;unfold sr;cases bH:aB x<;>rw[bH] at af<;>(try simp only at af)<;>try (cases af; done)
  ·cases af; exact⟨l,rfl,r⟩
  ·rename_i z b off len cap sz;simp only;by_cases aE:len=0
   ·rw[if_pos aE] at af ⊢; cases af; exact⟨l,rfl,r⟩
   ·rw[if_neg aE] at af ⊢;cases ag:h.f b<;>rw[ag] at af<;>(try simp only at af)<;>try (cases af; done)
    rename_i m cs;have al:=r.some ag (by simp);rw[al];simp only;by_cases h1:m=sz/\zero.length=z
    ·rw[if_pos h1] at af ⊢; cases af; exact⟨_,rfl,r.set al _⟩
    ·rw[if_neg h1] at af; cases af
  ·rename_i z es;cases es<;>simp only at af
   ·cases af; exact⟨l,rfl,r⟩
   ·cases af
 case uV x=>
  cases x with
  | none=>cases af; exact⟨_,by rw[r.n],r.push _⟩
  | some o=>
   simp only at af ⊢;split at af
   ·rename_i n aC; rw[aC]; cases af; exact⟨_,by simp only[r.n],r.push _⟩
   ·cases af
 case yR cU zero ok m k=>
  refine yZ r ?_ af;unfold V5 wN;rw[r.mapOf];split
  ·rename_i es jn; rw[jn]; rfl
  ·rename_i jn; rw[jn]
 case wR cU m k x=>
  unfold Wb at af;unfold s9;cases hm:aB m<;>rw[hm] at af<;>(try simp only at af)<;>try (cases af; done)
  rename_i b;simp only;cases ag:h.f b<;>rw[ag] at af<;>(try simp only at af)<;>try (cases af; done)
  rename_i es eN;have al:=r.some ag (by simp);rw[al];simp only;cases hk:k8 P cU (aB k)<;>rw[hk] at af<;>simp only at af
  ·cases af
  ·simp only;cases aD:jK P cU (aB k) es 0 with
   | none=>rw[aD] at af; cases af
   | some q=>
    rw[aD] at af;cases q with
    | none=>cases af; exact⟨_,rfl,r.set al _⟩
    | some wI=>cases af; exact⟨_,rfl,r.set al _⟩
 case wK x=>
  refine yZ r ?_ af;unfold VZ DJ;cases aB x<;>try rfl
  rename_i b;simp only[r.f,pM];cases l[b]? with
  | none=>rfl
  | some c=>cases c<;>rfl
 case w8 x=>
  unfold Xv at af;unfold Bb;cases bH:aB x<;>rw[bH] at af<;>(try simp only at af)<;>try (cases af; done)
  cases af; exact⟨_,by simp only[r.n],r.push _⟩
 case wT x=>
  unfold AY at af;unfold uX;cases bH:aB x<;>rw[bH] at af<;>(try simp only at af)<;>try (cases af; done)
  rename_i b;simp only;cases ag:h.f b<;>rw[ag] at af<;>(try simp only at af)<;>try (cases af; done)
  have al:=r.some ag (by simp);rw[al];simp only;split at af
  ·rename_i h1; rw[h1]; cases af; exact⟨_,rfl,r.set al _⟩
  ·rename_i h1; rw[h1]; cases af; exact⟨_,rfl,r⟩
 case stop=>cases af
 case cq f sx x y=>
  split at af
  ·rename_i h1;rw[h1];refine yZ r ?_ af;unfold RP cmpL;rw[r.bytes,r.bytes];cases oS l (aB x)<;>cases oS l (aB y)<;>rfl
  ·cases af
 all_goals exact yZ r rfl af
theorem tq {f:U->Option U}:∀ {cs cs' : List U},py f cs=some cs'->cs'.length=cs.length
 | [],cs',h=>by cases h; rfl
 | c::cs,cs',h=>by
  unfold py at h;split at h
  ·split at h
   ·rename_i h1; cases h; simp[tq h1]
   ·cases h
  ·cases h
theorem tp {f:U->Option U}:∀ {cs cs' : List U},py f cs=some cs'->∀ (j:Nat) (c c' : U),cs[j]? = some c->cs'[j]? = some c'->f c=some c'
 | [],cs',h,j,c,c',ah,_=>by simp at ah
 | c::cs,cs',h,j,d,q7,bH,qd=>by
  unfold py at h;split at h
  ·rename_i x af;split at h
   ·rename_i h1;cases h;cases j with
    | zero=>simp at bH qd; subst bH qd; exact af
    | succ j=>exact tp h1 j d q7 (by simpa using bH) (by simpa using qd)
   ·cases h
  ·cases h
theorem Bc:∀ (d:Nat) (c c' : U),u3 h d c=some c'->fX h c c'
 | 0,c,c',af=>by cases af
 | d+1,c,c',af=>by
  unfold u3 at af;split at af
  ·split at af
   ·rename_i h1; cases af;exact .aJ _ _ (tq h1) (fun j c c' ah eW=>Bc d c c' (tp h1 j c c' ah eW))
   ·cases af
  ·split at af
   ·rename_i h1; cases af;exact .bE _ _ (tq h1) (fun j c c' ah eW=>Bc d c c' (tp h1 j c c' ah eW))
   ·cases af
  ·rename_i z b off len cap sz;split at af
   ·rename_i aE;cases af;rw[Nat.eq_of_beq_eq_true aE];exact .r2 z b off cap sz
   ·split at af
    ·rename_i n cs ag;split at af
     ·rename_i df;simp only[Bool.and_eq_true] at df;have aC:=Nat.eq_of_beq_eq_true df.1;have dR:=Nat.le_of_ble_eq_true df.2;subst aC;split at af
      ·rename_i xs h1;cases af;have bf:=tq h1;simp only[List.length_take,List.length_drop] at bf;have uH:xs.length=len*z:=by omega
       have dh:∀ (i:Nat),i<len->(l5 z len xs)[i]? = some ((xs.drop (i*z)).take z) :=fun i av=>Fi len xs i av
       have er:∀ i,i<len->i*z+z<=len*z:=fun i av=>by rw[<-Nat.succ_mul]; exact Nat.mul_le_mul_right _ av
       refine .au z b off len cap n cs _ ag (vH _ _) (fun e am=>?_) dR (fun i j e c c' am ai ah=>?_)
       ·obtain⟨i,av⟩:=List.mem_iff_getElem?.1 am;have c7:i<len:=by
         have:=(List.getElem?_eq_some_iff.1 av).1;rw[vH] at this; exact this
        rw[dh i c7] at av;cases av;have:=er i c7;simp; omega
       ·have c7:i<len:=by
         have:=(List.getElem?_eq_some_iff.1 am).1;rw[vH] at this; exact this
        rw[dh i c7] at am;cases am;have uv:=er i c7;have mR:j<z:=by have:=(List.getElem?_eq_some_iff.1 ai).1; simp at this; omega
        rw[List.getElem?_take_of_lt mR,List.getElem?_drop] at ai;refine Bc d c c' (tp h1 (i*z+j) c c' ?_ ai);rw[List.getElem?_take_of_lt (by omega),List.getElem?_drop];exact ah
      ·cases af
     ·cases af
    ·cases af
  ·rename_i b off sz;split at af
   ·rename_i n cs ag;split at af
    ·rename_i aC;split at af
     ·rename_i h1;cases af;rw[<-Nat.eq_of_beq_eq_true aC];exact .ptr b off n cs _ ag (tq h1) (fun j c c' ah eW=>Bc d c c' (tp h1 j c c' ah eW))
     ·cases af
    ·cases af
   ·cases af
  ·split at af
   ·rename_i ah; cases af; exact .same _ ah
   ·cases af
theorem fX.rep (r:eT h l) {c c' : U} (az:fX h c c') :fX (bU l) c c':=by
 induction az with
 | same c ah=>exact .same c ah
 | aJ cs cs' al aq aI=>exact .aJ cs cs' al aI
 | bE cs cs' al aq aI=>exact .bE cs cs' al aI
 | au z b off len cap sz cs es ag al aw dQ aq aI=>exact .au z b off len cap sz cs es (by rw[<-r.f]; exact ag) al aw dQ aI
 | r2 z b off cap sz=>exact .r2 z b off cap sz
 | ptr b off sz cs cs' ag al aq aI=>exact .ptr b off sz cs cs' (by rw[<-r.f]; exact ag) al aI
def BD (P:Program) (G:Nat->U) (call:oJ) :Prop:=
 ∀ (f:FuncId) (args:List U) (h:aO) (v:U) (h' : aO) (l:ao),eT h l->call f args h=some (v,h')->∃ l',eT h' l'/\∀ K:U->ao->Prop,K v l'->cY P G f args l (c:=⟨K⟩)
theorem ahH {m:dk} {v:U} {l:ao} {K:U->ao->Prop} (hk:K v l) :eI m v l K:=by
 cases m<;>first | exact hk | exact .inl hk
theorem Pk {call:oJ} (ah:BD P G call) (r:eT h l) {b:qU} {s:g4} {v:U} (af:BS P G call b s h=some (v,h')) :
  ∃ l',eT h' l'/\(∀ K:U->ao->Prop,K v l'->hW P G b (look s) l K)/\(∀ m,b=.gV m->bQ P (c2 G (look s)) l m=some (v,l')) :=by
 cases b with
 | gV m=>
  obtain⟨l',h1,ad⟩:=MB r af;refine⟨l',ad,fun K aV=>?_,fun cv hm=>by cases hm; exact h1⟩;show W (bQ P (c2 G (look s)) l m) (c:=⟨fun x=>eI m x.1 x.2 K⟩);rw[zx];exact⟨_,h1,ahH aV⟩
 | mG f args=>
  obtain⟨l',h1,ad⟩:=ah f _ h v h' l r af;exact⟨l',h1,ad,fun m hm=>by cases hm⟩
 | nm x args=>
  simp only[BS] at af;cases aD:c2 G (look s) x<;>rw[aD] at af<;>(try simp only at af)<;>try (cases af; done)
  rename_i g first fY
  split at af
  ·rename_i ky;obtain⟨l',h1,ad⟩:=ah g _ h v h' l r af;refine⟨l',h1,fun K aV=>?_,fun m hm=>by cases hm⟩;show vE P G (c2 G (look s) x) _ l (c:=⟨K⟩);unfold vE;rw[aD];exact⟨ky,ad K aV⟩
  ·cases af
 | n4 x name args=>
  simp only[BS] at af;cases aD:c2 G (look s) x<;>rw[aD] at af<;>(try simp only at af)<;>try (cases af; done)
  rename_i t v0;split at af
  ·rename_i g hm;split at af
   ·rename_i ky;obtain⟨l',h1,ad⟩:=ah g _ h v h' l r af;refine⟨l',h1,fun K aV=>?_,fun m hm=>by cases hm⟩;show vD P G name (c2 G (look s) x) _ l (c:=⟨K⟩);unfold vD;rw[aD];simp only[hm];exact⟨ky,ad K aV⟩
   ·cases af
  ·cases af
theorem FO {s:g4} {g:Option (Option Tmp × Bool)} {b:Bool} (ar:FN s g=some b) {p q:Prop} (hk:if b then p else q) :qA (look s) g p q:=by
 unfold FN at ar;unfold qA;split at ar
 ·cases ar; exact hk
 ·rename_i d w;simp only[rI];split at ar
  ·rename_i x af;simp only[af];cases ar;unfold rJ;cases agN:(x == w)<;>rw[agN] at hk<;>simpa using hk
  ·cases ar
  ·rename_i h1 ad;cases ar;cases af:look s d<;>first | exact (by simpa using hk) | (exact absurd af (h1 _)) | (exact absurd af ad)
 ·cases ar; simpa using hk
theorem Nw {call:oJ} (ah:BD P G call) :∀ (x:List eA) (s:g4) (h:aO) (l:ao) (fp:g4) (h' : aO),eT h l->Ej P G call x s h=some (fp,h')->
  ∃ l',eT h' l'/\∀ K:a8->ao->Prop,K (look fp) l'->jF P G x (look s) l K
 | [],s,h,l,fp,h',r,af=>by cases af; exact⟨l,r,fun K aV=>aV⟩
 | x::xs,s,h,l,fp,h',r,af=>by
  unfold Ej at af;split at af
  ·rename_i ar;split at af
   ·rename_i v h1 ag;obtain⟨l1,dJ,ad,_⟩:=Pk ah r ag;obtain⟨l',ct,aj⟩:=Nw ah xs _ h1 l1 fp h' dJ af;refine⟨l',ct,fun K aV=>?_⟩;unfold jF;refine FO ar ?_;simp only[if_true];refine ad _ ?_;rw[<-Hf];exact aj K aV
   ·cases af
  ·rename_i ar;obtain⟨l',ct,aj⟩:=Nw ah xs _ h l fp h' r af;refine⟨l',ct,fun K aV=>?_⟩;unfold jF;refine FO ar ?_;simp only[Bool.false_eq_true,if_false];rw[<-Hf];exact aj K aV
  ·cases af
theorem a2.beq_eq {a b:a2} (h:a2.beq a b=true) :a=b:=by
 cases a<;>cases b<;>simp[a2.beq] at h
 ·rfl
 ·rfl
 ·obtain⟨h1,ad⟩:=h;rw[h1,tT ad]
theorem alD {b:qU} {s:g4} {v:U} {h1:aO} {l' l1:ao} (r:eT h l) (ct:eT h' l') (dJ:eT h1 l1) (af:H9 P G b s v h h' h1=true) (bl:∀ m,b=.gV m->m.i1=true->∃ n cs,l'=l++[.cells n cs]) :lW P G b (look s) v l l' l1:=by
 unfold H9 at af;unfold lW;split at af
 ·rename_i m;simp only;cases aC:m.i1 with
  | true=>
   rw[aC] at af;simp only at af ⊢;have am:=a2.beq_eq af;obtain⟨n,cs,rfl⟩:=bl m rfl aC;rw[r.n] at am;have ad:h'.f l.length=(bU (l++[.cells n cs])).f l.length:=ct.f _;rw[pM] at ad;simp only[List.getElem?_append_right (Nat.le_refl _),Nat.sub_self,List.getElem?_cons_zero] at ad ⊢;exact dJ.some (am.trans ad) (by simp)
  | false=>
   rw[aC] at af;simp only at af ⊢;split at af
   ·rename_i ik;split at af
    ·rename_i aY ad hm;obtain⟨bX,aj,_⟩:=MB dJ hm;rw[U.beq_eq af] at aj;rw[V4 ik aj] at aj;exact aj
    ·cases af
   ·cases af
 ·rename_i ag;split
  ·rename_i m; exact absurd rfl (ag m)
  ·trivial
inductive zw (P:Program) (G:Nat->U) :List (Nat × (aO->Bool))->iy->Prop
 | nil:zw P G [] []
 | cons {i p q r ct}:(∀ h l,eT h l->p h=true->q l)->zw P G r ct->zw P G ((i,p) ::r) ((i,q) ::ct)
theorem RH (r:eT h l) {ids:List Nat}:∀ {a:List (Nat × (aO->Bool))} {b:iy},zw P G a b->Fh ids h a=true->pW ids b l
 | _,_,.nil,_=>trivial
 | _,_,.cons ay az,af=>by
  unfold Fh at af;simp only[Bool.and_eq_true,Bool.or_eq_true,Bool.not_eq_true'] at af;unfold pW;refine⟨fun av=>?_,RH r az af.2⟩;rcases af.1 with h1 | h1
  ·rw[av] at h1; cases h1
  ·exact ay h l r h1
theorem ahq {aB:Operand->U} {l l' : ao} {m:dk} {v:U} (aC:m.i1=true) (hm:bQ P aB l m=some (v,l')) :∃ n cs,l'=l++[.cells n cs] :=by
 cases m<;>simp only[dk.i1,Bool.false_eq_true,reduceCtorEq] at aC<;>simp only[bQ,map_some,Option.some.injEq,Prod.mk.injEq] at hm
 case alloc=>obtain⟨_,rfl⟩:=hm; exact⟨_,_,rfl⟩
 case box=>obtain⟨_,_,_,rfl⟩:=hm; exact⟨_,_,rfl⟩
 case q4=>obtain⟨_,_,_,rfl⟩:=hm; exact⟨_,_,rfl⟩
 case rQ=>
  unfold rR at hm
  repeat' split at hm
  all_goals first | (cases hm; done) | (cases hm; exact⟨_,_,rfl⟩)
theorem Nt {call:oJ} (ah:BD P G call) :∀ (x:List eA) (s:g4) (h:aO) (l:ao) (fp:g4) (h' : aO) (a:List (Nat × (aO->Bool))) (b:iy),eT h l->zw P G a b->Ei P G call x s h a=some (fp,h')->
  ∃ l',eT h' l'/\∀ K:a8->ao->Prop,K (look fp) l'->jV P G x (look s) l b K
 | [],s,h,l,fp,h',a,b,r,ak,af=>by cases af; exact⟨l,r,fun K aV=>aV⟩
 | x::xs,s,h,l,fp,h',a,b,r,ak,af=>by
  unfold Ei at af;split at af
  ·rename_i ar;split at af
   ·rename_i v h1 ag;obtain⟨l1,dJ,ad,sP⟩:=Pk ah r ag;split at af
    ·rename_i dh;have sT:zw P G (match x.cy with | true=>(x.i,H9 P G x.b s v h h1) ::a | false=>a) (r0 x.cy x.i (lW P G x.b (look s) v l l1) b) :=by
      cases x.cy with
      | false=>exact ak
      | true=>
       refine .cons (fun ad bX fg ay=>alD r dJ fg ay (fun m hm aC=>ahq aC (sP m hm))) ak
     obtain⟨l',ct,aj⟩:=Nt ah xs _ h1 l1 fp h' _ _ dJ sT af;refine⟨l',ct,fun K aV=>?_⟩;unfold jV;refine FO ar ?_;simp only[if_true];refine ad _ ⟨RH dJ ak dh,?_⟩;rw[<-Hf];exact aj K aV
    ·cases af
   ·cases af
  ·rename_i ar;obtain⟨l',ct,aj⟩:=Nt ah xs _ h l fp h' a b r ak af;refine⟨l',ct,fun K aV=>?_⟩;unfold jV;refine FO ar ?_;simp only[Bool.false_eq_true,if_false];rw[<-Hf];exact aj K aV
  ·cases af
theorem Jk {call:oJ} (ah:BD P G call) :∀ (fuel:Nat) (c:fW) (s:g4) (h:aO) (l:ao) (e:sb) (fp:g4) (h' : aO),eT h l->Ff P G call fuel c s h=some (e,fp,h')->
  ∃ l',eT h' l'/\∀ K:hd,K e (look fp) l'->run P G c (look s) l K
 | 0,c,s,h,l,e,fp,h',r,af=>by cases af
 | k+1,c,s,h,l,e,fp,h',r,af=>by
  have aI:=Jk ah k;unfold Ff RD at af;cases c with
  | skip=>cases af; exact⟨l,r,fun K aV=>aV⟩
  | ret=>cases af; exact⟨l,r,fun K aV=>aV⟩
  | exit id=>cases af; exact⟨l,r,fun K aV=>aV⟩
  | w5 x=>
   simp only at af;split at af
   ·rename_i dE h1 az;cases af;obtain⟨l',ct,ad⟩:=Nw ah x s h l fp h' r az;exact⟨l',ct,fun K aV=>ad _ aV⟩
   ·cases af
  | xL x=>
   simp only at af;split at af
   ·rename_i dE h1 az;cases af;obtain⟨l',ct,ad⟩:=Nt ah x s h l fp h' [] [] r .nil az;exact⟨l',ct,fun K aV=>ad _ aV⟩
   ·cases af
  | seq a b=>
   simp only at af;split at af
   ·rename_i dE h1 ax;obtain⟨l1,dJ,ad⟩:=aI a s h l _ dE h1 r ax;obtain⟨l',ct,aj⟩:=aI b dE h1 l1 e fp h' dJ af;refine⟨l',ct,fun K aV=>?_⟩;unfold run;exact ad _ (aj K aV)
   ·rename_i bz;obtain⟨l',ct,ad⟩:=aI a s h l e fp h' r af;refine⟨l',ct,fun K aV=>?_⟩;unfold run;refine ad _ ?_;unfold ot;cases e with
    | normal=>exact absurd af (bz _ _)
    | exit id=>exact aV
    | ret=>exact aV
  | cond c x y=>
   simp only at af;split at af
   ·rename_i iW;obtain⟨l',ct,ad⟩:=aI x s h l e fp h' r af;refine⟨l',ct,fun K aV=>?_⟩;unfold run yL;rw[iW];exact ad K aV
   ·rename_i iW;obtain⟨l',ct,ad⟩:=aI y s h l e fp h' r af;refine⟨l',ct,fun K aV=>?_⟩;unfold run yL;rw[iW];exact ad K aV
   ·cases af
  | block id c=>
   simp only at af;split at af
   ·rename_i s2 dE h1 ax;obtain⟨l',ct,ad⟩:=aI c s h l _ dE h1 r ax;split at af
    ·rename_i fm;cases af;refine⟨l',ct,fun K aV=>?_⟩;unfold run;refine ad _ ?_;unfold rH;simp only;rw[fm];exact aV
    ·rename_i fm;cases af;refine⟨l',ct,fun K aV=>?_⟩;unfold run;refine ad _ ?_;unfold rH;simp only;rw[fm];exact aV
   ·rename_i bz;obtain⟨l',ct,ad⟩:=aI c s h l e fp h' r af;refine⟨l',ct,fun K aV=>?_⟩;unfold run;refine ad _ ?_;unfold rH;cases e with
    | normal=>exact aV
    | exit id=>exact absurd af (bz _ _ _)
    | ret=>exact aV
  | loop c=>
   simp only at af;split at af
   ·rename_i dE h1 ax;obtain⟨l1,dJ,ad⟩:=aI c s h l _ dE h1 r ax;obtain⟨l',ct,aj⟩:=aI (.loop c) dE h1 l1 e fp h' dJ af;refine⟨l',ct,fun K aV=>?_⟩;have aF:=aj K aV;unfold run at aF ⊢;obtain⟨n,aC⟩:=aF;exact⟨n+1,ad _ aC⟩
   ·rename_i bz;obtain⟨l',ct,ad⟩:=aI c s h l e fp h' r af;refine⟨l',ct,fun K aV=>?_⟩;unfold run;refine⟨1,ad _ ?_⟩;unfold ot;cases e with
    | normal=>exact absurd af (bz _ _)
    | exit id=>exact aV
    | ret=>exact aV
def BJ (P:Program) (G:Nat->U) (orc:qY) :Prop:=∀ f n g args r,orc f=some (n,g)->g args=some r->bw P G f args r/\(n=true->jI P G f args r)
def BM (P:Program) (lj:vq) :Prop:=∀ f c nT,lj f=some (c,nT)->vP P f=some c/\vQ P f=some nT
theorem Nn (r:eT h l) {s:g4}:∀ {ms:List dk} {acc:List U} {v:U},Eg P G s h ms acc=some v->∀ K:U->ao->Prop,K v l->oq P G K (look s) l ms acc
 | [],acc,v,af,K,aV=>by cases af; exact aV
 | m::ms,acc,v,af,K,aV=>by
  unfold Eg at af;split at af
  ·rename_i x h1 hm;obtain⟨l1,ad,_⟩:=MB r hm;unfold oq;rw[zx];exact⟨_,ad,Nn r af K aV⟩
  ·cases af
theorem V1 (args:List U) :look (A2 0 .nil args)=zB args:=by
 rw[V2];funext t;unfold zB;by_cases aH:t<args.length
 ·rw[if_pos ⟨Nat.zero_le _,by omega⟩]; rfl
 ·rw[if_neg (by omega)];rw[List.getD_eq_getElem?_getD,List.getElem?_eq_none (by omega)]; rfl
theorem aaq {orc:qY} (ap:BJ P G orc) {f:FuncId} {args:List U} {h:aO} {l:ao} {v:U} (r:eT h l) (af:I0 orc f args h=some v) (K:U->ao->Prop) (aV:K v l) :cY P G f args l (c:=⟨K⟩) :=by
 unfold I0 at af;split at af
 ·rename_i n g ar;split at af
  ·rename_i iC ax;split at af
   ·rename_i aY aq;split at af
    ·rename_i aD;cases af;obtain⟨A0,po⟩:=ap f n g iC v ar aq;cases n with
     | true=>exact⟨v,l,.M6 (po rfl) (tq ax) (fun j c c' ah eW=>(Bc 20 c c' (tp ax j c c' ah eW)).rep r),Nat.le_refl _,aV⟩
     | false=>exact⟨v,l,.M5 A0 (tq ax) (fun j c c' ah eW=>(Bc 20 c c' (tp ax j c c' ah eW)).rep r) aD,Nat.le_refl _,aV⟩
    ·cases af
   ·cases af
  ·cases af
 ·cases af
theorem aha (r:eT h l) {z by_ i bv:Nat} {s v:U} {vs:List U} (af:Dv z by_ h s i bv vs=some (v,h')) :∃ l',eT h' l'/\Dv z by_ (bU l) s i bv vs=some (v,bU l')/\l.length<=l'.length:=by
 unfold Dv at af ⊢;cases s<;>simp only at af<;>try (cases af; done)
 case aW=>
  split at af
  ·rename_i ah;cases af;refine⟨_,r.push _,?_,by simp⟩;simp only;rw[if_pos ah,lo,vk,r.n]
  ·cases af
 case au na b off len cap sz=>
  simp only;rw[<-r.f b];cases ag:h.f b<;>rw[ag] at af<;>(try simp only at af)<;>try (cases af; done)
  simp only;split at af
  ·rename_i ah;rw[if_pos ah];cases af;have al:=r.some ag (by simp);refine⟨_,(r.set al _).push _,?_,by simp⟩;rw[n2 _ (e1 al),lo,vk,r.n]
  ·cases af
theorem ag6 (r:eT h l) {z by_:Nat} {args:List U} {v:U} (af:s3 z by_ args h=some (v,h')) :∃ l',eT h' l'/\s3 z by_ args (bU l)=some (v,bU l')/\l.length<=l'.length:=by
 unfold s3 at af ⊢;split at af
 ·rename_i s x y;split at af
  ·rename_i i ix bv po bX dv g9 mU;rw[<-r.f bv];split at af
   ·rename_i ki vs h3
    try rw[h3]
    try simp only
    split at af
    ·rename_i ah
     try rw[if_pos ah]
     exact aha r af
    ·cases af
   ·cases af
  ·cases af
 ·cases af
theorem Jg [qX P G] {orc:qY} {lj:vq} (ap:BJ P G orc) (aH:BM P lj) (fuel:Nat) :∀ k,BD P G (B4 P G orc lj fuel k)
 | 0=>fun f args h v h' l r af=>by cases af
 | k+1=>fun f args h v h' l r af=>by
  have aI:=Jg ap aH fuel k;unfold B4 RA at af;split at af
  ·rename_i z by_ ar;obtain⟨l',ct,h1,ad⟩:=ag6 r af;exact⟨l',ct,fun K aV=>⟨v,l',.ext (qX.ok f z by_ ar args (bU l) v (bU l') h1),ad,aV⟩⟩
  split at af
  ·rename_i aY aq;cases af;exact⟨l,r,fun K aV=>aaq ap r aq K aV⟩
  ·split at af
   ·cases af
   ·rename_i c nT agE;obtain⟨sL,ka⟩:=aH f c nT agE;split at af
    ·rename_i dE h1 ho;obtain⟨l1,dJ,ad⟩:=Jk aI fuel c _ h l _ dE h1 r ho;split at af
     ·rename_i aY GI;cases af;refine⟨l1,dJ,fun K aV=>Fc sL ka ?_⟩;rw[<-V1];exact ad _ (Nn dJ GI K aV)
     ·cases af
    ·rename_i dE h1 ho;obtain⟨l1,dJ,ad⟩:=Jk aI fuel c _ h l _ dE h1 r ho;split at af
     ·rename_i aY GI;cases af;refine⟨l1,dJ,fun K aV=>Fc sL ka ?_⟩;rw[<-V1];exact ad _ (Nn dJ GI K aV)
     ·cases af
    ·cases af
end
def X1 (P:Program) (G:Nat->U) [qX P G] (orc:qY) (lj:vq) (fuel k:Nat) (f:FuncId) (args:List U) (r:U) :Bool:=
 match B4 P G orc lj fuel k f args aO.empty with
 | some (v,h)=>match u3 h 20 v with
  | some aY=>U.beq aY r
  | none=>false
 | none=>false
theorem aa2 {P:Program} {G:Nat->U} [qX P G] {orc:qY} {lj:vq} (ap:BJ P G orc) (aH:BM P lj) {fuel k:Nat} {f:FuncId} {args:List U} {b:Bool} (af:X1 P G orc lj fuel k f args (.bool b)=true) :
  cY P G f args [] (c:=⟨fun r _=>r=.bool b⟩) :=by
 unfold X1 at af;split at af
 ·rename_i v h ah;split at af
  ·rename_i aY aq;obtain⟨l',_,ad⟩:=Jg ap aH fuel k f args aO.empty v h [] eT.nil ah;refine ad _ ?_;have:=U.beq_eq af;subst this;unfold u3 at aq
   repeat' split at aq
   all_goals first | (cases aq; done) | (cases aq; rfl)
  ·cases af
 ·cases af
def rep (n:Nat) (c:U) :List U:=List.replicate n c
abbrev pA (i d x:Nat) :eA:=⟨i,some d,none,.gV (.gd (.tmp x)),[],false⟩
abbrev sc (i d:Nat) (f:FuncId) (args:List Operand) :eA:=⟨i,some d,none,.mG f args,[],false⟩
@[simp] theorem as0 (n:Nat) (c:U) :(rep n c).length=n:=by simp[rep]
def pJ {α:Type} (p:Nat->α->Prop) :cG α->Prop
 | .nil=>True
 | .node l v r=>(∀ x,v=some x->p 0 x)/\pJ (fun m=>p (2*m+1)) l/\pJ (fun m=>p (2*m+2)) r
theorem IW {α:Type}:∀ (t:cG α) (p:Nat->α->Prop),pJ p t->∀ n x,t.get n=some x->p n x
 | .nil,p,h,n,x,af=>by cases af
 | .node l v r,p,h,n,x,af=>by
  obtain⟨h1,ad,aj⟩:=h;unfold cG.get at af;by_cases aE:n=0
  ·subst aE; exact h1 x af
  ·rw[jU aE] at af;simp only at af;by_cases ap:n % 2=1
   ·rw[tb ap] at af;have:=IW l _ ad _ x af;rw[show 2*(n / 2)+1=n by omega] at this; exact this
   ·rw[jU ap] at af;have:=IW r _ aj _ x af;rw[show 2*(n / 2 - 1)+2=n by omega] at this; exact this
theorem bj {α:Type} {p:Nat->α->Prop}:pJ p .nil:=trivial
theorem dr {α:Type} {p:Nat->α->Prop} {l r:cG α} (h1:pJ (fun m=>p (2*m+1)) l) (ad:pJ (fun m=>p (2*m+2)) r) :pJ p (.node l none r) :=⟨fun x h=>(by cases h),h1,ad⟩
theorem bT {α:Type} {p:Nat->α->Prop} {l r:cG α} {x:α} (af:p 0 x) (h1:pJ (fun m=>p (2*m+1)) l) (ad:pJ (fun m=>p (2*m+2)) r) :pJ p (.node l (some x) r) :=⟨fun y h=>(by cases h; exact af),h1,ad⟩
abbrev EP (P:Program) (f:Nat) (x:fW × List dk) :Prop:=vP P f=some x.1/\vQ P f=some x.2
theorem alT {P:Program} {t:cG (fW × List dk)} (h:pJ (EP P) t) :BM P (fun f=>t.get f) :=fun f c nT af=>IW t _ h f (c,nT) af
def u {w:Nat} (a:BitVec w) :Int:=(a.toNat:Int)
@[simp] theorem mx {w:Nat} (a:BitVec w) :BitVec.ofInt w (u a)=a:=by
 unfold u;rw[BitVec.ofInt_natCast,BitVec.ofNat_toNat,BitVec.setWidth_eq]
@[simp] theorem r4 {w:Nat} (a b:BitVec w) :(u a=u b)<->a=b:=⟨fun h=>BitVec.eq_of_toNat_eq (by unfold u at h; exact Int.ofNat_inj.1 h),fun h=>by rw[h]⟩
@[simp] theorem atC {w:Nat} (a b:BitVec w) :(u a<u b)<->a<b:=by unfold u; rw[Int.ofNat_lt]; rfl
@[simp] theorem atB {w:Nat} (a b:BitVec w) :(u a<=u b)<->a<=b:=by unfold u; rw[Int.ofNat_le]; rfl
@[simp] theorem atD {w:Nat} (a:BitVec w) :0<=u a:=Int.natCast_nonneg _
@[simp] theorem atE {w:Nat} (a:BitVec w) :(u a).toNat=a.toNat:=Int.toNat_natCast _
theorem atA {w:Nat} (a:BitVec w) :u a<2 ^ w:=by
 have:=a.isLt;unfold u
 exact_mod_cast this
@[simp] theorem asQ {w:Nat} (a b:Int) :BitVec.ofInt w (a - b)=BitVec.ofInt w a - BitVec.ofInt w b:=by
 rw[Int.sub_eq_add_neg,BitVec.ofInt_add,BitVec.ofInt_neg,BitVec.sub_eq_add_neg]
attribute [simp] BitVec.ofInt_add BitVec.ofInt_mul
theorem qD {w:Nat} (v:Nat) (a:BitVec w) :BitVec.ofInt v (u a)=a.setWidth v:=by
 unfold u;rw[BitVec.ofInt_natCast,BitVec.ofNat_toNat]
section
abbrev bC (a:BitVec 8) :U:=.int .u8 (u a)
@[simp] theorem EI (n:Int) :IntKind.u8.wrap n=u (BitVec.ofInt 8 n) :=by
 have aQ:(2 ^ IntKind.u8.bits:Int)=256:=by decide
 have dn:IntKind.u8.signed=false:=rfl;simp only[IntKind.wrap,aQ,dn,Bool.false_and,Bool.false_eq_true,if_false,u,BitVec.toNat_ofInt];have:(2 ^ 8:Nat)=256:=by decide
 rw[this];omega
@[simp] theorem atL (a:Int) :qO .xor (.int .u8 a)=some (.int .u8 (u (~~~(BitVec.ofInt 8 a)))) :=by
 show some (U.int .u8 (IntKind.u8.wrap (u (BitVec.ofInt 8 (255:Int) ^^^ BitVec.ofInt 8 a))))=_;rw[EI,mx];have:BitVec.ofInt 8 (255:Int)=BitVec.allOnes 8:=by decide
 rw[this,BitVec.allOnes_xor]
theorem aaR (a:BitVec 8) (k' : IntKind) (n:Nat) :cu .shl .u8 (u a) k' (n:Int)=some (.int .u8 (u (a <<< n))) :=by
 have aE:¬((n:Int)<0) :=by omega
 show (if (n:Int)<0 then none else some (U.int .u8 (IntKind.u8.wrap ((a.toNat:Int)*2 ^ min (n:Int).toNat 8))))=_;rw[if_neg aE];congr 2;rw[EI,Int.toNat_natCast];unfold u;congr 1;have:((a.toNat:Int)*2 ^ min n 8)=((a.toNat*2 ^ min n 8:Nat) :Int) :=by rw[Int.natCast_mul,Int.natCast_pow]; rfl
 rw[this,BitVec.ofInt_natCast,BitVec.toNat_ofNat,BitVec.toNat_shiftLeft,Nat.shiftLeft_eq];rcases Nat.lt_or_ge n 8 with h | h
 ·rw[Nat.min_eq_left (Nat.le_of_lt h)]
 ·rw[Nat.min_eq_right h];have h1:a.toNat*2 ^ 8 % 2 ^ 8=0:=Nat.mul_mod_left _ _;obtain⟨m,rfl⟩:=Nat.exists_eq_add_of_le h;rw[h1,Nat.pow_add,Nat.mul_left_comm,Nat.mul_mod_right]
theorem aaU (a:BitVec 8) (k' : IntKind) (n:Nat) :cu .shr .u8 (u a) k' (n:Int)=some (.int .u8 (u (a >>> n))) :=by
 have aE:¬((n:Int)<0) :=by omega
 show (if (n:Int)<0 then none else some (U.int .u8 ((a.toNat:Int).fdiv (2 ^ min (n:Int).toNat 8))))=_;rw[if_neg aE];congr 2;rw[Int.toNat_natCast];unfold u;have:((2:Int) ^ min n 8)=((2 ^ min n 8:Nat) :Int) :=by rw[Int.natCast_pow]; rfl
 rw[this,Int.fdiv_eq_ediv_of_nonneg _ (Int.natCast_nonneg _),<-Int.natCast_ediv,BitVec.toNat_ushiftRight,Nat.shiftRight_eq_div_pow];congr 1;rcases Nat.lt_or_ge n 8 with h | h
 ·rw[Nat.min_eq_left (Nat.le_of_lt h)]
 ·rw[Nat.min_eq_right h,Nat.div_eq_of_lt a.isLt,Nat.div_eq_of_lt (Nat.lt_of_lt_of_le a.isLt (Nat.pow_le_pow_right (by omega) h))]
@[simp] theorem aok (a:BitVec 8) (k' : IntKind) (n:Int) (h:0<=n) :cu .shl .u8 (u a) k' n=some (.int .u8 (u (a <<< n.toNat))) :=by
 obtain⟨m,rfl⟩:=Int.eq_ofNat_of_zero_le h;exact aaR a k' m
@[simp] theorem aoo (a:BitVec 8) (k' : IntKind) (n:Int) (h:0<=n) :cu .shr .u8 (u a) k' n=some (.int .u8 (u (a >>> n.toNat))) :=by
 obtain⟨m,rfl⟩:=Int.eq_ofNat_of_zero_le h;exact aaU a k' m
@[simp] theorem aog (a b:BitVec 8) (h:b≠0#8) :cu .rem .u8 (u a) .u8 (u b)=some (.int .u8 (u (a % b))) :=by
 have ag:(b.toNat:Int)≠0:=fun e=>h (BitVec.eq_of_toNat_eq (by simpa using e))
 show (if IntKind.u8=IntKind.u8/\(b.toNat:Int)≠0 then some (U.int .u8 ((a.toNat:Int).tmod b.toNat)) else none)=_;rw[if_pos ⟨rfl,ag⟩];unfold u;rw[BitVec.toNat_umod];rfl
@[simp] theorem aow (a b:Int) :cu .xor .u8 a .u8 b=some (.int .u8 (u (BitVec.ofInt 8 a ^^^ BitVec.ofInt 8 b))) :=by
 show some (U.int .u8 (IntKind.u8.wrap (u (BitVec.ofInt 8 a ^^^ BitVec.ofInt 8 b))))=_;rw[EI,mx]
@[simp] theorem aoe (a b:Int) :cu .or .u8 a .u8 b=some (.int .u8 (u (BitVec.ofInt 8 a ||| BitVec.ofInt 8 b))) :=by
 show some (U.int .u8 (IntKind.u8.wrap (u (BitVec.ofInt 8 a ||| BitVec.ofInt 8 b))))=_;rw[EI,mx]
@[simp] theorem anX (a b:Int) :cu .and .u8 a .u8 b=some (.int .u8 (u (BitVec.ofInt 8 a &&& BitVec.ofInt 8 b))) :=by
 show some (U.int .u8 (IntKind.u8.wrap (u (BitVec.ofInt 8 a &&& BitVec.ofInt 8 b))))=_;rw[EI,mx]
end

section
abbrev Fq (a:BitVec 16) :U:=.int .u16 (u a)
@[simp] theorem EH (n:Int) :IntKind.u16.wrap n=u (BitVec.ofInt 16 n) :=by
 have aQ:(2 ^ IntKind.u16.bits:Int)=65536:=by decide
 have dn:IntKind.u16.signed=false:=rfl;simp only[IntKind.wrap,aQ,dn,Bool.false_and,Bool.false_eq_true,if_false,u,BitVec.toNat_ofInt];have:(2 ^ 16:Nat)=65536:=by decide
 rw[this];omega
@[simp] theorem atI (a:Int) :qO .xor (.int .u16 a)=some (.int .u16 (u (~~~(BitVec.ofInt 16 a)))) :=by
 show some (U.int .u16 (IntKind.u16.wrap (u (BitVec.ofInt 16 (65535:Int) ^^^ BitVec.ofInt 16 a))))=_;rw[EH,mx];have:BitVec.ofInt 16 (65535:Int)=BitVec.allOnes 16:=by decide
 rw[this,BitVec.allOnes_xor]
theorem aaP (a:BitVec 16) (k' : IntKind) (n:Nat) :cu .shl .u16 (u a) k' (n:Int)=some (.int .u16 (u (a <<< n))) :=by
 have aE:¬((n:Int)<0) :=by omega
 show (if (n:Int)<0 then none else some (U.int .u16 (IntKind.u16.wrap ((a.toNat:Int)*2 ^ min (n:Int).toNat 16))))=_;rw[if_neg aE];congr 2;rw[EH,Int.toNat_natCast];unfold u;congr 1;have:((a.toNat:Int)*2 ^ min n 16)=((a.toNat*2 ^ min n 16:Nat) :Int) :=by rw[Int.natCast_mul,Int.natCast_pow]; rfl
 rw[this,BitVec.ofInt_natCast,BitVec.toNat_ofNat,BitVec.toNat_shiftLeft,Nat.shiftLeft_eq];rcases Nat.lt_or_ge n 16 with h | h
 ·rw[Nat.min_eq_left (Nat.le_of_lt h)]
 ·rw[Nat.min_eq_right h];have h1:a.toNat*2 ^ 16 % 2 ^ 16=0:=Nat.mul_mod_left _ _;obtain⟨m,rfl⟩:=Nat.exists_eq_add_of_le h;rw[h1,Nat.pow_add,Nat.mul_left_comm,Nat.mul_mod_right]
theorem aaS (a:BitVec 16) (k' : IntKind) (n:Nat) :cu .shr .u16 (u a) k' (n:Int)=some (.int .u16 (u (a >>> n))) :=by
 have aE:¬((n:Int)<0) :=by omega
 show (if (n:Int)<0 then none else some (U.int .u16 ((a.toNat:Int).fdiv (2 ^ min (n:Int).toNat 16))))=_;rw[if_neg aE];congr 2;rw[Int.toNat_natCast];unfold u;have:((2:Int) ^ min n 16)=((2 ^ min n 16:Nat) :Int) :=by rw[Int.natCast_pow]; rfl
 rw[this,Int.fdiv_eq_ediv_of_nonneg _ (Int.natCast_nonneg _),<-Int.natCast_ediv,BitVec.toNat_ushiftRight,Nat.shiftRight_eq_div_pow];congr 1;rcases Nat.lt_or_ge n 16 with h | h
 ·rw[Nat.min_eq_left (Nat.le_of_lt h)]
 ·rw[Nat.min_eq_right h,Nat.div_eq_of_lt a.isLt,Nat.div_eq_of_lt (Nat.lt_of_lt_of_le a.isLt (Nat.pow_le_pow_right (by omega) h))]
@[simp] theorem aoh (a:BitVec 16) (k' : IntKind) (n:Int) (h:0<=n) :cu .shl .u16 (u a) k' n=some (.int .u16 (u (a <<< n.toNat))) :=by
 obtain⟨m,rfl⟩:=Int.eq_ofNat_of_zero_le h;exact aaP a k' m
@[simp] theorem aol (a:BitVec 16) (k' : IntKind) (n:Int) (h:0<=n) :cu .shr .u16 (u a) k' n=some (.int .u16 (u (a >>> n.toNat))) :=by
 obtain⟨m,rfl⟩:=Int.eq_ofNat_of_zero_le h;exact aaS a k' m
@[simp] theorem aof (a b:BitVec 16) (h:b≠0#16) :cu .rem .u16 (u a) .u16 (u b)=some (.int .u16 (u (a % b))) :=by
 have ag:(b.toNat:Int)≠0:=fun e=>h (BitVec.eq_of_toNat_eq (by simpa using e))
 show (if IntKind.u16=IntKind.u16/\(b.toNat:Int)≠0 then some (U.int .u16 ((a.toNat:Int).tmod b.toNat)) else none)=_;rw[if_pos ⟨rfl,ag⟩];unfold u;rw[BitVec.toNat_umod];rfl
@[simp] theorem aot (a b:Int) :cu .xor .u16 a .u16 b=some (.int .u16 (u (BitVec.ofInt 16 a ^^^ BitVec.ofInt 16 b))) :=by
 show some (U.int .u16 (IntKind.u16.wrap (u (BitVec.ofInt 16 a ^^^ BitVec.ofInt 16 b))))=_;rw[EH,mx]
@[simp] theorem aob (a b:Int) :cu .or .u16 a .u16 b=some (.int .u16 (u (BitVec.ofInt 16 a ||| BitVec.ofInt 16 b))) :=by
 show some (U.int .u16 (IntKind.u16.wrap (u (BitVec.ofInt 16 a ||| BitVec.ofInt 16 b))))=_;rw[EH,mx]
@[simp] theorem anV (a b:Int) :cu .and .u16 a .u16 b=some (.int .u16 (u (BitVec.ofInt 16 a &&& BitVec.ofInt 16 b))) :=by
 show some (U.int .u16 (IntKind.u16.wrap (u (BitVec.ofInt 16 a &&& BitVec.ofInt 16 b))))=_;rw[EH,mx]
end

section
abbrev bA (a:BitVec 32) :U:=.int .u32 (u a)
@[simp] theorem Bv (n:Int) :IntKind.u32.wrap n=u (BitVec.ofInt 32 n) :=by
 have aQ:(2 ^ IntKind.u32.bits:Int)=4294967296:=by decide
 have dn:IntKind.u32.signed=false:=rfl;simp only[IntKind.wrap,aQ,dn,Bool.false_and,Bool.false_eq_true,if_false,u,BitVec.toNat_ofInt];have:(2 ^ 32:Nat)=4294967296:=by decide
 rw[this];omega
@[simp] theorem atJ (a:Int) :qO .xor (.int .u32 a)=some (.int .u32 (u (~~~(BitVec.ofInt 32 a)))) :=by
 show some (U.int .u32 (IntKind.u32.wrap (u (BitVec.ofInt 32 (4294967295:Int) ^^^ BitVec.ofInt 32 a))))=_;rw[Bv,mx];have:BitVec.ofInt 32 (4294967295:Int)=BitVec.allOnes 32:=by decide
 rw[this,BitVec.allOnes_xor]
theorem aaQ (a:BitVec 32) (k' : IntKind) (n:Nat) :cu .shl .u32 (u a) k' (n:Int)=some (.int .u32 (u (a <<< n))) :=by
 have aE:¬((n:Int)<0) :=by omega
 show (if (n:Int)<0 then none else some (U.int .u32 (IntKind.u32.wrap ((a.toNat:Int)*2 ^ min (n:Int).toNat 32))))=_;rw[if_neg aE];congr 2;rw[Bv,Int.toNat_natCast];unfold u;congr 1;have:((a.toNat:Int)*2 ^ min n 32)=((a.toNat*2 ^ min n 32:Nat) :Int) :=by rw[Int.natCast_mul,Int.natCast_pow]; rfl
 rw[this,BitVec.ofInt_natCast,BitVec.toNat_ofNat,BitVec.toNat_shiftLeft,Nat.shiftLeft_eq];rcases Nat.lt_or_ge n 32 with h | h
 ·rw[Nat.min_eq_left (Nat.le_of_lt h)]
 ·rw[Nat.min_eq_right h];have h1:a.toNat*2 ^ 32 % 2 ^ 32=0:=Nat.mul_mod_left _ _;obtain⟨m,rfl⟩:=Nat.exists_eq_add_of_le h;rw[h1,Nat.pow_add,Nat.mul_left_comm,Nat.mul_mod_right]
theorem aaT (a:BitVec 32) (k' : IntKind) (n:Nat) :cu .shr .u32 (u a) k' (n:Int)=some (.int .u32 (u (a >>> n))) :=by
 have aE:¬((n:Int)<0) :=by omega
 show (if (n:Int)<0 then none else some (U.int .u32 ((a.toNat:Int).fdiv (2 ^ min (n:Int).toNat 32))))=_;rw[if_neg aE];congr 2;rw[Int.toNat_natCast];unfold u;have:((2:Int) ^ min n 32)=((2 ^ min n 32:Nat) :Int) :=by rw[Int.natCast_pow]; rfl
 rw[this,Int.fdiv_eq_ediv_of_nonneg _ (Int.natCast_nonneg _),<-Int.natCast_ediv,BitVec.toNat_ushiftRight,Nat.shiftRight_eq_div_pow];congr 1;rcases Nat.lt_or_ge n 32 with h | h
 ·rw[Nat.min_eq_left (Nat.le_of_lt h)]
 ·rw[Nat.min_eq_right h,Nat.div_eq_of_lt a.isLt,Nat.div_eq_of_lt (Nat.lt_of_lt_of_le a.isLt (Nat.pow_le_pow_right (by omega) h))]
@[simp] theorem aoi (a:BitVec 32) (k' : IntKind) (n:Int) (h:0<=n) :cu .shl .u32 (u a) k' n=some (.int .u32 (u (a <<< n.toNat))) :=by
 obtain⟨m,rfl⟩:=Int.eq_ofNat_of_zero_le h;exact aaQ a k' m
@[simp] theorem aom (a:BitVec 32) (k' : IntKind) (n:Int) (h:0<=n) :cu .shr .u32 (u a) k' n=some (.int .u32 (u (a >>> n.toNat))) :=by
 obtain⟨m,rfl⟩:=Int.eq_ofNat_of_zero_le h;exact aaT a k' m
@[simp] theorem aaN (a b:BitVec 32) (h:b≠0#32) :cu .rem .u32 (u a) .u32 (u b)=some (.int .u32 (u (a % b))) :=by
 have ag:(b.toNat:Int)≠0:=fun e=>h (BitVec.eq_of_toNat_eq (by simpa using e))
 show (if IntKind.u32=IntKind.u32/\(b.toNat:Int)≠0 then some (U.int .u32 ((a.toNat:Int).tmod b.toNat)) else none)=_;rw[if_pos ⟨rfl,ag⟩];unfold u;rw[BitVec.toNat_umod];rfl
@[simp] theorem aou (a b:Int) :cu .xor .u32 a .u32 b=some (.int .u32 (u (BitVec.ofInt 32 a ^^^ BitVec.ofInt 32 b))) :=by
 show some (U.int .u32 (IntKind.u32.wrap (u (BitVec.ofInt 32 a ^^^ BitVec.ofInt 32 b))))=_;rw[Bv,mx]
@[simp] theorem aoc (a b:Int) :cu .or .u32 a .u32 b=some (.int .u32 (u (BitVec.ofInt 32 a ||| BitVec.ofInt 32 b))) :=by
 show some (U.int .u32 (IntKind.u32.wrap (u (BitVec.ofInt 32 a ||| BitVec.ofInt 32 b))))=_;rw[Bv,mx]
@[simp] theorem anW (a b:Int) :cu .and .u32 a .u32 b=some (.int .u32 (u (BitVec.ofInt 32 a &&& BitVec.ofInt 32 b))) :=by
 show some (U.int .u32 (IntKind.u32.wrap (u (BitVec.ofInt 32 a &&& BitVec.ofInt 32 b))))=_;rw[Bv,mx]
end

section
abbrev da (a:BitVec 64) :U:=.int .u64 (u a)
@[simp] theorem vh (n:Int) :IntKind.u64.wrap n=u (BitVec.ofInt 64 n) :=by
 have aQ:(2 ^ IntKind.u64.bits:Int)=18446744073709551616:=by decide
 have dn:IntKind.u64.signed=false:=rfl;simp only[IntKind.wrap,aQ,dn,Bool.false_and,Bool.false_eq_true,if_false,u,BitVec.toNat_ofInt];have:(2 ^ 64:Nat)=18446744073709551616:=by decide
 rw[this];omega
@[simp] theorem atK (a:Int) :qO .xor (.int .u64 a)=some (.int .u64 (u (~~~(BitVec.ofInt 64 a)))) :=by
 show some (U.int .u64 (IntKind.u64.wrap (u (BitVec.ofInt 64 (18446744073709551615:Int) ^^^ BitVec.ofInt 64 a))))=_;rw[vh,mx];have:BitVec.ofInt 64 (18446744073709551615:Int)=BitVec.allOnes 64:=by decide
 rw[this,BitVec.allOnes_xor]
theorem Pv (a:BitVec 64) (k' : IntKind) (n:Nat) :cu .shl .u64 (u a) k' (n:Int)=some (.int .u64 (u (a <<< n))) :=by
 have aE:¬((n:Int)<0) :=by omega
 show (if (n:Int)<0 then none else some (U.int .u64 (IntKind.u64.wrap ((a.toNat:Int)*2 ^ min (n:Int).toNat 64))))=_;rw[if_neg aE];congr 2;rw[vh,Int.toNat_natCast];unfold u;congr 1;have:((a.toNat:Int)*2 ^ min n 64)=((a.toNat*2 ^ min n 64:Nat) :Int) :=by rw[Int.natCast_mul,Int.natCast_pow]; rfl
 rw[this,BitVec.ofInt_natCast,BitVec.toNat_ofNat,BitVec.toNat_shiftLeft,Nat.shiftLeft_eq];rcases Nat.lt_or_ge n 64 with h | h
 ·rw[Nat.min_eq_left (Nat.le_of_lt h)]
 ·rw[Nat.min_eq_right h];have h1:a.toNat*2 ^ 64 % 2 ^ 64=0:=Nat.mul_mod_left _ _;obtain⟨m,rfl⟩:=Nat.exists_eq_add_of_le h;rw[h1,Nat.pow_add,Nat.mul_left_comm,Nat.mul_mod_right]
theorem tU (a:BitVec 64) (k' : IntKind) (n:Nat) :cu .shr .u64 (u a) k' (n:Int)=some (.int .u64 (u (a >>> n))) :=by
 have aE:¬((n:Int)<0) :=by omega
 show (if (n:Int)<0 then none else some (U.int .u64 ((a.toNat:Int).fdiv (2 ^ min (n:Int).toNat 64))))=_;rw[if_neg aE];congr 2;rw[Int.toNat_natCast];unfold u;have:((2:Int) ^ min n 64)=((2 ^ min n 64:Nat) :Int) :=by rw[Int.natCast_pow]; rfl
 rw[this,Int.fdiv_eq_ediv_of_nonneg _ (Int.natCast_nonneg _),<-Int.natCast_ediv,BitVec.toNat_ushiftRight,Nat.shiftRight_eq_div_pow];congr 1;rcases Nat.lt_or_ge n 64 with h | h
 ·rw[Nat.min_eq_left (Nat.le_of_lt h)]
 ·rw[Nat.min_eq_right h,Nat.div_eq_of_lt a.isLt,Nat.div_eq_of_lt (Nat.lt_of_lt_of_le a.isLt (Nat.pow_le_pow_right (by omega) h))]
@[simp] theorem aoj (a:BitVec 64) (k' : IntKind) (n:Int) (h:0<=n) :cu .shl .u64 (u a) k' n=some (.int .u64 (u (a <<< n.toNat))) :=by
 obtain⟨m,rfl⟩:=Int.eq_ofNat_of_zero_le h;exact Pv a k' m
@[simp] theorem aon (a:BitVec 64) (k' : IntKind) (n:Int) (h:0<=n) :cu .shr .u64 (u a) k' n=some (.int .u64 (u (a >>> n.toNat))) :=by
 obtain⟨m,rfl⟩:=Int.eq_ofNat_of_zero_le h;exact tU a k' m
@[simp] theorem zE (a b:BitVec 64) (h:b≠0#64) :cu .rem .u64 (u a) .u64 (u b)=some (.int .u64 (u (a % b))) :=by
 have ag:(b.toNat:Int)≠0:=fun e=>h (BitVec.eq_of_toNat_eq (by simpa using e))
 show (if IntKind.u64=IntKind.u64/\(b.toNat:Int)≠0 then some (U.int .u64 ((a.toNat:Int).tmod b.toNat)) else none)=_;rw[if_pos ⟨rfl,ag⟩];unfold u;rw[BitVec.toNat_umod];rfl
@[simp] theorem aov (a b:Int) :cu .xor .u64 a .u64 b=some (.int .u64 (u (BitVec.ofInt 64 a ^^^ BitVec.ofInt 64 b))) :=by
 show some (U.int .u64 (IntKind.u64.wrap (u (BitVec.ofInt 64 a ^^^ BitVec.ofInt 64 b))))=_;rw[vh,mx]
@[simp] theorem aod (a b:Int) :cu .or .u64 a .u64 b=some (.int .u64 (u (BitVec.ofInt 64 a ||| BitVec.ofInt 64 b))) :=by
 show some (U.int .u64 (IntKind.u64.wrap (u (BitVec.ofInt 64 a ||| BitVec.ofInt 64 b))))=_;rw[vh,mx]
@[simp] theorem Ph (a b:Int) :cu .and .u64 a .u64 b=some (.int .u64 (u (BitVec.ofInt 64 a &&& BitVec.ofInt 64 b))) :=by
 show some (U.int .u64 (IntKind.u64.wrap (u (BitVec.ofInt 64 a &&& BitVec.ofInt 64 b))))=_;rw[vh,mx]
end
@[simp] theorem ao3 (a:BitVec 8) :BitVec.ofInt 16 (u a)=a.setWidth 16:=qD 16 a
@[simp] theorem ao4 (a:BitVec 8) :BitVec.ofInt 32 (u a)=a.setWidth 32:=qD 32 a
@[simp] theorem ao5 (a:BitVec 8) :BitVec.ofInt 64 (u a)=a.setWidth 64:=qD 64 a
@[simp] theorem aoW (a:BitVec 16) :BitVec.ofInt 8 (u a)=a.setWidth 8:=qD 8 a
@[simp] theorem aoU (a:BitVec 16) :BitVec.ofInt 32 (u a)=a.setWidth 32:=qD 32 a
@[simp] theorem aoV (a:BitVec 16) :BitVec.ofInt 64 (u a)=a.setWidth 64:=qD 64 a
@[simp] theorem aoZ (a:BitVec 32) :BitVec.ofInt 8 (u a)=a.setWidth 8:=qD 8 a
@[simp] theorem aoX (a:BitVec 32) :BitVec.ofInt 16 (u a)=a.setWidth 16:=qD 16 a
@[simp] theorem aoY (a:BitVec 32) :BitVec.ofInt 64 (u a)=a.setWidth 64:=qD 64 a
@[simp] theorem ao2 (a:BitVec 64) :BitVec.ofInt 8 (u a)=a.setWidth 8:=qD 8 a
@[simp] theorem ao0 (a:BitVec 64) :BitVec.ofInt 16 (u a)=a.setWidth 16:=qD 16 a
@[simp] theorem ao1 (a:BitVec 64) :BitVec.ofInt 32 (u a)=a.setWidth 32:=qD 32 a
@[simp] theorem atF {w:Nat}:u (0#w)=0:=by simp[u]
theorem Jb (k:Nat) (c:Int) (ah:0<c) (hk:k<9223372036854775808) :cu .quo .i64 (k:Int) .i64 c=some (.int .i64 ((k / c.toNat:Nat) :Int)) :=by
 obtain⟨m,rfl⟩:=Int.eq_ofNat_of_zero_le (Int.le_of_lt ah);have hm:(m:Int)≠0:=by omega
 show (if IntKind.i64=IntKind.i64/\(m:Int)≠0 then some (U.int .i64 (IntKind.i64.wrap ((k:Int).tdiv m))) else none)=_;rw[if_pos ⟨rfl,hm⟩,Int.toNat_natCast];have:((k:Int).tdiv m)=((k / m:Nat) :Int) :=rfl;have ad:=Nat.div_le_self k m;rw[this];generalize k / m=q at ad;rw[wrap_i64 (by omega) (by omega)]
theorem BX (k:Nat) (c:Int) (ah:0<c) :cu .rem .i64 (k:Int) .i64 c=some (.int .i64 ((k % c.toNat:Nat) :Int)) :=by
 obtain⟨m,rfl⟩:=Int.eq_ofNat_of_zero_le (Int.le_of_lt ah);have hm:(m:Int)≠0:=by omega
 show (if IntKind.i64=IntKind.i64/\(m:Int)≠0 then some (U.int .i64 ((k:Int).tmod m)) else none)=_;rw[if_pos ⟨rfl,hm⟩,Int.toNat_natCast];rfl
theorem XK (k:IntKind) (w n:Nat) :rep n (.int k 0)=(List.replicate n (0#w)).map fun x=>.int k (u x) :=by
 simp[rep]
theorem oE {α:Type} (f:α->U) (l:List α) (i:Nat) (x:α) (h:i<l.length) :bu (l.map f) i [f x]=(l.set i x).map f:=by
 unfold bu;rw[List.set_eq_take_append_cons_drop,if_pos h];simp
theorem nX {cs vs:List U} (h:vs.length=cs.length) :bu cs 0 vs=vs:=by
 unfold bu;rw[Nat.zero_add,List.take_zero,List.nil_append,h,List.drop_length,List.append_nil]
theorem aK {l:ao} {c c' : U} (h:c=c') (ah:c'.closed=true) :Rd l c c':=by subst h; exact .same _ ah
theorem zY {α:Type} {z:Nat}:∀ (es:List (List α)),(∀ e∈es,e.length=z)->∀ (i j:Nat) (e:List α) (c:α),es[i]? = some e->e[j]? = some c->es.flatten[i*z+j]? = some c:=by
 intro es aw
 induction es with
 | nil=>intro i j e c am; simp at am
 | cons x es aI=>
  intro i j e c am ai;have af:x.length=z:=aw x (by simp);cases i with
  | zero=>
   simp only[List.getElem?_cons_zero,Option.some.injEq] at am;subst am;rw[List.flatten_cons,Nat.zero_mul,Nat.zero_add,List.getElem?_append_left (List.getElem?_eq_some_iff.1 ai).1];exact ai
  | succ i=>
   simp only[List.getElem?_cons_succ] at am;rw[List.flatten_cons,List.getElem?_append_right (by rw[af,Nat.succ_mul]; omega),af,show (i+1)*z+j - z=i*z+j by rw[Nat.succ_mul]; omega];exact aI (fun e am=>aw e (by simp[am])) i j e c am ai
inductive tM (l:ao) :List U->List U->Prop
 | nil:tM l [] []
 | cons {c c' cs cs'}:fX (bU l) c c'->tM l cs cs'->tM l (c::cs) (c'::cs')
theorem tM.len {l:ao}:∀ {a b:List U},tM l a b->b.length=a.length
 | _,_,.nil=>rfl
 | _,_,.cons _ h=>by simp[h.len]
theorem tM.get {l:ao}:∀ {a b:List U},tM l a b->∀ (j:Nat) (c c' : U),a[j]? = some c->b[j]? = some c'->fX (bU l) c c'
 | _,_,.nil,j,c,c',h,_=>by simp at h
 | _,_,.cons h1 ad,j,c,c',h,h'=>by
  cases j with
  | zero=>simp at h h'; subst h h'; exact h1
  | succ j=>exact ad.get j c c' (by simpa using h) (by simpa using h')
theorem ia {P:Program} {G:Nat->U} {f:FuncId} {args iC:List U} {r:U} {l:ao} {K:U->ao->Prop} (ay:bw P G f iC r) (az:tM l args iC) (aD:r.flat=true) (h:K r l) :cY P G f args l (c:=⟨K⟩) :=
 ⟨r,l,.M5 ay az.len az.get aD,Nat.le_refl _,h⟩
theorem W8 {P:Program} {G:Nat->U} {f:FuncId} {args iC:List U} {r:U} {l:ao} {K:U->ao->Prop} (ay:jI P G f iC r) (az:tM l args iC) (h:K r l) :cY P G f args l (c:=⟨K⟩) :=
 ⟨r,l,.M6 ay az.len az.get,Nat.le_refl _,h⟩
inductive kp (l:ao) :U->U->Prop
 | flat (c:U) (h:c.flat=true) :kp l c c
 | aJ (cs cs' : List U) (al:cs'.length=cs.length) (h:∀ (j:Nat) (c c' : U),cs[j]? = some c->cs'[j]? = some c'->kp l c c') :kp l (.aJ cs) (.aJ cs')
 | bE (cs cs' : List U) (al:cs'.length=cs.length) (h:∀ (j:Nat) (c c' : U),cs[j]? = some c->cs'[j]? = some c'->kp l c c') :kp l (.bE cs) (.bE cs')
 | au (z b off len cap sz:Nat) (cs:List U) (es:List (List U)) (ag:l[b]? = some (.cells sz cs)) (al:es.length=len) (aw:∀ e∈es,e.length=z)
   (dQ:off+len*z<=cs.length)
   (h:∀ (i j:Nat) (e:List U) (c c' : U),es[i]? = some e->e[j]? = some c'->cs[off+(i*z+j)]? = some c->kp l c c') :kp l (.au z b off len cap sz) (.bR z es)
 | r2 (z b off cap sz:Nat) :kp l (.au z b off 0 cap sz) (.bR z [])
 | fO (z:Nat) :kp l (.bR z []) (.bR z [])
theorem aj7 {w:World} {R:Nat->Prop} {B:Nat} {l:ao} {μ:cP} (rel:b9 R B w (bU l) μ) :∀ {c c' : U},kp l c c'->∀ {v:Value},aP w R (bU l) μ c v->fD w (fun k=>B<=k) c' v:=by
 intro c c' az
 induction az with
 | flat c h=>intro v aq; exact SD aq h
 | aJ cs cs' al h aI=>
  intro v aq;cases aq with
  | aJ _ vs gk h1 aq=>
   refine .aJ cs' vs (by omega) h1 (fun j c' v ai fy=>?_);have aN:j<cs.length:=by rw[<-al]; exact (List.getElem?_eq_some_iff.1 ai).1
   exact aI j cs[j] c' (List.getElem?_eq_getElem aN) ai (aq j cs[j] v (List.getElem?_eq_getElem aN) fy)
 | bE cs cs' al h aI=>
  intro v aq;cases aq with
  | bE _ vs gk aq=>
   refine .bE cs' vs (by omega) (fun j c' v ai fy=>?_);have aN:j<cs.length:=by rw[<-al]; exact (List.getElem?_eq_some_iff.1 ai).1
   exact aI j cs[j] c' (List.getElem?_eq_getElem aN) ai (aq j cs[j] v (List.getElem?_eq_getElem aN) fy)
 | r2 z b off cap sz=>
  intro v aq;cases aq with
  | au _ _ _ _ _ _ cap' cs m ag hm al ap ah=>exact .fO z _ cap'
  | gH _ _ _ _ _ _ cap' a al ah ar=>exact .fO z _ cap'
  | hV _ _ _ _ a cs m ag hm=>exact .fO z a 0
 | fO z=>
  intro v aq;generalize am:([] :List (List U))=es at aq;generalize Ad:U.bR z es=xE at aq;cases aq<;>cases Ad
  ·subst am; exact .fO z _ _
  ·exact .fO z _ _
 | au z b off len cap sz cs es ag al aw dQ h aI=>
  intro v aq;have rk:(bU l).f b=.cells sz cs:=lY.2 ag;cases aq with
  | hV _ _ _ _ a hB m fT kf=>
   obtain rfl:=List.length_eq_zero_iff.1 al;exact .fO z a 0
  | gH _ _ _ _ _ _ cap' a al ah ar=>
   exfalso;rcases ar with ar | ⟨n,hB,ar,aN⟩
   ·rw[rk] at ar; cases ar
   ·rw[rk] at ar; cases ar; omega
  | au _ _ _ _ _ _ cap' hB m fT hm g0 ap ah=>
   rw[rk] at fT; cases fT;have hblk:=rel.blk b m hm;rw[rk] at hblk;obtain⟨ci,ce,arr,t,gh,hw,ax,aD,mM⟩:=hblk;have c3:len<=cap':=by rcases ah with ⟨_,h⟩ | ⟨_,h,_⟩<;>omega
   have og:B<=m.r:=rel.base b m (by rw[rk]; rfl) hm;subst al;have rl:∀ i j,i<es.length->j<z->∃ c v,cs[off+(i*z+j)]? = some c/\arr[m.s+(off+(i*z+j))]? = some v/\v.oneCell'=true/\aP w R (bU l) μ c v:=by
    intro i j av ai;have aN:off+(i*z+j)<cs.length:=by
     have:i*z+z<=es.length*z:=by rw[<-Nat.succ_mul]; exact Nat.mul_le_mul_right _ av
     omega
    obtain⟨v,h1,ad,aj⟩:=mM _ _ (List.getElem?_eq_getElem aN);exact⟨_,v,List.getElem?_eq_getElem aN,h1,ad,aj⟩
   refine .bR z es m.r (m.s+off) cap' (fun i j=>(arr[m.s+(off+(i*z+j))]?).getD undef) c3 aw (fun i j av ai=>?_) (fun i e am j c' ai=>?_)
   ·obtain⟨c,v,h1,ad,aj,aF⟩:=rl i j av ai;refine⟨?_,?_,og,fun ⟨b,m,h1,ad,aj⟩=>by cases ad⟩
    ·simp only[World.cell?,hw,ad,Option.getD_some,Option.isSome_none];rw[show m.s+off+(i*z+j)=m.s+(off+(i*z+j)) by omega,ad]; rfl
    ·rw[ad]; exact aj
   ·have av:i<es.length:=(List.getElem?_eq_some_iff.1 am).1;have mR:j<z:=by rw[<-aw e (List.mem_of_getElem? am)]; exact (List.getElem?_eq_some_iff.1 ai).1
    obtain⟨c,v,h1,ad,aj,aF⟩:=rl i j av mR;simp only[ad,Option.getD_some];exact aI i j e c c' am ai h1 aF
theorem A8 {P:Program} {G:Nat->U} (mj:P.follows .mixedOrders=true) (kw:∀ g,(G g).closed=true) {f:FuncId} {args:List U} {r:U} (h:cY P G f args [] (c:=⟨fun lf l=>kp l lf r⟩)) :jI P G f args r:=by
 obtain⟨lf,l',h1,ad,aj⟩:=h;intro w A vs ar al aq;refine (Og (A:=A) mj kw h1 ar al aq).mono ?_;rintro e w' ⟨v,μ',rfl,ag,rel,az⟩;exact⟨v,rfl,ag,aj7 rel aj az⟩
theorem Xz {l:ao} {z b n cap sz:Nat} {es:List (List U)} {rest:List U} (ag:l[b]? = some (.cells sz (es.flatten++rest))) (aC:es.length=n) (aw:∀ e∈es,e.length=z) (ah:∀ e∈es,l7 e=true) :kp l (.au z b 0 n cap sz) (.bR z es) :=by
 have fc:=l8 (z:=z) (es:=es) (fun e am=>aw e am);refine .au z b 0 n cap sz _ es ag aC aw (by rw[List.length_append,fc,aC]; omega) (fun i j e c c' am ai dp=>?_);have av:i<es.length:=(List.getElem?_eq_some_iff.1 am).1;have mR:j<z:=by rw[<-aw e (List.mem_of_getElem? am)]; exact (List.getElem?_eq_some_iff.1 ai).1
 have aN:i*z+j<es.flatten.length:=by
  rw[fc];have:i*z+z<=es.length*z:=by rw[<-Nat.succ_mul]; exact Nat.mul_le_mul_right _ av
  omega
 have h1:es.flatten[i*z+j]? = some c':=zY es aw i j e c' am ai;rw[Nat.zero_add,List.getElem?_append_left aN,h1] at dp;cases dp;exact .flat _ (FD (ah e (List.mem_of_getElem? am)) j _ ai)
theorem Xw {l:ao} {c:U} (h:c.closed=true) :fX (bU l) c c:=.same c h
@[simp] theorem aqI (n z:Nat) (cs:List U) (k:IntKind) (i:Int) :DB n z (.aJ cs) (.int k i)=if 0<=i/\i<n then cs[i.toNat*z]? else none:=id rfl
@[simp] theorem aqJ (n z:Nat) (cs:List U) (k:IntKind) (i:Int) :DC n z (.aJ cs) (.int k i)=if 0<=i/\i<n then tk z cs (i.toNat*z) else none:=id rfl
@[simp] theorem AQ (s:List UInt8) (k:IntKind) (i:Int) :yI (.str s) (.int k i)=if 0<=i then (s[i.toNat]?).map jf else none:=id rfl
theorem akU {α:Type} {l:List α} {i:Nat} {x:α} (h:l[i]? = some x) :l.set i x=l:=by
 obtain⟨av,rfl⟩:=List.getElem?_eq_some_iff.1 h;exact List.set_getElem_self av
theorem lr {α:Type} (f:α->U) (aD:∀ x,(f x).closed=true) :∀ l:List α,bg (l.map f)=true
 | []=>rfl
 | x::l=>by simp only[List.map_cons,bg,aD,lr f aD l,Bool.and_self]
theorem RM {α:Type} (f:α->U) (aD:∀ x,(f x).closed=true) (l:List α) :(U.aJ (l.map f)).closed=true:=by simp only[U.closed]; exact lr f aD l
theorem zX {α:Type} (f:α->U) (aD:∀ x,(f x).flat=true) :∀ l:List α,l7 (l.map f)=true
 | []=>rfl
 | x::l=>by simp only[List.map_cons,l7,aD,zX f aD l,Bool.and_self]
theorem SB {α:Type} (f:α->U) (aD:∀ x,(f x).flat=true) (l:List α) :(U.aJ (l.map f)).flat=true:=by simp only[U.flat]; exact zX f aD l
@[simp] theorem aoz (z:Nat) :tW (.au z) .aW=some (.int .i64 0) :=id rfl
@[simp] theorem aoy (n z:Nat) (x:U) :tW (.arr n z) x=some (.int .i64 n) :=id rfl
theorem atr (z:Nat) (cV av cO:Option U) :gq (.au z) .aW cV av cO=(gK 0 0 cV av cO).map fun _=>.aW:=rfl
@[simp] theorem ats (z:Nat) (k:IntKind) :gq (.au z) .aW none (some (.int k 0)) none=some .aW:=id rfl
theorem za (z b off len cap sz:Nat) (cV av cO:Option U) :gq (.au z) (.au z b off len cap sz) cV av cO=(gK len cap cV av cO).map fun (l,aG,m)=>if m=l then .au z b (off+l*z) 0 0 sz else .au z b (off+l*z) (aG - l) (m - l) sz:=by
 simp[gq]
theorem DX {α:Type} {l:List α} {a:α} (h:l[0]? = some a) :∃ r,l=a::r:=by
 cases l with
 | nil=>simp at h
 | cons x l=>simp at h; subst h; exact⟨l,rfl⟩
theorem ama {α:Type} {l:List α} {b:α} (h:l[1]? = some b) :∃ a r,l=a::b::r:=by
 cases l with
 | nil=>simp at h
 | cons x l=>obtain⟨r,rfl⟩:=DX (l:=l) (by simpa using h); exact⟨x,r,rfl⟩
theorem Bf (zero:List U) (n:Nat) :(dy zero n).length=n*zero.length:=by
 induction n with
 | zero=>simp[dy]
 | succ n aI=>simp[dy,aI,Nat.succ_mul,Nat.add_comm]
theorem HY (zero:List U) (n:Nat) :dy zero n=(List.replicate n zero).flatten:=by
 induction n with
 | zero=>rfl
 | succ n aI=>rw[dy,aI,List.replicate_succ,List.flatten_cons]
inductive bG (z:Nat) (l:ao) :U->Nat->List (List U)->Prop
 | nil (j:Nat) :bG z l .aW j []
 | au (j n cap sz:Nat) (cs:List U) (es:List (List U)) (ag:l[j]? = some (.cells sz cs)) (al:cs.length=sz) (aC:es.length=n) (aw:∀ e∈es,e.length=z) (ah:n<=cap) (c3:cap*z<=sz)
   (ci:cs.take (n*z)=es.flatten) :bG z l (.au z j 0 n cap sz) j es
def cx:U->Bool | .aW=>true | _=>false
theorem i2 {v:U}:cx v=true<->v=.aW:=by cases v<;>simp[cx]
theorem uL {α:Type} {v aY:U} {xs:List α} (h:aY=.aW<->v=.aW/\xs=[]) :cx aY=(cx v&&xs.isEmpty) :=by
 rw[Bool.eq_iff_iff,i2,h,Bool.and_eq_true,i2,List.isEmpty_iff]
def tv (z:Nat) (v:U) (es:List (List U)) :U:=match cx v with | true=>.aW | false=>.bR z es
section
variable {z:Nat} {l l' : ao} {v:U} {j:Nat} {es:List (List U)}
theorem bG.lt (h:bG z l v j es) :v=.aW\/j<l.length:=by
 cases h with
 | nil j=>exact .inl rfl
 | au j n cap sz cs es ag=>exact .inr (e1 ag)
theorem bG.row (h:bG z l v j es) :∀ e∈es,e.length=z:=by
 cases h with
 | nil j=>intro e am; cases am
 | au j n cap sz cs es ag al aC aw=>exact aw
theorem bG.cells (h:bG z l v j es) :v.cells=some [v] :=by cases h<;>rfl
theorem bG.len (h:bG z l v j es) :cz (.au z) v=some (.int .i64 es.length) :=by
 cases h with
 | nil j=>rfl
 | au j n cap sz cs es ag al aC=>subst aC; rfl
theorem bG.frame (h:bG z l v j es) (ai:j<l.length->l'[j]? = l[j]?) :bG z l' v j es:=by
 cases h with
 | nil j=>exact .nil j
 | au j n cap sz cs es ag al aC aw ah c3 ci=>exact .au j n cap sz cs es (by rw[ai (e1 ag)]; exact ag) al aC aw ah c3 ci
theorem bG.oV (h:bG z l v j es) (ai:v=.aW\/l'[j]? = l[j]?) :bG z l' v j es:=by
 cases h with
 | nil j=>exact .nil j
 | au j n cap sz cs es ag al aC aw ah c3 ci=>
  rcases ai with ai | ai
  ·cases ai
  ·exact .au j n cap sz cs es (by rw[ai]; exact ag) al aC aw ah c3 ci
theorem bG.more (h:bG z l v j es) (x:ao) :bG z (l++x) v j es:=h.frame fun ai=>List.getElem?_append_left ai
theorem bG.contents (h:bG z l v j es) :dM l z v=some (es.flatten,es.length) :=by
 cases h with
 | nil j=>rfl
 | au j n cap sz cs es ag al aC aw ah c3 ci=>subst aC; simp only[dM,ag,and_self,if_true,List.drop_zero,ci]
theorem bG.HT (h:bG z l v j es) (aD:∀ e∈es,l7 e=true) :kp l v (tv z v es) :=by
 cases h with
 | nil j=>exact .flat _ rfl
 | au j n cap sz cs es ag al aC aw ah c3 ci=>
  show kp l _ (.bR z es);refine Xz (rest:=cs.drop (n*z)) ?_ aC aw aD;rw[ag,<-ci,List.take_append_drop]
theorem bG.rZ (h:bG z l v j es) (aD:∀ e∈es,bg e=true) :fX (bU l) v (tv z v es) :=by
 cases h with
 | nil j=>exact .same _ rfl
 | au j n cap sz cs es ag al aC aw ah c3 ci=>
  show fX (bU l) _ (.bR z es);have qo:n*z<=cs.length:=by rw[al]; exact Nat.le_trans (Nat.mul_le_mul_right _ ah) c3
  refine .au z j 0 n cap sz cs es (lY.2 ag) aC aw (by omega) (fun i k e c c' am hk dp=>?_);have av:i<es.length:=(List.getElem?_eq_some_iff.1 am).1;have K6:k<z:=by rw[<-aw e (List.mem_of_getElem? am)]; exact (List.getElem?_eq_some_iff.1 hk).1
  have aN:i*z+k<n*z:=by
   have:i*z+z<=es.length*z:=by rw[<-Nat.succ_mul]; exact Nat.mul_le_mul_right _ av
   rw[aC] at this; omega
  have h1:es.flatten[i*z+k]? = some c':=zY es aw i k e c' am hk;rw[<-ci,List.getElem?_take_of_lt aN] at h1;rw[Nat.zero_add,h1] at dp;cases dp;exact .same _ (B9 (aD e (List.mem_of_getElem? am)) k _ hk)
theorem Eb {l:ao} {z b n cap sz:Nat} {es:List (List U)} {rest:List U} (ag:l[b]? = some (.cells sz (es.flatten++rest))) (aC:es.length=n) (aw:∀ e∈es,e.length=z) (ah:∀ e∈es,bg e=true) :fX (bU l) (.au z b 0 n cap sz) (.bR z es) :=by
 have fc:=l8 (z:=z) (es:=es) (fun e am=>aw e am);refine .au z b 0 n cap sz _ es (lY.2 ag) aC aw (by rw[List.length_append,fc,aC]; omega) (fun i j e c c' am ai dp=>?_);have av:i<es.length:=(List.getElem?_eq_some_iff.1 am).1;have mR:j<z:=by rw[<-aw e (List.mem_of_getElem? am)]; exact (List.getElem?_eq_some_iff.1 ai).1
 have aN:i*z+j<es.flatten.length:=by
  rw[fc];have:i*z+z<=es.length*z:=by rw[<-Nat.succ_mul]; exact Nat.mul_le_mul_right _ av
  omega
 have h1:es.flatten[i*z+j]? = some c':=zY es aw i j e c' am ai;rw[Nat.zero_add,List.getElem?_append_left aN,h1] at dp;cases dp;exact .same _ (B9 (ah e (List.mem_of_getElem? am)) j _ ai)
theorem O2 (h:bG z l v j es) {by_ m:Nat} {xs:List (List U)} (hm:xs.length=m) (lO:∀ e∈xs,e.length=z) (aE:z≠0) (ep:by_≠0) (dN:(es.length+m)*by_<=cK) :
  ∃ aY bM l',iB l z by_ v xs.flatten m=some (aY,l')/\bG z l' aY bM (es++xs)/\l.length<=l'.length/\(∀ b,b<l.length->b≠j->l'[b]? = l[b]?)/\(bM=j\/l.length<=bM)/\(aY=.aW<->v=.aW/\xs=[]) :=by
 by_cases jO:m=0
 ·have af:xs=[] :=List.length_eq_zero_iff.1 (by omega);subst af;refine⟨v,j,l,?_,by simpa using h,Nat.le_refl _,fun _ _ _=>rfl,.inl rfl,by simp⟩;unfold iB;rw[if_pos jO];cases h<;>rfl
 have bf:xs.flatten.length=m*z:=by rw[l8 lO,hm]
 have iY:∀ e∈es++xs,e.length=z:=fun e am=>by
  rcases List.mem_append.1 am with h1 | h1
  ·exact h.row e h1
  ·exact lO e h1
 have bz:xs≠[] :=fun af=>jO (by rw[<-hm,af]; rfl)
 cases h with
 | nil j=>
  refine⟨.au z l.length 0 m m (m*z),l.length,l++[.cells (m*z) xs.flatten],?_,?_,by simp,fun b ag _=>List.getElem?_append_left ag,.inr (Nat.le_refl _),by simp[bz]⟩
  ·unfold iB;rw[if_neg jO,if_neg (by omega)];simp only;rw[if_pos (by simpa using dN)]
  ·refine .au _ _ _ _ xs.flatten _ (by simp) bf (by simpa using hm) iY (Nat.le_refl _) (Nat.le_refl _) ?_;rw[List.take_of_length_le (by omega)]; rfl
 | au j n cap sz cs es ag al aC aw ah c3 ci=>
  subst aC;have qo:es.length*z<=cap*z:=Nat.mul_le_mul_right _ ah;have wo:(es++xs).length=es.length+m:=by simp[hm]
  have fc:(es++xs).flatten=es.flatten++xs.flatten:=by simp
  have o6:es.flatten.length=es.length*z:=l8 aw;have mL:iB l z by_ (.au z j 0 es.length cap sz) xs.flatten m =
    if es.length+m<=cap then some (.au z j 0 (es.length+m) cap sz,l.set j (.cells sz (bu cs (es.length*z) xs.flatten)))
    else if cap*z<sz then some (.au z l.length 0 (es.length+m) (es.length+m) ((es.length+m)*z),l++[.cells ((es.length+m)*z) (es.flatten++xs.flatten)])
    else some (.au z j 0 (es.length+m) (es.length+m) ((es.length+m)*z),l.set j (.cells ((es.length+m)*z) (es.flatten++xs.flatten))) :=by
   unfold iB;rw[if_neg jO,if_neg (by omega)];simp only[ag];rw[if_pos ⟨trivial,trivial,dN⟩];simp only[Nat.zero_add,List.drop_zero,ci,if_true]
  rw[mL];have eX:=e1 ag;split
  ·rename_i h1;have Le:(es.length+m)*z<=cap*z:=Nat.mul_le_mul_right _ h1;rw[Nat.add_mul] at Le;refine⟨_,j,_,rfl,?_,by simp,fun b bL gN=>by rw[List.getElem?_set_ne (fun e=>gN e.symm)],.inl rfl,by simp⟩;refine .au j _ cap sz (bu cs (es.length*z) xs.flatten) _ (by rw[List.getElem?_set_self eX]) ?_ wo iY h1 c3 ?_
   ·rw[r3 (by omega)]; omega
   ·rw[fc];unfold bu;rw[ci,List.take_append_of_le_length (by simp[o6,bf,Nat.add_mul]),List.take_of_length_le (by simp[o6,bf,Nat.add_mul])]
  ·split
   ·refine⟨_,l.length,_,rfl,?_,by simp,fun b bL _=>List.getElem?_append_left bL,.inr (Nat.le_refl _),by simp⟩;refine .au _ _ _ _ (es.flatten++xs.flatten) _ (by simp) (by simp[o6,bf,Nat.add_mul]) wo iY (Nat.le_refl _) (Nat.le_refl _) ?_;rw[fc,List.take_of_length_le (by simp[o6,bf,Nat.add_mul])]
   ·refine⟨_,j,_,rfl,?_,by simp,fun b bL gN=>by rw[List.getElem?_set_ne (fun e=>gN e.symm)],.inl rfl,by simp⟩;refine .au j _ _ _ (es.flatten++xs.flatten) _ (by rw[List.getElem?_set_self eX]) (by simp[o6,bf,Nat.add_mul]) wo iY (Nat.le_refl _) (Nat.le_refl _) ?_;rw[fc,List.take_of_length_le (by simp[o6,bf,Nat.add_mul])]
theorem oP (h:bG z l v j es) {by_:Nat} {x:U} {xs:List (List U)} (af:dM l z x=some (xs.flatten,xs.length)) (lO:∀ e∈xs,e.length=z) (aE:z≠0) (ep:by_≠0) (dN:(es.length+xs.length)*by_<=cK) :
  ∃ aY bM l',iP l z by_ v x=some (aY,l')/\bG z l' aY bM (es++xs)/\l.length<=l'.length/\(∀ b,b<l.length->b≠j->l'[b]? = l[b]?)/\(bM=j\/l.length<=bM)/\(aY=.aW<->v=.aW/\xs=[]) :=by
 unfold iP;rw[af];exact O2 h rfl lO aE ep dN
theorem aan (h:bG z l v j es) {by_ n:Nat} {k:IntKind} {zero:List U} (iZ:zero.length=z) (aE:z≠0) (ep:by_≠0) (aC:n<9223372036854775808) (dN:(es.length+n)*by_<=cK) :
  ∃ aY bM l',q3 l z by_ zero v (.int k (n:Int))=some (aY,l')/\bG z l' aY bM (es++List.replicate n zero)/\l.length<=l'.length/\(∀ b,b<l.length->b≠j->l'[b]? = l[b]?)/\(bM=j\/l.length<=bM)/\(aY=.aW<->v=.aW/\n=0) :=by
 have:=O2 h (xs:=List.replicate n zero) (m:=n) (by simp) (fun e am=>by rw[(List.mem_replicate.1 am).2,iZ]) aE ep dN;obtain⟨aY,bM,l',h1,ad⟩:=this;refine⟨aY,bM,l',?_,by simpa [List.replicate_eq_nil_iff] using ad⟩;unfold q3;simp only[Int.toNat_natCast];rw[if_pos ⟨by omega,by omega,by have:=Nat.le_trans (Nat.mul_le_mul_right by_ (Nat.le_add_left n es.length)) dN; exact this⟩,HY];exact h1
theorem aap {l:ao} {z by_ n:Nat} {v aY:U} {xs:List U} {pre rest:ao} {l' : ao} (aq:v=.aW\/∃ j n cap sz,v=.au z j 0 n cap sz/\pre.length<=j) (h:iB (pre++rest) z by_ v xs n=some (aY,l')) :
  ∃ lU,l'=pre++lU:=by
 unfold iB at h;by_cases aC:n=0
 ·rw[if_pos aC] at h;rcases aq with rfl | ⟨j,m,cap,sz,rfl,ai⟩<;>(cases h; exact⟨_,rfl⟩)
 rw[if_neg aC] at h;by_cases aE:z=0\/by_=0
 ·rw[if_pos aE] at h; cases h
 rw[if_neg aE] at h;rcases aq with rfl | ⟨j,m,cap,sz,rfl,ai⟩
 ·simp only at h;split at h
  ·cases h; exact⟨_,by rw[List.append_assoc]⟩
  ·cases h
 ·simp only at h;split at h
  ·split at h
   ·split at h
    ·cases h; exact⟨_,by rw[List.set_append_right _ _ ai]⟩
    ·split at h
     ·cases h; exact⟨_,by rw[List.append_assoc]⟩
     ·split at h
      ·cases h; exact⟨_,by rw[List.set_append_right _ _ ai]⟩
      ·rename_i aG; exact absurd trivial aG
   ·cases h
  ·cases h
theorem xD {z by_:Nat} {v:U} {j:Nat} {es:List (List U)} {pre rest:ao} (h:bG z (pre++rest) v j es) (ai:v=.aW\/pre.length<=j) {x:U} {xs:List (List U)} (af:dM (pre++rest) z x=some (xs.flatten,xs.length)) (lO:∀ e∈xs,e.length=z) (aE:z≠0) (ep:by_≠0)
  (dN:(es.length+xs.length)*by_<=cK) :
  ∃ aY bM lU,iP (pre++rest) z by_ v x=some (aY,pre++lU)/\bG z (pre++lU) aY bM (es++xs)/\(aY=.aW\/pre.length<=bM)/\cx aY=(cx v&&xs.isEmpty) :=by
 have aD:v=.aW\/∃ j n cap sz,v=.au z j 0 n cap sz/\pre.length<=j:=by
  cases h with
  | nil j=>exact .inl rfl
  | au j n cap sz cs es=>exact .inr ⟨j,n,cap,sz,rfl,ai.resolve_left (by simp)⟩
 obtain⟨aY,bM,l',h1,ad,aj,aF,aU,bt⟩:=oP h af lO aE ep dN;have cN:=h1;unfold iP at cN;rw[af] at cN;obtain⟨lU,rfl⟩:=aap (l:=[]) aD cN;refine⟨aY,bM,lU,h1,ad,?_,uL bt⟩;rcases aU with h | h
 ·rcases ai with aq | ai
  ·by_cases AK:xs=[]
   ·exact .inl (bt.2 ⟨aq,AK⟩)
   ·right;subst aq;have AJ:xs.length≠0:=fun e=>AK (List.length_eq_zero_iff.1 e)
    simp only at cN;unfold iB at cN;rw[if_neg AJ] at cN;split at cN
    ·cases cN
    ·simp only at cN;split at cN
     ·obtain⟨rfl,_⟩:=Prod.mk.inj (Option.some.inj cN);generalize es++xs=E at ad;cases ad;simp
     ·cases cN
  ·right; omega
 ·right;rw[List.length_append] at h; omega
theorem bG.view (h:bG z l v j es) (aq:cx v=false) :∃ n cap sz cs,v=.au z j 0 n cap sz/\l[j]? = some (.cells sz cs)/\cs.length=sz/\es.length=n/\n*z<=sz/\(∀ i e,es[i]? = some e->∀ m,m<z->cs[i*z+m]? = e[m]?)/\cs.take (n*z)=es.flatten:=by
 cases h with
 | nil j=>simp[cx] at aq
 | au j n cap sz cs es ag al aC aw ah c3 ci=>
  refine⟨n,cap,sz,cs,rfl,ag,al,aC,Nat.le_trans (Nat.mul_le_mul_right _ ah) c3,fun i e am m hm=>?_,ci⟩;have av:i<es.length:=(List.getElem?_eq_some_iff.1 am).1;have aN:i*z+m<n*z:=by
   have:i*z+z<=es.length*z:=by rw[<-Nat.succ_mul]; exact Nat.mul_le_mul_right _ av
   rw[aC] at this; omega
  have h1:=JN aw am hm;rw[<-h1,<-ci,List.getElem?_take_of_lt aN]
theorem bG.Ed {α:Type} {enc:α->List U} {xs:List α} (h:bG z l v j (xs.map enc)) (aD:∀ x,l7 (enc x)=true) (s:c6 α) (ak:cx v=s.isNone) (af:s.l=xs) :kp l v (cI z enc s) :=by
 have h1:=h.HT (fun e am=>by obtain⟨x,_,rfl⟩:=List.mem_map.1 am; exact aD x);subst af;unfold tv at h1;rw[ak] at h1;cases s with
 | none=>exact h1
 | some s=>exact h1
theorem bG.m6 {α:Type} {enc:α->List U} {xs:List α} (h:bG z l v j (xs.map enc)) (aD:∀ x,bg (enc x)=true) (s:c6 α) (ak:cx v=s.isNone) (af:s.l=xs) :fX (bU l) v (cI z enc s) :=by
 have h1:=h.rZ (fun e am=>by obtain⟨x,_,rfl⟩:=List.mem_map.1 am; exact aD x);subst af;unfold tv at h1;rw[ak] at h1;cases s with
 | none=>exact h1
 | some s=>exact h1
end
def Bd (h:aO) :Nat->U->Option U
 | 0,_=>none
 | d+1,c=>match c with
  | .aJ cs=>match py (Bd h d) cs with | some cs'=>some (.aJ cs') | none=>none
  | .bE cs=>match py (Bd h d) cs with | some cs'=>some (.bE cs') | none=>none
  | .au z b off len cap sz=>match Nat.beq len 0 with
   | true=>some (.bR z [])
   | false=>match h.f b with
    | .cells n cs=>match Nat.beq n sz&&Nat.ble (off+len*z) cs.length with
     | true=>match py (Bd h d) ((cs.drop off).take (len*z)) with
      | some xs=>some (.bR z (l5 z len xs))
      | none=>none
     | false=>none
    | _=>none
  | c=>match c.flat with | true=>some c | false=>none
theorem HU {h:aO} {l:ao} (r:eT h l) :∀ (d:Nat) (c c' : U),Bd h d c=some c'->kp l c c'
 | 0,c,c',af=>by cases af
 | d+1,c,c',af=>by
  unfold Bd at af;split at af
  ·split at af
   ·rename_i h1; cases af;exact .aJ _ _ (tq h1) (fun j c c' ah eW=>HU r d c c' (tp h1 j c c' ah eW))
   ·cases af
  ·split at af
   ·rename_i h1; cases af;exact .bE _ _ (tq h1) (fun j c c' ah eW=>HU r d c c' (tp h1 j c c' ah eW))
   ·cases af
  ·rename_i z b off len cap sz;split at af
   ·rename_i aE;cases af;rw[Nat.eq_of_beq_eq_true aE];exact .r2 z b off cap sz
   ·split at af
    ·rename_i n cs ag;split at af
     ·rename_i df;simp only[Bool.and_eq_true] at df;have aC:=Nat.eq_of_beq_eq_true df.1;have dR:=Nat.le_of_ble_eq_true df.2;subst aC;split at af
      ·rename_i xs h1;cases af;have bf:=tq h1;simp only[List.length_take,List.length_drop] at bf;have uH:xs.length=len*z:=by omega
       have dh:∀ (i:Nat),i<len->(l5 z len xs)[i]? = some ((xs.drop (i*z)).take z) :=fun i av=>Fi len xs i av
       have er:∀ i,i<len->i*z+z<=len*z:=fun i av=>by rw[<-Nat.succ_mul]; exact Nat.mul_le_mul_right _ av
       refine .au z b off len cap n cs _ (r.some ag (by simp)) (vH _ _) (fun e am=>?_) dR (fun i j e c c' am ai ah=>?_)
       ·obtain⟨i,av⟩:=List.mem_iff_getElem?.1 am;have c7:i<len:=by
         have:=(List.getElem?_eq_some_iff.1 av).1;rw[vH] at this; exact this
        rw[dh i c7] at av;cases av;have:=er i c7;simp; omega
       ·have c7:i<len:=by
         have:=(List.getElem?_eq_some_iff.1 am).1;rw[vH] at this; exact this
        rw[dh i c7] at am;cases am;have uv:=er i c7;have mR:j<z:=by have:=(List.getElem?_eq_some_iff.1 ai).1; simp at this; omega
        rw[List.getElem?_take_of_lt mR,List.getElem?_drop] at ai;refine HU r d c c' (tp h1 (i*z+j) c c' ?_ ai);rw[List.getElem?_take_of_lt (by omega),List.getElem?_drop];exact ah
      ·cases af
     ·cases af
    ·cases af
  ·split at af
   ·rename_i ah; cases af; exact .flat _ ah
   ·cases af
def X2 (P:Program) (G:Nat->U) [qX P G] (orc:qY) (lj:vq) (fuel k:Nat) (f:FuncId) (args:List U) (r:U) :Bool:=
 match B4 P G orc lj fuel k f args aO.empty with
 | some (v,h)=>match Bd h 20 v with
  | some aY=>U.beq aY r
  | none=>false
 | none=>false
theorem A9 {P:Program} {G:Nat->U} [qX P G] (mj:P.follows .mixedOrders=true) (kw:∀ g,(G g).closed=true) {orc:qY} {lj:vq} (ap:BJ P G orc) (aH:BM P lj) {fuel k:Nat} {f:FuncId} {args:List U} {r:U}
  (af:X2 P G orc lj fuel k f args r=true) :jI P G f args r:=by
 unfold X2 at af;split at af
 ·rename_i v h ah;split at af
  ·rename_i aY aq;obtain⟨l',az,ad⟩:=Jg ap aH fuel k f args aO.empty v h [] eT.nil ah;have:=U.beq_eq af;subst this;exact A8 mj kw (ad _ (HU az 20 v aY aq))
  ·cases af
 ·cases af
inductive en (z:Nat) (l:ao) :U->Nat->List (List U)->Prop
 | nil (j:Nat) :en z l .aW j []
 | au (j off n cap sz:Nat) (cs:List U) (es:List (List U)) (ag:l[j]? = some (.cells sz cs)) (al:cs.length=sz) (aC:es.length=n) (aw:∀ e∈es,e.length=z) (ah:n<=cap) (c3:off+cap*z<=sz)
   (ci:(cs.drop off).take (n*z)=es.flatten) :en z l (.au z j off n cap sz) j es
section
variable {z:Nat} {l l' : ao} {v:U} {j:Nat} {es:List (List U)}
theorem bG.q (h:bG z l v j es) :en z l v j es:=by
 cases h with
 | nil j=>exact .nil j
 | au j n cap sz cs es ag al aC aw ah c3 ci=>exact .au j 0 n cap sz cs es ag al aC aw ah (by omega) (by simpa using ci)
theorem en.row (h:en z l v j es) :∀ e∈es,e.length=z:=by
 cases h with
 | nil j=>intro e am; cases am
 | au j off n cap sz cs es ag al aC aw=>exact aw
theorem en.lt (h:en z l v j es) :v=.aW\/j<l.length:=by
 cases h with
 | nil j=>exact .inl rfl
 | au j off n cap sz cs es ag=>exact .inr (e1 ag)
theorem en.cells (h:en z l v j es) :v.cells=some [v] :=by cases h<;>rfl
theorem en.len (h:en z l v j es) :cz (.au z) v=some (.int .i64 es.length) :=by
 cases h with
 | nil j=>rfl
 | au j off n cap sz cs es ag al aC=>subst aC; rfl
theorem en.oV (h:en z l v j es) (ai:v=.aW\/l'[j]? = l[j]?) :en z l' v j es:=by
 cases h with
 | nil j=>exact .nil j
 | au j off n cap sz cs es ag al aC aw ah c3 ci=>
  rcases ai with ai | ai
  ·cases ai
  ·exact .au j off n cap sz cs es (by rw[ai]; exact ag) al aC aw ah c3 ci
theorem en.more (h:en z l v j es) (x:ao) :en z (l++x) v j es:=h.oV (by
 rcases h.lt with h | h
 ·exact .inl h
 ·exact .inr (List.getElem?_append_left h))
theorem en.tc (h:en z l .aW j es) :es=[] :=by
 generalize aq:U.aW=w at h;cases h with
 | nil j=>rfl
 | au=>cases aq
theorem aal (h:en z l v j es) {by_ m:Nat} {xs:List (List U)} (hm:xs.length=m) (lO:∀ e∈xs,e.length=z) (aE:z≠0) (ep:by_≠0) (dN:(es.length+m)*by_<=cK) :
  ∃ aY bM l',iB l z by_ v xs.flatten m=some (aY,l')/\en z l' aY bM (es++xs)/\l.length<=l'.length/\(∀ b,b<l.length->(v=.aW\/b≠j)->l'[b]? = l[b]?)/\(aY=.aW\/(v≠.aW/\bM=j)\/l.length<=bM)/\(aY=.aW<->v=.aW/\xs=[]) :=by
 by_cases jO:m=0
 ·have af:xs=[] :=List.length_eq_zero_iff.1 (by omega);subst af;refine⟨v,j,l,?_,by simpa using h,Nat.le_refl _,fun _ _ _=>rfl,?_,by simp⟩
  ·unfold iB;rw[if_pos jO];cases h<;>rfl
  ·by_cases aq:v=.aW
   ·exact .inl aq
   ·exact .inr (.inl ⟨aq,rfl⟩)
 have bf:xs.flatten.length=m*z:=by rw[l8 lO,hm]
 have iY:∀ e∈es++xs,e.length=z:=fun e am=>by
  rcases List.mem_append.1 am with h1 | h1
  ·exact h.row e h1
  ·exact lO e h1
 have bz:xs≠[] :=fun af=>jO (by rw[<-hm,af]; rfl)
 cases h with
 | nil j=>
  refine⟨.au z l.length 0 m m (m*z),l.length,l++[.cells (m*z) xs.flatten],?_,?_,by simp,fun b ag _=>List.getElem?_append_left ag,.inr (.inr (Nat.le_refl _)),by simp[bz]⟩
  ·unfold iB;rw[if_neg jO,if_neg (by omega)];simp only;rw[if_pos (by simpa using dN)]
  ·refine .au _ _ _ _ _ xs.flatten _ (by simp) bf (by simpa using hm) iY (Nat.le_refl _) (by omega) ?_;rw[List.drop_zero,List.take_of_length_le (by omega)]; rfl
 | au j off n cap sz cs es ag al aC aw ah c3 ci=>
  subst aC;have qo:es.length*z<=cap*z:=Nat.mul_le_mul_right _ ah;have wo:(es++xs).length=es.length+m:=by simp[hm]
  have fc:(es++xs).flatten=es.flatten++xs.flatten:=by simp
  have o6:es.flatten.length=es.length*z:=l8 aw;have mL:iB l z by_ (.au z j off es.length cap sz) xs.flatten m =
    if es.length+m<=cap then some (.au z j off (es.length+m) cap sz,l.set j (.cells sz (bu cs (off+es.length*z) xs.flatten)))
    else if off+cap*z<sz then some (.au z l.length 0 (es.length+m) (es.length+m) ((es.length+m)*z),l++[.cells ((es.length+m)*z) (es.flatten++xs.flatten)])
    else if off=0 then some (.au z j 0 (es.length+m) (es.length+m) ((es.length+m)*z),l.set j (.cells ((es.length+m)*z) (cs.take (es.length*z)++xs.flatten)))
    else some (.au z l.length 0 (es.length+m) (es.length+m) ((es.length+m)*z),l.set j .dead++[.cells ((es.length+m)*z) (es.flatten++xs.flatten)]) :=by
   unfold iB;rw[if_neg jO,if_neg (by omega)];simp only[ag];rw[if_pos ⟨trivial,trivial,dN⟩];simp only[ci]
  rw[mL];have eX:=e1 ag;have lD:∀ eE:ao,eE.length=l.length->en z (eE++[.cells ((es.length+m)*z) (es.flatten++xs.flatten)]) (.au z l.length 0 (es.length+m) (es.length+m) ((es.length+m)*z)) l.length (es++xs) :=fun eE ru=>by
   refine .au _ _ _ _ _ (es.flatten++xs.flatten) _ (by rw[<-ru]; simp) (by simp[o6,bf,Nat.add_mul]) wo iY (Nat.le_refl _) (by omega) ?_;rw[fc,List.drop_zero,List.take_of_length_le (by simp[o6,bf,Nat.add_mul])]
  split
  ·rename_i h1;have Le:(es.length+m)*z<=cap*z:=Nat.mul_le_mul_right _ h1;rw[Nat.add_mul] at Le;refine⟨_,j,_,rfl,?_,by simp,fun b bL gN=>by rw[List.getElem?_set_ne (fun e=>(gN.resolve_left (by simp)) e.symm)],.inr (.inl ⟨by simp,rfl⟩),by simp⟩;refine .au j off _ cap sz (bu cs (off+es.length*z) xs.flatten) _ (by rw[List.getElem?_set_self eX]) ?_ wo iY h1 c3 ?_
   ·rw[r3 (by omega)]; omega
   ·rw[fc];unfold bu;have aH:cs.take (off+es.length*z)=cs.take off++es.flatten:=by rw[List.take_add,ci]
    have aqp:(cs.take off).length=off:=by rw[List.length_take]; omega
    rw[aH,List.append_assoc,List.append_assoc,List.drop_append_of_le_length (by omega),List.drop_of_length_le (by omega),List.nil_append,<-List.append_assoc,List.take_append_of_le_length (by simp[o6,bf,Nat.add_mul]),List.take_of_length_le (by simp[o6,bf,Nat.add_mul])]
  ·split
   ·exact⟨_,l.length,_,rfl,lD l rfl,by simp,fun b bL _=>List.getElem?_append_left bL,.inr (.inr (Nat.le_refl _)),by simp⟩
   ·split
    ·rename_i As;subst As;rw[List.drop_zero] at ci;refine⟨_,j,_,rfl,?_,by simp,fun b bL gN=>by rw[List.getElem?_set_ne (fun e=>(gN.resolve_left (by simp)) e.symm)],.inr (.inl ⟨by simp,rfl⟩),by simp⟩;refine .au j 0 _ _ _ (cs.take (es.length*z)++xs.flatten) _ (by rw[List.getElem?_set_self eX]) (by rw[ci]; simp[o6,bf,Nat.add_mul]) wo iY (Nat.le_refl _) (by omega) ?_;rw[ci,fc,List.drop_zero,List.take_of_length_le (by simp[o6,bf,Nat.add_mul])]
    ·refine⟨_,l.length,_,rfl,lD _ (by simp),by simp,fun b bL gN=>?_,.inr (.inr (Nat.le_refl _)),by simp⟩;rw[List.getElem?_append_left (by simpa using bL),List.getElem?_set_ne (fun e=>(gN.resolve_left (by simp)) e.symm)]
theorem ajk {pre rest l' : ao} (h:∀ b,b<pre.length->l'[b]? = (pre++rest)[b]?) (al:pre.length<=l'.length) :∃ lU,l'=pre++lU:=by
 refine⟨l'.drop pre.length,?_⟩;apply List.ext_getElem?;intro i;by_cases av:i<pre.length
 ·rw[h i av,List.getElem?_append_left av,List.getElem?_append_left av]
 ·rw[List.getElem?_append_right (by omega),List.getElem?_drop]; congr 1; omega
theorem O3 {by_:Nat} {pre rest:ao} (h:en z (pre++rest) v j es) (ai:v=.aW\/pre.length<=j) {x:U} {xs:List (List U)} (af:dM (pre++rest) z x=some (xs.flatten,xs.length)) (lO:∀ e∈xs,e.length=z) (aE:z≠0) (ep:by_≠0)
  (dN:(es.length+xs.length)*by_<=cK) :
  ∃ aY bM lU,iP (pre++rest) z by_ v x=some (aY,pre++lU)/\en z (pre++lU) aY bM (es++xs)/\(aY=.aW\/pre.length<=bM)/\cx aY=(cx v&&xs.isEmpty) ∧
   (∀ b,b<(pre++rest).length->(v=.aW\/b≠j)->(pre++lU)[b]? = (pre++rest)[b]?)/\(aY=.aW\/(v≠.aW/\bM=j)\/(pre++rest).length<=bM) :=by
 obtain⟨aY,bM,l',h1,ad,aj,aF,aU,bt⟩:=aal h (by_:=by_) rfl lO aE ep dN;have nG:pre.length<=(pre++rest).length:=by simp
 obtain⟨lU,rfl⟩:=ajk (pre:=pre) (rest:=rest) (l':=l') (fun b ag=>aF b (by omega) (by
  rcases ai with h | h
  ·exact .inl h
  ·exact .inr (by omega))) (by omega)
 refine⟨aY,bM,lU,?_,ad,?_,uL bt,aF,aU⟩
 ·unfold iP; rw[af]; exact h1
 ·rcases aU with h | ⟨h,h'⟩ | h
  ·exact .inl h
  ·rcases ai with ai | ai
   ·exact absurd ai h
   ·exact .inr (by omega)
  ·exact .inr (by omega)
theorem en.from (h:en z l v j es) (aq:cx v=false) {k:IntKind} {i:Nat} (av:i<=es.length) :∃ aY,gq (.au z) v (some (.int k (i:Int))) none none=some aY/\en z l aY j (es.drop i)/\cx aY=false:=by
 cases h with
 | nil j=>simp[cx] at aq
 | au j off n cap sz cs es ag al aC aw ah c3 ci=>
  subst aC;have uy:i*z+(cap - i)*z=cap*z:=by rw[<-Nat.add_mul]; congr 1; omega
  have UD:i*z+(es.length - i)*z=es.length*z:=by rw[<-Nat.add_mul]; congr 1; omega
  have dR:es.length*z<=cap*z:=Nat.mul_le_mul_right _ ah;have LU:∀ e∈es.drop i,e.length=z:=fun e am=>aw e (List.mem_of_mem_drop am)
  have fc:(es.drop i).flatten=(es.flatten).drop (i*z) :=by
   have h1:es.flatten=(es.take i).flatten++(es.drop i).flatten:=by rw[<-List.flatten_append,List.take_append_drop]
   have ad:(es.take i).flatten.length=i*z:=by
    rw[l8 (z:=z) (fun e am=>aw e (List.mem_of_mem_take am)),List.length_take];congr 1; omega
   rw[h1,<-ad,List.drop_left]
  rw[za,Pt,if_pos ⟨by omega,by omega⟩];simp only[Int.toNat_natCast,Option.map_some,Option.some.injEq,exists_eq_left'];by_cases dx:cap=i
  ·rw[if_pos dx];have aeO:es.drop i=[] :=List.drop_of_length_le (by omega);refine⟨?_,rfl⟩;rw[aeO];exact .au j _ 0 0 sz cs [] ag al rfl (by simp) (Nat.le_refl _) (by omega) (by simp)
  ·rw[if_neg dx];refine⟨.au j _ _ _ sz cs _ ag al (by simp) LU (by omega) (by omega) ?_,rfl⟩;rw[fc,<-ci,List.drop_take,List.drop_drop];congr 1; omega
theorem en.get (h:en z l v j es) {k:IntKind} {i:Nat} {e:List U} (am:es[i]? = some e) :∃ p cs o,cg (.au z) v (.int k (i:Int))=some p/\eM l p=some (cs,o)/\o+z<=cs.length/\(cs.drop o).take z=e:=by
 cases h with
 | nil j=>simp at am
 | au j off n cap sz cs es ag al aC aw ah c3 ci=>
  subst aC;have av:=(List.getElem?_eq_some_iff.1 am).1;have h1:i*z+z<=es.length*z:=by rw[<-Nat.succ_mul]; exact Nat.mul_le_mul_right _ av
  have ad:es.length*z<=cap*z:=Nat.mul_le_mul_right _ ah;refine⟨.ptr j (off+i*z) sz,cs,off+i*z,?_,?_,by omega,?_⟩
  ·simp only[cg,Int.toNat_natCast];rw[if_pos ⟨trivial,by omega,by omega⟩]
  ·simp only[eM,ag,if_true]
  ·have aeR:=aw e (List.mem_of_getElem? am);apply List.ext_getElem?;intro m;by_cases hm:m<z
   ·rw[List.getElem?_take_of_lt hm,List.getElem?_drop,<-JN aw am hm,<-ci,List.getElem?_take_of_lt (by omega),List.getElem?_drop];congr 1; omega
   ·rw[List.getElem?_eq_none (by simp; omega),List.getElem?_eq_none (by omega)]
theorem en.HT (h:en z l v j es) (aD:∀ e∈es,l7 e=true) :kp l v (tv z v es) :=by
 cases h with
 | nil j=>exact .flat _ rfl
 | au j off n cap sz cs es ag al aC aw ah c3 ci=>
  show kp l _ (.bR z es);have qo:off+n*z<=cs.length:=by rw[al]; have:=Nat.mul_le_mul_right z ah; omega
  refine .au z j off n cap sz cs es ag aC aw (by omega) (fun i k e c c' am hk dp=>?_);have av:i<es.length:=(List.getElem?_eq_some_iff.1 am).1;have K6:k<z:=by rw[<-aw e (List.mem_of_getElem? am)]; exact (List.getElem?_eq_some_iff.1 hk).1
  have aN:i*z+k<n*z:=by
   have:i*z+z<=es.length*z:=by rw[<-Nat.succ_mul]; exact Nat.mul_le_mul_right _ av
   rw[aC] at this; omega
  have h1:es.flatten[i*z+k]? = some c':=zY es aw i k e c' am hk;rw[<-ci,List.getElem?_take_of_lt aN,List.getElem?_drop] at h1;rw[h1] at dp;cases dp;exact .flat _ (FD (aD e (List.mem_of_getElem? am)) k _ hk)
theorem en.rZ (h:en z l v j es) (aD:∀ e∈es,bg e=true) :fX (bU l) v (tv z v es) :=by
 cases h with
 | nil j=>exact .same _ rfl
 | au j off n cap sz cs es ag al aC aw ah c3 ci=>
  show fX (bU l) _ (.bR z es);have qo:off+n*z<=cs.length:=by rw[al]; have:=Nat.mul_le_mul_right z ah; omega
  refine .au z j off n cap sz cs es (lY.2 ag) aC aw (by omega) (fun i k e c c' am hk dp=>?_);have av:i<es.length:=(List.getElem?_eq_some_iff.1 am).1;have K6:k<z:=by rw[<-aw e (List.mem_of_getElem? am)]; exact (List.getElem?_eq_some_iff.1 hk).1
  have aN:i*z+k<n*z:=by
   have:i*z+z<=es.length*z:=by rw[<-Nat.succ_mul]; exact Nat.mul_le_mul_right _ av
   rw[aC] at this; omega
  have h1:es.flatten[i*z+k]? = some c':=zY es aw i k e c' am hk;rw[<-ci,List.getElem?_take_of_lt aN,List.getElem?_drop] at h1;rw[h1] at dp;cases dp;exact .same _ (B9 (aD e (List.mem_of_getElem? am)) k _ hk)
theorem en.rd (h:en z l v j es) (aD:∀ e∈es,bg e=true) :Rd l v (tv z v es) :=by
 cases h with
 | nil j=>exact .same _ rfl
 | au j off n cap sz cs es ag al aC aw ah c3 ci=>
  show Rd l _ (.bR z es);have qo:off+n*z<=cs.length:=by rw[al]; have:=Nat.mul_le_mul_right z ah; omega
  refine .au z j off n cap sz cs es ag aC aw (by omega) (fun i k e c c' am hk dp=>?_);have av:i<es.length:=(List.getElem?_eq_some_iff.1 am).1;have K6:k<z:=by rw[<-aw e (List.mem_of_getElem? am)]; exact (List.getElem?_eq_some_iff.1 hk).1
  have aN:i*z+k<n*z:=by
   have:i*z+z<=es.length*z:=by rw[<-Nat.succ_mul]; exact Nat.mul_le_mul_right _ av
   rw[aC] at this; omega
  have h1:es.flatten[i*z+k]? = some c':=zY es aw i k e c' am hk;rw[<-ci,List.getElem?_take_of_lt aN,List.getElem?_drop] at h1;rw[h1] at dp;cases dp;exact .same _ (B9 (aD e (List.mem_of_getElem? am)) k _ hk)
theorem en.oA {α:Type} {enc:α->List U} {xs:List α} (h:en z l v j (xs.map enc)) (aD:∀ x,bg (enc x)=true) (s:c6 α) (ak:cx v=s.isNone) (af:s.l=xs) :Rd l v (cI z enc s) :=by
 have h1:=h.rd (fun e am=>by obtain⟨x,_,rfl⟩:=List.mem_map.1 am; exact aD x);subst af;unfold tv at h1;rw[ak] at h1;cases s with
 | none=>exact h1
 | some s=>exact h1
theorem en.Ed {α:Type} {enc:α->List U} {xs:List α} (h:en z l v j (xs.map enc)) (aD:∀ x,l7 (enc x)=true) (s:c6 α) (ak:cx v=s.isNone) (af:s.l=xs) :kp l v (cI z enc s) :=by
 have h1:=h.HT (fun e am=>by obtain⟨x,_,rfl⟩:=List.mem_map.1 am; exact aD x);subst af;unfold tv at h1;rw[ak] at h1;cases s with
 | none=>exact h1
 | some s=>exact h1
theorem en.m6 {α:Type} {enc:α->List U} {xs:List α} (h:en z l v j (xs.map enc)) (aD:∀ x,bg (enc x)=true) (s:c6 α) (ak:cx v=s.isNone) (af:s.l=xs) :fX (bU l) v (cI z enc s) :=by
 have h1:=h.rZ (fun e am=>by obtain⟨x,_,rfl⟩:=List.mem_map.1 am; exact aD x);subst af;unfold tv at h1;rw[ak] at h1;cases s with
 | none=>exact h1
 | some s=>exact h1
end
theorem aaF {P:Program} {t:TypeId} {xs bc:List U} {r:Bool} (ar:P.eqGuardType P.depth t=false) (h:eP P 10000 t (.aJ xs) (.aJ bc)=some r) :gv P .eql t (.aJ xs) (.aJ bc)=some (.bool r) :=by
 simp only[gv,xO,ar,Bool.not_false,if_true,h]; rfl
theorem aaG {P:Program} {t:TypeId} {xs bc:List U} {r:Bool} (ar:P.eqGuardType P.depth t=false) (h:eP P 10000 t (.aJ xs) (.aJ bc)=some r) :gv P .neq t (.aJ xs) (.aJ bc)=some (.bool (!r)) :=by
 simp only[gv,xO,ar,Bool.not_false,if_true,h]; rfl
end Go.cb

namespace Go.cb
open Go Go.ChangeShapes Go.RowKit
theorem ai7 (k:Nat) :¬ l0 aO.empty (fun _=>none) k:=by
 rintro⟨b,m,al,_,_⟩;simp[aO.empty,aO.f,live,cG.get] at al
theorem adf {H:Type} {enc:TypeId × Value->H} {P:Program} {w:World} {base:Nat} {spare:Nat->Bool} {held:Bool} {fuel:Nat} {Wo:String} {g t e n:Nat} {cs:Array Value} {x:DataW H × List MemPlace} (bP:List Int)
  (ar:P.globalNamed Wo=some g) (aq:w.var? P Wo=some cs) (aL:P.underlying t=some (.array n e)) (am:P.underlying e=some (.int .u32)) (ah:P.cellsOf e=1) (bH:DataW.trod enc P w base spare held fuel t cs.toList=some x)
  (af:x.1=.agg (bP.map fun k=>.lit (.int .u32 k))) :fD w (fun _=>True) (.b3 (bP.map fun k=>.int .u32 k) 0) (.pointer (some ⟨g,0,none⟩)) :=by
 obtain⟨xs,m,rfl,AJ,bl,aC,aeQ⟩:=DataW.trod_array aL bH;rw[AJ] at af;simp only[DataW.agg.injEq] at af;have sN:bP.length=n:=by have:=congrArg List.length af; simp at this; omega
 have mM:∀ j k,bP[j]? = some k->w.cell? ⟨g,j,none⟩=some (.int .u32 k) :=by
  intro j k ai;have kA:j<n:=by have:=(atU.1 ai).1; omega
  have h1:=aeQ j kA;rw[ah,avo] at h1;have Ul:j<xs.length:=by omega
  rw[atX Ul] at h1;obtain⟨k',aQ,bF,_⟩:=DataW.trod_int am h1;have aj:=congrArg (fun l=>l[j]?) af;simp only[at0,atX Ul,ai,at1,Option.some.injEq] at aj;rw[bF] at aj;have pb:k'=k:=by simpa using aj
  subst pb;have aF:=World.var?_cell ar aq j;rw[aF];have aU:(cs.toList.drop j)[0]? = some (Value.int .u32 k') :=by
   have:((cs.toList.drop j).take 1)[0]? = some (Value.int .u32 k') :=by rw[aQ]; rfl
   rw[List.getElem?_take] at this;simpa using this
  rw[auC] at aU;simpa using aU
 refine .b3 _ 0 g 0 (fun j=>.int .u32 (bP.getD j 0)) (fun j ai=>?_) (fun j c ai=>?_)
 ·rw[auh] at ai;refine⟨?_,rfl,trivial,ai7 g⟩;rw[avi,mM j bP[j] (atX ai),aug,atX ai];rfl
 ·rw[at0] at ai;cases hk:bP[j]? with
  | none=>rw[hk] at ai; cases ai
  | some k=>
   rw[hk] at ai;cases ai;rw[aug,hk];exact .int _ _
theorem YO {H:Type} {enc:TypeId × Value->H} {P:Program} {w:World} {base:Nat} {spare:Nat->Bool} {held:Bool}:∀ {ts:List TypeId} {vs:List Value} {h0:List (DataW H)} {cJ:List MemPlace},
  DataW.TrodAll enc P w base spare held ts vs h0 cJ->h0.length=ts.length
 | [],vs,h0,cJ,h=>by obtain⟨rfl,rfl,rfl⟩:=trodAll_nil h; rfl
 | t::ts,vs,h0,cJ,h=>by
  obtain⟨v,amB,d,abX,a,b,rfl,rfl,rfl,h1,ad⟩:=trodAll_cons h;simp[YO ad]
end Go.cb

namespace Go.cb
open Go
def tf:List (FuncId × Bool × (List U->Option U))->qY
 | [],_=>none
 | e::r,f=>match Nat.beq f e.1 with | true=>some e.2 | false=>tf r f
abbrev tK (P:Program) (G:Nat->U) (e:FuncId × Bool × (List U->Option U)) :Prop:=∀ args r,e.2.2 args=some r->bw P G e.1 args r/\(e.2.1=true->jI P G e.1 args r)
theorem wW {P:Program} {G:Nat->U}:∀ {l:List (FuncId × Bool × (List U->Option U))},(∀ e∈l,tK P G e)->BJ P G (tf l)
 | [],_,f,n,g,args,r,aD,_=>by cases aD
 | e::l,h,f,n,g,args,r,aD,ar=>by
  unfold tf at aD;split at aD
  ·rename_i ag;have:=auP ag;subst this;have am:e.2=(n,g) :=Option.some.inj aD;have:=h e (by simp) args r (by rw[am]; exact ar);rw[am] at this;exact this
  ·exact wW (fun x af=>h x (by simp[af])) f n g args r aD ar
def n1 (P:Program) (G:Nat->U) :List (FuncId × Bool × (List U->Option U))->Prop
 | []=>True
 | e::r=>tK P G e/\n1 P G r
theorem n1.mem {P:Program} {G:Nat->U}:∀ {l:List (FuncId × Bool × (List U->Option U))},n1 P G l->∀ e∈l,tK P G e
 | e::l,h,x,af=>by
  rcases auG.1 af with rfl | af
  ·exact h.1
  ·exact n1.mem h.2 x af
theorem xC {P:Program} {G:Nat->U}:n1 P G [] :=trivial
theorem n3 {P:Program} {G:Nat->U} {e:FuncId × Bool × (List U->Option U)} {l:List (FuncId × Bool × (List U->Option U))} (h:tK P G e) (ad:n1 P G l) :n1 P G (e::l) :=⟨h,ad⟩
def A6:List (List U × U)->List U->Option U
 | [],_=>none
 | e::r,args=>match fu args e.1 with | true=>some e.2 | false=>A6 r args
def BB (P:Program) (G:Nat->U) (f:FuncId) :List (List U × U)->Prop
 | []=>True
 | e::r=>jI P G f e.1 e.2/\BB P G f r
theorem IV {P:Program} {G:Nat->U} {f:FuncId}:BB P G f [] :=trivial
theorem zz {P:Program} {G:Nat->U} {f:FuncId} {a:List U} {r:U} {l:List (List U × U)} (h:jI P G f a r) (ad:BB P G f l) :BB P G f ((a,r) ::l) :=⟨h,ad⟩
theorem HH {P:Program} {G:Nat->U} {f:FuncId}:∀ {l:List (List U × U)},BB P G f l->tK P G (f,true,A6 l)
 | [],_,args,r,h=>by cases h
 | e::l,hk,args,r,h=>by
  simp only[A6] at h;split at h
  ·rename_i ag;cases h;rw[tT ag];exact⟨hk.1.Ex,fun _=>hk.1⟩
  ·exact HH hk.2 args r h
def de (l:List Nat) :List U:=l.map fun n=>.int .u8 (.ofNat n)
def mV (n:Int) :U:=.int .i64 n
def hq (l:List U) :List (List U) :=l.map fun c=>[c]
end Go.cb

namespace Go.cb
open Go Go.Proofs Go.Shelf Go.Sort Go.RowKit
def y1:U->Bool | .bool _=>true | .int _ _=>true | .str _=>true | _=>false
def valOf:U->Value | .bool b=>.bool b | .int k n=>.int k n | .str s=>.string ⟨s.toArray⟩ | _=>.bool false
theorem amz {w:World} {R:Nat->Prop} {h:aO} {μ:cP} {c:U} {v:Value} (ay:y1 c=true) (aq:aP w R h μ c v) :v=valOf c:=by
 cases aq with
 | bool b=>rfl
 | int k n=>rfl
 | str bs=>obtain⟨⟨l⟩⟩:=bs; rfl
 | bad=>cases ay
 | _=>cases ay
theorem WV {w:World} {R:Nat->Prop} {h:aO} {μ:cP} {c:U} (ay:y1 c=true) :aP w R h μ c (valOf c) :=by
 cases c with
 | bool b=>exact .bool b
 | int k n=>exact .int k n
 | str s=>exact (.str ⟨s.toArray⟩:aP w R h μ (.str (ByteArray.mk s.toArray).data.toList) _)
 | _=>cases ay
theorem Ij (c:U) :(valOf c).oneCell'=true:=by cases c<;>rfl
theorem abf {w W:World} {b o:Nat} (h:W.heap[b]? = w.heap[b]?) :W.cell? ⟨b,o,none⟩=w.cell? ⟨b,o,none⟩:=by simp[World.cell?,h]
theorem abg {w:World} {b o:Nat} {v:Value} (h:w.cell? ⟨b,o,none⟩=some v) :b<w.heap.size:=by
 apply Decidable.byContradiction;intro aC;simp only[World.cell?] at h;rw[avv (by omega)] at h;cases h
theorem amy {w W:World} {A:Nat->Prop} (cL:∀ k,A k->k<w.heap.size->W.heap[k]? = w.heap[k]?) {c:U} {v:Value} (aq:fD w A c v) :fD W A c v:=by
 unfold fD at aq ⊢;generalize aG:aO.empty=aE at aq ⊢;generalize hm:(fun _=>none:cP)=r9 at aq ⊢;have sq:∀ {b o:Nat} {v:Value},Cell w A aE r9 b o v->Cell W A aE r9 b o v:=fun {b o v} k=>⟨(abf (cL b k.ro (abg k.here))).trans k.here,k.one,k.ro,k.free⟩
 induction aq with
 | bool b=>exact .bool b
 | int k n=>exact .int k n
 | str bs=>exact .str bs
 | jE=>exact .jE
 | aW=>exact .aW
 | hS=>exact .hS
 | jC=>exact .jC
 | jD=>exact .jD
 | aJ cs vs al h1 aq aI=>exact .aJ cs vs al h1 aI
 | bE cs vs al aq aI=>exact .bE cs vs al aI
 | ptr b off sz cs m ag iF=>subst hm; cases iF
 | m2 b off sz a ar=>exact .m2 b off sz a ar
 | b3 cs off blk o ey ah aq aI=>exact .b3 cs off blk o ey (fun j ai=>sq (ah j ai)) aI
 | au z b off len cap sz cap' cs m ag iF al ap ah=>subst hm; cases iF
 | gH z b off len cap sz cap' a al ah ar=>exact .gH z b off len cap sz cap' a al ah ar
 | hV z b off sz a cs m ag iF=>subst hm; cases iF
 | bR z es blk off cap ey al aw ah aq aI=>exact .bR z es blk off cap ey al aw (fun i j av ai=>sq (ah i j av ai)) aI
 | fO z a cap=>exact .fO z a cap
 | fn f first fY fs cs aD ah h1 ad dd hQ=>exact .fn f first fY fs cs aD ah dd hQ
 | mp b m ag iF=>subst hm; cases iF
 | it b m ag iF=>subst hm; cases iF
 | gQ t c v aq aI=>exact .gQ t c v aI
 | mD l=>exact .mD l
 | bad v=>exact .bad v
theorem aaL {W w' : World} (h:zq W w') :∃ q os,w'=grow (W.drewN q) os:=by
 refine⟨w'.drawn - W.drawn,w'.heap.extract W.heap.size,?_⟩;have bH:=h.drawn;have ak:=h.size;obtain⟨Gg,alP,Jw,MR,aiX⟩:=w';obtain⟨heap,tape,drawn,os,out⟩:=W;have aQ:MR=os:=h.os;have bF:alP=tape:=h.tape;have dn:aiX=out:=h.output;subst aQ bF dn;have kt:Gg=heap++Gg.extract heap.size:=by
  apply Array.ext_getElem?;intro k;rw[Array.getElem?_append];split
  ·rename_i hk;exact h.block k hk
  ·rename_i hk;rw[Array.getElem?_extract];have sT:heap.size<=Gg.size:=ak;by_cases hj:k<Gg.size
   ·rw[if_pos (by omega),show heap.size+(k - heap.size)=k by omega]
   ·rw[if_neg (by omega),avv (by omega)]
 have Ci:Jw=drawn+(Jw - drawn) :=by
  have:drawn<=Jw:=bH;omega
 unfold grow World.drewN;simp only;rw[<-kt,<-Ci]
def EO (P:Program) (f g:FuncId) (k:Nat) {X:Type} [Inhabited X] (dP:X->List Value) (hY:X->X->Int) :Prop:=
 ∀ (blk off cap:Nat) (d:Array X) (w:World),CmpLays P g #[] dP k hY blk off d.size w->HoldsK dP k w blk off d->blk<w.heap.size->d.size<4611686018427387904->
  Calls P f #[.slice (some ⟨blk,off,none⟩) d.size cap,.func (.func g) #[] #[]] w fun e w'=>e=.returned (.tuple #[])/\∃ q7 n os,PermIn 0 d.size d q7/\SortedIn (ltOf hY) 0 d.size q7/\w'=sortWorldK dP k w blk off n q7 os
def sorted {X:Type} (hY:X->X->Int) (xs:List X) :List X:=xs.mergeSort fun x y=>!ltOf hY y x
theorem Yj {X:Type} (hY:X->X->Int) (xs:List X) :(sorted hY xs).length=xs.length:=List.length_mergeSort _
section
variable {P:Program} {G:Nat->U} {X:Type} {enc:X->List U} {k:Nat}
theorem Eh (hk:∀ x,(enc x).length=k) (xs:List X) {j:Nat} (ai:j<xs.length*k) :∃ x c,xs[j / k]? = some x/\(enc x)[j % k]? = some c/\((xs.map enc).flatten)[j]? = some c:=by
 have rs:0<k:=Nat.pos_of_ne_zero fun h=>by subst h; simp at ai
 have h1:j / k<xs.length:=Nat.div_lt_of_lt_mul (by rw[awT]; exact ai);have ad:j % k<k:=avL _ rs;refine⟨xs[j / k],(enc xs[j / k])[j % k]'(by rw[hk]; exact ad),atX h1,atX _,?_⟩;have aj:(xs.map enc)[j / k]? = some (enc xs[j / k]) :=by rw[at0,atX h1]; rfl
 have aF:=JN (z:=k) (fun e am=>by obtain⟨x,_,rfl⟩:=auo.1 am; exact hk x) aj ad;rw[awT,Nat.div_add_mod] at aF;rw[aF];exact atX _
theorem SA [Inhabited X] (hk:∀ x,(enc x).length=k) (xs:List X) {j:Nat} (ai:j<xs.length*k) {c:U} (ah:((xs.map enc).flatten)[j]? = some c) :(flatK (fun x=>(enc x).map valOf) k xs.toArray)[j]! = valOf c:=by
 obtain⟨x,c',h1,ad,aj⟩:=Eh hk xs ai;rw[aj] at ah; cases ah;rw[get_flatK _ _ _ _ (by simpa using ai)];have aF:xs.toArray[j / k]! = x:=by
  have aN:=(atU.1 h1).1;rw[getElem!_pos _ _ (by simpa using aN)];simpa using (atU.1 h1).2
 rw[aF];obtain⟨aU,bt⟩:=atU.1 ad;rw[getElem!_pos _ _ (by simpa using aU)];simp[bt]
theorem alf [Inhabited X] {f g b off len cap sz:Nat} {cs:List U} {xs:List X} {h:aO} (hY:X->X->Int) (e6:EO P f g k (fun x=>(enc x).map valOf) hY) (dX:SWO (ltOf hY)) (KA:∀ x y,ltOf hY x y=false->ltOf hY y x=false->x=y)
  (hk:∀ x,(enc x).length=k) (ay:∀ x,∀ c∈enc x,y1 c=true) (rn:∀ x y,bw P G g [.aJ (enc x),.aJ (enc y)] (.int .i64 (hY x y)))
  (ag:h.f b=.cells sz cs) (bl:xs.length=len) (h1:0<len) (oY:len<4611686018427387904) (ci:(cs.drop off).take (len*k)=(xs.map enc).flatten) (dQ:off+len*k<=sz) :
  sd P G f [.au k b off len cap sz,.fn g [] []] h (.bE []) (h.set b (.cells sz (bu cs off ((sorted hY xs).map enc).flatten))) :=by
 intro R B w μ vs rel FI al aq;obtain⟨oG⟩:=vs
 match oG,al with
 | [v0,e8],_=>
 have iH:=aq 0 _ v0 rfl rfl;have mo:=aq 1 _ e8 rfl rfl;have agC:¬ vj h b sz:=by
  rintro (aE | ⟨n,n9,aE,ad⟩)
  ·rw[ag] at aE; cases aE
  ·rw[ag] at aE; cases aE; omega
 cases mo with
 | fn _ _ _ fs ub aD ah _ _=>
 have mP:fs=#[] :=avS aD;have iW:ub=#[] :=avS ah;subst mP iW;cases iH with
 | gH _ _ _ _ _ _ _ _ _ _ ar=>exact absurd ar agC
 | hV=>omega
 | au _ _ _ _ _ _ cap' n9 m k1 hm mi ap dp=>
 rw[ag] at k1; cases k1;have hblk:=rel.blk b m hm;rw[ag] at hblk;obtain⟨eb,er,arr,e,gh,az,ce,mg,jl⟩:=hblk;have k2:live (h.f b)=true:=by rw[ag]; rfl
 have hF:l0 h μ m.r:=⟨b,m,k2,hm,rfl⟩
 have Ld:=rel.lt k2 hm;have pb:∀ j,j<len*k->∃ c,((xs.map enc).flatten)[j]? = some c/\cs[off+j]? = some c/\y1 c=true:=by
  intro j ai;obtain⟨x,c,aM,aT,a7⟩:=Eh hk xs (by rw[bl]; exact ai);refine⟨c,a7,?_,ay x c (at3 aT)⟩;rw[<-ci,aum ai,auC] at a7;exact a7
 have hH:HoldsK (fun x=>(enc x).map valOf) k w m.r (m.s+off) xs.toArray:=by
  intro j ai;rw[size_flatK] at ai;have eB:j<len*k:=by simpa [bl] using ai
  obtain⟨c,aM,aT,a7⟩:=pb j eB;obtain⟨v,bD,bh,cd⟩:=jl (off+j) c aT;have aN:m.s+off+j<arr.size:=by
   have:=(auv.1 bD).1;omega
  constructor
  ·simp only[World.cell?,az,avR];rw[SA hk xs (by rw[bl]; exact eB) aM,<-amz a7 cd,avx];exact bD
  ·simp only[World.frozen?,az];rcases mg with aE | aE
   ·subst aE; simp
   ·simp; intro aj; omega
 have aez:CmpLays P g #[] (fun x=>(enc x).map valOf) k hY m.r (m.s+off) xs.toArray.size w:=by
  intro n os abO Aj x y;obtain⟨W,dG⟩:∃ W,W=sortWorldK (fun x=>(enc x).map valOf) k w m.r (m.s+off) n abO os:=⟨_,rfl⟩
  have ad1:∀ i,i≠m.r->i<w.heap.size->W.heap[i]? = w.heap[i]?:=by
   intro i av aN;rw[dG];show (((w.heap.modify m.r _)++os))[i]? = _;rw[auZ (by simpa using aN),avZ,if_neg (fun h=>av h.symm)]
  rw[<-dG];have cL:∀ i,(R i/\¬ l0 h μ i)->i<w.heap.size->W.heap[i]? = w.heap[i]?:=fun i av aN=>ad1 i (fun am=>av.2 (by rw[am]; exact hF)) aN
  have key:=rn x y W (fun i=>R i/\¬ l0 h μ i) #[.agg ((enc x).map valOf).toArray,.agg ((enc y).map valOf).toArray] (fun S6=>amy cL (xG (FI S6).2 (FI S6).1)) rfl (fun j c v ai fy=>by
   have one:∀ z:X,fD W (fun i=>R i/\¬ l0 h μ i) (.aJ (enc z)) (.agg ((enc z).map valOf).toArray) :=fun z=>by
    refine .aJ _ _ (by simp) (fun i v av=>?_) (fun i c v av Ui=>?_)
    ·simp only[awr,at0,awl] at av;obtain⟨c,_,rfl⟩:=av;exact Ij c
    ·simp only[awr,at0,awl] at Ui;obtain⟨c',aj,rfl⟩:=Ui;rw[av] at aj; cases aj;exact WV (ay z c (at3 av))
   match j with
   | 0=>simp at ai fy; subst ai fy; exact one x
   | 1=>simp at ai fy; subst ai fy; exact one y
   | j+2=>simp at ai)
  refine key.mono ?_;rintro e w' ⟨v,rfl,fb,lI⟩;obtain⟨q,MR,rfl⟩:=aaL fb;cases lI;exact⟨rfl,q,MR,rfl⟩
 have jL:=e6 m.r (m.s+off) cap' xs.toArray w aez hH Ld (by simpa [bl] using oY);have qv:((xs.toArray.size:Nat) :Int)=(len:Int) :=by simp[bl]
 rw[show (xs.toArray.size)=len by simp[bl]] at jL;refine jL.mono ?_;rintro fw w' ⟨rfl,q7,n,os,md,j9,rfl⟩;have qd:q7.toList=sorted hY xs:=by
  have:=sorted_unique_holds dX KA xs.toArray q7 (by simpa [bl] using md) (by simpa [bl] using j9);simpa [sorted] using this
 obtain⟨bc,Dq⟩:∃ bc,bc=sorted hY xs:=⟨_,rfl⟩
 rw[<-Dq] at qd ⊢;have b8:bc.length=len:=by rw[Dq,Yj,bl]
 have KL:q7=bc.toArray:=by rw[<-qd]
 subst KL;have fc:((bc.map enc).flatten).length=len*k:=by
  have:∀ l:List X,((l.map enc).flatten).length=l.length*k:=fun l=>by
   induction l with
   | nil=>simp
   | cons a l aI=>simp only[aus,auW,at4,aI,hk,auf]; rw[auI]; omega
  rw[this,b8]
 obtain⟨b1,jP⟩:∃ b1,b1=putRowK (fun x=>(enc x).map valOf) k (Sort.ahead w n) m.r (m.s+off) bc.toArray:=⟨_,rfl⟩
 have ke:b1.heap=w.heap.modify m.r (onCells (putCells id (m.s+off) (flatK (fun x=>(enc x).map valOf) k bc.toArray))) :=by rw[jP]; rfl
 have Ge:off<=cs.length:=by omega
 obtain⟨ex,qH⟩:=rel.write (w':=b1) (sz':=sz) (cs':=bu cs off ((bc.map enc).flatten)) (arr':=putCells id (m.s+off) (flatK (fun x=>(enc x).map valOf) k bc.toArray) arr) ag hm az ce mg (by rw[jP]; rfl) (by rw[jP]; rfl) (by rw[jP]; rfl) (by rw[ke]; simp)
  (by rw[ke,avZ,if_pos rfl,az]; rfl) (fun i av=>by rw[ke,avZ,if_neg (fun h=>av h.symm)]) (by simp[putCells])
  (by rw[r3 Ge,fc]; omega) (atW _) er (fun j c ai=>by
   rw[NT Ge,fc] at ai;have dU:(putCells id (m.s+off) (flatK (fun x=>(enc x).map valOf) k bc.toArray) arr)[m.s+j]? = (arr[m.s+j]?).map fun x=>if m.s+off<=m.s+j/\m.s+j<m.s+off+(flatK (fun x=>(enc x).map valOf) k bc.toArray).size then (flatK (fun x=>(enc x).map valOf) k bc.toArray)[m.s+j - (m.s+off)]! else x:=by
    unfold putCells; rw[Array.getElem?_mapIdx]; rfl
   rw[size_flatK] at dU;by_cases Gr:j<off
   ·rw[if_pos Gr] at ai;obtain⟨v,bD,bh,cd⟩:=jl j c ai;refine⟨v,?_,bh,cd⟩;rw[dU,bD,at1,if_neg (by omega)]
   ·rw[if_neg Gr] at ai;by_cases jo:j<off+len*k
    ·rw[if_pos jo] at ai;have eX:j - off<len*k:=by omega
     obtain⟨xE,aM,aT,a7⟩:=pb (j - off) eX;rw[show off+(j - off)=j by omega] at aT;obtain⟨v,bD,bh,cd⟩:=jl j xE aT;obtain⟨x,cW,aQ,bF,dn⟩:=Eh hk bc (j:=j - off) (by rw[b8]; exact eX);rw[dn] at ai; cases ai;refine⟨valOf c,?_,Ij c,WV (ay x c (at3 bF))⟩;rw[dU,bD,at1,if_pos (by simp[b8]; omega),show m.s+j - (m.s+off)=j - off by omega,SA hk bc (by rw[b8]; exact eX) dn]
    ·rw[if_neg jo] at ai;obtain⟨v,bD,bh,cd⟩:=jl j c ai;refine⟨v,?_,bh,cd⟩;rw[dU,bD,at1,if_neg (by simp[b8]; omega)]) (by rw[jP]; exact Nat.le_add_right _ _)
 have KD:zq b1 (grow b1 os) :=⟨⟨rfl,rfl,rfl,by simp[grow],fun i av=>by simp only[grow]; rw[auZ av]⟩,atW _⟩
 obtain⟨vX,tu⟩:=Ef qH KD;refine⟨_,μ,rfl,?_,?_,.bE [] #[] rfl (fun j c v ai _=>by simp at ai)⟩
 ·rw[jP] at ex vX; exact ex.trans vX
 ·rw[jP] at tu; exact tu
end

section
variable {P:Program} {G:Nat->U} {X:Type} {enc:X->List U} {k:Nat}
theorem XT {k:Nat}:∀ {es:List (List U)},(∀ e∈es,e.length=k)->es.flatten.length=es.length*k
 | [],_=>by simp
 | e::es,h=>by
  rw[auW,at4,h e (by simp),XT (fun x af=>h x (by simp[af])),auf,auI]; omega
theorem Yg [Inhabited X] {f g:Nat} (hY:X->X->Int) (e6:EO P f g k (fun x=>(enc x).map valOf) hY) (dX:SWO (ltOf hY)) (KA:∀ x y,ltOf hY x y=false->ltOf hY y x=false->x=y)
  (hk:∀ x,(enc x).length=k) (ay:∀ x,∀ c∈enc x,y1 c=true) (rn:∀ x y,bw P G g [.aJ (enc x),.aJ (enc y)] (.int .i64 (hY x y)))
  {l:ao} {v:U} {j:Nat} {xs:List X} (hF:en k l v j (xs.map enc)) (oY:xs.length<4611686018427387904) {K:U->ao->Prop}
  (aE:xs=[]->cY P G f [v,.fn g [] []] l (c:=⟨K⟩))
  (aV:∀ l',l'.length=l.length->(∀ b,b≠j->l'[b]? = l[b]?)->en k l' v j ((sorted hY xs).map enc)->K (.bE []) l') :cY P G f [v,.fn g [] []] l (c:=⟨K⟩) :=by
 cases xs with
 | nil=>exact aE rfl
 | cons x xs=>
 obtain⟨bc,Dq⟩:∃ bc,bc=x::xs:=⟨_,rfl⟩
 rw[<-Dq] at hF oY aV;have jr:0<bc.length:=by rw[Dq]; simp
 generalize jn:bc.map enc=es at hF;cases hF with
 | nil j=>rw[au6] at jn; rw[jn] at jr; simp at jr
 | au j off n cap sz cs es ag al aC aw ah c3 ci=>
 subst jn;have sQ:bc.length=n:=by simpa using aC
 have dR:n*k<=cap*k:=at2 _ ah;have eX:j<l.length:=(atU.1 ag).1;have ak:=alf (P:=P) (G:=G) (cap:=cap) hY e6 dX KA hk ay rn (h:=bU l) (lY.2 ag) sQ (by omega) (by omega) ci (by omega);rw[n2 _ eX] at ak;refine⟨_,_,.ext ak,by simp,?_⟩;have ec:((sorted hY bc).map enc).length=n:=by rw[auh,Yj,sQ]
 have cE:∀ e∈(sorted hY bc).map enc,e.length=k:=fun e am=>by obtain⟨x,_,rfl⟩:=auo.1 am; exact hk x
 have fc:(((sorted hY bc).map enc).flatten).length=n*k:=by rw[XT cE,ec]
 have Ge:off<=cs.length:=by omega
 refine aV _ (by simp) (fun b gN=>by rw[at5 (fun h=>gN h.symm)]) ?_;refine .au j off n cap sz _ _ (at9 eX) (by rw[r3 Ge,fc]; omega) ec cE ah c3 ?_;unfold bu;have h1:(List.take off cs).length=off:=by rw[aue]; omega
 rw[aut,auH (by omega),au2 (by omega),auT,auj (by omega),atT (by omega)]
end

end Go.cb

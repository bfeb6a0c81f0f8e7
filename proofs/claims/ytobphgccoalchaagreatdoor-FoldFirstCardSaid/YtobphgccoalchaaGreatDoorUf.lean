/-
  The canonical machine, carried out on code without types (for calls without unknowns).
-/
import Derived.Test.YtobphgccoalchaaGreatDoorUe
import Derived.OpenShut
import Derived.Shelf.SlSortCmp.InsertionK
import Derived.Sort.LotA
set_option linter.unusedVariables false
set_option linter.unusedSimpArgs false
set_option linter.unnecessarySimpa false
namespace Go.cb
open Go
def ZI (n:Nat) (h:aQ) (p v:U) :Option aQ:=
 match p,v.cells with
 | .ptr b off sz,some vs=>match h.f b with
  | .cells m cs=>if m=sz/\vs.length=n/\off+n<=m then some (h.set b (.cells m (bt cs off vs))) else none
  | _=>none
 | _,_=>none
def FN (h:aQ) (z by_:Nat) (s:U) (xs:List U) (n:Nat) :Option (U × aQ) :=
 if n=0 then (match s with | .aT | .bQ .. | .ar ..=>some (s,h) | _=>none)
 else if z=0\/by_=0 then none else match s with
  | .aT=>if n*by_<=cy then some (.ar z h.n 0 n n (n*z),h.push (.cells (n*z) xs)) else none
  | .ar dO b off len cap sz=>match h.f b with
   | .cells m cs=>
    if m=sz/\z=dO/\(len+n)*by_<=cy then
     if len+n<=cap then some (.ar z b off (len+n) cap sz,h.set b (.cells m (bt cs (off+len*z) xs)))
     else if off+cap*z<sz then some (.ar z h.n 0 (len+n) (len+n) ((len+n)*z),h.push (.cells ((len+n)*z) ((cs.drop off).take (len*z)++xs)))
     else if off=0 then some (.ar z b 0 (len+n) (len+n) ((len+n)*z),h.set b (.cells ((len+n)*z) (cs.take (len*z)++xs)))
     else some (.ar z h.n 0 (len+n) (len+n) ((len+n)*z),(h.set b .dead).push (.cells ((len+n)*z) ((cs.drop off).take (len*z)++xs)))
    else none
   | _=>none
  | _=>none
def Tc (z:Nat) (h:aQ) (d x:U) :Option (U × aQ) :=
 match contents h z x with
 | none=>none
 | some (xs,n)=>match d with
  | .aT=>some (.int .i64 0,h)
  | .ar dO b off len _ sz=>match h.f b with
   | .cells m cs=>if m=sz/\z=dO then some (.int .i64 ((min n len:Nat) :Int),h.set b (.cells m (bt cs off (xs.take (min n len*z))))) else none
   | _=>none
  | _=>none
def SV (zero:List U) (h:aQ) :U->Option aQ
 | .aT=>some h
 | .bQ _ []=>some h
 | .ar z b off len _ sz=>if len=0 then some h else match h.f b with
  | .cells m cs=>if m=sz/\zero.length=z then some (h.set b (.cells m (bt cs off (dN zero len)))) else none
  | _=>none
 | _=>none
def XC (z by_:Nat) (zero:List U) (h:aQ) (l c:U) :Option (U × aQ) :=match l,c with
 | .int _ l,.int _ c=>if 0<=l/\l<=c/\c<9223372036854775808/\by_*c<=cy then
   some (.ar z h.n 0 l.toNat c.toNat (c.toNat*z),h.push (.cells (c.toNat*z) (dN zero c.toNat))) else none
 | _,_=>none
def SN (h:aQ) (x:U) :Option U:=match x with
 | .aT=>some (.str [])
 | .str _=>none
 | x=>match contents h 1 x with | some (cs,_)=>(nQ cs).map .str | none=>none
def Qa (h:aQ) (z by_:Nat) (s x:U) :Option (U × aQ) :=match contents h z x with
 | none=>none
 | some (xs,n)=>FN h z by_ s xs n
def Qf (h:aQ) (z by_:Nat) (zero:List U) (s x:U) :Option (U × aQ) :=match x with
 | .int _ n=>if 0<=n/\n<9223372036854775808/\n.toNat*by_<=cy then FN h z by_ s (dN zero n.toNat) n.toNat else none
 | _=>none
def S1 (h:aQ) (x y:U) :Option U:=match sT h x,sT h y with
 | some a,some b=>some (.int .i64 (oN a b))
 | _,_=>none
def YQ (h:aQ) (x:U) :Option (U × aQ) :=match x with
 | .str s=>some (.it h.n,h.push (.iter s 0))
 | _=>none
def Xi (h:aQ) (x:U) :Option U:=match x with
 | .ia=>some (.int .i64 0)
 | .mp b=>match h.f b with | .map es _=>some (.int .i64 es.length) | _=>none
 | _=>none
def Xo (P:Program) (h:aQ) (c2:TypeId) (zero:U) (ok:Bool) (m k:U) :Option U:=
 match mapOf h m with
 | some es=>match lB P c2 k with
  | false=>none
  | true=>match j1 P c2 k es 0 with
   | some (some (_,v))=>some (if ok then .bG [v,.bool true] else v)
   | some none=>some (if ok then .bG [zero,.bool false] else zero)
   | none=>none
 | none=>none
def Xu (P:Program) (h:aQ) (c2:TypeId) (m k v:U) :Option aQ:=
 match m with
 | .mp b=>match h.f b with
  | .map es eX=>match lB P c2 k with
   | false=>none
   | true=>match j1 P c2 k es 0 with
    | some (some (i,_))=>some (h.set b (.map (es.modify i fun e=>(k,v,e.2.2)) eX))
    | some none=>some (h.set b (.map (es++[(k,v,eX)]) (eX+1)))
    | none=>none
  | _=>none
 | _=>none
def hC (h:aQ) (x:Option U) :Option (U × aQ) :=match x with | some v=>some (v,h) | none=>none
section
variable (P:Program)
def EA (aB:Operand->U) (h:aQ) :dy->Option (U × aQ)
 | .gu x=>some (aB x,h)
 | .pick c a b=>hC h (ER (aB c) (aB a) (aB b))
 | .alloc zero=>some (.ptr h.n 0 zero.length,h.push (.cells zero.length zero))
 | .box x=>match (aB x).cells with | some cs=>some (.ptr h.n 0 cs.length,h.push (.cells cs.length cs)) | none=>none
 | .Cy zero cU=>hC h ((qf zero (cU.map fun p=>(p.1,p.2.1,aB p.2.2))).map .aH)
 | .ry z zero len cU=>match hP (fun i=>some (i*z,z)) (dN zero len) (cU.map fun p=>(p.1,aB p.2)) with | some cs=>some (.ar z h.n 0 len len (len*z),h.push (.cells (len*z) cs)) | none=>none
 | .ld1 a=>hC h (match reach h (aB a) with | some (cs,o)=>cs[o]? | none=>none)
 | .vo n a=>hC h (match reach h (aB a) with | some (cs,o)=>tN n cs o | none=>none)
 | .st n a x=>match ZI n h (aB a) (aB x) with | some h'=>some (hF,h') | none=>none
 | .ED x=>hC h (zu (aB x))
 | .bin o t x y=>hC h (gH P o t (aB x) (aB y))
 | .un o x=>hC h (rg o (aB x))
 | .Ao k x=>hC h (CJ k (aB x))
 | .Av x=>hC h (Ga (aB x))
 | .uD x=>hC h (SN h (aB x))
 | .Au x=>hC h (wE (aB x))
 | .zt t x=>some (.g0 t (aB x),h)
 | .B1 t z ok x=>hC h (B2 t z ok (aB x))
 | .zs f a b=>some (.fn f (a.map aB) (b.map aB),h)
 | .se z by_ zero a c=>XC z by_ zero h (aB a) (aB c)
 | .slice dB x cV av cW=>hC h (fG dB (aB x) (cV.map aB) (av.map aB) (cW.map aB))
 | .C4 off x=>hC h (nU (aB x) off)
 | .C8 off x=>hC h (Da off (aB x))
 | .C9 n off x=>hC h (AE n off (aB x))
 | .Br dB x i=>hC h (ck dB (aB x) (aB i))
 | .Ek n z x i=>hC h (Em n z (aB x) (aB i))
 | .El n z x i=>hC h (En n z (aB x) (aB i))
 | .Eo x i=>hC h (ze (aB x) (aB i))
 | .ext x i=>hC h (C3 (aB x) i)
 | .len dB x=>hC h (cK dB (aB x))
 | .cap dB x=>hC h (uC dB (aB x))
 | .app z by_ s x=>Qa h z by_ (aB s) (aB x)
 | .wb z by_ zero s x=>Qf h z by_ zero (aB s) (aB x)
 | .wC z d x=>Tc z h (aB d) (aB x)
 | .wu zero x=>match SV zero h (aB x) with | some h'=>some (.bG [],h') | none=>none
 | .min x y=>hC h (By (aB x) (aB y))
 | .max x y=>hC h (vu (aB x) (aB y))
 | .vv x=>match x with
  | none=>some (.mp h.n,h.push (.map [] 0))
  | some o=>match asInt (aB o) with | some _=>some (.mp h.n,h.push (.map [] 0)) | none=>none
 | .zm c2 zero ok m k=>hC h (Xo P h c2 zero ok (aB m) (aB k))
 | .xq c2 m k x=>match Xu P h c2 (aB m) (aB k) (aB x) with | some h'=>some (hF,h') | none=>none
 | .xj x=>hC h (Xi h (aB x))
 | .xI x=>YQ h (aB x)
 | .xt x=>BA h (aB x)
 | .cj f s3 x y=>match Ei f (aB s3) with | true=>hC h (S1 h (aB x) (aB y)) | false=>none
 | .stop=>none
end
def pW (r:U->Option U) :List U->Option (List U)
 | []=>some []
 | c::cs=>match r c with
  | some c'=>match pW r cs with
   | some cs'=>some (c'::cs')
   | none=>none
  | none=>none
def vE (h:aQ) :Nat->U->Option U
 | 0,_=>none
 | d+1,c=>match c with
  | .aH cs=>match pW (vE h d) cs with | some cs'=>some (.aH cs') | none=>none
  | .bG cs=>match pW (vE h d) cs with | some cs'=>some (.bG cs') | none=>none
  | .ar z b off len cap sz=>match Nat.beq len 0 with
   | true=>some (.bQ z [])
   | false=>match h.f b with
    | .cells n cs=>match Nat.beq n sz&&Nat.ble (off+len*z) cs.length with
     | true=>match pW (vE h d) ((cs.drop off).take (len*z)) with
      | some xs=>some (.bQ z (mz z len xs))
      | none=>none
     | false=>none
    | _=>none
  | .ptr b off sz=>match h.f b with
   | .cells n cs=>match Nat.beq n sz with
    | true=>match pW (vE h d) cs with | some cs'=>some (.b3 cs' off) | none=>none
    | false=>none
   | _=>none
  | c=>match c.closed with | true=>some c | false=>none
def Qp (x:U) :Option Int:=match x with
 | .int k i=>match k with | .i64=>some i | _=>none
 | _=>none
def mh (z:Nat) (cs vs:List U) (i len:Nat) :List U:=cs.take (i*z)++vs++(cs.drop (i*z)).take ((len - i)*z)++cs.drop ((len+1)*z)
def Eg (z by_:Nat) (h:aQ) (s:U) (i:Nat) (bv:Nat) (vs:List U) :Option (U × aQ) :=match s with
 | .aT=>if i=0/\by_<=cy then some (.ar z h.n 0 1 1 z,h.push (.cells z vs)) else none
 | .ar nF b off len cap sz=>match h.f b with
  | .cells m cs=>if m=cap*z/\sz=cap*z/\nF=z/\off=0/\bv≠b/\i<=len/\len<=cap/\(len+1)*by_<=cy then
    some (.ar z h.n 0 (len+1) (max cap (len+1)) (max cap (len+1)*z),(h.set b .dead).push (.cells (max cap (len+1)*z) (mh z cs vs i len))) else none
  | _=>none
 | _=>none
def tx (z by_:Nat) (args:List U) (h:aQ) :Option (U × aQ) :=match args with
 | [s,x,y]=>match Qp x,y with
  | some i,.ar iM bv pM b1 dJ hl=>match h.f bv with
   | .cells kf vs=>if iM=z/\pM=0/\b1=1/\dJ=1/\hl=z/\kf=z/\0<=i then Eg z by_ h s i.toNat bv vs else none
   | _=>none
  | _,_=>none
 | _=>none
class rp (P:Program) (G:Nat->U) where
 get:FuncId->Option (Nat × Nat)
 ok:∀ f z by_,get f=some (z,by_)->∀ args h r h',tx z by_ args h=some (r,h')->sG P G f args h r h'
instance (priority:=10) auL (P:Program) (G:Nat->U) :rp P G:=⟨fun _=>none,fun f z by_ h=>by cases h⟩
abbrev pf:=FuncId->List U->aQ->Option (U × aQ)
abbrev JB:=Option (sF × he × aQ)
mutual
def a7.beq:a7->a7->Bool
 | .none,y=>match y with | .none=>true | _=>false
 | .dead,y=>match y with | .dead=>true | _=>false
 | .cells n cs,y=>match y with | .cells hi cs'=>Nat.beq n hi&&fD cs cs' | _=>false
 | .map ..,_=>false
 | .iter ..,_=>false
end

section
variable (P:Program) (G:Nat->U)
def GC (s:he) (g:Option (Option Tmp × Bool)) :Option Bool:=match g with
 | none=>some true
 | some (some d,w)=>match look s d with
  | .bool b=>some (b == w)
  | .bad=>none
  | _=>some false
 | some (none,_)=>some false
def Cv (call:pf) (b:rl) (s:he) (h:aQ) :Option (U × aQ) :=match b with
 | .g5 m=>EA P (da G (look s)) h m
 | .m8 f args=>call f (args.map (da G (look s))) h
 | .nR x args=>match da G (look s) x with
  | .fn g first gi=>match hQ P g with
   | true=>call g (first++args.map (da G (look s))++gi) h
   | false=>none
  | _=>none
 | .oM x name args=>match da G (look s) x with
  | .g0 t v=>match zq P t name with
   | some g=>match hQ P g with
    | true=>call g (v::args.map (da G (look s))) h
    | false=>none
   | none=>none
  | _=>none
def E8 (call:pf) :List eJ->he->aQ->Option (he × aQ)
 | [],s,h=>some (s,h)
 | x::r,s,h=>match GC s x.g with
  | some true=>match Cv P G call x.b s h with
   | some (v,h')=>E8 call r (EV s x.dst v) h'
   | none=>none
  | some false=>E8 call r (EV s x.dst hF) h
  | none=>none
def I9 (b:rl) (s:he) (v:U) (h h' h1:aQ) :Bool:=match b with
 | .g5 m=>match m.jl with
  | true=>a7.beq (h1.f h.n) (h'.f h.n)
  | false=>match m.looks with
   | true=>match EA P (da G (look s)) h1 m with
    | some (aZ,_)=>U.beq aZ v
    | none=>false
   | false=>false
 | _=>true
def F4 (ids:List Nat) (h:aQ) :List (Nat × (aQ->Bool))->Bool
 | []=>true
 | e::r=>(!ids.contains e.1||e.2 h)&&F4 ids h r
def E7 (call:pf) :List eJ->he->aQ->List (Nat × (aQ->Bool))->Option (he × aQ)
 | [],s,h,_=>some (s,h)
 | x::r,s,h,seen=>match GC s x.g with
  | some true=>match Cv P G call x.b s h with
   | some (v,h')=>match F4 x.hL h' seen with
    | true=>E7 call r (EV s x.dst v) h' (match x.cx with | true=>(x.i,I9 P G x.b s v h h') ::seen | false=>seen)
    | false=>none
   | none=>none
  | some false=>E7 call r (EV s x.dst hF) h seen
  | none=>none
def SO (call:pf) (aJ:gg->he->aQ->JB) (c:gg) (s:he) (h:aQ) :JB:=
 match c with
 | .skip=>some (.normal,s,h)
 | .ret=>some (.ret,s,h)
 | .exit id=>some (.exit id,s,h)
 | .xE x=>match E8 P G call x s h with
  | some (dR,h1)=>some (.normal,dR,h1)
  | none=>none
 | .yi x=>match E7 P G call x s h [] with
  | some (dR,h1)=>some (.normal,dR,h1)
  | none=>none
 | .seq a b=>match aJ a s h with
  | some (.normal,dR,h1)=>aJ b dR h1
  | r=>r
 | .cond c x y=>match da G (look s) c with
  | .bool true=>aJ x s h
  | .bool false=>aJ y s h
  | _=>none
 | .block id c=>match aJ c s h with
  | some (.exit tv,dR,h1)=>match Nat.beq tv id with
   | true=>some (.normal,dR,h1)
   | false=>some (.exit tv,dR,h1)
  | r=>r
 | .loop c=>match aJ c s h with
  | some (.normal,dR,h1)=>aJ (.loop c) dR h1
  | r=>r
def F2 (call:pf) :Nat->gg->he->aQ->JB
 | 0=>fun _ _ _=>none
 | k+1=>SO P G call (F2 call k)
def E4 (s:he) (h:aQ) :List dy->List U->Option U
 | [],acc=>some (xS acc)
 | m::r,acc=>match EA P (da G (look s)) h m with
  | some (v,_)=>E4 s h r (acc++[v])
  | none=>none
abbrev rq:=FuncId->Option (Bool × (List U->Option U))
abbrev vZ:=FuncId->Option (gg × List dy)
def JW (orc:rq) (f:FuncId) (args:List U) (h:aQ) :Option U:=
 match orc f with
 | some (n,g)=>match pW (vE h 20) args with
  | some iP=>match g iP with
   | some r=>match n||r.flat with | true=>some r | false=>none
   | none=>none
  | none=>none
 | none=>none
def SL [rp P G] (orc:rq) (lM:vZ) (fuel:Nat) (call:pf) :pf:=fun f args h=>
 match rp.get P G f with
 | some (z,by_)=>tx z by_ args h
 | none=>match JW orc f args h with
 | some r=>some (r,h)
 | none=>match lM f with
  | none=>none
  | some (c,oz)=>match F2 P G call fuel c (BE 0 .nil args) h with
   | some (.normal,eH,h')=>match E4 P G eH h' oz [] with | some r=>some (r,h') | none=>none
   | some (.ret,eH,h')=>match E4 P G eH h' oz [] with | some r=>some (r,h') | none=>none
   | _=>none
def CH [rp P G] (orc:rq) (lM:vZ) (fuel:Nat) :Nat->pf
 | 0=>fun _ _ _=>none
 | k+1=>SL P G orc lM fuel (CH orc lM fuel k)
end
structure e3 (h:aQ) (l:am) :Prop where
 n:h.n=l.length
 f:∀ b,h.f b=(bW l).f b
theorem e3.nil:e3 aQ.empty [] :=⟨rfl,fun _=>rfl⟩
theorem e3.some {h:aQ} {l:am} (r:e3 h l) {b:Nat} {c:a7} (ah:h.f b=c) (aC:c≠.none) :l[b]? = some c:=by
 rw[r.f,nI] at ah;split at ah
 ·rename_i c' h1; rw[h1,ah]
 ·exact absurd ah.symm aC
theorem e3.push {h:aQ} {l:am} (r:e3 h l) (c:a7) :e3 (h.push c) (l++[c]) :=
 ⟨by rw[fN,r.n]; simp,fun b=>by rw[eG,<-lO,eG,r.n,vU]; unfold bS; (split<;>first | rfl | exact r.f b)⟩
theorem e3.set {h:aQ} {l:am} (r:e3 h l) {b:Nat} {yd:a7} (ag:l[b]? = Option.some yd) (c:a7) :e3 (h.set b c) (l.set b c) :=
 ⟨by rw[ff,r.n]; simp,fun bu=>by rw[eg,<-oK _ (eu ag),eg]; unfold bS; (split<;>first | rfl | exact r.f bu)⟩
section
variable {P:Program} {G:Nat->U} {h h' : aQ} {l:am}
theorem e3.reach (r:e3 h l) (p:U) :reach h p=eW l p:=by
 rw[<-Om];cases p<;>try rfl
 simp only[cb.reach,r.f]
theorem e3.contents (r:e3 h l) (z:Nat) (x:U) :contents h z x=dE l z x:=by
 rw[<-CQ];cases x<;>try rfl
 simp only[cb.contents,r.f]
theorem e3.mapOf (r:e3 h l) (x:U) :mapOf h x=tC l x:=by
 cases x<;>try rfl
 rename_i b;simp only[cb.mapOf,tC,r.f,nI];cases l[b]? with
 | none=>rfl
 | some c=>cases c<;>rfl
theorem e3.bytes (r:e3 h l) (x:U) :sT h x=po l x:=by
 cases x<;>simp only[sT,po,r.contents]<;>rfl
theorem ala {x:Option U} {v:U} (af:hC h x=some (v,h')) :x=some v/\h'=h:=by
 cases x with
 | none=>cases af
 | some y=>cases af; exact⟨rfl,rfl⟩
theorem zw (r:e3 h l) {x y:Option U} {v:U} (k3:x=y) (af:hC h x=some (v,h')) :∃ l',dU l y=some (v,l')/\e3 h' l':=by
 obtain⟨rfl,rfl⟩:=ala af;exact⟨l,by rw[<-k3]; rfl,r⟩
theorem Qi (r:e3 h l) {z by_ n:Nat} {s v:U} {xs:List U} (af:FN h z by_ s xs n=some (v,h')) :∃ l',hJ l z by_ s xs n=some (v,l')/\e3 h' l':=by
 unfold FN at af;unfold hJ;by_cases aC:n=0
 ·rw[if_pos aC] at af ⊢;cases s<;>simp at af ⊢<;>(obtain⟨rfl,rfl⟩:=af; exact⟨l,⟨rfl,rfl⟩,r⟩)
 ·rw[if_neg aC] at af ⊢;by_cases aD:z=0\/by_=0
  ·rw[if_pos aD] at af; cases af
  ·rw[if_neg aD] at af ⊢;cases s<;>simp only at af ⊢<;>try (cases af; done)
   case aT=>
    by_cases az:n*by_<=cy
    ·rw[if_pos az] at af ⊢; cases af; exact⟨_,by rw[r.n],r.push _⟩
    ·rw[if_neg az] at af; cases af
   case ar dO b off len cap sz=>
    cases ag:h.f b<;>rw[ag] at af<;>(try simp only at af)<;>try (cases af; done)
    rename_i m cs;have al:=r.some ag (by simp);rw[al];simp only;by_cases h1:m=sz/\z=dO/\(len+n)*by_<=cy
    ·rw[if_pos h1] at af ⊢;by_cases ad:len+n<=cap
     ·rw[if_pos ad] at af ⊢; cases af; exact⟨_,rfl,r.set al _⟩
     ·rw[if_neg ad] at af ⊢;by_cases aj:off+cap*z<sz
      ·rw[if_pos aj] at af ⊢; cases af; exact⟨_,by rw[r.n],r.push _⟩
      ·rw[if_neg aj] at af ⊢;by_cases aE:off=0
       ·rw[if_pos aE] at af ⊢; cases af; exact⟨_,rfl,r.set al _⟩
       ·rw[if_neg aE] at af ⊢; cases af; exact⟨_,by rw[r.n],(r.set al _).push _⟩
    ·rw[if_neg h1] at af; cases af
theorem NG (r:e3 h l) {aB:Operand->U} {m:dy} {v:U} (af:EA P aB h m=some (v,h')) :∃ l',bU P aB l m=some (v,l')/\e3 h' l':=by
 cases m<;>simp only[EA] at af<;>simp only[bU]
 case gu=>cases af; exact⟨l,rfl,r⟩
 case alloc=>cases af; exact⟨_,by rw[r.n],r.push _⟩
 case box x=>
  cases ah:(aB x).cells with
  | none=>rw[ah] at af; cases af
  | some cs=>rw[ah] at af; cases af; exact⟨_,by simp only[Option.map_some,r.n],r.push _⟩
 case ry z zero n cU=>
  split at af
  ·rename_i cs ah; cases af; exact⟨_,by rw[ah]; simp only[Option.map_some,r.n],r.push _⟩
  ·cases af
 case ld1 a=>
  rw[r.reach] at af;refine zw r ?_ af;cases eW l (aB a)<;>rfl
 case vo n a=>
  rw[r.reach] at af;refine zw r ?_ af;cases eW l (aB a)<;>rfl
 case st n a x=>
  unfold ZI at af;unfold kH;cases aA:aB a<;>rw[aA] at af<;>(try simp only at af)<;>try (cases af; done)
  rename_i b off sz;cases ah:(aB x).cells with
  | none=>rw[ah] at af; cases af
  | some vs=>
   rw[ah] at af;simp only at af ⊢;cases ag:h.f b<;>rw[ag] at af<;>(try simp only at af)<;>try (cases af; done)
   rename_i m cs;have al:=r.some ag (by simp);rw[al];simp only;by_cases h1:m=sz/\vs.length=n/\off+n<=m
   ·rw[if_pos h1] at af ⊢; cases af; exact⟨_,rfl,r.set al _⟩
   ·rw[if_neg h1] at af; cases af
 case zt=>cases af; exact⟨l,rfl,r⟩
 case zs=>cases af; exact⟨l,rfl,r⟩
 case se z by_ zero a c=>
  unfold XC at af;unfold sf;cases aA:aB a<;>rw[aA] at af<;>(try simp only at af)<;>try (cases af; done)
  cases ah:aB c<;>rw[ah] at af<;>(try simp only at af)<;>try (cases af; done)
  simp only;split at af
  ·rename_i h1; rw[if_pos h1]; cases af; exact⟨_,by rw[r.n],r.push _⟩
  ·cases af
 case uD x=>
  refine zw r ?_ af;unfold SN wm;cases aB x<;>simp only[r.contents]<;>rfl
 case app z by_ s x=>
  unfold Qa at af;unfold gx;rw[r.contents] at af;split at af
  ·cases af
  ·rename_i xs n ah; rw[ah]; exact Qi r af
 case wb z by_ zero s x=>
  unfold Qf at af;unfold rx;cases ah:aB x<;>rw[ah] at af<;>(try simp only at af)<;>try (cases af; done)
  simp only;split at af
  ·rename_i h1; rw[if_pos h1]; exact Qi r af
  ·cases af
 case wC z d x=>
  unfold Tc at af;unfold As;rw[r.contents] at af;split at af
  ·cases af
  ·rename_i xs n ah;rw[ah];simp only;cases bC:aB d<;>rw[bC] at af<;>(try simp only at af)<;>try (cases af; done)
   ·cases af; exact⟨l,rfl,r⟩
   ·rename_i dO b off len cap sz;cases ag:h.f b<;>rw[ag] at af<;>(try simp only at af)<;>try (cases af; done)
    rename_i m cs;have al:=r.some ag (by simp);simp only[al];split at af
    ·rename_i h1; rw[if_pos h1]; cases af; exact⟨_,rfl,r.set al _⟩
    ·cases af
 case wu zero x=>
  unfold SV at af;unfold sV;cases bC:aB x<;>rw[bC] at af<;>(try simp only at af)<;>try (cases af; done)
  ·cases af; exact⟨l,rfl,r⟩
  ·rename_i z b off len cap sz;simp only;by_cases aD:len=0
   ·rw[if_pos aD] at af ⊢; cases af; exact⟨l,rfl,r⟩
   ·rw[if_neg aD] at af ⊢;cases ag:h.f b<;>rw[ag] at af<;>(try simp only at af)<;>try (cases af; done)
    rename_i m cs;have al:=r.some ag (by simp);rw[al];simp only;by_cases h1:m=sz/\zero.length=z
    ·rw[if_pos h1] at af ⊢; cases af; exact⟨_,rfl,r.set al _⟩
    ·rw[if_neg h1] at af; cases af
  ·rename_i z es;cases es<;>simp only at af
   ·cases af; exact⟨l,rfl,r⟩
   ·cases af
 case vv x=>
  cases x with
  | none=>cases af; exact⟨_,by rw[r.n],r.push _⟩
  | some o=>
   simp only at af ⊢;split at af
   ·rename_i n aC; rw[aC]; cases af; exact⟨_,by simp only[r.n],r.push _⟩
   ·cases af
 case zm c2 zero ok m k=>
  refine zw r ?_ af;unfold Xo xm;rw[r.mapOf];split
  ·rename_i es jH; rw[jH]; rfl
  ·rename_i jH; rw[jH]
 case xq c2 m k x=>
  unfold Xu at af;unfold tD;cases hm:aB m<;>rw[hm] at af<;>(try simp only at af)<;>try (cases af; done)
  rename_i b;simp only;cases ag:h.f b<;>rw[ag] at af<;>(try simp only at af)<;>try (cases af; done)
  rename_i es eX;have al:=r.some ag (by simp);rw[al];simp only;cases hk:lB P c2 (aB k)<;>rw[hk] at af<;>simp only at af
  ·cases af
  ·simp only;cases aF:j1 P c2 (aB k) es 0 with
   | none=>rw[aF] at af; cases af
   | some q=>
    rw[aF] at af;cases q with
    | none=>cases af; exact⟨_,rfl,r.set al _⟩
    | some xh=>cases af; exact⟨_,rfl,r.set al _⟩
 case xj x=>
  refine zw r ?_ af;unfold Xi Ev;cases aB x<;>try rfl
  rename_i b;simp only[r.f,nI];cases l[b]? with
  | none=>rfl
  | some c=>cases c<;>rfl
 case xI x=>
  unfold YQ at af;unfold BO;cases bC:aB x<;>rw[bC] at af<;>(try simp only at af)<;>try (cases af; done)
  cases af; exact⟨_,by simp only[r.n],r.push _⟩
 case xt x=>
  unfold BA at af;unfold vx;cases bC:aB x<;>rw[bC] at af<;>(try simp only at af)<;>try (cases af; done)
  rename_i b;simp only;cases ag:h.f b<;>rw[ag] at af<;>(try simp only at af)<;>try (cases af; done)
  have al:=r.some ag (by simp);rw[al];simp only;split at af
  ·rename_i h1; rw[h1]; cases af; exact⟨_,rfl,r.set al _⟩
  ·rename_i h1; rw[h1]; cases af; exact⟨_,rfl,r⟩
 case stop=>cases af
 case cj f s3 x y=>
  split at af
  ·rename_i h1;rw[h1];refine zw r ?_ af;unfold S1 cmpL;rw[r.bytes,r.bytes];cases po l (aB x)<;>cases po l (aB y)<;>rfl
  ·cases af
 all_goals exact zw r rfl af
theorem tT {f:U->Option U}:∀ {cs cs' : List U},pW f cs=some cs'->cs'.length=cs.length
 | [],cs',h=>by cases h; rfl
 | c::cs,cs',h=>by
  unfold pW at h;split at h
  ·split at h
   ·rename_i h1; cases h; simp[tT h1]
   ·cases h
  ·cases h
theorem tS {f:U->Option U}:∀ {cs cs' : List U},pW f cs=some cs'->∀ (j:Nat) (c c' : U),cs[j]? = some c->cs'[j]? = some c'->f c=some c'
 | [],cs',h,j,c,c',ah,_=>by simp at ah
 | c::cs,cs',h,j,d,rB,bC,qA=>by
  unfold pW at h;split at h
  ·rename_i x af;split at h
   ·rename_i h1;cases h;cases j with
    | zero=>simp at bC qA; subst bC qA; exact af
    | succ j=>exact tS h1 j d rB (by simpa using bC) (by simpa using qA)
   ·cases h
  ·cases h
theorem BP:∀ (d:Nat) (c c' : U),vE h d c=some c'->gh h c c'
 | 0,c,c',af=>by cases af
 | d+1,c,c',af=>by
  unfold vE at af;split at af
  ·split at af
   ·rename_i h1; cases af;exact .aH _ _ (tT h1) (fun j c c' ah ei=>BP d c c' (tS h1 j c c' ah ei))
   ·cases af
  ·split at af
   ·rename_i h1; cases af;exact .bG _ _ (tT h1) (fun j c c' ah ei=>BP d c c' (tS h1 j c c' ah ei))
   ·cases af
  ·rename_i z b off len cap sz;split at af
   ·rename_i aD;cases af;rw[Nat.eq_of_beq_eq_true aD];exact .su z b off cap sz
   ·split at af
    ·rename_i n cs ag;split at af
     ·rename_i c1;simp only[Bool.and_eq_true] at c1;have aC:=Nat.eq_of_beq_eq_true c1.1;have dw:=Nat.le_of_ble_eq_true c1.2;subst aC;split at af
      ·rename_i xs h1;cases af;have bf:=tT h1;simp only[List.length_take,List.length_drop] at bf;have vh:xs.length=len*z:=by omega
       have c0:∀ (i:Nat),i<len->(mz z len xs)[i]? = some ((xs.drop (i*z)).take z) :=fun i av=>F5 len xs i av
       have eE:∀ i,i<len->i*z+z<=len*z:=fun i av=>by rw[<-Nat.succ_mul]; exact Nat.mul_le_mul_right _ av
       refine .ar z b off len cap n cs _ ag (wn _ _) (fun e ao=>?_) dw (fun i j e c c' ao ai ah=>?_)
       ·obtain⟨i,av⟩:=List.mem_iff_getElem?.1 ao;have c3:i<len:=by
         have:=(List.getElem?_eq_some_iff.1 av).1;rw[wn] at this; exact this
        rw[c0 i c3] at av;cases av;have:=eE i c3;simp; omega
       ·have c3:i<len:=by
         have:=(List.getElem?_eq_some_iff.1 ao).1;rw[wn] at this; exact this
        rw[c0 i c3] at ao;cases ao;have u4:=eE i c3;have nl:j<z:=by have:=(List.getElem?_eq_some_iff.1 ai).1; simp at this; omega
        rw[List.getElem?_take_of_lt nl,List.getElem?_drop] at ai;refine BP d c c' (tS h1 (i*z+j) c c' ?_ ai);rw[List.getElem?_take_of_lt (by omega),List.getElem?_drop];exact ah
      ·cases af
     ·cases af
    ·cases af
  ·rename_i b off sz;split at af
   ·rename_i n cs ag;split at af
    ·rename_i aC;split at af
     ·rename_i h1;cases af;rw[<-Nat.eq_of_beq_eq_true aC];exact .ptr b off n cs _ ag (tT h1) (fun j c c' ah ei=>BP d c c' (tS h1 j c c' ah ei))
     ·cases af
    ·cases af
   ·cases af
  ·split at af
   ·rename_i ah; cases af; exact .same _ ah
   ·cases af
theorem gh.rep (r:e3 h l) {c c' : U} (az:gh h c c') :gh (bW l) c c':=by
 induction az with
 | same c ah=>exact .same c ah
 | aH cs cs' al au aJ=>exact .aH cs cs' al aJ
 | bG cs cs' al au aJ=>exact .bG cs cs' al aJ
 | ar z b off len cap sz cs es ag al aw ec au aJ=>exact .ar z b off len cap sz cs es (by rw[<-r.f]; exact ag) al aw ec aJ
 | su z b off cap sz=>exact .su z b off cap sz
 | ptr b off sz cs cs' ag al au aJ=>exact .ptr b off sz cs cs' (by rw[<-r.f]; exact ag) al aJ
def Cg (P:Program) (G:Nat->U) (call:pf) :Prop:=
 ∀ (f:FuncId) (args:List U) (h:aQ) (v:U) (h' : aQ) (l:am),e3 h l->call f args h=some (v,h')->∃ l',e3 h' l'/\∀ K:U->am->Prop,K v l'->c7 P G f args l (c:=⟨K⟩)
theorem ajp {m:dy} {v:U} {l:am} {K:U->am->Prop} (hk:K v l) :eR m v l K:=by
 cases m<;>first | exact hk | exact .inl hk
theorem Qt {call:pf} (ah:Cg P G call) (r:e3 h l) {b:rl} {s:he} {v:U} (af:Cv P G call b s h=some (v,h')) :
  ∃ l',e3 h' l'/\(∀ K:U->am->Prop,K v l'->ih P G b (look s) l K)/\(∀ m,b=.g5 m->bU P (da G (look s)) l m=some (v,l')) :=by
 cases b with
 | g5 m=>
  obtain⟨l',h1,ad⟩:=NG r af;refine⟨l',ad,fun K aY=>?_,fun cF hm=>by cases hm; exact h1⟩;show W (bU P (da G (look s)) l m) (c:=⟨fun x=>eR m x.1 x.2 K⟩);rw[Ac];exact⟨_,h1,ajp aY⟩
 | m8 f args=>
  obtain⟨l',h1,ad⟩:=ah f _ h v h' l r af;exact⟨l',h1,ad,fun m hm=>by cases hm⟩
 | nR x args=>
  simp only[Cv] at af;cases aF:da G (look s) x<;>rw[aF] at af<;>(try simp only at af)<;>try (cases af; done)
  rename_i g first gi
  split at af
  ·rename_i kV;obtain⟨l',h1,ad⟩:=ah g _ h v h' l r af;refine⟨l',h1,fun K aY=>?_,fun m hm=>by cases hm⟩;show wj P G (da G (look s) x) _ l (c:=⟨K⟩);unfold wj;rw[aF];exact⟨kV,ad K aY⟩
  ·cases af
 | oM x name args=>
  simp only[Cv] at af;cases aF:da G (look s) x<;>rw[aF] at af<;>(try simp only at af)<;>try (cases af; done)
  rename_i t v0;split at af
  ·rename_i g hm;split at af
   ·rename_i kV;obtain⟨l',h1,ad⟩:=ah g _ h v h' l r af;refine⟨l',h1,fun K aY=>?_,fun m hm=>by cases hm⟩;show wi P G name (da G (look s) x) _ l (c:=⟨K⟩);unfold wi;rw[aF];simp only[hm];exact⟨kV,ad K aY⟩
   ·cases af
  ·cases af
theorem GD {s:he} {g:Option (Option Tmp × Bool)} {b:Bool} (aq:GC s g=some b) {p q:Prop} (hk:if b then p else q) :qZ (look s) g p q:=by
 unfold GC at aq;unfold qZ;split at aq
 ·cases aq; exact hk
 ·rename_i d w;simp only[r4];split at aq
  ·rename_i x af;simp only[af];cases aq;unfold r5;cases aiv:(x == w)<;>rw[aiv] at hk<;>simpa using hk
  ·cases aq
  ·rename_i h1 ad;cases aq;cases af:look s d<;>first | exact (by simpa using hk) | (exact absurd af (h1 _)) | (exact absurd af ad)
 ·cases aq; simpa using hk
theorem OD {call:pf} (ah:Cg P G call) :∀ (x:List eJ) (s:he) (h:aQ) (l:am) (eH:he) (h' : aQ),e3 h l->E8 P G call x s h=some (eH,h')->
  ∃ l',e3 h' l'/\∀ K:bg->am->Prop,K (look eH) l'->jV P G x (look s) l K
 | [],s,h,l,eH,h',r,af=>by cases af; exact⟨l,r,fun K aY=>aY⟩
 | x::xs,s,h,l,eH,h',r,af=>by
  unfold E8 at af;split at af
  ·rename_i aq;split at af
   ·rename_i v h1 ag;obtain⟨l1,dW,ad,_⟩:=Qt ah r ag;obtain⟨l',ct,aj⟩:=OD ah xs _ h1 l1 eH h' dW af;refine⟨l',ct,fun K aY=>?_⟩;unfold jV;refine GD aq ?_;simp only[if_true];refine ad _ ?_;rw[<-H8];exact aj K aY
   ·cases af
  ·rename_i aq;obtain⟨l',ct,aj⟩:=OD ah xs _ h l eH h' r af;refine⟨l',ct,fun K aY=>?_⟩;unfold jV;refine GD aq ?_;simp only[Bool.false_eq_true,if_false];rw[<-H8];exact aj K aY
  ·cases af
theorem a7.beq_eq {a b:a7} (h:a7.beq a b=true) :a=b:=by
 cases a<;>cases b<;>simp[a7.beq] at h
 ·rfl
 ·rfl
 ·obtain⟨h1,ad⟩:=h;rw[h1,uz ad]
theorem anv {b:rl} {s:he} {v:U} {h1:aQ} {l' l1:am} (r:e3 h l) (ct:e3 h' l') (dW:e3 h1 l1) (af:I9 P G b s v h h' h1=true) (bn:∀ m,b=.g5 m->m.jl=true->∃ n cs,l'=l++[.cells n cs]) :mr P G b (look s) v l l' l1:=by
 unfold I9 at af;unfold mr;split at af
 ·rename_i m;simp only;cases aC:m.jl with
  | true=>
   rw[aC] at af;simp only at af ⊢;have ao:=a7.beq_eq af;obtain⟨n,cs,rfl⟩:=bn m rfl aC;rw[r.n] at ao;have ad:h'.f l.length=(bW (l++[.cells n cs])).f l.length:=ct.f _;rw[nI] at ad;simp only[List.getElem?_append_right (Nat.le_refl _),Nat.sub_self,List.getElem?_cons_zero] at ad ⊢;exact dW.some (ao.trans ad) (by simp)
  | false=>
   rw[aC] at af;simp only at af ⊢;split at af
   ·rename_i hS;split at af
    ·rename_i aZ ad hm;obtain⟨b1,aj,_⟩:=NG dW hm;rw[U.beq_eq af] at aj;rw[Xn hS aj] at aj;exact aj
    ·cases af
   ·cases af
 ·rename_i ag;split
  ·rename_i m; exact absurd rfl (ag m)
  ·trivial
inductive Ab (P:Program) (G:Nat->U) :List (Nat × (aQ->Bool))->iN->Prop
 | nil:Ab P G [] []
 | cons {i p q r ct}:(∀ h l,e3 h l->p h=true->q l)->Ab P G r ct->Ab P G ((i,p) ::r) ((i,q) ::ct)
theorem SS (r:e3 h l) {ids:List Nat}:∀ {a:List (Nat × (aQ->Bool))} {b:iN},Ab P G a b->F4 ids h a=true->qi ids b l
 | _,_,.nil,_=>trivial
 | _,_,.cons ay az,af=>by
  unfold F4 at af;simp only[Bool.and_eq_true,Bool.or_eq_true,Bool.not_eq_true'] at af;unfold qi;refine⟨fun av=>?_,SS r az af.2⟩;rcases af.1 with h1 | h1
  ·rw[av] at h1; cases h1
  ·exact ay h l r h1
theorem ai8 {aB:Operand->U} {l l' : am} {m:dy} {v:U} (aC:m.jl=true) (hm:bU P aB l m=some (v,l')) :∃ n cs,l'=l++[.cells n cs] :=by
 cases m<;>simp only[dy.jl,Bool.false_eq_true,reduceCtorEq] at aC<;>simp only[bU,map_some,Option.some.injEq,Prod.mk.injEq] at hm
 case alloc=>obtain⟨_,rfl⟩:=hm; exact⟨_,_,rfl⟩
 case box=>obtain⟨_,_,_,rfl⟩:=hm; exact⟨_,_,rfl⟩
 case ry=>obtain⟨_,_,_,rfl⟩:=hm; exact⟨_,_,rfl⟩
 case se=>
  unfold sf at hm
  repeat' split at hm
  all_goals first | (cases hm; done) | (cases hm; exact⟨_,_,rfl⟩)
theorem OA {call:pf} (ah:Cg P G call) :∀ (x:List eJ) (s:he) (h:aQ) (l:am) (eH:he) (h' : aQ) (a:List (Nat × (aQ->Bool))) (b:iN),e3 h l->Ab P G a b->E7 P G call x s h a=some (eH,h')->
  ∃ l',e3 h' l'/\∀ K:bg->am->Prop,K (look eH) l'->ki P G x (look s) l b K
 | [],s,h,l,eH,h',a,b,r,ak,af=>by cases af; exact⟨l,r,fun K aY=>aY⟩
 | x::xs,s,h,l,eH,h',a,b,r,ak,af=>by
  unfold E7 at af;split at af
  ·rename_i aq;split at af
   ·rename_i v h1 ag;obtain⟨l1,dW,ad,tj⟩:=Qt ah r ag;split at af
    ·rename_i c0;have tn:Ab P G (match x.cx with | true=>(x.i,I9 P G x.b s v h h1) ::a | false=>a) (sr x.cx x.i (mr P G x.b (look s) v l l1) b) :=by
      cases x.cx with
      | false=>exact ak
      | true=>
       refine .cons (fun ad b1 fu ay=>anv r dW fu ay (fun m hm aC=>ai8 aC (tj m hm))) ak
     obtain⟨l',ct,aj⟩:=OA ah xs _ h1 l1 eH h' _ _ dW tn af;refine⟨l',ct,fun K aY=>?_⟩;unfold ki;refine GD aq ?_;simp only[if_true];refine ad _ ⟨SS dW ak c0,?_⟩;rw[<-H8];exact aj K aY
    ·cases af
   ·cases af
  ·rename_i aq;obtain⟨l',ct,aj⟩:=OA ah xs _ h l eH h' a b r ak af;refine⟨l',ct,fun K aY=>?_⟩;unfold ki;refine GD aq ?_;simp only[Bool.false_eq_true,if_false];rw[<-H8];exact aj K aY
  ·cases af
theorem Kg {call:pf} (ah:Cg P G call) :∀ (fuel:Nat) (c:gg) (s:he) (h:aQ) (l:am) (e:sF) (eH:he) (h' : aQ),e3 h l->F2 P G call fuel c s h=some (e,eH,h')->
  ∃ l',e3 h' l'/\∀ K:hq,K e (look eH) l'->run P G c (look s) l K
 | 0,c,s,h,l,e,eH,h',r,af=>by cases af
 | k+1,c,s,h,l,e,eH,h',r,af=>by
  have aJ:=Kg ah k;unfold F2 SO at af;cases c with
  | skip=>cases af; exact⟨l,r,fun K aY=>aY⟩
  | ret=>cases af; exact⟨l,r,fun K aY=>aY⟩
  | exit id=>cases af; exact⟨l,r,fun K aY=>aY⟩
  | xE x=>
   simp only at af;split at af
   ·rename_i dR h1 az;cases af;obtain⟨l',ct,ad⟩:=OD ah x s h l eH h' r az;exact⟨l',ct,fun K aY=>ad _ aY⟩
   ·cases af
  | yi x=>
   simp only at af;split at af
   ·rename_i dR h1 az;cases af;obtain⟨l',ct,ad⟩:=OA ah x s h l eH h' [] [] r .nil az;exact⟨l',ct,fun K aY=>ad _ aY⟩
   ·cases af
  | seq a b=>
   simp only at af;split at af
   ·rename_i dR h1 aA;obtain⟨l1,dW,ad⟩:=aJ a s h l _ dR h1 r aA;obtain⟨l',ct,aj⟩:=aJ b dR h1 l1 e eH h' dW af;refine⟨l',ct,fun K aY=>?_⟩;unfold run;exact ad _ (aj K aY)
   ·rename_i bI;obtain⟨l',ct,ad⟩:=aJ a s h l e eH h' r af;refine⟨l',ct,fun K aY=>?_⟩;unfold run;refine ad _ ?_;unfold o2;cases e with
    | normal=>exact absurd af (bI _ _)
    | exit id=>exact aY
    | ret=>exact aY
  | cond c x y=>
   simp only at af;split at af
   ·rename_i jc;obtain⟨l',ct,ad⟩:=aJ x s h l e eH h' r af;refine⟨l',ct,fun K aY=>?_⟩;unfold run zg;rw[jc];exact ad K aY
   ·rename_i jc;obtain⟨l',ct,ad⟩:=aJ y s h l e eH h' r af;refine⟨l',ct,fun K aY=>?_⟩;unfold run zg;rw[jc];exact ad K aY
   ·cases af
  | block id c=>
   simp only at af;split at af
   ·rename_i tv dR h1 aA;obtain⟨l',ct,ad⟩:=aJ c s h l _ dR h1 r aA;split at af
    ·rename_i e1;cases af;refine⟨l',ct,fun K aY=>?_⟩;unfold run;refine ad _ ?_;unfold r3;simp only;rw[e1];exact aY
    ·rename_i e1;cases af;refine⟨l',ct,fun K aY=>?_⟩;unfold run;refine ad _ ?_;unfold r3;simp only;rw[e1];exact aY
   ·rename_i bI;obtain⟨l',ct,ad⟩:=aJ c s h l e eH h' r af;refine⟨l',ct,fun K aY=>?_⟩;unfold run;refine ad _ ?_;unfold r3;cases e with
    | normal=>exact aY
    | exit id=>exact absurd af (bI _ _ _)
    | ret=>exact aY
  | loop c=>
   simp only at af;split at af
   ·rename_i dR h1 aA;obtain⟨l1,dW,ad⟩:=aJ c s h l _ dR h1 r aA;obtain⟨l',ct,aj⟩:=aJ (.loop c) dR h1 l1 e eH h' dW af;refine⟨l',ct,fun K aY=>?_⟩;have aE:=aj K aY;unfold run at aE ⊢;obtain⟨n,aC⟩:=aE;exact⟨n+1,ad _ aC⟩
   ·rename_i bI;obtain⟨l',ct,ad⟩:=aJ c s h l e eH h' r af;refine⟨l',ct,fun K aY=>?_⟩;unfold run;refine⟨1,ad _ ?_⟩;unfold o2;cases e with
    | normal=>exact absurd af (bI _ _)
    | exit id=>exact aY
    | ret=>exact aY
def Cm (P:Program) (G:Nat->U) (orc:rq) :Prop:=∀ f n g args r,orc f=some (n,g)->g args=some r->bz P G f args r/\(n=true->jZ P G f args r)
def Cp (P:Program) (lM:vZ) :Prop:=∀ f c oz,lM f=some (c,oz)->wy P f=some c/\wz P f=some oz
theorem Ow (r:e3 h l) {s:he}:∀ {ms:List dy} {acc:List U} {v:U},E4 P G s h ms acc=some v->∀ K:U->am->Prop,K v l->o1 P G K (look s) l ms acc
 | [],acc,v,af,K,aY=>by cases af; exact aY
 | m::ms,acc,v,af,K,aY=>by
  unfold E4 at af;split at af
  ·rename_i x h1 hm;obtain⟨l1,ad,_⟩:=NG r hm;unfold o1;rw[Ac];exact⟨_,ad,Ow r af K aY⟩
  ·cases af
theorem Xk (args:List U) :look (BE 0 .nil args)=Af args:=by
 rw[Xl];funext t;unfold Af;by_cases aI:t<args.length
 ·rw[if_pos ⟨Nat.zero_le _,by omega⟩]; rfl
 ·rw[if_neg (by omega)];rw[List.getD_eq_getElem?_getD,List.getElem?_eq_none (by omega)]; rfl
theorem abV {orc:rq} (ap:Cm P G orc) {f:FuncId} {args:List U} {h:aQ} {l:am} {v:U} (r:e3 h l) (af:JW orc f args h=some v) (K:U->am->Prop) (aY:K v l) :c7 P G f args l (c:=⟨K⟩) :=by
 unfold JW at af;split at af
 ·rename_i n g aq;split at af
  ·rename_i iP aA;split at af
   ·rename_i aZ au;split at af
    ·rename_i aF;cases af;obtain⟨BC,pM⟩:=ap f n g iP v aq au;cases n with
     | true=>exact⟨v,l,.Oc (pM rfl) (tT aA) (fun j c c' ah ei=>(BP 20 c c' (tS aA j c c' ah ei)).rep r),Nat.le_refl _,aY⟩
     | false=>exact⟨v,l,.Ob BC (tT aA) (fun j c c' ah ei=>(BP 20 c c' (tS aA j c c' ah ei)).rep r) aF,Nat.le_refl _,aY⟩
    ·cases af
   ·cases af
  ·cases af
 ·cases af
theorem aiS (r:e3 h l) {z by_ i bv:Nat} {s v:U} {vs:List U} (af:Eg z by_ h s i bv vs=some (v,h')) :∃ l',e3 h' l'/\Eg z by_ (bW l) s i bv vs=some (v,bW l')/\l.length<=l'.length:=by
 unfold Eg at af ⊢;cases s<;>simp only at af<;>try (cases af; done)
 case aT=>
  split at af
  ·rename_i ah;cases af;refine⟨_,r.push _,?_,by simp⟩;simp only;rw[if_pos ah,lO,vU,r.n]
  ·cases af
 case ar nF b off len cap sz=>
  simp only;rw[<-r.f b];cases ag:h.f b<;>rw[ag] at af<;>(try simp only at af)<;>try (cases af; done)
  simp only;split at af
  ·rename_i ah;rw[if_pos ah];cases af;have al:=r.some ag (by simp);refine⟨_,(r.set al _).push _,?_,by simp⟩;rw[oK _ (eu al),lO,vU,r.n]
  ·cases af
theorem aiO (r:e3 h l) {z by_:Nat} {args:List U} {v:U} (af:tx z by_ args h=some (v,h')) :∃ l',e3 h' l'/\tx z by_ args (bW l)=some (v,bW l')/\l.length<=l'.length:=by
 unfold tx at af ⊢;split at af
 ·rename_i s x y;split at af
  ·rename_i i iM bv pM b1 dJ hl nq;rw[<-r.f bv];split at af
   ·rename_i kf vs iq
    try rw[iq]
    try simp only
    split at af
    ·rename_i ah
     try rw[if_pos ah]
     exact aiS r af
    ·cases af
   ·cases af
  ·cases af
 ·cases af
theorem Kc [rp P G] {orc:rq} {lM:vZ} (ap:Cm P G orc) (aI:Cp P lM) (fuel:Nat) :∀ k,Cg P G (CH P G orc lM fuel k)
 | 0=>fun f args h v h' l r af=>by cases af
 | k+1=>fun f args h v h' l r af=>by
  have aJ:=Kc ap aI fuel k;unfold CH SL at af;split at af
  ·rename_i z by_ aq;obtain⟨l',ct,h1,ad⟩:=aiO r af;exact⟨l',ct,fun K aY=>⟨v,l',.ext (rp.ok f z by_ aq args (bW l) v (bW l') h1),ad,aY⟩⟩
  split at af
  ·rename_i aZ au;cases af;exact⟨l,r,fun K aY=>abV ap r au K aY⟩
  ·split at af
   ·cases af
   ·rename_i c oz ail;obtain⟨px,ky⟩:=aI f c oz ail;split at af
    ·rename_i dR h1 hv;obtain⟨l1,dW,ad⟩:=Kg aJ fuel c _ h l _ dR h1 r hv;split at af
     ·rename_i aZ Bd;cases af;refine⟨l1,dW,fun K aY=>F0 px ky ?_⟩;rw[<-Xk];exact ad _ (Ow dW Bd K aY)
     ·cases af
    ·rename_i dR h1 hv;obtain⟨l1,dW,ad⟩:=Kg aJ fuel c _ h l _ dR h1 r hv;split at af
     ·rename_i aZ Bd;cases af;refine⟨l1,dW,fun K aY=>F0 px ky ?_⟩;rw[<-Xk];exact ad _ (Ow dW Bd K aY)
     ·cases af
    ·cases af
end
def Zm (P:Program) (G:Nat->U) [rp P G] (orc:rq) (lM:vZ) (fuel k:Nat) (f:FuncId) (args:List U) (r:U) :Bool:=
 match CH P G orc lM fuel k f args aQ.empty with
 | some (v,h)=>match vE h 20 v with
  | some aZ=>U.beq aZ r
  | none=>false
 | none=>false
theorem acz {P:Program} {G:Nat->U} [rp P G] {orc:rq} {lM:vZ} (ap:Cm P G orc) (aI:Cp P lM) {fuel k:Nat} {f:FuncId} {args:List U} {b:Bool} (af:Zm P G orc lM fuel k f args (.bool b)=true) :
  c7 P G f args [] (c:=⟨fun r _=>r=.bool b⟩) :=by
 unfold Zm at af;split at af
 ·rename_i v h ah;split at af
  ·rename_i aZ au;obtain⟨l',_,ad⟩:=Kc ap aI fuel k f args aQ.empty v h [] e3.nil ah;refine ad _ ?_;have:=U.beq_eq af;subst this;unfold vE at au
   repeat' split at au
   all_goals first | (cases au; done) | (cases au; rfl)
  ·cases af
 ·cases af
def rep (n:Nat) (c:U) :List U:=List.replicate n c
abbrev pY (i d x:Nat) :eJ:=⟨i,some d,none,.g5 (.gu (.tmp x)),[],false⟩
abbrev sc (i d:Nat) (f:FuncId) (args:List Operand) :eJ:=⟨i,some d,none,.m8 f args,[],false⟩
@[simp] theorem auV (n:Nat) (c:U) :(rep n c).length=n:=by simp[rep]
def p7 {α:Type} (p:Nat->α->Prop) :cR α->Prop
 | .nil=>True
 | .node l v r=>(∀ x,v=some x->p 0 x)/\p7 (fun m=>p (2*m+1)) l/\p7 (fun m=>p (2*m+2)) r
theorem JS {α:Type}:∀ (t:cR α) (p:Nat->α->Prop),p7 p t->∀ n x,t.get n=some x->p n x
 | .nil,p,h,n,x,af=>by cases af
 | .node l v r,p,h,n,x,af=>by
  obtain⟨h1,ad,aj⟩:=h;unfold cR.get at af;by_cases aD:n=0
  ·subst aD; exact h1 x af
  ·rw[kh aD] at af;simp only at af;by_cases ap:n % 2=1
   ·rw[tF ap] at af;have:=JS l _ ad _ x af;rw[show 2*(n / 2)+1=n by omega] at this; exact this
   ·rw[kh ap] at af;have:=JS r _ aj _ x af;rw[show 2*(n / 2 - 1)+2=n by omega] at this; exact this
theorem bj {α:Type} {p:Nat->α->Prop}:p7 p .nil:=trivial
theorem dI {α:Type} {p:Nat->α->Prop} {l r:cR α} (h1:p7 (fun m=>p (2*m+1)) l) (ad:p7 (fun m=>p (2*m+2)) r) :p7 p (.node l none r) :=⟨fun x h=>(by cases h),h1,ad⟩
theorem bX {α:Type} {p:Nat->α->Prop} {l r:cR α} {x:α} (af:p 0 x) (h1:p7 (fun m=>p (2*m+1)) l) (ad:p7 (fun m=>p (2*m+2)) r) :p7 p (.node l (some x) r) :=⟨fun y h=>(by cases h; exact af),h1,ad⟩
abbrev FF (P:Program) (f:Nat) (x:gg × List dy) :Prop:=wy P f=some x.1/\wz P f=some x.2
theorem anO {P:Program} {t:cR (gg × List dy)} (h:p7 (FF P) t) :Cp P (fun f=>t.get f) :=fun f c oz af=>JS t _ h f (c,oz) af
def u {w:Nat} (a:BitVec w) :Int:=(a.toNat:Int)
@[simp] theorem m0 {w:Nat} (a:BitVec w) :BitVec.ofInt w (u a)=a:=by
 unfold u;rw[BitVec.ofInt_natCast,BitVec.ofNat_toNat,BitVec.setWidth_eq]
@[simp] theorem sw {w:Nat} (a b:BitVec w) :(u a=u b)<->a=b:=⟨fun h=>BitVec.eq_of_toNat_eq (by unfold u at h; exact Int.ofNat_inj.1 h),fun h=>by rw[h]⟩
@[simp] theorem avx {w:Nat} (a b:BitVec w) :(u a<u b)<->a<b:=by unfold u; rw[Int.ofNat_lt]; rfl
@[simp] theorem avw {w:Nat} (a b:BitVec w) :(u a<=u b)<->a<=b:=by unfold u; rw[Int.ofNat_le]; rfl
@[simp] theorem avy {w:Nat} (a:BitVec w) :0<=u a:=Int.natCast_nonneg _
@[simp] theorem avz {w:Nat} (a:BitVec w) :(u a).toNat=a.toNat:=Int.toNat_natCast _
theorem avv {w:Nat} (a:BitVec w) :u a<2 ^ w:=by
 have:=a.isLt;unfold u
 exact_mod_cast this
@[simp] theorem auM {w:Nat} (a b:Int) :BitVec.ofInt w (a - b)=BitVec.ofInt w a - BitVec.ofInt w b:=by
 rw[Int.sub_eq_add_neg,BitVec.ofInt_add,BitVec.ofInt_neg,BitVec.sub_eq_add_neg]
attribute [simp] BitVec.ofInt_add BitVec.ofInt_mul
theorem q3 {w:Nat} (v:Nat) (a:BitVec w) :BitVec.ofInt v (u a)=a.setWidth v:=by
 unfold u;rw[BitVec.ofInt_natCast,BitVec.ofNat_toNat]
section
abbrev bF (a:BitVec 8) :U:=.int .u8 (u a)
@[simp] theorem Fy (n:Int) :IntKind.u8.wrap n=u (BitVec.ofInt 8 n) :=by
 have aR:(2 ^ IntKind.u8.bits:Int)=256:=by decide
 have dF:IntKind.u8.signed=false:=rfl;simp only[IntKind.wrap,aR,dF,Bool.false_and,Bool.false_eq_true,if_false,u,BitVec.toNat_ofInt];have:(2 ^ 8:Nat)=256:=by decide
 rw[this];omega
@[simp] theorem avG (a:Int) :rg .xor (.int .u8 a)=some (.int .u8 (u (~~~(BitVec.ofInt 8 a)))) :=by
 show some (U.int .u8 (IntKind.u8.wrap (u (BitVec.ofInt 8 (255:Int) ^^^ BitVec.ofInt 8 a))))=_;rw[Fy,m0];have:BitVec.ofInt 8 (255:Int)=BitVec.allOnes 8:=by decide
 rw[this,BitVec.allOnes_xor]
theorem acn (a:BitVec 8) (k' : IntKind) (n:Nat) :cD .shl .u8 (u a) k' (n:Int)=some (.int .u8 (u (a <<< n))) :=by
 have aD:¬((n:Int)<0) :=by omega
 show (if (n:Int)<0 then none else some (U.int .u8 (IntKind.u8.wrap ((a.toNat:Int)*2 ^ min (n:Int).toNat 8))))=_;rw[if_neg aD];congr 2;rw[Fy,Int.toNat_natCast];unfold u;congr 1;have:((a.toNat:Int)*2 ^ min n 8)=((a.toNat*2 ^ min n 8:Nat) :Int) :=by rw[Int.natCast_mul,Int.natCast_pow]; rfl
 rw[this,BitVec.ofInt_natCast,BitVec.toNat_ofNat,BitVec.toNat_shiftLeft,Nat.shiftLeft_eq];rcases Nat.lt_or_ge n 8 with h | h
 ·rw[Nat.min_eq_left (Nat.le_of_lt h)]
 ·rw[Nat.min_eq_right h];have h1:a.toNat*2 ^ 8 % 2 ^ 8=0:=Nat.mul_mod_left _ _;obtain⟨m,rfl⟩:=Nat.exists_eq_add_of_le h;rw[h1,Nat.pow_add,Nat.mul_left_comm,Nat.mul_mod_right]
theorem acq (a:BitVec 8) (k' : IntKind) (n:Nat) :cD .shr .u8 (u a) k' (n:Int)=some (.int .u8 (u (a >>> n))) :=by
 have aD:¬((n:Int)<0) :=by omega
 show (if (n:Int)<0 then none else some (U.int .u8 ((a.toNat:Int).fdiv (2 ^ min (n:Int).toNat 8))))=_;rw[if_neg aD];congr 2;rw[Int.toNat_natCast];unfold u;have:((2:Int) ^ min n 8)=((2 ^ min n 8:Nat) :Int) :=by rw[Int.natCast_pow]; rfl
 rw[this,Int.fdiv_eq_ediv_of_nonneg _ (Int.natCast_nonneg _),<-Int.natCast_ediv,BitVec.toNat_ushiftRight,Nat.shiftRight_eq_div_pow];congr 1;rcases Nat.lt_or_ge n 8 with h | h
 ·rw[Nat.min_eq_left (Nat.le_of_lt h)]
 ·rw[Nat.min_eq_right h,Nat.div_eq_of_lt a.isLt,Nat.div_eq_of_lt (Nat.lt_of_lt_of_le a.isLt (Nat.pow_le_pow_right (by omega) h))]
@[simp] theorem aqe (a:BitVec 8) (k' : IntKind) (n:Int) (h:0<=n) :cD .shl .u8 (u a) k' n=some (.int .u8 (u (a <<< n.toNat))) :=by
 obtain⟨m,rfl⟩:=Int.eq_ofNat_of_zero_le h;exact acn a k' m
@[simp] theorem aqi (a:BitVec 8) (k' : IntKind) (n:Int) (h:0<=n) :cD .shr .u8 (u a) k' n=some (.int .u8 (u (a >>> n.toNat))) :=by
 obtain⟨m,rfl⟩:=Int.eq_ofNat_of_zero_le h;exact acq a k' m
@[simp] theorem aqa (a b:BitVec 8) (h:b≠0#8) :cD .rem .u8 (u a) .u8 (u b)=some (.int .u8 (u (a % b))) :=by
 have ag:(b.toNat:Int)≠0:=fun e=>h (BitVec.eq_of_toNat_eq (by simpa using e))
 show (if IntKind.u8=IntKind.u8/\(b.toNat:Int)≠0 then some (U.int .u8 ((a.toNat:Int).tmod b.toNat)) else none)=_;rw[if_pos ⟨rfl,ag⟩];unfold u;rw[BitVec.toNat_umod];rfl
@[simp] theorem aqq (a b:Int) :cD .xor .u8 a .u8 b=some (.int .u8 (u (BitVec.ofInt 8 a ^^^ BitVec.ofInt 8 b))) :=by
 show some (U.int .u8 (IntKind.u8.wrap (u (BitVec.ofInt 8 a ^^^ BitVec.ofInt 8 b))))=_;rw[Fy,m0]
@[simp] theorem ap8 (a b:Int) :cD .or .u8 a .u8 b=some (.int .u8 (u (BitVec.ofInt 8 a ||| BitVec.ofInt 8 b))) :=by
 show some (U.int .u8 (IntKind.u8.wrap (u (BitVec.ofInt 8 a ||| BitVec.ofInt 8 b))))=_;rw[Fy,m0]
@[simp] theorem apR (a b:Int) :cD .and .u8 a .u8 b=some (.int .u8 (u (BitVec.ofInt 8 a &&& BitVec.ofInt 8 b))) :=by
 show some (U.int .u8 (IntKind.u8.wrap (u (BitVec.ofInt 8 a &&& BitVec.ofInt 8 b))))=_;rw[Fy,m0]
end

section
abbrev Gc (a:BitVec 16) :U:=.int .u16 (u a)
@[simp] theorem Fx (n:Int) :IntKind.u16.wrap n=u (BitVec.ofInt 16 n) :=by
 have aR:(2 ^ IntKind.u16.bits:Int)=65536:=by decide
 have dF:IntKind.u16.signed=false:=rfl;simp only[IntKind.wrap,aR,dF,Bool.false_and,Bool.false_eq_true,if_false,u,BitVec.toNat_ofInt];have:(2 ^ 16:Nat)=65536:=by decide
 rw[this];omega
@[simp] theorem avD (a:Int) :rg .xor (.int .u16 a)=some (.int .u16 (u (~~~(BitVec.ofInt 16 a)))) :=by
 show some (U.int .u16 (IntKind.u16.wrap (u (BitVec.ofInt 16 (65535:Int) ^^^ BitVec.ofInt 16 a))))=_;rw[Fx,m0];have:BitVec.ofInt 16 (65535:Int)=BitVec.allOnes 16:=by decide
 rw[this,BitVec.allOnes_xor]
theorem acl (a:BitVec 16) (k' : IntKind) (n:Nat) :cD .shl .u16 (u a) k' (n:Int)=some (.int .u16 (u (a <<< n))) :=by
 have aD:¬((n:Int)<0) :=by omega
 show (if (n:Int)<0 then none else some (U.int .u16 (IntKind.u16.wrap ((a.toNat:Int)*2 ^ min (n:Int).toNat 16))))=_;rw[if_neg aD];congr 2;rw[Fx,Int.toNat_natCast];unfold u;congr 1;have:((a.toNat:Int)*2 ^ min n 16)=((a.toNat*2 ^ min n 16:Nat) :Int) :=by rw[Int.natCast_mul,Int.natCast_pow]; rfl
 rw[this,BitVec.ofInt_natCast,BitVec.toNat_ofNat,BitVec.toNat_shiftLeft,Nat.shiftLeft_eq];rcases Nat.lt_or_ge n 16 with h | h
 ·rw[Nat.min_eq_left (Nat.le_of_lt h)]
 ·rw[Nat.min_eq_right h];have h1:a.toNat*2 ^ 16 % 2 ^ 16=0:=Nat.mul_mod_left _ _;obtain⟨m,rfl⟩:=Nat.exists_eq_add_of_le h;rw[h1,Nat.pow_add,Nat.mul_left_comm,Nat.mul_mod_right]
theorem aco (a:BitVec 16) (k' : IntKind) (n:Nat) :cD .shr .u16 (u a) k' (n:Int)=some (.int .u16 (u (a >>> n))) :=by
 have aD:¬((n:Int)<0) :=by omega
 show (if (n:Int)<0 then none else some (U.int .u16 ((a.toNat:Int).fdiv (2 ^ min (n:Int).toNat 16))))=_;rw[if_neg aD];congr 2;rw[Int.toNat_natCast];unfold u;have:((2:Int) ^ min n 16)=((2 ^ min n 16:Nat) :Int) :=by rw[Int.natCast_pow]; rfl
 rw[this,Int.fdiv_eq_ediv_of_nonneg _ (Int.natCast_nonneg _),<-Int.natCast_ediv,BitVec.toNat_ushiftRight,Nat.shiftRight_eq_div_pow];congr 1;rcases Nat.lt_or_ge n 16 with h | h
 ·rw[Nat.min_eq_left (Nat.le_of_lt h)]
 ·rw[Nat.min_eq_right h,Nat.div_eq_of_lt a.isLt,Nat.div_eq_of_lt (Nat.lt_of_lt_of_le a.isLt (Nat.pow_le_pow_right (by omega) h))]
@[simp] theorem aqb (a:BitVec 16) (k' : IntKind) (n:Int) (h:0<=n) :cD .shl .u16 (u a) k' n=some (.int .u16 (u (a <<< n.toNat))) :=by
 obtain⟨m,rfl⟩:=Int.eq_ofNat_of_zero_le h;exact acl a k' m
@[simp] theorem aqf (a:BitVec 16) (k' : IntKind) (n:Int) (h:0<=n) :cD .shr .u16 (u a) k' n=some (.int .u16 (u (a >>> n.toNat))) :=by
 obtain⟨m,rfl⟩:=Int.eq_ofNat_of_zero_le h;exact aco a k' m
@[simp] theorem ap9 (a b:BitVec 16) (h:b≠0#16) :cD .rem .u16 (u a) .u16 (u b)=some (.int .u16 (u (a % b))) :=by
 have ag:(b.toNat:Int)≠0:=fun e=>h (BitVec.eq_of_toNat_eq (by simpa using e))
 show (if IntKind.u16=IntKind.u16/\(b.toNat:Int)≠0 then some (U.int .u16 ((a.toNat:Int).tmod b.toNat)) else none)=_;rw[if_pos ⟨rfl,ag⟩];unfold u;rw[BitVec.toNat_umod];rfl
@[simp] theorem aqn (a b:Int) :cD .xor .u16 a .u16 b=some (.int .u16 (u (BitVec.ofInt 16 a ^^^ BitVec.ofInt 16 b))) :=by
 show some (U.int .u16 (IntKind.u16.wrap (u (BitVec.ofInt 16 a ^^^ BitVec.ofInt 16 b))))=_;rw[Fx,m0]
@[simp] theorem ap5 (a b:Int) :cD .or .u16 a .u16 b=some (.int .u16 (u (BitVec.ofInt 16 a ||| BitVec.ofInt 16 b))) :=by
 show some (U.int .u16 (IntKind.u16.wrap (u (BitVec.ofInt 16 a ||| BitVec.ofInt 16 b))))=_;rw[Fx,m0]
@[simp] theorem apP (a b:Int) :cD .and .u16 a .u16 b=some (.int .u16 (u (BitVec.ofInt 16 a &&& BitVec.ofInt 16 b))) :=by
 show some (U.int .u16 (IntKind.u16.wrap (u (BitVec.ofInt 16 a &&& BitVec.ofInt 16 b))))=_;rw[Fx,m0]
end

section
abbrev bD (a:BitVec 32) :U:=.int .u32 (u a)
@[simp] theorem B8 (n:Int) :IntKind.u32.wrap n=u (BitVec.ofInt 32 n) :=by
 have aR:(2 ^ IntKind.u32.bits:Int)=4294967296:=by decide
 have dF:IntKind.u32.signed=false:=rfl;simp only[IntKind.wrap,aR,dF,Bool.false_and,Bool.false_eq_true,if_false,u,BitVec.toNat_ofInt];have:(2 ^ 32:Nat)=4294967296:=by decide
 rw[this];omega
@[simp] theorem avE (a:Int) :rg .xor (.int .u32 a)=some (.int .u32 (u (~~~(BitVec.ofInt 32 a)))) :=by
 show some (U.int .u32 (IntKind.u32.wrap (u (BitVec.ofInt 32 (4294967295:Int) ^^^ BitVec.ofInt 32 a))))=_;rw[B8,m0];have:BitVec.ofInt 32 (4294967295:Int)=BitVec.allOnes 32:=by decide
 rw[this,BitVec.allOnes_xor]
theorem acm (a:BitVec 32) (k' : IntKind) (n:Nat) :cD .shl .u32 (u a) k' (n:Int)=some (.int .u32 (u (a <<< n))) :=by
 have aD:¬((n:Int)<0) :=by omega
 show (if (n:Int)<0 then none else some (U.int .u32 (IntKind.u32.wrap ((a.toNat:Int)*2 ^ min (n:Int).toNat 32))))=_;rw[if_neg aD];congr 2;rw[B8,Int.toNat_natCast];unfold u;congr 1;have:((a.toNat:Int)*2 ^ min n 32)=((a.toNat*2 ^ min n 32:Nat) :Int) :=by rw[Int.natCast_mul,Int.natCast_pow]; rfl
 rw[this,BitVec.ofInt_natCast,BitVec.toNat_ofNat,BitVec.toNat_shiftLeft,Nat.shiftLeft_eq];rcases Nat.lt_or_ge n 32 with h | h
 ·rw[Nat.min_eq_left (Nat.le_of_lt h)]
 ·rw[Nat.min_eq_right h];have h1:a.toNat*2 ^ 32 % 2 ^ 32=0:=Nat.mul_mod_left _ _;obtain⟨m,rfl⟩:=Nat.exists_eq_add_of_le h;rw[h1,Nat.pow_add,Nat.mul_left_comm,Nat.mul_mod_right]
theorem acp (a:BitVec 32) (k' : IntKind) (n:Nat) :cD .shr .u32 (u a) k' (n:Int)=some (.int .u32 (u (a >>> n))) :=by
 have aD:¬((n:Int)<0) :=by omega
 show (if (n:Int)<0 then none else some (U.int .u32 ((a.toNat:Int).fdiv (2 ^ min (n:Int).toNat 32))))=_;rw[if_neg aD];congr 2;rw[Int.toNat_natCast];unfold u;have:((2:Int) ^ min n 32)=((2 ^ min n 32:Nat) :Int) :=by rw[Int.natCast_pow]; rfl
 rw[this,Int.fdiv_eq_ediv_of_nonneg _ (Int.natCast_nonneg _),<-Int.natCast_ediv,BitVec.toNat_ushiftRight,Nat.shiftRight_eq_div_pow];congr 1;rcases Nat.lt_or_ge n 32 with h | h
 ·rw[Nat.min_eq_left (Nat.le_of_lt h)]
 ·rw[Nat.min_eq_right h,Nat.div_eq_of_lt a.isLt,Nat.div_eq_of_lt (Nat.lt_of_lt_of_le a.isLt (Nat.pow_le_pow_right (by omega) h))]
@[simp] theorem aqc (a:BitVec 32) (k' : IntKind) (n:Int) (h:0<=n) :cD .shl .u32 (u a) k' n=some (.int .u32 (u (a <<< n.toNat))) :=by
 obtain⟨m,rfl⟩:=Int.eq_ofNat_of_zero_le h;exact acm a k' m
@[simp] theorem aqg (a:BitVec 32) (k' : IntKind) (n:Int) (h:0<=n) :cD .shr .u32 (u a) k' n=some (.int .u32 (u (a >>> n.toNat))) :=by
 obtain⟨m,rfl⟩:=Int.eq_ofNat_of_zero_le h;exact acp a k' m
@[simp] theorem acj (a b:BitVec 32) (h:b≠0#32) :cD .rem .u32 (u a) .u32 (u b)=some (.int .u32 (u (a % b))) :=by
 have ag:(b.toNat:Int)≠0:=fun e=>h (BitVec.eq_of_toNat_eq (by simpa using e))
 show (if IntKind.u32=IntKind.u32/\(b.toNat:Int)≠0 then some (U.int .u32 ((a.toNat:Int).tmod b.toNat)) else none)=_;rw[if_pos ⟨rfl,ag⟩];unfold u;rw[BitVec.toNat_umod];rfl
@[simp] theorem aqo (a b:Int) :cD .xor .u32 a .u32 b=some (.int .u32 (u (BitVec.ofInt 32 a ^^^ BitVec.ofInt 32 b))) :=by
 show some (U.int .u32 (IntKind.u32.wrap (u (BitVec.ofInt 32 a ^^^ BitVec.ofInt 32 b))))=_;rw[B8,m0]
@[simp] theorem ap6 (a b:Int) :cD .or .u32 a .u32 b=some (.int .u32 (u (BitVec.ofInt 32 a ||| BitVec.ofInt 32 b))) :=by
 show some (U.int .u32 (IntKind.u32.wrap (u (BitVec.ofInt 32 a ||| BitVec.ofInt 32 b))))=_;rw[B8,m0]
@[simp] theorem apQ (a b:Int) :cD .and .u32 a .u32 b=some (.int .u32 (u (BitVec.ofInt 32 a &&& BitVec.ofInt 32 b))) :=by
 show some (U.int .u32 (IntKind.u32.wrap (u (BitVec.ofInt 32 a &&& BitVec.ofInt 32 b))))=_;rw[B8,m0]
end

section
abbrev dq (a:BitVec 64) :U:=.int .u64 (u a)
@[simp] theorem vR (n:Int) :IntKind.u64.wrap n=u (BitVec.ofInt 64 n) :=by
 have aR:(2 ^ IntKind.u64.bits:Int)=18446744073709551616:=by decide
 have dF:IntKind.u64.signed=false:=rfl;simp only[IntKind.wrap,aR,dF,Bool.false_and,Bool.false_eq_true,if_false,u,BitVec.toNat_ofInt];have:(2 ^ 64:Nat)=18446744073709551616:=by decide
 rw[this];omega
@[simp] theorem avF (a:Int) :rg .xor (.int .u64 a)=some (.int .u64 (u (~~~(BitVec.ofInt 64 a)))) :=by
 show some (U.int .u64 (IntKind.u64.wrap (u (BitVec.ofInt 64 (18446744073709551615:Int) ^^^ BitVec.ofInt 64 a))))=_;rw[vR,m0];have:BitVec.ofInt 64 (18446744073709551615:Int)=BitVec.allOnes 64:=by decide
 rw[this,BitVec.allOnes_xor]
theorem QE (a:BitVec 64) (k' : IntKind) (n:Nat) :cD .shl .u64 (u a) k' (n:Int)=some (.int .u64 (u (a <<< n))) :=by
 have aD:¬((n:Int)<0) :=by omega
 show (if (n:Int)<0 then none else some (U.int .u64 (IntKind.u64.wrap ((a.toNat:Int)*2 ^ min (n:Int).toNat 64))))=_;rw[if_neg aD];congr 2;rw[vR,Int.toNat_natCast];unfold u;congr 1;have:((a.toNat:Int)*2 ^ min n 64)=((a.toNat*2 ^ min n 64:Nat) :Int) :=by rw[Int.natCast_mul,Int.natCast_pow]; rfl
 rw[this,BitVec.ofInt_natCast,BitVec.toNat_ofNat,BitVec.toNat_shiftLeft,Nat.shiftLeft_eq];rcases Nat.lt_or_ge n 64 with h | h
 ·rw[Nat.min_eq_left (Nat.le_of_lt h)]
 ·rw[Nat.min_eq_right h];have h1:a.toNat*2 ^ 64 % 2 ^ 64=0:=Nat.mul_mod_left _ _;obtain⟨m,rfl⟩:=Nat.exists_eq_add_of_le h;rw[h1,Nat.pow_add,Nat.mul_left_comm,Nat.mul_mod_right]
theorem uA (a:BitVec 64) (k' : IntKind) (n:Nat) :cD .shr .u64 (u a) k' (n:Int)=some (.int .u64 (u (a >>> n))) :=by
 have aD:¬((n:Int)<0) :=by omega
 show (if (n:Int)<0 then none else some (U.int .u64 ((a.toNat:Int).fdiv (2 ^ min (n:Int).toNat 64))))=_;rw[if_neg aD];congr 2;rw[Int.toNat_natCast];unfold u;have:((2:Int) ^ min n 64)=((2 ^ min n 64:Nat) :Int) :=by rw[Int.natCast_pow]; rfl
 rw[this,Int.fdiv_eq_ediv_of_nonneg _ (Int.natCast_nonneg _),<-Int.natCast_ediv,BitVec.toNat_ushiftRight,Nat.shiftRight_eq_div_pow];congr 1;rcases Nat.lt_or_ge n 64 with h | h
 ·rw[Nat.min_eq_left (Nat.le_of_lt h)]
 ·rw[Nat.min_eq_right h,Nat.div_eq_of_lt a.isLt,Nat.div_eq_of_lt (Nat.lt_of_lt_of_le a.isLt (Nat.pow_le_pow_right (by omega) h))]
@[simp] theorem aqd (a:BitVec 64) (k' : IntKind) (n:Int) (h:0<=n) :cD .shl .u64 (u a) k' n=some (.int .u64 (u (a <<< n.toNat))) :=by
 obtain⟨m,rfl⟩:=Int.eq_ofNat_of_zero_le h;exact QE a k' m
@[simp] theorem aqh (a:BitVec 64) (k' : IntKind) (n:Int) (h:0<=n) :cD .shr .u64 (u a) k' n=some (.int .u64 (u (a >>> n.toNat))) :=by
 obtain⟨m,rfl⟩:=Int.eq_ofNat_of_zero_le h;exact uA a k' m
@[simp] theorem Ai (a b:BitVec 64) (h:b≠0#64) :cD .rem .u64 (u a) .u64 (u b)=some (.int .u64 (u (a % b))) :=by
 have ag:(b.toNat:Int)≠0:=fun e=>h (BitVec.eq_of_toNat_eq (by simpa using e))
 show (if IntKind.u64=IntKind.u64/\(b.toNat:Int)≠0 then some (U.int .u64 ((a.toNat:Int).tmod b.toNat)) else none)=_;rw[if_pos ⟨rfl,ag⟩];unfold u;rw[BitVec.toNat_umod];rfl
@[simp] theorem aqp (a b:Int) :cD .xor .u64 a .u64 b=some (.int .u64 (u (BitVec.ofInt 64 a ^^^ BitVec.ofInt 64 b))) :=by
 show some (U.int .u64 (IntKind.u64.wrap (u (BitVec.ofInt 64 a ^^^ BitVec.ofInt 64 b))))=_;rw[vR,m0]
@[simp] theorem ap7 (a b:Int) :cD .or .u64 a .u64 b=some (.int .u64 (u (BitVec.ofInt 64 a ||| BitVec.ofInt 64 b))) :=by
 show some (U.int .u64 (IntKind.u64.wrap (u (BitVec.ofInt 64 a ||| BitVec.ofInt 64 b))))=_;rw[vR,m0]
@[simp] theorem Qr (a b:Int) :cD .and .u64 a .u64 b=some (.int .u64 (u (BitVec.ofInt 64 a &&& BitVec.ofInt 64 b))) :=by
 show some (U.int .u64 (IntKind.u64.wrap (u (BitVec.ofInt 64 a &&& BitVec.ofInt 64 b))))=_;rw[vR,m0]
end
@[simp] theorem aqX (a:BitVec 8) :BitVec.ofInt 16 (u a)=a.setWidth 16:=q3 16 a
@[simp] theorem aqY (a:BitVec 8) :BitVec.ofInt 32 (u a)=a.setWidth 32:=q3 32 a
@[simp] theorem aqZ (a:BitVec 8) :BitVec.ofInt 64 (u a)=a.setWidth 64:=q3 64 a
@[simp] theorem aqQ (a:BitVec 16) :BitVec.ofInt 8 (u a)=a.setWidth 8:=q3 8 a
@[simp] theorem aqO (a:BitVec 16) :BitVec.ofInt 32 (u a)=a.setWidth 32:=q3 32 a
@[simp] theorem aqP (a:BitVec 16) :BitVec.ofInt 64 (u a)=a.setWidth 64:=q3 64 a
@[simp] theorem aqT (a:BitVec 32) :BitVec.ofInt 8 (u a)=a.setWidth 8:=q3 8 a
@[simp] theorem aqR (a:BitVec 32) :BitVec.ofInt 16 (u a)=a.setWidth 16:=q3 16 a
@[simp] theorem aqS (a:BitVec 32) :BitVec.ofInt 64 (u a)=a.setWidth 64:=q3 64 a
@[simp] theorem aqW (a:BitVec 64) :BitVec.ofInt 8 (u a)=a.setWidth 8:=q3 8 a
@[simp] theorem aqU (a:BitVec 64) :BitVec.ofInt 16 (u a)=a.setWidth 16:=q3 16 a
@[simp] theorem aqV (a:BitVec 64) :BitVec.ofInt 32 (u a)=a.setWidth 32:=q3 32 a
@[simp] theorem avA {w:Nat}:u (0#w)=0:=by simp[u]
theorem J7 (k:Nat) (c:Int) (ah:0<c) (hk:k<9223372036854775808) :cD .quo .i64 (k:Int) .i64 c=some (.int .i64 ((k / c.toNat:Nat) :Int)) :=by
 obtain⟨m,rfl⟩:=Int.eq_ofNat_of_zero_le (Int.le_of_lt ah);have hm:(m:Int)≠0:=by omega
 show (if IntKind.i64=IntKind.i64/\(m:Int)≠0 then some (U.int .i64 (IntKind.i64.wrap ((k:Int).tdiv m))) else none)=_;rw[if_pos ⟨rfl,hm⟩,Int.toNat_natCast];have:((k:Int).tdiv m)=((k / m:Nat) :Int) :=rfl;have ad:=Nat.div_le_self k m;rw[this];generalize k / m=q at ad;rw[wrap_i64 (by omega) (by omega)]
theorem CA (k:Nat) (c:Int) (ah:0<c) :cD .rem .i64 (k:Int) .i64 c=some (.int .i64 ((k % c.toNat:Nat) :Int)) :=by
 obtain⟨m,rfl⟩:=Int.eq_ofNat_of_zero_le (Int.le_of_lt ah);have hm:(m:Int)≠0:=by omega
 show (if IntKind.i64=IntKind.i64/\(m:Int)≠0 then some (U.int .i64 ((k:Int).tmod m)) else none)=_;rw[if_pos ⟨rfl,hm⟩,Int.toNat_natCast];rfl
theorem Y4 (k:IntKind) (w n:Nat) :rep n (.int k 0)=(List.replicate n (0#w)).map fun x=>.int k (u x) :=by
 simp[rep]
theorem pa {α:Type} (f:α->U) (l:List α) (i:Nat) (x:α) (h:i<l.length) :bt (l.map f) i [f x]=(l.set i x).map f:=by
 unfold bt;rw[List.set_eq_take_append_cons_drop,if_pos h];simp
theorem oD {cs vs:List U} (h:vs.length=cs.length) :bt cs 0 vs=vs:=by
 unfold bt;rw[Nat.zero_add,List.take_zero,List.nil_append,h,List.drop_length,List.append_nil]
theorem aL {l:am} {c c' : U} (h:c=c') (ah:c'.closed=true) :Rd l c c':=by subst h; exact .same _ ah
theorem AD {α:Type} {z:Nat}:∀ (es:List (List α)),(∀ e∈es,e.length=z)->∀ (i j:Nat) (e:List α) (c:α),es[i]? = some e->e[j]? = some c->es.flatten[i*z+j]? = some c:=by
 intro es aw
 induction es with
 | nil=>intro i j e c ao; simp at ao
 | cons x es aJ=>
  intro i j e c ao ai;have af:x.length=z:=aw x (by simp);cases i with
  | zero=>
   simp only[List.getElem?_cons_zero,Option.some.injEq] at ao;subst ao;rw[List.flatten_cons,Nat.zero_mul,Nat.zero_add,List.getElem?_append_left (List.getElem?_eq_some_iff.1 ai).1];exact ai
  | succ i=>
   simp only[List.getElem?_cons_succ] at ao;rw[List.flatten_cons,List.getElem?_append_right (by rw[af,Nat.succ_mul]; omega),af,show (i+1)*z+j - z=i*z+j by rw[Nat.succ_mul]; omega];exact aJ (fun e ao=>aw e (by simp[ao])) i j e c ao ai
inductive ur (l:am) :List U->List U->Prop
 | nil:ur l [] []
 | cons {c c' cs cs'}:gh (bW l) c c'->ur l cs cs'->ur l (c::cs) (c'::cs')
theorem ur.len {l:am}:∀ {a b:List U},ur l a b->b.length=a.length
 | _,_,.nil=>rfl
 | _,_,.cons _ h=>by simp[h.len]
theorem ur.get {l:am}:∀ {a b:List U},ur l a b->∀ (j:Nat) (c c' : U),a[j]? = some c->b[j]? = some c'->gh (bW l) c c'
 | _,_,.nil,j,c,c',h,_=>by simp at h
 | _,_,.cons h1 ad,j,c,c',h,h'=>by
  cases j with
  | zero=>simp at h h'; subst h h'; exact h1
  | succ j=>exact ad.get j c c' (by simpa using h) (by simpa using h')
theorem iB {P:Program} {G:Nat->U} {f:FuncId} {args iP:List U} {r:U} {l:am} {K:U->am->Prop} (ay:bz P G f iP r) (az:ur l args iP) (aF:r.flat=true) (h:K r l) :c7 P G f args l (c:=⟨K⟩) :=
 ⟨r,l,.Ob ay az.len az.get aF,Nat.le_refl _,h⟩
theorem Yq {P:Program} {G:Nat->U} {f:FuncId} {args iP:List U} {r:U} {l:am} {K:U->am->Prop} (ay:jZ P G f iP r) (az:ur l args iP) (h:K r l) :c7 P G f args l (c:=⟨K⟩) :=
 ⟨r,l,.Oc ay az.len az.get,Nat.le_refl _,h⟩
inductive kM (l:am) :U->U->Prop
 | flat (c:U) (h:c.flat=true) :kM l c c
 | aH (cs cs' : List U) (al:cs'.length=cs.length) (h:∀ (j:Nat) (c c' : U),cs[j]? = some c->cs'[j]? = some c'->kM l c c') :kM l (.aH cs) (.aH cs')
 | bG (cs cs' : List U) (al:cs'.length=cs.length) (h:∀ (j:Nat) (c c' : U),cs[j]? = some c->cs'[j]? = some c'->kM l c c') :kM l (.bG cs) (.bG cs')
 | ar (z b off len cap sz:Nat) (cs:List U) (es:List (List U)) (ag:l[b]? = some (.cells sz cs)) (al:es.length=len) (aw:∀ e∈es,e.length=z)
   (ec:off+len*z<=cs.length)
   (h:∀ (i j:Nat) (e:List U) (c c' : U),es[i]? = some e->e[j]? = some c'->cs[off+(i*z+j)]? = some c->kM l c c') :kM l (.ar z b off len cap sz) (.bQ z es)
 | su (z b off cap sz:Nat) :kM l (.ar z b off 0 cap sz) (.bQ z [])
 | fY (z:Nat) :kM l (.bQ z []) (.bQ z [])
theorem alZ {w:World} {R:Nat->Prop} {B:Nat} {l:am} {μ:cX} (rel:cc R B w (bW l) μ) :∀ {c c' : U},kM l c c'->∀ {v:Value},aS w R (bW l) μ c v->fP w (fun k=>B<=k) c' v:=by
 intro c c' az
 induction az with
 | flat c h=>intro v au; exact TQ au h
 | aH cs cs' al h aJ=>
  intro v au;cases au with
  | aH _ vs gC h1 au=>
   refine .aH cs' vs (by omega) h1 (fun j c' v ai fK=>?_);have aM:j<cs.length:=by rw[<-al]; exact (List.getElem?_eq_some_iff.1 ai).1
   exact aJ j cs[j] c' (List.getElem?_eq_getElem aM) ai (au j cs[j] v (List.getElem?_eq_getElem aM) fK)
 | bG cs cs' al h aJ=>
  intro v au;cases au with
  | bG _ vs gC au=>
   refine .bG cs' vs (by omega) (fun j c' v ai fK=>?_);have aM:j<cs.length:=by rw[<-al]; exact (List.getElem?_eq_some_iff.1 ai).1
   exact aJ j cs[j] c' (List.getElem?_eq_getElem aM) ai (au j cs[j] v (List.getElem?_eq_getElem aM) fK)
 | su z b off cap sz=>
  intro v au;cases au with
  | ar _ _ _ _ _ _ cap' cs m ag hm al ap ah=>exact .fY z _ cap'
  | gR _ _ _ _ _ _ cap' a al ah aq=>exact .fY z _ cap'
  | ig _ _ _ _ a cs m ag hm=>exact .fY z a 0
 | fY z=>
  intro v au;generalize ao:([] :List (List U))=es at au;generalize AP:U.bQ z es=yd at au;cases au<;>cases AP
  ·subst ao; exact .fY z _ _
  ·exact .fY z _ _
 | ar z b off len cap sz cs es ag al aw ec h aJ=>
  intro v au;have rM:(bW l).f b=.cells sz cs:=ln.2 ag;cases au with
  | ig _ _ _ _ a hN m gb kB=>
   obtain rfl:=List.length_eq_zero_iff.1 al;exact .fY z a 0
  | gR _ _ _ _ _ _ cap' a al ah aq=>
   exfalso;rcases aq with aq | ⟨n,hN,aq,aM⟩
   ·rw[rM] at aq; cases aq
   ·rw[rM] at aq; cases aq; omega
  | ar _ _ _ _ _ _ cap' hN m gb hm hR ap ah=>
   rw[rM] at gb; cases gb;have hblk:=rel.blk b m hm;rw[rM] at hblk;obtain⟨cd,bM,arr,t,gy,hw,aA,aF,nh⟩:=hblk;have db:len<=cap':=by rcases ah with ⟨_,h⟩ | ⟨_,h,_⟩<;>omega
   have pu:B<=m.r:=rel.base b m (by rw[rM]; rfl) hm;subst al;have rN:∀ i j,i<es.length->j<z->∃ c v,cs[off+(i*z+j)]? = some c/\arr[m.s+(off+(i*z+j))]? = some v/\v.oneCell'=true/\aS w R (bW l) μ c v:=by
    intro i j av ai;have aM:off+(i*z+j)<cs.length:=by
     have:i*z+z<=es.length*z:=by rw[<-Nat.succ_mul]; exact Nat.mul_le_mul_right _ av
     omega
    obtain⟨v,h1,ad,aj⟩:=nh _ _ (List.getElem?_eq_getElem aM);exact⟨_,v,List.getElem?_eq_getElem aM,h1,ad,aj⟩
   refine .bQ z es m.r (m.s+off) cap' (fun i j=>(arr[m.s+(off+(i*z+j))]?).getD undef) db aw (fun i j av ai=>?_) (fun i e ao j c' ai=>?_)
   ·obtain⟨c,v,h1,ad,aj,aE⟩:=rN i j av ai;refine⟨?_,?_,pu,fun ⟨b,m,h1,ad,aj⟩=>by cases ad⟩
    ·simp only[World.cell?,hw,ad,Option.getD_some,Option.isSome_none];rw[show m.s+off+(i*z+j)=m.s+(off+(i*z+j)) by omega,ad]; rfl
    ·rw[ad]; exact aj
   ·have av:i<es.length:=(List.getElem?_eq_some_iff.1 ao).1;have nl:j<z:=by rw[<-aw e (List.mem_of_getElem? ao)]; exact (List.getElem?_eq_some_iff.1 ai).1
    obtain⟨c,v,h1,ad,aj,aE⟩:=rN i j av nl;simp only[ad,Option.getD_some];exact aJ i j e c c' ao ai h1 aE
theorem BL {P:Program} {G:Nat->U} (mQ:P.follows .mixedOrders=true) (kT:∀ g,(G g).closed=true) {f:FuncId} {args:List U} {r:U} (h:c7 P G f args [] (c:=⟨fun lJ l=>kM l lJ r⟩)) :jZ P G f args r:=by
 obtain⟨lJ,l',h1,ad,aj⟩:=h;intro w A vs aq al au;refine (Pq (A:=A) mQ kT h1 aq al au).mono ?_;rintro e w' ⟨v,μ',rfl,ag,rel,az⟩;exact⟨v,rfl,ag,alZ rel aj az⟩
theorem YU {l:am} {z b n cap sz:Nat} {es:List (List U)} {rest:List U} (ag:l[b]? = some (.cells sz (es.flatten++rest))) (aC:es.length=n) (aw:∀ e∈es,e.length=z) (ah:∀ e∈es,mB e=true) :kM l (.ar z b 0 n cap sz) (.bQ z es) :=by
 have fc:=mC (z:=z) (es:=es) (fun e ao=>aw e ao);refine .ar z b 0 n cap sz _ es ag aC aw (by rw[List.length_append,fc,aC]; omega) (fun i j e c c' ao ai dC=>?_);have av:i<es.length:=(List.getElem?_eq_some_iff.1 ao).1;have nl:j<z:=by rw[<-aw e (List.mem_of_getElem? ao)]; exact (List.getElem?_eq_some_iff.1 ai).1
 have aM:i*z+j<es.flatten.length:=by
  rw[fc];have:i*z+z<=es.length*z:=by rw[<-Nat.succ_mul]; exact Nat.mul_le_mul_right _ av
  omega
 have h1:es.flatten[i*z+j]? = some c':=AD es aw i j e c' ao ai;rw[Nat.zero_add,List.getElem?_append_left aM,h1] at dC;cases dC;exact .flat _ (Gq (ah e (List.mem_of_getElem? ao)) j _ ai)
theorem YR {l:am} {c:U} (h:c.closed=true) :gh (bW l) c c:=.same c h
@[simp] theorem asI (n z:Nat) (cs:List U) (k:IntKind) (i:Int) :Em n z (.aH cs) (.int k i)=if 0<=i/\i<n then cs[i.toNat*z]? else none:=id rfl
@[simp] theorem asJ (n z:Nat) (cs:List U) (k:IntKind) (i:Int) :En n z (.aH cs) (.int k i)=if 0<=i/\i<n then tN z cs (i.toNat*z) else none:=id rfl
@[simp] theorem Bv (s:List UInt8) (k:IntKind) (i:Int) :ze (.str s) (.int k i)=if 0<=i then (s[i.toNat]?).map jx else none:=id rfl
theorem amM {α:Type} {l:List α} {i:Nat} {x:α} (h:l[i]? = some x) :l.set i x=l:=by
 obtain⟨av,rfl⟩:=List.getElem?_eq_some_iff.1 h;exact List.set_getElem_self av
theorem lS {α:Type} (f:α->U) (aF:∀ x,(f x).closed=true) :∀ l:List α,bd (l.map f)=true
 | []=>rfl
 | x::l=>by simp only[List.map_cons,bd,aF,lS f aF l,Bool.and_self]
theorem SY {α:Type} (f:α->U) (aF:∀ x,(f x).closed=true) (l:List α) :(U.aH (l.map f)).closed=true:=by simp only[U.closed]; exact lS f aF l
theorem AC {α:Type} (f:α->U) (aF:∀ x,(f x).flat=true) :∀ l:List α,mB (l.map f)=true
 | []=>rfl
 | x::l=>by simp only[List.map_cons,mB,aF,AC f aF l,Bool.and_self]
theorem TP {α:Type} (f:α->U) (aF:∀ x,(f x).flat=true) (l:List α) :(U.aH (l.map f)).flat=true:=by simp only[U.flat]; exact AC f aF l
@[simp] theorem aqt (z:Nat) :uC (.ar z) .aT=some (.int .i64 0) :=id rfl
@[simp] theorem aqs (n z:Nat) (x:U) :uC (.arr n z) x=some (.int .i64 n) :=id rfl
theorem avm (z:Nat) (cV av cW:Option U) :fG (.ar z) .aT cV av cW=(gW 0 0 cV av cW).map fun _=>.aT:=rfl
@[simp] theorem avn (z:Nat) (k:IntKind) :fG (.ar z) .aT none (some (.int k 0)) none=some .aT:=id rfl
theorem zJ (z b off len cap sz:Nat) (cV av cW:Option U) :fG (.ar z) (.ar z b off len cap sz) cV av cW=(gW len cap cV av cW).map fun (l,aG,m)=>if m=l then .ar z b (off+l*z) 0 0 sz else .ar z b (off+l*z) (aG - l) (m - l) sz:=by
 simp[fG]
theorem EK {α:Type} {l:List α} {a:α} (h:l[0]? = some a) :∃ r,l=a::r:=by
 cases l with
 | nil=>simp at h
 | cons x l=>simp at h; subst h; exact⟨l,rfl⟩
theorem an6 {α:Type} {l:List α} {b:α} (h:l[1]? = some b) :∃ a r,l=a::b::r:=by
 cases l with
 | nil=>simp at h
 | cons x l=>obtain⟨r,rfl⟩:=EK (l:=l) (by simpa using h); exact⟨x,r,rfl⟩
theorem BS (zero:List U) (n:Nat) :(dN zero n).length=n*zero.length:=by
 induction n with
 | zero=>simp[dN]
 | succ n aJ=>simp[dN,aJ,Nat.succ_mul,Nat.add_comm]
theorem IX (zero:List U) (n:Nat) :dN zero n=(List.replicate n zero).flatten:=by
 induction n with
 | zero=>rfl
 | succ n aJ=>rw[dN,aJ,List.replicate_succ,List.flatten_cons]
inductive bH (z:Nat) (l:am) :U->Nat->List (List U)->Prop
 | nil (j:Nat) :bH z l .aT j []
 | ar (j n cap sz:Nat) (cs:List U) (es:List (List U)) (ag:l[j]? = some (.cells sz cs)) (al:cs.length=sz) (aC:es.length=n) (aw:∀ e∈es,e.length=z) (ah:n<=cap) (db:cap*z<=sz)
   (cd:cs.take (n*z)=es.flatten) :bH z l (.ar z j 0 n cap sz) j es
def cw:U->Bool | .aT=>true | _=>false
theorem jm {v:U}:cw v=true<->v=.aT:=by cases v<;>simp[cw]
theorem vk {α:Type} {v aZ:U} {xs:List α} (h:aZ=.aT<->v=.aT/\xs=[]) :cw aZ=(cw v&&xs.isEmpty) :=by
 rw[Bool.eq_iff_iff,jm,h,Bool.and_eq_true,jm,List.isEmpty_iff]
def tW (z:Nat) (v:U) (es:List (List U)) :U:=match cw v with | true=>.aT | false=>.bQ z es
section
variable {z:Nat} {l l' : am} {v:U} {j:Nat} {es:List (List U)}
theorem bH.lt (h:bH z l v j es) :v=.aT\/j<l.length:=by
 cases h with
 | nil j=>exact .inl rfl
 | ar j n cap sz cs es ag=>exact .inr (eu ag)
theorem bH.row (h:bH z l v j es) :∀ e∈es,e.length=z:=by
 cases h with
 | nil j=>intro e ao; cases ao
 | ar j n cap sz cs es ag al aC aw=>exact aw
theorem bH.cells (h:bH z l v j es) :v.cells=some [v] :=by cases h<;>rfl
theorem bH.len (h:bH z l v j es) :cK (.ar z) v=some (.int .i64 es.length) :=by
 cases h with
 | nil j=>rfl
 | ar j n cap sz cs es ag al aC=>subst aC; rfl
theorem bH.frame (h:bH z l v j es) (ai:j<l.length->l'[j]? = l[j]?) :bH z l' v j es:=by
 cases h with
 | nil j=>exact .nil j
 | ar j n cap sz cs es ag al aC aw ah db cd=>exact .ar j n cap sz cs es (by rw[ai (eu ag)]; exact ag) al aC aw ah db cd
theorem bH.nZ (h:bH z l v j es) (ai:v=.aT\/l'[j]? = l[j]?) :bH z l' v j es:=by
 cases h with
 | nil j=>exact .nil j
 | ar j n cap sz cs es ag al aC aw ah db cd=>
  rcases ai with ai | ai
  ·cases ai
  ·exact .ar j n cap sz cs es (by rw[ai]; exact ag) al aC aw ah db cd
theorem bH.more (h:bH z l v j es) (x:am) :bH z (l++x) v j es:=h.frame fun ai=>List.getElem?_append_left ai
theorem bH.contents (h:bH z l v j es) :dE l z v=some (es.flatten,es.length) :=by
 cases h with
 | nil j=>rfl
 | ar j n cap sz cs es ag al aC aw ah db cd=>subst aC; simp only[dE,ag,and_self,if_true,List.drop_zero,cd]
theorem bH.IP (h:bH z l v j es) (aF:∀ e∈es,mB e=true) :kM l v (tW z v es) :=by
 cases h with
 | nil j=>exact .flat _ rfl
 | ar j n cap sz cs es ag al aC aw ah db cd=>
  show kM l _ (.bQ z es);refine YU (rest:=cs.drop (n*z)) ?_ aC aw aF;rw[ag,<-cd,List.take_append_drop]
theorem bH.sq (h:bH z l v j es) (aF:∀ e∈es,bd e=true) :gh (bW l) v (tW z v es) :=by
 cases h with
 | nil j=>exact .same _ rfl
 | ar j n cap sz cs es ag al aC aw ah db cd=>
  show gh (bW l) _ (.bQ z es);have qK:n*z<=cs.length:=by rw[al]; exact Nat.le_trans (Nat.mul_le_mul_right _ ah) db
  refine .ar z j 0 n cap sz cs es (ln.2 ag) aC aw (by omega) (fun i k e c c' ao hk dC=>?_);have av:i<es.length:=(List.getElem?_eq_some_iff.1 ao).1;have DL:k<z:=by rw[<-aw e (List.mem_of_getElem? ao)]; exact (List.getElem?_eq_some_iff.1 hk).1
  have aM:i*z+k<n*z:=by
   have:i*z+z<=es.length*z:=by rw[<-Nat.succ_mul]; exact Nat.mul_le_mul_right _ av
   rw[aC] at this; omega
  have h1:es.flatten[i*z+k]? = some c':=AD es aw i k e c' ao hk;rw[<-cd,List.getElem?_take_of_lt aM] at h1;rw[Nat.zero_add,h1] at dC;cases dC;exact .same _ (CM (aF e (List.mem_of_getElem? ao)) k _ hk)
theorem EZ {l:am} {z b n cap sz:Nat} {es:List (List U)} {rest:List U} (ag:l[b]? = some (.cells sz (es.flatten++rest))) (aC:es.length=n) (aw:∀ e∈es,e.length=z) (ah:∀ e∈es,bd e=true) :gh (bW l) (.ar z b 0 n cap sz) (.bQ z es) :=by
 have fc:=mC (z:=z) (es:=es) (fun e ao=>aw e ao);refine .ar z b 0 n cap sz _ es (ln.2 ag) aC aw (by rw[List.length_append,fc,aC]; omega) (fun i j e c c' ao ai dC=>?_);have av:i<es.length:=(List.getElem?_eq_some_iff.1 ao).1;have nl:j<z:=by rw[<-aw e (List.mem_of_getElem? ao)]; exact (List.getElem?_eq_some_iff.1 ai).1
 have aM:i*z+j<es.flatten.length:=by
  rw[fc];have:i*z+z<=es.length*z:=by rw[<-Nat.succ_mul]; exact Nat.mul_le_mul_right _ av
  omega
 have h1:es.flatten[i*z+j]? = some c':=AD es aw i j e c' ao ai;rw[Nat.zero_add,List.getElem?_append_left aM,h1] at dC;cases dC;exact .same _ (CM (ah e (List.mem_of_getElem? ao)) j _ ai)
theorem Qb (h:bH z l v j es) {by_ m:Nat} {xs:List (List U)} (hm:xs.length=m) (mg:∀ e∈xs,e.length=z) (aD:z≠0) (ea:by_≠0) (dA:(es.length+m)*by_<=cy) :
  ∃ aZ bl l',hJ l z by_ v xs.flatten m=some (aZ,l')/\bH z l' aZ bl (es++xs)/\l.length<=l'.length/\(∀ b,b<l.length->b≠j->l'[b]? = l[b]?)/\(bl=j\/l.length<=bl)/\(aZ=.aT<->v=.aT/\xs=[]) :=by
 by_cases je:m=0
 ·have af:xs=[] :=List.length_eq_zero_iff.1 (by omega);subst af;refine⟨v,j,l,?_,by simpa using h,Nat.le_refl _,fun _ _ _=>rfl,.inl rfl,by simp⟩;unfold hJ;rw[if_pos je];cases h<;>rfl
 have bf:xs.flatten.length=m*z:=by rw[mC mg,hm]
 have iH:∀ e∈es++xs,e.length=z:=fun e ao=>by
  rcases List.mem_append.1 ao with h1 | h1
  ·exact h.row e h1
  ·exact mg e h1
 have bI:xs≠[] :=fun af=>je (by rw[<-hm,af]; rfl)
 cases h with
 | nil j=>
  refine⟨.ar z l.length 0 m m (m*z),l.length,l++[.cells (m*z) xs.flatten],?_,?_,by simp,fun b ag _=>List.getElem?_append_left ag,.inr (Nat.le_refl _),by simp[bI]⟩
  ·unfold hJ;rw[if_neg je,if_neg (by omega)];simp only;rw[if_pos (by simpa using dA)]
  ·refine .ar _ _ _ _ xs.flatten _ (by simp) bf (by simpa using hm) iH (Nat.le_refl _) (Nat.le_refl _) ?_;rw[List.take_of_length_le (by omega)]; rfl
 | ar j n cap sz cs es ag al aC aw ah db cd=>
  subst aC;have qK:es.length*z<=cap*z:=Nat.mul_le_mul_right _ ah;have wY:(es++xs).length=es.length+m:=by simp[hm]
  have fc:(es++xs).flatten=es.flatten++xs.flatten:=by simp
  have py:es.flatten.length=es.length*z:=mC aw;have j4:hJ l z by_ (.ar z j 0 es.length cap sz) xs.flatten m =
    if es.length+m<=cap then some (.ar z j 0 (es.length+m) cap sz,l.set j (.cells sz (bt cs (es.length*z) xs.flatten)))
    else if cap*z<sz then some (.ar z l.length 0 (es.length+m) (es.length+m) ((es.length+m)*z),l++[.cells ((es.length+m)*z) (es.flatten++xs.flatten)])
    else some (.ar z j 0 (es.length+m) (es.length+m) ((es.length+m)*z),l.set j (.cells ((es.length+m)*z) (es.flatten++xs.flatten))) :=by
   unfold hJ;rw[if_neg je,if_neg (by omega)];simp only[ag];rw[if_pos ⟨trivial,trivial,dA⟩];simp only[Nat.zero_add,List.drop_zero,cd,if_true]
  rw[j4];have e7:=eu ag;split
  ·rename_i h1;have Mg:(es.length+m)*z<=cap*z:=Nat.mul_le_mul_right _ h1;rw[Nat.add_mul] at Mg;refine⟨_,j,_,rfl,?_,by simp,fun b bO gZ=>by rw[List.getElem?_set_ne (fun e=>gZ e.symm)],.inl rfl,by simp⟩;refine .ar j _ cap sz (bt cs (es.length*z) xs.flatten) _ (by rw[List.getElem?_set_self e7]) ?_ wY iH h1 db ?_
   ·rw[sv (by omega)]; omega
   ·rw[fc];unfold bt;rw[cd,List.take_append_of_le_length (by simp[py,bf,Nat.add_mul]),List.take_of_length_le (by simp[py,bf,Nat.add_mul])]
  ·split
   ·refine⟨_,l.length,_,rfl,?_,by simp,fun b bO _=>List.getElem?_append_left bO,.inr (Nat.le_refl _),by simp⟩;refine .ar _ _ _ _ (es.flatten++xs.flatten) _ (by simp) (by simp[py,bf,Nat.add_mul]) wY iH (Nat.le_refl _) (Nat.le_refl _) ?_;rw[fc,List.take_of_length_le (by simp[py,bf,Nat.add_mul])]
   ·refine⟨_,j,_,rfl,?_,by simp,fun b bO gZ=>by rw[List.getElem?_set_ne (fun e=>gZ e.symm)],.inl rfl,by simp⟩;refine .ar j _ _ _ (es.flatten++xs.flatten) _ (by rw[List.getElem?_set_self e7]) (by simp[py,bf,Nat.add_mul]) wY iH (Nat.le_refl _) (Nat.le_refl _) ?_;rw[fc,List.take_of_length_le (by simp[py,bf,Nat.add_mul])]
theorem pl (h:bH z l v j es) {by_:Nat} {x:U} {xs:List (List U)} (af:dE l z x=some (xs.flatten,xs.length)) (mg:∀ e∈xs,e.length=z) (aD:z≠0) (ea:by_≠0) (dA:(es.length+xs.length)*by_<=cy) :
  ∃ aZ bl l',gx l z by_ v x=some (aZ,l')/\bH z l' aZ bl (es++xs)/\l.length<=l'.length/\(∀ b,b<l.length->b≠j->l'[b]? = l[b]?)/\(bl=j\/l.length<=bl)/\(aZ=.aT<->v=.aT/\xs=[]) :=by
 unfold gx;rw[af];exact Qb h rfl mg aD ea dA
theorem abQ (h:bH z l v j es) {by_ n:Nat} {k:IntKind} {zero:List U} (jj:zero.length=z) (aD:z≠0) (ea:by_≠0) (aC:n<9223372036854775808) (dA:(es.length+n)*by_<=cy) :
  ∃ aZ bl l',rx l z by_ zero v (.int k (n:Int))=some (aZ,l')/\bH z l' aZ bl (es++List.replicate n zero)/\l.length<=l'.length/\(∀ b,b<l.length->b≠j->l'[b]? = l[b]?)/\(bl=j\/l.length<=bl)/\(aZ=.aT<->v=.aT/\n=0) :=by
 have:=Qb h (xs:=List.replicate n zero) (m:=n) (by simp) (fun e ao=>by rw[(List.mem_replicate.1 ao).2,jj]) aD ea dA;obtain⟨aZ,bl,l',h1,ad⟩:=this;refine⟨aZ,bl,l',?_,by simpa [List.replicate_eq_nil_iff] using ad⟩;unfold rx;simp only[Int.toNat_natCast];rw[if_pos ⟨by omega,by omega,by have:=Nat.le_trans (Nat.mul_le_mul_right by_ (Nat.le_add_left n es.length)) dA; exact this⟩,IX];exact h1
theorem abU {l:am} {z by_ n:Nat} {v aZ:U} {xs:List U} {pre rest:am} {l' : am} (au:v=.aT\/∃ j n cap sz,v=.ar z j 0 n cap sz/\pre.length<=j) (h:hJ (pre++rest) z by_ v xs n=some (aZ,l')) :
  ∃ mo,l'=pre++mo:=by
 unfold hJ at h;by_cases aC:n=0
 ·rw[if_pos aC] at h;rcases au with rfl | ⟨j,m,cap,sz,rfl,ai⟩<;>(cases h; exact⟨_,rfl⟩)
 rw[if_neg aC] at h;by_cases aD:z=0\/by_=0
 ·rw[if_pos aD] at h; cases h
 rw[if_neg aD] at h;rcases au with rfl | ⟨j,m,cap,sz,rfl,ai⟩
 ·simp only at h;split at h
  ·cases h; exact⟨_,by rw[List.append_assoc]⟩
  ·cases h
 ·simp only at h;split at h
  ·split at h
   ·split at h
    ·cases h; exact⟨_,by rw[List.set_append_right _ _ ai]⟩
    ·split at h
     ·cases h; exact⟨_,by rw[List.append_assoc]⟩
     ·split at h
      ·cases h; exact⟨_,by rw[List.set_append_right _ _ ai]⟩
      ·rename_i aG; exact absurd trivial aG
   ·cases h
  ·cases h
theorem ux {z by_:Nat} {v:U} {j:Nat} {es:List (List U)} {pre rest:am} (h:bH z (pre++rest) v j es) (ai:v=.aT\/pre.length<=j) {x:U} {xs:List (List U)} (af:dE (pre++rest) z x=some (xs.flatten,xs.length)) (mg:∀ e∈xs,e.length=z) (aD:z≠0) (ea:by_≠0)
  (dA:(es.length+xs.length)*by_<=cy) :
  ∃ aZ bl mo,gx (pre++rest) z by_ v x=some (aZ,pre++mo)/\bH z (pre++mo) aZ bl (es++xs)/\(aZ=.aT\/pre.length<=bl)/\cw aZ=(cw v&&xs.isEmpty) :=by
 have aF:v=.aT\/∃ j n cap sz,v=.ar z j 0 n cap sz/\pre.length<=j:=by
  cases h with
  | nil j=>exact .inl rfl
  | ar j n cap sz cs es=>exact .inr ⟨j,n,cap,sz,rfl,ai.resolve_left (by simp)⟩
 obtain⟨aZ,bl,l',h1,ad,aj,aE,aX,bw⟩:=pl h af mg aD ea dA;have dg:=h1;unfold gx at dg;rw[af] at dg;obtain⟨mo,rfl⟩:=abU (l:=[]) aF dg;refine⟨aZ,bl,mo,h1,ad,?_,vk bw⟩;rcases aX with h | h
 ·rcases ai with au | ai
  ·by_cases Bq:xs=[]
   ·exact .inl (bw.2 ⟨au,Bq⟩)
   ·right;subst au;have Bo:xs.length≠0:=fun e=>Bq (List.length_eq_zero_iff.1 e)
    simp only at dg;unfold hJ at dg;rw[if_neg Bo] at dg;split at dg
    ·cases dg
    ·simp only at dg;split at dg
     ·obtain⟨rfl,_⟩:=Prod.mk.inj (Option.some.inj dg);generalize es++xs=E at ad;cases ad;simp
     ·cases dg
  ·right; omega
 ·right;rw[List.length_append] at h; omega
theorem bH.view (h:bH z l v j es) (au:cw v=false) :∃ n cap sz cs,v=.ar z j 0 n cap sz/\l[j]? = some (.cells sz cs)/\cs.length=sz/\es.length=n/\n*z<=sz/\(∀ i e,es[i]? = some e->∀ m,m<z->cs[i*z+m]? = e[m]?)/\cs.take (n*z)=es.flatten:=by
 cases h with
 | nil j=>simp[cw] at au
 | ar j n cap sz cs es ag al aC aw ah db cd=>
  refine⟨n,cap,sz,cs,rfl,ag,al,aC,Nat.le_trans (Nat.mul_le_mul_right _ ah) db,fun i e ao m hm=>?_,cd⟩;have av:i<es.length:=(List.getElem?_eq_some_iff.1 ao).1;have aM:i*z+m<n*z:=by
   have:i*z+z<=es.length*z:=by rw[<-Nat.succ_mul]; exact Nat.mul_le_mul_right _ av
   rw[aC] at this; omega
  have h1:=Gr aw ao hm;rw[<-h1,<-cd,List.getElem?_take_of_lt aM]
theorem bH.E1 {α:Type} {enc:α->List U} {xs:List α} (h:bH z l v j (xs.map enc)) (aF:∀ x,mB (enc x)=true) (s:cQ α) (ak:cw v=s.isNone) (af:s.l=xs) :kM l v (cB z enc s) :=by
 have h1:=h.IP (fun e ao=>by obtain⟨x,_,rfl⟩:=List.mem_map.1 ao; exact aF x);subst af;unfold tW at h1;rw[ak] at h1;cases s with
 | none=>exact h1
 | some s=>exact h1
theorem bH.nA {α:Type} {enc:α->List U} {xs:List α} (h:bH z l v j (xs.map enc)) (aF:∀ x,bd (enc x)=true) (s:cQ α) (ak:cw v=s.isNone) (af:s.l=xs) :gh (bW l) v (cB z enc s) :=by
 have h1:=h.sq (fun e ao=>by obtain⟨x,_,rfl⟩:=List.mem_map.1 ao; exact aF x);subst af;unfold tW at h1;rw[ak] at h1;cases s with
 | none=>exact h1
 | some s=>exact h1
end
def BQ (h:aQ) :Nat->U->Option U
 | 0,_=>none
 | d+1,c=>match c with
  | .aH cs=>match pW (BQ h d) cs with | some cs'=>some (.aH cs') | none=>none
  | .bG cs=>match pW (BQ h d) cs with | some cs'=>some (.bG cs') | none=>none
  | .ar z b off len cap sz=>match Nat.beq len 0 with
   | true=>some (.bQ z [])
   | false=>match h.f b with
    | .cells n cs=>match Nat.beq n sz&&Nat.ble (off+len*z) cs.length with
     | true=>match pW (BQ h d) ((cs.drop off).take (len*z)) with
      | some xs=>some (.bQ z (mz z len xs))
      | none=>none
     | false=>none
    | _=>none
  | c=>match c.flat with | true=>some c | false=>none
theorem IQ {h:aQ} {l:am} (r:e3 h l) :∀ (d:Nat) (c c' : U),BQ h d c=some c'->kM l c c'
 | 0,c,c',af=>by cases af
 | d+1,c,c',af=>by
  unfold BQ at af;split at af
  ·split at af
   ·rename_i h1; cases af;exact .aH _ _ (tT h1) (fun j c c' ah ei=>IQ r d c c' (tS h1 j c c' ah ei))
   ·cases af
  ·split at af
   ·rename_i h1; cases af;exact .bG _ _ (tT h1) (fun j c c' ah ei=>IQ r d c c' (tS h1 j c c' ah ei))
   ·cases af
  ·rename_i z b off len cap sz;split at af
   ·rename_i aD;cases af;rw[Nat.eq_of_beq_eq_true aD];exact .su z b off cap sz
   ·split at af
    ·rename_i n cs ag;split at af
     ·rename_i c1;simp only[Bool.and_eq_true] at c1;have aC:=Nat.eq_of_beq_eq_true c1.1;have dw:=Nat.le_of_ble_eq_true c1.2;subst aC;split at af
      ·rename_i xs h1;cases af;have bf:=tT h1;simp only[List.length_take,List.length_drop] at bf;have vh:xs.length=len*z:=by omega
       have c0:∀ (i:Nat),i<len->(mz z len xs)[i]? = some ((xs.drop (i*z)).take z) :=fun i av=>F5 len xs i av
       have eE:∀ i,i<len->i*z+z<=len*z:=fun i av=>by rw[<-Nat.succ_mul]; exact Nat.mul_le_mul_right _ av
       refine .ar z b off len cap n cs _ (r.some ag (by simp)) (wn _ _) (fun e ao=>?_) dw (fun i j e c c' ao ai ah=>?_)
       ·obtain⟨i,av⟩:=List.mem_iff_getElem?.1 ao;have c3:i<len:=by
         have:=(List.getElem?_eq_some_iff.1 av).1;rw[wn] at this; exact this
        rw[c0 i c3] at av;cases av;have:=eE i c3;simp; omega
       ·have c3:i<len:=by
         have:=(List.getElem?_eq_some_iff.1 ao).1;rw[wn] at this; exact this
        rw[c0 i c3] at ao;cases ao;have u4:=eE i c3;have nl:j<z:=by have:=(List.getElem?_eq_some_iff.1 ai).1; simp at this; omega
        rw[List.getElem?_take_of_lt nl,List.getElem?_drop] at ai;refine IQ r d c c' (tS h1 (i*z+j) c c' ?_ ai);rw[List.getElem?_take_of_lt (by omega),List.getElem?_drop];exact ah
      ·cases af
     ·cases af
    ·cases af
  ·split at af
   ·rename_i ah; cases af; exact .flat _ ah
   ·cases af
def Zn (P:Program) (G:Nat->U) [rp P G] (orc:rq) (lM:vZ) (fuel k:Nat) (f:FuncId) (args:List U) (r:U) :Bool:=
 match CH P G orc lM fuel k f args aQ.empty with
 | some (v,h)=>match BQ h 20 v with
  | some aZ=>U.beq aZ r
  | none=>false
 | none=>false
theorem BM {P:Program} {G:Nat->U} [rp P G] (mQ:P.follows .mixedOrders=true) (kT:∀ g,(G g).closed=true) {orc:rq} {lM:vZ} (ap:Cm P G orc) (aI:Cp P lM) {fuel k:Nat} {f:FuncId} {args:List U} {r:U}
  (af:Zn P G orc lM fuel k f args r=true) :jZ P G f args r:=by
 unfold Zn at af;split at af
 ·rename_i v h ah;split at af
  ·rename_i aZ au;obtain⟨l',az,ad⟩:=Kc ap aI fuel k f args aQ.empty v h [] e3.nil ah;have:=U.beq_eq af;subst this;exact BL mQ kT (ad _ (IQ az 20 v aZ au))
  ·cases af
 ·cases af
inductive eA (z:Nat) (l:am) :U->Nat->List (List U)->Prop
 | nil (j:Nat) :eA z l .aT j []
 | ar (j off n cap sz:Nat) (cs:List U) (es:List (List U)) (ag:l[j]? = some (.cells sz cs)) (al:cs.length=sz) (aC:es.length=n) (aw:∀ e∈es,e.length=z) (ah:n<=cap) (db:off+cap*z<=sz)
   (cd:(cs.drop off).take (n*z)=es.flatten) :eA z l (.ar z j off n cap sz) j es
section
variable {z:Nat} {l l' : am} {v:U} {j:Nat} {es:List (List U)}
theorem bH.q (h:bH z l v j es) :eA z l v j es:=by
 cases h with
 | nil j=>exact .nil j
 | ar j n cap sz cs es ag al aC aw ah db cd=>exact .ar j 0 n cap sz cs es ag al aC aw ah (by omega) (by simpa using cd)
theorem eA.row (h:eA z l v j es) :∀ e∈es,e.length=z:=by
 cases h with
 | nil j=>intro e ao; cases ao
 | ar j off n cap sz cs es ag al aC aw=>exact aw
theorem eA.lt (h:eA z l v j es) :v=.aT\/j<l.length:=by
 cases h with
 | nil j=>exact .inl rfl
 | ar j off n cap sz cs es ag=>exact .inr (eu ag)
theorem eA.cells (h:eA z l v j es) :v.cells=some [v] :=by cases h<;>rfl
theorem eA.len (h:eA z l v j es) :cK (.ar z) v=some (.int .i64 es.length) :=by
 cases h with
 | nil j=>rfl
 | ar j off n cap sz cs es ag al aC=>subst aC; rfl
theorem eA.nZ (h:eA z l v j es) (ai:v=.aT\/l'[j]? = l[j]?) :eA z l' v j es:=by
 cases h with
 | nil j=>exact .nil j
 | ar j off n cap sz cs es ag al aC aw ah db cd=>
  rcases ai with ai | ai
  ·cases ai
  ·exact .ar j off n cap sz cs es (by rw[ai]; exact ag) al aC aw ah db cd
theorem eA.more (h:eA z l v j es) (x:am) :eA z (l++x) v j es:=h.nZ (by
 rcases h.lt with h | h
 ·exact .inl h
 ·exact .inr (List.getElem?_append_left h))
theorem eA.tG (h:eA z l .aT j es) :es=[] :=by
 generalize au:U.aT=w at h;cases h with
 | nil j=>rfl
 | ar=>cases au
theorem abO (h:eA z l v j es) {by_ m:Nat} {xs:List (List U)} (hm:xs.length=m) (mg:∀ e∈xs,e.length=z) (aD:z≠0) (ea:by_≠0) (dA:(es.length+m)*by_<=cy) :
  ∃ aZ bl l',hJ l z by_ v xs.flatten m=some (aZ,l')/\eA z l' aZ bl (es++xs)/\l.length<=l'.length/\(∀ b,b<l.length->(v=.aT\/b≠j)->l'[b]? = l[b]?)/\(aZ=.aT\/(v≠.aT/\bl=j)\/l.length<=bl)/\(aZ=.aT<->v=.aT/\xs=[]) :=by
 by_cases je:m=0
 ·have af:xs=[] :=List.length_eq_zero_iff.1 (by omega);subst af;refine⟨v,j,l,?_,by simpa using h,Nat.le_refl _,fun _ _ _=>rfl,?_,by simp⟩
  ·unfold hJ;rw[if_pos je];cases h<;>rfl
  ·by_cases au:v=.aT
   ·exact .inl au
   ·exact .inr (.inl ⟨au,rfl⟩)
 have bf:xs.flatten.length=m*z:=by rw[mC mg,hm]
 have iH:∀ e∈es++xs,e.length=z:=fun e ao=>by
  rcases List.mem_append.1 ao with h1 | h1
  ·exact h.row e h1
  ·exact mg e h1
 have bI:xs≠[] :=fun af=>je (by rw[<-hm,af]; rfl)
 cases h with
 | nil j=>
  refine⟨.ar z l.length 0 m m (m*z),l.length,l++[.cells (m*z) xs.flatten],?_,?_,by simp,fun b ag _=>List.getElem?_append_left ag,.inr (.inr (Nat.le_refl _)),by simp[bI]⟩
  ·unfold hJ;rw[if_neg je,if_neg (by omega)];simp only;rw[if_pos (by simpa using dA)]
  ·refine .ar _ _ _ _ _ xs.flatten _ (by simp) bf (by simpa using hm) iH (Nat.le_refl _) (by omega) ?_;rw[List.drop_zero,List.take_of_length_le (by omega)]; rfl
 | ar j off n cap sz cs es ag al aC aw ah db cd=>
  subst aC;have qK:es.length*z<=cap*z:=Nat.mul_le_mul_right _ ah;have wY:(es++xs).length=es.length+m:=by simp[hm]
  have fc:(es++xs).flatten=es.flatten++xs.flatten:=by simp
  have py:es.flatten.length=es.length*z:=mC aw;have j4:hJ l z by_ (.ar z j off es.length cap sz) xs.flatten m =
    if es.length+m<=cap then some (.ar z j off (es.length+m) cap sz,l.set j (.cells sz (bt cs (off+es.length*z) xs.flatten)))
    else if off+cap*z<sz then some (.ar z l.length 0 (es.length+m) (es.length+m) ((es.length+m)*z),l++[.cells ((es.length+m)*z) (es.flatten++xs.flatten)])
    else if off=0 then some (.ar z j 0 (es.length+m) (es.length+m) ((es.length+m)*z),l.set j (.cells ((es.length+m)*z) (cs.take (es.length*z)++xs.flatten)))
    else some (.ar z l.length 0 (es.length+m) (es.length+m) ((es.length+m)*z),l.set j .dead++[.cells ((es.length+m)*z) (es.flatten++xs.flatten)]) :=by
   unfold hJ;rw[if_neg je,if_neg (by omega)];simp only[ag];rw[if_pos ⟨trivial,trivial,dA⟩];simp only[cd]
  rw[j4];have e7:=eu ag;have l4:∀ eL:am,eL.length=l.length->eA z (eL++[.cells ((es.length+m)*z) (es.flatten++xs.flatten)]) (.ar z l.length 0 (es.length+m) (es.length+m) ((es.length+m)*z)) l.length (es++xs) :=fun eL rS=>by
   refine .ar _ _ _ _ _ (es.flatten++xs.flatten) _ (by rw[<-rS]; simp) (by simp[py,bf,Nat.add_mul]) wY iH (Nat.le_refl _) (by omega) ?_;rw[fc,List.drop_zero,List.take_of_length_le (by simp[py,bf,Nat.add_mul])]
  split
  ·rename_i h1;have Mg:(es.length+m)*z<=cap*z:=Nat.mul_le_mul_right _ h1;rw[Nat.add_mul] at Mg;refine⟨_,j,_,rfl,?_,by simp,fun b bO gZ=>by rw[List.getElem?_set_ne (fun e=>(gZ.resolve_left (by simp)) e.symm)],.inr (.inl ⟨by simp,rfl⟩),by simp⟩;refine .ar j off _ cap sz (bt cs (off+es.length*z) xs.flatten) _ (by rw[List.getElem?_set_self e7]) ?_ wY iH h1 db ?_
   ·rw[sv (by omega)]; omega
   ·rw[fc];unfold bt;have aI:cs.take (off+es.length*z)=cs.take off++es.flatten:=by rw[List.take_add,cd]
    have asp:(cs.take off).length=off:=by rw[List.length_take]; omega
    rw[aI,List.append_assoc,List.append_assoc,List.drop_append_of_le_length (by omega),List.drop_of_length_le (by omega),List.nil_append,<-List.append_assoc,List.take_append_of_le_length (by simp[py,bf,Nat.add_mul]),List.take_of_length_le (by simp[py,bf,Nat.add_mul])]
  ·split
   ·exact⟨_,l.length,_,rfl,l4 l rfl,by simp,fun b bO _=>List.getElem?_append_left bO,.inr (.inr (Nat.le_refl _)),by simp⟩
   ·split
    ·rename_i A7;subst A7;rw[List.drop_zero] at cd;refine⟨_,j,_,rfl,?_,by simp,fun b bO gZ=>by rw[List.getElem?_set_ne (fun e=>(gZ.resolve_left (by simp)) e.symm)],.inr (.inl ⟨by simp,rfl⟩),by simp⟩;refine .ar j 0 _ _ _ (cs.take (es.length*z)++xs.flatten) _ (by rw[List.getElem?_set_self e7]) (by rw[cd]; simp[py,bf,Nat.add_mul]) wY iH (Nat.le_refl _) (by omega) ?_;rw[cd,fc,List.drop_zero,List.take_of_length_le (by simp[py,bf,Nat.add_mul])]
    ·refine⟨_,l.length,_,rfl,l4 _ (by simp),by simp,fun b bO gZ=>?_,.inr (.inr (Nat.le_refl _)),by simp⟩;rw[List.getElem?_append_left (by simpa using bO),List.getElem?_set_ne (fun e=>(gZ.resolve_left (by simp)) e.symm)]
theorem ak6 {pre rest l' : am} (h:∀ b,b<pre.length->l'[b]? = (pre++rest)[b]?) (al:pre.length<=l'.length) :∃ mo,l'=pre++mo:=by
 refine⟨l'.drop pre.length,?_⟩;apply List.ext_getElem?;intro i;by_cases av:i<pre.length
 ·rw[h i av,List.getElem?_append_left av,List.getElem?_append_left av]
 ·rw[List.getElem?_append_right (by omega),List.getElem?_drop]; congr 1; omega
theorem Qc {by_:Nat} {pre rest:am} (h:eA z (pre++rest) v j es) (ai:v=.aT\/pre.length<=j) {x:U} {xs:List (List U)} (af:dE (pre++rest) z x=some (xs.flatten,xs.length)) (mg:∀ e∈xs,e.length=z) (aD:z≠0) (ea:by_≠0)
  (dA:(es.length+xs.length)*by_<=cy) :
  ∃ aZ bl mo,gx (pre++rest) z by_ v x=some (aZ,pre++mo)/\eA z (pre++mo) aZ bl (es++xs)/\(aZ=.aT\/pre.length<=bl)/\cw aZ=(cw v&&xs.isEmpty) ∧
   (∀ b,b<(pre++rest).length->(v=.aT\/b≠j)->(pre++mo)[b]? = (pre++rest)[b]?)/\(aZ=.aT\/(v≠.aT/\bl=j)\/(pre++rest).length<=bl) :=by
 obtain⟨aZ,bl,l',h1,ad,aj,aE,aX,bw⟩:=abO h (by_:=by_) rfl mg aD ea dA;have oe:pre.length<=(pre++rest).length:=by simp
 obtain⟨mo,rfl⟩:=ak6 (pre:=pre) (rest:=rest) (l':=l') (fun b ag=>aE b (by omega) (by
  rcases ai with h | h
  ·exact .inl h
  ·exact .inr (by omega))) (by omega)
 refine⟨aZ,bl,mo,?_,ad,?_,vk bw,aE,aX⟩
 ·unfold gx; rw[af]; exact h1
 ·rcases aX with h | ⟨h,h'⟩ | h
  ·exact .inl h
  ·rcases ai with ai | ai
   ·exact absurd ai h
   ·exact .inr (by omega)
  ·exact .inr (by omega)
theorem eA.from (h:eA z l v j es) (au:cw v=false) {k:IntKind} {i:Nat} (av:i<=es.length) :∃ aZ,fG (.ar z) v (some (.int k (i:Int))) none none=some aZ/\eA z l aZ j (es.drop i)/\cw aZ=false:=by
 cases h with
 | nil j=>simp[cw] at au
 | ar j off n cap sz cs es ag al aC aw ah db cd=>
  subst aC;have u9:i*z+(cap - i)*z=cap*z:=by rw[<-Nat.add_mul]; congr 1; omega
  have VU:i*z+(es.length - i)*z=es.length*z:=by rw[<-Nat.add_mul]; congr 1; omega
  have dw:es.length*z<=cap*z:=Nat.mul_le_mul_right _ ah;have MV:∀ e∈es.drop i,e.length=z:=fun e ao=>aw e (List.mem_of_mem_drop ao)
  have fc:(es.drop i).flatten=(es.flatten).drop (i*z) :=by
   have h1:es.flatten=(es.take i).flatten++(es.drop i).flatten:=by rw[<-List.flatten_append,List.take_append_drop]
   have ad:(es.take i).flatten.length=i*z:=by
    rw[mC (z:=z) (fun e ao=>aw e (List.mem_of_mem_take ao)),List.length_take];congr 1; omega
   rw[h1,<-ad,List.drop_left]
  rw[zJ,QC,if_pos ⟨by omega,by omega⟩];simp only[Int.toNat_natCast,Option.map_some,Option.some.injEq,exists_eq_left'];by_cases dh:cap=i
  ·rw[if_pos dh];have ags:es.drop i=[] :=List.drop_of_length_le (by omega);refine⟨?_,rfl⟩;rw[ags];exact .ar j _ 0 0 sz cs [] ag al rfl (by simp) (Nat.le_refl _) (by omega) (by simp)
  ·rw[if_neg dh];refine⟨.ar j _ _ _ sz cs _ ag al (by simp) MV (by omega) (by omega) ?_,rfl⟩;rw[fc,<-cd,List.drop_take,List.drop_drop];congr 1; omega
theorem eA.get (h:eA z l v j es) {k:IntKind} {i:Nat} {e:List U} (ao:es[i]? = some e) :∃ p cs o,ck (.ar z) v (.int k (i:Int))=some p/\eW l p=some (cs,o)/\o+z<=cs.length/\(cs.drop o).take z=e:=by
 cases h with
 | nil j=>simp at ao
 | ar j off n cap sz cs es ag al aC aw ah db cd=>
  subst aC;have av:=(List.getElem?_eq_some_iff.1 ao).1;have h1:i*z+z<=es.length*z:=by rw[<-Nat.succ_mul]; exact Nat.mul_le_mul_right _ av
  have ad:es.length*z<=cap*z:=Nat.mul_le_mul_right _ ah;refine⟨.ptr j (off+i*z) sz,cs,off+i*z,?_,?_,by omega,?_⟩
  ·simp only[ck,Int.toNat_natCast];rw[if_pos ⟨trivial,by omega,by omega⟩]
  ·simp only[eW,ag,if_true]
  ·have agv:=aw e (List.mem_of_getElem? ao);apply List.ext_getElem?;intro m;by_cases hm:m<z
   ·rw[List.getElem?_take_of_lt hm,List.getElem?_drop,<-Gr aw ao hm,<-cd,List.getElem?_take_of_lt (by omega),List.getElem?_drop];congr 1; omega
   ·rw[List.getElem?_eq_none (by simp; omega),List.getElem?_eq_none (by omega)]
theorem eA.IP (h:eA z l v j es) (aF:∀ e∈es,mB e=true) :kM l v (tW z v es) :=by
 cases h with
 | nil j=>exact .flat _ rfl
 | ar j off n cap sz cs es ag al aC aw ah db cd=>
  show kM l _ (.bQ z es);have qK:off+n*z<=cs.length:=by rw[al]; have:=Nat.mul_le_mul_right z ah; omega
  refine .ar z j off n cap sz cs es ag aC aw (by omega) (fun i k e c c' ao hk dC=>?_);have av:i<es.length:=(List.getElem?_eq_some_iff.1 ao).1;have DL:k<z:=by rw[<-aw e (List.mem_of_getElem? ao)]; exact (List.getElem?_eq_some_iff.1 hk).1
  have aM:i*z+k<n*z:=by
   have:i*z+z<=es.length*z:=by rw[<-Nat.succ_mul]; exact Nat.mul_le_mul_right _ av
   rw[aC] at this; omega
  have h1:es.flatten[i*z+k]? = some c':=AD es aw i k e c' ao hk;rw[<-cd,List.getElem?_take_of_lt aM,List.getElem?_drop] at h1;rw[h1] at dC;cases dC;exact .flat _ (Gq (aF e (List.mem_of_getElem? ao)) k _ hk)
theorem eA.sq (h:eA z l v j es) (aF:∀ e∈es,bd e=true) :gh (bW l) v (tW z v es) :=by
 cases h with
 | nil j=>exact .same _ rfl
 | ar j off n cap sz cs es ag al aC aw ah db cd=>
  show gh (bW l) _ (.bQ z es);have qK:off+n*z<=cs.length:=by rw[al]; have:=Nat.mul_le_mul_right z ah; omega
  refine .ar z j off n cap sz cs es (ln.2 ag) aC aw (by omega) (fun i k e c c' ao hk dC=>?_);have av:i<es.length:=(List.getElem?_eq_some_iff.1 ao).1;have DL:k<z:=by rw[<-aw e (List.mem_of_getElem? ao)]; exact (List.getElem?_eq_some_iff.1 hk).1
  have aM:i*z+k<n*z:=by
   have:i*z+z<=es.length*z:=by rw[<-Nat.succ_mul]; exact Nat.mul_le_mul_right _ av
   rw[aC] at this; omega
  have h1:es.flatten[i*z+k]? = some c':=AD es aw i k e c' ao hk;rw[<-cd,List.getElem?_take_of_lt aM,List.getElem?_drop] at h1;rw[h1] at dC;cases dC;exact .same _ (CM (aF e (List.mem_of_getElem? ao)) k _ hk)
theorem eA.rd (h:eA z l v j es) (aF:∀ e∈es,bd e=true) :Rd l v (tW z v es) :=by
 cases h with
 | nil j=>exact .same _ rfl
 | ar j off n cap sz cs es ag al aC aw ah db cd=>
  show Rd l _ (.bQ z es);have qK:off+n*z<=cs.length:=by rw[al]; have:=Nat.mul_le_mul_right z ah; omega
  refine .ar z j off n cap sz cs es ag aC aw (by omega) (fun i k e c c' ao hk dC=>?_);have av:i<es.length:=(List.getElem?_eq_some_iff.1 ao).1;have DL:k<z:=by rw[<-aw e (List.mem_of_getElem? ao)]; exact (List.getElem?_eq_some_iff.1 hk).1
  have aM:i*z+k<n*z:=by
   have:i*z+z<=es.length*z:=by rw[<-Nat.succ_mul]; exact Nat.mul_le_mul_right _ av
   rw[aC] at this; omega
  have h1:es.flatten[i*z+k]? = some c':=AD es aw i k e c' ao hk;rw[<-cd,List.getElem?_take_of_lt aM,List.getElem?_drop] at h1;rw[h1] at dC;cases dC;exact .same _ (CM (aF e (List.mem_of_getElem? ao)) k _ hk)
theorem eA.ow {α:Type} {enc:α->List U} {xs:List α} (h:eA z l v j (xs.map enc)) (aF:∀ x,bd (enc x)=true) (s:cQ α) (ak:cw v=s.isNone) (af:s.l=xs) :Rd l v (cB z enc s) :=by
 have h1:=h.rd (fun e ao=>by obtain⟨x,_,rfl⟩:=List.mem_map.1 ao; exact aF x);subst af;unfold tW at h1;rw[ak] at h1;cases s with
 | none=>exact h1
 | some s=>exact h1
theorem eA.E1 {α:Type} {enc:α->List U} {xs:List α} (h:eA z l v j (xs.map enc)) (aF:∀ x,mB (enc x)=true) (s:cQ α) (ak:cw v=s.isNone) (af:s.l=xs) :kM l v (cB z enc s) :=by
 have h1:=h.IP (fun e ao=>by obtain⟨x,_,rfl⟩:=List.mem_map.1 ao; exact aF x);subst af;unfold tW at h1;rw[ak] at h1;cases s with
 | none=>exact h1
 | some s=>exact h1
theorem eA.nA {α:Type} {enc:α->List U} {xs:List α} (h:eA z l v j (xs.map enc)) (aF:∀ x,bd (enc x)=true) (s:cQ α) (ak:cw v=s.isNone) (af:s.l=xs) :gh (bW l) v (cB z enc s) :=by
 have h1:=h.sq (fun e ao=>by obtain⟨x,_,rfl⟩:=List.mem_map.1 ao; exact aF x);subst af;unfold tW at h1;rw[ak] at h1;cases s with
 | none=>exact h1
 | some s=>exact h1
end
theorem aca {P:Program} {t:TypeId} {xs bh:List U} {r:Bool} (aq:P.eqGuardType P.depth t=false) (h:eZ P 10000 t (.aH xs) (.aH bh)=some r) :gH P .eql t (.aH xs) (.aH bh)=some (.bool r) :=by
 simp only[gH,yl,aq,Bool.not_false,if_true,h]; rfl
theorem acb {P:Program} {t:TypeId} {xs bh:List U} {r:Bool} (aq:P.eqGuardType P.depth t=false) (h:eZ P 10000 t (.aH xs) (.aH bh)=some r) :gH P .neq t (.aH xs) (.aH bh)=some (.bool (!r)) :=by
 simp only[gH,yl,aq,Bool.not_false,if_true,h]; rfl
end Go.cb

namespace Go.cb
open Go Go.ChangeShapes Go.RowKit
theorem akU (k:Nat) :¬ mw aQ.empty (fun _=>none) k:=by
 rintro⟨b,m,al,_,_⟩;simp[aQ.empty,aQ.f,live,cR.get] at al
theorem aeD {H:Type} {enc:TypeId × Value->H} {P:Program} {w:World} {base:Nat} {spare:Nat->Bool} {held:Bool} {fuel:Nat} {XH:String} {g t e n:Nat} {cs:Array Value} {x:DataW H × List MemPlace} (bT:List Int)
  (aq:P.globalNamed XH=some g) (au:w.var? P XH=some cs) (aN:P.underlying t=some (.array n e)) (ao:P.underlying e=some (.int .u32)) (ah:P.cellsOf e=1) (bC:DataW.trod enc P w base spare held fuel t cs.toList=some x)
  (af:x.1=.agg (bT.map fun k=>.lit (.int .u32 k))) :fP w (fun _=>True) (.b3 (bT.map fun k=>.int .u32 k) 0) (.pointer (some ⟨g,0,none⟩)) :=by
 obtain⟨xs,m,rfl,Bo,bn,aC,agu⟩:=DataW.trod_array aN bC;rw[Bo] at af;simp only[DataW.agg.injEq] at af;have th:bT.length=n:=by have:=congrArg List.length af; simp at this; omega
 have nh:∀ j k,bT[j]? = some k->w.cell? ⟨g,j,none⟩=some (.int .u32 k) :=by
  intro j k ai;have kX:j<n:=by have:=(avP.1 ai).1; omega
  have h1:=agu j kX;rw[ah,axn] at h1;have VA:j<xs.length:=by omega
  rw[avS VA] at h1;obtain⟨k',aR,bJ,_⟩:=DataW.trod_int ao h1;have aj:=congrArg (fun l=>l[j]?) af;simp only[avV,avS VA,ai,avZ,Option.some.injEq] at aj;rw[bJ] at aj;have pC:k'=k:=by simpa using aj
  subst pC;have aE:=World.var?_cell aq au j;rw[aE];have aX:(cs.toList.drop j)[0]? = some (Value.int .u32 k') :=by
   have:((cs.toList.drop j).take 1)[0]? = some (Value.int .u32 k') :=by rw[aR]; rfl
   rw[List.getElem?_take] at this;simpa using this
  rw[awv] at aX;simpa using aX
 refine .b3 _ 0 g 0 (fun j=>.int .u32 (bT.getD j 0)) (fun j ai=>?_) (fun j c ai=>?_)
 ·rw[av8] at ai;refine⟨?_,rfl,trivial,akU g⟩;rw[axa,nh j bT[j] (avS ai),awe,avS ai];rfl
 ·rw[avV] at ai;cases hk:bT[j]? with
  | none=>rw[hk] at ai; cases ai
  | some k=>
   rw[hk] at ai;cases ai;rw[awe,hk];exact .int _ _
theorem aad {H:Type} {enc:TypeId × Value->H} {P:Program} {w:World} {base:Nat} {spare:Nat->Bool} {held:Bool}:∀ {ts:List TypeId} {vs:List Value} {io:List (DataW H)} {cU:List MemPlace},
  DataW.TrodAll enc P w base spare held ts vs io cU->io.length=ts.length
 | [],vs,io,cU,h=>by obtain⟨rfl,rfl,rfl⟩:=trodAll_nil h; rfl
 | t::ts,vs,io,cU,h=>by
  obtain⟨v,aoy,d,adu,a,b,rfl,rfl,rfl,h1,ad⟩:=trodAll_cons h;simp[aad ad]
end Go.cb

namespace Go.cb
open Go
def tI:List (FuncId × Bool × (List U->Option U))->rq
 | [],_=>none
 | e::r,f=>match Nat.beq f e.1 with | true=>some e.2 | false=>tI r f
abbrev uo (P:Program) (G:Nat->U) (e:FuncId × Bool × (List U->Option U)) :Prop:=∀ args r,e.2.2 args=some r->bz P G e.1 args r/\(e.2.1=true->jZ P G e.1 args r)
theorem xx {P:Program} {G:Nat->U}:∀ {l:List (FuncId × Bool × (List U->Option U))},(∀ e∈l,uo P G e)->Cm P G (tI l)
 | [],_,f,n,g,args,r,aF,_=>by cases aF
 | e::l,h,f,n,g,args,r,aF,aq=>by
  unfold tI at aF;split at aF
  ·rename_i ag;have:=awK ag;subst this;have ao:e.2=(n,g) :=Option.some.inj aF;have:=h e (by simp) args r (by rw[ao]; exact aq);rw[ao] at this;exact this
  ·exact xx (fun x af=>h x (by simp[af])) f n g args r aF aq
def oJ (P:Program) (G:Nat->U) :List (FuncId × Bool × (List U->Option U))->Prop
 | []=>True
 | e::r=>uo P G e/\oJ P G r
theorem oJ.mem {P:Program} {G:Nat->U}:∀ {l:List (FuncId × Bool × (List U->Option U))},oJ P G l->∀ e∈l,uo P G e
 | e::l,h,x,af=>by
  rcases awA.1 af with rfl | af
  ·exact h.1
  ·exact oJ.mem h.2 x af
theorem yc {P:Program} {G:Nat->U}:oJ P G [] :=trivial
theorem oL {P:Program} {G:Nat->U} {e:FuncId × Bool × (List U->Option U)} {l:List (FuncId × Bool × (List U->Option U))} (h:uo P G e) (ad:oJ P G l) :oJ P G (e::l) :=⟨h,ad⟩
def BJ:List (List U × U)->List U->Option U
 | [],_=>none
 | e::r,args=>match fD args e.1 with | true=>some e.2 | false=>BJ r args
def Ce (P:Program) (G:Nat->U) (f:FuncId) :List (List U × U)->Prop
 | []=>True
 | e::r=>jZ P G f e.1 e.2/\Ce P G f r
theorem JR {P:Program} {G:Nat->U} {f:FuncId}:Ce P G f [] :=trivial
theorem Ad {P:Program} {G:Nat->U} {f:FuncId} {a:List U} {r:U} {l:List (List U × U)} (h:jZ P G f a r) (ad:Ce P G f l) :Ce P G f ((a,r) ::l) :=⟨h,ad⟩
theorem IB {P:Program} {G:Nat->U} {f:FuncId}:∀ {l:List (List U × U)},Ce P G f l->uo P G (f,true,BJ l)
 | [],_,args,r,h=>by cases h
 | e::l,hk,args,r,h=>by
  simp only[BJ] at h;split at h
  ·rename_i ag;cases h;rw[uz ag];exact⟨hk.1.Fm,fun _=>hk.1⟩
  ·exact IB hk.2 args r h
def dt (l:List Nat) :List U:=l.map fun n=>.int .u8 (.ofNat n)
def nr (n:Int) :U:=.int .i64 n
def hy (l:List U) :List (List U) :=l.map fun c=>[c]
end Go.cb

namespace Go.cb
open Go Go.Proofs Go.Shelf Go.Sort Go.RowKit
def zB:U->Bool | .bool _=>true | .int _ _=>true | .str _=>true | _=>false
def valOf:U->Value | .bool b=>.bool b | .int k n=>.int k n | .str s=>.string ⟨s.toArray⟩ | _=>.bool false
theorem aow {w:World} {R:Nat->Prop} {h:aQ} {μ:cX} {c:U} {v:Value} (ay:zB c=true) (au:aS w R h μ c v) :v=valOf c:=by
 cases au with
 | bool b=>rfl
 | int k n=>rfl
 | str bs=>obtain⟨⟨l⟩⟩:=bs; rfl
 | bad=>cases ay
 | _=>cases ay
theorem Yd {w:World} {R:Nat->Prop} {h:aQ} {μ:cX} {c:U} (ay:zB c=true) :aS w R h μ c (valOf c) :=by
 cases c with
 | bool b=>exact .bool b
 | int k n=>exact .int k n
 | str s=>exact (.str ⟨s.toArray⟩:aS w R h μ (.str (ByteArray.mk s.toArray).data.toList) _)
 | _=>cases ay
theorem Jj (c:U) :(valOf c).oneCell'=true:=by cases c<;>rfl
theorem acK {w W:World} {b o:Nat} (h:W.heap[b]? = w.heap[b]?) :W.cell? ⟨b,o,none⟩=w.cell? ⟨b,o,none⟩:=by simp[World.cell?,h]
theorem acL {w:World} {b o:Nat} {v:Value} (h:w.cell? ⟨b,o,none⟩=some v) :b<w.heap.size:=by
 apply Decidable.byContradiction;intro aC;simp only[World.cell?] at h;rw[axs (by omega)] at h;cases h
theorem aov {w W:World} {A:Nat->Prop} (cN:∀ k,A k->k<w.heap.size->W.heap[k]? = w.heap[k]?) {c:U} {v:Value} (au:fP w A c v) :fP W A c v:=by
 unfold fP at au ⊢;generalize aG:aQ.empty=aD at au ⊢;generalize hm:(fun _=>none:cX)=sD at au ⊢;have sU:∀ {b o:Nat} {v:Value},Cell w A aD sD b o v->Cell W A aD sD b o v:=fun {b o v} k=>⟨(acK (cN b k.ro (acL k.here))).trans k.here,k.one,k.ro,k.free⟩
 induction au with
 | bool b=>exact .bool b
 | int k n=>exact .int k n
 | str bs=>exact .str bs
 | jU=>exact .jU
 | aT=>exact .aT
 | ia=>exact .ia
 | jS=>exact .jS
 | jT=>exact .jT
 | aH cs vs al h1 au aJ=>exact .aH cs vs al h1 aJ
 | bG cs vs al au aJ=>exact .bG cs vs al aJ
 | ptr b off sz cs m ag iT=>subst hm; cases iT
 | nw b off sz a aq=>exact .nw b off sz a aq
 | b3 cs off blk o eI ah au aJ=>exact .b3 cs off blk o eI (fun j ai=>sU (ah j ai)) aJ
 | ar z b off len cap sz cap' cs m ag iT al ap ah=>subst hm; cases iT
 | gR z b off len cap sz cap' a al ah aq=>exact .gR z b off len cap sz cap' a al ah aq
 | ig z b off sz a cs m ag iT=>subst hm; cases iT
 | bQ z es blk off cap eI al aw ah au aJ=>exact .bQ z es blk off cap eI al aw (fun i j av ai=>sU (ah i j av ai)) aJ
 | fY z a cap=>exact .fY z a cap
 | fn f first gi fs cs aF ah h1 ad ds h8=>exact .fn f first gi fs cs aF ah ds h8
 | mp b m ag iT=>subst hm; cases iT
 | it b m ag iT=>subst hm; cases iT
 | g0 t c v au aJ=>exact .g0 t c v aJ
 | m5 l=>exact .m5 l
 | bad v=>exact .bad v
theorem ach {W w' : World} (h:z1 W w') :∃ q os,w'=grow (W.drewN q) os:=by
 refine⟨w'.drawn - W.drawn,w'.heap.extract W.heap.size,?_⟩;have bC:=h.drawn;have ak:=h.size;obtain⟨Hg,anK,Ku,NW,akL⟩:=w';obtain⟨heap,tape,drawn,os,out⟩:=W;have aR:NW=os:=h.os;have bJ:anK=tape:=h.tape;have dF:akL=out:=h.output;subst aR bJ dF;have kP:Hg=heap++Hg.extract heap.size:=by
  apply Array.ext_getElem?;intro k;rw[Array.getElem?_append];split
  ·rename_i hk;exact h.block k hk
  ·rename_i hk;rw[Array.getElem?_extract];have tn:heap.size<=Hg.size:=ak;by_cases h4:k<Hg.size
   ·rw[if_pos (by omega),show heap.size+(k - heap.size)=k by omega]
   ·rw[if_neg (by omega),axs (by omega)]
 have CU:Ku=drawn+(Ku - drawn) :=by
  have:drawn<=Ku:=bC;omega
 unfold grow World.drewN;simp only;rw[<-kP,<-CU]
def FE (P:Program) (f g:FuncId) (k:Nat) {X:Type} [Inhabited X] (eb:X->List Value) (il:X->X->Int) :Prop:=
 ∀ (blk off cap:Nat) (d:Array X) (w:World),CmpLays P g #[] eb k il blk off d.size w->HoldsK eb k w blk off d->blk<w.heap.size->d.size<4611686018427387904->
  Calls P f #[.slice (some ⟨blk,off,none⟩) d.size cap,.func (.func g) #[] #[]] w fun e w'=>e=.returned (.tuple #[])/\∃ rB n os,PermIn 0 d.size d rB/\SortedIn (ltOf il) 0 d.size rB/\w'=sortWorldK eb k w blk off n rB os
def sorted {X:Type} (il:X->X->Int) (xs:List X) :List X:=xs.mergeSort fun x y=>!ltOf il y x
theorem ZE {X:Type} (il:X->X->Int) (xs:List X) :(sorted il xs).length=xs.length:=List.length_mergeSort _
section
variable {P:Program} {G:Nat->U} {X:Type} {enc:X->List U} {k:Nat}
theorem E6 (hk:∀ x,(enc x).length=k) (xs:List X) {j:Nat} (ai:j<xs.length*k) :∃ x c,xs[j / k]? = some x/\(enc x)[j % k]? = some c/\((xs.map enc).flatten)[j]? = some c:=by
 have pB:0<k:=Nat.pos_of_ne_zero fun h=>by subst h; simp at ai
 have h1:j / k<xs.length:=Nat.div_lt_of_lt_mul (by rw[ayP]; exact ai);have ad:j % k<k:=axK _ pB;refine⟨xs[j / k],(enc xs[j / k])[j % k]'(by rw[hk]; exact ad),avS h1,avS _,?_⟩;have aj:(xs.map enc)[j / k]? = some (enc xs[j / k]) :=by rw[avV,avS h1]; rfl
 have aE:=Gr (z:=k) (fun e ao=>by obtain⟨x,_,rfl⟩:=awf.1 ao; exact hk x) aj ad;rw[ayP,Nat.div_add_mod] at aE;rw[aE];exact avS _
theorem TN [Inhabited X] (hk:∀ x,(enc x).length=k) (xs:List X) {j:Nat} (ai:j<xs.length*k) {c:U} (ah:((xs.map enc).flatten)[j]? = some c) :(flatK (fun x=>(enc x).map valOf) k xs.toArray)[j]! = valOf c:=by
 obtain⟨x,c',h1,ad,aj⟩:=E6 hk xs ai;rw[aj] at ah; cases ah;rw[get_flatK _ _ _ _ (by simpa using ai)];have aE:xs.toArray[j / k]! = x:=by
  have aM:=(avP.1 h1).1;rw[getElem!_pos _ _ (by simpa using aM)];simpa using (avP.1 h1).2
 rw[aE];obtain⟨aX,bw⟩:=avP.1 ad;rw[getElem!_pos _ _ (by simpa using aX)];simp[bw]
theorem am7 [Inhabited X] {f g b off len cap sz:Nat} {cs:List U} {xs:List X} {h:aQ} (il:X->X->Int) (eT:FE P f g k (fun x=>(enc x).map valOf) il) (du:SWO (ltOf il)) (Ly:∀ x y,ltOf il x y=false->ltOf il y x=false->x=y)
  (hk:∀ x,(enc x).length=k) (ay:∀ x,∀ c∈enc x,zB c=true) (rP:∀ x y,bz P G g [.aH (enc x),.aH (enc y)] (.int .i64 (il x y)))
  (ag:h.f b=.cells sz cs) (bn:xs.length=len) (h1:0<len) (pt:len<4611686018427387904) (cd:(cs.drop off).take (len*k)=(xs.map enc).flatten) (ec:off+len*k<=sz) :
  sG P G f [.ar k b off len cap sz,.fn g [] []] h (.bG []) (h.set b (.cells sz (bt cs off ((sorted il xs).map enc).flatten))) :=by
 intro R B w μ vs rel Gw al au;obtain⟨pc⟩:=vs
 match pc,al with
 | [v0,fk],_=>
 have iU:=au 0 _ v0 rfl rfl;have mU:=au 1 _ fk rfl rfl;have aik:¬ vT h b sz:=by
  rintro (aD | ⟨n,oO,aD,ad⟩)
  ·rw[ag] at aD; cases aD
  ·rw[ag] at aD; cases aD; omega
 cases mU with
 | fn _ _ _ fs uH aF ah _ _=>
 have nj:fs=#[] :=axS aF;have jc:uH=#[] :=axS ah;subst nj jc;cases iU with
 | gR _ _ _ _ _ _ _ _ _ _ aq=>exact absurd aq aik
 | ig=>omega
 | ar _ _ _ _ _ _ cap' oO m j5 hm mP ap dC=>
 rw[ag] at j5; cases j5;have hblk:=rel.blk b m hm;rw[ag] at hblk;obtain⟨ej,eE,arr,e,gy,az,bM,mM,jE⟩:=hblk;have lx:live (h.f b)=true:=by rw[ag]; rfl
 have gK:mw h μ m.r:=⟨b,m,lx,hm,rfl⟩
 have Mf:=rel.lt lx hm;have pC:∀ j,j<len*k->∃ c,((xs.map enc).flatten)[j]? = some c/\cs[off+j]? = some c/\zB c=true:=by
  intro j ai;obtain⟨x,c,aP,aU,a8⟩:=E6 hk xs (by rw[bn]; exact ai);refine⟨c,a8,?_,ay x c (avY aU)⟩;rw[<-cd,awb ai,awv] at a8;exact a8
 have hH:HoldsK (fun x=>(enc x).map valOf) k w m.r (m.s+off) xs.toArray:=by
  intro j ai;rw[size_flatK] at ai;have dv:j<len*k:=by simpa [bn] using ai
  obtain⟨c,aP,aU,a8⟩:=pC j dv;obtain⟨v,bA,bi,b8⟩:=jE (off+j) c aU;have aM:m.s+off+j<arr.size:=by
   have:=(awq.1 bA).1;omega
  constructor
  ·simp only[World.cell?,az,axR];rw[TN hk xs (by rw[bn]; exact dv) aP,<-aow a8 b8,axu];exact bA
  ·simp only[World.frozen?,az];rcases mM with aD | aD
   ·subst aD; simp
   ·simp; intro aj; omega
 have agc:CmpLays P g #[] (fun x=>(enc x).map valOf) k il m.r (m.s+off) xs.toArray.size w:=by
  intro n os adl AX x y;obtain⟨W,dT⟩:∃ W,W=sortWorldK (fun x=>(enc x).map valOf) k w m.r (m.s+off) n adl os:=⟨_,rfl⟩
  have afG:∀ i,i≠m.r->i<w.heap.size->W.heap[i]? = w.heap[i]?:=by
   intro i av aM;rw[dT];show (((w.heap.modify m.r _)++os))[i]? = _;rw[awX (by simpa using aM),axY,if_neg (fun h=>av h.symm)]
  rw[<-dT];have cN:∀ i,(R i/\¬ mw h μ i)->i<w.heap.size->W.heap[i]? = w.heap[i]?:=fun i av aM=>afG i (fun ao=>av.2 (by rw[ao]; exact gK)) aM
  have key:=rP x y W (fun i=>R i/\¬ mw h μ i) #[.agg ((enc x).map valOf).toArray,.agg ((enc y).map valOf).toArray] (fun Ul=>aov cN (ye (Gw Ul).2 (Gw Ul).1)) rfl (fun j c v ai fK=>by
   have one:∀ z:X,fP W (fun i=>R i/\¬ mw h μ i) (.aH (enc z)) (.agg ((enc z).map valOf).toArray) :=fun z=>by
    refine .aH _ _ (by simp) (fun i v av=>?_) (fun i c v av Vx=>?_)
    ·simp only[ayp,avV,ayj] at av;obtain⟨c,_,rfl⟩:=av;exact Jj c
    ·simp only[ayp,avV,ayj] at Vx;obtain⟨c',aj,rfl⟩:=Vx;rw[av] at aj; cases aj;exact Yd (ay z c (avY av))
   match j with
   | 0=>simp at ai fK; subst ai fK; exact one x
   | 1=>simp at ai fK; subst ai fK; exact one y
   | j+2=>simp at ai)
  refine key.mono ?_;rintro e w' ⟨v,rfl,eU,ma⟩;obtain⟨q,NW,rfl⟩:=ach eU;cases ma;exact⟨rfl,q,NW,rfl⟩
 have j6:=eT m.r (m.s+off) cap' xs.toArray w agc hH Mf (by simpa [bn] using pt);have qR:((xs.toArray.size:Nat) :Int)=(len:Int) :=by simp[bn]
 rw[show (xs.toArray.size)=len by simp[bn]] at j6;refine j6.mono ?_;rintro fH w' ⟨rfl,rB,n,os,mJ,dQ,rfl⟩;have qA:rB.toList=sorted il xs:=by
  have:=sorted_unique_holds du Ly xs.toArray rB (by simpa [bn] using mJ) (by simpa [bn] using dQ);simpa [sorted] using this
 obtain⟨bh,Eb⟩:∃ bh,bh=sorted il xs:=⟨_,rfl⟩
 rw[<-Eb] at qA ⊢;have cg:bh.length=len:=by rw[Eb,ZE,bn]
 have LM:rB=bh.toArray:=by rw[<-qA]
 subst LM;have fc:((bh.map enc).flatten).length=len*k:=by
  have:∀ l:List X,((l.map enc).flatten).length=l.length*k:=fun l=>by
   induction l with
   | nil=>simp
   | cons a l aJ=>simp only[awn,awT,avW,aJ,hk,awa]; rw[awD]; omega
  rw[this,cg]
 obtain⟨b2,j9⟩:∃ b2,b2=putRowK (fun x=>(enc x).map valOf) k (Sort.ahead w n) m.r (m.s+off) bh.toArray:=⟨_,rfl⟩
 have kA:b2.heap=w.heap.modify m.r (onCells (putCells id (m.s+off) (flatK (fun x=>(enc x).map valOf) k bh.toArray))) :=by rw[j9]; rfl
 have He:off<=cs.length:=by omega
 obtain⟨ex,q7⟩:=rel.write (w':=b2) (sz':=sz) (cs':=bt cs off ((bh.map enc).flatten)) (arr':=putCells id (m.s+off) (flatK (fun x=>(enc x).map valOf) k bh.toArray) arr) ag hm az bM mM (by rw[j9]; rfl) (by rw[j9]; rfl) (by rw[j9]; rfl) (by rw[kA]; simp)
  (by rw[kA,axY,if_pos rfl,az]; rfl) (fun i av=>by rw[kA,axY,if_neg (fun h=>av h.symm)]) (by simp[putCells])
  (by rw[sv He,fc]; omega) (avR _) eE (fun j c ai=>by
   rw[O1 He,fc] at ai;have ed:(putCells id (m.s+off) (flatK (fun x=>(enc x).map valOf) k bh.toArray) arr)[m.s+j]? = (arr[m.s+j]?).map fun x=>if m.s+off<=m.s+j/\m.s+j<m.s+off+(flatK (fun x=>(enc x).map valOf) k bh.toArray).size then (flatK (fun x=>(enc x).map valOf) k bh.toArray)[m.s+j - (m.s+off)]! else x:=by
    unfold putCells; rw[Array.getElem?_mapIdx]; rfl
   rw[size_flatK] at ed;by_cases A3:j<off
   ·rw[if_pos A3] at ai;obtain⟨v,bA,bi,b8⟩:=jE j c ai;refine⟨v,?_,bi,b8⟩;rw[ed,bA,avZ,if_neg (by omega)]
   ·rw[if_neg A3] at ai;by_cases jJ:j<off+len*k
    ·rw[if_pos jJ] at ai;have e7:j - off<len*k:=by omega
     obtain⟨yd,aP,aU,a8⟩:=pC (j - off) e7;rw[show off+(j - off)=j by omega] at aU;obtain⟨v,bA,bi,b8⟩:=jE j yd aU;obtain⟨x,cZ,aR,bJ,dF⟩:=E6 hk bh (j:=j - off) (by rw[cg]; exact e7);rw[dF] at ai; cases ai;refine⟨valOf c,?_,Jj c,Yd (ay x c (avY bJ))⟩;rw[ed,bA,avZ,if_pos (by simp[cg]; omega),show m.s+j - (m.s+off)=j - off by omega,TN hk bh (by rw[cg]; exact e7) dF]
    ·rw[if_neg jJ] at ai;obtain⟨v,bA,bi,b8⟩:=jE j c ai;refine⟨v,?_,bi,b8⟩;rw[ed,bA,avZ,if_neg (by simp[cg]; omega)]) (by rw[j9]; exact Nat.le_add_right _ _)
 have LD:z1 b2 (grow b2 os) :=⟨⟨rfl,rfl,rfl,by simp[grow],fun i av=>by simp only[grow]; rw[awX av]⟩,avR _⟩
 obtain⟨wH,tV⟩:=E3 q7 LD;refine⟨_,μ,rfl,?_,?_,.bG [] #[] rfl (fun j c v ai _=>by simp at ai)⟩
 ·rw[j9] at ex wH; exact ex.trans wH
 ·rw[j9] at tV; exact tV
end

section
variable {P:Program} {G:Nat->U} {X:Type} {enc:X->List U} {k:Nat}
theorem Ze {k:Nat}:∀ {es:List (List U)},(∀ e∈es,e.length=k)->es.flatten.length=es.length*k
 | [],_=>by simp
 | e::es,h=>by
  rw[awT,avW,h e (by simp),Ze (fun x af=>h x (by simp[af])),awa,awD]; omega
theorem ZB [Inhabited X] {f g:Nat} (il:X->X->Int) (eT:FE P f g k (fun x=>(enc x).map valOf) il) (du:SWO (ltOf il)) (Ly:∀ x y,ltOf il x y=false->ltOf il y x=false->x=y)
  (hk:∀ x,(enc x).length=k) (ay:∀ x,∀ c∈enc x,zB c=true) (rP:∀ x y,bz P G g [.aH (enc x),.aH (enc y)] (.int .i64 (il x y)))
  {l:am} {v:U} {j:Nat} {xs:List X} (gK:eA k l v j (xs.map enc)) (pt:xs.length<4611686018427387904) {K:U->am->Prop}
  (aD:xs=[]->c7 P G f [v,.fn g [] []] l (c:=⟨K⟩))
  (aY:∀ l',l'.length=l.length->(∀ b,b≠j->l'[b]? = l[b]?)->eA k l' v j ((sorted il xs).map enc)->K (.bG []) l') :c7 P G f [v,.fn g [] []] l (c:=⟨K⟩) :=by
 cases xs with
 | nil=>exact aD rfl
 | cons x xs=>
 obtain⟨bh,Eb⟩:∃ bh,bh=x::xs:=⟨_,rfl⟩
 rw[<-Eb] at gK pt aY;have jL:0<bh.length:=by rw[Eb]; simp
 generalize jH:bh.map enc=es at gK;cases gK with
 | nil j=>rw[aw3] at jH; rw[jH] at jL; simp at jL
 | ar j off n cap sz cs es ag al aC aw ah db cd=>
 subst jH;have tk:bh.length=n:=by simpa using aC
 have dw:n*k<=cap*k:=avX _ ah;have e7:j<l.length:=(avP.1 ag).1;have ak:=am7 (P:=P) (G:=G) (cap:=cap) il eT du Ly hk ay rP (h:=bW l) (ln.2 ag) tk (by omega) (by omega) cd (by omega);rw[oK _ e7] at ak;refine⟨_,_,.ext ak,by simp,?_⟩;have ef:((sorted il bh).map enc).length=n:=by rw[av8,ZE,tk]
 have cJ:∀ e∈(sorted il bh).map enc,e.length=k:=fun e ao=>by obtain⟨x,_,rfl⟩:=awf.1 ao; exact hk x
 have fc:(((sorted il bh).map enc).flatten).length=n*k:=by rw[Ze cJ,ef]
 have He:off<=cs.length:=by omega
 refine aY _ (by simp) (fun b gZ=>by rw[av0 (fun h=>gZ h.symm)]) ?_;refine .ar j off n cap sz _ _ (av3 e7) (by rw[sv He,fc]; omega) ef cJ ah db ?_;unfold bt;have h1:(List.take off cs).length=off:=by rw[av1]; omega
 rw[awo,awE (by omega),aw1 (by omega),awI,awg (by omega),avO (by omega)]
end

end Go.cb

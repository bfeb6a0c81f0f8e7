/-
  The canonical machine, carried out on code without types (for calls without unknowns).
-/
import Derived.Test.YtobphgccoalchaaGreatDoorQe
import Derived.OpenShut
import Derived.Shelf.SlSortCmp.InsertionK
import Derived.Sort.LotA
set_option linter.unusedVariables false
set_option linter.unusedSimpArgs false
set_option linter.unnecessarySimpa false
namespace Go.b2
open Go
def XE (n:Nat) (h:aN) (p v:U) :Option aN:=
 match p,v.cells with
 | .ptr b off sz,some vs=>match h.f b with
  | .cells m cs=>if m=sz/\vs.length=n/\off+n<=m then some (h.set b (.cells m (bz cs off vs))) else none
  | _=>none
 | _,_=>none
def Em (h:aN) (z by_:Nat) (s:U) (xs:List U) (n:Nat) :Option (U × aN) :=
 if n=0 then (match s with | .a1 | .bD .. | .au ..=>some (s,h) | _=>none)
 else if z=0\/by_=0 then none else match s with
  | .a1=>if n*by_<=ct then some (.au z h.n 0 n n (n*z),h.push (.cells (n*z) xs)) else none
  | .au dm b off len cap sz=>match h.f b with
   | .cells m cs=>
    if m=sz/\z=dm/\(len+n)*by_<=ct then
     if len+n<=cap then some (.au z b off (len+n) cap sz,h.set b (.cells m (bz cs (off+len*z) xs)))
     else if off+cap*z<sz then some (.au z h.n 0 (len+n) (len+n) ((len+n)*z),h.push (.cells ((len+n)*z) ((cs.drop off).take (len*z)++xs)))
     else if off=0 then some (.au z b 0 (len+n) (len+n) ((len+n)*z),h.set b (.cells ((len+n)*z) (cs.take (len*z)++xs)))
     else some (.au z h.n 0 (len+n) (len+n) ((len+n)*z),(h.set b .dead).push (.cells ((len+n)*z) ((cs.drop off).take (len*z)++xs)))
    else none
   | _=>none
  | _=>none
def Rr (z:Nat) (h:aN) (d x:U) :Option (U × aN) :=
 match contents h z x with
 | none=>none
 | some (xs,n)=>match d with
  | .a1=>some (.int .i64 0,h)
  | .au dm b off len _ sz=>match h.f b with
   | .cells m cs=>if m=sz/\z=dm then some (.int .i64 ((min n len:Nat) :Int),h.set b (.cells m (bz cs off (xs.take (min n len*z))))) else none
   | _=>none
  | _=>none
def Q8 (zero:List U) (h:aN) :U->Option aN
 | .a1=>some h
 | .bD _ []=>some h
 | .au z b off len _ sz=>if len=0 then some h else match h.f b with
  | .cells m cs=>if m=sz/\zero.length=z then some (h.set b (.cells m (bz cs off (dk zero len)))) else none
  | _=>none
 | _=>none
def VP (z by_:Nat) (zero:List U) (h:aN) (l c:U) :Option (U × aN) :=match l,c with
 | .int _ l,.int _ c=>if 0<=l/\l<=c/\c<9223372036854775808/\by_*c<=ct then
   some (.au z h.n 0 l.toNat c.toNat (c.toNat*z),h.push (.cells (c.toNat*z) (dk zero c.toNat))) else none
 | _,_=>none
def Q2 (h:aN) (x:U) :Option U:=match x with
 | .a1=>some (.str [])
 | .str _=>none
 | x=>match contents h 1 x with | some (cs,_)=>(mP cs).map .str | none=>none
def On (h:aN) (z by_:Nat) (s x:U) :Option (U × aN) :=match contents h z x with
 | none=>none
 | some (xs,n)=>Em h z by_ s xs n
def Ou (h:aN) (z by_:Nat) (zero:List U) (s x:U) :Option (U × aN) :=match x with
 | .int _ n=>if 0<=n/\n<9223372036854775808/\n.toNat*by_<=ct then Em h z by_ s (dk zero n.toNat) n.toNat else none
 | _=>none
def Rg (h:aN) (x y:U) :Option U:=match r1 h x,r1 h y with
 | some a,some b=>some (.int .i64 (nI a b))
 | _,_=>none
def WR (h:aN) (x:U) :Option (U × aN) :=match x with
 | .str s=>some (.it h.n,h.push (.iter s 0))
 | _=>none
def Vu (h:aN) (x:U) :Option U:=match x with
 | .hA=>some (.int .i64 0)
 | .mp b=>match h.f b with | .map es _=>some (.int .i64 es.length) | _=>none
 | _=>none
def VA (P:Program) (h:aN) (cM:TypeId) (zero:U) (ok:Bool) (m k:U) :Option U:=
 match mapOf h m with
 | some es=>match kL P cM k with
  | false=>none
  | true=>match jd P cM k es 0 with
   | some (some (_,v))=>some (if ok then .bG [v,.bool true] else v)
   | some none=>some (if ok then .bG [zero,.bool false] else zero)
   | none=>none
 | none=>none
def VG (P:Program) (h:aN) (cM:TypeId) (m k v:U) :Option aN:=
 match m with
 | .mp b=>match h.f b with
  | .map es ey=>match kL P cM k with
   | false=>none
   | true=>match jd P cM k es 0 with
    | some (some (i,_))=>some (h.set b (.map (es.modify i fun e=>(k,v,e.2.2)) ey))
    | some none=>some (h.set b (.map (es++[(k,v,ey)]) (ey+1)))
    | none=>none
  | _=>none
 | _=>none
def hb (h:aN) (x:Option U) :Option (U × aN) :=match x with | some v=>some (v,h) | none=>none
section
variable (P:Program)
def Dk (aA:Operand->U) (h:aN) :da->Option (U × aN)
 | .fS x=>some (aA x,h)
 | .pick c a b=>hb h (Dz (aA c) (aA a) (aA b))
 | .alloc zero=>some (.ptr h.n 0 zero.length,h.push (.cells zero.length zero))
 | .box x=>match (aA x).cells with | some cs=>some (.ptr h.n 0 cs.length,h.push (.cells cs.length cs)) | none=>none
 | .Bt zero cE=>hb h ((pv zero (cE.map fun p=>(p.1,p.2.1,aA p.2.2))).map .aM)
 | .qF z zero len cE=>match hl (fun i=>some (i*z,z)) (dk zero len) (cE.map fun p=>(p.1,aA p.2)) with | some cs=>some (.au z h.n 0 len len (len*z),h.push (.cells (len*z) cs)) | none=>none
 | .ld1 a=>hb h (match reach h (aA a) with | some (cs,o)=>cs[o]? | none=>none)
 | .uv n a=>hb h (match reach h (aA a) with | some (cs,o)=>sX n cs o | none=>none)
 | .st n a x=>match XE n h (aA a) (aA x) with | some h'=>some (he,h') | none=>none
 | .Dm x=>hb h (yt (aA x))
 | .bin o t x y=>hb h (gi P o t (aA x) (aA y))
 | .un o x=>hb h (qs o (aA x))
 | .zh k x=>hb h (BF k (aA x))
 | .zp x=>hb h (EH (aA x))
 | .tC x=>hb h (Q2 h (aA x))
 | .zo x=>hb h (vt (aA x))
 | .ys t x=>some (.gA t (aA x),h)
 | .AU t z ok x=>hb h (AV t z ok (aA x))
 | .yr f a b=>some (.fn f (a.map aA) (b.map aA),h)
 | .rp z by_ zero a c=>VP z by_ zero h (aA a) (aA c)
 | .slice dd x cN av cG=>hb h (gg dd (aA x) (cN.map aA) (av.map aA) (cG.map aA))
 | .BZ off x=>hb h (mT (aA x) off)
 | .B0 off x=>hb h (B2 off (aA x))
 | .B1 n off x=>hb h (zz n off (aA x))
 | .Ak dd x i=>hb h (cj dd (aA x) (aA i))
 | .C7 n z x i=>hb h (C9 n z (aA x) (aA i))
 | .C8 n z x i=>hb h (Da n z (aA x) (aA i))
 | .Db x i=>hb h (yf (aA x) (aA i))
 | .ext x i=>hb h (BX (aA x) i)
 | .len dd x=>hb h (cP dd (aA x))
 | .cap dd x=>hb h (tB dd (aA x))
 | .app z by_ s x=>On h z by_ (aA s) (aA x)
 | .u7 z by_ zero s x=>Ou h z by_ zero (aA s) (aA x)
 | .vr z d x=>Rr z h (aA d) (aA x)
 | .vk zero x=>match Q8 zero h (aA x) with | some h'=>some (.bG [],h') | none=>none
 | .min x y=>hb h (Ar (aA x) (aA y))
 | .max x y=>hb h (uz (aA x) (aA y))
 | .uA x=>match x with
  | none=>some (.mp h.n,h.push (.map [] 0))
  | some o=>match asInt (aA o) with | some _=>some (.mp h.n,h.push (.map [] 0)) | none=>none
 | .ym cM zero ok m k=>hb h (VA P h cM zero ok (aA m) (aA k))
 | .wn cM m k x=>match VG P h cM (aA m) (aA k) (aA x) with | some h'=>some (he,h') | none=>none
 | .we x=>hb h (Vu h (aA x))
 | .wD x=>WR h (aA x)
 | .wq x=>Au h (aA x)
 | .cl f r7 x y=>match C5 f (aA r7) with | true=>hb h (Rg h (aA x) (aA y)) | false=>none
 | .stop=>none
end
def pc (r:U->Option U) :List U->Option (List U)
 | []=>some []
 | c::cs=>match r c with
  | some c'=>match pc r cs with
   | some cs'=>some (c'::cs')
   | none=>none
  | none=>none
def uK (h:aN) :Nat->U->Option U
 | 0,_=>none
 | d+1,c=>match c with
  | .aM cs=>match pc (uK h d) cs with | some cs'=>some (.aM cs') | none=>none
  | .bG cs=>match pc (uK h d) cs with | some cs'=>some (.bG cs') | none=>none
  | .au z b off len cap sz=>match Nat.beq len 0 with
   | true=>some (.bD z [])
   | false=>match h.f b with
    | .cells n cs=>match Nat.beq n sz&&Nat.ble (off+len*z) cs.length with
     | true=>match pc (uK h d) ((cs.drop off).take (len*z)) with
      | some xs=>some (.bD z (ly z len xs))
      | none=>none
     | false=>none
    | _=>none
  | .ptr b off sz=>match h.f b with
   | .cells n cs=>match Nat.beq n sz with
    | true=>match pc (uK h d) cs with | some cs'=>some (.b6 cs' off) | none=>none
    | false=>none
   | _=>none
  | c=>match c.closed with | true=>some c | false=>none
def OC (x:U) :Option Int:=match x with
 | .int k i=>match k with | .i64=>some i | _=>none
 | _=>none
def mo (z:Nat) (cs vs:List U) (i len:Nat) :List U:=cs.take (i*z)++vs++(cs.drop (i*z)).take ((len - i)*z)++cs.drop ((len+1)*z)
def C3 (z by_:Nat) (h:aN) (s:U) (i:Nat) (bv:Nat) (vs:List U) :Option (U × aN) :=match s with
 | .a1=>if i=0/\by_<=ct then some (.au z h.n 0 1 1 z,h.push (.cells z vs)) else none
 | .au hI b off len cap sz=>match h.f b with
  | .cells m cs=>if m=cap*z/\sz=cap*z/\hI=z/\off=0/\bv≠b/\i<=len/\len<=cap/\(len+1)*by_<=ct then
    some (.au z h.n 0 (len+1) (max cap (len+1)) (max cap (len+1)*z),(h.set b .dead).push (.cells (max cap (len+1)*z) (mo z cs vs i len))) else none
  | _=>none
 | _=>none
def sG (z by_:Nat) (args:List U) (h:aN) :Option (U × aN) :=match args with
 | [s,x,y]=>match OC x,y with
  | some i,.au fO bv n3 b5 cy hE=>match h.f bv with
   | .cells hr vs=>if fO=z/\n3=0/\b5=1/\cy=1/\hE=z/\hr=z/\0<=i then C3 z by_ h s i.toNat bv vs else none
   | _=>none
  | _,_=>none
 | _=>none
class qz (P:Program) (G:Nat->U) where
 get:FuncId->Option (Nat × Nat)
 ok:∀ f z by_,get f=some (z,by_)->∀ args h r h',sG z by_ args h=some (r,h')->rP P G f args h r h'
instance (priority:=10) asl (P:Program) (G:Nat->U) :qz P G:=⟨fun _=>none,fun f z by_ h=>by cases h⟩
abbrev oi:=FuncId->List U->aN->Option (U × aN)
abbrev H1:=Option (rO × gR × aN)
mutual
def a2.beq:a2->a2->Bool
 | .none,y=>match y with | .none=>true | _=>false
 | .dead,y=>match y with | .dead=>true | _=>false
 | .cells n cs,y=>match y with | .cells gY cs'=>Nat.beq n gY&&eU cs cs' | _=>false
 | .map ..,_=>false
 | .iter ..,_=>false
end

section
variable (P:Program) (G:Nat->U)
def Fe (s:gR) (g:Option (Option Tmp × Bool)) :Option Bool:=match g with
 | none=>some true
 | some (some d,w)=>match look s d with
  | .bool b=>some (b == w)
  | .bad=>none
  | _=>some false
 | some (none,_)=>some false
def Bq (call:oi) (b:qx) (s:gR) (h:aN) :Option (U × aN) :=match b with
 | .gE m=>Dk P (cR G (look s)) h m
 | .l5 f args=>call f (args.map (cR G (look s))) h
 | .mQ x args=>match cR G (look s) x with
  | .fn g first fI=>match je P g with
   | true=>call g (first++args.map (cR G (look s))++fI) h
   | false=>none
  | _=>none
 | .nH x name args=>match cR G (look s) x with
  | .gA t v=>match yq P t name with
   | some g=>match je P g with
    | true=>call g (v::args.map (cR G (look s))) h
    | false=>none
   | none=>none
  | _=>none
def DP (call:oi) :List eg->gR->aN->Option (gR × aN)
 | [],s,h=>some (s,h)
 | x::r,s,h=>match Fe s x.g with
  | some true=>match Bq P G call x.b s h with
   | some (v,h')=>DP call r (DD s x.dst v) h'
   | none=>none
  | some false=>DP call r (DD s x.dst he) h
  | none=>none
def HD (b:qx) (s:gR) (v:U) (h h' h1:aN) :Bool:=match b with
 | .gE m=>match m.iF with
  | true=>a2.beq (h1.f h.n) (h'.f h.n)
  | false=>match m.looks with
   | true=>match Dk P (cR G (look s)) h1 m with
    | some (aY,_)=>U.beq aY v
    | none=>false
   | false=>false
 | _=>true
def EC (ids:List Nat) (h:aN) :List (Nat × (aN->Bool))->Bool
 | []=>true
 | e::r=>(!ids.contains e.1||e.2 h)&&EC ids h r
def DO (call:oi) :List eg->gR->aN->List (Nat × (aN->Bool))->Option (gR × aN)
 | [],s,h,_=>some (s,h)
 | x::r,s,h,seen=>match Fe s x.g with
  | some true=>match Bq P G call x.b s h with
   | some (v,h')=>match EC x.hh h' seen with
    | true=>DO call r (DD s x.dst v) h' (match x.cq with | true=>(x.i,HD P G x.b s v h h') ::seen | false=>seen)
    | false=>none
   | none=>none
  | some false=>DO call r (DD s x.dst he) h seen
  | none=>none
def Q3 (call:oi) (aH:fF->gR->aN->H1) (c:fF) (s:gR) (h:aN) :H1:=
 match c with
 | .skip=>some (.normal,s,h)
 | .ret=>some (.ret,s,h)
 | .exit id=>some (.exit id,s,h)
 | .wA x=>match DP P G call x s h with
  | some (c9,h1)=>some (.normal,c9,h1)
  | none=>none
 | .xg x=>match DO P G call x s h [] with
  | some (c9,h1)=>some (.normal,c9,h1)
  | none=>none
 | .seq a b=>match aH a s h with
  | some (.normal,c9,h1)=>aH b c9 h1
  | r=>r
 | .cond c x y=>match cR G (look s) c with
  | .bool true=>aH x s h
  | .bool false=>aH y s h
  | _=>none
 | .block id c=>match aH c s h with
  | some (.exit sF,c9,h1)=>match Nat.beq sF id with
   | true=>some (.normal,c9,h1)
   | false=>some (.exit sF,c9,h1)
  | r=>r
 | .loop c=>match aH c s h with
  | some (.normal,c9,h1)=>aH (.loop c) c9 h1
  | r=>r
def EA (call:oi) :Nat->fF->gR->aN->H1
 | 0=>fun _ _ _=>none
 | k+1=>Q3 P G call (EA call k)
def DM (s:gR) (h:aN) :List da->List U->Option U
 | [],acc=>some (wP acc)
 | m::r,acc=>match Dk P (cR G (look s)) h m with
  | some (v,_)=>DM s h r (acc++[v])
  | none=>none
abbrev qA:=FuncId->Option (Bool × (List U->Option U))
abbrev u0:=FuncId->Option (fF × List da)
def Io (orc:qA) (f:FuncId) (args:List U) (h:aN) :Option U:=
 match orc f with
 | some (n,g)=>match pc (uK h 20) args with
  | some im=>match g im with
   | some r=>match n||r.flat with | true=>some r | false=>none
   | none=>none
  | none=>none
 | none=>none
def Q0 [qz P G] (orc:qA) (kT:u0) (fuel:Nat) (call:oi) :oi:=fun f args h=>
 match qz.get P G f with
 | some (z,by_)=>sG z by_ args h
 | none=>match Io orc f args h with
 | some r=>some (r,h)
 | none=>match kT f with
  | none=>none
  | some (c,nw)=>match EA P G call fuel c (Ax 0 .nil args) h with
   | some (.normal,e6,h')=>match DM P G e6 h' nw [] with | some r=>some (r,h') | none=>none
   | some (.ret,e6,h')=>match DM P G e6 h' nw [] with | some r=>some (r,h') | none=>none
   | _=>none
def BB [qz P G] (orc:qA) (kT:u0) (fuel:Nat) :Nat->oi
 | 0=>fun _ _ _=>none
 | k+1=>Q0 P G orc kT fuel (BB orc kT fuel k)
end
structure eE (h:aN) (l:am) :Prop where
 n:h.n=l.length
 f:∀ b,h.f b=(bU l).f b
theorem eE.nil:eE aN.empty [] :=⟨rfl,fun _=>rfl⟩
theorem eE.some {h:aN} {l:am} (r:eE h l) {b:Nat} {c:a2} (ah:h.f b=c) (aC:c≠.none) :l[b]? = some c:=by
 rw[r.f,mI] at ah;split at ah
 ·rename_i c' h1; rw[h1,ah]
 ·exact absurd ah.symm aC
theorem eE.push {h:aN} {l:am} (r:eE h l) (c:a2) :eE (h.push c) (l++[c]) :=
 ⟨by rw[ff,r.n]; simp,fun b=>by rw[eb,<-lY,eb,r.n,y1]; unfold bL; (split<;>first | rfl | exact r.f b)⟩
theorem eE.set {h:aN} {l:am} (r:eE h l) {b:Nat} {h5:a2} (ag:l[b]? = Option.some h5) (c:a2) :eE (h.set b c) (l.set b c) :=
 ⟨by rw[eL,r.n]; simp,fun bi=>by rw[dI,<-oo _ (fc ag),dI]; unfold bL; (split<;>first | rfl | exact r.f bi)⟩
section
variable {P:Program} {G:Nat->U} {h h' : aN} {l:am}
theorem eE.reach (r:eE h l) (p:U) :reach h p=eo l p:=by
 rw[<-MC];cases p<;>try rfl
 simp only[b2.reach,r.f]
theorem eE.contents (r:eE h l) (z:Nat) (x:U) :contents h z x=dp l z x:=by
 rw[<-BL];cases x<;>try rfl
 simp only[b2.contents,r.f]
theorem eE.mapOf (r:eE h l) (x:U) :mapOf h x=sL l x:=by
 cases x<;>try rfl
 rename_i b;simp only[b2.mapOf,sL,r.f,mI];cases l[b]? with
 | none=>rfl
 | some c=>cases c<;>rfl
theorem eE.bytes (r:eE h l) (x:U) :r1 h x=ow l x:=by
 cases x<;>simp only[r1,ow,r.contents]<;>rfl
theorem aiG {x:Option U} {v:U} (af:hb h x=some (v,h')) :x=some v/\h'=h:=by
 cases x with
 | none=>cases af
 | some y=>cases af; exact⟨rfl,rfl⟩
theorem yv (r:eE h l) {x y:Option U} {v:U} (kb:x=y) (af:hb h x=some (v,h')) :∃ l',dv l y=some (v,l')/\eE h' l':=by
 obtain⟨rfl,rfl⟩:=aiG af;exact⟨l,by rw[<-kb]; rfl,r⟩
theorem Ov (r:eE h l) {z by_ n:Nat} {s v:U} {xs:List U} (af:Em h z by_ s xs n=some (v,h')) :∃ l',h4 l z by_ s xs n=some (v,l')/\eE h' l':=by
 unfold Em at af;unfold h4;by_cases aC:n=0
 ·rw[if_pos aC] at af ⊢;cases s<;>simp at af ⊢<;>(obtain⟨rfl,rfl⟩:=af; exact⟨l,⟨rfl,rfl⟩,r⟩)
 ·rw[if_neg aC] at af ⊢;by_cases aE:z=0\/by_=0
  ·rw[if_pos aE] at af; cases af
  ·rw[if_neg aE] at af ⊢;cases s<;>simp only at af ⊢<;>try (cases af; done)
   case a1=>
    by_cases ax:n*by_<=ct
    ·rw[if_pos ax] at af ⊢; cases af; exact⟨_,by rw[r.n],r.push _⟩
    ·rw[if_neg ax] at af; cases af
   case au dm b off len cap sz=>
    cases ag:h.f b<;>rw[ag] at af<;>(try simp only at af)<;>try (cases af; done)
    rename_i m cs;have ak:=r.some ag (by simp);rw[ak];simp only;by_cases h1:m=sz/\z=dm/\(len+n)*by_<=ct
    ·rw[if_pos h1] at af ⊢;by_cases ad:len+n<=cap
     ·rw[if_pos ad] at af ⊢; cases af; exact⟨_,rfl,r.set ak _⟩
     ·rw[if_neg ad] at af ⊢;by_cases aj:off+cap*z<sz
      ·rw[if_pos aj] at af ⊢; cases af; exact⟨_,by rw[r.n],r.push _⟩
      ·rw[if_neg aj] at af ⊢;by_cases aF:off=0
       ·rw[if_pos aF] at af ⊢; cases af; exact⟨_,rfl,r.set ak _⟩
       ·rw[if_neg aF] at af ⊢; cases af; exact⟨_,by rw[r.n],(r.set ak _).push _⟩
    ·rw[if_neg h1] at af; cases af
theorem L0 (r:eE h l) {aA:Operand->U} {m:da} {v:U} (af:Dk P aA h m=some (v,h')) :∃ l',bO P aA l m=some (v,l')/\eE h' l':=by
 cases m<;>simp only[Dk] at af<;>simp only[bO]
 case fS=>cases af; exact⟨l,rfl,r⟩
 case alloc=>cases af; exact⟨_,by rw[r.n],r.push _⟩
 case box x=>
  cases ah:(aA x).cells with
  | none=>rw[ah] at af; cases af
  | some cs=>rw[ah] at af; cases af; exact⟨_,by simp only[Option.map_some,r.n],r.push _⟩
 case qF z zero n cE=>
  split at af
  ·rename_i cs ah; cases af; exact⟨_,by rw[ah]; simp only[Option.map_some,r.n],r.push _⟩
  ·cases af
 case ld1 a=>
  rw[r.reach] at af;refine yv r ?_ af;cases eo l (aA a)<;>rfl
 case uv n a=>
  rw[r.reach] at af;refine yv r ?_ af;cases eo l (aA a)<;>rfl
 case st n a x=>
  unfold XE at af;unfold jT;cases aB:aA a<;>rw[aB] at af<;>(try simp only at af)<;>try (cases af; done)
  rename_i b off sz;cases ah:(aA x).cells with
  | none=>rw[ah] at af; cases af
  | some vs=>
   rw[ah] at af;simp only at af ⊢;cases ag:h.f b<;>rw[ag] at af<;>(try simp only at af)<;>try (cases af; done)
   rename_i m cs;have ak:=r.some ag (by simp);rw[ak];simp only;by_cases h1:m=sz/\vs.length=n/\off+n<=m
   ·rw[if_pos h1] at af ⊢; cases af; exact⟨_,rfl,r.set ak _⟩
   ·rw[if_neg h1] at af; cases af
 case ys=>cases af; exact⟨l,rfl,r⟩
 case yr=>cases af; exact⟨l,rfl,r⟩
 case rp z by_ zero a c=>
  unfold VP at af;unfold rq;cases aB:aA a<;>rw[aB] at af<;>(try simp only at af)<;>try (cases af; done)
  cases ah:aA c<;>rw[ah] at af<;>(try simp only at af)<;>try (cases af; done)
  simp only;split at af
  ·rename_i h1; rw[if_pos h1]; cases af; exact⟨_,by rw[r.n],r.push _⟩
  ·cases af
 case tC x=>
  refine yv r ?_ af;unfold Q2 vg;cases aA x<;>simp only[r.contents]<;>rfl
 case app z by_ s x=>
  unfold On at af;unfold fz;rw[r.contents] at af;split at af
  ·cases af
  ·rename_i xs n ah; rw[ah]; exact Ov r af
 case u7 z by_ zero s x=>
  unfold Ou at af;unfold qE;cases ah:aA x<;>rw[ah] at af<;>(try simp only at af)<;>try (cases af; done)
  simp only;split at af
  ·rename_i h1; rw[if_pos h1]; exact Ov r af
  ·cases af
 case vr z d x=>
  unfold Rr at af;unfold zn;rw[r.contents] at af;split at af
  ·cases af
  ·rename_i xs n ah;rw[ah];simp only;cases bq:aA d<;>rw[bq] at af<;>(try simp only at af)<;>try (cases af; done)
   ·cases af; exact⟨l,rfl,r⟩
   ·rename_i dm b off len cap sz;cases ag:h.f b<;>rw[ag] at af<;>(try simp only at af)<;>try (cases af; done)
    rename_i m cs;have ak:=r.some ag (by simp);simp only[ak];split at af
    ·rename_i h1; rw[if_pos h1]; cases af; exact⟨_,rfl,r.set ak _⟩
    ·cases af
 case vk zero x=>
  unfold Q8 at af;unfold r3;cases bq:aA x<;>rw[bq] at af<;>(try simp only at af)<;>try (cases af; done)
  ·cases af; exact⟨l,rfl,r⟩
  ·rename_i z b off len cap sz;simp only;by_cases aE:len=0
   ·rw[if_pos aE] at af ⊢; cases af; exact⟨l,rfl,r⟩
   ·rw[if_neg aE] at af ⊢;cases ag:h.f b<;>rw[ag] at af<;>(try simp only at af)<;>try (cases af; done)
    rename_i m cs;have ak:=r.some ag (by simp);rw[ak];simp only;by_cases h1:m=sz/\zero.length=z
    ·rw[if_pos h1] at af ⊢; cases af; exact⟨_,rfl,r.set ak _⟩
    ·rw[if_neg h1] at af; cases af
  ·rename_i z es;cases es<;>simp only at af
   ·cases af; exact⟨l,rfl,r⟩
   ·cases af
 case uA x=>
  cases x with
  | none=>cases af; exact⟨_,by rw[r.n],r.push _⟩
  | some o=>
   simp only at af ⊢;split at af
   ·rename_i n aC; rw[aC]; cases af; exact⟨_,by simp only[r.n],r.push _⟩
   ·cases af
 case ym cM zero ok m k=>
  refine yv r ?_ af;unfold VA wi;rw[r.mapOf];split
  ·rename_i es iW; rw[iW]; rfl
  ·rename_i iW; rw[iW]
 case wn cM m k x=>
  unfold VG at af;unfold sM;cases hm:aA m<;>rw[hm] at af<;>(try simp only at af)<;>try (cases af; done)
  rename_i b;simp only;cases ag:h.f b<;>rw[ag] at af<;>(try simp only at af)<;>try (cases af; done)
  rename_i es ey;have ak:=r.some ag (by simp);rw[ak];simp only;cases hk:kL P cM (aA k)<;>rw[hk] at af<;>simp only at af
  ·cases af
  ·simp only;cases aD:jd P cM (aA k) es 0 with
   | none=>rw[aD] at af; cases af
   | some q=>
    rw[aD] at af;cases q with
    | none=>cases af; exact⟨_,rfl,r.set ak _⟩
    | some wb=>cases af; exact⟨_,rfl,r.set ak _⟩
 case we x=>
  refine yv r ?_ af;unfold Vu Dh;cases aA x<;>try rfl
  rename_i b;simp only[r.f,mI];cases l[b]? with
  | none=>rfl
  | some c=>cases c<;>rfl
 case wD x=>
  unfold WR at af;unfold AJ;cases bq:aA x<;>rw[bq] at af<;>(try simp only at af)<;>try (cases af; done)
  cases af; exact⟨_,by simp only[r.n],r.push _⟩
 case wq x=>
  unfold Au at af;unfold uC;cases bq:aA x<;>rw[bq] at af<;>(try simp only at af)<;>try (cases af; done)
  rename_i b;simp only;cases ag:h.f b<;>rw[ag] at af<;>(try simp only at af)<;>try (cases af; done)
  have ak:=r.some ag (by simp);rw[ak];simp only;split at af
  ·rename_i h1; rw[h1]; cases af; exact⟨_,rfl,r.set ak _⟩
  ·rename_i h1; rw[h1]; cases af; exact⟨_,rfl,r⟩
 case stop=>cases af
 case cl f r7 x y=>
  split at af
  ·rename_i h1;rw[h1];refine yv r ?_ af;unfold Rg cmpL;rw[r.bytes,r.bytes];cases ow l (aA x)<;>cases ow l (aA y)<;>rfl
  ·cases af
 all_goals exact yv r rfl af
theorem s2 {f:U->Option U}:∀ {cs cs' : List U},pc f cs=some cs'->cs'.length=cs.length
 | [],cs',h=>by cases h; rfl
 | c::cs,cs',h=>by
  unfold pc at h;split at h
  ·split at h
   ·rename_i h1; cases h; simp[s2 h1]
   ·cases h
  ·cases h
theorem s1 {f:U->Option U}:∀ {cs cs' : List U},pc f cs=some cs'->∀ (j:Nat) (c c' : U),cs[j]? = some c->cs'[j]? = some c'->f c=some c'
 | [],cs',h,j,c,c',ah,_=>by simp at ah
 | c::cs,cs',h,j,d,qI,bq,pP=>by
  unfold pc at h;split at h
  ·rename_i x af;split at h
   ·rename_i h1;cases h;cases j with
    | zero=>simp at bq pP; subst bq pP; exact af
    | succ j=>exact s1 h1 j d qI (by simpa using bq) (by simpa using pP)
   ·cases h
  ·cases h
theorem AK:∀ (d:Nat) (c c' : U),uK h d c=some c'->fH h c c'
 | 0,c,c',af=>by cases af
 | d+1,c,c',af=>by
  unfold uK at af;split at af
  ·split at af
   ·rename_i h1; cases af;exact .aM _ _ (s2 h1) (fun j c c' ah e3=>AK d c c' (s1 h1 j c c' ah e3))
   ·cases af
  ·split at af
   ·rename_i h1; cases af;exact .bG _ _ (s2 h1) (fun j c c' ah e3=>AK d c c' (s1 h1 j c c' ah e3))
   ·cases af
  ·rename_i z b off len cap sz;split at af
   ·rename_i aE;cases af;rw[Nat.eq_of_beq_eq_true aE];exact .rF z b off cap sz
   ·split at af
    ·rename_i n cs ag;split at af
     ·rename_i dG;simp only[Bool.and_eq_true] at dG;have aC:=Nat.eq_of_beq_eq_true dG.1;have dO:=Nat.le_of_ble_eq_true dG.2;subst aC;split at af
      ·rename_i xs h1;cases af;have bn:=s2 h1;simp only[List.length_take,List.length_drop] at bn;have ul:xs.length=len*z:=by omega
       have dr:∀ (i:Nat),i<len->(ly z len xs)[i]? = some ((xs.drop (i*z)).take z) :=fun i av=>ED len xs i av
       have dX:∀ i,i<len->i*z+z<=len*z:=fun i av=>by rw[<-Nat.succ_mul]; exact Nat.mul_le_mul_right _ av
       refine .au z b off len cap n cs _ ag (vh _ _) (fun e ao=>?_) dO (fun i j e c c' ao ai ah=>?_)
       ·obtain⟨i,av⟩:=List.mem_iff_getElem?.1 ao;have du:i<len:=by
         have:=(List.getElem?_eq_some_iff.1 av).1;rw[vh] at this; exact this
        rw[dr i du] at av;cases av;have:=dX i du;simp; omega
       ·have du:i<len:=by
         have:=(List.getElem?_eq_some_iff.1 ao).1;rw[vh] at this; exact this
        rw[dr i du] at ao;cases ao;have qW:=dX i du;have mf:j<z:=by have:=(List.getElem?_eq_some_iff.1 ai).1; simp at this; omega
        rw[List.getElem?_take_of_lt mf,List.getElem?_drop] at ai;refine AK d c c' (s1 h1 (i*z+j) c c' ?_ ai);rw[List.getElem?_take_of_lt (by omega),List.getElem?_drop];exact ah
      ·cases af
     ·cases af
    ·cases af
  ·rename_i b off sz;split at af
   ·rename_i n cs ag;split at af
    ·rename_i aC;split at af
     ·rename_i h1;cases af;rw[<-Nat.eq_of_beq_eq_true aC];exact .ptr b off n cs _ ag (s2 h1) (fun j c c' ah e3=>AK d c c' (s1 h1 j c c' ah e3))
     ·cases af
    ·cases af
   ·cases af
  ·split at af
   ·rename_i ah; cases af; exact .same _ ah
   ·cases af
theorem fH.rep (r:eE h l) {c c' : U} (ax:fH h c c') :fH (bU l) c c':=by
 induction ax with
 | same c ah=>exact .same c ah
 | aM cs cs' ak aq aH=>exact .aM cs cs' ak aH
 | bG cs cs' ak aq aH=>exact .bG cs cs' ak aH
 | au z b off len cap sz cs es ag ak aw eG aq aH=>exact .au z b off len cap sz cs es (by rw[<-r.f]; exact ag) ak aw eG aH
 | rF z b off cap sz=>exact .rF z b off cap sz
 | ptr b off sz cs cs' ag ak aq aH=>exact .ptr b off sz cs cs' (by rw[<-r.f]; exact ag) ak aH
def Bb (P:Program) (G:Nat->U) (call:oi) :Prop:=
 ∀ (f:FuncId) (args:List U) (h:aN) (v:U) (h' : aN) (l:am),eE h l->call f args h=some (v,h')->∃ l',eE h' l'/\∀ K:U->am->Prop,K v l'->c7 P G f args l (c:=⟨K⟩)
theorem agT {m:da} {v:U} {l:am} {K:U->am->Prop} (hk:K v l) :er m v l K:=by
 cases m<;>first | exact hk | exact .inl hk
theorem OH {call:oi} (ah:Bb P G call) (r:eE h l) {b:qx} {s:gR} {v:U} (af:Bq P G call b s h=some (v,h')) :
  ∃ l',eE h' l'/\(∀ K:U->am->Prop,K v l'->hG P G b (look s) l K)/\(∀ m,b=.gE m->bO P (cR G (look s)) l m=some (v,l')) :=by
 cases b with
 | gE m=>
  obtain⟨l',h1,ad⟩:=L0 r af;refine⟨l',ad,fun K aV=>?_,fun cn hm=>by cases hm; exact h1⟩;show W (bO P (cR G (look s)) l m) (c:=⟨fun x=>er m x.1 x.2 K⟩);rw[y6];exact⟨_,h1,agT aV⟩
 | l5 f args=>
  obtain⟨l',h1,ad⟩:=ah f _ h v h' l r af;exact⟨l',h1,ad,fun m hm=>by cases hm⟩
 | mQ x args=>
  simp only[Bq] at af;cases aD:cR G (look s) x<;>rw[aD] at af<;>(try simp only at af)<;>try (cases af; done)
  rename_i g first fI
  split at af
  ·rename_i j5;obtain⟨l',h1,ad⟩:=ah g _ h v h' l r af;refine⟨l',h1,fun K aV=>?_,fun m hm=>by cases hm⟩;show vf P G (cR G (look s) x) _ l (c:=⟨K⟩);unfold vf;rw[aD];exact⟨j5,ad K aV⟩
  ·cases af
 | nH x name args=>
  simp only[Bq] at af;cases aD:cR G (look s) x<;>rw[aD] at af<;>(try simp only at af)<;>try (cases af; done)
  rename_i t v0;split at af
  ·rename_i g hm;split at af
   ·rename_i j5;obtain⟨l',h1,ad⟩:=ah g _ h v h' l r af;refine⟨l',h1,fun K aV=>?_,fun m hm=>by cases hm⟩;show ve P G name (cR G (look s) x) _ l (c:=⟨K⟩);unfold ve;rw[aD];simp only[hm];exact⟨j5,ad K aV⟩
   ·cases af
  ·cases af
theorem Ff {s:gR} {g:Option (Option Tmp × Bool)} {b:Bool} (ar:Fe s g=some b) {p q:Prop} (hk:if b then p else q) :qa (look s) g p q:=by
 unfold Fe at ar;unfold qa;split at ar
 ·cases ar; exact hk
 ·rename_i d w;simp only[rc];split at ar
  ·rename_i x af;simp only[af];cases ar;unfold re;cases afV:(x == w)<;>rw[afV] at hk<;>simpa using hk
  ·cases ar
  ·rename_i h1 ad;cases ar;cases af:look s d<;>first | exact (by simpa using hk) | (exact absurd af (h1 _)) | (exact absurd af ad)
 ·cases ar; simpa using hk
theorem MS {call:oi} (ah:Bb P G call) :∀ (x:List eg) (s:gR) (h:aN) (l:am) (e6:gR) (h' : aN),eE h l->DP P G call x s h=some (e6,h')->
  ∃ l',eE h' l'/\∀ K:a7->am->Prop,K (look e6) l'->i9 P G x (look s) l K
 | [],s,h,l,e6,h',r,af=>by cases af; exact⟨l,r,fun K aV=>aV⟩
 | x::xs,s,h,l,e6,h',r,af=>by
  unfold DP at af;split at af
  ·rename_i ar;split at af
   ·rename_i v h1 ag;obtain⟨l1,ec,ad,_⟩:=OH ah r ag;obtain⟨l',cr,aj⟩:=MS ah xs _ h1 l1 e6 h' ec af;refine⟨l',cr,fun K aV=>?_⟩;unfold i9;refine Ff ar ?_;simp only[if_true];refine ad _ ?_;rw[<-GG];exact aj K aV
   ·cases af
  ·rename_i ar;obtain⟨l',cr,aj⟩:=MS ah xs _ h l e6 h' r af;refine⟨l',cr,fun K aV=>?_⟩;unfold i9;refine Ff ar ?_;simp only[Bool.false_eq_true,if_false];rw[<-GG];exact aj K aV
  ·cases af
theorem a2.beq_eq {a b:a2} (h:a2.beq a b=true) :a=b:=by
 cases a<;>cases b<;>simp[a2.beq] at h
 ·rfl
 ·rfl
 ·obtain⟨h1,ad⟩:=h;rw[h1,tx ad]
theorem akT {b:qx} {s:gR} {v:U} {h1:aN} {l' l1:am} (r:eE h l) (cr:eE h' l') (ec:eE h1 l1) (af:HD P G b s v h h' h1=true) (bh:∀ m,b=.gE m->m.iF=true->∃ n cs,l'=l++[.cells n cs]) :lo P G b (look s) v l l' l1:=by
 unfold HD at af;unfold lo;split at af
 ·rename_i m;simp only;cases aC:m.iF with
  | true=>
   rw[aC] at af;simp only at af ⊢;have ao:=a2.beq_eq af;obtain⟨n,cs,rfl⟩:=bh m rfl aC;rw[r.n] at ao;have ad:h'.f l.length=(bU (l++[.cells n cs])).f l.length:=cr.f _;rw[mI] at ad;simp only[List.getElem?_append_right (Nat.le_refl _),Nat.sub_self,List.getElem?_cons_zero] at ad ⊢;exact ec.some (ao.trans ad) (by simp)
  | false=>
   rw[aC] at af;simp only at af ⊢;split at af
   ·rename_i h9;split at af
    ·rename_i aY ad hm;obtain⟨b5,aj,_⟩:=L0 ec hm;rw[U.beq_eq af] at aj;rw[Vz h9 aj] at aj;exact aj
    ·cases af
   ·cases af
 ·rename_i ag;split
  ·rename_i m; exact absurd rfl (ag m)
  ·trivial
inductive y5 (P:Program) (G:Nat->U) :List (Nat × (aN->Bool))->ik->Prop
 | nil:y5 P G [] []
 | cons {i p q r cr}:(∀ h l,eE h l->p h=true->q l)->y5 P G r cr->y5 P G ((i,p) ::r) ((i,q) ::cr)
theorem Q6 (r:eE h l) {ids:List Nat}:∀ {a:List (Nat × (aN->Bool))} {b:ik},y5 P G a b->EC ids h a=true->pz ids b l
 | _,_,.nil,_=>trivial
 | _,_,.cons ay ax,af=>by
  unfold EC at af;simp only[Bool.and_eq_true,Bool.or_eq_true,Bool.not_eq_true'] at af;unfold pz;refine⟨fun av=>?_,Q6 r ax af.2⟩;rcases af.1 with h1 | h1
  ·rw[av] at h1; cases h1
  ·exact ay h l r h1
theorem agA {aA:Operand->U} {l l' : am} {m:da} {v:U} (aC:m.iF=true) (hm:bO P aA l m=some (v,l')) :∃ n cs,l'=l++[.cells n cs] :=by
 cases m<;>simp only[da.iF,Bool.false_eq_true,reduceCtorEq] at aC<;>simp only[bO,map_some,Option.some.injEq,Prod.mk.injEq] at hm
 case alloc=>obtain⟨_,rfl⟩:=hm; exact⟨_,_,rfl⟩
 case box=>obtain⟨_,_,_,rfl⟩:=hm; exact⟨_,_,rfl⟩
 case qF=>obtain⟨_,_,_,rfl⟩:=hm; exact⟨_,_,rfl⟩
 case rp=>
  unfold rq at hm
  repeat' split at hm
  all_goals first | (cases hm; done) | (cases hm; exact⟨_,_,rfl⟩)
theorem MP {call:oi} (ah:Bb P G call) :∀ (x:List eg) (s:gR) (h:aN) (l:am) (e6:gR) (h' : aN) (a:List (Nat × (aN->Bool))) (b:ik),eE h l->y5 P G a b->DO P G call x s h a=some (e6,h')->
  ∃ l',eE h' l'/\∀ K:a7->am->Prop,K (look e6) l'->jv P G x (look s) l b K
 | [],s,h,l,e6,h',a,b,r,al,af=>by cases af; exact⟨l,r,fun K aV=>aV⟩
 | x::xs,s,h,l,e6,h',a,b,r,al,af=>by
  unfold DO at af;split at af
  ·rename_i ar;split at af
   ·rename_i v h1 ag;obtain⟨l1,ec,ad,xW⟩:=OH ah r ag;split at af
    ·rename_i dr;have su:y5 P G (match x.cq with | true=>(x.i,HD P G x.b s v h h1) ::a | false=>a) (rD x.cq x.i (lo P G x.b (look s) v l l1) b) :=by
      cases x.cq with
      | false=>exact al
      | true=>
       refine .cons (fun ad b5 fg ay=>akT r ec fg ay (fun m hm aC=>agA aC (xW m hm))) al
     obtain⟨l',cr,aj⟩:=MP ah xs _ h1 l1 e6 h' _ _ ec su af;refine⟨l',cr,fun K aV=>?_⟩;unfold jv;refine Ff ar ?_;simp only[if_true];refine ad _ ⟨Q6 ec al dr,?_⟩;rw[<-GG];exact aj K aV
    ·cases af
   ·cases af
  ·rename_i ar;obtain⟨l',cr,aj⟩:=MP ah xs _ h l e6 h' a b r al af;refine⟨l',cr,fun K aV=>?_⟩;unfold jv;refine Ff ar ?_;simp only[Bool.false_eq_true,if_false];rw[<-GG];exact aj K aV
  ·cases af
theorem II {call:oi} (ah:Bb P G call) :∀ (fuel:Nat) (c:fF) (s:gR) (h:aN) (l:am) (e:rO) (e6:gR) (h' : aN),eE h l->EA P G call fuel c s h=some (e,e6,h')->
  ∃ l',eE h' l'/\∀ K:g3,K e (look e6) l'->run P G c (look s) l K
 | 0,c,s,h,l,e,e6,h',r,af=>by cases af
 | k+1,c,s,h,l,e,e6,h',r,af=>by
  have aH:=II ah k;unfold EA Q3 at af;cases c with
  | skip=>cases af; exact⟨l,r,fun K aV=>aV⟩
  | ret=>cases af; exact⟨l,r,fun K aV=>aV⟩
  | exit id=>cases af; exact⟨l,r,fun K aV=>aV⟩
  | wA x=>
   simp only at af;split at af
   ·rename_i c9 h1 ax;cases af;obtain⟨l',cr,ad⟩:=MS ah x s h l e6 h' r ax;exact⟨l',cr,fun K aV=>ad _ aV⟩
   ·cases af
  | xg x=>
   simp only at af;split at af
   ·rename_i c9 h1 ax;cases af;obtain⟨l',cr,ad⟩:=MP ah x s h l e6 h' [] [] r .nil ax;exact⟨l',cr,fun K aV=>ad _ aV⟩
   ·cases af
  | seq a b=>
   simp only at af;split at af
   ·rename_i c9 h1 aB;obtain⟨l1,ec,ad⟩:=aH a s h l _ c9 h1 r aB;obtain⟨l',cr,aj⟩:=aH b c9 h1 l1 e e6 h' ec af;refine⟨l',cr,fun K aV=>?_⟩;unfold run;exact ad _ (aj K aV)
   ·rename_i bx;obtain⟨l',cr,ad⟩:=aH a s h l e e6 h' r af;refine⟨l',cr,fun K aV=>?_⟩;unfold run;refine ad _ ?_;unfold nZ;cases e with
    | normal=>exact absurd af (bx _ _)
    | exit id=>exact aV
    | ret=>exact aV
  | cond c x y=>
   simp only at af;split at af
   ·rename_i jM;obtain⟨l',cr,ad⟩:=aH x s h l e e6 h' r af;refine⟨l',cr,fun K aV=>?_⟩;unfold run yi;rw[jM];exact ad K aV
   ·rename_i jM;obtain⟨l',cr,ad⟩:=aH y s h l e e6 h' r af;refine⟨l',cr,fun K aV=>?_⟩;unfold run yi;rw[jM];exact ad K aV
   ·cases af
  | block id c=>
   simp only at af;split at af
   ·rename_i sF c9 h1 aB;obtain⟨l',cr,ad⟩:=aH c s h l _ c9 h1 r aB;split at af
    ·rename_i gV;cases af;refine⟨l',cr,fun K aV=>?_⟩;unfold run;refine ad _ ?_;unfold rb;simp only;rw[gV];exact aV
    ·rename_i gV;cases af;refine⟨l',cr,fun K aV=>?_⟩;unfold run;refine ad _ ?_;unfold rb;simp only;rw[gV];exact aV
   ·rename_i bx;obtain⟨l',cr,ad⟩:=aH c s h l e e6 h' r af;refine⟨l',cr,fun K aV=>?_⟩;unfold run;refine ad _ ?_;unfold rb;cases e with
    | normal=>exact aV
    | exit id=>exact absurd af (bx _ _ _)
    | ret=>exact aV
  | loop c=>
   simp only at af;split at af
   ·rename_i c9 h1 aB;obtain⟨l1,ec,ad⟩:=aH c s h l _ c9 h1 r aB;obtain⟨l',cr,aj⟩:=aH (.loop c) c9 h1 l1 e e6 h' ec af;refine⟨l',cr,fun K aV=>?_⟩;have aF:=aj K aV;unfold run at aF ⊢;obtain⟨n,aC⟩:=aF;exact⟨n+1,ad _ aC⟩
   ·rename_i bx;obtain⟨l',cr,ad⟩:=aH c s h l e e6 h' r af;refine⟨l',cr,fun K aV=>?_⟩;unfold run;refine⟨1,ad _ ?_⟩;unfold nZ;cases e with
    | normal=>exact absurd af (bx _ _)
    | exit id=>exact aV
    | ret=>exact aV
def Bf (P:Program) (G:Nat->U) (orc:qA) :Prop:=∀ f n g args r,orc f=some (n,g)->g args=some r->bw P G f args r/\(n=true->ja P G f args r)
def Bi (P:Program) (kT:u0) :Prop:=∀ f c nw,kT f=some (c,nw)->vn P f=some c/\vo P f=some nw
theorem MJ (r:eE h l) {s:gR}:∀ {ms:List da} {acc:List U} {v:U},DM P G s h ms acc=some v->∀ K:U->am->Prop,K v l->nY P G K (look s) l ms acc
 | [],acc,v,af,K,aV=>by cases af; exact aV
 | m::ms,acc,v,af,K,aV=>by
  unfold DM at af;split at af
  ·rename_i x h1 hm;obtain⟨l1,ad,_⟩:=L0 r hm;unfold nY;rw[y6];exact⟨_,ad,MJ r af K aV⟩
  ·cases af
theorem Vw (args:List U) :look (Ax 0 .nil args)=y8 args:=by
 rw[Vx];funext t;unfold y8;by_cases aI:t<args.length
 ·rw[if_pos ⟨Nat.zero_le _,by omega⟩]; rfl
 ·rw[if_neg (by omega)];rw[List.getD_eq_getElem?_getD,List.getElem?_eq_none (by omega)]; rfl
theorem ZF {orc:qA} (ap:Bf P G orc) {f:FuncId} {args:List U} {h:aN} {l:am} {v:U} (r:eE h l) (af:Io orc f args h=some v) (K:U->am->Prop) (aV:K v l) :c7 P G f args l (c:=⟨K⟩) :=by
 unfold Io at af;split at af
 ·rename_i n g ar;split at af
  ·rename_i im aB;split at af
   ·rename_i aY aq;split at af
    ·rename_i aD;cases af;obtain⟨yu,n3⟩:=ap f n g im v ar aq;cases n with
     | true=>exact⟨v,l,.Mu (n3 rfl) (s2 aB) (fun j c c' ah e3=>(AK 20 c c' (s1 aB j c c' ah e3)).rep r),Nat.le_refl _,aV⟩
     | false=>exact⟨v,l,.Mt yu (s2 aB) (fun j c c' ah e3=>(AK 20 c c' (s1 aB j c c' ah e3)).rep r) aD,Nat.le_refl _,aV⟩
    ·cases af
   ·cases af
  ·cases af
 ·cases af
theorem agl (r:eE h l) {z by_ i bv:Nat} {s v:U} {vs:List U} (af:C3 z by_ h s i bv vs=some (v,h')) :∃ l',eE h' l'/\C3 z by_ (bU l) s i bv vs=some (v,bU l')/\l.length<=l'.length:=by
 unfold C3 at af ⊢;cases s<;>simp only at af<;>try (cases af; done)
 case a1=>
  split at af
  ·rename_i ah;cases af;refine⟨_,r.push _,?_,by simp⟩;simp only;rw[if_pos ah,lY,y1,r.n]
  ·cases af
 case au hI b off len cap sz=>
  simp only;rw[<-r.f b];cases ag:h.f b<;>rw[ag] at af<;>(try simp only at af)<;>try (cases af; done)
  simp only;split at af
  ·rename_i ah;rw[if_pos ah];cases af;have ak:=r.some ag (by simp);refine⟨_,(r.set ak _).push _,?_,by simp⟩;rw[oo _ (fc ak),lY,y1,r.n]
  ·cases af
theorem agh (r:eE h l) {z by_:Nat} {args:List U} {v:U} (af:sG z by_ args h=some (v,h')) :∃ l',eE h' l'/\sG z by_ args (bU l)=some (v,bU l')/\l.length<=l'.length:=by
 unfold sG at af ⊢;split at af
 ·rename_i s x y;split at af
  ·rename_i i fO bv n3 b5 cy hE uk;rw[<-r.f bv];split at af
   ·rename_i hr vs iU
    try rw[iU]
    try simp only
    split at af
    ·rename_i ah
     try rw[if_pos ah]
     exact agl r af
    ·cases af
   ·cases af
  ·cases af
 ·cases af
theorem IE [qz P G] {orc:qA} {kT:u0} (ap:Bf P G orc) (aI:Bi P kT) (fuel:Nat) :∀ k,Bb P G (BB P G orc kT fuel k)
 | 0=>fun f args h v h' l r af=>by cases af
 | k+1=>fun f args h v h' l r af=>by
  have aH:=IE ap aI fuel k;unfold BB Q0 at af;split at af
  ·rename_i z by_ ar;obtain⟨l',cr,h1,ad⟩:=agh r af;exact⟨l',cr,fun K aV=>⟨v,l',.ext (qz.ok f z by_ ar args (bU l) v (bU l') h1),ad,aV⟩⟩
  split at af
  ·rename_i aY aq;cases af;exact⟨l,r,fun K aV=>ZF ap r aq K aV⟩
  ·split at af
   ·cases af
   ·rename_i c nw afN;obtain⟨oE,kD⟩:=aI f c nw afN;split at af
    ·rename_i c9 h1 g7;obtain⟨l1,ec,ad⟩:=II aH fuel c _ h l _ c9 h1 r g7;split at af
     ·rename_i aY F9;cases af;refine⟨l1,ec,fun K aV=>Ey oE kD ?_⟩;rw[<-Vw];exact ad _ (MJ ec F9 K aV)
     ·cases af
    ·rename_i c9 h1 g7;obtain⟨l1,ec,ad⟩:=II aH fuel c _ h l _ c9 h1 r g7;split at af
     ·rename_i aY F9;cases af;refine⟨l1,ec,fun K aV=>Ey oE kD ?_⟩;rw[<-Vw];exact ad _ (MJ ec F9 K aV)
     ·cases af
    ·cases af
end
def Xm (P:Program) (G:Nat->U) [qz P G] (orc:qA) (kT:u0) (fuel k:Nat) (f:FuncId) (args:List U) (r:U) :Bool:=
 match BB P G orc kT fuel k f args aN.empty with
 | some (v,h)=>match uK h 20 v with
  | some aY=>U.beq aY r
  | none=>false
 | none=>false
theorem aaj {P:Program} {G:Nat->U} [qz P G] {orc:qA} {kT:u0} (ap:Bf P G orc) (aI:Bi P kT) {fuel k:Nat} {f:FuncId} {args:List U} {b:Bool} (af:Xm P G orc kT fuel k f args (.bool b)=true) :
  c7 P G f args [] (c:=⟨fun r _=>r=.bool b⟩) :=by
 unfold Xm at af;split at af
 ·rename_i v h ah;split at af
  ·rename_i aY aq;obtain⟨l',_,ad⟩:=IE ap aI fuel k f args aN.empty v h [] eE.nil ah;refine ad _ ?_;have:=U.beq_eq af;subst this;unfold uK at aq
   repeat' split at aq
   all_goals first | (cases aq; done) | (cases aq; rfl)
  ·cases af
 ·cases af
def rep (n:Nat) (c:U) :List U:=List.replicate n c
abbrev pd (i d x:Nat) :eg:=⟨i,some d,none,.gE (.fS (.tmp x)),[],false⟩
abbrev sc (i d:Nat) (f:FuncId) (args:List Operand) :eg:=⟨i,some d,none,.l5 f args,[],false⟩
@[simp] theorem asx (n:Nat) (c:U) :(rep n c).length=n:=by simp[rep]
def pl {α:Type} (p:Nat->α->Prop) :cA α->Prop
 | .nil=>True
 | .node l v r=>(∀ x,v=some x->p 0 x)/\pl (fun m=>p (2*m+1)) l/\pl (fun m=>p (2*m+2)) r
theorem Ik {α:Type}:∀ (t:cA α) (p:Nat->α->Prop),pl p t->∀ n x,t.get n=some x->p n x
 | .nil,p,h,n,x,af=>by cases af
 | .node l v r,p,h,n,x,af=>by
  obtain⟨h1,ad,aj⟩:=h;unfold cA.get at af;by_cases aE:n=0
  ·subst aE; exact h1 x af
  ·rw[jt aE] at af;simp only at af;by_cases ap:n % 2=1
   ·rw[sO ap] at af;have:=Ik l _ ad _ x af;rw[show 2*(n / 2)+1=n by omega] at this; exact this
   ·rw[jt ap] at af;have:=Ik r _ aj _ x af;rw[show 2*(n / 2 - 1)+2=n by omega] at this; exact this
theorem bb {α:Type} {p:Nat->α->Prop}:pl p .nil:=trivial
theorem dh {α:Type} {p:Nat->α->Prop} {l r:cA α} (h1:pl (fun m=>p (2*m+1)) l) (ad:pl (fun m=>p (2*m+2)) r) :pl p (.node l none r) :=⟨fun x h=>(by cases h),h1,ad⟩
theorem bS {α:Type} {p:Nat->α->Prop} {l r:cA α} {x:α} (af:p 0 x) (h1:pl (fun m=>p (2*m+1)) l) (ad:pl (fun m=>p (2*m+2)) r) :pl p (.node l (some x) r) :=⟨fun y h=>(by cases h; exact af),h1,ad⟩
abbrev Ef (P:Program) (f:Nat) (x:fF × List da) :Prop:=vn P f=some x.1/\vo P f=some x.2
theorem ak8 {P:Program} {t:cA (fF × List da)} (h:pl (Ef P) t) :Bi P (fun f=>t.get f) :=fun f c nw af=>Ik t _ h f (c,nw) af
def u {w:Nat} (a:BitVec w) :Int:=(a.toNat:Int)
@[simp] theorem lS {w:Nat} (a:BitVec w) :BitVec.ofInt w (u a)=a:=by
 unfold u;rw[BitVec.ofInt_natCast,BitVec.ofNat_toNat,BitVec.setWidth_eq]
@[simp] theorem rH {w:Nat} (a b:BitVec w) :(u a=u b)<->a=b:=⟨fun h=>BitVec.eq_of_toNat_eq (by unfold u at h; exact Int.ofNat_inj.1 h),fun h=>by rw[h]⟩
@[simp] theorem ata {w:Nat} (a b:BitVec w) :(u a<u b)<->a<b:=by unfold u; rw[Int.ofNat_lt]; rfl
@[simp] theorem as9 {w:Nat} (a b:BitVec w) :(u a<=u b)<->a<=b:=by unfold u; rw[Int.ofNat_le]; rfl
@[simp] theorem atb {w:Nat} (a:BitVec w) :0<=u a:=Int.natCast_nonneg _
@[simp] theorem atc {w:Nat} (a:BitVec w) :(u a).toNat=a.toNat:=Int.toNat_natCast _
theorem as8 {w:Nat} (a:BitVec w) :u a<2 ^ w:=by
 have:=a.isLt;unfold u
 exact_mod_cast this
@[simp] theorem asm {w:Nat} (a b:Int) :BitVec.ofInt w (a - b)=BitVec.ofInt w a - BitVec.ofInt w b:=by
 rw[Int.sub_eq_add_neg,BitVec.ofInt_add,BitVec.ofInt_neg,BitVec.sub_eq_add_neg]
attribute [simp] BitVec.ofInt_add BitVec.ofInt_mul
theorem qf {w:Nat} (v:Nat) (a:BitVec w) :BitVec.ofInt v (u a)=a.setWidth v:=by
 unfold u;rw[BitVec.ofInt_natCast,BitVec.ofNat_toNat]
section
abbrev bB (a:BitVec 8) :U:=.int .u8 (u a)
@[simp] theorem Eb (n:Int) :IntKind.u8.wrap n=u (BitVec.ofInt 8 n) :=by
 have aQ:(2 ^ IntKind.u8.bits:Int)=256:=by decide
 have dz:IntKind.u8.signed=false:=rfl;simp only[IntKind.wrap,aQ,dz,Bool.false_and,Bool.false_eq_true,if_false,u,BitVec.toNat_ofInt];have:(2 ^ 8:Nat)=256:=by decide
 rw[this];omega
@[simp] theorem atj (a:Int) :qs .xor (.int .u8 a)=some (.int .u8 (u (~~~(BitVec.ofInt 8 a)))) :=by
 show some (U.int .u8 (IntKind.u8.wrap (u (BitVec.ofInt 8 (255:Int) ^^^ BitVec.ofInt 8 a))))=_;rw[Eb,lS];have:BitVec.ofInt 8 (255:Int)=BitVec.allOnes 8:=by decide
 rw[this,BitVec.allOnes_xor]
theorem Z6 (a:BitVec 8) (k' : IntKind) (n:Nat) :cm .shl .u8 (u a) k' (n:Int)=some (.int .u8 (u (a <<< n))) :=by
 have aE:¬((n:Int)<0) :=by omega
 show (if (n:Int)<0 then none else some (U.int .u8 (IntKind.u8.wrap ((a.toNat:Int)*2 ^ min (n:Int).toNat 8))))=_;rw[if_neg aE];congr 2;rw[Eb,Int.toNat_natCast];unfold u;congr 1;have:((a.toNat:Int)*2 ^ min n 8)=((a.toNat*2 ^ min n 8:Nat) :Int) :=by rw[Int.natCast_mul,Int.natCast_pow]; rfl
 rw[this,BitVec.ofInt_natCast,BitVec.toNat_ofNat,BitVec.toNat_shiftLeft,Nat.shiftLeft_eq];rcases Nat.lt_or_ge n 8 with h | h
 ·rw[Nat.min_eq_left (Nat.le_of_lt h)]
 ·rw[Nat.min_eq_right h];have h1:a.toNat*2 ^ 8 % 2 ^ 8=0:=Nat.mul_mod_left _ _;obtain⟨m,rfl⟩:=Nat.exists_eq_add_of_le h;rw[h1,Nat.pow_add,Nat.mul_left_comm,Nat.mul_mod_right]
theorem Z9 (a:BitVec 8) (k' : IntKind) (n:Nat) :cm .shr .u8 (u a) k' (n:Int)=some (.int .u8 (u (a >>> n))) :=by
 have aE:¬((n:Int)<0) :=by omega
 show (if (n:Int)<0 then none else some (U.int .u8 ((a.toNat:Int).fdiv (2 ^ min (n:Int).toNat 8))))=_;rw[if_neg aE];congr 2;rw[Int.toNat_natCast];unfold u;have:((2:Int) ^ min n 8)=((2 ^ min n 8:Nat) :Int) :=by rw[Int.natCast_pow]; rfl
 rw[this,Int.fdiv_eq_ediv_of_nonneg _ (Int.natCast_nonneg _),<-Int.natCast_ediv,BitVec.toNat_ushiftRight,Nat.shiftRight_eq_div_pow];congr 1;rcases Nat.lt_or_ge n 8 with h | h
 ·rw[Nat.min_eq_left (Nat.le_of_lt h)]
 ·rw[Nat.min_eq_right h,Nat.div_eq_of_lt a.isLt,Nat.div_eq_of_lt (Nat.lt_of_lt_of_le a.isLt (Nat.pow_le_pow_right (by omega) h))]
@[simp] theorem anJ (a:BitVec 8) (k' : IntKind) (n:Int) (h:0<=n) :cm .shl .u8 (u a) k' n=some (.int .u8 (u (a <<< n.toNat))) :=by
 obtain⟨m,rfl⟩:=Int.eq_ofNat_of_zero_le h;exact Z6 a k' m
@[simp] theorem anN (a:BitVec 8) (k' : IntKind) (n:Int) (h:0<=n) :cm .shr .u8 (u a) k' n=some (.int .u8 (u (a >>> n.toNat))) :=by
 obtain⟨m,rfl⟩:=Int.eq_ofNat_of_zero_le h;exact Z9 a k' m
@[simp] theorem anF (a b:BitVec 8) (h:b≠0#8) :cm .rem .u8 (u a) .u8 (u b)=some (.int .u8 (u (a % b))) :=by
 have ag:(b.toNat:Int)≠0:=fun e=>h (BitVec.eq_of_toNat_eq (by simpa using e))
 show (if IntKind.u8=IntKind.u8/\(b.toNat:Int)≠0 then some (U.int .u8 ((a.toNat:Int).tmod b.toNat)) else none)=_;rw[if_pos ⟨rfl,ag⟩];unfold u;rw[BitVec.toNat_umod];rfl
@[simp] theorem anV (a b:Int) :cm .xor .u8 a .u8 b=some (.int .u8 (u (BitVec.ofInt 8 a ^^^ BitVec.ofInt 8 b))) :=by
 show some (U.int .u8 (IntKind.u8.wrap (u (BitVec.ofInt 8 a ^^^ BitVec.ofInt 8 b))))=_;rw[Eb,lS]
@[simp] theorem anD (a b:Int) :cm .or .u8 a .u8 b=some (.int .u8 (u (BitVec.ofInt 8 a ||| BitVec.ofInt 8 b))) :=by
 show some (U.int .u8 (IntKind.u8.wrap (u (BitVec.ofInt 8 a ||| BitVec.ofInt 8 b))))=_;rw[Eb,lS]
@[simp] theorem ank (a b:Int) :cm .and .u8 a .u8 b=some (.int .u8 (u (BitVec.ofInt 8 a &&& BitVec.ofInt 8 b))) :=by
 show some (U.int .u8 (IntKind.u8.wrap (u (BitVec.ofInt 8 a &&& BitVec.ofInt 8 b))))=_;rw[Eb,lS]
end

section
abbrev EK (a:BitVec 16) :U:=.int .u16 (u a)
@[simp] theorem Ea (n:Int) :IntKind.u16.wrap n=u (BitVec.ofInt 16 n) :=by
 have aQ:(2 ^ IntKind.u16.bits:Int)=65536:=by decide
 have dz:IntKind.u16.signed=false:=rfl;simp only[IntKind.wrap,aQ,dz,Bool.false_and,Bool.false_eq_true,if_false,u,BitVec.toNat_ofInt];have:(2 ^ 16:Nat)=65536:=by decide
 rw[this];omega
@[simp] theorem atg (a:Int) :qs .xor (.int .u16 a)=some (.int .u16 (u (~~~(BitVec.ofInt 16 a)))) :=by
 show some (U.int .u16 (IntKind.u16.wrap (u (BitVec.ofInt 16 (65535:Int) ^^^ BitVec.ofInt 16 a))))=_;rw[Ea,lS];have:BitVec.ofInt 16 (65535:Int)=BitVec.allOnes 16:=by decide
 rw[this,BitVec.allOnes_xor]
theorem Z4 (a:BitVec 16) (k' : IntKind) (n:Nat) :cm .shl .u16 (u a) k' (n:Int)=some (.int .u16 (u (a <<< n))) :=by
 have aE:¬((n:Int)<0) :=by omega
 show (if (n:Int)<0 then none else some (U.int .u16 (IntKind.u16.wrap ((a.toNat:Int)*2 ^ min (n:Int).toNat 16))))=_;rw[if_neg aE];congr 2;rw[Ea,Int.toNat_natCast];unfold u;congr 1;have:((a.toNat:Int)*2 ^ min n 16)=((a.toNat*2 ^ min n 16:Nat) :Int) :=by rw[Int.natCast_mul,Int.natCast_pow]; rfl
 rw[this,BitVec.ofInt_natCast,BitVec.toNat_ofNat,BitVec.toNat_shiftLeft,Nat.shiftLeft_eq];rcases Nat.lt_or_ge n 16 with h | h
 ·rw[Nat.min_eq_left (Nat.le_of_lt h)]
 ·rw[Nat.min_eq_right h];have h1:a.toNat*2 ^ 16 % 2 ^ 16=0:=Nat.mul_mod_left _ _;obtain⟨m,rfl⟩:=Nat.exists_eq_add_of_le h;rw[h1,Nat.pow_add,Nat.mul_left_comm,Nat.mul_mod_right]
theorem Z7 (a:BitVec 16) (k' : IntKind) (n:Nat) :cm .shr .u16 (u a) k' (n:Int)=some (.int .u16 (u (a >>> n))) :=by
 have aE:¬((n:Int)<0) :=by omega
 show (if (n:Int)<0 then none else some (U.int .u16 ((a.toNat:Int).fdiv (2 ^ min (n:Int).toNat 16))))=_;rw[if_neg aE];congr 2;rw[Int.toNat_natCast];unfold u;have:((2:Int) ^ min n 16)=((2 ^ min n 16:Nat) :Int) :=by rw[Int.natCast_pow]; rfl
 rw[this,Int.fdiv_eq_ediv_of_nonneg _ (Int.natCast_nonneg _),<-Int.natCast_ediv,BitVec.toNat_ushiftRight,Nat.shiftRight_eq_div_pow];congr 1;rcases Nat.lt_or_ge n 16 with h | h
 ·rw[Nat.min_eq_left (Nat.le_of_lt h)]
 ·rw[Nat.min_eq_right h,Nat.div_eq_of_lt a.isLt,Nat.div_eq_of_lt (Nat.lt_of_lt_of_le a.isLt (Nat.pow_le_pow_right (by omega) h))]
@[simp] theorem anG (a:BitVec 16) (k' : IntKind) (n:Int) (h:0<=n) :cm .shl .u16 (u a) k' n=some (.int .u16 (u (a <<< n.toNat))) :=by
 obtain⟨m,rfl⟩:=Int.eq_ofNat_of_zero_le h;exact Z4 a k' m
@[simp] theorem anK (a:BitVec 16) (k' : IntKind) (n:Int) (h:0<=n) :cm .shr .u16 (u a) k' n=some (.int .u16 (u (a >>> n.toNat))) :=by
 obtain⟨m,rfl⟩:=Int.eq_ofNat_of_zero_le h;exact Z7 a k' m
@[simp] theorem anE (a b:BitVec 16) (h:b≠0#16) :cm .rem .u16 (u a) .u16 (u b)=some (.int .u16 (u (a % b))) :=by
 have ag:(b.toNat:Int)≠0:=fun e=>h (BitVec.eq_of_toNat_eq (by simpa using e))
 show (if IntKind.u16=IntKind.u16/\(b.toNat:Int)≠0 then some (U.int .u16 ((a.toNat:Int).tmod b.toNat)) else none)=_;rw[if_pos ⟨rfl,ag⟩];unfold u;rw[BitVec.toNat_umod];rfl
@[simp] theorem anS (a b:Int) :cm .xor .u16 a .u16 b=some (.int .u16 (u (BitVec.ofInt 16 a ^^^ BitVec.ofInt 16 b))) :=by
 show some (U.int .u16 (IntKind.u16.wrap (u (BitVec.ofInt 16 a ^^^ BitVec.ofInt 16 b))))=_;rw[Ea,lS]
@[simp] theorem anA (a b:Int) :cm .or .u16 a .u16 b=some (.int .u16 (u (BitVec.ofInt 16 a ||| BitVec.ofInt 16 b))) :=by
 show some (U.int .u16 (IntKind.u16.wrap (u (BitVec.ofInt 16 a ||| BitVec.ofInt 16 b))))=_;rw[Ea,lS]
@[simp] theorem ani (a b:Int) :cm .and .u16 a .u16 b=some (.int .u16 (u (BitVec.ofInt 16 a &&& BitVec.ofInt 16 b))) :=by
 show some (U.int .u16 (IntKind.u16.wrap (u (BitVec.ofInt 16 a &&& BitVec.ofInt 16 b))))=_;rw[Ea,lS]
end

section
abbrev br (a:BitVec 32) :U:=.int .u32 (u a)
@[simp] theorem A3 (n:Int) :IntKind.u32.wrap n=u (BitVec.ofInt 32 n) :=by
 have aQ:(2 ^ IntKind.u32.bits:Int)=4294967296:=by decide
 have dz:IntKind.u32.signed=false:=rfl;simp only[IntKind.wrap,aQ,dz,Bool.false_and,Bool.false_eq_true,if_false,u,BitVec.toNat_ofInt];have:(2 ^ 32:Nat)=4294967296:=by decide
 rw[this];omega
@[simp] theorem ath (a:Int) :qs .xor (.int .u32 a)=some (.int .u32 (u (~~~(BitVec.ofInt 32 a)))) :=by
 show some (U.int .u32 (IntKind.u32.wrap (u (BitVec.ofInt 32 (4294967295:Int) ^^^ BitVec.ofInt 32 a))))=_;rw[A3,lS];have:BitVec.ofInt 32 (4294967295:Int)=BitVec.allOnes 32:=by decide
 rw[this,BitVec.allOnes_xor]
theorem Z5 (a:BitVec 32) (k' : IntKind) (n:Nat) :cm .shl .u32 (u a) k' (n:Int)=some (.int .u32 (u (a <<< n))) :=by
 have aE:¬((n:Int)<0) :=by omega
 show (if (n:Int)<0 then none else some (U.int .u32 (IntKind.u32.wrap ((a.toNat:Int)*2 ^ min (n:Int).toNat 32))))=_;rw[if_neg aE];congr 2;rw[A3,Int.toNat_natCast];unfold u;congr 1;have:((a.toNat:Int)*2 ^ min n 32)=((a.toNat*2 ^ min n 32:Nat) :Int) :=by rw[Int.natCast_mul,Int.natCast_pow]; rfl
 rw[this,BitVec.ofInt_natCast,BitVec.toNat_ofNat,BitVec.toNat_shiftLeft,Nat.shiftLeft_eq];rcases Nat.lt_or_ge n 32 with h | h
 ·rw[Nat.min_eq_left (Nat.le_of_lt h)]
 ·rw[Nat.min_eq_right h];have h1:a.toNat*2 ^ 32 % 2 ^ 32=0:=Nat.mul_mod_left _ _;obtain⟨m,rfl⟩:=Nat.exists_eq_add_of_le h;rw[h1,Nat.pow_add,Nat.mul_left_comm,Nat.mul_mod_right]
theorem Z8 (a:BitVec 32) (k' : IntKind) (n:Nat) :cm .shr .u32 (u a) k' (n:Int)=some (.int .u32 (u (a >>> n))) :=by
 have aE:¬((n:Int)<0) :=by omega
 show (if (n:Int)<0 then none else some (U.int .u32 ((a.toNat:Int).fdiv (2 ^ min (n:Int).toNat 32))))=_;rw[if_neg aE];congr 2;rw[Int.toNat_natCast];unfold u;have:((2:Int) ^ min n 32)=((2 ^ min n 32:Nat) :Int) :=by rw[Int.natCast_pow]; rfl
 rw[this,Int.fdiv_eq_ediv_of_nonneg _ (Int.natCast_nonneg _),<-Int.natCast_ediv,BitVec.toNat_ushiftRight,Nat.shiftRight_eq_div_pow];congr 1;rcases Nat.lt_or_ge n 32 with h | h
 ·rw[Nat.min_eq_left (Nat.le_of_lt h)]
 ·rw[Nat.min_eq_right h,Nat.div_eq_of_lt a.isLt,Nat.div_eq_of_lt (Nat.lt_of_lt_of_le a.isLt (Nat.pow_le_pow_right (by omega) h))]
@[simp] theorem anH (a:BitVec 32) (k' : IntKind) (n:Int) (h:0<=n) :cm .shl .u32 (u a) k' n=some (.int .u32 (u (a <<< n.toNat))) :=by
 obtain⟨m,rfl⟩:=Int.eq_ofNat_of_zero_le h;exact Z5 a k' m
@[simp] theorem anL (a:BitVec 32) (k' : IntKind) (n:Int) (h:0<=n) :cm .shr .u32 (u a) k' n=some (.int .u32 (u (a >>> n.toNat))) :=by
 obtain⟨m,rfl⟩:=Int.eq_ofNat_of_zero_le h;exact Z8 a k' m
@[simp] theorem Z2 (a b:BitVec 32) (h:b≠0#32) :cm .rem .u32 (u a) .u32 (u b)=some (.int .u32 (u (a % b))) :=by
 have ag:(b.toNat:Int)≠0:=fun e=>h (BitVec.eq_of_toNat_eq (by simpa using e))
 show (if IntKind.u32=IntKind.u32/\(b.toNat:Int)≠0 then some (U.int .u32 ((a.toNat:Int).tmod b.toNat)) else none)=_;rw[if_pos ⟨rfl,ag⟩];unfold u;rw[BitVec.toNat_umod];rfl
@[simp] theorem anT (a b:Int) :cm .xor .u32 a .u32 b=some (.int .u32 (u (BitVec.ofInt 32 a ^^^ BitVec.ofInt 32 b))) :=by
 show some (U.int .u32 (IntKind.u32.wrap (u (BitVec.ofInt 32 a ^^^ BitVec.ofInt 32 b))))=_;rw[A3,lS]
@[simp] theorem anB (a b:Int) :cm .or .u32 a .u32 b=some (.int .u32 (u (BitVec.ofInt 32 a ||| BitVec.ofInt 32 b))) :=by
 show some (U.int .u32 (IntKind.u32.wrap (u (BitVec.ofInt 32 a ||| BitVec.ofInt 32 b))))=_;rw[A3,lS]
@[simp] theorem anj (a b:Int) :cm .and .u32 a .u32 b=some (.int .u32 (u (BitVec.ofInt 32 a &&& BitVec.ofInt 32 b))) :=by
 show some (U.int .u32 (IntKind.u32.wrap (u (BitVec.ofInt 32 a &&& BitVec.ofInt 32 b))))=_;rw[A3,lS]
end

section
abbrev c4 (a:BitVec 64) :U:=.int .u64 (u a)
@[simp] theorem wX (n:Int) :IntKind.u64.wrap n=u (BitVec.ofInt 64 n) :=by
 have aQ:(2 ^ IntKind.u64.bits:Int)=18446744073709551616:=by decide
 have dz:IntKind.u64.signed=false:=rfl;simp only[IntKind.wrap,aQ,dz,Bool.false_and,Bool.false_eq_true,if_false,u,BitVec.toNat_ofInt];have:(2 ^ 64:Nat)=18446744073709551616:=by decide
 rw[this];omega
@[simp] theorem ati (a:Int) :qs .xor (.int .u64 a)=some (.int .u64 (u (~~~(BitVec.ofInt 64 a)))) :=by
 show some (U.int .u64 (IntKind.u64.wrap (u (BitVec.ofInt 64 (18446744073709551615:Int) ^^^ BitVec.ofInt 64 a))))=_;rw[wX,lS];have:BitVec.ofInt 64 (18446744073709551615:Int)=BitVec.allOnes 64:=by decide
 rw[this,BitVec.allOnes_xor]
theorem OU (a:BitVec 64) (k' : IntKind) (n:Nat) :cm .shl .u64 (u a) k' (n:Int)=some (.int .u64 (u (a <<< n))) :=by
 have aE:¬((n:Int)<0) :=by omega
 show (if (n:Int)<0 then none else some (U.int .u64 (IntKind.u64.wrap ((a.toNat:Int)*2 ^ min (n:Int).toNat 64))))=_;rw[if_neg aE];congr 2;rw[wX,Int.toNat_natCast];unfold u;congr 1;have:((a.toNat:Int)*2 ^ min n 64)=((a.toNat*2 ^ min n 64:Nat) :Int) :=by rw[Int.natCast_mul,Int.natCast_pow]; rfl
 rw[this,BitVec.ofInt_natCast,BitVec.toNat_ofNat,BitVec.toNat_shiftLeft,Nat.shiftLeft_eq];rcases Nat.lt_or_ge n 64 with h | h
 ·rw[Nat.min_eq_left (Nat.le_of_lt h)]
 ·rw[Nat.min_eq_right h];have h1:a.toNat*2 ^ 64 % 2 ^ 64=0:=Nat.mul_mod_left _ _;obtain⟨m,rfl⟩:=Nat.exists_eq_add_of_le h;rw[h1,Nat.pow_add,Nat.mul_left_comm,Nat.mul_mod_right]
theorem tz (a:BitVec 64) (k' : IntKind) (n:Nat) :cm .shr .u64 (u a) k' (n:Int)=some (.int .u64 (u (a >>> n))) :=by
 have aE:¬((n:Int)<0) :=by omega
 show (if (n:Int)<0 then none else some (U.int .u64 ((a.toNat:Int).fdiv (2 ^ min (n:Int).toNat 64))))=_;rw[if_neg aE];congr 2;rw[Int.toNat_natCast];unfold u;have:((2:Int) ^ min n 64)=((2 ^ min n 64:Nat) :Int) :=by rw[Int.natCast_pow]; rfl
 rw[this,Int.fdiv_eq_ediv_of_nonneg _ (Int.natCast_nonneg _),<-Int.natCast_ediv,BitVec.toNat_ushiftRight,Nat.shiftRight_eq_div_pow];congr 1;rcases Nat.lt_or_ge n 64 with h | h
 ·rw[Nat.min_eq_left (Nat.le_of_lt h)]
 ·rw[Nat.min_eq_right h,Nat.div_eq_of_lt a.isLt,Nat.div_eq_of_lt (Nat.lt_of_lt_of_le a.isLt (Nat.pow_le_pow_right (by omega) h))]
@[simp] theorem anI (a:BitVec 64) (k' : IntKind) (n:Int) (h:0<=n) :cm .shl .u64 (u a) k' n=some (.int .u64 (u (a <<< n.toNat))) :=by
 obtain⟨m,rfl⟩:=Int.eq_ofNat_of_zero_le h;exact OU a k' m
@[simp] theorem anM (a:BitVec 64) (k' : IntKind) (n:Int) (h:0<=n) :cm .shr .u64 (u a) k' n=some (.int .u64 (u (a >>> n.toNat))) :=by
 obtain⟨m,rfl⟩:=Int.eq_ofNat_of_zero_le h;exact tz a k' m
@[simp] theorem zb (a b:BitVec 64) (h:b≠0#64) :cm .rem .u64 (u a) .u64 (u b)=some (.int .u64 (u (a % b))) :=by
 have ag:(b.toNat:Int)≠0:=fun e=>h (BitVec.eq_of_toNat_eq (by simpa using e))
 show (if IntKind.u64=IntKind.u64/\(b.toNat:Int)≠0 then some (U.int .u64 ((a.toNat:Int).tmod b.toNat)) else none)=_;rw[if_pos ⟨rfl,ag⟩];unfold u;rw[BitVec.toNat_umod];rfl
@[simp] theorem anU (a b:Int) :cm .xor .u64 a .u64 b=some (.int .u64 (u (BitVec.ofInt 64 a ^^^ BitVec.ofInt 64 b))) :=by
 show some (U.int .u64 (IntKind.u64.wrap (u (BitVec.ofInt 64 a ^^^ BitVec.ofInt 64 b))))=_;rw[wX,lS]
@[simp] theorem anC (a b:Int) :cm .or .u64 a .u64 b=some (.int .u64 (u (BitVec.ofInt 64 a ||| BitVec.ofInt 64 b))) :=by
 show some (U.int .u64 (IntKind.u64.wrap (u (BitVec.ofInt 64 a ||| BitVec.ofInt 64 b))))=_;rw[wX,lS]
@[simp] theorem OE (a b:Int) :cm .and .u64 a .u64 b=some (.int .u64 (u (BitVec.ofInt 64 a &&& BitVec.ofInt 64 b))) :=by
 show some (U.int .u64 (IntKind.u64.wrap (u (BitVec.ofInt 64 a &&& BitVec.ofInt 64 b))))=_;rw[wX,lS]
end
@[simp] theorem aot (a:BitVec 8) :BitVec.ofInt 16 (u a)=a.setWidth 16:=qf 16 a
@[simp] theorem aou (a:BitVec 8) :BitVec.ofInt 32 (u a)=a.setWidth 32:=qf 32 a
@[simp] theorem aov (a:BitVec 8) :BitVec.ofInt 64 (u a)=a.setWidth 64:=qf 64 a
@[simp] theorem aom (a:BitVec 16) :BitVec.ofInt 8 (u a)=a.setWidth 8:=qf 8 a
@[simp] theorem aok (a:BitVec 16) :BitVec.ofInt 32 (u a)=a.setWidth 32:=qf 32 a
@[simp] theorem aol (a:BitVec 16) :BitVec.ofInt 64 (u a)=a.setWidth 64:=qf 64 a
@[simp] theorem aop (a:BitVec 32) :BitVec.ofInt 8 (u a)=a.setWidth 8:=qf 8 a
@[simp] theorem aon (a:BitVec 32) :BitVec.ofInt 16 (u a)=a.setWidth 16:=qf 16 a
@[simp] theorem aoo (a:BitVec 32) :BitVec.ofInt 64 (u a)=a.setWidth 64:=qf 64 a
@[simp] theorem aos (a:BitVec 64) :BitVec.ofInt 8 (u a)=a.setWidth 8:=qf 8 a
@[simp] theorem aoq (a:BitVec 64) :BitVec.ofInt 16 (u a)=a.setWidth 16:=qf 16 a
@[simp] theorem aor (a:BitVec 64) :BitVec.ofInt 32 (u a)=a.setWidth 32:=qf 32 a
@[simp] theorem atd {w:Nat}:u (0#w)=0:=by simp[u]
theorem Iz (k:Nat) (c:Int) (ah:0<c) (hk:k<9223372036854775808) :cm .quo .i64 (k:Int) .i64 c=some (.int .i64 ((k / c.toNat:Nat) :Int)) :=by
 obtain⟨m,rfl⟩:=Int.eq_ofNat_of_zero_le (Int.le_of_lt ah);have hm:(m:Int)≠0:=by omega
 show (if IntKind.i64=IntKind.i64/\(m:Int)≠0 then some (U.int .i64 (IntKind.i64.wrap ((k:Int).tdiv m))) else none)=_;rw[if_pos ⟨rfl,hm⟩,Int.toNat_natCast];have:((k:Int).tdiv m)=((k / m:Nat) :Int) :=rfl;have ad:=Nat.div_le_self k m;rw[this];generalize k / m=q at ad;rw[wrap_i64 (by omega) (by omega)]
theorem Bv (k:Nat) (c:Int) (ah:0<c) :cm .rem .i64 (k:Int) .i64 c=some (.int .i64 ((k % c.toNat:Nat) :Int)) :=by
 obtain⟨m,rfl⟩:=Int.eq_ofNat_of_zero_le (Int.le_of_lt ah);have hm:(m:Int)≠0:=by omega
 show (if IntKind.i64=IntKind.i64/\(m:Int)≠0 then some (U.int .i64 ((k:Int).tmod m)) else none)=_;rw[if_pos ⟨rfl,hm⟩,Int.toNat_natCast];rfl
theorem W5 (k:IntKind) (w n:Nat) :rep n (.int k 0)=(List.replicate n (0#w)).map fun x=>.int k (u x) :=by
 simp[rep]
theorem oa {α:Type} (f:α->U) (l:List α) (i:Nat) (x:α) (h:i<l.length) :bz (l.map f) i [f x]=(l.set i x).map f:=by
 unfold bz;rw[List.set_eq_take_append_cons_drop,if_pos h];simp
theorem nz {cs vs:List U} (h:vs.length=cs.length) :bz cs 0 vs=vs:=by
 unfold bz;rw[Nat.zero_add,List.take_zero,List.nil_append,h,List.drop_length,List.append_nil]
theorem aP {l:am} {c c' : U} (h:c=c') (ah:c'.closed=true) :Rd l c c':=by subst h; exact .same _ ah
theorem zy {α:Type} {z:Nat}:∀ (es:List (List α)),(∀ e∈es,e.length=z)->∀ (i j:Nat) (e:List α) (c:α),es[i]? = some e->e[j]? = some c->es.flatten[i*z+j]? = some c:=by
 intro es aw
 induction es with
 | nil=>intro i j e c ao; simp at ao
 | cons x es aH=>
  intro i j e c ao ai;have af:x.length=z:=aw x (by simp);cases i with
  | zero=>
   simp only[List.getElem?_cons_zero,Option.some.injEq] at ao;subst ao;rw[List.flatten_cons,Nat.zero_mul,Nat.zero_add,List.getElem?_append_left (List.getElem?_eq_some_iff.1 ai).1];exact ai
  | succ i=>
   simp only[List.getElem?_cons_succ] at ao;rw[List.flatten_cons,List.getElem?_append_right (by rw[af,Nat.succ_mul]; omega),af,show (i+1)*z+j - z=i*z+j by rw[Nat.succ_mul]; omega];exact aH (fun e ao=>aw e (by simp[ao])) i j e c ao ai
inductive tn (l:am) :List U->List U->Prop
 | nil:tn l [] []
 | cons {c c' cs cs'}:fH (bU l) c c'->tn l cs cs'->tn l (c::cs) (c'::cs')
theorem tn.len {l:am}:∀ {a b:List U},tn l a b->b.length=a.length
 | _,_,.nil=>rfl
 | _,_,.cons _ h=>by simp[h.len]
theorem tn.get {l:am}:∀ {a b:List U},tn l a b->∀ (j:Nat) (c c' : U),a[j]? = some c->b[j]? = some c'->fH (bU l) c c'
 | _,_,.nil,j,c,c',h,_=>by simp at h
 | _,_,.cons h1 ad,j,c,c',h,h'=>by
  cases j with
  | zero=>simp at h h'; subst h h'; exact h1
  | succ j=>exact ad.get j c c' (by simpa using h) (by simpa using h')
theorem ie {P:Program} {G:Nat->U} {f:FuncId} {args im:List U} {r:U} {l:am} {K:U->am->Prop} (ay:bw P G f im r) (ax:tn l args im) (aD:r.flat=true) (h:K r l) :c7 P G f args l (c:=⟨K⟩) :=
 ⟨r,l,.Mt ay ax.len ax.get aD,Nat.le_refl _,h⟩
theorem Wx {P:Program} {G:Nat->U} {f:FuncId} {args im:List U} {r:U} {l:am} {K:U->am->Prop} (ay:ja P G f im r) (ax:tn l args im) (h:K r l) :c7 P G f args l (c:=⟨K⟩) :=
 ⟨r,l,.Mu ay ax.len ax.get,Nat.le_refl _,h⟩
inductive jV (l:am) :U->U->Prop
 | flat (c:U) (h:c.flat=true) :jV l c c
 | aM (cs cs' : List U) (ak:cs'.length=cs.length) (h:∀ (j:Nat) (c c' : U),cs[j]? = some c->cs'[j]? = some c'->jV l c c') :jV l (.aM cs) (.aM cs')
 | bG (cs cs' : List U) (ak:cs'.length=cs.length) (h:∀ (j:Nat) (c c' : U),cs[j]? = some c->cs'[j]? = some c'->jV l c c') :jV l (.bG cs) (.bG cs')
 | au (z b off len cap sz:Nat) (cs:List U) (es:List (List U)) (ag:l[b]? = some (.cells sz cs)) (ak:es.length=len) (aw:∀ e∈es,e.length=z)
   (eG:off+len*z<=cs.length)
   (h:∀ (i j:Nat) (e:List U) (c c' : U),es[i]? = some e->e[j]? = some c'->cs[off+(i*z+j)]? = some c->jV l c c') :jV l (.au z b off len cap sz) (.bD z es)
 | rF (z b off cap sz:Nat) :jV l (.au z b off 0 cap sz) (.bD z [])
 | fw (z:Nat) :jV l (.bD z []) (.bD z [])
theorem ajr {w:World} {R:Nat->Prop} {B:Nat} {l:am} {μ:cH} (rel:b3 R B w (bU l) μ) :∀ {c c' : U},jV l c c'->∀ {v:Value},aO w R (bU l) μ c v->fi w (fun k=>B<=k) c' v:=by
 intro c c' ax
 induction ax with
 | flat c h=>intro v aq; exact RZ aq h
 | aM cs cs' ak h aH=>
  intro v aq;cases aq with
  | aM _ vs fW h1 aq=>
   refine .aM cs' vs (by omega) h1 (fun j c' v ai fe=>?_);have aK:j<cs.length:=by rw[<-ak]; exact (List.getElem?_eq_some_iff.1 ai).1
   exact aH j cs[j] c' (List.getElem?_eq_getElem aK) ai (aq j cs[j] v (List.getElem?_eq_getElem aK) fe)
 | bG cs cs' ak h aH=>
  intro v aq;cases aq with
  | bG _ vs fW aq=>
   refine .bG cs' vs (by omega) (fun j c' v ai fe=>?_);have aK:j<cs.length:=by rw[<-ak]; exact (List.getElem?_eq_some_iff.1 ai).1
   exact aH j cs[j] c' (List.getElem?_eq_getElem aK) ai (aq j cs[j] v (List.getElem?_eq_getElem aK) fe)
 | rF z b off cap sz=>
  intro v aq;cases aq with
  | au _ _ _ _ _ _ cap' cs m ag hm ak ap ah=>exact .fw z _ cap'
  | go _ _ _ _ _ _ cap' a ak ah ar=>exact .fw z _ cap'
  | hF _ _ _ _ a cs m ag hm=>exact .fw z a 0
 | fw z=>
  intro v aq;generalize ao:([] :List (List U))=es at aq;generalize zL:U.bD z es=h5 at aq;cases aq<;>cases zL
  ·subst ao; exact .fw z _ _
  ·exact .fw z _ _
 | au z b off len cap sz cs es ag ak aw eG h aH=>
  intro v aq;have qS:(bU l).f b=.cells sz cs:=lX.2 ag;cases aq with
  | hF _ _ _ _ a hL m e9 iY=>
   obtain rfl:=List.length_eq_zero_iff.1 ak;exact .fw z a 0
  | go _ _ _ _ _ _ cap' a ak ah ar=>
   exfalso;rcases ar with ar | ⟨n,hL,ar,aK⟩
   ·rw[qS] at ar; cases ar
   ·rw[qS] at ar; cases ar; omega
  | au _ _ _ _ _ _ cap' hL m e9 hm gX ap ah=>
   rw[qS] at e9; cases e9;have hblk:=rel.blk b m hm;rw[qS] at hblk;obtain⟨ce,ci,arr,t,fV,hw,aB,aD,md⟩:=hblk;have cS:len<=cap':=by rcases ah with ⟨_,h⟩ | ⟨_,h,_⟩<;>omega
   have tS:B<=m.r:=rel.base b m (by rw[qS]; rfl) hm;subst ak;have oF:∀ i j,i<es.length->j<z->∃ c v,cs[off+(i*z+j)]? = some c/\arr[m.s+(off+(i*z+j))]? = some v/\v.oneCell'=true/\aO w R (bU l) μ c v:=by
    intro i j av ai;have aK:off+(i*z+j)<cs.length:=by
     have:i*z+z<=es.length*z:=by rw[<-Nat.succ_mul]; exact Nat.mul_le_mul_right _ av
     omega
    obtain⟨v,h1,ad,aj⟩:=md _ _ (List.getElem?_eq_getElem aK);exact⟨_,v,List.getElem?_eq_getElem aK,h1,ad,aj⟩
   refine .bD z es m.r (m.s+off) cap' (fun i j=>(arr[m.s+(off+(i*z+j))]?).getD undef) cS aw (fun i j av ai=>?_) (fun i e ao j c' ai=>?_)
   ·obtain⟨c,v,h1,ad,aj,aF⟩:=oF i j av ai;refine⟨?_,?_,tS,fun ⟨b,m,h1,ad,aj⟩=>by cases ad⟩
    ·simp only[World.cell?,hw,ad,Option.getD_some,Option.isSome_none];rw[show m.s+off+(i*z+j)=m.s+(off+(i*z+j)) by omega,ad]; rfl
    ·rw[ad]; exact aj
   ·have av:i<es.length:=(List.getElem?_eq_some_iff.1 ao).1;have mf:j<z:=by rw[<-aw e (List.mem_of_getElem? ao)]; exact (List.getElem?_eq_some_iff.1 ai).1
    obtain⟨c,v,h1,ad,aj,aF⟩:=oF i j av mf;simp only[ad,Option.getD_some];exact aH i j e c c' ao ai h1 aF
theorem AG {P:Program} {G:Nat->U} (lK:P.follows .mixedOrders=true) (j3:∀ g,(G g).closed=true) {f:FuncId} {args:List U} {r:U} (h:c7 P G f args [] (c:=⟨fun lT l=>jV l lT r⟩)) :ja P G f args r:=by
 obtain⟨lT,l',h1,ad,aj⟩:=h;intro w A vs ar ak aq;refine (Nz (A:=A) lK j3 h1 ar ak aq).mono ?_;rintro e w' ⟨v,μ',rfl,ag,rel,ax⟩;exact⟨v,rfl,ag,ajr rel aj ax⟩
theorem WV {l:am} {z b n cap sz:Nat} {es:List (List U)} {rest:List U} (ag:l[b]? = some (.cells sz (es.flatten++rest))) (aC:es.length=n) (aw:∀ e∈es,e.length=z) (ah:∀ e∈es,lz e=true) :jV l (.au z b 0 n cap sz) (.bD z es) :=by
 have fL:=l9 (z:=z) (es:=es) (fun e ao=>aw e ao);refine .au z b 0 n cap sz _ es ag aC aw (by rw[List.length_append,fL,aC]; omega) (fun i j e c c' ao ai de=>?_);have av:i<es.length:=(List.getElem?_eq_some_iff.1 ao).1;have mf:j<z:=by rw[<-aw e (List.mem_of_getElem? ao)]; exact (List.getElem?_eq_some_iff.1 ai).1
 have aK:i*z+j<es.flatten.length:=by
  rw[fL];have:i*z+z<=es.length*z:=by rw[<-Nat.succ_mul]; exact Nat.mul_le_mul_right _ av
  omega
 have h1:es.flatten[i*z+j]? = some c':=zy es aw i j e c' ao ai;rw[Nat.zero_add,List.getElem?_append_left aK,h1] at de;cases de;exact .flat _ (EX (ah e (List.mem_of_getElem? ao)) j _ ai)
theorem WS {l:am} {c:U} (h:c.closed=true) :fH (bU l) c c:=.same c h
@[simp] theorem aqd (n z:Nat) (cs:List U) (k:IntKind) (i:Int) :C9 n z (.aM cs) (.int k i)=if 0<=i/\i<n then cs[i.toNat*z]? else none:=id rfl
@[simp] theorem aqe (n z:Nat) (cs:List U) (k:IntKind) (i:Int) :Da n z (.aM cs) (.int k i)=if 0<=i/\i<n then sX z cs (i.toNat*z) else none:=id rfl
@[simp] theorem An (s:List UInt8) (k:IntKind) (i:Int) :yf (.str s) (.int k i)=if 0<=i then (s[i.toNat]?).map iO else none:=id rfl
theorem akd {α:Type} {l:List α} {i:Nat} {x:α} (h:l[i]? = some x) :l.set i x=l:=by
 obtain⟨av,rfl⟩:=List.getElem?_eq_some_iff.1 h;exact List.set_getElem_self av
theorem l6 {α:Type} (f:α->U) (aD:∀ x,(f x).closed=true) :∀ l:List α,bm (l.map f)=true
 | []=>rfl
 | x::l=>by simp only[List.map_cons,bm,aD,l6 f aD l,Bool.and_self]
theorem Rb {α:Type} (f:α->U) (aD:∀ x,(f x).closed=true) (l:List α) :(U.aM (l.map f)).closed=true:=by simp only[U.closed]; exact l6 f aD l
theorem zx {α:Type} (f:α->U) (aD:∀ x,(f x).flat=true) :∀ l:List α,lz (l.map f)=true
 | []=>rfl
 | x::l=>by simp only[List.map_cons,lz,aD,zx f aD l,Bool.and_self]
theorem RY {α:Type} (f:α->U) (aD:∀ x,(f x).flat=true) (l:List α) :(U.aM (l.map f)).flat=true:=by simp only[U.flat]; exact zx f aD l
@[simp] theorem anZ (z:Nat) :tB (.au z) .a1=some (.int .i64 0) :=id rfl
@[simp] theorem anY (n z:Nat) (x:U) :tB (.arr n z) x=some (.int .i64 n) :=id rfl
theorem asY (z:Nat) (cN av cG:Option U) :gg (.au z) .a1 cN av cG=(gv 0 0 cN av cG).map fun _=>.a1:=rfl
@[simp] theorem asZ (z:Nat) (k:IntKind) :gg (.au z) .a1 none (some (.int k 0)) none=some .a1:=id rfl
theorem yK (z b off len cap sz:Nat) (cN av cG:Option U) :gg (.au z) (.au z b off len cap sz) cN av cG=(gv len cap cN av cG).map fun (l,aG,m)=>if m=l then .au z b (off+l*z) 0 0 sz else .au z b (off+l*z) (aG - l) (m - l) sz:=by
 simp[gg]
theorem Dt {α:Type} {l:List α} {a:α} (h:l[0]? = some a) :∃ r,l=a::r:=by
 cases l with
 | nil=>simp at h
 | cons x l=>simp at h; subst h; exact⟨l,rfl⟩
theorem alu {α:Type} {l:List α} {b:α} (h:l[1]? = some b) :∃ a r,l=a::b::r:=by
 cases l with
 | nil=>simp at h
 | cons x l=>obtain⟨r,rfl⟩:=Dt (l:=l) (by simpa using h); exact⟨x,r,rfl⟩
theorem AN (zero:List U) (n:Nat) :(dk zero n).length=n*zero.length:=by
 induction n with
 | zero=>simp[dk]
 | succ n aH=>simp[dk,aH,Nat.succ_mul,Nat.add_comm]
theorem Hr (zero:List U) (n:Nat) :dk zero n=(List.replicate n zero).flatten:=by
 induction n with
 | zero=>rfl
 | succ n aH=>rw[dk,aH,List.replicate_succ,List.flatten_cons]
inductive bJ (z:Nat) (l:am) :U->Nat->List (List U)->Prop
 | nil (j:Nat) :bJ z l .a1 j []
 | au (j n cap sz:Nat) (cs:List U) (es:List (List U)) (ag:l[j]? = some (.cells sz cs)) (ak:cs.length=sz) (aC:es.length=n) (aw:∀ e∈es,e.length=z) (ah:n<=cap) (cS:cap*z<=sz)
   (ce:cs.take (n*z)=es.flatten) :bJ z l (.au z j 0 n cap sz) j es
def cD:U->Bool | .a1=>true | _=>false
theorem i3 {v:U}:cD v=true<->v=.a1:=by cases v<;>simp[cD]
theorem uq {α:Type} {v aY:U} {xs:List α} (h:aY=.a1<->v=.a1/\xs=[]) :cD aY=(cD v&&xs.isEmpty) :=by
 rw[Bool.eq_iff_iff,i3,h,Bool.and_eq_true,i3,List.isEmpty_iff]
def s5 (z:Nat) (v:U) (es:List (List U)) :U:=match cD v with | true=>.a1 | false=>.bD z es
section
variable {z:Nat} {l l' : am} {v:U} {j:Nat} {es:List (List U)}
theorem bJ.lt (h:bJ z l v j es) :v=.a1\/j<l.length:=by
 cases h with
 | nil j=>exact .inl rfl
 | au j n cap sz cs es ag=>exact .inr (fc ag)
theorem bJ.row (h:bJ z l v j es) :∀ e∈es,e.length=z:=by
 cases h with
 | nil j=>intro e ao; cases ao
 | au j n cap sz cs es ag ak aC aw=>exact aw
theorem bJ.cells (h:bJ z l v j es) :v.cells=some [v] :=by cases h<;>rfl
theorem bJ.len (h:bJ z l v j es) :cP (.au z) v=some (.int .i64 es.length) :=by
 cases h with
 | nil j=>rfl
 | au j n cap sz cs es ag ak aC=>subst aC; rfl
theorem bJ.frame (h:bJ z l v j es) (ai:j<l.length->l'[j]? = l[j]?) :bJ z l' v j es:=by
 cases h with
 | nil j=>exact .nil j
 | au j n cap sz cs es ag ak aC aw ah cS ce=>exact .au j n cap sz cs es (by rw[ai (fc ag)]; exact ag) ak aC aw ah cS ce
theorem bJ.vx (h:bJ z l v j es) (ai:v=.a1\/l'[j]? = l[j]?) :bJ z l' v j es:=by
 cases h with
 | nil j=>exact .nil j
 | au j n cap sz cs es ag ak aC aw ah cS ce=>
  rcases ai with ai | ai
  ·cases ai
  ·exact .au j n cap sz cs es (by rw[ai]; exact ag) ak aC aw ah cS ce
theorem bJ.more (h:bJ z l v j es) (x:am) :bJ z (l++x) v j es:=h.frame fun ai=>List.getElem?_append_left ai
theorem bJ.contents (h:bJ z l v j es) :dp l z v=some (es.flatten,es.length) :=by
 cases h with
 | nil j=>rfl
 | au j n cap sz cs es ag ak aC aw ah cS ce=>subst aC; simp only[dp,ag,and_self,if_true,List.drop_zero,ce]
theorem bJ.Hl (h:bJ z l v j es) (aD:∀ e∈es,lz e=true) :jV l v (s5 z v es) :=by
 cases h with
 | nil j=>exact .flat _ rfl
 | au j n cap sz cs es ag ak aC aw ah cS ce=>
  show jV l _ (.bD z es);refine WV (rest:=cs.drop (n*z)) ?_ aC aw aD;rw[ag,<-ce,List.take_append_drop]
theorem bJ.rz (h:bJ z l v j es) (aD:∀ e∈es,bm e=true) :fH (bU l) v (s5 z v es) :=by
 cases h with
 | nil j=>exact .same _ rfl
 | au j n cap sz cs es ag ak aC aw ah cS ce=>
  show fH (bU l) _ (.bD z es);have pX:n*z<=cs.length:=by rw[ak]; exact Nat.le_trans (Nat.mul_le_mul_right _ ah) cS
  refine .au z j 0 n cap sz cs es (lX.2 ag) aC aw (by omega) (fun i k e c c' ao hk de=>?_);have av:i<es.length:=(List.getElem?_eq_some_iff.1 ao).1;have CC:k<z:=by rw[<-aw e (List.mem_of_getElem? ao)]; exact (List.getElem?_eq_some_iff.1 hk).1
  have aK:i*z+k<n*z:=by
   have:i*z+z<=es.length*z:=by rw[<-Nat.succ_mul]; exact Nat.mul_le_mul_right _ av
   rw[aC] at this; omega
  have h1:es.flatten[i*z+k]? = some c':=zy es aw i k e c' ao hk;rw[<-ce,List.getElem?_take_of_lt aK] at h1;rw[Nat.zero_add,h1] at de;cases de;exact .same _ (BI (aD e (List.mem_of_getElem? ao)) k _ hk)
theorem DH {l:am} {z b n cap sz:Nat} {es:List (List U)} {rest:List U} (ag:l[b]? = some (.cells sz (es.flatten++rest))) (aC:es.length=n) (aw:∀ e∈es,e.length=z) (ah:∀ e∈es,bm e=true) :fH (bU l) (.au z b 0 n cap sz) (.bD z es) :=by
 have fL:=l9 (z:=z) (es:=es) (fun e ao=>aw e ao);refine .au z b 0 n cap sz _ es (lX.2 ag) aC aw (by rw[List.length_append,fL,aC]; omega) (fun i j e c c' ao ai de=>?_);have av:i<es.length:=(List.getElem?_eq_some_iff.1 ao).1;have mf:j<z:=by rw[<-aw e (List.mem_of_getElem? ao)]; exact (List.getElem?_eq_some_iff.1 ai).1
 have aK:i*z+j<es.flatten.length:=by
  rw[fL];have:i*z+z<=es.length*z:=by rw[<-Nat.succ_mul]; exact Nat.mul_le_mul_right _ av
  omega
 have h1:es.flatten[i*z+j]? = some c':=zy es aw i j e c' ao ai;rw[Nat.zero_add,List.getElem?_append_left aK,h1] at de;cases de;exact .same _ (BI (ah e (List.mem_of_getElem? ao)) j _ ai)
theorem Oo (h:bJ z l v j es) {by_ m:Nat} {xs:List (List U)} (hm:xs.length=m) (lf:∀ e∈xs,e.length=z) (aE:z≠0) (dD:by_≠0) (df:(es.length+m)*by_<=ct) :
  ∃ aY bX l',h4 l z by_ v xs.flatten m=some (aY,l')/\bJ z l' aY bX (es++xs)/\l.length<=l'.length/\(∀ b,b<l.length->b≠j->l'[b]? = l[b]?)/\(bX=j\/l.length<=bX)/\(aY=.a1<->v=.a1/\xs=[]) :=by
 by_cases jk:m=0
 ·have af:xs=[] :=List.length_eq_zero_iff.1 (by omega);subst af;refine⟨v,j,l,?_,by simpa using h,Nat.le_refl _,fun _ _ _=>rfl,.inl rfl,by simp⟩;unfold h4;rw[if_pos jk];cases h<;>rfl
 have bn:xs.flatten.length=m*z:=by rw[l9 lf,hm]
 have ke:∀ e∈es++xs,e.length=z:=fun e ao=>by
  rcases List.mem_append.1 ao with h1 | h1
  ·exact h.row e h1
  ·exact lf e h1
 have bx:xs≠[] :=fun af=>jk (by rw[<-hm,af]; rfl)
 cases h with
 | nil j=>
  refine⟨.au z l.length 0 m m (m*z),l.length,l++[.cells (m*z) xs.flatten],?_,?_,by simp,fun b ag _=>List.getElem?_append_left ag,.inr (Nat.le_refl _),by simp[bx]⟩
  ·unfold h4;rw[if_neg jk,if_neg (by omega)];simp only;rw[if_pos (by simpa using df)]
  ·refine .au _ _ _ _ xs.flatten _ (by simp) bn (by simpa using hm) ke (Nat.le_refl _) (Nat.le_refl _) ?_;rw[List.take_of_length_le (by omega)]; rfl
 | au j n cap sz cs es ag ak aC aw ah cS ce=>
  subst aC;have pX:es.length*z<=cap*z:=Nat.mul_le_mul_right _ ah;have vO:(es++xs).length=es.length+m:=by simp[hm]
  have fL:(es++xs).flatten=es.flatten++xs.flatten:=by simp
  have oI:es.flatten.length=es.length*z:=l9 aw;have pK:h4 l z by_ (.au z j 0 es.length cap sz) xs.flatten m =
    if es.length+m<=cap then some (.au z j 0 (es.length+m) cap sz,l.set j (.cells sz (bz cs (es.length*z) xs.flatten)))
    else if cap*z<sz then some (.au z l.length 0 (es.length+m) (es.length+m) ((es.length+m)*z),l++[.cells ((es.length+m)*z) (es.flatten++xs.flatten)])
    else some (.au z j 0 (es.length+m) (es.length+m) ((es.length+m)*z),l.set j (.cells ((es.length+m)*z) (es.flatten++xs.flatten))) :=by
   unfold h4;rw[if_neg jk,if_neg (by omega)];simp only[ag];rw[if_pos ⟨trivial,trivial,df⟩];simp only[Nat.zero_add,List.drop_zero,ce,if_true]
  rw[pK];have eO:=fc ag;split
  ·rename_i h1;have Ky:(es.length+m)*z<=cap*z:=Nat.mul_le_mul_right _ h1;rw[Nat.add_mul] at Ky;refine⟨_,j,_,rfl,?_,by simp,fun b bH iT=>by rw[List.getElem?_set_ne (fun e=>iT e.symm)],.inl rfl,by simp⟩;refine .au j _ cap sz (bz cs (es.length*z) xs.flatten) _ (by rw[List.getElem?_set_self eO]) ?_ vO ke h1 cS ?_
   ·rw[rG (by omega)]; omega
   ·rw[fL];unfold bz;rw[ce,List.take_append_of_le_length (by simp[oI,bn,Nat.add_mul]),List.take_of_length_le (by simp[oI,bn,Nat.add_mul])]
  ·split
   ·refine⟨_,l.length,_,rfl,?_,by simp,fun b bH _=>List.getElem?_append_left bH,.inr (Nat.le_refl _),by simp⟩;refine .au _ _ _ _ (es.flatten++xs.flatten) _ (by simp) (by simp[oI,bn,Nat.add_mul]) vO ke (Nat.le_refl _) (Nat.le_refl _) ?_;rw[fL,List.take_of_length_le (by simp[oI,bn,Nat.add_mul])]
   ·refine⟨_,j,_,rfl,?_,by simp,fun b bH iT=>by rw[List.getElem?_set_ne (fun e=>iT e.symm)],.inl rfl,by simp⟩;refine .au j _ _ _ (es.flatten++xs.flatten) _ (by rw[List.getElem?_set_self eO]) (by simp[oI,bn,Nat.add_mul]) vO ke (Nat.le_refl _) (Nat.le_refl _) ?_;rw[fL,List.take_of_length_le (by simp[oI,bn,Nat.add_mul])]
theorem ou (h:bJ z l v j es) {by_:Nat} {x:U} {xs:List (List U)} (af:dp l z x=some (xs.flatten,xs.length)) (lf:∀ e∈xs,e.length=z) (aE:z≠0) (dD:by_≠0) (df:(es.length+xs.length)*by_<=ct) :
  ∃ aY bX l',fz l z by_ v x=some (aY,l')/\bJ z l' aY bX (es++xs)/\l.length<=l'.length/\(∀ b,b<l.length->b≠j->l'[b]? = l[b]?)/\(bX=j\/l.length<=bX)/\(aY=.a1<->v=.a1/\xs=[]) :=by
 unfold fz;rw[af];exact Oo h rfl lf aE dD df
theorem ZA (h:bJ z l v j es) {by_ n:Nat} {k:IntKind} {zero:List U} (iE:zero.length=z) (aE:z≠0) (dD:by_≠0) (aC:n<9223372036854775808) (df:(es.length+n)*by_<=ct) :
  ∃ aY bX l',qE l z by_ zero v (.int k (n:Int))=some (aY,l')/\bJ z l' aY bX (es++List.replicate n zero)/\l.length<=l'.length/\(∀ b,b<l.length->b≠j->l'[b]? = l[b]?)/\(bX=j\/l.length<=bX)/\(aY=.a1<->v=.a1/\n=0) :=by
 have:=Oo h (xs:=List.replicate n zero) (m:=n) (by simp) (fun e ao=>by rw[(List.mem_replicate.1 ao).2,iE]) aE dD df;obtain⟨aY,bX,l',h1,ad⟩:=this;refine⟨aY,bX,l',?_,by simpa [List.replicate_eq_nil_iff] using ad⟩;unfold qE;simp only[Int.toNat_natCast];rw[if_pos ⟨by omega,by omega,by have:=Nat.le_trans (Nat.mul_le_mul_right by_ (Nat.le_add_left n es.length)) df; exact this⟩,Hr];exact h1
theorem ZE {l:am} {z by_ n:Nat} {v aY:U} {xs:List U} {pre rest:am} {l' : am} (aq:v=.a1\/∃ j n cap sz,v=.au z j 0 n cap sz/\pre.length<=j) (h:h4 (pre++rest) z by_ v xs n=some (aY,l')) :
  ∃ ln,l'=pre++ln:=by
 unfold h4 at h;by_cases aC:n=0
 ·rw[if_pos aC] at h;rcases aq with rfl | ⟨j,m,cap,sz,rfl,ai⟩<;>(cases h; exact⟨_,rfl⟩)
 rw[if_neg aC] at h;by_cases aE:z=0\/by_=0
 ·rw[if_pos aE] at h; cases h
 rw[if_neg aE] at h;rcases aq with rfl | ⟨j,m,cap,sz,rfl,ai⟩
 ·simp only at h;split at h
  ·cases h; exact⟨_,by rw[List.append_assoc]⟩
  ·cases h
 ·simp only at h;split at h
  ·split at h
   ·split at h
    ·cases h; exact⟨_,by rw[List.set_append_right _ _ ai]⟩
    ·split at h
     ·cases h; exact⟨_,by rw[List.append_assoc]⟩
     ·split at h
      ·cases h; exact⟨_,by rw[List.set_append_right _ _ ai]⟩
      ·rename_i aG; exact absurd trivial aG
   ·cases h
  ·cases h
theorem Bo {z by_:Nat} {v:U} {j:Nat} {es:List (List U)} {pre rest:am} (h:bJ z (pre++rest) v j es) (ai:v=.a1\/pre.length<=j) {x:U} {xs:List (List U)} (af:dp (pre++rest) z x=some (xs.flatten,xs.length)) (lf:∀ e∈xs,e.length=z) (aE:z≠0) (dD:by_≠0)
  (df:(es.length+xs.length)*by_<=ct) :
  ∃ aY bX ln,fz (pre++rest) z by_ v x=some (aY,pre++ln)/\bJ z (pre++ln) aY bX (es++xs)/\(aY=.a1\/pre.length<=bX)/\cD aY=(cD v&&xs.isEmpty) :=by
 have aD:v=.a1\/∃ j n cap sz,v=.au z j 0 n cap sz/\pre.length<=j:=by
  cases h with
  | nil j=>exact .inl rfl
  | au j n cap sz cs es=>exact .inr ⟨j,n,cap,sz,rfl,ai.resolve_left (by simp)⟩
 obtain⟨aY,bX,l',h1,ad,aj,aF,aW,bt⟩:=ou h af lf aE dD df;have dC:=h1;unfold fz at dC;rw[af] at dC;obtain⟨ln,rfl⟩:=ZE (l:=[]) aD dC;refine⟨aY,bX,ln,h1,ad,?_,uq bt⟩;rcases aW with h | h
 ·rcases ai with aq | ai
  ·by_cases Aj:xs=[]
   ·exact .inl (bt.2 ⟨aq,Aj⟩)
   ·right;subst aq;have Ah:xs.length≠0:=fun e=>Aj (List.length_eq_zero_iff.1 e)
    simp only at dC;unfold h4 at dC;rw[if_neg Ah] at dC;split at dC
    ·cases dC
    ·simp only at dC;split at dC
     ·obtain⟨rfl,_⟩:=Prod.mk.inj (Option.some.inj dC);generalize es++xs=E at ad;cases ad;simp
     ·cases dC
  ·right; omega
 ·right;rw[List.length_append] at h; omega
theorem bJ.view (h:bJ z l v j es) (aq:cD v=false) :∃ n cap sz cs,v=.au z j 0 n cap sz/\l[j]? = some (.cells sz cs)/\cs.length=sz/\es.length=n/\n*z<=sz/\(∀ i e,es[i]? = some e->∀ m,m<z->cs[i*z+m]? = e[m]?)/\cs.take (n*z)=es.flatten:=by
 cases h with
 | nil j=>simp[cD] at aq
 | au j n cap sz cs es ag ak aC aw ah cS ce=>
  refine⟨n,cap,sz,cs,rfl,ag,ak,aC,Nat.le_trans (Nat.mul_le_mul_right _ ah) cS,fun i e ao m hm=>?_,ce⟩;have av:i<es.length:=(List.getElem?_eq_some_iff.1 ao).1;have aK:i*z+m<n*z:=by
   have:i*z+z<=es.length*z:=by rw[<-Nat.succ_mul]; exact Nat.mul_le_mul_right _ av
   rw[aC] at this; omega
  have h1:=EZ aw ao hm;rw[<-h1,<-ce,List.getElem?_take_of_lt aK]
theorem bJ.DJ {α:Type} {enc:α->List U} {xs:List α} (h:bJ z l v j (xs.map enc)) (aD:∀ x,lz (enc x)=true) (s:dR α) (al:cD v=s.isNone) (af:s.l=xs) :jV l v (cK z enc s) :=by
 have h1:=h.Hl (fun e ao=>by obtain⟨x,_,rfl⟩:=List.mem_map.1 ao; exact aD x);subst af;unfold s5 at h1;rw[al] at h1;cases s with
 | none=>exact h1
 | some s=>exact h1
theorem bJ.nr {α:Type} {enc:α->List U} {xs:List α} (h:bJ z l v j (xs.map enc)) (aD:∀ x,bm (enc x)=true) (s:dR α) (al:cD v=s.isNone) (af:s.l=xs) :fH (bU l) v (cK z enc s) :=by
 have h1:=h.rz (fun e ao=>by obtain⟨x,_,rfl⟩:=List.mem_map.1 ao; exact aD x);subst af;unfold s5 at h1;rw[al] at h1;cases s with
 | none=>exact h1
 | some s=>exact h1
end
def AL (h:aN) :Nat->U->Option U
 | 0,_=>none
 | d+1,c=>match c with
  | .aM cs=>match pc (AL h d) cs with | some cs'=>some (.aM cs') | none=>none
  | .bG cs=>match pc (AL h d) cs with | some cs'=>some (.bG cs') | none=>none
  | .au z b off len cap sz=>match Nat.beq len 0 with
   | true=>some (.bD z [])
   | false=>match h.f b with
    | .cells n cs=>match Nat.beq n sz&&Nat.ble (off+len*z) cs.length with
     | true=>match pc (AL h d) ((cs.drop off).take (len*z)) with
      | some xs=>some (.bD z (ly z len xs))
      | none=>none
     | false=>none
    | _=>none
  | c=>match c.flat with | true=>some c | false=>none
theorem Hm {h:aN} {l:am} (r:eE h l) :∀ (d:Nat) (c c' : U),AL h d c=some c'->jV l c c'
 | 0,c,c',af=>by cases af
 | d+1,c,c',af=>by
  unfold AL at af;split at af
  ·split at af
   ·rename_i h1; cases af;exact .aM _ _ (s2 h1) (fun j c c' ah e3=>Hm r d c c' (s1 h1 j c c' ah e3))
   ·cases af
  ·split at af
   ·rename_i h1; cases af;exact .bG _ _ (s2 h1) (fun j c c' ah e3=>Hm r d c c' (s1 h1 j c c' ah e3))
   ·cases af
  ·rename_i z b off len cap sz;split at af
   ·rename_i aE;cases af;rw[Nat.eq_of_beq_eq_true aE];exact .rF z b off cap sz
   ·split at af
    ·rename_i n cs ag;split at af
     ·rename_i dG;simp only[Bool.and_eq_true] at dG;have aC:=Nat.eq_of_beq_eq_true dG.1;have dO:=Nat.le_of_ble_eq_true dG.2;subst aC;split at af
      ·rename_i xs h1;cases af;have bn:=s2 h1;simp only[List.length_take,List.length_drop] at bn;have ul:xs.length=len*z:=by omega
       have dr:∀ (i:Nat),i<len->(ly z len xs)[i]? = some ((xs.drop (i*z)).take z) :=fun i av=>ED len xs i av
       have dX:∀ i,i<len->i*z+z<=len*z:=fun i av=>by rw[<-Nat.succ_mul]; exact Nat.mul_le_mul_right _ av
       refine .au z b off len cap n cs _ (r.some ag (by simp)) (vh _ _) (fun e ao=>?_) dO (fun i j e c c' ao ai ah=>?_)
       ·obtain⟨i,av⟩:=List.mem_iff_getElem?.1 ao;have du:i<len:=by
         have:=(List.getElem?_eq_some_iff.1 av).1;rw[vh] at this; exact this
        rw[dr i du] at av;cases av;have:=dX i du;simp; omega
       ·have du:i<len:=by
         have:=(List.getElem?_eq_some_iff.1 ao).1;rw[vh] at this; exact this
        rw[dr i du] at ao;cases ao;have qW:=dX i du;have mf:j<z:=by have:=(List.getElem?_eq_some_iff.1 ai).1; simp at this; omega
        rw[List.getElem?_take_of_lt mf,List.getElem?_drop] at ai;refine Hm r d c c' (s1 h1 (i*z+j) c c' ?_ ai);rw[List.getElem?_take_of_lt (by omega),List.getElem?_drop];exact ah
      ·cases af
     ·cases af
    ·cases af
  ·split at af
   ·rename_i ah; cases af; exact .flat _ ah
   ·cases af
def Xn (P:Program) (G:Nat->U) [qz P G] (orc:qA) (kT:u0) (fuel k:Nat) (f:FuncId) (args:List U) (r:U) :Bool:=
 match BB P G orc kT fuel k f args aN.empty with
 | some (v,h)=>match AL h 20 v with
  | some aY=>U.beq aY r
  | none=>false
 | none=>false
theorem AH {P:Program} {G:Nat->U} [qz P G] (lK:P.follows .mixedOrders=true) (j3:∀ g,(G g).closed=true) {orc:qA} {kT:u0} (ap:Bf P G orc) (aI:Bi P kT) {fuel k:Nat} {f:FuncId} {args:List U} {r:U}
  (af:Xn P G orc kT fuel k f args r=true) :ja P G f args r:=by
 unfold Xn at af;split at af
 ·rename_i v h ah;split at af
  ·rename_i aY aq;obtain⟨l',ax,ad⟩:=IE ap aI fuel k f args aN.empty v h [] eE.nil ah;have:=U.beq_eq af;subst this;exact AG lK j3 (ad _ (Hm ax 20 v aY aq))
  ·cases af
 ·cases af
inductive dQ (z:Nat) (l:am) :U->Nat->List (List U)->Prop
 | nil (j:Nat) :dQ z l .a1 j []
 | au (j off n cap sz:Nat) (cs:List U) (es:List (List U)) (ag:l[j]? = some (.cells sz cs)) (ak:cs.length=sz) (aC:es.length=n) (aw:∀ e∈es,e.length=z) (ah:n<=cap) (cS:off+cap*z<=sz)
   (ce:(cs.drop off).take (n*z)=es.flatten) :dQ z l (.au z j off n cap sz) j es
section
variable {z:Nat} {l l' : am} {v:U} {j:Nat} {es:List (List U)}
theorem bJ.q (h:bJ z l v j es) :dQ z l v j es:=by
 cases h with
 | nil j=>exact .nil j
 | au j n cap sz cs es ag ak aC aw ah cS ce=>exact .au j 0 n cap sz cs es ag ak aC aw ah (by omega) (by simpa using ce)
theorem dQ.row (h:dQ z l v j es) :∀ e∈es,e.length=z:=by
 cases h with
 | nil j=>intro e ao; cases ao
 | au j off n cap sz cs es ag ak aC aw=>exact aw
theorem dQ.lt (h:dQ z l v j es) :v=.a1\/j<l.length:=by
 cases h with
 | nil j=>exact .inl rfl
 | au j off n cap sz cs es ag=>exact .inr (fc ag)
theorem dQ.cells (h:dQ z l v j es) :v.cells=some [v] :=by cases h<;>rfl
theorem dQ.len (h:dQ z l v j es) :cP (.au z) v=some (.int .i64 es.length) :=by
 cases h with
 | nil j=>rfl
 | au j off n cap sz cs es ag ak aC=>subst aC; rfl
theorem dQ.vx (h:dQ z l v j es) (ai:v=.a1\/l'[j]? = l[j]?) :dQ z l' v j es:=by
 cases h with
 | nil j=>exact .nil j
 | au j off n cap sz cs es ag ak aC aw ah cS ce=>
  rcases ai with ai | ai
  ·cases ai
  ·exact .au j off n cap sz cs es (by rw[ai]; exact ag) ak aC aw ah cS ce
theorem dQ.more (h:dQ z l v j es) (x:am) :dQ z (l++x) v j es:=h.vx (by
 rcases h.lt with h | h
 ·exact .inl h
 ·exact .inr (List.getElem?_append_left h))
theorem dQ.uD (h:dQ z l .a1 j es) :es=[] :=by
 generalize aq:U.a1=w at h;cases h with
 | nil j=>rfl
 | au=>cases aq
theorem Zy (h:dQ z l v j es) {by_ m:Nat} {xs:List (List U)} (hm:xs.length=m) (lf:∀ e∈xs,e.length=z) (aE:z≠0) (dD:by_≠0) (df:(es.length+m)*by_<=ct) :
  ∃ aY bX l',h4 l z by_ v xs.flatten m=some (aY,l')/\dQ z l' aY bX (es++xs)/\l.length<=l'.length/\(∀ b,b<l.length->(v=.a1\/b≠j)->l'[b]? = l[b]?)/\(aY=.a1\/(v≠.a1/\bX=j)\/l.length<=bX)/\(aY=.a1<->v=.a1/\xs=[]) :=by
 by_cases jk:m=0
 ·have af:xs=[] :=List.length_eq_zero_iff.1 (by omega);subst af;refine⟨v,j,l,?_,by simpa using h,Nat.le_refl _,fun _ _ _=>rfl,?_,by simp⟩
  ·unfold h4;rw[if_pos jk];cases h<;>rfl
  ·by_cases aq:v=.a1
   ·exact .inl aq
   ·exact .inr (.inl ⟨aq,rfl⟩)
 have bn:xs.flatten.length=m*z:=by rw[l9 lf,hm]
 have ke:∀ e∈es++xs,e.length=z:=fun e ao=>by
  rcases List.mem_append.1 ao with h1 | h1
  ·exact h.row e h1
  ·exact lf e h1
 have bx:xs≠[] :=fun af=>jk (by rw[<-hm,af]; rfl)
 cases h with
 | nil j=>
  refine⟨.au z l.length 0 m m (m*z),l.length,l++[.cells (m*z) xs.flatten],?_,?_,by simp,fun b ag _=>List.getElem?_append_left ag,.inr (.inr (Nat.le_refl _)),by simp[bx]⟩
  ·unfold h4;rw[if_neg jk,if_neg (by omega)];simp only;rw[if_pos (by simpa using df)]
  ·refine .au _ _ _ _ _ xs.flatten _ (by simp) bn (by simpa using hm) ke (Nat.le_refl _) (by omega) ?_;rw[List.drop_zero,List.take_of_length_le (by omega)]; rfl
 | au j off n cap sz cs es ag ak aC aw ah cS ce=>
  subst aC;have pX:es.length*z<=cap*z:=Nat.mul_le_mul_right _ ah;have vO:(es++xs).length=es.length+m:=by simp[hm]
  have fL:(es++xs).flatten=es.flatten++xs.flatten:=by simp
  have oI:es.flatten.length=es.length*z:=l9 aw;have pK:h4 l z by_ (.au z j off es.length cap sz) xs.flatten m =
    if es.length+m<=cap then some (.au z j off (es.length+m) cap sz,l.set j (.cells sz (bz cs (off+es.length*z) xs.flatten)))
    else if off+cap*z<sz then some (.au z l.length 0 (es.length+m) (es.length+m) ((es.length+m)*z),l++[.cells ((es.length+m)*z) (es.flatten++xs.flatten)])
    else if off=0 then some (.au z j 0 (es.length+m) (es.length+m) ((es.length+m)*z),l.set j (.cells ((es.length+m)*z) (cs.take (es.length*z)++xs.flatten)))
    else some (.au z l.length 0 (es.length+m) (es.length+m) ((es.length+m)*z),l.set j .dead++[.cells ((es.length+m)*z) (es.flatten++xs.flatten)]) :=by
   unfold h4;rw[if_neg jk,if_neg (by omega)];simp only[ag];rw[if_pos ⟨trivial,trivial,df⟩];simp only[ce]
  rw[pK];have eO:=fc ag;have nd:∀ dT:am,dT.length=l.length->dQ z (dT++[.cells ((es.length+m)*z) (es.flatten++xs.flatten)]) (.au z l.length 0 (es.length+m) (es.length+m) ((es.length+m)*z)) l.length (es++xs) :=fun dT q2=>by
   refine .au _ _ _ _ _ (es.flatten++xs.flatten) _ (by rw[<-q2]; simp) (by simp[oI,bn,Nat.add_mul]) vO ke (Nat.le_refl _) (by omega) ?_;rw[fL,List.drop_zero,List.take_of_length_le (by simp[oI,bn,Nat.add_mul])]
  split
  ·rename_i h1;have Ky:(es.length+m)*z<=cap*z:=Nat.mul_le_mul_right _ h1;rw[Nat.add_mul] at Ky;refine⟨_,j,_,rfl,?_,by simp,fun b bH iT=>by rw[List.getElem?_set_ne (fun e=>(iT.resolve_left (by simp)) e.symm)],.inr (.inl ⟨by simp,rfl⟩),by simp⟩;refine .au j off _ cap sz (bz cs (off+es.length*z) xs.flatten) _ (by rw[List.getElem?_set_self eO]) ?_ vO ke h1 cS ?_
   ·rw[rG (by omega)]; omega
   ·rw[fL];unfold bz;have aI:cs.take (off+es.length*z)=cs.take off++es.flatten:=by rw[List.take_add,ce]
    have apT:(cs.take off).length=off:=by rw[List.length_take]; omega
    rw[aI,List.append_assoc,List.append_assoc,List.drop_append_of_le_length (by omega),List.drop_of_length_le (by omega),List.nil_append,<-List.append_assoc,List.take_append_of_le_length (by simp[oI,bn,Nat.add_mul]),List.take_of_length_le (by simp[oI,bn,Nat.add_mul])]
  ·split
   ·exact⟨_,l.length,_,rfl,nd l rfl,by simp,fun b bH _=>List.getElem?_append_left bH,.inr (.inr (Nat.le_refl _)),by simp⟩
   ·split
    ·rename_i zY;subst zY;rw[List.drop_zero] at ce;refine⟨_,j,_,rfl,?_,by simp,fun b bH iT=>by rw[List.getElem?_set_ne (fun e=>(iT.resolve_left (by simp)) e.symm)],.inr (.inl ⟨by simp,rfl⟩),by simp⟩;refine .au j 0 _ _ _ (cs.take (es.length*z)++xs.flatten) _ (by rw[List.getElem?_set_self eO]) (by rw[ce]; simp[oI,bn,Nat.add_mul]) vO ke (Nat.le_refl _) (by omega) ?_;rw[ce,fL,List.drop_zero,List.take_of_length_le (by simp[oI,bn,Nat.add_mul])]
    ·refine⟨_,l.length,_,rfl,nd _ (by simp),by simp,fun b bH iT=>?_,.inr (.inr (Nat.le_refl _)),by simp⟩;rw[List.getElem?_append_left (by simpa using bH),List.getElem?_set_ne (fun e=>(iT.resolve_left (by simp)) e.symm)]
theorem aiE {pre rest l' : am} (h:∀ b,b<pre.length->l'[b]? = (pre++rest)[b]?) (ak:pre.length<=l'.length) :∃ ln,l'=pre++ln:=by
 refine⟨l'.drop pre.length,?_⟩;apply List.ext_getElem?;intro i;by_cases av:i<pre.length
 ·rw[h i av,List.getElem?_append_left av,List.getElem?_append_left av]
 ·rw[List.getElem?_append_right (by omega),List.getElem?_drop]; congr 1; omega
theorem Oq {by_:Nat} {pre rest:am} (h:dQ z (pre++rest) v j es) (ai:v=.a1\/pre.length<=j) {x:U} {xs:List (List U)} (af:dp (pre++rest) z x=some (xs.flatten,xs.length)) (lf:∀ e∈xs,e.length=z) (aE:z≠0) (dD:by_≠0)
  (df:(es.length+xs.length)*by_<=ct) :
  ∃ aY bX ln,fz (pre++rest) z by_ v x=some (aY,pre++ln)/\dQ z (pre++ln) aY bX (es++xs)/\(aY=.a1\/pre.length<=bX)/\cD aY=(cD v&&xs.isEmpty) ∧
   (∀ b,b<(pre++rest).length->(v=.a1\/b≠j)->(pre++ln)[b]? = (pre++rest)[b]?)/\(aY=.a1\/(v≠.a1/\bX=j)\/(pre++rest).length<=bX) :=by
 obtain⟨aY,bX,l',h1,ad,aj,aF,aW,bt⟩:=Zy h (by_:=by_) rfl lf aE dD df;have nb:pre.length<=(pre++rest).length:=by simp
 obtain⟨ln,rfl⟩:=aiE (pre:=pre) (rest:=rest) (l':=l') (fun b ag=>aF b (by omega) (by
  rcases ai with h | h
  ·exact .inl h
  ·exact .inr (by omega))) (by omega)
 refine⟨aY,bX,ln,?_,ad,?_,uq bt,aF,aW⟩
 ·unfold fz; rw[af]; exact h1
 ·rcases aW with h | ⟨h,h'⟩ | h
  ·exact .inl h
  ·rcases ai with ai | ai
   ·exact absurd ai h
   ·exact .inr (by omega)
  ·exact .inr (by omega)
theorem dQ.from (h:dQ z l v j es) (aq:cD v=false) {k:IntKind} {i:Nat} (av:i<=es.length) :∃ aY,gg (.au z) v (some (.int k (i:Int))) none none=some aY/\dQ z l aY j (es.drop i)/\cD aY=false:=by
 cases h with
 | nil j=>simp[cD] at aq
 | au j off n cap sz cs es ag ak aC aw ah cS ce=>
  subst aC;have ua:i*z+(cap - i)*z=cap*z:=by rw[<-Nat.add_mul]; congr 1; omega
  have T8:i*z+(es.length - i)*z=es.length*z:=by rw[<-Nat.add_mul]; congr 1; omega
  have dO:es.length*z<=cap*z:=Nat.mul_le_mul_right _ ah;have Lf:∀ e∈es.drop i,e.length=z:=fun e ao=>aw e (List.mem_of_mem_drop ao)
  have fL:(es.drop i).flatten=(es.flatten).drop (i*z) :=by
   have h1:es.flatten=(es.take i).flatten++(es.drop i).flatten:=by rw[<-List.flatten_append,List.take_append_drop]
   have ad:(es.take i).flatten.length=i*z:=by
    rw[l9 (z:=z) (fun e ao=>aw e (List.mem_of_mem_take ao)),List.length_take];congr 1; omega
   rw[h1,<-ad,List.drop_left]
  rw[yK,OS,if_pos ⟨by omega,by omega⟩];simp only[Int.toNat_natCast,Option.map_some,Option.some.injEq,exists_eq_left'];by_cases eN:cap=i
  ·rw[if_pos eN];have ad4:es.drop i=[] :=List.drop_of_length_le (by omega);refine⟨?_,rfl⟩;rw[ad4];exact .au j _ 0 0 sz cs [] ag ak rfl (by simp) (Nat.le_refl _) (by omega) (by simp)
  ·rw[if_neg eN];refine⟨.au j _ _ _ sz cs _ ag ak (by simp) Lf (by omega) (by omega) ?_,rfl⟩;rw[fL,<-ce,List.drop_take,List.drop_drop];congr 1; omega
theorem dQ.get (h:dQ z l v j es) {k:IntKind} {i:Nat} {e:List U} (ao:es[i]? = some e) :∃ p cs o,cj (.au z) v (.int k (i:Int))=some p/\eo l p=some (cs,o)/\o+z<=cs.length/\(cs.drop o).take z=e:=by
 cases h with
 | nil j=>simp at ao
 | au j off n cap sz cs es ag ak aC aw ah cS ce=>
  subst aC;have av:=(List.getElem?_eq_some_iff.1 ao).1;have h1:i*z+z<=es.length*z:=by rw[<-Nat.succ_mul]; exact Nat.mul_le_mul_right _ av
  have ad:es.length*z<=cap*z:=Nat.mul_le_mul_right _ ah;refine⟨.ptr j (off+i*z) sz,cs,off+i*z,?_,?_,by omega,?_⟩
  ·simp only[cj,Int.toNat_natCast];rw[if_pos ⟨trivial,by omega,by omega⟩]
  ·simp only[eo,ag,if_true]
  ·have ad7:=aw e (List.mem_of_getElem? ao);apply List.ext_getElem?;intro m;by_cases hm:m<z
   ·rw[List.getElem?_take_of_lt hm,List.getElem?_drop,<-EZ aw ao hm,<-ce,List.getElem?_take_of_lt (by omega),List.getElem?_drop];congr 1; omega
   ·rw[List.getElem?_eq_none (by simp; omega),List.getElem?_eq_none (by omega)]
theorem dQ.Hl (h:dQ z l v j es) (aD:∀ e∈es,lz e=true) :jV l v (s5 z v es) :=by
 cases h with
 | nil j=>exact .flat _ rfl
 | au j off n cap sz cs es ag ak aC aw ah cS ce=>
  show jV l _ (.bD z es);have pX:off+n*z<=cs.length:=by rw[ak]; have:=Nat.mul_le_mul_right z ah; omega
  refine .au z j off n cap sz cs es ag aC aw (by omega) (fun i k e c c' ao hk de=>?_);have av:i<es.length:=(List.getElem?_eq_some_iff.1 ao).1;have CC:k<z:=by rw[<-aw e (List.mem_of_getElem? ao)]; exact (List.getElem?_eq_some_iff.1 hk).1
  have aK:i*z+k<n*z:=by
   have:i*z+z<=es.length*z:=by rw[<-Nat.succ_mul]; exact Nat.mul_le_mul_right _ av
   rw[aC] at this; omega
  have h1:es.flatten[i*z+k]? = some c':=zy es aw i k e c' ao hk;rw[<-ce,List.getElem?_take_of_lt aK,List.getElem?_drop] at h1;rw[h1] at de;cases de;exact .flat _ (EX (aD e (List.mem_of_getElem? ao)) k _ hk)
theorem dQ.rz (h:dQ z l v j es) (aD:∀ e∈es,bm e=true) :fH (bU l) v (s5 z v es) :=by
 cases h with
 | nil j=>exact .same _ rfl
 | au j off n cap sz cs es ag ak aC aw ah cS ce=>
  show fH (bU l) _ (.bD z es);have pX:off+n*z<=cs.length:=by rw[ak]; have:=Nat.mul_le_mul_right z ah; omega
  refine .au z j off n cap sz cs es (lX.2 ag) aC aw (by omega) (fun i k e c c' ao hk de=>?_);have av:i<es.length:=(List.getElem?_eq_some_iff.1 ao).1;have CC:k<z:=by rw[<-aw e (List.mem_of_getElem? ao)]; exact (List.getElem?_eq_some_iff.1 hk).1
  have aK:i*z+k<n*z:=by
   have:i*z+z<=es.length*z:=by rw[<-Nat.succ_mul]; exact Nat.mul_le_mul_right _ av
   rw[aC] at this; omega
  have h1:es.flatten[i*z+k]? = some c':=zy es aw i k e c' ao hk;rw[<-ce,List.getElem?_take_of_lt aK,List.getElem?_drop] at h1;rw[h1] at de;cases de;exact .same _ (BI (aD e (List.mem_of_getElem? ao)) k _ hk)
theorem dQ.rd (h:dQ z l v j es) (aD:∀ e∈es,bm e=true) :Rd l v (s5 z v es) :=by
 cases h with
 | nil j=>exact .same _ rfl
 | au j off n cap sz cs es ag ak aC aw ah cS ce=>
  show Rd l _ (.bD z es);have pX:off+n*z<=cs.length:=by rw[ak]; have:=Nat.mul_le_mul_right z ah; omega
  refine .au z j off n cap sz cs es ag aC aw (by omega) (fun i k e c c' ao hk de=>?_);have av:i<es.length:=(List.getElem?_eq_some_iff.1 ao).1;have CC:k<z:=by rw[<-aw e (List.mem_of_getElem? ao)]; exact (List.getElem?_eq_some_iff.1 hk).1
  have aK:i*z+k<n*z:=by
   have:i*z+z<=es.length*z:=by rw[<-Nat.succ_mul]; exact Nat.mul_le_mul_right _ av
   rw[aC] at this; omega
  have h1:es.flatten[i*z+k]? = some c':=zy es aw i k e c' ao hk;rw[<-ce,List.getElem?_take_of_lt aK,List.getElem?_drop] at h1;rw[h1] at de;cases de;exact .same _ (BI (aD e (List.mem_of_getElem? ao)) k _ hk)
theorem dQ.yD {α:Type} {enc:α->List U} {xs:List α} (h:dQ z l v j (xs.map enc)) (aD:∀ x,bm (enc x)=true) (s:dR α) (al:cD v=s.isNone) (af:s.l=xs) :Rd l v (cK z enc s) :=by
 have h1:=h.rd (fun e ao=>by obtain⟨x,_,rfl⟩:=List.mem_map.1 ao; exact aD x);subst af;unfold s5 at h1;rw[al] at h1;cases s with
 | none=>exact h1
 | some s=>exact h1
theorem dQ.DJ {α:Type} {enc:α->List U} {xs:List α} (h:dQ z l v j (xs.map enc)) (aD:∀ x,lz (enc x)=true) (s:dR α) (al:cD v=s.isNone) (af:s.l=xs) :jV l v (cK z enc s) :=by
 have h1:=h.Hl (fun e ao=>by obtain⟨x,_,rfl⟩:=List.mem_map.1 ao; exact aD x);subst af;unfold s5 at h1;rw[al] at h1;cases s with
 | none=>exact h1
 | some s=>exact h1
theorem dQ.nr {α:Type} {enc:α->List U} {xs:List α} (h:dQ z l v j (xs.map enc)) (aD:∀ x,bm (enc x)=true) (s:dR α) (al:cD v=s.isNone) (af:s.l=xs) :fH (bU l) v (cK z enc s) :=by
 have h1:=h.rz (fun e ao=>by obtain⟨x,_,rfl⟩:=List.mem_map.1 ao; exact aD x);subst af;unfold s5 at h1;rw[al] at h1;cases s with
 | none=>exact h1
 | some s=>exact h1
end
theorem ZU {P:Program} {t:TypeId} {xs a6:List U} {r:Bool} (ar:P.eqGuardType P.depth t=false) (h:ez P 10000 t (.aM xs) (.aM a6)=some r) :gi P .eql t (.aM xs) (.aM a6)=some (.bool r) :=by
 simp only[gi,xk,ar,Bool.not_false,if_true,h]; rfl
theorem ZV {P:Program} {t:TypeId} {xs a6:List U} {r:Bool} (ar:P.eqGuardType P.depth t=false) (h:ez P 10000 t (.aM xs) (.aM a6)=some r) :gi P .neq t (.aM xs) (.aM a6)=some (.bool (!r)) :=by
 simp only[gi,xk,ar,Bool.not_false,if_true,h]; rfl
end Go.b2

namespace Go.b2
open Go Go.ChangeShapes Go.RowKit
theorem aio (k:Nat) :¬ lu aN.empty (fun _=>none) k:=by
 rintro⟨b,m,ak,_,_⟩;simp[aN.empty,aN.f,live,cA.get] at ak
theorem acm {H:Type} {enc:TypeId × Value->H} {P:Program} {w:World} {base:Nat} {spare:Nat->Bool} {held:Bool} {fuel:Nat} {VR:String} {g t e n:Nat} {cs:Array Value} {x:DataW H × List MemPlace} (bN:List Int)
  (ar:P.globalNamed VR=some g) (aq:w.var? P VR=some cs) (aJ:P.underlying t=some (.array n e)) (ao:P.underlying e=some (.int .u32)) (ah:P.cellsOf e=1) (bq:DataW.trod enc P w base spare held fuel t cs.toList=some x)
  (af:x.1=.agg (bN.map fun k=>.lit (.int .u32 k))) :fi w (fun _=>True) (.b6 (bN.map fun k=>.int .u32 k) 0) (.pointer (some ⟨g,0,none⟩)) :=by
 obtain⟨xs,m,rfl,Ah,bh,aC,ad6⟩:=DataW.trod_array aJ bq;rw[Ah] at af;simp only[DataW.agg.injEq] at af;have vN:bN.length=n:=by have:=congrArg List.length af; simp at this; omega
 have md:∀ j k,bN[j]? = some k->w.cell? ⟨g,j,none⟩=some (.int .u32 k) :=by
  intro j k ai;have j6:j<n:=by have:=(atq.1 ai).1; omega
  have h1:=ad6 j j6;rw[ah,auW] at h1;have TN:j<xs.length:=by omega
  rw[atu TN] at h1;obtain⟨k',aQ,bF,_⟩:=DataW.trod_int ao h1;have aj:=congrArg (fun l=>l[j]?) af;simp only[atw,atu TN,ai,atA,Option.some.injEq] at aj;rw[bF] at aj;have oM:k'=k:=by simpa using aj
  subst oM;have aF:=World.var?_cell ar aq j;rw[aF];have aW:(cs.toList.drop j)[0]? = some (Value.int .u32 k') :=by
   have:((cs.toList.drop j).take 1)[0]? = some (Value.int .u32 k') :=by rw[aQ]; rfl
   rw[avK] at this;simpa using this
  rw[at6] at aW;simpa using aW
 refine .b6 _ 0 g 0 (fun j=>.int .u32 (bN.getD j 0)) (fun j ai=>?_) (fun j c ai=>?_)
 ·rw[atU] at ai;refine⟨?_,rfl,trivial,aio g⟩;rw[auF,md j bN[j] (atu ai),atE,atu ai];rfl
 ·rw[atw] at ai;cases hk:bN[j]? with
  | none=>rw[hk] at ai; cases ai
  | some k=>
   rw[hk] at ai;cases ai;rw[atE,hk];exact .int _ _
theorem X4 {H:Type} {enc:TypeId × Value->H} {P:Program} {w:World} {base:Nat} {spare:Nat->Bool} {held:Bool}:∀ {ts:List TypeId} {vs:List Value} {hN:List (DataW H)} {cE:List MemPlace},
  DataW.TrodAll enc P w base spare held ts vs hN cE->hN.length=ts.length
 | [],vs,hN,cE,h=>by obtain⟨rfl,rfl,rfl⟩:=trodAll_nil h; rfl
 | t::ts,vs,hN,cE,h=>by
  obtain⟨v,alX,d,abb,a,b,rfl,rfl,rfl,h1,ad⟩:=trodAll_cons h;simp[X4 ad]
end Go.b2

namespace Go.b2
open Go
def sS:List (FuncId × Bool × (List U->Option U))->qA
 | [],_=>none
 | e::r,f=>match Nat.beq f e.1 with | true=>some e.2 | false=>sS r f
abbrev tl (P:Program) (G:Nat->U) (e:FuncId × Bool × (List U->Option U)) :Prop:=∀ args r,e.2.2 args=some r->bw P G e.1 args r/\(e.2.1=true->ja P G e.1 args r)
theorem ws {P:Program} {G:Nat->U}:∀ {l:List (FuncId × Bool × (List U->Option U))},(∀ e∈l,tl P G e)->Bf P G (sS l)
 | [],_,f,n,g,args,r,aD,_=>by cases aD
 | e::l,h,f,n,g,args,r,aD,ar=>by
  unfold sS at aD;split at aD
  ·rename_i ag;have:=auj ag;subst this;have ao:e.2=(n,g) :=Option.some.inj aD;have:=h e (by simp) args r (by rw[ao]; exact ar);rw[ao] at this;exact this
  ·exact ws (fun x af=>h x (by simp[af])) f n g args r aD ar
def nD (P:Program) (G:Nat->U) :List (FuncId × Bool × (List U->Option U))->Prop
 | []=>True
 | e::r=>tl P G e/\nD P G r
theorem nD.mem {P:Program} {G:Nat->U}:∀ {l:List (FuncId × Bool × (List U->Option U))},nD P G l->∀ e∈l,tl P G e
 | e::l,h,x,af=>by
  rcases aub.1 af with rfl | af
  ·exact h.1
  ·exact nD.mem h.2 x af
theorem w9 {P:Program} {G:Nat->U}:nD P G [] :=trivial
theorem nG {P:Program} {G:Nat->U} {e:FuncId × Bool × (List U->Option U)} {l:List (FuncId × Bool × (List U->Option U))} (h:tl P G e) (ad:nD P G l) :nD P G (e::l) :=⟨h,ad⟩
def AD:List (List U × U)->List U->Option U
 | [],_=>none
 | e::r,args=>match eU args e.1 with | true=>some e.2 | false=>AD r args
def A9 (P:Program) (G:Nat->U) (f:FuncId) :List (List U × U)->Prop
 | []=>True
 | e::r=>ja P G f e.1 e.2/\A9 P G f r
theorem Ij {P:Program} {G:Nat->U} {f:FuncId}:A9 P G f [] :=trivial
theorem y7 {P:Program} {G:Nat->U} {f:FuncId} {a:List U} {r:U} {l:List (List U × U)} (h:ja P G f a r) (ad:A9 P G f l) :A9 P G f ((a,r) ::l) :=⟨h,ad⟩
theorem Hb {P:Program} {G:Nat->U} {f:FuncId}:∀ {l:List (List U × U)},A9 P G f l->tl P G (f,true,AD l)
 | [],_,args,r,h=>by cases h
 | e::l,hk,args,r,h=>by
  simp only[AD] at h;split at h
  ·rename_i ag;cases h;rw[tx ag];exact⟨hk.1.D0,fun _=>hk.1⟩
  ·exact Hb hk.2 args r h
def cZ (l:List Nat) :List U:=l.map fun n=>.int .u8 (.ofNat n)
def mq (n:Int) :U:=.int .i64 n
def g9 (l:List U) :List (List U) :=l.map fun c=>[c]
end Go.b2

namespace Go.b2
open Go Go.Proofs Go.Shelf Go.Sort Go.RowKit
def AE:U->Bool | .bool _=>true | .int _ _=>true | .str _=>true | _=>false
def valOf:U->Value | .bool b=>.bool b | .int k n=>.int k n | .str s=>.string ⟨s.toArray⟩ | _=>.bool false
theorem alV {w:World} {R:Nat->Prop} {h:aN} {μ:cH} {c:U} {v:Value} (ay:AE c=true) (aq:aO w R h μ c v) :v=valOf c:=by
 cases aq with
 | bool b=>rfl
 | int k n=>rfl
 | str bs=>obtain⟨⟨l⟩⟩:=bs; rfl
 | bad=>cases ay
 | _=>cases ay
theorem Wm {w:World} {R:Nat->Prop} {h:aN} {μ:cH} {c:U} (ay:AE c=true) :aO w R h μ c (valOf c) :=by
 cases c with
 | bool b=>exact .bool b
 | int k n=>exact .int k n
 | str s=>exact (.str ⟨s.toArray⟩:aO w R h μ (.str (ByteArray.mk s.toArray).data.toList) _)
 | _=>cases ay
theorem NL (c:U) :(valOf c).oneCell'=true:=by cases c<;>rfl
theorem aat {w W:World} {b o:Nat} (h:W.heap[b]? = w.heap[b]?) :W.cell? ⟨b,o,none⟩=w.cell? ⟨b,o,none⟩:=by simp[World.cell?,h]
theorem aau {w:World} {b o:Nat} {v:Value} (h:w.cell? ⟨b,o,none⟩=some v) :b<w.heap.size:=by
 apply Decidable.byContradiction;intro aC;simp only[World.cell?] at h;rw[au2 (by omega)] at h;cases h
theorem alU {w W:World} {A:Nat->Prop} (cz:∀ k,A k->k<w.heap.size->W.heap[k]? = w.heap[k]?) {c:U} {v:Value} (aq:fi w A c v) :fi W A c v:=by
 unfold fi at aq ⊢;generalize aG:aN.empty=aE at aq ⊢;generalize hm:(fun _=>none:cH)=rM at aq ⊢;have r2:∀ {b o:Nat} {v:Value},Cell w A aE rM b o v->Cell W A aE rM b o v:=fun {b o v} k=>⟨(aat (cz b k.ro (aau k.here))).trans k.here,k.one,k.ro,k.free⟩
 induction aq with
 | bool b=>exact .bool b
 | int k n=>exact .int k n
 | str bs=>exact .str bs
 | i8=>exact .i8
 | a1=>exact .a1
 | hA=>exact .hA
 | i6=>exact .i6
 | i7=>exact .i7
 | aM cs vs ak h1 aq aH=>exact .aM cs vs ak h1 aH
 | bG cs vs ak aq aH=>exact .bG cs vs ak aH
 | ptr b off sz cs m ag iq=>subst hm; cases iq
 | mz b off sz a ar=>exact .mz b off sz a ar
 | b6 cs off blk o ed ah aq aH=>exact .b6 cs off blk o ed (fun j ai=>r2 (ah j ai)) aH
 | au z b off len cap sz cap' cs m ag iq ak ap ah=>subst hm; cases iq
 | go z b off len cap sz cap' a ak ah ar=>exact .go z b off len cap sz cap' a ak ah ar
 | hF z b off sz a cs m ag iq=>subst hm; cases iq
 | bD z es blk off cap ed ak aw ah aq aH=>exact .bD z es blk off cap ed ak aw (fun i j av ai=>r2 (ah i j av ai)) aH
 | fw z a cap=>exact .fw z a cap
 | fn f first fI fs cs aD ah h1 ad c2 hy=>exact .fn f first fI fs cs aD ah c2 hy
 | mp b m ag iq=>subst hm; cases iq
 | it b m ag iq=>subst hm; cases iq
 | gA t c v aq aH=>exact .gA t c v aH
 | lW l=>exact .lW l
 | bad v=>exact .bad v
theorem Z0 {W w' : World} (h:yZ W w') :∃ q os,w'=grow (W.drewN q) os:=by
 refine⟨w'.drawn - W.drawn,w'.heap.extract W.heap.size,?_⟩;have bq:=h.drawn;have al:=h.size;obtain⟨FM,ak4,IZ,Me,aif⟩:=w';obtain⟨heap,tape,drawn,os,out⟩:=W;have aQ:Me=os:=h.os;have bF:ak4=tape:=h.tape;have dz:aif=out:=h.output;subst aQ bF dz;have j0:FM=heap++FM.extract heap.size:=by
  apply Array.ext_getElem?;intro k;rw[Array.getElem?_append];split
  ·rename_i hk;exact h.block k hk
  ·rename_i hk;rw[Array.getElem?_extract];have su:heap.size<=FM.size:=al;by_cases jj:k<FM.size
   ·rw[if_pos (by omega),show heap.size+(k - heap.size)=k by omega]
   ·rw[if_neg (by omega),au2 (by omega)]
 have BR:IZ=drawn+(IZ - drawn) :=by
  have:drawn<=IZ:=bq;omega
 unfold grow World.drewN;simp only;rw[<-j0,<-BR]
def H6 (P:Program) (f g:FuncId) (k:Nat) {X:Type} [Inhabited X] (cW:X->List Value) (hK:X->X->Int) :Prop:=
 ∀ (blk off cap:Nat) (d:Array X) (w:World),CmpLays P g #[] cW k hK blk off d.size w->HoldsK cW k w blk off d->blk<w.heap.size->d.size<4611686018427387904->
  Calls P f #[.slice (some ⟨blk,off,none⟩) d.size cap,.func (.func g) #[] #[]] w fun e w'=>e=.returned (.tuple #[])/\∃ qI n os,PermIn 0 d.size d qI/\SortedIn (ltOf hK) 0 d.size qI/\w'=sortWorldK cW k w blk off n qI os
def sorted {X:Type} (hK:X->X->Int) (xs:List X) :List X:=xs.mergeSort fun x y=>!ltOf hK y x
theorem Xz {X:Type} (hK:X->X->Int) (xs:List X) :(sorted hK xs).length=xs.length:=List.length_mergeSort _
section
variable {P:Program} {G:Nat->U} {X:Type} {enc:X->List U} {k:Nat}
theorem DN (hk:∀ x,(enc x).length=k) (xs:List X) {j:Nat} (ai:j<xs.length*k) :∃ x c,xs[j / k]? = some x/\(enc x)[j % k]? = some c/\((xs.map enc).flatten)[j]? = some c:=by
 have xP:0<k:=Nat.pos_of_ne_zero fun h=>by subst h; simp at ai
 have h1:j / k<xs.length:=Nat.div_lt_of_lt_mul (by rw[awn]; exact ai);have ad:j % k<k:=ave _ xP;refine⟨xs[j / k],(enc xs[j / k])[j % k]'(by rw[hk]; exact ad),atu h1,atu _,?_⟩;have aj:(xs.map enc)[j / k]? = some (enc xs[j / k]) :=by rw[atw,atu h1]; rfl
 have aF:=EZ (z:=k) (fun e ao=>by obtain⟨x,_,rfl⟩:=atV.1 ao; exact hk x) aj ad;rw[awn,Nat.div_add_mod] at aF;rw[aF];exact atu _
theorem RX [Inhabited X] (hk:∀ x,(enc x).length=k) (xs:List X) {j:Nat} (ai:j<xs.length*k) {c:U} (ah:((xs.map enc).flatten)[j]? = some c) :(flatK (fun x=>(enc x).map valOf) k xs.toArray)[j]! = valOf c:=by
 obtain⟨x,c',h1,ad,aj⟩:=DN hk xs ai;rw[aj] at ah; cases ah;rw[get_flatK _ _ _ _ (by simpa using ai)];have aF:xs.toArray[j / k]! = x:=by
  have aK:=(atq.1 h1).1;rw[getElem!_pos _ _ (by simpa using aK)];simpa using (atq.1 h1).2
 rw[aF];obtain⟨aW,bt⟩:=atq.1 ad;rw[getElem!_pos _ _ (by simpa using aW)];simp[bt]
theorem akz [Inhabited X] {f g b off len cap sz:Nat} {cs:List U} {xs:List X} {h:aN} (hK:X->X->Int) (fJ:H6 P f g k (fun x=>(enc x).map valOf) hK) (eS:SWO (ltOf hK)) (JZ:∀ x y,ltOf hK x y=false->ltOf hK y x=false->x=y)
  (hk:∀ x,(enc x).length=k) (ay:∀ x,∀ c∈enc x,AE c=true) (tU:∀ x y,bw P G g [.aM (enc x),.aM (enc y)] (.int .i64 (hK x y)))
  (ag:h.f b=.cells sz cs) (bh:xs.length=len) (h1:0<len) (oA:len<4611686018427387904) (ce:(cs.drop off).take (len*k)=(xs.map enc).flatten) (eG:off+len*k<=sz) :
  rP P G f [.au k b off len cap sz,.fn g [] []] h (.bG []) (h.set b (.cells sz (bz cs off ((sorted hK xs).map enc).flatten))) :=by
 intro R B w μ vs rel E9 ak aq;obtain⟨og⟩:=vs
 match og,ak with
 | [v0,fx],_=>
 have iC:=aq 0 _ v0 rfl rfl;have mm:=aq 1 _ fx rfl rfl;have afM:¬ uW h b sz:=by
  rintro (aE | ⟨n,nK,aE,ad⟩)
  ·rw[ag] at aE; cases aE
  ·rw[ag] at aE; cases aE; omega
 cases mm with
 | fn _ _ _ fs tH aD ah _ _=>
 have qX:fs=#[] :=avl aD;have jM:tH=#[] :=avl ah;subst qX jM;cases iC with
 | go _ _ _ _ _ _ _ _ _ _ ar=>exact absurd ar afM
 | hF=>omega
 | au _ _ _ _ _ _ cap' nK m jg hm lI ap de=>
 rw[ag] at jg; cases jg;have hblk:=rel.blk b m hm;rw[ag] at hblk;obtain⟨dE,dX,arr,e,fV,ax,ci,lG,iV⟩:=hblk;have kF:live (h.f b)=true:=by rw[ag]; rfl
 have j7:lu h μ m.r:=⟨b,m,kF,hm,rfl⟩
 have Kx:=rel.lt kF hm;have oM:∀ j,j<len*k->∃ c,((xs.map enc).flatten)[j]? = some c/\cs[off+j]? = some c/\AE c=true:=by
  intro j ai;obtain⟨x,c,aL,aT,a8⟩:=DN hk xs (by rw[bh]; exact ai);refine⟨c,a8,?_,ay x c (atz aT)⟩;rw[<-ce,atP ai,at6] at a8;exact a8
 have hH:HoldsK (fun x=>(enc x).map valOf) k w m.r (m.s+off) xs.toArray:=by
  intro j ai;rw[size_flatK] at ai;have ej:j<len*k:=by simpa [bh] using ai
  obtain⟨c,aL,aT,a8⟩:=oM j ej;obtain⟨v,bu,bc,ch⟩:=iV (off+j) c aT;have aK:m.s+off+j<arr.size:=by
   have:=(at2.1 bu).1;omega
  constructor
  ·simp only[World.cell?,ax,avk];rw[RX hk xs (by rw[bh]; exact ej) aL,<-alV a8 ch,au4];exact bu
  ·simp only[World.frozen?,ax];rcases lG with aE | aE
   ·subst aE; simp
   ·simp; intro aj; omega
 have adP:CmpLays P g #[] (fun x=>(enc x).map valOf) k hK m.r (m.s+off) xs.toArray.size w:=by
  intro n os aa1 zO x y;obtain⟨W,dt⟩:∃ W,W=sortWorldK (fun x=>(enc x).map valOf) k w m.r (m.s+off) n aa1 os:=⟨_,rfl⟩
  have adk:∀ i,i≠m.r->i<w.heap.size->W.heap[i]? = w.heap[i]?:=by
   intro i av aK;rw[dt];show (((w.heap.modify m.r _)++os))[i]? = _;rw[aut (by simpa using aK),avu,if_neg (fun h=>av h.symm)]
  rw[<-dt];have cz:∀ i,(R i/\¬ lu h μ i)->i<w.heap.size->W.heap[i]? = w.heap[i]?:=fun i av aK=>adk i (fun ao=>av.2 (by rw[ao]; exact j7)) aK
  have key:=tU x y W (fun i=>R i/\¬ lu h μ i) #[.agg ((enc x).map valOf).toArray,.agg ((enc y).map valOf).toArray] (fun Sr=>alU cz (xa (E9 Sr).2 (E9 Sr).1)) rfl (fun j c v ai fe=>by
   have one:∀ z:X,fi W (fun i=>R i/\¬ lu h μ i) (.aM (enc z)) (.agg ((enc z).map valOf).toArray) :=fun z=>by
    refine .aM _ _ (by simp) (fun i v av=>?_) (fun i c v av TJ=>?_)
    ·simp only[avV,atw,avP] at av;obtain⟨c,_,rfl⟩:=av;exact NL c
    ·simp only[avV,atw,avP] at TJ;obtain⟨c',aj,rfl⟩:=TJ;rw[av] at aj; cases aj;exact Wm (ay z c (atz av))
   match j with
   | 0=>simp at ai fe; subst ai fe; exact one x
   | 1=>simp at ai fe; subst ai fe; exact one y
   | j+2=>simp at ai)
  refine key.mono ?_;rintro e w' ⟨v,rfl,fB,ml⟩;obtain⟨q,Me,rfl⟩:=Z0 fB;cases ml;exact⟨rfl,q,Me,rfl⟩
 have pM:=fJ m.r (m.s+off) cap' xs.toArray w adP hH Kx (by simpa [bh] using oA);have p4:((xs.toArray.size:Nat) :Int)=(len:Int) :=by simp[bh]
 rw[show (xs.toArray.size)=len by simp[bh]] at pM;refine pM.mono ?_;rintro fb w' ⟨rfl,qI,n,os,lD,jf,rfl⟩;have pP:qI.toList=sorted hK xs:=by
  have:=sorted_unique_holds eS JZ xs.toArray qI (by simpa [bh] using lD) (by simpa [bh] using jf);simpa [sorted] using this
 obtain⟨a6,CY⟩:∃ a6,a6=sorted hK xs:=⟨_,rfl⟩
 rw[<-CY] at pP ⊢;have cx:a6.length=len:=by rw[CY,Xz,bh]
 have Ka:qI=a6.toArray:=by rw[<-pP]
 subst Ka;have fL:((a6.map enc).flatten).length=len*k:=by
  have:∀ l:List X,((l.map enc).flatten).length=l.length*k:=fun l=>by
   induction l with
   | nil=>simp
   | cons a l aH=>simp only[atY,aup,atB,aH,hk,atL]; rw[aua]; omega
  rw[this,cx]
 obtain⟨bW,jo⟩:∃ bW,bW=putRowK (fun x=>(enc x).map valOf) k (Sort.ahead w n) m.r (m.s+off) a6.toArray:=⟨_,rfl⟩
 have jN:bW.heap=w.heap.modify m.r (onCells (putCells id (m.s+off) (flatK (fun x=>(enc x).map valOf) k a6.toArray))) :=by rw[jo]; rfl
 have FI:off<=cs.length:=by omega
 obtain⟨ex,qj⟩:=rel.write (w':=bW) (sz':=sz) (cs':=bz cs off ((a6.map enc).flatten)) (arr':=putCells id (m.s+off) (flatK (fun x=>(enc x).map valOf) k a6.toArray) arr) ag hm ax ci lG (by rw[jo]; rfl) (by rw[jo]; rfl) (by rw[jo]; rfl) (by rw[jN]; simp)
  (by rw[jN,avu,if_pos rfl,ax]; rfl) (fun i av=>by rw[jN,avu,if_neg (fun h=>av h.symm)]) (by simp[putCells])
  (by rw[rG FI,fL]; omega) (att _) dX (fun j c ai=>by
   rw[M9 FI,fL] at ai;have eY:(putCells id (m.s+off) (flatK (fun x=>(enc x).map valOf) k a6.toArray) arr)[m.s+j]? = (arr[m.s+j]?).map fun x=>if m.s+off<=m.s+j/\m.s+j<m.s+off+(flatK (fun x=>(enc x).map valOf) k a6.toArray).size then (flatK (fun x=>(enc x).map valOf) k a6.toArray)[m.s+j - (m.s+off)]! else x:=by
    unfold putCells; rw[Array.getElem?_mapIdx]; rfl
   rw[size_flatK] at eY;by_cases TK:j<off
   ·rw[if_pos TK] at ai;obtain⟨v,bu,bc,ch⟩:=iV j c ai;refine⟨v,?_,bc,ch⟩;rw[eY,bu,atA,if_neg (by omega)]
   ·rw[if_neg TK] at ai;by_cases jO:j<off+len*k
    ·rw[if_pos jO] at ai;have eO:j - off<len*k:=by omega
     obtain⟨h5,aL,aT,a8⟩:=oM (j - off) eO;rw[show off+(j - off)=j by omega] at aT;obtain⟨v,bu,bc,ch⟩:=iV j h5 aT;obtain⟨x,ca,aQ,bF,dz⟩:=DN hk a6 (j:=j - off) (by rw[cx]; exact eO);rw[dz] at ai; cases ai;refine⟨valOf c,?_,NL c,Wm (ay x c (atz bF))⟩;rw[eY,bu,atA,if_pos (by simp[cx]; omega),show m.s+j - (m.s+off)=j - off by omega,RX hk a6 (by rw[cx]; exact eO) dz]
    ·rw[if_neg jO] at ai;obtain⟨v,bu,bc,ch⟩:=iV j c ai;refine⟨v,?_,bc,ch⟩;rw[eY,bu,atA,if_neg (by simp[cx]; omega)]) (by rw[jo]; exact Nat.le_add_right _ _)
 have J3:yZ bW (grow bW os) :=⟨⟨rfl,rfl,rfl,by simp[grow],fun i av=>by simp only[grow]; rw[aut av]⟩,att _⟩
 obtain⟨vw,s4⟩:=DL qj J3;refine⟨_,μ,rfl,?_,?_,.bG [] #[] rfl (fun j c v ai _=>by simp at ai)⟩
 ·rw[jo] at ex vw; exact ex.trans vw
 ·rw[jo] at s4; exact s4
end

section
variable {P:Program} {G:Nat->U} {X:Type} {enc:X->List U} {k:Nat}
theorem Xe {k:Nat}:∀ {es:List (List U)},(∀ e∈es,e.length=k)->es.flatten.length=es.length*k
 | [],_=>by simp
 | e::es,h=>by
  rw[aup,atB,h e (by simp),Xe (fun x af=>h x (by simp[af])),atL,aua]; omega
theorem akv [Inhabited X] {f g:Nat} (hK:X->X->Int) (fJ:H6 P f g k (fun x=>(enc x).map valOf) hK) (eS:SWO (ltOf hK)) (JZ:∀ x y,ltOf hK x y=false->ltOf hK y x=false->x=y)
  (hk:∀ x,(enc x).length=k) (ay:∀ x,∀ c∈enc x,AE c=true) (tU:∀ x y,bw P G g [.aM (enc x),.aM (enc y)] (.int .i64 (hK x y)))
  {l:am} {v:U} {j:Nat} {xs:List X} (j7:dQ k l v j (xs.map enc)) (oA:xs.length<4611686018427387904) {K:U->am->Prop}
  (aE:xs=[]->c7 P G f [v,.fn g [] []] l (c:=⟨K⟩))
  (aV:∀ l',l'.length=l.length->(∀ b,b≠j->l'[b]? = l[b]?)->dQ k l' v j ((sorted hK xs).map enc)->K (.bG []) l') :c7 P G f [v,.fn g [] []] l (c:=⟨K⟩) :=by
 cases xs with
 | nil=>exact aE rfl
 | cons x xs=>
 obtain⟨a6,CY⟩:∃ a6,a6=x::xs:=⟨_,rfl⟩
 rw[<-CY] at j7 oA aV;have kH:0<a6.length:=by rw[CY]; simp
 generalize iW:a6.map enc=es at j7;cases j7 with
 | nil j=>rw[aux] at iW; rw[iW] at kH; simp at kH
 | au j off n cap sz cs es ag ak aC aw ah cS ce=>
 subst iW;have sq:a6.length=n:=by simpa using aC
 have dO:n*k<=cap*k:=aty _ ah;have eO:j<l.length:=(atq.1 ag).1;have al:=akz (P:=P) (G:=G) (cap:=cap) hK fJ eS JZ hk ay tU (h:=bU l) (lX.2 ag) sq (by omega) (by omega) ce (by omega);rw[oo _ eO] at al;refine⟨_,_,.ext al,by simp,?_⟩;have e4:((sorted hK a6).map enc).length=n:=by rw[atU,Xz,sq]
 have cC:∀ e∈(sorted hK a6).map enc,e.length=k:=fun e ao=>by obtain⟨x,_,rfl⟩:=atV.1 ao; exact hk x
 have fL:(((sorted hK a6).map enc).flatten).length=n*k:=by rw[Xe cC,e4]
 have FI:off<=cs.length:=by omega
 refine aV _ (by simp) (fun b iT=>by rw[atF (fun h=>iT h.symm)]) ?_;refine .au j off n cap sz _ _ (atO eO) (by rw[rG FI,fL]; omega) e4 cC ah cS ?_;unfold bz;have h1:(List.take off cs).length=off:=by rw[atN]; omega
 rw[at1,aum (by omega),auN (by omega),auB,atS (by omega),atr (by omega)]
end

end Go.b2

/-
  The canonical machine, carried out on code without types (for calls without unknowns).
-/
import Derived.Test.YtginfboibgolaaaGreatDoorRe
import Derived.OpenShut
import Derived.Shelf.SlSortCmp.InsertionK
import Derived.Sort.LotA
set_option linter.unusedVariables false
set_option linter.unusedSimpArgs false
set_option linter.unnecessarySimpa false
namespace Go.bJ
open Go
def Vb (n:Nat) (h:aN) (p v:U) :Option aN:=
 match p,v.cells with
 | .ptr b off sz,some vs=>match h.f b with
  | .cells m cs=>if m=sz/\vs.length=n/\off+n<=m then some (h.set b (.cells m (bn cs off vs))) else none
  | _=>none
 | _,_=>none
def DE (h:aN) (z by_:Nat) (s:U) (xs:List U) (n:Nat) :Option (U × aN) :=
 if n=0 then (match s with | .aX | .b0 .. | .ar ..=>some (s,h) | _=>none)
 else if z=0\/by_=0 then none else match s with
  | .aX=>if n*by_<=cx then some (.ar z h.n 0 n n (n*z),h.push (.cells (n*z) xs)) else none
  | .ar c5 b off len cap sz=>match h.f b with
   | .cells m cs=>
    if m=sz/\z=c5/\(len+n)*by_<=cx then
     if len+n<=cap then some (.ar z b off (len+n) cap sz,h.set b (.cells m (bn cs (off+len*z) xs)))
     else if off+cap*z<sz then some (.ar z h.n 0 (len+n) (len+n) ((len+n)*z),h.push (.cells ((len+n)*z) ((cs.drop off).take (len*z)++xs)))
     else if off=0 then some (.ar z b 0 (len+n) (len+n) ((len+n)*z),h.set b (.cells ((len+n)*z) (cs.take (len*z)++xs)))
     else some (.ar z h.n 0 (len+n) (len+n) ((len+n)*z),(h.set b .dead).push (.cells ((len+n)*z) ((cs.drop off).take (len*z)++xs)))
    else none
   | _=>none
  | _=>none
def Pl (z:Nat) (h:aN) (d x:U) :Option (U × aN) :=
 match contents h z x with
 | none=>none
 | some (xs,n)=>match d with
  | .aX=>some (.int .i64 0,h)
  | .ar c5 b off len _ sz=>match h.f b with
   | .cells m cs=>if m=sz/\z=c5 then some (.int .i64 ((min n len:Nat) :Int),h.set b (.cells m (bn cs off (xs.take (min n len*z))))) else none
   | _=>none
  | _=>none
def OZ (zero:List U) (h:aN) :U->Option aN
 | .aX=>some h
 | .b0 _ []=>some h
 | .ar z b off len _ sz=>if len=0 then some h else match h.f b with
  | .cells m cs=>if m=sz/\zero.length=z then some (h.set b (.cells m (bn cs off (c4 zero len)))) else none
  | _=>none
 | _=>none
def Tt (z by_:Nat) (zero:List U) (h:aN) (l c:U) :Option (U × aN) :=match l,c with
 | .int _ l,.int _ c=>if 0<=l/\l<=c/\c<9223372036854775808/\by_*c<=cx then
   some (.ar z h.n 0 l.toNat c.toNat (c.toNat*z),h.push (.cells (c.toNat*z) (c4 zero c.toNat))) else none
 | _,_=>none
def OP (h:aN) (x:U) :Option U:=match x with
 | .aX=>some (.str [])
 | .str _=>none
 | x=>match contents h 1 x with | some (cs,_)=>(kY cs).map .str | none=>none
def Ni (h:aN) (z by_:Nat) (s x:U) :Option (U × aN) :=match contents h z x with
 | none=>none
 | some (xs,n)=>DE h z by_ s xs n
def Nk (h:aN) (z by_:Nat) (zero:List U) (s x:U) :Option (U × aN) :=match x with
 | .int _ n=>if 0<=n/\n<9223372036854775808/\n.toNat*by_<=cx then DE h z by_ s (c4 zero n.toNat) n.toNat else none
 | _=>none
def O7 (h:aN) (x y:U) :Option U:=match q3 h x,q3 h y with
 | some a,some b=>some (.int .i64 (m4 a b))
 | _,_=>none
def Ut (h:aN) (x:U) :Option (U × aN) :=match x with
 | .str s=>some (.it h.n,h.push (.iter s 0))
 | _=>none
def Td (h:aN) (x:U) :Option U:=match x with
 | .hh=>some (.int .i64 0)
 | .mp b=>match h.f b with | .map es _=>some (.int .i64 es.length) | _=>none
 | _=>none
def Tj (P:Program) (h:aN) (cA:TypeId) (zero:U) (ok:Bool) (m k:U) :Option U:=
 match mapOf h m with
 | some es=>match kn P cA k with
  | false=>none
  | true=>match iW P cA k es 0 with
   | some (some (_,v))=>some (if ok then .bu [v,.bool true] else v)
   | some none=>some (if ok then .bu [zero,.bool false] else zero)
   | none=>none
 | none=>none
def Tm (P:Program) (h:aN) (cA:TypeId) (m k v:U) :Option aN:=
 match m with
 | .mp b=>match h.f b with
  | .map es dZ=>match kn P cA k with
   | false=>none
   | true=>match iW P cA k es 0 with
    | some (some (i,_))=>some (h.set b (.map (es.modify i fun e=>(k,v,e.2.2)) dZ))
    | some none=>some (h.set b (.map (es++[(k,v,dZ)]) (dZ+1)))
    | none=>none
  | _=>none
 | _=>none
def gU (h:aN) (x:Option U) :Option (U × aN) :=match x with | some v=>some (v,h) | none=>none
section
variable (P:Program)
def CB (aw:Operand->U) (h:aN) :cY->Option (U × aN)
 | .fF x=>some (aw x,h)
 | .pick c a b=>gU h (CN (aw c) (aw a) (aw b))
 | .alloc zero=>some (.ptr h.n 0 zero.length,h.push (.cells zero.length zero))
 | .box x=>match (aw x).cells with | some cs=>some (.ptr h.n 0 cs.length,h.push (.cells cs.length cs)) | none=>none
 | .AB zero ck=>gU h ((kW zero (ck.map fun p=>(p.1,p.2.1,aw p.2.2))).map .aI)
 | .pQ z zero len ck=>match g4 (fun i=>some (i*z,z)) (c4 zero len) (ck.map fun p=>(p.1,aw p.2)) with | some cs=>some (.ar z h.n 0 len len (len*z),h.push (.cells (len*z) cs)) | none=>none
 | .ld1 a=>gU h (match reach h (aw a) with | some (cs,o)=>cs[o]? | none=>none)
 | .ti n a=>gU h (match reach h (aw a) with | some (cs,o)=>rP n cs o | none=>none)
 | .st n a x=>match Vb n h (aw a) (aw x) with | some h'=>some (gX,h') | none=>none
 | .CD x=>gU h (xw (aw x))
 | .bin o t x y=>gU h (fG P o t (aw x) (aw y))
 | .un o x=>gU h (pB o (aw x))
 | .yu k x=>gU h (AP k (aw x))
 | .yC x=>gU h (D3 (aw x))
 | .sw x=>gU h (OP h (aw x))
 | .yB x=>gU h (ut (aw x))
 | .xu t x=>some (.fD t (aw x),h)
 | .z8 t z ok x=>gU h (oB t z ok (aw x))
 | .xt f a b=>some (.fn f (a.map aw) (b.map aw),h)
 | .qB z by_ zero a c=>Tt z by_ zero h (aw a) (aw c)
 | .slice cV x cB ax ct=>gU h (gb cV (aw x) (cB.map aw) (ax.map aw) (ct.map aw))
 | .A9 off x=>gU h (mo (aw x) off)
 | .Ba off x=>gU h (Bc off (aw x))
 | .Bb n off x=>gU h (yL n off (aw x))
 | .zw cV x i=>gU h (cv cV (aw x) (aw i))
 | .Cm n z x i=>gU h (Co n z (aw x) (aw i))
 | .Cn n z x i=>gU h (Cp n z (aw x) (aw i))
 | .Cr x i=>gU h (xg (aw x) (aw i))
 | .ext x i=>gU h (A8 (aw x) i)
 | .len cV x=>gU h (cL cV (aw x))
 | .cap cV x=>gU h (sv cV (aw x))
 | .app z by_ s x=>Ni h z by_ (aw s) (aw x)
 | .tY z by_ zero s x=>Nk h z by_ zero (aw s) (aw x)
 | .us z d x=>Pl z h (aw d) (aw x)
 | .ul zero x=>match OZ zero h (aw x) with | some h'=>some (.bu [],h') | none=>none
 | .min x y=>gU h (zH (aw x) (aw y))
 | .max x y=>gU h (tl (aw x) (aw y))
 | .tm x=>match x with
  | none=>some (.mp h.n,h.push (.map [] 0))
  | some o=>match asInt (aw o) with | some _=>some (.mp h.n,h.push (.map [] 0)) | none=>none
 | .xo cA zero ok m k=>gU h (Tj P h cA zero ok (aw m) (aw k))
 | .vl cA m k x=>match Tm P h cA (aw m) (aw k) (aw x) with | some h'=>some (gX,h') | none=>none
 | .vf x=>gU h (Td h (aw x))
 | .vA x=>Ut h (aw x)
 | .vo x=>zK h (aw x)
 | .cd f q9 x y=>match Ck f (aw q9) with | true=>gU h (O7 h (aw x) (aw y)) | false=>none
 | .stop=>none
end
def rS (r:U->Option U) :List U->Option (List U)
 | []=>some []
 | c::cs=>match r c with
  | some c'=>match rS r cs with
   | some cs'=>some (c'::cs')
   | none=>none
  | none=>none
def tz (h:aN) :Nat->U->Option U
 | 0,_=>none
 | d+1,c=>match c with
  | .aI cs=>match rS (tz h d) cs with | some cs'=>some (.aI cs') | none=>none
  | .bu cs=>match rS (tz h d) cs with | some cs'=>some (.bu cs') | none=>none
  | .ar z b off len cap sz=>match Nat.beq len 0 with
   | true=>some (.b0 z [])
   | false=>match h.f b with
    | .cells n cs=>match Nat.beq n sz&&Nat.ble (off+len*z) cs.length with
     | true=>match rS (tz h d) ((cs.drop off).take (len*z)) with
      | some xs=>some (.b0 z (mq z len xs))
      | none=>none
     | false=>none
    | _=>none
  | .ptr b off sz=>match h.f b with
   | .cells n cs=>match Nat.beq n sz with
    | true=>match rS (tz h d) cs with | some cs'=>some (.b5 cs' off) | none=>none
    | false=>none
   | _=>none
  | c=>match c.closed with | true=>some c | false=>none
def Nu (x:U) :Option Int:=match x with
 | .int k i=>match k with | .i64=>some i | _=>none
 | _=>none
def lX (z:Nat) (cs vs:List U) (i len:Nat) :List U:=cs.take (i*z)++vs++(cs.drop (i*z)).take ((len - i)*z)++cs.drop ((len+1)*z)
def Ci (z by_:Nat) (h:aN) (s:U) (i:Nat) (bv:Nat) (vs:List U) :Option (U × aN) :=match s with
 | .aX=>if i=0/\by_<=cx then some (.ar z h.n 0 1 1 z,h.push (.cells z vs)) else none
 | .ar l8 b off len cap sz=>match h.f b with
  | .cells m cs=>if m=cap*z/\sz=cap*z/\l8=z/\off=0/\bv≠b/\i<=len/\len<=cap/\(len+1)*by_<=cx then
    some (.ar z h.n 0 (len+1) (max cap (len+1)) (max cap (len+1)*z),(h.set b .dead).push (.cells (max cap (len+1)*z) (lX z cs vs i len))) else none
  | _=>none
 | _=>none
def te (z by_:Nat) (args:List U) (h:aN) :Option (U × aN) :=match args with
 | [s,x,y]=>match Nu x,y with
  | some i,.ar hQ bv nu bZ dd g8=>match h.f bv with
   | .cells ko vs=>if hQ=z/\nu=0/\bZ=1/\dd=1/\g8=z/\ko=z/\0<=i then Ci z by_ h s i.toNat bv vs else none
   | _=>none
  | _,_=>none
 | _=>none
class sd (P:Program) (G:Nat->U) where
 get:FuncId->Option (Nat × Nat)
 ok:∀ f z by_,get f=some (z,by_)->∀ args h r h',te z by_ args h=some (r,h')->r8 P G f args h r h'
instance (priority:=10) apg (P:Program) (G:Nat->U) :sd P G:=⟨fun _=>none,fun f z by_ h=>by cases h⟩
abbrev nD:=FuncId->List U->aN->Option (U × aN)
abbrev Hg:=Option (qS × gA × aN)
mutual
def bg.beq:bg->bg->Bool
 | .none,y=>match y with | .none=>true | _=>false
 | .dead,y=>match y with | .dead=>true | _=>false
 | .cells n cs,y=>match y with | .cells gH cs'=>Nat.beq n gH&&eo cs cs' | _=>false
 | .map ..,_=>false
 | .iter ..,_=>false
end

section
variable (P:Program) (G:Nat->U)
def Ex (s:gA) (g:Option (Option Tmp × Bool)) :Option Bool:=match g with
 | none=>some true
 | some (some d,w)=>match look s d with
  | .bool b=>some (b == w)
  | .bad=>none
  | _=>some false
 | some (none,_)=>some false
def Az (call:nD) (b:pG) (s:gA) (h:aN) :Option (U × aN) :=match b with
 | .go m=>CB P (cH G (look s)) h m
 | .lL f args=>call f (args.map (cH G (look s))) h
 | .mm x args=>match cH G (look s) x with
  | .fn g first fu=>match ht P g with
   | true=>call g (first++args.map (cH G (look s))++fu) h
   | false=>none
  | _=>none
 | .m3 x name args=>match cH G (look s) x with
  | .fD t v=>match qA P t name with
   | some g=>match ht P g with
    | true=>call g (v::args.map (cH G (look s))) h
    | false=>none
   | none=>none
  | _=>none
def C2 (call:nD) :List dI->gA->aN->Option (gA × aN)
 | [],s,h=>some (s,h)
 | x::r,s,h=>match Ex s x.g with
  | some true=>match Az P G call x.b s h with
   | some (v,h')=>C2 call r (CR s x.dst v) h'
   | none=>none
  | some false=>C2 call r (CR s x.dst gX) h
  | none=>none
def GI (b:pG) (s:gA) (v:U) (h h' h1:aN) :Bool:=match b with
 | .go m=>match m.ik with
  | true=>bg.beq (h1.f h.n) (h'.f h.n)
  | false=>match m.looks with
   | true=>match CB P (cH G (look s)) h1 m with
    | some (a8,_)=>U.beq a8 v
    | none=>false
   | false=>false
 | _=>true
def DX (ids:List Nat) (h:aN) :List (Nat × (aN->Bool))->Bool
 | []=>true
 | e::r=>(!ids.contains e.1||e.2 h)&&DX ids h r
def C1 (call:nD) :List dI->gA->aN->List (Nat × (aN->Bool))->Option (gA × aN)
 | [],s,h,_=>some (s,h)
 | x::r,s,h,seen=>match Ex s x.g with
  | some true=>match Az P G call x.b s h with
   | some (v,h')=>match DX x.g1 h' seen with
    | true=>C1 call r (CR s x.dst v) h' (match x.cr with | true=>(x.i,GI P G x.b s v h h') ::seen | false=>seen)
    | false=>none
   | none=>none
  | some false=>C1 call r (CR s x.dst gX) h seen
  | none=>none
def OQ (call:nD) (aJ:fr->gA->aN->Hg) (c:fr) (s:gA) (h:aN) :Hg:=
 match c with
 | .skip=>some (.normal,s,h)
 | .ret=>some (.ret,s,h)
 | .exit id=>some (.exit id,s,h)
 | .vy x=>match C2 P G call x s h with
  | some (cQ,h1)=>some (.normal,cQ,h1)
  | none=>none
 | .wk x=>match C1 P G call x s h [] with
  | some (cQ,h1)=>some (.normal,cQ,h1)
  | none=>none
 | .seq a b=>match aJ a s h with
  | some (.normal,cQ,h1)=>aJ b cQ h1
  | r=>r
 | .cond c x y=>match cH G (look s) c with
  | .bool true=>aJ x s h
  | .bool false=>aJ y s h
  | _=>none
 | .block id c=>match aJ c s h with
  | some (.exit rC,cQ,h1)=>match Nat.beq rC id with
   | true=>some (.normal,cQ,h1)
   | false=>some (.exit rC,cQ,h1)
  | r=>r
 | .loop c=>match aJ c s h with
  | some (.normal,cQ,h1)=>aJ (.loop c) cQ h1
  | r=>r
def DV (call:nD) :Nat->fr->gA->aN->Hg
 | 0=>fun _ _ _=>none
 | k+1=>OQ P G call (DV call k)
def CY (s:gA) (h:aN) :List cY->List U->Option U
 | [],acc=>some (vL acc)
 | m::r,acc=>match CB P (cH G (look s)) h m with
  | some (v,_)=>CY s h r (acc++[v])
  | none=>none
abbrev sg:=FuncId->Option (Bool × (List U->Option U))
abbrev yh:=FuncId->Option (fr × List cY)
def HC (orc:sg) (f:FuncId) (args:List U) (h:aN) :Option U:=
 match orc f with
 | some (n,g)=>match rS (tz h 20) args with
  | some hV=>match g hV with
   | some r=>match n||r.flat with | true=>some r | false=>none
   | none=>none
  | none=>none
 | none=>none
def OM [sd P G] (orc:sg) (nz:yh) (fuel:Nat) (call:nD) :nD:=fun f args h=>
 match sd.get P G f with
 | some (z,by_)=>te z by_ args h
 | none=>match HC orc f args h with
 | some r=>some (r,h)
 | none=>match nz f with
  | none=>none
  | some (c,mV)=>match DV P G call fuel c (zN 0 .nil args) h with
   | some (.normal,fM,h')=>match CY P G fM h' mV [] with | some r=>some (r,h') | none=>none
   | some (.ret,fM,h')=>match CY P G fM h' mV [] with | some r=>some (r,h') | none=>none
   | _=>none
def DS [sd P G] (orc:sg) (nz:yh) (fuel:Nat) :Nat->nD
 | 0=>fun _ _ _=>none
 | k+1=>OM P G orc nz fuel (DS orc nz fuel k)
end
structure ey (h:aN) (l:am) :Prop where
 n:h.n=l.length
 f:∀ b,h.f b=(bK l).f b
theorem ey.nil:ey aN.empty [] :=⟨rfl,fun _=>rfl⟩
theorem ey.some {h:aN} {l:am} (r:ey h l) {b:Nat} {c:bg} (ah:h.f b=c) (aD:c≠.none) :l[b]? = some c:=by
 rw[r.f,mb] at ah;split at ah
 ·rename_i c' h1; rw[h1,ah]
 ·exact absurd ah.symm aD
theorem ey.push {h:aN} {l:am} (r:ey h l) (c:bg) :ey (h.push c) (l++[c]) :=
 ⟨by rw[e0,r.n]; simp,fun b=>by rw[dG,<-lF,dG,r.n,yc]; unfold bD; (split<;>first | rfl | exact r.f b)⟩
theorem ey.set {h:aN} {l:am} (r:ey h l) {b:Nat} {gB:bg} (af:l[b]? = Option.some gB) (c:bg) :ey (h.set b c) (l.set b c) :=
 ⟨by rw[ew,r.n]; simp,fun bf=>by rw[dp,<-nF _ (fy af),dp]; unfold bD; (split<;>first | rfl | exact r.f bf)⟩
section
variable {P:Program} {G:Nat->U} {h h' : aN} {l:am}
theorem ey.reach (r:ey h l) (p:U) :reach h p=dY l p:=by
 rw[<-Lv];cases p<;>try rfl
 simp only[bJ.reach,r.f]
theorem ey.contents (r:ey h l) (z:Nat) (x:U) :contents h z x=c8 l z x:=by
 rw[<-AZ];cases x<;>try rfl
 simp only[bJ.contents,r.f]
theorem ey.mapOf (r:ey h l) (x:U) :mapOf h x=rG l x:=by
 cases x<;>try rfl
 rename_i b;simp only[bJ.mapOf,rG,r.f,mb];cases l[b]? with
 | none=>rfl
 | some c=>cases c<;>rfl
theorem ey.bytes (r:ey h l) (x:U) :q3 h x=nM l x:=by
 cases x<;>simp only[q3,nM,r.contents]<;>rfl
theorem afZ {x:Option U} {v:U} (ag:gU h x=some (v,h')) :x=some v/\h'=h:=by
 cases x with
 | none=>cases ag
 | some y=>cases ag; exact⟨rfl,rfl⟩
theorem xA (r:ey h l) {x y:Option U} {v:U} (kM:x=y) (ag:gU h x=some (v,h')) :∃ l',da l y=some (v,l')/\ey h' l':=by
 obtain⟨rfl,rfl⟩:=afZ ag;exact⟨l,by rw[<-kM]; rfl,r⟩
theorem Nn (r:ey h l) {z by_ n:Nat} {s v:U} {xs:List U} (ag:DE h z by_ s xs n=some (v,h')) :∃ l',jx l z by_ s xs n=some (v,l')/\ey h' l':=by
 unfold DE at ag;unfold jx;by_cases aD:n=0
 ·rw[if_pos aD] at ag ⊢;cases s<;>simp at ag ⊢<;>(obtain⟨rfl,rfl⟩:=ag; exact⟨l,⟨rfl,rfl⟩,r⟩)
 ·rw[if_neg aD] at ag ⊢;by_cases aE:z=0\/by_=0
  ·rw[if_pos aE] at ag; cases ag
  ·rw[if_neg aE] at ag ⊢;cases s<;>simp only at ag ⊢<;>try (cases ag; done)
   case aX=>
    by_cases ay:n*by_<=cx
    ·rw[if_pos ay] at ag ⊢; cases ag; exact⟨_,by rw[r.n],r.push _⟩
    ·rw[if_neg ay] at ag; cases ag
   case ar c5 b off len cap sz=>
    cases af:h.f b<;>rw[af] at ag<;>(try simp only at ag)<;>try (cases ag; done)
    rename_i m cs;have ak:=r.some af (by simp);rw[ak];simp only;by_cases h1:m=sz/\z=c5/\(len+n)*by_<=cx
    ·rw[if_pos h1] at ag ⊢;by_cases ad:len+n<=cap
     ·rw[if_pos ad] at ag ⊢; cases ag; exact⟨_,rfl,r.set ak _⟩
     ·rw[if_neg ad] at ag ⊢;by_cases aj:off+cap*z<sz
      ·rw[if_pos aj] at ag ⊢; cases ag; exact⟨_,by rw[r.n],r.push _⟩
      ·rw[if_neg aj] at ag ⊢;by_cases aC:off=0
       ·rw[if_pos aC] at ag ⊢; cases ag; exact⟨_,rfl,r.set ak _⟩
       ·rw[if_neg aC] at ag ⊢; cases ag; exact⟨_,by rw[r.n],(r.set ak _).push _⟩
    ·rw[if_neg h1] at ag; cases ag
theorem KX (r:ey h l) {aw:Operand->U} {m:cY} {v:U} (ag:CB P aw h m=some (v,h')) :∃ l',bF P aw l m=some (v,l')/\ey h' l':=by
 cases m<;>simp only[CB] at ag<;>simp only[bF]
 case fF=>cases ag; exact⟨l,rfl,r⟩
 case alloc=>cases ag; exact⟨_,by rw[r.n],r.push _⟩
 case box x=>
  cases ah:(aw x).cells with
  | none=>rw[ah] at ag; cases ag
  | some cs=>rw[ah] at ag; cases ag; exact⟨_,by simp only[Option.map_some,r.n],r.push _⟩
 case pQ z zero n ck=>
  split at ag
  ·rename_i cs ah; cases ag; exact⟨_,by rw[ah]; simp only[Option.map_some,r.n],r.push _⟩
  ·cases ag
 case ld1 a=>
  rw[r.reach] at ag;refine xA r ?_ ag;cases dY l (aw a)<;>rfl
 case ti n a=>
  rw[r.reach] at ag;refine xA r ?_ ag;cases dY l (aw a)<;>rfl
 case st n a x=>
  unfold Vb at ag;unfold jT;cases az:aw a<;>rw[az] at ag<;>(try simp only at ag)<;>try (cases ag; done)
  rename_i b off sz;cases ah:(aw x).cells with
  | none=>rw[ah] at ag; cases ag
  | some vs=>
   rw[ah] at ag;simp only at ag ⊢;cases af:h.f b<;>rw[af] at ag<;>(try simp only at ag)<;>try (cases ag; done)
   rename_i m cs;have ak:=r.some af (by simp);rw[ak];simp only;by_cases h1:m=sz/\vs.length=n/\off+n<=m
   ·rw[if_pos h1] at ag ⊢; cases ag; exact⟨_,rfl,r.set ak _⟩
   ·rw[if_neg h1] at ag; cases ag
 case xu=>cases ag; exact⟨l,rfl,r⟩
 case xt=>cases ag; exact⟨l,rfl,r⟩
 case qB z by_ zero a c=>
  unfold Tt at ag;unfold qC;cases az:aw a<;>rw[az] at ag<;>(try simp only at ag)<;>try (cases ag; done)
  cases ah:aw c<;>rw[ah] at ag<;>(try simp only at ag)<;>try (cases ag; done)
  simp only;split at ag
  ·rename_i h1; rw[if_pos h1]; cases ag; exact⟨_,by rw[r.n],r.push _⟩
  ·cases ag
 case sw x=>
  refine xA r ?_ ag;unfold OP q4;cases aw x<;>simp only[r.contents]<;>rfl
 case app z by_ s x=>
  unfold Ni at ag;unfold iR;rw[r.contents] at ag;split at ag
  ·cases ag
  ·rename_i xs n ah; rw[ah]; exact Nn r ag
 case tY z by_ zero s x=>
  unfold Nk at ag;unfold pO;cases ah:aw x<;>rw[ah] at ag<;>(try simp only at ag)<;>try (cases ag; done)
  simp only;split at ag
  ·rename_i h1; rw[if_pos h1]; exact Nn r ag
  ·cases ag
 case us z d x=>
  unfold Pl at ag;unfold yA;rw[r.contents] at ag;split at ag
  ·cases ag
  ·rename_i xs n ah;rw[ah];simp only;cases br:aw d<;>rw[br] at ag<;>(try simp only at ag)<;>try (cases ag; done)
   ·cases ag; exact⟨l,rfl,r⟩
   ·rename_i c5 b off len cap sz;cases af:h.f b<;>rw[af] at ag<;>(try simp only at ag)<;>try (cases ag; done)
    rename_i m cs;have ak:=r.some af (by simp);simp only[ak];split at ag
    ·rename_i h1; rw[if_pos h1]; cases ag; exact⟨_,rfl,r.set ak _⟩
    ·cases ag
 case ul zero x=>
  unfold OZ at ag;unfold q6;cases br:aw x<;>rw[br] at ag<;>(try simp only at ag)<;>try (cases ag; done)
  ·cases ag; exact⟨l,rfl,r⟩
  ·rename_i z b off len cap sz;simp only;by_cases aE:len=0
   ·rw[if_pos aE] at ag ⊢; cases ag; exact⟨l,rfl,r⟩
   ·rw[if_neg aE] at ag ⊢;cases af:h.f b<;>rw[af] at ag<;>(try simp only at ag)<;>try (cases ag; done)
    rename_i m cs;have ak:=r.some af (by simp);rw[ak];simp only;by_cases h1:m=sz/\zero.length=z
    ·rw[if_pos h1] at ag ⊢; cases ag; exact⟨_,rfl,r.set ak _⟩
    ·rw[if_neg h1] at ag; cases ag
  ·rename_i z es;cases es<;>simp only at ag
   ·cases ag; exact⟨l,rfl,r⟩
   ·cases ag
 case tm x=>
  cases x with
  | none=>cases ag; exact⟨_,by rw[r.n],r.push _⟩
  | some o=>
   simp only at ag ⊢;split at ag
   ·rename_i n aD; rw[aD]; cases ag; exact⟨_,by simp only[r.n],r.push _⟩
   ·cases ag
 case xo cA zero ok m k=>
  refine xA r ?_ ag;unfold Tj vi;rw[r.mapOf];split
  ·rename_i es iC; rw[iC]; rfl
  ·rename_i iC; rw[iC]
 case vl cA m k x=>
  unfold Tm at ag;unfold rH;cases hm:aw m<;>rw[hm] at ag<;>(try simp only at ag)<;>try (cases ag; done)
  rename_i b;simp only;cases af:h.f b<;>rw[af] at ag<;>(try simp only at ag)<;>try (cases ag; done)
  rename_i es dZ;have ak:=r.some af (by simp);rw[ak];simp only;cases hk:kn P cA (aw k)<;>rw[hk] at ag<;>simp only at ag
  ·cases ag
  ·simp only;cases aA:iW P cA (aw k) es 0 with
   | none=>rw[aA] at ag; cases ag
   | some q=>
    rw[aA] at ag;cases q with
    | none=>cases ag; exact⟨_,rfl,r.set ak _⟩
    | some va=>cases ag; exact⟨_,rfl,r.set ak _⟩
 case vf x=>
  refine xA r ?_ ag;unfold Td Cy;cases aw x<;>try rfl
  rename_i b;simp only[r.f,mb];cases l[b]? with
  | none=>rfl
  | some c=>cases c<;>rfl
 case vA x=>
  unfold Ut at ag;unfold zV;cases br:aw x<;>rw[br] at ag<;>(try simp only at ag)<;>try (cases ag; done)
  cases ag; exact⟨_,by simp only[r.n],r.push _⟩
 case vo x=>
  unfold zK at ag;unfold tn;cases br:aw x<;>rw[br] at ag<;>(try simp only at ag)<;>try (cases ag; done)
  rename_i b;simp only;cases af:h.f b<;>rw[af] at ag<;>(try simp only at ag)<;>try (cases ag; done)
  have ak:=r.some af (by simp);rw[ak];simp only;split at ag
  ·rename_i h1; rw[h1]; cases ag; exact⟨_,rfl,r.set ak _⟩
  ·rename_i h1; rw[h1]; cases ag; exact⟨_,rfl,r⟩
 case stop=>cases ag
 case cd f q9 x y=>
  split at ag
  ·rename_i h1;rw[h1];refine xA r ?_ ag;unfold O7 cmpL;rw[r.bytes,r.bytes];cases nM l (aw x)<;>cases nM l (aw y)<;>rfl
  ·cases ag
 all_goals exact xA r rfl ag
theorem xN {f:U->Option U}:∀ {cs cs' : List U},rS f cs=some cs'->cs'.length=cs.length
 | [],cs',h=>by cases h; rfl
 | c::cs,cs',h=>by
  unfold rS at h;split at h
  ·split at h
   ·rename_i h1; cases h; simp[xN h1]
   ·cases h
  ·cases h
theorem xM {f:U->Option U}:∀ {cs cs' : List U},rS f cs=some cs'->∀ (j:Nat) (c c' : U),cs[j]? = some c->cs'[j]? = some c'->f c=some c'
 | [],cs',h,j,c,c',ah,_=>by simp at ah
 | c::cs,cs',h,j,d,pS,br,o6=>by
  unfold rS at h;split at h
  ·rename_i x ag;split at h
   ·rename_i h1;cases h;cases j with
    | zero=>simp at br o6; subst br o6; exact ag
    | succ j=>exact xM h1 j d pS (by simpa using br) (by simpa using o6)
   ·cases h
  ·cases h
theorem zW:∀ (d:Nat) (c c' : U),tz h d c=some c'->ft h c c'
 | 0,c,c',ag=>by cases ag
 | d+1,c,c',ag=>by
  unfold tz at ag;split at ag
  ·split at ag
   ·rename_i h1; cases ag;exact .aI _ _ (xN h1) (fun j c c' ah e8=>zW d c c' (xM h1 j c c' ah e8))
   ·cases ag
  ·split at ag
   ·rename_i h1; cases ag;exact .bu _ _ (xN h1) (fun j c c' ah e8=>zW d c c' (xM h1 j c c' ah e8))
   ·cases ag
  ·rename_i z b off len cap sz;split at ag
   ·rename_i aE;cases ag;rw[Nat.eq_of_beq_eq_true aE];exact .rZ z b off cap sz
   ·split at ag
    ·rename_i n cs af;split at ag
     ·rename_i dN;simp only[Bool.and_eq_true] at dN;have aD:=Nat.eq_of_beq_eq_true dN.1;have eu:=Nat.le_of_ble_eq_true dN.2;subst aD;split at ag
      ·rename_i xs h1;cases ag;have bB:=xN h1;simp only[List.length_take,List.length_drop] at bB;have uY:xs.length=len*z:=by omega
       have cz:∀ (i:Nat),i<len->(mq z len xs)[i]? = some ((xs.drop (i*z)).take z) :=fun i ax=>HY len xs i ax
       have dW:∀ i,i<len->i*z+z<=len*z:=fun i ax=>by rw[<-Nat.succ_mul]; exact Nat.mul_le_mul_right _ ax
       refine .ar z b off len cap n cs _ af (AO _ _) (fun e ap=>?_) eu (fun i j e c c' ap ai ah=>?_)
       ·obtain⟨i,ax⟩:=List.mem_iff_getElem?.1 ap;have fk:i<len:=by
         have:=(List.getElem?_eq_some_iff.1 ax).1;rw[AO] at this; exact this
        rw[cz i fk] at ax;cases ax;have:=dW i fk;simp; omega
       ·have fk:i<len:=by
         have:=(List.getElem?_eq_some_iff.1 ap).1;rw[AO] at this; exact this
        rw[cz i fk] at ap;cases ap;have rn:=dW i fk;have nj:j<z:=by have:=(List.getElem?_eq_some_iff.1 ai).1; simp at this; omega
        rw[List.getElem?_take_of_lt nj,List.getElem?_drop] at ai;refine zW d c c' (xM h1 (i*z+j) c c' ?_ ai);rw[List.getElem?_take_of_lt (by omega),List.getElem?_drop];exact ah
      ·cases ag
     ·cases ag
    ·cases ag
  ·rename_i b off sz;split at ag
   ·rename_i n cs af;split at ag
    ·rename_i aD;split at ag
     ·rename_i h1;cases ag;rw[<-Nat.eq_of_beq_eq_true aD];exact .ptr b off n cs _ af (xN h1) (fun j c c' ah e8=>zW d c c' (xM h1 j c c' ah e8))
     ·cases ag
    ·cases ag
   ·cases ag
  ·split at ag
   ·rename_i ah; cases ag; exact .same _ ah
   ·cases ag
theorem ft.rep (r:ey h l) {c c' : U} (ay:ft h c c') :ft (bK l) c c':=by
 induction ay with
 | same c ah=>exact .same c ah
 | aI cs cs' ak ao aJ=>exact .aI cs cs' ak aJ
 | bu cs cs' ak ao aJ=>exact .bu cs cs' ak aJ
 | ar z b off len cap sz cs es af ak av fl ao aJ=>exact .ar z b off len cap sz cs es (by rw[<-r.f]; exact af) ak av fl aJ
 | rZ z b off cap sz=>exact .rZ z b off cap sz
 | ptr b off sz cs cs' af ak ao aJ=>exact .ptr b off sz cs cs' (by rw[<-r.f]; exact af) ak aJ
def Al (P:Program) (G:Nat->U) (call:nD) :Prop:=
 ∀ (f:FuncId) (args:List U) (h:aN) (v:U) (h' : aN) (l:am),ey h l->call f args h=some (v,h')->∃ l',ey h' l'/\∀ K:U->am->Prop,K v l'->c2 P G f args l (c:=⟨K⟩)
theorem ad2 {m:cY} {v:U} {l:am} {K:U->am->Prop} (hk:K v l) :dP m v l K:=by
 cases m<;>first | exact hk | exact .inl hk
theorem NC {call:nD} (ah:Al P G call) (r:ey h l) {b:pG} {s:gA} {v:U} (ag:Az P G call b s h=some (v,h')) :
  ∃ l',ey h' l'/\(∀ K:U->am->Prop,K v l'->hn P G b (look s) l K)/\(∀ m,b=.go m->bF P (cH G (look s)) l m=some (v,l')) :=by
 cases b with
 | go m=>
  obtain⟨l',h1,ad⟩:=KX r ag;refine⟨l',ad,fun K aS=>?_,fun ca hm=>by cases hm; exact h1⟩;show W (bF P (cH G (look s)) l m) (c:=⟨fun x=>dP m x.1 x.2 K⟩);rw[yi];exact⟨_,h1,ad2 aS⟩
 | lL f args=>
  obtain⟨l',h1,ad⟩:=ah f _ h v h' l r ag;exact⟨l',h1,ad,fun m hm=>by cases hm⟩
 | mm x args=>
  simp only[Az] at ag;cases aA:cH G (look s) x<;>rw[aA] at ag<;>(try simp only at ag)<;>try (cases ag; done)
  rename_i g first fu
  split at ag
  ·rename_i jE;obtain⟨l',h1,ad⟩:=ah g _ h v h' l r ag;refine⟨l',h1,fun K aS=>?_,fun m hm=>by cases hm⟩;show ui P G (cH G (look s) x) _ l (c:=⟨K⟩);unfold ui;rw[aA];exact⟨jE,ad K aS⟩
  ·cases ag
 | m3 x name args=>
  simp only[Az] at ag;cases aA:cH G (look s) x<;>rw[aA] at ag<;>(try simp only at ag)<;>try (cases ag; done)
  rename_i t v0;split at ag
  ·rename_i g hm;split at ag
   ·rename_i jE;obtain⟨l',h1,ad⟩:=ah g _ h v h' l r ag;refine⟨l',h1,fun K aS=>?_,fun m hm=>by cases hm⟩;show uh P G name (cH G (look s) x) _ l (c:=⟨K⟩);unfold uh;rw[aA];simp only[hm];exact⟨jE,ad K aS⟩
   ·cases ag
  ·cases ag
theorem Ey {s:gA} {g:Option (Option Tmp × Bool)} {b:Bool} (au:Ex s g=some b) {p q:Prop} (hk:if b then p else q) :pm (look s) g p q:=by
 unfold Ex at au;unfold pm;split at au
 ·cases au; exact hk
 ·rename_i d w;simp only[qt];split at au
  ·rename_i x ag;simp only[ag];cases au;unfold qu;cases adi:(x == w)<;>rw[adi] at hk<;>simpa using hk
  ·cases au
  ·rename_i h1 ad;cases au;cases ag:look s d<;>first | exact (by simpa using hk) | (exact absurd ag (h1 _)) | (exact absurd ag ad)
 ·cases au; simpa using hk
theorem LL {call:nD} (ah:Al P G call) :∀ (x:List dI) (s:gA) (h:aN) (l:am) (fM:gA) (h' : aN),ey h l->C2 P G call x s h=some (fM,h')->
  ∃ l',ey h' l'/\∀ K:a2->am->Prop,K (look fM) l'->iQ P G x (look s) l K
 | [],s,h,l,fM,h',r,ag=>by cases ag; exact⟨l,r,fun K aS=>aS⟩
 | x::xs,s,h,l,fM,h',r,ag=>by
  unfold C2 at ag;split at ag
  ·rename_i au;split at ag
   ·rename_i v h1 af;obtain⟨l1,dS,ad,_⟩:=NC ah r af;obtain⟨l',cC,aj⟩:=LL ah xs _ h1 l1 fM h' dS ag;refine⟨l',cC,fun K aS=>?_⟩;unfold iQ;refine Ey au ?_;simp only[if_true];refine ad _ ?_;rw[<-FQ];exact aj K aS
   ·cases ag
  ·rename_i au;obtain⟨l',cC,aj⟩:=LL ah xs _ h l fM h' r ag;refine⟨l',cC,fun K aS=>?_⟩;unfold iQ;refine Ey au ?_;simp only[Bool.false_eq_true,if_false];rw[<-FQ];exact aj K aS
  ·cases ag
theorem bg.beq_eq {a b:bg} (h:bg.beq a b=true) :a=b:=by
 cases a<;>cases b<;>simp[bg.beq] at h
 ·rfl
 ·rfl
 ·obtain⟨h1,ad⟩:=h;rw[h1,uc ad]
theorem ah8 {b:pG} {s:gA} {v:U} {h1:aN} {l' l1:am} (r:ey h l) (cC:ey h' l') (dS:ey h1 l1) (ag:GI P G b s v h h' h1=true) (bc:∀ m,b=.go m->m.ik=true->∃ n cs,l'=l++[.cells n cs]) :kQ P G b (look s) v l l' l1:=by
 unfold GI at ag;unfold kQ;split at ag
 ·rename_i m;simp only;cases aD:m.ik with
  | true=>
   rw[aD] at ag;simp only at ag ⊢;have ap:=bg.beq_eq ag;obtain⟨n,cs,rfl⟩:=bc m rfl aD;rw[r.n] at ap;have ad:h'.f l.length=(bK (l++[.cells n cs])).f l.length:=cC.f _;rw[mb] at ad;simp only[List.getElem?_append_right (Nat.le_refl _),Nat.sub_self,List.getElem?_cons_zero] at ad ⊢;exact dS.some (ap.trans ad) (by simp)
  | false=>
   rw[aD] at ag;simp only at ag ⊢;split at ag
   ·rename_i i0;split at ag
    ·rename_i a8 ad hm;obtain⟨bZ,aj,_⟩:=KX dS hm;rw[U.beq_eq ag] at aj;rw[Ti i0 aj] at aj;exact aj
    ·cases ag
   ·cases ag
 ·rename_i af;split
  ·rename_i m; exact absurd rfl (af m)
  ·trivial
inductive yg (P:Program) (G:Nat->U) :List (Nat × (aN->Bool))->hT->Prop
 | nil:yg P G [] []
 | cons {i p q r cC}:(∀ h l,ey h l->p h=true->q l)->yg P G r cC->yg P G ((i,p) ::r) ((i,q) ::cC)
theorem OX (r:ey h l) {ids:List Nat}:∀ {a:List (Nat × (aN->Bool))} {b:hT},yg P G a b->DX ids h a=true->oU ids b l
 | _,_,.nil,_=>trivial
 | _,_,.cons aB ay,ag=>by
  unfold DX at ag;simp only[Bool.and_eq_true,Bool.or_eq_true,Bool.not_eq_true'] at ag;unfold oU;refine⟨fun ax=>?_,OX r ay ag.2⟩;rcases ag.1 with h1 | h1
  ·rw[ax] at h1; cases h1
  ·exact aB h l r h1
theorem adR {aw:Operand->U} {l l' : am} {m:cY} {v:U} (aD:m.ik=true) (hm:bF P aw l m=some (v,l')) :∃ n cs,l'=l++[.cells n cs] :=by
 cases m<;>simp only[cY.ik,Bool.false_eq_true,reduceCtorEq] at aD<;>simp only[bF,map_some,Option.some.injEq,Prod.mk.injEq] at hm
 case alloc=>obtain⟨_,rfl⟩:=hm; exact⟨_,_,rfl⟩
 case box=>obtain⟨_,_,_,rfl⟩:=hm; exact⟨_,_,rfl⟩
 case pQ=>obtain⟨_,_,_,rfl⟩:=hm; exact⟨_,_,rfl⟩
 case qB=>
  unfold qC at hm
  repeat' split at hm
  all_goals first | (cases hm; done) | (cases hm; exact⟨_,_,rfl⟩)
theorem LI {call:nD} (ah:Al P G call) :∀ (x:List dI) (s:gA) (h:aN) (l:am) (fM:gA) (h' : aN) (a:List (Nat × (aN->Bool))) (b:hT),ey h l->yg P G a b->C1 P G call x s h a=some (fM,h')->
  ∃ l',ey h' l'/\∀ K:a2->am->Prop,K (look fM) l'->i7 P G x (look s) l b K
 | [],s,h,l,fM,h',a,b,r,al,ag=>by cases ag; exact⟨l,r,fun K aS=>aS⟩
 | x::xs,s,h,l,fM,h',a,b,r,al,ag=>by
  unfold C1 at ag;split at ag
  ·rename_i au;split at ag
   ·rename_i v h1 af;obtain⟨l1,dS,ad,wY⟩:=NC ah r af;split at ag
    ·rename_i cz;have ru:yg P G (match x.cr with | true=>(x.i,GI P G x.b s v h h1) ::a | false=>a) (qK x.cr x.i (kQ P G x.b (look s) v l l1) b) :=by
      cases x.cr with
      | false=>exact al
      | true=>
       refine .cons (fun ad bZ fc aB=>ah8 r dS fc aB (fun m hm aD=>adR aD (wY m hm))) al
     obtain⟨l',cC,aj⟩:=LI ah xs _ h1 l1 fM h' _ _ dS ru ag;refine⟨l',cC,fun K aS=>?_⟩;unfold i7;refine Ey au ?_;simp only[if_true];refine ad _ ⟨OX dS al cz,?_⟩;rw[<-FQ];exact aj K aS
    ·cases ag
   ·cases ag
  ·rename_i au;obtain⟨l',cC,aj⟩:=LI ah xs _ h l fM h' a b r al ag;refine⟨l',cC,fun K aS=>?_⟩;unfold i7;refine Ey au ?_;simp only[Bool.false_eq_true,if_false];rw[<-FQ];exact aj K aS
  ·cases ag
theorem HV {call:nD} (ah:Al P G call) :∀ (fuel:Nat) (c:fr) (s:gA) (h:aN) (l:am) (e:qS) (fM:gA) (h' : aN),ey h l->DV P G call fuel c s h=some (e,fM,h')->
  ∃ l',ey h' l'/\∀ K:gf,K e (look fM) l'->run P G c (look s) l K
 | 0,c,s,h,l,e,fM,h',r,ag=>by cases ag
 | k+1,c,s,h,l,e,fM,h',r,ag=>by
  have aJ:=HV ah k;unfold DV OQ at ag;cases c with
  | skip=>cases ag; exact⟨l,r,fun K aS=>aS⟩
  | ret=>cases ag; exact⟨l,r,fun K aS=>aS⟩
  | exit id=>cases ag; exact⟨l,r,fun K aS=>aS⟩
  | vy x=>
   simp only at ag;split at ag
   ·rename_i cQ h1 ay;cases ag;obtain⟨l',cC,ad⟩:=LL ah x s h l fM h' r ay;exact⟨l',cC,fun K aS=>ad _ aS⟩
   ·cases ag
  | wk x=>
   simp only at ag;split at ag
   ·rename_i cQ h1 ay;cases ag;obtain⟨l',cC,ad⟩:=LI ah x s h l fM h' [] [] r .nil ay;exact⟨l',cC,fun K aS=>ad _ aS⟩
   ·cases ag
  | seq a b=>
   simp only at ag;split at ag
   ·rename_i cQ h1 az;obtain⟨l1,dS,ad⟩:=aJ a s h l _ cQ h1 r az;obtain⟨l',cC,aj⟩:=aJ b cQ h1 l1 e fM h' dS ag;refine⟨l',cC,fun K aS=>?_⟩;unfold run;exact ad _ (aj K aS)
   ·rename_i bY;obtain⟨l',cC,ad⟩:=aJ a s h l e fM h' r ag;refine⟨l',cC,fun K aS=>?_⟩;unfold run;refine ad _ ?_;unfold mQ;cases e with
    | normal=>exact absurd ag (bY _ _)
    | exit id=>exact aS
    | ret=>exact aS
  | cond c x y=>
   simp only at ag;split at ag
   ·rename_i jk;obtain⟨l',cC,ad⟩:=aJ x s h l e fM h' r ag;refine⟨l',cC,fun K aS=>?_⟩;unfold run xj;rw[jk];exact ad K aS
   ·rename_i jk;obtain⟨l',cC,ad⟩:=aJ y s h l e fM h' r ag;refine⟨l',cC,fun K aS=>?_⟩;unfold run xj;rw[jk];exact ad K aS
   ·cases ag
  | block id c=>
   simp only at ag;split at ag
   ·rename_i rC cQ h1 az;obtain⟨l',cC,ad⟩:=aJ c s h l _ cQ h1 r az;split at ag
    ·rename_i hv;cases ag;refine⟨l',cC,fun K aS=>?_⟩;unfold run;refine ad _ ?_;unfold qs;simp only;rw[hv];exact aS
    ·rename_i hv;cases ag;refine⟨l',cC,fun K aS=>?_⟩;unfold run;refine ad _ ?_;unfold qs;simp only;rw[hv];exact aS
   ·rename_i bY;obtain⟨l',cC,ad⟩:=aJ c s h l e fM h' r ag;refine⟨l',cC,fun K aS=>?_⟩;unfold run;refine ad _ ?_;unfold qs;cases e with
    | normal=>exact aS
    | exit id=>exact absurd ag (bY _ _ _)
    | ret=>exact aS
  | loop c=>
   simp only at ag;split at ag
   ·rename_i cQ h1 az;obtain⟨l1,dS,ad⟩:=aJ c s h l _ cQ h1 r az;obtain⟨l',cC,aj⟩:=aJ (.loop c) cQ h1 l1 e fM h' dS ag;refine⟨l',cC,fun K aS=>?_⟩;have aC:=aj K aS;unfold run at aC ⊢;obtain⟨n,aD⟩:=aC;exact⟨n+1,ad _ aD⟩
   ·rename_i bY;obtain⟨l',cC,ad⟩:=aJ c s h l e fM h' r ag;refine⟨l',cC,fun K aS=>?_⟩;unfold run;refine⟨1,ad _ ?_⟩;unfold mQ;cases e with
    | normal=>exact absurd ag (bY _ _)
    | exit id=>exact aS
    | ret=>exact aS
def Dw (P:Program) (G:Nat->U) (orc:sg) :Prop:=∀ f n g args r,orc f=some (n,g)->g args=some r->bi P G f args r/\(n=true->nI P G f args r)
def Dx (P:Program) (nz:yh) :Prop:=∀ f c mV,nz f=some (c,mV)->wg P f=some c/\wh P f=some mV
theorem LF (r:ey h l) {s:gA}:∀ {ms:List cY} {acc:List U} {v:U},CY P G s h ms acc=some v->∀ K:U->am->Prop,K v l->nq P G K (look s) l ms acc
 | [],acc,v,ag,K,aS=>by cases ag; exact aS
 | m::ms,acc,v,ag,K,aS=>by
  unfold CY at ag;split at ag
  ·rename_i x h1 hm;obtain⟨l1,ad,_⟩:=KX r hm;unfold nq;rw[yi];exact⟨_,ad,LF r ag K aS⟩
  ·cases ag
theorem Tf (args:List U) :look (zN 0 .nil args)=yl args:=by
 rw[Tg];funext t;unfold yl;by_cases aP:t<args.length
 ·rw[if_pos ⟨Nat.zero_le _,by omega⟩]; rfl
 ·rw[if_neg (by omega)];rw[List.getD_eq_getElem?_getD,List.getElem?_eq_none (by omega)]; rfl
theorem W5 {orc:sg} (aq:Dw P G orc) {f:FuncId} {args:List U} {h:aN} {l:am} {v:U} (r:ey h l) (ag:HC orc f args h=some v) (K:U->am->Prop) (aS:K v l) :c2 P G f args l (c:=⟨K⟩) :=by
 unfold HC at ag;split at ag
 ·rename_i n g au;split at ag
  ·rename_i hV az;split at ag
   ·rename_i a8 ao;split at ag
    ·rename_i aA;cases ag;obtain⟨xy,nu⟩:=aq f n g hV v au ao;cases n with
     | true=>exact⟨v,l,.Lp (nu rfl) (xN az) (fun j c c' ah e8=>(zW 20 c c' (xM az j c c' ah e8)).rep r),Nat.le_refl _,aS⟩
     | false=>exact⟨v,l,.Lo xy (xN az) (fun j c c' ah e8=>(zW 20 c c' (xM az j c c' ah e8)).rep r) aA,Nat.le_refl _,aS⟩
    ·cases ag
   ·cases ag
  ·cases ag
 ·cases ag
theorem adE (r:ey h l) {z by_ i bv:Nat} {s v:U} {vs:List U} (ag:Ci z by_ h s i bv vs=some (v,h')) :∃ l',ey h' l'/\Ci z by_ (bK l) s i bv vs=some (v,bK l')/\l.length<=l'.length:=by
 unfold Ci at ag ⊢;cases s<;>simp only at ag<;>try (cases ag; done)
 case aX=>
  split at ag
  ·rename_i ah;cases ag;refine⟨_,r.push _,?_,by simp⟩;simp only;rw[if_pos ah,lF,yc,r.n]
  ·cases ag
 case ar l8 b off len cap sz=>
  simp only;rw[<-r.f b];cases af:h.f b<;>rw[af] at ag<;>(try simp only at ag)<;>try (cases ag; done)
  simp only;split at ag
  ·rename_i ah;rw[if_pos ah];cases ag;have ak:=r.some af (by simp);refine⟨_,(r.set ak _).push _,?_,by simp⟩;rw[nF _ (fy ak),lF,yc,r.n]
  ·cases ag
theorem adB (r:ey h l) {z by_:Nat} {args:List U} {v:U} (ag:te z by_ args h=some (v,h')) :∃ l',ey h' l'/\te z by_ args (bK l)=some (v,bK l')/\l.length<=l'.length:=by
 unfold te at ag ⊢;split at ag
 ·rename_i s x y;split at ag
  ·rename_i i hQ bv nu bZ dd g8 tb;rw[<-r.f bv];split at ag
   ·rename_i ko vs iA
    try rw[iA]
    try simp only
    split at ag
    ·rename_i ah
     try rw[if_pos ah]
     exact adE r ag
    ·cases ag
   ·cases ag
  ·cases ag
 ·cases ag
theorem ON [sd P G] {orc:sg} {nz:yh} (aq:Dw P G orc) (aP:Dx P nz) (fuel:Nat) :∀ k,Al P G (DS P G orc nz fuel k)
 | 0=>fun f args h v h' l r ag=>by cases ag
 | k+1=>fun f args h v h' l r ag=>by
  have aJ:=ON aq aP fuel k;unfold DS OM at ag;split at ag
  ·rename_i z by_ au;obtain⟨l',cC,h1,ad⟩:=adB r ag;exact⟨l',cC,fun K aS=>⟨v,l',.ext (sd.ok f z by_ au args (bK l) v (bK l') h1),ad,aS⟩⟩
  split at ag
  ·rename_i a8 ao;cases ag;exact⟨l,r,fun K aS=>W5 aq r ao K aS⟩
  ·split at ag
   ·cases ag
   ·rename_i c mV ac7;obtain⟨ng,iY⟩:=aP f c mV ac7;split at ag
    ·rename_i cQ h1 hB;obtain⟨l1,dS,ad⟩:=HV aJ fuel c _ h l _ cQ h1 r hB;split at ag
     ·rename_i a8 Fs;cases ag;refine⟨l1,dS,fun K aS=>DT ng iY ?_⟩;rw[<-Tf];exact ad _ (LF dS Fs K aS)
     ·cases ag
    ·rename_i cQ h1 hB;obtain⟨l1,dS,ad⟩:=HV aJ fuel c _ h l _ cQ h1 r hB;split at ag
     ·rename_i a8 Fs;cases ag;refine⟨l1,dS,fun K aS=>DT ng iY ?_⟩;rw[<-Tf];exact ad _ (LF dS Fs K aS)
     ·cases ag
    ·cases ag
end
def UX (P:Program) (G:Nat->U) [sd P G] (orc:sg) (nz:yh) (fuel k:Nat) (f:FuncId) (args:List U) (r:U) :Bool:=
 match DS P G orc nz fuel k f args aN.empty with
 | some (v,h)=>match tz h 20 v with
  | some a8=>U.beq a8 r
  | none=>false
 | none=>false
theorem XI {P:Program} {G:Nat->U} [sd P G] {orc:sg} {nz:yh} (aq:Dw P G orc) (aP:Dx P nz) {fuel k:Nat} {f:FuncId} {args:List U} {b:Bool} (ag:UX P G orc nz fuel k f args (.bool b)=true) :
  c2 P G f args [] (c:=⟨fun r _=>r=.bool b⟩) :=by
 unfold UX at ag;split at ag
 ·rename_i v h ah;split at ag
  ·rename_i a8 ao;obtain⟨l',_,ad⟩:=ON aq aP fuel k f args aN.empty v h [] ey.nil ah;refine ad _ ?_;have:=U.beq_eq ag;subst this;unfold tz at ao
   repeat' split at ao
   all_goals first | (cases ao; done) | (cases ao; rfl)
  ·cases ag
 ·cases ag
abbrev xZ (t:Nat) :Operand:=.tmp t
def rep (n:Nat) (c:U) :List U:=List.replicate n c
abbrev oA (i d x:Nat) :dI:=⟨i,some d,none,.go (.fF (.tmp x)),[],false⟩
abbrev sc (i d:Nat) (f:FuncId) (args:List Operand) :dI:=⟨i,some d,none,.lL f args,[],false⟩
@[simp] theorem apv (n:Nat) (c:U) :(rep n c).length=n:=by simp[rep]
def oK {α:Type} (p:Nat->α->Prop) :ch α->Prop
 | .nil=>True
 | .node l v r=>(∀ x,v=some x->p 0 x)/\oK (fun m=>p (2*m+1)) l/\oK (fun m=>p (2*m+2)) r
theorem Hy {α:Type}:∀ (t:ch α) (p:Nat->α->Prop),oK p t->∀ n x,t.get n=some x->p n x
 | .nil,p,h,n,x,ag=>by cases ag
 | .node l v r,p,h,n,x,ag=>by
  obtain⟨h1,ad,aj⟩:=h;unfold ch.get at ag;by_cases aE:n=0
  ·subst aE; exact h1 x ag
  ·rw[i6 aE] at ag;simp only at ag;by_cases aq:n % 2=1
   ·rw[rJ aq] at ag;have:=Hy l _ ad _ x ag;rw[show 2*(n / 2)+1=n by omega] at this; exact this
   ·rw[i6 aq] at ag;have:=Hy r _ aj _ x ag;rw[show 2*(n / 2 - 1)+2=n by omega] at this; exact this
theorem b6 {α:Type} {p:Nat->α->Prop}:oK p .nil:=trivial
theorem ek {α:Type} {p:Nat->α->Prop} {l r:ch α} (h1:oK (fun m=>p (2*m+1)) l) (ad:oK (fun m=>p (2*m+2)) r) :oK p (.node l none r) :=⟨fun x h=>(by cases h),h1,ad⟩
theorem en {α:Type} {p:Nat->α->Prop} {l r:ch α} {x:α} (ag:p 0 x) (h1:oK (fun m=>p (2*m+1)) l) (ad:oK (fun m=>p (2*m+2)) r) :oK p (.node l (some x) r) :=⟨fun y h=>(by cases h; exact ag),h1,ad⟩
abbrev Hn (P:Program) (f:Nat) (x:fr × List cY) :Prop:=wg P f=some x.1/\wh P f=some x.2
theorem aiq {P:Program} {t:ch (fr × List cY)} (h:oK (Hn P) t) :Dx P (fun f=>t.get f) :=fun f c mV ag=>Hy t _ h f (c,mV) ag
def u {w:Nat} (a:BitVec w) :Int:=(a.toNat:Int)
@[simp] theorem lu {w:Nat} (a:BitVec w) :BitVec.ofInt w (u a)=a:=by
 unfold u;rw[BitVec.ofInt_natCast,BitVec.ofNat_toNat,BitVec.setWidth_eq]
@[simp] theorem oD {w:Nat} (a b:BitVec w) :(u a=u b)<->a=b:=⟨fun h=>BitVec.eq_of_toNat_eq (by unfold u at h; exact Int.ofNat_inj.1 h),fun h=>by rw[h]⟩
@[simp] theorem aqc {w:Nat} (a b:BitVec w) :(u a<u b)<->a<b:=by unfold u; rw[Int.ofNat_lt]; rfl
@[simp] theorem aqb {w:Nat} (a b:BitVec w) :(u a<=u b)<->a<=b:=by unfold u; rw[Int.ofNat_le]; rfl
@[simp] theorem aqd {w:Nat} (a:BitVec w) :0<=u a:=Int.natCast_nonneg _
@[simp] theorem aqe {w:Nat} (a:BitVec w) :(u a).toNat=a.toNat:=Int.toNat_natCast _
theorem aqa {w:Nat} (a:BitVec w) :u a<2 ^ w:=by
 have:=a.isLt;unfold u
 exact_mod_cast this
@[simp] theorem aph {w:Nat} (a b:Int) :BitVec.ofInt w (a - b)=BitVec.ofInt w a - BitVec.ofInt w b:=by
 rw[Int.sub_eq_add_neg,BitVec.ofInt_add,BitVec.ofInt_neg,BitVec.sub_eq_add_neg]
attribute [simp] BitVec.ofInt_add BitVec.ofInt_mul
theorem pr {w:Nat} (v:Nat) (a:BitVec w) :BitVec.ofInt v (u a)=a.setWidth v:=by
 unfold u;rw[BitVec.ofInt_natCast,BitVec.ofNat_toNat]
section
abbrev a6 (a:BitVec 8) :U:=.int .u8 (u a)
@[simp] theorem Dn (n:Int) :IntKind.u8.wrap n=u (BitVec.ofInt 8 n) :=by
 have aR:(2 ^ IntKind.u8.bits:Int)=256:=by decide
 have dJ:IntKind.u8.signed=false:=rfl;simp only[IntKind.wrap,aR,dJ,Bool.false_and,Bool.false_eq_true,if_false,u,BitVec.toNat_ofInt];have:(2 ^ 8:Nat)=256:=by decide
 rw[this];omega
@[simp] theorem aql (a:Int) :pB .xor (.int .u8 a)=some (.int .u8 (u (~~~(BitVec.ofInt 8 a)))) :=by
 show some (U.int .u8 (IntKind.u8.wrap (u (BitVec.ofInt 8 (255:Int) ^^^ BitVec.ofInt 8 a))))=_;rw[Dn,lu];have:BitVec.ofInt 8 (255:Int)=BitVec.allOnes 8:=by decide
 rw[this,BitVec.allOnes_xor]
theorem Xx (a:BitVec 8) (k' : IntKind) (n:Nat) :b8 .shl .u8 (u a) k' (n:Int)=some (.int .u8 (u (a <<< n))) :=by
 have aE:¬((n:Int)<0) :=by omega
 show (if (n:Int)<0 then none else some (U.int .u8 (IntKind.u8.wrap ((a.toNat:Int)*2 ^ min (n:Int).toNat 8))))=_;rw[if_neg aE];congr 2;rw[Dn,Int.toNat_natCast];unfold u;congr 1;have:((a.toNat:Int)*2 ^ min n 8)=((a.toNat*2 ^ min n 8:Nat) :Int) :=by rw[Int.natCast_mul,Int.natCast_pow]; rfl
 rw[this,BitVec.ofInt_natCast,BitVec.toNat_ofNat,BitVec.toNat_shiftLeft,Nat.shiftLeft_eq];rcases Nat.lt_or_ge n 8 with h | h
 ·rw[Nat.min_eq_left (Nat.le_of_lt h)]
 ·rw[Nat.min_eq_right h];have h1:a.toNat*2 ^ 8 % 2 ^ 8=0:=Nat.mul_mod_left _ _;obtain⟨m,rfl⟩:=Nat.exists_eq_add_of_le h;rw[h1,Nat.pow_add,Nat.mul_left_comm,Nat.mul_mod_right]
theorem XA (a:BitVec 8) (k' : IntKind) (n:Nat) :b8 .shr .u8 (u a) k' (n:Int)=some (.int .u8 (u (a >>> n))) :=by
 have aE:¬((n:Int)<0) :=by omega
 show (if (n:Int)<0 then none else some (U.int .u8 ((a.toNat:Int).fdiv (2 ^ min (n:Int).toNat 8))))=_;rw[if_neg aE];congr 2;rw[Int.toNat_natCast];unfold u;have:((2:Int) ^ min n 8)=((2 ^ min n 8:Nat) :Int) :=by rw[Int.natCast_pow]; rfl
 rw[this,Int.fdiv_eq_ediv_of_nonneg _ (Int.natCast_nonneg _),<-Int.natCast_ediv,BitVec.toNat_ushiftRight,Nat.shiftRight_eq_div_pow];congr 1;rcases Nat.lt_or_ge n 8 with h | h
 ·rw[Nat.min_eq_left (Nat.le_of_lt h)]
 ·rw[Nat.min_eq_right h,Nat.div_eq_of_lt a.isLt,Nat.div_eq_of_lt (Nat.lt_of_lt_of_le a.isLt (Nat.pow_le_pow_right (by omega) h))]
@[simp] theorem akK (a:BitVec 8) (k' : IntKind) (n:Int) (h:0<=n) :b8 .shl .u8 (u a) k' n=some (.int .u8 (u (a <<< n.toNat))) :=by
 obtain⟨m,rfl⟩:=Int.eq_ofNat_of_zero_le h;exact Xx a k' m
@[simp] theorem akO (a:BitVec 8) (k' : IntKind) (n:Int) (h:0<=n) :b8 .shr .u8 (u a) k' n=some (.int .u8 (u (a >>> n.toNat))) :=by
 obtain⟨m,rfl⟩:=Int.eq_ofNat_of_zero_le h;exact XA a k' m
@[simp] theorem akG (a b:BitVec 8) (h:b≠0#8) :b8 .rem .u8 (u a) .u8 (u b)=some (.int .u8 (u (a % b))) :=by
 have af:(b.toNat:Int)≠0:=fun e=>h (BitVec.eq_of_toNat_eq (by simpa using e))
 show (if IntKind.u8=IntKind.u8/\(b.toNat:Int)≠0 then some (U.int .u8 ((a.toNat:Int).tmod b.toNat)) else none)=_;rw[if_pos ⟨rfl,af⟩];unfold u;rw[BitVec.toNat_umod];rfl
@[simp] theorem akW (a b:Int) :b8 .xor .u8 a .u8 b=some (.int .u8 (u (BitVec.ofInt 8 a ^^^ BitVec.ofInt 8 b))) :=by
 show some (U.int .u8 (IntKind.u8.wrap (u (BitVec.ofInt 8 a ^^^ BitVec.ofInt 8 b))))=_;rw[Dn,lu]
@[simp] theorem akE (a b:Int) :b8 .or .u8 a .u8 b=some (.int .u8 (u (BitVec.ofInt 8 a ||| BitVec.ofInt 8 b))) :=by
 show some (U.int .u8 (IntKind.u8.wrap (u (BitVec.ofInt 8 a ||| BitVec.ofInt 8 b))))=_;rw[Dn,lu]
@[simp] theorem akn (a b:Int) :b8 .and .u8 a .u8 b=some (.int .u8 (u (BitVec.ofInt 8 a &&& BitVec.ofInt 8 b))) :=by
 show some (U.int .u8 (IntKind.u8.wrap (u (BitVec.ofInt 8 a &&& BitVec.ofInt 8 b))))=_;rw[Dn,lu]
end

section
abbrev D7 (a:BitVec 16) :U:=.int .u16 (u a)
@[simp] theorem Dm (n:Int) :IntKind.u16.wrap n=u (BitVec.ofInt 16 n) :=by
 have aR:(2 ^ IntKind.u16.bits:Int)=65536:=by decide
 have dJ:IntKind.u16.signed=false:=rfl;simp only[IntKind.wrap,aR,dJ,Bool.false_and,Bool.false_eq_true,if_false,u,BitVec.toNat_ofInt];have:(2 ^ 16:Nat)=65536:=by decide
 rw[this];omega
@[simp] theorem aqi (a:Int) :pB .xor (.int .u16 a)=some (.int .u16 (u (~~~(BitVec.ofInt 16 a)))) :=by
 show some (U.int .u16 (IntKind.u16.wrap (u (BitVec.ofInt 16 (65535:Int) ^^^ BitVec.ofInt 16 a))))=_;rw[Dm,lu];have:BitVec.ofInt 16 (65535:Int)=BitVec.allOnes 16:=by decide
 rw[this,BitVec.allOnes_xor]
theorem Xv (a:BitVec 16) (k' : IntKind) (n:Nat) :b8 .shl .u16 (u a) k' (n:Int)=some (.int .u16 (u (a <<< n))) :=by
 have aE:¬((n:Int)<0) :=by omega
 show (if (n:Int)<0 then none else some (U.int .u16 (IntKind.u16.wrap ((a.toNat:Int)*2 ^ min (n:Int).toNat 16))))=_;rw[if_neg aE];congr 2;rw[Dm,Int.toNat_natCast];unfold u;congr 1;have:((a.toNat:Int)*2 ^ min n 16)=((a.toNat*2 ^ min n 16:Nat) :Int) :=by rw[Int.natCast_mul,Int.natCast_pow]; rfl
 rw[this,BitVec.ofInt_natCast,BitVec.toNat_ofNat,BitVec.toNat_shiftLeft,Nat.shiftLeft_eq];rcases Nat.lt_or_ge n 16 with h | h
 ·rw[Nat.min_eq_left (Nat.le_of_lt h)]
 ·rw[Nat.min_eq_right h];have h1:a.toNat*2 ^ 16 % 2 ^ 16=0:=Nat.mul_mod_left _ _;obtain⟨m,rfl⟩:=Nat.exists_eq_add_of_le h;rw[h1,Nat.pow_add,Nat.mul_left_comm,Nat.mul_mod_right]
theorem Xy (a:BitVec 16) (k' : IntKind) (n:Nat) :b8 .shr .u16 (u a) k' (n:Int)=some (.int .u16 (u (a >>> n))) :=by
 have aE:¬((n:Int)<0) :=by omega
 show (if (n:Int)<0 then none else some (U.int .u16 ((a.toNat:Int).fdiv (2 ^ min (n:Int).toNat 16))))=_;rw[if_neg aE];congr 2;rw[Int.toNat_natCast];unfold u;have:((2:Int) ^ min n 16)=((2 ^ min n 16:Nat) :Int) :=by rw[Int.natCast_pow]; rfl
 rw[this,Int.fdiv_eq_ediv_of_nonneg _ (Int.natCast_nonneg _),<-Int.natCast_ediv,BitVec.toNat_ushiftRight,Nat.shiftRight_eq_div_pow];congr 1;rcases Nat.lt_or_ge n 16 with h | h
 ·rw[Nat.min_eq_left (Nat.le_of_lt h)]
 ·rw[Nat.min_eq_right h,Nat.div_eq_of_lt a.isLt,Nat.div_eq_of_lt (Nat.lt_of_lt_of_le a.isLt (Nat.pow_le_pow_right (by omega) h))]
@[simp] theorem akH (a:BitVec 16) (k' : IntKind) (n:Int) (h:0<=n) :b8 .shl .u16 (u a) k' n=some (.int .u16 (u (a <<< n.toNat))) :=by
 obtain⟨m,rfl⟩:=Int.eq_ofNat_of_zero_le h;exact Xv a k' m
@[simp] theorem akL (a:BitVec 16) (k' : IntKind) (n:Int) (h:0<=n) :b8 .shr .u16 (u a) k' n=some (.int .u16 (u (a >>> n.toNat))) :=by
 obtain⟨m,rfl⟩:=Int.eq_ofNat_of_zero_le h;exact Xy a k' m
@[simp] theorem akF (a b:BitVec 16) (h:b≠0#16) :b8 .rem .u16 (u a) .u16 (u b)=some (.int .u16 (u (a % b))) :=by
 have af:(b.toNat:Int)≠0:=fun e=>h (BitVec.eq_of_toNat_eq (by simpa using e))
 show (if IntKind.u16=IntKind.u16/\(b.toNat:Int)≠0 then some (U.int .u16 ((a.toNat:Int).tmod b.toNat)) else none)=_;rw[if_pos ⟨rfl,af⟩];unfold u;rw[BitVec.toNat_umod];rfl
@[simp] theorem akT (a b:Int) :b8 .xor .u16 a .u16 b=some (.int .u16 (u (BitVec.ofInt 16 a ^^^ BitVec.ofInt 16 b))) :=by
 show some (U.int .u16 (IntKind.u16.wrap (u (BitVec.ofInt 16 a ^^^ BitVec.ofInt 16 b))))=_;rw[Dm,lu]
@[simp] theorem akB (a b:Int) :b8 .or .u16 a .u16 b=some (.int .u16 (u (BitVec.ofInt 16 a ||| BitVec.ofInt 16 b))) :=by
 show some (U.int .u16 (IntKind.u16.wrap (u (BitVec.ofInt 16 a ||| BitVec.ofInt 16 b))))=_;rw[Dm,lu]
@[simp] theorem akl (a b:Int) :b8 .and .u16 a .u16 b=some (.int .u16 (u (BitVec.ofInt 16 a &&& BitVec.ofInt 16 b))) :=by
 show some (U.int .u16 (IntKind.u16.wrap (u (BitVec.ofInt 16 a &&& BitVec.ofInt 16 b))))=_;rw[Dm,lu]
end

section
abbrev bq (a:BitVec 32) :U:=.int .u32 (u a)
@[simp] theorem Ai (n:Int) :IntKind.u32.wrap n=u (BitVec.ofInt 32 n) :=by
 have aR:(2 ^ IntKind.u32.bits:Int)=4294967296:=by decide
 have dJ:IntKind.u32.signed=false:=rfl;simp only[IntKind.wrap,aR,dJ,Bool.false_and,Bool.false_eq_true,if_false,u,BitVec.toNat_ofInt];have:(2 ^ 32:Nat)=4294967296:=by decide
 rw[this];omega
@[simp] theorem aqj (a:Int) :pB .xor (.int .u32 a)=some (.int .u32 (u (~~~(BitVec.ofInt 32 a)))) :=by
 show some (U.int .u32 (IntKind.u32.wrap (u (BitVec.ofInt 32 (4294967295:Int) ^^^ BitVec.ofInt 32 a))))=_;rw[Ai,lu];have:BitVec.ofInt 32 (4294967295:Int)=BitVec.allOnes 32:=by decide
 rw[this,BitVec.allOnes_xor]
theorem Xw (a:BitVec 32) (k' : IntKind) (n:Nat) :b8 .shl .u32 (u a) k' (n:Int)=some (.int .u32 (u (a <<< n))) :=by
 have aE:¬((n:Int)<0) :=by omega
 show (if (n:Int)<0 then none else some (U.int .u32 (IntKind.u32.wrap ((a.toNat:Int)*2 ^ min (n:Int).toNat 32))))=_;rw[if_neg aE];congr 2;rw[Ai,Int.toNat_natCast];unfold u;congr 1;have:((a.toNat:Int)*2 ^ min n 32)=((a.toNat*2 ^ min n 32:Nat) :Int) :=by rw[Int.natCast_mul,Int.natCast_pow]; rfl
 rw[this,BitVec.ofInt_natCast,BitVec.toNat_ofNat,BitVec.toNat_shiftLeft,Nat.shiftLeft_eq];rcases Nat.lt_or_ge n 32 with h | h
 ·rw[Nat.min_eq_left (Nat.le_of_lt h)]
 ·rw[Nat.min_eq_right h];have h1:a.toNat*2 ^ 32 % 2 ^ 32=0:=Nat.mul_mod_left _ _;obtain⟨m,rfl⟩:=Nat.exists_eq_add_of_le h;rw[h1,Nat.pow_add,Nat.mul_left_comm,Nat.mul_mod_right]
theorem Xz (a:BitVec 32) (k' : IntKind) (n:Nat) :b8 .shr .u32 (u a) k' (n:Int)=some (.int .u32 (u (a >>> n))) :=by
 have aE:¬((n:Int)<0) :=by omega
 show (if (n:Int)<0 then none else some (U.int .u32 ((a.toNat:Int).fdiv (2 ^ min (n:Int).toNat 32))))=_;rw[if_neg aE];congr 2;rw[Int.toNat_natCast];unfold u;have:((2:Int) ^ min n 32)=((2 ^ min n 32:Nat) :Int) :=by rw[Int.natCast_pow]; rfl
 rw[this,Int.fdiv_eq_ediv_of_nonneg _ (Int.natCast_nonneg _),<-Int.natCast_ediv,BitVec.toNat_ushiftRight,Nat.shiftRight_eq_div_pow];congr 1;rcases Nat.lt_or_ge n 32 with h | h
 ·rw[Nat.min_eq_left (Nat.le_of_lt h)]
 ·rw[Nat.min_eq_right h,Nat.div_eq_of_lt a.isLt,Nat.div_eq_of_lt (Nat.lt_of_lt_of_le a.isLt (Nat.pow_le_pow_right (by omega) h))]
@[simp] theorem akI (a:BitVec 32) (k' : IntKind) (n:Int) (h:0<=n) :b8 .shl .u32 (u a) k' n=some (.int .u32 (u (a <<< n.toNat))) :=by
 obtain⟨m,rfl⟩:=Int.eq_ofNat_of_zero_le h;exact Xw a k' m
@[simp] theorem akM (a:BitVec 32) (k' : IntKind) (n:Int) (h:0<=n) :b8 .shr .u32 (u a) k' n=some (.int .u32 (u (a >>> n.toNat))) :=by
 obtain⟨m,rfl⟩:=Int.eq_ofNat_of_zero_le h;exact Xz a k' m
@[simp] theorem Xt (a b:BitVec 32) (h:b≠0#32) :b8 .rem .u32 (u a) .u32 (u b)=some (.int .u32 (u (a % b))) :=by
 have af:(b.toNat:Int)≠0:=fun e=>h (BitVec.eq_of_toNat_eq (by simpa using e))
 show (if IntKind.u32=IntKind.u32/\(b.toNat:Int)≠0 then some (U.int .u32 ((a.toNat:Int).tmod b.toNat)) else none)=_;rw[if_pos ⟨rfl,af⟩];unfold u;rw[BitVec.toNat_umod];rfl
@[simp] theorem akU (a b:Int) :b8 .xor .u32 a .u32 b=some (.int .u32 (u (BitVec.ofInt 32 a ^^^ BitVec.ofInt 32 b))) :=by
 show some (U.int .u32 (IntKind.u32.wrap (u (BitVec.ofInt 32 a ^^^ BitVec.ofInt 32 b))))=_;rw[Ai,lu]
@[simp] theorem akC (a b:Int) :b8 .or .u32 a .u32 b=some (.int .u32 (u (BitVec.ofInt 32 a ||| BitVec.ofInt 32 b))) :=by
 show some (U.int .u32 (IntKind.u32.wrap (u (BitVec.ofInt 32 a ||| BitVec.ofInt 32 b))))=_;rw[Ai,lu]
@[simp] theorem akm (a b:Int) :b8 .and .u32 a .u32 b=some (.int .u32 (u (BitVec.ofInt 32 a &&& BitVec.ofInt 32 b))) :=by
 show some (U.int .u32 (IntKind.u32.wrap (u (BitVec.ofInt 32 a &&& BitVec.ofInt 32 b))))=_;rw[Ai,lu]
end

section
abbrev cD (a:BitVec 64) :U:=.int .u64 (u a)
@[simp] theorem vU (n:Int) :IntKind.u64.wrap n=u (BitVec.ofInt 64 n) :=by
 have aR:(2 ^ IntKind.u64.bits:Int)=18446744073709551616:=by decide
 have dJ:IntKind.u64.signed=false:=rfl;simp only[IntKind.wrap,aR,dJ,Bool.false_and,Bool.false_eq_true,if_false,u,BitVec.toNat_ofInt];have:(2 ^ 64:Nat)=18446744073709551616:=by decide
 rw[this];omega
@[simp] theorem aqk (a:Int) :pB .xor (.int .u64 a)=some (.int .u64 (u (~~~(BitVec.ofInt 64 a)))) :=by
 show some (U.int .u64 (IntKind.u64.wrap (u (BitVec.ofInt 64 (18446744073709551615:Int) ^^^ BitVec.ofInt 64 a))))=_;rw[vU,lu];have:BitVec.ofInt 64 (18446744073709551615:Int)=BitVec.allOnes 64:=by decide
 rw[this,BitVec.allOnes_xor]
theorem NN (a:BitVec 64) (k' : IntKind) (n:Nat) :b8 .shl .u64 (u a) k' (n:Int)=some (.int .u64 (u (a <<< n))) :=by
 have aE:¬((n:Int)<0) :=by omega
 show (if (n:Int)<0 then none else some (U.int .u64 (IntKind.u64.wrap ((a.toNat:Int)*2 ^ min (n:Int).toNat 64))))=_;rw[if_neg aE];congr 2;rw[vU,Int.toNat_natCast];unfold u;congr 1;have:((a.toNat:Int)*2 ^ min n 64)=((a.toNat*2 ^ min n 64:Nat) :Int) :=by rw[Int.natCast_mul,Int.natCast_pow]; rfl
 rw[this,BitVec.ofInt_natCast,BitVec.toNat_ofNat,BitVec.toNat_shiftLeft,Nat.shiftLeft_eq];rcases Nat.lt_or_ge n 64 with h | h
 ·rw[Nat.min_eq_left (Nat.le_of_lt h)]
 ·rw[Nat.min_eq_right h];have h1:a.toNat*2 ^ 64 % 2 ^ 64=0:=Nat.mul_mod_left _ _;obtain⟨m,rfl⟩:=Nat.exists_eq_add_of_le h;rw[h1,Nat.pow_add,Nat.mul_left_comm,Nat.mul_mod_right]
theorem sq (a:BitVec 64) (k' : IntKind) (n:Nat) :b8 .shr .u64 (u a) k' (n:Int)=some (.int .u64 (u (a >>> n))) :=by
 have aE:¬((n:Int)<0) :=by omega
 show (if (n:Int)<0 then none else some (U.int .u64 ((a.toNat:Int).fdiv (2 ^ min (n:Int).toNat 64))))=_;rw[if_neg aE];congr 2;rw[Int.toNat_natCast];unfold u;have:((2:Int) ^ min n 64)=((2 ^ min n 64:Nat) :Int) :=by rw[Int.natCast_pow]; rfl
 rw[this,Int.fdiv_eq_ediv_of_nonneg _ (Int.natCast_nonneg _),<-Int.natCast_ediv,BitVec.toNat_ushiftRight,Nat.shiftRight_eq_div_pow];congr 1;rcases Nat.lt_or_ge n 64 with h | h
 ·rw[Nat.min_eq_left (Nat.le_of_lt h)]
 ·rw[Nat.min_eq_right h,Nat.div_eq_of_lt a.isLt,Nat.div_eq_of_lt (Nat.lt_of_lt_of_le a.isLt (Nat.pow_le_pow_right (by omega) h))]
@[simp] theorem akJ (a:BitVec 64) (k' : IntKind) (n:Int) (h:0<=n) :b8 .shl .u64 (u a) k' n=some (.int .u64 (u (a <<< n.toNat))) :=by
 obtain⟨m,rfl⟩:=Int.eq_ofNat_of_zero_le h;exact NN a k' m
@[simp] theorem akN (a:BitVec 64) (k' : IntKind) (n:Int) (h:0<=n) :b8 .shr .u64 (u a) k' n=some (.int .u64 (u (a >>> n.toNat))) :=by
 obtain⟨m,rfl⟩:=Int.eq_ofNat_of_zero_le h;exact sq a k' m
@[simp] theorem yo (a b:BitVec 64) (h:b≠0#64) :b8 .rem .u64 (u a) .u64 (u b)=some (.int .u64 (u (a % b))) :=by
 have af:(b.toNat:Int)≠0:=fun e=>h (BitVec.eq_of_toNat_eq (by simpa using e))
 show (if IntKind.u64=IntKind.u64/\(b.toNat:Int)≠0 then some (U.int .u64 ((a.toNat:Int).tmod b.toNat)) else none)=_;rw[if_pos ⟨rfl,af⟩];unfold u;rw[BitVec.toNat_umod];rfl
@[simp] theorem akV (a b:Int) :b8 .xor .u64 a .u64 b=some (.int .u64 (u (BitVec.ofInt 64 a ^^^ BitVec.ofInt 64 b))) :=by
 show some (U.int .u64 (IntKind.u64.wrap (u (BitVec.ofInt 64 a ^^^ BitVec.ofInt 64 b))))=_;rw[vU,lu]
@[simp] theorem akD (a b:Int) :b8 .or .u64 a .u64 b=some (.int .u64 (u (BitVec.ofInt 64 a ||| BitVec.ofInt 64 b))) :=by
 show some (U.int .u64 (IntKind.u64.wrap (u (BitVec.ofInt 64 a ||| BitVec.ofInt 64 b))))=_;rw[vU,lu]
@[simp] theorem NA (a b:Int) :b8 .and .u64 a .u64 b=some (.int .u64 (u (BitVec.ofInt 64 a &&& BitVec.ofInt 64 b))) :=by
 show some (U.int .u64 (IntKind.u64.wrap (u (BitVec.ofInt 64 a &&& BitVec.ofInt 64 b))))=_;rw[vU,lu]
end
@[simp] theorem alt (a:BitVec 8) :BitVec.ofInt 16 (u a)=a.setWidth 16:=pr 16 a
@[simp] theorem alu (a:BitVec 8) :BitVec.ofInt 32 (u a)=a.setWidth 32:=pr 32 a
@[simp] theorem alv (a:BitVec 8) :BitVec.ofInt 64 (u a)=a.setWidth 64:=pr 64 a
@[simp] theorem alm (a:BitVec 16) :BitVec.ofInt 8 (u a)=a.setWidth 8:=pr 8 a
@[simp] theorem alj (a:BitVec 16) :BitVec.ofInt 32 (u a)=a.setWidth 32:=pr 32 a
@[simp] theorem alk (a:BitVec 16) :BitVec.ofInt 64 (u a)=a.setWidth 64:=pr 64 a
@[simp] theorem alp (a:BitVec 32) :BitVec.ofInt 8 (u a)=a.setWidth 8:=pr 8 a
@[simp] theorem aln (a:BitVec 32) :BitVec.ofInt 16 (u a)=a.setWidth 16:=pr 16 a
@[simp] theorem alo (a:BitVec 32) :BitVec.ofInt 64 (u a)=a.setWidth 64:=pr 64 a
@[simp] theorem als (a:BitVec 64) :BitVec.ofInt 8 (u a)=a.setWidth 8:=pr 8 a
@[simp] theorem alq (a:BitVec 64) :BitVec.ofInt 16 (u a)=a.setWidth 16:=pr 16 a
@[simp] theorem alr (a:BitVec 64) :BitVec.ofInt 32 (u a)=a.setWidth 32:=pr 32 a
@[simp] theorem aqf {w:Nat}:u (0#w)=0:=by simp[u]
theorem HP (k:Nat) (c:Int) (ah:0<c) (hk:k<9223372036854775808) :b8 .quo .i64 (k:Int) .i64 c=some (.int .i64 ((k / c.toNat:Nat) :Int)) :=by
 obtain⟨m,rfl⟩:=Int.eq_ofNat_of_zero_le (Int.le_of_lt ah);have hm:(m:Int)≠0:=by omega
 show (if IntKind.i64=IntKind.i64/\(m:Int)≠0 then some (U.int .i64 (IntKind.i64.wrap ((k:Int).tdiv m))) else none)=_;rw[if_pos ⟨rfl,hm⟩,Int.toNat_natCast];have:((k:Int).tdiv m)=((k / m:Nat) :Int) :=rfl;have ad:=Nat.div_le_self k m;rw[this];generalize k / m=q at ad;rw[wrap_i64 (by omega) (by omega)]
theorem DN (k:Nat) (c:Int) (ah:0<c) :b8 .rem .i64 (k:Int) .i64 c=some (.int .i64 ((k % c.toNat:Nat) :Int)) :=by
 obtain⟨m,rfl⟩:=Int.eq_ofNat_of_zero_le (Int.le_of_lt ah);have hm:(m:Int)≠0:=by omega
 show (if IntKind.i64=IntKind.i64/\(m:Int)≠0 then some (U.int .i64 ((k:Int).tmod m)) else none)=_;rw[if_pos ⟨rfl,hm⟩,Int.toNat_natCast];rfl
theorem UG (k:IntKind) (w n:Nat) :rep n (.int k 0)=(List.replicate n (0#w)).map fun x=>.int k (u x) :=by
 simp[rep]
theorem ny {α:Type} (f:α->U) (l:List α) (i:Nat) (x:α) (h:i<l.length) :bn (l.map f) i [f x]=(l.set i x).map f:=by
 unfold bn;rw[List.set_eq_take_append_cons_drop,if_pos h];simp
theorem mY {cs vs:List U} (h:vs.length=cs.length) :bn cs 0 vs=vs:=by
 unfold bn;rw[Nat.zero_add,List.take_zero,List.nil_append,h,List.drop_length,List.append_nil]
theorem aH {l:am} {c c' : U} (h:c=c') (ah:c'.closed=true) :Rd l c c':=by subst h; exact .same _ ah
theorem yK {α:Type} {z:Nat}:∀ (es:List (List α)),(∀ e∈es,e.length=z)->∀ (i j:Nat) (e:List α) (c:α),es[i]? = some e->e[j]? = some c->es.flatten[i*z+j]? = some c:=by
 intro es av
 induction es with
 | nil=>intro i j e c ap; simp at ap
 | cons x es aJ=>
  intro i j e c ap ai;have ag:x.length=z:=av x (by simp);cases i with
  | zero=>
   simp only[List.getElem?_cons_zero,Option.some.injEq] at ap;subst ap;rw[List.flatten_cons,Nat.zero_mul,Nat.zero_add,List.getElem?_append_left (List.getElem?_eq_some_iff.1 ai).1];exact ai
  | succ i=>
   simp only[List.getElem?_cons_succ] at ap;rw[List.flatten_cons,List.getElem?_append_right (by rw[ag,Nat.succ_mul]; omega),ag,show (i+1)*z+j - z=i*z+j by rw[Nat.succ_mul]; omega];exact aJ (fun e ap=>av e (by simp[ap])) i j e c ap ai
inductive si (l:am) :List U->List U->Prop
 | nil:si l [] []
 | cons {c c' cs cs'}:ft (bK l) c c'->si l cs cs'->si l (c::cs) (c'::cs')
theorem si.len {l:am}:∀ {a b:List U},si l a b->b.length=a.length
 | _,_,.nil=>rfl
 | _,_,.cons _ h=>by simp[h.len]
theorem si.get {l:am}:∀ {a b:List U},si l a b->∀ (j:Nat) (c c' : U),a[j]? = some c->b[j]? = some c'->ft (bK l) c c'
 | _,_,.nil,j,c,c',h,_=>by simp at h
 | _,_,.cons h1 ad,j,c,c',h,h'=>by
  cases j with
  | zero=>simp at h h'; subst h h'; exact h1
  | succ j=>exact ad.get j c c' (by simpa using h) (by simpa using h')
theorem il {P:Program} {G:Nat->U} {f:FuncId} {args hV:List U} {r:U} {l:am} {K:U->am->Prop} (aB:bi P G f hV r) (ay:si l args hV) (aA:r.flat=true) (h:K r l) :c2 P G f args l (c:=⟨K⟩) :=
 ⟨r,l,.Lo aB ay.len ay.get aA,Nat.le_refl _,h⟩
theorem T9 {P:Program} {G:Nat->U} {f:FuncId} {args hV:List U} {r:U} {l:am} {K:U->am->Prop} (aB:nI P G f hV r) (ay:si l args hV) (h:K r l) :c2 P G f args l (c:=⟨K⟩) :=
 ⟨r,l,.Lp aB ay.len ay.get,Nat.le_refl _,h⟩
inductive j0 (l:am) :U->U->Prop
 | flat (c:U) (h:c.flat=true) :j0 l c c
 | aI (cs cs' : List U) (ak:cs'.length=cs.length) (h:∀ (j:Nat) (c c' : U),cs[j]? = some c->cs'[j]? = some c'->j0 l c c') :j0 l (.aI cs) (.aI cs')
 | bu (cs cs' : List U) (ak:cs'.length=cs.length) (h:∀ (j:Nat) (c c' : U),cs[j]? = some c->cs'[j]? = some c'->j0 l c c') :j0 l (.bu cs) (.bu cs')
 | ar (z b off len cap sz:Nat) (cs:List U) (es:List (List U)) (af:l[b]? = some (.cells sz cs)) (ak:es.length=len) (av:∀ e∈es,e.length=z)
   (fl:off+len*z<=cs.length)
   (h:∀ (i j:Nat) (e:List U) (c c' : U),es[i]? = some e->e[j]? = some c'->cs[off+(i*z+j)]? = some c->j0 l c c') :j0 l (.ar z b off len cap sz) (.b0 z es)
 | rZ (z b off cap sz:Nat) :j0 l (.ar z b off 0 cap sz) (.b0 z [])
 | fe (z:Nat) :j0 l (.b0 z []) (.b0 z [])
theorem agJ {w:World} {R:Nat->Prop} {B:Nat} {l:am} {μ:cu} (rel:bV R B w (bK l) μ) :∀ {c c' : U},j0 l c c'->∀ {v:Value},aO w R (bK l) μ c v->e3 w (fun k=>B<=k) c' v:=by
 intro c c' ay
 induction ay with
 | flat c h=>intro v ao; exact PR ao h
 | aI cs cs' ak h aJ=>
  intro v ao;cases ao with
  | aI _ vs gl h1 ao=>
   refine .aI cs' vs (by omega) h1 (fun j c' v ai eZ=>?_);have aL:j<cs.length:=by rw[<-ak]; exact (List.getElem?_eq_some_iff.1 ai).1
   exact aJ j cs[j] c' (List.getElem?_eq_getElem aL) ai (ao j cs[j] v (List.getElem?_eq_getElem aL) eZ)
 | bu cs cs' ak h aJ=>
  intro v ao;cases ao with
  | bu _ vs gl ao=>
   refine .bu cs' vs (by omega) (fun j c' v ai eZ=>?_);have aL:j<cs.length:=by rw[<-ak]; exact (List.getElem?_eq_some_iff.1 ai).1
   exact aJ j cs[j] c' (List.getElem?_eq_getElem aL) ai (ao j cs[j] v (List.getElem?_eq_getElem aL) eZ)
 | rZ z b off cap sz=>
  intro v ao;cases ao with
  | ar _ _ _ _ _ _ cap' cs m af hm ak aq ah=>exact .fe z _ cap'
  | ga _ _ _ _ _ _ cap' a ak ah au=>exact .fe z _ cap'
  | hl _ _ _ _ a cs m af hm=>exact .fe z a 0
 | fe z=>
  intro v ao;generalize ap:([] :List (List U))=es at ao;generalize yW:U.b0 z es=gB at ao;cases ao<;>cases yW
  ·subst ap; exact .fe z _ _
  ·exact .fe z _ _
 | ar z b off len cap sz cs es af ak av fl h aJ=>
  intro v ao;have p3:(bK l).f b=.cells sz cs:=lE.2 af;cases ao with
  | hl _ _ _ _ a hq m fI jo=>
   obtain rfl:=List.length_eq_zero_iff.1 ak;exact .fe z a 0
  | ga _ _ _ _ _ _ cap' a ak ah au=>
   exfalso;rcases au with au | ⟨n,hq,au,aL⟩
   ·rw[p3] at au; cases au
   ·rw[p3] at au; cases au; omega
  | ar _ _ _ _ _ _ cap' hq m fI hm fC aq ah=>
   rw[p3] at fI; cases fI;have hblk:=rel.blk b m hm;rw[p3] at hblk;obtain⟨cp,dt,arr,t,fH,hw,az,aA,lO⟩:=hblk;have cM:len<=cap':=by rcases ah with ⟨_,h⟩ | ⟨_,h,_⟩<;>omega
   have nd:B<=m.r:=rel.base b m (by rw[p3]; rfl) hm;subst ak;have p4:∀ i j,i<es.length->j<z->∃ c v,cs[off+(i*z+j)]? = some c/\arr[m.s+(off+(i*z+j))]? = some v/\v.oneCell'=true/\aO w R (bK l) μ c v:=by
    intro i j ax ai;have aL:off+(i*z+j)<cs.length:=by
     have:i*z+z<=es.length*z:=by rw[<-Nat.succ_mul]; exact Nat.mul_le_mul_right _ ax
     omega
    obtain⟨v,h1,ad,aj⟩:=lO _ _ (List.getElem?_eq_getElem aL);exact⟨_,v,List.getElem?_eq_getElem aL,h1,ad,aj⟩
   refine .b0 z es m.r (m.s+off) cap' (fun i j=>(arr[m.s+(off+(i*z+j))]?).getD undef) cM av (fun i j ax ai=>?_) (fun i e ap j c' ai=>?_)
   ·obtain⟨c,v,h1,ad,aj,aC⟩:=p4 i j ax ai;refine⟨?_,?_,nd,fun ⟨b,m,h1,ad,aj⟩=>by cases ad⟩
    ·simp only[World.cell?,hw,ad,Option.getD_some,Option.isSome_none];rw[show m.s+off+(i*z+j)=m.s+(off+(i*z+j)) by omega,ad]; rfl
    ·rw[ad]; exact aj
   ·have ax:i<es.length:=(List.getElem?_eq_some_iff.1 ap).1;have nj:j<z:=by rw[<-av e (List.mem_of_getElem? ap)]; exact (List.getElem?_eq_some_iff.1 ai).1
    obtain⟨c,v,h1,ad,aj,aC⟩:=p4 i j ax nj;simp only[ad,Option.getD_some];exact aJ i j e c c' ap ai h1 aC
theorem CQ {P:Program} {G:Nat->U} (mI:P.follows .mixedOrders=true) (k4:∀ g,(G g).closed=true) {f:FuncId} {args:List U} {r:U} (h:c2 P G f args [] (c:=⟨fun lz l=>j0 l lz r⟩)) :nI P G f args r:=by
 obtain⟨lz,l',h1,ad,aj⟩:=h;intro w A vs au ak ao;refine (Mp (A:=A) mI k4 h1 au ak ao).mono ?_;rintro e w' ⟨v,μ',rfl,af,rel,ay⟩;exact⟨v,rfl,af,agJ rel aj ay⟩
theorem Ux {l:am} {z b n cap sz:Nat} {es:List (List U)} {rest:List U} (af:l[b]? = some (.cells sz (es.flatten++rest))) (aD:es.length=n) (av:∀ e∈es,e.length=z) (ah:∀ e∈es,k0 e=true) :j0 l (.ar z b 0 n cap sz) (.b0 z es) :=by
 have fj:=m9 (z:=z) (es:=es) (fun e ap=>av e ap);refine .ar z b 0 n cap sz _ es af aD av (by rw[List.length_append,fj,aD]; omega) (fun i j e c c' ap ai cF=>?_);have ax:i<es.length:=(List.getElem?_eq_some_iff.1 ap).1;have nj:j<z:=by rw[<-av e (List.mem_of_getElem? ap)]; exact (List.getElem?_eq_some_iff.1 ai).1
 have aL:i*z+j<es.flatten.length:=by
  rw[fj];have:i*z+z<=es.length*z:=by rw[<-Nat.succ_mul]; exact Nat.mul_le_mul_right _ ax
  omega
 have h1:es.flatten[i*z+j]? = some c':=yK es av i j e c' ap ai;rw[Nat.zero_add,List.getElem?_append_left aL,h1] at cF;cases cF;exact .flat _ (Ei (ah e (List.mem_of_getElem? ap)) j _ ai)
theorem Uu {l:am} {c:U} (h:c.closed=true) :ft (bK l) c c:=.same c h
@[simp] theorem ana (n z:Nat) (cs:List U) (k:IntKind) (i:Int) :Co n z (.aI cs) (.int k i)=if 0<=i/\i<n then cs[i.toNat*z]? else none:=id rfl
@[simp] theorem anb (n z:Nat) (cs:List U) (k:IntKind) (i:Int) :Cp n z (.aI cs) (.int k i)=if 0<=i/\i<n then rP z cs (i.toNat*z) else none:=id rfl
@[simp] theorem zz (s:List UInt8) (k:IntKind) (i:Int) :xg (.str s) (.int k i)=if 0<=i then (s[i.toNat]?).map iw else none:=id rfl
theorem ahA {α:Type} {l:List α} {i:Nat} {x:α} (h:l[i]? = some x) :l.set i x=l:=by
 obtain⟨ax,rfl⟩:=List.getElem?_eq_some_iff.1 h;exact List.set_getElem_self ax
theorem kZ {α:Type} (f:α->U) (aA:∀ x,(f x).closed=true) :∀ l:List α,aV (l.map f)=true
 | []=>rfl
 | x::l=>by simp only[List.map_cons,aV,aA,kZ f aA l,Bool.and_self]
theorem O2 {α:Type} (f:α->U) (aA:∀ x,(f x).closed=true) (l:List α) :(U.aI (l.map f)).closed=true:=by simp only[U.closed]; exact kZ f aA l
theorem yJ {α:Type} (f:α->U) (aA:∀ x,(f x).flat=true) :∀ l:List α,k0 (l.map f)=true
 | []=>rfl
 | x::l=>by simp only[List.map_cons,k0,aA,yJ f aA l,Bool.and_self]
theorem PQ {α:Type} (f:α->U) (aA:∀ x,(f x).flat=true) (l:List α) :(U.aI (l.map f)).flat=true:=by simp only[U.flat]; exact yJ f aA l
@[simp] theorem ak1 (z:Nat) :sv (.ar z) .aX=some (.int .i64 0) :=id rfl
@[simp] theorem ak0 (n z:Nat) (x:U) :sv (.arr n z) x=some (.int .i64 n) :=id rfl
theorem apW (z:Nat) (cB ax ct:Option U) :gb (.ar z) .aX cB ax ct=(gh 0 0 cB ax ct).map fun _=>.aX:=rfl
@[simp] theorem apX (z:Nat) (k:IntKind) :gb (.ar z) .aX none (some (.int k 0)) none=some .aX:=id rfl
theorem xV (z b off len cap sz:Nat) (cB ax ct:Option U) :gb (.ar z) (.ar z b off len cap sz) cB ax ct=(gh len cap cB ax ct).map fun (l,aM,m)=>if m=l then .ar z b (off+l*z) 0 0 sz else .ar z b (off+l*z) (aM - l) (m - l) sz:=by
 simp[gb]
theorem CI {α:Type} {l:List α} {a:α} (h:l[0]? = some a) :∃ r,l=a::r:=by
 cases l with
 | nil=>simp at h
 | cons x l=>simp at h; subst h; exact⟨l,rfl⟩
theorem aiG {α:Type} {l:List α} {b:α} (h:l[1]? = some b) :∃ a r,l=a::b::r:=by
 cases l with
 | nil=>simp at h
 | cons x l=>obtain⟨r,rfl⟩:=CI (l:=l) (by simpa using h); exact⟨x,r,rfl⟩
theorem zY (zero:List U) (n:Nat) :(c4 zero n).length=n*zero.length:=by
 induction n with
 | zero=>simp[c4]
 | succ n aJ=>simp[c4,aJ,Nat.succ_mul,Nat.add_comm]
theorem Gt (zero:List U) (n:Nat) :c4 zero n=(List.replicate n zero).flatten:=by
 induction n with
 | zero=>rfl
 | succ n aJ=>rw[c4,aJ,List.replicate_succ,List.flatten_cons]
inductive bG (z:Nat) (l:am) :U->Nat->List (List U)->Prop
 | nil (j:Nat) :bG z l .aX j []
 | ar (j n cap sz:Nat) (cs:List U) (es:List (List U)) (af:l[j]? = some (.cells sz cs)) (ak:cs.length=sz) (aD:es.length=n) (av:∀ e∈es,e.length=z) (ah:n<=cap) (cM:cap*z<=sz)
   (cp:cs.take (n*z)=es.flatten) :bG z l (.ar z j 0 n cap sz) j es
def cq:U->Bool | .aX=>true | _=>false
theorem iK {v:U}:cq v=true<->v=.aX:=by cases v<;>simp[cq]
theorem u5 {α:Type} {v a8:U} {xs:List α} (h:a8=.aX<->v=.aX/\xs=[]) :cq a8=(cq v&&xs.isEmpty) :=by
 rw[Bool.eq_iff_iff,iK,h,Bool.and_eq_true,iK,List.isEmpty_iff]
def rW (z:Nat) (v:U) (es:List (List U)) :U:=match cq v with | true=>.aX | false=>.b0 z es
section
variable {z:Nat} {l l' : am} {v:U} {j:Nat} {es:List (List U)}
theorem bG.lt (h:bG z l v j es) :v=.aX\/j<l.length:=by
 cases h with
 | nil j=>exact .inl rfl
 | ar j n cap sz cs es af=>exact .inr (fy af)
theorem bG.row (h:bG z l v j es) :∀ e∈es,e.length=z:=by
 cases h with
 | nil j=>intro e ap; cases ap
 | ar j n cap sz cs es af ak aD av=>exact av
theorem bG.cells (h:bG z l v j es) :v.cells=some [v] :=by cases h<;>rfl
theorem bG.len (h:bG z l v j es) :cL (.ar z) v=some (.int .i64 es.length) :=by
 cases h with
 | nil j=>rfl
 | ar j n cap sz cs es af ak aD=>subst aD; rfl
theorem bG.frame (h:bG z l v j es) (ai:j<l.length->l'[j]? = l[j]?) :bG z l' v j es:=by
 cases h with
 | nil j=>exact .nil j
 | ar j n cap sz cs es af ak aD av ah cM cp=>exact .ar j n cap sz cs es (by rw[ai (fy af)]; exact af) ak aD av ah cM cp
theorem bG.wu (h:bG z l v j es) (ai:v=.aX\/l'[j]? = l[j]?) :bG z l' v j es:=by
 cases h with
 | nil j=>exact .nil j
 | ar j n cap sz cs es af ak aD av ah cM cp=>
  rcases ai with ai | ai
  ·cases ai
  ·exact .ar j n cap sz cs es (by rw[ai]; exact af) ak aD av ah cM cp
theorem bG.more (h:bG z l v j es) (x:am) :bG z (l++x) v j es:=h.frame fun ai=>List.getElem?_append_left ai
theorem bG.contents (h:bG z l v j es) :c8 l z v=some (es.flatten,es.length) :=by
 cases h with
 | nil j=>rfl
 | ar j n cap sz cs es af ak aD av ah cM cp=>subst aD; simp only[c8,af,and_self,if_true,List.drop_zero,cp]
theorem bG.Gq (h:bG z l v j es) (aA:∀ e∈es,k0 e=true) :j0 l v (rW z v es) :=by
 cases h with
 | nil j=>exact .flat _ rfl
 | ar j n cap sz cs es af ak aD av ah cM cp=>
  show j0 l _ (.b0 z es);refine Ux (rest:=cs.drop (n*z)) ?_ aD av aA;rw[af,<-cp,List.take_append_drop]
theorem bG.rT (h:bG z l v j es) (aA:∀ e∈es,aV e=true) :ft (bK l) v (rW z v es) :=by
 cases h with
 | nil j=>exact .same _ rfl
 | ar j n cap sz cs es af ak aD av ah cM cp=>
  show ft (bK l) _ (.b0 z es);have qh:n*z<=cs.length:=by rw[ak]; exact Nat.le_trans (Nat.mul_le_mul_right _ ah) cM
  refine .ar z j 0 n cap sz cs es (lE.2 af) aD av (by omega) (fun i k e c c' ap hk cF=>?_);have ax:i<es.length:=(List.getElem?_eq_some_iff.1 ap).1;have Jz:k<z:=by rw[<-av e (List.mem_of_getElem? ap)]; exact (List.getElem?_eq_some_iff.1 hk).1
  have aL:i*z+k<n*z:=by
   have:i*z+z<=es.length*z:=by rw[<-Nat.succ_mul]; exact Nat.mul_le_mul_right _ ax
   rw[aD] at this; omega
  have h1:es.flatten[i*z+k]? = some c':=yK es av i k e c' ap hk;rw[<-cp,List.getElem?_take_of_lt aL] at h1;rw[Nat.zero_add,h1] at cF;cases cF;exact .same _ (AU (aA e (List.mem_of_getElem? ap)) k _ hk)
theorem CU {l:am} {z b n cap sz:Nat} {es:List (List U)} {rest:List U} (af:l[b]? = some (.cells sz (es.flatten++rest))) (aD:es.length=n) (av:∀ e∈es,e.length=z) (ah:∀ e∈es,aV e=true) :ft (bK l) (.ar z b 0 n cap sz) (.b0 z es) :=by
 have fj:=m9 (z:=z) (es:=es) (fun e ap=>av e ap);refine .ar z b 0 n cap sz _ es (lE.2 af) aD av (by rw[List.length_append,fj,aD]; omega) (fun i j e c c' ap ai cF=>?_);have ax:i<es.length:=(List.getElem?_eq_some_iff.1 ap).1;have nj:j<z:=by rw[<-av e (List.mem_of_getElem? ap)]; exact (List.getElem?_eq_some_iff.1 ai).1
 have aL:i*z+j<es.flatten.length:=by
  rw[fj];have:i*z+z<=es.length*z:=by rw[<-Nat.succ_mul]; exact Nat.mul_le_mul_right _ ax
  omega
 have h1:es.flatten[i*z+j]? = some c':=yK es av i j e c' ap ai;rw[Nat.zero_add,List.getElem?_append_left aL,h1] at cF;cases cF;exact .same _ (AU (ah e (List.mem_of_getElem? ap)) j _ ai)
theorem Nj (h:bG z l v j es) {by_ m:Nat} {xs:List (List U)} (hm:xs.length=m) (qq:∀ e∈xs,e.length=z) (aE:z≠0) (dz:by_≠0) (du:(es.length+m)*by_<=cx) :
  ∃ a8 cP l',jx l z by_ v xs.flatten m=some (a8,l')/\bG z l' a8 cP (es++xs)/\l.length<=l'.length/\(∀ b,b<l.length->b≠j->l'[b]? = l[b]?)/\(cP=j\/l.length<=cP)/\(a8=.aX<->v=.aX/\xs=[]) :=by
 by_cases lf:m=0
 ·have ag:xs=[] :=List.length_eq_zero_iff.1 (by omega);subst ag;refine⟨v,j,l,?_,by simpa using h,Nat.le_refl _,fun _ _ _=>rfl,.inl rfl,by simp⟩;unfold jx;rw[if_pos lf];cases h<;>rfl
 have bB:xs.flatten.length=m*z:=by rw[m9 qq,hm]
 have jq:∀ e∈es++xs,e.length=z:=fun e ap=>by
  rcases List.mem_append.1 ap with h1 | h1
  ·exact h.row e h1
  ·exact qq e h1
 have bY:xs≠[] :=fun ag=>lf (by rw[<-hm,ag]; rfl)
 cases h with
 | nil j=>
  refine⟨.ar z l.length 0 m m (m*z),l.length,l++[.cells (m*z) xs.flatten],?_,?_,by simp,fun b af _=>List.getElem?_append_left af,.inr (Nat.le_refl _),by simp[bY]⟩
  ·unfold jx;rw[if_neg lf,if_neg (by omega)];simp only;rw[if_pos (by simpa using du)]
  ·refine .ar _ _ _ _ xs.flatten _ (by simp) bB (by simpa using hm) jq (Nat.le_refl _) (Nat.le_refl _) ?_;rw[List.take_of_length_le (by omega)]; rfl
 | ar j n cap sz cs es af ak aD av ah cM cp=>
  subst aD;have qh:es.length*z<=cap*z:=Nat.mul_le_mul_right _ ah;have Fh:(es++xs).length=es.length+m:=by simp[hm]
  have fj:(es++xs).flatten=es.flatten++xs.flatten:=by simp
  have y1:es.flatten.length=es.length*z:=m9 av;have uI:jx l z by_ (.ar z j 0 es.length cap sz) xs.flatten m =
    if es.length+m<=cap then some (.ar z j 0 (es.length+m) cap sz,l.set j (.cells sz (bn cs (es.length*z) xs.flatten)))
    else if cap*z<sz then some (.ar z l.length 0 (es.length+m) (es.length+m) ((es.length+m)*z),l++[.cells ((es.length+m)*z) (es.flatten++xs.flatten)])
    else some (.ar z j 0 (es.length+m) (es.length+m) ((es.length+m)*z),l.set j (.cells ((es.length+m)*z) (es.flatten++xs.flatten))) :=by
   unfold jx;rw[if_neg lf,if_neg (by omega)];simp only[af];rw[if_pos ⟨trivial,trivial,du⟩];simp only[Nat.zero_add,List.drop_zero,cp,if_true]
  rw[uI];have eN:=fy af;split
  ·rename_i h1;have ach:(es.length+m)*z<=cap*z:=Nat.mul_le_mul_right _ h1;rw[Nat.add_mul] at ach;refine⟨_,j,_,rfl,?_,by simp,fun b bH k8=>by rw[List.getElem?_set_ne (fun e=>k8 e.symm)],.inl rfl,by simp⟩;refine .ar j _ cap sz (bn cs (es.length*z) xs.flatten) _ (by rw[List.getElem?_set_self eN]) ?_ Fh jq h1 cM ?_
   ·rw[r1 (by omega)]; omega
   ·rw[fj];unfold bn;rw[cp,List.take_append_of_le_length (by simp[y1,bB,Nat.add_mul]),List.take_of_length_le (by simp[y1,bB,Nat.add_mul])]
  ·split
   ·refine⟨_,l.length,_,rfl,?_,by simp,fun b bH _=>List.getElem?_append_left bH,.inr (Nat.le_refl _),by simp⟩;refine .ar _ _ _ _ (es.flatten++xs.flatten) _ (by simp) (by simp[y1,bB,Nat.add_mul]) Fh jq (Nat.le_refl _) (Nat.le_refl _) ?_;rw[fj,List.take_of_length_le (by simp[y1,bB,Nat.add_mul])]
   ·refine⟨_,j,_,rfl,?_,by simp,fun b bH k8=>by rw[List.getElem?_set_ne (fun e=>k8 e.symm)],.inl rfl,by simp⟩;refine .ar j _ _ _ (es.flatten++xs.flatten) _ (by rw[List.getElem?_set_self eN]) (by simp[y1,bB,Nat.add_mul]) Fh jq (Nat.le_refl _) (Nat.le_refl _) ?_;rw[fj,List.take_of_length_le (by simp[y1,bB,Nat.add_mul])]
theorem nK (h:bG z l v j es) {by_:Nat} {x:U} {xs:List (List U)} (ag:c8 l z x=some (xs.flatten,xs.length)) (qq:∀ e∈xs,e.length=z) (aE:z≠0) (dz:by_≠0) (du:(es.length+xs.length)*by_<=cx) :
  ∃ a8 cP l',iR l z by_ v x=some (a8,l')/\bG z l' a8 cP (es++xs)/\l.length<=l'.length/\(∀ b,b<l.length->b≠j->l'[b]? = l[b]?)/\(cP=j\/l.length<=cP)/\(a8=.aX<->v=.aX/\xs=[]) :=by
 unfold iR;rw[ag];exact Nj h rfl qq aE dz du
theorem WY (h:bG z l v j es) {by_ n:Nat} {k:IntKind} {zero:List U} (ij:zero.length=z) (aE:z≠0) (dz:by_≠0) (aD:n<9223372036854775808) (du:(es.length+n)*by_<=cx) :
  ∃ a8 cP l',pO l z by_ zero v (.int k (n:Int))=some (a8,l')/\bG z l' a8 cP (es++List.replicate n zero)/\l.length<=l'.length/\(∀ b,b<l.length->b≠j->l'[b]? = l[b]?)/\(cP=j\/l.length<=cP)/\(a8=.aX<->v=.aX/\n=0) :=by
 have:=Nj h (xs:=List.replicate n zero) (m:=n) (by simp) (fun e ap=>by rw[(List.mem_replicate.1 ap).2,ij]) aE dz du;obtain⟨a8,cP,l',h1,ad⟩:=this;refine⟨a8,cP,l',?_,by simpa [List.replicate_eq_nil_iff] using ad⟩;unfold pO;simp only[Int.toNat_natCast];rw[if_pos ⟨by omega,by omega,by have:=Nat.le_trans (Nat.mul_le_mul_right by_ (Nat.le_add_left n es.length)) du; exact this⟩,Gt];exact h1
theorem W4 {l:am} {z by_ n:Nat} {v a8:U} {xs:List U} {pre rest:am} {l' : am} (ao:v=.aX\/∃ j n cap sz,v=.ar z j 0 n cap sz/\pre.length<=j) (h:jx (pre++rest) z by_ v xs n=some (a8,l')) :
  ∃ rV,l'=pre++rV:=by
 unfold jx at h;by_cases aD:n=0
 ·rw[if_pos aD] at h;rcases ao with rfl | ⟨j,m,cap,sz,rfl,ai⟩<;>(cases h; exact⟨_,rfl⟩)
 rw[if_neg aD] at h;by_cases aE:z=0\/by_=0
 ·rw[if_pos aE] at h; cases h
 rw[if_neg aE] at h;rcases ao with rfl | ⟨j,m,cap,sz,rfl,ai⟩
 ·simp only at h;split at h
  ·cases h; exact⟨_,by rw[List.append_assoc]⟩
  ·cases h
 ·simp only at h;split at h
  ·split at h
   ·split at h
    ·cases h; exact⟨_,by rw[List.set_append_right _ _ ai]⟩
    ·split at h
     ·cases h; exact⟨_,by rw[List.append_assoc]⟩
     ·split at h
      ·cases h; exact⟨_,by rw[List.set_append_right _ _ ai]⟩
      ·rename_i aM; exact absurd trivial aM
   ·cases h
  ·cases h
theorem yk {z by_:Nat} {v:U} {j:Nat} {es:List (List U)} {pre rest:am} (h:bG z (pre++rest) v j es) (ai:v=.aX\/pre.length<=j) {x:U} {xs:List (List U)} (ag:c8 (pre++rest) z x=some (xs.flatten,xs.length)) (qq:∀ e∈xs,e.length=z) (aE:z≠0) (dz:by_≠0)
  (du:(es.length+xs.length)*by_<=cx) :
  ∃ a8 cP rV,iR (pre++rest) z by_ v x=some (a8,pre++rV)/\bG z (pre++rV) a8 cP (es++xs)/\(a8=.aX\/pre.length<=cP)/\cq a8=(cq v&&xs.isEmpty) :=by
 have aA:v=.aX\/∃ j n cap sz,v=.ar z j 0 n cap sz/\pre.length<=j:=by
  cases h with
  | nil j=>exact .inl rfl
  | ar j n cap sz cs es=>exact .inr ⟨j,n,cap,sz,rfl,ai.resolve_left (by simp)⟩
 obtain⟨a8,cP,l',h1,ad,aj,aC,aZ,bx⟩:=nK h ag qq aE dz du;have dK:=h1;unfold iR at dK;rw[ag] at dK;obtain⟨rV,rfl⟩:=W4 (l:=[]) aA dK;refine⟨a8,cP,rV,h1,ad,?_,u5 bx⟩;rcases aZ with h | h
 ·rcases ai with ao | ai
  ·by_cases zu:xs=[]
   ·exact .inl (bx.2 ⟨ao,zu⟩)
   ·right;subst ao;have zt:xs.length≠0:=fun e=>zu (List.length_eq_zero_iff.1 e)
    simp only at dK;unfold jx at dK;rw[if_neg zt] at dK;split at dK
    ·cases dK
    ·simp only at dK;split at dK
     ·obtain⟨rfl,_⟩:=Prod.mk.inj (Option.some.inj dK);generalize es++xs=E at ad;cases ad;simp
     ·cases dK
  ·right; omega
 ·right;rw[List.length_append] at h; omega
theorem bG.view (h:bG z l v j es) (ao:cq v=false) :∃ n cap sz cs,v=.ar z j 0 n cap sz/\l[j]? = some (.cells sz cs)/\cs.length=sz/\es.length=n/\n*z<=sz/\(∀ i e,es[i]? = some e->∀ m,m<z->cs[i*z+m]? = e[m]?)/\cs.take (n*z)=es.flatten:=by
 cases h with
 | nil j=>simp[cq] at ao
 | ar j n cap sz cs es af ak aD av ah cM cp=>
  refine⟨n,cap,sz,cs,rfl,af,ak,aD,Nat.le_trans (Nat.mul_le_mul_right _ ah) cM,fun i e ap m hm=>?_,cp⟩;have ax:i<es.length:=(List.getElem?_eq_some_iff.1 ap).1;have aL:i*z+m<n*z:=by
   have:i*z+z<=es.length*z:=by rw[<-Nat.succ_mul]; exact Nat.mul_le_mul_right _ ax
   rw[aD] at this; omega
  have h1:=Ek av ap hm;rw[<-h1,<-cp,List.getElem?_take_of_lt aL]
theorem bG.CW {α:Type} {enc:α->List U} {xs:List α} (h:bG z l v j (xs.map enc)) (aA:∀ x,k0 (enc x)=true) (s:ez α) (al:cq v=s.isNone) (ag:s.l=xs) :j0 l v (cy z enc s) :=by
 have h1:=h.Gq (fun e ap=>by obtain⟨x,_,rfl⟩:=List.mem_map.1 ap; exact aA x);subst ag;unfold rW at h1;rw[al] at h1;cases s with
 | none=>exact h1
 | some s=>exact h1
theorem bG.mT {α:Type} {enc:α->List U} {xs:List α} (h:bG z l v j (xs.map enc)) (aA:∀ x,aV (enc x)=true) (s:ez α) (al:cq v=s.isNone) (ag:s.l=xs) :ft (bK l) v (cy z enc s) :=by
 have h1:=h.rT (fun e ap=>by obtain⟨x,_,rfl⟩:=List.mem_map.1 ap; exact aA x);subst ag;unfold rW at h1;rw[al] at h1;cases s with
 | none=>exact h1
 | some s=>exact h1
end
inductive eJ (z:Nat) (l:am) :U->Nat->List (List U)->Prop
 | nil (j:Nat) :eJ z l .aX j []
 | ar (j off n cap sz:Nat) (cs:List U) (es:List (List U)) (af:l[j]? = some (.cells sz cs)) (ak:cs.length=sz) (aD:es.length=n) (av:∀ e∈es,e.length=z) (ah:n<=cap) (cM:off+cap*z<=sz)
   (cp:(cs.drop off).take (n*z)=es.flatten) :eJ z l (.ar z j off n cap sz) j es
section
variable {z:Nat} {l l' : am} {v:U} {j:Nat} {es:List (List U)}
theorem bG.q (h:bG z l v j es) :eJ z l v j es:=by
 cases h with
 | nil j=>exact .nil j
 | ar j n cap sz cs es af ak aD av ah cM cp=>exact .ar j 0 n cap sz cs es af ak aD av ah (by omega) (by simpa using cp)
theorem eJ.row (h:eJ z l v j es) :∀ e∈es,e.length=z:=by
 cases h with
 | nil j=>intro e ap; cases ap
 | ar j off n cap sz cs es af ak aD av=>exact av
theorem eJ.lt (h:eJ z l v j es) :v=.aX\/j<l.length:=by
 cases h with
 | nil j=>exact .inl rfl
 | ar j off n cap sz cs es af=>exact .inr (fy af)
theorem eJ.cells (h:eJ z l v j es) :v.cells=some [v] :=by cases h<;>rfl
theorem eJ.len (h:eJ z l v j es) :cL (.ar z) v=some (.int .i64 es.length) :=by
 cases h with
 | nil j=>rfl
 | ar j off n cap sz cs es af ak aD=>subst aD; rfl
theorem eJ.wu (h:eJ z l v j es) (ai:v=.aX\/l'[j]? = l[j]?) :eJ z l' v j es:=by
 cases h with
 | nil j=>exact .nil j
 | ar j off n cap sz cs es af ak aD av ah cM cp=>
  rcases ai with ai | ai
  ·cases ai
  ·exact .ar j off n cap sz cs es (by rw[ai]; exact af) ak aD av ah cM cp
theorem eJ.more (h:eJ z l v j es) (x:am) :eJ z (l++x) v j es:=h.wu (by
 rcases h.lt with h | h
 ·exact .inl h
 ·exact .inr (List.getElem?_append_left h))
theorem eJ.vn (h:eJ z l .aX j es) :es=[] :=by
 generalize ao:U.aX=w at h;cases h with
 | nil j=>rfl
 | ar=>cases ao
theorem eJ.from (h:eJ z l v j es) (ao:cq v=false) {k:IntKind} {i:Nat} (ax:i<=es.length) :∃ a8,gb (.ar z) v (some (.int k (i:Int))) none none=some a8/\eJ z l a8 j (es.drop i)/\cq a8=false:=by
 cases h with
 | nil j=>simp[cq] at ao
 | ar j off n cap sz cs es af ak aD av ah cM cp=>
  subst aD;have sZ:i*z+(cap - i)*z=cap*z:=by rw[<-Nat.add_mul]; congr 1; omega
  have RT:i*z+(es.length - i)*z=es.length*z:=by rw[<-Nat.add_mul]; congr 1; omega
  have eu:es.length*z<=cap*z:=Nat.mul_le_mul_right _ ah;have SB:∀ e∈es.drop i,e.length=z:=fun e ap=>av e (List.mem_of_mem_drop ap)
  have fj:(es.drop i).flatten=(es.flatten).drop (i*z) :=by
   have h1:es.flatten=(es.take i).flatten++(es.drop i).flatten:=by rw[<-List.flatten_append,List.take_append_drop]
   have ad:(es.take i).flatten.length=i*z:=by
    rw[m9 (z:=z) (fun e ap=>av e (List.mem_of_mem_take ap)),List.length_take];congr 1; omega
   rw[h1,<-ad,List.drop_left]
  rw[xV,NL,if_pos ⟨by omega,by omega⟩];simp only[Int.toNat_natCast,Option.map_some,Option.some.injEq,exists_eq_left'];by_cases er:cap=i
  ·rw[if_pos er];have abm:es.drop i=[] :=List.drop_of_length_le (by omega);refine⟨?_,rfl⟩;rw[abm];exact .ar j _ 0 0 sz cs [] af ak rfl (by simp) (Nat.le_refl _) (by omega) (by simp)
  ·rw[if_neg er];refine⟨.ar j _ _ _ sz cs _ af ak (by simp) SB (by omega) (by omega) ?_,rfl⟩;rw[fj,<-cp,List.drop_take,List.drop_drop];congr 1; omega
theorem eJ.get (h:eJ z l v j es) {k:IntKind} {i:Nat} {e:List U} (ap:es[i]? = some e) :∃ p cs o,cv (.ar z) v (.int k (i:Int))=some p/\dY l p=some (cs,o)/\o+z<=cs.length/\(cs.drop o).take z=e:=by
 cases h with
 | nil j=>simp at ap
 | ar j off n cap sz cs es af ak aD av ah cM cp=>
  subst aD;have ax:=(List.getElem?_eq_some_iff.1 ap).1;have h1:i*z+z<=es.length*z:=by rw[<-Nat.succ_mul]; exact Nat.mul_le_mul_right _ ax
  have ad:es.length*z<=cap*z:=Nat.mul_le_mul_right _ ah;refine⟨.ptr j (off+i*z) sz,cs,off+i*z,?_,?_,by omega,?_⟩
  ·simp only[cv,Int.toNat_natCast];rw[if_pos ⟨trivial,by omega,by omega⟩]
  ·simp only[dY,af,if_true]
  ·have abp:=av e (List.mem_of_getElem? ap);apply List.ext_getElem?;intro m;by_cases hm:m<z
   ·rw[List.getElem?_take_of_lt hm,List.getElem?_drop,<-Ek av ap hm,<-cp,List.getElem?_take_of_lt (by omega),List.getElem?_drop];congr 1; omega
   ·rw[List.getElem?_eq_none (by simp; omega),List.getElem?_eq_none (by omega)]
theorem eJ.Gq (h:eJ z l v j es) (aA:∀ e∈es,k0 e=true) :j0 l v (rW z v es) :=by
 cases h with
 | nil j=>exact .flat _ rfl
 | ar j off n cap sz cs es af ak aD av ah cM cp=>
  show j0 l _ (.b0 z es);have qh:off+n*z<=cs.length:=by rw[ak]; have:=Nat.mul_le_mul_right z ah; omega
  refine .ar z j off n cap sz cs es af aD av (by omega) (fun i k e c c' ap hk cF=>?_);have ax:i<es.length:=(List.getElem?_eq_some_iff.1 ap).1;have Jz:k<z:=by rw[<-av e (List.mem_of_getElem? ap)]; exact (List.getElem?_eq_some_iff.1 hk).1
  have aL:i*z+k<n*z:=by
   have:i*z+z<=es.length*z:=by rw[<-Nat.succ_mul]; exact Nat.mul_le_mul_right _ ax
   rw[aD] at this; omega
  have h1:es.flatten[i*z+k]? = some c':=yK es av i k e c' ap hk;rw[<-cp,List.getElem?_take_of_lt aL,List.getElem?_drop] at h1;rw[h1] at cF;cases cF;exact .flat _ (Ei (aA e (List.mem_of_getElem? ap)) k _ hk)
theorem eJ.rT (h:eJ z l v j es) (aA:∀ e∈es,aV e=true) :ft (bK l) v (rW z v es) :=by
 cases h with
 | nil j=>exact .same _ rfl
 | ar j off n cap sz cs es af ak aD av ah cM cp=>
  show ft (bK l) _ (.b0 z es);have qh:off+n*z<=cs.length:=by rw[ak]; have:=Nat.mul_le_mul_right z ah; omega
  refine .ar z j off n cap sz cs es (lE.2 af) aD av (by omega) (fun i k e c c' ap hk cF=>?_);have ax:i<es.length:=(List.getElem?_eq_some_iff.1 ap).1;have Jz:k<z:=by rw[<-av e (List.mem_of_getElem? ap)]; exact (List.getElem?_eq_some_iff.1 hk).1
  have aL:i*z+k<n*z:=by
   have:i*z+z<=es.length*z:=by rw[<-Nat.succ_mul]; exact Nat.mul_le_mul_right _ ax
   rw[aD] at this; omega
  have h1:es.flatten[i*z+k]? = some c':=yK es av i k e c' ap hk;rw[<-cp,List.getElem?_take_of_lt aL,List.getElem?_drop] at h1;rw[h1] at cF;cases cF;exact .same _ (AU (aA e (List.mem_of_getElem? ap)) k _ hk)
theorem eJ.rd (h:eJ z l v j es) (aA:∀ e∈es,aV e=true) :Rd l v (rW z v es) :=by
 cases h with
 | nil j=>exact .same _ rfl
 | ar j off n cap sz cs es af ak aD av ah cM cp=>
  show Rd l _ (.b0 z es);have qh:off+n*z<=cs.length:=by rw[ak]; have:=Nat.mul_le_mul_right z ah; omega
  refine .ar z j off n cap sz cs es af aD av (by omega) (fun i k e c c' ap hk cF=>?_);have ax:i<es.length:=(List.getElem?_eq_some_iff.1 ap).1;have Jz:k<z:=by rw[<-av e (List.mem_of_getElem? ap)]; exact (List.getElem?_eq_some_iff.1 hk).1
  have aL:i*z+k<n*z:=by
   have:i*z+z<=es.length*z:=by rw[<-Nat.succ_mul]; exact Nat.mul_le_mul_right _ ax
   rw[aD] at this; omega
  have h1:es.flatten[i*z+k]? = some c':=yK es av i k e c' ap hk;rw[<-cp,List.getElem?_take_of_lt aL,List.getElem?_drop] at h1;rw[h1] at cF;cases cF;exact .same _ (AU (aA e (List.mem_of_getElem? ap)) k _ hk)
theorem eJ.xO {α:Type} {enc:α->List U} {xs:List α} (h:eJ z l v j (xs.map enc)) (aA:∀ x,aV (enc x)=true) (s:ez α) (al:cq v=s.isNone) (ag:s.l=xs) :Rd l v (cy z enc s) :=by
 have h1:=h.rd (fun e ap=>by obtain⟨x,_,rfl⟩:=List.mem_map.1 ap; exact aA x);subst ag;unfold rW at h1;rw[al] at h1;cases s with
 | none=>exact h1
 | some s=>exact h1
theorem eJ.CW {α:Type} {enc:α->List U} {xs:List α} (h:eJ z l v j (xs.map enc)) (aA:∀ x,k0 (enc x)=true) (s:ez α) (al:cq v=s.isNone) (ag:s.l=xs) :j0 l v (cy z enc s) :=by
 have h1:=h.Gq (fun e ap=>by obtain⟨x,_,rfl⟩:=List.mem_map.1 ap; exact aA x);subst ag;unfold rW at h1;rw[al] at h1;cases s with
 | none=>exact h1
 | some s=>exact h1
theorem eJ.mT {α:Type} {enc:α->List U} {xs:List α} (h:eJ z l v j (xs.map enc)) (aA:∀ x,aV (enc x)=true) (s:ez α) (al:cq v=s.isNone) (ag:s.l=xs) :ft (bK l) v (cy z enc s) :=by
 have h1:=h.rT (fun e ap=>by obtain⟨x,_,rfl⟩:=List.mem_map.1 ap; exact aA x);subst ag;unfold rW at h1;rw[al] at h1;cases s with
 | none=>exact h1
 | some s=>exact h1
end
theorem Xh {P:Program} {t:TypeId} {xs a1:List U} {r:Bool} (au:P.eqGuardType P.depth t=false) (h:ea P 10000 t (.aI xs) (.aI a1)=some r) :fG P .eql t (.aI xs) (.aI a1)=some (.bool r) :=by
 simp only[fG,wq,au,Bool.not_false,if_true,h]; rfl
theorem Xi {P:Program} {t:TypeId} {xs a1:List U} {r:Bool} (au:P.eqGuardType P.depth t=false) (h:ea P 10000 t (.aI xs) (.aI a1)=some r) :fG P .neq t (.aI xs) (.aI a1)=some (.bool (!r)) :=by
 simp only[fG,wq,au,Bool.not_false,if_true,h]; rfl
end Go.bJ

namespace Go.bJ
open Go Go.ChangeShapes Go.RowKit
theorem afJ (k:Nat) :¬ kS aN.empty (fun _=>none) k:=by
 rintro⟨b,m,ak,_,_⟩;simp[aN.empty,aN.f,live,ch.get] at ak
theorem ZN {H:Type} {enc:TypeId × Value->H} {P:Program} {w:World} {base:Nat} {spare:Nat->Bool} {held:Bool} {fuel:Nat} {Tv:String} {g t e n:Nat} {cs:Array Value} {x:DataW H × List MemPlace} (bE:List Int)
  (au:P.globalNamed Tv=some g) (ao:w.var? P Tv=some cs) (aK:P.underlying t=some (.array n e)) (ap:P.underlying e=some (.int .u32)) (ah:P.cellsOf e=1) (br:DataW.trod enc P w base spare held fuel t cs.toList=some x)
  (ag:x.1=.agg (bE.map fun k=>.lit (.int .u32 k))) :e3 w (fun _=>True) (.b5 (bE.map fun k=>.int .u32 k) 0) (.pointer (some ⟨g,0,none⟩)) :=by
 obtain⟨xs,m,rfl,zt,bc,aD,abo⟩:=DataW.trod_array aK br;rw[zt] at ag;simp only[DataW.agg.injEq] at ag;have uO:bE.length=n:=by have:=congrArg List.length ag; simp at this; omega
 have lO:∀ j k,bE[j]? = some k->w.cell? ⟨g,j,none⟩=some (.int .u32 k) :=by
  intro j k ai;have jF:j<n:=by have:=(aqr.1 ai).1; omega
  have h1:=abo j jF;rw[ah,arS] at h1;have RB:j<xs.length:=by omega
  rw[aqu RB] at h1;obtain⟨k',aR,bI,_⟩:=DataW.trod_int ap h1;have aj:=congrArg (fun l=>l[j]?) ag;simp only[aqx,aqu RB,ai,aqy,Option.some.injEq] at aj;rw[bI] at aj;have n3:k'=k:=by simpa using aj
  subst n3;have aC:=World.var?_cell au ao j;rw[aC];have aZ:(cs.toList.drop j)[0]? = some (Value.int .u32 k') :=by
   have:((cs.toList.drop j).take 1)[0]? = some (Value.int .u32 k') :=by rw[aR]; rfl
   rw[asH] at this;simpa using this
  rw[aq3] at aZ;simpa using aZ
 refine .b5 _ 0 g 0 (fun j=>.int .u32 (bE.getD j 0)) (fun j ai=>?_) (fun j c ai=>?_)
 ·rw[aqS] at ai;refine⟨?_,rfl,trivial,afJ g⟩;rw[arD,lO j bE[j] (aqu ai),aqD,aqu ai];rfl
 ·rw[aqx] at ai;cases hk:bE[j]? with
  | none=>rw[hk] at ai; cases ai
  | some k=>
   rw[hk] at ai;cases ai;rw[aqD,hk];exact .int _ _
theorem Vv {H:Type} {enc:TypeId × Value->H} {P:Program} {w:World} {base:Nat} {spare:Nat->Bool} {held:Bool}:∀ {ts:List TypeId} {vs:List Value} {hs:List (DataW H)} {ck:List MemPlace},
  DataW.TrodAll enc P w base spare held ts vs hs ck->hs.length=ts.length
 | [],vs,hs,ck,h=>by obtain⟨rfl,rfl,rfl⟩:=trodAll_nil h; rfl
 | t::ts,vs,hs,ck,h=>by
  obtain⟨v,ai9,d,YJ,a,b,rfl,rfl,rfl,h1,ad⟩:=trodAll_cons h;simp[Vv ad]
end Go.bJ

namespace Go.bJ
open Go
def Gb:List (FuncId × Bool × (List U->Option U))->sg
 | [],_=>none
 | e::r,f=>match Nat.beq f e.1 with | true=>some e.2 | false=>Gb r f
abbrev Hf (P:Program) (G:Nat->U) (e:FuncId × Bool × (List U->Option U)) :Prop:=∀ args r,e.2.2 args=some r->bi P G e.1 args r/\(e.2.1=true->nI P G e.1 args r)
theorem TL {P:Program} {G:Nat->U}:∀ {l:List (FuncId × Bool × (List U->Option U))},(∀ e∈l,Hf P G e)->Dw P G (Gb l)
 | [],_,f,n,g,args,r,aA,_=>by cases aA
 | e::l,h,f,n,g,args,r,aA,au=>by
  unfold Gb at aA;split at aA
  ·rename_i af;have:=arl af;subst this;have ap:e.2=(n,g) :=Option.some.inj aA;have:=h e (by simp) args r (by rw[ap]; exact au);rw[ap] at this;exact this
  ·exact TL (fun x ag=>h x (by simp[ag])) f n g args r aA au
def x9 (P:Program) (G:Nat->U) :List (FuncId × Bool × (List U->Option U))->Prop
 | []=>True
 | e::r=>Hf P G e/\x9 P G r
theorem x9.mem {P:Program} {G:Nat->U}:∀ {l:List (FuncId × Bool × (List U->Option U))},x9 P G l->∀ e∈l,Hf P G e
 | e::l,h,x,ag=>by
  rcases arI.1 ag with rfl | ag
  ·exact h.1
  ·exact x9.mem h.2 x ag
theorem WP {P:Program} {G:Nat->U}:x9 P G [] :=trivial
def dh (l:List Nat) :List U:=l.map fun n=>.int .u8 (.ofNat n)
def gS (l:List U) :List (List U) :=l.map fun c=>[c]
end Go.bJ

namespace Go.bJ
open Go Go.Proofs Go.Shelf Go.Sort Go.RowKit
def zU:U->Bool | .bool _=>true | .int _ _=>true | .str _=>true | _=>false
def valOf:U->Value | .bool b=>.bool b | .int k n=>.int k n | .str s=>.string ⟨s.toArray⟩ | _=>.bool false
theorem ai7 {w:World} {R:Nat->Prop} {h:aN} {μ:cu} {c:U} {v:Value} (aB:zU c=true) (ao:aO w R h μ c v) :v=valOf c:=by
 cases ao with
 | bool b=>rfl
 | int k n=>rfl
 | str bs=>obtain⟨⟨l⟩⟩:=bs; rfl
 | bad=>cases aB
 | _=>cases aB
theorem TZ {w:World} {R:Nat->Prop} {h:aN} {μ:cu} {c:U} (aB:zU c=true) :aO w R h μ c (valOf c) :=by
 cases c with
 | bool b=>exact .bool b
 | int k n=>exact .int k n
 | str s=>exact (.str ⟨s.toArray⟩:aO w R h μ (.str (ByteArray.mk s.toArray).data.toList) _)
 | _=>cases aB
theorem ME (c:U) :(valOf c).oneCell'=true:=by cases c<;>rfl
theorem XW {w W:World} {b o:Nat} (h:W.heap[b]? = w.heap[b]?) :W.cell? ⟨b,o,none⟩=w.cell? ⟨b,o,none⟩:=by simp[World.cell?,h]
theorem XX {w:World} {b o:Nat} {v:Value} (h:w.cell? ⟨b,o,none⟩=some v) :b<w.heap.size:=by
 apply Decidable.byContradiction;intro aD;simp only[World.cell?] at h;rw[arY (by omega)] at h;cases h
theorem ai6 {w W:World} {A:Nat->Prop} (cT:∀ k,A k->k<w.heap.size->W.heap[k]? = w.heap[k]?) {c:U} {v:Value} (ao:e3 w A c v) :e3 W A c v:=by
 unfold e3 at ao ⊢;generalize aM:aN.empty=aE at ao ⊢;generalize hm:(fun _=>none:cu)=qQ at ao ⊢;have oV:∀ {b o:Nat} {v:Value},Cell w A aE qQ b o v->Cell W A aE qQ b o v:=fun {b o v} k=>⟨(XW (cT b k.ro (XX k.here))).trans k.here,k.one,k.ro,k.free⟩
 induction ao with
 | bool b=>exact .bool b
 | int k n=>exact .int k n
 | str bs=>exact .str bs
 | iN=>exact .iN
 | aX=>exact .aX
 | hh=>exact .hh
 | iL=>exact .iL
 | iM=>exact .iM
 | aI cs vs ak h1 ao aJ=>exact .aI cs vs ak h1 aJ
 | bu cs vs ak ao aJ=>exact .bu cs vs ak aJ
 | ptr b off sz cs m af h6=>subst hm; cases h6
 | l2 b off sz a au=>exact .l2 b off sz a au
 | b5 cs off blk o dH ah ao aJ=>exact .b5 cs off blk o dH (fun j ai=>oV (ah j ai)) aJ
 | ar z b off len cap sz cap' cs m af h6 ak aq ah=>subst hm; cases h6
 | ga z b off len cap sz cap' a ak ah au=>exact .ga z b off len cap sz cap' a ak ah au
 | hl z b off sz a cs m af h6=>subst hm; cases h6
 | b0 z es blk off cap dH ak av ah ao aJ=>exact .b0 z es blk off cap dH ak av (fun i j ax ai=>oV (ah i j ax ai)) aJ
 | fe z a cap=>exact .fe z a cap
 | fn f first fu fs cs aA ah h1 ad dO ln=>exact .fn f first fu fs cs aA ah dO ln
 | mp b m af h6=>subst hm; cases h6
 | it b m af h6=>subst hm; cases h6
 | fD t c v ao aJ=>exact .fD t c v aJ
 | lD l=>exact .lD l
 | bad v=>exact .bad v
theorem Xr {W w' : World} (h:yb W w') :∃ q os,w'=grow (W.drewN q) os:=by
 refine⟨w'.drawn - W.drawn,w'.heap.extract W.heap.size,?_⟩;have br:=h.drawn;have al:=h.size;obtain⟨E4,aim,H9,Lf,afA⟩:=w';obtain⟨heap,tape,drawn,os,out⟩:=W;have aR:Lf=os:=h.os;have bI:aim=tape:=h.tape;have dJ:afA=out:=h.output;subst aR bI dJ;have kB:E4=heap++E4.extract heap.size:=by
  apply Array.ext_getElem?;intro k;rw[Array.getElem?_append];split
  ·rename_i hk;exact h.block k hk
  ·rename_i hk;rw[Array.getElem?_extract];have ru:heap.size<=E4.size:=al;by_cases lP:k<E4.size
   ·rw[if_pos (by omega),show heap.size+(k - heap.size)=k by omega]
   ·rw[if_neg (by omega),arY (by omega)]
 have Ie:H9=drawn+(H9 - drawn) :=by
  have:drawn<=H9:=br;omega
 unfold grow World.drewN;simp only;rw[<-kB,<-Ie]
def Hl (P:Program) (f g:FuncId) (k:Nat) {X:Type} [Inhabited X] (cn:X->List Value) (hp:X->X->Int) :Prop:=
 ∀ (blk off cap:Nat) (d:Array X) (w:World),CmpLays P g #[] cn k hp blk off d.size w->HoldsK cn k w blk off d->blk<w.heap.size->d.size<4611686018427387904->
  Calls P f #[.slice (some ⟨blk,off,none⟩) d.size cap,.func (.func g) #[] #[]] w fun e w'=>e=.returned (.tuple #[])/\∃ pS n os,PermIn 0 d.size d pS/\SortedIn (ltOf hp) 0 d.size pS/\w'=sortWorldK cn k w blk off n pS os
def sorted {X:Type} (hp:X->X->Int) (xs:List X) :List X:=xs.mergeSort fun x y=>!ltOf hp y x
theorem U6 {X:Type} (hp:X->X->Int) (xs:List X) :(sorted hp xs).length=xs.length:=List.length_mergeSort _
section
variable {P:Program} {G:Nat->U} {X:Type} {enc:X->List U} {k:Nat}
theorem C0 (hk:∀ x,(enc x).length=k) (xs:List X) {j:Nat} (ai:j<xs.length*k) :∃ x c,xs[j / k]? = some x/\(enc x)[j % k]? = some c/\((xs.map enc).flatten)[j]? = some c:=by
 have wS:0<k:=Nat.pos_of_ne_zero fun h=>by subst h; simp at ai
 have h1:j / k<xs.length:=Nat.div_lt_of_lt_mul (by rw[ato]; exact ai);have ad:j % k<k:=asn _ wS;refine⟨xs[j / k],(enc xs[j / k])[j % k]'(by rw[hk]; exact ad),aqu h1,aqu _,?_⟩;have aj:(xs.map enc)[j / k]? = some (enc xs[j / k]) :=by rw[aqx,aqu h1]; rfl
 have aC:=Ek (z:=k) (fun e ap=>by obtain⟨x,_,rfl⟩:=aqR.1 ap; exact hk x) aj ad;rw[ato,Nat.div_add_mod] at aC;rw[aC];exact aqu _
theorem PP [Inhabited X] (hk:∀ x,(enc x).length=k) (xs:List X) {j:Nat} (ai:j<xs.length*k) {c:U} (ah:((xs.map enc).flatten)[j]? = some c) :(flatK (fun x=>(enc x).map valOf) k xs.toArray)[j]! = valOf c:=by
 obtain⟨x,c',h1,ad,aj⟩:=C0 hk xs ai;rw[aj] at ah; cases ah;rw[get_flatK _ _ _ _ (by simpa using ai)];have aC:xs.toArray[j / k]! = x:=by
  have aL:=(aqr.1 h1).1;rw[getElem!_pos _ _ (by simpa using aL)];simpa using (aqr.1 h1).2
 rw[aC];obtain⟨aZ,bx⟩:=aqr.1 ad;rw[getElem!_pos _ _ (by simpa using aZ)];simp[bx]
theorem ahU [Inhabited X] {f g b off len cap sz:Nat} {cs:List U} {xs:List X} {h:aN} (hp:X->X->Int) (ec:Hl P f g k (fun x=>(enc x).map valOf) hp) (fh:SWO (ltOf hp)) (Jc:∀ x y,ltOf hp x y=false->ltOf hp y x=false->x=y)
  (hk:∀ x,(enc x).length=k) (aB:∀ x,∀ c∈enc x,zU c=true) (sT:∀ x y,bi P G g [.aI (enc x),.aI (enc y)] (.int .i64 (hp x y)))
  (af:h.f b=.cells sz cs) (bc:xs.length=len) (h1:0<len) (rc:len<4611686018427387904) (cp:(cs.drop off).take (len*k)=(xs.map enc).flatten) (fl:off+len*k<=sz) :
  r8 P G f [.ar k b off len cap sz,.fn g [] []] h (.bu []) (h.set b (.cells sz (bn cs off ((sorted hp xs).map enc).flatten))) :=by
 intro R B w μ vs rel Es ak ao;obtain⟨nC⟩:=vs
 match nC,ak with
 | [v0,ff],_=>
 have ii:=ao 0 _ v0 rfl rfl;have lV:=ao 1 _ ff rfl rfl;have ac6:¬ tS h b sz:=by
  rintro (aE | ⟨n,m5,aE,ad⟩)
  ·rw[af] at aE; cases aE
  ·rw[af] at aE; cases aE; omega
 cases lV with
 | fn _ _ _ fs sB aA ah _ _=>
 have p8:fs=#[] :=asj aA;have jk:sB=#[] :=asj ah;subst p8 jk;cases ii with
 | ga _ _ _ _ _ _ _ _ _ _ au=>exact absurd au ac6
 | hl=>omega
 | ar _ _ _ _ _ _ cap' m5 m ka hm n4 aq cF=>
 rw[af] at ka; cases ka;have hblk:=rel.blk b m hm;rw[af] at hblk;obtain⟨di,dW,arr,e,fH,ay,dt,lc,iB⟩:=hblk;have kb:live (h.f b)=true:=by rw[af]; rfl
 have iE:kS h μ m.r:=⟨b,m,kb,hm,rfl⟩
 have JE:=rel.lt kb hm;have n3:∀ j,j<len*k->∃ c,((xs.map enc).flatten)[j]? = some c/\cs[off+j]? = some c/\zU c=true:=by
  intro j ai;obtain⟨x,c,aF,aQ,aW⟩:=C0 hk xs (by rw[bc]; exact ai);refine⟨c,aW,?_,aB x c (aqI aQ)⟩;rw[<-cp,aqY ai,aq3] at aW;exact aW
 have hH:HoldsK (fun x=>(enc x).map valOf) k w m.r (m.s+off) xs.toArray:=by
  intro j ai;rw[size_flatK] at ai;have e4:j<len*k:=by simpa [bc] using ai
  obtain⟨c,aF,aQ,aW⟩:=n3 j e4;obtain⟨v,bd,bh,cc⟩:=iB (off+j) c aQ;have aL:m.s+off+j<arr.size:=by
   have:=(aqX.1 bd).1;omega
  constructor
  ·simp only[World.cell?,ay,asi];rw[PP hk xs (by rw[bc]; exact e4) aF,<-ai7 aW cc,ar0];exact bd
  ·simp only[World.frozen?,ay];rcases lc with aE | aE
   ·subst aE; simp
   ·simp; intro aj; omega
 have rk:CmpLays P g #[] (fun x=>(enc x).map valOf) k hp m.r (m.s+off) xs.toArray.size w:=by
  intro n os YA y0 x y;obtain⟨W,dr⟩:∃ W,W=sortWorldK (fun x=>(enc x).map valOf) k w m.r (m.s+off) n YA os:=⟨_,rfl⟩
  have aaE:∀ i,i≠m.r->i<w.heap.size->W.heap[i]? = w.heap[i]?:=by
   intro i ax aL;rw[dr];show (((w.heap.modify m.r _)++os))[i]? = _;rw[arv (by simpa using aL),ast,if_neg (fun h=>ax h.symm)]
  rw[<-dr];have cT:∀ i,(R i/\¬ kS h μ i)->i<w.heap.size->W.heap[i]? = w.heap[i]?:=fun i ax aL=>aaE i (fun ap=>ax.2 (by rw[ap]; exact iE)) aL
  have key:=sT x y W (fun i=>R i/\¬ kS h μ i) #[.agg ((enc x).map valOf).toArray,.agg ((enc y).map valOf).toArray] (fun Qh=>ai6 cT (wc (Es Qh).2 (Es Qh).1)) rfl (fun j c v ai eZ=>by
   have one:∀ z:X,e3 W (fun i=>R i/\¬ kS h μ i) (.aI (enc z)) (.agg ((enc z).map valOf).toArray) :=fun z=>by
    refine .aI _ _ (by simp) (fun i v ax=>?_) (fun i c v ax Rz=>?_)
    ·simp only[asR,aqx,asL] at ax;obtain⟨c,_,rfl⟩:=ax;exact ME c
    ·simp only[asR,aqx,asL] at Rz;obtain⟨c',aj,rfl⟩:=Rz;rw[ax] at aj; cases aj;exact TZ (aB z c (aqI ax))
   match j with
   | 0=>simp at ai eZ; subst ai eZ; exact one x
   | 1=>simp at ai eZ; subst ai eZ; exact one y
   | j+2=>simp at ai)
  refine key.mono ?_;rintro e w' ⟨v,rfl,fV,nl⟩;obtain⟨q,Lf,rfl⟩:=Xr fV;cases nl;exact⟨rfl,q,Lf,rfl⟩
 have o4:=ec m.r (m.s+off) cap' xs.toArray w rk hH JE (by simpa [bc] using rc);have pi:((xs.toArray.size:Nat) :Int)=(len:Int) :=by simp[bc]
 rw[show (xs.toArray.size)=len by simp[bc]] at o4;refine o4.mono ?_;rintro eY w' ⟨rfl,pS,n,os,k6,jC,rfl⟩;have o6:pS.toList=sorted hp xs:=by
  have:=sorted_unique_holds fh Jc xs.toArray pS (by simpa [bc] using k6) (by simpa [bc] using jC);simpa [sorted] using this
 obtain⟨a1,Ce⟩:∃ a1,a1=sorted hp xs:=⟨_,rfl⟩
 rw[<-Ce] at o6 ⊢;have df:a1.length=len:=by rw[Ce,U6,bc]
 have Jk:pS=a1.toArray:=by rw[<-o6]
 subst Jk;have fj:((a1.map enc).flatten).length=len*k:=by
  have:∀ l:List X,((l.map enc).flatten).length=l.length*k:=fun l=>by
   induction l with
   | nil=>simp
   | cons a l aJ=>simp only[aqP,aro,aqA,aJ,hk,aqH]; rw[ara]; omega
  rw[this,df]
 obtain⟨bS,jH⟩:∃ bS,bS=putRowK (fun x=>(enc x).map valOf) k (Sort.ahead w n) m.r (m.s+off) a1.toArray:=⟨_,rfl⟩
 have jl:bS.heap=w.heap.modify m.r (onCells (putCells id (m.s+off) (flatK (fun x=>(enc x).map valOf) k a1.toArray))) :=by rw[jH]; rfl
 have E1:off<=cs.length:=by omega
 obtain⟨fB,pu⟩:=rel.write (w':=bS) (sz':=sz) (cs':=bn cs off ((a1.map enc).flatten)) (arr':=putCells id (m.s+off) (flatK (fun x=>(enc x).map valOf) k a1.toArray) arr) af hm ay dt lc (by rw[jH]; rfl) (by rw[jH]; rfl) (by rw[jH]; rfl) (by rw[jl]; simp)
  (by rw[jl,ast,if_pos rfl,ay]; rfl) (fun i ax=>by rw[jl,ast,if_neg (fun h=>ax h.symm)]) (by simp[putCells])
  (by rw[r1 E1,fj]; omega) (aqv _) dW (fun j c ai=>by
   rw[L5 E1,fj] at ai;have eM:(putCells id (m.s+off) (flatK (fun x=>(enc x).map valOf) k a1.toArray) arr)[m.s+j]? = (arr[m.s+j]?).map fun x=>if m.s+off<=m.s+j/\m.s+j<m.s+off+(flatK (fun x=>(enc x).map valOf) k a1.toArray).size then (flatK (fun x=>(enc x).map valOf) k a1.toArray)[m.s+j - (m.s+off)]! else x:=by
    unfold putCells; rw[Array.getElem?_mapIdx]; rfl
   rw[size_flatK] at eM;by_cases y6:j<off
   ·rw[if_pos y6] at ai;obtain⟨v,bd,bh,cc⟩:=iB j c ai;refine⟨v,?_,bh,cc⟩;rw[eM,bd,aqy,if_neg (by omega)]
   ·rw[if_neg y6] at ai;by_cases jn:j<off+len*k
    ·rw[if_pos jn] at ai;have eN:j - off<len*k:=by omega
     obtain⟨gB,aF,aQ,aW⟩:=n3 (j - off) eN;rw[show off+(j - off)=j by omega] at aQ;obtain⟨v,bd,bh,cc⟩:=iB j gB aQ;obtain⟨x,ci,aR,bI,dJ⟩:=C0 hk a1 (j:=j - off) (by rw[df]; exact eN);rw[dJ] at ai; cases ai;refine⟨valOf c,?_,ME c,TZ (aB x c (aqI bI))⟩;rw[eM,bd,aqy,if_pos (by simp[df]; omega),show m.s+j - (m.s+off)=j - off by omega,PP hk a1 (by rw[df]; exact eN) dJ]
    ·rw[if_neg jn] at ai;obtain⟨v,bd,bh,cc⟩:=iB j c ai;refine⟨v,?_,bh,cc⟩;rw[eM,bd,aqy,if_neg (by simp[df]; omega)]) (by rw[jH]; exact Nat.le_add_right _ _)
 have Jf:yb bS (grow bS os) :=⟨⟨rfl,rfl,rfl,by simp[grow],fun i ax=>by simp only[grow]; rw[arv ax]⟩,aqv _⟩
 obtain⟨ux,rU⟩:=CX pu Jf;refine⟨_,μ,rfl,?_,?_,.bu [] #[] rfl (fun j c v ai _=>by simp at ai)⟩
 ·rw[jH] at fB ux; exact fB.trans ux
 ·rw[jH] at rU; exact rU
end

section
variable {P:Program} {G:Nat->U} {X:Type} {enc:X->List U} {k:Nat}
theorem UP {k:Nat}:∀ {es:List (List U)},(∀ e∈es,e.length=k)->es.flatten.length=es.length*k
 | [],_=>by simp
 | e::es,h=>by
  rw[aro,aqA,h e (by simp),UP (fun x ag=>h x (by simp[ag])),aqH,ara]; omega
theorem ahQ [Inhabited X] {f g:Nat} (hp:X->X->Int) (ec:Hl P f g k (fun x=>(enc x).map valOf) hp) (fh:SWO (ltOf hp)) (Jc:∀ x y,ltOf hp x y=false->ltOf hp y x=false->x=y)
  (hk:∀ x,(enc x).length=k) (aB:∀ x,∀ c∈enc x,zU c=true) (sT:∀ x y,bi P G g [.aI (enc x),.aI (enc y)] (.int .i64 (hp x y)))
  {l:am} {v:U} {j:Nat} {xs:List X} (iE:eJ k l v j (xs.map enc)) (rc:xs.length<4611686018427387904) {K:U->am->Prop}
  (aE:xs=[]->c2 P G f [v,.fn g [] []] l (c:=⟨K⟩))
  (aS:∀ l',l'.length=l.length->(∀ b,b≠j->l'[b]? = l[b]?)->eJ k l' v j ((sorted hp xs).map enc)->K (.bu []) l') :c2 P G f [v,.fn g [] []] l (c:=⟨K⟩) :=by
 cases xs with
 | nil=>exact aE rfl
 | cons x xs=>
 obtain⟨a1,Ce⟩:∃ a1,a1=x::xs:=⟨_,rfl⟩
 rw[<-Ce] at iE rc aS;have ke:0<a1.length:=by rw[Ce]; simp
 generalize iC:a1.map enc=es at iE;cases iE with
 | nil j=>rw[arB] at iC; rw[iC] at ke; simp at ke
 | ar j off n cap sz cs es af ak aD av ah cM cp=>
 subst iC;have rq:a1.length=n:=by simpa using aD
 have eu:n*k<=cap*k:=aqz _ ah;have eN:j<l.length:=(aqr.1 af).1;have al:=ahU (P:=P) (G:=G) (cap:=cap) hp ec fh Jc hk aB sT (h:=bK l) (lE.2 af) rq (by omega) (by omega) cp (by omega);rw[nF _ eN] at al;refine⟨_,_,.ext al,by simp,?_⟩;have eV:((sorted hp a1).map enc).length=n:=by rw[aqS,U6,rq]
 have cj:∀ e∈(sorted hp a1).map enc,e.length=k:=fun e ap=>by obtain⟨x,_,rfl⟩:=aqR.1 ap; exact hk x
 have fj:(((sorted hp a1).map enc).flatten).length=n*k:=by rw[UP cj,eV]
 have E1:off<=cs.length:=by omega
 refine aS _ (by simp) (fun b k8=>by rw[aqG (fun h=>k8 h.symm)]) ?_;refine .ar j off n cap sz _ _ (aqL eN) (by rw[r1 E1,fj]; omega) eV cj ah cM ?_;unfold bn;have h1:(List.take off cs).length=off:=by rw[aqM]; omega
 rw[aq4,ark (by omega),arx (by omega),aru,aqT (by omega),aqs (by omega)]
end

end Go.bJ

namespace Go.bJ
open Go
section
variable {P:Program} {l:am} {aw:Operand->U}
@[simp ↓] theorem aoY:bF P aw l (.tm none)=some (.mp l.length,l++[.map [] 0]) :=id rfl
@[simp ↓] theorem aoT (cA:TypeId) (zero:U) (ok:Bool) (m k:Operand) :bF P aw l (.xo cA zero ok m k)=da l (vi P l cA zero ok (aw m) (aw k)) :=id rfl
@[simp ↓] theorem ao0 (cA:TypeId) (m k x:Operand) :bF P aw l (.vl cA m k x)=(rH P l cA (aw m) (aw k) (aw x)).map fun l'=>(gX,l') :=id rfl
@[simp ↓] theorem aoS (x:Operand) :bF P aw l (.vf x)=da l (Cy l (aw x)) :=id rfl
@[simp ↓] theorem ao5 (x:Operand) :bF P aw l (.vA x)=zV l (aw x) :=id rfl
@[simp ↓] theorem ao3 (x:Operand) :bF P aw l (.vo x)=tn l (aw x) :=id rfl
@[simp ↓] theorem an6 (x:Option Operand) (v:U) (K:U->am->Prop) :dP (.tm x) v l K=K v l:=id rfl
@[simp ↓] theorem an1 (cA:TypeId) (zero:U) (ok:Bool) (m k:Operand) (v:U) (K:U->am->Prop) :dP (.xo cA zero ok m k) v l K=K v l:=id rfl
@[simp ↓] theorem an8 (cA:TypeId) (m k x:Operand) (v:U) (K:U->am->Prop) :dP (.vl cA m k x) v l K=K v l:=id rfl
@[simp ↓] theorem an0 (x:Operand) (v:U) (K:U->am->Prop) :dP (.vf x) v l K=K v l:=id rfl
@[simp ↓] theorem aod (x:Operand) (v:U) (K:U->am->Prop) :dP (.vA x) v l K=K v l:=id rfl
@[simp ↓] theorem aob (x:Operand) (v:U) (K:U->am->Prop) :dP (.vo x) v l K=K v l:=id rfl
end

section
variable {z:Nat} {l l' : am} {v:U} {j:Nat} {es:List (List U)}
theorem Hz (h:bG z l v j es) {by_:Nat} {x:U} {xs:List (List U)} (ag:c8 l z x=some (xs.flatten,xs.length)) (qq:∀ e∈xs,e.length=z) (aE:z≠0) (dz:by_≠0) (du:(es.length+xs.length)*by_<=cx) :
  ∃ a8 cP l',iR l z by_ v x=some (a8,l')/\bG z l' a8 cP (es++xs)/\l.length<=l'.length/\(∀ b,b<l.length->v=.aX\/b≠j->l'[b]? = l[b]?)/\(l.length<=cP\/(v≠.aX/\cP=j)\/a8=.aX)/\cq a8=(cq v&&xs.isEmpty) :=by
 by_cases ao:v=.aX
 ·subst ao;have ap:es=[] :=h.q.vn;subst ap;obtain⟨a8,cP,l1,h1,ad,aj,aC,aZ,bx⟩:=nK (.nil (z:=z) (l:=l) (l.length+1)) ag qq aE dz du;refine⟨a8,cP,l1,h1,ad,aj,fun b af _=>aC b af (by omega),?_,u5 bx⟩;rcases aZ with aZ | aZ
  ·exact .inl (by omega)
  ·exact .inl aZ
 ·obtain⟨a8,cP,l1,h1,ad,aj,aC,aZ,bx⟩:=nK h ag qq aE dz du;refine⟨a8,cP,l1,h1,ad,aj,fun b af aD=>aC b af (aD.resolve_left ao),?_,u5 bx⟩;rcases aZ with aZ | aZ
  ·exact .inr (.inl ⟨ao,aZ⟩)
  ·exact .inl aZ
theorem bG.cr (h:bG z l v j es) (aA:∀ b,b<l.length->b=j->l'[b]? = l[b]?) :bG z l' v j es:=h.frame fun ai=>aA j ai rfl
end

end Go.bJ

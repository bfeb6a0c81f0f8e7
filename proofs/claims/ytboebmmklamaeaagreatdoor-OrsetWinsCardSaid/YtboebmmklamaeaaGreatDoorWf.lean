/-
  The canonical machine, carried out on code without types (for calls without unknowns).
-/
import Derived.Test.YtboebmmklamaeaaGreatDoorWe
import Derived.OpenShut
import Derived.Shelf.SlSortCmp.InsertionK
import Derived.Sort.LotA
set_option linter.unusedVariables false
set_option linter.unusedSimpArgs false
set_option linter.unnecessarySimpa false
namespace Go.cj
open Go
def abJ (n:Nat) (h:aR) (p v:ae) :Option aR:=
 match p,v.cells with
 | .ptr b off sz,some vs=>match h.f b with
  | .cells m cs=>if m=sz/\vs.length=n/\off+n<=m then some (h.set b (.cells m (bU cs off vs))) else none
  | _=>none
 | _,_=>none
def A3 (h:aR) (z by_:Nat) (s:ae) (xs:List ae) (n:Nat) :Option (ae × aR) :=
 if n=0 then (match s with | .aZ | .bW .. | .ao ..=>some (s,h) | _=>none)
 else if z=0\/by_=0 then none else match s with
  | .aZ=>if n*by_<=cQ then some (.ao z h.n 0 n n (n*z),h.push (.cells (n*z) xs)) else none
  | .ao c9 b off len cap sz=>match h.f b with
   | .cells m cs=>
    if m=sz/\z=c9/\(len+n)*by_<=cQ then
     if len+n<=cap then some (.ao z b off (len+n) cap sz,h.set b (.cells m (bU cs (off+len*z) xs)))
     else if off+cap*z<sz then some (.ao z h.n 0 (len+n) (len+n) ((len+n)*z),h.push (.cells ((len+n)*z) ((cs.drop off).take (len*z)++xs)))
     else if off=0 then some (.ao z b 0 (len+n) (len+n) ((len+n)*z),h.set b (.cells ((len+n)*z) (cs.take (len*z)++xs)))
     else some (.ao z h.n 0 (len+n) (len+n) ((len+n)*z),(h.set b .dead).push (.cells ((len+n)*z) ((cs.drop off).take (len*z)++xs)))
    else none
   | _=>none
  | _=>none
def Sb (z:Nat) (h:aR) (d x:ae) :Option (ae × aR) :=
 match contents h z x with
 | none=>none
 | some (xs,n)=>match d with
  | .aZ=>some (.int .i64 0,h)
  | .ao c9 b off len _ sz=>match h.f b with
   | .cells m cs=>if m=sz/\z=c9 then some (.int .i64 ((min n len:Nat) :Int),h.set b (.cells m (bU cs off (xs.take (min n len*z))))) else none
   | _=>none
  | _=>none
def RT (zero:List ae) (h:aR) :ae->Option aR
 | .aZ=>some h
 | .bW _ []=>some h
 | .ao z b off len _ sz=>if len=0 then some h else match h.f b with
  | .cells m cs=>if m=sz/\zero.length=z then some (h.set b (.cells m (bU cs off (dd zero len)))) else none
  | _=>none
 | _=>none
def Xk (z by_:Nat) (zero:List ae) (h:aR) (l c:ae) :Option (ae × aR) :=match l,c with
 | .int _ l,.int _ c=>if 0<=l/\l<=c/\c<9223372036854775808/\by_*c<=cQ then
   some (.ao z h.n 0 l.toNat c.toNat (c.toNat*z),h.push (.cells (c.toNat*z) (dd zero c.toNat))) else none
 | _,_=>none
def RM (h:aR) (x:ae) :Option ae:=match x with
 | .aZ=>some (.str [])
 | .str _=>none
 | x=>match contents h 1 x with | some (cs,_)=>(lh cs).map .str | none=>none
def On (h:aR) (z by_:Nat) (s x:ae) :Option (ae × aR) :=match contents h z x with
 | none=>none
 | some (xs,n)=>A3 h z by_ s xs n
def Ou (h:aR) (z by_:Nat) (zero:List ae) (s x:ae) :Option (ae × aR) :=match x with
 | .int _ n=>if 0<=n/\n<9223372036854775808/\n.toNat*by_<=cQ then A3 h z by_ s (dd zero n.toNat) n.toNat else none
 | _=>none
def R0 (h:aR) (x y:ae) :Option ae:=match pU h x,pU h y with
 | some a,some b=>some (.int .i64 (lT a b))
 | _,_=>none
def aa0 (h:aR) (x:ae) :Option (ae × aR) :=match x with
 | .str s=>some (.it h.n,h.push (.iter s 0))
 | _=>none
def W2 (h:aR) (x:ae) :Option ae:=match x with
 | .gG=>some (.int .i64 0)
 | .mp b=>match h.f b with | .map es _=>some (.int .i64 es.length) | _=>none
 | _=>none
def W8 (P:Program) (h:aR) (cK:TypeId) (zero:ae) (ok:Bool) (m k:ae) :Option ae:=
 match mapOf h m with
 | some es=>match jI P cK k with
  | false=>none
  | true=>match ia P cK k es 0 with
   | some (some (_,v))=>some (if ok then .bP [v,.bool true] else v)
   | some none=>some (if ok then .bP [zero,.bool false] else zero)
   | none=>none
 | none=>none
def Xb (P:Program) (h:aR) (cK:TypeId) (m k v:ae) :Option aR:=
 match m with
 | .mp b=>match h.f b with
  | .map es dX=>match jI P cK k with
   | false=>none
   | true=>match ia P cK k es 0 with
    | some (some (i,_))=>some (h.set b (.map (es.modify i fun e=>(k,v,e.2.2)) dX))
    | some none=>some (h.set b (.map (es++[(k,v,dX)]) (dX+1)))
    | none=>none
  | _=>none
 | _=>none
def gm (h:aR) (x:Option ae) :Option (ae × aR) :=match x with | some v=>some (v,h) | none=>none
section
variable (P:Program)
def z1 (aB:Operand->ae) (h:aR) :a2->Option (ae × aR)
 | .ap x=>some (aB x,h)
 | .pick c a b=>gm h (Ah (aB c) (aB a) (aB b))
 | .alloc zero=>some (.ptr h.n 0 zero.length,h.push (.cells zero.length zero))
 | .box x=>match (aB x).cells with | some cs=>some (.ptr h.n 0 cs.length,h.push (.cells cs.length cs)) | none=>none
 | .dW zero cy=>gm h ((nA zero (cy.map fun p=>(p.1,p.2.1,aB p.2.2))).map .aV)
 | .cL z zero len cy=>match gB (fun i=>some (i*z,z)) (dd zero len) (cy.map fun p=>(p.1,aB p.2)) with | some cs=>some (.ao z h.n 0 len len (len*z),h.push (.cells (len*z) cs)) | none=>none
 | .ld1 a=>gm h (match reach h (aB a) with | some (cs,o)=>cs[o]? | none=>none)
 | .aX n a=>gm h (match reach h (aB a) with | some (cs,o)=>qO n cs o | none=>none)
 | .st n a x=>match abJ n h (aB a) (aB x) with | some h'=>some (gp,h') | none=>none
 | .lG x=>gm h (vB (aB x))
 | .bin o t x y=>gm h (fw P o t (aB x) (aB y))
 | .un o x=>gm h (ot o (aB x))
 | .ct k x=>gm h (yB k (aB x))
 | .wt x=>gm h (Bs (aB x))
 | .rq x=>gm h (RM h (aB x))
 | .pY x=>gm h (s3 (aB x))
 | .se t x=>some (.fK t (aB x),h)
 | .xW t z ok x=>gm h (xX t z ok (aB x))
 | .pm f a b=>some (.fn f (a.map aB) (b.map aB),h)
 | .kZ z by_ zero a c=>Xk z by_ zero h (aB a) (aB c)
 | .slice c6 x cP aA cB=>gm h (fu c6 (aB x) (cP.map aB) (aA.map aB) (cB.map aB))
 | .aN off x=>gm h (lS (aB x) off)
 | .wE off x=>gm h (yT off (aB x))
 | .wF n off x=>gm h (wG n off (aB x))
 | .bf c6 x i=>gm h (cU c6 (aB x) (aB i))
 | .vt n z x i=>gm h (zS n z (aB x) (aB i))
 | .zR n z x i=>gm h (zT n z (aB x) (aB i))
 | .pb x i=>gm h (vu (aB x) (aB i))
 | .ext x i=>gm h (yS (aB x) i)
 | .len c6 x=>gm h (db c6 (aB x))
 | .cap c6 x=>gm h (rp c6 (aB x))
 | .app z by_ s x=>On h z by_ (aB s) (aB x)
 | .pQ z by_ zero s x=>Ou h z by_ zero (aB s) (aB x)
 | .s2 z d x=>Sb z h (aB d) (aB x)
 | .oH zero x=>match RT zero h (aB x) with | some h'=>some (.bP [],h') | none=>none
 | .min x y=>gm h (xw (aB x) (aB y))
 | .max x y=>gm h (sd (aB x) (aB y))
 | .pn x=>match x with
  | none=>some (.mp h.n,h.push (.map [] 0))
  | some o=>match asInt (aB o) with | some _=>some (.mp h.n,h.push (.map [] 0)) | none=>none
 | .sa cK zero ok m k=>gm h (W8 P h cK zero ok (aB m) (aB k))
 | .qG cK m k x=>match Xb P h cK (aB m) (aB k) (aB x) with | some h'=>some (gp,h') | none=>none
 | .tN x=>gm h (W2 h (aB x))
 | .sr x=>aa0 h (aB x)
 | .sh x=>xy h (aB x)
 | .cG f p3 x y=>match zP f (aB p3) with | true=>gm h (R0 h (aB x) (aB y)) | false=>none
 | .stop=>none
end
def nd (r:ae->Option ae) :List ae->Option (List ae)
 | []=>some []
 | c::cs=>match r c with
  | some c'=>match nd r cs with
   | some cs'=>some (c'::cs')
   | none=>none
  | none=>none
def sp (h:aR) :Nat->ae->Option ae
 | 0,_=>none
 | d+1,c=>match c with
  | .aV cs=>match nd (sp h d) cs with | some cs'=>some (.aV cs') | none=>none
  | .bP cs=>match nd (sp h d) cs with | some cs'=>some (.bP cs') | none=>none
  | .ao z b off len cap sz=>match Nat.beq len 0 with
   | true=>some (.bW z [])
   | false=>match h.f b with
    | .cells n cs=>match Nat.beq n sz&&Nat.ble (off+len*z) cs.length with
     | true=>match nd (sp h d) ((cs.drop off).take (len*z)) with
      | some xs=>some (.bW z (kf z len xs))
      | none=>none
     | false=>none
    | _=>none
  | .ptr b off sz=>match h.f b with
   | .cells n cs=>match Nat.beq n sz with
    | true=>match nd (sp h d) cs with | some cs'=>some (.cp cs' off) | none=>none
    | false=>none
   | _=>none
  | c=>match c.closed with | true=>some c | false=>none
def OC (x:ae) :Option Int:=match x with
 | .int k i=>match k with | .i64=>some i | _=>none
 | _=>none
def l7 (z:Nat) (cs vs:List ae) (i len:Nat) :List ae:=cs.take (i*z)++vs++(cs.drop (i*z)).take ((len - i)*z)++cs.drop ((len+1)*z)
def zN (z by_:Nat) (h:aR) (s:ae) (i:Nat) (gJ:Nat) (vs:List ae) :Option (ae × aR) :=match s with
 | .aZ=>if i=0/\by_<=cQ then some (.ao z h.n 0 1 1 z,h.push (.cells z vs)) else none
 | .ao k7 b off len cap sz=>match h.f b with
  | .cells m cs=>if m=cap*z/\sz=cap*z/\k7=z/\off=0/\gJ≠b/\i<=len/\len<=cap/\(len+1)*by_<=cQ then
    some (.ao z h.n 0 (len+1) (max cap (len+1)) (max cap (len+1)*z),(h.set b .dead).push (.cells (max cap (len+1)*z) (l7 z cs vs i len))) else none
  | _=>none
 | _=>none
def r3 (z by_:Nat) (args:List ae) (h:aR) :Option (ae × aR) :=match args with
 | [s,x,y]=>match OC x,y with
  | some i,.ao h5 gJ mb ce dm lK=>match h.f gJ with
   | .cells iF vs=>if h5=z/\mb=0/\ce=1/\dm=1/\lK=z/\iF=z/\0<=i then zN z by_ h s i.toNat gJ vs else none
   | _=>none
  | _,_=>none
 | _=>none
class oC (P:Program) (G:Nat->ae) where
 get:FuncId->Option (Nat × Nat)
 ok:∀ f z by_,get f=some (z,by_)->∀ args h r h',r3 z by_ args h=some (r,h')->q7 P G f args h r h'
instance (priority:=10) avQ (P:Program) (G:Nat->ae) :oC P G:=⟨fun _=>none,fun f z by_ h=>by cases h⟩
abbrev mm:=FuncId->List ae->aR->Option (ae × aR)
abbrev Ej:=Option (pK × fW × aR)
mutual
def bv.beq:bv->bv->Bool
 | .none,y=>match y with | .none=>true | _=>false
 | .dead,y=>match y with | .dead=>true | _=>false
 | .cells n cs,y=>match y with | .cells f3 cs'=>Nat.beq n f3&&eO cs cs' | _=>false
 | .map ..,_=>false
 | .iter ..,_=>false
end
section
variable (P:Program) (G:Nat->ae)
def BP (s:fW) (g:Option (Option Tmp × Bool)) :Option Bool:=match g with
 | none=>some true
 | some (some d,w)=>match look s d with
  | .bool b=>some (b == w)
  | .bad=>none
  | _=>some false
 | some (none,_)=>some false
def yo (call:mm) (b:oy) (s:fW) (h:aR) :Option (ae × aR) :=match b with
 | .cF m=>z1 P (cT G (look s)) h m
 | .cV f args=>call f (args.map (cT G (look s))) h
 | .gw x args=>match cT G (look s) x with
  | .fn g first e6=>match iU P g with
   | true=>call g (first++args.map (cT G (look s))++e6) h
   | false=>none
  | _=>none
 | .mx x name args=>match cT G (look s) x with
  | .fK t v=>match vA P t name with
   | some g=>match iU P g with
    | true=>call g (v::args.map (cT G (look s))) h
    | false=>none
   | none=>none
  | _=>none
def Az (call:mm) :List dJ->fW->aR->Option (fW × aR)
 | [],s,h=>some (s,h)
 | x::r,s,h=>match BP s x.g with
  | some true=>match yo P G call x.b s h with
   | some (v,h')=>Az call r (Al s x.dst v) h'
   | none=>none
  | some false=>Az call r (Al s x.dst gp) h
  | none=>none
def DT (b:oy) (s:fW) (v:ae) (h h' h1:aR) :Bool:=match b with
 | .cF m=>match m.hB with
  | true=>bv.beq (h1.f h.n) (h'.f h.n)
  | false=>match m.looks with
   | true=>match z1 P (cT G (look s)) h1 m with
    | some (bc,_)=>ae.beq bc v
    | none=>false
   | false=>false
 | _=>true
def Bk (ids:List Nat) (h:aR) :List (Nat × (aR->Bool))->Bool
 | []=>true
 | e::r=>(!ids.contains e.1||e.2 h)&&Bk ids h r
def Ay (call:mm) :List dJ->fW->aR->List (Nat × (aR->Bool))->Option (fW × aR)
 | [],s,h,_=>some (s,h)
 | x::r,s,h,seen=>match BP s x.g with
  | some true=>match yo P G call x.b s h with
   | some (v,h')=>match Bk x.ht h' seen with
    | true=>Ay call r (Al s x.dst v) h' (match x.cM with | true=>(x.i,DT P G x.b s v h h') ::seen | false=>seen)
    | false=>none
   | none=>none
  | some false=>Ay call r (Al s x.dst gp) h seen
  | none=>none
def RN (call:mm) (aM:aT->fW->aR->Ej) (c:aT) (s:fW) (h:aR) :Ej:=
 match c with
 | .skip=>some (.normal,s,h)
 | .ret=>some (.ret,s,h)
 | .exit id=>some (.exit id,s,h)
 | .ai x=>match Az P G call x s h with
  | some (dx,h1)=>some (.normal,dx,h1)
  | none=>none
 | .gy x=>match Ay P G call x s h [] with
  | some (dx,h1)=>some (.normal,dx,h1)
  | none=>none
 | .seq a b=>match aM a s h with
  | some (.normal,dx,h1)=>aM b dx h1
  | r=>r
 | .cond c x y=>match cT G (look s) c with
  | .bool true=>aM x s h
  | .bool false=>aM y s h
  | _=>none
 | .block id c=>match aM c s h with
  | some (.exit qx,dx,h1)=>match Nat.beq qx id with
   | true=>some (.normal,dx,h1)
   | false=>some (.exit qx,dx,h1)
  | r=>r
 | .loop c=>match aM c s h with
  | some (.normal,dx,h1)=>aM (.loop c) dx h1
  | r=>r
def Bi (call:mm) :Nat->aT->fW->aR->Ej
 | 0=>fun _ _ _=>none
 | k+1=>RN P G call (Bi call k)
def Av (s:fW) (h:aR) :List a2->List ae->Option ae
 | [],acc=>some (uj acc)
 | m::r,acc=>match z1 P (cT G (look s)) h m with
  | some (v,_)=>Av s h r (acc++[v])
  | none=>none
abbrev nt:=FuncId->Option (Bool × (List ae->Option ae))
abbrev sG:=FuncId->Option (aT × List a2)
def EC (orc:nt) (f:FuncId) (args:List ae) (h:aR) :Option ae:=
 match orc f with
 | some (n,g)=>match nd (sp h 20) args with
  | some hk=>match g hk with
   | some r=>match n||r.flat with | true=>some r | false=>none
   | none=>none
  | none=>none
 | none=>none
def RK [oC P G] (orc:nt) (jN:sG) (fuel:Nat) (call:mm) :mm:=fun f args h=>
 match oC.get P G f with
 | some (z,by_)=>r3 z by_ args h
 | none=>match EC orc f args h with
 | some r=>some (r,h)
 | none=>match jN f with
  | none=>none
  | some (c,lJ)=>match Bi P G call fuel c (xD 0 .nil args) h with
   | some (.normal,fo,h')=>match Av P G fo h' lJ [] with | some r=>some (r,h') | none=>none
   | some (.ret,fo,h')=>match Av P G fo h' lJ [] with | some r=>some (r,h') | none=>none
   | _=>none
def yz [oC P G] (orc:nt) (jN:sG) (fuel:Nat) :Nat->mm
 | 0=>fun _ _ _=>none
 | k+1=>RK P G orc jN fuel (yz orc jN fuel k)
end
structure d3 (h:aR) (l:av) :Prop where
 n:h.n=l.length
 f:∀ b,h.f b=(bY l).f b
theorem d3.nil:d3 aR.empty [] :=⟨rfl,fun _=>rfl⟩
theorem d3.some {h:aR} {l:av} (r:d3 h l) {b:Nat} {c:bv} (al:h.f b=c) (aH:c≠.none) :l[b]? = some c:=by
 rw[r.f,np] at al;split at al
 ·rename_i c' h1; rw[h1,al]
 ·exact absurd al.symm aH
theorem d3.push {h:aR} {l:av} (r:d3 h l) (c:bv) :d3 (h.push c) (l++[c]) :=
 ⟨by rw[eK,r.n]; simp,fun b=>by rw[dH,<-lQ,dH,r.n,AV]; unfold bM; (split<;>first | rfl | exact r.f b)⟩
theorem d3.set {h:aR} {l:av} (r:d3 h l) {b:Nat} {uE:bv} (aj:l[b]? = Option.some uE) (c:bv) :d3 (h.set b c) (l.set b c) :=
 ⟨by rw[ef,r.n]; simp,fun bu=>by rw[dn,<-nq _ (fi aj),dn]; unfold bM; (split<;>first | rfl | exact r.f bu)⟩
section
variable {P:Program} {G:Nat->ae} {h h' : aR} {l:av}
theorem d3.reach (r:d3 h l) (p:ae) :reach h p=d1 l p:=by
 rw[<-MT];cases p<;>try rfl
 simp only[cj.reach,r.f]
theorem d3.contents (r:d3 h l) (z:Nat) (x:ae) :contents h z x=dj l z x:=by
 rw[<-yI];cases x<;>try rfl
 simp only[cj.contents,r.f]
theorem d3.mapOf (r:d3 h l) (x:ae) :mapOf h x=qE l x:=by
 cases x<;>try rfl
 rename_i b;simp only[cj.mapOf,qE,r.f,np];cases l[b]? with
 | none=>rfl
 | some c=>cases c<;>rfl
theorem d3.bytes (r:d3 h l) (x:ae) :pU h x=mw l x:=by
 cases x<;>simp only[pU,mw,r.contents]<;>rfl
theorem amo {x:Option ae} {v:ae} (ak:gm h x=some (v,h')) :x=some v/\h'=h:=by
 cases x with
 | none=>cases ak
 | some y=>cases ak; exact⟨rfl,rfl⟩
theorem vD (r:d3 h l) {x y:Option ae} {v:ae} (m1:x=y) (ak:gm h x=some (v,h')) :∃ l',dg l y=some (v,l')/\d3 h' l':=by
 obtain⟨rfl,rfl⟩:=amo ak;exact⟨l,by rw[<-m1]; rfl,r⟩
theorem Ov (r:d3 h l) {z by_ n:Nat} {s v:ae} {xs:List ae} (ak:A3 h z by_ s xs n=some (v,h')) :∃ l',hK l z by_ s xs n=some (v,l')/\d3 h' l':=by
 unfold A3 at ak;unfold hK;by_cases aH:n=0
 ·rw[if_pos aH] at ak ⊢;cases s<;>simp at ak ⊢<;>(obtain⟨rfl,rfl⟩:=ak; exact⟨l,⟨rfl,rfl⟩,r⟩)
 ·rw[if_neg aH] at ak ⊢;by_cases aO:z=0\/by_=0
  ·rw[if_pos aO] at ak; cases ak
  ·rw[if_neg aO] at ak ⊢;cases s<;>simp only at ak ⊢<;>try (cases ak; done)
   case aZ=>
    by_cases aD:n*by_<=cQ
    ·rw[if_pos aD] at ak ⊢; cases ak; exact⟨_,by rw[r.n],r.push _⟩
    ·rw[if_neg aD] at ak; cases ak
   case ao c9 b off len cap sz=>
    cases aj:h.f b<;>rw[aj] at ak<;>(try simp only at ak)<;>try (cases ak; done)
    rename_i m cs;have ar:=r.some aj (by simp);rw[ar];simp only;by_cases h1:m=sz/\z=c9/\(len+n)*by_<=cQ
    ·rw[if_pos h1] at ak ⊢;by_cases ag:len+n<=cap
     ·rw[if_pos ag] at ak ⊢; cases ak; exact⟨_,rfl,r.set ar _⟩
     ·rw[if_neg ag] at ak ⊢;by_cases aq:off+cap*z<sz
      ·rw[if_pos aq] at ak ⊢; cases ak; exact⟨_,by rw[r.n],r.push _⟩
      ·rw[if_neg aq] at ak ⊢;by_cases aK:off=0
       ·rw[if_pos aK] at ak ⊢; cases ak; exact⟨_,rfl,r.set ar _⟩
       ·rw[if_neg aK] at ak ⊢; cases ak; exact⟨_,by rw[r.n],(r.set ar _).push _⟩
    ·rw[if_neg h1] at ak; cases ak
theorem J6 (r:d3 h l) {aB:Operand->ae} {m:a2} {v:ae} (ak:z1 P aB h m=some (v,h')) :∃ l',bR P aB l m=some (v,l')/\d3 h' l':=by
 cases m<;>simp only[z1] at ak<;>simp only[bR]
 case ap=>cases ak; exact⟨l,rfl,r⟩
 case alloc=>cases ak; exact⟨_,by rw[r.n],r.push _⟩
 case box x=>
  cases al:(aB x).cells with
  | none=>rw[al] at ak; cases ak
  | some cs=>rw[al] at ak; cases ak; exact⟨_,by simp only[Option.map_some,r.n],r.push _⟩
 case cL z zero n cy=>
  split at ak
  ·rename_i cs al; cases ak; exact⟨_,by rw[al]; simp only[Option.map_some,r.n],r.push _⟩
  ·cases ak
 case ld1 a=>
  rw[r.reach] at ak;refine vD r ?_ ak;cases d1 l (aB a)<;>rfl
 case aX n a=>
  rw[r.reach] at ak;refine vD r ?_ ak;cases d1 l (aB a)<;>rfl
 case st n a x=>
  unfold abJ at ak;unfold je;cases aI:aB a<;>rw[aI] at ak<;>(try simp only at ak)<;>try (cases ak; done)
  rename_i b off sz;cases al:(aB x).cells with
  | none=>rw[al] at ak; cases ak
  | some vs=>
   rw[al] at ak;simp only at ak ⊢;cases aj:h.f b<;>rw[aj] at ak<;>(try simp only at ak)<;>try (cases ak; done)
   rename_i m cs;have ar:=r.some aj (by simp);rw[ar];simp only;by_cases h1:m=sz/\vs.length=n/\off+n<=m
   ·rw[if_pos h1] at ak ⊢; cases ak; exact⟨_,rfl,r.set ar _⟩
   ·rw[if_neg h1] at ak; cases ak
 case se=>cases ak; exact⟨l,rfl,r⟩
 case pm=>cases ak; exact⟨l,rfl,r⟩
 case kZ z by_ zero a c=>
  unfold Xk at ak;unfold po;cases aI:aB a<;>rw[aI] at ak<;>(try simp only at ak)<;>try (cases ak; done)
  cases al:aB c<;>rw[al] at ak<;>(try simp only at ak)<;>try (cases ak; done)
  simp only;split at ak
  ·rename_i h1; rw[if_pos h1]; cases ak; exact⟨_,by rw[r.n],r.push _⟩
  ·cases ak
 case rq x=>
  refine vD r ?_ ak;unfold RM sU;cases aB x<;>simp only[r.contents]<;>rfl
 case app z by_ s x=>
  unfold On at ak;unfold iR;rw[r.contents] at ak;split at ak
  ·cases ak
  ·rename_i xs n al; rw[al]; exact Ov r ak
 case pQ z by_ zero s x=>
  unfold Ou at ak;unfold oF;cases al:aB x<;>rw[al] at ak<;>(try simp only at ak)<;>try (cases ak; done)
  simp only;split at ak
  ·rename_i h1; rw[if_pos h1]; exact Ov r ak
  ·cases ak
 case s2 z d x=>
  unfold Sb at ak;unfold ws;rw[r.contents] at ak;split at ak
  ·cases ak
  ·rename_i xs n al;rw[al];simp only;cases bD:aB d<;>rw[bD] at ak<;>(try simp only at ak)<;>try (cases ak; done)
   ·cases ak; exact⟨l,rfl,r⟩
   ·rename_i c9 b off len cap sz;cases aj:h.f b<;>rw[aj] at ak<;>(try simp only at ak)<;>try (cases ak; done)
    rename_i m cs;have ar:=r.some aj (by simp);simp only[ar];split at ak
    ·rename_i h1; rw[if_pos h1]; cases ak; exact⟨_,rfl,r.set ar _⟩
    ·cases ak
 case oH zero x=>
  unfold RT at ak;unfold pW;cases bD:aB x<;>rw[bD] at ak<;>(try simp only at ak)<;>try (cases ak; done)
  ·cases ak; exact⟨l,rfl,r⟩
  ·rename_i z b off len cap sz;simp only;by_cases aO:len=0
   ·rw[if_pos aO] at ak ⊢; cases ak; exact⟨l,rfl,r⟩
   ·rw[if_neg aO] at ak ⊢;cases aj:h.f b<;>rw[aj] at ak<;>(try simp only at ak)<;>try (cases ak; done)
    rename_i m cs;have ar:=r.some aj (by simp);rw[ar];simp only;by_cases h1:m=sz/\zero.length=z
    ·rw[if_pos h1] at ak ⊢; cases ak; exact⟨_,rfl,r.set ar _⟩
    ·rw[if_neg h1] at ak; cases ak
  ·rename_i z es;cases es<;>simp only at ak
   ·cases ak; exact⟨l,rfl,r⟩
   ·cases ak
 case pn x=>
  cases x with
  | none=>cases ak; exact⟨_,by rw[r.n],r.push _⟩
  | some o=>
   simp only at ak ⊢;split at ak
   ·rename_i n aH; rw[aH]; cases ak; exact⟨_,by simp only[r.n],r.push _⟩
   ·cases ak
 case sa cK zero ok m k=>
  refine vD r ?_ ak;unfold W8 tO;rw[r.mapOf];split
  ·rename_i es ie; rw[ie]; rfl
  ·rename_i ie; rw[ie]
 case qG cK m k x=>
  unfold Xb at ak;unfold qF;cases hm:aB m<;>rw[hm] at ak<;>(try simp only at ak)<;>try (cases ak; done)
  rename_i b;simp only;cases aj:h.f b<;>rw[aj] at ak<;>(try simp only at ak)<;>try (cases ak; done)
  rename_i es dX;have ar:=r.some aj (by simp);rw[ar];simp only;cases aF:jI P cK (aB k)<;>rw[aF] at ak<;>simp only at ak
  ·cases ak
  ·simp only;cases aJ:ia P cK (aB k) es 0 with
   | none=>rw[aJ] at ak; cases ak
   | some q=>
    rw[aJ] at ak;cases q with
    | none=>cases ak; exact⟨_,rfl,r.set ar _⟩
    | some r6=>cases ak; exact⟨_,rfl,r.set ar _⟩
 case tN x=>
  refine vD r ?_ ak;unfold W2 zY;cases aB x<;>try rfl
  rename_i b;simp only[r.f,np];cases l[b]? with
  | none=>rfl
  | some c=>cases c<;>rfl
 case sr x=>
  unfold aa0 at ak;unfold xN;cases bD:aB x<;>rw[bD] at ak<;>(try simp only at ak)<;>try (cases ak; done)
  cases ak; exact⟨_,by simp only[r.n],r.push _⟩
 case sh x=>
  unfold xy at ak;unfold sg;cases bD:aB x<;>rw[bD] at ak<;>(try simp only at ak)<;>try (cases ak; done)
  rename_i b;simp only;cases aj:h.f b<;>rw[aj] at ak<;>(try simp only at ak)<;>try (cases ak; done)
  have ar:=r.some aj (by simp);rw[ar];simp only;split at ak
  ·rename_i h1; rw[h1]; cases ak; exact⟨_,rfl,r.set ar _⟩
  ·rename_i h1; rw[h1]; cases ak; exact⟨_,rfl,r⟩
 case stop=>cases ak
 case cG f p3 x y=>
  split at ak
  ·rename_i h1;rw[h1];refine vD r ?_ ak;unfold R0 cmpL;rw[r.bytes,r.bytes];cases mw l (aB x)<;>cases mw l (aB y)<;>rfl
  ·cases ak
 all_goals exact vD r rfl ak
theorem qT {f:ae->Option ae}:∀ {cs cs' : List ae},nd f cs=some cs'->cs'.length=cs.length
 | [],cs',h=>by cases h; rfl
 | c::cs,cs',h=>by
  unfold nd at h;split at h
  ·split at h
   ·rename_i h1; cases h; simp[qT h1]
   ·cases h
  ·cases h
theorem qS {f:ae->Option ae}:∀ {cs cs' : List ae},nd f cs=some cs'->∀ (j:Nat) (c c' : ae),cs[j]? = some c->cs'[j]? = some c'->f c=some c'
 | [],cs',h,j,c,c',al,_=>by simp at al
 | c::cs,cs',h,j,d,oI,bD,nP=>by
  unfold nd at h;split at h
  ·rename_i x ak;split at h
   ·rename_i h1;cases h;cases j with
    | zero=>simp at bD nP; subst bD nP; exact ak
    | succ j=>exact qS h1 j d oI (by simpa using bD) (by simpa using nP)
   ·cases h
  ·cases h
theorem xO:∀ (d:Nat) (c c' : ae),sp h d c=some c'->fc h c c'
 | 0,c,c',ak=>by cases ak
 | d+1,c,c',ak=>by
  unfold sp at ak;split at ak
  ·split at ak
   ·rename_i h1; cases ak;exact .aV _ _ (qT h1) (fun j c c' al eY=>xO d c c' (qS h1 j c c' al eY))
   ·cases ak
  ·split at ak
   ·rename_i h1; cases ak;exact .bP _ _ (qT h1) (fun j c c' al eY=>xO d c c' (qS h1 j c c' al eY))
   ·cases ak
  ·rename_i z b off len cap sz;split at ak
   ·rename_i aO;cases ak;rw[Nat.eq_of_beq_eq_true aO];exact .pA z b off cap sz
   ·split at ak
    ·rename_i n cs aj;split at ak
     ·rename_i dP;simp only[Bool.and_eq_true] at dP;have aH:=Nat.eq_of_beq_eq_true dP.1;have dO:=Nat.le_of_ble_eq_true dP.2;subst aH;split at ak
      ·rename_i xs h1;cases ak;have bJ:=qT h1;simp only[List.length_take,List.length_drop] at bJ;have r1:xs.length=len*z:=by omega
       have dU:∀ (i:Nat),i<len->(kf z len xs)[i]? = some ((xs.drop (i*z)).take z) :=fun i aA=>Bl len xs i aA
       have dF:∀ i,i<len->i*z+z<=len*z:=fun i aA=>by rw[<-Nat.succ_mul]; exact Nat.mul_le_mul_right _ aA
       refine .ao z b off len cap n cs _ aj (sV _ _) (fun e aw=>?_) dO (fun i j e c c' aw am al=>?_)
       ·obtain⟨i,aA⟩:=List.mem_iff_getElem?.1 aw;have d5:i<len:=by
         have:=(List.getElem?_eq_some_iff.1 aA).1;rw[sV] at this; exact this
        rw[dU i d5] at aA;cases aA;have:=dF i d5;simp; omega
       ·have d5:i<len:=by
         have:=(List.getElem?_eq_some_iff.1 aw).1;rw[sV] at this; exact this
        rw[dU i d5] at aw;cases aw;have wV:=dF i d5;have kQ:j<z:=by have:=(List.getElem?_eq_some_iff.1 am).1; simp at this; omega
        rw[List.getElem?_take_of_lt kQ,List.getElem?_drop] at am;refine xO d c c' (qS h1 (i*z+j) c c' ?_ am);rw[List.getElem?_take_of_lt (by omega),List.getElem?_drop];exact al
      ·cases ak
     ·cases ak
    ·cases ak
  ·rename_i b off sz;split at ak
   ·rename_i n cs aj;split at ak
    ·rename_i aH;split at ak
     ·rename_i h1;cases ak;rw[<-Nat.eq_of_beq_eq_true aH];exact .ptr b off n cs _ aj (qT h1) (fun j c c' al eY=>xO d c c' (qS h1 j c c' al eY))
     ·cases ak
    ·cases ak
   ·cases ak
  ·split at ak
   ·rename_i al; cases ak; exact .same _ al
   ·cases ak
theorem fc.rep (r:d3 h l) {c c' : ae} (aD:fc h c c') :fc (bY l) c c':=by
 induction aD with
 | same c al=>exact .same c al
 | aV cs cs' ar ax aM=>exact .aV cs cs' ar aM
 | bP cs cs' ar ax aM=>exact .bP cs cs' ar aM
 | ao z b off len cap sz cs es aj ar aC ec ax aM=>exact .ao z b off len cap sz cs es (by rw[<-r.f]; exact aj) ar aC ec aM
 | pA z b off cap sz=>exact .pA z b off cap sz
 | ptr b off sz cs cs' aj ar ax aM=>exact .ptr b off sz cs cs' (by rw[<-r.f]; exact aj) ar aM
def x9 (P:Program) (G:Nat->ae) (call:mm) :Prop:=
 ∀ (f:FuncId) (args:List ae) (h:aR) (v:ae) (h' : aR) (l:av),d3 h l->call f args h=some (v,h')->∃ l',d3 h' l'/\∀ K:ae->av->Prop,K v l'->dp P G f args l (c:=⟨K⟩)
theorem akp {m:a2} {v:ae} {l:av} {K:ae->av->Prop} (aF:K v l) :dR m v l K:=by
 cases m<;>first | exact aF | exact .inl aF
theorem OJ {call:mm} (al:x9 P G call) (r:d3 h l) {b:oy} {s:fW} {v:ae} (ak:yo P G call b s h=some (v,h')) :
  ∃ l',d3 h' l'/\(∀ K:ae->av->Prop,K v l'->gS P G b (look s) l K)/\(∀ m,b=.cF m->bR P (cT G (look s)) l m=some (v,l')) :=by
 cases b with
 | cF m=>
  obtain⟨l',h1,ag⟩:=J6 r ak;refine⟨l',ag,fun K a8=>?_,fun ck hm=>by cases hm; exact h1⟩;show W (bR P (cT G (look s)) l m) (c:=⟨fun x=>dR m x.1 x.2 K⟩);rw[wc];exact⟨_,h1,akp a8⟩
 | cV f args=>
  obtain⟨l',h1,ag⟩:=al f _ h v h' l r ak;exact⟨l',h1,ag,fun m hm=>by cases hm⟩
 | gw x args=>
  simp only[yo] at ak;cases aJ:cT G (look s) x<;>rw[aJ] at ak<;>(try simp only at ak)<;>try (cases ak; done)
  rename_i g first e6
  split at ak
  ·rename_i iX;obtain⟨l',h1,ag⟩:=al g _ h v h' l r ak;refine⟨l',h1,fun K a8=>?_,fun m hm=>by cases hm⟩;show sS P G (cT G (look s) x) _ l (c:=⟨K⟩);unfold sS;rw[aJ];exact⟨iX,ag K a8⟩
  ·cases ak
 | mx x name args=>
  simp only[yo] at ak;cases aJ:cT G (look s) x<;>rw[aJ] at ak<;>(try simp only at ak)<;>try (cases ak; done)
  rename_i t v0;split at ak
  ·rename_i g hm;split at ak
   ·rename_i iX;obtain⟨l',h1,ag⟩:=al g _ h v h' l r ak;refine⟨l',h1,fun K a8=>?_,fun m hm=>by cases hm⟩;show sR P G name (cT G (look s) x) _ l (c:=⟨K⟩);unfold sR;rw[aJ];simp only[hm];exact⟨iX,ag K a8⟩
   ·cases ak
  ·cases ak
theorem BQ {s:fW} {g:Option (Option Tmp × Bool)} {b:Bool} (ay:BP s g=some b) {p q:Prop} (aF:if b then p else q) :n9 (look s) g p q:=by
 unfold BP at ay;unfold n9;split at ay
 ·cases ay; exact aF
 ·rename_i d w;simp only[pd];split at ay
  ·rename_i x ak;simp only[ak];cases ay;unfold pe;cases ajC:(x == w)<;>rw[ajC] at aF<;>simpa using aF
  ·cases ay
  ·rename_i h1 ag;cases ay;cases ak:look s d<;>first | exact (by simpa using aF) | (exact absurd ak (h1 _)) | (exact absurd ak ag)
 ·cases ay; simpa using aF
theorem M4 {call:mm} (al:x9 P G call) :∀ (x:List dJ) (s:fW) (h:aR) (l:av) (fo:fW) (h' : aR),d3 h l->Az P G call x s h=some (fo,h')->
  ∃ l',d3 h' l'/\∀ K:bj->av->Prop,K (look fo) l'->h2 P G x (look s) l K
 | [],s,h,l,fo,h',r,ak=>by cases ak; exact⟨l,r,fun K a8=>a8⟩
 | x::xs,s,h,l,fo,h',r,ak=>by
  unfold Az at ak;split at ak
  ·rename_i ay;split at ak
   ·rename_i v h1 aj;obtain⟨l1,d6,ag,_⟩:=OJ al r aj;obtain⟨l',co,aq⟩:=M4 al xs _ h1 l1 fo h' d6 ak;refine⟨l',co,fun K a8=>?_⟩;unfold h2;refine BQ ay ?_;simp only[if_true];refine ag _ ?_;rw[<-Da];exact aq K a8
   ·cases ak
  ·rename_i ay;obtain⟨l',co,aq⟩:=M4 al xs _ h l fo h' r ak;refine⟨l',co,fun K a8=>?_⟩;unfold h2;refine BQ ay ?_;simp only[Bool.false_eq_true,if_false];rw[<-Da];exact aq K a8
  ·cases ak
theorem bv.beq_eq {a b:bv} (h:bv.beq a b=true) :a=b:=by
 cases a<;>cases b<;>simp[bv.beq] at h
 ·rfl
 ·rfl
 ·obtain⟨h1,ag⟩:=h;rw[h1,rm ag]
theorem aoO {b:oy} {s:fW} {v:ae} {h1:aR} {l' l1:av} (r:d3 h l) (co:d3 h' l') (d6:d3 h1 l1) (ak:DT P G b s v h h' h1=true) (bw:∀ m,b=.cF m->m.hB=true->∃ n cs,l'=l++[.cells n cs]) :j6 P G b (look s) v l l' l1:=by
 unfold DT at ak;unfold j6;split at ak
 ·rename_i m;simp only;cases aH:m.hB with
  | true=>
   rw[aH] at ak;simp only at ak ⊢;have aw:=bv.beq_eq ak;obtain⟨n,cs,rfl⟩:=bw m rfl aH;rw[r.n] at aw;have ag:h'.f l.length=(bY (l++[.cells n cs])).f l.length:=co.f _;rw[np] at ag;simp only[List.getElem?_append_right (Nat.le_refl _),Nat.sub_self,List.getElem?_cons_zero] at ag ⊢;exact d6.some (aw.trans ag) (by simp)
  | false=>
   rw[aH] at ak;simp only at ak ⊢;split at ak
   ·rename_i jB;split at ak
    ·rename_i bc ag hm;obtain⟨ce,aq,_⟩:=J6 d6 hm;rw[ae.beq_eq ak] at aq;rw[W7 jB aq] at aq;exact aq
    ·cases ak
   ·cases ak
 ·rename_i aj;split
  ·rename_i m; exact absurd rfl (aj m)
  ·trivial
inductive wb (P:Program) (G:Nat->ae) :List (Nat × (aR->Bool))->hi->Prop
 | nil:wb P G [] []
 | cons {i p q r co}:(∀ h l,d3 h l->p h=true->q l)->wb P G r co->wb P G ((i,p) ::r) ((i,q) ::co)
theorem RR (r:d3 h l) {ids:List Nat}:∀ {a:List (Nat × (aR->Bool))} {b:hi},wb P G a b->Bk ids h a=true->nC ids b l
 | _,_,.nil,_=>trivial
 | _,_,.cons aG aD,ak=>by
  unfold Bk at ak;simp only[Bool.and_eq_true,Bool.or_eq_true,Bool.not_eq_true'] at ak;unfold nC;refine⟨fun aA=>?_,RR r aD ak.2⟩;rcases ak.1 with h1 | h1
  ·rw[aA] at h1; cases h1
  ·exact aG h l r h1
theorem aka {aB:Operand->ae} {l l' : av} {m:a2} {v:ae} (aH:m.hB=true) (hm:bR P aB l m=some (v,l')) :∃ n cs,l'=l++[.cells n cs] :=by
 cases m<;>simp only[a2.hB,Bool.false_eq_true,reduceCtorEq] at aH<;>simp only[bR,map_some,Option.some.injEq,Prod.mk.injEq] at hm
 case alloc=>obtain⟨_,rfl⟩:=hm; exact⟨_,_,rfl⟩
 case box=>obtain⟨_,_,_,rfl⟩:=hm; exact⟨_,_,rfl⟩
 case cL=>obtain⟨_,_,_,rfl⟩:=hm; exact⟨_,_,rfl⟩
 case kZ=>
  unfold po at hm
  repeat' split at hm
  all_goals first | (cases hm; done) | (cases hm; exact⟨_,_,rfl⟩)
theorem M1 {call:mm} (al:x9 P G call) :∀ (x:List dJ) (s:fW) (h:aR) (l:av) (fo:fW) (h' : aR) (a:List (Nat × (aR->Bool))) (b:hi),d3 h l->wb P G a b->Ay P G call x s h a=some (fo,h')->
  ∃ l',d3 h' l'/\∀ K:bj->av->Prop,K (look fo) l'->io P G x (look s) l b K
 | [],s,h,l,fo,h',a,b,r,au,ak=>by cases ak; exact⟨l,r,fun K a8=>a8⟩
 | x::xs,s,h,l,fo,h',a,b,r,au,ak=>by
  unfold Ay at ak;split at ak
  ·rename_i ay;split at ak
   ·rename_i v h1 aj;obtain⟨l1,d6,ag,zs⟩:=OJ al r aj;split at ak
    ·rename_i dU;have qp:wb P G (match x.cM with | true=>(x.i,DT P G x.b s v h h1) ::a | false=>a) (py x.cM x.i (j6 P G x.b (look s) v l l1) b) :=by
      cases x.cM with
      | false=>exact au
      | true=>
       refine .cons (fun ag ce e9 aG=>aoO r d6 e9 aG (fun m hm aH=>aka aH (zs m hm))) au
     obtain⟨l',co,aq⟩:=M1 al xs _ h1 l1 fo h' _ _ d6 qp ak;refine⟨l',co,fun K a8=>?_⟩;unfold io;refine BQ ay ?_;simp only[if_true];refine ag _ ⟨RR d6 au dU,?_⟩;rw[<-Da];exact aq K a8
    ·cases ak
   ·cases ak
  ·rename_i ay;obtain⟨l',co,aq⟩:=M1 al xs _ h l fo h' a b r au ak;refine⟨l',co,fun K a8=>?_⟩;unfold io;refine BQ ay ?_;simp only[Bool.false_eq_true,if_false];rw[<-Da];exact aq K a8
  ·cases ak
theorem G9 {call:mm} (al:x9 P G call) :∀ (fuel:Nat) (c:aT) (s:fW) (h:aR) (l:av) (e:pK) (fo:fW) (h' : aR),d3 h l->Bi P G call fuel c s h=some (e,fo,h')->
  ∃ l',d3 h' l'/\∀ K:f9,K e (look fo) l'->run P G c (look s) l K
 | 0,c,s,h,l,e,fo,h',r,ak=>by cases ak
 | k+1,c,s,h,l,e,fo,h',r,ak=>by
  have aM:=G9 al k;unfold Bi RN at ak;cases c with
  | skip=>cases ak; exact⟨l,r,fun K a8=>a8⟩
  | ret=>cases ak; exact⟨l,r,fun K a8=>a8⟩
  | exit id=>cases ak; exact⟨l,r,fun K a8=>a8⟩
  | ai x=>
   simp only at ak;split at ak
   ·rename_i dx h1 aD;cases ak;obtain⟨l',co,ag⟩:=M4 al x s h l fo h' r aD;exact⟨l',co,fun K a8=>ag _ a8⟩
   ·cases ak
  | gy x=>
   simp only at ak;split at ak
   ·rename_i dx h1 aD;cases ak;obtain⟨l',co,ag⟩:=M1 al x s h l fo h' [] [] r .nil aD;exact⟨l',co,fun K a8=>ag _ a8⟩
   ·cases ak
  | seq a b=>
   simp only at ak;split at ak
   ·rename_i dx h1 aI;obtain⟨l1,d6,ag⟩:=aM a s h l _ dx h1 r aI;obtain⟨l',co,aq⟩:=aM b dx h1 l1 e fo h' d6 ak;refine⟨l',co,fun K a8=>?_⟩;unfold run;exact ag _ (aq K a8)
   ·rename_i b7;obtain⟨l',co,ag⟩:=aM a s h l e fo h' r ak;refine⟨l',co,fun K a8=>?_⟩;unfold run;refine ag _ ?_;unfold l9;cases e with
    | normal=>exact absurd ak (b7 _ _)
    | exit id=>exact a8
    | ret=>exact a8
  | cond c x y=>
   simp only at ak;split at ak
   ·rename_i iW;obtain⟨l',co,ag⟩:=aM x s h l e fo h' r ak;refine⟨l',co,fun K a8=>?_⟩;unfold run vv;rw[iW];exact ag K a8
   ·rename_i iW;obtain⟨l',co,ag⟩:=aM y s h l e fo h' r ak;refine⟨l',co,fun K a8=>?_⟩;unfold run vv;rw[iW];exact ag K a8
   ·cases ak
  | block id c=>
   simp only at ak;split at ak
   ·rename_i qx dx h1 aI;obtain⟨l',co,ag⟩:=aM c s h l _ dx h1 r aI;split at ak
    ·rename_i jU;cases ak;refine⟨l',co,fun K a8=>?_⟩;unfold run;refine ag _ ?_;unfold pc;simp only;rw[jU];exact a8
    ·rename_i jU;cases ak;refine⟨l',co,fun K a8=>?_⟩;unfold run;refine ag _ ?_;unfold pc;simp only;rw[jU];exact a8
   ·rename_i b7;obtain⟨l',co,ag⟩:=aM c s h l e fo h' r ak;refine⟨l',co,fun K a8=>?_⟩;unfold run;refine ag _ ?_;unfold pc;cases e with
    | normal=>exact a8
    | exit id=>exact absurd ak (b7 _ _ _)
    | ret=>exact a8
  | loop c=>
   simp only at ak;split at ak
   ·rename_i dx h1 aI;obtain⟨l1,d6,ag⟩:=aM c s h l _ dx h1 r aI;obtain⟨l',co,aq⟩:=aM (.loop c) dx h1 l1 e fo h' d6 ak;refine⟨l',co,fun K a8=>?_⟩;have aK:=aq K a8;unfold run at aK ⊢;obtain⟨n,aH⟩:=aK;exact⟨n+1,ag _ aH⟩
   ·rename_i b7;obtain⟨l',co,ag⟩:=aM c s h l e fo h' r ak;refine⟨l',co,fun K a8=>?_⟩;unfold run;refine⟨1,ag _ ?_⟩;unfold l9;cases e with
    | normal=>exact absurd ak (b7 _ _)
    | exit id=>exact a8
    | ret=>exact a8
def v8 (P:Program) (G:Nat->ae) (orc:nt) :Prop:=∀ f n g args r,orc f=some (n,g)->g args=some r->bT P G f args r/\(n=true->h6 P G f args r)
def ye (P:Program) (jN:sG) :Prop:=∀ f c lJ,jN f=some (c,lJ)->bm P f=some c/\bn P f=some lJ
theorem MZ (r:d3 h l) {s:fW}:∀ {ms:List a2} {acc:List ae} {v:ae},Av P G s h ms acc=some v->∀ K:ae->av->Prop,K v l->l8 P G K (look s) l ms acc
 | [],acc,v,ak,K,a8=>by cases ak; exact a8
 | m::ms,acc,v,ak,K,a8=>by
  unfold Av at ak;split at ak
  ·rename_i x h1 hm;obtain⟨l1,ag,_⟩:=J6 r hm;unfold l8;rw[wc];exact⟨_,ag,MZ r ak K a8⟩
  ·cases ak
theorem W4 (args:List ae) :look (xD 0 .nil args)=A4 args:=by
 rw[W5];funext t;unfold A4;by_cases aW:t<args.length
 ·rw[if_pos ⟨Nat.zero_le _,by omega⟩]; rfl
 ·rw[if_neg (by omega)];rw[List.getD_eq_getElem?_getD,List.getElem?_eq_none (by omega)]; rfl
theorem adH {orc:nt} (az:v8 P G orc) {f:FuncId} {args:List ae} {h:aR} {l:av} {v:ae} (r:d3 h l) (ak:EC orc f args h=some v) (K:ae->av->Prop) (a8:K v l) :dp P G f args l (c:=⟨K⟩) :=by
 unfold EC at ak;split at ak
 ·rename_i n g ay;split at ak
  ·rename_i hk aI;split at ak
   ·rename_i bc ax;split at ak
    ·rename_i aJ;cases ak;obtain⟨vC,mb⟩:=az f n g hk v ay ax;cases n with
     | true=>exact⟨v,l,.KD (mb rfl) (qT aI) (fun j c c' al eY=>(xO 20 c c' (qS aI j c c' al eY)).rep r),Nat.le_refl _,a8⟩
     | false=>exact⟨v,l,.KC vC (qT aI) (fun j c c' al eY=>(xO 20 c c' (qS aI j c c' al eY)).rep r) aJ,Nat.le_refl _,a8⟩
    ·cases ak
   ·cases ak
  ·cases ak
 ·cases ak
theorem ajW (r:d3 h l) {z by_ i gJ:Nat} {s v:ae} {vs:List ae} (ak:zN z by_ h s i gJ vs=some (v,h')) :∃ l',d3 h' l'/\zN z by_ (bY l) s i gJ vs=some (v,bY l')/\l.length<=l'.length:=by
 unfold zN at ak ⊢;cases s<;>simp only at ak<;>try (cases ak; done)
 case aZ=>
  split at ak
  ·rename_i al;cases ak;refine⟨_,r.push _,?_,by simp⟩;simp only;rw[if_pos al,lQ,AV,r.n]
  ·cases ak
 case ao k7 b off len cap sz=>
  simp only;rw[<-r.f b];cases aj:h.f b<;>rw[aj] at ak<;>(try simp only at ak)<;>try (cases ak; done)
  simp only;split at ak
  ·rename_i al;rw[if_pos al];cases ak;have ar:=r.some aj (by simp);refine⟨_,(r.set ar _).push _,?_,by simp⟩;rw[nq _ (fi ar),lQ,AV,r.n]
  ·cases ak
theorem ajU (r:d3 h l) {z by_:Nat} {args:List ae} {v:ae} (ak:r3 z by_ args h=some (v,h')) :∃ l',d3 h' l'/\r3 z by_ args (bY l)=some (v,bY l')/\l.length<=l'.length:=by
 unfold r3 at ak ⊢;split at ak
 ·rename_i s x y;split at ak
  ·rename_i i h5 gJ mb ce dm lK r0;rw[<-r.f gJ];split at ak
   ·rename_i iF vs jx
    try rw[jx]
    try simp only
    split at ak
    ·rename_i al
     try rw[if_pos al]
     exact ajW r ak
    ·cases ak
   ·cases ak
  ·cases ak
 ·cases ak
theorem G8 [oC P G] {orc:nt} {jN:sG} (az:v8 P G orc) (aW:ye P jN) (fuel:Nat) :∀ k,x9 P G (yz P G orc jN fuel k)
 | 0=>fun f args h v h' l r ak=>by cases ak
 | k+1=>fun f args h v h' l r ak=>by
  have aM:=G8 az aW fuel k;unfold yz RK at ak;split at ak
  ·rename_i z by_ ay;obtain⟨l',co,h1,ag⟩:=ajU r ak;exact⟨l',co,fun K a8=>⟨v,l',.ext (oC.ok f z by_ ay args (bY l) v (bY l') h1),ag,a8⟩⟩
  split at ak
  ·rename_i bc ax;cases ak;exact⟨l,r,fun K a8=>adH az r ax K a8⟩
  ·split at ak
   ·cases ak
   ·rename_i c lJ aju;obtain⟨qc,jy⟩:=aW f c lJ aju;split at ak
    ·rename_i dx h1 g3;obtain⟨l1,d6,ag⟩:=G9 aM fuel c _ h l _ dx h1 r g3;split at ak
     ·rename_i bc CJ;cases ak;refine⟨l1,d6,fun K a8=>bH qc jy ?_⟩;rw[<-W4];exact ag _ (MZ d6 CJ K a8)
     ·cases ak
    ·rename_i dx h1 g3;obtain⟨l1,d6,ag⟩:=G9 aM fuel c _ h l _ dx h1 r g3;split at ak
     ·rename_i bc CJ;cases ak;refine⟨l1,d6,fun K a8=>bH qc jy ?_⟩;rw[<-W4];exact ag _ (MZ d6 CJ K a8)
     ·cases ak
    ·cases ak
end
def abt (P:Program) (G:Nat->ae) [oC P G] (orc:nt) (jN:sG) (fuel k:Nat) (f:FuncId) (args:List ae) (r:ae) :Bool:=
 match yz P G orc jN fuel k f args aR.empty with
 | some (v,h)=>match sp h 20 v with
  | some bc=>ae.beq bc r
  | none=>false
 | none=>false
theorem aeT {P:Program} {G:Nat->ae} [oC P G] {orc:nt} {jN:sG} (az:v8 P G orc) (aW:ye P jN) {fuel k:Nat} {f:FuncId} {args:List ae} {b:Bool} (ak:abt P G orc jN fuel k f args (.bool b)=true) :
  dp P G f args [] (c:=⟨fun r _=>r=.bool b⟩) :=by
 unfold abt at ak;split at ak
 ·rename_i v h al;split at ak
  ·rename_i bc ax;obtain⟨l',_,ag⟩:=G8 az aW fuel k f args aR.empty v h [] d3.nil al;refine ag _ ?_;have:=ae.beq_eq ak;subst this;unfold sp at ax
   repeat' split at ax
   all_goals first | (cases ax; done) | (cases ax; rfl)
  ·cases ak
 ·cases ak
abbrev U (t:Nat) :Operand:=.tmp t
def rep (n:Nat) (c:ae) :List ae:=List.replicate n c
abbrev af (i d x:Nat) :dJ:=⟨i,some d,none,.cF (.ap (.tmp x)),[],false⟩
abbrev ad (i d:Nat) (m:a2) :dJ:=⟨i,some d,none,.cF m,[],false⟩
abbrev bC (i:Nat) (m:a2) :dJ:=⟨i,none,none,.cF m,[],false⟩
abbrev sc (i d:Nat) (f:FuncId) (args:List Operand) :dJ:=⟨i,some d,none,.cV f args,[],false⟩
abbrev aE (i d j:Nat) (w:Bool) (m:a2) :dJ:=⟨i,some d,some (some j,w),.cF m,[],false⟩
@[simp] theorem av3 (n:Nat) (c:ae) :(rep n c).length=n:=by simp[rep]
def nn {α:Type} (p:Nat->α->Prop) :cu α->Prop
 | .nil=>True
 | .node l v r=>(∀ x,v=some x->p 0 x)/\nn (fun m=>p (2*m+1)) l/\nn (fun m=>p (2*m+2)) r
theorem Ez {α:Type}:∀ (t:cu α) (p:Nat->α->Prop),nn p t->∀ n x,t.get n=some x->p n x
 | .nil,p,h,n,x,ak=>by cases ak
 | .node l v r,p,h,n,x,ak=>by
  obtain⟨h1,ag,aq⟩:=h;unfold cu.get at ak;by_cases aO:n=0
  ·subst aO; exact h1 x ak
  ·rw[ij aO] at ak;simp only at ak;by_cases az:n % 2=1
   ·rw[qI az] at ak;have:=Ez l _ ag _ x ak;rw[show 2*(n / 2)+1=n by omega] at this; exact this
   ·rw[ij az] at ak;have:=Ez r _ aq _ x ak;rw[show 2*(n / 2 - 1)+2=n by omega] at this; exact this
theorem bh {α:Type} {p:Nat->α->Prop}:nn p .nil:=trivial
theorem iP {α:Type} {p:Nat->α->Prop} {l r:cu α} (h1:nn (fun m=>p (2*m+1)) l) (ag:nn (fun m=>p (2*m+2)) r) :nn p (.node l none r) :=⟨fun x h=>(by cases h),h1,ag⟩
theorem bo {α:Type} {p:Nat->α->Prop} {l r:cu α} {x:α} (ak:p 0 x) (h1:nn (fun m=>p (2*m+1)) l) (ag:nn (fun m=>p (2*m+2)) r) :nn p (.node l (some x) r) :=⟨fun y h=>(by cases h; exact ak),h1,ag⟩
abbrev N6 (P:Program) (f:Nat) (x:aT × List a2) :Prop:=bm P f=some x.1/\bn P f=some x.2
theorem ao2 {P:Program} {t:cu (aT × List a2)} (h:nn (N6 P) t) :ye P (fun f=>t.get f) :=fun f c lJ ak=>Ez t _ h f (c,lJ) ak
def alG:nt:=fun _=>none
theorem Xo (P:Program) (G:Nat->ae) :v8 P G alG:=fun f n g args r h=>by cases h
def u {w:Nat} (a:BitVec w) :Int:=(a.toNat:Int)
@[simp] theorem kx {w:Nat} (a:BitVec w) :BitVec.ofInt w (u a)=a:=by
 unfold u;rw[BitVec.ofInt_natCast,BitVec.ofNat_toNat,BitVec.setWidth_eq]
@[simp] theorem q5 {w:Nat} (a b:BitVec w) :(u a=u b)<->a=b:=⟨fun h=>BitVec.eq_of_toNat_eq (by unfold u at h; exact Int.ofNat_inj.1 h),fun h=>by rw[h]⟩
@[simp] theorem awJ {w:Nat} (a b:BitVec w) :(u a<u b)<->a<b:=by unfold u; rw[Int.ofNat_lt]; rfl
@[simp] theorem awI {w:Nat} (a b:BitVec w) :(u a<=u b)<->a<=b:=by unfold u; rw[Int.ofNat_le]; rfl
@[simp] theorem awK {w:Nat} (a:BitVec w) :0<=u a:=Int.natCast_nonneg _
@[simp] theorem awL {w:Nat} (a:BitVec w) :(u a).toNat=a.toNat:=Int.toNat_natCast _
theorem awH {w:Nat} (a:BitVec w) :u a<2 ^ w:=by
 have:=a.isLt;unfold u
 exact_mod_cast this
@[simp] theorem avR {w:Nat} (a b:Int) :BitVec.ofInt w (a - b)=BitVec.ofInt w a - BitVec.ofInt w b:=by
 rw[Int.sub_eq_add_neg,BitVec.ofInt_add,BitVec.ofInt_neg,BitVec.sub_eq_add_neg]
attribute [simp] BitVec.ofInt_add BitVec.ofInt_mul
theorem oe {w:Nat} (v:Nat) (a:BitVec w) :BitVec.ofInt v (u a)=a.setWidth v:=by
 unfold u;rw[BitVec.ofInt_natCast,BitVec.ofNat_toNat]
section
abbrev bF (a:BitVec 8) :ae:=.int .u8 (u a)
@[simp] theorem AP (n:Int) :IntKind.u8.wrap n=u (BitVec.ofInt 8 n) :=by
 have a1:(2 ^ IntKind.u8.bits:Int)=256:=by decide
 have dD:IntKind.u8.signed=false:=rfl;simp only[IntKind.wrap,a1,dD,Bool.false_and,Bool.false_eq_true,if_false,u,BitVec.toNat_ofInt];have:(2 ^ 8:Nat)=256:=by decide
 rw[this];omega
@[simp] theorem awS (a:Int) :ot .xor (.int .u8 a)=some (.int .u8 (u (~~~(BitVec.ofInt 8 a)))) :=by
 show some (ae.int .u8 (IntKind.u8.wrap (u (BitVec.ofInt 8 (255:Int) ^^^ BitVec.ofInt 8 a))))=_;rw[AP,kx];have:BitVec.ofInt 8 (255:Int)=BitVec.allOnes 8:=by decide
 rw[this,BitVec.allOnes_xor]
theorem ad7 (a:BitVec 8) (k' : IntKind) (n:Nat) :cn .shl .u8 (u a) k' (n:Int)=some (.int .u8 (u (a <<< n))) :=by
 have aO:¬((n:Int)<0) :=by omega
 show (if (n:Int)<0 then none else some (ae.int .u8 (IntKind.u8.wrap ((a.toNat:Int)*2 ^ min (n:Int).toNat 8))))=_;rw[if_neg aO];congr 2;rw[AP,Int.toNat_natCast];unfold u;congr 1;have:((a.toNat:Int)*2 ^ min n 8)=((a.toNat*2 ^ min n 8:Nat) :Int) :=by rw[Int.natCast_mul,Int.natCast_pow]; rfl
 rw[this,BitVec.ofInt_natCast,BitVec.toNat_ofNat,BitVec.toNat_shiftLeft,Nat.shiftLeft_eq];rcases Nat.lt_or_ge n 8 with h | h
 ·rw[Nat.min_eq_left (Nat.le_of_lt h)]
 ·rw[Nat.min_eq_right h];have h1:a.toNat*2 ^ 8 % 2 ^ 8=0:=Nat.mul_mod_left _ _;obtain⟨m,rfl⟩:=Nat.exists_eq_add_of_le h;rw[h1,Nat.pow_add,Nat.mul_left_comm,Nat.mul_mod_right]
theorem aea (a:BitVec 8) (k' : IntKind) (n:Nat) :cn .shr .u8 (u a) k' (n:Int)=some (.int .u8 (u (a >>> n))) :=by
 have aO:¬((n:Int)<0) :=by omega
 show (if (n:Int)<0 then none else some (ae.int .u8 ((a.toNat:Int).fdiv (2 ^ min (n:Int).toNat 8))))=_;rw[if_neg aO];congr 2;rw[Int.toNat_natCast];unfold u;have:((2:Int) ^ min n 8)=((2 ^ min n 8:Nat) :Int) :=by rw[Int.natCast_pow]; rfl
 rw[this,Int.fdiv_eq_ediv_of_nonneg _ (Int.natCast_nonneg _),<-Int.natCast_ediv,BitVec.toNat_ushiftRight,Nat.shiftRight_eq_div_pow];congr 1;rcases Nat.lt_or_ge n 8 with h | h
 ·rw[Nat.min_eq_left (Nat.le_of_lt h)]
 ·rw[Nat.min_eq_right h,Nat.div_eq_of_lt a.isLt,Nat.div_eq_of_lt (Nat.lt_of_lt_of_le a.isLt (Nat.pow_le_pow_right (by omega) h))]
@[simp] theorem arb (a:BitVec 8) (k' : IntKind) (n:Int) (h:0<=n) :cn .shl .u8 (u a) k' n=some (.int .u8 (u (a <<< n.toNat))) :=by
 obtain⟨m,rfl⟩:=Int.eq_ofNat_of_zero_le h;exact ad7 a k' m
@[simp] theorem arh (a:BitVec 8) (k' : IntKind) (n:Int) (h:0<=n) :cn .shr .u8 (u a) k' n=some (.int .u8 (u (a >>> n.toNat))) :=by
 obtain⟨m,rfl⟩:=Int.eq_ofNat_of_zero_le h;exact aea a k' m
@[simp] theorem aq7 (a b:BitVec 8) (h:b≠0#8) :cn .rem .u8 (u a) .u8 (u b)=some (.int .u8 (u (a % b))) :=by
 have aj:(b.toNat:Int)≠0:=fun e=>h (BitVec.eq_of_toNat_eq (by simpa using e))
 show (if IntKind.u8=IntKind.u8/\(b.toNat:Int)≠0 then some (ae.int .u8 ((a.toNat:Int).tmod b.toNat)) else none)=_;rw[if_pos ⟨rfl,aj⟩];unfold u;rw[BitVec.toNat_umod];rfl
@[simp] theorem arp (a b:Int) :cn .xor .u8 a .u8 b=some (.int .u8 (u (BitVec.ofInt 8 a ^^^ BitVec.ofInt 8 b))) :=by
 show some (ae.int .u8 (IntKind.u8.wrap (u (BitVec.ofInt 8 a ^^^ BitVec.ofInt 8 b))))=_;rw[AP,kx]
@[simp] theorem aq5 (a b:Int) :cn .or .u8 a .u8 b=some (.int .u8 (u (BitVec.ofInt 8 a ||| BitVec.ofInt 8 b))) :=by
 show some (ae.int .u8 (IntKind.u8.wrap (u (BitVec.ofInt 8 a ||| BitVec.ofInt 8 b))))=_;rw[AP,kx]
@[simp] theorem aqN (a b:Int) :cn .and .u8 a .u8 b=some (.int .u8 (u (BitVec.ofInt 8 a &&& BitVec.ofInt 8 b))) :=by
 show some (ae.int .u8 (IntKind.u8.wrap (u (BitVec.ofInt 8 a &&& BitVec.ofInt 8 b))))=_;rw[AP,kx]
end
section
abbrev Bv (a:BitVec 16) :ae:=.int .u16 (u a)
@[simp] theorem AO (n:Int) :IntKind.u16.wrap n=u (BitVec.ofInt 16 n) :=by
 have a1:(2 ^ IntKind.u16.bits:Int)=65536:=by decide
 have dD:IntKind.u16.signed=false:=rfl;simp only[IntKind.wrap,a1,dD,Bool.false_and,Bool.false_eq_true,if_false,u,BitVec.toNat_ofInt];have:(2 ^ 16:Nat)=65536:=by decide
 rw[this];omega
@[simp] theorem awP (a:Int) :ot .xor (.int .u16 a)=some (.int .u16 (u (~~~(BitVec.ofInt 16 a)))) :=by
 show some (ae.int .u16 (IntKind.u16.wrap (u (BitVec.ofInt 16 (65535:Int) ^^^ BitVec.ofInt 16 a))))=_;rw[AO,kx];have:BitVec.ofInt 16 (65535:Int)=BitVec.allOnes 16:=by decide
 rw[this,BitVec.allOnes_xor]
theorem ad5 (a:BitVec 16) (k' : IntKind) (n:Nat) :cn .shl .u16 (u a) k' (n:Int)=some (.int .u16 (u (a <<< n))) :=by
 have aO:¬((n:Int)<0) :=by omega
 show (if (n:Int)<0 then none else some (ae.int .u16 (IntKind.u16.wrap ((a.toNat:Int)*2 ^ min (n:Int).toNat 16))))=_;rw[if_neg aO];congr 2;rw[AO,Int.toNat_natCast];unfold u;congr 1;have:((a.toNat:Int)*2 ^ min n 16)=((a.toNat*2 ^ min n 16:Nat) :Int) :=by rw[Int.natCast_mul,Int.natCast_pow]; rfl
 rw[this,BitVec.ofInt_natCast,BitVec.toNat_ofNat,BitVec.toNat_shiftLeft,Nat.shiftLeft_eq];rcases Nat.lt_or_ge n 16 with h | h
 ·rw[Nat.min_eq_left (Nat.le_of_lt h)]
 ·rw[Nat.min_eq_right h];have h1:a.toNat*2 ^ 16 % 2 ^ 16=0:=Nat.mul_mod_left _ _;obtain⟨m,rfl⟩:=Nat.exists_eq_add_of_le h;rw[h1,Nat.pow_add,Nat.mul_left_comm,Nat.mul_mod_right]
theorem ad8 (a:BitVec 16) (k' : IntKind) (n:Nat) :cn .shr .u16 (u a) k' (n:Int)=some (.int .u16 (u (a >>> n))) :=by
 have aO:¬((n:Int)<0) :=by omega
 show (if (n:Int)<0 then none else some (ae.int .u16 ((a.toNat:Int).fdiv (2 ^ min (n:Int).toNat 16))))=_;rw[if_neg aO];congr 2;rw[Int.toNat_natCast];unfold u;have:((2:Int) ^ min n 16)=((2 ^ min n 16:Nat) :Int) :=by rw[Int.natCast_pow]; rfl
 rw[this,Int.fdiv_eq_ediv_of_nonneg _ (Int.natCast_nonneg _),<-Int.natCast_ediv,BitVec.toNat_ushiftRight,Nat.shiftRight_eq_div_pow];congr 1;rcases Nat.lt_or_ge n 16 with h | h
 ·rw[Nat.min_eq_left (Nat.le_of_lt h)]
 ·rw[Nat.min_eq_right h,Nat.div_eq_of_lt a.isLt,Nat.div_eq_of_lt (Nat.lt_of_lt_of_le a.isLt (Nat.pow_le_pow_right (by omega) h))]
@[simp] theorem aq8 (a:BitVec 16) (k' : IntKind) (n:Int) (h:0<=n) :cn .shl .u16 (u a) k' n=some (.int .u16 (u (a <<< n.toNat))) :=by
 obtain⟨m,rfl⟩:=Int.eq_ofNat_of_zero_le h;exact ad5 a k' m
@[simp] theorem arc (a:BitVec 16) (k' : IntKind) (n:Int) (h:0<=n) :cn .shr .u16 (u a) k' n=some (.int .u16 (u (a >>> n.toNat))) :=by
 obtain⟨m,rfl⟩:=Int.eq_ofNat_of_zero_le h;exact ad8 a k' m
@[simp] theorem aq6 (a b:BitVec 16) (h:b≠0#16) :cn .rem .u16 (u a) .u16 (u b)=some (.int .u16 (u (a % b))) :=by
 have aj:(b.toNat:Int)≠0:=fun e=>h (BitVec.eq_of_toNat_eq (by simpa using e))
 show (if IntKind.u16=IntKind.u16/\(b.toNat:Int)≠0 then some (ae.int .u16 ((a.toNat:Int).tmod b.toNat)) else none)=_;rw[if_pos ⟨rfl,aj⟩];unfold u;rw[BitVec.toNat_umod];rfl
@[simp] theorem arm (a b:Int) :cn .xor .u16 a .u16 b=some (.int .u16 (u (BitVec.ofInt 16 a ^^^ BitVec.ofInt 16 b))) :=by
 show some (ae.int .u16 (IntKind.u16.wrap (u (BitVec.ofInt 16 a ^^^ BitVec.ofInt 16 b))))=_;rw[AO,kx]
@[simp] theorem aq2 (a b:Int) :cn .or .u16 a .u16 b=some (.int .u16 (u (BitVec.ofInt 16 a ||| BitVec.ofInt 16 b))) :=by
 show some (ae.int .u16 (IntKind.u16.wrap (u (BitVec.ofInt 16 a ||| BitVec.ofInt 16 b))))=_;rw[AO,kx]
@[simp] theorem aqL (a b:Int) :cn .and .u16 a .u16 b=some (.int .u16 (u (BitVec.ofInt 16 a &&& BitVec.ofInt 16 b))) :=by
 show some (ae.int .u16 (IntKind.u16.wrap (u (BitVec.ofInt 16 a &&& BitVec.ofInt 16 b))))=_;rw[AO,kx]
end
section
abbrev bA (a:BitVec 32) :ae:=.int .u32 (u a)
@[simp] theorem x5 (n:Int) :IntKind.u32.wrap n=u (BitVec.ofInt 32 n) :=by
 have a1:(2 ^ IntKind.u32.bits:Int)=4294967296:=by decide
 have dD:IntKind.u32.signed=false:=rfl;simp only[IntKind.wrap,a1,dD,Bool.false_and,Bool.false_eq_true,if_false,u,BitVec.toNat_ofInt];have:(2 ^ 32:Nat)=4294967296:=by decide
 rw[this];omega
@[simp] theorem awQ (a:Int) :ot .xor (.int .u32 a)=some (.int .u32 (u (~~~(BitVec.ofInt 32 a)))) :=by
 show some (ae.int .u32 (IntKind.u32.wrap (u (BitVec.ofInt 32 (4294967295:Int) ^^^ BitVec.ofInt 32 a))))=_;rw[x5,kx];have:BitVec.ofInt 32 (4294967295:Int)=BitVec.allOnes 32:=by decide
 rw[this,BitVec.allOnes_xor]
theorem ad6 (a:BitVec 32) (k' : IntKind) (n:Nat) :cn .shl .u32 (u a) k' (n:Int)=some (.int .u32 (u (a <<< n))) :=by
 have aO:¬((n:Int)<0) :=by omega
 show (if (n:Int)<0 then none else some (ae.int .u32 (IntKind.u32.wrap ((a.toNat:Int)*2 ^ min (n:Int).toNat 32))))=_;rw[if_neg aO];congr 2;rw[x5,Int.toNat_natCast];unfold u;congr 1;have:((a.toNat:Int)*2 ^ min n 32)=((a.toNat*2 ^ min n 32:Nat) :Int) :=by rw[Int.natCast_mul,Int.natCast_pow]; rfl
 rw[this,BitVec.ofInt_natCast,BitVec.toNat_ofNat,BitVec.toNat_shiftLeft,Nat.shiftLeft_eq];rcases Nat.lt_or_ge n 32 with h | h
 ·rw[Nat.min_eq_left (Nat.le_of_lt h)]
 ·rw[Nat.min_eq_right h];have h1:a.toNat*2 ^ 32 % 2 ^ 32=0:=Nat.mul_mod_left _ _;obtain⟨m,rfl⟩:=Nat.exists_eq_add_of_le h;rw[h1,Nat.pow_add,Nat.mul_left_comm,Nat.mul_mod_right]
theorem ad9 (a:BitVec 32) (k' : IntKind) (n:Nat) :cn .shr .u32 (u a) k' (n:Int)=some (.int .u32 (u (a >>> n))) :=by
 have aO:¬((n:Int)<0) :=by omega
 show (if (n:Int)<0 then none else some (ae.int .u32 ((a.toNat:Int).fdiv (2 ^ min (n:Int).toNat 32))))=_;rw[if_neg aO];congr 2;rw[Int.toNat_natCast];unfold u;have:((2:Int) ^ min n 32)=((2 ^ min n 32:Nat) :Int) :=by rw[Int.natCast_pow]; rfl
 rw[this,Int.fdiv_eq_ediv_of_nonneg _ (Int.natCast_nonneg _),<-Int.natCast_ediv,BitVec.toNat_ushiftRight,Nat.shiftRight_eq_div_pow];congr 1;rcases Nat.lt_or_ge n 32 with h | h
 ·rw[Nat.min_eq_left (Nat.le_of_lt h)]
 ·rw[Nat.min_eq_right h,Nat.div_eq_of_lt a.isLt,Nat.div_eq_of_lt (Nat.lt_of_lt_of_le a.isLt (Nat.pow_le_pow_right (by omega) h))]
@[simp] theorem aq9 (a:BitVec 32) (k' : IntKind) (n:Int) (h:0<=n) :cn .shl .u32 (u a) k' n=some (.int .u32 (u (a <<< n.toNat))) :=by
 obtain⟨m,rfl⟩:=Int.eq_ofNat_of_zero_le h;exact ad6 a k' m
@[simp] theorem ard (a:BitVec 32) (k' : IntKind) (n:Int) (h:0<=n) :cn .shr .u32 (u a) k' n=some (.int .u32 (u (a >>> n.toNat))) :=by
 obtain⟨m,rfl⟩:=Int.eq_ofNat_of_zero_le h;exact ad9 a k' m
@[simp] theorem ad3 (a b:BitVec 32) (h:b≠0#32) :cn .rem .u32 (u a) .u32 (u b)=some (.int .u32 (u (a % b))) :=by
 have aj:(b.toNat:Int)≠0:=fun e=>h (BitVec.eq_of_toNat_eq (by simpa using e))
 show (if IntKind.u32=IntKind.u32/\(b.toNat:Int)≠0 then some (ae.int .u32 ((a.toNat:Int).tmod b.toNat)) else none)=_;rw[if_pos ⟨rfl,aj⟩];unfold u;rw[BitVec.toNat_umod];rfl
@[simp] theorem arn (a b:Int) :cn .xor .u32 a .u32 b=some (.int .u32 (u (BitVec.ofInt 32 a ^^^ BitVec.ofInt 32 b))) :=by
 show some (ae.int .u32 (IntKind.u32.wrap (u (BitVec.ofInt 32 a ^^^ BitVec.ofInt 32 b))))=_;rw[x5,kx]
@[simp] theorem aq3 (a b:Int) :cn .or .u32 a .u32 b=some (.int .u32 (u (BitVec.ofInt 32 a ||| BitVec.ofInt 32 b))) :=by
 show some (ae.int .u32 (IntKind.u32.wrap (u (BitVec.ofInt 32 a ||| BitVec.ofInt 32 b))))=_;rw[x5,kx]
@[simp] theorem aqM (a b:Int) :cn .and .u32 a .u32 b=some (.int .u32 (u (BitVec.ofInt 32 a &&& BitVec.ofInt 32 b))) :=by
 show some (ae.int .u32 (IntKind.u32.wrap (u (BitVec.ofInt 32 a &&& BitVec.ofInt 32 b))))=_;rw[x5,kx]
end
section
abbrev du (a:BitVec 64) :ae:=.int .u64 (u a)
@[simp] theorem vV (n:Int) :IntKind.u64.wrap n=u (BitVec.ofInt 64 n) :=by
 have a1:(2 ^ IntKind.u64.bits:Int)=18446744073709551616:=by decide
 have dD:IntKind.u64.signed=false:=rfl;simp only[IntKind.wrap,a1,dD,Bool.false_and,Bool.false_eq_true,if_false,u,BitVec.toNat_ofInt];have:(2 ^ 64:Nat)=18446744073709551616:=by decide
 rw[this];omega
@[simp] theorem awR (a:Int) :ot .xor (.int .u64 a)=some (.int .u64 (u (~~~(BitVec.ofInt 64 a)))) :=by
 show some (ae.int .u64 (IntKind.u64.wrap (u (BitVec.ofInt 64 (18446744073709551615:Int) ^^^ BitVec.ofInt 64 a))))=_;rw[vV,kx];have:BitVec.ofInt 64 (18446744073709551615:Int)=BitVec.allOnes 64:=by decide
 rw[this,BitVec.allOnes_xor]
theorem OW (a:BitVec 64) (k' : IntKind) (n:Nat) :cn .shl .u64 (u a) k' (n:Int)=some (.int .u64 (u (a <<< n))) :=by
 have aO:¬((n:Int)<0) :=by omega
 show (if (n:Int)<0 then none else some (ae.int .u64 (IntKind.u64.wrap ((a.toNat:Int)*2 ^ min (n:Int).toNat 64))))=_;rw[if_neg aO];congr 2;rw[vV,Int.toNat_natCast];unfold u;congr 1;have:((a.toNat:Int)*2 ^ min n 64)=((a.toNat*2 ^ min n 64:Nat) :Int) :=by rw[Int.natCast_mul,Int.natCast_pow]; rfl
 rw[this,BitVec.ofInt_natCast,BitVec.toNat_ofNat,BitVec.toNat_shiftLeft,Nat.shiftLeft_eq];rcases Nat.lt_or_ge n 64 with h | h
 ·rw[Nat.min_eq_left (Nat.le_of_lt h)]
 ·rw[Nat.min_eq_right h];have h1:a.toNat*2 ^ 64 % 2 ^ 64=0:=Nat.mul_mod_left _ _;obtain⟨m,rfl⟩:=Nat.exists_eq_add_of_le h;rw[h1,Nat.pow_add,Nat.mul_left_comm,Nat.mul_mod_right]
theorem sP (a:BitVec 64) (k' : IntKind) (n:Nat) :cn .shr .u64 (u a) k' (n:Int)=some (.int .u64 (u (a >>> n))) :=by
 have aO:¬((n:Int)<0) :=by omega
 show (if (n:Int)<0 then none else some (ae.int .u64 ((a.toNat:Int).fdiv (2 ^ min (n:Int).toNat 64))))=_;rw[if_neg aO];congr 2;rw[Int.toNat_natCast];unfold u;have:((2:Int) ^ min n 64)=((2 ^ min n 64:Nat) :Int) :=by rw[Int.natCast_pow]; rfl
 rw[this,Int.fdiv_eq_ediv_of_nonneg _ (Int.natCast_nonneg _),<-Int.natCast_ediv,BitVec.toNat_ushiftRight,Nat.shiftRight_eq_div_pow];congr 1;rcases Nat.lt_or_ge n 64 with h | h
 ·rw[Nat.min_eq_left (Nat.le_of_lt h)]
 ·rw[Nat.min_eq_right h,Nat.div_eq_of_lt a.isLt,Nat.div_eq_of_lt (Nat.lt_of_lt_of_le a.isLt (Nat.pow_le_pow_right (by omega) h))]
@[simp] theorem ara (a:BitVec 64) (k' : IntKind) (n:Int) (h:0<=n) :cn .shl .u64 (u a) k' n=some (.int .u64 (u (a <<< n.toNat))) :=by
 obtain⟨m,rfl⟩:=Int.eq_ofNat_of_zero_le h;exact OW a k' m
@[simp] theorem arf (a:BitVec 64) (k' : IntKind) (n:Int) (h:0<=n) :cn .shr .u64 (u a) k' n=some (.int .u64 (u (a >>> n.toNat))) :=by
 obtain⟨m,rfl⟩:=Int.eq_ofNat_of_zero_le h;exact sP a k' m
@[simp] theorem wi (a b:BitVec 64) (h:b≠0#64) :cn .rem .u64 (u a) .u64 (u b)=some (.int .u64 (u (a % b))) :=by
 have aj:(b.toNat:Int)≠0:=fun e=>h (BitVec.eq_of_toNat_eq (by simpa using e))
 show (if IntKind.u64=IntKind.u64/\(b.toNat:Int)≠0 then some (ae.int .u64 ((a.toNat:Int).tmod b.toNat)) else none)=_;rw[if_pos ⟨rfl,aj⟩];unfold u;rw[BitVec.toNat_umod];rfl
@[simp] theorem aro (a b:Int) :cn .xor .u64 a .u64 b=some (.int .u64 (u (BitVec.ofInt 64 a ^^^ BitVec.ofInt 64 b))) :=by
 show some (ae.int .u64 (IntKind.u64.wrap (u (BitVec.ofInt 64 a ^^^ BitVec.ofInt 64 b))))=_;rw[vV,kx]
@[simp] theorem aq4 (a b:Int) :cn .or .u64 a .u64 b=some (.int .u64 (u (BitVec.ofInt 64 a ||| BitVec.ofInt 64 b))) :=by
 show some (ae.int .u64 (IntKind.u64.wrap (u (BitVec.ofInt 64 a ||| BitVec.ofInt 64 b))))=_;rw[vV,kx]
@[simp] theorem OH (a b:Int) :cn .and .u64 a .u64 b=some (.int .u64 (u (BitVec.ofInt 64 a &&& BitVec.ofInt 64 b))) :=by
 show some (ae.int .u64 (IntKind.u64.wrap (u (BitVec.ofInt 64 a &&& BitVec.ofInt 64 b))))=_;rw[vV,kx]
end
@[simp] theorem arY (a:BitVec 8) :BitVec.ofInt 16 (u a)=a.setWidth 16:=oe 16 a
@[simp] theorem arZ (a:BitVec 8) :BitVec.ofInt 32 (u a)=a.setWidth 32:=oe 32 a
@[simp] theorem ar0 (a:BitVec 8) :BitVec.ofInt 64 (u a)=a.setWidth 64:=oe 64 a
@[simp] theorem arR (a:BitVec 16) :BitVec.ofInt 8 (u a)=a.setWidth 8:=oe 8 a
@[simp] theorem arP (a:BitVec 16) :BitVec.ofInt 32 (u a)=a.setWidth 32:=oe 32 a
@[simp] theorem arQ (a:BitVec 16) :BitVec.ofInt 64 (u a)=a.setWidth 64:=oe 64 a
@[simp] theorem arU (a:BitVec 32) :BitVec.ofInt 8 (u a)=a.setWidth 8:=oe 8 a
@[simp] theorem arS (a:BitVec 32) :BitVec.ofInt 16 (u a)=a.setWidth 16:=oe 16 a
@[simp] theorem arT (a:BitVec 32) :BitVec.ofInt 64 (u a)=a.setWidth 64:=oe 64 a
@[simp] theorem arX (a:BitVec 64) :BitVec.ofInt 8 (u a)=a.setWidth 8:=oe 8 a
@[simp] theorem arV (a:BitVec 64) :BitVec.ofInt 16 (u a)=a.setWidth 16:=oe 16 a
@[simp] theorem arW (a:BitVec 64) :BitVec.ofInt 32 (u a)=a.setWidth 32:=oe 32 a
@[simp] theorem awM {w:Nat}:u (0#w)=0:=by simp[u]
theorem EN (k:Nat) (c:Int) (al:0<c) (aF:k<9223372036854775808) :cn .quo .i64 (k:Int) .i64 c=some (.int .i64 ((k / c.toNat:Nat) :Int)) :=by
 obtain⟨m,rfl⟩:=Int.eq_ofNat_of_zero_le (Int.le_of_lt al);have hm:(m:Int)≠0:=by omega
 show (if IntKind.i64=IntKind.i64/\(m:Int)≠0 then some (ae.int .i64 (IntKind.i64.wrap ((k:Int).tdiv m))) else none)=_;rw[if_pos ⟨rfl,hm⟩,Int.toNat_natCast];have:((k:Int).tdiv m)=((k / m:Nat) :Int) :=rfl;have ag:=Nat.div_le_self k m;rw[this];generalize k / m=q at ag;rw[wrap_i64 (by omega) (by omega)]
theorem A9 (k:Nat) (c:Int) (al:0<c) :cn .rem .i64 (k:Int) .i64 c=some (.int .i64 ((k % c.toNat:Nat) :Int)) :=by
 obtain⟨m,rfl⟩:=Int.eq_ofNat_of_zero_le (Int.le_of_lt al);have hm:(m:Int)≠0:=by omega
 show (if IntKind.i64=IntKind.i64/\(m:Int)≠0 then some (ae.int .i64 ((k:Int).tmod m)) else none)=_;rw[if_pos ⟨rfl,hm⟩,Int.toNat_natCast];rfl
theorem abd (k:IntKind) (w n:Nat) :rep n (.int k 0)=(List.replicate n (0#w)).map fun x=>.int k (u x) :=by
 simp[rep]
theorem md {α:Type} (f:α->ae) (l:List α) (i:Nat) (x:α) (h:i<l.length) :bU (l.map f) i [f x]=(l.set i x).map f:=by
 unfold bU;rw[List.set_eq_take_append_cons_drop,if_pos h];simp
theorem lN {cs vs:List ae} (h:vs.length=cs.length) :bU cs 0 vs=vs:=by
 unfold bU;rw[Nat.zero_add,List.take_zero,List.nil_append,h,List.drop_length,List.append_nil]
theorem a7 {l:av} {c c' : ae} (h:c=c') (al:c'.closed=true) :Rd l c c':=by subst h; exact .same _ al
theorem wD {α:Type} {z:Nat}:∀ (es:List (List α)),(∀ e∈es,e.length=z)->∀ (i j:Nat) (e:List α) (c:α),es[i]? = some e->e[j]? = some c->es.flatten[i*z+j]? = some c:=by
 intro es aC
 induction es with
 | nil=>intro i j e c aw; simp at aw
 | cons x es aM=>
  intro i j e c aw am;have ak:x.length=z:=aC x (by simp);cases i with
  | zero=>
   simp only[List.getElem?_cons_zero,Option.some.injEq] at aw;subst aw;rw[List.flatten_cons,Nat.zero_mul,Nat.zero_add,List.getElem?_append_left (List.getElem?_eq_some_iff.1 am).1];exact am
  | succ i=>
   simp only[List.getElem?_cons_succ] at aw;rw[List.flatten_cons,List.getElem?_append_right (by rw[ak,Nat.succ_mul]; omega),ak,show (i+1)*z+j - z=i*z+j by rw[Nat.succ_mul]; omega];exact aM (fun e aw=>aC e (by simp[aw])) i j e c aw am
inductive rf (l:av) :List ae->List ae->Prop
 | nil:rf l [] []
 | cons {c c' cs cs'}:fc (bY l) c c'->rf l cs cs'->rf l (c::cs) (c'::cs')
theorem rf.len {l:av}:∀ {a b:List ae},rf l a b->b.length=a.length
 | _,_,.nil=>rfl
 | _,_,.cons _ h=>by simp[h.len]
theorem rf.get {l:av}:∀ {a b:List ae},rf l a b->∀ (j:Nat) (c c' : ae),a[j]? = some c->b[j]? = some c'->fc (bY l) c c'
 | _,_,.nil,j,c,c',h,_=>by simp at h
 | _,_,.cons h1 ag,j,c,c',h,h'=>by
  cases j with
  | zero=>simp at h h'; subst h h'; exact h1
  | succ j=>exact ag.get j c c' (by simpa using h) (by simpa using h')
theorem jc {P:Program} {G:Nat->ae} {f:FuncId} {args hk:List ae} {r:ae} {l:av} {K:ae->av->Prop} (aG:bT P G f hk r) (aD:rf l args hk) (aJ:r.flat=true) (h:K r l) :dp P G f args l (c:=⟨K⟩) :=
 ⟨r,l,.KC aG aD.len aD.get aJ,Nat.le_refl _,h⟩
theorem X2 {P:Program} {G:Nat->ae} {f:FuncId} {args hk:List ae} {r:ae} {l:av} {K:ae->av->Prop} (aG:h6 P G f hk r) (aD:rf l args hk) (h:K r l) :dp P G f args l (c:=⟨K⟩) :=
 ⟨r,l,.KD aG aD.len aD.get,Nat.le_refl _,h⟩
inductive iM (l:av) :ae->ae->Prop
 | flat (c:ae) (h:c.flat=true) :iM l c c
 | aV (cs cs' : List ae) (ar:cs'.length=cs.length) (h:∀ (j:Nat) (c c' : ae),cs[j]? = some c->cs'[j]? = some c'->iM l c c') :iM l (.aV cs) (.aV cs')
 | bP (cs cs' : List ae) (ar:cs'.length=cs.length) (h:∀ (j:Nat) (c c' : ae),cs[j]? = some c->cs'[j]? = some c'->iM l c c') :iM l (.bP cs) (.bP cs')
 | ao (z b off len cap sz:Nat) (cs:List ae) (es:List (List ae)) (aj:l[b]? = some (.cells sz cs)) (ar:es.length=len) (aC:∀ e∈es,e.length=z)
   (ec:off+len*z<=cs.length)
   (h:∀ (i j:Nat) (e:List ae) (c c' : ae),es[i]? = some e->e[j]? = some c'->cs[off+(i*z+j)]? = some c->iM l c c') :iM l (.ao z b off len cap sz) (.bW z es)
 | pA (z b off cap sz:Nat) :iM l (.ao z b off 0 cap sz) (.bW z [])
 | e1 (z:Nat) :iM l (.bW z []) (.bW z [])
theorem anG {w:World} {R:Nat->Prop} {B:Nat} {l:av} {μ:cD} (rel:b6 R B w (bY l) μ) :∀ {c c' : ae},iM l c c'->∀ {v:Value},aU w R (bY l) μ c v->eN w (fun k=>B<=k) c' v:=by
 intro c c' aD
 induction aD with
 | flat c h=>intro v ax; exact SL ax h
 | aV cs cs' ar h aM=>
  intro v ax;cases ax with
  | aV _ vs fI h1 ax=>
   refine .aV cs' vs (by omega) h1 (fun j c' v am eH=>?_);have aS:j<cs.length:=by rw[<-ar]; exact (List.getElem?_eq_some_iff.1 am).1
   exact aM j cs[j] c' (List.getElem?_eq_getElem aS) am (ax j cs[j] v (List.getElem?_eq_getElem aS) eH)
 | bP cs cs' ar h aM=>
  intro v ax;cases ax with
  | bP _ vs fI ax=>
   refine .bP cs' vs (by omega) (fun j c' v am eH=>?_);have aS:j<cs.length:=by rw[<-ar]; exact (List.getElem?_eq_some_iff.1 am).1
   exact aM j cs[j] c' (List.getElem?_eq_getElem aS) am (ax j cs[j] v (List.getElem?_eq_getElem aS) eH)
 | pA z b off cap sz=>
  intro v ax;cases ax with
  | ao _ _ _ _ _ _ cap' cs m aj hm ar az al=>exact .e1 z _ cap'
  | fE _ _ _ _ _ _ cap' a ar al ay=>exact .e1 z _ cap'
  | gR _ _ _ _ a cs m aj hm=>exact .e1 z a 0
 | e1 z=>
  intro v ax;generalize aw:([] :List (List ae))=es at ax;generalize wQ:ae.bW z es=uE at ax;cases ax<;>cases wQ
  ·subst aw; exact .e1 z _ _
  ·exact .e1 z _ _
 | ao z b off len cap sz cs es aj ar aC ec h aM=>
  intro v ax;have oO:(bY l).f b=.cells sz cs:=oB.2 aj;cases ax with
  | gR _ _ _ _ a gW m fz jC=>
   obtain rfl:=List.length_eq_zero_iff.1 ar;exact .e1 z a 0
  | fE _ _ _ _ _ _ cap' a ar al ay=>
   exfalso;rcases ay with ay | ⟨n,gW,ay,aS⟩
   ·rw[oO] at ay; cases ay
   ·rw[oO] at ay; cases ay; omega
  | ao _ _ _ _ _ _ cap' gW m fz hm gC az al=>
   rw[oO] at fz; cases fz;have f0:=rel.blk b m hm;rw[oO] at f0;obtain⟨cH,eu,arr,t,fh,bx,aI,aJ,kO⟩:=f0;have cX:len<=cap':=by rcases al with ⟨_,h⟩ | ⟨_,h,_⟩<;>omega
   have rE:B<=m.r:=rel.base b m (by rw[oO]; rfl) hm;subst ar;have oP:∀ i j,i<es.length->j<z->∃ c v,cs[off+(i*z+j)]? = some c/\arr[m.s+(off+(i*z+j))]? = some v/\v.oneCell'=true/\aU w R (bY l) μ c v:=by
    intro i j aA am;have aS:off+(i*z+j)<cs.length:=by
     have:i*z+z<=es.length*z:=by rw[<-Nat.succ_mul]; exact Nat.mul_le_mul_right _ aA
     omega
    obtain⟨v,h1,ag,aq⟩:=kO _ _ (List.getElem?_eq_getElem aS);exact⟨_,v,List.getElem?_eq_getElem aS,h1,ag,aq⟩
   refine .bW z es m.r (m.s+off) cap' (fun i j=>(arr[m.s+(off+(i*z+j))]?).getD undef) cX aC (fun i j aA am=>?_) (fun i e aw j c' am=>?_)
   ·obtain⟨c,v,h1,ag,aq,aK⟩:=oP i j aA am;refine⟨?_,?_,rE,fun ⟨b,m,h1,ag,aq⟩=>by cases ag⟩
    ·simp only[World.cell?,bx,ag,Option.getD_some,Option.isSome_none];rw[show m.s+off+(i*z+j)=m.s+(off+(i*z+j)) by omega,ag]; rfl
    ·rw[ag]; exact aq
   ·have aA:i<es.length:=(List.getElem?_eq_some_iff.1 aw).1;have kQ:j<z:=by rw[<-aC e (List.mem_of_getElem? aw)]; exact (List.getElem?_eq_some_iff.1 am).1
    obtain⟨c,v,h1,ag,aq,aK⟩:=oP i j aA kQ;simp only[ag,Option.getD_some];exact aM i j e c c' aw am h1 aK
theorem Ak {P:Program} {G:Nat->ae} (kq:P.follows .mixedOrders=true) (jt:∀ g,(G g).closed=true) {f:FuncId} {args:List ae} {r:ae} (h:dp P G f args [] (c:=⟨fun ky l=>iM l ky r⟩)) :h6 P G f args r:=by
 obtain⟨ky,l',h1,ag,aq⟩:=h;intro w A vs ay ar ax;refine (ND (A:=A) kq jt h1 ay ar ax).mono ?_;rintro e w' ⟨v,μ',rfl,aj,rel,aD⟩;exact⟨v,rfl,aj,anG rel aq aD⟩
theorem anF {l:av} {z b n cap sz:Nat} {es:List (List ae)} {rest:List ae} (aj:l[b]? = some (.cells sz (es.flatten++rest))) (aH:es.length=n) (aC:∀ e∈es,e.length=z) (al:∀ e∈es,kg e=true) :iM l (.ao z b 0 n cap sz) (.bW z es) :=by
 have fT:=lo (z:=z) (es:=es) (fun e aw=>aC e aw);refine .ao z b 0 n cap sz _ es aj aH aC (by rw[List.length_append,fT,aH]; omega) (fun i j e c c' aw am c7=>?_);have aA:i<es.length:=(List.getElem?_eq_some_iff.1 aw).1;have kQ:j<z:=by rw[<-aC e (List.mem_of_getElem? aw)]; exact (List.getElem?_eq_some_iff.1 am).1
 have aS:i*z+j<es.flatten.length:=by
  rw[fT];have:i*z+z<=es.length*z:=by rw[<-Nat.succ_mul]; exact Nat.mul_le_mul_right _ aA
  omega
 have h1:es.flatten[i*z+j]? = some c':=wD es aC i j e c' aw am;rw[Nat.zero_add,List.getElem?_append_left aS,h1] at c7;cases c7;exact .flat _ (BG (al e (List.mem_of_getElem? aw)) j _ am)
theorem aa1 {l:av} {c:ae} (h:c.closed=true) :fc (bY l) c c:=.same c h
@[simp] theorem atK (n z:Nat) (cs:List ae) (k:IntKind) (i:Int) :zS n z (.aV cs) (.int k i)=if 0<=i/\i<n then cs[i.toNat*z]? else none:=id rfl
@[simp] theorem atL (n z:Nat) (cs:List ae) (k:IntKind) (i:Int) :zT n z (.aV cs) (.int k i)=if 0<=i/\i<n then qO z cs (i.toNat*z) else none:=id rfl
@[simp] theorem xq (s:List UInt8) (k:IntKind) (i:Int) :vu (.str s) (.int k i)=if 0<=i then (s[i.toNat]?).map hL else none:=id rfl
theorem aok {α:Type} {l:List α} {i:Nat} {x:α} (h:l[i]? = some x) :l.set i x=l:=by
 obtain⟨aA,rfl⟩:=List.getElem?_eq_some_iff.1 h;exact List.set_getElem_self aA
theorem kI {α:Type} (f:α->ae) (aJ:∀ x,(f x).closed=true) :∀ l:List α,bV (l.map f)=true
 | []=>rfl
 | x::l=>by simp only[List.map_cons,bV,aJ,kI f aJ l,Bool.and_self]
theorem RW {α:Type} (f:α->ae) (aJ:∀ x,(f x).closed=true) (l:List α) :(ae.aV (l.map f)).closed=true:=by simp only[ae.closed]; exact kI f aJ l
theorem wC {α:Type} (f:α->ae) (aJ:∀ x,(f x).flat=true) :∀ l:List α,kg (l.map f)=true
 | []=>rfl
 | x::l=>by simp only[List.map_cons,kg,aJ,wC f aJ l,Bool.and_self]
theorem SJ {α:Type} (f:α->ae) (aJ:∀ x,(f x).flat=true) (l:List α) :(ae.aV (l.map f)).flat=true:=by simp only[ae.flat]; exact wC f aJ l
@[simp] theorem aru (z:Nat) :rp (.ao z) .aZ=some (.int .i64 0) :=id rfl
@[simp] theorem art (n z:Nat) (x:ae) :rp (.arr n z) x=some (.int .i64 n) :=id rfl
theorem awu (z:Nat) (cP aA cB:Option ae) :fu (.ao z) .aZ cP aA cB=(fH 0 0 cP aA cB).map fun _=>.aZ:=rfl
@[simp] theorem awv (z:Nat) (k:IntKind) :fu (.ao z) .aZ none (some (.int k 0)) none=some .aZ:=id rfl
theorem vP (z b off len cap sz:Nat) (cP aA cB:Option ae) :fu (.ao z) (.ao z b off len cap sz) cP aA cB=(fH len cap cP aA cB).map fun (l,aQ,m)=>if m=l then .ao z b (off+l*z) 0 0 sz else .ao z b (off+l*z) (aQ - l) (m - l) sz:=by
 simp[fu]
theorem Aa {α:Type} {l:List α} {a:α} (h:l[0]? = some a) :∃ r,l=a::r:=by
 cases l with
 | nil=>simp at h
 | cons x l=>simp at h; subst h; exact⟨l,rfl⟩
theorem ape {α:Type} {l:List α} {b:α} (h:l[1]? = some b) :∃ a r,l=a::b::r:=by
 cases l with
 | nil=>simp at h
 | cons x l=>obtain⟨r,rfl⟩:=Aa (l:=l) (by simpa using h); exact⟨x,r,rfl⟩
theorem xR (zero:List ae) (n:Nat) :(dd zero n).length=n*zero.length:=by
 induction n with
 | zero=>simp[dd]
 | succ n aM=>simp[dd,aM,Nat.succ_mul,Nat.add_comm]
theorem DI (zero:List ae) (n:Nat) :dd zero n=(List.replicate n zero).flatten:=by
 induction n with
 | zero=>rfl
 | succ n aM=>rw[dd,aM,List.replicate_succ,List.flatten_cons]
inductive b0 (z:Nat) (l:av) :ae->Nat->List (List ae)->Prop
 | nil (j:Nat) :b0 z l .aZ j []
 | ao (j n cap sz:Nat) (cs:List ae) (es:List (List ae)) (aj:l[j]? = some (.cells sz cs)) (ar:cs.length=sz) (aH:es.length=n) (aC:∀ e∈es,e.length=z) (al:n<=cap) (cX:cap*z<=sz)
   (cH:cs.take (n*z)=es.flatten) :b0 z l (.ao z j 0 n cap sz) j es
def cS:ae->Bool | .aZ=>true | _=>false
theorem iC {v:ae}:cS v=true<->v=.aZ:=by cases v<;>simp[cS]
theorem r4 {α:Type} {v bc:ae} {xs:List α} (h:bc=.aZ<->v=.aZ/\xs=[]) :cS bc=(cS v&&xs.isEmpty) :=by
 rw[Bool.eq_iff_iff,iC,h,Bool.and_eq_true,iC,List.isEmpty_iff]
def qY (z:Nat) (v:ae) (es:List (List ae)) :ae:=match cS v with | true=>.aZ | false=>.bW z es
section
variable {z:Nat} {l l' : av} {v:ae} {j:Nat} {es:List (List ae)}
theorem b0.lt (h:b0 z l v j es) :v=.aZ\/j<l.length:=by
 cases h with
 | nil j=>exact .inl rfl
 | ao j n cap sz cs es aj=>exact .inr (fi aj)
theorem b0.row (h:b0 z l v j es) :∀ e∈es,e.length=z:=by
 cases h with
 | nil j=>intro e aw; cases aw
 | ao j n cap sz cs es aj ar aH aC=>exact aC
theorem b0.cells (h:b0 z l v j es) :v.cells=some [v] :=by cases h<;>rfl
theorem b0.len (h:b0 z l v j es) :db (.ao z) v=some (.int .i64 es.length) :=by
 cases h with
 | nil j=>rfl
 | ao j n cap sz cs es aj ar aH=>subst aH; rfl
theorem b0.frame (h:b0 z l v j es) (am:j<l.length->l'[j]? = l[j]?) :b0 z l' v j es:=by
 cases h with
 | nil j=>exact .nil j
 | ao j n cap sz cs es aj ar aH aC al cX cH=>exact .ao j n cap sz cs es (by rw[am (fi aj)]; exact aj) ar aH aC al cX cH
theorem b0.yU (h:b0 z l v j es) (am:v=.aZ\/l'[j]? = l[j]?) :b0 z l' v j es:=by
 cases h with
 | nil j=>exact .nil j
 | ao j n cap sz cs es aj ar aH aC al cX cH=>
  rcases am with am | am
  ·cases am
  ·exact .ao j n cap sz cs es (by rw[am]; exact aj) ar aH aC al cX cH
theorem b0.more (h:b0 z l v j es) (x:av) :b0 z (l++x) v j es:=h.frame fun am=>List.getElem?_append_left am
theorem b0.contents (h:b0 z l v j es) :dj l z v=some (es.flatten,es.length) :=by
 cases h with
 | nil j=>rfl
 | ao j n cap sz cs es aj ar aH aC al cX cH=>subst aH; simp only[dj,aj,and_self,if_true,List.drop_zero,cH]
theorem b0.DE (h:b0 z l v j es) (aJ:∀ e∈es,kg e=true) :iM l v (qY z v es) :=by
 cases h with
 | nil j=>exact .flat _ rfl
 | ao j n cap sz cs es aj ar aH aC al cX cH=>
  show iM l _ (.bW z es);refine anF (rest:=cs.drop (n*z)) ?_ aH aC aJ;rw[aj,<-cH,List.take_append_drop]
theorem b0.qU (h:b0 z l v j es) (aJ:∀ e∈es,bV e=true) :fc (bY l) v (qY z v es) :=by
 cases h with
 | nil j=>exact .same _ rfl
 | ao j n cap sz cs es aj ar aH aC al cX cH=>
  show fc (bY l) _ (.bW z es);have nX:n*z<=cs.length:=by rw[ar]; exact Nat.le_trans (Nat.mul_le_mul_right _ al) cX
  refine .ao z j 0 n cap sz cs es (oB.2 aj) aH aC (by omega) (fun i k e c c' aw aF c7=>?_);have aA:i<es.length:=(List.getElem?_eq_some_iff.1 aw).1;have Ix:k<z:=by rw[<-aC e (List.mem_of_getElem? aw)]; exact (List.getElem?_eq_some_iff.1 aF).1
  have aS:i*z+k<n*z:=by
   have:i*z+z<=es.length*z:=by rw[<-Nat.succ_mul]; exact Nat.mul_le_mul_right _ aA
   rw[aH] at this; omega
  have h1:es.flatten[i*z+k]? = some c':=wD es aC i k e c' aw aF;rw[<-cH,List.getElem?_take_of_lt aS] at h1;rw[Nat.zero_add,h1] at c7;cases c7;exact .same _ (yE (aJ e (List.mem_of_getElem? aw)) k _ aF)
theorem Ap {l:av} {z b n cap sz:Nat} {es:List (List ae)} {rest:List ae} (aj:l[b]? = some (.cells sz (es.flatten++rest))) (aH:es.length=n) (aC:∀ e∈es,e.length=z) (al:∀ e∈es,bV e=true) :fc (bY l) (.ao z b 0 n cap sz) (.bW z es) :=by
 have fT:=lo (z:=z) (es:=es) (fun e aw=>aC e aw);refine .ao z b 0 n cap sz _ es (oB.2 aj) aH aC (by rw[List.length_append,fT,aH]; omega) (fun i j e c c' aw am c7=>?_);have aA:i<es.length:=(List.getElem?_eq_some_iff.1 aw).1;have kQ:j<z:=by rw[<-aC e (List.mem_of_getElem? aw)]; exact (List.getElem?_eq_some_iff.1 am).1
 have aS:i*z+j<es.flatten.length:=by
  rw[fT];have:i*z+z<=es.length*z:=by rw[<-Nat.succ_mul]; exact Nat.mul_le_mul_right _ aA
  omega
 have h1:es.flatten[i*z+j]? = some c':=wD es aC i j e c' aw am;rw[Nat.zero_add,List.getElem?_append_left aS,h1] at c7;cases c7;exact .same _ (yE (al e (List.mem_of_getElem? aw)) j _ am)
theorem Oo (h:b0 z l v j es) {by_ m:Nat} {xs:List (List ae)} (hm:xs.length=m) (kY:∀ e∈xs,e.length=z) (aO:z≠0) (dE:by_≠0) (dk:(es.length+m)*by_<=cQ) :
  ∃ bc cJ l',hK l z by_ v xs.flatten m=some (bc,l')/\b0 z l' bc cJ (es++xs)/\l.length<=l'.length/\(∀ b,b<l.length->b≠j->l'[b]? = l[b]?)/\(cJ=j\/l.length<=cJ)/\(bc=.aZ<->v=.aZ/\xs=[]) :=by
 by_cases ig:m=0
 ·have ak:xs=[] :=List.length_eq_zero_iff.1 (by omega);subst ak;refine⟨v,j,l,?_,by simpa using h,Nat.le_refl _,fun _ _ _=>rfl,.inl rfl,by simp⟩;unfold hK;rw[if_pos ig];cases h<;>rfl
 have bJ:xs.flatten.length=m*z:=by rw[lo kY,hm]
 have jZ:∀ e∈es++xs,e.length=z:=fun e aw=>by
  rcases List.mem_append.1 aw with h1 | h1
  ·exact h.row e h1
  ·exact kY e h1
 have b7:xs≠[] :=fun ak=>ig (by rw[<-hm,ak]; rfl)
 cases h with
 | nil j=>
  refine⟨.ao z l.length 0 m m (m*z),l.length,l++[.cells (m*z) xs.flatten],?_,?_,by simp,fun b aj _=>List.getElem?_append_left aj,.inr (Nat.le_refl _),by simp[b7]⟩
  ·unfold hK;rw[if_neg ig,if_neg (by omega)];simp only;rw[if_pos (by simpa using dk)]
  ·refine .ao _ _ _ _ xs.flatten _ (by simp) bJ (by simpa using hm) jZ (Nat.le_refl _) (Nat.le_refl _) ?_;rw[List.take_of_length_le (by omega)]; rfl
 | ao j n cap sz cs es aj ar aH aC al cX cH=>
  subst aH;have nX:es.length*z<=cap*z:=Nat.mul_le_mul_right _ al;have tt:(es++xs).length=es.length+m:=by simp[hm]
  have fT:(es++xs).flatten=es.flatten++xs.flatten:=by simp
  have mL:es.flatten.length=es.length*z:=lo aC;have qa:hK l z by_ (.ao z j 0 es.length cap sz) xs.flatten m =
    if es.length+m<=cap then some (.ao z j 0 (es.length+m) cap sz,l.set j (.cells sz (bU cs (es.length*z) xs.flatten)))
    else if cap*z<sz then some (.ao z l.length 0 (es.length+m) (es.length+m) ((es.length+m)*z),l++[.cells ((es.length+m)*z) (es.flatten++xs.flatten)])
    else some (.ao z j 0 (es.length+m) (es.length+m) ((es.length+m)*z),l.set j (.cells ((es.length+m)*z) (es.flatten++xs.flatten))) :=by
   unfold hK;rw[if_neg ig,if_neg (by omega)];simp only[aj];rw[if_pos ⟨trivial,trivial,dk⟩];simp only[Nat.zero_add,List.drop_zero,cH,if_true]
  rw[qa];have eD:=fi aj;split
  ·rename_i h1;have ID:(es.length+m)*z<=cap*z:=Nat.mul_le_mul_right _ h1;rw[Nat.add_mul] at ID;refine⟨_,j,_,rfl,?_,by simp,fun b bK jw=>by rw[List.getElem?_set_ne (fun e=>jw e.symm)],.inl rfl,by simp⟩;refine .ao j _ cap sz (bU cs (es.length*z) xs.flatten) _ (by rw[List.getElem?_set_self eD]) ?_ tt jZ h1 cX ?_
   ·rw[pB (by omega)]; omega
   ·rw[fT];unfold bU;rw[cH,List.take_append_of_le_length (by simp[mL,bJ,Nat.add_mul]),List.take_of_length_le (by simp[mL,bJ,Nat.add_mul])]
  ·split
   ·refine⟨_,l.length,_,rfl,?_,by simp,fun b bK _=>List.getElem?_append_left bK,.inr (Nat.le_refl _),by simp⟩;refine .ao _ _ _ _ (es.flatten++xs.flatten) _ (by simp) (by simp[mL,bJ,Nat.add_mul]) tt jZ (Nat.le_refl _) (Nat.le_refl _) ?_;rw[fT,List.take_of_length_le (by simp[mL,bJ,Nat.add_mul])]
   ·refine⟨_,j,_,rfl,?_,by simp,fun b bK jw=>by rw[List.getElem?_set_ne (fun e=>jw e.symm)],.inl rfl,by simp⟩;refine .ao j _ _ _ (es.flatten++xs.flatten) _ (by rw[List.getElem?_set_self eD]) (by simp[mL,bJ,Nat.add_mul]) tt jZ (Nat.le_refl _) (Nat.le_refl _) ?_;rw[fT,List.take_of_length_le (by simp[mL,bJ,Nat.add_mul])]
theorem mu (h:b0 z l v j es) {by_:Nat} {x:ae} {xs:List (List ae)} (ak:dj l z x=some (xs.flatten,xs.length)) (kY:∀ e∈xs,e.length=z) (aO:z≠0) (dE:by_≠0) (dk:(es.length+xs.length)*by_<=cQ) :
  ∃ bc cJ l',iR l z by_ v x=some (bc,l')/\b0 z l' bc cJ (es++xs)/\l.length<=l'.length/\(∀ b,b<l.length->b≠j->l'[b]? = l[b]?)/\(cJ=j\/l.length<=cJ)/\(bc=.aZ<->v=.aZ/\xs=[]) :=by
 unfold iR;rw[ak];exact Oo h rfl kY aO dE dk
theorem adE (h:b0 z l v j es) {by_ n:Nat} {k:IntKind} {zero:List ae} (hA:zero.length=z) (aO:z≠0) (dE:by_≠0) (aH:n<9223372036854775808) (dk:(es.length+n)*by_<=cQ) :
  ∃ bc cJ l',oF l z by_ zero v (.int k (n:Int))=some (bc,l')/\b0 z l' bc cJ (es++List.replicate n zero)/\l.length<=l'.length/\(∀ b,b<l.length->b≠j->l'[b]? = l[b]?)/\(cJ=j\/l.length<=cJ)/\(bc=.aZ<->v=.aZ/\n=0) :=by
 have:=Oo h (xs:=List.replicate n zero) (m:=n) (by simp) (fun e aw=>by rw[(List.mem_replicate.1 aw).2,hA]) aO dE dk;obtain⟨bc,cJ,l',h1,ag⟩:=this;refine⟨bc,cJ,l',?_,by simpa [List.replicate_eq_nil_iff] using ag⟩;unfold oF;simp only[Int.toNat_natCast];rw[if_pos ⟨by omega,by omega,by have:=Nat.le_trans (Nat.mul_le_mul_right by_ (Nat.le_add_left n es.length)) dk; exact this⟩,DI];exact h1
theorem adG {l:av} {z by_ n:Nat} {v bc:ae} {xs:List ae} {pre rest:av} {l' : av} (ax:v=.aZ\/∃ j n cap sz,v=.ao z j 0 n cap sz/\pre.length<=j) (h:hK (pre++rest) z by_ v xs n=some (bc,l')) :
  ∃ j5,l'=pre++j5:=by
 unfold hK at h;by_cases aH:n=0
 ·rw[if_pos aH] at h;rcases ax with rfl | ⟨j,m,cap,sz,rfl,am⟩<;>(cases h; exact⟨_,rfl⟩)
 rw[if_neg aH] at h;by_cases aO:z=0\/by_=0
 ·rw[if_pos aO] at h; cases h
 rw[if_neg aO] at h;rcases ax with rfl | ⟨j,m,cap,sz,rfl,am⟩
 ·simp only at h;split at h
  ·cases h; exact⟨_,by rw[List.append_assoc]⟩
  ·cases h
 ·simp only at h;split at h
  ·split at h
   ·split at h
    ·cases h; exact⟨_,by rw[List.set_append_right _ _ am]⟩
    ·split at h
     ·cases h; exact⟨_,by rw[List.append_assoc]⟩
     ·split at h
      ·cases h; exact⟨_,by rw[List.set_append_right _ _ am]⟩
      ·rename_i aQ; exact absurd trivial aQ
   ·cases h
  ·cases h
theorem ym {z by_:Nat} {v:ae} {j:Nat} {es:List (List ae)} {pre rest:av} (h:b0 z (pre++rest) v j es) (am:v=.aZ\/pre.length<=j) {x:ae} {xs:List (List ae)} (ak:dj (pre++rest) z x=some (xs.flatten,xs.length)) (kY:∀ e∈xs,e.length=z) (aO:z≠0) (dE:by_≠0)
  (dk:(es.length+xs.length)*by_<=cQ) :
  ∃ bc cJ j5,iR (pre++rest) z by_ v x=some (bc,pre++j5)/\b0 z (pre++j5) bc cJ (es++xs)/\(bc=.aZ\/pre.length<=cJ)/\cS bc=(cS v&&xs.isEmpty) :=by
 have aJ:v=.aZ\/∃ j n cap sz,v=.ao z j 0 n cap sz/\pre.length<=j:=by
  cases h with
  | nil j=>exact .inl rfl
  | ao j n cap sz cs es=>exact .inr ⟨j,n,cap,sz,rfl,am.resolve_left (by simp)⟩
 obtain⟨bc,cJ,l',h1,ag,aq,aK,bg,bL⟩:=mu h ak kY aO dE dk;have er:=h1;unfold iR at er;rw[ak] at er;obtain⟨j5,rfl⟩:=adG (l:=[]) aJ er;refine⟨bc,cJ,j5,h1,ag,?_,r4 bL⟩;rcases bg with h | h
 ·rcases am with ax | am
  ·by_cases xn:xs=[]
   ·exact .inl (bL.2 ⟨ax,xn⟩)
   ·right;subst ax;have xl:xs.length≠0:=fun e=>xn (List.length_eq_zero_iff.1 e)
    simp only at er;unfold hK at er;rw[if_neg xl] at er;split at er
    ·cases er
    ·simp only at er;split at er
     ·obtain⟨rfl,_⟩:=Prod.mk.inj (Option.some.inj er);generalize es++xs=E at ag;cases ag;simp
     ·cases er
  ·right; omega
 ·right;rw[List.length_append] at h; omega
theorem b0.view (h:b0 z l v j es) (ax:cS v=false) :∃ n cap sz cs,v=.ao z j 0 n cap sz/\l[j]? = some (.cells sz cs)/\cs.length=sz/\es.length=n/\n*z<=sz/\(∀ i e,es[i]? = some e->∀ m,m<z->cs[i*z+m]? = e[m]?)/\cs.take (n*z)=es.flatten:=by
 cases h with
 | nil j=>simp[cS] at ax
 | ao j n cap sz cs es aj ar aH aC al cX cH=>
  refine⟨n,cap,sz,cs,rfl,aj,ar,aH,Nat.le_trans (Nat.mul_le_mul_right _ al) cX,fun i e aw m hm=>?_,cH⟩;have aA:i<es.length:=(List.getElem?_eq_some_iff.1 aw).1;have aS:i*z+m<n*z:=by
   have:i*z+z<=es.length*z:=by rw[<-Nat.succ_mul]; exact Nat.mul_le_mul_right _ aA
   rw[aH] at this; omega
  have h1:=Hy aC aw hm;rw[<-h1,<-cH,List.getElem?_take_of_lt aS]
theorem b0.Ar {α:Type} {enc:α->List ae} {xs:List α} (h:b0 z l v j (xs.map enc)) (aJ:∀ x,kg (enc x)=true) (s:eh α) (au:cS v=s.isNone) (ak:s.l=xs) :iM l v (cO z enc s) :=by
 have h1:=h.DE (fun e aw=>by obtain⟨x,_,rfl⟩:=List.mem_map.1 aw; exact aJ x);subst ak;unfold qY at h1;rw[au] at h1;cases s with
 | none=>exact h1
 | some s=>exact h1
theorem b0.qV {α:Type} {enc:α->List ae} {xs:List α} (h:b0 z l v j (xs.map enc)) (aJ:∀ x,bV (enc x)=true) (s:eh α) (au:cS v=s.isNone) (ak:s.l=xs) :fc (bY l) v (cO z enc s) :=by
 have h1:=h.qU (fun e aw=>by obtain⟨x,_,rfl⟩:=List.mem_map.1 aw; exact aJ x);subst ak;unfold qY at h1;rw[au] at h1;cases s with
 | none=>exact h1
 | some s=>exact h1
end
def xP (h:aR) :Nat->ae->Option ae
 | 0,_=>none
 | d+1,c=>match c with
  | .aV cs=>match nd (xP h d) cs with | some cs'=>some (.aV cs') | none=>none
  | .bP cs=>match nd (xP h d) cs with | some cs'=>some (.bP cs') | none=>none
  | .ao z b off len cap sz=>match Nat.beq len 0 with
   | true=>some (.bW z [])
   | false=>match h.f b with
    | .cells n cs=>match Nat.beq n sz&&Nat.ble (off+len*z) cs.length with
     | true=>match nd (xP h d) ((cs.drop off).take (len*z)) with
      | some xs=>some (.bW z (kf z len xs))
      | none=>none
     | false=>none
    | _=>none
  | c=>match c.flat with | true=>some c | false=>none
theorem DF {h:aR} {l:av} (r:d3 h l) :∀ (d:Nat) (c c' : ae),xP h d c=some c'->iM l c c'
 | 0,c,c',ak=>by cases ak
 | d+1,c,c',ak=>by
  unfold xP at ak;split at ak
  ·split at ak
   ·rename_i h1; cases ak;exact .aV _ _ (qT h1) (fun j c c' al eY=>DF r d c c' (qS h1 j c c' al eY))
   ·cases ak
  ·split at ak
   ·rename_i h1; cases ak;exact .bP _ _ (qT h1) (fun j c c' al eY=>DF r d c c' (qS h1 j c c' al eY))
   ·cases ak
  ·rename_i z b off len cap sz;split at ak
   ·rename_i aO;cases ak;rw[Nat.eq_of_beq_eq_true aO];exact .pA z b off cap sz
   ·split at ak
    ·rename_i n cs aj;split at ak
     ·rename_i dP;simp only[Bool.and_eq_true] at dP;have aH:=Nat.eq_of_beq_eq_true dP.1;have dO:=Nat.le_of_ble_eq_true dP.2;subst aH;split at ak
      ·rename_i xs h1;cases ak;have bJ:=qT h1;simp only[List.length_take,List.length_drop] at bJ;have r1:xs.length=len*z:=by omega
       have dU:∀ (i:Nat),i<len->(kf z len xs)[i]? = some ((xs.drop (i*z)).take z) :=fun i aA=>Bl len xs i aA
       have dF:∀ i,i<len->i*z+z<=len*z:=fun i aA=>by rw[<-Nat.succ_mul]; exact Nat.mul_le_mul_right _ aA
       refine .ao z b off len cap n cs _ (r.some aj (by simp)) (sV _ _) (fun e aw=>?_) dO (fun i j e c c' aw am al=>?_)
       ·obtain⟨i,aA⟩:=List.mem_iff_getElem?.1 aw;have d5:i<len:=by
         have:=(List.getElem?_eq_some_iff.1 aA).1;rw[sV] at this; exact this
        rw[dU i d5] at aA;cases aA;have:=dF i d5;simp; omega
       ·have d5:i<len:=by
         have:=(List.getElem?_eq_some_iff.1 aw).1;rw[sV] at this; exact this
        rw[dU i d5] at aw;cases aw;have wV:=dF i d5;have kQ:j<z:=by have:=(List.getElem?_eq_some_iff.1 am).1; simp at this; omega
        rw[List.getElem?_take_of_lt kQ,List.getElem?_drop] at am;refine DF r d c c' (qS h1 (i*z+j) c c' ?_ am);rw[List.getElem?_take_of_lt (by omega),List.getElem?_drop];exact al
      ·cases ak
     ·cases ak
    ·cases ak
  ·split at ak
   ·rename_i al; cases ak; exact .flat _ al
   ·cases ak
def abu (P:Program) (G:Nat->ae) [oC P G] (orc:nt) (jN:sG) (fuel k:Nat) (f:FuncId) (args:List ae) (r:ae) :Bool:=
 match yz P G orc jN fuel k f args aR.empty with
 | some (v,h)=>match xP h 20 v with
  | some bc=>ae.beq bc r
  | none=>false
 | none=>false
theorem vI {P:Program} {G:Nat->ae} [oC P G] (kq:P.follows .mixedOrders=true) (jt:∀ g,(G g).closed=true) {orc:nt} {jN:sG} (az:v8 P G orc) (aW:ye P jN) {fuel k:Nat} {f:FuncId} {args:List ae} {r:ae}
  (ak:abu P G orc jN fuel k f args r=true) :h6 P G f args r:=by
 unfold abu at ak;split at ak
 ·rename_i v h al;split at ak
  ·rename_i bc ax;obtain⟨l',aD,ag⟩:=G8 az aW fuel k f args aR.empty v h [] d3.nil al;have:=ae.beq_eq ak;subst this;exact Ak kq jt (ag _ (DF aD 20 v bc ax))
  ·cases ak
 ·cases ak
inductive dB (z:Nat) (l:av) :ae->Nat->List (List ae)->Prop
 | nil (j:Nat) :dB z l .aZ j []
 | ao (j off n cap sz:Nat) (cs:List ae) (es:List (List ae)) (aj:l[j]? = some (.cells sz cs)) (ar:cs.length=sz) (aH:es.length=n) (aC:∀ e∈es,e.length=z) (al:n<=cap) (cX:off+cap*z<=sz)
   (cH:(cs.drop off).take (n*z)=es.flatten) :dB z l (.ao z j off n cap sz) j es
section
variable {z:Nat} {l l' : av} {v:ae} {j:Nat} {es:List (List ae)}
theorem b0.q (h:b0 z l v j es) :dB z l v j es:=by
 cases h with
 | nil j=>exact .nil j
 | ao j n cap sz cs es aj ar aH aC al cX cH=>exact .ao j 0 n cap sz cs es aj ar aH aC al (by omega) (by simpa using cH)
theorem dB.row (h:dB z l v j es) :∀ e∈es,e.length=z:=by
 cases h with
 | nil j=>intro e aw; cases aw
 | ao j off n cap sz cs es aj ar aH aC=>exact aC
theorem dB.lt (h:dB z l v j es) :v=.aZ\/j<l.length:=by
 cases h with
 | nil j=>exact .inl rfl
 | ao j off n cap sz cs es aj=>exact .inr (fi aj)
theorem dB.cells (h:dB z l v j es) :v.cells=some [v] :=by cases h<;>rfl
theorem dB.len (h:dB z l v j es) :db (.ao z) v=some (.int .i64 es.length) :=by
 cases h with
 | nil j=>rfl
 | ao j off n cap sz cs es aj ar aH=>subst aH; rfl
theorem dB.yU (h:dB z l v j es) (am:v=.aZ\/l'[j]? = l[j]?) :dB z l' v j es:=by
 cases h with
 | nil j=>exact .nil j
 | ao j off n cap sz cs es aj ar aH aC al cX cH=>
  rcases am with am | am
  ·cases am
  ·exact .ao j off n cap sz cs es (by rw[am]; exact aj) ar aH aC al cX cH
theorem dB.more (h:dB z l v j es) (x:av) :dB z (l++x) v j es:=h.yU (by
 rcases h.lt with h | h
 ·exact .inl h
 ·exact .inr (List.getElem?_append_left h))
theorem dB.xA (h:dB z l .aZ j es) :es=[] :=by
 generalize ax:ae.aZ=w at h;cases h with
 | nil j=>rfl
 | ao=>cases ax
theorem adD (h:dB z l v j es) {by_ m:Nat} {xs:List (List ae)} (hm:xs.length=m) (kY:∀ e∈xs,e.length=z) (aO:z≠0) (dE:by_≠0) (dk:(es.length+m)*by_<=cQ) :
  ∃ bc cJ l',hK l z by_ v xs.flatten m=some (bc,l')/\dB z l' bc cJ (es++xs)/\l.length<=l'.length/\(∀ b,b<l.length->(v=.aZ\/b≠j)->l'[b]? = l[b]?)/\(bc=.aZ\/(v≠.aZ/\cJ=j)\/l.length<=cJ)/\(bc=.aZ<->v=.aZ/\xs=[]) :=by
 by_cases ig:m=0
 ·have ak:xs=[] :=List.length_eq_zero_iff.1 (by omega);subst ak;refine⟨v,j,l,?_,by simpa using h,Nat.le_refl _,fun _ _ _=>rfl,?_,by simp⟩
  ·unfold hK;rw[if_pos ig];cases h<;>rfl
  ·by_cases ax:v=.aZ
   ·exact .inl ax
   ·exact .inr (.inl ⟨ax,rfl⟩)
 have bJ:xs.flatten.length=m*z:=by rw[lo kY,hm]
 have jZ:∀ e∈es++xs,e.length=z:=fun e aw=>by
  rcases List.mem_append.1 aw with h1 | h1
  ·exact h.row e h1
  ·exact kY e h1
 have b7:xs≠[] :=fun ak=>ig (by rw[<-hm,ak]; rfl)
 cases h with
 | nil j=>
  refine⟨.ao z l.length 0 m m (m*z),l.length,l++[.cells (m*z) xs.flatten],?_,?_,by simp,fun b aj _=>List.getElem?_append_left aj,.inr (.inr (Nat.le_refl _)),by simp[b7]⟩
  ·unfold hK;rw[if_neg ig,if_neg (by omega)];simp only;rw[if_pos (by simpa using dk)]
  ·refine .ao _ _ _ _ _ xs.flatten _ (by simp) bJ (by simpa using hm) jZ (Nat.le_refl _) (by omega) ?_;rw[List.drop_zero,List.take_of_length_le (by omega)]; rfl
 | ao j off n cap sz cs es aj ar aH aC al cX cH=>
  subst aH;have nX:es.length*z<=cap*z:=Nat.mul_le_mul_right _ al;have tt:(es++xs).length=es.length+m:=by simp[hm]
  have fT:(es++xs).flatten=es.flatten++xs.flatten:=by simp
  have mL:es.flatten.length=es.length*z:=lo aC;have qa:hK l z by_ (.ao z j off es.length cap sz) xs.flatten m =
    if es.length+m<=cap then some (.ao z j off (es.length+m) cap sz,l.set j (.cells sz (bU cs (off+es.length*z) xs.flatten)))
    else if off+cap*z<sz then some (.ao z l.length 0 (es.length+m) (es.length+m) ((es.length+m)*z),l++[.cells ((es.length+m)*z) (es.flatten++xs.flatten)])
    else if off=0 then some (.ao z j 0 (es.length+m) (es.length+m) ((es.length+m)*z),l.set j (.cells ((es.length+m)*z) (cs.take (es.length*z)++xs.flatten)))
    else some (.ao z l.length 0 (es.length+m) (es.length+m) ((es.length+m)*z),l.set j .dead++[.cells ((es.length+m)*z) (es.flatten++xs.flatten)]) :=by
   unfold hK;rw[if_neg ig,if_neg (by omega)];simp only[aj];rw[if_pos ⟨trivial,trivial,dk⟩];simp only[cH]
  rw[qa];have eD:=fi aj;have nW:∀ eB:av,eB.length=l.length->dB z (eB++[.cells ((es.length+m)*z) (es.flatten++xs.flatten)]) (.ao z l.length 0 (es.length+m) (es.length+m) ((es.length+m)*z)) l.length (es++xs) :=fun eB tq=>by
   refine .ao _ _ _ _ _ (es.flatten++xs.flatten) _ (by rw[<-tq]; simp) (by simp[mL,bJ,Nat.add_mul]) tt jZ (Nat.le_refl _) (by omega) ?_;rw[fT,List.drop_zero,List.take_of_length_le (by simp[mL,bJ,Nat.add_mul])]
  split
  ·rename_i h1;have ID:(es.length+m)*z<=cap*z:=Nat.mul_le_mul_right _ h1;rw[Nat.add_mul] at ID;refine⟨_,j,_,rfl,?_,by simp,fun b bK jw=>by rw[List.getElem?_set_ne (fun e=>(jw.resolve_left (by simp)) e.symm)],.inr (.inl ⟨by simp,rfl⟩),by simp⟩;refine .ao j off _ cap sz (bU cs (off+es.length*z) xs.flatten) _ (by rw[List.getElem?_set_self eD]) ?_ tt jZ h1 cX ?_
   ·rw[pB (by omega)]; omega
   ·rw[fT];unfold bU;have aW:cs.take (off+es.length*z)=cs.take off++es.flatten:=by rw[List.take_add,cH]
    have atp:(cs.take off).length=off:=by rw[List.length_take]; omega
    rw[aW,List.append_assoc,List.append_assoc,List.drop_append_of_le_length (by omega),List.drop_of_length_le (by omega),List.nil_append,<-List.append_assoc,List.take_append_of_le_length (by simp[mL,bJ,Nat.add_mul]),List.take_of_length_le (by simp[mL,bJ,Nat.add_mul])]
  ·split
   ·exact⟨_,l.length,_,rfl,nW l rfl,by simp,fun b bK _=>List.getElem?_append_left bK,.inr (.inr (Nat.le_refl _)),by simp⟩
   ·split
    ·rename_i w4;subst w4;rw[List.drop_zero] at cH;refine⟨_,j,_,rfl,?_,by simp,fun b bK jw=>by rw[List.getElem?_set_ne (fun e=>(jw.resolve_left (by simp)) e.symm)],.inr (.inl ⟨by simp,rfl⟩),by simp⟩;refine .ao j 0 _ _ _ (cs.take (es.length*z)++xs.flatten) _ (by rw[List.getElem?_set_self eD]) (by rw[cH]; simp[mL,bJ,Nat.add_mul]) tt jZ (Nat.le_refl _) (by omega) ?_;rw[cH,fT,List.drop_zero,List.take_of_length_le (by simp[mL,bJ,Nat.add_mul])]
    ·refine⟨_,l.length,_,rfl,nW _ (by simp),by simp,fun b bK jw=>?_,.inr (.inr (Nat.le_refl _)),by simp⟩;rw[List.getElem?_append_left (by simpa using bK),List.getElem?_set_ne (fun e=>(jw.resolve_left (by simp)) e.symm)]
theorem amm {pre rest l' : av} (h:∀ b,b<pre.length->l'[b]? = (pre++rest)[b]?) (ar:pre.length<=l'.length) :∃ j5,l'=pre++j5:=by
 refine⟨l'.drop pre.length,?_⟩;apply List.ext_getElem?;intro i;by_cases aA:i<pre.length
 ·rw[h i aA,List.getElem?_append_left aA,List.getElem?_append_left aA]
 ·rw[List.getElem?_append_right (by omega),List.getElem?_drop]; congr 1; omega
theorem Oq {by_:Nat} {pre rest:av} (h:dB z (pre++rest) v j es) (am:v=.aZ\/pre.length<=j) {x:ae} {xs:List (List ae)} (ak:dj (pre++rest) z x=some (xs.flatten,xs.length)) (kY:∀ e∈xs,e.length=z) (aO:z≠0) (dE:by_≠0)
  (dk:(es.length+xs.length)*by_<=cQ) :
  ∃ bc cJ j5,iR (pre++rest) z by_ v x=some (bc,pre++j5)/\dB z (pre++j5) bc cJ (es++xs)/\(bc=.aZ\/pre.length<=cJ)/\cS bc=(cS v&&xs.isEmpty) ∧
   (∀ b,b<(pre++rest).length->(v=.aZ\/b≠j)->(pre++j5)[b]? = (pre++rest)[b]?)/\(bc=.aZ\/(v≠.aZ/\cJ=j)\/(pre++rest).length<=cJ) :=by
 obtain⟨bc,cJ,l',h1,ag,aq,aK,bg,bL⟩:=adD h (by_:=by_) rfl kY aO dE dk;have mQ:pre.length<=(pre++rest).length:=by simp
 obtain⟨j5,rfl⟩:=amm (pre:=pre) (rest:=rest) (l':=l') (fun b aj=>aK b (by omega) (by
  rcases am with h | h
  ·exact .inl h
  ·exact .inr (by omega))) (by omega)
 refine⟨bc,cJ,j5,?_,ag,?_,r4 bL,aK,bg⟩
 ·unfold iR; rw[ak]; exact h1
 ·rcases bg with h | ⟨h,h'⟩ | h
  ·exact .inl h
  ·rcases am with am | am
   ·exact absurd am h
   ·exact .inr (by omega)
  ·exact .inr (by omega)
theorem dB.from (h:dB z l v j es) (ax:cS v=false) {k:IntKind} {i:Nat} (aA:i<=es.length) :∃ bc,fu (.ao z) v (some (.int k (i:Int))) none none=some bc/\dB z l bc j (es.drop i)/\cS bc=false:=by
 cases h with
 | nil j=>simp[cS] at ax
 | ao j off n cap sz cs es aj ar aH aC al cX cH=>
  subst aH;have rQ:i*z+(cap - i)*z=cap*z:=by rw[<-Nat.add_mul]; congr 1; omega
  have UB:i*z+(es.length - i)*z=es.length*z:=by rw[<-Nat.add_mul]; congr 1; omega
  have dO:es.length*z<=cap*z:=Nat.mul_le_mul_right _ al;have Vi:∀ e∈es.drop i,e.length=z:=fun e aw=>aC e (List.mem_of_mem_drop aw)
  have fT:(es.drop i).flatten=(es.flatten).drop (i*z) :=by
   have h1:es.flatten=(es.take i).flatten++(es.drop i).flatten:=by rw[<-List.flatten_append,List.take_append_drop]
   have ag:(es.take i).flatten.length=i*z:=by
    rw[lo (z:=z) (fun e aw=>aC e (List.mem_of_mem_take aw)),List.length_take];congr 1; omega
   rw[h1,<-ag,List.drop_left]
  rw[vP,OU,if_pos ⟨by omega,by omega⟩];simp only[Int.toNat_natCast,Option.map_some,Option.some.injEq,exists_eq_left'];by_cases e4:cap=i
  ·rw[if_pos e4];have ahP:es.drop i=[] :=List.drop_of_length_le (by omega);refine⟨?_,rfl⟩;rw[ahP];exact .ao j _ 0 0 sz cs [] aj ar rfl (by simp) (Nat.le_refl _) (by omega) (by simp)
  ·rw[if_neg e4];refine⟨.ao j _ _ _ sz cs _ aj ar (by simp) Vi (by omega) (by omega) ?_,rfl⟩;rw[fT,<-cH,List.drop_take,List.drop_drop];congr 1; omega
theorem dB.get (h:dB z l v j es) {k:IntKind} {i:Nat} {e:List ae} (aw:es[i]? = some e) :∃ p cs o,cU (.ao z) v (.int k (i:Int))=some p/\d1 l p=some (cs,o)/\o+z<=cs.length/\(cs.drop o).take z=e:=by
 cases h with
 | nil j=>simp at aw
 | ao j off n cap sz cs es aj ar aH aC al cX cH=>
  subst aH;have aA:=(List.getElem?_eq_some_iff.1 aw).1;have h1:i*z+z<=es.length*z:=by rw[<-Nat.succ_mul]; exact Nat.mul_le_mul_right _ aA
  have ag:es.length*z<=cap*z:=Nat.mul_le_mul_right _ al;refine⟨.ptr j (off+i*z) sz,cs,off+i*z,?_,?_,by omega,?_⟩
  ·simp only[cU,Int.toNat_natCast];rw[if_pos ⟨trivial,by omega,by omega⟩]
  ·simp only[d1,aj,if_true]
  ·have ahS:=aC e (List.mem_of_getElem? aw);apply List.ext_getElem?;intro m;by_cases hm:m<z
   ·rw[List.getElem?_take_of_lt hm,List.getElem?_drop,<-Hy aC aw hm,<-cH,List.getElem?_take_of_lt (by omega),List.getElem?_drop];congr 1; omega
   ·rw[List.getElem?_eq_none (by simp; omega),List.getElem?_eq_none (by omega)]
theorem dB.DE (h:dB z l v j es) (aJ:∀ e∈es,kg e=true) :iM l v (qY z v es) :=by
 cases h with
 | nil j=>exact .flat _ rfl
 | ao j off n cap sz cs es aj ar aH aC al cX cH=>
  show iM l _ (.bW z es);have nX:off+n*z<=cs.length:=by rw[ar]; have:=Nat.mul_le_mul_right z al; omega
  refine .ao z j off n cap sz cs es aj aH aC (by omega) (fun i k e c c' aw aF c7=>?_);have aA:i<es.length:=(List.getElem?_eq_some_iff.1 aw).1;have Ix:k<z:=by rw[<-aC e (List.mem_of_getElem? aw)]; exact (List.getElem?_eq_some_iff.1 aF).1
  have aS:i*z+k<n*z:=by
   have:i*z+z<=es.length*z:=by rw[<-Nat.succ_mul]; exact Nat.mul_le_mul_right _ aA
   rw[aH] at this; omega
  have h1:es.flatten[i*z+k]? = some c':=wD es aC i k e c' aw aF;rw[<-cH,List.getElem?_take_of_lt aS,List.getElem?_drop] at h1;rw[h1] at c7;cases c7;exact .flat _ (BG (aJ e (List.mem_of_getElem? aw)) k _ aF)
theorem dB.qU (h:dB z l v j es) (aJ:∀ e∈es,bV e=true) :fc (bY l) v (qY z v es) :=by
 cases h with
 | nil j=>exact .same _ rfl
 | ao j off n cap sz cs es aj ar aH aC al cX cH=>
  show fc (bY l) _ (.bW z es);have nX:off+n*z<=cs.length:=by rw[ar]; have:=Nat.mul_le_mul_right z al; omega
  refine .ao z j off n cap sz cs es (oB.2 aj) aH aC (by omega) (fun i k e c c' aw aF c7=>?_);have aA:i<es.length:=(List.getElem?_eq_some_iff.1 aw).1;have Ix:k<z:=by rw[<-aC e (List.mem_of_getElem? aw)]; exact (List.getElem?_eq_some_iff.1 aF).1
  have aS:i*z+k<n*z:=by
   have:i*z+z<=es.length*z:=by rw[<-Nat.succ_mul]; exact Nat.mul_le_mul_right _ aA
   rw[aH] at this; omega
  have h1:es.flatten[i*z+k]? = some c':=wD es aC i k e c' aw aF;rw[<-cH,List.getElem?_take_of_lt aS,List.getElem?_drop] at h1;rw[h1] at c7;cases c7;exact .same _ (yE (aJ e (List.mem_of_getElem? aw)) k _ aF)
theorem dB.rd (h:dB z l v j es) (aJ:∀ e∈es,bV e=true) :Rd l v (qY z v es) :=by
 cases h with
 | nil j=>exact .same _ rfl
 | ao j off n cap sz cs es aj ar aH aC al cX cH=>
  show Rd l _ (.bW z es);have nX:off+n*z<=cs.length:=by rw[ar]; have:=Nat.mul_le_mul_right z al; omega
  refine .ao z j off n cap sz cs es aj aH aC (by omega) (fun i k e c c' aw aF c7=>?_);have aA:i<es.length:=(List.getElem?_eq_some_iff.1 aw).1;have Ix:k<z:=by rw[<-aC e (List.mem_of_getElem? aw)]; exact (List.getElem?_eq_some_iff.1 aF).1
  have aS:i*z+k<n*z:=by
   have:i*z+z<=es.length*z:=by rw[<-Nat.succ_mul]; exact Nat.mul_le_mul_right _ aA
   rw[aH] at this; omega
  have h1:es.flatten[i*z+k]? = some c':=wD es aC i k e c' aw aF;rw[<-cH,List.getElem?_take_of_lt aS,List.getElem?_drop] at h1;rw[h1] at c7;cases c7;exact .same _ (yE (aJ e (List.mem_of_getElem? aw)) k _ aF)
theorem dB.xQ {α:Type} {enc:α->List ae} {xs:List α} (h:dB z l v j (xs.map enc)) (aJ:∀ x,bV (enc x)=true) (s:eh α) (au:cS v=s.isNone) (ak:s.l=xs) :Rd l v (cO z enc s) :=by
 have h1:=h.rd (fun e aw=>by obtain⟨x,_,rfl⟩:=List.mem_map.1 aw; exact aJ x);subst ak;unfold qY at h1;rw[au] at h1;cases s with
 | none=>exact h1
 | some s=>exact h1
theorem dB.Ar {α:Type} {enc:α->List ae} {xs:List α} (h:dB z l v j (xs.map enc)) (aJ:∀ x,kg (enc x)=true) (s:eh α) (au:cS v=s.isNone) (ak:s.l=xs) :iM l v (cO z enc s) :=by
 have h1:=h.DE (fun e aw=>by obtain⟨x,_,rfl⟩:=List.mem_map.1 aw; exact aJ x);subst ak;unfold qY at h1;rw[au] at h1;cases s with
 | none=>exact h1
 | some s=>exact h1
theorem dB.qV {α:Type} {enc:α->List ae} {xs:List α} (h:dB z l v j (xs.map enc)) (aJ:∀ x,bV (enc x)=true) (s:eh α) (au:cS v=s.isNone) (ak:s.l=xs) :fc (bY l) v (cO z enc s) :=by
 have h1:=h.qU (fun e aw=>by obtain⟨x,_,rfl⟩:=List.mem_map.1 aw; exact aJ x);subst ak;unfold qY at h1;rw[au] at h1;cases s with
 | none=>exact h1
 | some s=>exact h1
end
theorem adV {P:Program} {t:TypeId} {xs bd:List ae} {r:Bool} (ay:P.eqGuardType P.depth t=false) (h:dT P 10000 t (.aV xs) (.aV bd)=some r) :fw P .eql t (.aV xs) (.aV bd)=some (.bool r) :=by
 simp only[fw,s6,ay,Bool.not_false,if_true,h]; rfl
theorem adW {P:Program} {t:TypeId} {xs bd:List ae} {r:Bool} (ay:P.eqGuardType P.depth t=false) (h:dT P 10000 t (.aV xs) (.aV bd)=some r) :fw P .neq t (.aV xs) (.aV bd)=some (.bool (!r)) :=by
 simp only[fw,s6,ay,Bool.not_false,if_true,h]; rfl
end Go.cj

namespace Go.cj
open Go Go.ChangeShapes Go.RowKit
theorem ama (k:Nat) :¬ ka aR.empty (fun _=>none) k:=by
 rintro⟨b,m,ar,_,_⟩;simp[aR.empty,aR.f,live,cu.get] at ar
theorem agu {H:Type} {enc:TypeId × Value->H} {P:Program} {w:World} {base:Nat} {spare:Nat->Bool} {held:Bool} {fuel:Nat} {Xn:String} {g t e n:Nat} {cs:Array Value} {x:DataW H × List MemPlace} (bQ:List Int)
  (ay:P.globalNamed Xn=some g) (ax:w.var? P Xn=some cs) (aL:P.underlying t=some (.array n e)) (aw:P.underlying e=some (.int .u32)) (al:P.cellsOf e=1) (bD:DataW.trod enc P w base spare held fuel t cs.toList=some x)
  (ak:x.1=.agg (bQ.map fun k=>.lit (.int .u32 k))) :eN w (fun _=>True) (.cp (bQ.map fun k=>.int .u32 k) 0) (.pointer (some ⟨g,0,none⟩)) :=by
 obtain⟨xs,m,rfl,xl,bw,aH,ahR⟩:=DataW.trod_array aL bD;rw[xl] at ak;simp only[DataW.agg.injEq] at ak;have tp:bQ.length=n:=by have:=congrArg List.length ak; simp at this; omega
 have kO:∀ j k,bQ[j]? = some k->w.cell? ⟨g,j,none⟩=some (.int .u32 k) :=by
  intro j k am;have kP:j<n:=by have:=(List.getElem?_eq_some_iff.1 am).1; omega
  have h1:=ahR j kP;rw[al,Nat.mul_one] at h1;have Ui:j<xs.length:=by omega
  rw[List.getElem?_eq_getElem Ui] at h1;obtain⟨k',a1,b3,_⟩:=DataW.trod_int aw h1;have aq:=congrArg (fun l=>l[j]?) ak;simp only[List.getElem?_map,List.getElem?_eq_getElem Ui,am,Option.map_some,Option.some.injEq] at aq;rw[b3] at aq;have mO:k'=k:=by simpa using aq
  subst mO;have aK:=World.var?_cell ay ax j;rw[aK];have bg:(cs.toList.drop j)[0]? = some (Value.int .u32 k') :=by
   have:((cs.toList.drop j).take 1)[0]? = some (Value.int .u32 k') :=by rw[a1]; rfl
   rw[List.getElem?_take] at this;simpa using this
  rw[List.getElem?_drop] at bg;simpa using bg
 refine .cp _ 0 g 0 (fun j=>.int .u32 (bQ.getD j 0)) (fun j am=>?_) (fun j c am=>?_)
 ·rw[List.length_map] at am;refine⟨?_,rfl,trivial,ama g⟩;rw[Nat.zero_add,kO j bQ[j] (List.getElem?_eq_getElem am),List.getD_eq_getElem?_getD,List.getElem?_eq_getElem am];rfl
 ·rw[List.getElem?_map] at am;cases aF:bQ[j]? with
  | none=>rw[aF] at am; cases am
  | some k=>
   rw[aF] at am;cases am;rw[List.getD_eq_getElem?_getD,aF];exact .int _ _
theorem aca {H:Type} {enc:TypeId × Value->H} {P:Program} {w:World} {base:Nat} {spare:Nat->Bool} {held:Bool}:∀ {ts:List TypeId} {vs:List Value} {gY:List (DataW H)} {cy:List MemPlace},
  DataW.TrodAll enc P w base spare held ts vs gY cy->gY.length=ts.length
 | [],vs,gY,cy,h=>by obtain⟨rfl,rfl,rfl⟩:=trodAll_nil h; rfl
 | t::ts,vs,gY,cy,h=>by
  obtain⟨v,apI,d,afH,a,b,rfl,rfl,rfl,h1,ag⟩:=trodAll_cons h;simp[aca ag]
end Go.cj

namespace Go.cj
open Go
def sj:List (FuncId × Bool × (List ae->Option ae))->nt
 | [],_=>none
 | e::r,f=>match Nat.beq f e.1 with | true=>some e.2 | false=>sj r f
abbrev rc (P:Program) (G:Nat->ae) (e:FuncId × Bool × (List ae->Option ae)) :Prop:=∀ args r,e.2.2 args=some r->bT P G e.1 args r/\(e.2.1=true->h6 P G e.1 args r)
theorem vE {P:Program} {G:Nat->ae}:∀ {l:List (FuncId × Bool × (List ae->Option ae))},(∀ e∈l,rc P G e)->v8 P G (sj l)
 | [],_,f,n,g,args,r,aJ,_=>by cases aJ
 | e::l,h,f,n,g,args,r,aJ,ay=>by
  unfold sj at aJ;split at aJ
  ·rename_i aj;have:=Nat.eq_of_beq_eq_true aj;subst this;have aw:e.2=(n,g) :=Option.some.inj aJ;have:=h e (by simp) args r (by rw[aw]; exact ay);rw[aw] at this;exact this
  ·exact vE (fun x ak=>h x (by simp[ak])) f n g args r aJ ay
def ml (P:Program) (G:Nat->ae) :List (FuncId × Bool × (List ae->Option ae))->Prop
 | []=>True
 | e::r=>rc P G e/\ml P G r
theorem ml.mem {P:Program} {G:Nat->ae}:∀ {l:List (FuncId × Bool × (List ae->Option ae))},ml P G l->∀ e∈l,rc P G e
 | e::l,h,x,ak=>by
  rcases List.mem_cons.1 ak with rfl | ak
  ·exact h.1
  ·exact ml.mem h.2 x ak
theorem wd {P:Program} {G:Nat->ae}:ml P G [] :=trivial
theorem ny {P:Program} {G:Nat->ae} {e:FuncId × Bool × (List ae->Option ae)} {l:List (FuncId × Bool × (List ae->Option ae))} (h:rc P G e) (ag:ml P G l) :ml P G (e::l) :=⟨h,ag⟩
def Ag:List (List ae × ae)->List ae->Option ae
 | [],_=>none
 | e::r,args=>match eO args e.1 with | true=>some e.2 | false=>Ag r args
def x8 (P:Program) (G:Nat->ae) (f:FuncId) :List (List ae × ae)->Prop
 | []=>True
 | e::r=>h6 P G f e.1 e.2/\x8 P G f r
theorem Oj {P:Program} {G:Nat->ae} {f:FuncId}:x8 P G f [] :=trivial
theorem yl {P:Program} {G:Nat->ae} {f:FuncId} {a:List ae} {r:ae} {l:List (List ae × ae)} (h:h6 P G f a r) (ag:x8 P G f l) :x8 P G f ((a,r) ::l) :=⟨h,ag⟩
theorem Kt {P:Program} {G:Nat->ae} {f:FuncId}:∀ {l:List (List ae × ae)},x8 P G f l->rc P G (f,true,Ag l)
 | [],_,args,r,h=>by cases h
 | e::l,aF,args,r,h=>by
  simp only[Ag] at h;split at h
  ·rename_i aj;cases h;rw[rm aj];exact⟨aF.1.x1,fun _=>aF.1⟩
  ·exact Kt aF.2 args r h
def c5 (l:List Nat) :List ae:=l.map fun n=>.int .u8 (.ofNat n)
def m2 (n:Int) :ae:=.int .i64 n
def gj (l:List ae) :List (List ae) :=l.map fun c=>[c]
end Go.cj

namespace Go.cj
open Go Go.Proofs Go.Shelf Go.Sort Go.RowKit
def xJ:ae->Bool | .bool _=>true | .int _ _=>true | .str _=>true | _=>false
def valOf:ae->Value | .bool b=>.bool b | .int k n=>.int k n | .str s=>.string ⟨s.toArray⟩ | _=>.bool false
theorem apG {w:World} {R:Nat->Prop} {h:aR} {μ:cD} {c:ae} {v:Value} (aG:xJ c=true) (ax:aU w R h μ c v) :v=valOf c:=by
 cases ax with
 | bool b=>rfl
 | int k n=>rfl
 | str bs=>obtain⟨⟨l⟩⟩:=bs; rfl
 | bad=>cases aG
 | _=>cases aG
theorem XR {w:World} {R:Nat->Prop} {h:aR} {μ:cD} {c:ae} (aG:xJ c=true) :aU w R h μ c (valOf c) :=by
 cases c with
 | bool b=>exact .bool b
 | int k n=>exact .int k n
 | str s=>exact (.str ⟨s.toArray⟩:aU w R h μ (.str (ByteArray.mk s.toArray).data.toList) _)
 | _=>cases aG
theorem NQ (c:ae) :(valOf c).oneCell'=true:=by cases c<;>rfl
theorem ae1 {w W:World} {b o:Nat} (h:W.heap[b]? = w.heap[b]?) :W.cell? ⟨b,o,none⟩=w.cell? ⟨b,o,none⟩:=by simp[World.cell?,h]
theorem ae2 {w:World} {b o:Nat} {v:Value} (h:w.cell? ⟨b,o,none⟩=some v) :b<w.heap.size:=by
 apply Decidable.byContradiction;intro aH;simp only[World.cell?] at h;rw[Array.getElem?_eq_none (by omega)] at h;cases h
theorem apF {w W:World} {A:Nat->Prop} (cR:∀ k,A k->k<w.heap.size->W.heap[k]? = w.heap[k]?) {c:ae} {v:Value} (ax:eN w A c v) :eN W A c v:=by
 unfold eN at ax ⊢;generalize aQ:aR.empty=aO at ax ⊢;generalize hm:(fun _=>none:cD)=pI at ax ⊢;have pV:∀ {b o:Nat} {v:Value},Cell w A aO pI b o v->Cell W A aO pI b o v:=fun {b o v} k=>⟨(ae1 (cR b k.ro (ae2 k.here))).trans k.here,k.one,k.ro,k.free⟩
 induction ax with
 | bool b=>exact .bool b
 | int k n=>exact .int k n
 | str bs=>exact .str bs
 | h0=>exact .h0
 | aZ=>exact .aZ
 | gG=>exact .gG
 | hC=>exact .hC
 | hZ=>exact .hZ
 | aV cs vs ar h1 ax aM=>exact .aV cs vs ar h1 aM
 | bP cs vs ar ax aM=>exact .bP cs vs ar aM
 | ptr b off sz cs m aj hp=>subst hm; cases hp
 | k0 b off sz a ay=>exact .k0 b off sz a ay
 | cp cs off blk o dI al ax aM=>exact .cp cs off blk o dI (fun j am=>pV (al j am)) aM
 | ao z b off len cap sz cap' cs m aj hp ar az al=>subst hm; cases hp
 | fE z b off len cap sz cap' a ar al ay=>exact .fE z b off len cap sz cap' a ar al ay
 | gR z b off sz a cs m aj hp=>subst hm; cases hp
 | bW z es blk off cap dI ar aC al ax aM=>exact .bW z es blk off cap dI ar aC (fun i j aA am=>pV (al i j aA am)) aM
 | e1 z a cap=>exact .e1 z a cap
 | fn f first e6 fs cs aJ al h1 ag dL ku=>exact .fn f first e6 fs cs aJ al dL ku
 | mp b m aj hp=>subst hm; cases hp
 | it b m aj hp=>subst hm; cases hp
 | fK t c v ax aM=>exact .fK t c v aM
 | kC l=>exact .kC l
 | bad v=>exact .bad v
theorem ad1 {W w' : World} (h:v6 W w') :∃ q os,w'=grow (W.drewN q) os:=by
 refine⟨w'.drawn - W.drawn,w'.heap.extract W.heap.size,?_⟩;have bD:=h.drawn;have au:=h.size;obtain⟨Ck,aoY,Hg,Kn,al1⟩:=w';obtain⟨heap,tape,drawn,os,out⟩:=W;have a1:Kn=os:=h.os;have b3:aoY=tape:=h.tape;have dD:al1=out:=h.output;subst a1 b3 dD;have lk:Ck=heap++Ck.extract heap.size:=by
  apply Array.ext_getElem?;intro k;rw[Array.getElem?_append];split
  ·rename_i aF;exact h.block k aF
  ·rename_i aF;rw[Array.getElem?_extract];have qp:heap.size<=Ck.size:=au;by_cases nS:k<Ck.size
   ·rw[if_pos (by omega),show heap.size+(k - heap.size)=k by omega]
   ·rw[if_neg (by omega),Array.getElem?_eq_none (by omega)]
 have Hk:Hg=drawn+(Hg - drawn) :=by
  have:drawn<=Hg:=bD;omega
 unfold grow World.drewN;simp only;rw[<-lk,<-Hk]
def Eo (P:Program) (f g:FuncId) (k:Nat) {X:Type} [Inhabited X] (d4:X->List Value) (gV:X->X->Int) :Prop:=
 ∀ (blk off cap:Nat) (d:Array X) (w:World),CmpLays P g #[] d4 k gV blk off d.size w->HoldsK d4 k w blk off d->blk<w.heap.size->d.size<4611686018427387904->
  Calls P f #[.slice (some ⟨blk,off,none⟩) d.size cap,.func (.func g) #[] #[]] w fun e w'=>e=.returned (.tuple #[])/\∃ oI n os,PermIn 0 d.size d oI/\SortedIn (ltOf gV) 0 d.size oI/\w'=sortWorldK d4 k w blk off n oI os
def sorted {X:Type} (gV:X->X->Int) (xs:List X) :List X:=xs.mergeSort fun x y=>!ltOf gV y x
theorem abE {X:Type} (gV:X->X->Int) (xs:List X) :(sorted gV xs).length=xs.length:=List.length_mergeSort _
section
variable {P:Program} {G:Nat->ae} {X:Type} {enc:X->List ae} {k:Nat}
theorem Ax (aF:∀ x,(enc x).length=k) (xs:List X) {j:Nat} (am:j<xs.length*k) :∃ x c,xs[j / k]? = some x/\(enc x)[j % k]? = some c/\((xs.map enc).flatten)[j]? = some c:=by
 have zm:0<k:=Nat.pos_of_ne_zero fun h=>by subst h; simp at am
 have h1:j / k<xs.length:=Nat.div_lt_of_lt_mul (by rw[Nat.mul_comm]; exact am);have ag:j % k<k:=Nat.mod_lt _ zm;refine⟨xs[j / k],(enc xs[j / k])[j % k]'(by rw[aF]; exact ag),List.getElem?_eq_getElem h1,List.getElem?_eq_getElem _,?_⟩;have aq:(xs.map enc)[j / k]? = some (enc xs[j / k]) :=by rw[List.getElem?_map,List.getElem?_eq_getElem h1]; rfl
 have aK:=Hy (z:=k) (fun e aw=>by obtain⟨x,_,rfl⟩:=List.mem_map.1 aw; exact aF x) aq ag;rw[Nat.mul_comm,Nat.div_add_mod] at aK;rw[aK];exact List.getElem?_eq_getElem _
theorem SI [Inhabited X] (aF:∀ x,(enc x).length=k) (xs:List X) {j:Nat} (am:j<xs.length*k) {c:ae} (al:((xs.map enc).flatten)[j]? = some c) :(flatK (fun x=>(enc x).map valOf) k xs.toArray)[j]! = valOf c:=by
 obtain⟨x,c',h1,ag,aq⟩:=Ax aF xs am;rw[aq] at al; cases al;rw[get_flatK _ _ _ _ (by simpa using am)];have aK:xs.toArray[j / k]! = x:=by
  have aS:=(List.getElem?_eq_some_iff.1 h1).1;rw[getElem!_pos _ _ (by simpa using aS)];simpa using (List.getElem?_eq_some_iff.1 h1).2
 rw[aK];obtain⟨bg,bL⟩:=List.getElem?_eq_some_iff.1 ag;rw[getElem!_pos _ _ (by simpa using bg)];simp[bL]
theorem aoC [Inhabited X] {f g b off len cap sz:Nat} {cs:List ae} {xs:List X} {h:aR} (gV:X->X->Int) (fY:Eo P f g k (fun x=>(enc x).map valOf) gV) (e3:SWO (ltOf gV)) (H6:∀ x y,ltOf gV x y=false->ltOf gV y x=false->x=y)
  (aF:∀ x,(enc x).length=k) (aG:∀ x,∀ c∈enc x,xJ c=true) (rJ:∀ x y,bT P G g [.aV (enc x),.aV (enc y)] (.int .i64 (gV x y)))
  (aj:h.f b=.cells sz cs) (bw:xs.length=len) (h1:0<len) (p4:len<4611686018427387904) (cH:(cs.drop off).take (len*k)=(xs.map enc).flatten) (ec:off+len*k<=sz) :
  q7 P G f [.ao k b off len cap sz,.fn g [] []] h (.bP []) (h.set b (.cells sz (bU cs off ((sorted gV xs).map enc).flatten))) :=by
 intro R B w μ vs rel BL ar ax;obtain⟨mg⟩:=vs
 match mg,ar with
 | [v0,fa],_=>
 have hz:=ax 0 _ v0 rfl rfl;have kW:=ax 1 _ fa rfl rfl;have ajt:¬ sE h b sz:=by
  rintro (aO | ⟨n,lV,aO,ag⟩)
  ·rw[aj] at aO; cases aO
  ·rw[aj] at aO; cases aO; omega
 cases kW with
 | fn _ _ _ fs rs aJ al _ _=>
 have oU:fs=#[] :=Array.eq_empty_of_size_eq_zero aJ;have iW:rs=#[] :=Array.eq_empty_of_size_eq_zero al;subst oU iW;cases hz with
 | fE _ _ _ _ _ _ _ _ _ _ ay=>exact absurd ay ajt
 | gR=>omega
 | ao _ _ _ _ _ _ cap' lV m jv hm mP az c7=>
 rw[aj] at jv; cases jv;have f0:=rel.blk b m hm;rw[aj] at f0;obtain⟨dZ,dF,arr,e,fh,aD,eu,ko,hR⟩:=f0;have jA:live (h.f b)=true:=by rw[aj]; rfl
 have iZ:ka h μ m.r:=⟨b,m,jA,hm,rfl⟩
 have IC:=rel.lt jA hm;have mO:∀ j,j<len*k->∃ c,((xs.map enc).flatten)[j]? = some c/\cs[off+j]? = some c/\xJ c=true:=by
  intro j am;obtain⟨x,c,aY,a6,bi⟩:=Ax aF xs (by rw[bw]; exact am);refine⟨c,bi,?_,aG x c (List.mem_of_getElem? a6)⟩;rw[<-cH,List.getElem?_take_of_lt am,List.getElem?_drop] at bi;exact bi
 have hy:HoldsK (fun x=>(enc x).map valOf) k w m.r (m.s+off) xs.toArray:=by
  intro j am;rw[size_flatK] at am;have ev:j<len*k:=by simpa [bw] using am
  obtain⟨c,aY,a6,bi⟩:=mO j ev;obtain⟨v,bI,bq,cx⟩:=hR (off+j) c a6;have aS:m.s+off+j<arr.size:=by
   have:=(Array.getElem?_eq_some_iff.1 bI).1;omega
  constructor
  ·simp only[World.cell?,aD,Option.isSome_none];rw[SI aF xs (by rw[bw]; exact ev) aY,<-apG bi cx,Nat.add_assoc];exact bI
  ·simp only[World.frozen?,aD];rcases ko with aO | aO
   ·subst aO; simp
   ·simp; intro aq; omega
 have ahB:CmpLays P g #[] (fun x=>(enc x).map valOf) k gV m.r (m.s+off) xs.toArray.size w:=by
  intro n os afy wS x y;obtain⟨W,eR⟩:∃ W,W=sortWorldK (fun x=>(enc x).map valOf) k w m.r (m.s+off) n afy os:=⟨_,rfl⟩
  have ahc:∀ i,i≠m.r->i<w.heap.size->W.heap[i]? = w.heap[i]?:=by
   intro i aA aS;rw[eR];show (((w.heap.modify m.r _)++os))[i]? = _;rw[Array.getElem?_append_left (by simpa using aS),Array.getElem?_modify,if_neg (fun h=>aA h.symm)]
  rw[<-eR];have cR:∀ i,(R i/\¬ ka h μ i)->i<w.heap.size->W.heap[i]? = w.heap[i]?:=fun i aA aS=>ahc i (fun aw=>aA.2 (by rw[aw]; exact iZ)) aS
  have key:=rJ x y W (fun i=>R i/\¬ ka h μ i) #[.agg ((enc x).map valOf).toArray,.agg ((enc y).map valOf).toArray] (fun S9=>apF cR (uG (BL S9).2 (BL S9).1)) rfl (fun j c v am eH=>by
   have one:∀ z:X,eN W (fun i=>R i/\¬ ka h μ i) (.aV (enc z)) (.agg ((enc z).map valOf).toArray) :=fun z=>by
    refine .aV _ _ (by simp) (fun i v aA=>?_) (fun i c v aA Ue=>?_)
    ·simp only[List.getElem?_toArray,List.getElem?_map,Option.map_eq_some_iff] at aA;obtain⟨c,_,rfl⟩:=aA;exact NQ c
    ·simp only[List.getElem?_toArray,List.getElem?_map,Option.map_eq_some_iff] at Ue;obtain⟨c',aq,rfl⟩:=Ue;rw[aA] at aq; cases aq;exact XR (aG z c (List.mem_of_getElem? aA))
   match j with
   | 0=>simp at am eH; subst am eH; exact one x
   | 1=>simp at am eH; subst am eH; exact one y
   | j+2=>simp at am)
  refine key.mono ?_;rintro e w' ⟨v,rfl,fA,kV⟩;obtain⟨q,Kn,rfl⟩:=ad1 fA;cases kV;exact⟨rfl,q,Kn,rfl⟩
 have kN:=fY m.r (m.s+off) cap' xs.toArray w ahB hy IC (by simpa [bw] using p4);have n3:((xs.toArray.size:Nat) :Int)=(len:Int) :=by simp[bw]
 rw[show (xs.toArray.size)=len by simp[bw]] at kN;refine kN.mono ?_;rintro eG w' ⟨rfl,oI,n,os,p6,kM,rfl⟩;have nP:oI.toList=sorted gV xs:=by
  have:=sorted_unique_holds e3 H6 xs.toArray oI (by simpa [bw] using p6) (by simpa [bw] using kM);simpa [sorted] using this
 obtain⟨bd,zJ⟩:∃ bd,bd=sorted gV xs:=⟨_,rfl⟩
 rw[<-zJ] at nP ⊢;have eJ:bd.length=len:=by rw[zJ,abE,bw]
 have Ig:oI=bd.toArray:=by rw[<-nP]
 subst Ig;have fT:((bd.map enc).flatten).length=len*k:=by
  have:∀ l:List X,((l.map enc).flatten).length=l.length*k:=fun l=>by
   induction l with
   | nil=>simp
   | cons a l aM=>simp only[List.map_cons,List.flatten_cons,List.length_append,aM,aF,List.length_cons]; rw[Nat.succ_mul]; omega
  rw[this,eJ]
 obtain⟨b5,i1⟩:∃ b5,b5=putRowK (fun x=>(enc x).map valOf) k (Sort.ahead w n) m.r (m.s+off) bd.toArray:=⟨_,rfl⟩
 have iz:b5.heap=w.heap.modify m.r (onCells (putCells id (m.s+off) (flatK (fun x=>(enc x).map valOf) k bd.toArray))) :=by rw[i1]; rfl
 have Cg:off<=cs.length:=by omega
 obtain⟨ex,oh⟩:=rel.write (w':=b5) (sz':=sz) (cs':=bU cs off ((bd.map enc).flatten)) (arr':=putCells id (m.s+off) (flatK (fun x=>(enc x).map valOf) k bd.toArray) arr) aj hm aD eu ko (by rw[i1]; rfl) (by rw[i1]; rfl) (by rw[i1]; rfl) (by rw[iz]; simp)
  (by rw[iz,Array.getElem?_modify,if_pos rfl,aD]; rfl) (fun i aA=>by rw[iz,Array.getElem?_modify,if_neg (fun h=>aA h.symm)]) (by simp[putCells])
  (by rw[pB Cg,fT]; omega) (Nat.le_refl _) dF (fun j c am=>by
   rw[Nl Cg,fT] at am;have ez:(putCells id (m.s+off) (flatK (fun x=>(enc x).map valOf) k bd.toArray) arr)[m.s+j]? = (arr[m.s+j]?).map fun x=>if m.s+off<=m.s+j/\m.s+j<m.s+off+(flatK (fun x=>(enc x).map valOf) k bd.toArray).size then (flatK (fun x=>(enc x).map valOf) k bd.toArray)[m.s+j - (m.s+off)]! else x:=by
    unfold putCells; rw[Array.getElem?_mapIdx]; rfl
   rw[size_flatK] at ez;by_cases Uf:j<off
   ·rw[if_pos Uf] at am;obtain⟨v,bI,bq,cx⟩:=hR j c am;refine⟨v,?_,bq,cx⟩;rw[ez,bI,Option.map_some,if_neg (by omega)]
   ·rw[if_neg Uf] at am;by_cases qg:j<off+len*k
    ·rw[if_pos qg] at am;have eD:j - off<len*k:=by omega
     obtain⟨uE,aY,a6,bi⟩:=mO (j - off) eD;rw[show off+(j - off)=j by omega] at a6;obtain⟨v,bI,bq,cx⟩:=hR j uE a6;obtain⟨x,cN,a1,b3,dD⟩:=Ax aF bd (j:=j - off) (by rw[eJ]; exact eD);rw[dD] at am; cases am;refine⟨valOf c,?_,NQ c,XR (aG x c (List.mem_of_getElem? b3))⟩;rw[ez,bI,Option.map_some,if_pos (by simp[eJ]; omega),show m.s+j - (m.s+off)=j - off by omega,SI aF bd (by rw[eJ]; exact eD) dD]
    ·rw[if_neg qg] at am;obtain⟨v,bI,bq,cx⟩:=hR j c am;refine⟨v,?_,bq,cx⟩;rw[ez,bI,Option.map_some,if_neg (by simp[eJ]; omega)]) (by rw[i1]; exact Nat.le_add_right _ _)
 have H9:v6 b5 (grow b5 os) :=⟨⟨rfl,rfl,rfl,by simp[grow],fun i aA=>by simp only[grow]; rw[Array.getElem?_append_left aA]⟩,Nat.le_refl _⟩
 obtain⟨s7,qW⟩:=Au oh H9;refine⟨_,μ,rfl,?_,?_,.bP [] #[] rfl (fun j c v am _=>by simp at am)⟩
 ·rw[i1] at ex s7; exact ex.trans s7
 ·rw[i1] at qW; exact qW
end
section
variable {P:Program} {G:Nat->ae} {X:Type} {enc:X->List ae} {k:Nat}
theorem abl {k:Nat}:∀ {es:List (List ae)},(∀ e∈es,e.length=k)->es.flatten.length=es.length*k
 | [],_=>by simp
 | e::es,h=>by
  rw[List.flatten_cons,List.length_append,h e (by simp),abl (fun x ak=>h x (by simp[ak])),List.length_cons,Nat.succ_mul]; omega
theorem aoy [Inhabited X] {f g:Nat} (gV:X->X->Int) (fY:Eo P f g k (fun x=>(enc x).map valOf) gV) (e3:SWO (ltOf gV)) (H6:∀ x y,ltOf gV x y=false->ltOf gV y x=false->x=y)
  (aF:∀ x,(enc x).length=k) (aG:∀ x,∀ c∈enc x,xJ c=true) (rJ:∀ x y,bT P G g [.aV (enc x),.aV (enc y)] (.int .i64 (gV x y)))
  {l:av} {v:ae} {j:Nat} {xs:List X} (iZ:dB k l v j (xs.map enc)) (p4:xs.length<4611686018427387904) {K:ae->av->Prop}
  (aO:xs=[]->dp P G f [v,.fn g [] []] l (c:=⟨K⟩))
  (a8:∀ l',l'.length=l.length->(∀ b,b≠j->l'[b]? = l[b]?)->dB k l' v j ((sorted gV xs).map enc)->K (.bP []) l') :dp P G f [v,.fn g [] []] l (c:=⟨K⟩) :=by
 cases xs with
 | nil=>exact aO rfl
 | cons x xs=>
 obtain⟨bd,zJ⟩:∃ bd,bd=x::xs:=⟨_,rfl⟩
 rw[<-zJ] at iZ p4 a8;have kr:0<bd.length:=by rw[zJ]; simp
 generalize ie:bd.map enc=es at iZ;cases iZ with
 | nil j=>rw[List.map_eq_nil_iff] at ie; rw[ie] at kr; simp at kr
 | ao j off n cap sz cs es aj ar aH aC al cX cH=>
 subst ie;have qj:bd.length=n:=by simpa using aH
 have dO:n*k<=cap*k:=Nat.mul_le_mul_right _ al;have eD:j<l.length:=(List.getElem?_eq_some_iff.1 aj).1;have au:=aoC (P:=P) (G:=G) (cap:=cap) gV fY e3 H6 aF aG rJ (h:=bY l) (oB.2 aj) qj (by omega) (by omega) cH (by omega);rw[nq _ eD] at au;refine⟨_,_,.ext au,by simp,?_⟩;have e8:((sorted gV bd).map enc).length=n:=by rw[List.length_map,abE,qj]
 have cA:∀ e∈(sorted gV bd).map enc,e.length=k:=fun e aw=>by obtain⟨x,_,rfl⟩:=List.mem_map.1 aw; exact aF x
 have fT:(((sorted gV bd).map enc).flatten).length=n*k:=by rw[abl cA,e8]
 have Cg:off<=cs.length:=by omega
 refine a8 _ (by simp) (fun b jw=>by rw[List.getElem?_set_ne (fun h=>jw h.symm)]) ?_;refine .ao j off n cap sz _ _ (List.getElem?_set_self eD) (by rw[pB Cg,fT]; omega) e8 cA al cX ?_;unfold bU;have h1:(List.take off cs).length=off:=by rw[List.length_take]; omega
 rw[List.append_assoc,List.drop_append_of_le_length (by omega),List.drop_of_length_le (by omega),List.nil_append,List.take_append_of_le_length (by omega),List.take_of_length_le (by omega)]
end
end Go.cj

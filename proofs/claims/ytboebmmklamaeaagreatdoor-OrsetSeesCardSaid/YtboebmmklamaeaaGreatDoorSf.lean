/-
  The canonical machine, carried out on code without types (for calls without unknowns).
-/
import Derived.Test.YtboebmmklamaeaaGreatDoorSe
import Derived.OpenShut
import Derived.Shelf.SlSortCmp.InsertionK
import Derived.Sort.LotA
set_option linter.unusedVariables false
set_option linter.unusedSimpArgs false
set_option linter.unnecessarySimpa false
namespace Go.cl
open Go
def aan (n:Nat) (h:aM) (p v:ae) :Option aM:=
 match p,v.cells with
 | .ptr b off sz,some vs=>match h.f b with
  | .cells m cs=>if m=sz/\vs.length=n/\off+n<=m then some (h.set b (.cells m (bS cs off vs))) else none
  | _=>none
 | _,_=>none
def AN (h:aM) (z by_:Nat) (s:ae) (xs:List ae) (n:Nat) :Option (ae × aM) :=
 if n=0 then (match s with | .a6 | .b6 .. | .ao ..=>some (s,h) | _=>none)
 else if z=0\/by_=0 then none else match s with
  | .a6=>if n*by_<=cJ then some (.ao z h.n 0 n n (n*z),h.push (.cells (n*z) xs)) else none
  | .ao db b off len cap sz=>match h.f b with
   | .cells m cs=>
    if m=sz/\z=db/\(len+n)*by_<=cJ then
     if len+n<=cap then some (.ao z b off (len+n) cap sz,h.set b (.cells m (bS cs (off+len*z) xs)))
     else if off+cap*z<sz then some (.ao z h.n 0 (len+n) (len+n) ((len+n)*z),h.push (.cells ((len+n)*z) ((cs.drop off).take (len*z)++xs)))
     else if off=0 then some (.ao z b 0 (len+n) (len+n) ((len+n)*z),h.set b (.cells ((len+n)*z) (cs.take (len*z)++xs)))
     else some (.ao z h.n 0 (len+n) (len+n) ((len+n)*z),(h.set b .dead).push (.cells ((len+n)*z) ((cs.drop off).take (len*z)++xs)))
    else none
   | _=>none
  | _=>none
def Rq (z:Nat) (h:aM) (d x:ae) :Option (ae × aM) :=
 match contents h z x with
 | none=>none
 | some (xs,n)=>match d with
  | .a6=>some (.int .i64 0,h)
  | .ao db b off len _ sz=>match h.f b with
   | .cells m cs=>if m=sz/\z=db then some (.int .i64 ((min n len:Nat) :Int),h.set b (.cells m (bS cs off (xs.take (min n len*z))))) else none
   | _=>none
  | _=>none
def Q8 (zero:List ae) (h:aM) :ae->Option aM
 | .a6=>some h
 | .b6 _ []=>some h
 | .ao z b off len _ sz=>if len=0 then some h else match h.f b with
  | .cells m cs=>if m=sz/\zero.length=z then some (h.set b (.cells m (bS cs off (dp zero len)))) else none
  | _=>none
 | _=>none
def Wl (z by_:Nat) (zero:List ae) (h:aM) (l c:ae) :Option (ae × aM) :=match l,c with
 | .int _ l,.int _ c=>if 0<=l/\l<=c/\c<9223372036854775808/\by_*c<=cJ then
   some (.ao z h.n 0 l.toNat c.toNat (c.toNat*z),h.push (.cells (c.toNat*z) (dp zero c.toNat))) else none
 | _,_=>none
def Q1 (h:aM) (x:ae) :Option ae:=match x with
 | .a6=>some (.str [])
 | .str _=>none
 | x=>match contents h 1 x with | some (cs,_)=>(lj cs).map .str | none=>none
def NZ (h:aM) (z by_:Nat) (s x:ae) :Option (ae × aM) :=match contents h z x with
 | none=>none
 | some (xs,n)=>AN h z by_ s xs n
def N2 (h:aM) (z by_:Nat) (zero:List ae) (s x:ae) :Option (ae × aM) :=match x with
 | .int _ n=>if 0<=n/\n<9223372036854775808/\n.toNat*by_<=cJ then AN h z by_ s (dp zero n.toNat) n.toNat else none
 | _=>none
def Rf (h:aM) (x y:ae) :Option ae:=match pE h x,pE h y with
 | some a,some b=>some (.int .i64 (lX a b))
 | _,_=>none
def ZD (h:aM) (x:ae) :Option (ae × aM) :=match x with
 | .str s=>some (.it h.n,h.push (.iter s 0))
 | _=>none
def V5 (h:aM) (x:ae) :Option ae:=match x with
 | .gJ=>some (.int .i64 0)
 | .mp b=>match h.f b with | .map es _=>some (.int .i64 es.length) | _=>none
 | _=>none
def Wb (P:Program) (h:aM) (cN:TypeId) (zero:ae) (ok:Bool) (m k:ae) :Option ae:=
 match mapOf h m with
 | some es=>match jB P cN k with
  | false=>none
  | true=>match ig P cN k es 0 with
   | some (some (_,v))=>some (if ok then .bU [v,.bool true] else v)
   | some none=>some (if ok then .bU [zero,.bool false] else zero)
   | none=>none
 | none=>none
def Wd (P:Program) (h:aM) (cN:TypeId) (m k v:ae) :Option aM:=
 match m with
 | .mp b=>match h.f b with
  | .map es dW=>match jB P cN k with
   | false=>none
   | true=>match ig P cN k es 0 with
    | some (some (i,_))=>some (h.set b (.map (es.modify i fun e=>(k,v,e.2.2)) dW))
    | some none=>some (h.set b (.map (es++[(k,v,dW)]) (dW+1)))
    | none=>none
  | _=>none
 | _=>none
def go (h:aM) (x:Option ae) :Option (ae × aM) :=match x with | some v=>some (v,h) | none=>none
section
variable (P:Program)
def zE (aD:Operand->ae) (h:aM) :bb->Option (ae × aM)
 | .av x=>some (aD x,h)
 | .pick c a b=>go h (zO (aD c) (aD a) (aD b))
 | .alloc zero=>some (.ptr h.n 0 zero.length,h.push (.cells zero.length zero))
 | .box x=>match (aD x).cells with | some cs=>some (.ptr h.n 0 cs.length,h.push (.cells cs.length cs)) | none=>none
 | .gA zero cx=>go h ((ny zero (cx.map fun p=>(p.1,p.2.1,aD p.2.2))).map .aS)
 | .c5 z zero len cx=>match gF (fun i=>some (i*z,z)) (dp zero len) (cx.map fun p=>(p.1,aD p.2)) with | some cs=>some (.ao z h.n 0 len len (len*z),h.push (.cells (len*z) cs)) | none=>none
 | .ld1 a=>go h (match reach h (aD a) with | some (cs,o)=>cs[o]? | none=>none)
 | .bh n a=>go h (match reach h (aD a) with | some (cs,o)=>qq n cs o | none=>none)
 | .st n a x=>match aan n h (aD a) (aD x) with | some h'=>some (gv,h') | none=>none
 | .lF x=>go h (vr (aD x))
 | .bin o t x y=>go h (fD P o t (aD x) (aD y))
 | .un o x=>go h (oh o (aD x))
 | .cR k x=>go h (yc k (aD x))
 | .wm x=>go h (Bd (aD x))
 | .qY x=>go h (Q1 h (aD x))
 | .pH x=>go h (sJ (aD x))
 | .rT t x=>some (.fH t (aD x),h)
 | .xK t z ok x=>go h (xL t z ok (aD x))
 | .qj f a b=>some (.fn f (a.map aD) (b.map aD),h)
 | .k2 z by_ zero a c=>Wl z by_ zero h (aD a) (aD c)
 | .slice c3 x cI aA cF=>go h (fN c3 (aD x) (cI.map aD) (aA.map aD) (cF.map aD))
 | .aW off x=>go h (lV (aD x) off)
 | .yu off x=>go h (yv off (aD x))
 | .ww n off x=>go h (wx n off (aD x))
 | .bq c3 x i=>go h (cO c3 (aD x) (aD i))
 | .vf n z x i=>go h (zw n z (aD x) (aD i))
 | .zu n z x i=>go h (zx n z (aD x) (aD i))
 | .oZ x i=>go h (vg (aD x) (aD i))
 | .ext x i=>go h (yt (aD x) i)
 | .len c3 x=>go h (c9 c3 (aD x))
 | .cap c3 x=>go h (qX c3 (aD x))
 | .app z by_ s x=>NZ h z by_ (aD s) (aD x)
 | .pA z by_ zero s x=>N2 h z by_ zero (aD s) (aD x)
 | .sI z d x=>Rq z h (aD d) (aD x)
 | .qZ zero x=>match Q8 zero h (aD x) with | some h'=>some (.bU [],h') | none=>none
 | .min x y=>go h (xm (aD x) (aD y))
 | .max x y=>go h (rS (aD x) (aD y))
 | .o9 x=>match x with
  | none=>some (.mp h.n,h.push (.map [] 0))
  | some o=>match asInt (aD o) with | some _=>some (.mp h.n,h.push (.map [] 0)) | none=>none
 | .rQ cN zero ok m k=>go h (Wb P h cN zero ok (aD m) (aD k))
 | .qk cN m k x=>match Wd P h cN (aD m) (aD k) (aD x) with | some h'=>some (gv,h') | none=>none
 | .tn x=>go h (V5 h (aD x))
 | .r5 x=>ZD h (aD x)
 | .rW x=>xo h (aD x)
 | .cK f pM x y=>match zs f (aD pM) with | true=>go h (Rf h (aD x) (aD y)) | false=>none
 | .stop=>none
end
def nf (r:ae->Option ae) :List ae->Option (List ae)
 | []=>some []
 | c::cs=>match r c with
  | some c'=>match nf r cs with
   | some cs'=>some (c'::cs')
   | none=>none
  | none=>none
def vB (h:aM) :Nat->ae->Option ae
 | 0,_=>none
 | d+1,c=>match c with
  | .aS cs=>match nf (vB h d) cs with | some cs'=>some (.aS cs') | none=>none
  | .bU cs=>match nf (vB h d) cs with | some cs'=>some (.bU cs') | none=>none
  | .ao z b off len cap sz=>match Nat.beq len 0 with
   | true=>some (.b6 z [])
   | false=>match h.f b with
    | .cells n cs=>match Nat.beq n sz&&Nat.ble (off+len*z) cs.length with
     | true=>match nf (vB h d) ((cs.drop off).take (len*z)) with
      | some xs=>some (.b6 z (ka z len xs))
      | none=>none
     | false=>none
    | _=>none
  | .ptr b off sz=>match h.f b with
   | .cells n cs=>match Nat.beq n sz with
    | true=>match nf (vB h d) cs with | some cs'=>some (.cn cs' off) | none=>none
    | false=>none
   | _=>none
  | c=>match c.closed with | true=>some c | false=>none
def Ob (x:ae) :Option Int:=match x with
 | .int k i=>match k with | .i64=>some i | _=>none
 | _=>none
def mg (z:Nat) (cs vs:List ae) (i len:Nat) :List ae:=cs.take (i*z)++vs++(cs.drop (i*z)).take ((len - i)*z)++cs.drop ((len+1)*z)
def zq (z by_:Nat) (h:aM) (s:ae) (i:Nat) (gL:Nat) (vs:List ae) :Option (ae × aM) :=match s with
 | .a6=>if i=0/\by_<=cJ then some (.ao z h.n 0 1 1 z,h.push (.cells z vs)) else none
 | .ao om b off len cap sz=>match h.f b with
  | .cells m cs=>if m=cap*z/\sz=cap*z/\om=z/\off=0/\gL≠b/\i<=len/\len<=cap/\(len+1)*by_<=cJ then
    some (.ao z h.n 0 (len+1) (max cap (len+1)) (max cap (len+1)*z),(h.set b .dead).push (.cells (max cap (len+1)*z) (mg z cs vs i len))) else none
  | _=>none
 | _=>none
def rI (z by_:Nat) (args:List ae) (h:aM) :Option (ae × aM) :=match args with
 | [s,x,y]=>match Ob x,y with
  | some i,.ao jH gL mn cg de mq=>match h.f gL with
   | .cells iG vs=>if jH=z/\mn=0/\cg=1/\de=1/\mq=z/\iG=z/\0<=i then zq z by_ h s i.toNat gL vs else none
   | _=>none
  | _,_=>none
 | _=>none
class qN (P:Program) (G:Nat->ae) where
 get:FuncId->Option (Nat × Nat)
 ok:∀ f z by_,get f=some (z,by_)->∀ args h r h',rI z by_ args h=some (r,h')->qJ P G f args h r h'
instance (priority:=10) atg (P:Program) (G:Nat->ae) :qN P G:=⟨fun _=>none,fun f z by_ h=>by cases h⟩
abbrev mA:=FuncId->List ae->aM->Option (ae × aM)
abbrev D3:=Option (pu × f0 × aM)
mutual
def bg.beq:bg->bg->Bool
 | .none,y=>match y with | .none=>true | _=>false
 | .dead,y=>match y with | .dead=>true | _=>false
 | .cells n cs,y=>match y with | .cells ga cs'=>Nat.beq n ga&&eD cs cs' | _=>false
 | .map ..,_=>false
 | .iter ..,_=>false
end
section
variable (P:Program) (G:Nat->ae)
def Bz (s:f0) (g:Option (Option Tmp × Bool)) :Option Bool:=match g with
 | none=>some true
 | some (some d,w)=>match look s d with
  | .bool b=>some (b == w)
  | .bad=>none
  | _=>some false
 | some (none,_)=>some false
def x4 (call:mA) (b:oo) (s:f0) (h:aM) :Option (ae × aM) :=match b with
 | .c2 m=>zE P (cU G (look s)) h m
 | .dq f args=>call f (args.map (cU G (look s))) h
 | .hn x args=>match cU G (look s) x with
  | .fn g first e5=>match iS P g with
   | true=>call g (first++args.map (cU G (look s))++e5) h
   | false=>none
  | _=>none
 | .mI x name args=>match cU G (look s) x with
  | .fH t v=>match vq P t name with
   | some g=>match iS P g with
    | true=>call g (v::args.map (cU G (look s))) h
    | false=>none
   | none=>none
  | _=>none
def Ab (call:mA) :List dL->f0->aM->Option (f0 × aM)
 | [],s,h=>some (s,h)
 | x::r,s,h=>match Bz s x.g with
  | some true=>match x4 P G call x.b s h with
   | some (v,h')=>Ab call r (zS s x.dst v) h'
   | none=>none
  | some false=>Ab call r (zS s x.dst gv) h
  | none=>none
def DF (b:oo) (s:f0) (v:ae) (h h' h1:aM) :Bool:=match b with
 | .c2 m=>match m.hP with
  | true=>bg.beq (h1.f h.n) (h'.f h.n)
  | false=>match m.looks with
   | true=>match zE P (cU G (look s)) h1 m with
    | some (bf,_)=>ae.beq bf v
    | none=>false
   | false=>false
 | _=>true
def A7 (ids:List Nat) (h:aM) :List (Nat × (aM->Bool))->Bool
 | []=>true
 | e::r=>(!ids.contains e.1||e.2 h)&&A7 ids h r
def Aa (call:mA) :List dL->f0->aM->List (Nat × (aM->Bool))->Option (f0 × aM)
 | [],s,h,_=>some (s,h)
 | x::r,s,h,seen=>match Bz s x.g with
  | some true=>match x4 P G call x.b s h with
   | some (v,h')=>match A7 x.hG h' seen with
    | true=>Aa call r (zS s x.dst v) h' (match x.cM with | true=>(x.i,DF P G x.b s v h h') ::seen | false=>seen)
    | false=>none
   | none=>none
  | some false=>Aa call r (zS s x.dst gv) h seen
  | none=>none
def Q2 (call:mA) (aK:aX->f0->aM->D3) (c:aX) (s:f0) (h:aM) :D3:=
 match c with
 | .skip=>some (.normal,s,h)
 | .ret=>some (.ret,s,h)
 | .exit id=>some (.exit id,s,h)
 | .al x=>match Ab P G call x s h with
  | some (dC,h1)=>some (.normal,dC,h1)
  | none=>none
 | .ho x=>match Aa P G call x s h [] with
  | some (dC,h1)=>some (.normal,dC,h1)
  | none=>none
 | .seq a b=>match aK a s h with
  | some (.normal,dC,h1)=>aK b dC h1
  | r=>r
 | .cond c x y=>match cU G (look s) c with
  | .bool true=>aK x s h
  | .bool false=>aK y s h
  | _=>none
 | .block id c=>match aK c s h with
  | some (.exit qd,dC,h1)=>match Nat.beq qd id with
   | true=>some (.normal,dC,h1)
   | false=>some (.exit qd,dC,h1)
  | r=>r
 | .loop c=>match aK c s h with
  | some (.normal,dC,h1)=>aK (.loop c) dC h1
  | r=>r
def A4 (call:mA) :Nat->aX->f0->aM->D3
 | 0=>fun _ _ _=>none
 | k+1=>Q2 P G call (A4 call k)
def z6 (s:f0) (h:aM) :List bb->List ae->Option ae
 | [],acc=>some (tS acc)
 | m::r,acc=>match zE P (cU G (look s)) h m with
  | some (v,_)=>z6 s h r (acc++[v])
  | none=>none
abbrev qP:=FuncId->Option (Bool × (List ae->Option ae))
abbrev vW:=FuncId->Option (aX × List bb)
def En (jE:qP) (f:FuncId) (args:List ae) (h:aM) :Option ae:=
 match jE f with
 | some (n,g)=>match nf (vB h 20) args with
  | some hl=>match g hl with
   | some r=>match n||r.flat with | true=>some r | false=>none
   | none=>none
  | none=>none
 | none=>none
def QY [qN P G] (jE:qP) (mu:vW) (fuel:Nat) (call:mA) :mA:=fun f args h=>
 match qN.get P G f with
 | some (z,by_)=>rI z by_ args h
 | none=>match En jE f args h with
 | some r=>some (r,h)
 | none=>match mu f with
  | none=>none
  | some (c,lJ)=>match A4 P G call fuel c (xt 0 .nil args) h with
   | some (.normal,fm,h')=>match z6 P G fm h' lJ [] with | some r=>some (r,h') | none=>none
   | some (.ret,fm,h')=>match z6 P G fm h' lJ [] with | some r=>some (r,h') | none=>none
   | _=>none
def A2 [qN P G] (jE:qP) (mu:vW) (fuel:Nat) :Nat->mA
 | 0=>fun _ _ _=>none
 | k+1=>QY P G jE mu fuel (A2 jE mu fuel k)
end
structure d5 (h:aM) (l:au) :Prop where
 n:h.n=l.length
 f:∀ b,h.f b=(bW l).f b
theorem d5.nil:d5 aM.empty [] :=⟨rfl,fun _=>rfl⟩
theorem d5.some {h:aM} {l:au} (r:d5 h l) {b:Nat} {c:bg} (ak:h.f b=c) (aI:c≠.none) :l[b]? = some c:=by
 rw[r.f,la] at ak;split at ak
 ·rename_i c' h1; rw[h1,ak]
 ·exact absurd ak.symm aI
theorem d5.push {h:aM} {l:au} (r:d5 h l) (c:bg) :d5 (h.push c) (l++[c]) :=
 ⟨by rw[eK,r.n]; simp,fun b=>by rw[dJ,<-lS,dJ,r.n,Az]; unfold bO; (split<;>first | rfl | exact r.f b)⟩
theorem d5.set {h:aM} {l:au} (r:d5 h l) {b:Nat} {uk:bg} (ai:l[b]? = Option.some uk) (c:bg) :d5 (h.set b c) (l.set b c) :=
 ⟨by rw[ed,r.n]; simp,fun bo=>by rw[dt,<-nq _ (fg ai),dt]; unfold bO; (split<;>first | rfl | exact r.f bo)⟩
section
variable {P:Program} {G:Nat->ae} {h h' : aM} {l:au}
theorem d5.reach (r:d5 h l) (p:ae) :reach h p=d4 l p:=by
 rw[<-MB];cases p<;>try rfl
 simp only[cl.reach,r.f]
theorem d5.contents (r:d5 h l) (z:Nat) (x:ae) :contents h z x=df l z x:=by
 rw[<-yj];cases x<;>try rfl
 simp only[cl.contents,r.f]
theorem d5.mapOf (r:d5 h l) (x:ae) :mapOf h x=qh l x:=by
 cases x<;>try rfl
 rename_i b;simp only[cl.mapOf,qh,r.f,la];cases l[b]? with
 | none=>rfl
 | some c=>cases c<;>rfl
theorem d5.bytes (r:d5 h l) (x:ae) :pE h x=mH l x:=by
 cases x<;>simp only[pE,mH,r.contents]<;>rfl
theorem aj1 {x:Option ae} {v:ae} (aj:go h x=some (v,h')) :x=some v/\h'=h:=by
 cases x with
 | none=>cases aj
 | some y=>cases aj; exact⟨rfl,rfl⟩
theorem vu (r:d5 h l) {x y:Option ae} {v:ae} (m2:x=y) (aj:go h x=some (v,h')) :∃ l',di l y=some (v,l')/\d5 h' l':=by
 obtain⟨rfl,rfl⟩:=aj1 aj;exact⟨l,by rw[<-m2]; rfl,r⟩
theorem N4 (r:d5 h l) {z by_ n:Nat} {s v:ae} {xs:List ae} (aj:AN h z by_ s xs n=some (v,h')) :∃ l',hE l z by_ s xs n=some (v,l')/\d5 h' l':=by
 unfold AN at aj;unfold hE;by_cases aI:n=0
 ·rw[if_pos aI] at aj ⊢;cases s<;>simp at aj ⊢<;>(obtain⟨rfl,rfl⟩:=aj; exact⟨l,⟨rfl,rfl⟩,r⟩)
 ·rw[if_neg aI] at aj ⊢;by_cases aQ:z=0\/by_=0
  ·rw[if_pos aQ] at aj; cases aj
  ·rw[if_neg aQ] at aj ⊢;cases s<;>simp only at aj ⊢<;>try (cases aj; done)
   case a6=>
    by_cases aC:n*by_<=cJ
    ·rw[if_pos aC] at aj ⊢; cases aj; exact⟨_,by rw[r.n],r.push _⟩
    ·rw[if_neg aC] at aj; cases aj
   case ao db b off len cap sz=>
    cases ai:h.f b<;>rw[ai] at aj<;>(try simp only at aj)<;>try (cases aj; done)
    rename_i m cs;have aq:=r.some ai (by simp);rw[aq];simp only;by_cases h1:m=sz/\z=db/\(len+n)*by_<=cJ
    ·rw[if_pos h1] at aj ⊢;by_cases af:len+n<=cap
     ·rw[if_pos af] at aj ⊢; cases aj; exact⟨_,rfl,r.set aq _⟩
     ·rw[if_neg af] at aj ⊢;by_cases ap:off+cap*z<sz
      ·rw[if_pos ap] at aj ⊢; cases aj; exact⟨_,by rw[r.n],r.push _⟩
      ·rw[if_neg ap] at aj ⊢;by_cases aH:off=0
       ·rw[if_pos aH] at aj ⊢; cases aj; exact⟨_,rfl,r.set aq _⟩
       ·rw[if_neg aH] at aj ⊢; cases aj; exact⟨_,by rw[r.n],(r.set aq _).push _⟩
    ·rw[if_neg h1] at aj; cases aj
theorem JQ (r:d5 h l) {aD:Operand->ae} {m:bb} {v:ae} (aj:zE P aD h m=some (v,h')) :∃ l',bR P aD l m=some (v,l')/\d5 h' l':=by
 cases m<;>simp only[zE] at aj<;>simp only[bR]
 case av=>cases aj; exact⟨l,rfl,r⟩
 case alloc=>cases aj; exact⟨_,by rw[r.n],r.push _⟩
 case box x=>
  cases ak:(aD x).cells with
  | none=>rw[ak] at aj; cases aj
  | some cs=>rw[ak] at aj; cases aj; exact⟨_,by simp only[Option.map_some,r.n],r.push _⟩
 case c5 z zero n cx=>
  split at aj
  ·rename_i cs ak; cases aj; exact⟨_,by rw[ak]; simp only[Option.map_some,r.n],r.push _⟩
  ·cases aj
 case ld1 a=>
  rw[r.reach] at aj;refine vu r ?_ aj;cases d4 l (aD a)<;>rfl
 case bh n a=>
  rw[r.reach] at aj;refine vu r ?_ aj;cases d4 l (aD a)<;>rfl
 case st n a x=>
  unfold aan at aj;unfold iJ;cases aG:aD a<;>rw[aG] at aj<;>(try simp only at aj)<;>try (cases aj; done)
  rename_i b off sz;cases ak:(aD x).cells with
  | none=>rw[ak] at aj; cases aj
  | some vs=>
   rw[ak] at aj;simp only at aj ⊢;cases ai:h.f b<;>rw[ai] at aj<;>(try simp only at aj)<;>try (cases aj; done)
   rename_i m cs;have aq:=r.some ai (by simp);rw[aq];simp only;by_cases h1:m=sz/\vs.length=n/\off+n<=m
   ·rw[if_pos h1] at aj ⊢; cases aj; exact⟨_,rfl,r.set aq _⟩
   ·rw[if_neg h1] at aj; cases aj
 case rT=>cases aj; exact⟨l,rfl,r⟩
 case qj=>cases aj; exact⟨l,rfl,r⟩
 case k2 z by_ zero a c=>
  unfold Wl at aj;unfold pa;cases aG:aD a<;>rw[aG] at aj<;>(try simp only at aj)<;>try (cases aj; done)
  cases ak:aD c<;>rw[ak] at aj<;>(try simp only at aj)<;>try (cases aj; done)
  simp only;split at aj
  ·rename_i h1; rw[if_pos h1]; cases aj; exact⟨_,by rw[r.n],r.push _⟩
  ·cases aj
 case qY x=>
  refine vu r ?_ aj;unfold Q1 sA;cases aD x<;>simp only[r.contents]<;>rfl
 case app z by_ s x=>
  unfold NZ at aj;unfold ie;rw[r.contents] at aj;split at aj
  ·cases aj
  ·rename_i xs n ak; rw[ak]; exact N4 r aj
 case pA z by_ zero s x=>
  unfold N2 at aj;unfold ow;cases ak:aD x<;>rw[ak] at aj<;>(try simp only at aj)<;>try (cases aj; done)
  simp only;split at aj
  ·rename_i h1; rw[if_pos h1]; exact N4 r aj
  ·cases aj
 case sI z d x=>
  unfold Rq at aj;unfold wj;rw[r.contents] at aj;split at aj
  ·cases aj
  ·rename_i xs n ak;rw[ak];simp only;cases bJ:aD d<;>rw[bJ] at aj<;>(try simp only at aj)<;>try (cases aj; done)
   ·cases aj; exact⟨l,rfl,r⟩
   ·rename_i db b off len cap sz;cases ai:h.f b<;>rw[ai] at aj<;>(try simp only at aj)<;>try (cases aj; done)
    rename_i m cs;have aq:=r.some ai (by simp);simp only[aq];split at aj
    ·rename_i h1; rw[if_pos h1]; cases aj; exact⟨_,rfl,r.set aq _⟩
    ·cases aj
 case qZ zero x=>
  unfold Q8 at aj;unfold sD;cases bJ:aD x<;>rw[bJ] at aj<;>(try simp only at aj)<;>try (cases aj; done)
  ·cases aj; exact⟨l,rfl,r⟩
  ·rename_i z b off len cap sz;simp only;by_cases aQ:len=0
   ·rw[if_pos aQ] at aj ⊢; cases aj; exact⟨l,rfl,r⟩
   ·rw[if_neg aQ] at aj ⊢;cases ai:h.f b<;>rw[ai] at aj<;>(try simp only at aj)<;>try (cases aj; done)
    rename_i m cs;have aq:=r.some ai (by simp);rw[aq];simp only;by_cases h1:m=sz/\zero.length=z
    ·rw[if_pos h1] at aj ⊢; cases aj; exact⟨_,rfl,r.set aq _⟩
    ·rw[if_neg h1] at aj; cases aj
  ·rename_i z es;cases es<;>simp only at aj
   ·cases aj; exact⟨l,rfl,r⟩
   ·cases aj
 case o9 x=>
  cases x with
  | none=>cases aj; exact⟨_,by rw[r.n],r.push _⟩
  | some o=>
   simp only at aj ⊢;split at aj
   ·rename_i n aI; rw[aI]; cases aj; exact⟨_,by simp only[r.n],r.push _⟩
   ·cases aj
 case rQ cN zero ok m k=>
  refine vu r ?_ aj;unfold Wb tp;rw[r.mapOf];split
  ·rename_i es ij; rw[ij]; rfl
  ·rename_i ij; rw[ij]
 case qk cN m k x=>
  unfold Wd at aj;unfold qi;cases hm:aD m<;>rw[hm] at aj<;>(try simp only at aj)<;>try (cases aj; done)
  rename_i b;simp only;cases ai:h.f b<;>rw[ai] at aj<;>(try simp only at aj)<;>try (cases aj; done)
  rename_i es dW;have aq:=r.some ai (by simp);rw[aq];simp only;cases aE:jB P cN (aD k)<;>rw[aE] at aj<;>simp only at aj
  ·cases aj
  ·simp only;cases aJ:ig P cN (aD k) es 0 with
   | none=>rw[aJ] at aj; cases aj
   | some q=>
    rw[aJ] at aj;cases q with
    | none=>cases aj; exact⟨_,rfl,r.set aq _⟩
    | some rL=>cases aj; exact⟨_,rfl,r.set aq _⟩
 case tn x=>
  refine vu r ?_ aj;unfold V5 zC;cases aD x<;>try rfl
  rename_i b;simp only[r.f,la];cases l[b]? with
  | none=>rfl
  | some c=>cases c<;>rfl
 case r5 x=>
  unfold ZD at aj;unfold xC;cases bJ:aD x<;>rw[bJ] at aj<;>(try simp only at aj)<;>try (cases aj; done)
  cases aj; exact⟨_,by simp only[r.n],r.push _⟩
 case rW x=>
  unfold xo at aj;unfold rV;cases bJ:aD x<;>rw[bJ] at aj<;>(try simp only at aj)<;>try (cases aj; done)
  rename_i b;simp only;cases ai:h.f b<;>rw[ai] at aj<;>(try simp only at aj)<;>try (cases aj; done)
  have aq:=r.some ai (by simp);rw[aq];simp only;split at aj
  ·rename_i h1; rw[h1]; cases aj; exact⟨_,rfl,r.set aq _⟩
  ·rename_i h1; rw[h1]; cases aj; exact⟨_,rfl,r⟩
 case stop=>cases aj
 case cK f pM x y=>
  split at aj
  ·rename_i h1;rw[h1];refine vu r ?_ aj;unfold Rf cmpL;rw[r.bytes,r.bytes];cases mH l (aD x)<;>cases mH l (aD y)<;>rfl
  ·cases aj
 all_goals exact vu r rfl aj
theorem qv {f:ae->Option ae}:∀ {cs cs' : List ae},nf f cs=some cs'->cs'.length=cs.length
 | [],cs',h=>by cases h; rfl
 | c::cs,cs',h=>by
  unfold nf at h;split at h
  ·split at h
   ·rename_i h1; cases h; simp[qv h1]
   ·cases h
  ·cases h
theorem qu {f:ae->Option ae}:∀ {cs cs' : List ae},nf f cs=some cs'->∀ (j:Nat) (c c' : ae),cs[j]? = some c->cs'[j]? = some c'->f c=some c'
 | [],cs',h,j,c,c',ak,_=>by simp at ak
 | c::cs,cs',h,j,d,oz,bJ,nL=>by
  unfold nf at h;split at h
  ·rename_i x aj;split at h
   ·rename_i h1;cases h;cases j with
    | zero=>simp at bJ nL; subst bJ nL; exact aj
    | succ j=>exact qu h1 j d oz (by simpa using bJ) (by simpa using nL)
   ·cases h
  ·cases h
theorem xD:∀ (d:Nat) (c c' : ae),vB h d c=some c'->fa h c c'
 | 0,c,c',aj=>by cases aj
 | d+1,c,c',aj=>by
  unfold vB at aj;split at aj
  ·split at aj
   ·rename_i h1; cases aj;exact .aS _ _ (qv h1) (fun j c c' ak ez=>xD d c c' (qu h1 j c c' ak ez))
   ·cases aj
  ·split at aj
   ·rename_i h1; cases aj;exact .bU _ _ (qv h1) (fun j c c' ak ez=>xD d c c' (qu h1 j c c' ak ez))
   ·cases aj
  ·rename_i z b off len cap sz;split at aj
   ·rename_i aQ;cases aj;rw[Nat.eq_of_beq_eq_true aQ];exact .pl z b off cap sz
   ·split at aj
    ·rename_i n cs ai;split at aj
     ·rename_i dG;simp only[Bool.and_eq_true] at dG;have aI:=Nat.eq_of_beq_eq_true dG.1;have dv:=Nat.le_of_ble_eq_true dG.2;subst aI;split at aj
      ·rename_i xs h1;cases aj;have bE:=qv h1;simp only[List.length_take,List.length_drop] at bE;have rF:xs.length=len*z:=by omega
       have ea:∀ (i:Nat),i<len->(ka z len xs)[i]? = some ((xs.drop (i*z)).take z) :=fun i aA=>A8 len xs i aA
       have dF:∀ i,i<len->i*z+z<=len*z:=fun i aA=>by rw[<-Nat.succ_mul]; exact Nat.mul_le_mul_right _ aA
       refine .ao z b off len cap n cs _ ai (sB _ _) (fun e aw=>?_) dv (fun i j e c c' aw am ak=>?_)
       ·obtain⟨i,aA⟩:=List.mem_iff_getElem?.1 aw;have d1:i<len:=by
         have:=(List.getElem?_eq_some_iff.1 aA).1;rw[sB] at this; exact this
        rw[ea i d1] at aA;cases aA;have:=dF i d1;simp; omega
       ·have d1:i<len:=by
         have:=(List.getElem?_eq_some_iff.1 aw).1;rw[sB] at this; exact this
        rw[ea i d1] at aw;cases aw;have wO:=dF i d1;have kR:j<z:=by have:=(List.getElem?_eq_some_iff.1 am).1; simp at this; omega
        rw[List.getElem?_take_of_lt kR,List.getElem?_drop] at am;refine xD d c c' (qu h1 (i*z+j) c c' ?_ am);rw[List.getElem?_take_of_lt (by omega),List.getElem?_drop];exact ak
      ·cases aj
     ·cases aj
    ·cases aj
  ·rename_i b off sz;split at aj
   ·rename_i n cs ai;split at aj
    ·rename_i aI;split at aj
     ·rename_i h1;cases aj;rw[<-Nat.eq_of_beq_eq_true aI];exact .ptr b off n cs _ ai (qv h1) (fun j c c' ak ez=>xD d c c' (qu h1 j c c' ak ez))
     ·cases aj
    ·cases aj
   ·cases aj
  ·split at aj
   ·rename_i ak; cases aj; exact .same _ ak
   ·cases aj
theorem fa.rep (r:d5 h l) {c c' : ae} (aC:fa h c c') :fa (bW l) c c':=by
 induction aC with
 | same c ak=>exact .same c ak
 | aS cs cs' aq ax aK=>exact .aS cs cs' aq aK
 | bU cs cs' aq ax aK=>exact .bU cs cs' aq aK
 | ao z b off len cap sz cs es ai aq aB d2 ax aK=>exact .ao z b off len cap sz cs es (by rw[<-r.f]; exact ai) aq aB d2 aK
 | pl z b off cap sz=>exact .pl z b off cap sz
 | ptr b off sz cs cs' ai aq ax aK=>exact .ptr b off sz cs cs' (by rw[<-r.f]; exact ai) aq aK
def xU (P:Program) (G:Nat->ae) (call:mA) :Prop:=
 ∀ (f:FuncId) (args:List ae) (h:aM) (v:ae) (h' : aM) (l:au),d5 h l->call f args h=some (v,h')->∃ l',d5 h' l'/\∀ K:ae->au->Prop,K v l'->dB P G f args l (c:=⟨K⟩)
theorem ain {m:bb} {v:ae} {l:au} {K:ae->au->Prop} (aE:K v l) :dS m v l K:=by
 cases m<;>first | exact aE | exact .inl aE
theorem Oi {call:mA} (ak:xU P G call) (r:d5 h l) {b:oo} {s:f0} {v:ae} (aj:x4 P G call b s h=some (v,h')) :
  ∃ l',d5 h' l'/\(∀ K:ae->au->Prop,K v l'->gU P G b (look s) l K)/\(∀ m,b=.c2 m->bR P (cU G (look s)) l m=some (v,l')) :=by
 cases b with
 | c2 m=>
  obtain⟨l',h1,af⟩:=JQ r aj;refine⟨l',af,fun K a7=>?_,fun cp hm=>by cases hm; exact h1⟩;show W (bR P (cU G (look s)) l m) (c:=⟨fun x=>dS m x.1 x.2 K⟩);rw[vX];exact⟨_,h1,ain a7⟩
 | dq f args=>
  obtain⟨l',h1,af⟩:=ak f _ h v h' l r aj;exact⟨l',h1,af,fun m hm=>by cases hm⟩
 | hn x args=>
  simp only[x4] at aj;cases aJ:cU G (look s) x<;>rw[aJ] at aj<;>(try simp only at aj)<;>try (cases aj; done)
  rename_i g first e5
  split at aj
  ·rename_i iW;obtain⟨l',h1,af⟩:=ak g _ h v h' l r aj;refine⟨l',h1,fun K a7=>?_,fun m hm=>by cases hm⟩;show sx P G (cU G (look s) x) _ l (c:=⟨K⟩);unfold sx;rw[aJ];exact⟨iW,af K a7⟩
  ·cases aj
 | mI x name args=>
  simp only[x4] at aj;cases aJ:cU G (look s) x<;>rw[aJ] at aj<;>(try simp only at aj)<;>try (cases aj; done)
  rename_i t v0;split at aj
  ·rename_i g hm;split at aj
   ·rename_i iW;obtain⟨l',h1,af⟩:=ak g _ h v h' l r aj;refine⟨l',h1,fun K a7=>?_,fun m hm=>by cases hm⟩;show sw P G name (cU G (look s) x) _ l (c:=⟨K⟩);unfold sw;rw[aJ];simp only[hm];exact⟨iW,af K a7⟩
   ·cases aj
  ·cases aj
theorem BA {s:f0} {g:Option (Option Tmp × Bool)} {b:Bool} (az:Bz s g=some b) {p q:Prop} (aE:if b then p else q) :n3 (look s) g p q:=by
 unfold Bz at az;unfold n3;split at az
 ·cases az; exact aE
 ·rename_i d w;simp only[o1];split at az
  ·rename_i x aj;simp only[aj];cases az;unfold o2;cases ahD:(x == w)<;>rw[ahD] at aE<;>simpa using aE
  ·cases az
  ·rename_i h1 af;cases az;cases aj:look s d<;>first | exact (by simpa using aE) | (exact absurd aj (h1 _)) | (exact absurd aj af)
 ·cases az; simpa using aE
theorem ML {call:mA} (ak:xU P G call) :∀ (x:List dL) (s:f0) (h:aM) (l:au) (fm:f0) (h' : aM),d5 h l->Ab P G call x s h=some (fm,h')->
  ∃ l',d5 h' l'/\∀ K:bj->au->Prop,K (look fm) l'->ic P G x (look s) l K
 | [],s,h,l,fm,h',r,aj=>by cases aj; exact⟨l,r,fun K a7=>a7⟩
 | x::xs,s,h,l,fm,h',r,aj=>by
  unfold Ab at aj;split at aj
  ·rename_i az;split at aj
   ·rename_i v h1 ai;obtain⟨l1,d3,af,_⟩:=Oi ak r ai;obtain⟨l',cw,ap⟩:=ML ak xs _ h1 l1 fm h' d3 aj;refine⟨l',cw,fun K a7=>?_⟩;unfold ic;refine BA az ?_;simp only[if_true];refine af _ ?_;rw[<-CU];exact ap K a7
   ·cases aj
  ·rename_i az;obtain⟨l',cw,ap⟩:=ML ak xs _ h l fm h' r aj;refine⟨l',cw,fun K a7=>?_⟩;unfold ic;refine BA az ?_;simp only[Bool.false_eq_true,if_false];rw[<-CU];exact ap K a7
  ·cases aj
theorem bg.beq_eq {a b:bg} (h:bg.beq a b=true) :a=b:=by
 cases a<;>cases b<;>simp[bg.beq] at h
 ·rfl
 ·rfl
 ·obtain⟨h1,af⟩:=h;rw[h1,sq af]
theorem al8 {b:oo} {s:f0} {v:ae} {h1:aM} {l' l1:au} (r:d5 h l) (cw:d5 h' l') (d3:d5 h1 l1) (aj:DF P G b s v h h' h1=true) (bz:∀ m,b=.c2 m->m.hP=true->∃ n cs,l'=l++[.cells n cs]) :jZ P G b (look s) v l l' l1:=by
 unfold DF at aj;unfold jZ;split at aj
 ·rename_i m;simp only;cases aI:m.hP with
  | true=>
   rw[aI] at aj;simp only at aj ⊢;have aw:=bg.beq_eq aj;obtain⟨n,cs,rfl⟩:=bz m rfl aI;rw[r.n] at aw;have af:h'.f l.length=(bW (l++[.cells n cs])).f l.length:=cw.f _;rw[la] at af;simp only[List.getElem?_append_right (Nat.le_refl _),Nat.sub_self,List.getElem?_cons_zero] at af ⊢;exact d3.some (aw.trans af) (by simp)
  | false=>
   rw[aI] at aj;simp only at aj ⊢;split at aj
   ·rename_i ju;split at aj
    ·rename_i bf af hm;obtain⟨cg,ap,_⟩:=JQ d3 hm;rw[ae.beq_eq aj] at ap;rw[Wa ju ap] at ap;exact ap
    ·cases aj
   ·cases aj
 ·rename_i ai;split
  ·rename_i m; exact absurd rfl (ai m)
  ·trivial
inductive vV (P:Program) (G:Nat->ae) :List (Nat × (aM->Bool))->hj->Prop
 | nil:vV P G [] []
 | cons {i p q r cw}:(∀ h l,d5 h l->p h=true->q l)->vV P G r cw->vV P G ((i,p) ::r) ((i,q) ::cw)
theorem Q6 (r:d5 h l) {ids:List Nat}:∀ {a:List (Nat × (aM->Bool))} {b:hj},vV P G a b->A7 ids h a=true->nB ids b l
 | _,_,.nil,_=>trivial
 | _,_,.cons aF aC,aj=>by
  unfold A7 at aj;simp only[Bool.and_eq_true,Bool.or_eq_true,Bool.not_eq_true'] at aj;unfold nB;refine⟨fun aA=>?_,Q6 r aC aj.2⟩;rcases aj.1 with h1 | h1
  ·rw[aA] at h1; cases h1
  ·exact aF h l r h1
theorem aie {aD:Operand->ae} {l l' : au} {m:bb} {v:ae} (aI:m.hP=true) (hm:bR P aD l m=some (v,l')) :∃ n cs,l'=l++[.cells n cs] :=by
 cases m<;>simp only[bb.hP,Bool.false_eq_true,reduceCtorEq] at aI<;>simp only[bR,map_some,Option.some.injEq,Prod.mk.injEq] at hm
 case alloc=>obtain⟨_,rfl⟩:=hm; exact⟨_,_,rfl⟩
 case box=>obtain⟨_,_,_,rfl⟩:=hm; exact⟨_,_,rfl⟩
 case c5=>obtain⟨_,_,_,rfl⟩:=hm; exact⟨_,_,rfl⟩
 case k2=>
  unfold pa at hm
  repeat' split at hm
  all_goals first | (cases hm; done) | (cases hm; exact⟨_,_,rfl⟩)
theorem MI {call:mA} (ak:xU P G call) :∀ (x:List dL) (s:f0) (h:aM) (l:au) (fm:f0) (h' : aM) (a:List (Nat × (aM->Bool))) (b:hj),d5 h l->vV P G a b->Aa P G call x s h a=some (fm,h')->
  ∃ l',d5 h' l'/\∀ K:bj->au->Prop,K (look fm) l'->iq P G x (look s) l b K
 | [],s,h,l,fm,h',a,b,r,ar,aj=>by cases aj; exact⟨l,r,fun K a7=>a7⟩
 | x::xs,s,h,l,fm,h',a,b,r,ar,aj=>by
  unfold Aa at aj;split at aj
  ·rename_i az;split at aj
   ·rename_i v h1 ai;obtain⟨l1,d3,af,y4⟩:=Oi ak r ai;split at aj
    ·rename_i ea;have p6:vV P G (match x.cM with | true=>(x.i,DF P G x.b s v h h1) ::a | false=>a) (pj x.cM x.i (jZ P G x.b (look s) v l l1) b) :=by
      cases x.cM with
      | false=>exact ar
      | true=>
       refine .cons (fun af cg e8 aF=>al8 r d3 e8 aF (fun m hm aI=>aie aI (y4 m hm))) ar
     obtain⟨l',cw,ap⟩:=MI ak xs _ h1 l1 fm h' _ _ d3 p6 aj;refine⟨l',cw,fun K a7=>?_⟩;unfold iq;refine BA az ?_;simp only[if_true];refine af _ ⟨Q6 d3 ar ea,?_⟩;rw[<-CU];exact ap K a7
    ·cases aj
   ·cases aj
  ·rename_i az;obtain⟨l',cw,ap⟩:=MI ak xs _ h l fm h' a b r ar aj;refine⟨l',cw,fun K a7=>?_⟩;unfold iq;refine BA az ?_;simp only[Bool.false_eq_true,if_false];rw[<-CU];exact ap K a7
  ·cases aj
theorem GY {call:mA} (ak:xU P G call) :∀ (fuel:Nat) (c:aX) (s:f0) (h:aM) (l:au) (e:pu) (fm:f0) (h' : aM),d5 h l->A4 P G call fuel c s h=some (e,fm,h')->
  ∃ l',d5 h' l'/\∀ K:gg,K e (look fm) l'->run P G c (look s) l K
 | 0,c,s,h,l,e,fm,h',r,aj=>by cases aj
 | k+1,c,s,h,l,e,fm,h',r,aj=>by
  have aK:=GY ak k;unfold A4 Q2 at aj;cases c with
  | skip=>cases aj; exact⟨l,r,fun K a7=>a7⟩
  | ret=>cases aj; exact⟨l,r,fun K a7=>a7⟩
  | exit id=>cases aj; exact⟨l,r,fun K a7=>a7⟩
  | al x=>
   simp only at aj;split at aj
   ·rename_i dC h1 aC;cases aj;obtain⟨l',cw,af⟩:=ML ak x s h l fm h' r aC;exact⟨l',cw,fun K a7=>af _ a7⟩
   ·cases aj
  | ho x=>
   simp only at aj;split at aj
   ·rename_i dC h1 aC;cases aj;obtain⟨l',cw,af⟩:=MI ak x s h l fm h' [] [] r .nil aC;exact⟨l',cw,fun K a7=>af _ a7⟩
   ·cases aj
  | seq a b=>
   simp only at aj;split at aj
   ·rename_i dC h1 aG;obtain⟨l1,d3,af⟩:=aK a s h l _ dC h1 r aG;obtain⟨l',cw,ap⟩:=aK b dC h1 l1 e fm h' d3 aj;refine⟨l',cw,fun K a7=>?_⟩;unfold run;exact af _ (ap K a7)
   ·rename_i b0;obtain⟨l',cw,af⟩:=aK a s h l e fm h' r aj;refine⟨l',cw,fun K a7=>?_⟩;unfold run;refine af _ ?_;unfold ml;cases e with
    | normal=>exact absurd aj (b0 _ _)
    | exit id=>exact a7
    | ret=>exact a7
  | cond c x y=>
   simp only at aj;split at aj
   ·rename_i iV;obtain⟨l',cw,af⟩:=aK x s h l e fm h' r aj;refine⟨l',cw,fun K a7=>?_⟩;unfold run vj;rw[iV];exact af K a7
   ·rename_i iV;obtain⟨l',cw,af⟩:=aK y s h l e fm h' r aj;refine⟨l',cw,fun K a7=>?_⟩;unfold run vj;rw[iV];exact af K a7
   ·cases aj
  | block id c=>
   simp only at aj;split at aj
   ·rename_i qd dC h1 aG;obtain⟨l',cw,af⟩:=aK c s h l _ dC h1 r aG;split at aj
    ·rename_i jM;cases aj;refine⟨l',cw,fun K a7=>?_⟩;unfold run;refine af _ ?_;unfold o0;simp only;rw[jM];exact a7
    ·rename_i jM;cases aj;refine⟨l',cw,fun K a7=>?_⟩;unfold run;refine af _ ?_;unfold o0;simp only;rw[jM];exact a7
   ·rename_i b0;obtain⟨l',cw,af⟩:=aK c s h l e fm h' r aj;refine⟨l',cw,fun K a7=>?_⟩;unfold run;refine af _ ?_;unfold o0;cases e with
    | normal=>exact a7
    | exit id=>exact absurd aj (b0 _ _ _)
    | ret=>exact a7
  | loop c=>
   simp only at aj;split at aj
   ·rename_i dC h1 aG;obtain⟨l1,d3,af⟩:=aK c s h l _ dC h1 r aG;obtain⟨l',cw,ap⟩:=aK (.loop c) dC h1 l1 e fm h' d3 aj;refine⟨l',cw,fun K a7=>?_⟩;have aH:=ap K a7;unfold run at aH ⊢;obtain⟨n,aI⟩:=aH;exact⟨n+1,af _ aI⟩
   ·rename_i b0;obtain⟨l',cw,af⟩:=aK c s h l e fm h' r aj;refine⟨l',cw,fun K a7=>?_⟩;unfold run;refine⟨1,af _ ?_⟩;unfold ml;cases e with
    | normal=>exact absurd aj (b0 _ _)
    | exit id=>exact a7
    | ret=>exact a7
def AC (P:Program) (G:Nat->ae) (jE:qP) :Prop:=∀ f n g args r,jE f=some (n,g)->g args=some r->bT P G f args r/\(n=true->lf P G f args r)
def AD (P:Program) (mu:vW) :Prop:=∀ f c lJ,mu f=some (c,lJ)->bB P f=some c/\bC P f=some lJ
theorem MG (r:d5 h l) {s:f0}:∀ {ms:List bb} {acc:List ae} {v:ae},z6 P G s h ms acc=some v->∀ K:ae->au->Prop,K v l->mj P G K (look s) l ms acc
 | [],acc,v,aj,K,a7=>by cases aj; exact a7
 | m::ms,acc,v,aj,K,a7=>by
  unfold z6 at aj;split at aj
  ·rename_i x h1 hm;obtain⟨l1,af,_⟩:=JQ r hm;unfold mj;rw[vX];exact⟨_,af,MG r aj K a7⟩
  ·cases aj
theorem V7 (args:List ae) :look (xt 0 .nil args)=AO args:=by
 rw[V8];funext t;unfold AO;by_cases aU:t<args.length
 ·rw[if_pos ⟨Nat.zero_le _,by omega⟩]; rfl
 ·rw[if_neg (by omega)];rw[List.getD_eq_getElem?_getD,List.getElem?_eq_none (by omega)]; rfl
theorem acd {jE:qP} (ay:AC P G jE) {f:FuncId} {args:List ae} {h:aM} {l:au} {v:ae} (r:d5 h l) (aj:En jE f args h=some v) (K:ae->au->Prop) (a7:K v l) :dB P G f args l (c:=⟨K⟩) :=by
 unfold En at aj;split at aj
 ·rename_i n g az;split at aj
  ·rename_i hl aG;split at aj
   ·rename_i bf ax;split at aj
    ·rename_i aJ;cases aj;obtain⟨vt,mn⟩:=ay f n g hl v az ax;cases n with
     | true=>exact⟨v,l,.Ki (mn rfl) (qv aG) (fun j c c' ak ez=>(xD 20 c c' (qu aG j c c' ak ez)).rep r),Nat.le_refl _,a7⟩
     | false=>exact⟨v,l,.Kh vt (qv aG) (fun j c c' ak ez=>(xD 20 c c' (qu aG j c c' ak ez)).rep r) aJ,Nat.le_refl _,a7⟩
    ·cases aj
   ·cases aj
  ·cases aj
 ·cases aj
theorem ah0 (r:d5 h l) {z by_ i gL:Nat} {s v:ae} {vs:List ae} (aj:zq z by_ h s i gL vs=some (v,h')) :∃ l',d5 h' l'/\zq z by_ (bW l) s i gL vs=some (v,bW l')/\l.length<=l'.length:=by
 unfold zq at aj ⊢;cases s<;>simp only at aj<;>try (cases aj; done)
 case a6=>
  split at aj
  ·rename_i ak;cases aj;refine⟨_,r.push _,?_,by simp⟩;simp only;rw[if_pos ak,lS,Az,r.n]
  ·cases aj
 case ao om b off len cap sz=>
  simp only;rw[<-r.f b];cases ai:h.f b<;>rw[ai] at aj<;>(try simp only at aj)<;>try (cases aj; done)
  simp only;split at aj
  ·rename_i ak;rw[if_pos ak];cases aj;have aq:=r.some ai (by simp);refine⟨_,(r.set aq _).push _,?_,by simp⟩;rw[nq _ (fg aq),lS,Az,r.n]
  ·cases aj
theorem ahY (r:d5 h l) {z by_:Nat} {args:List ae} {v:ae} (aj:rI z by_ args h=some (v,h')) :∃ l',d5 h' l'/\rI z by_ args (bW l)=some (v,bW l')/\l.length<=l'.length:=by
 unfold rI at aj ⊢;split at aj
 ·rename_i s x y;split at aj
  ·rename_i i jH gL mn cg de mq oX;rw[<-r.f gL];split at aj
   ·rename_i iG vs jq
    try rw[jq]
    try simp only
    split at aj
    ·rename_i ak
     try rw[if_pos ak]
     exact ah0 r aj
    ·cases aj
   ·cases aj
  ·cases aj
 ·cases aj
theorem QZ [qN P G] {jE:qP} {mu:vW} (ay:AC P G jE) (aU:AD P mu) (fuel:Nat) :∀ k,xU P G (A2 P G jE mu fuel k)
 | 0=>fun f args h v h' l r aj=>by cases aj
 | k+1=>fun f args h v h' l r aj=>by
  have aK:=QZ ay aU fuel k;unfold A2 QY at aj;split at aj
  ·rename_i z by_ az;obtain⟨l',cw,h1,af⟩:=ahY r aj;exact⟨l',cw,fun K a7=>⟨v,l',.ext (qN.ok f z by_ az args (bW l) v (bW l') h1),af,a7⟩⟩
  split at aj
  ·rename_i bf ax;cases aj;exact⟨l,r,fun K a7=>acd ay r ax K a7⟩
  ·split at aj
   ·cases aj
   ·rename_i c lJ ahv;obtain⟨jr,js⟩:=aU f c lJ ahv;split at aj
    ·rename_i dC h1 g8;obtain⟨l1,d3,af⟩:=GY aK fuel c _ h l _ dC h1 r g8;split at aj
     ·rename_i bf Cv;cases aj;refine⟨l1,d3,fun K a7=>bI jr js ?_⟩;rw[<-V7];exact af _ (MG d3 Cv K a7)
     ·cases aj
    ·rename_i dC h1 g8;obtain⟨l1,d3,af⟩:=GY aK fuel c _ h l _ dC h1 r g8;split at aj
     ·rename_i bf Cv;cases aj;refine⟨l1,d3,fun K a7=>bI jr js ?_⟩;rw[<-V7];exact af _ (MG d3 Cv K a7)
     ·cases aj
    ·cases aj
end
abbrev U (t:Nat) :Operand:=.tmp t
def rep (n:Nat) (c:ae) :List ae:=List.replicate n c
abbrev ag (i d x:Nat) :dL:=⟨i,some d,none,.c2 (.av (.tmp x)),[],false⟩
abbrev ad (i d:Nat) (m:bb) :dL:=⟨i,some d,none,.c2 m,[],false⟩
abbrev ch (i:Nat) (m:bb) :dL:=⟨i,none,none,.c2 m,[],false⟩
abbrev sc (i d:Nat) (f:FuncId) (args:List Operand) :dL:=⟨i,some d,none,.dq f args,[],false⟩
abbrev aT (i d j:Nat) (w:Bool) (m:bb) :dL:=⟨i,some d,some (some j,w),.c2 m,[],false⟩
@[simp] theorem att (n:Nat) (c:ae) :(rep n c).length=n:=by simp[rep]
def np {α:Type} (p:Nat->α->Prop) :cy α->Prop
 | .nil=>True
 | .node l v r=>(∀ x,v=some x->p 0 x)/\np (fun m=>p (2*m+1)) l/\np (fun m=>p (2*m+2)) r
theorem Ej {α:Type}:∀ (t:cy α) (p:Nat->α->Prop),np p t->∀ n x,t.get n=some x->p n x
 | .nil,p,h,n,x,aj=>by cases aj
 | .node l v r,p,h,n,x,aj=>by
  obtain⟨h1,af,ap⟩:=h;unfold cy.get at aj;by_cases aQ:n=0
  ·subst aQ; exact h1 x aj
  ·rw[io aQ] at aj;simp only at aj;by_cases ay:n % 2=1
   ·rw[qm ay] at aj;have:=Ej l _ af _ x aj;rw[show 2*(n / 2)+1=n by omega] at this; exact this
   ·rw[io ay] at aj;have:=Ej r _ ap _ x aj;rw[show 2*(n / 2 - 1)+2=n by omega] at this; exact this
theorem bi {α:Type} {p:Nat->α->Prop}:np p .nil:=trivial
theorem eC {α:Type} {p:Nat->α->Prop} {l r:cy α} (h1:np (fun m=>p (2*m+1)) l) (af:np (fun m=>p (2*m+2)) r) :np p (.node l none r) :=⟨fun x h=>(by cases h),h1,af⟩
theorem bF {α:Type} {p:Nat->α->Prop} {l r:cy α} {x:α} (aj:p 0 x) (h1:np (fun m=>p (2*m+1)) l) (af:np (fun m=>p (2*m+2)) r) :np p (.node l (some x) r) :=⟨fun y h=>(by cases h; exact aj),h1,af⟩
abbrev NI (P:Program) (f:Nat) (x:aX × List bb) :Prop:=bB P f=some x.1/\bC P f=some x.2
theorem amq {P:Program} {t:cy (aX × List bb)} (h:np (NI P) t) :AD P (fun f=>t.get f) :=fun f c lJ aj=>Ej t _ h f (c,lJ) aj
def ajk:qP:=fun _=>none
theorem Wp (P:Program) (G:Nat->ae) :AC P G ajk:=fun f n g args r h=>by cases h
def u {w:Nat} (a:BitVec w) :Int:=(a.toNat:Int)
@[simp] theorem kx {w:Nat} (a:BitVec w) :BitVec.ofInt w (u a)=a:=by
 unfold u;rw[BitVec.ofInt_natCast,BitVec.ofNat_toNat,BitVec.setWidth_eq]
@[simp] theorem qH {w:Nat} (a b:BitVec w) :(u a=u b)<->a=b:=⟨fun h=>BitVec.eq_of_toNat_eq (by unfold u at h; exact Int.ofNat_inj.1 h),fun h=>by rw[h]⟩
@[simp] theorem at9 {w:Nat} (a b:BitVec w) :(u a<u b)<->a<b:=by unfold u; rw[Int.ofNat_lt]; rfl
@[simp] theorem at8 {w:Nat} (a b:BitVec w) :(u a<=u b)<->a<=b:=by unfold u; rw[Int.ofNat_le]; rfl
@[simp] theorem aua {w:Nat} (a:BitVec w) :0<=u a:=Int.natCast_nonneg _
@[simp] theorem aub {w:Nat} (a:BitVec w) :(u a).toNat=a.toNat:=Int.toNat_natCast _
theorem at7 {w:Nat} (a:BitVec w) :u a<2 ^ w:=by
 have:=a.isLt;unfold u
 exact_mod_cast this
@[simp] theorem ath {w:Nat} (a b:Int) :BitVec.ofInt w (a - b)=BitVec.ofInt w a - BitVec.ofInt w b:=by
 rw[Int.sub_eq_add_neg,BitVec.ofInt_add,BitVec.ofInt_neg,BitVec.sub_eq_add_neg]
attribute [simp] BitVec.ofInt_add BitVec.ofInt_mul
theorem n8 {w:Nat} (v:Nat) (a:BitVec w) :BitVec.ofInt v (u a)=a.setWidth v:=by
 unfold u;rw[BitVec.ofInt_natCast,BitVec.ofNat_toNat]
section
abbrev bG (a:BitVec 8) :ae:=.int .u8 (u a)
@[simp] theorem Au (n:Int) :IntKind.u8.wrap n=u (BitVec.ofInt 8 n) :=by
 have a1:(2 ^ IntKind.u8.bits:Int)=256:=by decide
 have dO:IntKind.u8.signed=false:=rfl;simp only[IntKind.wrap,a1,dO,Bool.false_and,Bool.false_eq_true,if_false,u,BitVec.toNat_ofInt];have:(2 ^ 8:Nat)=256:=by decide
 rw[this];omega
@[simp] theorem aui (a:Int) :oh .xor (.int .u8 a)=some (.int .u8 (u (~~~(BitVec.ofInt 8 a)))) :=by
 show some (ae.int .u8 (IntKind.u8.wrap (u (BitVec.ofInt 8 (255:Int) ^^^ BitVec.ofInt 8 a))))=_;rw[Au,kx];have:BitVec.ofInt 8 (255:Int)=BitVec.allOnes 8:=by decide
 rw[this,BitVec.allOnes_xor]
theorem acA (a:BitVec 8) (k' : IntKind) (n:Nat) :ct .shl .u8 (u a) k' (n:Int)=some (.int .u8 (u (a <<< n))) :=by
 have aQ:¬((n:Int)<0) :=by omega
 show (if (n:Int)<0 then none else some (ae.int .u8 (IntKind.u8.wrap ((a.toNat:Int)*2 ^ min (n:Int).toNat 8))))=_;rw[if_neg aQ];congr 2;rw[Au,Int.toNat_natCast];unfold u;congr 1;have:((a.toNat:Int)*2 ^ min n 8)=((a.toNat*2 ^ min n 8:Nat) :Int) :=by rw[Int.natCast_mul,Int.natCast_pow]; rfl
 rw[this,BitVec.ofInt_natCast,BitVec.toNat_ofNat,BitVec.toNat_shiftLeft,Nat.shiftLeft_eq];rcases Nat.lt_or_ge n 8 with h | h
 ·rw[Nat.min_eq_left (Nat.le_of_lt h)]
 ·rw[Nat.min_eq_right h];have h1:a.toNat*2 ^ 8 % 2 ^ 8=0:=Nat.mul_mod_left _ _;obtain⟨m,rfl⟩:=Nat.exists_eq_add_of_le h;rw[h1,Nat.pow_add,Nat.mul_left_comm,Nat.mul_mod_right]
theorem acD (a:BitVec 8) (k' : IntKind) (n:Nat) :ct .shr .u8 (u a) k' (n:Int)=some (.int .u8 (u (a >>> n))) :=by
 have aQ:¬((n:Int)<0) :=by omega
 show (if (n:Int)<0 then none else some (ae.int .u8 ((a.toNat:Int).fdiv (2 ^ min (n:Int).toNat 8))))=_;rw[if_neg aQ];congr 2;rw[Int.toNat_natCast];unfold u;have:((2:Int) ^ min n 8)=((2 ^ min n 8:Nat) :Int) :=by rw[Int.natCast_pow]; rfl
 rw[this,Int.fdiv_eq_ediv_of_nonneg _ (Int.natCast_nonneg _),<-Int.natCast_ediv,BitVec.toNat_ushiftRight,Nat.shiftRight_eq_div_pow];congr 1;rcases Nat.lt_or_ge n 8 with h | h
 ·rw[Nat.min_eq_left (Nat.le_of_lt h)]
 ·rw[Nat.min_eq_right h,Nat.div_eq_of_lt a.isLt,Nat.div_eq_of_lt (Nat.lt_of_lt_of_le a.isLt (Nat.pow_le_pow_right (by omega) h))]
@[simp] theorem aov (a:BitVec 8) (k' : IntKind) (n:Int) (h:0<=n) :ct .shl .u8 (u a) k' n=some (.int .u8 (u (a <<< n.toNat))) :=by
 obtain⟨m,rfl⟩:=Int.eq_ofNat_of_zero_le h;exact acA a k' m
@[simp] theorem aoz (a:BitVec 8) (k' : IntKind) (n:Int) (h:0<=n) :ct .shr .u8 (u a) k' n=some (.int .u8 (u (a >>> n.toNat))) :=by
 obtain⟨m,rfl⟩:=Int.eq_ofNat_of_zero_le h;exact acD a k' m
@[simp] theorem aor (a b:BitVec 8) (h:b≠0#8) :ct .rem .u8 (u a) .u8 (u b)=some (.int .u8 (u (a % b))) :=by
 have ai:(b.toNat:Int)≠0:=fun e=>h (BitVec.eq_of_toNat_eq (by simpa using e))
 show (if IntKind.u8=IntKind.u8/\(b.toNat:Int)≠0 then some (ae.int .u8 ((a.toNat:Int).tmod b.toNat)) else none)=_;rw[if_pos ⟨rfl,ai⟩];unfold u;rw[BitVec.toNat_umod];rfl
@[simp] theorem aoH (a b:Int) :ct .xor .u8 a .u8 b=some (.int .u8 (u (BitVec.ofInt 8 a ^^^ BitVec.ofInt 8 b))) :=by
 show some (ae.int .u8 (IntKind.u8.wrap (u (BitVec.ofInt 8 a ^^^ BitVec.ofInt 8 b))))=_;rw[Au,kx]
@[simp] theorem aop (a b:Int) :ct .or .u8 a .u8 b=some (.int .u8 (u (BitVec.ofInt 8 a ||| BitVec.ofInt 8 b))) :=by
 show some (ae.int .u8 (IntKind.u8.wrap (u (BitVec.ofInt 8 a ||| BitVec.ofInt 8 b))))=_;rw[Au,kx]
@[simp] theorem an7 (a b:Int) :ct .and .u8 a .u8 b=some (.int .u8 (u (BitVec.ofInt 8 a &&& BitVec.ofInt 8 b))) :=by
 show some (ae.int .u8 (IntKind.u8.wrap (u (BitVec.ofInt 8 a &&& BitVec.ofInt 8 b))))=_;rw[Au,kx]
end
section
abbrev Bf (a:BitVec 16) :ae:=.int .u16 (u a)
@[simp] theorem As (n:Int) :IntKind.u16.wrap n=u (BitVec.ofInt 16 n) :=by
 have a1:(2 ^ IntKind.u16.bits:Int)=65536:=by decide
 have dO:IntKind.u16.signed=false:=rfl;simp only[IntKind.wrap,a1,dO,Bool.false_and,Bool.false_eq_true,if_false,u,BitVec.toNat_ofInt];have:(2 ^ 16:Nat)=65536:=by decide
 rw[this];omega
@[simp] theorem auf (a:Int) :oh .xor (.int .u16 a)=some (.int .u16 (u (~~~(BitVec.ofInt 16 a)))) :=by
 show some (ae.int .u16 (IntKind.u16.wrap (u (BitVec.ofInt 16 (65535:Int) ^^^ BitVec.ofInt 16 a))))=_;rw[As,kx];have:BitVec.ofInt 16 (65535:Int)=BitVec.allOnes 16:=by decide
 rw[this,BitVec.allOnes_xor]
theorem acy (a:BitVec 16) (k' : IntKind) (n:Nat) :ct .shl .u16 (u a) k' (n:Int)=some (.int .u16 (u (a <<< n))) :=by
 have aQ:¬((n:Int)<0) :=by omega
 show (if (n:Int)<0 then none else some (ae.int .u16 (IntKind.u16.wrap ((a.toNat:Int)*2 ^ min (n:Int).toNat 16))))=_;rw[if_neg aQ];congr 2;rw[As,Int.toNat_natCast];unfold u;congr 1;have:((a.toNat:Int)*2 ^ min n 16)=((a.toNat*2 ^ min n 16:Nat) :Int) :=by rw[Int.natCast_mul,Int.natCast_pow]; rfl
 rw[this,BitVec.ofInt_natCast,BitVec.toNat_ofNat,BitVec.toNat_shiftLeft,Nat.shiftLeft_eq];rcases Nat.lt_or_ge n 16 with h | h
 ·rw[Nat.min_eq_left (Nat.le_of_lt h)]
 ·rw[Nat.min_eq_right h];have h1:a.toNat*2 ^ 16 % 2 ^ 16=0:=Nat.mul_mod_left _ _;obtain⟨m,rfl⟩:=Nat.exists_eq_add_of_le h;rw[h1,Nat.pow_add,Nat.mul_left_comm,Nat.mul_mod_right]
theorem acB (a:BitVec 16) (k' : IntKind) (n:Nat) :ct .shr .u16 (u a) k' (n:Int)=some (.int .u16 (u (a >>> n))) :=by
 have aQ:¬((n:Int)<0) :=by omega
 show (if (n:Int)<0 then none else some (ae.int .u16 ((a.toNat:Int).fdiv (2 ^ min (n:Int).toNat 16))))=_;rw[if_neg aQ];congr 2;rw[Int.toNat_natCast];unfold u;have:((2:Int) ^ min n 16)=((2 ^ min n 16:Nat) :Int) :=by rw[Int.natCast_pow]; rfl
 rw[this,Int.fdiv_eq_ediv_of_nonneg _ (Int.natCast_nonneg _),<-Int.natCast_ediv,BitVec.toNat_ushiftRight,Nat.shiftRight_eq_div_pow];congr 1;rcases Nat.lt_or_ge n 16 with h | h
 ·rw[Nat.min_eq_left (Nat.le_of_lt h)]
 ·rw[Nat.min_eq_right h,Nat.div_eq_of_lt a.isLt,Nat.div_eq_of_lt (Nat.lt_of_lt_of_le a.isLt (Nat.pow_le_pow_right (by omega) h))]
@[simp] theorem aos (a:BitVec 16) (k' : IntKind) (n:Int) (h:0<=n) :ct .shl .u16 (u a) k' n=some (.int .u16 (u (a <<< n.toNat))) :=by
 obtain⟨m,rfl⟩:=Int.eq_ofNat_of_zero_le h;exact acy a k' m
@[simp] theorem aow (a:BitVec 16) (k' : IntKind) (n:Int) (h:0<=n) :ct .shr .u16 (u a) k' n=some (.int .u16 (u (a >>> n.toNat))) :=by
 obtain⟨m,rfl⟩:=Int.eq_ofNat_of_zero_le h;exact acB a k' m
@[simp] theorem aoq (a b:BitVec 16) (h:b≠0#16) :ct .rem .u16 (u a) .u16 (u b)=some (.int .u16 (u (a % b))) :=by
 have ai:(b.toNat:Int)≠0:=fun e=>h (BitVec.eq_of_toNat_eq (by simpa using e))
 show (if IntKind.u16=IntKind.u16/\(b.toNat:Int)≠0 then some (ae.int .u16 ((a.toNat:Int).tmod b.toNat)) else none)=_;rw[if_pos ⟨rfl,ai⟩];unfold u;rw[BitVec.toNat_umod];rfl
@[simp] theorem aoE (a b:Int) :ct .xor .u16 a .u16 b=some (.int .u16 (u (BitVec.ofInt 16 a ^^^ BitVec.ofInt 16 b))) :=by
 show some (ae.int .u16 (IntKind.u16.wrap (u (BitVec.ofInt 16 a ^^^ BitVec.ofInt 16 b))))=_;rw[As,kx]
@[simp] theorem aom (a b:Int) :ct .or .u16 a .u16 b=some (.int .u16 (u (BitVec.ofInt 16 a ||| BitVec.ofInt 16 b))) :=by
 show some (ae.int .u16 (IntKind.u16.wrap (u (BitVec.ofInt 16 a ||| BitVec.ofInt 16 b))))=_;rw[As,kx]
@[simp] theorem an5 (a b:Int) :ct .and .u16 a .u16 b=some (.int .u16 (u (BitVec.ofInt 16 a &&& BitVec.ofInt 16 b))) :=by
 show some (ae.int .u16 (IntKind.u16.wrap (u (BitVec.ofInt 16 a &&& BitVec.ofInt 16 b))))=_;rw[As,kx]
end
section
abbrev bu (a:BitVec 32) :ae:=.int .u32 (u a)
@[simp] theorem xR (n:Int) :IntKind.u32.wrap n=u (BitVec.ofInt 32 n) :=by
 have a1:(2 ^ IntKind.u32.bits:Int)=4294967296:=by decide
 have dO:IntKind.u32.signed=false:=rfl;simp only[IntKind.wrap,a1,dO,Bool.false_and,Bool.false_eq_true,if_false,u,BitVec.toNat_ofInt];have:(2 ^ 32:Nat)=4294967296:=by decide
 rw[this];omega
@[simp] theorem aug (a:Int) :oh .xor (.int .u32 a)=some (.int .u32 (u (~~~(BitVec.ofInt 32 a)))) :=by
 show some (ae.int .u32 (IntKind.u32.wrap (u (BitVec.ofInt 32 (4294967295:Int) ^^^ BitVec.ofInt 32 a))))=_;rw[xR,kx];have:BitVec.ofInt 32 (4294967295:Int)=BitVec.allOnes 32:=by decide
 rw[this,BitVec.allOnes_xor]
theorem acz (a:BitVec 32) (k' : IntKind) (n:Nat) :ct .shl .u32 (u a) k' (n:Int)=some (.int .u32 (u (a <<< n))) :=by
 have aQ:¬((n:Int)<0) :=by omega
 show (if (n:Int)<0 then none else some (ae.int .u32 (IntKind.u32.wrap ((a.toNat:Int)*2 ^ min (n:Int).toNat 32))))=_;rw[if_neg aQ];congr 2;rw[xR,Int.toNat_natCast];unfold u;congr 1;have:((a.toNat:Int)*2 ^ min n 32)=((a.toNat*2 ^ min n 32:Nat) :Int) :=by rw[Int.natCast_mul,Int.natCast_pow]; rfl
 rw[this,BitVec.ofInt_natCast,BitVec.toNat_ofNat,BitVec.toNat_shiftLeft,Nat.shiftLeft_eq];rcases Nat.lt_or_ge n 32 with h | h
 ·rw[Nat.min_eq_left (Nat.le_of_lt h)]
 ·rw[Nat.min_eq_right h];have h1:a.toNat*2 ^ 32 % 2 ^ 32=0:=Nat.mul_mod_left _ _;obtain⟨m,rfl⟩:=Nat.exists_eq_add_of_le h;rw[h1,Nat.pow_add,Nat.mul_left_comm,Nat.mul_mod_right]
theorem acC (a:BitVec 32) (k' : IntKind) (n:Nat) :ct .shr .u32 (u a) k' (n:Int)=some (.int .u32 (u (a >>> n))) :=by
 have aQ:¬((n:Int)<0) :=by omega
 show (if (n:Int)<0 then none else some (ae.int .u32 ((a.toNat:Int).fdiv (2 ^ min (n:Int).toNat 32))))=_;rw[if_neg aQ];congr 2;rw[Int.toNat_natCast];unfold u;have:((2:Int) ^ min n 32)=((2 ^ min n 32:Nat) :Int) :=by rw[Int.natCast_pow]; rfl
 rw[this,Int.fdiv_eq_ediv_of_nonneg _ (Int.natCast_nonneg _),<-Int.natCast_ediv,BitVec.toNat_ushiftRight,Nat.shiftRight_eq_div_pow];congr 1;rcases Nat.lt_or_ge n 32 with h | h
 ·rw[Nat.min_eq_left (Nat.le_of_lt h)]
 ·rw[Nat.min_eq_right h,Nat.div_eq_of_lt a.isLt,Nat.div_eq_of_lt (Nat.lt_of_lt_of_le a.isLt (Nat.pow_le_pow_right (by omega) h))]
@[simp] theorem aot (a:BitVec 32) (k' : IntKind) (n:Int) (h:0<=n) :ct .shl .u32 (u a) k' n=some (.int .u32 (u (a <<< n.toNat))) :=by
 obtain⟨m,rfl⟩:=Int.eq_ofNat_of_zero_le h;exact acz a k' m
@[simp] theorem aox (a:BitVec 32) (k' : IntKind) (n:Int) (h:0<=n) :ct .shr .u32 (u a) k' n=some (.int .u32 (u (a >>> n.toNat))) :=by
 obtain⟨m,rfl⟩:=Int.eq_ofNat_of_zero_le h;exact acC a k' m
@[simp] theorem acw (a b:BitVec 32) (h:b≠0#32) :ct .rem .u32 (u a) .u32 (u b)=some (.int .u32 (u (a % b))) :=by
 have ai:(b.toNat:Int)≠0:=fun e=>h (BitVec.eq_of_toNat_eq (by simpa using e))
 show (if IntKind.u32=IntKind.u32/\(b.toNat:Int)≠0 then some (ae.int .u32 ((a.toNat:Int).tmod b.toNat)) else none)=_;rw[if_pos ⟨rfl,ai⟩];unfold u;rw[BitVec.toNat_umod];rfl
@[simp] theorem aoF (a b:Int) :ct .xor .u32 a .u32 b=some (.int .u32 (u (BitVec.ofInt 32 a ^^^ BitVec.ofInt 32 b))) :=by
 show some (ae.int .u32 (IntKind.u32.wrap (u (BitVec.ofInt 32 a ^^^ BitVec.ofInt 32 b))))=_;rw[xR,kx]
@[simp] theorem aon (a b:Int) :ct .or .u32 a .u32 b=some (.int .u32 (u (BitVec.ofInt 32 a ||| BitVec.ofInt 32 b))) :=by
 show some (ae.int .u32 (IntKind.u32.wrap (u (BitVec.ofInt 32 a ||| BitVec.ofInt 32 b))))=_;rw[xR,kx]
@[simp] theorem an6 (a b:Int) :ct .and .u32 a .u32 b=some (.int .u32 (u (BitVec.ofInt 32 a &&& BitVec.ofInt 32 b))) :=by
 show some (ae.int .u32 (IntKind.u32.wrap (u (BitVec.ofInt 32 a &&& BitVec.ofInt 32 b))))=_;rw[xR,kx]
end
section
abbrev dz (a:BitVec 64) :ae:=.int .u64 (u a)
@[simp] theorem vL (n:Int) :IntKind.u64.wrap n=u (BitVec.ofInt 64 n) :=by
 have a1:(2 ^ IntKind.u64.bits:Int)=18446744073709551616:=by decide
 have dO:IntKind.u64.signed=false:=rfl;simp only[IntKind.wrap,a1,dO,Bool.false_and,Bool.false_eq_true,if_false,u,BitVec.toNat_ofInt];have:(2 ^ 64:Nat)=18446744073709551616:=by decide
 rw[this];omega
@[simp] theorem auh (a:Int) :oh .xor (.int .u64 a)=some (.int .u64 (u (~~~(BitVec.ofInt 64 a)))) :=by
 show some (ae.int .u64 (IntKind.u64.wrap (u (BitVec.ofInt 64 (18446744073709551615:Int) ^^^ BitVec.ofInt 64 a))))=_;rw[vL,kx];have:BitVec.ofInt 64 (18446744073709551615:Int)=BitVec.allOnes 64:=by decide
 rw[this,BitVec.allOnes_xor]
theorem Oy (a:BitVec 64) (k' : IntKind) (n:Nat) :ct .shl .u64 (u a) k' (n:Int)=some (.int .u64 (u (a <<< n))) :=by
 have aQ:¬((n:Int)<0) :=by omega
 show (if (n:Int)<0 then none else some (ae.int .u64 (IntKind.u64.wrap ((a.toNat:Int)*2 ^ min (n:Int).toNat 64))))=_;rw[if_neg aQ];congr 2;rw[vL,Int.toNat_natCast];unfold u;congr 1;have:((a.toNat:Int)*2 ^ min n 64)=((a.toNat*2 ^ min n 64:Nat) :Int) :=by rw[Int.natCast_mul,Int.natCast_pow]; rfl
 rw[this,BitVec.ofInt_natCast,BitVec.toNat_ofNat,BitVec.toNat_shiftLeft,Nat.shiftLeft_eq];rcases Nat.lt_or_ge n 64 with h | h
 ·rw[Nat.min_eq_left (Nat.le_of_lt h)]
 ·rw[Nat.min_eq_right h];have h1:a.toNat*2 ^ 64 % 2 ^ 64=0:=Nat.mul_mod_left _ _;obtain⟨m,rfl⟩:=Nat.exists_eq_add_of_le h;rw[h1,Nat.pow_add,Nat.mul_left_comm,Nat.mul_mod_right]
theorem su (a:BitVec 64) (k' : IntKind) (n:Nat) :ct .shr .u64 (u a) k' (n:Int)=some (.int .u64 (u (a >>> n))) :=by
 have aQ:¬((n:Int)<0) :=by omega
 show (if (n:Int)<0 then none else some (ae.int .u64 ((a.toNat:Int).fdiv (2 ^ min (n:Int).toNat 64))))=_;rw[if_neg aQ];congr 2;rw[Int.toNat_natCast];unfold u;have:((2:Int) ^ min n 64)=((2 ^ min n 64:Nat) :Int) :=by rw[Int.natCast_pow]; rfl
 rw[this,Int.fdiv_eq_ediv_of_nonneg _ (Int.natCast_nonneg _),<-Int.natCast_ediv,BitVec.toNat_ushiftRight,Nat.shiftRight_eq_div_pow];congr 1;rcases Nat.lt_or_ge n 64 with h | h
 ·rw[Nat.min_eq_left (Nat.le_of_lt h)]
 ·rw[Nat.min_eq_right h,Nat.div_eq_of_lt a.isLt,Nat.div_eq_of_lt (Nat.lt_of_lt_of_le a.isLt (Nat.pow_le_pow_right (by omega) h))]
@[simp] theorem aou (a:BitVec 64) (k' : IntKind) (n:Int) (h:0<=n) :ct .shl .u64 (u a) k' n=some (.int .u64 (u (a <<< n.toNat))) :=by
 obtain⟨m,rfl⟩:=Int.eq_ofNat_of_zero_le h;exact Oy a k' m
@[simp] theorem aoy (a:BitVec 64) (k' : IntKind) (n:Int) (h:0<=n) :ct .shr .u64 (u a) k' n=some (.int .u64 (u (a >>> n.toNat))) :=by
 obtain⟨m,rfl⟩:=Int.eq_ofNat_of_zero_le h;exact su a k' m
@[simp] theorem v6 (a b:BitVec 64) (h:b≠0#64) :ct .rem .u64 (u a) .u64 (u b)=some (.int .u64 (u (a % b))) :=by
 have ai:(b.toNat:Int)≠0:=fun e=>h (BitVec.eq_of_toNat_eq (by simpa using e))
 show (if IntKind.u64=IntKind.u64/\(b.toNat:Int)≠0 then some (ae.int .u64 ((a.toNat:Int).tmod b.toNat)) else none)=_;rw[if_pos ⟨rfl,ai⟩];unfold u;rw[BitVec.toNat_umod];rfl
@[simp] theorem aoG (a b:Int) :ct .xor .u64 a .u64 b=some (.int .u64 (u (BitVec.ofInt 64 a ^^^ BitVec.ofInt 64 b))) :=by
 show some (ae.int .u64 (IntKind.u64.wrap (u (BitVec.ofInt 64 a ^^^ BitVec.ofInt 64 b))))=_;rw[vL,kx]
@[simp] theorem aoo (a b:Int) :ct .or .u64 a .u64 b=some (.int .u64 (u (BitVec.ofInt 64 a ||| BitVec.ofInt 64 b))) :=by
 show some (ae.int .u64 (IntKind.u64.wrap (u (BitVec.ofInt 64 a ||| BitVec.ofInt 64 b))))=_;rw[vL,kx]
@[simp] theorem Og (a b:Int) :ct .and .u64 a .u64 b=some (.int .u64 (u (BitVec.ofInt 64 a &&& BitVec.ofInt 64 b))) :=by
 show some (ae.int .u64 (IntKind.u64.wrap (u (BitVec.ofInt 64 a &&& BitVec.ofInt 64 b))))=_;rw[vL,kx]
end
@[simp] theorem apf (a:BitVec 8) :BitVec.ofInt 16 (u a)=a.setWidth 16:=n8 16 a
@[simp] theorem apg (a:BitVec 8) :BitVec.ofInt 32 (u a)=a.setWidth 32:=n8 32 a
@[simp] theorem aph (a:BitVec 8) :BitVec.ofInt 64 (u a)=a.setWidth 64:=n8 64 a
@[simp] theorem ao8 (a:BitVec 16) :BitVec.ofInt 8 (u a)=a.setWidth 8:=n8 8 a
@[simp] theorem ao6 (a:BitVec 16) :BitVec.ofInt 32 (u a)=a.setWidth 32:=n8 32 a
@[simp] theorem ao7 (a:BitVec 16) :BitVec.ofInt 64 (u a)=a.setWidth 64:=n8 64 a
@[simp] theorem apb (a:BitVec 32) :BitVec.ofInt 8 (u a)=a.setWidth 8:=n8 8 a
@[simp] theorem ao9 (a:BitVec 32) :BitVec.ofInt 16 (u a)=a.setWidth 16:=n8 16 a
@[simp] theorem apa (a:BitVec 32) :BitVec.ofInt 64 (u a)=a.setWidth 64:=n8 64 a
@[simp] theorem ape (a:BitVec 64) :BitVec.ofInt 8 (u a)=a.setWidth 8:=n8 8 a
@[simp] theorem apc (a:BitVec 64) :BitVec.ofInt 16 (u a)=a.setWidth 16:=n8 16 a
@[simp] theorem apd (a:BitVec 64) :BitVec.ofInt 32 (u a)=a.setWidth 32:=n8 32 a
@[simp] theorem auc {w:Nat}:u (0#w)=0:=by simp[u]
theorem EA (k:Nat) (c:Int) (ak:0<c) (aE:k<9223372036854775808) :ct .quo .i64 (k:Int) .i64 c=some (.int .i64 ((k / c.toNat:Nat) :Int)) :=by
 obtain⟨m,rfl⟩:=Int.eq_ofNat_of_zero_le (Int.le_of_lt ak);have hm:(m:Int)≠0:=by omega
 show (if IntKind.i64=IntKind.i64/\(m:Int)≠0 then some (ae.int .i64 (IntKind.i64.wrap ((k:Int).tdiv m))) else none)=_;rw[if_pos ⟨rfl,hm⟩,Int.toNat_natCast];have:((k:Int).tdiv m)=((k / m:Nat) :Int) :=rfl;have af:=Nat.div_le_self k m;rw[this];generalize k / m=q at af;rw[wrap_i64 (by omega) (by omega)]
theorem AV (k:Nat) (c:Int) (ak:0<c) :ct .rem .i64 (k:Int) .i64 c=some (.int .i64 ((k % c.toNat:Nat) :Int)) :=by
 obtain⟨m,rfl⟩:=Int.eq_ofNat_of_zero_le (Int.le_of_lt ak);have hm:(m:Int)≠0:=by omega
 show (if IntKind.i64=IntKind.i64/\(m:Int)≠0 then some (ae.int .i64 ((k:Int).tmod m)) else none)=_;rw[if_pos ⟨rfl,hm⟩,Int.toNat_natCast];rfl
theorem ZO (k:IntKind) (w n:Nat) :rep n (.int k 0)=(List.replicate n (0#w)).map fun x=>.int k (u x) :=by
 simp[rep]
theorem mr {α:Type} (f:α->ae) (l:List α) (i:Nat) (x:α) (h:i<l.length) :bS (l.map f) i [f x]=(l.set i x).map f:=by
 unfold bS;rw[List.set_eq_take_append_cons_drop,if_pos h];simp
theorem lO {cs vs:List ae} (h:vs.length=cs.length) :bS cs 0 vs=vs:=by
 unfold bS;rw[Nat.zero_add,List.take_zero,List.nil_append,h,List.drop_length,List.append_nil]
theorem aZ {l:au} {c c' : ae} (h:c=c') (ak:c'.closed=true) :Rd l c c':=by subst h; exact .same _ ak
theorem wv {α:Type} {z:Nat}:∀ (es:List (List α)),(∀ e∈es,e.length=z)->∀ (i j:Nat) (e:List α) (c:α),es[i]? = some e->e[j]? = some c->es.flatten[i*z+j]? = some c:=by
 intro es aB
 induction es with
 | nil=>intro i j e c aw; simp at aw
 | cons x es aK=>
  intro i j e c aw am;have aj:x.length=z:=aB x (by simp);cases i with
  | zero=>
   simp only[List.getElem?_cons_zero,Option.some.injEq] at aw;subst aw;rw[List.flatten_cons,Nat.zero_mul,Nat.zero_add,List.getElem?_append_left (List.getElem?_eq_some_iff.1 am).1];exact am
  | succ i=>
   simp only[List.getElem?_cons_succ] at aw;rw[List.flatten_cons,List.getElem?_append_right (by rw[aj,Nat.succ_mul]; omega),aj,show (i+1)*z+j - z=i*z+j by rw[Nat.succ_mul]; omega];exact aK (fun e aw=>aB e (by simp[aw])) i j e c aw am
inductive qR (l:au) :List ae->List ae->Prop
 | nil:qR l [] []
 | cons {c c' cs cs'}:fa (bW l) c c'->qR l cs cs'->qR l (c::cs) (c'::cs')
theorem qR.len {l:au}:∀ {a b:List ae},qR l a b->b.length=a.length
 | _,_,.nil=>rfl
 | _,_,.cons _ h=>by simp[h.len]
theorem qR.get {l:au}:∀ {a b:List ae},qR l a b->∀ (j:Nat) (c c' : ae),a[j]? = some c->b[j]? = some c'->fa (bW l) c c'
 | _,_,.nil,j,c,c',h,_=>by simp at h
 | _,_,.cons h1 af,j,c,c',h,h'=>by
  cases j with
  | zero=>simp at h h'; subst h h'; exact h1
  | succ j=>exact af.get j c c' (by simpa using h) (by simpa using h')
theorem ja {P:Program} {G:Nat->ae} {f:FuncId} {args hl:List ae} {r:ae} {l:au} {K:ae->au->Prop} (aF:bT P G f hl r) (aC:qR l args hl) (aJ:r.flat=true) (h:K r l) :dB P G f args l (c:=⟨K⟩) :=
 ⟨r,l,.Kh aF aC.len aC.get aJ,Nat.le_refl _,h⟩
theorem W3 {P:Program} {G:Nat->ae} {f:FuncId} {args hl:List ae} {r:ae} {l:au} {K:ae->au->Prop} (aF:lf P G f hl r) (aC:qR l args hl) (h:K r l) :dB P G f args l (c:=⟨K⟩) :=
 ⟨r,l,.Ki aF aC.len aC.get,Nat.le_refl _,h⟩
inductive iO (l:au) :ae->ae->Prop
 | flat (c:ae) (h:c.flat=true) :iO l c c
 | aS (cs cs' : List ae) (aq:cs'.length=cs.length) (h:∀ (j:Nat) (c c' : ae),cs[j]? = some c->cs'[j]? = some c'->iO l c c') :iO l (.aS cs) (.aS cs')
 | bU (cs cs' : List ae) (aq:cs'.length=cs.length) (h:∀ (j:Nat) (c c' : ae),cs[j]? = some c->cs'[j]? = some c'->iO l c c') :iO l (.bU cs) (.bU cs')
 | ao (z b off len cap sz:Nat) (cs:List ae) (es:List (List ae)) (ai:l[b]? = some (.cells sz cs)) (aq:es.length=len) (aB:∀ e∈es,e.length=z)
   (d2:off+len*z<=cs.length)
   (h:∀ (i j:Nat) (e:List ae) (c c' : ae),es[i]? = some e->e[j]? = some c'->cs[off+(i*z+j)]? = some c->iO l c c') :iO l (.ao z b off len cap sz) (.b6 z es)
 | pl (z b off cap sz:Nat) :iO l (.ao z b off 0 cap sz) (.b6 z [])
 | eZ (z:Nat) :iO l (.b6 z []) (.b6 z [])
theorem akT {w:World} {R:Nat->Prop} {B:Nat} {l:au} {μ:cG} (rel:b5 R B w (bW l) μ) :∀ {c c' : ae},iO l c c'->∀ {v:Value},aP w R (bW l) μ c v->eN w (fun k=>B<=k) c' v:=by
 intro c c' aC
 induction aC with
 | flat c h=>intro v ax; exact RY ax h
 | aS cs cs' aq h aK=>
  intro v ax;cases ax with
  | aS _ vs fF h1 ax=>
   refine .aS cs' vs (by omega) h1 (fun j c' v am eI=>?_);have aN:j<cs.length:=by rw[<-aq]; exact (List.getElem?_eq_some_iff.1 am).1
   exact aK j cs[j] c' (List.getElem?_eq_getElem aN) am (ax j cs[j] v (List.getElem?_eq_getElem aN) eI)
 | bU cs cs' aq h aK=>
  intro v ax;cases ax with
  | bU _ vs fF ax=>
   refine .bU cs' vs (by omega) (fun j c' v am eI=>?_);have aN:j<cs.length:=by rw[<-aq]; exact (List.getElem?_eq_some_iff.1 am).1
   exact aK j cs[j] c' (List.getElem?_eq_getElem aN) am (ax j cs[j] v (List.getElem?_eq_getElem aN) eI)
 | pl z b off cap sz=>
  intro v ax;cases ax with
  | ao _ _ _ _ _ _ cap' cs m ai hm aq ay ak=>exact .eZ z _ cap'
  | fA _ _ _ _ _ _ cap' a aq ak az=>exact .eZ z _ cap'
  | gS _ _ _ _ a cs m ai hm=>exact .eZ z a 0
 | eZ z=>
  intro v ax;generalize aw:([] :List (List ae))=es at ax;generalize BZ:ae.b6 z es=uk at ax;cases ax<;>cases BZ
  ·subst aw; exact .eZ z _ _
  ·exact .eZ z _ _
 | ao z b off len cap sz cs es ai aq aB d2 h aK=>
  intro v ax;have oH:(bW l).f b=.cells sz cs:=mC.2 ai;cases ax with
  | gS _ _ _ _ a g0 m e6 jO=>
   obtain rfl:=List.length_eq_zero_iff.1 aq;exact .eZ z a 0
  | fA _ _ _ _ _ _ cap' a aq ak az=>
   exfalso;rcases az with az | ⟨n,g0,az,aN⟩
   ·rw[oH] at az; cases az
   ·rw[oH] at az; cases az; omega
  | ao _ _ _ _ _ _ cap' g0 m e6 hm hK ay ak=>
   rw[oH] at e6; cases e6;have f8:=rel.blk b m hm;rw[oH] at f8;obtain⟨cL,d9,arr,t,fe,bt,aG,aJ,kP⟩:=f8;have cY:len<=cap':=by rcases ak with ⟨_,h⟩ | ⟨_,h,_⟩<;>omega
   have rg:B<=m.r:=rel.base b m (by rw[oH]; rfl) hm;subst aq;have oI:∀ i j,i<es.length->j<z->∃ c v,cs[off+(i*z+j)]? = some c/\arr[m.s+(off+(i*z+j))]? = some v/\v.oneCell'=true/\aP w R (bW l) μ c v:=by
    intro i j aA am;have aN:off+(i*z+j)<cs.length:=by
     have:i*z+z<=es.length*z:=by rw[<-Nat.succ_mul]; exact Nat.mul_le_mul_right _ aA
     omega
    obtain⟨v,h1,af,ap⟩:=kP _ _ (List.getElem?_eq_getElem aN);exact⟨_,v,List.getElem?_eq_getElem aN,h1,af,ap⟩
   refine .b6 z es m.r (m.s+off) cap' (fun i j=>(arr[m.s+(off+(i*z+j))]?).getD undef) cY aB (fun i j aA am=>?_) (fun i e aw j c' am=>?_)
   ·obtain⟨c,v,h1,af,ap,aH⟩:=oI i j aA am;refine⟨?_,?_,rg,fun ⟨b,m,h1,af,ap⟩=>by cases af⟩
    ·simp only[World.cell?,bt,af,Option.getD_some,Option.isSome_none];rw[show m.s+off+(i*z+j)=m.s+(off+(i*z+j)) by omega,af]; rfl
    ·rw[af]; exact ap
   ·have aA:i<es.length:=(List.getElem?_eq_some_iff.1 aw).1;have kR:j<z:=by rw[<-aB e (List.mem_of_getElem? aw)]; exact (List.getElem?_eq_some_iff.1 am).1
    obtain⟨c,v,h1,af,ap,aH⟩:=oI i j aA kR;simp only[af,Option.getD_some];exact aK i j e c c' aw am h1 aH
theorem zR {P:Program} {G:Nat->ae} (kp:P.follows .mixedOrders=true) (jn:∀ g,(G g).closed=true) {f:FuncId} {args:List ae} {r:ae} (h:dB P G f args [] (c:=⟨fun kz l=>iO l kz r⟩)) :lf P G f args r:=by
 obtain⟨kz,l',h1,af,ap⟩:=h;intro w A vs az aq ax;refine (Nj (A:=A) kp jn h1 az aq ax).mono ?_;rintro e w' ⟨v,μ',rfl,ai,rel,aC⟩;exact⟨v,rfl,ai,akT rel ap aC⟩
theorem akS {l:au} {z b n cap sz:Nat} {es:List (List ae)} {rest:List ae} (ai:l[b]? = some (.cells sz (es.flatten++rest))) (aI:es.length=n) (aB:∀ e∈es,e.length=z) (ak:∀ e∈es,kf e=true) :iO l (.ao z b 0 n cap sz) (.b6 z es) :=by
 have fE:=l3 (z:=z) (es:=es) (fun e aw=>aB e aw);refine .ao z b 0 n cap sz _ es ai aI aB (by rw[List.length_append,fE,aI]; omega) (fun i j e c c' aw am c4=>?_);have aA:i<es.length:=(List.getElem?_eq_some_iff.1 aw).1;have kR:j<z:=by rw[<-aB e (List.mem_of_getElem? aw)]; exact (List.getElem?_eq_some_iff.1 am).1
 have aN:i*z+j<es.flatten.length:=by
  rw[fE];have:i*z+z<=es.length*z:=by rw[<-Nat.succ_mul]; exact Nat.mul_le_mul_right _ aA
  omega
 have h1:es.flatten[i*z+j]? = some c':=wv es aB i j e c' aw am;rw[Nat.zero_add,List.getElem?_append_left aN,h1] at c4;cases c4;exact .flat _ (Bq (ak e (List.mem_of_getElem? aw)) j _ am)
theorem ZE {l:au} {c:ae} (h:c.closed=true) :fa (bW l) c c:=.same c h
@[simp] theorem aq6 (n z:Nat) (cs:List ae) (k:IntKind) (i:Int) :zw n z (.aS cs) (.int k i)=if 0<=i/\i<n then cs[i.toNat*z]? else none:=id rfl
@[simp] theorem aq7 (n z:Nat) (cs:List ae) (k:IntKind) (i:Int) :zx n z (.aS cs) (.int k i)=if 0<=i/\i<n then qq z cs (i.toNat*z) else none:=id rfl
@[simp] theorem xj (s:List UInt8) (k:IntKind) (i:Int) :vg (.str s) (.int k i)=if 0<=i then (s[i.toNat]?).map hZ else none:=id rfl
theorem alE {α:Type} {l:List α} {i:Nat} {x:α} (h:l[i]? = some x) :l.set i x=l:=by
 obtain⟨aA,rfl⟩:=List.getElem?_eq_some_iff.1 h;exact List.set_getElem_self aA
theorem kG {α:Type} (f:α->ae) (aJ:∀ x,(f x).closed=true) :∀ l:List α,bP (l.map f)=true
 | []=>rfl
 | x::l=>by simp only[List.map_cons,bP,aJ,kG f aJ l,Bool.and_self]
theorem Ra {α:Type} (f:α->ae) (aJ:∀ x,(f x).closed=true) (l:List α) :(ae.aS (l.map f)).closed=true:=by simp only[ae.closed]; exact kG f aJ l
theorem wu {α:Type} (f:α->ae) (aJ:∀ x,(f x).flat=true) :∀ l:List α,kf (l.map f)=true
 | []=>rfl
 | x::l=>by simp only[List.map_cons,kf,aJ,wu f aJ l,Bool.and_self]
theorem RX {α:Type} (f:α->ae) (aJ:∀ x,(f x).flat=true) (l:List α) :(ae.aS (l.map f)).flat=true:=by simp only[ae.flat]; exact wu f aJ l
@[simp] theorem aoL (z:Nat) :qX (.ao z) .a6=some (.int .i64 0) :=id rfl
@[simp] theorem aoK (n z:Nat) (x:ae) :qX (.arr n z) x=some (.int .i64 n) :=id rfl
theorem atU (z:Nat) (cI aA cF:Option ae) :fN (.ao z) .a6 cI aA cF=(f1 0 0 cI aA cF).map fun _=>.a6:=rfl
@[simp] theorem atV (z:Nat) (k:IntKind) :fN (.ao z) .a6 none (some (.int k 0)) none=some .a6:=id rfl
theorem Af (z b off len cap sz:Nat) (cI aA cF:Option ae) :fN (.ao z) (.ao z b off len cap sz) cI aA cF=(f1 len cap cI aA cF).map fun (l,aR,m)=>if m=l then .ao z b (off+l*z) 0 0 sz else .ao z b (off+l*z) (aR - l) (m - l) sz:=by
 simp[fN]
theorem zJ {α:Type} {l:List α} {a:α} (h:l[0]? = some a) :∃ r,l=a::r:=by
 cases l with
 | nil=>simp at h
 | cons x l=>simp at h; subst h; exact⟨l,rfl⟩
theorem amF {α:Type} {l:List α} {b:α} (h:l[1]? = some b) :∃ a r,l=a::b::r:=by
 cases l with
 | nil=>simp at h
 | cons x l=>obtain⟨r,rfl⟩:=zJ (l:=l) (by simpa using h); exact⟨x,r,rfl⟩
theorem z2 (zero:List ae) (n:Nat) :(dp zero n).length=n*zero.length:=by
 induction n with
 | zero=>simp[dp]
 | succ n aK=>simp[dp,aK,Nat.succ_mul,Nat.add_comm]
theorem Dv (zero:List ae) (n:Nat) :dp zero n=(List.replicate n zero).flatten:=by
 induction n with
 | zero=>rfl
 | succ n aK=>rw[dp,aK,List.replicate_succ,List.flatten_cons]
inductive bX (z:Nat) (l:au) :ae->Nat->List (List ae)->Prop
 | nil (j:Nat) :bX z l .a6 j []
 | ao (j n cap sz:Nat) (cs:List ae) (es:List (List ae)) (ai:l[j]? = some (.cells sz cs)) (aq:cs.length=sz) (aI:es.length=n) (aB:∀ e∈es,e.length=z) (ak:n<=cap) (cY:cap*z<=sz)
   (cL:cs.take (n*z)=es.flatten) :bX z l (.ao z j 0 n cap sz) j es
def cT:ae->Bool | .a6=>true | _=>false
theorem i4 {v:ae}:cT v=true<->v=.a6:=by cases v<;>simp[cT]
theorem rJ {α:Type} {v bf:ae} {xs:List α} (h:bf=.a6<->v=.a6/\xs=[]) :cT bf=(cT v&&xs.isEmpty) :=by
 rw[Bool.eq_iff_iff,i4,h,Bool.and_eq_true,i4,List.isEmpty_iff]
def qA (z:Nat) (v:ae) (es:List (List ae)) :ae:=match cT v with | true=>.a6 | false=>.b6 z es
section
variable {z:Nat} {l l' : au} {v:ae} {j:Nat} {es:List (List ae)}
theorem bX.lt (h:bX z l v j es) :v=.a6\/j<l.length:=by
 cases h with
 | nil j=>exact .inl rfl
 | ao j n cap sz cs es ai=>exact .inr (fg ai)
theorem bX.row (h:bX z l v j es) :∀ e∈es,e.length=z:=by
 cases h with
 | nil j=>intro e aw; cases aw
 | ao j n cap sz cs es ai aq aI aB=>exact aB
theorem bX.cells (h:bX z l v j es) :v.cells=some [v] :=by cases h<;>rfl
theorem bX.len (h:bX z l v j es) :c9 (.ao z) v=some (.int .i64 es.length) :=by
 cases h with
 | nil j=>rfl
 | ao j n cap sz cs es ai aq aI=>subst aI; rfl
theorem bX.frame (h:bX z l v j es) (am:j<l.length->l'[j]? = l[j]?) :bX z l' v j es:=by
 cases h with
 | nil j=>exact .nil j
 | ao j n cap sz cs es ai aq aI aB ak cY cL=>exact .ao j n cap sz cs es (by rw[am (fg ai)]; exact ai) aq aI aB ak cY cL
theorem bX.uw (h:bX z l v j es) (am:v=.a6\/l'[j]? = l[j]?) :bX z l' v j es:=by
 cases h with
 | nil j=>exact .nil j
 | ao j n cap sz cs es ai aq aI aB ak cY cL=>
  rcases am with am | am
  ·cases am
  ·exact .ao j n cap sz cs es (by rw[am]; exact ai) aq aI aB ak cY cL
theorem bX.more (h:bX z l v j es) (x:au) :bX z (l++x) v j es:=h.frame fun am=>List.getElem?_append_left am
theorem bX.contents (h:bX z l v j es) :df l z v=some (es.flatten,es.length) :=by
 cases h with
 | nil j=>rfl
 | ao j n cap sz cs es ai aq aI aB ak cY cL=>subst aI; simp only[df,ai,and_self,if_true,List.drop_zero,cL]
theorem bX.Ds (h:bX z l v j es) (aJ:∀ e∈es,kf e=true) :iO l v (qA z v es) :=by
 cases h with
 | nil j=>exact .flat _ rfl
 | ao j n cap sz cs es ai aq aI aB ak cY cL=>
  show iO l _ (.b6 z es);refine akS (rest:=cs.drop (n*z)) ?_ aI aB aJ;rw[ai,<-cL,List.take_append_drop]
theorem bX.qw (h:bX z l v j es) (aJ:∀ e∈es,bP e=true) :fa (bW l) v (qA z v es) :=by
 cases h with
 | nil j=>exact .same _ rfl
 | ao j n cap sz cs es ai aq aI aB ak cY cL=>
  show fa (bW l) _ (.b6 z es);have nU:n*z<=cs.length:=by rw[aq]; exact Nat.le_trans (Nat.mul_le_mul_right _ ak) cY
  refine .ao z j 0 n cap sz cs es (mC.2 ai) aI aB (by omega) (fun i k e c c' aw aE c4=>?_);have aA:i<es.length:=(List.getElem?_eq_some_iff.1 aw).1;have yY:k<z:=by rw[<-aB e (List.mem_of_getElem? aw)]; exact (List.getElem?_eq_some_iff.1 aE).1
  have aN:i*z+k<n*z:=by
   have:i*z+z<=es.length*z:=by rw[<-Nat.succ_mul]; exact Nat.mul_le_mul_right _ aA
   rw[aI] at this; omega
  have h1:es.flatten[i*z+k]? = some c':=wv es aB i k e c' aw aE;rw[<-cL,List.getElem?_take_of_lt aN] at h1;rw[Nat.zero_add,h1] at c4;cases c4;exact .same _ (yf (aJ e (List.mem_of_getElem? aw)) k _ aE)
theorem zX {l:au} {z b n cap sz:Nat} {es:List (List ae)} {rest:List ae} (ai:l[b]? = some (.cells sz (es.flatten++rest))) (aI:es.length=n) (aB:∀ e∈es,e.length=z) (ak:∀ e∈es,bP e=true) :fa (bW l) (.ao z b 0 n cap sz) (.b6 z es) :=by
 have fE:=l3 (z:=z) (es:=es) (fun e aw=>aB e aw);refine .ao z b 0 n cap sz _ es (mC.2 ai) aI aB (by rw[List.length_append,fE,aI]; omega) (fun i j e c c' aw am c4=>?_);have aA:i<es.length:=(List.getElem?_eq_some_iff.1 aw).1;have kR:j<z:=by rw[<-aB e (List.mem_of_getElem? aw)]; exact (List.getElem?_eq_some_iff.1 am).1
 have aN:i*z+j<es.flatten.length:=by
  rw[fE];have:i*z+z<=es.length*z:=by rw[<-Nat.succ_mul]; exact Nat.mul_le_mul_right _ aA
  omega
 have h1:es.flatten[i*z+j]? = some c':=wv es aB i j e c' aw am;rw[Nat.zero_add,List.getElem?_append_left aN,h1] at c4;cases c4;exact .same _ (yf (ak e (List.mem_of_getElem? aw)) j _ am)
theorem N0 (h:bX z l v j es) {by_ m:Nat} {xs:List (List ae)} (hm:xs.length=m) (k0:∀ e∈xs,e.length=z) (aQ:z≠0) (dE:by_≠0) (ds:(es.length+m)*by_<=cJ) :
  ∃ bf cD l',hE l z by_ v xs.flatten m=some (bf,l')/\bX z l' bf cD (es++xs)/\l.length<=l'.length/\(∀ b,b<l.length->b≠j->l'[b]? = l[b]?)/\(cD=j\/l.length<=cD)/\(bf=.a6<->v=.a6/\xs=[]) :=by
 by_cases ik:m=0
 ·have aj:xs=[] :=List.length_eq_zero_iff.1 (by omega);subst aj;refine⟨v,j,l,?_,by simpa using h,Nat.le_refl _,fun _ _ _=>rfl,.inl rfl,by simp⟩;unfold hE;rw[if_pos ik];cases h<;>rfl
 have bE:xs.flatten.length=m*z:=by rw[l3 k0,hm]
 have kr:∀ e∈es++xs,e.length=z:=fun e aw=>by
  rcases List.mem_append.1 aw with h1 | h1
  ·exact h.row e h1
  ·exact k0 e h1
 have b0:xs≠[] :=fun aj=>ik (by rw[<-hm,aj]; rfl)
 cases h with
 | nil j=>
  refine⟨.ao z l.length 0 m m (m*z),l.length,l++[.cells (m*z) xs.flatten],?_,?_,by simp,fun b ai _=>List.getElem?_append_left ai,.inr (Nat.le_refl _),by simp[b0]⟩
  ·unfold hE;rw[if_neg ik,if_neg (by omega)];simp only;rw[if_pos (by simpa using ds)]
  ·refine .ao _ _ _ _ xs.flatten _ (by simp) bE (by simpa using hm) kr (Nat.le_refl _) (Nat.le_refl _) ?_;rw[List.take_of_length_le (by omega)]; rfl
 | ao j n cap sz cs es ai aq aI aB ak cY cL=>
  subst aI;have nU:es.length*z<=cap*z:=Nat.mul_le_mul_right _ ak;have pZ:(es++xs).length=es.length+m:=by simp[hm]
  have fE:(es++xs).flatten=es.flatten++xs.flatten:=by simp
  have mQ:es.flatten.length=es.length*z:=l3 aB;have kN:hE l z by_ (.ao z j 0 es.length cap sz) xs.flatten m =
    if es.length+m<=cap then some (.ao z j 0 (es.length+m) cap sz,l.set j (.cells sz (bS cs (es.length*z) xs.flatten)))
    else if cap*z<sz then some (.ao z l.length 0 (es.length+m) (es.length+m) ((es.length+m)*z),l++[.cells ((es.length+m)*z) (es.flatten++xs.flatten)])
    else some (.ao z j 0 (es.length+m) (es.length+m) ((es.length+m)*z),l.set j (.cells ((es.length+m)*z) (es.flatten++xs.flatten))) :=by
   unfold hE;rw[if_neg ik,if_neg (by omega)];simp only[ai];rw[if_pos ⟨trivial,trivial,ds⟩];simp only[Nat.zero_add,List.drop_zero,cL,if_true]
  rw[kN];have eQ:=fg ai;split
  ·rename_i h1;have Ir:(es.length+m)*z<=cap*z:=Nat.mul_le_mul_right _ h1;rw[Nat.add_mul] at Ir;refine⟨_,j,_,rfl,?_,by simp,fun b bL kk=>by rw[List.getElem?_set_ne (fun e=>kk e.symm)],.inl rfl,by simp⟩;refine .ao j _ cap sz (bS cs (es.length*z) xs.flatten) _ (by rw[List.getElem?_set_self eQ]) ?_ pZ kr h1 cY ?_
   ·rw[qC (by omega)]; omega
   ·rw[fE];unfold bS;rw[cL,List.take_append_of_le_length (by simp[mQ,bE,Nat.add_mul]),List.take_of_length_le (by simp[mQ,bE,Nat.add_mul])]
  ·split
   ·refine⟨_,l.length,_,rfl,?_,by simp,fun b bL _=>List.getElem?_append_left bL,.inr (Nat.le_refl _),by simp⟩;refine .ao _ _ _ _ (es.flatten++xs.flatten) _ (by simp) (by simp[mQ,bE,Nat.add_mul]) pZ kr (Nat.le_refl _) (Nat.le_refl _) ?_;rw[fE,List.take_of_length_le (by simp[mQ,bE,Nat.add_mul])]
   ·refine⟨_,j,_,rfl,?_,by simp,fun b bL kk=>by rw[List.getElem?_set_ne (fun e=>kk e.symm)],.inl rfl,by simp⟩;refine .ao j _ _ _ (es.flatten++xs.flatten) _ (by rw[List.getElem?_set_self eQ]) (by simp[mQ,bE,Nat.add_mul]) pZ kr (Nat.le_refl _) (Nat.le_refl _) ?_;rw[fE,List.take_of_length_le (by simp[mQ,bE,Nat.add_mul])]
theorem mF (h:bX z l v j es) {by_:Nat} {x:ae} {xs:List (List ae)} (aj:df l z x=some (xs.flatten,xs.length)) (k0:∀ e∈xs,e.length=z) (aQ:z≠0) (dE:by_≠0) (ds:(es.length+xs.length)*by_<=cJ) :
  ∃ bf cD l',ie l z by_ v x=some (bf,l')/\bX z l' bf cD (es++xs)/\l.length<=l'.length/\(∀ b,b<l.length->b≠j->l'[b]? = l[b]?)/\(cD=j\/l.length<=cD)/\(bf=.a6<->v=.a6/\xs=[]) :=by
 unfold ie;rw[aj];exact N0 h rfl k0 aQ dE ds
theorem ab9 (h:bX z l v j es) {by_ n:Nat} {k:IntKind} {zero:List ae} (hO:zero.length=z) (aQ:z≠0) (dE:by_≠0) (aI:n<9223372036854775808) (ds:(es.length+n)*by_<=cJ) :
  ∃ bf cD l',ow l z by_ zero v (.int k (n:Int))=some (bf,l')/\bX z l' bf cD (es++List.replicate n zero)/\l.length<=l'.length/\(∀ b,b<l.length->b≠j->l'[b]? = l[b]?)/\(cD=j\/l.length<=cD)/\(bf=.a6<->v=.a6/\n=0) :=by
 have:=N0 h (xs:=List.replicate n zero) (m:=n) (by simp) (fun e aw=>by rw[(List.mem_replicate.1 aw).2,hO]) aQ dE ds;obtain⟨bf,cD,l',h1,af⟩:=this;refine⟨bf,cD,l',?_,by simpa [List.replicate_eq_nil_iff] using af⟩;unfold ow;simp only[Int.toNat_natCast];rw[if_pos ⟨by omega,by omega,by have:=Nat.le_trans (Nat.mul_le_mul_right by_ (Nat.le_add_left n es.length)) ds; exact this⟩,Dv];exact h1
theorem acb {l:au} {z by_ n:Nat} {v bf:ae} {xs:List ae} {pre rest:au} {l' : au} (ax:v=.a6\/∃ j n cap sz,v=.ao z j 0 n cap sz/\pre.length<=j) (h:hE (pre++rest) z by_ v xs n=some (bf,l')) :
  ∃ jY,l'=pre++jY:=by
 unfold hE at h;by_cases aI:n=0
 ·rw[if_pos aI] at h;rcases ax with rfl | ⟨j,m,cap,sz,rfl,am⟩<;>(cases h; exact⟨_,rfl⟩)
 rw[if_neg aI] at h;by_cases aQ:z=0\/by_=0
 ·rw[if_pos aQ] at h; cases h
 rw[if_neg aQ] at h;rcases ax with rfl | ⟨j,m,cap,sz,rfl,am⟩
 ·simp only at h;split at h
  ·cases h; exact⟨_,by rw[List.append_assoc]⟩
  ·cases h
 ·simp only at h;split at h
  ·split at h
   ·split at h
    ·cases h; exact⟨_,by rw[List.set_append_right _ _ am]⟩
    ·split at h
     ·cases h; exact⟨_,by rw[List.append_assoc]⟩
     ·split at h
      ·cases h; exact⟨_,by rw[List.set_append_right _ _ am]⟩
      ·rename_i aR; exact absurd trivial aR
   ·cases h
  ·cases h
theorem vY {z by_:Nat} {v:ae} {j:Nat} {es:List (List ae)} {pre rest:au} (h:bX z (pre++rest) v j es) (am:v=.a6\/pre.length<=j) {x:ae} {xs:List (List ae)} (aj:df (pre++rest) z x=some (xs.flatten,xs.length)) (k0:∀ e∈xs,e.length=z) (aQ:z≠0) (dE:by_≠0)
  (ds:(es.length+xs.length)*by_<=cJ) :
  ∃ bf cD jY,ie (pre++rest) z by_ v x=some (bf,pre++jY)/\bX z (pre++jY) bf cD (es++xs)/\(bf=.a6\/pre.length<=cD)/\cT bf=(cT v&&xs.isEmpty) :=by
 have aJ:v=.a6\/∃ j n cap sz,v=.ao z j 0 n cap sz/\pre.length<=j:=by
  cases h with
  | nil j=>exact .inl rfl
  | ao j n cap sz cs es=>exact .inr ⟨j,n,cap,sz,rfl,am.resolve_left (by simp)⟩
 obtain⟨bf,cD,l',h1,af,ap,aH,bc,bM⟩:=mF h aj k0 aQ dE ds;have d8:=h1;unfold ie at d8;rw[aj] at d8;obtain⟨jY,rfl⟩:=acb (l:=[]) aJ d8;refine⟨bf,cD,jY,h1,af,?_,rJ bM⟩;rcases bc with h | h
 ·rcases am with ax | am
  ·by_cases xg:xs=[]
   ·exact .inl (bM.2 ⟨ax,xg⟩)
   ·right;subst ax;have xf:xs.length≠0:=fun e=>xg (List.length_eq_zero_iff.1 e)
    simp only at d8;unfold hE at d8;rw[if_neg xf] at d8;split at d8
    ·cases d8
    ·simp only at d8;split at d8
     ·obtain⟨rfl,_⟩:=Prod.mk.inj (Option.some.inj d8);generalize es++xs=E at af;cases af;simp
     ·cases d8
  ·right; omega
 ·right;rw[List.length_append] at h; omega
theorem bX.view (h:bX z l v j es) (ax:cT v=false) :∃ n cap sz cs,v=.ao z j 0 n cap sz/\l[j]? = some (.cells sz cs)/\cs.length=sz/\es.length=n/\n*z<=sz/\(∀ i e,es[i]? = some e->∀ m,m<z->cs[i*z+m]? = e[m]?)/\cs.take (n*z)=es.flatten:=by
 cases h with
 | nil j=>simp[cT] at ax
 | ao j n cap sz cs es ai aq aI aB ak cY cL=>
  refine⟨n,cap,sz,cs,rfl,ai,aq,aI,Nat.le_trans (Nat.mul_le_mul_right _ ak) cY,fun i e aw m hm=>?_,cL⟩;have aA:i<es.length:=(List.getElem?_eq_some_iff.1 aw).1;have aN:i*z+m<n*z:=by
   have:i*z+z<=es.length*z:=by rw[<-Nat.succ_mul]; exact Nat.mul_le_mul_right _ aA
   rw[aI] at this; omega
  have h1:=Br aB aw hm;rw[<-h1,<-cL,List.getElem?_take_of_lt aN]
theorem bX.zZ {α:Type} {enc:α->List ae} {xs:List α} (h:bX z l v j (xs.map enc)) (aJ:∀ x,kf (enc x)=true) (s:eh α) (ar:cT v=s.isNone) (aj:s.l=xs) :iO l v (cS z enc s) :=by
 have h1:=h.Ds (fun e aw=>by obtain⟨x,_,rfl⟩:=List.mem_map.1 aw; exact aJ x);subst aj;unfold qA at h1;rw[ar] at h1;cases s with
 | none=>exact h1
 | some s=>exact h1
theorem bX.qx {α:Type} {enc:α->List ae} {xs:List α} (h:bX z l v j (xs.map enc)) (aJ:∀ x,bP (enc x)=true) (s:eh α) (ar:cT v=s.isNone) (aj:s.l=xs) :fa (bW l) v (cS z enc s) :=by
 have h1:=h.qw (fun e aw=>by obtain⟨x,_,rfl⟩:=List.mem_map.1 aw; exact aJ x);subst aj;unfold qA at h1;rw[ar] at h1;cases s with
 | none=>exact h1
 | some s=>exact h1
end
def xE (h:aM) :Nat->ae->Option ae
 | 0,_=>none
 | d+1,c=>match c with
  | .aS cs=>match nf (xE h d) cs with | some cs'=>some (.aS cs') | none=>none
  | .bU cs=>match nf (xE h d) cs with | some cs'=>some (.bU cs') | none=>none
  | .ao z b off len cap sz=>match Nat.beq len 0 with
   | true=>some (.b6 z [])
   | false=>match h.f b with
    | .cells n cs=>match Nat.beq n sz&&Nat.ble (off+len*z) cs.length with
     | true=>match nf (xE h d) ((cs.drop off).take (len*z)) with
      | some xs=>some (.b6 z (ka z len xs))
      | none=>none
     | false=>none
    | _=>none
  | c=>match c.flat with | true=>some c | false=>none
theorem Dt {h:aM} {l:au} (r:d5 h l) :∀ (d:Nat) (c c' : ae),xE h d c=some c'->iO l c c'
 | 0,c,c',aj=>by cases aj
 | d+1,c,c',aj=>by
  unfold xE at aj;split at aj
  ·split at aj
   ·rename_i h1; cases aj;exact .aS _ _ (qv h1) (fun j c c' ak ez=>Dt r d c c' (qu h1 j c c' ak ez))
   ·cases aj
  ·split at aj
   ·rename_i h1; cases aj;exact .bU _ _ (qv h1) (fun j c c' ak ez=>Dt r d c c' (qu h1 j c c' ak ez))
   ·cases aj
  ·rename_i z b off len cap sz;split at aj
   ·rename_i aQ;cases aj;rw[Nat.eq_of_beq_eq_true aQ];exact .pl z b off cap sz
   ·split at aj
    ·rename_i n cs ai;split at aj
     ·rename_i dG;simp only[Bool.and_eq_true] at dG;have aI:=Nat.eq_of_beq_eq_true dG.1;have dv:=Nat.le_of_ble_eq_true dG.2;subst aI;split at aj
      ·rename_i xs h1;cases aj;have bE:=qv h1;simp only[List.length_take,List.length_drop] at bE;have rF:xs.length=len*z:=by omega
       have ea:∀ (i:Nat),i<len->(ka z len xs)[i]? = some ((xs.drop (i*z)).take z) :=fun i aA=>A8 len xs i aA
       have dF:∀ i,i<len->i*z+z<=len*z:=fun i aA=>by rw[<-Nat.succ_mul]; exact Nat.mul_le_mul_right _ aA
       refine .ao z b off len cap n cs _ (r.some ai (by simp)) (sB _ _) (fun e aw=>?_) dv (fun i j e c c' aw am ak=>?_)
       ·obtain⟨i,aA⟩:=List.mem_iff_getElem?.1 aw;have d1:i<len:=by
         have:=(List.getElem?_eq_some_iff.1 aA).1;rw[sB] at this; exact this
        rw[ea i d1] at aA;cases aA;have:=dF i d1;simp; omega
       ·have d1:i<len:=by
         have:=(List.getElem?_eq_some_iff.1 aw).1;rw[sB] at this; exact this
        rw[ea i d1] at aw;cases aw;have wO:=dF i d1;have kR:j<z:=by have:=(List.getElem?_eq_some_iff.1 am).1; simp at this; omega
        rw[List.getElem?_take_of_lt kR,List.getElem?_drop] at am;refine Dt r d c c' (qu h1 (i*z+j) c c' ?_ am);rw[List.getElem?_take_of_lt (by omega),List.getElem?_drop];exact ak
      ·cases aj
     ·cases aj
    ·cases aj
  ·split at aj
   ·rename_i ak; cases aj; exact .flat _ ak
   ·cases aj
def Z4 (P:Program) (G:Nat->ae) [qN P G] (jE:qP) (mu:vW) (fuel k:Nat) (f:FuncId) (args:List ae) (r:ae) :Bool:=
 match A2 P G jE mu fuel k f args aM.empty with
 | some (v,h)=>match xE h 20 v with
  | some bf=>ae.beq bf r
  | none=>false
 | none=>false
theorem W4 {P:Program} {G:Nat->ae} [qN P G] (kp:P.follows .mixedOrders=true) (jn:∀ g,(G g).closed=true) {jE:qP} {mu:vW} (ay:AC P G jE) (aU:AD P mu) {fuel k:Nat} {f:FuncId} {args:List ae} {r:ae}
  (aj:Z4 P G jE mu fuel k f args r=true) :lf P G f args r:=by
 unfold Z4 at aj;split at aj
 ·rename_i v h ak;split at aj
  ·rename_i bf ax;obtain⟨l',aC,af⟩:=QZ ay aU fuel k f args aM.empty v h [] d5.nil ak;have:=ae.beq_eq aj;subst this;exact zR kp jn (af _ (Dt aC 20 v bf ax))
  ·cases aj
 ·cases aj
inductive dR (z:Nat) (l:au) :ae->Nat->List (List ae)->Prop
 | nil (j:Nat) :dR z l .a6 j []
 | ao (j off n cap sz:Nat) (cs:List ae) (es:List (List ae)) (ai:l[j]? = some (.cells sz cs)) (aq:cs.length=sz) (aI:es.length=n) (aB:∀ e∈es,e.length=z) (ak:n<=cap) (cY:off+cap*z<=sz)
   (cL:(cs.drop off).take (n*z)=es.flatten) :dR z l (.ao z j off n cap sz) j es
section
variable {z:Nat} {l l' : au} {v:ae} {j:Nat} {es:List (List ae)}
theorem bX.q (h:bX z l v j es) :dR z l v j es:=by
 cases h with
 | nil j=>exact .nil j
 | ao j n cap sz cs es ai aq aI aB ak cY cL=>exact .ao j 0 n cap sz cs es ai aq aI aB ak (by omega) (by simpa using cL)
theorem dR.row (h:dR z l v j es) :∀ e∈es,e.length=z:=by
 cases h with
 | nil j=>intro e aw; cases aw
 | ao j off n cap sz cs es ai aq aI aB=>exact aB
theorem dR.lt (h:dR z l v j es) :v=.a6\/j<l.length:=by
 cases h with
 | nil j=>exact .inl rfl
 | ao j off n cap sz cs es ai=>exact .inr (fg ai)
theorem dR.cells (h:dR z l v j es) :v.cells=some [v] :=by cases h<;>rfl
theorem dR.len (h:dR z l v j es) :c9 (.ao z) v=some (.int .i64 es.length) :=by
 cases h with
 | nil j=>rfl
 | ao j off n cap sz cs es ai aq aI=>subst aI; rfl
theorem dR.uw (h:dR z l v j es) (am:v=.a6\/l'[j]? = l[j]?) :dR z l' v j es:=by
 cases h with
 | nil j=>exact .nil j
 | ao j off n cap sz cs es ai aq aI aB ak cY cL=>
  rcases am with am | am
  ·cases am
  ·exact .ao j off n cap sz cs es (by rw[am]; exact ai) aq aI aB ak cY cL
theorem dR.more (h:dR z l v j es) (x:au) :dR z (l++x) v j es:=h.uw (by
 rcases h.lt with h | h
 ·exact .inl h
 ·exact .inr (List.getElem?_append_left h))
theorem dR.xp (h:dR z l .a6 j es) :es=[] :=by
 generalize ax:ae.a6=w at h;cases h with
 | nil j=>rfl
 | ao=>cases ax
theorem ab8 (h:dR z l v j es) {by_ m:Nat} {xs:List (List ae)} (hm:xs.length=m) (k0:∀ e∈xs,e.length=z) (aQ:z≠0) (dE:by_≠0) (ds:(es.length+m)*by_<=cJ) :
  ∃ bf cD l',hE l z by_ v xs.flatten m=some (bf,l')/\dR z l' bf cD (es++xs)/\l.length<=l'.length/\(∀ b,b<l.length->(v=.a6\/b≠j)->l'[b]? = l[b]?)/\(bf=.a6\/(v≠.a6/\cD=j)\/l.length<=cD)/\(bf=.a6<->v=.a6/\xs=[]) :=by
 by_cases ik:m=0
 ·have aj:xs=[] :=List.length_eq_zero_iff.1 (by omega);subst aj;refine⟨v,j,l,?_,by simpa using h,Nat.le_refl _,fun _ _ _=>rfl,?_,by simp⟩
  ·unfold hE;rw[if_pos ik];cases h<;>rfl
  ·by_cases ax:v=.a6
   ·exact .inl ax
   ·exact .inr (.inl ⟨ax,rfl⟩)
 have bE:xs.flatten.length=m*z:=by rw[l3 k0,hm]
 have kr:∀ e∈es++xs,e.length=z:=fun e aw=>by
  rcases List.mem_append.1 aw with h1 | h1
  ·exact h.row e h1
  ·exact k0 e h1
 have b0:xs≠[] :=fun aj=>ik (by rw[<-hm,aj]; rfl)
 cases h with
 | nil j=>
  refine⟨.ao z l.length 0 m m (m*z),l.length,l++[.cells (m*z) xs.flatten],?_,?_,by simp,fun b ai _=>List.getElem?_append_left ai,.inr (.inr (Nat.le_refl _)),by simp[b0]⟩
  ·unfold hE;rw[if_neg ik,if_neg (by omega)];simp only;rw[if_pos (by simpa using ds)]
  ·refine .ao _ _ _ _ _ xs.flatten _ (by simp) bE (by simpa using hm) kr (Nat.le_refl _) (by omega) ?_;rw[List.drop_zero,List.take_of_length_le (by omega)]; rfl
 | ao j off n cap sz cs es ai aq aI aB ak cY cL=>
  subst aI;have nU:es.length*z<=cap*z:=Nat.mul_le_mul_right _ ak;have pZ:(es++xs).length=es.length+m:=by simp[hm]
  have fE:(es++xs).flatten=es.flatten++xs.flatten:=by simp
  have mQ:es.flatten.length=es.length*z:=l3 aB;have kN:hE l z by_ (.ao z j off es.length cap sz) xs.flatten m =
    if es.length+m<=cap then some (.ao z j off (es.length+m) cap sz,l.set j (.cells sz (bS cs (off+es.length*z) xs.flatten)))
    else if off+cap*z<sz then some (.ao z l.length 0 (es.length+m) (es.length+m) ((es.length+m)*z),l++[.cells ((es.length+m)*z) (es.flatten++xs.flatten)])
    else if off=0 then some (.ao z j 0 (es.length+m) (es.length+m) ((es.length+m)*z),l.set j (.cells ((es.length+m)*z) (cs.take (es.length*z)++xs.flatten)))
    else some (.ao z l.length 0 (es.length+m) (es.length+m) ((es.length+m)*z),l.set j .dead++[.cells ((es.length+m)*z) (es.flatten++xs.flatten)]) :=by
   unfold hE;rw[if_neg ik,if_neg (by omega)];simp only[ai];rw[if_pos ⟨trivial,trivial,ds⟩];simp only[cL]
  rw[kN];have eQ:=fg ai;have nT:∀ eR:au,eR.length=l.length->dR z (eR++[.cells ((es.length+m)*z) (es.flatten++xs.flatten)]) (.ao z l.length 0 (es.length+m) (es.length+m) ((es.length+m)*z)) l.length (es++xs) :=fun eR s5=>by
   refine .ao _ _ _ _ _ (es.flatten++xs.flatten) _ (by rw[<-s5]; simp) (by simp[mQ,bE,Nat.add_mul]) pZ kr (Nat.le_refl _) (by omega) ?_;rw[fE,List.drop_zero,List.take_of_length_le (by simp[mQ,bE,Nat.add_mul])]
  split
  ·rename_i h1;have Ir:(es.length+m)*z<=cap*z:=Nat.mul_le_mul_right _ h1;rw[Nat.add_mul] at Ir;refine⟨_,j,_,rfl,?_,by simp,fun b bL kk=>by rw[List.getElem?_set_ne (fun e=>(kk.resolve_left (by simp)) e.symm)],.inr (.inl ⟨by simp,rfl⟩),by simp⟩;refine .ao j off _ cap sz (bS cs (off+es.length*z) xs.flatten) _ (by rw[List.getElem?_set_self eQ]) ?_ pZ kr h1 cY ?_
   ·rw[qC (by omega)]; omega
   ·rw[fE];unfold bS;have aU:cs.take (off+es.length*z)=cs.take off++es.flatten:=by rw[List.take_add,cL]
    have aqL:(cs.take off).length=off:=by rw[List.length_take]; omega
    rw[aU,List.append_assoc,List.append_assoc,List.drop_append_of_le_length (by omega),List.drop_of_length_le (by omega),List.nil_append,<-List.append_assoc,List.take_append_of_le_length (by simp[mQ,bE,Nat.add_mul]),List.take_of_length_le (by simp[mQ,bE,Nat.add_mul])]
  ·split
   ·exact⟨_,l.length,_,rfl,nT l rfl,by simp,fun b bL _=>List.getElem?_append_left bL,.inr (.inr (Nat.le_refl _)),by simp⟩
   ·split
    ·rename_i wW;subst wW;rw[List.drop_zero] at cL;refine⟨_,j,_,rfl,?_,by simp,fun b bL kk=>by rw[List.getElem?_set_ne (fun e=>(kk.resolve_left (by simp)) e.symm)],.inr (.inl ⟨by simp,rfl⟩),by simp⟩;refine .ao j 0 _ _ _ (cs.take (es.length*z)++xs.flatten) _ (by rw[List.getElem?_set_self eQ]) (by rw[cL]; simp[mQ,bE,Nat.add_mul]) pZ kr (Nat.le_refl _) (by omega) ?_;rw[cL,fE,List.drop_zero,List.take_of_length_le (by simp[mQ,bE,Nat.add_mul])]
    ·refine⟨_,l.length,_,rfl,nT _ (by simp),by simp,fun b bL kk=>?_,.inr (.inr (Nat.le_refl _)),by simp⟩;rw[List.getElem?_append_left (by simpa using bL),List.getElem?_set_ne (fun e=>(kk.resolve_left (by simp)) e.symm)]
theorem ajZ {pre rest l' : au} (h:∀ b,b<pre.length->l'[b]? = (pre++rest)[b]?) (aq:pre.length<=l'.length) :∃ jY,l'=pre++jY:=by
 refine⟨l'.drop pre.length,?_⟩;apply List.ext_getElem?;intro i;by_cases aA:i<pre.length
 ·rw[h i aA,List.getElem?_append_left aA,List.getElem?_append_left aA]
 ·rw[List.getElem?_append_right (by omega),List.getElem?_drop]; congr 1; omega
theorem N1 {by_:Nat} {pre rest:au} (h:dR z (pre++rest) v j es) (am:v=.a6\/pre.length<=j) {x:ae} {xs:List (List ae)} (aj:df (pre++rest) z x=some (xs.flatten,xs.length)) (k0:∀ e∈xs,e.length=z) (aQ:z≠0) (dE:by_≠0)
  (ds:(es.length+xs.length)*by_<=cJ) :
  ∃ bf cD jY,ie (pre++rest) z by_ v x=some (bf,pre++jY)/\dR z (pre++jY) bf cD (es++xs)/\(bf=.a6\/pre.length<=cD)/\cT bf=(cT v&&xs.isEmpty) ∧
   (∀ b,b<(pre++rest).length->(v=.a6\/b≠j)->(pre++jY)[b]? = (pre++rest)[b]?)/\(bf=.a6\/(v≠.a6/\cD=j)\/(pre++rest).length<=cD) :=by
 obtain⟨bf,cD,l',h1,af,ap,aH,bc,bM⟩:=ab8 h (by_:=by_) rfl k0 aQ dE ds;have mW:pre.length<=(pre++rest).length:=by simp
 obtain⟨jY,rfl⟩:=ajZ (pre:=pre) (rest:=rest) (l':=l') (fun b ai=>aH b (by omega) (by
  rcases am with h | h
  ·exact .inl h
  ·exact .inr (by omega))) (by omega)
 refine⟨bf,cD,jY,?_,af,?_,rJ bM,aH,bc⟩
 ·unfold ie; rw[aj]; exact h1
 ·rcases bc with h | ⟨h,h'⟩ | h
  ·exact .inl h
  ·rcases am with am | am
   ·exact absurd am h
   ·exact .inr (by omega)
  ·exact .inr (by omega)
theorem dR.from (h:dR z l v j es) (ax:cT v=false) {k:IntKind} {i:Nat} (aA:i<=es.length) :∃ bf,fN (.ao z) v (some (.int k (i:Int))) none none=some bf/\dR z l bf j (es.drop i)/\cT bf=false:=by
 cases h with
 | nil j=>simp[cT] at ax
 | ao j off n cap sz cs es ai aq aI aB ak cY cL=>
  subst aI;have ru:i*z+(cap - i)*z=cap*z:=by rw[<-Nat.add_mul]; congr 1; omega
  have TQ:i*z+(es.length - i)*z=es.length*z:=by rw[<-Nat.add_mul]; congr 1; omega
  have dv:es.length*z<=cap*z:=Nat.mul_le_mul_right _ ak;have Uz:∀ e∈es.drop i,e.length=z:=fun e aw=>aB e (List.mem_of_mem_drop aw)
  have fE:(es.drop i).flatten=(es.flatten).drop (i*z) :=by
   have h1:es.flatten=(es.take i).flatten++(es.drop i).flatten:=by rw[<-List.flatten_append,List.take_append_drop]
   have af:(es.take i).flatten.length=i*z:=by
    rw[l3 (z:=z) (fun e aw=>aB e (List.mem_of_mem_take aw)),List.length_take];congr 1; omega
   rw[h1,<-af,List.drop_left]
  rw[Af,Ow,if_pos ⟨by omega,by omega⟩];simp only[Int.toNat_natCast,Option.map_some,Option.some.injEq,exists_eq_left'];by_cases eA:cap=i
  ·rw[if_pos eA];have afN:es.drop i=[] :=List.drop_of_length_le (by omega);refine⟨?_,rfl⟩;rw[afN];exact .ao j _ 0 0 sz cs [] ai aq rfl (by simp) (Nat.le_refl _) (by omega) (by simp)
  ·rw[if_neg eA];refine⟨.ao j _ _ _ sz cs _ ai aq (by simp) Uz (by omega) (by omega) ?_,rfl⟩;rw[fE,<-cL,List.drop_take,List.drop_drop];congr 1; omega
theorem dR.get (h:dR z l v j es) {k:IntKind} {i:Nat} {e:List ae} (aw:es[i]? = some e) :∃ p cs o,cO (.ao z) v (.int k (i:Int))=some p/\d4 l p=some (cs,o)/\o+z<=cs.length/\(cs.drop o).take z=e:=by
 cases h with
 | nil j=>simp at aw
 | ao j off n cap sz cs es ai aq aI aB ak cY cL=>
  subst aI;have aA:=(List.getElem?_eq_some_iff.1 aw).1;have h1:i*z+z<=es.length*z:=by rw[<-Nat.succ_mul]; exact Nat.mul_le_mul_right _ aA
  have af:es.length*z<=cap*z:=Nat.mul_le_mul_right _ ak;refine⟨.ptr j (off+i*z) sz,cs,off+i*z,?_,?_,by omega,?_⟩
  ·simp only[cO,Int.toNat_natCast];rw[if_pos ⟨trivial,by omega,by omega⟩]
  ·simp only[d4,ai,if_true]
  ·have afQ:=aB e (List.mem_of_getElem? aw);apply List.ext_getElem?;intro m;by_cases hm:m<z
   ·rw[List.getElem?_take_of_lt hm,List.getElem?_drop,<-Br aB aw hm,<-cL,List.getElem?_take_of_lt (by omega),List.getElem?_drop];congr 1; omega
   ·rw[List.getElem?_eq_none (by simp; omega),List.getElem?_eq_none (by omega)]
theorem dR.Ds (h:dR z l v j es) (aJ:∀ e∈es,kf e=true) :iO l v (qA z v es) :=by
 cases h with
 | nil j=>exact .flat _ rfl
 | ao j off n cap sz cs es ai aq aI aB ak cY cL=>
  show iO l _ (.b6 z es);have nU:off+n*z<=cs.length:=by rw[aq]; have:=Nat.mul_le_mul_right z ak; omega
  refine .ao z j off n cap sz cs es ai aI aB (by omega) (fun i k e c c' aw aE c4=>?_);have aA:i<es.length:=(List.getElem?_eq_some_iff.1 aw).1;have yY:k<z:=by rw[<-aB e (List.mem_of_getElem? aw)]; exact (List.getElem?_eq_some_iff.1 aE).1
  have aN:i*z+k<n*z:=by
   have:i*z+z<=es.length*z:=by rw[<-Nat.succ_mul]; exact Nat.mul_le_mul_right _ aA
   rw[aI] at this; omega
  have h1:es.flatten[i*z+k]? = some c':=wv es aB i k e c' aw aE;rw[<-cL,List.getElem?_take_of_lt aN,List.getElem?_drop] at h1;rw[h1] at c4;cases c4;exact .flat _ (Bq (aJ e (List.mem_of_getElem? aw)) k _ aE)
theorem dR.qw (h:dR z l v j es) (aJ:∀ e∈es,bP e=true) :fa (bW l) v (qA z v es) :=by
 cases h with
 | nil j=>exact .same _ rfl
 | ao j off n cap sz cs es ai aq aI aB ak cY cL=>
  show fa (bW l) _ (.b6 z es);have nU:off+n*z<=cs.length:=by rw[aq]; have:=Nat.mul_le_mul_right z ak; omega
  refine .ao z j off n cap sz cs es (mC.2 ai) aI aB (by omega) (fun i k e c c' aw aE c4=>?_);have aA:i<es.length:=(List.getElem?_eq_some_iff.1 aw).1;have yY:k<z:=by rw[<-aB e (List.mem_of_getElem? aw)]; exact (List.getElem?_eq_some_iff.1 aE).1
  have aN:i*z+k<n*z:=by
   have:i*z+z<=es.length*z:=by rw[<-Nat.succ_mul]; exact Nat.mul_le_mul_right _ aA
   rw[aI] at this; omega
  have h1:es.flatten[i*z+k]? = some c':=wv es aB i k e c' aw aE;rw[<-cL,List.getElem?_take_of_lt aN,List.getElem?_drop] at h1;rw[h1] at c4;cases c4;exact .same _ (yf (aJ e (List.mem_of_getElem? aw)) k _ aE)
theorem dR.rd (h:dR z l v j es) (aJ:∀ e∈es,bP e=true) :Rd l v (qA z v es) :=by
 cases h with
 | nil j=>exact .same _ rfl
 | ao j off n cap sz cs es ai aq aI aB ak cY cL=>
  show Rd l _ (.b6 z es);have nU:off+n*z<=cs.length:=by rw[aq]; have:=Nat.mul_le_mul_right z ak; omega
  refine .ao z j off n cap sz cs es ai aI aB (by omega) (fun i k e c c' aw aE c4=>?_);have aA:i<es.length:=(List.getElem?_eq_some_iff.1 aw).1;have yY:k<z:=by rw[<-aB e (List.mem_of_getElem? aw)]; exact (List.getElem?_eq_some_iff.1 aE).1
  have aN:i*z+k<n*z:=by
   have:i*z+z<=es.length*z:=by rw[<-Nat.succ_mul]; exact Nat.mul_le_mul_right _ aA
   rw[aI] at this; omega
  have h1:es.flatten[i*z+k]? = some c':=wv es aB i k e c' aw aE;rw[<-cL,List.getElem?_take_of_lt aN,List.getElem?_drop] at h1;rw[h1] at c4;cases c4;exact .same _ (yf (aJ e (List.mem_of_getElem? aw)) k _ aE)
theorem dR.vC {α:Type} {enc:α->List ae} {xs:List α} (h:dR z l v j (xs.map enc)) (aJ:∀ x,bP (enc x)=true) (s:eh α) (ar:cT v=s.isNone) (aj:s.l=xs) :Rd l v (cS z enc s) :=by
 have h1:=h.rd (fun e aw=>by obtain⟨x,_,rfl⟩:=List.mem_map.1 aw; exact aJ x);subst aj;unfold qA at h1;rw[ar] at h1;cases s with
 | none=>exact h1
 | some s=>exact h1
theorem dR.zZ {α:Type} {enc:α->List ae} {xs:List α} (h:dR z l v j (xs.map enc)) (aJ:∀ x,kf (enc x)=true) (s:eh α) (ar:cT v=s.isNone) (aj:s.l=xs) :iO l v (cS z enc s) :=by
 have h1:=h.Ds (fun e aw=>by obtain⟨x,_,rfl⟩:=List.mem_map.1 aw; exact aJ x);subst aj;unfold qA at h1;rw[ar] at h1;cases s with
 | none=>exact h1
 | some s=>exact h1
theorem dR.qx {α:Type} {enc:α->List ae} {xs:List α} (h:dR z l v j (xs.map enc)) (aJ:∀ x,bP (enc x)=true) (s:eh α) (ar:cT v=s.isNone) (aj:s.l=xs) :fa (bW l) v (cS z enc s) :=by
 have h1:=h.qw (fun e aw=>by obtain⟨x,_,rfl⟩:=List.mem_map.1 aw; exact aJ x);subst aj;unfold qA at h1;rw[ar] at h1;cases s with
 | none=>exact h1
 | some s=>exact h1
end
theorem acn {P:Program} {t:TypeId} {xs bm:List ae} {r:Bool} (az:P.eqGuardType P.depth t=false) (h:dX P 10000 t (.aS xs) (.aS bm)=some r) :fD P .eql t (.aS xs) (.aS bm)=some (.bool r) :=by
 simp only[fD,ut,az,Bool.not_false,if_true,h]; rfl
theorem aco {P:Program} {t:TypeId} {xs bm:List ae} {r:Bool} (az:P.eqGuardType P.depth t=false) (h:dX P 10000 t (.aS xs) (.aS bm)=some r) :fD P .neq t (.aS xs) (.aS bm)=some (.bool (!r)) :=by
 simp only[fD,ut,az,Bool.not_false,if_true,h]; rfl
end Go.cl

namespace Go.cl
open Go Go.ChangeShapes Go.RowKit
theorem ajN (k:Nat) :¬ j6 aM.empty (fun _=>none) k:=by
 rintro⟨b,m,aq,_,_⟩;simp[aM.empty,aM.f,live,cy.get] at aq
theorem aev {H:Type} {enc:TypeId × Value->H} {P:Program} {w:World} {base:Nat} {spare:Nat->Bool} {held:Bool} {fuel:Nat} {Wo:String} {g t e n:Nat} {cs:Array Value} {x:DataW H × List MemPlace} (bQ:List Int)
  (az:P.globalNamed Wo=some g) (ax:w.var? P Wo=some cs) (aL:P.underlying t=some (.array n e)) (aw:P.underlying e=some (.int .u32)) (ak:P.cellsOf e=1) (bJ:DataW.trod enc P w base spare held fuel t cs.toList=some x)
  (aj:x.1=.agg (bQ.map fun k=>.lit (.int .u32 k))) :eN w (fun _=>True) (.cn (bQ.map fun k=>.int .u32 k) 0) (.pointer (some ⟨g,0,none⟩)) :=by
 obtain⟨xs,m,rfl,xf,bz,aI,afP⟩:=DataW.trod_array aL bJ;rw[xf] at aj;simp only[DataW.agg.injEq] at aj;have s4:bQ.length=n:=by have:=congrArg List.length aj; simp at this; omega
 have kP:∀ j k,bQ[j]? = some k->w.cell? ⟨g,j,none⟩=some (.int .u32 k) :=by
  intro j k am;have kQ:j<n:=by have:=(List.getElem?_eq_some_iff.1 am).1; omega
  have h1:=afP j kQ;rw[ak,Nat.mul_one] at h1;have Ty:j<xs.length:=by omega
  rw[List.getElem?_eq_getElem Ty] at h1;obtain⟨k',a1,b7,_⟩:=DataW.trod_int aw h1;have ap:=congrArg (fun l=>l[j]?) aj;simp only[List.getElem?_map,List.getElem?_eq_getElem Ty,am,Option.map_some,Option.some.injEq] at ap;rw[b7] at ap;have mU:k'=k:=by simpa using ap
  subst mU;have aH:=World.var?_cell az ax j;rw[aH];have bc:(cs.toList.drop j)[0]? = some (Value.int .u32 k') :=by
   have:((cs.toList.drop j).take 1)[0]? = some (Value.int .u32 k') :=by rw[a1]; rfl
   rw[List.getElem?_take] at this;simpa using this
  rw[List.getElem?_drop] at bc;simpa using bc
 refine .cn _ 0 g 0 (fun j=>.int .u32 (bQ.getD j 0)) (fun j am=>?_) (fun j c am=>?_)
 ·rw[List.length_map] at am;refine⟨?_,rfl,trivial,ajN g⟩;rw[Nat.zero_add,kP j bQ[j] (List.getElem?_eq_getElem am),List.getD_eq_getElem?_getD,List.getElem?_eq_getElem am];rfl
 ·rw[List.getElem?_map] at am;cases aE:bQ[j]? with
  | none=>rw[aE] at am; cases am
  | some k=>
   rw[aE] at am;cases am;rw[List.getD_eq_getElem?_getD,aE];exact .int _ _
theorem aaM {H:Type} {enc:TypeId × Value->H} {P:Program} {w:World} {base:Nat} {spare:Nat->Bool} {held:Bool}:∀ {ts:List TypeId} {vs:List Value} {g2:List (DataW H)} {cx:List MemPlace},
  DataW.TrodAll enc P w base spare held ts vs g2 cx->g2.length=ts.length
 | [],vs,g2,cx,h=>by obtain⟨rfl,rfl,rfl⟩:=trodAll_nil h; rfl
 | t::ts,vs,g2,cx,h=>by
  obtain⟨v,am6,d,adJ,a,b,rfl,rfl,rfl,h1,af⟩:=trodAll_cons h;simp[aaM af]
end Go.cl

namespace Go.cl
open Go
abbrev NG (P:Program) (G:Nat->ae) (e:FuncId × Bool × (List ae->Option ae)) :Prop:=∀ args r,e.2.2 args=some r->bT P G e.1 args r/\(e.2.1=true->lf P G e.1 args r)
def Ax (P:Program) (G:Nat->ae) :List (FuncId × Bool × (List ae->Option ae))->Prop
 | []=>True
 | e::r=>NG P G e/\Ax P G r
theorem Ax.mem {P:Program} {G:Nat->ae}:∀ {l:List (FuncId × Bool × (List ae->Option ae))},Ax P G l->∀ e∈l,NG P G e
 | e::l,h,x,aj=>by
  rcases List.mem_cons.1 aj with rfl | aj
  ·exact h.1
  ·exact Ax.mem h.2 x aj
def dn (l:List Nat) :List ae:=l.map fun n=>.int .u8 (.ofNat n)
def gm (l:List ae) :List (List ae) :=l.map fun c=>[c]
end Go.cl

namespace Go.cl
open Go Go.Proofs Go.Shelf Go.Sort Go.RowKit
def xA:ae->Bool | .bool _=>true | .int _ _=>true | .str _=>true | _=>false
def valOf:ae->Value | .bool b=>.bool b | .int k n=>.int k n | .str s=>.string ⟨s.toArray⟩ | _=>.bool false
theorem am4 {w:World} {R:Nat->Prop} {h:aM} {μ:cG} {c:ae} {v:Value} (aF:xA c=true) (ax:aP w R h μ c v) :v=valOf c:=by
 cases ax with
 | bool b=>rfl
 | int k n=>rfl
 | str bs=>obtain⟨⟨l⟩⟩:=bs; rfl
 | bad=>cases aF
 | _=>cases aF
theorem WT {w:World} {R:Nat->Prop} {h:aM} {μ:cG} {c:ae} (aF:xA c=true) :aP w R h μ c (valOf c) :=by
 cases c with
 | bool b=>exact .bool b
 | int k n=>exact .int k n
 | str s=>exact (.str ⟨s.toArray⟩:aP w R h μ (.str (ByteArray.mk s.toArray).data.toList) _)
 | _=>cases aF
theorem Nt (c:ae) :(valOf c).oneCell'=true:=by cases c<;>rfl
theorem ac2 {w W:World} {b o:Nat} (h:W.heap[b]? = w.heap[b]?) :W.cell? ⟨b,o,none⟩=w.cell? ⟨b,o,none⟩:=by simp[World.cell?,h]
theorem ac3 {w:World} {b o:Nat} {v:Value} (h:w.cell? ⟨b,o,none⟩=some v) :b<w.heap.size:=by
 apply Decidable.byContradiction;intro aI;simp only[World.cell?] at h;rw[Array.getElem?_eq_none (by omega)] at h;cases h
theorem am3 {w W:World} {A:Nat->Prop} (cA:∀ k,A k->k<w.heap.size->W.heap[k]? = w.heap[k]?) {c:ae} {v:Value} (ax:eN w A c v) :eN W A c v:=by
 unfold eN at ax ⊢;generalize aR:aM.empty=aQ at ax ⊢;generalize hm:(fun _=>none:cG)=ps at ax ⊢;have pF:∀ {b o:Nat} {v:Value},Cell w A aQ ps b o v->Cell W A aQ ps b o v:=fun {b o v} k=>⟨(ac2 (cA b k.ro (ac3 k.here))).trans k.here,k.one,k.ro,k.free⟩
 induction ax with
 | bool b=>exact .bool b
 | int k n=>exact .int k n
 | str bs=>exact .str bs
 | ib=>exact .ib
 | a6=>exact .a6
 | gJ=>exact .gJ
 | hQ=>exact .hQ
 | ia=>exact .ia
 | aS cs vs aq h1 ax aK=>exact .aS cs vs aq h1 aK
 | bU cs vs aq ax aK=>exact .bU cs vs aq aK
 | ptr b off sz cs m ai hv=>subst hm; cases hv
 | k3 b off sz a az=>exact .k3 b off sz a az
 | cn cs off blk o dK ak ax aK=>exact .cn cs off blk o dK (fun j am=>pF (ak j am)) aK
 | ao z b off len cap sz cap' cs m ai hv aq ay ak=>subst hm; cases hv
 | fA z b off len cap sz cap' a aq ak az=>exact .fA z b off len cap sz cap' a aq ak az
 | gS z b off sz a cs m ai hv=>subst hm; cases hv
 | b6 z es blk off cap dK aq aB ak ax aK=>exact .b6 z es blk off cap dK aq aB (fun i j aA am=>pF (ak i j aA am)) aK
 | eZ z a cap=>exact .eZ z a cap
 | fn f first e5 fs cs aJ ak h1 af dQ ku=>exact .fn f first e5 fs cs aJ ak dQ ku
 | mp b m ai hv=>subst hm; cases hv
 | it b m ai hv=>subst hm; cases hv
 | fH t c v ax aK=>exact .fH t c v aK
 | kD l=>exact .kD l
 | bad v=>exact .bad v
theorem acu {W w' : World} (h:vS W w') :∃ q os,w'=grow (W.drewN q) os:=by
 refine⟨w'.drawn - W.drawn,w'.heap.extract W.heap.size,?_⟩;have bJ:=h.drawn;have ar:=h.size;obtain⟨B7,amm,G4,J5,ajG⟩:=w';obtain⟨heap,tape,drawn,os,out⟩:=W;have a1:J5=os:=h.os;have b7:amm=tape:=h.tape;have dO:ajG=out:=h.output;subst a1 b7 dO;have ke:B7=heap++B7.extract heap.size:=by
  apply Array.ext_getElem?;intro k;rw[Array.getElem?_append];split
  ·rename_i aE;exact h.block k aE
  ·rename_i aE;rw[Array.getElem?_extract];have p6:heap.size<=B7.size:=ar;by_cases s3:k<B7.size
   ·rw[if_pos (by omega),show heap.size+(k - heap.size)=k by omega]
   ·rw[if_neg (by omega),Array.getElem?_eq_none (by omega)]
 have G8:G4=drawn+(G4 - drawn) :=by
  have:drawn<=G4:=bJ;omega
 unfold grow World.drewN;simp only;rw[<-ke,<-G8]
def D8 (P:Program) (f g:FuncId) (k:Nat) {X:Type} [Inhabited X] (d0:X->List Value) (gY:X->X->Int) :Prop:=
 ∀ (blk off cap:Nat) (d:Array X) (w:World),CmpLays P g #[] d0 k gY blk off d.size w->HoldsK d0 k w blk off d->blk<w.heap.size->d.size<4611686018427387904->
  Calls P f #[.slice (some ⟨blk,off,none⟩) d.size cap,.func (.func g) #[] #[]] w fun e w'=>e=.returned (.tuple #[])/\∃ oz n os,PermIn 0 d.size d oz/\SortedIn (ltOf gY) 0 d.size oz/\w'=sortWorldK d0 k w blk off n oz os
def sorted {X:Type} (gY:X->X->Int) (xs:List X) :List X:=xs.mergeSort fun x y=>!ltOf gY y x
theorem aai {X:Type} (gY:X->X->Int) (xs:List X) :(sorted gY xs).length=xs.length:=List.length_mergeSort _
section
variable {P:Program} {G:Nat->ae} {X:Type} {enc:X->List ae} {k:Nat}
theorem z8 (aE:∀ x,(enc x).length=k) (xs:List X) {j:Nat} (am:j<xs.length*k) :∃ x c,xs[j / k]? = some x/\(enc x)[j % k]? = some c/\((xs.map enc).flatten)[j]? = some c:=by
 have yX:0<k:=Nat.pos_of_ne_zero fun h=>by subst h; simp at am
 have h1:j / k<xs.length:=Nat.div_lt_of_lt_mul (by rw[Nat.mul_comm]; exact am);have af:j % k<k:=Nat.mod_lt _ yX;refine⟨xs[j / k],(enc xs[j / k])[j % k]'(by rw[aE]; exact af),List.getElem?_eq_getElem h1,List.getElem?_eq_getElem _,?_⟩;have ap:(xs.map enc)[j / k]? = some (enc xs[j / k]) :=by rw[List.getElem?_map,List.getElem?_eq_getElem h1]; rfl
 have aH:=Br (z:=k) (fun e aw=>by obtain⟨x,_,rfl⟩:=List.mem_map.1 aw; exact aE x) ap af;rw[Nat.mul_comm,Nat.div_add_mod] at aH;rw[aH];exact List.getElem?_eq_getElem _
theorem RW [Inhabited X] (aE:∀ x,(enc x).length=k) (xs:List X) {j:Nat} (am:j<xs.length*k) {c:ae} (ak:((xs.map enc).flatten)[j]? = some c) :(flatK (fun x=>(enc x).map valOf) k xs.toArray)[j]! = valOf c:=by
 obtain⟨x,c',h1,af,ap⟩:=z8 aE xs am;rw[ap] at ak; cases ak;rw[get_flatK _ _ _ _ (by simpa using am)];have aH:xs.toArray[j / k]! = x:=by
  have aN:=(List.getElem?_eq_some_iff.1 h1).1;rw[getElem!_pos _ _ (by simpa using aN)];simpa using (List.getElem?_eq_some_iff.1 h1).2
 rw[aH];obtain⟨bc,bM⟩:=List.getElem?_eq_some_iff.1 af;rw[getElem!_pos _ _ (by simpa using bc)];simp[bM]
theorem alW [Inhabited X] {f g b off len cap sz:Nat} {cs:List ae} {xs:List X} {h:aM} (gY:X->X->Int) (f5:D8 P f g k (fun x=>(enc x).map valOf) gY) (ej:SWO (ltOf gY)) (HR:∀ x y,ltOf gY x y=false->ltOf gY y x=false->x=y)
  (aE:∀ x,(enc x).length=k) (aF:∀ x,∀ c∈enc x,xA c=true) (rj:∀ x y,bT P G g [.aS (enc x),.aS (enc y)] (.int .i64 (gY x y)))
  (ai:h.f b=.cells sz cs) (bz:xs.length=len) (h1:0<len) (pP:len<4611686018427387904) (cL:(cs.drop off).take (len*k)=(xs.map enc).flatten) (d2:off+len*k<=sz) :
  qJ P G f [.ao k b off len cap sz,.fn g [] []] h (.bU []) (h.set b (.cells sz (bS cs off ((sorted gY xs).map enc).flatten))) :=by
 intro R B w μ vs rel Bx aq ax;obtain⟨mw⟩:=vs
 match mw,aq with
 | [v0,e0],_=>
 have hN:=ax 0 _ v0 rfl rfl;have kY:=ax 1 _ e0 rfl rfl;have ahu:¬ si h b sz:=by
  rintro (aQ | ⟨n,lZ,aQ,af⟩)
  ·rw[ai] at aQ; cases aQ
  ·rw[ai] at aQ; cases aQ; omega
 cases kY with
 | fn _ _ _ fs q2 aJ ak _ _=>
 have oM:fs=#[] :=Array.eq_empty_of_size_eq_zero aJ;have iV:q2=#[] :=Array.eq_empty_of_size_eq_zero ak;subst oM iV;cases hN with
 | fA _ _ _ _ _ _ _ _ _ _ az=>exact absurd az ahu
 | gS=>omega
 | ao _ _ _ _ _ _ cap' lZ m jp hm mV ay c4=>
 rw[ai] at jp; cases jp;have f8:=rel.blk b m hm;rw[ai] at f8;obtain⟨er,dF,arr,e,fe,aC,d9,kn,h4⟩:=f8;have jt:live (h.f b)=true:=by rw[ai]; rfl
 have hM:j6 h μ m.r:=⟨b,m,jt,hm,rfl⟩
 have Iq:=rel.lt jt hm;have mU:∀ j,j<len*k->∃ c,((xs.map enc).flatten)[j]? = some c/\cs[off+j]? = some c/\xA c=true:=by
  intro j am;obtain⟨x,c,aV,aY,bd⟩:=z8 aE xs (by rw[bz]; exact am);refine⟨c,bd,?_,aF x c (List.mem_of_getElem? aY)⟩;rw[<-cL,List.getElem?_take_of_lt am,List.getElem?_drop] at bd;exact bd
 have hJ:HoldsK (fun x=>(enc x).map valOf) k w m.r (m.s+off) xs.toArray:=by
  intro j am;rw[size_flatK] at am;have et:j<len*k:=by simpa [bz] using am
  obtain⟨c,aV,aY,bd⟩:=mU j et;obtain⟨v,bD,br,cj⟩:=h4 (off+j) c aY;have aN:m.s+off+j<arr.size:=by
   have:=(Array.getElem?_eq_some_iff.1 bD).1;omega
  constructor
  ·simp only[World.cell?,aC,Option.isSome_none];rw[RW aE xs (by rw[bz]; exact et) aV,<-am4 bd cj,Nat.add_assoc];exact bD
  ·simp only[World.frozen?,aC];rcases kn with aQ | aQ
   ·subst aQ; simp
   ·simp; intro ap; omega
 have afy:CmpLays P g #[] (fun x=>(enc x).map valOf) k gY m.r (m.s+off) xs.toArray.size w:=by
  intro n os adA wK x y;obtain⟨W,eO⟩:∃ W,W=sortWorldK (fun x=>(enc x).map valOf) k w m.r (m.s+off) n adA os:=⟨_,rfl⟩
  have afb:∀ i,i≠m.r->i<w.heap.size->W.heap[i]? = w.heap[i]?:=by
   intro i aA aN;rw[eO];show (((w.heap.modify m.r _)++os))[i]? = _;rw[Array.getElem?_append_left (by simpa using aN),Array.getElem?_modify,if_neg (fun h=>aA h.symm)]
  rw[<-eO];have cA:∀ i,(R i/\¬ j6 h μ i)->i<w.heap.size->W.heap[i]? = w.heap[i]?:=fun i aA aN=>afb i (fun aw=>aA.2 (by rw[aw]; exact hM)) aN
  have key:=rj x y W (fun i=>R i/\¬ j6 h μ i) #[.agg ((enc x).map valOf).toArray,.agg ((enc y).map valOf).toArray] (fun Sl=>am3 cA (um (Bx Sl).2 (Bx Sl).1)) rfl (fun j c v am eI=>by
   have one:∀ z:X,eN W (fun i=>R i/\¬ j6 h μ i) (.aS (enc z)) (.agg ((enc z).map valOf).toArray) :=fun z=>by
    refine .aS _ _ (by simp) (fun i v aA=>?_) (fun i c v aA Tv=>?_)
    ·simp only[List.getElem?_toArray,List.getElem?_map,Option.map_eq_some_iff] at aA;obtain⟨c,_,rfl⟩:=aA;exact Nt c
    ·simp only[List.getElem?_toArray,List.getElem?_map,Option.map_eq_some_iff] at Tv;obtain⟨c',ap,rfl⟩:=Tv;rw[aA] at ap; cases ap;exact WT (aF z c (List.mem_of_getElem? aA))
   match j with
   | 0=>simp at am eI; subst am eI; exact one x
   | 1=>simp at am eI; subst am eI; exact one y
   | j+2=>simp at am)
  refine key.mono ?_;rintro e w' ⟨v,rfl,fi,kW⟩;obtain⟨q,J5,rfl⟩:=acu fi;cases kW;exact⟨rfl,q,J5,rfl⟩
 have kO:=f5 m.r (m.s+off) cap' xs.toArray w afy hJ Iq (by simpa [bz] using pP);have n0:((xs.toArray.size:Nat) :Int)=(len:Int) :=by simp[bz]
 rw[show (xs.toArray.size)=len by simp[bz]] at kO;refine kO.mono ?_;rintro eH w' ⟨rfl,oz,n,os,pR,kM,rfl⟩;have nL:oz.toList=sorted gY xs:=by
  have:=sorted_unique_holds ej HR xs.toArray oz (by simpa [bz] using pR) (by simpa [bz] using kM);simpa [sorted] using this
 obtain⟨bm,zk⟩:∃ bm,bm=sorted gY xs:=⟨_,rfl⟩
 rw[<-zk] at nL ⊢;have fc:bm.length=len:=by rw[zk,aai,bz]
 have H0:oz=bm.toArray:=by rw[<-nL]
 subst H0;have fE:((bm.map enc).flatten).length=len*k:=by
  have:∀ l:List X,((l.map enc).flatten).length=l.length*k:=fun l=>by
   induction l with
   | nil=>simp
   | cons a l aK=>simp only[List.map_cons,List.flatten_cons,List.length_append,aK,aE,List.length_cons]; rw[Nat.succ_mul]; omega
  rw[this,fc]
 obtain⟨b4,iZ⟩:∃ b4,b4=putRowK (fun x=>(enc x).map valOf) k (Sort.ahead w n) m.r (m.s+off) bm.toArray:=⟨_,rfl⟩
 have iC:b4.heap=w.heap.modify m.r (onCells (putCells id (m.s+off) (flatK (fun x=>(enc x).map valOf) k bm.toArray))) :=by rw[iZ]; rfl
 have B3:off<=cs.length:=by omega
 obtain⟨ex,ob⟩:=rel.write (w':=b4) (sz':=sz) (cs':=bS cs off ((bm.map enc).flatten)) (arr':=putCells id (m.s+off) (flatK (fun x=>(enc x).map valOf) k bm.toArray) arr) ai hm aC d9 kn (by rw[iZ]; rfl) (by rw[iZ]; rfl) (by rw[iZ]; rfl) (by rw[iC]; simp)
  (by rw[iC,Array.getElem?_modify,if_pos rfl,aC]; rfl) (fun i aA=>by rw[iC,Array.getElem?_modify,if_neg (fun h=>aA h.symm)]) (by simp[putCells])
  (by rw[qC B3,fE]; omega) (Nat.le_refl _) dF (fun j c am=>by
   rw[M2 B3,fE] at am;have eB:(putCells id (m.s+off) (flatK (fun x=>(enc x).map valOf) k bm.toArray) arr)[m.s+j]? = (arr[m.s+j]?).map fun x=>if m.s+off<=m.s+j/\m.s+j<m.s+off+(flatK (fun x=>(enc x).map valOf) k bm.toArray).size then (flatK (fun x=>(enc x).map valOf) k bm.toArray)[m.s+j - (m.s+off)]! else x:=by
    unfold putCells; rw[Array.getElem?_mapIdx]; rfl
   rw[size_flatK] at eB;by_cases Ie:j<off
   ·rw[if_pos Ie] at am;obtain⟨v,bD,br,cj⟩:=h4 j c am;refine⟨v,?_,br,cj⟩;rw[eB,bD,Option.map_some,if_neg (by omega)]
   ·rw[if_neg Ie] at am;by_cases pY:j<off+len*k
    ·rw[if_pos pY] at am;have eQ:j - off<len*k:=by omega
     obtain⟨uk,aV,aY,bd⟩:=mU (j - off) eQ;rw[show off+(j - off)=j by omega] at aY;obtain⟨v,bD,br,cj⟩:=h4 j uk aY;obtain⟨x,cz,a1,b7,dO⟩:=z8 aE bm (j:=j - off) (by rw[fc]; exact eQ);rw[dO] at am; cases am;refine⟨valOf c,?_,Nt c,WT (aF x c (List.mem_of_getElem? b7))⟩;rw[eB,bD,Option.map_some,if_pos (by simp[fc]; omega),show m.s+j - (m.s+off)=j - off by omega,RW aE bm (by rw[fc]; exact eQ) dO]
    ·rw[if_neg pY] at am;obtain⟨v,bD,br,cj⟩:=h4 j c am;refine⟨v,?_,br,cj⟩;rw[eB,bD,Option.map_some,if_neg (by simp[fc]; omega)]) (by rw[iZ]; exact Nat.le_add_right _ _)
 have HT:vS b4 (grow b4 os) :=⟨⟨rfl,rfl,rfl,by simp[grow],fun i aA=>by simp only[grow]; rw[Array.getElem?_append_left aA]⟩,Nat.le_refl _⟩
 obtain⟨sM,qy⟩:=z1 ob HT;refine⟨_,μ,rfl,?_,?_,.bU [] #[] rfl (fun j c v am _=>by simp at am)⟩
 ·rw[iZ] at ex sM; exact ex.trans sM
 ·rw[iZ] at qy; exact qy
end
section
variable {P:Program} {G:Nat->ae} {X:Type} {enc:X->List ae} {k:Nat}
theorem ZW {k:Nat}:∀ {es:List (List ae)},(∀ e∈es,e.length=k)->es.flatten.length=es.length*k
 | [],_=>by simp
 | e::es,h=>by
  rw[List.flatten_cons,List.length_append,h e (by simp),ZW (fun x aj=>h x (by simp[aj])),List.length_cons,Nat.succ_mul]; omega
theorem alT [Inhabited X] {f g:Nat} (gY:X->X->Int) (f5:D8 P f g k (fun x=>(enc x).map valOf) gY) (ej:SWO (ltOf gY)) (HR:∀ x y,ltOf gY x y=false->ltOf gY y x=false->x=y)
  (aE:∀ x,(enc x).length=k) (aF:∀ x,∀ c∈enc x,xA c=true) (rj:∀ x y,bT P G g [.aS (enc x),.aS (enc y)] (.int .i64 (gY x y)))
  {l:au} {v:ae} {j:Nat} {xs:List X} (hM:dR k l v j (xs.map enc)) (pP:xs.length<4611686018427387904) {K:ae->au->Prop}
  (aQ:xs=[]->dB P G f [v,.fn g [] []] l (c:=⟨K⟩))
  (a7:∀ l',l'.length=l.length->(∀ b,b≠j->l'[b]? = l[b]?)->dR k l' v j ((sorted gY xs).map enc)->K (.bU []) l') :dB P G f [v,.fn g [] []] l (c:=⟨K⟩) :=by
 cases xs with
 | nil=>exact aQ rfl
 | cons x xs=>
 obtain⟨bm,zk⟩:∃ bm,bm=x::xs:=⟨_,rfl⟩
 rw[<-zk] at hM pP a7;have kq:0<bm.length:=by rw[zk]; simp
 generalize ij:bm.map enc=es at hM;cases hM with
 | nil j=>rw[List.map_eq_nil_iff] at ij; rw[ij] at kq; simp at kq
 | ao j off n cap sz cs es ai aq aI aB ak cY cL=>
 subst ij;have rv:bm.length=n:=by simpa using aI
 have dv:n*k<=cap*k:=Nat.mul_le_mul_right _ ak;have eQ:j<l.length:=(List.getElem?_eq_some_iff.1 ai).1;have ar:=alW (P:=P) (G:=G) (cap:=cap) gY f5 ej HR aE aF rj (h:=bW l) (mC.2 ai) rv (by omega) (by omega) cL (by omega);rw[nq _ eQ] at ar;refine⟨_,_,.ext ar,by simp,?_⟩;have e7:((sorted gY bm).map enc).length=n:=by rw[List.length_map,aai,rv]
 have cB:∀ e∈(sorted gY bm).map enc,e.length=k:=fun e aw=>by obtain⟨x,_,rfl⟩:=List.mem_map.1 aw; exact aE x
 have fE:(((sorted gY bm).map enc).flatten).length=n*k:=by rw[ZW cB,e7]
 have B3:off<=cs.length:=by omega
 refine a7 _ (by simp) (fun b kk=>by rw[List.getElem?_set_ne (fun h=>kk h.symm)]) ?_;refine .ao j off n cap sz _ _ (List.getElem?_set_self eQ) (by rw[qC B3,fE]; omega) e7 cB ak cY ?_;unfold bS;have h1:(List.take off cs).length=off:=by rw[List.length_take]; omega
 rw[List.append_assoc,List.drop_append_of_le_length (by omega),List.drop_of_length_le (by omega),List.nil_append,List.take_append_of_le_length (by omega),List.take_of_length_le (by omega)]
end
end Go.cl

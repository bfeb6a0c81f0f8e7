/-
  The canonical machine: a law with arguments that returns true, as a claim wants it.
-/
import Derived.Test.YtidejmkknleijaaGreatDoorHe
import Derived.ProofKit
import Derived.OpenShut
import Derived.Shelf.SlSortCmp.InsertionK
import Derived.Sort.LotA
set_option linter.unusedVariables false
set_option linter.unusedSimpArgs false
set_option linter.unnecessarySimpa false
namespace Go.bV
open Go Go.ChangeShapes Go.RowKit
theorem aaS {H:Type} {enc:TypeId × Value->H} {P:Program} (al:laidOutB P=true) {W eV:World} (af:Below W.heap.size W eV) :∀ {ts:List TypeId} {vs:List Value} {iH:List (DataW H)} {ps:List MemPlace},
  (∀ t∈ts,P.readableRec t=true/\t<P.types.size)->DataW.TrodAll enc P W 0 (fun _=>true) true ts vs iH ps->DataW.TrodAll enc P eV 0 (fun b=>decide (b<W.heap.size)) true ts vs iH ps
 | [],vs,iH,ps,_,h=>by
  obtain⟨rfl,rfl,rfl⟩:=trodAll_nil h;exact trodAll_mk0
 | t::ts,vs,iH,ps,az,h=>by
  have aL:=h.lt;obtain⟨v,qn,d,aef,a,b,rfl,rfl,rfl,ad,ae⟩:=trodAll_cons h;exact⟨a,b,Below.trod al (az t (by simp)).1 (az t (by simp)).2 ad af (fun x ag=>aL x (by simp[ag])),aaS al af (fun t aX=>az t (by simp[aX])) ae,rfl⟩
theorem akc {P:Program} {G:Nat->U} (fO:P.follows .mixedOrders=true) (ir:∀ g,(G g).closed=true) {f:FuncId} {ts:List TypeId} (D:Nat) (au:∀ t∈ts,vZ P D t=true) (aht:laidOutB P=true)
  (b0:∀ t∈ts,P.readableRec t=true/\t<P.types.size) (aka:∀ cs,js P ts cs->c5 P G f cs [] (c:=⟨fun r _=>r=.bool true⟩))
  {H:Type} {enc:TypeId × Value->H} {W:World} {hr:Nat} {args:Array Value} {iH:List (DataW H)} {ps:List MemPlace} (ax:∀ g,eh W (fun _=>True) (G g) (.pointer (some ⟨g,0,none⟩)))
  (cM:∀ (j:Nat) t v,ts[j]? = some t->args[j]? = some v->Value.okWide P W .any hr t v) (h:DataW.TrodAll enc P W 0 (fun _=>true) true ts args.toList iH ps) :
  Calls P f args W fun e w'=>e=.returned (.bool true)/\Below W.heap.size W w'/\DataW.TrodAll enc P w' 0 (fun b=>decide (b<W.heap.size)) true ts args.toList iH ps:=by
 obtain⟨cs,B2,bA,vE⟩:=Rj (A:=fun _=>True) (fun _=>trivial) au (fun j t v aX ao=>cM j t v aX (by simpa using ao)) h;exact (akb fO ir (aka cs B2) ax (by rw[bA]; simp) (fun j c v ah ao=>vE j c v ah (by simpa using ao))).mono fun e w' ⟨am,af⟩=>⟨am,af,aaS aht af b0 h⟩
end Go.bV

namespace Go.bV
open Go
def aar (n:Nat) (h:aO) (p v:U) :Option aO:=
 match p,v.cells with
 | .ptr b off sz,some vs=>match h.f b with
  | .cells m cs=>if m=sz/\vs.length=n/\off+n<=m then some (h.set b (.cells m (bf cs off vs))) else none
  | _=>none
 | _,_=>none
def Hf (h:aO) (z by_:Nat) (s:U) (xs:List U) (n:Nat) :Option (U × aO) :=
 if n=0 then (match s with | .aG | .a1 .. | .aq ..=>some (s,h) | _=>none)
 else if z=0\/by_=0 then none else match s with
  | .aG=>if n*by_<=ci then some (.aq z h.n 0 n n (n*z),h.push (.cells (n*z) xs)) else none
  | .aq dI b off len cap sz=>match h.f b with
   | .cells m cs=>
    if m=sz/\z=dI/\(len+n)*by_<=ci then
     if len+n<=cap then some (.aq z b off (len+n) cap sz,h.set b (.cells m (bf cs (off+len*z) xs)))
     else if off+cap*z<sz then some (.aq z h.n 0 (len+n) (len+n) ((len+n)*z),h.push (.cells ((len+n)*z) ((cs.drop off).take (len*z)++xs)))
     else if off=0 then some (.aq z b 0 (len+n) (len+n) ((len+n)*z),h.set b (.cells ((len+n)*z) (cs.take (len*z)++xs)))
     else some (.aq z h.n 0 (len+n) (len+n) ((len+n)*z),(h.set b .dead).push (.cells ((len+n)*z) ((cs.drop off).take (len*z)++xs)))
    else none
   | _=>none
  | _=>none
def TP (z:Nat) (h:aO) (d x:U) :Option (U × aO) :=
 match contents h z x with
 | none=>none
 | some (xs,n)=>match d with
  | .aG=>some (.int .i64 0,h)
  | .aq dI b off len _ sz=>match h.f b with
   | .cells m cs=>if m=sz/\z=dI then some (.int .i64 ((min n len:Nat) :Int),h.set b (.cells m (bf cs off (xs.take (min n len*z))))) else none
   | _=>none
  | _=>none
def Tu (zero:List U) (h:aO) :U->Option aO
 | .aG=>some h
 | .a1 _ []=>some h
 | .aq z b off len _ sz=>if len=0 then some h else match h.f b with
  | .cells m cs=>if m=sz/\zero.length=z then some (h.set b (.cells m (bf cs off (dH zero len)))) else none
  | _=>none
 | _=>none
def Yf (z by_:Nat) (zero:List U) (h:aO) (l c:U) :Option (U × aO) :=match l,c with
 | .int _ l,.int _ c=>if 0<=l/\l<=c/\c<9223372036854775808/\by_*c<=ci then
   some (.aq z h.n 0 l.toNat c.toNat (c.toNat*z),h.push (.cells (c.toNat*z) (dH zero c.toNat))) else none
 | _,_=>none
def Tm (h:aO) (x:U) :Option U:=match x with
 | .aG=>some (.str [])
 | .str _=>none
 | x=>match contents h 1 x with | some (cs,_)=>(nV cs).map .str | none=>none
def Ra (h:aO) (z by_:Nat) (s x:U) :Option (U × aO) :=match contents h z x with
 | none=>none
 | some (xs,n)=>Hf h z by_ s xs n
def Rc (h:aO) (z by_:Nat) (zero:List U) (s x:U) :Option (U × aO) :=match x with
 | .int _ n=>if 0<=n/\n<9223372036854775808/\n.toNat*by_<=ci then Hf h z by_ s (dH zero n.toNat) n.toNat else none
 | _=>none
def TF (h:aO) (x y:U) :Option U:=match tk h x,tk h y with
 | some a,some b=>some (.int .i64 (oW a b))
 | _,_=>none
def Zt (h:aO) (x:U) :Option (U × aO) :=match x with
 | .str s=>some (.it h.n,h.push (.iter s 0))
 | _=>none
def XT (h:aO) (x:U) :Option U:=match x with
 | .iY=>some (.int .i64 0)
 | .mp b=>match h.f b with | .map es _=>some (.int .i64 es.length) | _=>none
 | _=>none
def X0 (P:Program) (h:aO) (cS:TypeId) (zero:U) (ok:Bool) (m k:U) :Option U:=
 match mapOf h m with
 | some es=>match mx P cS k with
  | false=>none
  | true=>match lJ P cS k es 0 with
   | some (some (_,v))=>some (if ok then .bq [v,.bool true] else v)
   | some none=>some (if ok then .bq [zero,.bool false] else zero)
   | none=>none
 | none=>none
def X6 (P:Program) (h:aO) (cS:TypeId) (m k v:U) :Option aO:=
 match m with
 | .mp b=>match h.f b with
  | .map es fq=>match mx P cS k with
   | false=>none
   | true=>match lJ P cS k es 0 with
    | some (some (i,_))=>some (h.set b (.map (es.modify i fun e=>(k,v,e.2.2)) fq))
    | some none=>some (h.set b (.map (es++[(k,v,fq)]) (fq+1)))
    | none=>none
  | _=>none
 | _=>none
def h0 (h:aO) (x:Option U) :Option (U × aO) :=match x with | some v=>some (v,h) | none=>none
section
variable (P:Program)
def FM (aB:Operand->U) (h:aO) :db->Option (U × aO)
 | .fX x=>some (aB x,h)
 | .pick c a b=>h0 h (F4 (aB c) (aB a) (aB b))
 | .alloc zero=>some (.ptr h.n 0 zero.length,h.push (.cells zero.length zero))
 | .box x=>match (aB x).cells with | some cs=>some (.ptr h.n 0 cs.length,h.push (.cells cs.length cs)) | none=>none
 | .Dp zero ps=>h0 h ((qC zero (ps.map fun p=>(p.1,p.2.1,aB p.2.2))).map .aH)
 | .rX z zero len ps=>match hU (fun i=>some (i*z,z)) (dH zero len) (ps.map fun p=>(p.1,aB p.2)) with | some cs=>some (.aq z h.n 0 len len (len*z),h.push (.cells (len*z) cs)) | none=>none
 | .ot a=>h0 h (match reach h (aB a) with | some (cs,o)=>cs[o]? | none=>none)
 | .mz n a=>h0 h (match reach h (aB a) with | some (cs,o)=>ug n cs o | none=>none)
 | .st n a x=>match aar n h (aB a) (aB x) with | some h'=>some (gU,h') | none=>none
 | .FP x=>h0 h (z3 (aB x))
 | .bin o t x y=>h0 h (fz P o t (aB x) (aB y))
 | .un o x=>h0 h (rB o (aB x))
 | .AX k x=>h0 h (AY k (aB x))
 | .A7 x=>h0 h (HB (aB x))
 | .uP x=>h0 h (Tm h (aB x))
 | .A6 x=>h0 h (wY (aB x))
 | .z1 t x=>some (.hM t (aB x),h)
 | .CS t z ok x=>h0 h (CT t z ok (aB x))
 | .z0 f a b=>some (.fn f (a.map aB) (b.map aB),h)
 | .sC z by_ zero a c=>Yf z by_ zero h (aB a) (aB c)
 | .slice dt x cK ay cL=>h0 h (fm dt (aB x) (cK.map aB) (ay.map aB) (cL.map aB))
 | .qL off x=>h0 h (nX (aB x) off)
 | .DT off x=>h0 h (DV off (aB x))
 | .DU n off x=>h0 h (Bi n off (aB x))
 | .xw dt x i=>h0 h (cN dt (aB x) (aB i))
 | .Fr n z x i=>h0 h (Ft n z (aB x) (aB i))
 | .Fs n z x i=>h0 h (Fu n z (aB x) (aB i))
 | .Fw x i=>h0 h (zN (aB x) (aB i))
 | .ext x i=>h0 h (DR (aB x) i)
 | .len dt x=>h0 h (cp dt (aB x))
 | .cap dt x=>h0 h (uO dt (aB x))
 | .app z by_ s x=>Ra h z by_ (aB s) (aB x)
 | .wy z by_ zero s x=>Rc h z by_ zero (aB s) (aB x)
 | .wX z d x=>TP z h (aB d) (aB x)
 | .wP zero x=>match Tu zero h (aB x) with | some h'=>some (.bq [],h') | none=>none
 | .min x y=>h0 h (xO (aB x) (aB y))
 | .max x y=>h0 h (vS (aB x) (aB y))
 | .vU x=>match x with
  | none=>some (.mp h.n,h.push (.map [] 0))
  | some o=>match asInt (aB o) with | some _=>some (.mp h.n,h.push (.map [] 0)) | none=>none
 | .zV cS zero ok m k=>h0 h (X0 P h cS zero ok (aB m) (aB k))
 | .xP cS m k x=>match X6 P h cS (aB m) (aB k) (aB x) with | some h'=>some (gU,h') | none=>none
 | .xH x=>h0 h (XT h (aB x))
 | .x6 x=>Zt h (aB x)
 | .xT x=>Co h (aB x)
 | .cj f tt x y=>match Fp f (aB tt) with | true=>h0 h (TF h (aB x) (aB y)) | false=>none
 | .stop=>none
end
def qf (r:U->Option U) :List U->Option (List U)
 | []=>some []
 | c::cs=>match r c with
  | some c'=>match qf r cs with
   | some cs'=>some (c'::cs')
   | none=>none
  | none=>none
def v4 (h:aO) :Nat->U->Option U
 | 0,_=>none
 | d+1,c=>match c with
  | .aH cs=>match qf (v4 h d) cs with | some cs'=>some (.aH cs') | none=>none
  | .bq cs=>match qf (v4 h d) cs with | some cs'=>some (.bq cs') | none=>none
  | .aq z b off len cap sz=>match Nat.beq len 0 with
   | true=>some (.a1 z [])
   | false=>match h.f b with
    | .cells n cs=>match Nat.beq n sz&&Nat.ble (off+len*z) cs.length with
     | true=>match qf (v4 h d) ((cs.drop off).take (len*z)) with
      | some xs=>some (.a1 z (mJ z len xs))
      | none=>none
     | false=>none
    | _=>none
  | .ptr b off sz=>match h.f b with
   | .cells n cs=>match Nat.beq n sz with
    | true=>match qf (v4 h d) cs with | some cs'=>some (.bM cs' off) | none=>none
    | false=>none
   | _=>none
  | c=>match c.closed with | true=>some c | false=>none
def Rm (x:U) :Option Int:=match x with
 | .int k i=>match k with | .i64=>some i | _=>none
 | _=>none
def ph (z:Nat) (cs vs:List U) (i len:Nat) :List U:=cs.take (i*z)++vs++(cs.drop (i*z)).take ((len - i)*z)++cs.drop ((len+1)*z)
def Fm (z by_:Nat) (h:aO) (s:U) (i:Nat) (io:Nat) (vs:List U) :Option (U × aO) :=match s with
 | .aG=>if i=0/\by_<=ci then some (.aq z h.n 0 1 1 z,h.push (.cells z vs)) else none
 | .aq g1 b off len cap sz=>match h.f b with
  | .cells m cs=>if m=cap*z/\sz=cap*z/\g1=z/\off=0/\io≠b/\i<=len/\len<=cap/\(len+1)*by_<=ci then
    some (.aq z h.n 0 (len+1) (max cap (len+1)) (max cap (len+1)*z),(h.set b .dead).push (.cells (max cap (len+1)*z) (ph z cs vs i len))) else none
  | _=>none
 | _=>none
def tT (z by_:Nat) (args:List U) (h:aO) :Option (U × aO) :=match args with
 | [s,x,y]=>match Rm x,y with
  | some i,.aq gy io hB br b7 iC=>match h.f io with
   | .cells eR vs=>if gy=z/\hB=0/\br=1/\b7=1/\iC=z/\eR=z/\0<=i then Fm z by_ h s i.toNat io vs else none
   | _=>none
  | _,_=>none
 | _=>none
class rK (P:Program) (G:Nat->U) where
 get:FuncId->Option (Nat × Nat)
 ok:∀ f z by_,get f=some (z,by_)->∀ args h r h',tT z by_ args h=some (r,h')->rI P G f args h r h'
instance (priority:=10) avF (P:Program) (G:Nat->U) :rK P G:=⟨fun _=>none,fun f z by_ h=>by cases h⟩
abbrev pw:=FuncId->List U->aO->Option (U × aO)
abbrev KU:=Option (s4 × hG × aO)
mutual
def aV.beq:aV->aV->Bool
 | .none,y=>match y with | .none=>true | _=>false
 | .dead,y=>match y with | .dead=>true | _=>false
 | .cells n cs,y=>match y with | .cells fY cs'=>Nat.beq n fY&&fN cs cs' | _=>false
 | .map ..,_=>false
 | .iter ..,_=>false
end

section
variable (P:Program) (G:Nat->U)
def HT (s:hG) (g:Option (Option Tmp × Bool)) :Option Bool:=match g with
 | none=>some true
 | some (some d,w)=>match look s d with
  | .bool b=>some (b == w)
  | .bad=>none
  | _=>some false
 | some (none,_)=>some false
def Dm (call:pw) (b:rH) (s:hG) (h:aO) :Option (U × aO) :=match b with
 | .gR m=>FM P (c2 G (look s)) h m
 | .nb f args=>call f (args.map (c2 G (look s))) h
 | .nd x args=>match c2 G (look s) x with
  | .fn g first gL=>match kK P g with
   | true=>call g (first++args.map (c2 G (look s))++gL) h
   | false=>none
  | _=>none
 | .oV x name args=>match c2 G (look s) x with
  | .hM t v=>match zY P t name with
   | some g=>match kK P g with
    | true=>call g (v::args.map (c2 G (look s))) h
    | false=>none
   | none=>none
  | _=>none
def Gi (call:pw) :List dp->hG->aO->Option (hG × aO)
 | [],s,h=>some (s,h)
 | x::r,s,h=>match HT s x.g with
  | some true=>match Dm P G call x.b s h with
   | some (v,h')=>Gi call r (F7 s x.dst v) h'
   | none=>none
  | some false=>Gi call r (F7 s x.dst gU) h
  | none=>none
def Kt (b:rH) (s:hG) (v:U) (h h' ad:aO) :Bool:=match b with
 | .gR m=>match m.jC with
  | true=>aV.beq (ad.f h.n) (h'.f h.n)
  | false=>match m.looks with
   | true=>match FM P (c2 G (look s)) ad m with
    | some (v',_)=>U.beq v' v
    | none=>false
   | false=>false
 | _=>true
def Hw (ids:List Nat) (h:aO) :List (Nat × (aO->Bool))->Bool
 | []=>true
 | e::r=>(!ids.contains e.1||e.2 h)&&Hw ids h r
def Gh (call:pw) :List dp->hG->aO->List (Nat × (aO->Bool))->Option (hG × aO)
 | [],s,h,_=>some (s,h)
 | x::r,s,h,seen=>match HT s x.g with
  | some true=>match Dm P G call x.b s h with
   | some (v,h')=>match Hw x.dK h' seen with
    | true=>Gh call r (F7 s x.dst v) h' (match x.b1 with | true=>(x.i,Kt P G x.b s v h h') ::seen | false=>seen)
    | false=>none
   | none=>none
  | some false=>Gh call r (F7 s x.dst gU) h seen
  | none=>none
def Tn (call:pw) (aR:fM->hG->aO->KU) (c:fM) (s:hG) (h:aO) :KU:=
 match c with
 | .skip=>some (.normal,s,h)
 | .ret=>some (.ret,s,h)
 | .exit id=>some (.exit id,s,h)
 | .l3 x=>match Gi P G call x s h with
  | some (c0,ad)=>some (.normal,c0,ad)
  | none=>none
 | .yW x=>match Gh P G call x s h [] with
  | some (c0,ad)=>some (.normal,c0,ad)
  | none=>none
 | .seq a b=>match aR a s h with
  | some (.normal,c0,ad)=>aR b c0 ad
  | r=>r
 | .cond c x y=>match c2 G (look s) c with
  | .bool true=>aR x s h
  | .bool false=>aR y s h
  | _=>none
 | .block id c=>match aR c s h with
  | some (.exit tS,c0,ad)=>match Nat.beq tS id with
   | true=>some (.normal,c0,ad)
   | false=>some (.exit tS,c0,ad)
  | r=>r
 | .loop c=>match aR c s h with
  | some (.normal,c0,ad)=>aR (.loop c) c0 ad
  | r=>r
def Hu (call:pw) :Nat->fM->hG->aO->KU
 | 0=>fun _ _ _=>none
 | k+1=>Tn P G call (Hu call k)
def Ge (s:hG) (h:aO) :List db->List U->Option U
 | [],acc=>some (yl acc)
 | m::r,acc=>match FM P (c2 G (look s)) h m with
  | some (v,_)=>Ge s h r (acc++[v])
  | none=>none
abbrev rM:=FuncId->Option (Bool × (List U->Option U))
abbrev wq:=FuncId->Option (fM × List db)
def Lf (orc:rM) (f:FuncId) (args:List U) (h:aO) :Option U:=
 match orc f with
 | some (n,g)=>match qf (v4 h 20) args with
  | some jb=>match g jb with
   | some r=>match n||r.flat with | true=>some r | false=>none
   | none=>none
  | none=>none
 | none=>none
def Tk [rK P G] (orc:rM) (l4:wq) (fuel:Nat) (call:pw) :pw:=fun f args h=>
 match rK.get P G f with
 | some (z,by_)=>tT z by_ args h
 | none=>match Lf orc f args h with
 | some r=>some (r,h)
 | none=>match l4 f with
  | none=>none
  | some (c,oD)=>match Hu P G call fuel c (Cs 0 .nil args) h with
   | some (.normal,ff,h')=>match Ge P G ff h' oD [] with | some r=>some (r,h') | none=>none
   | some (.ret,ff,h')=>match Ge P G ff h' oD [] with | some r=>some (r,h') | none=>none
   | _=>none
def Dw [rK P G] (orc:rM) (l4:wq) (fuel:Nat) :Nat->pw
 | 0=>fun _ _ _=>none
 | k+1=>Tk P G orc l4 fuel (Dw orc l4 fuel k)
end
structure eL (h:aO) (l:ap) :Prop where
 n:h.n=l.length
 f:∀ b,h.f b=(bb l).f b
theorem eL.nil:eL aO.empty [] :=⟨rfl,fun _=>rfl⟩
theorem eL.some {h:aO} {l:ap} (r:eL h l) {b:Nat} {c:aV} (ah:h.f b=c) (aC:c≠.none) :l[b]? = some c:=by
 rw[r.f,k2] at ah;split at ah
 ·rename_i c' ad; rw[ad,ah]
 ·exact absurd ah.symm aC
theorem eL.push {h:aO} {l:ap} (r:eL h l) (c:aV) :eL (h.push c) (l++[c]) :=
 ⟨by rw[fJ,r.n]; simp,fun b=>by rw[ep,<-oN,ep,r.n,GZ]; unfold bB; (split<;>first | rfl | exact r.f b)⟩
theorem eL.set {h:aO} {l:ap} (r:eL h l) {b:Nat} {rY:aV} (af:l[b]? = Option.some rY) (c:aV) :eL (h.set b c) (l.set b c) :=
 ⟨by rw[e2,r.n]; simp,fun aZ=>by rw[dZ,<-qu _ (cd af),dZ]; unfold bB; (split<;>first | rfl | exact r.f aZ)⟩
section
variable {P:Program} {G:Nat->U} {h h' : aO} {l:ap}
theorem eL.reach (r:eL h l) (p:U) :reach h p=hj l p:=by
 rw[<-Px];cases p<;>try rfl
 simp only[bV.reach,r.f]
theorem eL.contents (r:eL h l) (z:Nat) (x:U) :contents h z x=de l z x:=by
 rw[<-DE];cases x<;>try rfl
 simp only[bV.contents,r.f]
theorem eL.mapOf (r:eL h l) (x:U) :mapOf h x=xL l x:=by
 cases x<;>try rfl
 rename_i b;simp only[bV.mapOf,xL,r.f,k2];cases l[b]? with
 | none=>rfl
 | some c=>cases c<;>rfl
theorem eL.bytes (r:eL h l) (x:U) :tk h x=pC l x:=by
 cases x<;>simp only[tk,pC,r.contents]<;>rfl
theorem amz {x:Option U} {v:U} (ag:h0 h x=some (v,h')) :x=some v/\h'=h:=by
 cases x with
 | none=>cases ag
 | some y=>cases ag; exact⟨rfl,rfl⟩
theorem z4 (r:eL h l) {x y:Option U} {v:U} (mr:x=y) (ag:h0 h x=some (v,h')) :∃ l',dQ l y=some (v,l')/\eL h' l':=by
 obtain⟨rfl,rfl⟩:=amz ag;exact⟨l,by rw[<-mr]; rfl,r⟩
theorem Rf (r:eL h l) {z by_ n:Nat} {s v:U} {xs:List U} (ag:Hf h z by_ s xs n=some (v,h')) :∃ l',ja l z by_ s xs n=some (v,l')/\eL h' l':=by
 unfold Hf at ag;unfold ja;by_cases aC:n=0
 ·rw[if_pos aC] at ag ⊢;cases s<;>simp at ag ⊢<;>(obtain⟨rfl,rfl⟩:=ag; exact⟨l,⟨rfl,rfl⟩,r⟩)
 ·rw[if_neg aC] at ag ⊢;by_cases aJ:z=0\/by_=0
  ·rw[if_pos aJ] at ag; cases ag
  ·rw[if_neg aJ] at ag ⊢;cases s<;>simp only at ag ⊢<;>try (cases ag; done)
   case aG=>
    by_cases az:n*by_<=ci
    ·rw[if_pos az] at ag ⊢; cases ag; exact⟨_,by rw[r.n],r.push _⟩
    ·rw[if_neg az] at ag; cases ag
   case aq dI b off len cap sz=>
    cases af:h.f b<;>rw[af] at ag<;>(try simp only at ag)<;>try (cases ag; done)
    rename_i m cs;have al:=r.some af (by simp);rw[al];simp only;by_cases ad:m=sz/\z=dI/\(len+n)*by_<=ci
    ·rw[if_pos ad] at ag ⊢;by_cases ae:len+n<=cap
     ·rw[if_pos ae] at ag ⊢; cases ag; exact⟨_,rfl,r.set al _⟩
     ·rw[if_neg ae] at ag ⊢;by_cases aj:off+cap*z<sz
      ·rw[if_pos aj] at ag ⊢; cases ag; exact⟨_,by rw[r.n],r.push _⟩
      ·rw[if_neg aj] at ag ⊢;by_cases aD:off=0
       ·rw[if_pos aD] at ag ⊢; cases ag; exact⟨_,rfl,r.set al _⟩
       ·rw[if_neg aD] at ag ⊢; cases ag; exact⟨_,by rw[r.n],(r.set al _).push _⟩
    ·rw[if_neg ad] at ag; cases ag
theorem ON (r:eL h l) {aB:Operand->U} {m:db} {v:U} (ag:FM P aB h m=some (v,h')) :∃ l',bU P aB l m=some (v,l')/\eL h' l':=by
 cases m<;>simp only[FM] at ag<;>simp only[bU]
 case fX=>cases ag; exact⟨l,rfl,r⟩
 case alloc=>cases ag; exact⟨_,by rw[r.n],r.push _⟩
 case box x=>
  cases ah:(aB x).cells with
  | none=>rw[ah] at ag; cases ag
  | some cs=>rw[ah] at ag; cases ag; exact⟨_,by simp only[Option.map_some,r.n],r.push _⟩
 case rX z zero n ps=>
  split at ag
  ·rename_i cs ah; cases ag; exact⟨_,by rw[ah]; simp only[Option.map_some,r.n],r.push _⟩
  ·cases ag
 case ot a=>
  rw[r.reach] at ag;refine z4 r ?_ ag;cases hj l (aB a)<;>rfl
 case mz n a=>
  rw[r.reach] at ag;refine z4 r ?_ ag;cases hj l (aB a)<;>rfl
 case st n a x=>
  unfold aar at ag;unfold mD;cases aE:aB a<;>rw[aE] at ag<;>(try simp only at ag)<;>try (cases ag; done)
  rename_i b off sz;cases ah:(aB x).cells with
  | none=>rw[ah] at ag; cases ag
  | some vs=>
   rw[ah] at ag;simp only at ag ⊢;cases af:h.f b<;>rw[af] at ag<;>(try simp only at ag)<;>try (cases ag; done)
   rename_i m cs;have al:=r.some af (by simp);rw[al];simp only;by_cases ad:m=sz/\vs.length=n/\off+n<=m
   ·rw[if_pos ad] at ag ⊢; cases ag; exact⟨_,rfl,r.set al _⟩
   ·rw[if_neg ad] at ag; cases ag
 case z1=>cases ag; exact⟨l,rfl,r⟩
 case z0=>cases ag; exact⟨l,rfl,r⟩
 case sC z by_ zero a c=>
  unfold Yf at ag;unfold sD;cases aE:aB a<;>rw[aE] at ag<;>(try simp only at ag)<;>try (cases ag; done)
  cases ah:aB c<;>rw[ah] at ag<;>(try simp only at ag)<;>try (cases ag; done)
  simp only;split at ag
  ·rename_i ad; rw[if_pos ad]; cases ag; exact⟨_,by rw[r.n],r.push _⟩
  ·cases ag
 case uP x=>
  refine z4 r ?_ ag;unfold Tm wK;cases aB x<;>simp only[r.contents]<;>rfl
 case app z by_ s x=>
  unfold Ra at ag;unfold gK;rw[r.contents] at ag;split at ag
  ·cases ag
  ·rename_i xs n ah; rw[ah]; exact Rf r ag
 case wy z by_ zero s x=>
  unfold Rc at ag;unfold rV;cases ah:aB x<;>rw[ah] at ag<;>(try simp only at ag)<;>try (cases ag; done)
  simp only;split at ag
  ·rename_i ad; rw[if_pos ad]; exact Rf r ag
  ·cases ag
 case wX z d x=>
  unfold TP at ag;unfold A5;rw[r.contents] at ag;split at ag
  ·cases ag
  ·rename_i xs n ah;rw[ah];simp only;cases bg:aB d<;>rw[bg] at ag<;>(try simp only at ag)<;>try (cases ag; done)
   ·cases ag; exact⟨l,rfl,r⟩
   ·rename_i dI b off len cap sz;cases af:h.f b<;>rw[af] at ag<;>(try simp only at ag)<;>try (cases ag; done)
    rename_i m cs;have al:=r.some af (by simp);simp only[al];split at ag
    ·rename_i ad; rw[if_pos ad]; cases ag; exact⟨_,rfl,r.set al _⟩
    ·cases ag
 case wP zero x=>
  unfold Tu at ag;unfold wO;cases bg:aB x<;>rw[bg] at ag<;>(try simp only at ag)<;>try (cases ag; done)
  ·cases ag; exact⟨l,rfl,r⟩
  ·rename_i z b off len cap sz;simp only;by_cases aJ:len=0
   ·rw[if_pos aJ] at ag ⊢; cases ag; exact⟨l,rfl,r⟩
   ·rw[if_neg aJ] at ag ⊢;cases af:h.f b<;>rw[af] at ag<;>(try simp only at ag)<;>try (cases ag; done)
    rename_i m cs;have al:=r.some af (by simp);rw[al];simp only;by_cases ad:m=sz/\zero.length=z
    ·rw[if_pos ad] at ag ⊢; cases ag; exact⟨_,rfl,r.set al _⟩
    ·rw[if_neg ad] at ag; cases ag
  ·rename_i z es;cases es<;>simp only at ag
   ·cases ag; exact⟨l,rfl,r⟩
   ·cases ag
 case vU x=>
  cases x with
  | none=>cases ag; exact⟨_,by rw[r.n],r.push _⟩
  | some o=>
   simp only at ag ⊢;split at ag
   ·rename_i n aC; rw[aC]; cases ag; exact⟨_,by simp only[r.n],r.push _⟩
   ·cases ag
 case zV cS zero ok m k=>
  refine z4 r ?_ ag;unfold X0 Ck;rw[r.mapOf];split
  ·rename_i es mj; rw[mj]; rfl
  ·rename_i mj; rw[mj]
 case xP cS m k x=>
  unfold X6 at ag;unfold xM;cases hm:aB m<;>rw[hm] at ag<;>(try simp only at ag)<;>try (cases ag; done)
  rename_i b;simp only;cases af:h.f b<;>rw[af] at ag<;>(try simp only at ag)<;>try (cases ag; done)
  rename_i es fq;have al:=r.some af (by simp);rw[al];simp only;cases ar:mx P cS (aB k)<;>rw[ar] at ag<;>simp only at ag
  ·cases ag
  ·simp only;cases aF:lJ P cS (aB k) es 0 with
   | none=>rw[aF] at ag; cases ag
   | some q=>
    rw[aF] at ag;cases q with
    | none=>cases ag; exact⟨_,rfl,r.set al _⟩
    | some xD=>cases ag; exact⟨_,rfl,r.set al _⟩
 case xH x=>
  refine z4 r ?_ ag;unfold XT FH;cases aB x<;>try rfl
  rename_i b;simp only[r.f,k2];cases l[b]? with
  | none=>rfl
  | some c=>cases c<;>rfl
 case x6 x=>
  unfold Zt at ag;unfold CC;cases bg:aB x<;>rw[bg] at ag<;>(try simp only at ag)<;>try (cases ag; done)
  cases ag; exact⟨_,by simp only[r.n],r.push _⟩
 case xT x=>
  unfold Co at ag;unfold vV;cases bg:aB x<;>rw[bg] at ag<;>(try simp only at ag)<;>try (cases ag; done)
  rename_i b;simp only;cases af:h.f b<;>rw[af] at ag<;>(try simp only at ag)<;>try (cases ag; done)
  have al:=r.some af (by simp);rw[al];simp only;split at ag
  ·rename_i ad; rw[ad]; cases ag; exact⟨_,rfl,r.set al _⟩
  ·rename_i ad; rw[ad]; cases ag; exact⟨_,rfl,r⟩
 case stop=>cases ag
 case cj f tt x y=>
  split at ag
  ·rename_i ad;rw[ad];refine z4 r ?_ ag;unfold TF cmpL;rw[r.bytes,r.bytes];cases pC l (aB x)<;>cases pC l (aB y)<;>rfl
  ·cases ag
 all_goals exact z4 r rfl ag
theorem uj {f:U->Option U}:∀ {cs cs' : List U},qf f cs=some cs'->cs'.length=cs.length
 | [],cs',h=>by cases h; rfl
 | c::cs,cs',h=>by
  unfold qf at h;split at h
  ·split at h
   ·rename_i ad; cases h; simp[uj ad]
   ·cases h
  ·cases h
theorem ui {f:U->Option U}:∀ {cs cs' : List U},qf f cs=some cs'->∀ (j:Nat) (c c' : U),cs[j]? = some c->cs'[j]? = some c'->f c=some c'
 | [],cs',h,j,c,c',ah,_=>by simp at ah
 | c::cs,cs',h,j,d,A8,bg,vg=>by
  unfold qf at h;split at h
  ·rename_i x ag;split at h
   ·rename_i ad;cases h;cases j with
    | zero=>simp at bg vg; subst bg vg; exact ag
    | succ j=>exact ui ad j d A8 (by simpa using bg) (by simpa using vg)
   ·cases h
  ·cases h
theorem CD:∀ (d:Nat) (c c' : U),v4 h d c=some c'->gJ h c c'
 | 0,c,c',ag=>by cases ag
 | d+1,c,c',ag=>by
  unfold v4 at ag;split at ag
  ·split at ag
   ·rename_i ad; cases ag;exact .aH _ _ (uj ad) (fun j c c' ah cP=>CD d c c' (ui ad j c c' ah cP))
   ·cases ag
  ·split at ag
   ·rename_i ad; cases ag;exact .bq _ _ (uj ad) (fun j c c' ah cP=>CD d c c' (ui ad j c c' ah cP))
   ·cases ag
  ·rename_i z b off len cap sz;split at ag
   ·rename_i aJ;cases ag;rw[Nat.eq_of_beq_eq_true aJ];exact .sV z b off cap sz
   ·split at ag
    ·rename_i n cs af;split at ag
     ·rename_i cM;simp only[Bool.and_eq_true] at cM;have aC:=Nat.eq_of_beq_eq_true cM.1;have dN:=Nat.le_of_ble_eq_true cM.2;subst aC;split at ag
      ·rename_i xs ad;cases ag;have bp:=uj ad;simp only[List.length_take,List.length_drop] at bp;have aiL:xs.length=len*z:=by omega
       have fc:∀ (i:Nat),i<len->(mJ z len xs)[i]? = some ((xs.drop (i*z)).take z) :=fun i ay=>Hy len xs i ay
       have eA:∀ i,i<len->i*z+z<=len*z:=fun i ay=>by rw[<-Nat.succ_mul]; exact Nat.mul_le_mul_right _ ay
       refine .aq z b off len cap n cs _ af (wM _ _) (fun e am=>?_) dN (fun i j e c c' am ai ah=>?_)
       ·obtain⟨i,ay⟩:=List.mem_iff_getElem?.1 am;have ec:i<len:=by
         have:=(List.getElem?_eq_some_iff.1 ay).1;rw[wM] at this; exact this
        rw[fc i ec] at ay;cases ay;have:=eA i ec;simp; omega
       ·have ec:i<len:=by
         have:=(List.getElem?_eq_some_iff.1 am).1;rw[wM] at this; exact this
        rw[fc i ec] at am;cases am;have BH:=eA i ec;have nu:j<z:=by have:=(List.getElem?_eq_some_iff.1 ai).1; simp at this; omega
        rw[List.getElem?_take_of_lt nu,List.getElem?_drop] at ai;refine CD d c c' (ui ad (i*z+j) c c' ?_ ai);rw[List.getElem?_take_of_lt (by omega),List.getElem?_drop];exact ah
      ·cases ag
     ·cases ag
    ·cases ag
  ·rename_i b off sz;split at ag
   ·rename_i n cs af;split at ag
    ·rename_i aC;split at ag
     ·rename_i ad;cases ag;rw[<-Nat.eq_of_beq_eq_true aC];exact .ptr b off n cs _ af (uj ad) (fun j c c' ah cP=>CD d c c' (ui ad j c c' ah cP))
     ·cases ag
    ·cases ag
   ·cases ag
  ·split at ag
   ·rename_i ah; cases ag; exact .same _ ah
   ·cases ag
theorem gJ.rep (r:eL h l) {c c' : U} (az:gJ h c c') :gJ (bb l) c c':=by
 induction az with
 | same c ah=>exact .same c ah
 | aH cs cs' al ao aR=>exact .aH cs cs' al aR
 | bq cs cs' al ao aR=>exact .bq cs cs' al aR
 | aq z b off len cap sz cs es af al aw c7 ao aR=>exact .aq z b off len cap sz cs es (by rw[<-r.f]; exact af) al aw c7 aR
 | sV z b off cap sz=>exact .sV z b off cap sz
 | ptr b off sz cs cs' af al ao aR=>exact .ptr b off sz cs cs' (by rw[<-r.f]; exact af) al aR
def C6 (P:Program) (G:Nat->U) (call:pw) :Prop:=
 ∀ (f:FuncId) (args:List U) (h:aO) (v:U) (h' : aO) (l:ap),eL h l->call f args h=some (v,h')->∃ l',eL h' l'/\∀ K:U->ap->Prop,K v l'->c5 P G f args l (c:=⟨K⟩)
theorem ajV {m:db} {v:U} {l:ap} {K:U->ap->Prop} (ar:K v l) :eC m v l K:=by
 cases m<;>first | exact ar | exact .inl ar
theorem Rt {call:pw} (ah:C6 P G call) (r:eL h l) {b:rH} {s:hG} {v:U} (ag:Dm P G call b s h=some (v,h')) :
  ∃ l',eL h' l'/\(∀ K:U->ap->Prop,K v l'->iE P G b (look s) l K)/\(∀ m,b=.gR m->bU P (c2 G (look s)) l m=some (v,l')) :=by
 cases b with
 | gR m=>
  obtain⟨l',ad,ae⟩:=ON r ag;refine⟨l',ae,fun K aY=>?_,fun ct hm=>by cases hm; exact ad⟩;show W (bU P (c2 G (look s)) l m) (c:=⟨fun x=>eC m x.1 x.2 K⟩);rw[AL];exact⟨_,ad,ajV aY⟩
 | nb f args=>
  obtain⟨l',ad,ae⟩:=ah f _ h v h' l r ag;exact⟨l',ad,ae,fun m hm=>by cases hm⟩
 | nd x args=>
  simp only[Dm] at ag;cases aF:c2 G (look s) x<;>rw[aF] at ag<;>(try simp only at ag)<;>try (cases ag; done)
  rename_i g first gL
  split at ag
  ·rename_i iR;obtain⟨l',ad,ae⟩:=ah g _ h v h' l r ag;refine⟨l',ad,fun K aY=>?_,fun m hm=>by cases hm⟩;show wI P G (c2 G (look s) x) _ l (c:=⟨K⟩);unfold wI;rw[aF];exact⟨iR,ae K aY⟩
  ·cases ag
 | oV x name args=>
  simp only[Dm] at ag;cases aF:c2 G (look s) x<;>rw[aF] at ag<;>(try simp only at ag)<;>try (cases ag; done)
  rename_i t v0;split at ag
  ·rename_i g hm;split at ag
   ·rename_i iR;obtain⟨l',ad,ae⟩:=ah g _ h v h' l r ag;refine⟨l',ad,fun K aY=>?_,fun m hm=>by cases hm⟩;show wH P G name (c2 G (look s) x) _ l (c:=⟨K⟩);unfold wH;rw[aF];simp only[hm];exact⟨iR,ae K aY⟩
   ·cases ag
  ·cases ag
theorem HU {s:hG} {g:Option (Option Tmp × Bool)} {b:Bool} (ax:HT s g=some b) {p q:Prop} (ar:if b then p else q) :rh (look s) g p q:=by
 unfold HT at ax;unfold rh;split at ax
 ·cases ax; exact ar
 ·rename_i d w;simp only[sv];split at ax
  ·rename_i x ag;simp only[ag];cases ax;unfold sw;cases aiM:(x == w)<;>rw[aiM] at ar<;>simpa using ar
  ·cases ax
  ·rename_i ad ae;cases ax;cases ag:look s d<;>first | exact (by simpa using ar) | (exact absurd ag (ad _)) | (exact absurd ag ae)
 ·cases ax; simpa using ar
theorem PK {call:pw} (ah:C6 P G call) :∀ (x:List dp) (s:hG) (h:aO) (l:ap) (ff:hG) (h' : aO),eL h l->Gi P G call x s h=some (ff,h')->
  ∃ l',eL h' l'/\∀ K:bc->ap->Prop,K (look ff) l'->jp P G x (look s) l K
 | [],s,h,l,ff,h',r,ag=>by cases ag; exact⟨l,r,fun K aY=>aY⟩
 | x::xs,s,h,l,ff,h',r,ag=>by
  unfold Gi at ag;split at ag
  ·rename_i ax;split at ag
   ·rename_i v ad af;obtain⟨l1,da,ae,_⟩:=Rt ah r af;obtain⟨l',r',aj⟩:=PK ah xs _ ad l1 ff h' da ag;refine⟨l',r',fun K aY=>?_⟩;unfold jp;refine HU ax ?_;simp only[if_true];refine ae _ ?_;rw[<-Jw];exact aj K aY
   ·cases ag
  ·rename_i ax;obtain⟨l',r',aj⟩:=PK ah xs _ h l ff h' r ag;refine⟨l',r',fun K aY=>?_⟩;unfold jp;refine HU ax ?_;simp only[Bool.false_eq_true,if_false];rw[<-Jw];exact aj K aY
  ·cases ag
theorem aV.beq_eq {a b:aV} (h:aV.beq a b=true) :a=b:=by
 cases a<;>cases b<;>simp[aV.beq] at h
 ·rfl
 ·rfl
 ·obtain⟨ad,ae⟩:=h;rw[ad,uN ae]
theorem aoO {b:rH} {s:hG} {v:U} {ad:aO} {l' l1:ap} (r:eL h l) (r' : eL h' l') (da:eL ad l1) (ag:Kt P G b s v h h' ad=true) (bA:∀ m,b=.gR m->m.jC=true->∃ n cs,l'=l++[.cells n cs]) :mB P G b (look s) v l l' l1:=by
 unfold Kt at ag;unfold mB;split at ag
 ·rename_i m;simp only;cases aC:m.jC with
  | true=>
   rw[aC] at ag;simp only at ag ⊢;have am:=aV.beq_eq ag;obtain⟨n,cs,rfl⟩:=bA m rfl aC;rw[r.n] at am;have ae:h'.f l.length=(bb (l++[.cells n cs])).f l.length:=r'.f _;rw[k2] at ae;simp only[List.getElem?_append_right (Nat.le_refl _),Nat.sub_self,List.getElem?_cons_zero] at ae ⊢;exact da.some (am.trans ae) (by simp)
  | false=>
   rw[aC] at ag;simp only at ag ⊢;split at ag
   ·rename_i vo;split at ag
    ·rename_i v' ae hm;obtain⟨br,aj,_⟩:=ON da hm;rw[U.beq_eq ag] at aj;rw[XZ vo aj] at aj;exact aj
    ·cases ag
   ·cases ag
 ·rename_i af;split
  ·rename_i m; exact absurd rfl (af m)
  ·trivial
inductive AJ (P:Program) (G:Nat->U) :List (Nat × (aO->Bool))->i8->Prop
 | nil:AJ P G [] []
 | cons {i p q r r'}:(∀ h l,eL h l->p h=true->q l)->AJ P G r r'->AJ P G ((i,p) ::r) ((i,q) ::r')
theorem Tr (r:eL h l) {ids:List Nat}:∀ {a:List (Nat × (aO->Bool))} {b:i8},AJ P G a b->Hw ids h a=true->qG ids b l
 | _,_,.nil,_=>trivial
 | _,_,.cons au az,ag=>by
  unfold Hw at ag;simp only[Bool.and_eq_true,Bool.or_eq_true,Bool.not_eq_true'] at ag;unfold qG;refine⟨fun ay=>?_,Tr r az ag.2⟩;rcases ag.1 with ad | ad
  ·rw[ay] at ad; cases ad
  ·exact au h l r ad
theorem ajw {aB:Operand->U} {l l' : ap} {m:db} {v:U} (aC:m.jC=true) (hm:bU P aB l m=some (v,l')) :∃ n cs,l'=l++[.cells n cs] :=by
 cases m<;>simp only[db.jC,Bool.false_eq_true,reduceCtorEq] at aC<;>simp only[bU,map_some,Option.some.injEq,Prod.mk.injEq] at hm
 case alloc=>obtain⟨_,rfl⟩:=hm; exact⟨_,_,rfl⟩
 case box=>obtain⟨_,_,_,rfl⟩:=hm; exact⟨_,_,rfl⟩
 case rX=>obtain⟨_,_,_,rfl⟩:=hm; exact⟨_,_,rfl⟩
 case sC=>
  unfold sD at hm
  repeat' split at hm
  all_goals first | (cases hm; done) | (cases hm; exact⟨_,_,rfl⟩)
theorem PH {call:pw} (ah:C6 P G call) :∀ (x:List dp) (s:hG) (h:aO) (l:ap) (ff:hG) (h' : aO) (a:List (Nat × (aO->Bool))) (b:i8),eL h l->AJ P G a b->Gh P G call x s h a=some (ff,h')->
  ∃ l',eL h' l'/\∀ K:bc->ap->Prop,K (look ff) l'->ky P G x (look s) l b K
 | [],s,h,l,ff,h',a,b,r,ak,ag=>by cases ag; exact⟨l,r,fun K aY=>aY⟩
 | x::xs,s,h,l,ff,h',a,b,r,ak,ag=>by
  unfold Gh at ag;split at ag
  ·rename_i ax;split at ag
   ·rename_i v ad af;obtain⟨l1,da,ae,EV⟩:=Rt ah r af;split at ag
    ·rename_i fc;have pX:AJ P G (match x.b1 with | true=>(x.i,Kt P G x.b s v h ad) ::a | false=>a) (sT x.b1 x.i (mB P G x.b (look s) v l l1) b) :=by
      cases x.b1 with
      | false=>exact ak
      | true=>
       refine .cons (fun ae br dj au=>aoO r da dj au (fun m hm aC=>ajw aC (EV m hm))) ak
     obtain⟨l',r',aj⟩:=PH ah xs _ ad l1 ff h' _ _ da pX ag;refine⟨l',r',fun K aY=>?_⟩;unfold ky;refine HU ax ?_;simp only[if_true];refine ae _ ⟨Tr da ak fc,?_⟩;rw[<-Jw];exact aj K aY
    ·cases ag
   ·cases ag
  ·rename_i ax;obtain⟨l',r',aj⟩:=PH ah xs _ h l ff h' a b r ak ag;refine⟨l',r',fun K aY=>?_⟩;unfold ky;refine HU ax ?_;simp only[Bool.false_eq_true,if_false];rw[<-Jw];exact aj K aY
  ·cases ag
theorem LA {call:pw} (ah:C6 P G call) :∀ (fuel:Nat) (c:fM) (s:hG) (h:aO) (l:ap) (e:s4) (ff:hG) (h' : aO),eL h l->Hu P G call fuel c s h=some (e,ff,h')->
  ∃ l',eL h' l'/\∀ K:hF,K e (look ff) l'->run P G c (look s) l K
 | 0,c,s,h,l,e,ff,h',r,ag=>by cases ag
 | k+1,c,s,h,l,e,ff,h',r,ag=>by
  have aR:=LA ah k;unfold Hu Tn at ag;cases c with
  | skip=>cases ag; exact⟨l,r,fun K aY=>aY⟩
  | ret=>cases ag; exact⟨l,r,fun K aY=>aY⟩
  | exit id=>cases ag; exact⟨l,r,fun K aY=>aY⟩
  | l3 x=>
   simp only at ag;split at ag
   ·rename_i c0 ad az;cases ag;obtain⟨l',r',ae⟩:=PK ah x s h l ff h' r az;exact⟨l',r',fun K aY=>ae _ aY⟩
   ·cases ag
  | yW x=>
   simp only at ag;split at ag
   ·rename_i c0 ad az;cases ag;obtain⟨l',r',ae⟩:=PH ah x s h l ff h' [] [] r .nil az;exact⟨l',r',fun K aY=>ae _ aY⟩
   ·cases ag
  | seq a b=>
   simp only at ag;split at ag
   ·rename_i c0 ad aE;obtain⟨l1,da,ae⟩:=aR a s h l _ c0 ad r aE;obtain⟨l',r',aj⟩:=aR b c0 ad l1 e ff h' da ag;refine⟨l',r',fun K aY=>?_⟩;unfold run;exact ae _ (aj K aY)
   ·rename_i bY;obtain⟨l',r',ae⟩:=aR a s h l e ff h' r ag;refine⟨l',r',fun K aY=>?_⟩;unfold run;refine ae _ ?_;unfold pk;cases e with
    | normal=>exact absurd ag (bY _ _)
    | exit id=>exact aY
    | ret=>exact aY
  | cond c x y=>
   simp only at ag;split at ag
   ·rename_i lf;obtain⟨l',r',ae⟩:=aR x s h l e ff h' r ag;refine⟨l',r',fun K aY=>?_⟩;unfold run zR;rw[lf];exact ae K aY
   ·rename_i lf;obtain⟨l',r',ae⟩:=aR y s h l e ff h' r ag;refine⟨l',r',fun K aY=>?_⟩;unfold run zR;rw[lf];exact ae K aY
   ·cases ag
  | block id c=>
   simp only at ag;split at ag
   ·rename_i tS c0 ad aE;obtain⟨l',r',ae⟩:=aR c s h l _ c0 ad r aE;split at ag
    ·rename_i kN;cases ag;refine⟨l',r',fun K aY=>?_⟩;unfold run;refine ae _ ?_;unfold su;simp only;rw[kN];exact aY
    ·rename_i kN;cases ag;refine⟨l',r',fun K aY=>?_⟩;unfold run;refine ae _ ?_;unfold su;simp only;rw[kN];exact aY
   ·rename_i bY;obtain⟨l',r',ae⟩:=aR c s h l e ff h' r ag;refine⟨l',r',fun K aY=>?_⟩;unfold run;refine ae _ ?_;unfold su;cases e with
    | normal=>exact aY
    | exit id=>exact absurd ag (bY _ _ _)
    | ret=>exact aY
  | loop c=>
   simp only at ag;split at ag
   ·rename_i c0 ad aE;obtain⟨l1,da,ae⟩:=aR c s h l _ c0 ad r aE;obtain⟨l',r',aj⟩:=aR (.loop c) c0 ad l1 e ff h' da ag;refine⟨l',r',fun K aY=>?_⟩;have aD:=aj K aY;unfold run at aD ⊢;obtain⟨n,aC⟩:=aD;exact⟨n+1,ae _ aC⟩
   ·rename_i bY;obtain⟨l',r',ae⟩:=aR c s h l e ff h' r ag;refine⟨l',r',fun K aY=>?_⟩;unfold run;refine⟨1,ae _ ?_⟩;unfold pk;cases e with
    | normal=>exact absurd ag (bY _ _)
    | exit id=>exact aY
    | ret=>exact aY
def Da (P:Program) (G:Nat->U) (orc:rM) :Prop:=∀ f n g args r,orc f=some (n,g)->g args=some r->bw P G f args r/\(n=true->gI P G f args r)
def Df (P:Program) (l4:wq) :Prop:=∀ f c oD,l4 f=some (c,oD)->wS P f=some c/\wT P f=some oD
theorem PC (r:eL h l) {s:hG}:∀ {ms:List db} {acc:List U} {v:U},Ge P G s h ms acc=some v->∀ K:U->ap->Prop,K v l->pj P G K (look s) l ms acc
 | [],acc,v,ag,K,aY=>by cases ag; exact aY
 | m::ms,acc,v,ag,K,aY=>by
  unfold Ge at ag;split at ag
  ·rename_i x ad hm;obtain⟨l1,ae,_⟩:=ON r hm;unfold pj;rw[AL];exact⟨_,ae,PC r ag K aY⟩
  ·cases ag
theorem XW (args:List U) :look (Cs 0 .nil args)=l8 args:=by
 rw[XX];funext t;unfold l8;by_cases aX:t<args.length
 ·rw[if_pos ⟨Nat.zero_le _,by omega⟩]; rfl
 ·rw[if_neg (by omega)];rw[List.getD_eq_getElem?_getD,List.getElem?_eq_none (by omega)]; rfl
theorem acu {orc:rM} (av:Da P G orc) {f:FuncId} {args:List U} {h:aO} {l:ap} {v:U} (r:eL h l) (ag:Lf orc f args h=some v) (K:U->ap->Prop) (aY:K v l) :c5 P G f args l (c:=⟨K⟩) :=by
 unfold Lf at ag;split at ag
 ·rename_i n g ax;split at ag
  ·rename_i jb aE;split at ag
   ·rename_i v' ao;split at ag
    ·rename_i aF;cases ag;obtain⟨jo,hB⟩:=av f n g jb v ax ao;cases n with
     | true=>exact⟨v,l,.Po (hB rfl) (uj aE) (fun j c c' ah cP=>(CD 20 c c' (ui aE j c c' ah cP)).rep r),Nat.le_refl _,aY⟩
     | false=>exact⟨v,l,.Pn jo (uj aE) (fun j c c' ah cP=>(CD 20 c c' (ui aE j c c' ah cP)).rep r) aF,Nat.le_refl _,aY⟩
    ·cases ag
   ·cases ag
  ·cases ag
 ·cases ag
theorem ajf (r:eL h l) {z by_ i io:Nat} {s v:U} {vs:List U} (ag:Fm z by_ h s i io vs=some (v,h')) :∃ l',eL h' l'/\Fm z by_ (bb l) s i io vs=some (v,bb l')/\l.length<=l'.length:=by
 unfold Fm at ag ⊢;cases s<;>simp only at ag<;>try (cases ag; done)
 case aG=>
  split at ag
  ·rename_i ah;cases ag;refine⟨_,r.push _,?_,by simp⟩;simp only;rw[if_pos ah,oN,GZ,r.n]
  ·cases ag
 case aq g1 b off len cap sz=>
  simp only;rw[<-r.f b];cases af:h.f b<;>rw[af] at ag<;>(try simp only at ag)<;>try (cases ag; done)
  simp only;split at ag
  ·rename_i ah;rw[if_pos ah];cases ag;have al:=r.some af (by simp);refine⟨_,(r.set al _).push _,?_,by simp⟩;rw[qu _ (cd al),oN,GZ,r.n]
  ·cases ag
theorem ajc (r:eL h l) {z by_:Nat} {args:List U} {v:U} (ag:tT z by_ args h=some (v,h')) :∃ l',eL h' l'/\tT z by_ args (bb l)=some (v,bb l')/\l.length<=l'.length:=by
 unfold tT at ag ⊢;split at ag
 ·rename_i s x y;split at ag
  ·rename_i i gy io hB br b7 iC vG;rw[<-r.f io];split at ag
   ·rename_i eR vs lP
    try rw[lP]
    try simp only
    split at ag
    ·rename_i ah
     try rw[if_pos ah]
     exact ajf r ag
    ·cases ag
   ·cases ag
  ·cases ag
 ·cases ag
theorem Ly [rK P G] {orc:rM} {l4:wq} (av:Da P G orc) (aX:Df P l4) (fuel:Nat) :∀ k,C6 P G (Dw P G orc l4 fuel k)
 | 0=>fun f args h v h' l r ag=>by cases ag
 | k+1=>fun f args h v h' l r ag=>by
  have aR:=Ly av aX fuel k;unfold Dw Tk at ag;split at ag
  ·rename_i z by_ ax;obtain⟨l',r',ad,ae⟩:=ajc r ag;exact⟨l',r',fun K aY=>⟨v,l',.ext (rK.ok f z by_ ax args (bb l) v (bb l') ad),ae,aY⟩⟩
  split at ag
  ·rename_i v' ao;cases ag;exact⟨l,r,fun K aY=>acu av r ao K aY⟩
  ·split at ag
   ·cases ag
   ·rename_i c oD aiB;obtain⟨mf,mP⟩:=aX f c oD aiB;split at ag
    ·rename_i c0 ad fV;obtain⟨l1,da,ae⟩:=LA aR fuel c _ h l _ c0 ad r fV;split at ag
     ·rename_i v' vz;cases ag;refine⟨l1,da,fun K aY=>Hs mf mP ?_⟩;rw[<-XW];exact ae _ (PC da vz K aY)
     ·cases ag
    ·rename_i c0 ad fV;obtain⟨l1,da,ae⟩:=LA aR fuel c _ h l _ c0 ad r fV;split at ag
     ·rename_i v' vz;cases ag;refine⟨l1,da,fun K aY=>Hs mf mP ?_⟩;rw[<-XW];exact ae _ (PC da vz K aY)
     ·cases ag
    ·cases ag
end
def ZZ (P:Program) (G:Nat->U) [rK P G] (orc:rM) (l4:wq) (fuel k:Nat) (f:FuncId) (args:List U) (r:U) :Bool:=
 match Dw P G orc l4 fuel k f args aO.empty with
 | some (v,h)=>match v4 h 20 v with
  | some v'=>U.beq v' r
  | none=>false
 | none=>false
theorem adc {P:Program} {G:Nat->U} [rK P G] {orc:rM} {l4:wq} (av:Da P G orc) (aX:Df P l4) {fuel k:Nat} {f:FuncId} {args:List U} {b:Bool} (ag:ZZ P G orc l4 fuel k f args (.bool b)=true) :
  c5 P G f args [] (c:=⟨fun r _=>r=.bool b⟩) :=by
 unfold ZZ at ag;split at ag
 ·rename_i v h ah;split at ag
  ·rename_i v' ao;obtain⟨l',_,ae⟩:=Ly av aX fuel k f args aO.empty v h [] eL.nil ah;refine ae _ ?_;have:=U.beq_eq ag;subst this;unfold v4 at ao
   repeat' split at ao
   all_goals first | (cases ao; done) | (cases ao; rfl)
  ·cases ag
 ·cases ag
abbrev du (t:Nat) :Operand:=.tmp t
def rep (n:Nat) (c:U) :List U:=List.replicate n c
abbrev nL (i d x:Nat) :dp:=⟨i,some d,none,.gR (.fX (.tmp x)),[],false⟩
abbrev fS (i d:Nat) (m:db) :dp:=⟨i,some d,none,.gR m,[],false⟩
abbrev Gm (i:Nat) (m:db) :dp:=⟨i,none,none,.gR m,[],false⟩
abbrev sc (i d:Nat) (f:FuncId) (args:List Operand) :dp:=⟨i,some d,none,.nb f args,[],false⟩
abbrev CM (i d j:Nat) (w:Bool) (m:db) :dp:=⟨i,some d,some (some j,w),.gR m,[],false⟩
@[simp] theorem avS (n:Nat) (c:U) :(rep n c).length=n:=by simp[rep]
def qr {α:Type} (p:Nat->α->Prop) :cE α->Prop
 | .nil=>True
 | .node l v r=>(∀ x,v=some x->p 0 x)/\qr (fun m=>p (2*m+1)) l/\qr (fun m=>p (2*m+2)) r
theorem Lb {α:Type}:∀ (t:cE α) (p:Nat->α->Prop),qr p t->∀ n x,t.get n=some x->p n x
 | .nil,p,h,n,x,ag=>by cases ag
 | .node l v r,p,h,n,x,ag=>by
  obtain⟨ad,ae,aj⟩:=h;unfold cE.get at ag;by_cases aJ:n=0
  ·subst aJ; exact ad x ag
  ·rw[kt aJ] at ag;simp only at ag;by_cases av:n % 2=1
   ·rw[ua av] at ag;have:=Lb l _ ae _ x ag;rw[show 2*(n / 2)+1=n by omega] at this; exact this
   ·rw[kt av] at ag;have:=Lb r _ aj _ x ag;rw[show 2*(n / 2 - 1)+2=n by omega] at this; exact this
theorem bI {α:Type} {p:Nat->α->Prop}:qr p .nil:=trivial
theorem fy {α:Type} {p:Nat->α->Prop} {l r:cE α} (ad:qr (fun m=>p (2*m+1)) l) (ae:qr (fun m=>p (2*m+2)) r) :qr p (.node l none r) :=⟨fun x h=>(by cases h),ad,ae⟩
theorem cw {α:Type} {p:Nat->α->Prop} {l r:cE α} {x:α} (ag:p 0 x) (ad:qr (fun m=>p (2*m+1)) l) (ae:qr (fun m=>p (2*m+2)) r) :qr p (.node l (some x) r) :=⟨fun y h=>(by cases h; exact ag),ad,ae⟩
abbrev G5 (P:Program) (f:Nat) (x:fM × List db) :Prop:=wS P f=some x.1/\wT P f=some x.2
theorem ao6 {P:Program} {t:cE (fM × List db)} (h:qr (G5 P) t) :Df P (fun f=>t.get f) :=fun f c oD ag=>Lb t _ h f (c,oD) ag
def u {w:Nat} (a:BitVec w) :Int:=(a.toNat:Int)
@[simp] theorem mZ {w:Nat} (a:BitVec w) :BitVec.ofInt w (u a)=a:=by
 unfold u;rw[BitVec.ofInt_natCast,BitVec.ofNat_toNat,BitVec.setWidth_eq]
@[simp] theorem yo {w:Nat} (a b:BitVec w) :(u a=u b)<->a=b:=⟨fun h=>BitVec.eq_of_toNat_eq (by unfold u at h; exact Int.ofNat_inj.1 h),fun h=>by rw[h]⟩
@[simp] theorem awz {w:Nat} (a b:BitVec w) :(u a<u b)<->a<b:=by unfold u; rw[Int.ofNat_lt]; rfl
@[simp] theorem awy {w:Nat} (a b:BitVec w) :(u a<=u b)<->a<=b:=by unfold u; rw[Int.ofNat_le]; rfl
@[simp] theorem awA {w:Nat} (a:BitVec w) :0<=u a:=Int.natCast_nonneg _
@[simp] theorem awB {w:Nat} (a:BitVec w) :(u a).toNat=a.toNat:=Int.toNat_natCast _
theorem awx {w:Nat} (a:BitVec w) :u a<2 ^ w:=by
 have:=a.isLt;unfold u
 exact_mod_cast this
@[simp] theorem avG {w:Nat} (a b:Int) :BitVec.ofInt w (a - b)=BitVec.ofInt w a - BitVec.ofInt w b:=by
 rw[Int.sub_eq_add_neg,BitVec.ofInt_add,BitVec.ofInt_neg,BitVec.sub_eq_add_neg]
attribute [simp] BitVec.ofInt_add BitVec.ofInt_mul
theorem rn {w:Nat} (v:Nat) (a:BitVec w) :BitVec.ofInt v (u a)=a.setWidth v:=by
 unfold u;rw[BitVec.ofInt_natCast,BitVec.ofNat_toNat]
section
abbrev bC (a:BitVec 8) :U:=.int .u8 (u a)
@[simp] theorem GN (n:Int) :IntKind.u8.wrap n=u (BitVec.ofInt 8 n) :=by
 have aS:(2 ^ IntKind.u8.bits:Int)=256:=by decide
 have er:IntKind.u8.signed=false:=rfl;simp only[IntKind.wrap,aS,er,Bool.false_and,Bool.false_eq_true,if_false,u,BitVec.toNat_ofInt];have:(2 ^ 8:Nat)=256:=by decide
 rw[this];omega
@[simp] theorem awI (a:Int) :rB .xor (.int .u8 a)=some (.int .u8 (u (~~~(BitVec.ofInt 8 a)))) :=by
 show some (U.int .u8 (IntKind.u8.wrap (u (BitVec.ofInt 8 (255:Int) ^^^ BitVec.ofInt 8 a))))=_;rw[GN,mZ];have:BitVec.ofInt 8 (255:Int)=BitVec.allOnes 8:=by decide
 rw[this,BitVec.allOnes_xor]
theorem acZ (a:BitVec 8) (k' : IntKind) (n:Nat) :cy .shl .u8 (u a) k' (n:Int)=some (.int .u8 (u (a <<< n))) :=by
 have aJ:¬((n:Int)<0) :=by omega
 show (if (n:Int)<0 then none else some (U.int .u8 (IntKind.u8.wrap ((a.toNat:Int)*2 ^ min (n:Int).toNat 8))))=_;rw[if_neg aJ];congr 2;rw[GN,Int.toNat_natCast];unfold u;congr 1;have:((a.toNat:Int)*2 ^ min n 8)=((a.toNat*2 ^ min n 8:Nat) :Int) :=by rw[Int.natCast_mul,Int.natCast_pow]; rfl
 rw[this,BitVec.ofInt_natCast,BitVec.toNat_ofNat,BitVec.toNat_shiftLeft,Nat.shiftLeft_eq];rcases Nat.lt_or_ge n 8 with h | h
 ·rw[Nat.min_eq_left (Nat.le_of_lt h)]
 ·rw[Nat.min_eq_right h];have ad:a.toNat*2 ^ 8 % 2 ^ 8=0:=Nat.mul_mod_left _ _;obtain⟨m,rfl⟩:=Nat.exists_eq_add_of_le h;rw[ad,Nat.pow_add,Nat.mul_left_comm,Nat.mul_mod_right]
theorem ac2 (a:BitVec 8) (k' : IntKind) (n:Nat) :cy .shr .u8 (u a) k' (n:Int)=some (.int .u8 (u (a >>> n))) :=by
 have aJ:¬((n:Int)<0) :=by omega
 show (if (n:Int)<0 then none else some (U.int .u8 ((a.toNat:Int).fdiv (2 ^ min (n:Int).toNat 8))))=_;rw[if_neg aJ];congr 2;rw[Int.toNat_natCast];unfold u;have:((2:Int) ^ min n 8)=((2 ^ min n 8:Nat) :Int) :=by rw[Int.natCast_pow]; rfl
 rw[this,Int.fdiv_eq_ediv_of_nonneg _ (Int.natCast_nonneg _),<-Int.natCast_ediv,BitVec.toNat_ushiftRight,Nat.shiftRight_eq_div_pow];congr 1;rcases Nat.lt_or_ge n 8 with h | h
 ·rw[Nat.min_eq_left (Nat.le_of_lt h)]
 ·rw[Nat.min_eq_right h,Nat.div_eq_of_lt a.isLt,Nat.div_eq_of_lt (Nat.lt_of_lt_of_le a.isLt (Nat.pow_le_pow_right (by omega) h))]
@[simp] theorem ari (a:BitVec 8) (k' : IntKind) (n:Int) (h:0<=n) :cy .shl .u8 (u a) k' n=some (.int .u8 (u (a <<< n.toNat))) :=by
 obtain⟨m,rfl⟩:=Int.eq_ofNat_of_zero_le h;exact acZ a k' m
@[simp] theorem arm (a:BitVec 8) (k' : IntKind) (n:Int) (h:0<=n) :cy .shr .u8 (u a) k' n=some (.int .u8 (u (a >>> n.toNat))) :=by
 obtain⟨m,rfl⟩:=Int.eq_ofNat_of_zero_le h;exact ac2 a k' m
@[simp] theorem arc (a b:BitVec 8) (h:b≠0#8) :cy .rem .u8 (u a) .u8 (u b)=some (.int .u8 (u (a % b))) :=by
 have af:(b.toNat:Int)≠0:=fun e=>h (BitVec.eq_of_toNat_eq (by simpa using e))
 show (if IntKind.u8=IntKind.u8/\(b.toNat:Int)≠0 then some (U.int .u8 ((a.toNat:Int).tmod b.toNat)) else none)=_;rw[if_pos ⟨rfl,af⟩];unfold u;rw[BitVec.toNat_umod];rfl
@[simp] theorem art (a b:Int) :cy .xor .u8 a .u8 b=some (.int .u8 (u (BitVec.ofInt 8 a ^^^ BitVec.ofInt 8 b))) :=by
 show some (U.int .u8 (IntKind.u8.wrap (u (BitVec.ofInt 8 a ^^^ BitVec.ofInt 8 b))))=_;rw[GN,mZ]
@[simp] theorem ara (a b:Int) :cy .or .u8 a .u8 b=some (.int .u8 (u (BitVec.ofInt 8 a ||| BitVec.ofInt 8 b))) :=by
 show some (U.int .u8 (IntKind.u8.wrap (u (BitVec.ofInt 8 a ||| BitVec.ofInt 8 b))))=_;rw[GN,mZ]
@[simp] theorem aqS (a b:Int) :cy .and .u8 a .u8 b=some (.int .u8 (u (BitVec.ofInt 8 a &&& BitVec.ofInt 8 b))) :=by
 show some (U.int .u8 (IntKind.u8.wrap (u (BitVec.ofInt 8 a &&& BitVec.ofInt 8 b))))=_;rw[GN,mZ]
end

section
abbrev HD (a:BitVec 16) :U:=.int .u16 (u a)
@[simp] theorem GM (n:Int) :IntKind.u16.wrap n=u (BitVec.ofInt 16 n) :=by
 have aS:(2 ^ IntKind.u16.bits:Int)=65536:=by decide
 have er:IntKind.u16.signed=false:=rfl;simp only[IntKind.wrap,aS,er,Bool.false_and,Bool.false_eq_true,if_false,u,BitVec.toNat_ofInt];have:(2 ^ 16:Nat)=65536:=by decide
 rw[this];omega
@[simp] theorem awF (a:Int) :rB .xor (.int .u16 a)=some (.int .u16 (u (~~~(BitVec.ofInt 16 a)))) :=by
 show some (U.int .u16 (IntKind.u16.wrap (u (BitVec.ofInt 16 (65535:Int) ^^^ BitVec.ofInt 16 a))))=_;rw[GM,mZ];have:BitVec.ofInt 16 (65535:Int)=BitVec.allOnes 16:=by decide
 rw[this,BitVec.allOnes_xor]
theorem acX (a:BitVec 16) (k' : IntKind) (n:Nat) :cy .shl .u16 (u a) k' (n:Int)=some (.int .u16 (u (a <<< n))) :=by
 have aJ:¬((n:Int)<0) :=by omega
 show (if (n:Int)<0 then none else some (U.int .u16 (IntKind.u16.wrap ((a.toNat:Int)*2 ^ min (n:Int).toNat 16))))=_;rw[if_neg aJ];congr 2;rw[GM,Int.toNat_natCast];unfold u;congr 1;have:((a.toNat:Int)*2 ^ min n 16)=((a.toNat*2 ^ min n 16:Nat) :Int) :=by rw[Int.natCast_mul,Int.natCast_pow]; rfl
 rw[this,BitVec.ofInt_natCast,BitVec.toNat_ofNat,BitVec.toNat_shiftLeft,Nat.shiftLeft_eq];rcases Nat.lt_or_ge n 16 with h | h
 ·rw[Nat.min_eq_left (Nat.le_of_lt h)]
 ·rw[Nat.min_eq_right h];have ad:a.toNat*2 ^ 16 % 2 ^ 16=0:=Nat.mul_mod_left _ _;obtain⟨m,rfl⟩:=Nat.exists_eq_add_of_le h;rw[ad,Nat.pow_add,Nat.mul_left_comm,Nat.mul_mod_right]
theorem ac0 (a:BitVec 16) (k' : IntKind) (n:Nat) :cy .shr .u16 (u a) k' (n:Int)=some (.int .u16 (u (a >>> n))) :=by
 have aJ:¬((n:Int)<0) :=by omega
 show (if (n:Int)<0 then none else some (U.int .u16 ((a.toNat:Int).fdiv (2 ^ min (n:Int).toNat 16))))=_;rw[if_neg aJ];congr 2;rw[Int.toNat_natCast];unfold u;have:((2:Int) ^ min n 16)=((2 ^ min n 16:Nat) :Int) :=by rw[Int.natCast_pow]; rfl
 rw[this,Int.fdiv_eq_ediv_of_nonneg _ (Int.natCast_nonneg _),<-Int.natCast_ediv,BitVec.toNat_ushiftRight,Nat.shiftRight_eq_div_pow];congr 1;rcases Nat.lt_or_ge n 16 with h | h
 ·rw[Nat.min_eq_left (Nat.le_of_lt h)]
 ·rw[Nat.min_eq_right h,Nat.div_eq_of_lt a.isLt,Nat.div_eq_of_lt (Nat.lt_of_lt_of_le a.isLt (Nat.pow_le_pow_right (by omega) h))]
@[simp] theorem ard (a:BitVec 16) (k' : IntKind) (n:Int) (h:0<=n) :cy .shl .u16 (u a) k' n=some (.int .u16 (u (a <<< n.toNat))) :=by
 obtain⟨m,rfl⟩:=Int.eq_ofNat_of_zero_le h;exact acX a k' m
@[simp] theorem arj (a:BitVec 16) (k' : IntKind) (n:Int) (h:0<=n) :cy .shr .u16 (u a) k' n=some (.int .u16 (u (a >>> n.toNat))) :=by
 obtain⟨m,rfl⟩:=Int.eq_ofNat_of_zero_le h;exact ac0 a k' m
@[simp] theorem arb (a b:BitVec 16) (h:b≠0#16) :cy .rem .u16 (u a) .u16 (u b)=some (.int .u16 (u (a % b))) :=by
 have af:(b.toNat:Int)≠0:=fun e=>h (BitVec.eq_of_toNat_eq (by simpa using e))
 show (if IntKind.u16=IntKind.u16/\(b.toNat:Int)≠0 then some (U.int .u16 ((a.toNat:Int).tmod b.toNat)) else none)=_;rw[if_pos ⟨rfl,af⟩];unfold u;rw[BitVec.toNat_umod];rfl
@[simp] theorem arp (a b:Int) :cy .xor .u16 a .u16 b=some (.int .u16 (u (BitVec.ofInt 16 a ^^^ BitVec.ofInt 16 b))) :=by
 show some (U.int .u16 (IntKind.u16.wrap (u (BitVec.ofInt 16 a ^^^ BitVec.ofInt 16 b))))=_;rw[GM,mZ]
@[simp] theorem aq7 (a b:Int) :cy .or .u16 a .u16 b=some (.int .u16 (u (BitVec.ofInt 16 a ||| BitVec.ofInt 16 b))) :=by
 show some (U.int .u16 (IntKind.u16.wrap (u (BitVec.ofInt 16 a ||| BitVec.ofInt 16 b))))=_;rw[GM,mZ]
@[simp] theorem aqQ (a b:Int) :cy .and .u16 a .u16 b=some (.int .u16 (u (BitVec.ofInt 16 a &&& BitVec.ofInt 16 b))) :=by
 show some (U.int .u16 (IntKind.u16.wrap (u (BitVec.ofInt 16 a &&& BitVec.ofInt 16 b))))=_;rw[GM,mZ]
end

section
abbrev bx (a:BitVec 32) :U:=.int .u32 (u a)
@[simp] theorem C4 (n:Int) :IntKind.u32.wrap n=u (BitVec.ofInt 32 n) :=by
 have aS:(2 ^ IntKind.u32.bits:Int)=4294967296:=by decide
 have er:IntKind.u32.signed=false:=rfl;simp only[IntKind.wrap,aS,er,Bool.false_and,Bool.false_eq_true,if_false,u,BitVec.toNat_ofInt];have:(2 ^ 32:Nat)=4294967296:=by decide
 rw[this];omega
@[simp] theorem awG (a:Int) :rB .xor (.int .u32 a)=some (.int .u32 (u (~~~(BitVec.ofInt 32 a)))) :=by
 show some (U.int .u32 (IntKind.u32.wrap (u (BitVec.ofInt 32 (4294967295:Int) ^^^ BitVec.ofInt 32 a))))=_;rw[C4,mZ];have:BitVec.ofInt 32 (4294967295:Int)=BitVec.allOnes 32:=by decide
 rw[this,BitVec.allOnes_xor]
theorem acY (a:BitVec 32) (k' : IntKind) (n:Nat) :cy .shl .u32 (u a) k' (n:Int)=some (.int .u32 (u (a <<< n))) :=by
 have aJ:¬((n:Int)<0) :=by omega
 show (if (n:Int)<0 then none else some (U.int .u32 (IntKind.u32.wrap ((a.toNat:Int)*2 ^ min (n:Int).toNat 32))))=_;rw[if_neg aJ];congr 2;rw[C4,Int.toNat_natCast];unfold u;congr 1;have:((a.toNat:Int)*2 ^ min n 32)=((a.toNat*2 ^ min n 32:Nat) :Int) :=by rw[Int.natCast_mul,Int.natCast_pow]; rfl
 rw[this,BitVec.ofInt_natCast,BitVec.toNat_ofNat,BitVec.toNat_shiftLeft,Nat.shiftLeft_eq];rcases Nat.lt_or_ge n 32 with h | h
 ·rw[Nat.min_eq_left (Nat.le_of_lt h)]
 ·rw[Nat.min_eq_right h];have ad:a.toNat*2 ^ 32 % 2 ^ 32=0:=Nat.mul_mod_left _ _;obtain⟨m,rfl⟩:=Nat.exists_eq_add_of_le h;rw[ad,Nat.pow_add,Nat.mul_left_comm,Nat.mul_mod_right]
theorem ac1 (a:BitVec 32) (k' : IntKind) (n:Nat) :cy .shr .u32 (u a) k' (n:Int)=some (.int .u32 (u (a >>> n))) :=by
 have aJ:¬((n:Int)<0) :=by omega
 show (if (n:Int)<0 then none else some (U.int .u32 ((a.toNat:Int).fdiv (2 ^ min (n:Int).toNat 32))))=_;rw[if_neg aJ];congr 2;rw[Int.toNat_natCast];unfold u;have:((2:Int) ^ min n 32)=((2 ^ min n 32:Nat) :Int) :=by rw[Int.natCast_pow]; rfl
 rw[this,Int.fdiv_eq_ediv_of_nonneg _ (Int.natCast_nonneg _),<-Int.natCast_ediv,BitVec.toNat_ushiftRight,Nat.shiftRight_eq_div_pow];congr 1;rcases Nat.lt_or_ge n 32 with h | h
 ·rw[Nat.min_eq_left (Nat.le_of_lt h)]
 ·rw[Nat.min_eq_right h,Nat.div_eq_of_lt a.isLt,Nat.div_eq_of_lt (Nat.lt_of_lt_of_le a.isLt (Nat.pow_le_pow_right (by omega) h))]
@[simp] theorem arf (a:BitVec 32) (k' : IntKind) (n:Int) (h:0<=n) :cy .shl .u32 (u a) k' n=some (.int .u32 (u (a <<< n.toNat))) :=by
 obtain⟨m,rfl⟩:=Int.eq_ofNat_of_zero_le h;exact acY a k' m
@[simp] theorem ark (a:BitVec 32) (k' : IntKind) (n:Int) (h:0<=n) :cy .shr .u32 (u a) k' n=some (.int .u32 (u (a >>> n.toNat))) :=by
 obtain⟨m,rfl⟩:=Int.eq_ofNat_of_zero_le h;exact ac1 a k' m
@[simp] theorem acV (a b:BitVec 32) (h:b≠0#32) :cy .rem .u32 (u a) .u32 (u b)=some (.int .u32 (u (a % b))) :=by
 have af:(b.toNat:Int)≠0:=fun e=>h (BitVec.eq_of_toNat_eq (by simpa using e))
 show (if IntKind.u32=IntKind.u32/\(b.toNat:Int)≠0 then some (U.int .u32 ((a.toNat:Int).tmod b.toNat)) else none)=_;rw[if_pos ⟨rfl,af⟩];unfold u;rw[BitVec.toNat_umod];rfl
@[simp] theorem arq (a b:Int) :cy .xor .u32 a .u32 b=some (.int .u32 (u (BitVec.ofInt 32 a ^^^ BitVec.ofInt 32 b))) :=by
 show some (U.int .u32 (IntKind.u32.wrap (u (BitVec.ofInt 32 a ^^^ BitVec.ofInt 32 b))))=_;rw[C4,mZ]
@[simp] theorem aq8 (a b:Int) :cy .or .u32 a .u32 b=some (.int .u32 (u (BitVec.ofInt 32 a ||| BitVec.ofInt 32 b))) :=by
 show some (U.int .u32 (IntKind.u32.wrap (u (BitVec.ofInt 32 a ||| BitVec.ofInt 32 b))))=_;rw[C4,mZ]
@[simp] theorem aqR (a b:Int) :cy .and .u32 a .u32 b=some (.int .u32 (u (BitVec.ofInt 32 a &&& BitVec.ofInt 32 b))) :=by
 show some (U.int .u32 (IntKind.u32.wrap (u (BitVec.ofInt 32 a &&& BitVec.ofInt 32 b))))=_;rw[C4,mZ]
end

section
abbrev ea (a:BitVec 64) :U:=.int .u64 (u a)
@[simp] theorem Ay (n:Int) :IntKind.u64.wrap n=u (BitVec.ofInt 64 n) :=by
 have aS:(2 ^ IntKind.u64.bits:Int)=18446744073709551616:=by decide
 have er:IntKind.u64.signed=false:=rfl;simp only[IntKind.wrap,aS,er,Bool.false_and,Bool.false_eq_true,if_false,u,BitVec.toNat_ofInt];have:(2 ^ 64:Nat)=18446744073709551616:=by decide
 rw[this];omega
@[simp] theorem awH (a:Int) :rB .xor (.int .u64 a)=some (.int .u64 (u (~~~(BitVec.ofInt 64 a)))) :=by
 show some (U.int .u64 (IntKind.u64.wrap (u (BitVec.ofInt 64 (18446744073709551615:Int) ^^^ BitVec.ofInt 64 a))))=_;rw[Ay,mZ];have:BitVec.ofInt 64 (18446744073709551615:Int)=BitVec.allOnes 64:=by decide
 rw[this,BitVec.allOnes_xor]
theorem RF (a:BitVec 64) (k' : IntKind) (n:Nat) :cy .shl .u64 (u a) k' (n:Int)=some (.int .u64 (u (a <<< n))) :=by
 have aJ:¬((n:Int)<0) :=by omega
 show (if (n:Int)<0 then none else some (U.int .u64 (IntKind.u64.wrap ((a.toNat:Int)*2 ^ min (n:Int).toNat 64))))=_;rw[if_neg aJ];congr 2;rw[Ay,Int.toNat_natCast];unfold u;congr 1;have:((a.toNat:Int)*2 ^ min n 64)=((a.toNat*2 ^ min n 64:Nat) :Int) :=by rw[Int.natCast_mul,Int.natCast_pow]; rfl
 rw[this,BitVec.ofInt_natCast,BitVec.toNat_ofNat,BitVec.toNat_shiftLeft,Nat.shiftLeft_eq];rcases Nat.lt_or_ge n 64 with h | h
 ·rw[Nat.min_eq_left (Nat.le_of_lt h)]
 ·rw[Nat.min_eq_right h];have ad:a.toNat*2 ^ 64 % 2 ^ 64=0:=Nat.mul_mod_left _ _;obtain⟨m,rfl⟩:=Nat.exists_eq_add_of_le h;rw[ad,Nat.pow_add,Nat.mul_left_comm,Nat.mul_mod_right]
theorem wF (a:BitVec 64) (k' : IntKind) (n:Nat) :cy .shr .u64 (u a) k' (n:Int)=some (.int .u64 (u (a >>> n))) :=by
 have aJ:¬((n:Int)<0) :=by omega
 show (if (n:Int)<0 then none else some (U.int .u64 ((a.toNat:Int).fdiv (2 ^ min (n:Int).toNat 64))))=_;rw[if_neg aJ];congr 2;rw[Int.toNat_natCast];unfold u;have:((2:Int) ^ min n 64)=((2 ^ min n 64:Nat) :Int) :=by rw[Int.natCast_pow]; rfl
 rw[this,Int.fdiv_eq_ediv_of_nonneg _ (Int.natCast_nonneg _),<-Int.natCast_ediv,BitVec.toNat_ushiftRight,Nat.shiftRight_eq_div_pow];congr 1;rcases Nat.lt_or_ge n 64 with h | h
 ·rw[Nat.min_eq_left (Nat.le_of_lt h)]
 ·rw[Nat.min_eq_right h,Nat.div_eq_of_lt a.isLt,Nat.div_eq_of_lt (Nat.lt_of_lt_of_le a.isLt (Nat.pow_le_pow_right (by omega) h))]
@[simp] theorem arh (a:BitVec 64) (k' : IntKind) (n:Int) (h:0<=n) :cy .shl .u64 (u a) k' n=some (.int .u64 (u (a <<< n.toNat))) :=by
 obtain⟨m,rfl⟩:=Int.eq_ofNat_of_zero_le h;exact RF a k' m
@[simp] theorem arl (a:BitVec 64) (k' : IntKind) (n:Int) (h:0<=n) :cy .shr .u64 (u a) k' n=some (.int .u64 (u (a >>> n.toNat))) :=by
 obtain⟨m,rfl⟩:=Int.eq_ofNat_of_zero_le h;exact wF a k' m
@[simp] theorem AQ (a b:BitVec 64) (h:b≠0#64) :cy .rem .u64 (u a) .u64 (u b)=some (.int .u64 (u (a % b))) :=by
 have af:(b.toNat:Int)≠0:=fun e=>h (BitVec.eq_of_toNat_eq (by simpa using e))
 show (if IntKind.u64=IntKind.u64/\(b.toNat:Int)≠0 then some (U.int .u64 ((a.toNat:Int).tmod b.toNat)) else none)=_;rw[if_pos ⟨rfl,af⟩];unfold u;rw[BitVec.toNat_umod];rfl
@[simp] theorem ars (a b:Int) :cy .xor .u64 a .u64 b=some (.int .u64 (u (BitVec.ofInt 64 a ^^^ BitVec.ofInt 64 b))) :=by
 show some (U.int .u64 (IntKind.u64.wrap (u (BitVec.ofInt 64 a ^^^ BitVec.ofInt 64 b))))=_;rw[Ay,mZ]
@[simp] theorem aq9 (a b:Int) :cy .or .u64 a .u64 b=some (.int .u64 (u (BitVec.ofInt 64 a ||| BitVec.ofInt 64 b))) :=by
 show some (U.int .u64 (IntKind.u64.wrap (u (BitVec.ofInt 64 a ||| BitVec.ofInt 64 b))))=_;rw[Ay,mZ]
@[simp] theorem Rr (a b:Int) :cy .and .u64 a .u64 b=some (.int .u64 (u (BitVec.ofInt 64 a &&& BitVec.ofInt 64 b))) :=by
 show some (U.int .u64 (IntKind.u64.wrap (u (BitVec.ofInt 64 a &&& BitVec.ofInt 64 b))))=_;rw[Ay,mZ]
end
@[simp] theorem ar0 (a:BitVec 8) :BitVec.ofInt 16 (u a)=a.setWidth 16:=rn 16 a
@[simp] theorem ar1 (a:BitVec 8) :BitVec.ofInt 32 (u a)=a.setWidth 32:=rn 32 a
@[simp] theorem ar2 (a:BitVec 8) :BitVec.ofInt 64 (u a)=a.setWidth 64:=rn 64 a
@[simp] theorem arT (a:BitVec 16) :BitVec.ofInt 8 (u a)=a.setWidth 8:=rn 8 a
@[simp] theorem arR (a:BitVec 16) :BitVec.ofInt 32 (u a)=a.setWidth 32:=rn 32 a
@[simp] theorem arS (a:BitVec 16) :BitVec.ofInt 64 (u a)=a.setWidth 64:=rn 64 a
@[simp] theorem arW (a:BitVec 32) :BitVec.ofInt 8 (u a)=a.setWidth 8:=rn 8 a
@[simp] theorem arU (a:BitVec 32) :BitVec.ofInt 16 (u a)=a.setWidth 16:=rn 16 a
@[simp] theorem arV (a:BitVec 32) :BitVec.ofInt 64 (u a)=a.setWidth 64:=rn 64 a
@[simp] theorem arZ (a:BitVec 64) :BitVec.ofInt 8 (u a)=a.setWidth 8:=rn 8 a
@[simp] theorem arX (a:BitVec 64) :BitVec.ofInt 16 (u a)=a.setWidth 16:=rn 16 a
@[simp] theorem arY (a:BitVec 64) :BitVec.ofInt 32 (u a)=a.setWidth 32:=rn 32 a
@[simp] theorem awC {w:Nat}:u (0#w)=0:=by simp[u]
theorem Lr (k:Nat) (c:Int) (ah:0<c) (ar:k<9223372036854775808) :cy .quo .i64 (k:Int) .i64 c=some (.int .i64 ((k / c.toNat:Nat) :Int)) :=by
 obtain⟨m,rfl⟩:=Int.eq_ofNat_of_zero_le (Int.le_of_lt ah);have hm:(m:Int)≠0:=by omega
 show (if IntKind.i64=IntKind.i64/\(m:Int)≠0 then some (U.int .i64 (IntKind.i64.wrap ((k:Int).tdiv m))) else none)=_;rw[if_pos ⟨rfl,hm⟩,Int.toNat_natCast];have:((k:Int).tdiv m)=((k / m:Nat) :Int) :=rfl;have ae:=Nat.div_le_self k m;rw[this];generalize k / m=q at ae;rw[wrap_i64 (by omega) (by omega)]
theorem AP (k:Nat) (c:Int) (ah:0<c) :cy .rem .i64 (k:Int) .i64 c=some (.int .i64 ((k % c.toNat:Nat) :Int)) :=by
 obtain⟨m,rfl⟩:=Int.eq_ofNat_of_zero_le (Int.le_of_lt ah);have hm:(m:Int)≠0:=by omega
 show (if IntKind.i64=IntKind.i64/\(m:Int)≠0 then some (U.int .i64 ((k:Int).tmod m)) else none)=_;rw[if_pos ⟨rfl,hm⟩,Int.toNat_natCast];rfl
theorem ZG (k:IntKind) (w n:Nat) :rep n (.int k 0)=(List.replicate n (0#w)).map fun x=>.int k (u x) :=by
 simp[rep]
theorem qi {α:Type} (f:α->U) (l:List α) (i:Nat) (x:α) (h:i<l.length) :bf (l.map f) i [f x]=(l.set i x).map f:=by
 unfold bf;rw[List.set_eq_take_append_cons_drop,if_pos h];simp
theorem oI {cs vs:List U} (h:vs.length=cs.length) :bf cs 0 vs=vs:=by
 unfold bf;rw[Nat.zero_add,List.take_zero,List.nil_append,h,List.drop_length,List.append_nil]
theorem aU {l:ap} {c c' : U} (h:c=c') (ah:c'.closed=true) :eK l c c':=by subst h; exact .same _ ah
theorem Bh {α:Type} {z:Nat}:∀ (es:List (List α)),(∀ e∈es,e.length=z)->∀ (i j:Nat) (e:List α) (c:α),es[i]? = some e->e[j]? = some c->es.flatten[i*z+j]? = some c:=by
 intro es aw
 induction es with
 | nil=>intro i j e c am; simp at am
 | cons x es aR=>
  intro i j e c am ai;have ag:x.length=z:=aw x (by simp);cases i with
  | zero=>
   simp only[List.getElem?_cons_zero,Option.some.injEq] at am;subst am;rw[List.flatten_cons,Nat.zero_mul,Nat.zero_add,List.getElem?_append_left (List.getElem?_eq_some_iff.1 ai).1];exact ai
  | succ i=>
   simp only[List.getElem?_cons_succ] at am;rw[List.flatten_cons,List.getElem?_append_right (by rw[ag,Nat.succ_mul]; omega),ag,show (i+1)*z+j - z=i*z+j by rw[Nat.succ_mul]; omega];exact aR (fun e am=>aw e (by simp[am])) i j e c am ai
inductive uJ (l:ap) :List U->List U->Prop
 | nil:uJ l [] []
 | cons {c c' cs cs'}:gJ (bb l) c c'->uJ l cs cs'->uJ l (c::cs) (c'::cs')
theorem uJ.len {l:ap}:∀ {a b:List U},uJ l a b->b.length=a.length
 | _,_,.nil=>rfl
 | _,_,.cons _ h=>by simp[h.len]
theorem uJ.get {l:ap}:∀ {a b:List U},uJ l a b->∀ (j:Nat) (c c' : U),a[j]? = some c->b[j]? = some c'->gJ (bb l) c c'
 | _,_,.nil,j,c,c',h,_=>by simp at h
 | _,_,.cons ad ae,j,c,c',h,h'=>by
  cases j with
  | zero=>simp at h h'; subst h h'; exact ad
  | succ j=>exact ae.get j c c' (by simpa using h) (by simpa using h')
theorem mA {P:Program} {G:Nat->U} {f:FuncId} {args jb:List U} {r:U} {l:ap} {K:U->ap->Prop} (au:bw P G f jb r) (az:uJ l args jb) (aF:r.flat=true) (h:K r l) :c5 P G f args l (c:=⟨K⟩) :=
 ⟨r,l,.Pn au az.len az.get aF,Nat.le_refl _,h⟩
theorem Y9 {P:Program} {G:Nat->U} {f:FuncId} {args jb:List U} {r:U} {l:ap} {K:U->ap->Prop} (au:gI P G f jb r) (az:uJ l args jb) (h:K r l) :c5 P G f args l (c:=⟨K⟩) :=
 ⟨r,l,.Po au az.len az.get,Nat.le_refl _,h⟩
inductive k3 (l:ap) :U->U->Prop
 | flat (c:U) (h:c.flat=true) :k3 l c c
 | aH (cs cs' : List U) (al:cs'.length=cs.length) (h:∀ (j:Nat) (c c' : U),cs[j]? = some c->cs'[j]? = some c'->k3 l c c') :k3 l (.aH cs) (.aH cs')
 | bq (cs cs' : List U) (al:cs'.length=cs.length) (h:∀ (j:Nat) (c c' : U),cs[j]? = some c->cs'[j]? = some c'->k3 l c c') :k3 l (.bq cs) (.bq cs')
 | aq (z b off len cap sz:Nat) (cs:List U) (es:List (List U)) (af:l[b]? = some (.cells sz cs)) (al:es.length=len) (aw:∀ e∈es,e.length=z)
   (c7:off+len*z<=cs.length)
   (h:∀ (i j:Nat) (e:List U) (c c' : U),es[i]? = some e->e[j]? = some c'->cs[off+(i*z+j)]? = some c->k3 l c c') :k3 l (.aq z b off len cap sz) (.a1 z es)
 | sV (z b off cap sz:Nat) :k3 l (.aq z b off 0 cap sz) (.a1 z [])
 | gv (z:Nat) :k3 l (.a1 z []) (.a1 z [])
theorem ans {w:World} {R:Nat->Prop} {B:Nat} {l:ap} {μ:cr} (rel:bP R B w (bb l) μ) :∀ {c c' : U},k3 l c c'->∀ {v:Value},aQ w R (bb l) μ c v->eh w (fun k=>B<=k) c' v:=by
 intro c c' az
 induction az with
 | flat c h=>intro v ao; exact Un ao h
 | aH cs cs' al h aR=>
  intro v ao;cases ao with
  | aH _ vs hY ad ao=>
   refine .aH cs' vs (by omega) ad (fun j c' v ai gi=>?_);have aL:j<cs.length:=by rw[<-al]; exact (List.getElem?_eq_some_iff.1 ai).1
   exact aR j cs[j] c' (List.getElem?_eq_getElem aL) ai (ao j cs[j] v (List.getElem?_eq_getElem aL) gi)
 | bq cs cs' al h aR=>
  intro v ao;cases ao with
  | bq _ vs hY ao=>
   refine .bq cs' vs (by omega) (fun j c' v ai gi=>?_);have aL:j<cs.length:=by rw[<-al]; exact (List.getElem?_eq_some_iff.1 ai).1
   exact aR j cs[j] c' (List.getElem?_eq_getElem aL) ai (ao j cs[j] v (List.getElem?_eq_getElem aL) gi)
 | sV z b off cap sz=>
  intro v ao;cases ao with
  | aq _ _ _ _ _ _ cap' cs m af hm al av ah=>exact .gv z _ cap'
  | hO _ _ _ _ _ _ cap' a al ah ax=>exact .gv z _ cap'
  | i3 _ _ _ _ a cs m af hm=>exact .gv z a 0
 | gv z=>
  intro v ao;generalize am:([] :List (List U))=es at ao;generalize Il:U.a1 z es=rY at ao;cases ao<;>cases Il
  ·subst am; exact .gv z _ _
  ·exact .gv z _ _
 | aq z b off len cap sz cs es af al aw c7 h aR=>
  intro v ao;have r7:(bb l).f b=.cells sz cs:=l5.2 af;cases ao with
  | i3 _ _ _ _ a hT m ej lj=>
   obtain rfl:=List.length_eq_zero_iff.1 al;exact .gv z a 0
  | hO _ _ _ _ _ _ cap' a al ah ax=>
   exfalso;rcases ax with ax | ⟨n,hT,ax,aL⟩
   ·rw[r7] at ax; cases ax
   ·rw[r7] at ax; cases ax; omega
  | aq _ _ _ _ _ _ cap' hT m ej hm jk av ah=>
   rw[r7] at ej; cases ej;have iQ:=rel.blk b m hm;rw[r7] at iQ;obtain⟨c6,ew,arr,t,e4,aP,aE,aF,np⟩:=iQ;have cZ:len<=cap':=by rcases ah with ⟨_,h⟩ | ⟨_,h,_⟩<;>omega
   have kg:B<=m.r:=rel.base b m (by rw[r7]; rfl) hm;subst al;have r9:∀ i j,i<es.length->j<z->∃ c v,cs[off+(i*z+j)]? = some c/\arr[m.s+(off+(i*z+j))]? = some v/\v.oneCell'=true/\aQ w R (bb l) μ c v:=by
    intro i j ay ai;have aL:off+(i*z+j)<cs.length:=by
     have:i*z+z<=es.length*z:=by rw[<-Nat.succ_mul]; exact Nat.mul_le_mul_right _ ay
     omega
    obtain⟨v,ad,ae,aj⟩:=np _ _ (List.getElem?_eq_getElem aL);exact⟨_,v,List.getElem?_eq_getElem aL,ad,ae,aj⟩
   refine .a1 z es m.r (m.s+off) cap' (fun i j=>(arr[m.s+(off+(i*z+j))]?).getD undef) cZ aw (fun i j ay ai=>?_) (fun i e am j c' ai=>?_)
   ·obtain⟨c,v,ad,ae,aj,aD⟩:=r9 i j ay ai;refine⟨?_,?_,kg,fun ⟨b,m,ad,ae,aj⟩=>by cases ae⟩
    ·simp only[World.cell?,aP,ae,Option.getD_some,Option.isSome_none];rw[show m.s+off+(i*z+j)=m.s+(off+(i*z+j)) by omega,ae]; rfl
    ·rw[ae]; exact aj
   ·have ay:i<es.length:=(List.getElem?_eq_some_iff.1 am).1;have nu:j<z:=by rw[<-aw e (List.mem_of_getElem? am)]; exact (List.getElem?_eq_some_iff.1 ai).1
    obtain⟨c,v,ad,ae,aj,aD⟩:=r9 i j ay nu;simp only[ae,Option.getD_some];exact aR i j e c c' am ai ad aD
theorem Cz {P:Program} {G:Nat->U} (fO:P.follows .mixedOrders=true) (ir:∀ g,(G g).closed=true) {f:FuncId} {args:List U} {r:U} (h:c5 P G f args [] (c:=⟨fun ox l=>k3 l ox r⟩)) :gI P G f args r:=by
 obtain⟨ox,l',ad,ae,aj⟩:=h;intro w A vs ax al ao;refine (Qk (A:=A) fO ir ad ax al ao).mono ?_;rintro e w' ⟨v,μ',rfl,af,rel,az⟩;exact⟨v,rfl,af,ans rel aj az⟩
theorem Zw {l:ap} {z b n cap sz:Nat} {es:List (List U)} {rest:List U} (af:l[b]? = some (.cells sz (es.flatten++rest))) (aC:es.length=n) (aw:∀ e∈es,e.length=z) (ah:∀ e∈es,mL e=true) :k3 l (.aq z b 0 n cap sz) (.a1 z es) :=by
 have hu:=qM (z:=z) (es:=es) (fun e am=>aw e am);refine .aq z b 0 n cap sz _ es af aC aw (by rw[List.length_append,hu,aC]; omega) (fun i j e c c' am ai c8=>?_);have ay:i<es.length:=(List.getElem?_eq_some_iff.1 am).1;have nu:j<z:=by rw[<-aw e (List.mem_of_getElem? am)]; exact (List.getElem?_eq_some_iff.1 ai).1
 have aL:i*z+j<es.flatten.length:=by
  rw[hu];have:i*z+z<=es.length*z:=by rw[<-Nat.succ_mul]; exact Nat.mul_le_mul_right _ ay
  omega
 have ad:es.flatten[i*z+j]? = some c':=Bh es aw i j e c' am ai;rw[Nat.zero_add,List.getElem?_append_left aL,ad] at c8;cases c8;exact .flat _ (HM (ah e (List.mem_of_getElem? am)) j _ ai)
theorem Zu {l:ap} {c:U} (h:c.closed=true) :gJ (bb l) c c:=.same c h
@[simp] theorem atE (n z:Nat) (cs:List U) (k:IntKind) (i:Int) :Ft n z (.aH cs) (.int k i)=if 0<=i/\i<n then cs[i.toNat*z]? else none:=id rfl
@[simp] theorem atF (n z:Nat) (cs:List U) (k:IntKind) (i:Int) :Fu n z (.aH cs) (.int k i)=if 0<=i/\i<n then ug z cs (i.toNat*z) else none:=id rfl
@[simp] theorem Ce (s:List UInt8) (k:IntKind) (i:Int) :zN (.str s) (.int k i)=if 0<=i then (s[i.toNat]?).map jP else none:=id rfl
theorem aom {α:Type} {l:List α} {i:Nat} {x:α} (h:l[i]? = some x) :l.set i x=l:=by
 obtain⟨ay,rfl⟩:=List.getElem?_eq_some_iff.1 h;exact List.set_getElem_self ay
theorem ng {α:Type} (f:α->U) (aF:∀ x,(f x).closed=true) :∀ l:List α,a4 (l.map f)=true
 | []=>rfl
 | x::l=>by simp only[List.map_cons,a4,aF,ng f aF l,Bool.and_self]
theorem Tz {α:Type} (f:α->U) (aF:∀ x,(f x).closed=true) (l:List α) :(U.aH (l.map f)).closed=true:=by simp only[U.closed]; exact ng f aF l
theorem Bg {α:Type} (f:α->U) (aF:∀ x,(f x).flat=true) :∀ l:List α,mL (l.map f)=true
 | []=>rfl
 | x::l=>by simp only[List.map_cons,mL,aF,Bg f aF l,Bool.and_self]
theorem Ul {α:Type} (f:α->U) (aF:∀ x,(f x).flat=true) (l:List α) :(U.aH (l.map f)).flat=true:=by simp only[U.flat]; exact Bg f aF l
@[simp] theorem arw (z:Nat) :uO (.aq z) .aG=some (.int .i64 0) :=id rfl
@[simp] theorem arv (n z:Nat) (x:U) :uO (.arr n z) x=some (.int .i64 n) :=id rfl
theorem awk (z:Nat) (cK ay cL:Option U) :fm (.aq z) .aG cK ay cL=(hc 0 0 cK ay cL).map fun _=>.aG:=rfl
@[simp] theorem awl (z:Nat) (k:IntKind) :fm (.aq z) .aG none (some (.int k 0)) none=some .aG:=id rfl
theorem Gq (z b off len cap sz:Nat) (cK ay cL:Option U) :fm (.aq z) (.aq z b off len cap sz) cK ay cL=(hc len cap cK ay cL).map fun (l,aT,m)=>if m=l then .aq z b (off+l*z) 0 0 sz else .aq z b (off+l*z) (aT - l) (m - l) sz:=by
 simp[fm]
theorem JO {α:Type} {l:List α} {a:α} (h:l[0]? = some a) :∃ r,l=a::r:=by
 cases l with
 | nil=>simp at h
 | cons x l=>simp at h; subst h; exact⟨l,rfl⟩
theorem apj {α:Type} {l:List α} {b:α} (h:l[1]? = some b) :∃ a r,l=a::b::r:=by
 cases l with
 | nil=>simp at h
 | cons x l=>obtain⟨r,rfl⟩:=JO (l:=l) (by simpa using h); exact⟨x,r,rfl⟩
theorem Gd (zero:List U) (n:Nat) :(dH zero n).length=n*zero.length:=by
 induction n with
 | zero=>simp[dH]
 | succ n aR=>simp[dH,aR,Nat.succ_mul,Nat.add_comm]
theorem Gc (zero:List U) (n:Nat) :dH zero n=(List.replicate n zero).flatten:=by
 induction n with
 | zero=>rfl
 | succ n aR=>rw[dH,aR,List.replicate_succ,List.flatten_cons]
inductive bL (z:Nat) (l:ap) :U->Nat->List (List U)->Prop
 | nil (j:Nat) :bL z l .aG j []
 | aq (j n cap sz:Nat) (cs:List U) (es:List (List U)) (af:l[j]? = some (.cells sz cs)) (al:cs.length=sz) (aC:es.length=n) (aw:∀ e∈es,e.length=z) (ah:n<=cap) (cZ:cap*z<=sz)
   (c6:cs.take (n*z)=es.flatten) :bL z l (.aq z j 0 n cap sz) j es
def cz:U->Bool | .aG=>true | _=>false
theorem lr {v:U}:cz v=true<->v=.aG:=by cases v<;>simp[cz]
theorem vJ {α:Type} {v v' : U} {xs:List α} (h:v'=.aG<->v=.aG/\xs=[]) :cz v'=(cz v&&xs.isEmpty) :=by
 rw[Bool.eq_iff_iff,lr,h,Bool.and_eq_true,lr,List.isEmpty_iff]
def um (z:Nat) (v:U) (es:List (List U)) :U:=match cz v with | true=>.aG | false=>.a1 z es
section
variable {z:Nat} {l l' : ap} {v:U} {j:Nat} {es:List (List U)}
theorem bL.lt (h:bL z l v j es) :v=.aG\/j<l.length:=by
 cases h with
 | nil j=>exact .inl rfl
 | aq j n cap sz cs es af=>exact .inr (cd af)
theorem bL.row (h:bL z l v j es) :∀ e∈es,e.length=z:=by
 cases h with
 | nil j=>intro e am; cases am
 | aq j n cap sz cs es af al aC aw=>exact aw
theorem bL.cells (h:bL z l v j es) :v.cells=some [v] :=by cases h<;>rfl
theorem bL.len (h:bL z l v j es) :cp (.aq z) v=some (.int .i64 es.length) :=by
 cases h with
 | nil j=>rfl
 | aq j n cap sz cs es af al aC=>subst aC; rfl
theorem bL.frame (h:bL z l v j es) (ai:j<l.length->l'[j]? = l[j]?) :bL z l' v j es:=by
 cases h with
 | nil j=>exact .nil j
 | aq j n cap sz cs es af al aC aw ah cZ c6=>exact .aq j n cap sz cs es (by rw[ai (cd af)]; exact af) al aC aw ah cZ c6
theorem bL.jS (h:bL z l v j es) (ai:v=.aG\/l'[j]? = l[j]?) :bL z l' v j es:=by
 cases h with
 | nil j=>exact .nil j
 | aq j n cap sz cs es af al aC aw ah cZ c6=>
  rcases ai with ai | ai
  ·cases ai
  ·exact .aq j n cap sz cs es (by rw[ai]; exact af) al aC aw ah cZ c6
theorem bL.more (h:bL z l v j es) (x:ap) :bL z (l++x) v j es:=h.frame fun ai=>List.getElem?_append_left ai
theorem bL.contents (h:bL z l v j es) :de l z v=some (es.flatten,es.length) :=by
 cases h with
 | nil j=>rfl
 | aq j n cap sz cs es af al aC aw ah cZ c6=>subst aC; simp only[de,af,and_self,if_true,List.drop_zero,c6]
theorem bL.J6 (h:bL z l v j es) (aF:∀ e∈es,mL e=true) :k3 l v (um z v es) :=by
 cases h with
 | nil j=>exact .flat _ rfl
 | aq j n cap sz cs es af al aC aw ah cZ c6=>
  show k3 l _ (.a1 z es);refine Zw (rest:=cs.drop (n*z)) ?_ aC aw aF;rw[af,<-c6,List.take_append_drop]
theorem bL.uk (h:bL z l v j es) (aF:∀ e∈es,a4 e=true) :gJ (bb l) v (um z v es) :=by
 cases h with
 | nil j=>exact .same _ rfl
 | aq j n cap sz cs es af al aC aw ah cZ c6=>
  show gJ (bb l) _ (.a1 z es);have sh:n*z<=cs.length:=by rw[al]; exact Nat.le_trans (Nat.mul_le_mul_right _ ah) cZ
  refine .aq z j 0 n cap sz cs es (l5.2 af) aC aw (by omega) (fun i k e c c' am ar c8=>?_);have ay:i<es.length:=(List.getElem?_eq_some_iff.1 am).1;have zo:k<z:=by rw[<-aw e (List.mem_of_getElem? am)]; exact (List.getElem?_eq_some_iff.1 ar).1
  have aL:i*z+k<n*z:=by
   have:i*z+z<=es.length*z:=by rw[<-Nat.succ_mul]; exact Nat.mul_le_mul_right _ ay
   rw[aC] at this; omega
  have ad:es.flatten[i*z+k]? = some c':=Bh es aw i k e c' am ar;rw[<-c6,List.getElem?_take_of_lt aL] at ad;rw[Nat.zero_add,ad] at c8;cases c8;exact .same _ (yR (aF e (List.mem_of_getElem? am)) k _ ar)
theorem J5 {l:ap} {z b n cap sz:Nat} {es:List (List U)} {rest:List U} (af:l[b]? = some (.cells sz (es.flatten++rest))) (aC:es.length=n) (aw:∀ e∈es,e.length=z) (ah:∀ e∈es,a4 e=true) :gJ (bb l) (.aq z b 0 n cap sz) (.a1 z es) :=by
 have hu:=qM (z:=z) (es:=es) (fun e am=>aw e am);refine .aq z b 0 n cap sz _ es (l5.2 af) aC aw (by rw[List.length_append,hu,aC]; omega) (fun i j e c c' am ai c8=>?_);have ay:i<es.length:=(List.getElem?_eq_some_iff.1 am).1;have nu:j<z:=by rw[<-aw e (List.mem_of_getElem? am)]; exact (List.getElem?_eq_some_iff.1 ai).1
 have aL:i*z+j<es.flatten.length:=by
  rw[hu];have:i*z+z<=es.length*z:=by rw[<-Nat.succ_mul]; exact Nat.mul_le_mul_right _ ay
  omega
 have ad:es.flatten[i*z+j]? = some c':=Bh es aw i j e c' am ai;rw[Nat.zero_add,List.getElem?_append_left aL,ad] at c8;cases c8;exact .same _ (yR (ah e (List.mem_of_getElem? am)) j _ ai)
theorem Rb (h:bL z l v j es) {by_ m:Nat} {xs:List (List U)} (hm:xs.length=m) (vH:∀ e∈xs,e.length=z) (aJ:z≠0) (dM:by_≠0) (dC:(es.length+m)*by_<=ci) :
  ∃ v' cg l',ja l z by_ v xs.flatten m=some (v',l')/\bL z l' v' cg (es++xs)/\l.length<=l'.length/\(∀ b,b<l.length->b≠j->l'[b]? = l[b]?)/\(cg=j\/l.length<=cg)/\(v'=.aG<->v=.aG/\xs=[]) :=by
 by_cases mR:m=0
 ·have ag:xs=[] :=List.length_eq_zero_iff.1 (by omega);subst ag;refine⟨v,j,l,?_,by simpa using h,Nat.le_refl _,fun _ _ _=>rfl,.inl rfl,by simp⟩;unfold ja;rw[if_pos mR];cases h<;>rfl
 have bp:xs.flatten.length=m*z:=by rw[qM vH,hm]
 have rf:∀ e∈es++xs,e.length=z:=fun e am=>by
  rcases List.mem_append.1 am with ad | ad
  ·exact h.row e ad
  ·exact vH e ad
 have bY:xs≠[] :=fun ag=>mR (by rw[<-hm,ag]; rfl)
 cases h with
 | nil j=>
  refine⟨.aq z l.length 0 m m (m*z),l.length,l++[.cells (m*z) xs.flatten],?_,?_,by simp,fun b af _=>List.getElem?_append_left af,.inr (Nat.le_refl _),by simp[bY]⟩
  ·unfold ja;rw[if_neg mR,if_neg (by omega)];simp only;rw[if_pos (by simpa using dC)]
  ·refine .aq _ _ _ _ xs.flatten _ (by simp) bp (by simpa using hm) rf (Nat.le_refl _) (Nat.le_refl _) ?_;rw[List.take_of_length_le (by omega)]; rfl
 | aq j n cap sz cs es af al aC aw ah cZ c6=>
  subst aC;have sh:es.length*z<=cap*z:=Nat.mul_le_mul_right _ ah;have IK:(es++xs).length=es.length+m:=by simp[hm]
  have hu:(es++xs).flatten=es.flatten++xs.flatten:=by simp
  have BF:es.flatten.length=es.length*z:=qM aw;have md:ja l z by_ (.aq z j 0 es.length cap sz) xs.flatten m =
    if es.length+m<=cap then some (.aq z j 0 (es.length+m) cap sz,l.set j (.cells sz (bf cs (es.length*z) xs.flatten)))
    else if cap*z<sz then some (.aq z l.length 0 (es.length+m) (es.length+m) ((es.length+m)*z),l++[.cells ((es.length+m)*z) (es.flatten++xs.flatten)])
    else some (.aq z j 0 (es.length+m) (es.length+m) ((es.length+m)*z),l.set j (.cells ((es.length+m)*z) (es.flatten++xs.flatten))) :=by
   unfold ja;rw[if_neg mR,if_neg (by omega)];simp only[af];rw[if_pos ⟨trivial,trivial,dC⟩];simp only[Nat.zero_add,List.drop_zero,c6,if_true]
  rw[md];have et:=cd af;split
  ·rename_i ad;have ahL:(es.length+m)*z<=cap*z:=Nat.mul_le_mul_right _ ad;rw[Nat.add_mul] at ahL;refine⟨_,j,_,rfl,?_,by simp,fun b bN vf=>by rw[List.getElem?_set_ne (fun e=>vf e.symm)],.inl rfl,by simp⟩;refine .aq j _ cap sz (bf cs (es.length*z) xs.flatten) _ (by rw[List.getElem?_set_self et]) ?_ IK rf ad cZ ?_
   ·rw[Al (by omega)]; omega
   ·rw[hu];unfold bf;rw[c6,List.take_append_of_le_length (by simp[BF,bp,Nat.add_mul]),List.take_of_length_le (by simp[BF,bp,Nat.add_mul])]
  ·split
   ·refine⟨_,l.length,_,rfl,?_,by simp,fun b bN _=>List.getElem?_append_left bN,.inr (Nat.le_refl _),by simp⟩;refine .aq _ _ _ _ (es.flatten++xs.flatten) _ (by simp) (by simp[BF,bp,Nat.add_mul]) IK rf (Nat.le_refl _) (Nat.le_refl _) ?_;rw[hu,List.take_of_length_le (by simp[BF,bp,Nat.add_mul])]
   ·refine⟨_,j,_,rfl,?_,by simp,fun b bN vf=>by rw[List.getElem?_set_ne (fun e=>vf e.symm)],.inl rfl,by simp⟩;refine .aq j _ _ _ (es.flatten++xs.flatten) _ (by rw[List.getElem?_set_self et]) (by simp[BF,bp,Nat.add_mul]) IK rf (Nat.le_refl _) (Nat.le_refl _) ?_;rw[hu,List.take_of_length_le (by simp[BF,bp,Nat.add_mul])]
theorem oS (h:bL z l v j es) {by_:Nat} {x:U} {xs:List (List U)} (ag:de l z x=some (xs.flatten,xs.length)) (vH:∀ e∈xs,e.length=z) (aJ:z≠0) (dM:by_≠0) (dC:(es.length+xs.length)*by_<=ci) :
  ∃ v' cg l',gK l z by_ v x=some (v',l')/\bL z l' v' cg (es++xs)/\l.length<=l'.length/\(∀ b,b<l.length->b≠j->l'[b]? = l[b]?)/\(cg=j\/l.length<=cg)/\(v'=.aG<->v=.aG/\xs=[]) :=by
 unfold gK;rw[ag];exact Rb h rfl vH aJ dM dC
theorem aco (h:bL z l v j es) {by_ n:Nat} {k:IntKind} {zero:List U} (jA:zero.length=z) (aJ:z≠0) (dM:by_≠0) (aC:n<9223372036854775808) (dC:(es.length+n)*by_<=ci) :
  ∃ v' cg l',rV l z by_ zero v (.int k (n:Int))=some (v',l')/\bL z l' v' cg (es++List.replicate n zero)/\l.length<=l'.length/\(∀ b,b<l.length->b≠j->l'[b]? = l[b]?)/\(cg=j\/l.length<=cg)/\(v'=.aG<->v=.aG/\n=0) :=by
 have:=Rb h (xs:=List.replicate n zero) (m:=n) (by simp) (fun e am=>by rw[(List.mem_replicate.1 am).2,jA]) aJ dM dC;obtain⟨v',cg,l',ad,ae⟩:=this;refine⟨v',cg,l',?_,by simpa [List.replicate_eq_nil_iff] using ae⟩;unfold rV;simp only[Int.toNat_natCast];rw[if_pos ⟨by omega,by omega,by have:=Nat.le_trans (Nat.mul_le_mul_right by_ (Nat.le_add_left n es.length)) dC; exact this⟩,Gc];exact ad
theorem acs {l:ap} {z by_ n:Nat} {v v' : U} {xs:List U} {pre rest:ap} {l' : ap} (ao:v=.aG\/∃ j n cap sz,v=.aq z j 0 n cap sz/\pre.length<=j) (h:ja (pre++rest) z by_ v xs n=some (v',l')) :
  ∃ ul,l'=pre++ul:=by
 unfold ja at h;by_cases aC:n=0
 ·rw[if_pos aC] at h;rcases ao with rfl | ⟨j,m,cap,sz,rfl,ai⟩<;>(cases h; exact⟨_,rfl⟩)
 rw[if_neg aC] at h;by_cases aJ:z=0\/by_=0
 ·rw[if_pos aJ] at h; cases h
 rw[if_neg aJ] at h;rcases ao with rfl | ⟨j,m,cap,sz,rfl,ai⟩
 ·simp only at h;split at h
  ·cases h; exact⟨_,by rw[List.append_assoc]⟩
  ·cases h
 ·simp only at h;split at h
  ·split at h
   ·split at h
    ·cases h; exact⟨_,by rw[List.set_append_right _ _ ai]⟩
    ·split at h
     ·cases h; exact⟨_,by rw[List.append_assoc]⟩
     ·split at h
      ·cases h; exact⟨_,by rw[List.set_append_right _ _ ai]⟩
      ·rename_i aT; exact absurd trivial aT
   ·cases h
  ·cases h
theorem wz {z by_:Nat} {v:U} {j:Nat} {es:List (List U)} {pre rest:ap} (h:bL z (pre++rest) v j es) (ai:v=.aG\/pre.length<=j) {x:U} {xs:List (List U)} (ag:de (pre++rest) z x=some (xs.flatten,xs.length)) (vH:∀ e∈xs,e.length=z) (aJ:z≠0) (dM:by_≠0)
  (dC:(es.length+xs.length)*by_<=ci) :
  ∃ v' cg ul,gK (pre++rest) z by_ v x=some (v',pre++ul)/\bL z (pre++ul) v' cg (es++xs)/\(v'=.aG\/pre.length<=cg)/\cz v'=(cz v&&xs.isEmpty) :=by
 have aF:v=.aG\/∃ j n cap sz,v=.aq z j 0 n cap sz/\pre.length<=j:=by
  cases h with
  | nil j=>exact .inl rfl
  | aq j n cap sz cs es=>exact .inr ⟨j,n,cap,sz,rfl,ai.resolve_left (by simp)⟩
 obtain⟨v',cg,l',ad,ae,aj,aD,a2,bv⟩:=oS h ag vH aJ dM dC;have dX:=ad;unfold gK at dX;rw[ag] at dX;obtain⟨ul,rfl⟩:=acs (l:=[]) aF dX;refine⟨v',cg,ul,ad,ae,?_,vJ bv⟩;rcases a2 with h | h
 ·rcases ai with ao | ai
  ·by_cases p1:xs=[]
   ·exact .inl (bv.2 ⟨ao,p1⟩)
   ·right;subst ao;have B9:xs.length≠0:=fun e=>p1 (List.length_eq_zero_iff.1 e)
    simp only at dX;unfold ja at dX;rw[if_neg B9] at dX;split at dX
    ·cases dX
    ·simp only at dX;split at dX
     ·obtain⟨rfl,_⟩:=Prod.mk.inj (Option.some.inj dX);generalize es++xs=E at ae;cases ae;simp
     ·cases dX
  ·right; omega
 ·right;rw[List.length_append] at h; omega
theorem bL.view (h:bL z l v j es) (ao:cz v=false) :∃ n cap sz cs,v=.aq z j 0 n cap sz/\l[j]? = some (.cells sz cs)/\cs.length=sz/\es.length=n/\n*z<=sz/\(∀ i e,es[i]? = some e->∀ m,m<z->cs[i*z+m]? = e[m]?)/\cs.take (n*z)=es.flatten:=by
 cases h with
 | nil j=>simp[cz] at ao
 | aq j n cap sz cs es af al aC aw ah cZ c6=>
  refine⟨n,cap,sz,cs,rfl,af,al,aC,Nat.le_trans (Nat.mul_le_mul_right _ ah) cZ,fun i e am m hm=>?_,c6⟩;have ay:i<es.length:=(List.getElem?_eq_some_iff.1 am).1;have aL:i*z+m<n*z:=by
   have:i*z+z<=es.length*z:=by rw[<-Nat.succ_mul]; exact Nat.mul_le_mul_right _ ay
   rw[aC] at this; omega
  have ad:=nm aw am hm;rw[<-ad,<-c6,List.getElem?_take_of_lt aL]
theorem bL.Gb {α:Type} {enc:α->List U} {xs:List α} (h:bL z l v j (xs.map enc)) (aF:∀ x,mL (enc x)=true) (s:b8 α) (ak:cz v=s.isNone) (ag:s.l=xs) :k3 l v (cc z enc s) :=by
 have ad:=h.J6 (fun e am=>by obtain⟨x,_,rfl⟩:=List.mem_map.1 am; exact aF x);subst ag;unfold um at ad;rw[ak] at ad;cases s with
 | none=>exact ad
 | some s=>exact ad
theorem bL.x3 {α:Type} {enc:α->List U} {xs:List α} (h:bL z l v j (xs.map enc)) (aF:∀ x,a4 (enc x)=true) (s:b8 α) (ak:cz v=s.isNone) (ag:s.l=xs) :gJ (bb l) v (cc z enc s) :=by
 have ad:=h.uk (fun e am=>by obtain⟨x,_,rfl⟩:=List.mem_map.1 am; exact aF x);subst ag;unfold um at ad;rw[ak] at ad;cases s with
 | none=>exact ad
 | some s=>exact ad
end
def CE (h:aO) :Nat->U->Option U
 | 0,_=>none
 | d+1,c=>match c with
  | .aH cs=>match qf (CE h d) cs with | some cs'=>some (.aH cs') | none=>none
  | .bq cs=>match qf (CE h d) cs with | some cs'=>some (.bq cs') | none=>none
  | .aq z b off len cap sz=>match Nat.beq len 0 with
   | true=>some (.a1 z [])
   | false=>match h.f b with
    | .cells n cs=>match Nat.beq n sz&&Nat.ble (off+len*z) cs.length with
     | true=>match qf (CE h d) ((cs.drop off).take (len*z)) with
      | some xs=>some (.a1 z (mJ z len xs))
      | none=>none
     | false=>none
    | _=>none
  | c=>match c.flat with | true=>some c | false=>none
theorem J7 {h:aO} {l:ap} (r:eL h l) :∀ (d:Nat) (c c' : U),CE h d c=some c'->k3 l c c'
 | 0,c,c',ag=>by cases ag
 | d+1,c,c',ag=>by
  unfold CE at ag;split at ag
  ·split at ag
   ·rename_i ad; cases ag;exact .aH _ _ (uj ad) (fun j c c' ah cP=>J7 r d c c' (ui ad j c c' ah cP))
   ·cases ag
  ·split at ag
   ·rename_i ad; cases ag;exact .bq _ _ (uj ad) (fun j c c' ah cP=>J7 r d c c' (ui ad j c c' ah cP))
   ·cases ag
  ·rename_i z b off len cap sz;split at ag
   ·rename_i aJ;cases ag;rw[Nat.eq_of_beq_eq_true aJ];exact .sV z b off cap sz
   ·split at ag
    ·rename_i n cs af;split at ag
     ·rename_i cM;simp only[Bool.and_eq_true] at cM;have aC:=Nat.eq_of_beq_eq_true cM.1;have dN:=Nat.le_of_ble_eq_true cM.2;subst aC;split at ag
      ·rename_i xs ad;cases ag;have bp:=uj ad;simp only[List.length_take,List.length_drop] at bp;have aiL:xs.length=len*z:=by omega
       have fc:∀ (i:Nat),i<len->(mJ z len xs)[i]? = some ((xs.drop (i*z)).take z) :=fun i ay=>Hy len xs i ay
       have eA:∀ i,i<len->i*z+z<=len*z:=fun i ay=>by rw[<-Nat.succ_mul]; exact Nat.mul_le_mul_right _ ay
       refine .aq z b off len cap n cs _ (r.some af (by simp)) (wM _ _) (fun e am=>?_) dN (fun i j e c c' am ai ah=>?_)
       ·obtain⟨i,ay⟩:=List.mem_iff_getElem?.1 am;have ec:i<len:=by
         have:=(List.getElem?_eq_some_iff.1 ay).1;rw[wM] at this; exact this
        rw[fc i ec] at ay;cases ay;have:=eA i ec;simp; omega
       ·have ec:i<len:=by
         have:=(List.getElem?_eq_some_iff.1 am).1;rw[wM] at this; exact this
        rw[fc i ec] at am;cases am;have BH:=eA i ec;have nu:j<z:=by have:=(List.getElem?_eq_some_iff.1 ai).1; simp at this; omega
        rw[List.getElem?_take_of_lt nu,List.getElem?_drop] at ai;refine J7 r d c c' (ui ad (i*z+j) c c' ?_ ai);rw[List.getElem?_take_of_lt (by omega),List.getElem?_drop];exact ah
      ·cases ag
     ·cases ag
    ·cases ag
  ·split at ag
   ·rename_i ah; cases ag; exact .flat _ ah
   ·cases ag
def Z0 (P:Program) (G:Nat->U) [rK P G] (orc:rM) (l4:wq) (fuel k:Nat) (f:FuncId) (args:List U) (r:U) :Bool:=
 match Dw P G orc l4 fuel k f args aO.empty with
 | some (v,h)=>match CE h 20 v with
  | some v'=>U.beq v' r
  | none=>false
 | none=>false
theorem lA {P:Program} {G:Nat->U} [rK P G] (fO:P.follows .mixedOrders=true) (ir:∀ g,(G g).closed=true) {orc:rM} {l4:wq} (av:Da P G orc) (aX:Df P l4) {fuel k:Nat} {f:FuncId} {args:List U} {r:U}
  (ag:Z0 P G orc l4 fuel k f args r=true) :gI P G f args r:=by
 unfold Z0 at ag;split at ag
 ·rename_i v h ah;split at ag
  ·rename_i v' ao;obtain⟨l',az,ae⟩:=Ly av aX fuel k f args aO.empty v h [] eL.nil ah;have:=U.beq_eq ag;subst this;exact Cz fO ir (ae _ (J7 az 20 v v' ao))
  ·cases ag
 ·cases ag
inductive gm (z:Nat) (l:ap) :U->Nat->List (List U)->Prop
 | nil (j:Nat) :gm z l .aG j []
 | aq (j off n cap sz:Nat) (cs:List U) (es:List (List U)) (af:l[j]? = some (.cells sz cs)) (al:cs.length=sz) (aC:es.length=n) (aw:∀ e∈es,e.length=z) (ah:n<=cap) (cZ:off+cap*z<=sz)
   (c6:(cs.drop off).take (n*z)=es.flatten) :gm z l (.aq z j off n cap sz) j es
section
variable {z:Nat} {l l' : ap} {v:U} {j:Nat} {es:List (List U)}
theorem bL.q (h:bL z l v j es) :gm z l v j es:=by
 cases h with
 | nil j=>exact .nil j
 | aq j n cap sz cs es af al aC aw ah cZ c6=>exact .aq j 0 n cap sz cs es af al aC aw ah (by omega) (by simpa using c6)
theorem gm.row (h:gm z l v j es) :∀ e∈es,e.length=z:=by
 cases h with
 | nil j=>intro e am; cases am
 | aq j off n cap sz cs es af al aC aw=>exact aw
theorem gm.lt (h:gm z l v j es) :v=.aG\/j<l.length:=by
 cases h with
 | nil j=>exact .inl rfl
 | aq j off n cap sz cs es af=>exact .inr (cd af)
theorem gm.cells (h:gm z l v j es) :v.cells=some [v] :=by cases h<;>rfl
theorem gm.len (h:gm z l v j es) :cp (.aq z) v=some (.int .i64 es.length) :=by
 cases h with
 | nil j=>rfl
 | aq j off n cap sz cs es af al aC=>subst aC; rfl
theorem gm.jS (h:gm z l v j es) (ai:v=.aG\/l'[j]? = l[j]?) :gm z l' v j es:=by
 cases h with
 | nil j=>exact .nil j
 | aq j off n cap sz cs es af al aC aw ah cZ c6=>
  rcases ai with ai | ai
  ·cases ai
  ·exact .aq j off n cap sz cs es (by rw[ai]; exact af) al aC aw ah cZ c6
theorem gm.more (h:gm z l v j es) (x:ap) :gm z (l++x) v j es:=h.jS (by
 rcases h.lt with h | h
 ·exact .inl h
 ·exact .inr (List.getElem?_append_left h))
theorem gm.OV (h:gm z l .aG j es) :es=[] :=by
 generalize ao:U.aG=w at h;cases h with
 | nil j=>rfl
 | aq=>cases ao
theorem gm.from (h:gm z l v j es) (ao:cz v=false) {k:IntKind} {i:Nat} (ay:i<=es.length) :∃ v',fm (.aq z) v (some (.int k (i:Int))) none none=some v'/\gm z l v' j (es.drop i)/\cz v'=false:=by
 cases h with
 | nil j=>simp[cz] at ao
 | aq j off n cap sz cs es af al aC aw ah cZ c6=>
  subst aC;have vr:i*z+(cap - i)*z=cap*z:=by rw[<-Nat.add_mul]; congr 1; omega
  have Wf:i*z+(es.length - i)*z=es.length*z:=by rw[<-Nat.add_mul]; congr 1; omega
  have dN:es.length*z<=cap*z:=Nat.mul_le_mul_right _ ah;have NW:∀ e∈es.drop i,e.length=z:=fun e am=>aw e (List.mem_of_mem_drop am)
  have hu:(es.drop i).flatten=(es.flatten).drop (i*z) :=by
   have ad:es.flatten=(es.take i).flatten++(es.drop i).flatten:=by rw[<-List.flatten_append,List.take_append_drop]
   have ae:(es.take i).flatten.length=i*z:=by
    rw[qM (z:=z) (fun e am=>aw e (List.mem_of_mem_take am)),List.length_take];congr 1; omega
   rw[ad,<-ae,List.drop_left]
  rw[Gq,RD,if_pos ⟨by omega,by omega⟩];simp only[Int.toNat_natCast,Option.map_some,Option.some.injEq,exists_eq_left'];by_cases fF:cap=i
  ·rw[if_pos fF];have agM:es.drop i=[] :=List.drop_of_length_le (by omega);refine⟨?_,rfl⟩;rw[agM];exact .aq j _ 0 0 sz cs [] af al rfl (by simp) (Nat.le_refl _) (by omega) (by simp)
  ·rw[if_neg fF];refine⟨.aq j _ _ _ sz cs _ af al (by simp) NW (by omega) (by omega) ?_,rfl⟩;rw[hu,<-c6,List.drop_take,List.drop_drop];congr 1; omega
theorem gm.get (h:gm z l v j es) {k:IntKind} {i:Nat} {e:List U} (am:es[i]? = some e) :∃ p cs o,cN (.aq z) v (.int k (i:Int))=some p/\hj l p=some (cs,o)/\o+z<=cs.length/\(cs.drop o).take z=e:=by
 cases h with
 | nil j=>simp at am
 | aq j off n cap sz cs es af al aC aw ah cZ c6=>
  subst aC;have ay:=(List.getElem?_eq_some_iff.1 am).1;have ad:i*z+z<=es.length*z:=by rw[<-Nat.succ_mul]; exact Nat.mul_le_mul_right _ ay
  have ae:es.length*z<=cap*z:=Nat.mul_le_mul_right _ ah;refine⟨.ptr j (off+i*z) sz,cs,off+i*z,?_,?_,by omega,?_⟩
  ·simp only[cN,Int.toNat_natCast];rw[if_pos ⟨trivial,by omega,by omega⟩]
  ·simp only[hj,af,if_true]
  ·have agP:=aw e (List.mem_of_getElem? am);apply List.ext_getElem?;intro m;by_cases hm:m<z
   ·rw[List.getElem?_take_of_lt hm,List.getElem?_drop,<-nm aw am hm,<-c6,List.getElem?_take_of_lt (by omega),List.getElem?_drop];congr 1; omega
   ·rw[List.getElem?_eq_none (by simp; omega),List.getElem?_eq_none (by omega)]
theorem gm.J6 (h:gm z l v j es) (aF:∀ e∈es,mL e=true) :k3 l v (um z v es) :=by
 cases h with
 | nil j=>exact .flat _ rfl
 | aq j off n cap sz cs es af al aC aw ah cZ c6=>
  show k3 l _ (.a1 z es);have sh:off+n*z<=cs.length:=by rw[al]; have:=Nat.mul_le_mul_right z ah; omega
  refine .aq z j off n cap sz cs es af aC aw (by omega) (fun i k e c c' am ar c8=>?_);have ay:i<es.length:=(List.getElem?_eq_some_iff.1 am).1;have zo:k<z:=by rw[<-aw e (List.mem_of_getElem? am)]; exact (List.getElem?_eq_some_iff.1 ar).1
  have aL:i*z+k<n*z:=by
   have:i*z+z<=es.length*z:=by rw[<-Nat.succ_mul]; exact Nat.mul_le_mul_right _ ay
   rw[aC] at this; omega
  have ad:es.flatten[i*z+k]? = some c':=Bh es aw i k e c' am ar;rw[<-c6,List.getElem?_take_of_lt aL,List.getElem?_drop] at ad;rw[ad] at c8;cases c8;exact .flat _ (HM (aF e (List.mem_of_getElem? am)) k _ ar)
theorem gm.uk (h:gm z l v j es) (aF:∀ e∈es,a4 e=true) :gJ (bb l) v (um z v es) :=by
 cases h with
 | nil j=>exact .same _ rfl
 | aq j off n cap sz cs es af al aC aw ah cZ c6=>
  show gJ (bb l) _ (.a1 z es);have sh:off+n*z<=cs.length:=by rw[al]; have:=Nat.mul_le_mul_right z ah; omega
  refine .aq z j off n cap sz cs es (l5.2 af) aC aw (by omega) (fun i k e c c' am ar c8=>?_);have ay:i<es.length:=(List.getElem?_eq_some_iff.1 am).1;have zo:k<z:=by rw[<-aw e (List.mem_of_getElem? am)]; exact (List.getElem?_eq_some_iff.1 ar).1
  have aL:i*z+k<n*z:=by
   have:i*z+z<=es.length*z:=by rw[<-Nat.succ_mul]; exact Nat.mul_le_mul_right _ ay
   rw[aC] at this; omega
  have ad:es.flatten[i*z+k]? = some c':=Bh es aw i k e c' am ar;rw[<-c6,List.getElem?_take_of_lt aL,List.getElem?_drop] at ad;rw[ad] at c8;cases c8;exact .same _ (yR (aF e (List.mem_of_getElem? am)) k _ ar)
theorem gm.rd (h:gm z l v j es) (aF:∀ e∈es,a4 e=true) :eK l v (um z v es) :=by
 cases h with
 | nil j=>exact .same _ rfl
 | aq j off n cap sz cs es af al aC aw ah cZ c6=>
  show eK l _ (.a1 z es);have sh:off+n*z<=cs.length:=by rw[al]; have:=Nat.mul_le_mul_right z ah; omega
  refine .aq z j off n cap sz cs es af aC aw (by omega) (fun i k e c c' am ar c8=>?_);have ay:i<es.length:=(List.getElem?_eq_some_iff.1 am).1;have zo:k<z:=by rw[<-aw e (List.mem_of_getElem? am)]; exact (List.getElem?_eq_some_iff.1 ar).1
  have aL:i*z+k<n*z:=by
   have:i*z+z<=es.length*z:=by rw[<-Nat.succ_mul]; exact Nat.mul_le_mul_right _ ay
   rw[aC] at this; omega
  have ad:es.flatten[i*z+k]? = some c':=Bh es aw i k e c' am ar;rw[<-c6,List.getElem?_take_of_lt aL,List.getElem?_drop] at ad;rw[ad] at c8;cases c8;exact .same _ (yR (aF e (List.mem_of_getElem? am)) k _ ar)
theorem gm.Ac {α:Type} {enc:α->List U} {xs:List α} (h:gm z l v j (xs.map enc)) (aF:∀ x,a4 (enc x)=true) (s:b8 α) (ak:cz v=s.isNone) (ag:s.l=xs) :eK l v (cc z enc s) :=by
 have ad:=h.rd (fun e am=>by obtain⟨x,_,rfl⟩:=List.mem_map.1 am; exact aF x);subst ag;unfold um at ad;rw[ak] at ad;cases s with
 | none=>exact ad
 | some s=>exact ad
theorem gm.Gb {α:Type} {enc:α->List U} {xs:List α} (h:gm z l v j (xs.map enc)) (aF:∀ x,mL (enc x)=true) (s:b8 α) (ak:cz v=s.isNone) (ag:s.l=xs) :k3 l v (cc z enc s) :=by
 have ad:=h.J6 (fun e am=>by obtain⟨x,_,rfl⟩:=List.mem_map.1 am; exact aF x);subst ag;unfold um at ad;rw[ak] at ad;cases s with
 | none=>exact ad
 | some s=>exact ad
theorem gm.x3 {α:Type} {enc:α->List U} {xs:List α} (h:gm z l v j (xs.map enc)) (aF:∀ x,a4 (enc x)=true) (s:b8 α) (ak:cz v=s.isNone) (ag:s.l=xs) :gJ (bb l) v (cc z enc s) :=by
 have ad:=h.uk (fun e am=>by obtain⟨x,_,rfl⟩:=List.mem_map.1 am; exact aF x);subst ag;unfold um at ad;rw[ak] at ad;cases s with
 | none=>exact ad
 | some s=>exact ad
theorem anu {l:ap} {a b c cV aZ c' : U} (ad:eK l a cV) (ae:eK l b aZ) (aj:eK l c c') :eK l (.aH [a,b,c]) (.aH [cV,aZ,c']) :=by
 refine .aH _ _ rfl fun j x GO ag mU=>?_
 rcases j with _ | _ | _ | j
 ·simp at ag mU; subst ag mU; exact ad
 ·simp at ag mU; subst ag mU; exact ae
 ·simp at ag mU; subst ag mU; exact aj
 ·simp at ag
end
theorem acK {P:Program} {t:TypeId} {xs bK:List U} {r:Bool} (ax:P.eqGuardType P.depth t=false) (h:eH P 10000 t (.aH xs) (.aH bK)=some r) :fz P .eql t (.aH xs) (.aH bK)=some (.bool r) :=by
 simp only[fz,uV,ax,Bool.not_false,if_true,h]; rfl
theorem acM {P:Program} {t:TypeId} {xs bK:List U} {r:Bool} (ax:P.eqGuardType P.depth t=false) (h:eH P 10000 t (.aH xs) (.aH bK)=some r) :fz P .neq t (.aH xs) (.aH bK)=some (.bool (!r)) :=by
 simp only[fz,uV,ax,Bool.not_false,if_true,h]; rfl
end Go.bV

namespace Go.bV
open Go Go.ChangeShapes Go.RowKit
theorem al6 (k:Nat) :¬ Own aO.empty (fun _=>none) k:=by
 rintro⟨b,m,al,_,_⟩;simp[aO.empty,aO.f,live,cE.get] at al
theorem afe {H:Type} {enc:TypeId × Value->H} {P:Program} {w:World} {base:Nat} {spare:Nat->Bool} {held:Bool} {fuel:Nat} {Cp:String} {g t e n:Nat} {cs:Array Value} {x:DataW H × List MemPlace} (cm:List Int)
  (ax:P.globalNamed Cp=some g) (ao:w.var? P Cp=some cs) (aM:P.underlying t=some (.array n e)) (am:P.underlying e=some (.int .u32)) (ah:P.cellsOf e=1) (bg:DataW.trod enc P w base spare held fuel t cs.toList=some x)
  (ag:x.1=.agg (cm.map fun k=>.lit (.int .u32 k))) :eh w (fun _=>True) (.bM (cm.map fun k=>.int .u32 k) 0) (.pointer (some ⟨g,0,none⟩)) :=by
 obtain⟨xs,m,rfl,B9,bA,aC,agO⟩:=DataW.trod_array aM bg;rw[B9] at ag;simp only[DataW.agg.injEq] at ag;have tC:cm.length=n:=by have:=congrArg List.length ag; simp at this; omega
 have np:∀ j k,cm[j]? = some k->w.cell? ⟨g,j,none⟩=some (.int .u32 k) :=by
  intro j k ai;have ki:j<n:=by have:=(awQ.1 ai).1; omega
  have ad:=agO j ki;rw[ah,ayt] at ad;have IG:j<xs.length:=by omega
  rw[awT IG] at ad;obtain⟨k',aS,bt,_⟩:=DataW.trod_int am ad;have aj:=congrArg (fun l=>l[j]?) ag;simp only[awV,awT IG,ai,aw0,Option.some.injEq] at aj;rw[bt] at aj;have tB:k'=k:=by simpa using aj
  subst tB;have aD:=World.var?_cell ax ao j;rw[aD];have a2:(cs.toList.drop j)[0]? = some (Value.int .u32 k') :=by
   have:((cs.toList.drop j).take 1)[0]? = some (Value.int .u32 k') :=by rw[aS]; rfl
   rw[List.getElem?_take] at this;simpa using this
  rw[axv] at a2;simpa using a2
 refine .bM _ 0 g 0 (fun j=>.int .u32 (cm.getD j 0)) (fun j ai=>?_) (fun j c ai=>?_)
 ·rw[aw1] at ai;refine⟨?_,rfl,trivial,al6 g⟩;rw[axV,np j cm[j] (awT ai),aw7,awT ai];rfl
 ·rw[awV] at ai;cases ar:cm[j]? with
  | none=>rw[ar] at ai; cases ai
  | some k=>
   rw[ar] at ai;cases ai;rw[aw7,ar];exact .int _ _
theorem aaT {H:Type} {enc:TypeId × Value->H} {P:Program} {w:World} {base:Nat} {spare:Nat->Bool} {held:Bool}:∀ {ts:List TypeId} {vs:List Value} {iH:List (DataW H)} {ps:List MemPlace},
  DataW.TrodAll enc P w base spare held ts vs iH ps->iH.length=ts.length
 | [],vs,iH,ps,h=>by obtain⟨rfl,rfl,rfl⟩:=trodAll_nil h; rfl
 | t::ts,vs,iH,ps,h=>by
  obtain⟨v,qn,d,aef,a,b,rfl,rfl,rfl,ad,ae⟩:=trodAll_cons h;simp[aaT ae]
end Go.bV

namespace Go.bV
open Go
def jE:List (FuncId × Bool × (List U->Option U))->rM
 | [],_=>none
 | e::r,f=>match Nat.beq f e.1 with | true=>some e.2 | false=>jE r f
abbrev uG (P:Program) (G:Nat->U) (e:FuncId × Bool × (List U->Option U)) :Prop:=∀ args r,e.2.2 args=some r->bw P G e.1 args r/\(e.2.1=true->gI P G e.1 args r)
theorem kw {P:Program} {G:Nat->U}:∀ {l:List (FuncId × Bool × (List U->Option U))},(∀ e∈l,uG P G e)->Da P G (jE l)
 | [],_,f,n,g,args,r,aF,_=>by cases aF
 | e::l,h,f,n,g,args,r,aF,ax=>by
  unfold jE at aF;split at aF
  ·rename_i af;have:=axt af;subst this;have am:e.2=(n,g) :=Option.some.inj aF;have:=h e (by simp) args r (by rw[am]; exact ax);rw[am] at this;exact this
  ·exact kw (fun x ag=>h x (by simp[ag])) f n g args r aF ax
def im (P:Program) (G:Nat->U) :List (FuncId × Bool × (List U->Option U))->Prop
 | []=>True
 | e::r=>uG P G e/\im P G r
theorem im.mem {P:Program} {G:Nat->U}:∀ {l:List (FuncId × Bool × (List U->Option U))},im P G l->∀ e∈l,uG P G e
 | e::l,h,x,ag=>by
  rcases axU.1 ag with rfl | ag
  ·exact h.1
  ·exact im.mem h.2 x ag
theorem kE {P:Program} {G:Nat->U}:im P G [] :=trivial
theorem eG {P:Program} {G:Nat->U} {e:FuncId × Bool × (List U->Option U)} {l:List (FuncId × Bool × (List U->Option U))} (h:uG P G e) (ae:im P G l) :im P G (e::l) :=⟨h,ae⟩
def i1:List (List U × U)->List U->Option U
 | [],_=>none
 | e::r,args=>match fN args e.1 with | true=>some e.2 | false=>i1 r args
def C5 (P:Program) (G:Nat->U) (f:FuncId) :List (List U × U)->Prop
 | []=>True
 | e::r=>gI P G f e.1 e.2/\C5 P G f r
theorem jO {P:Program} {G:Nat->U} {f:FuncId}:C5 P G f [] :=trivial
theorem gW {P:Program} {G:Nat->U} {f:FuncId} {a:List U} {r:U} {l:List (List U × U)} (h:gI P G f a r) (ae:C5 P G f l) :C5 P G f ((a,r) ::l) :=⟨h,ae⟩
theorem jG {P:Program} {G:Nat->U} {f:FuncId}:∀ {l:List (List U × U)},C5 P G f l->uG P G (f,true,i1 l)
 | [],_,args,r,h=>by cases h
 | e::l,ar,args,r,h=>by
  simp only[i1] at h;split at h
  ·rename_i af;cases h;rw[uN af];exact⟨ar.1.Gw,fun _=>ar.1⟩
  ·exact jG ar.2 args r h
def bl (l:List Nat) :List U:=l.map fun n=>.int .u8 (.ofNat n)
def cq (n:Int) :U:=.int .i64 n
def hN (l:List U) :List (List U) :=l.map fun c=>[c]
end Go.bV

namespace Go.bV
open Go Go.Proofs Go.Shelf Go.Sort Go.RowKit
def sorted {X:Type} (ado:X->X->Int) (xs:List X) :List X:=xs.mergeSort fun x y=>!ltOf ado y x
section
variable {P:Program} {G:Nat->U} {X:Type} {enc:X->List U} {k:Nat}
theorem ZO (ar:∀ x,(enc x).length=k) (xs:List X) {j:Nat} (ai:j<xs.length*k) :∃ x c,xs[j / k]? = some x/\(enc x)[j % k]? = some c/\((xs.map enc).flatten)[j]? = some c:=by
 have EL:0<k:=Nat.pos_of_ne_zero fun h=>by subst h; simp at ai
 have ad:j / k<xs.length:=Nat.div_lt_of_lt_mul (by rw[azG]; exact ai);have ae:j % k<k:=ayO _ EL;refine⟨xs[j / k],(enc xs[j / k])[j % k]'(by rw[ar]; exact ae),awT ad,awT _,?_⟩;have aj:(xs.map enc)[j / k]? = some (enc xs[j / k]) :=by rw[awV,awT ad]; rfl
 have aD:=nm (z:=k) (fun e am=>by obtain⟨x,_,rfl⟩:=axi.1 am; exact ar x) aj ae;rw[azG,Nat.div_add_mod] at aD;rw[aD];exact awT _
end

end Go.bV

namespace Go.bV
open Go
section
variable {P:Program} {l:ap} {aB:Operand->U}
@[simp ↓] theorem avo:bU P aB l (.vU none)=some (.mp l.length,l++[.map [] 0]) :=id rfl
@[simp ↓] theorem avj (cS:TypeId) (zero:U) (ok:Bool) (m k:Operand) :bU P aB l (.zV cS zero ok m k)=dQ l (Ck P l cS zero ok (aB m) (aB k)) :=id rfl
@[simp ↓] theorem avq (cS:TypeId) (m k x:Operand) :bU P aB l (.xP cS m k x)=(xM P l cS (aB m) (aB k) (aB x)).map fun l'=>(gU,l') :=id rfl
@[simp ↓] theorem avi (x:Operand) :bU P aB l (.xH x)=dQ l (FH l (aB x)) :=id rfl
@[simp ↓] theorem avv (x:Operand) :bU P aB l (.x6 x)=CC l (aB x) :=id rfl
@[simp ↓] theorem avt (x:Operand) :bU P aB l (.xT x)=vV l (aB x) :=id rfl
@[simp ↓] theorem aux (x:Option Operand) (v:U) (K:U->ap->Prop) :eC (.vU x) v l K=K v l:=id rfl
@[simp ↓] theorem aus (cS:TypeId) (zero:U) (ok:Bool) (m k:Operand) (v:U) (K:U->ap->Prop) :eC (.zV cS zero ok m k) v l K=K v l:=id rfl
@[simp ↓] theorem auz (cS:TypeId) (m k x:Operand) (v:U) (K:U->ap->Prop) :eC (.xP cS m k x) v l K=K v l:=id rfl
@[simp ↓] theorem aur (x:Operand) (v:U) (K:U->ap->Prop) :eC (.xH x) v l K=K v l:=id rfl
@[simp ↓] theorem auE (x:Operand) (v:U) (K:U->ap->Prop) :eC (.x6 x) v l K=K v l:=id rfl
@[simp ↓] theorem auC (x:Operand) (v:U) (K:U->ap->Prop) :eC (.xT x) v l K=K v l:=id rfl
end

section
variable {z:Nat} {l l' : ap} {v:U} {j:Nat} {es:List (List U)}
theorem yO (h:bL z l v j es) {by_:Nat} {x:U} {xs:List (List U)} (ag:de l z x=some (xs.flatten,xs.length)) (vH:∀ e∈xs,e.length=z) (aJ:z≠0) (dM:by_≠0) (dC:(es.length+xs.length)*by_<=ci) :
  ∃ v' cg l',gK l z by_ v x=some (v',l')/\bL z l' v' cg (es++xs)/\l.length<=l'.length/\(∀ b,b<l.length->v=.aG\/b≠j->l'[b]? = l[b]?)/\(l.length<=cg\/(v≠.aG/\cg=j)\/v'=.aG)/\cz v'=(cz v&&xs.isEmpty) :=by
 by_cases ao:v=.aG
 ·subst ao;have am:es=[] :=h.q.OV;subst am;obtain⟨v',cg,l1,ad,ae,aj,aD,a2,bv⟩:=oS (.nil (z:=z) (l:=l) (l.length+1)) ag vH aJ dM dC;refine⟨v',cg,l1,ad,ae,aj,fun b af _=>aD b af (by omega),?_,vJ bv⟩;rcases a2 with a2 | a2
  ·exact .inl (by omega)
  ·exact .inl a2
 ·obtain⟨v',cg,l1,ad,ae,aj,aD,a2,bv⟩:=oS h ag vH aJ dM dC;refine⟨v',cg,l1,ad,ae,aj,fun b af aC=>aD b af (aC.resolve_left ao),?_,vJ bv⟩;rcases a2 with a2 | a2
  ·exact .inr (.inl ⟨ao,a2⟩)
  ·exact .inl a2
theorem bL.b1 (h:bL z l v j es) (aF:∀ b,b<l.length->b=j->l'[b]? = l[b]?) :bL z l' v j es:=h.frame fun ai=>aF j ai rfl
theorem cU.HO {K:U->ap->Prop} (h:bL z l v j es) (ao:cz v=false) (aY:K (.a1 z es) (l.set j .dead)) :cU v l (c:=⟨K⟩) :=by
 cases h with
 | nil j=>cases ao
 | aq j n cap sz cs es af al aC aw ah cZ c6=>
 have aL:=cd af;have bg:(bb (l.set j .dead)).f j=.dead:=by rw[k2,aw4,if_pos rfl,if_pos aL]
 have dN:n*z<=cap*z:=awX _ ah;refine .inr ⟨_,_,⟨by simp,fun aZ=>?_⟩,.aq z j 0 n cap sz cs es (l5.2 af) bg aC aw (by omega) (fun i k e c c' am ar mf=>?_),aY⟩
 ·by_cases ca:aZ=j
  ·subst ca; exact .inr ⟨sz,cs,l5.2 af,.inl bg⟩
  ·left;rw[k2,k2,aw4,if_neg (by omega)]
 ·have zo:k<z:=by rw[<-aw e (awY am)]; exact (awQ.1 ar).1
  have ay:=(awQ.1 am).1;have hm:i*z+z<=n*z:=by rw[<-axw]; exact awX _ (by omega)
  have ad:=nm aw am zo;rw[<-c6,axm (by omega),ar] at ad;rw[axV,ad] at mf;cases mf;exact .same _
end
inductive nR where
 | b
 | i (k:IntKind)
 | s
def Qi:nR->U->Bool
 | .b,.bool _=>true
 | .i k,.int k' _=>decide (k=k')
 | .s,.str _=>true
 | _,_=>false
def jD:List nR->List U->Bool
 | [],[]=>true
 | k::cm,c::cs=>Qi k c&&jD cm cs
 | _,_=>false
theorem FU:∀ {cm:List nR} {cs:List U},jD cm cs=true->cs.length=cm.length
 | [],[],_=>rfl
 | [],_::_,h=>by cases h
 | _::_,[],h=>by cases h
 | k::cm,c::cs,h=>by simp only[jD,awZ] at h; simp[FU h.2]
theorem FV:∀ {l r:List nR} {m:List U},jD (l++r) m=true->∃ e0 eR,m=e0++eR/\jD l e0=true/\jD r eR=true
 | [],r,m,h=>⟨[],m,rfl,rfl,h⟩
 | k::l,r,[],h=>by cases h
 | k::l,r,c::m,h=>by
  simp only[axK,jD,awZ] at h;obtain⟨e0,eR,rfl,ad,ae⟩:=FV h.2;exact⟨c::e0,eR,rfl,by simp[jD,h.1,ad],ae⟩
theorem Yt {k:IntKind} {xs:List U} (h:jD [.i k] xs=true) :∃ p,xs=[.int k p] :=by
 cases xs with
 | nil=>cases h
 | cons c r=>
  simp only[jD,awZ] at h;cases r with
  | cons _ _=>cases h.2
  | nil=>
   cases c<;>simp only[Qi] at h<;>try (cases h.1; done)
   rename_i k' p;have ar:k=k':=by simpa using h.1
   subst ar;exact⟨p,rfl⟩
theorem Ll:∀ {ka jq jM rG:List U},ka.length=jq.length->fN (ka++jM) (jq++rG)=(fN ka jq&&fN jM rG)
 | [],[],_,_,_=>by simp[fN]
 | [],_::_,_,_,h=>by simp at h
 | _::_,[],_,_,h=>by simp at h
 | a::ka,b::jq,jM,rG,h=>by
  simp only[axa,Nat.add_right_cancel_iff] at h;simp only[axK,fN,Ll h,Bool.and_assoc]
section
variable (P:Program)
def Jt (f:TypeId->Option (List nR)) :List Field->Nat->Option (List nR)
 | [],_=>some []
 | fd::fs,o=>match f fd.type,cC P fd.type with
  | some l,some z=>match fd.name != "_"&&Nat.beq fd.offset o&&Nat.beq l.length z with
   | true=>match Jt f fs (o+z) with
    | some r=>some (l++r)
    | none=>none
   | false=>none
  | _,_=>none
def tY:Nat->TypeId->Option (List nR)
 | 0,_=>none
 | d+1,t=>match P.underlying t with
  | some .bool=>some [.b]
  | some (.int k)=>some [.i k]
  | some .string=>some [.s]
  | some (.array n e)=>match tY d e,cC P e with
   | some l,some z=>match Nat.beq l.length z with
    | true=>some (List.replicate n l).flatten
    | false=>none
   | _,_=>none
  | some (.struct fs)=>match P.stoodInHeld t with
   | false=>Jt P (tY d) fs.toList 0
   | true=>none
  | _=>none
def ma (t:TypeId) (l:List U) :Option U:=match ev P t with
 | some true=>some (.aH l)
 | some false=>l[0]?
 | none=>none
end
variable {P:Program}
theorem JU {t:TypeId} {z:Nat} (aw:cC P t=some z) {pre mid post:List U} (hm:mid.length=z) (ax:ev P t=some false->mid.length=1) :iB P t (pre++(mid++post)) pre.length=ma P t mid:=by
 unfold iB ma;rw[aw];cases aE:ev P t with
 | none=>rfl
 | some g=>
  cases g with
  | true=>
   simp only;rw[if_pos (by simp; omega),List.drop_left,axs (by omega),awR (by omega)]
  | false=>
   have:=ax aE;simp only;rw[aw6 (by omega),ayV,awS (by omega)]
def EqAt (P:Program) (f:TypeId->Option (List nR)) (eq:TypeId->U->U->Option Bool) :Prop:=
 ∀ t cm,f t=some cm->(ev P t=some false->cm.length=1)/\∀ xs bK,jD cm xs=true->jD cm bK=true->∃ a b,ma P t xs=some a/\ma P t bK=some b/\eq t a b=some (fN xs bK)
theorem T7 {f:TypeId->Option (List nR)} {eq:TypeId->U->U->Option Bool} (am:EqAt P f eq) :∀ (fs:List Field) (o:Nat) (cm:List nR),Jt P f fs o=some cm->∀ (qd qe cL p4:List U),qd.length=o->qe.length=o->jD cm cL=true->jD cm p4=true->
  eH.eqFields P eq (qd++cL) (qe++p4) fs=some (fN cL p4)
 | [],o,cm,h,qd,qe,cL,p4,ag,aI,sx,vO=>by
  cases h;cases cL with
  | nil=>cases p4 with | nil=>rfl | cons _ _=>cases vO
  | cons _ _=>cases sx
 | fd::fs,o,cm,h,qd,qe,cL,p4,ag,aI,sx,vO=>by
  unfold Jt at h;split at h
  ·rename_i l z al aw;split at h
   ·rename_i ah;simp only[awZ,bne_iff_ne,ne_eq] at ah;split at h
    ·rename_i r az;cases h;obtain⟨ka,jM,rfl,a8,bh⟩:=FV sx;obtain⟨jq,rG,rfl,cT,dw⟩:=FV vO;have av:fd.offset=o:=axt ah.1.2;have IR:l.length=z:=axt ah.2;obtain⟨aK,aW⟩:=am _ _ al;obtain⟨a,b,r1,r2,yY⟩:=aW ka jq a8 cT;have OE:=FU a8;have OG:=FU cT;unfold eH.eqFields;rw[if_neg ah.1.1,av];rw[show iB P fd.type (qd++(ka++jM)) o=some a by rw[<-ag,JU aw (by omega) (fun h=>by rw[OE]; exact aK h)]; exact r1];rw[show iB P fd.type (qe++(jq++rG)) o=some b by rw[<-aI,JU aw (by omega) (fun h=>by rw[OG]; exact aK h)]; exact r2];simp only[yY];rw[Ll (by omega)];have aR:=T7 am fs (o+z) r az (qd++ka) (qe++jq) jM rG (by simp; omega) (by simp; omega) bh dw;rw[axH,axH] at aR;cases fN ka jq with
     | true=>simpa using aR
     | false=>simp
    ·cases h
   ·cases h
  ·cases h
theorem T6 {eq:TypeId->U->U->Option Bool} {e:TypeId} {l:List nR} {z:Nat} (aw:cC P e=some z) (IR:l.length=z) (ax:ev P e=some false->l.length=1)
  (am:∀ xs bK,jD l xs=true->jD l bK=true->∃ a b,ma P e xs=some a/\ma P e bK=some b/\eq e a b=some (fN xs bK)) :∀ (n i:Nat) (qd qe cL p4:List U),qd.length=i*z->qe.length=i*z->jD (List.replicate n l).flatten cL=true->jD (List.replicate n l).flatten p4=true->
  eH.tq P eq e z (qd++cL) (qe++p4) n i=some (fN cL p4)
 | 0,i,qd,qe,cL,p4,ag,aI,sx,vO=>by
  simp only[List.replicate_zero,List.flatten_nil] at sx vO;cases cL with
  | nil=>cases p4 with | nil=>rfl | cons _ _=>cases vO
  | cons _ _=>cases sx
 | n+1,i,qd,qe,cL,p4,ag,aI,sx,vO=>by
  rw[axJ,axD] at sx vO;obtain⟨ka,jM,rfl,a8,bh⟩:=FV sx;obtain⟨jq,rG,rfl,cT,dw⟩:=FV vO;obtain⟨a,b,r1,r2,yY⟩:=am ka jq a8 cT;have OE:=FU a8;have OG:=FU cT;unfold eH.tq;rw[show iB P e (qd++(ka++jM)) (i*z)=some a by rw[<-ag,JU aw (by omega) (fun h=>by rw[OE]; exact ax h)]; exact r1];rw[show iB P e (qe++(jq++rG)) (i*z)=some b by rw[<-aI,JU aw (by omega) (fun h=>by rw[OG]; exact ax h)]; exact r2];simp only[yY];rw[Ll (by omega)];have aR:=T6 aw IR ax am n (i+1) (qd++ka) (qe++jq) jM rG (by simp[axw]; omega) (by simp[axw]; omega) bh dw;rw[axH,axH] at aR;cases fN ka jq with
  | true=>simpa using aR
  | false=>simp
theorem LW:∀ (d D:Nat),d<=D->EqAt P (tY P d) (eH P D)
 | 0,D,_,t,cm,h=>by cases h
 | d+1,0,bg,t,cm,h=>by omega
 | d+1,D+1,bg,t,cm,h=>by
  have aR:=LW d D (by omega);unfold tY at h;split at h
  ·rename_i aM;have aE:ev P t=some false:=by unfold ev; rw[aM]; rfl
   cases h;refine⟨fun _=>rfl,fun xs bK ag aI=>?_⟩
   match xs,bK,ag,aI with
   | [.bool p],[.bool q],_,_=>
    refine⟨.bool p,.bool q,by simp[ma,aE],by simp[ma,aE],?_⟩;unfold eH; rw[aM];cases p<;>cases q<;>rfl
  ·rename_i k aM;have aE:ev P t=some false:=by unfold ev; rw[aM]; rfl
   cases h;refine⟨fun _=>rfl,fun xs bK ag aI=>?_⟩;obtain⟨p,rfl⟩:=Yt ag;obtain⟨q,rfl⟩:=Yt aI
   ·refine⟨.int k p,.int k q,by simp[ma,aE],by simp[ma,aE],?_⟩;unfold eH; rw[aM];by_cases h:p=q<;>simp[fN,U.beq,h]
  ·rename_i aM;have aE:ev P t=some false:=by unfold ev; rw[aM]; rfl
   cases h;refine⟨fun _=>rfl,fun xs bK ag aI=>?_⟩
   match xs,bK,ag,aI with
   | [.str p],[.str q],_,_=>
    refine⟨.str p,.str q,by simp[ma,aE],by simp[ma,aE],?_⟩;unfold eH; rw[aM];by_cases h:p=q<;>simp[fN,U.beq,h]
  ·rename_i n e aM;have aE:ev P t=some true:=by unfold ev; rw[aM]; rfl
   split at h
   ·rename_i l z al aw;split at h
    ·rename_i IR;cases h;obtain⟨aK,aW⟩:=aR _ _ al;refine⟨fun h=>(by rw[aE] at h; cases h),fun xs bK ag aI=>⟨.aH xs,.aH bK,by simp[ma,aE],by simp[ma,aE],?_⟩⟩;unfold eH; rw[aM];simp only[aw];exact T6 aw (axt IR) aK aW n 0 [] [] xs bK (by simp) (by simp) ag aI
    ·cases h
   ·cases h
  ·rename_i fs aM;have aE:ev P t=some true:=by unfold ev; rw[aM]; rfl
   split at h
   ·rename_i ak;refine⟨fun h=>(by rw[aE] at h; cases h),fun xs bK ag aI=>⟨.aH xs,.aH bK,by simp[ma,aE],by simp[ma,aE],?_⟩⟩;unfold eH; rw[aM];simp only[ak,ax8,if_false];exact T7 aR fs.toList 0 cm h [] [] xs bK rfl rfl ag aI
   ·cases h
  ·cases h
theorem Hj {t:TypeId} {cm:List nR} (ar:tY P 20 t=some cm) (aE:ev P t=some true) (ax:P.eqGuardType P.depth t=false) {xs bK:List U} (ag:jD cm xs=true) (aI:jD cm bK=true) :fz P .eql t (.aH xs) (.aH bK)=some (.bool (fN xs bK)) :=by
 obtain⟨a,b,r1,r2,yY⟩:=(LW (P:=P) 20 10000 (by omega) t cm ar).2 xs bK ag aI;simp only[ma,aE,Option.some.injEq] at r1 r2;subst r1; subst r2;exact acK ax yY
theorem RA {t:TypeId} {cm:List nR} (ar:tY P 20 t=some cm) (aE:ev P t=some true) (ax:P.eqGuardType P.depth t=false) {xs bK:List U} (ag:jD cm xs=true) (aI:jD cm bK=true) :fz P .neq t (.aH xs) (.aH bK)=some (.bool (!fN xs bK)) :=by
 obtain⟨a,b,r1,r2,yY⟩:=(LW (P:=P) 20 10000 (by omega) t cm ar).2 xs bK ag aI;simp only[ma,aE,Option.some.injEq] at r1 r2;subst r1; subst r2;exact acM ax yY
end Go.bV

/-
  The canonical machine, part T: small operations, without types.
-/
import Derived.Test.YtdjbnhgdhambnaaGreatDoorVc
set_option maxHeartbeats 16000000
set_option maxRecDepth 100000
set_option linter.unusedVariables false
set_option linter.unusedSimpArgs false
set_option linter.unnecessarySimpa false
namespace Go.bh
open Go
def fN (l:ae) :U->Option (ag × Nat)
 | .ptr b g h=>match l[b]? with
  | some (.cells n cs)=>if n=h then some (cs,g) else none
  | _=>none
 | .b6 cs g=>some (cs,g)
 | _=>none
def sx (n:Nat) (cs:ag) (off:Nat) :Option U:=if off+n<=cs.length then some (.af ((cs.drop off).take n)) else none
def jP (n:Nat) (l:ae) (p v:U) :Option ae:=
 match p,v.cells with
 | .ptr b h m,some j=>match l[b]? with
  | some (.cells g cs)=>if g=m/\j.length=n/\h+n<=g then some (l.set b (.cells g (av cs h j))) else none
  | _=>none
 | _,_=>none
def cq (l:ae) (z:Nat) :U->Option (ag × Nat)
 | .ad=>some ([],0)
 | .bu g h=>if z=g then some (h.flatten,h.length) else none
 | .Z g b j len _ m=>match l[b]? with
  | some (.cells n cs)=>if n=m/\z=g then some ((cs.drop j).take (len*z),len) else none
  | _=>none
 | .str s=>if z=1 then some (s.map hr,s.length) else none
 | _=>none
def hq (l:ae) (z by_:Nat) (s:U) (xs:ag) (n:Nat) :Option (U × ae):=
 if n=0 then (match s with | .ad | .bu .. | .Z ..=>some (s,l) | _=>none)
 else if z=0\/by_=0 then none else match s with
  | .ad=>if n*by_<=dj then some (.Z z l.length 0 n n (n*z),l++[.cells (n*z) xs]) else none
  | .Z m b g len cap h=>match l[b]? with
   | some (.cells j cs)=>
    if j=h/\z=m/\(len+n)*by_<=dj then
     if len+n<=cap then some (.Z z b g (len+n) cap h,l.set b (.cells j (av cs (g+len*z) xs)))
     else if g+cap*z<h then some (.Z z l.length 0 (len+n) (len+n) ((len+n)*z),l++[.cells ((len+n)*z) ((cs.drop g).take (len*z)++xs)])
     else if g=0 then some (.Z z b 0 (len+n) (len+n) ((len+n)*z),l.set b (.cells ((len+n)*z) (cs.take (len*z)++xs)))
     else some (.Z z l.length 0 (len+n) (len+n) ((len+n)*z),l.set b .dead++[.cells ((len+n)*z) ((cs.drop g).take (len*z)++xs)])
    else none
   | _=>none
  | _=>none
def yB (z:Nat) (l:ae) (d x:U) :Option (U × ae):=
 match cq l z x with
 | none=>none
 | some (m,n)=>match d with
  | .ad=>some (.int .i64 0,l)
  | .Z o b h len _ j=>match l[b]? with
   | some (.cells g cs)=>if g=j/\z=o then some (.int .i64 ((min n len:Nat) :Int),l.set b (.cells g (av cs h (m.take (min n len*z))))) else none
   | _=>none
  | _=>none
def uj (l:ae) :U->Option (List (U × U × Nat))
 | .gY=>some []
 | .mp b=>match l[b]? with | some (.map g _)=>some g | _=>none
 | _=>none
def pz (l:ae) (x:U) :Option (List UInt8):=match x with
 | .str s=>some s
 | x=>match cq l 1 x with
  | some (cs,_)=>jZ cs
  | none=>none
def cmpL (l:ae) (x y:U) :Option U:=match pz l x,pz l y with
 | some a,some b=>some (.int .i64 (lW a b))
 | _,_=>none
def cP (l:ae) (x:U) :Option (U × ae):=match x with
 | .it b=>match l[b]? with
  | some (.iter s pos)=>match Nat.blt pos s.length with
   | true=>some (.aX [.bool true,.int .i64 pos,.int .i32 (Utf8.decode ⟨s.toArray⟩ pos).1],l.set b (.iter s (pos+(Utf8.decode ⟨s.toArray⟩ pos).2)))
   | false=>some (.aX [.bool false],l)
  | _=>none
 | _=>none
def xe (l:ae) (x:U) :Option (U × ae):=match x with
 | .str s=>some (.it l.length,l++[.iter s 0])
 | _=>none
def C5 (l:ae) (x:U) :Option U:=match x with
 | .gY=>some (.int .i64 0)
 | .mp b=>match l[b]? with | some (.map g _)=>some (.int .i64 g.length) | _=>none
 | _=>none
def pC (zero:ag) (l:ae) :U->Option ae
 | .ad=>some l
 | .bu _ []=>some l
 | .Z m b h len _ j=>if len=0 then some l else match l[b]? with
  | some (.cells g cs)=>if g=j/\zero.length=m then some (l.set b (.cells g (av cs h (cQ zero len)))) else none
  | _=>none
 | _=>none
theorem KI (l:ae) (p:U) :mg (aZ l) p=fN l p:=by
 cases p<;>try rfl
 rename_i b g h;simp only[mg,fN,jW];cases l[b]? with
 | none=>rfl
 | some c=>cases c<;>rfl
theorem yA (l:ae) (z:Nat) (x:U) :contents (aZ l) z x=cq l z x:=by
 cases x<;>try rfl
 rename_i j b g len cap h;simp only[contents,cq,jW];cases l[b]? with
 | none=>rfl
 | some c=>cases c<;>rfl
section
variable (P:bp)
inductive h7 where
 | arr (n g:Nat)
 | Z (g:Nat)
 | str
 deriving DecidableEq
def mm (t:aG) :Option h7:=match P.underlying t with
 | some (.array n e)=>(ca P e).map fun g=>.arr n g
 | some (.slice e)=>(ca P e).map fun g=>.Z g
 | some .string=>some .str
 | _=>none
inductive dy where
 | dU (x:aY)
 | pick (c a b:aY)
 | alloc (zero:ag)
 | box (x:aY)
 | yl (zero:ag) (v:List (Nat × Nat × aY))
 | qH (g:Nat) (zero:ag) (len:Nat) (v:List (Nat × aY))
 | ld1 (a:aY)
 | j8 (n:Nat) (a:aY)
 | st (n:Nat) (a x:aY)
 | zA (x:aY)
 | bin (t:BinOp) (o:aG) (x y:aY)
 | un (t:UnOp) (x:aY)
 | vR (k:cU) (x:aY)
 | Hf (x:aY)
 | tG (x:aY)
 | yE (x:aY)
 | Dh (o:aG) (x:aY)
 | EU (o:aG) (g:U) (u:Bool) (x:aY)
 | wO (f:cj) (first e3:List aY)
 | sr (g j:Nat) (zero:ag) (l c:aY)
 | slice (h:h7) (x:aY) (B z C:Option aY)
 | nF (m:Nat) (x:aY)
 | HU (m:Nat) (x:aY)
 | yX (n m:Nat) (x:aY)
 | sk (h:h7) (x i:aY)
 | za (n g:Nat) (x i:aY)
 | IA (n g:Nat) (x i:aY)
 | zc (x i:aY)
 | ext (x:aY) (i:Nat)
 | len (h:h7) (x:aY)
 | cap (h:h7) (x:aY)
 | app (g j:Nat) (s x:aY)
 | tt (g j:Nat) (zero:ag) (s x:aY)
 | yD (g:Nat) (d x:aY)
 | tJ (zero:ag) (x:aY)
 | min (x y:aY)
 | max (x y:aY)
 | uk (x:Option aY)
 | wH (p:aG) (zero:U) (u:Bool) (q k:aY)
 | um (p:aG) (q k x:aY)
 | zh (x:aY)
 | uJ (x:aY)
 | us (x:aY)
 | bP (f:cj) (w x y:aY)
 | stop
def wI (l:ae) (g:aG) (zero:U) (h:Bool) (m k:U) :Option U:=
 match uj l m with
 | some o=>match kN P g k with
  | false=>none
  | true=>match j5 P g k o 0 with
   | some (some (_,j))=>some (if h then .aX [j,.bool true] else j)
   | some none=>some (if h then .aX [zero,.bool false] else zero)
   | none=>none
 | none=>none
def sp (l:ae) (j:aG) (m k v:U) :Option ae:=
 match m with
 | .mp b=>match l[b]? with
  | some (.map h g)=>match kN P j k with
   | false=>none
   | true=>match j5 P j k h 0 with
    | some (some (i,_))=>some (l.set b (.map (h.modify i fun e=>(k,v,e.2.2)) g))
    | some none=>some (l.set b (.map (h++[(k,v,g)]) (g+1)))
    | none=>none
  | _=>none
 | _=>none
def y9 (f:cj) :U->Bool | .fn g [] []=>Nat.beq g f | _=>false
def zQ (c a b:U) :Option U:=match c with | .bool g=>some (if g then a else b) | _=>none
def zB (x:U) :Option U:=match x with | .ptr b g s=>some (.ptr b g s) | .b6 c g=>some (.b6 c g) | .fn f a b=>some (.fn f a b) | _=>none
def ny (zero:ag) :List (Nat × Nat × U)->Option (ag)
 | []=>some zero
 | (g,size,j) ::r=>match j.cells with
  | some h=>if h.length=size/\g+size<=zero.length then ny (av zero g h) r else none
  | none=>none
def vS (k:cU) :U->Option U | .int _ n=>some (.int k (k.wrap n)) | _=>none
def Hg:U->Option U | .str s=>some (.str s) | _=>none
def pA (l:ae) (x:U) :Option U:=match x with
 | .ad=>some (.str [])
 | .str _=>none
 | x=>match cq l 1 x with | some (cs,_)=>(jZ cs).map .str | none=>none
def r5:U->Option U | .str s=>some (.bu 1 (s.map fun b=>[hr b])) | _=>none
def l6 (z by_:Nat) (zero:ag) (g:ae) (l c:U) :Option (U × ae):=match l,c with
 | .int _ l,.int _ c=>if 0<=l/\l<=c/\c<9223372036854775808/\by_*c<=dj then
   some (.Z z g.length 0 l.toNat c.toNat (c.toNat*z),g++[.cells (c.toNat*z) (cQ zero c.toNat)]) else none
 | _,_=>none
def dw (w:h7) (x:U) (p o q:Option U) :Option U:=
 match w with
 | .arr n g=>match e2 n n p o q with
  | some (l,h,m)=>match x with
   | .ptr b j t=>if j+m*g<=t then (if m=l then some (.bu g []) else some (.Z g b (j+l*g) (h - l) (m - l) t)) else none
   | .b6 cs j=>if j+n*g<=cs.length then some (.bu g (lV g (h - l) (cs.drop (j+l*g)))) else none
   | _=>none
  | none=>none
 | .Z g=>match x with
  | .Z v b j len cap t=>if g=v then (e2 len cap p o q).map fun (l,h,m)=>if m=l then .Z g b (j+l*g) 0 0 t else .Z g b (j+l*g) (h - l) (m - l) t else none
  | .bu v u=>if g=v then (e2 u.length u.length p o q).map fun (l,h,_)=>.bu g ((u.drop l).take (h - l)) else none
  | .ad=>(e2 0 0 p o q).map fun _=>.ad
  | _=>none
 | .str=>match x,q with
  | .str s,none=>(e2 s.length s.length p o none).map fun (l,h,_)=>.str ((s.drop l).take (h - l))
  | _,_=>none
def HV (off:Nat) :U->Option U | .af cs=>cs[off]? | _=>none
def yY (n off:Nat) :U->Option U | .af cs=>sx n cs off | _=>none
def bQ (q:h7) (x m:U) :Option U:=
 match m with
 | .int _ i=>match q with
  | .arr n g=>if 0<=i/\i<n then lh x (i.toNat*g) else none
  | .Z g=>match x with
   | .Z h b o len _ p=>if g=h/\0<=i/\i<len then some (.ptr b (o+i.toNat*g) p) else none
   | .bu h j=>if g=h/\0<=i then (j[i.toNat]?).map fun cs=>.b6 cs 0 else none
   | _=>none
  | .str=>none
 | _=>none
def zb (n z:Nat) (x g:U) :Option U:=match x,g with
 | .af cs,.int _ i=>if 0<=i/\i<n then cs[i.toNat*z]? else none
 | _,_=>none
def IB (n z:Nat) (x g:U) :Option U:=match x,g with
 | .af cs,.int _ i=>if 0<=i/\i<n then sx z cs (i.toNat*z) else none
 | _,_=>none
def tZ (x g:U) :Option U:=match x,g with
 | .str s,.int _ i=>if 0<=i then (s[i.toNat]?).map hr else none
 | _,_=>none
def yQ (x:U) (i:Nat) :Option U:=match x with | .aX g=>g[i]? | _=>none
def bD (h:h7) (x:U) :Option U:=match h with
 | .arr n _=>some (.int .i64 n)
 | .Z _=>match x with
  | .ad=>some (.int .i64 0)
  | .Z _ _ _ len _ _=>some (.int .i64 len)
  | .bu _ g=>some (.int .i64 g.length)
  | _=>none
 | .str=>match x with | .str s=>some (.int .i64 s.length) | _=>none
def rY (g:h7) (x:U) :Option U:=match g with
 | .arr n _=>some (.int .i64 n)
 | .Z _=>match x with | .ad=>some (.int .i64 0) | _=>none
 | .str=>none
def dZ (l:ae) (z by_:Nat) (s x:U) :Option (U × ae):=match cq l z x with
 | none=>none
 | some (g,n)=>hq l z by_ s g n
def ow (l:ae) (z by_:Nat) (zero:ag) (s x:U) :Option (U × ae):=match x with
 | .int _ n=>if 0<=n/\n<9223372036854775808/\n.toNat*by_<=dj then hq l z by_ s (cQ zero n.toNat) n.toNat else none
 | _=>none
def dr (l:ae) (x:Option U) :Option (U × ae):=x.map fun g=>(g,l)
def bT (g:aY->U) (l:ae) :dy->Option (U × ae)
 | .dU x=>some (g x,l)
 | .pick c a b=>dr l (zQ (g c) (g a) (g b))
 | .alloc zero=>some (.ptr l.length 0 zero.length,l++[.cells zero.length zero])
 | .box x=>(g x).cells.map fun cs=>(.ptr l.length 0 cs.length,l++[.cells cs.length cs])
 | .yl zero B=>dr l ((ny zero (B.map fun m=>(m.1,m.2.1,g m.2.2))).map .af)
 | .qH h zero len B=>(en (fun i=>some (i*h,h)) (cQ zero len) (B.map fun m=>(m.1,g m.2))).map fun cs=>(.Z h l.length 0 len len (len*h),l++[.cells (len*h) cs])
 | .ld1 a=>dr l ((fN l (g a)).bind fun x=>x.1[x.2]?)
 | .j8 n a=>dr l ((fN l (g a)).bind fun x=>sx n x.1 x.2)
 | .st n a x=>(jP n l (g a) (g x)).map fun p=>(fC,p)
 | .zA x=>dr l (zB (g x))
 | .bin q u x y=>dr l (ea P q u (g x) (g y))
 | .un q x=>dr l (rs q (g x))
 | .vR k x=>dr l (vS k (g x))
 | .Hf x=>dr l (Hg (g x))
 | .tG x=>dr l (pA l (g x))
 | .yE x=>dr l (r5 (g x))
 | .Dh u x=>some (.fW u (g x),l)
 | .EU u h z x=>dr l (AK u h z (g x))
 | .wO f a b=>some (.fn f (a.map g) (b.map g),l)
 | .sr h o zero a c=>l6 h o zero l (g a) (g c)
 | .slice j x F D G=>dr l (dw j (g x) (F.map g) (D.map g) (G.map g))
 | .nF t x=>dr l (lh (g x) t)
 | .HU t x=>dr l (HV t (g x))
 | .yX n t x=>dr l (yY n t (g x))
 | .sk j x i=>dr l (bQ j (g x) (g i))
 | .za n h x i=>dr l (zb n h (g x) (g i))
 | .IA n h x i=>dr l (IB n h (g x) (g i))
 | .zc x i=>dr l (tZ (g x) (g i))
 | .ext x i=>dr l (yQ (g x) i)
 | .len j x=>dr l (bD j (g x))
 | .cap j x=>dr l (rY j (g x))
 | .app h o s x=>dZ l h o (g s) (g x)
 | .tt h o zero s x=>ow l h o zero (g s) (g x)
 | .yD h d x=>yB h l (g d) (g x)
 | .tJ zero x=>(pC zero l (g x)).map fun p=>(.aX [],p)
 | .min x y=>dr l (zq (g x) (g y))
 | .max x y=>dr l (oU (g x) (g y))
 | .uk x=>match x with
  | none=>some (.mp l.length,l++[.map [] 0])
  | some q=>match asInt (g q) with | some _=>some (.mp l.length,l++[.map [] 0]) | none=>none
 | .wH v zero z w k=>dr l (wI P l v zero z (g w) (g k))
 | .um v w k x=>(sp P l v (g w) (g k) (g x)).map fun p=>(fC,p)
 | .zh x=>dr l (C5 l (g x))
 | .uJ x=>xe l (g x)
 | .us x=>cP l (g x)
 | .bP f C x y=>match y9 f (g C) with | true=>dr l (cmpL l (g x) (g y)) | false=>none
 | .stop=>none
def BS (t:aG) (ps:List (Nat × aY)) :Option (List (Nat × Nat × aY)):=
 match P.underlying t with
 | some (.struct h)=>if h.toList.all fun f=>(ca P f.type).isSome then ps.mapM fun g=>(w8 P h g.1).map fun q=>(q.1,q.2,g.2) else none
 | some (.array _ e)=>(ca P e).map fun n=>ps.map fun g=>(g.1*n,n,g.2)
 | _=>none
def qM (b:Builtin) (ts:List aG) (args:List aY) :Option dy:=
 match b,ts,args with
 | .len,[g],[x]=>match P.underlying g with
  | some (.map _ _)=>some (.zh x)
  | _=>(mm P g).map fun m=>.len m x
 | .cap,[g],[x]=>(mm P g).map fun m=>.cap m x
 | .append,[g,u],[s,x]=>match P.underlying u with
  | some (.int _)=>(gh P g).bind fun e=>(ca P e).bind fun h=>(gK P e).bind fun j=>(ga P e).bind fun zero=>
    if zero.length=h/\mq P e=some h then some (.tt h j zero s x) else none
  | none=>none
  | _=>(gh P g).bind fun e=>(ca P e).bind fun h=>(gK P e).bind fun j=>if mq P e=some h then some (.app h j s x) else none
 | .copy,[g,_],[d,x]=>(gh P g).bind fun e=>(ca P e).map fun h=>.yD h d x
 | .clear,[g],[x]=>match P.underlying g with
  | some (.slice e)=>(ga P e).map fun zero=>.tJ zero x
  | _=>none
 | .min,_,[x,y]=>some (.min x y)
 | .max,_,[x,y]=>some (.max x y)
 | _,_,_=>none
def kD:Op->Option dy
 | .move x | .assign x=>some (.dU x)
 | .pick c a b=>some (.pick c a b)
 | .alloc g=>(ga P g).map .alloc
 | .box _ x=>some (.box x)
 | .build g u=>(ga P g).bind fun zero=>(BS P g u.toList).map fun q=>.yl zero q
 | .buildSlice g len u=>(gh P g).bind fun e=>(ca P e).bind fun h=>(ga P e).bind fun zero=>
   if zero.length=h/\len*h<=16777216 then some (.qH h zero len u.toList) else none
 | .load g a=>match dE P g,ca P g with
  | some true,some n=>some (.j8 n a)
  | some false,_=>some (.ld1 a)
  | _,_=>none
 | .store g a x=>(ca P g).map fun n=>.st n a x
 | .nilCheck x=>some (.zA x)
 | .binOp p g x y _=>some (.bin p g x y)
 | .unOp p _ x=>some (.un p x)
 | .convert s d x=>match P.underlying s,P.underlying d with
  | some _,some (.int k)=>some (.vR k x)
  | some (.slice e),some .string=>match P.underlying e with
   | some (.int .u8)=>some (.tG x)
   | _=>none
  | some .string,some .string=>some (.Hf x)
  | some .string,some (.slice e)=>match P.underlying e with
   | some (.int .u8)=>some (.yE x)
   | _=>none
  | _,_=>none
 | .makeInterface g x=>match P.underlying g with
  | some (.interface _) | none=>none
  | _=>some (.Dh g x)
 | .makeFunc (.func f) a b=>some (.wO f a.toList b.toList)
 | .makeSlice g l c=>(gh P g).bind fun e=>(ca P e).bind fun h=>(gK P e).bind fun v=>(ga P e).bind fun zero=>
   if zero.length=h then some (.sr h v zero l c) else none
 | .slice g x B z C=>(mm P g).map fun D=>.slice D x B z C
 | .fieldAddr s x f=>(sa P s f).bind fun j=>match ca P j.type with
  | some (_+1)=>some (.nF j.offset x)
  | _=>none
 | .field g x f=>(sa P g f).bind fun j=>match dE P j.type,ca P j.type with
  | some true,some n=>some (.yX n j.offset x)
  | some false,_=>some (.HU j.offset x)
  | _,_=>none
 | .indexAddr g x i=>match mm P g with
  | some (.arr n h)=>some (.sk (.arr n h) x i)
  | some (.Z h)=>some (.sk (.Z h) x i)
  | _=>none
 | .index g x i=>match P.underlying g with
  | some (.array n e)=>match ca P e,dE P e with
   | some h,some true=>some (.IA n h x i)
   | some h,some false=>some (.za n h x i)
   | _,_=>none
  | some .string=>some (.zc x i)
  | _=>none
 | .extract x i=>some (.ext x i)
 | .call c=>match c.callee with
  | .builtin b=>qM P b c.argTypes.toList c.args.toList
  | .value (.func f)=>match P.funcs[f]?,c.args.toList with
   | some fn,[x,y]=>if wx fn then some (.bP f (.func f) x y) else none
   | _,_=>none
  | _=>none
 | .makeMap g r=>match P.underlying g with | some (.map _ _)=>some (.uk r) | _=>none
 | .lookup g m k t=>match P.underlying g with | some (.map o w)=>(s5 P w).map fun h=>.wH o h t m k | _=>none
 | .mapUpdate g m k x | .insert g m k x=>match P.underlying g with | some (.map o _)=>some (.um o m k x) | _=>none
 | .range g x=>match P.underlying g with | some .string=>some (.uJ x) | _=>none
 | .next it true=>some (.us it)
 | .panic _=>some .stop
 | .typeAssert x _ g t=>(AL P g).map fun h=>.EU g h t x
 | _=>none
end
section
variable {P:bp}
theorem bind_some {alZ g:Type} {x:Option alZ} {f:alZ->Option g} {y:g}:x.bind f=some y<->∃ a,x=some a/\f a=some y:=by cases x<;>simp
theorem map_some {alZ g:Type} {x:Option alZ} {f:alZ->g} {y:g}:x.map f=some y<->∃ a,x=some a/\f a=y:=by cases x<;>simp
theorem e7 {l l' : ae} {x:Option U} {v:U}:dr l x=some (v,l')<->x=some v/\l'=l:=by cases x<;>simp[dr,eq_comm]
theorem gL {alZ:Type} {p:Prop} [Decidable p] {x y:alZ}:(if p then some x else none)=some y<->p/\x=y:=by by_cases p<;>simp_all
theorem Gg {l l' : ae} {e z by_ n:Nat} {s v:U} {xs:ag} (B:mq P e=some z) (h:hq l z by_ s xs n=some (v,l')) :qD P (aZ l) e z by_ s xs n=some (v,aZ l'):=by
 unfold hq at h;unfold qD;by_cases q:n=0
 ·rw[ak q] at h ⊢;cases s<;>simp at h ⊢<;>simp[h]
 ·rw[ai q] at h ⊢;by_cases j:z=0\/by_=0
  ·rw[ak j] at h;cases h
  ·rw[ai j] at h;rw[ai (by simp only[B];simpa using j)];cases s<;>simp only at h ⊢<;>try (cases h;done)
   case ad=>
    by_cases t:n*by_<=dj
    ·rw[ak t] at h ⊢;cases h;rw[lO];rfl
    ·rw[ai t] at h;cases h
   case Z D b u len cap w=>
    cases g:l[b]? with
    | none=>rw[g] at h;cases h
    | some c=>
     cases c<;>rw[g] at h<;>(try simp only at h)<;>try (cases h;done)
     rename_i C cs;rw[hJ.2 g];simp only;by_cases h1:C=w/\z=D/\(len+n)*by_<=dj
     ·rw[ak h1] at h ⊢;by_cases m:len+n<=cap
      ·rw[ak m] at h ⊢;cases h;rw[mx _ (a1 g)]
      ·rw[ai m] at h ⊢;by_cases o:u+cap*z<w
       ·rw[ak o] at h ⊢;cases h;rw[lO];rfl
       ·rw[ai o] at h ⊢;by_cases p:u=0
        ·rw[ak p] at h ⊢;cases h;rw[mx _ (a1 g)]
        ·rw[ai p] at h ⊢;cases h;rw[mx _ (a1 g),lO];rfl
     ·rw[ai h1] at h;cases h
theorem OS {t:aG} {ps:List (Nat × aY)} {q:List (Nat × Nat × aY)} (h:BS P t ps=some q) (j:aY->U) (zero:ag) (w:ga P t=some zero) {cs:ag}
  (m:ny zero (q.map fun p=>(p.1,p.2.1,j p.2.2))=some cs) :vN P t (ps.map fun p=>(p.1,j p.2))=some (.af cs):=by
 have fill:∀ (v:Nat->Option (Nat × Nat)) (ps:List (Nat × aY)) (q:List (Nat × Nat × aY)) (zero:ag),
   (ps.mapM fun p=>(v p.1).map fun q=>(q.1,q.2,p.2))=some q->ny zero (q.map fun p=>(p.1,p.2.1,j p.2.2))=some cs->en v zero (ps.map fun p=>(p.1,j p.2))=some cs:=by
  intro v ps
  induction ps with
  | nil=>intro q zero h1 g;simp at h1;subst h1;simpa [ny,en] using g
  | cons p ps u=>
   intro q zero h1 g;rw[pj] at h1;simp only[Option.bind_eq_bind,bind_some,map_some,tk,bc] at h1;obtain⟨a,⟨H,B,rfl⟩,J,C,rfl⟩:=h1;simp only[dg,ny,en,B] at g ⊢;split at g
   ·rename_i K G;simp only[G];split at g
    ·rename_i D;rw[ak D];exact u _ _ C g
    ·cases g
   ·cases g
 unfold BS at h;unfold vN;split at h
 ·rename_i I o;rw[w,o];simp only;split at h
  ·rename_i F;rw[ai (by simp[F])];rw[fill _ _ _ _ h m];rfl
  ·cases h
 ·rename_i n e o;rw[map_some] at h;obtain⟨z,h1,rfl⟩:=h;rw[w,o];simp only[h1];rw[fill (fun i=>some (i*z,z)) ps _ zero ?_ m];rfl;clear m
  induction ps with
  | nil=>rfl
  | cons p ps u=>rw[pj,u];rfl
 ·cases h
theorem Xt {t:aG} {o:h7} (g:mm P t=some o) (x:U) (m j zu:Option U) :dw o x m j zu=xv P t x m j zu:=by
 unfold mm at g;unfold xv;split at g
 ·rename_i n e h;rw[map_some] at g;obtain⟨p,h1,rfl⟩:=g;rw[h];simp only[h1,dw];cases e2 n n m j zu<;>rfl
 ·rename_i e h;rw[map_some] at g;obtain⟨p,h1,rfl⟩:=g;rw[h];simp only[h1,dw];cases x<;>rfl
 ·rename_i h;cases g;rw[h];simp only[dw];cases x<;>cases zu<;>rfl
 ·cases g
theorem SL {t:aG} {m:h7} (g:mm P t=some m) {x v:U} (h:bD m x=some v) :sl P t x=some v:=by
 unfold mm at g;unfold sl;split at g
 ·rename_i n e j;rw[map_some] at g;obtain⟨o,h1,rfl⟩:=g;rw[j];simpa [bD] using h
 ·rename_i e j;rw[map_some] at g;obtain⟨o,h1,rfl⟩:=g;rw[j];unfold bD at h;cases x<;>simp_all
 ·rename_i j;cases g;rw[j];unfold bD at h;cases x<;>simp_all
 ·cases g
theorem Pj {t:aG} {m:h7} (g:mm P t=some m) {x v:U} (h:rY m x=some v) :tE P t x=some v:=by
 unfold mm at g;unfold tE;split at g
 ·rename_i n e j;rw[map_some] at g;obtain⟨o,h1,rfl⟩:=g;rw[j];simpa [rY] using h
 ·rename_i e j;rw[map_some] at g;obtain⟨o,h1,rfl⟩:=g;rw[j];unfold rY at h;cases x<;>simp_all
 ·rename_i j;cases g;rw[j];unfold rY at h;cases x<;>simp_all
 ·cases g
theorem Im {t:aG} {m:h7} (g:mm P t=some m) {x i v:U} (h:bQ m x i=some v) :ww P t x i=some v:=by
 unfold mm at g;unfold ww;unfold bQ at h;cases i<;>(try simp only at h)<;>try (cases h;done)
 rename_i k i;split at g
 ·rename_i n e j;rw[map_some] at g;obtain⟨o,h1,rfl⟩:=g;rw[j];simpa [asInt,h1] using h
 ·rename_i e j;rw[map_some] at g;obtain⟨o,h1,rfl⟩:=g;rw[j];simp only[asInt,h1];simp only at h;cases x<;>simp only at h ⊢<;>first | exact h | cases h
 ·rename_i j;cases g;simp only at h;cases h
 ·cases g
theorem XV {t:aG} {n:Nat} (m:ca P t=some n) {l l' : ae} {p v:U} (h:jP n l p v=some l') :rp P (aZ l) t p v=some (aZ l'):=by
 unfold jP at h;unfold rp;cases p<;>(try simp only at h)<;>try (cases h;done)
 rename_i b q u;cases j:v.cells with
 | none=>rw[j] at h;cases h
 | some w=>
  rw[j] at h;simp only[m] at h ⊢;cases g:l[b]? with
  | none=>rw[g] at h;cases h
  | some c=>
   cases c<;>rw[g] at h<;>(try simp only at h)<;>try (cases h;done)
   rename_i o cs;rw[hJ.2 g];simp only;rw[gL] at h;obtain⟨h1,rfl⟩:=h;rw[ak h1,mx _ (a1 g)]
theorem PX {t e:aG} {z:Nat} (o:gh P t=some e) (p:ca P e=some z) {l l' : ae} {d x v:U} (h:yB z l d x=some (v,l')) :tK P (aZ l) t d x=some (v,aZ l'):=by
 unfold yB at h;unfold tK;rw[o];simp only[p,yA];cases j:cq l z x with
 | none=>rw[j] at h;cases h
 | some q=>
  obtain⟨C,n⟩:=q;rw[j] at h;simp only at h ⊢;cases d<;>simp only at h ⊢<;>try (cases h;done)
  case ad=>cases h;rfl
  case Z D b w len cap B=>
   cases g:l[b]? with
   | none=>rw[g] at h;cases h
   | some c=>
    cases c<;>rw[g] at h<;>(try simp only at h)<;>try (cases h;done)
    rename_i u cs;rw[hJ.2 g];simp only;rw[gL] at h;obtain⟨h1,m⟩:=h;cases m;rw[ak h1,mx _ (a1 g)]
theorem Py {t e:aG} {zero:ag} (o:P.underlying t=some (.slice e)) (p:ga P e=some zero) {l l' : ae} {x:U} (h:pC zero l x=some l') :tH P (aZ l) t x=some (aZ l'):=by
 unfold pC at h;unfold tH;rw[o];cases x<;>(try simp only at h)<;>try (cases h;done)
 case ad=>cases h;rfl
 case bu q m=>cases m<;>simp only at h<;>cases h;rfl
 case Z q b v len cap w=>
  simp only;by_cases j:len=0
  ·rw[ak j] at h ⊢;cases h;rfl
  ·rw[ai j] at h ⊢;rw[p];cases g:l[b]? with
   | none=>rw[g] at h;cases h
   | some c=>
    cases c<;>rw[g] at h<;>(try simp only at h)<;>try (cases h;done)
    rename_i u cs;rw[hJ.2 g];simp only;rw[gL] at h;obtain⟨h1,rfl⟩:=h;rw[ak h1,mx _ (a1 g)]
theorem IZ {t j q:aG} (u:P.underlying t=some (.map j q)) {l l' : ae} {m k x:U} (h:sp P l j m k x=some l') :so P (aZ l) t m k x=some (aZ l'):=by
 unfold sp at h;unfold so;rw[u];cases m<;>(try simp only at h)<;>try (cases h;done)
 rename_i b;simp only[jW];cases g:l[b]? with
 | none=>rw[g] at h;cases h
 | some c=>
  cases c<;>rw[g] at h<;>simp only at h<;>try (cases h;done)
  rename_i p v;simp only;cases hk:kN P j k with
  | false=>rw[hk] at h;cases h
  | true=>
   rw[hk] at h;simp only at h ⊢;cases o:j5 P j k p 0 with
   | none=>rw[o] at h;cases h
   | some r=>
    rw[o] at h;cases r with
    | none=>cases h;simp only[mx _ (a1 g)]
    | some w=>cases h;simp only[mx _ (a1 g)]
theorem SP {t:aG} (h1:dE P t=some false) (h:aM) (p:U) :oT P h t p=(mg h p).bind fun x=>x.1[x.2]?:=by unfold oT gm;rw[h1];cases mg h p<;>rfl
theorem SQ {t:aG} {n:Nat} (h1:dE P t=some true) (g:ca P t=some n) (h:aM) (p:U) :oT P h t p=(mg h p).bind fun x=>sx n x.1 x.2:=by unfold oT gm;rw[h1,g];cases mg h p<;>rfl
theorem O4 {b:Builtin} {ts:List aG} {args:List aY} {m:dy} (g:qM P b ts args=some m) {p:aY->U} {l l' : ae} {v:U} (h:bT P p l m=some (v,l')) :
  mE P (aZ l) b ts (args.map p)=some (.val v (aZ l')):=by
 unfold qM at g;split at g
 ·rename_i R;split at g
  ·rename_i k e o;cases g;simp only[bT,e7] at h;obtain⟨j,rfl⟩:=h;unfold C5 at j;simp only[dg,lK,mE];cases D:p R<;>rw[D] at j<;>(try simp only at j)<;>try (cases j;done)
   ·cases j;simp[sl,sm,o]
   ·rename_i b;cases B:l'[b]? with
    | none=>rw[B] at j;cases j
    | some c=>
     cases c<;>rw[B] at j<;>simp only at j<;>try (cases j;done)
     cases j;simp[sm,o,jW,B]
  ·rw[map_some] at g;obtain⟨Q,h1,rfl⟩:=g;simp only[bT,e7] at h;obtain⟨j,rfl⟩:=h;have q:=SL h1 j;have t:∀ x,sm P (aZ l') _ x=none:=fun x=>by
    unfold mm at h1;unfold sm;split at h1<;>first | (rename_i o;rw[o];done) | (cases h1;done) | skip
    all_goals (rename_i o;simp only[o])
   simp only[dg,lK,mE,t];simp[q]
 ·rw[map_some] at g;obtain⟨Q,h1,rfl⟩:=g;simp only[bT,e7] at h;obtain⟨j,rfl⟩:=h;simp[mE,Pj h1 j]
 ·rename_i O u s x;simp only[dg,lK,mE];split at g
  ·rename_i o;simp only[bind_some] at g;obtain⟨e,h1,F,j,G,q,zero,t,g⟩:=g;rw[gL] at g;obtain⟨⟨I,w⟩,rfl⟩:=g;simp only[bT] at h;unfold ow at h;cases D:p x<;>rw[D] at h<;>(try simp only at h)<;>try (cases h;done)
   rename_i k n;by_cases z:0<=n/\n<9223372036854775808/\n.toNat*G<=dj
   ·rw[ak z] at h;rw[o];simp only[vH,h1,asInt,j,q,t];rw[ak ⟨I,z⟩,Gg w h];rfl
   ·rw[ai z] at h;cases h
  ·cases g
  ·rename_i J o;simp only[bind_some] at g;obtain⟨e,h1,F,j,G,q,g⟩:=g;rw[gL] at g;obtain⟨w,rfl⟩:=g;simp only[bT] at h;unfold dZ at h;cases C:cq l F (p x) with
   | none=>rw[C] at h;cases h
   | some K=>
    obtain⟨T,n⟩:=K;rw[C] at h;simp only at h;have:ox P (aZ l) O (p s) (p x)=some (v,aZ l'):=by
     simp only[ox,h1,j,q,yA,C];exact Gg w h
    rw[this];cases H:P.underlying u with
    | none=>exact bV H o
    | some d=>
     cases d<;>first | rfl | (rename_i k;exact bV H (J k))
 ·simp only[bind_some,map_some] at g;obtain⟨e,h1,F,j,rfl⟩:=g;simp only[bT] at h;simp[mE,PX h1 j h]
 ·split at g
  ·rename_i e o;rw[map_some] at g;obtain⟨zero,h1,rfl⟩:=g;simp only[bT,map_some,Prod.mk.injEq] at h;obtain⟨S,j,rfl,rfl⟩:=h;simp[mE,Py o h1 j]
  ·cases g
 ·cases g;simp only[bT,e7] at h;obtain⟨j,rfl⟩:=h;simp[mE,j]
 ·cases g;simp only[bT,e7] at h;obtain⟨j,rfl⟩:=h;simp[mE,j]
 ·cases g
theorem DG {t:aG} (h1:dE P t=some false) (cs:ag) (off:Nat) :gm P t cs off=cs[off]?:=by unfold gm;rw[h1]
theorem JO {t:aG} {n:Nat} (h1:dE P t=some true) (g:ca P t=some n) (cs:ag) (off:Nat) :gm P t cs off=sx n cs off:=by unfold gm;rw[h1,g];rfl
theorem BX {s d:aG} {x:U} (h:∀ e,P.underlying d=some (.slice e)->False) :tB P s d x=none:=by
 unfold tB;split
 ·rename_i e m j g;exact (h e g).elim
 ·rfl
theorem zt {op:Op} {m:dy} (j:kD P op=some m) {t:aY->U} {l l' : ae} {v:U} (h:bT P t l m=some (v,l')) :cO P (aZ l) t op=some (.val v (aZ l')):=by
 cases op<;>simp only[kD] at j<;>try (cases j;done)
 case move x=>cases j;simp only[bT,bc,Prod.mk.injEq] at h;obtain⟨rfl,rfl⟩:=h;rfl
 case assign x=>cases j;simp only[bT,bc,Prod.mk.injEq] at h;obtain⟨rfl,rfl⟩:=h;rfl
 case pick c a b=>
  cases j;simp only[bT,e7] at h;obtain⟨g,rfl⟩:=h;simp only[cO];unfold zQ at g;cases H:t c<;>rw[H] at g<;>(try simp only at g)<;>try (cases g;done)
  cases g;rfl
 case alloc w=>
  rw[map_some] at j;obtain⟨zero,h1,rfl⟩:=j;simp only[bT,bc,Prod.mk.injEq] at h;obtain⟨rfl,rfl⟩:=h;simp only[cO,h1,lO];rfl
 case box w x=>
  cases j;simp only[bT,map_some,Prod.mk.injEq] at h;obtain⟨cs,h1,rfl,rfl⟩:=h;simp only[cO,h1,lO];rfl
 case build w ay=>
  simp only[bind_some,map_some] at j;obtain⟨zero,h1,q,g,rfl⟩:=j;simp only[bT,e7,map_some] at h;obtain⟨⟨cs,o,rfl⟩,rfl⟩:=h;simp only[cO,OS g t zero h1 o];rfl
 case buildSlice w n ay=>
  simp only[bind_some] at j;obtain⟨e,h1,J,g,zero,o,j⟩:=j;rw[gL] at j;obtain⟨z,rfl⟩:=j;simp only[bT,map_some,Prod.mk.injEq] at h;obtain⟨cs,S,rfl,rfl⟩:=h;simp only[cO,yp,h1,g,o,ak z,S,lO];rfl
 case load w a=>
  split at j
  ·rename_i n h1 g;cases j;simp only[bT,e7] at h;obtain⟨o,rfl⟩:=h;simp only[cO,SQ h1 g,KI,o];rfl
  ·rename_i h1;cases j;simp only[bT,e7] at h;obtain⟨o,rfl⟩:=h;simp only[cO,SP h1,KI,o];rfl
  ·cases j
 case store w a x=>
  rw[map_some] at j;obtain⟨n,h1,rfl⟩:=j;simp only[bT,map_some,Prod.mk.injEq] at h;obtain⟨Y,g,rfl,rfl⟩:=h;simp only[cO,XV h1 g];rfl
 case nilCheck x=>
  cases j;simp only[bT,e7] at h;obtain⟨g,rfl⟩:=h;simp only[cO];unfold zB at g;cases H:t x<;>rw[H] at g<;>simp only at g<;>first | (cases g;done) | (cases g;rfl)
 case binOp aw w x y u=>
  cases j;simp only[bT,e7] at h;obtain⟨g,rfl⟩:=h;simp only[cO,g];rfl
 case unOp aw w x=>
  cases j;simp only[bT,e7] at h;obtain⟨g,rfl⟩:=h;simp only[cO,g];rfl
 case convert s d x=>
  simp only[cO];split at j
  ·rename_i aA k I F;cases j;simp only[bT,e7] at h;obtain⟨g,rfl⟩:=h;rw[BX (fun e D=>by rw[F] at D;cases D)];unfold vS at g;cases p:t x<;>rw[p] at g<;>(try simp only at g)<;>try (cases g;done)
   cases g;simp only[r4,I,F];rfl
  ·rename_i e I F;split at j
   ·rename_i D;cases j;simp only[bT,e7] at h;obtain⟨g,rfl⟩:=h;rw[BX (fun e D=>by rw[F] at D;cases D)];have:r4 P (aZ l') s d (t x)=some v:=by
     rw[<-g];unfold r4 pA;rw[I,F];cases p:t x<;>(simp only[D,yA])<;>(try rfl)<;>(rw[p] at g;unfold pA at g;simp only at g)
     ·cases g
     all_goals (cases H:cq l' 1 _<;>rfl)
    rw[this];rfl
   ·cases j
  ·rename_i I F;cases j;simp only[bT,e7] at h;obtain⟨g,rfl⟩:=h;rw[BX (fun e D=>by rw[F] at D;cases D)];unfold Hg at g;cases p:t x<;>rw[p] at g<;>(try simp only at g)<;>try (cases g;done)
   cases g;simp only[r4,I,F];rfl
  ·rename_i e I F;split at j
   ·rename_i D;cases j;simp only[bT,e7] at h;obtain⟨g,rfl⟩:=h;unfold r5 at g;cases p:t x<;>rw[p] at g<;>(try simp only at g)<;>try (cases g;done)
    cases g;simp only[tB,I,F,D]
   ·cases j
  ·cases j
 case makeInterface w x=>
  split at j
  ·cases j
  ·cases j
  ·rename_i h1 g;cases j;simp only[bT,bc,Prod.mk.injEq] at h;obtain⟨rfl,rfl⟩:=h;simp only[cO]
 case typeAssert x aG w ax=>
  rw[map_some] at j;obtain⟨J,V,rfl⟩:=j;simp only[bT,e7] at h;obtain⟨g,rfl⟩:=h;simp only[cO,V,g,cA]
 case makeFunc f a b=>
  cases f<;>simp only at j<;>try (cases j;done)
  cases j;simp only[bT,bc,Prod.mk.injEq] at h;obtain⟨rfl,rfl⟩:=h;rfl
 case makeSlice w a c=>
  simp only[bind_some] at j;obtain⟨e,h1,J,g,az,o,zero,z,j⟩:=j;rw[gL] at j;obtain⟨S,rfl⟩:=j;simp only[bT] at h;unfold l6 at h;cases K:t a<;>rw[K] at h<;>(try simp only at h)<;>try (cases h;done)
  cases H:t c<;>rw[H] at h<;>(try simp only at h)<;>try (cases h;done)
  rw[gL] at h;obtain⟨aj,al⟩:=h;cases al;simp only[cO,K,H,zl,h1,asInt,g,o,z,ak (And.intro S aj),lO];rfl
 case slice w x aD C aE=>
  rw[map_some] at j;obtain⟨aF,h1,rfl⟩:=j;simp only[bT,e7] at h;obtain⟨g,rfl⟩:=h;rw[Xt h1] at g;simp only[cO,g];rfl
 case fieldAddr s x f=>
  rw[bind_some] at j;obtain⟨ah,h1,j⟩:=j;split at j
  ·rename_i n g;cases j;simp only[bT,e7] at h;obtain⟨o,rfl⟩:=h;simp only[cO,yS,h1,g,o];rfl
  ·cases j
 case field w x f=>
  rw[bind_some] at j;obtain⟨ah,h1,j⟩:=j;split at j
  ·rename_i n g o;cases j;simp only[bT,e7] at h;obtain⟨z,rfl⟩:=h;unfold yY at z;cases p:t x<;>rw[p] at z<;>(try simp only at z)<;>try (cases z;done)
   simp only[cO,p,h1,JO g o,z];rfl
  ·rename_i g;cases j;simp only[bT,e7] at h;obtain⟨z,rfl⟩:=h;unfold HV at z;cases p:t x<;>rw[p] at z<;>(try simp only at z)<;>try (cases z;done)
   simp only[cO,p,h1,DG g,z];rfl
  ·cases j
 case indexAddr w x i=>
  split at j
  ·rename_i n J h1;cases j;simp only[bT,e7] at h;obtain⟨g,rfl⟩:=h;simp only[cO,Im h1 g];rfl
  ·rename_i J h1;cases j;simp only[bT,e7] at h;obtain⟨g,rfl⟩:=h;simp only[cO,Im h1 g];rfl
  ·cases j
 case index w x i=>
  split at j
  ·rename_i n e B;split at j
   ·rename_i J h1 g;cases j;simp only[bT,e7] at h;obtain⟨o,rfl⟩:=h;unfold IB at o;cases p:t x<;>rw[p] at o<;>(try simp only at o)<;>try (cases o;done)
    cases C:t i<;>rw[C] at o<;>(try simp only at o)<;>try (cases o;done)
    simp only[cO,tX,p,C,B,asInt,h1,JO g h1,o];rfl
   ·rename_i J h1 g;cases j;simp only[bT,e7] at h;obtain⟨o,rfl⟩:=h;unfold zb at o;cases p:t x<;>rw[p] at o<;>(try simp only at o)<;>try (cases o;done)
    cases C:t i<;>rw[C] at o<;>(try simp only at o)<;>try (cases o;done)
    simp only[cO,tX,p,C,B,asInt,h1,DG g,o];rfl
   ·cases j
  ·rename_i B;cases j;simp only[bT,e7] at h;obtain⟨o,rfl⟩:=h;unfold tZ at o;cases p:t x<;>rw[p] at o<;>(try simp only at o)<;>try (cases o;done)
   cases C:t i<;>rw[C] at o<;>(try simp only at o)<;>try (cases o;done)
   simp only[cO,tX,p,C,B,asInt,o];rfl
  ·cases j
 case extract x i=>
  cases j;simp only[bT,e7] at h;obtain⟨g,rfl⟩:=h;unfold yQ at g;cases p:t x<;>rw[p] at g<;>(try simp only at g)<;>try (cases g;done)
  simp only[cO,p,g];rfl
 case call c=>
  split at j
  ·rename_i b G;simp only[cO,qI,G];exact O4 j h
  ·rename_i f O;split at j
   ·rename_i fn x y aq am;rw[gL] at j;obtain⟨C,rfl⟩:=j;simp only[bT] at h;split at h
    case h_2=>cases h
    rename_i Q;rw[e7] at h;obtain⟨g,rfl⟩:=h;unfold cmpL at g;have ao:∀ x,tA (aZ l') x=pz l' x:=fun x=>by
     cases x<;>simp only[tA,pz,yA]<;>rfl
    have av:¬(fn.body.isSome=true/\fn.name≠ "runtime.NumGoroutine"):=by
     rintro⟨a,_⟩;unfold wx at C;simp only[bU] at C;rw[M2.1 C.1.1] at a;cases a
    have ap:t (.func f)=.fn f [] []:=by
     unfold y9 at Q;split at Q
     ·rename_i aB ar;rw[ar,mu Q]
     ·cases Q
    simp only[cO,qI,O,ap,aq,ai av,ak C,am,dg,lK,h2,eJ,vX,ao];cases K:pz l' (t x) with
    | none=>rw[K] at g;cases g
    | some a=>
     cases G:pz l' (t y) with
     | none=>rw[K,G] at g;cases g
     | some b=>rw[K,G] at g;cases g;rfl
   ·cases j
  ·cases j
 case panic x=>cases j;cases h
 case makeMap w r=>
  split at j
  ·rename_i k e B;cases j;simp only[bT] at h;cases r with
   | none=>cases h;simp[cO,B,lO]
   | some x=>
    simp only at h;cases p:asInt (t x) with
    | none=>rw[p] at h;cases h
    | some n=>rw[p] at h;cases h;simp[cO,B,p,lO]
  ·cases j
 case lookup w m k ax=>
  split at j
  ·rename_i R W B;rw[map_some] at j;obtain⟨J,V,rfl⟩:=j;simp only[bT,e7] at h;obtain⟨g,rfl⟩:=h;have au:∀ x,wL (aZ l') x=uj l' x:=fun x=>by
    cases x<;>try rfl
    rename_i b;simp only[wL,uj,jW];cases l'[b]? with
    | none=>rfl
    | some c=>cases c<;>rfl
   unfold wI at g;simp only[cO,zj,B,au];cases X:uj l' (t m) with
   | none=>rw[X] at g;cases g
   | some ag=>
    rw[X] at g;simp only at g ⊢;cases hk:kN P R (t k) with
    | false=>rw[hk] at g;cases g
    | true=>
     rw[hk] at g;simp only at g ⊢;cases O:j5 P R (t k) ag 0 with
     | none=>rw[O] at g;cases g
     | some r=>
      rw[O] at g;cases r with
      | none=>cases g;simp[V]
      | some aC=>cases g;rfl
  ·cases j
 case mapUpdate w m k x=>
  split at j
  ·rename_i R W B;cases j;simp only[bT,map_some] at h;obtain⟨Y,g,o⟩:=h;cases o;simp only[cO,IZ B g];rfl
  ·cases j
 case insert w m k x=>
  split at j
  ·rename_i R W B;cases j;simp only[bT,map_some] at h;obtain⟨Y,g,o⟩:=h;cases o;simp only[cO,IZ B g];rfl
  ·cases j
 case range w x=>
  split at j
  ·rename_i B;cases j;simp only[bT] at h;unfold xe at h;cases p:t x<;>rw[p] at h<;>(try simp only at h)<;>try (cases h;done)
   cases h;simp[cO,Ab,B,p,lO]
  ·cases j
 case next it b=>
  cases b with
  | false=>cases j
  | true=>
   cases j;simp only[bT] at h;unfold cP at h;simp only[cO,zy];cases p:t it<;>rw[p] at h<;>(try simp only at h)<;>try (cases h;done)
   rename_i b;simp only[jW];cases G:l[b]? with
   | none=>rw[G] at h;cases h
   | some c=>
    cases c<;>rw[G] at h<;>simp only at h<;>try (cases h;done)
    simp only;split at h
    ·rename_i T;cases h;rw[T];simp only[cA,mx _ (a1 G)]
    ·rename_i T;cases h;rw[T];rfl
end
abbrev aS:=Nat->U
abbrev fH:=qt->aS->ae->Prop
class FW (alZ:Type) where
 k:alZ->Prop
class vy where
 p:Prop
 q:Prop
class qy where
 k:U->ae->Prop
class BB where
 k:fH
def W {alZ:Type} (o:Option alZ) [c:FW alZ] :Prop:=match o with | some g=>c.k g | none=>False
def oR (b:Bool) [c:vy] :Prop:=match b with | true=>c.p | false=>c.q
def wB (x:U) [c:vy] :Prop:=match x with | .bool b=>oR b (c:=c) | _=>False
def pP (x:U) (w:Bool) [c:vy] :Prop:=match x with | .bool b=>oR (b == w) (c:=c) | .bad=>False | _=>c.q
inductive rN where
 | fy (g:dy)
 | lg (f:cj) (args:List aY)
 | lU (x:aY) (args:List aY)
 | nz (x:aY) (name:String) (args:List aY)
structure c9 where
 i:Nat
 dst:Option Tmp
 g:Option (Option Tmp × Bool)
 b:rN
 qJ:List Nat
 bm:Bool
inductive fG where
 | skip
 | ret
 | exit (id:Nat)
 | jK (s:List c9)
 | v8 (s:List c9)
 | seq (a b:fG)
 | cond (c:aY) (x y:fG)
 | block (id:Nat) (c:fG)
 | loop (c:fG)
section
variable (P:bp) (G:Nat->U)
def fJ (f:cj) :Bool:=match P.funcs[f]? with | some fn=>fn.body.isSome&&fn.name != "runtime.NumGoroutine" | none=>false
def fR (f:cj) (args:ag) (l:ae) [c:qy] :Prop:=∃ r g,c7 P G (.call f args (aZ l) r (aZ g))/\l.length<=g.length/\c.k r g
def vP (x:U) (args:ag) (l:ae) [c:qy] :Prop:=match x with
 | .fn g first e3=>fJ P g=true/\fR P G g (first++args++e3) l (c:=c)
 | _=>False
def ys (name:String) (x:U) (args:ag) (l:ae) [c:qy] :Prop:=match x with
 | .fW h j=>match wN P h name with
  | some g=>fJ P g=true/\fR P G g (j::args) l (c:=c)
  | none=>False
 | _=>False
def bR (v:U) (l:ae) [c:qy] :Prop:=c.k v l\/∃ h g,iO (aZ l) (aZ g)/\iN (aZ l) (aZ g) v h/\c.k h g
def ep (m:dy) (v:U) (l:ae) (K:U->ae->Prop) :Prop:=match m with
 | .app ..=>bR v l (c:=⟨K⟩)
 | _=>K v l
def gE (b:rN) (sgZ:aS) (l:ae) (K:U->ae->Prop) :Prop:=match b with
 | .fy g=>W (bT P (dA G sgZ) l g) (c:=⟨fun x=>ep g x.1 x.2 K⟩)
 | .lg f args=>fR P G f (args.map (dA G sgZ)) l (c:=⟨K⟩)
 | .lU x args=>vP P G (dA G sgZ x) (args.map (dA G sgZ)) l (c:=⟨K⟩)
 | .nz x name args=>ys P G name (dA G sgZ x) (args.map (dA G sgZ)) l (c:=⟨K⟩)
def oQ (sgZ:aS) (g:Option (Option Tmp × Bool)) (p q:Prop) :Prop:=match g with
 | none=>p
 | some (some d,w)=>pP (sgZ d) w (c:=⟨p,q⟩)
 | some (none,_)=>q
def iF:List c9->aS->ae->(aS->ae->Prop)->Prop
 | [],h,l,j=>j h l
 | s::r,h,l,j=>oQ h s.g (gE P G s.b h l fun o m=>iF r (gC h s.dst o) m j) (iF r (gC h s.dst fC) l j)
abbrev im:=List (Nat × (ae->Prop))
def pB (g:List Nat) :im->ae->Prop
 | [],_=>True
 | e::r,l=>(g.contains e.1=true->e.2 l)/\pB g r l
def dy.lp:dy->Bool
 | .alloc _ | .box _ | .qH .. | .sr ..=>true
 | _=>false
def k1 (b:rN) (sgZ:aS) (v:U) (l l' l1:ae) :Prop:=match b with
 | .fy g=>match g.lp with
  | true=>l1[l.length]?=l'[l.length]?
  | false=>bT P (dA G sgZ) l1 g=some (v,l1)
 | _=>True
def p7 (bm:Bool) (i:Nat) (p:ae->Prop) (s:im) :im:=match bm with | true=>(i,p) ::s | false=>s
def jL:List c9->aS->ae->im->(aS->ae->Prop)->Prop
 | [],h,l,_,j=>j h l
 | s::r,h,l,seen,j=>oQ h s.g (gE P G s.b h l fun o m=>pB s.qJ seen m/\jL r (gC h s.dst o) m (p7 s.bm s.i (k1 P G s.b h o l m) seen) j) (jL r (gC h s.dst fC) l seen j)
def mO (k:aS->ae->Prop) (K:fH) :fH:=fun e g l=>match e with
 | .normal=>k g l
 | .exit id=>K (.exit id) g l
 | .ret=>K .ret g l
def qX (id:Nat) (K:fH) :fH:=fun e g l=>match e with
 | .normal=>K .normal g l
 | .exit h=>match Nat.beq h id with | true=>K .normal g l | false=>K (.exit h) g l
 | .ret=>K .ret g l
def ug (r:aS->ae->fH->Prop) :Nat->aS->ae->fH->Prop
 | 0=>fun _ _ _=>False
 | n+1=>fun g l h=>r g l (mO (fun g l=>ug r n g l h) h)
def x7 (r:aS->ae->fH->Prop) (sgZ:aS) (l:ae) [c:BB] :Prop:=∃ n,ug r n sgZ l c.k
def run:fG->aS->ae->fH->Prop
 | .skip,g,l,h=>h .normal g l
 | .ret,g,l,h=>h .ret g l
 | .exit id,g,l,h=>h (.exit id) g l
 | .jK s,g,l,h=>iF P G s g l (h .normal)
 | .v8 s,g,l,h=>jL P G s g l [] (h .normal)
 | .seq a b,g,l,h=>run a g l (mO (fun g l=>run b g l h) h)
 | .cond c x y,g,l,h=>wB (dA G g c) (c:=⟨run x g l h,run y g l h⟩)
 | .block id c,g,l,h=>run c g l (qX id h)
 | .loop c,g,l,h=>x7 (run c) g l (c:=⟨h⟩)
def uV (ops:Array a8) (i:Nat) (h:List Nat) (bm:Bool) :Option c9:=(ops[i]?).bind fun g=>
 let j:=g.guard.map fun m=>((ops[m.1]?).bind (·.dst),m.2)
 match kD P g.op with
 | some o=>some ⟨i,g.dst,j,.fy o,h,bm⟩
 | none=>match g.op with
  | .call c=>match c.callee with
   | .value (.func f)=>match fJ P f with
    | true=>some ⟨i,g.dst,j,.lg f c.args.toList,h,bm⟩
    | false=>none
   | .value x=>some ⟨i,g.dst,j,.lU x c.args.toList,h,bm⟩
   | .invoke x name=>some ⟨i,g.dst,j,.nz x name c.args.toList,h,bm⟩
   | _=>none
  | _=>none
def pd:Op->Bool
 | .load .. | .convert .. | .alloc _ | .box .. | .buildSlice .. | .makeSlice ..=>true
 | .call c=>match c.callee,c.argTypes.toList with
  | .builtin .len,[g]=>match P.underlying g with | some (.map _ _)=>true | _=>false
  | _,_=>false
 | _=>false
def Ps (j:List Nat) (ops:Array a8) (done h:List Nat) :List Nat:=
 done.filter fun g=>(match ops[g]? with | some m=>pd P m.op | none=>false)&&h.all fun e=>!mf j e g
def lz (h:List Nat) (ops:Array a8) :List Nat->List Nat->List Nat->List (Nat × List Nat)
 | [],_,_=>[]
 | i::r,done,g=>match ops[i]? with
  | none=>[]
  | some j=>match iv j.op with
   | true=>(i,Ps P h ops done (i::g)) ::lz h ops r (i::done) (match j.guard with | none=>i::g | some _=>g)
   | false=>(i,[]) ::lz h ops r (i::done) g
def wa (g:List Nat) (ops:Array a8) :List Nat->Bool
 | []=>true
 | i::r=>(match ops[i]? with | some j=>!iv j.op||r.all fun h=>mf g h i | none=>false)&&wa g ops r
def B6 (N:Nat) (ops:Array a8) (draw:Bool) :Option fG:=
 match ops.toList.all fun o=>hO N o.dst with
 | false=>none
 | true=>match draw with
  | false=>((List.range ops.size).mapM fun i=>uV P ops i [] false).map .jK
  | true=>
   let g:=gX ops
   let h:=eA g ops
   match DC g ops h&&wa g ops h with
   | false=>none
   | true=>
    let m:=lz P g ops h [] []
    let ask:=m.flatMap (·.2)
    match m.mapM fun j=>uV P ops j.1 j.2 (ask.contains j.1) with
    | none=>none
    | some s=>match ask with
     | []=>some (.jK s)
     | _=>some (.v8 s)
def comp (N:Nat) :Code->Option fG
 | .skip=>some .skip
 | .label _=>some .skip
 | .ret=>some .ret
 | .exit id=>some (.exit id)
 | .region _ ops draw=>B6 P N ops draw
 | .seq a b=>match comp N a,comp N b with
  | some .skip,some b=>some b
  | some a,some .skip=>some a
  | some a,some b=>some (.seq a b)
  | _,_=>none
 | .cond c x y=>match comp N x,comp N y with
  | some x,some y=>some (.cond c x y)
  | _,_=>none
 | .block id c=>(comp N c).map (.block id)
 | .loop c=>(comp N c).map .loop
 | .scope c=>comp N c
 | _=>none
def vZ (f:cj) :Option fG:=match P.funcs[f]? with
 | some fn=>match fn.body with
  | some c=>comp P fn.ntmps c
  | none=>none
 | none=>none
end
section
variable {P:bp} {G:Nat->U}
theorem Gf {l l' : ae} {z by_ n:Nat} {s v:U} {xs:ag} (h:hq l z by_ s xs n=some (v,l')) :l.length<=l'.length:=by
 unfold hq at h
 repeat' split at h
 all_goals first | (cases h;done) | (cases h;simp)
theorem Jc {g:aY->U} {l l' : ae} {m:dy} {v:U} (h:bT P g l m=some (v,l')) :l.length<=l'.length:=by
 cases m<;>simp only[bT,e7,map_some,bc,Prod.mk.injEq] at h
 case dU=>obtain⟨_,rfl⟩:=h;exact aN _
 case alloc=>obtain⟨_,rfl⟩:=h;simp
 case box=>obtain⟨_,_,_,rfl⟩:=h;simp
 case qH=>obtain⟨_,_,_,rfl⟩:=h;simp
 case st n a x=>
  obtain⟨_,h,_,rfl⟩:=h;unfold jP at h
  repeat' split at h
  all_goals first | (cases h;done) | (cases h;simp)
 case Dh=>obtain⟨_,rfl⟩:=h;exact aN _
 case wO=>obtain⟨_,rfl⟩:=h;exact aN _
 case sr=>
  unfold l6 at h
  repeat' split at h
  all_goals first | (cases h;done) | (cases h;simp)
 case app=>
  unfold dZ at h;split at h
  ·cases h
  ·exact Gf h
 case tt=>
  unfold ow at h
  repeat' split at h
  all_goals first | (cases h;done) | exact Gf h
 case yD=>
  unfold yB at h
  repeat' split at h
  all_goals first | (cases h;done) | (cases h;simp)
 case tJ=>
  obtain⟨_,h,_,rfl⟩:=h;unfold pC at h
  repeat' split at h
  all_goals first | (cases h;done) | (cases h;simp)
 case stop=>cases h
 case uk x=>
  cases x with
  | none=>cases h;simp
  | some j=>
   simp only at h;split at h
   ·cases h;simp
   ·cases h
 case um=>
  obtain⟨_,h,_,rfl⟩:=h;unfold sp at h
  repeat' split at h
  all_goals first | (cases h;done) | (cases h;simp)
 case uJ=>
  unfold xe at h
  repeat' split at h
  all_goals first | (cases h;done) | (cases h;simp)
 case us=>
  unfold cP at h
  repeat' split at h
  all_goals first | (cases h;done) | (cases h;simp)
 case bP=>
  split at h
  ·rw[e7] at h;obtain⟨_,rfl⟩:=h;exact aN _
  ·cases h
 all_goals (obtain⟨_,rfl⟩:=h;exact aN _)
theorem yc {alZ:Type} {o:Option alZ} {c:FW alZ}:W o (c:=c)<->∃ v,o=some v/\c.k v:=by unfold W;cases o<;>simp
theorem wC {b:Bool} {c:vy}:oR b (c:=c)<->(b=true/\c.p)\/(b=false/\c.q):=by cases b<;>simp[oR]
structure mA (P:bp) (ops:Array a8) (s:c9) (o:a8) :Prop where
 here:ops[s.i]?=some o
 dst:s.dst=o.dst
 g:s.g=o.guard.map fun h=>((ops[h.1]?).bind (·.dst),h.2)
 fy:∀ m,s.b=.fy m->kD P o.op=some m
 lg:∀ f args,s.b=.lg f args->∃ c:Call,o.op=.call c/\c.callee=.value (.func f)/\c.args.toList=args/\fJ P f=true
 lU:∀ x args,s.b=.lU x args->∃ c:Call,o.op=.call c/\c.callee=.value x/\c.args.toList=args
 nz:∀ x name args,s.b=.nz x name args->∃ c:Call,o.op=.call c/\c.callee=.invoke x name/\c.args.toList=args
theorem xA {ops:Array a8} {i:Nat} {q:List Nat} {bm:Bool} {s:c9} (h:uV P ops i q bm=some s) :∃ o,mA P ops s o/\s.i=i/\s.qJ=q/\s.bm=bm:=by
 unfold uV at h;rw[bind_some] at h;obtain⟨o,j,h⟩:=h;refine⟨o,?_⟩;simp only at h;split at h
 ·rename_i w u;cases h;exact⟨⟨j,rfl,rfl,fun p h=>(by cases h;exact u),fun f a h=>(by cases h),fun x a h=>(by cases h),fun x n a h=>(by cases h)⟩,rfl,rfl,rfl⟩
 ·split at h
  ·rename_i c m;split at h
   ·rename_i f g;split at h
    ·rename_i t;cases h;exact⟨⟨j,rfl,rfl,fun p h=>(by cases h),fun f a h=>(by cases h;exact⟨c,m,g,rfl,t⟩),fun x a h=>(by cases h),fun x n a h=>(by cases h)⟩,rfl,rfl,rfl⟩
    ·cases h
   ·rename_i x v g;cases h;exact⟨⟨j,rfl,rfl,fun p h=>(by cases h),fun f a h=>(by cases h),fun x a h=>(by cases h;exact⟨c,m,g,rfl⟩),fun x n a h=>(by cases h)⟩,rfl,rfl,rfl⟩
   ·rename_i x name g;cases h;exact⟨⟨j,rfl,rfl,fun p h=>(by cases h),fun f a h=>(by cases h),fun x a h=>(by cases h),fun x n a h=>by cases h;exact⟨c,m,g,rfl⟩⟩,rfl,rfl,rfl⟩
   ·cases h
  ·cases h
theorem H1 {g:cj} (j:fJ P g=true) {h:aM} {m:aY->U} {c:Call} {x:aY} {first e3:ag} (p:c.callee=.value x) (q:m x=.fn g first e3) :
  cO P h m (.call c)=some (.call g (first++c.args.toList.map m++e3) h):=by
 unfold fJ at j;simp only[cO,qI,p,q];cases o:P.funcs[g]? with
 | none=>rw[o] at j;cases j
 | some fn=>
  rw[o] at j;simp only[bU,bne_iff_ne] at j;simp only;rw[ak j]
theorem Rr {g:cj} (j:fJ P g=true) {h:aM} {m:aY->U} {c:Call} {x:aY} {name:String} {t:aG} {v:U} (p:c.callee=.invoke x name) (u:m x=.fW t v) (q:wN P t name=some g) :
  cO P h m (.call c)=some (.call g (v::c.args.toList.map m) h):=by
 unfold fJ at j;simp only[cO,qI,p,u,q];cases o:P.funcs[g]? with
 | none=>rw[o] at j;cases j
 | some fn=>
  rw[o] at j;simp only[bU,bne_iff_ne] at j;simp only;rw[ak j]
def dy.looks:dy->Bool
 | .alloc _ | .box _ | .qH .. | .sr .. | .st .. | .app .. | .tt .. | .yD .. | .tJ .. | .uk _ | .wH .. | .um .. | .uJ _ | .us _ | .bP .. | .EU .. | .stop=>false
 | _=>true
theorem Su {m:dy} {v:U} {l:ae} {K:U->ae->Prop} (h:ep m v l K) :K v l\/(m.looks=false/\m.lp=false/\∃ j g,iO (aZ l) (aZ g)/\iN (aZ l) (aZ g) v j/\K j g):=by
 cases m<;>first | exact .inl h | skip
 rcases h with h | h
 ·exact .inl h
 ·exact .inr ⟨rfl,rfl,h⟩
theorem IK {m:dy} {v:U} {l:ae} {K h4:U->ae->Prop} (g:∀ v l,K v l->h4 v l) (h:ep m v l K) :ep m v l h4:=by
 cases m<;>first | exact g _ _ h | skip
 rcases h with h | ⟨q,p,h1,j,o⟩
 ·exact .inl (g _ _ h)
 ·exact .inr ⟨q,p,h1,j,g _ _ o⟩
theorem LN {ops:Array a8} {s:c9} {o:a8} (C:mA P ops s o) {sgZ:aS} {l:ae} {K:U->ae->Prop} (h:gE P G s.b sgZ l K) :
  ∃ v l',c7 P G (.op o.op sgZ (aZ l) v (aZ l'))/\l.length<=l'.length/\K v l'/\∀ m,s.b=.fy m->(m.looks=true\/m.lp=true)->bT P (dA G sgZ) l m=some (v,l'):=by
 cases p:s.b with
 | fy m=>
  rw[p] at h;simp only[gE,yc] at h;obtain⟨⟨v,l'⟩,h1,j⟩:=h;have F:=c7.zI (G:=G) (zt (C.fy m p) h1);rcases Su j with j | ⟨S,T,V,R,I,O,Q⟩
  ·exact⟨v,l',F,Jc h1,j,fun B g _=>by cases g;exact h1⟩
  ·refine⟨V,R,.AX F I O,dC (Jc h1) (Bt I.n.symm),Q,fun B g H=>?_⟩;cases g;rw[S,T] at H;rcases H with h | h<;>cases h
 | lg f args=>
  rw[p] at h;obtain⟨r,l',h1,j,q⟩:=h;obtain⟨c,z,u,t,w⟩:=C.lg f args p;refine⟨r,l',?_,j,q,fun B g _=>by cases g⟩;rw[z];refine .uw (H1 w u rfl) ?_;simpa [t] using h1
 | lU x args=>
  rw[p] at h;simp only[gE] at h;obtain⟨c,z,u,t⟩:=C.lU x args p;unfold vP at h;split at h
  ·rename_i J first e3 D
   obtain⟨w,r,l',h1,j,q⟩:=h;refine⟨r,l',?_,j,q,fun B g _=>by cases g⟩;rw[z];refine .uw (H1 w u D) ?_;rw[t];exact h1
  ·cases h
 | nz x name args=>
  rw[p] at h;simp only[gE] at h;obtain⟨c,z,u,t⟩:=C.nz x name args p;unfold ys at h;split at h
  ·rename_i W v D;split at h
   ·rename_i J g;obtain⟨w,r,l',h1,j,q⟩:=h;refine⟨r,l',?_,j,q,fun B g _=>by cases g⟩;rw[z];refine .uw (Rr w u D g) ?_;rw[t];exact h1
   ·cases h
  ·cases h
theorem IH {ops:Array a8} {s:c9} {o:a8} (B:mA P ops s o) {sgZ:aS} {p q:Prop} (h:oQ sgZ s.g p q) :(iJ ops sgZ o=some true/\p)\/(iJ ops sgZ o=some false/\q):=by
 rw[B.g] at h;unfold iJ;cases t:o.guard with
 | none=>rw[t] at h;exact .inl ⟨rfl,h⟩
 | some z=>
  obtain⟨v,w⟩:=z;rw[t] at h;simp only[cA] at h ⊢;cases m:(ops[v]?).bind (·.dst) with
  | none=>rw[m] at h;exact .inr ⟨rfl,h⟩
  | some d=>
   rw[m] at h;simp only[oQ,pP] at h ⊢;cases u:sgZ d<;>rw[u] at h<;>simp only at h ⊢<;>first | exact .inr ⟨trivial,h⟩ | (cases h;done) | skip
   rw[wC] at h;rcases h with ⟨h1,j⟩ | ⟨h1,j⟩
   ·exact .inl ⟨by rw[h1],j⟩
   ·exact .inr ⟨by rw[h1],j⟩
inductive k8 (P:bp) (ops:Array a8) :List c9->List a8->Prop
 | nil:k8 P ops [] []
 | cons {s g j h}:mA P ops s g->k8 P ops j h->k8 P ops (s::j) (g::h)
theorem xp {ops:Array a8} {N:Nat} (p:∀ (i:Nat) (o:a8),ops[i]?=some o->hO N o.dst=true) {K:aS->ae->Prop}:∀ {s:List c9} {os:List a8} {sgZ:aS} {l:ae},
  k8 P ops s os->iF P G s sgZ l K->∃ m l',c7 P G (.ops ops os N sgZ (aZ l) m (aZ l'))/\l.length<=l'.length/\K m l'
 | [],_,sgZ,l,g,h=>by cases g;exact⟨sgZ,l,.JD,aN _,h⟩
 | s::r,_,sgZ,l,g,h=>by
  cases g with
  | cons j g=>
   rename_i o os;rcases IH j h with ⟨v,h⟩ | ⟨v,h⟩
   ·obtain⟨C,B,h1,w,z,_⟩:=LN j h;obtain⟨m,l',q,t,u⟩:=xp p g z;exact⟨m,l',.JE v (p _ _ j.here) h1 (by rw[<-j.dst];exact q),dC w t,u⟩
   ·obtain⟨m,l',q,t,u⟩:=xp p g h;exact⟨m,l',.JF v (p _ _ j.here) (by rw[<-j.dst];exact q),t,u⟩
theorem KH {l x:ae} {p:U} {y:ag × Nat} (h:fN l p=some y) :fN (l++x) p=some y:=by
 cases p<;>first | exact h | skip
 rename_i b j m;simp only[fN] at h ⊢;cases g:l[b]? with
 | none=>rw[g] at h;cases h
 | some c=>rw[g] at h;rw[aV (a1 g),g];exact h
theorem PU {l x:ae} {z:Nat} {p:U} {y:ag × Nat} (h:cq l z p=some y) :cq (l++x) z p=some y:=by
 cases p<;>first | exact h | skip
 rename_i o b j len cap m;simp only[cq] at h ⊢;cases g:l[b]? with
 | none=>rw[g] at h;cases h
 | some c=>rw[g] at h;rw[aV (a1 g),g];exact h
theorem Pn {l x:ae} {p v:U} (h:pA l p=some v) :pA (l++x) p=some v:=by
 unfold pA at h ⊢;cases p<;>simp only at h ⊢<;>first | exact h | skip
 all_goals
  split at h
  ·rename_i cs n g;rw[PU g];exact h
  ·cases h
def dy.reads:dy->Bool
 | .ld1 _ | .j8 .. | .tG _ | .zh _=>true
 | _=>false
theorem SX {j:aY->U} {l l' : ae} {m:dy} {v:U} (g:m.looks=true) (h:bT P j l m=some (v,l')) :l'=l:=by cases m<;>simp only[dy.looks,jq] at g<;>simp only[bT,e7,bc,Prod.mk.injEq] at h<;>first | exact h.2 | exact h.2.symm
theorem SU {j:aY->U} {l x:ae} {m:dy} {v:U} (p:m.looks=true) (h:bT P j l m=some (v,l)) :bT P j (l++x) m=some (v,l++x):=by
 cases m<;>simp only[dy.looks,jq] at p<;>simp only[bT,e7,bc,Prod.mk.injEq,and_true] at h ⊢<;>try exact h
 case ld1 a=>
  rw[bind_some] at h ⊢;obtain⟨y,h1,g⟩:=h;exact⟨y,KH h1,g⟩
 case j8 n a=>
  rw[bind_some] at h ⊢;obtain⟨y,h1,g⟩:=h;exact⟨y,KH h1,g⟩
 case tG x=>exact Pn h
 case zh y=>
  unfold C5 at h ⊢;cases q:j y<;>rw[q] at h<;>(try simp only at h)<;>try (cases h;done)
  ·exact h
  ·rename_i b;cases o:l[b]? with
   | none=>rw[o] at h;cases h
   | some c=>simp only[aV (a1 o)];exact h
theorem SV {j:aY->U} {l g:ae} {m:dy} {v:U} (o:m.looks=true) (p:m.reads=false) (h:bT P j l m=some (v,l)) :bT P j g m=some (v,g):=by cases m<;>simp only[dy.looks,jq] at o<;>simp only[dy.reads,reduceCtorEq] at p<;>simp only[bT,e7,bc,Prod.mk.injEq,and_true] at h ⊢<;>exact h
theorem Af (zero:ag) :∀ n,(cQ zero n).length=n*zero.length
 | 0=>by simp[cQ]
 | n+1=>by rw[cQ,cI,Af zero n,ej,rJ]
theorem XI {cs vs:ag} {off:Nat} (h:off+vs.length<=cs.length) :(av cs off vs).length=cs.length:=by simp only[av,cI,cL,i1];omega
theorem HI {g:Nat->Option (Nat × Nat)}:∀ {ps:List (Nat × U)} {zero cs:ag},en g zero ps=some cs->cs.length=zero.length
 | [],zero,cs,h=>by simp only[en,bc] at h;rw[<-h]
 | (i,m) ::r,zero,cs,h=>by
  unfold en at h;split at h
  ·rename_i j size o _ _;split at h
   ·rename_i h1;rw[HI h,XI F]
   ·cases h
  ·cases h
theorem TH {op:Op} {m:dy} (g:kD P op=some m) (j:m.lp=true) {q:aY->U} {l l' : ae} {v:U} (h:bT P q l m=some (v,l')) :
  ∃ cs mk,kP P q op=some (cs,mk)/\v=mk l.length/\l'=l++[.cells cs.length cs]:=by
 cases op<;>simp only[kD] at g<;>try (cases g;done)
 case alloc C=>
  rw[map_some] at g;obtain⟨zero,h1,rfl⟩:=g;simp only[bT,bc,Prod.mk.injEq] at h;obtain⟨rfl,rfl⟩:=h;exact⟨zero,_,by simp only[kP,h1];rfl,rfl,rfl⟩
 case box C x=>
  cases g;simp only[bT,map_some,Prod.mk.injEq] at h;obtain⟨cs,h1,rfl,rfl⟩:=h;exact⟨cs,_,by simp only[kP,h1];rfl,rfl,rfl⟩
 case buildSlice C n K=>
  simp only[bind_some] at g;obtain⟨e,h1,z,t,zero,u,g⟩:=g;rw[gL] at g;obtain⟨p,rfl⟩:=g;simp only[bT,map_some,Prod.mk.injEq] at h;obtain⟨cs,o,rfl,rfl⟩:=h;have w:cs.length=n*z:=by rw[HI o,Af,p.1]
  exact⟨cs,_,by simp only[kP,h1,t,u,ak p,o];rfl,rfl,by rw[w]⟩
 case makeSlice C a c=>
  simp only[bind_some] at g;obtain⟨e,h1,z,t,I,u,zero,p,g⟩:=g;rw[gL] at g;obtain⟨o,rfl⟩:=g;simp only[bT] at h;unfold l6 at h;cases D:q a<;>rw[D] at h<;>(try simp only at h)<;>try (cases h;done)
  cases F:q c<;>rw[F] at h<;>(try simp only at h)<;>try (cases h;done)
  rw[gL] at h;obtain⟨G,H⟩:=h;cases H;rename_i J B;have w:(cQ zero B.toNat).length=B.toNat*z:=by rw[Af,o]
  exact⟨cQ zero B.toNat,_,by simp only[kP,D,F,h1,asInt,t,u,p];rw[ak ⟨o,G⟩],rfl,by rw[w]⟩
 case pick=>cases g;cases j
 case move=>cases g;cases j
 case assign=>cases g;cases j
 case nilCheck=>cases g;cases j
 case binOp=>cases g;cases j
 case unOp=>cases g;cases j
 case call c=>
  exfalso;split at g
  ·unfold qM at g
   repeat' split at g
   all_goals first
    | (cases g;done)
    | (cases g;cases j;done)
    | (simp only[bind_some,map_some] at g;obtain⟨_,_,rfl⟩:=g;cases j;done)
    | (simp only[bind_some,map_some] at g;obtain⟨_,_,_,_,rfl⟩:=g;cases j;done)
    | (simp only[bind_some,gL] at g;obtain⟨_,_,_,_,_,_,_,rfl⟩:=g;cases j;done)
    | (simp only[bind_some,gL] at g;obtain⟨_,_,_,_,_,_,_,_,_,rfl⟩:=g;cases j;done)
  ·split at g
   ·rw[gL] at g;obtain⟨_,rfl⟩:=g;cases j
   ·cases g
  ·cases g
 case next it b=>exfalso;cases b<;>simp only[reduceCtorEq] at g<;>cases g<;>cases j
 case panic=>cases g;cases j
 case lookup=>exfalso;split at g<;>(try cases g;done);rw[map_some] at g;obtain⟨_,_,rfl⟩:=g;cases j
 case build=>exfalso;simp only[bind_some,map_some] at g;obtain⟨_,_,_,_,rfl⟩:=g;cases j
 case typeAssert=>exfalso;rw[map_some] at g;obtain⟨_,_,rfl⟩:=g;cases j
 case store=>exfalso;rw[map_some] at g;obtain⟨_,_,rfl⟩:=g;cases j
 case slice=>exfalso;rw[map_some] at g;obtain⟨_,_,rfl⟩:=g;cases j
 case fieldAddr=>exfalso;rw[bind_some] at g;obtain⟨_,_,g⟩:=g;split at g<;>cases g;cases j
 case field=>exfalso;rw[bind_some] at g;obtain⟨_,_,g⟩:=g;split at g<;>cases g<;>cases j
 case extract=>cases g;cases j
 case makeFunc f a b=>exfalso;cases f<;>simp only at g<;>cases g;cases j
 all_goals
  exfalso
  repeat' split at g
  all_goals first | (cases g;done) | (cases g;cases j;done)
end
section
variable {P:bp} {G:Nat->U}
theorem G8 {op:Op} {m:dy} (g:kD P op=some m) (h:iv op=false) :m.looks=true\/m.lp=true:=by
 cases op<;>simp only[iv,Fp] at h<;>simp only[kD] at g<;>try (cases g;done)
 case move=>cases g;exact .inl rfl
 case assign=>cases g;exact .inl rfl
 case pick=>cases g;exact .inl rfl
 case alloc=>rw[map_some] at g;obtain⟨_,_,rfl⟩:=g;exact .inr rfl
 case box=>cases g;exact .inr rfl
 case build=>simp only[bind_some,map_some] at g;obtain⟨_,_,_,_,rfl⟩:=g;exact .inl rfl
 case buildSlice=>simp only[bind_some,gL] at g;obtain⟨_,_,_,_,_,_,_,rfl⟩:=g;exact .inr rfl
 case load=>split at g<;>cases g<;>exact .inl rfl
 case nilCheck=>cases g;exact .inl rfl
 case binOp=>cases g;exact .inl rfl
 case unOp=>cases g;exact .inl rfl
 case convert=>
  repeat' split at g
  all_goals first | (cases g;done) | (cases g;exact .inl rfl)
 case makeInterface=>split at g<;>cases g;exact .inl rfl
 case makeFunc f a b=>cases f<;>simp only at g<;>cases g;exact .inl rfl
 case makeSlice=>simp only[bind_some,gL] at g;obtain⟨_,_,_,_,_,_,_,_,_,rfl⟩:=g;exact .inr rfl
 case slice=>rw[map_some] at g;obtain⟨_,_,rfl⟩:=g;exact .inl rfl
 case fieldAddr=>rw[bind_some] at g;obtain⟨_,_,g⟩:=g;split at g<;>cases g;exact .inl rfl
 case field=>rw[bind_some] at g;obtain⟨_,_,g⟩:=g;split at g<;>cases g<;>exact .inl rfl
 case indexAddr=>split at g<;>cases g<;>exact .inl rfl
 case index=>
  repeat' split at g
  all_goals first | (cases g;done) | (cases g;exact .inl rfl)
 case extract=>cases g;exact .inl rfl
 case call c=>
  split at g
  ·rename_i b j;rw[j] at h;cases b<;>simp only[Fp] at h<;>unfold qM at g<;>(repeat' split at g)<;>first
    | (cases g;done)
    | (cases g;exact .inl rfl)
    | (rw[map_some] at g;obtain⟨_,_,rfl⟩:=g;exact .inl rfl)
    | (exfalso;simp only[reduceCtorEq] at *;done)
  ·rename_i f o;rw[o] at h;cases h
  ·cases g
theorem G9 {op:Op} {m:dy} (g:kD P op=some m) (h:pd P op=false) :m.reads=false/\m.lp=false:=by
 cases op<;>simp only[pd,Fp] at h<;>simp only[kD] at g<;>try (cases g;done)
 case move=>cases g;exact⟨rfl,rfl⟩
 case assign=>cases g;exact⟨rfl,rfl⟩
 case pick=>cases g;exact⟨rfl,rfl⟩
 case build=>simp only[bind_some,map_some] at g;obtain⟨_,_,_,_,rfl⟩:=g;exact⟨rfl,rfl⟩
 case store=>rw[map_some] at g;obtain⟨_,_,rfl⟩:=g;exact⟨rfl,rfl⟩
 case nilCheck=>cases g;exact⟨rfl,rfl⟩
 case binOp=>cases g;exact⟨rfl,rfl⟩
 case unOp=>cases g;exact⟨rfl,rfl⟩
 case makeInterface=>split at g<;>cases g;exact⟨rfl,rfl⟩
 case makeFunc f a b=>cases f<;>simp only at g<;>cases g;exact⟨rfl,rfl⟩
 case typeAssert=>rw[map_some] at g;obtain⟨_,_,rfl⟩:=g;exact⟨rfl,rfl⟩
 case slice=>rw[map_some] at g;obtain⟨_,_,rfl⟩:=g;exact⟨rfl,rfl⟩
 case fieldAddr=>rw[bind_some] at g;obtain⟨_,_,g⟩:=g;split at g<;>cases g;exact⟨rfl,rfl⟩
 case field=>rw[bind_some] at g;obtain⟨_,_,g⟩:=g;split at g<;>cases g<;>exact⟨rfl,rfl⟩
 case indexAddr=>split at g<;>cases g<;>exact⟨rfl,rfl⟩
 case index=>
  repeat' split at g
  all_goals first | (cases g;done) | (cases g;exact⟨rfl,rfl⟩)
 case extract=>cases g;exact⟨rfl,rfl⟩
 case next it b=>cases b<;>simp only[reduceCtorEq] at g<;>cases g;exact⟨rfl,rfl⟩
 case panic=>cases g;exact⟨rfl,rfl⟩
 case lookup=>split at g<;>(try cases g;done);rw[map_some] at g;obtain⟨_,_,rfl⟩:=g;exact⟨rfl,rfl⟩
 case mapUpdate=>split at g<;>cases g;exact⟨rfl,rfl⟩
 case insert=>split at g<;>cases g;exact⟨rfl,rfl⟩
 case makeMap=>split at g<;>cases g;exact⟨rfl,rfl⟩
 case range=>split at g<;>cases g;exact⟨rfl,rfl⟩
 case call c=>
  split at g
  ·rename_i b j;rw[j] at h;unfold qM at g
   repeat' split at g
   all_goals first
    | (cases g;done)
    | (exfalso;simp_all;done)
    | (cases g;exact⟨rfl,rfl⟩)
    | (simp only[bind_some,map_some] at g;obtain⟨_,_,rfl⟩:=g;exact⟨rfl,rfl⟩)
    | (simp only[bind_some,map_some] at g;obtain⟨_,_,_,_,rfl⟩:=g;exact⟨rfl,rfl⟩)
    | (simp only[bind_some,gL] at g;obtain⟨_,_,_,_,_,_,_,rfl⟩:=g;exact⟨rfl,rfl⟩)
    | (simp only[bind_some,gL] at g;obtain⟨_,_,_,_,_,_,_,_,_,rfl⟩:=g;exact⟨rfl,rfl⟩)
  ·split at g
   ·rw[gL] at g;obtain⟨_,rfl⟩:=g;exact⟨rfl,rfl⟩
   ·cases g
  ·cases g
inductive kt (P:bp) (G:Nat->U) (s:c9) (o:a8) (sgZ:aS) (l:ae) (v:U) (l1:ae) :bJ->Prop
 | pure (g:dy) (h:s.b=.fy g) (m:g.looks=true) (j:l1=l) (t:bT P (dA G sgZ) l g=some (v,l)) :kt P G s o sgZ l v l1 (.pure s.i v)
 | new (g:dy) (cs:ag) (h:s.b=.fy g) (m:g.lp=true) (j:l1=l++[.cells cs.length cs]) :kt P G s o sgZ l v l1 (.new s.i v cs)
 | fc (p:iv o.op=true) (q:l.length<=l1.length) :kt P G s o sgZ l v l1 (.fc s.i v (aZ l1))
theorem kt.idx {s:c9} {o:a8} {sgZ:aS} {l l1:ae} {v:U} {t:bJ} (k:kt P G s o sgZ l v l1 t) :t.idx=s.i:=by cases k<;>rfl
theorem kt.val {s:c9} {o:a8} {sgZ:aS} {l l1:ae} {v:U} {t:bJ} (k:kt P G s o sgZ l v l1 t) :t.val=v:=by cases k<;>rfl
theorem kt.next {s:c9} {o:a8} {sgZ:aS} {l l1:ae} {v:U} {t:bJ} (k:kt P G s o sgZ l v l1 t) :mU (aZ l) t=aZ l1:=by
 cases k with
 | pure m h j g q=>rw[g];rfl
 | new m cs h j g=>rw[g,<-lO];rfl
 | fc p _=>rfl
theorem XW {ops:Array a8} {s:c9} {o:a8} (g:mA P ops s o) {sgZ:aS} (D:iJ ops sgZ o=some true) {l:ae} {K:U->ae->Prop} (h:gE P G s.b sgZ l K) :
  ∃ v l1 t,kt P G s o sgZ l v l1 t/\tp P G ops ⟨sgZ,aZ l⟩ t/\K v l1:=by
 obtain⟨v,l1,h1,F,z,J⟩:=LN g h;have u:iv o.op=true->∃ v l1 t,kt P G s o sgZ l v l1 t/\tp P G ops ⟨sgZ,aZ l⟩ t/\K v l1:=fun p=>⟨v,l1,_,.fc p F,⟨o,g.here,D,h1,by simpa using F⟩,z⟩
 cases j:s.b with
 | fy w=>
  have B:=g.fy w j;cases p:iv o.op with
  | true=>exact u p
  | false=>
   have C:=J w j (G8 B p);rcases G8 B p with H | I
   ·have:=SX H C;subst this;exact⟨v,l1,_,.pure w j H rfl C,⟨o,g.here,D⟩,z⟩
   ·obtain⟨cs,mk,O,Q,R⟩:=TH B I C;exact⟨v,l1,_,.new w cs j I R,⟨o,mk,g.here,D,O,Q⟩,z⟩
 | lg f args=>
  obtain⟨c,q,m,_⟩:=g.lg f args j;exact u (by rw[q];simp only[iv,m])
 | lU x args=>
  obtain⟨c,q,m,_⟩:=g.lU x args j;exact u (by rw[q];simp only[iv,m])
 | nz x name args=>
  obtain⟨c,q,m,_⟩:=g.nz x name args j;exact u (by rw[q];simp only[iv,m])
inductive ja (P:bp) (G:Nat->U) (ops:Array a8) :List c9->aS->ae->im->List (bJ × aS × ae)->aS->ae->Prop
 | nil {g l seen}:ja P G ops [] g l seen [] g l
 | skip {s m r g l seen h o j}:mA P ops s m->iJ ops g m=some false->ja P G ops r (gC g s.dst fC) l seen h o j->ja P G ops (s::r) g l seen ((.skip s.i,g,l) ::h) o j
 | step {s m r g l t p q seen h o j}:mA P ops s m->kt P G s m g l t p q->tp P G ops ⟨g,aZ l⟩ q->pB s.qJ seen p->
   ja P G ops r (gC g s.dst t) p (p7 s.bm s.i (k1 P G s.b g t l p) seen) h o j->ja P G ops (s::r) g l seen ((q,g,l) ::h) o j
theorem Ej {ops:Array a8} {K:aS->ae->Prop}:∀ {s:List c9} {sgZ:aS} {l:ae} {seen:im},(∀ x∈s,∃ o,mA P ops x o)->jL P G s sgZ l seen K->∃ es g l',ja P G ops s sgZ l seen es g l'/\K g l'
 | [],sgZ,l,seen,_,h=>⟨[],sgZ,l,.nil,h⟩
 | s::r,sgZ,l,seen,q,h=>by
  obtain⟨o,j⟩:=q s V;rcases IH j h with ⟨t,h⟩ | ⟨t,h⟩
  ·obtain⟨D,B,C,h1,v,w,z⟩:=XW j t h;obtain⟨es,g,l',m,p⟩:=Ej (fun x u=>q x (by simp[u])) z;exact⟨_,g,l',.step j h1 v w m,p⟩
  ·obtain⟨es,g,l',m,p⟩:=Ej (fun x u=>q x (by simp[u])) h;exact⟨_,g,l',.skip j t m,p⟩
theorem Ek {K:aS->ae->Prop}:∀ {s:List c9} {sgZ:aS} {l:ae},(∀ x∈s,x.bm=false)->iF P G s sgZ l K->jL P G s sgZ l [] K
 | [],sgZ,l,_,h=>h
 | s::r,sgZ,l,hk,h=>by
  have mono:∀ (b:rN) (K h4:U->ae->Prop),(∀ o l,K o l->h4 o l)->gE P G b sgZ l K->gE P G b sgZ l h4:=by
   intro b K h4 p h;cases b with
   | fy I=>simp only[gE,yc] at h ⊢;obtain⟨o,h1,g⟩:=h;exact⟨o,h1,IK p g⟩
   | lg f args=>obtain⟨r,j,h1,g,m⟩:=h;exact⟨r,j,h1,g,p _ _ m⟩
   | lU x args=>
    simp only[gE,vP] at h ⊢;split at h
    ·obtain⟨u,r,j,h1,g,m⟩:=h;exact⟨u,r,j,h1,g,p _ _ m⟩
    ·cases h
   | nz x name args=>
    simp only[gE,ys] at h ⊢;split at h
    ·split at h
     ·obtain⟨u,r,j,h1,g,m⟩:=h;exact⟨u,r,j,h1,g,p _ _ m⟩
     ·cases h
    ·cases h
  have F:∀ (t:Option (Option Tmp × Bool)) (B q C kT:Prop),(B->C)->(q->kT)->oQ sgZ t B q->oQ sgZ t C kT:=by
   intro t B q C kT D v h;unfold oQ at h ⊢;split at h
   ·exact D h
   ·rename_i d w;simp only[pP] at h ⊢;split at h
    ·rw[wC] at h ⊢;rcases h with ⟨a,b⟩ | ⟨a,b⟩
     ·exact .inl ⟨a,D b⟩
     ·exact .inr ⟨a,v b⟩
    ·cases h
    ·exact v h
   ·exact v h
  have H:s.bm=false:=hk s V;refine F _ _ _ _ _ (mono _ _ _ fun o j h=>?_) (fun h=>Ek (fun x z=>hk x (by simp[z])) h) h;refine⟨trivial,?_⟩;rw[H];exact Ek (fun x z=>hk x (by simp[z])) h
theorem kt.len {s:c9} {o:a8} {sgZ:aS} {l l1:ae} {v:U} {t:bJ} (k:kt P G s o sgZ l v l1 t) :l.length<=l1.length:=by
 cases k with
 | pure p h m g u=>rw[g];exact aN _
 | new p cs h m g=>rw[g];simp
 | fc q j=>exact j
theorem ja.len {ops:Array a8} {s:List c9} {sgZ j:aS} {l l' : ae} {seen:im} {es:List (bJ × aS × ae)} (h:ja P G ops s sgZ l seen es j l') :l.length<=l'.length:=by
 induction h with
 | nil=>exact aN _
 | skip _ _ _ g=>exact g
 | step _ k _ _ _ g=>exact dC k.len g
def qS (es:List (bJ × aS × ae)) (l' : ae) (q:Nat) :ae:=match es[q]? with | some x=>x.2.2 | none=>l'
theorem ja.idx {ops:Array a8} {s:List c9} {sgZ j:aS} {l l' : ae} {seen:im} {es:List (bJ × aS × ae)} (h:ja P G ops s sgZ l seen es j l') :es.map (fun e=>e.1.idx)=s.map (·.i):=by
 induction h with
 | nil=>rfl
 | skip _ _ _ g=>simp only[dg,g];rfl
 | step _ k _ _ _ g=>simp only[dg,g,k.idx]
theorem ja.at {ops:Array a8} {s:List c9} {sgZ q:aS} {l l' : ae} {seen:im} {es:List (bJ × aS × ae)} (h:ja P G ops s sgZ l seen es q l') :
  (∀ (p:Nat) (e:bJ × aS × ae),es[p]?=some e->tp P G ops ⟨e.2.1,aZ e.2.2⟩ e.1/\fm ops ⟨sgZ,aZ l⟩ (es.map (·.1)) p=⟨e.2.1,aZ e.2.2⟩)/\fm ops ⟨sgZ,aZ l⟩ (es.map (·.1)) es.length=⟨q,aZ l'⟩:=by
 induction h with
 | nil=>exact⟨fun p e g=>by simp at g,rfl⟩
 | @skip s u r sgZ l seen es q l' j w _ o=>
  have m:jF ops ⟨sgZ,aZ l⟩ (.skip s.i)=⟨gC sgZ s.dst fC,aZ l⟩:=by simp only[jF,r6,bJ.idx,j.here,qr,bJ.val,mU,j.dst]
  refine⟨fun p e g=>?_,?_⟩
  ·cases p with
   | zero=>simp only[hl,bc] at g;subst g;exact⟨⟨u,j.here,w⟩,rfl⟩
   | succ p=>
    simp only[js] at g;obtain⟨h1,t⟩:=o.1 p e g;refine⟨h1,?_⟩;rw[dg,Ay,m];exact t
  ·rw[dg,dM,Ay,m];exact o.2
 | @step s u r sgZ l C z B seen es q l' j k v D _ o=>
  have m:jF ops ⟨sgZ,aZ l⟩ B=⟨gC sgZ s.dst C,aZ z⟩:=by simp only[jF,r6,k.idx,j.here,qr,k.val,k.next,j.dst]
  refine⟨fun p e g=>?_,?_⟩
  ·cases p with
   | zero=>simp only[hl,bc] at g;subst g;exact⟨v,rfl⟩
   | succ p=>
    simp only[js] at g;obtain⟨h1,t⟩:=o.1 p e g;refine⟨h1,?_⟩;rw[dg,Ay,m];exact t
  ·rw[dg,dM,Ay,m];exact o.2
theorem ja.still {ops:Array a8} {s:List c9} {sgZ H:aS} {l l' : ae} {seen:im} {es:List (bJ × aS × ae)} (h:ja P G ops s sgZ l seen es H l') (j:Nat) (S:ae->Prop)
  (K:∀ l x,S l->S (l++x)) (m:S l) :∀ q,q<=es.length->(∀ (p:Nat) (e:bJ × aS × ae),p<q->es[p]?=some e->e.1.hx=true->(j,S)∈seen/\∃ x,s[p]?=some x/\j∈x.qJ)->S (qS es l' q):=by
 have I:∀ {D:List Nat} {seen:im} {l:ae},pB D seen l->(j,S)∈seen->j∈D->S l:=by
  intro D seen l B hm O
  induction seen with
  | nil=>cases hm
  | cons e r u=>
   obtain⟨h1,g⟩:=B;rcases kp.1 hm with rfl | hm
   ·exact h1 (by simpa using O)
   ·exact u g hm
 induction h with
 | nil=>
  intro q t _;simp only[hp] at t;obtain rfl:q=0:=F;exact m
 | @skip s T r sgZ l seen es H l' U W _ u=>
  intro q t v;cases q with
  | zero=>exact m
  | succ q=>exact u m q (by simpa using t) (fun p e Q w z=>by
    obtain⟨h1,x,g,o⟩:=v (p+1) e F (by simpa using w) z;exact⟨h1,x,by simpa using g,o⟩)
 | @step s T r sgZ l Y l1 X seen es H l' U k V B _ u=>
  intro q t v;cases q with
  | zero=>exact m
  | succ q=>
   have h1:S l1:=by
    cases k with
    | pure R J hm C _=>rw[C];exact m
    | new R cs J hm C=>rw[C];exact K _ _ m
    | fc w _=>
     obtain⟨h1,x,g,o⟩:=v 0 _ F rfl rfl;simp only[hl,bc] at g;subst g;exact I B h1 o
   refine u h1 q (by simpa using t) (fun p e Q w z=>?_);obtain⟨h1,x,g,o⟩:=v (p+1) e F (by simpa using w) z;refine⟨?_,x,by simpa using g,o⟩;unfold p7;cases s.bm with
   | false=>exact h1
   | true=>exact Bk _ h1
theorem ja.split {ops:Array a8} {s:List c9} {sgZ q:aS} {l l' : ae} {seen:im} {es:List (bJ × aS × ae)} (h:ja P G ops s sgZ l seen es q l') :∀ (p:Nat) (e:bJ × aS × ae),es[p]?=some e->e.1.pN=false->
  ∃ x o v l1 j,s[p]?=some x/\mA P ops x o/\kt P G x o e.2.1 e.2.2 v l1 e.1 ∧
   ja P G ops (s.drop (p+1)) (gC e.2.1 x.dst v) l1 (p7 x.bm x.i (k1 P G x.b e.2.1 v e.2.2 l1) j) (es.drop (p+1)) q l':=by
 induction h with
 | nil=>intro p e g;simp at g
 | @skip s o r sgZ l seen es q l' C H _ z=>
  intro p e g m;cases p with
  | zero=>simp only[hl,bc] at g;subst g;cases m
  | succ p=>
   obtain⟨x,B,v,l1,j,h1,t,u,w⟩:=z p e (by simpa using g) m;exact⟨x,B,v,l1,j,by simpa using h1,t,u,by simpa using w⟩
 | @step s o r sgZ l v l1 I seen es q l' C k F D tr z=>
  intro p e g m;cases p with
  | zero=>
   simp only[hl,bc] at g;subst g;exact⟨s,o,v,l1,seen,rfl,C,k,by simpa using tr⟩
  | succ p=>
   obtain⟨x,B,v,l1,j,h1,t,u,w⟩:=z p e (by simpa using g) m;exact⟨x,B,v,l1,j,by simpa using h1,t,u,by simpa using w⟩
end
section
variable {P:bp} {G:Nat->U}
theorem JX {q:List Nat} {ops:Array a8}:∀ (g done j:List Nat),(∀ i∈g,i<ops.size)->(lz P q ops g done j).map (·.1)=g
 | [],_,_,_=>rfl
 | i::r,done,j,h=>by
  unfold lz;have m:i<ops.size:=h i V;rw[rA m];simp only;split<;>simp only[dg]<;>rw[JX r _ _ fun p o=>h p (by simp[o])]
theorem DN {S:List Nat} {ops:Array a8}:∀ (I done C:List Nat) (p i:Nat) (v:List Nat),(∀ i∈I,i<ops.size)->(lz P S ops I done C)[p]?=some (i,v)->
  (∃ o,ops[i]?=some o/\iv o.op=true)->∀ j,(j∈done\/∃ q,q<p/\I[q]?=some j)->(∃ o,ops[j]?=some o/\pd P o.op=true)->(∀ e∈C,mf S e j=false)->
  (∀ (u t:Nat) (o:a8),u<=p->I[u]?=some t->ops[t]?=some o->iv o.op=true->(u=p\/o.guard=none)->mf S t j=false)->j∈v
 | [],done,C,p,i,v,_,h,_,_,_,_,_,_=>by simp[lz] at h
 | x::r,done,C,p,i,v,T,h,B,j,g,R,G,H=>by
  unfold lz at h;have X:x<ops.size:=T x V;rw[rA X] at h;have Q:ops[x]?=some ops[x]:=rA X;simp only at h;have W:∀ i∈r,i<ops.size:=fun j g=>T j (by simp[g])
  cases z:iv ops[x].op with
  | true=>
   rw[z] at h;simp only at h;cases p with
   | zero=>
    simp only[hl,bc,Prod.mk.injEq] at h;obtain⟨rfl,rfl⟩:=h;obtain⟨o,h1,D⟩:=R;rcases g with g | ⟨q,U,_⟩
    ·refine dx.2 ⟨g,?_⟩;simp only[h1,D,lH,Fs,bU,gb];exact⟨by simp[H 0 x ops[x] (aN _) V Q z (.inl rfl)],fun e B=>by simp[G e B]⟩
    ·omega
   | succ p=>
    simp only[js] at h;refine DN r _ _ p i v W h B j ?_ R ?_ ?_
    ·rcases g with g | ⟨q,U,g⟩
     ·exact .inl (by simp[g])
     ·cases q with
      | zero=>simp only[hl,bc] at g;exact .inl (by simp[g])
      | succ q=>exact .inr ⟨q,F,by simpa using g⟩
    ·intro e w;cases m:ops[x].guard with
     | none=>
      rw[m] at w;rcases kp.1 w with rfl | w
      ·exact H 0 e ops[e] F V Q z (.inr m)
      ·exact G e w
     | some ae=>rw[m] at w;exact G e w
    ·intro u t o Y K O J m;exact H (u+1) t o F (by simpa using K) O J (by rcases m with rfl | m;exact .inl rfl;exact .inr m)
  | false=>
   rw[z] at h;simp only at h;cases p with
   | zero=>
    simp only[hl,bc,Prod.mk.injEq] at h;obtain⟨rfl,rfl⟩:=h;obtain⟨o,h1,D⟩:=B;rw[Q] at h1;cases h1;rw[z] at D;cases D
   | succ p=>
    simp only[js] at h;refine DN r _ _ p i v W h B j ?_ R G ?_
    ·rcases g with g | ⟨q,U,g⟩
     ·exact .inl (by simp[g])
     ·cases q with
      | zero=>simp only[hl,bc] at g;exact .inl (by simp[g])
      | succ q=>exact .inr ⟨q,F,by simpa using g⟩
    ·intro u t o Y K O J m;exact H (u+1) t o F (by simpa using K) O J (by rcases m with rfl | m;exact .inl rfl;exact .inr m)
theorem Ht {w:List Nat} {ops:Array a8}:∀ {t:List Nat},wa w ops t=true->∀ (p g i j:Nat) (o:a8),t[p]?=some i->t[g]?=some j->p<g->ops[i]?=some o->iv o.op=true->mf w j i=true
 | [],_,p,g,i,j,o,m,_,_,_,_=>by simp at m
 | x::r,h,p,g,i,j,o,m,q,z,v,u=>by
  simp only[wa,bU] at h;cases g with
  | zero=>omega
  | succ g=>
   simp only[js] at q;cases p with
   | zero=>
    simp only[hl,bc] at m;subst m;rw[v] at h;simp only[u,vd,Bb,gb] at h;exact h.1 j (cJ q)
   | succ p=>exact Ht h.2 p g i j o (by simpa using m) q F v u
theorem zm {alZ j:Type} {f:alZ->Option j}:∀ {l:List alZ} {r:List j},l.mapM f=some r->∀ (p:Nat) (x:j),r[p]?=some x->∃ a,l[p]?=some a/\f a=some x
 | [],r,h,p,x,g=>by simp at h;subst h;simp at g
 | a::l,r,h,p,x,g=>by
  rw[pj] at h;simp only[Option.bind_eq_bind,bind_some,tk,bc] at h;obtain⟨b,h1,u,o,rfl⟩:=h;cases p with
  | zero=>simp only[hl,bc] at g;subst g;exact⟨a,rfl,h1⟩
  | succ p=>obtain⟨m,q,t⟩:=zm o p x (by simpa using g);exact⟨m,by simpa using q,t⟩
theorem De {alZ g:Type} {f:alZ->Option g}:∀ {l:List alZ} {r:List g},l.mapM f=some r->r.length=l.length
 | [],r,h=>by simp at h;subst h;rfl
 | a::l,r,h=>by
  rw[pj] at h;simp only[Option.bind_eq_bind,bind_some,tk,bc] at h;obtain⟨b,h1,m,j,rfl⟩:=h;simp[De j]
theorem RQ (es:List (bJ × aS × ae)) (l' : ae) (n q:Nat) :qS (es.drop n) l' q=qS es l' (n+q):=by unfold qS;rw[gx]
theorem Qv {id N' : Nat} {ops:Array a8} {ah:List c9} (bs:∀ (i:Nat) (o:a8),ops[i]?=some o->hO N' o.dst=true)
  (a7:DC (gX ops) ops (eA (gX ops) ops)=true) (bt:wa (gX ops) ops (eA (gX ops) ops)=true)
  (Q:(lz P (gX ops) ops (eA (gX ops) ops) [] []).mapM (fun p=>uV P ops p.1 p.2 (((lz P (gX ops) ops (eA (gX ops) ops) [] []).flatMap (·.2)).contains p.1))=some ah)
  {sgZ bl:aS} {l l' : ae} {es:List (bJ × aS × ae)} (tr:ja P G ops ah sgZ l [] es bl l') :c7 P G (.code (.region id ops true) N' sgZ (aZ l) .normal bl (aZ l')):=by
 simp only[DC,bU] at a7;obtain⟨⟨⟨⟨bL,aI⟩,bh⟩,bi⟩,bj⟩:=a7;have aQ:∀ i∈eA (gX ops) ops,i<ops.size:=fun i aP=>by
  rw[gb] at bi;simpa [Bs] using bi i aP
 have a9:(lz P (gX ops) ops (eA (gX ops) ops) [] []).map (·.1)=eA (gX ops) ops:=JX _ _ _ aQ;have aF:∀ (p:Nat) (x:c9),ah[p]?=some x->∃ o,mA P ops x o/\(lz P (gX ops) ops (eA (gX ops) ops) [] [])[p]?=some (x.i,x.qJ) ∧
   x.bm=((lz P (gX ops) ops (eA (gX ops) ops) [] []).flatMap (·.2)).contains x.i:=fun p x R=>by
  obtain⟨a,h1,w⟩:=zm Q p x R;obtain⟨o,K,aq,aA,aK⟩:=xA w;exact⟨o,K,by rw[h1,aq,aA],by rw[aK,aq]⟩
 have bd:∀ (p:Nat) (x:c9),ah[p]?=some x->(eA (gX ops) ops)[p]?=some x.i:=fun p x R=>by
  obtain⟨o,_,h1,_⟩:=aF p x R;rw[<-a9,b0,h1];rfl
 have a3:∀ (p:Nat) (e:bJ × aS × ae),es[p]?=some e->∃ x,ah[p]?=some x/\x.i=e.1.idx:=fun p e v=>by
  have:=ch (·[p]?) tr.idx;simp only[b0,v,cA] at this;cases R:ah[p]? with
  | none=>rw[R] at this;cases this
  | some x=>rw[R] at this;simp only[cA,bc] at this;exact⟨x,rfl,this.symm⟩
 have ag:∀ (p:Nat) (e:bJ × aS × ae),es[p]?=some e->(eA (gX ops) ops)[p]?=some e.1.idx:=fun p e v=>by
  obtain⟨x,h1,w⟩:=a3 p e v;rw[bd p x h1,w]
 have O:∀ (p:Nat) (t:bJ),(es.map (·.1))[p]?=some t->∃ e,es[p]?=some e/\e.1=t:=fun p t X=>by simpa using X
 have aY:∀ (p:Nat) (e:bJ × aS × ae),es[p]?=some e->e.1.hx=true->∃ o,ops[e.1.idx]?=some o/\iv o.op=true/\(iJ ops e.2.1 o=some true):=fun p e v I=>by
  have aw:e.1.pN=false:=by cases h:e.1<;>rw[h] at I<;>first | rfl | cases I
  obtain⟨x,o,V,S,bk,h1,w,K,aq⟩:=tr.split p e v aw;have am:=(tr.at.1 p e v).1;have bA:=K.idx;have ak:=w.here;rw[<-bA] at ak;refine⟨o,ak,?_,?_⟩
  ·revert I;generalize e.1=t at K;intro I;cases K with
   | pure=>cases I
   | new=>cases I
   | fc v _=>exact v
  ·revert am I ak;generalize e.1=t;intro I am ak;cases t<;>first | (cases I;done) | skip
   obtain⟨Y,aA,aK,_⟩:=am;simp only[bJ.idx] at ak;rw[ak] at aA;cases aA;exact aK
 have bO:tn ops (mf (gX ops)) (es.map (·.1)):=by
  refine⟨Qt bL,fun i aP=>?_,fun p m t ay C al v=>?_,fun p t C=>?_,fun p m t ay C al au=>?_,fun p m t ay C al au I=>?_⟩
  ·rw[gb] at bj;have:=bj i (by simpa using aP);have j:i∈eA (gX ops) ops:=by simpa using this
   have ai:(es.map (·.1)).map bJ.idx=eA (gX ops) ops:=by
    rw[iL];show es.map (fun e=>e.1.idx)=_;rw[tr.idx,<-a9];apply g1;intro p;rw[b0,b0];cases R:ah[p]? with
    | none=>
     have:(lz P (gX ops) ops (eA (gX ops) ops) [] [])[p]?=none:=by
      rw[Fv] at R ⊢;rw[<-De Q];exact R
     rw[this];rfl
    | some x=>obtain⟨o,_,h1,_⟩:=aF p x R;rw[h1];rfl
   rw[<-ai] at j;obtain⟨t,h1,w⟩:=cE.1 j;obtain⟨p,C⟩:=xW h1;exact⟨p,t,C,w⟩
  ·obtain⟨e,z,u⟩:=O p t C;obtain⟨H,ao,ap⟩:=O m ay al;have D:=ag p e z;have W:=ag m H ao;rw[u] at D;rw[ap] at W;rcases pn p m with h | h | h
   ·exact bV v (zK aI p m _ _ D W h).1
   ·exact h
   ·exact bV v.symm (zK aI m p _ _ W D h).1
  ·obtain⟨e,z,u⟩:=O p t C;have D:=ag p e z;rw[u] at D;exact aQ _ (cJ D)
  ·obtain⟨e,z,u⟩:=O p t C;obtain⟨H,ao,ap⟩:=O m ay al;have D:=ag p e z;have W:=ag m H ao;rw[u] at D;rw[ap] at W;exact (zK aI p m _ _ D W au).2
  ·obtain⟨e,z,u⟩:=O p t C;obtain⟨H,ao,ap⟩:=O m ay al;obtain⟨o,aU,bn,_⟩:=aY p e z (by rw[u];exact I);have D:=ag p e z;have W:=ag m H ao;rw[u] at D aU;rw[ap] at W;exact Ht bt p m _ _ o D W au aU bn
 have bw:∀ q,q<=es.length->(fm ops ⟨sgZ,aZ l⟩ (es.map (·.1)) q).h=aZ (qS es l' q):=fun q aD=>by
  unfold qS;cases v:es[q]? with
  | none=>
   have:q=es.length:=by rw[Fv] at v;omega
   rw[this,tr.at.2]
  | some e=>rw[(tr.at.1 q e v).2]
 have bQ:BE P G ops (mf (gX ops)) ⟨sgZ,aZ l⟩ (es.map (·.1)):=by
  refine⟨fun p t C=>?_,fun q aD p t bX C bD=>?_⟩
  ·obtain⟨e,z,u⟩:=O p t C;obtain⟨aW,aJ⟩:=tr.at.1 p e z;rw[aJ,<-u];exact aW
  ·obtain⟨e,z,u⟩:=O p t C;obtain⟨aW,aJ⟩:=tr.at.1 p e z;have bF:q<=es.length:=by
    rcases aD with rfl | ⟨bR,aD,_⟩
    ·simp
    ·obtain⟨eq,bo,_⟩:=O q bR aD;exact ks (aL.1 bo).1
   rw[bw q bF,aJ];cases aw:e.1.pN with
   | true=>rw[<-u];cases h:e.1<;>rw[h] at aw<;>first | trivial | cases aw
   | false=>
    obtain⟨x,o,V,S,bk,h1,w,K,aq⟩:=tr.split p e z aw;obtain⟨Y,bq,bW,bB⟩:=aF p x h1;have bE:Y=o:=by have a:=bq.here;have b:=w.here;rw[a] at b;exact cc b
    subst bE;have ask:pd P Y.op=true->∀ (m:Nat) (H:bJ × aS × ae),m<q - (p+1)->(es.drop (p+1))[m]?=some H->H.1.hx=true->
      (x.i,k1 P G x.b e.2.1 V e.2.2 S)∈p7 x.bm x.i (k1 P G x.b e.2.1 V e.2.2 S) bk/\∃ y,(ah.drop (p+1))[m]?=some y/\x.i∈y.qJ:=by
     intro X m H al aj aM;rw[gx] at aj;obtain⟨y,bf,bH⟩:=a3 _ H aj;obtain⟨b2,bY,bg,_⟩:=aF _ y bf;obtain⟨bN,bI,bK,bZ⟩:=aY _ H aj aM;have a4:x.i∈y.qJ:=by
      refine DN _ _ _ _ _ _ aQ bg ⟨bN,by rw[bH];exact bI,bK⟩ x.i (.inr ⟨p,F,bd p x h1⟩) ⟨Y,w.here,X⟩ (fun e v=>by cases v) ?_;intro U bG aH bS bx a5 aB aO
      -- what is at p'' was carried out
      have au:U<es.length:=by
       have:=(aL.1 aj).1;omega
      have ai:es[U]?=some es[U]:=bM au;have a2:=ag _ _ ai;rw[bx] at a2;have ar:bG=es[U].1.idx:=cc a2;have br:es[U].1.hx=true:=by
       cases av:es[U].1.pN with
       | true=>
        exfalso;rcases aO with rfl | aO
        ·rw[ai] at aj;cases aj;cases h:es[p+1+m].1<;>rw[h] at aM av<;>first | (cases av;done) | (cases aM;done)
        ·have am:=(tr.at.1 _ _ ai).1;cases h:es[U].1<;>rw[h] at av am ar<;>first | (cases av;done) | skip
         obtain⟨bh,aR,ax⟩:=am;simp only[bJ.idx] at ar;rw[<-ar,a5] at aR;cases aR;simp[iJ,aO] at ax
       | false=>
        obtain⟨b5,bh,b4,b1,b3,aR,ax,aG,_⟩:=tr.split _ _ ai av;have bz:=aG.idx;have a0:=ax.here;rw[<-bz,<-ar,a5] at a0;cases a0;revert aG;generalize es[U].1=t3;intro aG;cases aG with
        | pure J B j _ _=>
         exfalso;have g:=ax.fy J B;have:iv aH.op=false:=by
          revert g j;cases aH.op<;>simp only[kD]<;>intro j g<;>first | rfl | (exfalso;revert g j;done) | skip
          case store=>rw[map_some] at g;obtain⟨_,_,rfl⟩:=g;cases j
          case call c=>
           split at g
           ·rename_i b B;unfold iv;simp only[B];unfold qM at g
            repeat' split at g
            all_goals first
             | rfl
             | (cases g;done)
             | (cases g;cases j;done)
             | (simp only[bind_some,map_some] at g;obtain⟨_,_,rfl⟩:=g;cases j;done)
             | (simp only[bind_some,map_some] at g;obtain⟨_,_,_,_,rfl⟩:=g;cases j;done)
             | (simp only[bind_some,gL] at g;obtain⟨_,_,_,_,_,_,_,rfl⟩:=g;cases j;done)
             | (simp only[bind_some,gL] at g;obtain⟨_,_,_,_,_,_,_,_,_,rfl⟩:=g;cases j;done)
           ·split at g
            ·rw[gL] at g;obtain⟨_,rfl⟩:=g;cases j
            ·cases g
           ·cases g
          case next it b=>(cases b<;>simp only[reduceCtorEq] at g<;>cases g<;>cases j)
          case lookup=>split at g<;>(try cases g;done);rw[map_some] at g;obtain⟨_,_,rfl⟩:=g;cases j
          case mapUpdate=>split at g<;>cases g;cases j
          case insert=>split at g<;>cases g;cases j
          case panic=>(cases g;cases j)
          case makeMap=>split at g<;>cases g;cases j
          case range=>split at g<;>cases g;cases j
          case typeAssert=>rw[map_some] at g;obtain⟨_,_,rfl⟩:=g;cases j
          all_goals (cases g)
         rw[this] at aB;cases aB
        | new J cs B j _=>
         exfalso;have g:=ax.fy J B;have:iv aH.op=false:=by
          revert g j;cases aH.op<;>simp only[kD]<;>intro j g<;>first | rfl | (exfalso;revert g j;done) | skip
          case store=>rw[map_some] at g;obtain⟨_,_,rfl⟩:=g;cases j
          case panic=>(cases g;cases j)
          case call c=>
           split at g
           ·rename_i b B;unfold iv;simp only[B];unfold qM at g
            repeat' split at g
            all_goals first
             | rfl
             | (cases g;done)
             | (cases g;cases j;done)
             | (simp only[bind_some,map_some] at g;obtain⟨_,_,rfl⟩:=g;cases j;done)
             | (simp only[bind_some,map_some] at g;obtain⟨_,_,_,_,rfl⟩:=g;cases j;done)
             | (simp only[bind_some,gL] at g;obtain⟨_,_,_,_,_,_,_,rfl⟩:=g;cases j;done)
             | (simp only[bind_some,gL] at g;obtain⟨_,_,_,_,_,_,_,_,_,rfl⟩:=g;cases j;done)
           ·split at g
            ·rw[gL] at g;obtain⟨_,rfl⟩:=g;cases j
            ·cases g
           ·cases g
          case next it b=>(cases b<;>simp only[reduceCtorEq] at g<;>cases g<;>cases j)
          case lookup=>split at g<;>(try cases g;done);rw[map_some] at g;obtain⟨_,_,rfl⟩:=g;cases j
          case mapUpdate=>split at g<;>cases g;cases j
          case insert=>split at g<;>cases g;cases j
          case makeMap=>split at g<;>cases g;cases j
          case range=>split at g<;>cases g;cases j
          case typeAssert=>rw[map_some] at g;obtain⟨_,_,rfl⟩:=g;cases j
          all_goals (cases g)
         rw[this] at aB;cases aB
        | fc _ _=>rfl
      have:=bD U es[U].1 F (by simp[ai]) br;rw[ar,w.here |> fun _=>(K.idx).symm,u];exact this
     refine⟨?_,y,by rw[gx];exact bf,a4⟩;have:x.bm=true:=by
      rw[bB];simp only[List.contains_iff_mem,FC];exact⟨(y.i,y.qJ),cJ bg,a4⟩
     rw[this];exact FA
    have az:pd P Y.op=true->(∀ l aT,k1 P G x.b e.2.1 V e.2.2 S l->k1 P G x.b e.2.1 V e.2.2 S (l++aT))->k1 P G x.b e.2.1 V e.2.2 S S->k1 P G x.b e.2.1 V e.2.2 S (qS es l' q):=by
     intro X bv bp;have:=aq.still x.i _ bv bp (q - (p+1)) (by simp only[i1];omega) (ask X)
     rwa [RQ,show p+1+(q - (p+1))=q by omega] at this
    rw[<-u];revert K az ask u;generalize e.1=t1;intro u K ask az;cases K with
    | fc=>trivial
    | pure J B j aC bb=>
     intro aI a6;rw[w.here] at a6;cases a6;have g:=w.fy J B;cases aE:J.reads with
     | false=>exact zt g (SV j aE bb)
     | true=>
      have X:pd P Y.op=true:=by
       cases h:pd P Y.op with
       | true=>rfl
       | false=>rw[(G9 g h).1] at aE;cases aE
      have bC:J.lp=false:=by cases J<;>first | rfl | cases aE
      have Q:∀ T,k1 P G x.b e.2.1 V e.2.2 S T<->bT P (dA G e.2.1) T J=some (V,T):=fun T=>by rw[B];simp only[k1,bC]
      have:=az X (fun T aT h=>by rw[Q] at h ⊢;exact SU j h) (by rw[Q,aC];exact bb);rw[Q] at this;exact zt g this
    | new J cs B j aC=>
     have g:=w.fy J B;have X:pd P Y.op=true:=by
      cases h:pd P Y.op with
      | true=>rfl
      | false=>rw[(G9 g h).2] at j;cases j
     have Q:∀ T:ae,k1 P G x.b e.2.1 V e.2.2 S T<->T[e.2.2.length]?=some (.cells cs.length cs):=fun T=>by
      rw[B,aC];simp only[k1,j];rw[eu (aN _)];simp
     have:=az X (fun T aT h=>by rw[Q] at h ⊢;rw[aV (a1 h)];exact h) (by rw[Q,aC,eu (aN _)];simp);rw[Q] at this;show (aZ (qS es l' q)).f (aZ e.2.2).n=_;rw[jW,BA,this]
 have:=c7.Qs (id:=id) bO bs bQ;rw[ce,tr.at.2] at this;exact this
end
section
variable {P:bp} {G:Nat->U}
theorem BL {ops:Array a8} {f:Nat->Option c9}:∀ {is:List Nat} {s:List c9} {os:List a8},(∀ i x,f i=some x->∃ o,mA P ops x o/\x.i=i)->is.mapM f=some s->is.map (fun i=>ops[i]?)=os.map some->k8 P ops s os
 | [],s,os,j,h,g=>by
  simp at h;subst h;cases os with
  | nil=>exact .nil
  | cons=>simp at g
 | i::is,s,os,j,h,g=>by
  rw[pj] at h;simp only[Option.bind_eq_bind,bind_some,tk,bc] at h;obtain⟨x,h1,u,p,rfl⟩:=h;cases os with
  | nil=>simp at g
  | cons o os=>
   simp only[dg,List.cons.injEq] at g;obtain⟨t,m,q⟩:=j i x h1;have:t=o:=by have:=m.here;rw[q,g.1] at this;exact (cc this).symm
   subst this;exact .cons m (BL j p g.2)
theorem PQ {N N' id:Nat} (F:N<=N') {ops:Array a8} {draw:Bool} {c:fG} (g:B6 P N ops draw=some c) {sgZ:aS} {l:ae} {K:fH} (h:run P G c sgZ l K) :
  ∃ e m l',c7 P G (.code (.region id ops draw) N' sgZ (aZ l) e m (aZ l'))/\l.length<=l'.length/\K e m l':=by
 unfold B6 at g;split at g
 ·cases g
 ·rename_i C;have B:∀ (i:Nat) (o:a8),ops[i]?=some o->hO N' o.dst=true:=fun i o J=>by
   rw[gb] at C;have:=C o (by simpa using xQ J);unfold hO at this ⊢;split at this
   ·rename_i d _;exact b7 (nn (iM this) F)
   ·rfl
  split at g
  ·rw[map_some] at g;obtain⟨s,h1,rfl⟩:=g;have H:k8 P ops s ops.toList:=by
    refine BL (fun i x t=>?_) h1 ?_
    ·obtain⟨o,j,p,_⟩:=xA t;exact⟨o,j,p⟩
    ·apply g1;intro u;rw[b0,b0];by_cases q:u<ops.size
     ·rw[hn q];simp[q]
     ·rw[dW (by simp;omega),dW (by simp;omega)];rfl
   obtain⟨m,l',j,p,D⟩:=xp B H h;exact⟨.normal,m,l',.region j,p,D⟩
  ·simp only at g;split at g
   ·cases g
   ·rename_i v;simp only[bU] at v;split at g
    ·cases g
    ·rename_i s w;have O:∀ x∈s,∃ o,mA P ops x o:=fun x t=>by
      obtain⟨u,q⟩:=xW t;obtain⟨a,_,j⟩:=zm w u x q;obtain⟨o,p,_⟩:=xA j;exact⟨o,p⟩
     have z:jL P G s sgZ l [] (K .normal)->∃ e m l',c7 P G (.code (.region id ops true) N' sgZ (aZ l) e m (aZ l'))/\l.length<=l'.length/\K e m l':=fun h=>by
      obtain⟨Q,m,l',h1,j⟩:=Ej O h;exact⟨.normal,m,l',Qv B v.1 v.2 w h1,h1.len,j⟩
     split at g
     ·rename_i I;cases g;refine z (Ek (fun x t=>?_) h);obtain⟨u,q⟩:=xW t;obtain⟨a,_,j⟩:=zm w u x q;obtain⟨o,_,_,_,p⟩:=xA j;rw[p,I];rfl
     ·cases g;exact z h
theorem La {N N' : Nat} (S:N<=N') :∀ (code:Code) (c:fG),comp P N code=some c->∀ (sgZ:aS) (l:ae) (K:fH),run P G c sgZ l K->
  ∃ e w l',c7 P G (.code code N' sgZ (aZ l) e w (aZ l'))/\l.length<=l'.length/\K e w l':=by
 intro code
 induction code with
 | skip=>intro c g sgZ l K h;cases g;exact⟨_,_,_,.skip _ _ _,aN _,h⟩
 | label n=>intro c g sgZ l K h;cases g;exact⟨_,_,_,.label _ _ _ _,aN _,h⟩
 | ret=>intro c g sgZ l K h;cases g;exact⟨_,_,_,.ret _ _ _,aN _,h⟩
 | exit id=>intro c g sgZ l K h;cases g;exact⟨_,_,_,.exit _ _ _ _,aN _,h⟩
 | region id ops draw=>intro c g sgZ l K h;exact PQ S g h
 | seq a b V W=>
  intro c g sgZ l K h;have mk:∀ (z B:fG),comp P N a=some z->comp P N b=some B->run P G z sgZ l (mO (fun sgZ l=>run P G B sgZ l K) K)->∃ e w l',c7 P G (.code (.seq a b) N' sgZ (aZ l) e w (aZ l'))/\l.length<=l'.length/\K e w l':=by
   intro z B u q h;obtain⟨e,p,o,h1,j,m⟩:=V z u sgZ l _ h;cases e with
   | normal=>
    obtain⟨e,J,I,t,F,H⟩:=W B q p o K m;exact⟨e,J,I,.Lk h1 t,dC j F,H⟩
   | exit id=>exact⟨_,p,o,.Et h1 (by intro h;cases h),j,m⟩
   | ret=>exact⟨_,p,o,.Et h1 (by intro h;cases h),j,m⟩
  simp only[comp] at g;split at g
  ·rename_i Q u q;cases g;exact mk _ _ u q h
  ·rename_i O _ u q;cases g;refine mk _ _ u q ?_;have:mO (fun sgZ l=>run P G .skip sgZ l K) K=K:=by
    funext e sgZ l;cases e<;>rfl
   rw[this];exact h
  ·rename_i O Q _ _ u q;cases g;exact mk _ _ u q h
  ·cases g
 | cond c x y Y ag=>
  intro C g sgZ l K h;simp only[comp] at g;split at g
  ·rename_i ah ai T U;cases g;simp only[run,wB] at h;split at h
   ·rename_i b q;rw[wC] at h;rcases h with ⟨rfl,h⟩ | ⟨rfl,h⟩
    ·obtain⟨e,p,o,h1,j,m⟩:=Y ah T sgZ l K h;exact⟨e,p,o,.cond q h1,j,m⟩
    ·obtain⟨e,p,o,h1,j,m⟩:=ag ai U sgZ l K h;exact⟨e,p,o,.cond q h1,j,m⟩
   ·cases h
  ·cases g
 | block id c v=>
  intro C g sgZ l K h;simp only[comp,map_some] at g;obtain⟨D,h1,rfl⟩:=g;obtain⟨e,p,o,j,m,t⟩:=v D h1 sgZ l _ h;cases e with
  | normal=>exact⟨_,p,o,.ym j (by intro h;cases h),m,t⟩
  | ret=>exact⟨_,p,o,.ym j (by intro h;cases h),m,t⟩
  | exit aj=>
   simp only[qX] at t;split at t
   ·rename_i q;obtain rfl:=iy q;exact⟨_,p,o,.Gy j,m,t⟩
   ·rename_i q;exact⟨_,p,o,.ym j (by intro h;cases h;rw[Br] at q;cases q),m,t⟩
 | loop c v=>
  intro C g sgZ l K h;simp only[comp,map_some] at g;obtain⟨D,h1,rfl⟩:=g;obtain⟨n,h⟩:=h
  induction n generalizing sgZ l with
  | zero=>cases h
  | succ n X=>
   obtain⟨e,p,o,j,m,t⟩:=v D h1 sgZ l _ h;cases e with
   | normal=>
    obtain⟨e,J,I,F,H,R⟩:=X p o t;exact⟨e,J,I,.ug j F,dC m H,R⟩
   | exit id=>exact⟨_,p,o,.C9 j (by intro h;cases h),m,t⟩
   | ret=>exact⟨_,p,o,.C9 j (by intro h;cases h),m,t⟩
 | scope c v=>
  intro C g sgZ l K h;obtain⟨e,p,o,j,m,t⟩:=v C g sgZ l K h;exact⟨e,p,o,.scope j,m,t⟩
 | _=>intro c g;cases g
def B5 (P:bp) :ResultVar->Option dy
 | .tmp g=>some (.dU (.tmp g))
 | .cell a g=>kD P (.load g (.tmp a))
def v1 (P:bp) (f:cj) :Option (List dy):=match P.funcs[f]? with
 | some fn=>fn.results.toList.mapM (B5 P)
 | none=>none
def mN (P:bp) (G:Nat->U) (K:U->ae->Prop) (sgZ:aS) (l:ae) :List dy->ag->Prop
 | [],g=>K (sS g) l
 | m::r,g=>W (bT P (dA G sgZ) l m) (c:=⟨fun x=>mN P G K sgZ l r (g++[x.1])⟩)
def uc (P:bp) (G:Nat->U) (g:List dy) (K:U->ae->Prop) :fH:=fun e h l=>match e with
 | .exit _=>False
 | .normal=>mN P G K h l g []
 | .ret=>mN P G K h l g []
def jw (args:ag) :aS:=fun g=>args.getD g fC
theorem II {K:U->ae->Prop} {sgZ:aS} {l:ae}:∀ {t:List ResultVar} {o:List dy} {j:ag},t.mapM (B5 P)=some o->mN P G K sgZ l o j->∃ vs,ri P (aZ l) sgZ t=some vs/\K (sS (j++vs)) l
 | [],o,j,g,h=>by simp at g;subst g;exact⟨[],rfl,by simpa [mN] using h⟩
 | r::t,o,j,g,h=>by
  rw[pj] at g;simp only[Option.bind_eq_bind,bind_some,tk,bc] at g;obtain⟨m,h1,H,z,rfl⟩:=g;simp only[mN,yc] at h;obtain⟨⟨v,F⟩,q,B⟩:=h;obtain⟨vs,C,D⟩:=II z B;refine⟨v::vs,?_,by simpa using D⟩;have:uH P (aZ l) sgZ r=some v:=by
   cases r with
   | tmp p=>cases h1;simp only[bT,bc,Prod.mk.injEq] at q;rw[<-q.1];rfl
   | cell a p=>
    have w:kD P (.load p (.tmp a))=some m:=h1;have:=zt w q;simp only[cO] at this;unfold uH;show oT P (aZ l) p (dA G sgZ (.tmp a))=some v;cases u:oT P (aZ l) p (dA G sgZ (.tmp a)) with
    | none=>rw[u] at this;cases this
    | some x=>rw[u] at this;simp only[cA,bc,mz.val.injEq] at this;rw[this.1]
  simp only[ri,this,C]
theorem GQ {f:cj} {c:fG} {o:List dy} (g:vZ P f=some c) (m:v1 P f=some o) {args:ag} {l:ae} {K:qy}
  (h:run P G c (jw args) l (uc P G o K.k)) :fR P G f args l (c:=K):=by
 unfold vZ at g;unfold v1 at m;split at g
 ·rename_i fn q;split at g
  ·rename_i u B;rw[q] at m;obtain⟨e,D,t,h1,v,j⟩:=La (N':=args.length+(fn.ntmps - args.length)) F u c g _ _ _ h;have p:(e=.normal\/e=.ret)->mN P G K.k D t o []->fR P G f args l (c:=K):=fun C j=>by
    obtain⟨H,w,z⟩:=II m j;exact⟨sS H,t,.inline q B h1 C (by simp only[uG,w];rfl),v,by simpa using z⟩
   cases e with
   | normal=>exact p (.inl rfl) j
   | ret=>exact p (.inr rfl) j
   | exit id=>cases j
  ·cases g
 ·cases g
theorem LM {b:rN} {sgZ:aS} {l:ae} {K h4:U->ae->Prop} (o:∀ v l,K v l->h4 v l) (h:gE P G b sgZ l K) :gE P G b sgZ l h4:=by
 cases b with
 | fy q=>simp only[gE,yc] at h ⊢;obtain⟨v,h1,g⟩:=h;exact⟨v,h1,IK o g⟩
 | lg f args=>obtain⟨r,m,h1,g,j⟩:=h;exact⟨r,m,h1,g,o _ _ j⟩
 | lU x args=>
  simp only[gE,vP] at h ⊢;split at h
  ·obtain⟨p,r,m,h1,g,j⟩:=h;exact⟨p,r,m,h1,g,o _ _ j⟩
  ·cases h
 | nz x name args=>
  simp only[gE,ys] at h ⊢;split at h
  ·split at h
   ·obtain⟨p,r,m,h1,g,j⟩:=h;exact⟨p,r,m,h1,g,o _ _ j⟩
   ·cases h
  ·cases h
theorem IG {sgZ:aS} {g:Option (Option Tmp × Bool)} {p q o kT:Prop} (m:p->o) (j:q->kT) (h:oQ sgZ g p q) :oQ sgZ g o kT:=by
 unfold oQ at h ⊢;split at h
 ·exact m h
 ·simp only[pP] at h ⊢;split at h
  ·rw[wC] at h ⊢;rcases h with ⟨a,b⟩ | ⟨a,b⟩
   ·exact .inl ⟨a,m b⟩
   ·exact .inr ⟨a,j b⟩
  ·cases h
  ·exact j h
 ·exact j h
theorem El {K j:aS->ae->Prop} (g:∀ sgZ l,K sgZ l->j sgZ l) :∀ {s:List c9} {sgZ:aS} {l:ae},iF P G s sgZ l K->iF P G s sgZ l j
 | [],_,_,h=>g _ _ h
 | s::r,_,_,h=>IG (LM fun _ _ h=>El g h) (fun h=>El g h) h
theorem Ei {K j:aS->ae->Prop} (g:∀ sgZ l,K sgZ l->j sgZ l) :∀ {s:List c9} {sgZ:aS} {l:ae} {seen:im},jL P G s sgZ l seen K->jL P G s sgZ l seen j
 | [],_,_,_,h=>g _ _ h
 | s::r,_,_,_,h=>IG (LM fun _ _ h=>⟨h.1,Ei g h.2⟩) (fun h=>Ei g h) h
theorem wD {k k' : aS->ae->Prop} {K g:fH} (hk:∀ sgZ l,k sgZ l->k' sgZ l) (j:∀ e sgZ l,K e sgZ l->g e sgZ l) :∀ e sgZ l,mO k K e sgZ l->mO k' g e sgZ l:=by intro e sgZ l h;cases e<;>first | exact hk _ _ h | exact j _ _ _ h
theorem Eo:∀ {c:fG} {sgZ:aS} {l:ae} {K h4:fH},(∀ e sgZ l,K e sgZ l->h4 e sgZ l)->run P G c sgZ l K->run P G c sgZ l h4:=by
 intro c
 induction c with
 | skip=>intro sgZ l K h4 g h;exact g _ _ _ h
 | ret=>intro sgZ l K h4 g h;exact g _ _ _ h
 | exit id=>intro sgZ l K h4 g h;exact g _ _ _ h
 | jK s=>intro sgZ l K h4 g h;exact El (g _) h
 | v8 s=>intro sgZ l K h4 g h;exact Ei (g _) h
 | seq a b m o=>intro sgZ l K h4 g h;exact m (wD (fun sgZ l h=>o g h) g) h
 | cond c x y q t=>
  intro sgZ l K h4 g h;simp only[run,wB] at h ⊢;split at h
  ·rw[wC] at h ⊢;rcases h with ⟨a,b⟩ | ⟨a,b⟩
   ·exact .inl ⟨a,q g b⟩
   ·exact .inr ⟨a,t g b⟩
  ·cases h
 | block id c j=>
  intro sgZ l K h4 g h;refine j (fun e sgZ l h=>?_) h;cases e with
  | normal=>exact g _ _ _ h
  | ret=>exact g _ _ _ h
  | exit u=>
   simp only[qX] at h ⊢;split at h
   ·exact g _ _ _ h
   ·exact g _ _ _ h
 | loop c j=>
  intro sgZ l K h4 g h;obtain⟨n,h⟩:=h;refine⟨n,?_⟩
  induction n generalizing sgZ l with
  | zero=>cases h
  | succ n p=>exact j (wD (fun sgZ l h=>p h) g) h
theorem wJ {c:fG} {K:BB} (m:Nat->aS->ae->Prop) (step:∀ n sgZ l,m n sgZ l->run P G c sgZ l (mO (fun sgZ l=>∃ j,j<n/\m j sgZ l) K.k)) :∀ n sgZ l,m n sgZ l->x7 (run P G c) sgZ l (c:=K):=by
 intro n
 induction n using Nat.strongRecOn with
 | _ n u=>
  intro sgZ l h
  -- fuel n+1 is enough
  have o:∀ (g n:Nat),n<=g->∀ sgZ l,m n sgZ l->ug (run P G c) (g+1) sgZ l K.k:=by
   intro g
   induction g with
   | zero=>
    intro n q sgZ l h;obtain rfl:n=0:=F;exact Eo (wD (fun sgZ l ⟨j,h1,_⟩=>F) (fun _ _ _ h=>h)) (step 0 sgZ l h)
   | succ g t=>
    intro n q sgZ l h;exact Eo (wD (fun sgZ l ⟨j,h1,p⟩=>t j F sgZ l p) (fun _ _ _ h=>h)) (step n sgZ l h)
  exact⟨n+1,o n n (aN _) sgZ l h⟩
theorem bB {c:fG} {K:BB} (n:Nat) (g:Nat->aS->ae->Prop) (step:∀ k sgZ l,k<=n->g k sgZ l->run P G c sgZ l (mO (fun sgZ l=>k<n/\g (k+1) sgZ l) K.k)) {sgZ:aS} {l:ae} (h:g 0 sgZ l) :x7 (run P G c) sgZ l (c:=K):=by refine wJ (fun j sgZ l=>∃ k,k+j=n/\g k sgZ l) (fun j sgZ l ⟨k,hk,h⟩=>?_) n sgZ l ⟨0,F,h⟩;exact Eo (wD (fun sgZ l ⟨h1,m⟩=>⟨j - 1,F,k+1,F,m⟩) (fun _ _ _ h=>h)) (step k sgZ l F h)
end
end Go.bh

/-
  The canonical machine, part T: small operations, without types.
-/
import Derived.Test.YtdjbnhgdhambnaaGreatDoorUc
set_option maxHeartbeats 16000000
set_option maxRecDepth 100000
set_option linter.unusedVariables false
set_option linter.unusedSimpArgs false
set_option linter.unnecessarySimpa false
namespace Go.bl
open Go
def fN (l:ad) :U->Option (ag × Nat)
 | .ptr b g h=>match l[b]? with
  | some (.cells n cs)=>if n=h then some (cs,g) else none
  | _=>none
 | .b7 cs g=>some (cs,g)
 | _=>none
def sn (n:Nat) (cs:ag) (off:Nat) :Option U:=if off+n<=cs.length then some (.af ((cs.drop off).take n)) else none
def jM (n:Nat) (l:ad) (p v:U) :Option ad:=
 match p,v.cells with
 | .ptr b h m,some j=>match l[b]? with
  | some (.cells g cs)=>if g=m/\j.length=n/\h+n<=g then some (l.set b (.cells g (aw cs h j))) else none
  | _=>none
 | _,_=>none
def cr (l:ad) (z:Nat) :U->Option (ag × Nat)
 | .ae=>some ([],0)
 | .bu g h=>if z=g then some (h.flatten,h.length) else none
 | .Z g b j len _ m=>match l[b]? with
  | some (.cells n cs)=>if n=m/\z=g then some ((cs.drop j).take (len*z),len) else none
  | _=>none
 | .str s=>if z=1 then some (s.map hs,s.length) else none
 | _=>none
def hr (l:ad) (z by_:Nat) (s:U) (xs:ag) (n:Nat) :Option (U × ad):=
 if n=0 then (match s with | .ae | .bu .. | .Z ..=>some (s,l) | _=>none)
 else if z=0\/by_=0 then none else match s with
  | .ae=>if n*by_<=dk then some (.Z z l.length 0 n n (n*z),l++[.cells (n*z) xs]) else none
  | .Z m b g len cap h=>match l[b]? with
   | some (.cells j cs)=>
    if j=h/\z=m/\(len+n)*by_<=dk then
     if len+n<=cap then some (.Z z b g (len+n) cap h,l.set b (.cells j (aw cs (g+len*z) xs)))
     else if g+cap*z<h then some (.Z z l.length 0 (len+n) (len+n) ((len+n)*z),l++[.cells ((len+n)*z) ((cs.drop g).take (len*z)++xs)])
     else if g=0 then some (.Z z b 0 (len+n) (len+n) ((len+n)*z),l.set b (.cells ((len+n)*z) (cs.take (len*z)++xs)))
     else some (.Z z l.length 0 (len+n) (len+n) ((len+n)*z),l.set b .dead++[.cells ((len+n)*z) ((cs.drop g).take (len*z)++xs)])
    else none
   | _=>none
  | _=>none
def yo (z:Nat) (l:ad) (d x:U) :Option (U × ad):=
 match cr l z x with
 | none=>none
 | some (m,n)=>match d with
  | .ae=>some (.int .i64 0,l)
  | .Z o b h len _ j=>match l[b]? with
   | some (.cells g cs)=>if g=j/\z=o then some (.int .i64 ((min n len:Nat) :Int),l.set b (.cells g (aw cs h (m.take (min n len*z))))) else none
   | _=>none
  | _=>none
def tY (l:ad) :U->Option (List (U × U × Nat))
 | .g0=>some []
 | .mp b=>match l[b]? with | some (.map g _)=>some g | _=>none
 | _=>none
def pi (l:ad) (x:U) :Option (List UInt8):=match x with
 | .str s=>some s
 | x=>match cr l 1 x with
  | some (cs,_)=>jX cs
  | none=>none
def cmpL (l:ad) (x y:U) :Option U:=match pi l x,pi l y with
 | some a,some b=>some (.int .i64 (lV a b))
 | _,_=>none
def cP (l:ad) (x:U) :Option (U × ad):=match x with
 | .it b=>match l[b]? with
  | some (.iter s pos)=>match Nat.blt pos s.length with
   | true=>some (.a1 [.bool true,.int .i64 pos,.int .i32 (Utf8.decode ⟨s.toArray⟩ pos).1],l.set b (.iter s (pos+(Utf8.decode ⟨s.toArray⟩ pos).2)))
   | false=>some (.a1 [.bool false],l)
  | _=>none
 | _=>none
def w3 (l:ad) (x:U) :Option (U × ad):=match x with
 | .str s=>some (.it l.length,l++[.iter s 0])
 | _=>none
def CH (l:ad) (x:U) :Option U:=match x with
 | .g0=>some (.int .i64 0)
 | .mp b=>match l[b]? with | some (.map g _)=>some (.int .i64 g.length) | _=>none
 | _=>none
def pn (zero:ag) (l:ad) :U->Option ad
 | .ae=>some l
 | .bu _ []=>some l
 | .Z m b h len _ j=>if len=0 then some l else match l[b]? with
  | some (.cells g cs)=>if g=j/\zero.length=m then some (l.set b (.cells g (aw cs h (c3 zero len)))) else none
  | _=>none
 | _=>none
theorem Km (l:ad) (p:U) :md (aZ l) p=fN l p:=by
 cases p<;>try rfl
 rename_i b g h;simp only[md,fN,jT];cases l[b]? with
 | none=>rfl
 | some c=>cases c<;>rfl
theorem yn (l:ad) (z:Nat) (x:U) :contents (aZ l) z x=cr l z x:=by
 cases x<;>try rfl
 rename_i j b g len cap h;simp only[contents,cr,jT];cases l[b]? with
 | none=>rfl
 | some c=>cases c<;>rfl
section
variable (P:bq)
inductive h6 where
 | arr (n g:Nat)
 | Z (g:Nat)
 | str
 deriving DecidableEq
def mi (t:aF) :Option h6:=match P.underlying t with
 | some (.array n e)=>(b9 P e).map fun g=>.arr n g
 | some (.slice e)=>(b9 P e).map fun g=>.Z g
 | some .string=>some .str
 | _=>none
inductive dy where
 | dW (x:aY)
 | pick (c a b:aY)
 | alloc (zero:ag)
 | box (x:aY)
 | x7 (zero:ag) (v:List (Nat × Nat × aY))
 | qs (g:Nat) (zero:ag) (len:Nat) (v:List (Nat × aY))
 | ld1 (a:aY)
 | j6 (n:Nat) (a:aY)
 | st (n:Nat) (a x:aY)
 | zg (x:aY)
 | bin (t:BinOp) (o:aF) (x y:aY)
 | un (t:UnOp) (x:aY)
 | vG (k:cV) (x:aY)
 | GO (x:aY)
 | tA (x:aY)
 | yr (x:aY)
 | CT (o:aF) (x:aY)
 | EA (o:aF) (g:U) (u:Bool) (x:aY)
 | wC (f:cj) (first e6:List aY)
 | sf (g j:Nat) (zero:ag) (l c:aY)
 | slice (h:h6) (x:aY) (B z C:Option aY)
 | nu (m:Nat) (x:aY)
 | Hz (m:Nat) (x:aY)
 | yG (n m:Nat) (x:aY)
 | r7 (h:h6) (x i:aY)
 | yT (n g:Nat) (x i:aY)
 | Ie (n g:Nat) (x i:aY)
 | yV (x i:aY)
 | ext (x:aY) (i:Nat)
 | len (h:h6) (x:aY)
 | cap (h:h6) (x:aY)
 | app (g j:Nat) (s x:aY)
 | tk (g j:Nat) (zero:ag) (s x:aY)
 | yq (g:Nat) (d x:aY)
 | tC (zero:ag) (x:aY)
 | min (x y:aY)
 | max (x y:aY)
 | tZ (x:Option aY)
 | wv (p:aF) (zero:U) (u:Bool) (q k:aY)
 | ub (p:aF) (q k x:aY)
 | y0 (x:aY)
 | ux (x:aY)
 | ud (x:aY)
 | bQ (f:cj) (w x y:aY)
 | stop
def ww (l:ad) (g:aF) (zero:U) (h:Bool) (m k:U) :Option U:=
 match tY l m with
 | some o=>match kK P g k with
  | false=>none
  | true=>match j3 P g k o 0 with
   | some (some (_,j))=>some (if h then .a1 [j,.bool true] else j)
   | some none=>some (if h then .a1 [zero,.bool false] else zero)
   | none=>none
 | none=>none
def sd (l:ad) (j:aF) (m k v:U) :Option ad:=
 match m with
 | .mp b=>match l[b]? with
  | some (.map h g)=>match kK P j k with
   | false=>none
   | true=>match j3 P j k h 0 with
    | some (some (i,_))=>some (l.set b (.map (h.modify i fun e=>(k,v,e.2.2)) g))
    | some none=>some (l.set b (.map (h++[(k,v,g)]) (g+1)))
    | none=>none
  | _=>none
 | _=>none
def yS (f:cj) :U->Bool | .fn g [] []=>Nat.beq g f | _=>false
def zz (c a b:U) :Option U:=match c with | .bool g=>some (if g then a else b) | _=>none
def zh (x:U) :Option U:=match x with | .ptr b g s=>some (.ptr b g s) | .b7 c g=>some (.b7 c g) | .fn f a b=>some (.fn f a b) | _=>none
def nm (zero:ag) :List (Nat × Nat × U)->Option (ag)
 | []=>some zero
 | (g,size,j) ::r=>match j.cells with
  | some h=>if h.length=size/\g+size<=zero.length then nm (aw zero g h) r else none
  | none=>none
def vH (k:cV) :U->Option U | .int _ n=>some (.int k (k.wrap n)) | _=>none
def GQ:U->Option U | .str s=>some (.str s) | _=>none
def pj (l:ad) (x:U) :Option U:=match x with
 | .ae=>some (.str [])
 | .str _=>none
 | x=>match cr l 1 x with | some (cs,_)=>(jX cs).map .str | none=>none
def rS:U->Option U | .str s=>some (.bu 1 (s.map fun b=>[hs b])) | _=>none
def mO (z by_:Nat) (zero:ag) (g:ad) (l c:U) :Option (U × ad):=match l,c with
 | .int _ l,.int _ c=>if 0<=l/\l<=c/\c<9223372036854775808/\by_*c<=dk then
   some (.Z z g.length 0 l.toNat c.toNat (c.toNat*z),g++[.cells (c.toNat*z) (c3 zero c.toNat)]) else none
 | _,_=>none
def dw (w:h6) (x:U) (p o q:Option U) :Option U:=
 match w with
 | .arr n g=>match e5 n n p o q with
  | some (l,h,m)=>match x with
   | .ptr b j t=>if j+m*g<=t then (if m=l then some (.bu g []) else some (.Z g b (j+l*g) (h - l) (m - l) t)) else none
   | .b7 cs j=>if j+n*g<=cs.length then some (.bu g (lU g (h - l) (cs.drop (j+l*g)))) else none
   | _=>none
  | none=>none
 | .Z g=>match x with
  | .Z v b j len cap t=>if g=v then (e5 len cap p o q).map fun (l,h,m)=>if m=l then .Z g b (j+l*g) 0 0 t else .Z g b (j+l*g) (h - l) (m - l) t else none
  | .bu v u=>if g=v then (e5 u.length u.length p o q).map fun (l,h,_)=>.bu g ((u.drop l).take (h - l)) else none
  | .ae=>(e5 0 0 p o q).map fun _=>.ae
  | _=>none
 | .str=>match x,q with
  | .str s,none=>(e5 s.length s.length p o none).map fun (l,h,_)=>.str ((s.drop l).take (h - l))
  | _,_=>none
def HA (off:Nat) :U->Option U | .af cs=>cs[off]? | _=>none
def yH (n off:Nat) :U->Option U | .af cs=>sn n cs off | _=>none
def bO (q:h6) (x m:U) :Option U:=
 match m with
 | .int _ i=>match q with
  | .arr n g=>if 0<=i/\i<n then lf x (i.toNat*g) else none
  | .Z g=>match x with
   | .Z h b o len _ p=>if g=h/\0<=i/\i<len then some (.ptr b (o+i.toNat*g) p) else none
   | .bu h j=>if g=h/\0<=i then (j[i.toNat]?).map fun cs=>.b7 cs 0 else none
   | _=>none
  | .str=>none
 | _=>none
def yU (n z:Nat) (x g:U) :Option U:=match x,g with
 | .af cs,.int _ i=>if 0<=i/\i<n then cs[i.toNat*z]? else none
 | _,_=>none
def Ig (n z:Nat) (x g:U) :Option U:=match x,g with
 | .af cs,.int _ i=>if 0<=i/\i<n then sn z cs (i.toNat*z) else none
 | _,_=>none
def tP (x g:U) :Option U:=match x,g with
 | .str s,.int _ i=>if 0<=i then (s[i.toNat]?).map hs else none
 | _,_=>none
def yz (x:U) (i:Nat) :Option U:=match x with | .a1 g=>g[i]? | _=>none
def bz (h:h6) (x:U) :Option U:=match h with
 | .arr n _=>some (.int .i64 n)
 | .Z _=>match x with
  | .ae=>some (.int .i64 0)
  | .Z _ _ _ len _ _=>some (.int .i64 len)
  | .bu _ g=>some (.int .i64 g.length)
  | _=>none
 | .str=>match x with | .str s=>some (.int .i64 s.length) | _=>none
def rM (g:h6) (x:U) :Option U:=match g with
 | .arr n _=>some (.int .i64 n)
 | .Z _=>match x with | .ae=>some (.int .i64 0) | _=>none
 | .str=>none
def ea (l:ad) (z by_:Nat) (s x:U) :Option (U × ad):=match cr l z x with
 | none=>none
 | some (g,n)=>hr l z by_ s g n
def og (l:ad) (z by_:Nat) (zero:ag) (s x:U) :Option (U × ad):=match x with
 | .int _ n=>if 0<=n/\n<9223372036854775808/\n.toNat*by_<=dk then hr l z by_ s (c3 zero n.toNat) n.toNat else none
 | _=>none
def dt (l:ad) (x:Option U) :Option (U × ad):=x.map fun g=>(g,l)
def bT (g:aY->U) (l:ad) :dy->Option (U × ad)
 | .dW x=>some (g x,l)
 | .pick c a b=>dt l (zz (g c) (g a) (g b))
 | .alloc zero=>some (.ptr l.length 0 zero.length,l++[.cells zero.length zero])
 | .box x=>(g x).cells.map fun cs=>(.ptr l.length 0 cs.length,l++[.cells cs.length cs])
 | .x7 zero B=>dt l ((nm zero (B.map fun m=>(m.1,m.2.1,g m.2.2))).map .af)
 | .qs h zero len B=>(ey (fun i=>some (i*h,h)) (c3 zero len) (B.map fun m=>(m.1,g m.2))).map fun cs=>(.Z h l.length 0 len len (len*h),l++[.cells (len*h) cs])
 | .ld1 a=>dt l ((fN l (g a)).bind fun x=>x.1[x.2]?)
 | .j6 n a=>dt l ((fN l (g a)).bind fun x=>sn n x.1 x.2)
 | .st n a x=>(jM n l (g a) (g x)).map fun p=>(fC,p)
 | .zg x=>dt l (zh (g x))
 | .bin q u x y=>dt l (eb P q u (g x) (g y))
 | .un q x=>dt l (rf q (g x))
 | .vG k x=>dt l (vH k (g x))
 | .GO x=>dt l (GQ (g x))
 | .tA x=>dt l (pj l (g x))
 | .yr x=>dt l (rS (g x))
 | .CT u x=>some (.fX u (g x),l)
 | .EA u h z x=>dt l (Am u h z (g x))
 | .wC f a b=>some (.fn f (a.map g) (b.map g),l)
 | .sf h o zero a c=>mO h o zero l (g a) (g c)
 | .slice j x F D G=>dt l (dw j (g x) (F.map g) (D.map g) (G.map g))
 | .nu t x=>dt l (lf (g x) t)
 | .Hz t x=>dt l (HA t (g x))
 | .yG n t x=>dt l (yH n t (g x))
 | .r7 j x i=>dt l (bO j (g x) (g i))
 | .yT n h x i=>dt l (yU n h (g x) (g i))
 | .Ie n h x i=>dt l (Ig n h (g x) (g i))
 | .yV x i=>dt l (tP (g x) (g i))
 | .ext x i=>dt l (yz (g x) i)
 | .len j x=>dt l (bz j (g x))
 | .cap j x=>dt l (rM j (g x))
 | .app h o s x=>ea l h o (g s) (g x)
 | .tk h o zero s x=>og l h o zero (g s) (g x)
 | .yq h d x=>yo h l (g d) (g x)
 | .tC zero x=>(pn zero l (g x)).map fun p=>(.a1 [],p)
 | .min x y=>dt l (y9 (g x) (g y))
 | .max x y=>dt l (oL (g x) (g y))
 | .tZ x=>match x with
  | none=>some (.mp l.length,l++[.map [] 0])
  | some q=>match asInt (g q) with | some _=>some (.mp l.length,l++[.map [] 0]) | none=>none
 | .wv v zero z w k=>dt l (ww P l v zero z (g w) (g k))
 | .ub v w k x=>(sd P l v (g w) (g k) (g x)).map fun p=>(fC,p)
 | .y0 x=>dt l (CH l (g x))
 | .ux x=>w3 l (g x)
 | .ud x=>cP l (g x)
 | .bQ f C x y=>match yS f (g C) with | true=>dt l (cmpL l (g x) (g y)) | false=>none
 | .stop=>none
def Bv (t:aF) (ps:List (Nat × aY)) :Option (List (Nat × Nat × aY)):=
 match P.underlying t with
 | some (.struct h)=>if h.toList.all fun f=>(b9 P f.type).isSome then ps.mapM fun g=>(wW P h g.1).map fun q=>(q.1,q.2,g.2) else none
 | some (.array _ e)=>(b9 P e).map fun n=>ps.map fun g=>(g.1*n,n,g.2)
 | _=>none
def qy (b:Builtin) (ts:List aF) (args:List aY) :Option dy:=
 match b,ts,args with
 | .len,[g],[x]=>match P.underlying g with
  | some (.map _ _)=>some (.y0 x)
  | _=>(mi P g).map fun m=>.len m x
 | .cap,[g],[x]=>(mi P g).map fun m=>.cap m x
 | .append,[g,u],[s,x]=>match P.underlying u with
  | some (.int _)=>(gj P g).bind fun e=>(b9 P e).bind fun h=>(gM P e).bind fun j=>(gb P e).bind fun zero=>
    if zero.length=h/\mm P e=some h then some (.tk h j zero s x) else none
  | none=>none
  | _=>(gj P g).bind fun e=>(b9 P e).bind fun h=>(gM P e).bind fun j=>if mm P e=some h then some (.app h j s x) else none
 | .copy,[g,_],[d,x]=>(gj P g).bind fun e=>(b9 P e).map fun h=>.yq h d x
 | .clear,[g],[x]=>match P.underlying g with
  | some (.slice e)=>(gb P e).map fun zero=>.tC zero x
  | _=>none
 | .min,_,[x,y]=>some (.min x y)
 | .max,_,[x,y]=>some (.max x y)
 | _,_,_=>none
def kz:Op->Option dy
 | .move x | .assign x=>some (.dW x)
 | .pick c a b=>some (.pick c a b)
 | .alloc g=>(gb P g).map .alloc
 | .box _ x=>some (.box x)
 | .build g u=>(gb P g).bind fun zero=>(Bv P g u.toList).map fun q=>.x7 zero q
 | .buildSlice g len u=>(gj P g).bind fun e=>(b9 P e).bind fun h=>(gb P e).bind fun zero=>
   if zero.length=h/\len*h<=16777216 then some (.qs h zero len u.toList) else none
 | .load g a=>match dE P g,b9 P g with
  | some true,some n=>some (.j6 n a)
  | some false,_=>some (.ld1 a)
  | _,_=>none
 | .store g a x=>(b9 P g).map fun n=>.st n a x
 | .nilCheck x=>some (.zg x)
 | .binOp p g x y _=>some (.bin p g x y)
 | .unOp p _ x=>some (.un p x)
 | .convert s d x=>match P.underlying s,P.underlying d with
  | some _,some (.int k)=>some (.vG k x)
  | some (.slice e),some .string=>match P.underlying e with
   | some (.int .u8)=>some (.tA x)
   | _=>none
  | some .string,some .string=>some (.GO x)
  | some .string,some (.slice e)=>match P.underlying e with
   | some (.int .u8)=>some (.yr x)
   | _=>none
  | _,_=>none
 | .makeInterface g x=>match P.underlying g with
  | some (.interface _) | none=>none
  | _=>some (.CT g x)
 | .makeFunc (.func f) a b=>some (.wC f a.toList b.toList)
 | .makeSlice g l c=>(gj P g).bind fun e=>(b9 P e).bind fun h=>(gM P e).bind fun v=>(gb P e).bind fun zero=>
   if zero.length=h then some (.sf h v zero l c) else none
 | .slice g x B z C=>(mi P g).map fun D=>.slice D x B z C
 | .fieldAddr s x f=>(rX P s f).bind fun j=>match b9 P j.type with
  | some (_+1)=>some (.nu j.offset x)
  | _=>none
 | .field g x f=>(rX P g f).bind fun j=>match dE P j.type,b9 P j.type with
  | some true,some n=>some (.yG n j.offset x)
  | some false,_=>some (.Hz j.offset x)
  | _,_=>none
 | .indexAddr g x i=>match mi P g with
  | some (.arr n h)=>some (.r7 (.arr n h) x i)
  | some (.Z h)=>some (.r7 (.Z h) x i)
  | _=>none
 | .index g x i=>match P.underlying g with
  | some (.array n e)=>match b9 P e,dE P e with
   | some h,some true=>some (.Ie n h x i)
   | some h,some false=>some (.yT n h x i)
   | _,_=>none
  | some .string=>some (.yV x i)
  | _=>none
 | .extract x i=>some (.ext x i)
 | .call c=>match c.callee with
  | .builtin b=>qy P b c.argTypes.toList c.args.toList
  | .value (.func f)=>match P.funcs[f]?,c.args.toList with
   | some fn,[x,y]=>if wh fn then some (.bQ f (.func f) x y) else none
   | _,_=>none
  | _=>none
 | .makeMap g r=>match P.underlying g with | some (.map _ _)=>some (.tZ r) | _=>none
 | .lookup g m k t=>match P.underlying g with | some (.map o w)=>(sX P w).map fun h=>.wv o h t m k | _=>none
 | .mapUpdate g m k x | .insert g m k x=>match P.underlying g with | some (.map o _)=>some (.ub o m k x) | _=>none
 | .range g x=>match P.underlying g with | some .string=>some (.ux x) | _=>none
 | .next it true=>some (.ud it)
 | .panic _=>some .stop
 | .typeAssert x _ g t=>(An P g).map fun h=>.EA g h t x
 | _=>none
end
section
variable {P:bq}
theorem bind_some {alZ g:Type} {x:Option alZ} {f:alZ->Option g} {y:g}:x.bind f=some y<->∃ a,x=some a/\f a=some y:=by cases x<;>simp
theorem map_some {alZ g:Type} {x:Option alZ} {f:alZ->g} {y:g}:x.map f=some y<->∃ a,x=some a/\f a=y:=by cases x<;>simp
theorem e8 {l l' : ad} {x:Option U} {v:U}:dt l x=some (v,l')<->x=some v/\l'=l:=by cases x<;>simp[dt,eq_comm]
theorem gN {alZ:Type} {p:Prop} [Decidable p] {x y:alZ}:(if p then some x else none)=some y<->p/\x=y:=by by_cases p<;>simp_all
theorem FU {l l' : ad} {e z by_ n:Nat} {s v:U} {xs:ag} (B:mm P e=some z) (h:hr l z by_ s xs n=some (v,l')) :qo P (aZ l) e z by_ s xs n=some (v,aZ l'):=by
 unfold hr at h;unfold qo;by_cases q:n=0
 ·rw[ak q] at h ⊢;cases s<;>simp at h ⊢<;>simp[h]
 ·rw[aj q] at h ⊢;by_cases j:z=0\/by_=0
  ·rw[ak j] at h;cases h
  ·rw[aj j] at h;rw[aj (by simp only[B];simpa using j)];cases s<;>simp only at h ⊢<;>try (cases h;done)
   case ae=>
    by_cases t:n*by_<=dk
    ·rw[ak t] at h ⊢;cases h;rw[lN];rfl
    ·rw[aj t] at h;cases h
   case Z D b u len cap w=>
    cases g:l[b]? with
    | none=>rw[g] at h;cases h
    | some c=>
     cases c<;>rw[g] at h<;>(try simp only at h)<;>try (cases h;done)
     rename_i C cs;rw[hK.2 g];simp only;by_cases h1:C=w/\z=D/\(len+n)*by_<=dk
     ·rw[ak h1] at h ⊢;by_cases m:len+n<=cap
      ·rw[ak m] at h ⊢;cases h;rw[mu _ (aX g)]
      ·rw[aj m] at h ⊢;by_cases o:u+cap*z<w
       ·rw[ak o] at h ⊢;cases h;rw[lN];rfl
       ·rw[aj o] at h ⊢;by_cases p:u=0
        ·rw[ak p] at h ⊢;cases h;rw[mu _ (aX g)]
        ·rw[aj p] at h ⊢;cases h;rw[mu _ (aX g),lN];rfl
     ·rw[aj h1] at h;cases h
theorem Ow {t:aF} {ps:List (Nat × aY)} {q:List (Nat × Nat × aY)} (h:Bv P t ps=some q) (j:aY->U) (zero:ag) (w:gb P t=some zero) {cs:ag}
  (m:nm zero (q.map fun p=>(p.1,p.2.1,j p.2.2))=some cs) :vC P t (ps.map fun p=>(p.1,j p.2))=some (.af cs):=by
 have fill:∀ (v:Nat->Option (Nat × Nat)) (ps:List (Nat × aY)) (q:List (Nat × Nat × aY)) (zero:ag),
   (ps.mapM fun p=>(v p.1).map fun q=>(q.1,q.2,p.2))=some q->nm zero (q.map fun p=>(p.1,p.2.1,j p.2.2))=some cs->ey v zero (ps.map fun p=>(p.1,j p.2))=some cs:=by
  intro v ps
  induction ps with
  | nil=>intro q zero h1 g;simp at h1;subst h1;simpa [nm,ey] using g
  | cons p ps u=>
   intro q zero h1 g;rw[o5] at h1;simp only[Option.bind_eq_bind,bind_some,map_some,tc,bc] at h1;obtain⟨a,⟨H,B,rfl⟩,J,C,rfl⟩:=h1;simp only[di,nm,ey,B] at g ⊢;split at g
   ·rename_i K G;simp only[G];split at g
    ·rename_i D;rw[ak D];exact u _ _ C g
    ·cases g
   ·cases g
 unfold Bv at h;unfold vC;split at h
 ·rename_i I o;rw[w,o];simp only;split at h
  ·rename_i F;rw[aj (by simp[F])];rw[fill _ _ _ _ h m];rfl
  ·cases h
 ·rename_i n e o;rw[map_some] at h;obtain⟨z,h1,rfl⟩:=h;rw[w,o];simp only[h1];rw[fill (fun i=>some (i*z,z)) ps _ zero ?_ m];rfl;clear m
  induction ps with
  | nil=>rfl
  | cons p ps u=>rw[o5,u];rfl
 ·cases h
theorem WY {t:aF} {o:h6} (g:mi P t=some o) (x:U) (m j zc:Option U) :dw o x m j zc=xg P t x m j zc:=by
 unfold mi at g;unfold xg;split at g
 ·rename_i n e h;rw[map_some] at g;obtain⟨p,h1,rfl⟩:=g;rw[h];simp only[h1,dw];cases e5 n n m j zc<;>rfl
 ·rename_i e h;rw[map_some] at g;obtain⟨p,h1,rfl⟩:=g;rw[h];simp only[h1,dw];cases x<;>rfl
 ·rename_i h;cases g;rw[h];simp only[dw];cases x<;>cases zc<;>rfl
 ·cases g
theorem Sk {t:aF} {m:h6} (g:mi P t=some m) {x v:U} (h:bz m x=some v) :r8 P t x=some v:=by
 unfold mi at g;unfold r8;split at g
 ·rename_i n e j;rw[map_some] at g;obtain⟨o,h1,rfl⟩:=g;rw[j];simpa [bz] using h
 ·rename_i e j;rw[map_some] at g;obtain⟨o,h1,rfl⟩:=g;rw[j];unfold bz at h;cases x<;>simp_all
 ·rename_i j;cases g;rw[j];unfold bz at h;cases x<;>simp_all
 ·cases g
theorem OX {t:aF} {m:h6} (g:mi P t=some m) {x v:U} (h:rM m x=some v) :tx P t x=some v:=by
 unfold mi at g;unfold tx;split at g
 ·rename_i n e j;rw[map_some] at g;obtain⟨o,h1,rfl⟩:=g;rw[j];simpa [rM] using h
 ·rename_i e j;rw[map_some] at g;obtain⟨o,h1,rfl⟩:=g;rw[j];unfold rM at h;cases x<;>simp_all
 ·rename_i j;cases g;rw[j];unfold rM at h;cases x<;>simp_all
 ·cases g
theorem HZ {t:aF} {m:h6} (g:mi P t=some m) {x i v:U} (h:bO m x i=some v) :wg P t x i=some v:=by
 unfold mi at g;unfold wg;unfold bO at h;cases i<;>(try simp only at h)<;>try (cases h;done)
 rename_i k i;split at g
 ·rename_i n e j;rw[map_some] at g;obtain⟨o,h1,rfl⟩:=g;rw[j];simpa [asInt,h1] using h
 ·rename_i e j;rw[map_some] at g;obtain⟨o,h1,rfl⟩:=g;rw[j];simp only[asInt,h1];simp only at h;cases x<;>simp only at h ⊢<;>first | exact h | cases h
 ·rename_i j;cases g;simp only at h;cases h
 ·cases g
theorem Xo {t:aF} {n:Nat} (m:b9 P t=some n) {l l' : ad} {p v:U} (h:jM n l p v=some l') :rb P (aZ l) t p v=some (aZ l'):=by
 unfold jM at h;unfold rb;cases p<;>(try simp only at h)<;>try (cases h;done)
 rename_i b q u;cases j:v.cells with
 | none=>rw[j] at h;cases h
 | some w=>
  rw[j] at h;simp only[m] at h ⊢;cases g:l[b]? with
  | none=>rw[g] at h;cases h
  | some c=>
   cases c<;>rw[g] at h<;>(try simp only at h)<;>try (cases h;done)
   rename_i o cs;rw[hK.2 g];simp only;rw[gN] at h;obtain⟨h1,rfl⟩:=h;rw[ak h1,mu _ (aX g)]
theorem PA {t e:aF} {z:Nat} (o:gj P t=some e) (p:b9 P e=some z) {l l' : ad} {d x v:U} (h:yo z l d x=some (v,l')) :tD P (aZ l) t d x=some (v,aZ l'):=by
 unfold yo at h;unfold tD;rw[o];simp only[p,yn];cases j:cr l z x with
 | none=>rw[j] at h;cases h
 | some q=>
  obtain⟨C,n⟩:=q;rw[j] at h;simp only at h ⊢;cases d<;>simp only at h ⊢<;>try (cases h;done)
  case ae=>cases h;rfl
  case Z D b w len cap B=>
   cases g:l[b]? with
   | none=>rw[g] at h;cases h
   | some c=>
    cases c<;>rw[g] at h<;>(try simp only at h)<;>try (cases h;done)
    rename_i u cs;rw[hK.2 g];simp only;rw[gN] at h;obtain⟨h1,m⟩:=h;cases m;rw[ak h1,mu _ (aX g)]
theorem Pb {t e:aF} {zero:ag} (o:P.underlying t=some (.slice e)) (p:gb P e=some zero) {l l' : ad} {x:U} (h:pn zero l x=some l') :tB P (aZ l) t x=some (aZ l'):=by
 unfold pn at h;unfold tB;rw[o];cases x<;>(try simp only at h)<;>try (cases h;done)
 case ae=>cases h;rfl
 case bu q m=>cases m<;>simp only at h<;>cases h;rfl
 case Z q b v len cap w=>
  simp only;by_cases j:len=0
  ·rw[ak j] at h ⊢;cases h;rfl
  ·rw[aj j] at h ⊢;rw[p];cases g:l[b]? with
   | none=>rw[g] at h;cases h
   | some c=>
    cases c<;>rw[g] at h<;>(try simp only at h)<;>try (cases h;done)
    rename_i u cs;rw[hK.2 g];simp only;rw[gN] at h;obtain⟨h1,rfl⟩:=h;rw[ak h1,mu _ (aX g)]
theorem IA {t j q:aF} (u:P.underlying t=some (.map j q)) {l l' : ad} {m k x:U} (h:sd P l j m k x=some l') :sb P (aZ l) t m k x=some (aZ l'):=by
 unfold sd at h;unfold sb;rw[u];cases m<;>(try simp only at h)<;>try (cases h;done)
 rename_i b;simp only[jT];cases g:l[b]? with
 | none=>rw[g] at h;cases h
 | some c=>
  cases c<;>rw[g] at h<;>simp only at h<;>try (cases h;done)
  rename_i p v;simp only;cases hk:kK P j k with
  | false=>rw[hk] at h;cases h
  | true=>
   rw[hk] at h;simp only at h ⊢;cases o:j3 P j k p 0 with
   | none=>rw[o] at h;cases h
   | some r=>
    rw[o] at h;cases r with
    | none=>cases h;simp only[mu _ (aX g)]
    | some w=>cases h;simp only[mu _ (aX g)]
theorem Sp {t:aF} (h1:dE P t=some false) (h:aM) (p:U) :oK P h t p=(md h p).bind fun x=>x.1[x.2]?:=by unfold oK go;rw[h1];cases md h p<;>rfl
theorem Sq {t:aF} {n:Nat} (h1:dE P t=some true) (g:b9 P t=some n) (h:aM) (p:U) :oK P h t p=(md h p).bind fun x=>sn n x.1 x.2:=by unfold oK go;rw[h1,g];cases md h p<;>rfl
theorem OJ {b:Builtin} {ts:List aF} {args:List aY} {m:dy} (g:qy P b ts args=some m) {p:aY->U} {l l' : ad} {v:U} (h:bT P p l m=some (v,l')) :
  mA P (aZ l) b ts (args.map p)=some (.val v (aZ l')):=by
 unfold qy at g;split at g
 ·rename_i R;split at g
  ·rename_i k e o;cases g;simp only[bT,e8] at h;obtain⟨j,rfl⟩:=h;unfold CH at j;simp only[di,lI,mA];cases D:p R<;>rw[D] at j<;>(try simp only at j)<;>try (cases j;done)
   ·cases j;simp[r8,r9,o]
   ·rename_i b;cases B:l'[b]? with
    | none=>rw[B] at j;cases j
    | some c=>
     cases c<;>rw[B] at j<;>simp only at j<;>try (cases j;done)
     cases j;simp[r9,o,jT,B]
  ·rw[map_some] at g;obtain⟨Q,h1,rfl⟩:=g;simp only[bT,e8] at h;obtain⟨j,rfl⟩:=h;have q:=Sk h1 j;have t:∀ x,r9 P (aZ l') _ x=none:=fun x=>by
    unfold mi at h1;unfold r9;split at h1<;>first | (rename_i o;rw[o];done) | (cases h1;done) | skip
    all_goals (rename_i o;simp only[o])
   simp only[di,lI,mA,t];simp[q]
 ·rw[map_some] at g;obtain⟨Q,h1,rfl⟩:=g;simp only[bT,e8] at h;obtain⟨j,rfl⟩:=h;simp[mA,OX h1 j]
 ·rename_i O u s x;simp only[di,lI,mA];split at g
  ·rename_i o;simp only[bind_some] at g;obtain⟨e,h1,F,j,G,q,zero,t,g⟩:=g;rw[gN] at g;obtain⟨⟨I,w⟩,rfl⟩:=g;simp only[bT] at h;unfold og at h;cases D:p x<;>rw[D] at h<;>(try simp only at h)<;>try (cases h;done)
   rename_i k n;by_cases z:0<=n/\n<9223372036854775808/\n.toNat*G<=dk
   ·rw[ak z] at h;rw[o];simp only[vw,h1,asInt,j,q,t];rw[ak ⟨I,z⟩,FU w h];rfl
   ·rw[aj z] at h;cases h
  ·cases g
  ·rename_i J o;simp only[bind_some] at g;obtain⟨e,h1,F,j,G,q,g⟩:=g;rw[gN] at g;obtain⟨w,rfl⟩:=g;simp only[bT] at h;unfold ea at h;cases C:cr l F (p x) with
   | none=>rw[C] at h;cases h
   | some K=>
    obtain⟨T,n⟩:=K;rw[C] at h;simp only at h;have:oh P (aZ l) O (p s) (p x)=some (v,aZ l'):=by
     simp only[oh,h1,j,q,yn,C];exact FU w h
    rw[this];cases H:P.underlying u with
    | none=>exact bW H o
    | some d=>
     cases d<;>first | rfl | (rename_i k;exact bW H (J k))
 ·simp only[bind_some,map_some] at g;obtain⟨e,h1,F,j,rfl⟩:=g;simp only[bT] at h;simp[mA,PA h1 j h]
 ·split at g
  ·rename_i e o;rw[map_some] at g;obtain⟨zero,h1,rfl⟩:=g;simp only[bT,map_some,Prod.mk.injEq] at h;obtain⟨S,j,rfl,rfl⟩:=h;simp[mA,Pb o h1 j]
  ·cases g
 ·cases g;simp only[bT,e8] at h;obtain⟨j,rfl⟩:=h;simp[mA,j]
 ·cases g;simp only[bT,e8] at h;obtain⟨j,rfl⟩:=h;simp[mA,j]
 ·cases g
theorem Dk {t:aF} (h1:dE P t=some false) (cs:ag) (off:Nat) :go P t cs off=cs[off]?:=by unfold go;rw[h1]
theorem Jr {t:aF} {n:Nat} (h1:dE P t=some true) (g:b9 P t=some n) (cs:ag) (off:Nat) :go P t cs off=sn n cs off:=by unfold go;rw[h1,g];rfl
theorem BA {s d:aF} {x:U} (h:∀ e,P.underlying d=some (.slice e)->False) :tu P s d x=none:=by
 unfold tu;split
 ·rename_i e m j g;exact (h e g).elim
 ·rfl
theorem zb {op:Op} {m:dy} (j:kz P op=some m) {t:aY->U} {l l' : ad} {v:U} (h:bT P t l m=some (v,l')) :cO P (aZ l) t op=some (.val v (aZ l')):=by
 cases op<;>simp only[kz] at j<;>try (cases j;done)
 case move x=>cases j;simp only[bT,bc,Prod.mk.injEq] at h;obtain⟨rfl,rfl⟩:=h;rfl
 case assign x=>cases j;simp only[bT,bc,Prod.mk.injEq] at h;obtain⟨rfl,rfl⟩:=h;rfl
 case pick c a b=>
  cases j;simp only[bT,e8] at h;obtain⟨g,rfl⟩:=h;simp only[cO];unfold zz at g;cases H:t c<;>rw[H] at g<;>(try simp only at g)<;>try (cases g;done)
  cases g;rfl
 case alloc w=>
  rw[map_some] at j;obtain⟨zero,h1,rfl⟩:=j;simp only[bT,bc,Prod.mk.injEq] at h;obtain⟨rfl,rfl⟩:=h;simp only[cO,h1,lN];rfl
 case box w x=>
  cases j;simp only[bT,map_some,Prod.mk.injEq] at h;obtain⟨cs,h1,rfl,rfl⟩:=h;simp only[cO,h1,lN];rfl
 case build w ay=>
  simp only[bind_some,map_some] at j;obtain⟨zero,h1,q,g,rfl⟩:=j;simp only[bT,e8,map_some] at h;obtain⟨⟨cs,o,rfl⟩,rfl⟩:=h;simp only[cO,Ow g t zero h1 o];rfl
 case buildSlice w n ay=>
  simp only[bind_some] at j;obtain⟨e,h1,J,g,zero,o,j⟩:=j;rw[gN] at j;obtain⟨z,rfl⟩:=j;simp only[bT,map_some,Prod.mk.injEq] at h;obtain⟨cs,S,rfl,rfl⟩:=h;simp only[cO,yb,h1,g,o,ak z,S,lN];rfl
 case load w a=>
  split at j
  ·rename_i n h1 g;cases j;simp only[bT,e8] at h;obtain⟨o,rfl⟩:=h;simp only[cO,Sq h1 g,Km,o];rfl
  ·rename_i h1;cases j;simp only[bT,e8] at h;obtain⟨o,rfl⟩:=h;simp only[cO,Sp h1,Km,o];rfl
  ·cases j
 case store w a x=>
  rw[map_some] at j;obtain⟨n,h1,rfl⟩:=j;simp only[bT,map_some,Prod.mk.injEq] at h;obtain⟨Y,g,rfl,rfl⟩:=h;simp only[cO,Xo h1 g];rfl
 case nilCheck x=>
  cases j;simp only[bT,e8] at h;obtain⟨g,rfl⟩:=h;simp only[cO];unfold zh at g;cases H:t x<;>rw[H] at g<;>simp only at g<;>first | (cases g;done) | (cases g;rfl)
 case binOp aw w x y u=>
  cases j;simp only[bT,e8] at h;obtain⟨g,rfl⟩:=h;simp only[cO,g];rfl
 case unOp aw w x=>
  cases j;simp only[bT,e8] at h;obtain⟨g,rfl⟩:=h;simp only[cO,g];rfl
 case convert s d x=>
  simp only[cO];split at j
  ·rename_i aA k I F;cases j;simp only[bT,e8] at h;obtain⟨g,rfl⟩:=h;rw[BA (fun e D=>by rw[F] at D;cases D)];unfold vH at g;cases p:t x<;>rw[p] at g<;>(try simp only at g)<;>try (cases g;done)
   cases g;simp only[rR,I,F];rfl
  ·rename_i e I F;split at j
   ·rename_i D;cases j;simp only[bT,e8] at h;obtain⟨g,rfl⟩:=h;rw[BA (fun e D=>by rw[F] at D;cases D)];have:rR P (aZ l') s d (t x)=some v:=by
     rw[<-g];unfold rR pj;rw[I,F];cases p:t x<;>(simp only[D,yn])<;>(try rfl)<;>(rw[p] at g;unfold pj at g;simp only at g)
     ·cases g
     all_goals (cases H:cr l' 1 _<;>rfl)
    rw[this];rfl
   ·cases j
  ·rename_i I F;cases j;simp only[bT,e8] at h;obtain⟨g,rfl⟩:=h;rw[BA (fun e D=>by rw[F] at D;cases D)];unfold GQ at g;cases p:t x<;>rw[p] at g<;>(try simp only at g)<;>try (cases g;done)
   cases g;simp only[rR,I,F];rfl
  ·rename_i e I F;split at j
   ·rename_i D;cases j;simp only[bT,e8] at h;obtain⟨g,rfl⟩:=h;unfold rS at g;cases p:t x<;>rw[p] at g<;>(try simp only at g)<;>try (cases g;done)
    cases g;simp only[tu,I,F,D]
   ·cases j
  ·cases j
 case makeInterface w x=>
  split at j
  ·cases j
  ·cases j
  ·rename_i h1 g;cases j;simp only[bT,bc,Prod.mk.injEq] at h;obtain⟨rfl,rfl⟩:=h;simp only[cO]
 case typeAssert x aG w ax=>
  rw[map_some] at j;obtain⟨J,V,rfl⟩:=j;simp only[bT,e8] at h;obtain⟨g,rfl⟩:=h;simp only[cO,V,g,cz]
 case makeFunc f a b=>
  cases f<;>simp only at j<;>try (cases j;done)
  cases j;simp only[bT,bc,Prod.mk.injEq] at h;obtain⟨rfl,rfl⟩:=h;rfl
 case makeSlice w a c=>
  simp only[bind_some] at j;obtain⟨e,h1,J,g,az,o,zero,z,j⟩:=j;rw[gN] at j;obtain⟨S,rfl⟩:=j;simp only[bT] at h;unfold mO at h;cases K:t a<;>rw[K] at h<;>(try simp only at h)<;>try (cases h;done)
  cases H:t c<;>rw[H] at h<;>(try simp only at h)<;>try (cases h;done)
  rw[gN] at h;obtain⟨ai,al⟩:=h;cases al;simp only[cO,K,H,y4,h1,asInt,g,o,z,ak (And.intro S ai),lN];rfl
 case slice w x aD C aE=>
  rw[map_some] at j;obtain⟨aF,h1,rfl⟩:=j;simp only[bT,e8] at h;obtain⟨g,rfl⟩:=h;rw[WY h1] at g;simp only[cO,g];rfl
 case fieldAddr s x f=>
  rw[bind_some] at j;obtain⟨ah,h1,j⟩:=j;split at j
  ·rename_i n g;cases j;simp only[bT,e8] at h;obtain⟨o,rfl⟩:=h;simp only[cO,yB,h1,g,o];rfl
  ·cases j
 case field w x f=>
  rw[bind_some] at j;obtain⟨ah,h1,j⟩:=j;split at j
  ·rename_i n g o;cases j;simp only[bT,e8] at h;obtain⟨z,rfl⟩:=h;unfold yH at z;cases p:t x<;>rw[p] at z<;>(try simp only at z)<;>try (cases z;done)
   simp only[cO,p,h1,Jr g o,z];rfl
  ·rename_i g;cases j;simp only[bT,e8] at h;obtain⟨z,rfl⟩:=h;unfold HA at z;cases p:t x<;>rw[p] at z<;>(try simp only at z)<;>try (cases z;done)
   simp only[cO,p,h1,Dk g,z];rfl
  ·cases j
 case indexAddr w x i=>
  split at j
  ·rename_i n J h1;cases j;simp only[bT,e8] at h;obtain⟨g,rfl⟩:=h;simp only[cO,HZ h1 g];rfl
  ·rename_i J h1;cases j;simp only[bT,e8] at h;obtain⟨g,rfl⟩:=h;simp only[cO,HZ h1 g];rfl
  ·cases j
 case index w x i=>
  split at j
  ·rename_i n e B;split at j
   ·rename_i J h1 g;cases j;simp only[bT,e8] at h;obtain⟨o,rfl⟩:=h;unfold Ig at o;cases p:t x<;>rw[p] at o<;>(try simp only at o)<;>try (cases o;done)
    cases C:t i<;>rw[C] at o<;>(try simp only at o)<;>try (cases o;done)
    simp only[cO,tN,p,C,B,asInt,h1,Jr g h1,o];rfl
   ·rename_i J h1 g;cases j;simp only[bT,e8] at h;obtain⟨o,rfl⟩:=h;unfold yU at o;cases p:t x<;>rw[p] at o<;>(try simp only at o)<;>try (cases o;done)
    cases C:t i<;>rw[C] at o<;>(try simp only at o)<;>try (cases o;done)
    simp only[cO,tN,p,C,B,asInt,h1,Dk g,o];rfl
   ·cases j
  ·rename_i B;cases j;simp only[bT,e8] at h;obtain⟨o,rfl⟩:=h;unfold tP at o;cases p:t x<;>rw[p] at o<;>(try simp only at o)<;>try (cases o;done)
   cases C:t i<;>rw[C] at o<;>(try simp only at o)<;>try (cases o;done)
   simp only[cO,tN,p,C,B,asInt,o];rfl
  ·cases j
 case extract x i=>
  cases j;simp only[bT,e8] at h;obtain⟨g,rfl⟩:=h;unfold yz at g;cases p:t x<;>rw[p] at g<;>(try simp only at g)<;>try (cases g;done)
  simp only[cO,p,g];rfl
 case call c=>
  split at j
  ·rename_i b G;simp only[cO,qt,G];exact OJ j h
  ·rename_i f O;split at j
   ·rename_i fn x y aq am;rw[gN] at j;obtain⟨C,rfl⟩:=j;simp only[bT] at h;split at h
    case h_2=>cases h
    rename_i Q;rw[e8] at h;obtain⟨g,rfl⟩:=h;unfold cmpL at g;have ao:∀ x,tt (aZ l') x=pi l' x:=fun x=>by
     cases x<;>simp only[tt,pi,yn]<;>rfl
    have av:¬(fn.body.isSome=true/\fn.name≠ "runtime.NumGoroutine"):=by
     rintro⟨a,_⟩;unfold wh at C;simp only[bU] at C;rw[MG.1 C.1.1] at a;cases a
    have ap:t (.func f)=.fn f [] []:=by
     unfold yS at Q;split at Q
     ·rename_i aB ar;rw[ar,mo Q]
     ·cases Q
    simp only[cO,qt,O,ap,aq,aj av,ak C,am,di,lI,h0,eK,vK,ao];cases K:pi l' (t x) with
    | none=>rw[K] at g;cases g
    | some a=>
     cases G:pi l' (t y) with
     | none=>rw[K,G] at g;cases g
     | some b=>rw[K,G] at g;cases g;rfl
   ·cases j
  ·cases j
 case panic x=>cases j;cases h
 case makeMap w r=>
  split at j
  ·rename_i k e B;cases j;simp only[bT] at h;cases r with
   | none=>cases h;simp[cO,B,lN]
   | some x=>
    simp only at h;cases p:asInt (t x) with
    | none=>rw[p] at h;cases h
    | some n=>rw[p] at h;cases h;simp[cO,B,p,lN]
  ·cases j
 case lookup w m k ax=>
  split at j
  ·rename_i R W B;rw[map_some] at j;obtain⟨J,V,rfl⟩:=j;simp only[bT,e8] at h;obtain⟨g,rfl⟩:=h;have au:∀ x,wz (aZ l') x=tY l' x:=fun x=>by
    cases x<;>try rfl
    rename_i b;simp only[wz,tY,jT];cases l'[b]? with
    | none=>rfl
    | some c=>cases c<;>rfl
   unfold ww at g;simp only[cO,y2,B,au];cases X:tY l' (t m) with
   | none=>rw[X] at g;cases g
   | some ag=>
    rw[X] at g;simp only at g ⊢;cases hk:kK P R (t k) with
    | false=>rw[hk] at g;cases g
    | true=>
     rw[hk] at g;simp only at g ⊢;cases O:j3 P R (t k) ag 0 with
     | none=>rw[O] at g;cases g
     | some r=>
      rw[O] at g;cases r with
      | none=>cases g;simp[V]
      | some aC=>cases g;rfl
  ·cases j
 case mapUpdate w m k x=>
  split at j
  ·rename_i R W B;cases j;simp only[bT,map_some] at h;obtain⟨Y,g,o⟩:=h;cases o;simp only[cO,IA B g];rfl
  ·cases j
 case insert w m k x=>
  split at j
  ·rename_i R W B;cases j;simp only[bT,map_some] at h;obtain⟨Y,g,o⟩:=h;cases o;simp only[cO,IA B g];rfl
  ·cases j
 case range w x=>
  split at j
  ·rename_i B;cases j;simp only[bT] at h;unfold w3 at h;cases p:t x<;>rw[p] at h<;>(try simp only at h)<;>try (cases h;done)
   cases h;simp[cO,zO,B,p,lN]
  ·cases j
 case next it b=>
  cases b with
  | false=>cases j
  | true=>
   cases j;simp only[bT] at h;unfold cP at h;simp only[cO,ze];cases p:t it<;>rw[p] at h<;>(try simp only at h)<;>try (cases h;done)
   rename_i b;simp only[jT];cases G:l[b]? with
   | none=>rw[G] at h;cases h
   | some c=>
    cases c<;>rw[G] at h<;>simp only at h<;>try (cases h;done)
    simp only;split at h
    ·rename_i T;cases h;rw[T];simp only[cz,mu _ (aX G)]
    ·rename_i T;cases h;rw[T];rfl
end
abbrev aS:=Nat->U
abbrev fG:=qe->aS->ad->Prop
class FA (alZ:Type) where
 k:alZ->Prop
class vm where
 p:Prop
 q:Prop
class qj where
 k:U->ad->Prop
class Be where
 k:fG
def W {alZ:Type} (o:Option alZ) [c:FA alZ] :Prop:=match o with | some g=>c.k g | none=>False
def oI (b:Bool) [c:vm] :Prop:=match b with | true=>c.p | false=>c.q
def wn (x:U) [c:vm] :Prop:=match x with | .bool b=>oI b (c:=c) | _=>False
def pB (x:U) (w:Bool) [c:vm] :Prop:=match x with | .bool b=>oI (b == w) (c:=c) | .bad=>False | _=>c.q
inductive rB where
 | fy (g:dy)
 | lc (f:cj) (args:List aY)
 | lT (x:aY) (args:List aY)
 | nn (x:aY) (name:String) (args:List aY)
structure da where
 i:Nat
 dst:Option Tmp
 g:Option (Option Tmp × Bool)
 b:rB
 qu:List Nat
 bm:Bool
inductive fF where
 | skip
 | ret
 | exit (id:Nat)
 | jH (s:List da)
 | vR (s:List da)
 | seq (a b:fF)
 | cond (c:aY) (x y:fF)
 | block (id:Nat) (c:fF)
 | loop (c:fF)
section
variable (P:bq) (G:Nat->U)
def fI (f:cj) :Bool:=match P.funcs[f]? with | some fn=>fn.body.isSome&&fn.name != "runtime.NumGoroutine" | none=>false
def fS (f:cj) (args:ag) (l:ad) [c:qj] :Prop:=∃ r g,c8 P G (.call f args (aZ l) r (aZ g))/\l.length<=g.length/\c.k r g
def vE (x:U) (args:ag) (l:ad) [c:qj] :Prop:=match x with
 | .fn g first e6=>fI P g=true/\fS P G g (first++args++e6) l (c:=c)
 | _=>False
def ye (name:String) (x:U) (args:ag) (l:ad) [c:qj] :Prop:=match x with
 | .fX h j=>match wB P h name with
  | some g=>fI P g=true/\fS P G g (j::args) l (c:=c)
  | none=>False
 | _=>False
def bP (v:U) (l:ad) [c:qj] :Prop:=c.k v l\/∃ h g,iP (aZ l) (aZ g)/\iO (aZ l) (aZ g) v h/\c.k h g
def ep (m:dy) (v:U) (l:ad) (K:U->ad->Prop) :Prop:=match m with
 | .app ..=>bP v l (c:=⟨K⟩)
 | _=>K v l
def gI (b:rB) (sgZ:aS) (l:ad) (K:U->ad->Prop) :Prop:=match b with
 | .fy g=>W (bT P (dA G sgZ) l g) (c:=⟨fun x=>ep g x.1 x.2 K⟩)
 | .lc f args=>fS P G f (args.map (dA G sgZ)) l (c:=⟨K⟩)
 | .lT x args=>vE P G (dA G sgZ x) (args.map (dA G sgZ)) l (c:=⟨K⟩)
 | .nn x name args=>ye P G name (dA G sgZ x) (args.map (dA G sgZ)) l (c:=⟨K⟩)
def oH (sgZ:aS) (g:Option (Option Tmp × Bool)) (p q:Prop) :Prop:=match g with
 | none=>p
 | some (some d,w)=>pB (sgZ d) w (c:=⟨p,q⟩)
 | some (none,_)=>q
def iE:List da->aS->ad->(aS->ad->Prop)->Prop
 | [],h,l,j=>j h l
 | s::r,h,l,j=>oH h s.g (gI P G s.b h l fun o m=>iE r (gF h s.dst o) m j) (iE r (gF h s.dst fC) l j)
abbrev il:=List (Nat × (ad->Prop))
def pm (g:List Nat) :il->ad->Prop
 | [],_=>True
 | e::r,l=>(g.contains e.1=true->e.2 l)/\pm g r l
def dy.ln:dy->Bool
 | .alloc _ | .box _ | .qs .. | .sf ..=>true
 | _=>false
def kX (b:rB) (sgZ:aS) (v:U) (l l' l1:ad) :Prop:=match b with
 | .fy g=>match g.ln with
  | true=>l1[l.length]?=l'[l.length]?
  | false=>bT P (dA G sgZ) l1 g=some (v,l1)
 | _=>True
def pR (bm:Bool) (i:Nat) (p:ad->Prop) (s:il) :il:=match bm with | true=>(i,p) ::s | false=>s
def jI:List da->aS->ad->il->(aS->ad->Prop)->Prop
 | [],h,l,_,j=>j h l
 | s::r,h,l,seen,j=>oH h s.g (gI P G s.b h l fun o m=>pm s.qu seen m/\jI r (gF h s.dst o) m (pR s.bm s.i (kX P G s.b h o l m) seen) j) (jI r (gF h s.dst fC) l seen j)
def mJ (k:aS->ad->Prop) (K:fG) :fG:=fun e g l=>match e with
 | .normal=>k g l
 | .exit id=>K (.exit id) g l
 | .ret=>K .ret g l
def qK (id:Nat) (K:fG) :fG:=fun e g l=>match e with
 | .normal=>K .normal g l
 | .exit h=>match Nat.beq h id with | true=>K .normal g l | false=>K (.exit h) g l
 | .ret=>K .ret g l
def tV (r:aS->ad->fG->Prop) :Nat->aS->ad->fG->Prop
 | 0=>fun _ _ _=>False
 | n+1=>fun g l h=>r g l (mJ (fun g l=>tV r n g l h) h)
def xT (r:aS->ad->fG->Prop) (sgZ:aS) (l:ad) [c:Be] :Prop:=∃ n,tV r n sgZ l c.k
def run:fF->aS->ad->fG->Prop
 | .skip,g,l,h=>h .normal g l
 | .ret,g,l,h=>h .ret g l
 | .exit id,g,l,h=>h (.exit id) g l
 | .jH s,g,l,h=>iE P G s g l (h .normal)
 | .vR s,g,l,h=>jI P G s g l [] (h .normal)
 | .seq a b,g,l,h=>run a g l (mJ (fun g l=>run b g l h) h)
 | .cond c x y,g,l,h=>wn (dA G g c) (c:=⟨run x g l h,run y g l h⟩)
 | .block id c,g,l,h=>run c g l (qK id h)
 | .loop c,g,l,h=>xT (run c) g l (c:=⟨h⟩)
def uK (ops:Array bb) (i:Nat) (h:List Nat) (bm:Bool) :Option da:=(ops[i]?).bind fun g=>
 let j:=g.guard.map fun m=>((ops[m.1]?).bind (·.dst),m.2)
 match kz P g.op with
 | some o=>some ⟨i,g.dst,j,.fy o,h,bm⟩
 | none=>match g.op with
  | .call c=>match c.callee with
   | .value (.func f)=>match fI P f with
    | true=>some ⟨i,g.dst,j,.lc f c.args.toList,h,bm⟩
    | false=>none
   | .value x=>some ⟨i,g.dst,j,.lT x c.args.toList,h,bm⟩
   | .invoke x name=>some ⟨i,g.dst,j,.nn x name c.args.toList,h,bm⟩
   | _=>none
  | _=>none
def oZ:Op->Bool
 | .load .. | .convert .. | .alloc _ | .box .. | .buildSlice .. | .makeSlice ..=>true
 | .call c=>match c.callee,c.argTypes.toList with
  | .builtin .len,[g]=>match P.underlying g with | some (.map _ _)=>true | _=>false
  | _,_=>false
 | _=>false
def O6 (j:List Nat) (ops:Array bb) (done h:List Nat) :List Nat:=
 done.filter fun g=>(match ops[g]? with | some m=>oZ P m.op | none=>false)&&h.all fun e=>!mc j e g
def lx (h:List Nat) (ops:Array bb) :List Nat->List Nat->List Nat->List (Nat × List Nat)
 | [],_,_=>[]
 | i::r,done,g=>match ops[i]? with
  | none=>[]
  | some j=>match iq j.op with
   | true=>(i,O6 P h ops done (i::g)) ::lx h ops r (i::done) (match j.guard with | none=>i::g | some _=>g)
   | false=>(i,[]) ::lx h ops r (i::done) g
def vS (g:List Nat) (ops:Array bb) :List Nat->Bool
 | []=>true
 | i::r=>(match ops[i]? with | some j=>!iq j.op||r.all fun h=>mc g h i | none=>false)&&vS g ops r
def BI (N:Nat) (ops:Array bb) (draw:Bool) :Option fF:=
 match ops.toList.all fun o=>hO N o.dst with
 | false=>none
 | true=>match draw with
  | false=>((List.range ops.size).mapM fun i=>uK P ops i [] false).map .jH
  | true=>
   let g:=gZ ops
   let h:=eC g ops
   match Dg g ops h&&vS g ops h with
   | false=>none
   | true=>
    let m:=lx P g ops h [] []
    let ask:=m.flatMap (·.2)
    match m.mapM fun j=>uK P ops j.1 j.2 (ask.contains j.1) with
    | none=>none
    | some s=>match ask with
     | []=>some (.jH s)
     | _=>some (.vR s)
def comp (N:Nat) :Code->Option fF
 | .skip=>some .skip
 | .label _=>some .skip
 | .ret=>some .ret
 | .exit id=>some (.exit id)
 | .region _ ops draw=>BI P N ops draw
 | .seq a b=>match comp N a,comp N b with
  | some .skip,some b=>some b
  | some a,some .skip=>some a
  | some a,some b=>some (.seq a b)
  | _,_=>none
 | .cond c x y=>match comp N x,comp N y with
  | some x,some y=>some (.cond c x y)
  | _,_=>none
 | .block id c=>(comp N c).map (.block id)
 | .loop c=>(comp N c).map .loop
 | .scope c=>comp N c
 | _=>none
def vM (f:cj) :Option fF:=match P.funcs[f]? with
 | some fn=>match fn.body with
  | some c=>comp P fn.ntmps c
  | none=>none
 | none=>none
end
section
variable {P:bq} {G:Nat->U}
theorem FT {l l' : ad} {z by_ n:Nat} {s v:U} {xs:ag} (h:hr l z by_ s xs n=some (v,l')) :l.length<=l'.length:=by
 unfold hr at h
 repeat' split at h
 all_goals first | (cases h;done) | (cases h;simp)
theorem IP {g:aY->U} {l l' : ad} {m:dy} {v:U} (h:bT P g l m=some (v,l')) :l.length<=l'.length:=by
 cases m<;>simp only[bT,e8,map_some,bc,Prod.mk.injEq] at h
 case dW=>obtain⟨_,rfl⟩:=h;exact aN _
 case alloc=>obtain⟨_,rfl⟩:=h;simp
 case box=>obtain⟨_,_,_,rfl⟩:=h;simp
 case qs=>obtain⟨_,_,_,rfl⟩:=h;simp
 case st n a x=>
  obtain⟨_,h,_,rfl⟩:=h;unfold jM at h
  repeat' split at h
  all_goals first | (cases h;done) | (cases h;simp)
 case CT=>obtain⟨_,rfl⟩:=h;exact aN _
 case wC=>obtain⟨_,rfl⟩:=h;exact aN _
 case sf=>
  unfold mO at h
  repeat' split at h
  all_goals first | (cases h;done) | (cases h;simp)
 case app=>
  unfold ea at h;split at h
  ·cases h
  ·exact FT h
 case tk=>
  unfold og at h
  repeat' split at h
  all_goals first | (cases h;done) | exact FT h
 case yq=>
  unfold yo at h
  repeat' split at h
  all_goals first | (cases h;done) | (cases h;simp)
 case tC=>
  obtain⟨_,h,_,rfl⟩:=h;unfold pn at h
  repeat' split at h
  all_goals first | (cases h;done) | (cases h;simp)
 case stop=>cases h
 case tZ x=>
  cases x with
  | none=>cases h;simp
  | some j=>
   simp only at h;split at h
   ·cases h;simp
   ·cases h
 case ub=>
  obtain⟨_,h,_,rfl⟩:=h;unfold sd at h
  repeat' split at h
  all_goals first | (cases h;done) | (cases h;simp)
 case ux=>
  unfold w3 at h
  repeat' split at h
  all_goals first | (cases h;done) | (cases h;simp)
 case ud=>
  unfold cP at h
  repeat' split at h
  all_goals first | (cases h;done) | (cases h;simp)
 case bQ=>
  split at h
  ·rw[e8] at h;obtain⟨_,rfl⟩:=h;exact aN _
  ·cases h
 all_goals (obtain⟨_,rfl⟩:=h;exact aN _)
theorem xY {alZ:Type} {o:Option alZ} {c:FA alZ}:W o (c:=c)<->∃ v,o=some v/\c.k v:=by unfold W;cases o<;>simp
theorem wo {b:Bool} {c:vm}:oI b (c:=c)<->(b=true/\c.p)\/(b=false/\c.q):=by cases b<;>simp[oI]
structure mx (P:bq) (ops:Array bb) (s:da) (o:bb) :Prop where
 here:ops[s.i]?=some o
 dst:s.dst=o.dst
 g:s.g=o.guard.map fun h=>((ops[h.1]?).bind (·.dst),h.2)
 fy:∀ m,s.b=.fy m->kz P o.op=some m
 lc:∀ f args,s.b=.lc f args->∃ c:Call,o.op=.call c/\c.callee=.value (.func f)/\c.args.toList=args/\fI P f=true
 lT:∀ x args,s.b=.lT x args->∃ c:Call,o.op=.call c/\c.callee=.value x/\c.args.toList=args
 nn:∀ x name args,s.b=.nn x name args->∃ c:Call,o.op=.call c/\c.callee=.invoke x name/\c.args.toList=args
theorem xj {ops:Array bb} {i:Nat} {q:List Nat} {bm:Bool} {s:da} (h:uK P ops i q bm=some s) :∃ o,mx P ops s o/\s.i=i/\s.qu=q/\s.bm=bm:=by
 unfold uK at h;rw[bind_some] at h;obtain⟨o,j,h⟩:=h;refine⟨o,?_⟩;simp only at h;split at h
 ·rename_i w u;cases h;exact⟨⟨j,rfl,rfl,fun p h=>(by cases h;exact u),fun f a h=>(by cases h),fun x a h=>(by cases h),fun x n a h=>(by cases h)⟩,rfl,rfl,rfl⟩
 ·split at h
  ·rename_i c m;split at h
   ·rename_i f g;split at h
    ·rename_i t;cases h;exact⟨⟨j,rfl,rfl,fun p h=>(by cases h),fun f a h=>(by cases h;exact⟨c,m,g,rfl,t⟩),fun x a h=>(by cases h),fun x n a h=>(by cases h)⟩,rfl,rfl,rfl⟩
    ·cases h
   ·rename_i x v g;cases h;exact⟨⟨j,rfl,rfl,fun p h=>(by cases h),fun f a h=>(by cases h),fun x a h=>(by cases h;exact⟨c,m,g,rfl⟩),fun x n a h=>(by cases h)⟩,rfl,rfl,rfl⟩
   ·rename_i x name g;cases h;exact⟨⟨j,rfl,rfl,fun p h=>(by cases h),fun f a h=>(by cases h),fun x a h=>(by cases h),fun x n a h=>by cases h;exact⟨c,m,g,rfl⟩⟩,rfl,rfl,rfl⟩
   ·cases h
  ·cases h
theorem HG {g:cj} (j:fI P g=true) {h:aM} {m:aY->U} {c:Call} {x:aY} {first e6:ag} (p:c.callee=.value x) (q:m x=.fn g first e6) :
  cO P h m (.call c)=some (.call g (first++c.args.toList.map m++e6) h):=by
 unfold fI at j;simp only[cO,qt,p,q];cases o:P.funcs[g]? with
 | none=>rw[o] at j;cases j
 | some fn=>
  rw[o] at j;simp only[bU,bne_iff_ne] at j;simp only;rw[ak j]
theorem QZ {g:cj} (j:fI P g=true) {h:aM} {m:aY->U} {c:Call} {x:aY} {name:String} {t:aF} {v:U} (p:c.callee=.invoke x name) (u:m x=.fX t v) (q:wB P t name=some g) :
  cO P h m (.call c)=some (.call g (v::c.args.toList.map m) h):=by
 unfold fI at j;simp only[cO,qt,p,u,q];cases o:P.funcs[g]? with
 | none=>rw[o] at j;cases j
 | some fn=>
  rw[o] at j;simp only[bU,bne_iff_ne] at j;simp only;rw[ak j]
def dy.looks:dy->Bool
 | .alloc _ | .box _ | .qs .. | .sf .. | .st .. | .app .. | .tk .. | .yq .. | .tC .. | .tZ _ | .wv .. | .ub .. | .ux _ | .ud _ | .bQ .. | .EA .. | .stop=>false
 | _=>true
theorem R3 {m:dy} {v:U} {l:ad} {K:U->ad->Prop} (h:ep m v l K) :K v l\/(m.looks=false/\m.ln=false/\∃ j g,iP (aZ l) (aZ g)/\iO (aZ l) (aZ g) v j/\K j g):=by
 cases m<;>first | exact .inl h | skip
 rcases h with h | h
 ·exact .inl h
 ·exact .inr ⟨rfl,rfl,h⟩
theorem Ip {m:dy} {v:U} {l:ad} {K h3:U->ad->Prop} (g:∀ v l,K v l->h3 v l) (h:ep m v l K) :ep m v l h3:=by
 cases m<;>first | exact g _ _ h | skip
 rcases h with h | ⟨q,p,h1,j,o⟩
 ·exact .inl (g _ _ h)
 ·exact .inr ⟨q,p,h1,j,g _ _ o⟩
theorem Lq {ops:Array bb} {s:da} {o:bb} (C:mx P ops s o) {sgZ:aS} {l:ad} {K:U->ad->Prop} (h:gI P G s.b sgZ l K) :
  ∃ v l',c8 P G (.op o.op sgZ (aZ l) v (aZ l'))/\l.length<=l'.length/\K v l'/\∀ m,s.b=.fy m->(m.looks=true\/m.ln=true)->bT P (dA G sgZ) l m=some (v,l'):=by
 cases p:s.b with
 | fy m=>
  rw[p] at h;simp only[gI,xY] at h;obtain⟨⟨v,l'⟩,h1,j⟩:=h;have F:=c8.zp (G:=G) (zb (C.fy m p) h1);rcases R3 j with j | ⟨S,T,V,R,I,O,Q⟩
  ·exact⟨v,l',F,IP h1,j,fun B g _=>by cases g;exact h1⟩
  ·refine⟨V,R,.Ax F I O,dC (IP h1) (A6 I.n.symm),Q,fun B g H=>?_⟩;cases g;rw[S,T] at H;rcases H with h | h<;>cases h
 | lc f args=>
  rw[p] at h;obtain⟨r,l',h1,j,q⟩:=h;obtain⟨c,z,u,t,w⟩:=C.lc f args p;refine⟨r,l',?_,j,q,fun B g _=>by cases g⟩;rw[z];refine .ui (HG w u rfl) ?_;simpa [t] using h1
 | lT x args=>
  rw[p] at h;simp only[gI] at h;obtain⟨c,z,u,t⟩:=C.lT x args p;unfold vE at h;split at h
  ·rename_i J first e6 D
   obtain⟨w,r,l',h1,j,q⟩:=h;refine⟨r,l',?_,j,q,fun B g _=>by cases g⟩;rw[z];refine .ui (HG w u D) ?_;rw[t];exact h1
  ·cases h
 | nn x name args=>
  rw[p] at h;simp only[gI] at h;obtain⟨c,z,u,t⟩:=C.nn x name args p;unfold ye at h;split at h
  ·rename_i W v D;split at h
   ·rename_i J g;obtain⟨w,r,l',h1,j,q⟩:=h;refine⟨r,l',?_,j,q,fun B g _=>by cases g⟩;rw[z];refine .ui (QZ w u D g) ?_;rw[t];exact h1
   ·cases h
  ·cases h
theorem Im {ops:Array bb} {s:da} {o:bb} (B:mx P ops s o) {sgZ:aS} {p q:Prop} (h:oH sgZ s.g p q) :(iJ ops sgZ o=some true/\p)\/(iJ ops sgZ o=some false/\q):=by
 rw[B.g] at h;unfold iJ;cases t:o.guard with
 | none=>rw[t] at h;exact .inl ⟨rfl,h⟩
 | some z=>
  obtain⟨v,w⟩:=z;rw[t] at h;simp only[cz] at h ⊢;cases m:(ops[v]?).bind (·.dst) with
  | none=>rw[m] at h;exact .inr ⟨rfl,h⟩
  | some d=>
   rw[m] at h;simp only[oH,pB] at h ⊢;cases u:sgZ d<;>rw[u] at h<;>simp only at h ⊢<;>first | exact .inr ⟨trivial,h⟩ | (cases h;done) | skip
   rw[wo] at h;rcases h with ⟨h1,j⟩ | ⟨h1,j⟩
   ·exact .inl ⟨by rw[h1],j⟩
   ·exact .inr ⟨by rw[h1],j⟩
inductive k6 (P:bq) (ops:Array bb) :List da->List bb->Prop
 | nil:k6 P ops [] []
 | cons {s g j h}:mx P ops s g->k6 P ops j h->k6 P ops (s::j) (g::h)
theorem xc {ops:Array bb} {N:Nat} (p:∀ (i:Nat) (o:bb),ops[i]?=some o->hO N o.dst=true) {K:aS->ad->Prop}:∀ {s:List da} {os:List bb} {sgZ:aS} {l:ad},
  k6 P ops s os->iE P G s sgZ l K->∃ m l',c8 P G (.ops ops os N sgZ (aZ l) m (aZ l'))/\l.length<=l'.length/\K m l'
 | [],_,sgZ,l,g,h=>by cases g;exact⟨sgZ,l,.Jg,aN _,h⟩
 | s::r,_,sgZ,l,g,h=>by
  cases g with
  | cons j g=>
   rename_i o os;rcases Im j h with ⟨v,h⟩ | ⟨v,h⟩
   ·obtain⟨C,B,h1,w,z,_⟩:=Lq j h;obtain⟨m,l',q,t,u⟩:=xc p g z;exact⟨m,l',.Jh v (p _ _ j.here) h1 (by rw[<-j.dst];exact q),dC w t,u⟩
   ·obtain⟨m,l',q,t,u⟩:=xc p g h;exact⟨m,l',.Ji v (p _ _ j.here) (by rw[<-j.dst];exact q),t,u⟩
theorem Kl {l x:ad} {p:U} {y:ag × Nat} (h:fN l p=some y) :fN (l++x) p=some y:=by
 cases p<;>first | exact h | skip
 rename_i b j m;simp only[fN] at h ⊢;cases g:l[b]? with
 | none=>rw[g] at h;cases h
 | some c=>rw[g] at h;rw[aU (aX g),g];exact h
theorem Px {l x:ad} {z:Nat} {p:U} {y:ag × Nat} (h:cr l z p=some y) :cr (l++x) z p=some y:=by
 cases p<;>first | exact h | skip
 rename_i o b j len cap m;simp only[cr] at h ⊢;cases g:l[b]? with
 | none=>rw[g] at h;cases h
 | some c=>rw[g] at h;rw[aU (aX g),g];exact h
theorem O1 {l x:ad} {p v:U} (h:pj l p=some v) :pj (l++x) p=some v:=by
 unfold pj at h ⊢;cases p<;>simp only at h ⊢<;>first | exact h | skip
 all_goals
  split at h
  ·rename_i cs n g;rw[Px g];exact h
  ·cases h
def dy.reads:dy->Bool
 | .ld1 _ | .j6 .. | .tA _ | .y0 _=>true
 | _=>false
theorem Sv {j:aY->U} {l l' : ad} {m:dy} {v:U} (g:m.looks=true) (h:bT P j l m=some (v,l')) :l'=l:=by cases m<;>simp only[dy.looks,kj] at g<;>simp only[bT,e8,bc,Prod.mk.injEq] at h<;>first | exact h.2 | exact h.2.symm
theorem St {j:aY->U} {l x:ad} {m:dy} {v:U} (p:m.looks=true) (h:bT P j l m=some (v,l)) :bT P j (l++x) m=some (v,l++x):=by
 cases m<;>simp only[dy.looks,kj] at p<;>simp only[bT,e8,bc,Prod.mk.injEq,and_true] at h ⊢<;>try exact h
 case ld1 a=>
  rw[bind_some] at h ⊢;obtain⟨y,h1,g⟩:=h;exact⟨y,Kl h1,g⟩
 case j6 n a=>
  rw[bind_some] at h ⊢;obtain⟨y,h1,g⟩:=h;exact⟨y,Kl h1,g⟩
 case tA x=>exact O1 h
 case y0 y=>
  unfold CH at h ⊢;cases q:j y<;>rw[q] at h<;>(try simp only at h)<;>try (cases h;done)
  ·exact h
  ·rename_i b;cases o:l[b]? with
   | none=>rw[o] at h;cases h
   | some c=>simp only[aU (aX o)];exact h
theorem Su {j:aY->U} {l g:ad} {m:dy} {v:U} (o:m.looks=true) (p:m.reads=false) (h:bT P j l m=some (v,l)) :bT P j g m=some (v,g):=by cases m<;>simp only[dy.looks,kj] at o<;>simp only[dy.reads,reduceCtorEq] at p<;>simp only[bT,e8,bc,Prod.mk.injEq,and_true] at h ⊢<;>exact h
theorem DO (zero:ag) :∀ n,(c3 zero n).length=n*zero.length
 | 0=>by simp[c3]
 | n+1=>by rw[c3,cF,DO zero n,ek,rx]
theorem Xd {cs vs:ag} {off:Nat} (h:off+vs.length<=cs.length) :(aw cs off vs).length=cs.length:=by simp only[aw,cF,cL,i2];omega
theorem Hm {g:Nat->Option (Nat × Nat)}:∀ {ps:List (Nat × U)} {zero cs:ag},ey g zero ps=some cs->cs.length=zero.length
 | [],zero,cs,h=>by simp only[ey,bc] at h;rw[<-h]
 | (i,m) ::r,zero,cs,h=>by
  unfold ey at h;split at h
  ·rename_i j size o _ _;split at h
   ·rename_i h1;rw[Hm h,Xd F]
   ·cases h
  ·cases h
theorem Td {op:Op} {m:dy} (g:kz P op=some m) (j:m.ln=true) {q:aY->U} {l l' : ad} {v:U} (h:bT P q l m=some (v,l')) :
  ∃ cs mk,kM P q op=some (cs,mk)/\v=mk l.length/\l'=l++[.cells cs.length cs]:=by
 cases op<;>simp only[kz] at g<;>try (cases g;done)
 case alloc C=>
  rw[map_some] at g;obtain⟨zero,h1,rfl⟩:=g;simp only[bT,bc,Prod.mk.injEq] at h;obtain⟨rfl,rfl⟩:=h;exact⟨zero,_,by simp only[kM,h1];rfl,rfl,rfl⟩
 case box C x=>
  cases g;simp only[bT,map_some,Prod.mk.injEq] at h;obtain⟨cs,h1,rfl,rfl⟩:=h;exact⟨cs,_,by simp only[kM,h1];rfl,rfl,rfl⟩
 case buildSlice C n K=>
  simp only[bind_some] at g;obtain⟨e,h1,z,t,zero,u,g⟩:=g;rw[gN] at g;obtain⟨p,rfl⟩:=g;simp only[bT,map_some,Prod.mk.injEq] at h;obtain⟨cs,o,rfl,rfl⟩:=h;have w:cs.length=n*z:=by rw[Hm o,DO,p.1]
  exact⟨cs,_,by simp only[kM,h1,t,u,ak p,o];rfl,rfl,by rw[w]⟩
 case makeSlice C a c=>
  simp only[bind_some] at g;obtain⟨e,h1,z,t,I,u,zero,p,g⟩:=g;rw[gN] at g;obtain⟨o,rfl⟩:=g;simp only[bT] at h;unfold mO at h;cases D:q a<;>rw[D] at h<;>(try simp only at h)<;>try (cases h;done)
  cases F:q c<;>rw[F] at h<;>(try simp only at h)<;>try (cases h;done)
  rw[gN] at h;obtain⟨G,H⟩:=h;cases H;rename_i J B;have w:(c3 zero B.toNat).length=B.toNat*z:=by rw[DO,o]
  exact⟨c3 zero B.toNat,_,by simp only[kM,D,F,h1,asInt,t,u,p];rw[ak ⟨o,G⟩],rfl,by rw[w]⟩
 case pick=>cases g;cases j
 case move=>cases g;cases j
 case assign=>cases g;cases j
 case nilCheck=>cases g;cases j
 case binOp=>cases g;cases j
 case unOp=>cases g;cases j
 case call c=>
  exfalso;split at g
  ·unfold qy at g
   repeat' split at g
   all_goals first
    | (cases g;done)
    | (cases g;cases j;done)
    | (simp only[bind_some,map_some] at g;obtain⟨_,_,rfl⟩:=g;cases j;done)
    | (simp only[bind_some,map_some] at g;obtain⟨_,_,_,_,rfl⟩:=g;cases j;done)
    | (simp only[bind_some,gN] at g;obtain⟨_,_,_,_,_,_,_,rfl⟩:=g;cases j;done)
    | (simp only[bind_some,gN] at g;obtain⟨_,_,_,_,_,_,_,_,_,rfl⟩:=g;cases j;done)
  ·split at g
   ·rw[gN] at g;obtain⟨_,rfl⟩:=g;cases j
   ·cases g
  ·cases g
 case next it b=>exfalso;cases b<;>simp only[reduceCtorEq] at g<;>cases g<;>cases j
 case panic=>cases g;cases j
 case lookup=>exfalso;split at g<;>(try cases g;done);rw[map_some] at g;obtain⟨_,_,rfl⟩:=g;cases j
 case build=>exfalso;simp only[bind_some,map_some] at g;obtain⟨_,_,_,_,rfl⟩:=g;cases j
 case typeAssert=>exfalso;rw[map_some] at g;obtain⟨_,_,rfl⟩:=g;cases j
 case store=>exfalso;rw[map_some] at g;obtain⟨_,_,rfl⟩:=g;cases j
 case slice=>exfalso;rw[map_some] at g;obtain⟨_,_,rfl⟩:=g;cases j
 case fieldAddr=>exfalso;rw[bind_some] at g;obtain⟨_,_,g⟩:=g;split at g<;>cases g;cases j
 case field=>exfalso;rw[bind_some] at g;obtain⟨_,_,g⟩:=g;split at g<;>cases g<;>cases j
 case extract=>cases g;cases j
 case makeFunc f a b=>exfalso;cases f<;>simp only at g<;>cases g;cases j
 all_goals
  exfalso
  repeat' split at g
  all_goals first | (cases g;done) | (cases g;cases j;done)
end
section
variable {P:bq} {G:Nat->U}
theorem GH {op:Op} {m:dy} (g:kz P op=some m) (h:iq op=false) :m.looks=true\/m.ln=true:=by
 cases op<;>simp only[iq,E1] at h<;>simp only[kz] at g<;>try (cases g;done)
 case move=>cases g;exact .inl rfl
 case assign=>cases g;exact .inl rfl
 case pick=>cases g;exact .inl rfl
 case alloc=>rw[map_some] at g;obtain⟨_,_,rfl⟩:=g;exact .inr rfl
 case box=>cases g;exact .inr rfl
 case build=>simp only[bind_some,map_some] at g;obtain⟨_,_,_,_,rfl⟩:=g;exact .inl rfl
 case buildSlice=>simp only[bind_some,gN] at g;obtain⟨_,_,_,_,_,_,_,rfl⟩:=g;exact .inr rfl
 case load=>split at g<;>cases g<;>exact .inl rfl
 case nilCheck=>cases g;exact .inl rfl
 case binOp=>cases g;exact .inl rfl
 case unOp=>cases g;exact .inl rfl
 case convert=>
  repeat' split at g
  all_goals first | (cases g;done) | (cases g;exact .inl rfl)
 case makeInterface=>split at g<;>cases g;exact .inl rfl
 case makeFunc f a b=>cases f<;>simp only at g<;>cases g;exact .inl rfl
 case makeSlice=>simp only[bind_some,gN] at g;obtain⟨_,_,_,_,_,_,_,_,_,rfl⟩:=g;exact .inr rfl
 case slice=>rw[map_some] at g;obtain⟨_,_,rfl⟩:=g;exact .inl rfl
 case fieldAddr=>rw[bind_some] at g;obtain⟨_,_,g⟩:=g;split at g<;>cases g;exact .inl rfl
 case field=>rw[bind_some] at g;obtain⟨_,_,g⟩:=g;split at g<;>cases g<;>exact .inl rfl
 case indexAddr=>split at g<;>cases g<;>exact .inl rfl
 case index=>
  repeat' split at g
  all_goals first | (cases g;done) | (cases g;exact .inl rfl)
 case extract=>cases g;exact .inl rfl
 case call c=>
  split at g
  ·rename_i b j;rw[j] at h;cases b<;>simp only[E1] at h<;>unfold qy at g<;>(repeat' split at g)<;>first
    | (cases g;done)
    | (cases g;exact .inl rfl)
    | (rw[map_some] at g;obtain⟨_,_,rfl⟩:=g;exact .inl rfl)
    | (exfalso;simp only[reduceCtorEq] at *;done)
  ·rename_i f o;rw[o] at h;cases h
  ·cases g
theorem GI {op:Op} {m:dy} (g:kz P op=some m) (h:oZ P op=false) :m.reads=false/\m.ln=false:=by
 cases op<;>simp only[oZ,E1] at h<;>simp only[kz] at g<;>try (cases g;done)
 case move=>cases g;exact⟨rfl,rfl⟩
 case assign=>cases g;exact⟨rfl,rfl⟩
 case pick=>cases g;exact⟨rfl,rfl⟩
 case build=>simp only[bind_some,map_some] at g;obtain⟨_,_,_,_,rfl⟩:=g;exact⟨rfl,rfl⟩
 case store=>rw[map_some] at g;obtain⟨_,_,rfl⟩:=g;exact⟨rfl,rfl⟩
 case nilCheck=>cases g;exact⟨rfl,rfl⟩
 case binOp=>cases g;exact⟨rfl,rfl⟩
 case unOp=>cases g;exact⟨rfl,rfl⟩
 case makeInterface=>split at g<;>cases g;exact⟨rfl,rfl⟩
 case makeFunc f a b=>cases f<;>simp only at g<;>cases g;exact⟨rfl,rfl⟩
 case typeAssert=>rw[map_some] at g;obtain⟨_,_,rfl⟩:=g;exact⟨rfl,rfl⟩
 case slice=>rw[map_some] at g;obtain⟨_,_,rfl⟩:=g;exact⟨rfl,rfl⟩
 case fieldAddr=>rw[bind_some] at g;obtain⟨_,_,g⟩:=g;split at g<;>cases g;exact⟨rfl,rfl⟩
 case field=>rw[bind_some] at g;obtain⟨_,_,g⟩:=g;split at g<;>cases g<;>exact⟨rfl,rfl⟩
 case indexAddr=>split at g<;>cases g<;>exact⟨rfl,rfl⟩
 case index=>
  repeat' split at g
  all_goals first | (cases g;done) | (cases g;exact⟨rfl,rfl⟩)
 case extract=>cases g;exact⟨rfl,rfl⟩
 case next it b=>cases b<;>simp only[reduceCtorEq] at g<;>cases g;exact⟨rfl,rfl⟩
 case panic=>cases g;exact⟨rfl,rfl⟩
 case lookup=>split at g<;>(try cases g;done);rw[map_some] at g;obtain⟨_,_,rfl⟩:=g;exact⟨rfl,rfl⟩
 case mapUpdate=>split at g<;>cases g;exact⟨rfl,rfl⟩
 case insert=>split at g<;>cases g;exact⟨rfl,rfl⟩
 case makeMap=>split at g<;>cases g;exact⟨rfl,rfl⟩
 case range=>split at g<;>cases g;exact⟨rfl,rfl⟩
 case call c=>
  split at g
  ·rename_i b j;rw[j] at h;unfold qy at g
   repeat' split at g
   all_goals first
    | (cases g;done)
    | (exfalso;simp_all;done)
    | (cases g;exact⟨rfl,rfl⟩)
    | (simp only[bind_some,map_some] at g;obtain⟨_,_,rfl⟩:=g;exact⟨rfl,rfl⟩)
    | (simp only[bind_some,map_some] at g;obtain⟨_,_,_,_,rfl⟩:=g;exact⟨rfl,rfl⟩)
    | (simp only[bind_some,gN] at g;obtain⟨_,_,_,_,_,_,_,rfl⟩:=g;exact⟨rfl,rfl⟩)
    | (simp only[bind_some,gN] at g;obtain⟨_,_,_,_,_,_,_,_,_,rfl⟩:=g;exact⟨rfl,rfl⟩)
  ·split at g
   ·rw[gN] at g;obtain⟨_,rfl⟩:=g;exact⟨rfl,rfl⟩
   ·cases g
  ·cases g
inductive kq (P:bq) (G:Nat->U) (s:da) (o:bb) (sgZ:aS) (l:ad) (v:U) (l1:ad) :bF->Prop
 | pure (g:dy) (h:s.b=.fy g) (m:g.looks=true) (j:l1=l) (t:bT P (dA G sgZ) l g=some (v,l)) :kq P G s o sgZ l v l1 (.pure s.i v)
 | new (g:dy) (cs:ag) (h:s.b=.fy g) (m:g.ln=true) (j:l1=l++[.cells cs.length cs]) :kq P G s o sgZ l v l1 (.new s.i v cs)
 | fb (p:iq o.op=true) (q:l.length<=l1.length) :kq P G s o sgZ l v l1 (.fb s.i v (aZ l1))
theorem kq.idx {s:da} {o:bb} {sgZ:aS} {l l1:ad} {v:U} {t:bF} (k:kq P G s o sgZ l v l1 t) :t.idx=s.i:=by cases k<;>rfl
theorem kq.val {s:da} {o:bb} {sgZ:aS} {l l1:ad} {v:U} {t:bF} (k:kq P G s o sgZ l v l1 t) :t.val=v:=by cases k<;>rfl
theorem kq.next {s:da} {o:bb} {sgZ:aS} {l l1:ad} {v:U} {t:bF} (k:kq P G s o sgZ l v l1 t) :mP (aZ l) t=aZ l1:=by
 cases k with
 | pure m h j g q=>rw[g];rfl
 | new m cs h j g=>rw[g,<-lN];rfl
 | fb p _=>rfl
theorem Xp {ops:Array bb} {s:da} {o:bb} (g:mx P ops s o) {sgZ:aS} (D:iJ ops sgZ o=some true) {l:ad} {K:U->ad->Prop} (h:gI P G s.b sgZ l K) :
  ∃ v l1 t,kq P G s o sgZ l v l1 t/\tg P G ops ⟨sgZ,aZ l⟩ t/\K v l1:=by
 obtain⟨v,l1,h1,F,z,J⟩:=Lq g h;have u:iq o.op=true->∃ v l1 t,kq P G s o sgZ l v l1 t/\tg P G ops ⟨sgZ,aZ l⟩ t/\K v l1:=fun p=>⟨v,l1,_,.fb p F,⟨o,g.here,D,h1,by simpa using F⟩,z⟩
 cases j:s.b with
 | fy w=>
  have B:=g.fy w j;cases p:iq o.op with
  | true=>exact u p
  | false=>
   have C:=J w j (GH B p);rcases GH B p with H | I
   ·have:=Sv H C;subst this;exact⟨v,l1,_,.pure w j H rfl C,⟨o,g.here,D⟩,z⟩
   ·obtain⟨cs,mk,O,Q,R⟩:=Td B I C;exact⟨v,l1,_,.new w cs j I R,⟨o,mk,g.here,D,O,Q⟩,z⟩
 | lc f args=>
  obtain⟨c,q,m,_⟩:=g.lc f args j;exact u (by rw[q];simp only[iq,m])
 | lT x args=>
  obtain⟨c,q,m,_⟩:=g.lT x args j;exact u (by rw[q];simp only[iq,m])
 | nn x name args=>
  obtain⟨c,q,m,_⟩:=g.nn x name args j;exact u (by rw[q];simp only[iq,m])
inductive jb (P:bq) (G:Nat->U) (ops:Array bb) :List da->aS->ad->il->List (bF × aS × ad)->aS->ad->Prop
 | nil {g l seen}:jb P G ops [] g l seen [] g l
 | skip {s m r g l seen h o j}:mx P ops s m->iJ ops g m=some false->jb P G ops r (gF g s.dst fC) l seen h o j->jb P G ops (s::r) g l seen ((.skip s.i,g,l) ::h) o j
 | step {s m r g l t p q seen h o j}:mx P ops s m->kq P G s m g l t p q->tg P G ops ⟨g,aZ l⟩ q->pm s.qu seen p->
   jb P G ops r (gF g s.dst t) p (pR s.bm s.i (kX P G s.b g t l p) seen) h o j->jb P G ops (s::r) g l seen ((q,g,l) ::h) o j
theorem DX {ops:Array bb} {K:aS->ad->Prop}:∀ {s:List da} {sgZ:aS} {l:ad} {seen:il},(∀ x∈s,∃ o,mx P ops x o)->jI P G s sgZ l seen K->∃ es g l',jb P G ops s sgZ l seen es g l'/\K g l'
 | [],sgZ,l,seen,_,h=>⟨[],sgZ,l,.nil,h⟩
 | s::r,sgZ,l,seen,q,h=>by
  obtain⟨o,j⟩:=q s V;rcases Im j h with ⟨t,h⟩ | ⟨t,h⟩
  ·obtain⟨D,B,C,h1,v,w,z⟩:=Xp j t h;obtain⟨es,g,l',m,p⟩:=DX (fun x u=>q x (by simp[u])) z;exact⟨_,g,l',.step j h1 v w m,p⟩
  ·obtain⟨es,g,l',m,p⟩:=DX (fun x u=>q x (by simp[u])) h;exact⟨_,g,l',.skip j t m,p⟩
theorem DY {K:aS->ad->Prop}:∀ {s:List da} {sgZ:aS} {l:ad},(∀ x∈s,x.bm=false)->iE P G s sgZ l K->jI P G s sgZ l [] K
 | [],sgZ,l,_,h=>h
 | s::r,sgZ,l,hk,h=>by
  have mono:∀ (b:rB) (K h3:U->ad->Prop),(∀ o l,K o l->h3 o l)->gI P G b sgZ l K->gI P G b sgZ l h3:=by
   intro b K h3 p h;cases b with
   | fy I=>simp only[gI,xY] at h ⊢;obtain⟨o,h1,g⟩:=h;exact⟨o,h1,Ip p g⟩
   | lc f args=>obtain⟨r,j,h1,g,m⟩:=h;exact⟨r,j,h1,g,p _ _ m⟩
   | lT x args=>
    simp only[gI,vE] at h ⊢;split at h
    ·obtain⟨u,r,j,h1,g,m⟩:=h;exact⟨u,r,j,h1,g,p _ _ m⟩
    ·cases h
   | nn x name args=>
    simp only[gI,ye] at h ⊢;split at h
    ·split at h
     ·obtain⟨u,r,j,h1,g,m⟩:=h;exact⟨u,r,j,h1,g,p _ _ m⟩
     ·cases h
    ·cases h
  have F:∀ (t:Option (Option Tmp × Bool)) (B q C kQ:Prop),(B->C)->(q->kQ)->oH sgZ t B q->oH sgZ t C kQ:=by
   intro t B q C kQ D v h;unfold oH at h ⊢;split at h
   ·exact D h
   ·rename_i d w;simp only[pB] at h ⊢;split at h
    ·rw[wo] at h ⊢;rcases h with ⟨a,b⟩ | ⟨a,b⟩
     ·exact .inl ⟨a,D b⟩
     ·exact .inr ⟨a,v b⟩
    ·cases h
    ·exact v h
   ·exact v h
  have H:s.bm=false:=hk s V;refine F _ _ _ _ _ (mono _ _ _ fun o j h=>?_) (fun h=>DY (fun x z=>hk x (by simp[z])) h) h;refine⟨trivial,?_⟩;rw[H];exact DY (fun x z=>hk x (by simp[z])) h
theorem kq.len {s:da} {o:bb} {sgZ:aS} {l l1:ad} {v:U} {t:bF} (k:kq P G s o sgZ l v l1 t) :l.length<=l1.length:=by
 cases k with
 | pure p h m g u=>rw[g];exact aN _
 | new p cs h m g=>rw[g];simp
 | fb q j=>exact j
theorem jb.len {ops:Array bb} {s:List da} {sgZ j:aS} {l l' : ad} {seen:il} {es:List (bF × aS × ad)} (h:jb P G ops s sgZ l seen es j l') :l.length<=l'.length:=by
 induction h with
 | nil=>exact aN _
 | skip _ _ _ g=>exact g
 | step _ k _ _ _ g=>exact dC k.len g
def qF (es:List (bF × aS × ad)) (l' : ad) (q:Nat) :ad:=match es[q]? with | some x=>x.2.2 | none=>l'
theorem jb.idx {ops:Array bb} {s:List da} {sgZ j:aS} {l l' : ad} {seen:il} {es:List (bF × aS × ad)} (h:jb P G ops s sgZ l seen es j l') :es.map (fun e=>e.1.idx)=s.map (·.i):=by
 induction h with
 | nil=>rfl
 | skip _ _ _ g=>simp only[di,g];rfl
 | step _ k _ _ _ g=>simp only[di,g,k.idx]
theorem jb.at {ops:Array bb} {s:List da} {sgZ q:aS} {l l' : ad} {seen:il} {es:List (bF × aS × ad)} (h:jb P G ops s sgZ l seen es q l') :
  (∀ (p:Nat) (e:bF × aS × ad),es[p]?=some e->tg P G ops ⟨e.2.1,aZ e.2.2⟩ e.1/\fk ops ⟨sgZ,aZ l⟩ (es.map (·.1)) p=⟨e.2.1,aZ e.2.2⟩)/\fk ops ⟨sgZ,aZ l⟩ (es.map (·.1)) es.length=⟨q,aZ l'⟩:=by
 induction h with
 | nil=>exact⟨fun p e g=>by simp at g,rfl⟩
 | @skip s u r sgZ l seen es q l' j w _ o=>
  have m:jC ops ⟨sgZ,aZ l⟩ (.skip s.i)=⟨gF sgZ s.dst fC,aZ l⟩:=by simp only[jC,rT,bF.idx,j.here,qc,bF.val,mP,j.dst]
  refine⟨fun p e g=>?_,?_⟩
  ·cases p with
   | zero=>simp only[hn,bc] at g;subst g;exact⟨⟨u,j.here,w⟩,rfl⟩
   | succ p=>
    simp only[jr] at g;obtain⟨h1,t⟩:=o.1 p e g;refine⟨h1,?_⟩;rw[di,Ae,m];exact t
  ·rw[di,dN,Ae,m];exact o.2
 | @step s u r sgZ l C z B seen es q l' j k v D _ o=>
  have m:jC ops ⟨sgZ,aZ l⟩ B=⟨gF sgZ s.dst C,aZ z⟩:=by simp only[jC,rT,k.idx,j.here,qc,k.val,k.next,j.dst]
  refine⟨fun p e g=>?_,?_⟩
  ·cases p with
   | zero=>simp only[hn,bc] at g;subst g;exact⟨v,rfl⟩
   | succ p=>
    simp only[jr] at g;obtain⟨h1,t⟩:=o.1 p e g;refine⟨h1,?_⟩;rw[di,Ae,m];exact t
  ·rw[di,dN,Ae,m];exact o.2
theorem jb.still {ops:Array bb} {s:List da} {sgZ H:aS} {l l' : ad} {seen:il} {es:List (bF × aS × ad)} (h:jb P G ops s sgZ l seen es H l') (j:Nat) (S:ad->Prop)
  (K:∀ l x,S l->S (l++x)) (m:S l) :∀ q,q<=es.length->(∀ (p:Nat) (e:bF × aS × ad),p<q->es[p]?=some e->e.1.hy=true->(j,S)∈seen/\∃ x,s[p]?=some x/\j∈x.qu)->S (qF es l' q):=by
 have I:∀ {D:List Nat} {seen:il} {l:ad},pm D seen l->(j,S)∈seen->j∈D->S l:=by
  intro D seen l B hm O
  induction seen with
  | nil=>cases hm
  | cons e r u=>
   obtain⟨h1,g⟩:=B;rcases kn.1 hm with rfl | hm
   ·exact h1 (by simpa using O)
   ·exact u g hm
 induction h with
 | nil=>
  intro q t _;simp only[hq] at t;obtain rfl:q=0:=F;exact m
 | @skip s T r sgZ l seen es H l' U W _ u=>
  intro q t v;cases q with
  | zero=>exact m
  | succ q=>exact u m q (by simpa using t) (fun p e Q w z=>by
    obtain⟨h1,x,g,o⟩:=v (p+1) e F (by simpa using w) z;exact⟨h1,x,by simpa using g,o⟩)
 | @step s T r sgZ l Y l1 X seen es H l' U k V B _ u=>
  intro q t v;cases q with
  | zero=>exact m
  | succ q=>
   have h1:S l1:=by
    cases k with
    | pure R J hm C _=>rw[C];exact m
    | new R cs J hm C=>rw[C];exact K _ _ m
    | fb w _=>
     obtain⟨h1,x,g,o⟩:=v 0 _ F rfl rfl;simp only[hn,bc] at g;subst g;exact I B h1 o
   refine u h1 q (by simpa using t) (fun p e Q w z=>?_);obtain⟨h1,x,g,o⟩:=v (p+1) e F (by simpa using w) z;refine⟨?_,x,by simpa using g,o⟩;unfold pR;cases s.bm with
   | false=>exact h1
   | true=>exact AX _ h1
theorem jb.split {ops:Array bb} {s:List da} {sgZ q:aS} {l l' : ad} {seen:il} {es:List (bF × aS × ad)} (h:jb P G ops s sgZ l seen es q l') :∀ (p:Nat) (e:bF × aS × ad),es[p]?=some e->e.1.pz=false->
  ∃ x o v l1 j,s[p]?=some x/\mx P ops x o/\kq P G x o e.2.1 e.2.2 v l1 e.1 ∧
   jb P G ops (s.drop (p+1)) (gF e.2.1 x.dst v) l1 (pR x.bm x.i (kX P G x.b e.2.1 v e.2.2 l1) j) (es.drop (p+1)) q l':=by
 induction h with
 | nil=>intro p e g;simp at g
 | @skip s o r sgZ l seen es q l' C H _ z=>
  intro p e g m;cases p with
  | zero=>simp only[hn,bc] at g;subst g;cases m
  | succ p=>
   obtain⟨x,B,v,l1,j,h1,t,u,w⟩:=z p e (by simpa using g) m;exact⟨x,B,v,l1,j,by simpa using h1,t,u,by simpa using w⟩
 | @step s o r sgZ l v l1 I seen es q l' C k F D tr z=>
  intro p e g m;cases p with
  | zero=>
   simp only[hn,bc] at g;subst g;exact⟨s,o,v,l1,seen,rfl,C,k,by simpa using tr⟩
  | succ p=>
   obtain⟨x,B,v,l1,j,h1,t,u,w⟩:=z p e (by simpa using g) m;exact⟨x,B,v,l1,j,by simpa using h1,t,u,by simpa using w⟩
end
section
variable {P:bq} {G:Nat->U}
theorem JA {q:List Nat} {ops:Array bb}:∀ (g done j:List Nat),(∀ i∈g,i<ops.size)->(lx P q ops g done j).map (·.1)=g
 | [],_,_,_=>rfl
 | i::r,done,j,h=>by
  unfold lx;have m:i<ops.size:=h i V;rw[rl m];simp only;split<;>simp only[di]<;>rw[JA r _ _ fun p o=>h p (by simp[o])]
theorem Dr {S:List Nat} {ops:Array bb}:∀ (I done C:List Nat) (p i:Nat) (v:List Nat),(∀ i∈I,i<ops.size)->(lx P S ops I done C)[p]?=some (i,v)->
  (∃ o,ops[i]?=some o/\iq o.op=true)->∀ j,(j∈done\/∃ q,q<p/\I[q]?=some j)->(∃ o,ops[j]?=some o/\oZ P o.op=true)->(∀ e∈C,mc S e j=false)->
  (∀ (u t:Nat) (o:bb),u<=p->I[u]?=some t->ops[t]?=some o->iq o.op=true->(u=p\/o.guard=none)->mc S t j=false)->j∈v
 | [],done,C,p,i,v,_,h,_,_,_,_,_,_=>by simp[lx] at h
 | x::r,done,C,p,i,v,T,h,B,j,g,R,G,H=>by
  unfold lx at h;have X:x<ops.size:=T x V;rw[rl X] at h;have Q:ops[x]?=some ops[x]:=rl X;simp only at h;have W:∀ i∈r,i<ops.size:=fun j g=>T j (by simp[g])
  cases z:iq ops[x].op with
  | true=>
   rw[z] at h;simp only at h;cases p with
   | zero=>
    simp only[hn,bc,Prod.mk.injEq] at h;obtain⟨rfl,rfl⟩:=h;obtain⟨o,h1,D⟩:=R;rcases g with g | ⟨q,U,_⟩
    ·refine dx.2 ⟨g,?_⟩;simp only[h1,D,lF,E4,bU,gc];exact⟨by simp[H 0 x ops[x] (aN _) V Q z (.inl rfl)],fun e B=>by simp[G e B]⟩
    ·omega
   | succ p=>
    simp only[jr] at h;refine Dr r _ _ p i v W h B j ?_ R ?_ ?_
    ·rcases g with g | ⟨q,U,g⟩
     ·exact .inl (by simp[g])
     ·cases q with
      | zero=>simp only[hn,bc] at g;exact .inl (by simp[g])
      | succ q=>exact .inr ⟨q,F,by simpa using g⟩
    ·intro e w;cases m:ops[x].guard with
     | none=>
      rw[m] at w;rcases kn.1 w with rfl | w
      ·exact H 0 e ops[e] F V Q z (.inr m)
      ·exact G e w
     | some ad=>rw[m] at w;exact G e w
    ·intro u t o Y K O J m;exact H (u+1) t o F (by simpa using K) O J (by rcases m with rfl | m;exact .inl rfl;exact .inr m)
  | false=>
   rw[z] at h;simp only at h;cases p with
   | zero=>
    simp only[hn,bc,Prod.mk.injEq] at h;obtain⟨rfl,rfl⟩:=h;obtain⟨o,h1,D⟩:=B;rw[Q] at h1;cases h1;rw[z] at D;cases D
   | succ p=>
    simp only[jr] at h;refine Dr r _ _ p i v W h B j ?_ R G ?_
    ·rcases g with g | ⟨q,U,g⟩
     ·exact .inl (by simp[g])
     ·cases q with
      | zero=>simp only[hn,bc] at g;exact .inl (by simp[g])
      | succ q=>exact .inr ⟨q,F,by simpa using g⟩
    ·intro u t o Y K O J m;exact H (u+1) t o F (by simpa using K) O J (by rcases m with rfl | m;exact .inl rfl;exact .inr m)
theorem G9 {w:List Nat} {ops:Array bb}:∀ {t:List Nat},vS w ops t=true->∀ (p g i j:Nat) (o:bb),t[p]?=some i->t[g]?=some j->p<g->ops[i]?=some o->iq o.op=true->mc w j i=true
 | [],_,p,g,i,j,o,m,_,_,_,_=>by simp at m
 | x::r,h,p,g,i,j,o,m,q,z,v,u=>by
  simp only[vS,bU] at h;cases g with
  | zero=>omega
  | succ g=>
   simp only[jr] at q;cases p with
   | zero=>
    simp only[hn,bc] at m;subst m;rw[v] at h;simp only[u,u0,AK,gc] at h;exact h.1 j (cJ q)
   | succ p=>exact G9 h.2 p g i j o (by simpa using m) q F v u
theorem y5 {alZ j:Type} {f:alZ->Option j}:∀ {l:List alZ} {r:List j},l.mapM f=some r->∀ (p:Nat) (x:j),r[p]?=some x->∃ a,l[p]?=some a/\f a=some x
 | [],r,h,p,x,g=>by simp at h;subst h;simp at g
 | a::l,r,h,p,x,g=>by
  rw[o5] at h;simp only[Option.bind_eq_bind,bind_some,tc,bc] at h;obtain⟨b,h1,u,o,rfl⟩:=h;cases p with
  | zero=>simp only[hn,bc] at g;subst g;exact⟨a,rfl,h1⟩
  | succ p=>obtain⟨m,q,t⟩:=y5 o p x (by simpa using g);exact⟨m,by simpa using q,t⟩
theorem CQ {alZ g:Type} {f:alZ->Option g}:∀ {l:List alZ} {r:List g},l.mapM f=some r->r.length=l.length
 | [],r,h=>by simp at h;subst h;rfl
 | a::l,r,h=>by
  rw[o5] at h;simp only[Option.bind_eq_bind,bind_some,tc,bc] at h;obtain⟨b,h1,m,j,rfl⟩:=h;simp[CQ j]
theorem Rq (es:List (bF × aS × ad)) (l' : ad) (n q:Nat) :qF (es.drop n) l' q=qF es l' (n+q):=by unfold qF;rw[gy]
theorem P4 {id N' : Nat} {ops:Array bb} {ah:List da} (bs:∀ (i:Nat) (o:bb),ops[i]?=some o->hO N' o.dst=true)
  (a7:Dg (gZ ops) ops (eC (gZ ops) ops)=true) (bt:vS (gZ ops) ops (eC (gZ ops) ops)=true)
  (Q:(lx P (gZ ops) ops (eC (gZ ops) ops) [] []).mapM (fun p=>uK P ops p.1 p.2 (((lx P (gZ ops) ops (eC (gZ ops) ops) [] []).flatMap (·.2)).contains p.1))=some ah)
  {sgZ bl:aS} {l l' : ad} {es:List (bF × aS × ad)} (tr:jb P G ops ah sgZ l [] es bl l') :c8 P G (.code (.region id ops true) N' sgZ (aZ l) .normal bl (aZ l')):=by
 simp only[Dg,bU] at a7;obtain⟨⟨⟨⟨bM,aI⟩,bh⟩,bi⟩,bj⟩:=a7;have aQ:∀ i∈eC (gZ ops) ops,i<ops.size:=fun i aP=>by
  rw[gc] at bi;simpa [A5] using bi i aP
 have a8:(lx P (gZ ops) ops (eC (gZ ops) ops) [] []).map (·.1)=eC (gZ ops) ops:=JA _ _ _ aQ;have aF:∀ (p:Nat) (x:da),ah[p]?=some x->∃ o,mx P ops x o/\(lx P (gZ ops) ops (eC (gZ ops) ops) [] [])[p]?=some (x.i,x.qu) ∧
   x.bm=((lx P (gZ ops) ops (eC (gZ ops) ops) [] []).flatMap (·.2)).contains x.i:=fun p x R=>by
  obtain⟨a,h1,w⟩:=y5 Q p x R;obtain⟨o,K,aq,aA,aL⟩:=xj w;exact⟨o,K,by rw[h1,aq,aA],by rw[aL,aq]⟩
 have bd:∀ (p:Nat) (x:da),ah[p]?=some x->(eC (gZ ops) ops)[p]?=some x.i:=fun p x R=>by
  obtain⟨o,_,h1,_⟩:=aF p x R;rw[<-a8,b1,h1];rfl
 have a3:∀ (p:Nat) (e:bF × aS × ad),es[p]?=some e->∃ x,ah[p]?=some x/\x.i=e.1.idx:=fun p e v=>by
  have:=ci (·[p]?) tr.idx;simp only[b1,v,cz] at this;cases R:ah[p]? with
  | none=>rw[R] at this;cases this
  | some x=>rw[R] at this;simp only[cz,bc] at this;exact⟨x,rfl,this.symm⟩
 have ag:∀ (p:Nat) (e:bF × aS × ad),es[p]?=some e->(eC (gZ ops) ops)[p]?=some e.1.idx:=fun p e v=>by
  obtain⟨x,h1,w⟩:=a3 p e v;rw[bd p x h1,w]
 have O:∀ (p:Nat) (t:bF),(es.map (·.1))[p]?=some t->∃ e,es[p]?=some e/\e.1=t:=fun p t X=>by simpa using X
 have aY:∀ (p:Nat) (e:bF × aS × ad),es[p]?=some e->e.1.hy=true->∃ o,ops[e.1.idx]?=some o/\iq o.op=true/\(iJ ops e.2.1 o=some true):=fun p e v I=>by
  have aw:e.1.pz=false:=by cases h:e.1<;>rw[h] at I<;>first | rfl | cases I
  obtain⟨x,o,V,S,bk,h1,w,K,aq⟩:=tr.split p e v aw;have am:=(tr.at.1 p e v).1;have bA:=K.idx;have ak:=w.here;rw[<-bA] at ak;refine⟨o,ak,?_,?_⟩
  ·revert I;generalize e.1=t at K;intro I;cases K with
   | pure=>cases I
   | new=>cases I
   | fb v _=>exact v
  ·revert am I ak;generalize e.1=t;intro I am ak;cases t<;>first | (cases I;done) | skip
   obtain⟨Y,aA,aL,_⟩:=am;simp only[bF.idx] at ak;rw[ak] at aA;cases aA;exact aL
 have bO:tf ops (mc (gZ ops)) (es.map (·.1)):=by
  refine⟨P2 bM,fun i aP=>?_,fun p m t ay C al v=>?_,fun p t C=>?_,fun p m t ay C al au=>?_,fun p m t ay C al au I=>?_⟩
  ·rw[gc] at bj;have:=bj i (by simpa using aP);have j:i∈eC (gZ ops) ops:=by simpa using this
   have ai:(es.map (·.1)).map bF.idx=eC (gZ ops) ops:=by
    rw[iL];show es.map (fun e=>e.1.idx)=_;rw[tr.idx,<-a8];apply g3;intro p;rw[b1,b1];cases R:ah[p]? with
    | none=>
     have:(lx P (gZ ops) ops (eC (gZ ops) ops) [] [])[p]?=none:=by
      rw[E7] at R ⊢;rw[<-CQ Q];exact R
     rw[this];rfl
    | some x=>obtain⟨o,_,h1,_⟩:=aF p x R;rw[h1];rfl
   rw[<-ai] at j;obtain⟨t,h1,w⟩:=cC.1 j;obtain⟨p,C⟩:=xJ h1;exact⟨p,t,C,w⟩
  ·obtain⟨e,z,u⟩:=O p t C;obtain⟨H,ao,ap⟩:=O m ay al;have D:=ag p e z;have W:=ag m H ao;rw[u] at D;rw[ap] at W;rcases o8 p m with h | h | h
   ·exact bW v (zs aI p m _ _ D W h).1
   ·exact h
   ·exact bW v.symm (zs aI m p _ _ W D h).1
  ·obtain⟨e,z,u⟩:=O p t C;have D:=ag p e z;rw[u] at D;exact aQ _ (cJ D)
  ·obtain⟨e,z,u⟩:=O p t C;obtain⟨H,ao,ap⟩:=O m ay al;have D:=ag p e z;have W:=ag m H ao;rw[u] at D;rw[ap] at W;exact (zs aI p m _ _ D W au).2
  ·obtain⟨e,z,u⟩:=O p t C;obtain⟨H,ao,ap⟩:=O m ay al;obtain⟨o,aV,bn,_⟩:=aY p e z (by rw[u];exact I);have D:=ag p e z;have W:=ag m H ao;rw[u] at D aV;rw[ap] at W;exact G9 bt p m _ _ o D W au aV bn
 have bw:∀ q,q<=es.length->(fk ops ⟨sgZ,aZ l⟩ (es.map (·.1)) q).h=aZ (qF es l' q):=fun q aD=>by
  unfold qF;cases v:es[q]? with
  | none=>
   have:q=es.length:=by rw[E7] at v;omega
   rw[this,tr.at.2]
  | some e=>rw[(tr.at.1 q e v).2]
 have bP:Bh P G ops (mc (gZ ops)) ⟨sgZ,aZ l⟩ (es.map (·.1)):=by
  refine⟨fun p t C=>?_,fun q aD p t bX C bD=>?_⟩
  ·obtain⟨e,z,u⟩:=O p t C;obtain⟨aW,aJ⟩:=tr.at.1 p e z;rw[aJ,<-u];exact aW
  ·obtain⟨e,z,u⟩:=O p t C;obtain⟨aW,aJ⟩:=tr.at.1 p e z;have bG:q<=es.length:=by
    rcases aD with rfl | ⟨bR,aD,_⟩
    ·simp
    ·obtain⟨eq,bo,_⟩:=O q bR aD;exact kp (aK.1 bo).1
   rw[bw q bG,aJ];cases aw:e.1.pz with
   | true=>rw[<-u];cases h:e.1<;>rw[h] at aw<;>first | trivial | cases aw
   | false=>
    obtain⟨x,o,V,S,bk,h1,w,K,aq⟩:=tr.split p e z aw;obtain⟨Y,bq,bV,bB⟩:=aF p x h1;have bE:Y=o:=by have a:=bq.here;have b:=w.here;rw[a] at b;exact cd b
    subst bE;have ask:oZ P Y.op=true->∀ (m:Nat) (H:bF × aS × ad),m<q - (p+1)->(es.drop (p+1))[m]?=some H->H.1.hy=true->
      (x.i,kX P G x.b e.2.1 V e.2.2 S)∈pR x.bm x.i (kX P G x.b e.2.1 V e.2.2 S) bk/\∃ y,(ah.drop (p+1))[m]?=some y/\x.i∈y.qu:=by
     intro X m H al aj aM;rw[gy] at aj;obtain⟨y,bf,bI⟩:=a3 _ H aj;obtain⟨b2,bY,bg,_⟩:=aF _ y bf;obtain⟨bN,bJ,bL,bZ⟩:=aY _ H aj aM;have a4:x.i∈y.qu:=by
      refine Dr _ _ _ _ _ _ aQ bg ⟨bN,by rw[bI];exact bJ,bL⟩ x.i (.inr ⟨p,F,bd p x h1⟩) ⟨Y,w.here,X⟩ (fun e v=>by cases v) ?_;intro U bH aH bS bx a5 aB aO
      -- what is at p'' was carried out
      have au:U<es.length:=by
       have:=(aK.1 aj).1;omega
      have ai:es[U]?=some es[U]:=bK au;have a2:=ag _ _ ai;rw[bx] at a2;have ar:bH=es[U].1.idx:=cd a2;have br:es[U].1.hy=true:=by
       cases av:es[U].1.pz with
       | true=>
        exfalso;rcases aO with rfl | aO
        ·rw[ai] at aj;cases aj;cases h:es[p+1+m].1<;>rw[h] at aM av<;>first | (cases av;done) | (cases aM;done)
        ·have am:=(tr.at.1 _ _ ai).1;cases h:es[U].1<;>rw[h] at av am ar<;>first | (cases av;done) | skip
         obtain⟨bh,aR,ax⟩:=am;simp only[bF.idx] at ar;rw[<-ar,a5] at aR;cases aR;simp[iJ,aO] at ax
       | false=>
        obtain⟨b5,bh,b4,b0,b3,aR,ax,aG,_⟩:=tr.split _ _ ai av;have bz:=aG.idx;have a0:=ax.here;rw[<-bz,<-ar,a5] at a0;cases a0;revert aG;generalize es[U].1=t3;intro aG;cases aG with
        | pure J B j _ _=>
         exfalso;have g:=ax.fy J B;have:iq aH.op=false:=by
          revert g j;cases aH.op<;>simp only[kz]<;>intro j g<;>first | rfl | (exfalso;revert g j;done) | skip
          case store=>rw[map_some] at g;obtain⟨_,_,rfl⟩:=g;cases j
          case call c=>
           split at g
           ·rename_i b B;unfold iq;simp only[B];unfold qy at g
            repeat' split at g
            all_goals first
             | rfl
             | (cases g;done)
             | (cases g;cases j;done)
             | (simp only[bind_some,map_some] at g;obtain⟨_,_,rfl⟩:=g;cases j;done)
             | (simp only[bind_some,map_some] at g;obtain⟨_,_,_,_,rfl⟩:=g;cases j;done)
             | (simp only[bind_some,gN] at g;obtain⟨_,_,_,_,_,_,_,rfl⟩:=g;cases j;done)
             | (simp only[bind_some,gN] at g;obtain⟨_,_,_,_,_,_,_,_,_,rfl⟩:=g;cases j;done)
           ·split at g
            ·rw[gN] at g;obtain⟨_,rfl⟩:=g;cases j
            ·cases g
           ·cases g
          case next it b=>(cases b<;>simp only[reduceCtorEq] at g<;>cases g<;>cases j)
          case lookup=>split at g<;>(try cases g;done);rw[map_some] at g;obtain⟨_,_,rfl⟩:=g;cases j
          case mapUpdate=>split at g<;>cases g;cases j
          case insert=>split at g<;>cases g;cases j
          case panic=>(cases g;cases j)
          case makeMap=>split at g<;>cases g;cases j
          case range=>split at g<;>cases g;cases j
          case typeAssert=>rw[map_some] at g;obtain⟨_,_,rfl⟩:=g;cases j
          all_goals (cases g)
         rw[this] at aB;cases aB
        | new J cs B j _=>
         exfalso;have g:=ax.fy J B;have:iq aH.op=false:=by
          revert g j;cases aH.op<;>simp only[kz]<;>intro j g<;>first | rfl | (exfalso;revert g j;done) | skip
          case store=>rw[map_some] at g;obtain⟨_,_,rfl⟩:=g;cases j
          case panic=>(cases g;cases j)
          case call c=>
           split at g
           ·rename_i b B;unfold iq;simp only[B];unfold qy at g
            repeat' split at g
            all_goals first
             | rfl
             | (cases g;done)
             | (cases g;cases j;done)
             | (simp only[bind_some,map_some] at g;obtain⟨_,_,rfl⟩:=g;cases j;done)
             | (simp only[bind_some,map_some] at g;obtain⟨_,_,_,_,rfl⟩:=g;cases j;done)
             | (simp only[bind_some,gN] at g;obtain⟨_,_,_,_,_,_,_,rfl⟩:=g;cases j;done)
             | (simp only[bind_some,gN] at g;obtain⟨_,_,_,_,_,_,_,_,_,rfl⟩:=g;cases j;done)
           ·split at g
            ·rw[gN] at g;obtain⟨_,rfl⟩:=g;cases j
            ·cases g
           ·cases g
          case next it b=>(cases b<;>simp only[reduceCtorEq] at g<;>cases g<;>cases j)
          case lookup=>split at g<;>(try cases g;done);rw[map_some] at g;obtain⟨_,_,rfl⟩:=g;cases j
          case mapUpdate=>split at g<;>cases g;cases j
          case insert=>split at g<;>cases g;cases j
          case makeMap=>split at g<;>cases g;cases j
          case range=>split at g<;>cases g;cases j
          case typeAssert=>rw[map_some] at g;obtain⟨_,_,rfl⟩:=g;cases j
          all_goals (cases g)
         rw[this] at aB;cases aB
        | fb _ _=>rfl
      have:=bD U es[U].1 F (by simp[ai]) br;rw[ar,w.here |> fun _=>(K.idx).symm,u];exact this
     refine⟨?_,y,by rw[gy];exact bf,a4⟩;have:x.bm=true:=by
      rw[bB];simp only[List.contains_iff_mem,Ff];exact⟨(y.i,y.qu),cJ bg,a4⟩
     rw[this];exact Fc
    have az:oZ P Y.op=true->(∀ l aT,kX P G x.b e.2.1 V e.2.2 S l->kX P G x.b e.2.1 V e.2.2 S (l++aT))->kX P G x.b e.2.1 V e.2.2 S S->kX P G x.b e.2.1 V e.2.2 S (qF es l' q):=by
     intro X bv bp;have:=aq.still x.i _ bv bp (q - (p+1)) (by simp only[i2];omega) (ask X)
     rwa [Rq,show p+1+(q - (p+1))=q by omega] at this
    rw[<-u];revert K az ask u;generalize e.1=t1;intro u K ask az;cases K with
    | fb=>trivial
    | pure J B j aC a9=>
     intro aI a6;rw[w.here] at a6;cases a6;have g:=w.fy J B;cases aE:J.reads with
     | false=>exact zb g (Su j aE a9)
     | true=>
      have X:oZ P Y.op=true:=by
       cases h:oZ P Y.op with
       | true=>rfl
       | false=>rw[(GI g h).1] at aE;cases aE
      have bC:J.ln=false:=by cases J<;>first | rfl | cases aE
      have Q:∀ T,kX P G x.b e.2.1 V e.2.2 S T<->bT P (dA G e.2.1) T J=some (V,T):=fun T=>by rw[B];simp only[kX,bC]
      have:=az X (fun T aT h=>by rw[Q] at h ⊢;exact St j h) (by rw[Q,aC];exact a9);rw[Q] at this;exact zb g this
    | new J cs B j aC=>
     have g:=w.fy J B;have X:oZ P Y.op=true:=by
      cases h:oZ P Y.op with
      | true=>rfl
      | false=>rw[(GI g h).2] at j;cases j
     have Q:∀ T:ad,kX P G x.b e.2.1 V e.2.2 S T<->T[e.2.2.length]?=some (.cells cs.length cs):=fun T=>by
      rw[B,aC];simp only[kX,j];rw[eu (aN _)];simp
     have:=az X (fun T aT h=>by rw[Q] at h ⊢;rw[aU (aX h)];exact h) (by rw[Q,aC,eu (aN _)];simp);rw[Q] at this;show (aZ (qF es l' q)).f (aZ e.2.2).n=_;rw[jT,Bd,this]
 have:=c8.P1 (id:=id) bO bs bP;rw[cg,tr.at.2] at this;exact this
end
section
variable {P:bq} {G:Nat->U}
theorem Bo {ops:Array bb} {f:Nat->Option da}:∀ {is:List Nat} {s:List da} {os:List bb},(∀ i x,f i=some x->∃ o,mx P ops x o/\x.i=i)->is.mapM f=some s->is.map (fun i=>ops[i]?)=os.map some->k6 P ops s os
 | [],s,os,j,h,g=>by
  simp at h;subst h;cases os with
  | nil=>exact .nil
  | cons=>simp at g
 | i::is,s,os,j,h,g=>by
  rw[o5] at h;simp only[Option.bind_eq_bind,bind_some,tc,bc] at h;obtain⟨x,h1,u,p,rfl⟩:=h;cases os with
  | nil=>simp at g
  | cons o os=>
   simp only[di,List.cons.injEq] at g;obtain⟨t,m,q⟩:=j i x h1;have:t=o:=by have:=m.here;rw[q,g.1] at this;exact (cd this).symm
   subst this;exact .cons m (Bo j p g.2)
theorem Pt {N N' id:Nat} (F:N<=N') {ops:Array bb} {draw:Bool} {c:fF} (g:BI P N ops draw=some c) {sgZ:aS} {l:ad} {K:fG} (h:run P G c sgZ l K) :
  ∃ e m l',c8 P G (.code (.region id ops draw) N' sgZ (aZ l) e m (aZ l'))/\l.length<=l'.length/\K e m l':=by
 unfold BI at g;split at g
 ·cases g
 ·rename_i C;have B:∀ (i:Nat) (o:bb),ops[i]?=some o->hO N' o.dst=true:=fun i o J=>by
   rw[gc] at C;have:=C o (by simpa using xD J);unfold hO at this ⊢;split at this
   ·rename_i d _;exact ca (nb (iM this) F)
   ·rfl
  split at g
  ·rw[map_some] at g;obtain⟨s,h1,rfl⟩:=g;have H:k6 P ops s ops.toList:=by
    refine Bo (fun i x t=>?_) h1 ?_
    ·obtain⟨o,j,p,_⟩:=xj t;exact⟨o,j,p⟩
    ·apply g3;intro u;rw[b1,b1];by_cases q:u<ops.size
     ·rw[ho q];simp[q]
     ·rw[dY (by simp;omega),dY (by simp;omega)];rfl
   obtain⟨m,l',j,p,D⟩:=xc B H h;exact⟨.normal,m,l',.region j,p,D⟩
  ·simp only at g;split at g
   ·cases g
   ·rename_i v;simp only[bU] at v;split at g
    ·cases g
    ·rename_i s w;have O:∀ x∈s,∃ o,mx P ops x o:=fun x t=>by
      obtain⟨u,q⟩:=xJ t;obtain⟨a,_,j⟩:=y5 w u x q;obtain⟨o,p,_⟩:=xj j;exact⟨o,p⟩
     have z:jI P G s sgZ l [] (K .normal)->∃ e m l',c8 P G (.code (.region id ops true) N' sgZ (aZ l) e m (aZ l'))/\l.length<=l'.length/\K e m l':=fun h=>by
      obtain⟨Q,m,l',h1,j⟩:=DX O h;exact⟨.normal,m,l',P4 B v.1 v.2 w h1,h1.len,j⟩
     split at g
     ·rename_i I;cases g;refine z (DY (fun x t=>?_) h);obtain⟨u,q⟩:=xJ t;obtain⟨a,_,j⟩:=y5 w u x q;obtain⟨o,_,_,_,p⟩:=xj j;rw[p,I];rfl
     ·cases g;exact z h
theorem KO {N N' : Nat} (S:N<=N') :∀ (code:Code) (c:fF),comp P N code=some c->∀ (sgZ:aS) (l:ad) (K:fG),run P G c sgZ l K->
  ∃ e w l',c8 P G (.code code N' sgZ (aZ l) e w (aZ l'))/\l.length<=l'.length/\K e w l':=by
 intro code
 induction code with
 | skip=>intro c g sgZ l K h;cases g;exact⟨_,_,_,.skip _ _ _,aN _,h⟩
 | label n=>intro c g sgZ l K h;cases g;exact⟨_,_,_,.label _ _ _ _,aN _,h⟩
 | ret=>intro c g sgZ l K h;cases g;exact⟨_,_,_,.ret _ _ _,aN _,h⟩
 | exit id=>intro c g sgZ l K h;cases g;exact⟨_,_,_,.exit _ _ _ _,aN _,h⟩
 | region id ops draw=>intro c g sgZ l K h;exact Pt S g h
 | seq a b V W=>
  intro c g sgZ l K h;have mk:∀ (z B:fF),comp P N a=some z->comp P N b=some B->run P G z sgZ l (mJ (fun sgZ l=>run P G B sgZ l K) K)->∃ e w l',c8 P G (.code (.seq a b) N' sgZ (aZ l) e w (aZ l'))/\l.length<=l'.length/\K e w l':=by
   intro z B u q h;obtain⟨e,p,o,h1,j,m⟩:=V z u sgZ l _ h;cases e with
   | normal=>
    obtain⟨e,J,I,t,F,H⟩:=W B q p o K m;exact⟨e,J,I,.KZ h1 t,dC j F,H⟩
   | exit id=>exact⟨_,p,o,.D7 h1 (by intro h;cases h),j,m⟩
   | ret=>exact⟨_,p,o,.D7 h1 (by intro h;cases h),j,m⟩
  simp only[comp] at g;split at g
  ·rename_i Q u q;cases g;exact mk _ _ u q h
  ·rename_i O _ u q;cases g;refine mk _ _ u q ?_;have:mJ (fun sgZ l=>run P G .skip sgZ l K) K=K:=by
    funext e sgZ l;cases e<;>rfl
   rw[this];exact h
  ·rename_i O Q _ _ u q;cases g;exact mk _ _ u q h
  ·cases g
 | cond c x y Y ag=>
  intro C g sgZ l K h;simp only[comp] at g;split at g
  ·rename_i ah ai T U;cases g;simp only[run,wn] at h;split at h
   ·rename_i b q;rw[wo] at h;rcases h with ⟨rfl,h⟩ | ⟨rfl,h⟩
    ·obtain⟨e,p,o,h1,j,m⟩:=Y ah T sgZ l K h;exact⟨e,p,o,.cond q h1,j,m⟩
    ·obtain⟨e,p,o,h1,j,m⟩:=ag ai U sgZ l K h;exact⟨e,p,o,.cond q h1,j,m⟩
   ·cases h
  ·cases g
 | block id c v=>
  intro C g sgZ l K h;simp only[comp,map_some] at g;obtain⟨D,h1,rfl⟩:=g;obtain⟨e,p,o,j,m,t⟩:=v D h1 sgZ l _ h;cases e with
  | normal=>exact⟨_,p,o,.x8 j (by intro h;cases h),m,t⟩
  | ret=>exact⟨_,p,o,.x8 j (by intro h;cases h),m,t⟩
  | exit aj=>
   simp only[qK] at t;split at t
   ·rename_i q;obtain rfl:=iw q;exact⟨_,p,o,.Gb j,m,t⟩
   ·rename_i q;exact⟨_,p,o,.x8 j (by intro h;cases h;rw[A4] at q;cases q),m,t⟩
 | loop c v=>
  intro C g sgZ l K h;simp only[comp,map_some] at g;obtain⟨D,h1,rfl⟩:=g;obtain⟨n,h⟩:=h
  induction n generalizing sgZ l with
  | zero=>cases h
  | succ n X=>
   obtain⟨e,p,o,j,m,t⟩:=v D h1 sgZ l _ h;cases e with
   | normal=>
    obtain⟨e,J,I,F,H,R⟩:=X p o t;exact⟨e,J,I,.tV j F,dC m H,R⟩
   | exit id=>exact⟨_,p,o,.CL j (by intro h;cases h),m,t⟩
   | ret=>exact⟨_,p,o,.CL j (by intro h;cases h),m,t⟩
 | scope c v=>
  intro C g sgZ l K h;obtain⟨e,p,o,j,m,t⟩:=v C g sgZ l K h;exact⟨e,p,o,.scope j,m,t⟩
 | _=>intro c g;cases g
def BH (P:bq) :ResultVar->Option dy
 | .tmp g=>some (.dW (.tmp g))
 | .cell a g=>kz P (.load g (.tmp a))
def vN (P:bq) (f:cj) :Option (List dy):=match P.funcs[f]? with
 | some fn=>fn.results.toList.mapM (BH P)
 | none=>none
def mI (P:bq) (G:Nat->U) (K:U->ad->Prop) (sgZ:aS) (l:ad) :List dy->ag->Prop
 | [],g=>K (sL g) l
 | m::r,g=>W (bT P (dA G sgZ) l m) (c:=⟨fun x=>mI P G K sgZ l r (g++[x.1])⟩)
def tS (P:bq) (G:Nat->U) (g:List dy) (K:U->ad->Prop) :fG:=fun e h l=>match e with
 | .exit _=>False
 | .normal=>mI P G K h l g []
 | .ret=>mI P G K h l g []
def ju (args:ag) :aS:=fun g=>args.getD g fC
theorem In {K:U->ad->Prop} {sgZ:aS} {l:ad}:∀ {t:List ResultVar} {o:List dy} {j:ag},t.mapM (BH P)=some o->mI P G K sgZ l o j->∃ vs,q3 P (aZ l) sgZ t=some vs/\K (sL (j++vs)) l
 | [],o,j,g,h=>by simp at g;subst g;exact⟨[],rfl,by simpa [mI] using h⟩
 | r::t,o,j,g,h=>by
  rw[o5] at g;simp only[Option.bind_eq_bind,bind_some,tc,bc] at g;obtain⟨m,h1,H,z,rfl⟩:=g;simp only[mI,xY] at h;obtain⟨⟨v,F⟩,q,B⟩:=h;obtain⟨vs,C,D⟩:=In z B;refine⟨v::vs,?_,by simpa using D⟩;have:uv P (aZ l) sgZ r=some v:=by
   cases r with
   | tmp p=>cases h1;simp only[bT,bc,Prod.mk.injEq] at q;rw[<-q.1];rfl
   | cell a p=>
    have w:kz P (.load p (.tmp a))=some m:=h1;have:=zb w q;simp only[cO] at this;unfold uv;show oK P (aZ l) p (dA G sgZ (.tmp a))=some v;cases u:oK P (aZ l) p (dA G sgZ (.tmp a)) with
    | none=>rw[u] at this;cases this
    | some x=>rw[u] at this;simp only[cz,bc,mw.val.injEq] at this;rw[this.1]
  simp only[q3,this,C]
theorem Gq {f:cj} {c:fF} {o:List dy} (g:vM P f=some c) (m:vN P f=some o) {args:ag} {l:ad} {K:qj}
  (h:run P G c (ju args) l (tS P G o K.k)) :fS P G f args l (c:=K):=by
 unfold vM at g;unfold vN at m;split at g
 ·rename_i fn q;split at g
  ·rename_i u B;rw[q] at m;obtain⟨e,D,t,h1,v,j⟩:=KO (N':=args.length+(fn.ntmps - args.length)) F u c g _ _ _ h;have p:(e=.normal\/e=.ret)->mI P G K.k D t o []->fS P G f args l (c:=K):=fun C j=>by
    obtain⟨H,w,z⟩:=In m j;exact⟨sL H,t,.inline q B h1 C (by simp only[uu,w];rfl),v,by simpa using z⟩
   cases e with
   | normal=>exact p (.inl rfl) j
   | ret=>exact p (.inr rfl) j
   | exit id=>cases j
  ·cases g
 ·cases g
theorem Lp {b:rB} {sgZ:aS} {l:ad} {K h3:U->ad->Prop} (o:∀ v l,K v l->h3 v l) (h:gI P G b sgZ l K) :gI P G b sgZ l h3:=by
 cases b with
 | fy q=>simp only[gI,xY] at h ⊢;obtain⟨v,h1,g⟩:=h;exact⟨v,h1,Ip o g⟩
 | lc f args=>obtain⟨r,m,h1,g,j⟩:=h;exact⟨r,m,h1,g,o _ _ j⟩
 | lT x args=>
  simp only[gI,vE] at h ⊢;split at h
  ·obtain⟨p,r,m,h1,g,j⟩:=h;exact⟨p,r,m,h1,g,o _ _ j⟩
  ·cases h
 | nn x name args=>
  simp only[gI,ye] at h ⊢;split at h
  ·split at h
   ·obtain⟨p,r,m,h1,g,j⟩:=h;exact⟨p,r,m,h1,g,o _ _ j⟩
   ·cases h
  ·cases h
theorem Il {sgZ:aS} {g:Option (Option Tmp × Bool)} {p q o kQ:Prop} (m:p->o) (j:q->kQ) (h:oH sgZ g p q) :oH sgZ g o kQ:=by
 unfold oH at h ⊢;split at h
 ·exact m h
 ·simp only[pB] at h ⊢;split at h
  ·rw[wo] at h ⊢;rcases h with ⟨a,b⟩ | ⟨a,b⟩
   ·exact .inl ⟨a,m b⟩
   ·exact .inr ⟨a,j b⟩
  ·cases h
  ·exact j h
 ·exact j h
theorem DZ {K j:aS->ad->Prop} (g:∀ sgZ l,K sgZ l->j sgZ l) :∀ {s:List da} {sgZ:aS} {l:ad},iE P G s sgZ l K->iE P G s sgZ l j
 | [],_,_,h=>g _ _ h
 | s::r,_,_,h=>Il (Lp fun _ _ h=>DZ g h) (fun h=>DZ g h) h
theorem DW {K j:aS->ad->Prop} (g:∀ sgZ l,K sgZ l->j sgZ l) :∀ {s:List da} {sgZ:aS} {l:ad} {seen:il},jI P G s sgZ l seen K->jI P G s sgZ l seen j
 | [],_,_,_,h=>g _ _ h
 | s::r,_,_,_,h=>Il (Lp fun _ _ h=>⟨h.1,DW g h.2⟩) (fun h=>DW g h) h
theorem wq {k k' : aS->ad->Prop} {K g:fG} (hk:∀ sgZ l,k sgZ l->k' sgZ l) (j:∀ e sgZ l,K e sgZ l->g e sgZ l) :∀ e sgZ l,mJ k K e sgZ l->mJ k' g e sgZ l:=by intro e sgZ l h;cases e<;>first | exact hk _ _ h | exact j _ _ _ h
theorem D2:∀ {c:fF} {sgZ:aS} {l:ad} {K h3:fG},(∀ e sgZ l,K e sgZ l->h3 e sgZ l)->run P G c sgZ l K->run P G c sgZ l h3:=by
 intro c
 induction c with
 | skip=>intro sgZ l K h3 g h;exact g _ _ _ h
 | ret=>intro sgZ l K h3 g h;exact g _ _ _ h
 | exit id=>intro sgZ l K h3 g h;exact g _ _ _ h
 | jH s=>intro sgZ l K h3 g h;exact DZ (g _) h
 | vR s=>intro sgZ l K h3 g h;exact DW (g _) h
 | seq a b m o=>intro sgZ l K h3 g h;exact m (wq (fun sgZ l h=>o g h) g) h
 | cond c x y q t=>
  intro sgZ l K h3 g h;simp only[run,wn] at h ⊢;split at h
  ·rw[wo] at h ⊢;rcases h with ⟨a,b⟩ | ⟨a,b⟩
   ·exact .inl ⟨a,q g b⟩
   ·exact .inr ⟨a,t g b⟩
  ·cases h
 | block id c j=>
  intro sgZ l K h3 g h;refine j (fun e sgZ l h=>?_) h;cases e with
  | normal=>exact g _ _ _ h
  | ret=>exact g _ _ _ h
  | exit u=>
   simp only[qK] at h ⊢;split at h
   ·exact g _ _ _ h
   ·exact g _ _ _ h
 | loop c j=>
  intro sgZ l K h3 g h;obtain⟨n,h⟩:=h;refine⟨n,?_⟩
  induction n generalizing sgZ l with
  | zero=>cases h
  | succ n p=>exact j (wq (fun sgZ l h=>p h) g) h
theorem wx {c:fF} {K:Be} (m:Nat->aS->ad->Prop) (step:∀ n sgZ l,m n sgZ l->run P G c sgZ l (mJ (fun sgZ l=>∃ j,j<n/\m j sgZ l) K.k)) :∀ n sgZ l,m n sgZ l->xT (run P G c) sgZ l (c:=K):=by
 intro n
 induction n using Nat.strongRecOn with
 | _ n u=>
  intro sgZ l h
  -- fuel n+1 is enough
  have o:∀ (g n:Nat),n<=g->∀ sgZ l,m n sgZ l->tV (run P G c) (g+1) sgZ l K.k:=by
   intro g
   induction g with
   | zero=>
    intro n q sgZ l h;obtain rfl:n=0:=F;exact D2 (wq (fun sgZ l ⟨j,h1,_⟩=>F) (fun _ _ _ h=>h)) (step 0 sgZ l h)
   | succ g t=>
    intro n q sgZ l h;exact D2 (wq (fun sgZ l ⟨j,h1,p⟩=>t j F sgZ l p) (fun _ _ _ h=>h)) (step n sgZ l h)
  exact⟨n+1,o n n (aN _) sgZ l h⟩
theorem bx {c:fF} {K:Be} (n:Nat) (g:Nat->aS->ad->Prop) (step:∀ k sgZ l,k<=n->g k sgZ l->run P G c sgZ l (mJ (fun sgZ l=>k<n/\g (k+1) sgZ l) K.k)) {sgZ:aS} {l:ad} (h:g 0 sgZ l) :xT (run P G c) sgZ l (c:=K):=by refine wx (fun j sgZ l=>∃ k,k+j=n/\g k sgZ l) (fun j sgZ l ⟨k,hk,h⟩=>?_) n sgZ l ⟨0,F,h⟩;exact D2 (wq (fun sgZ l ⟨h1,m⟩=>⟨j - 1,F,k+1,F,m⟩) (fun _ _ _ h=>h)) (step k sgZ l F h)
end
end Go.bl

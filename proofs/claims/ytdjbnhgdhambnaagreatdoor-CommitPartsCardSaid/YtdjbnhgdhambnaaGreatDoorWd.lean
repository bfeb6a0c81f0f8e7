/-
  The canonical machine, part T: small operations, without types.
-/
import Derived.Test.YtdjbnhgdhambnaaGreatDoorWc
set_option maxHeartbeats 16000000
set_option maxRecDepth 100000
set_option linter.unusedVariables false
set_option linter.unusedSimpArgs false
set_option linter.unnecessarySimpa false
namespace Go.bh
open Go
def fV (l:ae) :U->Option (ag × Nat)
 | .ptr b g h=>match l[b]? with
  | some (.cells n cs)=>if n=h then some (cs,g) else none
  | _=>none
 | .b0 cs g=>some (cs,g)
 | _=>none
def ss (n:Nat) (cs:ag) (off:Nat) :Option U:=if off+n<=cs.length then some (.ah ((cs.drop off).take n)) else none
def jG (n:Nat) (l:ae) (p v:U) :Option ae:=
 match p,v.cells with
 | .ptr b h m,some j=>match l[b]? with
  | some (.cells g cs)=>if g=m/\j.length=n/\h+n<=g then some (l.set b (.cells g (ax cs h j))) else none
  | _=>none
 | _,_=>none
def cG (l:ae) (z:Nat) :U->Option (ag × Nat)
 | .af=>some ([],0)
 | .bn g h=>if z=g then some (h.flatten,h.length) else none
 | .ad g b j len _ m=>match l[b]? with
  | some (.cells n cs)=>if n=m/\z=g then some ((cs.drop j).take (len*z),len) else none
  | _=>none
 | .str s=>if z=1 then some (s.map hu,s.length) else none
 | _=>none
def ht (l:ae) (z by_:Nat) (s:U) (xs:ag) (n:Nat) :Option (U × ae):=
 if n=0 then (match s with | .af | .bn .. | .ad ..=>some (s,l) | _=>none)
 else if z=0\/by_=0 then none else match s with
  | .af=>if n*by_<=dk then some (.ad z l.length 0 n n (n*z),l++[.cells (n*z) xs]) else none
  | .ad m b g len cap h=>match l[b]? with
   | some (.cells j cs)=>
    if j=h/\z=m/\(len+n)*by_<=dk then
     if len+n<=cap then some (.ad z b g (len+n) cap h,l.set b (.cells j (ax cs (g+len*z) xs)))
     else if g+cap*z<h then some (.ad z l.length 0 (len+n) (len+n) ((len+n)*z),l++[.cells ((len+n)*z) ((cs.drop g).take (len*z)++xs)])
     else if g=0 then some (.ad z b 0 (len+n) (len+n) ((len+n)*z),l.set b (.cells ((len+n)*z) (cs.take (len*z)++xs)))
     else some (.ad z l.length 0 (len+n) (len+n) ((len+n)*z),l.set b .dead++[.cells ((len+n)*z) ((cs.drop g).take (len*z)++xs)])
    else none
   | _=>none
  | _=>none
def yo (z:Nat) (l:ae) (d x:U) :Option (U × ae):=
 match cG l z x with
 | none=>none
 | some (m,n)=>match d with
  | .af=>some (.int .i64 0,l)
  | .ad o b h len _ j=>match l[b]? with
   | some (.cells g cs)=>if g=j/\z=o then some (.int .i64 ((min n len:Nat) :Int),l.set b (.cells g (ax cs h (m.take (min n len*z))))) else none
   | _=>none
  | _=>none
def uo (l:ae) :U->Option (List (U × U × Nat))
 | .g0=>some []
 | .mp b=>match l[b]? with | some (.map g _)=>some g | _=>none
 | _=>none
def pa (l:ae) (x:U) :Option (List UInt8):=match x with
 | .str s=>some s
 | x=>match cG l 1 x with
  | some (cs,_)=>jQ cs
  | none=>none
def cmpL (l:ae) (x y:U) :Option U:=match pa l x,pa l y with
 | some a,some b=>some (.int .i64 (lR a b))
 | _,_=>none
def cK (l:ae) (x:U) :Option (U × ae):=match x with
 | .it b=>match l[b]? with
  | some (.iter s pos)=>match Nat.blt pos s.length with
   | true=>some (.a1 [.bool true,.int .i64 pos,.int .i32 (Utf8.decode ⟨s.toArray⟩ pos).1],l.set b (.iter s (pos+(Utf8.decode ⟨s.toArray⟩ pos).2)))
   | false=>some (.a1 [.bool false],l)
  | _=>none
 | _=>none
def w6 (l:ae) (x:U) :Option (U × ae):=match x with
 | .str s=>some (.it l.length,l++[.iter s 0])
 | _=>none
def CJ (l:ae) (x:U) :Option U:=match x with
 | .g0=>some (.int .i64 0)
 | .mp b=>match l[b]? with | some (.map g _)=>some (.int .i64 g.length) | _=>none
 | _=>none
def pg (zero:ag) (l:ae) :U->Option ae
 | .af=>some l
 | .bn _ []=>some l
 | .ad m b h len _ j=>if len=0 then some l else match l[b]? with
  | some (.cells g cs)=>if g=j/\zero.length=m then some (l.set b (.cells g (ax cs h (cD zero len)))) else none
  | _=>none
 | _=>none
theorem KO (l:ae) (p:U) :l9 (aX l) p=fV l p:=by
 cases p<;>try rfl
 rename_i b g h;simp only[l9,fV,jO];cases l[b]? with
 | none=>rfl
 | some c=>cases c<;>rfl
theorem yn (l:ae) (z:Nat) (x:U) :contents (aX l) z x=cG l z x:=by
 cases x<;>try rfl
 rename_i j b g len cap h;simp only[contents,cG,jO];cases l[b]? with
 | none=>rfl
 | some c=>cases c<;>rfl
section
variable (P:bj)
inductive h2 where
 | arr (n g:Nat)
 | ad (g:Nat)
 | str
 deriving DecidableEq
def me (t:aC) :Option h2:=match P.underlying t with
 | some (.array n e)=>(b5 P e).map fun g=>.arr n g
 | some (.slice e)=>(b5 P e).map fun g=>.ad g
 | some .string=>some .str
 | _=>none
inductive dx where
 | ei (x:aW)
 | pick (c a b:aW)
 | alloc (zero:ag)
 | box (x:aW)
 | yb (zero:ag) (v:List (Nat × Nat × aW))
 | qx (g:Nat) (zero:ag) (len:Nat) (v:List (Nat × aW))
 | ld1 (a:aW)
 | jZ (n:Nat) (a:aW)
 | st (n:Nat) (a x:aW)
 | zm (x:aW)
 | bin (t:BinOp) (o:aC) (x y:aW)
 | un (t:UnOp) (x:aW)
 | vL (k:cV) (x:aW)
 | G2 (x:aW)
 | qz (x:aW)
 | yr (x:aW)
 | CW (o:aC) (x:aW)
 | EJ (o:aC) (g:U) (u:Bool) (x:aW)
 | wA (f:cf) (first e7:List aW)
 | sl (g j:Nat) (zero:ag) (l c:aW)
 | slice (h:h2) (x:aW) (B z C:Option aW)
 | nu (m:Nat) (x:aW)
 | HK (m:Nat) (x:aW)
 | yG (n m:Nat) (x:aW)
 | sb (h:h2) (x i:aW)
 | yV (n g:Nat) (x i:aW)
 | Iq (n g:Nat) (x i:aW)
 | yX (x i:aW)
 | ext (x:aW) (i:Nat)
 | len (h:h2) (x:aW)
 | cap (h:h2) (x:aW)
 | app (g j:Nat) (s x:aW)
 | tB (g j:Nat) (zero:ag) (s x:aW)
 | yq (g:Nat) (d x:aW)
 | tN (zero:ag) (x:aW)
 | min (x y:aW)
 | max (x y:aW)
 | uq (x:Option aW)
 | wu (p:aC) (zero:U) (u:Bool) (q k:aW)
 | us (p:aC) (q k x:aW)
 | y6 (x:aW)
 | uN (x:aW)
 | uv (x:aW)
 | bJ (f:cf) (w x y:aW)
 | stop
def wv (l:ae) (g:aC) (zero:U) (h:Bool) (m k:U) :Option U:=
 match uo l m with
 | some o=>match kD P g k with
  | false=>none
  | true=>match jV P g k o 0 with
   | some (some (_,j))=>some (if h then .a1 [j,.bool true] else j)
   | some none=>some (if h then .a1 [zero,.bool false] else zero)
   | none=>none
 | none=>none
def si (l:ae) (j:aC) (m k v:U) :Option ae:=
 match m with
 | .mp b=>match l[b]? with
  | some (.map h g)=>match kD P j k with
   | false=>none
   | true=>match jV P j k h 0 with
    | some (some (i,_))=>some (l.set b (.map (h.modify i fun e=>(k,v,e.2.2)) g))
    | some none=>some (l.set b (.map (h++[(k,v,g)]) (g+1)))
    | none=>none
  | _=>none
 | _=>none
def yT (f:cf) :U->Bool | .fn g [] []=>Nat.beq g f | _=>false
def zC (c a b:U) :Option U:=match c with | .bool g=>some (if g then a else b) | _=>none
def zn (x:U) :Option U:=match x with | .ptr b g s=>some (.ptr b g s) | .b0 c g=>some (.b0 c g) | .fn f a b=>some (.fn f a b) | _=>none
def nk (zero:ag) :List (Nat × Nat × U)->Option (ag)
 | []=>some zero
 | (g,size,j) ::r=>match j.cells with
  | some h=>if h.length=size/\g+size<=zero.length then nk (ax zero g h) r else none
  | none=>none
def vM (k:cV) :U->Option U | .int _ n=>some (.int k (k.wrap n)) | _=>none
def G3:U->Option U | .str s=>some (.str s) | _=>none
def pc (l:ae) (x:U) :Option U:=match x with
 | .af=>some (.str [])
 | .str _=>none
 | x=>match cG l 1 x with | some (cs,_)=>(jQ cs).map .str | none=>none
def rW:U->Option U | .str s=>some (.bn 1 (s.map fun b=>[hu b])) | _=>none
def l2 (z by_:Nat) (zero:ag) (g:ae) (l c:U) :Option (U × ae):=match l,c with
 | .int _ l,.int _ c=>if 0<=l/\l<=c/\c<9223372036854775808/\by_*c<=dk then
   some (.ad z g.length 0 l.toNat c.toNat (c.toNat*z),g++[.cells (c.toNat*z) (cD zero c.toNat)]) else none
 | _,_=>none
def dK (w:h2) (x:U) (p o q:Option U) :Option U:=
 match w with
 | .arr n g=>match e6 n n p o q with
  | some (l,h,m)=>match x with
   | .ptr b j t=>if j+m*g<=t then (if m=l then some (.bn g []) else some (.ad g b (j+l*g) (h - l) (m - l) t)) else none
   | .b0 cs j=>if j+n*g<=cs.length then some (.bn g (lP g (h - l) (cs.drop (j+l*g)))) else none
   | _=>none
  | none=>none
 | .ad g=>match x with
  | .ad v b j len cap t=>if g=v then (e6 len cap p o q).map fun (l,h,m)=>if m=l then .ad g b (j+l*g) 0 0 t else .ad g b (j+l*g) (h - l) (m - l) t else none
  | .bn v u=>if g=v then (e6 u.length u.length p o q).map fun (l,h,_)=>.bn g ((u.drop l).take (h - l)) else none
  | .af=>(e6 0 0 p o q).map fun _=>.af
  | _=>none
 | .str=>match x,q with
  | .str s,none=>(e6 s.length s.length p o none).map fun (l,h,_)=>.str ((s.drop l).take (h - l))
  | _,_=>none
def HL (off:Nat) :U->Option U | .ah cs=>cs[off]? | _=>none
def yH (n off:Nat) :U->Option U | .ah cs=>ss n cs off | _=>none
def bO (q:h2) (x m:U) :Option U:=
 match m with
 | .int _ i=>match q with
  | .arr n g=>if 0<=i/\i<n then k5 x (i.toNat*g) else none
  | .ad g=>match x with
   | .ad h b o len _ p=>if g=h/\0<=i/\i<len then some (.ptr b (o+i.toNat*g) p) else none
   | .bn h j=>if g=h/\0<=i then (j[i.toNat]?).map fun cs=>.b0 cs 0 else none
   | _=>none
  | .str=>none
 | _=>none
def yW (n z:Nat) (x g:U) :Option U:=match x,g with
 | .ah cs,.int _ i=>if 0<=i/\i<n then cs[i.toNat*z]? else none
 | _,_=>none
def Ir (n z:Nat) (x g:U) :Option U:=match x,g with
 | .ah cs,.int _ i=>if 0<=i/\i<n then ss z cs (i.toNat*z) else none
 | _,_=>none
def ud (x g:U) :Option U:=match x,g with
 | .str s,.int _ i=>if 0<=i then (s[i.toNat]?).map hu else none
 | _,_=>none
def yz (x:U) (i:Nat) :Option U:=match x with | .a1 g=>g[i]? | _=>none
def bx (h:h2) (x:U) :Option U:=match h with
 | .arr n _=>some (.int .i64 n)
 | .ad _=>match x with
  | .af=>some (.int .i64 0)
  | .ad _ _ _ len _ _=>some (.int .i64 len)
  | .bn _ g=>some (.int .i64 g.length)
  | _=>none
 | .str=>match x with | .str s=>some (.int .i64 s.length) | _=>none
def rQ (g:h2) (x:U) :Option U:=match g with
 | .arr n _=>some (.int .i64 n)
 | .ad _=>match x with | .af=>some (.int .i64 0) | _=>none
 | .str=>none
def eE (l:ae) (z by_:Nat) (s x:U) :Option (U × ae):=match cG l z x with
 | none=>none
 | some (g,n)=>ht l z by_ s g n
def n5 (l:ae) (z by_:Nat) (zero:ag) (s x:U) :Option (U × ae):=match x with
 | .int _ n=>if 0<=n/\n<9223372036854775808/\n.toNat*by_<=dk then ht l z by_ s (cD zero n.toNat) n.toNat else none
 | _=>none
def du (l:ae) (x:Option U) :Option (U × ae):=x.map fun g=>(g,l)
def bM (g:aW->U) (l:ae) :dx->Option (U × ae)
 | .ei x=>some (g x,l)
 | .pick c a b=>du l (zC (g c) (g a) (g b))
 | .alloc zero=>some (.ptr l.length 0 zero.length,l++[.cells zero.length zero])
 | .box x=>(g x).cells.map fun cs=>(.ptr l.length 0 cs.length,l++[.cells cs.length cs])
 | .yb zero B=>du l ((nk zero (B.map fun m=>(m.1,m.2.1,g m.2.2))).map .ah)
 | .qx h zero len B=>(ew (fun i=>some (i*h,h)) (cD zero len) (B.map fun m=>(m.1,g m.2))).map fun cs=>(.ad h l.length 0 len len (len*h),l++[.cells (len*h) cs])
 | .ld1 a=>du l ((fV l (g a)).bind fun x=>x.1[x.2]?)
 | .jZ n a=>du l ((fV l (g a)).bind fun x=>ss n x.1 x.2)
 | .st n a x=>(jG n l (g a) (g x)).map fun p=>(fL,p)
 | .zm x=>du l (zn (g x))
 | .bin q u x y=>du l (eb P q u (g x) (g y))
 | .un q x=>du l (ri q (g x))
 | .vL k x=>du l (vM k (g x))
 | .G2 x=>du l (G3 (g x))
 | .qz x=>du l (pc l (g x))
 | .yr x=>du l (rW (g x))
 | .CW u x=>some (.gc u (g x),l)
 | .EJ u h z x=>du l (Al u h z (g x))
 | .wA f a b=>some (.fn f (a.map g) (b.map g),l)
 | .sl h o zero a c=>l2 h o zero l (g a) (g c)
 | .slice j x F D G=>du l (dK j (g x) (F.map g) (D.map g) (G.map g))
 | .nu t x=>du l (k5 (g x) t)
 | .HK t x=>du l (HL t (g x))
 | .yG n t x=>du l (yH n t (g x))
 | .sb j x i=>du l (bO j (g x) (g i))
 | .yV n h x i=>du l (yW n h (g x) (g i))
 | .Iq n h x i=>du l (Ir n h (g x) (g i))
 | .yX x i=>du l (ud (g x) (g i))
 | .ext x i=>du l (yz (g x) i)
 | .len j x=>du l (bx j (g x))
 | .cap j x=>du l (rQ j (g x))
 | .app h o s x=>eE l h o (g s) (g x)
 | .tB h o zero s x=>n5 l h o zero (g s) (g x)
 | .yq h d x=>yo h l (g d) (g x)
 | .tN zero x=>(pg zero l (g x)).map fun p=>(.a1 [],p)
 | .min x y=>du l (ze (g x) (g y))
 | .max x y=>du l (oH (g x) (g y))
 | .uq x=>match x with
  | none=>some (.mp l.length,l++[.map [] 0])
  | some q=>match asInt (g q) with | some _=>some (.mp l.length,l++[.map [] 0]) | none=>none
 | .wu v zero z w k=>du l (wv P l v zero z (g w) (g k))
 | .us v w k x=>(si P l v (g w) (g k) (g x)).map fun p=>(fL,p)
 | .y6 x=>du l (CJ l (g x))
 | .uN x=>w6 l (g x)
 | .uv x=>cK l (g x)
 | .bJ f C x y=>match yT f (g C) with | true=>du l (cmpL l (g x) (g y)) | false=>none
 | .stop=>none
def Bt (t:aC) (ps:List (Nat × aW)) :Option (List (Nat × Nat × aW)):=
 match P.underlying t with
 | some (.struct h)=>if h.toList.all fun f=>(b5 P f.type).isSome then ps.mapM fun g=>(wZ P h g.1).map fun q=>(q.1,q.2,g.2) else none
 | some (.array _ e)=>(b5 P e).map fun n=>ps.map fun g=>(g.1*n,n,g.2)
 | _=>none
def qD (b:Builtin) (ts:List aC) (args:List aW) :Option dx:=
 match b,ts,args with
 | .len,[g],[x]=>match P.underlying g with
  | some (.map _ _)=>some (.y6 x)
  | _=>(me P g).map fun m=>.len m x
 | .cap,[g],[x]=>(me P g).map fun m=>.cap m x
 | .append,[g,u],[s,x]=>match P.underlying u with
  | some (.int _)=>(gm P g).bind fun e=>(b5 P e).bind fun h=>(gO P e).bind fun j=>(gd P e).bind fun zero=>
    if zero.length=h/\mh P e=some h then some (.tB h j zero s x) else none
  | none=>none
  | _=>(gm P g).bind fun e=>(b5 P e).bind fun h=>(gO P e).bind fun j=>if mh P e=some h then some (.app h j s x) else none
 | .copy,[g,_],[d,x]=>(gm P g).bind fun e=>(b5 P e).map fun h=>.yq h d x
 | .clear,[g],[x]=>match P.underlying g with
  | some (.slice e)=>(gd P e).map fun zero=>.tN zero x
  | _=>none
 | .min,_,[x,y]=>some (.min x y)
 | .max,_,[x,y]=>some (.max x y)
 | _,_,_=>none
def ku:Op->Option dx
 | .move x | .assign x=>some (.ei x)
 | .pick c a b=>some (.pick c a b)
 | .alloc g=>(gd P g).map .alloc
 | .box _ x=>some (.box x)
 | .build g u=>(gd P g).bind fun zero=>(Bt P g u.toList).map fun q=>.yb zero q
 | .buildSlice g len u=>(gm P g).bind fun e=>(b5 P e).bind fun h=>(gd P e).bind fun zero=>
   if zero.length=h/\len*h<=16777216 then some (.qx h zero len u.toList) else none
 | .load g a=>match dC P g,b5 P g with
  | some true,some n=>some (.jZ n a)
  | some false,_=>some (.ld1 a)
  | _,_=>none
 | .store g a x=>(b5 P g).map fun n=>.st n a x
 | .nilCheck x=>some (.zm x)
 | .binOp p g x y _=>some (.bin p g x y)
 | .unOp p _ x=>some (.un p x)
 | .convert s d x=>match P.underlying s,P.underlying d with
  | some _,some (.int k)=>some (.vL k x)
  | some (.slice e),some .string=>match P.underlying e with
   | some (.int .u8)=>some (.qz x)
   | _=>none
  | some .string,some .string=>some (.G2 x)
  | some .string,some (.slice e)=>match P.underlying e with
   | some (.int .u8)=>some (.yr x)
   | _=>none
  | _,_=>none
 | .makeInterface g x=>match P.underlying g with
  | some (.interface _) | none=>none
  | _=>some (.CW g x)
 | .makeFunc (.func f) a b=>some (.wA f a.toList b.toList)
 | .makeSlice g l c=>(gm P g).bind fun e=>(b5 P e).bind fun h=>(gO P e).bind fun v=>(gd P e).bind fun zero=>
   if zero.length=h then some (.sl h v zero l c) else none
 | .slice g x B z C=>(me P g).map fun D=>.slice D x B z C
 | .fieldAddr s x f=>(r1 P s f).bind fun j=>match b5 P j.type with
  | some (_+1)=>some (.nu j.offset x)
  | _=>none
 | .field g x f=>(r1 P g f).bind fun j=>match dC P j.type,b5 P j.type with
  | some true,some n=>some (.yG n j.offset x)
  | some false,_=>some (.HK j.offset x)
  | _,_=>none
 | .indexAddr g x i=>match me P g with
  | some (.arr n h)=>some (.sb (.arr n h) x i)
  | some (.ad h)=>some (.sb (.ad h) x i)
  | _=>none
 | .index g x i=>match P.underlying g with
  | some (.array n e)=>match b5 P e,dC P e with
   | some h,some true=>some (.Iq n h x i)
   | some h,some false=>some (.yV n h x i)
   | _,_=>none
  | some .string=>some (.yX x i)
  | _=>none
 | .extract x i=>some (.ext x i)
 | .call c=>match c.callee with
  | .builtin b=>qD P b c.argTypes.toList c.args.toList
  | .value (.func f)=>match P.funcs[f]?,c.args.toList with
   | some fn,[x,y]=>if wi fn then some (.bJ f (.func f) x y) else none
   | _,_=>none
  | _=>none
 | .makeMap g r=>match P.underlying g with | some (.map _ _)=>some (.uq r) | _=>none
 | .lookup g m k t=>match P.underlying g with | some (.map o w)=>(s4 P w).map fun h=>.wu o h t m k | _=>none
 | .mapUpdate g m k x | .insert g m k x=>match P.underlying g with | some (.map o _)=>some (.us o m k x) | _=>none
 | .range g x=>match P.underlying g with | some .string=>some (.uN x) | _=>none
 | .next it true=>some (.uv it)
 | .panic _=>some .stop
 | .typeAssert x _ g t=>(Am P g).map fun h=>.EJ g h t x
 | _=>none
end
section
variable {P:bj}
theorem bind_some {alZ g:Type} {x:Option alZ} {f:alZ->Option g} {y:g}:x.bind f=some y<->∃ a,x=some a/\f a=some y:=by cases x<;>simp
theorem map_some {alZ g:Type} {x:Option alZ} {f:alZ->g} {y:g}:x.map f=some y<->∃ a,x=some a/\f a=y:=by cases x<;>simp
theorem fa {l l' : ae} {x:Option U} {v:U}:du l x=some (v,l')<->x=some v/\l'=l:=by cases x<;>simp[du,eq_comm]
theorem gP {alZ:Type} {p:Prop} [Decidable p] {x y:alZ}:(if p then some x else none)=some y<->p/\x=y:=by by_cases p<;>simp_all
theorem F4 {l l' : ae} {e z by_ n:Nat} {s v:U} {xs:ag} (B:mh P e=some z) (h:ht l z by_ s xs n=some (v,l')) :qt P (aX l) e z by_ s xs n=some (v,aX l'):=by
 unfold ht at h;unfold qt;by_cases q:n=0
 ·rw[aj q] at h ⊢;cases s<;>simp at h ⊢<;>simp[h]
 ·rw[ak q] at h ⊢;by_cases j:z=0\/by_=0
  ·rw[aj j] at h;cases h
  ·rw[ak j] at h;rw[ak (by simp only[B];simpa using j)];cases s<;>simp only at h ⊢<;>try (cases h;done)
   case af=>
    by_cases t:n*by_<=dk
    ·rw[aj t] at h ⊢;cases h;rw[lI];rfl
    ·rw[ak t] at h;cases h
   case ad D b u len cap w=>
    cases g:l[b]? with
    | none=>rw[g] at h;cases h
    | some c=>
     cases c<;>rw[g] at h<;>(try simp only at h)<;>try (cases h;done)
     rename_i C cs;rw[hI.2 g];simp only;by_cases h1:C=w/\z=D/\(len+n)*by_<=dk
     ·rw[aj h1] at h ⊢;by_cases m:len+n<=cap
      ·rw[aj m] at h ⊢;cases h;rw[mu _ (a2 g)]
      ·rw[ak m] at h ⊢;by_cases o:u+cap*z<w
       ·rw[aj o] at h ⊢;cases h;rw[lI];rfl
       ·rw[ak o] at h ⊢;by_cases p:u=0
        ·rw[aj p] at h ⊢;cases h;rw[mu _ (a2 g)]
        ·rw[ak p] at h ⊢;cases h;rw[mu _ (a2 g),lI];rfl
     ·rw[ak h1] at h;cases h
theorem O2 {t:aC} {ps:List (Nat × aW)} {q:List (Nat × Nat × aW)} (h:Bt P t ps=some q) (j:aW->U) (zero:ag) (w:gd P t=some zero) {cs:ag}
  (m:nk zero (q.map fun p=>(p.1,p.2.1,j p.2.2))=some cs) :vH P t (ps.map fun p=>(p.1,j p.2))=some (.ah cs):=by
 have fill:∀ (v:Nat->Option (Nat × Nat)) (ps:List (Nat × aW)) (q:List (Nat × Nat × aW)) (zero:ag),
   (ps.mapM fun p=>(v p.1).map fun q=>(q.1,q.2,p.2))=some q->nk zero (q.map fun p=>(p.1,p.2.1,j p.2.2))=some cs->ew v zero (ps.map fun p=>(p.1,j p.2))=some cs:=by
  intro v ps
  induction ps with
  | nil=>intro q zero h1 g;simp at h1;subst h1;simpa [nk,ew] using g
  | cons p ps u=>
   intro q zero h1 g;rw[oY] at h1;simp only[Option.bind_eq_bind,bind_some,map_some,tn,bd] at h1;obtain⟨a,⟨H,B,rfl⟩,J,C,rfl⟩:=h1;simp only[df,nk,ew,B] at g ⊢;split at g
   ·rename_i K G;simp only[G];split at g
    ·rename_i D;rw[aj D];exact u _ _ C g
    ·cases g
   ·cases g
 unfold Bt at h;unfold vH;split at h
 ·rename_i I o;rw[w,o];simp only;split at h
  ·rename_i F;rw[ak (by simp[F])];rw[fill _ _ _ _ h m];rfl
  ·cases h
 ·rename_i n e o;rw[map_some] at h;obtain⟨z,h1,rfl⟩:=h;rw[w,o];simp only[h1];rw[fill (fun i=>some (i*z,z)) ps _ zero ?_ m];rfl;clear m
  induction ps with
  | nil=>rfl
  | cons p ps u=>rw[oY,u];rfl
 ·cases h
theorem Xw {t:aC} {o:h2} (g:me P t=some o) (x:U) (m j zh:Option U) :dK o x m j zh=xl P t x m j zh:=by
 unfold me at g;unfold xl;split at g
 ·rename_i n e h;rw[map_some] at g;obtain⟨p,h1,rfl⟩:=g;rw[h];simp only[h1,dK];cases e6 n n m j zh<;>rfl
 ·rename_i e h;rw[map_some] at g;obtain⟨p,h1,rfl⟩:=g;rw[h];simp only[h1,dK];cases x<;>rfl
 ·rename_i h;cases g;rw[h];simp only[dK];cases x<;>cases zh<;>rfl
 ·cases g
theorem SS {t:aC} {m:h2} (g:me P t=some m) {x v:U} (h:bx m x=some v) :se P t x=some v:=by
 unfold me at g;unfold se;split at g
 ·rename_i n e j;rw[map_some] at g;obtain⟨o,h1,rfl⟩:=g;rw[j];simpa [bx] using h
 ·rename_i e j;rw[map_some] at g;obtain⟨o,h1,rfl⟩:=g;rw[j];unfold bx at h;cases x<;>simp_all
 ·rename_i j;cases g;rw[j];unfold bx at h;cases x<;>simp_all
 ·cases g
theorem Pt {t:aC} {m:h2} (g:me P t=some m) {x v:U} (h:rQ m x=some v) :tK P t x=some v:=by
 unfold me at g;unfold tK;split at g
 ·rename_i n e j;rw[map_some] at g;obtain⟨o,h1,rfl⟩:=g;rw[j];simpa [rQ] using h
 ·rename_i e j;rw[map_some] at g;obtain⟨o,h1,rfl⟩:=g;rw[j];unfold rQ at h;cases x<;>simp_all
 ·rename_i j;cases g;rw[j];unfold rQ at h;cases x<;>simp_all
 ·cases g
theorem H9 {t:aC} {m:h2} (g:me P t=some m) {x i v:U} (h:bO m x i=some v) :wh P t x i=some v:=by
 unfold me at g;unfold wh;unfold bO at h;cases i<;>(try simp only at h)<;>try (cases h;done)
 rename_i k i;split at g
 ·rename_i n e j;rw[map_some] at g;obtain⟨o,h1,rfl⟩:=g;rw[j];simpa [asInt,h1] using h
 ·rename_i e j;rw[map_some] at g;obtain⟨o,h1,rfl⟩:=g;rw[j];simp only[asInt,h1];simp only at h;cases x<;>simp only at h ⊢<;>first | exact h | cases h
 ·rename_i j;cases g;simp only at h;cases h
 ·cases g
theorem X0 {t:aC} {n:Nat} (m:b5 P t=some n) {l l' : ae} {p v:U} (h:jG n l p v=some l') :re P (aX l) t p v=some (aX l'):=by
 unfold jG at h;unfold re;cases p<;>(try simp only at h)<;>try (cases h;done)
 rename_i b q u;cases j:v.cells with
 | none=>rw[j] at h;cases h
 | some w=>
  rw[j] at h;simp only[m] at h ⊢;cases g:l[b]? with
  | none=>rw[g] at h;cases h
  | some c=>
   cases c<;>rw[g] at h<;>(try simp only at h)<;>try (cases h;done)
   rename_i o cs;rw[hI.2 g];simp only;rw[gP] at h;obtain⟨h1,rfl⟩:=h;rw[aj h1,mu _ (a2 g)]
theorem P4 {t e:aC} {z:Nat} (o:gm P t=some e) (p:b5 P e=some z) {l l' : ae} {d x v:U} (h:yo z l d x=some (v,l')) :tO P (aX l) t d x=some (v,aX l'):=by
 unfold yo at h;unfold tO;rw[o];simp only[p,yn];cases j:cG l z x with
 | none=>rw[j] at h;cases h
 | some q=>
  obtain⟨C,n⟩:=q;rw[j] at h;simp only at h ⊢;cases d<;>simp only at h ⊢<;>try (cases h;done)
  case af=>cases h;rfl
  case ad D b w len cap B=>
   cases g:l[b]? with
   | none=>rw[g] at h;cases h
   | some c=>
    cases c<;>rw[g] at h<;>(try simp only at h)<;>try (cases h;done)
    rename_i u cs;rw[hI.2 g];simp only;rw[gP] at h;obtain⟨h1,m⟩:=h;cases m;rw[aj h1,mu _ (a2 g)]
theorem PI {t e:aC} {zero:ag} (o:P.underlying t=some (.slice e)) (p:gd P e=some zero) {l l' : ae} {x:U} (h:pg zero l x=some l') :tM P (aX l) t x=some (aX l'):=by
 unfold pg at h;unfold tM;rw[o];cases x<;>(try simp only at h)<;>try (cases h;done)
 case af=>cases h;rfl
 case bn q m=>cases m<;>simp only at h<;>cases h;rfl
 case ad q b v len cap w=>
  simp only;by_cases j:len=0
  ·rw[aj j] at h ⊢;cases h;rfl
  ·rw[ak j] at h ⊢;rw[p];cases g:l[b]? with
   | none=>rw[g] at h;cases h
   | some c=>
    cases c<;>rw[g] at h<;>(try simp only at h)<;>try (cases h;done)
    rename_i u cs;rw[hI.2 g];simp only;rw[gP] at h;obtain⟨h1,rfl⟩:=h;rw[aj h1,mu _ (a2 g)]
theorem IW {t j q:aC} (u:P.underlying t=some (.map j q)) {l l' : ae} {m k x:U} (h:si P l j m k x=some l') :sh P (aX l) t m k x=some (aX l'):=by
 unfold si at h;unfold sh;rw[u];cases m<;>(try simp only at h)<;>try (cases h;done)
 rename_i b;simp only[jO];cases g:l[b]? with
 | none=>rw[g] at h;cases h
 | some c=>
  cases c<;>rw[g] at h<;>simp only at h<;>try (cases h;done)
  rename_i p v;simp only;cases hk:kD P j k with
  | false=>rw[hk] at h;cases h
  | true=>
   rw[hk] at h;simp only at h ⊢;cases o:jV P j k p 0 with
   | none=>rw[o] at h;cases h
   | some r=>
    rw[o] at h;cases r with
    | none=>cases h;simp only[mu _ (a2 g)]
    | some w=>cases h;simp only[mu _ (a2 g)]
theorem SY {t:aC} (h1:dC P t=some false) (h:aH) (p:U) :oE P h t p=(l9 h p).bind fun x=>x.1[x.2]?:=by unfold oE gv;rw[h1];cases l9 h p<;>rfl
theorem SZ {t:aC} {n:Nat} (h1:dC P t=some true) (g:b5 P t=some n) (h:aH) (p:U) :oE P h t p=(l9 h p).bind fun x=>ss n x.1 x.2:=by unfold oE gv;rw[h1,g];cases l9 h p<;>rfl
theorem Pf {b:Builtin} {ts:List aC} {args:List aW} {m:dx} (g:qD P b ts args=some m) {p:aW->U} {l l' : ae} {v:U} (h:bM P p l m=some (v,l')) :
  mA P (aX l) b ts (args.map p)=some (.val v (aX l')):=by
 unfold qD at g;split at g
 ·rename_i R;split at g
  ·rename_i k e o;cases g;simp only[bM,fa] at h;obtain⟨j,rfl⟩:=h;unfold CJ at j;simp only[df,mn,mA];cases D:p R<;>rw[D] at j<;>(try simp only at j)<;>try (cases j;done)
   ·cases j;simp[se,sf,o]
   ·rename_i b;cases B:l'[b]? with
    | none=>rw[B] at j;cases j
    | some c=>
     cases c<;>rw[B] at j<;>simp only at j<;>try (cases j;done)
     cases j;simp[sf,o,jO,B]
  ·rw[map_some] at g;obtain⟨Q,h1,rfl⟩:=g;simp only[bM,fa] at h;obtain⟨j,rfl⟩:=h;have q:=SS h1 j;have t:∀ x,sf P (aX l') _ x=none:=fun x=>by
    unfold me at h1;unfold sf;split at h1<;>first | (rename_i o;rw[o];done) | (cases h1;done) | skip
    all_goals (rename_i o;simp only[o])
   simp only[df,mn,mA,t];simp[q]
 ·rw[map_some] at g;obtain⟨Q,h1,rfl⟩:=g;simp only[bM,fa] at h;obtain⟨j,rfl⟩:=h;simp[mA,Pt h1 j]
 ·rename_i O u s x;simp only[df,mn,mA];split at g
  ·rename_i o;simp only[bind_some] at g;obtain⟨e,h1,F,j,G,q,zero,t,g⟩:=g;rw[gP] at g;obtain⟨⟨I,w⟩,rfl⟩:=g;simp only[bM] at h;unfold n5 at h;cases D:p x<;>rw[D] at h<;>(try simp only at h)<;>try (cases h;done)
   rename_i k n;by_cases z:0<=n/\n<9223372036854775808/\n.toNat*G<=dk
   ·rw[aj z] at h;rw[o];simp only[vB,h1,asInt,j,q,t];rw[aj ⟨I,z⟩,F4 w h];rfl
   ·rw[ak z] at h;cases h
  ·cases g
  ·rename_i J o;simp only[bind_some] at g;obtain⟨e,h1,F,j,G,q,g⟩:=g;rw[gP] at g;obtain⟨w,rfl⟩:=g;simp only[bM] at h;unfold eE at h;cases C:cG l F (p x) with
   | none=>rw[C] at h;cases h
   | some K=>
    obtain⟨T,n⟩:=K;rw[C] at h;simp only at h;have:n9 P (aX l) O (p s) (p x)=some (v,aX l'):=by
     simp only[n9,h1,j,q,yn,C];exact F4 w h
    rw[this];cases H:P.underlying u with
    | none=>exact bP H o
    | some d=>
     cases d<;>first | rfl | (rename_i k;exact bP H (J k))
 ·simp only[bind_some,map_some] at g;obtain⟨e,h1,F,j,rfl⟩:=g;simp only[bM] at h;simp[mA,P4 h1 j h]
 ·split at g
  ·rename_i e o;rw[map_some] at g;obtain⟨zero,h1,rfl⟩:=g;simp only[bM,map_some,Prod.mk.injEq] at h;obtain⟨S,j,rfl,rfl⟩:=h;simp[mA,PI o h1 j]
  ·cases g
 ·cases g;simp only[bM,fa] at h;obtain⟨j,rfl⟩:=h;simp[mA,j]
 ·cases g;simp only[bM,fa] at h;obtain⟨j,rfl⟩:=h;simp[mA,j]
 ·cases g
theorem Dk {t:aC} (h1:dC P t=some false) (cs:ag) (off:Nat) :gv P t cs off=cs[off]?:=by unfold gv;rw[h1]
theorem JU {t:aC} {n:Nat} (h1:dC P t=some true) (g:b5 P t=some n) (cs:ag) (off:Nat) :gv P t cs off=ss n cs off:=by unfold gv;rw[h1,g];rfl
theorem Bz {s d:aC} {x:U} (h:∀ e,P.underlying d=some (.slice e)->False) :tI P s d x=none:=by
 unfold tI;split
 ·rename_i e m j g;exact (h e g).elim
 ·rfl
theorem zg {op:Op} {m:dx} (j:ku P op=some m) {t:aW->U} {l l' : ae} {v:U} (h:bM P t l m=some (v,l')) :cF P (aX l) t op=some (.val v (aX l')):=by
 cases op<;>simp only[ku] at j<;>try (cases j;done)
 case move x=>cases j;simp only[bM,bd,Prod.mk.injEq] at h;obtain⟨rfl,rfl⟩:=h;rfl
 case assign x=>cases j;simp only[bM,bd,Prod.mk.injEq] at h;obtain⟨rfl,rfl⟩:=h;rfl
 case pick c a b=>
  cases j;simp only[bM,fa] at h;obtain⟨g,rfl⟩:=h;simp only[cF];unfold zC at g;cases H:t c<;>rw[H] at g<;>(try simp only at g)<;>try (cases g;done)
  cases g;rfl
 case alloc w=>
  rw[map_some] at j;obtain⟨zero,h1,rfl⟩:=j;simp only[bM,bd,Prod.mk.injEq] at h;obtain⟨rfl,rfl⟩:=h;simp only[cF,h1,lI];rfl
 case box w x=>
  cases j;simp only[bM,map_some,Prod.mk.injEq] at h;obtain⟨cs,h1,rfl,rfl⟩:=h;simp only[cF,h1,lI];rfl
 case build w ay=>
  simp only[bind_some,map_some] at j;obtain⟨zero,h1,q,g,rfl⟩:=j;simp only[bM,fa,map_some] at h;obtain⟨⟨cs,o,rfl⟩,rfl⟩:=h;simp only[cF,O2 g t zero h1 o];rfl
 case buildSlice w n ay=>
  simp only[bind_some] at j;obtain⟨e,h1,J,g,zero,o,j⟩:=j;rw[gP] at j;obtain⟨z,rfl⟩:=j;simp only[bM,map_some,Prod.mk.injEq] at h;obtain⟨cs,S,rfl,rfl⟩:=h;simp only[cF,ye,h1,g,o,aj z,S,lI];rfl
 case load w a=>
  split at j
  ·rename_i n h1 g;cases j;simp only[bM,fa] at h;obtain⟨o,rfl⟩:=h;simp only[cF,SZ h1 g,KO,o];rfl
  ·rename_i h1;cases j;simp only[bM,fa] at h;obtain⟨o,rfl⟩:=h;simp only[cF,SY h1,KO,o];rfl
  ·cases j
 case store w a x=>
  rw[map_some] at j;obtain⟨n,h1,rfl⟩:=j;simp only[bM,map_some,Prod.mk.injEq] at h;obtain⟨Y,g,rfl,rfl⟩:=h;simp only[cF,X0 h1 g];rfl
 case nilCheck x=>
  cases j;simp only[bM,fa] at h;obtain⟨g,rfl⟩:=h;simp only[cF];unfold zn at g;cases H:t x<;>rw[H] at g<;>simp only at g<;>first | (cases g;done) | (cases g;rfl)
 case binOp aw w x y u=>
  cases j;simp only[bM,fa] at h;obtain⟨g,rfl⟩:=h;simp only[cF,g];rfl
 case unOp aw w x=>
  cases j;simp only[bM,fa] at h;obtain⟨g,rfl⟩:=h;simp only[cF,g];rfl
 case convert s d x=>
  simp only[cF];split at j
  ·rename_i aA k I F;cases j;simp only[bM,fa] at h;obtain⟨g,rfl⟩:=h;rw[Bz (fun e D=>by rw[F] at D;cases D)];unfold vM at g;cases p:t x<;>rw[p] at g<;>(try simp only at g)<;>try (cases g;done)
   cases g;simp only[rV,I,F];rfl
  ·rename_i e I F;split at j
   ·rename_i D;cases j;simp only[bM,fa] at h;obtain⟨g,rfl⟩:=h;rw[Bz (fun e D=>by rw[F] at D;cases D)];have:rV P (aX l') s d (t x)=some v:=by
     rw[<-g];unfold rV pc;rw[I,F];cases p:t x<;>(simp only[D,yn])<;>(try rfl)<;>(rw[p] at g;unfold pc at g;simp only at g)
     ·cases g
     all_goals (cases H:cG l' 1 _<;>rfl)
    rw[this];rfl
   ·cases j
  ·rename_i I F;cases j;simp only[bM,fa] at h;obtain⟨g,rfl⟩:=h;rw[Bz (fun e D=>by rw[F] at D;cases D)];unfold G3 at g;cases p:t x<;>rw[p] at g<;>(try simp only at g)<;>try (cases g;done)
   cases g;simp only[rV,I,F];rfl
  ·rename_i e I F;split at j
   ·rename_i D;cases j;simp only[bM,fa] at h;obtain⟨g,rfl⟩:=h;unfold rW at g;cases p:t x<;>rw[p] at g<;>(try simp only at g)<;>try (cases g;done)
    cases g;simp only[tI,I,F,D]
   ·cases j
  ·cases j
 case makeInterface w x=>
  split at j
  ·cases j
  ·cases j
  ·rename_i h1 g;cases j;simp only[bM,bd,Prod.mk.injEq] at h;obtain⟨rfl,rfl⟩:=h;simp only[cF]
 case typeAssert x aG w ax=>
  rw[map_some] at j;obtain⟨J,V,rfl⟩:=j;simp only[bM,fa] at h;obtain⟨g,rfl⟩:=h;simp only[cF,V,g,cz]
 case makeFunc f a b=>
  cases f<;>simp only at j<;>try (cases j;done)
  cases j;simp only[bM,bd,Prod.mk.injEq] at h;obtain⟨rfl,rfl⟩:=h;rfl
 case makeSlice w a c=>
  simp only[bind_some] at j;obtain⟨e,h1,J,g,az,o,zero,z,j⟩:=j;rw[gP] at j;obtain⟨S,rfl⟩:=j;simp only[bM] at h;unfold l2 at h;cases K:t a<;>rw[K] at h<;>(try simp only at h)<;>try (cases h;done)
  cases H:t c<;>rw[H] at h<;>(try simp only at h)<;>try (cases h;done)
  rw[gP] at h;obtain⟨ai,al⟩:=h;cases al;simp only[cF,K,H,y9,h1,asInt,g,o,z,aj (And.intro S ai),lI];rfl
 case slice w x aD C aE=>
  rw[map_some] at j;obtain⟨aF,h1,rfl⟩:=j;simp only[bM,fa] at h;obtain⟨g,rfl⟩:=h;rw[Xw h1] at g;simp only[cF,g];rfl
 case fieldAddr s x f=>
  rw[bind_some] at j;obtain⟨ag,h1,j⟩:=j;split at j
  ·rename_i n g;cases j;simp only[bM,fa] at h;obtain⟨o,rfl⟩:=h;simp only[cF,yA,h1,g,o];rfl
  ·cases j
 case field w x f=>
  rw[bind_some] at j;obtain⟨ag,h1,j⟩:=j;split at j
  ·rename_i n g o;cases j;simp only[bM,fa] at h;obtain⟨z,rfl⟩:=h;unfold yH at z;cases p:t x<;>rw[p] at z<;>(try simp only at z)<;>try (cases z;done)
   simp only[cF,p,h1,JU g o,z];rfl
  ·rename_i g;cases j;simp only[bM,fa] at h;obtain⟨z,rfl⟩:=h;unfold HL at z;cases p:t x<;>rw[p] at z<;>(try simp only at z)<;>try (cases z;done)
   simp only[cF,p,h1,Dk g,z];rfl
  ·cases j
 case indexAddr w x i=>
  split at j
  ·rename_i n J h1;cases j;simp only[bM,fa] at h;obtain⟨g,rfl⟩:=h;simp only[cF,H9 h1 g];rfl
  ·rename_i J h1;cases j;simp only[bM,fa] at h;obtain⟨g,rfl⟩:=h;simp only[cF,H9 h1 g];rfl
  ·cases j
 case index w x i=>
  split at j
  ·rename_i n e B;split at j
   ·rename_i J h1 g;cases j;simp only[bM,fa] at h;obtain⟨o,rfl⟩:=h;unfold Ir at o;cases p:t x<;>rw[p] at o<;>(try simp only at o)<;>try (cases o;done)
    cases C:t i<;>rw[C] at o<;>(try simp only at o)<;>try (cases o;done)
    simp only[cF,ua,p,C,B,asInt,h1,JU g h1,o];rfl
   ·rename_i J h1 g;cases j;simp only[bM,fa] at h;obtain⟨o,rfl⟩:=h;unfold yW at o;cases p:t x<;>rw[p] at o<;>(try simp only at o)<;>try (cases o;done)
    cases C:t i<;>rw[C] at o<;>(try simp only at o)<;>try (cases o;done)
    simp only[cF,ua,p,C,B,asInt,h1,Dk g,o];rfl
   ·cases j
  ·rename_i B;cases j;simp only[bM,fa] at h;obtain⟨o,rfl⟩:=h;unfold ud at o;cases p:t x<;>rw[p] at o<;>(try simp only at o)<;>try (cases o;done)
   cases C:t i<;>rw[C] at o<;>(try simp only at o)<;>try (cases o;done)
   simp only[cF,ua,p,C,B,asInt,o];rfl
  ·cases j
 case extract x i=>
  cases j;simp only[bM,fa] at h;obtain⟨g,rfl⟩:=h;unfold yz at g;cases p:t x<;>rw[p] at g<;>(try simp only at g)<;>try (cases g;done)
  simp only[cF,p,g];rfl
 case call c=>
  split at j
  ·rename_i b G;simp only[cF,qy,G];exact Pf j h
  ·rename_i f O;split at j
   ·rename_i fn x y aq am;rw[gP] at j;obtain⟨C,rfl⟩:=j;simp only[bM] at h;split at h
    case h_2=>cases h
    rename_i Q;rw[fa] at h;obtain⟨g,rfl⟩:=h;unfold cmpL at g;have ao:∀ x,tH (aX l') x=pa l' x:=fun x=>by
     cases x<;>simp only[tH,pa,yn]<;>rfl
    have av:¬(fn.body.isSome=true/\fn.name≠ "runtime.NumGoroutine"):=by
     rintro⟨a,_⟩;unfold wi at C;simp only[bH] at C;rw[Ni.1 C.1.1] at a;cases a
    have ap:t (.func f)=.fn f [] []:=by
     unfold yT at Q;split at Q
     ·rename_i aB ar;rw[ar,mo Q]
     ·cases Q
    simp only[cF,qy,O,ap,aq,ak av,aj C,am,df,mn,iD,eT,vP,ao];cases K:pa l' (t x) with
    | none=>rw[K] at g;cases g
    | some a=>
     cases G:pa l' (t y) with
     | none=>rw[K,G] at g;cases g
     | some b=>rw[K,G] at g;cases g;rfl
   ·cases j
  ·cases j
 case panic x=>cases j;cases h
 case makeMap w r=>
  split at j
  ·rename_i k e B;cases j;simp only[bM] at h;cases r with
   | none=>cases h;simp[cF,B,lI]
   | some x=>
    simp only at h;cases p:asInt (t x) with
    | none=>rw[p] at h;cases h
    | some n=>rw[p] at h;cases h;simp[cF,B,p,lI]
  ·cases j
 case lookup w m k ax=>
  split at j
  ·rename_i R W B;rw[map_some] at j;obtain⟨J,V,rfl⟩:=j;simp only[bM,fa] at h;obtain⟨g,rfl⟩:=h;have au:∀ x,wy (aX l') x=uo l' x:=fun x=>by
    cases x<;>try rfl
    rename_i b;simp only[wy,uo,jO];cases l'[b]? with
    | none=>rfl
    | some c=>cases c<;>rfl
   unfold wv at g;simp only[cF,y8,B,au];cases X:uo l' (t m) with
   | none=>rw[X] at g;cases g
   | some Z=>
    rw[X] at g;simp only at g ⊢;cases hk:kD P R (t k) with
    | false=>rw[hk] at g;cases g
    | true=>
     rw[hk] at g;simp only at g ⊢;cases O:jV P R (t k) Z 0 with
     | none=>rw[O] at g;cases g
     | some r=>
      rw[O] at g;cases r with
      | none=>cases g;simp[V]
      | some aC=>cases g;rfl
  ·cases j
 case mapUpdate w m k x=>
  split at j
  ·rename_i R W B;cases j;simp only[bM,map_some] at h;obtain⟨Y,g,o⟩:=h;cases o;simp only[cF,IW B g];rfl
  ·cases j
 case insert w m k x=>
  split at j
  ·rename_i R W B;cases j;simp only[bM,map_some] at h;obtain⟨Y,g,o⟩:=h;cases o;simp only[cF,IW B g];rfl
  ·cases j
 case range w x=>
  split at j
  ·rename_i B;cases j;simp only[bM] at h;unfold w6 at h;cases p:t x<;>rw[p] at h<;>(try simp only at h)<;>try (cases h;done)
   cases h;simp[cF,zL,B,p,lI]
  ·cases j
 case next it b=>
  cases b with
  | false=>cases j
  | true=>
   cases j;simp only[bM] at h;unfold cK at h;simp only[cF,zl];cases p:t it<;>rw[p] at h<;>(try simp only at h)<;>try (cases h;done)
   rename_i b;simp only[jO];cases G:l[b]? with
   | none=>rw[G] at h;cases h
   | some c=>
    cases c<;>rw[G] at h<;>simp only at h<;>try (cases h;done)
    simp only;split at h
    ·rename_i T;cases h;rw[T];simp only[cz,mu _ (a2 G)]
    ·rename_i T;cases h;rw[T];rfl
end
abbrev aR:=Nat->U
abbrev fP:=qi->aR->ae->Prop
class FH (alZ:Type) where
 k:alZ->Prop
class vt where
 p:Prop
 q:Prop
class qn where
 k:U->ae->Prop
class Bb where
 k:fP
def W {alZ:Type} (o:Option alZ) [c:FH alZ] :Prop:=match o with | some g=>c.k g | none=>False
def oC (b:Bool) [c:vt] :Prop:=match b with | true=>c.p | false=>c.q
def wn (x:U) [c:vt] :Prop:=match x with | .bool b=>oC b (c:=c) | _=>False
def pz (x:U) (w:Bool) [c:vt] :Prop:=match x with | .bool b=>oC (b == w) (c:=c) | .bad=>False | _=>c.q
inductive rF where
 | fG (g:dx)
 | k4 (f:cf) (args:List aW)
 | lO (x:aW) (args:List aW)
 | nm (x:aW) (name:String) (args:List aW)
structure c8 where
 i:Nat
 dst:Option Tmp
 g:Option (Option Tmp × Bool)
 b:rF
 qA:List Nat
 bq:Bool
inductive fO where
 | skip
 | ret
 | exit (id:Nat)
 | jB (s:List c8)
 | vU (s:List c8)
 | seq (a b:fO)
 | cond (c:aW) (x y:fO)
 | block (id:Nat) (c:fO)
 | loop (c:fO)
section
variable (P:bj) (G:Nat->U)
def fR (f:cf) :Bool:=match P.funcs[f]? with | some fn=>fn.body.isSome&&fn.name != "runtime.NumGoroutine" | none=>false
def fY (f:cf) (args:ag) (l:ae) [c:qn] :Prop:=∃ r g,cZ P G (.call f args (aX l) r (aX g))/\l.length<=g.length/\c.k r g
def vJ (x:U) (args:ag) (l:ae) [c:qn] :Prop:=match x with
 | .fn g first e7=>fR P g=true/\fY P G g (first++args++e7) l (c:=c)
 | _=>False
def yh (name:String) (x:U) (args:ag) (l:ae) [c:qn] :Prop:=match x with
 | .gc h j=>match wz P h name with
  | some g=>fR P g=true/\fY P G g (j::args) l (c:=c)
  | none=>False
 | _=>False
def b2 (v:U) (l:ae) [c:qn] :Prop:=c.k v l\/∃ h g,iF (aX l) (aX g)/\iE (aX l) (aX g) v h/\c.k h g
def ey (m:dx) (v:U) (l:ae) (K:U->ae->Prop) :Prop:=match m with
 | .app ..=>b2 v l (c:=⟨K⟩)
 | _=>K v l
def gI (b:rF) (sgZ:aR) (l:ae) (K:U->ae->Prop) :Prop:=match b with
 | .fG g=>W (bM P (dv G sgZ) l g) (c:=⟨fun x=>ey g x.1 x.2 K⟩)
 | .k4 f args=>fY P G f (args.map (dv G sgZ)) l (c:=⟨K⟩)
 | .lO x args=>vJ P G (dv G sgZ x) (args.map (dv G sgZ)) l (c:=⟨K⟩)
 | .nm x name args=>yh P G name (dv G sgZ x) (args.map (dv G sgZ)) l (c:=⟨K⟩)
def oB (sgZ:aR) (g:Option (Option Tmp × Bool)) (p q:Prop) :Prop:=match g with
 | none=>p
 | some (some d,w)=>pz (sgZ d) w (c:=⟨p,q⟩)
 | some (none,_)=>q
def iz:List c8->aR->ae->(aR->ae->Prop)->Prop
 | [],h,l,j=>j h l
 | s::r,h,l,j=>oB h s.g (gI P G s.b h l fun o m=>iz r (gG h s.dst o) m j) (iz r (gG h s.dst fL) l j)
abbrev ij:=List (Nat × (ae->Prop))
def pf (g:List Nat) :ij->ae->Prop
 | [],_=>True
 | e::r,l=>(g.contains e.1=true->e.2 l)/\pf g r l
def dx.lg:dx->Bool
 | .alloc _ | .box _ | .qx .. | .sl ..=>true
 | _=>false
def kR (b:rF) (sgZ:aR) (v:U) (l l' l1:ae) :Prop:=match b with
 | .fG g=>match g.lg with
  | true=>l1[l.length]?=l'[l.length]?
  | false=>bM P (dv G sgZ) l1 g=some (v,l1)
 | _=>True
def pW (bq:Bool) (i:Nat) (p:ae->Prop) (s:ij) :ij:=match bq with | true=>(i,p) ::s | false=>s
def jC:List c8->aR->ae->ij->(aR->ae->Prop)->Prop
 | [],h,l,_,j=>j h l
 | s::r,h,l,seen,j=>oB h s.g (gI P G s.b h l fun o m=>pf s.qA seen m/\jC r (gG h s.dst o) m (pW s.bq s.i (kR P G s.b h o l m) seen) j) (jC r (gG h s.dst fL) l seen j)
def mN (k:aR->ae->Prop) (K:fP) :fP:=fun e g l=>match e with
 | .normal=>k g l
 | .exit id=>K (.exit id) g l
 | .ret=>K .ret g l
def qO (id:Nat) (K:fP) :fP:=fun e g l=>match e with
 | .normal=>K .normal g l
 | .exit h=>match Nat.beq h id with | true=>K .normal g l | false=>K (.exit h) g l
 | .ret=>K .ret g l
def uk (r:aR->ae->fP->Prop) :Nat->aR->ae->fP->Prop
 | 0=>fun _ _ _=>False
 | n+1=>fun g l h=>r g l (mN (fun g l=>uk r n g l h) h)
def x2 (r:aR->ae->fP->Prop) (sgZ:aR) (l:ae) [c:Bb] :Prop:=∃ n,uk r n sgZ l c.k
def run:fO->aR->ae->fP->Prop
 | .skip,g,l,h=>h .normal g l
 | .ret,g,l,h=>h .ret g l
 | .exit id,g,l,h=>h (.exit id) g l
 | .jB s,g,l,h=>iz P G s g l (h .normal)
 | .vU s,g,l,h=>jC P G s g l [] (h .normal)
 | .seq a b,g,l,h=>run a g l (mN (fun g l=>run b g l h) h)
 | .cond c x y,g,l,h=>wn (dv G g c) (c:=⟨run x g l h,run y g l h⟩)
 | .block id c,g,l,h=>run c g l (qO id h)
 | .loop c,g,l,h=>x2 (run c) g l (c:=⟨h⟩)
def uU (ops:Array bb) (i:Nat) (h:List Nat) (bq:Bool) :Option c8:=(ops[i]?).bind fun g=>
 let j:=g.guard.map fun m=>((ops[m.1]?).bind (·.dst),m.2)
 match ku P g.op with
 | some o=>some ⟨i,g.dst,j,.fG o,h,bq⟩
 | none=>match g.op with
  | .call c=>match c.callee with
   | .value (.func f)=>match fR P f with
    | true=>some ⟨i,g.dst,j,.k4 f c.args.toList,h,bq⟩
    | false=>none
   | .value x=>some ⟨i,g.dst,j,.lO x c.args.toList,h,bq⟩
   | .invoke x name=>some ⟨i,g.dst,j,.nm x name c.args.toList,h,bq⟩
   | _=>none
  | _=>none
def oT:Op->Bool
 | .load .. | .convert .. | .alloc _ | .box .. | .buildSlice .. | .makeSlice ..=>true
 | .call c=>match c.callee,c.argTypes.toList with
  | .builtin .len,[g]=>match P.underlying g with | some (.map _ _)=>true | _=>false
  | _,_=>false
 | _=>false
def PE (j:List Nat) (ops:Array bb) (done h:List Nat) :List Nat:=
 done.filter fun g=>(match ops[g]? with | some m=>oT P m.op | none=>false)&&h.all fun e=>!l7 j e g
def lq (h:List Nat) (ops:Array bb) :List Nat->List Nat->List Nat->List (Nat × List Nat)
 | [],_,_=>[]
 | i::r,done,g=>match ops[i]? with
  | none=>[]
  | some j=>match io j.op with
   | true=>(i,PE P h ops done (i::g)) ::lq h ops r (i::done) (match j.guard with | none=>i::g | some _=>g)
   | false=>(i,[]) ::lq h ops r (i::done) g
def vV (g:List Nat) (ops:Array bb) :List Nat->Bool
 | []=>true
 | i::r=>(match ops[i]? with | some j=>!io j.op||r.all fun h=>l7 g h i | none=>false)&&vV g ops r
def BM (N:Nat) (ops:Array bb) (draw:Bool) :Option fO:=
 match ops.toList.all fun o=>hN N o.dst with
 | false=>none
 | true=>match draw with
  | false=>((List.range ops.size).mapM fun i=>uU P ops i [] false).map .jB
  | true=>
   let g:=gY ops
   let h:=eJ g ops
   match Dh g ops h&&vV g ops h with
   | false=>none
   | true=>
    let m:=lq P g ops h [] []
    let ask:=m.flatMap (·.2)
    match m.mapM fun j=>uU P ops j.1 j.2 (ask.contains j.1) with
    | none=>none
    | some s=>match ask with
     | []=>some (.jB s)
     | _=>some (.vU s)
def comp (N:Nat) :Code->Option fO
 | .skip=>some .skip
 | .label _=>some .skip
 | .ret=>some .ret
 | .exit id=>some (.exit id)
 | .region _ ops draw=>BM P N ops draw
 | .seq a b=>match comp N a,comp N b with
  | some .skip,some b=>some b
  | some a,some .skip=>some a
  | some a,some b=>some (.seq a b)
  | _,_=>none
 | .cond c x y=>match comp N x,comp N y with
  | some x,some y=>some (.cond c x y)
  | _,_=>none
 | .block id c=>(comp N c).map (.block id)
 | .loop c=>(comp N c).map .loop
 | .scope c=>comp N c
 | _=>none
def vQ (f:cf) :Option fO:=match P.funcs[f]? with
 | some fn=>match fn.body with
  | some c=>comp P fn.ntmps c
  | none=>none
 | none=>none
end
section
variable {P:bj} {G:Nat->U}
theorem F3 {l l' : ae} {z by_ n:Nat} {s v:U} {xs:ag} (h:ht l z by_ s xs n=some (v,l')) :l.length<=l'.length:=by
 unfold ht at h
 repeat' split at h
 all_goals first | (cases h;done) | (cases h;simp)
theorem Jb {g:aW->U} {l l' : ae} {m:dx} {v:U} (h:bM P g l m=some (v,l')) :l.length<=l'.length:=by
 cases m<;>simp only[bM,fa,map_some,bd,Prod.mk.injEq] at h
 case ei=>obtain⟨_,rfl⟩:=h;exact aI _
 case alloc=>obtain⟨_,rfl⟩:=h;simp
 case box=>obtain⟨_,_,_,rfl⟩:=h;simp
 case qx=>obtain⟨_,_,_,rfl⟩:=h;simp
 case st n a x=>
  obtain⟨_,h,_,rfl⟩:=h;unfold jG at h
  repeat' split at h
  all_goals first | (cases h;done) | (cases h;simp)
 case CW=>obtain⟨_,rfl⟩:=h;exact aI _
 case wA=>obtain⟨_,rfl⟩:=h;exact aI _
 case sl=>
  unfold l2 at h
  repeat' split at h
  all_goals first | (cases h;done) | (cases h;simp)
 case app=>
  unfold eE at h;split at h
  ·cases h
  ·exact F3 h
 case tB=>
  unfold n5 at h
  repeat' split at h
  all_goals first | (cases h;done) | exact F3 h
 case yq=>
  unfold yo at h
  repeat' split at h
  all_goals first | (cases h;done) | (cases h;simp)
 case tN=>
  obtain⟨_,h,_,rfl⟩:=h;unfold pg at h
  repeat' split at h
  all_goals first | (cases h;done) | (cases h;simp)
 case stop=>cases h
 case uq x=>
  cases x with
  | none=>cases h;simp
  | some j=>
   simp only at h;split at h
   ·cases h;simp
   ·cases h
 case us=>
  obtain⟨_,h,_,rfl⟩:=h;unfold si at h
  repeat' split at h
  all_goals first | (cases h;done) | (cases h;simp)
 case uN=>
  unfold w6 at h
  repeat' split at h
  all_goals first | (cases h;done) | (cases h;simp)
 case uv=>
  unfold cK at h
  repeat' split at h
  all_goals first | (cases h;done) | (cases h;simp)
 case bJ=>
  split at h
  ·rw[fa] at h;obtain⟨_,rfl⟩:=h;exact aI _
  ·cases h
 all_goals (obtain⟨_,rfl⟩:=h;exact aI _)
theorem x6 {alZ:Type} {o:Option alZ} {c:FH alZ}:W o (c:=c)<->∃ v,o=some v/\c.k v:=by unfold W;cases o<;>simp
theorem wo {b:Bool} {c:vt}:oC b (c:=c)<->(b=true/\c.p)\/(b=false/\c.q):=by cases b<;>simp[oC]
structure mx (P:bj) (ops:Array bb) (s:c8) (o:bb) :Prop where
 here:ops[s.i]?=some o
 dst:s.dst=o.dst
 g:s.g=o.guard.map fun h=>((ops[h.1]?).bind (·.dst),h.2)
 fG:∀ m,s.b=.fG m->ku P o.op=some m
 k4:∀ f args,s.b=.k4 f args->∃ c:Call,o.op=.call c/\c.callee=.value (.func f)/\c.args.toList=args/\fR P f=true
 lO:∀ x args,s.b=.lO x args->∃ c:Call,o.op=.call c/\c.callee=.value x/\c.args.toList=args
 nm:∀ x name args,s.b=.nm x name args->∃ c:Call,o.op=.call c/\c.callee=.invoke x name/\c.args.toList=args
theorem xp {ops:Array bb} {i:Nat} {q:List Nat} {bq:Bool} {s:c8} (h:uU P ops i q bq=some s) :∃ o,mx P ops s o/\s.i=i/\s.qA=q/\s.bq=bq:=by
 unfold uU at h;rw[bind_some] at h;obtain⟨o,j,h⟩:=h;refine⟨o,?_⟩;simp only at h;split at h
 ·rename_i w u;cases h;exact⟨⟨j,rfl,rfl,fun p h=>(by cases h;exact u),fun f a h=>(by cases h),fun x a h=>(by cases h),fun x n a h=>(by cases h)⟩,rfl,rfl,rfl⟩
 ·split at h
  ·rename_i c m;split at h
   ·rename_i f g;split at h
    ·rename_i t;cases h;exact⟨⟨j,rfl,rfl,fun p h=>(by cases h),fun f a h=>(by cases h;exact⟨c,m,g,rfl,t⟩),fun x a h=>(by cases h),fun x n a h=>(by cases h)⟩,rfl,rfl,rfl⟩
    ·cases h
   ·rename_i x v g;cases h;exact⟨⟨j,rfl,rfl,fun p h=>(by cases h),fun f a h=>(by cases h),fun x a h=>(by cases h;exact⟨c,m,g,rfl⟩),fun x n a h=>(by cases h)⟩,rfl,rfl,rfl⟩
   ·rename_i x name g;cases h;exact⟨⟨j,rfl,rfl,fun p h=>(by cases h),fun f a h=>(by cases h),fun x a h=>(by cases h),fun x n a h=>by cases h;exact⟨c,m,g,rfl⟩⟩,rfl,rfl,rfl⟩
   ·cases h
  ·cases h
theorem HR {g:cf} (j:fR P g=true) {h:aH} {m:aW->U} {c:Call} {x:aW} {first e7:ag} (p:c.callee=.value x) (q:m x=.fn g first e7) :
  cF P h m (.call c)=some (.call g (first++c.args.toList.map m++e7) h):=by
 unfold fR at j;simp only[cF,qy,p,q];cases o:P.funcs[g]? with
 | none=>rw[o] at j;cases j
 | some fn=>
  rw[o] at j;simp only[bH,bne_iff_ne] at j;simp only;rw[aj j]
theorem Rt {g:cf} (j:fR P g=true) {h:aH} {m:aW->U} {c:Call} {x:aW} {name:String} {t:aC} {v:U} (p:c.callee=.invoke x name) (u:m x=.gc t v) (q:wz P t name=some g) :
  cF P h m (.call c)=some (.call g (v::c.args.toList.map m) h):=by
 unfold fR at j;simp only[cF,qy,p,u,q];cases o:P.funcs[g]? with
 | none=>rw[o] at j;cases j
 | some fn=>
  rw[o] at j;simp only[bH,bne_iff_ne] at j;simp only;rw[aj j]
def dx.looks:dx->Bool
 | .alloc _ | .box _ | .qx .. | .sl .. | .st .. | .app .. | .tB .. | .yq .. | .tN .. | .uq _ | .wu .. | .us .. | .uN _ | .uv _ | .bJ .. | .EJ .. | .stop=>false
 | _=>true
theorem SC {m:dx} {v:U} {l:ae} {K:U->ae->Prop} (h:ey m v l K) :K v l\/(m.looks=false/\m.lg=false/\∃ j g,iF (aX l) (aX g)/\iE (aX l) (aX g) v j/\K j g):=by
 cases m<;>first | exact .inl h | skip
 rcases h with h | h
 ·exact .inl h
 ·exact .inr ⟨rfl,rfl,h⟩
theorem IE {m:dx} {v:U} {l:ae} {K h0:U->ae->Prop} (g:∀ v l,K v l->h0 v l) (h:ey m v l K) :ey m v l h0:=by
 cases m<;>first | exact g _ _ h | skip
 rcases h with h | ⟨q,p,h1,j,o⟩
 ·exact .inl (g _ _ h)
 ·exact .inr ⟨q,p,h1,j,g _ _ o⟩
theorem L1 {ops:Array bb} {s:c8} {o:bb} (C:mx P ops s o) {sgZ:aR} {l:ae} {K:U->ae->Prop} (h:gI P G s.b sgZ l K) :
  ∃ v l',cZ P G (.op o.op sgZ (aX l) v (aX l'))/\l.length<=l'.length/\K v l'/\∀ m,s.b=.fG m->(m.looks=true\/m.lg=true)->bM P (dv G sgZ) l m=some (v,l'):=by
 cases p:s.b with
 | fG m=>
  rw[p] at h;simp only[gI,x6] at h;obtain⟨⟨v,l'⟩,h1,j⟩:=h;have F:=cZ.wS (G:=G) (zg (C.fG m p) h1);rcases SC j with j | ⟨S,T,V,R,I,O,Q⟩
  ·exact⟨v,l',F,Jb h1,j,fun B g _=>by cases g;exact h1⟩
  ·refine⟨V,R,.Aw F I O,dL (Jb h1) (A3 I.n.symm),Q,fun B g H=>?_⟩;cases g;rw[S,T] at H;rcases H with h | h<;>cases h
 | k4 f args=>
  rw[p] at h;obtain⟨r,l',h1,j,q⟩:=h;obtain⟨c,z,u,t,w⟩:=C.k4 f args p;refine⟨r,l',?_,j,q,fun B g _=>by cases g⟩;rw[z];refine .sq (HR w u rfl) ?_;simpa [t] using h1
 | lO x args=>
  rw[p] at h;simp only[gI] at h;obtain⟨c,z,u,t⟩:=C.lO x args p;unfold vJ at h;split at h
  ·rename_i J first e7 D
   obtain⟨w,r,l',h1,j,q⟩:=h;refine⟨r,l',?_,j,q,fun B g _=>by cases g⟩;rw[z];refine .sq (HR w u D) ?_;rw[t];exact h1
  ·cases h
 | nm x name args=>
  rw[p] at h;simp only[gI] at h;obtain⟨c,z,u,t⟩:=C.nm x name args p;unfold yh at h;split at h
  ·rename_i W v D;split at h
   ·rename_i J g;obtain⟨w,r,l',h1,j,q⟩:=h;refine⟨r,l',?_,j,q,fun B g _=>by cases g⟩;rw[z];refine .sq (Rt w u D g) ?_;rw[t];exact h1
   ·cases h
  ·cases h
theorem IA {ops:Array bb} {s:c8} {o:bb} (B:mx P ops s o) {sgZ:aR} {p q:Prop} (h:oB sgZ s.g p q) :(iC ops sgZ o=some true/\p)\/(iC ops sgZ o=some false/\q):=by
 rw[B.g] at h;unfold iC;cases t:o.guard with
 | none=>rw[t] at h;exact .inl ⟨rfl,h⟩
 | some z=>
  obtain⟨v,w⟩:=z;rw[t] at h;simp only[cz] at h ⊢;cases m:(ops[v]?).bind (·.dst) with
  | none=>rw[m] at h;exact .inr ⟨rfl,h⟩
  | some d=>
   rw[m] at h;simp only[oB,pz] at h ⊢;cases u:sgZ d<;>rw[u] at h<;>simp only at h ⊢<;>first | exact .inr ⟨trivial,h⟩ | (cases h;done) | skip
   rw[wo] at h;rcases h with ⟨h1,j⟩ | ⟨h1,j⟩
   ·exact .inl ⟨by rw[h1],j⟩
   ·exact .inr ⟨by rw[h1],j⟩
inductive kX (P:bj) (ops:Array bb) :List c8->List bb->Prop
 | nil:kX P ops [] []
 | cons {s g j h}:mx P ops s g->kX P ops j h->kX P ops (s::j) (g::h)
theorem xf {ops:Array bb} {N:Nat} (p:∀ (i:Nat) (o:bb),ops[i]?=some o->hN N o.dst=true) {K:aR->ae->Prop}:∀ {s:List c8} {os:List bb} {sgZ:aR} {l:ae},
  kX P ops s os->iz P G s sgZ l K->∃ m l',cZ P G (.ops ops os N sgZ (aX l) m (aX l'))/\l.length<=l'.length/\K m l'
 | [],_,sgZ,l,g,h=>by cases g;exact⟨sgZ,l,.JI,aI _,h⟩
 | s::r,_,sgZ,l,g,h=>by
  cases g with
  | cons j g=>
   rename_i o os;rcases IA j h with ⟨v,h⟩ | ⟨v,h⟩
   ·obtain⟨C,B,h1,w,z,_⟩:=L1 j h;obtain⟨m,l',q,t,u⟩:=xf p g z;exact⟨m,l',.JJ v (p _ _ j.here) h1 (by rw[<-j.dst];exact q),dL w t,u⟩
   ·obtain⟨m,l',q,t,u⟩:=xf p g h;exact⟨m,l',.JK v (p _ _ j.here) (by rw[<-j.dst];exact q),t,u⟩
theorem KN {l x:ae} {p:U} {y:ag × Nat} (h:fV l p=some y) :fV (l++x) p=some y:=by
 cases p<;>first | exact h | skip
 rename_i b j m;simp only[fV] at h ⊢;cases g:l[b]? with
 | none=>rw[g] at h;cases h
 | some c=>rw[g] at h;rw[aV (a2 g),g];exact h
theorem P1 {l x:ae} {z:Nat} {p:U} {y:ag × Nat} (h:cG l z p=some y) :cG (l++x) z p=some y:=by
 cases p<;>first | exact h | skip
 rename_i o b j len cap m;simp only[cG] at h ⊢;cases g:l[b]? with
 | none=>rw[g] at h;cases h
 | some c=>rw[g] at h;rw[aV (a2 g),g];exact h
theorem Px {l x:ae} {p v:U} (h:pc l p=some v) :pc (l++x) p=some v:=by
 unfold pc at h ⊢;cases p<;>simp only at h ⊢<;>first | exact h | skip
 all_goals
  split at h
  ·rename_i cs n g;rw[P1 g];exact h
  ·cases h
def dx.reads:dx->Bool
 | .ld1 _ | .jZ .. | .qz _ | .y6 _=>true
 | _=>false
theorem S4 {j:aW->U} {l l' : ae} {m:dx} {v:U} (g:m.looks=true) (h:bM P j l m=some (v,l')) :l'=l:=by cases m<;>simp only[dx.looks,jJ] at g<;>simp only[bM,fa,bd,Prod.mk.injEq] at h<;>first | exact h.2 | exact h.2.symm
theorem S2 {j:aW->U} {l x:ae} {m:dx} {v:U} (p:m.looks=true) (h:bM P j l m=some (v,l)) :bM P j (l++x) m=some (v,l++x):=by
 cases m<;>simp only[dx.looks,jJ] at p<;>simp only[bM,fa,bd,Prod.mk.injEq,and_true] at h ⊢<;>try exact h
 case ld1 a=>
  rw[bind_some] at h ⊢;obtain⟨y,h1,g⟩:=h;exact⟨y,KN h1,g⟩
 case jZ n a=>
  rw[bind_some] at h ⊢;obtain⟨y,h1,g⟩:=h;exact⟨y,KN h1,g⟩
 case qz x=>exact Px h
 case y6 y=>
  unfold CJ at h ⊢;cases q:j y<;>rw[q] at h<;>(try simp only at h)<;>try (cases h;done)
  ·exact h
  ·rename_i b;cases o:l[b]? with
   | none=>rw[o] at h;cases h
   | some c=>simp only[aV (a2 o)];exact h
theorem S3 {j:aW->U} {l g:ae} {m:dx} {v:U} (o:m.looks=true) (p:m.reads=false) (h:bM P j l m=some (v,l)) :bM P j g m=some (v,g):=by cases m<;>simp only[dx.looks,jJ] at o<;>simp only[dx.reads,reduceCtorEq] at p<;>simp only[bM,fa,bd,Prod.mk.injEq,and_true] at h ⊢<;>exact h
theorem zQ (zero:ag) :∀ n,(cD zero n).length=n*zero.length
 | 0=>by simp[cD]
 | n+1=>by rw[cD,cr,zQ zero n,eu,rB]
theorem XL {cs vs:ag} {off:Nat} (h:off+vs.length<=cs.length) :(ax cs off vs).length=cs.length:=by simp only[ax,cr,cO,iT];omega
theorem Hv {g:Nat->Option (Nat × Nat)}:∀ {ps:List (Nat × U)} {zero cs:ag},ew g zero ps=some cs->cs.length=zero.length
 | [],zero,cs,h=>by simp only[ew,bd] at h;rw[<-h]
 | (i,m) ::r,zero,cs,h=>by
  unfold ew at h;split at h
  ·rename_i j size o _ _;split at h
   ·rename_i h1;rw[Hv h,XL F]
   ·cases h
  ·cases h
theorem TN {op:Op} {m:dx} (g:ku P op=some m) (j:m.lg=true) {q:aW->U} {l l' : ae} {v:U} (h:bM P q l m=some (v,l')) :
  ∃ cs mk,kG P q op=some (cs,mk)/\v=mk l.length/\l'=l++[.cells cs.length cs]:=by
 cases op<;>simp only[ku] at g<;>try (cases g;done)
 case alloc C=>
  rw[map_some] at g;obtain⟨zero,h1,rfl⟩:=g;simp only[bM,bd,Prod.mk.injEq] at h;obtain⟨rfl,rfl⟩:=h;exact⟨zero,_,by simp only[kG,h1];rfl,rfl,rfl⟩
 case box C x=>
  cases g;simp only[bM,map_some,Prod.mk.injEq] at h;obtain⟨cs,h1,rfl,rfl⟩:=h;exact⟨cs,_,by simp only[kG,h1];rfl,rfl,rfl⟩
 case buildSlice C n K=>
  simp only[bind_some] at g;obtain⟨e,h1,z,t,zero,u,g⟩:=g;rw[gP] at g;obtain⟨p,rfl⟩:=g;simp only[bM,map_some,Prod.mk.injEq] at h;obtain⟨cs,o,rfl,rfl⟩:=h;have w:cs.length=n*z:=by rw[Hv o,zQ,p.1]
  exact⟨cs,_,by simp only[kG,h1,t,u,aj p,o];rfl,rfl,by rw[w]⟩
 case makeSlice C a c=>
  simp only[bind_some] at g;obtain⟨e,h1,z,t,I,u,zero,p,g⟩:=g;rw[gP] at g;obtain⟨o,rfl⟩:=g;simp only[bM] at h;unfold l2 at h;cases D:q a<;>rw[D] at h<;>(try simp only at h)<;>try (cases h;done)
  cases F:q c<;>rw[F] at h<;>(try simp only at h)<;>try (cases h;done)
  rw[gP] at h;obtain⟨G,H⟩:=h;cases H;rename_i J B;have w:(cD zero B.toNat).length=B.toNat*z:=by rw[zQ,o]
  exact⟨cD zero B.toNat,_,by simp only[kG,D,F,h1,asInt,t,u,p];rw[aj ⟨o,G⟩],rfl,by rw[w]⟩
 case pick=>cases g;cases j
 case move=>cases g;cases j
 case assign=>cases g;cases j
 case nilCheck=>cases g;cases j
 case binOp=>cases g;cases j
 case unOp=>cases g;cases j
 case call c=>
  exfalso;split at g
  ·unfold qD at g
   repeat' split at g
   all_goals first
    | (cases g;done)
    | (cases g;cases j;done)
    | (simp only[bind_some,map_some] at g;obtain⟨_,_,rfl⟩:=g;cases j;done)
    | (simp only[bind_some,map_some] at g;obtain⟨_,_,_,_,rfl⟩:=g;cases j;done)
    | (simp only[bind_some,gP] at g;obtain⟨_,_,_,_,_,_,_,rfl⟩:=g;cases j;done)
    | (simp only[bind_some,gP] at g;obtain⟨_,_,_,_,_,_,_,_,_,rfl⟩:=g;cases j;done)
  ·split at g
   ·rw[gP] at g;obtain⟨_,rfl⟩:=g;cases j
   ·cases g
  ·cases g
 case next it b=>exfalso;cases b<;>simp only[reduceCtorEq] at g<;>cases g<;>cases j
 case panic=>cases g;cases j
 case lookup=>exfalso;split at g<;>(try cases g;done);rw[map_some] at g;obtain⟨_,_,rfl⟩:=g;cases j
 case build=>exfalso;simp only[bind_some,map_some] at g;obtain⟨_,_,_,_,rfl⟩:=g;cases j
 case typeAssert=>exfalso;rw[map_some] at g;obtain⟨_,_,rfl⟩:=g;cases j
 case store=>exfalso;rw[map_some] at g;obtain⟨_,_,rfl⟩:=g;cases j
 case slice=>exfalso;rw[map_some] at g;obtain⟨_,_,rfl⟩:=g;cases j
 case fieldAddr=>exfalso;rw[bind_some] at g;obtain⟨_,_,g⟩:=g;split at g<;>cases g;cases j
 case field=>exfalso;rw[bind_some] at g;obtain⟨_,_,g⟩:=g;split at g<;>cases g<;>cases j
 case extract=>cases g;cases j
 case makeFunc f a b=>exfalso;cases f<;>simp only at g<;>cases g;cases j
 all_goals
  exfalso
  repeat' split at g
  all_goals first | (cases g;done) | (cases g;cases j;done)
end
section
variable {P:bj} {G:Nat->U}
theorem GX {op:Op} {m:dx} (g:ku P op=some m) (h:io op=false) :m.looks=true\/m.lg=true:=by
 cases op<;>simp only[io,E7] at h<;>simp only[ku] at g<;>try (cases g;done)
 case move=>cases g;exact .inl rfl
 case assign=>cases g;exact .inl rfl
 case pick=>cases g;exact .inl rfl
 case alloc=>rw[map_some] at g;obtain⟨_,_,rfl⟩:=g;exact .inr rfl
 case box=>cases g;exact .inr rfl
 case build=>simp only[bind_some,map_some] at g;obtain⟨_,_,_,_,rfl⟩:=g;exact .inl rfl
 case buildSlice=>simp only[bind_some,gP] at g;obtain⟨_,_,_,_,_,_,_,rfl⟩:=g;exact .inr rfl
 case load=>split at g<;>cases g<;>exact .inl rfl
 case nilCheck=>cases g;exact .inl rfl
 case binOp=>cases g;exact .inl rfl
 case unOp=>cases g;exact .inl rfl
 case convert=>
  repeat' split at g
  all_goals first | (cases g;done) | (cases g;exact .inl rfl)
 case makeInterface=>split at g<;>cases g;exact .inl rfl
 case makeFunc f a b=>cases f<;>simp only at g<;>cases g;exact .inl rfl
 case makeSlice=>simp only[bind_some,gP] at g;obtain⟨_,_,_,_,_,_,_,_,_,rfl⟩:=g;exact .inr rfl
 case slice=>rw[map_some] at g;obtain⟨_,_,rfl⟩:=g;exact .inl rfl
 case fieldAddr=>rw[bind_some] at g;obtain⟨_,_,g⟩:=g;split at g<;>cases g;exact .inl rfl
 case field=>rw[bind_some] at g;obtain⟨_,_,g⟩:=g;split at g<;>cases g<;>exact .inl rfl
 case indexAddr=>split at g<;>cases g<;>exact .inl rfl
 case index=>
  repeat' split at g
  all_goals first | (cases g;done) | (cases g;exact .inl rfl)
 case extract=>cases g;exact .inl rfl
 case call c=>
  split at g
  ·rename_i b j;rw[j] at h;cases b<;>simp only[E7] at h<;>unfold qD at g<;>(repeat' split at g)<;>first
    | (cases g;done)
    | (cases g;exact .inl rfl)
    | (rw[map_some] at g;obtain⟨_,_,rfl⟩:=g;exact .inl rfl)
    | (exfalso;simp only[reduceCtorEq] at *;done)
  ·rename_i f o;rw[o] at h;cases h
  ·cases g
theorem GY {op:Op} {m:dx} (g:ku P op=some m) (h:oT P op=false) :m.reads=false/\m.lg=false:=by
 cases op<;>simp only[oT,E7] at h<;>simp only[ku] at g<;>try (cases g;done)
 case move=>cases g;exact⟨rfl,rfl⟩
 case assign=>cases g;exact⟨rfl,rfl⟩
 case pick=>cases g;exact⟨rfl,rfl⟩
 case build=>simp only[bind_some,map_some] at g;obtain⟨_,_,_,_,rfl⟩:=g;exact⟨rfl,rfl⟩
 case store=>rw[map_some] at g;obtain⟨_,_,rfl⟩:=g;exact⟨rfl,rfl⟩
 case nilCheck=>cases g;exact⟨rfl,rfl⟩
 case binOp=>cases g;exact⟨rfl,rfl⟩
 case unOp=>cases g;exact⟨rfl,rfl⟩
 case makeInterface=>split at g<;>cases g;exact⟨rfl,rfl⟩
 case makeFunc f a b=>cases f<;>simp only at g<;>cases g;exact⟨rfl,rfl⟩
 case typeAssert=>rw[map_some] at g;obtain⟨_,_,rfl⟩:=g;exact⟨rfl,rfl⟩
 case slice=>rw[map_some] at g;obtain⟨_,_,rfl⟩:=g;exact⟨rfl,rfl⟩
 case fieldAddr=>rw[bind_some] at g;obtain⟨_,_,g⟩:=g;split at g<;>cases g;exact⟨rfl,rfl⟩
 case field=>rw[bind_some] at g;obtain⟨_,_,g⟩:=g;split at g<;>cases g<;>exact⟨rfl,rfl⟩
 case indexAddr=>split at g<;>cases g<;>exact⟨rfl,rfl⟩
 case index=>
  repeat' split at g
  all_goals first | (cases g;done) | (cases g;exact⟨rfl,rfl⟩)
 case extract=>cases g;exact⟨rfl,rfl⟩
 case next it b=>cases b<;>simp only[reduceCtorEq] at g<;>cases g;exact⟨rfl,rfl⟩
 case panic=>cases g;exact⟨rfl,rfl⟩
 case lookup=>split at g<;>(try cases g;done);rw[map_some] at g;obtain⟨_,_,rfl⟩:=g;exact⟨rfl,rfl⟩
 case mapUpdate=>split at g<;>cases g;exact⟨rfl,rfl⟩
 case insert=>split at g<;>cases g;exact⟨rfl,rfl⟩
 case makeMap=>split at g<;>cases g;exact⟨rfl,rfl⟩
 case range=>split at g<;>cases g;exact⟨rfl,rfl⟩
 case call c=>
  split at g
  ·rename_i b j;rw[j] at h;unfold qD at g
   repeat' split at g
   all_goals first
    | (cases g;done)
    | (exfalso;simp_all;done)
    | (cases g;exact⟨rfl,rfl⟩)
    | (simp only[bind_some,map_some] at g;obtain⟨_,_,rfl⟩:=g;exact⟨rfl,rfl⟩)
    | (simp only[bind_some,map_some] at g;obtain⟨_,_,_,_,rfl⟩:=g;exact⟨rfl,rfl⟩)
    | (simp only[bind_some,gP] at g;obtain⟨_,_,_,_,_,_,_,rfl⟩:=g;exact⟨rfl,rfl⟩)
    | (simp only[bind_some,gP] at g;obtain⟨_,_,_,_,_,_,_,_,_,rfl⟩:=g;exact⟨rfl,rfl⟩)
  ·split at g
   ·rw[gP] at g;obtain⟨_,rfl⟩:=g;exact⟨rfl,rfl⟩
   ·cases g
  ·cases g
inductive kn (P:bj) (G:Nat->U) (s:c8) (o:bb) (sgZ:aR) (l:ae) (v:U) (l1:ae) :bB->Prop
 | pure (g:dx) (h:s.b=.fG g) (m:g.looks=true) (j:l1=l) (t:bM P (dv G sgZ) l g=some (v,l)) :kn P G s o sgZ l v l1 (.pure s.i v)
 | new (g:dx) (cs:ag) (h:s.b=.fG g) (m:g.lg=true) (j:l1=l++[.cells cs.length cs]) :kn P G s o sgZ l v l1 (.new s.i v cs)
 | fh (p:io o.op=true) (q:l.length<=l1.length) :kn P G s o sgZ l v l1 (.fh s.i v (aX l1))
theorem kn.idx {s:c8} {o:bb} {sgZ:aR} {l l1:ae} {v:U} {t:bB} (k:kn P G s o sgZ l v l1 t) :t.idx=s.i:=by cases k<;>rfl
theorem kn.val {s:c8} {o:bb} {sgZ:aR} {l l1:ae} {v:U} {t:bB} (k:kn P G s o sgZ l v l1 t) :t.val=v:=by cases k<;>rfl
theorem kn.next {s:c8} {o:bb} {sgZ:aR} {l l1:ae} {v:U} {t:bB} (k:kn P G s o sgZ l v l1 t) :mS (aX l) t=aX l1:=by
 cases k with
 | pure m h j g q=>rw[g];rfl
 | new m cs h j g=>rw[g,<-lI];rfl
 | fh p _=>rfl
theorem X1 {ops:Array bb} {s:c8} {o:bb} (g:mx P ops s o) {sgZ:aR} (D:iC ops sgZ o=some true) {l:ae} {K:U->ae->Prop} (h:gI P G s.b sgZ l K) :
  ∃ v l1 t,kn P G s o sgZ l v l1 t/\tv P G ops ⟨sgZ,aX l⟩ t/\K v l1:=by
 obtain⟨v,l1,h1,F,z,J⟩:=L1 g h;have u:io o.op=true->∃ v l1 t,kn P G s o sgZ l v l1 t/\tv P G ops ⟨sgZ,aX l⟩ t/\K v l1:=fun p=>⟨v,l1,_,.fh p F,⟨o,g.here,D,h1,by simpa using F⟩,z⟩
 cases j:s.b with
 | fG w=>
  have B:=g.fG w j;cases p:io o.op with
  | true=>exact u p
  | false=>
   have C:=J w j (GX B p);rcases GX B p with H | I
   ·have:=S4 H C;subst this;exact⟨v,l1,_,.pure w j H rfl C,⟨o,g.here,D⟩,z⟩
   ·obtain⟨cs,mk,O,Q,R⟩:=TN B I C;exact⟨v,l1,_,.new w cs j I R,⟨o,mk,g.here,D,O,Q⟩,z⟩
 | k4 f args=>
  obtain⟨c,q,m,_⟩:=g.k4 f args j;exact u (by rw[q];simp only[io,m])
 | lO x args=>
  obtain⟨c,q,m,_⟩:=g.lO x args j;exact u (by rw[q];simp only[io,m])
 | nm x name args=>
  obtain⟨c,q,m,_⟩:=g.nm x name args j;exact u (by rw[q];simp only[io,m])
inductive i2 (P:bj) (G:Nat->U) (ops:Array bb) :List c8->aR->ae->ij->List (bB × aR × ae)->aR->ae->Prop
 | nil {g l seen}:i2 P G ops [] g l seen [] g l
 | skip {s m r g l seen h o j}:mx P ops s m->iC ops g m=some false->i2 P G ops r (gG g s.dst fL) l seen h o j->i2 P G ops (s::r) g l seen ((.skip s.i,g,l) ::h) o j
 | step {s m r g l t p q seen h o j}:mx P ops s m->kn P G s m g l t p q->tv P G ops ⟨g,aX l⟩ q->pf s.qA seen p->
   i2 P G ops r (gG g s.dst t) p (pW s.bq s.i (kR P G s.b g t l p) seen) h o j->i2 P G ops (s::r) g l seen ((q,g,l) ::h) o j
theorem D3 {ops:Array bb} {K:aR->ae->Prop}:∀ {s:List c8} {sgZ:aR} {l:ae} {seen:ij},(∀ x∈s,∃ o,mx P ops x o)->jC P G s sgZ l seen K->∃ es g l',i2 P G ops s sgZ l seen es g l'/\K g l'
 | [],sgZ,l,seen,_,h=>⟨[],sgZ,l,.nil,h⟩
 | s::r,sgZ,l,seen,q,h=>by
  obtain⟨o,j⟩:=q s V;rcases IA j h with ⟨t,h⟩ | ⟨t,h⟩
  ·obtain⟨D,B,C,h1,v,w,z⟩:=X1 j t h;obtain⟨es,g,l',m,p⟩:=D3 (fun x u=>q x (by simp[u])) z;exact⟨_,g,l',.step j h1 v w m,p⟩
  ·obtain⟨es,g,l',m,p⟩:=D3 (fun x u=>q x (by simp[u])) h;exact⟨_,g,l',.skip j t m,p⟩
theorem D4 {K:aR->ae->Prop}:∀ {s:List c8} {sgZ:aR} {l:ae},(∀ x∈s,x.bq=false)->iz P G s sgZ l K->jC P G s sgZ l [] K
 | [],sgZ,l,_,h=>h
 | s::r,sgZ,l,hk,h=>by
  have mono:∀ (b:rF) (K h0:U->ae->Prop),(∀ o l,K o l->h0 o l)->gI P G b sgZ l K->gI P G b sgZ l h0:=by
   intro b K h0 p h;cases b with
   | fG I=>simp only[gI,x6] at h ⊢;obtain⟨o,h1,g⟩:=h;exact⟨o,h1,IE p g⟩
   | k4 f args=>obtain⟨r,j,h1,g,m⟩:=h;exact⟨r,j,h1,g,p _ _ m⟩
   | lO x args=>
    simp only[gI,vJ] at h ⊢;split at h
    ·obtain⟨u,r,j,h1,g,m⟩:=h;exact⟨u,r,j,h1,g,p _ _ m⟩
    ·cases h
   | nm x name args=>
    simp only[gI,yh] at h ⊢;split at h
    ·split at h
     ·obtain⟨u,r,j,h1,g,m⟩:=h;exact⟨u,r,j,h1,g,p _ _ m⟩
     ·cases h
    ·cases h
  have F:∀ (t:Option (Option Tmp × Bool)) (B q C kK:Prop),(B->C)->(q->kK)->oB sgZ t B q->oB sgZ t C kK:=by
   intro t B q C kK D v h;unfold oB at h ⊢;split at h
   ·exact D h
   ·rename_i d w;simp only[pz] at h ⊢;split at h
    ·rw[wo] at h ⊢;rcases h with ⟨a,b⟩ | ⟨a,b⟩
     ·exact .inl ⟨a,D b⟩
     ·exact .inr ⟨a,v b⟩
    ·cases h
    ·exact v h
   ·exact v h
  have H:s.bq=false:=hk s V;refine F _ _ _ _ _ (mono _ _ _ fun o j h=>?_) (fun h=>D4 (fun x z=>hk x (by simp[z])) h) h;refine⟨trivial,?_⟩;rw[H];exact D4 (fun x z=>hk x (by simp[z])) h
theorem kn.len {s:c8} {o:bb} {sgZ:aR} {l l1:ae} {v:U} {t:bB} (k:kn P G s o sgZ l v l1 t) :l.length<=l1.length:=by
 cases k with
 | pure p h m g u=>rw[g];exact aI _
 | new p cs h m g=>rw[g];simp
 | fh q j=>exact j
theorem i2.len {ops:Array bb} {s:List c8} {sgZ j:aR} {l l' : ae} {seen:ij} {es:List (bB × aR × ae)} (h:i2 P G ops s sgZ l seen es j l') :l.length<=l'.length:=by
 induction h with
 | nil=>exact aI _
 | skip _ _ _ g=>exact g
 | step _ k _ _ _ g=>exact dL k.len g
def qJ (es:List (bB × aR × ae)) (l' : ae) (q:Nat) :ae:=match es[q]? with | some x=>x.2.2 | none=>l'
theorem i2.idx {ops:Array bb} {s:List c8} {sgZ j:aR} {l l' : ae} {seen:ij} {es:List (bB × aR × ae)} (h:i2 P G ops s sgZ l seen es j l') :es.map (fun e=>e.1.idx)=s.map (·.i):=by
 induction h with
 | nil=>rfl
 | skip _ _ _ g=>simp only[df,g];rfl
 | step _ k _ _ _ g=>simp only[df,g,k.idx]
theorem i2.at {ops:Array bb} {s:List c8} {sgZ q:aR} {l l' : ae} {seen:ij} {es:List (bB × aR × ae)} (h:i2 P G ops s sgZ l seen es q l') :
  (∀ (p:Nat) (e:bB × aR × ae),es[p]?=some e->tv P G ops ⟨e.2.1,aX e.2.2⟩ e.1/\fu ops ⟨sgZ,aX l⟩ (es.map (·.1)) p=⟨e.2.1,aX e.2.2⟩)/\fu ops ⟨sgZ,aX l⟩ (es.map (·.1)) es.length=⟨q,aX l'⟩:=by
 induction h with
 | nil=>exact⟨fun p e g=>by simp at g,rfl⟩
 | @skip s u r sgZ l seen es q l' j w _ o=>
  have m:jx ops ⟨sgZ,aX l⟩ (.skip s.i)=⟨gG sgZ s.dst fL,aX l⟩:=by simp only[jx,rX,bB.idx,j.here,qg,bB.val,mS,j.dst]
  refine⟨fun p e g=>?_,?_⟩
  ·cases p with
   | zero=>simp only[ho,bd] at g;subst g;exact⟨⟨u,j.here,w⟩,rfl⟩
   | succ p=>
    simp only[jg] at g;obtain⟨h1,t⟩:=o.1 p e g;refine⟨h1,?_⟩;rw[df,Ad,m];exact t
  ·rw[df,dE,Ad,m];exact o.2
 | @step s u r sgZ l C z B seen es q l' j k v D _ o=>
  have m:jx ops ⟨sgZ,aX l⟩ B=⟨gG sgZ s.dst C,aX z⟩:=by simp only[jx,rX,k.idx,j.here,qg,k.val,k.next,j.dst]
  refine⟨fun p e g=>?_,?_⟩
  ·cases p with
   | zero=>simp only[ho,bd] at g;subst g;exact⟨v,rfl⟩
   | succ p=>
    simp only[jg] at g;obtain⟨h1,t⟩:=o.1 p e g;refine⟨h1,?_⟩;rw[df,Ad,m];exact t
  ·rw[df,dE,Ad,m];exact o.2
theorem i2.still {ops:Array bb} {s:List c8} {sgZ H:aR} {l l' : ae} {seen:ij} {es:List (bB × aR × ae)} (h:i2 P G ops s sgZ l seen es H l') (j:Nat) (S:ae->Prop)
  (K:∀ l x,S l->S (l++x)) (m:S l) :∀ q,q<=es.length->(∀ (p:Nat) (e:bB × aR × ae),p<q->es[p]?=some e->e.1.hz=true->(j,S)∈seen/\∃ x,s[p]?=some x/\j∈x.qA)->S (qJ es l' q):=by
 have I:∀ {D:List Nat} {seen:ij} {l:ae},pf D seen l->(j,S)∈seen->j∈D->S l:=by
  intro D seen l B hm O
  induction seen with
  | nil=>cases hm
  | cons e r u=>
   obtain⟨h1,g⟩:=B;rcases hZ.1 hm with rfl | hm
   ·exact h1 (by simpa using O)
   ·exact u g hm
 induction h with
 | nil=>
  intro q t _;simp only[hq] at t;obtain rfl:q=0:=F;exact m
 | @skip s T r sgZ l seen es H l' U W _ u=>
  intro q t v;cases q with
  | zero=>exact m
  | succ q=>exact u m q (by simpa using t) (fun p e Q w z=>by
    obtain⟨h1,x,g,o⟩:=v (p+1) e F (by simpa using w) z;exact⟨h1,x,by simpa using g,o⟩)
 | @step s T r sgZ l Y l1 X seen es H l' U k V B _ u=>
  intro q t v;cases q with
  | zero=>exact m
  | succ q=>
   have h1:S l1:=by
    cases k with
    | pure R J hm C _=>rw[C];exact m
    | new R cs J hm C=>rw[C];exact K _ _ m
    | fh w _=>
     obtain⟨h1,x,g,o⟩:=v 0 _ F rfl rfl;simp only[ho,bd] at g;subst g;exact I B h1 o
   refine u h1 q (by simpa using t) (fun p e Q w z=>?_);obtain⟨h1,x,g,o⟩:=v (p+1) e F (by simpa using w) z;refine⟨?_,x,by simpa using g,o⟩;unfold pW;cases s.bq with
   | false=>exact h1
   | true=>exact AU _ h1
theorem i2.split {ops:Array bb} {s:List c8} {sgZ q:aR} {l l' : ae} {seen:ij} {es:List (bB × aR × ae)} (h:i2 P G ops s sgZ l seen es q l') :∀ (p:Nat) (e:bB × aR × ae),es[p]?=some e->e.1.py=false->
  ∃ x o v l1 j,s[p]?=some x/\mx P ops x o/\kn P G x o e.2.1 e.2.2 v l1 e.1 ∧
   i2 P G ops (s.drop (p+1)) (gG e.2.1 x.dst v) l1 (pW x.bq x.i (kR P G x.b e.2.1 v e.2.2 l1) j) (es.drop (p+1)) q l':=by
 induction h with
 | nil=>intro p e g;simp at g
 | @skip s o r sgZ l seen es q l' C H _ z=>
  intro p e g m;cases p with
  | zero=>simp only[ho,bd] at g;subst g;cases m
  | succ p=>
   obtain⟨x,B,v,l1,j,h1,t,u,w⟩:=z p e (by simpa using g) m;exact⟨x,B,v,l1,j,by simpa using h1,t,u,by simpa using w⟩
 | @step s o r sgZ l v l1 I seen es q l' C k F D tr z=>
  intro p e g m;cases p with
  | zero=>
   simp only[ho,bd] at g;subst g;exact⟨s,o,v,l1,seen,rfl,C,k,by simpa using tr⟩
  | succ p=>
   obtain⟨x,B,v,l1,j,h1,t,u,w⟩:=z p e (by simpa using g) m;exact⟨x,B,v,l1,j,by simpa using h1,t,u,by simpa using w⟩
end
section
variable {P:bj} {G:Nat->U}
theorem J2 {q:List Nat} {ops:Array bb}:∀ (g done j:List Nat),(∀ i∈g,i<ops.size)->(lq P q ops g done j).map (·.1)=g
 | [],_,_,_=>rfl
 | i::r,done,j,h=>by
  unfold lq;have m:i<ops.size:=h i V;rw[rq m];simp only;split<;>simp only[df]<;>rw[J2 r _ _ fun p o=>h p (by simp[o])]
theorem Dr {S:List Nat} {ops:Array bb}:∀ (I done C:List Nat) (p i:Nat) (v:List Nat),(∀ i∈I,i<ops.size)->(lq P S ops I done C)[p]?=some (i,v)->
  (∃ o,ops[i]?=some o/\io o.op=true)->∀ j,(j∈done\/∃ q,q<p/\I[q]?=some j)->(∃ o,ops[j]?=some o/\oT P o.op=true)->(∀ e∈C,l7 S e j=false)->
  (∀ (u t:Nat) (o:bb),u<=p->I[u]?=some t->ops[t]?=some o->io o.op=true->(u=p\/o.guard=none)->l7 S t j=false)->j∈v
 | [],done,C,p,i,v,_,h,_,_,_,_,_,_=>by simp[lq] at h
 | x::r,done,C,p,i,v,T,h,B,j,g,R,G,H=>by
  unfold lq at h;have X:x<ops.size:=T x V;rw[rq X] at h;have Q:ops[x]?=some ops[x]:=rq X;simp only at h;have W:∀ i∈r,i<ops.size:=fun j g=>T j (by simp[g])
  cases z:io ops[x].op with
  | true=>
   rw[z] at h;simp only at h;cases p with
   | zero=>
    simp only[ho,bd,Prod.mk.injEq] at h;obtain⟨rfl,rfl⟩:=h;obtain⟨o,h1,D⟩:=R;rcases g with g | ⟨q,U,_⟩
    ·refine dy.2 ⟨g,?_⟩;simp only[h1,D,mj,Fa,bH,gg];exact⟨by simp[H 0 x ops[x] (aI _) V Q z (.inl rfl)],fun e B=>by simp[G e B]⟩
    ·omega
   | succ p=>
    simp only[jg] at h;refine Dr r _ _ p i v W h B j ?_ R ?_ ?_
    ·rcases g with g | ⟨q,U,g⟩
     ·exact .inl (by simp[g])
     ·cases q with
      | zero=>simp only[ho,bd] at g;exact .inl (by simp[g])
      | succ q=>exact .inr ⟨q,F,by simpa using g⟩
    ·intro e w;cases m:ops[x].guard with
     | none=>
      rw[m] at w;rcases hZ.1 w with rfl | w
      ·exact H 0 e ops[e] F V Q z (.inr m)
      ·exact G e w
     | some Z=>rw[m] at w;exact G e w
    ·intro u t o Y K O J m;exact H (u+1) t o F (by simpa using K) O J (by rcases m with rfl | m;exact .inl rfl;exact .inr m)
  | false=>
   rw[z] at h;simp only at h;cases p with
   | zero=>
    simp only[ho,bd,Prod.mk.injEq] at h;obtain⟨rfl,rfl⟩:=h;obtain⟨o,h1,D⟩:=B;rw[Q] at h1;cases h1;rw[z] at D;cases D
   | succ p=>
    simp only[jg] at h;refine Dr r _ _ p i v W h B j ?_ R G ?_
    ·rcases g with g | ⟨q,U,g⟩
     ·exact .inl (by simp[g])
     ·cases q with
      | zero=>simp only[ho,bd] at g;exact .inl (by simp[g])
      | succ q=>exact .inr ⟨q,F,by simpa using g⟩
    ·intro u t o Y K O J m;exact H (u+1) t o F (by simpa using K) O J (by rcases m with rfl | m;exact .inl rfl;exact .inr m)
theorem Hh {w:List Nat} {ops:Array bb}:∀ {t:List Nat},vV w ops t=true->∀ (p g i j:Nat) (o:bb),t[p]?=some i->t[g]?=some j->p<g->ops[i]?=some o->io o.op=true->l7 w j i=true
 | [],_,p,g,i,j,o,m,_,_,_,_=>by simp at m
 | x::r,h,p,g,i,j,o,m,q,z,v,u=>by
  simp only[vV,bH] at h;cases g with
  | zero=>omega
  | succ g=>
   simp only[jg] at q;cases p with
   | zero=>
    simp only[ho,bd] at m;subst m;rw[v] at h;simp only[u,xN,AJ,gg] at h;exact h.1 j (cE q)
   | succ p=>exact Hh h.2 p g i j o (by simpa using m) q F v u
theorem za {alZ j:Type} {f:alZ->Option j}:∀ {l:List alZ} {r:List j},l.mapM f=some r->∀ (p:Nat) (x:j),r[p]?=some x->∃ a,l[p]?=some a/\f a=some x
 | [],r,h,p,x,g=>by simp at h;subst h;simp at g
 | a::l,r,h,p,x,g=>by
  rw[oY] at h;simp only[Option.bind_eq_bind,bind_some,tn,bd] at h;obtain⟨b,h1,u,o,rfl⟩:=h;cases p with
  | zero=>simp only[ho,bd] at g;subst g;exact⟨a,rfl,h1⟩
  | succ p=>obtain⟨m,q,t⟩:=za o p x (by simpa using g);exact⟨m,by simpa using q,t⟩
theorem CS {alZ g:Type} {f:alZ->Option g}:∀ {l:List alZ} {r:List g},l.mapM f=some r->r.length=l.length
 | [],r,h=>by simp at h;subst h;rfl
 | a::l,r,h=>by
  rw[oY] at h;simp only[Option.bind_eq_bind,bind_some,tn,bd] at h;obtain⟨b,h1,m,j,rfl⟩:=h;simp[CS j]
theorem RY (es:List (bB × aR × ae)) (l' : ae) (n q:Nat) :qJ (es.drop n) l' q=qJ es l' (n+q):=by unfold qJ;rw[gB]
theorem Qw {id N' : Nat} {ops:Array bb} {ag:List c8} (bt:∀ (i:Nat) (o:bb),ops[i]?=some o->hN N' o.dst=true)
  (a7:Dh (gY ops) ops (eJ (gY ops) ops)=true) (bu:vV (gY ops) ops (eJ (gY ops) ops)=true)
  (Q:(lq P (gY ops) ops (eJ (gY ops) ops) [] []).mapM (fun p=>uU P ops p.1 p.2 (((lq P (gY ops) ops (eJ (gY ops) ops) [] []).flatMap (·.2)).contains p.1))=some ag)
  {sgZ bl:aR} {l l' : ae} {es:List (bB × aR × ae)} (tr:i2 P G ops ag sgZ l [] es bl l') :cZ P G (.code (.region id ops true) N' sgZ (aX l) .normal bl (aX l')):=by
 simp only[Dh,bH] at a7;obtain⟨⟨⟨⟨bQ,aJ⟩,bh⟩,bi⟩,bj⟩:=a7;have aQ:∀ i∈eJ (gY ops) ops,i<ops.size:=fun i aP=>by
  rw[gg] at bi;simpa [A2] using bi i aP
 have a8:(lq P (gY ops) ops (eJ (gY ops) ops) [] []).map (·.1)=eJ (gY ops) ops:=J2 _ _ _ aQ;have aF:∀ (p:Nat) (x:c8),ag[p]?=some x->∃ o,mx P ops x o/\(lq P (gY ops) ops (eJ (gY ops) ops) [] [])[p]?=some (x.i,x.qA) ∧
   x.bq=((lq P (gY ops) ops (eJ (gY ops) ops) [] []).flatMap (·.2)).contains x.i:=fun p x R=>by
  obtain⟨a,h1,w⟩:=za Q p x R;obtain⟨o,K,aq,aA,aM⟩:=xp w;exact⟨o,K,by rw[h1,aq,aA],by rw[aM,aq]⟩
 have bc:∀ (p:Nat) (x:c8),ag[p]?=some x->(eJ (gY ops) ops)[p]?=some x.i:=fun p x R=>by
  obtain⟨o,_,h1,_⟩:=aF p x R;rw[<-a8,bW,h1];rfl
 have a3:∀ (p:Nat) (e:bB × aR × ae),es[p]?=some e->∃ x,ag[p]?=some x/\x.i=e.1.idx:=fun p e v=>by
  have:=ch (·[p]?) tr.idx;simp only[bW,v,cz] at this;cases R:ag[p]? with
  | none=>rw[R] at this;cases this
  | some x=>rw[R] at this;simp only[cz,bd] at this;exact⟨x,rfl,this.symm⟩
 have Z:∀ (p:Nat) (e:bB × aR × ae),es[p]?=some e->(eJ (gY ops) ops)[p]?=some e.1.idx:=fun p e v=>by
  obtain⟨x,h1,w⟩:=a3 p e v;rw[bc p x h1,w]
 have O:∀ (p:Nat) (t:bB),(es.map (·.1))[p]?=some t->∃ e,es[p]?=some e/\e.1=t:=fun p t X=>by simpa using X
 have aY:∀ (p:Nat) (e:bB × aR × ae),es[p]?=some e->e.1.hz=true->∃ o,ops[e.1.idx]?=some o/\io o.op=true/\(iC ops e.2.1 o=some true):=fun p e v I=>by
  have aw:e.1.py=false:=by cases h:e.1<;>rw[h] at I<;>first | rfl | cases I
  obtain⟨x,o,V,S,bk,h1,w,K,aq⟩:=tr.split p e v aw;have am:=(tr.at.1 p e v).1;have bA:=K.idx;have ak:=w.here;rw[<-bA] at ak;refine⟨o,ak,?_,?_⟩
  ·revert I;generalize e.1=t at K;intro I;cases K with
   | pure=>cases I
   | new=>cases I
   | fh v _=>exact v
  ·revert am I ak;generalize e.1=t;intro I am ak;cases t<;>first | (cases I;done) | skip
   obtain⟨Y,aA,aM,_⟩:=am;simp only[bB.idx] at ak;rw[ak] at aA;cases aA;exact aM
 have bS:tu ops (l7 (gY ops)) (es.map (·.1)):=by
  refine⟨Qu bQ,fun i aP=>?_,fun p m t ay C al v=>?_,fun p t C=>?_,fun p m t ay C al au=>?_,fun p m t ay C al au I=>?_⟩
  ·rw[gg] at bj;have:=bj i (by simpa using aP);have j:i∈eJ (gY ops) ops:=by simpa using this
   have ai:(es.map (·.1)).map bB.idx=eJ (gY ops) ops:=by
    rw[iU];show es.map (fun e=>e.1.idx)=_;rw[tr.idx,<-a8];apply g5;intro p;rw[bW,bW];cases R:ag[p]? with
    | none=>
     have:(lq P (gY ops) ops (eJ (gY ops) ops) [] [])[p]?=none:=by
      rw[Ff] at R ⊢;rw[<-CS Q];exact R
     rw[this];rfl
    | some x=>obtain⟨o,_,h1,_⟩:=aF p x R;rw[h1];rfl
   rw[<-ai] at j;obtain⟨t,h1,w⟩:=cy.1 j;obtain⟨p,C⟩:=xQ h1;exact⟨p,t,C,w⟩
  ·obtain⟨e,z,u⟩:=O p t C;obtain⟨H,ao,ap⟩:=O m ay al;have D:=Z p e z;have W:=Z m H ao;rw[u] at D;rw[ap] at W;rcases o1 p m with h | h | h
   ·exact bP v (zw aJ p m _ _ D W h).1
   ·exact h
   ·exact bP v.symm (zw aJ m p _ _ W D h).1
  ·obtain⟨e,z,u⟩:=O p t C;have D:=Z p e z;rw[u] at D;exact aQ _ (cE D)
  ·obtain⟨e,z,u⟩:=O p t C;obtain⟨H,ao,ap⟩:=O m ay al;have D:=Z p e z;have W:=Z m H ao;rw[u] at D;rw[ap] at W;exact (zw aJ p m _ _ D W au).2
  ·obtain⟨e,z,u⟩:=O p t C;obtain⟨H,ao,ap⟩:=O m ay al;obtain⟨o,aU,bm,_⟩:=aY p e z (by rw[u];exact I);have D:=Z p e z;have W:=Z m H ao;rw[u] at D aU;rw[ap] at W;exact Hh bu p m _ _ o D W au aU bm
 have bw:∀ q,q<=es.length->(fu ops ⟨sgZ,aX l⟩ (es.map (·.1)) q).h=aX (qJ es l' q):=fun q aD=>by
  unfold qJ;cases v:es[q]? with
  | none=>
   have:q=es.length:=by rw[Ff] at v;omega
   rw[this,tr.at.2]
  | some e=>rw[(tr.at.1 q e v).2]
 have bT:Bf P G ops (l7 (gY ops)) ⟨sgZ,aX l⟩ (es.map (·.1)):=by
  refine⟨fun p t C=>?_,fun q aD p t bY C bE=>?_⟩
  ·obtain⟨e,z,u⟩:=O p t C;obtain⟨aW,aL⟩:=tr.at.1 p e z;rw[aL,<-u];exact aW
  ·obtain⟨e,z,u⟩:=O p t C;obtain⟨aW,aL⟩:=tr.at.1 p e z;have bG:q<=es.length:=by
    rcases aD with rfl | ⟨bU,aD,_⟩
    ·simp
    ·obtain⟨eq,bo,_⟩:=O q bU aD;exact km (aK.1 bo).1
   rw[bw q bG,aL];cases aw:e.1.py with
   | true=>rw[<-u];cases h:e.1<;>rw[h] at aw<;>first | trivial | cases aw
   | false=>
    obtain⟨x,o,V,S,bk,h1,w,K,aq⟩:=tr.split p e z aw;obtain⟨Y,br,bX,bC⟩:=aF p x h1;have bF:Y=o:=by have a:=br.here;have b:=w.here;rw[a] at b;exact cg b
    subst bF;have ask:oT P Y.op=true->∀ (m:Nat) (H:bB × aR × ae),m<q - (p+1)->(es.drop (p+1))[m]?=some H->H.1.hz=true->
      (x.i,kR P G x.b e.2.1 V e.2.2 S)∈pW x.bq x.i (kR P G x.b e.2.1 V e.2.2 S) bk/\∃ y,(ag.drop (p+1))[m]?=some y/\x.i∈y.qA:=by
     intro X m H al aj aN;rw[gB] at aj;obtain⟨y,bf,bL⟩:=a3 _ H aj;obtain⟨b3,bZ,bg,_⟩:=aF _ y bf;obtain⟨bR,bN,bO,b1⟩:=aY _ H aj aN;have a4:x.i∈y.qA:=by
      refine Dr _ _ _ _ _ _ aQ bg ⟨bR,by rw[bL];exact bN,bO⟩ x.i (.inr ⟨p,F,bc p x h1⟩) ⟨Y,w.here,X⟩ (fun e v=>by cases v) ?_;intro U bK aH bV bx a5 aB aO
      -- what is at p'' was carried out
      have au:U<es.length:=by
       have:=(aK.1 aj).1;omega
      have ai:es[U]?=some es[U]:=bI au;have a0:=Z _ _ ai;rw[bx] at a0;have ar:bK=es[U].1.idx:=cg a0;have bs:es[U].1.hz=true:=by
       cases av:es[U].1.py with
       | true=>
        exfalso;rcases aO with rfl | aO
        ·rw[ai] at aj;cases aj;cases h:es[p+1+m].1<;>rw[h] at aN av<;>first | (cases av;done) | (cases aN;done)
        ·have am:=(tr.at.1 _ _ ai).1;cases h:es[U].1<;>rw[h] at av am ar<;>first | (cases av;done) | skip
         obtain⟨bh,aS,ax⟩:=am;simp only[bB.idx] at ar;rw[<-ar,a5] at aS;cases aS;simp[iC,aO] at ax
       | false=>
        obtain⟨b6,bh,b5,b2,b4,aS,ax,aG,_⟩:=tr.split _ _ ai av;have bz:=aG.idx;have aZ:=ax.here;rw[<-bz,<-ar,a5] at aZ;cases aZ;revert aG;generalize es[U].1=t3;intro aG;cases aG with
        | pure J B j _ _=>
         exfalso;have g:=ax.fG J B;have:io aH.op=false:=by
          revert g j;cases aH.op<;>simp only[ku]<;>intro j g<;>first | rfl | (exfalso;revert g j;done) | skip
          case store=>rw[map_some] at g;obtain⟨_,_,rfl⟩:=g;cases j
          case call c=>
           split at g
           ·rename_i b B;unfold io;simp only[B];unfold qD at g
            repeat' split at g
            all_goals first
             | rfl
             | (cases g;done)
             | (cases g;cases j;done)
             | (simp only[bind_some,map_some] at g;obtain⟨_,_,rfl⟩:=g;cases j;done)
             | (simp only[bind_some,map_some] at g;obtain⟨_,_,_,_,rfl⟩:=g;cases j;done)
             | (simp only[bind_some,gP] at g;obtain⟨_,_,_,_,_,_,_,rfl⟩:=g;cases j;done)
             | (simp only[bind_some,gP] at g;obtain⟨_,_,_,_,_,_,_,_,_,rfl⟩:=g;cases j;done)
           ·split at g
            ·rw[gP] at g;obtain⟨_,rfl⟩:=g;cases j
            ·cases g
           ·cases g
          case next it b=>(cases b<;>simp only[reduceCtorEq] at g<;>cases g<;>cases j)
          case lookup=>split at g<;>(try cases g;done);rw[map_some] at g;obtain⟨_,_,rfl⟩:=g;cases j
          case mapUpdate=>split at g<;>cases g;cases j
          case insert=>split at g<;>cases g;cases j
          case panic=>(cases g;cases j)
          case makeMap=>split at g<;>cases g;cases j
          case range=>split at g<;>cases g;cases j
          case typeAssert=>rw[map_some] at g;obtain⟨_,_,rfl⟩:=g;cases j
          all_goals (cases g)
         rw[this] at aB;cases aB
        | new J cs B j _=>
         exfalso;have g:=ax.fG J B;have:io aH.op=false:=by
          revert g j;cases aH.op<;>simp only[ku]<;>intro j g<;>first | rfl | (exfalso;revert g j;done) | skip
          case store=>rw[map_some] at g;obtain⟨_,_,rfl⟩:=g;cases j
          case panic=>(cases g;cases j)
          case call c=>
           split at g
           ·rename_i b B;unfold io;simp only[B];unfold qD at g
            repeat' split at g
            all_goals first
             | rfl
             | (cases g;done)
             | (cases g;cases j;done)
             | (simp only[bind_some,map_some] at g;obtain⟨_,_,rfl⟩:=g;cases j;done)
             | (simp only[bind_some,map_some] at g;obtain⟨_,_,_,_,rfl⟩:=g;cases j;done)
             | (simp only[bind_some,gP] at g;obtain⟨_,_,_,_,_,_,_,rfl⟩:=g;cases j;done)
             | (simp only[bind_some,gP] at g;obtain⟨_,_,_,_,_,_,_,_,_,rfl⟩:=g;cases j;done)
           ·split at g
            ·rw[gP] at g;obtain⟨_,rfl⟩:=g;cases j
            ·cases g
           ·cases g
          case next it b=>(cases b<;>simp only[reduceCtorEq] at g<;>cases g<;>cases j)
          case lookup=>split at g<;>(try cases g;done);rw[map_some] at g;obtain⟨_,_,rfl⟩:=g;cases j
          case mapUpdate=>split at g<;>cases g;cases j
          case insert=>split at g<;>cases g;cases j
          case makeMap=>split at g<;>cases g;cases j
          case range=>split at g<;>cases g;cases j
          case typeAssert=>rw[map_some] at g;obtain⟨_,_,rfl⟩:=g;cases j
          all_goals (cases g)
         rw[this] at aB;cases aB
        | fh _ _=>rfl
      have:=bE U es[U].1 F (by simp[ai]) bs;rw[ar,w.here |> fun _=>(K.idx).symm,u];exact this
     refine⟨?_,y,by rw[gB];exact bf,a4⟩;have:x.bq=true:=by
      rw[bC];simp only[List.contains_iff_mem,Fm];exact⟨(y.i,y.qA),cE bg,a4⟩
     rw[this];exact Fk
    have az:oT P Y.op=true->(∀ l aT,kR P G x.b e.2.1 V e.2.2 S l->kR P G x.b e.2.1 V e.2.2 S (l++aT))->kR P G x.b e.2.1 V e.2.2 S S->kR P G x.b e.2.1 V e.2.2 S (qJ es l' q):=by
     intro X bv bp;have:=aq.still x.i _ bv bp (q - (p+1)) (by simp only[iT];omega) (ask X)
     rwa [RY,show p+1+(q - (p+1))=q by omega] at this
    rw[<-u];revert K az ask u;generalize e.1=t1;intro u K ask az;cases K with
    | fh=>trivial
    | pure J B j aC a9=>
     intro aJ a6;rw[w.here] at a6;cases a6;have g:=w.fG J B;cases aE:J.reads with
     | false=>exact zg g (S3 j aE a9)
     | true=>
      have X:oT P Y.op=true:=by
       cases h:oT P Y.op with
       | true=>rfl
       | false=>rw[(GY g h).1] at aE;cases aE
      have bD:J.lg=false:=by cases J<;>first | rfl | cases aE
      have Q:∀ T,kR P G x.b e.2.1 V e.2.2 S T<->bM P (dv G e.2.1) T J=some (V,T):=fun T=>by rw[B];simp only[kR,bD]
      have:=az X (fun T aT h=>by rw[Q] at h ⊢;exact S2 j h) (by rw[Q,aC];exact a9);rw[Q] at this;exact zg g this
    | new J cs B j aC=>
     have g:=w.fG J B;have X:oT P Y.op=true:=by
      cases h:oT P Y.op with
      | true=>rfl
      | false=>rw[(GY g h).2] at j;cases j
     have Q:∀ T:ae,kR P G x.b e.2.1 V e.2.2 S T<->T[e.2.2.length]?=some (.cells cs.length cs):=fun T=>by
      rw[B,aC];simp only[kR,j];rw[et (aI _)];simp
     have:=az X (fun T aT h=>by rw[Q] at h ⊢;rw[aV (a2 h)];exact h) (by rw[Q,aC,et (aI _)];simp);rw[Q] at this;show (aX (qJ es l' q)).f (aX e.2.2).n=_;rw[jO,Ba,this]
 have:=cZ.Qt (id:=id) bS bt bT;rw[cx,tr.at.2] at this;exact this
end
section
variable {P:bj} {G:Nat->U}
theorem Bm {ops:Array bb} {f:Nat->Option c8}:∀ {is:List Nat} {s:List c8} {os:List bb},(∀ i x,f i=some x->∃ o,mx P ops x o/\x.i=i)->is.mapM f=some s->is.map (fun i=>ops[i]?)=os.map some->kX P ops s os
 | [],s,os,j,h,g=>by
  simp at h;subst h;cases os with
  | nil=>exact .nil
  | cons=>simp at g
 | i::is,s,os,j,h,g=>by
  rw[oY] at h;simp only[Option.bind_eq_bind,bind_some,tn,bd] at h;obtain⟨x,h1,u,p,rfl⟩:=h;cases os with
  | nil=>simp at g
  | cons o os=>
   simp only[df,List.cons.injEq] at g;obtain⟨t,m,q⟩:=j i x h1;have:t=o:=by have:=m.here;rw[q,g.1] at this;exact (cg this).symm
   subst this;exact .cons m (Bm j p g.2)
theorem PX {N N' id:Nat} (F:N<=N') {ops:Array bb} {draw:Bool} {c:fO} (g:BM P N ops draw=some c) {sgZ:aR} {l:ae} {K:fP} (h:run P G c sgZ l K) :
  ∃ e m l',cZ P G (.code (.region id ops draw) N' sgZ (aX l) e m (aX l'))/\l.length<=l'.length/\K e m l':=by
 unfold BM at g;split at g
 ·cases g
 ·rename_i C;have B:∀ (i:Nat) (o:bb),ops[i]?=some o->hN N' o.dst=true:=fun i o J=>by
   rw[gg] at C;have:=C o (by simpa using xJ J);unfold hN at this ⊢;split at this
   ·rename_i d _;exact bY (mq (iZ this) F)
   ·rfl
  split at g
  ·rw[map_some] at g;obtain⟨s,h1,rfl⟩:=g;have H:kX P ops s ops.toList:=by
    refine Bm (fun i x t=>?_) h1 ?_
    ·obtain⟨o,j,p,_⟩:=xp t;exact⟨o,j,p⟩
    ·apply g5;intro u;rw[bW,bW];by_cases q:u<ops.size
     ·rw[hp q];simp[q]
     ·rw[ea (by simp;omega),ea (by simp;omega)];rfl
   obtain⟨m,l',j,p,D⟩:=xf B H h;exact⟨.normal,m,l',.region j,p,D⟩
  ·simp only at g;split at g
   ·cases g
   ·rename_i v;simp only[bH] at v;split at g
    ·cases g
    ·rename_i s w;have O:∀ x∈s,∃ o,mx P ops x o:=fun x t=>by
      obtain⟨u,q⟩:=xQ t;obtain⟨a,_,j⟩:=za w u x q;obtain⟨o,p,_⟩:=xp j;exact⟨o,p⟩
     have z:jC P G s sgZ l [] (K .normal)->∃ e m l',cZ P G (.code (.region id ops true) N' sgZ (aX l) e m (aX l'))/\l.length<=l'.length/\K e m l':=fun h=>by
      obtain⟨Q,m,l',h1,j⟩:=D3 O h;exact⟨.normal,m,l',Qw B v.1 v.2 w h1,h1.len,j⟩
     split at g
     ·rename_i I;cases g;refine z (D4 (fun x t=>?_) h);obtain⟨u,q⟩:=xQ t;obtain⟨a,_,j⟩:=za w u x q;obtain⟨o,_,_,_,p⟩:=xp j;rw[p,I];rfl
     ·cases g;exact z h
theorem Li {N N' : Nat} (S:N<=N') :∀ (code:Code) (c:fO),comp P N code=some c->∀ (sgZ:aR) (l:ae) (K:fP),run P G c sgZ l K->
  ∃ e w l',cZ P G (.code code N' sgZ (aX l) e w (aX l'))/\l.length<=l'.length/\K e w l':=by
 intro code
 induction code with
 | skip=>intro c g sgZ l K h;cases g;exact⟨_,_,_,.skip _ _ _,aI _,h⟩
 | label n=>intro c g sgZ l K h;cases g;exact⟨_,_,_,.label _ _ _ _,aI _,h⟩
 | ret=>intro c g sgZ l K h;cases g;exact⟨_,_,_,.ret _ _ _,aI _,h⟩
 | exit id=>intro c g sgZ l K h;cases g;exact⟨_,_,_,.exit _ _ _ _,aI _,h⟩
 | region id ops draw=>intro c g sgZ l K h;exact PX S g h
 | seq a b V W=>
  intro c g sgZ l K h;have mk:∀ (z B:fO),comp P N a=some z->comp P N b=some B->run P G z sgZ l (mN (fun sgZ l=>run P G B sgZ l K) K)->∃ e w l',cZ P G (.code (.seq a b) N' sgZ (aX l) e w (aX l'))/\l.length<=l'.length/\K e w l':=by
   intro z B u q h;obtain⟨e,p,o,h1,j,m⟩:=V z u sgZ l _ h;cases e with
   | normal=>
    obtain⟨e,J,I,t,F,H⟩:=W B q p o K m;exact⟨e,J,I,.Lu h1 t,dL j F,H⟩
   | exit id=>exact⟨_,p,o,.Eg h1 (by intro h;cases h),j,m⟩
   | ret=>exact⟨_,p,o,.Eg h1 (by intro h;cases h),j,m⟩
  simp only[comp] at g;split at g
  ·rename_i Q u q;cases g;exact mk _ _ u q h
  ·rename_i O _ u q;cases g;refine mk _ _ u q ?_;have:mN (fun sgZ l=>run P G .skip sgZ l K) K=K:=by
    funext e sgZ l;cases e<;>rfl
   rw[this];exact h
  ·rename_i O Q _ _ u q;cases g;exact mk _ _ u q h
  ·cases g
 | cond c x y Y Z=>
  intro C g sgZ l K h;simp only[comp] at g;split at g
  ·rename_i ag ai T U;cases g;simp only[run,wn] at h;split at h
   ·rename_i b q;rw[wo] at h;rcases h with ⟨rfl,h⟩ | ⟨rfl,h⟩
    ·obtain⟨e,p,o,h1,j,m⟩:=Y ag T sgZ l K h;exact⟨e,p,o,.cond q h1,j,m⟩
    ·obtain⟨e,p,o,h1,j,m⟩:=Z ai U sgZ l K h;exact⟨e,p,o,.cond q h1,j,m⟩
   ·cases h
  ·cases g
 | block id c v=>
  intro C g sgZ l K h;simp only[comp,map_some] at g;obtain⟨D,h1,rfl⟩:=g;obtain⟨e,p,o,j,m,t⟩:=v D h1 sgZ l _ h;cases e with
  | normal=>exact⟨_,p,o,.yc j (by intro h;cases h),m,t⟩
  | ret=>exact⟨_,p,o,.yc j (by intro h;cases h),m,t⟩
  | exit aj=>
   simp only[qO] at t;split at t
   ·rename_i q;obtain rfl:=iq q;exact⟨_,p,o,.Gl j,m,t⟩
   ·rename_i q;exact⟨_,p,o,.yc j (by intro h;cases h;rw[A1] at q;cases q),m,t⟩
 | loop c v=>
  intro C g sgZ l K h;simp only[comp,map_some] at g;obtain⟨D,h1,rfl⟩:=g;obtain⟨n,h⟩:=h
  induction n generalizing sgZ l with
  | zero=>cases h
  | succ n X=>
   obtain⟨e,p,o,j,m,t⟩:=v D h1 sgZ l _ h;cases e with
   | normal=>
    obtain⟨e,J,I,F,H,R⟩:=X p o t;exact⟨e,J,I,.uk j F,dL m H,R⟩
   | exit id=>exact⟨_,p,o,.CN j (by intro h;cases h),m,t⟩
   | ret=>exact⟨_,p,o,.CN j (by intro h;cases h),m,t⟩
 | scope c v=>
  intro C g sgZ l K h;obtain⟨e,p,o,j,m,t⟩:=v C g sgZ l K h;exact⟨e,p,o,.scope j,m,t⟩
 | _=>intro c g;cases g
def BL (P:bj) :ResultVar->Option dx
 | .tmp g=>some (.ei (.tmp g))
 | .cell a g=>ku P (.load g (.tmp a))
def vR (P:bj) (f:cf) :Option (List dx):=match P.funcs[f]? with
 | some fn=>fn.results.toList.mapM (BL P)
 | none=>none
def mM (P:bj) (G:Nat->U) (K:U->ae->Prop) (sgZ:aR) (l:ae) :List dx->ag->Prop
 | [],g=>K (sR g) l
 | m::r,g=>W (bM P (dv G sgZ) l m) (c:=⟨fun x=>mM P G K sgZ l r (g++[x.1])⟩)
def uh (P:bj) (G:Nat->U) (g:List dx) (K:U->ae->Prop) :fP:=fun e h l=>match e with
 | .exit _=>False
 | .normal=>mM P G K h l g []
 | .ret=>mM P G K h l g []
def jm (args:ag) :aR:=fun g=>args.getD g fL
theorem IB {K:U->ae->Prop} {sgZ:aR} {l:ae}:∀ {t:List ResultVar} {o:List dx} {j:ag},t.mapM (BL P)=some o->mM P G K sgZ l o j->∃ vs,q5 P (aX l) sgZ t=some vs/\K (sR (j++vs)) l
 | [],o,j,g,h=>by simp at g;subst g;exact⟨[],rfl,by simpa [mM] using h⟩
 | r::t,o,j,g,h=>by
  rw[oY] at g;simp only[Option.bind_eq_bind,bind_some,tn,bd] at g;obtain⟨m,h1,H,z,rfl⟩:=g;simp only[mM,x6] at h;obtain⟨⟨v,F⟩,q,B⟩:=h;obtain⟨vs,C,D⟩:=IB z B;refine⟨v::vs,?_,by simpa using D⟩;have:uL P (aX l) sgZ r=some v:=by
   cases r with
   | tmp p=>cases h1;simp only[bM,bd,Prod.mk.injEq] at q;rw[<-q.1];rfl
   | cell a p=>
    have w:ku P (.load p (.tmp a))=some m:=h1;have:=zg w q;simp only[cF] at this;unfold uL;show oE P (aX l) p (dv G sgZ (.tmp a))=some v;cases u:oE P (aX l) p (dv G sgZ (.tmp a)) with
    | none=>rw[u] at this;cases this
    | some x=>rw[u] at this;simp only[cz,bd,mw.val.injEq] at this;rw[this.1]
  simp only[q5,this,C]
theorem GC {f:cf} {c:fO} {o:List dx} (g:vQ P f=some c) (m:vR P f=some o) {args:ag} {l:ae} {K:qn}
  (h:run P G c (jm args) l (uh P G o K.k)) :fY P G f args l (c:=K):=by
 unfold vQ at g;unfold vR at m;split at g
 ·rename_i fn q;split at g
  ·rename_i u B;rw[q] at m;obtain⟨e,D,t,h1,v,j⟩:=Li (N':=args.length+(fn.ntmps - args.length)) F u c g _ _ _ h;have p:(e=.normal\/e=.ret)->mM P G K.k D t o []->fY P G f args l (c:=K):=fun C j=>by
    obtain⟨H,w,z⟩:=IB m j;exact⟨sR H,t,.inline q B h1 C (by simp only[uK,w];rfl),v,by simpa using z⟩
   cases e with
   | normal=>exact p (.inl rfl) j
   | ret=>exact p (.inr rfl) j
   | exit id=>cases j
  ·cases g
 ·cases g
theorem L0 {b:rF} {sgZ:aR} {l:ae} {K h0:U->ae->Prop} (o:∀ v l,K v l->h0 v l) (h:gI P G b sgZ l K) :gI P G b sgZ l h0:=by
 cases b with
 | fG q=>simp only[gI,x6] at h ⊢;obtain⟨v,h1,g⟩:=h;exact⟨v,h1,IE o g⟩
 | k4 f args=>obtain⟨r,m,h1,g,j⟩:=h;exact⟨r,m,h1,g,o _ _ j⟩
 | lO x args=>
  simp only[gI,vJ] at h ⊢;split at h
  ·obtain⟨p,r,m,h1,g,j⟩:=h;exact⟨p,r,m,h1,g,o _ _ j⟩
  ·cases h
 | nm x name args=>
  simp only[gI,yh] at h ⊢;split at h
  ·split at h
   ·obtain⟨p,r,m,h1,g,j⟩:=h;exact⟨p,r,m,h1,g,o _ _ j⟩
   ·cases h
  ·cases h
theorem Iz {sgZ:aR} {g:Option (Option Tmp × Bool)} {p q o kK:Prop} (m:p->o) (j:q->kK) (h:oB sgZ g p q) :oB sgZ g o kK:=by
 unfold oB at h ⊢;split at h
 ·exact m h
 ·simp only[pz] at h ⊢;split at h
  ·rw[wo] at h ⊢;rcases h with ⟨a,b⟩ | ⟨a,b⟩
   ·exact .inl ⟨a,m b⟩
   ·exact .inr ⟨a,j b⟩
  ·cases h
  ·exact j h
 ·exact j h
theorem D5 {K j:aR->ae->Prop} (g:∀ sgZ l,K sgZ l->j sgZ l) :∀ {s:List c8} {sgZ:aR} {l:ae},iz P G s sgZ l K->iz P G s sgZ l j
 | [],_,_,h=>g _ _ h
 | s::r,_,_,h=>Iz (L0 fun _ _ h=>D5 g h) (fun h=>D5 g h) h
theorem D2 {K j:aR->ae->Prop} (g:∀ sgZ l,K sgZ l->j sgZ l) :∀ {s:List c8} {sgZ:aR} {l:ae} {seen:ij},jC P G s sgZ l seen K->jC P G s sgZ l seen j
 | [],_,_,_,h=>g _ _ h
 | s::r,_,_,_,h=>Iz (L0 fun _ _ h=>⟨h.1,D2 g h.2⟩) (fun h=>D2 g h) h
theorem wq {k k' : aR->ae->Prop} {K g:fP} (hk:∀ sgZ l,k sgZ l->k' sgZ l) (j:∀ e sgZ l,K e sgZ l->g e sgZ l) :∀ e sgZ l,mN k K e sgZ l->mN k' g e sgZ l:=by intro e sgZ l h;cases e<;>first | exact hk _ _ h | exact j _ _ _ h
theorem Eb:∀ {c:fO} {sgZ:aR} {l:ae} {K h0:fP},(∀ e sgZ l,K e sgZ l->h0 e sgZ l)->run P G c sgZ l K->run P G c sgZ l h0:=by
 intro c
 induction c with
 | skip=>intro sgZ l K h0 g h;exact g _ _ _ h
 | ret=>intro sgZ l K h0 g h;exact g _ _ _ h
 | exit id=>intro sgZ l K h0 g h;exact g _ _ _ h
 | jB s=>intro sgZ l K h0 g h;exact D5 (g _) h
 | vU s=>intro sgZ l K h0 g h;exact D2 (g _) h
 | seq a b m o=>intro sgZ l K h0 g h;exact m (wq (fun sgZ l h=>o g h) g) h
 | cond c x y q t=>
  intro sgZ l K h0 g h;simp only[run,wn] at h ⊢;split at h
  ·rw[wo] at h ⊢;rcases h with ⟨a,b⟩ | ⟨a,b⟩
   ·exact .inl ⟨a,q g b⟩
   ·exact .inr ⟨a,t g b⟩
  ·cases h
 | block id c j=>
  intro sgZ l K h0 g h;refine j (fun e sgZ l h=>?_) h;cases e with
  | normal=>exact g _ _ _ h
  | ret=>exact g _ _ _ h
  | exit u=>
   simp only[qO] at h ⊢;split at h
   ·exact g _ _ _ h
   ·exact g _ _ _ h
 | loop c j=>
  intro sgZ l K h0 g h;obtain⟨n,h⟩:=h;refine⟨n,?_⟩
  induction n generalizing sgZ l with
  | zero=>cases h
  | succ n p=>exact j (wq (fun sgZ l h=>p h) g) h
theorem ww {c:fO} {K:Bb} (m:Nat->aR->ae->Prop) (step:∀ n sgZ l,m n sgZ l->run P G c sgZ l (mN (fun sgZ l=>∃ j,j<n/\m j sgZ l) K.k)) :∀ n sgZ l,m n sgZ l->x2 (run P G c) sgZ l (c:=K):=by
 intro n
 induction n using Nat.strongRecOn with
 | _ n u=>
  intro sgZ l h
  -- fuel n+1 is enough
  have o:∀ (g n:Nat),n<=g->∀ sgZ l,m n sgZ l->uk (run P G c) (g+1) sgZ l K.k:=by
   intro g
   induction g with
   | zero=>
    intro n q sgZ l h;obtain rfl:n=0:=F;exact Eb (wq (fun sgZ l ⟨j,h1,_⟩=>F) (fun _ _ _ h=>h)) (step 0 sgZ l h)
   | succ g t=>
    intro n q sgZ l h;exact Eb (wq (fun sgZ l ⟨j,h1,p⟩=>t j F sgZ l p) (fun _ _ _ h=>h)) (step n sgZ l h)
  exact⟨n+1,o n n (aI _) sgZ l h⟩
theorem bz {c:fO} {K:Bb} (n:Nat) (g:Nat->aR->ae->Prop) (step:∀ k sgZ l,k<=n->g k sgZ l->run P G c sgZ l (mN (fun sgZ l=>k<n/\g (k+1) sgZ l) K.k)) {sgZ:aR} {l:ae} (h:g 0 sgZ l) :x2 (run P G c) sgZ l (c:=K):=by refine ww (fun j sgZ l=>∃ k,k+j=n/\g k sgZ l) (fun j sgZ l ⟨k,hk,h⟩=>?_) n sgZ l ⟨0,F,h⟩;exact Eb (wq (fun sgZ l ⟨h1,m⟩=>⟨j - 1,F,k+1,F,m⟩) (fun _ _ _ h=>h)) (step k sgZ l F h)
end
end Go.bh

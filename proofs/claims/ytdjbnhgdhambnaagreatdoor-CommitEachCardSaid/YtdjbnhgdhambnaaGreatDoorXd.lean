/-
  The canonical machine, part T: small operations, without types.
-/
import Derived.Test.YtdjbnhgdhambnaaGreatDoorXc
set_option maxHeartbeats 16000000
set_option maxRecDepth 100000
set_option linter.unusedVariables false
set_option linter.unusedSimpArgs false
set_option linter.unnecessarySimpa false
namespace Go.bf
open Go
def fM (l:ae) :U->Option (ag × Nat)
 | .ptr b g h=>match l[b]? with
  | some (.cells n cs)=>if n=h then some (cs,g) else none
  | _=>none
 | .bR cs g=>some (cs,g)
 | _=>none
def r6 (n:Nat) (cs:ag) (off:Nat) :Option U:=if off+n<=cs.length then some (.ah ((cs.drop off).take n)) else none
def jm (n:Nat) (l:ae) (p v:U) :Option ae:=
 match p,v.cells with
 | .ptr b h m,some j=>match l[b]? with
  | some (.cells g cs)=>if g=m/\j.length=n/\h+n<=g then some (l.set b (.cells g (aw cs h j))) else none
  | _=>none
 | _,_=>none
def cD (l:ae) (z:Nat) :U->Option (ag × Nat)
 | .af=>some ([],0)
 | .bj g h=>if z=g then some (h.flatten,h.length) else none
 | .ad g b j len _ m=>match l[b]? with
  | some (.cells n cs)=>if n=m/\z=g then some ((cs.drop j).take (len*z),len) else none
  | _=>none
 | .str s=>if z=1 then some (s.map hb,s.length) else none
 | _=>none
def ha (l:ae) (z by_:Nat) (s:U) (xs:ag) (n:Nat) :Option (U × ae):=
 if n=0 then (match s with | .af | .bj .. | .ad ..=>some (s,l) | _=>none)
 else if z=0\/by_=0 then none else match s with
  | .af=>if n*by_<=db then some (.ad z l.length 0 n n (n*z),l++[.cells (n*z) xs]) else none
  | .ad m b g len cap h=>match l[b]? with
   | some (.cells j cs)=>
    if j=h/\z=m/\(len+n)*by_<=db then
     if len+n<=cap then some (.ad z b g (len+n) cap h,l.set b (.cells j (aw cs (g+len*z) xs)))
     else if g+cap*z<h then some (.ad z l.length 0 (len+n) (len+n) ((len+n)*z),l++[.cells ((len+n)*z) ((cs.drop g).take (len*z)++xs)])
     else if g=0 then some (.ad z b 0 (len+n) (len+n) ((len+n)*z),l.set b (.cells ((len+n)*z) (cs.take (len*z)++xs)))
     else some (.ad z l.length 0 (len+n) (len+n) ((len+n)*z),l.set b .dead++[.cells ((len+n)*z) ((cs.drop g).take (len*z)++xs)])
    else none
   | _=>none
  | _=>none
def x0 (z:Nat) (l:ae) (d x:U) :Option (U × ae):=
 match cD l z x with
 | none=>none
 | some (m,n)=>match d with
  | .af=>some (.int .i64 0,l)
  | .ad o b h len _ j=>match l[b]? with
   | some (.cells g cs)=>if g=j/\z=o then some (.int .i64 ((min n len:Nat) :Int),l.set b (.cells g (aw cs h (m.take (min n len*z))))) else none
   | _=>none
  | _=>none
def tP (l:ae) :U->Option (List (U × U × Nat))
 | .gP=>some []
 | .mp b=>match l[b]? with | some (.map g _)=>some g | _=>none
 | _=>none
def oR (l:ae) (x:U) :Option (List UInt8):=match x with
 | .str s=>some s
 | x=>match cD l 1 x with
  | some (cs,_)=>jv cs
  | none=>none
def cmpL (l:ae) (x y:U) :Option U:=match oR l x,oR l y with
 | some a,some b=>some (.int .i64 (lv a b))
 | _,_=>none
def cL (l:ae) (x:U) :Option (U × ae):=match x with
 | .it b=>match l[b]? with
  | some (.iter s pos)=>match Nat.blt pos s.length with
   | true=>some (.aZ [.bool true,.int .i64 pos,.int .i32 (Utf8.decode ⟨s.toArray⟩ pos).1],l.set b (.iter s (pos+(Utf8.decode ⟨s.toArray⟩ pos).2)))
   | false=>some (.aZ [.bool false],l)
  | _=>none
 | _=>none
def wK (l:ae) (x:U) :Option (U × ae):=match x with
 | .str s=>some (.it l.length,l++[.iter s 0])
 | _=>none
def Cb (l:ae) (x:U) :Option U:=match x with
 | .gP=>some (.int .i64 0)
 | .mp b=>match l[b]? with | some (.map g _)=>some (.int .i64 g.length) | _=>none
 | _=>none
def oX (zero:ag) (l:ae) :U->Option ae
 | .af=>some l
 | .bj _ []=>some l
 | .ad m b h len _ j=>if len=0 then some l else match l[b]? with
  | some (.cells g cs)=>if g=j/\zero.length=m then some (l.set b (.cells g (aw cs h (cy zero len)))) else none
  | _=>none
 | _=>none
theorem J0 (l:ae) (p:U) :lQ (aU l) p=fM l p:=by
 cases p<;>try rfl
 rename_i b g h;simp only[lQ,fM,js];cases l[b]? with
 | none=>rfl
 | some c=>cases c<;>rfl
theorem xZ (l:ae) (z:Nat) (x:U) :contents (aU l) z x=cD l z x:=by
 cases x<;>try rfl
 rename_i j b g len cap h;simp only[contents,cD,js];cases l[b]? with
 | none=>rfl
 | some c=>cases c<;>rfl
section
variable (P:bg)
inductive hK where
 | arr (n g:Nat)
 | ad (g:Nat)
 | str
 deriving DecidableEq
def lW (t:aC) :Option hK:=match P.underlying t with
 | some (.array n e)=>(b3 P e).map fun g=>.arr n g
 | some (.slice e)=>(b3 P e).map fun g=>.ad g
 | some .string=>some .str
 | _=>none
inductive dm where
 | dS (x:aT)
 | pick (c a b:aT)
 | alloc (zero:ag)
 | box (x:aT)
 | xO (zero:ag) (v:List (Nat × Nat × aT))
 | qc (g:Nat) (zero:ag) (len:Nat) (v:List (Nat × aT))
 | ld1 (a:aT)
 | jD (n:Nat) (a:aT)
 | st (n:Nat) (a x:aT)
 | yU (x:aT)
 | bin (t:BinOp) (o:aC) (x y:aT)
 | un (t:UnOp) (x:aT)
 | vt (k:cQ) (x:aT)
 | Gg (x:aT)
 | tm (x:aT)
 | x3 (x:aT)
 | Cn (o:aC) (x:aT)
 | D3 (o:aC) (g:U) (u:Bool) (x:aT)
 | wd (f:cb) (first eZ:List aT)
 | r2 (g j:Nat) (zero:ag) (l c:aT)
 | slice (h:hK) (x:aT) (B z C:Option aT)
 | m6 (m:Nat) (x:aT)
 | G9 (m:Nat) (x:aT)
 | yh (n m:Nat) (x:aT)
 | rS (h:hK) (x i:aT)
 | yv (n g:Nat) (x i:aT)
 | HO (n g:Nat) (x i:aT)
 | yx (x i:aT)
 | ext (x:aT) (i:Nat)
 | len (h:hK) (x:aT)
 | cap (h:hK) (x:aT)
 | app (g j:Nat) (s x:aT)
 | tc (g j:Nat) (zero:ag) (s x:aT)
 | x2 (g:Nat) (d x:aT)
 | tq (zero:ag) (x:aT)
 | min (x y:aT)
 | max (x y:aT)
 | tQ (x:Option aT)
 | v6 (p:aC) (zero:U) (u:Bool) (q k:aT)
 | tS (p:aC) (q k x:aT)
 | yF (x:aT)
 | uo (x:aT)
 | tW (x:aT)
 | bD (f:cb) (w x y:aT)
 | stop
def v7 (l:ae) (g:aC) (zero:U) (h:Bool) (m k:U) :Option U:=
 match tP l m with
 | some o=>match kh P g k with
  | false=>none
  | true=>match jA P g k o 0 with
   | some (some (_,j))=>some (if h then .aZ [j,.bool true] else j)
   | some none=>some (if h then .aZ [zero,.bool false] else zero)
   | none=>none
 | none=>none
def r0 (l:ae) (j:aC) (m k v:U) :Option ae:=
 match m with
 | .mp b=>match l[b]? with
  | some (.map h g)=>match kh P j k with
   | false=>none
   | true=>match jA P j k h 0 with
    | some (some (i,_))=>some (l.set b (.map (h.modify i fun e=>(k,v,e.2.2)) g))
    | some none=>some (l.set b (.map (h++[(k,v,g)]) (g+1)))
    | none=>none
  | _=>none
 | _=>none
def yt (f:cb) :U->Bool | .fn g [] []=>Nat.beq g f | _=>false
def y9 (c a b:U) :Option U:=match c with | .bool g=>some (if g then a else b) | _=>none
def yV (x:U) :Option U:=match x with | .ptr b g s=>some (.ptr b g s) | .bR c g=>some (.bR c g) | .fn f a b=>some (.fn f a b) | _=>none
def mY (zero:ag) :List (Nat × Nat × U)->Option (ag)
 | []=>some zero
 | (g,size,j) ::r=>match j.cells with
  | some h=>if h.length=size/\g+size<=zero.length then mY (aw zero g h) r else none
  | none=>none
def vu (k:cQ) :U->Option U | .int _ n=>some (.int k (k.wrap n)) | _=>none
def Gh:U->Option U | .str s=>some (.str s) | _=>none
def oT (l:ae) (x:U) :Option U:=match x with
 | .af=>some (.str [])
 | .str _=>none
 | x=>match cD l 1 x with | some (cs,_)=>(jv cs).map .str | none=>none
def rB:U->Option U | .str s=>some (.bj 1 (s.map fun b=>[hb b])) | _=>none
def lG (z by_:Nat) (zero:ag) (g:ae) (l c:U) :Option (U × ae):=match l,c with
 | .int _ l,.int _ c=>if 0<=l/\l<=c/\c<9223372036854775808/\by_*c<=db then
   some (.ad z g.length 0 l.toNat c.toNat (c.toNat*z),g++[.cells (c.toNat*z) (cy zero c.toNat)]) else none
 | _,_=>none
def dB (w:hK) (x:U) (p o q:Option U) :Option U:=
 match w with
 | .arr n g=>match eY n n p o q with
  | some (l,h,m)=>match x with
   | .ptr b j t=>if j+m*g<=t then (if m=l then some (.bj g []) else some (.ad g b (j+l*g) (h - l) (m - l) t)) else none
   | .bR cs j=>if j+n*g<=cs.length then some (.bj g (ls g (h - l) (cs.drop (j+l*g)))) else none
   | _=>none
  | none=>none
 | .ad g=>match x with
  | .ad v b j len cap t=>if g=v then (eY len cap p o q).map fun (l,h,m)=>if m=l then .ad g b (j+l*g) 0 0 t else .ad g b (j+l*g) (h - l) (m - l) t else none
  | .bj v u=>if g=v then (eY u.length u.length p o q).map fun (l,h,_)=>.bj g ((u.drop l).take (h - l)) else none
  | .af=>(eY 0 0 p o q).map fun _=>.af
  | _=>none
 | .str=>match x,q with
  | .str s,none=>(eY s.length s.length p o none).map fun (l,h,_)=>.str ((s.drop l).take (h - l))
  | _,_=>none
def Ha (off:Nat) :U->Option U | .ah cs=>cs[off]? | _=>none
def yi (n off:Nat) :U->Option U | .ah cs=>r6 n cs off | _=>none
def bF (q:hK) (x m:U) :Option U:=
 match m with
 | .int _ i=>match q with
  | .arr n g=>if 0<=i/\i<n then kM x (i.toNat*g) else none
  | .ad g=>match x with
   | .ad h b o len _ p=>if g=h/\0<=i/\i<len then some (.ptr b (o+i.toNat*g) p) else none
   | .bj h j=>if g=h/\0<=i then (j[i.toNat]?).map fun cs=>.bR cs 0 else none
   | _=>none
  | .str=>none
 | _=>none
def yw (n z:Nat) (x g:U) :Option U:=match x,g with
 | .ah cs,.int _ i=>if 0<=i/\i<n then cs[i.toNat*z]? else none
 | _,_=>none
def HP (n z:Nat) (x g:U) :Option U:=match x,g with
 | .ah cs,.int _ i=>if 0<=i/\i<n then r6 z cs (i.toNat*z) else none
 | _,_=>none
def tG (x g:U) :Option U:=match x,g with
 | .str s,.int _ i=>if 0<=i then (s[i.toNat]?).map hb else none
 | _,_=>none
def yb (x:U) (i:Nat) :Option U:=match x with | .aZ g=>g[i]? | _=>none
def bt (h:hK) (x:U) :Option U:=match h with
 | .arr n _=>some (.int .i64 n)
 | .ad _=>match x with
  | .af=>some (.int .i64 0)
  | .ad _ _ _ len _ _=>some (.int .i64 len)
  | .bj _ g=>some (.int .i64 g.length)
  | _=>none
 | .str=>match x with | .str s=>some (.int .i64 s.length) | _=>none
def rv (g:hK) (x:U) :Option U:=match g with
 | .arr n _=>some (.int .i64 n)
 | .ad _=>match x with | .af=>some (.int .i64 0) | _=>none
 | .str=>none
def ep (l:ae) (z by_:Nat) (s x:U) :Option (U × ae):=match cD l z x with
 | none=>none
 | some (g,n)=>ha l z by_ s g n
def nP (l:ae) (z by_:Nat) (zero:ag) (s x:U) :Option (U × ae):=match x with
 | .int _ n=>if 0<=n/\n<9223372036854775808/\n.toNat*by_<=db then ha l z by_ s (cy zero n.toNat) n.toNat else none
 | _=>none
def dg (l:ae) (x:Option U) :Option (U × ae):=x.map fun g=>(g,l)
def bG (g:aT->U) (l:ae) :dm->Option (U × ae)
 | .dS x=>some (g x,l)
 | .pick c a b=>dg l (y9 (g c) (g a) (g b))
 | .alloc zero=>some (.ptr l.length 0 zero.length,l++[.cells zero.length zero])
 | .box x=>(g x).cells.map fun cs=>(.ptr l.length 0 cs.length,l++[.cells cs.length cs])
 | .xO zero B=>dg l ((mY zero (B.map fun m=>(m.1,m.2.1,g m.2.2))).map .ah)
 | .qc h zero len B=>(ef (fun i=>some (i*h,h)) (cy zero len) (B.map fun m=>(m.1,g m.2))).map fun cs=>(.ad h l.length 0 len len (len*h),l++[.cells (len*h) cs])
 | .ld1 a=>dg l ((fM l (g a)).bind fun x=>x.1[x.2]?)
 | .jD n a=>dg l ((fM l (g a)).bind fun x=>r6 n x.1 x.2)
 | .st n a x=>(jm n l (g a) (g x)).map fun p=>(fz,p)
 | .yU x=>dg l (yV (g x))
 | .bin q u x y=>dg l (dP P q u (g x) (g y))
 | .un q x=>dg l (qY q (g x))
 | .vt k x=>dg l (vu k (g x))
 | .Gg x=>dg l (Gh (g x))
 | .tm x=>dg l (oT l (g x))
 | .x3 x=>dg l (rB (g x))
 | .Cn u x=>some (.fT u (g x),l)
 | .D3 u h z x=>dg l (zL u h z (g x))
 | .wd f a b=>some (.fn f (a.map g) (b.map g),l)
 | .r2 h o zero a c=>lG h o zero l (g a) (g c)
 | .slice j x F D G=>dg l (dB j (g x) (F.map g) (D.map g) (G.map g))
 | .m6 t x=>dg l (kM (g x) t)
 | .G9 t x=>dg l (Ha t (g x))
 | .yh n t x=>dg l (yi n t (g x))
 | .rS j x i=>dg l (bF j (g x) (g i))
 | .yv n h x i=>dg l (yw n h (g x) (g i))
 | .HO n h x i=>dg l (HP n h (g x) (g i))
 | .yx x i=>dg l (tG (g x) (g i))
 | .ext x i=>dg l (yb (g x) i)
 | .len j x=>dg l (bt j (g x))
 | .cap j x=>dg l (rv j (g x))
 | .app h o s x=>ep l h o (g s) (g x)
 | .tc h o zero s x=>nP l h o zero (g s) (g x)
 | .x2 h d x=>x0 h l (g d) (g x)
 | .tq zero x=>(oX zero l (g x)).map fun p=>(.aZ [],p)
 | .min x y=>dg l (yN (g x) (g y))
 | .max x y=>dg l (og (g x) (g y))
 | .tQ x=>match x with
  | none=>some (.mp l.length,l++[.map [] 0])
  | some q=>match asInt (g q) with | some _=>some (.mp l.length,l++[.map [] 0]) | none=>none
 | .v6 v zero z w k=>dg l (v7 P l v zero z (g w) (g k))
 | .tS v w k x=>(r0 P l v (g w) (g k) (g x)).map fun p=>(fz,p)
 | .yF x=>dg l (Cb l (g x))
 | .uo x=>wK l (g x)
 | .tW x=>cL l (g x)
 | .bD f C x y=>match yt f (g C) with | true=>dg l (cmpL l (g x) (g y)) | false=>none
 | .stop=>none
def AX (t:aC) (ps:List (Nat × aT)) :Option (List (Nat × Nat × aT)):=
 match P.underlying t with
 | some (.struct h)=>if h.toList.all fun f=>(b3 P f.type).isSome then ps.mapM fun g=>(wE P h g.1).map fun q=>(q.1,q.2,g.2) else none
 | some (.array _ e)=>(b3 P e).map fun n=>ps.map fun g=>(g.1*n,n,g.2)
 | _=>none
def qh (b:Builtin) (ts:List aC) (args:List aT) :Option dm:=
 match b,ts,args with
 | .len,[g],[x]=>match P.underlying g with
  | some (.map _ _)=>some (.yF x)
  | _=>(lW P g).map fun m=>.len m x
 | .cap,[g],[x]=>(lW P g).map fun m=>.cap m x
 | .append,[g,u],[s,x]=>match P.underlying u with
  | some (.int _)=>(gb P g).bind fun e=>(b3 P e).bind fun h=>(gG P e).bind fun j=>(fV P e).bind fun zero=>
    if zero.length=h/\l2 P e=some h then some (.tc h j zero s x) else none
  | none=>none
  | _=>(gb P g).bind fun e=>(b3 P e).bind fun h=>(gG P e).bind fun j=>if l2 P e=some h then some (.app h j s x) else none
 | .copy,[g,_],[d,x]=>(gb P g).bind fun e=>(b3 P e).map fun h=>.x2 h d x
 | .clear,[g],[x]=>match P.underlying g with
  | some (.slice e)=>(fV P e).map fun zero=>.tq zero x
  | _=>none
 | .min,_,[x,y]=>some (.min x y)
 | .max,_,[x,y]=>some (.max x y)
 | _,_,_=>none
def j6:Op->Option dm
 | .move x | .assign x=>some (.dS x)
 | .pick c a b=>some (.pick c a b)
 | .alloc g=>(fV P g).map .alloc
 | .box _ x=>some (.box x)
 | .build g u=>(fV P g).bind fun zero=>(AX P g u.toList).map fun q=>.xO zero q
 | .buildSlice g len u=>(gb P g).bind fun e=>(b3 P e).bind fun h=>(fV P e).bind fun zero=>
   if zero.length=h/\len*h<=16777216 then some (.qc h zero len u.toList) else none
 | .load g a=>match ds P g,b3 P g with
  | some true,some n=>some (.jD n a)
  | some false,_=>some (.ld1 a)
  | _,_=>none
 | .store g a x=>(b3 P g).map fun n=>.st n a x
 | .nilCheck x=>some (.yU x)
 | .binOp p g x y _=>some (.bin p g x y)
 | .unOp p _ x=>some (.un p x)
 | .convert s d x=>match P.underlying s,P.underlying d with
  | some _,some (.int k)=>some (.vt k x)
  | some (.slice e),some .string=>match P.underlying e with
   | some (.int .u8)=>some (.tm x)
   | _=>none
  | some .string,some .string=>some (.Gg x)
  | some .string,some (.slice e)=>match P.underlying e with
   | some (.int .u8)=>some (.x3 x)
   | _=>none
  | _,_=>none
 | .makeInterface g x=>match P.underlying g with
  | some (.interface _) | none=>none
  | _=>some (.Cn g x)
 | .makeFunc (.func f) a b=>some (.wd f a.toList b.toList)
 | .makeSlice g l c=>(gb P g).bind fun e=>(b3 P e).bind fun h=>(gG P e).bind fun v=>(fV P e).bind fun zero=>
   if zero.length=h then some (.r2 h v zero l c) else none
 | .slice g x B z C=>(lW P g).map fun D=>.slice D x B z C
 | .fieldAddr s x f=>(rH P s f).bind fun j=>match b3 P j.type with
  | some (_+1)=>some (.m6 j.offset x)
  | _=>none
 | .field g x f=>(rH P g f).bind fun j=>match ds P j.type,b3 P j.type with
  | some true,some n=>some (.yh n j.offset x)
  | some false,_=>some (.G9 j.offset x)
  | _,_=>none
 | .indexAddr g x i=>match lW P g with
  | some (.arr n h)=>some (.rS (.arr n h) x i)
  | some (.ad h)=>some (.rS (.ad h) x i)
  | _=>none
 | .index g x i=>match P.underlying g with
  | some (.array n e)=>match b3 P e,ds P e with
   | some h,some true=>some (.HO n h x i)
   | some h,some false=>some (.yv n h x i)
   | _,_=>none
  | some .string=>some (.yx x i)
  | _=>none
 | .extract x i=>some (.ext x i)
 | .call c=>match c.callee with
  | .builtin b=>qh P b c.argTypes.toList c.args.toList
  | .value (.func f)=>match P.funcs[f]?,c.args.toList with
   | some fn,[x,y]=>if vU fn then some (.bD f (.func f) x y) else none
   | _,_=>none
  | _=>none
 | .makeMap g r=>match P.underlying g with | some (.map _ _)=>some (.tQ r) | _=>none
 | .lookup g m k t=>match P.underlying g with | some (.map o w)=>(sJ P w).map fun h=>.v6 o h t m k | _=>none
 | .mapUpdate g m k x | .insert g m k x=>match P.underlying g with | some (.map o _)=>some (.tS o m k x) | _=>none
 | .range g x=>match P.underlying g with | some .string=>some (.uo x) | _=>none
 | .next it true=>some (.tW it)
 | .panic _=>some .stop
 | .typeAssert x _ g t=>(zM P g).map fun h=>.D3 g h t x
 | _=>none
end
section
variable {P:bg}
theorem bind_some {alZ g:Type} {x:Option alZ} {f:alZ->Option g} {y:g}:x.bind f=some y<->∃ a,x=some a/\f a=some y:=by cases x<;>simp
theorem map_some {alZ g:Type} {x:Option alZ} {f:alZ->g} {y:g}:x.map f=some y<->∃ a,x=some a/\f a=y:=by cases x<;>simp
theorem e1 {l l' : ae} {x:Option U} {v:U}:dg l x=some (v,l')<->x=some v/\l'=l:=by cases x<;>simp[dg,eq_comm]
theorem gI {alZ:Type} {p:Prop} [Decidable p] {x y:alZ}:(if p then some x else none)=some y<->p/\x=y:=by by_cases p<;>simp_all
theorem Fp {l l' : ae} {e z by_ n:Nat} {s v:U} {xs:ag} (B:l2 P e=some z) (h:ha l z by_ s xs n=some (v,l')) :p8 P (aU l) e z by_ s xs n=some (v,aU l'):=by
 unfold ha at h;unfold p8;by_cases q:n=0
 ·rw[aj q] at h ⊢;cases s<;>simp at h ⊢<;>simp[h]
 ·rw[ak q] at h ⊢;by_cases j:z=0\/by_=0
  ·rw[aj j] at h;cases h
  ·rw[ak j] at h;rw[ak (by simp only[B];simpa using j)];cases s<;>simp only at h ⊢<;>try (cases h;done)
   case af=>
    by_cases t:n*by_<=db
    ·rw[aj t] at h ⊢;cases h;rw[ll];rfl
    ·rw[ak t] at h;cases h
   case ad D b u len cap w=>
    cases g:l[b]? with
    | none=>rw[g] at h;cases h
    | some c=>
     cases c<;>rw[g] at h<;>(try simp only at h)<;>try (cases h;done)
     rename_i C cs;rw[hq.2 g];simp only;by_cases h1:C=w/\z=D/\(len+n)*by_<=db
     ·rw[aj h1] at h ⊢;by_cases m:len+n<=cap
      ·rw[aj m] at h ⊢;cases h;rw[ma _ (aY g)]
      ·rw[ak m] at h ⊢;by_cases o:u+cap*z<w
       ·rw[aj o] at h ⊢;cases h;rw[ll];rfl
       ·rw[ak o] at h ⊢;by_cases p:u=0
        ·rw[aj p] at h ⊢;cases h;rw[ma _ (aY g)]
        ·rw[ak p] at h ⊢;cases h;rw[ma _ (aY g),ll];rfl
     ·rw[ak h1] at h;cases h
theorem N0 {t:aC} {ps:List (Nat × aT)} {q:List (Nat × Nat × aT)} (h:AX P t ps=some q) (j:aT->U) (zero:ag) (w:fV P t=some zero) {cs:ag}
  (m:mY zero (q.map fun p=>(p.1,p.2.1,j p.2.2))=some cs) :vn P t (ps.map fun p=>(p.1,j p.2))=some (.ah cs):=by
 have fill:∀ (v:Nat->Option (Nat × Nat)) (ps:List (Nat × aT)) (q:List (Nat × Nat × aT)) (zero:ag),
   (ps.mapM fun p=>(v p.1).map fun q=>(q.1,q.2,p.2))=some q->mY zero (q.map fun p=>(p.1,p.2.1,j p.2.2))=some cs->ef v zero (ps.map fun p=>(p.1,j p.2))=some cs:=by
  intro v ps
  induction ps with
  | nil=>intro q zero h1 g;simp at h1;subst h1;simpa [mY,ef] using g
  | cons p ps u=>
   intro q zero h1 g;rw[oC] at h1;simp only[Option.bind_eq_bind,bind_some,map_some,s3,bc] at h1;obtain⟨a,⟨H,B,rfl⟩,J,C,rfl⟩:=h1;simp only[dh,mY,ef,B] at g ⊢;split at g
   ·rename_i K G;simp only[G];split at g
    ·rename_i D;rw[aj D];exact u _ _ C g
    ·cases g
   ·cases g
 unfold AX at h;unfold vn;split at h
 ·rename_i I o;rw[w,o];simp only;split at h
  ·rename_i F;rw[ak (by simp[F])];rw[fill _ _ _ _ h m];rfl
  ·cases h
 ·rename_i n e o;rw[map_some] at h;obtain⟨z,h1,rfl⟩:=h;rw[w,o];simp only[h1];rw[fill (fun i=>some (i*z,z)) ps _ zero ?_ m];rfl;clear m
  induction ps with
  | nil=>rfl
  | cons p ps u=>rw[oC,u];rfl
 ·cases h
theorem Wc {t:aC} {o:hK} (g:lW P t=some o) (x:U) (m j yQ:Option U) :dB o x m j yQ=wW P t x m j yQ:=by
 unfold lW at g;unfold wW;split at g
 ·rename_i n e h;rw[map_some] at g;obtain⟨p,h1,rfl⟩:=g;rw[h];simp only[h1,dB];cases eY n n m j yQ<;>rfl
 ·rename_i e h;rw[map_some] at g;obtain⟨p,h1,rfl⟩:=g;rw[h];simp only[h1,dB];cases x<;>rfl
 ·rename_i h;cases g;rw[h];simp only[dB];cases x<;>cases yQ<;>rfl
 ·cases g
theorem RO {t:aC} {m:hK} (g:lW P t=some m) {x v:U} (h:bt m x=some v) :rV P t x=some v:=by
 unfold lW at g;unfold rV;split at g
 ·rename_i n e j;rw[map_some] at g;obtain⟨o,h1,rfl⟩:=g;rw[j];simpa [bt] using h
 ·rename_i e j;rw[map_some] at g;obtain⟨o,h1,rfl⟩:=g;rw[j];unfold bt at h;cases x<;>simp_all
 ·rename_i j;cases g;rw[j];unfold bt at h;cases x<;>simp_all
 ·cases g
theorem Ot {t:aC} {m:hK} (g:lW P t=some m) {x v:U} (h:rv m x=some v) :tk P t x=some v:=by
 unfold lW at g;unfold tk;split at g
 ·rename_i n e j;rw[map_some] at g;obtain⟨o,h1,rfl⟩:=g;rw[j];simpa [rv] using h
 ·rename_i e j;rw[map_some] at g;obtain⟨o,h1,rfl⟩:=g;rw[j];unfold rv at h;cases x<;>simp_all
 ·rename_i j;cases g;rw[j];unfold rv at h;cases x<;>simp_all
 ·cases g
theorem Hz {t:aC} {m:hK} (g:lW P t=some m) {x i v:U} (h:bF m x i=some v) :vT P t x i=some v:=by
 unfold lW at g;unfold vT;unfold bF at h;cases i<;>(try simp only at h)<;>try (cases h;done)
 rename_i k i;split at g
 ·rename_i n e j;rw[map_some] at g;obtain⟨o,h1,rfl⟩:=g;rw[j];simpa [asInt,h1] using h
 ·rename_i e j;rw[map_some] at g;obtain⟨o,h1,rfl⟩:=g;rw[j];simp only[asInt,h1];simp only at h;cases x<;>simp only at h ⊢<;>first | exact h | cases h
 ·rename_i j;cases g;simp only at h;cases h
 ·cases g
theorem WF {t:aC} {n:Nat} (m:b3 P t=some n) {l l' : ae} {p v:U} (h:jm n l p v=some l') :qU P (aU l) t p v=some (aU l'):=by
 unfold jm at h;unfold qU;cases p<;>(try simp only at h)<;>try (cases h;done)
 rename_i b q u;cases j:v.cells with
 | none=>rw[j] at h;cases h
 | some w=>
  rw[j] at h;simp only[m] at h ⊢;cases g:l[b]? with
  | none=>rw[g] at h;cases h
  | some c=>
   cases c<;>rw[g] at h<;>(try simp only at h)<;>try (cases h;done)
   rename_i o cs;rw[hq.2 g];simp only;rw[gI] at h;obtain⟨h1,rfl⟩:=h;rw[aj h1,ma _ (aY g)]
theorem O7 {t e:aC} {z:Nat} (o:gb P t=some e) (p:b3 P e=some z) {l l' : ae} {d x v:U} (h:x0 z l d x=some (v,l')) :tt P (aU l) t d x=some (v,aU l'):=by
 unfold x0 at h;unfold tt;rw[o];simp only[p,xZ];cases j:cD l z x with
 | none=>rw[j] at h;cases h
 | some q=>
  obtain⟨C,n⟩:=q;rw[j] at h;simp only at h ⊢;cases d<;>simp only at h ⊢<;>try (cases h;done)
  case af=>cases h;rfl
  case ad D b w len cap B=>
   cases g:l[b]? with
   | none=>rw[g] at h;cases h
   | some c=>
    cases c<;>rw[g] at h<;>(try simp only at h)<;>try (cases h;done)
    rename_i u cs;rw[hq.2 g];simp only;rw[gI] at h;obtain⟨h1,m⟩:=h;cases m;rw[aj h1,ma _ (aY g)]
theorem OJ {t e:aC} {zero:ag} (o:P.underlying t=some (.slice e)) (p:fV P e=some zero) {l l' : ae} {x:U} (h:oX zero l x=some l') :tn P (aU l) t x=some (aU l'):=by
 unfold oX at h;unfold tn;rw[o];cases x<;>(try simp only at h)<;>try (cases h;done)
 case af=>cases h;rfl
 case bj q m=>cases m<;>simp only at h<;>cases h;rfl
 case ad q b v len cap w=>
  simp only;by_cases j:len=0
  ·rw[aj j] at h ⊢;cases h;rfl
  ·rw[ak j] at h ⊢;rw[p];cases g:l[b]? with
   | none=>rw[g] at h;cases h
   | some c=>
    cases c<;>rw[g] at h<;>(try simp only at h)<;>try (cases h;done)
    rename_i u cs;rw[hq.2 g];simp only;rw[gI] at h;obtain⟨h1,rfl⟩:=h;rw[aj h1,ma _ (aY g)]
theorem Ig {t j q:aC} (u:P.underlying t=some (.map j q)) {l l' : ae} {m k x:U} (h:r0 P l j m k x=some l') :rZ P (aU l) t m k x=some (aU l'):=by
 unfold r0 at h;unfold rZ;rw[u];cases m<;>(try simp only at h)<;>try (cases h;done)
 rename_i b;simp only[js];cases g:l[b]? with
 | none=>rw[g] at h;cases h
 | some c=>
  cases c<;>rw[g] at h<;>simp only at h<;>try (cases h;done)
  rename_i p v;simp only;cases hk:kh P j k with
  | false=>rw[hk] at h;cases h
  | true=>
   rw[hk] at h;simp only at h ⊢;cases o:jA P j k p 0 with
   | none=>rw[o] at h;cases h
   | some r=>
    rw[o] at h;cases r with
    | none=>cases h;simp only[ma _ (aY g)]
    | some w=>cases h;simp only[ma _ (aY g)]
theorem RS {t:aC} (h1:ds P t=some false) (h:aE) (p:U) :od P h t p=(lQ h p).bind fun x=>x.1[x.2]?:=by unfold od gg;rw[h1];cases lQ h p<;>rfl
theorem RT {t:aC} {n:Nat} (h1:ds P t=some true) (g:b3 P t=some n) (h:aE) (p:U) :od P h t p=(lQ h p).bind fun x=>r6 n x.1 x.2:=by unfold od gg;rw[h1,g];cases lQ h p<;>rfl
theorem Oc {b:Builtin} {ts:List aC} {args:List aT} {m:dm} (g:qh P b ts args=some m) {p:aT->U} {l l' : ae} {v:U} (h:bG P p l m=some (v,l')) :
  mg P (aU l) b ts (args.map p)=some (.val v (aU l')):=by
 unfold qh at g;split at g
 ·rename_i R;split at g
  ·rename_i k e o;cases g;simp only[bG,e1] at h;obtain⟨j,rfl⟩:=h;unfold Cb at j;simp only[dh,l6,mg];cases D:p R<;>rw[D] at j<;>(try simp only at j)<;>try (cases j;done)
   ·cases j;simp[rV,rW,o]
   ·rename_i b;cases B:l'[b]? with
    | none=>rw[B] at j;cases j
    | some c=>
     cases c<;>rw[B] at j<;>simp only at j<;>try (cases j;done)
     cases j;simp[rW,o,js,B]
  ·rw[map_some] at g;obtain⟨Q,h1,rfl⟩:=g;simp only[bG,e1] at h;obtain⟨j,rfl⟩:=h;have q:=RO h1 j;have t:∀ x,rW P (aU l') _ x=none:=fun x=>by
    unfold lW at h1;unfold rW;split at h1<;>first | (rename_i o;rw[o];done) | (cases h1;done) | skip
    all_goals (rename_i o;simp only[o])
   simp only[dh,l6,mg,t];simp[q]
 ·rw[map_some] at g;obtain⟨Q,h1,rfl⟩:=g;simp only[bG,e1] at h;obtain⟨j,rfl⟩:=h;simp[mg,Ot h1 j]
 ·rename_i O u s x;simp only[dh,l6,mg];split at g
  ·rename_i o;simp only[bind_some] at g;obtain⟨e,h1,F,j,G,q,zero,t,g⟩:=g;rw[gI] at g;obtain⟨⟨I,w⟩,rfl⟩:=g;simp only[bG] at h;unfold nP at h;cases D:p x<;>rw[D] at h<;>(try simp only at h)<;>try (cases h;done)
   rename_i k n;by_cases z:0<=n/\n<9223372036854775808/\n.toNat*G<=db
   ·rw[aj z] at h;rw[o];simp only[vh,h1,asInt,j,q,t];rw[aj ⟨I,z⟩,Fp w h];rfl
   ·rw[ak z] at h;cases h
  ·cases g
  ·rename_i J o;simp only[bind_some] at g;obtain⟨e,h1,F,j,G,q,g⟩:=g;rw[gI] at g;obtain⟨w,rfl⟩:=g;simp only[bG] at h;unfold ep at h;cases C:cD l F (p x) with
   | none=>rw[C] at h;cases h
   | some K=>
    obtain⟨T,n⟩:=K;rw[C] at h;simp only at h;have:nQ P (aU l) O (p s) (p x)=some (v,aU l'):=by
     simp only[nQ,h1,j,q,xZ,C];exact Fp w h
    rw[this];cases H:P.underlying u with
    | none=>exact bK H o
    | some d=>
     cases d<;>first | rfl | (rename_i k;exact bK H (J k))
 ·simp only[bind_some,map_some] at g;obtain⟨e,h1,F,j,rfl⟩:=g;simp only[bG] at h;simp[mg,O7 h1 j h]
 ·split at g
  ·rename_i e o;rw[map_some] at g;obtain⟨zero,h1,rfl⟩:=g;simp only[bG,map_some,Prod.mk.injEq] at h;obtain⟨S,j,rfl,rfl⟩:=h;simp[mg,OJ o h1 j]
  ·cases g
 ·cases g;simp only[bG,e1] at h;obtain⟨j,rfl⟩:=h;simp[mg,j]
 ·cases g;simp only[bG,e1] at h;obtain⟨j,rfl⟩:=h;simp[mg,j]
 ·cases g
theorem CJ {t:aC} (h1:ds P t=some false) (cs:ag) (off:Nat) :gg P t cs off=cs[off]?:=by unfold gg;rw[h1]
theorem Ja {t:aC} {n:Nat} (h1:ds P t=some true) (g:b3 P t=some n) (cs:ag) (off:Nat) :gg P t cs off=r6 n cs off:=by unfold gg;rw[h1,g];rfl
theorem A3 {s d:aC} {x:U} (h:∀ e,P.underlying d=some (.slice e)->False) :tj P s d x=none:=by
 unfold tj;split
 ·rename_i e m j g;exact (h e g).elim
 ·rfl
theorem yP {op:Op} {m:dm} (j:j6 P op=some m) {t:aT->U} {l l' : ae} {v:U} (h:bG P t l m=some (v,l')) :cB P (aU l) t op=some (.val v (aU l')):=by
 cases op<;>simp only[j6] at j<;>try (cases j;done)
 case move x=>cases j;simp only[bG,bc,Prod.mk.injEq] at h;obtain⟨rfl,rfl⟩:=h;rfl
 case assign x=>cases j;simp only[bG,bc,Prod.mk.injEq] at h;obtain⟨rfl,rfl⟩:=h;rfl
 case pick c a b=>
  cases j;simp only[bG,e1] at h;obtain⟨g,rfl⟩:=h;simp only[cB];unfold y9 at g;cases H:t c<;>rw[H] at g<;>(try simp only at g)<;>try (cases g;done)
  cases g;rfl
 case alloc w=>
  rw[map_some] at j;obtain⟨zero,h1,rfl⟩:=j;simp only[bG,bc,Prod.mk.injEq] at h;obtain⟨rfl,rfl⟩:=h;simp only[cB,h1,ll];rfl
 case box w x=>
  cases j;simp only[bG,map_some,Prod.mk.injEq] at h;obtain⟨cs,h1,rfl,rfl⟩:=h;simp only[cB,h1,ll];rfl
 case build w ay=>
  simp only[bind_some,map_some] at j;obtain⟨zero,h1,q,g,rfl⟩:=j;simp only[bG,e1,map_some] at h;obtain⟨⟨cs,o,rfl⟩,rfl⟩:=h;simp only[cB,N0 g t zero h1 o];rfl
 case buildSlice w n ay=>
  simp only[bind_some] at j;obtain⟨e,h1,J,g,zero,o,j⟩:=j;rw[gI] at j;obtain⟨z,rfl⟩:=j;simp only[bG,map_some,Prod.mk.injEq] at h;obtain⟨cs,S,rfl,rfl⟩:=h;simp only[cB,xR,h1,g,o,aj z,S,ll];rfl
 case load w a=>
  split at j
  ·rename_i n h1 g;cases j;simp only[bG,e1] at h;obtain⟨o,rfl⟩:=h;simp only[cB,RT h1 g,J0,o];rfl
  ·rename_i h1;cases j;simp only[bG,e1] at h;obtain⟨o,rfl⟩:=h;simp only[cB,RS h1,J0,o];rfl
  ·cases j
 case store w a x=>
  rw[map_some] at j;obtain⟨n,h1,rfl⟩:=j;simp only[bG,map_some,Prod.mk.injEq] at h;obtain⟨Y,g,rfl,rfl⟩:=h;simp only[cB,WF h1 g];rfl
 case nilCheck x=>
  cases j;simp only[bG,e1] at h;obtain⟨g,rfl⟩:=h;simp only[cB];unfold yV at g;cases H:t x<;>rw[H] at g<;>simp only at g<;>first | (cases g;done) | (cases g;rfl)
 case binOp aw w x y u=>
  cases j;simp only[bG,e1] at h;obtain⟨g,rfl⟩:=h;simp only[cB,g];rfl
 case unOp aw w x=>
  cases j;simp only[bG,e1] at h;obtain⟨g,rfl⟩:=h;simp only[cB,g];rfl
 case convert s d x=>
  simp only[cB];split at j
  ·rename_i aA k I F;cases j;simp only[bG,e1] at h;obtain⟨g,rfl⟩:=h;rw[A3 (fun e D=>by rw[F] at D;cases D)];unfold vu at g;cases p:t x<;>rw[p] at g<;>(try simp only at g)<;>try (cases g;done)
   cases g;simp only[rA,I,F];rfl
  ·rename_i e I F;split at j
   ·rename_i D;cases j;simp only[bG,e1] at h;obtain⟨g,rfl⟩:=h;rw[A3 (fun e D=>by rw[F] at D;cases D)];have:rA P (aU l') s d (t x)=some v:=by
     rw[<-g];unfold rA oT;rw[I,F];cases p:t x<;>(simp only[D,xZ])<;>(try rfl)<;>(rw[p] at g;unfold oT at g;simp only at g)
     ·cases g
     all_goals (cases H:cD l' 1 _<;>rfl)
    rw[this];rfl
   ·cases j
  ·rename_i I F;cases j;simp only[bG,e1] at h;obtain⟨g,rfl⟩:=h;rw[A3 (fun e D=>by rw[F] at D;cases D)];unfold Gh at g;cases p:t x<;>rw[p] at g<;>(try simp only at g)<;>try (cases g;done)
   cases g;simp only[rA,I,F];rfl
  ·rename_i e I F;split at j
   ·rename_i D;cases j;simp only[bG,e1] at h;obtain⟨g,rfl⟩:=h;unfold rB at g;cases p:t x<;>rw[p] at g<;>(try simp only at g)<;>try (cases g;done)
    cases g;simp only[tj,I,F,D]
   ·cases j
  ·cases j
 case makeInterface w x=>
  split at j
  ·cases j
  ·cases j
  ·rename_i h1 g;cases j;simp only[bG,bc,Prod.mk.injEq] at h;obtain⟨rfl,rfl⟩:=h;simp only[cB]
 case typeAssert x aH w ax=>
  rw[map_some] at j;obtain⟨J,V,rfl⟩:=j;simp only[bG,e1] at h;obtain⟨g,rfl⟩:=h;simp only[cB,V,g,cu]
 case makeFunc f a b=>
  cases f<;>simp only at j<;>try (cases j;done)
  cases j;simp only[bG,bc,Prod.mk.injEq] at h;obtain⟨rfl,rfl⟩:=h;rfl
 case makeSlice w a c=>
  simp only[bind_some] at j;obtain⟨e,h1,J,g,az,o,zero,z,j⟩:=j;rw[gI] at j;obtain⟨S,rfl⟩:=j;simp only[bG] at h;unfold lG at h;cases K:t a<;>rw[K] at h<;>(try simp only at h)<;>try (cases h;done)
  cases H:t c<;>rw[H] at h<;>(try simp only at h)<;>try (cases h;done)
  rw[gI] at h;obtain⟨ai,al⟩:=h;cases al;simp only[cB,K,H,yI,h1,asInt,g,o,z,aj (And.intro S ai),ll];rfl
 case slice w x aD C aE=>
  rw[map_some] at j;obtain⟨aG,h1,rfl⟩:=j;simp only[bG,e1] at h;obtain⟨g,rfl⟩:=h;rw[Wc h1] at g;simp only[cB,g];rfl
 case fieldAddr s x f=>
  rw[bind_some] at j;obtain⟨ag,h1,j⟩:=j;split at j
  ·rename_i n g;cases j;simp only[bG,e1] at h;obtain⟨o,rfl⟩:=h;simp only[cB,yc,h1,g,o];rfl
  ·cases j
 case field w x f=>
  rw[bind_some] at j;obtain⟨ag,h1,j⟩:=j;split at j
  ·rename_i n g o;cases j;simp only[bG,e1] at h;obtain⟨z,rfl⟩:=h;unfold yi at z;cases p:t x<;>rw[p] at z<;>(try simp only at z)<;>try (cases z;done)
   simp only[cB,p,h1,Ja g o,z];rfl
  ·rename_i g;cases j;simp only[bG,e1] at h;obtain⟨z,rfl⟩:=h;unfold Ha at z;cases p:t x<;>rw[p] at z<;>(try simp only at z)<;>try (cases z;done)
   simp only[cB,p,h1,CJ g,z];rfl
  ·cases j
 case indexAddr w x i=>
  split at j
  ·rename_i n J h1;cases j;simp only[bG,e1] at h;obtain⟨g,rfl⟩:=h;simp only[cB,Hz h1 g];rfl
  ·rename_i J h1;cases j;simp only[bG,e1] at h;obtain⟨g,rfl⟩:=h;simp only[cB,Hz h1 g];rfl
  ·cases j
 case index w x i=>
  split at j
  ·rename_i n e B;split at j
   ·rename_i J h1 g;cases j;simp only[bG,e1] at h;obtain⟨o,rfl⟩:=h;unfold HP at o;cases p:t x<;>rw[p] at o<;>(try simp only at o)<;>try (cases o;done)
    cases C:t i<;>rw[C] at o<;>(try simp only at o)<;>try (cases o;done)
    simp only[cB,tD,p,C,B,asInt,h1,Ja g h1,o];rfl
   ·rename_i J h1 g;cases j;simp only[bG,e1] at h;obtain⟨o,rfl⟩:=h;unfold yw at o;cases p:t x<;>rw[p] at o<;>(try simp only at o)<;>try (cases o;done)
    cases C:t i<;>rw[C] at o<;>(try simp only at o)<;>try (cases o;done)
    simp only[cB,tD,p,C,B,asInt,h1,CJ g,o];rfl
   ·cases j
  ·rename_i B;cases j;simp only[bG,e1] at h;obtain⟨o,rfl⟩:=h;unfold tG at o;cases p:t x<;>rw[p] at o<;>(try simp only at o)<;>try (cases o;done)
   cases C:t i<;>rw[C] at o<;>(try simp only at o)<;>try (cases o;done)
   simp only[cB,tD,p,C,B,asInt,o];rfl
  ·cases j
 case extract x i=>
  cases j;simp only[bG,e1] at h;obtain⟨g,rfl⟩:=h;unfold yb at g;cases p:t x<;>rw[p] at g<;>(try simp only at g)<;>try (cases g;done)
  simp only[cB,p,g];rfl
 case call c=>
  split at j
  ·rename_i b G;simp only[cB,qd,G];exact Oc j h
  ·rename_i f O;split at j
   ·rename_i fn x y aq am;rw[gI] at j;obtain⟨C,rfl⟩:=j;simp only[bG] at h;split at h
    case h_2=>cases h
    rename_i Q;rw[e1] at h;obtain⟨g,rfl⟩:=h;unfold cmpL at g;have ao:∀ x,ti (aU l') x=oR l' x:=fun x=>by
     cases x<;>simp only[ti,oR,xZ]<;>rfl
    have av:¬(fn.body.isSome=true/\fn.name≠ "runtime.NumGoroutine"):=by
     rintro⟨a,_⟩;unfold vU at C;simp only[bN] at C;rw[Mi.1 C.1.1] at a;cases a
    have ap:t (.func f)=.fn f [] []:=by
     unfold yt at Q;split at Q
     ·rename_i aB ar;rw[ar,l7 Q]
     ·cases Q
    simp only[cB,qd,O,ap,aq,ak av,aj C,am,dh,l6,im,eb,vx,ao];cases K:oR l' (t x) with
    | none=>rw[K] at g;cases g
    | some a=>
     cases G:oR l' (t y) with
     | none=>rw[K,G] at g;cases g
     | some b=>rw[K,G] at g;cases g;rfl
   ·cases j
  ·cases j
 case panic x=>cases j;cases h
 case makeMap w r=>
  split at j
  ·rename_i k e B;cases j;simp only[bG] at h;cases r with
   | none=>cases h;simp[cB,B,ll]
   | some x=>
    simp only at h;cases p:asInt (t x) with
    | none=>rw[p] at h;cases h
    | some n=>rw[p] at h;cases h;simp[cB,B,p,ll]
  ·cases j
 case lookup w m k ax=>
  split at j
  ·rename_i R W B;rw[map_some] at j;obtain⟨J,V,rfl⟩:=j;simp only[bG,e1] at h;obtain⟨g,rfl⟩:=h;have au:∀ x,wb (aU l') x=tP l' x:=fun x=>by
    cases x<;>try rfl
    rename_i b;simp only[wb,tP,js];cases l'[b]? with
    | none=>rfl
    | some c=>cases c<;>rfl
   unfold v7 at g;simp only[cB,yH,B,au];cases X:tP l' (t m) with
   | none=>rw[X] at g;cases g
   | some Z=>
    rw[X] at g;simp only at g ⊢;cases hk:kh P R (t k) with
    | false=>rw[hk] at g;cases g
    | true=>
     rw[hk] at g;simp only at g ⊢;cases O:jA P R (t k) Z 0 with
     | none=>rw[O] at g;cases g
     | some r=>
      rw[O] at g;cases r with
      | none=>cases g;simp[V]
      | some aC=>cases g;rfl
  ·cases j
 case mapUpdate w m k x=>
  split at j
  ·rename_i R W B;cases j;simp only[bG,map_some] at h;obtain⟨Y,g,o⟩:=h;cases o;simp only[cB,Ig B g];rfl
  ·cases j
 case insert w m k x=>
  split at j
  ·rename_i R W B;cases j;simp only[bG,map_some] at h;obtain⟨Y,g,o⟩:=h;cases o;simp only[cB,Ig B g];rfl
  ·cases j
 case range w x=>
  split at j
  ·rename_i B;cases j;simp only[bG] at h;unfold wK at h;cases p:t x<;>rw[p] at h<;>(try simp only at h)<;>try (cases h;done)
   cases h;simp[cB,zf,B,p,ll]
  ·cases j
 case next it b=>
  cases b with
  | false=>cases j
  | true=>
   cases j;simp only[bG] at h;unfold cL at h;simp only[cB,yT];cases p:t it<;>rw[p] at h<;>(try simp only at h)<;>try (cases h;done)
   rename_i b;simp only[js];cases G:l[b]? with
   | none=>rw[G] at h;cases h
   | some c=>
    cases c<;>rw[G] at h<;>simp only at h<;>try (cases h;done)
    simp only;split at h
    ·rename_i T;cases h;rw[T];simp only[cu,ma _ (aY G)]
    ·rename_i T;cases h;rw[T];rfl
end
abbrev aP:=Nat->U
abbrev fD:=pY->aP->ae->Prop
class EZ (alZ:Type) where
 k:alZ->Prop
class va where
 p:Prop
 q:Prop
class p3 where
 k:U->ae->Prop
class AC where
 k:fD
def W {alZ:Type} (o:Option alZ) [c:EZ alZ] :Prop:=match o with | some g=>c.k g | none=>False
def ob (b:Bool) [c:va] :Prop:=match b with | true=>c.p | false=>c.q
def vW (x:U) [c:va] :Prop:=match x with | .bool b=>ob b (c:=c) | _=>False
def pe (x:U) (w:Bool) [c:va] :Prop:=match x with | .bool b=>ob (b == w) (c:=c) | .bad=>False | _=>c.q
inductive ri where
 | fv (g:dm)
 | kL (f:cb) (args:List aT)
 | lr (x:aT) (args:List aT)
 | mZ (x:aT) (name:String) (args:List aT)
structure c0 where
 i:Nat
 dst:Option Tmp
 g:Option (Option Tmp × Bool)
 b:ri
 qe:List Nat
 bo:Bool
inductive fC where
 | skip
 | ret
 | exit (id:Nat)
 | jh (s:List c0)
 | vC (s:List c0)
 | seq (a b:fC)
 | cond (c:aT) (x y:fC)
 | block (id:Nat) (c:fC)
 | loop (c:fC)
section
variable (P:bg) (G:Nat->U)
def fI (f:cb) :Bool:=match P.funcs[f]? with | some fn=>fn.body.isSome&&fn.name != "runtime.NumGoroutine" | none=>false
def fP (f:cb) (args:ag) (l:ae) [c:p3] :Prop:=∃ r g,cV P G (.call f args (aU l) r (aU g))/\l.length<=g.length/\c.k r g
def vq (x:U) (args:ag) (l:ae) [c:p3] :Prop:=match x with
 | .fn g first eZ=>fI P g=true/\fP P G g (first++args++eZ) l (c:=c)
 | _=>False
def xU (name:String) (x:U) (args:ag) (l:ae) [c:p3] :Prop:=match x with
 | .fT h j=>match wc P h name with
  | some g=>fI P g=true/\fP P G g (j::args) l (c:=c)
  | none=>False
 | _=>False
def bY (v:U) (l:ae) [c:p3] :Prop:=c.k v l\/∃ h g,ir (aU l) (aU g)/\ip (aU l) (aU g) v h/\c.k h g
def eg (m:dm) (v:U) (l:ae) (K:U->ae->Prop) :Prop:=match m with
 | .app ..=>bY v l (c:=⟨K⟩)
 | _=>K v l
def gC (b:ri) (sgZ:aP) (l:ae) (K:U->ae->Prop) :Prop:=match b with
 | .fv g=>W (bG P (di G sgZ) l g) (c:=⟨fun x=>eg g x.1 x.2 K⟩)
 | .kL f args=>fP P G f (args.map (di G sgZ)) l (c:=⟨K⟩)
 | .lr x args=>vq P G (di G sgZ x) (args.map (di G sgZ)) l (c:=⟨K⟩)
 | .mZ x name args=>xU P G name (di G sgZ x) (args.map (di G sgZ)) l (c:=⟨K⟩)
def oa (sgZ:aP) (g:Option (Option Tmp × Bool)) (p q:Prop) :Prop:=match g with
 | none=>p
 | some (some d,w)=>pe (sgZ d) w (c:=⟨p,q⟩)
 | some (none,_)=>q
def ie:List c0->aP->ae->(aP->ae->Prop)->Prop
 | [],h,l,j=>j h l
 | s::r,h,l,j=>oa h s.g (gC P G s.b h l fun o m=>ie r (gw h s.dst o) m j) (ie r (gw h s.dst fz) l j)
abbrev hX:=List (Nat × (ae->Prop))
def oW (g:List Nat) :hX->ae->Prop
 | [],_=>True
 | e::r,l=>(g.contains e.1=true->e.2 l)/\oW g r l
def dm.kU:dm->Bool
 | .alloc _ | .box _ | .qc .. | .r2 ..=>true
 | _=>false
def kv (b:ri) (sgZ:aP) (v:U) (l l' l1:ae) :Prop:=match b with
 | .fv g=>match g.kU with
  | true=>l1[l.length]?=l'[l.length]?
  | false=>bG P (di G sgZ) l1 g=some (v,l1)
 | _=>True
def pB (bo:Bool) (i:Nat) (p:ae->Prop) (s:hX) :hX:=match bo with | true=>(i,p) ::s | false=>s
def ji:List c0->aP->ae->hX->(aP->ae->Prop)->Prop
 | [],h,l,_,j=>j h l
 | s::r,h,l,seen,j=>oa h s.g (gC P G s.b h l fun o m=>oW s.qe seen m/\ji r (gw h s.dst o) m (pB s.bo s.i (kv P G s.b h o l m) seen) j) (ji r (gw h s.dst fz) l seen j)
def mx (k:aP->ae->Prop) (K:fD) :fD:=fun e g l=>match e with
 | .normal=>k g l
 | .exit id=>K (.exit id) g l
 | .ret=>K .ret g l
def qv (id:Nat) (K:fD) :fD:=fun e g l=>match e with
 | .normal=>K .normal g l
 | .exit h=>match Nat.beq h id with | true=>K .normal g l | false=>K (.exit h) g l
 | .ret=>K .ret g l
def tM (r:aP->ae->fD->Prop) :Nat->aP->ae->fD->Prop
 | 0=>fun _ _ _=>False
 | n+1=>fun g l h=>r g l (mx (fun g l=>tM r n g l h) h)
def xD (r:aP->ae->fD->Prop) (sgZ:aP) (l:ae) [c:AC] :Prop:=∃ n,tM r n sgZ l c.k
def run:fC->aP->ae->fD->Prop
 | .skip,g,l,h=>h .normal g l
 | .ret,g,l,h=>h .ret g l
 | .exit id,g,l,h=>h (.exit id) g l
 | .jh s,g,l,h=>ie P G s g l (h .normal)
 | .vC s,g,l,h=>ji P G s g l [] (h .normal)
 | .seq a b,g,l,h=>run a g l (mx (fun g l=>run b g l h) h)
 | .cond c x y,g,l,h=>vW (di G g c) (c:=⟨run x g l h,run y g l h⟩)
 | .block id c,g,l,h=>run c g l (qv id h)
 | .loop c,g,l,h=>xD (run c) g l (c:=⟨h⟩)
def uy (ops:Array a6) (i:Nat) (h:List Nat) (bo:Bool) :Option c0:=(ops[i]?).bind fun g=>
 let j:=g.guard.map fun m=>((ops[m.1]?).bind (·.dst),m.2)
 match j6 P g.op with
 | some o=>some ⟨i,g.dst,j,.fv o,h,bo⟩
 | none=>match g.op with
  | .call c=>match c.callee with
   | .value (.func f)=>match fI P f with
    | true=>some ⟨i,g.dst,j,.kL f c.args.toList,h,bo⟩
    | false=>none
   | .value x=>some ⟨i,g.dst,j,.lr x c.args.toList,h,bo⟩
   | .invoke x name=>some ⟨i,g.dst,j,.mZ x name c.args.toList,h,bo⟩
   | _=>none
  | _=>none
def ox:Op->Bool
 | .load .. | .convert .. | .alloc _ | .box .. | .buildSlice .. | .makeSlice ..=>true
 | .call c=>match c.callee,c.argTypes.toList with
  | .builtin .len,[g]=>match P.underlying g with | some (.map _ _)=>true | _=>false
  | _,_=>false
 | _=>false
def OE (j:List Nat) (ops:Array a6) (done h:List Nat) :List Nat:=
 done.filter fun g=>(match ops[g]? with | some m=>ox P m.op | none=>false)&&h.all fun e=>!lN j e g
def k3 (h:List Nat) (ops:Array a6) :List Nat->List Nat->List Nat->List (Nat × List Nat)
 | [],_,_=>[]
 | i::r,done,g=>match ops[i]? with
  | none=>[]
  | some j=>match h4 j.op with
   | true=>(i,OE P h ops done (i::g)) ::k3 h ops r (i::done) (match j.guard with | none=>i::g | some _=>g)
   | false=>(i,[]) ::k3 h ops r (i::done) g
def vD (g:List Nat) (ops:Array a6) :List Nat->Bool
 | []=>true
 | i::r=>(match ops[i]? with | some j=>!h4 j.op||r.all fun h=>lN g h i | none=>false)&&vD g ops r
def Be (N:Nat) (ops:Array a6) (draw:Bool) :Option fC:=
 match ops.toList.all fun o=>hw N o.dst with
 | false=>none
 | true=>match draw with
  | false=>((List.range ops.size).mapM fun i=>uy P ops i [] false).map .jh
  | true=>
   let g:=gO ops
   let h:=ey g ops
   match CH g ops h&&vD g ops h with
   | false=>none
   | true=>
    let m:=k3 P g ops h [] []
    let ask:=m.flatMap (·.2)
    match m.mapM fun j=>uy P ops j.1 j.2 (ask.contains j.1) with
    | none=>none
    | some s=>match ask with
     | []=>some (.jh s)
     | _=>some (.vC s)
def comp (N:Nat) :Code->Option fC
 | .skip=>some .skip
 | .label _=>some .skip
 | .ret=>some .ret
 | .exit id=>some (.exit id)
 | .region _ ops draw=>Be P N ops draw
 | .seq a b=>match comp N a,comp N b with
  | some .skip,some b=>some b
  | some a,some .skip=>some a
  | some a,some b=>some (.seq a b)
  | _,_=>none
 | .cond c x y=>match comp N x,comp N y with
  | some x,some y=>some (.cond c x y)
  | _,_=>none
 | .block id c=>(comp N c).map (.block id)
 | .loop c=>(comp N c).map .loop
 | .scope c=>comp N c
 | _=>none
def vy (f:cb) :Option fC:=match P.funcs[f]? with
 | some fn=>match fn.body with
  | some c=>comp P fn.ntmps c
  | none=>none
 | none=>none
end
section
variable {P:bg} {G:Nat->U}
theorem Fo {l l' : ae} {z by_ n:Nat} {s v:U} {xs:ag} (h:ha l z by_ s xs n=some (v,l')) :l.length<=l'.length:=by
 unfold ha at h
 repeat' split at h
 all_goals first | (cases h;done) | (cases h;simp)
theorem Iu {g:aT->U} {l l' : ae} {m:dm} {v:U} (h:bG P g l m=some (v,l')) :l.length<=l'.length:=by
 cases m<;>simp only[bG,e1,map_some,bc,Prod.mk.injEq] at h
 case dS=>obtain⟨_,rfl⟩:=h;exact aF _
 case alloc=>obtain⟨_,rfl⟩:=h;simp
 case box=>obtain⟨_,_,_,rfl⟩:=h;simp
 case qc=>obtain⟨_,_,_,rfl⟩:=h;simp
 case st n a x=>
  obtain⟨_,h,_,rfl⟩:=h;unfold jm at h
  repeat' split at h
  all_goals first | (cases h;done) | (cases h;simp)
 case Cn=>obtain⟨_,rfl⟩:=h;exact aF _
 case wd=>obtain⟨_,rfl⟩:=h;exact aF _
 case r2=>
  unfold lG at h
  repeat' split at h
  all_goals first | (cases h;done) | (cases h;simp)
 case app=>
  unfold ep at h;split at h
  ·cases h
  ·exact Fo h
 case tc=>
  unfold nP at h
  repeat' split at h
  all_goals first | (cases h;done) | exact Fo h
 case x2=>
  unfold x0 at h
  repeat' split at h
  all_goals first | (cases h;done) | (cases h;simp)
 case tq=>
  obtain⟨_,h,_,rfl⟩:=h;unfold oX at h
  repeat' split at h
  all_goals first | (cases h;done) | (cases h;simp)
 case stop=>cases h
 case tQ x=>
  cases x with
  | none=>cases h;simp
  | some j=>
   simp only at h;split at h
   ·cases h;simp
   ·cases h
 case tS=>
  obtain⟨_,h,_,rfl⟩:=h;unfold r0 at h
  repeat' split at h
  all_goals first | (cases h;done) | (cases h;simp)
 case uo=>
  unfold wK at h
  repeat' split at h
  all_goals first | (cases h;done) | (cases h;simp)
 case tW=>
  unfold cL at h
  repeat' split at h
  all_goals first | (cases h;done) | (cases h;simp)
 case bD=>
  split at h
  ·rw[e1] at h;obtain⟨_,rfl⟩:=h;exact aF _
  ·cases h
 all_goals (obtain⟨_,rfl⟩:=h;exact aF _)
theorem xI {alZ:Type} {o:Option alZ} {c:EZ alZ}:W o (c:=c)<->∃ v,o=some v/\c.k v:=by unfold W;cases o<;>simp
theorem vX {b:Bool} {c:va}:ob b (c:=c)<->(b=true/\c.p)\/(b=false/\c.q):=by cases b<;>simp[ob]
structure md (P:bg) (ops:Array a6) (s:c0) (o:a6) :Prop where
 here:ops[s.i]?=some o
 dst:s.dst=o.dst
 g:s.g=o.guard.map fun h=>((ops[h.1]?).bind (·.dst),h.2)
 fv:∀ m,s.b=.fv m->j6 P o.op=some m
 kL:∀ f args,s.b=.kL f args->∃ c:Call,o.op=.call c/\c.callee=.value (.func f)/\c.args.toList=args/\fI P f=true
 lr:∀ x args,s.b=.lr x args->∃ c:Call,o.op=.call c/\c.callee=.value x/\c.args.toList=args
 mZ:∀ x name args,s.b=.mZ x name args->∃ c:Call,o.op=.call c/\c.callee=.invoke x name/\c.args.toList=args
theorem wZ {ops:Array a6} {i:Nat} {q:List Nat} {bo:Bool} {s:c0} (h:uy P ops i q bo=some s) :∃ o,md P ops s o/\s.i=i/\s.qe=q/\s.bo=bo:=by
 unfold uy at h;rw[bind_some] at h;obtain⟨o,j,h⟩:=h;refine⟨o,?_⟩;simp only at h;split at h
 ·rename_i w u;cases h;exact⟨⟨j,rfl,rfl,fun p h=>(by cases h;exact u),fun f a h=>(by cases h),fun x a h=>(by cases h),fun x n a h=>(by cases h)⟩,rfl,rfl,rfl⟩
 ·split at h
  ·rename_i c m;split at h
   ·rename_i f g;split at h
    ·rename_i t;cases h;exact⟨⟨j,rfl,rfl,fun p h=>(by cases h),fun f a h=>(by cases h;exact⟨c,m,g,rfl,t⟩),fun x a h=>(by cases h),fun x n a h=>(by cases h)⟩,rfl,rfl,rfl⟩
    ·cases h
   ·rename_i x v g;cases h;exact⟨⟨j,rfl,rfl,fun p h=>(by cases h),fun f a h=>(by cases h),fun x a h=>(by cases h;exact⟨c,m,g,rfl⟩),fun x n a h=>(by cases h)⟩,rfl,rfl,rfl⟩
   ·rename_i x name g;cases h;exact⟨⟨j,rfl,rfl,fun p h=>(by cases h),fun f a h=>(by cases h),fun x a h=>(by cases h),fun x n a h=>by cases h;exact⟨c,m,g,rfl⟩⟩,rfl,rfl,rfl⟩
   ·cases h
  ·cases h
theorem Hg {g:cb} (j:fI P g=true) {h:aE} {m:aT->U} {c:Call} {x:aT} {first eZ:ag} (p:c.callee=.value x) (q:m x=.fn g first eZ) :
  cB P h m (.call c)=some (.call g (first++c.args.toList.map m++eZ) h):=by
 unfold fI at j;simp only[cB,qd,p,q];cases o:P.funcs[g]? with
 | none=>rw[o] at j;cases j
 | some fn=>
  rw[o] at j;simp only[bN,bne_iff_ne] at j;simp only;rw[aj j]
theorem Qs {g:cb} (j:fI P g=true) {h:aE} {m:aT->U} {c:Call} {x:aT} {name:String} {t:aC} {v:U} (p:c.callee=.invoke x name) (u:m x=.fT t v) (q:wc P t name=some g) :
  cB P h m (.call c)=some (.call g (v::c.args.toList.map m) h):=by
 unfold fI at j;simp only[cB,qd,p,u,q];cases o:P.funcs[g]? with
 | none=>rw[o] at j;cases j
 | some fn=>
  rw[o] at j;simp only[bN,bne_iff_ne] at j;simp only;rw[aj j]
def dm.looks:dm->Bool
 | .alloc _ | .box _ | .qc .. | .r2 .. | .st .. | .app .. | .tc .. | .x2 .. | .tq .. | .tQ _ | .v6 .. | .tS .. | .uo _ | .tW _ | .bD .. | .D3 .. | .stop=>false
 | _=>true
theorem Ry {m:dm} {v:U} {l:ae} {K:U->ae->Prop} (h:eg m v l K) :K v l\/(m.looks=false/\m.kU=false/\∃ j g,ir (aU l) (aU g)/\ip (aU l) (aU g) v j/\K j g):=by
 cases m<;>first | exact .inl h | skip
 rcases h with h | h
 ·exact .inl h
 ·exact .inr ⟨rfl,rfl,h⟩
theorem H1 {m:dm} {v:U} {l:ae} {K hJ:U->ae->Prop} (g:∀ v l,K v l->hJ v l) (h:eg m v l K) :eg m v l hJ:=by
 cases m<;>first | exact g _ _ h | skip
 rcases h with h | ⟨q,p,h1,j,o⟩
 ·exact .inl (g _ _ h)
 ·exact .inr ⟨q,p,h1,j,g _ _ o⟩
theorem K1 {ops:Array a6} {s:c0} {o:a6} (C:md P ops s o) {sgZ:aP} {l:ae} {K:U->ae->Prop} (h:gC P G s.b sgZ l K) :
  ∃ v l',cV P G (.op o.op sgZ (aU l) v (aU l'))/\l.length<=l'.length/\K v l'/\∀ m,s.b=.fv m->(m.looks=true\/m.kU=true)->bG P (di G sgZ) l m=some (v,l'):=by
 cases p:s.b with
 | fv m=>
  rw[p] at h;simp only[gC,xI] at h;obtain⟨⟨v,l'⟩,h1,j⟩:=h;have F:=cV.ww (G:=G) (yP (C.fv m p) h1);rcases Ry j with j | ⟨S,T,V,R,I,O,Q⟩
  ·exact⟨v,l',F,Iu h1,j,fun B g _=>by cases g;exact h1⟩
  ·refine⟨V,R,.zU F I O,dC (Iu h1) (Au I.n.symm),Q,fun B g H=>?_⟩;cases g;rw[S,T] at H;rcases H with h | h<;>cases h
 | kL f args=>
  rw[p] at h;obtain⟨r,l',h1,j,q⟩:=h;obtain⟨c,z,u,t,w⟩:=C.kL f args p;refine⟨r,l',?_,j,q,fun B g _=>by cases g⟩;rw[z];refine .r4 (Hg w u rfl) ?_;simpa [t] using h1
 | lr x args=>
  rw[p] at h;simp only[gC] at h;obtain⟨c,z,u,t⟩:=C.lr x args p;unfold vq at h;split at h
  ·rename_i J first eZ D
   obtain⟨w,r,l',h1,j,q⟩:=h;refine⟨r,l',?_,j,q,fun B g _=>by cases g⟩;rw[z];refine .r4 (Hg w u D) ?_;rw[t];exact h1
  ·cases h
 | mZ x name args=>
  rw[p] at h;simp only[gC] at h;obtain⟨c,z,u,t⟩:=C.mZ x name args p;unfold xU at h;split at h
  ·rename_i W v D;split at h
   ·rename_i J g;obtain⟨w,r,l',h1,j,q⟩:=h;refine⟨r,l',?_,j,q,fun B g _=>by cases g⟩;rw[z];refine .r4 (Qs w u D g) ?_;rw[t];exact h1
   ·cases h
  ·cases h
theorem HX {ops:Array a6} {s:c0} {o:a6} (B:md P ops s o) {sgZ:aP} {p q:Prop} (h:oa sgZ s.g p q) :(ij ops sgZ o=some true/\p)\/(ij ops sgZ o=some false/\q):=by
 rw[B.g] at h;unfold ij;cases t:o.guard with
 | none=>rw[t] at h;exact .inl ⟨rfl,h⟩
 | some z=>
  obtain⟨v,w⟩:=z;rw[t] at h;simp only[cu] at h ⊢;cases m:(ops[v]?).bind (·.dst) with
  | none=>rw[m] at h;exact .inr ⟨rfl,h⟩
  | some d=>
   rw[m] at h;simp only[oa,pe] at h ⊢;cases u:sgZ d<;>rw[u] at h<;>simp only at h ⊢<;>first | exact .inr ⟨trivial,h⟩ | (cases h;done) | skip
   rw[vX] at h;rcases h with ⟨h1,j⟩ | ⟨h1,j⟩
   ·exact .inl ⟨by rw[h1],j⟩
   ·exact .inr ⟨by rw[h1],j⟩
inductive kF (P:bg) (ops:Array a6) :List c0->List a6->Prop
 | nil:kF P ops [] []
 | cons {s g j h}:md P ops s g->kF P ops j h->kF P ops (s::j) (g::h)
theorem wR {ops:Array a6} {N:Nat} (p:∀ (i:Nat) (o:a6),ops[i]?=some o->hw N o.dst=true) {K:aP->ae->Prop}:∀ {s:List c0} {os:List a6} {sgZ:aP} {l:ae},
  kF P ops s os->ie P G s sgZ l K->∃ m l',cV P G (.ops ops os N sgZ (aU l) m (aU l'))/\l.length<=l'.length/\K m l'
 | [],_,sgZ,l,g,h=>by cases g;exact⟨sgZ,l,.IX,aF _,h⟩
 | s::r,_,sgZ,l,g,h=>by
  cases g with
  | cons j g=>
   rename_i o os;rcases HX j h with ⟨v,h⟩ | ⟨v,h⟩
   ·obtain⟨C,B,h1,w,z,_⟩:=K1 j h;obtain⟨m,l',q,t,u⟩:=wR p g z;exact⟨m,l',.IY v (p _ _ j.here) h1 (by rw[<-j.dst];exact q),dC w t,u⟩
   ·obtain⟨m,l',q,t,u⟩:=wR p g h;exact⟨m,l',.IZ v (p _ _ j.here) (by rw[<-j.dst];exact q),t,u⟩
theorem JZ {l x:ae} {p:U} {y:ag × Nat} (h:fM l p=some y) :fM (l++x) p=some y:=by
 cases p<;>first | exact h | skip
 rename_i b j m;simp only[fM] at h ⊢;cases g:l[b]? with
 | none=>rw[g] at h;cases h
 | some c=>rw[g] at h;rw[aS (aY g),g];exact h
theorem O4 {l x:ae} {z:Nat} {p:U} {y:ag × Nat} (h:cD l z p=some y) :cD (l++x) z p=some y:=by
 cases p<;>first | exact h | skip
 rename_i o b j len cap m;simp only[cD] at h ⊢;cases g:l[b]? with
 | none=>rw[g] at h;cases h
 | some c=>rw[g] at h;rw[aS (aY g),g];exact h
theorem Ox {l x:ae} {p v:U} (h:oT l p=some v) :oT (l++x) p=some v:=by
 unfold oT at h ⊢;cases p<;>simp only at h ⊢<;>first | exact h | skip
 all_goals
  split at h
  ·rename_i cs n g;rw[O4 g];exact h
  ·cases h
def dm.reads:dm->Bool
 | .ld1 _ | .jD .. | .tm _ | .yF _=>true
 | _=>false
theorem RY {j:aT->U} {l l' : ae} {m:dm} {v:U} (g:m.looks=true) (h:bG P j l m=some (v,l')) :l'=l:=by cases m<;>simp only[dm.looks,kA] at g<;>simp only[bG,e1,bc,Prod.mk.injEq] at h<;>first | exact h.2 | exact h.2.symm
theorem RW {j:aT->U} {l x:ae} {m:dm} {v:U} (p:m.looks=true) (h:bG P j l m=some (v,l)) :bG P j (l++x) m=some (v,l++x):=by
 cases m<;>simp only[dm.looks,kA] at p<;>simp only[bG,e1,bc,Prod.mk.injEq,and_true] at h ⊢<;>try exact h
 case ld1 a=>
  rw[bind_some] at h ⊢;obtain⟨y,h1,g⟩:=h;exact⟨y,JZ h1,g⟩
 case jD n a=>
  rw[bind_some] at h ⊢;obtain⟨y,h1,g⟩:=h;exact⟨y,JZ h1,g⟩
 case tm x=>exact Ox h
 case yF y=>
  unfold Cb at h ⊢;cases q:j y<;>rw[q] at h<;>(try simp only at h)<;>try (cases h;done)
  ·exact h
  ·rename_i b;cases o:l[b]? with
   | none=>rw[o] at h;cases h
   | some c=>simp only[aS (aY o)];exact h
theorem RX {j:aT->U} {l g:ae} {m:dm} {v:U} (o:m.looks=true) (p:m.reads=false) (h:bG P j l m=some (v,l)) :bG P j g m=some (v,g):=by cases m<;>simp only[dm.looks,kA] at o<;>simp only[dm.reads,reduceCtorEq] at p<;>simp only[bG,e1,bc,Prod.mk.injEq,and_true] at h ⊢<;>exact h
theorem zk (zero:ag) :∀ n,(cy zero n).length=n*zero.length
 | 0=>by simp[cy]
 | n+1=>by rw[cy,cg,zk zero n,ec,sW]
theorem Wr {cs vs:ag} {off:Nat} (h:off+vs.length<=cs.length) :(aw cs off vs).length=cs.length:=by simp only[aw,cg,cI,iX];omega
theorem GU {g:Nat->Option (Nat × Nat)}:∀ {ps:List (Nat × U)} {zero cs:ag},ef g zero ps=some cs->cs.length=zero.length
 | [],zero,cs,h=>by simp only[ef,bc] at h;rw[<-h]
 | (i,m) ::r,zero,cs,h=>by
  unfold ef at h;split at h
  ·rename_i j size o _ _;split at h
   ·rename_i h1;rw[GU h,Wr F]
   ·cases h
  ·cases h
theorem SI {op:Op} {m:dm} (g:j6 P op=some m) (j:m.kU=true) {q:aT->U} {l l' : ae} {v:U} (h:bG P q l m=some (v,l')) :
  ∃ cs mk,kk P q op=some (cs,mk)/\v=mk l.length/\l'=l++[.cells cs.length cs]:=by
 cases op<;>simp only[j6] at g<;>try (cases g;done)
 case alloc C=>
  rw[map_some] at g;obtain⟨zero,h1,rfl⟩:=g;simp only[bG,bc,Prod.mk.injEq] at h;obtain⟨rfl,rfl⟩:=h;exact⟨zero,_,by simp only[kk,h1];rfl,rfl,rfl⟩
 case box C x=>
  cases g;simp only[bG,map_some,Prod.mk.injEq] at h;obtain⟨cs,h1,rfl,rfl⟩:=h;exact⟨cs,_,by simp only[kk,h1];rfl,rfl,rfl⟩
 case buildSlice C n K=>
  simp only[bind_some] at g;obtain⟨e,h1,z,t,zero,u,g⟩:=g;rw[gI] at g;obtain⟨p,rfl⟩:=g;simp only[bG,map_some,Prod.mk.injEq] at h;obtain⟨cs,o,rfl,rfl⟩:=h;have w:cs.length=n*z:=by rw[GU o,zk,p.1]
  exact⟨cs,_,by simp only[kk,h1,t,u,aj p,o];rfl,rfl,by rw[w]⟩
 case makeSlice C a c=>
  simp only[bind_some] at g;obtain⟨e,h1,z,t,I,u,zero,p,g⟩:=g;rw[gI] at g;obtain⟨o,rfl⟩:=g;simp only[bG] at h;unfold lG at h;cases D:q a<;>rw[D] at h<;>(try simp only at h)<;>try (cases h;done)
  cases F:q c<;>rw[F] at h<;>(try simp only at h)<;>try (cases h;done)
  rw[gI] at h;obtain⟨G,H⟩:=h;cases H;rename_i J B;have w:(cy zero B.toNat).length=B.toNat*z:=by rw[zk,o]
  exact⟨cy zero B.toNat,_,by simp only[kk,D,F,h1,asInt,t,u,p];rw[aj ⟨o,G⟩],rfl,by rw[w]⟩
 case pick=>cases g;cases j
 case move=>cases g;cases j
 case assign=>cases g;cases j
 case nilCheck=>cases g;cases j
 case binOp=>cases g;cases j
 case unOp=>cases g;cases j
 case call c=>
  exfalso;split at g
  ·unfold qh at g
   repeat' split at g
   all_goals first
    | (cases g;done)
    | (cases g;cases j;done)
    | (simp only[bind_some,map_some] at g;obtain⟨_,_,rfl⟩:=g;cases j;done)
    | (simp only[bind_some,map_some] at g;obtain⟨_,_,_,_,rfl⟩:=g;cases j;done)
    | (simp only[bind_some,gI] at g;obtain⟨_,_,_,_,_,_,_,rfl⟩:=g;cases j;done)
    | (simp only[bind_some,gI] at g;obtain⟨_,_,_,_,_,_,_,_,_,rfl⟩:=g;cases j;done)
  ·split at g
   ·rw[gI] at g;obtain⟨_,rfl⟩:=g;cases j
   ·cases g
  ·cases g
 case next it b=>exfalso;cases b<;>simp only[reduceCtorEq] at g<;>cases g<;>cases j
 case panic=>cases g;cases j
 case lookup=>exfalso;split at g<;>(try cases g;done);rw[map_some] at g;obtain⟨_,_,rfl⟩:=g;cases j
 case build=>exfalso;simp only[bind_some,map_some] at g;obtain⟨_,_,_,_,rfl⟩:=g;cases j
 case typeAssert=>exfalso;rw[map_some] at g;obtain⟨_,_,rfl⟩:=g;cases j
 case store=>exfalso;rw[map_some] at g;obtain⟨_,_,rfl⟩:=g;cases j
 case slice=>exfalso;rw[map_some] at g;obtain⟨_,_,rfl⟩:=g;cases j
 case fieldAddr=>exfalso;rw[bind_some] at g;obtain⟨_,_,g⟩:=g;split at g<;>cases g;cases j
 case field=>exfalso;rw[bind_some] at g;obtain⟨_,_,g⟩:=g;split at g<;>cases g<;>cases j
 case extract=>cases g;cases j
 case makeFunc f a b=>exfalso;cases f<;>simp only at g<;>cases g;cases j
 all_goals
  exfalso
  repeat' split at g
  all_goals first | (cases g;done) | (cases g;cases j;done)
end
section
variable {P:bg} {G:Nat->U}
theorem Gb {op:Op} {m:dm} (g:j6 P op=some m) (h:h4 op=false) :m.looks=true\/m.kU=true:=by
 cases op<;>simp only[h4,Es] at h<;>simp only[j6] at g<;>try (cases g;done)
 case move=>cases g;exact .inl rfl
 case assign=>cases g;exact .inl rfl
 case pick=>cases g;exact .inl rfl
 case alloc=>rw[map_some] at g;obtain⟨_,_,rfl⟩:=g;exact .inr rfl
 case box=>cases g;exact .inr rfl
 case build=>simp only[bind_some,map_some] at g;obtain⟨_,_,_,_,rfl⟩:=g;exact .inl rfl
 case buildSlice=>simp only[bind_some,gI] at g;obtain⟨_,_,_,_,_,_,_,rfl⟩:=g;exact .inr rfl
 case load=>split at g<;>cases g<;>exact .inl rfl
 case nilCheck=>cases g;exact .inl rfl
 case binOp=>cases g;exact .inl rfl
 case unOp=>cases g;exact .inl rfl
 case convert=>
  repeat' split at g
  all_goals first | (cases g;done) | (cases g;exact .inl rfl)
 case makeInterface=>split at g<;>cases g;exact .inl rfl
 case makeFunc f a b=>cases f<;>simp only at g<;>cases g;exact .inl rfl
 case makeSlice=>simp only[bind_some,gI] at g;obtain⟨_,_,_,_,_,_,_,_,_,rfl⟩:=g;exact .inr rfl
 case slice=>rw[map_some] at g;obtain⟨_,_,rfl⟩:=g;exact .inl rfl
 case fieldAddr=>rw[bind_some] at g;obtain⟨_,_,g⟩:=g;split at g<;>cases g;exact .inl rfl
 case field=>rw[bind_some] at g;obtain⟨_,_,g⟩:=g;split at g<;>cases g<;>exact .inl rfl
 case indexAddr=>split at g<;>cases g<;>exact .inl rfl
 case index=>
  repeat' split at g
  all_goals first | (cases g;done) | (cases g;exact .inl rfl)
 case extract=>cases g;exact .inl rfl
 case call c=>
  split at g
  ·rename_i b j;rw[j] at h;cases b<;>simp only[Es] at h<;>unfold qh at g<;>(repeat' split at g)<;>first
    | (cases g;done)
    | (cases g;exact .inl rfl)
    | (rw[map_some] at g;obtain⟨_,_,rfl⟩:=g;exact .inl rfl)
    | (exfalso;simp only[reduceCtorEq] at *;done)
  ·rename_i f o;rw[o] at h;cases h
  ·cases g
theorem Gc {op:Op} {m:dm} (g:j6 P op=some m) (h:ox P op=false) :m.reads=false/\m.kU=false:=by
 cases op<;>simp only[ox,Es] at h<;>simp only[j6] at g<;>try (cases g;done)
 case move=>cases g;exact⟨rfl,rfl⟩
 case assign=>cases g;exact⟨rfl,rfl⟩
 case pick=>cases g;exact⟨rfl,rfl⟩
 case build=>simp only[bind_some,map_some] at g;obtain⟨_,_,_,_,rfl⟩:=g;exact⟨rfl,rfl⟩
 case store=>rw[map_some] at g;obtain⟨_,_,rfl⟩:=g;exact⟨rfl,rfl⟩
 case nilCheck=>cases g;exact⟨rfl,rfl⟩
 case binOp=>cases g;exact⟨rfl,rfl⟩
 case unOp=>cases g;exact⟨rfl,rfl⟩
 case makeInterface=>split at g<;>cases g;exact⟨rfl,rfl⟩
 case makeFunc f a b=>cases f<;>simp only at g<;>cases g;exact⟨rfl,rfl⟩
 case typeAssert=>rw[map_some] at g;obtain⟨_,_,rfl⟩:=g;exact⟨rfl,rfl⟩
 case slice=>rw[map_some] at g;obtain⟨_,_,rfl⟩:=g;exact⟨rfl,rfl⟩
 case fieldAddr=>rw[bind_some] at g;obtain⟨_,_,g⟩:=g;split at g<;>cases g;exact⟨rfl,rfl⟩
 case field=>rw[bind_some] at g;obtain⟨_,_,g⟩:=g;split at g<;>cases g<;>exact⟨rfl,rfl⟩
 case indexAddr=>split at g<;>cases g<;>exact⟨rfl,rfl⟩
 case index=>
  repeat' split at g
  all_goals first | (cases g;done) | (cases g;exact⟨rfl,rfl⟩)
 case extract=>cases g;exact⟨rfl,rfl⟩
 case next it b=>cases b<;>simp only[reduceCtorEq] at g<;>cases g;exact⟨rfl,rfl⟩
 case panic=>cases g;exact⟨rfl,rfl⟩
 case lookup=>split at g<;>(try cases g;done);rw[map_some] at g;obtain⟨_,_,rfl⟩:=g;exact⟨rfl,rfl⟩
 case mapUpdate=>split at g<;>cases g;exact⟨rfl,rfl⟩
 case insert=>split at g<;>cases g;exact⟨rfl,rfl⟩
 case makeMap=>split at g<;>cases g;exact⟨rfl,rfl⟩
 case range=>split at g<;>cases g;exact⟨rfl,rfl⟩
 case call c=>
  split at g
  ·rename_i b j;rw[j] at h;unfold qh at g
   repeat' split at g
   all_goals first
    | (cases g;done)
    | (exfalso;simp_all;done)
    | (cases g;exact⟨rfl,rfl⟩)
    | (simp only[bind_some,map_some] at g;obtain⟨_,_,rfl⟩:=g;exact⟨rfl,rfl⟩)
    | (simp only[bind_some,map_some] at g;obtain⟨_,_,_,_,rfl⟩:=g;exact⟨rfl,rfl⟩)
    | (simp only[bind_some,gI] at g;obtain⟨_,_,_,_,_,_,_,rfl⟩:=g;exact⟨rfl,rfl⟩)
    | (simp only[bind_some,gI] at g;obtain⟨_,_,_,_,_,_,_,_,_,rfl⟩:=g;exact⟨rfl,rfl⟩)
  ·split at g
   ·rw[gI] at g;obtain⟨_,rfl⟩:=g;exact⟨rfl,rfl⟩
   ·cases g
  ·cases g
inductive jX (P:bg) (G:Nat->U) (s:c0) (o:a6) (sgZ:aP) (l:ae) (v:U) (l1:ae) :bz->Prop
 | pure (g:dm) (h:s.b=.fv g) (m:g.looks=true) (j:l1=l) (t:bG P (di G sgZ) l g=some (v,l)) :jX P G s o sgZ l v l1 (.pure s.i v)
 | new (g:dm) (cs:ag) (h:s.b=.fv g) (m:g.kU=true) (j:l1=l++[.cells cs.length cs]) :jX P G s o sgZ l v l1 (.new s.i v cs)
 | e6 (p:h4 o.op=true) (q:l.length<=l1.length) :jX P G s o sgZ l v l1 (.e6 s.i v (aU l1))
theorem jX.idx {s:c0} {o:a6} {sgZ:aP} {l l1:ae} {v:U} {t:bz} (k:jX P G s o sgZ l v l1 t) :t.idx=s.i:=by cases k<;>rfl
theorem jX.val {s:c0} {o:a6} {sgZ:aP} {l l1:ae} {v:U} {t:bz} (k:jX P G s o sgZ l v l1 t) :t.val=v:=by cases k<;>rfl
theorem jX.next {s:c0} {o:a6} {sgZ:aP} {l l1:ae} {v:U} {t:bz} (k:jX P G s o sgZ l v l1 t) :mC (aU l) t=aU l1:=by
 cases k with
 | pure m h j g q=>rw[g];rfl
 | new m cs h j g=>rw[g,<-ll];rfl
 | e6 p _=>rfl
theorem WG {ops:Array a6} {s:c0} {o:a6} (g:md P ops s o) {sgZ:aP} (D:ij ops sgZ o=some true) {l:ae} {K:U->ae->Prop} (h:gC P G s.b sgZ l K) :
  ∃ v l1 t,jX P G s o sgZ l v l1 t/\s7 P G ops ⟨sgZ,aU l⟩ t/\K v l1:=by
 obtain⟨v,l1,h1,F,z,J⟩:=K1 g h;have u:h4 o.op=true->∃ v l1 t,jX P G s o sgZ l v l1 t/\s7 P G ops ⟨sgZ,aU l⟩ t/\K v l1:=fun p=>⟨v,l1,_,.e6 p F,⟨o,g.here,D,h1,by simpa using F⟩,z⟩
 cases j:s.b with
 | fv w=>
  have B:=g.fv w j;cases p:h4 o.op with
  | true=>exact u p
  | false=>
   have C:=J w j (Gb B p);rcases Gb B p with H | I
   ·have:=RY H C;subst this;exact⟨v,l1,_,.pure w j H rfl C,⟨o,g.here,D⟩,z⟩
   ·obtain⟨cs,mk,O,Q,R⟩:=SI B I C;exact⟨v,l1,_,.new w cs j I R,⟨o,mk,g.here,D,O,Q⟩,z⟩
 | kL f args=>
  obtain⟨c,q,m,_⟩:=g.kL f args j;exact u (by rw[q];simp only[h4,m])
 | lr x args=>
  obtain⟨c,q,m,_⟩:=g.lr x args j;exact u (by rw[q];simp only[h4,m])
 | mZ x name args=>
  obtain⟨c,q,m,_⟩:=g.mZ x name args j;exact u (by rw[q];simp only[h4,m])
inductive iJ (P:bg) (G:Nat->U) (ops:Array a6) :List c0->aP->ae->hX->List (bz × aP × ae)->aP->ae->Prop
 | nil {g l seen}:iJ P G ops [] g l seen [] g l
 | skip {s m r g l seen h o j}:md P ops s m->ij ops g m=some false->iJ P G ops r (gw g s.dst fz) l seen h o j->iJ P G ops (s::r) g l seen ((.skip s.i,g,l) ::h) o j
 | step {s m r g l t p q seen h o j}:md P ops s m->jX P G s m g l t p q->s7 P G ops ⟨g,aU l⟩ q->oW s.qe seen p->
   iJ P G ops r (gw g s.dst t) p (pB s.bo s.i (kv P G s.b g t l p) seen) h o j->iJ P G ops (s::r) g l seen ((q,g,l) ::h) o j
theorem Dq {ops:Array a6} {K:aP->ae->Prop}:∀ {s:List c0} {sgZ:aP} {l:ae} {seen:hX},(∀ x∈s,∃ o,md P ops x o)->ji P G s sgZ l seen K->∃ es g l',iJ P G ops s sgZ l seen es g l'/\K g l'
 | [],sgZ,l,seen,_,h=>⟨[],sgZ,l,.nil,h⟩
 | s::r,sgZ,l,seen,q,h=>by
  obtain⟨o,j⟩:=q s V;rcases HX j h with ⟨t,h⟩ | ⟨t,h⟩
  ·obtain⟨D,B,C,h1,v,w,z⟩:=WG j t h;obtain⟨es,g,l',m,p⟩:=Dq (fun x u=>q x (by simp[u])) z;exact⟨_,g,l',.step j h1 v w m,p⟩
  ·obtain⟨es,g,l',m,p⟩:=Dq (fun x u=>q x (by simp[u])) h;exact⟨_,g,l',.skip j t m,p⟩
theorem Dr {K:aP->ae->Prop}:∀ {s:List c0} {sgZ:aP} {l:ae},(∀ x∈s,x.bo=false)->ie P G s sgZ l K->ji P G s sgZ l [] K
 | [],sgZ,l,_,h=>h
 | s::r,sgZ,l,hk,h=>by
  have mono:∀ (b:ri) (K hJ:U->ae->Prop),(∀ o l,K o l->hJ o l)->gC P G b sgZ l K->gC P G b sgZ l hJ:=by
   intro b K hJ p h;cases b with
   | fv I=>simp only[gC,xI] at h ⊢;obtain⟨o,h1,g⟩:=h;exact⟨o,h1,H1 p g⟩
   | kL f args=>obtain⟨r,j,h1,g,m⟩:=h;exact⟨r,j,h1,g,p _ _ m⟩
   | lr x args=>
    simp only[gC,vq] at h ⊢;split at h
    ·obtain⟨u,r,j,h1,g,m⟩:=h;exact⟨u,r,j,h1,g,p _ _ m⟩
    ·cases h
   | mZ x name args=>
    simp only[gC,xU] at h ⊢;split at h
    ·split at h
     ·obtain⟨u,r,j,h1,g,m⟩:=h;exact⟨u,r,j,h1,g,p _ _ m⟩
     ·cases h
    ·cases h
  have F:∀ (t:Option (Option Tmp × Bool)) (B q C ko:Prop),(B->C)->(q->ko)->oa sgZ t B q->oa sgZ t C ko:=by
   intro t B q C ko D v h;unfold oa at h ⊢;split at h
   ·exact D h
   ·rename_i d w;simp only[pe] at h ⊢;split at h
    ·rw[vX] at h ⊢;rcases h with ⟨a,b⟩ | ⟨a,b⟩
     ·exact .inl ⟨a,D b⟩
     ·exact .inr ⟨a,v b⟩
    ·cases h
    ·exact v h
   ·exact v h
  have H:s.bo=false:=hk s V;refine F _ _ _ _ _ (mono _ _ _ fun o j h=>?_) (fun h=>Dr (fun x z=>hk x (by simp[z])) h) h;refine⟨trivial,?_⟩;rw[H];exact Dr (fun x z=>hk x (by simp[z])) h
theorem jX.len {s:c0} {o:a6} {sgZ:aP} {l l1:ae} {v:U} {t:bz} (k:jX P G s o sgZ l v l1 t) :l.length<=l1.length:=by
 cases k with
 | pure p h m g u=>rw[g];exact aF _
 | new p cs h m g=>rw[g];simp
 | e6 q j=>exact j
theorem iJ.len {ops:Array a6} {s:List c0} {sgZ j:aP} {l l' : ae} {seen:hX} {es:List (bz × aP × ae)} (h:iJ P G ops s sgZ l seen es j l') :l.length<=l'.length:=by
 induction h with
 | nil=>exact aF _
 | skip _ _ _ g=>exact g
 | step _ k _ _ _ g=>exact dC k.len g
def qp (es:List (bz × aP × ae)) (l' : ae) (q:Nat) :ae:=match es[q]? with | some x=>x.2.2 | none=>l'
theorem iJ.idx {ops:Array a6} {s:List c0} {sgZ j:aP} {l l' : ae} {seen:hX} {es:List (bz × aP × ae)} (h:iJ P G ops s sgZ l seen es j l') :es.map (fun e=>e.1.idx)=s.map (·.i):=by
 induction h with
 | nil=>rfl
 | skip _ _ _ g=>simp only[dh,g];rfl
 | step _ k _ _ _ g=>simp only[dh,g,k.idx]
theorem iJ.at {ops:Array a6} {s:List c0} {sgZ q:aP} {l l' : ae} {seen:hX} {es:List (bz × aP × ae)} (h:iJ P G ops s sgZ l seen es q l') :
  (∀ (p:Nat) (e:bz × aP × ae),es[p]?=some e->s7 P G ops ⟨e.2.1,aU e.2.2⟩ e.1/\fj ops ⟨sgZ,aU l⟩ (es.map (·.1)) p=⟨e.2.1,aU e.2.2⟩)/\fj ops ⟨sgZ,aU l⟩ (es.map (·.1)) es.length=⟨q,aU l'⟩:=by
 induction h with
 | nil=>exact⟨fun p e g=>by simp at g,rfl⟩
 | @skip s u r sgZ l seen es q l' j w _ o=>
  have m:je ops ⟨sgZ,aU l⟩ (.skip s.i)=⟨gw sgZ s.dst fz,aU l⟩:=by simp only[je,rC,bz.idx,j.here,pW,bz.val,mC,j.dst]
  refine⟨fun p e g=>?_,?_⟩
  ·cases p with
   | zero=>simp only[g8,bc] at g;subst g;exact⟨⟨u,j.here,w⟩,rfl⟩
   | succ p=>
    simp only[ik] at g;obtain⟨h1,t⟩:=o.1 p e g;refine⟨h1,?_⟩;rw[dh,zE,m];exact t
  ·rw[dh,du,zE,m];exact o.2
 | @step s u r sgZ l C z B seen es q l' j k v D _ o=>
  have m:je ops ⟨sgZ,aU l⟩ B=⟨gw sgZ s.dst C,aU z⟩:=by simp only[je,rC,k.idx,j.here,pW,k.val,k.next,j.dst]
  refine⟨fun p e g=>?_,?_⟩
  ·cases p with
   | zero=>simp only[g8,bc] at g;subst g;exact⟨v,rfl⟩
   | succ p=>
    simp only[ik] at g;obtain⟨h1,t⟩:=o.1 p e g;refine⟨h1,?_⟩;rw[dh,zE,m];exact t
  ·rw[dh,du,zE,m];exact o.2
theorem iJ.still {ops:Array a6} {s:List c0} {sgZ H:aP} {l l' : ae} {seen:hX} {es:List (bz × aP × ae)} (h:iJ P G ops s sgZ l seen es H l') (j:Nat) (S:ae->Prop)
  (K:∀ l x,S l->S (l++x)) (m:S l) :∀ q,q<=es.length->(∀ (p:Nat) (e:bz × aP × ae),p<q->es[p]?=some e->e.1.hg=true->(j,S)∈seen/\∃ x,s[p]?=some x/\j∈x.qe)->S (qp es l' q):=by
 have I:∀ {D:List Nat} {seen:hX} {l:ae},oW D seen l->(j,S)∈seen->j∈D->S l:=by
  intro D seen l B hm O
  induction seen with
  | nil=>cases hm
  | cons e r u=>
   obtain⟨h1,g⟩:=B;rcases fX.1 hm with rfl | hm
   ·exact h1 (by simpa using O)
   ·exact u g hm
 induction h with
 | nil=>
  intro q t _;simp only[hI] at t;obtain rfl:q=0:=F;exact m
 | @skip s T r sgZ l seen es H l' U W _ u=>
  intro q t v;cases q with
  | zero=>exact m
  | succ q=>exact u m q (by simpa using t) (fun p e Q w z=>by
    obtain⟨h1,x,g,o⟩:=v (p+1) e F (by simpa using w) z;exact⟨h1,x,by simpa using g,o⟩)
 | @step s T r sgZ l Y l1 X seen es H l' U k V B _ u=>
  intro q t v;cases q with
  | zero=>exact m
  | succ q=>
   have h1:S l1:=by
    cases k with
    | pure R J hm C _=>rw[C];exact m
    | new R cs J hm C=>rw[C];exact K _ _ m
    | e6 w _=>
     obtain⟨h1,x,g,o⟩:=v 0 _ F rfl rfl;simp only[g8,bc] at g;subst g;exact I B h1 o
   refine u h1 q (by simpa using t) (fun p e Q w z=>?_);obtain⟨h1,x,g,o⟩:=v (p+1) e F (by simpa using w) z;refine⟨?_,x,by simpa using g,o⟩;unfold pB;cases s.bo with
   | false=>exact h1
   | true=>exact Al _ h1
theorem iJ.split {ops:Array a6} {s:List c0} {sgZ q:aP} {l l' : ae} {seen:hX} {es:List (bz × aP × ae)} (h:iJ P G ops s sgZ l seen es q l') :∀ (p:Nat) (e:bz × aP × ae),es[p]?=some e->e.1.pc=false->
  ∃ x o v l1 j,s[p]?=some x/\md P ops x o/\jX P G x o e.2.1 e.2.2 v l1 e.1 ∧
   iJ P G ops (s.drop (p+1)) (gw e.2.1 x.dst v) l1 (pB x.bo x.i (kv P G x.b e.2.1 v e.2.2 l1) j) (es.drop (p+1)) q l':=by
 induction h with
 | nil=>intro p e g;simp at g
 | @skip s o r sgZ l seen es q l' C H _ z=>
  intro p e g m;cases p with
  | zero=>simp only[g8,bc] at g;subst g;cases m
  | succ p=>
   obtain⟨x,B,v,l1,j,h1,t,u,w⟩:=z p e (by simpa using g) m;exact⟨x,B,v,l1,j,by simpa using h1,t,u,by simpa using w⟩
 | @step s o r sgZ l v l1 I seen es q l' C k F D tr z=>
  intro p e g m;cases p with
  | zero=>
   simp only[g8,bc] at g;subst g;exact⟨s,o,v,l1,seen,rfl,C,k,by simpa using tr⟩
  | succ p=>
   obtain⟨x,B,v,l1,j,h1,t,u,w⟩:=z p e (by simpa using g) m;exact⟨x,B,v,l1,j,by simpa using h1,t,u,by simpa using w⟩
end
section
variable {P:bg} {G:Nat->U}
theorem Jh {q:List Nat} {ops:Array a6}:∀ (g done j:List Nat),(∀ i∈g,i<ops.size)->(k3 P q ops g done j).map (·.1)=g
 | [],_,_,_=>rfl
 | i::r,done,j,h=>by
  unfold k3;have m:i<ops.size:=h i V;rw[q5 m];simp only;split<;>simp only[dh]<;>rw[Jh r _ _ fun p o=>h p (by simp[o])]
theorem CQ {S:List Nat} {ops:Array a6}:∀ (I done C:List Nat) (p i:Nat) (v:List Nat),(∀ i∈I,i<ops.size)->(k3 P S ops I done C)[p]?=some (i,v)->
  (∃ o,ops[i]?=some o/\h4 o.op=true)->∀ j,(j∈done\/∃ q,q<p/\I[q]?=some j)->(∃ o,ops[j]?=some o/\ox P o.op=true)->(∀ e∈C,lN S e j=false)->
  (∀ (u t:Nat) (o:a6),u<=p->I[u]?=some t->ops[t]?=some o->h4 o.op=true->(u=p\/o.guard=none)->lN S t j=false)->j∈v
 | [],done,C,p,i,v,_,h,_,_,_,_,_,_=>by simp[k3] at h
 | x::r,done,C,p,i,v,T,h,B,j,g,R,G,H=>by
  unfold k3 at h;have X:x<ops.size:=T x V;rw[q5 X] at h;have Q:ops[x]?=some ops[x]:=q5 X;simp only at h;have W:∀ i∈r,i<ops.size:=fun j g=>T j (by simp[g])
  cases z:h4 ops[x].op with
  | true=>
   rw[z] at h;simp only at h;cases p with
   | zero=>
    simp only[g8,bc,Prod.mk.injEq] at h;obtain⟨rfl,rfl⟩:=h;obtain⟨o,h1,D⟩:=R;rcases g with g | ⟨q,U,_⟩
    ·refine c7.2 ⟨g,?_⟩;simp only[h1,D,nA,Ev,bN,fW];exact⟨by simp[H 0 x ops[x] (aF _) V Q z (.inl rfl)],fun e B=>by simp[G e B]⟩
    ·omega
   | succ p=>
    simp only[ik] at h;refine CQ r _ _ p i v W h B j ?_ R ?_ ?_
    ·rcases g with g | ⟨q,U,g⟩
     ·exact .inl (by simp[g])
     ·cases q with
      | zero=>simp only[g8,bc] at g;exact .inl (by simp[g])
      | succ q=>exact .inr ⟨q,F,by simpa using g⟩
    ·intro e w;cases m:ops[x].guard with
     | none=>
      rw[m] at w;rcases fX.1 w with rfl | w
      ·exact H 0 e ops[e] F V Q z (.inr m)
      ·exact G e w
     | some Z=>rw[m] at w;exact G e w
    ·intro u t o Y K O J m;exact H (u+1) t o F (by simpa using K) O J (by rcases m with rfl | m;exact .inl rfl;exact .inr m)
  | false=>
   rw[z] at h;simp only at h;cases p with
   | zero=>
    simp only[g8,bc,Prod.mk.injEq] at h;obtain⟨rfl,rfl⟩:=h;obtain⟨o,h1,D⟩:=B;rw[Q] at h1;cases h1;rw[z] at D;cases D
   | succ p=>
    simp only[ik] at h;refine CQ r _ _ p i v W h B j ?_ R G ?_
    ·rcases g with g | ⟨q,U,g⟩
     ·exact .inl (by simp[g])
     ·cases q with
      | zero=>simp only[g8,bc] at g;exact .inl (by simp[g])
      | succ q=>exact .inr ⟨q,F,by simpa using g⟩
    ·intro u t o Y K O J m;exact H (u+1) t o F (by simpa using K) O J (by rcases m with rfl | m;exact .inl rfl;exact .inr m)
theorem GC {w:List Nat} {ops:Array a6}:∀ {t:List Nat},vD w ops t=true->∀ (p g i j:Nat) (o:a6),t[p]?=some i->t[g]?=some j->p<g->ops[i]?=some o->h4 o.op=true->lN w j i=true
 | [],_,p,g,i,j,o,m,_,_,_,_=>by simp at m
 | x::r,h,p,g,i,j,o,m,q,z,v,u=>by
  simp only[vD,bN] at h;cases g with
  | zero=>omega
  | succ g=>
   simp only[ik] at q;cases p with
   | zero=>
    simp only[g8,bc] at m;subst m;rw[v] at h;simp only[u,xk,Ac,fW] at h;exact h.1 j (cz q)
   | succ p=>exact GC h.2 p g i j o (by simpa using m) q F v u
theorem yJ {alZ j:Type} {f:alZ->Option j}:∀ {l:List alZ} {r:List j},l.mapM f=some r->∀ (p:Nat) (x:j),r[p]?=some x->∃ a,l[p]?=some a/\f a=some x
 | [],r,h,p,x,g=>by simp at h;subst h;simp at g
 | a::l,r,h,p,x,g=>by
  rw[oC] at h;simp only[Option.bind_eq_bind,bind_some,s3,bc] at h;obtain⟨b,h1,u,o,rfl⟩:=h;cases p with
  | zero=>simp only[g8,bc] at g;subst g;exact⟨a,rfl,h1⟩
  | succ p=>obtain⟨m,q,t⟩:=yJ o p x (by simpa using g);exact⟨m,by simpa using q,t⟩
theorem Cl {alZ g:Type} {f:alZ->Option g}:∀ {l:List alZ} {r:List g},l.mapM f=some r->r.length=l.length
 | [],r,h=>by simp at h;subst h;rfl
 | a::l,r,h=>by
  rw[oC] at h;simp only[Option.bind_eq_bind,bind_some,s3,bc] at h;obtain⟨b,h1,m,j,rfl⟩:=h;simp[Cl j]
theorem QT (es:List (bz × aP × ae)) (l' : ae) (n q:Nat) :qp (es.drop n) l' q=qp es l' (n+q):=by unfold qp;rw[gn]
theorem Px {id N' : Nat} {ops:Array a6} {ag:List c0} (bt:∀ (i:Nat) (o:a6),ops[i]?=some o->hw N' o.dst=true)
  (a8:CH (gO ops) ops (ey (gO ops) ops)=true) (bu:vD (gO ops) ops (ey (gO ops) ops)=true)
  (Q:(k3 P (gO ops) ops (ey (gO ops) ops) [] []).mapM (fun p=>uy P ops p.1 p.2 (((k3 P (gO ops) ops (ey (gO ops) ops) [] []).flatMap (·.2)).contains p.1))=some ag)
  {sgZ bm:aP} {l l' : ae} {es:List (bz × aP × ae)} (tr:iJ P G ops ag sgZ l [] es bm l') :cV P G (.code (.region id ops true) N' sgZ (aU l) .normal bm (aU l')):=by
 simp only[CH,bN] at a8;obtain⟨⟨⟨⟨bQ,aK⟩,bh⟩,bi⟩,bk⟩:=a8;have aR:∀ i∈ey (gO ops) ops,i<ops.size:=fun i aQ=>by
  rw[fW] at bi;simpa [As] using bi i aQ
 have a9:(k3 P (gO ops) ops (ey (gO ops) ops) [] []).map (·.1)=ey (gO ops) ops:=Jh _ _ _ aR;have aG:∀ (p:Nat) (x:c0),ag[p]?=some x->∃ o,md P ops x o/\(k3 P (gO ops) ops (ey (gO ops) ops) [] [])[p]?=some (x.i,x.qe) ∧
   x.bo=((k3 P (gO ops) ops (ey (gO ops) ops) [] []).flatMap (·.2)).contains x.i:=fun p x R=>by
  obtain⟨a,h1,w⟩:=yJ Q p x R;obtain⟨o,K,aq,aA,aM⟩:=wZ w;exact⟨o,K,by rw[h1,aq,aA],by rw[aM,aq]⟩
 have bd:∀ (p:Nat) (x:c0),ag[p]?=some x->(ey (gO ops) ops)[p]?=some x.i:=fun p x R=>by
  obtain⟨o,_,h1,_⟩:=aG p x R;rw[<-a9,bX,h1];rfl
 have a3:∀ (p:Nat) (e:bz × aP × ae),es[p]?=some e->∃ x,ag[p]?=some x/\x.i=e.1.idx:=fun p e v=>by
  have:=cm (·[p]?) tr.idx;simp only[bX,v,cu] at this;cases R:ag[p]? with
  | none=>rw[R] at this;cases this
  | some x=>rw[R] at this;simp only[cu,bc] at this;exact⟨x,rfl,this.symm⟩
 have Z:∀ (p:Nat) (e:bz × aP × ae),es[p]?=some e->(ey (gO ops) ops)[p]?=some e.1.idx:=fun p e v=>by
  obtain⟨x,h1,w⟩:=a3 p e v;rw[bd p x h1,w]
 have O:∀ (p:Nat) (t:bz),(es.map (·.1))[p]?=some t->∃ e,es[p]?=some e/\e.1=t:=fun p t X=>by simpa using X
 have a0:∀ (p:Nat) (e:bz × aP × ae),es[p]?=some e->e.1.hg=true->∃ o,ops[e.1.idx]?=some o/\h4 o.op=true/\(ij ops e.2.1 o=some true):=fun p e v I=>by
  have aw:e.1.pc=false:=by cases h:e.1<;>rw[h] at I<;>first | rfl | cases I
  obtain⟨x,o,V,S,bl,h1,w,K,aq⟩:=tr.split p e v aw;have am:=(tr.at.1 p e v).1;have bB:=K.idx;have ak:=w.here;rw[<-bB] at ak;refine⟨o,ak,?_,?_⟩
  ·revert I;generalize e.1=t at K;intro I;cases K with
   | pure=>cases I
   | new=>cases I
   | e6 v _=>exact v
  ·revert am I ak;generalize e.1=t;intro I am ak;cases t<;>first | (cases I;done) | skip
   obtain⟨Y,aA,aM,_⟩:=am;simp only[bz.idx] at ak;rw[ak] at aA;cases aA;exact aM
 have bT:s6 ops (lN (gO ops)) (es.map (·.1)):=by
  refine⟨Pv bQ,fun i aQ=>?_,fun p m t ay C al v=>?_,fun p t C=>?_,fun p m t ay C al au=>?_,fun p m t ay C al au I=>?_⟩
  ·rw[fW] at bk;have:=bk i (by simpa using aQ);have j:i∈ey (gO ops) ops:=by simpa using this
   have ai:(es.map (·.1)).map bz.idx=ey (gO ops) ops:=by
    rw[oE];show es.map (fun e=>e.1.idx)=_;rw[tr.idx,<-a9];apply g7;intro p;rw[bX,bX];cases R:ag[p]? with
    | none=>
     have:(k3 P (gO ops) ops (ey (gO ops) ops) [] [])[p]?=none:=by
      rw[Ex] at R ⊢;rw[<-Cl Q];exact R
     rw[this];rfl
    | some x=>obtain⟨o,_,h1,_⟩:=aG p x R;rw[h1];rfl
   rw[<-ai] at j;obtain⟨t,h1,w⟩:=cF.1 j;obtain⟨p,C⟩:=xo h1;exact⟨p,t,C,w⟩
  ·obtain⟨e,z,u⟩:=O p t C;obtain⟨H,ao,ap⟩:=O m ay al;have D:=Z p e z;have W:=Z m H ao;rw[u] at D;rw[ap] at W;rcases oG p m with h | h | h
   ·exact bK v (y4 aK p m _ _ D W h).1
   ·exact h
   ·exact bK v.symm (y4 aK m p _ _ W D h).1
  ·obtain⟨e,z,u⟩:=O p t C;have D:=Z p e z;rw[u] at D;exact aR _ (cz D)
  ·obtain⟨e,z,u⟩:=O p t C;obtain⟨H,ao,ap⟩:=O m ay al;have D:=Z p e z;have W:=Z m H ao;rw[u] at D;rw[ap] at W;exact (y4 aK p m _ _ D W au).2
  ·obtain⟨e,z,u⟩:=O p t C;obtain⟨H,ao,ap⟩:=O m ay al;obtain⟨o,aW,bn,_⟩:=a0 p e z (by rw[u];exact I);have D:=Z p e z;have W:=Z m H ao;rw[u] at D aW;rw[ap] at W;exact GC bu p m _ _ o D W au aW bn
 have bw:∀ q,q<=es.length->(fj ops ⟨sgZ,aU l⟩ (es.map (·.1)) q).h=aU (qp es l' q):=fun q aD=>by
  unfold qp;cases v:es[q]? with
  | none=>
   have:q=es.length:=by rw[Ex] at v;omega
   rw[this,tr.at.2]
  | some e=>rw[(tr.at.1 q e v).2]
 have bU:AG P G ops (lN (gO ops)) ⟨sgZ,aU l⟩ (es.map (·.1)):=by
  refine⟨fun p t C=>?_,fun q aD p t bZ C bH=>?_⟩
  ·obtain⟨e,z,u⟩:=O p t C;obtain⟨aX,aL⟩:=tr.at.1 p e z;rw[aL,<-u];exact aX
  ·obtain⟨e,z,u⟩:=O p t C;obtain⟨aX,aL⟩:=tr.at.1 p e z;have bJ:q<=es.length:=by
    rcases aD with rfl | ⟨bV,aD,_⟩
    ·simp
    ·obtain⟨eq,bp,_⟩:=O q bV aD;exact jW (aH.1 bp).1
   rw[bw q bJ,aL];cases aw:e.1.pc with
   | true=>rw[<-u];cases h:e.1<;>rw[h] at aw<;>first | trivial | cases aw
   | false=>
    obtain⟨x,o,V,S,bl,h1,w,K,aq⟩:=tr.split p e z aw;obtain⟨Y,br,bY,bE⟩:=aG p x h1;have bI:Y=o:=by have a:=br.here;have b:=w.here;rw[a] at b;exact cd b
    subst bI;have ask:ox P Y.op=true->∀ (m:Nat) (H:bz × aP × ae),m<q - (p+1)->(es.drop (p+1))[m]?=some H->H.1.hg=true->
      (x.i,kv P G x.b e.2.1 V e.2.2 S)∈pB x.bo x.i (kv P G x.b e.2.1 V e.2.2 S) bl/\∃ y,(ag.drop (p+1))[m]?=some y/\x.i∈y.qe:=by
     intro X m H al aj aN;rw[gn] at aj;obtain⟨y,bf,bM⟩:=a3 _ H aj;obtain⟨b3,b0,bg,_⟩:=aG _ y bf;obtain⟨bS,bO,bP,b1⟩:=a0 _ H aj aN;have a4:x.i∈y.qe:=by
      refine CQ _ _ _ _ _ _ aR bg ⟨bS,by rw[bM];exact bO,bP⟩ x.i (.inr ⟨p,F,bd p x h1⟩) ⟨Y,w.here,X⟩ (fun e v=>by cases v) ?_;intro U bL aJ bW bx a5 aB aO
      -- what is at p'' was carried out
      have au:U<es.length:=by
       have:=(aH.1 aj).1;omega
      have ai:es[U]?=some es[U]:=bC au;have a2:=Z _ _ ai;rw[bx] at a2;have ar:bL=es[U].1.idx:=cd a2;have bs:es[U].1.hg=true:=by
       cases av:es[U].1.pc with
       | true=>
        exfalso;rcases aO with rfl | aO
        ·rw[ai] at aj;cases aj;cases h:es[p+1+m].1<;>rw[h] at aN av<;>first | (cases av;done) | (cases aN;done)
        ·have am:=(tr.at.1 _ _ ai).1;cases h:es[U].1<;>rw[h] at av am ar<;>first | (cases av;done) | skip
         obtain⟨bh,aT,ax⟩:=am;simp only[bz.idx] at ar;rw[<-ar,a5] at aT;cases aT;simp[ij,aO] at ax
       | false=>
        obtain⟨b6,bh,b5,b2,b4,aT,ax,aI,_⟩:=tr.split _ _ ai av;have bA:=aI.idx;have a1:=ax.here;rw[<-bA,<-ar,a5] at a1;cases a1;revert aI;generalize es[U].1=t3;intro aI;cases aI with
        | pure J B j _ _=>
         exfalso;have g:=ax.fv J B;have:h4 aJ.op=false:=by
          revert g j;cases aJ.op<;>simp only[j6]<;>intro j g<;>first | rfl | (exfalso;revert g j;done) | skip
          case store=>rw[map_some] at g;obtain⟨_,_,rfl⟩:=g;cases j
          case call c=>
           split at g
           ·rename_i b B;unfold h4;simp only[B];unfold qh at g
            repeat' split at g
            all_goals first
             | rfl
             | (cases g;done)
             | (cases g;cases j;done)
             | (simp only[bind_some,map_some] at g;obtain⟨_,_,rfl⟩:=g;cases j;done)
             | (simp only[bind_some,map_some] at g;obtain⟨_,_,_,_,rfl⟩:=g;cases j;done)
             | (simp only[bind_some,gI] at g;obtain⟨_,_,_,_,_,_,_,rfl⟩:=g;cases j;done)
             | (simp only[bind_some,gI] at g;obtain⟨_,_,_,_,_,_,_,_,_,rfl⟩:=g;cases j;done)
           ·split at g
            ·rw[gI] at g;obtain⟨_,rfl⟩:=g;cases j
            ·cases g
           ·cases g
          case next it b=>(cases b<;>simp only[reduceCtorEq] at g<;>cases g<;>cases j)
          case lookup=>split at g<;>(try cases g;done);rw[map_some] at g;obtain⟨_,_,rfl⟩:=g;cases j
          case mapUpdate=>split at g<;>cases g;cases j
          case insert=>split at g<;>cases g;cases j
          case panic=>(cases g;cases j)
          case makeMap=>split at g<;>cases g;cases j
          case range=>split at g<;>cases g;cases j
          case typeAssert=>rw[map_some] at g;obtain⟨_,_,rfl⟩:=g;cases j
          all_goals (cases g)
         rw[this] at aB;cases aB
        | new J cs B j _=>
         exfalso;have g:=ax.fv J B;have:h4 aJ.op=false:=by
          revert g j;cases aJ.op<;>simp only[j6]<;>intro j g<;>first | rfl | (exfalso;revert g j;done) | skip
          case store=>rw[map_some] at g;obtain⟨_,_,rfl⟩:=g;cases j
          case panic=>(cases g;cases j)
          case call c=>
           split at g
           ·rename_i b B;unfold h4;simp only[B];unfold qh at g
            repeat' split at g
            all_goals first
             | rfl
             | (cases g;done)
             | (cases g;cases j;done)
             | (simp only[bind_some,map_some] at g;obtain⟨_,_,rfl⟩:=g;cases j;done)
             | (simp only[bind_some,map_some] at g;obtain⟨_,_,_,_,rfl⟩:=g;cases j;done)
             | (simp only[bind_some,gI] at g;obtain⟨_,_,_,_,_,_,_,rfl⟩:=g;cases j;done)
             | (simp only[bind_some,gI] at g;obtain⟨_,_,_,_,_,_,_,_,_,rfl⟩:=g;cases j;done)
           ·split at g
            ·rw[gI] at g;obtain⟨_,rfl⟩:=g;cases j
            ·cases g
           ·cases g
          case next it b=>(cases b<;>simp only[reduceCtorEq] at g<;>cases g<;>cases j)
          case lookup=>split at g<;>(try cases g;done);rw[map_some] at g;obtain⟨_,_,rfl⟩:=g;cases j
          case mapUpdate=>split at g<;>cases g;cases j
          case insert=>split at g<;>cases g;cases j
          case makeMap=>split at g<;>cases g;cases j
          case range=>split at g<;>cases g;cases j
          case typeAssert=>rw[map_some] at g;obtain⟨_,_,rfl⟩:=g;cases j
          all_goals (cases g)
         rw[this] at aB;cases aB
        | e6 _ _=>rfl
      have:=bH U es[U].1 F (by simp[ai]) bs;rw[ar,w.here |> fun _=>(K.idx).symm,u];exact this
     refine⟨?_,y,by rw[gn];exact bf,a4⟩;have:x.bo=true:=by
      rw[bE];simp only[List.contains_iff_mem,EE];exact⟨(y.i,y.qe),cz bg,a4⟩
     rw[this];exact EC
    have az:ox P Y.op=true->(∀ l aV,kv P G x.b e.2.1 V e.2.2 S l->kv P G x.b e.2.1 V e.2.2 S (l++aV))->kv P G x.b e.2.1 V e.2.2 S S->kv P G x.b e.2.1 V e.2.2 S (qp es l' q):=by
     intro X bv bq;have:=aq.still x.i _ bv bq (q - (p+1)) (by simp only[iX];omega) (ask X)
     rwa [QT,show p+1+(q - (p+1))=q by omega] at this
    rw[<-u];revert K az ask u;generalize e.1=t1;intro u K ask az;cases K with
    | e6=>trivial
    | pure J B j aC bb=>
     intro aK a7;rw[w.here] at a7;cases a7;have g:=w.fv J B;cases aE:J.reads with
     | false=>exact yP g (RX j aE bb)
     | true=>
      have X:ox P Y.op=true:=by
       cases h:ox P Y.op with
       | true=>rfl
       | false=>rw[(Gc g h).1] at aE;cases aE
      have bF:J.kU=false:=by cases J<;>first | rfl | cases aE
      have Q:∀ T,kv P G x.b e.2.1 V e.2.2 S T<->bG P (di G e.2.1) T J=some (V,T):=fun T=>by rw[B];simp only[kv,bF]
      have:=az X (fun T aV h=>by rw[Q] at h ⊢;exact RW j h) (by rw[Q,aC];exact bb);rw[Q] at this;exact yP g this
    | new J cs B j aC=>
     have g:=w.fv J B;have X:ox P Y.op=true:=by
      cases h:ox P Y.op with
      | true=>rfl
      | false=>rw[(Gc g h).2] at j;cases j
     have Q:∀ T:ae,kv P G x.b e.2.1 V e.2.2 S T<->T[e.2.2.length]?=some (.cells cs.length cs):=fun T=>by
      rw[B,aC];simp only[kv,j];rw[ej (aF _)];simp
     have:=az X (fun T aV h=>by rw[Q] at h ⊢;rw[aS (aY h)];exact h) (by rw[Q,aC,ej (aF _)];simp);rw[Q] at this;show (aU (qp es l' q)).f (aU e.2.2).n=_;rw[js,AB,this]
 have:=cV.Pu (id:=id) bT bt bU;rw[cC,tr.at.2] at this;exact this
end
section
variable {P:bg} {G:Nat->U}
theorem AO {ops:Array a6} {f:Nat->Option c0}:∀ {is:List Nat} {s:List c0} {os:List a6},(∀ i x,f i=some x->∃ o,md P ops x o/\x.i=i)->is.mapM f=some s->is.map (fun i=>ops[i]?)=os.map some->kF P ops s os
 | [],s,os,j,h,g=>by
  simp at h;subst h;cases os with
  | nil=>exact .nil
  | cons=>simp at g
 | i::is,s,os,j,h,g=>by
  rw[oC] at h;simp only[Option.bind_eq_bind,bind_some,s3,bc] at h;obtain⟨x,h1,u,p,rfl⟩:=h;cases os with
  | nil=>simp at g
  | cons o os=>
   simp only[dh,List.cons.injEq] at g;obtain⟨t,m,q⟩:=j i x h1;have:t=o:=by have:=m.here;rw[q,g.1] at this;exact (cd this).symm
   subst this;exact .cons m (AO j p g.2)
theorem O0 {N N' id:Nat} (F:N<=N') {ops:Array a6} {draw:Bool} {c:fC} (g:Be P N ops draw=some c) {sgZ:aP} {l:ae} {K:fD} (h:run P G c sgZ l K) :
  ∃ e m l',cV P G (.code (.region id ops draw) N' sgZ (aU l) e m (aU l'))/\l.length<=l'.length/\K e m l':=by
 unfold Be at g;split at g
 ·cases g
 ·rename_i C;have B:∀ (i:Nat) (o:a6),ops[i]?=some o->hw N' o.dst=true:=fun i o J=>by
   rw[fW] at C;have:=C o (by simpa using xg J);unfold hw at this ⊢;split at this
   ·rename_i d _;exact bW (l8 (io this) F)
   ·rfl
  split at g
  ·rw[map_some] at g;obtain⟨s,h1,rfl⟩:=g;have H:kF P ops s ops.toList:=by
    refine AO (fun i x t=>?_) h1 ?_
    ·obtain⟨o,j,p,_⟩:=wZ t;exact⟨o,j,p⟩
    ·apply g7;intro u;rw[bX,bX];by_cases q:u<ops.size
     ·rw[g9 q];simp[q]
     ·rw[dV (by simp;omega),dV (by simp;omega)];rfl
   obtain⟨m,l',j,p,D⟩:=wR B H h;exact⟨.normal,m,l',.region j,p,D⟩
  ·simp only at g;split at g
   ·cases g
   ·rename_i v;simp only[bN] at v;split at g
    ·cases g
    ·rename_i s w;have O:∀ x∈s,∃ o,md P ops x o:=fun x t=>by
      obtain⟨u,q⟩:=xo t;obtain⟨a,_,j⟩:=yJ w u x q;obtain⟨o,p,_⟩:=wZ j;exact⟨o,p⟩
     have z:ji P G s sgZ l [] (K .normal)->∃ e m l',cV P G (.code (.region id ops true) N' sgZ (aU l) e m (aU l'))/\l.length<=l'.length/\K e m l':=fun h=>by
      obtain⟨Q,m,l',h1,j⟩:=Dq O h;exact⟨.normal,m,l',Px B v.1 v.2 w h1,h1.len,j⟩
     split at g
     ·rename_i I;cases g;refine z (Dr (fun x t=>?_) h);obtain⟨u,q⟩:=xo t;obtain⟨a,_,j⟩:=yJ w u x q;obtain⟨o,_,_,_,p⟩:=wZ j;rw[p,I];rfl
     ·cases g;exact z h
theorem Kr {N N' : Nat} (S:N<=N') :∀ (code:Code) (c:fC),comp P N code=some c->∀ (sgZ:aP) (l:ae) (K:fD),run P G c sgZ l K->
  ∃ e w l',cV P G (.code code N' sgZ (aU l) e w (aU l'))/\l.length<=l'.length/\K e w l':=by
 intro code
 induction code with
 | skip=>intro c g sgZ l K h;cases g;exact⟨_,_,_,.skip _ _ _,aF _,h⟩
 | label n=>intro c g sgZ l K h;cases g;exact⟨_,_,_,.label _ _ _ _,aF _,h⟩
 | ret=>intro c g sgZ l K h;cases g;exact⟨_,_,_,.ret _ _ _,aF _,h⟩
 | exit id=>intro c g sgZ l K h;cases g;exact⟨_,_,_,.exit _ _ _ _,aF _,h⟩
 | region id ops draw=>intro c g sgZ l K h;exact O0 S g h
 | seq a b V W=>
  intro c g sgZ l K h;have mk:∀ (z B:fC),comp P N a=some z->comp P N b=some B->run P G z sgZ l (mx (fun sgZ l=>run P G B sgZ l K) K)->∃ e w l',cV P G (.code (.seq a b) N' sgZ (aU l) e w (aU l'))/\l.length<=l'.length/\K e w l':=by
   intro z B u q h;obtain⟨e,p,o,h1,j,m⟩:=V z u sgZ l _ h;cases e with
   | normal=>
    obtain⟨e,J,I,t,F,H⟩:=W B q p o K m;exact⟨e,J,I,.Kx h1 t,dC j F,H⟩
   | exit id=>exact⟨_,p,o,.DB h1 (by intro h;cases h),j,m⟩
   | ret=>exact⟨_,p,o,.DB h1 (by intro h;cases h),j,m⟩
  simp only[comp] at g;split at g
  ·rename_i Q u q;cases g;exact mk _ _ u q h
  ·rename_i O _ u q;cases g;refine mk _ _ u q ?_;have:mx (fun sgZ l=>run P G .skip sgZ l K) K=K:=by
    funext e sgZ l;cases e<;>rfl
   rw[this];exact h
  ·rename_i O Q _ _ u q;cases g;exact mk _ _ u q h
  ·cases g
 | cond c x y Y Z=>
  intro C g sgZ l K h;simp only[comp] at g;split at g
  ·rename_i ag ai T U;cases g;simp only[run,vW] at h;split at h
   ·rename_i b q;rw[vX] at h;rcases h with ⟨rfl,h⟩ | ⟨rfl,h⟩
    ·obtain⟨e,p,o,h1,j,m⟩:=Y ag T sgZ l K h;exact⟨e,p,o,.cond q h1,j,m⟩
    ·obtain⟨e,p,o,h1,j,m⟩:=Z ai U sgZ l K h;exact⟨e,p,o,.cond q h1,j,m⟩
   ·cases h
  ·cases g
 | block id c v=>
  intro C g sgZ l K h;simp only[comp,map_some] at g;obtain⟨D,h1,rfl⟩:=g;obtain⟨e,p,o,j,m,t⟩:=v D h1 sgZ l _ h;cases e with
  | normal=>exact⟨_,p,o,.xP j (by intro h;cases h),m,t⟩
  | ret=>exact⟨_,p,o,.xP j (by intro h;cases h),m,t⟩
  | exit aj=>
   simp only[qv] at t;split at t
   ·rename_i q;obtain rfl:=h6 q;exact⟨_,p,o,.FG j,m,t⟩
   ·rename_i q;exact⟨_,p,o,.xP j (by intro h;cases h;rw[Ar] at q;cases q),m,t⟩
 | loop c v=>
  intro C g sgZ l K h;simp only[comp,map_some] at g;obtain⟨D,h1,rfl⟩:=g;obtain⟨n,h⟩:=h
  induction n generalizing sgZ l with
  | zero=>cases h
  | succ n X=>
   obtain⟨e,p,o,j,m,t⟩:=v D h1 sgZ l _ h;cases e with
   | normal=>
    obtain⟨e,J,I,F,H,R⟩:=X p o t;exact⟨e,J,I,.tM j F,dC m H,R⟩
   | exit id=>exact⟨_,p,o,.Cf j (by intro h;cases h),m,t⟩
   | ret=>exact⟨_,p,o,.Cf j (by intro h;cases h),m,t⟩
 | scope c v=>
  intro C g sgZ l K h;obtain⟨e,p,o,j,m,t⟩:=v C g sgZ l K h;exact⟨e,p,o,.scope j,m,t⟩
 | _=>intro c g;cases g
def Bd (P:bg) :ResultVar->Option dm
 | .tmp g=>some (.dS (.tmp g))
 | .cell a g=>j6 P (.load g (.tmp a))
def vz (P:bg) (f:cb) :Option (List dm):=match P.funcs[f]? with
 | some fn=>fn.results.toList.mapM (Bd P)
 | none=>none
def mw (P:bg) (G:Nat->U) (K:U->ae->Prop) (sgZ:aP) (l:ae) :List dm->ag->Prop
 | [],g=>K (su g) l
 | m::r,g=>W (bG P (di G sgZ) l m) (c:=⟨fun x=>mw P G K sgZ l r (g++[x.1])⟩)
def tJ (P:bg) (G:Nat->U) (g:List dm) (K:U->ae->Prop) :fD:=fun e h l=>match e with
 | .exit _=>False
 | .normal=>mw P G K h l g []
 | .ret=>mw P G K h l g []
def i4 (args:ag) :aP:=fun g=>args.getD g fz
theorem HY {K:U->ae->Prop} {sgZ:aP} {l:ae}:∀ {t:List ResultVar} {o:List dm} {j:ag},t.mapM (Bd P)=some o->mw P G K sgZ l o j->∃ vs,qN P (aU l) sgZ t=some vs/\K (su (j++vs)) l
 | [],o,j,g,h=>by simp at g;subst g;exact⟨[],rfl,by simpa [mw] using h⟩
 | r::t,o,j,g,h=>by
  rw[oC] at g;simp only[Option.bind_eq_bind,bind_some,s3,bc] at g;obtain⟨m,h1,H,z,rfl⟩:=g;simp only[mw,xI] at h;obtain⟨⟨v,F⟩,q,B⟩:=h;obtain⟨vs,C,D⟩:=HY z B;refine⟨v::vs,?_,by simpa using D⟩;have:ul P (aU l) sgZ r=some v:=by
   cases r with
   | tmp p=>cases h1;simp only[bG,bc,Prod.mk.injEq] at q;rw[<-q.1];rfl
   | cell a p=>
    have w:j6 P (.load p (.tmp a))=some m:=h1;have:=yP w q;simp only[cB] at this;unfold ul;show od P (aU l) p (di G sgZ (.tmp a))=some v;cases u:od P (aU l) p (di G sgZ (.tmp a)) with
    | none=>rw[u] at this;cases this
    | some x=>rw[u] at this;simp only[cu,bc,mc.val.injEq] at this;rw[this.1]
  simp only[qN,this,C]
theorem FU {f:cb} {c:fC} {o:List dm} (g:vy P f=some c) (m:vz P f=some o) {args:ag} {l:ae} {K:p3}
  (h:run P G c (i4 args) l (tJ P G o K.k)) :fP P G f args l (c:=K):=by
 unfold vy at g;unfold vz at m;split at g
 ·rename_i fn q;split at g
  ·rename_i u B;rw[q] at m;obtain⟨e,D,t,h1,v,j⟩:=Kr (N':=args.length+(fn.ntmps - args.length)) F u c g _ _ _ h;have p:(e=.normal\/e=.ret)->mw P G K.k D t o []->fP P G f args l (c:=K):=fun C j=>by
    obtain⟨H,w,z⟩:=HY m j;exact⟨su H,t,.inline q B h1 C (by simp only[uk,w];rfl),v,by simpa using z⟩
   cases e with
   | normal=>exact p (.inl rfl) j
   | ret=>exact p (.inr rfl) j
   | exit id=>cases j
  ·cases g
 ·cases g
theorem K0 {b:ri} {sgZ:aP} {l:ae} {K hJ:U->ae->Prop} (o:∀ v l,K v l->hJ v l) (h:gC P G b sgZ l K) :gC P G b sgZ l hJ:=by
 cases b with
 | fv q=>simp only[gC,xI] at h ⊢;obtain⟨v,h1,g⟩:=h;exact⟨v,h1,H1 o g⟩
 | kL f args=>obtain⟨r,m,h1,g,j⟩:=h;exact⟨r,m,h1,g,o _ _ j⟩
 | lr x args=>
  simp only[gC,vq] at h ⊢;split at h
  ·obtain⟨p,r,m,h1,g,j⟩:=h;exact⟨p,r,m,h1,g,o _ _ j⟩
  ·cases h
 | mZ x name args=>
  simp only[gC,xU] at h ⊢;split at h
  ·split at h
   ·obtain⟨p,r,m,h1,g,j⟩:=h;exact⟨p,r,m,h1,g,o _ _ j⟩
   ·cases h
  ·cases h
theorem HW {sgZ:aP} {g:Option (Option Tmp × Bool)} {p q o ko:Prop} (m:p->o) (j:q->ko) (h:oa sgZ g p q) :oa sgZ g o ko:=by
 unfold oa at h ⊢;split at h
 ·exact m h
 ·simp only[pe] at h ⊢;split at h
  ·rw[vX] at h ⊢;rcases h with ⟨a,b⟩ | ⟨a,b⟩
   ·exact .inl ⟨a,m b⟩
   ·exact .inr ⟨a,j b⟩
  ·cases h
  ·exact j h
 ·exact j h
theorem Ds {K j:aP->ae->Prop} (g:∀ sgZ l,K sgZ l->j sgZ l) :∀ {s:List c0} {sgZ:aP} {l:ae},ie P G s sgZ l K->ie P G s sgZ l j
 | [],_,_,h=>g _ _ h
 | s::r,_,_,h=>HW (K0 fun _ _ h=>Ds g h) (fun h=>Ds g h) h
theorem Dp {K j:aP->ae->Prop} (g:∀ sgZ l,K sgZ l->j sgZ l) :∀ {s:List c0} {sgZ:aP} {l:ae} {seen:hX},ji P G s sgZ l seen K->ji P G s sgZ l seen j
 | [],_,_,_,h=>g _ _ h
 | s::r,_,_,_,h=>HW (K0 fun _ _ h=>⟨h.1,Dp g h.2⟩) (fun h=>Dp g h) h
theorem vY {k k' : aP->ae->Prop} {K g:fD} (hk:∀ sgZ l,k sgZ l->k' sgZ l) (j:∀ e sgZ l,K e sgZ l->g e sgZ l) :∀ e sgZ l,mx k K e sgZ l->mx k' g e sgZ l:=by intro e sgZ l h;cases e<;>first | exact hk _ _ h | exact j _ _ _ h
theorem Dw:∀ {c:fC} {sgZ:aP} {l:ae} {K hJ:fD},(∀ e sgZ l,K e sgZ l->hJ e sgZ l)->run P G c sgZ l K->run P G c sgZ l hJ:=by
 intro c
 induction c with
 | skip=>intro sgZ l K hJ g h;exact g _ _ _ h
 | ret=>intro sgZ l K hJ g h;exact g _ _ _ h
 | exit id=>intro sgZ l K hJ g h;exact g _ _ _ h
 | jh s=>intro sgZ l K hJ g h;exact Ds (g _) h
 | vC s=>intro sgZ l K hJ g h;exact Dp (g _) h
 | seq a b m o=>intro sgZ l K hJ g h;exact m (vY (fun sgZ l h=>o g h) g) h
 | cond c x y q t=>
  intro sgZ l K hJ g h;simp only[run,vW] at h ⊢;split at h
  ·rw[vX] at h ⊢;rcases h with ⟨a,b⟩ | ⟨a,b⟩
   ·exact .inl ⟨a,q g b⟩
   ·exact .inr ⟨a,t g b⟩
  ·cases h
 | block id c j=>
  intro sgZ l K hJ g h;refine j (fun e sgZ l h=>?_) h;cases e with
  | normal=>exact g _ _ _ h
  | ret=>exact g _ _ _ h
  | exit u=>
   simp only[qv] at h ⊢;split at h
   ·exact g _ _ _ h
   ·exact g _ _ _ h
 | loop c j=>
  intro sgZ l K hJ g h;obtain⟨n,h⟩:=h;refine⟨n,?_⟩
  induction n generalizing sgZ l with
  | zero=>cases h
  | succ n p=>exact j (vY (fun sgZ l h=>p h) g) h
theorem v8 {c:fC} {K:AC} (m:Nat->aP->ae->Prop) (step:∀ n sgZ l,m n sgZ l->run P G c sgZ l (mx (fun sgZ l=>∃ j,j<n/\m j sgZ l) K.k)) :∀ n sgZ l,m n sgZ l->xD (run P G c) sgZ l (c:=K):=by
 intro n
 induction n using Nat.strongRecOn with
 | _ n u=>
  intro sgZ l h
  -- fuel n+1 is enough
  have o:∀ (g n:Nat),n<=g->∀ sgZ l,m n sgZ l->tM (run P G c) (g+1) sgZ l K.k:=by
   intro g
   induction g with
   | zero=>
    intro n q sgZ l h;obtain rfl:n=0:=F;exact Dw (vY (fun sgZ l ⟨j,h1,_⟩=>F) (fun _ _ _ h=>h)) (step 0 sgZ l h)
   | succ g t=>
    intro n q sgZ l h;exact Dw (vY (fun sgZ l ⟨j,h1,p⟩=>t j F sgZ l p) (fun _ _ _ h=>h)) (step n sgZ l h)
  exact⟨n+1,o n n (aF _) sgZ l h⟩
theorem bw {c:fC} {K:AC} (n:Nat) (g:Nat->aP->ae->Prop) (step:∀ k sgZ l,k<=n->g k sgZ l->run P G c sgZ l (mx (fun sgZ l=>k<n/\g (k+1) sgZ l) K.k)) {sgZ:aP} {l:ae} (h:g 0 sgZ l) :xD (run P G c) sgZ l (c:=K):=by refine v8 (fun j sgZ l=>∃ k,k+j=n/\g k sgZ l) (fun j sgZ l ⟨k,hk,h⟩=>?_) n sgZ l ⟨0,F,h⟩;exact Dw (vY (fun sgZ l ⟨h1,m⟩=>⟨j - 1,F,k+1,F,m⟩) (fun _ _ _ h=>h)) (step k sgZ l F h)
end
end Go.bf

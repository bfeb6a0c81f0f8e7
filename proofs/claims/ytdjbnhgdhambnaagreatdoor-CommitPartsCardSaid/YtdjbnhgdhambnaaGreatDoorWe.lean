/-
  The canonical machine: the laws by which 'simp' walks.
-/
import Derived.Test.YtdjbnhgdhambnaaGreatDoorWd
import GoSem.ClaimChange
import GoSem.ClaimWide
import Derived.ProofKit
import Derived.OpenShut
import Derived.Shelf.SlSortCmp.InsertionK
import Derived.Sort.LotA
set_option maxHeartbeats 16000000
set_option maxRecDepth 100000
set_option linter.unusedVariables false
set_option linter.unusedSimpArgs false
set_option linter.unnecessarySimpa false
namespace Go.bh
open Go
section
variable {P:bj} {G:Nat->U}
@[simp ↓] theorem adp (sgZ:aR) (l:ae) (K:fP) :run P G .skip sgZ l K=K .normal sgZ l:=id rfl
@[simp ↓] theorem adn (sgZ:aR) (l:ae) (K:fP) :run P G .ret sgZ l K=K .ret sgZ l:=id rfl
@[simp ↓] theorem adk (i:Nat) (sgZ:aR) (l:ae) (K:fP) :run P G (.exit i) sgZ l K=K (.exit i) sgZ l:=id rfl
@[simp ↓] theorem adm (s:List c8) (sgZ:aR) (l:ae) (K:fP) :run P G (.jB s) sgZ l K=iz P G s sgZ l (K .normal):=id rfl
@[simp ↓] theorem adj (s:List c8) (sgZ:aR) (l:ae) (K:fP) :run P G (.vU s) sgZ l K=jC P G s sgZ l [] (K .normal):=id rfl
@[simp ↓] theorem ado (a b:fO) (sgZ:aR) (l:ae) (K:fP) :run P G (.seq a b) sgZ l K=run P G a sgZ l (mN (fun sgZ l=>run P G b sgZ l K) K):=id rfl
@[simp ↓] theorem adi (c:aW) (x y:fO) (sgZ:aR) (l:ae) (K:fP) :run P G (.cond c x y) sgZ l K=wn (dv G sgZ c) (c:=⟨run P G x sgZ l K,run P G y sgZ l K⟩):=id rfl
@[simp ↓] theorem adh (i:Nat) (c:fO) (sgZ:aR) (l:ae) (K:fP) :run P G (.block i c) sgZ l K=run P G c sgZ l (qO i K):=id rfl
@[simp ↓] theorem adl (c:fO) (sgZ:aR) (l:ae) (K:fP) :run P G (.loop c) sgZ l K=x2 (run P G c) sgZ l (c:=⟨K⟩):=id rfl
@[simp ↓] theorem abs (k:aR->ae->Prop) (K:fP) (sgZ:aR) (l:ae) :mN k K .normal sgZ l=k sgZ l:=id rfl
@[simp ↓] theorem abr (k:aR->ae->Prop) (K:fP) (i:Nat) (sgZ:aR) (l:ae) :mN k K (.exit i) sgZ l=K (.exit i) sgZ l:=id rfl
@[simp ↓] theorem abt (k:aR->ae->Prop) (K:fP) (sgZ:aR) (l:ae) :mN k K .ret sgZ l=K .ret sgZ l:=id rfl
@[simp ↓] theorem abd (i:Nat) (K:fP) (sgZ:aR) (l:ae) :qO i K .normal sgZ l=K .normal sgZ l:=id rfl
@[simp ↓] theorem abe (i:Nat) (K:fP) (sgZ:aR) (l:ae) :qO i K .ret sgZ l=K .ret sgZ l:=id rfl
def ui (p:Prop) [Decidable p] [c:vt] :Prop:=if p then c.p else c.q
@[simp ↓] theorem abb (i j:Nat) (K:fP) (sgZ:aR) (l:ae) :qO i K (.exit j) sgZ l=ui (j=i) (c:=⟨K .normal sgZ l,K (.exit j) sgZ l⟩):=by
 unfold qO ui;by_cases h:j=i
 ·simp only[pG h,aj h]
 ·simp only[ir h,ak h]
@[simp ↓] theorem abj (i:Nat) (x y:Prop) :ui (i=i) (c:=⟨x,y⟩)=x:=by simp[ui]
@[simp] theorem abi (x y:Prop) :ui False (c:=⟨x,y⟩)=y:=by simp[ui]
@[simp ↓] theorem abg (g:List dx) (K:U->ae->Prop) (sgZ:aR) (l:ae) :uh P G g K .normal sgZ l=mM P G K sgZ l g []:=id rfl
@[simp ↓] theorem abh (g:List dx) (K:U->ae->Prop) (sgZ:aR) (l:ae) :uh P G g K .ret sgZ l=mM P G K sgZ l g []:=id rfl
@[simp ↓] theorem abq (K:U->ae->Prop) (sgZ:aR) (l:ae) (g:ag) :mM P G K sgZ l [] g=K (sR g) l:=id rfl
@[simp ↓] theorem abp (K:U->ae->Prop) (sgZ:aR) (l:ae) (m:dx) (r:List dx) (g:ag) :mM P G K sgZ l (m::r) g=W (bM P (dv G sgZ) l m) (c:=⟨fun x=>mM P G K sgZ l r (g++[x.1])⟩):=id rfl
@[simp] theorem adA (v:U) :sR [v]=v:=id rfl
@[simp] theorem adB (v w:U) (r:ag) :sR (v::w::r)=.a1 (v::w::r):=id rfl
@[simp ↓] theorem adg (sgZ:aR) (l:ae) (K:aR->ae->Prop) :iz P G [] sgZ l K=K sgZ l:=id rfl
@[simp ↓] theorem adf (i:Nat) (g:Option Tmp) (m:dx) (c:List Nat) (k:Bool) (r:List c8) (sgZ:aR) (l:ae) (K:aR->ae->Prop) :
  iz P G (⟨i,g,none,.fG m,c,k⟩::r) sgZ l K=W (bM P (dv G sgZ) l m) (c:=⟨fun x=>ey m x.1 x.2 fun v l'=>iz P G r (gG sgZ g v) l' K⟩):=id rfl
@[simp ↓] theorem adb (i:Nat) (g:Option Tmp) (f:cf) (args:List aW) (c:List Nat) (k:Bool) (r:List c8) (sgZ:aR) (l:ae) (K:aR->ae->Prop) :
  iz P G (⟨i,g,none,.k4 f args,c,k⟩::r) sgZ l K=fY P G f (args.map (dv G sgZ)) l (c:=⟨fun v l'=>iz P G r (gG sgZ g v) l' K⟩):=id rfl
@[simp ↓] theorem adc (i:Nat) (g:Option Tmp) (x:aW) (args:List aW) (c:List Nat) (k:Bool) (r:List c8) (sgZ:aR) (l:ae) (K:aR->ae->Prop) :
  iz P G (⟨i,g,none,.lO x args,c,k⟩::r) sgZ l K=vJ P G (dv G sgZ x) (args.map (dv G sgZ)) l (c:=⟨fun v l'=>iz P G r (gG sgZ g v) l' K⟩):=id rfl
@[simp ↓] theorem ade (i:Nat) (g:Option Tmp) (d:Tmp) (w:Bool) (b:rF) (c:List Nat) (k:Bool) (r:List c8) (sgZ:aR) (l:ae) (K:aR->ae->Prop) :
  iz P G (⟨i,g,some (some d,w),b,c,k⟩::r) sgZ l K=pz (sgZ d) w (c:=⟨iz P G (⟨i,g,none,b,c,k⟩::r) sgZ l K,iz P G r (gG sgZ g fL) l K⟩):=id rfl
@[simp ↓] theorem ada (sgZ:aR) (l:ae) (seen:ij) (K:aR->ae->Prop) :jC P G [] sgZ l seen K=K sgZ l:=id rfl
@[simp ↓] theorem ac9 (i:Nat) (g:Option Tmp) (m:dx) (c:List Nat) (k:Bool) (r:List c8) (sgZ:aR) (l:ae) (seen:ij) (K:aR->ae->Prop) :
  jC P G (⟨i,g,none,.fG m,c,k⟩::r) sgZ l seen K=W (bM P (dv G sgZ) l m) (c:=⟨fun x=>ey m x.1 x.2 fun v l'=>pf c seen l'/\jC P G r (gG sgZ g v) l' (pW k i (kR P G (.fG m) sgZ v l l') seen) K⟩):=id rfl
@[simp ↓] theorem ac7 (i:Nat) (g:Option Tmp) (f:cf) (args:List aW) (c:List Nat) (k:Bool) (r:List c8) (sgZ:aR) (l:ae) (seen:ij) (K:aR->ae->Prop) :
  jC P G (⟨i,g,none,.k4 f args,c,k⟩::r) sgZ l seen K=fY P G f (args.map (dv G sgZ)) l (c:=⟨fun v l'=>pf c seen l'/\jC P G r (gG sgZ g v) l' (pW k i (fun _=>True) seen) K⟩):=id rfl
@[simp ↓] theorem ac8 (i:Nat) (g:Option Tmp) (d:Tmp) (w:Bool) (b:rF) (c:List Nat) (k:Bool) (r:List c8) (sgZ:aR) (l:ae) (seen:ij) (K:aR->ae->Prop) :
  jC P G (⟨i,g,some (some d,w),b,c,k⟩::r) sgZ l seen K=pz (sgZ d) w (c:=⟨jC P G (⟨i,g,none,b,c,k⟩::r) sgZ l seen K,jC P G r (gG sgZ g fL) l seen K⟩):=id rfl
@[simp] theorem aao (g:List Nat) (l:ae) :pf g [] l=True:=id rfl
@[simp] theorem aan (g:List Nat) (e:Nat × (ae->Prop)) (r:ij) (l:ae) :pf g (e::r) l=((g.contains e.1=true->e.2 l)/\pf g r l):=id rfl
@[simp] theorem adr (i:Nat) (p:ae->Prop) (s:ij) :pW true i p s=(i,p) ::s:=id rfl
@[simp] theorem adq (i:Nat) (p:ae->Prop) (s:ij) :pW false i p s=s:=id rfl
@[simp] theorem adw (m:dx) (sgZ:aR) (v:U) (l l' l1:ae) :kR P G (.fG m) sgZ v l l' l1=(match m.lg with | true=>l1[l.length]?=l'[l.length]? | false=>bM P (dv G sgZ) l1 m=some (v,l1)):=id rfl
@[simp ↓] theorem abW (x:aW) (v:U) (l:ae) (K:U->ae->Prop) :ey (.ei x) v l K=K v l:=id rfl
@[simp ↓] theorem abZ (c a b:aW) (v:U) (l:ae) (K:U->ae->Prop) :ey (.pick c a b) v l K=K v l:=id rfl
@[simp ↓] theorem abu (z:ag) (v:U) (l:ae) (K:U->ae->Prop) :ey (.alloc z) v l K=K v l:=id rfl
@[simp ↓] theorem abz (x:aW) (v:U) (l:ae) (K:U->ae->Prop) :ey (.box x) v l K=K v l:=id rfl
@[simp ↓] theorem aby (z:ag) (ps:List (Nat × Nat × aW)) (v:U) (l:ae) (K:U->ae->Prop) :ey (.yb z ps) v l K=K v l:=id rfl
@[simp ↓] theorem abA (z:Nat) (zero:ag) (n:Nat) (ps:List (Nat × aW)) (v:U) (l:ae) (K:U->ae->Prop) :ey (.qx z zero n ps) v l K=K v l:=id rfl
@[simp ↓] theorem abN (a:aW) (v:U) (l:ae) (K:U->ae->Prop) :ey (.ld1 a) v l K=K v l:=id rfl
@[simp ↓] theorem abO (n:Nat) (a:aW) (v:U) (l:ae) (K:U->ae->Prop) :ey (.jZ n a) v l K=K v l:=id rfl
@[simp ↓] theorem ab2 (n:Nat) (a x:aW) (v:U) (l:ae) (K:U->ae->Prop) :ey (.st n a x) v l K=K v l:=id rfl
@[simp ↓] theorem abX (x:aW) (v:U) (l:ae) (K:U->ae->Prop) :ey (.zm x) v l K=K v l:=id rfl
@[simp ↓] theorem abx (o:BinOp) (t:aC) (x y:aW) (v:U) (l:ae) (K:U->ae->Prop) :ey (.bin o t x y) v l K=K v l:=id rfl
@[simp ↓] theorem ab3 (o:UnOp) (x:aW) (v:U) (l:ae) (K:U->ae->Prop) :ey (.un o x) v l K=K v l:=id rfl
@[simp ↓] theorem abD (k:cV) (x:aW) (v:U) (l:ae) (K:U->ae->Prop) :ey (.vL k x) v l K=K v l:=id rfl
@[simp ↓] theorem abC (x:aW) (v:U) (l:ae) (K:U->ae->Prop) :ey (.qz x) v l K=K v l:=id rfl
@[simp ↓] theorem abG (x:aW) (v:U) (l:ae) (K:U->ae->Prop) :ey (.yr x) v l K=K v l:=id rfl
@[simp ↓] theorem abS (f:cf) (a b:List aW) (v:U) (l:ae) (K:U->ae->Prop) :ey (.wA f a b) v l K=K v l:=id rfl
@[simp ↓] theorem abU (z b:Nat) (zero:ag) (x y:aW) (v:U) (l:ae) (K:U->ae->Prop) :ey (.sl z b zero x y) v l K=K v l:=id rfl
@[simp ↓] theorem ab1 (m:h2) (x:aW) (h g j:Option aW) (v:U) (l:ae) (K:U->ae->Prop) :ey (.slice m x h g j) v l K=K v l:=id rfl
@[simp ↓] theorem abI (n:Nat) (x:aW) (v:U) (l:ae) (K:U->ae->Prop) :ey (.nu n x) v l K=K v l:=id rfl
@[simp ↓] theorem abJ (n m:Nat) (x:aW) (v:U) (l:ae) (K:U->ae->Prop) :ey (.yG n m x) v l K=K v l:=id rfl
@[simp ↓] theorem abK (g:h2) (x y:aW) (v:U) (l:ae) (K:U->ae->Prop) :ey (.sb g x y) v l K=K v l:=id rfl
@[simp ↓] theorem abL (n z:Nat) (x y:aW) (v:U) (l:ae) (K:U->ae->Prop) :ey (.yV n z x y) v l K=K v l:=id rfl
@[simp ↓] theorem abM (x y:aW) (v:U) (l:ae) (K:U->ae->Prop) :ey (.yX x y) v l K=K v l:=id rfl
@[simp ↓] theorem abH (x:aW) (n:Nat) (v:U) (l:ae) (K:U->ae->Prop) :ey (.ext x n) v l K=K v l:=id rfl
@[simp ↓] theorem abP (g:h2) (x:aW) (v:U) (l:ae) (K:U->ae->Prop) :ey (.len g x) v l K=K v l:=id rfl
@[simp ↓] theorem abB (g:h2) (x:aW) (v:U) (l:ae) (K:U->ae->Prop) :ey (.cap g x) v l K=K v l:=id rfl
@[simp ↓] theorem abw (z b:Nat) (zero:ag) (x y:aW) (v:U) (l:ae) (K:U->ae->Prop) :ey (.tB z b zero x y) v l K=K v l:=id rfl
@[simp ↓] theorem abE (zero:ag) (x:aW) (v:U) (l:ae) (K:U->ae->Prop) :ey (.tN zero x) v l K=K v l:=id rfl
@[simp ↓] theorem abR (x y:aW) (v:U) (l:ae) (K:U->ae->Prop) :ey (.max x y) v l K=K v l:=id rfl
@[simp ↓] theorem abv (z b:Nat) (x y:aW) (v:U) (l:ae) (K:U->ae->Prop) :ey (.app z b x y) v l K=b2 v l (c:=⟨K⟩):=id rfl
theorem b2.bq {v:U} {l:ae} {K:U->ae->Prop} (h:K v l) :b2 v l (c:=⟨K⟩):=.inl h
@[simp] theorem aa7 (a:aW) :(dx.ld1 a).lg=false:=id rfl
@[simp] theorem aa8 (n:Nat) (a:aW) :(dx.jZ n a).lg=false:=id rfl
@[simp] theorem aa6 (k:cV) (a:aW) :(dx.vL k a).lg=false:=id rfl
@[simp] theorem aa4 (z:ag) :(dx.alloc z).lg=true:=id rfl
@[simp] theorem aa5 (z:Nat) (zero:ag) (n:Nat) (ps:List (Nat × aW)) :(dx.qx z zero n ps).lg=true:=id rfl
@[simp] theorem acX (l l' : ae) (x:Option U) (v:U) :(du l x=some (v,l'))=(x=some v/\l'=l):=propext fa
@[simp ↓] theorem ZL {alZ:Type} (x:alZ) (k:alZ->Prop) :W (some x) (c:=⟨k⟩)=k x:=id rfl
@[simp ↓] theorem ZK (l:ae) (o:Option U) (k:U × ae->Prop) :W (du l o) (c:=⟨k⟩)=W o (c:=⟨fun v=>k (v,l)⟩):=by unfold W du;cases o<;>rfl
@[simp ↓] theorem ZJ {alZ g:Type} (o:Option alZ) (f:alZ->g) (k:g->Prop) :W (o.map f) (c:=⟨k⟩)=W o (c:=⟨fun v=>k (f v)⟩):=by unfold W;cases o<;>rfl
@[simp ↓] theorem ZI {alZ:Type} (p:Prop) [Decidable p] (x:alZ) (k:alZ->Prop) :W (if p then some x else none) (c:=⟨k⟩)=(p/\k x):=by unfold W;by_cases h:p<;>simp[h]
@[simp ↓] theorem abf (b:Bool) (p q:Prop) :wn (.bool b) (c:=⟨p,q⟩)=oC b (c:=⟨p,q⟩):=id rfl
@[simp ↓] theorem abo (p q:Prop) :oC true (c:=⟨p,q⟩)=p:=id rfl
@[simp ↓] theorem abn (p q:Prop) :oC false (c:=⟨p,q⟩)=q:=id rfl
@[simp ↓] theorem abl (b:Bool) (p q:Prop) :pz (.bool b) true (c:=⟨p,q⟩)=oC b (c:=⟨p,q⟩):=by cases b<;>rfl
@[simp ↓] theorem abk (b:Bool) (p q:Prop) :pz (.bool b) false (c:=⟨p,q⟩)=oC b (c:=⟨q,p⟩):=by cases b<;>rfl
@[simp ↓] theorem abm (w:Bool) (p q:Prop) :pz fL w (c:=⟨p,q⟩)=q:=id rfl
theorem gp {b:Bool} {p q:Prop} (h1:b=true->p) (g:b=false->q) :oC b (c:=⟨p,q⟩):=by cases b;exact g rfl;exact h1 rfl
@[simp ↓] theorem acZ (sgZ:aR) (d:Tmp) (v:U) :gG sgZ (some d) v=bm sgZ d v:=id rfl
@[simp ↓] theorem acY (sgZ:aR) (v:U) :gG sgZ none v=sgZ:=id rfl
@[simp] theorem aaJ {alZ:Type} (s:Nat->alZ) (d:Nat) (v:alZ) (t:Nat) :bm s d v t=if t=d then v else s t:=id rfl
@[simp] theorem ZM (args:ag) (t:Nat) :jm args t=args.getD t fL:=id rfl
@[simp] theorem aaG (sgZ:aR) (t:Tmp) :dv G sgZ (.tmp t)=sgZ t:=id rfl
@[simp] theorem aaz (sgZ:aR) (f:cf) :dv G sgZ (.func f)=.fn f [] []:=id rfl
@[simp] theorem aaA (sgZ:aR) (g:Nat) :dv G sgZ (.global g)=G g:=id rfl
@[simp] theorem aaB (sgZ:aR) (k:cV) (n:Int) :dv G sgZ (.const (.int k n))=.int k n:=id rfl
@[simp] theorem aay (sgZ:aR) (b:Bool) :dv G sgZ (.const (.bool b))=.bool b:=id rfl
@[simp] theorem aaF (sgZ:aR) (s:ByteArray) :dv G sgZ (.const (.string s))=.str s.data.toList:=id rfl
@[simp] theorem aaE (sgZ:aR) :dv G sgZ (.const (.slice none 0 0))=.af:=id rfl
@[simp] theorem aaD (sgZ:aR) :dv G sgZ (.const (.map none))=.g0:=id rfl
@[simp] theorem aaC (sgZ:aR) :dv G sgZ (.const .nilFunc)=.h6:=id rfl
variable (ci:aW->U) (l:ae)
@[simp ↓] theorem acD (x:aW) :bM P ci l (.ei x)=some (ci x,l):=id rfl
@[simp ↓] theorem acG (c a b:aW) :bM P ci l (.pick c a b)=du l (zC (ci c) (ci a) (ci b)):=id rfl
@[simp ↓] theorem aca (z:ag) :bM P ci l (.alloc z)=some (.ptr l.length 0 z.length,l++[.cells z.length z]):=id rfl
@[simp ↓] theorem acg (x:aW) :bM P ci l (.box x)=(ci x).cells.map fun cs=>(.ptr l.length 0 cs.length,l++[.cells cs.length cs]):=id rfl
@[simp ↓] theorem acf (zero:ag) (ps:List (Nat × Nat × aW)) :bM P ci l (.yb zero ps)=du l ((nk zero (ps.map fun p=>(p.1,p.2.1,ci p.2.2))).map .ah):=id rfl
@[simp ↓] theorem ach (z:Nat) (zero:ag) (len:Nat) (ps:List (Nat × aW)) :bM P ci l (.qx z zero len ps)=(ew (fun i=>some (i*z,z)) (cD zero len) (ps.map fun p=>(p.1,ci p.2))).map fun cs=>(.ad z l.length 0 len len (len*z),l++[.cells (len*z) cs]):=id rfl
@[simp ↓] theorem acv (a:aW) :bM P ci l (.ld1 a)=du l ((fV l (ci a)).bind fun x=>x.1[x.2]?):=id rfl
@[simp ↓] theorem acw (n:Nat) (a:aW) :bM P ci l (.jZ n a)=du l ((fV l (ci a)).bind fun x=>ss n x.1 x.2):=id rfl
@[simp ↓] theorem acJ (n:Nat) (a x:aW) :bM P ci l (.st n a x)=(jG n l (ci a) (ci x)).map fun l'=>(fL,l'):=id rfl
@[simp ↓] theorem acE (x:aW) :bM P ci l (.zm x)=du l (zn (ci x)):=id rfl
@[simp ↓] theorem ace (o:BinOp) (t:aC) (x y:aW) :bM P ci l (.bin o t x y)=du l (eb P o t (ci x) (ci y)):=id rfl
@[simp ↓] theorem acK (o:UnOp) (x:aW) :bM P ci l (.un o x)=du l (ri o (ci x)):=id rfl
@[simp ↓] theorem ack (k:cV) (x:aW) :bM P ci l (.vL k x)=du l (vM k (ci x)):=id rfl
@[simp ↓] theorem acj (x:aW) :bM P ci l (.qz x)=du l (pc l (ci x)):=id rfl
@[simp ↓] theorem acn (x:aW) :bM P ci l (.yr x)=du l (rW (ci x)):=id rfl
@[simp ↓] theorem acA (f:cf) (a b:List aW) :bM P ci l (.wA f a b)=some (.fn f (a.map ci) (b.map ci),l):=id rfl
@[simp ↓] theorem acB (z by_:Nat) (zero:ag) (a c:aW) :bM P ci l (.sl z by_ zero a c)=l2 z by_ zero l (ci a) (ci c):=id rfl
@[simp ↓] theorem acI (m:h2) (x:aW) (h g j:Option aW) :bM P ci l (.slice m x h g j)=du l (dK m (ci x) (h.map ci) (g.map ci) (j.map ci)):=id rfl
@[simp ↓] theorem acp (off:Nat) (x:aW) :bM P ci l (.nu off x)=du l (k5 (ci x) off):=id rfl
@[simp ↓] theorem acq (n off:Nat) (x:aW) :bM P ci l (.yG n off x)=du l (yH n off (ci x)):=id rfl
@[simp ↓] theorem acr (g:h2) (x i:aW) :bM P ci l (.sb g x i)=du l (bO g (ci x) (ci i)):=id rfl
@[simp ↓] theorem acs (n z:Nat) (x i:aW) :bM P ci l (.yV n z x i)=du l (yW n z (ci x) (ci i)):=id rfl
@[simp ↓] theorem acu (x i:aW) :bM P ci l (.yX x i)=du l (ud (ci x) (ci i)):=id rfl
@[simp ↓] theorem aco (x:aW) (i:Nat) :bM P ci l (.ext x i)=du l (yz (ci x) i):=id rfl
@[simp ↓] theorem acx (g:h2) (x:aW) :bM P ci l (.len g x)=du l (bx g (ci x)):=id rfl
@[simp ↓] theorem aci (g:h2) (x:aW) :bM P ci l (.cap g x)=du l (rQ g (ci x)):=id rfl
@[simp ↓] theorem acb (z by_:Nat) (s x:aW) :bM P ci l (.app z by_ s x)=eE l z by_ (ci s) (ci x):=id rfl
@[simp ↓] theorem acd (z by_:Nat) (zero:ag) (s x:aW) :bM P ci l (.tB z by_ zero s x)=n5 l z by_ zero (ci s) (ci x):=id rfl
@[simp ↓] theorem acl (zero:ag) (x:aW) :bM P ci l (.tN zero x)=(pg zero l (ci x)).map fun l'=>(.a1 [],l'):=id rfl
@[simp ↓] theorem acz (x y:aW) :bM P ci l (.max x y)=du l (oH (ci x) (ci y)):=id rfl
@[simp] theorem acU (t:Bool) (a b:U) :zC (.bool t) a b=some (if t=true then a else b):=id rfl
@[simp] theorem aag (cs:ag) :(U.ah cs).cells=some cs:=id rfl
@[simp] theorem aaj (k:cV) (n:Int) :(U.int k n).cells=some [.int k n]:=id rfl
@[simp] theorem aah (b:Bool) :(U.bool b).cells=some [.bool b]:=id rfl
@[simp] theorem aam (s:List UInt8) :(U.str s).cells=some [.str s]:=id rfl
@[simp] theorem aak:U.af.cells=some [.af]:=id rfl
@[simp] theorem aal (z b o n c s:Nat) :(U.ad z b o n c s).cells=some [.ad z b o n c s]:=id rfl
@[simp] theorem aae (b off sz k:Nat) :k5 (.ptr b off sz) k=some (.ptr b (off+k) sz):=id rfl
@[simp] theorem aaf (cs:ag) (off k:Nat) :k5 (.b0 cs off) k=some (.b0 cs (off+k)):=id rfl
@[simp] theorem acM (b o s:Nat) :zn (.ptr b o s)=some (.ptr b o s):=id rfl
def DJ (x:Option am) (off sz:Nat) :Option (ag × Nat):=match x with
 | some (.cells n cs)=>if n=sz then some (cs,off) else none
 | _=>none
@[simp] theorem ac2 (b off sz:Nat) :fV l (.ptr b off sz)=DJ l[b]? off sz:=by unfold fV DJ;rfl
@[simp] theorem ac1 (n:Nat) (cs:ag) (off sz:Nat) :DJ (some (.cells n cs)) off sz=if n=sz then some (cs,off) else none:=id rfl
@[simp] theorem ac3 (cs:ag) (off:Nat) :fV l (.b0 cs off)=some (cs,off):=id rfl
def aD (n:Nat) (l:ae) (b off sz:Nat) (vs:ag) (x:Option am) :Option ae:=match x with
 | some (.cells g cs)=>if g=sz/\vs.length=n/\off+n<=g then some (l.set b (.cells g (ax cs off vs))) else none
 | _=>none
@[simp] theorem ady (n b off sz:Nat) (v:U) :jG n l (.ptr b off sz) v=v.cells.bind fun vs=>aD n l b off sz vs l[b]?:=by unfold jG aD;cases v.cells<;>rfl
@[simp] theorem adx (n b off sz:Nat) (vs:ag) (m:Nat) (cs:ag) :aD n l b off sz vs (some (.cells m cs))=if m=sz/\vs.length=n/\off+n<=m then some (l.set b (.cells m (ax cs off vs))) else none:=id rfl
@[simp] theorem acS (n:Nat) (cs:ag) (off:Nat) :ss n cs off=if off+n<=cs.length then some (.ah ((cs.drop off).take n)) else none:=id rfl
@[simp] theorem adv (a:U) (cs vs:ag) (off:Nat) :ax (a::cs) (off+1) vs=a::ax cs off vs:=by simp only[ax,List.take_succ_cons,jK,show off+1+vs.length=(off+vs.length)+1 by omega,List.drop_succ_cons]
@[simp] theorem XK (a v:U) (cs vs:ag) :ax (a::cs) 0 (v::vs)=v::ax cs 0 vs:=by simp[ax]
@[simp] theorem XN (cs:ag) :ax cs 0 []=cs:=by simp[ax]
@[simp] theorem adu (vs:ag) :ax [] 0 vs=vs:=by simp[ax]
@[simp] theorem ZZ (zero:ag) :nk zero []=some zero:=id rfl
theorem O1 (zero:ag) (off size:Nat) (v:U) (r:List (Nat × Nat × U)) :nk zero ((off,size,v) ::r)=v.cells.bind fun vs=>if vs.length=size/\off+size<=zero.length then nk (ax zero off vs) r else none:=by rw[nk];cases v.cells<;>rfl
attribute [simp] O1
@[simp] theorem aaI (g:Nat->Option (Nat × Nat)) (zero:ag) :ew g zero []=some zero:=id rfl
@[simp] theorem r2 (g:Nat->Option (Nat × Nat)) (zero:ag) (i:Nat) (v:U) (r:List (Nat × U)) :ew g zero ((i,v) ::r)=(g i).bind fun q=>v.cells.bind fun vs=>if vs.length=q.2/\q.1+q.2<=zero.length then ew g (ax zero q.1 vs) r else none:=by
 rw[ew];cases g i with
 | none=>rfl
 | some q=>cases v.cells<;>rfl
@[simp] theorem ac5 (zero:ag) :cD zero 0=[]:=id rfl
@[simp] theorem ac6 (zero:ag) (n:Nat) :cD zero (n+1)=zero++cD zero n:=id rfl
@[simp] theorem ZS (o:BinOp) (t:aC) (k:cV) (a:Int) (k' : cV) (b:Int) :eb P o t (.int k a) (.int k' b)=ct o k a k' b:=id rfl
@[simp] theorem ZX (o:BinOp) (t:aC) (a b:List UInt8) :eb P o t (.str a) (.str b)=tC o a b:=id rfl
@[simp] theorem ZU (k:cV) (a b:Int) :ct .lss k a k b=some (.bool (decide (a<b))):=by simp[ct]
@[simp] theorem ZT (k:cV) (a b:Int) :ct .leq k a k b=some (.bool (decide (a<=b))):=by simp[ct]
@[simp] theorem ZR (k:cV) (a b:Int) :ct .gtr k a k b=some (.bool (decide (b<a))):=by simp[ct]
@[simp] theorem ZQ (k:cV) (a b:Int) :ct .geq k a k b=some (.bool (decide (b<=a))):=by simp[ct]
@[simp] theorem ZP (k:cV) (a b:Int) :ct .eql k a k b=some (.bool (decide (a=b))):=by
 have:(a == b)=decide (a=b):=by by_cases h:a=b<;>simp[h]
 simp[ct,this]
@[simp] theorem ZW (k:cV) (a b:Int) :ct .neq k a k b=some (.bool (!decide (a=b))):=by
 have:(a != b)=!decide (a=b):=by by_cases h:a=b<;>simp[h]
 simp[ct,this]
@[simp] theorem ZO (k:cV) (a b:Int) :ct .add k a k b=some (.int k (k.wrap (a+b))):=by simp[ct]
@[simp] theorem ZY (k:cV) (a b:Int) :ct .sub k a k b=some (.int k (k.wrap (a - b))):=by simp[ct]
@[simp] theorem ZV (k:cV) (a b:Int) :ct .mul k a k b=some (.int k (k.wrap (a*b))):=by simp[ct]
@[simp] theorem adI (b:Bool) :ri .not (.bool b)=some (.bool (!b)):=id rfl
@[simp] theorem adH (k:cV) (n:Int) :ri .neg (.int k n)=some (.int k (k.wrap (0 - n))):=id rfl
@[simp] theorem aap (k k' : cV) (n:Int) :vM k (.int k' n)=some (.int k (k.wrap n)):=id rfl
@[simp] theorem aa0 (z g:Nat) (es:List (ag)) (k:cV) (i:Int) :bO (.ad z) (.bn g es) (.int k i)=if z=g/\0<=i then (es[i.toNat]?).map fun cs=>.b0 cs 0 else none:=id rfl
@[simp] theorem aa1 (z g b off len cap sz:Nat) (k:cV) (i:Int) :bO (.ad z) (.ad g b off len cap sz) (.int k i)=if z=g/\0<=i/\i<len then some (.ptr b (off+i.toNat*z) sz) else none:=id rfl
@[simp] theorem aaZ (n z:Nat) (x:U) (k:cV) (i:Int) :bO (.arr n z) x (.int k i)=if 0<=i/\i<n then k5 x (i.toNat*z) else none:=id rfl
@[simp] theorem ab6 (z:Nat) :bx (.ad z) .af=some (.int .i64 0):=id rfl
@[simp] theorem ab8 (z g b o n c s:Nat) :bx (.ad z) (.ad g b o n c s)=some (.int .i64 n):=id rfl
@[simp] theorem ab7 (z g:Nat) (es:List (ag)) :bx (.ad z) (.bn g es)=some (.int .i64 es.length):=id rfl
@[simp] theorem ab9 (s:List UInt8) :bx .str (.str s)=some (.int .i64 s.length):=id rfl
@[simp] theorem aaH (vs:ag) (i:Nat) :yz (.a1 vs) i=vs[i]?:=id rfl
end
section
variable {P:bj} {G:Nat->U}
inductive Rd (l:ae) :U->U->Prop
 | same (c:U) (h:c.aw=true) :Rd l c c
 | ah (cs o:ag) (u:o.length=cs.length) (h:∀ (j:Nat) (c g:U),cs[j]?=some c->o[j]?=some g->Rd l c g) :Rd l (.ah cs) (.ah o)
 | a1 (cs o:ag) (u:o.length=cs.length) (h:∀ (j:Nat) (c g:U),cs[j]?=some c->o[j]?=some g->Rd l c g) :Rd l (.a1 cs) (.a1 o)
 | ad (m b p len cap t:Nat) (cs:ag) (q:List (ag)) (v:l[b]?=some (.cells t cs)) (u:q.length=len) (z:∀ e∈q,e.length=m)
   (w:p+len*m<=cs.length)
   (h:∀ (i j:Nat) (e:ag) (c g:U),q[i]?=some e->e[j]?=some g->cs[p+(i*m+j)]?=some c->Rd l c g) :Rd l (.ad m b p len cap t) (.bn m q)
 | sK (m b p cap t:Nat) :Rd l (.ad m b p 0 cap t) (.bn m [])
theorem Wj {w:aQ} {R:Nat->Prop} {B:Nat} {l:ae} {muZ:bZ} (rel:bw R B w (aX l) muZ) :∀ {c c' : U},Rd l c c'->∀ {v:aA},az w R (aX l) muZ c v->dd w R c' v:=by
 intro c c' aq
 induction aq with
 | same c h=>
  intro v m;exact (dd.up (nq m h) fun k _ hk=>⟨hk.1,fun ⟨b,j,h1,o,D⟩=>by cases o⟩:az w R aH.empty (fun _=>none) _ v)
 | ah cs P q h I=>
  intro v m;cases m with
  | ah _ W ao h1 m=>
   refine .ah P W F h1 (fun g c' v p V=>?_);have t:g<cs.length:=by rw[<-q];exact (aK.1 p).1
   exact I g cs[g] c' (bI t) p (m g cs[g] v (bI t) V)
 | a1 cs P q h I=>
  intro v m;cases m with
  | a1 _ W ao m=>
   refine .a1 P W F (fun g c' v p V=>?_);have t:g<cs.length:=by rw[<-q];exact (aK.1 p).1
   exact I g cs[g] c' (bI t) p (m g cs[g] v (bI t) V)
 | sK z b C cap ai=>
  intro v m;cases m with
  | ad _ _ _ _ _ _ cap' cs j Q O q ap K=>exact .eN z _ cap'
  | fk _ _ _ _ _ _ cap' a q K u=>exact .eN z _ cap'
  | gw _ _ _ _ a cs j Q O=>exact .eN z a 0
 | ad z b C len cap ai cs J Q q ag aB h I=>
  intro v m;have G:(aX l).f b=.cells ai cs:=hI.2 Q;cases m with
  | gw _ _ _ _ a X j S aD=>
   obtain rfl:=ic.1 q;exact .eN z a 0
  | fk _ _ _ _ _ _ cap' a q K u=>
   exfalso;rcases u with u | ⟨n,X,u,t⟩
   ·rw[G] at u;cases u
   ·rw[G] at u;cases u;omega
  | ad _ _ _ _ _ _ cap' X j S O aC ap K=>
   rw[G] at S;cases S;have hblk:=rel.blk b j O;rw[G] at hblk;obtain⟨ax,av,arr,aE,au,ar,aw,ay,al⟩:=hblk;have ak:len<=cap':=by rcases K with ⟨_,h⟩ | ⟨_,h,_⟩<;>omega
   have aj:R j.r:=rel.up _ (rel.base b j (by rw[G];rfl) O);subst q;have Z:∀ i g,i<J.length->g<z->∃ c v,cs[C+(i*z+g)]?=some c/\arr[j.s+(C+(i*z+g))]?=some v/\v.oneCell'=true/\az w R (aX l) muZ c v:=by
    intro i g H p;have t:C+(i*z+g)<cs.length:=by
     have:i*z+z<=J.length*z:=by rw[<-eu];exact cn _ H
     omega
    obtain⟨v,h1,o,D⟩:=al _ _ (bI t);exact⟨_,v,bI t,h1,o,D⟩
   refine .bn z J j.r (j.s+C) cap' (fun i g=>(arr[j.s+(C+(i*z+g))]?).getD undef) ak ag (fun i g H p=>?_) (fun i e T g c' p=>?_)
   ·obtain⟨c,v,h1,o,D,Y⟩:=Z i g H p;refine⟨?_,?_,aj,fun ⟨b,j,h1,o,D⟩=>by cases o⟩
    ·simp only[World.cell?,ar,o,g8,rE];rw[show j.s+C+(i*z+g)=j.s+(C+(i*z+g)) by omega,o];rfl
    ·rw[o];exact D
   ·have H:i<J.length:=(aK.1 T).1;have am:g<z:=by rw[<-ag e (cE T)];exact (aK.1 p).1
    obtain⟨c,v,h1,o,D,Y⟩:=Z i g H am;simp only[o,g8];exact I i g e c c' T p h1 Y
theorem w4 (u:P.follows .mixedOrders=true) (o:∀ g,(G g).aw=true) {f:cf} {args:ag} {r:U} (h:fY P G f args [] (c:=⟨fun j l=>Rd l j r⟩)) :ii P G f args r:=by obtain⟨j,D,h1,C,m⟩:=h;intro w A F q t z;refine (EL (A:=A) u o h1 q t z).mono ?_;rintro e w' ⟨B,muZ',rfl,p,rel,v⟩;exact⟨B,rfl,p,Wj rel m v⟩
theorem av {f:cf} {args:ag} {r:U} {l:ae} {K:U->ae->Prop} (j:ii P G f args r) (g:aq args=true) (h:K r l) :fY P G f args l (c:=⟨K⟩):=
 ⟨r,l,.pure j g,aI _,h⟩
theorem SP (q:P.follows .mixedOrders=true) (m:∀ g,(G g).aw=true) {f:cf} {args:ag} (h:fY P G f args [] (c:=⟨fun r _=>r=.bool true⟩))
  {w:aQ} {A:Nat->Prop} {vs:Array aA} (o:∀ g,dd w A (G g) (.pointer (some ⟨g,0,none⟩))) (p:vs.size=args.length)
  (t:∀ (j:Nat) (c:U) (v:aA),args[j]?=some c->vs[j]?=some v->dd w A c v) :
  Calls P f vs w fun e w'=>e=.returned (.bool true)/\RowKit.Below w.heap.size w w':=by obtain⟨B,z,h1,u,rfl⟩:=h;exact Yl q m h1 o p t
end
section
variable {P:bj}
inductive c0 (P:bj) :List aC->ag->Prop
 | nil:c0 P [] []
 | bool {g:aC} {b:Bool} {j:List aC} {cs:ag} (m:P.underlying g=some .bool) (h:c0 P j cs) :c0 P (g::j) (.bool b::cs)
 | int {g:aC} {k:cV} {n:Int} {j:List aC} {cs:ag} (m:P.underlying g=some (.int k)) (h1:k.min<=n) (q:n<=k.max) (h:c0 P j cs) :c0 P (g::j) (.int k n::cs)
 | str {g:aC} {s:List UInt8} {j:List aC} {cs:ag} (m:P.underlying g=some .string) (v:s.length<=maxLen) (h:c0 P j cs) :c0 P (g::j) (.str s::cs)
 | af {g e:aC} {j:List aC} {cs:ag} (m:P.underlying g=some (.slice e)) (h:c0 P j cs) :c0 P (g::j) (.af::cs)
 | ad {g e:aC} {o:List (ag)} {j:List aC} {cs:ag} (m:P.underlying g=some (.slice e)) (u:o.length<=maxLen) (w:∀ r∈o,r.length=P.cellsOf e) (t:∀ r∈o,c0 P [e] r) (h:c0 P j cs) :c0 P (g::j) (.bn (P.cellsOf e) o::cs)
 | struct {g:aC} {p:Array Field} {j:List aC} {cs:ag} (m:P.underlying g=some (.struct p)) (h:c0 P (p.toList.map (·.type)++j) cs) :c0 P (g::j) cs
 | array {g e:aC} {n:Nat} {j:List aC} {cs:ag} (m:P.underlying g=some (.array n e)) (h:c0 P (List.replicate n e++j) cs) :c0 P (g::j) cs
def qE (P:bj) :List Field->Nat->Option Nat
 | [],g=>some g
 | f::r,g=>if f.offset=g then qE P r (g+P.cellsOf f.type) else none
def pP (P:bj) :Nat->aC->Bool
 | 0,_=>false
 | d+1,g=>match P.underlying g with
  | some .bool | some (.int _) | some .string=>true
  | some (.slice e)=>decide (0<P.cellsOf e)&&pP P d e
  | some (.struct h)=>decide (qE P h.toList 0=some (P.cellsOf g))&&h.toList.all fun f=>pP P d f.type
  | some (.array n e)=>decide (n*P.cellsOf e=P.cellsOf g)&&pP P d e
  | _=>false
structure mz (P:bj) (w:aQ) (A:Nat->Prop) (ts:List aC) (vs:List aA) (cs:ag) :Prop where
 len:cs.length=vs.length
 ty:∀ g cs',c0 P g cs'->c0 P (ts++g) (cs++cs')
 kT:∀ (j:Nat) (c:U) (v:aA),cs[j]?=some c->vs[j]?=some v->dd w A c v/\v.oneCell'=true
theorem mz.nil {w:aQ} {A:Nat->Prop}:mz P w A [] [] []:=⟨rfl,fun _ _ h=>h,fun g c j h=>by simp at h⟩
theorem mz.app {w:aQ} {A:Nat->Prop} {ts o:List aC} {vs q:List aA} {cs cs' : ag} (a:mz P w A ts vs cs) (b:mz P w A o q cs') :mz P w A (ts++o) (vs++q) (cs++cs'):=by
 refine⟨by simp[a.len,b.len],fun u t h=>by rw[gM,gM];exact a.ty _ _ (b.ty _ _ h),fun m c p j g=>?_⟩;by_cases h:m<cs.length
 ·rw[aV h] at j;rw[aV (by rw[<-a.len];exact h)] at g;exact a.kT m c p j g
 ·rw[et F] at j;rw[et (by rw[<-a.len];omega)] at g;rw[<-a.len] at g;exact b.kT _ c p j g
theorem zb {alZ j:Type} {f:alZ->Option j}:∀ {l:List alZ} {r:List j},l.mapM f=some r->∀ (p:Nat) (a:alZ),l[p]?=some a->∃ x,r[p]?=some x/\f a=some x
 | [],r,h,p,a,g=>by simp at g
 | a0::l,r,h,p,a,g=>by
  rw[oY] at h;simp only[Option.bind_eq_bind,bind_some,tn,bd] at h;obtain⟨b,h1,t,m,rfl⟩:=h;cases p with
  | zero=>simp only[ho,bd] at g;subst g;exact⟨b,rfl,h1⟩
  | succ p=>obtain⟨x,o,q⟩:=zb m p a (by simpa using g);exact⟨x,by simpa using o,q⟩
theorem wR {w:aQ} {A:Nat->Prop} {c:U} {v:aA} (h:dd w A c v) (h1:v.oneCell'=true) :∀ (j:Nat) (c' : U) (g:aA),[c][j]?=some c'->[v][j]?=some g->dd w A c' g/\g.oneCell'=true:=by
 intro j c' g m o;cases j with
 | zero=>simp only[ho,bd] at m o;subst m o;exact⟨h,h1⟩
 | succ j=>simp at m
theorem Ym {g:Type} {enc:aC × aA->g} {w:aQ} {base:Nat} {spare:Nat->Bool} {held:Bool} {fuel:Nat} {t:aC} {vs:List aA} {x:DataW g × List MemPlace}
  (j:P.underlying t=some .bool) (h:DataW.trod enc P w base spare held (fuel+1) t vs=some x) :∃ b,vs=[.bool b]:=by
 unfold DataW.trod at h;rw[j] at h;split at h
 case h_1 b _=>exact⟨b,rfl⟩
 all_goals first | (cases h;done) | (rename_i heq;cases heq;done) | (rename_i heq _;cases heq;done) | (rename_i heq _ _;cases heq;done) | (rename_i heq _ _ _;cases heq;done) | (simp_all;done)
theorem trod_int {j:Type} {enc:aC × aA->j} {w:aQ} {base:Nat} {spare:Nat->Bool} {held:Bool} {fuel:Nat} {t:aC} {k:cV} {vs:List aA} {x:DataW j × List MemPlace}
  (o:P.underlying t=some (.int k)) (h:DataW.trod enc P w base spare held (fuel+1) t vs=some x) :∃ n,vs=[.int k n]/\k.min<=n/\n<=k.max:=by
 unfold DataW.trod at h;rw[o] at h;split at h<;>simp only[reduceCtorEq,bd,TypeDesc.int.injEq] at *<;>try (exfalso;simp_all;done)
 rename_i q p n heq;subst heq;split at h
 ·rename_i m;obtain⟨rfl,g⟩:=m;simp only[Lit.wf,bH,bC] at g;exact⟨n,rfl,g.1,g.2⟩
 ·cases h
theorem Yo {g:Type} {enc:aC × aA->g} {w:aQ} {base:Nat} {spare:Nat->Bool} {held:Bool} {fuel:Nat} {t:aC} {vs:List aA} {x:DataW g × List MemPlace}
  (m:P.underlying t=some .string) (h:DataW.trod enc P w base spare held (fuel+1) t vs=some x) :∃ s,vs=[.string s]/\s.size<=maxLen:=by
 unfold DataW.trod at h;rw[m] at h;split at h<;>simp only[reduceCtorEq,bd] at *<;>try (exfalso;simp_all;done)
 split at h
 ·rename_i s _ j;exact⟨s,rfl,j⟩
 ·cases h
theorem Yn {g:Type} {enc:aC × aA->g} {w:aQ} {base:Nat} {spare:Nat->Bool} {held:Bool} {fuel:Nat} {t e:aC} {vs:List aA} {x:DataW g × List MemPlace}
  (m:P.underlying t=some (.slice e)) (h:DataW.trod enc P w base spare held (fuel+1) t vs=some x) :
  vs=[.slice none 0 0]\/∃ a len cap,vs=[.slice (some a) len cap]/\len<=cap/\cap<=maxLen/\∃ BZ,(List.range len).mapM (fun i=>(w.cells? base (a.add (i*P.cellsOf e)) (P.cellsOf e)).bind (DataW.trod enc P w base spare held fuel e))=some BZ:=by
 unfold DataW.trod at h;rw[m] at h;split at h<;>simp only[reduceCtorEq,bd,TypeDesc.slice.injEq] at *<;>try (exfalso;simp_all;done)
 ·exact .inl trivial
 ·rename_i o a len cap heq;subst heq;split at h
  ·rename_i j;rw[bind_some] at h;obtain⟨BZ,h1,_⟩:=h;exact .inr ⟨a,len,cap,rfl,j.2.1,j.2.2,BZ,h1⟩
  ·cases h
theorem Yp {g:Type} {enc:aC × aA->g} {w:aQ} {base:Nat} {spare:Nat->Bool} {held:Bool} {fuel:Nat} {t:aC} {fs:Array Field} {vs:List aA} {x:DataW g × List MemPlace}
  (m:P.underlying t=some (.struct fs)) (h:DataW.trod enc P w base spare held (fuel+1) t vs=some x) :
  vs.length=P.cellsOf t/\∃ xs,(fs.toList.mapM fun f=>DataW.trod enc P w base spare held fuel f.type ((vs.drop f.offset).take (P.cellsOf f.type)))=some xs:=by
 unfold DataW.trod at h;rw[m] at h;split at h<;>simp only[reduceCtorEq,bd,TypeDesc.struct.injEq] at *<;>try (exfalso;simp_all;done)
 rename_i o heq;subst heq;split at h
 ·rename_i j;rw[map_some] at h;obtain⟨xs,h1,_⟩:=h;exact⟨j,xs,h1⟩
 ·cases h
theorem trod_array {g:Type} {enc:aC × aA->g} {w:aQ} {base:Nat} {spare:Nat->Bool} {held:Bool} {fuel:Nat} {t e:aC} {n:Nat} {vs:List aA} {x:DataW g × List MemPlace}
  (m:P.underlying t=some (.array n e)) (h:DataW.trod enc P w base spare held (fuel+1) t vs=some x) :
  vs.length=P.cellsOf t/\∃ xs,((List.range n).mapM fun i=>DataW.trod enc P w base spare held fuel e ((vs.drop (i*P.cellsOf e)).take (P.cellsOf e)))=some xs:=by
 unfold DataW.trod at h;rw[m] at h;split at h<;>simp only[reduceCtorEq,bd,TypeDesc.array.injEq] at *<;>try (exfalso;simp_all;done)
 rename_i p o heq;obtain⟨rfl,rfl⟩:=heq;split at h
 ·rename_i j;rw[map_some] at h;obtain⟨xs,h1,_⟩:=h;exact⟨j,xs,h1⟩
 ·cases h
theorem Oy (a:Addr) (x j:Nat) :a.add (x+j)=(a.add x).add j:=by
 unfold Addr.add;by_cases h:x=0
 ·subst h;simp
 ·by_cases g:j=0
  ·subst g;simp
  ·rw[ak F,ak h,ak g];simp only[iW]
theorem add_plain (b o n:Nat) :(Addr.mk b o none).add n=⟨b,o+n,none⟩:=by
 unfold Addr.add;by_cases g:n=0
 ·subst g;simp
 ·rw[ak g]
theorem Mq {ai:Type} {enc:aC × aA->ai} {w:aQ} {A:Nat->Prop} (av:∀ k,A k) {base:Nat} {spare:Nat->Bool} {held:Bool}:∀ (fuel:Nat) (D:Nat) (t:aC) (vs:List aA) (d:DataW ai) (ps:List MemPlace),
  pP P D t=true->DataW.trod enc P w base spare held fuel t vs=some (d,ps)->∃ cs,mz P w A [t] vs cs
 | 0,_,_,_,_,_,_,h=>by simp[DataW.trod] at h
 | fuel+1,0,t,vs,d,ps,o,h=>by cases o
 | fuel+1,D+1,t,vs,d,ps,o,h=>by
  have ap:=fun t vs d ps o h=>Mq av (enc:=enc) (w:=w) (base:=base) (spare:=spare) (held:=held) fuel D t vs d ps o h
  unfold pP at o;split at o
  ·rename_i j;obtain⟨b,rfl⟩:=Ym j h;exact⟨[.bool b],⟨rfl,fun T K h=>.bool j h,wR (.bool b) rfl⟩⟩
  ·rename_i k j;obtain⟨n,rfl,h1,u⟩:=trod_int j h;exact⟨[.int k n],⟨rfl,fun T K h=>.int j h1 u h,wR (.int k n) rfl⟩⟩
  ·rename_i j;obtain⟨s,rfl,h1⟩:=Yo j h;exact⟨[.str s.data.toList],⟨rfl,fun T K h=>.str j (show s.data.toList.length<=maxLen from h1) h,wR (.str s) rfl⟩⟩
  ·rename_i e j;simp only[bH,bC] at o;rcases Yn j h with rfl | ⟨a,len,cap,rfl,a2,a0,aZ,aG⟩
   ·exact⟨[.af],⟨rfl,fun T K h=>.af j h,wR .af rfl⟩⟩
   ·have ao:∀ i,i<len->∃ C row,w.cells? base (a.add (i*P.cellsOf e)) (P.cellsOf e)=some C/\mz P w A [e] C row:=fun i g=>by
     obtain⟨x,_,S⟩:=zb aG i i (by rw[hp g]);rw[bind_some] at S;obtain⟨C,h1,u⟩:=S;obtain⟨row,Y⟩:=ap e C x.1 x.2 o.2 u;exact⟨C,row,h1,Y⟩
    have aF:∃ (C:Nat->List aA) (rows:Nat->ag),∀ i,i<len->w.cells? base (a.add (i*P.cellsOf e)) (P.cellsOf e)=some (C i)/\mz P w A [e] (C i) (rows i):=by
     refine⟨fun i=>if g:i<len then (ao i g).choose else [],fun i=>if g:i<len then (ao i g).choose_spec.choose else [],fun i g=>?_⟩;simp only[dif_pos g];exact (ao i g).choose_spec.choose_spec
    obtain⟨C,rows,J⟩:=aF;have O:∀ i,i<len->(C i).length=P.cellsOf e/\∀ m,m<P.cellsOf e->∃ v,(C i)[m]?=some v/\w.cell? (a.add (i*P.cellsOf e+m))=some v:=fun i g=>by
     have h1:=(J i g).1;unfold World.cells? at h1;split at h1
     ·refine⟨by rw[CS h1];simp,fun m Q=>?_⟩;obtain⟨v,u,Y⟩:=zb h1 m m (by rw[hp Q]);refine⟨v,u,?_⟩;rw[<-Y,Oy]
     ·cases h1
    let I:=(List.range len).map rows
    have am:∀ (i:Nat) (r:ag),I[i]?=some r->i<len/\r=rows i:=fun i r z=>by
     simp only[I,bW] at z;by_cases g:i<len
     ·rw[hp g] at z;simp only[cz,bd] at z;exact⟨g,z.symm⟩
     ·rw[ea (by simp;omega)] at z;cases z
    have W:I.length=len:=by simp[I]
    have ay:∀ r∈I,r.length=P.cellsOf e:=fun r z=>by
     obtain⟨i,g⟩:=xQ z;obtain⟨h1,rfl⟩:=am i r g;rw[(J i h1).2.len,(O i h1).1]
    have aT:∀ r∈I,c0 P [e] r:=fun r z=>by
     obtain⟨i,g⟩:=xQ z;obtain⟨h1,rfl⟩:=am i r g;have:=(J i h1).2.ty [] [] .nil;simpa using this
    refine⟨[.bn (P.cellsOf e) I],⟨rfl,fun T K h=>.ad j F ay aT h,wR ?_ rfl⟩⟩;by_cases aE:len=0
    ·subst aE;exact .eN _ _ _
    ·obtain⟨a4,_,X⟩:=(O 0 F).2 0 o.1;have ax:a.spot=none:=by
      unfold World.cell? at X;split at X
      ·split at X
       ·cases X
       ·rename_i ae;rw[show 0*P.cellsOf e+0=0 by omega] at ae;simp only[Addr.add,if_true] at ae;cases aS:a.spot with
        | none=>rfl
        | some x=>rw[aS] at ae;simp at ae
      ·cases X
     obtain⟨aD,aX,a3⟩:=a;simp only at ax;subst ax;have aB:=az.bn (w:=w) (R:=A) (h:=aH.empty) (muZ:=fun _=>none) (P.cellsOf e) I aD aX cap (fun i m=>((C i)[m]?).getD undef) F ay
      (fun i m g Q=>by
       rw[W] at g;obtain⟨v,h1,u⟩:=(O i g).2 m Q;obtain⟨c,q⟩:∃ c,(rows i)[m]?=some c:=by
        have:m<(rows i).length:=by rw[(J i g).2.len,(O i g).1];exact Q
        exact⟨_,bI this⟩
       refine⟨?_,?_,av _,fun ⟨b,G,h1,u,Y⟩=>by cases u⟩
       ·rw[h1,g8,<-add_plain];exact u
       ·rw[h1,g8];exact ((J i g).2.kT m c v q h1).2)
      (fun i r z m c q=>by
       obtain⟨g,rfl⟩:=am i r z;have Q:m<P.cellsOf e:=by rw[<-(O i g).1,<-(J i g).2.len];exact (aK.1 q).1
       obtain⟨v,h1,u⟩:=(O i g).2 m Q;rw[h1,g8];exact ((J i g).2.kT m c v q h1).1)
     rw[W] at aB;exact aB
  ·rename_i p j;simp only[bH,bC,gg] at o;obtain⟨W,U,S⟩:=Yp j h;have al:∀ (p:List Field) (B:Nat) (U:List (DataW ai × List MemPlace)),qE P p B=some vs.length->B<=vs.length->(∀ f∈p,pP P D f.type=true)->
     (p.mapM fun f=>DataW.trod enc P w base spare held fuel f.type ((vs.drop f.offset).take (P.cellsOf f.type)))=some U->∃ cs,mz P w A (p.map (·.type)) (vs.drop B) cs:=by
    intro p
    induction p with
    | nil=>intro B U q aP _ _;simp only[qE,bd] at q;rw[q,Fc];exact⟨[],.nil⟩
    | cons f p aU=>
     intro B U q aP aw Z;simp only[qE] at q;split at q
     ·rename_i aJ;rw[oY] at Z;simp only[Option.bind_eq_bind,bind_some,tn,bd] at Z;obtain⟨x,h1,aY,u,_⟩:=Z;have aO:∀ (p:List Field) (B n:Nat),qE P p B=some n->B<=n:=by
       intro p
       induction p with
       | nil=>intro B n h;simp only[qE,bd] at h;omega
       | cons au gs aV=>
        intro B n h;simp only[qE] at h;split at h
        ·have:=aV _ _ h;omega
        ·cases h
      have aN:=aO _ _ _ q;obtain⟨aj,aq⟩:=ap f.type _ x.1 x.2 (aw f V) h1;obtain⟨ak,ar⟩:=aU _ aY q aN (fun au aL=>aw au (by simp[aL])) u;refine⟨aj++ak,?_⟩;have:=aq.app ar;rw[aJ,show List.drop (B+P.cellsOf f.type) vs=List.drop (P.cellsOf f.type) (List.drop B vs) by rw[vd],iV] at this;exact this
     ·cases q
   obtain⟨cs,H⟩:=al p.toList 0 U (by rw[W];exact o.1) (ek _) o.2 S;rw[lE] at H;exact⟨cs,⟨H.len,fun T K h=>.struct j (H.ty _ _ h),H.kT⟩⟩
  ·rename_i n e j;simp only[bH,bC] at o;obtain⟨W,U,S⟩:=trod_array j h;have aR:∀ i,i<n->∃ c,mz P w A [e] ((vs.drop (i*P.cellsOf e)).take (P.cellsOf e)) c:=fun i g=>by
    obtain⟨x,_,h1⟩:=zb S i i (by rw[hp g]);exact ap e _ x.1 x.2 o.2 h1
   have al:∀ G,G<=n->∃ cs,mz P w A (List.replicate G e) (vs.drop ((n - G)*P.cellsOf e)) cs:=by
    intro G
    induction G with
    | zero=>intro _;rw[vi,kh F];exact⟨[],.nil⟩
    | succ G aW=>
     intro Z;obtain⟨aj,aq⟩:=aR (n - (G+1)) F;obtain⟨ak,ar⟩:=aW F;refine⟨aj++ak,?_⟩;have:=aq.app ar;have aM:(n - G)*P.cellsOf e=(n - (G+1))*P.cellsOf e+P.cellsOf e:=by rw[<-eu];congr 1;omega
     rw[aM,<-vd,iV] at this;exact this
   obtain⟨cs,H⟩:=al n (aI _);rw[tk,tl,lE] at H;exact⟨cs,⟨H.len,fun T K h=>.array j (H.ty _ _ h),H.kT⟩⟩
  ·cases o
def o8 (P:bj) (t:aC) (c:U) :Prop:=match dC P t with
 | some true=>∃ cs,c=.ah cs/\c0 P [t] cs
 | _=>c0 P [t] [c]
inductive i3 (P:bj) :List aC->ag->Prop
 | nil:i3 P [] []
 | cons {g:aC} {c:U} {h:List aC} {cs:ag}:o8 P g c->i3 P h cs->i3 P (g::h) (c::cs)
theorem F6 {I:Type} {enc:aC × aA->I} {w:aQ} {A:Nat->Prop} (Q:∀ k,A k) {base J:Nat} {spare:Nat->Bool} {held:Bool} {D:Nat}:∀ {ts:List aC} {vs:List aA} {o:List (DataW I)} {ps:List MemPlace},
  (∀ t∈ts,pP P D t=true)->(∀ (j:Nat) t v,ts[j]?=some t->vs[j]?=some v->Value.okWide P w .any J t v)->DataW.TrodAll enc P w base spare held ts vs o ps->
  ∃ cs,i3 P ts cs/\cs.length=vs.length/\∀ (j:Nat) (c:U) (v:aA),cs[j]?=some c->vs[j]?=some v->dd w A c v
 | [],[],_,_,_,_,_=>⟨[],.nil,rfl,fun j c v h=>by simp at h⟩
 | [],_::_,o,_,_,_,h=>by cases o<;>cases h
 | _::_,[],o,_,_,_,h=>by cases o<;>cases h
 | _::_,_::_,[],_,_,_,h=>by cases h
 | t::ts,v::vs,d::o,ps,H,T,h=>by
  obtain⟨ap,q,⟨Y,u⟩,ak,_⟩:=h;obtain⟨cs,h1,Z,ae⟩:=F6 Q (fun t u=>H t (by simp[u])) (fun j t v u p=>T (j+1) t v (by simpa using u) (by simpa using p)) ak;obtain⟨jR,m⟩:=Mq Q Y D t v.cells.toList d ap (H t V) u;have W:c0 P [t] jR:=by simpa using m.ty [] [] .nil
  have p:=T 0 t v rfl rfl;have O:∀ c,o8 P t c->dd w A c v->∃ cs,i3 P (t::ts) cs/\cs.length=(v::vs).length/\∀ (j:Nat) (c:U) (iS:aA),cs[j]?=some c->(v::vs)[j]?=some iS->dd w A c iS:=fun c g ag=>
   ⟨c::cs,.cons g h1,by simp[Z],fun j X iS F G=>by
    cases j with
    | zero=>simp only[ho,bd] at F G;subst F G;exact ag
    | succ j=>exact ae j X iS (by simpa using F) (by simpa using G)⟩
  unfold Value.okWide at p;have agg:dC P t=(P.underlying t).map fun d=>match d with | .struct _ | .array _ _=>true | _=>false:=rfl
  cases z:P.underlying t with
  | none=>
   exfalso;have:=H t V;cases D with
   | zero=>cases this
   | succ D=>unfold pP at this;rw[z] at this;cases this
  | some K=>
   rw[z] at p agg;have al:(∃ cs,v=.agg cs)->dC P t=some true->∃ cs,i3 P (t::ts) cs/\cs.length=(v::vs).length/\∀ (j:Nat) (c:U) (iS:aA),cs[j]?=some c->(v::vs)[j]?=some iS->dd w A c iS:=by
    rintro⟨xs,rfl⟩ C;refine O (.ah jR) (by unfold o8;rw[C];exact⟨jR,rfl,W⟩) (.ah jR xs (by have:=m.len;simp only[Value.cells,rr] at this;exact this.symm) (fun j x B=>?_) (fun j c x g B=>?_))
    ·have ai:j<jR.length:=by rw[m.len];simp only[Value.cells,rr];exact (ib.1 B).1
     exact (m.kT j jR[j] x (bI ai) (by simpa [Value.cells] using B)).2
    ·exact (m.kT j c x g (by simpa [Value.cells] using B)).1
   have am:(∀ xs,v≠.agg xs)->dC P t=some false->∃ cs,i3 P (t::ts) cs/\cs.length=(v::vs).length/\∀ (j:Nat) (c:U) (iS:aA),cs[j]?=some c->(v::vs)[j]?=some iS->dd w A c iS:=by
    intro aj C;have R:v.cells.toList=[v]:=by cases v<;>first | rfl | exact bP rfl (aj _)
    have S:=m.len;rw[R] at S;obtain⟨c,rfl⟩:∃ c,jR=[c]:=List.length_eq_one_iff.1 S;refine O c (by unfold o8;rw[C];exact W) (m.kT 0 c v rfl (by rw[R];rfl)).1
   have ao:Cell.okWide P w .any J t v->∀ xs,v≠.agg xs:=by
    rintro g xs rfl;unfold Cell.okWide at g;rw[z] at g;cases K<;>simp[Cell.ok,z] at g
   cases K<;>simp only[cz] at agg<;>first
    | exact al (by obtain⟨cs,h,_⟩:=p;exact⟨cs,h⟩) agg
    | exact am (ao p) agg
end
abbrev bL (alZ:Type):=Option (List alZ)
def bL.l {alZ:Type} (s:bL alZ) :List alZ:=s.getD []
@[simp] theorem bL.ab4 {alZ:Type}:bL.l (none:bL alZ)=[]:=rfl
@[simp] theorem bL.kE {alZ:Type} (l:List alZ) :bL.l (some l)=l:=rfl
def b4 {alZ:Type} (z:Nat) (enc:alZ->ag) :bL alZ->U
 | none=>.af
 | some l=>.bn z (l.map enc)
section
variable {alZ:Type} {z:Nat} {enc:alZ->ag}
@[simp] theorem cd (s:bL alZ) :bx (.ad z) (b4 z enc s)=some (.int .i64 s.l.length):=by cases s<;>simp[b4,bL.l]
@[simp] theorem ow (s:bL alZ) (k:cV) (i:Int) :bO (.ad z) (b4 z enc s) (.int k i)=if 0<=i then (s.l[i.toNat]?).map fun x=>.b0 (enc x) 0 else none:=by
 cases s with
 | none=>by_cases h:0<=i<;>simp[b4,bL.l,bO,h]
 | some l=>by_cases h:0<=i<;>simp[b4,bL.l,h,Function.comp_def]
theorem dg {s:bL alZ} {k:Nat} {y:alZ} (h:s.l[k]?=some y) :bO (.ad z) (b4 z enc s) (.int .i64 (k:Int))=some (.b0 (enc y) 0):=by rw[ow];simp[h]
@[simp] theorem aai (s:bL alZ) :(b4 z enc s).cells=some [b4 z enc s]:=by cases s<;>rfl
theorem lQ (h:∀ x,aq (enc x)=true) (s:bL alZ) :(b4 z enc s).aw=true:=by
 cases s with
 | none=>rfl
 | some l=>
  simp only[b4,U.aw]
  induction l with
  | nil=>rfl
  | cons x l g=>simp only[df,oe,h,g,kU]
end
theorem wrap_i64 {n:Int} (h1:-9223372036854775808<=n) (m:n<9223372036854775808) :IntKind.i64.wrap n=n:=by
 have g:(2 ^ IntKind.i64.bits:Int)=18446744073709551616:=by decide
 have h:(2 ^ (IntKind.i64.bits - 1) :Int)=9223372036854775808:=by decide
 have j:IntKind.i64.signed=true:=rfl;simp only[IntKind.wrap,g,h,j,mj,bC];split<;>omega
theorem aP {alZ:Type} {l:List alZ} {k:Nat} (h:k<l.length) :∃ x,l[k]?=some x/\x∈l:=⟨l[k],bI h,Fg h⟩
section
variable {P:bj} {G:Nat->U}
theorem vF {t e:aC} (g:P.underlying t=some (.slice e)) {alZ:Type} (z:Nat) (enc:alZ->ag) (s:bL alZ) :eb P .eql t (b4 z enc s) .af=some (.bool s.isNone):=by cases s<;>simp[b4,eb,rZ,dJ,g]
theorem QJ {e:aC} {k:cV} (p:P.underlying e=some (.int k)) (m:dC P e=some false) {D:Nat} (x y:List Int) :∀ (n i:Nat),i+n=x.length->i+n=y.length->
  dJ.om P (dJ P (D+1)) e 1 (x.map (.int k)) (y.map (.int k)) n i=some (decide (x.drop i=y.drop i)):=by
 intro n
 induction n with
 | zero=>intro i q u;rw[kh F,kh F];simp[dJ.om]
 | succ n w=>
  intro i q u;have t:x[i]?=some x[i]:=bI F;have v:y[i]?=some y[i]:=bI F;unfold dJ.om;simp only[Dk m,nX,bW,t,v,cz];have o:dJ P (D+1) e (.int k x[i]) (.int k y[i])=some (decide (x[i]=y[i])):=by
   unfold dJ;rw[p];simp only[if_true];by_cases h:x[i]=y[i]<;>simp[h]
  rw[o];have g:x.drop i=x[i] ::x.drop (i+1):=ml F;have j:y.drop i=y[i] ::y.drop (i+1):=ml F;by_cases h:x[i]=y[i]
  ·simp only[h,nZ];rw[w (i+1) F F];refine ch some (decide_eq_decide.2 ?_);rw[g,j,h];simp only[List.cons.injEq,true_and]
  ·simp only[h,vk];refine ch some (cC ?_).symm;rw[g,j];simp only[List.cons.injEq,h,false_and,x0]
theorem QP {t e:aC} {k:cV} {n:Nat} (j:P.underlying t=some (.array n e)) (m:P.underlying e=some (.int k)) (g:dC P e=some false) (h:b5 P e=some 1) {x y:List Int} (o:x.length=n) (p:y.length=n) {D:Nat} :
  dJ P (D+2) t (.ah (x.map (.int k))) (.ah (y.map (.int k)))=some (decide (x=y)):=by unfold dJ;rw[j];simp only[h];rw[QJ m g x y n 0 F F];simp
theorem r3 {z:Nat} {es:List (ag)} (g:∀ e∈es,e.length=z) :es.flatten.length=es.length*z:=by
 induction es with
 | nil=>simp
 | cons e es j=>rw[g6,cr,g e V,j fun e h=>g e (by simp[h]),dE,eu,rB]
theorem lT {z:Nat} {es:List (ag)} (m:∀ e∈es,e.length=z) {i j:Nat} {e:ag} (g:es[i]?=some e) (p:j<z) :es.flatten[i*z+j]?=e[j]?:=by
 induction es generalizing i with
 | nil=>simp at g
 | cons x es o=>
  have h:x.length=z:=m x V;cases i with
  | zero=>
   simp only[ho,bd] at g;subst g;rw[g6,tl,hr,aV F]
  | succ i=>
   simp only[jg] at g;rw[g6,et (by rw[h,eu];omega),h,show (i+1)*z+j - z=i*z+j by rw[eu];omega];exact o (fun e g=>m e (by simp[g])) g
theorem Re {z:Nat} {es:List (ag)} (g:∀ e∈es,e.length=z) (i:Nat) :es.flatten.drop (i*z)=(es.drop i).flatten:=by
 induction es generalizing i with
 | nil=>simp
 | cons x es m=>
  have j:x.length=z:=g x V;cases i with
  | zero=>simp
  | succ i=>
   rw[g6,show (i+1)*z=x.length+i*z by rw[eu,j,rB],List.drop_length_add_append,List.drop_succ_cons];exact m (fun e h=>g e (by simp[h])) i
theorem HH {z:Nat} {es:List (ag)} (h:∀ e∈es,e.length=z) {i:Nat} {e:ag} (g:es[i]?=some e) :(es.flatten.drop (i*z)).take z=e:=by
 rw[Re h];have j:i<es.length:=(aK.1 g).1;have:es.drop i=e::es.drop (i+1):=by rw[ml j];congr 1;rw[bI j] at g;exact cg g
 rw[this,g6,ig (by rw[h e (cE g)];exact aI _),aL (by rw[h e (cE g)];exact aI _)]
theorem po {z:Nat} {es:List (ag)} (o:∀ e∈es,e.length=z) {i j:Nat} {e vs:ag} (g:es[i]?=some e) (u:j+vs.length<=z) :ax es.flatten (i*z+j) vs=(es.set i (ax e j vs)).flatten:=by
 have h:i<es.length:=(aK.1 g).1;have v:e.length=z:=o e (cE g);have p:es.drop i=e::es.drop (i+1):=by rw[ml h];congr 1;rw[bI h] at g;exact cg g
 have q:(es.set i (ax e j vs)).flatten=(es.take i).flatten++(ax e j vs++(es.drop (i+1)).flatten):=by
  rw[rA,aj h,jL,g6]
 have t:es.flatten=(es.take i).flatten++(e++(es.drop (i+1)).flatten):=by
  conv=>lhs;rw[<-iV i es]
  rw[p,jL,g6]
 have m:(es.take i).flatten.length=i*z:=by
  rw[r3 (z:=z) fun e g=>o e (gh g),cO,iX F]
 rw[q,t];simp only[ax];rw[qe,aL F,m,show i*z+j - i*z=j by omega,ig F,
  AO,kh F,m,show i*z+j+vs.length - i*z=j+vs.length by omega,iD,nS F]
 simp only[gM]
theorem cB {sgZ:aR} {i:Nat} {v:U} (h:sgZ i=v) :bm sgZ i v=sgZ:=by funext g;simp only[bm];split<;>simp_all
theorem kb {sgZ:aR} {g:Nat} {j:U} {h:Nat} {MI:U} (h1:sgZ g=j) (m:sgZ h=MI) :∃ s:aR,sgZ=bm (bm (s) g j) h MI:=⟨sgZ,by rw[cB h1,cB m]⟩
theorem gK {sgZ:aR} {g:Nat} {m:U} {h:Nat} {o:U} {j:Nat} {v3:U} (h1:sgZ g=m) (p:sgZ h=o) (q:sgZ j=v3) :∃ s:aR,sgZ=bm (bm (bm (s) g m) h o) j v3:=⟨sgZ,by rw[cB h1,cB p,cB q]⟩
theorem fc {sgZ:aR} {g:Nat} {o:U} {h:Nat} {p:U} {j:Nat} {q:U} {m:Nat} {v4:U} (h1:sgZ g=o) (t:sgZ h=p) (u:sgZ j=q) (v:sgZ m=v4) :∃ s:aR,sgZ=bm (bm (bm (bm (s) g o) h p) j q) m v4:=⟨sgZ,by rw[cB h1,cB t,cB u,cB v]⟩
theorem gx {sgZ:aR} {g:Nat} {p:U} {h:Nat} {q:U} {j:Nat} {t:U} {m:Nat} {u:U} {o:Nat} {v5:U} (h1:sgZ g=p) (v:sgZ h=q) (w:sgZ j=t) (z:sgZ m=u) (B:sgZ o=v5) :∃ s:aR,sgZ=bm (bm (bm (bm (bm (s) g p) h q) j t) m u) o v5:=⟨sgZ,by rw[cB h1,cB v,cB w,cB z,cB B]⟩
theorem rj {sgZ:aR} {g:Nat} {p:U} {h:Nat} {q:U} {j:Nat} {t:U} {m:Nat} {u:U} {o:Nat} {v:U} {i6:Nat} {nN:U} (h1:sgZ g=p) (w:sgZ h=q) (z:sgZ j=t) (B:sgZ m=u) (C:sgZ o=v) (D:sgZ i6=nN) :∃ s:aR,sgZ=bm (bm (bm (bm (bm (bm (s) g p) h q) j t) m u) o v) i6 nN:=⟨sgZ,by rw[cB h1,cB w,cB z,cB B,cB C,cB D]⟩
theorem Ar {sgZ:aR} {g:Nat} {q:U} {h:Nat} {t:U} {j:Nat} {u:U} {m:Nat} {v:U} {o:Nat} {w:U} {i6:Nat} {z:U} {p:Nat} {MJ:U} (h1:sgZ g=q) (B:sgZ h=t) (C:sgZ j=u) (D:sgZ m=v) (F:sgZ o=w) (G:sgZ i6=z) (H:sgZ p=MJ) :∃ s:aR,sgZ=bm (bm (bm (bm (bm (bm (bm (s) g q) h t) j u) m v) o w) i6 z) p MJ:=⟨sgZ,by rw[cB h1,cB B,cB C,cB D,cB F,cB G,cB H]⟩
theorem As {sgZ:aR} {g:Nat} {t:U} {h:Nat} {u:U} {j:Nat} {v:U} {m:Nat} {w:U} {o:Nat} {z:U} {i6:Nat} {B:U} {p:Nat} {C:U} {q:Nat} {MK:U} (h1:sgZ g=t) (D:sgZ h=u) (F:sgZ j=v) (G:sgZ m=w) (H:sgZ o=z) (I:sgZ i6=B) (J:sgZ p=C) (K:sgZ q=MK) :∃ s:aR,sgZ=bm (bm (bm (bm (bm (bm (bm (bm (s) g t) h u) j v) m w) o z) i6 B) p C) q MK:=⟨sgZ,by rw[cB h1,cB D,cB F,cB G,cB H,cB I,cB J,cB K]⟩
theorem ES {sgZ:aR} {g:Nat} {u:U} {h:Nat} {v:U} {j:Nat} {w:U} {m:Nat} {z:U} {o:Nat} {B:U} {i6:Nat} {C:U} {p:Nat} {D:U} {q:Nat} {F:U} {t:Nat} {v9:U} (h1:sgZ g=u) (G:sgZ h=v) (H:sgZ j=w) (I:sgZ m=z) (J:sgZ o=B) (K:sgZ i6=C) (O:sgZ p=D) (P:sgZ q=F) (Q:sgZ t=v9) :∃ s:aR,sgZ=bm (bm (bm (bm (bm (bm (bm (bm (bm (s) g u) h v) j w) m z) o B) i6 C) p D) q F) t v9:=⟨sgZ,by rw[cB h1,cB G,cB H,cB I,cB J,cB K,cB O,cB P,cB Q]⟩
theorem MD {sgZ:aR} {g:Nat} {v:U} {j:Nat} {w:U} {m:Nat} {z:U} {o:Nat} {B:U} {p:Nat} {C:U} {i6:Nat} {D:U} {q:Nat} {F:U} {t:Nat} {G:U} {u:Nat} {H:U} {h:Nat} {MF:U} (h1:sgZ g=v) (J:sgZ j=w) (K:sgZ m=z) (O:sgZ o=B) (P:sgZ p=C) (Q:sgZ i6=D) (R:sgZ q=F) (S:sgZ t=G) (T:sgZ u=H) (I:sgZ h=MF) :∃ s:aR,sgZ=bm (bm (bm (bm (bm (bm (bm (bm (bm (bm (s) g v) j w) m z) o B) p C) i6 D) q F) t G) u H) h MF:=⟨sgZ,by rw[cB h1,cB J,cB K,cB O,cB P,cB Q,cB R,cB S,cB T,cB I]⟩
theorem ME {sgZ:aR} {g:Nat} {w:U} {m:Nat} {B:U} {o:Nat} {C:U} {p:Nat} {D:U} {q:Nat} {F:U} {i6:Nat} {G:U} {t:Nat} {H:U} {u:Nat} {I:U} {v:Nat} {J:U} {h:Nat} {z:U} {j:Nat} {MG:U} (h1:sgZ g=w) (P:sgZ m=B) (Q:sgZ o=C) (R:sgZ p=D) (S:sgZ q=F) (T:sgZ i6=G) (V:sgZ t=H) (W:sgZ u=I) (X:sgZ v=J) (K:sgZ h=z) (O:sgZ j=MG) :∃ s:aR,sgZ=bm (bm (bm (bm (bm (bm (bm (bm (bm (bm (bm (s) g w) m B) o C) p D) q F) i6 G) t H) u I) v J) h z) j MG:=⟨sgZ,by rw[cB h1,cB P,cB Q,cB R,cB S,cB T,cB V,cB W,cB X,cB K,cB O]⟩
theorem YK {sgZ:aR} {g:Nat} {z:U} {o:Nat} {D:U} {p:Nat} {F:U} {q:Nat} {G:U} {t:Nat} {H:U} {i6:Nat} {I:U} {u:Nat} {J:U} {v:Nat} {K:U} {w:Nat} {O:U} {h:Nat} {B:U} {j:Nat} {C:U} {m:Nat} {MH:U} (h1:sgZ g=z) (S:sgZ o=D) (T:sgZ p=F) (V:sgZ q=G) (W:sgZ t=H) (X:sgZ i6=I) (Y:sgZ u=J) (Z:sgZ v=K) (ae:sgZ w=O) (P:sgZ h=B) (Q:sgZ j=C) (R:sgZ m=MH) :∃ s:aR,sgZ=bm (bm (bm (bm (bm (bm (bm (bm (bm (bm (bm (bm (s) g z) o D) p F) q G) t H) i6 I) u J) v K) w O) h B) j C) m MH:=⟨sgZ,by rw[cB h1,cB S,cB T,cB V,cB W,cB X,cB Y,cB Z,cB ae,cB P,cB Q,cB R]⟩
section
variable {alZ:Type}
@[simp] theorem oj (l:ae) (z:Nat) (enc:alZ->ag) (s:bL alZ) :cG l z (b4 z enc s)=some ((s.l.map enc).flatten,s.l.length):=by cases s<;>simp[b4,cG]
end
theorem uO {l:ae} {b:Nat} {c:am} (h:l[b]?=some c) :l.set b c=l:=by
 apply g5;intro j;rw[nT];by_cases g:b=j
 ·subst g;rw[aj rfl,aj (a2 h)];exact h.symm
 ·rw[ak g]
theorem OK {l:ae} {z by_ b:Nat} {es xs:List (ag)} {x:U} (g:l[b]?=some (.cells (es.length*z) es.flatten)) (j:cG l z x=some (xs.flatten,xs.length)) (m:∀ e∈es,e.length=z) (o:z≠0) (p:by_≠0)
  (h:(es.length+xs.length)*by_<=dk) :
  eE l z by_ (.ad z b 0 es.length es.length (es.length*z)) x=some (.ad z b 0 (es++xs).length (es++xs).length ((es++xs).length*z),l.set b (.cells ((es++xs).length*z) (es++xs).flatten)):=by
 unfold eE;rw[j];show ht l z by_ _ xs.flatten xs.length=_;unfold ht;cases xs with
 | nil=>simp[uO g]
 | cons y q=>
  rw[ak V,ak F];simp only[g];rw[aj ⟨trivial,trivial,h⟩,ak V,ak F,aj trivial,aL (by rw[r3 m];exact aI _)];simp only[cr,jL]
theorem F2 {l:ae} {z by_ b n m sz:Nat} {es xs:List (ag)} {x:U} (h:l[b]?=some (.cells sz es.flatten)) (u:cG l z x=some (xs.flatten,m)) (p:es.length=n) (o:xs.length=m) (t:sz=n*z) (v:∀ e∈es,e.length=z) (g:z≠0) (j:by_≠0)
  (q:(n+m)*by_<=dk) :
  eE l z by_ (.ad z b 0 n n sz) x=some (.ad z b 0 (n+m) (n+m) ((n+m)*z),l.set b (.cells ((n+m)*z) (es++xs).flatten)):=by subst p o t;rw[OK h u v g j q];simp only[cr]
theorem OJ {l:ae} {z by_:Nat} {xs:List (ag)} {x:U} (j:cG l z x=some (xs.flatten,xs.length)) (m:z≠0) (o:by_≠0) (g:xs≠[]) (h:xs.length*by_<=dk) :
  eE l z by_ .af x=some (.ad z l.length 0 xs.length xs.length (xs.length*z),l++[.cells (xs.length*z) xs.flatten]):=by unfold eE;rw[j];show ht l z by_ _ xs.flatten xs.length=_;unfold ht;rw[ak (by simp[g]),ak F];simp only;rw[aj h]
theorem cI {cs vs:ag} (h:vs.length=cs.length) :ax cs 0 vs=vs:=by simp only[ax,nb,iD,hr];rw[kh F,eT]
theorem Gn (len cap:Nat) (k:cV) (i:Int) :e6 len cap (some (.int k i)) none none=if 0<=i/\i<=len then some (i.toNat,len,cap) else none:=by
 unfold e6 gW;by_cases h:0<=i/\i<=len
 ·simp only[aj h]
 ·simp only[ak h]
theorem Bw (len cap:Nat) (k:cV) (i:Int) :e6 len cap none (some (.int k i)) none=if 0<=i/\i<=cap then some (0,i.toNat,cap) else none:=by
 unfold e6 gW;by_cases h:0<=i/\i<=cap
 ·simp only[aj h]
 ·simp only[ak h]
theorem O8 (len cap:Nat) (k k' : cV) (i j:Int) :e6 len cap (some (.int k i)) (some (.int k' j)) none=if 0<=i/\i<=j/\j<=cap then some (i.toNat,j.toNat,cap) else none:=by
 unfold e6 gW;by_cases h:0<=j/\j<=cap
 ·simp only[aj h];by_cases g:0<=i/\i<=((j.toNat:Nat) :Int)
  ·simp only[aj g];rw[aj F]
  ·simp only[ak g];rw[ak F]
 ·simp only[ak h];rw[ak F]
theorem LG {alZ:Type} {z:Nat} {enc:alZ->ag} {l:List alZ} {k:cV} {i:Int} (h1:0<=i) (g:i<=l.length) :dK (.ad z) (b4 z enc (some l)) (some (.int k i)) none none=some (b4 z enc (some (l.drop i.toNat))):=by have h:i.toNat<=l.length:=F;simp only[dK,b4,if_true,Gn,cx];rw[aj ⟨h1,g⟩];simp only[cz,bd,U.bn.injEq,true_and];rw[aL V,oZ]
theorem Eo {alZ:Type} {z:Nat} {enc:alZ->ag} {l:List alZ} {k:cV} {i:Int} (h1:0<=i) (g:i<=l.length) :dK (.ad z) (b4 z enc (some l)) none (some (.int k i)) none=some (b4 z enc (some (l.take i.toNat))):=by simp only[dK,b4,if_true,Bw,cx];rw[aj ⟨h1,g⟩];simp only[cz,bd,U.bn.injEq,true_and,lE,vi];rw[jh]
theorem Xy {alZ:Type} {z:Nat} {enc:alZ->ag} {l:List alZ} {k k' : cV} {i j:Int} (g:0<=i) (h1:i<=j) (h:j<=l.length) :dK (.ad z) (b4 z enc (some l)) (some (.int k i)) (some (.int k' j)) none=some (b4 z enc (some ((l.drop i.toNat).take (j.toNat - i.toNat)))):=by simp only[dK,b4,if_true,O8,cx];rw[aj ⟨g,h1,h⟩];simp only[cz,bd,U.bn.injEq,true_and];rw[jh,oZ]
end
section
variable {P:bj}
def L7 (P:bj) (t:aC) :Option (List aC):=match P.underlying t with
 | some (.struct g)=>some (g.toList.map (·.type))
 | _=>none
theorem sT {cs:ag} (h:c0 P [] cs) :cs=[]:=by cases h;rfl
theorem m4 {t:aC} {k:cV} {ts:List aC} {cs:ag} (m:P.underlying t=some (.int k)) (h:c0 P (t::ts) cs) :∃ n cs',cs=.int k n::cs'/\k.min<=n/\n<=k.max/\c0 P ts cs':=by
 cases h
 case int o n cs' h1 j g h=>
  rw[m] at g;cases g;exact⟨_,_,rfl,h1,j,h⟩
 all_goals (exfalso;simp_all;done)
theorem YA {t:aC} {ts:List aC} {cs:ag} (g:P.underlying t=some .bool) (h:c0 P (t::ts) cs) :∃ b cs',cs=.bool b::cs'/\c0 P ts cs':=by
 cases h
 case bool b cs' j h=>exact⟨_,_,rfl,h⟩
 all_goals (exfalso;simp_all;done)
theorem nL {t:aC} {fs ts:List aC} {cs:ag} (g:L7 P t=some fs) (h:c0 P (t::ts) cs) :c0 P (fs++ts) cs:=by
 unfold L7 at g;cases h
 case struct m j h=>rw[j] at g;cases g;exact h
 all_goals (exfalso;simp_all;done)
theorem Yz {t e:aC} {n:Nat} {ts:List aC} {cs:ag} (j:P.underlying t=some (.array n e)) (h:c0 P (t::ts) cs) :c0 P (List.replicate n e++ts) cs:=by
 cases h
 case array m o g h=>rw[j] at g;cases g;exact h
 all_goals (exfalso;simp_all;done)
theorem YE {t e:aC} {ts:List aC} {cs:ag} (p:P.underlying t=some (.slice e)) (h:c0 P (t::ts) cs) :
  ∃ cs',c0 P ts cs'/\(cs=.af::cs'\/∃ es,cs=.bn (P.cellsOf e) es::cs'/\es.length<=maxLen/\∀ r∈es,c0 P [e] r):=by
 cases h
 case af j cs' g h=>exact⟨_,h,.inl rfl⟩
 case ad j es cs' o q m g h=>rw[p] at g;cases g;exact⟨_,h,.inr ⟨es,rfl,o,m⟩⟩
 all_goals (exfalso;simp_all;done)
theorem K9 {alZ:Type} {enc:alZ->ag} {Q:alZ->Prop}:∀ (es:List (ag)),(∀ r∈es,∃ x,r=enc x/\Q x)->∃ xs:List alZ,es=xs.map enc/\∀ x∈xs,Q x
 | [],_=>⟨[],rfl,fun x g=>by cases g⟩
 | r::es,h=>by
  obtain⟨x,rfl,g⟩:=h r V;obtain⟨xs,rfl,o⟩:=K9 es (fun r m=>h r (by simp[m]));exact⟨x::xs,rfl,fun y j=>by
   rcases hZ.1 j with rfl | j
   ·exact g
   ·exact o y j⟩
theorem xw {alZ:Type} {t e:aC} {z:Nat} {enc:alZ->ag} {Q:alZ->Prop} {ts:List aC} {cs:ag} (q:P.underlying t=some (.slice e)) (w:P.cellsOf e=z) (j:∀ r,c0 P [e] r->∃ x,r=enc x/\Q x) (h:c0 P (t::ts) cs) :
  ∃ (s:bL alZ) (cs' : ag),cs=b4 z enc s::cs'/\s.l.length<=maxLen/\(∀ x∈s.l,Q x)/\c0 P ts cs':=by
 obtain⟨cs',h1,rfl | ⟨g,rfl,m,o⟩⟩:=YE q h
 ·exact⟨none,cs',rfl,ek _,fun x u=>(by cases u),h1⟩
 ·obtain⟨B,rfl,v⟩:=K9 (enc:=enc) (Q:=Q) g (fun r p=>j r (o r p));refine⟨some B,cs',?_,by simpa using m,v,h1⟩;rw[w];rfl
theorem Yx {t:aC} {c:U} (g:dC P t=some true) (h:o8 P t c) :∃ cs,c=.ah cs/\c0 P [t] cs:=by unfold o8 at h;rw[g] at h;exact h
theorem Mx {t:aC} {c:U} (g:dC P t=some false) (h:o8 P t c) :c0 P [t] [c]:=by unfold o8 at h;rw[g] at h;exact h
theorem EN {t:aC} {ts:List aC} {cs:ag} (h:i3 P (t::ts) cs) :∃ c cs',cs=c::cs'/\o8 P t c/\i3 P ts cs':=by
 cases h with
 | cons h1 g=>exact⟨_,_,rfl,h1,g⟩
theorem Yv {cs:ag} (h:i3 P [] cs) :cs=[]:=by cases h;rfl
end
end Go.bh
namespace Go.bh
open Go Go.ChangeShapes Go.RowKit
theorem Mo {m:Type} {enc:aC × aA->m} {P:bj} (q:laidOutB P=true) {W o:aQ} (p:Below W.heap.size W o) :∀ {ts:List aC} {vs:List aA} {g:List (DataW m)} {ps:List MemPlace},
  (∀ t∈ts,P.readableRec t=true/\t<P.types.size)->DataW.TrodAll enc P W 0 (fun _=>true) true ts vs g ps->DataW.TrodAll enc P o 0 (fun b=>decide (b<W.heap.size)) true ts vs g ps
 | [],vs,g,ps,_,h=>by
  obtain⟨rfl,rfl,rfl⟩:=trodAll_nil h;exact trodAll_mk0
 | t::ts,vs,g,ps,j,h=>by
  have v:=h.lt;obtain⟨C,D,d,B,a,b,rfl,rfl,rfl,h1,u⟩:=trodAll_cons h;exact⟨a,b,Below.trod q (j t V).1 (j t V).2 h1 p (fun x z=>v x (by simp[z])),Mo q p (fun t w=>j t (by simp[w])) u,rfl⟩
theorem SQ {P:bj} {G:Nat->U} (I:P.follows .mixedOrders=true) (w:∀ g,(G g).aw=true) {f:cf} {ts:List aC} (D:Nat) (K:∀ t∈ts,pP P D t=true) (F:laidOutB P=true)
  (O:∀ t∈ts,P.readableRec t=true/\t<P.types.size) (T:∀ cs,i3 P ts cs->fY P G f cs [] (c:=⟨fun r _=>r=.bool true⟩))
  {o:Type} {enc:aC × aA->o} {W:aQ} {u:Nat} {args:Array aA} {p:List (DataW o)} {ps:List MemPlace} (C:∀ g,dd W (fun _=>True) (G g) (.pointer (some ⟨g,0,none⟩)))
  (J:∀ (j:Nat) t v,ts[j]?=some t->args[j]?=some v->Value.okWide P W .any u t v) (h:DataW.TrodAll enc P W 0 (fun _=>true) true ts args.toList p ps) :
  Calls P f args W fun e w'=>e=.returned (.bool true)/\Below W.heap.size W w'/\DataW.TrodAll enc P w' 0 (fun b=>decide (b<W.heap.size)) true ts args.toList p ps:=by obtain⟨cs,R,H,S⟩:=F6 (A:=fun _=>True) (fun _=>trivial) K (fun j t v Q m=>J j t v Q (by simpa using m)) h;exact (SP I w (T cs R) C (by rw[H];simp) (fun j c v z m=>S j c v z (by simpa using m))).mono fun e w' ⟨B,q⟩=>⟨B,q,Mo F q O h⟩
end Go.bh
namespace Go.bh
open Go
section
variable (P:bj)
end
def F7 (x:U) :Option Int:=match x with
 | .int k i=>match k with | .i64=>some i | _=>none
 | _=>none
def im (z:Nat) (cs vs:ag) (i len:Nat) :ag:=cs.take (i*z)++vs++(cs.drop (i*z)).take ((len - i)*z)++cs.drop ((len+1)*z)
def Il (z by_:Nat) (h:aH) (s:U) (i:Nat) (bv:Nat) (vs:ag) :Option (U × aH):=match s with
 | .af=>if i=0/\by_<=dk then some (.ad z h.n 0 1 1 z,h.push (.cells z vs)) else none
 | .ad o b j len cap m=>match h.f b with
  | .cells g cs=>if g=cap*z/\m=cap*z/\o=z/\j=0/\bv≠b/\i<=len/\len<=cap/\(len+1)*by_<=dk then
    some (.ad z h.n 0 (len+1) (max cap (len+1)) (max cap (len+1)*z),(h.set b .dead).push (.cells (max cap (len+1)*z) (im z cs vs i len))) else none
  | _=>none
 | _=>none
def ub (z by_:Nat) (args:ag) (h:aH) :Option (U × aH):=match args with
 | [s,x,y]=>match F7 x,y with
  | some i,.ad u g p m j q=>match h.f g with
   | .cells o t=>if u=z/\p=0/\m=1/\j=1/\q=z/\o=z/\0<=i then Il z by_ h s i.toNat g t else none
   | _=>none
  | _,_=>none
 | _=>none
class FG (P:bj) (G:Nat->U) where
 get:cf->Option (Nat × Nat)
 ok:∀ f z by_,get f=some (z,by_)->∀ args h r h',ub z by_ args h=some (r,h')->jM P G f args h r h'
instance (priority:=10) j (P:bj) (G:Nat->U) :FG P G:=⟨fun _=>none,fun f m g h=>by cases h⟩
section
variable (P:bj) (G:Nat->U)
end
abbrev cR (t:Nat) :aW:=.tmp t
abbrev U.i6 (n:Int) :U:=.int .i64 n
abbrev am.q (sz:Nat) (cs:ag) :am:=.cells sz cs
def bT (n:Nat) (c:U) :ag:=List.replicate n c
abbrev j9 (i d x:Nat) :c8:=⟨i,some d,none,.fG (.ei (.tmp x)),[],false⟩
abbrev eK (i d:Nat) (m:dx) :c8:=⟨i,some d,none,.fG m,[],false⟩
abbrev xh (i:Nat) (m:dx) :c8:=⟨i,none,none,.fG m,[],false⟩
abbrev sc (i d:Nat) (f:cf) (args:List aW) :c8:=⟨i,some d,none,.k4 f args,[],false⟩
abbrev uP (i d j:Nat) (w:Bool) (m:dx) :c8:=⟨i,some d,some (some j,w),.fG m,[],false⟩
@[simp] theorem ac4 (n:Nat) (c:U) :(bT n c).length=n:=by simp[bT]
def u {w:Nat} (a:BitVec w) :Int:=(a.toNat:Int)
@[simp] theorem qS {w:Nat} (a:BitVec w) :BitVec.ofInt w (u a)=a:=by unfold u;rw[nR,E4,BitVec.setWidth_eq]
@[simp] theorem ka {w:Nat} (a b:BitVec w) :(u a=u b)<->a=b:=⟨fun h=>eO (by unfold u at h;exact Int.ofNat_inj.1 h),fun h=>by rw[h]⟩
@[simp] theorem adD {w:Nat} (a b:BitVec w) :(u a<u b)<->a<b:=by unfold u;rw[Int.ofNat_lt];rfl
@[simp] theorem adC {w:Nat} (a b:BitVec w) :(u a<=u b)<->a<=b:=by unfold u;rw[Int.ofNat_le];rfl
@[simp] theorem adE {w:Nat} (a:BitVec w) :0<=u a:=AL _
@[simp] theorem adF {w:Nat} (a:BitVec w) :(u a).toNat=a.toNat:=fA _
@[simp] theorem acO {w:Nat} (a b:Int) :BitVec.ofInt w (a - b)=BitVec.ofInt w a - BitVec.ofInt w b:=by rw[Int.sub_eq_add_neg,BitVec.ofInt_add,BitVec.ofInt_neg,BitVec.sub_eq_add_neg]
attribute [simp] BitVec.ofInt_add BitVec.ofInt_mul
theorem uy {w:Nat} (v:Nat) (a:BitVec w) :BitVec.ofInt v (u a)=a.setWidth v:=by unfold u;rw[nR,E4]
section
abbrev a8 (a:BitVec 8) :U:=.int .u8 (u a)
@[simp] theorem Zx (n:Int) :IntKind.u8.wrap n=u (BitVec.ofInt 8 n):=by
 have g:(2 ^ IntKind.u8.bits:Int)=256:=by decide
 have h:IntKind.u8.signed=false:=rfl;simp only[IntKind.wrap,g,h,ru,jJ,if_false,u,AI];have:(2 ^ 8:Nat)=256:=by decide
 rw[this];omega
theorem Z4 (a:BitVec 8) (k' : cV) (n:Nat) :ct .shl .u8 (u a) k' (n:Int)=some (.int .u8 (u (a <<< n))):=by
 have g:¬((n:Int)<0):=F;show (if (n:Int)<0 then none else some (U.int .u8 (IntKind.u8.wrap ((a.toNat:Int)*2 ^ min (n:Int).toNat 8))))=_;rw[ak g];congr 2;rw[Zx,fA];unfold u;congr 1;have:((a.toNat:Int)*2 ^ min n 8)=((a.toNat*2 ^ min n 8:Nat) :Int):=by rw[Int.natCast_mul,vb];rfl
 rw[this,nR,fe,s7,nY];rcases fN n 8 with h | h
 ·rw[iX (km h)]
 ·rw[vg h];have h1:a.toNat*2 ^ 8 % 2 ^ 8=0:=Fx _ _;obtain⟨j,rfl⟩:=Fv h;rw[h1,rD,Fw,Fy]
theorem Z7 (a:BitVec 8) (k' : cV) (n:Nat) :ct .shr .u8 (u a) k' (n:Int)=some (.int .u8 (u (a >>> n))):=by
 have g:¬((n:Int)<0):=F;show (if (n:Int)<0 then none else some (U.int .u8 ((a.toNat:Int).fdiv (2 ^ min (n:Int).toNat 8))))=_;rw[ak g];congr 2;rw[fA];unfold u;have:((2:Int) ^ min n 8)=((2 ^ min n 8:Nat) :Int):=by rw[vb];rfl
 rw[this,AK _ (AL _),<-E9,lD,hG];congr 1;rcases fN n 8 with h | h
 ·rw[iX (km h)]
 ·rw[vg h,qf a.isLt,qf (mq a.isLt (Fz F h))]
end
section
abbrev yu (a:BitVec 16) :U:=.int .u16 (u a)
end
section
abbrev a7 (a:BitVec 32) :U:=.int .u32 (u a)
@[simp] theorem u4 (n:Int) :IntKind.u32.wrap n=u (BitVec.ofInt 32 n):=by
 have g:(2 ^ IntKind.u32.bits:Int)=4294967296:=by decide
 have h:IntKind.u32.signed=false:=rfl;simp only[IntKind.wrap,g,h,ru,jJ,if_false,u,AI];have:(2 ^ 32:Nat)=4294967296:=by decide
 rw[this];omega
@[simp] theorem adJ (a:Int) :ri .xor (.int .u32 a)=some (.int .u32 (u (~~~(BitVec.ofInt 32 a)))):=by
 show some (U.int .u32 (IntKind.u32.wrap (u (BitVec.ofInt 32 (4294967295:Int) ^^^ BitVec.ofInt 32 a))))=_;rw[u4,qS];have:BitVec.ofInt 32 (4294967295:Int)=BitVec.allOnes 32:=by decide
 rw[this,BitVec.allOnes_xor]
theorem Pb (a:BitVec 32) (k' : cV) (n:Nat) :ct .shl .u32 (u a) k' (n:Int)=some (.int .u32 (u (a <<< n))):=by
 have g:¬((n:Int)<0):=F;show (if (n:Int)<0 then none else some (U.int .u32 (IntKind.u32.wrap ((a.toNat:Int)*2 ^ min (n:Int).toNat 32))))=_;rw[ak g];congr 2;rw[u4,fA];unfold u;congr 1;have:((a.toNat:Int)*2 ^ min n 32)=((a.toNat*2 ^ min n 32:Nat) :Int):=by rw[Int.natCast_mul,vb];rfl
 rw[this,nR,fe,s7,nY];rcases fN n 32 with h | h
 ·rw[iX (km h)]
 ·rw[vg h];have h1:a.toNat*2 ^ 32 % 2 ^ 32=0:=Fx _ _;obtain⟨j,rfl⟩:=Fv h;rw[h1,rD,Fw,Fy]
theorem Pc (a:BitVec 32) (k' : cV) (n:Nat) :ct .shr .u32 (u a) k' (n:Int)=some (.int .u32 (u (a >>> n))):=by
 have g:¬((n:Int)<0):=F;show (if (n:Int)<0 then none else some (U.int .u32 ((a.toNat:Int).fdiv (2 ^ min (n:Int).toNat 32))))=_;rw[ak g];congr 2;rw[fA];unfold u;have:((2:Int) ^ min n 32)=((2 ^ min n 32:Nat) :Int):=by rw[vb];rfl
 rw[this,AK _ (AL _),<-E9,lD,hG];congr 1;rcases fN n 32 with h | h
 ·rw[iX (km h)]
 ·rw[vg h,qf a.isLt,qf (mq a.isLt (Fz F h))]
@[simp] theorem Z2 (a:BitVec 32) (k' : cV) (n:Int) (h:0<=n) :ct .shl .u32 (u a) k' n=some (.int .u32 (u (a <<< n.toNat))):=by obtain⟨g,rfl⟩:=m8 h;exact Pb a k' g
@[simp] theorem Z5 (a:BitVec 32) (k' : cV) (n:Int) (h:0<=n) :ct .shr .u32 (u a) k' n=some (.int .u32 (u (a >>> n.toNat))):=by obtain⟨g,rfl⟩:=m8 h;exact Pc a k' g
@[simp] theorem O9 (a b:BitVec 32) (h:b≠0#32) :ct .rem .u32 (u a) .u32 (u b)=some (.int .u32 (u (a % b))):=by
 have g:(b.toNat:Int)≠0:=fun e=>h (eO (by simpa using e))
 show (if IntKind.u32=IntKind.u32/\(b.toNat:Int)≠0 then some (U.int .u32 ((a.toNat:Int).tmod b.toNat)) else none)=_;rw[aj ⟨rfl,g⟩];unfold u;rw[kg];rfl
@[simp] theorem Z9 (a b:Int) :ct .xor .u32 a .u32 b=some (.int .u32 (u (BitVec.ofInt 32 a ^^^ BitVec.ofInt 32 b))):=by show some (U.int .u32 (IntKind.u32.wrap (u (BitVec.ofInt 32 a ^^^ BitVec.ofInt 32 b))))=_;rw[u4,qS]
@[simp] theorem Z0 (a b:Int) :ct .or .u32 a .u32 b=some (.int .u32 (u (BitVec.ofInt 32 a ||| BitVec.ofInt 32 b))):=by show some (U.int .u32 (IntKind.u32.wrap (u (BitVec.ofInt 32 a ||| BitVec.ofInt 32 b))))=_;rw[u4,qS]
@[simp] theorem ZN (a b:Int) :ct .and .u32 a .u32 b=some (.int .u32 (u (BitVec.ofInt 32 a &&& BitVec.ofInt 32 b))):=by show some (U.int .u32 (IntKind.u32.wrap (u (BitVec.ofInt 32 a &&& BitVec.ofInt 32 b))))=_;rw[u4,qS]
end
section
abbrev c1 (a:BitVec 64) :U:=.int .u64 (u a)
@[simp] theorem u5 (n:Int) :IntKind.u64.wrap n=u (BitVec.ofInt 64 n):=by
 have g:(2 ^ IntKind.u64.bits:Int)=18446744073709551616:=by decide
 have h:IntKind.u64.signed=false:=rfl;simp only[IntKind.wrap,g,h,ru,jJ,if_false,u,AI];have:(2 ^ 64:Nat)=18446744073709551616:=by decide
 rw[this];omega
theorem Gq (a:BitVec 64) (k' : cV) (n:Nat) :ct .shl .u64 (u a) k' (n:Int)=some (.int .u64 (u (a <<< n))):=by
 have g:¬((n:Int)<0):=F;show (if (n:Int)<0 then none else some (U.int .u64 (IntKind.u64.wrap ((a.toNat:Int)*2 ^ min (n:Int).toNat 64))))=_;rw[ak g];congr 2;rw[u5,fA];unfold u;congr 1;have:((a.toNat:Int)*2 ^ min n 64)=((a.toNat*2 ^ min n 64:Nat) :Int):=by rw[Int.natCast_mul,vb];rfl
 rw[this,nR,fe,s7,nY];rcases fN n 64 with h | h
 ·rw[iX (km h)]
 ·rw[vg h];have h1:a.toNat*2 ^ 64 % 2 ^ 64=0:=Fx _ _;obtain⟨j,rfl⟩:=Fv h;rw[h1,rD,Fw,Fy]
theorem qw (a:BitVec 64) (k' : cV) (n:Nat) :ct .shr .u64 (u a) k' (n:Int)=some (.int .u64 (u (a >>> n))):=by
 have g:¬((n:Int)<0):=F;show (if (n:Int)<0 then none else some (U.int .u64 ((a.toNat:Int).fdiv (2 ^ min (n:Int).toNat 64))))=_;rw[ak g];congr 2;rw[fA];unfold u;have:((2:Int) ^ min n 64)=((2 ^ min n 64:Nat) :Int):=by rw[vb];rfl
 rw[this,AK _ (AL _),<-E9,lD,hG];congr 1;rcases fN n 64 with h | h
 ·rw[iX (km h)]
 ·rw[vg h,qf a.isLt,qf (mq a.isLt (Fz F h))]
@[simp] theorem Z3 (a:BitVec 64) (k' : cV) (n:Int) (h:0<=n) :ct .shl .u64 (u a) k' n=some (.int .u64 (u (a <<< n.toNat))):=by obtain⟨g,rfl⟩:=m8 h;exact Gq a k' g
@[simp] theorem Z6 (a:BitVec 64) (k' : cV) (n:Int) (h:0<=n) :ct .shr .u64 (u a) k' n=some (.int .u64 (u (a >>> n.toNat))):=by obtain⟨g,rfl⟩:=m8 h;exact qw a k' g
@[simp] theorem rP (a b:BitVec 64) (h:b≠0#64) :ct .rem .u64 (u a) .u64 (u b)=some (.int .u64 (u (a % b))):=by
 have g:(b.toNat:Int)≠0:=fun e=>h (eO (by simpa using e))
 show (if IntKind.u64=IntKind.u64/\(b.toNat:Int)≠0 then some (U.int .u64 ((a.toNat:Int).tmod b.toNat)) else none)=_;rw[aj ⟨rfl,g⟩];unfold u;rw[kg];rfl
@[simp] theorem aac (a b:Int) :ct .xor .u64 a .u64 b=some (.int .u64 (u (BitVec.ofInt 64 a ^^^ BitVec.ofInt 64 b))):=by show some (U.int .u64 (IntKind.u64.wrap (u (BitVec.ofInt 64 a ^^^ BitVec.ofInt 64 b))))=_;rw[u5,qS]
@[simp] theorem Z1 (a b:Int) :ct .or .u64 a .u64 b=some (.int .u64 (u (BitVec.ofInt 64 a ||| BitVec.ofInt 64 b))):=by show some (U.int .u64 (IntKind.u64.wrap (u (BitVec.ofInt 64 a ||| BitVec.ofInt 64 b))))=_;rw[u5,qS]
@[simp] theorem Gd (a b:Int) :ct .and .u64 a .u64 b=some (.int .u64 (u (BitVec.ofInt 64 a &&& BitVec.ofInt 64 b))):=by show some (U.int .u64 (IntKind.u64.wrap (u (BitVec.ofInt 64 a &&& BitVec.ofInt 64 b))))=_;rw[u5,qS]
end
@[simp] theorem aav (a:BitVec 8) :BitVec.ofInt 32 (u a)=a.setWidth 32:=uy 32 a
@[simp] theorem aaw (a:BitVec 8) :BitVec.ofInt 64 (u a)=a.setWidth 64:=uy 64 a
@[simp] theorem aas (a:BitVec 32) :BitVec.ofInt 8 (u a)=a.setWidth 8:=uy 8 a
@[simp] theorem aar (a:BitVec 32) :BitVec.ofInt 64 (u a)=a.setWidth 64:=uy 64 a
@[simp] theorem aau (a:BitVec 64) :BitVec.ofInt 8 (u a)=a.setWidth 8:=uy 8 a
@[simp] theorem aat (a:BitVec 64) :BitVec.ofInt 32 (u a)=a.setWidth 32:=uy 32 a
@[simp] theorem adG {w:Nat}:u (0#w)=0:=by simp[u]
theorem Bx (k:Nat) (c:Int) (j:0<c) (hk:k<9223372036854775808) :ct .quo .i64 (k:Int) .i64 c=some (.int .i64 ((k / c.toNat:Nat) :Int)):=by obtain⟨g,rfl⟩:=m8 (Int.le_of_lt j);have m:(g:Int)≠0:=F;show (if IntKind.i64=IntKind.i64/\(g:Int)≠0 then some (U.int .i64 (IntKind.i64.wrap ((k:Int).tdiv g))) else none)=_;rw[aj ⟨rfl,m⟩,fA];have:((k:Int).tdiv g)=((k / g:Nat) :Int):=rfl;have h:=Ft k g;rw[this];generalize k / g=q at h;rw[wrap_i64 F F]
theorem tG (k:Nat) (c:Int) (h:0<c) :ct .rem .i64 (k:Int) .i64 c=some (.int .i64 ((k % c.toNat:Nat) :Int)):=by obtain⟨g,rfl⟩:=m8 (Int.le_of_lt h);have j:(g:Int)≠0:=F;show (if IntKind.i64=IntKind.i64/\(g:Int)≠0 then some (U.int .i64 ((k:Int).tmod g)) else none)=_;rw[aj ⟨rfl,j⟩,fA];rfl
theorem KT (k:cV) (w n:Nat) :bT n (.int k 0)=(List.replicate n (0#w)).map fun x=>.int k (u x):=by simp[bT]
theorem mc {alZ:Type} (f:alZ->U) (l:List alZ) (i:Nat) (x:alZ) (h:i<l.length) :ax (l.map f) i [f x]=(l.set i x).map f:=by unfold ax;rw[rA,aj h];simp
theorem mb {cs vs:ag} (h:vs.length=cs.length) :ax cs 0 vs=vs:=by unfold ax;rw[hr,nb,iD,h,Fc,eT]
theorem aT {l:ae} {c c' : U} (h:c=c') (g:c'.aw=true) :Rd l c c':=by subst h;exact .same _ g
theorem aE {l:ae} {c c' : U} (h:c=c':=by exact rfl) (g:c'.aw=true:=by exact rfl) :Rd l c c':=aT h g
theorem ao {alZ:Sort _} (a:alZ) :∃ x,x=a:=⟨a,rfl⟩
theorem cq {k:Nat} (h:k<4611686018427387904) :IntKind.i64.wrap ((k:Int)+1)=((k+1:Nat) :Int):=by rw[IntKind.wrap_i64];omega
theorem tX {alZ:Type} {z:Nat}:∀ (es:List (List alZ)),(∀ e∈es,e.length=z)->∀ (i j:Nat) (e:List alZ) (c:alZ),es[i]?=some e->e[j]?=some c->es.flatten[i*z+j]?=some c:=by
 intro es o
 induction es with
 | nil=>intro i j e c g;simp at g
 | cons x es p=>
  intro i j e c g h;have m:x.length=z:=o x V;cases i with
  | zero=>
   simp only[ho,bd] at g;subst g;rw[g6,tl,hr,aV (aK.1 h).1];exact h
  | succ i=>
   simp only[jg] at g;rw[g6,et (by rw[m,eu];omega),m,show (i+1)*z+j - z=i*z+j by rw[eu];omega];exact p (fun e g=>o e (by simp[g])) i j e c g h
inductive o6 (l:ae) :ag->ag->Prop
 | nil:o6 l [] []
 | cons {c g cs h}:fw (aX l) c g->o6 l cs h->o6 l (c::cs) (g::h)
theorem o6.len {l:ae}:∀ {a b:ag},o6 l a b->b.length=a.length
 | _,_,.nil=>rfl
 | _,_,.cons _ h=>by simp[h.len]
theorem o6.get {l:ae}:∀ {a b:ag},o6 l a b->∀ (j:Nat) (c c' : U),a[j]?=some c->b[j]?=some c'->fw (aX l) c c'
 | _,_,.nil,j,c,c',h,_=>by simp at h
 | _,_,.cons h1 g,j,c,c',h,h'=>by
  cases j with
  | zero=>simp at h h';subst h h';exact h1
  | succ j=>exact g.get j c c' (by simpa using h) (by simpa using h')
theorem hg {P:bj} {G:Nat->U} {f:cf} {args g:ag} {r:U} {l:ae} {K:U->ae->Prop} (o:ii P G f g r) (j:o6 l args g) (m:r.flat=true) (h:K r l) :fY P G f args l (c:=⟨K⟩):=
 ⟨r,l,.Kg o j.len j.get m,aI _,h⟩
theorem Ki {P:bj} {G:Nat->U} {f:cf} {args g:ag} {r:U} {l:ae} {K:U->ae->Prop} (m:nh P G f g r) (j:o6 l args g) (h:K r l) :fY P G f args l (c:=⟨K⟩):=
 ⟨r,l,.Kh m j.len j.get,aI _,h⟩
inductive jk (l:ae) :U->U->Prop
 | flat (c:U) (h:c.flat=true) :jk l c c
 | ah (cs o:ag) (u:o.length=cs.length) (h:∀ (m:Nat) (c j:U),cs[m]?=some c->o[m]?=some j->jk l c j) :jk l (.ah cs) (.ah o)
 | a1 (cs o:ag) (u:o.length=cs.length) (h:∀ (m:Nat) (c j:U),cs[m]?=some c->o[m]?=some j->jk l c j) :jk l (.a1 cs) (.a1 o)
 | ad (g b p len cap t:Nat) (cs:ag) (q:List (ag)) (v:l[b]?=some (.cells t cs)) (u:q.length=len) (z:∀ e∈q,e.length=g)
   (w:p+len*g<=cs.length)
   (h:∀ (i m:Nat) (e:ag) (c j:U),q[i]?=some e->e[m]?=some j->cs[p+(i*g+m)]?=some c->jk l c j) :jk l (.ad g b p len cap t) (.bn g q)
 | sK (g b p cap t:Nat) :jk l (.ad g b p 0 cap t) (.bn g [])
 | eN (g:Nat) :jk l (.bn g []) (.bn g [])
theorem Wg {w:aQ} {R:Nat->Prop} {B:Nat} {l:ae} {muZ:bZ} (rel:bw R B w (aX l) muZ) :∀ {c c' : U},jk l c c'->∀ {v:aA},az w R (aX l) muZ c v->dd w (fun k=>B<=k) c' v:=by
 intro c c' au
 induction au with
 | flat c h=>intro v j;exact HI j h
 | ah cs Q q h K=>
  intro v j;cases j with
  | ah _ W aq h1 j=>
   refine .ah Q W F h1 (fun g c' v o V=>?_);have t:g<cs.length:=by rw[<-q];exact (aK.1 o).1
   exact K g cs[g] c' (bI t) o (j g cs[g] v (bI t) V)
 | a1 cs Q q h K=>
  intro v j;cases j with
  | a1 _ W aq j=>
   refine .a1 Q W F (fun g c' v o V=>?_);have t:g<cs.length:=by rw[<-q];exact (aK.1 o).1
   exact K g cs[g] c' (bI t) o (j g cs[g] v (bI t) V)
 | sK z b C cap aj=>
  intro v j;cases j with
  | ad _ _ _ _ _ _ cap' cs m S P q ar O=>exact .eN z _ cap'
  | fk _ _ _ _ _ _ cap' a q O u=>exact .eN z _ cap'
  | gw _ _ _ _ a cs m S P=>exact .eN z a 0
 | eN z=>
  intro v j;generalize I:([] :List (ag))=D at j;generalize al:U.bn z D=aw at j;cases j<;>cases al
  ·subst I;exact .eN z _ _
  ·exact .eN z _ _
 | ad z b C len cap aj cs D S q ai aE h K=>
  intro v j;have H:(aX l).f b=.cells aj cs:=hI.2 S;cases j with
  | gw _ _ _ _ a X m T aG=>
   obtain rfl:=ic.1 q;exact .eN z a 0
  | fk _ _ _ _ _ _ cap' a q O u=>
   exfalso;rcases u with u | ⟨n,X,u,t⟩
   ·rw[H] at u;cases u
   ·rw[H] at u;cases u;omega
  | ad _ _ _ _ _ _ cap' X m T P aF ar O=>
   rw[H] at T;cases T;have hblk:=rel.blk b m P;rw[H] at hblk;obtain⟨aC,ay,arr,aH,ax,av,aB,aD,ao⟩:=hblk;have am:len<=cap':=by rcases O with ⟨_,h⟩ | ⟨_,h,_⟩<;>omega
   have ak:B<=m.r:=rel.base b m (by rw[H];rfl) P;subst q;have Z:∀ i g,i<D.length->g<z->∃ c v,cs[C+(i*z+g)]?=some c/\arr[m.s+(C+(i*z+g))]?=some v/\v.oneCell'=true/\az w R (aX l) muZ c v:=by
    intro i g J o;have t:C+(i*z+g)<cs.length:=by
     have:i*z+z<=D.length*z:=by rw[<-eu];exact cn _ J
     omega
    obtain⟨v,h1,p,G⟩:=ao _ _ (bI t);exact⟨_,v,bI t,h1,p,G⟩
   refine .bn z D m.r (m.s+C) cap' (fun i g=>(arr[m.s+(C+(i*z+g))]?).getD undef) am ai (fun i g J o=>?_) (fun i e I g c' o=>?_)
   ·obtain⟨c,v,h1,p,G,Y⟩:=Z i g J o;refine⟨?_,?_,ak,fun ⟨b,m,h1,p,G⟩=>by cases p⟩
    ·simp only[World.cell?,av,p,g8,rE];rw[show m.s+C+(i*z+g)=m.s+(C+(i*z+g)) by omega,p];rfl
    ·rw[p];exact G
   ·have J:i<D.length:=(aK.1 I).1;have ap:g<z:=by rw[<-ai e (cE I)];exact (aK.1 o).1
    obtain⟨c,v,h1,p,G,Y⟩:=Z i g J ap;simp only[p,g8];exact K i g e c c' I o h1 Y
theorem w3 {P:bj} {G:Nat->U} (u:P.follows .mixedOrders=true) (o:∀ g,(G g).aw=true) {f:cf} {args:ag} {r:U} (h:fY P G f args [] (c:=⟨fun j l=>jk l j r⟩)) :nh P G f args r:=by obtain⟨j,D,h1,C,m⟩:=h;intro w A F q t z;refine (EL (A:=A) u o h1 q t z).mono ?_;rintro e w' ⟨B,muZ',rfl,p,rel,v⟩;exact⟨B,rfl,p,Wg rel m v⟩
theorem KK {l:ae} {z b n cap sz:Nat} {es:List (ag)} {rest:ag} (t:l[b]?=some (.cells sz (es.flatten++rest))) (q:es.length=n) (j:∀ e∈es,e.length=z) (u:∀ e∈es,ky e=true) :jk l (.ad z b 0 n cap sz) (.bn z es):=by
 have p:=hO (z:=z) (es:=es) (fun e g=>j e g);refine .ad z b 0 n cap sz _ es t q j (by rw[cr,p,q];omega) (fun i h e c c' g m o=>?_);have v:i<es.length:=(aK.1 g).1;have B:h<z:=by rw[<-j e (cE g)];exact (aK.1 m).1
 have w:i*z+h<es.flatten.length:=by
  rw[p];have:i*z+z<=es.length*z:=by rw[<-eu];exact cn _ v
  omega
 have h1:es.flatten[i*z+h]?=some c':=tX es j i h e c' g m;rw[hr,aV w,h1] at o;cases o;exact .flat _ (yE (u e (cE g)) h _ m)
theorem KH {l:ae} {c:U} (h:c.aw=true) :fw (aX l) c c:=.same c h
@[simp] theorem aa9 (n z:Nat) (cs:ag) (k:cV) (i:Int) :yW n z (.ah cs) (.int k i)=if 0<=i/\i<n then cs[i.toNat*z]? else none:=id rfl
@[simp] theorem ug (s:List UInt8) (k:cV) (i:Int) :ud (.str s) (.int k i)=if 0<=i then (s[i.toNat]?).map hu else none:=id rfl
theorem Xi {alZ:Type} {l:List alZ} {i:Nat} {x:alZ} (h:l[i]?=some x) :l.set i x=l:=by obtain⟨g,rfl⟩:=aK.1 h;exact AY g
theorem jo {alZ:Type} (f:alZ->U) (g:∀ x,(f x).aw=true) :∀ l:List alZ,aq (l.map f)=true
 | []=>rfl
 | x::l=>by simp only[df,aq,g,jo f g l,kU]
theorem GO {alZ:Type} (f:alZ->U) (g:∀ x,(f x).aw=true) (l:List alZ) :(U.ah (l.map f)).aw=true:=by simp only[U.aw];exact jo f g l
theorem tW {alZ:Type} (f:alZ->U) (g:∀ x,(f x).flat=true) :∀ l:List alZ,ky (l.map f)=true
 | []=>rfl
 | x::l=>by simp only[df,ky,g,tW f g l,kU]
theorem HG {alZ:Type} (f:alZ->U) (g:∀ x,(f x).flat=true) (l:List alZ) :(U.ah (l.map f)).flat=true:=by simp only[U.flat];exact tW f g l
@[simp] theorem aad (z:Nat) :rQ (.ad z) .af=some (.int .i64 0):=id rfl
@[simp] theorem adt (z:Nat) (k:cV) :dK (.ad z) .af none (some (.int k 0)) none=some .af:=id rfl
theorem sL (z b off len cap sz:Nat) (h g j:Option U) :dK (.ad z) (.ad z b off len cap sz) h g j=(e6 len cap h g j).map fun (l,o,m)=>if m=l then .ad z b (off+l*z) 0 0 sz else .ad z b (off+l*z) (o - l) (m - l) sz:=by simp[dK]
theorem zt {alZ:Type} {l:List alZ} {a:alZ} (h:l[0]?=some a) :∃ r,l=a::r:=by
 cases l with
 | nil=>simp at h
 | cons x l=>simp at h;subst h;exact⟨l,rfl⟩
theorem Ys {alZ:Type} {l:List alZ} {b:alZ} (h:l[1]?=some b) :∃ a r,l=a::b::r:=by
 cases l with
 | nil=>simp at h
 | cons x l=>obtain⟨r,rfl⟩:=zt (l:=l) (by simpa using h);exact⟨x,r,rfl⟩
theorem uJ (zero:ag) (n:Nat) :(cD zero n).length=n*zero.length:=by
 induction n with
 | zero=>simp[cD]
 | succ n g=>simp[cD,g,eu,rB]
theorem w9 (zero:ag) (n:Nat) :cD zero n=(List.replicate n zero).flatten:=by
 induction n with
 | zero=>rfl
 | succ n g=>rw[cD,g,kk,g6]
inductive aM (z:Nat) (l:ae) :U->Nat->List (ag)->Prop
 | nil (g:Nat) :aM z l .af g []
 | ad (g n cap j:Nat) (cs:ag) (h:List (ag)) (m:l[g]?=some (.cells j cs)) (t:cs.length=j) (u:h.length=n) (v:∀ e∈h,e.length=z) (o:n<=cap) (p:cap*z<=j)
   (q:cs.take (n*z)=h.flatten) :aM z l (.ad z g 0 n cap j) g h
def bt:U->Bool | .af=>true | _=>false
theorem gC {v:U}:bt v=true<->v=.af:=by cases v<;>simp[bt]
theorem qL {alZ:Type} {v g:U} {xs:List alZ} (h:g=.af<->v=.af/\xs=[]) :bt g=(bt v&&xs.isEmpty):=by rw[xL,gC,h,bH,gC,xR]
def pU (z:Nat) (v:U) (es:List (ag)) :U:=match bt v with | true=>.af | false=>.bn z es
section
variable {z:Nat} {l l' : ae} {v:U} {j:Nat} {es:List (ag)}
theorem aM.lt (h:aM z l v j es) :v=.af\/j<l.length:=by
 cases h with
 | nil j=>exact .inl rfl
 | ad j n cap m cs es g=>exact .inr (a2 g)
theorem aM.row (h:aM z l v j es) :∀ e∈es,e.length=z:=by
 cases h with
 | nil j=>intro e g;cases g
 | ad j n cap t cs es o p q m=>exact m
theorem aM.cells (h:aM z l v j es) :v.cells=some [v]:=by cases h<;>rfl
theorem aM.len (h:aM z l v j es) :bx (.ad z) v=some (.int .i64 es.length):=by
 cases h with
 | nil j=>rfl
 | ad j n cap p cs es m o g=>subst g;rfl
theorem aM.frame (h:aM z l v j es) (q:j<l.length->l'[j]?=l[j]?) :aM z l' v j es:=by
 cases h with
 | nil j=>exact .nil j
 | ad j n cap B cs es g t u w m o p=>exact .ad j n cap B cs es (by rw[q (a2 g)];exact g) t u w m o p
theorem aM.c6 (h:aM z l v j es) (g:v=.af\/l'[j]?=l[j]?) :aM z l' v j es:=by
 cases h with
 | nil j=>exact .nil j
 | ad j n cap B cs es m t u w o p q=>
  rcases g with g | g
  ·cases g
  ·exact .ad j n cap B cs es (by rw[g];exact m) t u w o p q
theorem aM.more (h:aM z l v j es) (x:ae) :aM z (l++x) v j es:=h.frame fun g=>aV g
theorem aM.contents (h:aM z l v j es) :cG l z v=some (es.flatten,es.length):=by
 cases h with
 | nil j=>rfl
 | ad j n cap w cs es g t o u p q m=>subst o;simp only[cG,g,and_self,if_true,lE,m]
theorem aM.KJ (h:aM z l v j es) (o:∀ e∈es,ky e=true) :jk l v (pU z v es):=by
 cases h with
 | nil j=>exact .flat _ rfl
 | ad j n cap B cs es g w p q t u m=>
  show jk l _ (.bn z es);refine KK (rest:=cs.drop (n*z)) ?_ p q o;rw[g,<-m,iV]
theorem aM.mV (h:aM z l v j es) (B:∀ e∈es,aq e=true) :fw (aX l) v (pU z v es):=by
 cases h with
 | nil j=>exact .same _ rfl
 | ad j n cap H cs es q D p m t u w=>
  show fw (aX l) _ (.bn z es);have J:n*z<=cs.length:=by rw[D];exact dL (cn _ t) u
  refine .ad z j 0 n cap H cs es (hI.2 q) p m F (fun i k e c c' g hk o=>?_);have C:i<es.length:=(aK.1 g).1;have I:k<z:=by rw[<-m e (cE g)];exact (aK.1 hk).1
  have G:i*z+k<n*z:=by
   have:i*z+z<=es.length*z:=by rw[<-eu];exact cn _ C
   rw[p] at this;omega
  have h1:es.flatten[i*z+k]?=some c':=tX es m i k e c' g hk;rw[<-w,dU G] at h1;rw[hr,h1] at o;cases o;exact .same _ (rS (B e (cE g)) k _ hk)
theorem zM {l:ae} {z b n cap sz:Nat} {es:List (ag)} {rest:ag} (t:l[b]?=some (.cells sz (es.flatten++rest))) (q:es.length=n) (h:∀ e∈es,e.length=z) (u:∀ e∈es,aq e=true) :fw (aX l) (.ad z b 0 n cap sz) (.bn z es):=by
 have p:=hO (z:=z) (es:=es) (fun e g=>h e g);refine .ad z b 0 n cap sz _ es (hI.2 t) q h (by rw[cr,p,q];omega) (fun i j e c c' g m o=>?_);have v:i<es.length:=(aK.1 g).1;have B:j<z:=by rw[<-h e (cE g)];exact (aK.1 m).1
 have w:i*z+j<es.flatten.length:=by
  rw[p];have:i*z+z<=es.length*z:=by rw[<-eu];exact cn _ v
  omega
 have h1:es.flatten[i*z+j]?=some c':=tX es h i j e c' g m;rw[hr,aV w,h1] at o;cases o;exact .same _ (rS (u e (cE g)) j _ m)
theorem FZ (h:aM z l v j es) {by_ m:Nat} {xs:List (ag)} (t:xs.length=m) (Q:∀ e∈xs,e.length=z) (ae:z≠0) (ai:by_≠0) (P:(es.length+m)*by_<=dk) :
  ∃ J I l',ht l z by_ v xs.flatten m=some (J,l')/\aM z l' J I (es++xs)/\l.length<=l'.length/\(∀ b,b<l.length->b≠j->l'[b]?=l[b]?)/\(I=j\/l.length<=I)/\(J=.af<->v=.af/\xs=[]):=by
 by_cases u:m=0
 ·have H:xs=[]:=ic.1 F;subst H;refine⟨v,j,l,?_,by simpa using h,aI _,fun _ _ _=>rfl,.inl rfl,V⟩;unfold ht;rw[aj u];cases h<;>rfl
 have g:xs.flatten.length=m*z:=by rw[hO Q,t]
 have w:∀ e∈es++xs,e.length=z:=fun e U=>by
  rcases fm.1 U with h1 | h1
  ·exact h.row e h1
  ·exact Q e h1
 have Y:xs≠[]:=fun H=>u (by rw[<-t,H];rfl)
 cases h with
 | nil j=>
  refine⟨.ad z l.length 0 m m (m*z),l.length,l++[.cells (m*z) xs.flatten],?_,?_,V,fun b q _=>aV q,.inr (aI _),by simp[Y]⟩
  ·unfold ht;rw[ak u,ak F];simp only;rw[aj (by simpa using P)]
  ·refine .ad _ _ _ _ xs.flatten _ V g (by simpa using t) w (aI _) (aI _) ?_;rw[aL F];rfl
 | ad j n cap p cs es q al X Z S T K=>
  subst X;have am:es.length*z<=cap*z:=cn _ S;have G:(es++xs).length=es.length+m:=by simp[t]
  have D:(es++xs).flatten=es.flatten++xs.flatten:=V;have o:es.flatten.length=es.length*z:=hO Z;have R:ht l z by_ (.ad z j 0 es.length cap p) xs.flatten m =
    if es.length+m<=cap then some (.ad z j 0 (es.length+m) cap p,l.set j (.cells p (ax cs (es.length*z) xs.flatten)))
    else if cap*z<p then some (.ad z l.length 0 (es.length+m) (es.length+m) ((es.length+m)*z),l++[.cells ((es.length+m)*z) (es.flatten++xs.flatten)])
    else some (.ad z j 0 (es.length+m) (es.length+m) ((es.length+m)*z),l.set j (.cells ((es.length+m)*z) (es.flatten++xs.flatten))):=by
   unfold ht;rw[ak u,ak F];simp only[q];rw[aj ⟨trivial,trivial,P⟩];simp only[hr,lE,K,if_true]
  rw[R];have O:=a2 q;split
  ·rename_i h1;have W:(es.length+m)*z<=cap*z:=cn _ h1;rw[eV] at W;refine⟨_,j,_,rfl,?_,V,fun b B C=>by rw[br (fun e=>C e.symm)],.inl rfl,V⟩;refine .ad j _ cap p (ax cs (es.length*z) xs.flatten) _ (by rw[b1 O]) ?_ G w h1 T ?_
   ·rw[oQ F];omega
   ·rw[D];unfold ax;rw[K,ig (by simp[o,g,eV]),aL (by simp[o,g,eV])]
  ·split
   ·refine⟨_,l.length,_,rfl,?_,V,fun b B _=>aV B,.inr (aI _),V⟩;refine .ad _ _ _ _ (es.flatten++xs.flatten) _ V (by simp[o,g,eV]) G w (aI _) (aI _) ?_;rw[D,aL (by simp[o,g,eV])]
   ·refine⟨_,j,_,rfl,?_,V,fun b B C=>by rw[br (fun e=>C e.symm)],.inl rfl,V⟩;refine .ad j _ _ _ (es.flatten++xs.flatten) _ (by rw[b1 O]) (by simp[o,g,eV]) G w (aI _) (aI _) ?_;rw[D,aL (by simp[o,g,eV])]
theorem lM (h:aM z l v j es) {by_:Nat} {x:U} {xs:List (ag)} (t:cG l z x=some (xs.flatten,xs.length)) (u:∀ e∈xs,e.length=z) (o:z≠0) (p:by_≠0) (q:(es.length+xs.length)*by_<=dk) :
  ∃ m g l',eE l z by_ v x=some (m,l')/\aM z l' m g (es++xs)/\l.length<=l'.length/\(∀ b,b<l.length->b≠j->l'[b]?=l[b]?)/\(g=j\/l.length<=g)/\(m=.af<->v=.af/\xs=[]):=by unfold eE;rw[t];exact FZ h rfl u o p q
theorem OI (h:aM z l v j es) {by_ n:Nat} {k:cV} {zero:ag} (B:zero.length=z) (q:z≠0) (u:by_≠0) (C:n<9223372036854775808) (p:(es.length+n)*by_<=dk) :
  ∃ o g l',n5 l z by_ zero v (.int k (n:Int))=some (o,l')/\aM z l' o g (es++List.replicate n zero)/\l.length<=l'.length/\(∀ b,b<l.length->b≠j->l'[b]?=l[b]?)/\(g=j\/l.length<=g)/\(o=.af<->v=.af/\n=0):=by have:=FZ h (xs:=List.replicate n zero) (m:=n) V (fun e w=>by rw[(List.mem_replicate.1 w).2,B]) q u p;obtain⟨o,g,l',h1,t⟩:=this;refine⟨o,g,l',?_,by simpa [List.replicate_eq_nil_iff] using t⟩;unfold n5;simp only[fA];rw[aj ⟨F,F,by have:=dL (cn by_ (Nat.le_add_left n es.length)) p;exact this⟩,w9];exact h1
theorem OM {l:ae} {z by_ n:Nat} {v u:U} {xs:ag} {pre rest:ae} {l' : ae} (p:v=.af\/∃ j n cap sz,v=.ad z j 0 n cap sz/\pre.length<=j) (h:ht (pre++rest) z by_ v xs n=some (u,l')) :
  ∃ Wy,l'=pre++Wy:=by
 unfold ht at h;by_cases o:n=0
 ·rw[aj o] at h;rcases p with rfl | ⟨j,t,cap,sz,rfl,g⟩<;>(cases h;exact⟨_,rfl⟩)
 rw[ak o] at h;by_cases m:z=0\/by_=0
 ·rw[aj m] at h;cases h
 rw[ak m] at h;rcases p with rfl | ⟨j,t,cap,sz,rfl,g⟩
 ·simp only at h;split at h
  ·cases h;exact⟨_,by rw[gM]⟩
  ·cases h
 ·simp only at h;split at h
  ·split at h
   ·split at h
    ·cases h;exact⟨_,by rw[o0 _ _ g]⟩
    ·split at h
     ·cases h;exact⟨_,by rw[gM]⟩
     ·split at h
      ·cases h;exact⟨_,by rw[o0 _ _ g]⟩
      ·rename_i q;exact bP trivial q
   ·cases h
  ·cases h
theorem rN {z by_:Nat} {v:U} {j:Nat} {es:List (ag)} {pre rest:ae} (h:aM z (pre++rest) v j es) (t:v=.af\/pre.length<=j) {x:U} {xs:List (ag)} (C:cG (pre++rest) z x=some (xs.flatten,xs.length)) (O:∀ e∈xs,e.length=z) (F:z≠0) (H:by_≠0)
  (J:(es.length+xs.length)*by_<=dk) :
  ∃ m o p,eE (pre++rest) z by_ v x=some (m,pre++p)/\aM z (pre++p) m o (es++xs)/\(m=.af\/pre.length<=o)/\bt m=(bt v&&xs.isEmpty):=by
 have I:v=.af\/∃ j n cap u,v=.ad z j 0 n cap u/\pre.length<=j:=by
  cases h with
  | nil j=>exact .inl rfl
  | ad j n cap u cs es=>exact .inr ⟨j,n,cap,u,rfl,t.resolve_left V⟩
 obtain⟨m,o,l',h1,q,P,Q,G,w⟩:=lM h C O F H J;have g:=h1;unfold eE at g;rw[C] at g;obtain⟨p,rfl⟩:=OM (l:=[]) I g;refine⟨m,o,p,h1,q,?_,qL w⟩;rcases G with h | h
 ·rcases t with B | t
  ·by_cases D:xs=[]
   ·exact .inl (w.2 ⟨B,D⟩)
   ·right;subst B;have K:xs.length≠0:=fun e=>D (ic.1 e)
    simp only at g;unfold ht at g;rw[ak K] at g;split at g
    ·cases g
    ·simp only at g;split at g
     ·obtain⟨rfl,_⟩:=vj (cg g);generalize es++xs=E at q;cases q;simp
     ·cases g
  ·right;omega
 ·right;rw[cr] at h;omega
theorem aM.view (h:aM z l v j es) (F:bt v=false) :∃ n cap sz cs,v=.ad z j 0 n cap sz/\l[j]?=some (.cells sz cs)/\cs.length=sz/\es.length=n/\n*z<=sz/\(∀ i e,es[i]?=some e->∀ m,m<z->cs[i*z+m]?=e[m]?)/\cs.take (n*z)=es.flatten:=by
 cases h with
 | nil j=>simp[bt] at F
 | ad j n cap sz cs es q B p G t u g=>
  refine⟨n,cap,sz,cs,rfl,q,B,p,dL (cn _ t) u,fun i e o m D=>?_,g⟩;have w:i<es.length:=(aK.1 o).1;have C:i*z+m<n*z:=by
   have:i*z+z<=es.length*z:=by rw[<-eu];exact cn _ w
   rw[p] at this;omega
  have h1:=lT G o D;rw[<-h1,<-g,dU C]
theorem aM.DK {alZ:Type} {enc:alZ->ag} {xs:List alZ} (h:aM z l v j (xs.map enc)) (m:∀ x,ky (enc x)=true) (s:bL alZ) (o:bt v=s.isNone) (p:s.l=xs) :jk l v (b4 z enc s):=by
 have h1:=h.KJ (fun e g=>by obtain⟨x,_,rfl⟩:=cy.1 g;exact m x);subst p;unfold pU at h1;rw[o] at h1;cases s with
 | none=>exact h1
 | some s=>exact h1
theorem aM.l8 {alZ:Type} {enc:alZ->ag} {xs:List alZ} (h:aM z l v j (xs.map enc)) (m:∀ x,aq (enc x)=true) (s:bL alZ) (o:bt v=s.isNone) (p:s.l=xs) :fw (aX l) v (b4 z enc s):=by
 have h1:=h.mV (fun e g=>by obtain⟨x,_,rfl⟩:=cy.1 g;exact m x);subst p;unfold pU at h1;rw[o] at h1;cases s with
 | none=>exact h1
 | some s=>exact h1
end
inductive gU (z:Nat) (l:ae) :U->Nat->List (ag)->Prop
 | nil (g:Nat) :gU z l .af g []
 | ad (g m n cap j:Nat) (cs:ag) (h:List (ag)) (o:l[g]?=some (.cells j cs)) (u:cs.length=j) (v:h.length=n) (w:∀ e∈h,e.length=z) (p:n<=cap) (q:m+cap*z<=j)
   (t:(cs.drop m).take (n*z)=h.flatten) :gU z l (.ad z g m n cap j) g h
section
variable {z:Nat} {l l' : ae} {v:U} {j:Nat} {es:List (ag)}
theorem aM.q (h:aM z l v j es) :gU z l v j es:=by
 cases h with
 | nil j=>exact .nil j
 | ad j n cap w cs es g p t u m B o=>exact .ad j 0 n cap w cs es g p t u m F (by simpa using o)
theorem gU.len (h:gU z l v j es) :bx (.ad z) v=some (.int .i64 es.length):=by
 cases h with
 | nil j=>rfl
 | ad j p n cap q cs es m o g=>subst g;rfl
theorem gU.pJ (h:gU z l .af j es) :es=[]:=by
 generalize g:U.af=w at h;cases h with
 | nil j=>rfl
 | ad=>cases g
theorem gU.from (h:gU z l v j es) (I:bt v=false) {k:cV} {i:Nat} (O:i<=es.length) :∃ m,dK (.ad z) v (some (.int k (i:Int))) none none=some m/\gU z l m j (es.drop i)/\bt m=false:=by
 cases h with
 | nil j=>simp[bt] at I
 | ad j S n cap u cs es o q H t B K C=>
  subst H;have Q:i*z+(cap - i)*z=cap*z:=by rw[<-eV];congr 1;omega
  have R:i*z+(es.length - i)*z=es.length*z:=by rw[<-eV];congr 1;omega
  have P:es.length*z<=cap*z:=cn _ B;have J:∀ e∈es.drop i,e.length=z:=fun e g=>t e (tf g)
  have G:(es.drop i).flatten=(es.flatten).drop (i*z):=by
   have h1:es.flatten=(es.take i).flatten++(es.drop i).flatten:=by rw[<-jL,iV]
   have w:(es.take i).flatten.length=i*z:=by
    rw[hO (z:=z) (fun e g=>t e (gh g)),cO];congr 1;omega
   rw[h1,<-w,Fb]
  rw[sL,Gn,aj ⟨F,F⟩];simp only[fA,cz,bd,exists_eq_left'];by_cases p:cap=i
  ·rw[aj p];have D:es.drop i=[]:=qc F;refine⟨?_,rfl⟩;rw[D];exact .ad j _ 0 0 u cs [] o q rfl V (aI _) F V
  ·rw[ak p];refine⟨.ad j _ _ _ u cs _ o q V J F F ?_,rfl⟩;rw[G,<-C,rv,vd];congr 1;omega
theorem gU.get (h:gU z l v j es) {k:cV} {i:Nat} {e:ag} (g:es[i]?=some e) :∃ p cs o,bO (.ad z) v (.int k (i:Int))=some p/\fV l p=some (cs,o)/\o+z<=cs.length/\(cs.drop o).take z=e:=by
 cases h with
 | nil j=>simp at g
 | ad j t n cap H cs es u O D q w J B=>
  subst D;have C:=(aK.1 g).1;have h1:i*z+z<=es.length*z:=by rw[<-eu];exact cn _ C
  have I:es.length*z<=cap*z:=cn _ w;refine⟨.ptr j (t+i*z) H,cs,t+i*z,?_,?_,F,?_⟩
  ·simp only[bO,fA];rw[aj ⟨trivial,F,F⟩]
  ·simp only[fV,u,if_true]
  ·have K:=q e (cE g);apply g5;intro G;by_cases m:G<z
   ·rw[dU m,gB,<-lT q g m,<-B,dU F,gB];congr 1;omega
   ·rw[ea (by simp;omega),ea F]
theorem gU.KJ (h:gU z l v j es) (B:∀ e∈es,ky e=true) :jk l v (pU z v es):=by
 cases h with
 | nil j=>exact .flat _ rfl
 | ad j q n cap H cs es t D p m u I w=>
  show jk l _ (.bn z es);have K:q+n*z<=cs.length:=by rw[D];have:=cn z u;omega
  refine .ad z j q n cap H cs es t p m F (fun i k e c c' g hk o=>?_);have C:i<es.length:=(aK.1 g).1;have J:k<z:=by rw[<-m e (cE g)];exact (aK.1 hk).1
  have G:i*z+k<n*z:=by
   have:i*z+z<=es.length*z:=by rw[<-eu];exact cn _ C
   rw[p] at this;omega
  have h1:es.flatten[i*z+k]?=some c':=tX es m i k e c' g hk;rw[<-w,dU G,gB] at h1;rw[h1] at o;cases o;exact .flat _ (yE (B e (cE g)) k _ hk)
theorem gU.mV (h:gU z l v j es) (B:∀ e∈es,aq e=true) :fw (aX l) v (pU z v es):=by
 cases h with
 | nil j=>exact .same _ rfl
 | ad j q n cap H cs es t D p m u I w=>
  show fw (aX l) _ (.bn z es);have K:q+n*z<=cs.length:=by rw[D];have:=cn z u;omega
  refine .ad z j q n cap H cs es (hI.2 t) p m F (fun i k e c c' g hk o=>?_);have C:i<es.length:=(aK.1 g).1;have J:k<z:=by rw[<-m e (cE g)];exact (aK.1 hk).1
  have G:i*z+k<n*z:=by
   have:i*z+z<=es.length*z:=by rw[<-eu];exact cn _ C
   rw[p] at this;omega
  have h1:es.flatten[i*z+k]?=some c':=tX es m i k e c' g hk;rw[<-w,dU G,gB] at h1;rw[h1] at o;cases o;exact .same _ (rS (B e (cE g)) k _ hk)
theorem gU.rd (h:gU z l v j es) (B:∀ e∈es,aq e=true) :Rd l v (pU z v es):=by
 cases h with
 | nil j=>exact .same _ rfl
 | ad j q n cap H cs es t D p m u I w=>
  show Rd l _ (.bn z es);have K:q+n*z<=cs.length:=by rw[D];have:=cn z u;omega
  refine .ad z j q n cap H cs es t p m F (fun i k e c c' g hk o=>?_);have C:i<es.length:=(aK.1 g).1;have J:k<z:=by rw[<-m e (cE g)];exact (aK.1 hk).1
  have G:i*z+k<n*z:=by
   have:i*z+z<=es.length*z:=by rw[<-eu];exact cn _ C
   rw[p] at this;omega
  have h1:es.flatten[i*z+k]?=some c':=tX es m i k e c' g hk;rw[<-w,dU G,gB] at h1;rw[h1] at o;cases o;exact .same _ (rS (B e (cE g)) k _ hk)
theorem gU.jA {alZ:Type} {enc:alZ->ag} {xs:List alZ} (h:gU z l v j (xs.map enc)) (m:∀ x,aq (enc x)=true) (s:bL alZ) (o:bt v=s.isNone) (p:s.l=xs) :Rd l v (b4 z enc s):=by
 have h1:=h.rd (fun e g=>by obtain⟨x,_,rfl⟩:=cy.1 g;exact m x);subst p;unfold pU at h1;rw[o] at h1;cases s with
 | none=>exact h1
 | some s=>exact h1
theorem gU.l8 {alZ:Type} {enc:alZ->ag} {xs:List alZ} (h:gU z l v j (xs.map enc)) (m:∀ x,aq (enc x)=true) (s:bL alZ) (o:bt v=s.isNone) (p:s.l=xs) :fw (aX l) v (b4 z enc s):=by
 have h1:=h.mV (fun e g=>by obtain⟨x,_,rfl⟩:=cy.1 g;exact m x);subst p;unfold pU at h1;rw[o] at h1;cases s with
 | none=>exact h1
 | some s=>exact h1
end
theorem OZ {P:bj} {t:aC} {xs g:ag} {r:Bool} (j:P.eqGuardType P.depth t=false) (h:dJ P 10000 t (.ah xs) (.ah g)=some r) :eb P .eql t (.ah xs) (.ah g)=some (.bool r):=by simp only[eb,rZ,j,s9,if_true,h];rfl
theorem O0 {P:bj} {t:aC} {xs g:ag} {r:Bool} (j:P.eqGuardType P.depth t=false) (h:dJ P 10000 t (.ah xs) (.ah g)=some r) :eb P .neq t (.ah xs) (.ah g)=some (.bool (!r)):=by simp only[eb,rZ,j,s9,if_true,h];rfl
end Go.bh
namespace Go.bh
open Go Go.ChangeShapes Go.RowKit
theorem UV (k:Nat) :¬ Own aH.empty (fun _=>none) k:=by rintro⟨b,h,g,_,_⟩;simp[aH.empty,aH.f,live,cu.get] at g
theorem RJ {q:Type} {enc:aC × aA->q} {P:bj} {w:aQ} {base:Nat} {spare:Nat->Bool} {held:Bool} {fuel:Nat} {ao:String} {g t e n:Nat} {cs:Array aA} {x:DataW q × List MemPlace} (b3:List Int)
  (K:P.globalNamed ao=some g) (S:w.var? P ao=some cs) (R:P.underlying t=some (.array n e)) (I:P.underlying e=some (.int .u32)) (D:P.cellsOf e=1) (H:DataW.trod enc P w base spare held fuel t cs.toList=some x)
  (m:x.1=.agg (b3.map fun k=>.lit (.int .u32 k))) :dd w (fun _=>True) (.b0 (b3.map fun k=>.int .u32 k) 0) (.pointer (some ⟨g,0,none⟩)):=by
 obtain⟨U,Y,rfl,T,W,X,J⟩:=DataW.trod_array R H;rw[T] at m;simp only[DataW.agg.injEq] at m;have V:b3.length=n:=by have:=ch List.length m;simp at this;omega
 have G:∀ h k,b3[h]?=some k->w.cell? ⟨g,h,none⟩=some (.int .u32 k):=by
  intro h k j;have O:h<n:=by have:=(aK.1 j).1;omega
  have h1:=J h O;rw[D,nX] at h1;have v:h<U.length:=F;rw[bI v] at h1;obtain⟨p,z,B,_⟩:=DataW.trod_int I h1;have o:=ch (fun l=>l[h]?) m;simp only[bW,bI v,j,cz,bd] at o;rw[B] at o;have Q:p=k:=by simpa using o
  subst Q;have C:=World.var?_cell K S h;rw[C];have u:(cs.toList.drop h)[0]?=some (Value.int .u32 p):=by
   have:((cs.toList.drop h).take 1)[0]?=some (Value.int .u32 p):=by rw[z];rfl
   rw[List.getElem?_take] at this;simpa using this
  rw[gB] at u;simpa using u
 refine .b0 _ 0 g 0 (fun h=>.int .u32 (b3.getD h 0)) (fun h j=>?_) (fun h c j=>?_)
 ·rw[cx] at j;refine⟨?_,rfl,trivial,UV g⟩;rw[hr,G h b3[h] (bI j),gA,bI j];rfl
 ·rw[bW] at j;cases hk:b3[h]? with
  | none=>rw[hk] at j;cases j
  | some k=>
   rw[hk] at j;cases j;rw[gA,hk];exact .int _ _
theorem Mp {j:Type} {enc:aC × aA->j} {P:bj} {w:aQ} {base:Nat} {spare:Nat->Bool} {held:Bool}:∀ {ts:List aC} {vs:List aA} {g:List (DataW j)} {ps:List MemPlace},
  DataW.TrodAll enc P w base spare held ts vs g ps->g.length=ts.length
 | [],vs,g,ps,h=>by obtain⟨rfl,rfl,rfl⟩:=trodAll_nil h;rfl
 | t::ts,vs,g,ps,h=>by
  obtain⟨p,q,d,o,a,b,rfl,rfl,rfl,h1,m⟩:=trodAll_cons h;simp[Mp m]
end Go.bh
namespace Go.bh
open Go
def da (l:List Nat) :ag:=l.map fun n=>.int .u8 (.ofNat n)
def oA (n:Int) :U:=.int .i64 n
def fT (l:ag) :List (ag):=l.map fun c=>[c]
end Go.bh
namespace Go.bh
open Go Go.Proofs Go.Shelf Go.Sort Go.RowKit
def uE:U->Bool | .bool _=>true | .int _ _=>true | .str _=>true | _=>false
def valOf:U->aA | .bool b=>.bool b | .int k n=>.int k n | .str s=>.string ⟨s.toArray⟩ | _=>.bool false
theorem Y2 {w:aQ} {R:Nat->Prop} {h:aH} {muZ:bZ} {c:U} {v:aA} (g:uE c=true) (m:az w R h muZ c v) :v=valOf c:=by
 cases m with
 | bool b=>rfl
 | int k n=>rfl
 | str j=>obtain⟨⟨l⟩⟩:=j;rfl
 | bad=>cases g
 | _=>cases g
theorem J1 {w:aQ} {R:Nat->Prop} {h:aH} {muZ:bZ} {c:U} (g:uE c=true) :az w R h muZ c (valOf c):=by
 cases c with
 | bool b=>exact .bool b
 | int k n=>exact .int k n
 | str s=>exact (.str ⟨s.toArray⟩:az w R h muZ (.str (ByteArray.mk s.toArray).data.toList) _)
 | _=>cases g
theorem EW (c:U) :(valOf c).oneCell'=true:=by cases c<;>rfl
theorem Pz {w W:aQ} {b o:Nat} (h:W.heap[b]?=w.heap[b]?) :W.cell? ⟨b,o,none⟩=w.cell? ⟨b,o,none⟩:=by simp[World.cell?,h]
theorem PA {w:aQ} {b o:Nat} {v:aA} (h:w.cell? ⟨b,o,none⟩=some v) :b<w.heap.size:=by apply Decidable.byContradiction;intro g;simp only[World.cell?] at h;rw[p7 F] at h;cases h
theorem Y1 {w W:aQ} {A:Nat->Prop} (V:∀ k,A k->k<w.heap.size->W.heap[k]?=w.heap[k]?) {c:U} {v:aA} (j:dd w A c v) :dd W A c v:=by
 unfold dd at j ⊢;generalize ak:aH.empty=P at j ⊢;generalize u:(fun _=>none:bZ)=Q at j ⊢;have O:∀ {b z:Nat} {v:aA},Cell w A P Q b z v->Cell W A P Q b z v:=fun {b z v} k=>⟨(Pz (V b k.ro (PA k.here))).trans k.here,k.one,k.ro,k.free⟩
 induction j with
 | bool b=>exact .bool b
 | int k n=>exact .int k n
 | str R=>exact .str R
 | iu=>exact .iu
 | af=>exact .af
 | g0=>exact .g0
 | h6=>exact .h6
 | hS=>exact .hS
 | ah cs J p h1 j m=>exact .ah cs J p h1 m
 | a1 cs J p j m=>exact .a1 cs J p m
 | ptr b g t cs C B h=>subst u;cases h
 | jb b g t a F=>exact .jb b g t a F
 | b0 cs g D z I o j m=>exact .b0 cs g D z I (fun H G=>O (o H G)) m
 | ad q b g len cap t K cs C B h p al o=>subst u;cases h
 | fk q b g len cap t K a p o F=>exact .fk q b g len cap t K a p o F
 | gw q b g t a cs C B h=>subst u;cases h
 | bn q S D g cap I p Z o j m=>exact .bn q S D g cap I p Z (fun i H Y G=>O (o i H Y G)) m
 | eN q a cap=>exact .eN q a cap
 | fn f first e7 T cs X o h1 aj ae ag=>exact .fn f first e7 T cs X o ae ag
 | mp b C B h=>subst u;cases h
 | it b C B h=>subst u;cases h
 | gc ai c v j m=>exact .gc ai c v m
 | e0 l=>exact .e0 l
 | bad v=>exact .bad v
theorem O5 {W w' : aQ} (h:eD W w') :∃ q os,w'=grow (W.drewN q) os:=by
 refine⟨w'.drawn - W.drawn,w'.heap.extract W.heap.size,?_⟩;have v:=h.drawn;have w:=h.size;obtain⟨g,C,BU,z,B⟩:=w';obtain⟨heap,tape,j,os,out⟩:=W;have m:z=os:=h.os;have o:C=tape:=h.tape;have p:B=out:=h.output;subst m o p;have t:g=heap++g.extract heap.size:=by
  apply Array.ext_getElem?;intro k;rw[Array.getElem?_append];split
  ·rename_i hk;exact h.block k hk
  ·rename_i hk;rw[Array.getElem?_extract];have G:heap.size<=g.size:=w;by_cases D:k<g.size
   ·rw[aj F,show heap.size+(k - heap.size)=k by omega]
   ·rw[ak F,p7 F]
 have u:BU=j+(BU - j):=by
  have:j<=BU:=v;omega
 unfold grow World.drewN;simp only;rw[<-t,<-u]
end Go.bh
